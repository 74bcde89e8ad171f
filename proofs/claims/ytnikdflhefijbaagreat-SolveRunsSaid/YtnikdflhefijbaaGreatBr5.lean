import Derived.WalkMore
import Derived.Test.YtnikdflhefijbaaGreatBr4
import Derived.Test.YtnikdflhefijbaaGreatBr1
import Derived.Test.YtnikdflhefijbaaGreatRows
namespace Go.Proofs.YtnikdflhefijbaaGreat
open Go.RowKit
section
variable {P:Program} {TT:TypeId→Option TI}
def BV(n:Nat)(o:Oper):Bool:=(match o.dst with | some d=>Nat.blt d n | none=>true)&&(match o.op with | .defer _=>false | _=>true)
def codeOk(n:Nat):Bool→Code→Bool
 |_,.region _ ops _=>ops.toList.all (BV n)
 |rd,.seq a b=>codeOk n rd a&&codeOk n rd b
 |rd,.cond _ a b=>codeOk n rd a&&codeOk n rd b
 |rd,.block _ c=>codeOk n rd c
 |rd,.loop c=>codeOk n rd c
 |rd,.scope c=> !rd&&codeOk n false c
 |rd,.rangeFunc _ ps a b=> !rd&&ps.toList.all (fun p=>Nat.blt p n)&&codeOk n true a&&codeOk n true b
 |_,_=>true
theorem X6{n:Nat}{rd:Bool}:∀(c:Code) (l:Nat) (r:Code),findLabel c l=some r→codeOk n rd c=true→codeOk n rd r=true:=by
 intro c
 induction c with
 |seq a b iha KT=>
  intro l r h hc
  simp only[codeOk,b9]at hc
  simp only[findLabel]at h
  split at h
  ·rename_i rest hr
   cases h
   simp only[codeOk,b9]
   exact⟨iha l _ hr hc.1,hc.2⟩
  ·exact KT l r h hc.2
 |label l'=>
  intro l r h _
  simp only[findLabel]at h
  split at h
  ·cases h;rfl
  ·cases h
 |_=>intro l r h;simp[findLabel]at h
theorem abH{n:Nat}{ops:List Oper}(h:ops.all (BV n)=true):∀o∈ops,∀d,o.dst=some d→d<n:=fun o ho d hd=>by
 have:=fN.1 h o ho
 unfold BV at this
 rw[hd,b9]at this
 exact cp this.1
theorem acA{n:Nat}{ops:List Oper}(h:ops.all (BV n)=true):∀o∈ops,∀c,o.op≠.defer c:=fun o ho c hc=>by
 have:=fN.1 h o ho
 unfold BV at this
 rw[hc,b9]at this
 cases this.2
theorem Tw{F:Fence}{n:Nat}{c:Code}{Q:Exit→Act→World→Prop}{a:Act}{w:World}(J:Nat→Act→World→Prop)(m:Nat)(adF:J m a w)
  (round:∀m a w,J m a w→c.wpIn F n P (Exit.then (fun a' w'=>∃m',m'<m∧J m' a' w') Q) a w):(Code.loop c).wpIn F n P Q a w:=by
 intro b k cs mD hb hr
 have key:∀n a w,J n a w→∃e a' w',Q e a' w'∧ArrivesIn (Machine.fenced P F) P (lone (b.atR a (.code c::.inLoop c::k)) cs w) b k cs e a' w':=by
  intro n
  induction n using Nat.strongRecOn with
  |_ n ih=>
   intro a w hI
   obtain⟨e,rH,rq,hq,pJ⟩:=round n a w hI b (.inLoop c::k) cs mD hb hr
   cases e with
   |normal=>
    obtain⟨m',ab,acP⟩:=hq
    obtain⟨aeq,zI,zx,vM,yX⟩:=ih m' ab rH rq acP
    exact⟨aeq,zI,zx,vM,.of_steps (StepsIn.trans pJ (.one (fenced_calm hb hr rfl) stepR_inLoop)) yX⟩
   |exit id=>exact⟨_,rH,rq,hq,.pass (x:=.inLoop c) rfl (fun _ _=>.inl (by simp)) pJ⟩
   |goto l=>exact⟨_,rH,rq,hq,.pass (x:=.inLoop c) rfl (fun _ _=>.inl (by simp)) pJ⟩
   |ret=>exact⟨_,rH,rq,hq,.pass (x:=.inLoop c) rfl (fun _ _=>.inl (by simp)) pJ⟩
   |panic ch=>exact⟨_,rH,rq,hq,.pass (x:=.inLoop c) rfl (fun _ _=>.inl (by simp)) pJ⟩
   |outgrown=>exact⟨_,rH,rq,hq,.pass (x:=.inLoop c) rfl (fun _ _=>.inl (by simp)) pJ⟩
 obtain⟨e,a',w',hq,pJ⟩:=key m a w adF
 exact⟨e,a',w',hq,.of_steps (.one (fenced_calm hb hr rfl) stepR_loop) pJ⟩
def Ex.up:Ex→Exit
 |.normal=>.normal
 |.exit id=>.exit id
 |.goto l=>.goto l
 |.ret=>.ret
inductive zw(P:Program)(c:Code)(Q:Exit→Act→World→Prop):Exit→Act→World→Prop where
 |normal {a:Act} {w:World} (h:Q .normal a w):zw P c Q .normal a w
 |exit {id:Nat} {a:Act} {w:World} (h:Q (.exit id) a w):zw P c Q (.exit id) a w
 |ret {a:Act} {w:World} (h:Q .ret a w):zw P c Q .ret a w
 |goto {l:Nat} {a:Act} {w:World} (n:Nat) (J:Nat→Nat→Act→World→Prop) (h:J n l a w) (hr:∀n l a w,J n l a w→∃r,findLabel c l=some r∧r.wp P (fun e a' w'=>match e with | .goto l'=>∃n',n'<n∧J n' l' a' w' | .panic _=>False | .outgrown=>False | e=>Q e a' w') a w):zw P c Q (.goto l) a w
theorem TL{c:Code}{Q:Exit→Act→World→Prop}{a:Act}{w:World}(h:c.wp P (zw P c Q) a w):(Code.scope c).wp P Q a w:=by
 intro b k cs
 obtain⟨e,rH,rq,hq,pJ⟩:=h b (.inScope c::k) cs
 have top:Steps P (lone (b.at a (.code (.scope c)::k)) cs w) (lone (b.at a (.code c::.inScope c::k)) cs w):=.one step_scope
 cases hq with
 |normal h=>exact⟨.normal,rH,rq,h,.of_steps top (Steps.trans pJ (.one step_inScope))⟩
 |exit h=>exact⟨.exit _,rH,rq,h,.of_steps top (fun k' hk=>pJ k' (by simp[exitTo,hk]))⟩
 |ret h=>exact⟨_,rH,rq,h,.of_steps top pJ⟩
 | @goto l _ _ n J hJ hr=>
  have key:∀(n l:Nat) (a:Act) (w:World),J n l a w→∃rest,findLabel c l=some rest∧∃e a' w',Q e a' w'∧Arrives P (lone (b.at a (.code rest::.inScope c::k)) cs w) b k cs e a' w':=by
   intro n
   induction n using Nat.strongRecOn with
   |_ n ih=>
    intro l a w hI
    obtain⟨r,hl,hwp⟩:=hr n l a w hI
    refine⟨r,hl,?_⟩
    obtain⟨e,zI,zx,vM,yX⟩:=hwp b (.inScope c::k) cs
    cases e with
    |normal=>exact⟨.normal,zI,zx,vM,Steps.trans yX (.one step_inScope)⟩
    |exit id=>exact⟨.exit id,zI,zx,vM,fun k' hk=>yX k' (by simp[exitTo,hk])⟩
    |goto l'=>
     obtain⟨n',ab,hJ'⟩:=vM
     obtain⟨rest,hf,Kp,Kw,JV,JF,IP⟩:=ih n' ab l' zI zx hJ'
     have hg:gotoIn l' (.inScope c::k)=some (.code rest::.inScope c::k):=by simp[gotoIn,hf]
     exact⟨Kp,Kw,JV,JF,.of_steps (yX _ hg) IP⟩
    |ret=>exact⟨_,zI,zx,vM,yX⟩
    |panic ch=>exact vM.elim
    |outgrown=>exact vM.elim
  obtain⟨rest,hf,Kp,Kw,JV,JF,IP⟩:=key n l rH rq hJ
  have hg:gotoIn l (.inScope c::k)=some (.code rest::.inScope c::k):=by simp[gotoIn,hf]
  exact⟨Kp,Kw,JV,JF,.of_steps top (.of_steps (pJ _ hg) IP)⟩
theorem dw.cH{B n:Nat}{F:Nat→Prop}{w:World}{t t':Tm}{σ:Hp}{a:Act}(hs:dw B n F w t σ a){j b off len es:Nat}{cs:List AV}{e:Sh}{l:List e.T}(h1:σ[j]?=some (b,cs))(h2:(cs.drop off).take (len*es)=l.flatMap e.cells)(h3:l.length=len∧e.size=es∧0<es)(h4:∀i,eI b off len es e l (t i) (t' i)):
  ∃F',bL F w F' w∧dw B n F' w t' (σ.eraseIdx j) a:=by
 obtain⟨ao,mA,hh⟩:=su hs.hp h1 h2 h3
 exact⟨_,ao,fun i=>w8 ao hh (h4 i) _ (hs.tm i),mA,hs.size,hs.defers.mono ao⟩
theorem dw.wrap{B n:Nat}{F:Nat→Prop}{w:World}{t:Tm}{σ:Hp}{a:Act}(hs:dw B n F w t σ a){k:Nat}{v:AV}(h1:t k=v)(h2:v.leaf=true):dw B n F w (mC t [(k,.via v)]) σ a:=
 ⟨fun i=>by
  show aF F w (match Nat.beq i k with | true=>.via v | false=>t i) _
  cases hb:Nat.beq i k with
  |true=>rw[jF hb];exact .via _ _ h2 (h1▸hs.tm k)
  |false=>exact hs.tm i,hs.hp,hs.size,hs.defers⟩
theorem Vu(ok:dH P TT)(hm:P.follows .mixedOrders=true){r:Option Nat}{B n:Nat}{ops:Array Oper}{K:Tm→Hp→Prop}{Q:Exit→Act→World→Prop}{t:Tm}{σ:Hp}(hd:∀o∈ops.toList,∀d,o.dst=some d→d<n)(ck:∀o∈ops.toList,∀c,o.op≠.defer c)(h:fX P TT ops.toList K t σ):∀{F:Nat→Prop} {w:World} {a:Act} {id:Nat},dw B n F w t σ a→
  (∀t' σ' F' w' a',bL F w F' w'→dw B n F' w' t' σ' a'→K t' σ'→Q .normal a' w')→(Code.region id ops true).wpIn (FW r) 0 P Q a w:=by
 induction h with
 |quiet h0 h=>exact fun hs hq=>Uk ok hm h0 h hd ck hs (fun t' F' w' a' h1 h2 h3=>hq t' _ F' w' a' h1 h2 h3)
 |each h0 h=>exact fun hs hq=>NA ok hm h0 h hd ck hs (fun t' σ' F' w' a' h1 h2 h3=>hq t' σ' F' w' a' h1 h2 h3)
 |sched Q0 s h0 h=>exact fun hs hq=>MO ok hm h0 h hd ck hs (fun t' σ' F' w' a' h1 h2 h3=>hq t' σ' F' w' a' h1 h2 h3)
 |meet L H h0 h go=>
  intro F w a id hs hq
  refine NA ok hm h0 h hd ck hs (fun t' σ' F' w' a' h1 h2 h3=>?_)
  obtain⟨s,k1,k2⟩:=h3
  refine hq t' (H s) F' w' a' h1 (h2.dL k2) ?_
  rw[yI k1]
  exact go s t'
 |BK Q0 s0 L H h0 h go=>
  intro F w a id hs hq
  refine MO ok hm h0 h hd ck hs (fun t' σ' F' w' a' h1 h2 h3=>?_)
  obtain⟨s,k1,k2⟩:=h3
  refine hq t' (H s) F' w' a' h1 (h2.dL k2) ?_
  rw[yI k1]
  exact go s t'
 |cH j b off len es cs e l h1 h2 h3 h4 h ih=>
  intro F w a id hs hq
  obtain⟨F1,k1,k2⟩:=hs.cH h1 h2 h3 h4
  exact ih k2 (fun t' σ' F' w' a' q1 q2 q3=>hq t' σ' F' w' a' (k1.trans q1) q2 q3)
 |dL h1 h ih=>
  intro F w a id hs hq
  exact ih (hs.dL h1) hq
theorem dw.kj{B n:Nat}{F:Nat→Prop}{w:World}{t:Tm}{σ:Hp}{a:Act}(hs:dw B n F w t σ a){j b off len es:Nat}{cs:List AV}{e:Sh}{l:List e.T}(h1:σ[j]?=some (b,cs))(h2:(cs.drop off).take (len*es)=l.flatMap e.cells)(h3:l.length=len∧e.size=es∧0<es){i k b':Nat}{cs':List AV}(hi:(σ.eraseIdx j)[i]?=some (b',cs'))(hk:cs'[k]?=some (.ah b off len es)):
  ∃F',bL F w F' w∧dw B n F' w t ((σ.eraseIdx j).set i (b',cs'.set k (.af e l))) a:=by
 obtain⟨ao,mA,hh⟩:=su hs.hp h1 h2 h3
 exact⟨_,ao,fun i=>(hs.tm i).mono ao,yM mA hh hi hk,hs.size,hs.defers.mono ao⟩
theorem dw.nil{B n:Nat}{F:Nat→Prop}{w:World}{t t':Tm}{σ:Hp}{a:Act}(hs:dw B n F w t σ a)(h4:∀i,eI 0 0 0 0 .bool [] (t i) (t' i)):dw B n F w t' σ a:=
 ⟨fun i=>w8 (.refl _ _) (fun v hv=>by
  obtain⟨a,cap,rfl,c,T,fz,m1,m2,m3,m4⟩:=hv.lh
  exact .af _ _ _ ⟨some a,cap,rfl,m2,m3,(fun e=>by cases e),fun bc=>absurd rfl bc⟩) (h4 i) _ (hs.tm i),hs.hp,hs.size,hs.defers⟩
theorem Wo{B n:Nat}{S:Type}{L:S→List (Nat×AV)}{H:S→Hp}{p:S→Prop}{μ:S→Nat}{s:S}{t':Tm}{σ':Hp}(h:oP L H p μ s t' σ'):∀{F:Nat→Prop} {w:World} {a:Act},dw B n F w t' σ' a→
  ∃F' t2 s',bL F w F' w∧dw B n F' w t2 (H s') a∧μ s'<μ s∧p s'∧agree t2 (L s'):=by
 induction h with
 |mk s' h1 h2 h3 h4=>exact fun hs=>⟨_,_,s',.refl _ _,hs.dL h4,h1,h2,h3⟩
 |cH j b off len es cs e l h1 h2 h3 h4 h ih=>
  intro F w a hs
  obtain⟨F1,k1,k2⟩:=hs.cH h1 h2 h3 h4
  obtain⟨F2,t2,s',q1,q2,q3⟩:=ih k2
  exact⟨F2,t2,s',k1.trans q1,q2,q3⟩
 |kj j b off len es cs e l h1 h2 h3 i k b' cs' hi hk h ih=>
  intro F w a hs
  obtain⟨F1,k1,k2⟩:=hs.kj h1 h2 h3 hi hk
  obtain⟨F2,t2,s',q1,q2,q3⟩:=ih k2
  exact⟨F2,t2,s',k1.trans q1,q2,q3⟩
 |dL h1 h ih=>exact fun hs=>ih (hs.dL h1)
 |nil h4 h ih=>exact fun hs=>ih (hs.nil h4)
theorem Wp{B n:Nat}{S:Type}{ga:S→Nat}{L:S→List (Nat×AV)}{H:S→Hp}{p:S→Prop}{μ:S→Nat}{s:S}{l:Nat}{t':Tm}{σ':Hp}(h:qB ga L H p μ s l t' σ'):∀{F:Nat→Prop} {w:World} {a:Act},dw B n F w t' σ' a→
  ∃F' t2 s',bL F w F' w∧dw B n F' w t2 (H s') a∧l=ga s'∧μ s'<μ s∧p s'∧agree t2 (L s'):=by
 induction h with
 |mk s' h0 h1 h2 h3 h4=>exact fun hs=>⟨_,_,s',.refl _ _,hs.dL h4,h0,h1,h2,h3⟩
 |cH j b off len es cs e l h1 h2 h3 h4 h ih=>
  intro F w a hs
  obtain⟨F1,k1,k2⟩:=hs.cH h1 h2 h3 h4
  obtain⟨F2,t2,s',q1,q2,q3⟩:=ih k2
  exact⟨F2,t2,s',k1.trans q1,q2,q3⟩
 |kj j b off len es cs e l h1 h2 h3 i k b' cs' hi hk h ih=>
  intro F w a hs
  obtain⟨F1,k1,k2⟩:=hs.kj h1 h2 h3 hi hk
  obtain⟨F2,t2,s',q1,q2,q3⟩:=ih k2
  exact⟨F2,t2,s',k1.trans q1,q2,q3⟩
 |dL h1 h ih=>exact fun hs=>ih (hs.dL h1)
 |nil h4 h ih=>exact fun hs=>ih (hs.nil h4)
theorem Vg{r:Option Nat}{B n:Nat}{c:Code}{body:Tm→Hp→(Ex→Tm→Hp→Prop)→Prop}(hb:∀(t:Tm) (σ:Hp) (K:Ex→Tm→Hp→Prop) (F:Nat→Prop) (w:World) (a:Act) (Q:Exit→Act→World→Prop),body t σ K→dw B n F w t σ a→
   (∀e t' σ' F' w' a',bL F w F' w'→dw B n F' w' t' σ' a'→K e t' σ'→Q e.up a' w')→c.wpIn (FW r) 0 P Q a w) {K:Ex→Tm→Hp→Prop} {t:Tm} {σ:Hp} (h:my body K t σ):∀{F:Nat→Prop} {w:World} {a:Act} {Q:Exit→Act→World→Prop},dw B n F w t σ a→
  (∀e t' σ' F' w' a',bL F w F' w'→dw B n F' w' t' σ' a'→K e t' σ'→Q e.up a' w')→(Code.loop c).wpIn (FW r) 0 P Q a w:=by
 induction h with
 | @mk t σ S L H p μ s0 h0 hr=>
  intro F w a Q hs hq
  refine Tw (fun m a' w'=>∃t' σ' F',bL F w F' w'∧dw B n F' w' t' σ' a'∧Head L H p μ m t' σ') (μ s0) ⟨t,σ,F,.refl _ _,hs,s0,t,rfl,h0.1,yI h0.2.1,h0.2.2⟩ ?_
  rintro m a1 w1 ⟨_,_,F1,s1,r1,ss,g,rfl,hp,rfl,rfl⟩
  refine hb _ _ _ F1 w1 a1 _ (hr ss g hp) r1 ?_
  intro e t' σ' F' w' a' h1 h2 h3
  cases e with
  |normal=>
   obtain⟨F2,t2,s',q1,q2,k1,k2,k3⟩:=Wo h3 h2
   exact⟨_,k1,t2,_,F2,s1.trans (h1.trans q1),q2,s',t2,rfl,k2,yI k3,rfl⟩
  |exit id=>exact hq (.exit id) t' σ' F' w' a' (s1.trans h1) h2 h3
  |goto l=>exact hq (.goto l) t' σ' F' w' a' (s1.trans h1) h2 h3
  |ret=>exact hq .ret t' σ' F' w' a' (s1.trans h1) h2 h3
 |cH j b off len es cs e l h1 h2 h3 h4 h ih=>
  intro F w a Q hs hq
  obtain⟨F1,k1,k2⟩:=hs.cH h1 h2 h3 h4
  exact ih k2 (fun e t' σ' F' w' a' q1 q2 q3=>hq e t' σ' F' w' a' (k1.trans q1) q2 q3)
 |dL h1 h ih=>
  intro F w a Q hs hq
  exact ih (hs.dL h1) hq
 |wrap k v h1 h2 h ih=>
  intro F w a Q hs hq
  exact ih (hs.wrap h1 h2) hq
 |nil h4 h ih=>
  intro F w a Q hs hq
  exact ih (hs.nil h4) hq
theorem Vo{B n:Nat}{c:Code}{R:Nat→Tm→Hp→(Ex→Tm→Hp→Prop)→Prop}(hR:∀(l:Nat) (t:Tm) (σ:Hp) (K:Ex→Tm→Hp→Prop) (F:Nat→Prop) (w:World) (a:Act) (Q:Exit→Act→World→Prop),R l t σ K→dw B n F w t σ a→
   (∀e t' σ' F' w' a',bL F w F' w'→dw B n F' w' t' σ' a'→K e t' σ'→Q e.up a' w')→∃r,findLabel c l=some r∧r.wp P Q a w) {l:Nat} {K:Ex→Tm→Hp→Prop} {t:Tm} {σ:Hp} (h:qC R l K t σ):∀{F:Nat→Prop} {w:World} {a:Act} {Q:Exit→Act→World→Prop},dw B n F w t σ a→
  (∀e t' σ' F' w' a',bL F w F' w'→dw B n F' w' t' σ' a'→K e t' σ'→(∀l,e≠.goto l)→Q e.up a' w')→zw P c Q (.goto l) a w:=by
 induction h with
 | @fwd t σ k h=>
  intro F w a Q hs hq
  refine .goto k (fun k l a' w'=>∃t' σ' F',bL F w F' w'∧dw B n F' w' t' σ' a'∧Sk R k l t' σ' K) ⟨t,σ,F,.refl _ _,hs,h⟩ ?_
  rintro k l a1 w1 ⟨t1,ie,F1,s1,r1,h⟩
  cases k with
  |zero=>exact h.elim
  |succ k=>
   refine hR l t1 ie _ F1 w1 a1 _ h r1 ?_
   intro e t' σ' F' w' a' h1 h2 h3
   cases e with
   |normal=>exact hq .normal t' σ' F' w' a' (s1.trans h1) h2 h3 (by simp)
   |exit id=>exact hq (.exit id) t' σ' F' w' a' (s1.trans h1) h2 h3 (by simp)
   |goto l=>exact⟨k,ym _,t',σ',F',s1.trans h1,h2,h3⟩
   |ret=>exact hq .ret t' σ' F' w' a' (s1.trans h1) h2 h3 (by simp)
 | @loop t σ S ga L H p μ s0 h0 hr=>
  intro F w a Q hs hq
  refine .goto (μ s0) (fun m l a' w'=>∃s g F',bL F w F' w'∧dw B n F' w' (mC g (L s)) (H s) a'∧m=μ s∧l=ga s∧p s) ⟨s0,t,F,.refl _ _,?_,rfl,h0.1,h0.2.1⟩ ?_
  ·rw[← yI h0.2.2.1];exact hs.dL h0.2.2.2
  rintro m l a1 w1 ⟨s,g,F1,s1,r1,rfl,rfl,hp⟩
  refine hR (ga s) _ _ _ F1 w1 a1 _ (hr s g hp) r1 ?_
  intro e t' σ' F' w' a' h1 h2 h3
  cases e with
  |normal=>exact hq .normal t' σ' F' w' a' (s1.trans h1) h2 h3 (by simp)
  |exit id=>exact hq (.exit id) t' σ' F' w' a' (s1.trans h1) h2 h3 (by simp)
  |goto l=>
   obtain⟨F2,t2,s',q1,q2,k0,k1,k2,k3⟩:=Wp h3 h2
   refine⟨_,k1,s',t2,F2,s1.trans (h1.trans q1),?_,rfl,k0,k2⟩
   rw[← yI k3]
   exact q2
  |ret=>exact hq .ret t' σ' F' w' a' (s1.trans h1) h2 h3 (by simp)
 |cH j b off len es cs e l h1 h2 h3 h4 h ih=>
  intro F w a Q hs hq
  obtain⟨F1,k1,k2⟩:=hs.cH h1 h2 h3 h4
  exact ih k2 (fun e t' σ' F' w' a' q1 q2 q3 q4=>hq e t' σ' F' w' a' (k1.trans q1) q2 q3 q4)
 |dL h1 h ih=>
  intro F w a Q hs hq
  exact ih (hs.dL h1) hq
 |wrap k v h1 h2 h ih=>
  intro F w a Q hs hq
  exact ih (hs.wrap h1 h2) hq
structure NC(F:Nat→Prop)(w:World)(F':Nat→Prop)(w':World):Prop where
 sub:∀b,FC F w b→F' b
 cells:∀b,nE w b→w'.heap[b]?=w.heap[b]?
theorem NC.at_{F F':Nat→Prop}{w w':World}(h:NC F w F' w'){b:Nat}(hc:nE w b):nE w' b:=by
 obtain⟨c,T,fz,e⟩:=hc
 exact⟨c,T,fz,(h.cells b ⟨c,T,fz,e⟩).trans e⟩
theorem NC.fc{F F':Nat→Prop}{w w':World}(h:NC F w F' w'){b:Nat}(hf:FC F w b):FC F' w' b:=⟨h.sub b hf,h.at_ hf.2⟩
theorem kG.nc{F F':Nat→Prop}{w w':World}(hn:NC F w F' w'):∀(s:Sh) (cs:List Value) (d:s.T),kG F w s cs d→kG F' w' s cs d:=by
 intro s
 induction s with
 |int k=>exact fun _ _ h=>h
 |bool=>exact fun _ _ h=>h
 |str=>exact fun _ _ h=>h
 |nil=>exact fun _ _ h=>h
 |slice e ih=>
  rintro cs l ⟨a,c,h1,h2,h3,h0,h4⟩
  refine⟨a,c,h1,h2,h3,h0,fun bc=>?_⟩
  obtain⟨b,o,rfl,hF,hi⟩:=h4 bc
  refine⟨b,o,rfl,hn.fc hF,fun i h=>?_⟩
  obtain⟨cs',q1,q2,q3⟩:=hi i h
  exact⟨cs',q1,q2.fix (hn.cells b hF.2),ih _ _ q3⟩
 |field f r pS jS=>
  rintro cs d ⟨c1,c2,h1,h2,h3,h4⟩
  exact⟨c1,c2,h1,h2,pS _ _ h3,jS _ _ h4⟩
theorem aF.nc{F F':Nat→Prop}{w w':World}(hn:NC F w F' w'){x:AV}{v:Value}(h:aF F w x v):aF F' w' x v:=by
 induction h with
 |int k n=>exact .int k n
 |bool b=>exact .bool b
 |str s=>exact .str s
 |af e l v h=>exact .af e l v (kG.nc hn _ _ _ h)
 |km a=>exact .km a
 |gZ a c h=>exact .gZ a c h
 |ak=>exact .ak
 |ah b off len e a cap h=>
  obtain⟨c,T,fz,h1,h2⟩:=h
  exact .ah b off len e a cap ⟨c,T,fz,(hn.cells b ⟨c,T,fz,h1⟩).trans h1,h2⟩
 |aG=>exact .aG
 |ptr b off h=>exact .ptr b off (hn.at_ h)
 |nf b=>exact .nf b
 |nk b=>exact .nk b
 |fY cs b o f hF h1 hl h ih=>exact .fY cs b o f (hn.fc hF) (fun i x hx=>(Iv (hn.cells b hF.2) _).trans (h1 i x hx)) hl ih
 |agg cs vs hs hl h ih=>exact .agg cs vs hs hl ih
 |tup cs vs hs h ih=>exact .tup cs vs hs ih
 |iface t a v h ih=>exact .iface t a v ih
 |nilif=>exact .nilif
 |fn f c1 c2 v1 v2 fE gV h1 h2 CH CG=>exact .fn f c1 c2 v1 v2 fE gV CH CG
 |iI=>exact .iI
 |oS=>exact .oS
 |gr n b h=>exact .gr n b h
 |fS n m a b h1 h2=>exact .fS n m a b h1 h2
 |any v=>exact .any v
 |via x v hl h ih=>exact .via x v hl ih
theorem Holds.nc{F F':Nat→Prop}{w w':World}(hn:NC F w F' w'){b:Nat}{cs:List AV}(h:Holds F w b cs)(hb:w'.heap[b]?=w.heap[b]?)(hF:¬F' b):Holds F' w' b cs:=by
 obtain⟨_,⟨c,T,h1,h2,h3⟩ | ⟨x,o,h1,h2,h3⟩ | ⟨L,t,h1,h2,h3⟩⟩:=h
 ·exact⟨hF,.inl ⟨c,T,hb.trans h1,h2,fun i x hx=>⟨(h3 i x hx).1,(h3 i x hx).2.nc hn⟩⟩⟩
 ·exact⟨hF,.inr (.inl ⟨x,o,h1,hb.trans h2,h3⟩)⟩
 ·exact⟨hF,.inr (.inr ⟨L,t,h1,hb.trans h2,fun i=>(h3 i).nc hn⟩)⟩
theorem bC.nc{F F':Nat→Prop}{w w':World}{σ:Hp}(h:bC F w σ)(hn:NC F w F' w')(hk:∀p∈σ,w'.heap[p.1]?=w.heap[p.1]?∧¬F' p.1)(sK:∀b,F' b→b<w'.heap.size):bC F' w' σ:=
 ⟨h.nodup,fun p hp=>(h.holds p hp).nc hn (hk p hp).1 (hk p hp).2,sK⟩
theorem bC.out{F:Nat→Prop}{w:World}{σ:Hp}(h:bC F w σ){b:Nat}(hb:F b):∀p∈σ,p.1≠b:=fun p hp e=>(h.holds p hp).1 (e▸hb)
theorem I8{F F':Nat→Prop}{w:World}{l:Nat}{L L':Loop}(hl:w.heap[l]?=some (.loop L))(hs:∀b,b≠l→F b→F' b):NC F w F' (w.putObj l (.loop L')) where
 sub:=fun b ⟨hF,c,T,fz,hc⟩=>hs b (fun e=>by subst e;rw[hl]at hc;cases hc) hF
 cells:=fun b ⟨c,T,fz,hc⟩=>World.putObj_heap_other (fun e=>by subst e;rw[hl]at hc;cases hc)
theorem Ih{w:World}{l:Nat}{L L':Loop}(hl:w.heap[l]?=some (.loop L))(b:Nat)(c:Array Value)(T:TypeId)(fz:Nat×Nat)(h:w.heap[b]?=some (.cells c T fz)):(w.putObj l (.loop L')).heap[b]?=some (.cells c T fz):=
 (World.putObj_heap_other (fun e=>by subst e;rw[hl]at h;cases h)).trans h
def zk:Ex→Code
 |.normal=>.skip
 |.exit i=>.exit i
 |.goto l=>.goto l
 |.ret=>.ret
def ka(fn:FuncId)(tm:Array Value)(ps:Array Tmp)(gv body:Code)(D:Nat)(st:LoopState)(pe:Option Code):Loop:= { state:=st,pending:=pe,fn,tmps:=tm,params:=ps,assign:=gv,body,defers:=D }
theorem Q8{n:Nat}{F:Nat→Prop}{w:World}:∀(ps:List Tmp) (xs:List AV) (us:List Value) (t:Tm) (tm:Array Value),xs.length=us.length→ps.all (fun p=>Nat.blt p n)=true→n≤tm.size→(∀i,aF F w (t i) (tm.getD i undef))→(∀(i:Nat) (x:AV),xs[i]?=some x→aF F w x (us.getD i undef))→
  n≤((ps.zip us).foldl (fun t p=>t.setIfInBounds p.1 p.2) tm).size∧∀i,aF F w (zP ps xs t i) (((ps.zip us).foldl (fun t p=>t.setIfInBounds p.1 p.2) tm).getD i undef)
 | [],xs,us,t,tm,_,_,hs,ht,_=>by cases xs <;> exact⟨hs,ht⟩
 |p::ps,[],us,t,tm,hl,_,hs,ht,_=>by cases us with
  |nil=>exact⟨hs,ht⟩
  |cons u us=>cases hl
 |p::ps,x::xs,[],t,tm,hl,_,_,_,_=>by cases hl
 |p::ps,x::xs,u::us,t,tm,hl,hp,hs,ht,hx=>by
  simp only[List.all_cons,b9]at hp
  have qN:p<n:=cp hp.1
  refine Q8 ps xs us (put t (some p) x) (tm.setIfInBounds p u) (by simpa using hl) hp.2 (by simpa using hs) (fun i=>?_) (fun i y hy=>by simpa using hx (i+1) y (by simpa using hy))
  show aF F w (match Nat.beq i p with | true=>x | false=>t i) _
  cases hb:Nat.beq i p with
  |true=>
   obtain rfl:=jF hb
   have hi:i<tm.size:=tc qN hs
   simpa [Array.getD,hi]using hx 0 x rfl
  |false=>
   have bc:p≠i:=fun e=>by subst e;rw[wM]at hb;cases hb
   have:=ht i
   rw[jG]at this ⊢
   rw[G5 bc]
   exact this
def Fg(P:Program)(B n l:Nat)(c:Code)(R:Tm→Hp→(Ex→Tm→Hp→Prop)→Prop):Prop:=
 ∀(t:Tm) (σ:Hp) (K:Ex→Tm→Hp→Prop) (F:Nat→Prop) (w:World) (a:Act) (Q:Exit→Act→World→Prop),R t σ K→dw B n F w t σ a→
  (∀e t' σ' F' w' a',bL F w F' w'→dw B n F' w' t' σ' a'→K e t' σ'→Q e.up a' w')→c.wpIn (FW (some l)) 0 P Q a w
theorem Uf{B n l D:Nat}{fn:FuncId}{tm:Array Value}{ps:Array Tmp}{gv body:Code}{t:Tm}{rA rB:Tm→Hp→(Ex→Tm→Hp→Prop)→Prop}(hB:B≤l)(hn:n≤tm.size)(wx:ps.toList.all (fun p=>Nat.blt p n)=true)
  (hA:Fg P B n l gv rA) (hb:Fg P B n l body rB) {xs:List AV} {ie:Hp} {R1:Ex→Hp→Prop} (KZ:xs.length=ps.size)
  (h:rA (zP ps.toList xs t) ie fun e t' σ'=>match e with | .normal=>rB t' σ' (fun e _ kh=>R1 e kh) | _=>False) :
  Fe P l xs ((l,[.mu (ka fn tm ps gv body D .ready none) t])::ie) (JS l (.mu (ka fn tm ps gv body D .ready none) t) (fun e=>.mu (ka fn tm ps gv body D .done (some (zk e))) t) R1):=by
 intro F w vs cg aJ
 obtain⟨GC,hl,ob⟩:=(aJ.holds _ (cF ..)).R7
 have ck:=aJ.nodup
 simp only[o8,mJ]at ck
 have hll:l<w.heap.size:=sC hl
 have eE:vs.size=ps.size:=cg.1.symm.trans KZ
 refine⟨fn,_,gv,body,run_yield hl eE,roundIn_of_wpIn trivial ?_⟩
 have KF:bL F w (fun b=>F b∨b=l) w:=⟨rfl,rfl,rfl,bJ _,fun _ h=>.inl h,fun _ _=>rfl,fun _ c _ fz h=>⟨c,fz,h,rfl⟩,bJ _⟩
 have bc:∀p∈ie,p.1≠l:=fun p hp e=>ck.1 (fi.2 ⟨p,hp,e⟩)
 have J5:bC (fun b=>F b∨b=l) w ie:=⟨ck.2,fun p hp=>(aJ.holds p (dy _ hp)).mono KF rfl (fun h=>h.elim (aJ.holds p (dy _ hp)).1 (bc p hp)),fun b h=>h.elim (aJ.low b) (fun e=>e▸hll)⟩
 have hz:(ps.zip vs).foldl (fun tmps (t,a)=>tmps.setIfInBounds t a) tm=(ps.toList.zip vs.toList).foldl (fun t p=>t.setIfInBounds p.1 p.2) tm:=by
  rw[← Array.foldl_toList,Array.toList_zip]
 obtain⟨k1,k2⟩:=Q8 (n:=n) (F:=fun b=>F b∨b=l) (w:=w) ps.toList xs vs.toList t tm (by rw[L6];exact cg.1) wx hn (fun i=>(ob i).mono KF) (fun i x hx=>by
  have:=(cg.2 i x hx).mono KF
  rw[jG]at this
  rw[bO,Av]
  exact this)
 refine hA _ _ _ _ w { tmps:=(ps.zip vs).foldl (fun tmps (t,a)=>tmps.setIfInBounds t a) tm,defers:=[] } _ h ⟨fun i=>by rw[hz];exact k2 i,J5,by rw[hz];exact k1,⟨by omega,.nil,fun d hd=>by cases hd⟩⟩ ?_
 intro e t1 σ2 F1 w1 a1 st1 s1 h1
 cases e with
 |exit i=>exact h1.elim
 |goto i=>exact h1.elim
 |ret=>exact h1.elim
 |normal=>
  have o6:w1.heap[l]?=some (.loop (ka fn tm ps gv body D .ready none)):=(st1.fix l (.inr rfl)).trans hl
  have LH:F1 l:=st1.sub l (.inr rfl)
  have adZ:l<w1.heap.size:=sC o6
  refine⟨_,run_beginRound o6 rfl,?_⟩
  have mh:({ ka fn tm ps gv body D .ready none with state:=LoopState.busy }:Loop)=ka fn tm ps gv body D .busy none:=rfl
  rw[mh]
  have nc1:NC F1 w1 F1 (w1.putObj l (.loop (ka fn tm ps gv body D .busy none))):=I8 o6 fun _ _ h=>h
  have Kj:(w1.putObj l (.loop (ka fn tm ps gv body D .busy none))).heap[l]?=some (.loop (ka fn tm ps gv body D .busy none)):=World.putObj_heap_same adZ
  refine hb t1 σ2 _ F1 _ a1 _ h1 ⟨fun i=>(s1.tm i).nc nc1,s1.hp.nc nc1 (fun p hp=>⟨World.putObj_heap_other (s1.hp.out LH p hp),(s1.hp.holds p hp).1⟩) (fun b hb=>by rw[World.putObj_size];exact s1.hp.low b hb),s1.size,⟨by rw[World.putObj_size];exact s1.defers.low,s1.defers.nodup,fun d hd=>by
   obtain⟨D',q1,q2,q3,q4⟩:=s1.defers.is d hd
   refine⟨D',q1,q2,q3,(World.putObj_heap_other (fun e=>?_)).trans q4⟩
   subst e;rw[o6]at q4;cases q4⟩⟩ ?_
  intro e t3 ef F3 w3 a3 oX s3 h3
  have hF3:F3 l:=oX.sub l LH
  have qQ:w3.heap[l]?=some (.loop (ka fn tm ps gv body D .busy none)):=(oX.fix l LH).trans Kj
  have adY:l<w3.heap.size:=sC qQ
  have fin:∀L':Loop,bL F w (fun b=>F3 b∧b≠l) (w3.putObj l (.loop L'))∧((∀i,L'.tmps.getD i undef=tm.getD i undef)→bC (fun b=>F3 b∧b≠l) (w3.putObj l (.loop L')) ((l,[.mu L' t])::ef)):=by
   intro L'
   have nc3:NC F3 w3 (fun b=>F3 b∧b≠l) (w3.putObj l (.loop L')):=I8 qQ fun b hb h=>⟨h,hb⟩
   have stw:bL F w (fun b=>F3 b∧b≠l) (w3.putObj l (.loop L')):= {
    os:=oX.os.trans st1.os
    tape:=oX.tape.trans st1.tape
    output:=oX.output.trans st1.output
    size:=by
     have q1:=st1.size
     have q3:=oX.size
     rw[World.putObj_size]at q3 ⊢
     omega
    sub:=fun b hF=>⟨oX.sub b (st1.sub b (.inl hF)),fun e=>GC (e▸hF)⟩
    fix:=fun b hF=>by
     have pZ:b≠l:=fun e=>GC (e▸hF)
     rw[World.putObj_heap_other pZ,oX.fix b (st1.sub b (.inl hF)),World.putObj_heap_other pZ,st1.fix b (.inl hF)]
    rows:=fun b c T fz hc=>by
     obtain⟨c1,fz1,q1,q2⟩:=st1.rows b c T fz hc
     obtain⟨c3,Ha,q3,q4⟩:=oX.rows b c1 T fz1 (Ih o6 b c1 T fz1 q1)
     exact⟨c3,Ha,Ih qQ b c3 T Ha q3,q4.trans q2⟩
    drawn:=ey st1.drawn oX.drawn }
   refine⟨stw,fun adK=>⟨?_,fun p hp=>?_,fun b hb=>?_⟩⟩
   ·simp only[o8,mJ]
    exact⟨fun hm=>by obtain⟨p,hp,e⟩:=fi.1 hm;exact s3.hp.out hF3 p hp e,s3.hp.nodup⟩
   ·rcases ei.1 hp with rfl | hp
    ·exact⟨fun h=>h.2 rfl,.inr (.inr ⟨L',t,rfl,World.putObj_heap_same adY,fun i=>by rw[adK];exact (ob i).mono stw⟩)⟩
    ·exact (s3.hp.holds p hp).nc nc3 (World.putObj_heap_other (s3.hp.out hF3 p hp)) (fun h=>(s3.hp.holds p hp).1 h.1)
   ·rw[World.putObj_size];exact s3.hp.low b hb.1
  have JC:∀e:Ex,e≠.normal→R1 e ef→∃v w',(Instr.endRound l (some (zk e))).run P w3=.ok v w'∧∃r v' σ' F',Ending.returned v=.returned v'∧bL F w F' w'∧bC F' w' σ'∧aF F' w' r v'∧JS l (.mu (ka fn tm ps gv body D .ready none) t) (fun e=>.mu (ka fn tm ps gv body D .done (some (zk e))) t) R1 r σ':=fun e he hr=>by
   obtain⟨q1,q2⟩:=fin (ka fn tm ps gv body D .done (some (zk e)))
   exact⟨_,_,run_endRound _ qQ,.bool false,_,_,_,rfl,q1,q2 (fun _=>rfl),.bool _,.inr ⟨rfl,e,ef,he,rfl,hr⟩⟩
  cases e with
  |normal=>
   obtain⟨q1,q2⟩:=fin (ka fn tm ps gv body D .ready none)
   exact⟨_,_,run_endRound none qQ,.bool true,_,_,_,rfl,q1,q2 (fun _=>rfl),.bool _,.inl ⟨rfl,ef,rfl,h3⟩⟩
  |exit i=>exact JC (.exit i) (by simp) h3
  |goto i=>exact JC (.goto i) (by simp) h3
  |ret=>exact JC .ret (by simp) h3
theorem Uj{B n:Nat}{g:Operand}{ps:Array Tmp}{gv body:Code}{t:Tm}{gf:FuncId}{cap:List AV}{rA rB:Tm→Hp→(Ex→Tm→Hp→Prop)→Prop}(hg:ev t g=.fn (.func gf) [] cap)(wx:ps.toList.all (fun p=>Nat.blt p n)=true)
  (hA:∀l,Fg P B n l gv rA) (hb:∀l,Fg P B n l body rB) {K:Ex→Hp→Prop} {σ:Hp}
  (h:zf P gf cap ps.size (fun xs ie R1=>rA (zP ps.toList xs t) ie fun e t' σ'=>match e with | .normal=>rB t' σ' (fun e _ kh=>R1 e kh) | _=>False) K σ):∀{F:Nat→Prop} {w:World} {a:Act} {Q:Exit→Act→World→Prop},dw B n F w t σ a→
  (∀e σ' F' w' a',bL F w F' w'→dw B n F' w' t σ' a'→K e σ'→Q e.up a' w')→(Code.rangeFunc g ps gv body).wpIn (FW none) 0 P Q a w:=by
 induction h with
 |dL h1 h ih=>exact fun hs hq=>ih (hs.dL h1) hq
 | @mk σ go=>
  intro F w a Q hs hq
  have yc:=hs.tm.eval g
  rw[hg]at yc
  cases hv:a.eval g with
  |func f' v1 lb=>
   rw[hv]at yc
   obtain⟨rfl,rfl,aea⟩:f'=.func gf∧v1 = #[]∧ja F w cap lb:=by cases yc with | fn _ _ _ _ _ fE gV h1 h2=>exact⟨rfl,Dv.1 fE.symm,gV,h2⟩
   refine wpIn_rangeFunc ?_
   intro fn _
   have e1:=run_enterLoop_outer (P:=P) (w:=w) fn a.tmps ps gv body
   obtain⟨l,hle⟩:∃l,l=w.heap.size+1:=⟨_,rfl⟩
   obtain⟨D,hD⟩:∃D,D=w.heap.size:=⟨_,rfl⟩
   obtain⟨W1,uL⟩:∃W1,W1=(w.alloc (.deferred (some []))).alloc (.loop (ka fn a.tmps ps gv body D .ready none)):=⟨_,rfl⟩
   have hlW:W1.heap[l]?=some (.loop (ka fn a.tmps ps gv body D .ready none)):=by
    rw[uL,hle];have:=World.alloc_heap_new (w.alloc (.deferred (some []))) (.loop (ka fn a.tmps ps gv body D .ready none));rwa [World.size_alloc]at this
   have hDW:W1.heap[D]?=some (.deferred (some [])):=by
    rw[uL,hD];exact (Below.heap_alloc _ _ _ (by simp)).trans (World.alloc_heap_new w _)
   have hold:∀b,b<w.heap.size→W1.heap[b]?=w.heap[b]?:=fun b hb=>by
    rw[uL];exact (Below.heap_alloc _ _ b (by simp;omega)).trans (Below.heap_alloc _ _ b hb)
   have eE:W1.heap.size=w.heap.size+2:=by rw[uL];simp
   have st1:bL F w (fun b=>F b∨b=D) W1:=⟨by rw[uL];rfl,by rw[uL];rfl,by rw[uL];rfl,by omega,fun _ h=>.inl h,fun b hb=>hold b (hs.hp.low b hb),fun b c _ fz hc=>⟨c,fz,(hold b (sC hc)).trans hc,rfl⟩,by rw[uL];exact bJ _⟩
   obtain⟨nV,gP⟩:=go l (.mu (ka fn a.tmps ps gv body D .ready none) t) (fun e=>.mu (ka fn a.tmps ps gv body D .done (some (zk e))) t) (fun xs ie R1 KZ yh=>Uf (by have:=hs.defers.low;omega) hs.size wx (hA l) (hb l) KZ yh)
   have J5:bC (fun b=>F b∨b=D) W1 ((l,[.mu (ka fn a.tmps ps gv body D .ready none) t])::σ):=by
    refine⟨?_,fun p hp=>?_,fun b hb=>?_⟩
    ·simp only[o8,mJ]
     refine⟨fun hm=>?_,hs.hp.nodup⟩
     obtain⟨p,hp,e⟩:=fi.1 hm
     have:=(hs.hp.holds p hp).lt
     omega
    ·rcases ei.1 hp with rfl | hp
     ·exact⟨fun h=>h.elim (fun h=>by have:l<w.heap.size:=hs.hp.low l h;omega) (fun h=>by have:l=D:=h;omega),.inr (.inr ⟨_,t,rfl,hlW,fun i=>(hs.tm i).mono st1⟩)⟩
     ·have ab:=(hs.hp.holds p hp).lt
      exact (hs.hp.holds p hp).mono st1 (hold _ ab) (fun h=>h.elim (hs.hp.holds p hp).1 (fun e=>by omega))
    ·rcases hb with hb | hb
     ·have:=hs.hp.low b hb;omega
     ·omega
   have cg:ja (fun b=>F b∨b=D) W1 (.fn (.yield l) [] []::cap) (#[.func (.yield l) #[] #[]]++lb):=
    show ja _ _ ([.fn (.yield l) [] []]++cap) _ from DJ (NO (.fn _ _ _ _ _ rfl rfl (fun i x h=>by simp at h) (fun i x h=>by simp at h))) (aea.mono st1)
   have og:∀d∈a.defers,d≠{ target:=.collected D,args:= #[] }:=fun d hd e=>by
    obtain⟨D',q1,_,_,q4⟩:=hs.defers.is d hd
    rw[q1]at e
    cases e
    have:=sC q4
    omega
   refine⟨l,[{ target:=.collected D,args:= #[] }],W1,{ target:=.fn (.func gf) lb,args:= #[.func (.yield l) #[] #[]] },W1,gf,#[.func (.yield l) #[] #[]]++lb,W1,?_,?_,fun _ _=>trivial,?_,fun hd=>(by cases hd),?_⟩
   ·rw[uL,hle,hD];exact e1
   ·simp only[resolve,hv]
    simp[go_sem]
   ·have:=nV (#[.func (.yield l) #[] #[]]++lb) W1
    simpa [invoke]using this
   ·refine callsIn_wide.2 ((gP _ W1 _ cg J5).mono ?_)
    rintro e w3 ⟨rv,v,σ',F',rfl,oX,Cd,_,hR⟩
    have JY:=st1.trans oX
    have fin:∀(L':Loop) (σ2:Hp),σ'=(l,[.mu L' t])::σ2→L'.state≠.busy→∃w4,(Instr.endLoop l).run P w3=.ok L'.pending w4∧bL F w F' w4∧dw B n F' w4 t σ2 { a with defers:=[{ target:=.collected D,args:= #[] }]++a.defers }:=by
     intro L' σ2 e ao
     subst e
     obtain⟨GC,qQ,_⟩:=(Cd.holds _ (cF ..)).R7
     have ck:=Cd.nodup
     simp only[o8,mJ]at ck
     have bc:∀p∈σ2,p.1≠l:=fun p hp e=>ck.1 (fi.2 ⟨p,hp,e⟩)
     have nc:NC F' w3 F' (w3.putObj l (.loop { L' with state:=.exhausted })):=I8 qQ fun _ _ h=>h
     have hDF:F' D:=oX.sub D (.inr rfl)
     have KE:bL F' w3 F' (w3.putObj l (.loop { L' with state:=.exhausted })):=⟨rfl,rfl,rfl,by rw[World.putObj_size];exact bJ _,fun _ h=>h,fun b hb=>World.putObj_heap_other (fun e=>GC (e▸hb)),fun b c T fz hc=>⟨c,fz,Ih qQ b c T fz hc,rfl⟩,bJ _⟩
     refine⟨_,run_endLoop qQ ao,JY.trans KE,fun i=>((hs.tm i).mono JY).nc nc,?_,hs.size,?_⟩
     ·exact⟨ck.2,fun p hp=>(Cd.holds p (dy _ hp)).nc nc (World.putObj_heap_other (bc p hp)) (Cd.holds p (dy _ hp)).1,fun b hb=>by rw[World.putObj_size];exact Cd.low b hb⟩
     ·have hm:=hs.defers.mono (JY.trans KE)
      refine⟨hm.low,?_,fun d hd=>?_⟩
      ·simp only[go2,uP,mJ]
       exact⟨fun h=>og _ h rfl,hm.nodup⟩
      ·rcases ei.1 hd with rfl | hd
       ·exact⟨D,rfl,by have:=hs.defers.low;omega,hDF,(KE.fix D hDF).trans ((oX.fix D (.inr rfl)).trans hDW)⟩
       ·exact hm.is d hd
    rcases hR with ⟨σ2,e,hk⟩ | ⟨ex,σ2,bc,e,hk⟩
    ·obtain⟨w4,k1,k2,k3⟩:=fin _ σ2 e (by simp[ka])
     exact⟨none,w4,k1,hq .normal σ2 F' w4 _ k2 k3 hk⟩
    ·obtain⟨w4,k1,k2,k3⟩:=fin _ σ2 e (by simp[ka])
     refine⟨some (zk ex),w4,k1,?_⟩
     have K8:=hq ex σ2 F' w4 _ k2 k3 hk
     cases ex with
     |normal=>exact absurd rfl bc
     |exit i=>exact wpIn_exit K8
     |goto i=>exact wpIn_goto K8
     |ret=>exact wpIn_ret K8
  |_=>rw[hv]at yc;cases yc
theorem UC(ok:dH P TT)(hm:P.follows .mixedOrders=true){B n:Nat}:∀(fuel:Nat) (c:Code) (t:Tm) (σ:Hp) (K:Ex→Tm→Hp→Prop) (F:Nat→Prop) (w:World) (a:Act) (Q:Exit→Act→World→Prop) (r:Option Nat),codeOk n r.isSome c=true→mw P TT fuel c t σ K→dw B n F w t σ a→
  (∀e t' σ' F' w' a',bL F w F' w'→dw B n F' w' t' σ' a'→K e t' σ'→Q e.up a' w')→c.wpIn (FW r) 0 P Q a w:=by
 intro fuel
 induction fuel with
 |zero=>intro c t σ K F w a Q r _ h;exact h.elim
 |succ fuel ih=>
  intro c t σ K F w a Q r hc h hs hq
  cases c with
  |skip=>exact wpIn_skip (hq .normal t σ F w a (.refl _ _) hs h)
  |label l=>exact wpIn_label (hq .normal t σ F w a (.refl _ _) hs h)
  |exit id=>exact wpIn_exit (hq (.exit id) t σ F w a (.refl _ _) hs h)
  |goto l=>exact wpIn_goto (hq (.goto l) t σ F w a (.refl _ _) hs h)
  |ret=>exact wpIn_ret (hq .ret t σ F w a (.refl _ _) hs h)
  |region id ops draw=>
   have hd:=abH (n:=n) (ops:=ops.toList) hc
   have ck:=acA (n:=n) (ops:=ops.toList) hc
   cases draw with
   |false=>exact Ug ck (HA ok ops.toList t σ _ F w a hd h hs (fun t' σ' F' w' a' h1 h2 h3=>hq .normal t' σ' F' w' a' h1 h2 h3))
   |true=>
    have h:fX P TT ops.toList (K .normal) t σ:=h
    exact Vu ok hm hd ck h hs (fun t' σ' F' w' a' h1 h2 h3=>hq .normal t' σ' F' w' a' h1 h2 h3)
  |seq x y=>
   simp only[codeOk,b9]at hc
   refine wpIn_seq (ih x t σ _ F w a _ r hc.1 h hs ?_)
   intro e t' σ' F' w' a' h1 h2 h3
   cases e with
   |normal=>exact ih y t' σ' K F' w' a' Q r hc.2 h3 h2 (fun e xX kh ny l7 Ms k1 k2 k3=>hq e xX kh ny l7 Ms (h1.trans k1) k2 k3)
   |exit id=>exact hq (.exit id) t' σ' F' w' a' h1 h2 h3
   |goto l=>exact hq (.goto l) t' σ' F' w' a' h1 h2 h3
   |ret=>exact hq .ret t' σ' F' w' a' h1 h2 h3
  |cond x y z=>
   simp only[codeOk,b9]at hc
   have h:(match ev t x with | .bool b=>(match b with | true=>mw P TT fuel y t σ K | false=>mw P TT fuel z t σ K) | _=>False):=h
   have hx:=hs.tm.eval x
   split at h
   ·rename_i b hb
    rw[hb]at hx
    refine wpIn_cond (t:=b) hx.qz ?_
    cases b with
    |true=>exact ih y t σ K F w a Q r hc.1 h hs hq
    |false=>exact ih z t σ K F w a Q r hc.2 h hs hq
   ·exact h.elim
  |block id c=>
   refine wpIn_block (ih c t σ _ F w a _ r hc h hs ?_)
   intro e t' σ' F' w' a' h1 h2 h3
   cases e with
   |normal=>exact hq .normal t' σ' F' w' a' h1 h2 h3
   |exit i=>
    show (if i=id then Q .normal a' w' else Q (.exit i) a' w')
    have h3:(match Nat.beq i id with | true=>K .normal t' σ' | false=>K (.exit i) t' σ'):=h3
    cases hb:Nat.beq i id with
    |true=>rw[hb]at h3;rw[az (jF hb)];exact hq .normal t' σ' F' w' a' h1 h2 h3
    |false=>
     rw[hb]at h3
     rw[aA (fun e=>by subst e;rw[wM]at hb;cases hb)]
     exact hq (.exit i) t' σ' F' w' a' h1 h2 h3
   |goto l=>exact hq (.goto l) t' σ' F' w' a' h1 h2 h3
   |ret=>exact hq .ret t' σ' F' w' a' h1 h2 h3
  |loop c=>
   have h:my (fun t σ Q=>mw P TT fuel c t σ Q) K t σ:=h
   exact Vg (fun t σ K F w a Q h hs hq=>ih c t σ K F w a Q r hc h hs hq) h hs hq
  |scope c=>
   simp only[codeOk,b9,ke]at hc
   obtain⟨hr,hc⟩:=hc
   obtain rfl:r=none:=by cases r with | none=>rfl | some l=>cases hr
   refine wpIn_wide.2 (TL (wpIn_wide.1 (ih c t σ _ F w a _ none hc h hs ?_)))
   intro e t' σ' F' w' a' h1 h2 h3
   cases e with
   |normal=>exact .normal (hq .normal t' σ' F' w' a' h1 h2 h3)
   |exit i=>exact .exit (hq (.exit i) t' σ' F' w' a' h1 h2 h3)
   |ret=>exact .ret (hq .ret t' σ' F' w' a' h1 h2 h3)
   |goto l=>
    have h3:qC (fun l t σ Q=>match findLabel c l with | some r=>mw P TT fuel r t σ Q | none=>False) l K t' σ':=h3
    exact Vo (fun l t σ K F w a Q h hs hq=>by
     have h:(match findLabel c l with | some r=>mw P TT fuel r t σ K | none=>False):=h
     split at h
     ·rename_i r hr
      exact⟨r,hr,wpIn_wide.1 (ih r t σ K F w a Q none (X6 c l r hr hc) h hs hq)⟩
     ·exact h.elim) h3 h2 (fun e xX kh ny l7 Ms k1 k2 k3 k4=>hq e xX kh ny l7 Ms (h1.trans k1) k2 k3)
  |rangeFunc g ps gv body=>
   simp only[codeOk,b9,ke]at hc
   obtain⟨⟨⟨hr,wx⟩,Ad⟩,uI⟩:=hc
   obtain rfl:r=none:=by cases r with | none=>rfl | some l=>cases hr
   have h:(match ev t g with | .fn (.func gf) [] cap=>zf P gf cap ps.size (fun xs ie R1=>mw P TT fuel gv (zP ps.toList xs t) ie fun e t' σ'=>match e with | .normal=>mw P TT fuel body t' σ' (fun e _ kh=>R1 e kh) | _=>False) (fun e σ'=>K e t σ') σ | _=>False):=h
   split at h
   ·rename_i gf cap hg
    exact Uj hg wx (fun l t σ K F w a Q h hs hq=>ih gv t σ K F w a Q (some l) Ad h hs hq) (fun l t σ K F w a Q h hs hq=>ih body t σ K F w a Q (some l) uI h hs hq) h hs (fun e σ' F' w' a' k1 k2 k3=>hq e t σ' F' w' a' k1 k2 k3)
   ·exact h.elim
  |refuse=>exact h.elim
inductive Fin(R:AV→Hp→Prop):AV→Hp→Prop where
 |done {r:AV} {σ:Hp} (h:R r σ):Fin R r σ
 |pull {r:AV} {σ:Hp} (js:List Nat) (h:Fin R r (nI js σ)):Fin R r σ
 |drop {r:AV} {σ:Hp} (k n:Nat) (h:Fin R r (σ.take k++σ.drop (k+n))):Fin R r σ
 |perm {r:AV} {σ σ2:Hp} (hp:σ2.Perm σ) (h:Fin R r σ2):Fin R r σ
 |cH {r r':AV} {σ:Hp} (j b off len es:Nat) (cs:List AV) (e:Sh) (l:List e.T) (h1:σ[j]?=some (b,cs)) (h2:(cs.drop off).take (len*es)=l.flatMap e.cells) (h3:l.length=len∧e.size=es∧0<es) (h4:eI b off len es e l r r') (h:Fin R r' (σ.eraseIdx j)):Fin R r σ
 |nil {r r':AV} {σ:Hp} (h4:eI 0 0 0 0 .bool [] r r') (h:Fin R r' σ):Fin R r σ
 |dL {r:AV} {σ σ2:Hp} (h1:jg σ σ2) (h:Fin R r σ2):Fin R r σ
 |kj {r:AV} {σ:Hp} (j b off len es:Nat) (cs:List AV) (e:Sh) (l:List e.T) (h1:σ[j]?=some (b,cs)) (h2:(cs.drop off).take (len*es)=l.flatMap e.cells) (h3:l.length=len∧e.size=es∧0<es) (i k b':Nat) (cs':List AV) (hi:(σ.eraseIdx j)[i]?=some (b',cs')) (hk:cs'[k]?=some (.ah b off len es)) (h:Fin R r ((σ.eraseIdx j).set i (b',cs'.set k (.af e l)))):Fin R r σ
theorem OB{R:AV→Hp→Prop}{r:AV}{σ:Hp}(h:Fin R r σ):∀(F:Nat→Prop) (w:World) (v:Value),bC F w σ→aF F w r v→∃r' σ' F',bL F w F' w∧bC F' w σ'∧aF F' w r' v∧R r' σ':=by
 induction h with
 |done h=>exact fun F w v aJ hv=>⟨_,_,F,.refl _ _,aJ,hv,h⟩
 |pull js h ih=>exact fun F w v aJ hv=>ih F w v (aJ.perm (xc js _)) hv
 |perm hp h ih=>exact fun F w v aJ hv=>ih F w v (aJ.perm hp) hv
 | @drop r σ k n h ih=>
  intro F w v aJ hv
  refine ih F w v (aJ.sub ?_) hv
  have h1:(σ.drop (k+n)).Sublist (σ.drop k):=by
   rw[← List.drop_drop]
   exact List.drop_sublist _ _
  have h2:=(List.Sublist.refl (σ.take k)).append h1
  rwa [Ax]at h2
 | @cH r r' σ j b off len es cs e l h1 h2 h3 h4 h ih=>
  intro F w v aJ hv
  obtain⟨ao,mA,hh⟩:=su aJ h1 h2 h3
  obtain⟨KL,kh,ny,k1,k2,k3,k4⟩:=ih _ w v mA (w8 ao hh h4 v hv)
  exact⟨KL,kh,ny,ao.trans k1,k2,k3,k4⟩
 |dL h1 h ih=>exact fun F w v aJ hv=>ih F w v (aJ.dL h1) hv
 |kj j b off len es cs e l h1 h2 h3 i k b' cs' hi hk h ih=>
  intro F w v aJ hv
  obtain⟨ao,mA,hh⟩:=su aJ h1 h2 h3
  obtain⟨KL,kh,ny,k1,k2,k3,k4⟩:=ih _ w v (yM mA hh hi hk) (hv.mono ao)
  exact⟨KL,kh,ny,ao.trans k1,k2,k3,k4⟩
 |nil h4 h ih=>
  intro F w v aJ hv
  refine ih F w v aJ (w8 (.refl _ _) (fun v hv=>?_) h4 v hv)
  obtain⟨a,cap,rfl,c,T,fz,m1,m2,m3,m4⟩:=hv.lh
  exact .af _ _ _ ⟨some a,cap,rfl,m2,m3,(fun e=>by cases e),fun bc=>absurd rfl bc⟩
def t0(xs:List AV):Tm:=fun i=>match xs[i]? with | some x=>x | none=>.any
def FJ:List AV→AV
 | [v]=>v
 |vs=>.tup vs
def B4(TT:TypeId→Option TI)(l:List ResultVar):Tm→Hp→(List AV→Prop)→Prop:=
 List.rec (motive:=fun _=>Tm→Hp→(List AV→Prop)→Prop) (fun _ _ K=>K [])
  (fun x _ ih t σ K=>match x with
   |.tmp d=>strict (t d) fun v=>ih t σ fun vs=>K (bZ v::vs)
   |.cell d ty=>match TT ty with | some i=>pD i (t d) σ fun v=>ih t σ fun vs=>K (v::vs) | none=>False) l
def tQ(TT:TypeId→Option TI)(rs:List ResultVar)(R:AV→Hp→Prop)(e:Ex)(t:Tm)(σ:Hp):Prop:=
 match e with
 |.normal | .ret=>B4 TT rs t σ fun vs=>Fin R (FJ vs) σ
 |_=>False
def sB(P:Program)(TT:TypeId→Option TI)(fn:Func)(xs:List AV)(σ:Hp)(R:AV→Hp→Prop):Prop:=
 match fn.body with
 |some c=>mw P TT 1000 c (t0 xs) σ (tQ TT fn.results.toList R)
 |none=>False
def funcOk (fn : Func) : Bool := (match fn.body with | some c => codeOk fn.ntmps false c | none => false) && !(fn.name == "runtime.NumGoroutine")
theorem enters_of{f:FuncId}{fn:Func}(hf:P.funcs[f]?=some fn)(h:funcOk fn=true):Enters P f:=by
 unfold funcOk at h
 simp only[b9,ke]at h
 obtain⟨h1,h2⟩:=h
 have hb:fn.body.isNone=false:=by
  cases hb:fn.body with
  |none=>rw[hb]at h1;cases h1
  |some c=>rfl
 intro args w
 unfold callFunc
 simp only[Sem.run_bind,run_program,Result.andThen_ok,hf,h2,hb]
 rfl
theorem Up(ok:dH P TT){ty:TypeId}{i:TI}(hi:TT ty=some i){x:AV}{σ:Hp}{K:AV→Prop}(h:pD i x σ K):∃v,K v∧∀(F:Nat→Prop) (w:World) (u:Value),aF F w x u→bC F w σ→∃v',(do loadVar ty (← asAddr u):Sem Value).run P w=.ok v' w∧aF F w v v':=by
 unfold pD at h
 split at h
 ·split at h
  ·rename_i v hv
   refine⟨v,h,fun F w u hu aJ =>?_⟩
   obtain⟨b,o',rfl,hF,eP⟩:=hu.xq
   obtain⟨v',h1,h2⟩:=DS ok hi eP hv
   rw[uN]at h1
   exact⟨v',by simp[asAddr,h1],h2⟩
  ·exact h.elim
 ·obtain⟨j,cs,v,h1,h2,go⟩:=h
  refine⟨v,go,fun F w u hu aJ =>?_⟩
  have Lo:=hu.yF
  obtain rfl:=hu.tW
  obtain⟨v',h3,h4⟩:=DS ok hi (aJ.at_ h1 Lo) h2
  rw[dU]at h3
  exact⟨v',by simp[asAddr,h3],h4⟩
 ·exact h.elim
def EY(tmps:Array Value):ResultVar→Sem Value
 |.tmp t=>pure (tmps.getD t undef)
 |.cell d t=>do loadVar t (← asAddr (tmps.getD d undef))
theorem Zx{F:Nat→Prop}{w:World}:∀(vs:List AV) (us:List Value),vs.length=us.length→(∀(i:Nat) (x:AV),vs[i]?=some x→aF F w x (us.getD i undef))→aF F w (FJ vs) (if h:us.toArray.size=1 then us.toArray[0] else .tuple us.toArray)
 | [v],[u],_,h=>by simpa [FJ]using h 0 v rfl
 | [],[],_,_=>.tup _ _ rfl (fun i x h=>by simp at h)
 |v::v2::vs,u::u2::us,hl,h=>by
  rw[dif_neg (by simp)]
  refine .tup _ _ (by simpa using hl) (fun i x hx=>?_)
  have:=h i x hx
  rw[bO]at this
  rw[jG,yr]
  exact this
 | [],_::_,hl,_=>by simp at hl
 |_::_,[],hl,_=>by simp at hl
 | [_],_::_::_,hl,_=>by simp at hl
 |_::_::_,[_],hl,_=>by simp at hl
theorem Hx(ok:dH P TT):∀(rs:List ResultVar) (t:Tm) (σ:Hp) (K:List AV→Prop),B4 TT rs t σ K→∀(F:Nat→Prop) (w:World) (a:Act),sO F w t a→bC F w σ→
  ∃vs us,K vs∧(rs.mapM (EY a.tmps)).run P w=.ok us w∧vs.length=us.length∧∀(i:Nat) (x:AV),vs[i]?=some x→aF F w x (us.getD i undef)
 | [],t,σ,K,h,F,w,a,_,_=>⟨[],[],h,rfl,rfl,fun i x h=>by simp at h⟩
 |.tmp d::rs,t,σ,K,h,F,w,a,ht,aJ=>by
  have h:strict (t d) fun v=>B4 TT rs t σ fun vs=>K (bZ v::vs):=h
  rw[xg]at h
  obtain⟨vs,us,h1,h2,h3,h4⟩:=Hx ok rs t σ _ h F w a ht aJ
  refine⟨_,a.tmps.getD d undef::us,h1,?_,by simp[h3],fun i x hi=>?_⟩
  ·rw[List.mapM_cons]
   simp only[EY,Sem.run_bind,Sem.run_pure,Result.andThen_ok,h2]
  ·cases i with
   |zero=>simp at hi;subst hi;exact (ht d).bZ
   |succ i=>simpa using h4 i x (by simpa using hi)
 |.cell d ty::rs,t,σ,K,h,F,w,a,ht,aJ=>by
  have h:(match TT ty with | some i=>pD i (t d) σ fun v=>B4 TT rs t σ fun vs=>K (v::vs) | none=>False):=h
  split at h
  ·rename_i i hi
   obtain⟨v,h,hv⟩:=Up ok hi h
   obtain⟨v',k1,k2⟩:=hv F w _ (ht d) aJ
   obtain⟨vs,us,h1,h2,h3,h4⟩:=Hx ok rs t σ _ h F w a ht aJ
   refine⟨_,v'::us,h1,?_,by simp[h3],fun i x hi=>?_⟩
   ·have k1':(EY a.tmps (.cell d ty)).run P w=.ok v' w:=k1
    rw[List.mapM_cons]
    simp only[Sem.run_bind,k1',Sem.run_pure,Result.andThen_ok,h2]
   ·cases i with
    |zero=>simp at hi;subst hi;exact k2
    |succ i=>simpa using h4 i x (by simpa using hi)
  ·exact h.elim
def shut(w:World)(ds:List Deferred):World:=ds.foldl (fun w d=>match d.target with | .collected D=>w.putObj D (.deferred none) | _=>w) w
def y8(D:Nat)(ds:List Deferred):Prop:=({ target:=.collected D,args:= #[] }:Deferred)∈ds
theorem U0{ds:List Deferred}:∀{w:World},(∀d∈ds,∃D,d = { target:=.collected D,args:= #[] })→∀b,¬y8 b ds→(shut w ds).heap[b]?=w.heap[b]?:=by
 induction ds with
 |nil=>exact fun _ _ _=>rfl
 |cons d ds ih=>
  intro w hd b hb
  obtain⟨D,rfl⟩:=hd d (cF ..)
  have hbD:b≠D:=fun e=>hb (by subst e;exact cF ..)
  exact (ih (w:=w.putObj D (.deferred none)) (fun d h=>hd d (dy _ h)) b (fun h=>hb (dy _ h))).trans (World.putObj_heap_other hbD)
theorem VX{ds:List Deferred}:∀{w:World},(shut w ds).os=w.os∧(shut w ds).tape=w.tape∧(shut w ds).output=w.output∧(shut w ds).heap.size=w.heap.size∧(shut w ds).drawn=w.drawn:=by
 induction ds with
 |nil=>exact fun {w}=>⟨rfl,rfl,rfl,rfl,rfl⟩
 |cons d ds ih=>
  intro w
  obtain⟨t,gv⟩:=d
  cases t with
  |collected D=>
   obtain⟨h1,h2,h3,h4,h5⟩:=ih (w:=w.putObj D (.deferred none))
   exact⟨h1,h2,h3,h4.trans World.putObj_size,h5⟩
  |_=>exact ih
theorem MG{fn:Func}{tm:Array Value}{R:Ending→World→Prop}:∀(ds:List Deferred) (w:World),ds.Nodup→(∀d∈ds,∃D,d = { target:=.collected D,args:= #[] }∧w.heap[D]?=some (.deferred (some [])))→
  (∃v,(results fn tm).run P (shut w ds)=.ok v (shut w ds)∧R (.returned v) (shut w ds))→LeavesInM Fence.wide 0 P fn tm R ds .returning w
 | [],_,_,_,h=>h
 |d::ds,w,ck,hd,h=>by
  obtain⟨D,rfl,hw⟩:=hd d (cF ..)
  obtain⟨qP,mG⟩:=mJ.1 ck
  refine⟨by simp,.inl ⟨D,_,rfl,run_takeDeferred hw,MG ds _ mG (fun d hm=>?_) h⟩⟩
  obtain⟨D',rfl,hw'⟩:=hd d (dy _ hm)
  exact⟨D',rfl,(World.putObj_heap_other (fun e=>qP (by subst e;exact hm))).trans hw'⟩
theorem W7(ok:dH P TT)(hm:P.follows .mixedOrders=true){f:FuncId}{fn:Func}{xs:List AV}{σ:Hp}{R:AV→Hp→Prop}(hf:P.funcs[f]?=some fn)(cM:funcOk fn=true)(h:sB P TT fn xs σ R):ACalls P f xs σ R:=by
 refine⟨enters_of hf cM,fun F w vs cg aJ =>?_⟩
 unfold funcOk at cM
 simp only[b9]at cM
 unfold sB at h
 cases hb:fn.body with
 |none=>rw[hb]at h;exact h.elim
 |some c=>
  rw[hb]at h
  have hc:codeOk fn.ntmps false c=true:=by have:=cM.1;rw[hb]at this;exact this
  refine callsIn_wide.1 (callsIn_of_wp_marks (n:=0) hf hb trivial (UC (B:=w.heap.size) ok hm 1000 c (t0 xs) σ _ F w _ _ none hc h ⟨fun i=>?_,aJ,by simp;omega,⟨Nat.le_refl _,.nil,fun d hd=>by cases hd⟩⟩ ?_))
  ·show aF F w (match xs[i]? with | some x=>x | none=>.any) ((vs++Array.replicate (fn.ntmps-vs.size) undef).getD i undef)
   cases hi:xs[i]? with
   |none=>exact .any _
   |some x=>
    have ab:i<vs.size:=by rw[← cg.1];exact (cR.1 hi).1
    have:=cg.2 i x hi
    rw[jG]at this ⊢
    rw[L9 ab]
    exact this
  ·intro e t' σ' F' w' a' h1 h2 h3
   have fin:B4 TT fn.results.toList t' σ' (fun vs=>Fin R (FJ vs) σ')→LeavesInM Fence.wide 0 P fn a'.tmps (fun e w'=>∃r v σ' F',e=.returned v∧bL F w F' w'∧bC F' w' σ'∧aF F' w' r v∧R r σ') a'.defers .returning w':=by
    intro h3
    have hmk:∀d∈a'.defers,∃D,d = { target:=.collected D,args:= #[] }:=fun d hd=>(h2.defers.is d hd).imp fun _ h=>h.1
    refine MG a'.defers w' h2.defers.nodup (fun d hd=>(h2.defers.is d hd).imp fun _ h=>⟨h.1,h.2.2.2⟩) ?_
    have hD:∀b,y8 b a'.defers→w.heap.size≤b∧F' b∧w'.heap[b]?=some (.deferred (some [])):=fun b hb=>by
     obtain⟨D,q1,q2,q3,q4⟩:=h2.defers.is _ hb
     cases q1
     exact⟨q2,q3,q4⟩
    have Cf:=U0 (w:=w') hmk
    obtain⟨z1,z2,z3,z4,z5⟩:=VX (w:=w') (ds:=a'.defers)
    obtain⟨w2,zT⟩:∃w2,w2=shut w' a'.defers:=⟨_,rfl⟩
    rw[← zT]at Cf z1 z2 z3 z4 z5 ⊢
    have kI:∀b,nE w' b→¬y8 b a'.defers:=fun b ⟨c,T,fz,hc⟩ hb=>by
     rw[(hD b hb).2.2]at hc;cases hc
    have nc:NC F' w' (fun b=>F' b∧¬y8 b a'.defers) w2:=⟨fun b hb=>⟨hb.1,kI b hb.2⟩,fun b hb=>Cf b (kI b hb)⟩
    have st2:bL F w (fun b=>F' b∧¬y8 b a'.defers) w2:= {
     os:=z1.trans h1.os
     tape:=z2.trans h1.tape
     output:=z3.trans h1.output
     size:=by rw[z4];exact h1.size
     sub:=fun b hF=>⟨h1.sub b hF,fun hb=>by have:=(hD b hb).1;have:=aJ.low b hF;omega⟩
     fix:=fun b hF=>by
      rw[Cf b (fun hb=>by have:=(hD b hb).1;have:=aJ.low b hF;omega)]
      exact h1.fix b hF
     rows:=fun b c T fz hc=>by
      obtain⟨c',qW,q1,q2⟩:=h1.rows b c T fz hc
      exact⟨c',qW,(Cf b (kI b ⟨c',T,qW,q1⟩)).trans q1,q2⟩
     drawn:=by rw[z5];exact h1.drawn }
    have SK:bC (fun b=>F' b∧¬y8 b a'.defers) w2 σ':=h2.hp.nc nc (fun p hp=>⟨Cf p.1 (fun hb=>(h2.hp.holds p hp).1 (hD p.1 hb).2.1),fun h=>(h2.hp.holds p hp).1 h.1⟩) (fun b hb=>by rw[z4];exact h2.hp.low b hb.1)
    obtain⟨eD,us,k1,k2,k3,k4⟩:=Hx ok _ _ _ _ h3 _ w2 a' (fun i=>(h2.tm i).nc nc) SK
    have adQ:(results fn a'.tmps).run P w2=.ok (if h:us.toArray.size=1 then us.toArray[0] else .tuple us.toArray) w2:=by
     rw[show results fn a'.tmps=(do let vs ← fn.results.mapM (EY a'.tmps);pure (if h:vs.size=1 then vs[0] else .tuple vs)) from rfl]
     rw[Sem.run_bind,Array.mapM_eq_mapM_toList]
     simp only[Sem.run_map,k2,Result.andThen_ok]
     rfl
    have adR:=Zx eD us k3 k4
    obtain⟨r',kh,ny,q1,q2,q3,q4⟩:=OB k1 _ w2 _ SK adR
    exact⟨_,adQ,r',_,kh,ny,rfl,st2.trans q1,q2,q3,q4⟩
   cases e with
   |normal=>exact fin h3
   |ret=>exact fin h3
   |exit i=>exact h3.elim
   |goto l=>exact h3.elim
theorem ACalls.mono{f:FuncId}{xs:List AV}{σ:Hp}{R R':AV→Hp→Prop}(h:ACalls P f xs σ R)(hr:∀r σ',R r σ'→R' r σ'):ACalls P f xs σ R':=
 ⟨h.1,fun F w vs hv aJ=>(h.2 F w vs hv aJ).mono fun _ _ ⟨r,v,σ',F',h1,h2,h3,h4,h5⟩=>⟨r,v,σ',F',h1,h2,h3,h4,hr _ _ h5⟩⟩
theorem ACalls.fin{f:FuncId}{xs:List AV}{σ:Hp}{R R':AV→Hp→Prop}(h:ACalls P f xs σ R)(hr:∀r σ',R r σ'→Fin R' r σ'):ACalls P f xs σ R':=
 ⟨h.1,fun F w vs hv aJ=>(h.2 F w vs hv aJ).mono fun _ _ ⟨r,v,σ',F',h1,h2,h3,h4,h5⟩=>by
  obtain⟨r',kh,ny,q1,q2,q3,q4⟩:=OB (hr _ _ h5) F' _ v h3 h4
  exact⟨r',v,kh,ny,h1,h2.trans q1,q2,q3,q4⟩⟩
def Sh.pos:Sh→Bool
 |.slice e=>decide (0<e.size)&&e.pos
 |.field f r=>f.pos&&r.pos
 |_=>true
theorem Ow{w:World}:∀(s:Sh) (cs:List Value) (d:s.T),s.pos=true→Reads w s cs d→kG (fun b=>b<w.heap.size) w s cs d:=by
 intro s
 induction s with
 |int k=>exact fun _ _ _ h=>h.1
 |bool=>exact fun _ _ _ h=>h
 |str=>exact fun _ _ _ h=>h.1
 |nil=>exact fun _ _ _ h=>h
 |slice e ih=>
  rintro cs l hp ⟨a,c,h1,h2,h3,h0,h4⟩
  simp only[Sh.pos,b9,decide_eq_true_eq]at hp
  refine⟨a,c,h1,h2,h3,h0,fun bc=>?_⟩
  obtain⟨b,o,rfl,hi⟩:=h4 bc
  have sJ:0<l.length:=mK.2 bc
  refine⟨b,o,rfl,?_,fun i h=>?_⟩
  ·obtain⟨cs',q1,q2,q3⟩:=hi 0 sJ
   cases cs' with
   |nil=>simp at q1;omega
   |cons u cs'=>
    have kI:=q2 0 u rfl
    unfold World.cell? at kI
    cases ho:w.heap[b]? with
    |none=>simp[ho]at kI
    |some x=>
     cases x with
     |cells c T fz=>exact⟨sC ho,c,T,fz,ho⟩
     |_=>simp[ho]at kI
  ·obtain⟨cs',q1,q2,q3⟩:=hi i h
   exact⟨cs',q1,q2,ih _ _ hp.2 q3⟩
 |field f r pS jS=>
  rintro cs d hp ⟨c1,c2,h1,h2,h3,h4⟩
  simp only[Sh.pos,b9]at hp
  exact⟨c1,c2,h1,h2,pS _ _ hp.1 h3,jS _ _ hp.2 h4⟩
theorem abv{f:FuncId}{xs:List AV}(h:ACalls P f xs [] (fun r _=>r=.bool true)){w:World}{vs:Array Value}(hv:ja (fun b=>b<w.heap.size) w xs vs):
  Calls P f vs w fun e w'=>e=.returned (.bool true)∧Below w.heap.size w w':=by
 refine (h.2 _ w vs hv ⟨by simp,(fun p hp=>by cases hp),fun _ h=>h⟩).mono ?_
 rintro e w' ⟨r,v,σ',F',rfl,h1,h2,h3,rfl⟩
 rw[h3.qz]
 exact⟨rfl,h1.os,h1.tape,h1.output,h1.size,fun k hk=>h1.fix k hk⟩
end
end Go.Proofs.YtnikdflhefijbaaGreat
namespace Go.Proofs.YtnikdflhefijbaaGreat
abbrev aE:AV:=.int .i64 0
abbrev aH:Option TI:=some ⟨.func,1,8,[.iI]⟩
abbrev iJ(n:Nat):Option TI:=some ⟨.ptr n,1,8,[.aG]⟩
abbrev nQ(n:Nat):Option TI:=some ⟨.slice n,1,24,[.ak]⟩
abbrev FG:Option TI:=some ⟨.int .i64,1,8,[.int .i64 0]⟩
def tbl:List (List (Option TI)):=[
 [none,aH,FG,FG,some ⟨.bool,1,1,[.bool false]⟩,some ⟨.int .u8,1,1,[.int .u8 0]⟩,some ⟨.int .u8,1,1,[.int .u8 0]⟩,some ⟨.bB [(0,2),(1,3),(2,4),(3,6)],4,24,[aE,aE,.bool false,.int .u8 0]⟩,some ⟨.bB [(0,2),(1,3),(2,4),(3,6)],4,24,[aE,aE,.bool false,.int .u8 0]⟩,some ⟨.str,1,16,[.str ByteArray.empty]⟩,some ⟨.str,1,16,[.str ByteArray.empty]⟩,some ⟨.str,1,16,[.str ByteArray.empty]⟩,some ⟨.int .u64,1,8,[.int .u64 0]⟩,some ⟨.bB [(0,9),(1,12)],2,24,[.str ByteArray.empty,.int .u64 0]⟩,some ⟨.bB [(0,9),(1,12)],2,24,[.str ByteArray.empty,.int .u64 0]⟩,iJ 386],[iJ 389,iJ 397,some ⟨.bB [(0,17)],1,8,[.aG]⟩,some ⟨.bB [(0,17)],1,8,[.aG]⟩,some ⟨.iface,1,16,[.nilif]⟩,some ⟨.int .i32,1,4,[.int .i32 0]⟩,nQ 227,nQ 3,nQ 56,nQ 93,some ⟨.bB [(0,3),(1,3),(2,3),(3,22),(4,23),(5,24),(6,25)],7,120,[aE,aE,aE,.ak,.ak,.ak,.ak]⟩,some ⟨.bB [(0,3),(1,3),(2,3),(3,22),(4,23),(5,24),(6,25)],7,120,[aE,aE,aE,.ak,.ak,.ak,.ak]⟩,nQ 121,aH,aH,nQ 24],[some ⟨.bB [(0,31),(1,3),(2,3),(3,3)],4,48,[.ak,aE,aE,aE]⟩,some ⟨.bB [(0,31),(1,3),(2,3),(3,3)],4,48,[.ak,aE,aE,aE]⟩,FG,none,aH,nQ 4,some ⟨.bB [(0,31),(1,37),(2,3),(3,3),(4,3),(5,3),(6,23),(7,23),(8,37)],9,152,[.ak,.ak,aE,aE,aE,aE,.ak,.ak,.ak]⟩,some ⟨.bB [(0,31),(1,37),(2,3),(3,3),(4,3),(5,3),(6,23),(7,23),(8,37)],9,152,[.ak,.ak,aE,aE,aE,aE,.ak,.ak,.ak]⟩,none,aH,some ⟨.bB [(0,3),(1,3),(2,3),(3,3)],4,32,[aE,aE,aE,aE]⟩,some ⟨.bB [(0,3),(1,3),(2,3),(3,3)],4,32,[aE,aE,aE,aE]⟩,none,aH,iJ 58,nQ 123],[none,aH,none,aH,none,aH,aH,aH,some ⟨.int .u64,1,8,[.int .u64 0]⟩,some ⟨.bB [(0,24)],1,24,[.ak]⟩,some ⟨.bB [(0,24)],1,24,[.ak]⟩,aH,aH,aH,some ⟨.int .u16,1,2,[.int .u16 0]⟩,aH],[aH,aH,aH,aH,aH,aH,aH,none,aH,aH,aH,none,aH,nQ 84,none,aH],[none,aH,aH,some ⟨.bB [(0,3),(1,3),(2,56),(3,56),(4,56),(5,4)],6,48,[aE,aE,.int .u64 0,.int .u64 0,.int .u64 0,.bool false]⟩,some ⟨.bB [(0,3),(1,3),(2,56),(3,56),(4,56),(5,4)],6,48,[aE,aE,.int .u64 0,.int .u64 0,.int .u64 0,.bool false]⟩,some ⟨.bB [(0,3),(1,3),(2,3),(3,3)],4,32,[aE,aE,aE,aE]⟩,none,aH,aH,aH,aH,nQ 233,some ⟨.bB [(0,24),(1,24),(2,91)],3,72,[.ak,.ak,.ak]⟩,some ⟨.bB [(0,24),(1,24),(2,91)],3,72,[.ak,.ak,.ak]⟩,iJ 217,nQ 168],[some ⟨.bB [(0,23),(1,37),(2,3)],3,56,[.ak,.ak,aE]⟩,some ⟨.bB [(0,23),(1,37),(2,3)],3,56,[.ak,.ak,aE]⟩,some ⟨.bB [(0,94),(1,85),(5,95),(6,97)],9,120,[.aG,aE,aE,aE,aE,.ak,.ak,.ak,aE]⟩,some ⟨.bB [(0,94),(1,85),(5,95),(6,97)],9,120,[.aG,aE,aE,aE,aE,.ak,.ak,.ak,aE]⟩,none,aH,aH,aH,aH,some ⟨.bB [(0,3),(1,3)],2,16,[aE,aE]⟩,some ⟨.bB [(0,3),(1,3)],2,16,[aE,aE]⟩,aH,aH,aH,aH,aH],[aH,some ⟨.bB [(0,3),(1,3)],2,16,[aE,aE]⟩,some ⟨.bB [(0,3),(1,3)],2,16,[aE,aE]⟩,aH,aH,aH,aH,aH,some ⟨.bB [(0,3),(1,3)],2,16,[aE,aE]⟩,some ⟨.bB [(0,3),(1,3)],2,16,[aE,aE]⟩,aH,iJ 129,aH,iJ 238,iJ 245,iJ 242],[some ⟨.bB [(0,27),(7,43),(11,3),(12,3),(13,3),(14,4),(15,23),(16,24),(17,125),(18,126),(19,127),(20,24),(21,3),(22,3),(23,4)],24,304,[aE,aE,aE,.ak,.ak,.ak,.ak,aE,aE,aE,aE,aE,aE,aE,.bool false,.ak,.ak,.aG,.aG,.aG,.ak,aE,aE,.bool false]⟩,some ⟨.bB [(0,27),(7,43),(11,3),(12,3),(13,3),(14,4),(15,23),(16,24),(17,125),(18,126),(19,127),(20,24),(21,3),(22,3),(23,4)],24,304,[aE,aE,aE,.ak,.ak,.ak,.ak,aE,aE,aE,aE,aE,aE,aE,.bool false,.ak,.ak,.aG,.aG,.aG,.ak,aE,aE,.bool false]⟩,aH,aH,aH,none,aH,aH,aH,aH,aH,aH,aH,iJ 165,some ⟨.bB [(0,141)],1,8,[.aG]⟩,some ⟨.bB [(0,141)],1,8,[.aG]⟩],[none,aH,aH,aH,aH,aH,nQ 23,aH,aH,aH,aH,aH,aH,aH,aH,aH],[some ⟨.iface,1,16,[.nilif]⟩,some ⟨.iface,1,16,[.nilif]⟩,some ⟨.bB [(0,161)],1,16,[.nilif]⟩,some ⟨.bB [(0,161)],1,16,[.nilif]⟩,some ⟨.bB [(0,163),(1,77)],2,40,[.nilif,.ak]⟩,some ⟨.bB [(0,163),(1,77)],2,40,[.nilif,.ak]⟩,aH,aH,iJ 186,none,aH,aH,aH,nQ 176,aH,some ⟨.iface,1,16,[.nilif]⟩],[some ⟨.iface,1,16,[.nilif]⟩,aH,aH,some ⟨.bB [(0,3),(1,3),(2,3)],3,24,[aE,aE,aE]⟩,some ⟨.bB [(0,3),(1,3),(2,3)],3,24,[aE,aE,aE]⟩,aH,aH,aH,some ⟨.iface,1,16,[.nilif]⟩,some ⟨.bB [(0,3),(1,3),(2,4),(3,27),(10,85),(14,3),(15,3),(16,184),(17,3),(18,4),(19,23),(20,24),(21,4)],22,280,[aE,aE,.bool false,aE,aE,aE,.ak,.ak,.ak,.ak,aE,aE,aE,aE,aE,aE,.nilif,aE,.bool false,.ak,.ak,.bool false]⟩,some ⟨.bB [(0,3),(1,3),(2,4),(3,27),(10,85),(14,3),(15,3),(16,184),(17,3),(18,4),(19,23),(20,24),(21,4)],22,280,[aE,aE,.bool false,aE,aE,aE,.ak,.ak,.ak,.ak,aE,aE,aE,aE,aE,aE,.nilif,aE,.bool false,.ak,.ak,.bool false]⟩,aH,aH,aH,aH,aH],[aH,none,aH,some ⟨.bB [(0,3),(1,3),(2,56),(3,56)],4,32,[aE,aE,.int .u64 0,.int .u64 0]⟩,some ⟨.bB [(0,3),(1,3),(2,56),(3,56)],4,32,[aE,aE,.int .u64 0,.int .u64 0]⟩,aH,aH,aH,aH,aH,aH,aH,none,aH,aH,aH],[aH,aH,aH,aH,aH,some ⟨.bB [(0,3)],1,8,[aE]⟩,some ⟨.bB [(0,3)],1,8,[aE]⟩,aH,some ⟨.bB [(0,214),(1,24)],2,32,[aE,.ak]⟩,some ⟨.bB [(0,214),(1,24)],2,32,[aE,.ak]⟩,aH,none,aH,aH,none,aH],[aH,aH,some ⟨.bB [(0,3),(1,3)],2,16,[aE,aE]⟩,some ⟨.bB [(0,3),(1,3)],2,16,[aE,aE]⟩,some ⟨.bB [(0,3),(1,3)],2,16,[aE,aE]⟩,some ⟨.bB [(0,3),(1,3)],2,16,[aE,aE]⟩,some ⟨.bB [(0,3),(1,229)],3,24,[aE,aE,aE]⟩,some ⟨.bB [(0,3),(1,229)],3,24,[aE,aE,aE]⟩,some ⟨.bB [(0,3),(1,3),(2,231),(5,231)],8,64,[aE,aE,aE,aE,aE,aE,aE,aE]⟩,some ⟨.bB [(0,3),(1,3),(2,231),(5,231)],8,64,[aE,aE,aE,aE,aE,aE,aE,aE]⟩,aH,aH,aH,some ⟨.bB [(0,3),(1,3),(2,3),(3,56),(4,4),(5,4),(6,3),(7,56),(8,56),(9,56)],10,72,[aE,aE,aE,.int .u64 0,.bool false,.bool false,aE,.int .u64 0,.int .u64 0,.int .u64 0]⟩,some ⟨.bB [(0,3),(1,3),(2,3),(3,56),(4,4),(5,4),(6,3),(7,56),(8,56),(9,56)],10,72,[aE,aE,aE,.int .u64 0,.bool false,.bool false,aE,.int .u64 0,.int .u64 0,.int .u64 0]⟩,aH],[aH,some ⟨.bB [(0,3),(1,3),(2,3),(3,24),(4,3),(5,4),(6,56),(7,4),(8,4),(9,3)],10,88,[aE,aE,aE,.ak,aE,.bool false,.int .u64 0,.bool false,.bool false,aE]⟩,some ⟨.bB [(0,3),(1,3),(2,3),(3,24),(4,3),(5,4),(6,56),(7,4),(8,4),(9,3)],10,88,[aE,aE,aE,.ak,aE,.bool false,.int .u64 0,.bool false,.bool false,aE]⟩,aH,some ⟨.bB [(0,3),(1,3),(2,3),(3,3),(4,3),(5,4),(6,4),(7,4),(8,3)],9,56,[aE,aE,aE,aE,aE,.bool false,.bool false,.bool false,aE]⟩,some ⟨.bB [(0,3),(1,3),(2,3),(3,3),(4,3),(5,4),(6,4),(7,4),(8,3)],9,56,[aE,aE,aE,aE,aE,.bool false,.bool false,.bool false,aE]⟩,aH,none,aH,aH,aH,aH,aH,some ⟨.int .u64,1,8,[.int .u64 0]⟩,none,aH],[aH,aH,aH,aH,aH,aH,aH,aH,aH,aH,aH,aH,aH,none,aH,aH],[aH,aH,aH,aH,aH,aH,aH,aH,aH,aH,aH,aH,some ⟨.int .u32,1,4,[.int .u32 0]⟩,none,aH,none],[aH,none,aH,aH,aH,aH,aH,aH,aH,aH,aH,aH,aH,aH,aH,aH],[aH,aH,aH,FG,none,aH,aH,aH,none,aH,aH,aH,aH,aH,aH,aH],[aH,aH,aH,aH,aH,some ⟨.bB [(0,150),(1,23),(2,23),(3,37),(4,23),(5,3),(6,150)],7,152,[.ak,.ak,.ak,.ak,.ak,aE,.ak]⟩,some ⟨.bB [(0,150),(1,23),(2,23),(3,37),(4,23),(5,3),(6,150)],7,152,[.ak,.ak,.ak,.ak,.ak,aE,.ak]⟩,aH,aH,aH,aH,some ⟨.int .u64,1,8,[.int .u64 0]⟩,aH,aH,aH,iJ 3],[aH,aH,aH,aH,aH,aH,iJ 326,some ⟨.bB [(0,3),(1,3)],2,16,[aE,aE]⟩,some ⟨.bB [(0,3),(1,3)],2,16,[aE,aE]⟩,aH,nQ 344,iJ 344,aH,aH,aH,aH],[aH,iJ 331,aH,aH,aH,aH,nQ 360,some ⟨.bB [(0,3),(1,3)],2,16,[aE,aE]⟩,some ⟨.bB [(0,3),(1,3)],2,16,[aE,aE]⟩,iJ 360,aH,aH,aH,aH,none,aH],[aH,aH,aH,aH,aH,aH,aH,aH,aH,aH,aH,aH,some ⟨.fS,1,16,[.fS 0 0]⟩,aH,some ⟨.gr,1,8,[.gr 0]⟩,aH],[aH,some ⟨.bB [(0,17),(1,17),(2,17),(3,9)],4,40,[.aG,.aG,.aG,.str ByteArray.empty]⟩,some ⟨.bB [(0,17),(1,17),(2,17),(3,9)],4,40,[.aG,.aG,.aG,.str ByteArray.empty]⟩,some ⟨.arr 0 16,0,0,[]⟩,some ⟨.bB [(0,387)],0,0,[]⟩,some ⟨.bB [(0,387)],0,0,[]⟩,some ⟨.int .u8,1,1,[.int .u8 0]⟩,some ⟨.int .u8,1,1,[.int .u8 0]⟩,aH,iJ 5,some ⟨.int .i32,1,4,[.int .i32 0]⟩,some ⟨.int .i32,1,4,[.int .i32 0]⟩,some ⟨.bB [(0,12),(1,12),(2,284),(3,390),(4,5),(5,5),(6,391),(7,392),(8,393),(9,394),(10,395)],11,48,[.int .u64 0,.int .u64 0,.int .u32 0,.int .u8 0,.int .u8 0,.int .u8 0,.int .u8 0,.iI,.aG,.int .i32 0,.int .i32 0]⟩,some ⟨.bB [(0,12),(1,12),(2,284),(3,390),(4,5),(5,5),(6,391),(7,392),(8,393),(9,394),(10,395)],11,48,[.int .u64 0,.int .u64 0,.int .u32 0,.int .u8 0,.int .u8 0,.int .u8 0,.int .u8 0,.iI,.aG,.int .i32 0,.int .i32 0]⟩,aH,iJ 403],[some ⟨.bB [(0,3),(1,56),(2,56),(3,56)],4,32,[aE,.int .u64 0,.int .u64 0,.int .u64 0]⟩,some ⟨.bB [(0,3),(1,56),(2,56),(3,56)],4,32,[aE,.int .u64 0,.int .u64 0,.int .u64 0]⟩,some ⟨.bB [(0,114),(2,56),(3,4),(4,4),(5,401)],9,64,[aE,aE,.int .u64 0,.bool false,.bool false,aE,.int .u64 0,.int .u64 0,.int .u64 0]⟩,some ⟨.bB [(0,114),(2,56),(3,4),(4,4),(5,401)],9,64,[aE,aE,.int .u64 0,.bool false,.bool false,aE,.int .u64 0,.int .u64 0,.int .u64 0]⟩,iJ 405,some ⟨.bB [(0,114),(2,56),(3,4),(4,4),(5,401)],9,64,[aE,aE,.int .u64 0,.bool false,.bool false,aE,.int .u64 0,.int .u64 0,.int .u64 0]⟩,iJ 408,some ⟨.bB [(0,106),(2,4),(3,4)],4,24,[aE,aE,.bool false,.bool false]⟩,some ⟨.bB [(0,106),(2,4),(3,4)],4,24,[aE,aE,.bool false,.bool false]⟩,iJ 411,some ⟨.bB [(0,106),(2,3),(3,4)],4,32,[aE,aE,aE,.bool false]⟩,some ⟨.bB [(0,106),(2,3),(3,4)],4,32,[aE,aE,aE,.bool false]⟩,iJ 416,some ⟨.bB [(0,3),(1,4),(2,56)],3,24,[aE,.bool false,.int .u64 0]⟩,some ⟨.bB [(0,3),(1,4),(2,56)],3,24,[aE,.bool false,.int .u64 0]⟩,some ⟨.bB [(0,180),(3,24),(4,4),(5,414)],8,80,[aE,aE,aE,.ak,.bool false,aE,.bool false,.int .u64 0]⟩],[some ⟨.bB [(0,180),(3,24),(4,4),(5,414)],8,80,[aE,aE,aE,.ak,.bool false,aE,.bool false,.int .u64 0]⟩,iJ 419,some ⟨.bB [(0,180),(3,24),(4,4),(5,4),(6,3),(7,414)],10,88,[aE,aE,aE,.ak,.bool false,.bool false,aE,aE,.bool false,.int .u64 0]⟩,some ⟨.bB [(0,180),(3,24),(4,4),(5,4),(6,3),(7,414)],10,88,[aE,aE,aE,.ak,.bool false,.bool false,aE,aE,.bool false,.int .u64 0]⟩,iJ 424,some ⟨.bB [(0,4)],1,1,[.bool false]⟩,some ⟨.bB [(0,4)],1,1,[.bool false]⟩,some ⟨.bB [(0,106),(2,3),(3,4),(4,4),(5,422)],6,32,[aE,aE,aE,.bool false,.bool false,.bool false]⟩,some ⟨.bB [(0,106),(2,3),(3,4),(4,4),(5,422)],6,32,[aE,aE,aE,.bool false,.bool false,.bool false]⟩,iJ 426,some ⟨.bB [(0,114),(2,56),(3,4),(4,4),(5,401)],9,64,[aE,aE,.int .u64 0,.bool false,.bool false,aE,.int .u64 0,.int .u64 0,.int .u64 0]⟩,iJ 429,some ⟨.bB [(0,106),(2,3),(3,4)],4,32,[aE,aE,aE,.bool false]⟩,some ⟨.bB [(0,106),(2,3),(3,4)],4,32,[aE,aE,aE,.bool false]⟩,aH,none]]
def tt(t:TypeId):Option TI:=match tbl[t / 16]? with | some r=>(match r[t % 16]? with | some x=>x | none=>none) | none=>none
theorem ab6:RV Tryz.prog tt 432=true:=by kernel_rfl
theorem Zr(t:TypeId)(h:432≤t):tt t=none:=by
 unfold tt
 rw[r9 (show tbl.length≤t / 16 from (Nat.le_div_iff_mul_le (by decide)).2 h)]
theorem acu:dH Tryz.prog tt:=Zq ab6 Zr
end Go.Proofs.YtnikdflhefijbaaGreat
namespace Go.Proofs.YtnikdflhefijbaaGreat
theorem okF{f:FuncId}{fn:Func}{xs:List AV}{σ:Hp}{R:AV→Hp→Prop}(hf:Tryz.prog.funcs[f]?=some fn)(cM:funcOk fn=true)(h:sB Tryz.prog tt fn xs σ R):ACalls Tryz.prog f xs σ R:=
 W7 acu (by kernel_rfl) hf cM h
theorem au{f:FuncId}{fn:Func}{xs:List AV}{σ:Hp}{R:AV→Hp→Prop}(hf:Tryz.prog.funcs[f]?=some fn)(h:sB Tryz.prog tt fn xs σ R)(cM:funcOk fn=true:=by kernel_rfl):ACalls Tryz.prog f xs σ R:=okF hf cM h
theorem bh{S:Type}(L:S→List (Nat×AV))(H:S→Hp)(p:S→Prop)(μ:S→Nat)(s0:S){body:Tm→Hp→(Ex→Tm→Hp→Prop)→Prop}{t:Tm}{σ:Hp}{Q:Ex→Tm→Hp→Prop}(h0:p s0∧agree t (L s0)∧σ=H s0)
  (round:∀s g,p s→body (mC g (L s)) (H s) (fun e t' σ'=>match e with | .normal=>oP L H p μ s t' σ' | e=>Q e t' σ')):my body Q t σ:=.mk L H p μ s0 h0 round
theorem aM{S:Type}{L:S→List (Nat×AV)}{H:S→Hp}{p:S→Prop}{μ:S→Nat}{s:S}{t':Tm}{σ':Hp}(s':S)(h1:μ s'<μ s)(h2:p s')(h3:agree t' (L s'))(h4:jg σ' (H s')):oP L H p μ s t' σ':=.mk s' h1 h2 h3 h4
theorem next{S:Type}{L:S→List (Nat×AV)}{H:S→Hp}{p:S→Prop}{μ:S→Nat}{s:S}{t':Tm}{σ':Hp}(s':S)(h1:μ s'<μ s)(h2:p s')(h3:agree t' (L s'))(h4:σ'=H s'):oP L H p μ s t' σ':=.mk s' h1 h2 h3 (h4▸.refl _)
def upto(Q:List Nat)(n:Nat):Nat→pg:=Nat.rec (motive:=fun _=>Nat→pg) (fun _=>.stop) (fun _ ih i=>.one i (eX i Q) (ih (i+1))) n
theorem aN{σ σ2:Hp}(h:σ=σ2):jg σ σ2:=h▸.refl _
theorem D2{P:Program}{f:FuncId}{e:Sh}{l:List e.T}{σ:Hp}{R:AV→Hp→Prop}(h0:l=[]→ACalls P f [.ak] σ R∧ACalls P f [.gZ] σ R)(h1:l≠[]→ACalls P f [.af e l] σ R):ACalls P f [.af e l] σ R:=by
 by_cases hl:l=[]
 ·obtain⟨k0,k1⟩:=h0 hl
  refine⟨k0.1,fun F w vs cg aJ =>?_⟩
  have hv:=cg.2 0 _ rfl
  have qG:∀y,aF F w y (vs.getD 0 undef)→ja F w [y] vs:=fun y hy=>⟨cg.1,fun i x hx=>by cases i <;> simp at hx;subst hx;exact hy⟩
  subst hl
  generalize hu:vs.getD 0 undef=u at hv qG
  cases hv with
  |af _ _ _ hr=>
   obtain⟨a,c,e1,_,e3,e0,_⟩:=hr
   obtain rfl:=GU.1 e1
   cases a with
   |none=>
    obtain rfl:=e0 rfl
    exact k0.2 F w vs (qG _ .ak) aJ
   |some a=>exact k1.2 F w vs (qG _ (.gZ a c e3)) aJ
 ·exact h1 hl
theorem aL{k:Nat}(h:k<1000000000):AV.int .i64 (IntKind.i64.wrap ((k:Int)+1))=AV.int .i64 ((k+1:Nat):Int):=by
 rw[show IntKind.i64.wrap ((k:Int)+1)=((k+1:Nat):Int) by rw[IntKind.wrap_i64];omega]
theorem get_some{α:Type}{l:List α}{k:Nat}(h:k<l.length):l[((k:Int)).toNat]?=some l[k]:=bN h
def aD(x:AV)(σ:Hp):AV→Hp→Prop:=fun r σ'=>r=x∧σ'=σ
theorem ar{P:Program}{f:FuncId}{xs:List AV}{σ:Hp}{K:AV→Hp→Prop}(js:List Nat){x:AV}{σ2:Hp}(h:ACalls P f xs (nI js σ) (aD x σ2))(k:K x σ2):CallAt P f K xs σ:=
 CallAt.mk js _ h fun _ _ ⟨h1,h2⟩=>h1▸h2▸k
theorem aK{P:Program}{f:FuncId}{xs:List AV}{σ:Hp}{K:AV→Prop}(js:List Nat){x:AV}(h:ACalls P f xs (nI js σ) (aD x (nI js σ)))(k:K x):sE P f xs σ K:=sE.mk js x h k
theorem dr{P:Program}{f:FuncId}{xs:List AV}{σ:Hp}{K:AV→Hp→Prop}(js:List Nat){x:Bool}{σ2:Hp}(h:ACalls P f xs (nI js σ) (aD (.bool x) σ2))(k1:x=true→K (.bool true) σ2)(k2:x=false→K (.bool false) σ2):CallAt P f K xs σ:=
 ar js h (by cases x;exact k2 rfl;exact k1 rfl)
theorem Rv{P:Program}{f:FuncId}{xs:List AV}{σ:Hp}{K:AV→Prop}(js:List Nat){x:Bool}(h:ACalls P f xs (nI js σ) (aD (.bool x) (nI js σ)))(k1:x=true→K (.bool true))(k2:x=false→K (.bool false)):sE P f xs σ K:=
 aK js h (by cases x;exact k2 rfl;exact k1 rfl)
theorem eH.ij{i:TI}{σ:Hp}{b o:Nat}{K:AV→Prop}(j:Nat)(cs:List AV)(x:Bool)(h1:σ[j]?=some (b,cs))(h2:eF i cs o=some (.bool x))(k1:x=true→K (.bool true))(k2:x=false→K (.bool false)):eH i σ b o K:=
 .mk j cs _ h1 h2 (by cases x;exact k2 rfl;exact k1 rfl)
theorem qp{b off len es:Nat}{e:Sh}{l:List e.T}:eI b off len es e l (.tup []) (.tup []):=.refl _
theorem cc{b off len es:Nat}{e:Sh}{l:List e.T}{x y:AV}{xs ys:List AV}(h:eI b off len es e l x y)(t:eI b off len es e l (.tup xs) (.tup ys)):eI b off len es e l (.tup (x::xs)) (.tup (y::ys)):=by
 have hl:xs.length=ys.length∧∀(i:Nat) (x y:AV),xs[i]?=some x→ys[i]?=some y→eI b off len es e l x y:=by
  cases t with
  |refl=>exact⟨rfl,fun i x y hx hy=>by rw[hx]at hy;cases hy;exact .refl _⟩
  |tup _ _ h hi=>exact⟨h,hi⟩
 refine .tup _ _ (by simp[hl.1]) fun i x' y' hx hy=>?_
 cases i with
 |zero=>simp at hx hy;subst hx;subst hy;exact h
 |succ i=>exact hl.2 i x' y' (by simpa using hx) (by simpa using hy)
theorem cd{a b:Bool}(h:a=b):AV.bool a=AV.bool b:=by rw[h]
theorem aR{k:IntKind}{a b:Int}(h:a=b):AV.int k a=AV.int k b:=by rw[h]
theorem ez(fr b σ:Hp):(b++(fr++σ)).Perm (fr++(b++σ)):=by
 rw[← dh,← dh]
 exact List.Perm.append_right _ GY
theorem jb.mem{σ:Hp}{b off len es:Nat}{cs:List AV}(h:(b,cs)∈σ)(h2:off+len*es≤cs.length):jb σ es (.ah b off len es) len ((cs.drop off).take (len*es)):=by
 obtain⟨j,hj⟩:=yp.1 h
 exact .ah j b off len cs hj h2
theorem jb.perm{σ σ2:Hp}{es n:Nat}{x:AV}{new:List AV}(h:jb σ es x n new)(hp:σ2.Perm σ):jb σ2 es x n new:=by
 cases h with
 |ak=>exact .ak
 |km=>exact .km
 |gZ=>exact .gZ
 |af s l h=>exact .af s l h
 |ah j b off len cs h1 h2=>
  obtain⟨j',hj⟩:=yp.1 (hp.mem_iff.2 (dm h1))
  exact .ah j' b off _ cs hj h2
inductive Acc(e:Nat):Nat→AV→Hp→List AV→Prop where
 |nil:Acc e 0 .ak [] []
 |ah (b k:Nat) (cs:List AV) (h:cs.length=k*e):Acc e k (.ah b 0 k e) [(b,cs)] cs
theorem Acc.length{e k:Nat}{v:AV}{acc:Hp}{cs:List AV}(h:Acc e k v acc cs):cs.length=k*e:=by
 cases h with
 |nil=>simp
 |ah b k cs h=>exact h
theorem vu(fr acc σ:Hp):(acc++(fr++σ)).Perm (fr++(acc++σ)):=ez fr acc σ
theorem eU{i:TI}{K:AV→Hp→Prop}(fr:Hp){acc σ:Hp}{k n:Nat}{v x:AV}{cs new:List AV}(h:Acc i.size k v acc cs)(hx:jb (fr++(acc++σ)) i.size x n new)(fK:new.length=n*i.size)(hn:k+n≤1048576)(hb:i.bytes≤1024)(h0:0<i.size)
  (go:∀v' aU,Acc i.size (k+n) v' aU (cs++new)→K (.via v') (fr++(aU++σ))):AppendAt i (fr++(acc++σ)) v x K:=by
 have hl:=h.length
 cases h with
 |nil=>
  refine .perm _ (ez fr [] σ) (.fresh n new (.inl rfl) (hx.perm (ez fr [] σ)) (by omega) hb h0 (K:=fun v ef=>(n=0∧v=.ak∧ef=[]++(fr++σ))∨(n≠0∧∃b,v=.ah b 0 n i.size∧ef=(b,new)::([]++(fr++σ)))) (fun bc b=>.inr ⟨bc,b,rfl,rfl⟩) (fun h0=>.inl ⟨h0,rfl,rfl⟩)) ?_
  rintro v ef (⟨hz,rfl,rfl⟩ | ⟨hz,b,rfl,rfl⟩)
  ·subst hz
   obtain rfl:new=[]:=List.length_eq_zero_iff.1 (by simpa using fK)
   exact⟨_,(ez fr [] σ).symm,.inr ⟨rfl,go _ _ .nil⟩⟩
  ·refine⟨_,(ez fr [(b,new)] σ).symm,.inr ⟨rfl,go _ _ ?_⟩⟩
   have:=Acc.ah (e:=i.size) b (0+n) new (by rw[fK,dU])
   rw[dU]at this ⊢
   exact this
 |ah b k cs h=>
  refine .perm _ (ez fr [(b,cs)] σ) (.more 0 b k n cs new rfl rfl (by rw[h];exact bJ _) (hx.perm (ez fr [(b,cs)] σ)) hn hb h0 (K:=fun v ef=>∃b',v=.ah b' 0 (k+n) i.size∧ef=(b',cs.take (k*i.size)++new)::(fr++σ)) (fun b'=>⟨b',rfl,rfl⟩)) ?_
  rintro v ef ⟨b',rfl,rfl⟩
  rw[dN (by omega)]
  exact⟨_,(ez fr [(b',cs++new)] σ).symm,.inr ⟨rfl,go _ _ (.ah _ _ _ (by rw[bG,h,fK,qT]))⟩⟩
theorem kZ{R:AV→Hp→Prop}(fr:Hp){acc σ:Hp}{s:Sh}{k:Nat}{v:AV}{cs:List AV}{l:List s.T}(h:Acc s.size k v acc cs)(hl:k=l.length)(hc:cs=l.flatMap s.cells)(hp:0<s.size)(go:Fin R (.af s l) (fr++σ)):Fin R v (fr++(acc++σ)):=by
 subst hl
 have hlen:=h.length
 refine .perm (ez fr acc σ) ?_
 generalize hk:l.length=k at h
 cases h with
 |nil=>
  obtain rfl:=jm.1 hk
  exact .nil (.nil _) go
 |ah b k cs h=>
  subst hk
  exact .cH 0 b 0 l.length s.size cs s l rfl (by rw[fG,dN (by omega)];exact hc) ⟨rfl,rfl,hp⟩ .here go
def an(l:List Int):List AV:=l.map (.int .i64)
theorem ir:∀l:List Int,an l=l.flatMap (Sh.cells (.int .i64))
 | []=>rfl
 |x::l=>congrArg (AV.int .i64 x :: ·) (ir l)
theorem qj{f:FuncId}{xs:List AV}{σ σ':Hp}{x y:AV}(h:ACalls Tryz.prog f xs σ (aD x σ'))(e:x=y):ACalls Tryz.prog f xs σ (aD y σ'):=e▸h
theorem mQ{α:Type}{l:List α}{k:Nat}(h:k<l.length)(p:α→Bool):(l.take (k+1)).any p=((l.take k).any p||p l[k]):=by
 rw[List.take_succ_eq_append_getElem h,List.any_append];simp
set_option maxRecDepth 100000
theorem yC{i:TI}{K:AV→Hp→Prop}(fr:Hp){acc σ:Hp}{k n:Nat}{v x:AV}{cs new:List AV}(h:Acc i.size k v acc cs)(hx:jb (fr++(acc++σ)) i.size x n new)(fK:new.length=n*i.size)(hn:k+n≤1048576)(hb:i.bytes≤1024)(h0:0<i.size)
  (go:∀v' aU,Acc i.size (k+n) v' aU (cs++new)→K v' (fr++(aU++σ))):AppendAt i (fr++(acc++σ)) v x K:=by
 have hl:=h.length
 cases h with
 |nil=>
  refine .perm _ (ez fr [] σ) (.fresh n new (.inl rfl) (hx.perm (ez fr [] σ)) (by omega) hb h0 (K:=fun v ef=>(n=0∧v=.ak∧ef=[]++(fr++σ))∨(n≠0∧∃b,v=.ah b 0 n i.size∧ef=(b,new)::([]++(fr++σ)))) (fun bc b=>.inr ⟨bc,b,rfl,rfl⟩) (fun h0=>.inl ⟨h0,rfl,rfl⟩)) ?_
  rintro v ef (⟨hz,rfl,rfl⟩ | ⟨hz,b,rfl,rfl⟩)
  ·subst hz
   obtain rfl:new=[]:=List.length_eq_zero_iff.1 (by simpa using fK)
   exact⟨_,(ez fr [] σ).symm,.inl (go _ _ .nil)⟩
  ·refine⟨_,(ez fr [(b,new)] σ).symm,.inl (go _ _ ?_)⟩
   have:=Acc.ah (e:=i.size) b (0+n) new (by rw[fK,dU])
   rw[dU]at this ⊢
   exact this
 |ah b k cs h=>
  refine .perm _ (ez fr [(b,cs)] σ) (.more 0 b k n cs new rfl rfl (by rw[h];exact bJ _) (hx.perm (ez fr [(b,cs)] σ)) hn hb h0 (K:=fun v ef=>∃b',v=.ah b' 0 (k+n) i.size∧ef=(b',cs.take (k*i.size)++new)::(fr++σ)) (fun b'=>⟨b',rfl,rfl⟩)) ?_
  rintro v ef ⟨b',rfl,rfl⟩
  rw[dN (by omega)]
  exact⟨_,(ez fr [(b',cs++new)] σ).symm,.inl (go _ _ (.ah _ _ _ (by rw[bG,h,fK,qT])))⟩
theorem hG(f:List Hp)(σ:Hp){a b:List Nat}(h:a.Perm b):(a.foldr (fun i t=>f.getD i []++t) σ).Perm (b.foldr (fun i t=>f.getD i []++t) σ):=by
 induction h with
 |nil=>exact .refl _
 |cons x _ ih=>exact ih.append_left _
 |swap x y l=>exact ez _ _ _
 |trans _ _ CH CG=>exact CH.trans CG
end Go.Proofs.YtnikdflhefijbaaGreat
