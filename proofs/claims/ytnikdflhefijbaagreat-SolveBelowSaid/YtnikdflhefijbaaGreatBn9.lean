import Derived.WalkMore
import Derived.Test.YtnikdflhefijbaaGreatBn8
import Derived.Test.YtnikdflhefijbaaGreatBn1
namespace Go.Proofs.YtnikdflhefijbaaGreat
open Go.RowKit
section
variable {P:Program} {TT:TypeId→Option TI}
def C7(n:Nat)(o:Oper):Bool:=(match o.dst with | some d=>Nat.blt d n | none=>true)&&(match o.op with | .defer _=>false | _=>true)
def codeOk(n:Nat):Bool→Code→Bool
 |_,.region _ ops _=>ops.toList.all (C7 n)
 |rd,.seq a b=>codeOk n rd a&&codeOk n rd b
 |rd,.cond _ a b=>codeOk n rd a&&codeOk n rd b
 |rd,.block _ c=>codeOk n rd c
 |rd,.loop c=>codeOk n rd c
 |rd,.scope c=> !rd&&codeOk n false c
 |rd,.rangeFunc _ ps a b=> !rd&&ps.toList.all (fun p=>Nat.blt p n)&&codeOk n true a&&codeOk n true b
 |_,_=>true
theorem aao{n:Nat}{rd:Bool}:∀(c:Code) (l:Nat) (r:Code),findLabel c l=some r→codeOk n rd c=true→codeOk n rd r=true:=by
 intro c
 induction c with
 |seq a b iha M7=>
  intro l r h hc
  simp only[codeOk,bL]at hc
  simp only[findLabel]at h
  split at h
  ·rename_i rest hr
   cases h
   simp only[codeOk,bL]
   exact⟨iha l _ hr hc.1,hc.2⟩
  ·exact M7 l r h hc.2
 |label l'=>
  intro l r h _
  simp only[findLabel]at h
  split at h
  ·cases h;rfl
  ·cases h
 |_=>intro l r h;simp[findLabel]at h
theorem adX{n:Nat}{ops:List Oper}(h:ops.all (C7 n)=true):∀o∈ops,∀d,o.dst=some d→d<n:=fun o ho d hd=>by
 have:=fk.1 h o ho
 unfold C7 at this
 rw[hd,bL]at this
 exact cH this.1
theorem aeI{n:Nat}{ops:List Oper}(h:ops.all (C7 n)=true):∀o∈ops,∀c,o.op≠.defer c:=fun o ho c hc=>by
 have:=fk.1 h o ho
 unfold C7 at this
 rw[hc,bL]at this
 cases this.2
theorem VY{F:Fence}{n:Nat}{c:Code}{Q:Exit→Act→World→Prop}{a:Act}{w:World}(J:Nat→Act→World→Prop)(m:Nat)(afw:J m a w)
  (round:∀m a w,J m a w→c.wpIn F n P (Exit.then (fun a' w'=>∃m',m'<m∧J m' a' w') Q) a w):(Code.loop c).wpIn F n P Q a w:=by
 intro b k cs mC hb hr
 have key:∀n a w,J n a w→∃e a' w',Q e a' w'∧ArrivesIn (Machine.fenced P F) P (lone (b.atR a (.code c::.inLoop c::k)) cs w) b k cs e a' w':=by
  intro n
  induction n using Nat.strongRecOn with
  |_ n ih=>
   intro a w hI
   obtain⟨e,sa,rX,hq,qe⟩:=round n a w hI b (.inLoop c::k) cs mC hb hr
   cases e with
   |normal=>
    obtain⟨m',ab,aeY⟩:=hq
    obtain⟨agf,AJ,Ay,wR,zS⟩:=ih m' ab sa rX aeY
    exact⟨agf,AJ,Ay,wR,.of_steps (StepsIn.trans qe (.one (fenced_calm hb hr rfl) stepR_inLoop)) zS⟩
   |exit id=>exact⟨_,sa,rX,hq,.pass (x:=.inLoop c) rfl (fun _ _=>.inl (by simp)) qe⟩
   |goto l=>exact⟨_,sa,rX,hq,.pass (x:=.inLoop c) rfl (fun _ _=>.inl (by simp)) qe⟩
   |ret=>exact⟨_,sa,rX,hq,.pass (x:=.inLoop c) rfl (fun _ _=>.inl (by simp)) qe⟩
   |panic ch=>exact⟨_,sa,rX,hq,.pass (x:=.inLoop c) rfl (fun _ _=>.inl (by simp)) qe⟩
   |outgrown=>exact⟨_,sa,rX,hq,.pass (x:=.inLoop c) rfl (fun _ _=>.inl (by simp)) qe⟩
 obtain⟨e,a',w',hq,qe⟩:=key m a w afw
 exact⟨e,a',w',hq,.of_steps (.one (fenced_calm hb hr rfl) stepR_loop) qe⟩
def Ex.up:Ex→Exit
 |.normal=>.normal
 |.exit id=>.exit id
 |.goto l=>.goto l
 |.ret=>.ret
inductive Ax(P:Program)(c:Code)(Q:Exit→Act→World→Prop):Exit→Act→World→Prop where
 |normal {a:Act} {w:World} (h:Q .normal a w):Ax P c Q .normal a w
 |exit {id:Nat} {a:Act} {w:World} (h:Q (.exit id) a w):Ax P c Q (.exit id) a w
 |ret {a:Act} {w:World} (h:Q .ret a w):Ax P c Q .ret a w
 |goto {l:Nat} {a:Act} {w:World} (n:Nat) (J:Nat→Nat→Act→World→Prop) (h:J n l a w) (hr:∀n l a w,J n l a w→∃r,findLabel c l=some r∧r.wp P (fun e a' w'=>match e with | .goto l'=>∃n',n'<n∧J n' l' a' w' | .panic _=>False | .outgrown=>False | e=>Q e a' w') a w):Ax P c Q (.goto l) a w
theorem V8{c:Code}{Q:Exit→Act→World→Prop}{a:Act}{w:World}(h:c.wp P (Ax P c Q) a w):(Code.scope c).wp P Q a w:=by
 intro b k cs
 obtain⟨e,sa,rX,hq,qe⟩:=h b (.inScope c::k) cs
 have top:Steps P (lone (b.at a (.code (.scope c)::k)) cs w) (lone (b.at a (.code c::.inScope c::k)) cs w):=.one step_scope
 cases hq with
 |normal h=>exact⟨.normal,sa,rX,h,.of_steps top (Steps.trans qe (.one step_inScope))⟩
 |exit h=>exact⟨.exit _,sa,rX,h,.of_steps top (fun k' hk=>qe k' (by simp[exitTo,hk]))⟩
 |ret h=>exact⟨_,sa,rX,h,.of_steps top qe⟩
 | @goto l _ _ n J hJ hr=>
  have key:∀(n l:Nat) (a:Act) (w:World),J n l a w→∃rest,findLabel c l=some rest∧∃e a' w',Q e a' w'∧Arrives P (lone (b.at a (.code rest::.inScope c::k)) cs w) b k cs e a' w':=by
   intro n
   induction n using Nat.strongRecOn with
   |_ n ih=>
    intro l a w hI
    obtain⟨r,hl,hwp⟩:=hr n l a w hI
    refine⟨r,hl,?_⟩
    obtain⟨e,AJ,Ay,wR,zS⟩:=hwp b (.inScope c::k) cs
    cases e with
    |normal=>exact⟨.normal,AJ,Ay,wR,Steps.trans zS (.one step_inScope)⟩
    |exit id=>exact⟨.exit id,AJ,Ay,wR,fun k' hk=>zS k' (by simp[exitTo,hk])⟩
    |goto l'=>
     obtain⟨n',ab,hJ'⟩:=wR
     obtain⟨rest,hf,MN,MS,Mn,L7,Ld⟩:=ih n' ab l' AJ Ay hJ'
     have hg:gotoIn l' (.inScope c::k)=some (.code rest::.inScope c::k):=by simp[gotoIn,hf]
     exact⟨MN,MS,Mn,L7,.of_steps (zS _ hg) Ld⟩
    |ret=>exact⟨_,AJ,Ay,wR,zS⟩
    |panic ch=>exact wR.elim
    |outgrown=>exact wR.elim
  obtain⟨rest,hf,MN,MS,Mn,L7,Ld⟩:=key n l sa rX hJ
  have hg:gotoIn l (.inScope c::k)=some (.code rest::.inScope c::k):=by simp[gotoIn,hf]
  exact⟨MN,MS,Mn,L7,.of_steps top (.of_steps (qe _ hg) Ld)⟩
theorem dh.cI{B n:Nat}{F:Nat→Prop}{w:World}{t t':Tm}{σ:Hp}{a:Act}(hs:dh B n F w t σ a){j b off len es:Nat}{cs:List AV}{e:Sh}{l:List e.T}(h1:σ[j]?=some (b,cs))(h2:(cs.drop off).take (len*es)=l.flatMap e.cells)(h3:l.length=len∧e.size=es∧0<es)(h4:∀i,ew b off len es e l (t i) (t' i)):
  ∃F',bE F w F' w∧dh B n F' w t' (σ.eraseIdx j) a:=by
 obtain⟨aq,n5,hh⟩:=uD hs.hp h1 h2 h3
 exact⟨_,aq,fun i=>xM aq hh (h4 i) _ (hs.tm i),n5,hs.size,hs.defers.mono aq⟩
theorem dh.wrap{B n:Nat}{F:Nat→Prop}{w:World}{t:Tm}{σ:Hp}{a:Act}(hs:dh B n F w t σ a){k:Nat}{v:AV}(h1:t k=v)(h2:v.leaf=true):dh B n F w (eC t [(k,.via v)]) σ a:=
 ⟨fun i=>by
  show aA F w (match Nat.beq i k with | true=>.via v | false=>t i) _
  cases hb:Nat.beq i k with
  |true=>rw[jx hb];exact .via _ _ h2 (h1▸hs.tm k)
  |false=>exact hs.tm i,hs.hp,hs.size,hs.defers⟩
theorem XP(ok:dz P TT)(hm:P.follows .mixedOrders=true){r:Option Nat}{B n:Nat}{ops:Array Oper}{K:Tm→Hp→Prop}{Q:Exit→Act→World→Prop}{t:Tm}{σ:Hp}(hd:∀o∈ops.toList,∀d,o.dst=some d→d<n)(bZ:∀o∈ops.toList,∀c,o.op≠.defer c)(h:gn P TT ops.toList K t σ):∀{F:Nat→Prop} {w:World} {a:Act} {id:Nat},dh B n F w t σ a→
  (∀t' σ' F' w' a',bE F w F' w'→dh B n F' w' t' σ' a'→K t' σ'→Q .normal a' w')→(Code.region id ops true).wpIn (FW r) 0 P Q a w:=by
 induction h with
 |quiet h0 h=>exact fun hs hq=>WC ok hm h0 h hd bZ hs (fun t' F' w' a' h1 h2 h3=>hq t' _ F' w' a' h1 h2 h3)
 |each h0 h=>exact fun hs hq=>PZ ok hm h0 h hd bZ hs (fun t' σ' F' w' a' h1 h2 h3=>hq t' σ' F' w' a' h1 h2 h3)
 |sched Q0 s h0 h=>exact fun hs hq=>Pa ok hm h0 h hd bZ hs (fun t' σ' F' w' a' h1 h2 h3=>hq t' σ' F' w' a' h1 h2 h3)
 |meet L H h0 h go=>
  intro F w a id hs hq
  refine PZ ok hm h0 h hd bZ hs (fun t' σ' F' w' a' h1 h2 h3=>?_)
  obtain⟨s,k1,k2⟩:=h3
  refine hq t' (H s) F' w' a' h1 (h2.dJ k2) ?_
  rw[zK k1]
  exact go s t'
 |Hg Q0 s0 L H h0 h go=>
  intro F w a id hs hq
  refine Pa ok hm h0 h hd bZ hs (fun t' σ' F' w' a' h1 h2 h3=>?_)
  obtain⟨s,k1,k2⟩:=h3
  refine hq t' (H s) F' w' a' h1 (h2.dJ k2) ?_
  rw[zK k1]
  exact go s t'
 |cI j b off len es cs e l h1 h2 h3 h4 h ih=>
  intro F w a id hs hq
  obtain⟨F1,k1,k2⟩:=hs.cI h1 h2 h3 h4
  exact ih k2 (fun t' σ' F' w' a' q1 q2 q3=>hq t' σ' F' w' a' (k1.trans q1) q2 q3)
 |dJ h1 h ih=>
  intro F w a id hs hq
  exact ih (hs.dJ h1) hq
theorem dh.kp{B n:Nat}{F:Nat→Prop}{w:World}{t:Tm}{σ:Hp}{a:Act}(hs:dh B n F w t σ a){j b off len es:Nat}{cs:List AV}{e:Sh}{l:List e.T}(h1:σ[j]?=some (b,cs))(h2:(cs.drop off).take (len*es)=l.flatMap e.cells)(h3:l.length=len∧e.size=es∧0<es){i k b':Nat}{cs':List AV}(hi:(σ.eraseIdx j)[i]?=some (b',cs'))(hk:cs'[k]?=some (.ae b off len es)):
  ∃F',bE F w F' w∧dh B n F' w t ((σ.eraseIdx j).set i (b',cs'.set k (.af e l))) a:=by
 obtain⟨aq,n5,hh⟩:=uD hs.hp h1 h2 h3
 exact⟨_,aq,fun i=>(hs.tm i).mono aq,Cc n5 hh hi hk,hs.size,hs.defers.mono aq⟩
theorem dh.nil{B n:Nat}{F:Nat→Prop}{w:World}{t t':Tm}{σ:Hp}{a:Act}(hs:dh B n F w t σ a)(h4:∀i,ew 0 0 0 0 .bool [] (t i) (t' i)):dh B n F w t' σ a:=
 ⟨fun i=>xM (.refl _ _) (fun v hv=>by
  obtain⟨a,cap,rfl,c,T,fz,m1,m2,m3,m4⟩:=hv.lu
  exact .af _ _ _ ⟨some a,cap,rfl,m2,m3,(fun e=>by cases e),fun aP=>absurd rfl aP⟩) (h4 i) _ (hs.tm i),hs.hp,hs.size,hs.defers⟩
theorem YI{B n:Nat}{S:Type}{L:S→List (Nat×AV)}{H:S→Hp}{p:S→Prop}{μ:S→Nat}{s:S}{t':Tm}{σ':Hp}(h:pg L H p μ s t' σ'):∀{F:Nat→Prop} {w:World} {a:Act},dh B n F w t' σ' a→
  ∃F' t2 s',bE F w F' w∧dh B n F' w t2 (H s') a∧μ s'<μ s∧p s'∧agree t2 (L s'):=by
 induction h with
 |mk s' h1 h2 h3 h4=>exact fun hs=>⟨_,_,s',.refl _ _,hs.dJ h4,h1,h2,h3⟩
 |cI j b off len es cs e l h1 h2 h3 h4 h ih=>
  intro F w a hs
  obtain⟨F1,k1,k2⟩:=hs.cI h1 h2 h3 h4
  obtain⟨F2,t2,s',q1,q2,q3⟩:=ih k2
  exact⟨F2,t2,s',k1.trans q1,q2,q3⟩
 |kp j b off len es cs e l h1 h2 h3 i k b' cs' hi hk h ih=>
  intro F w a hs
  obtain⟨F1,k1,k2⟩:=hs.kp h1 h2 h3 hi hk
  obtain⟨F2,t2,s',q1,q2,q3⟩:=ih k2
  exact⟨F2,t2,s',k1.trans q1,q2,q3⟩
 |dJ h1 h ih=>exact fun hs=>ih (hs.dJ h1)
 |nil h4 h ih=>exact fun hs=>ih (hs.nil h4)
theorem YJ{B n:Nat}{S:Type}{fQ:S→Nat}{L:S→List (Nat×AV)}{H:S→Hp}{p:S→Prop}{μ:S→Nat}{s:S}{l:Nat}{t':Tm}{σ':Hp}(h:qX fQ L H p μ s l t' σ'):∀{F:Nat→Prop} {w:World} {a:Act},dh B n F w t' σ' a→
  ∃F' t2 s',bE F w F' w∧dh B n F' w t2 (H s') a∧l=fQ s'∧μ s'<μ s∧p s'∧agree t2 (L s'):=by
 induction h with
 |mk s' h0 h1 h2 h3 h4=>exact fun hs=>⟨_,_,s',.refl _ _,hs.dJ h4,h0,h1,h2,h3⟩
 |cI j b off len es cs e l h1 h2 h3 h4 h ih=>
  intro F w a hs
  obtain⟨F1,k1,k2⟩:=hs.cI h1 h2 h3 h4
  obtain⟨F2,t2,s',q1,q2,q3⟩:=ih k2
  exact⟨F2,t2,s',k1.trans q1,q2,q3⟩
 |kp j b off len es cs e l h1 h2 h3 i k b' cs' hi hk h ih=>
  intro F w a hs
  obtain⟨F1,k1,k2⟩:=hs.kp h1 h2 h3 hi hk
  obtain⟨F2,t2,s',q1,q2,q3⟩:=ih k2
  exact⟨F2,t2,s',k1.trans q1,q2,q3⟩
 |dJ h1 h ih=>exact fun hs=>ih (hs.dJ h1)
 |nil h4 h ih=>exact fun hs=>ih (hs.nil h4)
theorem XA{r:Option Nat}{B n:Nat}{c:Code}{body:Tm→Hp→(Ex→Tm→Hp→Prop)→Prop}(hb:∀(t:Tm) (σ:Hp) (K:Ex→Tm→Hp→Prop) (F:Nat→Prop) (w:World) (a:Act) (Q:Exit→Act→World→Prop),body t σ K→dh B n F w t σ a→
   (∀e t' σ' F' w' a',bE F w F' w'→dh B n F' w' t' σ' a'→K e t' σ'→Q e.up a' w')→c.wpIn (FW r) 0 P Q a w) {K:Ex→Tm→Hp→Prop} {t:Tm} {σ:Hp} (h:my body K t σ):∀{F:Nat→Prop} {w:World} {a:Act} {Q:Exit→Act→World→Prop},dh B n F w t σ a→
  (∀e t' σ' F' w' a',bE F w F' w'→dh B n F' w' t' σ' a'→K e t' σ'→Q e.up a' w')→(Code.loop c).wpIn (FW r) 0 P Q a w:=by
 induction h with
 | @mk t σ S L H p μ s0 h0 hr=>
  intro F w a Q hs hq
  refine VY (fun m a' w'=>∃t' σ' F',bE F w F' w'∧dh B n F' w' t' σ' a'∧Head L H p μ m t' σ') (μ s0) ⟨t,σ,F,.refl _ _,hs,s0,t,rfl,h0.1,zK h0.2.1,h0.2.2⟩ ?_
  rintro m a1 w1 ⟨_,_,F1,s1,r1,ss,g,rfl,hp,rfl,rfl⟩
  refine hb _ _ _ F1 w1 a1 _ (hr ss g hp) r1 ?_
  intro e t' σ' F' w' a' h1 h2 h3
  cases e with
  |normal=>
   obtain⟨F2,t2,s',q1,q2,k1,k2,k3⟩:=YI h3 h2
   exact⟨_,k1,t2,_,F2,s1.trans (h1.trans q1),q2,s',t2,rfl,k2,zK k3,rfl⟩
  |exit id=>exact hq (.exit id) t' σ' F' w' a' (s1.trans h1) h2 h3
  |goto l=>exact hq (.goto l) t' σ' F' w' a' (s1.trans h1) h2 h3
  |ret=>exact hq .ret t' σ' F' w' a' (s1.trans h1) h2 h3
 |cI j b off len es cs e l h1 h2 h3 h4 h ih=>
  intro F w a Q hs hq
  obtain⟨F1,k1,k2⟩:=hs.cI h1 h2 h3 h4
  exact ih k2 (fun e t' σ' F' w' a' q1 q2 q3=>hq e t' σ' F' w' a' (k1.trans q1) q2 q3)
 |dJ h1 h ih=>
  intro F w a Q hs hq
  exact ih (hs.dJ h1) hq
 |wrap k v h1 h2 h ih=>
  intro F w a Q hs hq
  exact ih (hs.wrap h1 h2) hq
 |nil h4 h ih=>
  intro F w a Q hs hq
  exact ih (hs.nil h4) hq
theorem XG{B n:Nat}{c:Code}{R:Nat→Tm→Hp→(Ex→Tm→Hp→Prop)→Prop}(hR:∀(l:Nat) (t:Tm) (σ:Hp) (K:Ex→Tm→Hp→Prop) (F:Nat→Prop) (w:World) (a:Act) (Q:Exit→Act→World→Prop),R l t σ K→dh B n F w t σ a→
   (∀e t' σ' F' w' a',bE F w F' w'→dh B n F' w' t' σ' a'→K e t' σ'→Q e.up a' w')→∃r,findLabel c l=some r∧r.wp P Q a w) {l:Nat} {K:Ex→Tm→Hp→Prop} {t:Tm} {σ:Hp} (h:qY R l K t σ):∀{F:Nat→Prop} {w:World} {a:Act} {Q:Exit→Act→World→Prop},dh B n F w t σ a→
  (∀e t' σ' F' w' a',bE F w F' w'→dh B n F' w' t' σ' a'→K e t' σ'→(∀l,e≠.goto l)→Q e.up a' w')→Ax P c Q (.goto l) a w:=by
 induction h with
 | @fwd t σ k h=>
  intro F w a Q hs hq
  refine .goto k (fun k l a' w'=>∃t' σ' F',bE F w F' w'∧dh B n F' w' t' σ' a'∧UW R k l t' σ' K) ⟨t,σ,F,.refl _ _,hs,h⟩ ?_
  rintro k l a1 w1 ⟨t1,j8,F1,s1,r1,h⟩
  cases k with
  |zero=>exact h.elim
  |succ k=>
   refine hR l t1 j8 _ F1 w1 a1 _ h r1 ?_
   intro e t' σ' F' w' a' h1 h2 h3
   cases e with
   |normal=>exact hq .normal t' σ' F' w' a' (s1.trans h1) h2 h3 (by simp)
   |exit id=>exact hq (.exit id) t' σ' F' w' a' (s1.trans h1) h2 h3 (by simp)
   |goto l=>exact⟨k,Nat.lt_succ_self _,t',σ',F',s1.trans h1,h2,h3⟩
   |ret=>exact hq .ret t' σ' F' w' a' (s1.trans h1) h2 h3 (by simp)
 | @loop t σ S fQ L H p μ s0 h0 hr=>
  intro F w a Q hs hq
  refine .goto (μ s0) (fun m l a' w'=>∃s g F',bE F w F' w'∧dh B n F' w' (eC g (L s)) (H s) a'∧m=μ s∧l=fQ s∧p s) ⟨s0,t,F,.refl _ _,?_,rfl,h0.1,h0.2.1⟩ ?_
  ·rw[← zK h0.2.2.1];exact hs.dJ h0.2.2.2
  rintro m l a1 w1 ⟨s,g,F1,s1,r1,rfl,rfl,hp⟩
  refine hR (fQ s) _ _ _ F1 w1 a1 _ (hr s g hp) r1 ?_
  intro e t' σ' F' w' a' h1 h2 h3
  cases e with
  |normal=>exact hq .normal t' σ' F' w' a' (s1.trans h1) h2 h3 (by simp)
  |exit id=>exact hq (.exit id) t' σ' F' w' a' (s1.trans h1) h2 h3 (by simp)
  |goto l=>
   obtain⟨F2,t2,s',q1,q2,k0,k1,k2,k3⟩:=YJ h3 h2
   refine⟨_,k1,s',t2,F2,s1.trans (h1.trans q1),?_,rfl,k0,k2⟩
   rw[← zK k3]
   exact q2
  |ret=>exact hq .ret t' σ' F' w' a' (s1.trans h1) h2 h3 (by simp)
 |cI j b off len es cs e l h1 h2 h3 h4 h ih=>
  intro F w a Q hs hq
  obtain⟨F1,k1,k2⟩:=hs.cI h1 h2 h3 h4
  exact ih k2 (fun e t' σ' F' w' a' q1 q2 q3 q4=>hq e t' σ' F' w' a' (k1.trans q1) q2 q3 q4)
 |dJ h1 h ih=>
  intro F w a Q hs hq
  exact ih (hs.dJ h1) hq
 |wrap k v h1 h2 h ih=>
  intro F w a Q hs hq
  exact ih (hs.wrap h1 h2) hq
structure NC(F:Nat→Prop)(w:World)(F':Nat→Prop)(w':World):Prop where
 sub:∀b,FC F w b→F' b
 cells:∀b,nP w b→w'.heap[b]?=w.heap[b]?
theorem NC.at_{F F':Nat→Prop}{w w':World}(h:NC F w F' w'){b:Nat}(hc:nP w b):nP w' b:=by
 obtain⟨c,T,fz,e⟩:=hc
 exact⟨c,T,fz,(h.cells b ⟨c,T,fz,e⟩).trans e⟩
theorem NC.fc{F F':Nat→Prop}{w w':World}(h:NC F w F' w'){b:Nat}(hf:FC F w b):FC F' w' b:=⟨h.sub b hf,h.at_ hf.2⟩
theorem kO.nc{F F':Nat→Prop}{w w':World}(hn:NC F w F' w'):∀(s:Sh) (cs:List Value) (d:s.T),kO F w s cs d→kO F' w' s cs d:=by
 intro s
 induction s with
 |int k=>exact fun _ _ h=>h
 |bool=>exact fun _ _ h=>h
 |str=>exact fun _ _ h=>h
 |nil=>exact fun _ _ h=>h
 |slice e ih=>
  rintro cs l ⟨a,c,h1,h2,h3,h0,h4⟩
  refine⟨a,c,h1,h2,h3,h0,fun aP=>?_⟩
  obtain⟨b,o,rfl,hF,hi⟩:=h4 aP
  refine⟨b,o,rfl,hn.fc hF,fun i h=>?_⟩
  obtain⟨cs',q1,q2,q3⟩:=hi i h
  exact⟨cs',q1,q2.fix (hn.cells b hF.2),ih _ _ q3⟩
 |field f r qn jK=>
  rintro cs d ⟨c1,c2,h1,h2,h3,h4⟩
  exact⟨c1,c2,h1,h2,qn _ _ h3,jK _ _ h4⟩
theorem aA.nc{F F':Nat→Prop}{w w':World}(hn:NC F w F' w'){x:AV}{v:Value}(h:aA F w x v):aA F' w' x v:=by
 induction h with
 |int k n=>exact .int k n
 |bool b=>exact .bool b
 |str s=>exact .str s
 |af e l v h=>exact .af e l v (kO.nc hn _ _ _ h)
 |kq a=>exact .kq a
 |gU a c h=>exact .gU a c h
 |aj=>exact .aj
 |ae b off len e a cap h=>
  obtain⟨c,T,fz,h1,h2⟩:=h
  exact .ae b off len e a cap ⟨c,T,fz,(hn.cells b ⟨c,T,fz,h1⟩).trans h1,h2⟩
 |cQ=>exact .cQ
 |ptr b off h=>exact .ptr b off (hn.at_ h)
 |nj b=>exact .nj b
 |nr b=>exact .nr b
 |fO cs b o f hF h1 hl h ih=>exact .fO cs b o f (hn.fc hF) (fun i x hx=>(KG (hn.cells b hF.2) _).trans (h1 i x hx)) hl ih
 |agg cs vs hs hl h ih=>exact .agg cs vs hs hl ih
 |tup cs vs hs h ih=>exact .tup cs vs hs ih
 |iface t a v h ih=>exact .iface t a v ih
 |nilif=>exact .nilif
 |fn f c1 c2 v1 v2 fh gQ h1 h2 DZ DY=>exact .fn f c1 c2 v1 v2 fh gQ DZ DY
 |iC=>exact .iC
 |pt=>exact .pt
 |gd n b h=>exact .gd n b h
 |fL n m a b h1 h2=>exact .fL n m a b h1 h2
 |any v=>exact .any v
 |via x v hl h ih=>exact .via x v hl ih
theorem Holds.nc{F F':Nat→Prop}{w w':World}(hn:NC F w F' w'){b:Nat}{cs:List AV}(h:Holds F w b cs)(hb:w'.heap[b]?=w.heap[b]?)(hF:¬F' b):Holds F' w' b cs:=by
 obtain⟨_,⟨c,T,h1,h2,h3⟩ | ⟨x,o,h1,h2,h3⟩ | ⟨L,t,h1,h2,h3⟩⟩:=h
 ·exact⟨hF,.inl ⟨c,T,hb.trans h1,h2,fun i x hx=>⟨(h3 i x hx).1,(h3 i x hx).2.nc hn⟩⟩⟩
 ·exact⟨hF,.inr (.inl ⟨x,o,h1,hb.trans h2,h3⟩)⟩
 ·exact⟨hF,.inr (.inr ⟨L,t,h1,hb.trans h2,fun i=>(h3 i).nc hn⟩)⟩
theorem bg.nc{F F':Nat→Prop}{w w':World}{σ:Hp}(h:bg F w σ)(hn:NC F w F' w')(hk:∀p∈σ,w'.heap[p.1]?=w.heap[p.1]?∧¬F' p.1)(fx:∀b,F' b→b<w'.heap.size):bg F' w' σ:=
 ⟨h.nodup,fun p hp=>(h.holds p hp).nc hn (hk p hp).1 (hk p hp).2,fx⟩
theorem bg.out{F:Nat→Prop}{w:World}{σ:Hp}(h:bg F w σ){b:Nat}(hb:F b):∀p∈σ,p.1≠b:=fun p hp e=>(h.holds p hp).1 (e▸hb)
theorem Lw{F F':Nat→Prop}{w:World}{l:Nat}{L L':Loop}(hl:w.heap[l]?=some (.loop L))(hs:∀b,b≠l→F b→F' b):NC F w F' (w.putObj l (.loop L')) where
 sub:=fun b ⟨hF,c,T,fz,hc⟩=>hs b (fun e=>by subst e;rw[hl]at hc;cases hc) hF
 cells:=fun b ⟨c,T,fz,hc⟩=>World.putObj_heap_other (fun e=>by subst e;rw[hl]at hc;cases hc)
theorem Kp{w:World}{l:Nat}{L L':Loop}(hl:w.heap[l]?=some (.loop L))(b:Nat)(c:Array Value)(T:TypeId)(fz:Nat×Nat)(h:w.heap[b]?=some (.cells c T fz)):(w.putObj l (.loop L')).heap[b]?=some (.cells c T fz):=
 (World.putObj_heap_other (fun e=>by subst e;rw[hl]at h;cases h)).trans h
def Al:Ex→Code
 |.normal=>.skip
 |.exit i=>.exit i
 |.goto l=>.goto l
 |.ret=>.ret
def j5(fn:FuncId)(tm:Array Value)(ps:Array Tmp)(gi body:Code)(D:Nat)(st:LoopState)(pe:Option Code):Loop:= { state:=st,pending:=pe,fn,tmps:=tm,params:=ps,assign:=gi,body,defers:=D }
theorem TN{n:Nat}{F:Nat→Prop}{w:World}:∀(ps:List Tmp) (xs:List AV) (us:List Value) (t:Tm) (tm:Array Value),xs.length=us.length→ps.all (fun p=>Nat.blt p n)=true→n≤tm.size→(∀i,aA F w (t i) (tm.getD i undef))→(∀(i:Nat) (x:AV),xs[i]?=some x→aA F w x (us.getD i undef))→
  n≤((ps.zip us).foldl (fun t p=>t.setIfInBounds p.1 p.2) tm).size∧∀i,aA F w (AT ps xs t i) (((ps.zip us).foldl (fun t p=>t.setIfInBounds p.1 p.2) tm).getD i undef)
 | [],xs,us,t,tm,_,_,hs,ht,_=>by cases xs <;> exact⟨hs,ht⟩
 |p::ps,[],us,t,tm,hl,_,hs,ht,_=>by cases us with
  |nil=>exact⟨hs,ht⟩
  |cons u us=>cases hl
 |p::ps,x::xs,[],t,tm,hl,_,_,_,_=>by cases hl
 |p::ps,x::xs,u::us,t,tm,hl,hp,hs,ht,hx=>by
  simp only[List.all_cons,bL]at hp
  have sq:p<n:=cH hp.1
  refine TN ps xs us (put t (some p) x) (tm.setIfInBounds p u) (by simpa using hl) hp.2 (by simpa using hs) (fun i=>?_) (fun i y hy=>by simpa using hx (i+1) y (by simpa using hy))
  show aA F w (match Nat.beq i p with | true=>x | false=>t i) _
  cases hb:Nat.beq i p with
  |true=>
   obtain rfl:=jx hb
   have hi:i<tm.size:=rE sq hs
   simpa [Array.getD,hi]using hx 0 x rfl
  |false=>
   have aP:p≠i:=fun e=>by subst e;rw[xz]at hb;cases hb
   have:=ht i
   rw[jy]at this ⊢
   rw[Ji aP]
   exact this
def G9(P:Program)(B n l:Nat)(c:Code)(R:Tm→Hp→(Ex→Tm→Hp→Prop)→Prop):Prop:=
 ∀(t:Tm) (σ:Hp) (K:Ex→Tm→Hp→Prop) (F:Nat→Prop) (w:World) (a:Act) (Q:Exit→Act→World→Prop),R t σ K→dh B n F w t σ a→
  (∀e t' σ' F' w' a',bE F w F' w'→dh B n F' w' t' σ' a'→K e t' σ'→Q e.up a' w')→c.wpIn (FW (some l)) 0 P Q a w
theorem Wu{B n l D:Nat}{fn:FuncId}{tm:Array Value}{ps:Array Tmp}{gi body:Code}{t:Tm}{rA rB:Tm→Hp→(Ex→Tm→Hp→Prop)→Prop}(hB:B≤l)(hn:n≤tm.size)(xj:ps.toList.all (fun p=>Nat.blt p n)=true)
  (hA:G9 P B n l gi rA) (hb:G9 P B n l body rB) {xs:List AV} {j8:Hp} {R1:Ex→Hp→Prop} (Nc:xs.length=ps.size)
  (h:rA (AT ps.toList xs t) j8 fun e t' σ'=>match e with | .normal=>rB t' σ' (fun e _ ko=>R1 e ko) | _=>False) :
  G8 P l xs ((l,[.mr (j5 fn tm ps gi body D .ready none) t])::j8) (Ml l (.mr (j5 fn tm ps gi body D .ready none) t) (fun e=>.mr (j5 fn tm ps gi body D .done (some (Al e))) t) R1):=by
 intro F w vs bU aF
 obtain⟨IK,hl,oy⟩:=(aF.holds _ (cm ..)).UK
 have bZ:=aF.nodup
 simp only[oL,mc]at bZ
 have hll:l<w.heap.size:=s8 hl
 have ei:vs.size=ps.size:=bU.1.symm.trans Nc
 refine⟨fn,_,gi,body,run_yield hl ei,roundIn_of_wpIn trivial ?_⟩
 have MY:bE F w (fun b=>F b∨b=l) w:=⟨rfl,rfl,rfl,aU _,fun _ h=>.inl h,fun _ _=>rfl,fun _ c _ fz h=>⟨c,fz,h,rfl⟩,aU _⟩
 have aP:∀p∈j8,p.1≠l:=fun p hp e=>bZ.1 (dX.2 ⟨p,hp,e⟩)
 have Mv:bg (fun b=>F b∨b=l) w j8:=⟨bZ.2,fun p hp=>(aF.holds p (cY _ hp)).mono MY rfl (fun h=>h.elim (aF.holds p (cY _ hp)).1 (aP p hp)),fun b h=>h.elim (aF.low b) (fun e=>e▸hll)⟩
 have hz:(ps.zip vs).foldl (fun tmps (t,a)=>tmps.setIfInBounds t a) tm=(ps.toList.zip vs.toList).foldl (fun t p=>t.setIfInBounds p.1 p.2) tm:=by
  rw[← Array.foldl_toList,Array.toList_zip]
 obtain⟨k1,k2⟩:=TN (n:=n) (F:=fun b=>F b∨b=l) (w:=w) ps.toList xs vs.toList t tm (by rw[Ov];exact bU.1) xj hn (fun i=>(oy i).mono MY) (fun i x hx=>by
  have:=(bU.2 i x hx).mono MY
  rw[jy]at this
  rw[aW,Bn]
  exact this)
 refine hA _ _ _ _ w { tmps:=(ps.zip vs).foldl (fun tmps (t,a)=>tmps.setIfInBounds t a) tm,defers:=[] } _ h ⟨fun i=>by rw[hz];exact k2 i,Mv,by rw[hz];exact k1,⟨by omega,.nil,fun d hd=>by cases hd⟩⟩ ?_
 intro e t1 σ2 F1 w1 a1 st1 s1 h1
 cases e with
 |exit i=>exact h1.elim
 |goto i=>exact h1.elim
 |ret=>exact h1.elim
 |normal=>
  have xm:w1.heap[l]?=some (.loop (j5 fn tm ps gi body D .ready none)):=(st1.fix l (.inr rfl)).trans hl
  have N4:F1 l:=st1.sub l (.inr rfl)
  have afS:l<w1.heap.size:=s8 xm
  refine⟨_,run_beginRound xm rfl,?_⟩
  have mb:({ j5 fn tm ps gi body D .ready none with state:=LoopState.busy }:Loop)=j5 fn tm ps gi body D .busy none:=rfl
  rw[mb]
  have nc1:NC F1 w1 F1 (w1.putObj l (.loop (j5 fn tm ps gi body D .busy none))):=Lw xm fun _ _ h=>h
  have MI:(w1.putObj l (.loop (j5 fn tm ps gi body D .busy none))).heap[l]?=some (.loop (j5 fn tm ps gi body D .busy none)):=World.putObj_heap_same afS
  refine hb t1 σ2 _ F1 _ a1 _ h1 ⟨fun i=>(s1.tm i).nc nc1,s1.hp.nc nc1 (fun p hp=>⟨World.putObj_heap_other (s1.hp.out N4 p hp),(s1.hp.holds p hp).1⟩) (fun b hb=>by rw[World.putObj_size];exact s1.hp.low b hb),s1.size,⟨by rw[World.putObj_size];exact s1.defers.low,s1.defers.nodup,fun d hd=>by
   obtain⟨D',q1,q2,q3,q4⟩:=s1.defers.is d hd
   refine⟨D',q1,q2,q3,(World.putObj_heap_other (fun e=>?_)).trans q4⟩
   subst e;rw[xm]at q4;cases q4⟩⟩ ?_
  intro e t3 ec F3 w3 a3 pB s3 h3
  have hF3:F3 l:=pB.sub l N4
  have ru:w3.heap[l]?=some (.loop (j5 fn tm ps gi body D .busy none)):=(pB.fix l N4).trans MI
  have afR:l<w3.heap.size:=s8 ru
  have fin:∀L':Loop,bE F w (fun b=>F3 b∧b≠l) (w3.putObj l (.loop L'))∧((∀i,L'.tmps.getD i undef=tm.getD i undef)→bg (fun b=>F3 b∧b≠l) (w3.putObj l (.loop L')) ((l,[.mr L' t])::ec)):=by
   intro L'
   have nc3:NC F3 w3 (fun b=>F3 b∧b≠l) (w3.putObj l (.loop L')):=Lw ru fun b hb h=>⟨h,hb⟩
   have stw:bE F w (fun b=>F3 b∧b≠l) (w3.putObj l (.loop L')):= {
    os:=pB.os.trans st1.os
    tape:=pB.tape.trans st1.tape
    output:=pB.output.trans st1.output
    size:=by
     have q1:=st1.size
     have q3:=pB.size
     rw[World.putObj_size]at q3 ⊢
     omega
    sub:=fun b hF=>⟨pB.sub b (st1.sub b (.inl hF)),fun e=>IK (e▸hF)⟩
    fix:=fun b hF=>by
     have oI:b≠l:=fun e=>IK (e▸hF)
     rw[World.putObj_heap_other oI,pB.fix b (st1.sub b (.inl hF)),World.putObj_heap_other oI,st1.fix b (.inl hF)]
    rows:=fun b c T fz hc=>by
     obtain⟨c1,fz1,q1,q2⟩:=st1.rows b c T fz hc
     obtain⟨c3,Jk,q3,q4⟩:=pB.rows b c1 T fz1 (Kp xm b c1 T fz1 q1)
     exact⟨c3,Jk,Kp ru b c3 T Jk q3,q4.trans q2⟩
    drawn:=fD st1.drawn pB.drawn }
   refine⟨stw,fun afB=>⟨?_,fun p hp=>?_,fun b hb=>?_⟩⟩
   ·simp only[oL,mc]
    exact⟨fun hm=>by obtain⟨p,hp,e⟩:=dX.1 hm;exact s3.hp.out hF3 p hp e,s3.hp.nodup⟩
   ·rcases eG.1 hp with rfl | hp
    ·exact⟨fun h=>h.2 rfl,.inr (.inr ⟨L',t,rfl,World.putObj_heap_same afR,fun i=>by rw[afB];exact (oy i).mono stw⟩)⟩
    ·exact (s3.hp.holds p hp).nc nc3 (World.putObj_heap_other (s3.hp.out hF3 p hp)) (fun h=>(s3.hp.holds p hp).1 h.1)
   ·rw[World.putObj_size];exact s3.hp.low b hb.1
  have L3:∀e:Ex,e≠.normal→R1 e ec→∃v w',(Instr.endRound l (some (Al e))).run P w3=.ok v w'∧∃r v' σ' F',Ending.returned v=.returned v'∧bE F w F' w'∧bg F' w' σ'∧aA F' w' r v'∧Ml l (.mr (j5 fn tm ps gi body D .ready none) t) (fun e=>.mr (j5 fn tm ps gi body D .done (some (Al e))) t) R1 r σ':=fun e he hr=>by
   obtain⟨q1,q2⟩:=fin (j5 fn tm ps gi body D .done (some (Al e)))
   exact⟨_,_,run_endRound _ ru,.bool false,_,_,_,rfl,q1,q2 (fun _=>rfl),.bool _,.inr ⟨rfl,e,ec,he,rfl,hr⟩⟩
  cases e with
  |normal=>
   obtain⟨q1,q2⟩:=fin (j5 fn tm ps gi body D .ready none)
   exact⟨_,_,run_endRound none ru,.bool true,_,_,_,rfl,q1,q2 (fun _=>rfl),.bool _,.inl ⟨rfl,ec,rfl,h3⟩⟩
  |exit i=>exact L3 (.exit i) (by simp) h3
  |goto i=>exact L3 (.goto i) (by simp) h3
  |ret=>exact L3 .ret (by simp) h3
theorem Wz{B n:Nat}{g:Operand}{ps:Array Tmp}{gi body:Code}{t:Tm}{gf:FuncId}{cap:List AV}{rA rB:Tm→Hp→(Ex→Tm→Hp→Prop)→Prop}(hg:ev t g=.fn (.func gf) [] cap)(xj:ps.toList.all (fun p=>Nat.blt p n)=true)
  (hA:∀l,G9 P B n l gi rA) (hb:∀l,G9 P B n l body rB) {K:Ex→Hp→Prop} {σ:Hp}
  (h:Ad P gf cap ps.size (fun xs j8 R1=>rA (AT ps.toList xs t) j8 fun e t' σ'=>match e with | .normal=>rB t' σ' (fun e _ ko=>R1 e ko) | _=>False) K σ):∀{F:Nat→Prop} {w:World} {a:Act} {Q:Exit→Act→World→Prop},dh B n F w t σ a→
  (∀e σ' F' w' a',bE F w F' w'→dh B n F' w' t σ' a'→K e σ'→Q e.up a' w')→(Code.rangeFunc g ps gi body).wpIn (FW none) 0 P Q a w:=by
 induction h with
 |dJ h1 h ih=>exact fun hs hq=>ih (hs.dJ h1) hq
 | @mk σ go=>
  intro F w a Q hs hq
  have Eg:=hs.tm.eval g
  rw[hg]at Eg
  cases hv:a.eval g with
  |func f' v1 lb=>
   rw[hv]at Eg
   obtain⟨rfl,rfl,HL⟩:f'=.func gf∧v1 = #[]∧iQ F w cap lb:=by cases Eg with | fn _ _ _ _ _ fh gQ h1 h2=>exact⟨rfl,EL.1 fh.symm,gQ,h2⟩
   refine wpIn_rangeFunc ?_
   intro fn _
   have e1:=run_enterLoop_outer (P:=P) (w:=w) fn a.tmps ps gi body
   obtain⟨l,hle⟩:∃l,l=w.heap.size+1:=⟨_,rfl⟩
   obtain⟨D,hD⟩:∃D,D=w.heap.size:=⟨_,rfl⟩
   obtain⟨W1,vH⟩:∃W1,W1=(w.alloc (.deferred (some []))).alloc (.loop (j5 fn a.tmps ps gi body D .ready none)):=⟨_,rfl⟩
   have hlW:W1.heap[l]?=some (.loop (j5 fn a.tmps ps gi body D .ready none)):=by
    rw[vH,hle];have:=World.alloc_heap_new (w.alloc (.deferred (some []))) (.loop (j5 fn a.tmps ps gi body D .ready none));rwa [World.size_alloc]at this
   have hDW:W1.heap[D]?=some (.deferred (some [])):=by
    rw[vH,hD];exact (Below.heap_alloc _ _ _ (by simp)).trans (World.alloc_heap_new w _)
   have hold:∀b,b<w.heap.size→W1.heap[b]?=w.heap[b]?:=fun b hb=>by
    rw[vH];exact (Below.heap_alloc _ _ b (by simp;omega)).trans (Below.heap_alloc _ _ b hb)
   have ei:W1.heap.size=w.heap.size+2:=by rw[vH];simp
   have st1:bE F w (fun b=>F b∨b=D) W1:=⟨by rw[vH];rfl,by rw[vH];rfl,by rw[vH];rfl,by omega,fun _ h=>.inl h,fun b hb=>hold b (hs.hp.low b hb),fun b c _ fz hc=>⟨c,fz,(hold b (s8 hc)).trans hc,rfl⟩,by rw[vH];exact aU _⟩
   obtain⟨ob,gJ⟩:=go l (.mr (j5 fn a.tmps ps gi body D .ready none) t) (fun e=>.mr (j5 fn a.tmps ps gi body D .done (some (Al e))) t) (fun xs j8 R1 Nc zb=>Wu (by have:=hs.defers.low;omega) hs.size xj (hA l) (hb l) Nc zb)
   have Mv:bg (fun b=>F b∨b=D) W1 ((l,[.mr (j5 fn a.tmps ps gi body D .ready none) t])::σ):=by
    refine⟨?_,fun p hp=>?_,fun b hb=>?_⟩
    ·simp only[oL,mc]
     refine⟨fun hm=>?_,hs.hp.nodup⟩
     obtain⟨p,hp,e⟩:=dX.1 hm
     have:=(hs.hp.holds p hp).lt
     omega
    ·rcases eG.1 hp with rfl | hp
     ·exact⟨fun h=>h.elim (fun h=>by have:l<w.heap.size:=hs.hp.low l h;omega) (fun h=>by have:l=D:=h;omega),.inr (.inr ⟨_,t,rfl,hlW,fun i=>(hs.tm i).mono st1⟩)⟩
     ·have ab:=(hs.hp.holds p hp).lt
      exact (hs.hp.holds p hp).mono st1 (hold _ ab) (fun h=>h.elim (hs.hp.holds p hp).1 (fun e=>by omega))
    ·rcases hb with hb | hb
     ·have:=hs.hp.low b hb;omega
     ·omega
   have bU:iQ (fun b=>F b∨b=D) W1 (.fn (.yield l) [] []::cap) (#[.func (.yield l) #[] #[]]++lb):=
    show iQ _ _ ([.fn (.yield l) [] []]++cap) _ from E4 (Qh (.fn _ _ _ _ _ rfl rfl (fun i x h=>by simp at h) (fun i x h=>by simp at h))) (HL.mono st1)
   have kc:∀d∈a.defers,d≠{ target:=.collected D,args:= #[] }:=fun d hd e=>by
    obtain⟨D',q1,_,_,q4⟩:=hs.defers.is d hd
    rw[q1]at e
    cases e
    have:=s8 q4
    omega
   refine⟨l,[{ target:=.collected D,args:= #[] }],W1,{ target:=.fn (.func gf) lb,args:= #[.func (.yield l) #[] #[]] },W1,gf,#[.func (.yield l) #[] #[]]++lb,W1,?_,?_,fun _ _=>trivial,?_,fun hd=>(by cases hd),?_⟩
   ·rw[vH,hle,hD];exact e1
   ·simp only[resolve,hv]
    simp[go_sem]
   ·have:=ob (#[.func (.yield l) #[] #[]]++lb) W1
    simpa [invoke]using this
   ·refine callsIn_wide.2 ((gJ _ W1 _ bU Mv).mono ?_)
    rintro e w3 ⟨rv,v,σ',F',rfl,pB,Dt,_,hR⟩
    have Mq:=st1.trans pB
    have fin:∀(L':Loop) (σ2:Hp),σ'=(l,[.mr L' t])::σ2→L'.state≠.busy→∃w4,(Instr.endLoop l).run P w3=.ok L'.pending w4∧bE F w F' w4∧dh B n F' w4 t σ2 { a with defers:=[{ target:=.collected D,args:= #[] }]++a.defers }:=by
     intro L' σ2 e aq
     subst e
     obtain⟨IK,ru,_⟩:=(Dt.holds _ (cm ..)).UK
     have bZ:=Dt.nodup
     simp only[oL,mc]at bZ
     have aP:∀p∈σ2,p.1≠l:=fun p hp e=>bZ.1 (dX.2 ⟨p,hp,e⟩)
     have nc:NC F' w3 F' (w3.putObj l (.loop { L' with state:=.exhausted })):=Lw ru fun _ _ h=>h
     have hDF:F' D:=pB.sub D (.inr rfl)
     have MX:bE F' w3 F' (w3.putObj l (.loop { L' with state:=.exhausted })):=⟨rfl,rfl,rfl,by rw[World.putObj_size];exact aU _,fun _ h=>h,fun b hb=>World.putObj_heap_other (fun e=>IK (e▸hb)),fun b c T fz hc=>⟨c,fz,Kp ru b c T fz hc,rfl⟩,aU _⟩
     refine⟨_,run_endLoop ru aq,Mq.trans MX,fun i=>((hs.tm i).mono Mq).nc nc,?_,hs.size,?_⟩
     ·exact⟨bZ.2,fun p hp=>(Dt.holds p (cY _ hp)).nc nc (World.putObj_heap_other (aP p hp)) (Dt.holds p (cY _ hp)).1,fun b hb=>by rw[World.putObj_size];exact Dt.low b hb⟩
     ·have hm:=hs.defers.mono (Mq.trans MX)
      refine⟨hm.low,?_,fun d hd=>?_⟩
      ·simp only[ED,vL,mc]
       exact⟨fun h=>kc _ h rfl,hm.nodup⟩
      ·rcases eG.1 hd with rfl | hd
       ·exact⟨D,rfl,by have:=hs.defers.low;omega,hDF,(MX.fix D hDF).trans ((pB.fix D (.inr rfl)).trans hDW)⟩
       ·exact hm.is d hd
    rcases hR with ⟨σ2,e,hk⟩ | ⟨ex,σ2,aP,e,hk⟩
    ·obtain⟨w4,k1,k2,k3⟩:=fin _ σ2 e (by simp[j5])
     exact⟨none,w4,k1,hq .normal σ2 F' w4 _ k2 k3 hk⟩
    ·obtain⟨w4,k1,k2,k3⟩:=fin _ σ2 e (by simp[j5])
     refine⟨some (Al ex),w4,k1,?_⟩
     have Np:=hq ex σ2 F' w4 _ k2 k3 hk
     cases ex with
     |normal=>exact absurd rfl aP
     |exit i=>exact wpIn_exit Np
     |goto i=>exact wpIn_goto Np
     |ret=>exact wpIn_ret Np
  |_=>rw[hv]at Eg;cases Eg
theorem WY(ok:dz P TT)(hm:P.follows .mixedOrders=true){B n:Nat}:∀(fuel:Nat) (c:Code) (t:Tm) (σ:Hp) (K:Ex→Tm→Hp→Prop) (F:Nat→Prop) (w:World) (a:Act) (Q:Exit→Act→World→Prop) (r:Option Nat),codeOk n r.isSome c=true→mu P TT fuel c t σ K→dh B n F w t σ a→
  (∀e t' σ' F' w' a',bE F w F' w'→dh B n F' w' t' σ' a'→K e t' σ'→Q e.up a' w')→c.wpIn (FW r) 0 P Q a w:=by
 intro fuel
 induction fuel with
 |zero=>intro c t σ K F w a Q r _ h;exact h.elim
 |succ fuel ih=>
  intro c t σ K F w a Q r hc h hs hq
  cases c with
  |skip=>exact wpIn_skip (hq .normal t σ F w a (.refl _ _) hs h)
  |label l=>exact wpIn_label (hq .normal t σ F w a (.refl _ _) hs h)
  |exit id=>exact wpIn_exit (hq (.exit id) t σ F w a (.refl _ _) hs h)
  |goto l=>exact wpIn_goto (hq (.goto l) t σ F w a (.refl _ _) hs h)
  |ret=>exact wpIn_ret (hq .ret t σ F w a (.refl _ _) hs h)
  |region id ops draw=>
   have hd:=adX (n:=n) (ops:=ops.toList) hc
   have bZ:=aeI (n:=n) (ops:=ops.toList) hc
   cases draw with
   |false=>exact Wv bZ (JK ok ops.toList t σ _ F w a hd h hs (fun t' σ' F' w' a' h1 h2 h3=>hq .normal t' σ' F' w' a' h1 h2 h3))
   |true=>
    have h:gn P TT ops.toList (K .normal) t σ:=h
    exact XP ok hm hd bZ h hs (fun t' σ' F' w' a' h1 h2 h3=>hq .normal t' σ' F' w' a' h1 h2 h3)
  |seq x y=>
   simp only[codeOk,bL]at hc
   refine wpIn_seq (ih x t σ _ F w a _ r hc.1 h hs ?_)
   intro e t' σ' F' w' a' h1 h2 h3
   cases e with
   |normal=>exact ih y t' σ' K F' w' a' Q r hc.2 h3 h2 (fun e yX ko nI l4 OP k1 k2 k3=>hq e yX ko nI l4 OP (h1.trans k1) k2 k3)
   |exit id=>exact hq (.exit id) t' σ' F' w' a' h1 h2 h3
   |goto l=>exact hq (.goto l) t' σ' F' w' a' h1 h2 h3
   |ret=>exact hq .ret t' σ' F' w' a' h1 h2 h3
  |cond x y z=>
   simp only[codeOk,bL]at hc
   have h:(match ev t x with | .bool b=>(match b with | true=>mu P TT fuel y t σ K | false=>mu P TT fuel z t σ K) | _=>False):=h
   have hx:=hs.tm.eval x
   split at h
   ·rename_i b hb
    rw[hb]at hx
    refine wpIn_cond (t:=b) hx.qV ?_
    cases b with
    |true=>exact ih y t σ K F w a Q r hc.1 h hs hq
    |false=>exact ih z t σ K F w a Q r hc.2 h hs hq
   ·exact h.elim
  |block id c=>
   refine wpIn_block (ih c t σ _ F w a _ r hc h hs ?_)
   intro e t' σ' F' w' a' h1 h2 h3
   cases e with
   |normal=>exact hq .normal t' σ' F' w' a' h1 h2 h3
   |exit i=>
    show (if i=id then Q .normal a' w' else Q (.exit i) a' w')
    have h3:(match Nat.beq i id with | true=>K .normal t' σ' | false=>K (.exit i) t' σ'):=h3
    cases hb:Nat.beq i id with
    |true=>rw[hb]at h3;rw[ai (jx hb)];exact hq .normal t' σ' F' w' a' h1 h2 h3
    |false=>
     rw[hb]at h3
     rw[ah (fun e=>by subst e;rw[xz]at hb;cases hb)]
     exact hq (.exit i) t' σ' F' w' a' h1 h2 h3
   |goto l=>exact hq (.goto l) t' σ' F' w' a' h1 h2 h3
   |ret=>exact hq .ret t' σ' F' w' a' h1 h2 h3
  |loop c=>
   have h:my (fun t σ Q=>mu P TT fuel c t σ Q) K t σ:=h
   exact XA (fun t σ K F w a Q h hs hq=>ih c t σ K F w a Q r hc h hs hq) h hs hq
  |scope c=>
   simp only[codeOk,bL,lf]at hc
   obtain⟨hr,hc⟩:=hc
   obtain rfl:r=none:=by cases r with | none=>rfl | some l=>cases hr
   refine wpIn_wide.2 (V8 (wpIn_wide.1 (ih c t σ _ F w a _ none hc h hs ?_)))
   intro e t' σ' F' w' a' h1 h2 h3
   cases e with
   |normal=>exact .normal (hq .normal t' σ' F' w' a' h1 h2 h3)
   |exit i=>exact .exit (hq (.exit i) t' σ' F' w' a' h1 h2 h3)
   |ret=>exact .ret (hq .ret t' σ' F' w' a' h1 h2 h3)
   |goto l=>
    have h3:qY (fun l t σ Q=>match findLabel c l with | some r=>mu P TT fuel r t σ Q | none=>False) l K t' σ':=h3
    exact XG (fun l t σ K F w a Q h hs hq=>by
     have h:(match findLabel c l with | some r=>mu P TT fuel r t σ K | none=>False):=h
     split at h
     ·rename_i r hr
      exact⟨r,hr,wpIn_wide.1 (ih r t σ K F w a Q none (aao c l r hr hc) h hs hq)⟩
     ·exact h.elim) h3 h2 (fun e yX ko nI l4 OP k1 k2 k3 k4=>hq e yX ko nI l4 OP (h1.trans k1) k2 k3)
  |rangeFunc g ps gi body=>
   simp only[codeOk,bL,lf]at hc
   obtain⟨⟨⟨hr,xj⟩,ma⟩,mJ⟩:=hc
   obtain rfl:r=none:=by cases r with | none=>rfl | some l=>cases hr
   have h:(match ev t g with | .fn (.func gf) [] cap=>Ad P gf cap ps.size (fun xs j8 R1=>mu P TT fuel gi (AT ps.toList xs t) j8 fun e t' σ'=>match e with | .normal=>mu P TT fuel body t' σ' (fun e _ ko=>R1 e ko) | _=>False) (fun e σ'=>K e t σ') σ | _=>False):=h
   split at h
   ·rename_i gf cap hg
    exact Wz hg xj (fun l t σ K F w a Q h hs hq=>ih gi t σ K F w a Q (some l) ma h hs hq) (fun l t σ K F w a Q h hs hq=>ih body t σ K F w a Q (some l) mJ h hs hq) h hs (fun e σ' F' w' a' k1 k2 k3=>hq e t σ' F' w' a' k1 k2 k3)
   ·exact h.elim
  |refuse=>exact h.elim
inductive Fin(R:AV→Hp→Prop):AV→Hp→Prop where
 |done {r:AV} {σ:Hp} (h:R r σ):Fin R r σ
 |pull {r:AV} {σ:Hp} (js:List Nat) (h:Fin R r (nR js σ)):Fin R r σ
 |drop {r:AV} {σ:Hp} (k n:Nat) (h:Fin R r (σ.take k++σ.drop (k+n))):Fin R r σ
 |perm {r:AV} {σ σ2:Hp} (hp:σ2.Perm σ) (h:Fin R r σ2):Fin R r σ
 |cI {r r':AV} {σ:Hp} (j b off len es:Nat) (cs:List AV) (e:Sh) (l:List e.T) (h1:σ[j]?=some (b,cs)) (h2:(cs.drop off).take (len*es)=l.flatMap e.cells) (h3:l.length=len∧e.size=es∧0<es) (h4:ew b off len es e l r r') (h:Fin R r' (σ.eraseIdx j)):Fin R r σ
 |nil {r r':AV} {σ:Hp} (h4:ew 0 0 0 0 .bool [] r r') (h:Fin R r' σ):Fin R r σ
 |dJ {r:AV} {σ σ2:Hp} (h1:iX σ σ2) (h:Fin R r σ2):Fin R r σ
 |kp {r:AV} {σ:Hp} (j b off len es:Nat) (cs:List AV) (e:Sh) (l:List e.T) (h1:σ[j]?=some (b,cs)) (h2:(cs.drop off).take (len*es)=l.flatMap e.cells) (h3:l.length=len∧e.size=es∧0<es) (i k b':Nat) (cs':List AV) (hi:(σ.eraseIdx j)[i]?=some (b',cs')) (hk:cs'[k]?=some (.ae b off len es)) (h:Fin R r ((σ.eraseIdx j).set i (b',cs'.set k (.af e l)))):Fin R r σ
theorem QW{R:AV→Hp→Prop}{r:AV}{σ:Hp}(h:Fin R r σ):∀(F:Nat→Prop) (w:World) (v:Value),bg F w σ→aA F w r v→∃r' σ' F',bE F w F' w∧bg F' w σ'∧aA F' w r' v∧R r' σ':=by
 induction h with
 |done h=>exact fun F w v aF hv=>⟨_,_,F,.refl _ _,aF,hv,h⟩
 |pull js h ih=>exact fun F w v aF hv=>ih F w v (aF.perm (xR js _)) hv
 |perm hp h ih=>exact fun F w v aF hv=>ih F w v (aF.perm hp) hv
 | @drop r σ k n h ih=>
  intro F w v aF hv
  refine ih F w v (aF.sub ?_) hv
  have h1:(σ.drop (k+n)).Sublist (σ.drop k):=by
   rw[← List.drop_drop]
   exact List.drop_sublist _ _
  have h2:=(List.Sublist.refl (σ.take k)).append h1
  rwa [Bq]at h2
 | @cI r r' σ j b off len es cs e l h1 h2 h3 h4 h ih=>
  intro F w v aF hv
  obtain⟨aq,n5,hh⟩:=uD aF h1 h2 h3
  obtain⟨MZ,ko,nI,k1,k2,k3,k4⟩:=ih _ w v n5 (xM aq hh h4 v hv)
  exact⟨MZ,ko,nI,aq.trans k1,k2,k3,k4⟩
 |dJ h1 h ih=>exact fun F w v aF hv=>ih F w v (aF.dJ h1) hv
 |kp j b off len es cs e l h1 h2 h3 i k b' cs' hi hk h ih=>
  intro F w v aF hv
  obtain⟨aq,n5,hh⟩:=uD aF h1 h2 h3
  obtain⟨MZ,ko,nI,k1,k2,k3,k4⟩:=ih _ w v (Cc n5 hh hi hk) (hv.mono aq)
  exact⟨MZ,ko,nI,aq.trans k1,k2,k3,k4⟩
 |nil h4 h ih=>
  intro F w v aF hv
  refine ih F w v aF (xM (.refl _ _) (fun v hv=>?_) h4 v hv)
  obtain⟨a,cap,rfl,c,T,fz,m1,m2,m3,m4⟩:=hv.lu
  exact .af _ _ _ ⟨some a,cap,rfl,m2,m3,(fun e=>by cases e),fun aP=>absurd rfl aP⟩
def t0(xs:List AV):Tm:=fun i=>match xs[i]? with | some x=>x | none=>.any
def HB:List AV→AV
 | [v]=>v
 |vs=>.tup vs
def Dh(TT:TypeId→Option TI)(l:List ResultVar):Tm→Hp→(List AV→Prop)→Prop:=
 List.rec (motive:=fun _=>Tm→Hp→(List AV→Prop)→Prop) (fun _ _ K=>K [])
  (fun x _ ih t σ K=>match x with
   |.tmp d=>strict (t d) fun v=>ih t σ fun vs=>K (bN v::vs)
   |.cell d ty=>match TT ty with | some i=>p7 i (t d) σ fun v=>ih t σ fun vs=>K (v::vs) | none=>False) l
def uK(TT:TypeId→Option TI)(rs:List ResultVar)(R:AV→Hp→Prop)(e:Ex)(t:Tm)(σ:Hp):Prop:=
 match e with
 |.normal | .ret=>Dh TT rs t σ fun vs=>Fin R (HB vs) σ
 |_=>False
def uL(P:Program)(TT:TypeId→Option TI)(fn:Func)(xs:List AV)(σ:Hp)(R:AV→Hp→Prop):Prop:=
 match fn.body with
 |some c=>mu P TT 1000 c (t0 xs) σ (uK TT fn.results.toList R)
 |none=>False
def funcOk (fn : Func) : Bool := (match fn.body with | some c => codeOk fn.ntmps false c | none => false) && !(fn.name == "runtime.NumGoroutine")
theorem enters_of{f:FuncId}{fn:Func}(hf:P.funcs[f]?=some fn)(h:funcOk fn=true):Enters P f:=by
 unfold funcOk at h
 simp only[bL,lf]at h
 obtain⟨h1,h2⟩:=h
 have hb:fn.body.isNone=false:=by
  cases hb:fn.body with
  |none=>rw[hb]at h1;cases h1
  |some c=>rfl
 intro args w
 unfold callFunc
 simp only[Sem.run_bind,run_program,Result.andThen_ok,hf,h2,hb]
 rfl
theorem WG(ok:dz P TT){ty:TypeId}{i:TI}(hi:TT ty=some i){x:AV}{σ:Hp}{K:AV→Prop}(h:p7 i x σ K):∃v,K v∧∀(F:Nat→Prop) (w:World) (u:Value),aA F w x u→bg F w σ→∃v',(do loadVar ty (← asAddr u):Sem Value).run P w=.ok v' w∧aA F w v v':=by
 unfold p7 at h
 split at h
 ·split at h
  ·rename_i v hv
   refine⟨v,h,fun F w u hu aF =>?_⟩
   obtain⟨b,o',rfl,hF,dR⟩:=hu.yb
   obtain⟨v',h1,h2⟩:=Ff ok hi dR hv
   rw[vK]at h1
   exact⟨v',by simp[asAddr,h1],h2⟩
  ·exact h.elim
 ·obtain⟨j,cs,v,h1,h2,go⟩:=h
  refine⟨v,go,fun F w u hu aF =>?_⟩
  have NI:=hu.zF
  obtain rfl:=hu.yE
  obtain⟨v',h3,h4⟩:=Ff ok hi (aF.at_ h1 NI) h2
  rw[eF]at h3
  exact⟨v',by simp[asAddr,h3],h4⟩
 ·exact h.elim
def GO(tmps:Array Value):ResultVar→Sem Value
 |.tmp t=>pure (tmps.getD t undef)
 |.cell d t=>do loadVar t (← asAddr (tmps.getD d undef))
theorem abK{F:Nat→Prop}{w:World}:∀(vs:List AV) (us:List Value),vs.length=us.length→(∀(i:Nat) (x:AV),vs[i]?=some x→aA F w x (us.getD i undef))→aA F w (HB vs) (if h:us.toArray.size=1 then us.toArray[0] else .tuple us.toArray)
 | [v],[u],_,h=>by simpa [HB]using h 0 v rfl
 | [],[],_,_=>.tup _ _ rfl (fun i x h=>by simp at h)
 |v::v2::vs,u::u2::us,hl,h=>by
  rw[dif_neg (by simp)]
  refine .tup _ _ (by simpa using hl) (fun i x hx=>?_)
  have:=h i x hx
  rw[aW]at this
  rw[jy,zk]
  exact this
 | [],_::_,hl,_=>by simp at hl
 |_::_,[],hl,_=>by simp at hl
 | [_],_::_::_,hl,_=>by simp at hl
 |_::_::_,[_],hl,_=>by simp at hl
theorem JG(ok:dz P TT):∀(rs:List ResultVar) (t:Tm) (σ:Hp) (K:List AV→Prop),Dh TT rs t σ K→∀(F:Nat→Prop) (w:World) (a:Act),tz F w t a→bg F w σ→
  ∃vs us,K vs∧(rs.mapM (GO a.tmps)).run P w=.ok us w∧vs.length=us.length∧∀(i:Nat) (x:AV),vs[i]?=some x→aA F w x (us.getD i undef)
 | [],t,σ,K,h,F,w,a,_,_=>⟨[],[],h,rfl,rfl,fun i x h=>by simp at h⟩
 |.tmp d::rs,t,σ,K,h,F,w,a,ht,aF=>by
  have h:strict (t d) fun v=>Dh TT rs t σ fun vs=>K (bN v::vs):=h
  rw[xW]at h
  obtain⟨vs,us,h1,h2,h3,h4⟩:=JG ok rs t σ _ h F w a ht aF
  refine⟨_,a.tmps.getD d undef::us,h1,?_,by simp[h3],fun i x hi=>?_⟩
  ·rw[List.mapM_cons]
   simp only[GO,Sem.run_bind,Sem.run_pure,Result.andThen_ok,h2]
  ·cases i with
   |zero=>simp at hi;subst hi;exact (ht d).bN
   |succ i=>simpa using h4 i x (by simpa using hi)
 |.cell d ty::rs,t,σ,K,h,F,w,a,ht,aF=>by
  have h:(match TT ty with | some i=>p7 i (t d) σ fun v=>Dh TT rs t σ fun vs=>K (v::vs) | none=>False):=h
  split at h
  ·rename_i i hi
   obtain⟨v,h,hv⟩:=WG ok hi h
   obtain⟨v',k1,k2⟩:=hv F w _ (ht d) aF
   obtain⟨vs,us,h1,h2,h3,h4⟩:=JG ok rs t σ _ h F w a ht aF
   refine⟨_,v'::us,h1,?_,by simp[h3],fun i x hi=>?_⟩
   ·have k1':(GO a.tmps (.cell d ty)).run P w=.ok v' w:=k1
    rw[List.mapM_cons]
    simp only[Sem.run_bind,k1',Sem.run_pure,Result.andThen_ok,h2]
   ·cases i with
    |zero=>simp at hi;subst hi;exact k2
    |succ i=>simpa using h4 i x (by simpa using hi)
  ·exact h.elim
def shut(w:World)(ds:List Deferred):World:=ds.foldl (fun w d=>match d.target with | .collected D=>w.putObj D (.deferred none) | _=>w) w
def zZ(D:Nat)(ds:List Deferred):Prop:=({ target:=.collected D,args:= #[] }:Deferred)∈ds
theorem Xn{ds:List Deferred}:∀{w:World},(∀d∈ds,∃D,d = { target:=.collected D,args:= #[] })→∀b,¬zZ b ds→(shut w ds).heap[b]?=w.heap[b]?:=by
 induction ds with
 |nil=>exact fun _ _ _=>rfl
 |cons d ds ih=>
  intro w hd b hb
  obtain⟨D,rfl⟩:=hd d (cm ..)
  have hbD:b≠D:=fun e=>hb (by subst e;exact cm ..)
  exact (ih (w:=w.putObj D (.deferred none)) (fun d h=>hd d (cY _ h)) b (fun h=>hb (cY _ h))).trans (World.putObj_heap_other hbD)
theorem Yh{ds:List Deferred}:∀{w:World},(shut w ds).os=w.os∧(shut w ds).tape=w.tape∧(shut w ds).output=w.output∧(shut w ds).heap.size=w.heap.size∧(shut w ds).drawn=w.drawn:=by
 induction ds with
 |nil=>exact fun {w}=>⟨rfl,rfl,rfl,rfl,rfl⟩
 |cons d ds ih=>
  intro w
  obtain⟨t,gi⟩:=d
  cases t with
  |collected D=>
   obtain⟨h1,h2,h3,h4,h5⟩:=ih (w:=w.putObj D (.deferred none))
   exact⟨h1,h2,h3,h4.trans World.putObj_size,h5⟩
  |_=>exact ih
theorem O5{fn:Func}{tm:Array Value}{R:Ending→World→Prop}:∀(ds:List Deferred) (w:World),ds.Nodup→(∀d∈ds,∃D,d = { target:=.collected D,args:= #[] }∧w.heap[D]?=some (.deferred (some [])))→
  (∃v,(results fn tm).run P (shut w ds)=.ok v (shut w ds)∧R (.returned v) (shut w ds))→LeavesInM Fence.wide 0 P fn tm R ds .returning w
 | [],_,_,_,h=>h
 |d::ds,w,bZ,hd,h=>by
  obtain⟨D,rfl,hw⟩:=hd d (cm ..)
  obtain⟨rq,oF⟩:=mc.1 bZ
  refine⟨by simp,.inl ⟨D,_,rfl,run_takeDeferred hw,O5 ds _ oF (fun d hm=>?_) h⟩⟩
  obtain⟨D',rfl,hw'⟩:=hd d (cY _ hm)
  exact⟨D',rfl,(World.putObj_heap_other (fun e=>rq (by subst e;exact hm))).trans hw'⟩
theorem Zo(ok:dz P TT)(hm:P.follows .mixedOrders=true){f:FuncId}{fn:Func}{xs:List AV}{σ:Hp}{R:AV→Hp→Prop}(hf:P.funcs[f]?=some fn)(bH:funcOk fn=true)(h:uL P TT fn xs σ R):ACalls P f xs σ R:=by
 refine⟨enters_of hf bH,fun F w vs bU aF =>?_⟩
 unfold funcOk at bH
 simp only[bL]at bH
 unfold uL at h
 cases hb:fn.body with
 |none=>rw[hb]at h;exact h.elim
 |some c=>
  rw[hb]at h
  have hc:codeOk fn.ntmps false c=true:=by have:=bH.1;rw[hb]at this;exact this
  refine callsIn_wide.1 (callsIn_of_wp_marks (n:=0) hf hb trivial (WY (B:=w.heap.size) ok hm 1000 c (t0 xs) σ _ F w _ _ none hc h ⟨fun i=>?_,aF,by simp;omega,⟨Nat.le_refl _,.nil,fun d hd=>by cases hd⟩⟩ ?_))
  ·show aA F w (match xs[i]? with | some x=>x | none=>.any) ((vs++Array.replicate (fn.ntmps-vs.size) undef).getD i undef)
   cases hi:xs[i]? with
   |none=>exact .any _
   |some x=>
    have ab:i<vs.size:=by rw[← bU.1];exact (cf.1 hi).1
    have:=bU.2 i x hi
    rw[jy]at this ⊢
    rw[Ox ab]
    exact this
  ·intro e t' σ' F' w' a' h1 h2 h3
   have fin:Dh TT fn.results.toList t' σ' (fun vs=>Fin R (HB vs) σ')→LeavesInM Fence.wide 0 P fn a'.tmps (fun e w'=>∃r v σ' F',e=.returned v∧bE F w F' w'∧bg F' w' σ'∧aA F' w' r v∧R r σ') a'.defers .returning w':=by
    intro h3
    have hmk:∀d∈a'.defers,∃D,d = { target:=.collected D,args:= #[] }:=fun d hd=>(h2.defers.is d hd).imp fun _ h=>h.1
    refine O5 a'.defers w' h2.defers.nodup (fun d hd=>(h2.defers.is d hd).imp fun _ h=>⟨h.1,h.2.2.2⟩) ?_
    have hD:∀b,zZ b a'.defers→w.heap.size≤b∧F' b∧w'.heap[b]?=some (.deferred (some [])):=fun b hb=>by
     obtain⟨D,q1,q2,q3,q4⟩:=h2.defers.is _ hb
     cases q1
     exact⟨q2,q3,q4⟩
    have Dv:=Xn (w:=w') hmk
    obtain⟨z1,z2,z3,z4,z5⟩:=Yh (w:=w') (ds:=a'.defers)
    obtain⟨w2,Il⟩:∃w2,w2=shut w' a'.defers:=⟨_,rfl⟩
    rw[← Il]at Dv z1 z2 z3 z4 z5 ⊢
    have lv:∀b,nP w' b→¬zZ b a'.defers:=fun b ⟨c,T,fz,hc⟩ hb=>by
     rw[(hD b hb).2.2]at hc;cases hc
    have nc:NC F' w' (fun b=>F' b∧¬zZ b a'.defers) w2:=⟨fun b hb=>⟨hb.1,lv b hb.2⟩,fun b hb=>Dv b (lv b hb)⟩
    have st2:bE F w (fun b=>F' b∧¬zZ b a'.defers) w2:= {
     os:=z1.trans h1.os
     tape:=z2.trans h1.tape
     output:=z3.trans h1.output
     size:=by rw[z4];exact h1.size
     sub:=fun b hF=>⟨h1.sub b hF,fun hb=>by have:=(hD b hb).1;have:=aF.low b hF;omega⟩
     fix:=fun b hF=>by
      rw[Dv b (fun hb=>by have:=(hD b hb).1;have:=aF.low b hF;omega)]
      exact h1.fix b hF
     rows:=fun b c T fz hc=>by
      obtain⟨c',rG,q1,q2⟩:=h1.rows b c T fz hc
      exact⟨c',rG,(Dv b (lv b ⟨c',T,rG,q1⟩)).trans q1,q2⟩
     drawn:=by rw[z5];exact h1.drawn }
    have Vk:bg (fun b=>F' b∧¬zZ b a'.defers) w2 σ':=h2.hp.nc nc (fun p hp=>⟨Dv p.1 (fun hb=>(h2.hp.holds p hp).1 (hD p.1 hb).2.1),fun h=>(h2.hp.holds p hp).1 h.1⟩) (fun b hb=>by rw[z4];exact h2.hp.low b hb.1)
    obtain⟨ep,us,k1,k2,k3,k4⟩:=JG ok _ _ _ _ h3 _ w2 a' (fun i=>(h2.tm i).nc nc) Vk
    have afG:(results fn a'.tmps).run P w2=.ok (if h:us.toArray.size=1 then us.toArray[0] else .tuple us.toArray) w2:=by
     rw[show results fn a'.tmps=(do let vs ← fn.results.mapM (GO a'.tmps);pure (if h:vs.size=1 then vs[0] else .tuple vs)) from rfl]
     rw[Sem.run_bind,Array.mapM_eq_mapM_toList]
     simp only[Sem.run_map,k2,Result.andThen_ok]
     rfl
    have afH:=abK ep us k3 k4
    obtain⟨r',ko,nI,q1,q2,q3,q4⟩:=QW k1 _ w2 _ Vk afH
    exact⟨_,afG,r',_,ko,nI,rfl,st2.trans q1,q2,q3,q4⟩
   cases e with
   |normal=>exact fin h3
   |ret=>exact fin h3
   |exit i=>exact h3.elim
   |goto l=>exact h3.elim
theorem ACalls.mono{f:FuncId}{xs:List AV}{σ:Hp}{R R':AV→Hp→Prop}(h:ACalls P f xs σ R)(hr:∀r σ',R r σ'→R' r σ'):ACalls P f xs σ R':=
 ⟨h.1,fun F w vs hv aF=>(h.2 F w vs hv aF).mono fun _ _ ⟨r,v,σ',F',h1,h2,h3,h4,h5⟩=>⟨r,v,σ',F',h1,h2,h3,h4,hr _ _ h5⟩⟩
theorem ACalls.fin{f:FuncId}{xs:List AV}{σ:Hp}{R R':AV→Hp→Prop}(h:ACalls P f xs σ R)(hr:∀r σ',R r σ'→Fin R' r σ'):ACalls P f xs σ R':=
 ⟨h.1,fun F w vs hv aF=>(h.2 F w vs hv aF).mono fun _ _ ⟨r,v,σ',F',h1,h2,h3,h4,h5⟩=>by
  obtain⟨r',ko,nI,q1,q2,q3,q4⟩:=QW (hr _ _ h5) F' _ v h3 h4
  exact⟨r',v,ko,nI,h1,h2.trans q1,q2,q3,q4⟩⟩
def Sh.pos:Sh→Bool
 |.slice e=>decide (0<e.size)&&e.pos
 |.field f r=>f.pos&&r.pos
 |_=>true
theorem QS{w:World}:∀(s:Sh) (cs:List Value) (d:s.T),s.pos=true→Reads w s cs d→kO (fun b=>b<w.heap.size) w s cs d:=by
 intro s
 induction s with
 |int k=>exact fun _ _ _ h=>h.1
 |bool=>exact fun _ _ _ h=>h
 |str=>exact fun _ _ _ h=>h.1
 |nil=>exact fun _ _ _ h=>h
 |slice e ih=>
  rintro cs l hp ⟨a,c,h1,h2,h3,h0,h4⟩
  simp only[Sh.pos,bL,decide_eq_true_eq]at hp
  refine⟨a,c,h1,h2,h3,h0,fun aP=>?_⟩
  obtain⟨b,o,rfl,hi⟩:=h4 aP
  have tk:0<l.length:=mM.2 aP
  refine⟨b,o,rfl,?_,fun i h=>?_⟩
  ·obtain⟨cs',q1,q2,q3⟩:=hi 0 tk
   cases cs' with
   |nil=>simp at q1;omega
   |cons u cs'=>
    have lv:=q2 0 u rfl
    unfold World.cell? at lv
    cases ho:w.heap[b]? with
    |none=>simp[ho]at lv
    |some x=>
     cases x with
     |cells c T fz=>exact⟨s8 ho,c,T,fz,ho⟩
     |_=>simp[ho]at lv
  ·obtain⟨cs',q1,q2,q3⟩:=hi i h
   exact⟨cs',q1,q2,ih _ _ hp.2 q3⟩
 |field f r qn jK=>
  rintro cs d hp ⟨c1,c2,h1,h2,h3,h4⟩
  simp only[Sh.pos,bL]at hp
  exact⟨c1,c2,h1,h2,qn _ _ hp.1 h3,jK _ _ hp.2 h4⟩
theorem adN{f:FuncId}{xs:List AV}(h:ACalls P f xs [] (fun r _=>r=.bool true)){w:World}{vs:Array Value}(hv:iQ (fun b=>b<w.heap.size) w xs vs):
  Calls P f vs w fun e w'=>e=.returned (.bool true)∧Below w.heap.size w w':=by
 refine (h.2 _ w vs hv ⟨by simp,(fun p hp=>by cases hp),fun _ h=>h⟩).mono ?_
 rintro e w' ⟨r,v,σ',F',rfl,h1,h2,h3,rfl⟩
 rw[h3.qV]
 exact⟨rfl,h1.os,h1.tape,h1.output,h1.size,fun k hk=>h1.fix k hk⟩
end
end Go.Proofs.YtnikdflhefijbaaGreat
