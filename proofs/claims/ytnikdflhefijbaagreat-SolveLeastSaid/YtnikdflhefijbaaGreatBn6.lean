import Derived.WalkMore
import Derived.Test.YtnikdflhefijbaaGreatBn5
import Derived.Test.YtnikdflhefijbaaGreatBn1
import Derived.Test.YtnikdflhefijbaaGreatRows
namespace Go.Proofs.YtnikdflhefijbaaGreat
open Go.RowKit
section
variable {P:Program} {TT:TypeId→Option TI}
def Dm(n:Nat)(o:Oper):Bool:=(match o.dst with | some d=>Nat.blt d n | none=>true)&&(match o.op with | .defer _=>false | _=>true)
def codeOk(n:Nat):Bool→Code→Bool
 |_,.region _ ops _=>ops.toList.all (Dm n)
 |rd,.seq a b=>codeOk n rd a&&codeOk n rd b
 |rd,.cond _ a b=>codeOk n rd a&&codeOk n rd b
 |rd,.block _ c=>codeOk n rd c
 |rd,.loop c=>codeOk n rd c
 |rd,.scope c=> !rd&&codeOk n false c
 |rd,.rangeFunc _ ps a b=> !rd&&ps.toList.all (fun p=>Nat.blt p n)&&codeOk n true a&&codeOk n true b
 |_,_=>true
theorem aas{n:Nat}{rd:Bool}:∀(c:Code) (l:Nat) (r:Code),findLabel c l=some r→codeOk n rd c=true→codeOk n rd r=true:=by
 intro c
 induction c with
 |seq a b iha Nf=>
  intro l r h hc
  simp only[codeOk,bR]at hc
  simp only[findLabel]at h
  split at h
  ·rename_i rest hr
   cases h
   simp only[codeOk,bR]
   exact⟨iha l _ hr hc.1,hc.2⟩
  ·exact Nf l r h hc.2
 |label l'=>
  intro l r h _
  simp only[findLabel]at h
  split at h
  ·cases h;rfl
  ·cases h
 |_=>intro l r h;simp[findLabel]at h
theorem aeb{n:Nat}{ops:List Oper}(h:ops.all (Dm n)=true):∀o∈ops,∀d,o.dst=some d→d<n:=fun o ho d hd=>by
 have:=fy.1 h o ho
 unfold Dm at this
 rw[hd,bR]at this
 exact cD this.1
theorem aeV{n:Nat}{ops:List Oper}(h:ops.all (Dm n)=true):∀o∈ops,∀c,o.op≠.defer c:=fun o ho c hc=>by
 have:=fy.1 h o ho
 unfold Dm at this
 rw[hc,bR]at this
 cases this.2
theorem VY{F:Fence}{n:Nat}{c:Code}{Q:Exit→Act→World→Prop}{a:Act}{w:World}(J:Nat→Act→World→Prop)(m:Nat)(afE:J m a w)
  (round:∀m a w,J m a w→c.wpIn F n P (Exit.then (fun a' w'=>∃m',m'<m∧J m' a' w') Q) a w):(Code.loop c).wpIn F n P Q a w:=by
 intro b k cs mM hb hr
 have key:∀n a w,J n a w→∃e a' w',Q e a' w'∧ArrivesIn (Machine.fenced P F) P (lone (b.atR a (.code c::.inLoop c::k)) cs w) b k cs e a' w':=by
  intro n
  induction n using Nat.strongRecOn with
  |_ n ih=>
   intro a w hI
   obtain⟨e,sd,rZ,hq,qj⟩:=round n a w hI b (.inLoop c::k) cs mM hb hr
   cases e with
   |normal=>
    obtain⟨m',ab,afa⟩:=hq
    obtain⟨agq,A1,AO,w5,Ad⟩:=ih m' ab sd rZ afa
    exact⟨agq,A1,AO,w5,.of_steps (StepsIn.trans qj (.one (fenced_calm hb hr rfl) stepR_inLoop)) Ad⟩
   |exit id=>exact⟨_,sd,rZ,hq,.pass (x:=.inLoop c) rfl (fun _ _=>.inl (by simp)) qj⟩
   |goto l=>exact⟨_,sd,rZ,hq,.pass (x:=.inLoop c) rfl (fun _ _=>.inl (by simp)) qj⟩
   |ret=>exact⟨_,sd,rZ,hq,.pass (x:=.inLoop c) rfl (fun _ _=>.inl (by simp)) qj⟩
   |panic ch=>exact⟨_,sd,rZ,hq,.pass (x:=.inLoop c) rfl (fun _ _=>.inl (by simp)) qj⟩
   |outgrown=>exact⟨_,sd,rZ,hq,.pass (x:=.inLoop c) rfl (fun _ _=>.inl (by simp)) qj⟩
 obtain⟨e,a',w',hq,qj⟩:=key m a w afE
 exact⟨e,a',w',hq,.of_steps (.one (fenced_calm hb hr rfl) stepR_loop) qj⟩
def Ex.up:Ex→Exit
 |.normal=>.normal
 |.exit id=>.exit id
 |.goto l=>.goto l
 |.ret=>.ret
inductive AN(P:Program)(c:Code)(Q:Exit→Act→World→Prop):Exit→Act→World→Prop where
 |normal {a:Act} {w:World} (h:Q .normal a w):AN P c Q .normal a w
 |exit {id:Nat} {a:Act} {w:World} (h:Q (.exit id) a w):AN P c Q (.exit id) a w
 |ret {a:Act} {w:World} (h:Q .ret a w):AN P c Q .ret a w
 |goto {l:Nat} {a:Act} {w:World} (n:Nat) (J:Nat→Nat→Act→World→Prop) (h:J n l a w) (hr:∀n l a w,J n l a w→∃r,findLabel c l=some r∧r.wp P (fun e a' w'=>match e with | .goto l'=>∃n',n'<n∧J n' l' a' w' | .panic _=>False | .outgrown=>False | e=>Q e a' w') a w):AN P c Q (.goto l) a w
theorem V9{c:Code}{Q:Exit→Act→World→Prop}{a:Act}{w:World}(h:c.wp P (AN P c Q) a w):(Code.scope c).wp P Q a w:=by
 intro b k cs
 obtain⟨e,sd,rZ,hq,qj⟩:=h b (.inScope c::k) cs
 have top:Steps P (lone (b.at a (.code (.scope c)::k)) cs w) (lone (b.at a (.code c::.inScope c::k)) cs w):=.one step_scope
 cases hq with
 |normal h=>exact⟨.normal,sd,rZ,h,.of_steps top (Steps.trans qj (.one step_inScope))⟩
 |exit h=>exact⟨.exit _,sd,rZ,h,.of_steps top (fun k' hk=>qj k' (by simp[exitTo,hk]))⟩
 |ret h=>exact⟨_,sd,rZ,h,.of_steps top qj⟩
 | @goto l _ _ n J hJ hr=>
  have key:∀(n l:Nat) (a:Act) (w:World),J n l a w→∃rest,findLabel c l=some rest∧∃e a' w',Q e a' w'∧Arrives P (lone (b.at a (.code rest::.inScope c::k)) cs w) b k cs e a' w':=by
   intro n
   induction n using Nat.strongRecOn with
   |_ n ih=>
    intro l a w hI
    obtain⟨r,hl,hwp⟩:=hr n l a w hI
    refine⟨r,hl,?_⟩
    obtain⟨e,A1,AO,w5,Ad⟩:=hwp b (.inScope c::k) cs
    cases e with
    |normal=>exact⟨.normal,A1,AO,w5,Steps.trans Ad (.one step_inScope)⟩
    |exit id=>exact⟨.exit id,A1,AO,w5,fun k' hk=>Ad k' (by simp[exitTo,hk])⟩
    |goto l'=>
     obtain⟨n',ab,hJ'⟩:=w5
     obtain⟨rest,hf,MU,M0,Mu,Md,Lo⟩:=ih n' ab l' A1 AO hJ'
     have hg:gotoIn l' (.inScope c::k)=some (.code rest::.inScope c::k):=by simp[gotoIn,hf]
     exact⟨MU,M0,Mu,Md,.of_steps (Ad _ hg) Lo⟩
    |ret=>exact⟨_,A1,AO,w5,Ad⟩
    |panic ch=>exact w5.elim
    |outgrown=>exact w5.elim
  obtain⟨rest,hf,MU,M0,Mu,Md,Lo⟩:=key n l sd rZ hJ
  have hg:gotoIn l (.inScope c::k)=some (.code rest::.inScope c::k):=by simp[gotoIn,hf]
  exact⟨MU,M0,Mu,Md,.of_steps top (.of_steps (qj _ hg) Lo)⟩
theorem dh.cJ{B n:Nat}{F:Nat→Prop}{w:World}{t t':Tm}{σ:Hp}{a:Act}(hs:dh B n F w t σ a){j b off len es:Nat}{cs:List AV}{e:Sh}{l:List e.T}(h1:σ[j]?=some (b,cs))(h2:(cs.drop off).take (len*es)=l.flatMap e.cells)(h3:l.length=len∧e.size=es∧0<es)(h4:∀i,eI b off len es e l (t i) (t' i)):
  ∃F',bJ F w F' w∧dh B n F' w t' (σ.eraseIdx j) a:=by
 obtain⟨ao,ot,hh⟩:=uF hs.hp h1 h2 h3
 exact⟨_,ao,fun i=>xR ao hh (h4 i) _ (hs.tm i),ot,hs.size,hs.defers.mono ao⟩
theorem dh.wrap{B n:Nat}{F:Nat→Prop}{w:World}{t:Tm}{σ:Hp}{a:Act}(hs:dh B n F w t σ a){k:Nat}{v:AV}(h1:t k=v)(h2:v.leaf=true):dh B n F w (eN t [(k,.via v)]) σ a:=
 ⟨fun i=>by
  show aA F w (match Nat.beq i k with | true=>.via v | false=>t i) _
  cases hb:Nat.beq i k with
  |true=>rw[jK hb];exact .via _ _ h2 (h1▸hs.tm k)
  |false=>exact hs.tm i,hs.hp,hs.size,hs.defers⟩
theorem XQ(ok:dE P TT)(hm:P.follows .mixedOrders=true){r:Option Nat}{B n:Nat}{ops:Array Oper}{K:Tm→Hp→Prop}{Q:Exit→Act→World→Prop}{t:Tm}{σ:Hp}(hd:∀o∈ops.toList,∀d,o.dst=some d→d<n)(ca:∀o∈ops.toList,∀c,o.op≠.defer c)(h:gz P TT ops.toList K t σ):∀{F:Nat→Prop} {w:World} {a:Act} {id:Nat},dh B n F w t σ a→
  (∀t' σ' F' w' a',bJ F w F' w'→dh B n F' w' t' σ' a'→K t' σ'→Q .normal a' w')→(Code.region id ops true).wpIn (FW r) 0 P Q a w:=by
 induction h with
 |quiet h0 h=>exact fun hs hq=>WD ok hm h0 h hd ca hs (fun t' F' w' a' h1 h2 h3=>hq t' _ F' w' a' h1 h2 h3)
 |each h0 h=>exact fun hs hq=>P4 ok hm h0 h hd ca hs (fun t' σ' F' w' a' h1 h2 h3=>hq t' σ' F' w' a' h1 h2 h3)
 |sched Q0 s h0 h=>exact fun hs hq=>Pb ok hm h0 h hd ca hs (fun t' σ' F' w' a' h1 h2 h3=>hq t' σ' F' w' a' h1 h2 h3)
 |meet L H h0 h go=>
  intro F w a id hs hq
  refine P4 ok hm h0 h hd ca hs (fun t' σ' F' w' a' h1 h2 h3=>?_)
  obtain⟨s,k1,k2⟩:=h3
  refine hq t' (H s) F' w' a' h1 (h2.dI k2) ?_
  rw[zT k1]
  exact go s t'
 |Hz Q0 s0 L H h0 h go=>
  intro F w a id hs hq
  refine Pb ok hm h0 h hd ca hs (fun t' σ' F' w' a' h1 h2 h3=>?_)
  obtain⟨s,k1,k2⟩:=h3
  refine hq t' (H s) F' w' a' h1 (h2.dI k2) ?_
  rw[zT k1]
  exact go s t'
 |cJ j b off len es cs e l h1 h2 h3 h4 h ih=>
  intro F w a id hs hq
  obtain⟨F1,k1,k2⟩:=hs.cJ h1 h2 h3 h4
  exact ih k2 (fun t' σ' F' w' a' q1 q2 q3=>hq t' σ' F' w' a' (k1.trans q1) q2 q3)
 |dI h1 h ih=>
  intro F w a id hs hq
  exact ih (hs.dI h1) hq
theorem dh.kz{B n:Nat}{F:Nat→Prop}{w:World}{t:Tm}{σ:Hp}{a:Act}(hs:dh B n F w t σ a){j b off len es:Nat}{cs:List AV}{e:Sh}{l:List e.T}(h1:σ[j]?=some (b,cs))(h2:(cs.drop off).take (len*es)=l.flatMap e.cells)(h3:l.length=len∧e.size=es∧0<es){i k b':Nat}{cs':List AV}(hi:(σ.eraseIdx j)[i]?=some (b',cs'))(hk:cs'[k]?=some (.ae b off len es)):
  ∃F',bJ F w F' w∧dh B n F' w t ((σ.eraseIdx j).set i (b',cs'.set k (.af e l))) a:=by
 obtain⟨ao,ot,hh⟩:=uF hs.hp h1 h2 h3
 exact⟨_,ao,fun i=>(hs.tm i).mono ao,Cu ot hh hi hk,hs.size,hs.defers.mono ao⟩
theorem dh.nil{B n:Nat}{F:Nat→Prop}{w:World}{t t':Tm}{σ:Hp}{a:Act}(hs:dh B n F w t σ a)(h4:∀i,eI 0 0 0 0 .bool [] (t i) (t' i)):dh B n F w t' σ a:=
 ⟨fun i=>xR (.refl _ _) (fun v hv=>by
  obtain⟨a,cap,rfl,c,T,fz,m1,m2,m3,m4⟩:=hv.kY
  exact .af _ _ _ ⟨some a,cap,rfl,m2,m3,(fun e=>by cases e),fun aS=>absurd rfl aS⟩) (h4 i) _ (hs.tm i),hs.hp,hs.size,hs.defers⟩
theorem YK{B n:Nat}{S:Type}{L:S→List (Nat×AV)}{H:S→Hp}{p:S→Prop}{μ:S→Nat}{s:S}{t':Tm}{σ':Hp}(h:pq L H p μ s t' σ'):∀{F:Nat→Prop} {w:World} {a:Act},dh B n F w t' σ' a→
  ∃F' t2 s',bJ F w F' w∧dh B n F' w t2 (H s') a∧μ s'<μ s∧p s'∧agree t2 (L s'):=by
 induction h with
 |mk s' h1 h2 h3 h4=>exact fun hs=>⟨_,_,s',.refl _ _,hs.dI h4,h1,h2,h3⟩
 |cJ j b off len es cs e l h1 h2 h3 h4 h ih=>
  intro F w a hs
  obtain⟨F1,k1,k2⟩:=hs.cJ h1 h2 h3 h4
  obtain⟨F2,t2,s',q1,q2,q3⟩:=ih k2
  exact⟨F2,t2,s',k1.trans q1,q2,q3⟩
 |kz j b off len es cs e l h1 h2 h3 i k b' cs' hi hk h ih=>
  intro F w a hs
  obtain⟨F1,k1,k2⟩:=hs.kz h1 h2 h3 hi hk
  obtain⟨F2,t2,s',q1,q2,q3⟩:=ih k2
  exact⟨F2,t2,s',k1.trans q1,q2,q3⟩
 |dI h1 h ih=>exact fun hs=>ih (hs.dI h1)
 |nil h4 h ih=>exact fun hs=>ih (hs.nil h4)
theorem YL{B n:Nat}{S:Type}{fX:S→Nat}{L:S→List (Nat×AV)}{H:S→Hp}{p:S→Prop}{μ:S→Nat}{s:S}{l:Nat}{t':Tm}{σ':Hp}(h:ra fX L H p μ s l t' σ'):∀{F:Nat→Prop} {w:World} {a:Act},dh B n F w t' σ' a→
  ∃F' t2 s',bJ F w F' w∧dh B n F' w t2 (H s') a∧l=fX s'∧μ s'<μ s∧p s'∧agree t2 (L s'):=by
 induction h with
 |mk s' h0 h1 h2 h3 h4=>exact fun hs=>⟨_,_,s',.refl _ _,hs.dI h4,h0,h1,h2,h3⟩
 |cJ j b off len es cs e l h1 h2 h3 h4 h ih=>
  intro F w a hs
  obtain⟨F1,k1,k2⟩:=hs.cJ h1 h2 h3 h4
  obtain⟨F2,t2,s',q1,q2,q3⟩:=ih k2
  exact⟨F2,t2,s',k1.trans q1,q2,q3⟩
 |kz j b off len es cs e l h1 h2 h3 i k b' cs' hi hk h ih=>
  intro F w a hs
  obtain⟨F1,k1,k2⟩:=hs.kz h1 h2 h3 hi hk
  obtain⟨F2,t2,s',q1,q2,q3⟩:=ih k2
  exact⟨F2,t2,s',k1.trans q1,q2,q3⟩
 |dI h1 h ih=>exact fun hs=>ih (hs.dI h1)
 |nil h4 h ih=>exact fun hs=>ih (hs.nil h4)
theorem Xy{r:Option Nat}{B n:Nat}{c:Code}{body:Tm→Hp→(Ex→Tm→Hp→Prop)→Prop}(hb:∀(t:Tm) (σ:Hp) (K:Ex→Tm→Hp→Prop) (F:Nat→Prop) (w:World) (a:Act) (Q:Exit→Act→World→Prop),body t σ K→dh B n F w t σ a→
   (∀e t' σ' F' w' a',bJ F w F' w'→dh B n F' w' t' σ' a'→K e t' σ'→Q e.up a' w')→c.wpIn (FW r) 0 P Q a w) {K:Ex→Tm→Hp→Prop} {t:Tm} {σ:Hp} (h:mH body K t σ):∀{F:Nat→Prop} {w:World} {a:Act} {Q:Exit→Act→World→Prop},dh B n F w t σ a→
  (∀e t' σ' F' w' a',bJ F w F' w'→dh B n F' w' t' σ' a'→K e t' σ'→Q e.up a' w')→(Code.loop c).wpIn (FW r) 0 P Q a w:=by
 induction h with
 | @mk t σ S L H p μ s0 h0 hr=>
  intro F w a Q hs hq
  refine VY (fun m a' w'=>∃t' σ' F',bJ F w F' w'∧dh B n F' w' t' σ' a'∧Head L H p μ m t' σ') (μ s0) ⟨t,σ,F,.refl _ _,hs,s0,t,rfl,h0.1,zT h0.2.1,h0.2.2⟩ ?_
  rintro m a1 w1 ⟨_,_,F1,s1,r1,ss,g,rfl,hp,rfl,rfl⟩
  refine hb _ _ _ F1 w1 a1 _ (hr ss g hp) r1 ?_
  intro e t' σ' F' w' a' h1 h2 h3
  cases e with
  |normal=>
   obtain⟨F2,t2,s',q1,q2,k1,k2,k3⟩:=YK h3 h2
   exact⟨_,k1,t2,_,F2,s1.trans (h1.trans q1),q2,s',t2,rfl,k2,zT k3,rfl⟩
  |exit id=>exact hq (.exit id) t' σ' F' w' a' (s1.trans h1) h2 h3
  |goto l=>exact hq (.goto l) t' σ' F' w' a' (s1.trans h1) h2 h3
  |ret=>exact hq .ret t' σ' F' w' a' (s1.trans h1) h2 h3
 |cJ j b off len es cs e l h1 h2 h3 h4 h ih=>
  intro F w a Q hs hq
  obtain⟨F1,k1,k2⟩:=hs.cJ h1 h2 h3 h4
  exact ih k2 (fun e t' σ' F' w' a' q1 q2 q3=>hq e t' σ' F' w' a' (k1.trans q1) q2 q3)
 |dI h1 h ih=>
  intro F w a Q hs hq
  exact ih (hs.dI h1) hq
 |wrap k v h1 h2 h ih=>
  intro F w a Q hs hq
  exact ih (hs.wrap h1 h2) hq
 |nil h4 h ih=>
  intro F w a Q hs hq
  exact ih (hs.nil h4) hq
theorem XF{B n:Nat}{c:Code}{R:Nat→Tm→Hp→(Ex→Tm→Hp→Prop)→Prop}(hR:∀(l:Nat) (t:Tm) (σ:Hp) (K:Ex→Tm→Hp→Prop) (F:Nat→Prop) (w:World) (a:Act) (Q:Exit→Act→World→Prop),R l t σ K→dh B n F w t σ a→
   (∀e t' σ' F' w' a',bJ F w F' w'→dh B n F' w' t' σ' a'→K e t' σ'→Q e.up a' w')→∃r,findLabel c l=some r∧r.wp P Q a w) {l:Nat} {K:Ex→Tm→Hp→Prop} {t:Tm} {σ:Hp} (h:rb R l K t σ):∀{F:Nat→Prop} {w:World} {a:Act} {Q:Exit→Act→World→Prop},dh B n F w t σ a→
  (∀e t' σ' F' w' a',bJ F w F' w'→dh B n F' w' t' σ' a'→K e t' σ'→(∀l,e≠.goto l)→Q e.up a' w')→AN P c Q (.goto l) a w:=by
 induction h with
 | @fwd t σ k h=>
  intro F w a Q hs hq
  refine .goto k (fun k l a' w'=>∃t' σ' F',bJ F w F' w'∧dh B n F' w' t' σ' a'∧UZ R k l t' σ' K) ⟨t,σ,F,.refl _ _,hs,h⟩ ?_
  rintro k l a1 w1 ⟨t1,ki,F1,s1,r1,h⟩
  cases k with
  |zero=>exact h.elim
  |succ k=>
   refine hR l t1 ki _ F1 w1 a1 _ h r1 ?_
   intro e t' σ' F' w' a' h1 h2 h3
   cases e with
   |normal=>exact hq .normal t' σ' F' w' a' (s1.trans h1) h2 h3 (by simp)
   |exit id=>exact hq (.exit id) t' σ' F' w' a' (s1.trans h1) h2 h3 (by simp)
   |goto l=>exact⟨k,Nat.lt_succ_self _,t',σ',F',s1.trans h1,h2,h3⟩
   |ret=>exact hq .ret t' σ' F' w' a' (s1.trans h1) h2 h3 (by simp)
 | @loop t σ S fX L H p μ s0 h0 hr=>
  intro F w a Q hs hq
  refine .goto (μ s0) (fun m l a' w'=>∃s g F',bJ F w F' w'∧dh B n F' w' (eN g (L s)) (H s) a'∧m=μ s∧l=fX s∧p s) ⟨s0,t,F,.refl _ _,?_,rfl,h0.1,h0.2.1⟩ ?_
  ·rw[← zT h0.2.2.1];exact hs.dI h0.2.2.2
  rintro m l a1 w1 ⟨s,g,F1,s1,r1,rfl,rfl,hp⟩
  refine hR (fX s) _ _ _ F1 w1 a1 _ (hr s g hp) r1 ?_
  intro e t' σ' F' w' a' h1 h2 h3
  cases e with
  |normal=>exact hq .normal t' σ' F' w' a' (s1.trans h1) h2 h3 (by simp)
  |exit id=>exact hq (.exit id) t' σ' F' w' a' (s1.trans h1) h2 h3 (by simp)
  |goto l=>
   obtain⟨F2,t2,s',q1,q2,k0,k1,k2,k3⟩:=YL h3 h2
   refine⟨_,k1,s',t2,F2,s1.trans (h1.trans q1),?_,rfl,k0,k2⟩
   rw[← zT k3]
   exact q2
  |ret=>exact hq .ret t' σ' F' w' a' (s1.trans h1) h2 h3 (by simp)
 |cJ j b off len es cs e l h1 h2 h3 h4 h ih=>
  intro F w a Q hs hq
  obtain⟨F1,k1,k2⟩:=hs.cJ h1 h2 h3 h4
  exact ih k2 (fun e t' σ' F' w' a' q1 q2 q3 q4=>hq e t' σ' F' w' a' (k1.trans q1) q2 q3 q4)
 |dI h1 h ih=>
  intro F w a Q hs hq
  exact ih (hs.dI h1) hq
 |wrap k v h1 h2 h ih=>
  intro F w a Q hs hq
  exact ih (hs.wrap h1 h2) hq
structure NC(F:Nat→Prop)(w:World)(F':Nat→Prop)(w':World):Prop where
 sub:∀b,FC F w b→F' b
 cells:∀b,n5 w b→w'.heap[b]?=w.heap[b]?
theorem NC.at_{F F':Nat→Prop}{w w':World}(h:NC F w F' w'){b:Nat}(hc:n5 w b):n5 w' b:=by
 obtain⟨c,T,fz,e⟩:=hc
 exact⟨c,T,fz,(h.cells b ⟨c,T,fz,e⟩).trans e⟩
theorem NC.fc{F F':Nat→Prop}{w w':World}(h:NC F w F' w'){b:Nat}(hf:FC F w b):FC F' w' b:=⟨h.sub b hf,h.at_ hf.2⟩
theorem kV.nc{F F':Nat→Prop}{w w':World}(hn:NC F w F' w'):∀(s:Sh) (cs:List Value) (d:s.T),kV F w s cs d→kV F' w' s cs d:=by
 intro s
 induction s with
 |int k=>exact fun _ _ h=>h
 |bool=>exact fun _ _ h=>h
 |str=>exact fun _ _ h=>h
 |nil=>exact fun _ _ h=>h
 |slice e ih=>
  rintro cs l ⟨a,c,h1,h2,h3,h0,h4⟩
  refine⟨a,c,h1,h2,h3,h0,fun aS=>?_⟩
  obtain⟨b,o,rfl,hF,hi⟩:=h4 aS
  refine⟨b,o,rfl,hn.fc hF,fun i h=>?_⟩
  obtain⟨cs',q1,q2,q3⟩:=hi i h
  exact⟨cs',q1,q2.fix (hn.cells b hF.2),ih _ _ q3⟩
 |field f r qt jV=>
  rintro cs d ⟨c1,c2,h1,h2,h3,h4⟩
  exact⟨c1,c2,h1,h2,qt _ _ h3,jV _ _ h4⟩
theorem aA.nc{F F':Nat→Prop}{w w':World}(hn:NC F w F' w'){x:AV}{v:Value}(h:aA F w x v):aA F' w' x v:=by
 induction h with
 |int k n=>exact .int k n
 |bool b=>exact .bool b
 |str s=>exact .str s
 |af e l v h=>exact .af e l v (kV.nc hn _ _ _ h)
 |kB a=>exact .kB a
 |ia a c h=>exact .ia a c h
 |aj=>exact .aj
 |ae b off len e a cap h=>
  obtain⟨c,T,fz,h1,h2⟩:=h
  exact .ae b off len e a cap ⟨c,T,fz,(hn.cells b ⟨c,T,fz,h1⟩).trans h1,h2⟩
 |cR=>exact .cR
 |ptr b off h=>exact .ptr b off (hn.at_ h)
 |nA b=>exact .nA b
 |nH b=>exact .nH b
 |fV cs b o f hF h1 hl h ih=>exact .fV cs b o f (hn.fc hF) (fun i x hx=>(KS (hn.cells b hF.2) _).trans (h1 i x hx)) hl ih
 |agg cs vs hs hl h ih=>exact .agg cs vs hs hl ih
 |tup cs vs hs h ih=>exact .tup cs vs hs ih
 |iface t a v h ih=>exact .iface t a v ih
 |nilif=>exact .nilif
 |fn f c1 c2 v1 v2 fv hG h1 h2 Ef Ee=>exact .fn f c1 c2 v1 v2 fv hG Ef Ee
 |iP=>exact .iP
 |px=>exact .px
 |gp n b h=>exact .gp n b h
 |fS n m a b h1 h2=>exact .fS n m a b h1 h2
 |any v=>exact .any v
 |via x v hl h ih=>exact .via x v hl ih
theorem Holds.nc{F F':Nat→Prop}{w w':World}(hn:NC F w F' w'){b:Nat}{cs:List AV}(h:Holds F w b cs)(hb:w'.heap[b]?=w.heap[b]?)(hF:¬F' b):Holds F' w' b cs:=by
 obtain⟨_,⟨c,T,h1,h2,h3⟩ | ⟨x,o,h1,h2,h3⟩ | ⟨L,t,h1,h2,h3⟩⟩:=h
 ·exact⟨hF,.inl ⟨c,T,hb.trans h1,h2,fun i x hx=>⟨(h3 i x hx).1,(h3 i x hx).2.nc hn⟩⟩⟩
 ·exact⟨hF,.inr (.inl ⟨x,o,h1,hb.trans h2,h3⟩)⟩
 ·exact⟨hF,.inr (.inr ⟨L,t,h1,hb.trans h2,fun i=>(h3 i).nc hn⟩)⟩
theorem bA.nc{F F':Nat→Prop}{w w':World}{σ:Hp}(h:bA F w σ)(hn:NC F w F' w')(hk:∀p∈σ,w'.heap[p.1]?=w.heap[p.1]?∧¬F' p.1)(fg:∀b,F' b→b<w'.heap.size):bA F' w' σ:=
 ⟨h.nodup,fun p hp=>(h.holds p hp).nc hn (hk p hp).1 (hk p hp).2,fg⟩
theorem bA.out{F:Nat→Prop}{w:World}{σ:Hp}(h:bA F w σ){b:Nat}(hb:F b):∀p∈σ,p.1≠b:=fun p hp e=>(h.holds p hp).1 (e▸hb)
theorem LG{F F':Nat→Prop}{w:World}{l:Nat}{L L':Loop}(hl:w.heap[l]?=some (.loop L))(hs:∀b,b≠l→F b→F' b):NC F w F' (w.putObj l (.loop L')) where
 sub:=fun b ⟨hF,c,T,fz,hc⟩=>hs b (fun e=>by subst e;rw[hl]at hc;cases hc) hF
 cells:=fun b ⟨c,T,fz,hc⟩=>World.putObj_heap_other (fun e=>by subst e;rw[hl]at hc;cases hc)
theorem KB{w:World}{l:Nat}{L L':Loop}(hl:w.heap[l]?=some (.loop L))(b:Nat)(c:Array Value)(T:TypeId)(fz:Nat×Nat)(h:w.heap[b]?=some (.cells c T fz)):(w.putObj l (.loop L')).heap[b]?=some (.cells c T fz):=
 (World.putObj_heap_other (fun e=>by subst e;rw[hl]at h;cases h)).trans h
def AA:Ex→Code
 |.normal=>.skip
 |.exit i=>.exit i
 |.goto l=>.goto l
 |.ret=>.ret
def kf(fn:FuncId)(tm:Array Value)(ps:Array Tmp)(gr body:Code)(D:Nat)(st:LoopState)(pe:Option Code):Loop:= { state:=st,pending:=pe,fn,tmps:=tm,params:=ps,assign:=gr,body,defers:=D }
theorem TU{n:Nat}{F:Nat→Prop}{w:World}:∀(ps:List Tmp) (xs:List AV) (us:List Value) (t:Tm) (tm:Array Value),xs.length=us.length→ps.all (fun p=>Nat.blt p n)=true→n≤tm.size→(∀i,aA F w (t i) (tm.getD i undef))→(∀(i:Nat) (x:AV),xs[i]?=some x→aA F w x (us.getD i undef))→
  n≤((ps.zip us).foldl (fun t p=>t.setIfInBounds p.1 p.2) tm).size∧∀i,aA F w (Ba ps xs t i) (((ps.zip us).foldl (fun t p=>t.setIfInBounds p.1 p.2) tm).getD i undef)
 | [],xs,us,t,tm,_,_,hs,ht,_=>by cases xs <;> exact⟨hs,ht⟩
 |p::ps,[],us,t,tm,hl,_,hs,ht,_=>by cases us with
  |nil=>exact⟨hs,ht⟩
  |cons u us=>cases hl
 |p::ps,x::xs,[],t,tm,hl,_,_,_,_=>by cases hl
 |p::ps,x::xs,u::us,t,tm,hl,hp,hs,ht,hx=>by
  simp only[List.all_cons,bR]at hp
  have sx:p<n:=cD hp.1
  refine TU ps xs us (put t (some p) x) (tm.setIfInBounds p u) (by simpa using hl) hp.2 (by simpa using hs) (fun i=>?_) (fun i y hy=>by simpa using hx (i+1) y (by simpa using hy))
  show aA F w (match Nat.beq i p with | true=>x | false=>t i) _
  cases hb:Nat.beq i p with
  |true=>
   obtain rfl:=jK hb
   have hi:i<tm.size:=rH sx hs
   simpa [Array.getD,hi]using hx 0 x rfl
  |false=>
   have aS:p≠i:=fun e=>by subst e;rw[xF]at hb;cases hb
   have:=ht i
   rw[jL]at this ⊢
   rw[JB aS]
   exact this
def Hs(P:Program)(B n l:Nat)(c:Code)(R:Tm→Hp→(Ex→Tm→Hp→Prop)→Prop):Prop:=
 ∀(t:Tm) (σ:Hp) (K:Ex→Tm→Hp→Prop) (F:Nat→Prop) (w:World) (a:Act) (Q:Exit→Act→World→Prop),R t σ K→dh B n F w t σ a→
  (∀e t' σ' F' w' a',bJ F w F' w'→dh B n F' w' t' σ' a'→K e t' σ'→Q e.up a' w')→c.wpIn (FW (some l)) 0 P Q a w
theorem Wv{B n l D:Nat}{fn:FuncId}{tm:Array Value}{ps:Array Tmp}{gr body:Code}{t:Tm}{rA rB:Tm→Hp→(Ex→Tm→Hp→Prop)→Prop}(hB:B≤l)(hn:n≤tm.size)(xq:ps.toList.all (fun p=>Nat.blt p n)=true)
  (hA:Hs P B n l gr rA) (hb:Hs P B n l body rB) {xs:List AV} {ki:Hp} {R1:Ex→Hp→Prop} (Nk:xs.length=ps.size)
  (h:rA (Ba ps.toList xs t) ki fun e t' σ'=>match e with | .normal=>rB t' σ' (fun e _ ky=>R1 e ky) | _=>False) :
  Hr P l xs ((l,[.mF (kf fn tm ps gr body D .ready none) t])::ki) (Ms l (.mF (kf fn tm ps gr body D .ready none) t) (fun e=>.mF (kf fn tm ps gr body D .done (some (AA e))) t) R1):=by
 intro F w vs bS aF
 obtain⟨I2,hl,oM⟩:=(aF.holds _ (ck ..)).UO
 have ca:=aF.nodup
 simp only[oR,mr]at ca
 have hll:l<w.heap.size:=tc hl
 have eD:vs.size=ps.size:=bS.1.symm.trans Nk
 refine⟨fn,_,gr,body,run_yield hl eD,roundIn_of_wpIn trivial ?_⟩
 have M7:bJ F w (fun b=>F b∨b=l) w:=⟨rfl,rfl,rfl,a8 _,fun _ h=>.inl h,fun _ _=>rfl,fun _ c _ fz h=>⟨c,fz,h,rfl⟩,a8 _⟩
 have aS:∀p∈ki,p.1≠l:=fun p hp e=>ca.1 (dP.2 ⟨p,hp,e⟩)
 have MC:bA (fun b=>F b∨b=l) w ki:=⟨ca.2,fun p hp=>(aF.holds p (cW _ hp)).mono M7 rfl (fun h=>h.elim (aF.holds p (cW _ hp)).1 (aS p hp)),fun b h=>h.elim (aF.low b) (fun e=>e▸hll)⟩
 have hz:(ps.zip vs).foldl (fun tmps (t,a)=>tmps.setIfInBounds t a) tm=(ps.toList.zip vs.toList).foldl (fun t p=>t.setIfInBounds p.1 p.2) tm:=by
  rw[← Array.foldl_toList,Array.toList_zip]
 obtain⟨k1,k2⟩:=TU (n:=n) (F:=fun b=>F b∨b=l) (w:=w) ps.toList xs vs.toList t tm (by rw[go2];exact bS.1) xq hn (fun i=>(oM i).mono M7) (fun i x hx=>by
  have:=(bS.2 i x hx).mono M7
  rw[jL]at this
  rw[bg,BF]
  exact this)
 refine hA _ _ _ _ w { tmps:=(ps.zip vs).foldl (fun tmps (t,a)=>tmps.setIfInBounds t a) tm,defers:=[] } _ h ⟨fun i=>by rw[hz];exact k2 i,MC,by rw[hz];exact k1,⟨by omega,.nil,fun d hd=>by cases hd⟩⟩ ?_
 intro e t1 σ2 F1 w1 a1 st1 s1 h1
 cases e with
 |exit i=>exact h1.elim
 |goto i=>exact h1.elim
 |ret=>exact h1.elim
 |normal=>
  have eQ:w1.heap[l]?=some (.loop (kf fn tm ps gr body D .ready none)):=(st1.fix l (.inr rfl)).trans hl
  have N8:F1 l:=st1.sub l (.inr rfl)
  have ag1:l<w1.heap.size:=tc eQ
  refine⟨_,run_beginRound eQ rfl,?_⟩
  have mq:({ kf fn tm ps gr body D .ready none with state:=LoopState.busy }:Loop)=kf fn tm ps gr body D .busy none:=rfl
  rw[mq]
  have nc1:NC F1 w1 F1 (w1.putObj l (.loop (kf fn tm ps gr body D .busy none))):=LG eQ fun _ _ h=>h
  have MP:(w1.putObj l (.loop (kf fn tm ps gr body D .busy none))).heap[l]?=some (.loop (kf fn tm ps gr body D .busy none)):=World.putObj_heap_same ag1
  refine hb t1 σ2 _ F1 _ a1 _ h1 ⟨fun i=>(s1.tm i).nc nc1,s1.hp.nc nc1 (fun p hp=>⟨World.putObj_heap_other (s1.hp.out N8 p hp),(s1.hp.holds p hp).1⟩) (fun b hb=>by rw[World.putObj_size];exact s1.hp.low b hb),s1.size,⟨by rw[World.putObj_size];exact s1.defers.low,s1.defers.nodup,fun d hd=>by
   obtain⟨D',q1,q2,q3,q4⟩:=s1.defers.is d hd
   refine⟨D',q1,q2,q3,(World.putObj_heap_other (fun e=>?_)).trans q4⟩
   subst e;rw[eQ]at q4;cases q4⟩⟩ ?_
  intro e t3 eb F3 w3 a3 pE s3 h3
  have hF3:F3 l:=pE.sub l N8
  have rz:w3.heap[l]?=some (.loop (kf fn tm ps gr body D .busy none)):=(pE.fix l N8).trans MP
  have ag0:l<w3.heap.size:=tc rz
  have fin:∀L':Loop,bJ F w (fun b=>F3 b∧b≠l) (w3.putObj l (.loop L'))∧((∀i,L'.tmps.getD i undef=tm.getD i undef)→bA (fun b=>F3 b∧b≠l) (w3.putObj l (.loop L')) ((l,[.mF L' t])::eb)):=by
   intro L'
   have nc3:NC F3 w3 (fun b=>F3 b∧b≠l) (w3.putObj l (.loop L')):=LG rz fun b hb h=>⟨h,hb⟩
   have stw:bJ F w (fun b=>F3 b∧b≠l) (w3.putObj l (.loop L')):= {
    os:=pE.os.trans st1.os
    tape:=pE.tape.trans st1.tape
    output:=pE.output.trans st1.output
    size:=by
     have q1:=st1.size
     have q3:=pE.size
     rw[World.putObj_size]at q3 ⊢
     omega
    sub:=fun b hF=>⟨pE.sub b (st1.sub b (.inl hF)),fun e=>I2 (e▸hF)⟩
    fix:=fun b hF=>by
     have oQ:b≠l:=fun e=>I2 (e▸hF)
     rw[World.putObj_heap_other oQ,pE.fix b (st1.sub b (.inl hF)),World.putObj_heap_other oQ,st1.fix b (.inl hF)]
    rows:=fun b c T fz hc=>by
     obtain⟨c1,fz1,q1,q2⟩:=st1.rows b c T fz hc
     obtain⟨c3,JD,q3,q4⟩:=pE.rows b c1 T fz1 (KB eQ b c1 T fz1 q1)
     exact⟨c3,JD,KB rz b c3 T JD q3,q4.trans q2⟩
    drawn:=fx st1.drawn pE.drawn }
   refine⟨stw,fun afJ=>⟨?_,fun p hp=>?_,fun b hb=>?_⟩⟩
   ·simp only[oR,mr]
    exact⟨fun hm=>by obtain⟨p,hp,e⟩:=dP.1 hm;exact s3.hp.out hF3 p hp e,s3.hp.nodup⟩
   ·rcases eF.1 hp with rfl | hp
    ·exact⟨fun h=>h.2 rfl,.inr (.inr ⟨L',t,rfl,World.putObj_heap_same ag0,fun i=>by rw[afJ];exact (oM i).mono stw⟩)⟩
    ·exact (s3.hp.holds p hp).nc nc3 (World.putObj_heap_other (s3.hp.out hF3 p hp)) (fun h=>(s3.hp.holds p hp).1 h.1)
   ·rw[World.putObj_size];exact s3.hp.low b hb.1
  have L9:∀e:Ex,e≠.normal→R1 e eb→∃v w',(Instr.endRound l (some (AA e))).run P w3=.ok v w'∧∃r v' σ' F',Ending.returned v=.returned v'∧bJ F w F' w'∧bA F' w' σ'∧aA F' w' r v'∧Ms l (.mF (kf fn tm ps gr body D .ready none) t) (fun e=>.mF (kf fn tm ps gr body D .done (some (AA e))) t) R1 r σ':=fun e he hr=>by
   obtain⟨q1,q2⟩:=fin (kf fn tm ps gr body D .done (some (AA e)))
   exact⟨_,_,run_endRound _ rz,.bool false,_,_,_,rfl,q1,q2 (fun _=>rfl),.bool _,.inr ⟨rfl,e,eb,he,rfl,hr⟩⟩
  cases e with
  |normal=>
   obtain⟨q1,q2⟩:=fin (kf fn tm ps gr body D .ready none)
   exact⟨_,_,run_endRound none rz,.bool true,_,_,_,rfl,q1,q2 (fun _=>rfl),.bool _,.inl ⟨rfl,eb,rfl,h3⟩⟩
  |exit i=>exact L9 (.exit i) (by simp) h3
  |goto i=>exact L9 (.goto i) (by simp) h3
  |ret=>exact L9 .ret (by simp) h3
theorem WC{B n:Nat}{g:Operand}{ps:Array Tmp}{gr body:Code}{t:Tm}{gf:FuncId}{cap:List AV}{rA rB:Tm→Hp→(Ex→Tm→Hp→Prop)→Prop}(hg:ev t g=.fn (.func gf) [] cap)(xq:ps.toList.all (fun p=>Nat.blt p n)=true)
  (hA:∀l,Hs P B n l gr rA) (hb:∀l,Hs P B n l body rB) {K:Ex→Hp→Prop} {σ:Hp}
  (h:Aq P gf cap ps.size (fun xs ki R1=>rA (Ba ps.toList xs t) ki fun e t' σ'=>match e with | .normal=>rB t' σ' (fun e _ ky=>R1 e ky) | _=>False) K σ):∀{F:Nat→Prop} {w:World} {a:Act} {Q:Exit→Act→World→Prop},dh B n F w t σ a→
  (∀e σ' F' w' a',bJ F w F' w'→dh B n F' w' t σ' a'→K e σ'→Q e.up a' w')→(Code.rangeFunc g ps gr body).wpIn (FW none) 0 P Q a w:=by
 induction h with
 |dI h1 h ih=>exact fun hs hq=>ih (hs.dI h1) hq
 | @mk σ go=>
  intro F w a Q hs hq
  have EB:=hs.tm.eval g
  rw[hg]at EB
  cases hv:a.eval g with
  |func f' v1 lb=>
   rw[hv]at EB
   obtain⟨rfl,rfl,H5⟩:f'=.func gf∧v1 = #[]∧jf F w cap lb:=by cases EB with | fn _ _ _ _ _ fv hG h1 h2=>exact⟨rfl,E6.1 fv.symm,hG,h2⟩
   refine wpIn_rangeFunc ?_
   intro fn _
   have e1:=run_enterLoop_outer (P:=P) (w:=w) fn a.tmps ps gr body
   obtain⟨l,hle⟩:∃l,l=w.heap.size+1:=⟨_,rfl⟩
   obtain⟨D,hD⟩:∃D,D=w.heap.size:=⟨_,rfl⟩
   obtain⟨W1,vM⟩:∃W1,W1=(w.alloc (.deferred (some []))).alloc (.loop (kf fn a.tmps ps gr body D .ready none)):=⟨_,rfl⟩
   have hlW:W1.heap[l]?=some (.loop (kf fn a.tmps ps gr body D .ready none)):=by
    rw[vM,hle];have:=World.alloc_heap_new (w.alloc (.deferred (some []))) (.loop (kf fn a.tmps ps gr body D .ready none));rwa [World.size_alloc]at this
   have hDW:W1.heap[D]?=some (.deferred (some [])):=by
    rw[vM,hD];exact (Below.heap_alloc _ _ _ (by simp)).trans (World.alloc_heap_new w _)
   have hold:∀b,b<w.heap.size→W1.heap[b]?=w.heap[b]?:=fun b hb=>by
    rw[vM];exact (Below.heap_alloc _ _ b (by simp;omega)).trans (Below.heap_alloc _ _ b hb)
   have eD:W1.heap.size=w.heap.size+2:=by rw[vM];simp
   have st1:bJ F w (fun b=>F b∨b=D) W1:=⟨by rw[vM];rfl,by rw[vM];rfl,by rw[vM];rfl,by omega,fun _ h=>.inl h,fun b hb=>hold b (hs.hp.low b hb),fun b c _ fz hc=>⟨c,fz,(hold b (tc hc)).trans hc,rfl⟩,by rw[vM];exact a8 _⟩
   obtain⟨oy,gR⟩:=go l (.mF (kf fn a.tmps ps gr body D .ready none) t) (fun e=>.mF (kf fn a.tmps ps gr body D .done (some (AA e))) t) (fun xs ki R1 Nk zj=>Wv (by have:=hs.defers.low;omega) hs.size xq (hA l) (hb l) Nk zj)
   have MC:bA (fun b=>F b∨b=D) W1 ((l,[.mF (kf fn a.tmps ps gr body D .ready none) t])::σ):=by
    refine⟨?_,fun p hp=>?_,fun b hb=>?_⟩
    ·simp only[oR,mr]
     refine⟨fun hm=>?_,hs.hp.nodup⟩
     obtain⟨p,hp,e⟩:=dP.1 hm
     have:=(hs.hp.holds p hp).lt
     omega
    ·rcases eF.1 hp with rfl | hp
     ·exact⟨fun h=>h.elim (fun h=>by have:l<w.heap.size:=hs.hp.low l h;omega) (fun h=>by have:l=D:=h;omega),.inr (.inr ⟨_,t,rfl,hlW,fun i=>(hs.tm i).mono st1⟩)⟩
     ·have ab:=(hs.hp.holds p hp).lt
      exact (hs.hp.holds p hp).mono st1 (hold _ ab) (fun h=>h.elim (hs.hp.holds p hp).1 (fun e=>by omega))
    ·rcases hb with hb | hb
     ·have:=hs.hp.low b hb;omega
     ·omega
   have bS:jf (fun b=>F b∨b=D) W1 (.fn (.yield l) [] []::cap) (#[.func (.yield l) #[] #[]]++lb):=
    show jf _ _ ([.fn (.yield l) [] []]++cap) _ from Fq (Qm (.fn _ _ _ _ _ rfl rfl (fun i x h=>by simp at h) (fun i x h=>by simp at h))) (H5.mono st1)
   have ko:∀d∈a.defers,d≠{ target:=.collected D,args:= #[] }:=fun d hd e=>by
    obtain⟨D',q1,_,_,q4⟩:=hs.defers.is d hd
    rw[q1]at e
    cases e
    have:=tc q4
    omega
   refine⟨l,[{ target:=.collected D,args:= #[] }],W1,{ target:=.fn (.func gf) lb,args:= #[.func (.yield l) #[] #[]] },W1,gf,#[.func (.yield l) #[] #[]]++lb,W1,?_,?_,fun _ _=>trivial,?_,fun hd=>(by cases hd),?_⟩
   ·rw[vM,hle,hD];exact e1
   ·simp only[resolve,hv]
    simp[go_sem]
   ·have:=oy (#[.func (.yield l) #[] #[]]++lb) W1
    simpa [invoke]using this
   ·refine callsIn_wide.2 ((gR _ W1 _ bS MC).mono ?_)
    rintro e w3 ⟨rv,v,σ',F',rfl,pE,DJ,_,hR⟩
    have Mx:=st1.trans pE
    have fin:∀(L':Loop) (σ2:Hp),σ'=(l,[.mF L' t])::σ2→L'.state≠.busy→∃w4,(Instr.endLoop l).run P w3=.ok L'.pending w4∧bJ F w F' w4∧dh B n F' w4 t σ2 { a with defers:=[{ target:=.collected D,args:= #[] }]++a.defers }:=by
     intro L' σ2 e ao
     subst e
     obtain⟨I2,rz,_⟩:=(DJ.holds _ (ck ..)).UO
     have ca:=DJ.nodup
     simp only[oR,mr]at ca
     have aS:∀p∈σ2,p.1≠l:=fun p hp e=>ca.1 (dP.2 ⟨p,hp,e⟩)
     have nc:NC F' w3 F' (w3.putObj l (.loop { L' with state:=.exhausted })):=LG rz fun _ _ h=>h
     have hDF:F' D:=pE.sub D (.inr rfl)
     have M6:bJ F' w3 F' (w3.putObj l (.loop { L' with state:=.exhausted })):=⟨rfl,rfl,rfl,by rw[World.putObj_size];exact a8 _,fun _ h=>h,fun b hb=>World.putObj_heap_other (fun e=>I2 (e▸hb)),fun b c T fz hc=>⟨c,fz,KB rz b c T fz hc,rfl⟩,a8 _⟩
     refine⟨_,run_endLoop rz ao,Mx.trans M6,fun i=>((hs.tm i).mono Mx).nc nc,?_,hs.size,?_⟩
     ·exact⟨ca.2,fun p hp=>(DJ.holds p (cW _ hp)).nc nc (World.putObj_heap_other (aS p hp)) (DJ.holds p (cW _ hp)).1,fun b hb=>by rw[World.putObj_size];exact DJ.low b hb⟩
     ·have hm:=hs.defers.mono (Mx.trans M6)
      refine⟨hm.low,?_,fun d hd=>?_⟩
      ·simp only[E0,vQ,mr]
       exact⟨fun h=>ko _ h rfl,hm.nodup⟩
      ·rcases eF.1 hd with rfl | hd
       ·exact⟨D,rfl,by have:=hs.defers.low;omega,hDF,(M6.fix D hDF).trans ((pE.fix D (.inr rfl)).trans hDW)⟩
       ·exact hm.is d hd
    rcases hR with ⟨σ2,e,hk⟩ | ⟨ex,σ2,aS,e,hk⟩
    ·obtain⟨w4,k1,k2,k3⟩:=fin _ σ2 e (by simp[kf])
     exact⟨none,w4,k1,hq .normal σ2 F' w4 _ k2 k3 hk⟩
    ·obtain⟨w4,k1,k2,k3⟩:=fin _ σ2 e (by simp[kf])
     refine⟨some (AA ex),w4,k1,?_⟩
     have Nv:=hq ex σ2 F' w4 _ k2 k3 hk
     cases ex with
     |normal=>exact absurd rfl aS
     |exit i=>exact wpIn_exit Nv
     |goto i=>exact wpIn_goto Nv
     |ret=>exact wpIn_ret Nv
  |_=>rw[hv]at EB;cases EB
theorem W3(ok:dE P TT)(hm:P.follows .mixedOrders=true){B n:Nat}:∀(fuel:Nat) (c:Code) (t:Tm) (σ:Hp) (K:Ex→Tm→Hp→Prop) (F:Nat→Prop) (w:World) (a:Act) (Q:Exit→Act→World→Prop) (r:Option Nat),codeOk n r.isSome c=true→mG P TT fuel c t σ K→dh B n F w t σ a→
  (∀e t' σ' F' w' a',bJ F w F' w'→dh B n F' w' t' σ' a'→K e t' σ'→Q e.up a' w')→c.wpIn (FW r) 0 P Q a w:=by
 intro fuel
 induction fuel with
 |zero=>intro c t σ K F w a Q r _ h;exact h.elim
 |succ fuel ih=>
  intro c t σ K F w a Q r hc h hs hq
  cases c with
  |skip=>exact wpIn_skip (hq .normal t σ F w a (.refl _ _) hs h)
  |label l=>exact wpIn_label (hq .normal t σ F w a (.refl _ _) hs h)
  |exit id=>exact wpIn_exit (hq (.exit id) t σ F w a (.refl _ _) hs h)
  |goto l=>exact wpIn_goto (hq (.goto l) t σ F w a (.refl _ _) hs h)
  |ret=>exact wpIn_ret (hq .ret t σ F w a (.refl _ _) hs h)
  |region id ops draw=>
   have hd:=aeb (n:=n) (ops:=ops.toList) hc
   have ca:=aeV (n:=n) (ops:=ops.toList) hc
   cases draw with
   |false=>exact Ww ca (J0 ok ops.toList t σ _ F w a hd h hs (fun t' σ' F' w' a' h1 h2 h3=>hq .normal t' σ' F' w' a' h1 h2 h3))
   |true=>
    have h:gz P TT ops.toList (K .normal) t σ:=h
    exact XQ ok hm hd ca h hs (fun t' σ' F' w' a' h1 h2 h3=>hq .normal t' σ' F' w' a' h1 h2 h3)
  |seq x y=>
   simp only[codeOk,bR]at hc
   refine wpIn_seq (ih x t σ _ F w a _ r hc.1 h hs ?_)
   intro e t' σ' F' w' a' h1 h2 h3
   cases e with
   |normal=>exact ih y t' σ' K F' w' a' Q r hc.2 h3 h2 (fun e y7 ky nV mf OQ k1 k2 k3=>hq e y7 ky nV mf OQ (h1.trans k1) k2 k3)
   |exit id=>exact hq (.exit id) t' σ' F' w' a' h1 h2 h3
   |goto l=>exact hq (.goto l) t' σ' F' w' a' h1 h2 h3
   |ret=>exact hq .ret t' σ' F' w' a' h1 h2 h3
  |cond x y z=>
   simp only[codeOk,bR]at hc
   have h:(match ev t x with | .bool b=>(match b with | true=>mG P TT fuel y t σ K | false=>mG P TT fuel z t σ K) | _=>False):=h
   have hx:=hs.tm.eval x
   split at h
   ·rename_i b hb
    rw[hb]at hx
    refine wpIn_cond (t:=b) hx.qZ ?_
    cases b with
    |true=>exact ih y t σ K F w a Q r hc.1 h hs hq
    |false=>exact ih z t σ K F w a Q r hc.2 h hs hq
   ·exact h.elim
  |block id c=>
   refine wpIn_block (ih c t σ _ F w a _ r hc h hs ?_)
   intro e t' σ' F' w' a' h1 h2 h3
   cases e with
   |normal=>exact hq .normal t' σ' F' w' a' h1 h2 h3
   |exit i=>
    show (if i=id then Q .normal a' w' else Q (.exit i) a' w')
    have h3:(match Nat.beq i id with | true=>K .normal t' σ' | false=>K (.exit i) t' σ'):=h3
    cases hb:Nat.beq i id with
    |true=>rw[hb]at h3;rw[ah (jK hb)];exact hq .normal t' σ' F' w' a' h1 h2 h3
    |false=>
     rw[hb]at h3
     rw[ag (fun e=>by subst e;rw[xF]at hb;cases hb)]
     exact hq (.exit i) t' σ' F' w' a' h1 h2 h3
   |goto l=>exact hq (.goto l) t' σ' F' w' a' h1 h2 h3
   |ret=>exact hq .ret t' σ' F' w' a' h1 h2 h3
  |loop c=>
   have h:mH (fun t σ Q=>mG P TT fuel c t σ Q) K t σ:=h
   exact Xy (fun t σ K F w a Q h hs hq=>ih c t σ K F w a Q r hc h hs hq) h hs hq
  |scope c=>
   simp only[codeOk,bR,lB]at hc
   obtain⟨hr,hc⟩:=hc
   obtain rfl:r=none:=by cases r with | none=>rfl | some l=>cases hr
   refine wpIn_wide.2 (V9 (wpIn_wide.1 (ih c t σ _ F w a _ none hc h hs ?_)))
   intro e t' σ' F' w' a' h1 h2 h3
   cases e with
   |normal=>exact .normal (hq .normal t' σ' F' w' a' h1 h2 h3)
   |exit i=>exact .exit (hq (.exit i) t' σ' F' w' a' h1 h2 h3)
   |ret=>exact .ret (hq .ret t' σ' F' w' a' h1 h2 h3)
   |goto l=>
    have h3:rb (fun l t σ Q=>match findLabel c l with | some r=>mG P TT fuel r t σ Q | none=>False) l K t' σ':=h3
    exact XF (fun l t σ K F w a Q h hs hq=>by
     have h:(match findLabel c l with | some r=>mG P TT fuel r t σ K | none=>False):=h
     split at h
     ·rename_i r hr
      exact⟨r,hr,wpIn_wide.1 (ih r t σ K F w a Q none (aas c l r hr hc) h hs hq)⟩
     ·exact h.elim) h3 h2 (fun e y7 ky nV mf OQ k1 k2 k3 k4=>hq e y7 ky nV mf OQ (h1.trans k1) k2 k3)
  |rangeFunc g ps gr body=>
   simp only[codeOk,bR,lB]at hc
   obtain⟨⟨⟨hr,xq⟩,mn⟩,nP⟩:=hc
   obtain rfl:r=none:=by cases r with | none=>rfl | some l=>cases hr
   have h:(match ev t g with | .fn (.func gf) [] cap=>Aq P gf cap ps.size (fun xs ki R1=>mG P TT fuel gr (Ba ps.toList xs t) ki fun e t' σ'=>match e with | .normal=>mG P TT fuel body t' σ' (fun e _ ky=>R1 e ky) | _=>False) (fun e σ'=>K e t σ') σ | _=>False):=h
   split at h
   ·rename_i gf cap hg
    exact WC hg xq (fun l t σ K F w a Q h hs hq=>ih gr t σ K F w a Q (some l) mn h hs hq) (fun l t σ K F w a Q h hs hq=>ih body t σ K F w a Q (some l) nP h hs hq) h hs (fun e σ' F' w' a' k1 k2 k3=>hq e t σ' F' w' a' k1 k2 k3)
   ·exact h.elim
  |refuse=>exact h.elim
inductive Fin(R:AV→Hp→Prop):AV→Hp→Prop where
 |done {r:AV} {σ:Hp} (h:R r σ):Fin R r σ
 |pull {r:AV} {σ:Hp} (js:List Nat) (h:Fin R r (n9 js σ)):Fin R r σ
 |drop {r:AV} {σ:Hp} (k n:Nat) (h:Fin R r (σ.take k++σ.drop (k+n))):Fin R r σ
 |perm {r:AV} {σ σ2:Hp} (hp:σ2.Perm σ) (h:Fin R r σ2):Fin R r σ
 |cJ {r r':AV} {σ:Hp} (j b off len es:Nat) (cs:List AV) (e:Sh) (l:List e.T) (h1:σ[j]?=some (b,cs)) (h2:(cs.drop off).take (len*es)=l.flatMap e.cells) (h3:l.length=len∧e.size=es∧0<es) (h4:eI b off len es e l r r') (h:Fin R r' (σ.eraseIdx j)):Fin R r σ
 |nil {r r':AV} {σ:Hp} (h4:eI 0 0 0 0 .bool [] r r') (h:Fin R r' σ):Fin R r σ
 |dI {r:AV} {σ σ2:Hp} (h1:jm σ σ2) (h:Fin R r σ2):Fin R r σ
 |kz {r:AV} {σ:Hp} (j b off len es:Nat) (cs:List AV) (e:Sh) (l:List e.T) (h1:σ[j]?=some (b,cs)) (h2:(cs.drop off).take (len*es)=l.flatMap e.cells) (h3:l.length=len∧e.size=es∧0<es) (i k b':Nat) (cs':List AV) (hi:(σ.eraseIdx j)[i]?=some (b',cs')) (hk:cs'[k]?=some (.ae b off len es)) (h:Fin R r ((σ.eraseIdx j).set i (b',cs'.set k (.af e l)))):Fin R r σ
theorem Q2{R:AV→Hp→Prop}{r:AV}{σ:Hp}(h:Fin R r σ):∀(F:Nat→Prop) (w:World) (v:Value),bA F w σ→aA F w r v→∃r' σ' F',bJ F w F' w∧bA F' w σ'∧aA F' w r' v∧R r' σ':=by
 induction h with
 |done h=>exact fun F w v aF hv=>⟨_,_,F,.refl _ _,aF,hv,h⟩
 |pull js h ih=>exact fun F w v aF hv=>ih F w v (aF.perm (xY js _)) hv
 |perm hp h ih=>exact fun F w v aF hv=>ih F w v (aF.perm hp) hv
 | @drop r σ k n h ih=>
  intro F w v aF hv
  refine ih F w v (aF.sub ?_) hv
  have h1:(σ.drop (k+n)).Sublist (σ.drop k):=by
   rw[← List.drop_drop]
   exact List.drop_sublist _ _
  have h2:=(List.Sublist.refl (σ.take k)).append h1
  rwa [E7]at h2
 | @cJ r r' σ j b off len es cs e l h1 h2 h3 h4 h ih=>
  intro F w v aF hv
  obtain⟨ao,ot,hh⟩:=uF aF h1 h2 h3
  obtain⟨M8,ky,nV,k1,k2,k3,k4⟩:=ih _ w v ot (xR ao hh h4 v hv)
  exact⟨M8,ky,nV,ao.trans k1,k2,k3,k4⟩
 |dI h1 h ih=>exact fun F w v aF hv=>ih F w v (aF.dI h1) hv
 |kz j b off len es cs e l h1 h2 h3 i k b' cs' hi hk h ih=>
  intro F w v aF hv
  obtain⟨ao,ot,hh⟩:=uF aF h1 h2 h3
  obtain⟨M8,ky,nV,k1,k2,k3,k4⟩:=ih _ w v (Cu ot hh hi hk) (hv.mono ao)
  exact⟨M8,ky,nV,ao.trans k1,k2,k3,k4⟩
 |nil h4 h ih=>
  intro F w v aF hv
  refine ih F w v aF (xR (.refl _ _) (fun v hv=>?_) h4 v hv)
  obtain⟨a,cap,rfl,c,T,fz,m1,m2,m3,m4⟩:=hv.kY
  exact .af _ _ _ ⟨some a,cap,rfl,m2,m3,(fun e=>by cases e),fun aS=>absurd rfl aS⟩
def t0(xs:List AV):Tm:=fun i=>match xs[i]? with | some x=>x | none=>.any
def HU:List AV→AV
 | [v]=>v
 |vs=>.tup vs
def Dw(TT:TypeId→Option TI)(l:List ResultVar):Tm→Hp→(List AV→Prop)→Prop:=
 List.rec (motive:=fun _=>Tm→Hp→(List AV→Prop)→Prop) (fun _ _ K=>K [])
  (fun x _ ih t σ K=>match x with
   |.tmp d=>strict (t d) fun v=>ih t σ fun vs=>K (bQ v::vs)
   |.cell d ty=>match TT ty with | some i=>qc i (t d) σ fun v=>ih t σ fun vs=>K (v::vs) | none=>False) l
def uN(TT:TypeId→Option TI)(rs:List ResultVar)(R:AV→Hp→Prop)(e:Ex)(t:Tm)(σ:Hp):Prop:=
 match e with
 |.normal | .ret=>Dw TT rs t σ fun vs=>Fin R (HU vs) σ
 |_=>False
def uO(P:Program)(TT:TypeId→Option TI)(fn:Func)(xs:List AV)(σ:Hp)(R:AV→Hp→Prop):Prop:=
 match fn.body with
 |some c=>mG P TT 1000 c (t0 xs) σ (uN TT fn.results.toList R)
 |none=>False
def funcOk (fn : Func) : Bool := (match fn.body with | some c => codeOk fn.ntmps false c | none => false) && !(fn.name == "runtime.NumGoroutine")
theorem enters_of{f:FuncId}{fn:Func}(hf:P.funcs[f]?=some fn)(h:funcOk fn=true):Enters P f:=by
 unfold funcOk at h
 simp only[bR,lB]at h
 obtain⟨h1,h2⟩:=h
 have hb:fn.body.isNone=false:=by
  cases hb:fn.body with
  |none=>rw[hb]at h1;cases h1
  |some c=>rfl
 intro args w
 unfold callFunc
 simp only[Sem.run_bind,run_program,Result.andThen_ok,hf,h2,hb]
 rfl
theorem WH(ok:dE P TT){ty:TypeId}{i:TI}(hi:TT ty=some i){x:AV}{σ:Hp}{K:AV→Prop}(h:qc i x σ K):∃v,K v∧∀(F:Nat→Prop) (w:World) (u:Value),aA F w x u→bA F w σ→∃v',(do loadVar ty (← asAddr u):Sem Value).run P w=.ok v' w∧aA F w v v':=by
 unfold qc at h
 split at h
 ·split at h
  ·rename_i v hv
   refine⟨v,h,fun F w u hu aF =>?_⟩
   obtain⟨b,o',rfl,hF,cx⟩:=hu.yh
   obtain⟨v',h1,h2⟩:=FB ok hi cx hv
   rw[vO]at h1
   exact⟨v',by simp[asAddr,h1],h2⟩
  ·exact h.elim
 ·obtain⟨j,cs,v,h1,h2,go⟩:=h
  refine⟨v,go,fun F w u hu aF =>?_⟩
  have NP:=hu.zP
  obtain rfl:=hu.yK
  obtain⟨v',h3,h4⟩:=FB ok hi (aF.at_ h1 NP) h2
  rw[ef]at h3
  exact⟨v',by simp[asAddr,h3],h4⟩
 ·exact h.elim
def G6(tmps:Array Value):ResultVar→Sem Value
 |.tmp t=>pure (tmps.getD t undef)
 |.cell d t=>do loadVar t (← asAddr (tmps.getD d undef))
theorem abU{F:Nat→Prop}{w:World}:∀(vs:List AV) (us:List Value),vs.length=us.length→(∀(i:Nat) (x:AV),vs[i]?=some x→aA F w x (us.getD i undef))→aA F w (HU vs) (if h:us.toArray.size=1 then us.toArray[0] else .tuple us.toArray)
 | [v],[u],_,h=>by simpa [HU]using h 0 v rfl
 | [],[],_,_=>.tup _ _ rfl (fun i x h=>by simp at h)
 |v::v2::vs,u::u2::us,hl,h=>by
  rw[dif_neg (by simp)]
  refine .tup _ _ (by simpa using hl) (fun i x hx=>?_)
  have:=h i x hx
  rw[bg]at this
  rw[jL,zu]
  exact this
 | [],_::_,hl,_=>by simp at hl
 |_::_,[],hl,_=>by simp at hl
 | [_],_::_::_,hl,_=>by simp at hl
 |_::_::_,[_],hl,_=>by simp at hl
theorem JW(ok:dE P TT):∀(rs:List ResultVar) (t:Tm) (σ:Hp) (K:List AV→Prop),Dw TT rs t σ K→∀(F:Nat→Prop) (w:World) (a:Act),tB F w t a→bA F w σ→
  ∃vs us,K vs∧(rs.mapM (G6 a.tmps)).run P w=.ok us w∧vs.length=us.length∧∀(i:Nat) (x:AV),vs[i]?=some x→aA F w x (us.getD i undef)
 | [],t,σ,K,h,F,w,a,_,_=>⟨[],[],h,rfl,rfl,fun i x h=>by simp at h⟩
 |.tmp d::rs,t,σ,K,h,F,w,a,ht,aF=>by
  have h:strict (t d) fun v=>Dw TT rs t σ fun vs=>K (bQ v::vs):=h
  rw[x6]at h
  obtain⟨vs,us,h1,h2,h3,h4⟩:=JW ok rs t σ _ h F w a ht aF
  refine⟨_,a.tmps.getD d undef::us,h1,?_,by simp[h3],fun i x hi=>?_⟩
  ·rw[List.mapM_cons]
   simp only[G6,Sem.run_bind,Sem.run_pure,Result.andThen_ok,h2]
  ·cases i with
   |zero=>simp at hi;subst hi;exact (ht d).bQ
   |succ i=>simpa using h4 i x (by simpa using hi)
 |.cell d ty::rs,t,σ,K,h,F,w,a,ht,aF=>by
  have h:(match TT ty with | some i=>qc i (t d) σ fun v=>Dw TT rs t σ fun vs=>K (v::vs) | none=>False):=h
  split at h
  ·rename_i i hi
   obtain⟨v,h,hv⟩:=WH ok hi h
   obtain⟨v',k1,k2⟩:=hv F w _ (ht d) aF
   obtain⟨vs,us,h1,h2,h3,h4⟩:=JW ok rs t σ _ h F w a ht aF
   refine⟨_,v'::us,h1,?_,by simp[h3],fun i x hi=>?_⟩
   ·have k1':(G6 a.tmps (.cell d ty)).run P w=.ok v' w:=k1
    rw[List.mapM_cons]
    simp only[Sem.run_bind,k1',Sem.run_pure,Result.andThen_ok,h2]
   ·cases i with
    |zero=>simp at hi;subst hi;exact k2
    |succ i=>simpa using h4 i x (by simpa using hi)
  ·exact h.elim
def shut(w:World)(ds:List Deferred):World:=ds.foldl (fun w d=>match d.target with | .collected D=>w.putObj D (.deferred none) | _=>w) w
def Aj(D:Nat)(ds:List Deferred):Prop:=({ target:=.collected D,args:= #[] }:Deferred)∈ds
theorem Xl{ds:List Deferred}:∀{w:World},(∀d∈ds,∃D,d = { target:=.collected D,args:= #[] })→∀b,¬Aj b ds→(shut w ds).heap[b]?=w.heap[b]?:=by
 induction ds with
 |nil=>exact fun _ _ _=>rfl
 |cons d ds ih=>
  intro w hd b hb
  obtain⟨D,rfl⟩:=hd d (ck ..)
  have hbD:b≠D:=fun e=>hb (by subst e;exact ck ..)
  exact (ih (w:=w.putObj D (.deferred none)) (fun d h=>hd d (cW _ h)) b (fun h=>hb (cW _ h))).trans (World.putObj_heap_other hbD)
theorem Yi{ds:List Deferred}:∀{w:World},(shut w ds).os=w.os∧(shut w ds).tape=w.tape∧(shut w ds).output=w.output∧(shut w ds).heap.size=w.heap.size∧(shut w ds).drawn=w.drawn:=by
 induction ds with
 |nil=>exact fun {w}=>⟨rfl,rfl,rfl,rfl,rfl⟩
 |cons d ds ih=>
  intro w
  obtain⟨t,gr⟩:=d
  cases t with
  |collected D=>
   obtain⟨h1,h2,h3,h4,h5⟩:=ih (w:=w.putObj D (.deferred none))
   exact⟨h1,h2,h3,h4.trans World.putObj_size,h5⟩
  |_=>exact ih
theorem O6{fn:Func}{tm:Array Value}{R:Ending→World→Prop}:∀(ds:List Deferred) (w:World),ds.Nodup→(∀d∈ds,∃D,d = { target:=.collected D,args:= #[] }∧w.heap[D]?=some (.deferred (some [])))→
  (∃v,(results fn tm).run P (shut w ds)=.ok v (shut w ds)∧R (.returned v) (shut w ds))→LeavesInM Fence.wide 0 P fn tm R ds .returning w
 | [],_,_,_,h=>h
 |d::ds,w,ca,hd,h=>by
  obtain⟨D,rfl,hw⟩:=hd d (ck ..)
  obtain⟨ry,tJ⟩:=mr.1 ca
  refine⟨by simp,.inl ⟨D,_,rfl,run_takeDeferred hw,O6 ds _ tJ (fun d hm=>?_) h⟩⟩
  obtain⟨D',rfl,hw'⟩:=hd d (cW _ hm)
  exact⟨D',rfl,(World.putObj_heap_other (fun e=>ry (by subst e;exact hm))).trans hw'⟩
theorem Zr(ok:dE P TT)(hm:P.follows .mixedOrders=true){f:FuncId}{fn:Func}{xs:List AV}{σ:Hp}{R:AV→Hp→Prop}(hf:P.funcs[f]?=some fn)(bO:funcOk fn=true)(h:uO P TT fn xs σ R):ACalls P f xs σ R:=by
 refine⟨enters_of hf bO,fun F w vs bS aF =>?_⟩
 unfold funcOk at bO
 simp only[bR]at bO
 unfold uO at h
 cases hb:fn.body with
 |none=>rw[hb]at h;exact h.elim
 |some c=>
  rw[hb]at h
  have hc:codeOk fn.ntmps false c=true:=by have:=bO.1;rw[hb]at this;exact this
  refine callsIn_wide.1 (callsIn_of_wp_marks (n:=0) hf hb trivial (W3 (B:=w.heap.size) ok hm 1000 c (t0 xs) σ _ F w _ _ none hc h ⟨fun i=>?_,aF,by simp;omega,⟨Nat.le_refl _,.nil,fun d hd=>by cases hd⟩⟩ ?_))
  ·show aA F w (match xs[i]? with | some x=>x | none=>.any) ((vs++Array.replicate (fn.ntmps-vs.size) undef).getD i undef)
   cases hi:xs[i]? with
   |none=>exact .any _
   |some x=>
    have ab:i<vs.size:=by rw[← bS.1];exact (cg.1 hi).1
    have:=bS.2 i x hi
    rw[jL]at this ⊢
    rw[Oy ab]
    exact this
  ·intro e t' σ' F' w' a' h1 h2 h3
   have fin:Dw TT fn.results.toList t' σ' (fun vs=>Fin R (HU vs) σ')→LeavesInM Fence.wide 0 P fn a'.tmps (fun e w'=>∃r v σ' F',e=.returned v∧bJ F w F' w'∧bA F' w' σ'∧aA F' w' r v∧R r σ') a'.defers .returning w':=by
    intro h3
    have hmk:∀d∈a'.defers,∃D,d = { target:=.collected D,args:= #[] }:=fun d hd=>(h2.defers.is d hd).imp fun _ h=>h.1
    refine O6 a'.defers w' h2.defers.nodup (fun d hd=>(h2.defers.is d hd).imp fun _ h=>⟨h.1,h.2.2.2⟩) ?_
    have hD:∀b,Aj b a'.defers→w.heap.size≤b∧F' b∧w'.heap[b]?=some (.deferred (some [])):=fun b hb=>by
     obtain⟨D,q1,q2,q3,q4⟩:=h2.defers.is _ hb
     cases q1
     exact⟨q2,q3,q4⟩
    have DL:=Xl (w:=w') hmk
    obtain⟨z1,z2,z3,z4,z5⟩:=Yi (w:=w') (ds:=a'.defers)
    obtain⟨w2,ID⟩:∃w2,w2=shut w' a'.defers:=⟨_,rfl⟩
    rw[← ID]at DL z1 z2 z3 z4 z5 ⊢
    have lH:∀b,n5 w' b→¬Aj b a'.defers:=fun b ⟨c,T,fz,hc⟩ hb=>by
     rw[(hD b hb).2.2]at hc;cases hc
    have nc:NC F' w' (fun b=>F' b∧¬Aj b a'.defers) w2:=⟨fun b hb=>⟨hb.1,lH b hb.2⟩,fun b hb=>DL b (lH b hb)⟩
    have st2:bJ F w (fun b=>F' b∧¬Aj b a'.defers) w2:= {
     os:=z1.trans h1.os
     tape:=z2.trans h1.tape
     output:=z3.trans h1.output
     size:=by rw[z4];exact h1.size
     sub:=fun b hF=>⟨h1.sub b hF,fun hb=>by have:=(hD b hb).1;have:=aF.low b hF;omega⟩
     fix:=fun b hF=>by
      rw[DL b (fun hb=>by have:=(hD b hb).1;have:=aF.low b hF;omega)]
      exact h1.fix b hF
     rows:=fun b c T fz hc=>by
      obtain⟨c',pP,q1,q2⟩:=h1.rows b c T fz hc
      exact⟨c',pP,(DL b (lH b ⟨c',T,pP,q1⟩)).trans q1,q2⟩
     drawn:=by rw[z5];exact h1.drawn }
    have Vl:bA (fun b=>F' b∧¬Aj b a'.defers) w2 σ':=h2.hp.nc nc (fun p hp=>⟨DL p.1 (fun hb=>(h2.hp.holds p hp).1 (hD p.1 hb).2.1),fun h=>(h2.hp.holds p hp).1 h.1⟩) (fun b hb=>by rw[z4];exact h2.hp.low b hb.1)
    obtain⟨eC,us,k1,k2,k3,k4⟩:=JW ok _ _ _ _ h3 _ w2 a' (fun i=>(h2.tm i).nc nc) Vl
    have afO:(results fn a'.tmps).run P w2=.ok (if h:us.toArray.size=1 then us.toArray[0] else .tuple us.toArray) w2:=by
     rw[show results fn a'.tmps=(do let vs ← fn.results.mapM (G6 a'.tmps);pure (if h:vs.size=1 then vs[0] else .tuple vs)) from rfl]
     rw[Sem.run_bind,Array.mapM_eq_mapM_toList]
     simp only[Sem.run_map,k2,Result.andThen_ok]
     rfl
    have afP:=abU eC us k3 k4
    obtain⟨r',ky,nV,q1,q2,q3,q4⟩:=Q2 k1 _ w2 _ Vl afP
    exact⟨_,afO,r',_,ky,nV,rfl,st2.trans q1,q2,q3,q4⟩
   cases e with
   |normal=>exact fin h3
   |ret=>exact fin h3
   |exit i=>exact h3.elim
   |goto l=>exact h3.elim
theorem ACalls.mono{f:FuncId}{xs:List AV}{σ:Hp}{R R':AV→Hp→Prop}(h:ACalls P f xs σ R)(hr:∀r σ',R r σ'→R' r σ'):ACalls P f xs σ R':=
 ⟨h.1,fun F w vs hv aF=>(h.2 F w vs hv aF).mono fun _ _ ⟨r,v,σ',F',h1,h2,h3,h4,h5⟩=>⟨r,v,σ',F',h1,h2,h3,h4,hr _ _ h5⟩⟩
theorem ACalls.fin{f:FuncId}{xs:List AV}{σ:Hp}{R R':AV→Hp→Prop}(h:ACalls P f xs σ R)(hr:∀r σ',R r σ'→Fin R' r σ'):ACalls P f xs σ R':=
 ⟨h.1,fun F w vs hv aF=>(h.2 F w vs hv aF).mono fun _ _ ⟨r,v,σ',F',h1,h2,h3,h4,h5⟩=>by
  obtain⟨r',ky,nV,q1,q2,q3,q4⟩:=Q2 (hr _ _ h5) F' _ v h3 h4
  exact⟨r',v,ky,nV,h1,h2.trans q1,q2,q3,q4⟩⟩
def Sh.pos:Sh→Bool
 |.slice e=>decide (0<e.size)&&e.pos
 |.field f r=>f.pos&&r.pos
 |_=>true
theorem QX{w:World}:∀(s:Sh) (cs:List Value) (d:s.T),s.pos=true→Reads w s cs d→kV (fun b=>b<w.heap.size) w s cs d:=by
 intro s
 induction s with
 |int k=>exact fun _ _ _ h=>h.1
 |bool=>exact fun _ _ _ h=>h
 |str=>exact fun _ _ _ h=>h.1
 |nil=>exact fun _ _ _ h=>h
 |slice e ih=>
  rintro cs l hp ⟨a,c,h1,h2,h3,h0,h4⟩
  simp only[Sh.pos,bR,decide_eq_true_eq]at hp
  refine⟨a,c,h1,h2,h3,h0,fun aS=>?_⟩
  obtain⟨b,o,rfl,hi⟩:=h4 aS
  have tz:0<l.length:=mW.2 aS
  refine⟨b,o,rfl,?_,fun i h=>?_⟩
  ·obtain⟨cs',q1,q2,q3⟩:=hi 0 tz
   cases cs' with
   |nil=>simp at q1;omega
   |cons u cs'=>
    have lH:=q2 0 u rfl
    unfold World.cell? at lH
    cases ho:w.heap[b]? with
    |none=>simp[ho]at lH
    |some x=>
     cases x with
     |cells c T fz=>exact⟨tc ho,c,T,fz,ho⟩
     |_=>simp[ho]at lH
  ·obtain⟨cs',q1,q2,q3⟩:=hi i h
   exact⟨cs',q1,q2,ih _ _ hp.2 q3⟩
 |field f r qt jV=>
  rintro cs d hp ⟨c1,c2,h1,h2,h3,h4⟩
  simp only[Sh.pos,bR]at hp
  exact⟨c1,c2,h1,h2,qt _ _ hp.1 h3,jV _ _ hp.2 h4⟩
theorem ae1{f:FuncId}{xs:List AV}(h:ACalls P f xs [] (fun r _=>r=.bool true)){w:World}{vs:Array Value}(hv:jf (fun b=>b<w.heap.size) w xs vs):
  Calls P f vs w fun e w'=>e=.returned (.bool true)∧Below w.heap.size w w':=by
 refine (h.2 _ w vs hv ⟨by simp,(fun p hp=>by cases hp),fun _ h=>h⟩).mono ?_
 rintro e w' ⟨r,v,σ',F',rfl,h1,h2,h3,rfl⟩
 rw[h3.qZ]
 exact⟨rfl,h1.os,h1.tape,h1.output,h1.size,fun k hk=>h1.fix k hk⟩
end
end Go.Proofs.YtnikdflhefijbaaGreat
namespace Go.Proofs.YtnikdflhefijbaaGreat
abbrev ax:AV:=.int .i64 0
abbrev aB:Option TI:=some ⟨.func,1,8,[.iP]⟩
abbrev iQ(n:Nat):Option TI:=some ⟨.ptr n,1,8,[.cR]⟩
abbrev oh(n:Nat):Option TI:=some ⟨.slice n,1,24,[.aj]⟩
abbrev HS:Option TI:=some ⟨.int .i64,1,8,[.int .i64 0]⟩
def tbl:List (List (Option TI)):=[
 [none,aB,HS,HS,some ⟨.bool,1,1,[.bool false]⟩,some ⟨.int .u8,1,1,[.int .u8 0]⟩,some ⟨.int .u8,1,1,[.int .u8 0]⟩,some ⟨.bh [(0,2),(1,3),(2,4),(3,6)],4,24,[ax,ax,.bool false,.int .u8 0]⟩,some ⟨.bh [(0,2),(1,3),(2,4),(3,6)],4,24,[ax,ax,.bool false,.int .u8 0]⟩,some ⟨.str,1,16,[.str ByteArray.empty]⟩,some ⟨.str,1,16,[.str ByteArray.empty]⟩,some ⟨.str,1,16,[.str ByteArray.empty]⟩,some ⟨.int .u64,1,8,[.int .u64 0]⟩,some ⟨.bh [(0,9),(1,12)],2,24,[.str ByteArray.empty,.int .u64 0]⟩,some ⟨.bh [(0,9),(1,12)],2,24,[.str ByteArray.empty,.int .u64 0]⟩,iQ 386],[iQ 389,iQ 397,some ⟨.bh [(0,17)],1,8,[.cR]⟩,some ⟨.bh [(0,17)],1,8,[.cR]⟩,some ⟨.iface,1,16,[.nilif]⟩,some ⟨.int .i32,1,4,[.int .i32 0]⟩,oh 227,oh 3,oh 56,oh 93,some ⟨.bh [(0,3),(1,3),(2,3),(3,22),(4,23),(5,24),(6,25)],7,120,[ax,ax,ax,.aj,.aj,.aj,.aj]⟩,some ⟨.bh [(0,3),(1,3),(2,3),(3,22),(4,23),(5,24),(6,25)],7,120,[ax,ax,ax,.aj,.aj,.aj,.aj]⟩,oh 121,aB,aB,oh 24],[some ⟨.bh [(0,31),(1,3),(2,3),(3,3)],4,48,[.aj,ax,ax,ax]⟩,some ⟨.bh [(0,31),(1,3),(2,3),(3,3)],4,48,[.aj,ax,ax,ax]⟩,HS,none,aB,oh 4,some ⟨.bh [(0,31),(1,37),(2,3),(3,3),(4,3),(5,3),(6,23),(7,23),(8,37)],9,152,[.aj,.aj,ax,ax,ax,ax,.aj,.aj,.aj]⟩,some ⟨.bh [(0,31),(1,37),(2,3),(3,3),(4,3),(5,3),(6,23),(7,23),(8,37)],9,152,[.aj,.aj,ax,ax,ax,ax,.aj,.aj,.aj]⟩,none,aB,some ⟨.bh [(0,3),(1,3),(2,3),(3,3)],4,32,[ax,ax,ax,ax]⟩,some ⟨.bh [(0,3),(1,3),(2,3),(3,3)],4,32,[ax,ax,ax,ax]⟩,none,aB,iQ 58,oh 123],[none,aB,none,aB,none,aB,aB,aB,some ⟨.int .u64,1,8,[.int .u64 0]⟩,some ⟨.bh [(0,24)],1,24,[.aj]⟩,some ⟨.bh [(0,24)],1,24,[.aj]⟩,aB,aB,aB,some ⟨.int .u16,1,2,[.int .u16 0]⟩,aB],[aB,aB,aB,aB,aB,aB,aB,none,aB,aB,aB,none,aB,oh 84,none,aB],[none,aB,aB,some ⟨.bh [(0,3),(1,3),(2,56),(3,56),(4,56),(5,4)],6,48,[ax,ax,.int .u64 0,.int .u64 0,.int .u64 0,.bool false]⟩,some ⟨.bh [(0,3),(1,3),(2,56),(3,56),(4,56),(5,4)],6,48,[ax,ax,.int .u64 0,.int .u64 0,.int .u64 0,.bool false]⟩,some ⟨.bh [(0,3),(1,3),(2,3),(3,3)],4,32,[ax,ax,ax,ax]⟩,none,aB,aB,aB,aB,oh 233,some ⟨.bh [(0,24),(1,24),(2,91)],3,72,[.aj,.aj,.aj]⟩,some ⟨.bh [(0,24),(1,24),(2,91)],3,72,[.aj,.aj,.aj]⟩,iQ 217,oh 168],[some ⟨.bh [(0,23),(1,37),(2,3)],3,56,[.aj,.aj,ax]⟩,some ⟨.bh [(0,23),(1,37),(2,3)],3,56,[.aj,.aj,ax]⟩,some ⟨.bh [(0,94),(1,85),(5,95),(6,97)],9,120,[.cR,ax,ax,ax,ax,.aj,.aj,.aj,ax]⟩,some ⟨.bh [(0,94),(1,85),(5,95),(6,97)],9,120,[.cR,ax,ax,ax,ax,.aj,.aj,.aj,ax]⟩,none,aB,aB,aB,aB,some ⟨.bh [(0,3),(1,3)],2,16,[ax,ax]⟩,some ⟨.bh [(0,3),(1,3)],2,16,[ax,ax]⟩,aB,aB,aB,aB,aB],[aB,some ⟨.bh [(0,3),(1,3)],2,16,[ax,ax]⟩,some ⟨.bh [(0,3),(1,3)],2,16,[ax,ax]⟩,aB,aB,aB,aB,aB,some ⟨.bh [(0,3),(1,3)],2,16,[ax,ax]⟩,some ⟨.bh [(0,3),(1,3)],2,16,[ax,ax]⟩,aB,iQ 129,aB,iQ 238,iQ 245,iQ 242],[some ⟨.bh [(0,27),(7,43),(11,3),(12,3),(13,3),(14,4),(15,23),(16,24),(17,125),(18,126),(19,127),(20,24),(21,3),(22,3),(23,4)],24,304,[ax,ax,ax,.aj,.aj,.aj,.aj,ax,ax,ax,ax,ax,ax,ax,.bool false,.aj,.aj,.cR,.cR,.cR,.aj,ax,ax,.bool false]⟩,some ⟨.bh [(0,27),(7,43),(11,3),(12,3),(13,3),(14,4),(15,23),(16,24),(17,125),(18,126),(19,127),(20,24),(21,3),(22,3),(23,4)],24,304,[ax,ax,ax,.aj,.aj,.aj,.aj,ax,ax,ax,ax,ax,ax,ax,.bool false,.aj,.aj,.cR,.cR,.cR,.aj,ax,ax,.bool false]⟩,aB,aB,aB,none,aB,aB,aB,aB,aB,aB,aB,iQ 165,some ⟨.bh [(0,141)],1,8,[.cR]⟩,some ⟨.bh [(0,141)],1,8,[.cR]⟩],[none,aB,aB,aB,aB,aB,oh 23,aB,aB,aB,aB,aB,aB,aB,aB,aB],[some ⟨.iface,1,16,[.nilif]⟩,some ⟨.iface,1,16,[.nilif]⟩,some ⟨.bh [(0,161)],1,16,[.nilif]⟩,some ⟨.bh [(0,161)],1,16,[.nilif]⟩,some ⟨.bh [(0,163),(1,77)],2,40,[.nilif,.aj]⟩,some ⟨.bh [(0,163),(1,77)],2,40,[.nilif,.aj]⟩,aB,aB,iQ 186,none,aB,aB,aB,oh 176,aB,some ⟨.iface,1,16,[.nilif]⟩],[some ⟨.iface,1,16,[.nilif]⟩,aB,aB,some ⟨.bh [(0,3),(1,3),(2,3)],3,24,[ax,ax,ax]⟩,some ⟨.bh [(0,3),(1,3),(2,3)],3,24,[ax,ax,ax]⟩,aB,aB,aB,some ⟨.iface,1,16,[.nilif]⟩,some ⟨.bh [(0,3),(1,3),(2,4),(3,27),(10,85),(14,3),(15,3),(16,184),(17,3),(18,4),(19,23),(20,24),(21,4)],22,280,[ax,ax,.bool false,ax,ax,ax,.aj,.aj,.aj,.aj,ax,ax,ax,ax,ax,ax,.nilif,ax,.bool false,.aj,.aj,.bool false]⟩,some ⟨.bh [(0,3),(1,3),(2,4),(3,27),(10,85),(14,3),(15,3),(16,184),(17,3),(18,4),(19,23),(20,24),(21,4)],22,280,[ax,ax,.bool false,ax,ax,ax,.aj,.aj,.aj,.aj,ax,ax,ax,ax,ax,ax,.nilif,ax,.bool false,.aj,.aj,.bool false]⟩,aB,aB,aB,aB,aB],[aB,none,aB,some ⟨.bh [(0,3),(1,3),(2,56),(3,56)],4,32,[ax,ax,.int .u64 0,.int .u64 0]⟩,some ⟨.bh [(0,3),(1,3),(2,56),(3,56)],4,32,[ax,ax,.int .u64 0,.int .u64 0]⟩,aB,aB,aB,aB,aB,aB,aB,none,aB,aB,aB],[aB,aB,aB,aB,aB,some ⟨.bh [(0,3)],1,8,[ax]⟩,some ⟨.bh [(0,3)],1,8,[ax]⟩,aB,some ⟨.bh [(0,214),(1,24)],2,32,[ax,.aj]⟩,some ⟨.bh [(0,214),(1,24)],2,32,[ax,.aj]⟩,aB,none,aB,aB,none,aB],[aB,aB,some ⟨.bh [(0,3),(1,3)],2,16,[ax,ax]⟩,some ⟨.bh [(0,3),(1,3)],2,16,[ax,ax]⟩,some ⟨.bh [(0,3),(1,3)],2,16,[ax,ax]⟩,some ⟨.bh [(0,3),(1,3)],2,16,[ax,ax]⟩,some ⟨.bh [(0,3),(1,229)],3,24,[ax,ax,ax]⟩,some ⟨.bh [(0,3),(1,229)],3,24,[ax,ax,ax]⟩,some ⟨.bh [(0,3),(1,3),(2,231),(5,231)],8,64,[ax,ax,ax,ax,ax,ax,ax,ax]⟩,some ⟨.bh [(0,3),(1,3),(2,231),(5,231)],8,64,[ax,ax,ax,ax,ax,ax,ax,ax]⟩,aB,aB,aB,some ⟨.bh [(0,3),(1,3),(2,3),(3,56),(4,4),(5,4),(6,3),(7,56),(8,56),(9,56)],10,72,[ax,ax,ax,.int .u64 0,.bool false,.bool false,ax,.int .u64 0,.int .u64 0,.int .u64 0]⟩,some ⟨.bh [(0,3),(1,3),(2,3),(3,56),(4,4),(5,4),(6,3),(7,56),(8,56),(9,56)],10,72,[ax,ax,ax,.int .u64 0,.bool false,.bool false,ax,.int .u64 0,.int .u64 0,.int .u64 0]⟩,aB],[aB,some ⟨.bh [(0,3),(1,3),(2,3),(3,24),(4,3),(5,4),(6,56),(7,4),(8,4),(9,3)],10,88,[ax,ax,ax,.aj,ax,.bool false,.int .u64 0,.bool false,.bool false,ax]⟩,some ⟨.bh [(0,3),(1,3),(2,3),(3,24),(4,3),(5,4),(6,56),(7,4),(8,4),(9,3)],10,88,[ax,ax,ax,.aj,ax,.bool false,.int .u64 0,.bool false,.bool false,ax]⟩,aB,some ⟨.bh [(0,3),(1,3),(2,3),(3,3),(4,3),(5,4),(6,4),(7,4),(8,3)],9,56,[ax,ax,ax,ax,ax,.bool false,.bool false,.bool false,ax]⟩,some ⟨.bh [(0,3),(1,3),(2,3),(3,3),(4,3),(5,4),(6,4),(7,4),(8,3)],9,56,[ax,ax,ax,ax,ax,.bool false,.bool false,.bool false,ax]⟩,aB,none,aB,aB,aB,aB,aB,some ⟨.int .u64,1,8,[.int .u64 0]⟩,none,aB],[aB,aB,aB,aB,aB,aB,aB,aB,aB,aB,aB,aB,aB,none,aB,aB],[aB,aB,aB,aB,aB,aB,aB,aB,aB,aB,aB,aB,some ⟨.int .u32,1,4,[.int .u32 0]⟩,none,aB,none],[aB,none,aB,aB,aB,aB,aB,aB,aB,aB,aB,aB,aB,aB,aB,aB],[aB,aB,aB,HS,none,aB,aB,aB,none,aB,aB,aB,aB,aB,aB,aB],[aB,aB,aB,aB,aB,some ⟨.bh [(0,150),(1,23),(2,23),(3,37),(4,23),(5,3),(6,150)],7,152,[.aj,.aj,.aj,.aj,.aj,ax,.aj]⟩,some ⟨.bh [(0,150),(1,23),(2,23),(3,37),(4,23),(5,3),(6,150)],7,152,[.aj,.aj,.aj,.aj,.aj,ax,.aj]⟩,aB,aB,aB,aB,some ⟨.int .u64,1,8,[.int .u64 0]⟩,aB,aB,aB,iQ 3],[aB,aB,aB,aB,aB,aB,iQ 326,some ⟨.bh [(0,3),(1,3)],2,16,[ax,ax]⟩,some ⟨.bh [(0,3),(1,3)],2,16,[ax,ax]⟩,aB,oh 344,iQ 344,aB,aB,aB,aB],[aB,iQ 331,aB,aB,aB,aB,oh 360,some ⟨.bh [(0,3),(1,3)],2,16,[ax,ax]⟩,some ⟨.bh [(0,3),(1,3)],2,16,[ax,ax]⟩,iQ 360,aB,aB,aB,aB,none,aB],[aB,aB,aB,aB,aB,aB,aB,aB,aB,aB,aB,aB,some ⟨.fS,1,16,[.fS 0 0]⟩,aB,some ⟨.gp,1,8,[.gp 0]⟩,aB],[aB,some ⟨.bh [(0,17),(1,17),(2,17),(3,9)],4,40,[.cR,.cR,.cR,.str ByteArray.empty]⟩,some ⟨.bh [(0,17),(1,17),(2,17),(3,9)],4,40,[.cR,.cR,.cR,.str ByteArray.empty]⟩,some ⟨.arr 0 16,0,0,[]⟩,some ⟨.bh [(0,387)],0,0,[]⟩,some ⟨.bh [(0,387)],0,0,[]⟩,some ⟨.int .u8,1,1,[.int .u8 0]⟩,some ⟨.int .u8,1,1,[.int .u8 0]⟩,aB,iQ 5,some ⟨.int .i32,1,4,[.int .i32 0]⟩,some ⟨.int .i32,1,4,[.int .i32 0]⟩,some ⟨.bh [(0,12),(1,12),(2,284),(3,390),(4,5),(5,5),(6,391),(7,392),(8,393),(9,394),(10,395)],11,48,[.int .u64 0,.int .u64 0,.int .u32 0,.int .u8 0,.int .u8 0,.int .u8 0,.int .u8 0,.iP,.cR,.int .i32 0,.int .i32 0]⟩,some ⟨.bh [(0,12),(1,12),(2,284),(3,390),(4,5),(5,5),(6,391),(7,392),(8,393),(9,394),(10,395)],11,48,[.int .u64 0,.int .u64 0,.int .u32 0,.int .u8 0,.int .u8 0,.int .u8 0,.int .u8 0,.iP,.cR,.int .i32 0,.int .i32 0]⟩,aB,iQ 403],[some ⟨.bh [(0,3),(1,56),(2,56),(3,56)],4,32,[ax,.int .u64 0,.int .u64 0,.int .u64 0]⟩,some ⟨.bh [(0,3),(1,56),(2,56),(3,56)],4,32,[ax,.int .u64 0,.int .u64 0,.int .u64 0]⟩,some ⟨.bh [(0,114),(2,56),(3,4),(4,4),(5,401)],9,64,[ax,ax,.int .u64 0,.bool false,.bool false,ax,.int .u64 0,.int .u64 0,.int .u64 0]⟩,some ⟨.bh [(0,114),(2,56),(3,4),(4,4),(5,401)],9,64,[ax,ax,.int .u64 0,.bool false,.bool false,ax,.int .u64 0,.int .u64 0,.int .u64 0]⟩,iQ 405,some ⟨.bh [(0,114),(2,56),(3,4),(4,4),(5,401)],9,64,[ax,ax,.int .u64 0,.bool false,.bool false,ax,.int .u64 0,.int .u64 0,.int .u64 0]⟩,iQ 408,some ⟨.bh [(0,106),(2,4),(3,4)],4,24,[ax,ax,.bool false,.bool false]⟩,some ⟨.bh [(0,106),(2,4),(3,4)],4,24,[ax,ax,.bool false,.bool false]⟩,iQ 411,some ⟨.bh [(0,106),(2,3),(3,4)],4,32,[ax,ax,ax,.bool false]⟩,some ⟨.bh [(0,106),(2,3),(3,4)],4,32,[ax,ax,ax,.bool false]⟩,iQ 416,some ⟨.bh [(0,3),(1,4),(2,56)],3,24,[ax,.bool false,.int .u64 0]⟩,some ⟨.bh [(0,3),(1,4),(2,56)],3,24,[ax,.bool false,.int .u64 0]⟩,some ⟨.bh [(0,180),(3,24),(4,4),(5,414)],8,80,[ax,ax,ax,.aj,.bool false,ax,.bool false,.int .u64 0]⟩],[some ⟨.bh [(0,180),(3,24),(4,4),(5,414)],8,80,[ax,ax,ax,.aj,.bool false,ax,.bool false,.int .u64 0]⟩,iQ 419,some ⟨.bh [(0,180),(3,24),(4,4),(5,4),(6,3),(7,414)],10,88,[ax,ax,ax,.aj,.bool false,.bool false,ax,ax,.bool false,.int .u64 0]⟩,some ⟨.bh [(0,180),(3,24),(4,4),(5,4),(6,3),(7,414)],10,88,[ax,ax,ax,.aj,.bool false,.bool false,ax,ax,.bool false,.int .u64 0]⟩,iQ 424,some ⟨.bh [(0,4)],1,1,[.bool false]⟩,some ⟨.bh [(0,4)],1,1,[.bool false]⟩,some ⟨.bh [(0,106),(2,3),(3,4),(4,4),(5,422)],6,32,[ax,ax,ax,.bool false,.bool false,.bool false]⟩,some ⟨.bh [(0,106),(2,3),(3,4),(4,4),(5,422)],6,32,[ax,ax,ax,.bool false,.bool false,.bool false]⟩,iQ 426,some ⟨.bh [(0,114),(2,56),(3,4),(4,4),(5,401)],9,64,[ax,ax,.int .u64 0,.bool false,.bool false,ax,.int .u64 0,.int .u64 0,.int .u64 0]⟩,iQ 429,some ⟨.bh [(0,106),(2,3),(3,4)],4,32,[ax,ax,ax,.bool false]⟩,some ⟨.bh [(0,106),(2,3),(3,4)],4,32,[ax,ax,ax,.bool false]⟩,aB,none]]
def tt(t:TypeId):Option TI:=match tbl[t / 16]? with | some r=>(match r[t % 16]? with | some x=>x | none=>none) | none=>none
theorem ady:UH Tryz.prog tt 432=true:=by kernel_rfl
theorem abJ(t:TypeId)(h:432≤t):tt t=none:=by
 unfold tt
 rw[tZ (show tbl.length≤t / 16 from (Nat.le_div_iff_mul_le (by decide)).2 h)]
theorem aeQ:dE Tryz.prog tt:=abI ady abJ
end Go.Proofs.YtnikdflhefijbaaGreat
namespace Go.Proofs.YtnikdflhefijbaaGreat
theorem okF{f:FuncId}{fn:Func}{xs:List AV}{σ:Hp}{R:AV→Hp→Prop}(hf:Tryz.prog.funcs[f]?=some fn)(bO:funcOk fn=true)(h:uO Tryz.prog tt fn xs σ R):ACalls Tryz.prog f xs σ R:=
 Zr aeQ (by kernel_rfl) hf bO h
theorem az{f:FuncId}{fn:Func}{xs:List AV}{σ:Hp}{R:AV→Hp→Prop}(hf:Tryz.prog.funcs[f]?=some fn)(h:uO Tryz.prog tt fn xs σ R)(bO:funcOk fn=true:=by kernel_rfl):ACalls Tryz.prog f xs σ R:=okF hf bO h
theorem cc{S:Type}(L:S→List (Nat×AV))(H:S→Hp)(p:S→Prop)(μ:S→Nat)(s0:S){body:Tm→Hp→(Ex→Tm→Hp→Prop)→Prop}{t:Tm}{σ:Hp}{Q:Ex→Tm→Hp→Prop}(h0:p s0∧agree t (L s0)∧σ=H s0)
  (round:∀s g,p s→body (eN g (L s)) (H s) (fun e t' σ'=>match e with | .normal=>pq L H p μ s t' σ' | e=>Q e t' σ')):mH body Q t σ:=.mk L H p μ s0 h0 round
theorem bj{S:Type}{L:S→List (Nat×AV)}{H:S→Hp}{p:S→Prop}{μ:S→Nat}{s:S}{t':Tm}{σ':Hp}(s':S)(h1:μ s'<μ s)(h2:p s')(h3:agree t' (L s'))(h4:jm σ' (H s')):pq L H p μ s t' σ':=.mk s' h1 h2 h3 h4
theorem next{S:Type}{L:S→List (Nat×AV)}{H:S→Hp}{p:S→Prop}{μ:S→Nat}{s:S}{t':Tm}{σ':Hp}(s':S)(h1:μ s'<μ s)(h2:p s')(h3:agree t' (L s'))(h4:σ'=H s'):pq L H p μ s t' σ':=.mk s' h1 h2 h3 (h4▸.refl _)
def upto(Q:List Nat)(n:Nat):Nat→qJ:=Nat.rec (motive:=fun _=>Nat→qJ) (fun _=>.stop) (fun _ ih i=>.one i (eZ i Q) (ih (i+1))) n
theorem aJ{σ σ2:Hp}(h:σ=σ2):jm σ σ2:=h▸.refl _
theorem FM{P:Program}{f:FuncId}{e:Sh}{l:List e.T}{σ:Hp}{R:AV→Hp→Prop}(h0:l=[]→ACalls P f [.aj] σ R∧ACalls P f [.ia] σ R)(h1:l≠[]→ACalls P f [.af e l] σ R):ACalls P f [.af e l] σ R:=by
 by_cases hl:l=[]
 ·obtain⟨k0,k1⟩:=h0 hl
  refine⟨k0.1,fun F w vs bS aF =>?_⟩
  have hv:=bS.2 0 _ rfl
  have ox:∀y,aA F w y (vs.getD 0 undef)→jf F w [y] vs:=fun y hy=>⟨bS.1,fun i x hx=>by cases i <;> simp at hx;subst hx;exact hy⟩
  subst hl
  generalize hu:vs.getD 0 undef=u at hv ox
  cases hv with
  |af _ _ _ hr=>
   obtain⟨a,c,e1,_,e3,e0,_⟩:=hr
   obtain rfl:=Jp.1 e1
   cases a with
   |none=>
    obtain rfl:=e0 rfl
    exact k0.2 F w vs (ox _ .aj) aF
   |some a=>exact k1.2 F w vs (ox _ (.ia a c e3)) aF
 ·exact h1 hl
theorem aY{k:Nat}(h:k<1000000000):AV.int .i64 (IntKind.i64.wrap ((k:Int)+1))=AV.int .i64 ((k+1:Nat):Int):=by
 rw[show IntKind.i64.wrap ((k:Int)+1)=((k+1:Nat):Int) by rw[IntKind.wrap_i64];omega]
theorem get_some{α:Type}{l:List α}{k:Nat}(h:k<l.length):l[((k:Int)).toNat]?=some l[k]:=bF h
def aE(x:AV)(σ:Hp):AV→Hp→Prop:=fun r σ'=>r=x∧σ'=σ
theorem ay{P:Program}{f:FuncId}{xs:List AV}{σ:Hp}{K:AV→Hp→Prop}(js:List Nat){x:AV}{σ2:Hp}(h:ACalls P f xs (n9 js σ) (aE x σ2))(k:K x σ2):CallAt P f K xs σ:=
 CallAt.mk js _ h fun _ _ ⟨h1,h2⟩=>h1▸h2▸k
theorem aL{P:Program}{f:FuncId}{xs:List AV}{σ:Hp}{K:AV→Prop}(js:List Nat){x:AV}(h:ACalls P f xs (n9 js σ) (aE x (n9 js σ)))(k:K x):te P f xs σ K:=te.mk js x h k
theorem eK{P:Program}{f:FuncId}{xs:List AV}{σ:Hp}{K:AV→Hp→Prop}(js:List Nat){x:Bool}{σ2:Hp}(h:ACalls P f xs (n9 js σ) (aE (.bool x) σ2))(k1:x=true→K (.bool true) σ2)(k2:x=false→K (.bool false) σ2):CallAt P f K xs σ:=
 ay js h (by cases x;exact k2 rfl;exact k1 rfl)
theorem Un{P:Program}{f:FuncId}{xs:List AV}{σ:Hp}{K:AV→Prop}(js:List Nat){x:Bool}(h:ACalls P f xs (n9 js σ) (aE (.bool x) (n9 js σ)))(k1:x=true→K (.bool true))(k2:x=false→K (.bool false)):te P f xs σ K:=
 aL js h (by cases x;exact k2 rfl;exact k1 rfl)
theorem fE.kD{i:TI}{σ:Hp}{b o:Nat}{K:AV→Prop}(j:Nat)(cs:List AV)(x:Bool)(h1:σ[j]?=some (b,cs))(h2:ey i cs o=some (.bool x))(k1:x=true→K (.bool true))(k2:x=false→K (.bool false)):fE i σ b o K:=
 .mk j cs _ h1 h2 (by cases x;exact k2 rfl;exact k1 rfl)
theorem uw{b off len es:Nat}{e:Sh}{l:List e.T}:eI b off len es e l (.tup []) (.tup []):=.refl _
theorem cE{b off len es:Nat}{e:Sh}{l:List e.T}{x y:AV}{xs ys:List AV}(h:eI b off len es e l x y)(t:eI b off len es e l (.tup xs) (.tup ys)):eI b off len es e l (.tup (x::xs)) (.tup (y::ys)):=by
 have hl:xs.length=ys.length∧∀(i:Nat) (x y:AV),xs[i]?=some x→ys[i]?=some y→eI b off len es e l x y:=by
  cases t with
  |refl=>exact⟨rfl,fun i x y hx hy=>by rw[hx]at hy;cases hy;exact .refl _⟩
  |tup _ _ h hi=>exact⟨h,hi⟩
 refine .tup _ _ (by simp[hl.1]) fun i x' y' hx hy=>?_
 cases i with
 |zero=>simp at hx hy;subst hx;subst hy;exact h
 |succ i=>exact hl.2 i x' y' (by simpa using hx) (by simpa using hy)
theorem dc{a b:Bool}(h:a=b):AV.bool a=AV.bool b:=by rw[h]
theorem aV{k:IntKind}{a b:Int}(h:a=b):AV.int k a=AV.int k b:=by rw[h]
theorem fC(fr b σ:Hp):(b++(fr++σ)).Perm (fr++(b++σ)):=by
 rw[← dQ,← dQ]
 exact List.Perm.append_right _ Oj
theorem kc.mem{σ:Hp}{b off len es:Nat}{cs:List AV}(h:(b,cs)∈σ)(h2:off+len*es≤cs.length):kc σ es (.ae b off len es) len ((cs.drop off).take (len*es)):=by
 obtain⟨j,hj⟩:=qG.1 h
 exact .ae j b off len cs hj h2
theorem kc.perm{σ σ2:Hp}{es n:Nat}{x:AV}{new:List AV}(h:kc σ es x n new)(hp:σ2.Perm σ):kc σ2 es x n new:=by
 cases h with
 |aj=>exact .aj
 |kB=>exact .kB
 |ia=>exact .ia
 |af s l h=>exact .af s l h
 |ae j b off len cs h1 h2=>
  obtain⟨j',hj⟩:=qG.1 (hp.mem_iff.2 (cq h1))
  exact .ae j' b off _ cs hj h2
inductive Acc(e:Nat):Nat→AV→Hp→List AV→Prop where
 |nil:Acc e 0 .aj [] []
 |ae (b k:Nat) (cs:List AV) (h:cs.length=k*e):Acc e k (.ae b 0 k e) [(b,cs)] cs
theorem Acc.length{e k:Nat}{v:AV}{acc:Hp}{cs:List AV}(h:Acc e k v acc cs):cs.length=k*e:=by
 cases h with
 |nil=>simp
 |ae b k cs h=>exact h
theorem zZ(fr acc σ:Hp):(acc++(fr++σ)).Perm (fr++(acc++σ)):=fC fr acc σ
theorem ic{i:TI}{K:AV→Hp→Prop}(fr:Hp){acc σ:Hp}{k n:Nat}{v x:AV}{cs new:List AV}(h:Acc i.size k v acc cs)(hx:kc (fr++(acc++σ)) i.size x n new)(ik:new.length=n*i.size)(hn:k+n≤1048576)(hb:i.bytes≤1024)(h0:0<i.size)
  (go:∀v' aU,Acc i.size (k+n) v' aU (cs++new)→K (.via v') (fr++(aU++σ))):AppendAt i (fr++(acc++σ)) v x K:=by
 have hl:=h.length
 cases h with
 |nil=>
  refine .perm _ (fC fr [] σ) (.fresh n new (.inl rfl) (hx.perm (fC fr [] σ)) (by omega) hb h0 (K:=fun v eb=>(n=0∧v=.aj∧eb=[]++(fr++σ))∨(n≠0∧∃b,v=.ae b 0 n i.size∧eb=(b,new)::([]++(fr++σ)))) (fun aS b=>.inr ⟨aS,b,rfl,rfl⟩) (fun h0=>.inl ⟨h0,rfl,rfl⟩)) ?_
  rintro v eb (⟨hz,rfl,rfl⟩ | ⟨hz,b,rfl,rfl⟩)
  ·subst hz
   obtain rfl:new=[]:=List.length_eq_zero_iff.1 (by simpa using ik)
   exact⟨_,(fC fr [] σ).symm,.inr ⟨rfl,go _ _ .nil⟩⟩
  ·refine⟨_,(fC fr [(b,new)] σ).symm,.inr ⟨rfl,go _ _ ?_⟩⟩
   have:=Acc.ae (e:=i.size) b (0+n) new (by rw[ik,ef])
   rw[ef]at this ⊢
   exact this
 |ae b k cs h=>
  refine .perm _ (fC fr [(b,cs)] σ) (.more 0 b k n cs new rfl rfl (by rw[h];exact a8 _) (hx.perm (fC fr [(b,cs)] σ)) hn hb h0 (K:=fun v eb=>∃b',v=.ae b' 0 (k+n) i.size∧eb=(b',cs.take (k*i.size)++new)::(fr++σ)) (fun b'=>⟨b',rfl,rfl⟩)) ?_
  rintro v eb ⟨b',rfl,rfl⟩
  rw[eG (by omega)]
  exact⟨_,(fC fr [(b',cs++new)] σ).symm,.inr ⟨rfl,go _ _ (.ae _ _ _ (by rw[bP,h,ik,qB]))⟩⟩
theorem qU{R:AV→Hp→Prop}(fr:Hp){acc σ:Hp}{s:Sh}{k:Nat}{v:AV}{cs:List AV}{l:List s.T}(h:Acc s.size k v acc cs)(hl:k=l.length)(hc:cs=l.flatMap s.cells)(hp:0<s.size)(go:Fin R (.af s l) (fr++σ)):Fin R v (fr++(acc++σ)):=by
 subst hl
 have hlen:=h.length
 refine .perm (fC fr acc σ) ?_
 generalize hk:l.length=k at h
 cases h with
 |nil=>
  obtain rfl:=jv.1 hk
  exact .nil (.nil _) go
 |ae b k cs h=>
  subst hk
  exact .cJ 0 b 0 l.length s.size cs s l rfl (by rw[gM,eG (by omega)];exact hc) ⟨rfl,rfl,hp⟩ .here go
def an(l:List Int):List AV:=l.map (.int .i64)
theorem ui:∀l:List Int,an l=l.flatMap (Sh.cells (.int .i64))
 | []=>rfl
 |x::l=>congrArg (AV.int .i64 x :: ·) (ui l)
theorem x8{f:FuncId}{xs:List AV}{σ σ':Hp}{x y:AV}(h:ACalls Tryz.prog f xs σ (aE x σ'))(e:x=y):ACalls Tryz.prog f xs σ (aE y σ'):=e▸h
theorem rM{α:Type}{l:List α}{k:Nat}(h:k<l.length)(p:α→Bool):(l.take (k+1)).any p=((l.take k).any p||p l[k]):=by
 rw[List.take_succ_eq_append_getElem h,List.any_append];simp
set_option maxRecDepth 100000
def aO(ws:List Int):List AV:=ws.map (.int .u64)
theorem wL(n:Nat):cM [.int .u64 0] n=aO (List.replicate n 0):=by
 unfold aO
 induction n with
 |zero=>rfl
 |succ n ih=>simp[cM,ih,List.replicate_succ]
theorem kO:∀(ws:List Int),aO ws=ws.flatMap (Sh.cells (.int .u64))
 | []=>rfl
 |z::ws=>congrArg (AV.int .u64 z :: ·) (kO ws)
theorem Ux(n:Int)(σ:Hp):ACalls Tryz.prog 335 [.int .i64 n] σ (fun r σ'=>∃m,r=.int .i64 m∧σ'=σ):=by
 refine az Tryz.func335 ?_
 refine ei ?_
 refine aq (fun h1=>?_) (fun h1=>?_)
 ·have h1:32767<n.tmod 65536:=h1
  exact .done ⟨_,rfl,rfl⟩
 ·have h1:¬(32767<n.tmod 65536):=h1
  refine aq (fun h2=>?_) (fun h2=>?_)
  ·have h2:n.tmod 65536 < -32768:=h2
   exact .done ⟨_,rfl,rfl⟩
  ·have h2:¬(n.tmod 65536 < -32768):=h2
   exact .done ⟨_,rfl,rfl⟩
theorem agD(a b:Int)(σ:Hp):ACalls Tryz.prog 309 [.int .i64 a,.int .i64 b] σ (fun r σ'=>∃x y,r=.agg [.int .i64 x,.int .i64 y]∧σ'=σ):=by
 refine az Tryz.func309 ?_
 intro b1
 (refine .mk [] _ (Ux _ _) ?_;rintro _ _ ⟨x,rfl,rfl⟩)
 (refine .mk [] _ (Ux _ _) ?_;rintro _ _ ⟨x,rfl,rfl⟩)
 refine ai 0 ?_
 refine aa 0 ?_
 exact .drop 0 1 (.done ⟨_,_,rfl,rfl⟩)
theorem CB{w:Int}{k m:Nat}(hk:min (Int.toNat (k:Int)) IntKind.u64.bits=m):w.fdiv (2 ^ min (Int.toNat (k:Int)) IntKind.u64.bits)=w / 2 ^ m:=by
 rw[hk];exact Int.fdiv_eq_ediv_of_nonneg _ (Int.le_of_lt (Int.pow_pos (by decide)))
theorem HJ(w:Int):bits .and .u64 w 3=w % 4:=by
 show IntKind.u64.wrap ((BitVec.ofInt 64 w &&& BitVec.ofInt 64 3).toNat:Int)=_
 have h3:(BitVec.ofInt 64 3:BitVec 64).toNat=2 ^ 2-1:=by decide
 rw[BitVec.toNat_and,h3,Ov,BitVec.toNat_ofInt,IntKind.wrap_u64]
 omega
def eA(w:Int):Bool:=decide (w % 4=2)&&decide (0≤w∧w<17179869184)
theorem ad3(w:Int)(σ:Hp):ACalls Tryz.prog 285 [.int .u64 w] σ (fun r σ'=>∃x y,r=.tup [.agg [.int .i64 x,.int .i64 y],.bool (decide (0≤w∧w<4294967296))]∧σ'=σ):=by
 have e:=CB (k:=32) (m:=32) (w:=w) (by decide)
 refine az Tryz.func285 ?_
 intro b1
 refine ei ?_
 refine ew (fun h2=>?_) (fun h2=>?_)
 ·have h2:¬(w.fdiv (2 ^ min (Int.toNat 32) IntKind.u64.bits)=0):=by simpa using h2
  have hw:¬(0≤w∧w<4294967296):=fun h=>h2 (by rw[show w.fdiv (2 ^ min (Int.toNat 32) IntKind.u64.bits)=w / 2 ^ 32 from e];omega)
  refine ai 0 ?_
  refine aa 0 ?_
  exact .drop 0 1 (.done ⟨_,_,by rw[bZ hw];rfl,rfl⟩)
 ·have h2:w.fdiv (2 ^ min (Int.toNat 32) IntKind.u64.bits)=0:=by simpa using h2
  have hw:0≤w∧w<4294967296:=by rw[show w.fdiv (2 ^ min (Int.toNat 32) IntKind.u64.bits)=w / 2 ^ 32 from e]at h2;omega
  refine ei ?_
  (refine .mk [] _ (agD _ _ _) ?_;rintro _ _ ⟨x,y,rfl,rfl⟩)
  refine ai 0 ?_
  refine aa 0 ?_
  exact .drop 0 1 (.done ⟨_,_,by rw[bu hw];rfl,rfl⟩)
theorem agz(w:Int)(σ:Hp):ACalls Tryz.prog 251 [.int .u64 w] σ (fun r σ'=>∃x y,r=.tup [.agg [.int .i64 x,.int .i64 y],.bool (eA w)]∧σ'=σ):=by
 have e:=CB (k:=2) (m:=2) (w:=w) (by decide)
 refine az Tryz.func251 ?_
 intro b1
 refine ew (fun h2=>?_) (fun h2=>?_)
 ·have h2:¬(bits BinOp.and IntKind.u64 w 3=2):=by simpa using h2
  rw[HJ]at h2
  refine ai 0 ?_
  refine aa 0 ?_
  exact .drop 0 1 (.done ⟨_,_,by rw[show eA w=false by simp[eA,h2]];rfl,rfl⟩)
 ·have h2:bits BinOp.and IntKind.u64 w 3=2:=by simpa using h2
  rw[HJ]at h2
  refine ei ?_
  have e':w.fdiv (2 ^ min (Int.toNat 2) IntKind.u64.bits)=w / 4:=e
  refine .mk [] _ (ad3 _ _) ?_
  rintro _ _ ⟨x,y,rfl,rfl⟩
  have hk:decide (0≤w.fdiv (2 ^ min (Int.toNat 2) IntKind.u64.bits)∧w.fdiv (2 ^ min (Int.toNat 2) IntKind.u64.bits)<4294967296)=eA w:=by
   rw[e',show eA w=decide (0≤w∧w<17179869184) by simp[eA,h2]];exact decide_eq_decide.2 (by omega)
  refine ai 0 ?_
  refine aa 0 ?_
  exact .drop 0 1 (.done ⟨_,_,by rw[hk];rfl,rfl⟩)
def aK(w:Int):Int:=if w=0 then 0 else if w=1 then 1 else if eA w then w else 1
theorem KI{w:Int}(h:eA w=true):w≠0∧w≠1:=by
 unfold eA at h;simp at h;omega
theorem aIs(w:Int)(σ:Hp):ACalls Tryz.prog 202 [.int .u64 w] σ (aE (.bool (eA w||decide (w=0)||decide (w=1))) σ):=by
 refine az Tryz.func202 ?_
 refine .mk [] _ (agz w _) ?_
 rintro _ _ ⟨x,y,rfl,rfl⟩
 cases hn:eA w
 ·intro aG
  refine ai 0 ?_
  refine aq (fun c2=>?_) (fun c2=>?_)
  ·have c2:w=0:=c2
   exact .drop 0 1 (.done ⟨dc (by simp[*]),rfl⟩)
  ·have c2:¬(w=0):=c2
   refine aq (fun c3=>?_) (fun c3=>?_)
   ·have c3:w=1:=c3
    exact .drop 0 1 (.done ⟨dc (by simp[*]),rfl⟩)
   ·have c3:¬(w=1):=c3
    exact .drop 0 1 (.done ⟨dc (by simp[*]),rfl⟩)
 ·intro aG
  refine ai 0 ?_
  exact .drop 0 1 (.done ⟨dc (by simp[*]),rfl⟩)
theorem Mr(w:Int)(σ:Hp):ACalls Tryz.prog 333 [.int .u64 w] σ (aE (.int .u64 (aK w)) σ):=by
 refine az Tryz.func333 ?_
 refine eK [] (aIs w σ) (fun h=>?_) (fun h=>?_)
 ·refine .done ⟨aV ?_,rfl⟩
  unfold aK
  simp at h
  rcases h with (h | h) | h
  ·simp[h,KI h]
  ·simp[h]
  ·simp[h]
 ·exact .done ⟨aV (by unfold aK;simp at h;simp[h]),rfl⟩
def kx(a b:Int):Int:=if aK a=aK b∨aK b=0 then aK a else if aK a=0 then aK b else 1
theorem aeM(a b:Int)(σ:Hp):ACalls Tryz.prog 304 [.int .u64 a,.int .u64 b] σ (aE (.int .u64 (kx a b)) σ):=by
 refine az Tryz.func304 ?_
 refine ay [] (Mr _ _) ?_
 refine ay [] (Mr _ _) ?_
 refine aq (fun c1=>?_) (fun c1=>?_)
 ·have c1:aK a=aK b:=c1
  exact .done ⟨aV (by unfold kx;split <;> (try split) <;> omega),rfl⟩
 ·have c1:¬(aK a=aK b):=c1
  refine aq (fun c2=>?_) (fun c2=>?_)
  ·have c2:aK b=0:=c2
   exact .done ⟨aV (by unfold kx;split <;> (try split) <;> omega),rfl⟩
  ·have c2:¬(aK b=0):=c2
   refine aq (fun c3=>?_) (fun c3=>?_)
   ·have c3:aK a=0:=c3
    exact .done ⟨aV (by unfold kx;split <;> (try split) <;> omega),rfl⟩
   ·have c3:¬(aK a=0):=c3
    exact .done ⟨aV (by unfold kx;split <;> (try split) <;> omega),rfl⟩
def cT(what a b:Int):Int:=if what=1 then bits .or .u64 a b else if what=2 then bits .and .u64 a b else if what=3 then kx a b else 0
theorem U6(what a b:Int)(σ:Hp):ACalls Tryz.prog 279 [.int .i64 what,.int .u64 a,.int .u64 b] σ (aE (.int .u64 (cT what a b)) σ):=by
 refine az Tryz.func279 ?_
 refine aq (fun c1=>?_) (fun c1=>?_)
 ·have c1:what=1:=c1
  exact .done ⟨aV (by simp[cT, *]),rfl⟩
 ·have c1:¬(what=1):=c1
  refine aq (fun c2=>?_) (fun c2=>?_)
  ·have c2:what=2:=c2
   exact .done ⟨aV (by simp[cT, *]),rfl⟩
  ·have c2:¬(what=2):=c2
   refine aq (fun c3=>?_) (fun c3=>?_)
   ·have c3:what=3:=c3
    refine ay [] (aeM _ _ _) ?_
    exact .done ⟨aV (by simp[cT, *]),rfl⟩
   ·have c3:¬(what=3):=c3
    exact .done ⟨aV (by simp[cT, *]),rfl⟩
theorem TA(n:Int)(σ:Hp):ACalls Tryz.prog 261 [.int .i64 n] σ (fun r σ'=>∃m,r=.int .i64 m∧σ'=σ):=by
 refine az Tryz.func261 ?_
 refine ei ?_
 refine ei ?_
 exact .done ⟨_,rfl,rfl⟩
theorem afp(a b:Int)(σ:Hp):ACalls Tryz.prog 223 [.int .i64 a,.int .i64 b] σ (fun r σ'=>∃x y,r=.agg [.int .i64 x,.int .i64 y]∧σ'=σ):=by
 refine az Tryz.func223 ?_
 intro aG
 (refine .mk [] _ (TA _ _) ?_;rintro _ _ ⟨x,rfl,rfl⟩)
 (refine .mk [] _ (TA _ _) ?_;rintro _ _ ⟨x,rfl,rfl⟩)
 refine ai 0 ?_
 refine aa 0 ?_
 exact .drop 0 1 (.done ⟨_,_,rfl,rfl⟩)
theorem afo(w:Int)(σ:Hp)(h0:0≤w)(h2:w<18446744073709551616):ACalls Tryz.prog 179 [.int .u64 w] σ (fun r σ'=>∃x y,r=.tup [.agg [.int .i64 x,.int .i64 y],.bool (eA w)]∧σ'=σ):=by
 have e1:w.tmod 4=w % 4:=sK h0
 have e2:IntKind.u64.wrap (w.tdiv 4)=w / 4:=by rw[BJ h0,IntKind.wrap_u64];omega
 refine az Tryz.func179 ?_
 intro aG
 refine ei ?_
 refine ew (fun c2=>?_) (fun c2=>?_)
 ·have c2:¬(w.tmod 4=2):=by simpa using c2
  refine ai 0 ?_
  refine aa 0 ?_
  exact .drop 0 1 (.done ⟨_,_,by rw[show eA w=false by unfold eA;simp;omega];rfl,rfl⟩)
 ·have c2:w.tmod 4=2:=by simpa using c2
  refine ei ?_
  refine aq (fun c3=>?_) (fun c3=>?_)
  ·have c3:4294967296≤IntKind.u64.wrap (w.tdiv 4):=c3
   refine ai 0 ?_
   refine aa 0 ?_
   exact .drop 0 1 (.done ⟨_,_,by rw[show eA w=false by unfold eA;simp;omega];rfl,rfl⟩)
  ·have c3:¬(4294967296≤IntKind.u64.wrap (w.tdiv 4)):=c3
   refine ei ?_
   refine ei ?_
   refine ei ?_
   (refine .mk [] _ (afp _ _ _) ?_;rintro _ _ ⟨x,y,rfl,rfl⟩)
   refine ai 0 ?_
   refine aa 0 ?_
   exact .drop 0 1 (.done ⟨_,_,by rw[show eA w=true by unfold eA;simp;omega];rfl,rfl⟩)
theorem Hm(w:Int)(σ:Hp)(h0:0≤w)(h2:w<18446744073709551616):ACalls Tryz.prog 129 [.int .u64 w] σ (aE (.int .u64 (aK w)) σ):=by
 refine az Tryz.func129 ?_
 refine .mk [] _ (afo w _ h0 h2) ?_
 rintro _ _ ⟨x,y,rfl,rfl⟩
 cases hn:eA w
 ·intro aG
  refine ai 0 ?_
  refine ew (fun c2=>?_) (fun c2=>?_)
  ·have c2:¬(w=0):=by simpa using c2
   exact .drop 0 1 (.done ⟨aV (by simp[aK, *]),rfl⟩)
  ·have c2:w=0:=by simpa using c2
   exact .drop 0 1 (.done ⟨aV (by simp[aK, *]),rfl⟩)
 ·have aS:=KI hn
  intro aG
  refine ai 0 ?_
  refine ew (fun c2=>?_) (fun c2=>?_)
  ·have c2:¬(w=0):=by simpa using c2
   exact .drop 0 1 (.done ⟨aV (by simp[aK, *]),rfl⟩)
  ·have c2:w=0:=by simpa using c2
   exact .drop 0 1 (.done ⟨aV (by simp[aK, *]),rfl⟩)
theorem aez(a b:Int)(σ:Hp)(h0:0≤a)(h1:0≤b)(h2:a<18446744073709551616)(h3:b<18446744073709551616):ACalls Tryz.prog 231 [.int .u64 a,.int .u64 b] σ (aE (.int .u64 (kx a b)) σ):=by
 refine az Tryz.func231 ?_
 refine ay [] (Hm _ _ h0 h2) ?_
 refine ay [] (Hm _ _ h1 h3) ?_
 refine aq (fun c1=>?_) (fun c1=>?_)
 ·have c1:aK a=0:=c1
  exact .done ⟨aV (by unfold kx;split <;> (try split) <;> omega),rfl⟩
 ·have c1:¬(aK a=0):=c1
  refine aq (fun c2=>?_) (fun c2=>?_)
  ·have c2:aK a=aK b:=c2
   exact .done ⟨aV (by unfold kx;split <;> (try split) <;> omega),rfl⟩
  ·have c2:¬(aK a=aK b):=c2
   refine aq (fun c3=>?_) (fun c3=>?_)
   ·have c3:aK b=0:=c3
    exact .done ⟨aV (by unfold kx;split <;> (try split) <;> omega),rfl⟩
   ·have c3:¬(aK b=0):=c3
    exact .done ⟨aV (by unfold kx;split <;> (try split) <;> omega),rfl⟩
theorem aew(what a b:Int)(σ:Hp)(h0:0≤a)(h1:0≤b)(h2:a<18446744073709551616)(h3:b<18446744073709551616):ACalls Tryz.prog 177 [.int .i64 what,.int .u64 a,.int .u64 b] σ (aE (.int .u64 (cT what a b)) σ):=by
 refine az Tryz.func177 ?_
 refine aq (fun c1=>?_) (fun c1=>?_)
 ·have c1:what=1:=c1
  exact .done ⟨aV (by simp[cT, *]),rfl⟩
 ·have c1:¬(what=1):=c1
  refine aq (fun c2=>?_) (fun c2=>?_)
  ·have c2:what=2:=c2
   exact .done ⟨aV (by simp[cT, *]),rfl⟩
  ·have c2:¬(what=2):=c2
   refine aq (fun c3=>?_) (fun c3=>?_)
   ·have c3:what=3:=c3
    refine ay [] (aez _ _ _ h0 h1 h2 h3) ?_
    exact .done ⟨aV (by simp[cT, *]),rfl⟩
   ·have c3:¬(what=3):=c3
    exact .done ⟨aV (by simp[cT, *]),rfl⟩
def wd(a:List Int)(i:Nat):Int:=(a[i]?).getD 0
def bH(z:Int):Prop:=0≤z∧z<18446744073709551616
def bc(l:List Int):Prop:=∀z∈l,bH z
theorem Cy(n:Int):bH (IntKind.u64.wrap n):=by rw[IntKind.wrap_u64];unfold bH;omega
theorem GN{w:Int}(h:bH w):bH (aK w):=by
 unfold aK
 split
 ·exact⟨by decide,by decide⟩
 ·split
  ·exact⟨by decide,by decide⟩
  ·split
   ·exact h
   ·exact⟨by decide,by decide⟩
theorem SB{what a b:Int}(ha:bH a)(hb:bH b):bH (cT what a b):=by
 unfold cT
 split
 ·exact Cy _
 ·split
  ·exact Cy _
  ·split
   ·unfold kx
    split
    ·exact GN ha
    ·split
     ·exact GN hb
     ·exact⟨by decide,by decide⟩
   ·exact⟨by decide,by decide⟩
theorem kW{l:List Int}(h:bc l)(i:Nat):bH (wd l i):=by
 unfold wd
 cases hq:l[i]? with
 |none=>exact⟨by decide,by decide⟩
 |some x=>exact h x (cq hq)
end Go.Proofs.YtnikdflhefijbaaGreat
