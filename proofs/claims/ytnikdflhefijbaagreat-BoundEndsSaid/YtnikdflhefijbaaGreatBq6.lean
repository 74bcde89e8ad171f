import Derived.WalkMore
import Derived.Test.YtnikdflhefijbaaGreatBq5
import Derived.Test.YtnikdflhefijbaaGreatBq1
import Derived.Test.YtnikdflhefijbaaGreatRows
namespace Go.Proofs.YtnikdflhefijbaaGreat
open Go.RowKit
section
variable {P:Program} {TT:TypeId→Option TI}
def EZ(n:Nat)(o:Oper):Bool:=(match o.dst with | some d=>Nat.blt d n | none=>true)&&(match o.op with | .defer _=>false | _=>true)
def codeOk(n:Nat):Bool→Code→Bool
 |_,.region _ ops _=>ops.toList.all (EZ n)
 |rd,.seq a b=>codeOk n rd a&&codeOk n rd b
 |rd,.cond _ a b=>codeOk n rd a&&codeOk n rd b
 |rd,.block _ c=>codeOk n rd c
 |rd,.loop c=>codeOk n rd c
 |rd,.scope c=> !rd&&codeOk n false c
 |rd,.rangeFunc _ ps a b=> !rd&&ps.toList.all (fun p=>Nat.blt p n)&&codeOk n true a&&codeOk n true b
 |_,_=>true
theorem adq{n:Nat}{rd:Bool}:∀(c:Code) (l:Nat) (r:Code),findLabel c l=some r→codeOk n rd c=true→codeOk n rd r=true:=by
 intro c
 induction c with
 |seq a b iha Pc=>
  intro l r h hc;simp only[codeOk,bS]at hc;simp only[findLabel]at h;split at h
  ·rename_i rest hr
   cases h;simp only[codeOk,bS];exact⟨iha l _ hr hc.1,hc.2⟩
  ·exact Pc l r h hc.2
 |label l'=>
  intro l r h _;simp only[findLabel]at h;split at h
  ·cases h;rfl
  ·cases h
 |_=>intro l r h;simp[findLabel]at h
theorem ahk{n:Nat}{ops:List Oper}(h:ops.all (EZ n)=true):∀o∈ops,∀d,o.dst=some d→d<n:=fun o ho d hd=>by
 have:=fG.1 h o ho;unfold EZ at this;rw[hd,bS]at this;exact cy this.1
theorem ai8{n:Nat}{ops:List Oper}(h:ops.all (EZ n)=true):∀o∈ops,∀c,o.op≠.defer c:=fun o ho c hc=>by
 have:=fG.1 h o ho;unfold EZ at this;rw[hc,bS]at this;cases this.2
theorem Yu{F:Fence}{n:Nat}{c:Code}{Q:Exit→Act→World→Prop}{a:Act}{w:World}(J:Nat→Act→World→Prop)(m:Nat)(aj0:J m a w)
  (round:∀m a w,J m a w→c.wpIn F n P (Exit.then (fun a' w'=>∃m',m'<m∧J m' a' w') Q) a w):(Code.loop c).wpIn F n P Q a w:=by
 intro b k cs nz hb hr
 have key:∀n a w,J n a w→∃e a' w',Q e a' w'∧ArrivesIn (Machine.fenced P F) P (lone (b.atR a (.code c::.inLoop c::k)) cs w) b k cs e a' w':=by
  intro n
  induction n using Nat.strongRecOn with
  |_ n ih=>
   intro a w hI;obtain⟨e,tg,ta,hq,rh⟩:=round n a w hI b (.inLoop c::k) cs nz hb hr;cases e with
   |normal=>
    obtain⟨m',ab,aiq⟩:=hq;obtain⟨ajI,Cm,B7,yq,Bx⟩:=ih m' ab tg ta aiq;exact⟨ajI,Cm,B7,yq,.of_steps (StepsIn.trans rh (.one (fenced_calm hb hr rfl) stepR_inLoop)) Bx⟩
   |exit id=>exact⟨_,tg,ta,hq,.pass (x:=.inLoop c) rfl (fun _ _=>.inl (by simp)) rh⟩
   |goto l=>exact⟨_,tg,ta,hq,.pass (x:=.inLoop c) rfl (fun _ _=>.inl (by simp)) rh⟩
   |ret=>exact⟨_,tg,ta,hq,.pass (x:=.inLoop c) rfl (fun _ _=>.inl (by simp)) rh⟩
   |panic ch=>exact⟨_,tg,ta,hq,.pass (x:=.inLoop c) rfl (fun _ _=>.inl (by simp)) rh⟩
   |outgrown=>exact⟨_,tg,ta,hq,.pass (x:=.inLoop c) rfl (fun _ _=>.inl (by simp)) rh⟩
 obtain⟨e,a',w',hq,rh⟩:=key m a w aj0;exact⟨e,a',w',hq,.of_steps (.one (fenced_calm hb hr rfl) stepR_loop) rh⟩
def Ex.up:Ex→Exit
 |.normal=>.normal
 |.exit id=>.exit id
 |.goto l=>.goto l
 |.ret=>.ret
inductive B6(P:Program)(c:Code)(Q:Exit→Act→World→Prop):Exit→Act→World→Prop where
 |normal {a:Act} {w:World} (h:Q .normal a w):B6 P c Q .normal a w
 |exit {id:Nat} {a:Act} {w:World} (h:Q (.exit id) a w):B6 P c Q (.exit id) a w
 |ret {a:Act} {w:World} (h:Q .ret a w):B6 P c Q .ret a w
 |goto {l:Nat} {a:Act} {w:World} (n:Nat) (J:Nat→Nat→Act→World→Prop) (h:J n l a w) (hr:∀n l a w,J n l a w→∃r,findLabel c l=some r∧r.wp P (fun e a' w'=>match e with | .goto l'=>∃n',n'<n∧J n' l' a' w' | .panic _=>False | .outgrown=>False | e=>Q e a' w') a w):B6 P c Q (.goto l) a w
theorem YF{c:Code}{Q:Exit→Act→World→Prop}{a:Act}{w:World}(h:c.wp P (B6 P c Q) a w):(Code.scope c).wp P Q a w:=by
 intro b k cs;obtain⟨e,tg,ta,hq,rh⟩:=h b (.inScope c::k) cs;have top:Steps P (lone (b.at a (.code (.scope c)::k)) cs w) (lone (b.at a (.code c::.inScope c::k)) cs w):=.one step_scope;cases hq with
 |normal h=>exact⟨.normal,tg,ta,h,.of_steps top (Steps.trans rh (.one step_inScope))⟩
 |exit h=>exact⟨.exit _,tg,ta,h,.of_steps top (fun k' hk=>rh k' (by simp[exitTo,hk]))⟩
 |ret h=>exact⟨_,tg,ta,h,.of_steps top rh⟩
 | @goto l _ _ n J hJ hr=>
  have key:∀(n l:Nat) (a:Act) (w:World),J n l a w→∃rest,findLabel c l=some rest∧∃e a' w',Q e a' w'∧Arrives P (lone (b.at a (.code rest::.inScope c::k)) cs w) b k cs e a' w':=by
   intro n
   induction n using Nat.strongRecOn with
   |_ n ih=>
    intro l a w hI;obtain⟨r,hl,hwp⟩:=hr n l a w hI;refine⟨r,hl,?_⟩;obtain⟨e,Cm,B7,yq,Bx⟩:=hwp b (.inScope c::k) cs;cases e with
    |normal=>exact⟨.normal,Cm,B7,yq,Steps.trans Bx (.one step_inScope)⟩
    |exit id=>exact⟨.exit id,Cm,B7,yq,fun k' hk=>Bx k' (by simp[exitTo,hk])⟩
    |goto l'=>
     obtain⟨n',ab,hJ'⟩:=yq;obtain⟨rest,hf,OS,OY,Om,N6,Na⟩:=ih n' ab l' Cm B7 hJ';have hg:gotoIn l' (.inScope c::k)=some (.code rest::.inScope c::k):=by simp[gotoIn,hf]
     exact⟨OS,OY,Om,N6,.of_steps (Bx _ hg) Na⟩
    |ret=>exact⟨_,Cm,B7,yq,Bx⟩
    |panic ch=>exact yq.elim
    |outgrown=>exact yq.elim
  obtain⟨rest,hf,OS,OY,Om,N6,Na⟩:=key n l tg ta hJ;have hg:gotoIn l (.inScope c::k)=some (.code rest::.inScope c::k):=by simp[gotoIn,hf]
  exact⟨OS,OY,Om,N6,.of_steps top (.of_steps (rh _ hg) Na)⟩
theorem dx.cN{B n:Nat}{F:Nat→Prop}{w:World}{t t':Tm}{σ:Hp}{a:Act}(hs:dx B n F w t σ a){j b off len es:Nat}{cs:List AV}{e:Sh}{l:List e.T}(h1:σ[j]?=some (b,cs))(h2:(cs.drop off).take (len*es)=l.flatMap e.cells)(h3:l.length=len∧e.size=es∧0<es)(h4:∀i,fm b off len es e l (t i) (t' i)):
  ∃F',bH F w F' w∧dx B n F' w t' (σ.eraseIdx j) a:=by
 obtain⟨aq,re,hh⟩:=yh hs.hp h1 h2 h3;exact⟨_,aq,fun i=>A3 aq hh (h4 i) _ (hs.tm i),re,hs.size,hs.defers.mono aq⟩
theorem dx.wrap{B n:Nat}{F:Nat→Prop}{w:World}{t:Tm}{σ:Hp}{a:Act}(hs:dx B n F w t σ a){k:Nat}{v:AV}(h1:t k=v)(h2:v.leaf=true):dx B n F w (dF t [(k,.via v)]) σ a:=
 ⟨fun i=>by
  show aB F w (match Nat.beq i k with | true=>.via v | false=>t i) _;cases hb:Nat.beq i k with
  |true=>rw[j5 hb];exact .via _ _ h2 (h1▸hs.tm k)
  |false=>exact hs.tm i,hs.hp,hs.size,hs.defers⟩
theorem aaa(ok:dM P TT)(hm:P.follows .mixedOrders=true){r:Option Nat}{B n:Nat}{ops:Array Oper}{K:Tm→Hp→Prop}{Q:Exit→Act→World→Prop}{t:Tm}{σ:Hp}(hd:∀o∈ops.toList,∀d,o.dst=some d→d<n)(cg:∀o∈ops.toList,∀c,o.op≠.defer c)(h:gZ P TT ops.toList K t σ):∀{F:Nat→Prop} {w:World} {a:Act} {id:Nat},dx B n F w t σ a→
  (∀t' σ' F' w' a',bH F w F' w'→dx B n F' w' t' σ' a'→K t' σ'→Q .normal a' w')→(Code.region id ops true).wpIn (FW r) 0 P Q a w:=by
 induction h with
 |quiet h0 h=>exact fun hs hq=>Y8 ok hm h0 h hd cg hs (fun t' F' w' a' h1 h2 h3=>hq t' _ F' w' a' h1 h2 h3)
 |each h0 h=>exact fun hs hq=>R5 ok hm h0 h hd cg hs (fun t' σ' F' w' a' h1 h2 h3=>hq t' σ' F' w' a' h1 h2 h3)
 |sched Q0 s h0 h=>exact fun hs hq=>Q9 ok hm h0 h hd cg hs (fun t' σ' F' w' a' h1 h2 h3=>hq t' σ' F' w' a' h1 h2 h3)
 |meet L H h0 h go=>
  intro F w a id hs hq;refine R5 ok hm h0 h hd cg hs (fun t' σ' F' w' a' h1 h2 h3=>?_);obtain⟨s,k1,k2⟩:=h3;refine hq t' (H s) F' w' a' h1 (h2.eb k2) ?_;rw[Bk k1];exact go s t'
 |NX Q0 s0 L H h0 h go=>
  intro F w a id hs hq;refine Q9 ok hm h0 h hd cg hs (fun t' σ' F' w' a' h1 h2 h3=>?_);obtain⟨s,k1,k2⟩:=h3;refine hq t' (H s) F' w' a' h1 (h2.eb k2) ?_;rw[Bk k1];exact go s t'
 |cN j b off len es cs e l h1 h2 h3 h4 h ih=>
  intro F w a id hs hq;obtain⟨F1,k1,k2⟩:=hs.cN h1 h2 h3 h4;exact ih k2 (fun t' σ' F' w' a' q1 q2 q3=>hq t' σ' F' w' a' (k1.trans q1) q2 q3)
 |eb h1 h ih=>
  intro F w a id hs hq;exact ih (hs.eb h1) hq
theorem dx.kV{B n:Nat}{F:Nat→Prop}{w:World}{t:Tm}{σ:Hp}{a:Act}(hs:dx B n F w t σ a){j b off len es:Nat}{cs:List AV}{e:Sh}{l:List e.T}(h1:σ[j]?=some (b,cs))(h2:(cs.drop off).take (len*es)=l.flatMap e.cells)(h3:l.length=len∧e.size=es∧0<es){i k b':Nat}{cs':List AV}(hi:(σ.eraseIdx j)[i]?=some (b',cs'))(hk:cs'[k]?=some (.ae b off len es)):
  ∃F',bH F w F' w∧dx B n F' w t ((σ.eraseIdx j).set i (b',cs'.set k (.ah e l))) a:=by
 obtain⟨aq,re,hh⟩:=yh hs.hp h1 h2 h3;exact⟨_,aq,fun i=>(hs.tm i).mono aq,H0 re hh hi hk,hs.size,hs.defers.mono aq⟩
theorem dx.nil{B n:Nat}{F:Nat→Prop}{w:World}{t t':Tm}{σ:Hp}{a:Act}(hs:dx B n F w t σ a)(h4:∀i,fm 0 0 0 0 .bool [] (t i) (t' i)):dx B n F w t' σ a:=
 ⟨fun i=>A3 (.refl _ _) (fun v hv=>by
  obtain⟨a,cap,rfl,c,T,fz,m1,m2,m3,m4⟩:=hv.kR
  exact .ah _ _ _ ⟨some a,cap,rfl,m2,m3,(fun e=>by cases e),fun aS=>absurd rfl aS⟩) (h4 i) _ (hs.tm i),hs.hp,hs.size,hs.defers⟩
theorem abc{B n:Nat}{S:Type}{L:S→List (Nat×AV)}{H:S→Hp}{p:S→Prop}{μ:S→Nat}{s:S}{t':Tm}{σ':Hp}(h:qf L H p μ s t' σ'):∀{F:Nat→Prop} {w:World} {a:Act},dx B n F w t' σ' a→
  ∃F' t2 s',bH F w F' w∧dx B n F' w t2 (H s') a∧μ s'<μ s∧p s'∧agree t2 (L s'):=by
 induction h with
 |mk s' h1 h2 h3 h4=>exact fun hs=>⟨_,_,s',.refl _ _,hs.eb h4,h1,h2,h3⟩
 |cN j b off len es cs e l h1 h2 h3 h4 h ih=>
  intro F w a hs;obtain⟨F1,k1,k2⟩:=hs.cN h1 h2 h3 h4;obtain⟨F2,t2,s',q1,q2,q3⟩:=ih k2;exact⟨F2,t2,s',k1.trans q1,q2,q3⟩
 |kV j b off len es cs e l h1 h2 h3 i k b' cs' hi hk h ih=>
  intro F w a hs;obtain⟨F1,k1,k2⟩:=hs.kV h1 h2 h3 hi hk;obtain⟨F2,t2,s',q1,q2,q3⟩:=ih k2;exact⟨F2,t2,s',k1.trans q1,q2,q3⟩
 |eb h1 h ih=>exact fun hs=>ih (hs.eb h1)
 |nil h4 h ih=>exact fun hs=>ih (hs.nil h4)
theorem abd{B n:Nat}{S:Type}{gu:S→Nat}{L:S→List (Nat×AV)}{H:S→Hp}{p:S→Prop}{μ:S→Nat}{s:S}{l:Nat}{t':Tm}{σ':Hp}(h:sf gu L H p μ s l t' σ'):∀{F:Nat→Prop} {w:World} {a:Act},dx B n F w t' σ' a→
  ∃F' t2 s',bH F w F' w∧dx B n F' w t2 (H s') a∧l=gu s'∧μ s'<μ s∧p s'∧agree t2 (L s'):=by
 induction h with
 |mk s' h0 h1 h2 h3 h4=>exact fun hs=>⟨_,_,s',.refl _ _,hs.eb h4,h0,h1,h2,h3⟩
 |cN j b off len es cs e l h1 h2 h3 h4 h ih=>
  intro F w a hs;obtain⟨F1,k1,k2⟩:=hs.cN h1 h2 h3 h4;obtain⟨F2,t2,s',q1,q2,q3⟩:=ih k2;exact⟨F2,t2,s',k1.trans q1,q2,q3⟩
 |kV j b off len es cs e l h1 h2 h3 i k b' cs' hi hk h ih=>
  intro F w a hs;obtain⟨F1,k1,k2⟩:=hs.kV h1 h2 h3 hi hk;obtain⟨F2,t2,s',q1,q2,q3⟩:=ih k2;exact⟨F2,t2,s',k1.trans q1,q2,q3⟩
 |eb h1 h ih=>exact fun hs=>ih (hs.eb h1)
 |nil h4 h ih=>exact fun hs=>ih (hs.nil h4)
theorem Z0{r:Option Nat}{B n:Nat}{c:Code}{body:Tm→Hp→(Ex→Tm→Hp→Prop)→Prop}(hb:∀(t:Tm) (σ:Hp) (K:Ex→Tm→Hp→Prop) (F:Nat→Prop) (w:World) (a:Act) (Q:Exit→Act→World→Prop),body t σ K→dx B n F w t σ a→
   (∀e t' σ' F' w' a',bH F w F' w'→dx B n F' w' t' σ' a'→K e t' σ'→Q e.up a' w')→c.wpIn (FW r) 0 P Q a w) {K:Ex→Tm→Hp→Prop} {t:Tm} {σ:Hp} (h:nr body K t σ):∀{F:Nat→Prop} {w:World} {a:Act} {Q:Exit→Act→World→Prop},dx B n F w t σ a→
  (∀e t' σ' F' w' a',bH F w F' w'→dx B n F' w' t' σ' a'→K e t' σ'→Q e.up a' w')→(Code.loop c).wpIn (FW r) 0 P Q a w:=by
 induction h with
 | @mk t σ S L H p μ s0 h0 hr=>
  intro F w a Q hs hq;refine Yu (fun m a' w'=>∃t' σ' F',bH F w F' w'∧dx B n F' w' t' σ' a'∧Head L H p μ m t' σ') (μ s0) ⟨t,σ,F,.refl _ _,hs,s0,t,rfl,h0.1,Bk h0.2.1,h0.2.2⟩ ?_;rintro m a1 w1 ⟨_,_,F1,s1,r1,ss,g,rfl,hp,rfl,rfl⟩;refine hb _ _ _ F1 w1 a1 _ (hr ss g hp) r1 ?_;intro e t' σ' F' w' a' h1 h2 h3;cases e with
  |normal=>
   obtain⟨F2,t2,s',q1,q2,k1,k2,k3⟩:=abc h3 h2;exact⟨_,k1,t2,_,F2,s1.trans (h1.trans q1),q2,s',t2,rfl,k2,Bk k3,rfl⟩
  |exit id=>exact hq (.exit id) t' σ' F' w' a' (s1.trans h1) h2 h3
  |goto l=>exact hq (.goto l) t' σ' F' w' a' (s1.trans h1) h2 h3
  |ret=>exact hq .ret t' σ' F' w' a' (s1.trans h1) h2 h3
 |cN j b off len es cs e l h1 h2 h3 h4 h ih=>
  intro F w a Q hs hq;obtain⟨F1,k1,k2⟩:=hs.cN h1 h2 h3 h4;exact ih k2 (fun e t' σ' F' w' a' q1 q2 q3=>hq e t' σ' F' w' a' (k1.trans q1) q2 q3)
 |eb h1 h ih=>
  intro F w a Q hs hq;exact ih (hs.eb h1) hq
 |wrap k v h1 h2 h ih=>
  intro F w a Q hs hq;exact ih (hs.wrap h1 h2) hq
 |nil h4 h ih=>
  intro F w a Q hs hq;exact ih (hs.nil h4) hq
theorem Z9{B n:Nat}{c:Code}{R:Nat→Tm→Hp→(Ex→Tm→Hp→Prop)→Prop}(hR:∀(l:Nat) (t:Tm) (σ:Hp) (K:Ex→Tm→Hp→Prop) (F:Nat→Prop) (w:World) (a:Act) (Q:Exit→Act→World→Prop),R l t σ K→dx B n F w t σ a→
   (∀e t' σ' F' w' a',bH F w F' w'→dx B n F' w' t' σ' a'→K e t' σ'→Q e.up a' w')→∃r,findLabel c l=some r∧r.wp P Q a w) {l:Nat} {K:Ex→Tm→Hp→Prop} {t:Tm} {σ:Hp} (h:sg R l K t σ):∀{F:Nat→Prop} {w:World} {a:Act} {Q:Exit→Act→World→Prop},dx B n F w t σ a→
  (∀e t' σ' F' w' a',bH F w F' w'→dx B n F' w' t' σ' a'→K e t' σ'→(∀l,e≠.goto l)→Q e.up a' w')→B6 P c Q (.goto l) a w:=by
 induction h with
 | @fwd t σ k h=>
  intro F w a Q hs hq;refine .goto k (fun k l a' w'=>∃t' σ' F',bH F w F' w'∧dx B n F' w' t' σ' a'∧Xs R k l t' σ' K) ⟨t,σ,F,.refl _ _,hs,h⟩ ?_;rintro k l a1 w1 ⟨t1,kE,F1,s1,r1,h⟩;cases k with
  |zero=>exact h.elim
  |succ k=>
   refine hR l t1 kE _ F1 w1 a1 _ h r1 ?_;intro e t' σ' F' w' a' h1 h2 h3;cases e with
   |normal=>exact hq .normal t' σ' F' w' a' (s1.trans h1) h2 h3 (by simp)
   |exit id=>exact hq (.exit id) t' σ' F' w' a' (s1.trans h1) h2 h3 (by simp)
   |goto l=>exact⟨k,Nat.lt_succ_self _,t',σ',F',s1.trans h1,h2,h3⟩
   |ret=>exact hq .ret t' σ' F' w' a' (s1.trans h1) h2 h3 (by simp)
 | @loop t σ S gu L H p μ s0 h0 hr=>
  intro F w a Q hs hq;refine .goto (μ s0) (fun m l a' w'=>∃s g F',bH F w F' w'∧dx B n F' w' (dF g (L s)) (H s) a'∧m=μ s∧l=gu s∧p s) ⟨s0,t,F,.refl _ _,?_,rfl,h0.1,h0.2.1⟩ ?_
  ·rw[← Bk h0.2.2.1];exact hs.eb h0.2.2.2
  rintro m l a1 w1 ⟨s,g,F1,s1,r1,rfl,rfl,hp⟩;refine hR (gu s) _ _ _ F1 w1 a1 _ (hr s g hp) r1 ?_;intro e t' σ' F' w' a' h1 h2 h3;cases e with
  |normal=>exact hq .normal t' σ' F' w' a' (s1.trans h1) h2 h3 (by simp)
  |exit id=>exact hq (.exit id) t' σ' F' w' a' (s1.trans h1) h2 h3 (by simp)
  |goto l=>
   obtain⟨F2,t2,s',q1,q2,k0,k1,k2,k3⟩:=abd h3 h2;refine⟨_,k1,s',t2,F2,s1.trans (h1.trans q1),?_,rfl,k0,k2⟩;rw[← Bk k3];exact q2
  |ret=>exact hq .ret t' σ' F' w' a' (s1.trans h1) h2 h3 (by simp)
 |cN j b off len es cs e l h1 h2 h3 h4 h ih=>
  intro F w a Q hs hq;obtain⟨F1,k1,k2⟩:=hs.cN h1 h2 h3 h4;exact ih k2 (fun e t' σ' F' w' a' q1 q2 q3 q4=>hq e t' σ' F' w' a' (k1.trans q1) q2 q3 q4)
 |eb h1 h ih=>
  intro F w a Q hs hq;exact ih (hs.eb h1) hq
 |wrap k v h1 h2 h ih=>
  intro F w a Q hs hq;exact ih (hs.wrap h1 h2) hq
structure NC(F:Nat→Prop)(w:World)(F':Nat→Prop)(w':World):Prop where
 sub:∀b,FC F w b→F' b
 cells:∀b,oW w b→w'.heap[b]?=w.heap[b]?
theorem NC.at_{F F':Nat→Prop}{w w':World}(h:NC F w F' w'){b:Nat}(hc:oW w b):oW w' b:=by
 obtain⟨c,T,fz,e⟩:=hc;exact⟨c,T,fz,(h.cells b ⟨c,T,fz,e⟩).trans e⟩
theorem NC.fc{F F':Nat→Prop}{w w':World}(h:NC F w F' w'){b:Nat}(hf:FC F w b):FC F' w' b:=⟨h.sub b hf,h.at_ hf.2⟩
theorem lF.nc{F F':Nat→Prop}{w w':World}(hn:NC F w F' w'):∀(s:Sh) (cs:List Value) (d:s.T),lF F w s cs d→lF F' w' s cs d:=by
 intro s
 induction s with
 |int k=>exact fun _ _ h=>h
 |bool=>exact fun _ _ h=>h
 |str=>exact fun _ _ h=>h
 |nil=>exact fun _ _ h=>h
 |slice e ih=>
  rintro cs l ⟨a,c,h1,h2,h3,h0,h4⟩;refine⟨a,c,h1,h2,h3,h0,fun aS=>?_⟩;obtain⟨b,o,rfl,hF,hi⟩:=h4 aS;refine⟨b,o,rfl,hn.fc hF,fun i h=>?_⟩;obtain⟨cs',q1,q2,q3⟩:=hi i h;exact⟨cs',q1,q2.fix (hn.cells b hF.2),ih _ _ q3⟩
 |field f r rC kh=>
  rintro cs d ⟨c1,c2,h1,h2,h3,h4⟩;exact⟨c1,c2,h1,h2,rC _ _ h3,kh _ _ h4⟩
theorem aB.nc{F F':Nat→Prop}{w w':World}(hn:NC F w F' w'){x:AV}{v:Value}(h:aB F w x v):aB F' w' x v:=by
 induction h with
 |int k n=>exact .int k n
 |bool b=>exact .bool b
 |str s=>exact .str s
 |ah e l v h=>exact .ah e l v (lF.nc hn _ _ _ h)
 |kX a=>exact .kX a
 |gT a c h=>exact .gT a c h
 |an=>exact .an
 |ae b off len e a cap h=>
  obtain⟨c,T,fz,h1,h2⟩:=h;exact .ae b off len e a cap ⟨c,T,fz,(hn.cells b ⟨c,T,fz,h1⟩).trans h1,h2⟩
 |cW=>exact .cW
 |ptr b off h=>exact .ptr b off (hn.at_ h)
 |ob b=>exact .ob b
 |ou b=>exact .ou b
 |gq cs b o f hF h1 hl h ih=>exact .gq cs b o f (hn.fc hF) (fun i x hx=>(MF (hn.cells b hF.2) _).trans (h1 i x hx)) hl ih
 |agg cs vs hs hl h ih=>exact .agg cs vs hs hl ih
 |tup cs vs hs h ih=>exact .tup cs vs hs ih
 |iface t a v h ih=>exact .iface t a v ih
 |nilif=>exact .nilif
 |fn f c1 c2 v1 v2 fD gQ h1 h2 FP FO=>exact .fn f c1 c2 v1 v2 fD gQ FP FO
 |jd=>exact .jd
 |qk=>exact .qk
 |gE n b h=>exact .gE n b h
 |gk n m a b h1 h2=>exact .gk n m a b h1 h2
 |any v=>exact .any v
 |via x v hl h ih=>exact .via x v hl ih
theorem Holds.nc{F F':Nat→Prop}{w w':World}(hn:NC F w F' w'){b:Nat}{cs:List AV}(h:Holds F w b cs)(hb:w'.heap[b]?=w.heap[b]?)(hF:¬F' b):Holds F' w' b cs:=by
 obtain⟨_,⟨c,T,h1,h2,h3⟩ | ⟨x,o,h1,h2,h3⟩ | ⟨L,t,h1,h2,h3⟩⟩:=h
 ·exact⟨hF,.inl ⟨c,T,hb.trans h1,h2,fun i x hx=>⟨(h3 i x hx).1,(h3 i x hx).2.nc hn⟩⟩⟩
 ·exact⟨hF,.inr (.inl ⟨x,o,h1,hb.trans h2,h3⟩)⟩
 ·exact⟨hF,.inr (.inr ⟨L,t,h1,hb.trans h2,fun i=>(h3 i).nc hn⟩)⟩
theorem bj.nc{F F':Nat→Prop}{w w':World}{σ:Hp}(h:bj F w σ)(hn:NC F w F' w')(hk:∀p∈σ,w'.heap[p.1]?=w.heap[p.1]?∧¬F' p.1)(fB:∀b,F' b→b<w'.heap.size):bj F' w' σ:=
 ⟨h.nodup,fun p hp=>(h.holds p hp).nc hn (hk p hp).1 (hk p hp).2,fB⟩
theorem bj.out{F:Nat→Prop}{w:World}{σ:Hp}(h:bj F w σ){b:Nat}(hb:F b):∀p∈σ,p.1≠b:=fun p hp e=>(h.holds p hp).1 (e▸hb)
theorem Nv{F F':Nat→Prop}{w:World}{l:Nat}{L L':Loop}(hl:w.heap[l]?=some (.loop L))(hs:∀b,b≠l→F b→F' b):NC F w F' (w.putObj l (.loop L')) where
 sub:=fun b ⟨hF,c,T,fz,hc⟩=>hs b (fun e=>by subst e;rw[hl]at hc;cases hc) hF
 cells:=fun b ⟨c,T,fz,hc⟩=>World.putObj_heap_other (fun e=>by subst e;rw[hl]at hc;cases hc)
theorem Ml{w:World}{l:Nat}{L L':Loop}(hl:w.heap[l]?=some (.loop L))(b:Nat)(c:Array Value)(T:TypeId)(fz:Nat×Nat)(h:w.heap[b]?=some (.cells c T fz)):(w.putObj l (.loop L')).heap[b]?=some (.cells c T fz):=
 (World.putObj_heap_other (fun e=>by subst e;rw[hl]at h;cases h)).trans h
def BS:Ex→Code
 |.normal=>.skip
 |.exit i=>.exit i
 |.goto l=>.goto l
 |.ret=>.ret
def kz(fn:FuncId)(tm:Array Value)(ps:Array Tmp)(gG body:Code)(D:Nat)(st:LoopState)(pe:Option Code):Loop:= { state:=st,pending:=pe,fn,tmps:=tm,params:=ps,assign:=gG,body,defers:=D }
theorem Wg{n:Nat}{F:Nat→Prop}{w:World}:∀(ps:List Tmp) (xs:List AV) (us:List Value) (t:Tm) (tm:Array Value),xs.length=us.length→ps.all (fun p=>Nat.blt p n)=true→n≤tm.size→(∀i,aB F w (t i) (tm.getD i undef))→(∀(i:Nat) (x:AV),xs[i]?=some x→aB F w x (us.getD i undef))→
  n≤((ps.zip us).foldl (fun t p=>t.setIfInBounds p.1 p.2) tm).size∧∀i,aB F w (Ct ps xs t i) (((ps.zip us).foldl (fun t p=>t.setIfInBounds p.1 p.2) tm).getD i undef)
 | [],xs,us,t,tm,_,_,hs,ht,_=>by cases xs <;> exact⟨hs,ht⟩
 |p::ps,[],us,t,tm,hl,_,hs,ht,_=>by cases us with
  |nil=>exact⟨hs,ht⟩
  |cons u us=>cases hl
 |p::ps,x::xs,[],t,tm,hl,_,_,_,_=>by cases hl
 |p::ps,x::xs,u::us,t,tm,hl,hp,hs,ht,hx=>by
  simp only[List.all_cons,bS]at hp;have tF:p<n:=cy hp.1;refine Wg ps xs us (put t (some p) x) (tm.setIfInBounds p u) (by simpa using hl) hp.2 (by simpa using hs) (fun i=>?_) (fun i y hy=>by simpa using hx (i+1) y (by simpa using hy));show aB F w (match Nat.beq i p with | true=>x | false=>t i) _;cases hb:Nat.beq i p with
  |true=>
   obtain rfl:=j5 hb;have hi:i<tm.size:=sL tF hs;simpa [Array.getD,hi]using hx 0 x rfl
  |false=>
   have aS:p≠i:=fun e=>by subst e;rw[y4]at hb;cases hb
   have:=ht i;rw[iy]at this ⊢;rw[Ld aS];exact this
def I6(P:Program)(B n l:Nat)(c:Code)(R:Tm→Hp→(Ex→Tm→Hp→Prop)→Prop):Prop:=
 ∀(t:Tm) (σ:Hp) (K:Ex→Tm→Hp→Prop) (F:Nat→Prop) (w:World) (a:Act) (Q:Exit→Act→World→Prop),R t σ K→dx B n F w t σ a→
  (∀e t' σ' F' w' a',bH F w F' w'→dx B n F' w' t' σ' a'→K e t' σ'→Q e.up a' w')→c.wpIn (FW (some l)) 0 P Q a w
theorem Y3{B n l D:Nat}{fn:FuncId}{tm:Array Value}{ps:Array Tmp}{gG body:Code}{t:Tm}{rA rB:Tm→Hp→(Ex→Tm→Hp→Prop)→Prop}(hB:B≤l)(hn:n≤tm.size)(yP:ps.toList.all (fun p=>Nat.blt p n)=true)
  (hA:I6 P B n l gG rA) (hb:I6 P B n l body rB) {xs:List AV} {kE:Hp} {R1:Ex→Hp→Prop} (Pj:xs.length=ps.size)
  (h:rA (Ct ps.toList xs t) kE fun e t' σ'=>match e with | .normal=>rB t' σ' (fun e _ kT=>R1 e kT) | _=>False) :
  I5 P l xs ((l,[.nm (kz fn tm ps gG body D .ready none) t])::kE) (Ol l (.nm (kz fn tm ps gG body D .ready none) t) (fun e=>.nm (kz fn tm ps gG body D .done (some (BS e))) t) R1):=by
 intro F w vs bP aG;obtain⟨KB,hl,pC⟩:=(aG.holds _ (b9 ..)).Xi;have cg:=aG.nodup;simp only[pJ,lV]at cg;have CF:l<w.heap.size:=uB hl;have eO:vs.size=ps.size:=bP.1.symm.trans Pj;refine⟨fn,_,gG,body,run_yield hl eO,roundIn_of_wpIn trivial ?_⟩;have O5:bH F w (fun b=>F b∨b=l) w:=⟨rfl,rfl,rfl,aQ _,fun _ h=>.inl h,fun _ _=>rfl,fun _ c _ fz h=>⟨c,fz,h,rfl⟩,aQ _⟩
 have aS:∀p∈kE,p.1≠l:=fun p hp e=>cg.1 (cX.2 ⟨p,hp,e⟩);have Oy:bj (fun b=>F b∨b=l) w kE:=⟨cg.2,fun p hp=>(aG.holds p (cQ _ hp)).mono O5 rfl (fun h=>h.elim (aG.holds p (cQ _ hp)).1 (aS p hp)),fun b h=>h.elim (aG.low b) (fun e=>e▸CF)⟩
 have hz:(ps.zip vs).foldl (fun tmps (t,a)=>tmps.setIfInBounds t a) tm=(ps.toList.zip vs.toList).foldl (fun t p=>t.setIfInBounds p.1 p.2) tm:=by
  rw[← Array.foldl_toList,Array.toList_zip]
 obtain⟨k1,k2⟩:=Wg (n:=n) (F:=fun b=>F b∨b=l) (w:=w) ps.toList xs vs.toList t tm (by rw[Qs];exact bP.1) yP hn (fun i=>(pC i).mono O5) (fun i x hx=>by
  have:=(bP.2 i x hx).mono O5;rw[iy]at this;rw[aZ,C4]
  exact this)
 refine hA _ _ _ _ w { tmps:=(ps.zip vs).foldl (fun tmps (t,a)=>tmps.setIfInBounds t a) tm,defers:=[] } _ h ⟨fun i=>by rw[hz];exact k2 i,Oy,by rw[hz];exact k1,⟨by omega,.nil,fun d hd=>by cases hd⟩⟩ ?_;intro e t1 σ2 F1 w1 a1 st1 s1 h1;cases e with
 |exit i=>exact h1.elim
 |goto i=>exact h1.elim
 |ret=>exact h1.elim
 |normal=>
  have fi:w1.heap[l]?=some (.loop (kz fn tm ps gG body D .ready none)):=(st1.fix l (.inr rfl)).trans hl;have P6:F1 l:=st1.sub l (.inr rfl);have ajl:l<w1.heap.size:=uB fi;refine⟨_,run_beginRound fi rfl,?_⟩;have mT:({ kz fn tm ps gG body D .ready none with state:=LoopState.busy }:Loop)=kz fn tm ps gG body D .busy none:=rfl;rw[mT];have nc1:NC F1 w1 F1 (w1.putObj l (.loop (kz fn tm ps gG body D .busy none))):=Nv fi fun _ _ h=>h;have ON:(w1.putObj l (.loop (kz fn tm ps gG body D .busy none))).heap[l]?=some (.loop (kz fn tm ps gG body D .busy none)):=World.putObj_heap_same ajl
  refine hb t1 σ2 _ F1 _ a1 _ h1 ⟨fun i=>(s1.tm i).nc nc1,s1.hp.nc nc1 (fun p hp=>⟨World.putObj_heap_other (s1.hp.out P6 p hp),(s1.hp.holds p hp).1⟩) (fun b hb=>by rw[World.putObj_size];exact s1.hp.low b hb),s1.size,⟨by rw[World.putObj_size];exact s1.defers.low,s1.defers.nodup,fun d hd=>by
   obtain⟨D',q1,q2,q3,q4⟩:=s1.defers.is d hd;refine⟨D',q1,q2,q3,(World.putObj_heap_other (fun e=>?_)).trans q4⟩
   subst e;rw[fi]at q4;cases q4⟩⟩ ?_
  intro e t3 eJ F3 w3 a3 qv s3 h3;have hF3:F3 l:=qv.sub l P6;have sB:w3.heap[l]?=some (.loop (kz fn tm ps gG body D .busy none)):=(qv.fix l P6).trans ON;have ajk:l<w3.heap.size:=uB sB
  have fin:∀L':Loop,bH F w (fun b=>F3 b∧b≠l) (w3.putObj l (.loop L'))∧((∀i,L'.tmps.getD i undef=tm.getD i undef)→bj (fun b=>F3 b∧b≠l) (w3.putObj l (.loop L')) ((l,[.nm L' t])::eJ)):=by
   intro L';have nc3:NC F3 w3 (fun b=>F3 b∧b≠l) (w3.putObj l (.loop L')):=Nv sB fun b hb h=>⟨h,hb⟩
   have stw:bH F w (fun b=>F3 b∧b≠l) (w3.putObj l (.loop L')):= {
    os:=qv.os.trans st1.os
    tape:=qv.tape.trans st1.tape
    output:=qv.output.trans st1.output
    size:=by
     have q1:=st1.size;have q3:=qv.size;rw[World.putObj_size]at q3 ⊢;omega
    sub:=fun b hF=>⟨qv.sub b (st1.sub b (.inl hF)),fun e=>KB (e▸hF)⟩
    fix:=fun b hF=>by
     have pF:b≠l:=fun e=>KB (e▸hF);rw[World.putObj_heap_other pF,qv.fix b (st1.sub b (.inl hF)),World.putObj_heap_other pF,st1.fix b (.inl hF)]
    rows:=fun b c T fz hc=>by
     obtain⟨c1,fz1,q1,q2⟩:=st1.rows b c T fz hc;obtain⟨c3,Li,q3,q4⟩:=qv.rows b c1 T fz1 (Ml fi b c1 T fz1 q1);exact⟨c3,Li,Ml sB b c3 T Li q3,q4.trans q2⟩
    drawn:=ff st1.drawn qv.drawn }
   refine⟨stw,fun aj5=>⟨?_,fun p hp=>?_,fun b hb=>?_⟩⟩
   ·simp only[pJ,lV];exact⟨fun hm=>by obtain⟨p,hp,e⟩:=cX.1 hm;exact s3.hp.out hF3 p hp e,s3.hp.nodup⟩
   ·rcases dm.1 hp with rfl | hp
    ·exact⟨fun h=>h.2 rfl,.inr (.inr ⟨L',t,rfl,World.putObj_heap_same ajk,fun i=>by rw[aj5];exact (pC i).mono stw⟩)⟩
    ·exact (s3.hp.holds p hp).nc nc3 (World.putObj_heap_other (s3.hp.out hF3 p hp)) (fun h=>(s3.hp.holds p hp).1 h.1)
   ·rw[World.putObj_size];exact s3.hp.low b hb.1
  have N2:∀e:Ex,e≠.normal→R1 e eJ→∃v w',(Instr.endRound l (some (BS e))).run P w3=.ok v w'∧∃r v' σ' F',Ending.returned v=.returned v'∧bH F w F' w'∧bj F' w' σ'∧aB F' w' r v'∧Ol l (.nm (kz fn tm ps gG body D .ready none) t) (fun e=>.nm (kz fn tm ps gG body D .done (some (BS e))) t) R1 r σ':=fun e he hr=>by
   obtain⟨q1,q2⟩:=fin (kz fn tm ps gG body D .done (some (BS e)));exact⟨_,_,run_endRound _ sB,.bool false,_,_,_,rfl,q1,q2 (fun _=>rfl),.bool _,.inr ⟨rfl,e,eJ,he,rfl,hr⟩⟩
  cases e with
  |normal=>
   obtain⟨q1,q2⟩:=fin (kz fn tm ps gG body D .ready none);exact⟨_,_,run_endRound none sB,.bool true,_,_,_,rfl,q1,q2 (fun _=>rfl),.bool _,.inl ⟨rfl,eJ,rfl,h3⟩⟩
  |exit i=>exact N2 (.exit i) (by simp) h3
  |goto i=>exact N2 (.goto i) (by simp) h3
  |ret=>exact N2 .ret (by simp) h3
theorem Y7{B n:Nat}{g:Operand}{ps:Array Tmp}{gG body:Code}{t:Tm}{gf:FuncId}{cap:List AV}{rA rB:Tm→Hp→(Ex→Tm→Hp→Prop)→Prop}(hg:ev t g=.fn (.func gf) [] cap)(yP:ps.toList.all (fun p=>Nat.blt p n)=true)
  (hA:∀l,I6 P B n l gG rA) (hb:∀l,I6 P B n l body rB) {K:Ex→Hp→Prop} {σ:Hp}
  (h:BL P gf cap ps.size (fun xs kE R1=>rA (Ct ps.toList xs t) kE fun e t' σ'=>match e with | .normal=>rB t' σ' (fun e _ kT=>R1 e kT) | _=>False) K σ):∀{F:Nat→Prop} {w:World} {a:Act} {Q:Exit→Act→World→Prop},dx B n F w t σ a→
  (∀e σ' F' w' a',bH F w F' w'→dx B n F' w' t σ' a'→K e σ'→Q e.up a' w')→(Code.rangeFunc g ps gG body).wpIn (FW none) 0 P Q a w:=by
 induction h with
 |eb h1 h ih=>exact fun hs hq=>ih (hs.eb h1) hq
 | @mk σ go=>
  intro F w a Q hs hq;have Gf:=hs.tm.eval g;rw[hg]at Gf;cases hv:a.eval g with
  |func f' v1 lb=>
   rw[hv]at Gf;obtain⟨rfl,rfl,JH⟩:f'=.func gf∧v1 = #[]∧jC F w cap lb:=by cases Gf with | fn _ _ _ _ _ fD gQ h1 h2=>exact⟨rfl,GN.1 fD.symm,gQ,h2⟩
   refine wpIn_rangeFunc ?_;intro fn _;have e1:=run_enterLoop_outer (P:=P) (w:=w) fn a.tmps ps gG body;obtain⟨l,hle⟩:∃l,l=w.heap.size+1:=⟨_,rfl⟩
   obtain⟨D,hD⟩:∃D,D=w.heap.size:=⟨_,rfl⟩
   obtain⟨W1,tM⟩:∃W1,W1=(w.alloc (.deferred (some []))).alloc (.loop (kz fn a.tmps ps gG body D .ready none)):=⟨_,rfl⟩
   have hlW:W1.heap[l]?=some (.loop (kz fn a.tmps ps gG body D .ready none)):=by
    rw[tM,hle];have:=World.alloc_heap_new (w.alloc (.deferred (some []))) (.loop (kz fn a.tmps ps gG body D .ready none));rwa [World.size_alloc]at this
   have hDW:W1.heap[D]?=some (.deferred (some [])):=by
    rw[tM,hD];exact (Below.heap_alloc _ _ _ (by simp)).trans (World.alloc_heap_new w _)
   have hold:∀b,b<w.heap.size→W1.heap[b]?=w.heap[b]?:=fun b hb=>by
    rw[tM];exact (Below.heap_alloc _ _ b (by simp;omega)).trans (Below.heap_alloc _ _ b hb)
   have eO:W1.heap.size=w.heap.size+2:=by rw[tM];simp
   have st1:bH F w (fun b=>F b∨b=D) W1:=⟨by rw[tM];rfl,by rw[tM];rfl,by rw[tM];rfl,by omega,fun _ h=>.inl h,fun b hb=>hold b (hs.hp.low b hb),fun b c _ fz hc=>⟨c,fz,(hold b (uB hc)).trans hc,rfl⟩,by rw[tM];exact aQ _⟩
   obtain⟨po,ie⟩:=go l (.nm (kz fn a.tmps ps gG body D .ready none) t) (fun e=>.nm (kz fn a.tmps ps gG body D .done (some (BS e))) t) (fun xs kE R1 Pj AE=>Y3 (by have:=hs.defers.low;omega) hs.size yP (hA l) (hb l) Pj AE)
   have Oy:bj (fun b=>F b∨b=D) W1 ((l,[.nm (kz fn a.tmps ps gG body D .ready none) t])::σ):=by
    refine⟨?_,fun p hp=>?_,fun b hb=>?_⟩
    ·simp only[pJ,lV];refine⟨fun hm=>?_,hs.hp.nodup⟩;obtain⟨p,hp,e⟩:=cX.1 hm;have:=(hs.hp.holds p hp).lt;omega
    ·rcases dm.1 hp with rfl | hp
     ·exact⟨fun h=>h.elim (fun h=>by have:l<w.heap.size:=hs.hp.low l h;omega) (fun h=>by have:l=D:=h;omega),.inr (.inr ⟨_,t,rfl,hlW,fun i=>(hs.tm i).mono st1⟩)⟩
     ·have ab:=(hs.hp.holds p hp).lt;exact (hs.hp.holds p hp).mono st1 (hold _ ab) (fun h=>h.elim (hs.hp.holds p hp).1 (fun e=>by omega))
    ·rcases hb with hb | hb
     ·have:=hs.hp.low b hb;omega
     ·omega
   have bP:jC (fun b=>F b∨b=D) W1 (.fn (.yield l) [] []::cap) (#[.func (.yield l) #[] #[]]++lb):=
    show jC _ _ ([.fn (.yield l) [] []]++cap) _ from G1 (Sq (.fn _ _ _ _ _ rfl rfl (fun i x h=>by simp at h) (fun i x h=>by simp at h))) (JH.mono st1)
   have kJ:∀d∈a.defers,d≠{ target:=.collected D,args:= #[] }:=fun d hd e=>by
    obtain⟨D',q1,_,_,q4⟩:=hs.defers.is d hd;rw[q1]at e;cases e;have:=uB q4;omega
   refine⟨l,[{ target:=.collected D,args:= #[] }],W1,{ target:=.fn (.func gf) lb,args:= #[.func (.yield l) #[] #[]] },W1,gf,#[.func (.yield l) #[] #[]]++lb,W1,?_,?_,fun _ _=>trivial,?_,fun hd=>(by cases hd),?_⟩
   ·rw[tM,hle,hD];exact e1
   ·simp only[resolve,hv];simp[go_sem]
   ·have:=po (#[.func (.yield l) #[] #[]]++lb) W1;simpa [invoke]using this
   ·refine callsIn_wide.2 ((ie _ W1 _ bP Oy).mono ?_);rintro e w3 ⟨rv,v,σ',F',rfl,qv,Fj,_,hR⟩;have Ot:=st1.trans qv
    have fin:∀(L':Loop) (σ2:Hp),σ'=(l,[.nm L' t])::σ2→L'.state≠.busy→∃w4,(Instr.endLoop l).run P w3=.ok L'.pending w4∧bH F w F' w4∧dx B n F' w4 t σ2 { a with defers:=[{ target:=.collected D,args:= #[] }]++a.defers }:=by
     intro L' σ2 e aq;subst e;obtain⟨KB,sB,_⟩:=(Fj.holds _ (b9 ..)).Xi;have cg:=Fj.nodup;simp only[pJ,lV]at cg;have aS:∀p∈σ2,p.1≠l:=fun p hp e=>cg.1 (cX.2 ⟨p,hp,e⟩);have nc:NC F' w3 F' (w3.putObj l (.loop { L' with state:=.exhausted })):=Nv sB fun _ _ h=>h;have hDF:F' D:=qv.sub D (.inr rfl);have O4:bH F' w3 F' (w3.putObj l (.loop { L' with state:=.exhausted })):=⟨rfl,rfl,rfl,by rw[World.putObj_size];exact aQ _,fun _ h=>h,fun b hb=>World.putObj_heap_other (fun e=>KB (e▸hb)),fun b c T fz hc=>⟨c,fz,Ml sB b c T fz hc,rfl⟩,aQ _⟩
     refine⟨_,run_endLoop sB aq,Ot.trans O4,fun i=>((hs.tm i).mono Ot).nc nc,?_,hs.size,?_⟩
     ·exact⟨cg.2,fun p hp=>(Fj.holds p (cQ _ hp)).nc nc (World.putObj_heap_other (aS p hp)) (Fj.holds p (cQ _ hp)).1,fun b hb=>by rw[World.putObj_size];exact Fj.low b hb⟩
     ·have hm:=hs.defers.mono (Ot.trans O4);refine⟨hm.low,?_,fun d hd=>?_⟩
      ·simp only[CW,vD,lV];exact⟨fun h=>kJ _ h rfl,hm.nodup⟩
      ·rcases dm.1 hd with rfl | hd
       ·exact⟨D,rfl,by have:=hs.defers.low;omega,hDF,(O4.fix D hDF).trans ((qv.fix D (.inr rfl)).trans hDW)⟩
       ·exact hm.is d hd
    rcases hR with ⟨σ2,e,hk⟩ | ⟨ex,σ2,aS,e,hk⟩
    ·obtain⟨w4,k1,k2,k3⟩:=fin _ σ2 e (by simp[kz]);exact⟨none,w4,k1,hq .normal σ2 F' w4 _ k2 k3 hk⟩
    ·obtain⟨w4,k1,k2,k3⟩:=fin _ σ2 e (by simp[kz]);refine⟨some (BS ex),w4,k1,?_⟩;have Ps:=hq ex σ2 F' w4 _ k2 k3 hk;cases ex with
     |normal=>exact absurd rfl aS
     |exit i=>exact wpIn_exit Ps
     |goto i=>exact wpIn_goto Ps
     |ret=>exact wpIn_ret Ps
  |_=>rw[hv]at Gf;cases Gf
theorem Zt(ok:dM P TT)(hm:P.follows .mixedOrders=true){B n:Nat}:∀(fuel:Nat) (c:Code) (t:Tm) (σ:Hp) (K:Ex→Tm→Hp→Prop) (F:Nat→Prop) (w:World) (a:Act) (Q:Exit→Act→World→Prop) (r:Option Nat),codeOk n r.isSome c=true→nq P TT fuel c t σ K→dx B n F w t σ a→
  (∀e t' σ' F' w' a',bH F w F' w'→dx B n F' w' t' σ' a'→K e t' σ'→Q e.up a' w')→c.wpIn (FW r) 0 P Q a w:=by
 intro fuel
 induction fuel with
 |zero=>intro c t σ K F w a Q r _ h;exact h.elim
 |succ fuel ih=>
  intro c t σ K F w a Q r hc h hs hq;cases c with
  |skip=>exact wpIn_skip (hq .normal t σ F w a (.refl _ _) hs h)
  |label l=>exact wpIn_label (hq .normal t σ F w a (.refl _ _) hs h)
  |exit id=>exact wpIn_exit (hq (.exit id) t σ F w a (.refl _ _) hs h)
  |goto l=>exact wpIn_goto (hq (.goto l) t σ F w a (.refl _ _) hs h)
  |ret=>exact wpIn_ret (hq .ret t σ F w a (.refl _ _) hs h)
  |region id ops draw=>
   have hd:=ahk (n:=n) (ops:=ops.toList) hc;have cg:=ai8 (n:=n) (ops:=ops.toList) hc;cases draw with
   |false=>exact Y4 cg (LG ok ops.toList t σ _ F w a hd h hs (fun t' σ' F' w' a' h1 h2 h3=>hq .normal t' σ' F' w' a' h1 h2 h3))
   |true=>
    have h:gZ P TT ops.toList (K .normal) t σ:=h;exact aaa ok hm hd cg h hs (fun t' σ' F' w' a' h1 h2 h3=>hq .normal t' σ' F' w' a' h1 h2 h3)
  |seq x y=>
   simp only[codeOk,bS]at hc;refine wpIn_seq (ih x t σ _ F w a _ r hc.1 h hs ?_);intro e t' σ' F' w' a' h1 h2 h3;cases e with
   |normal=>exact ih y t' σ' K F' w' a' Q r hc.2 h3 h2 (fun e An kT oQ mO QJ k1 k2 k3=>hq e An kT oQ mO QJ (h1.trans k1) k2 k3)
   |exit id=>exact hq (.exit id) t' σ' F' w' a' h1 h2 h3
   |goto l=>exact hq (.goto l) t' σ' F' w' a' h1 h2 h3
   |ret=>exact hq .ret t' σ' F' w' a' h1 h2 h3
  |cond x y z=>
   simp only[codeOk,bS]at hc;have h:(match ev t x with | .bool b=>(match b with | true=>nq P TT fuel y t σ K | false=>nq P TT fuel z t σ K) | _=>False):=h;have hx:=hs.tm.eval x;split at h
   ·rename_i b hb
    rw[hb]at hx;refine wpIn_cond (t:=b) hx.sd ?_;cases b with
    |true=>exact ih y t σ K F w a Q r hc.1 h hs hq
    |false=>exact ih z t σ K F w a Q r hc.2 h hs hq
   ·exact h.elim
  |block id c=>
   refine wpIn_block (ih c t σ _ F w a _ r hc h hs ?_);intro e t' σ' F' w' a' h1 h2 h3;cases e with
   |normal=>exact hq .normal t' σ' F' w' a' h1 h2 h3
   |exit i=>
    show (if i=id then Q .normal a' w' else Q (.exit i) a' w');have h3:(match Nat.beq i id with | true=>K .normal t' σ' | false=>K (.exit i) t' σ'):=h3;cases hb:Nat.beq i id with
    |true=>rw[hb]at h3;rw[af (j5 hb)];exact hq .normal t' σ' F' w' a' h1 h2 h3
    |false=>
     rw[hb]at h3;rw[ag (fun e=>by subst e;rw[y4]at hb;cases hb)];exact hq (.exit i) t' σ' F' w' a' h1 h2 h3
   |goto l=>exact hq (.goto l) t' σ' F' w' a' h1 h2 h3
   |ret=>exact hq .ret t' σ' F' w' a' h1 h2 h3
  |loop c=>
   have h:nr (fun t σ Q=>nq P TT fuel c t σ Q) K t σ:=h;exact Z0 (fun t σ K F w a Q h hs hq=>ih c t σ K F w a Q r hc h hs hq) h hs hq
  |scope c=>
   simp only[codeOk,bS,jO]at hc;obtain⟨hr,hc⟩:=hc;obtain rfl:r=none:=by cases r with | none=>rfl | some l=>cases hr
   refine wpIn_wide.2 (YF (wpIn_wide.1 (ih c t σ _ F w a _ none hc h hs ?_)));intro e t' σ' F' w' a' h1 h2 h3;cases e with
   |normal=>exact .normal (hq .normal t' σ' F' w' a' h1 h2 h3)
   |exit i=>exact .exit (hq (.exit i) t' σ' F' w' a' h1 h2 h3)
   |ret=>exact .ret (hq .ret t' σ' F' w' a' h1 h2 h3)
   |goto l=>
    have h3:sg (fun l t σ Q=>match findLabel c l with | some r=>nq P TT fuel r t σ Q | none=>False) l K t' σ':=h3
    exact Z9 (fun l t σ K F w a Q h hs hq=>by
     have h:(match findLabel c l with | some r=>nq P TT fuel r t σ K | none=>False):=h;split at h
     ·rename_i r hr
      exact⟨r,hr,wpIn_wide.1 (ih r t σ K F w a Q none (adq c l r hr hc) h hs hq)⟩
     ·exact h.elim) h3 h2 (fun e An kT oQ mO QJ k1 k2 k3 k4=>hq e An kT oQ mO QJ (h1.trans k1) k2 k3)
  |rangeFunc g ps gG body=>
   simp only[codeOk,bS,jO]at hc;obtain⟨⟨⟨hr,yP⟩,iY⟩,nH⟩:=hc;obtain rfl:r=none:=by cases r with | none=>rfl | some l=>cases hr
   have h:(match ev t g with | .fn (.func gf) [] cap=>BL P gf cap ps.size (fun xs kE R1=>nq P TT fuel gG (Ct ps.toList xs t) kE fun e t' σ'=>match e with | .normal=>nq P TT fuel body t' σ' (fun e _ kT=>R1 e kT) | _=>False) (fun e σ'=>K e t σ') σ | _=>False):=h;split at h
   ·rename_i gf cap hg
    exact Y7 hg yP (fun l t σ K F w a Q h hs hq=>ih gG t σ K F w a Q (some l) iY h hs hq) (fun l t σ K F w a Q h hs hq=>ih body t σ K F w a Q (some l) nH h hs hq) h hs (fun e σ' F' w' a' k1 k2 k3=>hq e t σ' F' w' a' k1 k2 k3)
   ·exact h.elim
  |refuse=>exact h.elim
inductive Fin(R:AV→Hp→Prop):AV→Hp→Prop where
 |done {r:AV} {σ:Hp} (h:R r σ):Fin R r σ
 |pull {r:AV} {σ:Hp} (js:List Nat) (h:Fin R r (oX js σ)):Fin R r σ
 |drop {r:AV} {σ:Hp} (k n:Nat) (h:Fin R r (σ.take k++σ.drop (k+n))):Fin R r σ
 |perm {r:AV} {σ σ2:Hp} (hp:σ2.Perm σ) (h:Fin R r σ2):Fin R r σ
 |cN {r r':AV} {σ:Hp} (j b off len es:Nat) (cs:List AV) (e:Sh) (l:List e.T) (h1:σ[j]?=some (b,cs)) (h2:(cs.drop off).take (len*es)=l.flatMap e.cells) (h3:l.length=len∧e.size=es∧0<es) (h4:fm b off len es e l r r') (h:Fin R r' (σ.eraseIdx j)):Fin R r σ
 |nil {r r':AV} {σ:Hp} (h4:fm 0 0 0 0 .bool [] r r') (h:Fin R r' σ):Fin R r σ
 |eb {r:AV} {σ σ2:Hp} (h1:jI σ σ2) (h:Fin R r σ2):Fin R r σ
 |kV {r:AV} {σ:Hp} (j b off len es:Nat) (cs:List AV) (e:Sh) (l:List e.T) (h1:σ[j]?=some (b,cs)) (h2:(cs.drop off).take (len*es)=l.flatMap e.cells) (h3:l.length=len∧e.size=es∧0<es) (i k b':Nat) (cs':List AV) (hi:(σ.eraseIdx j)[i]?=some (b',cs')) (hk:cs'[k]?=some (.ae b off len es)) (h:Fin R r ((σ.eraseIdx j).set i (b',cs'.set k (.ah e l)))):Fin R r σ
theorem Tg{R:AV→Hp→Prop}{r:AV}{σ:Hp}(h:Fin R r σ):∀(F:Nat→Prop) (w:World) (v:Value),bj F w σ→aB F w r v→∃r' σ' F',bH F w F' w∧bj F' w σ'∧aB F' w r' v∧R r' σ':=by
 induction h with
 |done h=>exact fun F w v aG hv=>⟨_,_,F,.refl _ _,aG,hv,h⟩
 |pull js h ih=>exact fun F w v aG hv=>ih F w v (aG.perm (zl js _)) hv
 |perm hp h ih=>exact fun F w v aG hv=>ih F w v (aG.perm hp) hv
 | @drop r σ k n h ih=>
  intro F w v aG hv;refine ih F w v (aG.sub ?_) hv
  have h1:(σ.drop (k+n)).Sublist (σ.drop k):=by
   rw[← CT];exact List.drop_sublist _ _
  have h2:=(List.Sublist.refl (σ.take k)).append h1
  rwa [y7]at h2
 | @cN r r' σ j b off len es cs e l h1 h2 h3 h4 h ih=>
  intro F w v aG hv;obtain⟨aq,re,hh⟩:=yh aG h1 h2 h3;obtain⟨O6,kT,oQ,k1,k2,k3,k4⟩:=ih _ w v re (A3 aq hh h4 v hv);exact⟨O6,kT,oQ,aq.trans k1,k2,k3,k4⟩
 |eb h1 h ih=>exact fun F w v aG hv=>ih F w v (aG.eb h1) hv
 |kV j b off len es cs e l h1 h2 h3 i k b' cs' hi hk h ih=>
  intro F w v aG hv;obtain⟨aq,re,hh⟩:=yh aG h1 h2 h3;obtain⟨O6,kT,oQ,k1,k2,k3,k4⟩:=ih _ w v (H0 re hh hi hk) (hv.mono aq);exact⟨O6,kT,oQ,aq.trans k1,k2,k3,k4⟩
 |nil h4 h ih=>
  intro F w v aG hv;refine ih F w v aG (A3 (.refl _ _) (fun v hv=>?_) h4 v hv);obtain⟨a,cap,rfl,c,T,fz,m1,m2,m3,m4⟩:=hv.kR;exact .ah _ _ _ ⟨some a,cap,rfl,m2,m3,(fun e=>by cases e),fun aS=>absurd rfl aS⟩
def t0(xs:List AV):Tm:=fun i=>match xs[i]? with | some x=>x | none=>.any
def Jx:List AV→AV
 | [v]=>v
 |vs=>.tup vs
def E7(TT:TypeId→Option TI)(l:List ResultVar):Tm→Hp→(List AV→Prop)→Prop:=
 List.rec (motive:=fun _=>Tm→Hp→(List AV→Prop)→Prop) (fun _ _ K=>K [])
  (fun x _ ih t σ K=>match x with
   |.tmp d=>strict (t d) fun v=>ih t σ fun vs=>K (bR v::vs)
   |.cell d ty=>match TT ty with | some i=>qX i (t d) σ fun v=>ih t σ fun vs=>K (v::vs) | none=>False) l
def wI(TT:TypeId→Option TI)(rs:List ResultVar)(R:AV→Hp→Prop)(e:Ex)(t:Tm)(σ:Hp):Prop:=
 match e with
 |.normal | .ret=>E7 TT rs t σ fun vs=>Fin R (Jx vs) σ
 |_=>False
def wJ(P:Program)(TT:TypeId→Option TI)(fn:Func)(xs:List AV)(σ:Hp)(R:AV→Hp→Prop):Prop:=
 match fn.body with
 |some c=>nq P TT 1000 c (t0 xs) σ (wI TT fn.results.toList R)
 |none=>False
def funcOk (fn : Func) : Bool := (match fn.body with | some c => codeOk fn.ntmps false c | none => false) && !(fn.name == "runtime.NumGoroutine")
theorem enters_of{f:FuncId}{fn:Func}(hf:P.funcs[f]?=some fn)(h:funcOk fn=true):Enters P f:=by
 unfold funcOk at h;simp only[bS,jO]at h;obtain⟨h1,h2⟩:=h
 have hb:fn.body.isNone=false:=by
  cases hb:fn.body with
  |none=>rw[hb]at h1;cases h1
  |some c=>rfl
 intro args w;unfold callFunc;simp only[Sem.run_bind,run_program,Result.andThen_ok,hf,h2,hb];rfl
theorem Zd(ok:dM P TT){ty:TypeId}{i:TI}(hi:TT ty=some i){x:AV}{σ:Hp}{K:AV→Prop}(h:qX i x σ K):∃v,K v∧∀(F:Nat→Prop) (w:World) (u:Value),aB F w x u→bj F w σ→∃v',(do loadVar ty (← asAddr u):Sem Value).run P w=.ok v' w∧aB F w v v':=by
 unfold qX at h;split at h
 ·split at h
  ·rename_i v hv
   refine⟨v,h,fun F w u hu aG =>?_⟩;obtain⟨b,o',rfl,hF,ck⟩:=hu.zF;obtain⟨v',h1,h2⟩:=Hd ok hi ck hv;rw[vA]at h1;exact⟨v',by simp[asAddr,h1],h2⟩
  ·exact h.elim
 ·obtain⟨j,cs,v,h1,h2,go⟩:=h;refine⟨v,go,fun F w u hu aG =>?_⟩;have PI:=hu.Bg;obtain rfl:=hu.z6;obtain⟨v',h3,h4⟩:=Hd ok hi (aG.at_ h1 PI) h2;rw[dI]at h3;exact⟨v',by simp[asAddr,h3],h4⟩
 ·exact h.elim
def IJ(tmps:Array Value):ResultVar→Sem Value
 |.tmp t=>pure (tmps.getD t undef)
 |.cell d t=>do loadVar t (← asAddr (tmps.getD d undef))
theorem aeX{F:Nat→Prop}{w:World}:∀(vs:List AV) (us:List Value),vs.length=us.length→(∀(i:Nat) (x:AV),vs[i]?=some x→aB F w x (us.getD i undef))→aB F w (Jx vs) (if h:us.toArray.size=1 then us.toArray[0] else .tuple us.toArray)
 | [v],[u],_,h=>by simpa [Jx]using h 0 v rfl
 | [],[],_,_=>.tup _ _ rfl (fun i x h=>by simp at h)
 |v::v2::vs,u::u2::us,hl,h=>by
  rw[dif_neg (by simp)];refine .tup _ _ (by simpa using hl) (fun i x hx=>?_);have:=h i x hx;rw[aZ]at this;rw[iy,AO];exact this
 | [],_::_,hl,_=>by simp at hl
 |_::_,[],hl,_=>by simp at hl
 | [_],_::_::_,hl,_=>by simp at hl
 |_::_::_,[_],hl,_=>by simp at hl
theorem LB(ok:dM P TT):∀(rs:List ResultVar) (t:Tm) (σ:Hp) (K:List AV→Prop),E7 TT rs t σ K→∀(F:Nat→Prop) (w:World) (a:Act),uU F w t a→bj F w σ→
  ∃vs us,K vs∧(rs.mapM (IJ a.tmps)).run P w=.ok us w∧vs.length=us.length∧∀(i:Nat) (x:AV),vs[i]?=some x→aB F w x (us.getD i undef)
 | [],t,σ,K,h,F,w,a,_,_=>⟨[],[],h,rfl,rfl,fun i x h=>by simp at h⟩
 |.tmp d::rs,t,σ,K,h,F,w,a,ht,aG=>by
  have h:strict (t d) fun v=>E7 TT rs t σ fun vs=>K (bR v::vs):=h;rw[zp]at h;obtain⟨vs,us,h1,h2,h3,h4⟩:=LB ok rs t σ _ h F w a ht aG;refine⟨_,a.tmps.getD d undef::us,h1,?_,by simp[h3],fun i x hi=>?_⟩
  ·rw[List.mapM_cons];simp only[IJ,Sem.run_bind,Sem.run_pure,Result.andThen_ok,h2]
  ·cases i with
   |zero=>simp at hi;subst hi;exact (ht d).bR
   |succ i=>simpa using h4 i x (by simpa using hi)
 |.cell d ty::rs,t,σ,K,h,F,w,a,ht,aG=>by
  have h:(match TT ty with | some i=>qX i (t d) σ fun v=>E7 TT rs t σ fun vs=>K (v::vs) | none=>False):=h;split at h
  ·rename_i i hi
   obtain⟨v,h,hv⟩:=Zd ok hi h;obtain⟨v',k1,k2⟩:=hv F w _ (ht d) aG;obtain⟨vs,us,h1,h2,h3,h4⟩:=LB ok rs t σ _ h F w a ht aG;refine⟨_,v'::us,h1,?_,by simp[h3],fun i x hi=>?_⟩
   ·have k1':(IJ a.tmps (.cell d ty)).run P w=.ok v' w:=k1;rw[List.mapM_cons];simp only[Sem.run_bind,k1',Sem.run_pure,Result.andThen_ok,h2]
   ·cases i with
    |zero=>simp at hi;subst hi;exact k2
    |succ i=>simpa using h4 i x (by simpa using hi)
  ·exact h.elim
def shut(w:World)(ds:List Deferred):World:=ds.foldl (fun w d=>match d.target with | .collected D=>w.putObj D (.deferred none) | _=>w) w
def BE(D:Nat)(ds:List Deferred):Prop:=({ target:=.collected D,args:= #[] }:Deferred)∈ds
theorem ZN{ds:List Deferred}:∀{w:World},(∀d∈ds,∃D,d = { target:=.collected D,args:= #[] })→∀b,¬BE b ds→(shut w ds).heap[b]?=w.heap[b]?:=by
 induction ds with
 |nil=>exact fun _ _ _=>rfl
 |cons d ds ih=>
  intro w hd b hb;obtain⟨D,rfl⟩:=hd d (b9 ..);have hbD:b≠D:=fun e=>hb (by subst e;exact b9 ..);exact (ih (w:=w.putObj D (.deferred none)) (fun d h=>hd d (cQ _ h)) b (fun h=>hb (cQ _ h))).trans (World.putObj_heap_other hbD)
theorem aaH{ds:List Deferred}:∀{w:World},(shut w ds).os=w.os∧(shut w ds).tape=w.tape∧(shut w ds).output=w.output∧(shut w ds).heap.size=w.heap.size∧(shut w ds).drawn=w.drawn:=by
 induction ds with
 |nil=>exact fun {w}=>⟨rfl,rfl,rfl,rfl,rfl⟩
 |cons d ds ih=>
  intro w;obtain⟨t,gG⟩:=d;cases t with
  |collected D=>
   obtain⟨h1,h2,h3,h4,h5⟩:=ih (w:=w.putObj D (.deferred none));exact⟨h1,h2,h3,h4.trans World.putObj_size,h5⟩
  |_=>exact ih
theorem Q2{fn:Func}{tm:Array Value}{R:Ending→World→Prop}:∀(ds:List Deferred) (w:World),ds.Nodup→(∀d∈ds,∃D,d = { target:=.collected D,args:= #[] }∧w.heap[D]?=some (.deferred (some [])))→
  (∃v,(results fn tm).run P (shut w ds)=.ok v (shut w ds)∧R (.returned v) (shut w ds))→LeavesInM Fence.wide 0 P fn tm R ds .returning w
 | [],_,_,_,h=>h
 |d::ds,w,cg,hd,h=>by
  obtain⟨D,rfl,hw⟩:=hd d (b9 ..);obtain⟨pD,mq⟩:=lV.1 cg;refine⟨by simp,.inl ⟨D,_,rfl,run_takeDeferred hw,Q2 ds _ mq (fun d hm=>?_) h⟩⟩;obtain⟨D',rfl,hw'⟩:=hd d (cQ _ hm);exact⟨D',rfl,(World.putObj_heap_other (fun e=>pD (by subst e;exact hm))).trans hw'⟩
theorem abY(ok:dM P TT)(hm:P.follows .mixedOrders=true){f:FuncId}{fn:Func}{xs:List AV}{σ:Hp}{R:AV→Hp→Prop}(hf:P.funcs[f]?=some fn)(bM:funcOk fn=true)(h:wJ P TT fn xs σ R):ACalls P f xs σ R:=by
 refine⟨enters_of hf bM,fun F w vs bP aG =>?_⟩;unfold funcOk at bM;simp only[bS]at bM;unfold wJ at h;cases hb:fn.body with
 |none=>rw[hb]at h;exact h.elim
 |some c=>
  rw[hb]at h;have hc:codeOk fn.ntmps false c=true:=by have:=bM.1;rw[hb]at this;exact this
  refine callsIn_wide.1 (callsIn_of_wp_marks (n:=0) hf hb trivial (Zt (B:=w.heap.size) ok hm 1000 c (t0 xs) σ _ F w _ _ none hc h ⟨fun i=>?_,aG,by simp;omega,⟨Nat.le_refl _,.nil,fun d hd=>by cases hd⟩⟩ ?_))
  ·show aB F w (match xs[i]? with | some x=>x | none=>.any) ((vs++Array.replicate (fn.ntmps-vs.size) undef).getD i undef);cases hi:xs[i]? with
   |none=>exact .any _
   |some x=>
    have ab:i<vs.size:=by rw[← bP.1];exact (bZ.1 hi).1
    have:=bP.2 i x hi;rw[iy]at this ⊢;rw[Lg ab];exact this
  ·intro e t' σ' F' w' a' h1 h2 h3
   have fin:E7 TT fn.results.toList t' σ' (fun vs=>Fin R (Jx vs) σ')→LeavesInM Fence.wide 0 P fn a'.tmps (fun e w'=>∃r v σ' F',e=.returned v∧bH F w F' w'∧bj F' w' σ'∧aB F' w' r v∧R r σ') a'.defers .returning w':=by
    intro h3;have hmk:∀d∈a'.defers,∃D,d = { target:=.collected D,args:= #[] }:=fun d hd=>(h2.defers.is d hd).imp fun _ h=>h.1;refine Q2 a'.defers w' h2.defers.nodup (fun d hd=>(h2.defers.is d hd).imp fun _ h=>⟨h.1,h.2.2.2⟩) ?_
    have hD:∀b,BE b a'.defers→w.heap.size≤b∧F' b∧w'.heap[b]?=some (.deferred (some [])):=fun b hb=>by
     obtain⟨D,q1,q2,q3,q4⟩:=h2.defers.is _ hb;cases q1;exact⟨q2,q3,q4⟩
    have Fl:=ZN (w:=w') hmk;obtain⟨z1,z2,z3,z4,z5⟩:=aaH (w:=w') (ds:=a'.defers);obtain⟨w2,vd⟩:∃w2,w2=shut w' a'.defers:=⟨_,rfl⟩
    rw[← vd]at Fl z1 z2 z3 z4 z5 ⊢
    have l7:∀b,oW w' b→¬BE b a'.defers:=fun b ⟨c,T,fz,hc⟩ hb=>by
     rw[(hD b hb).2.2]at hc;cases hc
    have nc:NC F' w' (fun b=>F' b∧¬BE b a'.defers) w2:=⟨fun b hb=>⟨hb.1,l7 b hb.2⟩,fun b hb=>Fl b (l7 b hb)⟩
    have st2:bH F w (fun b=>F' b∧¬BE b a'.defers) w2:= {
     os:=z1.trans h1.os
     tape:=z2.trans h1.tape
     output:=z3.trans h1.output
     size:=by rw[z4];exact h1.size
     sub:=fun b hF=>⟨h1.sub b hF,fun hb=>by have:=(hD b hb).1;have:=aG.low b hF;omega⟩
     fix:=fun b hF=>by
      rw[Fl b (fun hb=>by have:=(hD b hb).1;have:=aG.low b hF;omega)];exact h1.fix b hF
     rows:=fun b c T fz hc=>by
      obtain⟨c',qH,q1,q2⟩:=h1.rows b c T fz hc;exact⟨c',qH,(Fl b (l7 b ⟨c',T,qH,q1⟩)).trans q1,q2⟩
     drawn:=by rw[z5];exact h1.drawn }
    have XQ:bj (fun b=>F' b∧¬BE b a'.defers) w2 σ':=h2.hp.nc nc (fun p hp=>⟨Fl p.1 (fun hb=>(h2.hp.holds p hp).1 (hD p.1 hb).2.1),fun h=>(h2.hp.holds p hp).1 h.1⟩) (fun b hb=>by rw[z4];exact h2.hp.low b hb.1);obtain⟨eW,us,k1,k2,k3,k4⟩:=LB ok _ _ _ _ h3 _ w2 a' (fun i=>(h2.tm i).nc nc) XQ
    have aja:(results fn a'.tmps).run P w2=.ok (if h:us.toArray.size=1 then us.toArray[0] else .tuple us.toArray) w2:=by
     rw[show results fn a'.tmps=(do let vs ← fn.results.mapM (IJ a'.tmps);pure (if h:vs.size=1 then vs[0] else .tuple vs)) from rfl];rw[Sem.run_bind,Array.mapM_eq_mapM_toList];simp only[Sem.run_map,k2,Result.andThen_ok];rfl
    have ajb:=aeX eW us k3 k4;obtain⟨r',kT,oQ,q1,q2,q3,q4⟩:=Tg k1 _ w2 _ XQ ajb;exact⟨_,aja,r',_,kT,oQ,rfl,st2.trans q1,q2,q3,q4⟩
   cases e with
   |normal=>exact fin h3
   |ret=>exact fin h3
   |exit i=>exact h3.elim
   |goto l=>exact h3.elim
theorem ACalls.mono{f:FuncId}{xs:List AV}{σ:Hp}{R R':AV→Hp→Prop}(h:ACalls P f xs σ R)(hr:∀r σ',R r σ'→R' r σ'):ACalls P f xs σ R':=
 ⟨h.1,fun F w vs hv aG=>(h.2 F w vs hv aG).mono fun _ _ ⟨r,v,σ',F',h1,h2,h3,h4,h5⟩=>⟨r,v,σ',F',h1,h2,h3,h4,hr _ _ h5⟩⟩
theorem ACalls.fin{f:FuncId}{xs:List AV}{σ:Hp}{R R':AV→Hp→Prop}(h:ACalls P f xs σ R)(hr:∀r σ',R r σ'→Fin R' r σ'):ACalls P f xs σ R':=
 ⟨h.1,fun F w vs hv aG=>(h.2 F w vs hv aG).mono fun _ _ ⟨r,v,σ',F',h1,h2,h3,h4,h5⟩=>by
  obtain⟨r',kT,oQ,q1,q2,q3,q4⟩:=Tg (hr _ _ h5) F' _ v h3 h4
  exact⟨r',v,kT,oQ,h1,h2.trans q1,q2,q3,q4⟩⟩
def Sh.pos:Sh→Bool
 |.slice e=>decide (0<e.size)&&e.pos
 |.field f r=>f.pos&&r.pos
 |_=>true
theorem Tb{w:World}:∀(s:Sh) (cs:List Value) (d:s.T),s.pos=true→Reads w s cs d→lF (fun b=>b<w.heap.size) w s cs d:=by
 intro s
 induction s with
 |int k=>exact fun _ _ _ h=>h.1
 |bool=>exact fun _ _ _ h=>h
 |str=>exact fun _ _ _ h=>h.1
 |nil=>exact fun _ _ _ h=>h
 |slice e ih=>
  rintro cs l hp ⟨a,c,h1,h2,h3,h0,h4⟩;simp only[Sh.pos,bS,decide_eq_true_eq]at hp;refine⟨a,c,h1,h2,h3,h0,fun aS=>?_⟩;obtain⟨b,o,rfl,hi⟩:=h4 aS;have uR:0<l.length:=mX.2 aS;refine⟨b,o,rfl,?_,fun i h=>?_⟩
  ·obtain⟨cs',q1,q2,q3⟩:=hi 0 uR;cases cs' with
   |nil=>simp at q1;omega
   |cons u cs'=>
    have l7:=q2 0 u rfl;unfold World.cell? at l7;cases ho:w.heap[b]? with
    |none=>simp[ho]at l7
    |some x=>
     cases x with
     |cells c T fz=>exact⟨uB ho,c,T,fz,ho⟩
     |_=>simp[ho]at l7
  ·obtain⟨cs',q1,q2,q3⟩:=hi i h;exact⟨cs',q1,q2,ih _ _ hp.2 q3⟩
 |field f r rC kh=>
  rintro cs d hp ⟨c1,c2,h1,h2,h3,h4⟩;simp only[Sh.pos,bS]at hp;exact⟨c1,c2,h1,h2,rC _ _ hp.1 h3,kh _ _ hp.2 h4⟩
theorem aha{f:FuncId}{xs:List AV}(h:ACalls P f xs [] (fun r _=>r=.bool true)){w:World}{vs:Array Value}(hv:jC (fun b=>b<w.heap.size) w xs vs):
  Calls P f vs w fun e w'=>e=.returned (.bool true)∧Below w.heap.size w w':=by
 refine (h.2 _ w vs hv ⟨by simp,(fun p hp=>by cases hp),fun _ h=>h⟩).mono ?_;rintro e w' ⟨r,v,σ',F',rfl,h1,h2,h3,rfl⟩;rw[h3.sd];exact⟨rfl,h1.os,h1.tape,h1.output,h1.size,fun k hk=>h1.fix k hk⟩
end
end Go.Proofs.YtnikdflhefijbaaGreat
namespace Go.Proofs.YtnikdflhefijbaaGreat
abbrev aA:AV:=.int .i64 0
abbrev aD:Option TI:=some ⟨.func,1,8,[.jd]⟩
abbrev jf(n:Nat):Option TI:=some ⟨.ptr n,1,8,[.cW]⟩
abbrev o8(n:Nat):Option TI:=some ⟨.slice n,1,24,[.an]⟩
abbrev Jv:Option TI:=some ⟨.int .i64,1,8,[.int .i64 0]⟩
def tbl:List (List (Option TI)):=[
 [none,aD,Jv,Jv,some ⟨.bool,1,1,[.bool false]⟩,some ⟨.int .u8,1,1,[.int .u8 0]⟩,some ⟨.int .u8,1,1,[.int .u8 0]⟩,some ⟨.bA [(0,2),(1,3),(2,4),(3,6)],4,24,[aA,aA,.bool false,.int .u8 0]⟩,some ⟨.bA [(0,2),(1,3),(2,4),(3,6)],4,24,[aA,aA,.bool false,.int .u8 0]⟩,some ⟨.str,1,16,[.str ByteArray.empty]⟩,some ⟨.str,1,16,[.str ByteArray.empty]⟩,some ⟨.str,1,16,[.str ByteArray.empty]⟩,some ⟨.int .u64,1,8,[.int .u64 0]⟩,some ⟨.bA [(0,9),(1,12)],2,24,[.str ByteArray.empty,.int .u64 0]⟩,some ⟨.bA [(0,9),(1,12)],2,24,[.str ByteArray.empty,.int .u64 0]⟩,jf 386],[jf 389,jf 397,some ⟨.bA [(0,17)],1,8,[.cW]⟩,some ⟨.bA [(0,17)],1,8,[.cW]⟩,some ⟨.iface,1,16,[.nilif]⟩,some ⟨.int .i32,1,4,[.int .i32 0]⟩,o8 227,o8 3,o8 56,o8 93,some ⟨.bA [(0,3),(1,3),(2,3),(3,22),(4,23),(5,24),(6,25)],7,120,[aA,aA,aA,.an,.an,.an,.an]⟩,some ⟨.bA [(0,3),(1,3),(2,3),(3,22),(4,23),(5,24),(6,25)],7,120,[aA,aA,aA,.an,.an,.an,.an]⟩,o8 121,aD,aD,o8 24],[some ⟨.bA [(0,31),(1,3),(2,3),(3,3)],4,48,[.an,aA,aA,aA]⟩,some ⟨.bA [(0,31),(1,3),(2,3),(3,3)],4,48,[.an,aA,aA,aA]⟩,Jv,none,aD,o8 4,some ⟨.bA [(0,31),(1,37),(2,3),(3,3),(4,3),(5,3),(6,23),(7,23),(8,37)],9,152,[.an,.an,aA,aA,aA,aA,.an,.an,.an]⟩,some ⟨.bA [(0,31),(1,37),(2,3),(3,3),(4,3),(5,3),(6,23),(7,23),(8,37)],9,152,[.an,.an,aA,aA,aA,aA,.an,.an,.an]⟩,none,aD,some ⟨.bA [(0,3),(1,3),(2,3),(3,3)],4,32,[aA,aA,aA,aA]⟩,some ⟨.bA [(0,3),(1,3),(2,3),(3,3)],4,32,[aA,aA,aA,aA]⟩,none,aD,jf 58,o8 123],[none,aD,none,aD,none,aD,aD,aD,some ⟨.int .u64,1,8,[.int .u64 0]⟩,some ⟨.bA [(0,24)],1,24,[.an]⟩,some ⟨.bA [(0,24)],1,24,[.an]⟩,aD,aD,aD,some ⟨.int .u16,1,2,[.int .u16 0]⟩,aD],[aD,aD,aD,aD,aD,aD,aD,none,aD,aD,aD,none,aD,o8 84,none,aD],[none,aD,aD,some ⟨.bA [(0,3),(1,3),(2,56),(3,56),(4,56),(5,4)],6,48,[aA,aA,.int .u64 0,.int .u64 0,.int .u64 0,.bool false]⟩,some ⟨.bA [(0,3),(1,3),(2,56),(3,56),(4,56),(5,4)],6,48,[aA,aA,.int .u64 0,.int .u64 0,.int .u64 0,.bool false]⟩,some ⟨.bA [(0,3),(1,3),(2,3),(3,3)],4,32,[aA,aA,aA,aA]⟩,none,aD,aD,aD,aD,o8 233,some ⟨.bA [(0,24),(1,24),(2,91)],3,72,[.an,.an,.an]⟩,some ⟨.bA [(0,24),(1,24),(2,91)],3,72,[.an,.an,.an]⟩,jf 217,o8 168],[some ⟨.bA [(0,23),(1,37),(2,3)],3,56,[.an,.an,aA]⟩,some ⟨.bA [(0,23),(1,37),(2,3)],3,56,[.an,.an,aA]⟩,some ⟨.bA [(0,94),(1,85),(5,95),(6,97)],9,120,[.cW,aA,aA,aA,aA,.an,.an,.an,aA]⟩,some ⟨.bA [(0,94),(1,85),(5,95),(6,97)],9,120,[.cW,aA,aA,aA,aA,.an,.an,.an,aA]⟩,none,aD,aD,aD,aD,some ⟨.bA [(0,3),(1,3)],2,16,[aA,aA]⟩,some ⟨.bA [(0,3),(1,3)],2,16,[aA,aA]⟩,aD,aD,aD,aD,aD],[aD,some ⟨.bA [(0,3),(1,3)],2,16,[aA,aA]⟩,some ⟨.bA [(0,3),(1,3)],2,16,[aA,aA]⟩,aD,aD,aD,aD,aD,some ⟨.bA [(0,3),(1,3)],2,16,[aA,aA]⟩,some ⟨.bA [(0,3),(1,3)],2,16,[aA,aA]⟩,aD,jf 129,aD,jf 238,jf 245,jf 242],[some ⟨.bA [(0,27),(7,43),(11,3),(12,3),(13,3),(14,4),(15,23),(16,24),(17,125),(18,126),(19,127),(20,24),(21,3),(22,3),(23,4)],24,304,[aA,aA,aA,.an,.an,.an,.an,aA,aA,aA,aA,aA,aA,aA,.bool false,.an,.an,.cW,.cW,.cW,.an,aA,aA,.bool false]⟩,some ⟨.bA [(0,27),(7,43),(11,3),(12,3),(13,3),(14,4),(15,23),(16,24),(17,125),(18,126),(19,127),(20,24),(21,3),(22,3),(23,4)],24,304,[aA,aA,aA,.an,.an,.an,.an,aA,aA,aA,aA,aA,aA,aA,.bool false,.an,.an,.cW,.cW,.cW,.an,aA,aA,.bool false]⟩,aD,aD,aD,none,aD,aD,aD,aD,aD,aD,aD,jf 165,some ⟨.bA [(0,141)],1,8,[.cW]⟩,some ⟨.bA [(0,141)],1,8,[.cW]⟩],[none,aD,aD,aD,aD,aD,o8 23,aD,aD,aD,aD,aD,aD,aD,aD,aD],[some ⟨.iface,1,16,[.nilif]⟩,some ⟨.iface,1,16,[.nilif]⟩,some ⟨.bA [(0,161)],1,16,[.nilif]⟩,some ⟨.bA [(0,161)],1,16,[.nilif]⟩,some ⟨.bA [(0,163),(1,77)],2,40,[.nilif,.an]⟩,some ⟨.bA [(0,163),(1,77)],2,40,[.nilif,.an]⟩,aD,aD,jf 186,none,aD,aD,aD,o8 176,aD,some ⟨.iface,1,16,[.nilif]⟩],[some ⟨.iface,1,16,[.nilif]⟩,aD,aD,some ⟨.bA [(0,3),(1,3),(2,3)],3,24,[aA,aA,aA]⟩,some ⟨.bA [(0,3),(1,3),(2,3)],3,24,[aA,aA,aA]⟩,aD,aD,aD,some ⟨.iface,1,16,[.nilif]⟩,some ⟨.bA [(0,3),(1,3),(2,4),(3,27),(10,85),(14,3),(15,3),(16,184),(17,3),(18,4),(19,23),(20,24),(21,4)],22,280,[aA,aA,.bool false,aA,aA,aA,.an,.an,.an,.an,aA,aA,aA,aA,aA,aA,.nilif,aA,.bool false,.an,.an,.bool false]⟩,some ⟨.bA [(0,3),(1,3),(2,4),(3,27),(10,85),(14,3),(15,3),(16,184),(17,3),(18,4),(19,23),(20,24),(21,4)],22,280,[aA,aA,.bool false,aA,aA,aA,.an,.an,.an,.an,aA,aA,aA,aA,aA,aA,.nilif,aA,.bool false,.an,.an,.bool false]⟩,aD,aD,aD,aD,aD],[aD,none,aD,some ⟨.bA [(0,3),(1,3),(2,56),(3,56)],4,32,[aA,aA,.int .u64 0,.int .u64 0]⟩,some ⟨.bA [(0,3),(1,3),(2,56),(3,56)],4,32,[aA,aA,.int .u64 0,.int .u64 0]⟩,aD,aD,aD,aD,aD,aD,aD,none,aD,aD,aD],[aD,aD,aD,aD,aD,some ⟨.bA [(0,3)],1,8,[aA]⟩,some ⟨.bA [(0,3)],1,8,[aA]⟩,aD,some ⟨.bA [(0,214),(1,24)],2,32,[aA,.an]⟩,some ⟨.bA [(0,214),(1,24)],2,32,[aA,.an]⟩,aD,none,aD,aD,none,aD],[aD,aD,some ⟨.bA [(0,3),(1,3)],2,16,[aA,aA]⟩,some ⟨.bA [(0,3),(1,3)],2,16,[aA,aA]⟩,some ⟨.bA [(0,3),(1,3)],2,16,[aA,aA]⟩,some ⟨.bA [(0,3),(1,3)],2,16,[aA,aA]⟩,some ⟨.bA [(0,3),(1,229)],3,24,[aA,aA,aA]⟩,some ⟨.bA [(0,3),(1,229)],3,24,[aA,aA,aA]⟩,some ⟨.bA [(0,3),(1,3),(2,231),(5,231)],8,64,[aA,aA,aA,aA,aA,aA,aA,aA]⟩,some ⟨.bA [(0,3),(1,3),(2,231),(5,231)],8,64,[aA,aA,aA,aA,aA,aA,aA,aA]⟩,aD,aD,aD,some ⟨.bA [(0,3),(1,3),(2,3),(3,56),(4,4),(5,4),(6,3),(7,56),(8,56),(9,56)],10,72,[aA,aA,aA,.int .u64 0,.bool false,.bool false,aA,.int .u64 0,.int .u64 0,.int .u64 0]⟩,some ⟨.bA [(0,3),(1,3),(2,3),(3,56),(4,4),(5,4),(6,3),(7,56),(8,56),(9,56)],10,72,[aA,aA,aA,.int .u64 0,.bool false,.bool false,aA,.int .u64 0,.int .u64 0,.int .u64 0]⟩,aD],[aD,some ⟨.bA [(0,3),(1,3),(2,3),(3,24),(4,3),(5,4),(6,56),(7,4),(8,4),(9,3)],10,88,[aA,aA,aA,.an,aA,.bool false,.int .u64 0,.bool false,.bool false,aA]⟩,some ⟨.bA [(0,3),(1,3),(2,3),(3,24),(4,3),(5,4),(6,56),(7,4),(8,4),(9,3)],10,88,[aA,aA,aA,.an,aA,.bool false,.int .u64 0,.bool false,.bool false,aA]⟩,aD,some ⟨.bA [(0,3),(1,3),(2,3),(3,3),(4,3),(5,4),(6,4),(7,4),(8,3)],9,56,[aA,aA,aA,aA,aA,.bool false,.bool false,.bool false,aA]⟩,some ⟨.bA [(0,3),(1,3),(2,3),(3,3),(4,3),(5,4),(6,4),(7,4),(8,3)],9,56,[aA,aA,aA,aA,aA,.bool false,.bool false,.bool false,aA]⟩,aD,none,aD,aD,aD,aD,aD,some ⟨.int .u64,1,8,[.int .u64 0]⟩,none,aD],[aD,aD,aD,aD,aD,aD,aD,aD,aD,aD,aD,aD,aD,none,aD,aD],[aD,aD,aD,aD,aD,aD,aD,aD,aD,aD,aD,aD,some ⟨.int .u32,1,4,[.int .u32 0]⟩,none,aD,none],[aD,none,aD,aD,aD,aD,aD,aD,aD,aD,aD,aD,aD,aD,aD,aD],[aD,aD,aD,Jv,none,aD,aD,aD,none,aD,aD,aD,aD,aD,aD,aD],[aD,aD,aD,aD,aD,some ⟨.bA [(0,150),(1,23),(2,23),(3,37),(4,23),(5,3),(6,150)],7,152,[.an,.an,.an,.an,.an,aA,.an]⟩,some ⟨.bA [(0,150),(1,23),(2,23),(3,37),(4,23),(5,3),(6,150)],7,152,[.an,.an,.an,.an,.an,aA,.an]⟩,aD,aD,aD,aD,some ⟨.int .u64,1,8,[.int .u64 0]⟩,aD,aD,aD,jf 3],[aD,aD,aD,aD,aD,aD,jf 326,some ⟨.bA [(0,3),(1,3)],2,16,[aA,aA]⟩,some ⟨.bA [(0,3),(1,3)],2,16,[aA,aA]⟩,aD,o8 344,jf 344,aD,aD,aD,aD],[aD,jf 331,aD,aD,aD,aD,o8 360,some ⟨.bA [(0,3),(1,3)],2,16,[aA,aA]⟩,some ⟨.bA [(0,3),(1,3)],2,16,[aA,aA]⟩,jf 360,aD,aD,aD,aD,none,aD],[aD,aD,aD,aD,aD,aD,aD,aD,aD,aD,aD,aD,some ⟨.gk,1,16,[.gk 0 0]⟩,aD,some ⟨.gE,1,8,[.gE 0]⟩,aD],[aD,some ⟨.bA [(0,17),(1,17),(2,17),(3,9)],4,40,[.cW,.cW,.cW,.str ByteArray.empty]⟩,some ⟨.bA [(0,17),(1,17),(2,17),(3,9)],4,40,[.cW,.cW,.cW,.str ByteArray.empty]⟩,some ⟨.arr 0 16,0,0,[]⟩,some ⟨.bA [(0,387)],0,0,[]⟩,some ⟨.bA [(0,387)],0,0,[]⟩,some ⟨.int .u8,1,1,[.int .u8 0]⟩,some ⟨.int .u8,1,1,[.int .u8 0]⟩,aD,jf 5,some ⟨.int .i32,1,4,[.int .i32 0]⟩,some ⟨.int .i32,1,4,[.int .i32 0]⟩,some ⟨.bA [(0,12),(1,12),(2,284),(3,390),(4,5),(5,5),(6,391),(7,392),(8,393),(9,394),(10,395)],11,48,[.int .u64 0,.int .u64 0,.int .u32 0,.int .u8 0,.int .u8 0,.int .u8 0,.int .u8 0,.jd,.cW,.int .i32 0,.int .i32 0]⟩,some ⟨.bA [(0,12),(1,12),(2,284),(3,390),(4,5),(5,5),(6,391),(7,392),(8,393),(9,394),(10,395)],11,48,[.int .u64 0,.int .u64 0,.int .u32 0,.int .u8 0,.int .u8 0,.int .u8 0,.int .u8 0,.jd,.cW,.int .i32 0,.int .i32 0]⟩,aD,jf 403],[some ⟨.bA [(0,3),(1,56),(2,56),(3,56)],4,32,[aA,.int .u64 0,.int .u64 0,.int .u64 0]⟩,some ⟨.bA [(0,3),(1,56),(2,56),(3,56)],4,32,[aA,.int .u64 0,.int .u64 0,.int .u64 0]⟩,some ⟨.bA [(0,114),(2,56),(3,4),(4,4),(5,401)],9,64,[aA,aA,.int .u64 0,.bool false,.bool false,aA,.int .u64 0,.int .u64 0,.int .u64 0]⟩,some ⟨.bA [(0,114),(2,56),(3,4),(4,4),(5,401)],9,64,[aA,aA,.int .u64 0,.bool false,.bool false,aA,.int .u64 0,.int .u64 0,.int .u64 0]⟩,jf 405,some ⟨.bA [(0,114),(2,56),(3,4),(4,4),(5,401)],9,64,[aA,aA,.int .u64 0,.bool false,.bool false,aA,.int .u64 0,.int .u64 0,.int .u64 0]⟩,jf 408,some ⟨.bA [(0,106),(2,4),(3,4)],4,24,[aA,aA,.bool false,.bool false]⟩,some ⟨.bA [(0,106),(2,4),(3,4)],4,24,[aA,aA,.bool false,.bool false]⟩,jf 411,some ⟨.bA [(0,106),(2,3),(3,4)],4,32,[aA,aA,aA,.bool false]⟩,some ⟨.bA [(0,106),(2,3),(3,4)],4,32,[aA,aA,aA,.bool false]⟩,jf 416,some ⟨.bA [(0,3),(1,4),(2,56)],3,24,[aA,.bool false,.int .u64 0]⟩,some ⟨.bA [(0,3),(1,4),(2,56)],3,24,[aA,.bool false,.int .u64 0]⟩,some ⟨.bA [(0,180),(3,24),(4,4),(5,414)],8,80,[aA,aA,aA,.an,.bool false,aA,.bool false,.int .u64 0]⟩],[some ⟨.bA [(0,180),(3,24),(4,4),(5,414)],8,80,[aA,aA,aA,.an,.bool false,aA,.bool false,.int .u64 0]⟩,jf 419,some ⟨.bA [(0,180),(3,24),(4,4),(5,4),(6,3),(7,414)],10,88,[aA,aA,aA,.an,.bool false,.bool false,aA,aA,.bool false,.int .u64 0]⟩,some ⟨.bA [(0,180),(3,24),(4,4),(5,4),(6,3),(7,414)],10,88,[aA,aA,aA,.an,.bool false,.bool false,aA,aA,.bool false,.int .u64 0]⟩,jf 424,some ⟨.bA [(0,4)],1,1,[.bool false]⟩,some ⟨.bA [(0,4)],1,1,[.bool false]⟩,some ⟨.bA [(0,106),(2,3),(3,4),(4,4),(5,422)],6,32,[aA,aA,aA,.bool false,.bool false,.bool false]⟩,some ⟨.bA [(0,106),(2,3),(3,4),(4,4),(5,422)],6,32,[aA,aA,aA,.bool false,.bool false,.bool false]⟩,jf 426,some ⟨.bA [(0,114),(2,56),(3,4),(4,4),(5,401)],9,64,[aA,aA,.int .u64 0,.bool false,.bool false,aA,.int .u64 0,.int .u64 0,.int .u64 0]⟩,jf 429,some ⟨.bA [(0,106),(2,3),(3,4)],4,32,[aA,aA,aA,.bool false]⟩,some ⟨.bA [(0,106),(2,3),(3,4)],4,32,[aA,aA,aA,.bool false]⟩,aD,none]]
def tt(t:TypeId):Option TI:=match tbl[t / 16]? with | some r=>(match r[t % 16]? with | some x=>x | none=>none) | none=>none
theorem agE:Xb Tryz.prog tt 432=true:=by kernel_rfl
theorem aeM(t:TypeId)(h:432≤t):tt t=none:=by
 unfold tt;rw[vJ (show tbl.length≤t / 16 from (Nat.le_div_iff_mul_le (by decide)).2 h)]
theorem ai0:dM Tryz.prog tt:=aeL agE aeM
end Go.Proofs.YtnikdflhefijbaaGreat
namespace Go.Proofs.YtnikdflhefijbaaGreat
theorem okF{f:FuncId}{fn:Func}{xs:List AV}{σ:Hp}{R:AV→Hp→Prop}(hf:Tryz.prog.funcs[f]?=some fn)(bM:funcOk fn=true)(h:wJ Tryz.prog tt fn xs σ R):ACalls Tryz.prog f xs σ R:=
 abY ai0 (by kernel_rfl) hf bM h
theorem ay{f:FuncId}{fn:Func}{xs:List AV}{σ:Hp}{R:AV→Hp→Prop}(hf:Tryz.prog.funcs[f]?=some fn)(h:wJ Tryz.prog tt fn xs σ R)(bM:funcOk fn=true:=by kernel_rfl):ACalls Tryz.prog f xs σ R:=okF hf bM h
theorem ca{S:Type}(L:S→List (Nat×AV))(H:S→Hp)(p:S→Prop)(μ:S→Nat)(s0:S){body:Tm→Hp→(Ex→Tm→Hp→Prop)→Prop}{t:Tm}{σ:Hp}{Q:Ex→Tm→Hp→Prop}(h0:p s0∧agree t (L s0)∧σ=H s0)
  (round:∀s g,p s→body (dF g (L s)) (H s) (fun e t' σ'=>match e with | .normal=>qf L H p μ s t' σ' | e=>Q e t' σ')):nr body Q t σ:=.mk L H p μ s0 h0 round
theorem a8{S:Type}{L:S→List (Nat×AV)}{H:S→Hp}{p:S→Prop}{μ:S→Nat}{s:S}{t':Tm}{σ':Hp}(s':S)(h1:μ s'<μ s)(h2:p s')(h3:agree t' (L s'))(h4:jI σ' (H s')):qf L H p μ s t' σ':=.mk s' h1 h2 h3 h4
theorem next{S:Type}{L:S→List (Nat×AV)}{H:S→Hp}{p:S→Prop}{μ:S→Nat}{s:S}{t':Tm}{σ':Hp}(s':S)(h1:μ s'<μ s)(h2:p s')(h3:agree t' (L s'))(h4:σ'=H s'):qf L H p μ s t' σ':=.mk s' h1 h2 h3 (h4▸.refl _)
def upto(Q:List Nat)(n:Nat):Nat→oP:=Nat.rec (motive:=fun _=>Nat→oP) (fun _=>.stop) (fun _ ih i=>.one i (fw i Q) (ih (i+1))) n
theorem aL{σ σ2:Hp}(h:σ=σ2):jI σ σ2:=h▸.refl _
theorem Ds{P:Program}{f:FuncId}{e:Sh}{l:List e.T}{σ:Hp}{R:AV→Hp→Prop}(h0:l=[]→ACalls P f [.an] σ R∧ACalls P f [.gT] σ R)(h1:l≠[]→ACalls P f [.ah e l] σ R):ACalls P f [.ah e l] σ R:=by
 by_cases hl:l=[]
 ·obtain⟨k0,k1⟩:=h0 hl;refine⟨k0.1,fun F w vs bP aG =>?_⟩;have hv:=bP.2 0 _ rfl;have mb:∀y,aB F w y (vs.getD 0 undef)→jC F w [y] vs:=fun y hy=>⟨bP.1,fun i x hx=>by cases i <;> simp at hx;subst hx;exact hy⟩
  subst hl;generalize hu:vs.getD 0 undef=u at hv mb;cases hv with
  |ah _ _ _ hr=>
   obtain⟨a,c,e1,_,e3,e0,_⟩:=hr;obtain rfl:=KZ.1 e1;cases a with
   |none=>
    obtain rfl:=e0 rfl;exact k0.2 F w vs (mb _ .an) aG
   |some a=>exact k1.2 F w vs (mb _ (.gT a c e3)) aG
 ·exact h1 hl
theorem aX{k:Nat}(h:k<1000000000):AV.int .i64 (IntKind.i64.wrap ((k:Int)+1))=AV.int .i64 ((k+1:Nat):Int):=by
 rw[show IntKind.i64.wrap ((k:Int)+1)=((k+1:Nat):Int) by rw[IntKind.wrap_i64];omega]
theorem get_some{α:Type}{l:List α}{k:Nat}(h:k<l.length):l[((k:Int)).toNat]?=some l[k]:=bB h
def aC(x:AV)(σ:Hp):AV→Hp→Prop:=fun r σ'=>r=x∧σ'=σ
theorem ax{P:Program}{f:FuncId}{xs:List AV}{σ:Hp}{K:AV→Hp→Prop}(js:List Nat){x:AV}{σ2:Hp}(h:ACalls P f xs (oX js σ) (aC x σ2))(k:K x σ2):CallAt P f K xs σ:=
 CallAt.mk js _ h fun _ _ ⟨h1,h2⟩=>h1▸h2▸k
theorem aK{P:Program}{f:FuncId}{xs:List AV}{σ:Hp}{K:AV→Prop}(js:List Nat){x:AV}(h:ACalls P f xs (oX js σ) (aC x (oX js σ)))(k:K x):uF P f xs σ K:=uF.mk js x h k
theorem eY{P:Program}{f:FuncId}{xs:List AV}{σ:Hp}{K:AV→Hp→Prop}(js:List Nat){x:Bool}{σ2:Hp}(h:ACalls P f xs (oX js σ) (aC (.bool x) σ2))(k1:x=true→K (.bool true) σ2)(k2:x=false→K (.bool false) σ2):CallAt P f K xs σ:=
 ax js h (by cases x;exact k2 rfl;exact k1 rfl)
theorem IX{P:Program}{f:FuncId}{xs:List AV}{σ:Hp}{K:AV→Prop}(js:List Nat){x:Bool}(h:ACalls P f xs (oX js σ) (aC (.bool x) (oX js σ)))(k1:x=true→K (.bool true))(k2:x=false→K (.bool false)):uF P f xs σ K:=
 aK js h (by cases x;exact k2 rfl;exact k1 rfl)
theorem fg.kZ{i:TI}{σ:Hp}{b o:Nat}{K:AV→Prop}(j:Nat)(cs:List AV)(x:Bool)(h1:σ[j]?=some (b,cs))(h2:ei i cs o=some (.bool x))(k1:x=true→K (.bool true))(k2:x=false→K (.bool false)):fg i σ b o K:=
 .mk j cs _ h1 h2 (by cases x;exact k2 rfl;exact k1 rfl)
theorem zE{b off len es:Nat}{e:Sh}{l:List e.T}:fm b off len es e l (.tup []) (.tup []):=.refl _
theorem eF{b off len es:Nat}{e:Sh}{l:List e.T}{x y:AV}{xs ys:List AV}(h:fm b off len es e l x y)(t:fm b off len es e l (.tup xs) (.tup ys)):fm b off len es e l (.tup (x::xs)) (.tup (y::ys)):=by
 have hl:xs.length=ys.length∧∀(i:Nat) (x y:AV),xs[i]?=some x→ys[i]?=some y→fm b off len es e l x y:=by
  cases t with
  |refl=>exact⟨rfl,fun i x y hx hy=>by rw[hx]at hy;cases hy;exact .refl _⟩
  |tup _ _ h hi=>exact⟨h,hi⟩
 refine .tup _ _ (by simp[hl.1]) fun i x' y' hx hy=>?_;cases i with
 |zero=>simp at hx hy;subst hx;subst hy;exact h
 |succ i=>exact hl.2 i x' y' (by simpa using hx) (by simpa using hy)
theorem cY{a b:Bool}(h:a=b):AV.bool a=AV.bool b:=by rw[h]
theorem aT{k:IntKind}{a b:Int}(h:a=b):AV.int k a=AV.int k b:=by rw[h]
theorem fS(fr b σ:Hp):(b++(fr++σ)).Perm (fr++(b++σ)):=by
 rw[← dW,← dW];exact List.Perm.append_right _ Qj
theorem kx.mem{σ:Hp}{b off len es:Nat}{cs:List AV}(h:(b,cs)∈σ)(h2:off+len*es≤cs.length):kx σ es (.ae b off len es) len ((cs.drop off).take (len*es)):=by
 obtain⟨j,hj⟩:=lq.1 h;exact .ae j b off len cs hj h2
theorem kx.perm{σ σ2:Hp}{es n:Nat}{x:AV}{new:List AV}(h:kx σ es x n new)(hp:σ2.Perm σ):kx σ2 es x n new:=by
 cases h with
 |an=>exact .an
 |kX=>exact .kX
 |gT=>exact .gT
 |ah s l h=>exact .ah s l h
 |ae j b off len cs h1 h2=>
  obtain⟨j',hj⟩:=lq.1 (hp.mem_iff.2 (bU h1));exact .ae j' b off _ cs hj h2
inductive Acc(e:Nat):Nat→AV→Hp→List AV→Prop where
 |nil:Acc e 0 .an [] []
 |ae (b k:Nat) (cs:List AV) (h:cs.length=k*e):Acc e k (.ae b 0 k e) [(b,cs)] cs
theorem Acc.length{e k:Nat}{v:AV}{acc:Hp}{cs:List AV}(h:Acc e k v acc cs):cs.length=k*e:=by
 cases h with
 |nil=>simp
 |ae b k cs h=>exact h
theorem Bq(fr acc σ:Hp):(acc++(fr++σ)).Perm (fr++(acc++σ)):=fS fr acc σ
theorem iC{i:TI}{K:AV→Hp→Prop}(fr:Hp){acc σ:Hp}{k n:Nat}{v x:AV}{cs new:List AV}(h:Acc i.size k v acc cs)(hx:kx (fr++(acc++σ)) i.size x n new)(iG:new.length=n*i.size)(hn:k+n≤1048576)(hb:i.bytes≤1024)(h0:0<i.size)
  (go:∀v' aY,Acc i.size (k+n) v' aY (cs++new)→K (.via v') (fr++(aY++σ))):AppendAt i (fr++(acc++σ)) v x K:=by
 have hl:=h.length;cases h with
 |nil=>
  refine .perm _ (fS fr [] σ) (.fresh n new (.inl rfl) (hx.perm (fS fr [] σ)) (by omega) hb h0 (K:=fun v eJ=>(n=0∧v=.an∧eJ=[]++(fr++σ))∨(n≠0∧∃b,v=.ae b 0 n i.size∧eJ=(b,new)::([]++(fr++σ)))) (fun aS b=>.inr ⟨aS,b,rfl,rfl⟩) (fun h0=>.inl ⟨h0,rfl,rfl⟩)) ?_;rintro v eJ (⟨hz,rfl,rfl⟩ | ⟨hz,b,rfl,rfl⟩)
  ·subst hz;obtain rfl:new=[]:=List.length_eq_zero_iff.1 (by simpa using iG);exact⟨_,(fS fr [] σ).symm,.inr ⟨rfl,go _ _ .nil⟩⟩
  ·refine⟨_,(fS fr [(b,new)] σ).symm,.inr ⟨rfl,go _ _ ?_⟩⟩;have:=Acc.ae (e:=i.size) b (0+n) new (by rw[iG,dI]);rw[dI]at this ⊢;exact this
 |ae b k cs h=>
  refine .perm _ (fS fr [(b,cs)] σ) (.more 0 b k n cs new rfl rfl (by rw[h];exact aQ _) (hx.perm (fS fr [(b,cs)] σ)) hn hb h0 (K:=fun v eJ=>∃b',v=.ae b' 0 (k+n) i.size∧eJ=(b',cs.take (k*i.size)++new)::(fr++σ)) (fun b'=>⟨b',rfl,rfl⟩)) ?_;rintro v eJ ⟨b',rfl,rfl⟩;rw[eR (by omega)];exact⟨_,(fS fr [(b',cs++new)] σ).symm,.inr ⟨rfl,go _ _ (.ae _ _ _ (by rw[bQ,h,iG,lU]))⟩⟩
theorem rX{R:AV→Hp→Prop}(fr:Hp){acc σ:Hp}{s:Sh}{k:Nat}{v:AV}{cs:List AV}{l:List s.T}(h:Acc s.size k v acc cs)(hl:k=l.length)(hc:cs=l.flatMap s.cells)(hp:0<s.size)(go:Fin R (.ah s l) (fr++σ)):Fin R v (fr++(acc++σ)):=by
 subst hl;have hlen:=h.length;refine .perm (fS fr acc σ) ?_;generalize hk:l.length=k at h;cases h with
 |nil=>
  obtain rfl:=iz.1 hk;exact .nil (.nil _) go
 |ae b k cs h=>
  subst hk;exact .cN 0 b 0 l.length s.size cs s l rfl (by rw[gR,eR (by omega)];exact hc) ⟨rfl,rfl,hp⟩ .here go
def ai(l:List Int):List AV:=l.map (.int .i64)
theorem vW:∀l:List Int,ai l=l.flatMap (Sh.cells (.int .i64))
 | []=>rfl
 |x::l=>congrArg (AV.int .i64 x :: ·) (vW l)
theorem sS{f:FuncId}{xs:List AV}{σ σ':Hp}{x y:AV}(h:ACalls Tryz.prog f xs σ (aC x σ'))(e:x=y):ACalls Tryz.prog f xs σ (aC y σ'):=e▸h
theorem sU{α:Type}{l:List α}{k:Nat}(h:k<l.length)(p:α→Bool):(l.take (k+1)).any p=((l.take k).any p||p l[k]):=by
 rw[List.take_succ_eq_append_getElem h,List.any_append];simp
set_option maxRecDepth 100000
def aR(ws:List Int):List AV:=ws.map (.int .u64)
theorem x7(n:Nat):cI [.int .u64 0] n=aR (List.replicate n 0):=by
 unfold aR
 induction n with
 |zero=>rfl
 |succ n ih=>simp[cI,ih,List.replicate_succ]
theorem lA:∀(ws:List Int),aR ws=ws.flatMap (Sh.cells (.int .u64))
 | []=>rfl
 |z::ws=>congrArg (AV.int .u64 z :: ·) (lA ws)
theorem WW(n:Int)(σ:Hp):ACalls Tryz.prog 335 [.int .i64 n] σ (fun r σ'=>∃m,r=.int .i64 m∧σ'=σ):=by
 refine ay Tryz.func335 ?_;refine dZ ?_;refine ao (fun h1=>?_) (fun h1=>?_)
 ·have h1:32767<n.tmod 65536:=h1;exact .done ⟨_,rfl,rfl⟩
 ·have h1:¬(32767<n.tmod 65536):=h1;refine ao (fun h2=>?_) (fun h2=>?_)
  ·have h2:n.tmod 65536 < -32768:=h2;exact .done ⟨_,rfl,rfl⟩
  ·have h2:¬(n.tmod 65536 < -32768):=h2;exact .done ⟨_,rfl,rfl⟩
theorem ajX(a b:Int)(σ:Hp):ACalls Tryz.prog 309 [.int .i64 a,.int .i64 b] σ (fun r σ'=>∃x y,r=.agg [.int .i64 x,.int .i64 y]∧σ'=σ):=by
 refine ay Tryz.func309 ?_;intro b1
 (refine .mk [] _ (WW _ _) ?_;rintro _ _ ⟨x,rfl,rfl⟩)
 (refine .mk [] _ (WW _ _) ?_;rintro _ _ ⟨x,rfl,rfl⟩)
 refine aj 0 ?_;refine aa 0 ?_;exact .drop 0 1 (.done ⟨_,_,rfl,rfl⟩)
theorem D9{w:Int}{k m:Nat}(hk:min (Int.toNat (k:Int)) IntKind.u64.bits=m):w.fdiv (2 ^ min (Int.toNat (k:Int)) IntKind.u64.bits)=w / 2 ^ m:=by
 rw[hk];exact Int.fdiv_eq_ediv_of_nonneg _ (Int.le_of_lt (Int.pow_pos (by decide)))
theorem Jk(w:Int):bits .and .u64 w 3=w % 4:=by
 show IntKind.u64.wrap ((BitVec.ofInt 64 w &&& BitVec.ofInt 64 3).toNat:Int)=_;have h3:(BitVec.ofInt 64 3:BitVec 64).toNat=2 ^ 2-1:=by decide
 rw[BitVec.toNat_and,h3,Qq,BitVec.toNat_ofInt,IntKind.wrap_u64];omega
def eT(w:Int):Bool:=decide (w % 4=2)&&decide (0≤w∧w<17179869184)
theorem ag4(w:Int)(σ:Hp):ACalls Tryz.prog 285 [.int .u64 w] σ (fun r σ'=>∃x y,r=.tup [.agg [.int .i64 x,.int .i64 y],.bool (decide (0≤w∧w<4294967296))]∧σ'=σ):=by
 have e:=D9 (k:=32) (m:=32) (w:=w) (by decide);refine ay Tryz.func285 ?_;intro b1;refine dZ ?_;refine dX (fun h2=>?_) (fun h2=>?_)
 ·have h2:¬(w.fdiv (2 ^ min (Int.toNat 32) IntKind.u64.bits)=0):=by simpa using h2
  have hw:¬(0≤w∧w<4294967296):=fun h=>h2 (by rw[show w.fdiv (2 ^ min (Int.toNat 32) IntKind.u64.bits)=w / 2 ^ 32 from e];omega);refine aj 0 ?_;refine aa 0 ?_;exact .drop 0 1 (.done ⟨_,_,by rw[cf hw];rfl,rfl⟩)
 ·have h2:w.fdiv (2 ^ min (Int.toNat 32) IntKind.u64.bits)=0:=by simpa using h2
  have hw:0≤w∧w<4294967296:=by rw[show w.fdiv (2 ^ min (Int.toNat 32) IntKind.u64.bits)=w / 2 ^ 32 from e]at h2;omega
  refine dZ ?_
  (refine .mk [] _ (ajX _ _ _) ?_;rintro _ _ ⟨x,y,rfl,rfl⟩)
  refine aj 0 ?_;refine aa 0 ?_;exact .drop 0 1 (.done ⟨_,_,by rw[bu hw];rfl,rfl⟩)
theorem ajT(w:Int)(σ:Hp):ACalls Tryz.prog 251 [.int .u64 w] σ (fun r σ'=>∃x y,r=.tup [.agg [.int .i64 x,.int .i64 y],.bool (eT w)]∧σ'=σ):=by
 have e:=D9 (k:=2) (m:=2) (w:=w) (by decide);refine ay Tryz.func251 ?_;intro b1;refine dX (fun h2=>?_) (fun h2=>?_)
 ·have h2:¬(bits BinOp.and IntKind.u64 w 3=2):=by simpa using h2
  rw[Jk]at h2;refine aj 0 ?_;refine aa 0 ?_;exact .drop 0 1 (.done ⟨_,_,by rw[show eT w=false by simp[eT,h2]];rfl,rfl⟩)
 ·have h2:bits BinOp.and IntKind.u64 w 3=2:=by simpa using h2
  rw[Jk]at h2;refine dZ ?_;have e':w.fdiv (2 ^ min (Int.toNat 2) IntKind.u64.bits)=w / 4:=e;refine .mk [] _ (ag4 _ _) ?_;rintro _ _ ⟨x,y,rfl,rfl⟩
  have hk:decide (0≤w.fdiv (2 ^ min (Int.toNat 2) IntKind.u64.bits)∧w.fdiv (2 ^ min (Int.toNat 2) IntKind.u64.bits)<4294967296)=eT w:=by
   rw[e',show eT w=decide (0≤w∧w<17179869184) by simp[eT,h2]];exact decide_eq_decide.2 (by omega)
  refine aj 0 ?_;refine aa 0 ?_;exact .drop 0 1 (.done ⟨_,_,by rw[hk];rfl,rfl⟩)
def aM(w:Int):Int:=if w=0 then 0 else if w=1 then 1 else if eT w then w else 1
theorem Mt{w:Int}(h:eT w=true):w≠0∧w≠1:=by
 unfold eT at h;simp at h;omega
theorem aIs(w:Int)(σ:Hp):ACalls Tryz.prog 202 [.int .u64 w] σ (aC (.bool (eT w||decide (w=0)||decide (w=1))) σ):=by
 refine ay Tryz.func202 ?_;refine .mk [] _ (ajT w _) ?_;rintro _ _ ⟨x,y,rfl,rfl⟩;cases hn:eT w
 ·intro aF;refine aj 0 ?_;refine ao (fun c2=>?_) (fun c2=>?_)
  ·have c2:w=0:=c2;exact .drop 0 1 (.done ⟨cY (by simp[*]),rfl⟩)
  ·have c2:¬(w=0):=c2;refine ao (fun c3=>?_) (fun c3=>?_)
   ·have c3:w=1:=c3;exact .drop 0 1 (.done ⟨cY (by simp[*]),rfl⟩)
   ·have c3:¬(w=1):=c3;exact .drop 0 1 (.done ⟨cY (by simp[*]),rfl⟩)
 ·intro aF;refine aj 0 ?_;exact .drop 0 1 (.done ⟨cY (by simp[*]),rfl⟩)
theorem Oj(w:Int)(σ:Hp):ACalls Tryz.prog 333 [.int .u64 w] σ (aC (.int .u64 (aM w)) σ):=by
 refine ay Tryz.func333 ?_;refine eY [] (aIs w σ) (fun h=>?_) (fun h=>?_)
 ·refine .done ⟨aT ?_,rfl⟩;unfold aM;simp at h
  rcases h with (h | h) | h
  ·simp[h,Mt h]
  ·simp[h]
  ·simp[h]
 ·exact .done ⟨aT (by unfold aM;simp at h;simp[h]),rfl⟩
def kS(a b:Int):Int:=if aM a=aM b∨aM b=0 then aM a else if aM a=0 then aM b else 1
theorem ahT(a b:Int)(σ:Hp):ACalls Tryz.prog 304 [.int .u64 a,.int .u64 b] σ (aC (.int .u64 (kS a b)) σ):=by
 refine ay Tryz.func304 ?_;refine ax [] (Oj _ _) ?_;refine ax [] (Oj _ _) ?_;refine ao (fun c1=>?_) (fun c1=>?_)
 ·have c1:aM a=aM b:=c1;exact .done ⟨aT (by unfold kS;split <;> (try split) <;> omega),rfl⟩
 ·have c1:¬(aM a=aM b):=c1;refine ao (fun c2=>?_) (fun c2=>?_)
  ·have c2:aM b=0:=c2;exact .done ⟨aT (by unfold kS;split <;> (try split) <;> omega),rfl⟩
  ·have c2:¬(aM b=0):=c2;refine ao (fun c3=>?_) (fun c3=>?_)
   ·have c3:aM a=0:=c3;exact .done ⟨aT (by unfold kS;split <;> (try split) <;> omega),rfl⟩
   ·have c3:¬(aM a=0):=c3;exact .done ⟨aT (by unfold kS;split <;> (try split) <;> omega),rfl⟩
def da(what a b:Int):Int:=if what=1 then bits .or .u64 a b else if what=2 then bits .and .u64 a b else if what=3 then kS a b else 0
theorem Xy(what a b:Int)(σ:Hp):ACalls Tryz.prog 279 [.int .i64 what,.int .u64 a,.int .u64 b] σ (aC (.int .u64 (da what a b)) σ):=by
 refine ay Tryz.func279 ?_;refine ao (fun c1=>?_) (fun c1=>?_)
 ·have c1:what=1:=c1;exact .done ⟨aT (by simp[da, *]),rfl⟩
 ·have c1:¬(what=1):=c1;refine ao (fun c2=>?_) (fun c2=>?_)
  ·have c2:what=2:=c2;exact .done ⟨aT (by simp[da, *]),rfl⟩
  ·have c2:¬(what=2):=c2;refine ao (fun c3=>?_) (fun c3=>?_)
   ·have c3:what=3:=c3;refine ax [] (ahT _ _ _) ?_;exact .done ⟨aT (by simp[da, *]),rfl⟩
   ·have c3:¬(what=3):=c3;exact .done ⟨aT (by simp[da, *]),rfl⟩
theorem VY(n:Int)(σ:Hp):ACalls Tryz.prog 261 [.int .i64 n] σ (fun r σ'=>∃m,r=.int .i64 m∧σ'=σ):=by
 refine ay Tryz.func261 ?_;refine dZ ?_;refine dZ ?_;exact .done ⟨_,rfl,rfl⟩
theorem aiJ(a b:Int)(σ:Hp):ACalls Tryz.prog 223 [.int .i64 a,.int .i64 b] σ (fun r σ'=>∃x y,r=.agg [.int .i64 x,.int .i64 y]∧σ'=σ):=by
 refine ay Tryz.func223 ?_;intro aF
 (refine .mk [] _ (VY _ _) ?_;rintro _ _ ⟨x,rfl,rfl⟩)
 (refine .mk [] _ (VY _ _) ?_;rintro _ _ ⟨x,rfl,rfl⟩)
 refine aj 0 ?_;refine aa 0 ?_;exact .drop 0 1 (.done ⟨_,_,rfl,rfl⟩)
theorem aiI(w:Int)(σ:Hp)(h0:0≤w)(h2:w<18446744073709551616):ACalls Tryz.prog 179 [.int .u64 w] σ (fun r σ'=>∃x y,r=.tup [.agg [.int .i64 x,.int .i64 y],.bool (eT w)]∧σ'=σ):=by
 have e1:w.tmod 4=w % 4:=tR h0;have e2:IntKind.u64.wrap (w.tdiv 4)=w / 4:=by rw[C7 h0,IntKind.wrap_u64];omega
 refine ay Tryz.func179 ?_;intro aF;refine dZ ?_;refine dX (fun c2=>?_) (fun c2=>?_)
 ·have c2:¬(w.tmod 4=2):=by simpa using c2
  refine aj 0 ?_;refine aa 0 ?_;exact .drop 0 1 (.done ⟨_,_,by rw[show eT w=false by unfold eT;simp;omega];rfl,rfl⟩)
 ·have c2:w.tmod 4=2:=by simpa using c2
  refine dZ ?_;refine ao (fun c3=>?_) (fun c3=>?_)
  ·have c3:4294967296≤IntKind.u64.wrap (w.tdiv 4):=c3;refine aj 0 ?_;refine aa 0 ?_;exact .drop 0 1 (.done ⟨_,_,by rw[show eT w=false by unfold eT;simp;omega];rfl,rfl⟩)
  ·have c3:¬(4294967296≤IntKind.u64.wrap (w.tdiv 4)):=c3;refine dZ ?_;refine dZ ?_;refine dZ ?_
   (refine .mk [] _ (aiJ _ _ _) ?_;rintro _ _ ⟨x,y,rfl,rfl⟩)
   refine aj 0 ?_;refine aa 0 ?_;exact .drop 0 1 (.done ⟨_,_,by rw[show eT w=true by unfold eT;simp;omega];rfl,rfl⟩)
theorem I2(w:Int)(σ:Hp)(h0:0≤w)(h2:w<18446744073709551616):ACalls Tryz.prog 129 [.int .u64 w] σ (aC (.int .u64 (aM w)) σ):=by
 refine ay Tryz.func129 ?_;refine .mk [] _ (aiI w _ h0 h2) ?_;rintro _ _ ⟨x,y,rfl,rfl⟩;cases hn:eT w
 ·intro aF;refine aj 0 ?_;refine dX (fun c2=>?_) (fun c2=>?_)
  ·have c2:¬(w=0):=by simpa using c2
   exact .drop 0 1 (.done ⟨aT (by simp[aM, *]),rfl⟩)
  ·have c2:w=0:=by simpa using c2
   exact .drop 0 1 (.done ⟨aT (by simp[aM, *]),rfl⟩)
 ·have aS:=Mt hn;intro aF;refine aj 0 ?_;refine dX (fun c2=>?_) (fun c2=>?_)
  ·have c2:¬(w=0):=by simpa using c2
   exact .drop 0 1 (.done ⟨aT (by simp[aM, *]),rfl⟩)
  ·have c2:w=0:=by simpa using c2
   exact .drop 0 1 (.done ⟨aT (by simp[aM, *]),rfl⟩)
theorem ahI(a b:Int)(σ:Hp)(h0:0≤a)(h1:0≤b)(h2:a<18446744073709551616)(h3:b<18446744073709551616):ACalls Tryz.prog 231 [.int .u64 a,.int .u64 b] σ (aC (.int .u64 (kS a b)) σ):=by
 refine ay Tryz.func231 ?_;refine ax [] (I2 _ _ h0 h2) ?_;refine ax [] (I2 _ _ h1 h3) ?_;refine ao (fun c1=>?_) (fun c1=>?_)
 ·have c1:aM a=0:=c1;exact .done ⟨aT (by unfold kS;split <;> (try split) <;> omega),rfl⟩
 ·have c1:¬(aM a=0):=c1;refine ao (fun c2=>?_) (fun c2=>?_)
  ·have c2:aM a=aM b:=c2;exact .done ⟨aT (by unfold kS;split <;> (try split) <;> omega),rfl⟩
  ·have c2:¬(aM a=aM b):=c2;refine ao (fun c3=>?_) (fun c3=>?_)
   ·have c3:aM b=0:=c3;exact .done ⟨aT (by unfold kS;split <;> (try split) <;> omega),rfl⟩
   ·have c3:¬(aM b=0):=c3;exact .done ⟨aT (by unfold kS;split <;> (try split) <;> omega),rfl⟩
theorem ahF(what a b:Int)(σ:Hp)(h0:0≤a)(h1:0≤b)(h2:a<18446744073709551616)(h3:b<18446744073709551616):ACalls Tryz.prog 177 [.int .i64 what,.int .u64 a,.int .u64 b] σ (aC (.int .u64 (da what a b)) σ):=by
 refine ay Tryz.func177 ?_;refine ao (fun c1=>?_) (fun c1=>?_)
 ·have c1:what=1:=c1;exact .done ⟨aT (by simp[da, *]),rfl⟩
 ·have c1:¬(what=1):=c1;refine ao (fun c2=>?_) (fun c2=>?_)
  ·have c2:what=2:=c2;exact .done ⟨aT (by simp[da, *]),rfl⟩
  ·have c2:¬(what=2):=c2;refine ao (fun c3=>?_) (fun c3=>?_)
   ·have c3:what=3:=c3;refine ax [] (ahI _ _ _ h0 h1 h2 h3) ?_;exact .done ⟨aT (by simp[da, *]),rfl⟩
   ·have c3:¬(what=3):=c3;exact .done ⟨aT (by simp[da, *]),rfl⟩
def wd(a:List Int)(i:Nat):Int:=(a[i]?).getD 0
def bK(z:Int):Prop:=0≤z∧z<18446744073709551616
def bh(l:List Int):Prop:=∀z∈l,bK z
theorem D6(n:Int):bK (IntKind.u64.wrap n):=by rw[IntKind.wrap_u64];unfold bK;omega
theorem Ir{w:Int}(h:bK w):bK (aM w):=by
 unfold aM;split
 ·exact⟨by decide,by decide⟩
 ·split
  ·exact⟨by decide,by decide⟩
  ·split
   ·exact h
   ·exact⟨by decide,by decide⟩
theorem U6{what a b:Int}(ha:bK a)(hb:bK b):bK (da what a b):=by
 unfold da;split
 ·exact D6 _
 ·split
  ·exact D6 _
  ·split
   ·unfold kS;split
    ·exact Ir ha
    ·split
     ·exact Ir hb
     ·exact⟨by decide,by decide⟩
   ·exact⟨by decide,by decide⟩
theorem lG{l:List Int}(h:bh l)(i:Nat):bK (wd l i):=by
 unfold wd;cases hq:l[i]? with
 |none=>exact⟨by decide,by decide⟩
 |some x=>exact h x (bU hq)
end Go.Proofs.YtnikdflhefijbaaGreat
