import Derived.WalkMore
import Derived.Test.YtnikdflhefijbaaGreatBs4
import Derived.Test.YtnikdflhefijbaaGreatBs1
namespace Go.Proofs.YtnikdflhefijbaaGreat
open Go.RowKit
section
variable {P:Program} {TT:TypeId→Option TI}
def Ct(n:Nat)(o:Oper):Bool:=(match o.dst with | some d=>Nat.blt d n | none=>true)&&(match o.op with | .defer _=>false | _=>true)
def codeOk(n:Nat):Bool→Code→Bool
 |_,.region _ ops _=>ops.toList.all (Ct n)
 |rd,.seq a b=>codeOk n rd a&&codeOk n rd b
 |rd,.cond _ a b=>codeOk n rd a&&codeOk n rd b
 |rd,.block _ c=>codeOk n rd c
 |rd,.loop c=>codeOk n rd c
 |rd,.scope c=> !rd&&codeOk n false c
 |rd,.rangeFunc _ ps a b=> !rd&&ps.toList.all (fun p=>Nat.blt p n)&&codeOk n true a&&codeOk n true b
 |_,_=>true
theorem Z1{n:Nat}{rd:Bool}:∀(c:Code) (l:Nat) (r:Code),findLabel c l=some r→codeOk n rd c=true→codeOk n rd r=true:=by
 intro c
 induction c with
 |seq a b iha LW=>
  intro l r h hc;simp only[codeOk,bS]at hc;simp only[findLabel]at h;split at h
  ·rename_i rest hr
   cases h;simp only[codeOk,bS];exact⟨iha l _ hr hc.1,hc.2⟩
  ·exact LW l r h hc.2
 |label l'=>
  intro l r h _;simp only[findLabel]at h;split at h
  ·cases h;rfl
  ·cases h
 |_=>intro l r h;simp[findLabel]at h
theorem ae7{n:Nat}{ops:List Oper}(h:ops.all (Ct n)=true):∀o∈ops,∀d,o.dst=some d→d<n:=fun o ho d hd=>by
 have:=fq.1 h o ho;unfold Ct at this;rw[hd,bS]at this;exact cj this.1
theorem aeY{n:Nat}{ops:List Oper}(h:ops.all (Ct n)=true):∀o∈ops,∀c,o.op≠.defer c:=fun o ho c hc=>by
 have:=fq.1 h o ho;unfold Ct at this;rw[hc,bS]at this;cases this.2
theorem Vc{F:Fence}{n:Nat}{c:Code}{Q:Exit→Act→World→Prop}{a:Act}{w:World}(J:Nat→Act→World→Prop)(m:Nat)(ag0:J m a w)
  (round:∀m a w,J m a w→c.wpIn F n P (Exit.then (fun a' w'=>∃m',m'<m∧J m' a' w') Q) a w):(Code.loop c).wpIn F n P Q a w:=by
 intro b k cs mw hb hr
 have key:∀n a w,J n a w→∃e a' w',Q e a' w'∧ArrivesIn (Machine.fenced P F) P (lone (b.atR a (.code c::.inLoop c::k)) cs w) b k cs e a' w':=by
  intro n
  induction n using Nat.strongRecOn with
  |_ n ih=>
   intro a w hI;obtain⟨e,sc,rZ,hq,pV⟩:=round n a w hI b (.inLoop c::k) cs mw hb hr;cases e with
   |normal=>
    obtain⟨m',ab,afe⟩:=hq;obtain⟨agQ,An,Ad,wD,zA⟩:=ih m' ab sc rZ afe;exact⟨agQ,An,Ad,wD,.of_steps (StepsIn.trans pV (.one (fenced_calm hb hr rfl) stepR_inLoop)) zA⟩
   |exit id=>exact⟨_,sc,rZ,hq,.pass (x:=.inLoop c) rfl (fun _ _=>.inl (by simp)) pV⟩
   |goto l=>exact⟨_,sc,rZ,hq,.pass (x:=.inLoop c) rfl (fun _ _=>.inl (by simp)) pV⟩
   |ret=>exact⟨_,sc,rZ,hq,.pass (x:=.inLoop c) rfl (fun _ _=>.inl (by simp)) pV⟩
   |panic ch=>exact⟨_,sc,rZ,hq,.pass (x:=.inLoop c) rfl (fun _ _=>.inl (by simp)) pV⟩
   |outgrown=>exact⟨_,sc,rZ,hq,.pass (x:=.inLoop c) rfl (fun _ _=>.inl (by simp)) pV⟩
 obtain⟨e,a',w',hq,pV⟩:=key m a w ag0;exact⟨e,a',w',hq,.of_steps (.one (fenced_calm hb hr rfl) stepR_loop) pV⟩
def Ex.up:Ex→Exit
 |.normal=>.normal
 |.exit id=>.exit id
 |.goto l=>.goto l
 |.ret=>.ret
inductive Ac(P:Program)(c:Code)(Q:Exit→Act→World→Prop):Exit→Act→World→Prop where
 |normal {a:Act} {w:World} (h:Q .normal a w):Ac P c Q .normal a w
 |exit {id:Nat} {a:Act} {w:World} (h:Q (.exit id) a w):Ac P c Q (.exit id) a w
 |ret {a:Act} {w:World} (h:Q .ret a w):Ac P c Q .ret a w
 |goto {l:Nat} {a:Act} {w:World} (n:Nat) (J:Nat→Nat→Act→World→Prop) (h:J n l a w) (hr:∀n l a w,J n l a w→∃r,findLabel c l=some r∧r.wp P (fun e a' w'=>match e with | .goto l'=>∃n',n'<n∧J n' l' a' w' | .panic _=>False | .outgrown=>False | e=>Q e a' w') a w):Ac P c Q (.goto l) a w
theorem Vp{c:Code}{Q:Exit→Act→World→Prop}{a:Act}{w:World}(h:c.wp P (Ac P c Q) a w):(Code.scope c).wp P Q a w:=by
 intro b k cs;obtain⟨e,sc,rZ,hq,pV⟩:=h b (.inScope c::k) cs;have top:Steps P (lone (b.at a (.code (.scope c)::k)) cs w) (lone (b.at a (.code c::.inScope c::k)) cs w):=.one step_scope;cases hq with
 |normal h=>exact⟨.normal,sc,rZ,h,.of_steps top (Steps.trans pV (.one step_inScope))⟩
 |exit h=>exact⟨.exit _,sc,rZ,h,.of_steps top (fun k' hk=>pV k' (by simp[exitTo,hk]))⟩
 |ret h=>exact⟨_,sc,rZ,h,.of_steps top pV⟩
 | @goto l _ _ n J hJ hr=>
  have key:∀(n l:Nat) (a:Act) (w:World),J n l a w→∃rest,findLabel c l=some rest∧∃e a' w',Q e a' w'∧Arrives P (lone (b.at a (.code rest::.inScope c::k)) cs w) b k cs e a' w':=by
   intro n
   induction n using Nat.strongRecOn with
   |_ n ih=>
    intro l a w hI;obtain⟨r,hl,hwp⟩:=hr n l a w hI;refine⟨r,hl,?_⟩;obtain⟨e,An,Ad,wD,zA⟩:=hwp b (.inScope c::k) cs;cases e with
    |normal=>exact⟨.normal,An,Ad,wD,Steps.trans zA (.one step_inScope)⟩
    |exit id=>exact⟨.exit id,An,Ad,wD,fun k' hk=>zA k' (by simp[exitTo,hk])⟩
    |goto l'=>
     obtain⟨n',ab,hJ'⟩:=wD;obtain⟨rest,hf,Lt,Lz,K7,KO,J1⟩:=ih n' ab l' An Ad hJ';have hg:gotoIn l' (.inScope c::k)=some (.code rest::.inScope c::k):=by simp[gotoIn,hf]
     exact⟨Lt,Lz,K7,KO,.of_steps (zA _ hg) J1⟩
    |ret=>exact⟨_,An,Ad,wD,zA⟩
    |panic ch=>exact wD.elim
    |outgrown=>exact wD.elim
  obtain⟨rest,hf,Lt,Lz,K7,KO,J1⟩:=key n l sc rZ hJ;have hg:gotoIn l (.inScope c::k)=some (.code rest::.inScope c::k):=by simp[gotoIn,hf]
  exact⟨Lt,Lz,K7,KO,.of_steps top (.of_steps (pV _ hg) J1)⟩
theorem dC.cb{B n:Nat}{F:Nat→Prop}{w:World}{t t':Tm}{σ:Hp}{a:Act}(hs:dC B n F w t σ a){j b off len es:Nat}{cs:List AV}{e:Sh}{l:List e.T}(h1:σ[j]?=some (b,cs))(h2:(cs.drop off).take (len*es)=l.flatMap e.cells)(h3:l.length=len∧e.size=es∧0<es)(h4:∀i,eB b off len es e l (t i) (t' i)):
  ∃F',bH F w F' w∧dC B n F' w t' (σ.eraseIdx j) a:=by
 obtain⟨aq,nQ,hh⟩:=uw hs.hp h1 h2 h3;exact⟨_,aq,fun i=>xI aq hh (h4 i) _ (hs.tm i),nQ,hs.size,hs.defers.mono aq⟩
theorem dC.wrap{B n:Nat}{F:Nat→Prop}{w:World}{t:Tm}{σ:Hp}{a:Act}(hs:dC B n F w t σ a){k:Nat}{v:AV}(h1:t k=v)(h2:v.leaf=true):dC B n F w (mr t [(k,.via v)]) σ a:=
 ⟨fun i=>by
  show aD F w (match Nat.beq i k with | true=>.via v | false=>t i) _;cases hb:Nat.beq i k with
  |true=>rw[ju hb];exact .via _ _ h2 (h1▸hs.tm k)
  |false=>exact hs.tm i,hs.hp,hs.size,hs.defers⟩
theorem Xg(ok:dP P TT)(hm:P.follows .mixedOrders=true){r:Option Nat}{B n:Nat}{ops:Array Oper}{K:Tm→Hp→Prop}{Q:Exit→Act→World→Prop}{t:Tm}{σ:Hp}(hd:∀o∈ops.toList,∀d,o.dst=some d→d<n)(cm:∀o∈ops.toList,∀c,o.op≠.defer c)(h:gn P TT ops.toList K t σ):∀{F:Nat→Prop} {w:World} {a:Act} {id:Nat},dC B n F w t σ a→
  (∀t' σ' F' w' a',bH F w F' w'→dC B n F' w' t' σ' a'→K t' σ'→Q .normal a' w')→(Code.region id ops true).wpIn (FW r) 0 P Q a w:=by
 induction h with
 |quiet h0 h=>exact fun hs hq=>VO ok hm h0 h hd cm hs (fun t' F' w' a' h1 h2 h3=>hq t' _ F' w' a' h1 h2 h3)
 |each h0 h=>exact fun hs hq=>OX ok hm h0 h hd cm hs (fun t' σ' F' w' a' h1 h2 h3=>hq t' σ' F' w' a' h1 h2 h3)
 |sched Q0 s h0 h=>exact fun hs hq=>N4 ok hm h0 h hd cm hs (fun t' σ' F' w' a' h1 h2 h3=>hq t' σ' F' w' a' h1 h2 h3)
 |meet L H h0 h go=>
  intro F w a id hs hq;refine OX ok hm h0 h hd cm hs (fun t' σ' F' w' a' h1 h2 h3=>?_);obtain⟨s,k1,k2⟩:=h3;refine hq t' (H s) F' w' a' h1 (h2.dT k2) ?_;rw[zm k1];exact go s t'
 |Gm Q0 s0 L H h0 h go=>
  intro F w a id hs hq;refine N4 ok hm h0 h hd cm hs (fun t' σ' F' w' a' h1 h2 h3=>?_);obtain⟨s,k1,k2⟩:=h3;refine hq t' (H s) F' w' a' h1 (h2.dT k2) ?_;rw[zm k1];exact go s t'
 |cb j b off len es cs e l h1 h2 h3 h4 h ih=>
  intro F w a id hs hq;obtain⟨F1,k1,k2⟩:=hs.cb h1 h2 h3 h4;exact ih k2 (fun t' σ' F' w' a' q1 q2 q3=>hq t' σ' F' w' a' (k1.trans q1) q2 q3)
 |dT h1 h ih=>
  intro F w a id hs hq;exact ih (hs.dT h1) hq
theorem dC.jZ{B n:Nat}{F:Nat→Prop}{w:World}{t:Tm}{σ:Hp}{a:Act}(hs:dC B n F w t σ a){j b off len es:Nat}{cs:List AV}{e:Sh}{l:List e.T}(h1:σ[j]?=some (b,cs))(h2:(cs.drop off).take (len*es)=l.flatMap e.cells)(h3:l.length=len∧e.size=es∧0<es){i k b':Nat}{cs':List AV}(hi:(σ.eraseIdx j)[i]?=some (b',cs'))(hk:cs'[k]?=some (.af b off len es)):
  ∃F',bH F w F' w∧dC B n F' w t ((σ.eraseIdx j).set i (b',cs'.set k (.ae e l))) a:=by
 obtain⟨aq,nQ,hh⟩:=uw hs.hp h1 h2 h3;exact⟨_,aq,fun i=>(hs.tm i).mono aq,BF nQ hh hi hk,hs.size,hs.defers.mono aq⟩
theorem dC.nil{B n:Nat}{F:Nat→Prop}{w:World}{t t':Tm}{σ:Hp}{a:Act}(hs:dC B n F w t σ a)(h4:∀i,eB 0 0 0 0 .bool [] (t i) (t' i)):dC B n F w t' σ a:=
 ⟨fun i=>xI (.refl _ _) (fun v hv=>by
  obtain⟨a,cap,rfl,c,T,fz,m1,m2,m3,m4⟩:=hv.kK
  exact .ae _ _ _ ⟨some a,cap,rfl,m2,m3,(fun e=>by cases e),fun bf=>absurd rfl bf⟩) (h4 i) _ (hs.tm i),hs.hp,hs.size,hs.defers⟩
theorem Yc{B n:Nat}{S:Type}{L:S→List (Nat×AV)}{H:S→Hp}{p:S→Prop}{μ:S→Nat}{s:S}{t':Tm}{σ':Hp}(h:oR L H p μ s t' σ'):∀{F:Nat→Prop} {w:World} {a:Act},dC B n F w t' σ' a→
  ∃F' t2 s',bH F w F' w∧dC B n F' w t2 (H s') a∧μ s'<μ s∧p s'∧agree t2 (L s'):=by
 induction h with
 |mk s' h1 h2 h3 h4=>exact fun hs=>⟨_,_,s',.refl _ _,hs.dT h4,h1,h2,h3⟩
 |cb j b off len es cs e l h1 h2 h3 h4 h ih=>
  intro F w a hs;obtain⟨F1,k1,k2⟩:=hs.cb h1 h2 h3 h4;obtain⟨F2,t2,s',q1,q2,q3⟩:=ih k2;exact⟨F2,t2,s',k1.trans q1,q2,q3⟩
 |jZ j b off len es cs e l h1 h2 h3 i k b' cs' hi hk h ih=>
  intro F w a hs;obtain⟨F1,k1,k2⟩:=hs.jZ h1 h2 h3 hi hk;obtain⟨F2,t2,s',q1,q2,q3⟩:=ih k2;exact⟨F2,t2,s',k1.trans q1,q2,q3⟩
 |dT h1 h ih=>exact fun hs=>ih (hs.dT h1)
 |nil h4 h ih=>exact fun hs=>ih (hs.nil h4)
theorem Yd{B n:Nat}{S:Type}{fS:S→Nat}{L:S→List (Nat×AV)}{H:S→Hp}{p:S→Prop}{μ:S→Nat}{s:S}{l:Nat}{t':Tm}{σ':Hp}(h:qR fS L H p μ s l t' σ'):∀{F:Nat→Prop} {w:World} {a:Act},dC B n F w t' σ' a→
  ∃F' t2 s',bH F w F' w∧dC B n F' w t2 (H s') a∧l=fS s'∧μ s'<μ s∧p s'∧agree t2 (L s'):=by
 induction h with
 |mk s' h0 h1 h2 h3 h4=>exact fun hs=>⟨_,_,s',.refl _ _,hs.dT h4,h0,h1,h2,h3⟩
 |cb j b off len es cs e l h1 h2 h3 h4 h ih=>
  intro F w a hs;obtain⟨F1,k1,k2⟩:=hs.cb h1 h2 h3 h4;obtain⟨F2,t2,s',q1,q2,q3⟩:=ih k2;exact⟨F2,t2,s',k1.trans q1,q2,q3⟩
 |jZ j b off len es cs e l h1 h2 h3 i k b' cs' hi hk h ih=>
  intro F w a hs;obtain⟨F1,k1,k2⟩:=hs.jZ h1 h2 h3 hi hk;obtain⟨F2,t2,s',q1,q2,q3⟩:=ih k2;exact⟨F2,t2,s',k1.trans q1,q2,q3⟩
 |dT h1 h ih=>exact fun hs=>ih (hs.dT h1)
 |nil h4 h ih=>exact fun hs=>ih (hs.nil h4)
theorem WW{r:Option Nat}{B n:Nat}{c:Code}{body:Tm→Hp→(Ex→Tm→Hp→Prop)→Prop}(hb:∀(t:Tm) (σ:Hp) (K:Ex→Tm→Hp→Prop) (F:Nat→Prop) (w:World) (a:Act) (Q:Exit→Act→World→Prop),body t σ K→dC B n F w t σ a→
   (∀e t' σ' F' w' a',bH F w F' w'→dC B n F' w' t' σ' a'→K e t' σ'→Q e.up a' w')→c.wpIn (FW r) 0 P Q a w) {K:Ex→Tm→Hp→Prop} {t:Tm} {σ:Hp} (h:mj body K t σ):∀{F:Nat→Prop} {w:World} {a:Act} {Q:Exit→Act→World→Prop},dC B n F w t σ a→
  (∀e t' σ' F' w' a',bH F w F' w'→dC B n F' w' t' σ' a'→K e t' σ'→Q e.up a' w')→(Code.loop c).wpIn (FW r) 0 P Q a w:=by
 induction h with
 | @mk t σ S L H p μ s0 h0 hr=>
  intro F w a Q hs hq;refine Vc (fun m a' w'=>∃t' σ' F',bH F w F' w'∧dC B n F' w' t' σ' a'∧Head L H p μ m t' σ') (μ s0) ⟨t,σ,F,.refl _ _,hs,s0,t,rfl,h0.1,zm h0.2.1,h0.2.2⟩ ?_;rintro m a1 w1 ⟨_,_,F1,s1,r1,ss,g,rfl,hp,rfl,rfl⟩;refine hb _ _ _ F1 w1 a1 _ (hr ss g hp) r1 ?_;intro e t' σ' F' w' a' h1 h2 h3;cases e with
  |normal=>
   obtain⟨F2,t2,s',q1,q2,k1,k2,k3⟩:=Yc h3 h2;exact⟨_,k1,t2,_,F2,s1.trans (h1.trans q1),q2,s',t2,rfl,k2,zm k3,rfl⟩
  |exit id=>exact hq (.exit id) t' σ' F' w' a' (s1.trans h1) h2 h3
  |goto l=>exact hq (.goto l) t' σ' F' w' a' (s1.trans h1) h2 h3
  |ret=>exact hq .ret t' σ' F' w' a' (s1.trans h1) h2 h3
 |cb j b off len es cs e l h1 h2 h3 h4 h ih=>
  intro F w a Q hs hq;obtain⟨F1,k1,k2⟩:=hs.cb h1 h2 h3 h4;exact ih k2 (fun e t' σ' F' w' a' q1 q2 q3=>hq e t' σ' F' w' a' (k1.trans q1) q2 q3)
 |dT h1 h ih=>
  intro F w a Q hs hq;exact ih (hs.dT h1) hq
 |wrap k v h1 h2 h ih=>
  intro F w a Q hs hq;exact ih (hs.wrap h1 h2) hq
 |nil h4 h ih=>
  intro F w a Q hs hq;exact ih (hs.nil h4) hq
theorem W7{B n:Nat}{c:Code}{R:Nat→Tm→Hp→(Ex→Tm→Hp→Prop)→Prop}(hR:∀(l:Nat) (t:Tm) (σ:Hp) (K:Ex→Tm→Hp→Prop) (F:Nat→Prop) (w:World) (a:Act) (Q:Exit→Act→World→Prop),R l t σ K→dC B n F w t σ a→
   (∀e t' σ' F' w' a',bH F w F' w'→dC B n F' w' t' σ' a'→K e t' σ'→Q e.up a' w')→∃r,findLabel c l=some r∧r.wp P Q a w) {l:Nat} {K:Ex→Tm→Hp→Prop} {t:Tm} {σ:Hp} (h:qS R l K t σ):∀{F:Nat→Prop} {w:World} {a:Act} {Q:Exit→Act→World→Prop},dC B n F w t σ a→
  (∀e t' σ' F' w' a',bH F w F' w'→dC B n F' w' t' σ' a'→K e t' σ'→(∀l,e≠.goto l)→Q e.up a' w')→Ac P c Q (.goto l) a w:=by
 induction h with
 | @fwd t σ k h=>
  intro F w a Q hs hq;refine .goto k (fun k l a' w'=>∃t' σ' F',bH F w F' w'∧dC B n F' w' t' σ' a'∧TX R k l t' σ' K) ⟨t,σ,F,.refl _ _,hs,h⟩ ?_;rintro k l a1 w1 ⟨t1,j0,F1,s1,r1,h⟩;cases k with
  |zero=>exact h.elim
  |succ k=>
   refine hR l t1 j0 _ F1 w1 a1 _ h r1 ?_;intro e t' σ' F' w' a' h1 h2 h3;cases e with
   |normal=>exact hq .normal t' σ' F' w' a' (s1.trans h1) h2 h3 (by simp)
   |exit id=>exact hq (.exit id) t' σ' F' w' a' (s1.trans h1) h2 h3 (by simp)
   |goto l=>exact⟨k,A0 _,t',σ',F',s1.trans h1,h2,h3⟩
   |ret=>exact hq .ret t' σ' F' w' a' (s1.trans h1) h2 h3 (by simp)
 | @loop t σ S fS L H p μ s0 h0 hr=>
  intro F w a Q hs hq;refine .goto (μ s0) (fun m l a' w'=>∃s g F',bH F w F' w'∧dC B n F' w' (mr g (L s)) (H s) a'∧m=μ s∧l=fS s∧p s) ⟨s0,t,F,.refl _ _,?_,rfl,h0.1,h0.2.1⟩ ?_
  ·rw[← zm h0.2.2.1];exact hs.dT h0.2.2.2
  rintro m l a1 w1 ⟨s,g,F1,s1,r1,rfl,rfl,hp⟩;refine hR (fS s) _ _ _ F1 w1 a1 _ (hr s g hp) r1 ?_;intro e t' σ' F' w' a' h1 h2 h3;cases e with
  |normal=>exact hq .normal t' σ' F' w' a' (s1.trans h1) h2 h3 (by simp)
  |exit id=>exact hq (.exit id) t' σ' F' w' a' (s1.trans h1) h2 h3 (by simp)
  |goto l=>
   obtain⟨F2,t2,s',q1,q2,k0,k1,k2,k3⟩:=Yd h3 h2;refine⟨_,k1,s',t2,F2,s1.trans (h1.trans q1),?_,rfl,k0,k2⟩;rw[← zm k3];exact q2
  |ret=>exact hq .ret t' σ' F' w' a' (s1.trans h1) h2 h3 (by simp)
 |cb j b off len es cs e l h1 h2 h3 h4 h ih=>
  intro F w a Q hs hq;obtain⟨F1,k1,k2⟩:=hs.cb h1 h2 h3 h4;exact ih k2 (fun e t' σ' F' w' a' q1 q2 q3 q4=>hq e t' σ' F' w' a' (k1.trans q1) q2 q3 q4)
 |dT h1 h ih=>
  intro F w a Q hs hq;exact ih (hs.dT h1) hq
 |wrap k v h1 h2 h ih=>
  intro F w a Q hs hq;exact ih (hs.wrap h1 h2) hq
structure NC(F:Nat→Prop)(w:World)(F':Nat→Prop)(w':World):Prop where
 sub:∀b,FC F w b→F' b
 cells:∀b,nD w b→w'.heap[b]?=w.heap[b]?
theorem NC.at_{F F':Nat→Prop}{w w':World}(h:NC F w F' w'){b:Nat}(hc:nD w b):nD w' b:=by
 obtain⟨c,T,fz,e⟩:=hc;exact⟨c,T,fz,(h.cells b ⟨c,T,fz,e⟩).trans e⟩
theorem NC.fc{F F':Nat→Prop}{w w':World}(h:NC F w F' w'){b:Nat}(hf:FC F w b):FC F' w' b:=⟨h.sub b hf,h.at_ hf.2⟩
theorem kI.nc{F F':Nat→Prop}{w w':World}(hn:NC F w F' w'):∀(s:Sh) (cs:List Value) (d:s.T),kI F w s cs d→kI F' w' s cs d:=by
 intro s
 induction s with
 |int k=>exact fun _ _ h=>h
 |bool=>exact fun _ _ h=>h
 |str=>exact fun _ _ h=>h
 |nil=>exact fun _ _ h=>h
 |slice e ih=>
  rintro cs l ⟨a,c,h1,h2,h3,h0,h4⟩;refine⟨a,c,h1,h2,h3,h0,fun bf=>?_⟩;obtain⟨b,o,rfl,hF,hi⟩:=h4 bf;refine⟨b,o,rfl,hn.fc hF,fun i h=>?_⟩;obtain⟨cs',q1,q2,q3⟩:=hi i h;exact⟨cs',q1,q2.fix (hn.cells b hF.2),ih _ _ q3⟩
 |field f r qf jH=>
  rintro cs d ⟨c1,c2,h1,h2,h3,h4⟩;exact⟨c1,c2,h1,h2,qf _ _ h3,jH _ _ h4⟩
theorem aD.nc{F F':Nat→Prop}{w w':World}(hn:NC F w F' w'){x:AV}{v:Value}(h:aD F w x v):aD F' w' x v:=by
 induction h with
 |int k n=>exact .int k n
 |bool b=>exact .bool b
 |str s=>exact .str s
 |ae e l v h=>exact .ae e l v (kI.nc hn _ _ _ h)
 |kj a=>exact .kj a
 |gz a c h=>exact .gz a c h
 |ag=>exact .ag
 |af b off len e a cap h=>
  obtain⟨c,T,fz,h1,h2⟩:=h;exact .af b off len e a cap ⟨c,T,fz,(hn.cells b ⟨c,T,fz,h1⟩).trans h1,h2⟩
 |cR=>exact .cR
 |ptr b off h=>exact .ptr b off (hn.at_ h)
 |mX b=>exact .mX b
 |nk b=>exact .nk b
 |fQ cs b o f hF h1 hl h ih=>exact .fQ cs b o f (hn.fc hF) (fun i x hx=>(JE (hn.cells b hF.2) _).trans (h1 i x hx)) hl ih
 |agg cs vs hs hl h ih=>exact .agg cs vs hs hl ih
 |tup cs vs hs h ih=>exact .tup cs vs hs ih
 |iface t a v h ih=>exact .iface t a v ih
 |nilif=>exact .nilif
 |fn f c1 c2 v1 v2 fj dw h1 h2 Df De=>exact .fn f c1 c2 v1 v2 fj dw Df De
 |iE=>exact .iE
 |oW=>exact .oW
 |gi n b h=>exact .gi n b h
 |fK n m a b h1 h2=>exact .fK n m a b h1 h2
 |any v=>exact .any v
 |via x v hl h ih=>exact .via x v hl ih
theorem Holds.nc{F F':Nat→Prop}{w w':World}(hn:NC F w F' w'){b:Nat}{cs:List AV}(h:Holds F w b cs)(hb:w'.heap[b]?=w.heap[b]?)(hF:¬F' b):Holds F' w' b cs:=by
 obtain⟨_,⟨c,T,h1,h2,h3⟩ | ⟨x,o,h1,h2,h3⟩ | ⟨L,t,h1,h2,h3⟩⟩:=h
 ·exact⟨hF,.inl ⟨c,T,hb.trans h1,h2,fun i x hx=>⟨(h3 i x hx).1,(h3 i x hx).2.nc hn⟩⟩⟩
 ·exact⟨hF,.inr (.inl ⟨x,o,h1,hb.trans h2,h3⟩)⟩
 ·exact⟨hF,.inr (.inr ⟨L,t,h1,hb.trans h2,fun i=>(h3 i).nc hn⟩)⟩
theorem bA.nc{F F':Nat→Prop}{w w':World}{σ:Hp}(h:bA F w σ)(hn:NC F w F' w')(hk:∀p∈σ,w'.heap[p.1]?=w.heap[p.1]?∧¬F' p.1)(oX:∀b,F' b→b<w'.heap.size):bA F' w' σ:=
 ⟨h.nodup,fun p hp=>(h.holds p hp).nc hn (hk p hp).1 (hk p hp).2,oX⟩
theorem bA.out{F:Nat→Prop}{w:World}{σ:Hp}(h:bA F w σ){b:Nat}(hb:F b):∀p∈σ,p.1≠b:=fun p hp e=>(h.holds p hp).1 (e▸hb)
theorem Kk{F F':Nat→Prop}{w:World}{l:Nat}{L L':Loop}(hl:w.heap[l]?=some (.loop L))(hs:∀b,b≠l→F b→F' b):NC F w F' (w.putObj l (.loop L')) where
 sub:=fun b ⟨hF,c,T,fz,hc⟩=>hs b (fun e=>by subst e;rw[hl]at hc;cases hc) hF
 cells:=fun b ⟨c,T,fz,hc⟩=>World.putObj_heap_other (fun e=>by subst e;rw[hl]at hc;cases hc)
theorem Jr{w:World}{l:Nat}{L L':Loop}(hl:w.heap[l]?=some (.loop L))(b:Nat)(c:Array Value)(T:TypeId)(fz:Nat×Nat)(h:w.heap[b]?=some (.cells c T fz)):(w.putObj l (.loop L')).heap[b]?=some (.cells c T fz):=
 (World.putObj_heap_other (fun e=>by subst e;rw[hl]at h;cases h)).trans h
def zW:Ex→Code
 |.normal=>.skip
 |.exit i=>.exit i
 |.goto l=>.goto l
 |.ret=>.ret
def jX(fn:FuncId)(tm:Array Value)(ps:Array Tmp)(gk body:Code)(D:Nat)(st:LoopState)(pe:Option Code):Loop:= { state:=st,pending:=pe,fn,tmps:=tm,params:=ps,assign:=gk,body,defers:=D }
theorem SM{n:Nat}{F:Nat→Prop}{w:World}:∀(ps:List Tmp) (xs:List AV) (us:List Value) (t:Tm) (tm:Array Value),xs.length=us.length→ps.all (fun p=>Nat.blt p n)=true→n≤tm.size→(∀i,aD F w (t i) (tm.getD i undef))→(∀(i:Nat) (x:AV),xs[i]?=some x→aD F w x (us.getD i undef))→
  n≤((ps.zip us).foldl (fun t p=>t.setIfInBounds p.1 p.2) tm).size∧∀i,aD F w (Au ps xs t i) (((ps.zip us).foldl (fun t p=>t.setIfInBounds p.1 p.2) tm).getD i undef)
 | [],xs,us,t,tm,_,_,hs,ht,_=>by cases xs <;> exact⟨hs,ht⟩
 |p::ps,[],us,t,tm,hl,_,hs,ht,_=>by cases us with
  |nil=>exact⟨hs,ht⟩
  |cons u us=>cases hl
 |p::ps,x::xs,[],t,tm,hl,_,_,_,_=>by cases hl
 |p::ps,x::xs,u::us,t,tm,hl,hp,hs,ht,hx=>by
  simp only[List.all_cons,bS]at hp;have re:p<n:=cj hp.1;refine SM ps xs us (put t (some p) x) (tm.setIfInBounds p u) (by simpa using hl) hp.2 (by simpa using hs) (fun i=>?_) (fun i y hy=>by simpa using hx (i+1) y (by simpa using hy));show aD F w (match Nat.beq i p with | true=>x | false=>t i) _;cases hb:Nat.beq i p with
  |true=>
   obtain rfl:=ju hb;have hi:i<tm.size:=tN re hs;simpa [Array.getD,hi]using hx 0 x rfl
  |false=>
   have bf:p≠i:=fun e=>by subst e;rw[xq]at hb;cases hb
   have:=ht i;rw[gR]at this ⊢;rw[Ib bf];exact this
def Ge(P:Program)(B n l:Nat)(c:Code)(R:Tm→Hp→(Ex→Tm→Hp→Prop)→Prop):Prop:=
 ∀(t:Tm) (σ:Hp) (K:Ex→Tm→Hp→Prop) (F:Nat→Prop) (w:World) (a:Act) (Q:Exit→Act→World→Prop),R t σ K→dC B n F w t σ a→
  (∀e t' σ' F' w' a',bH F w F' w'→dC B n F' w' t' σ' a'→K e t' σ'→Q e.up a' w')→c.wpIn (FW (some l)) 0 P Q a w
theorem VJ{B n l D:Nat}{fn:FuncId}{tm:Array Value}{ps:Array Tmp}{gk body:Code}{t:Tm}{rA rB:Tm→Hp→(Ex→Tm→Hp→Prop)→Prop}(hB:B≤l)(hn:n≤tm.size)(w8:ps.toList.all (fun p=>Nat.blt p n)=true)
  (hA:Ge P B n l gk rA) (hb:Ge P B n l body rB) {xs:List AV} {j0:Hp} {R1:Ex→Hp→Prop} (L1:xs.length=ps.size)
  (h:rA (Au ps.toList xs t) j0 fun e t' σ'=>match e with | .normal=>rB t' σ' (fun e _ kg=>R1 e kg) | _=>False) :
  Gd P l xs ((l,[.mh (jX fn tm ps gk body D .ready none) t])::j0) (K5 l (.mh (jX fn tm ps gk body D .ready none) t) (fun e=>.mh (jX fn tm ps gk body D .done (some (zW e))) t) R1):=by
 intro F w vs bY aG;obtain⟨HE,hl,ob⟩:=(aG.holds _ (cF ..)).TL;have cm:=aG.nodup;simp only[pn,mD]at cm;have hll:l<w.heap.size:=tb hl;have dG:vs.size=ps.size:=bY.1.symm.trans L1;refine⟨fn,_,gk,body,run_yield hl dG,roundIn_of_wpIn trivial ?_⟩;have LJ:bH F w (fun b=>F b∨b=l) w:=⟨rfl,rfl,rfl,bg _,fun _ h=>.inl h,fun _ _=>rfl,fun _ c _ fz h=>⟨c,fz,h,rfl⟩,bg _⟩
 have bf:∀p∈j0,p.1≠l:=fun p hp e=>cm.1 (eW.2 ⟨p,hp,e⟩);have Le:bA (fun b=>F b∨b=l) w j0:=⟨cm.2,fun p hp=>(aG.holds p (dq _ hp)).mono LJ rfl (fun h=>h.elim (aG.holds p (dq _ hp)).1 (bf p hp)),fun b h=>h.elim (aG.low b) (fun e=>e▸hll)⟩
 have hz:(ps.zip vs).foldl (fun tmps (t,a)=>tmps.setIfInBounds t a) tm=(ps.toList.zip vs.toList).foldl (fun t p=>t.setIfInBounds p.1 p.2) tm:=by
  rw[← Array.foldl_toList,Array.toList_zip]
 obtain⟨k1,k2⟩:=SM (n:=n) (F:=fun b=>F b∨b=l) (w:=w) ps.toList xs vs.toList t tm (by rw[Nh];exact bY.1) w8 hn (fun i=>(ob i).mono LJ) (fun i x hx=>by
  have:=(bY.2 i x hx).mono LJ;rw[gR]at this;rw[bK,A3]
  exact this)
 refine hA _ _ _ _ w { tmps:=(ps.zip vs).foldl (fun tmps (t,a)=>tmps.setIfInBounds t a) tm,defers:=[] } _ h ⟨fun i=>by rw[hz];exact k2 i,Le,by rw[hz];exact k1,⟨by omega,.nil,fun d hd=>by cases hd⟩⟩ ?_;intro e t1 σ2 F1 w1 a1 st1 s1 h1;cases e with
 |exit i=>exact h1.elim
 |goto i=>exact h1.elim
 |ret=>exact h1.elim
 |normal=>
  have xb:w1.heap[l]?=some (.loop (jX fn tm ps gk body D .ready none)):=(st1.fix l (.inr rfl)).trans hl;have MO:F1 l:=st1.sub l (.inr rfl);have agp:l<w1.heap.size:=tb xb;refine⟨_,run_beginRound xb rfl,?_⟩;have l5:({ jX fn tm ps gk body D .ready none with state:=LoopState.busy }:Loop)=jX fn tm ps gk body D .busy none:=rfl;rw[l5];have nc1:NC F1 w1 F1 (w1.putObj l (.loop (jX fn tm ps gk body D .busy none))):=Kk xb fun _ _ h=>h;have Lp:(w1.putObj l (.loop (jX fn tm ps gk body D .busy none))).heap[l]?=some (.loop (jX fn tm ps gk body D .busy none)):=World.putObj_heap_same agp
  refine hb t1 σ2 _ F1 _ a1 _ h1 ⟨fun i=>(s1.tm i).nc nc1,s1.hp.nc nc1 (fun p hp=>⟨World.putObj_heap_other (s1.hp.out MO p hp),(s1.hp.holds p hp).1⟩) (fun b hb=>by rw[World.putObj_size];exact s1.hp.low b hb),s1.size,⟨by rw[World.putObj_size];exact s1.defers.low,s1.defers.nodup,fun d hd=>by
   obtain⟨D',q1,q2,q3,q4⟩:=s1.defers.is d hd;refine⟨D',q1,q2,q3,(World.putObj_heap_other (fun e=>?_)).trans q4⟩
   subst e;rw[xb]at q4;cases q4⟩⟩ ?_
  intro e t3 ee F3 w3 a3 o6 s3 h3;have hF3:F3 l:=o6.sub l MO;have rh:w3.heap[l]?=some (.loop (jX fn tm ps gk body D .busy none)):=(o6.fix l MO).trans Lp;have ago:l<w3.heap.size:=tb rh
  have fin:∀L':Loop,bH F w (fun b=>F3 b∧b≠l) (w3.putObj l (.loop L'))∧((∀i,L'.tmps.getD i undef=tm.getD i undef)→bA (fun b=>F3 b∧b≠l) (w3.putObj l (.loop L')) ((l,[.mh L' t])::ee)):=by
   intro L';have nc3:NC F3 w3 (fun b=>F3 b∧b≠l) (w3.putObj l (.loop L')):=Kk rh fun b hb h=>⟨h,hb⟩
   have stw:bH F w (fun b=>F3 b∧b≠l) (w3.putObj l (.loop L')):= {
    os:=o6.os.trans st1.os
    tape:=o6.tape.trans st1.tape
    output:=o6.output.trans st1.output
    size:=by
     have q1:=st1.size;have q3:=o6.size;rw[World.putObj_size]at q3 ⊢;omega
    sub:=fun b hF=>⟨o6.sub b (st1.sub b (.inl hF)),fun e=>HE (e▸hF)⟩
    fix:=fun b hF=>by
     have rq:b≠l:=fun e=>HE (e▸hF);rw[World.putObj_heap_other rq,o6.fix b (st1.sub b (.inl hF)),World.putObj_heap_other rq,st1.fix b (.inl hF)]
    rows:=fun b c T fz hc=>by
     obtain⟨c1,fz1,q1,q2⟩:=st1.rows b c T fz hc;obtain⟨c3,Ij,q3,q4⟩:=o6.rows b c1 T fz1 (Jr xb b c1 T fz1 q1);exact⟨c3,Ij,Jr rh b c3 T Ij q3,q4.trans q2⟩
    drawn:=dE st1.drawn o6.drawn }
   refine⟨stw,fun ag6=>⟨?_,fun p hp=>?_,fun b hb=>?_⟩⟩
   ·simp only[pn,mD];exact⟨fun hm=>by obtain⟨p,hp,e⟩:=eW.1 hm;exact s3.hp.out hF3 p hp e,s3.hp.nodup⟩
   ·rcases dW.1 hp with rfl | hp
    ·exact⟨fun h=>h.2 rfl,.inr (.inr ⟨L',t,rfl,World.putObj_heap_same ago,fun i=>by rw[ag6];exact (ob i).mono stw⟩)⟩
    ·exact (s3.hp.holds p hp).nc nc3 (World.putObj_heap_other (s3.hp.out hF3 p hp)) (fun h=>(s3.hp.holds p hp).1 h.1)
   ·rw[World.putObj_size];exact s3.hp.low b hb.1
  have KL:∀e:Ex,e≠.normal→R1 e ee→∃v w',(Instr.endRound l (some (zW e))).run P w3=.ok v w'∧∃r v' σ' F',Ending.returned v=.returned v'∧bH F w F' w'∧bA F' w' σ'∧aD F' w' r v'∧K5 l (.mh (jX fn tm ps gk body D .ready none) t) (fun e=>.mh (jX fn tm ps gk body D .done (some (zW e))) t) R1 r σ':=fun e he hr=>by
   obtain⟨q1,q2⟩:=fin (jX fn tm ps gk body D .done (some (zW e)));exact⟨_,_,run_endRound _ rh,.bool false,_,_,_,rfl,q1,q2 (fun _=>rfl),.bool _,.inr ⟨rfl,e,ee,he,rfl,hr⟩⟩
  cases e with
  |normal=>
   obtain⟨q1,q2⟩:=fin (jX fn tm ps gk body D .ready none);exact⟨_,_,run_endRound none rh,.bool true,_,_,_,rfl,q1,q2 (fun _=>rfl),.bool _,.inl ⟨rfl,ee,rfl,h3⟩⟩
  |exit i=>exact KL (.exit i) (by simp) h3
  |goto i=>exact KL (.goto i) (by simp) h3
  |ret=>exact KL .ret (by simp) h3
theorem VN{B n:Nat}{g:Operand}{ps:Array Tmp}{gk body:Code}{t:Tm}{gf:FuncId}{cap:List AV}{rA rB:Tm→Hp→(Ex→Tm→Hp→Prop)→Prop}(hg:ev t g=.fn (.func gf) [] cap)(w8:ps.toList.all (fun p=>Nat.blt p n)=true)
  (hA:∀l,Ge P B n l gk rA) (hb:∀l,Ge P B n l body rB) {K:Ex→Hp→Prop} {σ:Hp}
  (h:zR P gf cap ps.size (fun xs j0 R1=>rA (Au ps.toList xs t) j0 fun e t' σ'=>match e with | .normal=>rB t' σ' (fun e _ kg=>R1 e kg) | _=>False) K σ):∀{F:Nat→Prop} {w:World} {a:Act} {Q:Exit→Act→World→Prop},dC B n F w t σ a→
  (∀e σ' F' w' a',bH F w F' w'→dC B n F' w' t σ' a'→K e σ'→Q e.up a' w')→(Code.rangeFunc g ps gk body).wpIn (FW none) 0 P Q a w:=by
 induction h with
 |dT h1 h ih=>exact fun hs hq=>ih (hs.dT h1) hq
 | @mk σ go=>
  intro F w a Q hs hq;have Dy:=hs.tm.eval g;rw[hg]at Dy;cases hv:a.eval g with
  |func f' v1 lb=>
   rw[hv]at Dy;obtain⟨rfl,rfl,agz⟩:f'=.func gf∧v1 = #[]∧iS F w cap lb:=by cases Dy with | fn _ _ _ _ _ fj dw h1 h2=>exact⟨rfl,D9.1 fj.symm,dw,h2⟩
   refine wpIn_rangeFunc ?_;intro fn _;have e1:=run_enterLoop_outer (P:=P) (w:=w) fn a.tmps ps gk body;obtain⟨l,hle⟩:∃l,l=w.heap.size+1:=⟨_,rfl⟩
   obtain⟨D,hD⟩:∃D,D=w.heap.size:=⟨_,rfl⟩
   obtain⟨W1,vC⟩:∃W1,W1=(w.alloc (.deferred (some []))).alloc (.loop (jX fn a.tmps ps gk body D .ready none)):=⟨_,rfl⟩
   have hlW:W1.heap[l]?=some (.loop (jX fn a.tmps ps gk body D .ready none)):=by
    rw[vC,hle];have:=World.alloc_heap_new (w.alloc (.deferred (some []))) (.loop (jX fn a.tmps ps gk body D .ready none));rwa [World.size_alloc]at this
   have hDW:W1.heap[D]?=some (.deferred (some [])):=by
    rw[vC,hD];exact (Below.heap_alloc _ _ _ (by simp)).trans (World.alloc_heap_new w _)
   have hold:∀b,b<w.heap.size→W1.heap[b]?=w.heap[b]?:=fun b hb=>by
    rw[vC];exact (Below.heap_alloc _ _ b (by simp;omega)).trans (Below.heap_alloc _ _ b hb)
   have dG:W1.heap.size=w.heap.size+2:=by rw[vC];simp
   have st1:bH F w (fun b=>F b∨b=D) W1:=⟨by rw[vC];rfl,by rw[vC];rfl,by rw[vC];rfl,by omega,fun _ h=>.inl h,fun b hb=>hold b (hs.hp.low b hb),fun b c _ fz hc=>⟨c,fz,(hold b (tb hc)).trans hc,rfl⟩,by rw[vC];exact bg _⟩
   obtain⟨nT,eO⟩:=go l (.mh (jX fn a.tmps ps gk body D .ready none) t) (fun e=>.mh (jX fn a.tmps ps gk body D .done (some (zW e))) t) (fun xs j0 R1 L1 yS=>VJ (by have:=hs.defers.low;omega) hs.size w8 (hA l) (hb l) L1 yS)
   have Le:bA (fun b=>F b∨b=D) W1 ((l,[.mh (jX fn a.tmps ps gk body D .ready none) t])::σ):=by
    refine⟨?_,fun p hp=>?_,fun b hb=>?_⟩
    ·simp only[pn,mD];refine⟨fun hm=>?_,hs.hp.nodup⟩;obtain⟨p,hp,e⟩:=eW.1 hm;have:=(hs.hp.holds p hp).lt;omega
    ·rcases dW.1 hp with rfl | hp
     ·exact⟨fun h=>h.elim (fun h=>by have:l<w.heap.size:=hs.hp.low l h;omega) (fun h=>by have:l=D:=h;omega),.inr (.inr ⟨_,t,rfl,hlW,fun i=>(hs.tm i).mono st1⟩)⟩
     ·have ab:=(hs.hp.holds p hp).lt;exact (hs.hp.holds p hp).mono st1 (hold _ ab) (fun h=>h.elim (hs.hp.holds p hp).1 (fun e=>by omega))
    ·rcases hb with hb | hb
     ·have:=hs.hp.low b hb;omega
     ·omega
   have bY:iS (fun b=>F b∨b=D) W1 (.fn (.yield l) [] []::cap) (#[.func (.yield l) #[] #[]]++lb):=
    show iS _ _ ([.fn (.yield l) [] []]++cap) _ from Er (Pe (.fn _ _ _ _ _ rfl rfl (fun i x h=>by simp at h) (fun i x h=>by simp at h))) (agz.mono st1)
   have sn:∀d∈a.defers,d≠{ target:=.collected D,args:= #[] }:=fun d hd e=>by
    obtain⟨D',q1,_,_,q4⟩:=hs.defers.is d hd;rw[q1]at e;cases e;have:=tb q4;omega
   refine⟨l,[{ target:=.collected D,args:= #[] }],W1,{ target:=.fn (.func gf) lb,args:= #[.func (.yield l) #[] #[]] },W1,gf,#[.func (.yield l) #[] #[]]++lb,W1,?_,?_,fun _ _=>trivial,?_,fun hd=>(by cases hd),?_⟩
   ·rw[vC,hle,hD];exact e1
   ·simp only[resolve,hv];simp[go_sem]
   ·have:=nT (#[.func (.yield l) #[] #[]]++lb) W1;simpa [invoke]using this
   ·refine callsIn_wide.2 ((eO _ W1 _ bY Le).mono ?_);rintro e w3 ⟨rv,v,σ',F',rfl,o6,CM,_,hR⟩;have La:=st1.trans o6
    have fin:∀(L':Loop) (σ2:Hp),σ'=(l,[.mh L' t])::σ2→L'.state≠.busy→∃w4,(Instr.endLoop l).run P w3=.ok L'.pending w4∧bH F w F' w4∧dC B n F' w4 t σ2 { a with defers:=[{ target:=.collected D,args:= #[] }]++a.defers }:=by
     intro L' σ2 e aq;subst e;obtain⟨HE,rh,_⟩:=(CM.holds _ (cF ..)).TL;have cm:=CM.nodup;simp only[pn,mD]at cm;have bf:∀p∈σ2,p.1≠l:=fun p hp e=>cm.1 (eW.2 ⟨p,hp,e⟩);have nc:NC F' w3 F' (w3.putObj l (.loop { L' with state:=.exhausted })):=Kk rh fun _ _ h=>h;have hDF:F' D:=o6.sub D (.inr rfl);have LI:bH F' w3 F' (w3.putObj l (.loop { L' with state:=.exhausted })):=⟨rfl,rfl,rfl,by rw[World.putObj_size];exact bg _,fun _ h=>h,fun b hb=>World.putObj_heap_other (fun e=>HE (e▸hb)),fun b c T fz hc=>⟨c,fz,Jr rh b c T fz hc,rfl⟩,bg _⟩
     refine⟨_,run_endLoop rh aq,La.trans LI,fun i=>((hs.tm i).mono La).nc nc,?_,hs.size,?_⟩
     ·exact⟨cm.2,fun p hp=>(CM.holds p (dq _ hp)).nc nc (World.putObj_heap_other (bf p hp)) (CM.holds p (dq _ hp)).1,fun b hb=>by rw[World.putObj_size];exact CM.low b hb⟩
     ·have hm:=hs.defers.mono (La.trans LI);refine⟨hm.low,?_,fun d hd=>?_⟩
      ·simp only[AW,sA,mD];exact⟨fun h=>sn _ h rfl,hm.nodup⟩
      ·rcases dW.1 hd with rfl | hd
       ·exact⟨D,rfl,by have:=hs.defers.low;omega,hDF,(LI.fix D hDF).trans ((o6.fix D (.inr rfl)).trans hDW)⟩
       ·exact hm.is d hd
    rcases hR with ⟨σ2,e,hk⟩ | ⟨ex,σ2,bf,e,hk⟩
    ·obtain⟨w4,k1,k2,k3⟩:=fin _ σ2 e (by simp[jX]);exact⟨none,w4,k1,hq .normal σ2 F' w4 _ k2 k3 hk⟩
    ·obtain⟨w4,k1,k2,k3⟩:=fin _ σ2 e (by simp[jX]);refine⟨some (zW ex),w4,k1,?_⟩;have Md:=hq ex σ2 F' w4 _ k2 k3 hk;cases ex with
     |normal=>exact absurd rfl bf
     |exit i=>exact wpIn_exit Md
     |goto i=>exact wpIn_goto Md
     |ret=>exact wpIn_ret Md
  |_=>rw[hv]at Dy;cases Dy
theorem V8(ok:dP P TT)(hm:P.follows .mixedOrders=true){B n:Nat}:∀(fuel:Nat) (c:Code) (t:Tm) (σ:Hp) (K:Ex→Tm→Hp→Prop) (F:Nat→Prop) (w:World) (a:Act) (Q:Exit→Act→World→Prop) (r:Option Nat),codeOk n r.isSome c=true→mi P TT fuel c t σ K→dC B n F w t σ a→
  (∀e t' σ' F' w' a',bH F w F' w'→dC B n F' w' t' σ' a'→K e t' σ'→Q e.up a' w')→c.wpIn (FW r) 0 P Q a w:=by
 intro fuel
 induction fuel with
 |zero=>intro c t σ K F w a Q r _ h;exact h.elim
 |succ fuel ih=>
  intro c t σ K F w a Q r hc h hs hq;cases c with
  |skip=>exact wpIn_skip (hq .normal t σ F w a (.refl _ _) hs h)
  |label l=>exact wpIn_label (hq .normal t σ F w a (.refl _ _) hs h)
  |exit id=>exact wpIn_exit (hq (.exit id) t σ F w a (.refl _ _) hs h)
  |goto l=>exact wpIn_goto (hq (.goto l) t σ F w a (.refl _ _) hs h)
  |ret=>exact wpIn_ret (hq .ret t σ F w a (.refl _ _) hs h)
  |region id ops draw=>
   have hd:=ae7 (n:=n) (ops:=ops.toList) hc;have cm:=aeY (n:=n) (ops:=ops.toList) hc;cases draw with
   |false=>exact VK cm (IK ok ops.toList t σ _ F w a hd h hs (fun t' σ' F' w' a' h1 h2 h3=>hq .normal t' σ' F' w' a' h1 h2 h3))
   |true=>
    have h:gn P TT ops.toList (K .normal) t σ:=h;exact Xg ok hm hd cm h hs (fun t' σ' F' w' a' h1 h2 h3=>hq .normal t' σ' F' w' a' h1 h2 h3)
  |seq x y=>
   simp only[codeOk,bS]at hc;refine wpIn_seq (ih x t σ _ F w a _ r hc.1 h hs ?_);intro e t' σ' F' w' a' h1 h2 h3;cases e with
   |normal=>exact ih y t' σ' K F' w' a' Q r hc.2 h3 h2 (fun e yA kg nw lX ND k1 k2 k3=>hq e yA kg nw lX ND (h1.trans k1) k2 k3)
   |exit id=>exact hq (.exit id) t' σ' F' w' a' h1 h2 h3
   |goto l=>exact hq (.goto l) t' σ' F' w' a' h1 h2 h3
   |ret=>exact hq .ret t' σ' F' w' a' h1 h2 h3
  |cond x y z=>
   simp only[codeOk,bS]at hc;have h:(match ev t x with | .bool b=>(match b with | true=>mi P TT fuel y t σ K | false=>mi P TT fuel z t σ K) | _=>False):=h;have hx:=hs.tm.eval x;split at h
   ·rename_i b hb
    rw[hb]at hx;refine wpIn_cond (t:=b) hx.qO ?_;cases b with
    |true=>exact ih y t σ K F w a Q r hc.1 h hs hq
    |false=>exact ih z t σ K F w a Q r hc.2 h hs hq
   ·exact h.elim
  |block id c=>
   refine wpIn_block (ih c t σ _ F w a _ r hc h hs ?_);intro e t' σ' F' w' a' h1 h2 h3;cases e with
   |normal=>exact hq .normal t' σ' F' w' a' h1 h2 h3
   |exit i=>
    show (if i=id then Q .normal a' w' else Q (.exit i) a' w');have h3:(match Nat.beq i id with | true=>K .normal t' σ' | false=>K (.exit i) t' σ'):=h3;cases hb:Nat.beq i id with
    |true=>rw[hb]at h3;rw[az (ju hb)];exact hq .normal t' σ' F' w' a' h1 h2 h3
    |false=>
     rw[hb]at h3;rw[aB (fun e=>by subst e;rw[xq]at hb;cases hb)];exact hq (.exit i) t' σ' F' w' a' h1 h2 h3
   |goto l=>exact hq (.goto l) t' σ' F' w' a' h1 h2 h3
   |ret=>exact hq .ret t' σ' F' w' a' h1 h2 h3
  |loop c=>
   have h:mj (fun t σ Q=>mi P TT fuel c t σ Q) K t σ:=h;exact WW (fun t σ K F w a Q h hs hq=>ih c t σ K F w a Q r hc h hs hq) h hs hq
  |scope c=>
   simp only[codeOk,bS,j7]at hc;obtain⟨hr,hc⟩:=hc;obtain rfl:r=none:=by cases r with | none=>rfl | some l=>cases hr
   refine wpIn_wide.2 (Vp (wpIn_wide.1 (ih c t σ _ F w a _ none hc h hs ?_)));intro e t' σ' F' w' a' h1 h2 h3;cases e with
   |normal=>exact .normal (hq .normal t' σ' F' w' a' h1 h2 h3)
   |exit i=>exact .exit (hq (.exit i) t' σ' F' w' a' h1 h2 h3)
   |ret=>exact .ret (hq .ret t' σ' F' w' a' h1 h2 h3)
   |goto l=>
    have h3:qS (fun l t σ Q=>match findLabel c l with | some r=>mi P TT fuel r t σ Q | none=>False) l K t' σ':=h3
    exact W7 (fun l t σ K F w a Q h hs hq=>by
     have h:(match findLabel c l with | some r=>mi P TT fuel r t σ K | none=>False):=h;split at h
     ·rename_i r hr
      exact⟨r,hr,wpIn_wide.1 (ih r t σ K F w a Q none (Z1 c l r hr hc) h hs hq)⟩
     ·exact h.elim) h3 h2 (fun e yA kg nw lX ND k1 k2 k3 k4=>hq e yA kg nw lX ND (h1.trans k1) k2 k3)
  |rangeFunc g ps gk body=>
   simp only[codeOk,bS,j7]at hc;obtain⟨⟨⟨hr,w8⟩,AN⟩,vw⟩:=hc;obtain rfl:r=none:=by cases r with | none=>rfl | some l=>cases hr
   have h:(match ev t g with | .fn (.func gf) [] cap=>zR P gf cap ps.size (fun xs j0 R1=>mi P TT fuel gk (Au ps.toList xs t) j0 fun e t' σ'=>match e with | .normal=>mi P TT fuel body t' σ' (fun e _ kg=>R1 e kg) | _=>False) (fun e σ'=>K e t σ') σ | _=>False):=h;split at h
   ·rename_i gf cap hg
    exact VN hg w8 (fun l t σ K F w a Q h hs hq=>ih gk t σ K F w a Q (some l) AN h hs hq) (fun l t σ K F w a Q h hs hq=>ih body t σ K F w a Q (some l) vw h hs hq) h hs (fun e σ' F' w' a' k1 k2 k3=>hq e t σ' F' w' a' k1 k2 k3)
   ·exact h.elim
  |refuse=>exact h.elim
inductive Fin(R:AV→Hp→Prop):AV→Hp→Prop where
 |done {r:AV} {σ:Hp} (h:R r σ):Fin R r σ
 |pull {r:AV} {σ:Hp} (js:List Nat) (h:Fin R r (nG js σ)):Fin R r σ
 |drop {r:AV} {σ:Hp} (k n:Nat) (h:Fin R r (σ.take k++σ.drop (k+n))):Fin R r σ
 |perm {r:AV} {σ σ2:Hp} (hp:σ2.Perm σ) (h:Fin R r σ2):Fin R r σ
 |cb {r r':AV} {σ:Hp} (j b off len es:Nat) (cs:List AV) (e:Sh) (l:List e.T) (h1:σ[j]?=some (b,cs)) (h2:(cs.drop off).take (len*es)=l.flatMap e.cells) (h3:l.length=len∧e.size=es∧0<es) (h4:eB b off len es e l r r') (h:Fin R r' (σ.eraseIdx j)):Fin R r σ
 |nil {r r':AV} {σ:Hp} (h4:eB 0 0 0 0 .bool [] r r') (h:Fin R r' σ):Fin R r σ
 |dT {r:AV} {σ σ2:Hp} (h1:iY σ σ2) (h:Fin R r σ2):Fin R r σ
 |jZ {r:AV} {σ:Hp} (j b off len es:Nat) (cs:List AV) (e:Sh) (l:List e.T) (h1:σ[j]?=some (b,cs)) (h2:(cs.drop off).take (len*es)=l.flatMap e.cells) (h3:l.length=len∧e.size=es∧0<es) (i k b':Nat) (cs':List AV) (hi:(σ.eraseIdx j)[i]?=some (b',cs')) (hk:cs'[k]?=some (.af b off len es)) (h:Fin R r ((σ.eraseIdx j).set i (b',cs'.set k (.ae e l)))):Fin R r σ
theorem PY{R:AV→Hp→Prop}{r:AV}{σ:Hp}(h:Fin R r σ):∀(F:Nat→Prop) (w:World) (v:Value),bA F w σ→aD F w r v→∃r' σ' F',bH F w F' w∧bA F' w σ'∧aD F' w r' v∧R r' σ':=by
 induction h with
 |done h=>exact fun F w v aG hv=>⟨_,_,F,.refl _ _,aG,hv,h⟩
 |pull js h ih=>exact fun F w v aG hv=>ih F w v (aG.perm (xM js _)) hv
 |perm hp h ih=>exact fun F w v aG hv=>ih F w v (aG.perm hp) hv
 | @drop r σ k n h ih=>
  intro F w v aG hv;refine ih F w v (aG.sub ?_) hv
  have h1:(σ.drop (k+n)).Sublist (σ.drop k):=by
   rw[← DX];exact List.drop_sublist _ _
  have h2:=(List.Sublist.refl (σ.take k)).append h1
  rwa [A6]at h2
 | @cb r r' σ j b off len es cs e l h1 h2 h3 h4 h ih=>
  intro F w v aG hv;obtain⟨aq,nQ,hh⟩:=uw aG h1 h2 h3;obtain⟨LM,kg,nw,k1,k2,k3,k4⟩:=ih _ w v nQ (xI aq hh h4 v hv);exact⟨LM,kg,nw,aq.trans k1,k2,k3,k4⟩
 |dT h1 h ih=>exact fun F w v aG hv=>ih F w v (aG.dT h1) hv
 |jZ j b off len es cs e l h1 h2 h3 i k b' cs' hi hk h ih=>
  intro F w v aG hv;obtain⟨aq,nQ,hh⟩:=uw aG h1 h2 h3;obtain⟨LM,kg,nw,k1,k2,k3,k4⟩:=ih _ w v (BF nQ hh hi hk) (hv.mono aq);exact⟨LM,kg,nw,aq.trans k1,k2,k3,k4⟩
 |nil h4 h ih=>
  intro F w v aG hv;refine ih F w v aG (xI (.refl _ _) (fun v hv=>?_) h4 v hv);obtain⟨a,cap,rfl,c,T,fz,m1,m2,m3,m4⟩:=hv.kK;exact .ae _ _ _ ⟨some a,cap,rfl,m2,m3,(fun e=>by cases e),fun bf=>absurd rfl bf⟩
def t0(xs:List AV):Tm:=fun i=>match xs[i]? with | some x=>x | none=>.any
def GK:List AV→AV
 | [v]=>v
 |vs=>.tup vs
def CD(TT:TypeId→Option TI)(l:List ResultVar):Tm→Hp→(List AV→Prop)→Prop:=
 List.rec (motive:=fun _=>Tm→Hp→(List AV→Prop)→Prop) (fun _ _ K=>K [])
  (fun x _ ih t σ K=>match x with
   |.tmp d=>strict (t d) fun v=>ih t σ fun vs=>K (bV v::vs)
   |.cell d ty=>match TT ty with | some i=>pQ i (t d) σ fun v=>ih t σ fun vs=>K (v::vs) | none=>False) l
def uE(TT:TypeId→Option TI)(rs:List ResultVar)(R:AV→Hp→Prop)(e:Ex)(t:Tm)(σ:Hp):Prop:=
 match e with
 |.normal | .ret=>CD TT rs t σ fun vs=>Fin R (GK vs) σ
 |_=>False
def ta(P:Program)(TT:TypeId→Option TI)(fn:Func)(xs:List AV)(σ:Hp)(R:AV→Hp→Prop):Prop:=
 match fn.body with
 |some c=>mi P TT 1000 c (t0 xs) σ (uE TT fn.results.toList R)
 |none=>False
def funcOk (fn : Func) : Bool := (match fn.body with | some c => codeOk fn.ntmps false c | none => false) && !(fn.name == "runtime.NumGoroutine")
theorem enters_of{f:FuncId}{fn:Func}(hf:P.funcs[f]?=some fn)(h:funcOk fn=true):Enters P f:=by
 unfold funcOk at h;simp only[bS,j7]at h;obtain⟨h1,h2⟩:=h
 have hb:fn.body.isNone=false:=by
  cases hb:fn.body with
  |none=>rw[hb]at h1;cases h1
  |some c=>rfl
 intro args w;unfold callFunc;simp only[Sem.run_bind,run_program,Result.andThen_ok,hf,h2,hb];rfl
theorem VT(ok:dP P TT){ty:TypeId}{i:TI}(hi:TT ty=some i){x:AV}{σ:Hp}{K:AV→Prop}(h:pQ i x σ K):∃v,K v∧∀(F:Nat→Prop) (w:World) (u:Value),aD F w x u→bA F w σ→∃v',(do loadVar ty (← asAddr u):Sem Value).run P w=.ok v' w∧aD F w v v':=by
 unfold pQ at h;split at h
 ·split at h
  ·rename_i v hv
   refine⟨v,h,fun F w u hu aG =>?_⟩;obtain⟨b,o',rfl,hF,eQ⟩:=hu.x5;obtain⟨v',h1,h2⟩:=ED ok hi eQ hv;rw[vF]at h1;exact⟨v',by simp[asAddr,h1],h2⟩
  ·exact h.elim
 ·obtain⟨j,cs,v,h1,h2,go⟩:=h;refine⟨v,go,fun F w u hu aG =>?_⟩;have Mu:=hu.zh;obtain rfl:=hu.uJ;obtain⟨v',h3,h4⟩:=ED ok hi (aG.at_ h1 Mu) h2;rw[dD]at h3;exact⟨v',by simp[asAddr,h3],h4⟩
 ·exact h.elim
def FU(tmps:Array Value):ResultVar→Sem Value
 |.tmp t=>pure (tmps.getD t undef)
 |.cell d t=>do loadVar t (← asAddr (tmps.getD d undef))
theorem aby{F:Nat→Prop}{w:World}:∀(vs:List AV) (us:List Value),vs.length=us.length→(∀(i:Nat) (x:AV),vs[i]?=some x→aD F w x (us.getD i undef))→aD F w (GK vs) (if h:us.toArray.size=1 then us.toArray[0] else .tuple us.toArray)
 | [v],[u],_,h=>by simpa [GK]using h 0 v rfl
 | [],[],_,_=>.tup _ _ rfl (fun i x h=>by simp at h)
 |v::v2::vs,u::u2::us,hl,h=>by
  rw[dif_neg (by simp)];refine .tup _ _ (by simpa using hl) (fun i x hx=>?_);have:=h i x hx;rw[bK]at this;rw[gR,y5];exact this
 | [],_::_,hl,_=>by simp at hl
 |_::_,[],hl,_=>by simp at hl
 | [_],_::_::_,hl,_=>by simp at hl
 |_::_::_,[_],hl,_=>by simp at hl
theorem IH(ok:dP P TT):∀(rs:List ResultVar) (t:Tm) (σ:Hp) (K:List AV→Prop),CD TT rs t σ K→∀(F:Nat→Prop) (w:World) (a:Act),tq F w t a→bA F w σ→
  ∃vs us,K vs∧(rs.mapM (FU a.tmps)).run P w=.ok us w∧vs.length=us.length∧∀(i:Nat) (x:AV),vs[i]?=some x→aD F w x (us.getD i undef)
 | [],t,σ,K,h,F,w,a,_,_=>⟨[],[],h,rfl,rfl,fun i x h=>by simp at h⟩
 |.tmp d::rs,t,σ,K,h,F,w,a,ht,aG=>by
  have h:strict (t d) fun v=>CD TT rs t σ fun vs=>K (bV v::vs):=h;rw[xR]at h;obtain⟨vs,us,h1,h2,h3,h4⟩:=IH ok rs t σ _ h F w a ht aG;refine⟨_,a.tmps.getD d undef::us,h1,?_,by simp[h3],fun i x hi=>?_⟩
  ·rw[List.mapM_cons];simp only[FU,Sem.run_bind,Sem.run_pure,Result.andThen_ok,h2]
  ·cases i with
   |zero=>simp at hi;subst hi;exact (ht d).bV
   |succ i=>simpa using h4 i x (by simpa using hi)
 |.cell d ty::rs,t,σ,K,h,F,w,a,ht,aG=>by
  have h:(match TT ty with | some i=>pQ i (t d) σ fun v=>CD TT rs t σ fun vs=>K (v::vs) | none=>False):=h;split at h
  ·rename_i i hi
   obtain⟨v,h,hv⟩:=VT ok hi h;obtain⟨v',k1,k2⟩:=hv F w _ (ht d) aG;obtain⟨vs,us,h1,h2,h3,h4⟩:=IH ok rs t σ _ h F w a ht aG;refine⟨_,v'::us,h1,?_,by simp[h3],fun i x hi=>?_⟩
   ·have k1':(FU a.tmps (.cell d ty)).run P w=.ok v' w:=k1;rw[List.mapM_cons];simp only[Sem.run_bind,k1',Sem.run_pure,Result.andThen_ok,h2]
   ·cases i with
    |zero=>simp at hi;subst hi;exact k2
    |succ i=>simpa using h4 i x (by simpa using hi)
  ·exact h.elim
def shut(w:World)(ds:List Deferred):World:=ds.foldl (fun w d=>match d.target with | .collected D=>w.putObj D (.deferred none) | _=>w) w
def zJ(D:Nat)(ds:List Deferred):Prop:=({ target:=.collected D,args:= #[] }:Deferred)∈ds
theorem Wy{ds:List Deferred}:∀{w:World},(∀d∈ds,∃D,d = { target:=.collected D,args:= #[] })→∀b,¬zJ b ds→(shut w ds).heap[b]?=w.heap[b]?:=by
 induction ds with
 |nil=>exact fun _ _ _=>rfl
 |cons d ds ih=>
  intro w hd b hb;obtain⟨D,rfl⟩:=hd d (cF ..);have hbD:b≠D:=fun e=>hb (by subst e;exact cF ..);exact (ih (w:=w.putObj D (.deferred none)) (fun d h=>hd d (dq _ h)) b (fun h=>hb (dq _ h))).trans (World.putObj_heap_other hbD)
theorem XN{ds:List Deferred}:∀{w:World},(shut w ds).os=w.os∧(shut w ds).tape=w.tape∧(shut w ds).output=w.output∧(shut w ds).heap.size=w.heap.size∧(shut w ds).drawn=w.drawn:=by
 induction ds with
 |nil=>exact fun {w}=>⟨rfl,rfl,rfl,rfl,rfl⟩
 |cons d ds ih=>
  intro w;obtain⟨t,gk⟩:=d;cases t with
  |collected D=>
   obtain⟨h1,h2,h3,h4,h5⟩:=ih (w:=w.putObj D (.deferred none));exact⟨h1,h2,h3,h4.trans World.putObj_size,h5⟩
  |_=>exact ih
theorem NT{fn:Func}{tm:Array Value}{R:Ending→World→Prop}:∀(ds:List Deferred) (w:World),ds.Nodup→(∀d∈ds,∃D,d = { target:=.collected D,args:= #[] }∧w.heap[D]?=some (.deferred (some [])))→
  (∃v,(results fn tm).run P (shut w ds)=.ok v (shut w ds)∧R (.returned v) (shut w ds))→LeavesInM Fence.wide 0 P fn tm R ds .returning w
 | [],_,_,_,h=>h
 |d::ds,w,cm,hd,h=>by
  obtain⟨D,rfl,hw⟩:=hd d (cF ..);obtain⟨xa,np⟩:=mD.1 cm;refine⟨by simp,.inl ⟨D,_,rfl,run_takeDeferred hw,NT ds _ np (fun d hm=>?_) h⟩⟩;obtain⟨D',rfl,hw'⟩:=hd d (dq _ hm);exact⟨D',rfl,(World.putObj_heap_other (fun e=>xa (by subst e;exact hm))).trans hw'⟩
theorem YW(ok:dP P TT)(hm:P.follows .mixedOrders=true){f:FuncId}{fn:Func}{xs:List AV}{σ:Hp}{R:AV→Hp→Prop}(hf:P.funcs[f]?=some fn)(cM:funcOk fn=true)(h:ta P TT fn xs σ R):ACalls P f xs σ R:=by
 refine⟨enters_of hf cM,fun F w vs bY aG =>?_⟩;unfold funcOk at cM;simp only[bS]at cM;unfold ta at h;cases hb:fn.body with
 |none=>rw[hb]at h;exact h.elim
 |some c=>
  rw[hb]at h;have hc:codeOk fn.ntmps false c=true:=by have:=cM.1;rw[hb]at this;exact this
  refine callsIn_wide.1 (callsIn_of_wp_marks (n:=0) hf hb trivial (V8 (B:=w.heap.size) ok hm 1000 c (t0 xs) σ _ F w _ _ none hc h ⟨fun i=>?_,aG,by simp;omega,⟨Nat.le_refl _,.nil,fun d hd=>by cases hd⟩⟩ ?_))
  ·show aD F w (match xs[i]? with | some x=>x | none=>.any) ((vs++Array.replicate (fn.ntmps-vs.size) undef).getD i undef);cases hi:xs[i]? with
   |none=>exact .any _
   |some x=>
    have ab:i<vs.size:=by rw[← bY.1];exact (cW.1 hi).1
    have:=bY.2 i x hi;rw[gR]at this ⊢;rw[Ii ab];exact this
  ·intro e t' σ' F' w' a' h1 h2 h3
   have fin:CD TT fn.results.toList t' σ' (fun vs=>Fin R (GK vs) σ')→LeavesInM Fence.wide 0 P fn a'.tmps (fun e w'=>∃r v σ' F',e=.returned v∧bH F w F' w'∧bA F' w' σ'∧aD F' w' r v∧R r σ') a'.defers .returning w':=by
    intro h3;have hmk:∀d∈a'.defers,∃D,d = { target:=.collected D,args:= #[] }:=fun d hd=>(h2.defers.is d hd).imp fun _ h=>h.1;refine NT a'.defers w' h2.defers.nodup (fun d hd=>(h2.defers.is d hd).imp fun _ h=>⟨h.1,h.2.2.2⟩) ?_
    have hD:∀b,zJ b a'.defers→w.heap.size≤b∧F' b∧w'.heap[b]?=some (.deferred (some [])):=fun b hb=>by
     obtain⟨D,q1,q2,q3,q4⟩:=h2.defers.is _ hb;cases q1;exact⟨q2,q3,q4⟩
    have CP:=Wy (w:=w') hmk;obtain⟨z1,z2,z3,z4,z5⟩:=XN (w:=w') (ds:=a'.defers);obtain⟨w2,vj⟩:∃w2,w2=shut w' a'.defers:=⟨_,rfl⟩
    rw[← vj]at CP z1 z2 z3 z4 z5 ⊢
    have jz:∀b,nD w' b→¬zJ b a'.defers:=fun b ⟨c,T,fz,hc⟩ hb=>by
     rw[(hD b hb).2.2]at hc;cases hc
    have nc:NC F' w' (fun b=>F' b∧¬zJ b a'.defers) w2:=⟨fun b hb=>⟨hb.1,jz b hb.2⟩,fun b hb=>CP b (jz b hb)⟩
    have st2:bH F w (fun b=>F' b∧¬zJ b a'.defers) w2:= {
     os:=z1.trans h1.os
     tape:=z2.trans h1.tape
     output:=z3.trans h1.output
     size:=by rw[z4];exact h1.size
     sub:=fun b hF=>⟨h1.sub b hF,fun hb=>by have:=(hD b hb).1;have:=aG.low b hF;omega⟩
     fix:=fun b hF=>by
      rw[CP b (fun hb=>by have:=(hD b hb).1;have:=aG.low b hF;omega)];exact h1.fix b hF
     rows:=fun b c T fz hc=>by
      obtain⟨c',rF,q1,q2⟩:=h1.rows b c T fz hc;exact⟨c',rF,(CP b (jz b ⟨c',T,rF,q1⟩)).trans q1,q2⟩
     drawn:=by rw[z5];exact h1.drawn }
    have Ul:bA (fun b=>F' b∧¬zJ b a'.defers) w2 σ':=h2.hp.nc nc (fun p hp=>⟨CP p.1 (fun hb=>(h2.hp.holds p hp).1 (hD p.1 hb).2.1),fun h=>(h2.hp.holds p hp).1 h.1⟩) (fun b hb=>by rw[z4];exact h2.hp.low b hb.1);obtain⟨eG,us,k1,k2,k3,k4⟩:=IH ok _ _ _ _ h3 _ w2 a' (fun i=>(h2.tm i).nc nc) Ul
    have agc:(results fn a'.tmps).run P w2=.ok (if h:us.toArray.size=1 then us.toArray[0] else .tuple us.toArray) w2:=by
     rw[show results fn a'.tmps=(do let vs ← fn.results.mapM (FU a'.tmps);pure (if h:vs.size=1 then vs[0] else .tuple vs)) from rfl];rw[Sem.run_bind,Array.mapM_eq_mapM_toList];simp only[Sem.run_map,k2,Result.andThen_ok];rfl
    have age:=aby eG us k3 k4;obtain⟨r',kg,nw,q1,q2,q3,q4⟩:=PY k1 _ w2 _ Ul age;exact⟨_,agc,r',_,kg,nw,rfl,st2.trans q1,q2,q3,q4⟩
   cases e with
   |normal=>exact fin h3
   |ret=>exact fin h3
   |exit i=>exact h3.elim
   |goto l=>exact h3.elim
theorem ACalls.mono{f:FuncId}{xs:List AV}{σ:Hp}{R R':AV→Hp→Prop}(h:ACalls P f xs σ R)(hr:∀r σ',R r σ'→R' r σ'):ACalls P f xs σ R':=
 ⟨h.1,fun F w vs hv aG=>(h.2 F w vs hv aG).mono fun _ _ ⟨r,v,σ',F',h1,h2,h3,h4,h5⟩=>⟨r,v,σ',F',h1,h2,h3,h4,hr _ _ h5⟩⟩
theorem ACalls.fin{f:FuncId}{xs:List AV}{σ:Hp}{R R':AV→Hp→Prop}(h:ACalls P f xs σ R)(hr:∀r σ',R r σ'→Fin R' r σ'):ACalls P f xs σ R':=
 ⟨h.1,fun F w vs hv aG=>(h.2 F w vs hv aG).mono fun _ _ ⟨r,v,σ',F',h1,h2,h3,h4,h5⟩=>by
  obtain⟨r',kg,nw,q1,q2,q3,q4⟩:=PY (hr _ _ h5) F' _ v h3 h4
  exact⟨r',v,kg,nw,h1,h2.trans q1,q2,q3,q4⟩⟩
def Sh.pos:Sh→Bool
 |.slice e=>decide (0<e.size)&&e.pos
 |.field f r=>f.pos&&r.pos
 |_=>true
theorem PU{w:World}:∀(s:Sh) (cs:List Value) (d:s.T),s.pos=true→Reads w s cs d→kI (fun b=>b<w.heap.size) w s cs d:=by
 intro s
 induction s with
 |int k=>exact fun _ _ _ h=>h.1
 |bool=>exact fun _ _ _ h=>h
 |str=>exact fun _ _ _ h=>h.1
 |nil=>exact fun _ _ _ h=>h
 |slice e ih=>
  rintro cs l hp ⟨a,c,h1,h2,h3,h0,h4⟩;simp only[Sh.pos,bS,decide_eq_true_eq]at hp;refine⟨a,c,h1,h2,h3,h0,fun bf=>?_⟩;obtain⟨b,o,rfl,hi⟩:=h4 bf;have th:0<l.length:=l9.2 bf;refine⟨b,o,rfl,?_,fun i h=>?_⟩
  ·obtain⟨cs',q1,q2,q3⟩:=hi 0 th;cases cs' with
   |nil=>simp at q1;omega
   |cons u cs'=>
    have jz:=q2 0 u rfl;unfold World.cell? at jz;cases ho:w.heap[b]? with
    |none=>simp[ho]at jz
    |some x=>
     cases x with
     |cells c T fz=>exact⟨tb ho,c,T,fz,ho⟩
     |_=>simp[ho]at jz
  ·obtain⟨cs',q1,q2,q3⟩:=hi i h;exact⟨cs',q1,q2,ih _ _ hp.2 q3⟩
 |field f r qf jH=>
  rintro cs d hp ⟨c1,c2,h1,h2,h3,h4⟩;simp only[Sh.pos,bS]at hp;exact⟨c1,c2,h1,h2,qf _ _ hp.1 h3,jH _ _ hp.2 h4⟩
theorem adQ{f:FuncId}{xs:List AV}(h:ACalls P f xs [] (fun r _=>r=.bool true)){w:World}{vs:Array Value}(hv:iS (fun b=>b<w.heap.size) w xs vs):
  Calls P f vs w fun e w'=>e=.returned (.bool true)∧Below w.heap.size w w':=by
 refine (h.2 _ w vs hv ⟨by simp,(fun p hp=>by cases hp),fun _ h=>h⟩).mono ?_;rintro e w' ⟨r,v,σ',F',rfl,h1,h2,h3,rfl⟩;rw[h3.qO];exact⟨rfl,h1.os,h1.tape,h1.output,h1.size,fun k hk=>h1.fix k hk⟩
end
end Go.Proofs.YtnikdflhefijbaaGreat
