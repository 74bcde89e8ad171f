import Derived.WalkMore
import Derived.Test.YtnikdflhefijbaaGreatBp5
import Derived.Test.YtnikdflhefijbaaGreatBp1
namespace Go.Proofs.YtnikdflhefijbaaGreat
open Go.RowKit
section
variable {P:Program} {TT:TypeId→Option TI}
def D7(n:Nat)(o:Oper):Bool:=(match o.dst with | some d=>Nat.blt d n | none=>true)&&(match o.op with | .defer _=>false | _=>true)
def codeOk(n:Nat):Bool→Code→Bool
 |_,.region _ ops _=>ops.toList.all (D7 n)
 |rd,.seq a b=>codeOk n rd a&&codeOk n rd b
 |rd,.cond _ a b=>codeOk n rd a&&codeOk n rd b
 |rd,.block _ c=>codeOk n rd c
 |rd,.loop c=>codeOk n rd c
 |rd,.scope c=> !rd&&codeOk n false c
 |rd,.rangeFunc _ ps a b=> !rd&&ps.toList.all (fun p=>Nat.blt p n)&&codeOk n true a&&codeOk n true b
 |_,_=>true
theorem ac0{n:Nat}{rd:Bool}:∀(c:Code) (l:Nat) (r:Code),findLabel c l=some r→codeOk n rd c=true→codeOk n rd r=true:=by
 intro c
 induction c with
 |seq a b iha Of=>
  intro l r h hc
  simp only[codeOk,bL]at hc
  simp only[findLabel]at h
  split at h
  ·rename_i rest hr
   cases h
   simp only[codeOk,bL]
   exact⟨iha l _ hr hc.1,hc.2⟩
  ·exact Of l r h hc.2
 |label l'=>
  intro l r h _
  simp only[findLabel]at h
  split at h
  ·cases h;rfl
  ·cases h
 |_=>intro l r h;simp[findLabel]at h
theorem afQ{n:Nat}{ops:List Oper}(h:ops.all (D7 n)=true):∀o∈ops,∀d,o.dst=some d→d<n:=fun o ho d hd=>by
 have:=fp.1 h o ho
 unfold D7 at this
 rw[hd,bL]at this
 exact cT this.1
theorem agD{n:Nat}{ops:List Oper}(h:ops.all (D7 n)=true):∀o∈ops,∀c,o.op≠.defer c:=fun o ho c hc=>by
 have:=fp.1 h o ho
 unfold D7 at this
 rw[hc,bL]at this
 cases this.2
theorem Xl{F:Fence}{n:Nat}{c:Code}{Q:Exit→Act→World→Prop}{a:Act}{w:World}(J:Nat→Act→World→Prop)(m:Nat)(ahv:J m a w)
  (round:∀m a w,J m a w→c.wpIn F n P (Exit.then (fun a' w'=>∃m',m'<m∧J m' a' w') Q) a w):(Code.loop c).wpIn F n P Q a w:=by
 intro b k cs mN hb hr
 have key:∀n a w,J n a w→∃e a' w',Q e a' w'∧ArrivesIn (Machine.fenced P F) P (lone (b.atR a (.code c::.inLoop c::k)) cs w) b k cs e a' w':=by
  intro n
  induction n using Nat.strongRecOn with
  |_ n ih=>
   intro a w hI
   obtain⟨e,sH,sB,hq,qA⟩:=round n a w hI b (.inLoop c::k) cs mN hb hr
   cases e with
   |normal=>
    obtain⟨m',ab,agV⟩:=hq
    obtain⟨aid,BE,Bq,xP,AN⟩:=ih m' ab sH sB agV
    exact⟨aid,BE,Bq,xP,.of_steps (StepsIn.trans qA (.one (fenced_calm hb hr rfl) stepR_inLoop)) AN⟩
   |exit id=>exact⟨_,sH,sB,hq,.pass (x:=.inLoop c) rfl (fun _ _=>.inl (by simp)) qA⟩
   |goto l=>exact⟨_,sH,sB,hq,.pass (x:=.inLoop c) rfl (fun _ _=>.inl (by simp)) qA⟩
   |ret=>exact⟨_,sH,sB,hq,.pass (x:=.inLoop c) rfl (fun _ _=>.inl (by simp)) qA⟩
   |panic ch=>exact⟨_,sH,sB,hq,.pass (x:=.inLoop c) rfl (fun _ _=>.inl (by simp)) qA⟩
   |outgrown=>exact⟨_,sH,sB,hq,.pass (x:=.inLoop c) rfl (fun _ _=>.inl (by simp)) qA⟩
 obtain⟨e,a',w',hq,qA⟩:=key m a w ahv
 exact⟨e,a',w',hq,.of_steps (.one (fenced_calm hb hr rfl) stepR_loop) qA⟩
def Ex.up:Ex→Exit
 |.normal=>.normal
 |.exit id=>.exit id
 |.goto l=>.goto l
 |.ret=>.ret
inductive Bp(P:Program)(c:Code)(Q:Exit→Act→World→Prop):Exit→Act→World→Prop where
 |normal {a:Act} {w:World} (h:Q .normal a w):Bp P c Q .normal a w
 |exit {id:Nat} {a:Act} {w:World} (h:Q (.exit id) a w):Bp P c Q (.exit id) a w
 |ret {a:Act} {w:World} (h:Q .ret a w):Bp P c Q .ret a w
 |goto {l:Nat} {a:Act} {w:World} (n:Nat) (J:Nat→Nat→Act→World→Prop) (h:J n l a w) (hr:∀n l a w,J n l a w→∃r,findLabel c l=some r∧r.wp P (fun e a' w'=>match e with | .goto l'=>∃n',n'<n∧J n' l' a' w' | .panic _=>False | .outgrown=>False | e=>Q e a' w') a w):Bp P c Q (.goto l) a w
theorem Xv{c:Code}{Q:Exit→Act→World→Prop}{a:Act}{w:World}(h:c.wp P (Bp P c Q) a w):(Code.scope c).wp P Q a w:=by
 intro b k cs
 obtain⟨e,sH,sB,hq,qA⟩:=h b (.inScope c::k) cs
 have top:Steps P (lone (b.at a (.code (.scope c)::k)) cs w) (lone (b.at a (.code c::.inScope c::k)) cs w):=.one step_scope
 cases hq with
 |normal h=>exact⟨.normal,sH,sB,h,.of_steps top (Steps.trans qA (.one step_inScope))⟩
 |exit h=>exact⟨.exit _,sH,sB,h,.of_steps top (fun k' hk=>qA k' (by simp[exitTo,hk]))⟩
 |ret h=>exact⟨_,sH,sB,h,.of_steps top qA⟩
 | @goto l _ _ n J hJ hr=>
  have key:∀(n l:Nat) (a:Act) (w:World),J n l a w→∃rest,findLabel c l=some rest∧∃e a' w',Q e a' w'∧Arrives P (lone (b.at a (.code rest::.inScope c::k)) cs w) b k cs e a' w':=by
   intro n
   induction n using Nat.strongRecOn with
   |_ n ih=>
    intro l a w hI
    obtain⟨r,hl,hwp⟩:=hr n l a w hI
    refine⟨r,hl,?_⟩
    obtain⟨e,BE,Bq,xP,AN⟩:=hwp b (.inScope c::k) cs
    cases e with
    |normal=>exact⟨.normal,BE,Bq,xP,Steps.trans AN (.one step_inScope)⟩
    |exit id=>exact⟨.exit id,BE,Bq,xP,fun k' hk=>AN k' (by simp[exitTo,hk])⟩
    |goto l'=>
     obtain⟨n',ab,hJ'⟩:=xP
     obtain⟨rest,hf,NW,N3,Nu,Nc,Mi⟩:=ih n' ab l' BE Bq hJ'
     have hg:gotoIn l' (.inScope c::k)=some (.code rest::.inScope c::k):=by simp[gotoIn,hf]
     exact⟨NW,N3,Nu,Nc,.of_steps (AN _ hg) Mi⟩
    |ret=>exact⟨_,BE,Bq,xP,AN⟩
    |panic ch=>exact xP.elim
    |outgrown=>exact xP.elim
  obtain⟨rest,hf,NW,N3,Nu,Nc,Mi⟩:=key n l sH sB hJ
  have hg:gotoIn l (.inScope c::k)=some (.code rest::.inScope c::k):=by simp[gotoIn,hf]
  exact⟨NW,N3,Nu,Nc,.of_steps top (.of_steps (qA _ hg) Mi)⟩
theorem dg.cI{B n:Nat}{F:Nat→Prop}{w:World}{t t':Tm}{σ:Hp}{a:Act}(hs:dg B n F w t σ a){j b off len es:Nat}{cs:List AV}{e:Sh}{l:List e.T}(h1:σ[j]?=some (b,cs))(h2:(cs.drop off).take (len*es)=l.flatMap e.cells)(h3:l.length=len∧e.size=es∧0<es)(h4:∀i,eI b off len es e l (t i) (t' i)):
  ∃F',bh F w F' w∧dg B n F' w t' (σ.eraseIdx j) a:=by
 obtain⟨ao,qy,hh⟩:=xH hs.hp h1 h2 h3
 exact⟨_,ao,fun i=>Cr ao hh (h4 i) _ (hs.tm i),qy,hs.size,hs.defers.mono ao⟩
theorem dg.wrap{B n:Nat}{F:Nat→Prop}{w:World}{t:Tm}{σ:Hp}{a:Act}(hs:dg B n F w t σ a){k:Nat}{v:AV}(h1:t k=v)(h2:v.leaf=true):dg B n F w (dm t [(k,.via v)]) σ a:=
 ⟨fun i=>by
  show ax F w (match Nat.beq i k with | true=>.via v | false=>t i) _
  cases hb:Nat.beq i k with
  |true=>rw[jr hb];exact .via _ _ h2 (h1▸hs.tm k)
  |false=>exact hs.tm i,hs.hp,hs.size,hs.defers⟩
theorem Y7(ok:dD P TT)(hm:P.follows .mixedOrders=true){r:Option Nat}{B n:Nat}{ops:Array Oper}{K:Tm→Hp→Prop}{Q:Exit→Act→World→Prop}{t:Tm}{σ:Hp}(hd:∀o∈ops.toList,∀d,o.dst=some d→d<n)(bZ:∀o∈ops.toList,∀c,o.op≠.defer c)(h:gN P TT ops.toList K t σ):∀{F:Nat→Prop} {w:World} {a:Act} {id:Nat},dg B n F w t σ a→
  (∀t' σ' F' w' a',bh F w F' w'→dg B n F' w' t' σ' a'→K t' σ'→Q .normal a' w')→(Code.region id ops true).wpIn (FW r) 0 P Q a w:=by
 induction h with
 |quiet h0 h=>exact fun hs hq=>X0 ok hm h0 h hd bZ hs (fun t' F' w' a' h1 h2 h3=>hq t' _ F' w' a' h1 h2 h3)
 |each h0 h=>exact fun hs hq=>QY ok hm h0 h hd bZ hs (fun t' σ' F' w' a' h1 h2 h3=>hq t' σ' F' w' a' h1 h2 h3)
 |sched Q0 s h0 h=>exact fun hs hq=>P7 ok hm h0 h hd bZ hs (fun t' σ' F' w' a' h1 h2 h3=>hq t' σ' F' w' a' h1 h2 h3)
 |meet L H h0 h go=>
  intro F w a id hs hq
  refine QY ok hm h0 h hd bZ hs (fun t' σ' F' w' a' h1 h2 h3=>?_)
  obtain⟨s,k1,k2⟩:=h3
  refine hq t' (H s) F' w' a' h1 (h2.dM k2) ?_
  rw[AD k1]
  exact go s t'
 |M4 Q0 s0 L H h0 h go=>
  intro F w a id hs hq
  refine P7 ok hm h0 h hd bZ hs (fun t' σ' F' w' a' h1 h2 h3=>?_)
  obtain⟨s,k1,k2⟩:=h3
  refine hq t' (H s) F' w' a' h1 (h2.dM k2) ?_
  rw[AD k1]
  exact go s t'
 |cI j b off len es cs e l h1 h2 h3 h4 h ih=>
  intro F w a id hs hq
  obtain⟨F1,k1,k2⟩:=hs.cI h1 h2 h3 h4
  exact ih k2 (fun t' σ' F' w' a' q1 q2 q3=>hq t' σ' F' w' a' (k1.trans q1) q2 q3)
 |dM h1 h ih=>
  intro F w a id hs hq
  exact ih (hs.dM h1) hq
theorem dg.ku{B n:Nat}{F:Nat→Prop}{w:World}{t:Tm}{σ:Hp}{a:Act}(hs:dg B n F w t σ a){j b off len es:Nat}{cs:List AV}{e:Sh}{l:List e.T}(h1:σ[j]?=some (b,cs))(h2:(cs.drop off).take (len*es)=l.flatMap e.cells)(h3:l.length=len∧e.size=es∧0<es){i k b':Nat}{cs':List AV}(hi:(σ.eraseIdx j)[i]?=some (b',cs'))(hk:cs'[k]?=some (.ae b off len es)):
  ∃F',bh F w F' w∧dg B n F' w t ((σ.eraseIdx j).set i (b',cs'.set k (.ai e l))) a:=by
 obtain⟨ao,qy,hh⟩:=xH hs.hp h1 h2 h3
 exact⟨_,ao,fun i=>(hs.tm i).mono ao,G9 qy hh hi hk,hs.size,hs.defers.mono ao⟩
theorem dg.nil{B n:Nat}{F:Nat→Prop}{w:World}{t t':Tm}{σ:Hp}{a:Act}(hs:dg B n F w t σ a)(h4:∀i,eI 0 0 0 0 .bool [] (t i) (t' i)):dg B n F w t' σ a:=
 ⟨fun i=>Cr (.refl _ _) (fun v hv=>by
  obtain⟨a,cap,rfl,c,T,fz,m1,m2,m3,m4⟩:=hv.lD
  exact .ai _ _ _ ⟨some a,cap,rfl,m2,m3,(fun e=>by cases e),fun aO=>absurd rfl aO⟩) (h4 i) _ (hs.tm i),hs.hp,hs.size,hs.defers⟩
theorem Z9{B n:Nat}{S:Type}{L:S→List (Nat×AV)}{H:S→Hp}{p:S→Prop}{μ:S→Nat}{s:S}{t':Tm}{σ':Hp}(h:ou L H p μ s t' σ'):∀{F:Nat→Prop} {w:World} {a:Act},dg B n F w t' σ' a→
  ∃F' t2 s',bh F w F' w∧dg B n F' w t2 (H s') a∧μ s'<μ s∧p s'∧agree t2 (L s'):=by
 induction h with
 |mk s' h1 h2 h3 h4=>exact fun hs=>⟨_,_,s',.refl _ _,hs.dM h4,h1,h2,h3⟩
 |cI j b off len es cs e l h1 h2 h3 h4 h ih=>
  intro F w a hs
  obtain⟨F1,k1,k2⟩:=hs.cI h1 h2 h3 h4
  obtain⟨F2,t2,s',q1,q2,q3⟩:=ih k2
  exact⟨F2,t2,s',k1.trans q1,q2,q3⟩
 |ku j b off len es cs e l h1 h2 h3 i k b' cs' hi hk h ih=>
  intro F w a hs
  obtain⟨F1,k1,k2⟩:=hs.ku h1 h2 h3 hi hk
  obtain⟨F2,t2,s',q1,q2,q3⟩:=ih k2
  exact⟨F2,t2,s',k1.trans q1,q2,q3⟩
 |dM h1 h ih=>exact fun hs=>ih (hs.dM h1)
 |nil h4 h ih=>exact fun hs=>ih (hs.nil h4)
theorem aa0{B n:Nat}{S:Type}{fX:S→Nat}{L:S→List (Nat×AV)}{H:S→Hp}{p:S→Prop}{μ:S→Nat}{s:S}{l:Nat}{t':Tm}{σ':Hp}(h:rE fX L H p μ s l t' σ'):∀{F:Nat→Prop} {w:World} {a:Act},dg B n F w t' σ' a→
  ∃F' t2 s',bh F w F' w∧dg B n F' w t2 (H s') a∧l=fX s'∧μ s'<μ s∧p s'∧agree t2 (L s'):=by
 induction h with
 |mk s' h0 h1 h2 h3 h4=>exact fun hs=>⟨_,_,s',.refl _ _,hs.dM h4,h0,h1,h2,h3⟩
 |cI j b off len es cs e l h1 h2 h3 h4 h ih=>
  intro F w a hs
  obtain⟨F1,k1,k2⟩:=hs.cI h1 h2 h3 h4
  obtain⟨F2,t2,s',q1,q2,q3⟩:=ih k2
  exact⟨F2,t2,s',k1.trans q1,q2,q3⟩
 |ku j b off len es cs e l h1 h2 h3 i k b' cs' hi hk h ih=>
  intro F w a hs
  obtain⟨F1,k1,k2⟩:=hs.ku h1 h2 h3 hi hk
  obtain⟨F2,t2,s',q1,q2,q3⟩:=ih k2
  exact⟨F2,t2,s',k1.trans q1,q2,q3⟩
 |dM h1 h ih=>exact fun hs=>ih (hs.dM h1)
 |nil h4 h ih=>exact fun hs=>ih (hs.nil h4)
theorem YR{r:Option Nat}{B n:Nat}{c:Code}{body:Tm→Hp→(Ex→Tm→Hp→Prop)→Prop}(hb:∀(t:Tm) (σ:Hp) (K:Ex→Tm→Hp→Prop) (F:Nat→Prop) (w:World) (a:Act) (Q:Exit→Act→World→Prop),body t σ K→dg B n F w t σ a→
   (∀e t' σ' F' w' a',bh F w F' w'→dg B n F' w' t' σ' a'→K e t' σ'→Q e.up a' w')→c.wpIn (FW r) 0 P Q a w) {K:Ex→Tm→Hp→Prop} {t:Tm} {σ:Hp} (h:mH body K t σ):∀{F:Nat→Prop} {w:World} {a:Act} {Q:Exit→Act→World→Prop},dg B n F w t σ a→
  (∀e t' σ' F' w' a',bh F w F' w'→dg B n F' w' t' σ' a'→K e t' σ'→Q e.up a' w')→(Code.loop c).wpIn (FW r) 0 P Q a w:=by
 induction h with
 | @mk t σ S L H p μ s0 h0 hr=>
  intro F w a Q hs hq
  refine Xl (fun m a' w'=>∃t' σ' F',bh F w F' w'∧dg B n F' w' t' σ' a'∧Head L H p μ m t' σ') (μ s0) ⟨t,σ,F,.refl _ _,hs,s0,t,rfl,h0.1,AD h0.2.1,h0.2.2⟩ ?_
  rintro m a1 w1 ⟨_,_,F1,s1,r1,ss,g,rfl,hp,rfl,rfl⟩
  refine hb _ _ _ F1 w1 a1 _ (hr ss g hp) r1 ?_
  intro e t' σ' F' w' a' h1 h2 h3
  cases e with
  |normal=>
   obtain⟨F2,t2,s',q1,q2,k1,k2,k3⟩:=Z9 h3 h2
   exact⟨_,k1,t2,_,F2,s1.trans (h1.trans q1),q2,s',t2,rfl,k2,AD k3,rfl⟩
  |exit id=>exact hq (.exit id) t' σ' F' w' a' (s1.trans h1) h2 h3
  |goto l=>exact hq (.goto l) t' σ' F' w' a' (s1.trans h1) h2 h3
  |ret=>exact hq .ret t' σ' F' w' a' (s1.trans h1) h2 h3
 |cI j b off len es cs e l h1 h2 h3 h4 h ih=>
  intro F w a Q hs hq
  obtain⟨F1,k1,k2⟩:=hs.cI h1 h2 h3 h4
  exact ih k2 (fun e t' σ' F' w' a' q1 q2 q3=>hq e t' σ' F' w' a' (k1.trans q1) q2 q3)
 |dM h1 h ih=>
  intro F w a Q hs hq
  exact ih (hs.dM h1) hq
 |wrap k v h1 h2 h ih=>
  intro F w a Q hs hq
  exact ih (hs.wrap h1 h2) hq
 |nil h4 h ih=>
  intro F w a Q hs hq
  exact ih (hs.nil h4) hq
theorem YZ{B n:Nat}{c:Code}{R:Nat→Tm→Hp→(Ex→Tm→Hp→Prop)→Prop}(hR:∀(l:Nat) (t:Tm) (σ:Hp) (K:Ex→Tm→Hp→Prop) (F:Nat→Prop) (w:World) (a:Act) (Q:Exit→Act→World→Prop),R l t σ K→dg B n F w t σ a→
   (∀e t' σ' F' w' a',bh F w F' w'→dg B n F' w' t' σ' a'→K e t' σ'→Q e.up a' w')→∃r,findLabel c l=some r∧r.wp P Q a w) {l:Nat} {K:Ex→Tm→Hp→Prop} {t:Tm} {σ:Hp} (h:rF R l K t σ):∀{F:Nat→Prop} {w:World} {a:Act} {Q:Exit→Act→World→Prop},dg B n F w t σ a→
  (∀e t' σ' F' w' a',bh F w F' w'→dg B n F' w' t' σ' a'→K e t' σ'→(∀l,e≠.goto l)→Q e.up a' w')→Bp P c Q (.goto l) a w:=by
 induction h with
 | @fwd t σ k h=>
  intro F w a Q hs hq
  refine .goto k (fun k l a' w'=>∃t' σ' F',bh F w F' w'∧dg B n F' w' t' σ' a'∧V8 R k l t' σ' K) ⟨t,σ,F,.refl _ _,hs,h⟩ ?_
  rintro k l a1 w1 ⟨t1,kb,F1,s1,r1,h⟩
  cases k with
  |zero=>exact h.elim
  |succ k=>
   refine hR l t1 kb _ F1 w1 a1 _ h r1 ?_
   intro e t' σ' F' w' a' h1 h2 h3
   cases e with
   |normal=>exact hq .normal t' σ' F' w' a' (s1.trans h1) h2 h3 (by simp)
   |exit id=>exact hq (.exit id) t' σ' F' w' a' (s1.trans h1) h2 h3 (by simp)
   |goto l=>exact⟨k,Nat.lt_succ_self _,t',σ',F',s1.trans h1,h2,h3⟩
   |ret=>exact hq .ret t' σ' F' w' a' (s1.trans h1) h2 h3 (by simp)
 | @loop t σ S fX L H p μ s0 h0 hr=>
  intro F w a Q hs hq
  refine .goto (μ s0) (fun m l a' w'=>∃s g F',bh F w F' w'∧dg B n F' w' (dm g (L s)) (H s) a'∧m=μ s∧l=fX s∧p s) ⟨s0,t,F,.refl _ _,?_,rfl,h0.1,h0.2.1⟩ ?_
  ·rw[← AD h0.2.2.1];exact hs.dM h0.2.2.2
  rintro m l a1 w1 ⟨s,g,F1,s1,r1,rfl,rfl,hp⟩
  refine hR (fX s) _ _ _ F1 w1 a1 _ (hr s g hp) r1 ?_
  intro e t' σ' F' w' a' h1 h2 h3
  cases e with
  |normal=>exact hq .normal t' σ' F' w' a' (s1.trans h1) h2 h3 (by simp)
  |exit id=>exact hq (.exit id) t' σ' F' w' a' (s1.trans h1) h2 h3 (by simp)
  |goto l=>
   obtain⟨F2,t2,s',q1,q2,k0,k1,k2,k3⟩:=aa0 h3 h2
   refine⟨_,k1,s',t2,F2,s1.trans (h1.trans q1),?_,rfl,k0,k2⟩
   rw[← AD k3]
   exact q2
  |ret=>exact hq .ret t' σ' F' w' a' (s1.trans h1) h2 h3 (by simp)
 |cI j b off len es cs e l h1 h2 h3 h4 h ih=>
  intro F w a Q hs hq
  obtain⟨F1,k1,k2⟩:=hs.cI h1 h2 h3 h4
  exact ih k2 (fun e t' σ' F' w' a' q1 q2 q3 q4=>hq e t' σ' F' w' a' (k1.trans q1) q2 q3 q4)
 |dM h1 h ih=>
  intro F w a Q hs hq
  exact ih (hs.dM h1) hq
 |wrap k v h1 h2 h ih=>
  intro F w a Q hs hq
  exact ih (hs.wrap h1 h2) hq
structure NC(F:Nat→Prop)(w:World)(F':Nat→Prop)(w':World):Prop where
 sub:∀b,FC F w b→F' b
 cells:∀b,oc w b→w'.heap[b]?=w.heap[b]?
theorem NC.at_{F F':Nat→Prop}{w w':World}(h:NC F w F' w'){b:Nat}(hc:oc w b):oc w' b:=by
 obtain⟨c,T,fz,e⟩:=hc
 exact⟨c,T,fz,(h.cells b ⟨c,T,fz,e⟩).trans e⟩
theorem NC.fc{F F':Nat→Prop}{w w':World}(h:NC F w F' w'){b:Nat}(hf:FC F w b):FC F' w' b:=⟨h.sub b hf,h.at_ hf.2⟩
theorem kP.nc{F F':Nat→Prop}{w w':World}(hn:NC F w F' w'):∀(s:Sh) (cs:List Value) (d:s.T),kP F w s cs d→kP F' w' s cs d:=by
 intro s
 induction s with
 |int k=>exact fun _ _ h=>h
 |bool=>exact fun _ _ h=>h
 |str=>exact fun _ _ h=>h
 |nil=>exact fun _ _ h=>h
 |slice e ih=>
  rintro cs l ⟨a,c,h1,h2,h3,h0,h4⟩
  refine⟨a,c,h1,h2,h3,h0,fun aO=>?_⟩
  obtain⟨b,o,rfl,hF,hi⟩:=h4 aO
  refine⟨b,o,rfl,hn.fc hF,fun i h=>?_⟩
  obtain⟨cs',q1,q2,q3⟩:=hi i h
  exact⟨cs',q1,q2.fix (hn.cells b hF.2),ih _ _ q3⟩
 |field f r qJ jS=>
  rintro cs d ⟨c1,c2,h1,h2,h3,h4⟩
  exact⟨c1,c2,h1,h2,qJ _ _ h3,jS _ _ h4⟩
theorem ax.nc{F F':Nat→Prop}{w w':World}(hn:NC F w F' w'){x:AV}{v:Value}(h:ax F w x v):ax F' w' x v:=by
 induction h with
 |int k n=>exact .int k n
 |bool b=>exact .bool b
 |str s=>exact .str s
 |ai e l v h=>exact .ai e l v (kP.nc hn _ _ _ h)
 |kv a=>exact .kv a
 |gz a c h=>exact .gz a c h
 |aj=>exact .aj
 |ae b off len e a cap h=>
  obtain⟨c,T,fz,h1,h2⟩:=h
  exact .ae b off len e a cap ⟨c,T,fz,(hn.cells b ⟨c,T,fz,h1⟩).trans h1,h2⟩
 |cN=>exact .cN
 |ptr b off h=>exact .ptr b off (hn.at_ h)
 |nz b=>exact .nz b
 |nJ b=>exact .nJ b
 |fV cs b o f hF h1 hl h ih=>exact .fV cs b o f (hn.fc hF) (fun i x hx=>(LM (hn.cells b hF.2) _).trans (h1 i x hx)) hl ih
 |agg cs vs hs hl h ih=>exact .agg cs vs hs hl ih
 |tup cs vs hs h ih=>exact .tup cs vs hs ih
 |iface t a v h ih=>exact .iface t a v ih
 |nilif=>exact .nilif
 |fn f c1 c2 v1 v2 fh gy h1 h2 EV EU=>exact .fn f c1 c2 v1 v2 fh gy EV EU
 |iH=>exact .iH
 |pK=>exact .pK
 |gk n b h=>exact .gk n b h
 |fR n m a b h1 h2=>exact .fR n m a b h1 h2
 |any v=>exact .any v
 |via x v hl h ih=>exact .via x v hl ih
theorem Holds.nc{F F':Nat→Prop}{w w':World}(hn:NC F w F' w'){b:Nat}{cs:List AV}(h:Holds F w b cs)(hb:w'.heap[b]?=w.heap[b]?)(hF:¬F' b):Holds F' w' b cs:=by
 obtain⟨_,⟨c,T,h1,h2,h3⟩ | ⟨x,o,h1,h2,h3⟩ | ⟨L,t,h1,h2,h3⟩⟩:=h
 ·exact⟨hF,.inl ⟨c,T,hb.trans h1,h2,fun i x hx=>⟨(h3 i x hx).1,(h3 i x hx).2.nc hn⟩⟩⟩
 ·exact⟨hF,.inr (.inl ⟨x,o,h1,hb.trans h2,h3⟩)⟩
 ·exact⟨hF,.inr (.inr ⟨L,t,h1,hb.trans h2,fun i=>(h3 i).nc hn⟩)⟩
theorem aX.nc{F F':Nat→Prop}{w w':World}{σ:Hp}(h:aX F w σ)(hn:NC F w F' w')(hk:∀p∈σ,w'.heap[p.1]?=w.heap[p.1]?∧¬F' p.1)(ff:∀b,F' b→b<w'.heap.size):aX F' w' σ:=
 ⟨h.nodup,fun p hp=>(h.holds p hp).nc hn (hk p hp).1 (hk p hp).2,ff⟩
theorem aX.out{F:Nat→Prop}{w:World}{σ:Hp}(h:aX F w σ){b:Nat}(hb:F b):∀p∈σ,p.1≠b:=fun p hp e=>(h.holds p hp).1 (e▸hb)
theorem ME{F F':Nat→Prop}{w:World}{l:Nat}{L L':Loop}(hl:w.heap[l]?=some (.loop L))(hs:∀b,b≠l→F b→F' b):NC F w F' (w.putObj l (.loop L')) where
 sub:=fun b ⟨hF,c,T,fz,hc⟩=>hs b (fun e=>by subst e;rw[hl]at hc;cases hc) hF
 cells:=fun b ⟨c,T,fz,hc⟩=>World.putObj_heap_other (fun e=>by subst e;rw[hl]at hc;cases hc)
theorem Lq{w:World}{l:Nat}{L L':Loop}(hl:w.heap[l]?=some (.loop L))(b:Nat)(c:Array Value)(T:TypeId)(fz:Nat×Nat)(h:w.heap[b]?=some (.cells c T fz)):(w.putObj l (.loop L')).heap[b]?=some (.cells c T fz):=
 (World.putObj_heap_other (fun e=>by subst e;rw[hl]at h;cases h)).trans h
def Bb:Ex→Code
 |.normal=>.skip
 |.exit i=>.exit i
 |.goto l=>.goto l
 |.ret=>.ret
def j6(fn:FuncId)(tm:Array Value)(ps:Array Tmp)(gm body:Code)(D:Nat)(st:LoopState)(pe:Option Code):Loop:= { state:=st,pending:=pe,fn,tmps:=tm,params:=ps,assign:=gm,body,defers:=D }
theorem U7{n:Nat}{F:Nat→Prop}{w:World}:∀(ps:List Tmp) (xs:List AV) (us:List Value) (t:Tm) (tm:Array Value),xs.length=us.length→ps.all (fun p=>Nat.blt p n)=true→n≤tm.size→(∀i,ax F w (t i) (tm.getD i undef))→(∀(i:Nat) (x:AV),xs[i]?=some x→ax F w x (us.getD i undef))→
  n≤((ps.zip us).foldl (fun t p=>t.setIfInBounds p.1 p.2) tm).size∧∀i,ax F w (BK ps xs t i) (((ps.zip us).foldl (fun t p=>t.setIfInBounds p.1 p.2) tm).getD i undef)
 | [],xs,us,t,tm,_,_,hs,ht,_=>by cases xs <;> exact⟨hs,ht⟩
 |p::ps,[],us,t,tm,hl,_,hs,ht,_=>by cases us with
  |nil=>exact⟨hs,ht⟩
  |cons u us=>cases hl
 |p::ps,x::xs,[],t,tm,hl,_,_,_,_=>by cases hl
 |p::ps,x::xs,u::us,t,tm,hl,hp,hs,ht,hx=>by
  simp only[List.all_cons,bL]at hp
  have sV:p<n:=cT hp.1
  refine U7 ps xs us (put t (some p) x) (tm.setIfInBounds p u) (by simpa using hl) hp.2 (by simpa using hs) (fun i=>?_) (fun i y hy=>by simpa using hx (i+1) y (by simpa using hy))
  show ax F w (match Nat.beq i p with | true=>x | false=>t i) _
  cases hb:Nat.beq i p with
  |true=>
   obtain rfl:=jr hb
   have hi:i<tm.size:=sc sV hs
   simpa [Array.getD,hi]using hx 0 x rfl
  |false=>
   have aO:p≠i:=fun e=>by subst e;rw[yx]at hb;cases hb
   have:=ht i
   rw[gW]at this ⊢
   rw[Kh aO]
   exact this
def H3(P:Program)(B n l:Nat)(c:Code)(R:Tm→Hp→(Ex→Tm→Hp→Prop)→Prop):Prop:=
 ∀(t:Tm) (σ:Hp) (K:Ex→Tm→Hp→Prop) (F:Nat→Prop) (w:World) (a:Act) (Q:Exit→Act→World→Prop),R t σ K→dg B n F w t σ a→
  (∀e t' σ' F' w' a',bh F w F' w'→dg B n F' w' t' σ' a'→K e t' σ'→Q e.up a' w')→c.wpIn (FW (some l)) 0 P Q a w
theorem XV{B n l D:Nat}{fn:FuncId}{tm:Array Value}{ps:Array Tmp}{gm body:Code}{t:Tm}{rA rB:Tm→Hp→(Ex→Tm→Hp→Prop)→Prop}(hB:B≤l)(hn:n≤tm.size)(yg:ps.toList.all (fun p=>Nat.blt p n)=true)
  (hA:H3 P B n l gm rA) (hb:H3 P B n l body rB) {xs:List AV} {kb:Hp} {R1:Ex→Hp→Prop} (Ol:xs.length=ps.size)
  (h:rA (BK ps.toList xs t) kb fun e t' σ'=>match e with | .normal=>rB t' σ' (fun e _ kq=>R1 e kq) | _=>False) :
  H2 P l xs ((l,[.mD (j6 fn tm ps gm body D .ready none) t])::kb) (Nr l (.mD (j6 fn tm ps gm body D .ready none) t) (fun e=>.mD (j6 fn tm ps gm body D .done (some (Bb e))) t) R1):=by
 intro F w vs bX aC
 obtain⟨JE,hl,oR⟩:=(aC.holds _ (bV ..)).VX
 have bZ:=aC.nodup
 simp only[oV,lp]at bZ
 have BW:l<w.heap.size:=tU hl
 have eD:vs.size=ps.size:=bX.1.symm.trans Ol
 refine⟨fn,_,gm,body,run_yield hl eD,roundIn_of_wpIn trivial ?_⟩
 have N8:bh F w (fun b=>F b∨b=l) w:=⟨rfl,rfl,rfl,aM _,fun _ h=>.inl h,fun _ _=>rfl,fun _ c _ fz h=>⟨c,fz,h,rfl⟩,aM _⟩
 have aO:∀p∈kb,p.1≠l:=fun p hp e=>bZ.1 (cY.2 ⟨p,hp,e⟩)
 have NF:aX (fun b=>F b∨b=l) w kb:=⟨bZ.2,fun p hp=>(aC.holds p (cE _ hp)).mono N8 rfl (fun h=>h.elim (aC.holds p (cE _ hp)).1 (aO p hp)),fun b h=>h.elim (aC.low b) (fun e=>e▸BW)⟩
 have hz:(ps.zip vs).foldl (fun tmps (t,a)=>tmps.setIfInBounds t a) tm=(ps.toList.zip vs.toList).foldl (fun t p=>t.setIfInBounds p.1 p.2) tm:=by
  rw[← Array.foldl_toList,Array.toList_zip]
 obtain⟨k1,k2⟩:=U7 (n:=n) (F:=fun b=>F b∨b=l) (w:=w) ps.toList xs vs.toList t tm (by rw[Pq];exact bX.1) yg hn (fun i=>(oR i).mono N8) (fun i x hx=>by
  have:=(bX.2 i x hx).mono N8
  rw[gW]at this
  rw[aR,Cl]
  exact this)
 refine hA _ _ _ _ w { tmps:=(ps.zip vs).foldl (fun tmps (t,a)=>tmps.setIfInBounds t a) tm,defers:=[] } _ h ⟨fun i=>by rw[hz];exact k2 i,NF,by rw[hz];exact k1,⟨by omega,.nil,fun d hd=>by cases hd⟩⟩ ?_
 intro e t1 σ2 F1 w1 a1 st1 s1 h1
 cases e with
 |exit i=>exact h1.elim
 |goto i=>exact h1.elim
 |ret=>exact h1.elim
 |normal=>
  have yi:w1.heap[l]?=some (.loop (j6 fn tm ps gm body D .ready none)):=(st1.fix l (.inr rfl)).trans hl
  have O3:F1 l:=st1.sub l (.inr rfl)
  have ahQ:l<w1.heap.size:=tU yi
  refine⟨_,run_beginRound yi rfl,?_⟩
  have k9:({ j6 fn tm ps gm body D .ready none with state:=LoopState.busy }:Loop)=j6 fn tm ps gm body D .busy none:=rfl
  rw[k9]
  have nc1:NC F1 w1 F1 (w1.putObj l (.loop (j6 fn tm ps gm body D .busy none))):=ME yi fun _ _ h=>h
  have NS:(w1.putObj l (.loop (j6 fn tm ps gm body D .busy none))).heap[l]?=some (.loop (j6 fn tm ps gm body D .busy none)):=World.putObj_heap_same ahQ
  refine hb t1 σ2 _ F1 _ a1 _ h1 ⟨fun i=>(s1.tm i).nc nc1,s1.hp.nc nc1 (fun p hp=>⟨World.putObj_heap_other (s1.hp.out O3 p hp),(s1.hp.holds p hp).1⟩) (fun b hb=>by rw[World.putObj_size];exact s1.hp.low b hb),s1.size,⟨by rw[World.putObj_size];exact s1.defers.low,s1.defers.nodup,fun d hd=>by
   obtain⟨D',q1,q2,q3,q4⟩:=s1.defers.is d hd
   refine⟨D',q1,q2,q3,(World.putObj_heap_other (fun e=>?_)).trans q4⟩
   subst e;rw[yi]at q4;cases q4⟩⟩ ?_
  intro e t3 ej F3 w3 a3 pV s3 h3
  have hF3:F3 l:=pV.sub l O3
  have rU:w3.heap[l]?=some (.loop (j6 fn tm ps gm body D .busy none)):=(pV.fix l O3).trans NS
  have ahP:l<w3.heap.size:=tU rU
  have fin:∀L':Loop,bh F w (fun b=>F3 b∧b≠l) (w3.putObj l (.loop L'))∧((∀i,L'.tmps.getD i undef=tm.getD i undef)→aX (fun b=>F3 b∧b≠l) (w3.putObj l (.loop L')) ((l,[.mD L' t])::ej)):=by
   intro L'
   have nc3:NC F3 w3 (fun b=>F3 b∧b≠l) (w3.putObj l (.loop L')):=ME rU fun b hb h=>⟨h,hb⟩
   have stw:bh F w (fun b=>F3 b∧b≠l) (w3.putObj l (.loop L')):= {
    os:=pV.os.trans st1.os
    tape:=pV.tape.trans st1.tape
    output:=pV.output.trans st1.output
    size:=by
     have q1:=st1.size
     have q3:=pV.size
     rw[World.putObj_size]at q3 ⊢
     omega
    sub:=fun b hF=>⟨pV.sub b (st1.sub b (.inl hF)),fun e=>JE (e▸hF)⟩
    fix:=fun b hF=>by
     have oS:b≠l:=fun e=>JE (e▸hF)
     rw[World.putObj_heap_other oS,pV.fix b (st1.sub b (.inl hF)),World.putObj_heap_other oS,st1.fix b (.inl hF)]
    rows:=fun b c T fz hc=>by
     obtain⟨c1,fz1,q1,q2⟩:=st1.rows b c T fz hc
     obtain⟨c3,Km,q3,q4⟩:=pV.rows b c1 T fz1 (Lq yi b c1 T fz1 q1)
     exact⟨c3,Km,Lq rU b c3 T Km q3,q4.trans q2⟩
    drawn:=fy st1.drawn pV.drawn }
   refine⟨stw,fun ahA=>⟨?_,fun p hp=>?_,fun b hb=>?_⟩⟩
   ·simp only[oV,lp]
    exact⟨fun hm=>by obtain⟨p,hp,e⟩:=cY.1 hm;exact s3.hp.out hF3 p hp e,s3.hp.nodup⟩
   ·rcases da.1 hp with rfl | hp
    ·exact⟨fun h=>h.2 rfl,.inr (.inr ⟨L',t,rfl,World.putObj_heap_same ahP,fun i=>by rw[ahA];exact (oR i).mono stw⟩)⟩
    ·exact (s3.hp.holds p hp).nc nc3 (World.putObj_heap_other (s3.hp.out hF3 p hp)) (fun h=>(s3.hp.holds p hp).1 h.1)
   ·rw[World.putObj_size];exact s3.hp.low b hb.1
  have M8:∀e:Ex,e≠.normal→R1 e ej→∃v w',(Instr.endRound l (some (Bb e))).run P w3=.ok v w'∧∃r v' σ' F',Ending.returned v=.returned v'∧bh F w F' w'∧aX F' w' σ'∧ax F' w' r v'∧Nr l (.mD (j6 fn tm ps gm body D .ready none) t) (fun e=>.mD (j6 fn tm ps gm body D .done (some (Bb e))) t) R1 r σ':=fun e he hr=>by
   obtain⟨q1,q2⟩:=fin (j6 fn tm ps gm body D .done (some (Bb e)))
   exact⟨_,_,run_endRound _ rU,.bool false,_,_,_,rfl,q1,q2 (fun _=>rfl),.bool _,.inr ⟨rfl,e,ej,he,rfl,hr⟩⟩
  cases e with
  |normal=>
   obtain⟨q1,q2⟩:=fin (j6 fn tm ps gm body D .ready none)
   exact⟨_,_,run_endRound none rU,.bool true,_,_,_,rfl,q1,q2 (fun _=>rfl),.bool _,.inl ⟨rfl,ej,rfl,h3⟩⟩
  |exit i=>exact M8 (.exit i) (by simp) h3
  |goto i=>exact M8 (.goto i) (by simp) h3
  |ret=>exact M8 .ret (by simp) h3
theorem XZ{B n:Nat}{g:Operand}{ps:Array Tmp}{gm body:Code}{t:Tm}{gf:FuncId}{cap:List AV}{rA rB:Tm→Hp→(Ex→Tm→Hp→Prop)→Prop}(hg:ev t g=.fn (.func gf) [] cap)(yg:ps.toList.all (fun p=>Nat.blt p n)=true)
  (hA:∀l,H3 P B n l gm rA) (hb:∀l,H3 P B n l body rB) {K:Ex→Hp→Prop} {σ:Hp}
  (h:A5 P gf cap ps.size (fun xs kb R1=>rA (BK ps.toList xs t) kb fun e t' σ'=>match e with | .normal=>rB t' σ' (fun e _ kq=>R1 e kq) | _=>False) K σ):∀{F:Nat→Prop} {w:World} {a:Act} {Q:Exit→Act→World→Prop},dg B n F w t σ a→
  (∀e σ' F' w' a',bh F w F' w'→dg B n F' w' t σ' a'→K e σ'→Q e.up a' w')→(Code.rangeFunc g ps gm body).wpIn (FW none) 0 P Q a w:=by
 induction h with
 |dM h1 h ih=>exact fun hs hq=>ih (hs.dM h1) hq
 | @mk σ go=>
  intro F w a Q hs hq
  have Fe:=hs.tm.eval g
  rw[hg]at Fe
  cases hv:a.eval g with
  |func f' v1 lb=>
   rw[hv]at Fe
   obtain⟨rfl,rfl,IF⟩:f'=.func gf∧v1 = #[]∧jb F w cap lb:=by cases Fe with | fn _ _ _ _ _ fh gy h1 h2=>exact⟨rfl,FU.1 fh.symm,gy,h2⟩
   refine wpIn_rangeFunc ?_
   intro fn _
   have e1:=run_enterLoop_outer (P:=P) (w:=w) fn a.tmps ps gm body
   obtain⟨l,hle⟩:∃l,l=w.heap.size+1:=⟨_,rfl⟩
   obtain⟨D,hD⟩:∃D,D=w.heap.size:=⟨_,rfl⟩
   obtain⟨W1,s8⟩:∃W1,W1=(w.alloc (.deferred (some []))).alloc (.loop (j6 fn a.tmps ps gm body D .ready none)):=⟨_,rfl⟩
   have hlW:W1.heap[l]?=some (.loop (j6 fn a.tmps ps gm body D .ready none)):=by
    rw[s8,hle];have:=World.alloc_heap_new (w.alloc (.deferred (some []))) (.loop (j6 fn a.tmps ps gm body D .ready none));rwa [World.size_alloc]at this
   have hDW:W1.heap[D]?=some (.deferred (some [])):=by
    rw[s8,hD];exact (Below.heap_alloc _ _ _ (by simp)).trans (World.alloc_heap_new w _)
   have hold:∀b,b<w.heap.size→W1.heap[b]?=w.heap[b]?:=fun b hb=>by
    rw[s8];exact (Below.heap_alloc _ _ b (by simp;omega)).trans (Below.heap_alloc _ _ b hb)
   have eD:W1.heap.size=w.heap.size+2:=by rw[s8];simp
   have st1:bh F w (fun b=>F b∨b=D) W1:=⟨by rw[s8];rfl,by rw[s8];rfl,by rw[s8];rfl,by omega,fun _ h=>.inl h,fun b hb=>hold b (hs.hp.low b hb),fun b c _ fz hc=>⟨c,fz,(hold b (tU hc)).trans hc,rfl⟩,by rw[s8];exact aM _⟩
   obtain⟨oH,gM⟩:=go l (.mD (j6 fn a.tmps ps gm body D .ready none) t) (fun e=>.mD (j6 fn a.tmps ps gm body D .done (some (Bb e))) t) (fun xs kb R1 Ol zZ=>XV (by have:=hs.defers.low;omega) hs.size yg (hA l) (hb l) Ol zZ)
   have NF:aX (fun b=>F b∨b=D) W1 ((l,[.mD (j6 fn a.tmps ps gm body D .ready none) t])::σ):=by
    refine⟨?_,fun p hp=>?_,fun b hb=>?_⟩
    ·simp only[oV,lp]
     refine⟨fun hm=>?_,hs.hp.nodup⟩
     obtain⟨p,hp,e⟩:=cY.1 hm
     have:=(hs.hp.holds p hp).lt
     omega
    ·rcases da.1 hp with rfl | hp
     ·exact⟨fun h=>h.elim (fun h=>by have:l<w.heap.size:=hs.hp.low l h;omega) (fun h=>by have:l=D:=h;omega),.inr (.inr ⟨_,t,rfl,hlW,fun i=>(hs.tm i).mono st1⟩)⟩
     ·have ab:=(hs.hp.holds p hp).lt
      exact (hs.hp.holds p hp).mono st1 (hold _ ab) (fun h=>h.elim (hs.hp.holds p hp).1 (fun e=>by omega))
    ·rcases hb with hb | hb
     ·have:=hs.hp.low b hb;omega
     ·omega
   have bX:jb (fun b=>F b∨b=D) W1 (.fn (.yield l) [] []::cap) (#[.func (.yield l) #[] #[]]++lb):=
    show jb _ _ ([.fn (.yield l) [] []]++cap) _ from Gd (Rf (.fn _ _ _ _ _ rfl rfl (fun i x h=>by simp at h) (fun i x h=>by simp at h))) (IF.mono st1)
   have kg:∀d∈a.defers,d≠{ target:=.collected D,args:= #[] }:=fun d hd e=>by
    obtain⟨D',q1,_,_,q4⟩:=hs.defers.is d hd
    rw[q1]at e
    cases e
    have:=tU q4
    omega
   refine⟨l,[{ target:=.collected D,args:= #[] }],W1,{ target:=.fn (.func gf) lb,args:= #[.func (.yield l) #[] #[]] },W1,gf,#[.func (.yield l) #[] #[]]++lb,W1,?_,?_,fun _ _=>trivial,?_,fun hd=>(by cases hd),?_⟩
   ·rw[s8,hle,hD];exact e1
   ·simp only[resolve,hv]
    simp[go_sem]
   ·have:=oH (#[.func (.yield l) #[] #[]]++lb) W1
    simpa [invoke]using this
   ·refine callsIn_wide.2 ((gM _ W1 _ bX NF).mono ?_)
    rintro e w3 ⟨rv,v,σ',F',rfl,pV,Es,_,hR⟩
    have Nz:=st1.trans pV
    have fin:∀(L':Loop) (σ2:Hp),σ'=(l,[.mD L' t])::σ2→L'.state≠.busy→∃w4,(Instr.endLoop l).run P w3=.ok L'.pending w4∧bh F w F' w4∧dg B n F' w4 t σ2 { a with defers:=[{ target:=.collected D,args:= #[] }]++a.defers }:=by
     intro L' σ2 e ao
     subst e
     obtain⟨JE,rU,_⟩:=(Es.holds _ (bV ..)).VX
     have bZ:=Es.nodup
     simp only[oV,lp]at bZ
     have aO:∀p∈σ2,p.1≠l:=fun p hp e=>bZ.1 (cY.2 ⟨p,hp,e⟩)
     have nc:NC F' w3 F' (w3.putObj l (.loop { L' with state:=.exhausted })):=ME rU fun _ _ h=>h
     have hDF:F' D:=pV.sub D (.inr rfl)
     have N7:bh F' w3 F' (w3.putObj l (.loop { L' with state:=.exhausted })):=⟨rfl,rfl,rfl,by rw[World.putObj_size];exact aM _,fun _ h=>h,fun b hb=>World.putObj_heap_other (fun e=>JE (e▸hb)),fun b c T fz hc=>⟨c,fz,Lq rU b c T fz hc,rfl⟩,aM _⟩
     refine⟨_,run_endLoop rU ao,Nz.trans N7,fun i=>((hs.tm i).mono Nz).nc nc,?_,hs.size,?_⟩
     ·exact⟨bZ.2,fun p hp=>(Es.holds p (cE _ hp)).nc nc (World.putObj_heap_other (aO p hp)) (Es.holds p (cE _ hp)).1,fun b hb=>by rw[World.putObj_size];exact Es.low b hb⟩
     ·have hm:=hs.defers.mono (Nz.trans N7)
      refine⟨hm.low,?_,fun d hd=>?_⟩
      ·simp only[Cc,yy,lp]
       exact⟨fun h=>kg _ h rfl,hm.nodup⟩
      ·rcases da.1 hd with rfl | hd
       ·exact⟨D,rfl,by have:=hs.defers.low;omega,hDF,(N7.fix D hDF).trans ((pV.fix D (.inr rfl)).trans hDW)⟩
       ·exact hm.is d hd
    rcases hR with ⟨σ2,e,hk⟩ | ⟨ex,σ2,aO,e,hk⟩
    ·obtain⟨w4,k1,k2,k3⟩:=fin _ σ2 e (by simp[j6])
     exact⟨none,w4,k1,hq .normal σ2 F' w4 _ k2 k3 hk⟩
    ·obtain⟨w4,k1,k2,k3⟩:=fin _ σ2 e (by simp[j6])
     refine⟨some (Bb ex),w4,k1,?_⟩
     have Ou:=hq ex σ2 F' w4 _ k2 k3 hk
     cases ex with
     |normal=>exact absurd rfl aO
     |exit i=>exact wpIn_exit Ou
     |goto i=>exact wpIn_goto Ou
     |ret=>exact wpIn_ret Ou
  |_=>rw[hv]at Fe;cases Fe
theorem Yk(ok:dD P TT)(hm:P.follows .mixedOrders=true){B n:Nat}:∀(fuel:Nat) (c:Code) (t:Tm) (σ:Hp) (K:Ex→Tm→Hp→Prop) (F:Nat→Prop) (w:World) (a:Act) (Q:Exit→Act→World→Prop) (r:Option Nat),codeOk n r.isSome c=true→mG P TT fuel c t σ K→dg B n F w t σ a→
  (∀e t' σ' F' w' a',bh F w F' w'→dg B n F' w' t' σ' a'→K e t' σ'→Q e.up a' w')→c.wpIn (FW r) 0 P Q a w:=by
 intro fuel
 induction fuel with
 |zero=>intro c t σ K F w a Q r _ h;exact h.elim
 |succ fuel ih=>
  intro c t σ K F w a Q r hc h hs hq
  cases c with
  |skip=>exact wpIn_skip (hq .normal t σ F w a (.refl _ _) hs h)
  |label l=>exact wpIn_label (hq .normal t σ F w a (.refl _ _) hs h)
  |exit id=>exact wpIn_exit (hq (.exit id) t σ F w a (.refl _ _) hs h)
  |goto l=>exact wpIn_goto (hq (.goto l) t σ F w a (.refl _ _) hs h)
  |ret=>exact wpIn_ret (hq .ret t σ F w a (.refl _ _) hs h)
  |region id ops draw=>
   have hd:=afQ (n:=n) (ops:=ops.toList) hc
   have bZ:=agD (n:=n) (ops:=ops.toList) hc
   cases draw with
   |false=>exact XW bZ (KH ok ops.toList t σ _ F w a hd h hs (fun t' σ' F' w' a' h1 h2 h3=>hq .normal t' σ' F' w' a' h1 h2 h3))
   |true=>
    have h:gN P TT ops.toList (K .normal) t σ:=h
    exact Y7 ok hm hd bZ h hs (fun t' σ' F' w' a' h1 h2 h3=>hq .normal t' σ' F' w' a' h1 h2 h3)
  |seq x y=>
   simp only[codeOk,bL]at hc
   refine wpIn_seq (ih x t σ _ F w a _ r hc.1 h hs ?_)
   intro e t' σ' F' w' a' h1 h2 h3
   cases e with
   |normal=>exact ih y t' σ' K F' w' a' Q r hc.2 h3 h2 (fun e zK kq nZ mf PH k1 k2 k3=>hq e zK kq nZ mf PH (h1.trans k1) k2 k3)
   |exit id=>exact hq (.exit id) t' σ' F' w' a' h1 h2 h3
   |goto l=>exact hq (.goto l) t' σ' F' w' a' h1 h2 h3
   |ret=>exact hq .ret t' σ' F' w' a' h1 h2 h3
  |cond x y z=>
   simp only[codeOk,bL]at hc
   have h:(match ev t x with | .bool b=>(match b with | true=>mG P TT fuel y t σ K | false=>mG P TT fuel z t σ K) | _=>False):=h
   have hx:=hs.tm.eval x
   split at h
   ·rename_i b hb
    rw[hb]at hx
    refine wpIn_cond (t:=b) hx.rC ?_
    cases b with
    |true=>exact ih y t σ K F w a Q r hc.1 h hs hq
    |false=>exact ih z t σ K F w a Q r hc.2 h hs hq
   ·exact h.elim
  |block id c=>
   refine wpIn_block (ih c t σ _ F w a _ r hc h hs ?_)
   intro e t' σ' F' w' a' h1 h2 h3
   cases e with
   |normal=>exact hq .normal t' σ' F' w' a' h1 h2 h3
   |exit i=>
    show (if i=id then Q .normal a' w' else Q (.exit i) a' w')
    have h3:(match Nat.beq i id with | true=>K .normal t' σ' | false=>K (.exit i) t' σ'):=h3
    cases hb:Nat.beq i id with
    |true=>rw[hb]at h3;rw[ag (jr hb)];exact hq .normal t' σ' F' w' a' h1 h2 h3
    |false=>
     rw[hb]at h3
     rw[ah (fun e=>by subst e;rw[yx]at hb;cases hb)]
     exact hq (.exit i) t' σ' F' w' a' h1 h2 h3
   |goto l=>exact hq (.goto l) t' σ' F' w' a' h1 h2 h3
   |ret=>exact hq .ret t' σ' F' w' a' h1 h2 h3
  |loop c=>
   have h:mH (fun t σ Q=>mG P TT fuel c t σ Q) K t σ:=h
   exact YR (fun t σ K F w a Q h hs hq=>ih c t σ K F w a Q r hc h hs hq) h hs hq
  |scope c=>
   simp only[codeOk,bL,jq]at hc
   obtain⟨hr,hc⟩:=hc
   obtain rfl:r=none:=by cases r with | none=>rfl | some l=>cases hr
   refine wpIn_wide.2 (Xv (wpIn_wide.1 (ih c t σ _ F w a _ none hc h hs ?_)))
   intro e t' σ' F' w' a' h1 h2 h3
   cases e with
   |normal=>exact .normal (hq .normal t' σ' F' w' a' h1 h2 h3)
   |exit i=>exact .exit (hq (.exit i) t' σ' F' w' a' h1 h2 h3)
   |ret=>exact .ret (hq .ret t' σ' F' w' a' h1 h2 h3)
   |goto l=>
    have h3:rF (fun l t σ Q=>match findLabel c l with | some r=>mG P TT fuel r t σ Q | none=>False) l K t' σ':=h3
    exact YZ (fun l t σ K F w a Q h hs hq=>by
     have h:(match findLabel c l with | some r=>mG P TT fuel r t σ K | none=>False):=h
     split at h
     ·rename_i r hr
      exact⟨r,hr,wpIn_wide.1 (ih r t σ K F w a Q none (ac0 c l r hr hc) h hs hq)⟩
     ·exact h.elim) h3 h2 (fun e zK kq nZ mf PH k1 k2 k3 k4=>hq e zK kq nZ mf PH (h1.trans k1) k2 k3)
  |rangeFunc g ps gm body=>
   simp only[codeOk,bL,jq]at hc
   obtain⟨⟨⟨hr,yg⟩,gU⟩,mU⟩:=hc
   obtain rfl:r=none:=by cases r with | none=>rfl | some l=>cases hr
   have h:(match ev t g with | .fn (.func gf) [] cap=>A5 P gf cap ps.size (fun xs kb R1=>mG P TT fuel gm (BK ps.toList xs t) kb fun e t' σ'=>match e with | .normal=>mG P TT fuel body t' σ' (fun e _ kq=>R1 e kq) | _=>False) (fun e σ'=>K e t σ') σ | _=>False):=h
   split at h
   ·rename_i gf cap hg
    exact XZ hg yg (fun l t σ K F w a Q h hs hq=>ih gm t σ K F w a Q (some l) gU h hs hq) (fun l t σ K F w a Q h hs hq=>ih body t σ K F w a Q (some l) mU h hs hq) h hs (fun e σ' F' w' a' k1 k2 k3=>hq e t σ' F' w' a' k1 k2 k3)
   ·exact h.elim
  |refuse=>exact h.elim
inductive Fin(R:AV→Hp→Prop):AV→Hp→Prop where
 |done {r:AV} {σ:Hp} (h:R r σ):Fin R r σ
 |pull {r:AV} {σ:Hp} (js:List Nat) (h:Fin R r (oh js σ)):Fin R r σ
 |drop {r:AV} {σ:Hp} (k n:Nat) (h:Fin R r (σ.take k++σ.drop (k+n))):Fin R r σ
 |perm {r:AV} {σ σ2:Hp} (hp:σ2.Perm σ) (h:Fin R r σ2):Fin R r σ
 |cI {r r':AV} {σ:Hp} (j b off len es:Nat) (cs:List AV) (e:Sh) (l:List e.T) (h1:σ[j]?=some (b,cs)) (h2:(cs.drop off).take (len*es)=l.flatMap e.cells) (h3:l.length=len∧e.size=es∧0<es) (h4:eI b off len es e l r r') (h:Fin R r' (σ.eraseIdx j)):Fin R r σ
 |nil {r r':AV} {σ:Hp} (h4:eI 0 0 0 0 .bool [] r r') (h:Fin R r' σ):Fin R r σ
 |dM {r:AV} {σ σ2:Hp} (h1:jg σ σ2) (h:Fin R r σ2):Fin R r σ
 |ku {r:AV} {σ:Hp} (j b off len es:Nat) (cs:List AV) (e:Sh) (l:List e.T) (h1:σ[j]?=some (b,cs)) (h2:(cs.drop off).take (len*es)=l.flatMap e.cells) (h3:l.length=len∧e.size=es∧0<es) (i k b':Nat) (cs':List AV) (hi:(σ.eraseIdx j)[i]?=some (b',cs')) (hk:cs'[k]?=some (.ae b off len es)) (h:Fin R r ((σ.eraseIdx j).set i (b',cs'.set k (.ai e l)))):Fin R r σ
theorem RY{R:AV→Hp→Prop}{r:AV}{σ:Hp}(h:Fin R r σ):∀(F:Nat→Prop) (w:World) (v:Value),aX F w σ→ax F w r v→∃r' σ' F',bh F w F' w∧aX F' w σ'∧ax F' w r' v∧R r' σ':=by
 induction h with
 |done h=>exact fun F w v aC hv=>⟨_,_,F,.refl _ _,aC,hv,h⟩
 |pull js h ih=>exact fun F w v aC hv=>ih F w v (aC.perm (yP js _)) hv
 |perm hp h ih=>exact fun F w v aC hv=>ih F w v (aC.perm hp) hv
 | @drop r σ k n h ih=>
  intro F w v aC hv
  refine ih F w v (aC.sub ?_) hv
  have h1:(σ.drop (k+n)).Sublist (σ.drop k):=by
   rw[← B9]
   exact List.drop_sublist _ _
  have h2:=(List.Sublist.refl (σ.take k)).append h1
  rwa [yB]at h2
 | @cI r r' σ j b off len es cs e l h1 h2 h3 h4 h ih=>
  intro F w v aC hv
  obtain⟨ao,qy,hh⟩:=xH aC h1 h2 h3
  obtain⟨N9,kq,nZ,k1,k2,k3,k4⟩:=ih _ w v qy (Cr ao hh h4 v hv)
  exact⟨N9,kq,nZ,ao.trans k1,k2,k3,k4⟩
 |dM h1 h ih=>exact fun F w v aC hv=>ih F w v (aC.dM h1) hv
 |ku j b off len es cs e l h1 h2 h3 i k b' cs' hi hk h ih=>
  intro F w v aC hv
  obtain⟨ao,qy,hh⟩:=xH aC h1 h2 h3
  obtain⟨N9,kq,nZ,k1,k2,k3,k4⟩:=ih _ w v (G9 qy hh hi hk) (hv.mono ao)
  exact⟨N9,kq,nZ,ao.trans k1,k2,k3,k4⟩
 |nil h4 h ih=>
  intro F w v aC hv
  refine ih F w v aC (Cr (.refl _ _) (fun v hv=>?_) h4 v hv)
  obtain⟨a,cap,rfl,c,T,fz,m1,m2,m3,m4⟩:=hv.lD
  exact .ai _ _ _ ⟨some a,cap,rfl,m2,m3,(fun e=>by cases e),fun aO=>absurd rfl aO⟩
def t0(xs:List AV):Tm:=fun i=>match xs[i]? with | some x=>x | none=>.any
def It:List AV→AV
 | [v]=>v
 |vs=>.tup vs
def Eg(TT:TypeId→Option TI)(l:List ResultVar):Tm→Hp→(List AV→Prop)→Prop:=
 List.rec (motive:=fun _=>Tm→Hp→(List AV→Prop)→Prop) (fun _ _ K=>K [])
  (fun x _ ih t σ K=>match x with
   |.tmp d=>strict (t d) fun v=>ih t σ fun vs=>K (bJ v::vs)
   |.cell d ty=>match TT ty with | some i=>qo i (t d) σ fun v=>ih t σ fun vs=>K (v::vs) | none=>False) l
def vO(TT:TypeId→Option TI)(rs:List ResultVar)(R:AV→Hp→Prop)(e:Ex)(t:Tm)(σ:Hp):Prop:=
 match e with
 |.normal | .ret=>Eg TT rs t σ fun vs=>Fin R (It vs) σ
 |_=>False
def vP(P:Program)(TT:TypeId→Option TI)(fn:Func)(xs:List AV)(σ:Hp)(R:AV→Hp→Prop):Prop:=
 match fn.body with
 |some c=>mG P TT 1000 c (t0 xs) σ (vO TT fn.results.toList R)
 |none=>False
def funcOk (fn : Func) : Bool := (match fn.body with | some c => codeOk fn.ntmps false c | none => false) && !(fn.name == "runtime.NumGoroutine")
theorem enters_of{f:FuncId}{fn:Func}(hf:P.funcs[f]?=some fn)(h:funcOk fn=true):Enters P f:=by
 unfold funcOk at h
 simp only[bL,jq]at h
 obtain⟨h1,h2⟩:=h
 have hb:fn.body.isNone=false:=by
  cases hb:fn.body with
  |none=>rw[hb]at h1;cases h1
  |some c=>rfl
 intro args w
 unfold callFunc
 simp only[Sem.run_bind,run_program,Result.andThen_ok,hf,h2,hb]
 rfl
theorem X5(ok:dD P TT){ty:TypeId}{i:TI}(hi:TT ty=some i){x:AV}{σ:Hp}{K:AV→Prop}(h:qo i x σ K):∃v,K v∧∀(F:Nat→Prop) (w:World) (u:Value),ax F w x u→aX F w σ→∃v',(do loadVar ty (← asAddr u):Sem Value).run P w=.ok v' w∧ax F w v v':=by
 unfold qo at h
 split at h
 ·split at h
  ·rename_i v hv
   refine⟨v,h,fun F w u hu aC =>?_⟩
   obtain⟨b,o',rfl,hF,dX⟩:=hu.y8
   obtain⟨v',h1,h2⟩:=Gp ok hi dX hv
   rw[uN]at h1
   exact⟨v',by simp[asAddr,h1],h2⟩
  ·exact h.elim
 ·obtain⟨j,cs,v,h1,h2,go⟩:=h
  refine⟨v,go,fun F w u hu aC =>?_⟩
  have OL:=hu.Ax
  obtain rfl:=hu.zu
  obtain⟨v',h3,h4⟩:=Gp ok hi (aC.at_ h1 OL) h2
  rw[dK]at h3
  exact⟨v',by simp[asAddr,h3],h4⟩
 ·exact h.elim
def HI(tmps:Array Value):ResultVar→Sem Value
 |.tmp t=>pure (tmps.getD t undef)
 |.cell d t=>do loadVar t (← asAddr (tmps.getD d undef))
theorem ady{F:Nat→Prop}{w:World}:∀(vs:List AV) (us:List Value),vs.length=us.length→(∀(i:Nat) (x:AV),vs[i]?=some x→ax F w x (us.getD i undef))→ax F w (It vs) (if h:us.toArray.size=1 then us.toArray[0] else .tuple us.toArray)
 | [v],[u],_,h=>by simpa [It]using h 0 v rfl
 | [],[],_,_=>.tup _ _ rfl (fun i x h=>by simp at h)
 |v::v2::vs,u::u2::us,hl,h=>by
  rw[dif_neg (by simp)]
  refine .tup _ _ (by simpa using hl) (fun i x hx=>?_)
  have:=h i x hx
  rw[aR]at this
  rw[gW,Ac]
  exact this
 | [],_::_,hl,_=>by simp at hl
 |_::_,[],hl,_=>by simp at hl
 | [_],_::_::_,hl,_=>by simp at hl
 |_::_::_,[_],hl,_=>by simp at hl
theorem KE(ok:dD P TT):∀(rs:List ResultVar) (t:Tm) (σ:Hp) (K:List AV→Prop),Eg TT rs t σ K→∀(F:Nat→Prop) (w:World) (a:Act),uk F w t a→aX F w σ→
  ∃vs us,K vs∧(rs.mapM (HI a.tmps)).run P w=.ok us w∧vs.length=us.length∧∀(i:Nat) (x:AV),vs[i]?=some x→ax F w x (us.getD i undef)
 | [],t,σ,K,h,F,w,a,_,_=>⟨[],[],h,rfl,rfl,fun i x h=>by simp at h⟩
 |.tmp d::rs,t,σ,K,h,F,w,a,ht,aC=>by
  have h:strict (t d) fun v=>Eg TT rs t σ fun vs=>K (bJ v::vs):=h
  rw[yT]at h
  obtain⟨vs,us,h1,h2,h3,h4⟩:=KE ok rs t σ _ h F w a ht aC
  refine⟨_,a.tmps.getD d undef::us,h1,?_,by simp[h3],fun i x hi=>?_⟩
  ·rw[List.mapM_cons]
   simp only[HI,Sem.run_bind,Sem.run_pure,Result.andThen_ok,h2]
  ·cases i with
   |zero=>simp at hi;subst hi;exact (ht d).bJ
   |succ i=>simpa using h4 i x (by simpa using hi)
 |.cell d ty::rs,t,σ,K,h,F,w,a,ht,aC=>by
  have h:(match TT ty with | some i=>qo i (t d) σ fun v=>Eg TT rs t σ fun vs=>K (v::vs) | none=>False):=h
  split at h
  ·rename_i i hi
   obtain⟨v,h,hv⟩:=X5 ok hi h
   obtain⟨v',k1,k2⟩:=hv F w _ (ht d) aC
   obtain⟨vs,us,h1,h2,h3,h4⟩:=KE ok rs t σ _ h F w a ht aC
   refine⟨_,v'::us,h1,?_,by simp[h3],fun i x hi=>?_⟩
   ·have k1':(HI a.tmps (.cell d ty)).run P w=.ok v' w:=k1
    rw[List.mapM_cons]
    simp only[Sem.run_bind,k1',Sem.run_pure,Result.andThen_ok,h2]
   ·cases i with
    |zero=>simp at hi;subst hi;exact k2
    |succ i=>simpa using h4 i x (by simpa using hi)
  ·exact h.elim
def shut(w:World)(ds:List Deferred):World:=ds.foldl (fun w d=>match d.target with | .collected D=>w.putObj D (.deferred none) | _=>w) w
def AY(D:Nat)(ds:List Deferred):Prop:=({ target:=.collected D,args:= #[] }:Deferred)∈ds
theorem YE{ds:List Deferred}:∀{w:World},(∀d∈ds,∃D,d = { target:=.collected D,args:= #[] })→∀b,¬AY b ds→(shut w ds).heap[b]?=w.heap[b]?:=by
 induction ds with
 |nil=>exact fun _ _ _=>rfl
 |cons d ds ih=>
  intro w hd b hb
  obtain⟨D,rfl⟩:=hd d (bV ..)
  have hbD:b≠D:=fun e=>hb (by subst e;exact bV ..)
  exact (ih (w:=w.putObj D (.deferred none)) (fun d h=>hd d (cE _ h)) b (fun h=>hb (cE _ h))).trans (World.putObj_heap_other hbD)
theorem ZE{ds:List Deferred}:∀{w:World},(shut w ds).os=w.os∧(shut w ds).tape=w.tape∧(shut w ds).output=w.output∧(shut w ds).heap.size=w.heap.size∧(shut w ds).drawn=w.drawn:=by
 induction ds with
 |nil=>exact fun {w}=>⟨rfl,rfl,rfl,rfl,rfl⟩
 |cons d ds ih=>
  intro w
  obtain⟨t,gm⟩:=d
  cases t with
  |collected D=>
   obtain⟨h1,h2,h3,h4,h5⟩:=ih (w:=w.putObj D (.deferred none))
   exact⟨h1,h2,h3,h4.trans World.putObj_size,h5⟩
  |_=>exact ih
theorem PY{fn:Func}{tm:Array Value}{R:Ending→World→Prop}:∀(ds:List Deferred) (w:World),ds.Nodup→(∀d∈ds,∃D,d = { target:=.collected D,args:= #[] }∧w.heap[D]?=some (.deferred (some [])))→
  (∃v,(results fn tm).run P (shut w ds)=.ok v (shut w ds)∧R (.returned v) (shut w ds))→LeavesInM Fence.wide 0 P fn tm R ds .returning w
 | [],_,_,_,h=>h
 |d::ds,w,bZ,hd,h=>by
  obtain⟨D,rfl,hw⟩:=hd d (bV ..)
  obtain⟨rR,kD⟩:=lp.1 bZ
  refine⟨by simp,.inl ⟨D,_,rfl,run_takeDeferred hw,PY ds _ kD (fun d hm=>?_) h⟩⟩
  obtain⟨D',rfl,hw'⟩:=hd d (cE _ hm)
  exact⟨D',rfl,(World.putObj_heap_other (fun e=>rR (by subst e;exact hm))).trans hw'⟩
theorem aaM(ok:dD P TT)(hm:P.follows .mixedOrders=true){f:FuncId}{fn:Func}{xs:List AV}{σ:Hp}{R:AV→Hp→Prop}(hf:P.funcs[f]?=some fn)(bF:funcOk fn=true)(h:vP P TT fn xs σ R):ACalls P f xs σ R:=by
 refine⟨enters_of hf bF,fun F w vs bX aC =>?_⟩
 unfold funcOk at bF
 simp only[bL]at bF
 unfold vP at h
 cases hb:fn.body with
 |none=>rw[hb]at h;exact h.elim
 |some c=>
  rw[hb]at h
  have hc:codeOk fn.ntmps false c=true:=by have:=bF.1;rw[hb]at this;exact this
  refine callsIn_wide.1 (callsIn_of_wp_marks (n:=0) hf hb trivial (Yk (B:=w.heap.size) ok hm 1000 c (t0 xs) σ _ F w _ _ none hc h ⟨fun i=>?_,aC,by simp;omega,⟨Nat.le_refl _,.nil,fun d hd=>by cases hd⟩⟩ ?_))
  ·show ax F w (match xs[i]? with | some x=>x | none=>.any) ((vs++Array.replicate (fn.ntmps-vs.size) undef).getD i undef)
   cases hi:xs[i]? with
   |none=>exact .any _
   |some x=>
    have ab:i<vs.size:=by rw[← bX.1];exact (bQ.1 hi).1
    have:=bX.2 i x hi
    rw[gW]at this ⊢
    rw[Kk ab]
    exact this
  ·intro e t' σ' F' w' a' h1 h2 h3
   have fin:Eg TT fn.results.toList t' σ' (fun vs=>Fin R (It vs) σ')→LeavesInM Fence.wide 0 P fn a'.tmps (fun e w'=>∃r v σ' F',e=.returned v∧bh F w F' w'∧aX F' w' σ'∧ax F' w' r v∧R r σ') a'.defers .returning w':=by
    intro h3
    have hmk:∀d∈a'.defers,∃D,d = { target:=.collected D,args:= #[] }:=fun d hd=>(h2.defers.is d hd).imp fun _ h=>h.1
    refine PY a'.defers w' h2.defers.nodup (fun d hd=>(h2.defers.is d hd).imp fun _ h=>⟨h.1,h.2.2.2⟩) ?_
    have hD:∀b,AY b a'.defers→w.heap.size≤b∧F' b∧w'.heap[b]?=some (.deferred (some [])):=fun b hb=>by
     obtain⟨D,q1,q2,q3,q4⟩:=h2.defers.is _ hb
     cases q1
     exact⟨q2,q3,q4⟩
    have Eu:=YE (w:=w') hmk
    obtain⟨z1,z2,z3,z4,z5⟩:=ZE (w:=w') (ds:=a'.defers)
    obtain⟨w2,uz⟩:∃w2,w2=shut w' a'.defers:=⟨_,rfl⟩
    rw[← uz]at Eu z1 z2 z3 z4 z5 ⊢
    have lE:∀b,oc w' b→¬AY b a'.defers:=fun b ⟨c,T,fz,hc⟩ hb=>by
     rw[(hD b hb).2.2]at hc;cases hc
    have nc:NC F' w' (fun b=>F' b∧¬AY b a'.defers) w2:=⟨fun b hb=>⟨hb.1,lE b hb.2⟩,fun b hb=>Eu b (lE b hb)⟩
    have st2:bh F w (fun b=>F' b∧¬AY b a'.defers) w2:= {
     os:=z1.trans h1.os
     tape:=z2.trans h1.tape
     output:=z3.trans h1.output
     size:=by rw[z4];exact h1.size
     sub:=fun b hF=>⟨h1.sub b hF,fun hb=>by have:=(hD b hb).1;have:=aC.low b hF;omega⟩
     fix:=fun b hF=>by
      rw[Eu b (fun hb=>by have:=(hD b hb).1;have:=aC.low b hF;omega)]
      exact h1.fix b hF
     rows:=fun b c T fz hc=>by
      obtain⟨c',sf,q1,q2⟩:=h1.rows b c T fz hc
      exact⟨c',sf,(Eu b (lE b ⟨c',T,sf,q1⟩)).trans q1,q2⟩
     drawn:=by rw[z5];exact h1.drawn }
    have Ww:aX (fun b=>F' b∧¬AY b a'.defers) w2 σ':=h2.hp.nc nc (fun p hp=>⟨Eu p.1 (fun hb=>(h2.hp.holds p hp).1 (hD p.1 hb).2.1),fun h=>(h2.hp.holds p hp).1 h.1⟩) (fun b hb=>by rw[z4];exact h2.hp.low b hb.1)
    obtain⟨eC,us,k1,k2,k3,k4⟩:=KE ok _ _ _ _ h3 _ w2 a' (fun i=>(h2.tm i).nc nc) Ww
    have ahE:(results fn a'.tmps).run P w2=.ok (if h:us.toArray.size=1 then us.toArray[0] else .tuple us.toArray) w2:=by
     rw[show results fn a'.tmps=(do let vs ← fn.results.mapM (HI a'.tmps);pure (if h:vs.size=1 then vs[0] else .tuple vs)) from rfl]
     rw[Sem.run_bind,Array.mapM_eq_mapM_toList]
     simp only[Sem.run_map,k2,Result.andThen_ok]
     rfl
    have ahF:=ady eC us k3 k4
    obtain⟨r',kq,nZ,q1,q2,q3,q4⟩:=RY k1 _ w2 _ Ww ahF
    exact⟨_,ahE,r',_,kq,nZ,rfl,st2.trans q1,q2,q3,q4⟩
   cases e with
   |normal=>exact fin h3
   |ret=>exact fin h3
   |exit i=>exact h3.elim
   |goto l=>exact h3.elim
theorem ACalls.mono{f:FuncId}{xs:List AV}{σ:Hp}{R R':AV→Hp→Prop}(h:ACalls P f xs σ R)(hr:∀r σ',R r σ'→R' r σ'):ACalls P f xs σ R':=
 ⟨h.1,fun F w vs hv aC=>(h.2 F w vs hv aC).mono fun _ _ ⟨r,v,σ',F',h1,h2,h3,h4,h5⟩=>⟨r,v,σ',F',h1,h2,h3,h4,hr _ _ h5⟩⟩
theorem ACalls.fin{f:FuncId}{xs:List AV}{σ:Hp}{R R':AV→Hp→Prop}(h:ACalls P f xs σ R)(hr:∀r σ',R r σ'→Fin R' r σ'):ACalls P f xs σ R':=
 ⟨h.1,fun F w vs hv aC=>(h.2 F w vs hv aC).mono fun _ _ ⟨r,v,σ',F',h1,h2,h3,h4,h5⟩=>by
  obtain⟨r',kq,nZ,q1,q2,q3,q4⟩:=RY (hr _ _ h5) F' _ v h3 h4
  exact⟨r',v,kq,nZ,h1,h2.trans q1,q2,q3,q4⟩⟩
def Sh.pos:Sh→Bool
 |.slice e=>decide (0<e.size)&&e.pos
 |.field f r=>f.pos&&r.pos
 |_=>true
theorem RT{w:World}:∀(s:Sh) (cs:List Value) (d:s.T),s.pos=true→Reads w s cs d→kP (fun b=>b<w.heap.size) w s cs d:=by
 intro s
 induction s with
 |int k=>exact fun _ _ _ h=>h.1
 |bool=>exact fun _ _ _ h=>h
 |str=>exact fun _ _ _ h=>h.1
 |nil=>exact fun _ _ _ h=>h
 |slice e ih=>
  rintro cs l hp ⟨a,c,h1,h2,h3,h0,h4⟩
  simp only[Sh.pos,bL,decide_eq_true_eq]at hp
  refine⟨a,c,h1,h2,h3,h0,fun aO=>?_⟩
  obtain⟨b,o,rfl,hi⟩:=h4 aO
  have ui:0<l.length:=mm.2 aO
  refine⟨b,o,rfl,?_,fun i h=>?_⟩
  ·obtain⟨cs',q1,q2,q3⟩:=hi 0 ui
   cases cs' with
   |nil=>simp at q1;omega
   |cons u cs'=>
    have lE:=q2 0 u rfl
    unfold World.cell? at lE
    cases ho:w.heap[b]? with
    |none=>simp[ho]at lE
    |some x=>
     cases x with
     |cells c T fz=>exact⟨tU ho,c,T,fz,ho⟩
     |_=>simp[ho]at lE
  ·obtain⟨cs',q1,q2,q3⟩:=hi i h
   exact⟨cs',q1,q2,ih _ _ hp.2 q3⟩
 |field f r qJ jS=>
  rintro cs d hp ⟨c1,c2,h1,h2,h3,h4⟩
  simp only[Sh.pos,bL]at hp
  exact⟨c1,c2,h1,h2,qJ _ _ hp.1 h3,jS _ _ hp.2 h4⟩
theorem afG{f:FuncId}{xs:List AV}(h:ACalls P f xs [] (fun r _=>r=.bool true)){w:World}{vs:Array Value}(hv:jb (fun b=>b<w.heap.size) w xs vs):
  Calls P f vs w fun e w'=>e=.returned (.bool true)∧Below w.heap.size w w':=by
 refine (h.2 _ w vs hv ⟨by simp,(fun p hp=>by cases hp),fun _ h=>h⟩).mono ?_
 rintro e w' ⟨r,v,σ',F',rfl,h1,h2,h3,rfl⟩
 rw[h3.rC]
 exact⟨rfl,h1.os,h1.tape,h1.output,h1.size,fun k hk=>h1.fix k hk⟩
end
end Go.Proofs.YtnikdflhefijbaaGreat
