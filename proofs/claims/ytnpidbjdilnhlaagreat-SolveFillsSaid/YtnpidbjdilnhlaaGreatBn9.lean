import Derived.WalkMore
import Derived.Test.YtnpidbjdilnhlaaGreatBn8
import Derived.Test.YtnpidbjdilnhlaaGreatBn1
namespace Go.Proofs.YtnpidbjdilnhlaaGreat
open Go.RowKit
section
variable {P:Program} {TT:TypeId→Option TI}
def xD(n:Nat)(o:Oper):Bool:=(match o.dst with | some d=>Nat.blt d n | none=>true) && (match o.op with | .defer _=>false | _=>true)
def codeOk(n:Nat):Bool→Code→Bool
 | _,.region _ ops _=>ops.toList.all (xD n)
 | rd,.seq a b=>codeOk n rd a && codeOk n rd b
 | rd,.cond _ a b=>codeOk n rd a && codeOk n rd b
 | rd,.block _ c=>codeOk n rd c
 | rd,.loop c=>codeOk n rd c
 | rd,.scope c => !rd && codeOk n false c
 | rd,.rangeFunc _ ps a b => !rd && ps.toList.all (fun p=>Nat.blt p n) && codeOk n true a && codeOk n true b
 | _,_=>true
theorem Ru{n:Nat}{rd:Bool}:∀(c:Code) (l:Nat) (r:Code),findLabel c l=some r→codeOk n rd c=true→codeOk n rd r=true:=by
 intro c
 induction c with
 | seq a b iha FE =>
  intro l r h hc
  simp only[codeOk,Bool.and_eq_true]at hc
  simp only[findLabel]at h
  split at h
  ·rename_i rest hr
   cases h
   simp only[codeOk,Bool.and_eq_true]
   exact⟨iha l _ hr hc.1,hc.2⟩
  ·exact FE l r h hc.2
 | label l' =>
  intro l r h _
  simp only[findLabel]at h
  split at h
  ·cases h;rfl
  ·cases h
 | _=>intro l r h;simp[findLabel]at h
theorem Vh{n:Nat}{ops:List Oper}(h:ops.all (xD n)=true):∀o∈ops,∀d,o.dst=some d→d<n:=fun o ho d hd=>by
 have:=List.all_eq_true.1 h o ho
 unfold xD at this
 rw[hd,Bool.and_eq_true]at this
 exact Nat.le_of_ble_eq_true this.1
theorem V4{n:Nat}{ops:List Oper}(h:ops.all (xD n)=true):∀o∈ops,∀c,o.op≠.defer c:=fun o ho c hc=>by
 have:=List.all_eq_true.1 h o ho
 unfold xD at this
 rw[hc,Bool.and_eq_true]at this
 cases this.2
theorem M7{F:Fence}{n:Nat}{c:Code}{Q:Exit→Act→World→Prop}{a:Act}{w:World}(J:Nat→Act→World→Prop)(m:Nat)(W3:J m a w)
  (round:∀m a w,J m a w→c.wpIn F n P (Exit.then (fun a' w'=>∃m',m'<m∧J m' a' w') Q) a w):(Code.loop c).wpIn F n P Q a w:=by
 intro b k cs j0 hb hr
 have key:∀n a w,J n a w→∃e a' w',Q e a' w'∧ArrivesIn (Machine.fenced P F) P (lone (b.atR a (.code c::.inLoop c::k)) cs w) b k cs e a' w':=by
  intro n
  induction n using Nat.strongRecOn with
  | _ n ih =>
   intro a w hI
   obtain⟨e,om,nZ,hq,ml⟩:=round n a w hI b (.inLoop c::k) cs j0 hb hr
   cases e with
   | normal =>
    obtain⟨m',ab,Wk⟩:=hq
    obtain⟨XS,vE,vy,r9,uN⟩:=ih m' ab om nZ Wk
    exact⟨XS,vE,vy,r9,.of_steps (StepsIn.trans ml (.one (fenced_calm hb hr rfl) stepR_inLoop)) uN⟩
   | exit id=>exact⟨_,om,nZ,hq,.pass (x:=.inLoop c) rfl (fun _ _=>.inl (by simp)) ml⟩
   | goto l=>exact⟨_,om,nZ,hq,.pass (x:=.inLoop c) rfl (fun _ _=>.inl (by simp)) ml⟩
   | ret=>exact⟨_,om,nZ,hq,.pass (x:=.inLoop c) rfl (fun _ _=>.inl (by simp)) ml⟩
   | panic ch=>exact⟨_,om,nZ,hq,.pass (x:=.inLoop c) rfl (fun _ _=>.inl (by simp)) ml⟩
   | outgrown=>exact⟨_,om,nZ,hq,.pass (x:=.inLoop c) rfl (fun _ _=>.inl (by simp)) ml⟩
 obtain⟨e,a',w',hq,ml⟩:=key m a w W3
 exact⟨e,a',w',hq,.of_steps (.one (fenced_calm hb hr rfl) stepR_loop) ml⟩
def Ex.up:Ex→Exit
 | .normal=>.normal
 | .exit id=>.exit id
 | .goto l=>.goto l
 | .ret=>.ret
inductive vx(P:Program)(c:Code)(Q:Exit→Act→World→Prop):Exit→Act→World→Prop where
 | normal {a:Act} {w:World} (h:Q .normal a w):vx P c Q .normal a w
 | exit {id:Nat} {a:Act} {w:World} (h:Q (.exit id) a w):vx P c Q (.exit id) a w
 | ret {a:Act} {w:World} (h:Q .ret a w):vx P c Q .ret a w
 | goto {l:Nat} {a:Act} {w:World} (n:Nat) (J:Nat→Nat→Act→World→Prop) (h:J n l a w) (hr:∀n l a w,J n l a w→∃r,findLabel c l=some r∧r.wp P (fun e a' w'=>match e with | .goto l'=>∃n',n'<n∧J n' l' a' w' | .panic _=>False | .outgrown=>False | e=>Q e a' w') a w):vx P c Q (.goto l) a w
theorem Nk{c:Code}{Q:Exit→Act→World→Prop}{a:Act}{w:World}(h:c.wp P (vx P c Q) a w):(Code.scope c).wp P Q a w:=by
 intro b k cs
 obtain⟨e,om,nZ,hq,ml⟩:=h b (.inScope c::k) cs
 have top:Steps P (lone (b.at a (.code (.scope c)::k)) cs w) (lone (b.at a (.code c::.inScope c::k)) cs w):=.one step_scope
 cases hq with
 | normal h=>exact⟨.normal,om,nZ,h,.of_steps top (Steps.trans ml (.one step_inScope))⟩
 | exit h=>exact⟨.exit _,om,nZ,h,.of_steps top (fun k' hk=>ml k' (by simp[exitTo,hk]))⟩
 | ret h=>exact⟨_,om,nZ,h,.of_steps top ml⟩
 | @goto l _ _ n J hJ hr =>
  have key:∀(n l:Nat) (a:Act) (w:World),J n l a w→∃rest,findLabel c l=some rest∧∃e a' w',Q e a' w'∧Arrives P (lone (b.at a (.code rest::.inScope c::k)) cs w) b k cs e a' w':=by
   intro n
   induction n using Nat.strongRecOn with
   | _ n ih =>
    intro l a w hI
    obtain⟨r,hl,hwp⟩:=hr n l a w hI
    refine⟨r,hl,?_⟩
    obtain⟨e,vE,vy,r9,uN⟩:=hwp b (.inScope c::k) cs
    cases e with
    | normal=>exact⟨.normal,vE,vy,r9,Steps.trans uN (.one step_inScope)⟩
    | exit id=>exact⟨.exit id,vE,vy,r9,fun k' hk=>uN k' (by simp[exitTo,hk])⟩
    | goto l' =>
     obtain⟨n',ab,hJ'⟩:=r9
     obtain⟨rest,hf,Fe,Fj,ES,ED,DO⟩:=ih n' ab l' vE vy hJ'
     have hg:gotoIn l' (.inScope c::k)=some (.code rest::.inScope c::k):=by simp[gotoIn,hf]
     exact⟨Fe,Fj,ES,ED,.of_steps (uN _ hg) DO⟩
    | ret=>exact⟨_,vE,vy,r9,uN⟩
    | panic ch=>exact r9.elim
    | outgrown=>exact r9.elim
  obtain⟨rest,hf,Fe,Fj,ES,ED,DO⟩:=key n l om nZ hJ
  have hg:gotoIn l (.inScope c::k)=some (.code rest::.inScope c::k):=by simp[gotoIn,hf]
  exact⟨Fe,Fj,ES,ED,.of_steps top (.of_steps (ml _ hg) DO)⟩
theorem ca.bO{B n:Nat}{F:Nat→Prop}{w:World}{t t':Tm}{σ:Hp}{a:Act}(hs:ca B n F w t σ a){j b off len es:Nat}{cs:List AV}{e:Sh}{l:List e.T}(h1:σ[j]?=some (b,cs))(h2:(cs.drop off).take (len*es)=l.flatMap e.cells)(h3:l.length=len∧e.size=es∧0<es)(h4:∀i,dp b off len es e l (t i) (t' i)):
  ∃F',a6 F w F' w∧ca B n F' w t' (σ.eraseIdx j) a:=by
 obtain⟨ar,kR,hh⟩:=ql hs.hp h1 h2 h3
 exact⟨_,ar,fun i=>sP ar hh (h4 i) _ (hs.tm i),kR,hs.size,hs.defers.mono ar⟩
theorem ca.wrap{B n:Nat}{F:Nat→Prop}{w:World}{t:Tm}{σ:Hp}{a:Act}(hs:ca B n F w t σ a){k:Nat}{v:AV}(h1:t k=v)(h2:v.leaf=true):ca B n F w (jZ t [(k,.via v)]) σ a:=
 ⟨fun i=>by
  show aA F w (match Nat.beq i k with | true=>.via v | false=>t i) _
  cases hb:Nat.beq i k with
  | true=>rw[Nat.eq_of_beq_eq_true hb];exact .via _ _ h2 (h1▸hs.tm k)
  | false=>exact hs.tm i,hs.hp,hs.size,hs.defers⟩
theorem OY(ok:ck P TT)(hm:P.follows .mixedOrders=true){r:Option Nat}{B n:Nat}{ops:Array Oper}{K:Tm→Hp→Prop}{Q:Exit→Act→World→Prop}{t:Tm}{σ:Hp}(hd:∀o∈ops.toList,∀d,o.dst=some d→d<n)(bC:∀o∈ops.toList,∀c,o.op≠.defer c)(h:eK P TT ops.toList K t σ):∀{F:Nat→Prop} {w:World} {a:Act} {id:Nat},ca B n F w t σ a→
  (∀t' σ' F' w' a',a6 F w F' w'→ca B n F' w' t' σ' a'→K t' σ'→Q .normal a' w')→(Code.region id ops true).wpIn (FW r) 0 P Q a w:=by
 induction h with
 | quiet h0 h=>exact fun hs hq=>NM ok hm h0 h hd bC hs (fun t' F' w' a' h1 h2 h3=>hq t' _ F' w' a' h1 h2 h3)
 | each h0 h=>exact fun hs hq=>HJ ok hm h0 h hd bC hs (fun t' σ' F' w' a' h1 h2 h3=>hq t' σ' F' w' a' h1 h2 h3)
 | sched Q0 s h0 h=>exact fun hs hq=>G0 ok hm h0 h hd bC hs (fun t' σ' F' w' a' h1 h2 h3=>hq t' σ' F' w' a' h1 h2 h3)
 | meet L H h0 h go =>
  intro F w a id hs hq
  refine HJ ok hm h0 h hd bC hs (fun t' σ' F' w' a' h1 h2 h3 =>?_)
  obtain⟨s,k1,k2⟩:=h3
  refine hq t' (H s) F' w' a' h1 (h2.cz k2) ?_
  rw[uE k1]
  exact go s t'
 | Ev Q0 s0 L H h0 h go =>
  intro F w a id hs hq
  refine G0 ok hm h0 h hd bC hs (fun t' σ' F' w' a' h1 h2 h3 =>?_)
  obtain⟨s,k1,k2⟩:=h3
  refine hq t' (H s) F' w' a' h1 (h2.cz k2) ?_
  rw[uE k1]
  exact go s t'
 | bO j b off len es cs e l h1 h2 h3 h4 h ih =>
  intro F w a id hs hq
  obtain⟨F1,k1,k2⟩:=hs.bO h1 h2 h3 h4
  exact ih k2 (fun t' σ' F' w' a' q1 q2 q3=>hq t' σ' F' w' a' (k1.trans q1) q2 q3)
 | cz h1 h ih =>
  intro F w a id hs hq
  exact ih (hs.cz h1) hq
theorem ca.hY{B n:Nat}{F:Nat→Prop}{w:World}{t:Tm}{σ:Hp}{a:Act}(hs:ca B n F w t σ a){j b off len es:Nat}{cs:List AV}{e:Sh}{l:List e.T}(h1:σ[j]?=some (b,cs))(h2:(cs.drop off).take (len*es)=l.flatMap e.cells)(h3:l.length=len∧e.size=es∧0<es){i k b':Nat}{cs':List AV}(hi:(σ.eraseIdx j)[i]?=some (b',cs'))(hk:cs'[k]?=some (.ae b off len es)):
  ∃F',a6 F w F' w∧ca B n F' w t ((σ.eraseIdx j).set i (b',cs'.set k (.af e l))) a:=by
 obtain⟨ar,kR,hh⟩:=ql hs.hp h1 h2 h3
 exact⟨_,ar,fun i=>(hs.tm i).mono ar,wW kR hh hi hk,hs.size,hs.defers.mono ar⟩
theorem ca.nil{B n:Nat}{F:Nat→Prop}{w:World}{t t':Tm}{σ:Hp}{a:Act}(hs:ca B n F w t σ a)(h4:∀i,dp 0 0 0 0 .bool [] (t i) (t' i)):ca B n F w t' σ a:=
 ⟨fun i=>sP (.refl _ _) (fun v hv=>by
  obtain⟨a,cap,rfl,c,T,fz,m1,m2,m3,m4⟩:=hv.iS
  exact .af _ _ _ ⟨some a,cap,rfl,m2,m3,(fun e=>by cases e),fun aS=>absurd rfl aS⟩) (h4 i) _ (hs.tm i),hs.hp,hs.size,hs.defers⟩
theorem PW{B n:Nat}{S:Type}{L:S→List (Nat×AV)}{H:S→Hp}{p:S→Prop}{μ:S→Nat}{s:S}{t':Tm}{σ':Hp}(h:lH L H p μ s t' σ'):∀{F:Nat→Prop} {w:World} {a:Act},ca B n F w t' σ' a→
  ∃F' t2 s',a6 F w F' w∧ca B n F' w t2 (H s') a∧μ s'<μ s∧p s'∧agree t2 (L s'):=by
 induction h with
 | mk s' h1 h2 h3 h4=>exact fun hs=>⟨_,_,s',.refl _ _,hs.cz h4,h1,h2,h3⟩
 | bO j b off len es cs e l h1 h2 h3 h4 h ih =>
  intro F w a hs
  obtain⟨F1,k1,k2⟩:=hs.bO h1 h2 h3 h4
  obtain⟨F2,t2,s',q1,q2,q3⟩:=ih k2
  exact⟨F2,t2,s',k1.trans q1,q2,q3⟩
 | hY j b off len es cs e l h1 h2 h3 i k b' cs' hi hk h ih =>
  intro F w a hs
  obtain⟨F1,k1,k2⟩:=hs.hY h1 h2 h3 hi hk
  obtain⟨F2,t2,s',q1,q2,q3⟩:=ih k2
  exact⟨F2,t2,s',k1.trans q1,q2,q3⟩
 | cz h1 h ih=>exact fun hs=>ih (hs.cz h1)
 | nil h4 h ih=>exact fun hs=>ih (hs.nil h4)
theorem PX{B n:Nat}{S:Type}{eo:S→Nat}{L:S→List (Nat×AV)}{H:S→Hp}{p:S→Prop}{μ:S→Nat}{s:S}{l:Nat}{t':Tm}{σ':Hp}(h:nf eo L H p μ s l t' σ'):∀{F:Nat→Prop} {w:World} {a:Act},ca B n F w t' σ' a→
  ∃F' t2 s',a6 F w F' w∧ca B n F' w t2 (H s') a∧l=eo s'∧μ s'<μ s∧p s'∧agree t2 (L s'):=by
 induction h with
 | mk s' h0 h1 h2 h3 h4=>exact fun hs=>⟨_,_,s',.refl _ _,hs.cz h4,h0,h1,h2,h3⟩
 | bO j b off len es cs e l h1 h2 h3 h4 h ih =>
  intro F w a hs
  obtain⟨F1,k1,k2⟩:=hs.bO h1 h2 h3 h4
  obtain⟨F2,t2,s',q1,q2,q3⟩:=ih k2
  exact⟨F2,t2,s',k1.trans q1,q2,q3⟩
 | hY j b off len es cs e l h1 h2 h3 i k b' cs' hi hk h ih =>
  intro F w a hs
  obtain⟨F1,k1,k2⟩:=hs.hY h1 h2 h3 hi hk
  obtain⟨F2,t2,s',q1,q2,q3⟩:=ih k2
  exact⟨F2,t2,s',k1.trans q1,q2,q3⟩
 | cz h1 h ih=>exact fun hs=>ih (hs.cz h1)
 | nil h4 h ih=>exact fun hs=>ih (hs.nil h4)
theorem OJ{r:Option Nat}{B n:Nat}{c:Code}{body:Tm→Hp→(Ex→Tm→Hp→Prop)→Prop}(hb:∀(t:Tm) (σ:Hp) (K:Ex→Tm→Hp→Prop) (F:Nat→Prop) (w:World) (a:Act) (Q:Exit→Act→World→Prop),body t σ K→ca B n F w t σ a→
   (∀e t' σ' F' w' a',a6 F w F' w'→ca B n F' w' t' σ' a'→K e t' σ'→Q e.up a' w')→c.wpIn (FW r) 0 P Q a w) {K:Ex→Tm→Hp→Prop} {t:Tm} {σ:Hp} (h:jX body K t σ):∀{F:Nat→Prop} {w:World} {a:Act} {Q:Exit→Act→World→Prop},ca B n F w t σ a→
  (∀e t' σ' F' w' a',a6 F w F' w'→ca B n F' w' t' σ' a'→K e t' σ'→Q e.up a' w')→(Code.loop c).wpIn (FW r) 0 P Q a w:=by
 induction h with
 | @mk t σ S L H p μ s0 h0 hr =>
  intro F w a Q hs hq
  refine M7 (fun m a' w'=>∃t' σ' F',a6 F w F' w'∧ca B n F' w' t' σ' a'∧Head L H p μ m t' σ') (μ s0) ⟨t,σ,F,.refl _ _,hs,s0,t,rfl,h0.1,uE h0.2.1,h0.2.2⟩ ?_
  rintro m a1 w1 ⟨_,_,F1,s1,r1,ss,g,rfl,hp,rfl,rfl⟩
  refine hb _ _ _ F1 w1 a1 _ (hr ss g hp) r1 ?_
  intro e t' σ' F' w' a' h1 h2 h3
  cases e with
  | normal =>
   obtain⟨F2,t2,s',q1,q2,k1,k2,k3⟩:=PW h3 h2
   exact⟨_,k1,t2,_,F2,s1.trans (h1.trans q1),q2,s',t2,rfl,k2,uE k3,rfl⟩
  | exit id=>exact hq (.exit id) t' σ' F' w' a' (s1.trans h1) h2 h3
  | goto l=>exact hq (.goto l) t' σ' F' w' a' (s1.trans h1) h2 h3
  | ret=>exact hq .ret t' σ' F' w' a' (s1.trans h1) h2 h3
 | bO j b off len es cs e l h1 h2 h3 h4 h ih =>
  intro F w a Q hs hq
  obtain⟨F1,k1,k2⟩:=hs.bO h1 h2 h3 h4
  exact ih k2 (fun e t' σ' F' w' a' q1 q2 q3=>hq e t' σ' F' w' a' (k1.trans q1) q2 q3)
 | cz h1 h ih =>
  intro F w a Q hs hq
  exact ih (hs.cz h1) hq
 | wrap k v h1 h2 h ih =>
  intro F w a Q hs hq
  exact ih (hs.wrap h1 h2) hq
 | nil h4 h ih =>
  intro F w a Q hs hq
  exact ih (hs.nil h4) hq
theorem OR{B n:Nat}{c:Code}{R:Nat→Tm→Hp→(Ex→Tm→Hp→Prop)→Prop}(hR:∀(l:Nat) (t:Tm) (σ:Hp) (K:Ex→Tm→Hp→Prop) (F:Nat→Prop) (w:World) (a:Act) (Q:Exit→Act→World→Prop),R l t σ K→ca B n F w t σ a→
   (∀e t' σ' F' w' a',a6 F w F' w'→ca B n F' w' t' σ' a'→K e t' σ'→Q e.up a' w')→∃r,findLabel c l=some r∧r.wp P Q a w) {l:Nat} {K:Ex→Tm→Hp→Prop} {t:Tm} {σ:Hp} (h:ng R l K t σ):∀{F:Nat→Prop} {w:World} {a:Act} {Q:Exit→Act→World→Prop},ca B n F w t σ a→
  (∀e t' σ' F' w' a',a6 F w F' w'→ca B n F' w' t' σ' a'→K e t' σ'→(∀l,e≠.goto l)→Q e.up a' w')→vx P c Q (.goto l) a w:=by
 induction h with
 | @fwd t σ k h =>
  intro F w a Q hs hq
  refine .goto k (fun k l a' w'=>∃t' σ' F',a6 F w F' w'∧ca B n F' w' t' σ' a'∧LU R k l t' σ' K) ⟨t,σ,F,.refl _ _,hs,h⟩ ?_
  rintro k l a1 w1 ⟨t1,gN,F1,s1,r1,h⟩
  cases k with
  | zero=>exact h.elim
  | succ k =>
   refine hR l t1 gN _ F1 w1 a1 _ h r1 ?_
   intro e t' σ' F' w' a' h1 h2 h3
   cases e with
   | normal=>exact hq .normal t' σ' F' w' a' (s1.trans h1) h2 h3 (by simp)
   | exit id=>exact hq (.exit id) t' σ' F' w' a' (s1.trans h1) h2 h3 (by simp)
   | goto l=>exact⟨k,Nat.lt_succ_self _,t',σ',F',s1.trans h1,h2,h3⟩
   | ret=>exact hq .ret t' σ' F' w' a' (s1.trans h1) h2 h3 (by simp)
 | @loop t σ S eo L H p μ s0 h0 hr =>
  intro F w a Q hs hq
  refine .goto (μ s0) (fun m l a' w'=>∃s g F',a6 F w F' w'∧ca B n F' w' (jZ g (L s)) (H s) a'∧m=μ s∧l=eo s∧p s) ⟨s0,t,F,.refl _ _,?_,rfl,h0.1,h0.2.1⟩ ?_
  ·rw[← uE h0.2.2.1];exact hs.cz h0.2.2.2
  rintro m l a1 w1 ⟨s,g,F1,s1,r1,rfl,rfl,hp⟩
  refine hR (eo s) _ _ _ F1 w1 a1 _ (hr s g hp) r1 ?_
  intro e t' σ' F' w' a' h1 h2 h3
  cases e with
  | normal=>exact hq .normal t' σ' F' w' a' (s1.trans h1) h2 h3 (by simp)
  | exit id=>exact hq (.exit id) t' σ' F' w' a' (s1.trans h1) h2 h3 (by simp)
  | goto l =>
   obtain⟨F2,t2,s',q1,q2,k0,k1,k2,k3⟩:=PX h3 h2
   refine⟨_,k1,s',t2,F2,s1.trans (h1.trans q1),?_,rfl,k0,k2⟩
   rw[← uE k3]
   exact q2
  | ret=>exact hq .ret t' σ' F' w' a' (s1.trans h1) h2 h3 (by simp)
 | bO j b off len es cs e l h1 h2 h3 h4 h ih =>
  intro F w a Q hs hq
  obtain⟨F1,k1,k2⟩:=hs.bO h1 h2 h3 h4
  exact ih k2 (fun e t' σ' F' w' a' q1 q2 q3 q4=>hq e t' σ' F' w' a' (k1.trans q1) q2 q3 q4)
 | cz h1 h ih =>
  intro F w a Q hs hq
  exact ih (hs.cz h1) hq
 | wrap k v h1 h2 h ih =>
  intro F w a Q hs hq
  exact ih (hs.wrap h1 h2) hq
structure NC(F:Nat→Prop)(w:World)(F':Nat→Prop)(w':World):Prop where
 sub:∀b,FC F w b→F' b
 cells:∀b,kH w b→w'.heap[b]?=w.heap[b]?
theorem NC.at_{F F':Nat→Prop}{w w':World}(h:NC F w F' w'){b:Nat}(hc:kH w b):kH w' b:=by
 obtain⟨c,T,fz,e⟩:=hc
 exact⟨c,T,fz,(h.cells b ⟨c,T,fz,e⟩).trans e⟩
theorem NC.fc{F F':Nat→Prop}{w w':World}(h:NC F w F' w'){b:Nat}(hf:FC F w b):FC F' w' b:=⟨h.sub b hf,h.at_ hf.2⟩
theorem iA.nc{F F':Nat→Prop}{w w':World}(hn:NC F w F' w'):∀(s:Sh) (cs:List Value) (d:s.T),iA F w s cs d→iA F' w' s cs d:=by
 intro s
 induction s with
 | int k=>exact fun _ _ h=>h
 | bool=>exact fun _ _ h=>h
 | str=>exact fun _ _ h=>h
 | nil=>exact fun _ _ h=>h
 | slice e ih =>
  rintro cs l ⟨a,c,h1,h2,h3,h0,h4⟩
  refine⟨a,c,h1,h2,h3,h0,fun aS =>?_⟩
  obtain⟨b,o,rfl,hF,hi⟩:=h4 aS
  refine⟨b,o,rfl,hn.fc hF,fun i h =>?_⟩
  obtain⟨cs',q1,q2,q3⟩:=hi i h
  exact⟨cs',q1,q2.fix (hn.cells b hF.2),ih _ _ q3⟩
 | field f r mB gz =>
  rintro cs d ⟨c1,c2,h1,h2,h3,h4⟩
  exact⟨c1,c2,h1,h2,mB _ _ h3,gz _ _ h4⟩
theorem aA.nc{F F':Nat→Prop}{w w':World}(hn:NC F w F' w'){x:AV}{v:Value}(h:aA F w x v):aA F' w' x v:=by
 induction h with
 | int k n=>exact .int k n
 | bool b=>exact .bool b
 | str s=>exact .str s
 | af e l v h=>exact .af e l v (iA.nc hn _ _ _ h)
 | ib a=>exact .ib a
 | eX a c h=>exact .eX a c h
 | aj=>exact .aj
 | ae b off len e a cap h =>
  obtain⟨c,T,fz,h1,h2⟩:=h
  exact .ae b off len e a cap ⟨c,T,fz,(hn.cells b ⟨c,T,fz,h1⟩).trans h1,h2⟩
 | bu=>exact .bu
 | ptr b off h=>exact .ptr b off (hn.at_ h)
 | km b=>exact .km b
 | ky b=>exact .ky b
 | ej cs b o f hF h1 hl h ih=>exact .ej cs b o f (hn.fc hF) (fun i x hx=>(Dv (hn.cells b hF.2) _).trans (h1 i x hx)) hl ih
 | agg cs vs hs hl h ih=>exact .agg cs vs hs hl ih
 | tup cs vs hs h ih=>exact .tup cs vs hs ih
 | iface t a v h ih=>exact .iface t a v ih
 | nilif=>exact .nilif
 | fn f c1 c2 v1 v2 dR eW h1 h2 yr yq=>exact .fn f c1 c2 v1 v2 dR eW yr yq
 | ay=>exact .ay
 | lM=>exact .lM
 | eB n b h=>exact .eB n b h
 | ec n m a b h1 h2=>exact .ec n m a b h1 h2
 | any v=>exact .any v
 | via x v hl h ih=>exact .via x v hl ih
theorem Holds.nc{F F':Nat→Prop}{w w':World}(hn:NC F w F' w'){b:Nat}{cs:List AV}(h:Holds F w b cs)(hb:w'.heap[b]?=w.heap[b]?)(hF:¬F' b):Holds F' w' b cs:=by
 obtain⟨_,⟨c,T,h1,h2,h3⟩ | ⟨x,o,h1,h2,h3⟩ | ⟨L,t,h1,h2,h3⟩⟩:=h
 ·exact⟨hF,.inl ⟨c,T,hb.trans h1,h2,fun i x hx=>⟨(h3 i x hx).1,(h3 i x hx).2.nc hn⟩⟩⟩
 ·exact⟨hF,.inr (.inl ⟨x,o,h1,hb.trans h2,h3⟩)⟩
 ·exact⟨hF,.inr (.inr ⟨L,t,h1,hb.trans h2,fun i=>(h3 i).nc hn⟩)⟩
theorem aV.nc{F F':Nat→Prop}{w w':World}{σ:Hp}(h:aV F w σ)(hn:NC F w F' w')(hk:∀p∈σ,w'.heap[p.1]?=w.heap[p.1]?∧¬F' p.1)(pC:∀b,F' b→b<w'.heap.size):aV F' w' σ:=
 ⟨h.nodup,fun p hp=>(h.holds p hp).nc hn (hk p hp).1 (hk p hp).2,pC⟩
theorem aV.out{F:Nat→Prop}{w:World}{σ:Hp}(h:aV F w σ){b:Nat}(hb:F b):∀p∈σ,p.1≠b:=fun p hp e=>(h.holds p hp).1 (e▸hb)
theorem D5{F F':Nat→Prop}{w:World}{l:Nat}{L L':Loop}(hl:w.heap[l]?=some (.loop L))(hs:∀b,b≠l→F b→F' b):NC F w F' (w.putObj l (.loop L')) where
 sub:=fun b ⟨hF,c,T,fz,hc⟩=>hs b (fun e=>by subst e;rw[hl]at hc;cases hc) hF
 cells:=fun b ⟨c,T,fz,hc⟩=>World.putObj_heap_other (fun e=>by subst e;rw[hl]at hc;cases hc)
theorem Dk{w:World}{l:Nat}{L L':Loop}(hl:w.heap[l]?=some (.loop L))(b:Nat)(c:Array Value)(T:TypeId)(fz:Nat×Nat)(h:w.heap[b]?=some (.cells c T fz)):(w.putObj l (.loop L')).heap[b]?=some (.cells c T fz):=
 (World.putObj_heap_other (fun e=>by subst e;rw[hl]at h;cases h)).trans h
def vk:Ex→Code
 | .normal=>.skip
 | .exit i=>.exit i
 | .goto l=>.goto l
 | .ret=>.ret
def gL(fn:FuncId)(tm:Array Value)(ps:Array Tmp)(eD body:Code)(D:Nat)(st:LoopState)(pe:Option Code):Loop:= { state:=st,pending:=pe,fn,tmps:=tm,params:=ps,assign:=eD,body,defers:=D }
theorem KX{n:Nat}{F:Nat→Prop}{w:World}:∀(ps:List Tmp) (xs:List AV) (us:List Value) (t:Tm) (tm:Array Value),xs.length=us.length→ps.all (fun p=>Nat.blt p n)=true→n≤tm.size→(∀i,aA F w (t i) (tm.getD i undef))→(∀(i:Nat) (x:AV),xs[i]?=some x→aA F w x (us.getD i undef))→
  n≤((ps.zip us).foldl (fun t p=>t.setIfInBounds p.1 p.2) tm).size∧∀i,aA F w (vI ps xs t i) (((ps.zip us).foldl (fun t p=>t.setIfInBounds p.1 p.2) tm).getD i undef)
 | [],xs,us,t,tm,_,_,hs,ht,_=>by cases xs <;> exact⟨hs,ht⟩
 | p::ps,[],us,t,tm,hl,_,hs,ht,_=>by cases us with
  | nil=>exact⟨hs,ht⟩
  | cons u us=>cases hl
 | p::ps,x::xs,[],t,tm,hl,_,_,_,_=>by cases hl
 | p::ps,x::xs,u::us,t,tm,hl,hp,hs,ht,hx=>by
  simp only[List.all_cons,Bool.and_eq_true]at hp
  have nu:p<n:=Nat.le_of_ble_eq_true hp.1
  refine KX ps xs us (put t (some p) x) (tm.setIfInBounds p u) (by simpa using hl) hp.2 (by simpa using hs) (fun i =>?_) (fun i y hy=>by simpa using hx (i+1) y (by simpa using hy))
  show aA F w (match Nat.beq i p with | true=>x | false=>t i) _
  cases hb:Nat.beq i p with
  | true =>
   obtain rfl:=Nat.eq_of_beq_eq_true hb
   have hi:i<tm.size:=Nat.lt_of_lt_of_le nu hs
   simpa [Array.getD,hi]using hx 0 x rfl
  | false =>
   have aS:p≠i:=fun e=>by subst e;rw[Nat.beq_refl]at hb;cases hb
   have:=ht i
   rw[Array.getD_eq_getD_getElem?]at this ⊢
   rw[Array.getElem?_setIfInBounds_ne aS]
   exact this
def AX(P:Program)(B n l:Nat)(c:Code)(R:Tm→Hp→(Ex→Tm→Hp→Prop)→Prop):Prop:=
 ∀(t:Tm) (σ:Hp) (K:Ex→Tm→Hp→Prop) (F:Nat→Prop) (w:World) (a:Act) (Q:Exit→Act→World→Prop),R t σ K→ca B n F w t σ a→
  (∀e t' σ' F' w' a',a6 F w F' w'→ca B n F' w' t' σ' a'→K e t' σ'→Q e.up a' w')→c.wpIn (FW (some l)) 0 P Q a w
theorem NH{B n l D:Nat}{fn:FuncId}{tm:Array Value}{ps:Array Tmp}{eD body:Code}{t:Tm}{rA rB:Tm→Hp→(Ex→Tm→Hp→Prop)→Prop}(hB:B≤l)(hn:n≤tm.size)(sq:ps.toList.all (fun p=>Nat.blt p n)=true)
  (hA:AX P B n l eD rA) (hb:AX P B n l body rB) {xs:List AV} {gN:Hp} {R1:Ex→Hp→Prop} (FL:xs.length=ps.size)
  (h:rA (vI ps.toList xs t) gN fun e t' σ'=>match e with | .normal=>rB t' σ' (fun e _ gX=>R1 e gX) | _=>False) :
  AW P l xs ((l,[.jU (gL fn tm ps eD body D .ready none) t])::gN) (ER l (.jU (gL fn tm ps eD body D .ready none) t) (fun e=>.jU (gL fn tm ps eD body D .done (some (vk e))) t) R1):=by
 intro F w vs bD aD
 obtain⟨Cb,hl,k9⟩:=(aD.holds _ (List.mem_cons_self ..)).LH
 have bC:=aD.nodup
 simp only[List.map_cons,List.nodup_cons]at bC
 have hll:l<w.heap.size:=pt hl
 have cS:vs.size=ps.size:=bD.1.symm.trans FL
 refine⟨fn,_,eD,body,run_yield hl cS,roundIn_of_wpIn trivial ?_⟩
 have Ft:a6 F w (fun b=>F b∨b=l) w:=⟨rfl,rfl,rfl,Nat.le_refl _,fun _ h=>.inl h,fun _ _=>rfl,fun _ c _ fz h=>⟨c,fz,h,rfl⟩,Nat.le_refl _⟩
 have aS:∀p∈gN,p.1≠l:=fun p hp e=>bC.1 (List.mem_map.2 ⟨p,hp,e⟩)
 have EY:aV (fun b=>F b∨b=l) w gN:=⟨bC.2,fun p hp=>(aD.holds p (List.mem_cons_of_mem _ hp)).mono Ft rfl (fun h=>h.elim (aD.holds p (List.mem_cons_of_mem _ hp)).1 (aS p hp)),fun b h=>h.elim (aD.low b) (fun e=>e▸hll)⟩
 have hz:(ps.zip vs).foldl (fun tmps (t,a)=>tmps.setIfInBounds t a) tm=(ps.toList.zip vs.toList).foldl (fun t p=>t.setIfInBounds p.1 p.2) tm:=by
  rw[← Array.foldl_toList,Array.toList_zip]
 obtain⟨k1,k2⟩:=KX (n:=n) (F:=fun b=>F b∨b=l) (w:=w) ps.toList xs vs.toList t tm (by rw[Array.length_toList];exact bD.1) sq hn (fun i=>(k9 i).mono Ft) (fun i x hx=>by
  have:=(bD.2 i x hx).mono Ft
  rw[Array.getD_eq_getD_getElem?]at this
  rw[List.getD_eq_getElem?_getD,Array.getElem?_toList]
  exact this)
 refine hA _ _ _ _ w { tmps:=(ps.zip vs).foldl (fun tmps (t,a)=>tmps.setIfInBounds t a) tm,defers:=[] } _ h ⟨fun i=>by rw[hz];exact k2 i,EY,by rw[hz];exact k1,⟨by omega,.nil,fun d hd=>by cases hd⟩⟩ ?_
 intro e t1 σ2 F1 w1 a1 st1 s1 h1
 cases e with
 | exit i=>exact h1.elim
 | goto i=>exact h1.elim
 | ret=>exact h1.elim
 | normal =>
  have sw:w1.heap[l]?=some (.loop (gL fn tm ps eD body D .ready none)):=(st1.fix l (.inr rfl)).trans hl
  have Gu:F1 l:=st1.sub l (.inr rfl)
  have Xq:l<w1.heap.size:=pt sw
  refine⟨_,run_beginRound sw rfl,?_⟩
  have jM:({ gL fn tm ps eD body D .ready none with state:=LoopState.busy }:Loop)=gL fn tm ps eD body D .busy none:=rfl
  rw[jM]
  have nc1:NC F1 w1 F1 (w1.putObj l (.loop (gL fn tm ps eD body D .busy none))):=D5 sw fun _ _ h=>h
  have E9:(w1.putObj l (.loop (gL fn tm ps eD body D .busy none))).heap[l]?=some (.loop (gL fn tm ps eD body D .busy none)):=World.putObj_heap_same Xq
  refine hb t1 σ2 _ F1 _ a1 _ h1 ⟨fun i=>(s1.tm i).nc nc1,s1.hp.nc nc1 (fun p hp=>⟨World.putObj_heap_other (s1.hp.out Gu p hp),(s1.hp.holds p hp).1⟩) (fun b hb=>by rw[World.putObj_size];exact s1.hp.low b hb),s1.size,⟨by rw[World.putObj_size];exact s1.defers.low,s1.defers.nodup,fun d hd=>by
   obtain⟨D',q1,q2,q3,q4⟩:=s1.defers.is d hd
   refine⟨D',q1,q2,q3,(World.putObj_heap_other (fun e =>?_)).trans q4⟩
   subst e;rw[sw]at q4;cases q4⟩⟩ ?_
  intro e t3 cR F3 w3 a3 lS s3 h3
  have hF3:F3 l:=lS.sub l Gu
  have nz:w3.heap[l]?=some (.loop (gL fn tm ps eD body D .busy none)):=(lS.fix l Gu).trans E9
  have Xp:l<w3.heap.size:=pt nz
  have fin:∀L':Loop,a6 F w (fun b=>F3 b∧b≠l) (w3.putObj l (.loop L'))∧((∀i,L'.tmps.getD i undef=tm.getD i undef)→aV (fun b=>F3 b∧b≠l) (w3.putObj l (.loop L')) ((l,[.jU L' t])::cR)):=by
   intro L'
   have nc3:NC F3 w3 (fun b=>F3 b∧b≠l) (w3.putObj l (.loop L')):=D5 nz fun b hb h=>⟨h,hb⟩
   have stw:a6 F w (fun b=>F3 b∧b≠l) (w3.putObj l (.loop L')):= {
    os:=lS.os.trans st1.os
    tape:=lS.tape.trans st1.tape
    output:=lS.output.trans st1.output
    size:=by
     have q1:=st1.size
     have q3:=lS.size
     rw[World.putObj_size]at q3 ⊢
     omega
    sub:=fun b hF=>⟨lS.sub b (st1.sub b (.inl hF)),fun e=>Cb (e▸hF)⟩
    fix:=fun b hF=>by
     have nE:b≠l:=fun e=>Cb (e▸hF)
     rw[World.putObj_heap_other nE,lS.fix b (st1.sub b (.inl hF)),World.putObj_heap_other nE,st1.fix b (.inl hF)]
    rows:=fun b c T fz hc=>by
     obtain⟨c1,fz1,q1,q2⟩:=st1.rows b c T fz hc
     obtain⟨c3,Ce,q3,q4⟩:=lS.rows b c1 T fz1 (Dk sw b c1 T fz1 q1)
     exact⟨c3,Ce,Dk nz b c3 T Ce q3,q4.trans q2⟩
    drawn:=Nat.le_trans st1.drawn lS.drawn }
   refine⟨stw,fun W9=>⟨?_,fun p hp =>?_,fun b hb =>?_⟩⟩
   ·simp only[List.map_cons,List.nodup_cons]
    exact⟨fun hm=>by obtain⟨p,hp,e⟩:=List.mem_map.1 hm;exact s3.hp.out hF3 p hp e,s3.hp.nodup⟩
   ·rcases List.mem_cons.1 hp with rfl | hp
    ·exact⟨fun h=>h.2 rfl,.inr (.inr ⟨L',t,rfl,World.putObj_heap_same Xp,fun i=>by rw[W9];exact (k9 i).mono stw⟩)⟩
    ·exact (s3.hp.holds p hp).nc nc3 (World.putObj_heap_other (s3.hp.out hF3 p hp)) (fun h=>(s3.hp.holds p hp).1 h.1)
   ·rw[World.putObj_size];exact s3.hp.low b hb.1
  have Ez:∀e:Ex,e≠.normal→R1 e cR→∃v w',(Instr.endRound l (some (vk e))).run P w3=.ok v w'∧∃r v' σ' F',Ending.returned v=.returned v'∧a6 F w F' w'∧aV F' w' σ'∧aA F' w' r v'∧ER l (.jU (gL fn tm ps eD body D .ready none) t) (fun e=>.jU (gL fn tm ps eD body D .done (some (vk e))) t) R1 r σ':=fun e he hr=>by
   obtain⟨q1,q2⟩:=fin (gL fn tm ps eD body D .done (some (vk e)))
   exact⟨_,_,run_endRound _ nz,.bool false,_,_,_,rfl,q1,q2 (fun _=>rfl),.bool _,.inr ⟨rfl,e,cR,he,rfl,hr⟩⟩
  cases e with
  | normal =>
   obtain⟨q1,q2⟩:=fin (gL fn tm ps eD body D .ready none)
   exact⟨_,_,run_endRound none nz,.bool true,_,_,_,rfl,q1,q2 (fun _=>rfl),.bool _,.inl ⟨rfl,cR,rfl,h3⟩⟩
  | exit i=>exact Ez (.exit i) (by simp) h3
  | goto i=>exact Ez (.goto i) (by simp) h3
  | ret=>exact Ez .ret (by simp) h3
theorem NL{B n:Nat}{g:Operand}{ps:Array Tmp}{eD body:Code}{t:Tm}{gf:FuncId}{cap:List AV}{rA rB:Tm→Hp→(Ex→Tm→Hp→Prop)→Prop}(hg:ev t g=.fn (.func gf) [] cap)(sq:ps.toList.all (fun p=>Nat.blt p n)=true)
  (hA:∀l,AX P B n l eD rA) (hb:∀l,AX P B n l body rB) {K:Ex→Hp→Prop} {σ:Hp}
  (h:vd P gf cap ps.size (fun xs gN R1=>rA (vI ps.toList xs t) gN fun e t' σ'=>match e with | .normal=>rB t' σ' (fun e _ gX=>R1 e gX) | _=>False) K σ):∀{F:Nat→Prop} {w:World} {a:Act} {Q:Exit→Act→World→Prop},ca B n F w t σ a→
  (∀e σ' F' w' a',a6 F w F' w'→ca B n F' w' t σ' a'→K e σ'→Q e.up a' w')→(Code.rangeFunc g ps eD body).wpIn (FW none) 0 P Q a w:=by
 induction h with
 | cz h1 h ih=>exact fun hs hq=>ih (hs.cz h1) hq
 | @mk σ go =>
  intro F w a Q hs hq
  have yK:=hs.tm.eval g
  rw[hg]at yK
  cases hv:a.eval g with
  | func f' v1 lb =>
   rw[hv]at yK
   obtain⟨rfl,rfl,XB⟩:f'=.func gf∧v1 = #[]∧fO F w cap lb:=by cases yK with | fn _ _ _ _ _ dR eW h1 h2=>exact⟨rfl,Array.size_eq_zero_iff.1 dR.symm,eW,h2⟩
   refine wpIn_rangeFunc ?_
   intro fn _
   have e1:=run_enterLoop_outer (P:=P) (w:=w) fn a.tmps ps eD body
   obtain⟨l,hle⟩:∃l,l=w.heap.size+1:=⟨_,rfl⟩
   obtain⟨D,hD⟩:∃D,D=w.heap.size:=⟨_,rfl⟩
   obtain⟨W1,rj⟩:∃W1,W1=(w.alloc (.deferred (some []))).alloc (.loop (gL fn a.tmps ps eD body D .ready none)):=⟨_,rfl⟩
   have hlW:W1.heap[l]?=some (.loop (gL fn a.tmps ps eD body D .ready none)):=by
    rw[rj,hle];have:=World.alloc_heap_new (w.alloc (.deferred (some []))) (.loop (gL fn a.tmps ps eD body D .ready none));rwa [World.size_alloc]at this
   have hDW:W1.heap[D]?=some (.deferred (some [])):=by
    rw[rj,hD];exact (Below.heap_alloc _ _ _ (by simp)).trans (World.alloc_heap_new w _)
   have hold:∀b,b<w.heap.size→W1.heap[b]?=w.heap[b]?:=fun b hb=>by
    rw[rj];exact (Below.heap_alloc _ _ b (by simp;omega)).trans (Below.heap_alloc _ _ b hb)
   have cS:W1.heap.size=w.heap.size+2:=by rw[rj];simp
   have st1:a6 F w (fun b=>F b∨b=D) W1:=⟨by rw[rj];rfl,by rw[rj];rfl,by rw[rj];rfl,by omega,fun _ h=>.inl h,fun b hb=>hold b (hs.hp.low b hb),fun b c _ fz hc=>⟨c,fz,(hold b (pt hc)).trans hc,rfl⟩,by rw[rj];exact Nat.le_refl _⟩
   obtain⟨kT,eQ⟩:=go l (.jU (gL fn a.tmps ps eD body D .ready none) t) (fun e=>.jU (gL fn a.tmps ps eD body D .done (some (vk e))) t) (fun xs gN R1 FL uh=>NH (by have:=hs.defers.low;omega) hs.size sq (hA l) (hb l) FL uh)
   have EY:aV (fun b=>F b∨b=D) W1 ((l,[.jU (gL fn a.tmps ps eD body D .ready none) t])::σ):=by
    refine⟨?_,fun p hp =>?_,fun b hb =>?_⟩
    ·simp only[List.map_cons,List.nodup_cons]
     refine⟨fun hm =>?_,hs.hp.nodup⟩
     obtain⟨p,hp,e⟩:=List.mem_map.1 hm
     have:=(hs.hp.holds p hp).lt
     omega
    ·rcases List.mem_cons.1 hp with rfl | hp
     ·exact⟨fun h=>h.elim (fun h=>by have:l<w.heap.size:=hs.hp.low l h;omega) (fun h=>by have:l=D:=h;omega),.inr (.inr ⟨_,t,rfl,hlW,fun i=>(hs.tm i).mono st1⟩)⟩
     ·have ab:=(hs.hp.holds p hp).lt
      exact (hs.hp.holds p hp).mono st1 (hold _ ab) (fun h=>h.elim (hs.hp.holds p hp).1 (fun e=>by omega))
    ·rcases hb with hb | hb
     ·have:=hs.hp.low b hb;omega
     ·omega
   have bD:fO (fun b=>F b∨b=D) W1 (.fn (.yield l) [] []::cap) (#[.func (.yield l) #[] #[]]++lb):=
    show fO _ _ ([.fn (.yield l) [] []]++cap) _ from zx (HX (.fn _ _ _ _ _ rfl rfl (fun i x h=>by simp at h) (fun i x h=>by simp at h))) (XB.mono st1)
   have qY:∀d∈a.defers,d≠{ target:=.collected D,args:= #[] }:=fun d hd e=>by
    obtain⟨D',q1,_,_,q4⟩:=hs.defers.is d hd
    rw[q1]at e
    cases e
    have:=pt q4
    omega
   refine⟨l,[{ target:=.collected D,args:= #[] }],W1,{ target:=.fn (.func gf) lb,args:= #[.func (.yield l) #[] #[]] },W1,gf,#[.func (.yield l) #[] #[]]++lb,W1,?_,?_,fun _ _=>trivial,?_,fun hd=>(by cases hd),?_⟩
   ·rw[rj,hle,hD];exact e1
   ·simp only[resolve,hv]
    simp[go_sem]
   ·have:=kT (#[.func (.yield l) #[] #[]]++lb) W1
    simpa [invoke]using this
   ·refine callsIn_wide.2 ((eQ _ W1 _ bD EY).mono ?_)
    rintro e w3 ⟨rv,v,σ',F',rfl,lS,xV,_,hR⟩
    have EU:=st1.trans lS
    have fin:∀(L':Loop) (σ2:Hp),σ'=(l,[.jU L' t])::σ2→L'.state≠.busy→∃w4,(Instr.endLoop l).run P w3=.ok L'.pending w4∧a6 F w F' w4∧ca B n F' w4 t σ2 { a with defers:=[{ target:=.collected D,args:= #[] }]++a.defers }:=by
     intro L' σ2 e ar
     subst e
     obtain⟨Cb,nz,_⟩:=(xV.holds _ (List.mem_cons_self ..)).LH
     have bC:=xV.nodup
     simp only[List.map_cons,List.nodup_cons]at bC
     have aS:∀p∈σ2,p.1≠l:=fun p hp e=>bC.1 (List.mem_map.2 ⟨p,hp,e⟩)
     have nc:NC F' w3 F' (w3.putObj l (.loop { L' with state:=.exhausted })):=D5 nz fun _ _ h=>h
     have hDF:F' D:=lS.sub D (.inr rfl)
     have Fs:a6 F' w3 F' (w3.putObj l (.loop { L' with state:=.exhausted })):=⟨rfl,rfl,rfl,by rw[World.putObj_size];exact Nat.le_refl _,fun _ h=>h,fun b hb=>World.putObj_heap_other (fun e=>Cb (e▸hb)),fun b c T fz hc=>⟨c,fz,Dk nz b c T fz hc,rfl⟩,Nat.le_refl _⟩
     refine⟨_,run_endLoop nz ar,EU.trans Fs,fun i=>((hs.tm i).mono EU).nc nc,?_,hs.size,?_⟩
     ·exact⟨bC.2,fun p hp=>(xV.holds p (List.mem_cons_of_mem _ hp)).nc nc (World.putObj_heap_other (aS p hp)) (xV.holds p (List.mem_cons_of_mem _ hp)).1,fun b hb=>by rw[World.putObj_size];exact xV.low b hb⟩
     ·have hm:=hs.defers.mono (EU.trans Fs)
      refine⟨hm.low,?_,fun d hd =>?_⟩
      ·simp only[List.cons_append,List.nil_append,List.nodup_cons]
       exact⟨fun h=>qY _ h rfl,hm.nodup⟩
      ·rcases List.mem_cons.1 hd with rfl | hd
       ·exact⟨D,rfl,by have:=hs.defers.low;omega,hDF,(Fs.fix D hDF).trans ((lS.fix D (.inr rfl)).trans hDW)⟩
       ·exact hm.is d hd
    rcases hR with ⟨σ2,e,hk⟩ | ⟨ex,σ2,aS,e,hk⟩
    ·obtain⟨w4,k1,k2,k3⟩:=fin _ σ2 e (by simp[gL])
     exact⟨none,w4,k1,hq .normal σ2 F' w4 _ k2 k3 hk⟩
    ·obtain⟨w4,k1,k2,k3⟩:=fin _ σ2 e (by simp[gL])
     refine⟨some (vk ex),w4,k1,?_⟩
     have FR:=hq ex σ2 F' w4 _ k2 k3 hk
     cases ex with
     | normal=>exact absurd rfl aS
     | exit i=>exact wpIn_exit FR
     | goto i=>exact wpIn_goto FR
     | ret=>exact wpIn_ret FR
  | _=>rw[hv]at yK;cases yK
theorem N5(ok:ck P TT)(hm:P.follows .mixedOrders=true){B n:Nat}:∀(fuel:Nat) (c:Code) (t:Tm) (σ:Hp) (K:Ex→Tm→Hp→Prop) (F:Nat→Prop) (w:World) (a:Act) (Q:Exit→Act→World→Prop) (r:Option Nat),codeOk n r.isSome c=true→jW P TT fuel c t σ K→ca B n F w t σ a→
  (∀e t' σ' F' w' a',a6 F w F' w'→ca B n F' w' t' σ' a'→K e t' σ'→Q e.up a' w')→c.wpIn (FW r) 0 P Q a w:=by
 intro fuel
 induction fuel with
 | zero=>intro c t σ K F w a Q r _ h;exact h.elim
 | succ fuel ih =>
  intro c t σ K F w a Q r hc h hs hq
  cases c with
  | skip=>exact wpIn_skip (hq .normal t σ F w a (.refl _ _) hs h)
  | label l=>exact wpIn_label (hq .normal t σ F w a (.refl _ _) hs h)
  | exit id=>exact wpIn_exit (hq (.exit id) t σ F w a (.refl _ _) hs h)
  | goto l=>exact wpIn_goto (hq (.goto l) t σ F w a (.refl _ _) hs h)
  | ret=>exact wpIn_ret (hq .ret t σ F w a (.refl _ _) hs h)
  | region id ops draw =>
   have hd:=Vh (n:=n) (ops:=ops.toList) hc
   have bC:=V4 (n:=n) (ops:=ops.toList) hc
   cases draw with
   | false=>exact NI bC (CD ok ops.toList t σ _ F w a hd h hs (fun t' σ' F' w' a' h1 h2 h3=>hq .normal t' σ' F' w' a' h1 h2 h3))
   | true =>
    have h:eK P TT ops.toList (K .normal) t σ:=h
    exact OY ok hm hd bC h hs (fun t' σ' F' w' a' h1 h2 h3=>hq .normal t' σ' F' w' a' h1 h2 h3)
  | seq x y =>
   simp only[codeOk,Bool.and_eq_true]at hc
   refine wpIn_seq (ih x t σ _ F w a _ r hc.1 h hs ?_)
   intro e t' σ' F' w' a' h1 h2 h3
   cases e with
   | normal=>exact ih y t' σ' K F' w' a' Q r hc.2 h3 h2 (fun e tP gX kB jH GF k1 k2 k3=>hq e tP gX kB jH GF (h1.trans k1) k2 k3)
   | exit id=>exact hq (.exit id) t' σ' F' w' a' h1 h2 h3
   | goto l=>exact hq (.goto l) t' σ' F' w' a' h1 h2 h3
   | ret=>exact hq .ret t' σ' F' w' a' h1 h2 h3
  | cond x y z =>
   simp only[codeOk,Bool.and_eq_true]at hc
   have h:(match ev t x with | .bool b=>(match b with | true=>jW P TT fuel y t σ K | false=>jW P TT fuel z t σ K) | _=>False):=h
   have hx:=hs.tm.eval x
   split at h
   ·rename_i b hb
    rw[hb]at hx
    refine wpIn_cond (t:=b) hx.na ?_
    cases b with
    | true=>exact ih y t σ K F w a Q r hc.1 h hs hq
    | false=>exact ih z t σ K F w a Q r hc.2 h hs hq
   ·exact h.elim
  | block id c =>
   refine wpIn_block (ih c t σ _ F w a _ r hc h hs ?_)
   intro e t' σ' F' w' a' h1 h2 h3
   cases e with
   | normal=>exact hq .normal t' σ' F' w' a' h1 h2 h3
   | exit i =>
    show (if i=id then Q .normal a' w' else Q (.exit i) a' w')
    have h3:(match Nat.beq i id with | true=>K .normal t' σ' | false=>K (.exit i) t' σ'):=h3
    cases hb:Nat.beq i id with
    | true=>rw[hb]at h3;rw[if_pos (Nat.eq_of_beq_eq_true hb)];exact hq .normal t' σ' F' w' a' h1 h2 h3
    | false =>
     rw[hb]at h3
     rw[if_neg (fun e=>by subst e;rw[Nat.beq_refl]at hb;cases hb)]
     exact hq (.exit i) t' σ' F' w' a' h1 h2 h3
   | goto l=>exact hq (.goto l) t' σ' F' w' a' h1 h2 h3
   | ret=>exact hq .ret t' σ' F' w' a' h1 h2 h3
  | loop c =>
   have h:jX (fun t σ Q=>jW P TT fuel c t σ Q) K t σ:=h
   exact OJ (fun t σ K F w a Q h hs hq=>ih c t σ K F w a Q r hc h hs hq) h hs hq
  | scope c =>
   simp only[codeOk,Bool.and_eq_true,Bool.not_eq_true']at hc
   obtain⟨hr,hc⟩:=hc
   obtain rfl:r=none:=by cases r with | none=>rfl | some l=>cases hr
   refine wpIn_wide.2 (Nk (wpIn_wide.1 (ih c t σ _ F w a _ none hc h hs ?_)))
   intro e t' σ' F' w' a' h1 h2 h3
   cases e with
   | normal=>exact .normal (hq .normal t' σ' F' w' a' h1 h2 h3)
   | exit i=>exact .exit (hq (.exit i) t' σ' F' w' a' h1 h2 h3)
   | ret=>exact .ret (hq .ret t' σ' F' w' a' h1 h2 h3)
   | goto l =>
    have h3:ng (fun l t σ Q=>match findLabel c l with | some r=>jW P TT fuel r t σ Q | none=>False) l K t' σ':=h3
    exact OR (fun l t σ K F w a Q h hs hq=>by
     have h:(match findLabel c l with | some r=>jW P TT fuel r t σ K | none=>False):=h
     split at h
     ·rename_i r hr
      exact⟨r,hr,wpIn_wide.1 (ih r t σ K F w a Q none (Ru c l r hr hc) h hs hq)⟩
     ·exact h.elim) h3 h2 (fun e tP gX kB jH GF k1 k2 k3 k4=>hq e tP gX kB jH GF (h1.trans k1) k2 k3)
  | rangeFunc g ps eD body =>
   simp only[codeOk,Bool.and_eq_true,Bool.not_eq_true']at hc
   obtain⟨⟨⟨hr,sq⟩,vY⟩,re⟩:=hc
   obtain rfl:r=none:=by cases r with | none=>rfl | some l=>cases hr
   have h:(match ev t g with | .fn (.func gf) [] cap=>vd P gf cap ps.size (fun xs gN R1=>jW P TT fuel eD (vI ps.toList xs t) gN fun e t' σ'=>match e with | .normal=>jW P TT fuel body t' σ' (fun e _ gX=>R1 e gX) | _=>False) (fun e σ'=>K e t σ') σ | _=>False):=h
   split at h
   ·rename_i gf cap hg
    exact NL hg sq (fun l t σ K F w a Q h hs hq=>ih eD t σ K F w a Q (some l) vY h hs hq) (fun l t σ K F w a Q h hs hq=>ih body t σ K F w a Q (some l) re h hs hq) h hs (fun e σ' F' w' a' k1 k2 k3=>hq e t σ' F' w' a' k1 k2 k3)
   ·exact h.elim
  | refuse=>exact h.elim
inductive Fin(R:AV→Hp→Prop):AV→Hp→Prop where
 | done {r:AV} {σ:Hp} (h:R r σ):Fin R r σ
 | pull {r:AV} {σ:Hp} (js:List Nat) (h:Fin R r (kK js σ)):Fin R r σ
 | drop {r:AV} {σ:Hp} (k n:Nat) (h:Fin R r (σ.take k++σ.drop (k+n))):Fin R r σ
 | perm {r:AV} {σ σ2:Hp} (hp:σ2.Perm σ) (h:Fin R r σ2):Fin R r σ
 | bO {r r':AV} {σ:Hp} (j b off len es:Nat) (cs:List AV) (e:Sh) (l:List e.T) (h1:σ[j]?=some (b,cs)) (h2:(cs.drop off).take (len*es)=l.flatMap e.cells) (h3:l.length=len∧e.size=es∧0<es) (h4:dp b off len es e l r r') (h:Fin R r' (σ.eraseIdx j)):Fin R r σ
 | nil {r r':AV} {σ:Hp} (h4:dp 0 0 0 0 .bool [] r r') (h:Fin R r' σ):Fin R r σ
 | cz {r:AV} {σ σ2:Hp} (h1:fT σ σ2) (h:Fin R r σ2):Fin R r σ
 | hY {r:AV} {σ:Hp} (j b off len es:Nat) (cs:List AV) (e:Sh) (l:List e.T) (h1:σ[j]?=some (b,cs)) (h2:(cs.drop off).take (len*es)=l.flatMap e.cells) (h3:l.length=len∧e.size=es∧0<es) (i k b':Nat) (cs':List AV) (hi:(σ.eraseIdx j)[i]?=some (b',cs')) (hk:cs'[k]?=some (.ae b off len es)) (h:Fin R r ((σ.eraseIdx j).set i (b',cs'.set k (.af e l)))):Fin R r σ
theorem ID{R:AV→Hp→Prop}{r:AV}{σ:Hp}(h:Fin R r σ):∀(F:Nat→Prop) (w:World) (v:Value),aV F w σ→aA F w r v→∃r' σ' F',a6 F w F' w∧aV F' w σ'∧aA F' w r' v∧R r' σ':=by
 induction h with
 | done h=>exact fun F w v aD hv=>⟨_,_,F,.refl _ _,aD,hv,h⟩
 | pull js h ih=>exact fun F w v aD hv=>ih F w v (aD.perm (sT js _)) hv
 | perm hp h ih=>exact fun F w v aD hv=>ih F w v (aD.perm hp) hv
 | @drop r σ k n h ih =>
  intro F w v aD hv
  refine ih F w v (aD.sub ?_) hv
  have h1:(σ.drop (k+n)).Sublist (σ.drop k):=by
   rw[← List.drop_drop]
   exact List.drop_sublist _ _
  have h2:=(List.Sublist.refl (σ.take k)).append h1
  rwa [List.take_append_drop]at h2
 | @bO r r' σ j b off len es cs e l h1 h2 h3 h4 h ih =>
  intro F w v aD hv
  obtain⟨ar,kR,hh⟩:=ql aD h1 h2 h3
  obtain⟨Fw,gX,kB,k1,k2,k3,k4⟩:=ih _ w v kR (sP ar hh h4 v hv)
  exact⟨Fw,gX,kB,ar.trans k1,k2,k3,k4⟩
 | cz h1 h ih=>exact fun F w v aD hv=>ih F w v (aD.cz h1) hv
 | hY j b off len es cs e l h1 h2 h3 i k b' cs' hi hk h ih =>
  intro F w v aD hv
  obtain⟨ar,kR,hh⟩:=ql aD h1 h2 h3
  obtain⟨Fw,gX,kB,k1,k2,k3,k4⟩:=ih _ w v (wW kR hh hi hk) (hv.mono ar)
  exact⟨Fw,gX,kB,ar.trans k1,k2,k3,k4⟩
 | nil h4 h ih =>
  intro F w v aD hv
  refine ih F w v aD (sP (.refl _ _) (fun v hv =>?_) h4 v hv)
  obtain⟨a,cap,rfl,c,T,fz,m1,m2,m3,m4⟩:=hv.iS
  exact .af _ _ _ ⟨some a,cap,rfl,m2,m3,(fun e=>by cases e),fun aS=>absurd rfl aS⟩
def t0(xs:List AV):Tm:=fun i=>match xs[i]? with | some x=>x | none=>.any
def Bn:List AV→AV
 | [v]=>v
 | vs=>.tup vs
def xL(TT:TypeId→Option TI)(l:List ResultVar):Tm→Hp→(List AV→Prop)→Prop:=
 List.rec (motive:=fun _=>Tm→Hp→(List AV→Prop)→Prop) (fun _ _ K=>K [])
  (fun x _ ih t σ K=>match x with
   | .tmp d=>strict (t d) fun v=>ih t σ fun vs=>K (a8 v::vs)
   | .cell d ty=>match TT ty with | some i=>mc i (t d) σ fun v=>ih t σ fun vs=>K (v::vs) | none=>False) l
def qt(TT:TypeId→Option TI)(rs:List ResultVar)(R:AV→Hp→Prop)(e:Ex)(t:Tm)(σ:Hp):Prop:=
 match e with
 | .normal | .ret=>xL TT rs t σ fun vs=>Fin R (Bn vs) σ
 | _=>False
def qw(P:Program)(TT:TypeId→Option TI)(fn:Func)(xs:List AV)(σ:Hp)(R:AV→Hp→Prop):Prop:=
 match fn.body with
 | some c=>jW P TT 1000 c (t0 xs) σ (qt TT fn.results.toList R)
 | none=>False
def funcOk (fn : Func) : Bool := (match fn.body with | some c => codeOk fn.ntmps false c | none => false) && !(fn.name == "runtime.NumGoroutine")
theorem enters_of{f:FuncId}{fn:Func}(hf:P.funcs[f]?=some fn)(h:funcOk fn=true):Enters P f:=by
 unfold funcOk at h
 simp only[Bool.and_eq_true,Bool.not_eq_true']at h
 obtain⟨h1,h2⟩:=h
 have hb:fn.body.isNone=false:=by
  cases hb:fn.body with
  | none=>rw[hb]at h1;cases h1
  | some c=>rfl
 intro args w
 unfold callFunc
 simp only[Sem.run_bind,run_program,Result.andThen_ok,hf,h2,hb]
 rfl
theorem NR(ok:ck P TT){ty:TypeId}{i:TI}(hi:TT ty=some i){x:AV}{σ:Hp}{K:AV→Prop}(h:mc i x σ K):∃v,K v∧∀(F:Nat→Prop) (w:World) (u:Value),aA F w x u→aV F w σ→∃v',(do loadVar ty (← asAddr u):Sem Value).run P w=.ok v' w∧aA F w v v':=by
 unfold mc at h
 split at h
 ·split at h
  ·rename_i v hv
   refine⟨v,h,fun F w u hu aD =>?_⟩
   obtain⟨b,o',rfl,hF,dO⟩:=hu.tb
   obtain⟨v',h1,h2⟩:=zH ok hi dO hv
   rw[Nat.add_zero]at h1
   exact⟨v',by simp[asAddr,h1],h2⟩
  ·exact h.elim
 ·obtain⟨j,cs,v,h1,h2,go⟩:=h
  refine⟨v,go,fun F w u hu aD =>?_⟩
  have Gd:=hu.uA
  obtain rfl:=hu.tz
  obtain⟨v',h3,h4⟩:=zH ok hi (aD.at_ h1 Gd) h2
  rw[Nat.zero_add]at h3
  exact⟨v',by simp[asAddr,h3],h4⟩
 ·exact h.elim
def AJ(tmps:Array Value):ResultVar→Sem Value
 | .tmp t=>pure (tmps.getD t undef)
 | .cell d t=>do loadVar t (← asAddr (tmps.getD d undef))
theorem S4{F:Nat→Prop}{w:World}:∀(vs:List AV) (us:List Value),vs.length=us.length→(∀(i:Nat) (x:AV),vs[i]?=some x→aA F w x (us.getD i undef))→aA F w (Bn vs) (if h:us.toArray.size=1 then us.toArray[0] else .tuple us.toArray)
 | [v],[u],_,h=>by simpa [Bn]using h 0 v rfl
 | [],[],_,_=>.tup _ _ rfl (fun i x h=>by simp at h)
 | v::v2::vs,u::u2::us,hl,h=>by
  rw[dif_neg (by simp)]
  refine .tup _ _ (by simpa using hl) (fun i x hx =>?_)
  have:=h i x hx
  rw[List.getD_eq_getElem?_getD]at this
  rw[Array.getD_eq_getD_getElem?,List.getElem?_toArray]
  exact this
 | [],_::_,hl,_=>by simp at hl
 | _::_,[],hl,_=>by simp at hl
 | [_],_::_::_,hl,_=>by simp at hl
 | _::_::_,[_],hl,_=>by simp at hl
theorem CA(ok:ck P TT):∀(rs:List ResultVar) (t:Tm) (σ:Hp) (K:List AV→Prop),xL TT rs t σ K→∀(F:Nat→Prop) (w:World) (a:Act),pF F w t a→aV F w σ→
  ∃vs us,K vs∧(rs.mapM (AJ a.tmps)).run P w=.ok us w∧vs.length=us.length∧∀(i:Nat) (x:AV),vs[i]?=some x→aA F w x (us.getD i undef)
 | [],t,σ,K,h,F,w,a,_,_=>⟨[],[],h,rfl,rfl,fun i x h=>by simp at h⟩
 | .tmp d::rs,t,σ,K,h,F,w,a,ht,aD=>by
  have h:strict (t d) fun v=>xL TT rs t σ fun vs=>K (a8 v::vs):=h
  rw[sY]at h
  obtain⟨vs,us,h1,h2,h3,h4⟩:=CA ok rs t σ _ h F w a ht aD
  refine⟨_,a.tmps.getD d undef::us,h1,?_,by simp[h3],fun i x hi =>?_⟩
  ·rw[List.mapM_cons]
   simp only[AJ,Sem.run_bind,Sem.run_pure,Result.andThen_ok,h2]
  ·cases i with
   | zero=>simp at hi;subst hi;exact (ht d).a8
   | succ i=>simpa using h4 i x (by simpa using hi)
 | .cell d ty::rs,t,σ,K,h,F,w,a,ht,aD=>by
  have h:(match TT ty with | some i=>mc i (t d) σ fun v=>xL TT rs t σ fun vs=>K (v::vs) | none=>False):=h
  split at h
  ·rename_i i hi
   obtain⟨v,h,hv⟩:=NR ok hi h
   obtain⟨v',k1,k2⟩:=hv F w _ (ht d) aD
   obtain⟨vs,us,h1,h2,h3,h4⟩:=CA ok rs t σ _ h F w a ht aD
   refine⟨_,v'::us,h1,?_,by simp[h3],fun i x hi =>?_⟩
   ·have k1':(AJ a.tmps (.cell d ty)).run P w=.ok v' w:=k1
    rw[List.mapM_cons]
    simp only[Sem.run_bind,k1',Sem.run_pure,Result.andThen_ok,h2]
   ·cases i with
    | zero=>simp at hi;subst hi;exact k2
    | succ i=>simpa using h4 i x (by simpa using hi)
  ·exact h.elim
def shut(w:World)(ds:List Deferred):World:=ds.foldl (fun w d=>match d.target with | .collected D=>w.putObj D (.deferred none) | _=>w) w
def uV(D:Nat)(ds:List Deferred):Prop:=({ target:=.collected D,args:= #[] }:Deferred)∈ds
theorem Oo{ds:List Deferred}:∀{w:World},(∀d∈ds,∃D,d = { target:=.collected D,args:= #[] })→∀b,¬uV b ds→(shut w ds).heap[b]?=w.heap[b]?:=by
 induction ds with
 | nil=>exact fun _ _ _=>rfl
 | cons d ds ih =>
  intro w hd b hb
  obtain⟨D,rfl⟩:=hd d (List.mem_cons_self ..)
  have hbD:b≠D:=fun e=>hb (by subst e;exact List.mem_cons_self ..)
  exact (ih (w:=w.putObj D (.deferred none)) (fun d h=>hd d (List.mem_cons_of_mem _ h)) b (fun h=>hb (List.mem_cons_of_mem _ h))).trans (World.putObj_heap_other hbD)
theorem Ps{ds:List Deferred}:∀{w:World},(shut w ds).os=w.os∧(shut w ds).tape=w.tape∧(shut w ds).output=w.output∧(shut w ds).heap.size=w.heap.size∧(shut w ds).drawn=w.drawn:=by
 induction ds with
 | nil=>exact fun {w}=>⟨rfl,rfl,rfl,rfl,rfl⟩
 | cons d ds ih =>
  intro w
  obtain⟨t,eD⟩:=d
  cases t with
  | collected D =>
   obtain⟨h1,h2,h3,h4,h5⟩:=ih (w:=w.putObj D (.deferred none))
   exact⟨h1,h2,h3,h4.trans World.putObj_size,h5⟩
  | _=>exact ih
theorem GU{fn:Func}{tm:Array Value}{R:Ending→World→Prop}:∀(ds:List Deferred) (w:World),ds.Nodup→(∀d∈ds,∃D,d = { target:=.collected D,args:= #[] }∧w.heap[D]?=some (.deferred (some [])))→
  (∃v,(results fn tm).run P (shut w ds)=.ok v (shut w ds)∧R (.returned v) (shut w ds))→LeavesInM Fence.wide 0 P fn tm R ds .returning w
 | [],_,_,_,h=>h
 | d::ds,w,bC,hd,h=>by
  obtain⟨D,rfl,hw⟩:=hd d (List.mem_cons_self ..)
  obtain⟨su,pK⟩:=List.nodup_cons.1 bC
  refine⟨by simp,.inl ⟨D,_,rfl,run_takeDeferred hw,GU ds _ pK (fun d hm =>?_) h⟩⟩
  obtain⟨D',rfl,hw'⟩:=hd d (List.mem_cons_of_mem _ hm)
  exact⟨D',rfl,(World.putObj_heap_other (fun e=>su (by subst e;exact hm))).trans hw'⟩
theorem QA(ok:ck P TT)(hm:P.follows .mixedOrders=true){f:FuncId}{fn:Func}{xs:List AV}{σ:Hp}{R:AV→Hp→Prop}(hf:P.funcs[f]?=some fn)(bR:funcOk fn=true)(h:qw P TT fn xs σ R):ACalls P f xs σ R:=by
 refine⟨enters_of hf bR,fun F w vs bD aD =>?_⟩
 unfold funcOk at bR
 simp only[Bool.and_eq_true]at bR
 unfold qw at h
 cases hb:fn.body with
 | none=>rw[hb]at h;exact h.elim
 | some c =>
  rw[hb]at h
  have hc:codeOk fn.ntmps false c=true:=by have:=bR.1;rw[hb]at this;exact this
  refine callsIn_wide.1 (callsIn_of_wp_marks (n:=0) hf hb trivial (N5 (B:=w.heap.size) ok hm 1000 c (t0 xs) σ _ F w _ _ none hc h ⟨fun i =>?_,aD,by simp;omega,⟨Nat.le_refl _,.nil,fun d hd=>by cases hd⟩⟩ ?_))
  ·show aA F w (match xs[i]? with | some x=>x | none=>.any) ((vs++Array.replicate (fn.ntmps-vs.size) undef).getD i undef)
   cases hi:xs[i]? with
   | none=>exact .any _
   | some x =>
    have ab:i<vs.size:=by rw[← bD.1];exact (List.getElem?_eq_some_iff.1 hi).1
    have:=bD.2 i x hi
    rw[Array.getD_eq_getD_getElem?]at this ⊢
    rw[Array.getElem?_append_left ab]
    exact this
  ·intro e t' σ' F' w' a' h1 h2 h3
   have fin:xL TT fn.results.toList t' σ' (fun vs=>Fin R (Bn vs) σ')→LeavesInM Fence.wide 0 P fn a'.tmps (fun e w'=>∃r v σ' F',e=.returned v∧a6 F w F' w'∧aV F' w' σ'∧aA F' w' r v∧R r σ') a'.defers .returning w':=by
    intro h3
    have hmk:∀d∈a'.defers,∃D,d = { target:=.collected D,args:= #[] }:=fun d hd=>(h2.defers.is d hd).imp fun _ h=>h.1
    refine GU a'.defers w' h2.defers.nodup (fun d hd=>(h2.defers.is d hd).imp fun _ h=>⟨h.1,h.2.2.2⟩) ?_
    have hD:∀b,uV b a'.defers→w.heap.size≤b∧F' b∧w'.heap[b]?=some (.deferred (some [])):=fun b hb=>by
     obtain⟨D,q1,q2,q3,q4⟩:=h2.defers.is _ hb
     cases q1
     exact⟨q2,q3,q4⟩
    have xY:=Oo (w:=w') hmk
    obtain⟨z1,z2,z3,z4,z5⟩:=Ps (w:=w') (ds:=a'.defers)
    obtain⟨w2,BU⟩:∃w2,w2=shut w' a'.defers:=⟨_,rfl⟩
    rw[← BU]at xY z1 z2 z3 z4 z5 ⊢
    have iC:∀b,kH w' b→¬uV b a'.defers:=fun b ⟨c,T,fz,hc⟩ hb=>by
     rw[(hD b hb).2.2]at hc;cases hc
    have nc:NC F' w' (fun b=>F' b∧¬uV b a'.defers) w2:=⟨fun b hb=>⟨hb.1,iC b hb.2⟩,fun b hb=>xY b (iC b hb)⟩
    have st2:a6 F w (fun b=>F' b∧¬uV b a'.defers) w2:= {
     os:=z1.trans h1.os
     tape:=z2.trans h1.tape
     output:=z3.trans h1.output
     size:=by rw[z4];exact h1.size
     sub:=fun b hF=>⟨h1.sub b hF,fun hb=>by have:=(hD b hb).1;have:=aD.low b hF;omega⟩
     fix:=fun b hF=>by
      rw[xY b (fun hb=>by have:=(hD b hb).1;have:=aD.low b hF;omega)]
      exact h1.fix b hF
     rows:=fun b c T fz hc=>by
      obtain⟨c',nG,q1,q2⟩:=h1.rows b c T fz hc
      exact⟨c',nG,(xY b (iC b ⟨c',T,nG,q1⟩)).trans q1,q2⟩
     drawn:=by rw[z5];exact h1.drawn }
    have Mh:aV (fun b=>F' b∧¬uV b a'.defers) w2 σ':=h2.hp.nc nc (fun p hp=>⟨xY p.1 (fun hb=>(h2.hp.holds p hp).1 (hD p.1 hb).2.1),fun h=>(h2.hp.holds p hp).1 h.1⟩) (fun b hb=>by rw[z4];exact h2.hp.low b hb.1)
    obtain⟨dg,us,k1,k2,k3,k4⟩:=CA ok _ _ _ _ h3 _ w2 a' (fun i=>(h2.tm i).nc nc) Mh
    have Xg:(results fn a'.tmps).run P w2=.ok (if h:us.toArray.size=1 then us.toArray[0] else .tuple us.toArray) w2:=by
     rw[show results fn a'.tmps=(do let vs ← fn.results.mapM (AJ a'.tmps);pure (if h:vs.size=1 then vs[0] else .tuple vs)) from rfl]
     rw[Sem.run_bind,Array.mapM_eq_mapM_toList]
     simp only[Sem.run_map,k2,Result.andThen_ok]
     rfl
    have Xh:=S4 dg us k3 k4
    obtain⟨r',gX,kB,q1,q2,q3,q4⟩:=ID k1 _ w2 _ Mh Xh
    exact⟨_,Xg,r',_,gX,kB,rfl,st2.trans q1,q2,q3,q4⟩
   cases e with
   | normal=>exact fin h3
   | ret=>exact fin h3
   | exit i=>exact h3.elim
   | goto l=>exact h3.elim
theorem ACalls.mono{f:FuncId}{xs:List AV}{σ:Hp}{R R':AV→Hp→Prop}(h:ACalls P f xs σ R)(hr:∀r σ',R r σ'→R' r σ'):ACalls P f xs σ R':=
 ⟨h.1,fun F w vs hv aD=>(h.2 F w vs hv aD).mono fun _ _ ⟨r,v,σ',F',h1,h2,h3,h4,h5⟩=>⟨r,v,σ',F',h1,h2,h3,h4,hr _ _ h5⟩⟩
theorem ACalls.fin{f:FuncId}{xs:List AV}{σ:Hp}{R R':AV→Hp→Prop}(h:ACalls P f xs σ R)(hr:∀r σ',R r σ'→Fin R' r σ'):ACalls P f xs σ R':=
 ⟨h.1,fun F w vs hv aD=>(h.2 F w vs hv aD).mono fun _ _ ⟨r,v,σ',F',h1,h2,h3,h4,h5⟩=>by
  obtain⟨r',gX,kB,q1,q2,q3,q4⟩:=ID (hr _ _ h5) F' _ v h3 h4
  exact⟨r',v,gX,kB,h1,h2.trans q1,q2,q3,q4⟩⟩
def Sh.pos:Sh→Bool
 | .slice e=>decide (0<e.size) && e.pos
 | .field f r=>f.pos && r.pos
 | _=>true
theorem Qb{w:World}:∀(s:Sh) (cs:List Value) (d:s.T),s.pos=true→Reads w s cs d→iA (fun b=>b<w.heap.size) w s cs d:=by
 intro s
 induction s with
 | int k=>exact fun _ _ _ h=>h.1
 | bool=>exact fun _ _ _ h=>h
 | str=>exact fun _ _ _ h=>h.1
 | nil=>exact fun _ _ _ h=>h
 | slice e ih =>
  rintro cs l hp ⟨a,c,h1,h2,h3,h0,h4⟩
  simp only[Sh.pos,Bool.and_eq_true,decide_eq_true_eq]at hp
  refine⟨a,c,h1,h2,h3,h0,fun aS =>?_⟩
  obtain⟨b,o,rfl,hi⟩:=h4 aS
  have mi:0<l.length:=List.length_pos_iff.2 aS
  refine⟨b,o,rfl,?_,fun i h =>?_⟩
  ·obtain⟨cs',q1,q2,q3⟩:=hi 0 mi
   cases cs' with
   | nil=>simp at q1;omega
   | cons u cs' =>
    have iC:=q2 0 u rfl
    unfold World.cell? at iC
    cases ho:w.heap[b]? with
    | none=>simp[ho]at iC
    | some x =>
     cases x with
     | cells c T fz=>exact⟨pt ho,c,T,fz,ho⟩
     | _=>simp[ho]at iC
  ·obtain⟨cs',q1,q2,q3⟩:=hi i h
   exact⟨cs',q1,q2,ih _ _ hp.2 q3⟩
 | field f r mB gz =>
  rintro cs d hp ⟨c1,c2,h1,h2,h3,h4⟩
  simp only[Sh.pos,Bool.and_eq_true]at hp
  exact⟨c1,c2,h1,h2,mB _ _ hp.1 h3,gz _ _ hp.2 h4⟩
theorem U4{f:FuncId}{xs:List AV}(h:ACalls P f xs [] (fun r _=>r=.bool true)){w:World}{vs:Array Value}(hv:fO (fun b=>b<w.heap.size) w xs vs):
  Calls P f vs w fun e w'=>e=.returned (.bool true)∧Below w.heap.size w w':=by
 refine (h.2 _ w vs hv ⟨by simp,(fun p hp=>by cases hp),fun _ h=>h⟩).mono ?_
 rintro e w' ⟨r,v,σ',F',rfl,h1,h2,h3,rfl⟩
 rw[h3.na]
 exact⟨rfl,h1.os,h1.tape,h1.output,h1.size,fun k hk=>h1.fix k hk⟩
end
end Go.Proofs.YtnpidbjdilnhlaaGreat
