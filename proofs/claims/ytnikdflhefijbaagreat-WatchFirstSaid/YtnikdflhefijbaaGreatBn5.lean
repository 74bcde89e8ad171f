import Derived.WalkMore
import Derived.Test.YtnikdflhefijbaaGreatBn4
import Derived.Test.YtnikdflhefijbaaGreatBn1
import Derived.Test.YtnikdflhefijbaaGreatRows
namespace Go.Proofs.YtnikdflhefijbaaGreat
open Go.RowKit
section
variable {P:Program} {TT:TypeId→Option TI}
def D8(n:Nat)(o:Oper):Bool:=(match o.dst with | some d=>Nat.blt d n | none=>true)&&(match o.op with | .defer _=>false | _=>true)
def codeOk(n:Nat):Bool→Code→Bool
 |_,.region _ ops _=>ops.toList.all (D8 n)
 |rd,.seq a b=>codeOk n rd a&&codeOk n rd b
 |rd,.cond _ a b=>codeOk n rd a&&codeOk n rd b
 |rd,.block _ c=>codeOk n rd c
 |rd,.loop c=>codeOk n rd c
 |rd,.scope c=> !rd&&codeOk n false c
 |rd,.rangeFunc _ ps a b=> !rd&&ps.toList.all (fun p=>Nat.blt p n)&&codeOk n true a&&codeOk n true b
 |_,_=>true
theorem ac6{n:Nat}{rd:Bool}:∀(c:Code) (l:Nat) (r:Code),findLabel c l=some r→codeOk n rd c=true→codeOk n rd r=true:=by
 intro c
 induction c with
 |seq a b iha Og=>
  intro l r h hc
  simp only[codeOk,bL]at hc
  simp only[findLabel]at h
  split at h
  ·rename_i rest hr
   cases h
   simp only[codeOk,bL]
   exact⟨iha l _ hr hc.1,hc.2⟩
  ·exact Og l r h hc.2
 |label l'=>
  intro l r h _
  simp only[findLabel]at h
  split at h
  ·cases h;rfl
  ·cases h
 |_=>intro l r h;simp[findLabel]at h
theorem ag5{n:Nat}{ops:List Oper}(h:ops.all (D8 n)=true):∀o∈ops,∀d,o.dst=some d→d<n:=fun o ho d hd=>by
 have:=fI.1 h o ho
 unfold D8 at this
 rw[hd,bL]at this
 exact cR this.1
theorem agO{n:Nat}{ops:List Oper}(h:ops.all (D8 n)=true):∀o∈ops,∀c,o.op≠.defer c:=fun o ho c hc=>by
 have:=fI.1 h o ho
 unfold D8 at this
 rw[hc,bL]at this
 cases this.2
theorem Xu{F:Fence}{n:Nat}{c:Code}{Q:Exit→Act→World→Prop}{a:Act}{w:World}(J:Nat→Act→World→Prop)(m:Nat)(ahJ:J m a w)
  (round:∀m a w,J m a w→c.wpIn F n P (Exit.then (fun a' w'=>∃m',m'<m∧J m' a' w') Q) a w):(Code.loop c).wpIn F n P Q a w:=by
 intro b k cs mU hb hr
 have key:∀n a w,J n a w→∃e a' w',Q e a' w'∧ArrivesIn (Machine.fenced P F) P (lone (b.atR a (.code c::.inLoop c::k)) cs w) b k cs e a' w':=by
  intro n
  induction n using Nat.strongRecOn with
  |_ n ih=>
   intro a w hI
   obtain⟨e,sJ,sC,hq,qF⟩:=round n a w hI b (.inLoop c::k) cs mU hb hr
   cases e with
   |normal=>
    obtain⟨m',ab,ah3⟩:=hq
    obtain⟨ais,BE,Bs,xA,AM⟩:=ih m' ab sJ sC ah3
    exact⟨ais,BE,Bs,xA,.of_steps (StepsIn.trans qF (.one (fenced_calm hb hr rfl) stepR_inLoop)) AM⟩
   |exit id=>exact⟨_,sJ,sC,hq,.pass (x:=.inLoop c) rfl (fun _ _=>.inl (by simp)) qF⟩
   |goto l=>exact⟨_,sJ,sC,hq,.pass (x:=.inLoop c) rfl (fun _ _=>.inl (by simp)) qF⟩
   |ret=>exact⟨_,sJ,sC,hq,.pass (x:=.inLoop c) rfl (fun _ _=>.inl (by simp)) qF⟩
   |panic ch=>exact⟨_,sJ,sC,hq,.pass (x:=.inLoop c) rfl (fun _ _=>.inl (by simp)) qF⟩
   |outgrown=>exact⟨_,sJ,sC,hq,.pass (x:=.inLoop c) rfl (fun _ _=>.inl (by simp)) qF⟩
 obtain⟨e,a',w',hq,qF⟩:=key m a w ahJ
 exact⟨e,a',w',hq,.of_steps (.one (fenced_calm hb hr rfl) stepR_loop) qF⟩
def Ex.up:Ex→Exit
 |.normal=>.normal
 |.exit id=>.exit id
 |.goto l=>.goto l
 |.ret=>.ret
inductive Br(P:Program)(c:Code)(Q:Exit→Act→World→Prop):Exit→Act→World→Prop where
 |normal {a:Act} {w:World} (h:Q .normal a w):Br P c Q .normal a w
 |exit {id:Nat} {a:Act} {w:World} (h:Q (.exit id) a w):Br P c Q (.exit id) a w
 |ret {a:Act} {w:World} (h:Q .ret a w):Br P c Q .ret a w
 |goto {l:Nat} {a:Act} {w:World} (n:Nat) (J:Nat→Nat→Act→World→Prop) (h:J n l a w) (hr:∀n l a w,J n l a w→∃r,findLabel c l=some r∧r.wp P (fun e a' w'=>match e with | .goto l'=>∃n',n'<n∧J n' l' a' w' | .panic _=>False | .outgrown=>False | e=>Q e a' w') a w):Br P c Q (.goto l) a w
theorem XF{c:Code}{Q:Exit→Act→World→Prop}{a:Act}{w:World}(h:c.wp P (Br P c Q) a w):(Code.scope c).wp P Q a w:=by
 intro b k cs
 obtain⟨e,sJ,sC,hq,qF⟩:=h b (.inScope c::k) cs
 have top:Steps P (lone (b.at a (.code (.scope c)::k)) cs w) (lone (b.at a (.code c::.inScope c::k)) cs w):=.one step_scope
 cases hq with
 |normal h=>exact⟨.normal,sJ,sC,h,.of_steps top (Steps.trans qF (.one step_inScope))⟩
 |exit h=>exact⟨.exit _,sJ,sC,h,.of_steps top (fun k' hk=>qF k' (by simp[exitTo,hk]))⟩
 |ret h=>exact⟨_,sJ,sC,h,.of_steps top qF⟩
 | @goto l _ _ n J hJ hr=>
  have key:∀(n l:Nat) (a:Act) (w:World),J n l a w→∃rest,findLabel c l=some rest∧∃e a' w',Q e a' w'∧Arrives P (lone (b.at a (.code rest::.inScope c::k)) cs w) b k cs e a' w':=by
   intro n
   induction n using Nat.strongRecOn with
   |_ n ih=>
    intro l a w hI
    obtain⟨r,hl,hwp⟩:=hr n l a w hI
    refine⟨r,hl,?_⟩
    obtain⟨e,BE,Bs,xA,AM⟩:=hwp b (.inScope c::k) cs
    cases e with
    |normal=>exact⟨.normal,BE,Bs,xA,Steps.trans AM (.one step_inScope)⟩
    |exit id=>exact⟨.exit id,BE,Bs,xA,fun k' hk=>AM k' (by simp[exitTo,hk])⟩
    |goto l'=>
     obtain⟨n',ab,hJ'⟩:=xA
     obtain⟨rest,hf,NV,N1,Nx,Nh,Ms⟩:=ih n' ab l' BE Bs hJ'
     have hg:gotoIn l' (.inScope c::k)=some (.code rest::.inScope c::k):=by simp[gotoIn,hf]
     exact⟨NV,N1,Nx,Nh,.of_steps (AM _ hg) Ms⟩
    |ret=>exact⟨_,BE,Bs,xA,AM⟩
    |panic ch=>exact xA.elim
    |outgrown=>exact xA.elim
  obtain⟨rest,hf,NV,N1,Nx,Nh,Ms⟩:=key n l sJ sC hJ
  have hg:gotoIn l (.inScope c::k)=some (.code rest::.inScope c::k):=by simp[gotoIn,hf]
  exact⟨NV,N1,Nx,Nh,.of_steps top (.of_steps (qF _ hg) Ms)⟩
theorem dw.cX{B n:Nat}{F:Nat→Prop}{w:World}{t t':Tm}{σ:Hp}{a:Act}(hs:dw B n F w t σ a){j b off len es:Nat}{cs:List AV}{e:Sh}{l:List e.T}(h1:σ[j]?=some (b,cs))(h2:(cs.drop off).take (len*es)=l.flatMap e.cells)(h3:l.length=len∧e.size=es∧0<es)(h4:∀i,eI b off len es e l (t i) (t' i)):
  ∃F',bB F w F' w∧dw B n F' w t' (σ.eraseIdx j) a:=by
 obtain⟨an,oE,hh⟩:=vd hs.hp h1 h2 h3
 exact⟨_,an,fun i=>yv an hh (h4 i) _ (hs.tm i),oE,hs.size,hs.defers.mono an⟩
theorem dw.wrap{B n:Nat}{F:Nat→Prop}{w:World}{t:Tm}{σ:Hp}{a:Act}(hs:dw B n F w t σ a){k:Nat}{v:AV}(h1:t k=v)(h2:v.leaf=true):dw B n F w (eN t [(k,.via v)]) σ a:=
 ⟨fun i=>by
  show aA F w (match Nat.beq i k with | true=>.via v | false=>t i) _
  cases hb:Nat.beq i k with
  |true=>rw[jF hb];exact .via _ _ h2 (h1▸hs.tm k)
  |false=>exact hs.tm i,hs.hp,hs.size,hs.defers⟩
theorem Zh(ok:dH P TT)(hm:P.follows .mixedOrders=true){r:Option Nat}{B n:Nat}{ops:Array Oper}{K:Tm→Hp→Prop}{Q:Exit→Act→World→Prop}{t:Tm}{σ:Hp}(hd:∀o∈ops.toList,∀d,o.dst=some d→d<n)(cf:∀o∈ops.toList,∀c,o.op≠.defer c)(h:gz P TT ops.toList K t σ):∀{F:Nat→Prop} {w:World} {a:Act} {id:Nat},dw B n F w t σ a→
  (∀t' σ' F' w' a',bB F w F' w'→dw B n F' w' t' σ' a'→K t' σ'→Q .normal a' w')→(Code.region id ops true).wpIn (FW r) 0 P Q a w:=by
 induction h with
 |quiet h0 h=>exact fun hs hq=>X9 ok hm h0 h hd cf hs (fun t' F' w' a' h1 h2 h3=>hq t' _ F' w' a' h1 h2 h3)
 |each h0 h=>exact fun hs hq=>Q2 ok hm h0 h hd cf hs (fun t' σ' F' w' a' h1 h2 h3=>hq t' σ' F' w' a' h1 h2 h3)
 |sched Q0 s h0 h=>exact fun hs hq=>Qf ok hm h0 h hd cf hs (fun t' σ' F' w' a' h1 h2 h3=>hq t' σ' F' w' a' h1 h2 h3)
 |meet L H h0 h go=>
  intro F w a id hs hq
  refine Q2 ok hm h0 h hd cf hs (fun t' σ' F' w' a' h1 h2 h3=>?_)
  obtain⟨s,k1,k2⟩:=h3
  refine hq t' (H s) F' w' a' h1 (h2.dN k2) ?_
  rw[AA k1]
  exact go s t'
 |H6 Q0 s0 L H h0 h go=>
  intro F w a id hs hq
  refine Qf ok hm h0 h hd cf hs (fun t' σ' F' w' a' h1 h2 h3=>?_)
  obtain⟨s,k1,k2⟩:=h3
  refine hq t' (H s) F' w' a' h1 (h2.dN k2) ?_
  rw[AA k1]
  exact go s t'
 |cX j b off len es cs e l h1 h2 h3 h4 h ih=>
  intro F w a id hs hq
  obtain⟨F1,k1,k2⟩:=hs.cX h1 h2 h3 h4
  exact ih k2 (fun t' σ' F' w' a' q1 q2 q3=>hq t' σ' F' w' a' (k1.trans q1) q2 q3)
 |dN h1 h ih=>
  intro F w a id hs hq
  exact ih (hs.dN h1) hq
theorem dw.j6{B n:Nat}{F:Nat→Prop}{w:World}{t:Tm}{σ:Hp}{a:Act}(hs:dw B n F w t σ a){j b off len es:Nat}{cs:List AV}{e:Sh}{l:List e.T}(h1:σ[j]?=some (b,cs))(h2:(cs.drop off).take (len*es)=l.flatMap e.cells)(h3:l.length=len∧e.size=es∧0<es){i k b':Nat}{cs':List AV}(hi:(σ.eraseIdx j)[i]?=some (b',cs'))(hk:cs'[k]?=some (.af b off len es)):
  ∃F',bB F w F' w∧dw B n F' w t ((σ.eraseIdx j).set i (b',cs'.set k (.ae e l))) a:=by
 obtain⟨an,oE,hh⟩:=vd hs.hp h1 h2 h3
 exact⟨_,an,fun i=>(hs.tm i).mono an,Dc oE hh hi hk,hs.size,hs.defers.mono an⟩
theorem dw.nil{B n:Nat}{F:Nat→Prop}{w:World}{t t':Tm}{σ:Hp}{a:Act}(hs:dw B n F w t σ a)(h4:∀i,eI 0 0 0 0 .bool [] (t i) (t' i)):dw B n F w t' σ a:=
 ⟨fun i=>yv (.refl _ _) (fun v hv=>by
  obtain⟨a,cap,rfl,c,T,fz,m1,m2,m3,m4⟩:=hv.kV
  exact .ae _ _ _ ⟨some a,cap,rfl,m2,m3,(fun e=>by cases e),fun aQ=>absurd rfl aQ⟩) (h4 i) _ (hs.tm i),hs.hp,hs.size,hs.defers⟩
theorem aa6{B n:Nat}{S:Type}{L:S→List (Nat×AV)}{H:S→Hp}{p:S→Prop}{μ:S→Nat}{s:S}{t':Tm}{σ':Hp}(h:pI L H p μ s t' σ'):∀{F:Nat→Prop} {w:World} {a:Act},dw B n F w t' σ' a→
  ∃F' t2 s',bB F w F' w∧dw B n F' w t2 (H s') a∧μ s'<μ s∧p s'∧agree t2 (L s'):=by
 induction h with
 |mk s' h1 h2 h3 h4=>exact fun hs=>⟨_,_,s',.refl _ _,hs.dN h4,h1,h2,h3⟩
 |cX j b off len es cs e l h1 h2 h3 h4 h ih=>
  intro F w a hs
  obtain⟨F1,k1,k2⟩:=hs.cX h1 h2 h3 h4
  obtain⟨F2,t2,s',q1,q2,q3⟩:=ih k2
  exact⟨F2,t2,s',k1.trans q1,q2,q3⟩
 |j6 j b off len es cs e l h1 h2 h3 i k b' cs' hi hk h ih=>
  intro F w a hs
  obtain⟨F1,k1,k2⟩:=hs.j6 h1 h2 h3 hi hk
  obtain⟨F2,t2,s',q1,q2,q3⟩:=ih k2
  exact⟨F2,t2,s',k1.trans q1,q2,q3⟩
 |dN h1 h ih=>exact fun hs=>ih (hs.dN h1)
 |nil h4 h ih=>exact fun hs=>ih (hs.nil h4)
theorem aa7{B n:Nat}{S:Type}{fZ:S→Nat}{L:S→List (Nat×AV)}{H:S→Hp}{p:S→Prop}{μ:S→Nat}{s:S}{l:Nat}{t':Tm}{σ':Hp}(h:rM fZ L H p μ s l t' σ'):∀{F:Nat→Prop} {w:World} {a:Act},dw B n F w t' σ' a→
  ∃F' t2 s',bB F w F' w∧dw B n F' w t2 (H s') a∧l=fZ s'∧μ s'<μ s∧p s'∧agree t2 (L s'):=by
 induction h with
 |mk s' h0 h1 h2 h3 h4=>exact fun hs=>⟨_,_,s',.refl _ _,hs.dN h4,h0,h1,h2,h3⟩
 |cX j b off len es cs e l h1 h2 h3 h4 h ih=>
  intro F w a hs
  obtain⟨F1,k1,k2⟩:=hs.cX h1 h2 h3 h4
  obtain⟨F2,t2,s',q1,q2,q3⟩:=ih k2
  exact⟨F2,t2,s',k1.trans q1,q2,q3⟩
 |j6 j b off len es cs e l h1 h2 h3 i k b' cs' hi hk h ih=>
  intro F w a hs
  obtain⟨F1,k1,k2⟩:=hs.j6 h1 h2 h3 hi hk
  obtain⟨F2,t2,s',q1,q2,q3⟩:=ih k2
  exact⟨F2,t2,s',k1.trans q1,q2,q3⟩
 |dN h1 h ih=>exact fun hs=>ih (hs.dN h1)
 |nil h4 h ih=>exact fun hs=>ih (hs.nil h4)
theorem Y2{r:Option Nat}{B n:Nat}{c:Code}{body:Tm→Hp→(Ex→Tm→Hp→Prop)→Prop}(hb:∀(t:Tm) (σ:Hp) (K:Ex→Tm→Hp→Prop) (F:Nat→Prop) (w:World) (a:Act) (Q:Exit→Act→World→Prop),body t σ K→dw B n F w t σ a→
   (∀e t' σ' F' w' a',bB F w F' w'→dw B n F' w' t' σ' a'→K e t' σ'→Q e.up a' w')→c.wpIn (FW r) 0 P Q a w) {K:Ex→Tm→Hp→Prop} {t:Tm} {σ:Hp} (h:mN body K t σ):∀{F:Nat→Prop} {w:World} {a:Act} {Q:Exit→Act→World→Prop},dw B n F w t σ a→
  (∀e t' σ' F' w' a',bB F w F' w'→dw B n F' w' t' σ' a'→K e t' σ'→Q e.up a' w')→(Code.loop c).wpIn (FW r) 0 P Q a w:=by
 induction h with
 | @mk t σ S L H p μ s0 h0 hr=>
  intro F w a Q hs hq
  refine Xu (fun m a' w'=>∃t' σ' F',bB F w F' w'∧dw B n F' w' t' σ' a'∧Head L H p μ m t' σ') (μ s0) ⟨t,σ,F,.refl _ _,hs,s0,t,rfl,h0.1,AA h0.2.1,h0.2.2⟩ ?_
  rintro m a1 w1 ⟨_,_,F1,s1,r1,ss,g,rfl,hp,rfl,rfl⟩
  refine hb _ _ _ F1 w1 a1 _ (hr ss g hp) r1 ?_
  intro e t' σ' F' w' a' h1 h2 h3
  cases e with
  |normal=>
   obtain⟨F2,t2,s',q1,q2,k1,k2,k3⟩:=aa6 h3 h2
   exact⟨_,k1,t2,_,F2,s1.trans (h1.trans q1),q2,s',t2,rfl,k2,AA k3,rfl⟩
  |exit id=>exact hq (.exit id) t' σ' F' w' a' (s1.trans h1) h2 h3
  |goto l=>exact hq (.goto l) t' σ' F' w' a' (s1.trans h1) h2 h3
  |ret=>exact hq .ret t' σ' F' w' a' (s1.trans h1) h2 h3
 |cX j b off len es cs e l h1 h2 h3 h4 h ih=>
  intro F w a Q hs hq
  obtain⟨F1,k1,k2⟩:=hs.cX h1 h2 h3 h4
  exact ih k2 (fun e t' σ' F' w' a' q1 q2 q3=>hq e t' σ' F' w' a' (k1.trans q1) q2 q3)
 |dN h1 h ih=>
  intro F w a Q hs hq
  exact ih (hs.dN h1) hq
 |wrap k v h1 h2 h ih=>
  intro F w a Q hs hq
  exact ih (hs.wrap h1 h2) hq
 |nil h4 h ih=>
  intro F w a Q hs hq
  exact ih (hs.nil h4) hq
theorem Y9{B n:Nat}{c:Code}{R:Nat→Tm→Hp→(Ex→Tm→Hp→Prop)→Prop}(hR:∀(l:Nat) (t:Tm) (σ:Hp) (K:Ex→Tm→Hp→Prop) (F:Nat→Prop) (w:World) (a:Act) (Q:Exit→Act→World→Prop),R l t σ K→dw B n F w t σ a→
   (∀e t' σ' F' w' a',bB F w F' w'→dw B n F' w' t' σ' a'→K e t' σ'→Q e.up a' w')→∃r,findLabel c l=some r∧r.wp P Q a w) {l:Nat} {K:Ex→Tm→Hp→Prop} {t:Tm} {σ:Hp} (h:rN R l K t σ):∀{F:Nat→Prop} {w:World} {a:Act} {Q:Exit→Act→World→Prop},dw B n F w t σ a→
  (∀e t' σ' F' w' a',bB F w F' w'→dw B n F' w' t' σ' a'→K e t' σ'→(∀l,e≠.goto l)→Q e.up a' w')→Br P c Q (.goto l) a w:=by
 induction h with
 | @fwd t σ k h=>
  intro F w a Q hs hq
  refine .goto k (fun k l a' w'=>∃t' σ' F',bB F w F' w'∧dw B n F' w' t' σ' a'∧Wk R k l t' σ' K) ⟨t,σ,F,.refl _ _,hs,h⟩ ?_
  rintro k l a1 w1 ⟨t1,j9,F1,s1,r1,h⟩
  cases k with
  |zero=>exact h.elim
  |succ k=>
   refine hR l t1 j9 _ F1 w1 a1 _ h r1 ?_
   intro e t' σ' F' w' a' h1 h2 h3
   cases e with
   |normal=>exact hq .normal t' σ' F' w' a' (s1.trans h1) h2 h3 (by simp)
   |exit id=>exact hq (.exit id) t' σ' F' w' a' (s1.trans h1) h2 h3 (by simp)
   |goto l=>exact⟨k,Nat.lt_succ_self _,t',σ',F',s1.trans h1,h2,h3⟩
   |ret=>exact hq .ret t' σ' F' w' a' (s1.trans h1) h2 h3 (by simp)
 | @loop t σ S fZ L H p μ s0 h0 hr=>
  intro F w a Q hs hq
  refine .goto (μ s0) (fun m l a' w'=>∃s g F',bB F w F' w'∧dw B n F' w' (eN g (L s)) (H s) a'∧m=μ s∧l=fZ s∧p s) ⟨s0,t,F,.refl _ _,?_,rfl,h0.1,h0.2.1⟩ ?_
  ·rw[← AA h0.2.2.1];exact hs.dN h0.2.2.2
  rintro m l a1 w1 ⟨s,g,F1,s1,r1,rfl,rfl,hp⟩
  refine hR (fZ s) _ _ _ F1 w1 a1 _ (hr s g hp) r1 ?_
  intro e t' σ' F' w' a' h1 h2 h3
  cases e with
  |normal=>exact hq .normal t' σ' F' w' a' (s1.trans h1) h2 h3 (by simp)
  |exit id=>exact hq (.exit id) t' σ' F' w' a' (s1.trans h1) h2 h3 (by simp)
  |goto l=>
   obtain⟨F2,t2,s',q1,q2,k0,k1,k2,k3⟩:=aa7 h3 h2
   refine⟨_,k1,s',t2,F2,s1.trans (h1.trans q1),?_,rfl,k0,k2⟩
   rw[← AA k3]
   exact q2
  |ret=>exact hq .ret t' σ' F' w' a' (s1.trans h1) h2 h3 (by simp)
 |cX j b off len es cs e l h1 h2 h3 h4 h ih=>
  intro F w a Q hs hq
  obtain⟨F1,k1,k2⟩:=hs.cX h1 h2 h3 h4
  exact ih k2 (fun e t' σ' F' w' a' q1 q2 q3 q4=>hq e t' σ' F' w' a' (k1.trans q1) q2 q3 q4)
 |dN h1 h ih=>
  intro F w a Q hs hq
  exact ih (hs.dN h1) hq
 |wrap k v h1 h2 h ih=>
  intro F w a Q hs hq
  exact ih (hs.wrap h1 h2) hq
structure NC(F:Nat→Prop)(w:World)(F':Nat→Prop)(w':World):Prop where
 sub:∀b,FC F w b→F' b
 cells:∀b,ob w b→w'.heap[b]?=w.heap[b]?
theorem NC.at_{F F':Nat→Prop}{w w':World}(h:NC F w F' w'){b:Nat}(hc:ob w b):ob w' b:=by
 obtain⟨c,T,fz,e⟩:=hc
 exact⟨c,T,fz,(h.cells b ⟨c,T,fz,e⟩).trans e⟩
theorem NC.fc{F F':Nat→Prop}{w w':World}(h:NC F w F' w'){b:Nat}(hf:FC F w b):FC F' w' b:=⟨h.sub b hf,h.at_ hf.2⟩
theorem kT.nc{F F':Nat→Prop}{w w':World}(hn:NC F w F' w'):∀(s:Sh) (cs:List Value) (d:s.T),kT F w s cs d→kT F' w' s cs d:=by
 intro s
 induction s with
 |int k=>exact fun _ _ h=>h
 |bool=>exact fun _ _ h=>h
 |str=>exact fun _ _ h=>h
 |nil=>exact fun _ _ h=>h
 |slice e ih=>
  rintro cs l ⟨a,c,h1,h2,h3,h0,h4⟩
  refine⟨a,c,h1,h2,h3,h0,fun aQ=>?_⟩
  obtain⟨b,o,rfl,hF,hi⟩:=h4 aQ
  refine⟨b,o,rfl,hn.fc hF,fun i h=>?_⟩
  obtain⟨cs',q1,q2,q3⟩:=hi i h
  exact⟨cs',q1,q2.fix (hn.cells b hF.2),ih _ _ q3⟩
 |field f r qP jP=>
  rintro cs d ⟨c1,c2,h1,h2,h3,h4⟩
  exact⟨c1,c2,h1,h2,qP _ _ h3,jP _ _ h4⟩
theorem aA.nc{F F':Nat→Prop}{w w':World}(hn:NC F w F' w'){x:AV}{v:Value}(h:aA F w x v):aA F' w' x v:=by
 induction h with
 |int k n=>exact .int k n
 |bool b=>exact .bool b
 |str s=>exact .str s
 |ae e l v h=>exact .ae e l v (kT.nc hn _ _ _ h)
 |kz a=>exact .kz a
 |gH a c h=>exact .gH a c h
 |ai=>exact .ai
 |af b off len e a cap h=>
  obtain⟨c,T,fz,h1,h2⟩:=h
  exact .af b off len e a cap ⟨c,T,fz,(hn.cells b ⟨c,T,fz,h1⟩).trans h1,h2⟩
 |cU=>exact .cU
 |ptr b off h=>exact .ptr b off (hn.at_ h)
 |nD b=>exact .nD b
 |nL b=>exact .nL b
 |fX cs b o f hF h1 hl h ih=>exact .fX cs b o f (hn.fc hF) (fun i x hx=>(LY (hn.cells b hF.2) _).trans (h1 i x hx)) hl ih
 |agg cs vs hs hl h ih=>exact .agg cs vs hs hl ih
 |tup cs vs hs h ih=>exact .tup cs vs hs ih
 |iface t a v h ih=>exact .iface t a v ih
 |nilif=>exact .nilif
 |fn f c1 c2 v1 v2 fk gF h1 h2 EZ EY=>exact .fn f c1 c2 v1 v2 fk gF EZ EY
 |iH=>exact .iH
 |pO=>exact .pO
 |gr n b h=>exact .gr n b h
 |fR n m a b h1 h2=>exact .fR n m a b h1 h2
 |any v=>exact .any v
 |via x v hl h ih=>exact .via x v hl ih
theorem Holds.nc{F F':Nat→Prop}{w w':World}(hn:NC F w F' w'){b:Nat}{cs:List AV}(h:Holds F w b cs)(hb:w'.heap[b]?=w.heap[b]?)(hF:¬F' b):Holds F' w' b cs:=by
 obtain⟨_,⟨c,T,h1,h2,h3⟩ | ⟨x,o,h1,h2,h3⟩ | ⟨L,t,h1,h2,h3⟩⟩:=h
 ·exact⟨hF,.inl ⟨c,T,hb.trans h1,h2,fun i x hx=>⟨(h3 i x hx).1,(h3 i x hx).2.nc hn⟩⟩⟩
 ·exact⟨hF,.inr (.inl ⟨x,o,h1,hb.trans h2,h3⟩)⟩
 ·exact⟨hF,.inr (.inr ⟨L,t,h1,hb.trans h2,fun i=>(h3 i).nc hn⟩)⟩
theorem bf.nc{F F':Nat→Prop}{w w':World}{σ:Hp}(h:bf F w σ)(hn:NC F w F' w')(hk:∀p∈σ,w'.heap[p.1]?=w.heap[p.1]?∧¬F' p.1)(fC:∀b,F' b→b<w'.heap.size):bf F' w' σ:=
 ⟨h.nodup,fun p hp=>(h.holds p hp).nc hn (hk p hp).1 (hk p hp).2,fC⟩
theorem bf.out{F:Nat→Prop}{w:World}{σ:Hp}(h:bf F w σ){b:Nat}(hb:F b):∀p∈σ,p.1≠b:=fun p hp e=>(h.holds p hp).1 (e▸hb)
theorem MK{F F':Nat→Prop}{w:World}{l:Nat}{L L':Loop}(hl:w.heap[l]?=some (.loop L))(hs:∀b,b≠l→F b→F' b):NC F w F' (w.putObj l (.loop L')) where
 sub:=fun b ⟨hF,c,T,fz,hc⟩=>hs b (fun e=>by subst e;rw[hl]at hc;cases hc) hF
 cells:=fun b ⟨c,T,fz,hc⟩=>World.putObj_heap_other (fun e=>by subst e;rw[hl]at hc;cases hc)
theorem Lz{w:World}{l:Nat}{L L':Loop}(hl:w.heap[l]?=some (.loop L))(b:Nat)(c:Array Value)(T:TypeId)(fz:Nat×Nat)(h:w.heap[b]?=some (.cells c T fz)):(w.putObj l (.loop L')).heap[b]?=some (.cells c T fz):=
 (World.putObj_heap_other (fun e=>by subst e;rw[hl]at h;cases h)).trans h
def Be:Ex→Code
 |.normal=>.skip
 |.exit i=>.exit i
 |.goto l=>.goto l
 |.ret=>.ret
def j4(fn:FuncId)(tm:Array Value)(ps:Array Tmp)(gv body:Code)(D:Nat)(st:LoopState)(pe:Option Code):Loop:= { state:=st,pending:=pe,fn,tmps:=tm,params:=ps,assign:=gv,body,defers:=D }
theorem U7{n:Nat}{F:Nat→Prop}{w:World}:∀(ps:List Tmp) (xs:List AV) (us:List Value) (t:Tm) (tm:Array Value),xs.length=us.length→ps.all (fun p=>Nat.blt p n)=true→n≤tm.size→(∀i,aA F w (t i) (tm.getD i undef))→(∀(i:Nat) (x:AV),xs[i]?=some x→aA F w x (us.getD i undef))→
  n≤((ps.zip us).foldl (fun t p=>t.setIfInBounds p.1 p.2) tm).size∧∀i,aA F w (BM ps xs t i) (((ps.zip us).foldl (fun t p=>t.setIfInBounds p.1 p.2) tm).getD i undef)
 | [],xs,us,t,tm,_,_,hs,ht,_=>by cases xs <;> exact⟨hs,ht⟩
 |p::ps,[],us,t,tm,hl,_,hs,ht,_=>by cases us with
  |nil=>exact⟨hs,ht⟩
  |cons u us=>cases hl
 |p::ps,x::xs,[],t,tm,hl,_,_,_,_=>by cases hl
 |p::ps,x::xs,u::us,t,tm,hl,hp,hs,ht,hx=>by
  simp only[List.all_cons,bL]at hp
  have sV:p<n:=cR hp.1
  refine U7 ps xs us (put t (some p) x) (tm.setIfInBounds p u) (by simpa using hl) hp.2 (by simpa using hs) (fun i=>?_) (fun i y hy=>by simpa using hx (i+1) y (by simpa using hy))
  show aA F w (match Nat.beq i p with | true=>x | false=>t i) _
  cases hb:Nat.beq i p with
  |true=>
   obtain rfl:=jF hb
   have hi:i<tm.size:=sg sV hs
   simpa [Array.getD,hi]using hx 0 x rfl
  |false=>
   have aQ:p≠i:=fun e=>by subst e;rw[yb]at hb;cases hb
   have:=ht i
   rw[gW]at this ⊢
   rw[Kj aQ]
   exact this
def HZ(P:Program)(B n l:Nat)(c:Code)(R:Tm→Hp→(Ex→Tm→Hp→Prop)→Prop):Prop:=
 ∀(t:Tm) (σ:Hp) (K:Ex→Tm→Hp→Prop) (F:Nat→Prop) (w:World) (a:Act) (Q:Exit→Act→World→Prop),R t σ K→dw B n F w t σ a→
  (∀e t' σ' F' w' a',bB F w F' w'→dw B n F' w' t' σ' a'→K e t' σ'→Q e.up a' w')→c.wpIn (FW (some l)) 0 P Q a w
theorem X4{B n l D:Nat}{fn:FuncId}{tm:Array Value}{ps:Array Tmp}{gv body:Code}{t:Tm}{rA rB:Tm→Hp→(Ex→Tm→Hp→Prop)→Prop}(hB:B≤l)(hn:n≤tm.size)(xV:ps.toList.all (fun p=>Nat.blt p n)=true)
  (hA:HZ P B n l gv rA) (hb:HZ P B n l body rB) {xs:List AV} {j9:Hp} {R1:Ex→Hp→Prop} (Om:xs.length=ps.size)
  (h:rA (BM ps.toList xs t) j9 fun e t' σ'=>match e with | .normal=>rB t' σ' (fun e _ kr=>R1 e kr) | _=>False) :
  HY P l xs ((l,[.mJ (j4 fn tm ps gv body D .ready none) t])::j9) (Nv l (.mJ (j4 fn tm ps gv body D .ready none) t) (fun e=>.mJ (j4 fn tm ps gv body D .done (some (Be e))) t) R1):=by
 intro F w vs bN aE
 obtain⟨JF,hl,oT⟩:=(aE.holds _ (bU ..)).V7
 have cf:=aE.nodup
 simp only[o0,lY]at cf
 have hll:l<w.heap.size:=tT hl
 have eC:vs.size=ps.size:=bN.1.symm.trans Om
 refine⟨fn,_,gv,body,run_yield hl eC,roundIn_of_wpIn trivial ?_⟩
 have N7:bB F w (fun b=>F b∨b=l) w:=⟨rfl,rfl,rfl,aR _,fun _ h=>.inl h,fun _ _=>rfl,fun _ c _ fz h=>⟨c,fz,h,rfl⟩,aR _⟩
 have aQ:∀p∈j9,p.1≠l:=fun p hp e=>cf.1 (dL.2 ⟨p,hp,e⟩)
 have NF:bf (fun b=>F b∨b=l) w j9:=⟨cf.2,fun p hp=>(aE.holds p (cQ _ hp)).mono N7 rfl (fun h=>h.elim (aE.holds p (cQ _ hp)).1 (aQ p hp)),fun b h=>h.elim (aE.low b) (fun e=>e▸hll)⟩
 have hz:(ps.zip vs).foldl (fun tmps (t,a)=>tmps.setIfInBounds t a) tm=(ps.toList.zip vs.toList).foldl (fun t p=>t.setIfInBounds p.1 p.2) tm:=by
  rw[← Array.foldl_toList,Array.toList_zip]
 obtain⟨k1,k2⟩:=U7 (n:=n) (F:=fun b=>F b∨b=l) (w:=w) ps.toList xs vs.toList t tm (by rw[Py];exact bN.1) xV hn (fun i=>(oT i).mono N7) (fun i x hx=>by
  have:=(bN.2 i x hx).mono N7
  rw[gW]at this
  rw[aW,Cn]
  exact this)
 refine hA _ _ _ _ w { tmps:=(ps.zip vs).foldl (fun tmps (t,a)=>tmps.setIfInBounds t a) tm,defers:=[] } _ h ⟨fun i=>by rw[hz];exact k2 i,NF,by rw[hz];exact k1,⟨by omega,.nil,fun d hd=>by cases hd⟩⟩ ?_
 intro e t1 σ2 F1 w1 a1 st1 s1 h1
 cases e with
 |exit i=>exact h1.elim
 |goto i=>exact h1.elim
 |ret=>exact h1.elim
 |normal=>
  have xZ:w1.heap[l]?=some (.loop (j4 fn tm ps gv body D .ready none)):=(st1.fix l (.inr rfl)).trans hl
  have O9:F1 l:=st1.sub l (.inr rfl)
  have ai6:l<w1.heap.size:=tT xZ
  refine⟨_,run_beginRound xZ rfl,?_⟩
  have lu:({ j4 fn tm ps gv body D .ready none with state:=LoopState.busy }:Loop)=j4 fn tm ps gv body D .busy none:=rfl
  rw[lu]
  have nc1:NC F1 w1 F1 (w1.putObj l (.loop (j4 fn tm ps gv body D .busy none))):=MK xZ fun _ _ h=>h
  have NR:(w1.putObj l (.loop (j4 fn tm ps gv body D .busy none))).heap[l]?=some (.loop (j4 fn tm ps gv body D .busy none)):=World.putObj_heap_same ai6
  refine hb t1 σ2 _ F1 _ a1 _ h1 ⟨fun i=>(s1.tm i).nc nc1,s1.hp.nc nc1 (fun p hp=>⟨World.putObj_heap_other (s1.hp.out O9 p hp),(s1.hp.holds p hp).1⟩) (fun b hb=>by rw[World.putObj_size];exact s1.hp.low b hb),s1.size,⟨by rw[World.putObj_size];exact s1.defers.low,s1.defers.nodup,fun d hd=>by
   obtain⟨D',q1,q2,q3,q4⟩:=s1.defers.is d hd
   refine⟨D',q1,q2,q3,(World.putObj_heap_other (fun e=>?_)).trans q4⟩
   subst e;rw[xZ]at q4;cases q4⟩⟩ ?_
  intro e t3 ep F3 w3 a3 pV s3 h3
  have hF3:F3 l:=pV.sub l O9
  have r9:w3.heap[l]?=some (.loop (j4 fn tm ps gv body D .busy none)):=(pV.fix l O9).trans NR
  have ai5:l<w3.heap.size:=tT r9
  have fin:∀L':Loop,bB F w (fun b=>F3 b∧b≠l) (w3.putObj l (.loop L'))∧((∀i,L'.tmps.getD i undef=tm.getD i undef)→bf (fun b=>F3 b∧b≠l) (w3.putObj l (.loop L')) ((l,[.mJ L' t])::ep)):=by
   intro L'
   have nc3:NC F3 w3 (fun b=>F3 b∧b≠l) (w3.putObj l (.loop L')):=MK r9 fun b hb h=>⟨h,hb⟩
   have stw:bB F w (fun b=>F3 b∧b≠l) (w3.putObj l (.loop L')):= {
    os:=pV.os.trans st1.os
    tape:=pV.tape.trans st1.tape
    output:=pV.output.trans st1.output
    size:=by
     have q1:=st1.size
     have q3:=pV.size
     rw[World.putObj_size]at q3 ⊢
     omega
    sub:=fun b hF=>⟨pV.sub b (st1.sub b (.inl hF)),fun e=>JF (e▸hF)⟩
    fix:=fun b hF=>by
     have oX:b≠l:=fun e=>JF (e▸hF)
     rw[World.putObj_heap_other oX,pV.fix b (st1.sub b (.inl hF)),World.putObj_heap_other oX,st1.fix b (.inl hF)]
    rows:=fun b c T fz hc=>by
     obtain⟨c1,fz1,q1,q2⟩:=st1.rows b c T fz hc
     obtain⟨c3,Ko,q3,q4⟩:=pV.rows b c1 T fz1 (Lz xZ b c1 T fz1 q1)
     exact⟨c3,Ko,Lz r9 b c3 T Ko q3,q4.trans q2⟩
    drawn:=eu st1.drawn pV.drawn }
   refine⟨stw,fun ahP=>⟨?_,fun p hp=>?_,fun b hb=>?_⟩⟩
   ·simp only[o0,lY]
    exact⟨fun hm=>by obtain⟨p,hp,e⟩:=dL.1 hm;exact s3.hp.out hF3 p hp e,s3.hp.nodup⟩
   ·rcases dA.1 hp with rfl | hp
    ·exact⟨fun h=>h.2 rfl,.inr (.inr ⟨L',t,rfl,World.putObj_heap_same ai5,fun i=>by rw[ahP];exact (oT i).mono stw⟩)⟩
    ·exact (s3.hp.holds p hp).nc nc3 (World.putObj_heap_other (s3.hp.out hF3 p hp)) (fun h=>(s3.hp.holds p hp).1 h.1)
   ·rw[World.putObj_size];exact s3.hp.low b hb.1
  have Nc:∀e:Ex,e≠.normal→R1 e ep→∃v w',(Instr.endRound l (some (Be e))).run P w3=.ok v w'∧∃r v' σ' F',Ending.returned v=.returned v'∧bB F w F' w'∧bf F' w' σ'∧aA F' w' r v'∧Nv l (.mJ (j4 fn tm ps gv body D .ready none) t) (fun e=>.mJ (j4 fn tm ps gv body D .done (some (Be e))) t) R1 r σ':=fun e he hr=>by
   obtain⟨q1,q2⟩:=fin (j4 fn tm ps gv body D .done (some (Be e)))
   exact⟨_,_,run_endRound _ r9,.bool false,_,_,_,rfl,q1,q2 (fun _=>rfl),.bool _,.inr ⟨rfl,e,ep,he,rfl,hr⟩⟩
  cases e with
  |normal=>
   obtain⟨q1,q2⟩:=fin (j4 fn tm ps gv body D .ready none)
   exact⟨_,_,run_endRound none r9,.bool true,_,_,_,rfl,q1,q2 (fun _=>rfl),.bool _,.inl ⟨rfl,ep,rfl,h3⟩⟩
  |exit i=>exact Nc (.exit i) (by simp) h3
  |goto i=>exact Nc (.goto i) (by simp) h3
  |ret=>exact Nc .ret (by simp) h3
theorem X8{B n:Nat}{g:Operand}{ps:Array Tmp}{gv body:Code}{t:Tm}{gf:FuncId}{cap:List AV}{rA rB:Tm→Hp→(Ex→Tm→Hp→Prop)→Prop}(hg:ev t g=.fn (.func gf) [] cap)(xV:ps.toList.all (fun p=>Nat.blt p n)=true)
  (hA:∀l,HZ P B n l gv rA) (hb:∀l,HZ P B n l body rB) {K:Ex→Hp→Prop} {σ:Hp}
  (h:A9 P gf cap ps.size (fun xs j9 R1=>rA (BM ps.toList xs t) j9 fun e t' σ'=>match e with | .normal=>rB t' σ' (fun e _ kr=>R1 e kr) | _=>False) K σ):∀{F:Nat→Prop} {w:World} {a:Act} {Q:Exit→Act→World→Prop},dw B n F w t σ a→
  (∀e σ' F' w' a',bB F w F' w'→dw B n F' w' t σ' a'→K e σ'→Q e.up a' w')→(Code.rangeFunc g ps gv body).wpIn (FW none) 0 P Q a w:=by
 induction h with
 |dN h1 h ih=>exact fun hs hq=>ih (hs.dN h1) hq
 | @mk σ go=>
  intro F w a Q hs hq
  have Fi:=hs.tm.eval g
  rw[hg]at Fi
  cases hv:a.eval g with
  |func f' v1 lb=>
   rw[hv]at Fi
   obtain⟨rfl,rfl,IH⟩:f'=.func gf∧v1 = #[]∧ja F w cap lb:=by cases Fi with | fn _ _ _ _ _ fk gF h1 h2=>exact⟨rfl,FT.1 fk.symm,gF,h2⟩
   refine wpIn_rangeFunc ?_
   intro fn _
   have e1:=run_enterLoop_outer (P:=P) (w:=w) fn a.tmps ps gv body
   obtain⟨l,hle⟩:∃l,l=w.heap.size+1:=⟨_,rfl⟩
   obtain⟨D,hD⟩:∃D,D=w.heap.size:=⟨_,rfl⟩
   obtain⟨W1,wC⟩:∃W1,W1=(w.alloc (.deferred (some []))).alloc (.loop (j4 fn a.tmps ps gv body D .ready none)):=⟨_,rfl⟩
   have hlW:W1.heap[l]?=some (.loop (j4 fn a.tmps ps gv body D .ready none)):=by
    rw[wC,hle];have:=World.alloc_heap_new (w.alloc (.deferred (some []))) (.loop (j4 fn a.tmps ps gv body D .ready none));rwa [World.size_alloc]at this
   have hDW:W1.heap[D]?=some (.deferred (some [])):=by
    rw[wC,hD];exact (Below.heap_alloc _ _ _ (by simp)).trans (World.alloc_heap_new w _)
   have hold:∀b,b<w.heap.size→W1.heap[b]?=w.heap[b]?:=fun b hb=>by
    rw[wC];exact (Below.heap_alloc _ _ b (by simp;omega)).trans (Below.heap_alloc _ _ b hb)
   have eC:W1.heap.size=w.heap.size+2:=by rw[wC];simp
   have st1:bB F w (fun b=>F b∨b=D) W1:=⟨by rw[wC];rfl,by rw[wC];rfl,by rw[wC];rfl,by omega,fun _ h=>.inl h,fun b hb=>hold b (hs.hp.low b hb),fun b c _ fz hc=>⟨c,fz,(hold b (tT hc)).trans hc,rfl⟩,by rw[wC];exact aR _⟩
   obtain⟨oH,gP⟩:=go l (.mJ (j4 fn a.tmps ps gv body D .ready none) t) (fun e=>.mJ (j4 fn a.tmps ps gv body D .done (some (Be e))) t) (fun xs j9 R1 Om zQ=>X4 (by have:=hs.defers.low;omega) hs.size xV (hA l) (hb l) Om zQ)
   have NF:bf (fun b=>F b∨b=D) W1 ((l,[.mJ (j4 fn a.tmps ps gv body D .ready none) t])::σ):=by
    refine⟨?_,fun p hp=>?_,fun b hb=>?_⟩
    ·simp only[o0,lY]
     refine⟨fun hm=>?_,hs.hp.nodup⟩
     obtain⟨p,hp,e⟩:=dL.1 hm
     have:=(hs.hp.holds p hp).lt
     omega
    ·rcases dA.1 hp with rfl | hp
     ·exact⟨fun h=>h.elim (fun h=>by have:l<w.heap.size:=hs.hp.low l h;omega) (fun h=>by have:l=D:=h;omega),.inr (.inr ⟨_,t,rfl,hlW,fun i=>(hs.tm i).mono st1⟩)⟩
     ·have ab:=(hs.hp.holds p hp).lt
      exact (hs.hp.holds p hp).mono st1 (hold _ ab) (fun h=>h.elim (hs.hp.holds p hp).1 (fun e=>by omega))
    ·rcases hb with hb | hb
     ·have:=hs.hp.low b hb;omega
     ·omega
   have bN:ja (fun b=>F b∨b=D) W1 (.fn (.yield l) [] []::cap) (#[.func (.yield l) #[] #[]]++lb):=
    show ja _ _ ([.fn (.yield l) [] []]++cap) _ from Ga (Ri (.fn _ _ _ _ _ rfl rfl (fun i x h=>by simp at h) (fun i x h=>by simp at h))) (IH.mono st1)
   have kd:∀d∈a.defers,d≠{ target:=.collected D,args:= #[] }:=fun d hd e=>by
    obtain⟨D',q1,_,_,q4⟩:=hs.defers.is d hd
    rw[q1]at e
    cases e
    have:=tT q4
    omega
   refine⟨l,[{ target:=.collected D,args:= #[] }],W1,{ target:=.fn (.func gf) lb,args:= #[.func (.yield l) #[] #[]] },W1,gf,#[.func (.yield l) #[] #[]]++lb,W1,?_,?_,fun _ _=>trivial,?_,fun hd=>(by cases hd),?_⟩
   ·rw[wC,hle,hD];exact e1
   ·simp only[resolve,hv]
    simp[go_sem]
   ·have:=oH (#[.func (.yield l) #[] #[]]++lb) W1
    simpa [invoke]using this
   ·refine callsIn_wide.2 ((gP _ W1 _ bN NF).mono ?_)
    rintro e w3 ⟨rv,v,σ',F',rfl,pV,Et,_,hR⟩
    have NA:=st1.trans pV
    have fin:∀(L':Loop) (σ2:Hp),σ'=(l,[.mJ L' t])::σ2→L'.state≠.busy→∃w4,(Instr.endLoop l).run P w3=.ok L'.pending w4∧bB F w F' w4∧dw B n F' w4 t σ2 { a with defers:=[{ target:=.collected D,args:= #[] }]++a.defers }:=by
     intro L' σ2 e an
     subst e
     obtain⟨JF,r9,_⟩:=(Et.holds _ (bU ..)).V7
     have cf:=Et.nodup
     simp only[o0,lY]at cf
     have aQ:∀p∈σ2,p.1≠l:=fun p hp e=>cf.1 (dL.2 ⟨p,hp,e⟩)
     have nc:NC F' w3 F' (w3.putObj l (.loop { L' with state:=.exhausted })):=MK r9 fun _ _ h=>h
     have hDF:F' D:=pV.sub D (.inr rfl)
     have N6:bB F' w3 F' (w3.putObj l (.loop { L' with state:=.exhausted })):=⟨rfl,rfl,rfl,by rw[World.putObj_size];exact aR _,fun _ h=>h,fun b hb=>World.putObj_heap_other (fun e=>JF (e▸hb)),fun b c T fz hc=>⟨c,fz,Lz r9 b c T fz hc,rfl⟩,aR _⟩
     refine⟨_,run_endLoop r9 an,NA.trans N6,fun i=>((hs.tm i).mono NA).nc nc,?_,hs.size,?_⟩
     ·exact⟨cf.2,fun p hp=>(Et.holds p (cQ _ hp)).nc nc (World.putObj_heap_other (aQ p hp)) (Et.holds p (cQ _ hp)).1,fun b hb=>by rw[World.putObj_size];exact Et.low b hb⟩
     ·have hm:=hs.defers.mono (NA.trans N6)
      refine⟨hm.low,?_,fun d hd=>?_⟩
      ·simp only[FK,ye,lY]
       exact⟨fun h=>kd _ h rfl,hm.nodup⟩
      ·rcases dA.1 hd with rfl | hd
       ·exact⟨D,rfl,by have:=hs.defers.low;omega,hDF,(N6.fix D hDF).trans ((pV.fix D (.inr rfl)).trans hDW)⟩
       ·exact hm.is d hd
    rcases hR with ⟨σ2,e,hk⟩ | ⟨ex,σ2,aQ,e,hk⟩
    ·obtain⟨w4,k1,k2,k3⟩:=fin _ σ2 e (by simp[j4])
     exact⟨none,w4,k1,hq .normal σ2 F' w4 _ k2 k3 hk⟩
    ·obtain⟨w4,k1,k2,k3⟩:=fin _ σ2 e (by simp[j4])
     refine⟨some (Be ex),w4,k1,?_⟩
     have Ox:=hq ex σ2 F' w4 _ k2 k3 hk
     cases ex with
     |normal=>exact absurd rfl aQ
     |exit i=>exact wpIn_exit Ox
     |goto i=>exact wpIn_goto Ox
     |ret=>exact wpIn_ret Ox
  |_=>rw[hv]at Fi;cases Fi
theorem Yr(ok:dH P TT)(hm:P.follows .mixedOrders=true){B n:Nat}:∀(fuel:Nat) (c:Code) (t:Tm) (σ:Hp) (K:Ex→Tm→Hp→Prop) (F:Nat→Prop) (w:World) (a:Act) (Q:Exit→Act→World→Prop) (r:Option Nat),codeOk n r.isSome c=true→mL P TT fuel c t σ K→dw B n F w t σ a→
  (∀e t' σ' F' w' a',bB F w F' w'→dw B n F' w' t' σ' a'→K e t' σ'→Q e.up a' w')→c.wpIn (FW r) 0 P Q a w:=by
 intro fuel
 induction fuel with
 |zero=>intro c t σ K F w a Q r _ h;exact h.elim
 |succ fuel ih=>
  intro c t σ K F w a Q r hc h hs hq
  cases c with
  |skip=>exact wpIn_skip (hq .normal t σ F w a (.refl _ _) hs h)
  |label l=>exact wpIn_label (hq .normal t σ F w a (.refl _ _) hs h)
  |exit id=>exact wpIn_exit (hq (.exit id) t σ F w a (.refl _ _) hs h)
  |goto l=>exact wpIn_goto (hq (.goto l) t σ F w a (.refl _ _) hs h)
  |ret=>exact wpIn_ret (hq .ret t σ F w a (.refl _ _) hs h)
  |region id ops draw=>
   have hd:=ag5 (n:=n) (ops:=ops.toList) hc
   have cf:=agO (n:=n) (ops:=ops.toList) hc
   cases draw with
   |false=>exact X5 cf (KO ok ops.toList t σ _ F w a hd h hs (fun t' σ' F' w' a' h1 h2 h3=>hq .normal t' σ' F' w' a' h1 h2 h3))
   |true=>
    have h:gz P TT ops.toList (K .normal) t σ:=h
    exact Zh ok hm hd cf h hs (fun t' σ' F' w' a' h1 h2 h3=>hq .normal t' σ' F' w' a' h1 h2 h3)
  |seq x y=>
   simp only[codeOk,bL]at hc
   refine wpIn_seq (ih x t σ _ F w a _ r hc.1 h hs ?_)
   intro e t' σ' F' w' a' h1 h2 h3
   cases e with
   |normal=>exact ih y t' σ' K F' w' a' Q r hc.2 h3 h2 (fun e zF kr nZ mu PR k1 k2 k3=>hq e zF kr nZ mu PR (h1.trans k1) k2 k3)
   |exit id=>exact hq (.exit id) t' σ' F' w' a' h1 h2 h3
   |goto l=>exact hq (.goto l) t' σ' F' w' a' h1 h2 h3
   |ret=>exact hq .ret t' σ' F' w' a' h1 h2 h3
  |cond x y z=>
   simp only[codeOk,bL]at hc
   have h:(match ev t x with | .bool b=>(match b with | true=>mL P TT fuel y t σ K | false=>mL P TT fuel z t σ K) | _=>False):=h
   have hx:=hs.tm.eval x
   split at h
   ·rename_i b hb
    rw[hb]at hx
    refine wpIn_cond (t:=b) hx.rK ?_
    cases b with
    |true=>exact ih y t σ K F w a Q r hc.1 h hs hq
    |false=>exact ih z t σ K F w a Q r hc.2 h hs hq
   ·exact h.elim
  |block id c=>
   refine wpIn_block (ih c t σ _ F w a _ r hc h hs ?_)
   intro e t' σ' F' w' a' h1 h2 h3
   cases e with
   |normal=>exact hq .normal t' σ' F' w' a' h1 h2 h3
   |exit i=>
    show (if i=id then Q .normal a' w' else Q (.exit i) a' w')
    have h3:(match Nat.beq i id with | true=>K .normal t' σ' | false=>K (.exit i) t' σ'):=h3
    cases hb:Nat.beq i id with
    |true=>rw[hb]at h3;rw[ah (jF hb)];exact hq .normal t' σ' F' w' a' h1 h2 h3
    |false=>
     rw[hb]at h3
     rw[ag (fun e=>by subst e;rw[yb]at hb;cases hb)]
     exact hq (.exit i) t' σ' F' w' a' h1 h2 h3
   |goto l=>exact hq (.goto l) t' σ' F' w' a' h1 h2 h3
   |ret=>exact hq .ret t' σ' F' w' a' h1 h2 h3
  |loop c=>
   have h:mN (fun t σ Q=>mL P TT fuel c t σ Q) K t σ:=h
   exact Y2 (fun t σ K F w a Q h hs hq=>ih c t σ K F w a Q r hc h hs hq) h hs hq
  |scope c=>
   simp only[codeOk,bL,jl]at hc
   obtain⟨hr,hc⟩:=hc
   obtain rfl:r=none:=by cases r with | none=>rfl | some l=>cases hr
   refine wpIn_wide.2 (XF (wpIn_wide.1 (ih c t σ _ F w a _ none hc h hs ?_)))
   intro e t' σ' F' w' a' h1 h2 h3
   cases e with
   |normal=>exact .normal (hq .normal t' σ' F' w' a' h1 h2 h3)
   |exit i=>exact .exit (hq (.exit i) t' σ' F' w' a' h1 h2 h3)
   |ret=>exact .ret (hq .ret t' σ' F' w' a' h1 h2 h3)
   |goto l=>
    have h3:rN (fun l t σ Q=>match findLabel c l with | some r=>mL P TT fuel r t σ Q | none=>False) l K t' σ':=h3
    exact Y9 (fun l t σ K F w a Q h hs hq=>by
     have h:(match findLabel c l with | some r=>mL P TT fuel r t σ K | none=>False):=h
     split at h
     ·rename_i r hr
      exact⟨r,hr,wpIn_wide.1 (ih r t σ K F w a Q none (ac6 c l r hr hc) h hs hq)⟩
     ·exact h.elim) h3 h2 (fun e zF kr nZ mu PR k1 k2 k3 k4=>hq e zF kr nZ mu PR (h1.trans k1) k2 k3)
  |rangeFunc g ps gv body=>
   simp only[codeOk,bL,jl]at hc
   obtain⟨⟨⟨hr,xV⟩,lr⟩,lX⟩:=hc
   obtain rfl:r=none:=by cases r with | none=>rfl | some l=>cases hr
   have h:(match ev t g with | .fn (.func gf) [] cap=>A9 P gf cap ps.size (fun xs j9 R1=>mL P TT fuel gv (BM ps.toList xs t) j9 fun e t' σ'=>match e with | .normal=>mL P TT fuel body t' σ' (fun e _ kr=>R1 e kr) | _=>False) (fun e σ'=>K e t σ') σ | _=>False):=h
   split at h
   ·rename_i gf cap hg
    exact X8 hg xV (fun l t σ K F w a Q h hs hq=>ih gv t σ K F w a Q (some l) lr h hs hq) (fun l t σ K F w a Q h hs hq=>ih body t σ K F w a Q (some l) lX h hs hq) h hs (fun e σ' F' w' a' k1 k2 k3=>hq e t σ' F' w' a' k1 k2 k3)
   ·exact h.elim
  |refuse=>exact h.elim
inductive Fin(R:AV→Hp→Prop):AV→Hp→Prop where
 |done {r:AV} {σ:Hp} (h:R r σ):Fin R r σ
 |pull {r:AV} {σ:Hp} (js:List Nat) (h:Fin R r (oh js σ)):Fin R r σ
 |drop {r:AV} {σ:Hp} (k n:Nat) (h:Fin R r (σ.take k++σ.drop (k+n))):Fin R r σ
 |perm {r:AV} {σ σ2:Hp} (hp:σ2.Perm σ) (h:Fin R r σ2):Fin R r σ
 |cX {r r':AV} {σ:Hp} (j b off len es:Nat) (cs:List AV) (e:Sh) (l:List e.T) (h1:σ[j]?=some (b,cs)) (h2:(cs.drop off).take (len*es)=l.flatMap e.cells) (h3:l.length=len∧e.size=es∧0<es) (h4:eI b off len es e l r r') (h:Fin R r' (σ.eraseIdx j)):Fin R r σ
 |nil {r r':AV} {σ:Hp} (h4:eI 0 0 0 0 .bool [] r r') (h:Fin R r' σ):Fin R r σ
 |dN {r:AV} {σ σ2:Hp} (h1:jh σ σ2) (h:Fin R r σ2):Fin R r σ
 |j6 {r:AV} {σ:Hp} (j b off len es:Nat) (cs:List AV) (e:Sh) (l:List e.T) (h1:σ[j]?=some (b,cs)) (h2:(cs.drop off).take (len*es)=l.flatMap e.cells) (h3:l.length=len∧e.size=es∧0<es) (i k b':Nat) (cs':List AV) (hi:(σ.eraseIdx j)[i]?=some (b',cs')) (hk:cs'[k]?=some (.af b off len es)) (h:Fin R r ((σ.eraseIdx j).set i (b',cs'.set k (.ae e l)))):Fin R r σ
theorem RU{R:AV→Hp→Prop}{r:AV}{σ:Hp}(h:Fin R r σ):∀(F:Nat→Prop) (w:World) (v:Value),bf F w σ→aA F w r v→∃r' σ' F',bB F w F' w∧bf F' w σ'∧aA F' w r' v∧R r' σ':=by
 induction h with
 |done h=>exact fun F w v aE hv=>⟨_,_,F,.refl _ _,aE,hv,h⟩
 |pull js h ih=>exact fun F w v aE hv=>ih F w v (aE.perm (yB js _)) hv
 |perm hp h ih=>exact fun F w v aE hv=>ih F w v (aE.perm hp) hv
 | @drop r σ k n h ih=>
  intro F w v aE hv
  refine ih F w v (aE.sub ?_) hv
  have h1:(σ.drop (k+n)).Sublist (σ.drop k):=by
   rw[← FF]
   exact List.drop_sublist _ _
  have h2:=(List.Sublist.refl (σ.take k)).append h1
  rwa [zZ]at h2
 | @cX r r' σ j b off len es cs e l h1 h2 h3 h4 h ih=>
  intro F w v aE hv
  obtain⟨an,oE,hh⟩:=vd aE h1 h2 h3
  obtain⟨N8,kr,nZ,k1,k2,k3,k4⟩:=ih _ w v oE (yv an hh h4 v hv)
  exact⟨N8,kr,nZ,an.trans k1,k2,k3,k4⟩
 |dN h1 h ih=>exact fun F w v aE hv=>ih F w v (aE.dN h1) hv
 |j6 j b off len es cs e l h1 h2 h3 i k b' cs' hi hk h ih=>
  intro F w v aE hv
  obtain⟨an,oE,hh⟩:=vd aE h1 h2 h3
  obtain⟨N8,kr,nZ,k1,k2,k3,k4⟩:=ih _ w v (Dc oE hh hi hk) (hv.mono an)
  exact⟨N8,kr,nZ,an.trans k1,k2,k3,k4⟩
 |nil h4 h ih=>
  intro F w v aE hv
  refine ih F w v aE (yv (.refl _ _) (fun v hv=>?_) h4 v hv)
  obtain⟨a,cap,rfl,c,T,fz,m1,m2,m3,m4⟩:=hv.kV
  exact .ae _ _ _ ⟨some a,cap,rfl,m2,m3,(fun e=>by cases e),fun aQ=>absurd rfl aQ⟩
def t0(xs:List AV):Tm:=fun i=>match xs[i]? with | some x=>x | none=>.any
def Iw:List AV→AV
 | [v]=>v
 |vs=>.tup vs
def Ei(TT:TypeId→Option TI)(l:List ResultVar):Tm→Hp→(List AV→Prop)→Prop:=
 List.rec (motive:=fun _=>Tm→Hp→(List AV→Prop)→Prop) (fun _ _ K=>K [])
  (fun x _ ih t σ K=>match x with
   |.tmp d=>strict (t d) fun v=>ih t σ fun vs=>K (bP v::vs)
   |.cell d ty=>match TT ty with | some i=>qw i (t d) σ fun v=>ih t σ fun vs=>K (v::vs) | none=>False) l
def vu(TT:TypeId→Option TI)(rs:List ResultVar)(R:AV→Hp→Prop)(e:Ex)(t:Tm)(σ:Hp):Prop:=
 match e with
 |.normal | .ret=>Ei TT rs t σ fun vs=>Fin R (Iw vs) σ
 |_=>False
def tS(P:Program)(TT:TypeId→Option TI)(fn:Func)(xs:List AV)(σ:Hp)(R:AV→Hp→Prop):Prop:=
 match fn.body with
 |some c=>mL P TT 1000 c (t0 xs) σ (vu TT fn.results.toList R)
 |none=>False
def funcOk (fn : Func) : Bool := (match fn.body with | some c => codeOk fn.ntmps false c | none => false) && !(fn.name == "runtime.NumGoroutine")
theorem enters_of{f:FuncId}{fn:Func}(hf:P.funcs[f]?=some fn)(h:funcOk fn=true):Enters P f:=by
 unfold funcOk at h
 simp only[bL,jl]at h
 obtain⟨h1,h2⟩:=h
 have hb:fn.body.isNone=false:=by
  cases hb:fn.body with
  |none=>rw[hb]at h1;cases h1
  |some c=>rfl
 intro args w
 unfold callFunc
 simp only[Sem.run_bind,run_program,Result.andThen_ok,hf,h2,hb]
 rfl
theorem Yc(ok:dH P TT){ty:TypeId}{i:TI}(hi:TT ty=some i){x:AV}{σ:Hp}{K:AV→Prop}(h:qw i x σ K):∃v,K v∧∀(F:Nat→Prop) (w:World) (u:Value),aA F w x u→bf F w σ→∃v',(do loadVar ty (← asAddr u):Sem Value).run P w=.ok v' w∧aA F w v v':=by
 unfold qw at h
 split at h
 ·split at h
  ·rename_i v hv
   refine⟨v,h,fun F w u hu aE =>?_⟩
   obtain⟨b,o',rfl,hF,dV⟩:=hu.yP
   obtain⟨v',h1,h2⟩:=Gl ok hi dV hv
   rw[wE]at h1
   exact⟨v',by simp[asAddr,h1],h2⟩
  ·exact h.elim
 ·obtain⟨j,cs,v,h1,h2,go⟩:=h
  refine⟨v,go,fun F w u hu aE =>?_⟩
  have OQ:=hu.As
  obtain rfl:=hu.zk
  obtain⟨v',h3,h4⟩:=Gl ok hi (aE.at_ h1 OQ) h2
  rw[dM]at h3
  exact⟨v',by simp[asAddr,h3],h4⟩
 ·exact h.elim
def HF(tmps:Array Value):ResultVar→Sem Value
 |.tmp t=>pure (tmps.getD t undef)
 |.cell d t=>do loadVar t (← asAddr (tmps.getD d undef))
theorem adK{F:Nat→Prop}{w:World}:∀(vs:List AV) (us:List Value),vs.length=us.length→(∀(i:Nat) (x:AV),vs[i]?=some x→aA F w x (us.getD i undef))→aA F w (Iw vs) (if h:us.toArray.size=1 then us.toArray[0] else .tuple us.toArray)
 | [v],[u],_,h=>by simpa [Iw]using h 0 v rfl
 | [],[],_,_=>.tup _ _ rfl (fun i x h=>by simp at h)
 |v::v2::vs,u::u2::us,hl,h=>by
  rw[dif_neg (by simp)]
  refine .tup _ _ (by simpa using hl) (fun i x hx=>?_)
  have:=h i x hx
  rw[aW]at this
  rw[gW,zY]
  exact this
 | [],_::_,hl,_=>by simp at hl
 |_::_,[],hl,_=>by simp at hl
 | [_],_::_::_,hl,_=>by simp at hl
 |_::_::_,[_],hl,_=>by simp at hl
theorem KL(ok:dH P TT):∀(rs:List ResultVar) (t:Tm) (σ:Hp) (K:List AV→Prop),Ei TT rs t σ K→∀(F:Nat→Prop) (w:World) (a:Act),uc F w t a→bf F w σ→
  ∃vs us,K vs∧(rs.mapM (HF a.tmps)).run P w=.ok us w∧vs.length=us.length∧∀(i:Nat) (x:AV),vs[i]?=some x→aA F w x (us.getD i undef)
 | [],t,σ,K,h,F,w,a,_,_=>⟨[],[],h,rfl,rfl,fun i x h=>by simp at h⟩
 |.tmp d::rs,t,σ,K,h,F,w,a,ht,aE=>by
  have h:strict (t d) fun v=>Ei TT rs t σ fun vs=>K (bP v::vs):=h
  rw[yG]at h
  obtain⟨vs,us,h1,h2,h3,h4⟩:=KL ok rs t σ _ h F w a ht aE
  refine⟨_,a.tmps.getD d undef::us,h1,?_,by simp[h3],fun i x hi=>?_⟩
  ·rw[List.mapM_cons]
   simp only[HF,Sem.run_bind,Sem.run_pure,Result.andThen_ok,h2]
  ·cases i with
   |zero=>simp at hi;subst hi;exact (ht d).bP
   |succ i=>simpa using h4 i x (by simpa using hi)
 |.cell d ty::rs,t,σ,K,h,F,w,a,ht,aE=>by
  have h:(match TT ty with | some i=>qw i (t d) σ fun v=>Ei TT rs t σ fun vs=>K (v::vs) | none=>False):=h
  split at h
  ·rename_i i hi
   obtain⟨v,h,hv⟩:=Yc ok hi h
   obtain⟨v',k1,k2⟩:=hv F w _ (ht d) aE
   obtain⟨vs,us,h1,h2,h3,h4⟩:=KL ok rs t σ _ h F w a ht aE
   refine⟨_,v'::us,h1,?_,by simp[h3],fun i x hi=>?_⟩
   ·have k1':(HF a.tmps (.cell d ty)).run P w=.ok v' w:=k1
    rw[List.mapM_cons]
    simp only[Sem.run_bind,k1',Sem.run_pure,Result.andThen_ok,h2]
   ·cases i with
    |zero=>simp at hi;subst hi;exact k2
    |succ i=>simpa using h4 i x (by simpa using hi)
  ·exact h.elim
def shut(w:World)(ds:List Deferred):World:=ds.foldl (fun w d=>match d.target with | .collected D=>w.putObj D (.deferred none) | _=>w) w
def A1(D:Nat)(ds:List Deferred):Prop:=({ target:=.collected D,args:= #[] }:Deferred)∈ds
theorem YP{ds:List Deferred}:∀{w:World},(∀d∈ds,∃D,d = { target:=.collected D,args:= #[] })→∀b,¬A1 b ds→(shut w ds).heap[b]?=w.heap[b]?:=by
 induction ds with
 |nil=>exact fun _ _ _=>rfl
 |cons d ds ih=>
  intro w hd b hb
  obtain⟨D,rfl⟩:=hd d (bU ..)
  have hbD:b≠D:=fun e=>hb (by subst e;exact bU ..)
  exact (ih (w:=w.putObj D (.deferred none)) (fun d h=>hd d (cQ _ h)) b (fun h=>hb (cQ _ h))).trans (World.putObj_heap_other hbD)
theorem ZQ{ds:List Deferred}:∀{w:World},(shut w ds).os=w.os∧(shut w ds).tape=w.tape∧(shut w ds).output=w.output∧(shut w ds).heap.size=w.heap.size∧(shut w ds).drawn=w.drawn:=by
 induction ds with
 |nil=>exact fun {w}=>⟨rfl,rfl,rfl,rfl,rfl⟩
 |cons d ds ih=>
  intro w
  obtain⟨t,gv⟩:=d
  cases t with
  |collected D=>
   obtain⟨h1,h2,h3,h4,h5⟩:=ih (w:=w.putObj D (.deferred none))
   exact⟨h1,h2,h3,h4.trans World.putObj_size,h5⟩
  |_=>exact ih
theorem P7{fn:Func}{tm:Array Value}{R:Ending→World→Prop}:∀(ds:List Deferred) (w:World),ds.Nodup→(∀d∈ds,∃D,d = { target:=.collected D,args:= #[] }∧w.heap[D]?=some (.deferred (some [])))→
  (∃v,(results fn tm).run P (shut w ds)=.ok v (shut w ds)∧R (.returned v) (shut w ds))→LeavesInM Fence.wide 0 P fn tm R ds .returning w
 | [],_,_,_,h=>h
 |d::ds,w,cf,hd,h=>by
  obtain⟨D,rfl,hw⟩:=hd d (bU ..)
  obtain⟨xX,oU⟩:=lY.1 cf
  refine⟨by simp,.inl ⟨D,_,rfl,run_takeDeferred hw,P7 ds _ oU (fun d hm=>?_) h⟩⟩
  obtain⟨D',rfl,hw'⟩:=hd d (cQ _ hm)
  exact⟨D',rfl,(World.putObj_heap_other (fun e=>xX (by subst e;exact hm))).trans hw'⟩
theorem aaR(ok:dH P TT)(hm:P.follows .mixedOrders=true){f:FuncId}{fn:Func}{xs:List AV}{σ:Hp}{R:AV→Hp→Prop}(hf:P.funcs[f]?=some fn)(cd:funcOk fn=true)(h:tS P TT fn xs σ R):ACalls P f xs σ R:=by
 refine⟨enters_of hf cd,fun F w vs bN aE =>?_⟩
 unfold funcOk at cd
 simp only[bL]at cd
 unfold tS at h
 cases hb:fn.body with
 |none=>rw[hb]at h;exact h.elim
 |some c=>
  rw[hb]at h
  have hc:codeOk fn.ntmps false c=true:=by have:=cd.1;rw[hb]at this;exact this
  refine callsIn_wide.1 (callsIn_of_wp_marks (n:=0) hf hb trivial (Yr (B:=w.heap.size) ok hm 1000 c (t0 xs) σ _ F w _ _ none hc h ⟨fun i=>?_,aE,by simp;omega,⟨Nat.le_refl _,.nil,fun d hd=>by cases hd⟩⟩ ?_))
  ·show aA F w (match xs[i]? with | some x=>x | none=>.any) ((vs++Array.replicate (fn.ntmps-vs.size) undef).getD i undef)
   cases hi:xs[i]? with
   |none=>exact .any _
   |some x=>
    have ab:i<vs.size:=by rw[← bN.1];exact (ck.1 hi).1
    have:=bN.2 i x hi
    rw[gW]at this ⊢
    rw[Km ab]
    exact this
  ·intro e t' σ' F' w' a' h1 h2 h3
   have fin:Ei TT fn.results.toList t' σ' (fun vs=>Fin R (Iw vs) σ')→LeavesInM Fence.wide 0 P fn a'.tmps (fun e w'=>∃r v σ' F',e=.returned v∧bB F w F' w'∧bf F' w' σ'∧aA F' w' r v∧R r σ') a'.defers .returning w':=by
    intro h3
    have hmk:∀d∈a'.defers,∃D,d = { target:=.collected D,args:= #[] }:=fun d hd=>(h2.defers.is d hd).imp fun _ h=>h.1
    refine P7 a'.defers w' h2.defers.nodup (fun d hd=>(h2.defers.is d hd).imp fun _ h=>⟨h.1,h.2.2.2⟩) ?_
    have hD:∀b,A1 b a'.defers→w.heap.size≤b∧F' b∧w'.heap[b]?=some (.deferred (some [])):=fun b hb=>by
     obtain⟨D,q1,q2,q3,q4⟩:=h2.defers.is _ hb
     cases q1
     exact⟨q2,q3,q4⟩
    have Ev:=YP (w:=w') hmk
    obtain⟨z1,z2,z3,z4,z5⟩:=ZQ (w:=w') (ds:=a'.defers)
    obtain⟨w2,we⟩:∃w2,w2=shut w' a'.defers:=⟨_,rfl⟩
    rw[← we]at Ev z1 z2 z3 z4 z5 ⊢
    have lI:∀b,ob w' b→¬A1 b a'.defers:=fun b ⟨c,T,fz,hc⟩ hb=>by
     rw[(hD b hb).2.2]at hc;cases hc
    have nc:NC F' w' (fun b=>F' b∧¬A1 b a'.defers) w2:=⟨fun b hb=>⟨hb.1,lI b hb.2⟩,fun b hb=>Ev b (lI b hb)⟩
    have st2:bB F w (fun b=>F' b∧¬A1 b a'.defers) w2:= {
     os:=z1.trans h1.os
     tape:=z2.trans h1.tape
     output:=z3.trans h1.output
     size:=by rw[z4];exact h1.size
     sub:=fun b hF=>⟨h1.sub b hF,fun hb=>by have:=(hD b hb).1;have:=aE.low b hF;omega⟩
     fix:=fun b hF=>by
      rw[Ev b (fun hb=>by have:=(hD b hb).1;have:=aE.low b hF;omega)]
      exact h1.fix b hF
     rows:=fun b c T fz hc=>by
      obtain⟨c',si,q1,q2⟩:=h1.rows b c T fz hc
      exact⟨c',si,(Ev b (lI b ⟨c',T,si,q1⟩)).trans q1,q2⟩
     drawn:=by rw[z5];exact h1.drawn }
    have WG:bf (fun b=>F' b∧¬A1 b a'.defers) w2 σ':=h2.hp.nc nc (fun p hp=>⟨Ev p.1 (fun hb=>(h2.hp.holds p hp).1 (hD p.1 hb).2.1),fun h=>(h2.hp.holds p hp).1 h.1⟩) (fun b hb=>by rw[z4];exact h2.hp.low b hb.1)
    obtain⟨eE,us,k1,k2,k3,k4⟩:=KL ok _ _ _ _ h3 _ w2 a' (fun i=>(h2.tm i).nc nc) WG
    have ahT:(results fn a'.tmps).run P w2=.ok (if h:us.toArray.size=1 then us.toArray[0] else .tuple us.toArray) w2:=by
     rw[show results fn a'.tmps=(do let vs ← fn.results.mapM (HF a'.tmps);pure (if h:vs.size=1 then vs[0] else .tuple vs)) from rfl]
     rw[Sem.run_bind,Array.mapM_eq_mapM_toList]
     simp only[Sem.run_map,k2,Result.andThen_ok]
     rfl
    have ahV:=adK eE us k3 k4
    obtain⟨r',kr,nZ,q1,q2,q3,q4⟩:=RU k1 _ w2 _ WG ahV
    exact⟨_,ahT,r',_,kr,nZ,rfl,st2.trans q1,q2,q3,q4⟩
   cases e with
   |normal=>exact fin h3
   |ret=>exact fin h3
   |exit i=>exact h3.elim
   |goto l=>exact h3.elim
theorem ACalls.mono{f:FuncId}{xs:List AV}{σ:Hp}{R R':AV→Hp→Prop}(h:ACalls P f xs σ R)(hr:∀r σ',R r σ'→R' r σ'):ACalls P f xs σ R':=
 ⟨h.1,fun F w vs hv aE=>(h.2 F w vs hv aE).mono fun _ _ ⟨r,v,σ',F',h1,h2,h3,h4,h5⟩=>⟨r,v,σ',F',h1,h2,h3,h4,hr _ _ h5⟩⟩
theorem ACalls.fin{f:FuncId}{xs:List AV}{σ:Hp}{R R':AV→Hp→Prop}(h:ACalls P f xs σ R)(hr:∀r σ',R r σ'→Fin R' r σ'):ACalls P f xs σ R':=
 ⟨h.1,fun F w vs hv aE=>(h.2 F w vs hv aE).mono fun _ _ ⟨r,v,σ',F',h1,h2,h3,h4,h5⟩=>by
  obtain⟨r',kr,nZ,q1,q2,q3,q4⟩:=RU (hr _ _ h5) F' _ v h3 h4
  exact⟨r',v,kr,nZ,h1,h2.trans q1,q2,q3,q4⟩⟩
def Sh.pos:Sh→Bool
 |.slice e=>decide (0<e.size)&&e.pos
 |.field f r=>f.pos&&r.pos
 |_=>true
theorem RQ{w:World}:∀(s:Sh) (cs:List Value) (d:s.T),s.pos=true→Reads w s cs d→kT (fun b=>b<w.heap.size) w s cs d:=by
 intro s
 induction s with
 |int k=>exact fun _ _ _ h=>h.1
 |bool=>exact fun _ _ _ h=>h
 |str=>exact fun _ _ _ h=>h.1
 |nil=>exact fun _ _ _ h=>h
 |slice e ih=>
  rintro cs l hp ⟨a,c,h1,h2,h3,h0,h4⟩
  simp only[Sh.pos,bL,decide_eq_true_eq]at hp
  refine⟨a,c,h1,h2,h3,h0,fun aQ=>?_⟩
  obtain⟨b,o,rfl,hi⟩:=h4 aQ
  have ua:0<l.length:=mB.2 aQ
  refine⟨b,o,rfl,?_,fun i h=>?_⟩
  ·obtain⟨cs',q1,q2,q3⟩:=hi 0 ua
   cases cs' with
   |nil=>simp at q1;omega
   |cons u cs'=>
    have lI:=q2 0 u rfl
    unfold World.cell? at lI
    cases ho:w.heap[b]? with
    |none=>simp[ho]at lI
    |some x=>
     cases x with
     |cells c T fz=>exact⟨tT ho,c,T,fz,ho⟩
     |_=>simp[ho]at lI
  ·obtain⟨cs',q1,q2,q3⟩:=hi i h
   exact⟨cs',q1,q2,ih _ _ hp.2 q3⟩
 |field f r qP jP=>
  rintro cs d hp ⟨c1,c2,h1,h2,h3,h4⟩
  simp only[Sh.pos,bL]at hp
  exact⟨c1,c2,h1,h2,qP _ _ hp.1 h3,jP _ _ hp.2 h4⟩
theorem afT{f:FuncId}{xs:List AV}(h:ACalls P f xs [] (fun r _=>r=.bool true)){w:World}{vs:Array Value}(hv:ja (fun b=>b<w.heap.size) w xs vs):
  Calls P f vs w fun e w'=>e=.returned (.bool true)∧Below w.heap.size w w':=by
 refine (h.2 _ w vs hv ⟨by simp,(fun p hp=>by cases hp),fun _ h=>h⟩).mono ?_
 rintro e w' ⟨r,v,σ',F',rfl,h1,h2,h3,rfl⟩
 rw[h3.rK]
 exact⟨rfl,h1.os,h1.tape,h1.output,h1.size,fun k hk=>h1.fix k hk⟩
end
end Go.Proofs.YtnikdflhefijbaaGreat
namespace Go.Proofs.YtnikdflhefijbaaGreat
abbrev ay:AV:=.int .i64 0
abbrev aC:Option TI:=some ⟨.func,1,8,[.iH]⟩
abbrev iI(n:Nat):Option TI:=some ⟨.ptr n,1,8,[.cU]⟩
abbrev ov(n:Nat):Option TI:=some ⟨.slice n,1,24,[.ai]⟩
abbrev It:Option TI:=some ⟨.int .i64,1,8,[.int .i64 0]⟩
def tbl:List (List (Option TI)):=[
 [none,aC,It,It,some ⟨.bool,1,1,[.bool false]⟩,some ⟨.int .u8,1,1,[.int .u8 0]⟩,some ⟨.int .u8,1,1,[.int .u8 0]⟩,some ⟨.bc [(0,2),(1,3),(2,4),(3,6)],4,24,[ay,ay,.bool false,.int .u8 0]⟩,some ⟨.bc [(0,2),(1,3),(2,4),(3,6)],4,24,[ay,ay,.bool false,.int .u8 0]⟩,some ⟨.str,1,16,[.str ByteArray.empty]⟩,some ⟨.str,1,16,[.str ByteArray.empty]⟩,some ⟨.str,1,16,[.str ByteArray.empty]⟩,some ⟨.int .u64,1,8,[.int .u64 0]⟩,some ⟨.bc [(0,9),(1,12)],2,24,[.str ByteArray.empty,.int .u64 0]⟩,some ⟨.bc [(0,9),(1,12)],2,24,[.str ByteArray.empty,.int .u64 0]⟩,iI 386],[iI 389,iI 397,some ⟨.bc [(0,17)],1,8,[.cU]⟩,some ⟨.bc [(0,17)],1,8,[.cU]⟩,some ⟨.iface,1,16,[.nilif]⟩,some ⟨.int .i32,1,4,[.int .i32 0]⟩,ov 227,ov 3,ov 56,ov 93,some ⟨.bc [(0,3),(1,3),(2,3),(3,22),(4,23),(5,24),(6,25)],7,120,[ay,ay,ay,.ai,.ai,.ai,.ai]⟩,some ⟨.bc [(0,3),(1,3),(2,3),(3,22),(4,23),(5,24),(6,25)],7,120,[ay,ay,ay,.ai,.ai,.ai,.ai]⟩,ov 121,aC,aC,ov 24],[some ⟨.bc [(0,31),(1,3),(2,3),(3,3)],4,48,[.ai,ay,ay,ay]⟩,some ⟨.bc [(0,31),(1,3),(2,3),(3,3)],4,48,[.ai,ay,ay,ay]⟩,It,none,aC,ov 4,some ⟨.bc [(0,31),(1,37),(2,3),(3,3),(4,3),(5,3),(6,23),(7,23),(8,37)],9,152,[.ai,.ai,ay,ay,ay,ay,.ai,.ai,.ai]⟩,some ⟨.bc [(0,31),(1,37),(2,3),(3,3),(4,3),(5,3),(6,23),(7,23),(8,37)],9,152,[.ai,.ai,ay,ay,ay,ay,.ai,.ai,.ai]⟩,none,aC,some ⟨.bc [(0,3),(1,3),(2,3),(3,3)],4,32,[ay,ay,ay,ay]⟩,some ⟨.bc [(0,3),(1,3),(2,3),(3,3)],4,32,[ay,ay,ay,ay]⟩,none,aC,iI 58,ov 123],[none,aC,none,aC,none,aC,aC,aC,some ⟨.int .u64,1,8,[.int .u64 0]⟩,some ⟨.bc [(0,24)],1,24,[.ai]⟩,some ⟨.bc [(0,24)],1,24,[.ai]⟩,aC,aC,aC,some ⟨.int .u16,1,2,[.int .u16 0]⟩,aC],[aC,aC,aC,aC,aC,aC,aC,none,aC,aC,aC,none,aC,ov 84,none,aC],[none,aC,aC,some ⟨.bc [(0,3),(1,3),(2,56),(3,56),(4,56),(5,4)],6,48,[ay,ay,.int .u64 0,.int .u64 0,.int .u64 0,.bool false]⟩,some ⟨.bc [(0,3),(1,3),(2,56),(3,56),(4,56),(5,4)],6,48,[ay,ay,.int .u64 0,.int .u64 0,.int .u64 0,.bool false]⟩,some ⟨.bc [(0,3),(1,3),(2,3),(3,3)],4,32,[ay,ay,ay,ay]⟩,none,aC,aC,aC,aC,ov 233,some ⟨.bc [(0,24),(1,24),(2,91)],3,72,[.ai,.ai,.ai]⟩,some ⟨.bc [(0,24),(1,24),(2,91)],3,72,[.ai,.ai,.ai]⟩,iI 217,ov 168],[some ⟨.bc [(0,23),(1,37),(2,3)],3,56,[.ai,.ai,ay]⟩,some ⟨.bc [(0,23),(1,37),(2,3)],3,56,[.ai,.ai,ay]⟩,some ⟨.bc [(0,94),(1,85),(5,95),(6,97)],9,120,[.cU,ay,ay,ay,ay,.ai,.ai,.ai,ay]⟩,some ⟨.bc [(0,94),(1,85),(5,95),(6,97)],9,120,[.cU,ay,ay,ay,ay,.ai,.ai,.ai,ay]⟩,none,aC,aC,aC,aC,some ⟨.bc [(0,3),(1,3)],2,16,[ay,ay]⟩,some ⟨.bc [(0,3),(1,3)],2,16,[ay,ay]⟩,aC,aC,aC,aC,aC],[aC,some ⟨.bc [(0,3),(1,3)],2,16,[ay,ay]⟩,some ⟨.bc [(0,3),(1,3)],2,16,[ay,ay]⟩,aC,aC,aC,aC,aC,some ⟨.bc [(0,3),(1,3)],2,16,[ay,ay]⟩,some ⟨.bc [(0,3),(1,3)],2,16,[ay,ay]⟩,aC,iI 129,aC,iI 238,iI 245,iI 242],[some ⟨.bc [(0,27),(7,43),(11,3),(12,3),(13,3),(14,4),(15,23),(16,24),(17,125),(18,126),(19,127),(20,24),(21,3),(22,3),(23,4)],24,304,[ay,ay,ay,.ai,.ai,.ai,.ai,ay,ay,ay,ay,ay,ay,ay,.bool false,.ai,.ai,.cU,.cU,.cU,.ai,ay,ay,.bool false]⟩,some ⟨.bc [(0,27),(7,43),(11,3),(12,3),(13,3),(14,4),(15,23),(16,24),(17,125),(18,126),(19,127),(20,24),(21,3),(22,3),(23,4)],24,304,[ay,ay,ay,.ai,.ai,.ai,.ai,ay,ay,ay,ay,ay,ay,ay,.bool false,.ai,.ai,.cU,.cU,.cU,.ai,ay,ay,.bool false]⟩,aC,aC,aC,none,aC,aC,aC,aC,aC,aC,aC,iI 165,some ⟨.bc [(0,141)],1,8,[.cU]⟩,some ⟨.bc [(0,141)],1,8,[.cU]⟩],[none,aC,aC,aC,aC,aC,ov 23,aC,aC,aC,aC,aC,aC,aC,aC,aC],[some ⟨.iface,1,16,[.nilif]⟩,some ⟨.iface,1,16,[.nilif]⟩,some ⟨.bc [(0,161)],1,16,[.nilif]⟩,some ⟨.bc [(0,161)],1,16,[.nilif]⟩,some ⟨.bc [(0,163),(1,77)],2,40,[.nilif,.ai]⟩,some ⟨.bc [(0,163),(1,77)],2,40,[.nilif,.ai]⟩,aC,aC,iI 186,none,aC,aC,aC,ov 176,aC,some ⟨.iface,1,16,[.nilif]⟩],[some ⟨.iface,1,16,[.nilif]⟩,aC,aC,some ⟨.bc [(0,3),(1,3),(2,3)],3,24,[ay,ay,ay]⟩,some ⟨.bc [(0,3),(1,3),(2,3)],3,24,[ay,ay,ay]⟩,aC,aC,aC,some ⟨.iface,1,16,[.nilif]⟩,some ⟨.bc [(0,3),(1,3),(2,4),(3,27),(10,85),(14,3),(15,3),(16,184),(17,3),(18,4),(19,23),(20,24),(21,4)],22,280,[ay,ay,.bool false,ay,ay,ay,.ai,.ai,.ai,.ai,ay,ay,ay,ay,ay,ay,.nilif,ay,.bool false,.ai,.ai,.bool false]⟩,some ⟨.bc [(0,3),(1,3),(2,4),(3,27),(10,85),(14,3),(15,3),(16,184),(17,3),(18,4),(19,23),(20,24),(21,4)],22,280,[ay,ay,.bool false,ay,ay,ay,.ai,.ai,.ai,.ai,ay,ay,ay,ay,ay,ay,.nilif,ay,.bool false,.ai,.ai,.bool false]⟩,aC,aC,aC,aC,aC],[aC,none,aC,some ⟨.bc [(0,3),(1,3),(2,56),(3,56)],4,32,[ay,ay,.int .u64 0,.int .u64 0]⟩,some ⟨.bc [(0,3),(1,3),(2,56),(3,56)],4,32,[ay,ay,.int .u64 0,.int .u64 0]⟩,aC,aC,aC,aC,aC,aC,aC,none,aC,aC,aC],[aC,aC,aC,aC,aC,some ⟨.bc [(0,3)],1,8,[ay]⟩,some ⟨.bc [(0,3)],1,8,[ay]⟩,aC,some ⟨.bc [(0,214),(1,24)],2,32,[ay,.ai]⟩,some ⟨.bc [(0,214),(1,24)],2,32,[ay,.ai]⟩,aC,none,aC,aC,none,aC],[aC,aC,some ⟨.bc [(0,3),(1,3)],2,16,[ay,ay]⟩,some ⟨.bc [(0,3),(1,3)],2,16,[ay,ay]⟩,some ⟨.bc [(0,3),(1,3)],2,16,[ay,ay]⟩,some ⟨.bc [(0,3),(1,3)],2,16,[ay,ay]⟩,some ⟨.bc [(0,3),(1,229)],3,24,[ay,ay,ay]⟩,some ⟨.bc [(0,3),(1,229)],3,24,[ay,ay,ay]⟩,some ⟨.bc [(0,3),(1,3),(2,231),(5,231)],8,64,[ay,ay,ay,ay,ay,ay,ay,ay]⟩,some ⟨.bc [(0,3),(1,3),(2,231),(5,231)],8,64,[ay,ay,ay,ay,ay,ay,ay,ay]⟩,aC,aC,aC,some ⟨.bc [(0,3),(1,3),(2,3),(3,56),(4,4),(5,4),(6,3),(7,56),(8,56),(9,56)],10,72,[ay,ay,ay,.int .u64 0,.bool false,.bool false,ay,.int .u64 0,.int .u64 0,.int .u64 0]⟩,some ⟨.bc [(0,3),(1,3),(2,3),(3,56),(4,4),(5,4),(6,3),(7,56),(8,56),(9,56)],10,72,[ay,ay,ay,.int .u64 0,.bool false,.bool false,ay,.int .u64 0,.int .u64 0,.int .u64 0]⟩,aC],[aC,some ⟨.bc [(0,3),(1,3),(2,3),(3,24),(4,3),(5,4),(6,56),(7,4),(8,4),(9,3)],10,88,[ay,ay,ay,.ai,ay,.bool false,.int .u64 0,.bool false,.bool false,ay]⟩,some ⟨.bc [(0,3),(1,3),(2,3),(3,24),(4,3),(5,4),(6,56),(7,4),(8,4),(9,3)],10,88,[ay,ay,ay,.ai,ay,.bool false,.int .u64 0,.bool false,.bool false,ay]⟩,aC,some ⟨.bc [(0,3),(1,3),(2,3),(3,3),(4,3),(5,4),(6,4),(7,4),(8,3)],9,56,[ay,ay,ay,ay,ay,.bool false,.bool false,.bool false,ay]⟩,some ⟨.bc [(0,3),(1,3),(2,3),(3,3),(4,3),(5,4),(6,4),(7,4),(8,3)],9,56,[ay,ay,ay,ay,ay,.bool false,.bool false,.bool false,ay]⟩,aC,none,aC,aC,aC,aC,aC,some ⟨.int .u64,1,8,[.int .u64 0]⟩,none,aC],[aC,aC,aC,aC,aC,aC,aC,aC,aC,aC,aC,aC,aC,none,aC,aC],[aC,aC,aC,aC,aC,aC,aC,aC,aC,aC,aC,aC,some ⟨.int .u32,1,4,[.int .u32 0]⟩,none,aC,none],[aC,none,aC,aC,aC,aC,aC,aC,aC,aC,aC,aC,aC,aC,aC,aC],[aC,aC,aC,It,none,aC,aC,aC,none,aC,aC,aC,aC,aC,aC,aC],[aC,aC,aC,aC,aC,some ⟨.bc [(0,150),(1,23),(2,23),(3,37),(4,23),(5,3),(6,150)],7,152,[.ai,.ai,.ai,.ai,.ai,ay,.ai]⟩,some ⟨.bc [(0,150),(1,23),(2,23),(3,37),(4,23),(5,3),(6,150)],7,152,[.ai,.ai,.ai,.ai,.ai,ay,.ai]⟩,aC,aC,aC,aC,some ⟨.int .u64,1,8,[.int .u64 0]⟩,aC,aC,aC,iI 3],[aC,aC,aC,aC,aC,aC,iI 326,some ⟨.bc [(0,3),(1,3)],2,16,[ay,ay]⟩,some ⟨.bc [(0,3),(1,3)],2,16,[ay,ay]⟩,aC,ov 344,iI 344,aC,aC,aC,aC],[aC,iI 331,aC,aC,aC,aC,ov 360,some ⟨.bc [(0,3),(1,3)],2,16,[ay,ay]⟩,some ⟨.bc [(0,3),(1,3)],2,16,[ay,ay]⟩,iI 360,aC,aC,aC,aC,none,aC],[aC,aC,aC,aC,aC,aC,aC,aC,aC,aC,aC,aC,some ⟨.fR,1,16,[.fR 0 0]⟩,aC,some ⟨.gr,1,8,[.gr 0]⟩,aC],[aC,some ⟨.bc [(0,17),(1,17),(2,17),(3,9)],4,40,[.cU,.cU,.cU,.str ByteArray.empty]⟩,some ⟨.bc [(0,17),(1,17),(2,17),(3,9)],4,40,[.cU,.cU,.cU,.str ByteArray.empty]⟩,some ⟨.arr 0 16,0,0,[]⟩,some ⟨.bc [(0,387)],0,0,[]⟩,some ⟨.bc [(0,387)],0,0,[]⟩,some ⟨.int .u8,1,1,[.int .u8 0]⟩,some ⟨.int .u8,1,1,[.int .u8 0]⟩,aC,iI 5,some ⟨.int .i32,1,4,[.int .i32 0]⟩,some ⟨.int .i32,1,4,[.int .i32 0]⟩,some ⟨.bc [(0,12),(1,12),(2,284),(3,390),(4,5),(5,5),(6,391),(7,392),(8,393),(9,394),(10,395)],11,48,[.int .u64 0,.int .u64 0,.int .u32 0,.int .u8 0,.int .u8 0,.int .u8 0,.int .u8 0,.iH,.cU,.int .i32 0,.int .i32 0]⟩,some ⟨.bc [(0,12),(1,12),(2,284),(3,390),(4,5),(5,5),(6,391),(7,392),(8,393),(9,394),(10,395)],11,48,[.int .u64 0,.int .u64 0,.int .u32 0,.int .u8 0,.int .u8 0,.int .u8 0,.int .u8 0,.iH,.cU,.int .i32 0,.int .i32 0]⟩,aC,iI 403],[some ⟨.bc [(0,3),(1,56),(2,56),(3,56)],4,32,[ay,.int .u64 0,.int .u64 0,.int .u64 0]⟩,some ⟨.bc [(0,3),(1,56),(2,56),(3,56)],4,32,[ay,.int .u64 0,.int .u64 0,.int .u64 0]⟩,some ⟨.bc [(0,114),(2,56),(3,4),(4,4),(5,401)],9,64,[ay,ay,.int .u64 0,.bool false,.bool false,ay,.int .u64 0,.int .u64 0,.int .u64 0]⟩,some ⟨.bc [(0,114),(2,56),(3,4),(4,4),(5,401)],9,64,[ay,ay,.int .u64 0,.bool false,.bool false,ay,.int .u64 0,.int .u64 0,.int .u64 0]⟩,iI 405,some ⟨.bc [(0,114),(2,56),(3,4),(4,4),(5,401)],9,64,[ay,ay,.int .u64 0,.bool false,.bool false,ay,.int .u64 0,.int .u64 0,.int .u64 0]⟩,iI 408,some ⟨.bc [(0,106),(2,4),(3,4)],4,24,[ay,ay,.bool false,.bool false]⟩,some ⟨.bc [(0,106),(2,4),(3,4)],4,24,[ay,ay,.bool false,.bool false]⟩,iI 411,some ⟨.bc [(0,106),(2,3),(3,4)],4,32,[ay,ay,ay,.bool false]⟩,some ⟨.bc [(0,106),(2,3),(3,4)],4,32,[ay,ay,ay,.bool false]⟩,iI 416,some ⟨.bc [(0,3),(1,4),(2,56)],3,24,[ay,.bool false,.int .u64 0]⟩,some ⟨.bc [(0,3),(1,4),(2,56)],3,24,[ay,.bool false,.int .u64 0]⟩,some ⟨.bc [(0,180),(3,24),(4,4),(5,414)],8,80,[ay,ay,ay,.ai,.bool false,ay,.bool false,.int .u64 0]⟩],[some ⟨.bc [(0,180),(3,24),(4,4),(5,414)],8,80,[ay,ay,ay,.ai,.bool false,ay,.bool false,.int .u64 0]⟩,iI 419,some ⟨.bc [(0,180),(3,24),(4,4),(5,4),(6,3),(7,414)],10,88,[ay,ay,ay,.ai,.bool false,.bool false,ay,ay,.bool false,.int .u64 0]⟩,some ⟨.bc [(0,180),(3,24),(4,4),(5,4),(6,3),(7,414)],10,88,[ay,ay,ay,.ai,.bool false,.bool false,ay,ay,.bool false,.int .u64 0]⟩,iI 424,some ⟨.bc [(0,4)],1,1,[.bool false]⟩,some ⟨.bc [(0,4)],1,1,[.bool false]⟩,some ⟨.bc [(0,106),(2,3),(3,4),(4,4),(5,422)],6,32,[ay,ay,ay,.bool false,.bool false,.bool false]⟩,some ⟨.bc [(0,106),(2,3),(3,4),(4,4),(5,422)],6,32,[ay,ay,ay,.bool false,.bool false,.bool false]⟩,iI 426,some ⟨.bc [(0,114),(2,56),(3,4),(4,4),(5,401)],9,64,[ay,ay,.int .u64 0,.bool false,.bool false,ay,.int .u64 0,.int .u64 0,.int .u64 0]⟩,iI 429,some ⟨.bc [(0,106),(2,3),(3,4)],4,32,[ay,ay,ay,.bool false]⟩,some ⟨.bc [(0,106),(2,3),(3,4)],4,32,[ay,ay,ay,.bool false]⟩,aC,none]]
def tt(t:TypeId):Option TI:=match tbl[t / 16]? with | some r=>(match r[t % 16]? with | some x=>x | none=>none) | none=>none
theorem afr:V0 Tryz.prog tt 432=true:=by kernel_rfl
theorem ady(t:TypeId)(h:432≤t):tt t=none:=by
 unfold tt
 rw[uF (show tbl.length≤t / 16 from (Nat.le_div_iff_mul_le (by decide)).2 h)]
theorem agI:dH Tryz.prog tt:=adx afr ady
end Go.Proofs.YtnikdflhefijbaaGreat
namespace Go.Proofs.YtnikdflhefijbaaGreat
theorem okF{f:FuncId}{fn:Func}{xs:List AV}{σ:Hp}{R:AV→Hp→Prop}(hf:Tryz.prog.funcs[f]?=some fn)(cd:funcOk fn=true)(h:tS Tryz.prog tt fn xs σ R):ACalls Tryz.prog f xs σ R:=
 aaR agI (by kernel_rfl) hf cd h
theorem au{f:FuncId}{fn:Func}{xs:List AV}{σ:Hp}{R:AV→Hp→Prop}(hf:Tryz.prog.funcs[f]?=some fn)(h:tS Tryz.prog tt fn xs σ R)(cd:funcOk fn=true:=by kernel_rfl):ACalls Tryz.prog f xs σ R:=okF hf cd h
theorem cc{S:Type}(L:S→List (Nat×AV))(H:S→Hp)(p:S→Prop)(μ:S→Nat)(s0:S){body:Tm→Hp→(Ex→Tm→Hp→Prop)→Prop}{t:Tm}{σ:Hp}{Q:Ex→Tm→Hp→Prop}(h0:p s0∧agree t (L s0)∧σ=H s0)
  (round:∀s g,p s→body (eN g (L s)) (H s) (fun e t' σ'=>match e with | .normal=>pI L H p μ s t' σ' | e=>Q e t' σ')):mN body Q t σ:=.mk L H p μ s0 h0 round
theorem bg{S:Type}{L:S→List (Nat×AV)}{H:S→Hp}{p:S→Prop}{μ:S→Nat}{s:S}{t':Tm}{σ':Hp}(s':S)(h1:μ s'<μ s)(h2:p s')(h3:agree t' (L s'))(h4:jh σ' (H s')):pI L H p μ s t' σ':=.mk s' h1 h2 h3 h4
theorem next{S:Type}{L:S→List (Nat×AV)}{H:S→Hp}{p:S→Prop}{μ:S→Nat}{s:S}{t':Tm}{σ':Hp}(s':S)(h1:μ s'<μ s)(h2:p s')(h3:agree t' (L s'))(h4:σ'=H s'):pI L H p μ s t' σ':=.mk s' h1 h2 h3 (h4▸.refl _)
def upto(Q:List Nat)(n:Nat):Nat→re:=Nat.rec (motive:=fun _=>Nat→re) (fun _=>.stop) (fun _ ih i=>.one i (eY i Q) (ih (i+1))) n
theorem aN{σ σ2:Hp}(h:σ=σ2):jh σ σ2:=h▸.refl _
theorem CN{P:Program}{f:FuncId}{e:Sh}{l:List e.T}{σ:Hp}{R:AV→Hp→Prop}(h0:l=[]→ACalls P f [.ai] σ R∧ACalls P f [.gH] σ R)(h1:l≠[]→ACalls P f [.ae e l] σ R):ACalls P f [.ae e l] σ R:=by
 by_cases hl:l=[]
 ·obtain⟨k0,k1⟩:=h0 hl
  refine⟨k0.1,fun F w vs bN aE =>?_⟩
  have hv:=bN.2 0 _ rfl
  have oG:∀y,aA F w y (vs.getD 0 undef)→ja F w [y] vs:=fun y hy=>⟨bN.1,fun i x hx=>by cases i <;> simp at hx;subst hx;exact hy⟩
  subst hl
  generalize hu:vs.getD 0 undef=u at hv oG
  cases hv with
  |ae _ _ _ hr=>
   obtain⟨a,c,e1,_,e3,e0,_⟩:=hr
   obtain rfl:=J4.1 e1
   cases a with
   |none=>
    obtain rfl:=e0 rfl
    exact k0.2 F w vs (oG _ .ai) aE
   |some a=>exact k1.2 F w vs (oG _ (.gH a c e3)) aE
 ·exact h1 hl
theorem a8{k:Nat}(h:k<1000000000):AV.int .i64 (IntKind.i64.wrap ((k:Int)+1))=AV.int .i64 ((k+1:Nat):Int):=by
 rw[show IntKind.i64.wrap ((k:Int)+1)=((k+1:Nat):Int) by rw[IntKind.wrap_i64];omega]
theorem get_some{α:Type}{l:List α}{k:Nat}(h:k<l.length):l[((k:Int)).toNat]?=some l[k]:=bj h
def aB(x:AV)(σ:Hp):AV→Hp→Prop:=fun r σ'=>r=x∧σ'=σ
theorem az{P:Program}{f:FuncId}{xs:List AV}{σ:Hp}{K:AV→Hp→Prop}(js:List Nat){x:AV}{σ2:Hp}(h:ACalls P f xs (oh js σ) (aB x σ2))(k:K x σ2):CallAt P f K xs σ:=
 CallAt.mk js _ h fun _ _ ⟨h1,h2⟩=>h1▸h2▸k
theorem aH{P:Program}{f:FuncId}{xs:List AV}{σ:Hp}{K:AV→Prop}(js:List Nat){x:AV}(h:ACalls P f xs (oh js σ) (aB x (oh js σ)))(k:K x):tU P f xs σ K:=tU.mk js x h k
theorem dm{P:Program}{f:FuncId}{xs:List AV}{σ:Hp}{K:AV→Hp→Prop}(js:List Nat){x:Bool}{σ2:Hp}(h:ACalls P f xs (oh js σ) (aB (.bool x) σ2))(k1:x=true→K (.bool true) σ2)(k2:x=false→K (.bool false) σ2):CallAt P f K xs σ:=
 az js h (by cases x;exact k2 rfl;exact k1 rfl)
theorem MR{P:Program}{f:FuncId}{xs:List AV}{σ:Hp}{K:AV→Prop}(js:List Nat){x:Bool}(h:ACalls P f xs (oh js σ) (aB (.bool x) (oh js σ)))(k1:x=true→K (.bool true))(k2:x=false→K (.bool false)):tU P f xs σ K:=
 aH js h (by cases x;exact k2 rfl;exact k1 rfl)
theorem eU.kC{i:TI}{σ:Hp}{b o:Nat}{K:AV→Prop}(j:Nat)(cs:List AV)(x:Bool)(h1:σ[j]?=some (b,cs))(h2:eg i cs o=some (.bool x))(k1:x=true→K (.bool true))(k2:x=false→K (.bool false)):eU i σ b o K:=
 .mk j cs _ h1 h2 (by cases x;exact k2 rfl;exact k1 rfl)
theorem AN{b off len es:Nat}{e:Sh}{l:List e.T}:eI b off len es e l (.tup []) (.tup []):=.refl _
theorem cg{b off len es:Nat}{e:Sh}{l:List e.T}{x y:AV}{xs ys:List AV}(h:eI b off len es e l x y)(t:eI b off len es e l (.tup xs) (.tup ys)):eI b off len es e l (.tup (x::xs)) (.tup (y::ys)):=by
 have hl:xs.length=ys.length∧∀(i:Nat) (x y:AV),xs[i]?=some x→ys[i]?=some y→eI b off len es e l x y:=by
  cases t with
  |refl=>exact⟨rfl,fun i x y hx hy=>by rw[hx]at hy;cases hy;exact .refl _⟩
  |tup _ _ h hi=>exact⟨h,hi⟩
 refine .tup _ _ (by simp[hl.1]) fun i x' y' hx hy=>?_
 cases i with
 |zero=>simp at hx hy;subst hx;subst hy;exact h
 |succ i=>exact hl.2 i x' y' (by simpa using hx) (by simpa using hy)
theorem bY{a b:Bool}(h:a=b):AV.bool a=AV.bool b:=by rw[h]
theorem aJ{k:IntKind}{a b:Int}(h:a=b):AV.int k a=AV.int k b:=by rw[h]
theorem eS(fr b σ:Hp):(b++(fr++σ)).Perm (fr++(b++σ)):=by
 rw[← dQ,← dQ]
 exact List.Perm.append_right _ Pq
theorem jZ.mem{σ:Hp}{b off len es:Nat}{cs:List AV}(h:(b,cs)∈σ)(h2:off+len*es≤cs.length):jZ σ es (.af b off len es) len ((cs.drop off).take (len*es)):=by
 obtain⟨j,hj⟩:=sh.1 h
 exact .af j b off len cs hj h2
theorem jZ.perm{σ σ2:Hp}{es n:Nat}{x:AV}{new:List AV}(h:jZ σ es x n new)(hp:σ2.Perm σ):jZ σ2 es x n new:=by
 cases h with
 |ai=>exact .ai
 |kz=>exact .kz
 |gH=>exact .gH
 |ae s l h=>exact .ae s l h
 |af j b off len cs h1 h2=>
  obtain⟨j',hj⟩:=sh.1 (hp.mem_iff.2 (cu h1))
  exact .af j' b off _ cs hj h2
inductive Acc(e:Nat):Nat→AV→Hp→List AV→Prop where
 |nil:Acc e 0 .ai [] []
 |af (b k:Nat) (cs:List AV) (h:cs.length=k*e):Acc e k (.af b 0 k e) [(b,cs)] cs
theorem Acc.length{e k:Nat}{v:AV}{acc:Hp}{cs:List AV}(h:Acc e k v acc cs):cs.length=k*e:=by
 cases h with
 |nil=>simp
 |af b k cs h=>exact h
theorem AE(fr acc σ:Hp):(acc++(fr++σ)).Perm (fr++(acc++σ)):=eS fr acc σ
theorem l8{i:TI}{K:AV→Hp→Prop}(fr:Hp){acc σ:Hp}{k n:Nat}{v x:AV}{cs new:List AV}(h:Acc i.size k v acc cs)(hx:jZ (fr++(acc++σ)) i.size x n new)(ib:new.length=n*i.size)(hn:k+n≤1048576)(hb:i.bytes≤1024)(h0:0<i.size)
  (go:∀v' bQ,Acc i.size (k+n) v' bQ (cs++new)→K (.via v') (fr++(bQ++σ))):AppendAt i (fr++(acc++σ)) v x K:=by
 have hl:=h.length
 cases h with
 |nil=>
  refine .perm _ (eS fr [] σ) (.fresh n new (.inl rfl) (hx.perm (eS fr [] σ)) (by omega) hb h0 (K:=fun v ep=>(n=0∧v=.ai∧ep=[]++(fr++σ))∨(n≠0∧∃b,v=.af b 0 n i.size∧ep=(b,new)::([]++(fr++σ)))) (fun aQ b=>.inr ⟨aQ,b,rfl,rfl⟩) (fun h0=>.inl ⟨h0,rfl,rfl⟩)) ?_
  rintro v ep (⟨hz,rfl,rfl⟩ | ⟨hz,b,rfl,rfl⟩)
  ·subst hz
   obtain rfl:new=[]:=List.length_eq_zero_iff.1 (by simpa using ib)
   exact⟨_,(eS fr [] σ).symm,.inr ⟨rfl,go _ _ .nil⟩⟩
  ·refine⟨_,(eS fr [(b,new)] σ).symm,.inr ⟨rfl,go _ _ ?_⟩⟩
   have:=Acc.af (e:=i.size) b (0+n) new (by rw[ib,dM])
   rw[dM]at this ⊢
   exact this
 |af b k cs h=>
  refine .perm _ (eS fr [(b,cs)] σ) (.more 0 b k n cs new rfl rfl (by rw[h];exact aR _) (hx.perm (eS fr [(b,cs)] σ)) hn hb h0 (K:=fun v ep=>∃b',v=.af b' 0 (k+n) i.size∧ep=(b',cs.take (k*i.size)++new)::(fr++σ)) (fun b'=>⟨b',rfl,rfl⟩)) ?_
  rintro v ep ⟨b',rfl,rfl⟩
  rw[fe (by omega)]
  exact⟨_,(eS fr [(b',cs++new)] σ).symm,.inr ⟨rfl,go _ _ (.af _ _ _ (by rw[bV,h,ib,p9]))⟩⟩
theorem tD{R:AV→Hp→Prop}(fr:Hp){acc σ:Hp}{s:Sh}{k:Nat}{v:AV}{cs:List AV}{l:List s.T}(h:Acc s.size k v acc cs)(hl:k=l.length)(hc:cs=l.flatMap s.cells)(hp:0<s.size)(go:Fin R (.ae s l) (fr++σ)):Fin R v (fr++(acc++σ)):=by
 subst hl
 have hlen:=h.length
 refine .perm (eS fr acc σ) ?_
 generalize hk:l.length=k at h
 cases h with
 |nil=>
  obtain rfl:=iR.1 hk
  exact .nil (.nil _) go
 |af b k cs h=>
  subst hk
  exact .cX 0 b 0 l.length s.size cs s l rfl (by rw[iP,fe (by omega)];exact hc) ⟨rfl,rfl,hp⟩ .here go
def ao(l:List Int):List AV:=l.map (.int .i64)
theorem xa:∀l:List Int,ao l=l.flatMap (Sh.cells (.int .i64))
 | []=>rfl
 |x::l=>congrArg (AV.int .i64 x :: ·) (xa l)
theorem qg{f:FuncId}{xs:List AV}{σ σ':Hp}{x y:AV}(h:ACalls Tryz.prog f xs σ (aB x σ'))(e:x=y):ACalls Tryz.prog f xs σ (aB y σ'):=e▸h
theorem qj{α:Type}{l:List α}{k:Nat}(h:k<l.length)(p:α→Bool):(l.take (k+1)).any p=((l.take k).any p||p l[k]):=by
 rw[List.take_succ_eq_append_getElem h,List.any_append];simp
set_option maxRecDepth 100000
theorem Ai{i:TI}{K:AV→Hp→Prop}(fr:Hp){acc σ:Hp}{k n:Nat}{v x:AV}{cs new:List AV}(h:Acc i.size k v acc cs)(hx:jZ (fr++(acc++σ)) i.size x n new)(ib:new.length=n*i.size)(hn:k+n≤1048576)(hb:i.bytes≤1024)(h0:0<i.size)
  (go:∀v' bQ,Acc i.size (k+n) v' bQ (cs++new)→K v' (fr++(bQ++σ))):AppendAt i (fr++(acc++σ)) v x K:=by
 have hl:=h.length
 cases h with
 |nil=>
  refine .perm _ (eS fr [] σ) (.fresh n new (.inl rfl) (hx.perm (eS fr [] σ)) (by omega) hb h0 (K:=fun v ep=>(n=0∧v=.ai∧ep=[]++(fr++σ))∨(n≠0∧∃b,v=.af b 0 n i.size∧ep=(b,new)::([]++(fr++σ)))) (fun aQ b=>.inr ⟨aQ,b,rfl,rfl⟩) (fun h0=>.inl ⟨h0,rfl,rfl⟩)) ?_
  rintro v ep (⟨hz,rfl,rfl⟩ | ⟨hz,b,rfl,rfl⟩)
  ·subst hz
   obtain rfl:new=[]:=List.length_eq_zero_iff.1 (by simpa using ib)
   exact⟨_,(eS fr [] σ).symm,.inl (go _ _ .nil)⟩
  ·refine⟨_,(eS fr [(b,new)] σ).symm,.inl (go _ _ ?_)⟩
   have:=Acc.af (e:=i.size) b (0+n) new (by rw[ib,dM])
   rw[dM]at this ⊢
   exact this
 |af b k cs h=>
  refine .perm _ (eS fr [(b,cs)] σ) (.more 0 b k n cs new rfl rfl (by rw[h];exact aR _) (hx.perm (eS fr [(b,cs)] σ)) hn hb h0 (K:=fun v ep=>∃b',v=.af b' 0 (k+n) i.size∧ep=(b',cs.take (k*i.size)++new)::(fr++σ)) (fun b'=>⟨b',rfl,rfl⟩)) ?_
  rintro v ep ⟨b',rfl,rfl⟩
  rw[fe (by omega)]
  exact⟨_,(eS fr [(b',cs++new)] σ).symm,.inl (go _ _ (.af _ _ _ (by rw[bV,h,ib,p9])))⟩
theorem n5(f:List Hp)(σ:Hp){a b:List Nat}(h:a.Perm b):(a.foldr (fun i t=>f.getD i []++t) σ).Perm (b.foldr (fun i t=>f.getD i []++t) σ):=by
 induction h with
 |nil=>exact .refl _
 |cons x _ ih=>exact ih.append_left _
 |swap x y l=>exact eS _ _ _
 |trans _ _ EZ EY=>exact EZ.trans EY
def bz(ws:List Int):List AV:=ws.map (.int .u64)
theorem Me(n:Nat):cJ [.int .u64 0] n=bz (List.replicate n 0):=by
 unfold bz
 induction n with
 |zero=>rfl
 |succ n ih=>simp[cJ,ih,List.replicate_succ]
theorem qh:∀(ws:List Int),bz ws=ws.flatMap (Sh.cells (.int .u64))
 | []=>rfl
 |z::ws=>congrArg (AV.int .u64 z :: ·) (qh ws)
theorem VO(n:Int)(σ:Hp):ACalls Tryz.prog 335 [.int .i64 n] σ (fun r σ'=>∃m,r=.int .i64 m∧σ'=σ):=by
 refine au Tryz.func335 ?_
 refine fV ?_
 refine ak (fun h1=>?_) (fun h1=>?_)
 ·have h1:32767<n.tmod 65536:=h1
  exact .done ⟨_,rfl,rfl⟩
 ·have h1:¬(32767<n.tmod 65536):=h1
  refine ak (fun h2=>?_) (fun h2=>?_)
  ·have h2:n.tmod 65536 < -32768:=h2
   exact .done ⟨_,rfl,rfl⟩
  ·have h2:¬(n.tmod 65536 < -32768):=h2
   exact .done ⟨_,rfl,rfl⟩
theorem aiD(a b:Int)(σ:Hp):ACalls Tryz.prog 309 [.int .i64 a,.int .i64 b] σ (fun r σ'=>∃x y,r=.agg [.int .i64 x,.int .i64 y]∧σ'=σ):=by
 refine au Tryz.func309 ?_
 intro b1
 (refine .mk [] _ (VO _ _) ?_;rintro _ _ ⟨x,rfl,rfl⟩)
 (refine .mk [] _ (VO _ _) ?_;rintro _ _ ⟨x,rfl,rfl⟩)
 refine aj 0 ?_
 refine aa 0 ?_
 exact .drop 0 1 (.done ⟨_,_,rfl,rfl⟩)
theorem Dm{w:Int}{k m:Nat}(hk:min (Int.toNat (k:Int)) IntKind.u64.bits=m):w.fdiv (2 ^ min (Int.toNat (k:Int)) IntKind.u64.bits)=w / 2 ^ m:=by
 rw[hk];exact Int.fdiv_eq_ediv_of_nonneg _ (Int.le_of_lt (Int.pow_pos (by decide)))
theorem Ii(w:Int):bits .and .u64 w 3=w % 4:=by
 show IntKind.u64.wrap ((BitVec.ofInt 64 w &&& BitVec.ofInt 64 3).toNat:Int)=_
 have h3:(BitVec.ofInt 64 3:BitVec 64).toNat=2 ^ 2-1:=by decide
 rw[BitVec.toNat_and,h3,Pw,BitVec.toNat_ofInt,IntKind.wrap_u64]
 omega
def fO(w:Int):Bool:=decide (w % 4=2)&&decide (0≤w∧w<17179869184)
theorem aeV(w:Int)(σ:Hp):ACalls Tryz.prog 285 [.int .u64 w] σ (fun r σ'=>∃x y,r=.tup [.agg [.int .i64 x,.int .i64 y],.bool (decide (0≤w∧w<4294967296))]∧σ'=σ):=by
 have e:=Dm (k:=32) (m:=32) (w:=w) (by decide)
 refine au Tryz.func285 ?_
 intro b1
 refine fV ?_
 refine cI (fun h2=>?_) (fun h2=>?_)
 ·have h2:¬(w.fdiv (2 ^ min (Int.toNat 32) IntKind.u64.bits)=0):=by simpa using h2
  have hw:¬(0≤w∧w<4294967296):=fun h=>h2 (by rw[show w.fdiv (2 ^ min (Int.toNat 32) IntKind.u64.bits)=w / 2 ^ 32 from e];omega)
  refine aj 0 ?_
  refine aa 0 ?_
  exact .drop 0 1 (.done ⟨_,_,by rw[bH hw];rfl,rfl⟩)
 ·have h2:w.fdiv (2 ^ min (Int.toNat 32) IntKind.u64.bits)=0:=by simpa using h2
  have hw:0≤w∧w<4294967296:=by rw[show w.fdiv (2 ^ min (Int.toNat 32) IntKind.u64.bits)=w / 2 ^ 32 from e]at h2;omega
  refine fV ?_
  (refine .mk [] _ (aiD _ _ _) ?_;rintro _ _ ⟨x,y,rfl,rfl⟩)
  refine aj 0 ?_
  refine aa 0 ?_
  exact .drop 0 1 (.done ⟨_,_,by rw[aL hw];rfl,rfl⟩)
theorem aiz(w:Int)(σ:Hp):ACalls Tryz.prog 251 [.int .u64 w] σ (fun r σ'=>∃x y,r=.tup [.agg [.int .i64 x,.int .i64 y],.bool (fO w)]∧σ'=σ):=by
 have e:=Dm (k:=2) (m:=2) (w:=w) (by decide)
 refine au Tryz.func251 ?_
 intro b1
 refine cI (fun h2=>?_) (fun h2=>?_)
 ·have h2:¬(bits BinOp.and IntKind.u64 w 3=2):=by simpa using h2
  rw[Ii]at h2
  refine aj 0 ?_
  refine aa 0 ?_
  exact .drop 0 1 (.done ⟨_,_,by rw[show fO w=false by simp[fO,h2]];rfl,rfl⟩)
 ·have h2:bits BinOp.and IntKind.u64 w 3=2:=by simpa using h2
  rw[Ii]at h2
  refine fV ?_
  have e':w.fdiv (2 ^ min (Int.toNat 2) IntKind.u64.bits)=w / 4:=e
  refine .mk [] _ (aeV _ _) ?_
  rintro _ _ ⟨x,y,rfl,rfl⟩
  have hk:decide (0≤w.fdiv (2 ^ min (Int.toNat 2) IntKind.u64.bits)∧w.fdiv (2 ^ min (Int.toNat 2) IntKind.u64.bits)<4294967296)=fO w:=by
   rw[e',show fO w=decide (0≤w∧w<17179869184) by simp[fO,h2]];exact decide_eq_decide.2 (by omega)
  refine aj 0 ?_
  refine aa 0 ?_
  exact .drop 0 1 (.done ⟨_,_,by rw[hk];rfl,rfl⟩)
def bD(w:Int):Int:=if w=0 then 0 else if w=1 then 1 else if fO w then w else 1
theorem LI{w:Int}(h:fO w=true):w≠0∧w≠1:=by
 unfold fO at h;simp at h;omega
theorem aIs(w:Int)(σ:Hp):ACalls Tryz.prog 202 [.int .u64 w] σ (aB (.bool (fO w||decide (w=0)||decide (w=1))) σ):=by
 refine au Tryz.func202 ?_
 refine .mk [] _ (aiz w _) ?_
 rintro _ _ ⟨x,y,rfl,rfl⟩
 cases hn:fO w
 ·intro aD
  refine aj 0 ?_
  refine ak (fun c2=>?_) (fun c2=>?_)
  ·have c2:w=0:=c2
   exact .drop 0 1 (.done ⟨bY (by simp[*]),rfl⟩)
  ·have c2:¬(w=0):=c2
   refine ak (fun c3=>?_) (fun c3=>?_)
   ·have c3:w=1:=c3
    exact .drop 0 1 (.done ⟨bY (by simp[*]),rfl⟩)
   ·have c3:¬(w=1):=c3
    exact .drop 0 1 (.done ⟨bY (by simp[*]),rfl⟩)
 ·intro aD
  refine aj 0 ?_
  exact .drop 0 1 (.done ⟨bY (by simp[*]),rfl⟩)
theorem Nu(w:Int)(σ:Hp):ACalls Tryz.prog 333 [.int .u64 w] σ (aB (.int .u64 (bD w)) σ):=by
 refine au Tryz.func333 ?_
 refine dm [] (aIs w σ) (fun h=>?_) (fun h=>?_)
 ·refine .done ⟨aJ ?_,rfl⟩
  unfold bD
  simp at h
  rcases h with (h | h) | h
  ·simp[h,LI h]
  ·simp[h]
  ·simp[h]
 ·exact .done ⟨aJ (by unfold bD;simp at h;simp[h]),rfl⟩
def ns(a b:Int):Int:=if bD a=bD b∨bD b=0 then bD a else if bD a=0 then bD b else 1
theorem agD(a b:Int)(σ:Hp):ACalls Tryz.prog 304 [.int .u64 a,.int .u64 b] σ (aB (.int .u64 (ns a b)) σ):=by
 refine au Tryz.func304 ?_
 refine az [] (Nu _ _) ?_
 refine az [] (Nu _ _) ?_
 refine ak (fun c1=>?_) (fun c1=>?_)
 ·have c1:bD a=bD b:=c1
  exact .done ⟨aJ (by unfold ns;split <;> (try split) <;> omega),rfl⟩
 ·have c1:¬(bD a=bD b):=c1
  refine ak (fun c2=>?_) (fun c2=>?_)
  ·have c2:bD b=0:=c2
   exact .done ⟨aJ (by unfold ns;split <;> (try split) <;> omega),rfl⟩
  ·have c2:¬(bD b=0):=c2
   refine ak (fun c3=>?_) (fun c3=>?_)
   ·have c3:bD a=0:=c3
    exact .done ⟨aJ (by unfold ns;split <;> (try split) <;> omega),rfl⟩
   ·have c3:¬(bD a=0):=c3
    exact .done ⟨aJ (by unfold ns;split <;> (try split) <;> omega),rfl⟩
def dD(what a b:Int):Int:=if what=1 then bits .or .u64 a b else if what=2 then bits .and .u64 a b else if what=3 then ns a b else 0
theorem Ns(what a b:Int)(σ:Hp):ACalls Tryz.prog 279 [.int .i64 what,.int .u64 a,.int .u64 b] σ (aB (.int .u64 (dD what a b)) σ):=by
 refine au Tryz.func279 ?_
 refine ak (fun c1=>?_) (fun c1=>?_)
 ·have c1:what=1:=c1
  exact .done ⟨aJ (by simp[dD, *]),rfl⟩
 ·have c1:¬(what=1):=c1
  refine ak (fun c2=>?_) (fun c2=>?_)
  ·have c2:what=2:=c2
   exact .done ⟨aJ (by simp[dD, *]),rfl⟩
  ·have c2:¬(what=2):=c2
   refine ak (fun c3=>?_) (fun c3=>?_)
   ·have c3:what=3:=c3
    refine az [] (agD _ _ _) ?_
    exact .done ⟨aJ (by simp[dD, *]),rfl⟩
   ·have c3:¬(what=3):=c3
    exact .done ⟨aJ (by simp[dD, *]),rfl⟩
theorem UP(n:Int)(σ:Hp):ACalls Tryz.prog 261 [.int .i64 n] σ (fun r σ'=>∃m,r=.int .i64 m∧σ'=σ):=by
 refine au Tryz.func261 ?_
 refine fV ?_
 refine fV ?_
 exact .done ⟨_,rfl,rfl⟩
theorem ahk(a b:Int)(σ:Hp):ACalls Tryz.prog 223 [.int .i64 a,.int .i64 b] σ (fun r σ'=>∃x y,r=.agg [.int .i64 x,.int .i64 y]∧σ'=σ):=by
 refine au Tryz.func223 ?_
 intro aD
 (refine .mk [] _ (UP _ _) ?_;rintro _ _ ⟨x,rfl,rfl⟩)
 (refine .mk [] _ (UP _ _) ?_;rintro _ _ ⟨x,rfl,rfl⟩)
 refine aj 0 ?_
 refine aa 0 ?_
 exact .drop 0 1 (.done ⟨_,_,rfl,rfl⟩)
theorem ahj(w:Int)(σ:Hp)(h0:0≤w)(h2:w<18446744073709551616):ACalls Tryz.prog 179 [.int .u64 w] σ (fun r σ'=>∃x y,r=.tup [.agg [.int .i64 x,.int .i64 y],.bool (fO w)]∧σ'=σ):=by
 have e1:w.tmod 4=w % 4:=Cq h0
 have e2:IntKind.u64.wrap (w.tdiv 4)=w / 4:=by rw[Kd h0,IntKind.wrap_u64];omega
 refine au Tryz.func179 ?_
 intro aD
 refine fV ?_
 refine cI (fun c2=>?_) (fun c2=>?_)
 ·have c2:¬(w.tmod 4=2):=by simpa using c2
  refine aj 0 ?_
  refine aa 0 ?_
  exact .drop 0 1 (.done ⟨_,_,by rw[show fO w=false by unfold fO;simp;omega];rfl,rfl⟩)
 ·have c2:w.tmod 4=2:=by simpa using c2
  refine fV ?_
  refine ak (fun c3=>?_) (fun c3=>?_)
  ·have c3:4294967296≤IntKind.u64.wrap (w.tdiv 4):=c3
   refine aj 0 ?_
   refine aa 0 ?_
   exact .drop 0 1 (.done ⟨_,_,by rw[show fO w=false by unfold fO;simp;omega];rfl,rfl⟩)
  ·have c3:¬(4294967296≤IntKind.u64.wrap (w.tdiv 4)):=c3
   refine fV ?_
   refine fV ?_
   refine fV ?_
   (refine .mk [] _ (ahk _ _ _) ?_;rintro _ _ ⟨x,y,rfl,rfl⟩)
   refine aj 0 ?_
   refine aa 0 ?_
   exact .drop 0 1 (.done ⟨_,_,by rw[show fO w=true by unfold fO;simp;omega];rfl,rfl⟩)
theorem agr(w:Int)(σ:Hp)(h0:0≤w)(h2:w<18446744073709551616):ACalls Tryz.prog 129 [.int .u64 w] σ (aB (.int .u64 (bD w)) σ):=by
 refine au Tryz.func129 ?_
 refine .mk [] _ (ahj w _ h0 h2) ?_
 rintro _ _ ⟨x,y,rfl,rfl⟩
 cases hn:fO w
 ·intro aD
  refine aj 0 ?_
  refine cI (fun c2=>?_) (fun c2=>?_)
  ·have c2:¬(w=0):=by simpa using c2
   exact .drop 0 1 (.done ⟨aJ (by simp[bD, *]),rfl⟩)
  ·have c2:w=0:=by simpa using c2
   exact .drop 0 1 (.done ⟨aJ (by simp[bD, *]),rfl⟩)
 ·have aQ:=LI hn
  intro aD
  refine aj 0 ?_
  refine cI (fun c2=>?_) (fun c2=>?_)
  ·have c2:¬(w=0):=by simpa using c2
   exact .drop 0 1 (.done ⟨aJ (by simp[bD, *]),rfl⟩)
  ·have c2:w=0:=by simpa using c2
   exact .drop 0 1 (.done ⟨aJ (by simp[bD, *]),rfl⟩)
def wd(a:List Int)(i:Nat):Int:=(a[i]?).getD 0
def bK(z:Int):Prop:=0≤z∧z<18446744073709551616
def aU(l:List Int):Prop:=∀z∈l,bK z
theorem Di(n:Int):bK (IntKind.u64.wrap n):=by rw[IntKind.wrap_u64];unfold bK;omega
theorem Un{w:Int}(h:bK w):bK (bD w):=by
 unfold bD
 split
 ·exact⟨by decide,by decide⟩
 ·split
  ·exact⟨by decide,by decide⟩
  ·split
   ·exact h
   ·exact⟨by decide,by decide⟩
theorem TH{what a b:Int}(ha:bK a)(hb:bK b):bK (dD what a b):=by
 unfold dD
 split
 ·exact Di _
 ·split
  ·exact Di _
  ·split
   ·unfold ns
    split
    ·exact Un ha
    ·split
     ·exact Un hb
     ·exact⟨by decide,by decide⟩
   ·exact⟨by decide,by decide⟩
theorem oc{l:List Int}(h:aU l)(i:Nat):bK (wd l i):=by
 unfold wd
 cases hq:l[i]? with
 |none=>exact⟨by decide,by decide⟩
 |some x=>exact h x (cu hq)
def xE(ws:List Int)(a:Int):Bool:=decide (0≤a)&&decide (a<ws.length)
def cN(ws:List Int)(a:Int):Int:=if a<0 then 0 else ws.getD a.toNat 0
def gZ(ws:List Int)(a x:Int):List Int:=if a<0 then ws else ws.set a.toNat x
def rT(n:Int):Nat:=(min (max n 0) 1048576).toNat
theorem aeE(n:Int):rT n≤1048576:=by unfold rT;omega
theorem CX{ws:List Int}{a:Int}(h:0≤a)(h1:a<ws.length):xE ws a=true:=by simp[xE,h,h1]
theorem G0(a n:Int)(h:0≤a)(h1:a<n):(decide (0≤a)&&decide (a<n))=true:=by simp[h,h1]
theorem GH(a n:Int)(h:¬(0≤a∧a<n)):(decide (0≤a)&&decide (a<n))=false:=by simp;omega
theorem ma{ws:List Int}{a:Nat}:cN ws (a:Int)=ws.getD a 0:=by
 unfold cN;rw[ag (by omega)];rfl
theorem aad{ws:List Int}{a:Int}(h:¬(0≤a∧a<(ws.length:Int))):cN ws a=0:=by
 unfold cN
 split
 ·rfl
 ·rw[List.getD,uF (by omega)];rfl
theorem lD{ws:List Int}{a:Nat}(x:Int):gZ ws (a:Int) x=ws.set a x:=by
 unfold gZ;rw[ag (by omega)];rfl
theorem YL{ws:List Int}{a x:Int}(h:¬(0≤a∧a<(ws.length:Int))):gZ ws a x=ws:=by
 unfold gZ
 split
 ·rfl
 ·exact List.set_eq_of_length_le (by omega)
theorem Ac(ws:List Int)(a x:Int):(gZ ws a x).length=ws.length:=by unfold gZ;split <;> simp
def nE(ws:List Int)(a old:Int):Bool:=xE ws a&&(cN ws a == old)
def iU(ws:List Int)(a old to:Int):List Int:=if nE ws a old then gZ ws a to else ws
theorem wP(ws:List Int)(a o t:Int):(iU ws a o t).length=ws.length:=by unfold iU;split <;> simp[Ac]
def Er(ws:List Int)(a d:Int):Int:=if xE ws a then (cN ws a+d) % 18446744073709551616 else 0
def nm(ws:List Int)(a d:Int):List Int:=if xE ws a then gZ ws a ((cN ws a+d) % 18446744073709551616) else ws
theorem PW(ws:List Int)(a d:Int):(nm ws a d).length=ws.length:=by unfold nm;split <;> simp[Ac]
def uf(q n:Nat):List AV:=[.int .i64 n,.af q 0 n 1]
theorem G9{ws:List Int}{k:Nat}(h:k<ws.length):(bz ws)[0+((k:Int)).toNat*1]?=some (.int .u64 (ws.getD k 0)):=by
 simp[bz,h,List.getD]
theorem ado{ws:List Int}{k:Nat}(x:Int):(bz ws).set k (.int .u64 x)=bz (ws.set k x):=by simp[bz,List.map_set]
theorem L4{ws:List Int}{k:Nat}(x:Int)(h:k<ws.length):kP ⟨.int .u64,1,8,[.int .u64 0]⟩ (bz ws) (0+((k:Int)).toNat*1) (.int .u64 x)=some (bz (ws.set k x)):=by
 have e:0+((k:Int)).toNat*1=k:=by omega
 have h2:Nat.ble (k+1) (bz ws).length=true:=Nat.ble_eq_true_of_le (by simp[bz];omega)
 rw[e]
 show (match Nat.beq 1 1,Nat.ble (k+1) (bz ws).length with | true,true=>some (fL (bz ws) k [.int .u64 x]) | _,_=>none)=_
 rw[h2]
 show some ((bz ws).set k (.int .u64 x))=_
 rw[ado]
theorem I1(n a:Int)(σ:Hp):ACalls Tryz.prog 387 [.agg [.int .i64 n],.int .i64 a] σ (aB (.bool (decide (0≤a)&&decide (a<n))) σ):=by
 refine au Tryz.func387 ?_
 intro b
 refine ak (fun h=>?_) (fun h=>?_)
 ·refine aa 0 ?_
  refine ak (fun h2=>?_) (fun h2=>?_)
  ·exact .drop 0 1 (.done ⟨bY (by simp[h,h2]),rfl⟩)
  ·exact .drop 0 1 (.done ⟨bY (by simp[h2]),rfl⟩)
 ·exact .drop 0 1 (.done ⟨bY (by simp[h]),rfl⟩)
theorem Xf(n:Int)(σ:Hp):ACalls Tryz.prog 155 [.int .i64 n] σ (aB (.agg [.int .i64 (rT n)]) σ):=by
 refine au Tryz.func155 ?_
 intro b
 refine aj 0 ?_
 refine aa 0 ?_
 refine .drop 0 1 (.done ⟨?_,rfl⟩)
 show AV.agg [.int .i64 (if (1048576:Int)<(if n<0 then 0 else n) then 1048576 else (if n<0 then 0 else n))]=_
 have e:(if (1048576:Int)<(if n<0 then 0 else n) then 1048576 else (if n<0 then 0 else n))=((rT n:Nat):Int):=by
  unfold rT
  by_cases h:n<0
  ·simp only[ah h];omega
  ·simp only[ag h];split <;> omega
 rw[e]
theorem aiA(n:Int)(σ:Hp):ACalls Tryz.prog 90 [.int .i64 n] σ (fun r σ'=>∃p q,r=.ptr p 0∧σ'=(p,uf q (rT n))::(q,bz (List.replicate (rT n) 0))::σ):=by
 have hc:=aeE n
 refine au Tryz.func90 ?_
 refine az [] (Xf n σ) ?_
 refine az [] (Xf n σ) ?_
 refine aG.mk ⟨by omega,jD _,by omega,by decide⟩ ?_
 intro q p
 refine .done ⟨p,q,rfl,?_⟩
 show (p,_)::(q,_)::σ=_
 rw[show ((rT n:Int)).toNat=rT n by omega,show (cJ [AV.int .u64 0] (rT n))=_ from Me _]
 rfl
theorem aLoad(p q:Nat)(ws:List Int)(a:Int)(σ:Hp):ACalls Tryz.prog 385 [.ptr p 0,.int .i64 a] ((p,uf q ws.length)::(q,bz ws)::σ) (aB (.int .u64 (cN ws a)) ((p,uf q ws.length)::(q,bz ws)::σ)):=by
 refine au Tryz.func385 ?_
 refine aa 0 ?_
 refine az [] (I1 ws.length a _) ?_
 by_cases hh:0≤a∧a<(ws.length:Int)
 ·rw[G0 a ws.length hh.1 hh.2]
  obtain⟨k,rfl⟩:=mC hh.1
  have hk:k<ws.length:=by omega
  refine aa 0 ?_
  refine aG.mk ⟨rfl,hh.1,hh.2⟩ ?_
  refine aZ 1 rfl (G9 hk) ?_
  exact .done ⟨aJ ma.symm,rfl⟩
 ·rw[GH a ws.length hh]
  exact .done ⟨aJ (aad hh).symm,rfl⟩
abbrev bG(p q:Nat)(ws:List Int)(σ:Hp):Hp:=(p,uf q ws.length)::(q,bz ws)::σ
theorem aStore(p q:Nat)(ws:List Int)(a x:Int)(σ:Hp):ACalls Tryz.prog 386 [.ptr p 0,.int .i64 a,.int .u64 x] (bG p q ws σ) (aB (.tup []) (bG p q (gZ ws a x) σ)):=by
 refine au Tryz.func386 ?_
 refine aa 0 ?_
 refine az [] (I1 ws.length a _) ?_
 by_cases hh:0≤a∧a<(ws.length:Int)
 ·rw[G0 a ws.length hh.1 hh.2]
  obtain⟨k,rfl⟩:=mC hh.1
  have hk:k<ws.length:=by omega
  refine aa 0 ?_
  refine aG.mk ⟨rfl,hh.1,hh.2⟩ ?_
  refine da 1 rfl (L4 x hk) ?_
  refine .done ⟨rfl,?_⟩
  show (p,uf q ws.length)::(q,bz (ws.set k x))::σ=_
  rw[lD];unfold bG;rw[cM]
 ·rw[GH a ws.length hh]
  refine .done ⟨rfl,?_⟩
  rw[YL hh];rfl
theorem aCas(p q:Nat)(ws:List Int)(a x y:Int)(σ:Hp):ACalls Tryz.prog 383 [.ptr p 0,.int .i64 a,.int .u64 x,.int .u64 y] (bG p q ws σ) (aB (.bool (nE ws a x)) (bG p q (iU ws a x y) σ)):=by
 refine au Tryz.func383 ?_
 refine aa 0 ?_
 refine az [] (I1 ws.length a _) ?_
 by_cases hh:0≤a∧a<(ws.length:Int)
 ·rw[G0 a ws.length hh.1 hh.2]
  have hH:=CX hh.1 hh.2
  obtain⟨k,rfl⟩:=mC hh.1
  have hk:k<ws.length:=by omega
  refine aa 0 ?_
  refine aG.mk ⟨rfl,hh.1,hh.2⟩ ?_
  refine aZ 1 rfl (G9 hk) ?_
  refine cI (fun he=>?_) (fun he=>?_)
  ·have he:¬ws.getD k 0=x:=by simpa using he
   have e1:nE ws k x=false:=by unfold nE;rw[hH,ma];simpa using he
   refine .done ⟨by rw[e1];rfl,?_⟩
   rw[show iU ws k x y=ws by simp[iU,e1]];rfl
  ·have he:ws.getD k 0=x:=by simpa using he
   have e1:nE ws k x=true:=by unfold nE;rw[hH,ma,he];simp
   refine aa 0 ?_
   refine aG.mk ⟨rfl,hh.1,hh.2⟩ ?_
   refine da 1 rfl (L4 y hk) ?_
   refine .done ⟨by rw[e1];rfl,?_⟩
   show (p,uf q ws.length)::(q,bz (ws.set k y))::σ=_
   rw[show iU ws k x y=ws.set k y by simp[iU,e1,lD]];unfold bG;rw[List.length_set]
 ·have hb:=GH a ws.length hh
  rw[hb]
  have e1:nE ws a x=false:=by simp only[nE,xE,hb,JL]
  refine .done ⟨by rw[e1];rfl,?_⟩
  rw[show iU ws a x y=ws by simp[iU,e1]];rfl
theorem aAdd(p q:Nat)(ws:List Int)(a d:Int)(σ:Hp):ACalls Tryz.prog 382 [.ptr p 0,.int .i64 a,.int .u64 d] (bG p q ws σ) (aB (.int .u64 (Er ws a d)) (bG p q (nm ws a d) σ)):=by
 refine au Tryz.func382 ?_
 refine aa 0 ?_
 refine az [] (I1 ws.length a _) ?_
 by_cases hh:0≤a∧a<(ws.length:Int)
 ·rw[G0 a ws.length hh.1 hh.2]
  have hH:=CX hh.1 hh.2
  obtain⟨k,rfl⟩:=mC hh.1
  have hk:k<ws.length:=by omega
  have e1:Er ws k d=IntKind.u64.wrap (ws.getD k 0+d):=by rw[IntKind.wrap_u64];simp only[Er,hH,if_true,ma]
  have e2:nm ws k d=ws.set k (IntKind.u64.wrap (ws.getD k 0+d)):=by rw[IntKind.wrap_u64];simp only[nm,hH,if_true,ma,lD]
  refine aa 0 ?_
  refine aG.mk ⟨rfl,hh.1,hh.2⟩ ?_
  refine aZ 1 rfl (G9 hk) ?_
  refine aG.mk ⟨rfl,hh.1,hh.2⟩ ?_
  refine da 1 rfl (L4 _ hk) ?_
  refine aa 0 ?_
  refine aG.mk ⟨rfl,hh.1,hh.2⟩ ?_
  refine aZ 1 rfl (G9 (ws:=ws.set k (IntKind.u64.wrap (ws.getD k 0+d))) (by rw[cM];exact hk)) ?_
  refine .done ⟨aJ (by rw[e1];simp[List.getD,hk]),?_⟩
  rw[e2];unfold bG;rw[cM];rfl
 ·have hb:=GH a ws.length hh
  rw[hb]
  refine .done ⟨aJ (by unfold Er;unfold xE;rw[hb];rfl),?_⟩
  rw[show nm ws a d=ws by unfold nm xE;rw[hb];rfl];rfl
theorem Xb(p q:Nat)(ws:List Int)(σ:Hp):ACalls Tryz.prog 384 [.ptr p 0] (bG p q ws σ) (aB (.int .i64 ws.length) (bG p q ws σ)):=by
 refine au Tryz.func384 ?_
 refine aa 0 ?_
 exact .done ⟨rfl,rfl⟩
theorem mLen_ : Meth Tryz.prog 94 "Len" 384 := fun a w => by kernel_rfl
theorem mLoad_ : Meth Tryz.prog 94 "Load" 385 := fun a w => by kernel_rfl
theorem mStore_ : Meth Tryz.prog 94 "Store" 386 := fun a w => by kernel_rfl
theorem mCAS_ : Meth Tryz.prog 94 "CAS" 383 := fun a w => by kernel_rfl
theorem mAdd_ : Meth Tryz.prog 94 "Add" 382 := fun a w => by kernel_rfl
theorem hStore_ : AheadOk Tryz.prog 94 "Store" := fun a w => by kernel_rfl
theorem hCAS_ : AheadOk Tryz.prog 94 "CAS" := fun a w => by kernel_rfl
theorem hAdd_ : AheadOk Tryz.prog 94 "Add" := fun a w => by kernel_rfl
theorem hLoad_ : AheadOk Tryz.prog 94 "Load" := fun a w => by kernel_rfl
abbrev kB(p:Nat):AV:=.iface 94 (.ptr p 0)
theorem dF(t:Nat)(x:AV)(σ:Hp):ACalls Tryz.prog 110 [.iface t x] σ (aB (.iface t x) σ):=by
 refine au Tryz.func110 ?_
 exact .done ⟨rfl,rfl⟩
end Go.Proofs.YtnikdflhefijbaaGreat
