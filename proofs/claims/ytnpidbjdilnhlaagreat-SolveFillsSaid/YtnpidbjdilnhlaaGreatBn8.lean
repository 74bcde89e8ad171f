import Derived.Test.YtnpidbjdilnhlaaGreatBn7
namespace Go.Proofs.YtnpidbjdilnhlaaGreat
open Go.RowKit
section
variable {P:Program} {TT:TypeId→Option TI}
def One(X:(AV→Prop)→Prop):Prop:=∀K,X K→∃v,K v∧∀K':AV→Prop,K' v→X K'
theorem ee{v:AV}:One (fun K=>K v):=fun _ h=>⟨v,h,fun _ h=>h⟩
theorem bP:One (fun _=>False):=fun _ h=>h.elim
theorem mT{p:Prop}{X:(AV→Prop)→Prop}(h:One X):One (fun K=>ah p (X K)):=fun K ⟨hp,h1⟩=>by
 obtain⟨v,h2,h3⟩:=h K h1
 exact⟨v,h2,fun K' hk=>⟨hp,h3 K' hk⟩⟩
theorem zM{v:AV}:One (fun K=>strict v K):=fun K h=>⟨v,(sY v K)▸h,fun K' h=>by show strict v K';rw[sY];exact h⟩
theorem Tp{α:Type}{l:List α}{n:Int}{f:α→AV}:One (fun K=>aT l n fun d=>K (f d)):=fun _ ⟨x,h0,h1,go⟩=>⟨f x,go,fun _ h=>⟨x,h0,h1,h⟩⟩
theorem Av{b:Bool}:One (fun K=>kW b K):=fun K h=>⟨.bool b,by cases b <;> exact h,fun K' h=>by cases b <;> exact h⟩
theorem Jh{t:TypeId}{xs ys:List AV}{f:Bool→Bool}:One (fun K=>EqAt P TT t xs ys fun b=>kW (f b) K):=fun K ⟨h1,h2,go⟩=>by
 obtain⟨v,k1,k2⟩:=Av K go
 exact⟨v,k1,fun K' h=>⟨h1,h2,k2 K' h⟩⟩
theorem PS{t:TypeId}{m:String}{X:(AV→Prop)→Prop}(h:One X):One (fun K=>dL P t m (X K)):=fun K ⟨hp,h1⟩=>by
 obtain⟨v,h2,h3⟩:=h K h1
 exact⟨v,h2,fun K' hk=>⟨hp,h3 K' hk⟩⟩
theorem PQ(k:TK)(want:Bool)(x y:AV):One (vf k want x y):=by
 intro K h
 unfold vf at h
 split at h
 all_goals first | exact⟨_,h,fun _ h=>h⟩ | exact h.elim | exact mT ee K h
theorem To(op:BinOp)(k:IntKind)(a b:Int):One (Br op k a b):=by
 cases op <;> first | exact Av | exact mT ee | exact ee | exact bP
theorem PN(op:BinOp)(k:IntKind)(a b:Int):One (AH op k a b):=by
 cases op <;> first | exact mT ee | exact bP
theorem wJ{b:Bool}{X Y:(AV→Prop)→Prop}(h1:One X)(h2:One Y):One (fun K=>match b with | true=>X K | false=>Y K):=by cases b;exact h2;exact h1
set_option maxHeartbeats 1000000 in
theorem Tr(op:BinOp)(t:TypeId)(y0:Operand)(x y:AV):One (yd TT op t y0 x y):=by
 unfold yd
 cases x <;> cases y
 case int.int k a k' b=>cases op <;> first | exact PN _ _ _ _ | exact wJ (To _ _ _ _) bP
 case bool.bool a b =>
  rcases TT t with _ | ⟨k,s,mM,z⟩
  ·exact bP
  ·cases k <;> cases op <;> first | exact Av | exact bP
 case str.str a b=>cases op <;> first | exact Av | exact bP
 all_goals
  cases hc:Kb y0 <;> cases ht:TT t <;> cases op <;> first | exact bP | exact PQ _ _ _ _
theorem Ro(op:BinOp)(t:TypeId)(y0:Operand)(x y:AV):One (ye P TT op t y0 x y):=by
 unfold ye
 split
 ·cases op <;> first | exact Jh (f:=fun b=>b) | exact Jh (f:=fun b => !b) | exact bP
 ·cases op <;> first | exact mT ee | exact bP
 ·exact Tr _ _ _ _ _
theorem UZ(op:UnOp)(x:AV):One (yn op x):=by
 unfold yn
 split <;> first | exact ee | exact bP
theorem Rn(s d:TypeId)(x:AV):One (xF TT s d x):=by
 unfold xF
 split <;> first | exact ee | exact mT ee | exact bP
theorem PM(t:TypeId)(x:AV)(lo hi mx:Option AV):One (uR TT t x lo hi mx):=by
 unfold uR
 split
 ·split
  ·split <;> first | exact mT ee | exact bP
  ·split <;> first | exact mT ee | exact bP
  ·split <;> first | exact mT ee | exact bP
  ·exact bP
 ·split
  ·split <;> first | exact mT ee | exact bP
  ·exact bP
 ·exact bP
theorem Rl(t:TypeId)(x ix:AV):One (wz TT t x ix):=by
 unfold wz
 split
 ·split <;> first | exact mT Tp | exact mT ee | exact bP
 ·split <;> first | exact mT ee | exact bP
 ·exact bP
theorem M9(s:TypeId)(x:AV)(f:Nat):One (wC TT s x f):=by
 unfold wC
 split
 ·split
  ·split
   ·split <;> first | exact ee | exact bP
   ·exact bP
  ·exact bP
 ·exact bP
theorem PR(s:TypeId)(x:AV)(f:Nat):One (xm TT s x f):=by
 unfold xm
 split
 ·split
  ·split
   ·split <;> first | exact ee | exact bP
   ·exact bP
  ·exact bP
 ·exact bP
theorem Tn(k:TK)(x:AV):One (xT k x):=by
 unfold xT
 split <;> first | exact ee | exact bP
theorem Tq(k:TK)(x:AV):One (yc k x):=by
 unfold yc
 split <;> first | exact ee | exact bP
theorem Tj(xs:List AV):One (xQ xs):=by
 unfold xQ
 split
 ·exact wJ ee bP
 ·exact bP
theorem Tl(xs:List AV):One (xR xs):=by
 unfold xR
 split
 ·exact wJ ee bP
 ·exact bP
theorem Rm(x y:AV):One (xE x y):=by
 unfold xE
 split <;> first | exact ee | exact bP
theorem Rh(x:AV):One (xt x):=by
 unfold xt
 split <;> first | exact ee | exact bP
theorem Rj(x:AV):One (xv x):=by
 unfold xv
 split <;> first | exact ee | exact bP
theorem Ri(i:TI)(a:AV)(σ:Hp):One (mc i a σ):=by
 unfold mc
 split
 ·split <;> first | exact ee | exact bP
 ·exact fun K ⟨j,cs,v,h1,h2,go⟩=>⟨v,go,fun K' h=>⟨j,cs,v,h1,h2,h⟩⟩
 ·exact bP
theorem OD(t:TypeId)(m k:AV)(c:Bool)(σ:Hp):One (xc TT t m k c σ):=by
 unfold xc
 split
 ·intro K ⟨j,b,l,hm,h1,go⟩
  cases c with
  | true=>exact⟨_,go,fun K' h=>⟨j,b,l,hm,h1,h⟩⟩
  | false=>exact⟨_,go,fun K' h=>⟨j,b,l,hm,h1,h⟩⟩
 ·exact bP
theorem Au(o:Op)(ρ:Operand→AV)(σ:Hp):One (dW P TT o ρ σ):=by
 unfold dW
 split
 ·exact zM
 ·exact zM
 ·split
  ·exact wJ zM zM
  ·exact bP
 ·split <;> first | exact ee | exact bP
 ·split <;> first | exact Ri _ _ _ | exact bP
 ·split <;> first | exact ee | exact PS ee | exact bP
 ·exact Ro _ _ _ _ _
 ·exact UZ _ _
 ·exact Rn _ _ _
 ·split <;> first | exact ee | exact bP
 ·exact ee
 ·exact PM _ _ _ _ _
 ·exact M9 _ _ _
 ·exact PR _ _ _
 ·exact Rl _ _ _
 ·split <;> first | exact wJ ee ee | exact ee | exact bP
 ·exact OD _ _ _ _ _
 ·split
  ·split <;> first | exact ee | exact bP
  ·exact bP
 ·split
  ·split <;> first | exact Tn _ _ | exact bP
  ·exact bP
 ·split <;> first | exact Tj _ | exact bP
 ·split <;> first | exact Tl _ | exact bP
 ·split <;> first | exact Rm _ _ | exact bP
 ·split <;> first | exact Rh _ | exact bP
 ·split <;> first | exact Rj _ | exact bP
 ·split
  ·split <;> first | exact Tq _ _ | exact bP
  ·exact bP
 ·exact bP
theorem O7{o:Op}(hb:blind o=true){ρ:Operand→AV}{σ σ':Hp}{K:AV→Prop}(h:dW P TT o ρ σ K):dW P TT o ρ σ' K:=by
 cases o <;> first | exact h | cases hb | (rename_i c;obtain⟨f,args,bK⟩:=c;cases f <;> first | cases hb | (rename_i b;cases b <;> first | exact h | cases hb))
theorem NP(c:Call)(ρ:Operand→AV)(σ:Hp):One (fun K=>l5 P c ρ (fun f xs=>pv P f xs σ K) (fun _ _=>False)):=by
 have Es:∀(f:FuncId) (xs:List AV),One (pv P f xs σ):=fun f xs K h=>by
  cases h with
  | mk js r call go=>exact⟨r,go,fun K' h=>.mk js r call h⟩
  | perm hp r call go=>exact⟨r,go,fun K' h=>.perm hp r call h⟩
 unfold l5
 split
 ·split <;> first | exact Es _ _ | exact bP
 ·split
  ·exact fun K ⟨g,h,go⟩=>(Es _ _ K go).imp fun v hv=>⟨hv.1,fun K' hk=>⟨g,h,hv.2 K' hk⟩⟩
  ·exact fun K ⟨g,h,go⟩=>(Es _ _ K go).imp fun v hv=>⟨hv.1,fun K' hk=>⟨g,h,hv.2 K' hk⟩⟩
  ·exact bP
 ·exact bP
theorem Kc(o:Op)(ρ:Operand→AV)(σ:Hp):One (qQ P TT o ρ σ):=by
 unfold qQ
 split
 ·exact Au _ _ _
 ·exact NP _ _ _
 ·exact Au _ _ _
theorem Oe{l:Nat}{K K':AV→Hp→Prop}(hk:∀v σ,K v σ→K' v σ){xs:List AV}{σ:Hp}(h:rV P l K xs σ):rV P l K' xs σ:=by
 cases h with
 | mk js R call go=>exact .mk js R call fun r σ' hr=>hk _ _ (go r σ' hr)
 | perm R hp call go=>exact .perm R hp call fun r σ' hr=>(go r σ' hr).imp fun cR h=>⟨h.1,hk _ _ h.2⟩
theorem N7{c:Call}{ρ:Operand→AV}{A B:FuncId→List AV→Prop}{Y Z:Nat→List AV→Prop}(vZ:∀f xs,A f xs→B f xs)(hyz:∀l xs,Y l xs→Z l xs)(h:l5 P c ρ A Y):l5 P c ρ B Z:=by
 unfold l5 at h ⊢
 split at h
 ·split at h
  ·exact vZ _ _ h
  ·exact hyz _ _ h
  ·exact h.elim
 ·split at h
  ·obtain⟨g,h1,h2⟩:=h;exact⟨g,h1,vZ _ _ h2⟩
  ·obtain⟨g,h1,h2⟩:=h;exact⟨g,h1,vZ _ _ h2⟩
  ·exact h.elim
 ·exact h.elim
theorem Qr{f:FuncId}{K K':AV→Hp→Prop}(hk:∀v σ,K v σ→K' v σ){xs:List AV}{σ:Hp}(h:CallAt P f K xs σ):CallAt P f K' xs σ:=by
 induction h with
 | mk js R call go=>exact .mk js R call fun r σ' hr=>hk _ _ (go r σ' hr)
 | perm R hp call go=>exact .perm R hp call fun r σ' hr=>(go r σ' hr).imp fun cR h=>⟨h.1,hk _ _ h.2⟩
 | bO j b off len es cs e l h1 h2 h3 h4 h ih=>exact .bO j b off len es cs e l h1 h2 h3 h4 ih
 | hY j b off len es cs e l h1 h2 h3 i k b' cs' hi hk h ih=>exact .hY j b off len es cs e l h1 h2 h3 i k b' cs' hi hk ih
theorem Qy{i:TI}{σ:Hp}{s x:AV}{K K':AV→Hp→Prop}(hk:∀v σ,K v σ→K' v σ)(h:AppendAt i σ s x K):AppendAt i σ s x K':=by
 cases h with
 | fresh n new hs hx hn hb h0 go same=>exact .fresh n new hs hx hn hb h0 (fun h b=>hk _ _ (go h b)) (fun h=>hk _ _ (same h))
 | more j b len n cs new hs h1 h2 hx hn hb h0 go=>exact .more j b len n cs new hs h1 h2 hx hn hb h0 (fun b=>hk _ _ (go b))
 | vh j b off len n cs new hs h1 h2 hx hn hb h0 sh go=>exact .vh j b off len n cs new hs h1 h2 hx hn hb h0 (hk _ _ sh) (fun b=>hk _ _ (go b))
 | perm K2 hp h cD=>exact .perm K2 hp h fun v cR h=>(cD v cR h).imp fun tM h=>⟨h.1,h.2.imp (hk _ _) fun h=>⟨h.1,hk _ _ h.2⟩⟩
theorem Qv{i:TI}{σ:Hp}{s x:AV}{K K':AV→Hp→Prop}(hk:∀v σ,K v σ→K' v σ)(h:xj i σ s x K):xj i σ s x K':=by
 cases h with
 | aj k n hs hx hn hb h0 go same=>exact .aj k n hs hx hn hb h0 (fun h b=>hk _ _ (go h b)) (fun h=>hk _ _ (same h))
theorem Rf{o:Op}{ρ:Operand→AV}{σ:Hp}{K K':AV→Hp→Prop}(hk:∀v σ,K v σ→K' v σ)(h:eT P TT o ρ σ K):eT P TT o ρ σ K':=by
 have dd:∀{o:Op},dW P TT o ρ σ (fun v=>K v σ)→dW P TT o ρ σ (fun v=>K' v σ):=fun h=>by
  obtain⟨v,h1,h2⟩:=Au _ _ _ _ h
  exact h2 _ (hk _ _ h1)
 unfold eT at h ⊢
 split at h
 ·split at h
  ·exact fun b=>hk _ _ (h b)
  ·exact h.elim
 ·split at h
  ·exact fun b=>hk _ _ (h b)
  ·exact h.elim
 ·split at h
  ·split at h
   ·split at h
    ·exact fun b=>hk _ _ (h b)
    ·exact h.elim
   ·exact h.elim
  ·exact h.elim
 ·split at h
  ·split at h
   ·exact⟨h.fact,fun b=>hk _ _ (h.go b)⟩
   ·exact h.elim
  ·exact h.elim
 ·split at h
  ·split at h
   ·obtain⟨j,cs,cs',h1,h2,go⟩:=h;exact⟨j,cs,cs',h1,h2,hk _ _ go⟩
   ·exact h.elim
  ·exact h.elim
 ·split at h
  ·exact fun b=>hk _ _ (h b)
  ·exact h.elim
 ·unfold uM at h ⊢
  split at h
  ·obtain⟨j,b,l,hm,h1,go⟩:=h;exact⟨j,b,l,hm,h1,hk _ _ go⟩
  ·exact h.elim
 ·unfold uM at h ⊢
  split at h
  ·obtain⟨j,b,l,hm,h1,go⟩:=h;exact⟨j,b,l,hm,h1,hk _ _ go⟩
  ·exact h.elim
 ·unfold AK at h ⊢
  split at h
  ·obtain⟨j,b,l,hm,h1,go⟩:=h;exact⟨j,b,l,hm,h1,fun r=>hk _ _ (go r)⟩
  ·exact h.elim
 ·split at h
  ·obtain⟨j,j2,r,b,l,seen,hx,h1,h2,stop,go⟩:=h;exact⟨j,j2,r,b,l,seen,hx,h1,h2,fun h=>hk _ _ (stop h),fun i p h3 h4=>hk _ _ (go i p h3 h4)⟩
  ·exact h.elim
 ·obtain⟨j,j2,r,b,i,l,p,seen,hx,h1,h2,h3,go⟩:=h;exact⟨j,j2,r,b,i,l,p,seen,hx,h1,h2,h3,hk _ _ go⟩
 ·split at h
  ·split at h
   ·split at h
    ·exact Qy hk h
    ·exact h.elim
   ·split at h
    ·exact Qv hk h
    ·exact h.elim
   ·exact h.elim
  ·exact h.elim
 ·split at h
  ·split at h
   ·split at h
    ·cases h with
     | none hs go=>exact .none hs (hk _ _ go)
     | ae j b off len cs hs h1 h2 go=>exact .ae j b off len cs hs h1 h2 (hk _ _ go)
    ·exact h.elim
   ·exact h.elim
  ·exact h.elim
 ·split at h
  ·split at h
   ·split at h
    ·cases h with
     | none new hd hx go=>exact .none new hd hx (hk _ _ go)
     | ae j b off len n cs new hd h1 h2 hx hn go=>exact .ae j b off len n cs new hd h1 h2 hx hn (hk _ _ go)
     | part j b off len cs hd h1 h2 j2 b2 kj n iq hx h3 h4 hn go=>exact .part j b off len cs hd h1 h2 j2 b2 kj n iq hx h3 h4 hn (hk _ _ go)
    ·exact h.elim
   ·exact h.elim
  ·exact h.elim
 ·exact dd h
 ·exact N7 (fun f xs h=>Qr hk h) (fun l xs h=>Oe hk h) h
 ·exact dd h
theorem map_eq{ρ fv:Operand→AV}{l:List Operand}(h:∀x∈l,ρ x=fv x):l.map ρ=l.map fv:=List.map_congr_left h
theorem Cn{c:Call}{ρ fv:Operand→AV}(h:∀x∈(Op.call c).operands.toList,ρ x=fv x):(∀f,c.callee=.value f→ρ f=fv f)∧(∀r m,c.callee=.invoke r m→ρ r=fv r)∧∀x∈c.args.toList,ρ x=fv x:=by
 obtain⟨f,args,bK⟩:=c
 simp only[Op.operands,Call.operands,Array.toList_append,List.mem_append]at h
 refine⟨fun g e =>?_,fun r m e =>?_,fun x hx=>h x (.inr hx)⟩
 ·subst e;exact h g (.inl (by simp))
 ·subst e;exact h r (.inl (by simp))
theorem zA{c:Call}{ρ fv:Operand→AV}{A:FuncId→List AV→Prop}{Y:Nat→List AV→Prop}(h:∀x∈(Op.call c).operands.toList,ρ x=fv x):l5 P c ρ A Y=l5 P c fv A Y:=by
 obtain⟨h1,h2,h3⟩:=Cn h
 have e:(c.args.toList.map fun x=>a8 (ρ x))=c.args.toList.map fun x=>a8 (fv x):=List.map_congr_left fun x hx=>by rw[h3 x hx]
 unfold l5
 rw[e]
 split
 ·rename_i f hf;rw[h1 f hf]
 ·rename_i r m hr;rw[h2 r m hr]
 ·rfl
theorem CU{o:Op}{ρ fv:Operand→AV}{σ:Hp}{K:AV→Prop}(h:∀x∈o.operands.toList,ρ x=fv x):dW P TT o ρ σ K=dW P TT o fv σ K:=by
 cases o with
 | call c =>
  obtain⟨f,args,bK⟩:=c
  obtain⟨_,_,h3⟩:=Cn h
  cases f with
  | builtin b =>
   obtain⟨l⟩:=args
   have h3:∀x∈l,ρ x=fv x:=h3
   match l,h3 with
   | [],_=>cases b <;> rfl
   | [x],h3 =>
    have hx:=h3 x (by simp)
    cases b <;> first | rfl | (obtain⟨bK⟩:=bK;rcases bK with _ | ⟨t,_ | ⟨t',_ | ⟨tP,r⟩⟩⟩ <;> first | rfl | simp only[dW,hx])
   | [x,y],h3 =>
    have hx:=h3 x (by simp)
    have hy:=h3 y (by simp)
    cases b <;> first | rfl | (obtain⟨bK⟩:=bK;rcases bK with _ | ⟨t,_ | ⟨t',_ | ⟨tP,r⟩⟩⟩ <;> first | rfl | simp only[dW,hx,hy])
   | _::_::_::_,_=>cases b <;> rfl
  | _=>rfl
 | build t parts =>
  have e:(parts.toList.map fun p=>(p.1,ρ p.2))=parts.toList.map fun p=>(p.1,fv p.2):=List.map_congr_left fun p hp=>by rw[h p.2 (by simp only[Op.operands];exact List.mem_map.2 ⟨p,hp,rfl⟩)]
  show (match AR TT t (parts.toList.map fun p=>(p.1,ρ p.2)) with | some v=>K v | none=>False)=_
  rw[e];rfl
 | makeFunc f first cap =>
  have e1:first.toList.map ρ=first.toList.map fv:=map_eq fun x hx=>h x (by simp only[Op.operands,Array.toList_append,List.mem_append];exact .inl hx)
  have e2:cap.toList.map ρ=cap.toList.map fv:=map_eq fun x hx=>h x (by simp only[Op.operands,Array.toList_append,List.mem_append];exact .inr hx)
  show K (.fn f (first.toList.map ρ) (cap.toList.map ρ))=_
  rw[e1,e2];rfl
 | slice t x lo hi mx =>
  have hx:=h x (by simp[Op.operands])
  have e:∀(o:Option Operand),(∀y,o=some y→y∈(Op.slice t x lo hi mx).operands.toList)→(o.map fun x=>a8 (ρ x))=o.map fun x=>a8 (fv x):=fun o ho=>by
   cases o with
   | none=>rfl
   | some y=>simp[h y (ho y rfl)]
  show uR TT t (a8 (ρ x)) (lo.map fun x=>a8 (ρ x)) (hi.map fun x=>a8 (ρ x)) (mx.map fun x=>a8 (ρ x)) K=_
  rw[hx,e lo (fun y hy=>by subst hy;simp[Op.operands]),e hi (fun y hy=>by subst hy;simp[Op.operands]),e mx (fun y hy=>by subst hy;simp[Op.operands])];rfl
 | pick c a b=>simp only[dW,h c (by simp[Op.operands]),h a (by simp[Op.operands]),h b (by simp[Op.operands])]
 | binOp op t x y yt=>simp only[dW,h x (by simp[Op.operands]),h y (by simp[Op.operands])]
 | indexAddr t x y=>simp only[dW,h x (by simp[Op.operands]),h y (by simp[Op.operands])]
 | lookup t x y c=>simp only[dW,h x (by simp[Op.operands]),h y (by simp[Op.operands])]
 | _=>first | rfl | (rename_i x;simp only[dW,h x (by simp[Op.operands])]) | (rename_i x _;simp only[dW,h x (by simp[Op.operands])]) | (rename_i x _ _;simp only[dW,h x (by simp[Op.operands])]) | (rename_i x _ _ _;simp only[dW,h x (by simp[Op.operands])])
theorem Ij{o:Op}{ρ fv:Operand→AV}{σ:Hp}{K:AV→Prop}(h:∀x∈o.operands.toList,ρ x=fv x):qQ P TT o ρ σ K=qQ P TT o fv σ K:=by
 have hd:=CU (P:=P) (TT:=TT) (σ:=σ) (K:=K) h
 cases o with
 | call c =>
  obtain⟨f,args,bK⟩:=c
  cases f with
  | builtin b=>exact hd
  | value g=>exact zA (P:=P) (A:=fun f xs=>pv P f xs σ K) (Y:=fun _ _=>False) h
  | invoke r m=>exact zA (P:=P) (A:=fun f xs=>pv P f xs σ K) (Y:=fun _ _=>False) h
 | _=>exact hd
theorem Ih{o:Op}{ρ fv:Operand→AV}{σ:Hp}{K:AV→Hp→Prop}(h:∀x∈o.operands.toList,ρ x=fv x):eT P TT o ρ σ K=eT P TT o fv σ K:=by
 have hd:=CU (P:=P) (TT:=TT) (σ:=σ) (K:=fun v=>K v σ) h
 cases o with
 | call c =>
  obtain⟨f,args,bK⟩:=c
  obtain⟨_,_,h3⟩:=Cn h
  cases f with
  | builtin b =>
   obtain⟨l⟩:=args
   have h3:∀x∈l,ρ x=fv x:=h3
   match l,h3 with
   | [],_=>cases b <;> first | exact hd | rfl
   | [x],h3 =>
    have hx:=h3 x (by simp)
    cases b <;> first | exact hd | rfl | (obtain⟨bK⟩:=bK;rcases bK with _ | ⟨t,_ | ⟨t',_ | ⟨tP,r⟩⟩⟩ <;> first | rfl | simp only[eT,hx])
   | [x,y],h3 =>
    have hx:=h3 x (by simp)
    have hy:=h3 y (by simp)
    cases b <;> first | exact hd | rfl | (obtain⟨bK⟩:=bK;rcases bK with _ | ⟨t,_ | ⟨t',_ | ⟨tP,r⟩⟩⟩ <;> first | rfl | simp only[eT,hx,hy])
   | _::_::_::_,_=>cases b <;> first | exact hd | rfl
  | value g=>exact zA (P:=P) (A:=fun f xs=>CallAt P f K xs σ) (Y:=fun l xs=>rV P l K xs σ) h
  | invoke r m=>exact zA (P:=P) (A:=fun f xs=>CallAt P f K xs σ) (Y:=fun l xs=>rV P l K xs σ) h
 | box t x=>simp only[eT,h x (by simp[Op.operands])]
 | buildSlice t len parts =>
  have e:(parts.toList.map fun p=>(p.1,ρ p.2))=parts.toList.map fun p=>(p.1,fv p.2):=List.map_congr_left fun p hp=>by rw[h p.2 (by simp only[Op.operands];exact List.mem_map.2 ⟨p,hp,rfl⟩)]
  simp only[eT,e]
 | makeSlice t l c=>simp only[eT,h l (by simp[Op.operands]),h c (by simp[Op.operands])]
 | store t a x=>simp only[eT,h a (by simp[Op.operands]),h x (by simp[Op.operands])]
 | makeMap t r=>cases r with
  | none=>rfl
  | some r=>exact hd
 | mapUpdate t m k x=>simp only[eT,h m (by simp[Op.operands]),h k (by simp[Op.operands]),h x (by simp[Op.operands])]
 | insert t m k x=>simp only[eT,h m (by simp[Op.operands]),h k (by simp[Op.operands]),h x (by simp[Op.operands])]
 | range t x=>simp only[eT,h x (by simp[Op.operands])]
 | next x s=>simp only[eT,h x (by simp[Op.operands])]
 | entry x=>simp only[eT,h x (by simp[Op.operands])]
 | _=>first | exact hd | rfl
theorem rI{ops:List Oper}{Q:List Nat}{n:Nat}{ax:List Bool}{t:Tm}{σ:Hp}{K:Tm→Hp→Prop}:mn P TT ops Q (n+1) ax t σ K=((fI ops ax=[]→K t σ)∧∀i∈fI ops ax,gv P TT ops (dB i Q) i t σ fun t' σ'=>mn P TT ops Q n (ax.set i true) t' σ' K):=rfl
def pT(_ops:List Oper)(ax:List Bool)(o:Oper):Prop:=∀e∈o.after.toList,Region.binds .any e=true→ax.getD e.on false=true
theorem rE{ops:List Oper}{ax:List Bool}{i:Nat}:i∈fI ops ax↔ax.getD i true=false∧∃o,ops[i]?=some o∧pT ops ax o:=by
 unfold fI pT
 simp only[List.mem_filter,List.mem_range,Bool.and_eq_true,Bool.not_eq_true']
 constructor
 ·rintro⟨h1,h2,h3⟩
  refine⟨h2,ops[i],by simp[h1],?_⟩
  rw[List.getElem?_eq_getElem h1]at h3
  intro e he hb
  have:=List.all_eq_true.1 h3 e he
  simpa [hb]using this
 ·rintro⟨h2,o,h1,h3⟩
  refine⟨(List.getElem?_eq_some_iff.1 h1).1,h2,?_⟩
  rw[h1]
  refine List.all_eq_true.2 fun e he =>?_
  cases hb:Region.binds .any e with
  | false=>simp
  | true=>rw[h3 e he hb];simp
def uP(ops:List Oper)(ax:List Bool):Prop:=∀(j:Nat) (o:Oper),ops[j]?=some o→ax.getD j false=true→pT ops ax o
theorem GI{l:List Bool}{i k:Nat}(h:l.getD k false=true):(l.set i true).getD k false=true:=by
 rw[List.getD_eq_getElem?_getD]at h ⊢
 rw[List.getElem?_set]
 split
 ·rename_i e;subst e
  split
  ·rfl
  ·rename_i hn;rw[List.getElem?_eq_none (by omega)]at h;cases h
 ·exact h
theorem GV{l:List Bool}{i k:Nat}(b:Bool)(h:k≠i):(l.set i true).getD k b=l.getD k b:=by
 rw[List.getD_eq_getElem?_getD,List.getD_eq_getElem?_getD,List.getElem?_set,if_neg (Ne.symm h)]
theorem AA{l:List Bool}{i:Nat}(h:l.getD i true=false):l.getD i false=false:=by
 rw[List.getD_eq_getElem?_getD]at h ⊢
 cases hq:l[i]? with
 | none=>rw[hq]at h;cases h
 | some b=>rw[hq]at h;exact h
theorem pT.set{ops:List Oper}{ax:List Bool}{o:Oper}(h:pT ops ax o)(i:Nat):pT ops (ax.set i true) o:=fun e he hb=>GI (h e he hb)
theorem uP.set{ops:List Oper}{ax:List Bool}(h:uP ops ax){j:Nat}{o:Oper}(ho:ops[j]?=some o)(hr:pT ops ax o):uP ops (ax.set j true):=by
 intro k p hp hk
 by_cases sx:k=j
 ·subst sx
  rw[ho]at hp;cases hp
  exact hr.set k
 ·rw[GV false sx]at hk
  exact (h k p hp hk).set j
theorem H7{ops:List Oper}{ax:List Bool}{i j:Nat}(hi:i∈fI ops ax)(h:i≠j):i∈fI ops (ax.set j true):=by
 obtain⟨h1,o,h2,h3⟩:=rE.1 hi
 exact rE.2 ⟨by rw[GV true h];exact h1,o,h2,h3.set j⟩
theorem Jt{j:Nat}{l:List Nat}:dB j l=true↔j∈l:=by
 unfold dB
 rw[List.any_eq_true]
 exact⟨fun ⟨x,h1,h2⟩=>Nat.eq_of_beq_eq_true h2▸h1,fun h=>⟨j,h,Nat.beq_refl j⟩⟩
def xI(ops:List Oper)(k:Nat)(row:List Nat):Prop:=∀o,ops[k]?=some o→∀ax,uP ops ax→pT ops ax o→∀j∈row,ax.getD j false=true
theorem S3{ops:List Oper}{acc:List (List Nat)}(hlen:acc.length≤ops.length)(h:∀(k:Nat) (row:List Nat),acc[k]?=some row→xI ops k row){k:Nat}{o:Oper}(ho:ops[k]?=some o):xI ops k (EV o acc):=by
 intro o' ez ax hc hr j hj
 rw[ho]at ez;cases ez
 unfold EV at hj
 obtain⟨e,he,hj⟩:=List.mem_flatMap.1 hj
 split at hj
 ·rename_i hb
  have lW:=hr e he hb
  rcases List.mem_cons.1 hj with rfl | hj
  ·exact lW
  ·cases hq:acc[e.on]? with
   | none=>rw[hq]at hj;simp at hj
   | some row =>
    rw[hq]at hj
    cases hp:ops[e.on]? with
    | some p=>exact h e.on row hq p hp ax hc (hc e.on p hp lW) j (by simpa using hj)
    | none =>
     have h1:=(List.getElem?_eq_some_iff.1 hq).1
     have h2:=List.getElem?_eq_none_iff.1 hp
     omega
 ·cases hj
theorem I2{ops:List Oper}:∀(os:List Oper) (acc:List (List Nat)) (pre:List Oper),ops=pre++os→acc.length=pre.length→(∀(k:Nat) (row:List Nat),acc[k]?=some row→xI ops k row)→∀(k:Nat) (row:List Nat),(Eo os acc)[k]?=some row→xI ops k row
 | [],acc,pre,_,_,h=>h
 | o::os,acc,pre,he,hl,h=>by
  refine I2 os _ (pre++[o]) (by rw[he];simp) (by simp[hl]) ?_
  intro k row hk
  by_cases ab:k<acc.length
  ·rw[List.getElem?_append_left ab]at hk
   exact h k row hk
  ·have dN:=hk
   rw[List.getElem?_append_right (by omega)]at hk
   have hz:k-acc.length=0:=by
    have:=(List.getElem?_eq_some_iff.1 hk).1
    simp at this;omega
   rw[hz]at hk
   simp only[List.getElem?_cons_zero,Option.some.injEq]at hk
   subst hk
   have aG:k=pre.length:=by omega
   have ho:ops[k]?=some o:=by rw[he,aG];simp
   intro o' ez ax hc hr j hj
   exact S3 (by rw[he,hl];simp) h ho o' ez ax hc hr j (List.mem_eraseDups.1 hj)
def XG(want:Bool)(x:AV)(A B:Prop):Prop:=
 match x with
 | .bool b=>(match want,b with | true,true=>A | true,false=>B | false,true=>B | false,false=>A)
 | .tup []=>B
 | _=>False
theorem wA{ops:List Oper}{o:Oper}{t:Tm}{A B:Prop}(h:lB ops o t A B):
  (A∧∀(t2:Tm),(∀d∈o.looksAt ops.toArray,t2 d=t d)→∀{A' B':Prop},A'→lB ops o t2 A' B')∨(B∧∀(t2:Tm),(∀d∈o.looksAt ops.toArray,t2 d=t d)→∀{A' B':Prop},B'→lB ops o t2 A' B'):=by
 unfold lB at h
 split at h
 ·rename_i hg
  refine .inl ⟨h,fun t2 _ A' B' ha =>?_⟩
  unfold lB;rw[hg];exact ha
 ·rename_i j want hg
  split at h
  ·rename_i d hd
   have Xm:d∈o.looksAt ops.toArray:=by
    unfold Oper.looksAt
    rw[hg]
    simp only[List.getElem?_toArray,hd,Option.toList_some,List.mem_append,List.mem_singleton,or_true]
   have go:∀(t2:Tm),(∀d∈o.looksAt ops.toArray,t2 d=t d)→∀{A' B':Prop},XG want (t d) A' B'→lB ops o t2 A' B':=fun t2 h2 A' B' hx=>by
    unfold lB
    rw[hg]
    dsimp only
    rw[hd]
    dsimp only
    rw[h2 d Xm]
    exact hx
   split at h
   ·rename_i b hb
    cases want <;> cases b
    ·exact .inl ⟨h,fun t2 h2 A' B' ha=>go t2 h2 (by rw[hb];exact ha)⟩
    ·exact .inr ⟨h,fun t2 h2 A' B' ha=>go t2 h2 (by rw[hb];exact ha)⟩
    ·exact .inr ⟨h,fun t2 h2 A' B' ha=>go t2 h2 (by rw[hb];exact ha)⟩
    ·exact .inl ⟨h,fun t2 h2 A' B' ha=>go t2 h2 (by rw[hb];exact ha)⟩
   ·rename_i hb
    exact .inr ⟨h,fun t2 h2 A' B' ha=>go t2 h2 (by rw[hb];exact ha)⟩
   ·exact h.elim
  ·exact h.elim
theorem xe{ops:List Oper}{o:Oper}{t t2:Tm}(h:∀d∈o.looksAt ops.toArray,t2 d=t d):∀x∈o.op.operands.toList,ev t2 x=ev t x:=by
 intro x hx
 cases x with
 | tmp d =>
  refine h d ?_
  unfold Oper.looksAt
  refine List.mem_append_left _ (List.mem_filterMap.2 ⟨_,hx,rfl⟩)
 | _=>rfl
theorem Rs{o:Op}(h:o9 o=true){ρ:Operand→AV}{σ:Hp}{K:AV→Hp→Prop}:eT P TT o ρ σ K=dW P TT o ρ σ (fun v=>K v σ):=by
 cases o <;> first | rfl | cases h
theorem Qt{o:Op}(h:blind o=true){ρ:Operand→AV}{σ:Hp}{K:AV→Hp→Prop}:eT P TT o ρ σ K=dW P TT o ρ σ (fun v=>K v σ):=by
 cases o <;> first | rfl | cases h | (rename_i c;obtain⟨f,args,bK⟩:=c;cases f <;> first | cases h | (rename_i b;cases b <;> first | rfl | cases h))
theorem P4{o:Op}(h:o9 o=true){ρ:Operand→AV}{σ:Hp}{K:AV→Prop}(c:Nat×List AV)(hd:dW P TT o ρ σ K):dW P TT o ρ (c::σ) K:=by
 have key:∀{i:TI} {a:AV},mc i a σ K→mc i a (c::σ) K:=fun {i a} h=>by
  unfold mc at h ⊢
  cases a <;> first | exact h | (cases h with | mk j cs v h1 h2 go=>exact .mk (j+1) cs v h1 h2 go)
 cases o <;> first | cases h | skip
 unfold dW at hd ⊢
 dsimp only at hd ⊢
 split at hd
 ·exact key hd
 ·exact hd
theorem Rq{o:Op}(hn:A3 o=true){ρ:Operand→AV}{σ:Hp}{K K2:AV→Hp→Prop}(hk:∀v c,K v (c::σ)→K2 v (c::σ))(h:eT P TT o ρ σ K):eT P TT o ρ σ K2:=by
 cases o <;> first | cases hn | skip
 all_goals
  unfold eT at h ⊢
  dsimp only at h ⊢
  split at h
  ·exact fun b=>hk _ _ (h b)
  ·exact h
theorem D1{ops:List Oper}{Q:List Nat}{j:Nat}{o:Oper}(ho:ops[j]?=some o){t:Tm}{σ:Hp}{K:Tm→Hp→Prop}(hk:qF ops Q j=false)(h:gv P TT ops (dB j Q) j t σ K):
  ∃v,K (put t o.dst v) σ∧∀(t2:Tm) (σ2:Hp),(∀d∈o.looksAt ops.toArray,t2 d=t d)→(σ2=σ∨(blind o.op=true∧dB j Q=false)∨(o9 o.op=true∧dB j Q=false∧∃c,σ2=c::σ))→∀(K2:Tm→Hp→Prop),K2 (put t2 o.dst v) σ2→gv P TT ops (dB j Q) j t2 σ2 K2:=by
 unfold gv at h ⊢
 rw[ho]at h ⊢
 dsimp only at h ⊢
 cases hq:dB j Q with
 | true =>
  rw[hq]at h
  dsimp only at h ⊢
  rcases wA h with ⟨h,g⟩ | ⟨h,g⟩
  ·obtain⟨v,h1,h2⟩:=Kc _ _ _ _ h
   refine⟨v,h1,fun t2 σ2 ht aD K2 cD=>g t2 ht ?_⟩
   rcases aD with rfl | ⟨_,h⟩ | ⟨_,h,_⟩
   ·rw[Ij (xe ht)]
    exact h2 (fun v=>K2 (put t2 o.dst v) σ2) cD
   ·cases h
   ·cases h
  ·refine⟨.tup [],h,fun t2 σ2 ht aD K2 cD=>g t2 ht ?_⟩
   rcases aD with rfl | ⟨_,h⟩ | ⟨_,h,_⟩
   ·exact cD
   ·cases h
   ·cases h
 | false =>
  rw[hq]at h
  dsimp only at h ⊢
  have aS:kU o.op=false:=by
   unfold qF at hk
   rw[ho,hq]at hk
   simpa using hk
  have e:∀(ρ:Operand→AV) (σ:Hp) (K:AV→Hp→Prop),eT P TT o.op ρ σ K=dW P TT o.op ρ σ (fun v=>K v σ):=fun ρ σ K=>by
   unfold kU at aS
   simp only[Bool.not_eq_false',Bool.or_eq_true]at aS
   rcases aS with h | h
   ·exact Qt h
   ·exact Rs h
  rcases wA h with ⟨h,g⟩ | ⟨h,g⟩
  ·rw[e]at h
   obtain⟨v,h1,h2⟩:=Au _ _ _ _ h
   refine⟨v,h1,fun t2 σ2 ht aD K2 cD=>g t2 ht ?_⟩
   rw[e,CU (xe ht)]
   rcases aD with rfl | ⟨hb,_⟩ | ⟨hl,_,c,rfl⟩
   ·exact h2 (fun v=>K2 (put t2 o.dst v) σ2) cD
   ·exact O7 hb (h2 (fun v=>K2 (put t2 o.dst v) σ2) cD)
   ·exact P4 hl c (h2 (fun v=>K2 (put t2 o.dst v) (c::σ)) cD)
  ·exact⟨.tup [],h,fun t2 σ2 ht aD K2 cD=>g t2 ht cD⟩
theorem z8{ops:List Oper}{q:Bool}{i:Nat}{o:Oper}(ho:ops[i]?=some o){t t2:Tm}{σ:Hp}{K K2:Tm→Hp→Prop}(ht:∀d∈o.looksAt ops.toArray,t2 d=t d)(hk:∀v σ',K (put t o.dst v) σ'→K2 (put t2 o.dst v) σ')(h:gv P TT ops q i t σ K):gv P TT ops q i t2 σ K2:=by
 unfold gv at h ⊢
 rw[ho]at h ⊢
 dsimp only at h ⊢
 cases q with
 | true =>
  dsimp only at h ⊢
  rcases wA h with ⟨h,g⟩ | ⟨h,g⟩
  ·obtain⟨v,h1,h2⟩:=Kc _ _ _ _ h
   refine g t2 ht ?_
   rw[Ij (xe ht)]
   exact h2 _ (hk _ _ h1)
  ·exact g t2 ht (hk _ _ h)
 | false =>
  dsimp only at h ⊢
  rcases wA h with ⟨h,g⟩ | ⟨h,g⟩
  ·refine g t2 ht ?_
   rw[Ih (xe ht)]
   exact Rf (fun v σ' h=>hk v σ' h) h
  ·exact g t2 ht (hk _ _ h)
theorem Rp{ops:List Oper}{i:Nat}{o:Oper}(ho:ops[i]?=some o)(hn:A3 o.op=true){t t2:Tm}{σ:Hp}{K K2:Tm→Hp→Prop}(ht:∀d∈o.looksAt ops.toArray,t2 d=t d)(hk:∀v c,K (put t o.dst v) (c::σ)→K2 (put t2 o.dst v) (c::σ))(hs:∀v,K (put t o.dst v) σ→K2 (put t2 o.dst v) σ)(h:gv P TT ops false i t σ K):gv P TT ops false i t2 σ K2:=by
 unfold gv at h ⊢
 rw[ho]at h ⊢
 dsimp only at h ⊢
 rcases wA h with ⟨h,g⟩ | ⟨h,g⟩
 ·refine g t2 ht ?_
  rw[Ih (xe ht)]
  exact Rq hn (fun v c h=>hk v c h) h
 ·exact g t2 ht (hs _ h)
theorem Tb{t:Tm}{d d':Option Tmp}{v v':AV}(h:∀x,d=some x→d'≠some x):put (put t d v) d' v'=put (put t d' v') d v:=by
 cases d with
 | none=>rfl
 | some x=>cases d' with
  | none=>rfl
  | some y =>
   have aS:y≠x:=fun e=>h x rfl (by rw[e])
   funext i
   show (match Nat.beq i y with | true=>v' | false=>match Nat.beq i x with | true=>v | false=>t i)=(match Nat.beq i x with | true=>v | false=>match Nat.beq i y with | true=>v' | false=>t i)
   cases h1:Nat.beq i y <;> cases h2:Nat.beq i x <;> first | rfl | exact absurd ((Nat.eq_of_beq_eq_true h1).symm.trans (Nat.eq_of_beq_eq_true h2)) aS
theorem J6{t:Tm}{d:Option Tmp}{v:AV}{x:Tmp}(h:d≠some x):put t d v x=t x:=by
 cases d with
 | none=>rfl
 | some y =>
  show (match Nat.beq x y with | true=>v | false=>t x)=t x
  cases hb:Nat.beq x y with
  | false=>rfl
  | true=>exact absurd (by rw[Nat.eq_of_beq_eq_true hb]) h
def Lx(ops:List Oper)(rows:List (List Nat)):Prop:=∀(k:Nat) (row:List Nat),rows[k]?=some row→xI ops k row
theorem R7{ops:List Oper}(h0:nQ ops=true){ax:List Bool}{i j:Nat}{oi oj:Oper}(jK:i≠j)(hi:ops[i]?=some oi)(hj:ops[j]?=some oj)(BY:ax.getD i true=false)(BX:ax.getD j true=false)(cJ:pT ops ax oi)(FP:pT ops ax oj):oi.apart ops.toArray oj=true:=by
 rcases (Db h0).2 i j oi oj hi hj with e | e | e | e
 ·exact absurd e jK
 ·obtain⟨ed,h1,h2,rfl⟩:=uz e
  have:=cJ ed (by simpa using h1) h2
  rw[AA BX]at this;cases this
 ·obtain⟨ed,h1,h2,rfl⟩:=uz e
  have:=FP ed (by simpa using h1) h2
  rw[AA BY]at this;cases this
 ·exact e
theorem Rr{ops:List Oper}{k:Nat}(h:xP ops k=true):∃o,ops[k]?=some o∧A3 o.op=true:=by
 unfold xP at h
 split at h
 ·rename_i o ho;exact⟨o,ho,h⟩
 ·cases h
theorem HF{ops:List Oper}{rows:List (List Nat)}{Q:List Nat}{ax:List Bool}{j:Nat}(h:uY ops rows Q ax j=true):∃o,ops[j]?=some o∧qF ops Q j=false∧((blind o.op=true∧dB j Q=false)∨∀k,k<ops.length→ax.getD k false=true∨qF ops Q k=false∨dB j ((rows[k]?).getD [])=true∨(o9 o.op=true∧dB j Q=false∧xP ops k=true)):=by
 unfold uY at h
 split at h
 ·rename_i o ho
  refine⟨o,ho,?_⟩
  simp only[Bool.or_eq_true,Bool.and_eq_true,Bool.not_eq_true']at h
  rcases h with ⟨h1,h2⟩ | ⟨h1,h2⟩
  ·exact⟨by unfold qF kU;rw[ho];simp[h1],.inl ⟨h1,h2⟩⟩
  ·refine⟨?_,.inr fun k hk =>?_⟩
   ·unfold qF kU;rw[ho]
    rcases h1 with h1 | h1 <;> simp[h1]
   ·have:=List.all_eq_true.1 h2 k (List.mem_range.2 hk)
    simp only[Bool.or_eq_true,Bool.and_eq_true,Bool.not_eq_true']at this
    rcases this with ((h | h) | h) | ⟨⟨h3,h4⟩,h5⟩
    ·exact .inl h
    ·exact .inr (.inl h)
    ·exact .inr (.inr (.inl h))
    ·exact .inr (.inr (.inr ⟨h3,h4,h5⟩))
 ·cases h
theorem O9{ops:List Oper}{rows:List (List Nat)}{Q:List Nat}{K:Tm→Hp→Prop}(h0:nQ ops=true)(hR:Lx ops rows){j:Nat}:∀(n:Nat) (ax:List Bool) (t:Tm) (σ:Hp),uP ops ax→j∈fI ops ax→uY ops rows Q ax j=true→
  gv P TT ops (dB j Q) j t σ (fun t' σ'=>mn P TT ops Q n (ax.set j true) t' σ' K)→mn P TT ops Q (n+1) ax t σ K:=by
 intro n
 induction n with
 | zero =>
  intro ax t σ hc hj hf h
  obtain⟨oj,ho,he,_⟩:=HF hf
  obtain⟨v,h1,_⟩:=D1 ho he h
  exact h1.elim
 | succ n ih =>
  intro ax t σ hc hj hf h
  obtain⟨oj,ho,he,U9⟩:=HF hf
  obtain⟨BX,oj',ez,FP⟩:=rE.1 hj
  rw[ho]at ez;cases ez
  obtain⟨v,h1,h2⟩:=D1 ho he h
  rw[rI]
  refine⟨fun hn=>by rw[hn]at hj;(cases hj),fun i hi =>?_⟩
  by_cases jK:i=j
  ·subst jK
   exact h2 t σ (fun _ _=>rfl) (.inl rfl) _ h1
  obtain⟨BY,oi,gP,cJ⟩:=rE.1 hi
  have ri:=Oper.apart_spec (R7 h0 jK gP ho BY BX cJ FP)
  rw[rI]at h1
  have nm:=h1.2 i (H7 hi jK)
  have vm:∀d∈oi.looksAt ops.toArray,t d=put t oj.dst v d:=fun d hd=>(J6 fun e=>ri.2.2 d e hd).symm
  have E0:∀u,put (put t oj.dst v) oi.dst u=put (put t oi.dst u) oj.dst v:=fun u=>Tb fun x hx hi=>ri.2.1 x hi hx
  have iF:(ax.set j true).set i true=(ax.set i true).set j true:=List.set_comm _ _ (Ne.symm jK)
  have yP:=hc.set gP cJ
  have nA:=H7 hj (Ne.symm jK)
  have hfi:uY ops rows Q (ax.set i true) j=true:=by
   unfold uY at hf ⊢
   rw[ho]at hf ⊢
   simp only[Bool.or_eq_true,Bool.and_eq_true,Bool.not_eq_true']at hf ⊢
   refine hf.imp id fun h=>⟨h.1,List.all_eq_true.2 fun k hk =>?_⟩
   have:=List.all_eq_true.1 h.2 k hk
   simp only[Bool.or_eq_true,Bool.not_eq_true']at this ⊢
   exact this.imp (fun h=>h.imp (fun h=>h.imp GI id) id) id
  have hlj:∀u,∀d∈oj.looksAt ops.toArray,put t oi.dst u d=t d:=fun u d hd=>J6 fun e=>ri.1 d e hd
  have fin:∀u σ',(σ'=σ∨(blind oj.op=true∧dB j Q=false)∨(o9 oj.op=true∧dB j Q=false∧∃c,σ'=c::σ))→mn P TT ops Q n ((ax.set j true).set i true) (put (put t oj.dst v) oi.dst u) σ' K→mn P TT ops Q (n+1) (ax.set i true) (put t oi.dst u) σ' K:=fun u σ' aD hh=>by
   refine ih (ax.set i true) (put t oi.dst u) σ' yP nA hfi ?_
   refine h2 _ σ' (hlj u) aD _ ?_
   rw[iF,E0]at hh
   exact hh
  cases vW:qF ops Q i with
  | true =>
   have hb:(blind oj.op=true∧dB j Q=false)∨(o9 oj.op=true∧dB j Q=false∧xP ops i=true):=by
    rcases U9 with h | h
    ·exact .inl h
    ·have ab:i<ops.length:=(List.getElem?_eq_some_iff.1 gP).1
     rcases h i ab with h | h | h | h
     ·rw[AA BY]at h;cases h
     ·rw[vW]at h;cases h
     rotate_left
     ·exact .inr h
     ·cases hq:rows[i]? with
      | none=>rw[hq]at h;cases h
      | some row =>
       rw[hq]at h
       have:=hR i row hq oi gP ax hc cJ j (Jt.1 h)
       rw[AA BX]at this;cases this
   rcases hb with hb | ⟨hl,hq,ei⟩
   ·exact z8 gP vm (fun u σ' hh=>fin u σ' (.inr (.inl hb)) hh) nm
   ·obtain⟨oi',Ms,hn⟩:=Rr ei
    rw[gP]at Ms;cases Ms
    have hqi:dB i Q=false:=by
     unfold qF at vW
     rw[gP]at vW
     simp only[Bool.and_eq_true,Bool.not_eq_true']at vW
     exact vW.2
    rw[hqi]at nm ⊢
    exact Rp gP hn vm (fun u c hh=>fin u (c::σ) (.inr (.inr ⟨hl,hq,c,rfl⟩)) hh) (fun u hh=>fin u σ (.inl rfl) hh) nm
  | false =>
   obtain⟨u,k1,k2⟩:=D1 gP vW nm
   exact k2 t σ vm (.inl rfl) _ (fin u σ (.inl rfl) k1)
theorem SX{ops:List Oper}{rows:List (List Nat)}{Q:List Nat}{K:Tm→Hp→Prop}(h0:nQ ops=true)(hR:Lx ops rows):∀(s:mP) (n:Nat) (ki:List Nat) (ax:List Bool) (t:Tm) (σ:Hp),iR ops rows Q s n ki ax=true→uP ops ax→qA P TT ops s t σ K→
  (ki=[]→mn P TT ops Q n ax t σ K)∧((∀i∈ki,i∈fI ops ax)→∀i∈ki,gv P TT ops (dB i Q) i t σ fun t' σ'=>mn P TT ops Q n (ax.set i true) t' σ' K):=by
 intro s
 induction s with
 | stop =>
  intro n ki ax t σ hs hc h
  unfold iR at hs
  split at hs
  ·rename_i n _ _ _ hr
   refine⟨fun _ =>?_,fun _ i hi=>by cases hi⟩
   rw[rI,hr]
   exact⟨fun _=>h,fun i hi=>by cases hi⟩
  ·cases hs
 | one j q s ih =>
  intro n ki ax t σ hs hc h
  have step:∀m,dB j Q=q→j∈fI ops ax→iR ops rows Q s m [] (ax.set j true)=true→gv P TT ops (dB j Q) j t σ fun t' σ'=>mn P TT ops Q m (ax.set j true) t' σ' K:=fun m hq hj hs=>by
   obtain⟨_,o,ho,hr⟩:=rE.1 hj
   rw[hq]
   have h:gv P TT ops q j t σ fun t' σ'=>qA P TT ops s t' σ' K:=h
   exact z8 ho (fun _ _=>rfl) (fun v σ' hh=>(ih m [] _ _ σ' hs (hc.set ho hr) hh).1 rfl) h
  unfold iR at hs
  split at hs
  ·rename_i n
   simp only[Bool.and_eq_true,Bool.or_eq_true,beq_iff_eq]at hs
   obtain⟨⟨⟨h1,h2⟩,h3⟩,h4⟩:=hs
   have hj:=Jt.1 h2
   refine⟨fun _ =>?_,fun _ i hi=>by cases hi⟩
   have ar:=step n h1 hj h4
   rcases h3 with h3 | h3
   ·exact O9 h0 hR n ax t σ hc hj h3 ar
   ·split at h3
    ·rename_i i hr
     rw[rI,hr]
     refine⟨fun h=>(by cases h),fun k hk =>?_⟩
     obtain rfl:=List.mem_singleton.1 hk
     obtain rfl:=Nat.eq_of_beq_eq_true h3
     exact ar
    ·cases h3
  ·rename_i i
   simp only[Bool.and_eq_true,beq_iff_eq]at hs
   obtain⟨⟨h1,h2⟩,h4⟩:=hs
   refine⟨fun h=>(by cases h),fun hp k hk =>?_⟩
   obtain rfl:=Nat.eq_of_beq_eq_true h2
   obtain rfl:=List.mem_singleton.1 hk
   exact step _ h1 (hp k hk) h4
  ·cases hs
 | alt j s r ih gz =>
  intro n ki ax t σ hs hc h
  obtain⟨ha,hb⟩:gv P TT ops false j t σ (fun t' σ'=>qA P TT ops s t' σ' K)∧qA P TT ops r t σ K:=h
  have step:∀m,dB j Q=false→j∈fI ops ax→iR ops rows Q s m [] (ax.set j true)=true→gv P TT ops (dB j Q) j t σ fun t' σ'=>mn P TT ops Q m (ax.set j true) t' σ' K:=fun m hq hj hs=>by
   obtain⟨_,o,ho,hr⟩:=rE.1 hj
   rw[hq]
   exact z8 ho (fun _ _=>rfl) (fun v σ' hh=>(ih m [] _ _ σ' hs (hc.set ho hr) hh).1 rfl) ha
  unfold iR at hs
  split at hs
  ·rename_i n
   split at hs
   ·rename_i i i2 l hr
    simp only[Bool.and_eq_true,Bool.not_eq_true']at hs
    obtain⟨⟨⟨h1,h2⟩,h3⟩,h4⟩:=hs
    obtain rfl:=Nat.eq_of_beq_eq_true h1
    refine⟨fun _ =>?_,fun _ i hi=>by cases hi⟩
    rw[rI,hr]
    refine⟨fun h=>(by cases h),fun k hk =>?_⟩
    rcases List.mem_cons.1 hk with rfl | hk
    ·exact step n h2 (by rw[hr];exact List.mem_cons_self ..) h3
    ·exact (gz n (i2::l) ax t σ h4 hc hb).2 (fun i hi=>by rw[hr];exact List.mem_cons_of_mem _ hi) k hk
   ·cases hs
  ·rename_i i i2 l
   simp only[Bool.and_eq_true,Bool.not_eq_true']at hs
   obtain⟨⟨⟨h1,h2⟩,h3⟩,h4⟩:=hs
   obtain rfl:=Nat.eq_of_beq_eq_true h1
   refine⟨fun h=>(by cases h),fun hp k hk =>?_⟩
   rcases List.mem_cons.1 hk with rfl | hk
   ·exact step n h2 (hp _ (List.mem_cons_self ..)) h3
   ·exact (gz n (i2::l) ax t σ h4 hc hb).2 (fun i hi=>hp i (List.mem_cons_of_mem _ hi)) k hk
  ·cases hs
 | ML j s r ih gz =>
  intro n ki ax t σ hs hc h
  obtain⟨ha,hb⟩:gv P TT ops true j t σ (fun t' σ'=>qA P TT ops s t' σ' K)∧qA P TT ops r t σ K:=h
  have step:∀m,dB j Q=true→j∈fI ops ax→iR ops rows Q s m [] (ax.set j true)=true→gv P TT ops (dB j Q) j t σ fun t' σ'=>mn P TT ops Q m (ax.set j true) t' σ' K:=fun m hq hj hs=>by
   obtain⟨_,o,ho,hr⟩:=rE.1 hj
   rw[hq]
   exact z8 ho (fun _ _=>rfl) (fun v σ' hh=>(ih m [] _ _ σ' hs (hc.set ho hr) hh).1 rfl) ha
  unfold iR at hs
  split at hs
  ·rename_i n
   split at hs
   ·rename_i i i2 l hr
    simp only[Bool.and_eq_true]at hs
    obtain⟨⟨⟨h1,h2⟩,h3⟩,h4⟩:=hs
    obtain rfl:=Nat.eq_of_beq_eq_true h1
    refine⟨fun _ =>?_,fun _ i hi=>by cases hi⟩
    rw[rI,hr]
    refine⟨fun h=>(by cases h),fun k hk =>?_⟩
    rcases List.mem_cons.1 hk with rfl | hk
    ·exact step n h2 (by rw[hr];exact List.mem_cons_self ..) h3
    ·exact (gz n (i2::l) ax t σ h4 hc hb).2 (fun i hi=>by rw[hr];exact List.mem_cons_of_mem _ hi) k hk
   ·cases hs
  ·rename_i i i2 l
   simp only[Bool.and_eq_true]at hs
   obtain⟨⟨⟨h1,h2⟩,h3⟩,h4⟩:=hs
   obtain rfl:=Nat.eq_of_beq_eq_true h1
   refine⟨fun h=>(by cases h),fun hp k hk =>?_⟩
   rcases List.mem_cons.1 hk with rfl | hk
   ·exact step n h2 (hp _ (List.mem_cons_self ..)) h3
   ·exact (gz n (i2::l) ax t σ h4 hc hb).2 (fun i hi=>hp i (List.mem_cons_of_mem _ hi)) k hk
  ·cases hs
theorem O6{o:Oper}{ρ:Operand→AV}{σ:Hp}{K:AV→Prop}(ok:ck P TT)(h:qQ P TT o.op ρ σ K)(a:Act)(F:Nat→Prop)(w:World)(hx:∀x∈o.op.operands.toList,aA F w (ρ x) (a.eval x))(aD:aV F w σ)(next:Act→World→Prop)(Q:Exit→Act→World→Prop)(hn:∀v u F' w',a6 F w F' w'→aV F' w' σ→aA F' w' v u→K v→next (a.put o.dst u) w'):wq P o a w next Q:=by
 obtain⟨v,h1,h2⟩:=Ii ok h
 exact h2 a F w hx aD next Q fun u F' w' k1 k2 k3=>hn v u F' w' k1 k2 k3 h1
theorem TY(ok:ck P TT){B n:Nat}{ops:List Oper}{Q:List Nat}(hd:∀o∈ops,∀d,o.dst=some d→d<n){K:Tm→Hp→Prop}{Q':Exit→Act→World→Prop}{F0:Nat→Prop}{w0:World}(hq:∀t' σ' F' w' a',a6 F0 w0 F' w'→ca B n F' w' t' σ' a'→K t' σ'→Q' .normal a' w'):
  ∀(m:Nat) (ax:List Bool) (t:Tm) (σ:Hp) (F:Nat→Prop) (w:World) (a:Act),left ax.toArray≤m→ax.length=ops.length→mn P TT ops Q (m+1) ax t σ K→ca B n F w t σ a→a6 F0 w0 F w→rY P .any ops.toArray (r7 Q') m ax.toArray a w:=by
 intro m
 induction m with
 | zero =>
  intro ax t σ F w a hl hlen h hs ar
  have hr:fI ops ax=[]:=by
   rw[← nM,List.eq_nil_iff_forall_not_mem]
   intro j hj
   have:=(mem_ready.1 hj).1
   rw[C1 (by omega)]at this
   cases this
  rw[rI]at h
  exact⟨by rw[nM];exact hr,hq t σ F w a ar hs (h.1 hr)⟩
 | succ m ih =>
  intro ax t σ F w a hl hlen h hs ar
  rw[rI]at h
  refine⟨fun hr=>hq t σ F w a ar hs (h.1 (by rw[← nM];exact hr)),fun j hj =>?_⟩
  rw[nM]at hj
  have h:=h.2 j hj
  have guard:∀{o:Oper} {b:Bool},qg ops o t b→Region.wanted o (yielded ops.toArray a.tmps)=b:=fun hg=>zQ hg fun d _=>⟨F,w,hs.tm d⟩
  obtain⟨eb,o,ho,_⟩:=rE.1 hj
  have iF:(ax.set j true).toArray=ax.toArray.setIfInBounds j true:=by simp
  have W7:ax.toArray.getD j true=false:=by
   rw[Array.getD_eq_getD_getElem?,List.getElem?_toArray,← List.getD_eq_getElem?_getD];exact eb
  have ab:left (ax.toArray.setIfInBounds j true)≤m:=by have:=wR W7;omega
  have mm:∀(x:AV) (u:Value) (σ':Hp) (F':Nat→Prop) (w':World),a6 F w F' w'→aV F' w' σ'→aA F' w' x u→mn P TT ops Q (m+1) (ax.set j true) (put t o.dst x) σ' K→rY P .any ops.toArray (r7 Q') m (ax.toArray.setIfInBounds j true) (a.put o.dst u) w':=fun x u σ' F' w' q1 q2 q3 hk=>by
   rw[← iF]
   exact ih _ _ σ' F' w' _ (by rw[iF];exact ab) (by simpa using hlen) hk (hs.put q1 q2 q3 (hd o (List.mem_of_getElem? ho))) (ar.trans q1)
  unfold gv at h
  rw[ho]at h
  dsimp only at h
  unfold kO
  rw[show ops.toArray[j]?=some o by simpa using ho]
  cases hq':dB j Q with
  | true =>
   rw[hq']at h
   dsimp only at h
   rcases sV h with ⟨hg,h⟩ | ⟨hg,h⟩
   ·simp only[guard hg,if_true]
    exact (O6 ok h a F w (fun x _=>hs.tm.eval x) hs.hp _ _ fun v u F' w' k1 k2 k3 k4=>mm v u σ F' w' k1 k2 k3 k4)
   ·simp only[guard hg,Bool.false_eq_true,if_false]
    exact mm (.tup []) undef σ F w (.refl _ _) hs.hp sS h
  | false =>
   rw[hq']at h
   dsimp only at h
   rcases sV h with ⟨hg,h⟩ | ⟨hg,h⟩
   ·simp only[guard hg,if_true]
    refine (CT ok h a F w (fun x _=>hs.tm.eval x) hs.hp _ _ ?_)
    intro v av σ' F' w' q1 q2 q3 q4
    exact mm av v σ' F' w' q1 q2 q3 q4
   ·simp only[guard hg,Bool.false_eq_true,if_false]
    exact mm (.tup []) undef σ F w (.refl _ _) hs.hp sS h
theorem G0(ok:ck P TT)(hm:P.follows .mixedOrders=true){r:Option Nat}{B n id:Nat}{ops:Array Oper}{t:Tm}{σ:Hp}{K:Tm→Hp→Prop}{F:Nat→Prop}{w:World}{a:Act}{Q:Exit→Act→World→Prop}{Q0:List Nat}{s:mP}(h0:AL ops.toList Q0 s=true)(h:qA P TT ops.toList s t σ K)(hd:∀o∈ops.toList,∀d,o.dst=some d→d<n)(bC:∀o∈ops.toList,∀c,o.op≠.defer c)(hs:ca B n F w t σ a)
  (hq:∀t' σ' F' w' a',a6 F w F' w'→ca B n F' w' t' σ' a'→K t' σ'→Q .normal a' w'):(Code.region id ops true).wpIn (FW r) 0 P Q a w:=by
 have lF:a6 F w F { w with drawn:=w.drawn+1 }:=sQ hs.hp.low rfl rfl rfl (Nat.le_refl _) (fun _ _=>rfl)
 unfold AL at h0
 simp only[Bool.and_eq_true]at h0
 obtain⟨⟨h1,h2⟩,h3⟩:=h0
 have bH:=(SX (K:=K) h1 (I2 ops.toList [] [] rfl rfl (fun k row h=>by cases h)) s _ [] _ t σ h3 (fun j o ho hl=>by
  rw[List.getD_eq_getElem?_getD,List.getElem?_replicate]at hl
  split at hl <;> cases hl) h).1 rfl
 refine wpIn_mono (CB hm bC ?_) Jq
 have key:=TY (P:=P) (Q':=Q) ok hd (F0:=F) (w0:=w) hq ops.toList.length (List.replicate ops.toList.length false) t σ F { w with drawn:=w.drawn+1 } a (by
   unfold left
   refine Nat.le_trans (List.length_filter_le _ _) (by simp)) (by simp) bH ⟨hs.tm.mono lF,hs.hp.same lF (fun _ _=>rfl),hs.size,hs.defers.mono lF⟩ lF
 simpa using key
end
end Go.Proofs.YtnpidbjdilnhlaaGreat
