import Derived.Test.YtnikdflhefijbaaGreatBn7
namespace Go.Proofs.YtnikdflhefijbaaGreat
open Go.RowKit
section
variable {P:Program} {TT:TypeId→Option TI}
def One(X:(AV→Prop)→Prop):Prop:=∀K,X K→∃v,K v∧∀K':AV→Prop,K' v→X K'
theorem fM{v:AV}:One (fun K=>K v):=fun _ h=>⟨v,h,fun _ h=>h⟩
theorem cN:One (fun _=>False):=fun _ h=>h.elim
theorem qL{p:Prop}{X:(AV→Prop)→Prop}(h:One X):One (fun K=>ag p (X K)):=fun K ⟨hp,h1⟩=>by
 obtain⟨v,h2,h3⟩:=h K h1
 exact⟨v,h2,fun K' hk=>⟨hp,h3 K' hk⟩⟩
theorem Fi{v:AV}:One (fun K=>strict v K):=fun K h=>⟨v,(xW v K)▸h,fun K' h=>by show strict v K';rw[xW];exact h⟩
theorem ac6{α:Type}{l:List α}{n:Int}{f:α→AV}:One (fun K=>bG l n fun d=>K (f d)):=fun _ ⟨x,h0,h1,go⟩=>⟨f x,go,fun _ h=>⟨x,h0,h1,h⟩⟩
theorem Gr{b:Bool}:One (fun K=>og b K):=fun K h=>⟨.bool b,by cases b <;> exact h,fun K' h=>by cases b <;> exact h⟩
theorem RF{t:TypeId}{xs ys:List AV}{f:Bool→Bool}:One (fun K=>EqAt P TT t xs ys fun b=>og (f b) K):=fun K ⟨h1,h2,go⟩=>by
 obtain⟨v,k1,k2⟩:=Gr K go
 exact⟨v,k1,fun K' h=>⟨h1,h2,k2 K' h⟩⟩
theorem YD{t:TypeId}{m:String}{X:(AV→Prop)→Prop}(h:One X):One (fun K=>eS P t m (X K)):=fun K ⟨hp,h1⟩=>by
 obtain⟨v,h2,h3⟩:=h K h1
 exact⟨v,h2,fun K' hk=>⟨hp,h3 K' hk⟩⟩
theorem YB(k:TK)(want:Bool)(x y:AV):One (Ah k want x y):=by
 intro K h
 unfold Ah at h
 split at h
 all_goals first | exact⟨_,h,fun _ h=>h⟩ | exact h.elim | exact qL fM K h
theorem ac5(op:BinOp)(k:IntKind)(a b:Int):One (HG op k a b):=by
 cases op <;> first | exact Gr | exact qL fM | exact fM | exact cN
theorem YA(op:BinOp)(k:IntKind)(a b:Int):One (GM op k a b):=by
 cases op <;> first | exact qL fM | exact cN
theorem BS{b:Bool}{X Y:(AV→Prop)→Prop}(h1:One X)(h2:One Y):One (fun K=>match b with | true=>X K | false=>Y K):=by cases b;exact h2;exact h1
set_option maxHeartbeats 1000000 in
theorem ac8(op:BinOp)(t:TypeId)(y0:Operand)(x y:AV):One (DH TT op t y0 x y):=by
 unfold DH
 cases x <;> cases y
 case int.int k a k' b=>cases op <;> first | exact YA _ _ _ _ | exact BS (ac5 _ _ _ _) cN
 case bool.bool a b=>
  rcases TT t with _ | ⟨k,s,qE,z⟩
  ·exact cN
  ·cases k <;> cases op <;> first | exact Gr | exact cN
 case str.str a b=>cases op <;> first | exact Gr | exact cN
 all_goals
  cases hc:SO y0 <;> cases ht:TT t <;> cases op <;> first | exact cN | exact YB _ _ _ _
theorem aae(op:BinOp)(t:TypeId)(y0:Operand)(x y:AV):One (DJ P TT op t y0 x y):=by
 unfold DJ
 split
 ·cases op <;> first | exact RF (f:=fun b=>b) | exact RF (f:=fun b=> !b) | exact cN
 ·cases op <;> first | exact qL fM | exact cN
 ·exact ac8 _ _ _ _ _
theorem adG(op:UnOp)(x:AV):One (DO op x):=by
 unfold DO
 split <;> first | exact fM | exact cN
theorem aad(s d:TypeId)(x:AV):One (C9 TT s d x):=by
 unfold C9
 split <;> first | exact fM | exact qL fM | exact cN
theorem Yz(t:TypeId)(x:AV)(lo hi mx:Option AV):One (zX TT t x lo hi mx):=by
 unfold zX
 split
 ·split
  ·split <;> first | exact qL fM | exact cN
  ·split <;> first | exact qL fM | exact cN
  ·split <;> first | exact qL fM | exact cN
  ·exact cN
 ·split
  ·split <;> first | exact qL fM | exact cN
  ·exact cN
 ·exact cN
theorem aab(t:TypeId)(x ix:AV):One (BF TT t x ix):=by
 unfold BF
 split
 ·split <;> first | exact qL ac6 | exact qL fM | exact cN
 ·split <;> first | exact qL fM | exact cN
 ·exact cN
theorem VZ(s:TypeId)(x:AV)(f:Nat):One (BI TT s x f):=by
 unfold BI
 split
 ·split
  ·split
   ·split <;> first | exact fM | exact cN
   ·exact cN
  ·exact cN
 ·exact cN
theorem YC(s:TypeId)(x:AV)(f:Nat):One (CL TT s x f):=by
 unfold CL
 split
 ·split
  ·split
   ·split <;> first | exact fM | exact cN
   ·exact cN
  ·exact cN
 ·exact cN
theorem ac4(k:TK)(x:AV):One (Dr k x):=by
 unfold Dr
 split <;> first | exact fM | exact cN
theorem ac7(k:TK)(x:AV):One (DG k x):=by
 unfold DG
 split <;> first | exact fM | exact cN
theorem ac0(xs:List AV):One (Dm xs):=by
 unfold Dm
 split
 ·exact BS fM cN
 ·exact cN
theorem ac3(xs:List AV):One (Dn xs):=by
 unfold Dn
 split
 ·exact BS fM cN
 ·exact cN
theorem aac(x y:AV):One (C8 x y):=by
 unfold C8
 split <;> first | exact fM | exact cN
theorem aa8(x:AV):One (CT x):=by
 unfold CT
 split <;> first | exact fM | exact cN
theorem aaa(x:AV):One (CZ x):=by
 unfold CZ
 split <;> first | exact fM | exact cN
theorem aa9(i:TI)(a:AV)(σ:Hp):One (p7 i a σ):=by
 unfold p7
 split
 ·split <;> first | exact fM | exact cN
 ·exact fun K ⟨j,cs,v,h1,h2,go⟩=>⟨v,go,fun K' h=>⟨j,cs,v,h1,h2,h⟩⟩
 ·exact cN
theorem Xw(t:TypeId)(m k:AV)(c:Bool)(σ:Hp):One (Ct TT t m k c σ):=by
 unfold Ct
 split
 ·intro K ⟨j,b,l,hm,h1,go⟩
  cases c with
  |true=>exact⟨_,go,fun K' h=>⟨j,b,l,hm,h1,h⟩⟩
  |false=>exact⟨_,go,fun K' h=>⟨j,b,l,hm,h1,h⟩⟩
 ·exact cN
theorem Gq(o:Op)(ρ:Operand→AV)(σ:Hp):One (fy P TT o ρ σ):=by
 unfold fy
 split
 ·exact Fi
 ·exact Fi
 ·split
  ·exact BS Fi Fi
  ·exact cN
 ·split <;> first | exact fM | exact cN
 ·split <;> first | exact aa9 _ _ _ | exact cN
 ·split <;> first | exact fM | exact YD fM | exact cN
 ·exact aae _ _ _ _ _
 ·exact adG _ _
 ·exact aad _ _ _
 ·split <;> first | exact fM | exact cN
 ·exact fM
 ·exact Yz _ _ _ _ _
 ·exact VZ _ _ _
 ·exact YC _ _ _
 ·exact aab _ _ _
 ·split <;> first | exact BS fM fM | exact fM | exact cN
 ·exact Xw _ _ _ _ _
 ·split
  ·split <;> first | exact fM | exact cN
  ·exact cN
 ·split
  ·split <;> first | exact ac4 _ _ | exact cN
  ·exact cN
 ·split <;> first | exact ac0 _ | exact cN
 ·split <;> first | exact ac3 _ | exact cN
 ·split <;> first | exact aac _ _ | exact cN
 ·split <;> first | exact aa8 _ | exact cN
 ·split <;> first | exact aaa _ | exact cN
 ·split
  ·split <;> first | exact ac7 _ _ | exact cN
  ·exact cN
 ·exact cN
theorem XX{o:Op}(hb:blind o=true){ρ:Operand→AV}{σ σ':Hp}{K:AV→Prop}(h:fy P TT o ρ σ K):fy P TT o ρ σ' K:=by
 cases o <;> first | exact h | cases hb | (rename_i c;obtain⟨f,args,cx⟩:=c;cases f <;> first | cases hb | (rename_i b;cases b <;> first | exact h | cases hb))
theorem WD(c:Call)(ρ:Operand→AV)(σ:Hp):One (fun K=>pP P c ρ (fun f xs=>s9 P f xs σ K) (fun _ _=>False)):=by
 have LX:∀(f:FuncId) (xs:List AV),One (s9 P f xs σ):=fun f xs K h=>by
  cases h with
  |mk js r call go=>exact⟨r,go,fun K' h=>.mk js r call h⟩
  |perm hp r call go=>exact⟨r,go,fun K' h=>.perm hp r call h⟩
 unfold pP
 split
 ·split <;> first | exact LX _ _ | exact cN
 ·split
  ·exact fun K ⟨g,h,go⟩=>(LX _ _ K go).imp fun v hv=>⟨hv.1,fun K' hk=>⟨g,h,hv.2 K' hk⟩⟩
  ·exact fun K ⟨g,h,go⟩=>(LX _ _ K go).imp fun v hv=>⟨hv.1,fun K' hk=>⟨g,h,hv.2 K' hk⟩⟩
  ·exact cN
 ·exact cN
theorem SP(o:Op)(ρ:Operand→AV)(σ:Hp):One (vk P TT o ρ σ):=by
 unfold vk
 split
 ·exact Gq _ _ _
 ·exact WD _ _ _
 ·exact Gq _ _ _
theorem Xh{l:Nat}{K K':AV→Hp→Prop}(hk:∀v σ,K v σ→K' v σ){xs:List AV}{σ:Hp}(h:wI P l K xs σ):wI P l K' xs σ:=by
 cases h with
 |mk js R call go=>exact .mk js R call fun r σ' hr=>hk _ _ (go r σ' hr)
 |perm R hp call go=>exact .perm R hp call fun r σ' hr=>(go r σ' hr).imp fun ec h=>⟨h.1,hk _ _ h.2⟩
theorem W3{c:Call}{ρ:Operand→AV}{A B:FuncId→List AV→Prop}{Y Z:Nat→List AV→Prop}(pF:∀f xs,A f xs→B f xs)(D2:∀l xs,Y l xs→Z l xs)(h:pP P c ρ A Y):pP P c ρ B Z:=by
 unfold pP at h ⊢
 split at h
 ·split at h
  ·exact pF _ _ h
  ·exact D2 _ _ h
  ·exact h.elim
 ·split at h
  ·obtain⟨g,h1,h2⟩:=h;exact⟨g,h1,pF _ _ h2⟩
  ·obtain⟨g,h1,h2⟩:=h;exact⟨g,h1,pF _ _ h2⟩
  ·exact h.elim
 ·exact h.elim
theorem Zd{f:FuncId}{K K':AV→Hp→Prop}(hk:∀v σ,K v σ→K' v σ){xs:List AV}{σ:Hp}(h:CallAt P f K xs σ):CallAt P f K' xs σ:=by
 induction h with
 |mk js R call go=>exact .mk js R call fun r σ' hr=>hk _ _ (go r σ' hr)
 |perm R hp call go=>exact .perm R hp call fun r σ' hr=>(go r σ' hr).imp fun ec h=>⟨h.1,hk _ _ h.2⟩
 |cI j b off len es cs e l h1 h2 h3 h4 h ih=>exact .cI j b off len es cs e l h1 h2 h3 h4 ih
 |kp j b off len es cs e l h1 h2 h3 i k b' cs' hi hk h ih=>exact .kp j b off len es cs e l h1 h2 h3 i k b' cs' hi hk ih
theorem Zm{i:TI}{σ:Hp}{s x:AV}{K K':AV→Hp→Prop}(hk:∀v σ,K v σ→K' v σ)(h:AppendAt i σ s x K):AppendAt i σ s x K':=by
 cases h with
 |fresh n new hs hx hn hb h0 go same=>exact .fresh n new hs hx hn hb h0 (fun h b=>hk _ _ (go h b)) (fun h=>hk _ _ (same h))
 |more j b len n cs new hs h1 h2 hx hn hb h0 go=>exact .more j b len n cs new hs h1 h2 hx hn hb h0 (fun b=>hk _ _ (go b))
 |Ai j b off len n cs new hs h1 h2 hx hn hb h0 w7 go=>exact .Ai j b off len n cs new hs h1 h2 hx hn hb h0 (hk _ _ w7) (fun b=>hk _ _ (go b))
 |perm K2 hp h dF=>exact .perm K2 hp h fun v ec h=>(dF v ec h).imp fun yS h=>⟨h.1,h.2.imp (hk _ _) fun h=>⟨h.1,hk _ _ h.2⟩⟩
theorem Zl{i:TI}{σ:Hp}{s x:AV}{K K':AV→Hp→Prop}(hk:∀v σ,K v σ→K' v σ)(h:CF i σ s x K):CF i σ s x K':=by
 cases h with
 |aj k n hs hx hn hb h0 go same=>exact .aj k n hs hx hn hb h0 (fun h b=>hk _ _ (go h b)) (fun h=>hk _ _ (same h))
theorem aa4{o:Op}{ρ:Operand→AV}{σ:Hp}{K K':AV→Hp→Prop}(hk:∀v σ,K v σ→K' v σ)(h:gO P TT o ρ σ K):gO P TT o ρ σ K':=by
 have dd:∀{o:Op},fy P TT o ρ σ (fun v=>K v σ)→fy P TT o ρ σ (fun v=>K' v σ):=fun h=>by
  obtain⟨v,h1,h2⟩:=Gq _ _ _ _ h
  exact h2 _ (hk _ _ h1)
 unfold gO at h ⊢
 split at h
 ·split at h
  ·exact fun b=>hk _ _ (h b)
  ·exact h.elim
 ·split at h
  ·exact fun b=>hk _ _ (h b)
  ·exact h.elim
 ·split at h
  ·split at h
   ·split at h
    ·exact fun b=>hk _ _ (h b)
    ·exact h.elim
   ·exact h.elim
  ·exact h.elim
 ·split at h
  ·split at h
   ·exact⟨h.fact,fun b=>hk _ _ (h.go b)⟩
   ·exact h.elim
  ·exact h.elim
 ·split at h
  ·split at h
   ·obtain⟨j,cs,cs',h1,h2,go⟩:=h;exact⟨j,cs,cs',h1,h2,hk _ _ go⟩
   ·exact h.elim
  ·exact h.elim
 ·split at h
  ·exact fun b=>hk _ _ (h b)
  ·exact h.elim
 ·unfold zQ at h ⊢
  split at h
  ·obtain⟨j,b,l,hm,h1,go⟩:=h;exact⟨j,b,l,hm,h1,hk _ _ go⟩
  ·exact h.elim
 ·unfold zQ at h ⊢
  split at h
  ·obtain⟨j,b,l,hm,h1,go⟩:=h;exact⟨j,b,l,hm,h1,hk _ _ go⟩
  ·exact h.elim
 ·unfold GP at h ⊢
  split at h
  ·obtain⟨j,b,l,hm,h1,go⟩:=h;exact⟨j,b,l,hm,h1,fun r=>hk _ _ (go r)⟩
  ·exact h.elim
 ·split at h
  ·obtain⟨j,j2,r,b,l,seen,hx,h1,h2,stop,go⟩:=h;exact⟨j,j2,r,b,l,seen,hx,h1,h2,fun h=>hk _ _ (stop h),fun i p h3 h4=>hk _ _ (go i p h3 h4)⟩
  ·exact h.elim
 ·obtain⟨j,j2,r,b,i,l,p,seen,hx,h1,h2,h3,go⟩:=h;exact⟨j,j2,r,b,i,l,p,seen,hx,h1,h2,h3,hk _ _ go⟩
 ·split at h
  ·split at h
   ·split at h
    ·exact Zm hk h
    ·exact h.elim
   ·split at h
    ·exact Zl hk h
    ·exact h.elim
   ·exact h.elim
  ·exact h.elim
 ·split at h
  ·split at h
   ·split at h
    ·cases h with
     |none hs go=>exact .none hs (hk _ _ go)
     |ae j b off len cs hs h1 h2 go=>exact .ae j b off len cs hs h1 h2 (hk _ _ go)
    ·exact h.elim
   ·exact h.elim
  ·exact h.elim
 ·split at h
  ·split at h
   ·split at h
    ·cases h with
     |none new hd hx go=>exact .none new hd hx (hk _ _ go)
     |ae j b off len n cs new hd h1 h2 hx hn go=>exact .ae j b off len n cs new hd h1 h2 hx hn (hk _ _ go)
     |part j b off len cs hd h1 h2 j2 b2 nh n kE hx h3 h4 hn go=>exact .part j b off len cs hd h1 h2 j2 b2 nh n kE hx h3 h4 hn (hk _ _ go)
    ·exact h.elim
   ·exact h.elim
  ·exact h.elim
 ·exact dd h
 ·exact W3 (fun f xs h=>Zd hk h) (fun l xs h=>Xh hk h) h
 ·exact dd h
theorem map_eq{ρ iu:Operand→AV}{l:List Operand}(h:∀x∈l,ρ x=iu x):l.map ρ=l.map iu:=xD h
theorem Jr{c:Call}{ρ iu:Operand→AV}(h:∀x∈(Op.call c).operands.toList,ρ x=iu x):(∀f,c.callee=.value f→ρ f=iu f)∧(∀r m,c.callee=.invoke r m→ρ r=iu r)∧∀x∈c.args.toList,ρ x=iu x:=by
 obtain⟨f,args,cx⟩:=c
 simp only[Op.operands,Call.operands,Br,bO]at h
 refine⟨fun g e=>?_,fun r m e=>?_,fun x hx=>h x (.inr hx)⟩
 ·subst e;exact h g (.inl (by simp))
 ·subst e;exact h r (.inl (by simp))
theorem E6{c:Call}{ρ iu:Operand→AV}{A:FuncId→List AV→Prop}{Y:Nat→List AV→Prop}(h:∀x∈(Op.call c).operands.toList,ρ x=iu x):pP P c ρ A Y=pP P c iu A Y:=by
 obtain⟨h1,h2,h3⟩:=Jr h
 have e:(c.args.toList.map fun x=>bN (ρ x))=c.args.toList.map fun x=>bN (iu x):=xD fun x hx=>by rw[h3 x hx]
 unfold pP
 rw[e]
 split
 ·rename_i f hf;rw[h1 f hf]
 ·rename_i r m hr;rw[h2 r m hr]
 ·rfl
theorem J4{o:Op}{ρ iu:Operand→AV}{σ:Hp}{K:AV→Prop}(h:∀x∈o.operands.toList,ρ x=iu x):fy P TT o ρ σ K=fy P TT o iu σ K:=by
 cases o with
 |call c=>
  obtain⟨f,args,cx⟩:=c
  obtain⟨_,_,h3⟩:=Jr h
  cases f with
  |builtin b=>
   obtain⟨l⟩:=args
   have h3:∀x∈l,ρ x=iu x:=h3
   match l,h3 with
   | [],_=>cases b <;> rfl
   | [x],h3=>
    have hx:=h3 x (by simp)
    cases b <;> first | rfl | (obtain⟨cx⟩:=cx;rcases cx with _ | ⟨t,_ | ⟨t',_ | ⟨yX,r⟩⟩⟩ <;> first | rfl | simp only[fy,hx])
   | [x,y],h3=>
    have hx:=h3 x (by simp)
    have hy:=h3 y (by simp)
    cases b <;> first | rfl | (obtain⟨cx⟩:=cx;rcases cx with _ | ⟨t,_ | ⟨t',_ | ⟨yX,r⟩⟩⟩ <;> first | rfl | simp only[fy,hx,hy])
   |_::_::_::_,_=>cases b <;> rfl
  |_=>rfl
 |build t parts=>
  have e:(parts.toList.map fun p=>(p.1,ρ p.2))=parts.toList.map fun p=>(p.1,iu p.2):=xD fun p hp=>by rw[h p.2 (by simp only[Op.operands];exact dX.2 ⟨p,hp,rfl⟩)]
  show (match G1 TT t (parts.toList.map fun p=>(p.1,ρ p.2)) with | some v=>K v | none=>False)=_
  rw[e];rfl
 |makeFunc f first cap=>
  have e1:first.toList.map ρ=first.toList.map iu:=map_eq fun x hx=>h x (by simp only[Op.operands,Br,bO];exact .inl hx)
  have e2:cap.toList.map ρ=cap.toList.map iu:=map_eq fun x hx=>h x (by simp only[Op.operands,Br,bO];exact .inr hx)
  show K (.fn f (first.toList.map ρ) (cap.toList.map ρ))=_
  rw[e1,e2];rfl
 |slice t x lo hi mx=>
  have hx:=h x (by simp[Op.operands])
  have e:∀(o:Option Operand),(∀y,o=some y→y∈(Op.slice t x lo hi mx).operands.toList)→(o.map fun x=>bN (ρ x))=o.map fun x=>bN (iu x):=fun o ho=>by
   cases o with
   |none=>rfl
   |some y=>simp[h y (ho y rfl)]
  show zX TT t (bN (ρ x)) (lo.map fun x=>bN (ρ x)) (hi.map fun x=>bN (ρ x)) (mx.map fun x=>bN (ρ x)) K=_
  rw[hx,e lo (fun y hy=>by subst hy;simp[Op.operands]),e hi (fun y hy=>by subst hy;simp[Op.operands]),e mx (fun y hy=>by subst hy;simp[Op.operands])];rfl
 |pick c a b=>simp only[fy,h c (by simp[Op.operands]),h a (by simp[Op.operands]),h b (by simp[Op.operands])]
 |binOp op t x y yt=>simp only[fy,h x (by simp[Op.operands]),h y (by simp[Op.operands])]
 |indexAddr t x y=>simp only[fy,h x (by simp[Op.operands]),h y (by simp[Op.operands])]
 |lookup t x y c=>simp only[fy,h x (by simp[Op.operands]),h y (by simp[Op.operands])]
 |_=>first | rfl | (rename_i x;simp only[fy,h x (by simp[Op.operands])]) | (rename_i x _;simp only[fy,h x (by simp[Op.operands])]) | (rename_i x _ _;simp only[fy,h x (by simp[Op.operands])]) | (rename_i x _ _ _;simp only[fy,h x (by simp[Op.operands])])
theorem QE{o:Op}{ρ iu:Operand→AV}{σ:Hp}{K:AV→Prop}(h:∀x∈o.operands.toList,ρ x=iu x):vk P TT o ρ σ K=vk P TT o iu σ K:=by
 have hd:=J4 (P:=P) (TT:=TT) (σ:=σ) (K:=K) h
 cases o with
 |call c=>
  obtain⟨f,args,cx⟩:=c
  cases f with
  |builtin b=>exact hd
  |value g=>exact E6 (P:=P) (A:=fun f xs=>s9 P f xs σ K) (Y:=fun _ _=>False) h
  |invoke r m=>exact E6 (P:=P) (A:=fun f xs=>s9 P f xs σ K) (Y:=fun _ _=>False) h
 |_=>exact hd
theorem QB{o:Op}{ρ iu:Operand→AV}{σ:Hp}{K:AV→Hp→Prop}(h:∀x∈o.operands.toList,ρ x=iu x):gO P TT o ρ σ K=gO P TT o iu σ K:=by
 have hd:=J4 (P:=P) (TT:=TT) (σ:=σ) (K:=fun v=>K v σ) h
 cases o with
 |call c=>
  obtain⟨f,args,cx⟩:=c
  obtain⟨_,_,h3⟩:=Jr h
  cases f with
  |builtin b=>
   obtain⟨l⟩:=args
   have h3:∀x∈l,ρ x=iu x:=h3
   match l,h3 with
   | [],_=>cases b <;> first | exact hd | rfl
   | [x],h3=>
    have hx:=h3 x (by simp)
    cases b <;> first | exact hd | rfl | (obtain⟨cx⟩:=cx;rcases cx with _ | ⟨t,_ | ⟨t',_ | ⟨yX,r⟩⟩⟩ <;> first | rfl | simp only[gO,hx])
   | [x,y],h3=>
    have hx:=h3 x (by simp)
    have hy:=h3 y (by simp)
    cases b <;> first | exact hd | rfl | (obtain⟨cx⟩:=cx;rcases cx with _ | ⟨t,_ | ⟨t',_ | ⟨yX,r⟩⟩⟩ <;> first | rfl | simp only[gO,hx,hy])
   |_::_::_::_,_=>cases b <;> first | exact hd | rfl
  |value g=>exact E6 (P:=P) (A:=fun f xs=>CallAt P f K xs σ) (Y:=fun l xs=>wI P l K xs σ) h
  |invoke r m=>exact E6 (P:=P) (A:=fun f xs=>CallAt P f K xs σ) (Y:=fun l xs=>wI P l K xs σ) h
 |box t x=>simp only[gO,h x (by simp[Op.operands])]
 |buildSlice t len parts=>
  have e:(parts.toList.map fun p=>(p.1,ρ p.2))=parts.toList.map fun p=>(p.1,iu p.2):=xD fun p hp=>by rw[h p.2 (by simp only[Op.operands];exact dX.2 ⟨p,hp,rfl⟩)]
  simp only[gO,e]
 |makeSlice t l c=>simp only[gO,h l (by simp[Op.operands]),h c (by simp[Op.operands])]
 |store t a x=>simp only[gO,h a (by simp[Op.operands]),h x (by simp[Op.operands])]
 |makeMap t r=>cases r with
  |none=>rfl
  |some r=>exact hd
 |mapUpdate t m k x=>simp only[gO,h m (by simp[Op.operands]),h k (by simp[Op.operands]),h x (by simp[Op.operands])]
 |insert t m k x=>simp only[gO,h m (by simp[Op.operands]),h k (by simp[Op.operands]),h x (by simp[Op.operands])]
 |range t x=>simp only[gO,h x (by simp[Op.operands])]
 |next x s=>simp only[gO,h x (by simp[Op.operands])]
 |entry x=>simp only[gO,h x (by simp[Op.operands])]
 |_=>first | exact hd | rfl
theorem v7{ops:List Oper}{Q:List Nat}{n:Nat}{ax:List Bool}{t:Tm}{σ:Hp}{K:Tm→Hp→Prop}:qg P TT ops Q (n+1) ax t σ K=((iL ops ax=[]→K t σ)∧∀i∈iL ops ax,jF P TT ops (eQ i Q) i t σ fun t' σ'=>qg P TT ops Q n (ax.set i true) t' σ' K):=rfl
def ua(_ops:List Oper)(ax:List Bool)(o:Oper):Prop:=∀e∈o.after.toList,Region.binds .any e=true→ax.getD e.on false=true
theorem vX{ops:List Oper}{ax:List Bool}{i:Nat}:i∈iL ops ax↔ax.getD i true=false∧∃o,ops[i]?=some o∧ua ops ax o:=by
 unfold iL ua
 simp only[nD,gw,bL,lf]
 constructor
 ·rintro⟨h1,h2,h3⟩
  refine⟨h2,ops[i],by simp[h1],?_⟩
  rw[bJ h1]at h3
  intro e he hb
  have:=fk.1 h3 e he
  simpa [hb]using this
 ·rintro⟨h2,o,h1,h3⟩
  refine⟨(cf.1 h1).1,h2,?_⟩
  rw[h1]
  refine fk.2 fun e he=>?_
  cases hb:Region.binds .any e with
  |false=>simp
  |true=>rw[h3 e he hb];simp
def zV(ops:List Oper)(ax:List Bool):Prop:=∀(j:Nat) (o:Oper),ops[j]?=some o→ax.getD j false=true→ua ops ax o
theorem OS{l:List Bool}{i k:Nat}(h:l.getD k false=true):(l.set i true).getD k false=true:=by
 rw[aW]at h ⊢
 rw[eR]
 split
 ·rename_i e;subst e
  split
  ·rfl
  ·rename_i hn;rw[tY (by omega)]at h;cases h
 ·exact h
theorem O6{l:List Bool}{i k:Nat}(b:Bool)(h:k≠i):(l.set i true).getD k b=l.getD k b:=by
 rw[aW,aW,eR,ah (Ne.symm h)]
theorem GA{l:List Bool}{i:Nat}(h:l.getD i true=false):l.getD i false=false:=by
 rw[aW]at h ⊢
 cases hq:l[i]? with
 |none=>rw[hq]at h;cases h
 |some b=>rw[hq]at h;exact h
theorem ua.set{ops:List Oper}{ax:List Bool}{o:Oper}(h:ua ops ax o)(i:Nat):ua ops (ax.set i true) o:=fun e he hb=>OS (h e he hb)
theorem zV.set{ops:List Oper}{ax:List Bool}(h:zV ops ax){j:Nat}{o:Oper}(ho:ops[j]?=some o)(hr:ua ops ax o):zV ops (ax.set j true):=by
 intro k p hp hk
 by_cases xn:k=j
 ·subst xn
  rw[ho]at hp;cases hp
  exact hr.set k
 ·rw[O6 false xn]at hk
  exact (h k p hp hk).set j
theorem Qt{ops:List Oper}{ax:List Bool}{i j:Nat}(hi:i∈iL ops ax)(h:i≠j):i∈iL ops (ax.set j true):=by
 obtain⟨h1,o,h2,h3⟩:=vX.1 hi
 exact vX.2 ⟨by rw[O6 true h];exact h1,o,h2,h3.set j⟩
theorem RP{j:Nat}{l:List Nat}:eQ j l=true↔j∈l:=by
 unfold eQ
 rw[mf]
 exact⟨fun ⟨x,h1,h2⟩=>jx h2▸h1,fun h=>⟨j,h,xz j⟩⟩
def De(ops:List Oper)(k:Nat)(row:List Nat):Prop:=∀o,ops[k]?=some o→∀ax,zV ops ax→ua ops ax o→∀j∈row,ax.getD j false=true
theorem abJ{ops:List Oper}{acc:List (List Nat)}(hlen:acc.length≤ops.length)(h:∀(k:Nat) (row:List Nat),acc[k]?=some row→De ops k row){k:Nat}{o:Oper}(ho:ops[k]?=some o):De ops k (Mr o acc):=by
 intro o' fZ ax hc hr j hj
 rw[ho]at fZ;cases fZ
 unfold Mr at hj
 obtain⟨e,he,hj⟩:=List.mem_flatMap.1 hj
 split at hj
 ·rename_i hb
  have lM:=hr e he hb
  rcases eG.1 hj with rfl | hj
  ·exact lM
  ·cases hq:acc[e.on]? with
   |none=>rw[hq]at hj;simp at hj
   |some row=>
    rw[hq]at hj
    cases hp:ops[e.on]? with
    |some p=>exact h e.on row hq p hp ax hc (hc e.on p hp lM) j (by simpa using hj)
    |none=>
     have h1:=(cf.1 hq).1
     have h2:=List.getElem?_eq_none_iff.1 hp
     omega
 ·cases hj
theorem Rr{ops:List Oper}:∀(os:List Oper) (acc:List (List Nat)) (pre:List Oper),ops=pre++os→acc.length=pre.length→(∀(k:Nat) (row:List Nat),acc[k]?=some row→De ops k row)→∀(k:Nat) (row:List Nat),(LW os acc)[k]?=some row→De ops k row
 | [],acc,pre,_,_,h=>h
 |o::os,acc,pre,he,hl,h=>by
  refine Rr os _ (pre++[o]) (by rw[he];simp) (by simp[hl]) ?_
  intro k row hk
  by_cases ab:k<acc.length
  ·rw[kf ab]at hk
   exact h k row hk
  ·have dA:=hk
   rw[iJ (by omega)]at hk
   have hz:k-acc.length=0:=by
    have:=(cf.1 hk).1
    simp at this;omega
   rw[hz]at hk
   simp only[List.getElem?_cons_zero,Option.some.injEq]at hk
   subst hk
   have aL:k=pre.length:=by omega
   have ho:ops[k]?=some o:=by rw[he,aL];simp
   intro o' fZ ax hc hr j hj
   exact abJ (by rw[he,hl];simp) h ho o' fZ ax hc hr j (List.mem_eraseDups.1 hj)
def ag3(want:Bool)(x:AV)(A B:Prop):Prop:=
 match x with
 |.bool b=>(match want,b with | true,true=>A | true,false=>B | false,true=>B | false,false=>A)
 |.tup []=>B
 |_=>False
theorem BG{ops:List Oper}{o:Oper}{t:Tm}{A B:Prop}(h:o7 ops o t A B):
  (A∧∀(t2:Tm),(∀d∈o.looksAt ops.toArray,t2 d=t d)→∀{A' B':Prop},A'→o7 ops o t2 A' B')∨(B∧∀(t2:Tm),(∀d∈o.looksAt ops.toArray,t2 d=t d)→∀{A' B':Prop},B'→o7 ops o t2 A' B'):=by
 unfold o7 at h
 split at h
 ·rename_i hg
  refine .inl ⟨h,fun t2 _ A' B' ha=>?_⟩
  unfold o7;rw[hg];exact ha
 ·rename_i j want hg
  split at h
  ·rename_i d hd
   have yN:d∈o.looksAt ops.toArray:=by
    unfold Oper.looksAt
    rw[hg]
    simp only[zk,hd,Option.toList_some,bO,bh,or_true]
   have go:∀(t2:Tm),(∀d∈o.looksAt ops.toArray,t2 d=t d)→∀{A' B':Prop},ag3 want (t d) A' B'→o7 ops o t2 A' B':=fun t2 h2 A' B' hx=>by
    unfold o7
    rw[hg]
    dsimp only
    rw[hd]
    dsimp only
    rw[h2 d yN]
    exact hx
   split at h
   ·rename_i b hb
    cases want <;> cases b
    ·exact .inl ⟨h,fun t2 h2 A' B' ha=>go t2 h2 (by rw[hb];exact ha)⟩
    ·exact .inr ⟨h,fun t2 h2 A' B' ha=>go t2 h2 (by rw[hb];exact ha)⟩
    ·exact .inr ⟨h,fun t2 h2 A' B' ha=>go t2 h2 (by rw[hb];exact ha)⟩
    ·exact .inl ⟨h,fun t2 h2 A' B' ha=>go t2 h2 (by rw[hb];exact ha)⟩
   ·rename_i hb
    exact .inr ⟨h,fun t2 h2 A' B' ha=>go t2 h2 (by rw[hb];exact ha)⟩
   ·exact h.elim
  ·exact h.elim
theorem CA{ops:List Oper}{o:Oper}{t t2:Tm}(h:∀d∈o.looksAt ops.toArray,t2 d=t d):∀x∈o.op.operands.toList,ev t2 x=ev t x:=by
 intro x hx
 cases x with
 |tmp d=>
  refine h d ?_
  unfold Oper.looksAt
  refine gD _ (List.mem_filterMap.2 ⟨_,hx,rfl⟩)
 |_=>rfl
theorem aam{o:Op}(h:sZ o=true){ρ:Operand→AV}{σ:Hp}{K:AV→Hp→Prop}:gO P TT o ρ σ K=fy P TT o ρ σ (fun v=>K v σ):=by
 cases o <;> first | rfl | cases h
theorem Zf{o:Op}(h:blind o=true){ρ:Operand→AV}{σ:Hp}{K:AV→Hp→Prop}:gO P TT o ρ σ K=fy P TT o ρ σ (fun v=>K v σ):=by
 cases o <;> first | rfl | cases h | (rename_i c;obtain⟨f,args,cx⟩:=c;cases f <;> first | cases h | (rename_i b;cases b <;> first | rfl | cases h))
theorem YQ{o:Op}(h:sZ o=true){ρ:Operand→AV}{σ:Hp}{K:AV→Prop}(c:Nat×List AV)(hd:fy P TT o ρ σ K):fy P TT o ρ (c::σ) K:=by
 have key:∀{i:TI} {a:AV},p7 i a σ K→p7 i a (c::σ) K:=fun {i a} h=>by
  unfold p7 at h ⊢
  cases a <;> first | exact h | (cases h with | mk j cs v h1 h2 go=>exact .mk (j+1) cs v h1 h2 go)
 cases o <;> first | cases h | skip
 unfold fy at hd ⊢
 dsimp only at hd ⊢
 split at hd
 ·exact key hd
 ·exact hd
theorem aaj{o:Op}(hn:Hh o=true){ρ:Operand→AV}{σ:Hp}{K K2:AV→Hp→Prop}(hk:∀v c,K v (c::σ)→K2 v (c::σ))(h:gO P TT o ρ σ K):gO P TT o ρ σ K2:=by
 cases o <;> first | cases hn | skip
 all_goals
  unfold gO at h ⊢
  dsimp only at h ⊢
  split at h
  ·exact fun b=>hk _ _ (h b)
  ·exact h
theorem Lo{ops:List Oper}{Q:List Nat}{j:Nat}{o:Oper}(ho:ops[j]?=some o){t:Tm}{σ:Hp}{K:Tm→Hp→Prop}(hk:uU ops Q j=false)(h:jF P TT ops (eQ j Q) j t σ K):
  ∃v,K (put t o.dst v) σ∧∀(t2:Tm) (σ2:Hp),(∀d∈o.looksAt ops.toArray,t2 d=t d)→(σ2=σ∨(blind o.op=true∧eQ j Q=false)∨(sZ o.op=true∧eQ j Q=false∧∃c,σ2=c::σ))→∀(K2:Tm→Hp→Prop),K2 (put t2 o.dst v) σ2→jF P TT ops (eQ j Q) j t2 σ2 K2:=by
 unfold jF at h ⊢
 rw[ho]at h ⊢
 dsimp only at h ⊢
 cases hq:eQ j Q with
 |true=>
  rw[hq]at h
  dsimp only at h ⊢
  rcases BG h with ⟨h,g⟩ | ⟨h,g⟩
  ·obtain⟨v,h1,h2⟩:=SP _ _ _ _ h
   refine⟨v,h1,fun t2 σ2 ht aF K2 dF=>g t2 ht ?_⟩
   rcases aF with rfl | ⟨_,h⟩ | ⟨_,h,_⟩
   ·rw[QE (CA ht)]
    exact h2 (fun v=>K2 (put t2 o.dst v) σ2) dF
   ·cases h
   ·cases h
  ·refine⟨.tup [],h,fun t2 σ2 ht aF K2 dF=>g t2 ht ?_⟩
   rcases aF with rfl | ⟨_,h⟩ | ⟨_,h,_⟩
   ·exact dF
   ·cases h
   ·cases h
 |false=>
  rw[hq]at h
  dsimp only at h ⊢
  have aP:oc o.op=false:=by
   unfold uU at hk
   rw[ho,hq]at hk
   simpa using hk
  have e:∀(ρ:Operand→AV) (σ:Hp) (K:AV→Hp→Prop),gO P TT o.op ρ σ K=fy P TT o.op ρ σ (fun v=>K v σ):=fun ρ σ K=>by
   unfold oc at aP
   simp only[I4,qA]at aP
   rcases aP with h | h
   ·exact Zf h
   ·exact aam h
  rcases BG h with ⟨h,g⟩ | ⟨h,g⟩
  ·rw[e]at h
   obtain⟨v,h1,h2⟩:=Gq _ _ _ _ h
   refine⟨v,h1,fun t2 σ2 ht aF K2 dF=>g t2 ht ?_⟩
   rw[e,J4 (CA ht)]
   rcases aF with rfl | ⟨hb,_⟩ | ⟨hl,_,c,rfl⟩
   ·exact h2 (fun v=>K2 (put t2 o.dst v) σ2) dF
   ·exact XX hb (h2 (fun v=>K2 (put t2 o.dst v) σ2) dF)
   ·exact YQ hl c (h2 (fun v=>K2 (put t2 o.dst v) (c::σ)) dF)
  ·exact⟨.tup [],h,fun t2 σ2 ht aF K2 dF=>g t2 ht dF⟩
theorem FX{ops:List Oper}{q:Bool}{i:Nat}{o:Oper}(ho:ops[i]?=some o){t t2:Tm}{σ:Hp}{K K2:Tm→Hp→Prop}(ht:∀d∈o.looksAt ops.toArray,t2 d=t d)(hk:∀v σ',K (put t o.dst v) σ'→K2 (put t2 o.dst v) σ')(h:jF P TT ops q i t σ K):jF P TT ops q i t2 σ K2:=by
 unfold jF at h ⊢
 rw[ho]at h ⊢
 dsimp only at h ⊢
 cases q with
 |true=>
  dsimp only at h ⊢
  rcases BG h with ⟨h,g⟩ | ⟨h,g⟩
  ·obtain⟨v,h1,h2⟩:=SP _ _ _ _ h
   refine g t2 ht ?_
   rw[QE (CA ht)]
   exact h2 _ (hk _ _ h1)
  ·exact g t2 ht (hk _ _ h)
 |false=>
  dsimp only at h ⊢
  rcases BG h with ⟨h,g⟩ | ⟨h,g⟩
  ·refine g t2 ht ?_
   rw[QB (CA ht)]
   exact aa4 (fun v σ' h=>hk v σ' h) h
  ·exact g t2 ht (hk _ _ h)
theorem aaf{ops:List Oper}{i:Nat}{o:Oper}(ho:ops[i]?=some o)(hn:Hh o.op=true){t t2:Tm}{σ:Hp}{K K2:Tm→Hp→Prop}(ht:∀d∈o.looksAt ops.toArray,t2 d=t d)(hk:∀v c,K (put t o.dst v) (c::σ)→K2 (put t2 o.dst v) (c::σ))(hs:∀v,K (put t o.dst v) σ→K2 (put t2 o.dst v) σ)(h:jF P TT ops false i t σ K):jF P TT ops false i t2 σ K2:=by
 unfold jF at h ⊢
 rw[ho]at h ⊢
 dsimp only at h ⊢
 rcases BG h with ⟨h,g⟩ | ⟨h,g⟩
 ·refine g t2 ht ?_
  rw[QB (CA ht)]
  exact aaj hn (fun v c h=>hk v c h) h
 ·exact g t2 ht (hs _ h)
theorem abS{t:Tm}{d d':Option Tmp}{v v':AV}(h:∀x,d=some x→d'≠some x):put (put t d v) d' v'=put (put t d' v') d v:=by
 cases d with
 |none=>rfl
 |some x=>cases d' with
  |none=>rfl
  |some y=>
   have aP:y≠x:=fun e=>h x rfl (by rw[e])
   funext i
   show (match Nat.beq i y with | true=>v' | false=>match Nat.beq i x with | true=>v | false=>t i)=(match Nat.beq i x with | true=>v | false=>match Nat.beq i y with | true=>v' | false=>t i)
   cases h1:Nat.beq i y <;> cases h2:Nat.beq i x <;> first | rfl | exact absurd ((jx h1).symm.trans (jx h2)) aP
theorem SI{t:Tm}{d:Option Tmp}{v:AV}{x:Tmp}(h:d≠some x):put t d v x=t x:=by
 cases d with
 |none=>rfl
 |some y=>
  show (match Nat.beq x y with | true=>v | false=>t x)=t x
  cases hb:Nat.beq x y with
  |false=>rfl
  |true=>exact absurd (by rw[jx hb]) h
def Ux(ops:List Oper)(rows:List (List Nat)):Prop:=∀(k:Nat) (row:List Nat),rows[k]?=some row→De ops k row
theorem aaV{ops:List Oper}(h0:rM ops=true){ax:List Bool}{i j:Nat}{oi oj:Oper}(l9:i≠j)(hi:ops[i]?=some oi)(hj:ops[j]?=some oj)(It:ax.getD i true=false)(Is:ax.getD j true=false)(dQ:ua ops ax oi)(Nn:ua ops ax oj):oi.apart ops.toArray oj=true:=by
 rcases (Ki h0).2 i j oi oj hi hj with e | e | e | e
 ·exact absurd e l9
 ·obtain⟨ed,h1,h2,rfl⟩:=zD e
  have:=dQ ed (by simpa using h1) h2
  rw[GA Is]at this;cases this
 ·obtain⟨ed,h1,h2,rfl⟩:=zD e
  have:=Nn ed (by simpa using h1) h2
  rw[GA It]at this;cases this
 ·exact e
theorem aak{ops:List Oper}{k:Nat}(h:Dl ops k=true):∃o,ops[k]?=some o∧Hh o.op=true:=by
 unfold Dl at h
 split at h
 ·rename_i o ho;exact⟨o,ho,h⟩
 ·cases h
theorem PY{ops:List Oper}{rows:List (List Nat)}{Q:List Nat}{ax:List Bool}{j:Nat}(h:Aa ops rows Q ax j=true):∃o,ops[j]?=some o∧uU ops Q j=false∧((blind o.op=true∧eQ j Q=false)∨∀k,k<ops.length→ax.getD k false=true∨uU ops Q k=false∨eQ j ((rows[k]?).getD [])=true∨(sZ o.op=true∧eQ j Q=false∧Dl ops k=true)):=by
 unfold Aa at h
 split at h
 ·rename_i o ho
  refine⟨o,ho,?_⟩
  simp only[qA,bL,lf]at h
  rcases h with ⟨h1,h2⟩ | ⟨h1,h2⟩
  ·exact⟨by unfold uU oc;rw[ho];simp[h1],.inl ⟨h1,h2⟩⟩
  ·refine⟨?_,.inr fun k hk=>?_⟩
   ·unfold uU oc;rw[ho]
    rcases h1 with h1 | h1 <;> simp[h1]
   ·have:=fk.1 h2 k (gw.2 hk)
    simp only[qA,bL,lf]at this
    rcases this with ((h | h) | h) | ⟨⟨h3,h4⟩,h5⟩
    ·exact .inl h
    ·exact .inr (.inl h)
    ·exact .inr (.inr (.inl h))
    ·exact .inr (.inr (.inr ⟨h3,h4,h5⟩))
 ·cases h
theorem X0{ops:List Oper}{rows:List (List Nat)}{Q:List Nat}{K:Tm→Hp→Prop}(h0:rM ops=true)(hR:Ux ops rows){j:Nat}:∀(n:Nat) (ax:List Bool) (t:Tm) (σ:Hp),zV ops ax→j∈iL ops ax→Aa ops rows Q ax j=true→
  jF P TT ops (eQ j Q) j t σ (fun t' σ'=>qg P TT ops Q n (ax.set j true) t' σ' K)→qg P TT ops Q (n+1) ax t σ K:=by
 intro n
 induction n with
 |zero=>
  intro ax t σ hc hj hf h
  obtain⟨oj,ho,he,_⟩:=PY hf
  obtain⟨v,h1,_⟩:=Lo ho he h
  exact h1.elim
 |succ n ih=>
  intro ax t σ hc hj hf h
  obtain⟨oj,ho,he,adR⟩:=PY hf
  obtain⟨Is,oj',fZ,Nn⟩:=vX.1 hj
  rw[ho]at fZ;cases fZ
  obtain⟨v,h1,h2⟩:=Lo ho he h
  rw[v7]
  refine⟨fun hn=>by rw[hn]at hj;(cases hj),fun i hi=>?_⟩
  by_cases l9:i=j
  ·subst l9
   exact h2 t σ (fun _ _=>rfl) (.inl rfl) _ h1
  obtain⟨It,oi,kb,dQ⟩:=vX.1 hi
  have vG:=Oper.apart_spec (aaV h0 l9 kb ho It Is dQ Nn)
  rw[v7]at h1
  have oa:=h1.2 i (Qt hi l9)
  have Am:∀d∈oi.looksAt ops.toArray,t d=put t oj.dst v d:=fun d hd=>(SI fun e=>vG.2.2 d e hd).symm
  have wY:∀u,put (put t oj.dst v) oi.dst u=put (put t oi.dst u) oj.dst v:=fun u=>abS fun x hx hi=>vG.2.1 x hi hx
  have kT:(ax.set j true).set i true=(ax.set i true).set j true:=List.set_comm _ _ (Ne.symm l9)
  have Ej:=hc.set kb dQ
  have tH:=Qt hj (Ne.symm l9)
  have hfi:Aa ops rows Q (ax.set i true) j=true:=by
   unfold Aa at hf ⊢
   rw[ho]at hf ⊢
   simp only[qA,bL,lf]at hf ⊢
   refine hf.imp id fun h=>⟨h.1,fk.2 fun k hk=>?_⟩
   have:=fk.1 h.2 k hk
   simp only[qA,lf]at this ⊢
   exact this.imp (fun h=>h.imp (fun h=>h.imp OS id) id) id
  have hlj:∀u,∀d∈oj.looksAt ops.toArray,put t oi.dst u d=t d:=fun u d hd=>SI fun e=>vG.1 d e hd
  have fin:∀u σ',(σ'=σ∨(blind oj.op=true∧eQ j Q=false)∨(sZ oj.op=true∧eQ j Q=false∧∃c,σ'=c::σ))→qg P TT ops Q n ((ax.set j true).set i true) (put (put t oj.dst v) oi.dst u) σ' K→qg P TT ops Q (n+1) (ax.set i true) (put t oi.dst u) σ' K:=fun u σ' aF hh=>by
   refine ih (ax.set i true) (put t oi.dst u) σ' Ej tH hfi ?_
   refine h2 _ σ' (hlj u) aF _ ?_
   rw[kT,wY]at hh
   exact hh
  cases A5:uU ops Q i with
  |true=>
   have hb:(blind oj.op=true∧eQ j Q=false)∨(sZ oj.op=true∧eQ j Q=false∧Dl ops i=true):=by
    rcases adR with h | h
    ·exact .inl h
    ·have ab:i<ops.length:=(cf.1 kb).1
     rcases h i ab with h | h | h | h
     ·rw[GA It]at h;cases h
     ·rw[A5]at h;cases h
     rotate_left
     ·exact .inr h
     ·cases hq:rows[i]? with
      |none=>rw[hq]at h;cases h
      |some row=>
       rw[hq]at h
       have:=hR i row hq oi kb ax hc dQ j (RP.1 h)
       rw[GA Is]at this;cases this
   rcases hb with hb | ⟨hl,hq,gZ⟩
   ·exact FX kb Am (fun u σ' hh=>fin u σ' (.inr (.inl hb)) hh) oa
   ·obtain⟨oi',Vt,hn⟩:=aak gZ
    rw[kb]at Vt;cases Vt
    have hqi:eQ i Q=false:=by
     unfold uU at A5
     rw[kb]at A5
     simp only[bL,lf]at A5
     exact A5.2
    rw[hqi]at oa ⊢
    exact aaf kb hn Am (fun u c hh=>fin u (c::σ) (.inr (.inr ⟨hl,hq,c,rfl⟩)) hh) (fun u hh=>fin u σ (.inl rfl) hh) oa
  |false=>
   obtain⟨u,k1,k2⟩:=Lo kb A5 oa
   exact k2 t σ Am (.inl rfl) _ (fin u σ (.inl rfl) k1)
theorem abG{ops:List Oper}{rows:List (List Nat)}{Q:List Nat}{K:Tm→Hp→Prop}(h0:rM ops=true)(hR:Ux ops rows):∀(s:qF) (n:Nat) (ng:List Nat) (ax:List Bool) (t:Tm) (σ:Hp),lq ops rows Q s n ng ax=true→zV ops ax→uP P TT ops s t σ K→
  (ng=[]→qg P TT ops Q n ax t σ K)∧((∀i∈ng,i∈iL ops ax)→∀i∈ng,jF P TT ops (eQ i Q) i t σ fun t' σ'=>qg P TT ops Q n (ax.set i true) t' σ' K):=by
 intro s
 induction s with
 |stop=>
  intro n ng ax t σ hs hc h
  unfold lq at hs
  split at hs
  ·rename_i n _ _ _ hr
   refine⟨fun _=>?_,fun _ i hi=>by cases hi⟩
   rw[v7,hr]
   exact⟨fun _=>h,fun i hi=>by cases hi⟩
  ·cases hs
 |one j q s ih=>
  intro n ng ax t σ hs hc h
  have step:∀m,eQ j Q=q→j∈iL ops ax→lq ops rows Q s m [] (ax.set j true)=true→jF P TT ops (eQ j Q) j t σ fun t' σ'=>qg P TT ops Q m (ax.set j true) t' σ' K:=fun m hq hj hs=>by
   obtain⟨_,o,ho,hr⟩:=vX.1 hj
   rw[hq]
   have h:jF P TT ops q j t σ fun t' σ'=>uP P TT ops s t' σ' K:=h
   exact FX ho (fun _ _=>rfl) (fun v σ' hh=>(ih m [] _ _ σ' hs (hc.set ho hr) hh).1 rfl) h
  unfold lq at hs
  split at hs
  ·rename_i n
   simp only[bL,qA,beq_iff_eq]at hs
   obtain⟨⟨⟨h1,h2⟩,h3⟩,h4⟩:=hs
   have hj:=RP.1 h2
   refine⟨fun _=>?_,fun _ i hi=>by cases hi⟩
   have aq:=step n h1 hj h4
   rcases h3 with h3 | h3
   ·exact X0 h0 hR n ax t σ hc hj h3 aq
   ·split at h3
    ·rename_i i hr
     rw[v7,hr]
     refine⟨fun h=>(by cases h),fun k hk=>?_⟩
     obtain rfl:=bh.1 hk
     obtain rfl:=jx h3
     exact aq
    ·cases h3
  ·rename_i i
   simp only[bL,beq_iff_eq]at hs
   obtain⟨⟨h1,h2⟩,h4⟩:=hs
   refine⟨fun h=>(by cases h),fun hp k hk=>?_⟩
   obtain rfl:=jx h2
   obtain rfl:=bh.1 hk
   exact step _ h1 (hp k hk) h4
  ·cases hs
 |alt j s r ih jK=>
  intro n ng ax t σ hs hc h
  obtain⟨ha,hb⟩:jF P TT ops false j t σ (fun t' σ'=>uP P TT ops s t' σ' K)∧uP P TT ops r t σ K:=h
  have step:∀m,eQ j Q=false→j∈iL ops ax→lq ops rows Q s m [] (ax.set j true)=true→jF P TT ops (eQ j Q) j t σ fun t' σ'=>qg P TT ops Q m (ax.set j true) t' σ' K:=fun m hq hj hs=>by
   obtain⟨_,o,ho,hr⟩:=vX.1 hj
   rw[hq]
   exact FX ho (fun _ _=>rfl) (fun v σ' hh=>(ih m [] _ _ σ' hs (hc.set ho hr) hh).1 rfl) ha
  unfold lq at hs
  split at hs
  ·rename_i n
   split at hs
   ·rename_i i i2 l hr
    simp only[bL,lf]at hs
    obtain⟨⟨⟨h1,h2⟩,h3⟩,h4⟩:=hs
    obtain rfl:=jx h1
    refine⟨fun _=>?_,fun _ i hi=>by cases hi⟩
    rw[v7,hr]
    refine⟨fun h=>(by cases h),fun k hk=>?_⟩
    rcases eG.1 hk with rfl | hk
    ·exact step n h2 (by rw[hr];exact cm ..) h3
    ·exact (jK n (i2::l) ax t σ h4 hc hb).2 (fun i hi=>by rw[hr];exact cY _ hi) k hk
   ·cases hs
  ·rename_i i i2 l
   simp only[bL,lf]at hs
   obtain⟨⟨⟨h1,h2⟩,h3⟩,h4⟩:=hs
   obtain rfl:=jx h1
   refine⟨fun h=>(by cases h),fun hp k hk=>?_⟩
   rcases eG.1 hk with rfl | hk
   ·exact step n h2 (hp _ (cm ..)) h3
   ·exact (jK n (i2::l) ax t σ h4 hc hb).2 (fun i hi=>hp i (cY _ hi)) k hk
  ·cases hs
 |AK j s r ih jK=>
  intro n ng ax t σ hs hc h
  obtain⟨ha,hb⟩:jF P TT ops true j t σ (fun t' σ'=>uP P TT ops s t' σ' K)∧uP P TT ops r t σ K:=h
  have step:∀m,eQ j Q=true→j∈iL ops ax→lq ops rows Q s m [] (ax.set j true)=true→jF P TT ops (eQ j Q) j t σ fun t' σ'=>qg P TT ops Q m (ax.set j true) t' σ' K:=fun m hq hj hs=>by
   obtain⟨_,o,ho,hr⟩:=vX.1 hj
   rw[hq]
   exact FX ho (fun _ _=>rfl) (fun v σ' hh=>(ih m [] _ _ σ' hs (hc.set ho hr) hh).1 rfl) ha
  unfold lq at hs
  split at hs
  ·rename_i n
   split at hs
   ·rename_i i i2 l hr
    simp only[bL]at hs
    obtain⟨⟨⟨h1,h2⟩,h3⟩,h4⟩:=hs
    obtain rfl:=jx h1
    refine⟨fun _=>?_,fun _ i hi=>by cases hi⟩
    rw[v7,hr]
    refine⟨fun h=>(by cases h),fun k hk=>?_⟩
    rcases eG.1 hk with rfl | hk
    ·exact step n h2 (by rw[hr];exact cm ..) h3
    ·exact (jK n (i2::l) ax t σ h4 hc hb).2 (fun i hi=>by rw[hr];exact cY _ hi) k hk
   ·cases hs
  ·rename_i i i2 l
   simp only[bL]at hs
   obtain⟨⟨⟨h1,h2⟩,h3⟩,h4⟩:=hs
   obtain rfl:=jx h1
   refine⟨fun h=>(by cases h),fun hp k hk=>?_⟩
   rcases eG.1 hk with rfl | hk
   ·exact step n h2 (hp _ (cm ..)) h3
   ·exact (jK n (i2::l) ax t σ h4 hc hb).2 (fun i hi=>hp i (cY _ hi)) k hk
  ·cases hs
theorem XW{o:Oper}{ρ:Operand→AV}{σ:Hp}{K:AV→Prop}(ok:dz P TT)(h:vk P TT o.op ρ σ K)(a:Act)(F:Nat→Prop)(w:World)(hx:∀x∈o.op.operands.toList,aA F w (ρ x) (a.eval x))(aF:bg F w σ)(next:Act→World→Prop)(Q:Exit→Act→World→Prop)(hn:∀v u F' w',bE F w F' w'→bg F' w' σ→aA F' w' v u→K v→next (a.put o.dst u) w'):wq P o a w next Q:=by
 obtain⟨v,h1,h2⟩:=QD ok h
 exact h2 a F w hx aF next Q fun u F' w' k1 k2 k3=>hn v u F' w' k1 k2 k3 h1
theorem acK(ok:dz P TT){B n:Nat}{ops:List Oper}{Q:List Nat}(hd:∀o∈ops,∀d,o.dst=some d→d<n){K:Tm→Hp→Prop}{Q':Exit→Act→World→Prop}{F0:Nat→Prop}{w0:World}(hq:∀t' σ' F' w' a',bE F0 w0 F' w'→dh B n F' w' t' σ' a'→K t' σ'→Q' .normal a' w'):
  ∀(m:Nat) (ax:List Bool) (t:Tm) (σ:Hp) (F:Nat→Prop) (w:World) (a:Act),left ax.toArray≤m→ax.length=ops.length→qg P TT ops Q (m+1) ax t σ K→dh B n F w t σ a→bE F0 w0 F w→wN P .any ops.toArray (wO Q') m ax.toArray a w:=by
 intro m
 induction m with
 |zero=>
  intro ax t σ F w a hl hlen h hs aq
  have hr:iL ops ax=[]:=by
   rw[← rL,Jh]
   intro j hj
   have:=(mem_ready.1 hj).1
   rw[J9 (by omega)]at this
   cases this
  rw[v7]at h
  exact⟨by rw[rL];exact hr,hq t σ F w a aq hs (h.1 hr)⟩
 |succ m ih=>
  intro ax t σ F w a hl hlen h hs aq
  rw[v7]at h
  refine⟨fun hr=>hq t σ F w a aq hs (h.1 (by rw[← rL];exact hr)),fun j hj=>?_⟩
  rw[rL]at hj
  have h:=h.2 j hj
  have guard:∀{o:Oper} {b:Bool},uq ops o t b→Region.wanted o (yielded ops.toArray a.tmps)=b:=fun hg=>Ft hg fun d _=>⟨F,w,hs.tm d⟩
  obtain⟨e8,o,ho,_⟩:=vX.1 hj
  have kT:(ax.set j true).toArray=ax.toArray.setIfInBounds j true:=by simp
  have afA:ax.toArray.getD j true=false:=by
   rw[jy,zk,← aW];exact e8
  have ab:left (ax.toArray.setIfInBounds j true)≤m:=by have:=B6 afA;omega
  have qf:∀(x:AV) (u:Value) (σ':Hp) (F':Nat→Prop) (w':World),bE F w F' w'→bg F' w' σ'→aA F' w' x u→qg P TT ops Q (m+1) (ax.set j true) (put t o.dst x) σ' K→wN P .any ops.toArray (wO Q') m (ax.toArray.setIfInBounds j true) (a.put o.dst u) w':=fun x u σ' F' w' q1 q2 q3 hk=>by
   rw[← kT]
   exact ih _ _ σ' F' w' _ (by rw[kT];exact ab) (by simpa using hlen) hk (hs.put q1 q2 q3 (hd o (List.mem_of_getElem? ho))) (aq.trans q1)
  unfold jF at h
  rw[ho]at h
  dsimp only at h
  unfold nX
  rw[show ops.toArray[j]?=some o by simpa using ho]
  cases hq':eQ j Q with
  |true=>
   rw[hq']at h
   dsimp only at h
   rcases xT h with ⟨hg,h⟩ | ⟨hg,h⟩
   ·simp only[guard hg,if_true]
    exact (XW ok h a F w (fun x _=>hs.tm.eval x) hs.hp _ _ fun v u F' w' k1 k2 k3 k4=>qf v u σ F' w' k1 k2 k3 k4)
   ·simp only[guard hg,lN,if_false]
    exact qf (.tup []) undef σ F w (.refl _ _) hs.hp xP h
  |false=>
   rw[hq']at h
   dsimp only at h
   rcases xT h with ⟨hg,h⟩ | ⟨hg,h⟩
   ·simp only[guard hg,if_true]
    refine (J3 ok h a F w (fun x _=>hs.tm.eval x) hs.hp _ _ ?_)
    intro v av σ' F' w' q1 q2 q3 q4
    exact qf av v σ' F' w' q1 q2 q3 q4
   ·simp only[guard hg,lN,if_false]
    exact qf (.tup []) undef σ F w (.refl _ _) hs.hp xP h
theorem Pa(ok:dz P TT)(hm:P.follows .mixedOrders=true){r:Option Nat}{B n id:Nat}{ops:Array Oper}{t:Tm}{σ:Hp}{K:Tm→Hp→Prop}{F:Nat→Prop}{w:World}{a:Act}{Q:Exit→Act→World→Prop}{Q0:List Nat}{s:qF}(h0:GQ ops.toList Q0 s=true)(h:uP P TT ops.toList s t σ K)(hd:∀o∈ops.toList,∀d,o.dst=some d→d<n)(bZ:∀o∈ops.toList,∀c,o.op≠.defer c)(hs:dh B n F w t σ a)
  (hq:∀t' σ' F' w' a',bE F w F' w'→dh B n F' w' t' σ' a'→K t' σ'→Q .normal a' w'):(Code.region id ops true).wpIn (FW r) 0 P Q a w:=by
 have pc:bE F w F { w with drawn:=w.drawn+1 }:=xN hs.hp.low rfl rfl rfl (aU _) (fun _ _=>rfl)
 unfold GQ at h0
 simp only[bL]at h0
 obtain⟨⟨h1,h2⟩,h3⟩:=h0
 have cg:=(abG (K:=K) h1 (Rr ops.toList [] [] rfl rfl (fun k row h=>by cases h)) s _ [] _ t σ h3 (fun j o ho hl=>by
  rw[aW,vN]at hl
  split at hl <;> cases hl) h).1 rfl
 refine wpIn_mono (JH hm bZ ?_) RN
 have key:=acK (P:=P) (Q':=Q) ok hd (F0:=F) (w0:=w) hq ops.toList.length (List.replicate ops.toList.length false) t σ F { w with drawn:=w.drawn+1 } a (by
   unfold left
   refine Nat.le_trans (List.length_filter_le _ _) (by simp)) (by simp) cg ⟨hs.tm.mono pc,hs.hp.same pc (fun _ _=>rfl),hs.size,hs.defers.mono pc⟩ pc
 simpa using key
end
end Go.Proofs.YtnikdflhefijbaaGreat
