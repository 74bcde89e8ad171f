import Derived.Test.YtnpidbjdilnhlaaGreatBn7
namespace Go.Proofs.YtnpidbjdilnhlaaGreat
open Go.RowKit
section
variable {P:Program} {TT:TypeId→Option TI}
def One(X:(AV→Prop)→Prop):Prop:=∀K,X K→∃v,K v∧∀K':AV→Prop,K' v→X K'
theorem eN{v:AV}:One (fun K=>K v):=fun _ h=>⟨v,h,fun _ h=>h⟩
theorem bQ:One (fun _=>False):=fun _ h=>h.elim
theorem oM{p:Prop}{X:(AV→Prop)→Prop}(h:One X):One (fun K=>ag p (X K)):=fun K ⟨hp,h1⟩=>by
 obtain⟨v,h2,h3⟩:=h K h1
 exact⟨v,h2,fun K' hk=>⟨hp,h3 K' hk⟩⟩
theorem Cr{v:AV}:One (fun K=>strict v K):=fun K h=>⟨v,(vh v K)▸h,fun K' h=>by show strict v K';rw[vh];exact h⟩
theorem Yr{α:Type}{l:List α}{n:Int}{f:α→AV}:One (fun K=>bH l n fun d=>K (f d)):=fun _ ⟨x,h0,h1,go⟩=>⟨f x,go,fun _ h=>⟨x,h0,h1,h⟩⟩
theorem Dh{b:Bool}:One (fun K=>mh b K):=fun K h=>⟨.bool b,by cases b <;> exact h,fun K' h=>by cases b <;> exact h⟩
theorem Ng{t:TypeId}{xs ys:List AV}{f:Bool→Bool}:One (fun K=>EqAt P TT t xs ys fun b=>mh (f b) K):=fun K ⟨h1,h2,go⟩=>by
 obtain⟨v,k1,k2⟩:=Dh K go
 exact⟨v,k1,fun K' h=>⟨h1,h2,k2 K' h⟩⟩
theorem Uv{t:TypeId}{m:String}{X:(AV→Prop)→Prop}(h:One X):One (fun K=>dS P t m (X K)):=fun K ⟨hp,h1⟩=>by
 obtain⟨v,h2,h3⟩:=h K h1
 exact⟨v,h2,fun K' hk=>⟨hp,h3 K' hk⟩⟩
theorem Ut(k:TK)(want:Bool)(x y:AV):One (xQ k want x y):=by
 intro K h
 unfold xQ at h
 split at h
 all_goals first | exact⟨_,h,fun _ h=>h⟩ | exact h.elim | exact oM eN K h
theorem Yq(op:BinOp)(k:IntKind)(a b:Int):One (Ev op k a b):=by
 cases op <;> first | exact Dh | exact oM eN | exact eN | exact bQ
theorem Ur(op:BinOp)(k:IntKind)(a b:Int):One (Dy op k a b):=by
 cases op <;> first | exact oM eN | exact bQ
theorem zl{b:Bool}{X Y:(AV→Prop)→Prop}(h1:One X)(h2:One Y):One (fun K=>match b with | true=>X K | false=>Y K):=by cases b;exact h2;exact h1
set_option maxHeartbeats 1000000 in
theorem Yt(op:BinOp)(t:TypeId)(y0:Operand)(x y:AV):One (Bi TT op t y0 x y):=by
 unfold Bi
 cases x <;> cases y
 case int.int k a k' b=>cases op <;> first | exact Ur _ _ _ _ | exact zl (Yq _ _ _ _) bQ
 case bool.bool a b =>
  rcases TT t with _ | ⟨k,s,oz,z⟩
  ·exact bQ
  ·cases k <;> cases op <;> first | exact Dh | exact bQ
 case str.str a b=>cases op <;> first | exact Dh | exact bQ
 all_goals
  cases hc:Ox y0 <;> cases ht:TT t <;> cases op <;> first | exact bQ | exact Ut _ _ _ _
theorem Wo(op:BinOp)(t:TypeId)(y0:Operand)(x y:AV):One (Bj P TT op t y0 x y):=by
 unfold Bj
 split
 ·cases op <;> first | exact Ng (f:=fun b=>b) | exact Ng (f:=fun b => !b) | exact bQ
 ·cases op <;> first | exact oM eN | exact bQ
 ·exact Yt _ _ _ _ _
theorem Z1(op:UnOp)(x:AV):One (Bp op x):=by
 unfold Bp
 split <;> first | exact eN | exact bQ
theorem Wn(s d:TypeId)(x:AV):One (AJ TT s d x):=by
 unfold AJ
 split <;> first | exact eN | exact oM eN | exact bQ
theorem Uq(t:TypeId)(x:AV)(lo hi mx:Option AV):One (xE TT t x lo hi mx):=by
 unfold xE
 split
 ·split
  ·split <;> first | exact oM eN | exact bQ
  ·split <;> first | exact oM eN | exact bQ
  ·split <;> first | exact oM eN | exact bQ
  ·exact bQ
 ·split
  ·split <;> first | exact oM eN | exact bQ
  ·exact bQ
 ·exact bQ
theorem Wl(t:TypeId)(x ix:AV):One (y9 TT t x ix):=by
 unfold y9
 split
 ·split <;> first | exact oM Yr | exact oM eN | exact bQ
 ·split <;> first | exact oM eN | exact bQ
 ·exact bQ
theorem Rs(s:TypeId)(x:AV)(f:Nat):One (zc TT s x f):=by
 unfold zc
 split
 ·split
  ·split
   ·split <;> first | exact eN | exact bQ
   ·exact bQ
  ·exact bQ
 ·exact bQ
theorem Uu(s:TypeId)(x:AV)(f:Nat):One (Al TT s x f):=by
 unfold Al
 split
 ·split
  ·split
   ·split <;> first | exact eN | exact bQ
   ·exact bQ
  ·exact bQ
 ·exact bQ
theorem Yp(k:TK)(x:AV):One (A4 k x):=by
 unfold A4
 split <;> first | exact eN | exact bQ
theorem Ys(k:TK)(x:AV):One (Bh k x):=by
 unfold Bh
 split <;> first | exact eN | exact bQ
theorem Yn(xs:List AV):One (A0 xs):=by
 unfold A0
 split
 ·exact zl eN bQ
 ·exact bQ
theorem Yo(xs:List AV):One (A1 xs):=by
 unfold A1
 split
 ·exact zl eN bQ
 ·exact bQ
theorem Wm(x y:AV):One (AI x y):=by
 unfold AI
 split <;> first | exact eN | exact bQ
theorem Wi(x:AV):One (As x):=by
 unfold As
 split <;> first | exact eN | exact bQ
theorem Wk(x:AV):One (Ay x):=by
 unfold Ay
 split <;> first | exact eN | exact bQ
theorem Wj(i:TI)(a:AV)(σ:Hp):One (nO i a σ):=by
 unfold nO
 split
 ·split <;> first | exact eN | exact bQ
 ·exact fun K ⟨j,cs,v,h1,h2,go⟩=>⟨v,go,fun K' h=>⟨j,cs,v,h1,h2,h⟩⟩
 ·exact bQ
theorem S3(t:TypeId)(m k:AV)(c:Bool)(σ:Hp):One (zZ TT t m k c σ):=by
 unfold zZ
 split
 ·intro K ⟨j,b,l,hm,h1,go⟩
  cases c with
  | true=>exact⟨_,go,fun K' h=>⟨j,b,l,hm,h1,h⟩⟩
  | false=>exact⟨_,go,fun K' h=>⟨j,b,l,hm,h1,h⟩⟩
 ·exact bQ
theorem Dg(o:Op)(ρ:Operand→AV)(σ:Hp):One (eB P TT o ρ σ):=by
 unfold eB
 split
 ·exact Cr
 ·exact Cr
 ·split
  ·exact zl Cr Cr
  ·exact bQ
 ·split <;> first | exact eN | exact bQ
 ·split <;> first | exact Wj _ _ _ | exact bQ
 ·split <;> first | exact eN | exact Uv eN | exact bQ
 ·exact Wo _ _ _ _ _
 ·exact Z1 _ _
 ·exact Wn _ _ _
 ·split <;> first | exact eN | exact bQ
 ·exact eN
 ·exact Uq _ _ _ _ _
 ·exact Rs _ _ _
 ·exact Uu _ _ _
 ·exact Wl _ _ _
 ·split <;> first | exact zl eN eN | exact eN | exact bQ
 ·exact S3 _ _ _ _ _
 ·split
  ·split <;> first | exact eN | exact bQ
  ·exact bQ
 ·split
  ·split <;> first | exact Yp _ _ | exact bQ
  ·exact bQ
 ·split <;> first | exact Yn _ | exact bQ
 ·split <;> first | exact Yo _ | exact bQ
 ·split <;> first | exact Wm _ _ | exact bQ
 ·split <;> first | exact Wi _ | exact bQ
 ·split <;> first | exact Wk _ | exact bQ
 ·split
  ·split <;> first | exact Ys _ _ | exact bQ
  ·exact bQ
 ·exact bQ
theorem Tx{o:Op}(hb:blind o=true){ρ:Operand→AV}{σ σ':Hp}{K:AV→Prop}(h:eB P TT o ρ σ K):eB P TT o ρ σ' K:=by
 cases o <;> first | exact h | cases hb | (rename_i c;obtain⟨f,args,bJ⟩:=c;cases f <;> first | cases hb | (rename_i b;cases b <;> first | exact h | cases hb))
theorem R9(c:Call)(ρ:Operand→AV)(σ:Hp):One (fun K=>nG P c ρ (fun f xs=>qX P f xs σ K) (fun _ _=>False)):=by
 have Im:∀(f:FuncId) (xs:List AV),One (qX P f xs σ):=fun f xs K h=>by
  cases h with
  | mk js r call go=>exact⟨r,go,fun K' h=>.mk js r call h⟩
  | perm hp r call go=>exact⟨r,go,fun K' h=>.perm hp r call h⟩
 unfold nG
 split
 ·split <;> first | exact Im _ _ | exact bQ
 ·split
  ·exact fun K ⟨g,h,go⟩=>(Im _ _ K go).imp fun v hv=>⟨hv.1,fun K' hk=>⟨g,h,hv.2 K' hk⟩⟩
  ·exact fun K ⟨g,h,go⟩=>(Im _ _ K go).imp fun v hv=>⟨hv.1,fun K' hk=>⟨g,h,hv.2 K' hk⟩⟩
  ·exact bQ
 ·exact bQ
theorem Oy(o:Op)(ρ:Operand→AV)(σ:Hp):One (sL P TT o ρ σ):=by
 unfold sL
 split
 ·exact Dg _ _ _
 ·exact R9 _ _ _
 ·exact Dg _ _ _
theorem SI{l:Nat}{K K':AV→Hp→Prop}(hk:∀v σ,K v σ→K' v σ){xs:List AV}{σ:Hp}(h:tO P l K xs σ):tO P l K' xs σ:=by
 cases h with
 | mk js R call go=>exact .mk js R call fun r σ' hr=>hk _ _ (go r σ' hr)
 | perm R hp call go=>exact .perm R hp call fun r σ' hr=>(go r σ' hr).imp fun dh h=>⟨h.1,hk _ _ h.2⟩
theorem Sv{c:Call}{ρ:Operand→AV}{A B:FuncId→List AV→Prop}{Y Z:Nat→List AV→Prop}(nz:∀f xs,A f xs→B f xs)(BB:∀l xs,Y l xs→Z l xs)(h:nG P c ρ A Y):nG P c ρ B Z:=by
 unfold nG at h ⊢
 split at h
 ·split at h
  ·exact nz _ _ h
  ·exact BB _ _ h
  ·exact h.elim
 ·split at h
  ·obtain⟨g,h1,h2⟩:=h;exact⟨g,h1,nz _ _ h2⟩
  ·obtain⟨g,h1,h2⟩:=h;exact⟨g,h1,nz _ _ h2⟩
  ·exact h.elim
 ·exact h.elim
theorem Vf{f:FuncId}{K K':AV→Hp→Prop}(hk:∀v σ,K v σ→K' v σ){xs:List AV}{σ:Hp}(h:CallAt P f K xs σ):CallAt P f K' xs σ:=by
 induction h with
 | mk js R call go=>exact .mk js R call fun r σ' hr=>hk _ _ (go r σ' hr)
 | perm R hp call go=>exact .perm R hp call fun r σ' hr=>(go r σ' hr).imp fun dh h=>⟨h.1,hk _ _ h.2⟩
 | cb j b off len es cs e l h1 h2 h3 h4 h ih=>exact .cb j b off len es cs e l h1 h2 h3 h4 ih
 | iU j b off len es cs e l h1 h2 h3 i k b' cs' hi hk h ih=>exact .iU j b off len es cs e l h1 h2 h3 i k b' cs' hi hk ih
theorem Vn{i:TI}{σ:Hp}{s x:AV}{K K':AV→Hp→Prop}(hk:∀v σ,K v σ→K' v σ)(h:AppendAt i σ s x K):AppendAt i σ s x K':=by
 cases h with
 | fresh n new hs hx hn hb h0 go same=>exact .fresh n new hs hx hn hb h0 (fun h b=>hk _ _ (go h b)) (fun h=>hk _ _ (same h))
 | more j b len n cs new hs h1 h2 hx hn hb h0 go=>exact .more j b len n cs new hs h1 h2 hx hn hb h0 (fun b=>hk _ _ (go b))
 | xR j b off len n cs new hs h1 h2 hx hn hb h0 uk go=>exact .xR j b off len n cs new hs h1 h2 hx hn hb h0 (hk _ _ uk) (fun b=>hk _ _ (go b))
 | perm K2 hp h dm=>exact .perm K2 hp h fun v dh h=>(dm v dh h).imp fun wx h=>⟨h.1,h.2.imp (hk _ _) fun h=>⟨h.1,hk _ _ h.2⟩⟩
theorem Vm{i:TI}{σ:Hp}{s x:AV}{K K':AV→Hp→Prop}(hk:∀v σ,K v σ→K' v σ)(h:Ah i σ s x K):Ah i σ s x K':=by
 cases h with
 | af k n hs hx hn hb h0 go same=>exact .af k n hs hx hn hb h0 (fun h b=>hk _ _ (go h b)) (fun h=>hk _ _ (same h))
theorem We{o:Op}{ρ:Operand→AV}{σ:Hp}{K K':AV→Hp→Prop}(hk:∀v σ,K v σ→K' v σ)(h:fJ P TT o ρ σ K):fJ P TT o ρ σ K':=by
 have dd:∀{o:Op},eB P TT o ρ σ (fun v=>K v σ)→eB P TT o ρ σ (fun v=>K' v σ):=fun h=>by
  obtain⟨v,h1,h2⟩:=Dg _ _ _ _ h
  exact h2 _ (hk _ _ h1)
 unfold fJ at h ⊢
 split at h
 ·split at h
  ·exact fun b=>hk _ _ (h b)
  ·exact h.elim
 ·split at h
  ·exact fun b=>hk _ _ (h b)
  ·exact h.elim
 ·split at h
  ·split at h
   ·split at h
    ·exact fun b=>hk _ _ (h b)
    ·exact h.elim
   ·exact h.elim
  ·exact h.elim
 ·split at h
  ·split at h
   ·exact⟨h.fact,fun b=>hk _ _ (h.go b)⟩
   ·exact h.elim
  ·exact h.elim
 ·split at h
  ·split at h
   ·obtain⟨j,cs,cs',h1,h2,go⟩:=h;exact⟨j,cs,cs',h1,h2,hk _ _ go⟩
   ·exact h.elim
  ·exact h.elim
 ·split at h
  ·exact fun b=>hk _ _ (h b)
  ·exact h.elim
 ·unfold xt at h ⊢
  split at h
  ·obtain⟨j,b,l,hm,h1,go⟩:=h;exact⟨j,b,l,hm,h1,hk _ _ go⟩
  ·exact h.elim
 ·unfold xt at h ⊢
  split at h
  ·obtain⟨j,b,l,hm,h1,go⟩:=h;exact⟨j,b,l,hm,h1,hk _ _ go⟩
  ·exact h.elim
 ·unfold DC at h ⊢
  split at h
  ·obtain⟨j,b,l,hm,h1,go⟩:=h;exact⟨j,b,l,hm,h1,fun r=>hk _ _ (go r)⟩
  ·exact h.elim
 ·split at h
  ·obtain⟨j,j2,r,b,l,seen,hx,h1,h2,stop,go⟩:=h;exact⟨j,j2,r,b,l,seen,hx,h1,h2,fun h=>hk _ _ (stop h),fun i p h3 h4=>hk _ _ (go i p h3 h4)⟩
  ·exact h.elim
 ·obtain⟨j,j2,r,b,i,l,p,seen,hx,h1,h2,h3,go⟩:=h;exact⟨j,j2,r,b,i,l,p,seen,hx,h1,h2,h3,hk _ _ go⟩
 ·split at h
  ·split at h
   ·split at h
    ·exact Vn hk h
    ·exact h.elim
   ·split at h
    ·exact Vm hk h
    ·exact h.elim
   ·exact h.elim
  ·exact h.elim
 ·split at h
  ·split at h
   ·split at h
    ·cases h with
     | none hs go=>exact .none hs (hk _ _ go)
     | ae j b off len cs hs h1 h2 go=>exact .ae j b off len cs hs h1 h2 (hk _ _ go)
    ·exact h.elim
   ·exact h.elim
  ·exact h.elim
 ·split at h
  ·split at h
   ·split at h
    ·cases h with
     | none new hd hx go=>exact .none new hd hx (hk _ _ go)
     | ae j b off len n cs new hd h1 h2 hx hn go=>exact .ae j b off len n cs new hd h1 h2 hx hn (hk _ _ go)
     | part j b off len cs hd h1 h2 j2 b2 lu n jh hx h3 h4 hn go=>exact .part j b off len cs hd h1 h2 j2 b2 lu n jh hx h3 h4 hn (hk _ _ go)
    ·exact h.elim
   ·exact h.elim
  ·exact h.elim
 ·exact dd h
 ·exact Sv (fun f xs h=>Vf hk h) (fun l xs h=>SI hk h) h
 ·exact dd h
theorem map_eq{ρ ga:Operand→AV}{l:List Operand}(h:∀x∈l,ρ x=ga x):l.map ρ=l.map ga:=List.map_congr_left h
theorem FM{c:Call}{ρ ga:Operand→AV}(h:∀x∈(Op.call c).operands.toList,ρ x=ga x):(∀f,c.callee=.value f→ρ f=ga f)∧(∀r m,c.callee=.invoke r m→ρ r=ga r)∧∀x∈c.args.toList,ρ x=ga x:=by
 obtain⟨f,args,bJ⟩:=c
 simp only[Op.operands,Call.operands,Array.toList_append,List.mem_append]at h
 refine⟨fun g e =>?_,fun r m e =>?_,fun x hx=>h x (.inr hx)⟩
 ·subst e;exact h g (.inl (by simp))
 ·subst e;exact h r (.inl (by simp))
theorem Cf{c:Call}{ρ ga:Operand→AV}{A:FuncId→List AV→Prop}{Y:Nat→List AV→Prop}(h:∀x∈(Op.call c).operands.toList,ρ x=ga x):nG P c ρ A Y=nG P c ga A Y:=by
 obtain⟨h1,h2,h3⟩:=FM h
 have e:(c.args.toList.map fun x=>bc (ρ x))=c.args.toList.map fun x=>bc (ga x):=List.map_congr_left fun x hx=>by rw[h3 x hx]
 unfold nG
 rw[e]
 split
 ·rename_i f hf;rw[h1 f hf]
 ·rename_i r m hr;rw[h2 r m hr]
 ·rfl
theorem Gx{o:Op}{ρ ga:Operand→AV}{σ:Hp}{K:AV→Prop}(h:∀x∈o.operands.toList,ρ x=ga x):eB P TT o ρ σ K=eB P TT o ga σ K:=by
 cases o with
 | call c =>
  obtain⟨f,args,bJ⟩:=c
  obtain⟨_,_,h3⟩:=FM h
  cases f with
  | builtin b =>
   obtain⟨l⟩:=args
   have h3:∀x∈l,ρ x=ga x:=h3
   match l,h3 with
   | [],_=>cases b <;> rfl
   | [x],h3 =>
    have hx:=h3 x (by simp)
    cases b <;> first | rfl | (obtain⟨bJ⟩:=bJ;rcases bJ with _ | ⟨t,_ | ⟨t',_ | ⟨wE,r⟩⟩⟩ <;> first | rfl | simp only[eB,hx])
   | [x,y],h3 =>
    have hx:=h3 x (by simp)
    have hy:=h3 y (by simp)
    cases b <;> first | rfl | (obtain⟨bJ⟩:=bJ;rcases bJ with _ | ⟨t,_ | ⟨t',_ | ⟨wE,r⟩⟩⟩ <;> first | rfl | simp only[eB,hx,hy])
   | _::_::_::_,_=>cases b <;> rfl
  | _=>rfl
 | build t parts =>
  have e:(parts.toList.map fun p=>(p.1,ρ p.2))=parts.toList.map fun p=>(p.1,ga p.2):=List.map_congr_left fun p hp=>by rw[h p.2 (by simp only[Op.operands];exact List.mem_map.2 ⟨p,hp,rfl⟩)]
  show (match DP TT t (parts.toList.map fun p=>(p.1,ρ p.2)) with | some v=>K v | none=>False)=_
  rw[e];rfl
 | makeFunc f first cap =>
  have e1:first.toList.map ρ=first.toList.map ga:=map_eq fun x hx=>h x (by simp only[Op.operands,Array.toList_append,List.mem_append];exact .inl hx)
  have e2:cap.toList.map ρ=cap.toList.map ga:=map_eq fun x hx=>h x (by simp only[Op.operands,Array.toList_append,List.mem_append];exact .inr hx)
  show K (.fn f (first.toList.map ρ) (cap.toList.map ρ))=_
  rw[e1,e2];rfl
 | slice t x lo hi mx =>
  have hx:=h x (by simp[Op.operands])
  have e:∀(o:Option Operand),(∀y,o=some y→y∈(Op.slice t x lo hi mx).operands.toList)→(o.map fun x=>bc (ρ x))=o.map fun x=>bc (ga x):=fun o ho=>by
   cases o with
   | none=>rfl
   | some y=>simp[h y (ho y rfl)]
  show xE TT t (bc (ρ x)) (lo.map fun x=>bc (ρ x)) (hi.map fun x=>bc (ρ x)) (mx.map fun x=>bc (ρ x)) K=_
  rw[hx,e lo (fun y hy=>by subst hy;simp[Op.operands]),e hi (fun y hy=>by subst hy;simp[Op.operands]),e mx (fun y hy=>by subst hy;simp[Op.operands])];rfl
 | pick c a b=>simp only[eB,h c (by simp[Op.operands]),h a (by simp[Op.operands]),h b (by simp[Op.operands])]
 | binOp op t x y yt=>simp only[eB,h x (by simp[Op.operands]),h y (by simp[Op.operands])]
 | indexAddr t x y=>simp only[eB,h x (by simp[Op.operands]),h y (by simp[Op.operands])]
 | lookup t x y c=>simp only[eB,h x (by simp[Op.operands]),h y (by simp[Op.operands])]
 | _=>first | rfl | (rename_i x;simp only[eB,h x (by simp[Op.operands])]) | (rename_i x _;simp only[eB,h x (by simp[Op.operands])]) | (rename_i x _ _;simp only[eB,h x (by simp[Op.operands])]) | (rename_i x _ _ _;simp only[eB,h x (by simp[Op.operands])])
theorem Mj{o:Op}{ρ ga:Operand→AV}{σ:Hp}{K:AV→Prop}(h:∀x∈o.operands.toList,ρ x=ga x):sL P TT o ρ σ K=sL P TT o ga σ K:=by
 have hd:=Gx (P:=P) (TT:=TT) (σ:=σ) (K:=K) h
 cases o with
 | call c =>
  obtain⟨f,args,bJ⟩:=c
  cases f with
  | builtin b=>exact hd
  | value g=>exact Cf (P:=P) (A:=fun f xs=>qX P f xs σ K) (Y:=fun _ _=>False) h
  | invoke r m=>exact Cf (P:=P) (A:=fun f xs=>qX P f xs σ K) (Y:=fun _ _=>False) h
 | _=>exact hd
theorem Mh{o:Op}{ρ ga:Operand→AV}{σ:Hp}{K:AV→Hp→Prop}(h:∀x∈o.operands.toList,ρ x=ga x):fJ P TT o ρ σ K=fJ P TT o ga σ K:=by
 have hd:=Gx (P:=P) (TT:=TT) (σ:=σ) (K:=fun v=>K v σ) h
 cases o with
 | call c =>
  obtain⟨f,args,bJ⟩:=c
  obtain⟨_,_,h3⟩:=FM h
  cases f with
  | builtin b =>
   obtain⟨l⟩:=args
   have h3:∀x∈l,ρ x=ga x:=h3
   match l,h3 with
   | [],_=>cases b <;> first | exact hd | rfl
   | [x],h3 =>
    have hx:=h3 x (by simp)
    cases b <;> first | exact hd | rfl | (obtain⟨bJ⟩:=bJ;rcases bJ with _ | ⟨t,_ | ⟨t',_ | ⟨wE,r⟩⟩⟩ <;> first | rfl | simp only[fJ,hx])
   | [x,y],h3 =>
    have hx:=h3 x (by simp)
    have hy:=h3 y (by simp)
    cases b <;> first | exact hd | rfl | (obtain⟨bJ⟩:=bJ;rcases bJ with _ | ⟨t,_ | ⟨t',_ | ⟨wE,r⟩⟩⟩ <;> first | rfl | simp only[fJ,hx,hy])
   | _::_::_::_,_=>cases b <;> first | exact hd | rfl
  | value g=>exact Cf (P:=P) (A:=fun f xs=>CallAt P f K xs σ) (Y:=fun l xs=>tO P l K xs σ) h
  | invoke r m=>exact Cf (P:=P) (A:=fun f xs=>CallAt P f K xs σ) (Y:=fun l xs=>tO P l K xs σ) h
 | box t x=>simp only[fJ,h x (by simp[Op.operands])]
 | buildSlice t len parts =>
  have e:(parts.toList.map fun p=>(p.1,ρ p.2))=parts.toList.map fun p=>(p.1,ga p.2):=List.map_congr_left fun p hp=>by rw[h p.2 (by simp only[Op.operands];exact List.mem_map.2 ⟨p,hp,rfl⟩)]
  simp only[fJ,e]
 | makeSlice t l c=>simp only[fJ,h l (by simp[Op.operands]),h c (by simp[Op.operands])]
 | store t a x=>simp only[fJ,h a (by simp[Op.operands]),h x (by simp[Op.operands])]
 | makeMap t r=>cases r with
  | none=>rfl
  | some r=>exact hd
 | mapUpdate t m k x=>simp only[fJ,h m (by simp[Op.operands]),h k (by simp[Op.operands]),h x (by simp[Op.operands])]
 | insert t m k x=>simp only[fJ,h m (by simp[Op.operands]),h k (by simp[Op.operands]),h x (by simp[Op.operands])]
 | range t x=>simp only[fJ,h x (by simp[Op.operands])]
 | next x s=>simp only[fJ,h x (by simp[Op.operands])]
 | entry x=>simp only[fJ,h x (by simp[Op.operands])]
 | _=>first | exact hd | rfl
theorem tq{ops:List Oper}{Q:List Nat}{n:Nat}{aq:List Bool}{t:Tm}{σ:Hp}{K:Tm→Hp→Prop}:n9 P TT ops Q (n+1) aq t σ K=((gv ops aq=[]→K t σ)∧∀i∈gv ops aq,ic P TT ops (dQ i Q) i t σ fun t' σ'=>n9 P TT ops Q n (aq.set i true) t' σ' K):=rfl
def rN(_ops:List Oper)(aq:List Bool)(o:Oper):Prop:=∀e∈o.after.toList,Region.binds .any e=true→aq.getD e.on false=true
theorem tf{ops:List Oper}{aq:List Bool}{i:Nat}:i∈gv ops aq↔aq.getD i true=false∧∃o,ops[i]?=some o∧rN ops aq o:=by
 unfold gv rN
 simp only[List.mem_filter,List.mem_range,Bool.and_eq_true,Bool.not_eq_true']
 constructor
 ·rintro⟨h1,h2,h3⟩
  refine⟨h2,ops[i],by simp[h1],?_⟩
  rw[List.getElem?_eq_getElem h1]at h3
  intro e he hb
  have:=List.all_eq_true.1 h3 e he
  simpa [hb]using this
 ·rintro⟨h2,o,h1,h3⟩
  refine⟨(List.getElem?_eq_some_iff.1 h1).1,h2,?_⟩
  rw[h1]
  refine List.all_eq_true.2 fun e he =>?_
  cases hb:Region.binds .any e with
  | false=>simp
  | true=>rw[h3 e he hb];simp
def xB(ops:List Oper)(aq:List Bool):Prop:=∀(j:Nat) (o:Oper),ops[j]?=some o→aq.getD j false=true→rN ops aq o
theorem KE{l:List Bool}{i k:Nat}(h:l.getD k false=true):(l.set i true).getD k false=true:=by
 rw[List.getD_eq_getElem?_getD]at h ⊢
 rw[List.getElem?_set]
 split
 ·rename_i e;subst e
  split
  ·rfl
  ·rename_i hn;rw[List.getElem?_eq_none (by omega)]at h;cases h
 ·exact h
theorem KP{l:List Bool}{i k:Nat}(b:Bool)(h:k≠i):(l.set i true).getD k b=l.getD k b:=by
 rw[List.getD_eq_getElem?_getD,List.getD_eq_getElem?_getD,List.getElem?_set,if_neg (Ne.symm h)]
theorem Dp{l:List Bool}{i:Nat}(h:l.getD i true=false):l.getD i false=false:=by
 rw[List.getD_eq_getElem?_getD]at h ⊢
 cases hq:l[i]? with
 | none=>rw[hq]at h;cases h
 | some b=>rw[hq]at h;exact h
theorem rN.set{ops:List Oper}{aq:List Bool}{o:Oper}(h:rN ops aq o)(i:Nat):rN ops (aq.set i true) o:=fun e he hb=>KE (h e he hb)
theorem xB.set{ops:List Oper}{aq:List Bool}(h:xB ops aq){j:Nat}{o:Oper}(ho:ops[j]?=some o)(hr:rN ops aq o):xB ops (aq.set j true):=by
 intro k p hp hk
 by_cases pv:k=j
 ·subst pv
  rw[ho]at hp;cases hp
  exact hr.set k
 ·rw[KP false pv]at hk
  exact (h k p hp hk).set j
theorem L8{ops:List Oper}{aq:List Bool}{i j:Nat}(hi:i∈gv ops aq)(h:i≠j):i∈gv ops (aq.set j true):=by
 obtain⟨h1,o,h2,h3⟩:=tf.1 hi
 exact tf.2 ⟨by rw[KP true h];exact h1,o,h2,h3.set j⟩
theorem Ns{j:Nat}{l:List Nat}:dQ j l=true↔j∈l:=by
 unfold dQ
 rw[List.any_eq_true]
 exact⟨fun ⟨x,h1,h2⟩=>Nat.eq_of_beq_eq_true h2▸h1,fun h=>⟨j,h,Nat.beq_refl j⟩⟩
def AO(ops:List Oper)(k:Nat)(row:List Nat):Prop:=∀o,ops[k]?=some o→∀aq,xB ops aq→rN ops aq o→∀j∈row,aq.getD j false=true
theorem X5{ops:List Oper}{acc:List (List Nat)}(hlen:acc.length≤ops.length)(h:∀(k:Nat) (row:List Nat),acc[k]?=some row→AO ops k row){k:Nat}{o:Oper}(ho:ops[k]?=some o):AO ops k (IQ o acc):=by
 intro o' eZ aq hc hr j hj
 rw[ho]at eZ;cases eZ
 unfold IQ at hj
 obtain⟨e,he,hj⟩:=List.mem_flatMap.1 hj
 split at hj
 ·rename_i hb
  have jZ:=hr e he hb
  rcases List.mem_cons.1 hj with rfl | hj
  ·exact jZ
  ·cases hq:acc[e.on]? with
   | none=>rw[hq]at hj;simp at hj
   | some row =>
    rw[hq]at hj
    cases hp:ops[e.on]? with
    | some p=>exact h e.on row hq p hp aq hc (hc e.on p hp jZ) j (by simpa using hj)
    | none =>
     have h1:=(List.getElem?_eq_some_iff.1 hq).1
     have h2:=List.getElem?_eq_none_iff.1 hp
     omega
 ·cases hj
theorem M3{ops:List Oper}:∀(os:List Oper) (acc:List (List Nat)) (pre:List Oper),ops=pre++os→acc.length=pre.length→(∀(k:Nat) (row:List Nat),acc[k]?=some row→AO ops k row)→∀(k:Nat) (row:List Nat),(Ik os acc)[k]?=some row→AO ops k row
 | [],acc,pre,_,_,h=>h
 | o::os,acc,pre,he,hl,h=>by
  refine M3 os _ (pre++[o]) (by rw[he];simp) (by simp[hl]) ?_
  intro k row hk
  by_cases ab:k<acc.length
  ·rw[List.getElem?_append_left ab]at hk
   exact h k row hk
  ·have eL:=hk
   rw[List.getElem?_append_right (by omega)]at hk
   have hz:k-acc.length=0:=by
    have:=(List.getElem?_eq_some_iff.1 hk).1
    simp at this;omega
   rw[hz]at hk
   simp only[List.getElem?_cons_zero,Option.some.injEq]at hk
   subst hk
   have aZ:k=pre.length:=by omega
   have ho:ops[k]?=some o:=by rw[he,aZ];simp
   intro o' eZ aq hc hr j hj
   exact X5 (by rw[he,hl];simp) h ho o' eZ aq hc hr j (List.mem_eraseDups.1 hj)
def acm(want:Bool)(x:AV)(A B:Prop):Prop:=
 match x with
 | .bool b=>(match want,b with | true,true=>A | true,false=>B | false,true=>B | false,false=>A)
 | .tup []=>B
 | _=>False
theorem za{ops:List Oper}{o:Oper}{t:Tm}{A B:Prop}(h:mL ops o t A B):
  (A∧∀(t2:Tm),(∀d∈o.looksAt ops.toArray,t2 d=t d)→∀{A' B':Prop},A'→mL ops o t2 A' B')∨(B∧∀(t2:Tm),(∀d∈o.looksAt ops.toArray,t2 d=t d)→∀{A' B':Prop},B'→mL ops o t2 A' B'):=by
 unfold mL at h
 split at h
 ·rename_i hg
  refine .inl ⟨h,fun t2 _ A' B' ha =>?_⟩
  unfold mL;rw[hg];exact ha
 ·rename_i j want hg
  split at h
  ·rename_i d hd
   have wj:d∈o.looksAt ops.toArray:=by
    unfold Oper.looksAt
    rw[hg]
    simp only[List.getElem?_toArray,hd,Option.toList_some,List.mem_append,List.mem_singleton,or_true]
   have go:∀(t2:Tm),(∀d∈o.looksAt ops.toArray,t2 d=t d)→∀{A' B':Prop},acm want (t d) A' B'→mL ops o t2 A' B':=fun t2 h2 A' B' hx=>by
    unfold mL
    rw[hg]
    dsimp only
    rw[hd]
    dsimp only
    rw[h2 d wj]
    exact hx
   split at h
   ·rename_i b hb
    cases want <;> cases b
    ·exact .inl ⟨h,fun t2 h2 A' B' ha=>go t2 h2 (by rw[hb];exact ha)⟩
    ·exact .inr ⟨h,fun t2 h2 A' B' ha=>go t2 h2 (by rw[hb];exact ha)⟩
    ·exact .inr ⟨h,fun t2 h2 A' B' ha=>go t2 h2 (by rw[hb];exact ha)⟩
    ·exact .inl ⟨h,fun t2 h2 A' B' ha=>go t2 h2 (by rw[hb];exact ha)⟩
   ·rename_i hb
    exact .inr ⟨h,fun t2 h2 A' B' ha=>go t2 h2 (by rw[hb];exact ha)⟩
   ·exact h.elim
  ·exact h.elim
theorem Ad{ops:List Oper}{o:Oper}{t t2:Tm}(h:∀d∈o.looksAt ops.toArray,t2 d=t d):∀x∈o.op.operands.toList,ev t2 x=ev t x:=by
 intro x hx
 cases x with
 | tmp d =>
  refine h d ?_
  unfold Oper.looksAt
  refine List.mem_append_left _ (List.mem_filterMap.2 ⟨_,hx,rfl⟩)
 | _=>rfl
theorem Wv{o:Op}(h:qN o=true){ρ:Operand→AV}{σ:Hp}{K:AV→Hp→Prop}:fJ P TT o ρ σ K=eB P TT o ρ σ (fun v=>K v σ):=by
 cases o <;> first | rfl | cases h
theorem Vh{o:Op}(h:blind o=true){ρ:Operand→AV}{σ:Hp}{K:AV→Hp→Prop}:fJ P TT o ρ σ K=eB P TT o ρ σ (fun v=>K v σ):=by
 cases o <;> first | rfl | cases h | (rename_i c;obtain⟨f,args,bJ⟩:=c;cases f <;> first | cases h | (rename_i b;cases b <;> first | rfl | cases h))
theorem UI{o:Op}(h:qN o=true){ρ:Operand→AV}{σ:Hp}{K:AV→Prop}(c:Nat×List AV)(hd:eB P TT o ρ σ K):eB P TT o ρ (c::σ) K:=by
 have key:∀{i:TI} {a:AV},nO i a σ K→nO i a (c::σ) K:=fun {i a} h=>by
  unfold nO at h ⊢
  cases a <;> first | exact h | (cases h with | mk j cs v h1 h2 go=>exact .mk (j+1) cs v h1 h2 go)
 cases o <;> first | cases h | skip
 unfold eB at hd ⊢
 dsimp only at hd ⊢
 split at hd
 ·exact key hd
 ·exact hd
theorem Ws{o:Op}(hn:D6 o=true){ρ:Operand→AV}{σ:Hp}{K K2:AV→Hp→Prop}(hk:∀v c,K v (c::σ)→K2 v (c::σ))(h:fJ P TT o ρ σ K):fJ P TT o ρ σ K2:=by
 cases o <;> first | cases hn | skip
 all_goals
  unfold fJ at h ⊢
  dsimp only at h ⊢
  split at h
  ·exact fun b=>hk _ _ (h b)
  ·exact h
theorem HR{ops:List Oper}{Q:List Nat}{j:Nat}{o:Oper}(ho:ops[j]?=some o){t:Tm}{σ:Hp}{K:Tm→Hp→Prop}(hk:sA ops Q j=false)(h:ic P TT ops (dQ j Q) j t σ K):
  ∃v,K (put t o.dst v) σ∧∀(t2:Tm) (σ2:Hp),(∀d∈o.looksAt ops.toArray,t2 d=t d)→(σ2=σ∨(blind o.op=true∧dQ j Q=false)∨(qN o.op=true∧dQ j Q=false∧∃c,σ2=c::σ))→∀(K2:Tm→Hp→Prop),K2 (put t2 o.dst v) σ2→ic P TT ops (dQ j Q) j t2 σ2 K2:=by
 unfold ic at h ⊢
 rw[ho]at h ⊢
 dsimp only at h ⊢
 cases hq:dQ j Q with
 | true =>
  rw[hq]at h
  dsimp only at h ⊢
  rcases za h with ⟨h,g⟩ | ⟨h,g⟩
  ·obtain⟨v,h1,h2⟩:=Oy _ _ _ _ h
   refine⟨v,h1,fun t2 σ2 ht ay K2 dm=>g t2 ht ?_⟩
   rcases ay with rfl | ⟨_,h⟩ | ⟨_,h,_⟩
   ·rw[Mj (Ad ht)]
    exact h2 (fun v=>K2 (put t2 o.dst v) σ2) dm
   ·cases h
   ·cases h
  ·refine⟨.tup [],h,fun t2 σ2 ht ay K2 dm=>g t2 ht ?_⟩
   rcases ay with rfl | ⟨_,h⟩ | ⟨_,h,_⟩
   ·exact dm
   ·cases h
   ·cases h
 | false =>
  rw[hq]at h
  dsimp only at h ⊢
  have aI:mf o.op=false:=by
   unfold sA at hk
   rw[ho,hq]at hk
   simpa using hk
  have e:∀(ρ:Operand→AV) (σ:Hp) (K:AV→Hp→Prop),fJ P TT o.op ρ σ K=eB P TT o.op ρ σ (fun v=>K v σ):=fun ρ σ K=>by
   unfold mf at aI
   simp only[Bool.not_eq_false',Bool.or_eq_true]at aI
   rcases aI with h | h
   ·exact Vh h
   ·exact Wv h
  rcases za h with ⟨h,g⟩ | ⟨h,g⟩
  ·rw[e]at h
   obtain⟨v,h1,h2⟩:=Dg _ _ _ _ h
   refine⟨v,h1,fun t2 σ2 ht ay K2 dm=>g t2 ht ?_⟩
   rw[e,Gx (Ad ht)]
   rcases ay with rfl | ⟨hb,_⟩ | ⟨hl,_,c,rfl⟩
   ·exact h2 (fun v=>K2 (put t2 o.dst v) σ2) dm
   ·exact Tx hb (h2 (fun v=>K2 (put t2 o.dst v) σ2) dm)
   ·exact UI hl c (h2 (fun v=>K2 (put t2 o.dst v) (c::σ)) dm)
  ·exact⟨.tup [],h,fun t2 σ2 ht ay K2 dm=>g t2 ht dm⟩
theorem CW{ops:List Oper}{q:Bool}{i:Nat}{o:Oper}(ho:ops[i]?=some o){t t2:Tm}{σ:Hp}{K K2:Tm→Hp→Prop}(ht:∀d∈o.looksAt ops.toArray,t2 d=t d)(hk:∀v σ',K (put t o.dst v) σ'→K2 (put t2 o.dst v) σ')(h:ic P TT ops q i t σ K):ic P TT ops q i t2 σ K2:=by
 unfold ic at h ⊢
 rw[ho]at h ⊢
 dsimp only at h ⊢
 cases q with
 | true =>
  dsimp only at h ⊢
  rcases za h with ⟨h,g⟩ | ⟨h,g⟩
  ·obtain⟨v,h1,h2⟩:=Oy _ _ _ _ h
   refine g t2 ht ?_
   rw[Mj (Ad ht)]
   exact h2 _ (hk _ _ h1)
  ·exact g t2 ht (hk _ _ h)
 | false =>
  dsimp only at h ⊢
  rcases za h with ⟨h,g⟩ | ⟨h,g⟩
  ·refine g t2 ht ?_
   rw[Mh (Ad ht)]
   exact We (fun v σ' h=>hk v σ' h) h
  ·exact g t2 ht (hk _ _ h)
theorem Wp{ops:List Oper}{i:Nat}{o:Oper}(ho:ops[i]?=some o)(hn:D6 o.op=true){t t2:Tm}{σ:Hp}{K K2:Tm→Hp→Prop}(ht:∀d∈o.looksAt ops.toArray,t2 d=t d)(hk:∀v c,K (put t o.dst v) (c::σ)→K2 (put t2 o.dst v) (c::σ))(hs:∀v,K (put t o.dst v) σ→K2 (put t2 o.dst v) σ)(h:ic P TT ops false i t σ K):ic P TT ops false i t2 σ K2:=by
 unfold ic at h ⊢
 rw[ho]at h ⊢
 dsimp only at h ⊢
 rcases za h with ⟨h,g⟩ | ⟨h,g⟩
 ·refine g t2 ht ?_
  rw[Mh (Ad ht)]
  exact Ws hn (fun v c h=>hk v c h) h
 ·exact g t2 ht (hs _ h)
theorem Ye{t:Tm}{d d':Option Tmp}{v v':AV}(h:∀x,d=some x→d'≠some x):put (put t d v) d' v'=put (put t d' v') d v:=by
 cases d with
 | none=>rfl
 | some x=>cases d' with
  | none=>rfl
  | some y =>
   have aI:y≠x:=fun e=>h x rfl (by rw[e])
   funext i
   show (match Nat.beq i y with | true=>v' | false=>match Nat.beq i x with | true=>v | false=>t i)=(match Nat.beq i x with | true=>v | false=>match Nat.beq i y with | true=>v' | false=>t i)
   cases h1:Nat.beq i y <;> cases h2:Nat.beq i x <;> first | rfl | exact absurd ((Nat.eq_of_beq_eq_true h1).symm.trans (Nat.eq_of_beq_eq_true h2)) aI
theorem Om{t:Tm}{d:Option Tmp}{v:AV}{x:Tmp}(h:d≠some x):put t d v x=t x:=by
 cases d with
 | none=>rfl
 | some y =>
  show (match Nat.beq x y with | true=>v | false=>t x)=t x
  cases hb:Nat.beq x y with
  | false=>rfl
  | true=>exact absurd (by rw[Nat.eq_of_beq_eq_true hb]) h
def P3(ops:List Oper)(rows:List (List Nat)):Prop:=∀(k:Nat) (row:List Nat),rows[k]?=some row→AO ops k row
theorem Xk{ops:List Oper}(h0:pH ops=true){aq:List Bool}{i j:Nat}{oi oj:Oper}(gX:i≠j)(hi:ops[i]?=some oi)(hj:ops[j]?=some oj)(Fh:aq.getD i true=false)(Fg:aq.getD j true=false)(cU:rN ops aq oi)(JF:rN ops aq oj):oi.apart ops.toArray oj=true:=by
 rcases (GJ h0).2 i j oi oj hi hj with e | e | e | e
 ·exact absurd e gX
 ·obtain⟨ed,h1,h2,rfl⟩:=xb e
  have:=cU ed (by simpa using h1) h2
  rw[Dp Fg]at this;cases this
 ·obtain⟨ed,h1,h2,rfl⟩:=xb e
  have:=JF ed (by simpa using h1) h2
  rw[Dp Fh]at this;cases this
 ·exact e
theorem Wt{ops:List Oper}{k:Nat}(h:AZ ops k=true):∃o,ops[k]?=some o∧D6 o.op=true:=by
 unfold AZ at h
 split at h
 ·rename_i o ho;exact⟨o,ho,h⟩
 ·cases h
theorem LI{ops:List Oper}{rows:List (List Nat)}{Q:List Nat}{aq:List Bool}{j:Nat}(h:xL ops rows Q aq j=true):∃o,ops[j]?=some o∧sA ops Q j=false∧((blind o.op=true∧dQ j Q=false)∨∀k,k<ops.length→aq.getD k false=true∨sA ops Q k=false∨dQ j ((rows[k]?).getD [])=true∨(qN o.op=true∧dQ j Q=false∧AZ ops k=true)):=by
 unfold xL at h
 split at h
 ·rename_i o ho
  refine⟨o,ho,?_⟩
  simp only[Bool.or_eq_true,Bool.and_eq_true,Bool.not_eq_true']at h
  rcases h with ⟨h1,h2⟩ | ⟨h1,h2⟩
  ·exact⟨by unfold sA mf;rw[ho];simp[h1],.inl ⟨h1,h2⟩⟩
  ·refine⟨?_,.inr fun k hk =>?_⟩
   ·unfold sA mf;rw[ho]
    rcases h1 with h1 | h1 <;> simp[h1]
   ·have:=List.all_eq_true.1 h2 k (List.mem_range.2 hk)
    simp only[Bool.or_eq_true,Bool.and_eq_true,Bool.not_eq_true']at this
    rcases this with ((h | h) | h) | ⟨⟨h3,h4⟩,h5⟩
    ·exact .inl h
    ·exact .inr (.inl h)
    ·exact .inr (.inr (.inl h))
    ·exact .inr (.inr (.inr ⟨h3,h4,h5⟩))
 ·cases h
theorem TA{ops:List Oper}{rows:List (List Nat)}{Q:List Nat}{K:Tm→Hp→Prop}(h0:pH ops=true)(hR:P3 ops rows){j:Nat}:∀(n:Nat) (aq:List Bool) (t:Tm) (σ:Hp),xB ops aq→j∈gv ops aq→xL ops rows Q aq j=true→
  ic P TT ops (dQ j Q) j t σ (fun t' σ'=>n9 P TT ops Q n (aq.set j true) t' σ' K)→n9 P TT ops Q (n+1) aq t σ K:=by
 intro n
 induction n with
 | zero =>
  intro aq t σ hc hj hf h
  obtain⟨oj,ho,he,_⟩:=LI hf
  obtain⟨v,h1,_⟩:=HR ho he h
  exact h1.elim
 | succ n ih =>
  intro aq t σ hc hj hf h
  obtain⟨oj,ho,he,aa4⟩:=LI hf
  obtain⟨Fg,oj',eZ,JF⟩:=tf.1 hj
  rw[ho]at eZ;cases eZ
  obtain⟨v,h1,h2⟩:=HR ho he h
  rw[tq]
  refine⟨fun hn=>by rw[hn]at hj;(cases hj),fun i hi =>?_⟩
  by_cases gX:i=j
  ·subst gX
   exact h2 t σ (fun _ _=>rfl) (.inl rfl) _ h1
  obtain⟨Fh,oi,iJ,cU⟩:=tf.1 hi
  have sZ:=Oper.apart_spec (Xk h0 gX iJ ho Fh Fg cU JF)
  rw[tq]at h1
  have mb:=h1.2 i (L8 hi gX)
  have xV:∀d∈oi.looksAt ops.toArray,t d=put t oj.dst v d:=fun d hd=>(Om fun e=>sZ.2.2 d e hd).symm
  have rf:∀u,put (put t oj.dst v) oi.dst u=put (put t oi.dst u) oj.dst v:=fun u=>Ye fun x hx hi=>sZ.2.1 x hi hx
  have jA:(aq.set j true).set i true=(aq.set i true).set j true:=List.set_comm _ _ (Ne.symm gX)
  have BT:=hc.set iJ cU
  have rF:=L8 hj (Ne.symm gX)
  have hfi:xL ops rows Q (aq.set i true) j=true:=by
   unfold xL at hf ⊢
   rw[ho]at hf ⊢
   simp only[Bool.or_eq_true,Bool.and_eq_true,Bool.not_eq_true']at hf ⊢
   refine hf.imp id fun h=>⟨h.1,List.all_eq_true.2 fun k hk =>?_⟩
   have:=List.all_eq_true.1 h.2 k hk
   simp only[Bool.or_eq_true,Bool.not_eq_true']at this ⊢
   exact this.imp (fun h=>h.imp (fun h=>h.imp KE id) id) id
  have hlj:∀u,∀d∈oj.looksAt ops.toArray,put t oi.dst u d=t d:=fun u d hd=>Om fun e=>sZ.1 d e hd
  have fin:∀u σ',(σ'=σ∨(blind oj.op=true∧dQ j Q=false)∨(qN oj.op=true∧dQ j Q=false∧∃c,σ'=c::σ))→n9 P TT ops Q n ((aq.set j true).set i true) (put (put t oj.dst v) oi.dst u) σ' K→n9 P TT ops Q (n+1) (aq.set i true) (put t oi.dst u) σ' K:=fun u σ' ay hh=>by
   refine ih (aq.set i true) (put t oi.dst u) σ' BT rF hfi ?_
   refine h2 _ σ' (hlj u) ay _ ?_
   rw[jA,rf]at hh
   exact hh
  cases yN:sA ops Q i with
  | true =>
   have hb:(blind oj.op=true∧dQ j Q=false)∨(qN oj.op=true∧dQ j Q=false∧AZ ops i=true):=by
    rcases aa4 with h | h
    ·exact .inl h
    ·have ab:i<ops.length:=(List.getElem?_eq_some_iff.1 iJ).1
     rcases h i ab with h | h | h | h
     ·rw[Dp Fh]at h;cases h
     ·rw[yN]at h;cases h
     rotate_left
     ·exact .inr h
     ·cases hq:rows[i]? with
      | none=>rw[hq]at h;cases h
      | some row =>
       rw[hq]at h
       have:=hR i row hq oi iJ aq hc cU j (Ns.1 h)
       rw[Dp Fg]at this;cases this
   rcases hb with hb | ⟨hl,hq,fP⟩
   ·exact CW iJ xV (fun u σ' hh=>fin u σ' (.inr (.inl hb)) hh) mb
   ·obtain⟨oi',QT,hn⟩:=Wt fP
    rw[iJ]at QT;cases QT
    have hqi:dQ i Q=false:=by
     unfold sA at yN
     rw[iJ]at yN
     simp only[Bool.and_eq_true,Bool.not_eq_true']at yN
     exact yN.2
    rw[hqi]at mb ⊢
    exact Wp iJ hn xV (fun u c hh=>fin u (c::σ) (.inr (.inr ⟨hl,hq,c,rfl⟩)) hh) (fun u hh=>fin u σ (.inl rfl) hh) mb
  | false =>
   obtain⟨u,k1,k2⟩:=HR iJ yN mb
   exact k2 t σ xV (.inl rfl) _ (fin u σ (.inl rfl) k1)
theorem X0{ops:List Oper}{rows:List (List Nat)}{Q:List Nat}{K:Tm→Hp→Prop}(h0:pH ops=true)(hR:P3 ops rows):∀(s:oE) (n:Nat) (lq:List Nat) (aq:List Bool) (t:Tm) (σ:Hp),jM ops rows Q s n lq aq=true→xB ops aq→su P TT ops s t σ K→
  (lq=[]→n9 P TT ops Q n aq t σ K)∧((∀i∈lq,i∈gv ops aq)→∀i∈lq,ic P TT ops (dQ i Q) i t σ fun t' σ'=>n9 P TT ops Q n (aq.set i true) t' σ' K):=by
 intro s
 induction s with
 | stop =>
  intro n lq aq t σ hs hc h
  unfold jM at hs
  split at hs
  ·rename_i n _ _ _ hr
   refine⟨fun _ =>?_,fun _ i hi=>by cases hi⟩
   rw[tq,hr]
   exact⟨fun _=>h,fun i hi=>by cases hi⟩
  ·cases hs
 | one j q s ih =>
  intro n lq aq t σ hs hc h
  have step:∀m,dQ j Q=q→j∈gv ops aq→jM ops rows Q s m [] (aq.set j true)=true→ic P TT ops (dQ j Q) j t σ fun t' σ'=>n9 P TT ops Q m (aq.set j true) t' σ' K:=fun m hq hj hs=>by
   obtain⟨_,o,ho,hr⟩:=tf.1 hj
   rw[hq]
   have h:ic P TT ops q j t σ fun t' σ'=>su P TT ops s t' σ' K:=h
   exact CW ho (fun _ _=>rfl) (fun v σ' hh=>(ih m [] _ _ σ' hs (hc.set ho hr) hh).1 rfl) h
  unfold jM at hs
  split at hs
  ·rename_i n
   simp only[Bool.and_eq_true,Bool.or_eq_true,beq_iff_eq]at hs
   obtain⟨⟨⟨h1,h2⟩,h3⟩,h4⟩:=hs
   have hj:=Ns.1 h2
   refine⟨fun _ =>?_,fun _ i hi=>by cases hi⟩
   have ak:=step n h1 hj h4
   rcases h3 with h3 | h3
   ·exact TA h0 hR n aq t σ hc hj h3 ak
   ·split at h3
    ·rename_i i hr
     rw[tq,hr]
     refine⟨fun h=>(by cases h),fun k hk =>?_⟩
     obtain rfl:=List.mem_singleton.1 hk
     obtain rfl:=Nat.eq_of_beq_eq_true h3
     exact ak
    ·cases h3
  ·rename_i i
   simp only[Bool.and_eq_true,beq_iff_eq]at hs
   obtain⟨⟨h1,h2⟩,h4⟩:=hs
   refine⟨fun h=>(by cases h),fun hp k hk =>?_⟩
   obtain rfl:=Nat.eq_of_beq_eq_true h2
   obtain rfl:=List.mem_singleton.1 hk
   exact step _ h1 (hp k hk) h4
  ·cases hs
 | alt j s r ih ij =>
  intro n lq aq t σ hs hc h
  obtain⟨ha,hb⟩:ic P TT ops false j t σ (fun t' σ'=>su P TT ops s t' σ' K)∧su P TT ops r t σ K:=h
  have step:∀m,dQ j Q=false→j∈gv ops aq→jM ops rows Q s m [] (aq.set j true)=true→ic P TT ops (dQ j Q) j t σ fun t' σ'=>n9 P TT ops Q m (aq.set j true) t' σ' K:=fun m hq hj hs=>by
   obtain⟨_,o,ho,hr⟩:=tf.1 hj
   rw[hq]
   exact CW ho (fun _ _=>rfl) (fun v σ' hh=>(ih m [] _ _ σ' hs (hc.set ho hr) hh).1 rfl) ha
  unfold jM at hs
  split at hs
  ·rename_i n
   split at hs
   ·rename_i i i2 l hr
    simp only[Bool.and_eq_true,Bool.not_eq_true']at hs
    obtain⟨⟨⟨h1,h2⟩,h3⟩,h4⟩:=hs
    obtain rfl:=Nat.eq_of_beq_eq_true h1
    refine⟨fun _ =>?_,fun _ i hi=>by cases hi⟩
    rw[tq,hr]
    refine⟨fun h=>(by cases h),fun k hk =>?_⟩
    rcases List.mem_cons.1 hk with rfl | hk
    ·exact step n h2 (by rw[hr];exact List.mem_cons_self ..) h3
    ·exact (ij n (i2::l) aq t σ h4 hc hb).2 (fun i hi=>by rw[hr];exact List.mem_cons_of_mem _ hi) k hk
   ·cases hs
  ·rename_i i i2 l
   simp only[Bool.and_eq_true,Bool.not_eq_true']at hs
   obtain⟨⟨⟨h1,h2⟩,h3⟩,h4⟩:=hs
   obtain rfl:=Nat.eq_of_beq_eq_true h1
   refine⟨fun h=>(by cases h),fun hp k hk =>?_⟩
   rcases List.mem_cons.1 hk with rfl | hk
   ·exact step n h2 (hp _ (List.mem_cons_self ..)) h3
   ·exact (ij n (i2::l) aq t σ h4 hc hb).2 (fun i hi=>hp i (List.mem_cons_of_mem _ hi)) k hk
  ·cases hs
 | Bk j s r ih ij =>
  intro n lq aq t σ hs hc h
  obtain⟨ha,hb⟩:ic P TT ops true j t σ (fun t' σ'=>su P TT ops s t' σ' K)∧su P TT ops r t σ K:=h
  have step:∀m,dQ j Q=true→j∈gv ops aq→jM ops rows Q s m [] (aq.set j true)=true→ic P TT ops (dQ j Q) j t σ fun t' σ'=>n9 P TT ops Q m (aq.set j true) t' σ' K:=fun m hq hj hs=>by
   obtain⟨_,o,ho,hr⟩:=tf.1 hj
   rw[hq]
   exact CW ho (fun _ _=>rfl) (fun v σ' hh=>(ih m [] _ _ σ' hs (hc.set ho hr) hh).1 rfl) ha
  unfold jM at hs
  split at hs
  ·rename_i n
   split at hs
   ·rename_i i i2 l hr
    simp only[Bool.and_eq_true]at hs
    obtain⟨⟨⟨h1,h2⟩,h3⟩,h4⟩:=hs
    obtain rfl:=Nat.eq_of_beq_eq_true h1
    refine⟨fun _ =>?_,fun _ i hi=>by cases hi⟩
    rw[tq,hr]
    refine⟨fun h=>(by cases h),fun k hk =>?_⟩
    rcases List.mem_cons.1 hk with rfl | hk
    ·exact step n h2 (by rw[hr];exact List.mem_cons_self ..) h3
    ·exact (ij n (i2::l) aq t σ h4 hc hb).2 (fun i hi=>by rw[hr];exact List.mem_cons_of_mem _ hi) k hk
   ·cases hs
  ·rename_i i i2 l
   simp only[Bool.and_eq_true]at hs
   obtain⟨⟨⟨h1,h2⟩,h3⟩,h4⟩:=hs
   obtain rfl:=Nat.eq_of_beq_eq_true h1
   refine⟨fun h=>(by cases h),fun hp k hk =>?_⟩
   rcases List.mem_cons.1 hk with rfl | hk
   ·exact step n h2 (hp _ (List.mem_cons_self ..)) h3
   ·exact (ij n (i2::l) aq t σ h4 hc hb).2 (fun i hi=>hp i (List.mem_cons_of_mem _ hi)) k hk
  ·cases hs
theorem Tw{o:Oper}{ρ:Operand→AV}{σ:Hp}{K:AV→Prop}(ok:cF P TT)(h:sL P TT o.op ρ σ K)(a:Act)(F:Nat→Prop)(w:World)(hx:∀x∈o.op.operands.toList,ar F w (ρ x) (a.eval x))(ay:aM F w σ)(next:Act→World→Prop)(Q:Exit→Act→World→Prop)(hn:∀v u F' w',aQ F w F' w'→aM F' w' σ→ar F' w' v u→K v→next (a.put o.dst u) w'):wq P o a w next Q:=by
 obtain⟨v,h1,h2⟩:=Mi ok h
 exact h2 a F w hx ay next Q fun u F' w' k1 k2 k3=>hn v u F' w' k1 k2 k3 h1
theorem Y4(ok:cF P TT){B n:Nat}{ops:List Oper}{Q:List Nat}(hd:∀o∈ops,∀d,o.dst=some d→d<n){K:Tm→Hp→Prop}{Q':Exit→Act→World→Prop}{F0:Nat→Prop}{w0:World}(hq:∀t' σ' F' w' a',aQ F0 w0 F' w'→cj B n F' w' t' σ' a'→K t' σ'→Q' .normal a' w'):
  ∀(m:Nat) (aq:List Bool) (t:Tm) (σ:Hp) (F:Nat→Prop) (w:World) (a:Act),left aq.toArray≤m→aq.length=ops.length→n9 P TT ops Q (m+1) aq t σ K→cj B n F w t σ a→aQ F0 w0 F w→tU P .any ops.toArray (tW Q') m aq.toArray a w:=by
 intro m
 induction m with
 | zero =>
  intro aq t σ F w a hl hlen h hs ak
  have hr:gv ops aq=[]:=by
   rw[← pG,List.eq_nil_iff_forall_not_mem]
   intro j hj
   have:=(mem_ready.1 hj).1
   rw[GB (by omega)]at this
   cases this
  rw[tq]at h
  exact⟨by rw[pG];exact hr,hq t σ F w a ak hs (h.1 hr)⟩
 | succ m ih =>
  intro aq t σ F w a hl hlen h hs ak
  rw[tq]at h
  refine⟨fun hr=>hq t σ F w a ak hs (h.1 (by rw[← pG];exact hr)),fun j hj =>?_⟩
  rw[pG]at hj
  have h:=h.2 j hj
  have guard:∀{o:Oper} {b:Bool},r8 ops o t b→Region.wanted o (yielded ops.toArray a.tmps)=b:=fun hg=>Cw hg fun d _=>⟨F,w,hs.tm d⟩
  obtain⟨ef,o,ho,_⟩:=tf.1 hj
  have jA:(aq.set j true).toArray=aq.toArray.setIfInBounds j true:=by simp
  have abS:aq.toArray.getD j true=false:=by
   rw[Array.getD_eq_getD_getElem?,List.getElem?_toArray,← List.getD_eq_getElem?_getD];exact ef
  have ab:left (aq.toArray.setIfInBounds j true)≤m:=by have:=zB abS;omega
  have n0:∀(x:AV) (u:Value) (σ':Hp) (F':Nat→Prop) (w':World),aQ F w F' w'→aM F' w' σ'→ar F' w' x u→n9 P TT ops Q (m+1) (aq.set j true) (put t o.dst x) σ' K→tU P .any ops.toArray (tW Q') m (aq.toArray.setIfInBounds j true) (a.put o.dst u) w':=fun x u σ' F' w' q1 q2 q3 hk=>by
   rw[← jA]
   exact ih _ _ σ' F' w' _ (by rw[jA];exact ab) (by simpa using hlen) hk (hs.put q1 q2 q3 (hd o (List.mem_of_getElem? ho))) (ak.trans q1)
  unfold ic at h
  rw[ho]at h
  dsimp only at h
  unfold l7
  rw[show ops.toArray[j]?=some o by simpa using ho]
  cases hq':dQ j Q with
  | true =>
   rw[hq']at h
   dsimp only at h
   rcases vf h with ⟨hg,h⟩ | ⟨hg,h⟩
   ·simp only[guard hg,if_true]
    exact (Tw ok h a F w (fun x _=>hs.tm.eval x) hs.hp _ _ fun v u F' w' k1 k2 k3 k4=>n0 v u σ F' w' k1 k2 k3 k4)
   ·simp only[guard hg,Bool.false_eq_true,if_false]
    exact n0 (.tup []) undef σ F w (.refl _ _) hs.hp uZ h
  | false =>
   rw[hq']at h
   dsimp only at h
   rcases vf h with ⟨hg,h⟩ | ⟨hg,h⟩
   ·simp only[guard hg,if_true]
    refine (Gw ok h a F w (fun x _=>hs.tm.eval x) hs.hp _ _ ?_)
    intro v av σ' F' w' q1 q2 q3 q4
    exact n0 av v σ' F' w' q1 q2 q3 q4
   ·simp only[guard hg,Bool.false_eq_true,if_false]
    exact n0 (.tup []) undef σ F w (.refl _ _) hs.hp uZ h
theorem KW(ok:cF P TT)(hm:P.follows .mixedOrders=true){r:Option Nat}{B n id:Nat}{ops:Array Oper}{t:Tm}{σ:Hp}{K:Tm→Hp→Prop}{F:Nat→Prop}{w:World}{a:Act}{Q:Exit→Act→World→Prop}{Q0:List Nat}{s:oE}(h0:DD ops.toList Q0 s=true)(h:su P TT ops.toList s t σ K)(hd:∀o∈ops.toList,∀d,o.dst=some d→d<n)(bB:∀o∈ops.toList,∀c,o.op≠.defer c)(hs:cj B n F w t σ a)
  (hq:∀t' σ' F' w' a',aQ F w F' w'→cj B n F' w' t' σ' a'→K t' σ'→Q .normal a' w'):(Code.region id ops true).wpIn (FW r) 0 P Q a w:=by
 have mR:aQ F w F { w with drawn:=w.drawn+1 }:=uW hs.hp.low rfl rfl rfl (Nat.le_refl _) (fun _ _=>rfl)
 unfold DD at h0
 simp only[Bool.and_eq_true]at h0
 obtain⟨⟨h1,h2⟩,h3⟩:=h0
 have bM:=(X0 (K:=K) h1 (M3 ops.toList [] [] rfl rfl (fun k row h=>by cases h)) s _ [] _ t σ h3 (fun j o ho hl=>by
  rw[List.getD_eq_getElem?_getD,List.getElem?_replicate]at hl
  split at hl <;> cases hl) h).1 rfl
 refine wpIn_mono (F6 hm bB ?_) Nq
 have key:=Y4 (P:=P) (Q':=Q) ok hd (F0:=F) (w0:=w) hq ops.toList.length (List.replicate ops.toList.length false) t σ F { w with drawn:=w.drawn+1 } a (by
   unfold left
   refine Nat.le_trans (List.length_filter_le _ _) (by simp)) (by simp) bM ⟨hs.tm.mono mR,hs.hp.same mR (fun _ _=>rfl),hs.size,hs.defers.mono mR⟩ mR
 simpa using key
end
end Go.Proofs.YtnpidbjdilnhlaaGreat
