import Derived.Deep.AppendSrc
import Derived.Deep.Upon
import Derived.Great.BuildSlice
import Derived.Maps.RangeRun
import Derived.Orders
import Derived.Test.YtnikdflhefijbaaGreatBp3
namespace Go.Proofs.YtnikdflhefijbaaGreat
open Go.RowKit
section
variable {P:Program} {TT:TypeId→Option TI} {F F':Nat→Prop} {w w':World}
theorem Holds.mono{b:Nat}{cs:List AV}(h:Holds F w b cs)(ao:bh F w F' w')(hb:w'.heap[b]?=w.heap[b]?)(hF:¬F' b):Holds F' w' b cs:=by
 obtain⟨_,⟨c,T,h1,h2,h3⟩ | ⟨x,o,h1,h2,h3⟩ | ⟨L,t,h1,h2,h3⟩⟩:=h
 ·exact⟨hF,.inl ⟨c,T,hb.trans h1,h2,fun i x hx=>⟨(h3 i x hx).1,(h3 i x hx).2.mono ao⟩⟩⟩
 ·exact⟨hF,.inr (.inl ⟨x,o,h1,hb.trans h2,h3⟩)⟩
 ·exact⟨hF,.inr (.inr ⟨L,t,h1,hb.trans h2,fun i=>(h3 i).mono ao⟩)⟩
theorem Holds.lt{b:Nat}{cs:List AV}(h:Holds F w b cs):b<w.heap.size:=by
 obtain⟨_,⟨_,_,h1,_⟩ | ⟨_,_,_,h1,_⟩ | ⟨_,_,_,h1,_⟩⟩:=h
 ·exact tU h1
 ·exact tU h1
 ·exact tU h1
theorem aX.perm{σ σ':Hp}(h:aX F w σ)(hp:σ'.Perm σ):aX F w σ':=
 ⟨((hp.map Prod.fst).nodup_iff).2 h.nodup,fun p hm=>h.holds p (hp.mem_iff.1 hm),h.low⟩
theorem aX.sub{σ σ':Hp}(h:aX F w σ)(hs:σ'.Sublist σ):aX F w σ':=
 ⟨h.nodup.sublist (hs.map _),fun p hm=>h.holds p (hs.subset hm),h.low⟩
theorem yH:∀(σ:Hp) (i:Nat) (p:Nat×List AV),σ[i]?=some p→(p::σ.eraseIdx i).Perm σ
 | [],i,p,h=>by simp at h
 |q::σ,0,p,h=>by simp at h;subst h;exact List.Perm.refl _
 |q::σ,i+1,p,h=>(List.Perm.swap q p _).trans (.cons q (yH σ i p (by simpa using h)))
theorem ZP(i:Nat)(σ:Hp):(pull i σ).Perm σ:=by
 unfold pull
 split
 ·rename_i p h
  exact yH σ i p h
 ·exact List.Perm.refl _
theorem yP:∀(js:List Nat) (σ:Hp),(oh js σ).Perm σ
 | [],_=>List.Perm.refl _
 |i::r,σ=>(ZP i _).trans (yP r σ)
theorem yK(ff:∀b,F b→b<w.heap.size)(ho:w'.os=w.os)(ht:w'.tape=w.tape)(hu:w'.output=w.output)(hs:w.heap.size≤w'.heap.size)(hb:∀b,b<w.heap.size→w'.heap[b]?=w.heap[b]?)(hd:w.drawn≤w'.drawn:=by first | exact aM _ | exact Nat.le_succ _ | exact FN _ _):bh F w F w':=
 ⟨ho,ht,hu,hs,fun _ h=>h,fun b h=>hb b (ff b h),fun b c _ fz h=>⟨c,fz,(hb b (tU h)).trans h,rfl⟩,hd⟩
theorem aX.same{σ:Hp}(h:aX F w σ)(ao:bh F w F w')(hb:∀b,b<w.heap.size→w'.heap[b]?=w.heap[b]?):aX F w' σ:=
 ⟨h.nodup,fun p hm=>(h.holds p hm).mono ao (hb _ (h.holds p hm).lt) (h.holds p hm).1,fun b hF=>sc (h.low b hF) ao.size⟩
theorem P9{σ:Hp}(h:aX F w σ){c:Array Value}{T:TypeId}{cs:List AV}(hl:cs.length≤c.size)(hc:∀(i:Nat) (x:AV),cs[i]?=some x→x.leaf=true∧ax F w x (c.getD i undef)){w0:World}(e0:w0=w∨w0=w.drew):
  bh F w F (w0.alloc (.cells c T))∧aX F (w0.alloc (.cells c T)) ((w.heap.size,cs)::σ):=by
 have hold:∀b,b<w.heap.size→(w0.alloc (.cells c T)).heap[b]?=w.heap[b]?:=fun b hb=>by rcases e0 with rfl | rfl <;> exact Below.heap_alloc _ _ b (by simpa using hb)
 have ao:bh F w F (w0.alloc (.cells c T)):=by
  rcases e0 with rfl | rfl
  ·exact yK h.low rfl rfl rfl (by simp) hold
  ·exact yK h.low rfl rfl rfl (by simp) hold
 have hr:=h.same ao hold
 have hY:(w0.alloc (.cells c T)).heap[w.heap.size]?=some (.cells c T (0,0)):=by rcases e0 with rfl | rfl <;> exact xo _ _
 refine⟨ao,⟨?_,fun p hm=>?_,hr.low⟩⟩
 ·simp only[oV,lp]
  refine⟨fun hm=>?_,h.nodup⟩
  obtain⟨p,hp,e⟩:=cY.1 hm
  have:=(h.holds p hp).lt
  omega
 ·rcases da.1 hm with rfl | hm
  ·exact⟨fun hF=>JJ _ (h.low _ hF),.inl ⟨c,T,hY,hl,fun i x hx=>⟨(hc i x hx).1,(hc i x hx).2.mono ao⟩⟩⟩
  ·exact hr.holds p hm
theorem Aw{σ:Hp}(h:aX F w σ){j b:Nat}{cs cs':List AV}(hj:σ[j]?=some (b,cs)){c c':Array Value}{T:TypeId}(hc:w.heap[b]?=some (.cells c T (0,0)))(eD:c'.size=c.size)(hl:cs'.length≤c'.size)
  (hr:∀(i:Nat) (x:AV),cs'[i]?=some x→x.leaf=true∧ax F w x (c'.getD i undef)) (hw:∀k,k≠b→w'.heap[k]?=w.heap[k]?) (Jd:w'.heap[b]?=some (.cells c' T (0,0))) (ho:w'.os=w.os) (ht:w'.tape=w.tape) (hu:w'.output=w.output) (hs:w'.heap.size=w.heap.size) (hd:w.drawn≤w'.drawn:=by first | exact aM _ | exact Nat.le_succ _ | exact FN _ _) :
  bh F w F w'∧aX F w' (σ.set j (b,cs')):=by
 have hb:=(h.holds (b,cs) (bH hj)).1
 have ab:j<σ.length:=(bQ.1 hj).1
 have ao:bh F w F w':=⟨ho,ht,hu,by omega,fun _ h=>h,fun k hF=>hw k (fun e=>hb (e▸hF)),fun k d S fz hk=>by
  by_cases e:k=b
  ·subst e
   rw[hc]at hk
   cases hk
   exact⟨c',(0,0),Jd,eD⟩
  ·exact⟨d,fz,(hw k e).trans hk,rfl⟩,hd⟩
 have DY:(σ.set j (b,cs')).map Prod.fst=σ.map Prod.fst:=by
  rw[nS]
  apply Aa
  intro k
  rw[dY]
  split
  ·rename_i e;subst e
   simp[ab]
   have:=(bQ.1 hj).2
   rw[this]
  ·rfl
 refine⟨ao,⟨DY▸h.nodup,fun p hm=>?_,fun k hF=>by rw[hs];exact h.low k hF⟩⟩
 obtain⟨k,hk⟩:=kI.1 hm
 rw[dY]at hk
 split at hk
 ·rename_i e;subst e
  simp at hk
  obtain⟨_,rfl⟩:=hk
  exact⟨hb,.inl ⟨c',T,Jd,hl,fun i x hx=>⟨(hr i x hx).1,(hr i x hx).2.mono ao⟩⟩⟩
 ·rename_i aO
  have aP:=bH hk
  have qO:p.1≠b:=by
   intro e
   have bZ:=h.nodup
   have h1:(σ.map Prod.fst)[k]?=some b:=by rw[List.getElem?_map,hk];simp[e]
   have h2:(σ.map Prod.fst)[j]?=some b:=by rw[eU,hj];rfl
   have eN:k<(σ.map Prod.fst).length:=(bQ.1 h1).1
   have:=(List.getElem?_inj (i:=k) (j:=j) eN bZ).1 (h1.trans h2.symm)
   exact aO this.symm
  exact (h.holds p aP).mono ao (hw _ qO) (h.holds p aP).1
theorem SE(z:List AV):∀(n j:Nat),j<n*z.length→(cz z n)[j]?=z[j % z.length]?
 | 0,j,h=>by simp at h
 |n+1,j,h=>by
  unfold cz
  by_cases hj:j<z.length
  ·rw[jG hj,r9 hj]
  ·have e:(n+1)*z.length=n*z.length+z.length:=lR n z.length
   rw[ij (by omega),SE z n (j-z.length) (by omega)]
   rw[Nat.mod_eq_sub_mod (a:=j) (b:=z.length) (by omega)]
theorem u0(z:List AV)(n:Nat):(cz z n).length=n*z.length:=by
 induction n with
 |zero=>simp[cz]
 |succ n ih=>simp[cz,ih,Nat.succ_mul];omega
theorem G5{i:TI}{z:Value}(hz:qj i.zero z.cells.toList=true){n m:Nat}(Fa:n≤m):(cz i.zero n).length≤(madeCells z.cells (m*i.zero.length)).size∧∀(k:Nat) (x:AV),(cz i.zero n)[k]?=some x→x.leaf=true∧ax F w x ((madeCells z.cells (m*i.zero.length)).getD k undef):=by
 obtain⟨h1,h2⟩:=xi (F:=F) (w:=w) hz
 have hle:n*i.zero.length≤m*i.zero.length:=iR _ Fa
 refine⟨by rw[u0,size_madeCells];exact hle,fun k x hx=>?_⟩
 have hk:k<n*i.zero.length:=by rw[← u0];exact (bQ.1 hx).1
 rw[SE _ _ _ hk]at hx
 obtain⟨h3,h4⟩:=h2 _ x hx
 refine⟨h3,?_⟩
 have ab:k<m*i.zero.length:=by omega
 have ui:0<i.zero.length:=by
  rcases uQ i.zero.length with h0 | h0
  ·rw[h0]at hk;omega
  ·exact h0
 have WM:k % i.zero.length<z.cells.size:=by rw[← h1];exact mW _ ui
 rw[h1]at h4 ab
 rw[h1]at WM
 simpa [madeCells,Array.getD,ab,h1,WM,Nat.mod_lt _ (h1▸ui)]using h4
end
section
variable {P:Program} {TT:TypeId→Option TI} {F F':Nat→Prop} {w w':World}
def j5(P:Program)(o:Oper)(ρ:Operand→AV)(σ:Hp)(K:AV→Hp→Prop):Prop:=
 ∀(a:Act) (F:Nat→Prop) (w:World),(∀x∈o.op.operands.toList,ax F w (ρ x) (a.eval x))→aX F w σ→∀(next:Act→World→Prop) (Q:Exit→Act→World→Prop),
  (∀v av σ' F' w',bh F w F' w'→aX F' w' σ'→ax F' w' av v→K av σ'→next (a.put o.dst v) w')→wq P o a w next Q
theorem Xp{o:Oper}{ρ:Operand→AV}{σ:Hp}{K:AV→Hp→Prop}{v:AV}(h:EJ P o.op ρ σ v)(hk:K v σ):j5 P o ρ σ K:=by
 intro a F w hx aC next Q hn
 obtain⟨v',h1,h2⟩:=h a.eval F w o rfl hx aC
 unfold wq
 rw[h1]
 exact hn v' v σ F w (.refl _ _) aC h2 hk
theorem Gl{o:Oper}{ρ:Operand→AV}{σ:Hp}{K:AV→Hp→Prop}{cs:List AV}{mk:Nat→AV}(hk:∀b,K (mk b) ((b,cs)::σ))
  (h:∀(η:Operand→Value) (F:Nat→Prop) (w:World),(∀x∈o.op.operands.toList,ax F w (ρ x) (η x))→∃(c:Array Value) (T:TypeId) (v:Value),(execOp η o).run P w=.ok (.value v) (w.alloc (.cells c T))∧cs.length≤c.size∧(∀(i:Nat) (x:AV),cs[i]?=some x→x.leaf=true∧ax F w x (c.getD i undef))∧ax F (w.alloc (.cells c T)) (mk w.heap.size) v):j5 P o ρ σ K:=by
 intro a F w hx aC next Q hn
 obtain⟨c,T,v,h1,h2,h3,h4⟩:=h a.eval F w hx
 unfold wq
 rw[h1]
 obtain⟨ao,hr⟩:=P9 aC (T:=T) h2 h3 (w0:=w) (.inl rfl)
 exact hn v _ _ F _ ao hr h4 (hk _)
theorem Xr{x:AV}{v:Value}{cs:List AV}(h:ax F w x v)(hc:x.cells?=some cs):cs.length≤v.cells.size∧∀(i:Nat) (x:AV),cs[i]?=some x→x.leaf=true∧ax F w x (v.cells.getD i undef):=by
 obtain⟨h1,h2⟩:=KO h hc
 exact⟨by omega,h2⟩
theorem aaF{o:Oper}{e:TypeId}{x:Operand}(ho:o.op=.box e x){ρ:Operand→AV}{σ:Hp}{K:AV→Hp→Prop}{cs:List AV}(hc:(ρ x).cells?=some cs)(hk:∀b,K (.ptr b 0) ((b,cs)::σ)):j5 P o ρ σ K:=
 Gl hk fun η F w hx=>by
  have h1:=hx x (by simp[ho,Op.operands])
  obtain⟨h2,h3⟩:=Xr h1 hc
  exact⟨(η x).cells,e,.pointer (some ⟨w.heap.size,0,none⟩),by simp[execOp,ho,Instr.box,newVar,newRow],h2,h3,.ptr _ _ ⟨_,_,_,xo _ _⟩⟩
theorem Yq(ok:dD P TT){o:Oper}{e:TypeId}(ho:o.op=.alloc e){ρ:Operand→AV}{σ:Hp}{K:AV→Hp→Prop}{i:TI}(hi:TT e=some i)(hk:∀b,K (.ptr b 0) ((b,i.zero)::σ)):j5 P o ρ σ K:=
 Gl hk fun η F w hx=>by
  obtain⟨j,d,z,hj,hd,_,_,_,hz,ib⟩:=dp ok hi
  obtain⟨h1,h2⟩:=xi (F:=F) (w:=w) ib
  exact⟨z.cells,e,.pointer (some ⟨w.heap.size,0,none⟩),by simp[execOp,ho,Instr.alloc,newVar,newRow,zeroValue,typeInfo,hj,hz],by omega,h2,.ptr _ _ ⟨_,_,_,xo _ _⟩⟩
theorem Xb(ok:dD P TT){o:Oper}{t e:TypeId}{len:Nat}{parts:Array (Nat×Operand)}(ho:o.op=.buildSlice t len parts){ρ:Operand→AV}{σ:Hp}{K:AV→Hp→Prop}{it i:TI}(ht:TT t=some it)(eN:it.k=.slice e)(hi:TT e=some i){cs:List AV}
  (hf:sA ((List.range len).map fun j=>(j*i.size,i.size)) (cz i.zero len) (parts.toList.map fun p=>(p.1,ρ p.2))=some cs) (eD:len*i.size≤16777216) (ui:1≤i.size) (hk:∀b,K (.ae b 0 len i.size) ((b,cs)::σ)):j5 P o ρ σ K:=
 Gl hk fun η F w hx=>by
  obtain⟨_,d,_,_,hd,_,_,jT,_,_⟩:=dp ok ht
  rw[eN]at jT
  obtain rfl:=jX jT
  obtain⟨j,d',z,hj,kh,hs,⟨_,oO⟩,_,hz,ib⟩:=dp ok hi
  obtain⟨hl,hr⟩:=Ry (parts:=parts) (ρ:=ρ) (η:=η) (F:=F) (w:=w) (by simpa [ho,Op.operands]using hx)
  have jB:z.cells.size=j.size:=by have:=(xi (F:=F) (w:=w) ib).1;omega
  obtain⟨m1,m2⟩:=G5 (F:=F) (w:=w) ib (aM len)
  have gV:pT F w (cz i.zero len) (madeCells z.cells (len*i.zero.length)):=⟨by rw[u0,size_madeCells],m2⟩
  rw[oO,← hs]at gV
  obtain⟨eC,f1,f2⟩:=Hb (place:=fun k=>some (k*j.size,j.size)) (fun k p hk=>by
   obtain⟨a,ha,rfl⟩:=bQ.1 hk
   simp[hs]) _ _ _ _ _ hl hr gV hf
  have agL:eC.size=len*j.size:=by
   have e1:∀(us:List (Nat×AV)) (xs out:List AV),sA ((List.range len).map fun j=>(j*i.size,i.size)) xs us=some out→out.length=xs.length:=by
    intro us
    induction us with
    |nil=>intro xs out h;simp[sA]at h;subst h;rfl
    |cons p us ih=>
     intro xs out h
     obtain⟨q,v⟩:=p
     simp only[sA]at h
     split at h
     ·split at h
      ·rw[ih _ _ h,Ai]
      ·cases h
     ·cases h
   have:=e1 _ _ _ hf
   rw[u0]at this
   have h3:=f2.1
   rw[oO,← hs]at this
   omega
  refine⟨eC,e,.slice (some ⟨w.heap.size,0,none⟩) len len,?_,by have:=f2.1;omega,f2.2,.ae _ _ _ _ _ _ ⟨eC,e,(0,0),xo _ _,aM _,?_,.inl ⟨rfl,by rw[agL,hs];omega⟩⟩⟩
  ·by_cases h0:len*j.size=0
   ·have:eC = #[]:=FU.1 (by omega)
    subst this
    have f1':Instr.fill (fun k=>some (k*j.size,j.size)) #[] (parts.map fun (i,x)=>(i,η x)).toList=some #[]:=by
     have e0:madeCells z.cells (len*j.size) = #[]:=by rw[h0];simp[madeCells,Array.range_zero']
     rw[e0]at f1
     exact f1
    simp only[execOp,ho,Instr.buildSlice,Sem.run_bind,run_underlying hd,Result.andThen_ok,run_sizeOf hj,h0,if_true,Sem.run_pure,Nat.reducePow,if_false,ml,gt_iff_lt]
    rw[show ((Array.range 0).map fun x=>(#[]:Array Value)[x % (#[]:Array Value).size]!) = #[] by simp[Array.range_zero'],f1']
    rfl
   ·simp only[execOp,ho,Sem.run_bind,run_buildSlice w t e len _ eC j z hd hj hz (by rw[hs];omega) h0 f1]
    rfl
  ·have:len≤len*i.size:=Nat.le_mul_of_pos_right _ ui
   unfold maxLen;omega
theorem Xc(ok:dD P TT){o:Oper}{t e:TypeId}{l c:Operand}(ho:o.op=.makeSlice t l c){ρ:Operand→AV}{σ:Hp}{K:AV→Hp→Prop}{it i:TI}(ht:TT t=some it)(eN:it.k=.slice e)(hi:TT e=some i){k k':IntKind}{n m:Int}(hl:ρ l=.int k n)(hc:ρ c=.int k' m)
  (h0:0≤n∧n≤m∧m≤1048576∧i.bytes≤1024) (hk:∀b,K (.ae b 0 n.toNat i.size) ((b,cz i.zero n.toNat)::σ)):j5 P o ρ σ K:=
 Gl hk fun η F w hx=>by
  obtain⟨_,d,_,_,hd,_,_,jT,_,_⟩:=dp ok ht
  rw[eN]at jT
  obtain rfl:=jX jT
  obtain⟨j,d',z,hj,kh,hs,⟨hb,oO⟩,_,hz,ib⟩:=dp ok hi
  have h1:=hx l (by simp[ho,Op.operands]);rw[hl]at h1
  have h2:=hx c (by simp[ho,Op.operands]);rw[hc]at h2
  obtain⟨m1,m2⟩:=G5 (F:=F) (w:=w) ib (show n.toNat≤m.toNat by omega)
  rw[oO,← hs]at m1 m2
  have sZ:(j.bytes:Int)*m≤281474976710656:=by
   have:(j.bytes:Int)*m≤1024*1048576:=Int.mul_le_mul (by omega) (by omega) (by omega) (by omega)
   omega
  refine⟨madeCells z.cells (m.toNat*j.size),e,.slice (some ⟨w.heap.size,0,none⟩) n.toNat m.toNat,?_,m1,m2,.ae _ _ _ _ _ _ ⟨_,e,(0,0),xo _ _,by omega,by unfold maxLen;omega,.inl ⟨rfl,by rw[size_madeCells,hs];omega⟩⟩⟩
  simp only[execOp,ho,h1.gu,h2.gu,Sem.run_bind,run_make w t e j z hd hj hz k k' n m h0.1 h0.2.1 sZ (by omega)]
  rfl
end
section
variable {P:Program} {TT:TypeId→Option TI} {F F':Nat→Prop} {w w':World}
theorem KC:∀(xs cs:List AV) (o k:Nat),o+xs.length≤cs.length→(e8 cs o xs)[k]?=if o≤k∧k<o+xs.length then xs[k-o]? else cs[k]?
 | [],cs,o,k,_=>by rw[if_neg (by intro h;simp at h;omega)];rfl
 |x::xs,cs,o,k,h=>by
  simp only[fO]at h
  rw[e8,KC xs (cs.set o x) (o+1) k (by simp;omega)]
  simp only[fO]
  by_cases h1:o+1≤k∧k<o+1+xs.length
  ·rw[ag h1,ag (by omega),show k-o=(k-(o+1))+1 by omega];rfl
  ·rw[ah h1]
   by_cases h2:o=k
   ·subst h2
    rw[ag (by omega),qT,dY]
    simp;omega
   ·rw[ah (by omega),dY,ah h2]
theorem adw(c vs:List Value)(o k:Nat)(h:o+vs.length≤c.length):(c.take o++vs++c.drop (o+vs.length))[k]?=if o≤k∧k<o+vs.length then vs[k-o]? else c[k]?:=by
 have hl:(c.take o).length=o:=by simp;omega
 by_cases h1:k<o
 ·rw[ah (by omega),dN,jG (by omega),nV,ag h1]
 ·by_cases h2:k<o+vs.length
  ·rw[ag (by omega),dN,ij (by omega),hl,jG (by omega)]
  ·rw[if_neg (by omega),List.getElem?_append_right (by simp;omega),List.getElem?_drop]
   congr 1
   simp;omega
theorem Xu{i:TI}{cs cs':List AV}{o:Nat}{v:AV}(h:kn i cs o v=some cs'):∃vs,v.cells?=some vs∧vs.length=i.size∧o+i.size≤cs.length∧cs'=e8 cs o vs:=by
 unfold kn at h
 split at h
 ·rename_i vs hv
  split at h
  ·rename_i h1 h2
   exact⟨vs,hv,jr h1,cT h2,(Option.some.inj h).symm⟩
  ·cases h
 ·cases h
theorem G6{c:Array Value}{cs xs:List AV}{vs:List Value}{o:Nat}(hc:∀(i:Nat) (x:AV),cs[i]?=some x→x.leaf=true∧ax F w x (c.getD i undef))(hx:xs.length=vs.length)(hv:∀(i:Nat) (x:AV),xs[i]?=some x→x.leaf=true∧ax F w x (vs.getD i undef))(ho:o+xs.length≤c.size)
  {out:List AV} (nP:out.length≤c.size) (IC:∀k y,out[k]?=some y→(if o≤k∧k<o+xs.length then xs[k-o]? else cs[k]?)=some y) :
  ∀(i:Nat) (x:AV),out[i]?=some x→x.leaf=true∧ax F w x ((c.toList.take o++vs++c.toList.drop (o+vs.length)).toArray.getD i undef):=by
 intro k y hk
 have h1:=IC k y hk
 have ab:k<out.length:=(bQ.1 hk).1
 have ahD:=adw c.toList vs o k (by simp;omega)
 have zT:k<c.size:=by omega
 have hlen:(c.toList.take o++vs++c.toList.drop (o+vs.length)).length=c.size:=by simp;omega
 have hgd:(c.toList.take o++vs++c.toList.drop (o+vs.length)).toArray.getD k undef=((c.toList.take o++vs++c.toList.drop (o+vs.length))[k]?).getD undef:=by
  have h2:k<(c.toList.take o++vs++c.toList.drop (o+vs.length)).toArray.size:=by rw[p9,hlen];exact zT
  simp only[Array.getD,h2,dif_pos]
  rw[bc (by rw[hlen];exact zT)]
  rfl
 rw[hgd,ahD]
 split at h1
 ·rename_i eg
  rw[ag (by omega)]
  obtain⟨h2,h3⟩:=hv _ y h1
  exact⟨h2,by rw[aR]at h3;exact h3⟩
 ·rename_i eg
  rw[ah (by omega)]
  obtain⟨h2,h3⟩:=hc _ y h1
  refine⟨h2,?_⟩
  simpa [Array.getD,zT]using h3
theorem XM(ok:dD P TT){o:Oper}{t:TypeId}{p x:Operand}(ho:o.op=.store t p x){ρ:Operand→AV}{σ:Hp}{K:AV→Hp→Prop}{i:TI}(hi:TT t=some i){b off:Nat}(hp:ρ p=.ptr b off)(h:HD i σ b off (ρ x) (fun σ'=>K .any σ')):j5 P o ρ σ K:=by
 intro a F w hx aC next Q hn
 obtain⟨j,cs,cs',h1,h2,go⟩:=h
 obtain⟨vs,hv,Jf,hle,rfl⟩:=Xu h2
 obtain⟨jt,d,z,hj,hd,hs,_⟩:=dp ok hi
 have a1:=hx p (by simp[ho,Op.operands]);rw[hp]at a1
 have a2:=hx x (by simp[ho,Op.operands])
 obtain⟨c1,c2⟩:=KO a2 hv
 obtain⟨hF,c,T,hc,ey,pZ⟩:=(aC.holds _ (bH h1)).cells a1.Ax
 have ey:cs.length≤c.size:=ey
 have lH:∀u∈(a.eval x).cells.toList,u.oneCell'=true:=by
  intro u hu
  obtain⟨k,hk⟩:=kI.1 hu
  have ab:k<(a.eval x).cells.size:=by have:=(List.getElem?_eq_some_iff.1 hk).1;simpa using this
  obtain⟨h3,h4⟩:=c2 k vs[k] (by simp)
  have:=h4.one h3
  simpa [Array.getD,ab,show (a.eval x).cells[k]=u by simpa [ab]using hk]using this
 have ao:=run_storeCells_at (P:=P) b off T (a.eval x).cells.toList 0 c w hc (by simp[c1];omega) lH
 have fF:(execOp a.eval o).run P w=.ok .skip (w.setRow b (c.toList.take off++(a.eval x).cells.toList++c.toList.drop (off+(a.eval x).cells.toList.length)).toArray):=by
  simp only[uN]at ao
  have eD:¬((a.eval x).cells.size≠jt.size):=by rw[c1,Jf,hs];simp
  simp only[execOp,ho,a1.zu,Instr.storeAt,Instr.sureAddr,Sem.run_bind,Sem.run_pure,Result.andThen_ok,storeVar,run_sizeOf hj,ah eD,ao]
 unfold wq
 rw[fF]
 have hlen:(c.toList.take off++(a.eval x).cells.toList++c.toList.drop (off+(a.eval x).cells.toList.length)).length=c.size:=by simp;omega
 obtain⟨s1,s2⟩:=Aw aC h1 (cs':=e8 cs off vs) hc (c':=(c.toList.take off++(a.eval x).cells.toList++c.toList.drop (off+(a.eval x).cells.toList.length)).toArray) (by simp only[p9];exact hlen) (by rw[Ai];simp only[p9];omega)
  (G6 (xs:=vs) pZ (by simp[c1]) (fun k y hk=>by
   have ab:k<(a.eval x).cells.size:=by rw[c1];exact (bQ.1 hk).1
   have:=c2 k y hk
   simpa [Array.getD,List.getD,ab]using this) (by omega) (by rw[Ai];omega) (fun k y hk=>by rw[KC _ _ _ _ (by omega)]at hk;exact hk))
  (fun k hk=>setRow_other w b k _ hk) (setRow_heap w b c _ T _ hc) rfl rfl rfl (by simp)
 exact hn undef .any _ F _ s1 s2 (.any _) go
theorem At.flat{α:Type}{f:α→List AV}{es:Nat}(hf:∀x,(f x).length=es){b:Nat}:∀(l:List α) (o:Nat),(∀i,(h:i<l.length)→At F w b (o+i*es) (f l[i]))→At F w b o (l.flatMap f)
 | [],o,_=>fun i x h=>by simp at h
 |y::l,o,h=>by
  have h0:=h 0 (by simp)
  have ih:=At.flat hf l (o+es) (fun i hi=>by
   have:=h (i+1) (by simpa using hi)
   rw[lR,show o+(i*es+es)=o+es+i*es by omega]at this
   simpa using this)
  intro i x hx
  rw[yA]at hx
  by_cases hi:i<es
  ·rw[jG (by rw[hf];exact hi)]at hx
   have:=h0 i x (by simpa using hx)
   simpa using this
  ·rw[ij (by rw[hf];omega),hf]at hx
   have:=ih (i-es) x hx
   rw[show o+es+(i-es)=o+i by omega]at this
   exact this
theorem yL{α:Type}{f:α→List AV}{es:Nat}(hf:∀x,(f x).length=es):∀(l:List α),(l.flatMap f).length=l.length*es
 | []=>by simp
 |y::l=>by rw[yA,bG,hf,yL hf l,fO,lR];omega
theorem Dy{b o:Nat}{cs:List AV}(h:At F w b o cs):∃news:List Value,news.length=cs.length∧(∀j u,news[j]?=some u→w.cell? ⟨b,o+j,none⟩=some u)∧(∀(i:Nat) (x:AV),cs[i]?=some x→x.leaf=true∧ax F w x (news.getD i undef))∧∀u∈news,u.oneCell'=true:=by
 have hc:∀m,m<cs.length→∃v,w.cell? ⟨b,o+m,none⟩=some v∧v.oneCell'=true:=by
  intro m hm
  obtain⟨h1,v,h2,h3⟩:=h m cs[m] (by simp[hm])
  exact⟨v,h2,h3.one h1⟩
 refine⟨(List.range cs.length).map fun m=>(w.cell? ⟨b,o+m,none⟩).getD undef,by simp,fun j u hj=>?_,fun i x hx=>?_,fun u hu=>?_⟩
 ·have ab:j<cs.length:=by have:=(List.getElem?_eq_some_iff.1 hj).1;simpa using this
  obtain⟨v,h2,_⟩:=hc j ab
  simp[ab,h2]at hj
  rw[h2,hj]
 ·have ab:i<cs.length:=(bQ.1 hx).1
  obtain⟨h1,v,h2,h3⟩:=h i x hx
  refine⟨h1,?_⟩
  simpa [List.getD,ab,h2]using h3
 ·obtain⟨m,hm,rfl⟩:=cY.1 hu
  obtain⟨v,h2,h3⟩:=hc m (fA.1 hm)
  rw[h2]
  exact h3
theorem CL{σ:Hp}{es n:Nat}{x:AV}{new:List AV}(h:j4 σ es x n new)(aC:aX F w σ){v:Value}(hv:ax F w x v){tx e':TypeId}(hk:P.underlying tx=some (.slice e')):
  ∃news:List Value,Src P es tx v n news w∧new.length=news.length∧∀(i:Nat) (x:AV),new[i]?=some x→x.leaf=true∧ax F w x (news.getD i undef):=by
 have empty:∀(a:Option Addr) (c:Nat),Src P es tx (.slice a 0 c) 0 [] w:=by
  intro a c
  cases a with
  |none=>exact Src.ofNil w hk c
  |some a=>exact Src.ofSlice w hk a 0 c [] (by simp) (fun j u h=>by simp at h) (fun _ h=>by cases h)
 cases h with
 |aj=>cases hv;exact⟨[],empty _ _,rfl,fun i x h=>by simp at h⟩
 |kv=>cases hv;exact⟨[],empty _ _,rfl,fun i x h=>by simp at h⟩
 |gz=>cases hv;exact⟨[],empty _ _,rfl,fun i x h=>by simp at h⟩
 |ai s l hs=>
  obtain⟨a,c,rfl,h1,h2,h3⟩:=hv.ED
  by_cases aO:l=[]
  ·subst aO
   exact⟨[],empty _ _,rfl,fun i x h=>by simp at h⟩
  ·obtain⟨b,o,rfl,hF,hr⟩:=h3 aO
   have dX:At F w b o (l.flatMap s.cells):=At.flat (es:=s.size) (fun d=>Sh.uZ s d) l o (fun i hi=>by
    obtain⟨cs',q1,q2,q3⟩:=hr i hi
    exact At.Un s q2 q3)
   obtain⟨news,n1,n2,n3,n4⟩:=Dy dX
   have hl:=yL (fun d=>Sh.uZ s d) l
   exact⟨news,Src.ofSlice w hk _ _ c news (by rw[n1,hl,hs]) (fun j u hj=>by rw[pc];exact n2 j u hj) n4,n1.symm,n3⟩
 |ae j b off len cs h1 h2=>
  obtain⟨a,cap,rfl,c,T,fz,m1,m2,m3,m4⟩:=hv.lD
  have dX:At F w b off ((cs.drop off).take (n*es)):=by
   have:=(aC.at_ h1 ⟨c,T,fz,m1⟩).drop off
   rw[dK]at this
   intro i x hx
   rw[nV]at hx
   split at hx
   ·exact this i x hx
   ·cases hx
  have hl:((cs.drop off).take (n*es)).length=n*es:=by simp;omega
  obtain⟨news,n1,n2,n3,n4⟩:=Dy dX
  rcases m4 with ⟨rfl,_⟩ | ⟨q1,q2,rfl,rfl⟩
  ·exact⟨news,Src.ofSlice w hk _ _ cap news (by rw[n1,hl]) (fun j u hj=>by rw[pc];exact n2 j u hj) n4,n1.symm,n3⟩
  ·have h0:(List.take (0*es) (List.drop off cs))=[]:=by simp
   rw[h0]
   exact⟨[],empty _ _,rfl,fun i x h=>by simp at h⟩
theorem tf{η:Operand→Value}{o:Oper}{s x:Operand}{t t':TypeId}(ho:o.op=.call ⟨.builtin .append,#[s,x],#[t,t']⟩){v:Value}{w w':World}(h:(Builtin.append_ #[t,t'] o.type #[η s,η x]).run P w=.ok v w'):(execOp η o).run P w=.ok (.value v) w':=by
 rw[tq _ _ _ o ho]
 simp[builtin,h]
theorem YC(z:Array Value)(n:Nat):(Builtin.zeroCells z n).size=n*z.size:=by simp[Builtin.zeroCells]
theorem GP{σ:Hp}(aC:aX F w σ){e:TypeId}{i:TI}{z:Value}{olds news:List Value}{co cn:List AV}{len n cap:Nat}(ho:co.length=olds.length)(hn:cn.length=news.length)(hor:∀(i:Nat) (x:AV),co[i]?=some x→x.leaf=true∧ax F w x (olds.getD i undef))(hnr:∀(i:Nat) (x:AV),cn[i]?=some x→x.leaf=true∧ax F w x (news.getD i undef))
  (pY:olds.length=len*i.size) (hln:news.length=n*i.size) (jB:z.cells.size=i.size) (gU:len+n≤cap) (mU:cap≤maxLen) :
  let w2:=w.drew.alloc (.cells ((olds++news).toArray++Builtin.zeroCells z.cells (cap-(len+n))) e)
  bh F w F w2∧aX F w2 ((w.heap.size,co++cn)::σ)∧ax F w2 (.ae w.heap.size 0 (len+n) i.size) (.slice (some ⟨w.heap.size,0,none⟩) (len+n) cap):=by
 intro w2
 have eD:((olds++news).toArray++Builtin.zeroCells z.cells (cap-(len+n))).size=cap*i.size:=by
  simp only[Array.size_append,p9,bG,YC,jB,pY,hln]
  rw[← lh,← lh]
  congr 1
  omega
 obtain⟨h1,h2⟩:=P9 aC (c:=(olds++news).toArray++Builtin.zeroCells z.cells (cap-(len+n))) (T:=e) (cs:=co++cn) (by simp;omega) (fun k x hx=>by
  have ab:k<(co++cn).length:=(bQ.1 hx).1
  have ef:k<(olds++news).length:=by simp at ab ⊢;omega
  have e1:((olds++news).toArray++Builtin.zeroCells z.cells (cap-(len+n))).getD k undef=(olds++news).getD k undef:=by
   rw[Array.getD_eq_getD_getElem?,Array.getElem?_append_left (by simpa using ef),List.getD_eq_getElem?_getD,List.getElem?_toArray]
  rw[e1]
  by_cases hk:k<co.length
  ·rw[jG hk]at hx
   rw[aR,jG (by omega),← aR]
   exact hor k x hx
  ·rw[ij (by omega)]at hx
   rw[aR,ij (by omega),← aR,← ho]
   exact hnr _ x hx) (w0:=w.drew) (.inr rfl)
 refine⟨h1,h2,.ae _ _ _ _ _ _ ⟨_,e,(0,0),?_,gU,mU,.inl ⟨rfl,by rw[eD];omega⟩⟩⟩
 exact xo w.drew _
theorem Gc(ok:dD P TT){o:Oper}{s x:Operand}{t t' e e':TypeId}(ho:o.op=.call ⟨.builtin .append,#[s,x],#[t,t']⟩){ρ:Operand→AV}{σ:Hp}{K:AV→Hp→Prop}{it sP i:TI}(ht:TT t=some it)(hk:it.k=.slice e)(nL:TT t'=some sP)(eN:sP.k=.slice e')(hi:TT e=some i)
  (h:HE i σ (ρ s) (ρ x) K):j5 P o ρ σ K:=by
 intro a F w hx aC next Q cy
 obtain⟨_,d,_,_,hd,_,_,jT,_,_⟩:=dp ok ht
 rw[hk]at jT
 obtain rfl:=jX jT
 obtain⟨_,d',_,_,kh,_,_,xW,_,_⟩:=dp ok nL
 rw[eN]at xW
 obtain rfl:=jX xW
 obtain⟨j,dj,z,hj,OF,hs,⟨hb,oO⟩,_,hz,ib⟩:=dp ok hi
 have jB:z.cells.size=i.size:=by have:=(xi (F:=F) (w:=w) ib).1;omega
 have a1:=hx s (by simp[ho,Op.operands,Call.operands])
 have a2:=hx x (by simp[ho,Op.operands,Call.operands])
 have fits:∀{len n:Nat},len+n≤1048576→i.bytes≤1024→(len+n)*j.bytes≤140737488355328:=by
  intro len n h1 h2
  rw[hb]
  have:(len+n)*i.bytes≤1048576*1024:=jm h1 h2
  omega
 cases h with
 |fresh n new jk vT hn zY h0 go same=>
  obtain⟨news,src,q1,q2⟩:=CL (P:=P) vT aC a2 kh
  rw[← hs]at src
  obtain⟨ad,hv⟩:∃ad,a.eval s=.slice ad 0 0:=by
   rcases jk with jk | jk
   ·rw[jk]at a1;revert a1;generalize a.eval s=u;intro a1;cases a1;exact⟨none,rfl⟩
   ·rw[jk]at a1;revert a1;generalize a.eval s=u;intro a1;cases a1;exact⟨_,rfl⟩
  by_cases fY:n=0
  ·subst fY
   have vL:news=[]:=List.length_eq_zero_iff.1 (by rw[src.newsLen];simp)
   subst vL
   have hr:=tf (η:=a.eval) ho (by rw[hv];exact run_append_nothing w t t' o.type e j hd hj ad 0 0 (aM _) _ src)
   unfold wq
   rw[hr]
   exact cy _ _ σ F w (.refl _ _) aC (by rw[← hv];exact a1) (same rfl)
  ·have hold:(Builtin.firstCells j.size 0 (.slice ad 0 0)).run P w.drew=.ok #[] w.drew:=by
    cases ad with
    |none=>exact run_firstCells_none w.drew _ _ _ _
    |some ad=>exact run_firstCells_some w.drew j.size 0 ad 0 0 [] (by simp) (fun j u h=>by simp at h)
   have zo:=run_append_grow_src (P:=P) w t t' o.type e j z hd hj hz ad 0 0 [] hold _ n news src (by omega) (by omega) (growslice_fits (by omega) (fits (by omega) zY))
   have ay:=grownCap_ge w (0+n) 0 e
   have qP:=grownCap_le_maxLen w (0+n) 0 e (by unfold maxLen;omega)
   obtain⟨g1,g2,g3⟩:=GP aC (e:=e) (i:=i) (z:=z) (olds:=[]) (co:=[]) (news:=news) (cn:=new) (len:=0) (n:=n) (cap:=grownCap w (0+n) 0 e) rfl q1 (fun i x h=>by simp at h) q2 (by simp) (by rw[src.newsLen,hs]) jB ay qP
   have hr:=tf (η:=a.eval) ho (by rw[hv];exact zo)
   unfold wq
   rw[hr]
   have:=go fY w.heap.size
   rw[show n=0+n from (dK n).symm]at this
   exact cy _ _ _ F _ g1 g2 g3 this
 |more jj b len n cs new qM sX ey vT hn zY h0 go=>
  obtain⟨news,src,q1,q2⟩:=CL (P:=P) vT aC a2 kh
  rw[qM]at a1
  obtain⟨ad,cap,hv,c,T,fz,m1,m2,m3,m4⟩:=a1.lD
  obtain⟨hF,c',T',jU,Ez,IE⟩:=(aC.holds _ (bH sX)).cells ⟨c,T,fz,m1⟩
  have Ez:cs.length≤c'.size:=Ez
  have OK:c=c'∧T=T'∧fz=(0,0):=by
   rw[jU]at m1;cases m1;exact⟨rfl,rfl,rfl⟩
  obtain⟨rfl,rfl,rfl⟩:=OK
  have ab:jj<σ.length:=(bQ.1 sX).1
  have uG:(cs.take (len*i.size)).length=len*i.size:=by simp;omega
  have NP:∀(k:Nat) (x:AV),(cs.take (len*i.size))[k]?=some x→x.leaf=true∧ax F w x (c.getD k undef):=by
   intro k x hx
   rw[nV]at hx
   split at hx
   ·exact IE k x hx
   ·cases hx
  have l9:aX F w (σ.eraseIdx jj):=aC.sub (List.eraseIdx_sublist _ _)
  by_cases oo:len+n≤cap
  ·rcases m4 with ⟨rfl,pO⟩ | ⟨uH,s6,ie,gV⟩
   ·rw[dK]at pO
    have hmul:(len+n)*i.size≤cap*i.size:=iR _ oo
    rw[lh]at hmul
    have mi:news.length=n*i.size:=src.newsLen
    have ao:=run_storeCells_at (P:=P) b (len*i.size) T news 0 c w jU (by omega) src.one
    simp only[uN]at ao
    rw[← hs]at src
    have EB:(Builtin.append_ #[t,t'] o.type #[.slice (some ⟨b,0,none⟩) len cap,a.eval x]).run P w=.ok (.slice (some ⟨b,0,none⟩) (len+n) cap) (w.setRow b (c.toList.take (len*i.size)++news++c.toList.drop (len*i.size+news.length)).toArray):=by
     rw[← hs]at ao ⊢
     simp[Builtin.append_,run_underlying hd,run_underlying kh,sizeOf,typeInfo,hj,src.len,oo,src.cells,Addr.add_lit,ao]
    have hr:=tf (η:=a.eval) ho (by rw[hv];exact EB)
    have hlen:(c.toList.take (len*i.size)++news++c.toList.drop (len*i.size+news.length)).length=c.size:=by simp;omega
    obtain⟨s1,s2⟩:=Aw aC sX (cs':=cs.take (len*i.size)++new) jU (c':=(c.toList.take (len*i.size)++news++c.toList.drop (len*i.size+news.length)).toArray) (by simp only[p9];exact hlen) (by rw[p9,hlen,bG,uG,q1];omega)
     (G6 (cs:=cs.take (len*i.size)) (xs:=new) (fun k y hk=>NP k y hk) q1 q2 (by omega) (by simp only[bG,uG,q1];omega) (fun k y hk=>by
      by_cases mQ:k<len*i.size
      ·rw[ah (by omega)]
       rw[jG (by omega)]at hk
       exact hk
      ·rw[ij (by omega),uG]at hk
       have:=(bQ.1 hk).1
       rw[ag (by omega)]
       exact hk))
     (fun k hk=>setRow_other w b k _ hk) (setRow_heap w b c _ T _ jU) rfl rfl rfl (by simp)
    unfold wq
    rw[hr]
    refine cy _ _ _ F _ s1 (s2.perm ?_) ?_ (go b)
    ·have:=yH (σ.set jj (b,cs.take (len*i.size)++new)) jj (b,cs.take (len*i.size)++new) (by simp[ab])
     rw[Pc]at this
     exact this
    ·exact .ae _ _ _ _ _ _ ⟨_,T,(0,0),setRow_heap w b c _ T _ jU,by omega,m3,.inl ⟨rfl,by simp only[p9];rw[hlen];omega⟩⟩
   ·subst ie;subst gV
    obtain rfl:n=0:=by omega
    have vL:news=[]:=List.length_eq_zero_iff.1 (by rw[src.newsLen];simp)
    subst vL
    rw[← hs]at src
    have hY:new=[]:=List.length_eq_zero_iff.1 (by simpa using q1)
    subst hY
    have hr:=tf (η:=a.eval) ho (by rw[hv];exact run_append_nothing w t t' o.type e j hd hj (some ad) 0 0 (aM _) _ src)
    unfold wq
    rw[hr]
    have oq:aX F w ((b,cs)::σ.eraseIdx jj):=aC.perm (yH σ jj (b,cs) sX)
    have g0:K (.ae b 0 0 i.size) ((b,[])::σ.eraseIdx jj):=by simpa using go b
    refine cy _ _ ((b,[])::σ.eraseIdx jj) F w (.refl _ _) ⟨oq.nodup,fun p hp=>?_,oq.low⟩ (.ae b 0 0 i.size ad 0 ⟨c,T,(0,0),jU,aM _,by unfold maxLen;omega,.inr ⟨uH,s6,rfl,rfl⟩⟩) g0
    rcases da.1 hp with rfl | hp
    ·exact⟨hF,.inl ⟨c,T,jU,by simp,fun i x h=>by simp at h⟩⟩
    ·exact oq.holds p (cE _ hp)
  ·obtain⟨olds,o1,o2,o3⟩:∃olds:List Value,olds.length=len*i.size∧(Builtin.firstCells i.size len (.slice (some ad) len cap)).run P w.drew=.ok olds.toArray w.drew∧∀(k:Nat) (x:AV),(cs.take (len*i.size))[k]?=some x→x.leaf=true∧ax F w x (olds.getD k undef):=by
    rcases m4 with ⟨rfl,pO⟩ | ⟨uH,s6,rfl,rfl⟩
    ·have dX:At F w b 0 (cs.take (len*i.size)):=by
      have:=aC.at_ sX ⟨_,_,_,jU⟩
      intro k x hx
      rw[nV]at hx
      split at hx
      ·exact this k x hx
      ·cases hx
     obtain⟨olds,n1,n2,n3,n4⟩:=Dy dX
     refine⟨olds,by rw[n1,uG],run_firstCells_some w.drew i.size len _ len cap olds (by rw[n1,uG]) (fun k u hk=>?_),n3⟩
     rw[pc]
     exact n2 k u hk
    ·exact⟨[],by simp,run_firstCells_some w.drew i.size 0 ad 0 0 [] (by simp) (fun j u h=>by simp at h),fun k x h=>by simp at h⟩
   have mi:news.length=n*i.size:=src.newsLen
   rw[← hs]at src
   have zo:=run_append_grow_src (P:=P) w t t' o.type e j z hd hj hz (some ad) len cap olds (by rw[hs];exact o2) _ n news src (by omega) (by omega) (growslice_fits (by omega) (fits (by omega) zY))
   have ay:=grownCap_ge w (len+n) cap e
   have qP:=grownCap_le_maxLen w (len+n) cap e (by unfold maxLen;omega)
   obtain⟨g1,g2,g3⟩:=GP l9 (e:=e) (i:=i) (z:=z) (olds:=olds) (co:=cs.take (len*i.size)) (news:=news) (cn:=new) (len:=len) (n:=n) (cap:=grownCap w (len+n) cap e) (by rw[uG,o1]) q1 o3 q2 o1 mi jB ay qP
   have hr:=tf (η:=a.eval) ho (by rw[hv];exact zo)
   unfold wq
   rw[hr]
   exact cy _ _ _ F _ g1 g2 g3 (go w.heap.size)
 |A8 jj b off len n cs new qM sX ey vT hn zY h0 xZ go=>
  obtain⟨news,src,q1,q2⟩:=CL (P:=P) vT aC a2 kh
  rw[qM]at a1
  obtain⟨ad,cap,hv,c,T,fz,m1,m2,m3,m4⟩:=a1.lD
  obtain⟨hF,c',T',jU,Ez,IE⟩:=(aC.holds _ (bH sX)).cells ⟨c,T,fz,m1⟩
  have Ez:cs.length≤c'.size:=Ez
  have OK:c=c'∧T=T'∧fz=(0,0):=by
   rw[jU]at m1;cases m1;exact⟨rfl,rfl,rfl⟩
  obtain⟨rfl,rfl,rfl⟩:=OK
  have ab:jj<σ.length:=(bQ.1 sX).1
  have uG:(cs.take (off+len*i.size)).length=off+len*i.size:=by simp;omega
  have NQ:((cs.drop off).take (len*i.size)).length=len*i.size:=by simp;omega
  have NP:∀(k:Nat) (x:AV),(cs.take (off+len*i.size))[k]?=some x→x.leaf=true∧ax F w x (c.getD k undef):=by
   intro k x hx
   rw[nV]at hx
   split at hx
   ·exact IE k x hx
   ·cases hx
  have l9:aX F w (σ.eraseIdx jj):=aC.sub (List.eraseIdx_sublist _ _)
  by_cases oo:len+n≤cap
  ·rcases m4 with ⟨rfl,pO⟩ | ⟨uH,s6,ie,gV⟩
   ·have pO:off+cap*i.size≤c.size:=pO
    have hmul:(len+n)*i.size≤cap*i.size:=iR _ oo
    rw[lh]at hmul
    have mi:news.length=n*i.size:=src.newsLen
    have ao:=run_storeCells_at (P:=P) b (off+len*i.size) T news 0 c w jU (by omega) src.one
    simp only[uN]at ao
    rw[← hs]at src
    have EB:(Builtin.append_ #[t,t'] o.type #[.slice (some ⟨b,off,none⟩) len cap,a.eval x]).run P w=.ok (.slice (some ⟨b,off,none⟩) (len+n) cap) (w.setRow b (c.toList.take (off+len*i.size)++news++c.toList.drop (off+len*i.size+news.length)).toArray):=by
     rw[← hs]at ao ⊢
     simp[Builtin.append_,run_underlying hd,run_underlying kh,sizeOf,typeInfo,hj,src.len,oo,src.cells,Addr.add_lit,ao]
    have hr:=tf (η:=a.eval) ho (by rw[hv];exact EB)
    have hlen:(c.toList.take (off+len*i.size)++news++c.toList.drop (off+len*i.size+news.length)).length=c.size:=by simp;omega
    obtain⟨s1,s2⟩:=Aw aC sX (cs':=cs.take (off+len*i.size)++new) jU (c':=(c.toList.take (off+len*i.size)++news++c.toList.drop (off+len*i.size+news.length)).toArray) (by simp only[p9];exact hlen) (by rw[p9,hlen,bG,uG,q1];omega)
     (G6 (cs:=cs.take (off+len*i.size)) (xs:=new) (fun k y hk=>NP k y hk) q1 q2 (by omega) (by simp only[bG,uG,q1];omega) (fun k y hk=>by
      by_cases mQ:k<off+len*i.size
      ·rw[ah (by omega)]
       rw[jG (by omega)]at hk
       exact hk
      ·rw[ij (by omega),uG]at hk
       have:=(bQ.1 hk).1
       rw[ag (by omega)]
       exact hk))
     (fun k hk=>setRow_other w b k _ hk) (setRow_heap w b c _ T _ jU) rfl rfl rfl (by simp)
    unfold wq
    rw[hr]
    refine cy _ _ _ F _ s1 (s2.perm ?_) ?_ xZ
    ·have:=yH (σ.set jj (b,cs.take (off+len*i.size)++new)) jj (b,cs.take (off+len*i.size)++new) (by simp[ab])
     rw[Pc]at this
     exact this
    ·exact .ae _ _ _ _ _ _ ⟨_,T,(0,0),setRow_heap w b c _ T _ jU,by omega,m3,.inl ⟨rfl,by simp only[p9];rw[hlen];omega⟩⟩
   ·subst ie;subst gV
    obtain rfl:n=0:=by omega
    have vL:news=[]:=List.length_eq_zero_iff.1 (by rw[src.newsLen];simp)
    subst vL
    rw[← hs]at src
    have hY:new=[]:=List.length_eq_zero_iff.1 (by simpa using q1)
    subst hY
    have hr:=tf (η:=a.eval) ho (by rw[hv];exact run_append_nothing w t t' o.type e j hd hj (some ad) 0 0 (aM _) _ src)
    unfold wq
    rw[hr]
    have oq:aX F w ((b,cs)::σ.eraseIdx jj):=aC.perm (yH σ jj (b,cs) sX)
    have g0:K (.ae b off 0 i.size) ((b,cs.take off)::σ.eraseIdx jj):=by simpa using xZ
    refine cy _ _ ((b,cs.take off)::σ.eraseIdx jj) F w (.refl _ _) ⟨oq.nodup,fun p hp=>?_,oq.low⟩ (.ae b off 0 i.size ad 0 ⟨c,T,(0,0),jU,aM _,by unfold maxLen;omega,.inr ⟨uH,s6,rfl,rfl⟩⟩) g0
    rcases da.1 hp with rfl | hp
    ·exact⟨hF,.inl ⟨c,T,jU,by simp only[sb];omega,fun k x h=>by
      rw[nV]at h
      split at h
      ·exact IE k x h
      ·cases h⟩⟩
    ·exact oq.holds p (cE _ hp)
  ·obtain⟨olds,o1,o2,o3⟩:∃olds:List Value,olds.length=len*i.size∧(Builtin.firstCells i.size len (.slice (some ad) len cap)).run P w.drew=.ok olds.toArray w.drew∧∀(k:Nat) (x:AV),((cs.drop off).take (len*i.size))[k]?=some x→x.leaf=true∧ax F w x (olds.getD k undef):=by
    rcases m4 with ⟨rfl,pO⟩ | ⟨uH,s6,rfl,rfl⟩
    ·have dX:At F w b off ((cs.drop off).take (len*i.size)):=by
      have:=aC.at_ sX ⟨_,_,_,jU⟩
      intro k x hx
      rw[nV]at hx
      split at hx
      ·rw[wV]at hx
       have h5:=this (off+k) x hx
       simpa only [dK]using h5
      ·cases hx
     obtain⟨olds,n1,n2,n3,n4⟩:=Dy dX
     refine⟨olds,by rw[n1,NQ],run_firstCells_some w.drew i.size len _ len cap olds (by rw[n1,NQ]) (fun k u hk=>?_),n3⟩
     rw[pc]
     exact n2 k u hk
    ·exact⟨[],by simp,run_firstCells_some w.drew i.size 0 ad 0 0 [] (by simp) (fun j u h=>by simp at h),fun k x h=>by simp at h⟩
   have mi:news.length=n*i.size:=src.newsLen
   rw[← hs]at src
   have zo:=run_append_grow_src (P:=P) w t t' o.type e j z hd hj hz (some ad) len cap olds (by rw[hs];exact o2) _ n news src (by omega) (by omega) (growslice_fits (by omega) (fits (by omega) zY))
   have ay:=grownCap_ge w (len+n) cap e
   have qP:=grownCap_le_maxLen w (len+n) cap e (by unfold maxLen;omega)
   obtain⟨g1,g2,g3⟩:=GP l9 (e:=e) (i:=i) (z:=z) (olds:=olds) (co:=(cs.drop off).take (len*i.size)) (news:=news) (cn:=new) (len:=len) (n:=n) (cap:=grownCap w (len+n) cap e) (by rw[NQ,o1]) q1 o3 q2 o1 mi jB ay qP
   have hr:=tf (η:=a.eval) ho (by rw[hv];exact zo)
   unfold wq
   rw[hr]
   exact cy _ _ _ F _ g1 g2 g3 (go w.heap.size)
theorem Xa(w:World)(t t' ty e:TypeId)(k:IntKind)(i:TypeInfo)(z:Value)(hd:P.underlying t=some (.slice e))(kh:P.underlying t'=some (.int k))(hi:P.info? e=some i)(hz:i.zero=some z)(k':IntKind)(m:Nat)(h0:0<m)(hm:m≤1048576)(hb:m*i.bytes≤140737488355328)(hs:0<i.size):
  (Builtin.append_ #[t,t'] ty #[.slice none 0 0,.int k' (m:Int)]).run P w=.ok (.slice (some ⟨w.heap.size,0,none⟩) m (grownCap w m 0 e)) (w.drew.alloc (.cells (([]++(Builtin.zeroCells z.cells m).toList).toArray++Builtin.zeroCells z.cells (grownCap w m 0 e-m)) e)):=by
 have hw:IntKind.i64.wrap (m:Int)=m:=by rw[IntKind.wrap_i64];omega
 have h1:¬((m:Int)<0):=by omega
 have h2:¬((281474976710656:Int)<(m:Int)*(i.bytes:Int)):=by
  have:((m*i.bytes:Nat):Int)≤140737488355328:=by omega
  rw[r8]at this;omega
 have h3:¬(9223372036854775807<(m:Int)):=by omega
 have h4:¬(281474976710656<Builtin.nextslicecap m 0*i.bytes):=by rw[nextslicecap_zero h0];omega
 have h5:m≠0:=by omega
 have h6:i.size≠0:=by omega
 simp[Builtin.append_,run_underlying hd,run_underlying kh,sizeOf,typeInfo,zeroValue,hi,hz,asInt,asIntOf,hw,h1,h2,h3,h4,h5,Question.forced,run_firstCells_none,newRow,grownCap]
 intro h7
 exact absurd h7 (Nat.mul_ne_zero h5 h6)
theorem Xt(ok:dD P TT){o:Oper}{s x:Operand}{t t' e:TypeId}{k:IntKind}(ho:o.op=.call ⟨.builtin .append,#[s,x],#[t,t']⟩){ρ:Operand→AV}{σ:Hp}{K:AV→Hp→Prop}{it sP i:TI}(ht:TT t=some it)(hk:it.k=.slice e)(nL:TT t'=some sP)(eN:sP.k=.int k)(hi:TT e=some i)
  (h:DD i σ (ρ s) (ρ x) K):j5 P o ρ σ K:=by
 intro a F w hx aC next Q cy
 obtain⟨_,d,_,_,hd,_,_,jT,_,_⟩:=dp ok ht
 rw[hk]at jT
 obtain rfl:=jX jT
 obtain⟨_,d',_,_,kh,_,_,xW,_,_⟩:=dp ok nL
 rw[eN]at xW
 obtain rfl:=fits_int xW
 obtain⟨j,dj,z,hj,OF,hs,⟨hb,oO⟩,_,hz,ib⟩:=dp ok hi
 have jB:z.cells.size=i.size:=by have:=(xi (F:=F) (w:=w) ib).1;omega
 have a1:=hx s (by simp[ho,Op.operands,Call.operands])
 have a2:=hx x (by simp[ho,Op.operands,Call.operands])
 cases h with
 |aj k2 n jk EY hn zY h0 go same=>
  rw[jk]at a1
  rw[EY]at a2
  have e1:a.eval s=.slice none 0 0:=by revert a1;generalize a.eval s=u;intro a1;cases a1;rfl
  have e2:a.eval x=.int k2 n:=a2.gu
  by_cases fY:n=0
  ·subst fY
   have EB:(Builtin.append_ #[t,t'] o.type #[.slice none 0 0,.int k2 0]).run P w=.ok (.slice none 0 0) w:=by
    have hw:IntKind.i64.wrap 0=0:=by decide
    simp[Builtin.append_,run_underlying hd,run_underlying kh,sizeOf,typeInfo,hj,asInt,asIntOf,hw]
   have hr:=tf (η:=a.eval) ho (by rw[e1,e2];exact EB)
   unfold wq
   rw[hr]
   exact cy _ _ σ F w (.refl _ _) aC .aj (same rfl)
  ·obtain⟨m,rfl⟩:∃m:Nat,n=m:=⟨n.toNat,by omega⟩
   have uC:0<m:=by omega
   have hmul:m*j.bytes≤140737488355328:=by
    rw[hb]
    have:m*i.bytes≤1048576*1024:=jm (by omega) zY
    omega
   have zo:=Xa (P:=P) w t t' o.type e k j z hd kh hj hz k2 m uC (by omega) hmul (by omega)
   have ay:=grownCap_ge w m 0 e
   have qP:=grownCap_le_maxLen w m 0 e (by unfold maxLen;omega)
   obtain⟨r1,r2⟩:=G5 (F:=F) (w:=w) ib (aM m)
   have lE:(madeCells z.cells (m*i.zero.length))=Builtin.zeroCells z.cells m:=by
    unfold madeCells Builtin.zeroCells
    rw[jB,oO]
   have eD:(Builtin.zeroCells z.cells m).size=m*i.zero.length:=by rw[← lE,size_madeCells]
   obtain⟨g1,g2,g3⟩:=GP aC (e:=e) (i:=i) (z:=z) (olds:=[]) (co:=[]) (news:=(Builtin.zeroCells z.cells m).toList) (cn:=cz i.zero m) (len:=0) (n:=m) (cap:=grownCap w m 0 e) rfl (by rw[u0,Array.length_toList,eD]) (fun i x h=>by simp at h) (fun k y hk=>by
    have:=r2 k y hk
    rw[lE]at this
    rw[aR,Cl,← gW]
    exact this) (by simp) (by rw[Array.length_toList,eD,oO]) jB (by rw[Nat.zero_add];exact ay) qP
   rw[dK]at g1 g2 g3
   have hr:=tf (η:=a.eval) ho (by rw[e1,e2];exact zo)
   unfold wq
   rw[hr]
   exact cy _ _ _ F _ g1 g2 g3 (go (by omega) w.heap.size)
theorem XG(ok:dD P TT){o:Oper}{s x:Operand}{t t' e e':TypeId}(ho:o.op=.call ⟨.builtin .append,#[s,x],#[t,t']⟩){ρ:Operand→AV}{σ:Hp}{K:AV→Hp→Prop}{it sP i:TI}(ht:TT t=some it)(hk:it.k=.slice e)(nL:TT t'=some sP)(eN:sP.k=.slice e')(hi:TT e=some i)
  (h:AppendAt i σ (ρ s) (ρ x) K):j5 P o ρ σ K:=by
 cases h with
 |fresh n new hs hx hn hb h0 go same=>exact Gc ok ho ht hk nL eN hi (.fresh n new hs hx hn hb h0 go same)
 |more j b len n cs new hs h1 h2 hx hn hb h0 go=>exact Gc ok ho ht hk nL eN hi (.more j b len n cs new hs h1 h2 hx hn hb h0 go)
 |A8 j b off len n cs new hs h1 h2 hx hn hb h0 xZ go=>exact Gc ok ho ht hk nL eN hi (.A8 j b off len n cs new hs h1 h2 hx hn hb h0 xZ go)
 |perm K2 hp h ef=>
  have:=Gc ok ho ht hk nL eN hi h
  intro a F w hx aC next Q hn
  refine this a F w hx (aC.perm hp) next Q (fun v av σ' F' w' h1 h2 h3 h4=>?_)
  obtain⟨zF,p,k | ⟨hl,k⟩⟩:=ef av σ' h4
  ·exact hn v av zF F' w' h1 (h2.perm p) h3 k
  ·exact hn v _ zF F' w' h1 (h2.perm p) (.via _ _ hl h3) k
end
section
variable {P:Program} {TT:TypeId→Option TI} {F:Nat→Prop} {w:World}
theorem K9{σ:Hp}(aC:aX F w σ){j b off:Nat}{cs:List AV}(h1:σ[j]?=some (b,cs))(OL:oc w b)(xs:List AV)(news:List Value)(hl:xs.length=news.length)(hle:off+xs.length≤cs.length)(hv:∀(k:Nat) (y:AV),xs[k]?=some y→y.leaf=true∧ax F w y (news.getD k undef)):
  ∃w',(storeCells ⟨b,off,none⟩ news).run P w=.ok () w'∧bh F w F w'∧aX F w' (σ.set j (b,e8 cs off xs)):=by
 obtain⟨hF,c,T,hc,ey,pZ⟩:=(aC.holds _ (bH h1)).cells OL
 have ey:cs.length≤c.size:=ey
 have lH:∀u∈news,u.oneCell'=true:=by
  intro u hu
  obtain⟨k,hk⟩:=kI.1 hu
  have ab:k<news.length:=(bQ.1 hk).1
  obtain⟨h3,h4⟩:=hv k (xs[k]'(by omega)) (by simp)
  have:=h4.one h3
  rwa [aR,hk]at this
 have ao:=run_storeCells_at (P:=P) b off T news 0 c w hc (by omega) lH
 simp only[uN]at ao
 have hlen:(c.toList.take off++news++c.toList.drop (off+news.length)).length=c.size:=by simp;omega
 obtain⟨s1,s2⟩:=Aw aC h1 (cs':=e8 cs off xs) hc (c':=(c.toList.take off++news++c.toList.drop (off+news.length)).toArray) (by simp only[p9];exact hlen) (by rw[Ai];simp only[p9];omega)
  (G6 (xs:=xs) pZ hl hv (by omega) (by rw[Ai];omega) (fun k y hk=>by rw[KC _ _ _ _ (by omega)]at hk;exact hk))
  (fun k hk=>setRow_other w b k _ hk) (setRow_heap w b c _ T _ hc) rfl rfl rfl (by simp)
 exact⟨_,ao,s1,s2⟩
theorem PS{η:Operand→Value}{o:Oper}{s:Operand}{t:TypeId}(ho:o.op=.call ⟨.builtin .clear,#[s],#[t]⟩){v:Value}{w w':World}(h:(Builtin.clear_ #[t] o.type #[η s]).run P w=.ok v w'):(execOp η o).run P w=.ok (.value v) w':=by
 rw[tq _ _ _ o ho]
 simp[builtin,h]
theorem Cv{η:Operand→Value}{o:Oper}{d x:Operand}{t t':TypeId}(ho:o.op=.call ⟨.builtin .copy,#[d,x],#[t,t']⟩){v:Value}{w w':World}(h:(Builtin.copy_ #[t,t'] o.type #[η d,η x]).run P w=.ok v w'):(execOp η o).run P w=.ok (.value v) w':=by
 rw[tq _ _ _ o ho]
 simp[builtin,h]
theorem Lp{σ:Hp}{j:Nat}{p:Nat×List AV}(h:σ[j]?=some p):σ.set j p=σ:=by
 obtain⟨h1,h2⟩:=bQ.1 h
 subst h2
 exact List.set_getElem_self h1
theorem Yl(ok:dD P TT){o:Oper}{s:Operand}{t e:TypeId}(ho:o.op=.call ⟨.builtin .clear,#[s],#[t]⟩){ρ:Operand→AV}{σ:Hp}{K:AV→Hp→Prop}{it i:TI}(ht:TT t=some it)(hk:it.k=.slice e)(hi:TT e=some i)(h:Mv i σ (ρ s) (fun σ'=>K (.tup []) σ')):j5 P o ρ σ K:=by
 intro a F w hx aC next Q cy
 obtain⟨_,d,_,_,hd,_,_,jT,_,_⟩:=dp ok ht
 rw[hk]at jT
 obtain rfl:=jX jT
 obtain⟨j,dj,z,hj,OF,hs,⟨hb,oO⟩,_,hz,ib⟩:=dp ok hi
 have a1:=hx s (by simp[ho,Op.operands,Call.operands])
 have e0:∀(ad:Option Addr) (c:Nat),(Builtin.clear_ #[t] o.type #[.slice ad 0 c]).run P w=.ok (.tuple #[]) w:=fun ad c=>by
  cases ad <;> simp[Builtin.clear_,run_underlying hd]
 have done:∀(ad:Option Addr) (c:Nat),a.eval s=.slice ad 0 c→K (.tup []) σ→wq P o a w next Q:=fun ad c hv hK=>by
  unfold wq
  rw[PS (η:=a.eval) ho (by rw[hv];exact e0 ad c)]
  exact cy (.tuple #[]) _ σ F w (.refl _ _) aC (.tup _ _ rfl (fun i x h=>by simp at h)) hK
 cases h with
 |none hs go=>
  rcases hs with hs | hs | hs
  ·rw[hs]at a1;generalize hv:a.eval s=v at a1;cases a1;exact done _ _ hv go
  ·rw[hs]at a1;generalize hv:a.eval s=v at a1;cases a1;exact done _ _ hv go
  ·rw[hs]at a1;generalize hv:a.eval s=v at a1;cases a1;exact done _ _ hv go
 |ae j' b off len cs qM h1 h2 go=>
  rw[qM]at a1
  obtain⟨ad,cap,hv,c,T,fz,m1,m2,m3,m4⟩:=a1.lD
  by_cases ie:len=0
  ·subst ie
   refine done _ _ hv ?_
   have e:e8 cs off (cz i.zero 0)=cs:=rfl
   rw[e,Lp h1]at go
   exact go
  ·obtain⟨rfl,_⟩:ad=⟨b,off,none⟩∧off+cap*i.size≤c.size:=by
    rcases m4 with h | ⟨_,_,h,_⟩
    ·exact h
    ·exact absurd h ie
   obtain⟨r1,r2⟩:=G5 (F:=F) (w:=w) ib (aM len)
   have ahw:z.cells.size=i.zero.length:=((xi (F:=F) (w:=w) ib).1).symm
   have lE:(madeCells z.cells (len*i.zero.length))=Builtin.zeroCells z.cells len:=by
    unfold madeCells Builtin.zeroCells
    rw[ahw]
   have eD:(Builtin.zeroCells z.cells len).size=len*i.zero.length:=by rw[← lE,size_madeCells]
   obtain⟨w',k1,k2,k3⟩:=K9 (P:=P) aC h1 (off:=off) ⟨_,_,_,m1⟩ (cz i.zero len) (Builtin.zeroCells z.cells len).toList (by rw[u0,Pq,eD]) (by rw[u0,oO];exact h2) (fun k y hk=>by
    have:=r2 k y hk
    rw[lE]at this
    refine⟨this.1,?_⟩
    rw[aR,Cl,← gW]
    exact this.2)
   obtain⟨len,rfl⟩:∃m,len=m+1:=⟨len-1,by omega⟩
   have fF:(Builtin.clear_ #[t] o.type #[.slice (some ⟨b,off,none⟩) (len+1) cap]).run P w=.ok (.tuple #[]) w':=by
    simp[Builtin.clear_,run_underlying hd,zeroValue,typeInfo,hj,hz,k1]
   unfold wq
   rw[PS (η:=a.eval) ho (by rw[hv];exact fF)]
   exact cy (.tuple #[]) _ _ F w' k2 k3 (.tup _ _ rfl (fun i x h=>by simp at h)) go
theorem Zb(ok:dD P TT){o:Oper}{d x:Operand}{t t' e e':TypeId}(ho:o.op=.call ⟨.builtin .copy,#[d,x],#[t,t']⟩){ρ:Operand→AV}{σ:Hp}{K:AV→Hp→Prop}{it sP i:TI}(ht:TT t=some it)(hk:it.k=.slice e)(nL:TT t'=some sP)(eN:sP.k=.slice e')(hi:TT e=some i)
  (h:MY i σ (ρ d) (ρ x) K):j5 P o ρ σ K:=by
 intro a F w hx aC next Q cy
 obtain⟨_,dd,_,_,hd,_,_,jT,_,_⟩:=dp ok ht
 rw[hk]at jT
 obtain rfl:=jX jT
 obtain⟨_,d',_,_,kh,_,_,xW,_,_⟩:=dp ok nL
 rw[eN]at xW
 obtain rfl:=jX xW
 obtain⟨j,dj,z,hj,OF,hs,_⟩:=dp ok hi
 have a1:=hx d (by simp[ho,Op.operands,Call.operands])
 have a2:=hx x (by simp[ho,Op.operands,Call.operands])
 cases h with
 |none new mj vT go=>
  obtain⟨news,src,q1,q2⟩:=CL (P:=P) vT aC a2 kh
  have vL:news=[]:=List.length_eq_zero_iff.1 (by rw[src.newsLen];simp)
  subst vL
  rw[← hs]at src
  obtain⟨ad,c,hv⟩:∃ad c,a.eval d=.slice ad 0 c:=by
   rcases mj with mj | mj | mj
   ·rw[mj]at a1;generalize a.eval d=v at a1;cases a1;exact⟨_,_,rfl⟩
   ·rw[mj]at a1;generalize a.eval d=v at a1;cases a1;exact⟨_,_,rfl⟩
   ·rw[mj]at a1;generalize a.eval d=v at a1;cases a1;exact⟨_,_,rfl⟩
  have fF:(Builtin.copy_ #[t,t'] o.type #[.slice ad 0 c,a.eval x]).run P w=.ok (goInt 0) w:=by
   cases ad <;> simp[Builtin.copy_,run_underlying hd,src.len,sizeOf,typeInfo,hj,src.cells,storeCells]
  unfold wq
  rw[Cv (η:=a.eval) ho (by rw[hv];exact fF)]
  exact cy _ _ σ F w (.refl _ _) aC (.int _ _) go
 |ae jj b off len n cs new OE h1 h2 vT hn go=>
  obtain⟨news,src,q1,q2⟩:=CL (P:=P) vT aC a2 kh
  rw[OE]at a1
  obtain⟨ad,cap,hv,c,T,fz,m1,m2,m3,m4⟩:=a1.lD
  have mi:news.length=n*i.size:=src.newsLen
  have hmul:n*i.size≤len*i.size:=iR _ hn
  rw[← hs]at src
  by_cases ie:len=0
  ·obtain rfl:n=0:=by omega
   have vL:news=[]:=List.length_eq_zero_iff.1 (by rw[mi];simp)
   subst vL
   have hY:new=[]:=List.length_eq_zero_iff.1 (by simpa using q1)
   subst hY
   subst ie
   have fF:(Builtin.copy_ #[t,t'] o.type #[.slice (some ad) 0 cap,a.eval x]).run P w=.ok (goInt 0) w:=by
    simp[Builtin.copy_,run_underlying hd,src.len,sizeOf,typeInfo,hj,src.cells,storeCells]
   unfold wq
   rw[Cv (η:=a.eval) ho (by rw[hv];exact fF)]
   have e:e8 cs off ([]:List AV)=cs:=rfl
   rw[e,Lp h1]at go
   exact cy _ _ σ F w (.refl _ _) aC (.int _ _) go
  ·obtain⟨rfl,_⟩:ad=⟨b,off,none⟩∧off+cap*i.size≤c.size:=by
    rcases m4 with h | ⟨_,_,h,_⟩
    ·exact h
    ·exact absurd h ie
   obtain⟨w',k1,k2,k3⟩:=K9 (P:=P) aC h1 (off:=off) ⟨_,_,_,m1⟩ new news q1 (by omega) q2
   have fF:(Builtin.copy_ #[t,t'] o.type #[.slice (some ⟨b,off,none⟩) len cap,a.eval x]).run P w=.ok (goInt n) w':=by
    simp[Builtin.copy_,run_underlying hd,src.len,sizeOf,typeInfo,hj,Nat.min_eq_left hn,src.cells,k1]
   unfold wq
   rw[Cv (η:=a.eval) ho (by rw[hv];exact fF)]
   exact cy _ _ _ F w' k2 k3 (.int _ _) go
 |part jj b off len cs OE h1 h2 j2 b2 nw n kJ hxm h3 h4 hn go=>
  rw[OE]at a1
  rw[hxm]at a2
  obtain⟨ad,cap,hv,c,T,fz,m1,m2,m3,m4⟩:=a1.lD
  obtain⟨a3,zC,hv3,c3,T3,Km,p1,p2,p3,p4⟩:=a2.lD
  have hmul:len*i.size≤n*i.size:=iR _ hn
  by_cases ie:len=0
  ·subst ie
   have hc:(Builtin.firstCells i.size 0 (.slice (some a3) n zC)).run P w=.ok (([]:List Value).toArray) w:=run_firstCells_some w i.size 0 a3 n zC [] (by simp) (fun j u h=>by simp at h)
   rw[← hs]at hc
   have fF:(Builtin.copy_ #[t,t'] o.type #[.slice (some ad) 0 cap,.slice (some a3) n zC]).run P w=.ok (goInt 0) w:=by
    simp[Builtin.copy_,run_underlying hd,sizeOf,typeInfo,hj,Builtin.lenOf,hc,storeCells]
   unfold wq
   rw[Cv (η:=a.eval) ho (by rw[hv,hv3];exact fF)]
   have e:e8 cs off ((kJ.drop nw).take (0*i.size))=cs:=by rw[qR];rfl
   rw[e,Lp h1]at go
   exact cy _ _ σ F w (.refl _ _) aC (.int _ _) go
  ·obtain⟨rfl,_⟩:ad=⟨b,off,none⟩∧off+cap*i.size≤c.size:=by
    rcases m4 with h | ⟨_,_,h,_⟩
    ·exact h
    ·exact absurd h ie
   obtain⟨rfl,_⟩:a3=⟨b2,nw,none⟩∧nw+zC*i.size≤c3.size:=by
    rcases p4 with h | ⟨_,_,h,_⟩
    ·exact h
    ·omega
   have dX:At F w b2 nw ((kJ.drop nw).take (len*i.size)):=by
    have:=(aC.at_ h3 ⟨c3,T3,Km,p1⟩).drop nw
    rw[dK]at this
    intro i x hx
    rw[nV]at hx
    split at hx
    ·exact this i x hx
    ·cases hx
   have hl:((kJ.drop nw).take (len*i.size)).length=len*i.size:=by simp;omega
   obtain⟨news,n1,n2,n3,n4⟩:=Dy dX
   have hc:(Builtin.firstCells i.size len (.slice (some ⟨b2,nw,none⟩) n zC)).run P w=.ok news.toArray w:=run_firstCells_some w i.size len _ n zC news (by rw[n1,hl]) (fun j u hj=>by rw[pc];exact n2 j u hj)
   rw[← hs]at hc
   obtain⟨w',k1,k2,k3⟩:=K9 (P:=P) aC h1 (off:=off) ⟨_,_,_,m1⟩ ((kJ.drop nw).take (len*i.size)) news n1.symm (by rw[hl];exact h2) n3
   have fF:(Builtin.copy_ #[t,t'] o.type #[.slice (some ⟨b,off,none⟩) len cap,.slice (some ⟨b2,nw,none⟩) n zC]).run P w=.ok (goInt len) w':=by
    simp[Builtin.copy_,run_underlying hd,sizeOf,typeInfo,hj,Builtin.lenOf,Nat.min_eq_right hn,hc,k1]
   unfold wq
   rw[Cv (η:=a.eval) ho (by rw[hv,hv3];exact fF)]
   exact cy _ _ _ F w' k2 k3 (.int _ _) go
end
section
variable {P:Program} {TT:TypeId→Option TI}
theorem Xe{F:Nat→Prop}{w:World}:∀(s:Sh) (d:s.T) (vs:List Value),vs.length=s.size→(∀(k:Nat) (x:AV),(s.cells d)[k]?=some x→ax F w x (vs.getD k undef))→kP F w s vs d:=by
 intro s
 induction s with
 |int k=>intro d vs hl h;match vs,hl with | [v],_=>have:=(h 0 _ rfl).gu;exact congrArg (fun x=>[x]) this
 |bool=>intro d vs hl h;match vs,hl with | [v],_=>have:=(h 0 _ rfl).rC;exact congrArg (fun x=>[x]) this
 |str=>intro d vs hl h;match vs,hl with | [v],_=>have:=(h 0 _ rfl).Ef;exact congrArg (fun x=>[x]) this
 |nil=>intro d vs hl h;exact iS.1 hl
 |slice e ih=>
  intro d vs hl h
  match vs,hl with
  | [v],_=>
   have:=h 0 _ rfl
   cases this with
   |ai _ _ _ h=>exact h
 |field f r qJ jS=>
  intro d vs hl h
  simp only[Sh.size]at hl
  refine⟨vs.take f.size,vs.drop f.size,(List.take_append_drop _ _).symm,by simp;omega,qJ d.1 _ (by simp;omega) (fun k x hk=>?_),jS d.2 _ (by simp;omega) (fun k x hk=>?_)⟩
  ·have mQ:k<f.size:=by rw[← Sh.uZ f d.1];exact (bQ.1 hk).1
   have:=h k x (by show (f.cells d.1++r.cells d.2)[k]?=some x;rw[jG (by rw[Sh.uZ];exact mQ)];exact hk)
   rw[aR]at this ⊢
   rw[nV,ag mQ]
   exact this
  ·have:=h (f.size+k) x (by show (f.cells d.1++r.cells d.2)[f.size+k]?=some x;rw[ij (by rw[Sh.uZ];omega),Sh.uZ,FY];exact hk)
   rw[aR]at this ⊢
   rw[wV]
   exact this
theorem flat_get{α:Type}{f:α→List AV}{es:Nat}(hf:∀x,(f x).length=es):∀(l:List α) (i:Nat) (h:i<l.length) (k:Nat),k<es→(l.flatMap f)[i*es+k]?=(f l[i])[k]?
 | [],i,h,_,_=>by simp at h
 |y::l,0,h,k,hk=>by rw[List.flatMap_cons,List.getElem?_append_left (by rw[hf];omega)];simp
 |y::l,i+1,h,k,hk=>by
  rw[yA,ij (by rw[hf,lR];omega),hf,show (i+1)*es+k-es=i*es+k by rw[lR];omega]
  simpa using flat_get hf l i (by simpa using h) k hk
theorem aci{F:Nat→Prop}{w:World}{σ:Hp}(aC:aX F w σ){j b off len es:Nat}{cs:List AV}{e:Sh}{l:List e.T}(h1:σ[j]?=some (b,cs))(h2:(cs.drop off).take (len*es)=l.flatMap e.cells)(h3:l.length=len∧e.size=es∧0<es){v:Value}(hv:ax F w (.ae b off len es) v):
  ax (fun x=>F x∨x=b) w (.ai e l) v:=by
 obtain⟨hl,he,ui⟩:=h3
 have ao:bh F w (fun x=>F x∨x=b) w:=⟨rfl,rfl,rfl,aM _,fun _ h=>.inl h,fun _ _=>rfl,fun _ c _ fz h=>⟨c,fz,h,rfl⟩,aM _⟩
 obtain⟨a,cap,rfl,c,T,fz,m1,m2,m3,m4⟩:=hv.lD
 subst hl
 refine .ai e l _ ⟨some a,cap,rfl,m2,m3,(fun e=>by cases e),fun aO=>?_⟩
 have sW:0<l.length:=mm.2 aO
 rcases m4 with ⟨rfl,pO⟩ | ⟨_,_,h0,_⟩
 ·refine⟨b,off,rfl,⟨.inr rfl,c,T,fz,m1⟩,fun i hi=>?_⟩
  have dX:At F w b off ((cs.drop off).take (l.length*es)):=by
   have:=(aC.at_ h1 ⟨c,T,fz,m1⟩).drop off
   rw[dK]at this
   intro i x hx
   rw[nV]at hx
   split at hx
   ·exact this i x hx
   ·cases hx
  rw[h2]at dX
  have lE:∀k,k<es→∃x v,(e.cells l[i])[k]?=some x∧w.cell? ⟨b,off+i*es+k,none⟩=some v∧ax F w x v:=by
   intro k hk
   have hlen:k<(e.cells l[i]).length:=by rw[Sh.uZ,he];exact hk
   have hx:=bc hlen
   have:=flat_get (f:=e.cells) (es:=es) (fun d=>by rw[Sh.uZ,he]) l i hi k hk
   obtain⟨_,v,h4,h5⟩:=dX (i*es+k) _ (this.trans hx)
   exact⟨_,v,hx,by rw[← h4,Ci],h5⟩
  refine⟨(List.range es).map fun k=>(w.cell? ⟨b,off+i*es+k,none⟩).getD undef,by simp[he],fun k u hk=>?_,Xe e l[i] _ (by simp[he]) (fun k x hk=>?_)⟩
  ·have Fb:k<es:=by have:=(List.getElem?_eq_some_iff.1 hk).1;simpa using this
   obtain⟨x,v,_,h4,_⟩:=lE k Fb
   simp[Fb,h4]at hk
   rw[he,h4,hk]
  ·have Fb:k<es:=by have:=(bQ.1 hk).1;rw[Sh.uZ,he]at this;exact this
   obtain⟨x',v,h3,h4,h5⟩:=lE k Fb
   rw[h3]at hk
   cases hk
   have:ax F w x v:=h5
   simpa [List.getD,Fb,h4]using this.mono ao
 ·omega
theorem Cr{F F':Nat→Prop}{w:World}{b off len es:Nat}{e:Sh}{l:List e.T}(ao:bh F w F' w)(hh:∀v,ax F w (.ae b off len es) v→ax F' w (.ai e l) v){r r':AV}(h:eI b off len es e l r r'):∀v,ax F w r v→ax F' w r' v:=by
 induction h with
 |here=>exact hh
 |refl x=>exact fun v h=>h.mono ao
 |tup xs ys h hi ih=>
  intro v hv
  cases hv with
  |tup _ vs hs hr=>
   refine .tup _ _ (by rw[← h];exact hs) (fun i y hy=>?_)
   have sY:i<xs.length:=by rw[h];exact (bQ.1 hy).1
   exact ih i xs[i] y (bc sY) hy _ (hr i _ (bc sY))
 |agg xs ys h hl hi ih=>
  intro v hv
  obtain⟨vs,rfl,hs,hr⟩:=hv.v7
  refine .agg _ _ (by rw[← h];exact hs) hl (fun i y hy=>?_)
  have sY:i<xs.length:=by rw[h];exact (bQ.1 hy).1
  exact ih i xs[i] y (bc sY) hy _ (hr i _ (bc sY)).2
 |nil e'=>
  intro v hv
  cases hv
  exact .ai e' [] _ ⟨none,0,rfl,aM _,by unfold maxLen;omega,fun _=>rfl,fun aO=>absurd rfl aO⟩
 |gz e'=>
  intro v hv
  cases hv with
  |gz a c h=>exact .ai e' [] _ ⟨some a,c,rfl,bK _,h,(fun e=>by cases e),fun aO=>absurd rfl aO⟩
 |via h ih=>
  intro v hv
  cases hv with
  |via _ _ _ hv=>exact ih v hv
theorem xH{F:Nat→Prop}{w:World}{σ:Hp}(aC:aX F w σ){j b off len es:Nat}{cs:List AV}{e:Sh}{l:List e.T}(h1:σ[j]?=some (b,cs))(h2:(cs.drop off).take (len*es)=l.flatMap e.cells)(h3:l.length=len∧e.size=es∧0<es):
  bh F w (fun x=>F x∨x=b) w∧aX (fun x=>F x∨x=b) w (σ.eraseIdx j)∧∀v,ax F w (.ae b off len es) v→ax (fun x=>F x∨x=b) w (.ai e l) v:=by
 have ao:bh F w (fun x=>F x∨x=b) w:=⟨rfl,rfl,rfl,aM _,fun _ h=>.inl h,fun _ _=>rfl,fun _ c _ fz h=>⟨c,fz,h,rfl⟩,aM _⟩
 have oq:aX F w ((b,cs)::σ.eraseIdx j):=aC.perm (yH σ j (b,cs) h1)
 have bZ:=oq.nodup
 simp only[oV,lp]at bZ
 have qy:aX (fun x=>F x∨x=b) w (σ.eraseIdx j):=⟨bZ.2,fun p hp=>(oq.holds p (cE _ hp)).mono ao rfl (fun hF=>by
  rcases hF with hF | hF
  ·exact (oq.holds p (cE _ hp)).1 hF
  ·exact bZ.1 (cY.2 ⟨p,hp,hF⟩)),fun x hx=>by
  rcases hx with hx | hx
  ·exact aC.low x hx
  ·subst hx;exact (oq.holds (x,cs) (bV ..)).lt⟩
 exact⟨ao,qy,fun v hv=>aci aC h1 h2 h3 hv⟩
end
section
variable {P:Program} {TT:TypeId→Option TI}
theorem KA{F:Nat→Prop}{w:World}{xs:Array Operand}{ρ:Operand→AV}{η:Operand→Value}(h:∀x∈xs.toList,ax F w (ρ x) (η x)):jb F w (xs.toList.map ρ) (xs.map η):=by
 refine⟨by simp,fun i x hi=>?_⟩
 simp only[eU,wY]at hi
 obtain⟨a,h1,rfl⟩:=hi
 have ab:i<xs.size:=by have:=(List.getElem?_eq_some_iff.1 h1).1;simpa using this
 have:xs[i]=a:=by simpa [ab]using h1
 simpa [Array.getD,ab,this]using h a (List.mem_of_getElem? h1)
theorem Gd{F:Nat→Prop}{w:World}{xs ys:List AV}{us vs:Array Value}(h:jb F w xs us)(k:jb F w ys vs):jb F w (xs++ys) (us++vs):=by
 refine⟨by simp[h.1,k.1],fun i x hi=>?_⟩
 rw[gW]
 by_cases ab:i<xs.length
 ·rw[jG ab]at hi
  rw[Kk (by rw[← h.1];exact ab),← gW]
  exact h.2 i x hi
 ·rw[ij (by omega)]at hi
  rw[Array.getElem?_append_right (by rw[← h.1];omega),← gW,← h.1]
  exact k.2 _ x hi
theorem Rf{F:Nat→Prop}{w:World}{x:AV}{v:Value}(h:ax F w x v):jb F w [x] #[v]:=⟨rfl,fun i y hi=>by cases i <;> simp at hi;subst hi;exact h⟩
theorem Gk{o:Oper}{ρ:Operand→AV}{σ:Hp}{K:AV→Hp→Prop}(h:j5 P o (fun x=>bJ (ρ x)) σ K):j5 P o ρ σ K:=fun a F w hx=>h a F w (fun x hm=>(hx x hm).bJ)
theorem P3{o:Oper}{c:Call}(ho:o.op=.call c){ρ:Operand→AV}{K:FuncId→List AV→Prop}{KY:Nat→List AV→Prop}(h:qg P c ρ K KY):
  (∃l xs,KY l xs∧∀(η:Operand→Value) (F:Nat→Prop) (w:World),(∀x∈o.op.operands.toList,ax F w (ρ x) (η x))→∃vs,jb F w xs vs∧execOp η o=Instr.yield l vs)∨∃f xs,K f xs∧∀(η:Operand→Value) (F:Nat→Prop) (w:World),(∀x∈o.op.operands.toList,ax F w (ρ x) (η x))→∃vs,jb F w xs vs∧(Enters P f→(execOp η o).run P w=.ok (.enter f vs) w):=by
 unfold qg at h
 split at h
 ·rename_i f0 hc
  split at h
  ·rename_i g first cap hf
   refine .inr ⟨g,_,h,fun η F w hx=>?_⟩
   have h1:=hx f0 (by simp[ho,Op.operands,Call.operands,hc])
   rw[hf]at h1
   have h2:=KA (xs:=c.args) (ρ:=fun x=>bJ (ρ x)) (η:=η) (F:=F) (w:=w) (fun x hm=>(hx x (by simp only[ho,Op.operands,Call.operands,hc,Cm,bP];exact .inr hm)).bJ)
   cases hv:η f0 with
   |func f' v1 v2=>
    rw[hv]at h1
    obtain⟨rfl,r1,r2⟩:f'=.func g∧jb F w first v1∧jb F w cap v2:=by cases h1 with | fn _ _ _ _ _ fh gy h1 h2=>exact⟨rfl,⟨fh,h1⟩,⟨gy,h2⟩⟩
    refine⟨v1++c.args.map η++v2,Gd (Gd r1 h2) r2,fun he=>?_⟩
    simp only[execOp,ho,resolve,hc,Deferred.ofValue,hv,Sem.run_bind,Sem.run_pure,Result.andThen_ok,invoke]
    exact he _ _
   |_=>rw[hv]at h1;cases h1
  ·rename_i l hf
   refine .inl ⟨l,_,h,fun η F w hx=>?_⟩
   have h1:=hx f0 (by simp[ho,Op.operands,Call.operands,hc])
   rw[hf]at h1
   have h2:=KA (xs:=c.args) (ρ:=fun x=>bJ (ρ x)) (η:=η) (F:=F) (w:=w) (fun x hm=>(hx x (by simp only[ho,Op.operands,Call.operands,hc,Cm,bP];exact .inr hm)).bJ)
   cases hv:η f0 with
   |func f' v1 v2=>
    rw[hv]at h1
    obtain⟨rfl,r1,r2⟩:f'=.yield l∧v1 = #[]∧v2 = #[]:=by cases h1 with | fn _ _ _ _ _ fh gy h1 h2=>exact⟨rfl,FU.1 fh.symm,FU.1 gy.symm⟩
    subst r1 r2
    refine⟨c.args.map η,h2,?_⟩
    simp only[execOp,ho,resolve,hc,Deferred.ofValue,hv,pure_bind,invoke]
    simp
   |_=>rw[hv]at h1;cases h1
  ·exact h.elim
 ·rename_i r m hc
  have fin:∀(t:TypeId) (v:AV),ρ r=.iface t v→(∀F w u,ax F w v u→∃ad,u=.pointer (some ad))→InvAt P t m (fun g=>K g (v::c.args.toList.map fun x=>bJ (ρ x)))→
    ∃f xs,K f xs∧∀(η:Operand→Value) (F:Nat→Prop) (w:World),(∀x∈o.op.operands.toList,ax F w (ρ x) (η x))→∃vs,jb F w xs vs∧(Enters P f→(execOp η o).run P w=.ok (.enter f vs) w):=by
   rintro t v hr hp ⟨g,hm,go⟩
   refine⟨g,_,go,fun η F w hx=>?_⟩
   have h1:=hx r (by simp[ho,Op.operands,Call.operands,hc])
   rw[hr]at h1
   have h2:=KA (xs:=c.args) (ρ:=fun x=>bJ (ρ x)) (η:=η) (F:=F) (w:=w) (fun x hm=>(hx x (by simp only[ho,Op.operands,Call.operands,hc,Cm,bP];exact .inr hm)).bJ)
   cases hv:η r with
   |iface t' u=>
    rw[hv]at h1
    obtain⟨rfl,hu⟩:t'=t∧ax F w v u:=by cases h1 with | iface _ _ _ h=>exact⟨rfl,h⟩
    obtain⟨ad,rfl⟩:=hp F w u hu
    refine⟨#[.pointer (some ad)]++c.args.map η,(show jb F w ([v]++c.args.toList.map fun x=>bJ (ρ x)) _ from Gd (Rf hu) h2),fun he=>?_⟩
    have hex:(#[η r]++c.args.map η).extract 1 (#[η r]++c.args.map η).size=c.args.map η:=by
     apply Array.ext'
     simp
     exact List.take_of_length_le (by simp)
    have h0:(#[η r]++c.args.map η)[0]?=some (η r):=by rw[Array.getElem?_append_left (by simp)];rfl
    have hinv:invoke (.fn (.method m) #[]) (#[η r]++c.args.map η)=callMethod (η r) m (c.args.map η):=by
     unfold invoke
     simp only[h0]
     exact congrArg (callMethod (η r) m) hex
    have qP:(callMethod (η r) m (c.args.map η)).run P w=.ok (.enter g (#[.pointer (some ad)]++c.args.map η)) w:=by
     rw[hv]
     unfold callMethod
     have aP:=hm ad w
     simp only[Sem.run_bind,run_program,Result.andThen_ok,aP]
     exact he _ _
    simp only[execOp,ho,resolve,hc,Sem.run_bind,Sem.run_pure,Result.andThen_ok,hinv,qP]
   |_=>rw[hv]at h1;cases h1
  split at h
  ·rename_i t b o' hr
   exact .inr <| fin t _ hr (fun F w u hu=>⟨_,hu.zu⟩) h
  ·rename_i t cs hr
   exact .inr <| fin t _ hr (fun F w u hu=>by obtain⟨b,o',e,_⟩:=hu.y8;exact⟨_,e⟩) h
  ·exact h.elim
 ·exact h.elim
theorem G9{F F':Nat→Prop}{w:World}{σ:Hp}(aC:aX F' w σ){b off len es:Nat}{e:Sh}{l:List e.T}(hh:∀v,ax F w (.ae b off len es) v→ax F' w (.ai e l) v){i k b':Nat}{cs:List AV}(hi:σ[i]?=some (b',cs))(hk:cs[k]?=some (.ae b off len es)):aX F' w (σ.set i (b',cs.set k (.ai e l))):=by
 have ab:i<σ.length:=(bQ.1 hi).1
 have DY:(σ.set i (b',cs.set k (.ai e l))).map Prod.fst=σ.map Prod.fst:=by
  rw[nS]
  apply Aa
  intro n
  rw[dY]
  split
  ·rename_i e;subst e
   have:=(bQ.1 hi).2
   simp[ab,this]
  ·rfl
 refine⟨DY▸aC.nodup,fun p hm=>?_,aC.low⟩
 rcases qb hm with hm | rfl
 ·exact aC.holds p hm
 ·obtain⟨hF,c,T,h1,h2,h3⟩:=(aC.holds _ (bH hi)).M9 hk rfl
  refine⟨hF,.inl ⟨c,T,h1,by simpa using h2,fun n x hn=>?_⟩⟩
  rw[dY]at hn
  split at hn
  ·rename_i e;subst e
   split at hn
   ·cases hn
    refine⟨rfl,hh _ ?_⟩
    have:=(h3 k _ hk).2
    revert this
    generalize c.getD k undef=v
    intro this
    cases this with
    |ae _ _ _ _ a cap h=>exact .ae _ _ _ _ a cap h
   ·cases hn
  ·exact h3 n x hn
theorem Gv{f:FuncId}{xs:List AV}{σ:Hp}{K:AV→Hp→Prop}(h:CallAt P f K xs σ):ACalls P f xs σ K:=by
 induction h with
 |mk js R call go=>
  obtain⟨oH,gM⟩:=call
  refine⟨oH,fun F w vs bX aC=>(gM F w vs bX (aC.perm (yP js _))).mono ?_⟩
  rintro e w' ⟨r,v,σ',F',rfl,h1,h2,h3,h4⟩
  exact⟨r,v,σ',F',rfl,h1,h2,h3,go r σ' h4⟩
 |perm R hp call go=>
  obtain⟨oH,gM⟩:=call
  refine⟨oH,fun F w vs bX aC=>(gM F w vs bX (aC.perm hp)).mono ?_⟩
  rintro e w' ⟨r,v,σ',F',rfl,h1,h2,h3,h4⟩
  obtain⟨ej,k1,k2⟩:=go r σ' h4
  exact⟨r,v,ej,F',rfl,h1,h2.perm k1,h3,k2⟩
 |ku j b off len es cs e l h1 h2 h3 i k b' cs' hi hk h ih=>
  obtain⟨oH,gM⟩:=ih
  refine⟨oH,fun F w vs bX aC =>?_⟩
  obtain⟨ao,qy,hh⟩:=xH aC h1 h2 h3
  refine (gM _ w vs (bX.mono ao) (G9 qy hh hi hk)).mono ?_
  rintro e w' ⟨r,v,σ',F',rfl,q1,q2,q3,q4⟩
  exact⟨r,v,σ',F',rfl,ao.trans q1,q2,q3,q4⟩
 |cI j b off len es cs e l h1 h2 h3 h4 h ih=>
  obtain⟨oH,gM⟩:=ih
  refine⟨oH,fun F w vs bX aC =>?_⟩
  obtain⟨ao,qy,hh⟩:=xH aC h1 h2 h3
  have hv:=Cr ao hh h4 (.tuple vs) (.tup _ _ bX.1 bX.2)
  cases hv with
  |tup _ _ hs hr=>
   refine (gM _ w vs ⟨hs,hr⟩ qy).mono ?_
   rintro e w' ⟨r,v,σ',F',rfl,h1,h2,h3,h4⟩
   exact⟨r,v,σ',F',rfl,ao.trans h1,h2,h3,h4⟩
theorem XF{o:Oper}{c:Call}(ho:o.op=.call c){ρ:Operand→AV}{σ:Hp}{K:AV→Hp→Prop}(h:qg P c ρ (fun f xs=>CallAt P f K xs σ) (fun l xs=>xD P l K xs σ)):j5 P o ρ σ K:=by
 rcases P3 ho h with ⟨l,xs,hc,fF⟩ | ⟨f,xs,hc,fF⟩
 ·intro a F w hx aC next Q hn
  obtain⟨vs,bX,hr⟩:=fF a.eval F w hx
  unfold wq
  rw[hr]
  cases hc with
  |mk js R call go=>
   obtain⟨f,tmps,assign,body,h1,h2⟩:=call F w vs bX (aC.perm (yP js σ))
   rw[h1]
   refine RoundIn.mono h2 ?_
   rintro e w' ⟨r,v,σ',F',rfl,h1,h2,h3,h4⟩
   exact⟨v,rfl,hn v r σ' F' w' h1 h2 h3 (go _ _ h4)⟩
  |perm R hp call go=>
   obtain⟨f,tmps,assign,body,h1,h2⟩:=call F w vs bX (aC.perm hp)
   rw[h1]
   refine RoundIn.mono h2 ?_
   rintro e w' ⟨r,v,σ',F',rfl,h1,h2,h3,h4⟩
   obtain⟨ej,k1,k2⟩:=go _ _ h4
   exact⟨v,rfl,hn v r ej F' w' h1 (h2.perm k1) h3 k2⟩
 obtain⟨oH,gM⟩:=Gv hc
 intro a F w hx aC next Q hn
 obtain⟨vs,bX,hr⟩:=fF a.eval F w hx
 unfold wq
 rw[hr oH]
 refine (gM F w vs bX aC).mono ?_
 rintro e w' ⟨r,v,σ',F',rfl,h1,h2,h3,h4⟩
 exact⟨v,rfl,hn v r σ' F' w' h1 h2 h3 h4⟩
theorem Xo{o:Oper}{t:TypeId}(ho:o.op=.makeMap t none){ρ:Operand→AV}{σ:Hp}{K:AV→Hp→Prop}(hk:∀b,K (.nz b) ((b,[.oE []])::σ)):j5 P o ρ σ K:=by
 intro a F w hx aC next Q hn
 have fF:(execOp a.eval o).run P w=.ok (.value (.map (some w.heap.size))) (w.alloc (.map #[] 0)):=by
  have e:(Instr.makeMap t none).run P w=.ok (.map (some w.heap.size)) (w.alloc (.map #[] 0)):=rfl
  simp[execOp,ho,e,Result.andThen]
 unfold wq
 rw[fF]
 have hold:∀b,b<w.heap.size→(w.alloc (.map #[] 0)).heap[b]?=w.heap[b]?:=fun b hb=>Below.heap_alloc _ _ b hb
 have ao:bh F w F (w.alloc (.map #[] 0)):=yK aC.low rfl rfl rfl (by simp) hold
 have hr:=aC.same ao hold
 have hY:(w.alloc (.map #[] 0)).heap[w.heap.size]?=some (.map #[] 0):=xo _ _
 refine hn _ (.nz w.heap.size) _ F _ ao ⟨?_,fun p hm=>?_,hr.low⟩ (.nz _) (hk _)
 ·simp only[oV,lp]
  refine⟨fun hm=>?_,aC.nodup⟩
  obtain⟨p,hp,e⟩:=cY.1 hm
  have:=(aC.holds p hp).lt
  omega
 ·rcases da.1 hm with rfl | hm
  ·exact⟨fun hF=>JJ _ (aC.low _ hF),.inr (.inl ⟨_,_,rfl,hY,rfl⟩)⟩
  ·exact hr.holds p hm
theorem QG{σ:Hp}{F:Nat→Prop}{w:World}(h:aX F w σ){j b:Nat}{x x':AV}{o o':Obj}(ho:xS x=some o)(gj:xS x'=some o')(hj:σ[j]?=some (b,[x])):
  bh F w F { w with heap:=w.heap.setIfInBounds b o' }∧aX F { w with heap:=w.heap.setIfInBounds b o' } (σ.set j (b,[x'])):=by
 obtain⟨hb,hc⟩:=(h.holds (b,[x]) (bH hj)).Ix ho
 have ab:j<σ.length:=(bQ.1 hj).1
 obtain⟨Jd,hw⟩:=MapKept.heap_set (o':=o') hc
 have ao:bh F w F { w with heap:=w.heap.setIfInBounds b o' }:=⟨rfl,rfl,rfl,by simp,fun _ h=>h,fun k hF=>hw k (fun e=>hb (e▸hF)),fun k d S fz hk=>by
  by_cases e:k=b
  ·subst e
   rw[hc]at hk
   cases hk
   exact (QN ho).elim
  ·exact⟨d,fz,(hw k e).trans hk,rfl⟩,aM _⟩
 have DY:(σ.set j (b,[x'])).map Prod.fst=σ.map Prod.fst:=by
  rw[nS]
  apply Aa
  intro k
  rw[dY]
  split
  ·rename_i e;subst e
   simp[ab]
   have:=(bQ.1 hj).2
   rw[this]
  ·rfl
 refine⟨ao,⟨DY▸h.nodup,fun p hm=>?_,fun k hF=>by simpa using h.low k hF⟩⟩
 obtain⟨k,hk⟩:=kI.1 hm
 rw[dY]at hk
 split at hk
 ·rename_i e;subst e
  simp at hk
  obtain⟨_,rfl⟩:=hk
  exact⟨hb,.inr (.inl ⟨_,_,rfl,Jd,gj⟩)⟩
 ·rename_i aO
  have aP:=bH hk
  have qO:p.1≠b:=fun e=>by
   have bZ:=h.nodup
   have h1:(σ.map Prod.fst)[k]?=some b:=by rw[List.getElem?_map,hk];simp[e]
   have h2:(σ.map Prod.fst)[j]?=some b:=by rw[eU,hj];rfl
   have eN:k<(σ.map Prod.fst).length:=(bQ.1 h1).1
   have:=(List.getElem?_inj (i:=k) (j:=j) eN bZ).1 (h1.trans h2.symm)
   exact aO this.symm
  exact (h.holds p aP).mono ao (hw _ qO) (h.holds p aP).1
theorem YG{σ:Hp}{F:Nat→Prop}{w:World}(h:aX F w σ){j b:Nat}{l l':List (Int×Int)}(hj:σ[j]?=some (b,[.oE l])):
  bh F w F { w with heap:=w.heap.setIfInBounds b (.map (gg 0 l').toArray l'.length) }∧aX F { w with heap:=w.heap.setIfInBounds b (.map (gg 0 l').toArray l'.length) } (σ.set j (b,[.oE l'])):=QG h rfl rfl hj
theorem PX(ok:dD P TT){o:Oper}{t:TypeId}{m k x:Operand}(ho:o.op=.mapUpdate t m k x∨o.op=.insert t m k x){ρ:Operand→AV}{σ:Hp}{K:AV→Hp→Prop}(h:AL TT t (bJ (ρ m)) (bJ (ρ k)) (bJ (ρ x)) σ K):j5 P o ρ σ K:=by
 intro a F w hx aC next Q hn
 unfold AL at h
 split at h
 ·rename_i z n v hz hk BP
  obtain⟨kt,et,h1,h2,h3⟩:=K7 ok hz
  obtain⟨j,b,l,hm,hj,go⟩:=h
  have zA:m∈o.op.operands.toList∧k∈o.op.operands.toList∧x∈o.op.operands.toList:=by rcases ho with ho | ho <;> simp[ho,Op.operands]
  have a1:=(hx m zA.1).bJ
  rw[hm]at a1
  have a2:=(hx k zA.2.1).bJ
  rw[hk]at a2
  have a3:=(hx x zA.2.2).bJ
  rw[BP]at a3
  have e1:a.eval m=.map (some b):=a1.M5
  have e2:a.eval k=.int .i64 n:=a2.gu
  have e3:a.eval x=.int .i64 v:=a3.gu
  obtain⟨_,hb⟩:=(aC.holds _ (bH hj)).Eo
  have fF:(execOp a.eval o).run P w=.ok .skip { w with heap:=w.heap.setIfInBounds b (.map (gg 0 (rH l n v)).toArray (rH l n v).length) }:=by
   rcases ho with ho | ho <;> simp[execOp,ho,e1,e2,e3,XT h1 h2 hb n v,Result.andThen]
  unfold wq
  rw[fF]
  obtain⟨s1,s2⟩:=YG aC (l':=rH l n v) hj
  exact hn undef .any _ F _ s1 s2 (.any _) go
 ·exact h.elim
theorem Lf:∀(l:List (Int×Int)) (m:Nat) (e:MapEntry),e∈gg m l→∃(i:Nat) (p:Int×Int),l[i]?=some p∧e = { key:=.int .i64 p.1,val:=.int .i64 p.2,born:=m+i }
 | [],_,_,h=>by cases h
 |p::l,m,e,h=>by
  rcases da.1 h with rfl | h
  ·exact⟨0,p,rfl,rfl⟩
  ·obtain⟨i,q,h1,h2⟩:=Lf l (m+1) e h
   exact⟨i+1,q,h1,by rw[h2];simp only[MapEntry.mk.injEq,true_and];omega⟩
theorem S5{l:List (Int×Int)}{m i:Nat}{p:Int×Int}(h:l[i]?=some p):({ key:=.int .i64 p.1,val:=.int .i64 p.2,born:=m+i }:MapEntry)∈gg m l:=
 bH (i:=i) (by rw[Lz,h];rfl)
theorem Q5:∀(l:List (Int×Int)) (m:Nat),((gg m l).map (·.born)).Nodup∧∀x∈(gg m l).map (·.born),m≤x
 | [],_=>⟨Pp,fun _ h=>by cases h⟩
 |p::l,m=>by
  obtain⟨h1,h2⟩:=Q5 l (m+1)
  refine⟨lp.2 ⟨fun hm=>?_,h1⟩,fun x hx=>?_⟩
  ·have:=h2 _ hm
   exact Nat.not_succ_le_self _ this
  ·rcases da.1 hx with rfl | hx
   ·exact aM _
   ·exact Nat.le_of_succ_le (h2 _ hx)
theorem Xg(ok:dD P TT){o:Oper}{t:TypeId}{x:Operand}(ho:o.op=.range t x){ρ:Operand→AV}{σ:Hp}{K:AV→Hp→Prop}(h:HJ TT t (bJ (ρ x)) σ K):j5 P o ρ σ K:=by
 intro a F w hx aC next Q hn
 unfold HJ at h
 split at h
 ·rename_i z hz
  obtain⟨kt,et,h1,h2,h3⟩:=K7 ok hz
  obtain⟨j,b,l,hm,hj,go⟩:=h
  have a1:=(hx x (by simp[ho,Op.operands])).bJ
  rw[hm]at a1
  have e1:a.eval x=.map (some b):=a1.M5
  obtain⟨_,hb⟩:=(aC.holds _ (bH hj)).Eo
  have fF:(execOp a.eval o).run P w=.ok (.value (.pointer (some ⟨w.heap.size,0,none⟩))) (w.alloc (.mapIter (some b) l.length #[] l.length)):=by
   have e:=run_range_map (P:=P) w t kt et b _ _ h1 hb
   simp[execOp,ho,e1,e,Result.andThen]
  unfold wq
  rw[fF]
  have hold:∀k,k<w.heap.size→(w.alloc (.mapIter (some b) l.length #[] l.length)).heap[k]?=w.heap[k]?:=fun k hk=>Below.heap_alloc _ _ k hk
  have ao:bh F w F (w.alloc (.mapIter (some b) l.length #[] l.length)):=yK aC.low rfl rfl rfl (by simp) hold
  have hr:=aC.same ao hold
  have hY:(w.alloc (.mapIter (some b) l.length #[] l.length)).heap[w.heap.size]?=some (.mapIter (some b) l.length #[] l.length):=xo _ _
  refine hn _ (.nJ w.heap.size) _ F _ ao ⟨?_,fun p hm=>?_,hr.low⟩ (.nJ _) (go _)
  ·simp only[oV,lp]
   refine⟨fun hm=>?_,aC.nodup⟩
   obtain⟨p,hp,e⟩:=cY.1 hm
   have:=(aC.holds p hp).lt
   omega
  ·rcases da.1 hm with rfl | hm
   ·exact⟨fun hF=>JJ _ (aC.low _ hF),.inr (.inl ⟨_,_,rfl,hY,rfl⟩)⟩
   ·exact hr.holds p hm
 ·exact h.elim
theorem YH{σ:Hp}{F:Nat→Prop}{w:World}(h:aX F w σ):bh F w F w.drew∧aX F w.drew σ:=by
 have ao:bh F w F w.drew:=⟨rfl,rfl,rfl,aM _,fun _ h=>h,fun _ _=>rfl,fun k d S fz hk=>⟨d,fz,hk,rfl⟩,Nat.le_succ _⟩
 exact⟨ao,h.nodup,fun p hp=>(h.holds p hp).mono ao rfl (h.holds p hp).1,h.low⟩
theorem Xn{o:Oper}{x:Operand}(ho:o.op=.next x false){ρ:Operand→AV}{σ:Hp}{K:AV→Hp→Prop}(h:MU σ (bJ (ρ x)) K):j5 P o ρ σ K:=by
 intro a F w hx aC next Q hn
 obtain⟨j,j2,r,b,l,seen,hm,h1,h2,stop,go⟩:=h
 have a1:=(hx x (by simp[ho,Op.operands])).bJ
 rw[hm]at a1
 have e1:a.eval x=.pointer (some ⟨r,0,none⟩):=a1.Wv
 obtain⟨_,hr⟩:=(aC.holds _ (bH h1)).Ix rfl
 obtain⟨_,hb⟩:=(aC.holds _ (bH h2)).Eo
 have agU:∀x∈(gg 0 l).toArray.toList,x.born<l.length:=fun x hx=>by
  obtain⟨i,p,hi,rfl⟩:=Lf l 0 x hx
  show 0+i<_
  have:=(bQ.1 hi).1
  omega
 unfold wq
 rcases run_next_at (P:=P) w o.type r b l.length l.length seen.toArray _ _ hr hb agU (aM _) with ⟨hz,fF⟩ | ⟨e,he,w1,hw1,fF⟩
 ·have DX:(execOp a.eval o).run P w=.ok (.value (.tuple #[.bool false])) w:=by simp[execOp,ho,e1,fF,Result.andThen]
  rw[DX]
  refine hn _ (.tup [.bool false]) σ F w (bh.refl _ _) aC (.tup _ _ rfl fun i y hy=>?_) (stop fun i hi=>?_)
  ·match i,hy with
   | 0,hy=>cases hy;exact .bool _
   |i+1,hy=>simp at hy
  ·have hz:leftOf (gg 0 l).toArray seen.toArray = #[]:=Kf hz
   unfold leftOf at hz
   rw[Array.filter_eq_empty_iff]at hz
   have:=hz _ (by simpa using S5 (m:=0) (List.getElem?_eq_getElem hi))
   simpa using this
 ·have DX:(execOp a.eval o).run P w=.ok (.value (.tuple #[.bool true,e.key,e.val])) (Go.ChangeMaps.setBlock w1 r (.mapIter (some b) l.length (seen.toArray.push e.born) l.length)):=by simp[execOp,ho,e1,fF,Result.andThen]
  rw[DX]
  unfold leftOf at he
  have Fg:e∈gg 0 l∧e.born ∉ seen:=by simpa using he
  obtain⟨i,p,hi,rfl⟩:=Lf l 0 e Fg.1
  have hns:i ∉ seen:=by simpa using Fg.2
  have hw:bh F w F w1∧aX F w1 σ:=by
   rcases hw1 with rfl | rfl
   ·exact⟨bh.refl _ _,aC⟩
   ·exact YH aC
  obtain⟨s1,s2⟩:=QG (x':=.sD b l.length (seen++[i])) hw.2 rfl rfl h1
  have e2:(seen++[i]).toArray=seen.toArray.push (0+i):=by simp
  rw[e2]at s1 s2
  refine hn _ (.tup [.bool true,.int .i64 p.1,.int .i64 p.2]) _ F _ (hw.1.trans s1) s2 (.tup _ _ rfl fun k y hy=>?_) (go i p hi hns)
  match k,hy with
  | 0,hy=>cases hy;exact .bool _
  | 1,hy=>cases hy;exact .int _ _
  | 2,hy=>cases hy;exact .int _ _
  |k+3,hy=>simp at hy
theorem Xi{o:Oper}{x:Operand}(ho:o.op=.entry x){ρ:Operand→AV}{σ:Hp}{K:AV→Hp→Prop}(h:Mu σ (bJ (ρ x)) K):j5 P o ρ σ K:=by
 intro a F w hx aC next Q hn
 obtain⟨j,j2,r,b,i,l,p,seen,hm,h1,h2,h3,go⟩:=h
 have a1:=(hx x (by simp[ho,Op.operands])).bJ
 rw[hm]at a1
 have e1:a.eval x=.pointer (some ⟨r,0,none⟩):=a1.Wv
 obtain⟨_,hr⟩:=(aC.holds _ (bH h1)).Ix rfl
 obtain⟨_,hb⟩:=(aC.holds _ (bH h2)).Eo
 have hr:w.heap[r]?=some (.mapIter (some b) l.length (seen.toArray.push (0+i)) l.length):=by
  rw[hr];simp
 have fF:=run_entry_at (P:=P) w r b l.length seen.toArray (gg 0 l).toArray l.length { key:=.int .i64 p.1,val:=.int .i64 p.2,born:=0+i } hr hb (by simpa using S5 (m:=0) h3) (by simpa using (Q5 l 0).1)
 have DX:(execOp a.eval o).run P w=.ok (.value (.tuple #[.int .i64 p.1,.int .i64 p.2])) w:=by simp[execOp,ho,e1,fF,Result.andThen]
 unfold wq
 rw[DX]
 refine hn _ (.tup [.int .i64 p.1,.int .i64 p.2]) σ F w (bh.refl _ _) aC (.tup _ _ rfl fun k y hy=>?_) go
 match k,hy with
 | 0,hy=>cases hy;exact .int _ _
 | 1,hy=>cases hy;exact .int _ _
 |k+2,hy=>simp at hy
theorem K4(ok:dD P TT){o:Oper}{ρ:Operand→AV}{σ:Hp}{K:AV→Hp→Prop}(h:gR P TT o.op ρ σ K):j5 P o ρ σ K:=by
 have dd:fI P TT o.op ρ σ (fun v=>K v σ)→j5 P o ρ σ K:=fun h=>by
  obtain⟨v,h1,h2⟩:=GG ok h
  exact Xp h2 h1
 generalize lP:o.op=op at h dd
 unfold gR at h
 split at h
 ·split at h
  ·rename_i cs hc;exact aaF lP hc h
  ·exact h.elim
 ·split at h
  ·rename_i i hi;exact Yq ok lP hi h
  ·exact h.elim
 ·split at h
  ·rename_i e sz qU z0 ht
   split at h
   ·rename_i i hi
    split at h
    ·rename_i cs hf fh gy
     exact Xb ok lP ht rfl hi hf (cT fh) (cT gy) h
    ·exact h.elim
   ·exact h.elim
  ·exact h.elim
 ·split at h
  ·rename_i e sz qU z0 k n k' m ht hl hc
   split at h
   ·rename_i i hi
    exact Xc ok lP ht rfl hi hl hc h.fact h.go
   ·exact h.elim
  ·exact h.elim
 ·split at h
  ·rename_i i hi
   split at h
   ·rename_i b off hp;exact XM ok lP hi hp h
   ·exact h.elim
  ·exact h.elim
 ·split at h
  ·exact Xo lP h
  ·exact h.elim
 ·exact PX ok (.inl lP) h
 ·exact PX ok (.inr lP) h
 ·exact Xg ok lP h
 ·split at h
  ·exact Xn lP h
  ·exact h.elim
 ·exact Xi lP h
 ·rename_i args cm
  split at h
  ·rename_i s x t t' Ni Wy
   obtain rfl:args = #[s,x]:=by cases args;simp_all
   obtain rfl:cm = #[t,t']:=by cases cm;simp_all
   split at h
   ·rename_i e s1 b1 z1 e' s2 b2 z2 ht nL
    split at h
    ·rename_i i hi;exact Gk (XG ok lP ht rfl nL rfl hi (ρ:=fun x=>bJ (ρ x)) h)
    ·exact h.elim
   ·rename_i e s1 b1 z1 k' s2 b2 z2 ht nL
    split at h
    ·rename_i i hi;exact Gk (Xt ok lP ht rfl nL rfl hi (ρ:=fun x=>bJ (ρ x)) h)
    ·exact h.elim
   ·exact h.elim
  ·exact h.elim
 ·rename_i args cm
  split at h
  ·rename_i s t Ni Wy
   obtain rfl:args = #[s]:=by cases args;simp_all
   obtain rfl:cm = #[t]:=by cases cm;simp_all
   split at h
   ·rename_i e s1 b1 z1 ht
    split at h
    ·rename_i i hi;exact Gk (Yl ok lP ht rfl hi (ρ:=fun x=>bJ (ρ x)) h)
    ·exact h.elim
   ·exact h.elim
  ·exact h.elim
 ·rename_i args cm
  split at h
  ·rename_i d x t t' Ni Wy
   obtain rfl:args = #[d,x]:=by cases args;simp_all
   obtain rfl:cm = #[t,t']:=by cases cm;simp_all
   split at h
   ·rename_i e s1 b1 z1 e' s2 b2 z2 ht nL
    split at h
    ·rename_i i hi;exact Gk (Zb ok lP ht rfl nL rfl hi (ρ:=fun x=>bJ (ρ x)) h)
    ·exact h.elim
   ·exact h.elim
  ·exact h.elim
 ·exact dd h
 ·exact XF lP h
 ·exact dd h
def uk(F:Nat→Prop)(w:World)(t:Tm)(a:Act):Prop:=∀i,ax F w (t i) (a.tmps.getD i undef)
theorem uk.mono{F F':Nat→Prop}{w w':World}{t:Tm}{a:Act}(h:uk F w t a)(ao:bh F w F' w'):uk F' w' t a:=fun i=>(h i).mono ao
theorem uk.put{F:Nat→Prop}{w:World}{t:Tm}{a:Act}(h:uk F w t a){d:Option Tmp}{x:AV}{v:Value}(hx:ax F w x v)(hd:∀i,d=some i→i<a.tmps.size):uk F w (put t d x) (a.put d v):=by
 cases d with
 |none=>exact h
 |some d=>
  intro i
  show ax F w (match Nat.beq i d with | true=>x | false=>t i) ((a.tmps.setIfInBounds d v).getD i undef)
  have ek:=hd d rfl
  cases hb:Nat.beq i d with
  |true=>
   have:=jr hb
   subst this
   simpa [Array.getD,ek]using hx
  |false=>
   have aO:d≠i:=fun e=>by subst e;rw[yx]at hb;cases hb
   have:=h i
   rw[gW]at this ⊢
   rw[Kh aO]
   exact this
theorem o7{F:Nat→Prop}{w:World}(v:Value):ax F w (AX v) v:=by
 cases v with
 |int k n=>exact .int _ _
 |bool b=>exact .bool _
 |string s=>exact .str _
 |pointer a=>cases a <;> first | exact .cN | exact .any _
 |slice a l c=>cases a <;> cases l <;> cases c <;> first | exact .aj | exact .any _
 |nilIface=>exact .nilif
 |nilFunc=>exact .iH
 |map a=>cases a <;> first | exact .pK | exact .any _
 |_=>exact .any _
theorem Ts{F:Nat→Prop}{w:World}{t:Tm}{a:Act}(x:Operand)(h:∀i,x=.tmp i→ax F w (t i) (a.tmps.getD i undef)):ax F w (ev t x) (a.eval x):=by
 cases x with
 |tmp i=>exact h i rfl
 |const v=>
  show ax F w (VV v) v
  cases v with
  |agg cs=>
   show ax F w (match (cs.toList.map AX).all AV.leaf with | true=>.agg (cs.toList.map AX) | false=>.any) _
   split
   ·rename_i hl
    refine .agg _ _ (by simp) (fun i x hx=>?_) (fun i x hx=>?_)
    ·exact fp.1 hl x (bH hx)
    ·simp only[eU,wY]at hx
     obtain⟨v,hv,rfl⟩:=hx
     have ab:i<cs.size:=by have:=(List.getElem?_eq_some_iff.1 hv).1;simpa using this
     have:cs[i]=v:=by simpa [ab]using hv
     simpa [Array.getD,ab,this]using o7 v
   ·exact .any _
  |tuple vs=>
   show ax F w (match vs.toList with | []=>.tup [] | _=>.any) _
   split
   ·rename_i h0
    exact .tup _ _ (by simp at h0;simp[h0]) (fun i x h=>by simp at h)
   ·exact .any _
  |int k n=>exact o7 (.int k n)
  |bool b=>exact o7 (.bool b)
  |string x=>exact o7 (.string x)
  |float k b=>exact o7 (.float k b)
  |complex k b c=>exact o7 (.complex k b c)
  |pointer x=>exact o7 (.pointer x)
  |slice x l c=>exact o7 (.slice x l c)
  |map x=>exact o7 (.map x)
  |chan x=>exact o7 (.chan x)
  |func f x y=>exact o7 (.func f x y)
  |nilFunc=>exact o7 .nilFunc
  |iface t x=>exact o7 (.iface t x)
  |nilIface=>exact o7 .nilIface
 |global g=>exact .any _
 |func f=>exact .fn _ _ _ _ _ rfl rfl (fun i x h=>by simp at h) (fun i x h=>by simp at h)
theorem uk.eval{F:Nat→Prop}{w:World}{t:Tm}{a:Act}(h:uk F w t a)(x:Operand):ax F w (ev t x) (a.eval x):=Ts x fun i _=>h i
end
section
variable {P:Program} {TT:TypeId→Option TI}
structure Marks(B:Nat)(F:Nat→Prop)(w:World)(ds:List Deferred):Prop where
 low:B≤w.heap.size
 nodup:ds.Nodup
 is:∀d∈ds,∃D,d = { target:=.collected D,args:= #[] }∧B≤D∧F D∧w.heap[D]?=some (.deferred (some []))
theorem Marks.mono{B:Nat}{F F':Nat→Prop}{w w':World}{ds:List Deferred}(h:Marks B F w ds)(ao:bh F w F' w'):Marks B F' w' ds:=
 ⟨fy h.low ao.size,h.nodup,fun d hd=>by
  obtain⟨D,h1,h2,h3,h4⟩:=h.is d hd
  exact⟨D,h1,h2,ao.sub D h3,(ao.fix D h3).trans h4⟩⟩
structure dg(B n:Nat)(F:Nat→Prop)(w:World)(t:Tm)(σ:Hp)(a:Act):Prop where
 tm:uk F w t a
 hp:aX F w σ
 size:n≤a.tmps.size
 defers:Marks B F w a.defers
theorem SG(a:Act)(d:Option Tmp)(v:Value):(a.put d v).tmps.size=a.tmps.size:=by cases d <;> simp[Act.put]
theorem Ud(a:Act)(d:Option Tmp)(v:Value):(a.put d v).defers=a.defers:=by cases d <;> rfl
theorem dg.put{B n:Nat}{F F':Nat→Prop}{w w':World}{t:Tm}{σ σ':Hp}{a:Act}(h:dg B n F w t σ a)(ao:bh F w F' w')(hp:aX F' w' σ'){d:Option Tmp}{x:AV}{v:Value}(hx:ax F' w' x v)(hd:∀i,d=some i→i<n):dg B n F' w' (put t d x) σ' (a.put d v):=
 ⟨(h.tm.mono ao).put hx (fun i e=>sc (hd i e) h.size),hp,by rw[SG];exact h.size,by rw[Ud];exact h.defers.mono ao⟩
theorem SZ{F:Nat→Prop}{w:World}{σ:Hp}(h:aX F w σ){i b':Nat}{cs kJ:List AV}(hi:σ[i]?=some (b',cs))(hl:kJ.length=cs.length)(hk:∀(k:Nat) (x y:AV),cs[k]?=some x→kJ[k]?=some y→x=y∨(x=.aj∧∃e:Sh,y=.ai e [])):aX F w (σ.set i (b',kJ)):=by
 refine⟨?_,fun p hp=>?_,h.low⟩
 ·have e1:(σ.set i (b',kJ)).map Prod.fst=σ.map Prod.fst:=by
   rw[nS]
   refine List.ext_getElem (by simp) fun j h1 h2=>?_
   rw[JV]
   split
   ·rename_i hj;subst hj
    have:=bQ.1 hi
    obtain⟨q1,q2⟩:=this
    rw[JU,q2]
   ·rfl
  rw[e1];exact h.nodup
 ·rcases qb hp with hp | rfl
  ·exact h.holds p hp
  ·have hh:=h.holds _ (bH hi)
   by_cases hn:∃k:Nat,cs[k]?=some AV.aj
   ·obtain⟨k,kE⟩:=hn
    obtain⟨h1,c,T,h2,h3,h4⟩:=hh.M9 kE rfl
    refine⟨h1,.inl ⟨c,T,h2,by rw[hl];exact h3,fun j y hy=>?_⟩⟩
    have hj:j<cs.length:=by rw[← hl];exact (bQ.1 hy).1
    have hx:=bc hj
    obtain⟨q1,q2⟩:=h4 j _ hx
    rcases hk j _ _ hx hy with e | ⟨e,e',rfl⟩
    ·rw[← e];exact⟨q1,q2⟩
    ·rw[e]at q2
     refine⟨rfl,?_⟩
     revert q2;generalize c.getD j undef=u;intro q2;cases q2
     exact .ai e' [] _ ⟨none,0,rfl,aM _,bK _,(fun _=>rfl),fun aO=>absurd rfl aO⟩
   ·have e:kJ=cs:=by
     refine Cn hl fun j h1 h2=>?_
     rcases hk j _ _ (bc h2) (bc h1) with e | ⟨e,_⟩
     ·exact e.symm
     ·exact absurd ⟨j,(bc h2).trans (congrArg some e)⟩ hn
    rw[e];exact hh
theorem Ut{F:Nat→Prop}{w:World}{σ:Hp}(h:aX F w σ){i b' k:Nat}{cs':List AV}(e:Sh)(hi:σ[i]?=some (b',cs'))(hk:cs'[k]?=some .aj):aX F w (σ.set i (b',cs'.set k (.ai e []))):=
 SZ h hi (by simp) fun j x y hx hy=>by
  rw[dY]at hy
  split at hy
  ·rename_i hj;subst hj
   split at hy
   ·rw[hk]at hx;cases hx;cases hy;exact .inr ⟨rfl,e,rfl⟩
   ·cases hy
  ·rw[hx]at hy;cases hy;exact .inl rfl
theorem aX.dM{F:Nat→Prop}{w:World}{σ σ':Hp}(h:aX F w σ)(hs:jg σ σ'):aX F w σ':=by
 induction hs with
 |refl=>exact h
 |pull js _ ih=>exact ih (h.perm (yP js _))
 |perm hp _ ih=>exact ih (h.perm hp)
 |ahr i b' cs kJ hi hl hk _ ih=>exact ih (SZ h hi hl hk)
 | @drop k n σ σ2 _ ih=>
  refine ih (h.sub ?_)
  have h1:(σ.drop (k+n)).Sublist (σ.drop k):=by
   rw[← B9]
   exact List.drop_sublist _ _
  have h2:=(List.Sublist.refl (σ.take k)).append h1
  rwa [yB]at h2
theorem dg.dM{B n:Nat}{F:Nat→Prop}{w:World}{t:Tm}{σ σ':Hp}{a:Act}(h:dg B n F w t σ a)(hs:jg σ σ'):dg B n F w t σ' a:=⟨h.tm,h.hp.dM hs,h.size,h.defers⟩
def vB(ops:List Oper)(o:Oper)(t:Tm)(b:Bool):Prop:=
 (o.guard=none∧b=true)∨∃j want d x,o.guard=some (j,want)∧(ops[j]?).bind (·.dst)=some d∧((t d=.bool x∧b=(x == want))∨(t d=.tup []∧b=false))
theorem yS{ops:List Oper}{o:Oper}{t:Tm}{A B:Prop}(h:pr ops o t A B):(vB ops o t true∧A)∨(vB ops o t false∧B):=by
 unfold pr at h
 split at h
 ·rename_i hg
  exact .inl ⟨.inl ⟨hg,rfl⟩,h⟩
 ·rename_i j want hg
  split at h
  ·rename_i d hd
   split at h
   ·rename_i b hb
    cases want <;> cases b
    ·exact .inl ⟨.inr ⟨j,_,d,_,hg,hd,.inl ⟨hb,rfl⟩⟩,h⟩
    ·exact .inr ⟨.inr ⟨j,_,d,_,hg,hd,.inl ⟨hb,rfl⟩⟩,h⟩
    ·exact .inr ⟨.inr ⟨j,_,d,_,hg,hd,.inl ⟨hb,rfl⟩⟩,h⟩
    ·exact .inl ⟨.inr ⟨j,_,d,_,hg,hd,.inl ⟨hb,rfl⟩⟩,h⟩
   ·rename_i hb
    exact .inr ⟨.inr ⟨j,_,d,false,hg,hd,.inr ⟨hb,rfl⟩⟩,h⟩
   ·exact h.elim
  ·exact h.elim
theorem yN{F:Nat→Prop}{w:World}:ax F w (.tup []) undef:=.tup _ _ rfl (fun i x h=>by simp at h)
theorem Zw{F:Nat→Prop}{w:World}{u:Value}(h:ax F w (.tup []) u):u=.tuple #[]:=by
 cases h with
 |tup _ vs hs h=>rw[FU.1 hs.symm]
theorem Gx{ops:List Oper}{o:Oper}{t:Tm}{a:Act}{b:Bool}(h:vB ops o t b)(hr:∀d,(∃j want,o.guard=some (j,want)∧(ops[j]?).bind (·.dst)=some d)→∃F w,ax F w (t d) (a.tmps.getD d undef)):Region.wanted o (yielded ops.toArray a.tmps)=b:=by
 rcases h with ⟨hg,rfl⟩ | ⟨j,want,d,x,hg,h1,⟨h2,rfl⟩ | ⟨h2,rfl⟩⟩
 ·simp[Region.wanted,hg]
 ·obtain⟨F,w,h3⟩:=hr d ⟨j,want,hg,h1⟩
  rw[h2]at h3
  have h3:=h3.rC
  have h4:a.tmps[d]?=some (.bool x):=by
   rw[gW]at h3
   cases hq:a.tmps[d]? with
   |none=>rw[hq]at h3;simp[undef]at h3
   |some v=>rw[hq]at h3;simpa using h3
  have h5:yielded ops.toArray a.tmps j=some x:=by
   unfold yielded
   simp only[Ac,h1,Option.bind_some,h4]
  simp[Region.wanted,hg,h5]
 ·obtain⟨F,w,h3⟩:=hr d ⟨j,want,hg,h1⟩
  rw[h2]at h3
  have h3:=Zw h3
  have h5:yielded ops.toArray a.tmps j=none:=by
   unfold yielded
   simp only[Ac,h1,Option.bind_some]
   rw[gW]at h3
   cases hq:a.tmps[d]? with
   |none=>rfl
   |some v=>rw[hq]at h3;simp at h3;rw[h3]
  simp[Region.wanted,hg,h5]
theorem KH(ok:dD P TT){B n:Nat}{ops:List Oper}{Q:Exit→Act→World→Prop}:∀(l:List Oper) (t:Tm) (σ:Hp) (K:Tm→Hp→Prop) (F:Nat→Prop) (w:World) (a:Act),(∀o∈l,∀d,o.dst=some d→d<n)→Wr P TT ops l t σ K→dg B n F w t σ a→
  (∀t' σ' F' w' a',bh F w F' w'→dg B n F' w' t' σ' a'→K t' σ'→Q .normal a' w')→xE P ops.toArray Q l a w
 | [],t,σ,K,F,w,a,_,h,hs,hq=>hq t σ F w a (.refl _ _) hs h
 |o::l,t,σ,K,F,w,a,hd,h,hs,hq=>by
  have hw:∀{b:Bool},vB ops o t b→Region.wanted o (yielded ops.toArray a.tmps)=b:=fun hg=>Gx hg fun d _=>⟨F,w,hs.tm d⟩
  rcases yS h with ⟨hg,h⟩ | ⟨hg,h⟩
  ·unfold xE
   rw[ag (hw hg)]
   refine (K4 ok h a F w (fun x _=>hs.tm.eval x) hs.hp _ Q ?_)
   intro v av σ' F' w' h1 h2 h3 h4
   exact KH ok l _ σ' K F' w' _ (fun o ho=>hd o (cE _ ho)) h4 (hs.put h1 h2 h3 (hd o (bV ..))) (fun t' kq nZ mf a' k1 k2 k3=>hq t' kq nZ mf a' (h1.trans k1) k2 k3)
  ·unfold xE
   rw[if_neg (by rw[hw hg];simp)]
   exact KH ok l _ σ K F w _ (fun o ho=>hd o (cE _ ho)) h (hs.put (.refl _ _) hs.hp yN (hd o (bV ..))) hq
def MW(P:Program)(o:Oper)(ρ:Operand→AV)(σ:Hp)(v:AV):Prop:=
 ∀(a:Act) (F:Nat→Prop) (w:World),(∀x∈o.op.operands.toList,ax F w (ρ x) (a.eval x))→aX F w σ→∀(next:Act→World→Prop) (Q:Exit→Act→World→Prop),
  (∀u F' w',bh F w F' w'→aX F' w' σ→ax F' w' v u→next (a.put o.dst u) w')→wq P o a w next Q
theorem RC(ok:dD P TT){o:Oper}{ρ:Operand→AV}{σ:Hp}{K:AV→Prop}(h:wm P TT o.op ρ σ K):∃v,K v∧MW P o ρ σ v:=by
 have dd:fI P TT o.op ρ σ K→∃v,K v∧MW P o ρ σ v:=fun h=>by
  obtain⟨v,h1,h2⟩:=GG ok h
  refine⟨v,h1,fun a F w hx aC next Q hn=>?_⟩
  obtain⟨v',h3,h4⟩:=h2 a.eval F w o rfl hx aC
  unfold wq
  rw[h3]
  exact hn v' F w (.refl _ _) aC h4
 generalize lP:o.op=op at h dd
 unfold wm at h
 split at h
 ·exact dd h
 ·obtain⟨_,_,h,_⟩ | ⟨f,xs,hc,fF⟩:=P3 lP h
  ·exact h.elim
  cases hc with
  |mk js r call go=>
   obtain⟨oH,gM⟩:=call
   refine⟨r,go,fun a F w hx aC next Q hn=>?_⟩
   obtain⟨vs,bX,hr⟩:=fF a.eval F w hx
   unfold wq
   rw[hr oH]
   refine (gM F w vs bX (aC.perm (yP js σ))).mono ?_
   rintro e w' ⟨r',v,σ',F',rfl,h1,h2,h3,rfl,rfl⟩
   exact⟨v,rfl,hn v F' w' h1 (h2.perm (yP js σ).symm) h3⟩
  |perm hp r call go=>
   obtain⟨oH,gM⟩:=call
   refine⟨r,go,fun a F w hx aC next Q hn=>?_⟩
   obtain⟨vs,bX,hr⟩:=fF a.eval F w hx
   unfold wq
   rw[hr oH]
   refine (gM F w vs bX (aC.perm hp)).mono ?_
   rintro e w' ⟨r',v,σ',F',rfl,h1,h2,h3,rfl,nO⟩
   exact⟨v,rfl,hn v F' w' h1 (h2.perm (hp.symm.trans nO)) h3⟩
 ·exact dd h
end
end Go.Proofs.YtnikdflhefijbaaGreat
