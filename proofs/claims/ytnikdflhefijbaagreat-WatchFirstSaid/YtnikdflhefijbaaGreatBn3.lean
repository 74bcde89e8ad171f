import Derived.Deep.AppendSrc
import Derived.Deep.Upon
import Derived.Great.BuildSlice
import Derived.Maps.RangeRun
import Derived.Orders
import Derived.Test.YtnikdflhefijbaaGreatBn2
namespace Go.Proofs.YtnikdflhefijbaaGreat
open Go.RowKit
section
variable {P:Program} {TT:TypeId→Option TI} {F F':Nat→Prop} {w w':World}
theorem Holds.mono{b:Nat}{cs:List AV}(h:Holds F w b cs)(an:bB F w F' w')(hb:w'.heap[b]?=w.heap[b]?)(hF:¬F' b):Holds F' w' b cs:=by
 obtain⟨_,⟨c,T,h1,h2,h3⟩ | ⟨x,o,h1,h2,h3⟩ | ⟨L,t,h1,h2,h3⟩⟩:=h
 ·exact⟨hF,.inl ⟨c,T,hb.trans h1,h2,fun i x hx=>⟨(h3 i x hx).1,(h3 i x hx).2.mono an⟩⟩⟩
 ·exact⟨hF,.inr (.inl ⟨x,o,h1,hb.trans h2,h3⟩)⟩
 ·exact⟨hF,.inr (.inr ⟨L,t,h1,hb.trans h2,fun i=>(h3 i).mono an⟩)⟩
theorem Holds.lt{b:Nat}{cs:List AV}(h:Holds F w b cs):b<w.heap.size:=by
 obtain⟨_,⟨_,_,h1,_⟩ | ⟨_,_,_,h1,_⟩ | ⟨_,_,_,h1,_⟩⟩:=h
 ·exact tT h1
 ·exact tT h1
 ·exact tT h1
theorem bf.perm{σ σ':Hp}(h:bf F w σ)(hp:σ'.Perm σ):bf F w σ':=
 ⟨((hp.map Prod.fst).nodup_iff).2 h.nodup,fun p hm=>h.holds p (hp.mem_iff.1 hm),h.low⟩
theorem bf.sub{σ σ':Hp}(h:bf F w σ)(hs:σ'.Sublist σ):bf F w σ':=
 ⟨h.nodup.sublist (hs.map _),fun p hm=>h.holds p (hs.subset hm),h.low⟩
theorem yp:∀(σ:Hp) (i:Nat) (p:Nat×List AV),σ[i]?=some p→(p::σ.eraseIdx i).Perm σ
 | [],i,p,h=>by simp at h
 |q::σ,0,p,h=>by simp at h;subst h;exact List.Perm.refl _
 |q::σ,i+1,p,h=>(List.Perm.swap q p _).trans (.cons q (yp σ i p (by simpa using h)))
theorem Z0(i:Nat)(σ:Hp):(pull i σ).Perm σ:=by
 unfold pull
 split
 ·rename_i p h
  exact yp σ i p h
 ·exact List.Perm.refl _
theorem yB:∀(js:List Nat) (σ:Hp),(oh js σ).Perm σ
 | [],_=>List.Perm.refl _
 |i::r,σ=>(Z0 i _).trans (yB r σ)
theorem yw(fC:∀b,F b→b<w.heap.size)(ho:w'.os=w.os)(ht:w'.tape=w.tape)(hu:w'.output=w.output)(hs:w.heap.size≤w'.heap.size)(hb:∀b,b<w.heap.size→w'.heap[b]?=w.heap[b]?)(hd:w.drawn≤w'.drawn:=by first | exact aR _ | exact Nat.le_succ _ | exact Cd _ _):bB F w F w':=
 ⟨ho,ht,hu,hs,fun _ h=>h,fun b h=>hb b (fC b h),fun b c _ fz h=>⟨c,fz,(hb b (tT h)).trans h,rfl⟩,hd⟩
theorem bf.same{σ:Hp}(h:bf F w σ)(an:bB F w F w')(hb:∀b,b<w.heap.size→w'.heap[b]?=w.heap[b]?):bf F w' σ:=
 ⟨h.nodup,fun p hm=>(h.holds p hm).mono an (hb _ (h.holds p hm).lt) (h.holds p hm).1,fun b hF=>sg (h.low b hF) an.size⟩
theorem Qh{σ:Hp}(h:bf F w σ){c:Array Value}{T:TypeId}{cs:List AV}(hl:cs.length≤c.size)(hc:∀(i:Nat) (x:AV),cs[i]?=some x→x.leaf=true∧aA F w x (c.getD i undef)){w0:World}(e0:w0=w∨w0=w.drew):
  bB F w F (w0.alloc (.cells c T))∧bf F (w0.alloc (.cells c T)) ((w.heap.size,cs)::σ):=by
 have hold:∀b,b<w.heap.size→(w0.alloc (.cells c T)).heap[b]?=w.heap[b]?:=fun b hb=>by rcases e0 with rfl | rfl <;> exact Below.heap_alloc _ _ b (by simpa using hb)
 have an:bB F w F (w0.alloc (.cells c T)):=by
  rcases e0 with rfl | rfl
  ·exact yw h.low rfl rfl rfl (by simp) hold
  ·exact yw h.low rfl rfl rfl (by simp) hold
 have hr:=h.same an hold
 have ib:(w0.alloc (.cells c T)).heap[w.heap.size]?=some (.cells c T (0,0)):=by rcases e0 with rfl | rfl <;> exact xb _ _
 refine⟨an,⟨?_,fun p hm=>?_,hr.low⟩⟩
 ·simp only[o0,lY]
  refine⟨fun hm=>?_,h.nodup⟩
  obtain⟨p,hp,e⟩:=dL.1 hm
  have:=(h.holds p hp).lt
  omega
 ·rcases dA.1 hm with rfl | hm
  ·exact⟨fun hF=>JJ _ (h.low _ hF),.inl ⟨c,T,ib,hl,fun i x hx=>⟨(hc i x hx).1,(hc i x hx).2.mono an⟩⟩⟩
  ·exact hr.holds p hm
theorem Aq{σ:Hp}(h:bf F w σ){j b:Nat}{cs cs':List AV}(hj:σ[j]?=some (b,cs)){c c':Array Value}{T:TypeId}(hc:w.heap[b]?=some (.cells c T (0,0)))(eC:c'.size=c.size)(hl:cs'.length≤c'.size)
  (hr:∀(i:Nat) (x:AV),cs'[i]?=some x→x.leaf=true∧aA F w x (c'.getD i undef)) (hw:∀k,k≠b→w'.heap[k]?=w.heap[k]?) (Jf:w'.heap[b]?=some (.cells c' T (0,0))) (ho:w'.os=w.os) (ht:w'.tape=w.tape) (hu:w'.output=w.output) (hs:w'.heap.size=w.heap.size) (hd:w.drawn≤w'.drawn:=by first | exact aR _ | exact Nat.le_succ _ | exact Cd _ _) :
  bB F w F w'∧bf F w' (σ.set j (b,cs')):=by
 have hb:=(h.holds (b,cs) (cu hj)).1
 have ab:j<σ.length:=(ck.1 hj).1
 have an:bB F w F w':=⟨ho,ht,hu,by omega,fun _ h=>h,fun k hF=>hw k (fun e=>hb (e▸hF)),fun k d S fz hk=>by
  by_cases e:k=b
  ·subst e
   rw[hc]at hk
   cases hk
   exact⟨c',(0,0),Jf,eC⟩
  ·exact⟨d,fz,(hw k e).trans hk,rfl⟩,hd⟩
 have D2:(σ.set j (b,cs')).map Prod.fst=σ.map Prod.fst:=by
  rw[nU]
  apply zU
  intro k
  rw[e9]
  split
  ·rename_i e;subst e
   simp[ab]
   have:=(ck.1 hj).2
   rw[this]
  ·rfl
 refine⟨an,⟨D2▸h.nodup,fun p hm=>?_,fun k hF=>by rw[hs];exact h.low k hF⟩⟩
 obtain⟨k,hk⟩:=sh.1 hm
 rw[e9]at hk
 split at hk
 ·rename_i e;subst e
  simp at hk
  obtain⟨_,rfl⟩:=hk
  exact⟨hb,.inl ⟨c',T,Jf,hl,fun i x hx=>⟨(hr i x hx).1,(hr i x hx).2.mono an⟩⟩⟩
 ·rename_i aQ
  have aS:=cu hk
  have qU:p.1≠b:=by
   intro e
   have cf:=h.nodup
   have h1:(σ.map Prod.fst)[k]?=some b:=by rw[List.getElem?_map,hk];simp[e]
   have h2:(σ.map Prod.fst)[j]?=some b:=by rw[fm,hj];rfl
   have eQ:k<(σ.map Prod.fst).length:=(ck.1 h1).1
   have:=(List.getElem?_inj (i:=k) (j:=j) eQ cf).1 (h1.trans h2.symm)
   exact aQ this.symm
  exact (h.holds p aS).mono an (hw _ qU) (h.holds p aS).1
theorem SC(z:List AV):∀(n j:Nat),j<n*z.length→(cJ z n)[j]?=z[j % z.length]?
 | 0,j,h=>by simp at h
 |n+1,j,h=>by
  unfold cJ
  by_cases hj:j<z.length
  ·rw[kh hj,wH hj]
  ·have e:(n+1)*z.length=n*z.length+z.length:=qa n z.length
   rw[iQ (by omega),SC z n (j-z.length) (by omega)]
   rw[Nat.mod_eq_sub_mod (a:=j) (b:=z.length) (by omega)]
theorem wQ(z:List AV)(n:Nat):(cJ z n).length=n*z.length:=by
 induction n with
 |zero=>simp[cJ]
 |succ n ih=>simp[cJ,ih,Nat.succ_mul];omega
theorem GX{i:TI}{z:Value}(hz:qq i.zero z.cells.toList=true){n m:Nat}(Fb:n≤m):(cJ i.zero n).length≤(madeCells z.cells (m*i.zero.length)).size∧∀(k:Nat) (x:AV),(cJ i.zero n)[k]?=some x→x.leaf=true∧aA F w x ((madeCells z.cells (m*i.zero.length)).getD k undef):=by
 obtain⟨h1,h2⟩:=w5 (F:=F) (w:=w) hz
 have hle:n*i.zero.length≤m*i.zero.length:=kg _ Fb
 refine⟨by rw[wQ,size_madeCells];exact hle,fun k x hx=>?_⟩
 have hk:k<n*i.zero.length:=by rw[← wQ];exact (ck.1 hx).1
 rw[SC _ _ _ hk]at hx
 obtain⟨h3,h4⟩:=h2 _ x hx
 refine⟨h3,?_⟩
 have ab:k<m*i.zero.length:=by omega
 have ua:0<i.zero.length:=by
  rcases uD i.zero.length with h0 | h0
  ·rw[h0]at hk;omega
  ·exact h0
 have WX:k % i.zero.length<z.cells.size:=by rw[← h1];exact nT _ ua
 rw[h1]at h4 ab
 rw[h1]at WX
 simpa [madeCells,Array.getD,ab,h1,WX,Nat.mod_lt _ (h1▸ua)]using h4
end
section
variable {P:Program} {TT:TypeId→Option TI} {F F':Nat→Prop} {w w':World}
def j0(P:Program)(o:Oper)(ρ:Operand→AV)(σ:Hp)(K:AV→Hp→Prop):Prop:=
 ∀(a:Act) (F:Nat→Prop) (w:World),(∀x∈o.op.operands.toList,aA F w (ρ x) (a.eval x))→bf F w σ→∀(next:Act→World→Prop) (Q:Exit→Act→World→Prop),
  (∀v av σ' F' w',bB F w F' w'→bf F' w' σ'→aA F' w' av v→K av σ'→next (a.put o.dst v) w')→wq P o a w next Q
theorem Xy{o:Oper}{ρ:Operand→AV}{σ:Hp}{K:AV→Hp→Prop}{v:AV}(h:EK P o.op ρ σ v)(hk:K v σ):j0 P o ρ σ K:=by
 intro a F w hx aE next Q hn
 obtain⟨v',h1,h2⟩:=h a.eval F w o rfl hx aE
 unfold wq
 rw[h1]
 exact hn v' v σ F w (.refl _ _) aE h2 hk
theorem Gh{o:Oper}{ρ:Operand→AV}{σ:Hp}{K:AV→Hp→Prop}{cs:List AV}{mk:Nat→AV}(hk:∀b,K (mk b) ((b,cs)::σ))
  (h:∀(η:Operand→Value) (F:Nat→Prop) (w:World),(∀x∈o.op.operands.toList,aA F w (ρ x) (η x))→∃(c:Array Value) (T:TypeId) (v:Value),(execOp η o).run P w=.ok (.value v) (w.alloc (.cells c T))∧cs.length≤c.size∧(∀(i:Nat) (x:AV),cs[i]?=some x→x.leaf=true∧aA F w x (c.getD i undef))∧aA F (w.alloc (.cells c T)) (mk w.heap.size) v):j0 P o ρ σ K:=by
 intro a F w hx aE next Q hn
 obtain⟨c,T,v,h1,h2,h3,h4⟩:=h a.eval F w hx
 unfold wq
 rw[h1]
 obtain⟨an,hr⟩:=Qh aE (T:=T) h2 h3 (w0:=w) (.inl rfl)
 exact hn v _ _ F _ an hr h4 (hk _)
theorem XB{x:AV}{v:Value}{cs:List AV}(h:aA F w x v)(hc:x.cells?=some cs):cs.length≤v.cells.size∧∀(i:Nat) (x:AV),cs[i]?=some x→x.leaf=true∧aA F w x (v.cells.getD i undef):=by
 obtain⟨h1,h2⟩:=KU h hc
 exact⟨by omega,h2⟩
theorem aaH{o:Oper}{e:TypeId}{x:Operand}(ho:o.op=.box e x){ρ:Operand→AV}{σ:Hp}{K:AV→Hp→Prop}{cs:List AV}(hc:(ρ x).cells?=some cs)(hk:∀b,K (.ptr b 0) ((b,cs)::σ)):j0 P o ρ σ K:=
 Gh hk fun η F w hx=>by
  have h1:=hx x (by simp[ho,Op.operands])
  obtain⟨h2,h3⟩:=XB h1 hc
  exact⟨(η x).cells,e,.pointer (some ⟨w.heap.size,0,none⟩),by simp[execOp,ho,Instr.box,newVar,newRow],h2,h3,.ptr _ _ ⟨_,_,_,xb _ _⟩⟩
theorem Yx(ok:dH P TT){o:Oper}{e:TypeId}(ho:o.op=.alloc e){ρ:Operand→AV}{σ:Hp}{K:AV→Hp→Prop}{i:TI}(hi:TT e=some i)(hk:∀b,K (.ptr b 0) ((b,i.zero)::σ)):j0 P o ρ σ K:=
 Gh hk fun η F w hx=>by
  obtain⟨j,d,z,hj,hd,_,_,_,hz,ic⟩:=dB ok hi
  obtain⟨h1,h2⟩:=w5 (F:=F) (w:=w) ic
  exact⟨z.cells,e,.pointer (some ⟨w.heap.size,0,none⟩),by simp[execOp,ho,Instr.alloc,newVar,newRow,zeroValue,typeInfo,hj,hz],by omega,h2,.ptr _ _ ⟨_,_,_,xb _ _⟩⟩
theorem Xl(ok:dH P TT){o:Oper}{t e:TypeId}{len:Nat}{parts:Array (Nat×Operand)}(ho:o.op=.buildSlice t len parts){ρ:Operand→AV}{σ:Hp}{K:AV→Hp→Prop}{it i:TI}(ht:TT t=some it)(eQ:it.k=.slice e)(hi:TT e=some i){cs:List AV}
  (hf:sA ((List.range len).map fun j=>(j*i.size,i.size)) (cJ i.zero len) (parts.toList.map fun p=>(p.1,ρ p.2))=some cs) (eC:len*i.size≤16777216) (ua:1≤i.size) (hk:∀b,K (.af b 0 len i.size) ((b,cs)::σ)):j0 P o ρ σ K:=
 Gh hk fun η F w hx=>by
  obtain⟨_,d,_,_,hd,_,_,jQ,_,_⟩:=dB ok ht
  rw[eQ]at jQ
  obtain rfl:=jV jQ
  obtain⟨j,d',z,hj,kf,hs,⟨_,oR⟩,_,hz,ic⟩:=dB ok hi
  obtain⟨hl,hr⟩:=Ry (parts:=parts) (ρ:=ρ) (η:=η) (F:=F) (w:=w) (by simpa [ho,Op.operands]using hx)
  have jy:z.cells.size=j.size:=by have:=(w5 (F:=F) (w:=w) ic).1;omega
  obtain⟨m1,m2⟩:=GX (F:=F) (w:=w) ic (aR len)
  have ik:pU F w (cJ i.zero len) (madeCells z.cells (len*i.zero.length)):=⟨by rw[wQ,size_madeCells],m2⟩
  rw[oR,← hs]at ik
  obtain⟨eE,f1,f2⟩:=G2 (place:=fun k=>some (k*j.size,j.size)) (fun k p hk=>by
   obtain⟨a,ha,rfl⟩:=ck.1 hk
   simp[hs]) _ _ _ _ _ hl hr ik hf
  have agU:eE.size=len*j.size:=by
   have e1:∀(us:List (Nat×AV)) (xs out:List AV),sA ((List.range len).map fun j=>(j*i.size,i.size)) xs us=some out→out.length=xs.length:=by
    intro us
    induction us with
    |nil=>intro xs out h;simp[sA]at h;subst h;rfl
    |cons p us ih=>
     intro xs out h
     obtain⟨q,v⟩:=p
     simp only[sA]at h
     split at h
     ·split at h
      ·rw[ih _ _ h,Ab]
      ·cases h
     ·cases h
   have:=e1 _ _ _ hf
   rw[wQ]at this
   have h3:=f2.1
   rw[oR,← hs]at this
   omega
  refine⟨eE,e,.slice (some ⟨w.heap.size,0,none⟩) len len,?_,by have:=f2.1;omega,f2.2,.af _ _ _ _ _ _ ⟨eE,e,(0,0),xb _ _,aR _,?_,.inl ⟨rfl,by rw[agU,hs];omega⟩⟩⟩
  ·by_cases h0:len*j.size=0
   ·have:eE = #[]:=FT.1 (by omega)
    subst this
    have f1':Instr.fill (fun k=>some (k*j.size,j.size)) #[] (parts.map fun (i,x)=>(i,η x)).toList=some #[]:=by
     have e0:madeCells z.cells (len*j.size) = #[]:=by rw[h0];simp[madeCells,Array.range_zero']
     rw[e0]at f1
     exact f1
    simp only[execOp,ho,Instr.buildSlice,Sem.run_bind,run_underlying hd,Result.andThen_ok,run_sizeOf hj,h0,if_true,Sem.run_pure,Nat.reducePow,if_false,nV,gt_iff_lt]
    rw[show ((Array.range 0).map fun x=>(#[]:Array Value)[x % (#[]:Array Value).size]!) = #[] by simp[Array.range_zero'],f1']
    rfl
   ·simp only[execOp,ho,Sem.run_bind,run_buildSlice w t e len _ eE j z hd hj hz (by rw[hs];omega) h0 f1]
    rfl
  ·have:len≤len*i.size:=Nat.le_mul_of_pos_right _ ua
   unfold maxLen;omega
theorem Xn(ok:dH P TT){o:Oper}{t e:TypeId}{l c:Operand}(ho:o.op=.makeSlice t l c){ρ:Operand→AV}{σ:Hp}{K:AV→Hp→Prop}{it i:TI}(ht:TT t=some it)(eQ:it.k=.slice e)(hi:TT e=some i){k k':IntKind}{n m:Int}(hl:ρ l=.int k n)(hc:ρ c=.int k' m)
  (h0:0≤n∧n≤m∧m≤1048576∧i.bytes≤1024) (hk:∀b,K (.af b 0 n.toNat i.size) ((b,cJ i.zero n.toNat)::σ)):j0 P o ρ σ K:=
 Gh hk fun η F w hx=>by
  obtain⟨_,d,_,_,hd,_,_,jQ,_,_⟩:=dB ok ht
  rw[eQ]at jQ
  obtain rfl:=jV jQ
  obtain⟨j,d',z,hj,kf,hs,⟨hb,oR⟩,_,hz,ic⟩:=dB ok hi
  have h1:=hx l (by simp[ho,Op.operands]);rw[hl]at h1
  have h2:=hx c (by simp[ho,Op.operands]);rw[hc]at h2
  obtain⟨m1,m2⟩:=GX (F:=F) (w:=w) ic (show n.toNat≤m.toNat by omega)
  rw[oR,← hs]at m1 m2
  have s4:(j.bytes:Int)*m≤281474976710656:=by
   have:(j.bytes:Int)*m≤1024*1048576:=JM (by omega) (by omega) (by omega) (by omega)
   omega
  refine⟨madeCells z.cells (m.toNat*j.size),e,.slice (some ⟨w.heap.size,0,none⟩) n.toNat m.toNat,?_,m1,m2,.af _ _ _ _ _ _ ⟨_,e,(0,0),xb _ _,by omega,by unfold maxLen;omega,.inl ⟨rfl,by rw[size_madeCells,hs];omega⟩⟩⟩
  simp only[execOp,ho,h1.gB,h2.gB,Sem.run_bind,run_make w t e j z hd hj hz k k' n m h0.1 h0.2.1 s4 (by omega)]
  rfl
end
section
variable {P:Program} {TT:TypeId→Option TI} {F F':Nat→Prop} {w w':World}
theorem KJ:∀(xs cs:List AV) (o k:Nat),o+xs.length≤cs.length→(fL cs o xs)[k]?=if o≤k∧k<o+xs.length then xs[k-o]? else cs[k]?
 | [],cs,o,k,_=>by rw[if_neg (by intro h;simp at h;omega)];rfl
 |x::xs,cs,o,k,h=>by
  simp only[gq]at h
  rw[fL,KJ xs (cs.set o x) (o+1) k (by simp;omega)]
  simp only[gq]
  by_cases h1:o+1≤k∧k<o+1+xs.length
  ·rw[ah h1,ah (by omega),show k-o=(k-(o+1))+1 by omega];rfl
  ·rw[ag h1]
   by_cases h2:o=k
   ·subst h2
    rw[ah (by omega),qY,e9]
    simp;omega
   ·rw[ag (by omega),e9,ag h2]
theorem adH(c vs:List Value)(o k:Nat)(h:o+vs.length≤c.length):(c.take o++vs++c.drop (o+vs.length))[k]?=if o≤k∧k<o+vs.length then vs[k-o]? else c[k]?:=by
 have hl:(c.take o).length=o:=by simp;omega
 by_cases h1:k<o
 ·rw[ag (by omega),dQ,kh (by omega),qZ,ah h1]
 ·by_cases h2:k<o+vs.length
  ·rw[ah (by omega),dQ,iQ (by omega),hl,kh (by omega)]
  ·rw[if_neg (by omega),List.getElem?_append_right (by simp;omega),List.getElem?_drop]
   congr 1
   simp;omega
theorem XE{i:TI}{cs cs':List AV}{o:Nat}{v:AV}(h:kP i cs o v=some cs'):∃vs,v.cells?=some vs∧vs.length=i.size∧o+i.size≤cs.length∧cs'=fL cs o vs:=by
 unfold kP at h
 split at h
 ·rename_i vs hv
  split at h
  ·rename_i h1 h2
   exact⟨vs,hv,jF h1,cR h2,(Option.some.inj h).symm⟩
  ·cases h
 ·cases h
theorem GY{c:Array Value}{cs xs:List AV}{vs:List Value}{o:Nat}(hc:∀(i:Nat) (x:AV),cs[i]?=some x→x.leaf=true∧aA F w x (c.getD i undef))(hx:xs.length=vs.length)(hv:∀(i:Nat) (x:AV),xs[i]?=some x→x.leaf=true∧aA F w x (vs.getD i undef))(ho:o+xs.length≤c.size)
  {out:List AV} (nQ:out.length≤c.size) (IE:∀k y,out[k]?=some y→(if o≤k∧k<o+xs.length then xs[k-o]? else cs[k]?)=some y) :
  ∀(i:Nat) (x:AV),out[i]?=some x→x.leaf=true∧aA F w x ((c.toList.take o++vs++c.toList.drop (o+vs.length)).toArray.getD i undef):=by
 intro k y hk
 have h1:=IE k y hk
 have ab:k<out.length:=(ck.1 hk).1
 have ahS:=adH c.toList vs o k (by simp;omega)
 have zL:k<c.size:=by omega
 have hlen:(c.toList.take o++vs++c.toList.drop (o+vs.length)).length=c.size:=by simp;omega
 have hgd:(c.toList.take o++vs++c.toList.drop (o+vs.length)).toArray.getD k undef=((c.toList.take o++vs++c.toList.drop (o+vs.length))[k]?).getD undef:=by
  have h2:k<(c.toList.take o++vs++c.toList.drop (o+vs.length)).toArray.size:=by rw[qc,hlen];exact zL
  simp only[Array.getD,h2,dif_pos]
  rw[bj (by rw[hlen];exact zL)]
  rfl
 rw[hgd,ahS]
 split at h1
 ·rename_i ee
  rw[ah (by omega)]
  obtain⟨h2,h3⟩:=hv _ y h1
  exact⟨h2,by rw[aW]at h3;exact h3⟩
 ·rename_i ee
  rw[ag (by omega)]
  obtain⟨h2,h3⟩:=hc _ y h1
  refine⟨h2,?_⟩
  simpa [Array.getD,zL]using h3
theorem XV(ok:dH P TT){o:Oper}{t:TypeId}{p x:Operand}(ho:o.op=.store t p x){ρ:Operand→AV}{σ:Hp}{K:AV→Hp→Prop}{i:TI}(hi:TT t=some i){b off:Nat}(hp:ρ p=.ptr b off)(h:HA i σ b off (ρ x) (fun σ'=>K .any σ')):j0 P o ρ σ K:=by
 intro a F w hx aE next Q hn
 obtain⟨j,cs,cs',h1,h2,go⟩:=h
 obtain⟨vs,hv,Jh,hle,rfl⟩:=XE h2
 obtain⟨jt,d,z,hj,hd,hs,_⟩:=dB ok hi
 have a1:=hx p (by simp[ho,Op.operands]);rw[hp]at a1
 have a2:=hx x (by simp[ho,Op.operands])
 obtain⟨c1,c2⟩:=KU a2 hv
 obtain⟨hF,c,T,hc,ef,pZ⟩:=(aE.holds _ (cu h1)).cells a1.As
 have ef:cs.length≤c.size:=ef
 have oG:∀u∈(a.eval x).cells.toList,u.oneCell'=true:=by
  intro u hu
  obtain⟨k,hk⟩:=sh.1 hu
  have ab:k<(a.eval x).cells.size:=by have:=(List.getElem?_eq_some_iff.1 hk).1;simpa using this
  obtain⟨h3,h4⟩:=c2 k vs[k] (by simp)
  have:=h4.one h3
  simpa [Array.getD,ab,show (a.eval x).cells[k]=u by simpa [ab]using hk]using this
 have an:=run_storeCells_at (P:=P) b off T (a.eval x).cells.toList 0 c w hc (by simp[c1];omega) oG
 have fG:(execOp a.eval o).run P w=.ok .skip (w.setRow b (c.toList.take off++(a.eval x).cells.toList++c.toList.drop (off+(a.eval x).cells.toList.length)).toArray):=by
  simp only[wE]at an
  have eC:¬((a.eval x).cells.size≠jt.size):=by rw[c1,Jh,hs];simp
  simp only[execOp,ho,a1.zk,Instr.storeAt,Instr.sureAddr,Sem.run_bind,Sem.run_pure,Result.andThen_ok,storeVar,run_sizeOf hj,ag eC,an]
 unfold wq
 rw[fG]
 have hlen:(c.toList.take off++(a.eval x).cells.toList++c.toList.drop (off+(a.eval x).cells.toList.length)).length=c.size:=by simp;omega
 obtain⟨s1,s2⟩:=Aq aE h1 (cs':=fL cs off vs) hc (c':=(c.toList.take off++(a.eval x).cells.toList++c.toList.drop (off+(a.eval x).cells.toList.length)).toArray) (by simp only[qc];exact hlen) (by rw[Ab];simp only[qc];omega)
  (GY (xs:=vs) pZ (by simp[c1]) (fun k y hk=>by
   have ab:k<(a.eval x).cells.size:=by rw[c1];exact (ck.1 hk).1
   have:=c2 k y hk
   simpa [Array.getD,List.getD,ab]using this) (by omega) (by rw[Ab];omega) (fun k y hk=>by rw[KJ _ _ _ _ (by omega)]at hk;exact hk))
  (fun k hk=>setRow_other w b k _ hk) (setRow_heap w b c _ T _ hc) rfl rfl rfl (by simp)
 exact hn undef .any _ F _ s1 s2 (.any _) go
theorem At.flat{α:Type}{f:α→List AV}{es:Nat}(hf:∀x,(f x).length=es){b:Nat}:∀(l:List α) (o:Nat),(∀i,(h:i<l.length)→At F w b (o+i*es) (f l[i]))→At F w b o (l.flatMap f)
 | [],o,_=>fun i x h=>by simp at h
 |y::l,o,h=>by
  have h0:=h 0 (by simp)
  have ih:=At.flat hf l (o+es) (fun i hi=>by
   have:=h (i+1) (by simpa using hi)
   rw[qa,show o+(i*es+es)=o+es+i*es by omega]at this
   simpa using this)
  intro i x hx
  rw[yh]at hx
  by_cases hi:i<es
  ·rw[kh (by rw[hf];exact hi)]at hx
   have:=h0 i x (by simpa using hx)
   simpa using this
  ·rw[iQ (by rw[hf];omega),hf]at hx
   have:=ih (i-es) x hx
   rw[show o+es+(i-es)=o+i by omega]at this
   exact this
theorem yx{α:Type}{f:α→List AV}{es:Nat}(hf:∀x,(f x).length=es):∀(l:List α),(l.flatMap f).length=l.length*es
 | []=>by simp
 |y::l=>by rw[yh,bV,hf,yx hf l,gq,qa];omega
theorem DD{b o:Nat}{cs:List AV}(h:At F w b o cs):∃news:List Value,news.length=cs.length∧(∀j u,news[j]?=some u→w.cell? ⟨b,o+j,none⟩=some u)∧(∀(i:Nat) (x:AV),cs[i]?=some x→x.leaf=true∧aA F w x (news.getD i undef))∧∀u∈news,u.oneCell'=true:=by
 have hc:∀m,m<cs.length→∃v,w.cell? ⟨b,o+m,none⟩=some v∧v.oneCell'=true:=by
  intro m hm
  obtain⟨h1,v,h2,h3⟩:=h m cs[m] (by simp[hm])
  exact⟨v,h2,h3.one h1⟩
 refine⟨(List.range cs.length).map fun m=>(w.cell? ⟨b,o+m,none⟩).getD undef,by simp,fun j u hj=>?_,fun i x hx=>?_,fun u hu=>?_⟩
 ·have ab:j<cs.length:=by have:=(List.getElem?_eq_some_iff.1 hj).1;simpa using this
  obtain⟨v,h2,_⟩:=hc j ab
  simp[ab,h2]at hj
  rw[h2,hj]
 ·have ab:i<cs.length:=(ck.1 hx).1
  obtain⟨h1,v,h2,h3⟩:=h i x hx
  refine⟨h1,?_⟩
  simpa [List.getD,ab,h2]using h3
 ·obtain⟨m,hm,rfl⟩:=dL.1 hu
  obtain⟨v,h2,h3⟩:=hc m (gb.1 hm)
  rw[h2]
  exact h3
theorem CS{σ:Hp}{es n:Nat}{x:AV}{new:List AV}(h:jZ σ es x n new)(aE:bf F w σ){v:Value}(hv:aA F w x v){tx e':TypeId}(hk:P.underlying tx=some (.slice e')):
  ∃news:List Value,Src P es tx v n news w∧new.length=news.length∧∀(i:Nat) (x:AV),new[i]?=some x→x.leaf=true∧aA F w x (news.getD i undef):=by
 have empty:∀(a:Option Addr) (c:Nat),Src P es tx (.slice a 0 c) 0 [] w:=by
  intro a c
  cases a with
  |none=>exact Src.ofNil w hk c
  |some a=>exact Src.ofSlice w hk a 0 c [] (by simp) (fun j u h=>by simp at h) (fun _ h=>by cases h)
 cases h with
 |ai=>cases hv;exact⟨[],empty _ _,rfl,fun i x h=>by simp at h⟩
 |kz=>cases hv;exact⟨[],empty _ _,rfl,fun i x h=>by simp at h⟩
 |gH=>cases hv;exact⟨[],empty _ _,rfl,fun i x h=>by simp at h⟩
 |ae s l hs=>
  obtain⟨a,c,rfl,h1,h2,h3⟩:=hv.ED
  by_cases aQ:l=[]
  ·subst aQ
   exact⟨[],empty _ _,rfl,fun i x h=>by simp at h⟩
  ·obtain⟨b,o,rfl,hF,hr⟩:=h3 aQ
   have dV:At F w b o (l.flatMap s.cells):=At.flat (es:=s.size) (fun d=>Sh.uJ s d) l o (fun i hi=>by
    obtain⟨cs',q1,q2,q3⟩:=hr i hi
    exact At.Uh s q2 q3)
   obtain⟨news,n1,n2,n3,n4⟩:=DD dV
   have hl:=yx (fun d=>Sh.uJ s d) l
   exact⟨news,Src.ofSlice w hk _ _ c news (by rw[n1,hl,hs]) (fun j u hj=>by rw[po];exact n2 j u hj) n4,n1.symm,n3⟩
 |af j b off len cs h1 h2=>
  obtain⟨a,cap,rfl,c,T,fz,m1,m2,m3,m4⟩:=hv.kV
  have dV:At F w b off ((cs.drop off).take (n*es)):=by
   have:=(aE.at_ h1 ⟨c,T,fz,m1⟩).drop off
   rw[dM]at this
   intro i x hx
   rw[qZ]at hx
   split at hx
   ·exact this i x hx
   ·cases hx
  have hl:((cs.drop off).take (n*es)).length=n*es:=by simp;omega
  obtain⟨news,n1,n2,n3,n4⟩:=DD dV
  rcases m4 with ⟨rfl,_⟩ | ⟨q1,q2,rfl,rfl⟩
  ·exact⟨news,Src.ofSlice w hk _ _ cap news (by rw[n1,hl]) (fun j u hj=>by rw[po];exact n2 j u hj) n4,n1.symm,n3⟩
  ·have h0:(List.take (0*es) (List.drop off cs))=[]:=by simp
   rw[h0]
   exact⟨[],empty _ _,rfl,fun i x h=>by simp at h⟩
theorem tg{η:Operand→Value}{o:Oper}{s x:Operand}{t t':TypeId}(ho:o.op=.call ⟨.builtin .append,#[s,x],#[t,t']⟩){v:Value}{w w':World}(h:(Builtin.append_ #[t,t'] o.type #[η s,η x]).run P w=.ok v w'):(execOp η o).run P w=.ok (.value v) w':=by
 rw[tz _ _ _ o ho]
 simp[builtin,h]
theorem YN(z:Array Value)(n:Nat):(Builtin.zeroCells z n).size=n*z.size:=by simp[Builtin.zeroCells]
theorem GI{σ:Hp}(aE:bf F w σ){e:TypeId}{i:TI}{z:Value}{olds news:List Value}{co cn:List AV}{len n cap:Nat}(ho:co.length=olds.length)(hn:cn.length=news.length)(hor:∀(i:Nat) (x:AV),co[i]?=some x→x.leaf=true∧aA F w x (olds.getD i undef))(hnr:∀(i:Nat) (x:AV),cn[i]?=some x→x.leaf=true∧aA F w x (news.getD i undef))
  (oV:olds.length=len*i.size) (hln:news.length=n*i.size) (jy:z.cells.size=i.size) (lr:len+n≤cap) (lX:cap≤maxLen) :
  let w2:=w.drew.alloc (.cells ((olds++news).toArray++Builtin.zeroCells z.cells (cap-(len+n))) e)
  bB F w F w2∧bf F w2 ((w.heap.size,co++cn)::σ)∧aA F w2 (.af w.heap.size 0 (len+n) i.size) (.slice (some ⟨w.heap.size,0,none⟩) (len+n) cap):=by
 intro w2
 have eC:((olds++news).toArray++Builtin.zeroCells z.cells (cap-(len+n))).size=cap*i.size:=by
  simp only[Array.size_append,qc,bV,YN,jy,oV,hln]
  rw[← p9,← p9]
  congr 1
  omega
 obtain⟨h1,h2⟩:=Qh aE (c:=(olds++news).toArray++Builtin.zeroCells z.cells (cap-(len+n))) (T:=e) (cs:=co++cn) (by simp;omega) (fun k x hx=>by
  have ab:k<(co++cn).length:=(ck.1 hx).1
  have ec:k<(olds++news).length:=by simp at ab ⊢;omega
  have e1:((olds++news).toArray++Builtin.zeroCells z.cells (cap-(len+n))).getD k undef=(olds++news).getD k undef:=by
   rw[Array.getD_eq_getD_getElem?,Array.getElem?_append_left (by simpa using ec),List.getD_eq_getElem?_getD,List.getElem?_toArray]
  rw[e1]
  by_cases hk:k<co.length
  ·rw[kh hk]at hx
   rw[aW,kh (by omega),← aW]
   exact hor k x hx
  ·rw[iQ (by omega)]at hx
   rw[aW,iQ (by omega),← aW,← ho]
   exact hnr _ x hx) (w0:=w.drew) (.inr rfl)
 refine⟨h1,h2,.af _ _ _ _ _ _ ⟨_,e,(0,0),?_,lr,lX,.inl ⟨rfl,by rw[eC];omega⟩⟩⟩
 exact xb w.drew _
theorem F9(ok:dH P TT){o:Oper}{s x:Operand}{t t' e e':TypeId}(ho:o.op=.call ⟨.builtin .append,#[s,x],#[t,t']⟩){ρ:Operand→AV}{σ:Hp}{K:AV→Hp→Prop}{it sQ i:TI}(ht:TT t=some it)(hk:it.k=.slice e)(nM:TT t'=some sQ)(eQ:sQ.k=.slice e')(hi:TT e=some i)
  (h:HB i σ (ρ s) (ρ x) K):j0 P o ρ σ K:=by
 intro a F w hx aE next Q dc
 obtain⟨_,d,_,_,hd,_,_,jQ,_,_⟩:=dB ok ht
 rw[hk]at jQ
 obtain rfl:=jV jQ
 obtain⟨_,d',_,_,kf,_,_,xH,_,_⟩:=dB ok nM
 rw[eQ]at xH
 obtain rfl:=jV xH
 obtain⟨j,dj,z,hj,OM,hs,⟨hb,oR⟩,_,hz,ic⟩:=dB ok hi
 have jy:z.cells.size=i.size:=by have:=(w5 (F:=F) (w:=w) ic).1;omega
 have a1:=hx s (by simp[ho,Op.operands,Call.operands])
 have a2:=hx x (by simp[ho,Op.operands,Call.operands])
 have fits:∀{len n:Nat},len+n≤1048576→i.bytes≤1024→(len+n)*j.bytes≤140737488355328:=by
  intro len n h1 h2
  rw[hb]
  have:(len+n)*i.bytes≤1048576*1024:=uA h1 h2
  omega
 cases h with
 |fresh n new iC vE hn zP h0 go same=>
  obtain⟨news,src,q1,q2⟩:=CS (P:=P) vE aE a2 kf
  rw[← hs]at src
  obtain⟨ad,hv⟩:∃ad,a.eval s=.slice ad 0 0:=by
   rcases iC with iC | iC
   ·rw[iC]at a1;revert a1;generalize a.eval s=u;intro a1;cases a1;exact⟨none,rfl⟩
   ·rw[iC]at a1;revert a1;generalize a.eval s=u;intro a1;cases a1;exact⟨_,rfl⟩
  by_cases e8:n=0
  ·subst e8
   have vt:news=[]:=List.length_eq_zero_iff.1 (by rw[src.newsLen];simp)
   subst vt
   have hr:=tg (η:=a.eval) ho (by rw[hv];exact run_append_nothing w t t' o.type e j hd hj ad 0 0 (aR _) _ src)
   unfold wq
   rw[hr]
   exact dc _ _ σ F w (.refl _ _) aE (by rw[← hv];exact a1) (same rfl)
  ·have hold:(Builtin.firstCells j.size 0 (.slice ad 0 0)).run P w.drew=.ok #[] w.drew:=by
    cases ad with
    |none=>exact run_firstCells_none w.drew _ _ _ _
    |some ad=>exact run_firstCells_some w.drew j.size 0 ad 0 0 [] (by simp) (fun j u h=>by simp at h)
   have zd:=run_append_grow_src (P:=P) w t t' o.type e j z hd hj hz ad 0 0 [] hold _ n news src (by omega) (by omega) (growslice_fits (by omega) (fits (by omega) zP))
   have aq:=grownCap_ge w (0+n) 0 e
   have wx:=grownCap_le_maxLen w (0+n) 0 e (by unfold maxLen;omega)
   obtain⟨g1,g2,g3⟩:=GI aE (e:=e) (i:=i) (z:=z) (olds:=[]) (co:=[]) (news:=news) (cn:=new) (len:=0) (n:=n) (cap:=grownCap w (0+n) 0 e) rfl q1 (fun i x h=>by simp at h) q2 (by simp) (by rw[src.newsLen,hs]) jy aq wx
   have hr:=tg (η:=a.eval) ho (by rw[hv];exact zd)
   unfold wq
   rw[hr]
   have:=go e8 w.heap.size
   rw[show n=0+n from (dM n).symm]at this
   exact dc _ _ _ F _ g1 g2 g3 this
 |more jj b len n cs new qR sY ef vE hn zP h0 go=>
  obtain⟨news,src,q1,q2⟩:=CS (P:=P) vE aE a2 kf
  rw[qR]at a1
  obtain⟨ad,cap,hv,c,T,fz,m1,m2,m3,m4⟩:=a1.kV
  obtain⟨hF,c',T',kL,EA,IG⟩:=(aE.holds _ (cu sY)).cells ⟨c,T,fz,m1⟩
  have EA:cs.length≤c'.size:=EA
  have OP:c=c'∧T=T'∧fz=(0,0):=by
   rw[kL]at m1;cases m1;exact⟨rfl,rfl,rfl⟩
  obtain⟨rfl,rfl,rfl⟩:=OP
  have ab:jj<σ.length:=(ck.1 sY).1
  have uq:(cs.take (len*i.size)).length=len*i.size:=by simp;omega
  have NO:∀(k:Nat) (x:AV),(cs.take (len*i.size))[k]?=some x→x.leaf=true∧aA F w x (c.getD k undef):=by
   intro k x hx
   rw[qZ]at hx
   split at hx
   ·exact IG k x hx
   ·cases hx
  have mn:bf F w (σ.eraseIdx jj):=aE.sub (List.eraseIdx_sublist _ _)
  by_cases om:len+n≤cap
  ·rcases m4 with ⟨rfl,pR⟩ | ⟨ur,s7,ig,ik⟩
   ·rw[dM]at pR
    have hmul:(len+n)*i.size≤cap*i.size:=kg _ om
    rw[p9]at hmul
    have mz:news.length=n*i.size:=src.newsLen
    have an:=run_storeCells_at (P:=P) b (len*i.size) T news 0 c w kL (by omega) src.one
    simp only[wE]at an
    rw[← hs]at src
    have EB:(Builtin.append_ #[t,t'] o.type #[.slice (some ⟨b,0,none⟩) len cap,a.eval x]).run P w=.ok (.slice (some ⟨b,0,none⟩) (len+n) cap) (w.setRow b (c.toList.take (len*i.size)++news++c.toList.drop (len*i.size+news.length)).toArray):=by
     rw[← hs]at an ⊢
     simp[Builtin.append_,run_underlying hd,run_underlying kf,sizeOf,typeInfo,hj,src.len,om,src.cells,Addr.add_lit,an]
    have hr:=tg (η:=a.eval) ho (by rw[hv];exact EB)
    have hlen:(c.toList.take (len*i.size)++news++c.toList.drop (len*i.size+news.length)).length=c.size:=by simp;omega
    obtain⟨s1,s2⟩:=Aq aE sY (cs':=cs.take (len*i.size)++new) kL (c':=(c.toList.take (len*i.size)++news++c.toList.drop (len*i.size+news.length)).toArray) (by simp only[qc];exact hlen) (by rw[qc,hlen,bV,uq,q1];omega)
     (GY (cs:=cs.take (len*i.size)) (xs:=new) (fun k y hk=>NO k y hk) q1 q2 (by omega) (by simp only[bV,uq,q1];omega) (fun k y hk=>by
      by_cases sX:k<len*i.size
      ·rw[ag (by omega)]
       rw[kh (by omega)]at hk
       exact hk
      ·rw[iQ (by omega),uq]at hk
       have:=(ck.1 hk).1
       rw[ah (by omega)]
       exact hk))
     (fun k hk=>setRow_other w b k _ hk) (setRow_heap w b c _ T _ kL) rfl rfl rfl (by simp)
    unfold wq
    rw[hr]
    refine dc _ _ _ F _ s1 (s2.perm ?_) ?_ (go b)
    ·have:=yp (σ.set jj (b,cs.take (len*i.size)++new)) jj (b,cs.take (len*i.size)++new) (by simp[ab])
     rw[Pn]at this
     exact this
    ·exact .af _ _ _ _ _ _ ⟨_,T,(0,0),setRow_heap w b c _ T _ kL,by omega,m3,.inl ⟨rfl,by simp only[qc];rw[hlen];omega⟩⟩
   ·subst ig;subst ik
    obtain rfl:n=0:=by omega
    have vt:news=[]:=List.length_eq_zero_iff.1 (by rw[src.newsLen];simp)
    subst vt
    rw[← hs]at src
    have ib:new=[]:=List.length_eq_zero_iff.1 (by simpa using q1)
    subst ib
    have hr:=tg (η:=a.eval) ho (by rw[hv];exact run_append_nothing w t t' o.type e j hd hj (some ad) 0 0 (aR _) _ src)
    unfold wq
    rw[hr]
    have oo:bf F w ((b,cs)::σ.eraseIdx jj):=aE.perm (yp σ jj (b,cs) sY)
    have g0:K (.af b 0 0 i.size) ((b,[])::σ.eraseIdx jj):=by simpa using go b
    refine dc _ _ ((b,[])::σ.eraseIdx jj) F w (.refl _ _) ⟨oo.nodup,fun p hp=>?_,oo.low⟩ (.af b 0 0 i.size ad 0 ⟨c,T,(0,0),kL,aR _,by unfold maxLen;omega,.inr ⟨ur,s7,rfl,rfl⟩⟩) g0
    rcases dA.1 hp with rfl | hp
    ·exact⟨hF,.inl ⟨c,T,kL,by simp,fun i x h=>by simp at h⟩⟩
    ·exact oo.holds p (cQ _ hp)
  ·obtain⟨olds,o1,o2,o3⟩:∃olds:List Value,olds.length=len*i.size∧(Builtin.firstCells i.size len (.slice (some ad) len cap)).run P w.drew=.ok olds.toArray w.drew∧∀(k:Nat) (x:AV),(cs.take (len*i.size))[k]?=some x→x.leaf=true∧aA F w x (olds.getD k undef):=by
    rcases m4 with ⟨rfl,pR⟩ | ⟨ur,s7,rfl,rfl⟩
    ·have dV:At F w b 0 (cs.take (len*i.size)):=by
      have:=aE.at_ sY ⟨_,_,_,kL⟩
      intro k x hx
      rw[qZ]at hx
      split at hx
      ·exact this k x hx
      ·cases hx
     obtain⟨olds,n1,n2,n3,n4⟩:=DD dV
     refine⟨olds,by rw[n1,uq],run_firstCells_some w.drew i.size len _ len cap olds (by rw[n1,uq]) (fun k u hk=>?_),n3⟩
     rw[po]
     exact n2 k u hk
    ·exact⟨[],by simp,run_firstCells_some w.drew i.size 0 ad 0 0 [] (by simp) (fun j u h=>by simp at h),fun k x h=>by simp at h⟩
   have mz:news.length=n*i.size:=src.newsLen
   rw[← hs]at src
   have zd:=run_append_grow_src (P:=P) w t t' o.type e j z hd hj hz (some ad) len cap olds (by rw[hs];exact o2) _ n news src (by omega) (by omega) (growslice_fits (by omega) (fits (by omega) zP))
   have aq:=grownCap_ge w (len+n) cap e
   have wx:=grownCap_le_maxLen w (len+n) cap e (by unfold maxLen;omega)
   obtain⟨g1,g2,g3⟩:=GI mn (e:=e) (i:=i) (z:=z) (olds:=olds) (co:=cs.take (len*i.size)) (news:=news) (cn:=new) (len:=len) (n:=n) (cap:=grownCap w (len+n) cap e) (by rw[uq,o1]) q1 o3 q2 o1 mz jy aq wx
   have hr:=tg (η:=a.eval) ho (by rw[hv];exact zd)
   unfold wq
   rw[hr]
   exact dc _ _ _ F _ g1 g2 g3 (go w.heap.size)
 |Bc jj b off len n cs new qR sY ef vE hn zP h0 xK go=>
  obtain⟨news,src,q1,q2⟩:=CS (P:=P) vE aE a2 kf
  rw[qR]at a1
  obtain⟨ad,cap,hv,c,T,fz,m1,m2,m3,m4⟩:=a1.kV
  obtain⟨hF,c',T',kL,EA,IG⟩:=(aE.holds _ (cu sY)).cells ⟨c,T,fz,m1⟩
  have EA:cs.length≤c'.size:=EA
  have OP:c=c'∧T=T'∧fz=(0,0):=by
   rw[kL]at m1;cases m1;exact⟨rfl,rfl,rfl⟩
  obtain⟨rfl,rfl,rfl⟩:=OP
  have ab:jj<σ.length:=(ck.1 sY).1
  have uq:(cs.take (off+len*i.size)).length=off+len*i.size:=by simp;omega
  have NP:((cs.drop off).take (len*i.size)).length=len*i.size:=by simp;omega
  have NO:∀(k:Nat) (x:AV),(cs.take (off+len*i.size))[k]?=some x→x.leaf=true∧aA F w x (c.getD k undef):=by
   intro k x hx
   rw[qZ]at hx
   split at hx
   ·exact IG k x hx
   ·cases hx
  have mn:bf F w (σ.eraseIdx jj):=aE.sub (List.eraseIdx_sublist _ _)
  by_cases om:len+n≤cap
  ·rcases m4 with ⟨rfl,pR⟩ | ⟨ur,s7,ig,ik⟩
   ·have pR:off+cap*i.size≤c.size:=pR
    have hmul:(len+n)*i.size≤cap*i.size:=kg _ om
    rw[p9]at hmul
    have mz:news.length=n*i.size:=src.newsLen
    have an:=run_storeCells_at (P:=P) b (off+len*i.size) T news 0 c w kL (by omega) src.one
    simp only[wE]at an
    rw[← hs]at src
    have EB:(Builtin.append_ #[t,t'] o.type #[.slice (some ⟨b,off,none⟩) len cap,a.eval x]).run P w=.ok (.slice (some ⟨b,off,none⟩) (len+n) cap) (w.setRow b (c.toList.take (off+len*i.size)++news++c.toList.drop (off+len*i.size+news.length)).toArray):=by
     rw[← hs]at an ⊢
     simp[Builtin.append_,run_underlying hd,run_underlying kf,sizeOf,typeInfo,hj,src.len,om,src.cells,Addr.add_lit,an]
    have hr:=tg (η:=a.eval) ho (by rw[hv];exact EB)
    have hlen:(c.toList.take (off+len*i.size)++news++c.toList.drop (off+len*i.size+news.length)).length=c.size:=by simp;omega
    obtain⟨s1,s2⟩:=Aq aE sY (cs':=cs.take (off+len*i.size)++new) kL (c':=(c.toList.take (off+len*i.size)++news++c.toList.drop (off+len*i.size+news.length)).toArray) (by simp only[qc];exact hlen) (by rw[qc,hlen,bV,uq,q1];omega)
     (GY (cs:=cs.take (off+len*i.size)) (xs:=new) (fun k y hk=>NO k y hk) q1 q2 (by omega) (by simp only[bV,uq,q1];omega) (fun k y hk=>by
      by_cases sX:k<off+len*i.size
      ·rw[ag (by omega)]
       rw[kh (by omega)]at hk
       exact hk
      ·rw[iQ (by omega),uq]at hk
       have:=(ck.1 hk).1
       rw[ah (by omega)]
       exact hk))
     (fun k hk=>setRow_other w b k _ hk) (setRow_heap w b c _ T _ kL) rfl rfl rfl (by simp)
    unfold wq
    rw[hr]
    refine dc _ _ _ F _ s1 (s2.perm ?_) ?_ xK
    ·have:=yp (σ.set jj (b,cs.take (off+len*i.size)++new)) jj (b,cs.take (off+len*i.size)++new) (by simp[ab])
     rw[Pn]at this
     exact this
    ·exact .af _ _ _ _ _ _ ⟨_,T,(0,0),setRow_heap w b c _ T _ kL,by omega,m3,.inl ⟨rfl,by simp only[qc];rw[hlen];omega⟩⟩
   ·subst ig;subst ik
    obtain rfl:n=0:=by omega
    have vt:news=[]:=List.length_eq_zero_iff.1 (by rw[src.newsLen];simp)
    subst vt
    rw[← hs]at src
    have ib:new=[]:=List.length_eq_zero_iff.1 (by simpa using q1)
    subst ib
    have hr:=tg (η:=a.eval) ho (by rw[hv];exact run_append_nothing w t t' o.type e j hd hj (some ad) 0 0 (aR _) _ src)
    unfold wq
    rw[hr]
    have oo:bf F w ((b,cs)::σ.eraseIdx jj):=aE.perm (yp σ jj (b,cs) sY)
    have g0:K (.af b off 0 i.size) ((b,cs.take off)::σ.eraseIdx jj):=by simpa using xK
    refine dc _ _ ((b,cs.take off)::σ.eraseIdx jj) F w (.refl _ _) ⟨oo.nodup,fun p hp=>?_,oo.low⟩ (.af b off 0 i.size ad 0 ⟨c,T,(0,0),kL,aR _,by unfold maxLen;omega,.inr ⟨ur,s7,rfl,rfl⟩⟩) g0
    rcases dA.1 hp with rfl | hp
    ·exact⟨hF,.inl ⟨c,T,kL,by simp only[qb];omega,fun k x h=>by
      rw[qZ]at h
      split at h
      ·exact IG k x h
      ·cases h⟩⟩
    ·exact oo.holds p (cQ _ hp)
  ·obtain⟨olds,o1,o2,o3⟩:∃olds:List Value,olds.length=len*i.size∧(Builtin.firstCells i.size len (.slice (some ad) len cap)).run P w.drew=.ok olds.toArray w.drew∧∀(k:Nat) (x:AV),((cs.drop off).take (len*i.size))[k]?=some x→x.leaf=true∧aA F w x (olds.getD k undef):=by
    rcases m4 with ⟨rfl,pR⟩ | ⟨ur,s7,rfl,rfl⟩
    ·have dV:At F w b off ((cs.drop off).take (len*i.size)):=by
      have:=aE.at_ sY ⟨_,_,_,kL⟩
      intro k x hx
      rw[qZ]at hx
      split at hx
      ·rw[zX]at hx
       have h5:=this (off+k) x hx
       simpa only [dM]using h5
      ·cases hx
     obtain⟨olds,n1,n2,n3,n4⟩:=DD dV
     refine⟨olds,by rw[n1,NP],run_firstCells_some w.drew i.size len _ len cap olds (by rw[n1,NP]) (fun k u hk=>?_),n3⟩
     rw[po]
     exact n2 k u hk
    ·exact⟨[],by simp,run_firstCells_some w.drew i.size 0 ad 0 0 [] (by simp) (fun j u h=>by simp at h),fun k x h=>by simp at h⟩
   have mz:news.length=n*i.size:=src.newsLen
   rw[← hs]at src
   have zd:=run_append_grow_src (P:=P) w t t' o.type e j z hd hj hz (some ad) len cap olds (by rw[hs];exact o2) _ n news src (by omega) (by omega) (growslice_fits (by omega) (fits (by omega) zP))
   have aq:=grownCap_ge w (len+n) cap e
   have wx:=grownCap_le_maxLen w (len+n) cap e (by unfold maxLen;omega)
   obtain⟨g1,g2,g3⟩:=GI mn (e:=e) (i:=i) (z:=z) (olds:=olds) (co:=(cs.drop off).take (len*i.size)) (news:=news) (cn:=new) (len:=len) (n:=n) (cap:=grownCap w (len+n) cap e) (by rw[NP,o1]) q1 o3 q2 o1 mz jy aq wx
   have hr:=tg (η:=a.eval) ho (by rw[hv];exact zd)
   unfold wq
   rw[hr]
   exact dc _ _ _ F _ g1 g2 g3 (go w.heap.size)
theorem Xk(w:World)(t t' ty e:TypeId)(k:IntKind)(i:TypeInfo)(z:Value)(hd:P.underlying t=some (.slice e))(kf:P.underlying t'=some (.int k))(hi:P.info? e=some i)(hz:i.zero=some z)(k':IntKind)(m:Nat)(h0:0<m)(hm:m≤1048576)(hb:m*i.bytes≤140737488355328)(hs:0<i.size):
  (Builtin.append_ #[t,t'] ty #[.slice none 0 0,.int k' (m:Int)]).run P w=.ok (.slice (some ⟨w.heap.size,0,none⟩) m (grownCap w m 0 e)) (w.drew.alloc (.cells (([]++(Builtin.zeroCells z.cells m).toList).toArray++Builtin.zeroCells z.cells (grownCap w m 0 e-m)) e)):=by
 have hw:IntKind.i64.wrap (m:Int)=m:=by rw[IntKind.wrap_i64];omega
 have h1:¬((m:Int)<0):=by omega
 have h2:¬((281474976710656:Int)<(m:Int)*(i.bytes:Int)):=by
  have:((m*i.bytes:Nat):Int)≤140737488355328:=by omega
  rw[Cb]at this;omega
 have h3:¬(9223372036854775807<(m:Int)):=by omega
 have h4:¬(281474976710656<Builtin.nextslicecap m 0*i.bytes):=by rw[nextslicecap_zero h0];omega
 have h5:m≠0:=by omega
 have h6:i.size≠0:=by omega
 simp[Builtin.append_,run_underlying hd,run_underlying kf,sizeOf,typeInfo,zeroValue,hi,hz,asInt,asIntOf,hw,h1,h2,h3,h4,h5,Question.forced,run_firstCells_none,newRow,grownCap]
 intro h7
 exact absurd h7 (Nat.mul_ne_zero h5 h6)
theorem XD(ok:dH P TT){o:Oper}{s x:Operand}{t t' e:TypeId}{k:IntKind}(ho:o.op=.call ⟨.builtin .append,#[s,x],#[t,t']⟩){ρ:Operand→AV}{σ:Hp}{K:AV→Hp→Prop}{it sQ i:TI}(ht:TT t=some it)(hk:it.k=.slice e)(nM:TT t'=some sQ)(eQ:sQ.k=.int k)(hi:TT e=some i)
  (h:DG i σ (ρ s) (ρ x) K):j0 P o ρ σ K:=by
 intro a F w hx aE next Q dc
 obtain⟨_,d,_,_,hd,_,_,jQ,_,_⟩:=dB ok ht
 rw[hk]at jQ
 obtain rfl:=jV jQ
 obtain⟨_,d',_,_,kf,_,_,xH,_,_⟩:=dB ok nM
 rw[eQ]at xH
 obtain rfl:=fits_int xH
 obtain⟨j,dj,z,hj,OM,hs,⟨hb,oR⟩,_,hz,ic⟩:=dB ok hi
 have jy:z.cells.size=i.size:=by have:=(w5 (F:=F) (w:=w) ic).1;omega
 have a1:=hx s (by simp[ho,Op.operands,Call.operands])
 have a2:=hx x (by simp[ho,Op.operands,Call.operands])
 cases h with
 |ai k2 n iC E2 hn zP h0 go same=>
  rw[iC]at a1
  rw[E2]at a2
  have e1:a.eval s=.slice none 0 0:=by revert a1;generalize a.eval s=u;intro a1;cases a1;rfl
  have e2:a.eval x=.int k2 n:=a2.gB
  by_cases e8:n=0
  ·subst e8
   have EB:(Builtin.append_ #[t,t'] o.type #[.slice none 0 0,.int k2 0]).run P w=.ok (.slice none 0 0) w:=by
    have hw:IntKind.i64.wrap 0=0:=by decide
    simp[Builtin.append_,run_underlying hd,run_underlying kf,sizeOf,typeInfo,hj,asInt,asIntOf,hw]
   have hr:=tg (η:=a.eval) ho (by rw[e1,e2];exact EB)
   unfold wq
   rw[hr]
   exact dc _ _ σ F w (.refl _ _) aE .ai (same rfl)
  ·obtain⟨m,rfl⟩:∃m:Nat,n=m:=⟨n.toNat,by omega⟩
   have Jt:0<m:=by omega
   have hmul:m*j.bytes≤140737488355328:=by
    rw[hb]
    have:m*i.bytes≤1048576*1024:=uA (by omega) zP
    omega
   have zd:=Xk (P:=P) w t t' o.type e k j z hd kf hj hz k2 m Jt (by omega) hmul (by omega)
   have aq:=grownCap_ge w m 0 e
   have wx:=grownCap_le_maxLen w m 0 e (by unfold maxLen;omega)
   obtain⟨r1,r2⟩:=GX (F:=F) (w:=w) ic (aR m)
   have lI:(madeCells z.cells (m*i.zero.length))=Builtin.zeroCells z.cells m:=by
    unfold madeCells Builtin.zeroCells
    rw[jy,oR]
   have eC:(Builtin.zeroCells z.cells m).size=m*i.zero.length:=by rw[← lI,size_madeCells]
   obtain⟨g1,g2,g3⟩:=GI aE (e:=e) (i:=i) (z:=z) (olds:=[]) (co:=[]) (news:=(Builtin.zeroCells z.cells m).toList) (cn:=cJ i.zero m) (len:=0) (n:=m) (cap:=grownCap w m 0 e) rfl (by rw[wQ,Array.length_toList,eC]) (fun i x h=>by simp at h) (fun k y hk=>by
    have:=r2 k y hk
    rw[lI]at this
    rw[aW,Cn,← gW]
    exact this) (by simp) (by rw[Array.length_toList,eC,oR]) jy (by rw[Nat.zero_add];exact aq) wx
   rw[dM]at g1 g2 g3
   have hr:=tg (η:=a.eval) ho (by rw[e1,e2];exact zd)
   unfold wq
   rw[hr]
   exact dc _ _ _ F _ g1 g2 g3 (go (by omega) w.heap.size)
theorem XP(ok:dH P TT){o:Oper}{s x:Operand}{t t' e e':TypeId}(ho:o.op=.call ⟨.builtin .append,#[s,x],#[t,t']⟩){ρ:Operand→AV}{σ:Hp}{K:AV→Hp→Prop}{it sQ i:TI}(ht:TT t=some it)(hk:it.k=.slice e)(nM:TT t'=some sQ)(eQ:sQ.k=.slice e')(hi:TT e=some i)
  (h:AppendAt i σ (ρ s) (ρ x) K):j0 P o ρ σ K:=by
 cases h with
 |fresh n new hs hx hn hb h0 go same=>exact F9 ok ho ht hk nM eQ hi (.fresh n new hs hx hn hb h0 go same)
 |more j b len n cs new hs h1 h2 hx hn hb h0 go=>exact F9 ok ho ht hk nM eQ hi (.more j b len n cs new hs h1 h2 hx hn hb h0 go)
 |Bc j b off len n cs new hs h1 h2 hx hn hb h0 xK go=>exact F9 ok ho ht hk nM eQ hi (.Bc j b off len n cs new hs h1 h2 hx hn hb h0 xK go)
 |perm K2 hp h ec=>
  have:=F9 ok ho ht hk nM eQ hi h
  intro a F w hx aE next Q hn
  refine this a F w hx (aE.perm hp) next Q (fun v av σ' F' w' h1 h2 h3 h4=>?_)
  obtain⟨zA,p,k | ⟨hl,k⟩⟩:=ec av σ' h4
  ·exact hn v av zA F' w' h1 (h2.perm p) h3 k
  ·exact hn v _ zA F' w' h1 (h2.perm p) (.via _ _ hl h3) k
end
section
variable {P:Program} {TT:TypeId→Option TI} {F:Nat→Prop} {w:World}
theorem Lj{σ:Hp}(aE:bf F w σ){j b off:Nat}{cs:List AV}(h1:σ[j]?=some (b,cs))(OQ:ob w b)(xs:List AV)(news:List Value)(hl:xs.length=news.length)(hle:off+xs.length≤cs.length)(hv:∀(k:Nat) (y:AV),xs[k]?=some y→y.leaf=true∧aA F w y (news.getD k undef)):
  ∃w',(storeCells ⟨b,off,none⟩ news).run P w=.ok () w'∧bB F w F w'∧bf F w' (σ.set j (b,fL cs off xs)):=by
 obtain⟨hF,c,T,hc,ef,pZ⟩:=(aE.holds _ (cu h1)).cells OQ
 have ef:cs.length≤c.size:=ef
 have oG:∀u∈news,u.oneCell'=true:=by
  intro u hu
  obtain⟨k,hk⟩:=sh.1 hu
  have ab:k<news.length:=(ck.1 hk).1
  obtain⟨h3,h4⟩:=hv k (xs[k]'(by omega)) (by simp)
  have:=h4.one h3
  rwa [aW,hk]at this
 have an:=run_storeCells_at (P:=P) b off T news 0 c w hc (by omega) oG
 simp only[wE]at an
 have hlen:(c.toList.take off++news++c.toList.drop (off+news.length)).length=c.size:=by simp;omega
 obtain⟨s1,s2⟩:=Aq aE h1 (cs':=fL cs off xs) hc (c':=(c.toList.take off++news++c.toList.drop (off+news.length)).toArray) (by simp only[qc];exact hlen) (by rw[Ab];simp only[qc];omega)
  (GY (xs:=xs) pZ hl hv (by omega) (by rw[Ab];omega) (fun k y hk=>by rw[KJ _ _ _ _ (by omega)]at hk;exact hk))
  (fun k hk=>setRow_other w b k _ hk) (setRow_heap w b c _ T _ hc) rfl rfl rfl (by simp)
 exact⟨_,an,s1,s2⟩
theorem P1{η:Operand→Value}{o:Oper}{s:Operand}{t:TypeId}(ho:o.op=.call ⟨.builtin .clear,#[s],#[t]⟩){v:Value}{w w':World}(h:(Builtin.clear_ #[t] o.type #[η s]).run P w=.ok v w'):(execOp η o).run P w=.ok (.value v) w':=by
 rw[tz _ _ _ o ho]
 simp[builtin,h]
theorem CA{η:Operand→Value}{o:Oper}{d x:Operand}{t t':TypeId}(ho:o.op=.call ⟨.builtin .copy,#[d,x],#[t,t']⟩){v:Value}{w w':World}(h:(Builtin.copy_ #[t,t'] o.type #[η d,η x]).run P w=.ok v w'):(execOp η o).run P w=.ok (.value v) w':=by
 rw[tz _ _ _ o ho]
 simp[builtin,h]
theorem Ly{σ:Hp}{j:Nat}{p:Nat×List AV}(h:σ[j]?=some p):σ.set j p=σ:=by
 obtain⟨h1,h2⟩:=ck.1 h
 subst h2
 exact List.set_getElem_self h1
theorem Ys(ok:dH P TT){o:Oper}{s:Operand}{t e:TypeId}(ho:o.op=.call ⟨.builtin .clear,#[s],#[t]⟩){ρ:Operand→AV}{σ:Hp}{K:AV→Hp→Prop}{it i:TI}(ht:TT t=some it)(hk:it.k=.slice e)(hi:TT e=some i)(h:MA i σ (ρ s) (fun σ'=>K (.tup []) σ')):j0 P o ρ σ K:=by
 intro a F w hx aE next Q dc
 obtain⟨_,d,_,_,hd,_,_,jQ,_,_⟩:=dB ok ht
 rw[hk]at jQ
 obtain rfl:=jV jQ
 obtain⟨j,dj,z,hj,OM,hs,⟨hb,oR⟩,_,hz,ic⟩:=dB ok hi
 have a1:=hx s (by simp[ho,Op.operands,Call.operands])
 have e0:∀(ad:Option Addr) (c:Nat),(Builtin.clear_ #[t] o.type #[.slice ad 0 c]).run P w=.ok (.tuple #[]) w:=fun ad c=>by
  cases ad <;> simp[Builtin.clear_,run_underlying hd]
 have done:∀(ad:Option Addr) (c:Nat),a.eval s=.slice ad 0 c→K (.tup []) σ→wq P o a w next Q:=fun ad c hv hK=>by
  unfold wq
  rw[P1 (η:=a.eval) ho (by rw[hv];exact e0 ad c)]
  exact dc (.tuple #[]) _ σ F w (.refl _ _) aE (.tup _ _ rfl (fun i x h=>by simp at h)) hK
 cases h with
 |none hs go=>
  rcases hs with hs | hs | hs
  ·rw[hs]at a1;generalize hv:a.eval s=v at a1;cases a1;exact done _ _ hv go
  ·rw[hs]at a1;generalize hv:a.eval s=v at a1;cases a1;exact done _ _ hv go
  ·rw[hs]at a1;generalize hv:a.eval s=v at a1;cases a1;exact done _ _ hv go
 |af j' b off len cs qR h1 h2 go=>
  rw[qR]at a1
  obtain⟨ad,cap,hv,c,T,fz,m1,m2,m3,m4⟩:=a1.kV
  by_cases ig:len=0
  ·subst ig
   refine done _ _ hv ?_
   have e:fL cs off (cJ i.zero 0)=cs:=rfl
   rw[e,Ly h1]at go
   exact go
  ·obtain⟨rfl,_⟩:ad=⟨b,off,none⟩∧off+cap*i.size≤c.size:=by
    rcases m4 with h | ⟨_,_,h,_⟩
    ·exact h
    ·exact absurd h ig
   obtain⟨r1,r2⟩:=GX (F:=F) (w:=w) ic (aR len)
   have ahK:z.cells.size=i.zero.length:=((w5 (F:=F) (w:=w) ic).1).symm
   have lI:(madeCells z.cells (len*i.zero.length))=Builtin.zeroCells z.cells len:=by
    unfold madeCells Builtin.zeroCells
    rw[ahK]
   have eC:(Builtin.zeroCells z.cells len).size=len*i.zero.length:=by rw[← lI,size_madeCells]
   obtain⟨w',k1,k2,k3⟩:=Lj (P:=P) aE h1 (off:=off) ⟨_,_,_,m1⟩ (cJ i.zero len) (Builtin.zeroCells z.cells len).toList (by rw[wQ,Py,eC]) (by rw[wQ,oR];exact h2) (fun k y hk=>by
    have:=r2 k y hk
    rw[lI]at this
    refine⟨this.1,?_⟩
    rw[aW,Cn,← gW]
    exact this.2)
   obtain⟨len,rfl⟩:∃m,len=m+1:=⟨len-1,by omega⟩
   have fG:(Builtin.clear_ #[t] o.type #[.slice (some ⟨b,off,none⟩) (len+1) cap]).run P w=.ok (.tuple #[]) w':=by
    simp[Builtin.clear_,run_underlying hd,zeroValue,typeInfo,hj,hz,k1]
   unfold wq
   rw[P1 (η:=a.eval) ho (by rw[hv];exact fG)]
   exact dc (.tuple #[]) _ _ F w' k2 k3 (.tup _ _ rfl (fun i x h=>by simp at h)) go
theorem Zl(ok:dH P TT){o:Oper}{d x:Operand}{t t' e e':TypeId}(ho:o.op=.call ⟨.builtin .copy,#[d,x],#[t,t']⟩){ρ:Operand→AV}{σ:Hp}{K:AV→Hp→Prop}{it sQ i:TI}(ht:TT t=some it)(hk:it.k=.slice e)(nM:TT t'=some sQ)(eQ:sQ.k=.slice e')(hi:TT e=some i)
  (h:M5 i σ (ρ d) (ρ x) K):j0 P o ρ σ K:=by
 intro a F w hx aE next Q dc
 obtain⟨_,dd,_,_,hd,_,_,jQ,_,_⟩:=dB ok ht
 rw[hk]at jQ
 obtain rfl:=jV jQ
 obtain⟨_,d',_,_,kf,_,_,xH,_,_⟩:=dB ok nM
 rw[eQ]at xH
 obtain rfl:=jV xH
 obtain⟨j,dj,z,hj,OM,hs,_⟩:=dB ok hi
 have a1:=hx d (by simp[ho,Op.operands,Call.operands])
 have a2:=hx x (by simp[ho,Op.operands,Call.operands])
 cases h with
 |none new mA vE go=>
  obtain⟨news,src,q1,q2⟩:=CS (P:=P) vE aE a2 kf
  have vt:news=[]:=List.length_eq_zero_iff.1 (by rw[src.newsLen];simp)
  subst vt
  rw[← hs]at src
  obtain⟨ad,c,hv⟩:∃ad c,a.eval d=.slice ad 0 c:=by
   rcases mA with mA | mA | mA
   ·rw[mA]at a1;generalize a.eval d=v at a1;cases a1;exact⟨_,_,rfl⟩
   ·rw[mA]at a1;generalize a.eval d=v at a1;cases a1;exact⟨_,_,rfl⟩
   ·rw[mA]at a1;generalize a.eval d=v at a1;cases a1;exact⟨_,_,rfl⟩
  have fG:(Builtin.copy_ #[t,t'] o.type #[.slice ad 0 c,a.eval x]).run P w=.ok (goInt 0) w:=by
   cases ad <;> simp[Builtin.copy_,run_underlying hd,src.len,sizeOf,typeInfo,hj,src.cells,storeCells]
  unfold wq
  rw[CA (η:=a.eval) ho (by rw[hv];exact fG)]
  exact dc _ _ σ F w (.refl _ _) aE (.int _ _) go
 |af jj b off len n cs new OL h1 h2 vE hn go=>
  obtain⟨news,src,q1,q2⟩:=CS (P:=P) vE aE a2 kf
  rw[OL]at a1
  obtain⟨ad,cap,hv,c,T,fz,m1,m2,m3,m4⟩:=a1.kV
  have mz:news.length=n*i.size:=src.newsLen
  have hmul:n*i.size≤len*i.size:=kg _ hn
  rw[← hs]at src
  by_cases ig:len=0
  ·obtain rfl:n=0:=by omega
   have vt:news=[]:=List.length_eq_zero_iff.1 (by rw[mz];simp)
   subst vt
   have ib:new=[]:=List.length_eq_zero_iff.1 (by simpa using q1)
   subst ib
   subst ig
   have fG:(Builtin.copy_ #[t,t'] o.type #[.slice (some ad) 0 cap,a.eval x]).run P w=.ok (goInt 0) w:=by
    simp[Builtin.copy_,run_underlying hd,src.len,sizeOf,typeInfo,hj,src.cells,storeCells]
   unfold wq
   rw[CA (η:=a.eval) ho (by rw[hv];exact fG)]
   have e:fL cs off ([]:List AV)=cs:=rfl
   rw[e,Ly h1]at go
   exact dc _ _ σ F w (.refl _ _) aE (.int _ _) go
  ·obtain⟨rfl,_⟩:ad=⟨b,off,none⟩∧off+cap*i.size≤c.size:=by
    rcases m4 with h | ⟨_,_,h,_⟩
    ·exact h
    ·exact absurd h ig
   obtain⟨w',k1,k2,k3⟩:=Lj (P:=P) aE h1 (off:=off) ⟨_,_,_,m1⟩ new news q1 (by omega) q2
   have fG:(Builtin.copy_ #[t,t'] o.type #[.slice (some ⟨b,off,none⟩) len cap,a.eval x]).run P w=.ok (goInt n) w':=by
    simp[Builtin.copy_,run_underlying hd,src.len,sizeOf,typeInfo,hj,Nat.min_eq_left hn,src.cells,k1]
   unfold wq
   rw[CA (η:=a.eval) ho (by rw[hv];exact fG)]
   exact dc _ _ _ F w' k2 k3 (.int _ _) go
 |part jj b off len cs OL h1 h2 j2 b2 nA n kM hxm h3 h4 hn go=>
  rw[OL]at a1
  rw[hxm]at a2
  obtain⟨ad,cap,hv,c,T,fz,m1,m2,m3,m4⟩:=a1.kV
  obtain⟨a3,zw,hv3,c3,T3,Ko,p1,p2,p3,p4⟩:=a2.kV
  have hmul:len*i.size≤n*i.size:=kg _ hn
  by_cases ig:len=0
  ·subst ig
   have hc:(Builtin.firstCells i.size 0 (.slice (some a3) n zw)).run P w=.ok (([]:List Value).toArray) w:=run_firstCells_some w i.size 0 a3 n zw [] (by simp) (fun j u h=>by simp at h)
   rw[← hs]at hc
   have fG:(Builtin.copy_ #[t,t'] o.type #[.slice (some ad) 0 cap,.slice (some a3) n zw]).run P w=.ok (goInt 0) w:=by
    simp[Builtin.copy_,run_underlying hd,sizeOf,typeInfo,hj,Builtin.lenOf,hc,storeCells]
   unfold wq
   rw[CA (η:=a.eval) ho (by rw[hv,hv3];exact fG)]
   have e:fL cs off ((kM.drop nA).take (0*i.size))=cs:=by rw[yd];rfl
   rw[e,Ly h1]at go
   exact dc _ _ σ F w (.refl _ _) aE (.int _ _) go
  ·obtain⟨rfl,_⟩:ad=⟨b,off,none⟩∧off+cap*i.size≤c.size:=by
    rcases m4 with h | ⟨_,_,h,_⟩
    ·exact h
    ·exact absurd h ig
   obtain⟨rfl,_⟩:a3=⟨b2,nA,none⟩∧nA+zw*i.size≤c3.size:=by
    rcases p4 with h | ⟨_,_,h,_⟩
    ·exact h
    ·omega
   have dV:At F w b2 nA ((kM.drop nA).take (len*i.size)):=by
    have:=(aE.at_ h3 ⟨c3,T3,Ko,p1⟩).drop nA
    rw[dM]at this
    intro i x hx
    rw[qZ]at hx
    split at hx
    ·exact this i x hx
    ·cases hx
   have hl:((kM.drop nA).take (len*i.size)).length=len*i.size:=by simp;omega
   obtain⟨news,n1,n2,n3,n4⟩:=DD dV
   have hc:(Builtin.firstCells i.size len (.slice (some ⟨b2,nA,none⟩) n zw)).run P w=.ok news.toArray w:=run_firstCells_some w i.size len _ n zw news (by rw[n1,hl]) (fun j u hj=>by rw[po];exact n2 j u hj)
   rw[← hs]at hc
   obtain⟨w',k1,k2,k3⟩:=Lj (P:=P) aE h1 (off:=off) ⟨_,_,_,m1⟩ ((kM.drop nA).take (len*i.size)) news n1.symm (by rw[hl];exact h2) n3
   have fG:(Builtin.copy_ #[t,t'] o.type #[.slice (some ⟨b,off,none⟩) len cap,.slice (some ⟨b2,nA,none⟩) n zw]).run P w=.ok (goInt len) w':=by
    simp[Builtin.copy_,run_underlying hd,sizeOf,typeInfo,hj,Builtin.lenOf,Nat.min_eq_right hn,hc,k1]
   unfold wq
   rw[CA (η:=a.eval) ho (by rw[hv,hv3];exact fG)]
   exact dc _ _ _ F w' k2 k3 (.int _ _) go
end
section
variable {P:Program} {TT:TypeId→Option TI}
theorem Xp{F:Nat→Prop}{w:World}:∀(s:Sh) (d:s.T) (vs:List Value),vs.length=s.size→(∀(k:Nat) (x:AV),(s.cells d)[k]?=some x→aA F w x (vs.getD k undef))→kT F w s vs d:=by
 intro s
 induction s with
 |int k=>intro d vs hl h;match vs,hl with | [v],_=>have:=(h 0 _ rfl).gB;exact congrArg (fun x=>[x]) this
 |bool=>intro d vs hl h;match vs,hl with | [v],_=>have:=(h 0 _ rfl).rK;exact congrArg (fun x=>[x]) this
 |str=>intro d vs hl h;match vs,hl with | [v],_=>have:=(h 0 _ rfl).Eh;exact congrArg (fun x=>[x]) this
 |nil=>intro d vs hl h;exact iR.1 hl
 |slice e ih=>
  intro d vs hl h
  match vs,hl with
  | [v],_=>
   have:=h 0 _ rfl
   cases this with
   |ae _ _ _ h=>exact h
 |field f r qP jP=>
  intro d vs hl h
  simp only[Sh.size]at hl
  refine⟨vs.take f.size,vs.drop f.size,(List.take_append_drop _ _).symm,by simp;omega,qP d.1 _ (by simp;omega) (fun k x hk=>?_),jP d.2 _ (by simp;omega) (fun k x hk=>?_)⟩
  ·have sX:k<f.size:=by rw[← Sh.uJ f d.1];exact (ck.1 hk).1
   have:=h k x (by show (f.cells d.1++r.cells d.2)[k]?=some x;rw[kh (by rw[Sh.uJ];exact sX)];exact hk)
   rw[aW]at this ⊢
   rw[qZ,ah sX]
   exact this
  ·have:=h (f.size+k) x (by show (f.cells d.1++r.cells d.2)[f.size+k]?=some x;rw[iQ (by rw[Sh.uJ];omega),Sh.uJ,Ka];exact hk)
   rw[aW]at this ⊢
   rw[zX]
   exact this
theorem flat_get{α:Type}{f:α→List AV}{es:Nat}(hf:∀x,(f x).length=es):∀(l:List α) (i:Nat) (h:i<l.length) (k:Nat),k<es→(l.flatMap f)[i*es+k]?=(f l[i])[k]?
 | [],i,h,_,_=>by simp at h
 |y::l,0,h,k,hk=>by rw[List.flatMap_cons,List.getElem?_append_left (by rw[hf];omega)];simp
 |y::l,i+1,h,k,hk=>by
  rw[yh,iQ (by rw[hf,qa];omega),hf,show (i+1)*es+k-es=i*es+k by rw[qa];omega]
  simpa using flat_get hf l i (by simpa using h) k hk
theorem ack{F:Nat→Prop}{w:World}{σ:Hp}(aE:bf F w σ){j b off len es:Nat}{cs:List AV}{e:Sh}{l:List e.T}(h1:σ[j]?=some (b,cs))(h2:(cs.drop off).take (len*es)=l.flatMap e.cells)(h3:l.length=len∧e.size=es∧0<es){v:Value}(hv:aA F w (.af b off len es) v):
  aA (fun x=>F x∨x=b) w (.ae e l) v:=by
 obtain⟨hl,he,ua⟩:=h3
 have an:bB F w (fun x=>F x∨x=b) w:=⟨rfl,rfl,rfl,aR _,fun _ h=>.inl h,fun _ _=>rfl,fun _ c _ fz h=>⟨c,fz,h,rfl⟩,aR _⟩
 obtain⟨a,cap,rfl,c,T,fz,m1,m2,m3,m4⟩:=hv.kV
 subst hl
 refine .ae e l _ ⟨some a,cap,rfl,m2,m3,(fun e=>by cases e),fun aQ=>?_⟩
 have sW:0<l.length:=mB.2 aQ
 rcases m4 with ⟨rfl,pR⟩ | ⟨_,_,h0,_⟩
 ·refine⟨b,off,rfl,⟨.inr rfl,c,T,fz,m1⟩,fun i hi=>?_⟩
  have dV:At F w b off ((cs.drop off).take (l.length*es)):=by
   have:=(aE.at_ h1 ⟨c,T,fz,m1⟩).drop off
   rw[dM]at this
   intro i x hx
   rw[qZ]at hx
   split at hx
   ·exact this i x hx
   ·cases hx
  rw[h2]at dV
  have lI:∀k,k<es→∃x v,(e.cells l[i])[k]?=some x∧w.cell? ⟨b,off+i*es+k,none⟩=some v∧aA F w x v:=by
   intro k hk
   have hlen:k<(e.cells l[i]).length:=by rw[Sh.uJ,he];exact hk
   have hx:=bj hlen
   have:=flat_get (f:=e.cells) (es:=es) (fun d=>by rw[Sh.uJ,he]) l i hi k hk
   obtain⟨_,v,h4,h5⟩:=dV (i*es+k) _ (this.trans hx)
   exact⟨_,v,hx,by rw[← h4,go2],h5⟩
  refine⟨(List.range es).map fun k=>(w.cell? ⟨b,off+i*es+k,none⟩).getD undef,by simp[he],fun k u hk=>?_,Xp e l[i] _ (by simp[he]) (fun k x hk=>?_)⟩
  ·have Fc:k<es:=by have:=(List.getElem?_eq_some_iff.1 hk).1;simpa using this
   obtain⟨x,v,_,h4,_⟩:=lI k Fc
   simp[Fc,h4]at hk
   rw[he,h4,hk]
  ·have Fc:k<es:=by have:=(ck.1 hk).1;rw[Sh.uJ,he]at this;exact this
   obtain⟨x',v,h3,h4,h5⟩:=lI k Fc
   rw[h3]at hk
   cases hk
   have:aA F w x v:=h5
   simpa [List.getD,Fc,h4]using this.mono an
 ·omega
theorem yv{F F':Nat→Prop}{w:World}{b off len es:Nat}{e:Sh}{l:List e.T}(an:bB F w F' w)(hh:∀v,aA F w (.af b off len es) v→aA F' w (.ae e l) v){r r':AV}(h:eI b off len es e l r r'):∀v,aA F w r v→aA F' w r' v:=by
 induction h with
 |here=>exact hh
 |refl x=>exact fun v h=>h.mono an
 |tup xs ys h hi ih=>
  intro v hv
  cases hv with
  |tup _ vs hs hr=>
   refine .tup _ _ (by rw[← h];exact hs) (fun i y hy=>?_)
   have sZ:i<xs.length:=by rw[h];exact (ck.1 hy).1
   exact ih i xs[i] y (bj sZ) hy _ (hr i _ (bj sZ))
 |agg xs ys h hl hi ih=>
  intro v hv
  obtain⟨vs,rfl,hs,hr⟩:=hv.vL
  refine .agg _ _ (by rw[← h];exact hs) hl (fun i y hy=>?_)
  have sZ:i<xs.length:=by rw[h];exact (ck.1 hy).1
  exact ih i xs[i] y (bj sZ) hy _ (hr i _ (bj sZ)).2
 |nil e'=>
  intro v hv
  cases hv
  exact .ae e' [] _ ⟨none,0,rfl,aR _,by unfold maxLen;omega,fun _=>rfl,fun aQ=>absurd rfl aQ⟩
 |gH e'=>
  intro v hv
  cases hv with
  |gH a c h=>exact .ae e' [] _ ⟨some a,c,rfl,bE _,h,(fun e=>by cases e),fun aQ=>absurd rfl aQ⟩
 |via h ih=>
  intro v hv
  cases hv with
  |via _ _ _ hv=>exact ih v hv
theorem vd{F:Nat→Prop}{w:World}{σ:Hp}(aE:bf F w σ){j b off len es:Nat}{cs:List AV}{e:Sh}{l:List e.T}(h1:σ[j]?=some (b,cs))(h2:(cs.drop off).take (len*es)=l.flatMap e.cells)(h3:l.length=len∧e.size=es∧0<es):
  bB F w (fun x=>F x∨x=b) w∧bf (fun x=>F x∨x=b) w (σ.eraseIdx j)∧∀v,aA F w (.af b off len es) v→aA (fun x=>F x∨x=b) w (.ae e l) v:=by
 have an:bB F w (fun x=>F x∨x=b) w:=⟨rfl,rfl,rfl,aR _,fun _ h=>.inl h,fun _ _=>rfl,fun _ c _ fz h=>⟨c,fz,h,rfl⟩,aR _⟩
 have oo:bf F w ((b,cs)::σ.eraseIdx j):=aE.perm (yp σ j (b,cs) h1)
 have cf:=oo.nodup
 simp only[o0,lY]at cf
 have oE:bf (fun x=>F x∨x=b) w (σ.eraseIdx j):=⟨cf.2,fun p hp=>(oo.holds p (cQ _ hp)).mono an rfl (fun hF=>by
  rcases hF with hF | hF
  ·exact (oo.holds p (cQ _ hp)).1 hF
  ·exact cf.1 (dL.2 ⟨p,hp,hF⟩)),fun x hx=>by
  rcases hx with hx | hx
  ·exact aE.low x hx
  ·subst hx;exact (oo.holds (x,cs) (bU ..)).lt⟩
 exact⟨an,oE,fun v hv=>ack aE h1 h2 h3 hv⟩
end
section
variable {P:Program} {TT:TypeId→Option TI}
theorem KG{F:Nat→Prop}{w:World}{xs:Array Operand}{ρ:Operand→AV}{η:Operand→Value}(h:∀x∈xs.toList,aA F w (ρ x) (η x)):ja F w (xs.toList.map ρ) (xs.map η):=by
 refine⟨by simp,fun i x hi=>?_⟩
 simp only[fm,wL]at hi
 obtain⟨a,h1,rfl⟩:=hi
 have ab:i<xs.size:=by have:=(List.getElem?_eq_some_iff.1 h1).1;simpa using this
 have:xs[i]=a:=by simpa [ab]using h1
 simpa [Array.getD,ab,this]using h a (List.mem_of_getElem? h1)
theorem Ga{F:Nat→Prop}{w:World}{xs ys:List AV}{us vs:Array Value}(h:ja F w xs us)(k:ja F w ys vs):ja F w (xs++ys) (us++vs):=by
 refine⟨by simp[h.1,k.1],fun i x hi=>?_⟩
 rw[gW]
 by_cases ab:i<xs.length
 ·rw[kh ab]at hi
  rw[Km (by rw[← h.1];exact ab),← gW]
  exact h.2 i x hi
 ·rw[iQ (by omega)]at hi
  rw[Array.getElem?_append_right (by rw[← h.1];omega),← gW,← h.1]
  exact k.2 _ x hi
theorem Ri{F:Nat→Prop}{w:World}{x:AV}{v:Value}(h:aA F w x v):ja F w [x] #[v]:=⟨rfl,fun i y hi=>by cases i <;> simp at hi;subst hi;exact h⟩
theorem Gg{o:Oper}{ρ:Operand→AV}{σ:Hp}{K:AV→Hp→Prop}(h:j0 P o (fun x=>bP (ρ x)) σ K):j0 P o ρ σ K:=fun a F w hx=>h a F w (fun x hm=>(hx x hm).bP)
theorem Qa{o:Oper}{c:Call}(ho:o.op=.call c){ρ:Operand→AV}{K:FuncId→List AV→Prop}{KY:Nat→List AV→Prop}(h:qn P c ρ K KY):
  (∃l xs,KY l xs∧∀(η:Operand→Value) (F:Nat→Prop) (w:World),(∀x∈o.op.operands.toList,aA F w (ρ x) (η x))→∃vs,ja F w xs vs∧execOp η o=Instr.yield l vs)∨∃f xs,K f xs∧∀(η:Operand→Value) (F:Nat→Prop) (w:World),(∀x∈o.op.operands.toList,aA F w (ρ x) (η x))→∃vs,ja F w xs vs∧(Enters P f→(execOp η o).run P w=.ok (.enter f vs) w):=by
 unfold qn at h
 split at h
 ·rename_i f0 hc
  split at h
  ·rename_i g first cap hf
   refine .inr ⟨g,_,h,fun η F w hx=>?_⟩
   have h1:=hx f0 (by simp[ho,Op.operands,Call.operands,hc])
   rw[hf]at h1
   have h2:=KG (xs:=c.args) (ρ:=fun x=>bP (ρ x)) (η:=η) (F:=F) (w:=w) (fun x hm=>(hx x (by simp only[ho,Op.operands,Call.operands,hc,Cp,bR];exact .inr hm)).bP)
   cases hv:η f0 with
   |func f' v1 v2=>
    rw[hv]at h1
    obtain⟨rfl,r1,r2⟩:f'=.func g∧ja F w first v1∧ja F w cap v2:=by cases h1 with | fn _ _ _ _ _ fk gF h1 h2=>exact⟨rfl,⟨fk,h1⟩,⟨gF,h2⟩⟩
    refine⟨v1++c.args.map η++v2,Ga (Ga r1 h2) r2,fun he=>?_⟩
    simp only[execOp,ho,resolve,hc,Deferred.ofValue,hv,Sem.run_bind,Sem.run_pure,Result.andThen_ok,invoke]
    exact he _ _
   |_=>rw[hv]at h1;cases h1
  ·rename_i l hf
   refine .inl ⟨l,_,h,fun η F w hx=>?_⟩
   have h1:=hx f0 (by simp[ho,Op.operands,Call.operands,hc])
   rw[hf]at h1
   have h2:=KG (xs:=c.args) (ρ:=fun x=>bP (ρ x)) (η:=η) (F:=F) (w:=w) (fun x hm=>(hx x (by simp only[ho,Op.operands,Call.operands,hc,Cp,bR];exact .inr hm)).bP)
   cases hv:η f0 with
   |func f' v1 v2=>
    rw[hv]at h1
    obtain⟨rfl,r1,r2⟩:f'=.yield l∧v1 = #[]∧v2 = #[]:=by cases h1 with | fn _ _ _ _ _ fk gF h1 h2=>exact⟨rfl,FT.1 fk.symm,FT.1 gF.symm⟩
    subst r1 r2
    refine⟨c.args.map η,h2,?_⟩
    simp only[execOp,ho,resolve,hc,Deferred.ofValue,hv,pure_bind,invoke]
    simp
   |_=>rw[hv]at h1;cases h1
  ·exact h.elim
 ·rename_i r m hc
  have fin:∀(t:TypeId) (v:AV),ρ r=.iface t v→(∀F w u,aA F w v u→∃ad,u=.pointer (some ad))→InvAt P t m (fun g=>K g (v::c.args.toList.map fun x=>bP (ρ x)))→
    ∃f xs,K f xs∧∀(η:Operand→Value) (F:Nat→Prop) (w:World),(∀x∈o.op.operands.toList,aA F w (ρ x) (η x))→∃vs,ja F w xs vs∧(Enters P f→(execOp η o).run P w=.ok (.enter f vs) w):=by
   rintro t v hr hp ⟨g,hm,go⟩
   refine⟨g,_,go,fun η F w hx=>?_⟩
   have h1:=hx r (by simp[ho,Op.operands,Call.operands,hc])
   rw[hr]at h1
   have h2:=KG (xs:=c.args) (ρ:=fun x=>bP (ρ x)) (η:=η) (F:=F) (w:=w) (fun x hm=>(hx x (by simp only[ho,Op.operands,Call.operands,hc,Cp,bR];exact .inr hm)).bP)
   cases hv:η r with
   |iface t' u=>
    rw[hv]at h1
    obtain⟨rfl,hu⟩:t'=t∧aA F w v u:=by cases h1 with | iface _ _ _ h=>exact⟨rfl,h⟩
    obtain⟨ad,rfl⟩:=hp F w u hu
    refine⟨#[.pointer (some ad)]++c.args.map η,(show ja F w ([v]++c.args.toList.map fun x=>bP (ρ x)) _ from Ga (Ri hu) h2),fun he=>?_⟩
    have hex:(#[η r]++c.args.map η).extract 1 (#[η r]++c.args.map η).size=c.args.map η:=by
     apply Array.ext'
     simp
     exact List.take_of_length_le (by simp)
    have h0:(#[η r]++c.args.map η)[0]?=some (η r):=by rw[Array.getElem?_append_left (by simp)];rfl
    have hinv:invoke (.fn (.method m) #[]) (#[η r]++c.args.map η)=callMethod (η r) m (c.args.map η):=by
     unfold invoke
     simp only[h0]
     exact congrArg (callMethod (η r) m) hex
    have wx:(callMethod (η r) m (c.args.map η)).run P w=.ok (.enter g (#[.pointer (some ad)]++c.args.map η)) w:=by
     rw[hv]
     unfold callMethod
     have aS:=hm ad w
     simp only[Sem.run_bind,run_program,Result.andThen_ok,aS]
     exact he _ _
    simp only[execOp,ho,resolve,hc,Sem.run_bind,Sem.run_pure,Result.andThen_ok,hinv,wx]
   |_=>rw[hv]at h1;cases h1
  split at h
  ·rename_i t b o' hr
   exact .inr <| fin t _ hr (fun F w u hu=>⟨_,hu.zk⟩) h
  ·rename_i t cs hr
   exact .inr <| fin t _ hr (fun F w u hu=>by obtain⟨b,o',e,_⟩:=hu.yP;exact⟨_,e⟩) h
  ·exact h.elim
 ·exact h.elim
theorem Dc{F F':Nat→Prop}{w:World}{σ:Hp}(aE:bf F' w σ){b off len es:Nat}{e:Sh}{l:List e.T}(hh:∀v,aA F w (.af b off len es) v→aA F' w (.ae e l) v){i k b':Nat}{cs:List AV}(hi:σ[i]?=some (b',cs))(hk:cs[k]?=some (.af b off len es)):bf F' w (σ.set i (b',cs.set k (.ae e l))):=by
 have ab:i<σ.length:=(ck.1 hi).1
 have D2:(σ.set i (b',cs.set k (.ae e l))).map Prod.fst=σ.map Prod.fst:=by
  rw[nU]
  apply zU
  intro n
  rw[e9]
  split
  ·rename_i e;subst e
   have:=(ck.1 hi).2
   simp[ab,this]
  ·rfl
 refine⟨D2▸aE.nodup,fun p hm=>?_,aE.low⟩
 rcases q9 hm with hm | rfl
 ·exact aE.holds p hm
 ·obtain⟨hF,c,T,h1,h2,h3⟩:=(aE.holds _ (cu hi)).Nd hk rfl
  refine⟨hF,.inl ⟨c,T,h1,by simpa using h2,fun n x hn=>?_⟩⟩
  rw[e9]at hn
  split at hn
  ·rename_i e;subst e
   split at hn
   ·cases hn
    refine⟨rfl,hh _ ?_⟩
    have:=(h3 k _ hk).2
    revert this
    generalize c.getD k undef=v
    intro this
    cases this with
    |af _ _ _ _ a cap h=>exact .af _ _ _ _ a cap h
   ·cases hn
  ·exact h3 n x hn
theorem yF{f:FuncId}{xs:List AV}{σ:Hp}{K:AV→Hp→Prop}(h:CallAt P f K xs σ):ACalls P f xs σ K:=by
 induction h with
 |mk js R call go=>
  obtain⟨oH,gP⟩:=call
  refine⟨oH,fun F w vs bN aE=>(gP F w vs bN (aE.perm (yB js _))).mono ?_⟩
  rintro e w' ⟨r,v,σ',F',rfl,h1,h2,h3,h4⟩
  exact⟨r,v,σ',F',rfl,h1,h2,h3,go r σ' h4⟩
 |perm R hp call go=>
  obtain⟨oH,gP⟩:=call
  refine⟨oH,fun F w vs bN aE=>(gP F w vs bN (aE.perm hp)).mono ?_⟩
  rintro e w' ⟨r,v,σ',F',rfl,h1,h2,h3,h4⟩
  obtain⟨ep,k1,k2⟩:=go r σ' h4
  exact⟨r,v,ep,F',rfl,h1,h2.perm k1,h3,k2⟩
 |j6 j b off len es cs e l h1 h2 h3 i k b' cs' hi hk h ih=>
  obtain⟨oH,gP⟩:=ih
  refine⟨oH,fun F w vs bN aE =>?_⟩
  obtain⟨an,oE,hh⟩:=vd aE h1 h2 h3
  refine (gP _ w vs (bN.mono an) (Dc oE hh hi hk)).mono ?_
  rintro e w' ⟨r,v,σ',F',rfl,q1,q2,q3,q4⟩
  exact⟨r,v,σ',F',rfl,an.trans q1,q2,q3,q4⟩
 |cX j b off len es cs e l h1 h2 h3 h4 h ih=>
  obtain⟨oH,gP⟩:=ih
  refine⟨oH,fun F w vs bN aE =>?_⟩
  obtain⟨an,oE,hh⟩:=vd aE h1 h2 h3
  have hv:=yv an hh h4 (.tuple vs) (.tup _ _ bN.1 bN.2)
  cases hv with
  |tup _ _ hs hr=>
   refine (gP _ w vs ⟨hs,hr⟩ oE).mono ?_
   rintro e w' ⟨r,v,σ',F',rfl,h1,h2,h3,h4⟩
   exact⟨r,v,σ',F',rfl,an.trans h1,h2,h3,h4⟩
theorem XO{o:Oper}{c:Call}(ho:o.op=.call c){ρ:Operand→AV}{σ:Hp}{K:AV→Hp→Prop}(h:qn P c ρ (fun f xs=>CallAt P f K xs σ) (fun l xs=>xn P l K xs σ)):j0 P o ρ σ K:=by
 rcases Qa ho h with ⟨l,xs,hc,fG⟩ | ⟨f,xs,hc,fG⟩
 ·intro a F w hx aE next Q hn
  obtain⟨vs,bN,hr⟩:=fG a.eval F w hx
  unfold wq
  rw[hr]
  cases hc with
  |mk js R call go=>
   obtain⟨f,tmps,assign,body,h1,h2⟩:=call F w vs bN (aE.perm (yB js σ))
   rw[h1]
   refine RoundIn.mono h2 ?_
   rintro e w' ⟨r,v,σ',F',rfl,h1,h2,h3,h4⟩
   exact⟨v,rfl,hn v r σ' F' w' h1 h2 h3 (go _ _ h4)⟩
  |perm R hp call go=>
   obtain⟨f,tmps,assign,body,h1,h2⟩:=call F w vs bN (aE.perm hp)
   rw[h1]
   refine RoundIn.mono h2 ?_
   rintro e w' ⟨r,v,σ',F',rfl,h1,h2,h3,h4⟩
   obtain⟨ep,k1,k2⟩:=go _ _ h4
   exact⟨v,rfl,hn v r ep F' w' h1 (h2.perm k1) h3 k2⟩
 obtain⟨oH,gP⟩:=yF hc
 intro a F w hx aE next Q hn
 obtain⟨vs,bN,hr⟩:=fG a.eval F w hx
 unfold wq
 rw[hr oH]
 refine (gP F w vs bN aE).mono ?_
 rintro e w' ⟨r,v,σ',F',rfl,h1,h2,h3,h4⟩
 exact⟨v,rfl,hn v r σ' F' w' h1 h2 h3 h4⟩
theorem Xx{o:Oper}{t:TypeId}(ho:o.op=.makeMap t none){ρ:Operand→AV}{σ:Hp}{K:AV→Hp→Prop}(hk:∀b,K (.nD b) ((b,[.oy []])::σ)):j0 P o ρ σ K:=by
 intro a F w hx aE next Q hn
 have fG:(execOp a.eval o).run P w=.ok (.value (.map (some w.heap.size))) (w.alloc (.map #[] 0)):=by
  have e:(Instr.makeMap t none).run P w=.ok (.map (some w.heap.size)) (w.alloc (.map #[] 0)):=rfl
  simp[execOp,ho,e,Result.andThen]
 unfold wq
 rw[fG]
 have hold:∀b,b<w.heap.size→(w.alloc (.map #[] 0)).heap[b]?=w.heap[b]?:=fun b hb=>Below.heap_alloc _ _ b hb
 have an:bB F w F (w.alloc (.map #[] 0)):=yw aE.low rfl rfl rfl (by simp) hold
 have hr:=aE.same an hold
 have ib:(w.alloc (.map #[] 0)).heap[w.heap.size]?=some (.map #[] 0):=xb _ _
 refine hn _ (.nD w.heap.size) _ F _ an ⟨?_,fun p hm=>?_,hr.low⟩ (.nD _) (hk _)
 ·simp only[o0,lY]
  refine⟨fun hm=>?_,aE.nodup⟩
  obtain⟨p,hp,e⟩:=dL.1 hm
  have:=(aE.holds p hp).lt
  omega
 ·rcases dA.1 hm with rfl | hm
  ·exact⟨fun hF=>JJ _ (aE.low _ hF),.inr (.inl ⟨_,_,rfl,ib,rfl⟩)⟩
  ·exact hr.holds p hm
theorem QM{σ:Hp}{F:Nat→Prop}{w:World}(h:bf F w σ){j b:Nat}{x x':AV}{o o':Obj}(ho:xD x=some o)(gp:xD x'=some o')(hj:σ[j]?=some (b,[x])):
  bB F w F { w with heap:=w.heap.setIfInBounds b o' }∧bf F { w with heap:=w.heap.setIfInBounds b o' } (σ.set j (b,[x'])):=by
 obtain⟨hb,hc⟩:=(h.holds (b,[x]) (cu hj)).Iz ho
 have ab:j<σ.length:=(ck.1 hj).1
 obtain⟨Jf,hw⟩:=MapKept.heap_set (o':=o') hc
 have an:bB F w F { w with heap:=w.heap.setIfInBounds b o' }:=⟨rfl,rfl,rfl,by simp,fun _ h=>h,fun k hF=>hw k (fun e=>hb (e▸hF)),fun k d S fz hk=>by
  by_cases e:k=b
  ·subst e
   rw[hc]at hk
   cases hk
   exact (QS ho).elim
  ·exact⟨d,fz,(hw k e).trans hk,rfl⟩,aR _⟩
 have D2:(σ.set j (b,[x'])).map Prod.fst=σ.map Prod.fst:=by
  rw[nU]
  apply zU
  intro k
  rw[e9]
  split
  ·rename_i e;subst e
   simp[ab]
   have:=(ck.1 hj).2
   rw[this]
  ·rfl
 refine⟨an,⟨D2▸h.nodup,fun p hm=>?_,fun k hF=>by simpa using h.low k hF⟩⟩
 obtain⟨k,hk⟩:=sh.1 hm
 rw[e9]at hk
 split at hk
 ·rename_i e;subst e
  simp at hk
  obtain⟨_,rfl⟩:=hk
  exact⟨hb,.inr (.inl ⟨_,_,rfl,Jf,gp⟩)⟩
 ·rename_i aQ
  have aS:=cu hk
  have qU:p.1≠b:=fun e=>by
   have cf:=h.nodup
   have h1:(σ.map Prod.fst)[k]?=some b:=by rw[List.getElem?_map,hk];simp[e]
   have h2:(σ.map Prod.fst)[j]?=some b:=by rw[fm,hj];rfl
   have eQ:k<(σ.map Prod.fst).length:=(ck.1 h1).1
   have:=(List.getElem?_inj (i:=k) (j:=j) eQ cf).1 (h1.trans h2.symm)
   exact aQ this.symm
  exact (h.holds p aS).mono an (hw _ qU) (h.holds p aS).1
theorem YR{σ:Hp}{F:Nat→Prop}{w:World}(h:bf F w σ){j b:Nat}{l l':List (Int×Int)}(hj:σ[j]?=some (b,[.oy l])):
  bB F w F { w with heap:=w.heap.setIfInBounds b (.map (gk 0 l').toArray l'.length) }∧bf F { w with heap:=w.heap.setIfInBounds b (.map (gk 0 l').toArray l'.length) } (σ.set j (b,[.oy l'])):=QM h rfl rfl hj
theorem P6(ok:dH P TT){o:Oper}{t:TypeId}{m k x:Operand}(ho:o.op=.mapUpdate t m k x∨o.op=.insert t m k x){ρ:Operand→AV}{σ:Hp}{K:AV→Hp→Prop}(h:AK TT t (bP (ρ m)) (bP (ρ k)) (bP (ρ x)) σ K):j0 P o ρ σ K:=by
 intro a F w hx aE next Q hn
 unfold AK at h
 split at h
 ·rename_i z n v hz hk BP
  obtain⟨kt,et,h1,h2,h3⟩:=Lh ok hz
  obtain⟨j,b,l,hm,hj,go⟩:=h
  have zr:m∈o.op.operands.toList∧k∈o.op.operands.toList∧x∈o.op.operands.toList:=by rcases ho with ho | ho <;> simp[ho,Op.operands]
  have a1:=(hx m zr.1).bP
  rw[hm]at a1
  have a2:=(hx k zr.2.1).bP
  rw[hk]at a2
  have a3:=(hx x zr.2.2).bP
  rw[BP]at a3
  have e1:a.eval m=.map (some b):=a1.M9
  have e2:a.eval k=.int .i64 n:=a2.gB
  have e3:a.eval x=.int .i64 v:=a3.gB
  obtain⟨_,hb⟩:=(aE.holds _ (cu hj)).Ep
  have fG:(execOp a.eval o).run P w=.ok .skip { w with heap:=w.heap.setIfInBounds b (.map (gk 0 (rP l n v)).toArray (rP l n v).length) }:=by
   rcases ho with ho | ho <;> simp[execOp,ho,e1,e2,e3,X2 h1 h2 hb n v,Result.andThen]
  unfold wq
  rw[fG]
  obtain⟨s1,s2⟩:=YR aE (l':=rP l n v) hj
  exact hn undef .any _ F _ s1 s2 (.any _) go
 ·exact h.elim
theorem Lq:∀(l:List (Int×Int)) (m:Nat) (e:MapEntry),e∈gk m l→∃(i:Nat) (p:Int×Int),l[i]?=some p∧e = { key:=.int .i64 p.1,val:=.int .i64 p.2,born:=m+i }
 | [],_,_,h=>by cases h
 |p::l,m,e,h=>by
  rcases dA.1 h with rfl | h
  ·exact⟨0,p,rfl,rfl⟩
  ·obtain⟨i,q,h1,h2⟩:=Lq l (m+1) e h
   exact⟨i+1,q,h1,by rw[h2];simp only[MapEntry.mk.injEq,true_and];omega⟩
theorem SZ{l:List (Int×Int)}{m i:Nat}{p:Int×Int}(h:l[i]?=some p):({ key:=.int .i64 p.1,val:=.int .i64 p.2,born:=m+i }:MapEntry)∈gk m l:=
 cu (i:=i) (by rw[LL,h];rfl)
theorem Q7:∀(l:List (Int×Int)) (m:Nat),((gk m l).map (·.born)).Nodup∧∀x∈(gk m l).map (·.born),m≤x
 | [],_=>⟨Px,fun _ h=>by cases h⟩
 |p::l,m=>by
  obtain⟨h1,h2⟩:=Q7 l (m+1)
  refine⟨lY.2 ⟨fun hm=>?_,h1⟩,fun x hx=>?_⟩
  ·have:=h2 _ hm
   exact Nat.not_succ_le_self _ this
  ·rcases dA.1 hx with rfl | hx
   ·exact aR _
   ·exact Nat.le_of_succ_le (h2 _ hx)
theorem Xr(ok:dH P TT){o:Oper}{t:TypeId}{x:Operand}(ho:o.op=.range t x){ρ:Operand→AV}{σ:Hp}{K:AV→Hp→Prop}(h:HG TT t (bP (ρ x)) σ K):j0 P o ρ σ K:=by
 intro a F w hx aE next Q hn
 unfold HG at h
 split at h
 ·rename_i z hz
  obtain⟨kt,et,h1,h2,h3⟩:=Lh ok hz
  obtain⟨j,b,l,hm,hj,go⟩:=h
  have a1:=(hx x (by simp[ho,Op.operands])).bP
  rw[hm]at a1
  have e1:a.eval x=.map (some b):=a1.M9
  obtain⟨_,hb⟩:=(aE.holds _ (cu hj)).Ep
  have fG:(execOp a.eval o).run P w=.ok (.value (.pointer (some ⟨w.heap.size,0,none⟩))) (w.alloc (.mapIter (some b) l.length #[] l.length)):=by
   have e:=run_range_map (P:=P) w t kt et b _ _ h1 hb
   simp[execOp,ho,e1,e,Result.andThen]
  unfold wq
  rw[fG]
  have hold:∀k,k<w.heap.size→(w.alloc (.mapIter (some b) l.length #[] l.length)).heap[k]?=w.heap[k]?:=fun k hk=>Below.heap_alloc _ _ k hk
  have an:bB F w F (w.alloc (.mapIter (some b) l.length #[] l.length)):=yw aE.low rfl rfl rfl (by simp) hold
  have hr:=aE.same an hold
  have ib:(w.alloc (.mapIter (some b) l.length #[] l.length)).heap[w.heap.size]?=some (.mapIter (some b) l.length #[] l.length):=xb _ _
  refine hn _ (.nL w.heap.size) _ F _ an ⟨?_,fun p hm=>?_,hr.low⟩ (.nL _) (go _)
  ·simp only[o0,lY]
   refine⟨fun hm=>?_,aE.nodup⟩
   obtain⟨p,hp,e⟩:=dL.1 hm
   have:=(aE.holds p hp).lt
   omega
  ·rcases dA.1 hm with rfl | hm
   ·exact⟨fun hF=>JJ _ (aE.low _ hF),.inr (.inl ⟨_,_,rfl,ib,rfl⟩)⟩
   ·exact hr.holds p hm
 ·exact h.elim
theorem YS{σ:Hp}{F:Nat→Prop}{w:World}(h:bf F w σ):bB F w F w.drew∧bf F w.drew σ:=by
 have an:bB F w F w.drew:=⟨rfl,rfl,rfl,aR _,fun _ h=>h,fun _ _=>rfl,fun k d S fz hk=>⟨d,fz,hk,rfl⟩,Nat.le_succ _⟩
 exact⟨an,h.nodup,fun p hp=>(h.holds p hp).mono an rfl (h.holds p hp).1,h.low⟩
theorem Xw{o:Oper}{x:Operand}(ho:o.op=.next x false){ρ:Operand→AV}{σ:Hp}{K:AV→Hp→Prop}(h:M3 σ (bP (ρ x)) K):j0 P o ρ σ K:=by
 intro a F w hx aE next Q hn
 obtain⟨j,j2,r,b,l,seen,hm,h1,h2,stop,go⟩:=h
 have a1:=(hx x (by simp[ho,Op.operands])).bP
 rw[hm]at a1
 have e1:a.eval x=.pointer (some ⟨r,0,none⟩):=a1.WE
 obtain⟨_,hr⟩:=(aE.holds _ (cu h1)).Iz rfl
 obtain⟨_,hb⟩:=(aE.holds _ (cu h2)).Ep
 have ah2:∀x∈(gk 0 l).toArray.toList,x.born<l.length:=fun x hx=>by
  obtain⟨i,p,hi,rfl⟩:=Lq l 0 x hx
  show 0+i<_
  have:=(ck.1 hi).1
  omega
 unfold wq
 rcases run_next_at (P:=P) w o.type r b l.length l.length seen.toArray _ _ hr hb ah2 (aR _) with ⟨hz,fG⟩ | ⟨e,he,w1,hw1,fG⟩
 ·have D1:(execOp a.eval o).run P w=.ok (.value (.tuple #[.bool false])) w:=by simp[execOp,ho,e1,fG,Result.andThen]
  rw[D1]
  refine hn _ (.tup [.bool false]) σ F w (bB.refl _ _) aE (.tup _ _ rfl fun i y hy=>?_) (stop fun i hi=>?_)
  ·match i,hy with
   | 0,hy=>cases hy;exact .bool _
   |i+1,hy=>simp at hy
  ·have hz:leftOf (gk 0 l).toArray seen.toArray = #[]:=Kh hz
   unfold leftOf at hz
   rw[Array.filter_eq_empty_iff]at hz
   have:=hz _ (by simpa using SZ (m:=0) (List.getElem?_eq_getElem hi))
   simpa using this
 ·have D1:(execOp a.eval o).run P w=.ok (.value (.tuple #[.bool true,e.key,e.val])) (Go.ChangeMaps.setBlock w1 r (.mapIter (some b) l.length (seen.toArray.push e.born) l.length)):=by simp[execOp,ho,e1,fG,Result.andThen]
  rw[D1]
  unfold leftOf at he
  have he2:e∈gk 0 l∧e.born ∉ seen:=by simpa using he
  obtain⟨i,p,hi,rfl⟩:=Lq l 0 e he2.1
  have hns:i ∉ seen:=by simpa using he2.2
  have hw:bB F w F w1∧bf F w1 σ:=by
   rcases hw1 with rfl | rfl
   ·exact⟨bB.refl _ _,aE⟩
   ·exact YS aE
  obtain⟨s1,s2⟩:=QM (x':=.sF b l.length (seen++[i])) hw.2 rfl rfl h1
  have e2:(seen++[i]).toArray=seen.toArray.push (0+i):=by simp
  rw[e2]at s1 s2
  refine hn _ (.tup [.bool true,.int .i64 p.1,.int .i64 p.2]) _ F _ (hw.1.trans s1) s2 (.tup _ _ rfl fun k y hy=>?_) (go i p hi hns)
  match k,hy with
  | 0,hy=>cases hy;exact .bool _
  | 1,hy=>cases hy;exact .int _ _
  | 2,hy=>cases hy;exact .int _ _
  |k+3,hy=>simp at hy
theorem Xt{o:Oper}{x:Operand}(ho:o.op=.entry x){ρ:Operand→AV}{σ:Hp}{K:AV→Hp→Prop}(h:Mz σ (bP (ρ x)) K):j0 P o ρ σ K:=by
 intro a F w hx aE next Q hn
 obtain⟨j,j2,r,b,i,l,p,seen,hm,h1,h2,h3,go⟩:=h
 have a1:=(hx x (by simp[ho,Op.operands])).bP
 rw[hm]at a1
 have e1:a.eval x=.pointer (some ⟨r,0,none⟩):=a1.WE
 obtain⟨_,hr⟩:=(aE.holds _ (cu h1)).Iz rfl
 obtain⟨_,hb⟩:=(aE.holds _ (cu h2)).Ep
 have hr:w.heap[r]?=some (.mapIter (some b) l.length (seen.toArray.push (0+i)) l.length):=by
  rw[hr];simp
 have fG:=run_entry_at (P:=P) w r b l.length seen.toArray (gk 0 l).toArray l.length { key:=.int .i64 p.1,val:=.int .i64 p.2,born:=0+i } hr hb (by simpa using SZ (m:=0) h3) (by simpa using (Q7 l 0).1)
 have D1:(execOp a.eval o).run P w=.ok (.value (.tuple #[.int .i64 p.1,.int .i64 p.2])) w:=by simp[execOp,ho,e1,fG,Result.andThen]
 unfold wq
 rw[D1]
 refine hn _ (.tup [.int .i64 p.1,.int .i64 p.2]) σ F w (bB.refl _ _) aE (.tup _ _ rfl fun k y hy=>?_) go
 match k,hy with
 | 0,hy=>cases hy;exact .int _ _
 | 1,hy=>cases hy;exact .int _ _
 |k+2,hy=>simp at hy
theorem Ld(ok:dH P TT){o:Oper}{ρ:Operand→AV}{σ:Hp}{K:AV→Hp→Prop}(h:gU P TT o.op ρ σ K):j0 P o ρ σ K:=by
 have dd:fH P TT o.op ρ σ (fun v=>K v σ)→j0 P o ρ σ K:=fun h=>by
  obtain⟨v,h1,h2⟩:=Gy ok h
  exact Xy h2 h1
 generalize lT:o.op=op at h dd
 unfold gU at h
 split at h
 ·split at h
  ·rename_i cs hc;exact aaH lT hc h
  ·exact h.elim
 ·split at h
  ·rename_i i hi;exact Yx ok lT hi h
  ·exact h.elim
 ·split at h
  ·rename_i e sz ra z0 ht
   split at h
   ·rename_i i hi
    split at h
    ·rename_i cs hf fk gF
     exact Xl ok lT ht rfl hi hf (cR fk) (cR gF) h
    ·exact h.elim
   ·exact h.elim
  ·exact h.elim
 ·split at h
  ·rename_i e sz ra z0 k n k' m ht hl hc
   split at h
   ·rename_i i hi
    exact Xn ok lT ht rfl hi hl hc h.fact h.go
   ·exact h.elim
  ·exact h.elim
 ·split at h
  ·rename_i i hi
   split at h
   ·rename_i b off hp;exact XV ok lT hi hp h
   ·exact h.elim
  ·exact h.elim
 ·split at h
  ·exact Xx lT h
  ·exact h.elim
 ·exact P6 ok (.inl lT) h
 ·exact P6 ok (.inr lT) h
 ·exact Xr ok lT h
 ·split at h
  ·exact Xw lT h
  ·exact h.elim
 ·exact Xt lT h
 ·rename_i args cy
  split at h
  ·rename_i s x t t' Nn WJ
   obtain rfl:args = #[s,x]:=by cases args;simp_all
   obtain rfl:cy = #[t,t']:=by cases cy;simp_all
   split at h
   ·rename_i e s1 b1 z1 e' s2 b2 z2 ht nM
    split at h
    ·rename_i i hi;exact Gg (XP ok lT ht rfl nM rfl hi (ρ:=fun x=>bP (ρ x)) h)
    ·exact h.elim
   ·rename_i e s1 b1 z1 k' s2 b2 z2 ht nM
    split at h
    ·rename_i i hi;exact Gg (XD ok lT ht rfl nM rfl hi (ρ:=fun x=>bP (ρ x)) h)
    ·exact h.elim
   ·exact h.elim
  ·exact h.elim
 ·rename_i args cy
  split at h
  ·rename_i s t Nn WJ
   obtain rfl:args = #[s]:=by cases args;simp_all
   obtain rfl:cy = #[t]:=by cases cy;simp_all
   split at h
   ·rename_i e s1 b1 z1 ht
    split at h
    ·rename_i i hi;exact Gg (Ys ok lT ht rfl hi (ρ:=fun x=>bP (ρ x)) h)
    ·exact h.elim
   ·exact h.elim
  ·exact h.elim
 ·rename_i args cy
  split at h
  ·rename_i d x t t' Nn WJ
   obtain rfl:args = #[d,x]:=by cases args;simp_all
   obtain rfl:cy = #[t,t']:=by cases cy;simp_all
   split at h
   ·rename_i e s1 b1 z1 e' s2 b2 z2 ht nM
    split at h
    ·rename_i i hi;exact Gg (Zl ok lT ht rfl nM rfl hi (ρ:=fun x=>bP (ρ x)) h)
    ·exact h.elim
   ·exact h.elim
  ·exact h.elim
 ·exact dd h
 ·exact XO lT h
 ·exact dd h
def uc(F:Nat→Prop)(w:World)(t:Tm)(a:Act):Prop:=∀i,aA F w (t i) (a.tmps.getD i undef)
theorem uc.mono{F F':Nat→Prop}{w w':World}{t:Tm}{a:Act}(h:uc F w t a)(an:bB F w F' w'):uc F' w' t a:=fun i=>(h i).mono an
theorem uc.put{F:Nat→Prop}{w:World}{t:Tm}{a:Act}(h:uc F w t a){d:Option Tmp}{x:AV}{v:Value}(hx:aA F w x v)(hd:∀i,d=some i→i<a.tmps.size):uc F w (put t d x) (a.put d v):=by
 cases d with
 |none=>exact h
 |some d=>
  intro i
  show aA F w (match Nat.beq i d with | true=>x | false=>t i) ((a.tmps.setIfInBounds d v).getD i undef)
  have eF:=hd d rfl
  cases hb:Nat.beq i d with
  |true=>
   have:=jF hb
   subst this
   simpa [Array.getD,eF]using hx
  |false=>
   have aQ:d≠i:=fun e=>by subst e;rw[yb]at hb;cases hb
   have:=h i
   rw[gW]at this ⊢
   rw[Kj aQ]
   exact this
theorem pc{F:Nat→Prop}{w:World}(v:Value):aA F w (A0 v) v:=by
 cases v with
 |int k n=>exact .int _ _
 |bool b=>exact .bool _
 |string s=>exact .str _
 |pointer a=>cases a <;> first | exact .cU | exact .any _
 |slice a l c=>cases a <;> cases l <;> cases c <;> first | exact .ai | exact .any _
 |nilIface=>exact .nilif
 |nilFunc=>exact .iH
 |map a=>cases a <;> first | exact .pO | exact .any _
 |_=>exact .any _
theorem Tp{F:Nat→Prop}{w:World}{t:Tm}{a:Act}(x:Operand)(h:∀i,x=.tmp i→aA F w (t i) (a.tmps.getD i undef)):aA F w (ev t x) (a.eval x):=by
 cases x with
 |tmp i=>exact h i rfl
 |const v=>
  show aA F w (V4 v) v
  cases v with
  |agg cs=>
   show aA F w (match (cs.toList.map A0).all AV.leaf with | true=>.agg (cs.toList.map A0) | false=>.any) _
   split
   ·rename_i hl
    refine .agg _ _ (by simp) (fun i x hx=>?_) (fun i x hx=>?_)
    ·exact fI.1 hl x (cu hx)
    ·simp only[fm,wL]at hx
     obtain⟨v,hv,rfl⟩:=hx
     have ab:i<cs.size:=by have:=(List.getElem?_eq_some_iff.1 hv).1;simpa using this
     have:cs[i]=v:=by simpa [ab]using hv
     simpa [Array.getD,ab,this]using pc v
   ·exact .any _
  |tuple vs=>
   show aA F w (match vs.toList with | []=>.tup [] | _=>.any) _
   split
   ·rename_i h0
    exact .tup _ _ (by simp at h0;simp[h0]) (fun i x h=>by simp at h)
   ·exact .any _
  |int k n=>exact pc (.int k n)
  |bool b=>exact pc (.bool b)
  |string x=>exact pc (.string x)
  |float k b=>exact pc (.float k b)
  |complex k b c=>exact pc (.complex k b c)
  |pointer x=>exact pc (.pointer x)
  |slice x l c=>exact pc (.slice x l c)
  |map x=>exact pc (.map x)
  |chan x=>exact pc (.chan x)
  |func f x y=>exact pc (.func f x y)
  |nilFunc=>exact pc .nilFunc
  |iface t x=>exact pc (.iface t x)
  |nilIface=>exact pc .nilIface
 |global g=>exact .any _
 |func f=>exact .fn _ _ _ _ _ rfl rfl (fun i x h=>by simp at h) (fun i x h=>by simp at h)
theorem uc.eval{F:Nat→Prop}{w:World}{t:Tm}{a:Act}(h:uc F w t a)(x:Operand):aA F w (ev t x) (a.eval x):=Tp x fun i _=>h i
end
section
variable {P:Program} {TT:TypeId→Option TI}
structure Marks(B:Nat)(F:Nat→Prop)(w:World)(ds:List Deferred):Prop where
 low:B≤w.heap.size
 nodup:ds.Nodup
 is:∀d∈ds,∃D,d = { target:=.collected D,args:= #[] }∧B≤D∧F D∧w.heap[D]?=some (.deferred (some []))
theorem Marks.mono{B:Nat}{F F':Nat→Prop}{w w':World}{ds:List Deferred}(h:Marks B F w ds)(an:bB F w F' w'):Marks B F' w' ds:=
 ⟨eu h.low an.size,h.nodup,fun d hd=>by
  obtain⟨D,h1,h2,h3,h4⟩:=h.is d hd
  exact⟨D,h1,h2,an.sub D h3,(an.fix D h3).trans h4⟩⟩
structure dw(B n:Nat)(F:Nat→Prop)(w:World)(t:Tm)(σ:Hp)(a:Act):Prop where
 tm:uc F w t a
 hp:bf F w σ
 size:n≤a.tmps.size
 defers:Marks B F w a.defers
theorem SE(a:Act)(d:Option Tmp)(v:Value):(a.put d v).tmps.size=a.tmps.size:=by cases d <;> simp[Act.put]
theorem T9(a:Act)(d:Option Tmp)(v:Value):(a.put d v).defers=a.defers:=by cases d <;> rfl
theorem dw.put{B n:Nat}{F F':Nat→Prop}{w w':World}{t:Tm}{σ σ':Hp}{a:Act}(h:dw B n F w t σ a)(an:bB F w F' w')(hp:bf F' w' σ'){d:Option Tmp}{x:AV}{v:Value}(hx:aA F' w' x v)(hd:∀i,d=some i→i<n):dw B n F' w' (put t d x) σ' (a.put d v):=
 ⟨(h.tm.mono an).put hx (fun i e=>sg (hd i e) h.size),hp,by rw[SE];exact h.size,by rw[T9];exact h.defers.mono an⟩
theorem SU{F:Nat→Prop}{w:World}{σ:Hp}(h:bf F w σ){i b':Nat}{cs kM:List AV}(hi:σ[i]?=some (b',cs))(hl:kM.length=cs.length)(hk:∀(k:Nat) (x y:AV),cs[k]?=some x→kM[k]?=some y→x=y∨(x=.ai∧∃e:Sh,y=.ae e [])):bf F w (σ.set i (b',kM)):=by
 refine⟨?_,fun p hp=>?_,h.low⟩
 ·have e1:(σ.set i (b',kM)).map Prod.fst=σ.map Prod.fst:=by
   rw[nU]
   refine List.ext_getElem (by simp) fun j h1 h2=>?_
   rw[FM]
   split
   ·rename_i hj;subst hj
    have:=ck.1 hi
    obtain⟨q1,q2⟩:=this
    rw[FL,q2]
   ·rfl
  rw[e1];exact h.nodup
 ·rcases q9 hp with hp | rfl
  ·exact h.holds p hp
  ·have hh:=h.holds _ (cu hi)
   by_cases hn:∃k:Nat,cs[k]?=some AV.ai
   ·obtain⟨k,kI⟩:=hn
    obtain⟨h1,c,T,h2,h3,h4⟩:=hh.Nd kI rfl
    refine⟨h1,.inl ⟨c,T,h2,by rw[hl];exact h3,fun j y hy=>?_⟩⟩
    have hj:j<cs.length:=by rw[← hl];exact (ck.1 hy).1
    have hx:=bj hj
    obtain⟨q1,q2⟩:=h4 j _ hx
    rcases hk j _ _ hx hy with e | ⟨e,e',rfl⟩
    ·rw[← e];exact⟨q1,q2⟩
    ·rw[e]at q2
     refine⟨rfl,?_⟩
     revert q2;generalize c.getD j undef=u;intro q2;cases q2
     exact .ae e' [] _ ⟨none,0,rfl,aR _,bE _,(fun _=>rfl),fun aQ=>absurd rfl aQ⟩
   ·have e:kM=cs:=by
     refine Ct hl fun j h1 h2=>?_
     rcases hk j _ _ (bj h2) (bj h1) with e | ⟨e,_⟩
     ·exact e.symm
     ·exact absurd ⟨j,(bj h2).trans (congrArg some e)⟩ hn
    rw[e];exact hh
theorem Uo{F:Nat→Prop}{w:World}{σ:Hp}(h:bf F w σ){i b' k:Nat}{cs':List AV}(e:Sh)(hi:σ[i]?=some (b',cs'))(hk:cs'[k]?=some .ai):bf F w (σ.set i (b',cs'.set k (.ae e []))):=
 SU h hi (by simp) fun j x y hx hy=>by
  rw[e9]at hy
  split at hy
  ·rename_i hj;subst hj
   split at hy
   ·rw[hk]at hx;cases hx;cases hy;exact .inr ⟨rfl,e,rfl⟩
   ·cases hy
  ·rw[hx]at hy;cases hy;exact .inl rfl
theorem bf.dN{F:Nat→Prop}{w:World}{σ σ':Hp}(h:bf F w σ)(hs:jh σ σ'):bf F w σ':=by
 induction hs with
 |refl=>exact h
 |pull js _ ih=>exact ih (h.perm (yB js _))
 |perm hp _ ih=>exact ih (h.perm hp)
 |ahF i b' cs kM hi hl hk _ ih=>exact ih (SU h hi hl hk)
 | @drop k n σ σ2 _ ih=>
  refine ih (h.sub ?_)
  have h1:(σ.drop (k+n)).Sublist (σ.drop k):=by
   rw[← FF]
   exact List.drop_sublist _ _
  have h2:=(List.Sublist.refl (σ.take k)).append h1
  rwa [zZ]at h2
theorem dw.dN{B n:Nat}{F:Nat→Prop}{w:World}{t:Tm}{σ σ':Hp}{a:Act}(h:dw B n F w t σ a)(hs:jh σ σ'):dw B n F w t σ' a:=⟨h.tm,h.hp.dN hs,h.size,h.defers⟩
def uV(ops:List Oper)(o:Oper)(t:Tm)(b:Bool):Prop:=
 (o.guard=none∧b=true)∨∃j want d x,o.guard=some (j,want)∧(ops[j]?).bind (·.dst)=some d∧((t d=.bool x∧b=(x == want))∨(t d=.tup []∧b=false))
theorem yE{ops:List Oper}{o:Oper}{t:Tm}{A B:Prop}(h:py ops o t A B):(uV ops o t true∧A)∨(uV ops o t false∧B):=by
 unfold py at h
 split at h
 ·rename_i hg
  exact .inl ⟨.inl ⟨hg,rfl⟩,h⟩
 ·rename_i j want hg
  split at h
  ·rename_i d hd
   split at h
   ·rename_i b hb
    cases want <;> cases b
    ·exact .inl ⟨.inr ⟨j,_,d,_,hg,hd,.inl ⟨hb,rfl⟩⟩,h⟩
    ·exact .inr ⟨.inr ⟨j,_,d,_,hg,hd,.inl ⟨hb,rfl⟩⟩,h⟩
    ·exact .inr ⟨.inr ⟨j,_,d,_,hg,hd,.inl ⟨hb,rfl⟩⟩,h⟩
    ·exact .inl ⟨.inr ⟨j,_,d,_,hg,hd,.inl ⟨hb,rfl⟩⟩,h⟩
   ·rename_i hb
    exact .inr ⟨.inr ⟨j,_,d,false,hg,hd,.inr ⟨hb,rfl⟩⟩,h⟩
   ·exact h.elim
  ·exact h.elim
theorem yz{F:Nat→Prop}{w:World}:aA F w (.tup []) undef:=.tup _ _ rfl (fun i x h=>by simp at h)
theorem ZI{F:Nat→Prop}{w:World}{u:Value}(h:aA F w (.tup []) u):u=.tuple #[]:=by
 cases h with
 |tup _ vs hs h=>rw[FT.1 hs.symm]
theorem Gt{ops:List Oper}{o:Oper}{t:Tm}{a:Act}{b:Bool}(h:uV ops o t b)(hr:∀d,(∃j want,o.guard=some (j,want)∧(ops[j]?).bind (·.dst)=some d)→∃F w,aA F w (t d) (a.tmps.getD d undef)):Region.wanted o (yielded ops.toArray a.tmps)=b:=by
 rcases h with ⟨hg,rfl⟩ | ⟨j,want,d,x,hg,h1,⟨h2,rfl⟩ | ⟨h2,rfl⟩⟩
 ·simp[Region.wanted,hg]
 ·obtain⟨F,w,h3⟩:=hr d ⟨j,want,hg,h1⟩
  rw[h2]at h3
  have h3:=h3.rK
  have h4:a.tmps[d]?=some (.bool x):=by
   rw[gW]at h3
   cases hq:a.tmps[d]? with
   |none=>rw[hq]at h3;simp[undef]at h3
   |some v=>rw[hq]at h3;simpa using h3
  have h5:yielded ops.toArray a.tmps j=some x:=by
   unfold yielded
   simp only[zY,h1,Option.bind_some,h4]
  simp[Region.wanted,hg,h5]
 ·obtain⟨F,w,h3⟩:=hr d ⟨j,want,hg,h1⟩
  rw[h2]at h3
  have h3:=ZI h3
  have h5:yielded ops.toArray a.tmps j=none:=by
   unfold yielded
   simp only[zY,h1,Option.bind_some]
   rw[gW]at h3
   cases hq:a.tmps[d]? with
   |none=>rfl
   |some v=>rw[hq]at h3;simp at h3;rw[h3]
  simp[Region.wanted,hg,h5]
theorem KO(ok:dH P TT){B n:Nat}{ops:List Oper}{Q:Exit→Act→World→Prop}:∀(l:List Oper) (t:Tm) (σ:Hp) (K:Tm→Hp→Prop) (F:Nat→Prop) (w:World) (a:Act),(∀o∈l,∀d,o.dst=some d→d<n)→WC P TT ops l t σ K→dw B n F w t σ a→
  (∀t' σ' F' w' a',bB F w F' w'→dw B n F' w' t' σ' a'→K t' σ'→Q .normal a' w')→xo P ops.toArray Q l a w
 | [],t,σ,K,F,w,a,_,h,hs,hq=>hq t σ F w a (.refl _ _) hs h
 |o::l,t,σ,K,F,w,a,hd,h,hs,hq=>by
  have hw:∀{b:Bool},uV ops o t b→Region.wanted o (yielded ops.toArray a.tmps)=b:=fun hg=>Gt hg fun d _=>⟨F,w,hs.tm d⟩
  rcases yE h with ⟨hg,h⟩ | ⟨hg,h⟩
  ·unfold xo
   rw[ah (hw hg)]
   refine (Ld ok h a F w (fun x _=>hs.tm.eval x) hs.hp _ Q ?_)
   intro v av σ' F' w' h1 h2 h3 h4
   exact KO ok l _ σ' K F' w' _ (fun o ho=>hd o (cQ _ ho)) h4 (hs.put h1 h2 h3 (hd o (bU ..))) (fun t' kr nZ mu a' k1 k2 k3=>hq t' kr nZ mu a' (h1.trans k1) k2 k3)
  ·unfold xo
   rw[if_neg (by rw[hw hg];simp)]
   exact KO ok l _ σ K F w _ (fun o ho=>hd o (cQ _ ho)) h (hs.put (.refl _ _) hs.hp yz (hd o (bU ..))) hq
def M4(P:Program)(o:Oper)(ρ:Operand→AV)(σ:Hp)(v:AV):Prop:=
 ∀(a:Act) (F:Nat→Prop) (w:World),(∀x∈o.op.operands.toList,aA F w (ρ x) (a.eval x))→bf F w σ→∀(next:Act→World→Prop) (Q:Exit→Act→World→Prop),
  (∀u F' w',bB F w F' w'→bf F' w' σ→aA F' w' v u→next (a.put o.dst u) w')→wq P o a w next Q
theorem RC(ok:dH P TT){o:Oper}{ρ:Operand→AV}{σ:Hp}{K:AV→Prop}(h:vT P TT o.op ρ σ K):∃v,K v∧M4 P o ρ σ v:=by
 have dd:fH P TT o.op ρ σ K→∃v,K v∧M4 P o ρ σ v:=fun h=>by
  obtain⟨v,h1,h2⟩:=Gy ok h
  refine⟨v,h1,fun a F w hx aE next Q hn=>?_⟩
  obtain⟨v',h3,h4⟩:=h2 a.eval F w o rfl hx aE
  unfold wq
  rw[h3]
  exact hn v' F w (.refl _ _) aE h4
 generalize lT:o.op=op at h dd
 unfold vT at h
 split at h
 ·exact dd h
 ·obtain⟨_,_,h,_⟩ | ⟨f,xs,hc,fG⟩:=Qa lT h
  ·exact h.elim
  cases hc with
  |mk js r call go=>
   obtain⟨oH,gP⟩:=call
   refine⟨r,go,fun a F w hx aE next Q hn=>?_⟩
   obtain⟨vs,bN,hr⟩:=fG a.eval F w hx
   unfold wq
   rw[hr oH]
   refine (gP F w vs bN (aE.perm (yB js σ))).mono ?_
   rintro e w' ⟨r',v,σ',F',rfl,h1,h2,h3,rfl,rfl⟩
   exact⟨v,rfl,hn v F' w' h1 (h2.perm (yB js σ).symm) h3⟩
  |perm hp r call go=>
   obtain⟨oH,gP⟩:=call
   refine⟨r,go,fun a F w hx aE next Q hn=>?_⟩
   obtain⟨vs,bN,hr⟩:=fG a.eval F w hx
   unfold wq
   rw[hr oH]
   refine (gP F w vs bN (aE.perm hp)).mono ?_
   rintro e w' ⟨r',v,σ',F',rfl,h1,h2,h3,rfl,nP⟩
   exact⟨v,rfl,hn v F' w' h1 (h2.perm (hp.symm.trans nP)) h3⟩
 ·exact dd h
end
end Go.Proofs.YtnikdflhefijbaaGreat
