import Derived.Deep.AppendSrc
import Derived.Deep.Upon
import Derived.Great.BuildSlice
import Derived.Maps.RangeRun
import Derived.Orders
import Derived.Test.YtnikdflhefijbaaGreatBr2
namespace Go.Proofs.YtnikdflhefijbaaGreat
open Go.RowKit
section
variable {P:Program} {TT:TypeId→Option TI} {F F':Nat→Prop} {w w':World}
theorem Holds.mono{b:Nat}{cs:List AV}(h:Holds F w b cs)(ao:bL F w F' w')(hb:w'.heap[b]?=w.heap[b]?)(hF:¬F' b):Holds F' w' b cs:=by
 obtain⟨_,⟨c,T,h1,h2,h3⟩ | ⟨x,o,h1,h2,h3⟩ | ⟨L,t,h1,h2,h3⟩⟩:=h
 ·exact⟨hF,.inl ⟨c,T,hb.trans h1,h2,fun i x hx=>⟨(h3 i x hx).1,(h3 i x hx).2.mono ao⟩⟩⟩
 ·exact⟨hF,.inr (.inl ⟨x,o,h1,hb.trans h2,h3⟩)⟩
 ·exact⟨hF,.inr (.inr ⟨L,t,h1,hb.trans h2,fun i=>(h3 i).mono ao⟩)⟩
theorem Holds.lt{b:Nat}{cs:List AV}(h:Holds F w b cs):b<w.heap.size:=by
 obtain⟨_,⟨_,_,h1,_⟩ | ⟨_,_,_,h1,_⟩ | ⟨_,_,_,h1,_⟩⟩:=h
 ·exact sC h1
 ·exact sC h1
 ·exact sC h1
theorem bC.perm{σ σ':Hp}(h:bC F w σ)(hp:σ'.Perm σ):bC F w σ':=
 ⟨((hp.map Prod.fst).nodup_iff).2 h.nodup,fun p hm=>h.holds p (hp.mem_iff.1 hm),h.low⟩
theorem bC.sub{σ σ':Hp}(h:bC F w σ)(hs:σ'.Sublist σ):bC F w σ':=
 ⟨h.nodup.sublist (hs.map _),fun p hm=>h.holds p (hs.subset hm),h.low⟩
theorem w7:∀(σ:Hp) (i:Nat) (p:Nat×List AV),σ[i]?=some p→(p::σ.eraseIdx i).Perm σ
 | [],i,p,h=>by simp at h
 |q::σ,0,p,h=>by simp at h;subst h;exact List.Perm.refl _
 |q::σ,i+1,p,h=>(List.Perm.swap q p _).trans (.cons q (w7 σ i p (by simpa using h)))
theorem V9(i:Nat)(σ:Hp):(pull i σ).Perm σ:=by
 unfold pull
 split
 ·rename_i p h
  exact w7 σ i p h
 ·exact List.Perm.refl _
theorem xc:∀(js:List Nat) (σ:Hp),(nI js σ).Perm σ
 | [],_=>List.Perm.refl _
 |i::r,σ=>(V9 i _).trans (xc r σ)
theorem w9(sK:∀b,F b→b<w.heap.size)(ho:w'.os=w.os)(ht:w'.tape=w.tape)(hu:w'.output=w.output)(hs:w.heap.size≤w'.heap.size)(hb:∀b,b<w.heap.size→w'.heap[b]?=w.heap[b]?)(hd:w.drawn≤w'.drawn:=by first | exact bJ _ | exact Nat.le_succ _ | exact Nat.le_add_right _ _):bL F w F w':=
 ⟨ho,ht,hu,hs,fun _ h=>h,fun b h=>hb b (sK b h),fun b c _ fz h=>⟨c,fz,(hb b (sC h)).trans h,rfl⟩,hd⟩
theorem bC.same{σ:Hp}(h:bC F w σ)(ao:bL F w F w')(hb:∀b,b<w.heap.size→w'.heap[b]?=w.heap[b]?):bC F w' σ:=
 ⟨h.nodup,fun p hm=>(h.holds p hm).mono ao (hb _ (h.holds p hm).lt) (h.holds p hm).1,fun b hF=>tc (h.low b hF) ao.size⟩
theorem MR{σ:Hp}(h:bC F w σ){c:Array Value}{T:TypeId}{cs:List AV}(hl:cs.length≤c.size)(hc:∀(i:Nat) (x:AV),cs[i]?=some x→x.leaf=true∧aF F w x (c.getD i undef)){w0:World}(e0:w0=w∨w0=w.drew):
  bL F w F (w0.alloc (.cells c T))∧bC F (w0.alloc (.cells c T)) ((w.heap.size,cs)::σ):=by
 have hold:∀b,b<w.heap.size→(w0.alloc (.cells c T)).heap[b]?=w.heap[b]?:=fun b hb=>by rcases e0 with rfl | rfl <;> exact Below.heap_alloc _ _ b (by simpa using hb)
 have ao:bL F w F (w0.alloc (.cells c T)):=by
  rcases e0 with rfl | rfl
  ·exact w9 h.low rfl rfl rfl (by simp) hold
  ·exact w9 h.low rfl rfl rfl (by simp) hold
 have hr:=h.same ao hold
 have fK:(w0.alloc (.cells c T)).heap[w.heap.size]?=some (.cells c T (0,0)):=by rcases e0 with rfl | rfl <;> exact vx _ _
 refine⟨ao,⟨?_,fun p hm=>?_,hr.low⟩⟩
 ·simp only[o8,mJ]
  refine⟨fun hm=>?_,h.nodup⟩
  obtain⟨p,hp,e⟩:=fi.1 hm
  have:=(h.holds p hp).lt
  omega
 ·rcases ei.1 hm with rfl | hm
  ·exact⟨fun hF=>GF _ (h.low _ hF),.inl ⟨c,T,fK,hl,fun i x hx=>⟨(hc i x hx).1,(hc i x hx).2.mono ao⟩⟩⟩
  ·exact hr.holds p hm
theorem AY{σ:Hp}(h:bC F w σ){j b:Nat}{cs cs':List AV}(hj:σ[j]?=some (b,cs)){c c':Array Value}{T:TypeId}(hc:w.heap[b]?=some (.cells c T (0,0)))(eE:c'.size=c.size)(hl:cs'.length≤c'.size)
  (hr:∀(i:Nat) (x:AV),cs'[i]?=some x→x.leaf=true∧aF F w x (c'.getD i undef)) (hw:∀k,k≠b→w'.heap[k]?=w.heap[k]?) (Gm:w'.heap[b]?=some (.cells c' T (0,0))) (ho:w'.os=w.os) (ht:w'.tape=w.tape) (hu:w'.output=w.output) (hs:w'.heap.size=w.heap.size) (hd:w.drawn≤w'.drawn:=by first | exact bJ _ | exact Nat.le_succ _ | exact Nat.le_add_right _ _) :
  bL F w F w'∧bC F w' (σ.set j (b,cs')):=by
 have hb:=(h.holds (b,cs) (dm hj)).1
 have ab:j<σ.length:=(cR.1 hj).1
 have ao:bL F w F w':=⟨ho,ht,hu,by omega,fun _ h=>h,fun k hF=>hw k (fun e=>hb (e▸hF)),fun k d S fz hk=>by
  by_cases e:k=b
  ·subst e
   rw[hc]at hk
   cases hk
   exact⟨c',(0,0),Gm,eE⟩
  ·exact⟨d,fz,(hw k e).trans hk,rfl⟩,hd⟩
 have BP:(σ.set j (b,cs')).map Prod.fst=σ.map Prod.fst:=by
  rw[s8]
  apply wO
  intro k
  rw[gX]
  split
  ·rename_i e;subst e
   simp[ab]
   have:=(cR.1 hj).2
   rw[this]
  ·rfl
 refine⟨ao,⟨BP▸h.nodup,fun p hm=>?_,fun k hF=>by rw[hs];exact h.low k hF⟩⟩
 obtain⟨k,hk⟩:=yp.1 hm
 rw[gX]at hk
 split at hk
 ·rename_i e;subst e
  simp at hk
  obtain⟨_,rfl⟩:=hk
  exact⟨hb,.inl ⟨c',T,Gm,hl,fun i x hx=>⟨(hr i x hx).1,(hr i x hx).2.mono ao⟩⟩⟩
 ·rename_i bc
  have aZ:=dm hk
  have pY:p.1≠b:=by
   intro e
   have ck:=h.nodup
   have h1:(σ.map Prod.fst)[k]?=some b:=by rw[List.getElem?_map,hk];simp[e]
   have h2:(σ.map Prod.fst)[j]?=some b:=by rw[fm,hj];rfl
   have eO:k<(σ.map Prod.fst).length:=(cR.1 h1).1
   have:=(List.getElem?_inj (i:=k) (j:=j) eO ck).1 (h1.trans h2.symm)
   exact bc this.symm
  exact (h.holds p aZ).mono ao (hw _ pY) (h.holds p aZ).1
theorem O4(z:List AV):∀(n j:Nat),j<n*z.length→(cN z n)[j]?=z[j % z.length]?
 | 0,j,h=>by simp at h
 |n+1,j,h=>by
  unfold cN
  by_cases hj:j<z.length
  ·rw[ky hj,ta hj]
  ·have e:(n+1)*z.length=n*z.length+z.length:=uO n z.length
   rw[iP (by omega),O4 z n (j-z.length) (by omega)]
   rw[Nat.mod_eq_sub_mod (a:=j) (b:=z.length) (by omega)]
theorem uY(z:List AV)(n:Nat):(cN z n).length=n*z.length:=by
 induction n with
 |zero=>simp[cN]
 |succ n ih=>simp[cN,ih,Nat.succ_mul];omega
theorem Eo{i:TI}{z:Value}(hz:pB i.zero z.cells.toList=true){n m:Nat}(hnm:n≤m):(cN i.zero n).length≤(madeCells z.cells (m*i.zero.length)).size∧∀(k:Nat) (x:AV),(cN i.zero n)[k]?=some x→x.leaf=true∧aF F w x ((madeCells z.cells (m*i.zero.length)).getD k undef):=by
 obtain⟨h1,h2⟩:=vq (F:=F) (w:=w) hz
 have hle:n*i.zero.length≤m*i.zero.length:=pf _ hnm
 refine⟨by rw[uY,size_madeCells];exact hle,fun k x hx=>?_⟩
 have hk:k<n*i.zero.length:=by rw[← uY];exact (cR.1 hx).1
 rw[O4 _ _ _ hk]at hx
 obtain⟨h3,h4⟩:=h2 _ x hx
 refine⟨h3,?_⟩
 have ab:k<m*i.zero.length:=by omega
 have sJ:0<i.zero.length:=by
  rcases r8 i.zero.length with h0 | h0
  ·rw[h0]at hk;omega
  ·exact h0
 have Kb:k % i.zero.length<z.cells.size:=by rw[← h1];exact wL _ sJ
 rw[h1]at h4 ab
 rw[h1]at Kb
 simpa [madeCells,Array.getD,ab,h1,Kb,Nat.mod_lt _ (h1▸sJ)]using h4
end
section
variable {P:Program} {TT:TypeId→Option TI} {F F':Nat→Prop} {w w':World}
def j9(P:Program)(o:Oper)(ρ:Operand→AV)(σ:Hp)(K:AV→Hp→Prop):Prop:=
 ∀(a:Act) (F:Nat→Prop) (w:World),(∀x∈o.op.operands.toList,aF F w (ρ x) (a.eval x))→bC F w σ→∀(next:Act→World→Prop) (Q:Exit→Act→World→Prop),
  (∀v av σ' F' w',bL F w F' w'→bC F' w' σ'→aF F' w' av v→K av σ'→next (a.put o.dst v) w')→wq P o a w next Q
theorem TB{o:Oper}{ρ:Operand→AV}{σ:Hp}{K:AV→Hp→Prop}{v:AV}(h:Cv P o.op ρ σ v)(hk:K v σ):j9 P o ρ σ K:=by
 intro a F w hx aJ next Q hn
 obtain⟨v',h1,h2⟩:=h a.eval F w o rfl hx aJ
 unfold wq
 rw[h1]
 exact hn v' v σ F w (.refl _ _) aJ h2 hk
theorem DP{o:Oper}{ρ:Operand→AV}{σ:Hp}{K:AV→Hp→Prop}{cs:List AV}{mk:Nat→AV}(hk:∀b,K (mk b) ((b,cs)::σ))
  (h:∀(η:Operand→Value) (F:Nat→Prop) (w:World),(∀x∈o.op.operands.toList,aF F w (ρ x) (η x))→∃(c:Array Value) (T:TypeId) (v:Value),(execOp η o).run P w=.ok (.value v) (w.alloc (.cells c T))∧cs.length≤c.size∧(∀(i:Nat) (x:AV),cs[i]?=some x→x.leaf=true∧aF F w x (c.getD i undef))∧aF F (w.alloc (.cells c T)) (mk w.heap.size) v):j9 P o ρ σ K:=by
 intro a F w hx aJ next Q hn
 obtain⟨c,T,v,h1,h2,h3,h4⟩:=h a.eval F w hx
 unfold wq
 rw[h1]
 obtain⟨ao,hr⟩:=MR aJ (T:=T) h2 h3 (w0:=w) (.inl rfl)
 exact hn v _ _ F _ ao hr h4 (hk _)
theorem TD{x:AV}{v:Value}{cs:List AV}(h:aF F w x v)(hc:x.cells?=some cs):cs.length≤v.cells.size∧∀(i:Nat) (x:AV),cs[i]?=some x→x.leaf=true∧aF F w x (v.cells.getD i undef):=by
 obtain⟨h1,h2⟩:=HG h hc
 exact⟨by omega,h2⟩
theorem WT{o:Oper}{e:TypeId}{x:Operand}(ho:o.op=.box e x){ρ:Operand→AV}{σ:Hp}{K:AV→Hp→Prop}{cs:List AV}(hc:(ρ x).cells?=some cs)(hk:∀b,K (.ptr b 0) ((b,cs)::σ)):j9 P o ρ σ K:=
 DP hk fun η F w hx=>by
  have h1:=hx x (by simp[ho,Op.operands])
  obtain⟨h2,h3⟩:=TD h1 hc
  exact⟨(η x).cells,e,.pointer (some ⟨w.heap.size,0,none⟩),by simp[execOp,ho,Instr.box,newVar,newRow],h2,h3,.ptr _ _ ⟨_,_,_,vx _ _⟩⟩
theorem UI(ok:dH P TT){o:Oper}{e:TypeId}(ho:o.op=.alloc e){ρ:Operand→AV}{σ:Hp}{K:AV→Hp→Prop}{i:TI}(hi:TT e=some i)(hk:∀b,K (.ptr b 0) ((b,i.zero)::σ)):j9 P o ρ σ K:=
 DP hk fun η F w hx=>by
  obtain⟨j,d,z,hj,hd,_,_,_,hz,gU⟩:=dz ok hi
  obtain⟨h1,h2⟩:=vq (F:=F) (w:=w) gU
  exact⟨z.cells,e,.pointer (some ⟨w.heap.size,0,none⟩),by simp[execOp,ho,Instr.alloc,newVar,newRow,zeroValue,typeInfo,hj,hz],by omega,h2,.ptr _ _ ⟨_,_,_,vx _ _⟩⟩
theorem Tn(ok:dH P TT){o:Oper}{t e:TypeId}{len:Nat}{parts:Array (Nat×Operand)}(ho:o.op=.buildSlice t len parts){ρ:Operand→AV}{σ:Hp}{K:AV→Hp→Prop}{it i:TI}(ht:TT t=some it)(eO:it.k=.slice e)(hi:TT e=some i){cs:List AV}
  (hf:rj ((List.range len).map fun j=>(j*i.size,i.size)) (cN i.zero len) (parts.toList.map fun p=>(p.1,ρ p.2))=some cs) (eE:len*i.size≤16777216) (sJ:1≤i.size) (hk:∀b,K (.ah b 0 len i.size) ((b,cs)::σ)):j9 P o ρ σ K:=
 DP hk fun η F w hx=>by
  obtain⟨_,d,_,_,hd,_,_,jU,_,_⟩:=dz ok ht
  rw[eO]at jU
  obtain rfl:=jZ jU
  obtain⟨j,d',z,hj,kd,hs,⟨_,oa⟩,_,hz,gU⟩:=dz ok hi
  obtain⟨hl,hr⟩:=N6 (parts:=parts) (ρ:=ρ) (η:=η) (F:=F) (w:=w) (by simpa [ho,Op.operands]using hx)
  have jB:z.cells.size=j.size:=by have:=(vq (F:=F) (w:=w) gU).1;omega
  obtain⟨m1,m2⟩:=Eo (F:=F) (w:=w) gU (bJ len)
  have sX:oW F w (cN i.zero len) (madeCells z.cells (len*i.zero.length)):=⟨by rw[uY,size_madeCells],m2⟩
  rw[oa,← hs]at sX
  obtain⟨eD,f1,f2⟩:=Eu (place:=fun k=>some (k*j.size,j.size)) (fun k p hk=>by
   obtain⟨a,ha,rfl⟩:=cR.1 hk
   simp[hs]) _ _ _ _ _ hl hr sX hf
  have acF:eD.size=len*j.size:=by
   have e1:∀(us:List (Nat×AV)) (xs out:List AV),rj ((List.range len).map fun j=>(j*i.size,i.size)) xs us=some out→out.length=xs.length:=by
    intro us
    induction us with
    |nil=>intro xs out h;simp[rj]at h;subst h;rfl
    |cons p us ih=>
     intro xs out h
     obtain⟨q,v⟩:=p
     simp only[rj]at h
     split at h
     ·split at h
      ·rw[ih _ _ h,yz]
      ·cases h
     ·cases h
   have:=e1 _ _ _ hf
   rw[uY]at this
   have h3:=f2.1
   rw[oa,← hs]at this
   omega
  refine⟨eD,e,.slice (some ⟨w.heap.size,0,none⟩) len len,?_,by have:=f2.1;omega,f2.2,.ah _ _ _ _ _ _ ⟨eD,e,(0,0),vx _ _,bJ _,?_,.inl ⟨rfl,by rw[acF,hs];omega⟩⟩⟩
  ·by_cases h0:len*j.size=0
   ·have:eD = #[]:=Dv.1 (by omega)
    subst this
    have f1':Instr.fill (fun k=>some (k*j.size,j.size)) #[] (parts.map fun (i,x)=>(i,η x)).toList=some #[]:=by
     have e0:madeCells z.cells (len*j.size) = #[]:=by rw[h0];simp[madeCells,Array.range_zero']
     rw[e0]at f1
     exact f1
    simp only[execOp,ho,Instr.buildSlice,Sem.run_bind,run_underlying hd,Result.andThen_ok,run_sizeOf hj,h0,if_true,Sem.run_pure,Nat.reducePow,if_false,s7,gt_iff_lt]
    rw[show ((Array.range 0).map fun x=>(#[]:Array Value)[x % (#[]:Array Value).size]!) = #[] by simp[Array.range_zero'],f1']
    rfl
   ·simp only[execOp,ho,Sem.run_bind,run_buildSlice w t e len _ eD j z hd hj hz (by rw[hs];omega) h0 f1]
    rfl
  ·have:len≤len*i.size:=Nat.le_mul_of_pos_right _ sJ
   unfold maxLen;omega
theorem To(ok:dH P TT){o:Oper}{t e:TypeId}{l c:Operand}(ho:o.op=.makeSlice t l c){ρ:Operand→AV}{σ:Hp}{K:AV→Hp→Prop}{it i:TI}(ht:TT t=some it)(eO:it.k=.slice e)(hi:TT e=some i){k k':IntKind}{n m:Int}(hl:ρ l=.int k n)(hc:ρ c=.int k' m)
  (h0:0≤n∧n≤m∧m≤1048576∧i.bytes≤1024) (hk:∀b,K (.ah b 0 n.toNat i.size) ((b,cN i.zero n.toNat)::σ)):j9 P o ρ σ K:=
 DP hk fun η F w hx=>by
  obtain⟨_,d,_,_,hd,_,_,jU,_,_⟩:=dz ok ht
  rw[eO]at jU
  obtain rfl:=jZ jU
  obtain⟨j,d',z,hj,kd,hs,⟨hb,oa⟩,_,hz,gU⟩:=dz ok hi
  have h1:=hx l (by simp[ho,Op.operands]);rw[hl]at h1
  have h2:=hx c (by simp[ho,Op.operands]);rw[hc]at h2
  obtain⟨m1,m2⟩:=Eo (F:=F) (w:=w) gU (show n.toNat≤m.toNat by omega)
  rw[oa,← hs]at m1 m2
  have rS:(j.bytes:Int)*m≤281474976710656:=by
   have:(j.bytes:Int)*m≤1024*1048576:=Int.mul_le_mul (by omega) (by omega) (by omega) (by omega)
   omega
  refine⟨madeCells z.cells (m.toNat*j.size),e,.slice (some ⟨w.heap.size,0,none⟩) n.toNat m.toNat,?_,m1,m2,.ah _ _ _ _ _ _ ⟨_,e,(0,0),vx _ _,by omega,by unfold maxLen;omega,.inl ⟨rfl,by rw[size_madeCells,hs];omega⟩⟩⟩
  simp only[execOp,ho,h1.gM,h2.gM,Sem.run_bind,run_make w t e j z hd hj hz k k' n m h0.1 h0.2.1 rS (by omega)]
  rfl
end
section
variable {P:Program} {TT:TypeId→Option TI} {F F':Nat→Prop} {w w':World}
theorem Hv:∀(xs cs:List AV) (o k:Nat),o+xs.length≤cs.length→(gi cs o xs)[k]?=if o≤k∧k<o+xs.length then xs[k-o]? else cs[k]?
 | [],cs,o,k,_=>by rw[if_neg (by intro h;simp at h;omega)];rfl
 |x::xs,cs,o,k,h=>by
  simp only[iE]at h
  rw[gi,Hv xs (cs.set o x) (o+1) k (by simp;omega)]
  simp only[iE]
  by_cases h1:o+1≤k∧k<o+1+xs.length
  ·rw[az h1,az (by omega),show k-o=(k-(o+1))+1 by omega];rfl
  ·rw[aA h1]
   by_cases h2:o=k
   ·subst h2
    rw[az (by omega),nt,gX]
    simp;omega
   ·rw[aA (by omega),gX,aA h2]
theorem Zv(c vs:List Value)(o k:Nat)(h:o+vs.length≤c.length):(c.take o++vs++c.drop (o+vs.length))[k]?=if o≤k∧k<o+vs.length then vs[k-o]? else c[k]?:=by
 have hl:(c.take o).length=o:=by simp;omega
 by_cases h1:k<o
 ·rw[aA (by omega),dh,ky (by omega),qc,az h1]
 ·by_cases h2:k<o+vs.length
  ·rw[az (by omega),dh,iP (by omega),hl,ky (by omega)]
  ·rw[if_neg (by omega),List.getElem?_append_right (by simp;omega),List.getElem?_drop]
   congr 1
   simp;omega
theorem TH{i:TI}{cs cs':List AV}{o:Nat}{v:AV}(h:kC i cs o v=some cs'):∃vs,v.cells?=some vs∧vs.length=i.size∧o+i.size≤cs.length∧cs'=gi cs o vs:=by
 unfold kC at h
 split at h
 ·rename_i vs hv
  split at h
  ·rename_i h1 h2
   exact⟨vs,hv,jF h1,cp h2,(Option.some.inj h).symm⟩
  ·cases h
 ·cases h
theorem Ep{c:Array Value}{cs xs:List AV}{vs:List Value}{o:Nat}(hc:∀(i:Nat) (x:AV),cs[i]?=some x→x.leaf=true∧aF F w x (c.getD i undef))(hx:xs.length=vs.length)(hv:∀(i:Nat) (x:AV),xs[i]?=some x→x.leaf=true∧aF F w x (vs.getD i undef))(ho:o+xs.length≤c.size)
  {out:List AV} (jC:out.length≤c.size) (FR:∀k y,out[k]?=some y→(if o≤k∧k<o+xs.length then xs[k-o]? else cs[k]?)=some y) :
  ∀(i:Nat) (x:AV),out[i]?=some x→x.leaf=true∧aF F w x ((c.toList.take o++vs++c.toList.drop (o+vs.length)).toArray.getD i undef):=by
 intro k y hk
 have h1:=FR k y hk
 have ab:k<out.length:=(cR.1 hk).1
 have adP:=Zv c.toList vs o k (by simp;omega)
 have CU:k<c.size:=by omega
 have hlen:(c.toList.take o++vs++c.toList.drop (o+vs.length)).length=c.size:=by simp;omega
 have hgd:(c.toList.take o++vs++c.toList.drop (o+vs.length)).toArray.getD k undef=((c.toList.take o++vs++c.toList.drop (o+vs.length))[k]?).getD undef:=by
  have h2:k<(c.toList.take o++vs++c.toList.drop (o+vs.length)).toArray.size:=by rw[qb,hlen];exact CU
  simp only[Array.getD,h2,dif_pos]
  rw[bN (by rw[hlen];exact CU)]
  rfl
 rw[hgd,adP]
 split at h1
 ·rename_i ew
  rw[az (by omega)]
  obtain⟨h2,h3⟩:=hv _ y h1
  exact⟨h2,by rw[bO]at h3;exact h3⟩
 ·rename_i ew
  rw[aA (by omega)]
  obtain⟨h2,h3⟩:=hc _ y h1
  refine⟨h2,?_⟩
  simpa [Array.getD,CU]using h3
theorem T8(ok:dH P TT){o:Oper}{t:TypeId}{p x:Operand}(ho:o.op=.store t p x){ρ:Operand→AV}{σ:Hp}{K:AV→Hp→Prop}{i:TI}(hi:TT t=some i){b off:Nat}(hp:ρ p=.ptr b off)(h:EU i σ b off (ρ x) (fun σ'=>K .any σ')):j9 P o ρ σ K:=by
 intro a F w hx aJ next Q hn
 obtain⟨j,cs,cs',h1,h2,go⟩:=h
 obtain⟨vs,hv,uA,hle,rfl⟩:=TH h2
 obtain⟨jt,d,z,hj,hd,hs,_⟩:=dz ok hi
 have a1:=hx p (by simp[ho,Op.operands]);rw[hp]at a1
 have a2:=hx x (by simp[ho,Op.operands])
 obtain⟨c1,c2⟩:=HG a2 hv
 obtain⟨hF,c,T,hc,fh,np⟩:=(aJ.holds _ (dm h1)).cells a1.yF
 have fh:cs.length≤c.size:=fh
 have qG:∀u∈(a.eval x).cells.toList,u.oneCell'=true:=by
  intro u hu
  obtain⟨k,hk⟩:=yp.1 hu
  have ab:k<(a.eval x).cells.size:=by have:=(List.getElem?_eq_some_iff.1 hk).1;simpa using this
  obtain⟨h3,h4⟩:=c2 k vs[k] (by simp)
  have:=h4.one h3
  simpa [Array.getD,ab,show (a.eval x).cells[k]=u by simpa [ab]using hk]using this
 have ao:=run_storeCells_at (P:=P) b off T (a.eval x).cells.toList 0 c w hc (by simp[c1];omega) qG
 have fq:(execOp a.eval o).run P w=.ok .skip (w.setRow b (c.toList.take off++(a.eval x).cells.toList++c.toList.drop (off+(a.eval x).cells.toList.length)).toArray):=by
  simp only[uN]at ao
  have eE:¬((a.eval x).cells.size≠jt.size):=by rw[c1,uA,hs];simp
  simp only[execOp,ho,a1.tW,Instr.storeAt,Instr.sureAddr,Sem.run_bind,Sem.run_pure,Result.andThen_ok,storeVar,run_sizeOf hj,aA eE,ao]
 unfold wq
 rw[fq]
 have hlen:(c.toList.take off++(a.eval x).cells.toList++c.toList.drop (off+(a.eval x).cells.toList.length)).length=c.size:=by simp;omega
 obtain⟨s1,s2⟩:=AY aJ h1 (cs':=gi cs off vs) hc (c':=(c.toList.take off++(a.eval x).cells.toList++c.toList.drop (off+(a.eval x).cells.toList.length)).toArray) (by simp only[qb];exact hlen) (by rw[yz];simp only[qb];omega)
  (Ep (xs:=vs) np (by simp[c1]) (fun k y hk=>by
   have ab:k<(a.eval x).cells.size:=by rw[c1];exact (cR.1 hk).1
   have:=c2 k y hk
   simpa [Array.getD,List.getD,ab]using this) (by omega) (by rw[yz];omega) (fun k y hk=>by rw[Hv _ _ _ _ (by omega)]at hk;exact hk))
  (fun k hk=>setRow_other w b k _ hk) (setRow_heap w b c _ T _ hc) rfl rfl rfl (by simp)
 exact hn undef .any _ F _ s1 s2 (.any _) go
theorem At.flat{α:Type}{f:α→List AV}{es:Nat}(hf:∀x,(f x).length=es){b:Nat}:∀(l:List α) (o:Nat),(∀i,(h:i<l.length)→At F w b (o+i*es) (f l[i]))→At F w b o (l.flatMap f)
 | [],o,_=>fun i x h=>by simp at h
 |y::l,o,h=>by
  have h0:=h 0 (by simp)
  have ih:=At.flat hf l (o+es) (fun i hi=>by
   have:=h (i+1) (by simpa using hi)
   rw[uO,show o+(i*es+es)=o+es+i*es by omega]at this
   simpa using this)
  intro i x hx
  rw[uS]at hx
  by_cases hi:i<es
  ·rw[ky (by rw[hf];exact hi)]at hx
   have:=h0 i x (by simpa using hx)
   simpa using this
  ·rw[iP (by rw[hf];omega),hf]at hx
   have:=ih (i-es) x hx
   rw[show o+es+(i-es)=o+i by omega]at this
   exact this
theorem u0{α:Type}{f:α→List AV}{es:Nat}(hf:∀x,(f x).length=es):∀(l:List α),(l.flatMap f).length=l.length*es
 | []=>by simp
 |y::l=>by rw[uS,bG,hf,u0 hf l,iE,uO];omega
theorem Br{b o:Nat}{cs:List AV}(h:At F w b o cs):∃news:List Value,news.length=cs.length∧(∀j u,news[j]?=some u→w.cell? ⟨b,o+j,none⟩=some u)∧(∀(i:Nat) (x:AV),cs[i]?=some x→x.leaf=true∧aF F w x (news.getD i undef))∧∀u∈news,u.oneCell'=true:=by
 have hc:∀m,m<cs.length→∃v,w.cell? ⟨b,o+m,none⟩=some v∧v.oneCell'=true:=by
  intro m hm
  obtain⟨h1,v,h2,h3⟩:=h m cs[m] (by simp[hm])
  exact⟨v,h2,h3.one h1⟩
 refine⟨(List.range cs.length).map fun m=>(w.cell? ⟨b,o+m,none⟩).getD undef,by simp,fun j u hj=>?_,fun i x hx=>?_,fun u hu=>?_⟩
 ·have ab:j<cs.length:=by have:=(List.getElem?_eq_some_iff.1 hj).1;simpa using this
  obtain⟨v,h2,_⟩:=hc j ab
  simp[ab,h2]at hj
  rw[h2,hj]
 ·have ab:i<cs.length:=(cR.1 hx).1
  obtain⟨h1,v,h2,h3⟩:=h i x hx
  refine⟨h1,?_⟩
  simpa [List.getD,ab,h2]using h3
 ·obtain⟨m,hm,rfl⟩:=fi.1 hu
  obtain⟨v,h2,h3⟩:=hc m (gq.1 hm)
  rw[h2]
  exact h3
theorem AX{σ:Hp}{es n:Nat}{x:AV}{new:List AV}(h:jb σ es x n new)(aJ:bC F w σ){v:Value}(hv:aF F w x v){tx e':TypeId}(hk:P.underlying tx=some (.slice e')):
  ∃news:List Value,Src P es tx v n news w∧new.length=news.length∧∀(i:Nat) (x:AV),new[i]?=some x→x.leaf=true∧aF F w x (news.getD i undef):=by
 have empty:∀(a:Option Addr) (c:Nat),Src P es tx (.slice a 0 c) 0 [] w:=by
  intro a c
  cases a with
  |none=>exact Src.ofNil w hk c
  |some a=>exact Src.ofSlice w hk a 0 c [] (by simp) (fun j u h=>by simp at h) (fun _ h=>by cases h)
 cases h with
 |ak=>cases hv;exact⟨[],empty _ _,rfl,fun i x h=>by simp at h⟩
 |km=>cases hv;exact⟨[],empty _ _,rfl,fun i x h=>by simp at h⟩
 |gZ=>cases hv;exact⟨[],empty _ _,rfl,fun i x h=>by simp at h⟩
 |af s l hs=>
  obtain⟨a,c,rfl,h1,h2,h3⟩:=hv.Cm
  by_cases bc:l=[]
  ·subst bc
   exact⟨[],empty _ _,rfl,fun i x h=>by simp at h⟩
  ·obtain⟨b,o,rfl,hF,hr⟩:=h3 bc
   have eP:At F w b o (l.flatMap s.cells):=At.flat (es:=s.size) (fun d=>Sh.sf s d) l o (fun i hi=>by
    obtain⟨cs',q1,q2,q3⟩:=hr i hi
    exact At.Qo s q2 q3)
   obtain⟨news,n1,n2,n3,n4⟩:=Br eP
   have hl:=u0 (fun d=>Sh.sf s d) l
   exact⟨news,Src.ofSlice w hk _ _ c news (by rw[n1,hl,hs]) (fun j u hj=>by rw[ox];exact n2 j u hj) n4,n1.symm,n3⟩
 |ah j b off len cs h1 h2=>
  obtain⟨a,cap,rfl,c,T,fz,m1,m2,m3,m4⟩:=hv.lh
  have eP:At F w b off ((cs.drop off).take (n*es)):=by
   have:=(aJ.at_ h1 ⟨c,T,fz,m1⟩).drop off
   rw[dU]at this
   intro i x hx
   rw[qc]at hx
   split at hx
   ·exact this i x hx
   ·cases hx
  have hl:((cs.drop off).take (n*es)).length=n*es:=by simp;omega
  obtain⟨news,n1,n2,n3,n4⟩:=Br eP
  rcases m4 with ⟨rfl,_⟩ | ⟨q1,q2,rfl,rfl⟩
  ·exact⟨news,Src.ofSlice w hk _ _ cap news (by rw[n1,hl]) (fun j u hj=>by rw[ox];exact n2 j u hj) n4,n1.symm,n3⟩
  ·have h0:(List.take (0*es) (List.drop off cs))=[]:=by simp
   rw[h0]
   exact⟨[],empty _ _,rfl,fun i x h=>by simp at h⟩
theorem se{η:Operand→Value}{o:Oper}{s x:Operand}{t t':TypeId}(ho:o.op=.call ⟨.builtin .append,#[s,x],#[t,t']⟩){v:Value}{w w':World}(h:(Builtin.append_ #[t,t'] o.type #[η s,η x]).run P w=.ok v w'):(execOp η o).run P w=.ok (.value v) w':=by
 rw[sj _ _ _ o ho]
 simp[builtin,h]
theorem UY(z:Array Value)(n:Nat):(Builtin.zeroCells z n).size=n*z.size:=by simp[Builtin.zeroCells]
theorem Eb{σ:Hp}(aJ:bC F w σ){e:TypeId}{i:TI}{z:Value}{olds news:List Value}{co cn:List AV}{len n cap:Nat}(ho:co.length=olds.length)(hn:cn.length=news.length)(hor:∀(i:Nat) (x:AV),co[i]?=some x→x.leaf=true∧aF F w x (olds.getD i undef))(hnr:∀(i:Nat) (x:AV),cn[i]?=some x→x.leaf=true∧aF F w x (news.getD i undef))
  (CR:olds.length=len*i.size) (CS:news.length=n*i.size) (jB:z.cells.size=i.size) (Ad:len+n≤cap) (uI:cap≤maxLen) :
  let w2:=w.drew.alloc (.cells ((olds++news).toArray++Builtin.zeroCells z.cells (cap-(len+n))) e)
  bL F w F w2∧bC F w2 ((w.heap.size,co++cn)::σ)∧aF F w2 (.ah w.heap.size 0 (len+n) i.size) (.slice (some ⟨w.heap.size,0,none⟩) (len+n) cap):=by
 intro w2
 have eE:((olds++news).toArray++Builtin.zeroCells z.cells (cap-(len+n))).size=cap*i.size:=by
  simp only[Array.size_append,qb,bG,UY,jB,CR,CS]
  rw[← qT,← qT]
  congr 1
  omega
 obtain⟨h1,h2⟩:=MR aJ (c:=(olds++news).toArray++Builtin.zeroCells z.cells (cap-(len+n))) (T:=e) (cs:=co++cn) (by simp;omega) (fun k x hx=>by
  have ab:k<(co++cn).length:=(cR.1 hx).1
  have cY:k<(olds++news).length:=by simp at ab ⊢;omega
  have e1:((olds++news).toArray++Builtin.zeroCells z.cells (cap-(len+n))).getD k undef=(olds++news).getD k undef:=by
   rw[Array.getD_eq_getD_getElem?,Array.getElem?_append_left (by simpa using cY),List.getD_eq_getElem?_getD,List.getElem?_toArray]
  rw[e1]
  by_cases hk:k<co.length
  ·rw[ky hk]at hx
   rw[bO,ky (by omega),← bO]
   exact hor k x hx
  ·rw[iP (by omega)]at hx
   rw[bO,iP (by omega),← bO,← ho]
   exact hnr _ x hx) (w0:=w.drew) (.inr rfl)
 refine⟨h1,h2,.ah _ _ _ _ _ _ ⟨_,e,(0,0),?_,Ad,uI,.inl ⟨rfl,by rw[eE];omega⟩⟩⟩
 exact vx w.drew _
theorem DI(ok:dH P TT){o:Oper}{s x:Operand}{t t' e e':TypeId}(ho:o.op=.call ⟨.builtin .append,#[s,x],#[t,t']⟩){ρ:Operand→AV}{σ:Hp}{K:AV→Hp→Prop}{it rO i:TI}(ht:TT t=some it)(hk:it.k=.slice e)(nm:TT t'=some rO)(eO:rO.k=.slice e')(hi:TT e=some i)
  (h:EV i σ (ρ s) (ρ x) K):j9 P o ρ σ K:=by
 intro a F w hx aJ next Q cz
 obtain⟨_,d,_,_,hd,_,_,jU,_,_⟩:=dz ok ht
 rw[hk]at jU
 obtain rfl:=jZ jU
 obtain⟨_,d',_,_,kd,_,_,vV,_,_⟩:=dz ok nm
 rw[eO]at vV
 obtain rfl:=jZ vV
 obtain⟨j,dj,z,hj,Lm,hs,⟨hb,oa⟩,_,hz,gU⟩:=dz ok hi
 have jB:z.cells.size=i.size:=by have:=(vq (F:=F) (w:=w) gU).1;omega
 have a1:=hx s (by simp[ho,Op.operands,Call.operands])
 have a2:=hx x (by simp[ho,Op.operands,Call.operands])
 have fits:∀{len n:Nat},len+n≤1048576→i.bytes≤1024→(len+n)*j.bytes≤140737488355328:=by
  intro len n h1 h2
  rw[hb]
  have:(len+n)*i.bytes≤1048576*1024:=qa h1 h2
  omega
 cases h with
 |fresh n new gd tZ hn yg h0 go same=>
  obtain⟨news,src,q1,q2⟩:=AX (P:=P) tZ aJ a2 kd
  rw[← hs]at src
  obtain⟨ad,hv⟩:∃ad,a.eval s=.slice ad 0 0:=by
   rcases gd with gd | gd
   ·rw[gd]at a1;revert a1;generalize a.eval s=u;intro a1;cases a1;exact⟨none,rfl⟩
   ·rw[gd]at a1;revert a1;generalize a.eval s=u;intro a1;cases a1;exact⟨_,rfl⟩
  by_cases fF:n=0
  ·subst fF
   have tP:news=[]:=List.length_eq_zero_iff.1 (by rw[src.newsLen];simp)
   subst tP
   have hr:=se (η:=a.eval) ho (by rw[hv];exact run_append_nothing w t t' o.type e j hd hj ad 0 0 (bJ _) _ src)
   unfold wq
   rw[hr]
   exact cz _ _ σ F w (.refl _ _) aJ (by rw[← hv];exact a1) (same rfl)
  ·have hold:(Builtin.firstCells j.size 0 (.slice ad 0 0)).run P w.drew=.ok #[] w.drew:=by
    cases ad with
    |none=>exact run_firstCells_none w.drew _ _ _ _
    |some ad=>exact run_firstCells_some w.drew j.size 0 ad 0 0 [] (by simp) (fun j u h=>by simp at h)
   have xE:=run_append_grow_src (P:=P) w t t' o.type e j z hd hj hz ad 0 0 [] hold _ n news src (by omega) (by omega) (growslice_fits (by omega) (fits (by omega) yg))
   have aq:=grownCap_ge w (0+n) 0 e
   have uG:=grownCap_le_maxLen w (0+n) 0 e (by unfold maxLen;omega)
   obtain⟨g1,g2,g3⟩:=Eb aJ (e:=e) (i:=i) (z:=z) (olds:=[]) (co:=[]) (news:=news) (cn:=new) (len:=0) (n:=n) (cap:=grownCap w (0+n) 0 e) rfl q1 (fun i x h=>by simp at h) q2 (by simp) (by rw[src.newsLen,hs]) jB aq uG
   have hr:=se (η:=a.eval) ho (by rw[hv];exact xE)
   unfold wq
   rw[hr]
   have:=go fF w.heap.size
   rw[show n=0+n from (dU n).symm]at this
   exact cz _ _ _ F _ g1 g2 g3 this
 |more jj b len n cs new oc rR fh tZ hn yg h0 go=>
  obtain⟨news,src,q1,q2⟩:=AX (P:=P) tZ aJ a2 kd
  rw[oc]at a1
  obtain⟨ad,cap,hv,c,T,fz,m1,m2,m3,m4⟩:=a1.lh
  obtain⟨hF,c',T',lI,Ci,FV⟩:=(aJ.holds _ (dm rR)).cells ⟨c,T,fz,m1⟩
  have Ci:cs.length≤c'.size:=Ci
  have Ln:c=c'∧T=T'∧fz=(0,0):=by
   rw[lI]at m1;cases m1;exact⟨rfl,rfl,rfl⟩
  obtain⟨rfl,rfl,rfl⟩:=Ln
  have ab:jj<σ.length:=(cR.1 rR).1
  have sW:(cs.take (len*i.size)).length=len*i.size:=by simp;omega
  have Kg:∀(k:Nat) (x:AV),(cs.take (len*i.size))[k]?=some x→x.leaf=true∧aF F w x (c.getD k undef):=by
   intro k x hx
   rw[qc]at hx
   split at hx
   ·exact FV k x hx
   ·cases hx
  have l0:bC F w (σ.eraseIdx jj):=aJ.sub (List.eraseIdx_sublist _ _)
  by_cases BO:len+n≤cap
  ·rcases m4 with ⟨rfl,xM⟩ | ⟨sZ,nr,gD,sX⟩
   ·rw[dU]at xM
    have hmul:(len+n)*i.size≤cap*i.size:=pf _ BO
    rw[qT]at hmul
    have kT:news.length=n*i.size:=src.newsLen
    have ao:=run_storeCells_at (P:=P) b (len*i.size) T news 0 c w lI (by omega) src.one
    simp only[uN]at ao
    rw[← hs]at src
    have Cj:(Builtin.append_ #[t,t'] o.type #[.slice (some ⟨b,0,none⟩) len cap,a.eval x]).run P w=.ok (.slice (some ⟨b,0,none⟩) (len+n) cap) (w.setRow b (c.toList.take (len*i.size)++news++c.toList.drop (len*i.size+news.length)).toArray):=by
     rw[← hs]at ao ⊢
     simp[Builtin.append_,run_underlying hd,run_underlying kd,sizeOf,typeInfo,hj,src.len,BO,src.cells,Addr.add_lit,ao]
    have hr:=se (η:=a.eval) ho (by rw[hv];exact Cj)
    have hlen:(c.toList.take (len*i.size)++news++c.toList.drop (len*i.size+news.length)).length=c.size:=by simp;omega
    obtain⟨s1,s2⟩:=AY aJ rR (cs':=cs.take (len*i.size)++new) lI (c':=(c.toList.take (len*i.size)++news++c.toList.drop (len*i.size+news.length)).toArray) (by simp only[qb];exact hlen) (by rw[qb,hlen,bG,sW,q1];omega)
     (Ep (cs:=cs.take (len*i.size)) (xs:=new) (fun k y hk=>Kg k y hk) q1 q2 (by omega) (by simp only[bG,sW,q1];omega) (fun k y hk=>by
      by_cases gW:k<len*i.size
      ·rw[aA (by omega)]
       rw[ky (by omega)]at hk
       exact hk
      ·rw[iP (by omega),sW]at hk
       have:=(cR.1 hk).1
       rw[az (by omega)]
       exact hk))
     (fun k hk=>setRow_other w b k _ hk) (setRow_heap w b c _ T _ lI) rfl rfl rfl (by simp)
    unfold wq
    rw[hr]
    refine cz _ _ _ F _ s1 (s2.perm ?_) ?_ (go b)
    ·have:=w7 (σ.set jj (b,cs.take (len*i.size)++new)) jj (b,cs.take (len*i.size)++new) (by simp[ab])
     rw[LQ]at this
     exact this
    ·exact .ah _ _ _ _ _ _ ⟨_,T,(0,0),setRow_heap w b c _ T _ lI,by omega,m3,.inl ⟨rfl,by simp only[qb];rw[hlen];omega⟩⟩
   ·subst gD;subst sX
    obtain rfl:n=0:=by omega
    have tP:news=[]:=List.length_eq_zero_iff.1 (by rw[src.newsLen];simp)
    subst tP
    rw[← hs]at src
    have fK:new=[]:=List.length_eq_zero_iff.1 (by simpa using q1)
    subst fK
    have hr:=se (η:=a.eval) ho (by rw[hv];exact run_append_nothing w t t' o.type e j hd hj (some ad) 0 0 (bJ _) _ src)
    unfold wq
    rw[hr]
    have nL:bC F w ((b,cs)::σ.eraseIdx jj):=aJ.perm (w7 σ jj (b,cs) rR)
    have g0:K (.ah b 0 0 i.size) ((b,[])::σ.eraseIdx jj):=by simpa using go b
    refine cz _ _ ((b,[])::σ.eraseIdx jj) F w (.refl _ _) ⟨nL.nodup,fun p hp=>?_,nL.low⟩ (.ah b 0 0 i.size ad 0 ⟨c,T,(0,0),lI,bJ _,by unfold maxLen;omega,.inr ⟨sZ,nr,rfl,rfl⟩⟩) g0
    rcases ei.1 hp with rfl | hp
    ·exact⟨hF,.inl ⟨c,T,lI,by simp,fun i x h=>by simp at h⟩⟩
    ·exact nL.holds p (dy _ hp)
  ·obtain⟨olds,o1,o2,o3⟩:∃olds:List Value,olds.length=len*i.size∧(Builtin.firstCells i.size len (.slice (some ad) len cap)).run P w.drew=.ok olds.toArray w.drew∧∀(k:Nat) (x:AV),(cs.take (len*i.size))[k]?=some x→x.leaf=true∧aF F w x (olds.getD k undef):=by
    rcases m4 with ⟨rfl,xM⟩ | ⟨sZ,nr,rfl,rfl⟩
    ·have eP:At F w b 0 (cs.take (len*i.size)):=by
      have:=aJ.at_ rR ⟨_,_,_,lI⟩
      intro k x hx
      rw[qc]at hx
      split at hx
      ·exact this k x hx
      ·cases hx
     obtain⟨olds,n1,n2,n3,n4⟩:=Br eP
     refine⟨olds,by rw[n1,sW],run_firstCells_some w.drew i.size len _ len cap olds (by rw[n1,sW]) (fun k u hk=>?_),n3⟩
     rw[ox]
     exact n2 k u hk
    ·exact⟨[],by simp,run_firstCells_some w.drew i.size 0 ad 0 0 [] (by simp) (fun j u h=>by simp at h),fun k x h=>by simp at h⟩
   have kT:news.length=n*i.size:=src.newsLen
   rw[← hs]at src
   have xE:=run_append_grow_src (P:=P) w t t' o.type e j z hd hj hz (some ad) len cap olds (by rw[hs];exact o2) _ n news src (by omega) (by omega) (growslice_fits (by omega) (fits (by omega) yg))
   have aq:=grownCap_ge w (len+n) cap e
   have uG:=grownCap_le_maxLen w (len+n) cap e (by unfold maxLen;omega)
   obtain⟨g1,g2,g3⟩:=Eb l0 (e:=e) (i:=i) (z:=z) (olds:=olds) (co:=cs.take (len*i.size)) (news:=news) (cn:=new) (len:=len) (n:=n) (cap:=grownCap w (len+n) cap e) (by rw[sW,o1]) q1 o3 q2 o1 kT jB aq uG
   have hr:=se (η:=a.eval) ho (by rw[hv];exact xE)
   unfold wq
   rw[hr]
   exact cz _ _ _ F _ g1 g2 g3 (go w.heap.size)
 |zi jj b off len n cs new oc rR fh tZ hn yg h0 vX go=>
  obtain⟨news,src,q1,q2⟩:=AX (P:=P) tZ aJ a2 kd
  rw[oc]at a1
  obtain⟨ad,cap,hv,c,T,fz,m1,m2,m3,m4⟩:=a1.lh
  obtain⟨hF,c',T',lI,Ci,FV⟩:=(aJ.holds _ (dm rR)).cells ⟨c,T,fz,m1⟩
  have Ci:cs.length≤c'.size:=Ci
  have Ln:c=c'∧T=T'∧fz=(0,0):=by
   rw[lI]at m1;cases m1;exact⟨rfl,rfl,rfl⟩
  obtain⟨rfl,rfl,rfl⟩:=Ln
  have ab:jj<σ.length:=(cR.1 rR).1
  have sW:(cs.take (off+len*i.size)).length=off+len*i.size:=by simp;omega
  have Kh:((cs.drop off).take (len*i.size)).length=len*i.size:=by simp;omega
  have Kg:∀(k:Nat) (x:AV),(cs.take (off+len*i.size))[k]?=some x→x.leaf=true∧aF F w x (c.getD k undef):=by
   intro k x hx
   rw[qc]at hx
   split at hx
   ·exact FV k x hx
   ·cases hx
  have l0:bC F w (σ.eraseIdx jj):=aJ.sub (List.eraseIdx_sublist _ _)
  by_cases BO:len+n≤cap
  ·rcases m4 with ⟨rfl,xM⟩ | ⟨sZ,nr,gD,sX⟩
   ·have xM:off+cap*i.size≤c.size:=xM
    have hmul:(len+n)*i.size≤cap*i.size:=pf _ BO
    rw[qT]at hmul
    have kT:news.length=n*i.size:=src.newsLen
    have ao:=run_storeCells_at (P:=P) b (off+len*i.size) T news 0 c w lI (by omega) src.one
    simp only[uN]at ao
    rw[← hs]at src
    have Cj:(Builtin.append_ #[t,t'] o.type #[.slice (some ⟨b,off,none⟩) len cap,a.eval x]).run P w=.ok (.slice (some ⟨b,off,none⟩) (len+n) cap) (w.setRow b (c.toList.take (off+len*i.size)++news++c.toList.drop (off+len*i.size+news.length)).toArray):=by
     rw[← hs]at ao ⊢
     simp[Builtin.append_,run_underlying hd,run_underlying kd,sizeOf,typeInfo,hj,src.len,BO,src.cells,Addr.add_lit,ao]
    have hr:=se (η:=a.eval) ho (by rw[hv];exact Cj)
    have hlen:(c.toList.take (off+len*i.size)++news++c.toList.drop (off+len*i.size+news.length)).length=c.size:=by simp;omega
    obtain⟨s1,s2⟩:=AY aJ rR (cs':=cs.take (off+len*i.size)++new) lI (c':=(c.toList.take (off+len*i.size)++news++c.toList.drop (off+len*i.size+news.length)).toArray) (by simp only[qb];exact hlen) (by rw[qb,hlen,bG,sW,q1];omega)
     (Ep (cs:=cs.take (off+len*i.size)) (xs:=new) (fun k y hk=>Kg k y hk) q1 q2 (by omega) (by simp only[bG,sW,q1];omega) (fun k y hk=>by
      by_cases gW:k<off+len*i.size
      ·rw[aA (by omega)]
       rw[ky (by omega)]at hk
       exact hk
      ·rw[iP (by omega),sW]at hk
       have:=(cR.1 hk).1
       rw[az (by omega)]
       exact hk))
     (fun k hk=>setRow_other w b k _ hk) (setRow_heap w b c _ T _ lI) rfl rfl rfl (by simp)
    unfold wq
    rw[hr]
    refine cz _ _ _ F _ s1 (s2.perm ?_) ?_ vX
    ·have:=w7 (σ.set jj (b,cs.take (off+len*i.size)++new)) jj (b,cs.take (off+len*i.size)++new) (by simp[ab])
     rw[LQ]at this
     exact this
    ·exact .ah _ _ _ _ _ _ ⟨_,T,(0,0),setRow_heap w b c _ T _ lI,by omega,m3,.inl ⟨rfl,by simp only[qb];rw[hlen];omega⟩⟩
   ·subst gD;subst sX
    obtain rfl:n=0:=by omega
    have tP:news=[]:=List.length_eq_zero_iff.1 (by rw[src.newsLen];simp)
    subst tP
    rw[← hs]at src
    have fK:new=[]:=List.length_eq_zero_iff.1 (by simpa using q1)
    subst fK
    have hr:=se (η:=a.eval) ho (by rw[hv];exact run_append_nothing w t t' o.type e j hd hj (some ad) 0 0 (bJ _) _ src)
    unfold wq
    rw[hr]
    have nL:bC F w ((b,cs)::σ.eraseIdx jj):=aJ.perm (w7 σ jj (b,cs) rR)
    have g0:K (.ah b off 0 i.size) ((b,cs.take off)::σ.eraseIdx jj):=by simpa using vX
    refine cz _ _ ((b,cs.take off)::σ.eraseIdx jj) F w (.refl _ _) ⟨nL.nodup,fun p hp=>?_,nL.low⟩ (.ah b off 0 i.size ad 0 ⟨c,T,(0,0),lI,bJ _,by unfold maxLen;omega,.inr ⟨sZ,nr,rfl,rfl⟩⟩) g0
    rcases ei.1 hp with rfl | hp
    ·exact⟨hF,.inl ⟨c,T,lI,by simp only[uT];omega,fun k x h=>by
      rw[qc]at h
      split at h
      ·exact FV k x h
      ·cases h⟩⟩
    ·exact nL.holds p (dy _ hp)
  ·obtain⟨olds,o1,o2,o3⟩:∃olds:List Value,olds.length=len*i.size∧(Builtin.firstCells i.size len (.slice (some ad) len cap)).run P w.drew=.ok olds.toArray w.drew∧∀(k:Nat) (x:AV),((cs.drop off).take (len*i.size))[k]?=some x→x.leaf=true∧aF F w x (olds.getD k undef):=by
    rcases m4 with ⟨rfl,xM⟩ | ⟨sZ,nr,rfl,rfl⟩
    ·have eP:At F w b off ((cs.drop off).take (len*i.size)):=by
      have:=aJ.at_ rR ⟨_,_,_,lI⟩
      intro k x hx
      rw[qc]at hx
      split at hx
      ·rw[yo]at hx
       have h5:=this (off+k) x hx
       simpa only [dU]using h5
      ·cases hx
     obtain⟨olds,n1,n2,n3,n4⟩:=Br eP
     refine⟨olds,by rw[n1,Kh],run_firstCells_some w.drew i.size len _ len cap olds (by rw[n1,Kh]) (fun k u hk=>?_),n3⟩
     rw[ox]
     exact n2 k u hk
    ·exact⟨[],by simp,run_firstCells_some w.drew i.size 0 ad 0 0 [] (by simp) (fun j u h=>by simp at h),fun k x h=>by simp at h⟩
   have kT:news.length=n*i.size:=src.newsLen
   rw[← hs]at src
   have xE:=run_append_grow_src (P:=P) w t t' o.type e j z hd hj hz (some ad) len cap olds (by rw[hs];exact o2) _ n news src (by omega) (by omega) (growslice_fits (by omega) (fits (by omega) yg))
   have aq:=grownCap_ge w (len+n) cap e
   have uG:=grownCap_le_maxLen w (len+n) cap e (by unfold maxLen;omega)
   obtain⟨g1,g2,g3⟩:=Eb l0 (e:=e) (i:=i) (z:=z) (olds:=olds) (co:=(cs.drop off).take (len*i.size)) (news:=news) (cn:=new) (len:=len) (n:=n) (cap:=grownCap w (len+n) cap e) (by rw[Kh,o1]) q1 o3 q2 o1 kT jB aq uG
   have hr:=se (η:=a.eval) ho (by rw[hv];exact xE)
   unfold wq
   rw[hr]
   exact cz _ _ _ F _ g1 g2 g3 (go w.heap.size)
theorem Tl(w:World)(t t' ty e:TypeId)(k:IntKind)(i:TypeInfo)(z:Value)(hd:P.underlying t=some (.slice e))(kd:P.underlying t'=some (.int k))(hi:P.info? e=some i)(hz:i.zero=some z)(k':IntKind)(m:Nat)(h0:0<m)(hm:m≤1048576)(hb:m*i.bytes≤140737488355328)(hs:0<i.size):
  (Builtin.append_ #[t,t'] ty #[.slice none 0 0,.int k' (m:Int)]).run P w=.ok (.slice (some ⟨w.heap.size,0,none⟩) m (grownCap w m 0 e)) (w.drew.alloc (.cells (([]++(Builtin.zeroCells z.cells m).toList).toArray++Builtin.zeroCells z.cells (grownCap w m 0 e-m)) e)):=by
 have hw:IntKind.i64.wrap (m:Int)=m:=by rw[IntKind.wrap_i64];omega
 have h1:¬((m:Int)<0):=by omega
 have h2:¬((281474976710656:Int)<(m:Int)*(i.bytes:Int)):=by
  have:((m*i.bytes:Nat):Int)≤140737488355328:=by omega
  rw[Dr]at this;omega
 have h3:¬(9223372036854775807<(m:Int)):=by omega
 have h4:¬(281474976710656<Builtin.nextslicecap m 0*i.bytes):=by rw[nextslicecap_zero h0];omega
 have h5:m≠0:=by omega
 have h6:i.size≠0:=by omega
 simp[Builtin.append_,run_underlying hd,run_underlying kd,sizeOf,typeInfo,zeroValue,hi,hz,asInt,asIntOf,hw,h1,h2,h3,h4,h5,Question.forced,run_firstCells_none,newRow,grownCap]
 intro h7
 exact absurd h7 (Nat.mul_ne_zero h5 h6)
theorem TG(ok:dH P TT){o:Oper}{s x:Operand}{t t' e:TypeId}{k:IntKind}(ho:o.op=.call ⟨.builtin .append,#[s,x],#[t,t']⟩){ρ:Operand→AV}{σ:Hp}{K:AV→Hp→Prop}{it rO i:TI}(ht:TT t=some it)(hk:it.k=.slice e)(nm:TT t'=some rO)(eO:rO.k=.int k)(hi:TT e=some i)
  (h:Bu i σ (ρ s) (ρ x) K):j9 P o ρ σ K:=by
 intro a F w hx aJ next Q cz
 obtain⟨_,d,_,_,hd,_,_,jU,_,_⟩:=dz ok ht
 rw[hk]at jU
 obtain rfl:=jZ jU
 obtain⟨_,d',_,_,kd,_,_,vV,_,_⟩:=dz ok nm
 rw[eO]at vV
 obtain rfl:=fits_int vV
 obtain⟨j,dj,z,hj,Lm,hs,⟨hb,oa⟩,_,hz,gU⟩:=dz ok hi
 have jB:z.cells.size=i.size:=by have:=(vq (F:=F) (w:=w) gU).1;omega
 have a1:=hx s (by simp[ho,Op.operands,Call.operands])
 have a2:=hx x (by simp[ho,Op.operands,Call.operands])
 cases h with
 |ak k2 n gd wk hn yg h0 go same=>
  rw[gd]at a1
  rw[wk]at a2
  have e1:a.eval s=.slice none 0 0:=by revert a1;generalize a.eval s=u;intro a1;cases a1;rfl
  have e2:a.eval x=.int k2 n:=a2.gM
  by_cases fF:n=0
  ·subst fF
   have Cj:(Builtin.append_ #[t,t'] o.type #[.slice none 0 0,.int k2 0]).run P w=.ok (.slice none 0 0) w:=by
    have hw:IntKind.i64.wrap 0=0:=by decide
    simp[Builtin.append_,run_underlying hd,run_underlying kd,sizeOf,typeInfo,hj,asInt,asIntOf,hw]
   have hr:=se (η:=a.eval) ho (by rw[e1,e2];exact Cj)
   unfold wq
   rw[hr]
   exact cz _ _ σ F w (.refl _ _) aJ .ak (same rfl)
  ·obtain⟨m,rfl⟩:∃m:Nat,n=m:=⟨n.toNat,by omega⟩
   have Gv:0<m:=by omega
   have hmul:m*j.bytes≤140737488355328:=by
    rw[hb]
    have:m*i.bytes≤1048576*1024:=qa (by omega) yg
    omega
   have xE:=Tl (P:=P) w t t' o.type e k j z hd kd hj hz k2 m Gv (by omega) hmul (by omega)
   have aq:=grownCap_ge w m 0 e
   have uG:=grownCap_le_maxLen w m 0 e (by unfold maxLen;omega)
   obtain⟨r1,r2⟩:=Eo (F:=F) (w:=w) gU (bJ m)
   have kI:(madeCells z.cells (m*i.zero.length))=Builtin.zeroCells z.cells m:=by
    unfold madeCells Builtin.zeroCells
    rw[jB,oa]
   have eE:(Builtin.zeroCells z.cells m).size=m*i.zero.length:=by rw[← kI,size_madeCells]
   obtain⟨g1,g2,g3⟩:=Eb aJ (e:=e) (i:=i) (z:=z) (olds:=[]) (co:=[]) (news:=(Builtin.zeroCells z.cells m).toList) (cn:=cN i.zero m) (len:=0) (n:=m) (cap:=grownCap w m 0 e) rfl (by rw[uY,Array.length_toList,eE]) (fun i x h=>by simp at h) (fun k y hk=>by
    have:=r2 k y hk
    rw[kI]at this
    rw[bO,Av,← jG]
    exact this) (by simp) (by rw[Array.length_toList,eE,oa]) jB (by rw[Nat.zero_add];exact aq) uG
   rw[dU]at g1 g2 g3
   have hr:=se (η:=a.eval) ho (by rw[e1,e2];exact xE)
   unfold wq
   rw[hr]
   exact cz _ _ _ F _ g1 g2 g3 (go (by omega) w.heap.size)
theorem TV(ok:dH P TT){o:Oper}{s x:Operand}{t t' e e':TypeId}(ho:o.op=.call ⟨.builtin .append,#[s,x],#[t,t']⟩){ρ:Operand→AV}{σ:Hp}{K:AV→Hp→Prop}{it rO i:TI}(ht:TT t=some it)(hk:it.k=.slice e)(nm:TT t'=some rO)(eO:rO.k=.slice e')(hi:TT e=some i)
  (h:AppendAt i σ (ρ s) (ρ x) K):j9 P o ρ σ K:=by
 cases h with
 |fresh n new hs hx hn hb h0 go same=>exact DI ok ho ht hk nm eO hi (.fresh n new hs hx hn hb h0 go same)
 |more j b len n cs new hs h1 h2 hx hn hb h0 go=>exact DI ok ho ht hk nm eO hi (.more j b len n cs new hs h1 h2 hx hn hb h0 go)
 |zi j b off len n cs new hs h1 h2 hx hn hb h0 vX go=>exact DI ok ho ht hk nm eO hi (.zi j b off len n cs new hs h1 h2 hx hn hb h0 vX go)
 |perm K2 hp h cY=>
  have:=DI ok ho ht hk nm eO hi h
  intro a F w hx aJ next Q hn
  refine this a F w hx (aJ.perm hp) next Q (fun v av σ' F' w' h1 h2 h3 h4=>?_)
  obtain⟨xT,p,k | ⟨hl,k⟩⟩:=cY av σ' h4
  ·exact hn v av xT F' w' h1 (h2.perm p) h3 k
  ·exact hn v _ xT F' w' h1 (h2.perm p) (.via _ _ hl h3) k
end
section
variable {P:Program} {TT:TypeId→Option TI} {F:Nat→Prop} {w:World}
theorem HZ{σ:Hp}(aJ:bC F w σ){j b off:Nat}{cs:List AV}(h1:σ[j]?=some (b,cs))(Lo:nE w b)(xs:List AV)(news:List Value)(hl:xs.length=news.length)(hle:off+xs.length≤cs.length)(hv:∀(k:Nat) (y:AV),xs[k]?=some y→y.leaf=true∧aF F w y (news.getD k undef)):
  ∃w',(storeCells ⟨b,off,none⟩ news).run P w=.ok () w'∧bL F w F w'∧bC F w' (σ.set j (b,gi cs off xs)):=by
 obtain⟨hF,c,T,hc,fh,np⟩:=(aJ.holds _ (dm h1)).cells Lo
 have fh:cs.length≤c.size:=fh
 have qG:∀u∈news,u.oneCell'=true:=by
  intro u hu
  obtain⟨k,hk⟩:=yp.1 hu
  have ab:k<news.length:=(cR.1 hk).1
  obtain⟨h3,h4⟩:=hv k (xs[k]'(by omega)) (by simp)
  have:=h4.one h3
  rwa [bO,hk]at this
 have ao:=run_storeCells_at (P:=P) b off T news 0 c w hc (by omega) qG
 simp only[uN]at ao
 have hlen:(c.toList.take off++news++c.toList.drop (off+news.length)).length=c.size:=by simp;omega
 obtain⟨s1,s2⟩:=AY aJ h1 (cs':=gi cs off xs) hc (c':=(c.toList.take off++news++c.toList.drop (off+news.length)).toArray) (by simp only[qb];exact hlen) (by rw[yz];simp only[qb];omega)
  (Ep (xs:=xs) np hl hv (by omega) (by rw[yz];omega) (fun k y hk=>by rw[Hv _ _ _ _ (by omega)]at hk;exact hk))
  (fun k hk=>setRow_other w b k _ hk) (setRow_heap w b c _ T _ hc) rfl rfl rfl (by simp)
 exact⟨_,ao,s1,s2⟩
theorem MB{η:Operand→Value}{o:Oper}{s:Operand}{t:TypeId}(ho:o.op=.call ⟨.builtin .clear,#[s],#[t]⟩){v:Value}{w w':World}(h:(Builtin.clear_ #[t] o.type #[η s]).run P w=.ok v w'):(execOp η o).run P w=.ok (.value v) w':=by
 rw[sj _ _ _ o ho]
 simp[builtin,h]
theorem AL{η:Operand→Value}{o:Oper}{d x:Operand}{t t':TypeId}(ho:o.op=.call ⟨.builtin .copy,#[d,x],#[t,t']⟩){v:Value}{w w':World}(h:(Builtin.copy_ #[t,t'] o.type #[η d,η x]).run P w=.ok v w'):(execOp η o).run P w=.ok (.value v) w':=by
 rw[sj _ _ _ o ho]
 simp[builtin,h]
theorem Ig{σ:Hp}{j:Nat}{p:Nat×List AV}(h:σ[j]?=some p):σ.set j p=σ:=by
 obtain⟨h1,h2⟩:=cR.1 h
 subst h2
 exact List.set_getElem_self h1
theorem UD(ok:dH P TT){o:Oper}{s:Operand}{t e:TypeId}(ho:o.op=.call ⟨.builtin .clear,#[s],#[t]⟩){ρ:Operand→AV}{σ:Hp}{K:AV→Hp→Prop}{it i:TI}(ht:TT t=some it)(hk:it.k=.slice e)(hi:TT e=some i)(h:QS i σ (ρ s) (fun σ'=>K (.tup []) σ')):j9 P o ρ σ K:=by
 intro a F w hx aJ next Q cz
 obtain⟨_,d,_,_,hd,_,_,jU,_,_⟩:=dz ok ht
 rw[hk]at jU
 obtain rfl:=jZ jU
 obtain⟨j,dj,z,hj,Lm,hs,⟨hb,oa⟩,_,hz,gU⟩:=dz ok hi
 have a1:=hx s (by simp[ho,Op.operands,Call.operands])
 have e0:∀(ad:Option Addr) (c:Nat),(Builtin.clear_ #[t] o.type #[.slice ad 0 c]).run P w=.ok (.tuple #[]) w:=fun ad c=>by
  cases ad <;> simp[Builtin.clear_,run_underlying hd]
 have done:∀(ad:Option Addr) (c:Nat),a.eval s=.slice ad 0 c→K (.tup []) σ→wq P o a w next Q:=fun ad c hv hK=>by
  unfold wq
  rw[MB (η:=a.eval) ho (by rw[hv];exact e0 ad c)]
  exact cz (.tuple #[]) _ σ F w (.refl _ _) aJ (.tup _ _ rfl (fun i x h=>by simp at h)) hK
 cases h with
 |none hs go=>
  rcases hs with hs | hs | hs
  ·rw[hs]at a1;generalize hv:a.eval s=v at a1;cases a1;exact done _ _ hv go
  ·rw[hs]at a1;generalize hv:a.eval s=v at a1;cases a1;exact done _ _ hv go
  ·rw[hs]at a1;generalize hv:a.eval s=v at a1;cases a1;exact done _ _ hv go
 |ah j' b off len cs oc h1 h2 go=>
  rw[oc]at a1
  obtain⟨ad,cap,hv,c,T,fz,m1,m2,m3,m4⟩:=a1.lh
  by_cases gD:len=0
  ·subst gD
   refine done _ _ hv ?_
   have e:gi cs off (cN i.zero 0)=cs:=rfl
   rw[e,Ig h1]at go
   exact go
  ·obtain⟨rfl,_⟩:ad=⟨b,off,none⟩∧off+cap*i.size≤c.size:=by
    rcases m4 with h | ⟨_,_,h,_⟩
    ·exact h
    ·exact absurd h gD
   obtain⟨r1,r2⟩:=Eo (F:=F) (w:=w) gU (bJ len)
   have adG:z.cells.size=i.zero.length:=((vq (F:=F) (w:=w) gU).1).symm
   have kI:(madeCells z.cells (len*i.zero.length))=Builtin.zeroCells z.cells len:=by
    unfold madeCells Builtin.zeroCells
    rw[adG]
   have eE:(Builtin.zeroCells z.cells len).size=len*i.zero.length:=by rw[← kI,size_madeCells]
   obtain⟨w',k1,k2,k3⟩:=HZ (P:=P) aJ h1 (off:=off) ⟨_,_,_,m1⟩ (cN i.zero len) (Builtin.zeroCells z.cells len).toList (by rw[uY,L6,eE]) (by rw[uY,oa];exact h2) (fun k y hk=>by
    have:=r2 k y hk
    rw[kI]at this
    refine⟨this.1,?_⟩
    rw[bO,Av,← jG]
    exact this.2)
   obtain⟨len,rfl⟩:∃m,len=m+1:=⟨len-1,by omega⟩
   have fq:(Builtin.clear_ #[t] o.type #[.slice (some ⟨b,off,none⟩) (len+1) cap]).run P w=.ok (.tuple #[]) w':=by
    simp[Builtin.clear_,run_underlying hd,zeroValue,typeInfo,hj,hz,k1]
   unfold wq
   rw[MB (η:=a.eval) ho (by rw[hv];exact fq)]
   exact cz (.tuple #[]) _ _ F w' k2 k3 (.tup _ _ rfl (fun i x h=>by simp at h)) go
theorem Vy(ok:dH P TT){o:Oper}{d x:Operand}{t t' e e':TypeId}(ho:o.op=.call ⟨.builtin .copy,#[d,x],#[t,t']⟩){ρ:Operand→AV}{σ:Hp}{K:AV→Hp→Prop}{it rO i:TI}(ht:TT t=some it)(hk:it.k=.slice e)(nm:TT t'=some rO)(eO:rO.k=.slice e')(hi:TT e=some i)
  (h:Ju i σ (ρ d) (ρ x) K):j9 P o ρ σ K:=by
 intro a F w hx aJ next Q cz
 obtain⟨_,dd,_,_,hd,_,_,jU,_,_⟩:=dz ok ht
 rw[hk]at jU
 obtain rfl:=jZ jU
 obtain⟨_,d',_,_,kd,_,_,vV,_,_⟩:=dz ok nm
 rw[eO]at vV
 obtain rfl:=jZ vV
 obtain⟨j,dj,z,hj,Lm,hs,_⟩:=dz ok hi
 have a1:=hx d (by simp[ho,Op.operands,Call.operands])
 have a2:=hx x (by simp[ho,Op.operands,Call.operands])
 cases h with
 |none new mH tZ go=>
  obtain⟨news,src,q1,q2⟩:=AX (P:=P) tZ aJ a2 kd
  have tP:news=[]:=List.length_eq_zero_iff.1 (by rw[src.newsLen];simp)
  subst tP
  rw[← hs]at src
  obtain⟨ad,c,hv⟩:∃ad c,a.eval d=.slice ad 0 c:=by
   rcases mH with mH | mH | mH
   ·rw[mH]at a1;generalize a.eval d=v at a1;cases a1;exact⟨_,_,rfl⟩
   ·rw[mH]at a1;generalize a.eval d=v at a1;cases a1;exact⟨_,_,rfl⟩
   ·rw[mH]at a1;generalize a.eval d=v at a1;cases a1;exact⟨_,_,rfl⟩
  have fq:(Builtin.copy_ #[t,t'] o.type #[.slice ad 0 c,a.eval x]).run P w=.ok (goInt 0) w:=by
   cases ad <;> simp[Builtin.copy_,run_underlying hd,src.len,sizeOf,typeInfo,hj,src.cells,storeCells]
  unfold wq
  rw[AL (η:=a.eval) ho (by rw[hv];exact fq)]
  exact cz _ _ σ F w (.refl _ _) aJ (.int _ _) go
 |ah jj b off len n cs new Ll h1 h2 tZ hn go=>
  obtain⟨news,src,q1,q2⟩:=AX (P:=P) tZ aJ a2 kd
  rw[Ll]at a1
  obtain⟨ad,cap,hv,c,T,fz,m1,m2,m3,m4⟩:=a1.lh
  have kT:news.length=n*i.size:=src.newsLen
  have hmul:n*i.size≤len*i.size:=pf _ hn
  rw[← hs]at src
  by_cases gD:len=0
  ·obtain rfl:n=0:=by omega
   have tP:news=[]:=List.length_eq_zero_iff.1 (by rw[kT];simp)
   subst tP
   have fK:new=[]:=List.length_eq_zero_iff.1 (by simpa using q1)
   subst fK
   subst gD
   have fq:(Builtin.copy_ #[t,t'] o.type #[.slice (some ad) 0 cap,a.eval x]).run P w=.ok (goInt 0) w:=by
    simp[Builtin.copy_,run_underlying hd,src.len,sizeOf,typeInfo,hj,src.cells,storeCells]
   unfold wq
   rw[AL (η:=a.eval) ho (by rw[hv];exact fq)]
   have e:gi cs off ([]:List AV)=cs:=rfl
   rw[e,Ig h1]at go
   exact cz _ _ σ F w (.refl _ _) aJ (.int _ _) go
  ·obtain⟨rfl,_⟩:ad=⟨b,off,none⟩∧off+cap*i.size≤c.size:=by
    rcases m4 with h | ⟨_,_,h,_⟩
    ·exact h
    ·exact absurd h gD
   obtain⟨w',k1,k2,k3⟩:=HZ (P:=P) aJ h1 (off:=off) ⟨_,_,_,m1⟩ new news q1 (by omega) q2
   have fq:(Builtin.copy_ #[t,t'] o.type #[.slice (some ⟨b,off,none⟩) len cap,a.eval x]).run P w=.ok (goInt n) w':=by
    simp[Builtin.copy_,run_underlying hd,src.len,sizeOf,typeInfo,hj,Nat.min_eq_left hn,src.cells,k1]
   unfold wq
   rw[AL (η:=a.eval) ho (by rw[hv];exact fq)]
   exact cz _ _ _ F w' k2 k3 (.int _ _) go
 |part jj b off len cs Ll h1 h2 j2 b2 mY n kz hxm h3 h4 hn go=>
  rw[Ll]at a1
  rw[hxm]at a2
  obtain⟨ad,cap,hv,c,T,fz,m1,m2,m3,m4⟩:=a1.lh
  obtain⟨a3,xO,hv3,c3,T3,Ha,p1,p2,p3,p4⟩:=a2.lh
  have hmul:len*i.size≤n*i.size:=pf _ hn
  by_cases gD:len=0
  ·subst gD
   have hc:(Builtin.firstCells i.size 0 (.slice (some a3) n xO)).run P w=.ok (([]:List Value).toArray) w:=run_firstCells_some w i.size 0 a3 n xO [] (by simp) (fun j u h=>by simp at h)
   rw[← hs]at hc
   have fq:(Builtin.copy_ #[t,t'] o.type #[.slice (some ad) 0 cap,.slice (some a3) n xO]).run P w=.ok (goInt 0) w:=by
    simp[Builtin.copy_,run_underlying hd,sizeOf,typeInfo,hj,Builtin.lenOf,hc,storeCells]
   unfold wq
   rw[AL (η:=a.eval) ho (by rw[hv,hv3];exact fq)]
   have e:gi cs off ((kz.drop mY).take (0*i.size))=cs:=by rw[wN];rfl
   rw[e,Ig h1]at go
   exact cz _ _ σ F w (.refl _ _) aJ (.int _ _) go
  ·obtain⟨rfl,_⟩:ad=⟨b,off,none⟩∧off+cap*i.size≤c.size:=by
    rcases m4 with h | ⟨_,_,h,_⟩
    ·exact h
    ·exact absurd h gD
   obtain⟨rfl,_⟩:a3=⟨b2,mY,none⟩∧mY+xO*i.size≤c3.size:=by
    rcases p4 with h | ⟨_,_,h,_⟩
    ·exact h
    ·omega
   have eP:At F w b2 mY ((kz.drop mY).take (len*i.size)):=by
    have:=(aJ.at_ h3 ⟨c3,T3,Ha,p1⟩).drop mY
    rw[dU]at this
    intro i x hx
    rw[qc]at hx
    split at hx
    ·exact this i x hx
    ·cases hx
   have hl:((kz.drop mY).take (len*i.size)).length=len*i.size:=by simp;omega
   obtain⟨news,n1,n2,n3,n4⟩:=Br eP
   have hc:(Builtin.firstCells i.size len (.slice (some ⟨b2,mY,none⟩) n xO)).run P w=.ok news.toArray w:=run_firstCells_some w i.size len _ n xO news (by rw[n1,hl]) (fun j u hj=>by rw[ox];exact n2 j u hj)
   rw[← hs]at hc
   obtain⟨w',k1,k2,k3⟩:=HZ (P:=P) aJ h1 (off:=off) ⟨_,_,_,m1⟩ ((kz.drop mY).take (len*i.size)) news n1.symm (by rw[hl];exact h2) n3
   have fq:(Builtin.copy_ #[t,t'] o.type #[.slice (some ⟨b,off,none⟩) len cap,.slice (some ⟨b2,mY,none⟩) n xO]).run P w=.ok (goInt len) w':=by
    simp[Builtin.copy_,run_underlying hd,sizeOf,typeInfo,hj,Builtin.lenOf,Nat.min_eq_right hn,hc,k1]
   unfold wq
   rw[AL (η:=a.eval) ho (by rw[hv,hv3];exact fq)]
   exact cz _ _ _ F w' k2 k3 (.int _ _) go
end
section
variable {P:Program} {TT:TypeId→Option TI}
theorem Tq{F:Nat→Prop}{w:World}:∀(s:Sh) (d:s.T) (vs:List Value),vs.length=s.size→(∀(k:Nat) (x:AV),(s.cells d)[k]?=some x→aF F w x (vs.getD k undef))→kG F w s vs d:=by
 intro s
 induction s with
 |int k=>intro d vs hl h;match vs,hl with | [v],_=>have:=(h 0 _ rfl).gM;exact congrArg (fun x=>[x]) this
 |bool=>intro d vs hl h;match vs,hl with | [v],_=>have:=(h 0 _ rfl).qz;exact congrArg (fun x=>[x]) this
 |str=>intro d vs hl h;match vs,hl with | [v],_=>have:=(h 0 _ rfl).B2;exact congrArg (fun x=>[x]) this
 |nil=>intro d vs hl h;exact jm.1 hl
 |slice e ih=>
  intro d vs hl h
  match vs,hl with
  | [v],_=>
   have:=h 0 _ rfl
   cases this with
   |af _ _ _ h=>exact h
 |field f r pS jS=>
  intro d vs hl h
  simp only[Sh.size]at hl
  refine⟨vs.take f.size,vs.drop f.size,(List.take_append_drop _ _).symm,by simp;omega,pS d.1 _ (by simp;omega) (fun k x hk=>?_),jS d.2 _ (by simp;omega) (fun k x hk=>?_)⟩
  ·have gW:k<f.size:=by rw[← Sh.sf f d.1];exact (cR.1 hk).1
   have:=h k x (by show (f.cells d.1++r.cells d.2)[k]?=some x;rw[ky (by rw[Sh.sf];exact gW)];exact hk)
   rw[bO]at this ⊢
   rw[qc,az gW]
   exact this
  ·have:=h (f.size+k) x (by show (f.cells d.1++r.cells d.2)[f.size+k]?=some x;rw[iP (by rw[Sh.sf];omega),Sh.sf,GZ];exact hk)
   rw[bO]at this ⊢
   rw[yo]
   exact this
theorem flat_get{α:Type}{f:α→List AV}{es:Nat}(hf:∀x,(f x).length=es):∀(l:List α) (i:Nat) (h:i<l.length) (k:Nat),k<es→(l.flatMap f)[i*es+k]?=(f l[i])[k]?
 | [],i,h,_,_=>by simp at h
 |y::l,0,h,k,hk=>by rw[List.flatMap_cons,List.getElem?_append_left (by rw[hf];omega)];simp
 |y::l,i+1,h,k,hk=>by
  rw[uS,iP (by rw[hf,uO];omega),hf,show (i+1)*es+k-es=i*es+k by rw[uO];omega]
  simpa using flat_get hf l i (by simpa using h) k hk
theorem Yi{F:Nat→Prop}{w:World}{σ:Hp}(aJ:bC F w σ){j b off len es:Nat}{cs:List AV}{e:Sh}{l:List e.T}(h1:σ[j]?=some (b,cs))(h2:(cs.drop off).take (len*es)=l.flatMap e.cells)(h3:l.length=len∧e.size=es∧0<es){v:Value}(hv:aF F w (.ah b off len es) v):
  aF (fun x=>F x∨x=b) w (.af e l) v:=by
 obtain⟨hl,he,sJ⟩:=h3
 have ao:bL F w (fun x=>F x∨x=b) w:=⟨rfl,rfl,rfl,bJ _,fun _ h=>.inl h,fun _ _=>rfl,fun _ c _ fz h=>⟨c,fz,h,rfl⟩,bJ _⟩
 obtain⟨a,cap,rfl,c,T,fz,m1,m2,m3,m4⟩:=hv.lh
 subst hl
 refine .af e l _ ⟨some a,cap,rfl,m2,m3,(fun e=>by cases e),fun bc=>?_⟩
 have lG:0<l.length:=mK.2 bc
 rcases m4 with ⟨rfl,xM⟩ | ⟨_,_,h0,_⟩
 ·refine⟨b,off,rfl,⟨.inr rfl,c,T,fz,m1⟩,fun i hi=>?_⟩
  have eP:At F w b off ((cs.drop off).take (l.length*es)):=by
   have:=(aJ.at_ h1 ⟨c,T,fz,m1⟩).drop off
   rw[dU]at this
   intro i x hx
   rw[qc]at hx
   split at hx
   ·exact this i x hx
   ·cases hx
  rw[h2]at eP
  have kI:∀k,k<es→∃x v,(e.cells l[i])[k]?=some x∧w.cell? ⟨b,off+i*es+k,none⟩=some v∧aF F w x v:=by
   intro k hk
   have hlen:k<(e.cells l[i]).length:=by rw[Sh.sf,he];exact hk
   have hx:=bN hlen
   have:=flat_get (f:=e.cells) (es:=es) (fun d=>by rw[Sh.sf,he]) l i hi k hk
   obtain⟨_,v,h4,h5⟩:=eP (i*es+k) _ (this.trans hx)
   exact⟨_,v,hx,by rw[← h4,Du],h5⟩
  refine⟨(List.range es).map fun k=>(w.cell? ⟨b,off+i*es+k,none⟩).getD undef,by simp[he],fun k u hk=>?_,Tq e l[i] _ (by simp[he]) (fun k x hk=>?_)⟩
  ·have CT:k<es:=by have:=(List.getElem?_eq_some_iff.1 hk).1;simpa using this
   obtain⟨x,v,_,h4,_⟩:=kI k CT
   simp[CT,h4]at hk
   rw[he,h4,hk]
  ·have CT:k<es:=by have:=(cR.1 hk).1;rw[Sh.sf,he]at this;exact this
   obtain⟨x',v,h3,h4,h5⟩:=kI k CT
   rw[h3]at hk
   cases hk
   have:aF F w x v:=h5
   simpa [List.getD,CT,h4]using this.mono ao
 ·omega
theorem w8{F F':Nat→Prop}{w:World}{b off len es:Nat}{e:Sh}{l:List e.T}(ao:bL F w F' w)(hh:∀v,aF F w (.ah b off len es) v→aF F' w (.af e l) v){r r':AV}(h:eI b off len es e l r r'):∀v,aF F w r v→aF F' w r' v:=by
 induction h with
 |here=>exact hh
 |refl x=>exact fun v h=>h.mono ao
 |tup xs ys h hi ih=>
  intro v hv
  cases hv with
  |tup _ vs hs hr=>
   refine .tup _ _ (by rw[← h];exact hs) (fun i y hy=>?_)
   have uE:i<xs.length:=by rw[h];exact (cR.1 hy).1
   exact ih i xs[i] y (bN uE) hy _ (hr i _ (bN uE))
 |agg xs ys h hl hi ih=>
  intro v hv
  obtain⟨vs,rfl,hs,hr⟩:=hv.sN
  refine .agg _ _ (by rw[← h];exact hs) hl (fun i y hy=>?_)
  have uE:i<xs.length:=by rw[h];exact (cR.1 hy).1
  exact ih i xs[i] y (bN uE) hy _ (hr i _ (bN uE)).2
 |nil e'=>
  intro v hv
  cases hv
  exact .af e' [] _ ⟨none,0,rfl,bJ _,by unfold maxLen;omega,fun _=>rfl,fun bc=>absurd rfl bc⟩
 |gZ e'=>
  intro v hv
  cases hv with
  |gZ a c h=>exact .af e' [] _ ⟨some a,c,rfl,aY _,h,(fun e=>by cases e),fun bc=>absurd rfl bc⟩
 |via h ih=>
  intro v hv
  cases hv with
  |via _ _ _ hv=>exact ih v hv
theorem su{F:Nat→Prop}{w:World}{σ:Hp}(aJ:bC F w σ){j b off len es:Nat}{cs:List AV}{e:Sh}{l:List e.T}(h1:σ[j]?=some (b,cs))(h2:(cs.drop off).take (len*es)=l.flatMap e.cells)(h3:l.length=len∧e.size=es∧0<es):
  bL F w (fun x=>F x∨x=b) w∧bC (fun x=>F x∨x=b) w (σ.eraseIdx j)∧∀v,aF F w (.ah b off len es) v→aF (fun x=>F x∨x=b) w (.af e l) v:=by
 have ao:bL F w (fun x=>F x∨x=b) w:=⟨rfl,rfl,rfl,bJ _,fun _ h=>.inl h,fun _ _=>rfl,fun _ c _ fz h=>⟨c,fz,h,rfl⟩,bJ _⟩
 have nL:bC F w ((b,cs)::σ.eraseIdx j):=aJ.perm (w7 σ j (b,cs) h1)
 have ck:=nL.nodup
 simp only[o8,mJ]at ck
 have mA:bC (fun x=>F x∨x=b) w (σ.eraseIdx j):=⟨ck.2,fun p hp=>(nL.holds p (dy _ hp)).mono ao rfl (fun hF=>by
  rcases hF with hF | hF
  ·exact (nL.holds p (dy _ hp)).1 hF
  ·exact ck.1 (fi.2 ⟨p,hp,hF⟩)),fun x hx=>by
  rcases hx with hx | hx
  ·exact aJ.low x hx
  ·subst hx;exact (nL.holds (x,cs) (cF ..)).lt⟩
 exact⟨ao,mA,fun v hv=>Yi aJ h1 h2 h3 hv⟩
end
section
variable {P:Program} {TT:TypeId→Option TI}
theorem Hs{F:Nat→Prop}{w:World}{xs:Array Operand}{ρ:Operand→AV}{η:Operand→Value}(h:∀x∈xs.toList,aF F w (ρ x) (η x)):ja F w (xs.toList.map ρ) (xs.map η):=by
 refine⟨by simp,fun i x hi=>?_⟩
 simp only[fm,wT]at hi
 obtain⟨a,h1,rfl⟩:=hi
 have ab:i<xs.size:=by have:=(List.getElem?_eq_some_iff.1 h1).1;simpa using this
 have:xs[i]=a:=by simpa [ab]using h1
 simpa [Array.getD,ab,this]using h a (List.mem_of_getElem? h1)
theorem DJ{F:Nat→Prop}{w:World}{xs ys:List AV}{us vs:Array Value}(h:ja F w xs us)(k:ja F w ys vs):ja F w (xs++ys) (us++vs):=by
 refine⟨by simp[h.1,k.1],fun i x hi=>?_⟩
 rw[jG]
 by_cases ab:i<xs.length
 ·rw[ky ab]at hi
  rw[L9 (by rw[← h.1];exact ab),← jG]
  exact h.2 i x hi
 ·rw[iP (by omega)]at hi
  rw[Array.getElem?_append_right (by rw[← h.1];omega),← jG,← h.1]
  exact k.2 _ x hi
theorem NO{F:Nat→Prop}{w:World}{x:AV}{v:Value}(h:aF F w x v):ja F w [x] #[v]:=⟨rfl,fun i y hi=>by cases i <;> simp at hi;subst hi;exact h⟩
theorem DO{o:Oper}{ρ:Operand→AV}{σ:Hp}{K:AV→Hp→Prop}(h:j9 P o (fun x=>bZ (ρ x)) σ K):j9 P o ρ σ K:=fun a F w hx=>h a F w (fun x hm=>(hx x hm).bZ)
theorem MI{o:Oper}{c:Call}(ho:o.op=.call c){ρ:Operand→AV}{K:FuncId→List AV→Prop}{KY:Nat→List AV→Prop}(h:py P c ρ K KY):
  (∃l xs,KY l xs∧∀(η:Operand→Value) (F:Nat→Prop) (w:World),(∀x∈o.op.operands.toList,aF F w (ρ x) (η x))→∃vs,ja F w xs vs∧execOp η o=Instr.yield l vs)∨∃f xs,K f xs∧∀(η:Operand→Value) (F:Nat→Prop) (w:World),(∀x∈o.op.operands.toList,aF F w (ρ x) (η x))→∃vs,ja F w xs vs∧(Enters P f→(execOp η o).run P w=.ok (.enter f vs) w):=by
 unfold py at h
 split at h
 ·rename_i f0 hc
  split at h
  ·rename_i g first cap hf
   refine .inr ⟨g,_,h,fun η F w hx=>?_⟩
   have h1:=hx f0 (by simp[ho,Op.operands,Call.operands,hc])
   rw[hf]at h1
   have h2:=Hs (xs:=c.args) (ρ:=fun x=>bZ (ρ x)) (η:=η) (F:=F) (w:=w) (fun x hm=>(hx x (by simp only[ho,Op.operands,Call.operands,hc,Az,bU];exact .inr hm)).bZ)
   cases hv:η f0 with
   |func f' v1 v2=>
    rw[hv]at h1
    obtain⟨rfl,r1,r2⟩:f'=.func g∧ja F w first v1∧ja F w cap v2:=by cases h1 with | fn _ _ _ _ _ fE gV h1 h2=>exact⟨rfl,⟨fE,h1⟩,⟨gV,h2⟩⟩
    refine⟨v1++c.args.map η++v2,DJ (DJ r1 h2) r2,fun he=>?_⟩
    simp only[execOp,ho,resolve,hc,Deferred.ofValue,hv,Sem.run_bind,Sem.run_pure,Result.andThen_ok,invoke]
    exact he _ _
   |_=>rw[hv]at h1;cases h1
  ·rename_i l hf
   refine .inl ⟨l,_,h,fun η F w hx=>?_⟩
   have h1:=hx f0 (by simp[ho,Op.operands,Call.operands,hc])
   rw[hf]at h1
   have h2:=Hs (xs:=c.args) (ρ:=fun x=>bZ (ρ x)) (η:=η) (F:=F) (w:=w) (fun x hm=>(hx x (by simp only[ho,Op.operands,Call.operands,hc,Az,bU];exact .inr hm)).bZ)
   cases hv:η f0 with
   |func f' v1 v2=>
    rw[hv]at h1
    obtain⟨rfl,r1,r2⟩:f'=.yield l∧v1 = #[]∧v2 = #[]:=by cases h1 with | fn _ _ _ _ _ fE gV h1 h2=>exact⟨rfl,Dv.1 fE.symm,Dv.1 gV.symm⟩
    subst r1 r2
    refine⟨c.args.map η,h2,?_⟩
    simp only[execOp,ho,resolve,hc,Deferred.ofValue,hv,pure_bind,invoke]
    simp
   |_=>rw[hv]at h1;cases h1
  ·exact h.elim
 ·rename_i r m hc
  have fin:∀(t:TypeId) (v:AV),ρ r=.iface t v→InvAt P t m v (fun g u=>K g (u::c.args.toList.map fun x=>bZ (ρ x)))→
    ∃f xs,K f xs∧∀(η:Operand→Value) (F:Nat→Prop) (w:World),(∀x∈o.op.operands.toList,aF F w (ρ x) (η x))→∃vs,ja F w xs vs∧(Enters P f→(execOp η o).run P w=.ok (.enter f vs) w):=by
   rintro t v hr ⟨g,rv,hm,go⟩
   refine⟨g,_,go,fun η F w hx=>?_⟩
   have h1:=hx r (by simp[ho,Op.operands,Call.operands,hc])
   rw[hr]at h1
   have h2:=Hs (xs:=c.args) (ρ:=fun x=>bZ (ρ x)) (η:=η) (F:=F) (w:=w) (fun x hm=>(hx x (by simp only[ho,Op.operands,Call.operands,hc,Az,bU];exact .inr hm)).bZ)
   cases hv:η r with
   |iface t' u=>
    rw[hv]at h1
    obtain⟨rfl,hu⟩:t'=t∧aF F w v u:=by cases h1 with | iface _ _ _ h=>exact⟨rfl,h⟩
    obtain⟨ru,pV,hmr⟩:=Wr hm hu
    refine⟨#[ru]++c.args.map η,(show ja F w ([rv]++c.args.toList.map fun x=>bZ (ρ x)) _ from DJ (NO pV) h2),fun he=>?_⟩
    have hex:(#[η r]++c.args.map η).extract 1 (#[η r]++c.args.map η).size=c.args.map η:=by
     apply Array.ext'
     simp
     exact List.take_of_length_le (by simp)
    have h0:(#[η r]++c.args.map η)[0]?=some (η r):=by rw[Array.getElem?_append_left (by simp)];rfl
    have hinv:invoke (.fn (.method m) #[]) (#[η r]++c.args.map η)=callMethod (η r) m (c.args.map η):=by
     unfold invoke
     simp only[h0]
     exact congrArg (callMethod (η r) m) hex
    have uG:(callMethod (η r) m (c.args.map η)).run P w=.ok (.enter g (#[ru]++c.args.map η)) w:=by
     rw[hv]
     unfold callMethod
     have aZ:=hmr w
     simp only[Sem.run_bind,run_program,Result.andThen_ok,aZ]
     exact he _ _
    simp only[execOp,ho,resolve,hc,Sem.run_bind,Sem.run_pure,Result.andThen_ok,hinv,uG]
   |_=>rw[hv]at h1;cases h1
  split at h
  ·rename_i t v hr
   exact .inr <| fin t _ hr h
  ·exact h.elim
 ·exact h.elim
theorem yM{F F':Nat→Prop}{w:World}{σ:Hp}(aJ:bC F' w σ){b off len es:Nat}{e:Sh}{l:List e.T}(hh:∀v,aF F w (.ah b off len es) v→aF F' w (.af e l) v){i k b':Nat}{cs:List AV}(hi:σ[i]?=some (b',cs))(hk:cs[k]?=some (.ah b off len es)):bC F' w (σ.set i (b',cs.set k (.af e l))):=by
 have ab:i<σ.length:=(cR.1 hi).1
 have BP:(σ.set i (b',cs.set k (.af e l))).map Prod.fst=σ.map Prod.fst:=by
  rw[s8]
  apply wO
  intro n
  rw[gX]
  split
  ·rename_i e;subst e
   have:=(cR.1 hi).2
   simp[ab,this]
  ·rfl
 refine⟨BP▸aJ.nodup,fun p hm=>?_,aJ.low⟩
 rcases Ay hm with hm | rfl
 ·exact aJ.holds p hm
 ·obtain⟨hF,c,T,h1,h2,h3⟩:=(aJ.holds _ (dm hi)).JD hk rfl
  refine⟨hF,.inl ⟨c,T,h1,by simpa using h2,fun n x hn=>?_⟩⟩
  rw[gX]at hn
  split at hn
  ·rename_i e;subst e
   split at hn
   ·cases hn
    refine⟨rfl,hh _ ?_⟩
    have:=(h3 k _ hk).2
    revert this
    generalize c.getD k undef=v
    intro this
    cases this with
    |ah _ _ _ _ a cap h=>exact .ah _ _ _ _ a cap h
   ·cases hn
  ·exact h3 n x hn
theorem ve{f:FuncId}{xs:List AV}{σ:Hp}{K:AV→Hp→Prop}(h:CallAt P f K xs σ):ACalls P f xs σ K:=by
 induction h with
 |mk js R call go=>
  obtain⟨nV,gP⟩:=call
  refine⟨nV,fun F w vs cg aJ=>(gP F w vs cg (aJ.perm (xc js _))).mono ?_⟩
  rintro e w' ⟨r,v,σ',F',rfl,h1,h2,h3,h4⟩
  exact⟨r,v,σ',F',rfl,h1,h2,h3,go r σ' h4⟩
 |perm R hp call go=>
  obtain⟨nV,gP⟩:=call
  refine⟨nV,fun F w vs cg aJ=>(gP F w vs cg (aJ.perm hp)).mono ?_⟩
  rintro e w' ⟨r,v,σ',F',rfl,h1,h2,h3,h4⟩
  obtain⟨ef,k1,k2⟩:=go r σ' h4
  exact⟨r,v,ef,F',rfl,h1,h2.perm k1,h3,k2⟩
 |kj j b off len es cs e l h1 h2 h3 i k b' cs' hi hk h ih=>
  obtain⟨nV,gP⟩:=ih
  refine⟨nV,fun F w vs cg aJ =>?_⟩
  obtain⟨ao,mA,hh⟩:=su aJ h1 h2 h3
  refine (gP _ w vs (cg.mono ao) (yM mA hh hi hk)).mono ?_
  rintro e w' ⟨r,v,σ',F',rfl,q1,q2,q3,q4⟩
  exact⟨r,v,σ',F',rfl,ao.trans q1,q2,q3,q4⟩
 |cH j b off len es cs e l h1 h2 h3 h4 h ih=>
  obtain⟨nV,gP⟩:=ih
  refine⟨nV,fun F w vs cg aJ =>?_⟩
  obtain⟨ao,mA,hh⟩:=su aJ h1 h2 h3
  have hv:=w8 ao hh h4 (.tuple vs) (.tup _ _ cg.1 cg.2)
  cases hv with
  |tup _ _ hs hr=>
   refine (gP _ w vs ⟨hs,hr⟩ mA).mono ?_
   rintro e w' ⟨r,v,σ',F',rfl,h1,h2,h3,h4⟩
   exact⟨r,v,σ',F',rfl,ao.trans h1,h2,h3,h4⟩
theorem TU{o:Oper}{c:Call}(ho:o.op=.call c){ρ:Operand→AV}{σ:Hp}{K:AV→Hp→Prop}(h:py P c ρ (fun f xs=>CallAt P f K xs σ) (fun l xs=>vE P l K xs σ)):j9 P o ρ σ K:=by
 rcases MI ho h with ⟨l,xs,hc,fq⟩ | ⟨f,xs,hc,fq⟩
 ·intro a F w hx aJ next Q hn
  obtain⟨vs,cg,hr⟩:=fq a.eval F w hx
  unfold wq
  rw[hr]
  cases hc with
  |mk js R call go=>
   obtain⟨f,tmps,assign,body,h1,h2⟩:=call F w vs cg (aJ.perm (xc js σ))
   rw[h1]
   refine RoundIn.mono h2 ?_
   rintro e w' ⟨r,v,σ',F',rfl,h1,h2,h3,h4⟩
   exact⟨v,rfl,hn v r σ' F' w' h1 h2 h3 (go _ _ h4)⟩
  |perm R hp call go=>
   obtain⟨f,tmps,assign,body,h1,h2⟩:=call F w vs cg (aJ.perm hp)
   rw[h1]
   refine RoundIn.mono h2 ?_
   rintro e w' ⟨r,v,σ',F',rfl,h1,h2,h3,h4⟩
   obtain⟨ef,k1,k2⟩:=go _ _ h4
   exact⟨v,rfl,hn v r ef F' w' h1 (h2.perm k1) h3 k2⟩
 obtain⟨nV,gP⟩:=ve hc
 intro a F w hx aJ next Q hn
 obtain⟨vs,cg,hr⟩:=fq a.eval F w hx
 unfold wq
 rw[hr nV]
 refine (gP F w vs cg aJ).mono ?_
 rintro e w' ⟨r,v,σ',F',rfl,h1,h2,h3,h4⟩
 exact⟨v,rfl,hn v r σ' F' w' h1 h2 h3 h4⟩
theorem TA{o:Oper}{t:TypeId}(ho:o.op=.makeMap t none){ρ:Operand→AV}{σ:Hp}{K:AV→Hp→Prop}(hk:∀b,K (.nf b) ((b,[.nT []])::σ)):j9 P o ρ σ K:=by
 intro a F w hx aJ next Q hn
 have fq:(execOp a.eval o).run P w=.ok (.value (.map (some w.heap.size))) (w.alloc (.map #[] 0)):=by
  have e:(Instr.makeMap t none).run P w=.ok (.map (some w.heap.size)) (w.alloc (.map #[] 0)):=rfl
  simp[execOp,ho,e,Result.andThen]
 unfold wq
 rw[fq]
 have hold:∀b,b<w.heap.size→(w.alloc (.map #[] 0)).heap[b]?=w.heap[b]?:=fun b hb=>Below.heap_alloc _ _ b hb
 have ao:bL F w F (w.alloc (.map #[] 0)):=w9 aJ.low rfl rfl rfl (by simp) hold
 have hr:=aJ.same ao hold
 have fK:(w.alloc (.map #[] 0)).heap[w.heap.size]?=some (.map #[] 0):=vx _ _
 refine hn _ (.nf w.heap.size) _ F _ ao ⟨?_,fun p hm=>?_,hr.low⟩ (.nf _) (hk _)
 ·simp only[o8,mJ]
  refine⟨fun hm=>?_,aJ.nodup⟩
  obtain⟨p,hp,e⟩:=fi.1 hm
  have:=(aJ.holds p hp).lt
  omega
 ·rcases ei.1 hm with rfl | hm
  ·exact⟨fun hF=>GF _ (aJ.low _ hF),.inr (.inl ⟨_,_,rfl,fK,rfl⟩)⟩
  ·exact hr.holds p hm
theorem Nl{σ:Hp}{F:Nat→Prop}{w:World}(h:bC F w σ){j b:Nat}{x x':AV}{o o':Obj}(ho:vP x=some o)(gn:vP x'=some o')(hj:σ[j]?=some (b,[x])):
  bL F w F { w with heap:=w.heap.setIfInBounds b o' }∧bC F { w with heap:=w.heap.setIfInBounds b o' } (σ.set j (b,[x'])):=by
 obtain⟨hb,hc⟩:=(h.holds (b,[x]) (dm hj)).FM ho
 have ab:j<σ.length:=(cR.1 hj).1
 obtain⟨Gm,hw⟩:=MapKept.heap_set (o':=o') hc
 have ao:bL F w F { w with heap:=w.heap.setIfInBounds b o' }:=⟨rfl,rfl,rfl,by simp,fun _ h=>h,fun k hF=>hw k (fun e=>hb (e▸hF)),fun k d S fz hk=>by
  by_cases e:k=b
  ·subst e
   rw[hc]at hk
   cases hk
   exact (Nr ho).elim
  ·exact⟨d,fz,(hw k e).trans hk,rfl⟩,bJ _⟩
 have BP:(σ.set j (b,[x'])).map Prod.fst=σ.map Prod.fst:=by
  rw[s8]
  apply wO
  intro k
  rw[gX]
  split
  ·rename_i e;subst e
   simp[ab]
   have:=(cR.1 hj).2
   rw[this]
  ·rfl
 refine⟨ao,⟨BP▸h.nodup,fun p hm=>?_,fun k hF=>by simpa using h.low k hF⟩⟩
 obtain⟨k,hk⟩:=yp.1 hm
 rw[gX]at hk
 split at hk
 ·rename_i e;subst e
  simp at hk
  obtain⟨_,rfl⟩:=hk
  exact⟨hb,.inr (.inl ⟨_,_,rfl,Gm,gn⟩)⟩
 ·rename_i bc
  have aZ:=dm hk
  have pY:p.1≠b:=fun e=>by
   have ck:=h.nodup
   have h1:(σ.map Prod.fst)[k]?=some b:=by rw[List.getElem?_map,hk];simp[e]
   have h2:(σ.map Prod.fst)[j]?=some b:=by rw[fm,hj];rfl
   have eO:k<(σ.map Prod.fst).length:=(cR.1 h1).1
   have:=(List.getElem?_inj (i:=k) (j:=j) eO ck).1 (h1.trans h2.symm)
   exact bc this.symm
  exact (h.holds p aZ).mono ao (hw _ pY) (h.holds p aZ).1
theorem U3{σ:Hp}{F:Nat→Prop}{w:World}(h:bC F w σ){j b:Nat}{l l':List (Int×Int)}(hj:σ[j]?=some (b,[.nT l])):
  bL F w F { w with heap:=w.heap.setIfInBounds b (.map (gk 0 l').toArray l'.length) }∧bC F { w with heap:=w.heap.setIfInBounds b (.map (gk 0 l').toArray l'.length) } (σ.set j (b,[.nT l'])):=Nl h rfl rfl hj
theorem MF(ok:dH P TT){o:Oper}{t:TypeId}{m k x:Operand}(ho:o.op=.mapUpdate t m k x∨o.op=.insert t m k x){ρ:Operand→AV}{σ:Hp}{K:AV→Hp→Prop}(h:yV TT t (bZ (ρ m)) (bZ (ρ k)) (bZ (ρ x)) σ K):j9 P o ρ σ K:=by
 intro a F w hx aJ next Q hn
 unfold yV at h
 split at h
 ·rename_i z n v hz hk zR
  obtain⟨kt,et,h1,h2,h3⟩:=HW ok hz
  obtain⟨j,b,l,hm,hj,go⟩:=h
  have xJ:m∈o.op.operands.toList∧k∈o.op.operands.toList∧x∈o.op.operands.toList:=by rcases ho with ho | ho <;> simp[ho,Op.operands]
  have a1:=(hx m xJ.1).bZ
  rw[hm]at a1
  have a2:=(hx k xJ.2.1).bZ
  rw[hk]at a2
  have a3:=(hx x xJ.2.2).bZ
  rw[zR]at a3
  have e1:a.eval m=.map (some b):=a1.JA
  have e2:a.eval k=.int .i64 n:=a2.gM
  have e3:a.eval x=.int .i64 v:=a3.gM
  obtain⟨_,hb⟩:=(aJ.holds _ (dm hj)).Ca
  have fq:(execOp a.eval o).run P w=.ok .skip { w with heap:=w.heap.setIfInBounds b (.map (gk 0 (qE l n v)).toArray (qE l n v).length) }:=by
   rcases ho with ho | ho <;> simp[execOp,ho,e1,e2,e3,Ud h1 h2 hb n v,Result.andThen]
  unfold wq
  rw[fq]
  obtain⟨s1,s2⟩:=U3 aJ (l':=qE l n v) hj
  exact hn undef .any _ F _ s1 s2 (.any _) go
 ·exact h.elim
theorem H6:∀(l:List (Int×Int)) (m:Nat) (e:MapEntry),e∈gk m l→∃(i:Nat) (p:Int×Int),l[i]?=some p∧e = { key:=.int .i64 p.1,val:=.int .i64 p.2,born:=m+i }
 | [],_,_,h=>by cases h
 |p::l,m,e,h=>by
  rcases ei.1 h with rfl | h
  ·exact⟨0,p,rfl,rfl⟩
  ·obtain⟨i,q,h1,h2⟩:=H6 l (m+1) e h
   exact⟨i+1,q,h1,by rw[h2];simp only[MapEntry.mk.injEq,true_and];omega⟩
theorem Pt{l:List (Int×Int)}{m i:Nat}{p:Int×Int}(h:l[i]?=some p):({ key:=.int .i64 p.1,val:=.int .i64 p.2,born:=m+i }:MapEntry)∈gk m l:=
 dm (i:=i) (by rw[Ip,h];rfl)
theorem NF:∀(l:List (Int×Int)) (m:Nat),((gk m l).map (·.born)).Nodup∧∀x∈(gk m l).map (·.born),m≤x
 | [],_=>⟨G1,fun _ h=>by cases h⟩
 |p::l,m=>by
  obtain⟨h1,h2⟩:=NF l (m+1)
  refine⟨mJ.2 ⟨fun hm=>?_,h1⟩,fun x hx=>?_⟩
  ·have:=h2 _ hm
   exact Nat.not_succ_le_self _ this
  ·rcases ei.1 hx with rfl | hx
   ·exact bJ _
   ·exact Nat.le_of_succ_le (h2 _ hx)
theorem Tt(ok:dH P TT){o:Oper}{t:TypeId}{x:Operand}(ho:o.op=.range t x){ρ:Operand→AV}{σ:Hp}{K:AV→Hp→Prop}(h:EZ TT t (bZ (ρ x)) σ K):j9 P o ρ σ K:=by
 intro a F w hx aJ next Q hn
 unfold EZ at h
 split at h
 ·rename_i z hz
  obtain⟨kt,et,h1,h2,h3⟩:=HW ok hz
  obtain⟨j,b,l,hm,hj,go⟩:=h
  have a1:=(hx x (by simp[ho,Op.operands])).bZ
  rw[hm]at a1
  have e1:a.eval x=.map (some b):=a1.JA
  obtain⟨_,hb⟩:=(aJ.holds _ (dm hj)).Ca
  have fq:(execOp a.eval o).run P w=.ok (.value (.pointer (some ⟨w.heap.size,0,none⟩))) (w.alloc (.mapIter (some b) l.length #[] l.length)):=by
   have e:=run_range_map (P:=P) w t kt et b _ _ h1 hb
   simp[execOp,ho,e1,e,Result.andThen]
  unfold wq
  rw[fq]
  have hold:∀k,k<w.heap.size→(w.alloc (.mapIter (some b) l.length #[] l.length)).heap[k]?=w.heap[k]?:=fun k hk=>Below.heap_alloc _ _ k hk
  have ao:bL F w F (w.alloc (.mapIter (some b) l.length #[] l.length)):=w9 aJ.low rfl rfl rfl (by simp) hold
  have hr:=aJ.same ao hold
  have fK:(w.alloc (.mapIter (some b) l.length #[] l.length)).heap[w.heap.size]?=some (.mapIter (some b) l.length #[] l.length):=vx _ _
  refine hn _ (.nk w.heap.size) _ F _ ao ⟨?_,fun p hm=>?_,hr.low⟩ (.nk _) (go _)
  ·simp only[o8,mJ]
   refine⟨fun hm=>?_,aJ.nodup⟩
   obtain⟨p,hp,e⟩:=fi.1 hm
   have:=(aJ.holds p hp).lt
   omega
  ·rcases ei.1 hm with rfl | hm
   ·exact⟨fun hF=>GF _ (aJ.low _ hF),.inr (.inl ⟨_,_,rfl,fK,rfl⟩)⟩
   ·exact hr.holds p hm
 ·exact h.elim
theorem U4{σ:Hp}{F:Nat→Prop}{w:World}(h:bC F w σ):bL F w F w.drew∧bC F w.drew σ:=by
 have ao:bL F w F w.drew:=⟨rfl,rfl,rfl,bJ _,fun _ h=>h,fun _ _=>rfl,fun k d S fz hk=>⟨d,fz,hk,rfl⟩,Nat.le_succ _⟩
 exact⟨ao,h.nodup,fun p hp=>(h.holds p hp).mono ao rfl (h.holds p hp).1,h.low⟩
theorem Tz{o:Oper}{x:Operand}(ho:o.op=.next x false){ρ:Operand→AV}{σ:Hp}{K:AV→Hp→Prop}(h:Jr σ (bZ (ρ x)) K):j9 P o ρ σ K:=by
 intro a F w hx aJ next Q hn
 obtain⟨j,j2,r,b,l,seen,hm,h1,h2,stop,go⟩:=h
 have a1:=(hx x (by simp[ho,Op.operands])).bZ
 rw[hm]at a1
 have e1:a.eval x=.pointer (some ⟨r,0,none⟩):=a1.SJ
 obtain⟨_,hr⟩:=(aJ.holds _ (dm h1)).FM rfl
 obtain⟨_,hb⟩:=(aJ.holds _ (dm h2)).Ca
 have acN:∀x∈(gk 0 l).toArray.toList,x.born<l.length:=fun x hx=>by
  obtain⟨i,p,hi,rfl⟩:=H6 l 0 x hx
  show 0+i<_
  have:=(cR.1 hi).1
  omega
 unfold wq
 rcases run_next_at (P:=P) w o.type r b l.length l.length seen.toArray _ _ hr hb acN (bJ _) with ⟨hz,fq⟩ | ⟨e,he,w1,hw1,fq⟩
 ·have BN:(execOp a.eval o).run P w=.ok (.value (.tuple #[.bool false])) w:=by simp[execOp,ho,e1,fq,Result.andThen]
  rw[BN]
  refine hn _ (.tup [.bool false]) σ F w (bL.refl _ _) aJ (.tup _ _ rfl fun i y hy=>?_) (stop fun i hi=>?_)
  ·match i,hy with
   | 0,hy=>cases hy;exact .bool _
   |i+1,hy=>simp at hy
  ·have hz:leftOf (gk 0 l).toArray seen.toArray = #[]:=Array.eq_empty_of_size_eq_zero hz
   unfold leftOf at hz
   rw[Array.filter_eq_empty_iff]at hz
   have:=hz _ (by simpa using Pt (m:=0) (List.getElem?_eq_getElem hi))
   simpa using this
 ·have BN:(execOp a.eval o).run P w=.ok (.value (.tuple #[.bool true,e.key,e.val])) (Go.ChangeMaps.setBlock w1 r (.mapIter (some b) l.length (seen.toArray.push e.born) l.length)):=by simp[execOp,ho,e1,fq,Result.andThen]
  rw[BN]
  unfold leftOf at he
  have Gz:e∈gk 0 l∧e.born ∉ seen:=by simpa using he
  obtain⟨i,p,hi,rfl⟩:=H6 l 0 e Gz.1
  have hns:i ∉ seen:=by simpa using Gz.2
  have hw:bL F w F w1∧bC F w1 σ:=by
   rcases hw1 with rfl | rfl
   ·exact⟨bL.refl _ _,aJ⟩
   ·exact U4 aJ
  obtain⟨s1,s2⟩:=Nl (x':=.rD b l.length (seen++[i])) hw.2 rfl rfl h1
  have e2:(seen++[i]).toArray=seen.toArray.push (0+i):=by simp
  rw[e2]at s1 s2
  refine hn _ (.tup [.bool true,.int .i64 p.1,.int .i64 p.2]) _ F _ (hw.1.trans s1) s2 (.tup _ _ rfl fun k y hy=>?_) (go i p hi hns)
  match k,hy with
  | 0,hy=>cases hy;exact .bool _
  | 1,hy=>cases hy;exact .int _ _
  | 2,hy=>cases hy;exact .int _ _
  |k+3,hy=>simp at hy
theorem Tv{o:Oper}{x:Operand}(ho:o.op=.entry x){ρ:Operand→AV}{σ:Hp}{K:AV→Hp→Prop}(h:I2 σ (bZ (ρ x)) K):j9 P o ρ σ K:=by
 intro a F w hx aJ next Q hn
 obtain⟨j,j2,r,b,i,l,p,seen,hm,h1,h2,h3,go⟩:=h
 have a1:=(hx x (by simp[ho,Op.operands])).bZ
 rw[hm]at a1
 have e1:a.eval x=.pointer (some ⟨r,0,none⟩):=a1.SJ
 obtain⟨_,hr⟩:=(aJ.holds _ (dm h1)).FM rfl
 obtain⟨_,hb⟩:=(aJ.holds _ (dm h2)).Ca
 have hr:w.heap[r]?=some (.mapIter (some b) l.length (seen.toArray.push (0+i)) l.length):=by
  rw[hr];simp
 have fq:=run_entry_at (P:=P) w r b l.length seen.toArray (gk 0 l).toArray l.length { key:=.int .i64 p.1,val:=.int .i64 p.2,born:=0+i } hr hb (by simpa using Pt (m:=0) h3) (by simpa using (NF l 0).1)
 have BN:(execOp a.eval o).run P w=.ok (.value (.tuple #[.int .i64 p.1,.int .i64 p.2])) w:=by simp[execOp,ho,e1,fq,Result.andThen]
 unfold wq
 rw[BN]
 refine hn _ (.tup [.int .i64 p.1,.int .i64 p.2]) σ F w (bL.refl _ _) aJ (.tup _ _ rfl fun k y hy=>?_) go
 match k,hy with
 | 0,hy=>cases hy;exact .int _ _
 | 1,hy=>cases hy;exact .int _ _
 |k+2,hy=>simp at hy
theorem HR(ok:dH P TT){o:Oper}{ρ:Operand→AV}{σ:Hp}{K:AV→Hp→Prop}(h:gT P TT o.op ρ σ K):j9 P o ρ σ K:=by
 have dd:fM P TT o.op ρ σ (fun v=>K v σ)→j9 P o ρ σ K:=fun h=>by
  obtain⟨v,h1,h2⟩:=D6 ok h
  exact TB h2 h1
 generalize lH:o.op=op at h dd
 unfold gT at h
 split at h
 ·split at h
  ·rename_i cs hc;exact WT lH hc h
  ·exact h.elim
 ·split at h
  ·rename_i i hi;exact UI ok lH hi h
  ·exact h.elim
 ·split at h
  ·rename_i e sz qf z0 ht
   split at h
   ·rename_i i hi
    split at h
    ·rename_i cs hf fE gV
     exact Tn ok lH ht rfl hi hf (cp fE) (cp gV) h
    ·exact h.elim
   ·exact h.elim
  ·exact h.elim
 ·split at h
  ·rename_i e sz qf z0 k n k' m ht hl hc
   split at h
   ·rename_i i hi
    exact To ok lH ht rfl hi hl hc h.fact h.go
   ·exact h.elim
  ·exact h.elim
 ·split at h
  ·rename_i i hi
   split at h
   ·rename_i b off hp;exact T8 ok lH hi hp h
   ·exact h.elim
  ·exact h.elim
 ·split at h
  ·exact TA lH h
  ·exact h.elim
 ·exact MF ok (.inl lH) h
 ·exact MF ok (.inr lH) h
 ·exact Tt ok lH h
 ·split at h
  ·exact Tz lH h
  ·exact h.elim
 ·exact Tv lH h
 ·rename_i args cJ
  split at h
  ·rename_i s x t t' JJ SM
   obtain rfl:args = #[s,x]:=by cases args;simp_all
   obtain rfl:cJ = #[t,t']:=by cases cJ;simp_all
   split at h
   ·rename_i e s1 b1 z1 e' s2 b2 z2 ht nm
    split at h
    ·rename_i i hi;exact DO (TV ok lH ht rfl nm rfl hi (ρ:=fun x=>bZ (ρ x)) h)
    ·exact h.elim
   ·rename_i e s1 b1 z1 k' s2 b2 z2 ht nm
    split at h
    ·rename_i i hi;exact DO (TG ok lH ht rfl nm rfl hi (ρ:=fun x=>bZ (ρ x)) h)
    ·exact h.elim
   ·exact h.elim
  ·exact h.elim
 ·rename_i args cJ
  split at h
  ·rename_i s t JJ SM
   obtain rfl:args = #[s]:=by cases args;simp_all
   obtain rfl:cJ = #[t]:=by cases cJ;simp_all
   split at h
   ·rename_i e s1 b1 z1 ht
    split at h
    ·rename_i i hi;exact DO (UD ok lH ht rfl hi (ρ:=fun x=>bZ (ρ x)) h)
    ·exact h.elim
   ·exact h.elim
  ·exact h.elim
 ·rename_i args cJ
  split at h
  ·rename_i d x t t' JJ SM
   obtain rfl:args = #[d,x]:=by cases args;simp_all
   obtain rfl:cJ = #[t,t']:=by cases cJ;simp_all
   split at h
   ·rename_i e s1 b1 z1 e' s2 b2 z2 ht nm
    split at h
    ·rename_i i hi;exact DO (Vy ok lH ht rfl nm rfl hi (ρ:=fun x=>bZ (ρ x)) h)
    ·exact h.elim
   ·exact h.elim
  ·exact h.elim
 ·exact dd h
 ·exact TU lH h
 ·exact dd h
def sO(F:Nat→Prop)(w:World)(t:Tm)(a:Act):Prop:=∀i,aF F w (t i) (a.tmps.getD i undef)
theorem sO.mono{F F':Nat→Prop}{w w':World}{t:Tm}{a:Act}(h:sO F w t a)(ao:bL F w F' w'):sO F' w' t a:=fun i=>(h i).mono ao
theorem sO.put{F:Nat→Prop}{w:World}{t:Tm}{a:Act}(h:sO F w t a){d:Option Tmp}{x:AV}{v:Value}(hx:aF F w x v)(hd:∀i,d=some i→i<a.tmps.size):sO F w (put t d x) (a.put d v):=by
 cases d with
 |none=>exact h
 |some d=>
  intro i
  show aF F w (match Nat.beq i d with | true=>x | false=>t i) ((a.tmps.setIfInBounds d v).getD i undef)
  have dI:=hd d rfl
  cases hb:Nat.beq i d with
  |true=>
   have:=jF hb
   subst this
   simpa [Array.getD,dI]using hx
  |false=>
   have bc:d≠i:=fun e=>by subst e;rw[wM]at hb;cases hb
   have:=h i
   rw[jG]at this ⊢
   rw[G5 bc]
   exact this
theorem ot{F:Nat→Prop}{w:World}(v:Value):aF F w (y7 v) v:=by
 cases v with
 |int k n=>exact .int _ _
 |bool b=>exact .bool _
 |string s=>exact .str _
 |pointer a=>cases a <;> first | exact .aG | exact .any _
 |slice a l c=>cases a <;> cases l <;> cases c <;> first | exact .ak | exact .any _
 |nilIface=>exact .nilif
 |nilFunc=>exact .iI
 |map a=>cases a <;> first | exact .oS | exact .any _
 |_=>exact .any _
theorem PE{F:Nat→Prop}{w:World}{t:Tm}{a:Act}(x:Operand)(h:∀i,x=.tmp i→aF F w (t i) (a.tmps.getD i undef)):aF F w (ev t x) (a.eval x):=by
 cases x with
 |tmp i=>exact h i rfl
 |const v=>
  show aF F w (R4 v) v
  cases v with
  |agg cs=>
   show aF F w (match (cs.toList.map y7).all AV.leaf with | true=>.agg (cs.toList.map y7) | false=>.any) _
   split
   ·rename_i hl
    refine .agg _ _ (by simp) (fun i x hx=>?_) (fun i x hx=>?_)
    ·exact fN.1 hl x (dm hx)
    ·simp only[fm,wT]at hx
     obtain⟨v,hv,rfl⟩:=hx
     have ab:i<cs.size:=by have:=(List.getElem?_eq_some_iff.1 hv).1;simpa using this
     have:cs[i]=v:=by simpa [ab]using hv
     simpa [Array.getD,ab,this]using ot v
   ·exact .any _
  |tuple vs=>
   show aF F w (match vs.toList with | []=>.tup [] | _=>.any) _
   split
   ·rename_i h0
    exact .tup _ _ (by simp at h0;simp[h0]) (fun i x h=>by simp at h)
   ·exact .any _
  |int k n=>exact ot (.int k n)
  |bool b=>exact ot (.bool b)
  |string x=>exact ot (.string x)
  |float k b=>exact ot (.float k b)
  |complex k b c=>exact ot (.complex k b c)
  |pointer x=>exact ot (.pointer x)
  |slice x l c=>exact ot (.slice x l c)
  |map x=>exact ot (.map x)
  |chan x=>exact ot (.chan x)
  |func f x y=>exact ot (.func f x y)
  |nilFunc=>exact ot .nilFunc
  |iface t x=>exact ot (.iface t x)
  |nilIface=>exact ot .nilIface
 |global g=>exact .any _
 |func f=>exact .fn _ _ _ _ _ rfl rfl (fun i x h=>by simp at h) (fun i x h=>by simp at h)
theorem sO.eval{F:Nat→Prop}{w:World}{t:Tm}{a:Act}(h:sO F w t a)(x:Operand):aF F w (ev t x) (a.eval x):=PE x fun i _=>h i
end
section
variable {P:Program} {TT:TypeId→Option TI}
structure Marks(B:Nat)(F:Nat→Prop)(w:World)(ds:List Deferred):Prop where
 low:B≤w.heap.size
 nodup:ds.Nodup
 is:∀d∈ds,∃D,d = { target:=.collected D,args:= #[] }∧B≤D∧F D∧w.heap[D]?=some (.deferred (some []))
theorem Marks.mono{B:Nat}{F F':Nat→Prop}{w w':World}{ds:List Deferred}(h:Marks B F w ds)(ao:bL F w F' w'):Marks B F' w' ds:=
 ⟨ey h.low ao.size,h.nodup,fun d hd=>by
  obtain⟨D,h1,h2,h3,h4⟩:=h.is d hd
  exact⟨D,h1,h2,ao.sub D h3,(ao.fix D h3).trans h4⟩⟩
structure dw(B n:Nat)(F:Nat→Prop)(w:World)(t:Tm)(σ:Hp)(a:Act):Prop where
 tm:sO F w t a
 hp:bC F w σ
 size:n≤a.tmps.size
 defers:Marks B F w a.defers
theorem O7(a:Act)(d:Option Tmp)(v:Value):(a.put d v).tmps.size=a.tmps.size:=by cases d <;> simp[Act.put]
theorem Qg(a:Act)(d:Option Tmp)(v:Value):(a.put d v).defers=a.defers:=by cases d <;> rfl
theorem dw.put{B n:Nat}{F F':Nat→Prop}{w w':World}{t:Tm}{σ σ':Hp}{a:Act}(h:dw B n F w t σ a)(ao:bL F w F' w')(hp:bC F' w' σ'){d:Option Tmp}{x:AV}{v:Value}(hx:aF F' w' x v)(hd:∀i,d=some i→i<n):dw B n F' w' (put t d x) σ' (a.put d v):=
 ⟨(h.tm.mono ao).put hx (fun i e=>tc (hd i e) h.size),hp,by rw[O7];exact h.size,by rw[Qg];exact h.defers.mono ao⟩
theorem Po{F:Nat→Prop}{w:World}{σ:Hp}(h:bC F w σ){i b':Nat}{cs kz:List AV}(hi:σ[i]?=some (b',cs))(hl:kz.length=cs.length)(hk:∀(k:Nat) (x y:AV),cs[k]?=some x→kz[k]?=some y→x=y∨(x=.ak∧∃e:Sh,y=.af e [])):bC F w (σ.set i (b',kz)):=by
 refine⟨?_,fun p hp=>?_,h.low⟩
 ·have e1:(σ.set i (b',kz)).map Prod.fst=σ.map Prod.fst:=by
   rw[s8]
   refine List.ext_getElem (by simp) fun j h1 h2=>?_
   rw[GN]
   split
   ·rename_i hj;subst hj
    have:=cR.1 hi
    obtain⟨q1,q2⟩:=this
    rw[GM,q2]
   ·rfl
  rw[e1];exact h.nodup
 ·rcases Ay hp with hp | rfl
  ·exact h.holds p hp
  ·have hh:=h.holds _ (dm hi)
   by_cases hn:∃k:Nat,cs[k]?=some AV.ak
   ·obtain⟨k,gN⟩:=hn
    obtain⟨h1,c,T,h2,h3,h4⟩:=hh.JD gN rfl
    refine⟨h1,.inl ⟨c,T,h2,by rw[hl];exact h3,fun j y hy=>?_⟩⟩
    have hj:j<cs.length:=by rw[← hl];exact (cR.1 hy).1
    have hx:=bN hj
    obtain⟨q1,q2⟩:=h4 j _ hx
    rcases hk j _ _ hx hy with e | ⟨e,e',rfl⟩
    ·rw[← e];exact⟨q1,q2⟩
    ·rw[e]at q2
     refine⟨rfl,?_⟩
     revert q2;generalize c.getD j undef=u;intro q2;cases q2
     exact .af e' [] _ ⟨none,0,rfl,bJ _,aY _,(fun _=>rfl),fun bc=>absurd rfl bc⟩
   ·have e:kz=cs:=by
     refine L7 hl fun j h1 h2=>?_
     rcases hk j _ _ (bN h2) (bN h1) with e | ⟨e,_⟩
     ·exact e.symm
     ·exact absurd ⟨j,(bN h2).trans (congrArg some e)⟩ hn
    rw[e];exact hh
theorem Qq{F:Nat→Prop}{w:World}{σ:Hp}(h:bC F w σ){i b' k:Nat}{cs':List AV}(e:Sh)(hi:σ[i]?=some (b',cs'))(hk:cs'[k]?=some .ak):bC F w (σ.set i (b',cs'.set k (.af e []))):=
 Po h hi (by simp) fun j x y hx hy=>by
  rw[gX]at hy
  split at hy
  ·rename_i hj;subst hj
   split at hy
   ·rw[hk]at hx;cases hx;cases hy;exact .inr ⟨rfl,e,rfl⟩
   ·cases hy
  ·rw[hx]at hy;cases hy;exact .inl rfl
theorem bC.dL{F:Nat→Prop}{w:World}{σ σ':Hp}(h:bC F w σ)(hs:jg σ σ'):bC F w σ':=by
 induction hs with
 |refl=>exact h
 |pull js _ ih=>exact ih (h.perm (xc js _))
 |perm hp _ ih=>exact ih (h.perm hp)
 |adu i b' cs kz hi hl hk _ ih=>exact ih (Po h hi hl hk)
 | @drop k n σ σ2 _ ih=>
  refine ih (h.sub ?_)
  have h1:(σ.drop (k+n)).Sublist (σ.drop k):=by
   rw[← List.drop_drop]
   exact List.drop_sublist _ _
  have h2:=(List.Sublist.refl (σ.take k)).append h1
  rwa [Ax]at h2
theorem dw.dL{B n:Nat}{F:Nat→Prop}{w:World}{t:Tm}{σ σ':Hp}{a:Act}(h:dw B n F w t σ a)(hs:jg σ σ'):dw B n F w t σ' a:=⟨h.tm,h.hp.dL hs,h.size,h.defers⟩
def tD(ops:List Oper)(o:Oper)(t:Tm)(b:Bool):Prop:=
 (o.guard=none∧b=true)∨∃j want d x,o.guard=some (j,want)∧(ops[j]?).bind (·.dst)=some d∧((t d=.bool x∧b=(x == want))∨(t d=.tup []∧b=false))
theorem xe{ops:List Oper}{o:Oper}{t:Tm}{A B:Prop}(h:oH ops o t A B):(tD ops o t true∧A)∨(tD ops o t false∧B):=by
 unfold oH at h
 split at h
 ·rename_i hg
  exact .inl ⟨.inl ⟨hg,rfl⟩,h⟩
 ·rename_i j want hg
  split at h
  ·rename_i d hd
   split at h
   ·rename_i b hb
    cases want <;> cases b
    ·exact .inl ⟨.inr ⟨j,_,d,_,hg,hd,.inl ⟨hb,rfl⟩⟩,h⟩
    ·exact .inr ⟨.inr ⟨j,_,d,_,hg,hd,.inl ⟨hb,rfl⟩⟩,h⟩
    ·exact .inr ⟨.inr ⟨j,_,d,_,hg,hd,.inl ⟨hb,rfl⟩⟩,h⟩
    ·exact .inl ⟨.inr ⟨j,_,d,_,hg,hd,.inl ⟨hb,rfl⟩⟩,h⟩
   ·rename_i hb
    exact .inr ⟨.inr ⟨j,_,d,false,hg,hd,.inr ⟨hb,rfl⟩⟩,h⟩
   ·exact h.elim
  ·exact h.elim
theorem xb{F:Nat→Prop}{w:World}:aF F w (.tup []) undef:=.tup _ _ rfl (fun i x h=>by simp at h)
theorem VR{F:Nat→Prop}{w:World}{u:Value}(h:aF F w (.tup []) u):u=.tuple #[]:=by
 cases h with
 |tup _ vs hs h=>rw[Dv.1 hs.symm]
theorem D3{ops:List Oper}{o:Oper}{t:Tm}{a:Act}{b:Bool}(h:tD ops o t b)(hr:∀d,(∃j want,o.guard=some (j,want)∧(ops[j]?).bind (·.dst)=some d)→∃F w,aF F w (t d) (a.tmps.getD d undef)):Region.wanted o (yielded ops.toArray a.tmps)=b:=by
 rcases h with ⟨hg,rfl⟩ | ⟨j,want,d,x,hg,h1,⟨h2,rfl⟩ | ⟨h2,rfl⟩⟩
 ·simp[Region.wanted,hg]
 ·obtain⟨F,w,h3⟩:=hr d ⟨j,want,hg,h1⟩
  rw[h2]at h3
  have h3:=h3.qz
  have h4:a.tmps[d]?=some (.bool x):=by
   rw[jG]at h3
   cases hq:a.tmps[d]? with
   |none=>rw[hq]at h3;simp[undef]at h3
   |some v=>rw[hq]at h3;simpa using h3
  have h5:yielded ops.toArray a.tmps j=some x:=by
   unfold yielded
   simp only[yr,h1,Option.bind_some,h4]
  simp[Region.wanted,hg,h5]
 ·obtain⟨F,w,h3⟩:=hr d ⟨j,want,hg,h1⟩
  rw[h2]at h3
  have h3:=VR h3
  have h5:yielded ops.toArray a.tmps j=none:=by
   unfold yielded
   simp only[yr,h1,Option.bind_some]
   rw[jG]at h3
   cases hq:a.tmps[d]? with
   |none=>rfl
   |some v=>rw[hq]at h3;simp at h3;rw[h3]
  simp[Region.wanted,hg,h5]
theorem HA(ok:dH P TT){B n:Nat}{ops:List Oper}{Q:Exit→Act→World→Prop}:∀(l:List Oper) (t:Tm) (σ:Hp) (K:Tm→Hp→Prop) (F:Nat→Prop) (w:World) (a:Act),(∀o∈l,∀d,o.dst=some d→d<n)→SG P TT ops l t σ K→dw B n F w t σ a→
  (∀t' σ' F' w' a',bL F w F' w'→dw B n F' w' t' σ' a'→K t' σ'→Q .normal a' w')→vF P ops.toArray Q l a w
 | [],t,σ,K,F,w,a,_,h,hs,hq=>hq t σ F w a (.refl _ _) hs h
 |o::l,t,σ,K,F,w,a,hd,h,hs,hq=>by
  have hw:∀{b:Bool},tD ops o t b→Region.wanted o (yielded ops.toArray a.tmps)=b:=fun hg=>D3 hg fun d _=>⟨F,w,hs.tm d⟩
  rcases xe h with ⟨hg,h⟩ | ⟨hg,h⟩
  ·unfold vF
   rw[az (hw hg)]
   refine (HR ok h a F w (fun x _=>hs.tm.eval x) hs.hp _ Q ?_)
   intro v av σ' F' w' h1 h2 h3 h4
   exact HA ok l _ σ' K F' w' _ (fun o ho=>hd o (dy _ ho)) h4 (hs.put h1 h2 h3 (hd o (cF ..))) (fun t' kh ny l7 a' k1 k2 k3=>hq t' kh ny l7 a' (h1.trans k1) k2 k3)
  ·unfold vF
   rw[if_neg (by rw[hw hg];simp)]
   exact HA ok l _ σ K F w _ (fun o ho=>hd o (dy _ ho)) h (hs.put (.refl _ _) hs.hp xb (hd o (cF ..))) hq
def Jt(P:Program)(o:Oper)(ρ:Operand→AV)(σ:Hp)(v:AV):Prop:=
 ∀(a:Act) (F:Nat→Prop) (w:World),(∀x∈o.op.operands.toList,aF F w (ρ x) (a.eval x))→bC F w σ→∀(next:Act→World→Prop) (Q:Exit→Act→World→Prop),
  (∀u F' w',bL F w F' w'→bC F' w' σ→aF F' w' v u→next (a.put o.dst u) w')→wq P o a w next Q
theorem Ob(ok:dH P TT){o:Oper}{ρ:Operand→AV}{σ:Hp}{K:AV→Prop}(h:um P TT o.op ρ σ K):∃v,K v∧Jt P o ρ σ v:=by
 have dd:fM P TT o.op ρ σ K→∃v,K v∧Jt P o ρ σ v:=fun h=>by
  obtain⟨v,h1,h2⟩:=D6 ok h
  refine⟨v,h1,fun a F w hx aJ next Q hn=>?_⟩
  obtain⟨v',h3,h4⟩:=h2 a.eval F w o rfl hx aJ
  unfold wq
  rw[h3]
  exact hn v' F w (.refl _ _) aJ h4
 generalize lH:o.op=op at h dd
 unfold um at h
 split at h
 ·exact dd h
 ·obtain⟨_,_,h,_⟩ | ⟨f,xs,hc,fq⟩:=MI lH h
  ·exact h.elim
  cases hc with
  |mk js r call go=>
   obtain⟨nV,gP⟩:=call
   refine⟨r,go,fun a F w hx aJ next Q hn=>?_⟩
   obtain⟨vs,cg,hr⟩:=fq a.eval F w hx
   unfold wq
   rw[hr nV]
   refine (gP F w vs cg (aJ.perm (xc js σ))).mono ?_
   rintro e w' ⟨r',v,σ',F',rfl,h1,h2,h3,rfl,rfl⟩
   exact⟨v,rfl,hn v F' w' h1 (h2.perm (xc js σ).symm) h3⟩
  |perm hp r call go=>
   obtain⟨nV,gP⟩:=call
   refine⟨r,go,fun a F w hx aJ next Q hn=>?_⟩
   obtain⟨vs,cg,hr⟩:=fq a.eval F w hx
   unfold wq
   rw[hr nV]
   refine (gP F w vs cg (aJ.perm hp)).mono ?_
   rintro e w' ⟨r',v,σ',F',rfl,h1,h2,h3,rfl,rQ⟩
   exact⟨v,rfl,hn v F' w' h1 (h2.perm (hp.symm.trans rQ)) h3⟩
 ·exact dd h
end
end Go.Proofs.YtnikdflhefijbaaGreat
