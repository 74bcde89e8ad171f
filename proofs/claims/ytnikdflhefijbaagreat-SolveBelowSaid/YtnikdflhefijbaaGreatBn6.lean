import Derived.Deep.AppendSrc
import Derived.Deep.Upon
import Derived.Great.BuildSlice
import Derived.Maps.RangeRun
import Derived.Orders
import Derived.Test.YtnikdflhefijbaaGreatBn5
namespace Go.Proofs.YtnikdflhefijbaaGreat
open Go.RowKit
section
variable {P:Program} {TT:TypeId→Option TI} {F F':Nat→Prop} {w w':World}
theorem Holds.mono{b:Nat}{cs:List AV}(h:Holds F w b cs)(aq:bE F w F' w')(hb:w'.heap[b]?=w.heap[b]?)(hF:¬F' b):Holds F' w' b cs:=by
 obtain⟨_,⟨c,T,h1,h2,h3⟩ | ⟨x,o,h1,h2,h3⟩ | ⟨L,t,h1,h2,h3⟩⟩:=h
 ·exact⟨hF,.inl ⟨c,T,hb.trans h1,h2,fun i x hx=>⟨(h3 i x hx).1,(h3 i x hx).2.mono aq⟩⟩⟩
 ·exact⟨hF,.inr (.inl ⟨x,o,h1,hb.trans h2,h3⟩)⟩
 ·exact⟨hF,.inr (.inr ⟨L,t,h1,hb.trans h2,fun i=>(h3 i).mono aq⟩)⟩
theorem Holds.lt{b:Nat}{cs:List AV}(h:Holds F w b cs):b<w.heap.size:=by
 obtain⟨_,⟨_,_,h1,_⟩ | ⟨_,_,_,h1,_⟩ | ⟨_,_,_,h1,_⟩⟩:=h
 ·exact s8 h1
 ·exact s8 h1
 ·exact s8 h1
theorem bg.perm{σ σ':Hp}(h:bg F w σ)(hp:σ'.Perm σ):bg F w σ':=
 ⟨((hp.map Prod.fst).nodup_iff).2 h.nodup,fun p hm=>h.holds p (hp.mem_iff.1 hm),h.low⟩
theorem bg.sub{σ σ':Hp}(h:bg F w σ)(hs:σ'.Sublist σ):bg F w σ':=
 ⟨h.nodup.sublist (hs.map _),fun p hm=>h.holds p (hs.subset hm),h.low⟩
theorem xJ:∀(σ:Hp) (i:Nat) (p:Nat×List AV),σ[i]?=some p→(p::σ.eraseIdx i).Perm σ
 | [],i,p,h=>by simp at h
 |q::σ,0,p,h=>by simp at h;subst h;exact List.Perm.refl _
 |q::σ,i+1,p,h=>(List.Perm.swap q p _).trans (.cons q (xJ σ i p (by simpa using h)))
theorem Ys(i:Nat)(σ:Hp):(pull i σ).Perm σ:=by
 unfold pull
 split
 ·rename_i p h
  exact xJ σ i p h
 ·exact List.Perm.refl _
theorem xR:∀(js:List Nat) (σ:Hp),(nR js σ).Perm σ
 | [],_=>List.Perm.refl _
 |i::r,σ=>(Ys i _).trans (xR r σ)
theorem xN(fx:∀b,F b→b<w.heap.size)(ho:w'.os=w.os)(ht:w'.tape=w.tape)(hu:w'.output=w.output)(hs:w.heap.size≤w'.heap.size)(hb:∀b,b<w.heap.size→w'.heap[b]?=w.heap[b]?)(hd:w.drawn≤w'.drawn:=by first | exact aU _ | exact Nat.le_succ _ | exact I1 _ _):bE F w F w':=
 ⟨ho,ht,hu,hs,fun _ h=>h,fun b h=>hb b (fx b h),fun b c _ fz h=>⟨c,fz,(hb b (s8 h)).trans h,rfl⟩,hd⟩
theorem bg.same{σ:Hp}(h:bg F w σ)(aq:bE F w F w')(hb:∀b,b<w.heap.size→w'.heap[b]?=w.heap[b]?):bg F w' σ:=
 ⟨h.nodup,fun p hm=>(h.holds p hm).mono aq (hb _ (h.holds p hm).lt) (h.holds p hm).1,fun b hF=>rE (h.low b hF) aq.size⟩
theorem Pc{σ:Hp}(h:bg F w σ){c:Array Value}{T:TypeId}{cs:List AV}(hl:cs.length≤c.size)(hc:∀(i:Nat) (x:AV),cs[i]?=some x→x.leaf=true∧aA F w x (c.getD i undef)){w0:World}(e0:w0=w∨w0=w.drew):
  bE F w F (w0.alloc (.cells c T))∧bg F (w0.alloc (.cells c T)) ((w.heap.size,cs)::σ):=by
 have hold:∀b,b<w.heap.size→(w0.alloc (.cells c T)).heap[b]?=w.heap[b]?:=fun b hb=>by rcases e0 with rfl | rfl <;> exact Below.heap_alloc _ _ b (by simpa using hb)
 have aq:bE F w F (w0.alloc (.cells c T)):=by
  rcases e0 with rfl | rfl
  ·exact xN h.low rfl rfl rfl (by simp) hold
  ·exact xN h.low rfl rfl rfl (by simp) hold
 have hr:=h.same aq hold
 have gZ:(w0.alloc (.cells c T)).heap[w.heap.size]?=some (.cells c T (0,0)):=by rcases e0 with rfl | rfl <;> exact wo _ _
 refine⟨aq,⟨?_,fun p hm=>?_,hr.low⟩⟩
 ·simp only[oL,mc]
  refine⟨fun hm=>?_,h.nodup⟩
  obtain⟨p,hp,e⟩:=dX.1 hm
  have:=(h.holds p hp).lt
  omega
 ·rcases eG.1 hm with rfl | hm
  ·exact⟨fun hF=>IN _ (h.low _ hF),.inl ⟨c,T,gZ,hl,fun i x hx=>⟨(hc i x hx).1,(hc i x hx).2.mono aq⟩⟩⟩
  ·exact hr.holds p hm
theorem BP{σ:Hp}(h:bg F w σ){j b:Nat}{cs cs':List AV}(hj:σ[j]?=some (b,cs)){c c':Array Value}{T:TypeId}(hc:w.heap[b]?=some (.cells c T (0,0)))(ei:c'.size=c.size)(hl:cs'.length≤c'.size)
  (hr:∀(i:Nat) (x:AV),cs'[i]?=some x→x.leaf=true∧aA F w x (c'.getD i undef)) (hw:∀k,k≠b→w'.heap[k]?=w.heap[k]?) (Ik:w'.heap[b]?=some (.cells c' T (0,0))) (ho:w'.os=w.os) (ht:w'.tape=w.tape) (hu:w'.output=w.output) (hs:w'.heap.size=w.heap.size) (hd:w.drawn≤w'.drawn:=by first | exact aU _ | exact Nat.le_succ _ | exact I1 _ _) :
  bE F w F w'∧bg F w' (σ.set j (b,cs')):=by
 have hb:=(h.holds (b,cs) (cq hj)).1
 have ab:j<σ.length:=(cf.1 hj).1
 have aq:bE F w F w':=⟨ho,ht,hu,by omega,fun _ h=>h,fun k hF=>hw k (fun e=>hb (e▸hF)),fun k d S fz hk=>by
  by_cases e:k=b
  ·subst e
   rw[hc]at hk
   cases hk
   exact⟨c',(0,0),Ik,ei⟩
  ·exact⟨d,fz,(hw k e).trans hk,rfl⟩,hd⟩
 have C1:(σ.set j (b,cs')).map Prod.fst=σ.map Prod.fst:=by
  rw[oM]
  apply zg
  intro k
  rw[eR]
  split
  ·rename_i e;subst e
   simp[ab]
   have:=(cf.1 hj).2
   rw[this]
  ·rfl
 refine⟨aq,⟨C1▸h.nodup,fun p hm=>?_,fun k hF=>by rw[hs];exact h.low k hF⟩⟩
 obtain⟨k,hk⟩:=rF.1 hm
 rw[eR]at hk
 split at hk
 ·rename_i e;subst e
  simp at hk
  obtain⟨_,rfl⟩:=hk
  exact⟨hb,.inl ⟨c',T,Ik,hl,fun i x hx=>⟨(hr i x hx).1,(hr i x hx).2.mono aq⟩⟩⟩
 ·rename_i aP
  have aO:=cq hk
  have qq:p.1≠b:=by
   intro e
   have bZ:=h.nodup
   have h1:(σ.map Prod.fst)[k]?=some b:=by rw[List.getElem?_map,hk];simp[e]
   have h2:(σ.map Prod.fst)[j]?=some b:=by rw[fo,hj];rfl
   have dA:k<(σ.map Prod.fst).length:=(cf.1 h1).1
   have:=(List.getElem?_inj (i:=k) (j:=j) dA bZ).1 (h1.trans h2.symm)
   exact aP this.symm
  exact (h.holds p aO).mono aq (hw _ qq) (h.holds p aO).1
theorem Rw(z:List AV):∀(n j:Nat),j<n*z.length→(cE z n)[j]?=z[j % z.length]?
 | 0,j,h=>by simp at h
 |n+1,j,h=>by
  unfold cE
  by_cases hj:j<z.length
  ·rw[kf hj,tR hj]
  ·have e:(n+1)*z.length=n*z.length+z.length:=qz n z.length
   rw[iJ (by omega),Rw z n (j-z.length) (by omega)]
   rw[Nat.mod_eq_sub_mod (a:=j) (b:=z.length) (by omega)]
theorem vR(z:List AV)(n:Nat):(cE z n).length=n*z.length:=by
 induction n with
 |zero=>simp[cE]
 |succ n ih=>simp[cE,ih,Nat.succ_mul];omega
theorem F4{i:TI}{z:Value}(hz:pT i.zero z.cells.toList=true){n m:Nat}(hnm:n≤m):(cE i.zero n).length≤(madeCells z.cells (m*i.zero.length)).size∧∀(k:Nat) (x:AV),(cE i.zero n)[k]?=some x→x.leaf=true∧aA F w x ((madeCells z.cells (m*i.zero.length)).getD k undef):=by
 obtain⟨h1,h2⟩:=v8 (F:=F) (w:=w) hz
 have hle:n*i.zero.length≤m*i.zero.length:=lO _ hnm
 refine⟨by rw[vR,size_madeCells];exact hle,fun k x hx=>?_⟩
 have hk:k<n*i.zero.length:=by rw[← vR];exact (cf.1 hx).1
 rw[Rw _ _ _ hk]at hx
 obtain⟨h3,h4⟩:=h2 _ x hx
 refine⟨h3,?_⟩
 have ab:k<m*i.zero.length:=by omega
 have tk:0<i.zero.length:=by
  rcases tT i.zero.length with h0 | h0
  ·rw[h0]at hk;omega
  ·exact h0
 have Vw:k % i.zero.length<z.cells.size:=by rw[← h1];exact nA _ tk
 rw[h1]at h4 ab
 rw[h1]at Vw
 simpa [madeCells,Array.getD,ab,h1,Vw,Nat.mod_lt _ (h1▸tk)]using h4
end
section
variable {P:Program} {TT:TypeId→Option TI} {F F':Nat→Prop} {w w':World}
def j4(P:Program)(o:Oper)(ρ:Operand→AV)(σ:Hp)(K:AV→Hp→Prop):Prop:=
 ∀(a:Act) (F:Nat→Prop) (w:World),(∀x∈o.op.operands.toList,aA F w (ρ x) (a.eval x))→bg F w σ→∀(next:Act→World→Prop) (Q:Exit→Act→World→Prop),
  (∀v av σ' F' w',bE F w F' w'→bg F' w' σ'→aA F' w' av v→K av σ'→next (a.put o.dst v) w')→wq P o a w next Q
theorem V2{o:Oper}{ρ:Operand→AV}{σ:Hp}{K:AV→Hp→Prop}{v:AV}(h:DK P o.op ρ σ v)(hk:K v σ):j4 P o ρ σ K:=by
 intro a F w hx aF next Q hn
 obtain⟨v',h1,h2⟩:=h a.eval F w o rfl hx aF
 unfold wq
 rw[h1]
 exact hn v' v σ F w (.refl _ _) aF h2 hk
theorem Fa{o:Oper}{ρ:Operand→AV}{σ:Hp}{K:AV→Hp→Prop}{cs:List AV}{mk:Nat→AV}(hk:∀b,K (mk b) ((b,cs)::σ))
  (h:∀(η:Operand→Value) (F:Nat→Prop) (w:World),(∀x∈o.op.operands.toList,aA F w (ρ x) (η x))→∃(c:Array Value) (T:TypeId) (v:Value),(execOp η o).run P w=.ok (.value v) (w.alloc (.cells c T))∧cs.length≤c.size∧(∀(i:Nat) (x:AV),cs[i]?=some x→x.leaf=true∧aA F w x (c.getD i undef))∧aA F (w.alloc (.cells c T)) (mk w.heap.size) v):j4 P o ρ σ K:=by
 intro a F w hx aF next Q hn
 obtain⟨c,T,v,h1,h2,h3,h4⟩:=h a.eval F w hx
 unfold wq
 rw[h1]
 obtain⟨aq,hr⟩:=Pc aF (T:=T) h2 h3 (w0:=w) (.inl rfl)
 exact hn v _ _ F _ aq hr h4 (hk _)
theorem V4{x:AV}{v:Value}{cs:List AV}(h:aA F w x v)(hc:x.cells?=some cs):cs.length≤v.cells.size∧∀(i:Nat) (x:AV),cs[i]?=some x→x.leaf=true∧aA F w x (v.cells.getD i undef):=by
 obtain⟨h1,h2⟩:=JP h hc
 exact⟨by omega,h2⟩
theorem Ze{o:Oper}{e:TypeId}{x:Operand}(ho:o.op=.box e x){ρ:Operand→AV}{σ:Hp}{K:AV→Hp→Prop}{cs:List AV}(hc:(ρ x).cells?=some cs)(hk:∀b,K (.ptr b 0) ((b,cs)::σ)):j4 P o ρ σ K:=
 Fa hk fun η F w hx=>by
  have h1:=hx x (by simp[ho,Op.operands])
  obtain⟨h2,h3⟩:=V4 h1 hc
  exact⟨(η x).cells,e,.pointer (some ⟨w.heap.size,0,none⟩),by simp[execOp,ho,Instr.box,newVar,newRow],h2,h3,.ptr _ _ ⟨_,_,_,wo _ _⟩⟩
theorem W8(ok:dz P TT){o:Oper}{e:TypeId}(ho:o.op=.alloc e){ρ:Operand→AV}{σ:Hp}{K:AV→Hp→Prop}{i:TI}(hi:TT e=some i)(hk:∀b,K (.ptr b 0) ((b,i.zero)::σ)):j4 P o ρ σ K:=
 Fa hk fun η F w hx=>by
  obtain⟨j,d,z,hj,hd,_,_,_,hz,hY⟩:=dp ok hi
  obtain⟨h1,h2⟩:=v8 (F:=F) (w:=w) hY
  exact⟨z.cells,e,.pointer (some ⟨w.heap.size,0,none⟩),by simp[execOp,ho,Instr.alloc,newVar,newRow,zeroValue,typeInfo,hj,hz],by omega,h2,.ptr _ _ ⟨_,_,_,wo _ _⟩⟩
theorem VP(ok:dz P TT){o:Oper}{t e:TypeId}{len:Nat}{parts:Array (Nat×Operand)}(ho:o.op=.buildSlice t len parts){ρ:Operand→AV}{σ:Hp}{K:AV→Hp→Prop}{it i:TI}(ht:TT t=some it)(dA:it.k=.slice e)(hi:TT e=some i){cs:List AV}
  (hf:rW ((List.range len).map fun j=>(j*i.size,i.size)) (cE i.zero len) (parts.toList.map fun p=>(p.1,ρ p.2))=some cs) (ei:len*i.size≤16777216) (tk:1≤i.size) (hk:∀b,K (.ae b 0 len i.size) ((b,cs)::σ)):j4 P o ρ σ K:=
 Fa hk fun η F w hx=>by
  obtain⟨_,d,_,_,hd,_,_,jN,_,_⟩:=dp ok ht
  rw[dA]at jN
  obtain rfl:=jT jN
  obtain⟨j,d',z,hj,kd,hs,⟨_,ov⟩,_,hz,hY⟩:=dp ok hi
  obtain⟨hl,hr⟩:=Qy (parts:=parts) (ρ:=ρ) (η:=η) (F:=F) (w:=w) (by simpa [ho,Op.operands]using hx)
  have jm:z.cells.size=j.size:=by have:=(v8 (F:=F) (w:=w) hY).1;omega
  obtain⟨m1,m2⟩:=F4 (F:=F) (w:=w) hY (aU len)
  have iI:pA F w (cE i.zero len) (madeCells z.cells (len*i.zero.length)):=⟨by rw[vR,size_madeCells],m2⟩
  rw[ov,← hs]at iI
  obtain⟨ep,f1,f2⟩:=F9 (place:=fun k=>some (k*j.size,j.size)) (fun k p hk=>by
   obtain⟨a,ha,rfl⟩:=cf.1 hk
   simp[hs]) _ _ _ _ _ hl hr iI hf
  have aeO:ep.size=len*j.size:=by
   have e1:∀(us:List (Nat×AV)) (xs out:List AV),rW ((List.range len).map fun j=>(j*i.size,i.size)) xs us=some out→out.length=xs.length:=by
    intro us
    induction us with
    |nil=>intro xs out h;simp[rW]at h;subst h;rfl
    |cons p us ih=>
     intro xs out h
     obtain⟨q,v⟩:=p
     simp only[rW]at h
     split at h
     ·split at h
      ·rw[ih _ _ h,zp]
      ·cases h
     ·cases h
   have:=e1 _ _ _ hf
   rw[vR]at this
   have h3:=f2.1
   rw[ov,← hs]at this
   omega
  refine⟨ep,e,.slice (some ⟨w.heap.size,0,none⟩) len len,?_,by have:=f2.1;omega,f2.2,.ae _ _ _ _ _ _ ⟨ep,e,(0,0),wo _ _,aU _,?_,.inl ⟨rfl,by rw[aeO,hs];omega⟩⟩⟩
  ·by_cases h0:len*j.size=0
   ·have:ep = #[]:=EL.1 (by omega)
    subst this
    have f1':Instr.fill (fun k=>some (k*j.size,j.size)) #[] (parts.map fun (i,x)=>(i,η x)).toList=some #[]:=by
     have e0:madeCells z.cells (len*j.size) = #[]:=by rw[h0];simp[madeCells,Array.range_zero']
     rw[e0]at f1
     exact f1
    simp only[execOp,ho,Instr.buildSlice,Sem.run_bind,run_underlying hd,Result.andThen_ok,run_sizeOf hj,h0,if_true,Sem.run_pure,Nat.reducePow,if_false,nE,gt_iff_lt]
    rw[show ((Array.range 0).map fun x=>(#[]:Array Value)[x % (#[]:Array Value).size]!) = #[] by simp[Array.range_zero'],f1']
    rfl
   ·simp only[execOp,ho,Sem.run_bind,run_buildSlice w t e len _ ep j z hd hj hz (by rw[hs];omega) h0 f1]
    rfl
  ·have:len≤len*i.size:=Nat.le_mul_of_pos_right _ tk
   unfold maxLen;omega
theorem VR(ok:dz P TT){o:Oper}{t e:TypeId}{l c:Operand}(ho:o.op=.makeSlice t l c){ρ:Operand→AV}{σ:Hp}{K:AV→Hp→Prop}{it i:TI}(ht:TT t=some it)(dA:it.k=.slice e)(hi:TT e=some i){k k':IntKind}{n m:Int}(hl:ρ l=.int k n)(hc:ρ c=.int k' m)
  (h0:0≤n∧n≤m∧m≤1048576∧i.bytes≤1024) (hk:∀b,K (.ae b 0 n.toNat i.size) ((b,cE i.zero n.toNat)::σ)):j4 P o ρ σ K:=
 Fa hk fun η F w hx=>by
  obtain⟨_,d,_,_,hd,_,_,jN,_,_⟩:=dp ok ht
  rw[dA]at jN
  obtain rfl:=jT jN
  obtain⟨j,d',z,hj,kd,hs,⟨hb,ov⟩,_,hz,hY⟩:=dp ok hi
  have h1:=hx l (by simp[ho,Op.operands]);rw[hl]at h1
  have h2:=hx c (by simp[ho,Op.operands]);rw[hc]at h2
  obtain⟨m1,m2⟩:=F4 (F:=F) (w:=w) hY (show n.toNat≤m.toNat by omega)
  rw[ov,← hs]at m1 m2
  have sw:(j.bytes:Int)*m≤281474976710656:=by
   have:(j.bytes:Int)*m≤1024*1048576:=Int.mul_le_mul (by omega) (by omega) (by omega) (by omega)
   omega
  refine⟨madeCells z.cells (m.toNat*j.size),e,.slice (some ⟨w.heap.size,0,none⟩) n.toNat m.toNat,?_,m1,m2,.ae _ _ _ _ _ _ ⟨_,e,(0,0),wo _ _,by omega,by unfold maxLen;omega,.inl ⟨rfl,by rw[size_madeCells,hs];omega⟩⟩⟩
  simp only[execOp,ho,h1.gA,h2.gA,Sem.run_bind,run_make w t e j z hd hj hz k k' n m h0.1 h0.2.1 sw (by omega)]
  rfl
end
section
variable {P:Program} {TT:TypeId→Option TI} {F F':Nat→Prop} {w w':World}
theorem JE:∀(xs cs:List AV) (o k:Nat),o+xs.length≤cs.length→(fS cs o xs)[k]?=if o≤k∧k<o+xs.length then xs[k-o]? else cs[k]?
 | [],cs,o,k,_=>by rw[if_neg (by intro h;simp at h;omega)];rfl
 |x::xs,cs,o,k,h=>by
  simp only[ie]at h
  rw[fS,JE xs (cs.set o x) (o+1) k (by simp;omega)]
  simp only[ie]
  by_cases h1:o+1≤k∧k<o+1+xs.length
  ·rw[ai h1,ai (by omega),show k-o=(k-(o+1))+1 by omega];rfl
  ·rw[ah h1]
   by_cases h2:o=k
   ·subst h2
    rw[ai (by omega),pG,eR]
    simp;omega
   ·rw[ah (by omega),eR,ah h2]
theorem abI(c vs:List Value)(o k:Nat)(h:o+vs.length≤c.length):(c.take o++vs++c.drop (o+vs.length))[k]?=if o≤k∧k<o+vs.length then vs[k-o]? else c[k]?:=by
 have hl:(c.take o).length=o:=by simp;omega
 by_cases h1:k<o
 ·rw[ah (by omega),dM,kf (by omega),qC,ai h1]
 ·by_cases h2:k<o+vs.length
  ·rw[ai (by omega),dM,iJ (by omega),hl,kf (by omega)]
  ·rw[if_neg (by omega),List.getElem?_append_right (by simp;omega),List.getElem?_drop]
   congr 1
   simp;omega
theorem V7{i:TI}{cs cs':List AV}{o:Nat}{v:AV}(h:kJ i cs o v=some cs'):∃vs,v.cells?=some vs∧vs.length=i.size∧o+i.size≤cs.length∧cs'=fS cs o vs:=by
 unfold kJ at h
 split at h
 ·rename_i vs hv
  split at h
  ·rename_i h1 h2
   exact⟨vs,hv,jx h1,cH h2,(Option.some.inj h).symm⟩
  ·cases h
 ·cases h
theorem F5{c:Array Value}{cs xs:List AV}{vs:List Value}{o:Nat}(hc:∀(i:Nat) (x:AV),cs[i]?=some x→x.leaf=true∧aA F w x (c.getD i undef))(hx:xs.length=vs.length)(hv:∀(i:Nat) (x:AV),xs[i]?=some x→x.leaf=true∧aA F w x (vs.getD i undef))(ho:o+xs.length≤c.size)
  {out:List AV} (ny:out.length≤c.size) (HI:∀k y,out[k]?=some y→(if o≤k∧k<o+xs.length then xs[k-o]? else cs[k]?)=some y) :
  ∀(i:Nat) (x:AV),out[i]?=some x→x.leaf=true∧aA F w x ((c.toList.take o++vs++c.toList.drop (o+vs.length)).toArray.getD i undef):=by
 intro k y hk
 have h1:=HI k y hk
 have ab:k<out.length:=(cf.1 hk).1
 have afF:=abI c.toList vs o k (by simp;omega)
 have Ed:k<c.size:=by omega
 have hlen:(c.toList.take o++vs++c.toList.drop (o+vs.length)).length=c.size:=by simp;omega
 have hgd:(c.toList.take o++vs++c.toList.drop (o+vs.length)).toArray.getD k undef=((c.toList.take o++vs++c.toList.drop (o+vs.length))[k]?).getD undef:=by
  have h2:k<(c.toList.take o++vs++c.toList.drop (o+vs.length)).toArray.size:=by rw[qB,hlen];exact Ed
  simp only[Array.getD,h2,dif_pos]
  rw[bJ (by rw[hlen];exact Ed)]
  rfl
 rw[hgd,afF]
 split at h1
 ·rename_i dW
  rw[ai (by omega)]
  obtain⟨h2,h3⟩:=hv _ y h1
  exact⟨h2,by rw[aW]at h3;exact h3⟩
 ·rename_i dW
  rw[ah (by omega)]
  obtain⟨h2,h3⟩:=hc _ y h1
  refine⟨h2,?_⟩
  simpa [Array.getD,Ed]using h3
theorem Wm(ok:dz P TT){o:Oper}{t:TypeId}{p x:Operand}(ho:o.op=.store t p x){ρ:Operand→AV}{σ:Hp}{K:AV→Hp→Prop}{i:TI}(hi:TT t=some i){b off:Nat}(hp:ρ p=.ptr b off)(h:GI i σ b off (ρ x) (fun σ'=>K .any σ')):j4 P o ρ σ K:=by
 intro a F w hx aF next Q hn
 obtain⟨j,cs,cs',h1,h2,go⟩:=h
 obtain⟨vs,hv,Ip,hle,rfl⟩:=V7 h2
 obtain⟨jt,d,z,hj,hd,hs,_⟩:=dp ok hi
 have a1:=hx p (by simp[ho,Op.operands]);rw[hp]at a1
 have a2:=hx x (by simp[ho,Op.operands])
 obtain⟨c1,c2⟩:=JP a2 hv
 obtain⟨hF,c,T,hc,ej,nz⟩:=(aF.holds _ (cq h1)).cells a1.zF
 have ej:cs.length≤c.size:=ej
 have oa:∀u∈(a.eval x).cells.toList,u.oneCell'=true:=by
  intro u hu
  obtain⟨k,hk⟩:=rF.1 hu
  have ab:k<(a.eval x).cells.size:=by have:=(List.getElem?_eq_some_iff.1 hk).1;simpa using this
  obtain⟨h3,h4⟩:=c2 k vs[k] (by simp)
  have:=h4.one h3
  simpa [Array.getD,ab,show (a.eval x).cells[k]=u by simpa [ab]using hk]using this
 have aq:=run_storeCells_at (P:=P) b off T (a.eval x).cells.toList 0 c w hc (by simp[c1];omega) oa
 have fw:(execOp a.eval o).run P w=.ok .skip (w.setRow b (c.toList.take off++(a.eval x).cells.toList++c.toList.drop (off+(a.eval x).cells.toList.length)).toArray):=by
  simp only[vK]at aq
  have ei:¬((a.eval x).cells.size≠jt.size):=by rw[c1,Ip,hs];simp
  simp only[execOp,ho,a1.yE,Instr.storeAt,Instr.sureAddr,Sem.run_bind,Sem.run_pure,Result.andThen_ok,storeVar,run_sizeOf hj,ah ei,aq]
 unfold wq
 rw[fw]
 have hlen:(c.toList.take off++(a.eval x).cells.toList++c.toList.drop (off+(a.eval x).cells.toList.length)).length=c.size:=by simp;omega
 obtain⟨s1,s2⟩:=BP aF h1 (cs':=fS cs off vs) hc (c':=(c.toList.take off++(a.eval x).cells.toList++c.toList.drop (off+(a.eval x).cells.toList.length)).toArray) (by simp only[qB];exact hlen) (by rw[zp];simp only[qB];omega)
  (F5 (xs:=vs) nz (by simp[c1]) (fun k y hk=>by
   have ab:k<(a.eval x).cells.size:=by rw[c1];exact (cf.1 hk).1
   have:=c2 k y hk
   simpa [Array.getD,List.getD,ab]using this) (by omega) (by rw[zp];omega) (fun k y hk=>by rw[JE _ _ _ _ (by omega)]at hk;exact hk))
  (fun k hk=>setRow_other w b k _ hk) (setRow_heap w b c _ T _ hc) rfl rfl rfl (by simp)
 exact hn undef .any _ F _ s1 s2 (.any _) go
theorem At.flat{α:Type}{f:α→List AV}{es:Nat}(hf:∀x,(f x).length=es){b:Nat}:∀(l:List α) (o:Nat),(∀i,(h:i<l.length)→At F w b (o+i*es) (f l[i]))→At F w b o (l.flatMap f)
 | [],o,_=>fun i x h=>by simp at h
 |y::l,o,h=>by
  have h0:=h 0 (by simp)
  have ih:=At.flat hf l (o+es) (fun i hi=>by
   have:=h (i+1) (by simpa using hi)
   rw[qz,show o+(i*es+es)=o+es+i*es by omega]at this
   simpa using this)
  intro i x hx
  rw[zi]at hx
  by_cases hi:i<es
  ·rw[kf (by rw[hf];exact hi)]at hx
   have:=h0 i x (by simpa using hx)
   simpa using this
  ·rw[iJ (by rw[hf];omega),hf]at hx
   have:=ih (i-es) x hx
   rw[show o+es+(i-es)=o+i by omega]at this
   exact this
theorem vT{α:Type}{f:α→List AV}{es:Nat}(hf:∀x,(f x).length=es):∀(l:List α),(l.flatMap f).length=l.length*es
 | []=>by simp
 |y::l=>by rw[zi,bQ,hf,vT hf l,ie,qz];omega
theorem CD{b o:Nat}{cs:List AV}(h:At F w b o cs):∃news:List Value,news.length=cs.length∧(∀j u,news[j]?=some u→w.cell? ⟨b,o+j,none⟩=some u)∧(∀(i:Nat) (x:AV),cs[i]?=some x→x.leaf=true∧aA F w x (news.getD i undef))∧∀u∈news,u.oneCell'=true:=by
 have hc:∀m,m<cs.length→∃v,w.cell? ⟨b,o+m,none⟩=some v∧v.oneCell'=true:=by
  intro m hm
  obtain⟨h1,v,h2,h3⟩:=h m cs[m] (by simp[hm])
  exact⟨v,h2,h3.one h1⟩
 refine⟨(List.range cs.length).map fun m=>(w.cell? ⟨b,o+m,none⟩).getD undef,by simp,fun j u hj=>?_,fun i x hx=>?_,fun u hu=>?_⟩
 ·have ab:j<cs.length:=by have:=(List.getElem?_eq_some_iff.1 hj).1;simpa using this
  obtain⟨v,h2,_⟩:=hc j ab
  simp[ab,h2]at hj
  rw[h2,hj]
 ·have ab:i<cs.length:=(cf.1 hx).1
  obtain⟨h1,v,h2,h3⟩:=h i x hx
  refine⟨h1,?_⟩
  simpa [List.getD,ab,h2]using h3
 ·obtain⟨m,hm,rfl⟩:=dX.1 hu
  obtain⟨v,h2,h3⟩:=hc m (gw.1 hm)
  rw[h2]
  exact h3
theorem BN{σ:Hp}{es n:Nat}{x:AV}{new:List AV}(h:j0 σ es x n new)(aF:bg F w σ){v:Value}(hv:aA F w x v){tx e':TypeId}(hk:P.underlying tx=some (.slice e')):
  ∃news:List Value,Src P es tx v n news w∧new.length=news.length∧∀(i:Nat) (x:AV),new[i]?=some x→x.leaf=true∧aA F w x (news.getD i undef):=by
 have empty:∀(a:Option Addr) (c:Nat),Src P es tx (.slice a 0 c) 0 [] w:=by
  intro a c
  cases a with
  |none=>exact Src.ofNil w hk c
  |some a=>exact Src.ofSlice w hk a 0 c [] (by simp) (fun j u h=>by simp at h) (fun _ h=>by cases h)
 cases h with
 |aj=>cases hv;exact⟨[],empty _ _,rfl,fun i x h=>by simp at h⟩
 |kq=>cases hv;exact⟨[],empty _ _,rfl,fun i x h=>by simp at h⟩
 |gU=>cases hv;exact⟨[],empty _ _,rfl,fun i x h=>by simp at h⟩
 |af s l hs=>
  obtain⟨a,c,rfl,h1,h2,h3⟩:=hv.DD
  by_cases aP:l=[]
  ·subst aP
   exact⟨[],empty _ _,rfl,fun i x h=>by simp at h⟩
  ·obtain⟨b,o,rfl,hF,hr⟩:=h3 aP
   have dR:At F w b o (l.flatMap s.cells):=At.flat (es:=s.size) (fun d=>Sh.sL s d) l o (fun i hi=>by
    obtain⟨cs',q1,q2,q3⟩:=hr i hi
    exact At.SQ s q2 q3)
   obtain⟨news,n1,n2,n3,n4⟩:=CD dR
   have hl:=vT (fun d=>Sh.sL s d) l
   exact⟨news,Src.ofSlice w hk _ _ c news (by rw[n1,hl,hs]) (fun j u hj=>by rw[oW];exact n2 j u hj) n4,n1.symm,n3⟩
 |ae j b off len cs h1 h2=>
  obtain⟨a,cap,rfl,c,T,fz,m1,m2,m3,m4⟩:=hv.lu
  have dR:At F w b off ((cs.drop off).take (n*es)):=by
   have:=(aF.at_ h1 ⟨c,T,fz,m1⟩).drop off
   rw[eF]at this
   intro i x hx
   rw[qC]at hx
   split at hx
   ·exact this i x hx
   ·cases hx
  have hl:((cs.drop off).take (n*es)).length=n*es:=by simp;omega
  obtain⟨news,n1,n2,n3,n4⟩:=CD dR
  rcases m4 with ⟨rfl,_⟩ | ⟨q1,q2,rfl,rfl⟩
  ·exact⟨news,Src.ofSlice w hk _ _ cap news (by rw[n1,hl]) (fun j u hj=>by rw[oW];exact n2 j u hj) n4,n1.symm,n3⟩
  ·have h0:(List.take (0*es) (List.drop off cs))=[]:=by simp
   rw[h0]
   exact⟨[],empty _ _,rfl,fun i x h=>by simp at h⟩
theorem sK{η:Operand→Value}{o:Oper}{s x:Operand}{t t':TypeId}(ho:o.op=.call ⟨.builtin .append,#[s,x],#[t,t']⟩){v:Value}{w w':World}(h:(Builtin.append_ #[t,t'] o.type #[η s,η x]).run P w=.ok v w'):(execOp η o).run P w=.ok (.value v) w':=by
 rw[sP _ _ _ o ho]
 simp[builtin,h]
theorem Xl(z:Array Value)(n:Nat):(Builtin.zeroCells z n).size=n*z.size:=by simp[Builtin.zeroCells]
theorem FJ{σ:Hp}(aF:bg F w σ){e:TypeId}{i:TI}{z:Value}{olds news:List Value}{co cn:List AV}{len n cap:Nat}(ho:co.length=olds.length)(hn:cn.length=news.length)(hor:∀(i:Nat) (x:AV),co[i]?=some x→x.leaf=true∧aA F w x (olds.getD i undef))(hnr:∀(i:Nat) (x:AV),cn[i]?=some x→x.leaf=true∧aA F w x (news.getD i undef))
  (pD:olds.length=len*i.size) (hln:news.length=n*i.size) (jm:z.cells.size=i.size) (ma:len+n≤cap) (mJ:cap≤maxLen) :
  let w2:=w.drew.alloc (.cells ((olds++news).toArray++Builtin.zeroCells z.cells (cap-(len+n))) e)
  bE F w F w2∧bg F w2 ((w.heap.size,co++cn)::σ)∧aA F w2 (.ae w.heap.size 0 (len+n) i.size) (.slice (some ⟨w.heap.size,0,none⟩) (len+n) cap):=by
 intro w2
 have ei:((olds++news).toArray++Builtin.zeroCells z.cells (cap-(len+n))).size=cap*i.size:=by
  simp only[Array.size_append,qB,bQ,Xl,jm,pD,hln]
  rw[← qy,← qy]
  congr 1
  omega
 obtain⟨h1,h2⟩:=Pc aF (c:=(olds++news).toArray++Builtin.zeroCells z.cells (cap-(len+n))) (T:=e) (cs:=co++cn) (by simp;omega) (fun k x hx=>by
  have ab:k<(co++cn).length:=(cf.1 hx).1
  have dF:k<(olds++news).length:=by simp at ab ⊢;omega
  have e1:((olds++news).toArray++Builtin.zeroCells z.cells (cap-(len+n))).getD k undef=(olds++news).getD k undef:=by
   rw[Array.getD_eq_getD_getElem?,Array.getElem?_append_left (by simpa using dF),List.getD_eq_getElem?_getD,List.getElem?_toArray]
  rw[e1]
  by_cases hk:k<co.length
  ·rw[kf hk]at hx
   rw[aW,kf (by omega),← aW]
   exact hor k x hx
  ·rw[iJ (by omega)]at hx
   rw[aW,iJ (by omega),← aW,← ho]
   exact hnr _ x hx) (w0:=w.drew) (.inr rfl)
 refine⟨h1,h2,.ae _ _ _ _ _ _ ⟨_,e,(0,0),?_,ma,mJ,.inl ⟨rfl,by rw[ei];omega⟩⟩⟩
 exact wo w.drew _
theorem E3(ok:dz P TT){o:Oper}{s x:Operand}{t t' e e':TypeId}(ho:o.op=.call ⟨.builtin .append,#[s,x],#[t,t']⟩){ρ:Operand→AV}{σ:Hp}{K:AV→Hp→Prop}{it si i:TI}(ht:TT t=some it)(hk:it.k=.slice e)(ns:TT t'=some si)(dA:si.k=.slice e')(hi:TT e=some i)
  (h:GJ i σ (ρ s) (ρ x) K):j4 P o ρ σ K:=by
 intro a F w hx aF next Q cU
 obtain⟨_,d,_,_,hd,_,_,jN,_,_⟩:=dp ok ht
 rw[hk]at jN
 obtain rfl:=jT jN
 obtain⟨_,d',_,_,kd,_,_,wZ,_,_⟩:=dp ok ns
 rw[dA]at wZ
 obtain rfl:=jT wZ
 obtain⟨j,dj,z,hj,ND,hs,⟨hb,ov⟩,_,hz,hY⟩:=dp ok hi
 have jm:z.cells.size=i.size:=by have:=(v8 (F:=F) (w:=w) hY).1;omega
 have a1:=hx s (by simp[ho,Op.operands,Call.operands])
 have a2:=hx x (by simp[ho,Op.operands,Call.operands])
 have fits:∀{len n:Nat},len+n≤1048576→i.bytes≤1024→(len+n)*j.bytes≤140737488355328:=by
  intro len n h1 h2
  rw[hb]
  have:(len+n)*i.bytes≤1048576*1024:=tP h1 h2
  omega
 cases h with
 |fresh n new gB uS hn za h0 go same=>
  obtain⟨news,src,q1,q2⟩:=BN (P:=P) uS aF a2 kd
  rw[← hs]at src
  obtain⟨ad,hv⟩:∃ad,a.eval s=.slice ad 0 0:=by
   rcases gB with gB | gB
   ·rw[gB]at a1;revert a1;generalize a.eval s=u;intro a1;cases a1;exact⟨none,rfl⟩
   ·rw[gB]at a1;revert a1;generalize a.eval s=u;intro a1;cases a1;exact⟨_,rfl⟩
  by_cases fR:n=0
  ·subst fR
   have uJ:news=[]:=List.length_eq_zero_iff.1 (by rw[src.newsLen];simp)
   subst uJ
   have hr:=sK (η:=a.eval) ho (by rw[hv];exact run_append_nothing w t t' o.type e j hd hj ad 0 0 (aU _) _ src)
   unfold wq
   rw[hr]
   exact cU _ _ σ F w (.refl _ _) aF (by rw[← hv];exact a1) (same rfl)
  ·have hold:(Builtin.firstCells j.size 0 (.slice ad 0 0)).run P w.drew=.ok #[] w.drew:=by
    cases ad with
    |none=>exact run_firstCells_none w.drew _ _ _ _
    |some ad=>exact run_firstCells_some w.drew j.size 0 ad 0 0 [] (by simp) (fun j u h=>by simp at h)
   have yw:=run_append_grow_src (P:=P) w t t' o.type e j z hd hj hz ad 0 0 [] hold _ n news src (by omega) (by omega) (growslice_fits (by omega) (fits (by omega) za))
   have ar:=grownCap_ge w (0+n) 0 e
   have vE:=grownCap_le_maxLen w (0+n) 0 e (by unfold maxLen;omega)
   obtain⟨g1,g2,g3⟩:=FJ aF (e:=e) (i:=i) (z:=z) (olds:=[]) (co:=[]) (news:=news) (cn:=new) (len:=0) (n:=n) (cap:=grownCap w (0+n) 0 e) rfl q1 (fun i x h=>by simp at h) q2 (by simp) (by rw[src.newsLen,hs]) jm ar vE
   have hr:=sK (η:=a.eval) ho (by rw[hv];exact yw)
   unfold wq
   rw[hr]
   have:=go fR w.heap.size
   rw[show n=0+n from (eF n).symm]at this
   exact cU _ _ _ F _ g1 g2 g3 this
 |more jj b len n cs new oz sr ej uS hn za h0 go=>
  obtain⟨news,src,q1,q2⟩:=BN (P:=P) uS aF a2 kd
  rw[oz]at a1
  obtain⟨ad,cap,hv,c,T,fz,m1,m2,m3,m4⟩:=a1.lu
  obtain⟨hF,c',T',kD,Dz,HK⟩:=(aF.holds _ (cq sr)).cells ⟨c,T,fz,m1⟩
  have Dz:cs.length≤c'.size:=Dz
  have NH:c=c'∧T=T'∧fz=(0,0):=by
   rw[kD]at m1;cases m1;exact⟨rfl,rfl,rfl⟩
  obtain⟨rfl,rfl,rfl⟩:=NH
  have ab:jj<σ.length:=(cf.1 sr).1
  have tJ:(cs.take (len*i.size)).length=len*i.size:=by simp;omega
  have ME:∀(k:Nat) (x:AV),(cs.take (len*i.size))[k]?=some x→x.leaf=true∧aA F w x (c.getD k undef):=by
   intro k x hx
   rw[qC]at hx
   split at hx
   ·exact HK k x hx
   ·cases hx
  have lZ:bg F w (σ.eraseIdx jj):=aF.sub (List.eraseIdx_sublist _ _)
  by_cases nS:len+n≤cap
  ·rcases m4 with ⟨rfl,px⟩ | ⟨tK,sA,ib,iI⟩
   ·rw[eF]at px
    have hmul:(len+n)*i.size≤cap*i.size:=lO _ nS
    rw[qy]at hmul
    have l7:news.length=n*i.size:=src.newsLen
    have aq:=run_storeCells_at (P:=P) b (len*i.size) T news 0 c w kD (by omega) src.one
    simp only[vK]at aq
    rw[← hs]at src
    have tq:(Builtin.append_ #[t,t'] o.type #[.slice (some ⟨b,0,none⟩) len cap,a.eval x]).run P w=.ok (.slice (some ⟨b,0,none⟩) (len+n) cap) (w.setRow b (c.toList.take (len*i.size)++news++c.toList.drop (len*i.size+news.length)).toArray):=by
     rw[← hs]at aq ⊢
     simp[Builtin.append_,run_underlying hd,run_underlying kd,sizeOf,typeInfo,hj,src.len,nS,src.cells,Addr.add_lit,aq]
    have hr:=sK (η:=a.eval) ho (by rw[hv];exact tq)
    have hlen:(c.toList.take (len*i.size)++news++c.toList.drop (len*i.size+news.length)).length=c.size:=by simp;omega
    obtain⟨s1,s2⟩:=BP aF sr (cs':=cs.take (len*i.size)++new) kD (c':=(c.toList.take (len*i.size)++news++c.toList.drop (len*i.size+news.length)).toArray) (by simp only[qB];exact hlen) (by rw[qB,hlen,bQ,tJ,q1];omega)
     (F5 (cs:=cs.take (len*i.size)) (xs:=new) (fun k y hk=>ME k y hk) q1 q2 (by omega) (by simp only[bQ,tJ,q1];omega) (fun k y hk=>by
      by_cases mG:k<len*i.size
      ·rw[ah (by omega)]
       rw[kf (by omega)]at hk
       exact hk
      ·rw[iJ (by omega),tJ]at hk
       have:=(cf.1 hk).1
       rw[ai (by omega)]
       exact hk))
     (fun k hk=>setRow_other w b k _ hk) (setRow_heap w b c _ T _ kD) rfl rfl rfl (by simp)
    unfold wq
    rw[hr]
    refine cU _ _ _ F _ s1 (s2.perm ?_) ?_ (go b)
    ·have:=xJ (σ.set jj (b,cs.take (len*i.size)++new)) jj (b,cs.take (len*i.size)++new) (by simp[ab])
     rw[Oe]at this
     exact this
    ·exact .ae _ _ _ _ _ _ ⟨_,T,(0,0),setRow_heap w b c _ T _ kD,by omega,m3,.inl ⟨rfl,by simp only[qB];rw[hlen];omega⟩⟩
   ·subst ib;subst iI
    obtain rfl:n=0:=by omega
    have uJ:news=[]:=List.length_eq_zero_iff.1 (by rw[src.newsLen];simp)
    subst uJ
    rw[← hs]at src
    have gZ:new=[]:=List.length_eq_zero_iff.1 (by simpa using q1)
    subst gZ
    have hr:=sK (η:=a.eval) ho (by rw[hv];exact run_append_nothing w t t' o.type e j hd hj (some ad) 0 0 (aU _) _ src)
    unfold wq
    rw[hr]
    have nT:bg F w ((b,cs)::σ.eraseIdx jj):=aF.perm (xJ σ jj (b,cs) sr)
    have g0:K (.ae b 0 0 i.size) ((b,[])::σ.eraseIdx jj):=by simpa using go b
    refine cU _ _ ((b,[])::σ.eraseIdx jj) F w (.refl _ _) ⟨nT.nodup,fun p hp=>?_,nT.low⟩ (.ae b 0 0 i.size ad 0 ⟨c,T,(0,0),kD,aU _,by unfold maxLen;omega,.inr ⟨tK,sA,rfl,rfl⟩⟩) g0
    rcases eG.1 hp with rfl | hp
    ·exact⟨hF,.inl ⟨c,T,kD,by simp,fun i x h=>by simp at h⟩⟩
    ·exact nT.holds p (cY _ hp)
  ·obtain⟨olds,o1,o2,o3⟩:∃olds:List Value,olds.length=len*i.size∧(Builtin.firstCells i.size len (.slice (some ad) len cap)).run P w.drew=.ok olds.toArray w.drew∧∀(k:Nat) (x:AV),(cs.take (len*i.size))[k]?=some x→x.leaf=true∧aA F w x (olds.getD k undef):=by
    rcases m4 with ⟨rfl,px⟩ | ⟨tK,sA,rfl,rfl⟩
    ·have dR:At F w b 0 (cs.take (len*i.size)):=by
      have:=aF.at_ sr ⟨_,_,_,kD⟩
      intro k x hx
      rw[qC]at hx
      split at hx
      ·exact this k x hx
      ·cases hx
     obtain⟨olds,n1,n2,n3,n4⟩:=CD dR
     refine⟨olds,by rw[n1,tJ],run_firstCells_some w.drew i.size len _ len cap olds (by rw[n1,tJ]) (fun k u hk=>?_),n3⟩
     rw[oW]
     exact n2 k u hk
    ·exact⟨[],by simp,run_firstCells_some w.drew i.size 0 ad 0 0 [] (by simp) (fun j u h=>by simp at h),fun k x h=>by simp at h⟩
   have l7:news.length=n*i.size:=src.newsLen
   rw[← hs]at src
   have yw:=run_append_grow_src (P:=P) w t t' o.type e j z hd hj hz (some ad) len cap olds (by rw[hs];exact o2) _ n news src (by omega) (by omega) (growslice_fits (by omega) (fits (by omega) za))
   have ar:=grownCap_ge w (len+n) cap e
   have vE:=grownCap_le_maxLen w (len+n) cap e (by unfold maxLen;omega)
   obtain⟨g1,g2,g3⟩:=FJ lZ (e:=e) (i:=i) (z:=z) (olds:=olds) (co:=cs.take (len*i.size)) (news:=news) (cn:=new) (len:=len) (n:=n) (cap:=grownCap w (len+n) cap e) (by rw[tJ,o1]) q1 o3 q2 o1 l7 jm ar vE
   have hr:=sK (η:=a.eval) ho (by rw[hv];exact yw)
   unfold wq
   rw[hr]
   exact cU _ _ _ F _ g1 g2 g3 (go w.heap.size)
 |Ai jj b off len n cs new oz sr ej uS hn za h0 w7 go=>
  obtain⟨news,src,q1,q2⟩:=BN (P:=P) uS aF a2 kd
  rw[oz]at a1
  obtain⟨ad,cap,hv,c,T,fz,m1,m2,m3,m4⟩:=a1.lu
  obtain⟨hF,c',T',kD,Dz,HK⟩:=(aF.holds _ (cq sr)).cells ⟨c,T,fz,m1⟩
  have Dz:cs.length≤c'.size:=Dz
  have NH:c=c'∧T=T'∧fz=(0,0):=by
   rw[kD]at m1;cases m1;exact⟨rfl,rfl,rfl⟩
  obtain⟨rfl,rfl,rfl⟩:=NH
  have ab:jj<σ.length:=(cf.1 sr).1
  have tJ:(cs.take (off+len*i.size)).length=off+len*i.size:=by simp;omega
  have MF:((cs.drop off).take (len*i.size)).length=len*i.size:=by simp;omega
  have ME:∀(k:Nat) (x:AV),(cs.take (off+len*i.size))[k]?=some x→x.leaf=true∧aA F w x (c.getD k undef):=by
   intro k x hx
   rw[qC]at hx
   split at hx
   ·exact HK k x hx
   ·cases hx
  have lZ:bg F w (σ.eraseIdx jj):=aF.sub (List.eraseIdx_sublist _ _)
  by_cases nS:len+n≤cap
  ·rcases m4 with ⟨rfl,px⟩ | ⟨tK,sA,ib,iI⟩
   ·have px:off+cap*i.size≤c.size:=px
    have hmul:(len+n)*i.size≤cap*i.size:=lO _ nS
    rw[qy]at hmul
    have l7:news.length=n*i.size:=src.newsLen
    have aq:=run_storeCells_at (P:=P) b (off+len*i.size) T news 0 c w kD (by omega) src.one
    simp only[vK]at aq
    rw[← hs]at src
    have tq:(Builtin.append_ #[t,t'] o.type #[.slice (some ⟨b,off,none⟩) len cap,a.eval x]).run P w=.ok (.slice (some ⟨b,off,none⟩) (len+n) cap) (w.setRow b (c.toList.take (off+len*i.size)++news++c.toList.drop (off+len*i.size+news.length)).toArray):=by
     rw[← hs]at aq ⊢
     simp[Builtin.append_,run_underlying hd,run_underlying kd,sizeOf,typeInfo,hj,src.len,nS,src.cells,Addr.add_lit,aq]
    have hr:=sK (η:=a.eval) ho (by rw[hv];exact tq)
    have hlen:(c.toList.take (off+len*i.size)++news++c.toList.drop (off+len*i.size+news.length)).length=c.size:=by simp;omega
    obtain⟨s1,s2⟩:=BP aF sr (cs':=cs.take (off+len*i.size)++new) kD (c':=(c.toList.take (off+len*i.size)++news++c.toList.drop (off+len*i.size+news.length)).toArray) (by simp only[qB];exact hlen) (by rw[qB,hlen,bQ,tJ,q1];omega)
     (F5 (cs:=cs.take (off+len*i.size)) (xs:=new) (fun k y hk=>ME k y hk) q1 q2 (by omega) (by simp only[bQ,tJ,q1];omega) (fun k y hk=>by
      by_cases mG:k<off+len*i.size
      ·rw[ah (by omega)]
       rw[kf (by omega)]at hk
       exact hk
      ·rw[iJ (by omega),tJ]at hk
       have:=(cf.1 hk).1
       rw[ai (by omega)]
       exact hk))
     (fun k hk=>setRow_other w b k _ hk) (setRow_heap w b c _ T _ kD) rfl rfl rfl (by simp)
    unfold wq
    rw[hr]
    refine cU _ _ _ F _ s1 (s2.perm ?_) ?_ w7
    ·have:=xJ (σ.set jj (b,cs.take (off+len*i.size)++new)) jj (b,cs.take (off+len*i.size)++new) (by simp[ab])
     rw[Oe]at this
     exact this
    ·exact .ae _ _ _ _ _ _ ⟨_,T,(0,0),setRow_heap w b c _ T _ kD,by omega,m3,.inl ⟨rfl,by simp only[qB];rw[hlen];omega⟩⟩
   ·subst ib;subst iI
    obtain rfl:n=0:=by omega
    have uJ:news=[]:=List.length_eq_zero_iff.1 (by rw[src.newsLen];simp)
    subst uJ
    rw[← hs]at src
    have gZ:new=[]:=List.length_eq_zero_iff.1 (by simpa using q1)
    subst gZ
    have hr:=sK (η:=a.eval) ho (by rw[hv];exact run_append_nothing w t t' o.type e j hd hj (some ad) 0 0 (aU _) _ src)
    unfold wq
    rw[hr]
    have nT:bg F w ((b,cs)::σ.eraseIdx jj):=aF.perm (xJ σ jj (b,cs) sr)
    have g0:K (.ae b off 0 i.size) ((b,cs.take off)::σ.eraseIdx jj):=by simpa using w7
    refine cU _ _ ((b,cs.take off)::σ.eraseIdx jj) F w (.refl _ _) ⟨nT.nodup,fun p hp=>?_,nT.low⟩ (.ae b off 0 i.size ad 0 ⟨c,T,(0,0),kD,aU _,by unfold maxLen;omega,.inr ⟨tK,sA,rfl,rfl⟩⟩) g0
    rcases eG.1 hp with rfl | hp
    ·exact⟨hF,.inl ⟨c,T,kD,by simp only[xC];omega,fun k x h=>by
      rw[qC]at h
      split at h
      ·exact HK k x h
      ·cases h⟩⟩
    ·exact nT.holds p (cY _ hp)
  ·obtain⟨olds,o1,o2,o3⟩:∃olds:List Value,olds.length=len*i.size∧(Builtin.firstCells i.size len (.slice (some ad) len cap)).run P w.drew=.ok olds.toArray w.drew∧∀(k:Nat) (x:AV),((cs.drop off).take (len*i.size))[k]?=some x→x.leaf=true∧aA F w x (olds.getD k undef):=by
    rcases m4 with ⟨rfl,px⟩ | ⟨tK,sA,rfl,rfl⟩
    ·have dR:At F w b off ((cs.drop off).take (len*i.size)):=by
      have:=aF.at_ sr ⟨_,_,_,kD⟩
      intro k x hx
      rw[qC]at hx
      split at hx
      ·rw[zj]at hx
       have h5:=this (off+k) x hx
       simpa only [eF]using h5
      ·cases hx
     obtain⟨olds,n1,n2,n3,n4⟩:=CD dR
     refine⟨olds,by rw[n1,MF],run_firstCells_some w.drew i.size len _ len cap olds (by rw[n1,MF]) (fun k u hk=>?_),n3⟩
     rw[oW]
     exact n2 k u hk
    ·exact⟨[],by simp,run_firstCells_some w.drew i.size 0 ad 0 0 [] (by simp) (fun j u h=>by simp at h),fun k x h=>by simp at h⟩
   have l7:news.length=n*i.size:=src.newsLen
   rw[← hs]at src
   have yw:=run_append_grow_src (P:=P) w t t' o.type e j z hd hj hz (some ad) len cap olds (by rw[hs];exact o2) _ n news src (by omega) (by omega) (growslice_fits (by omega) (fits (by omega) za))
   have ar:=grownCap_ge w (len+n) cap e
   have vE:=grownCap_le_maxLen w (len+n) cap e (by unfold maxLen;omega)
   obtain⟨g1,g2,g3⟩:=FJ lZ (e:=e) (i:=i) (z:=z) (olds:=olds) (co:=(cs.drop off).take (len*i.size)) (news:=news) (cn:=new) (len:=len) (n:=n) (cap:=grownCap w (len+n) cap e) (by rw[MF,o1]) q1 o3 q2 o1 l7 jm ar vE
   have hr:=sK (η:=a.eval) ho (by rw[hv];exact yw)
   unfold wq
   rw[hr]
   exact cU _ _ _ F _ g1 g2 g3 (go w.heap.size)
theorem VO(w:World)(t t' ty e:TypeId)(k:IntKind)(i:TypeInfo)(z:Value)(hd:P.underlying t=some (.slice e))(kd:P.underlying t'=some (.int k))(hi:P.info? e=some i)(hz:i.zero=some z)(k':IntKind)(m:Nat)(h0:0<m)(hm:m≤1048576)(hb:m*i.bytes≤140737488355328)(hs:0<i.size):
  (Builtin.append_ #[t,t'] ty #[.slice none 0 0,.int k' (m:Int)]).run P w=.ok (.slice (some ⟨w.heap.size,0,none⟩) m (grownCap w m 0 e)) (w.drew.alloc (.cells (([]++(Builtin.zeroCells z.cells m).toList).toArray++Builtin.zeroCells z.cells (grownCap w m 0 e-m)) e)):=by
 have hw:IntKind.i64.wrap (m:Int)=m:=by rw[IntKind.wrap_i64];omega
 have h1:¬((m:Int)<0):=by omega
 have h2:¬((281474976710656:Int)<(m:Int)*(i.bytes:Int)):=by
  have:((m*i.bytes:Nat):Int)≤140737488355328:=by omega
  rw[EA]at this;omega
 have h3:¬(9223372036854775807<(m:Int)):=by omega
 have h4:¬(281474976710656<Builtin.nextslicecap m 0*i.bytes):=by rw[nextslicecap_zero h0];omega
 have h5:m≠0:=by omega
 have h6:i.size≠0:=by omega
 simp[Builtin.append_,run_underlying hd,run_underlying kd,sizeOf,typeInfo,zeroValue,hi,hz,asInt,asIntOf,hw,h1,h2,h3,h4,h5,Question.forced,run_firstCells_none,newRow,grownCap]
 intro h7
 exact absurd h7 (Nat.mul_ne_zero h5 h6)
theorem V6(ok:dz P TT){o:Oper}{s x:Operand}{t t' e:TypeId}{k:IntKind}(ho:o.op=.call ⟨.builtin .append,#[s,x],#[t,t']⟩){ρ:Operand→AV}{σ:Hp}{K:AV→Hp→Prop}{it si i:TI}(ht:TT t=some it)(hk:it.k=.slice e)(ns:TT t'=some si)(dA:si.k=.int k)(hi:TT e=some i)
  (h:CF i σ (ρ s) (ρ x) K):j4 P o ρ σ K:=by
 intro a F w hx aF next Q cU
 obtain⟨_,d,_,_,hd,_,_,jN,_,_⟩:=dp ok ht
 rw[hk]at jN
 obtain rfl:=jT jN
 obtain⟨_,d',_,_,kd,_,_,wZ,_,_⟩:=dp ok ns
 rw[dA]at wZ
 obtain rfl:=fits_int wZ
 obtain⟨j,dj,z,hj,ND,hs,⟨hb,ov⟩,_,hz,hY⟩:=dp ok hi
 have jm:z.cells.size=i.size:=by have:=(v8 (F:=F) (w:=w) hY).1;omega
 have a1:=hx s (by simp[ho,Op.operands,Call.operands])
 have a2:=hx x (by simp[ho,Op.operands,Call.operands])
 cases h with
 |aj k2 n gB D3 hn za h0 go same=>
  rw[gB]at a1
  rw[D3]at a2
  have e1:a.eval s=.slice none 0 0:=by revert a1;generalize a.eval s=u;intro a1;cases a1;rfl
  have e2:a.eval x=.int k2 n:=a2.gA
  by_cases fR:n=0
  ·subst fR
   have tq:(Builtin.append_ #[t,t'] o.type #[.slice none 0 0,.int k2 0]).run P w=.ok (.slice none 0 0) w:=by
    have hw:IntKind.i64.wrap 0=0:=by decide
    simp[Builtin.append_,run_underlying hd,run_underlying kd,sizeOf,typeInfo,hj,asInt,asIntOf,hw]
   have hr:=sK (η:=a.eval) ho (by rw[e1,e2];exact tq)
   unfold wq
   rw[hr]
   exact cU _ _ σ F w (.refl _ _) aF .aj (same rfl)
  ·obtain⟨m,rfl⟩:∃m:Nat,n=m:=⟨n.toNat,by omega⟩
   have IA:0<m:=by omega
   have hmul:m*j.bytes≤140737488355328:=by
    rw[hb]
    have:m*i.bytes≤1048576*1024:=tP (by omega) za
    omega
   have yw:=VO (P:=P) w t t' o.type e k j z hd kd hj hz k2 m IA (by omega) hmul (by omega)
   have ar:=grownCap_ge w m 0 e
   have vE:=grownCap_le_maxLen w m 0 e (by unfold maxLen;omega)
   obtain⟨r1,r2⟩:=F4 (F:=F) (w:=w) hY (aU m)
   have lv:(madeCells z.cells (m*i.zero.length))=Builtin.zeroCells z.cells m:=by
    unfold madeCells Builtin.zeroCells
    rw[jm,ov]
   have ei:(Builtin.zeroCells z.cells m).size=m*i.zero.length:=by rw[← lv,size_madeCells]
   obtain⟨g1,g2,g3⟩:=FJ aF (e:=e) (i:=i) (z:=z) (olds:=[]) (co:=[]) (news:=(Builtin.zeroCells z.cells m).toList) (cn:=cE i.zero m) (len:=0) (n:=m) (cap:=grownCap w m 0 e) rfl (by rw[vR,Array.length_toList,ei]) (fun i x h=>by simp at h) (fun k y hk=>by
    have:=r2 k y hk
    rw[lv]at this
    rw[aW,Bn,← jy]
    exact this) (by simp) (by rw[Array.length_toList,ei,ov]) jm (by rw[Nat.zero_add];exact ar) vE
   rw[eF]at g1 g2 g3
   have hr:=sK (η:=a.eval) ho (by rw[e1,e2];exact yw)
   unfold wq
   rw[hr]
   exact cU _ _ _ F _ g1 g2 g3 (go (by omega) w.heap.size)
theorem Wg(ok:dz P TT){o:Oper}{s x:Operand}{t t' e e':TypeId}(ho:o.op=.call ⟨.builtin .append,#[s,x],#[t,t']⟩){ρ:Operand→AV}{σ:Hp}{K:AV→Hp→Prop}{it si i:TI}(ht:TT t=some it)(hk:it.k=.slice e)(ns:TT t'=some si)(dA:si.k=.slice e')(hi:TT e=some i)
  (h:AppendAt i σ (ρ s) (ρ x) K):j4 P o ρ σ K:=by
 cases h with
 |fresh n new hs hx hn hb h0 go same=>exact E3 ok ho ht hk ns dA hi (.fresh n new hs hx hn hb h0 go same)
 |more j b len n cs new hs h1 h2 hx hn hb h0 go=>exact E3 ok ho ht hk ns dA hi (.more j b len n cs new hs h1 h2 hx hn hb h0 go)
 |Ai j b off len n cs new hs h1 h2 hx hn hb h0 w7 go=>exact E3 ok ho ht hk ns dA hi (.Ai j b off len n cs new hs h1 h2 hx hn hb h0 w7 go)
 |perm K2 hp h dF=>
  have:=E3 ok ho ht hk ns dA hi h
  intro a F w hx aF next Q hn
  refine this a F w hx (aF.perm hp) next Q (fun v av σ' F' w' h1 h2 h3 h4=>?_)
  obtain⟨yS,p,k | ⟨hl,k⟩⟩:=dF av σ' h4
  ·exact hn v av yS F' w' h1 (h2.perm p) h3 k
  ·exact hn v _ yS F' w' h1 (h2.perm p) (.via _ _ hl h3) k
end
section
variable {P:Program} {TT:TypeId→Option TI} {F:Nat→Prop} {w:World}
theorem Ka{σ:Hp}(aF:bg F w σ){j b off:Nat}{cs:List AV}(h1:σ[j]?=some (b,cs))(NI:nP w b)(xs:List AV)(news:List Value)(hl:xs.length=news.length)(hle:off+xs.length≤cs.length)(hv:∀(k:Nat) (y:AV),xs[k]?=some y→y.leaf=true∧aA F w y (news.getD k undef)):
  ∃w',(storeCells ⟨b,off,none⟩ news).run P w=.ok () w'∧bE F w F w'∧bg F w' (σ.set j (b,fS cs off xs)):=by
 obtain⟨hF,c,T,hc,ej,nz⟩:=(aF.holds _ (cq h1)).cells NI
 have ej:cs.length≤c.size:=ej
 have oa:∀u∈news,u.oneCell'=true:=by
  intro u hu
  obtain⟨k,hk⟩:=rF.1 hu
  have ab:k<news.length:=(cf.1 hk).1
  obtain⟨h3,h4⟩:=hv k (xs[k]'(by omega)) (by simp)
  have:=h4.one h3
  rwa [aW,hk]at this
 have aq:=run_storeCells_at (P:=P) b off T news 0 c w hc (by omega) oa
 simp only[vK]at aq
 have hlen:(c.toList.take off++news++c.toList.drop (off+news.length)).length=c.size:=by simp;omega
 obtain⟨s1,s2⟩:=BP aF h1 (cs':=fS cs off xs) hc (c':=(c.toList.take off++news++c.toList.drop (off+news.length)).toArray) (by simp only[qB];exact hlen) (by rw[zp];simp only[qB];omega)
  (F5 (xs:=xs) nz hl hv (by omega) (by rw[zp];omega) (fun k y hk=>by rw[JE _ _ _ _ (by omega)]at hk;exact hk))
  (fun k hk=>setRow_other w b k _ hk) (setRow_heap w b c _ T _ hc) rfl rfl rfl (by simp)
 exact⟨_,aq,s1,s2⟩
theorem O0{η:Operand→Value}{o:Oper}{s:Operand}{t:TypeId}(ho:o.op=.call ⟨.builtin .clear,#[s],#[t]⟩){v:Value}{w w':World}(h:(Builtin.clear_ #[t] o.type #[η s]).run P w=.ok v w'):(execOp η o).run P w=.ok (.value v) w':=by
 rw[sP _ _ _ o ho]
 simp[builtin,h]
theorem Bz{η:Operand→Value}{o:Oper}{d x:Operand}{t t':TypeId}(ho:o.op=.call ⟨.builtin .copy,#[d,x],#[t,t']⟩){v:Value}{w w':World}(h:(Builtin.copy_ #[t,t'] o.type #[η d,η x]).run P w=.ok v w'):(execOp η o).run P w=.ok (.value v) w':=by
 rw[sP _ _ _ o ho]
 simp[builtin,h]
theorem Ko{σ:Hp}{j:Nat}{p:Nat×List AV}(h:σ[j]?=some p):σ.set j p=σ:=by
 obtain⟨h1,h2⟩:=cf.1 h
 subst h2
 exact List.set_getElem_self h1
theorem W2(ok:dz P TT){o:Oper}{s:Operand}{t e:TypeId}(ho:o.op=.call ⟨.builtin .clear,#[s],#[t]⟩){ρ:Operand→AV}{σ:Hp}{K:AV→Hp→Prop}{it i:TI}(ht:TT t=some it)(hk:it.k=.slice e)(hi:TT e=some i)(h:Ty i σ (ρ s) (fun σ'=>K (.tup []) σ')):j4 P o ρ σ K:=by
 intro a F w hx aF next Q cU
 obtain⟨_,d,_,_,hd,_,_,jN,_,_⟩:=dp ok ht
 rw[hk]at jN
 obtain rfl:=jT jN
 obtain⟨j,dj,z,hj,ND,hs,⟨hb,ov⟩,_,hz,hY⟩:=dp ok hi
 have a1:=hx s (by simp[ho,Op.operands,Call.operands])
 have e0:∀(ad:Option Addr) (c:Nat),(Builtin.clear_ #[t] o.type #[.slice ad 0 c]).run P w=.ok (.tuple #[]) w:=fun ad c=>by
  cases ad <;> simp[Builtin.clear_,run_underlying hd]
 have done:∀(ad:Option Addr) (c:Nat),a.eval s=.slice ad 0 c→K (.tup []) σ→wq P o a w next Q:=fun ad c hv hK=>by
  unfold wq
  rw[O0 (η:=a.eval) ho (by rw[hv];exact e0 ad c)]
  exact cU (.tuple #[]) _ σ F w (.refl _ _) aF (.tup _ _ rfl (fun i x h=>by simp at h)) hK
 cases h with
 |none hs go=>
  rcases hs with hs | hs | hs
  ·rw[hs]at a1;generalize hv:a.eval s=v at a1;cases a1;exact done _ _ hv go
  ·rw[hs]at a1;generalize hv:a.eval s=v at a1;cases a1;exact done _ _ hv go
  ·rw[hs]at a1;generalize hv:a.eval s=v at a1;cases a1;exact done _ _ hv go
 |ae j' b off len cs oz h1 h2 go=>
  rw[oz]at a1
  obtain⟨ad,cap,hv,c,T,fz,m1,m2,m3,m4⟩:=a1.lu
  by_cases ib:len=0
  ·subst ib
   refine done _ _ hv ?_
   have e:fS cs off (cE i.zero 0)=cs:=rfl
   rw[e,Ko h1]at go
   exact go
  ·obtain⟨rfl,_⟩:ad=⟨b,off,none⟩∧off+cap*i.size≤c.size:=by
    rcases m4 with h | ⟨_,_,h,_⟩
    ·exact h
    ·exact absurd h ib
   obtain⟨r1,r2⟩:=F4 (F:=F) (w:=w) hY (aU len)
   have afx:z.cells.size=i.zero.length:=((v8 (F:=F) (w:=w) hY).1).symm
   have lv:(madeCells z.cells (len*i.zero.length))=Builtin.zeroCells z.cells len:=by
    unfold madeCells Builtin.zeroCells
    rw[afx]
   have ei:(Builtin.zeroCells z.cells len).size=len*i.zero.length:=by rw[← lv,size_madeCells]
   obtain⟨w',k1,k2,k3⟩:=Ka (P:=P) aF h1 (off:=off) ⟨_,_,_,m1⟩ (cE i.zero len) (Builtin.zeroCells z.cells len).toList (by rw[vR,Ov,ei]) (by rw[vR,ov];exact h2) (fun k y hk=>by
    have:=r2 k y hk
    rw[lv]at this
    refine⟨this.1,?_⟩
    rw[aW,Bn,← jy]
    exact this.2)
   obtain⟨len,rfl⟩:∃m,len=m+1:=⟨len-1,by omega⟩
   have fw:(Builtin.clear_ #[t] o.type #[.slice (some ⟨b,off,none⟩) (len+1) cap]).run P w=.ok (.tuple #[]) w':=by
    simp[Builtin.clear_,run_underlying hd,zeroValue,typeInfo,hj,hz,k1]
   unfold wq
   rw[O0 (η:=a.eval) ho (by rw[hv];exact fw)]
   exact cU (.tuple #[]) _ _ F w' k2 k3 (.tup _ _ rfl (fun i x h=>by simp at h)) go
theorem XT(ok:dz P TT){o:Oper}{d x:Operand}{t t' e e':TypeId}(ho:o.op=.call ⟨.builtin .copy,#[d,x],#[t,t']⟩){ρ:Operand→AV}{σ:Hp}{K:AV→Hp→Prop}{it si i:TI}(ht:TT t=some it)(hk:it.k=.slice e)(ns:TT t'=some si)(dA:si.k=.slice e')(hi:TT e=some i)
  (h:LU i σ (ρ d) (ρ x) K):j4 P o ρ σ K:=by
 intro a F w hx aF next Q cU
 obtain⟨_,dd,_,_,hd,_,_,jN,_,_⟩:=dp ok ht
 rw[hk]at jN
 obtain rfl:=jT jN
 obtain⟨_,d',_,_,kd,_,_,wZ,_,_⟩:=dp ok ns
 rw[dA]at wZ
 obtain rfl:=jT wZ
 obtain⟨j,dj,z,hj,ND,hs,_⟩:=dp ok hi
 have a1:=hx d (by simp[ho,Op.operands,Call.operands])
 have a2:=hx x (by simp[ho,Op.operands,Call.operands])
 cases h with
 |none new oG uS go=>
  obtain⟨news,src,q1,q2⟩:=BN (P:=P) uS aF a2 kd
  have uJ:news=[]:=List.length_eq_zero_iff.1 (by rw[src.newsLen];simp)
  subst uJ
  rw[← hs]at src
  obtain⟨ad,c,hv⟩:∃ad c,a.eval d=.slice ad 0 c:=by
   rcases oG with oG | oG | oG
   ·rw[oG]at a1;generalize a.eval d=v at a1;cases a1;exact⟨_,_,rfl⟩
   ·rw[oG]at a1;generalize a.eval d=v at a1;cases a1;exact⟨_,_,rfl⟩
   ·rw[oG]at a1;generalize a.eval d=v at a1;cases a1;exact⟨_,_,rfl⟩
  have fw:(Builtin.copy_ #[t,t'] o.type #[.slice ad 0 c,a.eval x]).run P w=.ok (goInt 0) w:=by
   cases ad <;> simp[Builtin.copy_,run_underlying hd,src.len,sizeOf,typeInfo,hj,src.cells,storeCells]
  unfold wq
  rw[Bz (η:=a.eval) ho (by rw[hv];exact fw)]
  exact cU _ _ σ F w (.refl _ _) aF (.int _ _) go
 |ae jj b off len n cs new NB h1 h2 uS hn go=>
  obtain⟨news,src,q1,q2⟩:=BN (P:=P) uS aF a2 kd
  rw[NB]at a1
  obtain⟨ad,cap,hv,c,T,fz,m1,m2,m3,m4⟩:=a1.lu
  have l7:news.length=n*i.size:=src.newsLen
  have hmul:n*i.size≤len*i.size:=lO _ hn
  rw[← hs]at src
  by_cases ib:len=0
  ·obtain rfl:n=0:=by omega
   have uJ:news=[]:=List.length_eq_zero_iff.1 (by rw[l7];simp)
   subst uJ
   have gZ:new=[]:=List.length_eq_zero_iff.1 (by simpa using q1)
   subst gZ
   subst ib
   have fw:(Builtin.copy_ #[t,t'] o.type #[.slice (some ad) 0 cap,a.eval x]).run P w=.ok (goInt 0) w:=by
    simp[Builtin.copy_,run_underlying hd,src.len,sizeOf,typeInfo,hj,src.cells,storeCells]
   unfold wq
   rw[Bz (η:=a.eval) ho (by rw[hv];exact fw)]
   have e:fS cs off ([]:List AV)=cs:=rfl
   rw[e,Ko h1]at go
   exact cU _ _ σ F w (.refl _ _) aF (.int _ _) go
  ·obtain⟨rfl,_⟩:ad=⟨b,off,none⟩∧off+cap*i.size≤c.size:=by
    rcases m4 with h | ⟨_,_,h,_⟩
    ·exact h
    ·exact absurd h ib
   obtain⟨w',k1,k2,k3⟩:=Ka (P:=P) aF h1 (off:=off) ⟨_,_,_,m1⟩ new news q1 (by omega) q2
   have fw:(Builtin.copy_ #[t,t'] o.type #[.slice (some ⟨b,off,none⟩) len cap,a.eval x]).run P w=.ok (goInt n) w':=by
    simp[Builtin.copy_,run_underlying hd,src.len,sizeOf,typeInfo,hj,Nat.min_eq_left hn,src.cells,k1]
   unfold wq
   rw[Bz (η:=a.eval) ho (by rw[hv];exact fw)]
   exact cU _ _ _ F w' k2 k3 (.int _ _) go
 |part jj b off len cs NB h1 h2 j2 b2 nh n kE hxm h3 h4 hn go=>
  rw[NB]at a1
  rw[hxm]at a2
  obtain⟨ad,cap,hv,c,T,fz,m1,m2,m3,m4⟩:=a1.lu
  obtain⟨a3,yP,hv3,c3,T3,Jk,p1,p2,p3,p4⟩:=a2.lu
  have hmul:len*i.size≤n*i.size:=lO _ hn
  by_cases ib:len=0
  ·subst ib
   have hc:(Builtin.firstCells i.size 0 (.slice (some a3) n yP)).run P w=.ok (([]:List Value).toArray) w:=run_firstCells_some w i.size 0 a3 n yP [] (by simp) (fun j u h=>by simp at h)
   rw[← hs]at hc
   have fw:(Builtin.copy_ #[t,t'] o.type #[.slice (some ad) 0 cap,.slice (some a3) n yP]).run P w=.ok (goInt 0) w:=by
    simp[Builtin.copy_,run_underlying hd,sizeOf,typeInfo,hj,Builtin.lenOf,hc,storeCells]
   unfold wq
   rw[Bz (η:=a.eval) ho (by rw[hv,hv3];exact fw)]
   have e:fS cs off ((kE.drop nh).take (0*i.size))=cs:=by rw[xA];rfl
   rw[e,Ko h1]at go
   exact cU _ _ σ F w (.refl _ _) aF (.int _ _) go
  ·obtain⟨rfl,_⟩:ad=⟨b,off,none⟩∧off+cap*i.size≤c.size:=by
    rcases m4 with h | ⟨_,_,h,_⟩
    ·exact h
    ·exact absurd h ib
   obtain⟨rfl,_⟩:a3=⟨b2,nh,none⟩∧nh+yP*i.size≤c3.size:=by
    rcases p4 with h | ⟨_,_,h,_⟩
    ·exact h
    ·omega
   have dR:At F w b2 nh ((kE.drop nh).take (len*i.size)):=by
    have:=(aF.at_ h3 ⟨c3,T3,Jk,p1⟩).drop nh
    rw[eF]at this
    intro i x hx
    rw[qC]at hx
    split at hx
    ·exact this i x hx
    ·cases hx
   have hl:((kE.drop nh).take (len*i.size)).length=len*i.size:=by simp;omega
   obtain⟨news,n1,n2,n3,n4⟩:=CD dR
   have hc:(Builtin.firstCells i.size len (.slice (some ⟨b2,nh,none⟩) n yP)).run P w=.ok news.toArray w:=run_firstCells_some w i.size len _ n yP news (by rw[n1,hl]) (fun j u hj=>by rw[oW];exact n2 j u hj)
   rw[← hs]at hc
   obtain⟨w',k1,k2,k3⟩:=Ka (P:=P) aF h1 (off:=off) ⟨_,_,_,m1⟩ ((kE.drop nh).take (len*i.size)) news n1.symm (by rw[hl];exact h2) n3
   have fw:(Builtin.copy_ #[t,t'] o.type #[.slice (some ⟨b,off,none⟩) len cap,.slice (some ⟨b2,nh,none⟩) n yP]).run P w=.ok (goInt len) w':=by
    simp[Builtin.copy_,run_underlying hd,sizeOf,typeInfo,hj,Builtin.lenOf,Nat.min_eq_right hn,hc,k1]
   unfold wq
   rw[Bz (η:=a.eval) ho (by rw[hv,hv3];exact fw)]
   exact cU _ _ _ F w' k2 k3 (.int _ _) go
end
section
variable {P:Program} {TT:TypeId→Option TI}
theorem VT{F:Nat→Prop}{w:World}:∀(s:Sh) (d:s.T) (vs:List Value),vs.length=s.size→(∀(k:Nat) (x:AV),(s.cells d)[k]?=some x→aA F w x (vs.getD k undef))→kO F w s vs d:=by
 intro s
 induction s with
 |int k=>intro d vs hl h;match vs,hl with | [v],_=>have:=(h 0 _ rfl).gA;exact congrArg (fun x=>[x]) this
 |bool=>intro d vs hl h;match vs,hl with | [v],_=>have:=(h 0 _ rfl).qV;exact congrArg (fun x=>[x]) this
 |str=>intro d vs hl h;match vs,hl with | [v],_=>have:=(h 0 _ rfl).Dg;exact congrArg (fun x=>[x]) this
 |nil=>intro d vs hl h;exact jP.1 hl
 |slice e ih=>
  intro d vs hl h
  match vs,hl with
  | [v],_=>
   have:=h 0 _ rfl
   cases this with
   |af _ _ _ h=>exact h
 |field f r qn jK=>
  intro d vs hl h
  simp only[Sh.size]at hl
  refine⟨vs.take f.size,vs.drop f.size,(List.take_append_drop _ _).symm,by simp;omega,qn d.1 _ (by simp;omega) (fun k x hk=>?_),jK d.2 _ (by simp;omega) (fun k x hk=>?_)⟩
  ·have mG:k<f.size:=by rw[← Sh.sL f d.1];exact (cf.1 hk).1
   have:=h k x (by show (f.cells d.1++r.cells d.2)[k]?=some x;rw[kf (by rw[Sh.sL];exact mG)];exact hk)
   rw[aW]at this ⊢
   rw[qC,ai mG]
   exact this
  ·have:=h (f.size+k) x (by show (f.cells d.1++r.cells d.2)[f.size+k]?=some x;rw[iJ (by rw[Sh.sL];omega),Sh.sL,Jc];exact hk)
   rw[aW]at this ⊢
   rw[zj]
   exact this
theorem flat_get{α:Type}{f:α→List AV}{es:Nat}(hf:∀x,(f x).length=es):∀(l:List α) (i:Nat) (h:i<l.length) (k:Nat),k<es→(l.flatMap f)[i*es+k]?=(f l[i])[k]?
 | [],i,h,_,_=>by simp at h
 |y::l,0,h,k,hk=>by rw[List.flatMap_cons,List.getElem?_append_left (by rw[hf];omega)];simp
 |y::l,i+1,h,k,hk=>by
  rw[zi,iJ (by rw[hf,qz];omega),hf,show (i+1)*es+k-es=i*es+k by rw[qz];omega]
  simpa using flat_get hf l i (by simpa using h) k hk
theorem aay{F:Nat→Prop}{w:World}{σ:Hp}(aF:bg F w σ){j b off len es:Nat}{cs:List AV}{e:Sh}{l:List e.T}(h1:σ[j]?=some (b,cs))(h2:(cs.drop off).take (len*es)=l.flatMap e.cells)(h3:l.length=len∧e.size=es∧0<es){v:Value}(hv:aA F w (.ae b off len es) v):
  aA (fun x=>F x∨x=b) w (.af e l) v:=by
 obtain⟨hl,he,tk⟩:=h3
 have aq:bE F w (fun x=>F x∨x=b) w:=⟨rfl,rfl,rfl,aU _,fun _ h=>.inl h,fun _ _=>rfl,fun _ c _ fz h=>⟨c,fz,h,rfl⟩,aU _⟩
 obtain⟨a,cap,rfl,c,T,fz,m1,m2,m3,m4⟩:=hv.lu
 subst hl
 refine .af e l _ ⟨some a,cap,rfl,m2,m3,(fun e=>by cases e),fun aP=>?_⟩
 have oE:0<l.length:=mM.2 aP
 rcases m4 with ⟨rfl,px⟩ | ⟨_,_,h0,_⟩
 ·refine⟨b,off,rfl,⟨.inr rfl,c,T,fz,m1⟩,fun i hi=>?_⟩
  have dR:At F w b off ((cs.drop off).take (l.length*es)):=by
   have:=(aF.at_ h1 ⟨c,T,fz,m1⟩).drop off
   rw[eF]at this
   intro i x hx
   rw[qC]at hx
   split at hx
   ·exact this i x hx
   ·cases hx
  rw[h2]at dR
  have lv:∀k,k<es→∃x v,(e.cells l[i])[k]?=some x∧w.cell? ⟨b,off+i*es+k,none⟩=some v∧aA F w x v:=by
   intro k hk
   have hlen:k<(e.cells l[i]).length:=by rw[Sh.sL,he];exact hk
   have hx:=bJ hlen
   have:=flat_get (f:=e.cells) (es:=es) (fun d=>by rw[Sh.sL,he]) l i hi k hk
   obtain⟨_,v,h4,h5⟩:=dR (i*es+k) _ (this.trans hx)
   exact⟨_,v,hx,by rw[← h4,EJ],h5⟩
  refine⟨(List.range es).map fun k=>(w.cell? ⟨b,off+i*es+k,none⟩).getD undef,by simp[he],fun k u hk=>?_,VT e l[i] _ (by simp[he]) (fun k x hk=>?_)⟩
  ·have Ec:k<es:=by have:=(List.getElem?_eq_some_iff.1 hk).1;simpa using this
   obtain⟨x,v,_,h4,_⟩:=lv k Ec
   simp[Ec,h4]at hk
   rw[he,h4,hk]
  ·have Ec:k<es:=by have:=(cf.1 hk).1;rw[Sh.sL,he]at this;exact this
   obtain⟨x',v,h3,h4,h5⟩:=lv k Ec
   rw[h3]at hk
   cases hk
   have:aA F w x v:=h5
   simpa [List.getD,Ec,h4]using this.mono aq
 ·omega
theorem xM{F F':Nat→Prop}{w:World}{b off len es:Nat}{e:Sh}{l:List e.T}(aq:bE F w F' w)(hh:∀v,aA F w (.ae b off len es) v→aA F' w (.af e l) v){r r':AV}(h:ew b off len es e l r r'):∀v,aA F w r v→aA F' w r' v:=by
 induction h with
 |here=>exact hh
 |refl x=>exact fun v h=>h.mono aq
 |tup xs ys h hi ih=>
  intro v hv
  cases hv with
  |tup _ vs hs hr=>
   refine .tup _ _ (by rw[← h];exact hs) (fun i y hy=>?_)
   have qt:i<xs.length:=by rw[h];exact (cf.1 hy).1
   exact ih i xs[i] y (bJ qt) hy _ (hr i _ (bJ qt))
 |agg xs ys h hl hi ih=>
  intro v hv
  obtain⟨vs,rfl,hs,hr⟩:=hv.uX
  refine .agg _ _ (by rw[← h];exact hs) hl (fun i y hy=>?_)
  have qt:i<xs.length:=by rw[h];exact (cf.1 hy).1
  exact ih i xs[i] y (bJ qt) hy _ (hr i _ (bJ qt)).2
 |nil e'=>
  intro v hv
  cases hv
  exact .af e' [] _ ⟨none,0,rfl,aU _,by unfold maxLen;omega,fun _=>rfl,fun aP=>absurd rfl aP⟩
 |gU e'=>
  intro v hv
  cases hv with
  |gU a c h=>exact .af e' [] _ ⟨some a,c,rfl,bA _,h,(fun e=>by cases e),fun aP=>absurd rfl aP⟩
 |via h ih=>
  intro v hv
  cases hv with
  |via _ _ _ hv=>exact ih v hv
theorem uD{F:Nat→Prop}{w:World}{σ:Hp}(aF:bg F w σ){j b off len es:Nat}{cs:List AV}{e:Sh}{l:List e.T}(h1:σ[j]?=some (b,cs))(h2:(cs.drop off).take (len*es)=l.flatMap e.cells)(h3:l.length=len∧e.size=es∧0<es):
  bE F w (fun x=>F x∨x=b) w∧bg (fun x=>F x∨x=b) w (σ.eraseIdx j)∧∀v,aA F w (.ae b off len es) v→aA (fun x=>F x∨x=b) w (.af e l) v:=by
 have aq:bE F w (fun x=>F x∨x=b) w:=⟨rfl,rfl,rfl,aU _,fun _ h=>.inl h,fun _ _=>rfl,fun _ c _ fz h=>⟨c,fz,h,rfl⟩,aU _⟩
 have nT:bg F w ((b,cs)::σ.eraseIdx j):=aF.perm (xJ σ j (b,cs) h1)
 have bZ:=nT.nodup
 simp only[oL,mc]at bZ
 have n5:bg (fun x=>F x∨x=b) w (σ.eraseIdx j):=⟨bZ.2,fun p hp=>(nT.holds p (cY _ hp)).mono aq rfl (fun hF=>by
  rcases hF with hF | hF
  ·exact (nT.holds p (cY _ hp)).1 hF
  ·exact bZ.1 (dX.2 ⟨p,hp,hF⟩)),fun x hx=>by
  rcases hx with hx | hx
  ·exact aF.low x hx
  ·subst hx;exact (nT.holds (x,cs) (cm ..)).lt⟩
 exact⟨aq,n5,fun v hv=>aay aF h1 h2 h3 hv⟩
end
section
variable {P:Program} {TT:TypeId→Option TI}
theorem JA{F:Nat→Prop}{w:World}{xs:Array Operand}{ρ:Operand→AV}{η:Operand→Value}(h:∀x∈xs.toList,aA F w (ρ x) (η x)):iQ F w (xs.toList.map ρ) (xs.map η):=by
 refine⟨by simp,fun i x hi=>?_⟩
 simp only[fo,xE]at hi
 obtain⟨a,h1,rfl⟩:=hi
 have ab:i<xs.size:=by have:=(List.getElem?_eq_some_iff.1 h1).1;simpa using this
 have:xs[i]=a:=by simpa [ab]using h1
 simpa [Array.getD,ab,this]using h a (List.mem_of_getElem? h1)
theorem E4{F:Nat→Prop}{w:World}{xs ys:List AV}{us vs:Array Value}(h:iQ F w xs us)(k:iQ F w ys vs):iQ F w (xs++ys) (us++vs):=by
 refine⟨by simp[h.1,k.1],fun i x hi=>?_⟩
 rw[jy]
 by_cases ab:i<xs.length
 ·rw[kf ab]at hi
  rw[Ox (by rw[← h.1];exact ab),← jy]
  exact h.2 i x hi
 ·rw[iJ (by omega)]at hi
  rw[Array.getElem?_append_right (by rw[← h.1];omega),← jy,← h.1]
  exact k.2 _ x hi
theorem Qh{F:Nat→Prop}{w:World}{x:AV}{v:Value}(h:aA F w x v):iQ F w [x] #[v]:=⟨rfl,fun i y hi=>by cases i <;> simp at hi;subst hi;exact h⟩
theorem E9{o:Oper}{ρ:Operand→AV}{σ:Hp}{K:AV→Hp→Prop}(h:j4 P o (fun x=>bN (ρ x)) σ K):j4 P o ρ σ K:=fun a F w hx=>h a F w (fun x hm=>(hx x hm).bN)
theorem O7{o:Oper}{c:Call}(ho:o.op=.call c){ρ:Operand→AV}{K:FuncId→List AV→Prop}{KY:Nat→List AV→Prop}(h:pP P c ρ K KY):
  (∃l xs,KY l xs∧∀(η:Operand→Value) (F:Nat→Prop) (w:World),(∀x∈o.op.operands.toList,aA F w (ρ x) (η x))→∃vs,iQ F w xs vs∧execOp η o=Instr.yield l vs)∨∃f xs,K f xs∧∀(η:Operand→Value) (F:Nat→Prop) (w:World),(∀x∈o.op.operands.toList,aA F w (ρ x) (η x))→∃vs,iQ F w xs vs∧(Enters P f→(execOp η o).run P w=.ok (.enter f vs) w):=by
 unfold pP at h
 split at h
 ·rename_i f0 hc
  split at h
  ·rename_i g first cap hf
   refine .inr ⟨g,_,h,fun η F w hx=>?_⟩
   have h1:=hx f0 (by simp[ho,Op.operands,Call.operands,hc])
   rw[hf]at h1
   have h2:=JA (xs:=c.args) (ρ:=fun x=>bN (ρ x)) (η:=η) (F:=F) (w:=w) (fun x hm=>(hx x (by simp only[ho,Op.operands,Call.operands,hc,Br,bO];exact .inr hm)).bN)
   cases hv:η f0 with
   |func f' v1 v2=>
    rw[hv]at h1
    obtain⟨rfl,r1,r2⟩:f'=.func g∧iQ F w first v1∧iQ F w cap v2:=by cases h1 with | fn _ _ _ _ _ fh gQ h1 h2=>exact⟨rfl,⟨fh,h1⟩,⟨gQ,h2⟩⟩
    refine⟨v1++c.args.map η++v2,E4 (E4 r1 h2) r2,fun he=>?_⟩
    simp only[execOp,ho,resolve,hc,Deferred.ofValue,hv,Sem.run_bind,Sem.run_pure,Result.andThen_ok,invoke]
    exact he _ _
   |_=>rw[hv]at h1;cases h1
  ·rename_i l hf
   refine .inl ⟨l,_,h,fun η F w hx=>?_⟩
   have h1:=hx f0 (by simp[ho,Op.operands,Call.operands,hc])
   rw[hf]at h1
   have h2:=JA (xs:=c.args) (ρ:=fun x=>bN (ρ x)) (η:=η) (F:=F) (w:=w) (fun x hm=>(hx x (by simp only[ho,Op.operands,Call.operands,hc,Br,bO];exact .inr hm)).bN)
   cases hv:η f0 with
   |func f' v1 v2=>
    rw[hv]at h1
    obtain⟨rfl,r1,r2⟩:f'=.yield l∧v1 = #[]∧v2 = #[]:=by cases h1 with | fn _ _ _ _ _ fh gQ h1 h2=>exact⟨rfl,EL.1 fh.symm,EL.1 gQ.symm⟩
    subst r1 r2
    refine⟨c.args.map η,h2,?_⟩
    simp only[execOp,ho,resolve,hc,Deferred.ofValue,hv,pure_bind,invoke]
    simp
   |_=>rw[hv]at h1;cases h1
  ·exact h.elim
 ·rename_i r m hc
  have fin:∀(t:TypeId) (v:AV),ρ r=.iface t v→(∀F w u,aA F w v u→∃ad,u=.pointer (some ad))→InvAt P t m (fun g=>K g (v::c.args.toList.map fun x=>bN (ρ x)))→
    ∃f xs,K f xs∧∀(η:Operand→Value) (F:Nat→Prop) (w:World),(∀x∈o.op.operands.toList,aA F w (ρ x) (η x))→∃vs,iQ F w xs vs∧(Enters P f→(execOp η o).run P w=.ok (.enter f vs) w):=by
   rintro t v hr hp ⟨g,hm,go⟩
   refine⟨g,_,go,fun η F w hx=>?_⟩
   have h1:=hx r (by simp[ho,Op.operands,Call.operands,hc])
   rw[hr]at h1
   have h2:=JA (xs:=c.args) (ρ:=fun x=>bN (ρ x)) (η:=η) (F:=F) (w:=w) (fun x hm=>(hx x (by simp only[ho,Op.operands,Call.operands,hc,Br,bO];exact .inr hm)).bN)
   cases hv:η r with
   |iface t' u=>
    rw[hv]at h1
    obtain⟨rfl,hu⟩:t'=t∧aA F w v u:=by cases h1 with | iface _ _ _ h=>exact⟨rfl,h⟩
    obtain⟨ad,rfl⟩:=hp F w u hu
    refine⟨#[.pointer (some ad)]++c.args.map η,(show iQ F w ([v]++c.args.toList.map fun x=>bN (ρ x)) _ from E4 (Qh hu) h2),fun he=>?_⟩
    have hex:(#[η r]++c.args.map η).extract 1 (#[η r]++c.args.map η).size=c.args.map η:=by
     apply Array.ext'
     simp
     exact List.take_of_length_le (by simp)
    have h0:(#[η r]++c.args.map η)[0]?=some (η r):=by rw[Array.getElem?_append_left (by simp)];rfl
    have hinv:invoke (.fn (.method m) #[]) (#[η r]++c.args.map η)=callMethod (η r) m (c.args.map η):=by
     unfold invoke
     simp only[h0]
     exact congrArg (callMethod (η r) m) hex
    have vE:(callMethod (η r) m (c.args.map η)).run P w=.ok (.enter g (#[.pointer (some ad)]++c.args.map η)) w:=by
     rw[hv]
     unfold callMethod
     have aO:=hm ad w
     simp only[Sem.run_bind,run_program,Result.andThen_ok,aO]
     exact he _ _
    simp only[execOp,ho,resolve,hc,Sem.run_bind,Sem.run_pure,Result.andThen_ok,hinv,vE]
   |_=>rw[hv]at h1;cases h1
  split at h
  ·rename_i t b o' hr
   exact .inr <| fin t _ hr (fun F w u hu=>⟨_,hu.yE⟩) h
  ·rename_i t cs hr
   exact .inr <| fin t _ hr (fun F w u hu=>by obtain⟨b,o',e,_⟩:=hu.yb;exact⟨_,e⟩) h
  ·exact h.elim
 ·exact h.elim
theorem Cc{F F':Nat→Prop}{w:World}{σ:Hp}(aF:bg F' w σ){b off len es:Nat}{e:Sh}{l:List e.T}(hh:∀v,aA F w (.ae b off len es) v→aA F' w (.af e l) v){i k b':Nat}{cs:List AV}(hi:σ[i]?=some (b',cs))(hk:cs[k]?=some (.ae b off len es)):bg F' w (σ.set i (b',cs.set k (.af e l))):=by
 have ab:i<σ.length:=(cf.1 hi).1
 have C1:(σ.set i (b',cs.set k (.af e l))).map Prod.fst=σ.map Prod.fst:=by
  rw[oM]
  apply zg
  intro n
  rw[eR]
  split
  ·rename_i e;subst e
   have:=(cf.1 hi).2
   simp[ab,this]
  ·rfl
 refine⟨C1▸aF.nodup,fun p hm=>?_,aF.low⟩
 rcases qD hm with hm | rfl
 ·exact aF.holds p hm
 ·obtain⟨hF,c,T,h1,h2,h3⟩:=(aF.holds _ (cq hi)).L4 hk rfl
  refine⟨hF,.inl ⟨c,T,h1,by simpa using h2,fun n x hn=>?_⟩⟩
  rw[eR]at hn
  split at hn
  ·rename_i e;subst e
   split at hn
   ·cases hn
    refine⟨rfl,hh _ ?_⟩
    have:=(h3 k _ hk).2
    revert this
    generalize c.getD k undef=v
    intro this
    cases this with
    |ae _ _ _ _ a cap h=>exact .ae _ _ _ _ a cap h
   ·cases hn
  ·exact h3 n x hn
theorem xU{f:FuncId}{xs:List AV}{σ:Hp}{K:AV→Hp→Prop}(h:CallAt P f K xs σ):ACalls P f xs σ K:=by
 induction h with
 |mk js R call go=>
  obtain⟨ob,gJ⟩:=call
  refine⟨ob,fun F w vs bU aF=>(gJ F w vs bU (aF.perm (xR js _))).mono ?_⟩
  rintro e w' ⟨r,v,σ',F',rfl,h1,h2,h3,h4⟩
  exact⟨r,v,σ',F',rfl,h1,h2,h3,go r σ' h4⟩
 |perm R hp call go=>
  obtain⟨ob,gJ⟩:=call
  refine⟨ob,fun F w vs bU aF=>(gJ F w vs bU (aF.perm hp)).mono ?_⟩
  rintro e w' ⟨r,v,σ',F',rfl,h1,h2,h3,h4⟩
  obtain⟨ec,k1,k2⟩:=go r σ' h4
  exact⟨r,v,ec,F',rfl,h1,h2.perm k1,h3,k2⟩
 |kp j b off len es cs e l h1 h2 h3 i k b' cs' hi hk h ih=>
  obtain⟨ob,gJ⟩:=ih
  refine⟨ob,fun F w vs bU aF =>?_⟩
  obtain⟨aq,n5,hh⟩:=uD aF h1 h2 h3
  refine (gJ _ w vs (bU.mono aq) (Cc n5 hh hi hk)).mono ?_
  rintro e w' ⟨r,v,σ',F',rfl,q1,q2,q3,q4⟩
  exact⟨r,v,σ',F',rfl,aq.trans q1,q2,q3,q4⟩
 |cI j b off len es cs e l h1 h2 h3 h4 h ih=>
  obtain⟨ob,gJ⟩:=ih
  refine⟨ob,fun F w vs bU aF =>?_⟩
  obtain⟨aq,n5,hh⟩:=uD aF h1 h2 h3
  have hv:=xM aq hh h4 (.tuple vs) (.tup _ _ bU.1 bU.2)
  cases hv with
  |tup _ _ hs hr=>
   refine (gJ _ w vs ⟨hs,hr⟩ n5).mono ?_
   rintro e w' ⟨r,v,σ',F',rfl,h1,h2,h3,h4⟩
   exact⟨r,v,σ',F',rfl,aq.trans h1,h2,h3,h4⟩
theorem Wf{o:Oper}{c:Call}(ho:o.op=.call c){ρ:Operand→AV}{σ:Hp}{K:AV→Hp→Prop}(h:pP P c ρ (fun f xs=>CallAt P f K xs σ) (fun l xs=>wI P l K xs σ)):j4 P o ρ σ K:=by
 rcases O7 ho h with ⟨l,xs,hc,fw⟩ | ⟨f,xs,hc,fw⟩
 ·intro a F w hx aF next Q hn
  obtain⟨vs,bU,hr⟩:=fw a.eval F w hx
  unfold wq
  rw[hr]
  cases hc with
  |mk js R call go=>
   obtain⟨f,tmps,assign,body,h1,h2⟩:=call F w vs bU (aF.perm (xR js σ))
   rw[h1]
   refine RoundIn.mono h2 ?_
   rintro e w' ⟨r,v,σ',F',rfl,h1,h2,h3,h4⟩
   exact⟨v,rfl,hn v r σ' F' w' h1 h2 h3 (go _ _ h4)⟩
  |perm R hp call go=>
   obtain⟨f,tmps,assign,body,h1,h2⟩:=call F w vs bU (aF.perm hp)
   rw[h1]
   refine RoundIn.mono h2 ?_
   rintro e w' ⟨r,v,σ',F',rfl,h1,h2,h3,h4⟩
   obtain⟨ec,k1,k2⟩:=go _ _ h4
   exact⟨v,rfl,hn v r ec F' w' h1 (h2.perm k1) h3 k2⟩
 obtain⟨ob,gJ⟩:=xU hc
 intro a F w hx aF next Q hn
 obtain⟨vs,bU,hr⟩:=fw a.eval F w hx
 unfold wq
 rw[hr ob]
 refine (gJ F w vs bU aF).mono ?_
 rintro e w' ⟨r,v,σ',F',rfl,h1,h2,h3,h4⟩
 exact⟨v,rfl,hn v r σ' F' w' h1 h2 h3 h4⟩
theorem V1{o:Oper}{t:TypeId}(ho:o.op=.makeMap t none){ρ:Operand→AV}{σ:Hp}{K:AV→Hp→Prop}(hk:∀b,K (.nj b) ((b,[.n0 []])::σ)):j4 P o ρ σ K:=by
 intro a F w hx aF next Q hn
 have fw:(execOp a.eval o).run P w=.ok (.value (.map (some w.heap.size))) (w.alloc (.map #[] 0)):=by
  have e:(Instr.makeMap t none).run P w=.ok (.map (some w.heap.size)) (w.alloc (.map #[] 0)):=rfl
  simp[execOp,ho,e,Result.andThen]
 unfold wq
 rw[fw]
 have hold:∀b,b<w.heap.size→(w.alloc (.map #[] 0)).heap[b]?=w.heap[b]?:=fun b hb=>Below.heap_alloc _ _ b hb
 have aq:bE F w F (w.alloc (.map #[] 0)):=xN aF.low rfl rfl rfl (by simp) hold
 have hr:=aF.same aq hold
 have gZ:(w.alloc (.map #[] 0)).heap[w.heap.size]?=some (.map #[] 0):=wo _ _
 refine hn _ (.nj w.heap.size) _ F _ aq ⟨?_,fun p hm=>?_,hr.low⟩ (.nj _) (hk _)
 ·simp only[oL,mc]
  refine⟨fun hm=>?_,aF.nodup⟩
  obtain⟨p,hp,e⟩:=dX.1 hm
  have:=(aF.holds p hp).lt
  omega
 ·rcases eG.1 hm with rfl | hm
  ·exact⟨fun hF=>IN _ (aF.low _ hF),.inr (.inl ⟨_,_,rfl,gZ,rfl⟩)⟩
  ·exact hr.holds p hm
theorem PI{σ:Hp}{F:Nat→Prop}{w:World}(h:bg F w σ){j b:Nat}{x x':AV}{o o':Obj}(ho:wV x=some o)(fZ:wV x'=some o')(hj:σ[j]?=some (b,[x])):
  bE F w F { w with heap:=w.heap.setIfInBounds b o' }∧bg F { w with heap:=w.heap.setIfInBounds b o' } (σ.set j (b,[x'])):=by
 obtain⟨hb,hc⟩:=(h.holds (b,[x]) (cq hj)).HE ho
 have ab:j<σ.length:=(cf.1 hj).1
 obtain⟨Ik,hw⟩:=MapKept.heap_set (o':=o') hc
 have aq:bE F w F { w with heap:=w.heap.setIfInBounds b o' }:=⟨rfl,rfl,rfl,by simp,fun _ h=>h,fun k hF=>hw k (fun e=>hb (e▸hF)),fun k d S fz hk=>by
  by_cases e:k=b
  ·subst e
   rw[hc]at hk
   cases hk
   exact (PQ ho).elim
  ·exact⟨d,fz,(hw k e).trans hk,rfl⟩,aU _⟩
 have C1:(σ.set j (b,[x'])).map Prod.fst=σ.map Prod.fst:=by
  rw[oM]
  apply zg
  intro k
  rw[eR]
  split
  ·rename_i e;subst e
   simp[ab]
   have:=(cf.1 hj).2
   rw[this]
  ·rfl
 refine⟨aq,⟨C1▸h.nodup,fun p hm=>?_,fun k hF=>by simpa using h.low k hF⟩⟩
 obtain⟨k,hk⟩:=rF.1 hm
 rw[eR]at hk
 split at hk
 ·rename_i e;subst e
  simp at hk
  obtain⟨_,rfl⟩:=hk
  exact⟨hb,.inr (.inl ⟨_,_,rfl,Ik,fZ⟩)⟩
 ·rename_i aP
  have aO:=cq hk
  have qq:p.1≠b:=fun e=>by
   have bZ:=h.nodup
   have h1:(σ.map Prod.fst)[k]?=some b:=by rw[List.getElem?_map,hk];simp[e]
   have h2:(σ.map Prod.fst)[j]?=some b:=by rw[fo,hj];rfl
   have dA:k<(σ.map Prod.fst).length:=(cf.1 h1).1
   have:=(List.getElem?_inj (i:=k) (j:=j) dA bZ).1 (h1.trans h2.symm)
   exact aP this.symm
  exact (h.holds p aO).mono aq (hw _ qq) (h.holds p aO).1
theorem Xp{σ:Hp}{F:Nat→Prop}{w:World}(h:bg F w σ){j b:Nat}{l l':List (Int×Int)}(hj:σ[j]?=some (b,[.n0 l])):
  bE F w F { w with heap:=w.heap.setIfInBounds b (.map (fV 0 l').toArray l'.length) }∧bg F { w with heap:=w.heap.setIfInBounds b (.map (fV 0 l').toArray l'.length) } (σ.set j (b,[.n0 l'])):=PI h rfl rfl hj
theorem O4(ok:dz P TT){o:Oper}{t:TypeId}{m k x:Operand}(ho:o.op=.mapUpdate t m k x∨o.op=.insert t m k x){ρ:Operand→AV}{σ:Hp}{K:AV→Hp→Prop}(h:zQ TT t (bN (ρ m)) (bN (ρ k)) (bN (ρ x)) σ K):j4 P o ρ σ K:=by
 intro a F w hx aF next Q hn
 unfold zQ at h
 split at h
 ·rename_i z n v hz hk AU
  obtain⟨kt,et,h1,h2,h3⟩:=J8 ok hz
  obtain⟨j,b,l,hm,hj,go⟩:=h
  have yM:m∈o.op.operands.toList∧k∈o.op.operands.toList∧x∈o.op.operands.toList:=by rcases ho with ho | ho <;> simp[ho,Op.operands]
  have a1:=(hx m yM.1).bN
  rw[hm]at a1
  have a2:=(hx k yM.2.1).bN
  rw[hk]at a2
  have a3:=(hx x yM.2.2).bN
  rw[AU]at a3
  have e1:a.eval m=.map (some b):=a1.L0
  have e2:a.eval k=.int .i64 n:=a2.gA
  have e3:a.eval x=.int .i64 v:=a3.gA
  obtain⟨_,hb⟩:=(aF.holds _ (cq hj)).Dp
  have fw:(execOp a.eval o).run P w=.ok .skip { w with heap:=w.heap.setIfInBounds b (.map (fV 0 (q9 l n v)).toArray (q9 l n v).length) }:=by
   rcases ho with ho | ho <;> simp[execOp,ho,e1,e2,e3,Ws h1 h2 hb n v,Result.andThen]
  unfold wq
  rw[fw]
  obtain⟨s1,s2⟩:=Xp aF (l':=q9 l n v) hj
  exact hn undef .any _ F _ s1 s2 (.any _) go
 ·exact h.elim
theorem Kh:∀(l:List (Int×Int)) (m:Nat) (e:MapEntry),e∈fV m l→∃(i:Nat) (p:Int×Int),l[i]?=some p∧e = { key:=.int .i64 p.1,val:=.int .i64 p.2,born:=m+i }
 | [],_,_,h=>by cases h
 |p::l,m,e,h=>by
  rcases eG.1 h with rfl | h
  ·exact⟨0,p,rfl,rfl⟩
  ·obtain⟨i,q,h1,h2⟩:=Kh l (m+1) e h
   exact⟨i+1,q,h1,by rw[h2];simp only[MapEntry.mk.injEq,true_and];omega⟩
theorem RR{l:List (Int×Int)}{m i:Nat}{p:Int×Int}(h:l[i]?=some p):({ key:=.int .i64 p.1,val:=.int .i64 p.2,born:=m+i }:MapEntry)∈fV m l:=
 cq (i:=i) (by rw[Ky,h];rfl)
theorem P5:∀(l:List (Int×Int)) (m:Nat),((fV m l).map (·.born)).Nodup∧∀x∈(fV m l).map (·.born),m≤x
 | [],_=>⟨Ou,fun _ h=>by cases h⟩
 |p::l,m=>by
  obtain⟨h1,h2⟩:=P5 l (m+1)
  refine⟨mc.2 ⟨fun hm=>?_,h1⟩,fun x hx=>?_⟩
  ·have:=h2 _ hm
   exact Nat.not_succ_le_self _ this
  ·rcases eG.1 hx with rfl | hx
   ·exact aU _
   ·exact Nat.le_of_succ_le (h2 _ hx)
theorem VV(ok:dz P TT){o:Oper}{t:TypeId}{x:Operand}(ho:o.op=.range t x){ρ:Operand→AV}{σ:Hp}{K:AV→Hp→Prop}(h:GP TT t (bN (ρ x)) σ K):j4 P o ρ σ K:=by
 intro a F w hx aF next Q hn
 unfold GP at h
 split at h
 ·rename_i z hz
  obtain⟨kt,et,h1,h2,h3⟩:=J8 ok hz
  obtain⟨j,b,l,hm,hj,go⟩:=h
  have a1:=(hx x (by simp[ho,Op.operands])).bN
  rw[hm]at a1
  have e1:a.eval x=.map (some b):=a1.L0
  obtain⟨_,hb⟩:=(aF.holds _ (cq hj)).Dp
  have fw:(execOp a.eval o).run P w=.ok (.value (.pointer (some ⟨w.heap.size,0,none⟩))) (w.alloc (.mapIter (some b) l.length #[] l.length)):=by
   have e:=run_range_map (P:=P) w t kt et b _ _ h1 hb
   simp[execOp,ho,e1,e,Result.andThen]
  unfold wq
  rw[fw]
  have hold:∀k,k<w.heap.size→(w.alloc (.mapIter (some b) l.length #[] l.length)).heap[k]?=w.heap[k]?:=fun k hk=>Below.heap_alloc _ _ k hk
  have aq:bE F w F (w.alloc (.mapIter (some b) l.length #[] l.length)):=xN aF.low rfl rfl rfl (by simp) hold
  have hr:=aF.same aq hold
  have gZ:(w.alloc (.mapIter (some b) l.length #[] l.length)).heap[w.heap.size]?=some (.mapIter (some b) l.length #[] l.length):=wo _ _
  refine hn _ (.nr w.heap.size) _ F _ aq ⟨?_,fun p hm=>?_,hr.low⟩ (.nr _) (go _)
  ·simp only[oL,mc]
   refine⟨fun hm=>?_,aF.nodup⟩
   obtain⟨p,hp,e⟩:=dX.1 hm
   have:=(aF.holds p hp).lt
   omega
  ·rcases eG.1 hm with rfl | hm
   ·exact⟨fun hF=>IN _ (aF.low _ hF),.inr (.inl ⟨_,_,rfl,gZ,rfl⟩)⟩
   ·exact hr.holds p hm
 ·exact h.elim
theorem Xq{σ:Hp}{F:Nat→Prop}{w:World}(h:bg F w σ):bE F w F w.drew∧bg F w.drew σ:=by
 have aq:bE F w F w.drew:=⟨rfl,rfl,rfl,aU _,fun _ h=>h,fun _ _=>rfl,fun k d S fz hk=>⟨d,fz,hk,rfl⟩,Nat.le_succ _⟩
 exact⟨aq,h.nodup,fun p hp=>(h.holds p hp).mono aq rfl (h.holds p hp).1,h.low⟩
theorem V0{o:Oper}{x:Operand}(ho:o.op=.next x false){ρ:Operand→AV}{σ:Hp}{K:AV→Hp→Prop}(h:LQ σ (bN (ρ x)) K):j4 P o ρ σ K:=by
 intro a F w hx aF next Q hn
 obtain⟨j,j2,r,b,l,seen,hm,h1,h2,stop,go⟩:=h
 have a1:=(hx x (by simp[ho,Op.operands])).bN
 rw[hm]at a1
 have e1:a.eval x=.pointer (some ⟨r,0,none⟩):=a1.Vj
 obtain⟨_,hr⟩:=(aF.holds _ (cq h1)).HE rfl
 obtain⟨_,hb⟩:=(aF.holds _ (cq h2)).Dp
 have aeX:∀x∈(fV 0 l).toArray.toList,x.born<l.length:=fun x hx=>by
  obtain⟨i,p,hi,rfl⟩:=Kh l 0 x hx
  show 0+i<_
  have:=(cf.1 hi).1
  omega
 unfold wq
 rcases run_next_at (P:=P) w o.type r b l.length l.length seen.toArray _ _ hr hb aeX (aU _) with ⟨hz,fw⟩ | ⟨e,he,w1,Im,fw⟩
 ·have C0:(execOp a.eval o).run P w=.ok (.value (.tuple #[.bool false])) w:=by simp[execOp,ho,e1,fw,Result.andThen]
  rw[C0]
  refine hn _ (.tup [.bool false]) σ F w (bE.refl _ _) aF (.tup _ _ rfl fun i y hy=>?_) (stop fun i hi=>?_)
  ·match i,hy with
   | 0,hy=>cases hy;exact .bool _
   |i+1,hy=>simp at hy
  ·have hz:leftOf (fV 0 l).toArray seen.toArray = #[]:=Array.eq_empty_of_size_eq_zero hz
   unfold leftOf at hz
   rw[Array.filter_eq_empty_iff]at hz
   have:=hz _ (by simpa using RR (m:=0) (List.getElem?_eq_getElem hi))
   simpa using this
 ·have C0:(execOp a.eval o).run P w=.ok (.value (.tuple #[.bool true,e.key,e.val])) (Go.ChangeMaps.setBlock w1 r (.mapIter (some b) l.length (seen.toArray.push e.born) l.length)):=by simp[execOp,ho,e1,fw,Result.andThen]
  rw[C0]
  unfold leftOf at he
  have y9:e∈fV 0 l∧e.born ∉ seen:=by simpa using he
  obtain⟨i,p,hi,rfl⟩:=Kh l 0 e y9.1
  have hns:i ∉ seen:=by simpa using y9.2
  have hw:bE F w F w1∧bg F w1 σ:=by
   rcases Im with rfl | rfl
   ·exact⟨bE.refl _ _,aF⟩
   ·exact Xq aF
  obtain⟨s1,s2⟩:=PI (x':=.rZ b l.length (seen++[i])) hw.2 rfl rfl h1
  have e2:(seen++[i]).toArray=seen.toArray.push (0+i):=by simp
  rw[e2]at s1 s2
  refine hn _ (.tup [.bool true,.int .i64 p.1,.int .i64 p.2]) _ F _ (hw.1.trans s1) s2 (.tup _ _ rfl fun k y hy=>?_) (go i p hi hns)
  match k,hy with
  | 0,hy=>cases hy;exact .bool _
  | 1,hy=>cases hy;exact .int _ _
  | 2,hy=>cases hy;exact .int _ _
  |k+3,hy=>simp at hy
theorem VX{o:Oper}{x:Operand}(ho:o.op=.entry x){ρ:Operand→AV}{σ:Hp}{K:AV→Hp→Prop}(h:Ln σ (bN (ρ x)) K):j4 P o ρ σ K:=by
 intro a F w hx aF next Q hn
 obtain⟨j,j2,r,b,i,l,p,seen,hm,h1,h2,h3,go⟩:=h
 have a1:=(hx x (by simp[ho,Op.operands])).bN
 rw[hm]at a1
 have e1:a.eval x=.pointer (some ⟨r,0,none⟩):=a1.Vj
 obtain⟨_,hr⟩:=(aF.holds _ (cq h1)).HE rfl
 obtain⟨_,hb⟩:=(aF.holds _ (cq h2)).Dp
 have hr:w.heap[r]?=some (.mapIter (some b) l.length (seen.toArray.push (0+i)) l.length):=by
  rw[hr];simp
 have fw:=run_entry_at (P:=P) w r b l.length seen.toArray (fV 0 l).toArray l.length { key:=.int .i64 p.1,val:=.int .i64 p.2,born:=0+i } hr hb (by simpa using RR (m:=0) h3) (by simpa using (P5 l 0).1)
 have C0:(execOp a.eval o).run P w=.ok (.value (.tuple #[.int .i64 p.1,.int .i64 p.2])) w:=by simp[execOp,ho,e1,fw,Result.andThen]
 unfold wq
 rw[C0]
 refine hn _ (.tup [.int .i64 p.1,.int .i64 p.2]) σ F w (bE.refl _ _) aF (.tup _ _ rfl fun k y hy=>?_) go
 match k,hy with
 | 0,hy=>cases hy;exact .int _ _
 | 1,hy=>cases hy;exact .int _ _
 |k+2,hy=>simp at hy
theorem J3(ok:dz P TT){o:Oper}{ρ:Operand→AV}{σ:Hp}{K:AV→Hp→Prop}(h:gO P TT o.op ρ σ K):j4 P o ρ σ K:=by
 have dd:fy P TT o.op ρ σ (fun v=>K v σ)→j4 P o ρ σ K:=fun h=>by
  obtain⟨v,h1,h2⟩:=FA ok h
  exact V2 h2 h1
 generalize lL:o.op=op at h dd
 unfold gO at h
 split at h
 ·split at h
  ·rename_i cs hc;exact Ze lL hc h
  ·exact h.elim
 ·split at h
  ·rename_i i hi;exact W8 ok lL hi h
  ·exact h.elim
 ·split at h
  ·rename_i e sz qE z0 ht
   split at h
   ·rename_i i hi
    split at h
    ·rename_i cs hf fh gQ
     exact VP ok lL ht rfl hi hf (cH fh) (cH gQ) h
    ·exact h.elim
   ·exact h.elim
  ·exact h.elim
 ·split at h
  ·rename_i e sz qE z0 k n k' m ht hl hc
   split at h
   ·rename_i i hi
    exact VR ok lL ht rfl hi hl hc h.fact h.go
   ·exact h.elim
  ·exact h.elim
 ·split at h
  ·rename_i i hi
   split at h
   ·rename_i b off hp;exact Wm ok lL hi hp h
   ·exact h.elim
  ·exact h.elim
 ·split at h
  ·exact V1 lL h
  ·exact h.elim
 ·exact O4 ok (.inl lL) h
 ·exact O4 ok (.inr lL) h
 ·exact VV ok lL h
 ·split at h
  ·exact V0 lL h
  ·exact h.elim
 ·exact VX lL h
 ·rename_i args cx
  split at h
  ·rename_i s x t t' Mc Vl
   obtain rfl:args = #[s,x]:=by cases args;simp_all
   obtain rfl:cx = #[t,t']:=by cases cx;simp_all
   split at h
   ·rename_i e s1 b1 z1 e' s2 b2 z2 ht ns
    split at h
    ·rename_i i hi;exact E9 (Wg ok lL ht rfl ns rfl hi (ρ:=fun x=>bN (ρ x)) h)
    ·exact h.elim
   ·rename_i e s1 b1 z1 k' s2 b2 z2 ht ns
    split at h
    ·rename_i i hi;exact E9 (V6 ok lL ht rfl ns rfl hi (ρ:=fun x=>bN (ρ x)) h)
    ·exact h.elim
   ·exact h.elim
  ·exact h.elim
 ·rename_i args cx
  split at h
  ·rename_i s t Mc Vl
   obtain rfl:args = #[s]:=by cases args;simp_all
   obtain rfl:cx = #[t]:=by cases cx;simp_all
   split at h
   ·rename_i e s1 b1 z1 ht
    split at h
    ·rename_i i hi;exact E9 (W2 ok lL ht rfl hi (ρ:=fun x=>bN (ρ x)) h)
    ·exact h.elim
   ·exact h.elim
  ·exact h.elim
 ·rename_i args cx
  split at h
  ·rename_i d x t t' Mc Vl
   obtain rfl:args = #[d,x]:=by cases args;simp_all
   obtain rfl:cx = #[t,t']:=by cases cx;simp_all
   split at h
   ·rename_i e s1 b1 z1 e' s2 b2 z2 ht ns
    split at h
    ·rename_i i hi;exact E9 (XT ok lL ht rfl ns rfl hi (ρ:=fun x=>bN (ρ x)) h)
    ·exact h.elim
   ·exact h.elim
  ·exact h.elim
 ·exact dd h
 ·exact Wf lL h
 ·exact dd h
def tz(F:Nat→Prop)(w:World)(t:Tm)(a:Act):Prop:=∀i,aA F w (t i) (a.tmps.getD i undef)
theorem tz.mono{F F':Nat→Prop}{w w':World}{t:Tm}{a:Act}(h:tz F w t a)(aq:bE F w F' w'):tz F' w' t a:=fun i=>(h i).mono aq
theorem tz.put{F:Nat→Prop}{w:World}{t:Tm}{a:Act}(h:tz F w t a){d:Option Tmp}{x:AV}{v:Value}(hx:aA F w x v)(hd:∀i,d=some i→i<a.tmps.size):tz F w (put t d x) (a.put d v):=by
 cases d with
 |none=>exact h
 |some d=>
  intro i
  show aA F w (match Nat.beq i d with | true=>x | false=>t i) ((a.tmps.setIfInBounds d v).getD i undef)
  have ee:=hd d rfl
  cases hb:Nat.beq i d with
  |true=>
   have:=jx hb
   subst this
   simpa [Array.getD,ee]using hx
  |false=>
   have aP:d≠i:=fun e=>by subst e;rw[xz]at hb;cases hb
   have:=h i
   rw[jy]at this ⊢
   rw[Ji aP]
   exact this
theorem oS{F:Nat→Prop}{w:World}(v:Value):aA F w (zY v) v:=by
 cases v with
 |int k n=>exact .int _ _
 |bool b=>exact .bool _
 |string s=>exact .str _
 |pointer a=>cases a <;> first | exact .cQ | exact .any _
 |slice a l c=>cases a <;> cases l <;> cases c <;> first | exact .aj | exact .any _
 |nilIface=>exact .nilif
 |nilFunc=>exact .iC
 |map a=>cases a <;> first | exact .pt | exact .any _
 |_=>exact .any _
theorem R8{F:Nat→Prop}{w:World}{t:Tm}{a:Act}(x:Operand)(h:∀i,x=.tmp i→aA F w (t i) (a.tmps.getD i undef)):aA F w (ev t x) (a.eval x):=by
 cases x with
 |tmp i=>exact h i rfl
 |const v=>
  show aA F w (UI v) v
  cases v with
  |agg cs=>
   show aA F w (match (cs.toList.map zY).all AV.leaf with | true=>.agg (cs.toList.map zY) | false=>.any) _
   split
   ·rename_i hl
    refine .agg _ _ (by simp) (fun i x hx=>?_) (fun i x hx=>?_)
    ·exact fk.1 hl x (cq hx)
    ·simp only[fo,xE]at hx
     obtain⟨v,hv,rfl⟩:=hx
     have ab:i<cs.size:=by have:=(List.getElem?_eq_some_iff.1 hv).1;simpa using this
     have:cs[i]=v:=by simpa [ab]using hv
     simpa [Array.getD,ab,this]using oS v
   ·exact .any _
  |tuple vs=>
   show aA F w (match vs.toList with | []=>.tup [] | _=>.any) _
   split
   ·rename_i h0
    exact .tup _ _ (by simp at h0;simp[h0]) (fun i x h=>by simp at h)
   ·exact .any _
  |int k n=>exact oS (.int k n)
  |bool b=>exact oS (.bool b)
  |string x=>exact oS (.string x)
  |float k b=>exact oS (.float k b)
  |complex k b c=>exact oS (.complex k b c)
  |pointer x=>exact oS (.pointer x)
  |slice x l c=>exact oS (.slice x l c)
  |map x=>exact oS (.map x)
  |chan x=>exact oS (.chan x)
  |func f x y=>exact oS (.func f x y)
  |nilFunc=>exact oS .nilFunc
  |iface t x=>exact oS (.iface t x)
  |nilIface=>exact oS .nilIface
 |global g=>exact .any _
 |func f=>exact .fn _ _ _ _ _ rfl rfl (fun i x h=>by simp at h) (fun i x h=>by simp at h)
theorem tz.eval{F:Nat→Prop}{w:World}{t:Tm}{a:Act}(h:tz F w t a)(x:Operand):aA F w (ev t x) (a.eval x):=R8 x fun i _=>h i
end
section
variable {P:Program} {TT:TypeId→Option TI}
structure Marks(B:Nat)(F:Nat→Prop)(w:World)(ds:List Deferred):Prop where
 low:B≤w.heap.size
 nodup:ds.Nodup
 is:∀d∈ds,∃D,d = { target:=.collected D,args:= #[] }∧B≤D∧F D∧w.heap[D]?=some (.deferred (some []))
theorem Marks.mono{B:Nat}{F F':Nat→Prop}{w w':World}{ds:List Deferred}(h:Marks B F w ds)(aq:bE F w F' w'):Marks B F' w' ds:=
 ⟨fD h.low aq.size,h.nodup,fun d hd=>by
  obtain⟨D,h1,h2,h3,h4⟩:=h.is d hd
  exact⟨D,h1,h2,aq.sub D h3,(aq.fix D h3).trans h4⟩⟩
structure dh(B n:Nat)(F:Nat→Prop)(w:World)(t:Tm)(σ:Hp)(a:Act):Prop where
 tm:tz F w t a
 hp:bg F w σ
 size:n≤a.tmps.size
 defers:Marks B F w a.defers
theorem Rz(a:Act)(d:Option Tmp)(v:Value):(a.put d v).tmps.size=a.tmps.size:=by cases d <;> simp[Act.put]
theorem SK(a:Act)(d:Option Tmp)(v:Value):(a.put d v).defers=a.defers:=by cases d <;> rfl
theorem dh.put{B n:Nat}{F F':Nat→Prop}{w w':World}{t:Tm}{σ σ':Hp}{a:Act}(h:dh B n F w t σ a)(aq:bE F w F' w')(hp:bg F' w' σ'){d:Option Tmp}{x:AV}{v:Value}(hx:aA F' w' x v)(hd:∀i,d=some i→i<n):dh B n F' w' (put t d x) σ' (a.put d v):=
 ⟨(h.tm.mono aq).put hx (fun i e=>rE (hd i e) h.size),hp,by rw[Rz];exact h.size,by rw[SK];exact h.defers.mono aq⟩
theorem RO{F:Nat→Prop}{w:World}{σ:Hp}(h:bg F w σ){i b':Nat}{cs kE:List AV}(hi:σ[i]?=some (b',cs))(hl:kE.length=cs.length)(hk:∀(k:Nat) (x y:AV),cs[k]?=some x→kE[k]?=some y→x=y∨(x=.aj∧∃e:Sh,y=.af e [])):bg F w (σ.set i (b',kE)):=by
 refine⟨?_,fun p hp=>?_,h.low⟩
 ·have e1:(σ.set i (b',kE)).map Prod.fst=σ.map Prod.fst:=by
   rw[oM]
   refine List.ext_getElem (by simp) fun j h1 h2=>?_
   rw[I0]
   split
   ·rename_i hj;subst hj
    have:=cf.1 hi
    obtain⟨q1,q2⟩:=this
    rw[IZ,q2]
   ·rfl
  rw[e1];exact h.nodup
 ·rcases qD hp with hp | rfl
  ·exact h.holds p hp
  ·have hh:=h.holds _ (cq hi)
   by_cases hn:∃k:Nat,cs[k]?=some AV.aj
   ·obtain⟨k,kA⟩:=hn
    obtain⟨h1,c,T,h2,h3,h4⟩:=hh.L4 kA rfl
    refine⟨h1,.inl ⟨c,T,h2,by rw[hl];exact h3,fun j y hy=>?_⟩⟩
    have hj:j<cs.length:=by rw[← hl];exact (cf.1 hy).1
    have hx:=bJ hj
    obtain⟨q1,q2⟩:=h4 j _ hx
    rcases hk j _ _ hx hy with e | ⟨e,e',rfl⟩
    ·rw[← e];exact⟨q1,q2⟩
    ·rw[e]at q2
     refine⟨rfl,?_⟩
     revert q2;generalize c.getD j undef=u;intro q2;cases q2
     exact .af e' [] _ ⟨none,0,rfl,aU _,bA _,(fun _=>rfl),fun aP=>absurd rfl aP⟩
   ·have e:kE=cs:=by
     refine EO hl fun j h1 h2=>?_
     rcases hk j _ _ (bJ h2) (bJ h1) with e | ⟨e,_⟩
     ·exact e.symm
     ·exact absurd ⟨j,(bJ h2).trans (congrArg some e)⟩ hn
    rw[e];exact hh
theorem SY{F:Nat→Prop}{w:World}{σ:Hp}(h:bg F w σ){i b' k:Nat}{cs':List AV}(e:Sh)(hi:σ[i]?=some (b',cs'))(hk:cs'[k]?=some .aj):bg F w (σ.set i (b',cs'.set k (.af e []))):=
 RO h hi (by simp) fun j x y hx hy=>by
  rw[eR]at hy
  split at hy
  ·rename_i hj;subst hj
   split at hy
   ·rw[hk]at hx;cases hx;cases hy;exact .inr ⟨rfl,e,rfl⟩
   ·cases hy
  ·rw[hx]at hy;cases hy;exact .inl rfl
theorem bg.dJ{F:Nat→Prop}{w:World}{σ σ':Hp}(h:bg F w σ)(hs:iX σ σ'):bg F w σ':=by
 induction hs with
 |refl=>exact h
 |pull js _ ih=>exact ih (h.perm (xR js _))
 |perm hp _ ih=>exact ih (h.perm hp)
 |aft i b' cs kE hi hl hk _ ih=>exact ih (RO h hi hl hk)
 | @drop k n σ σ2 _ ih=>
  refine ih (h.sub ?_)
  have h1:(σ.drop (k+n)).Sublist (σ.drop k):=by
   rw[← List.drop_drop]
   exact List.drop_sublist _ _
  have h2:=(List.Sublist.refl (σ.take k)).append h1
  rwa [Bq]at h2
theorem dh.dJ{B n:Nat}{F:Nat→Prop}{w:World}{t:Tm}{σ σ':Hp}{a:Act}(h:dh B n F w t σ a)(hs:iX σ σ'):dh B n F w t σ' a:=⟨h.tm,h.hp.dJ hs,h.size,h.defers⟩
def uq(ops:List Oper)(o:Oper)(t:Tm)(b:Bool):Prop:=
 (o.guard=none∧b=true)∨∃j want d x,o.guard=some (j,want)∧(ops[j]?).bind (·.dst)=some d∧((t d=.bool x∧b=(x == want))∨(t d=.tup []∧b=false))
theorem xT{ops:List Oper}{o:Oper}{t:Tm}{A B:Prop}(h:o7 ops o t A B):(uq ops o t true∧A)∨(uq ops o t false∧B):=by
 unfold o7 at h
 split at h
 ·rename_i hg
  exact .inl ⟨.inl ⟨hg,rfl⟩,h⟩
 ·rename_i j want hg
  split at h
  ·rename_i d hd
   split at h
   ·rename_i b hb
    cases want <;> cases b
    ·exact .inl ⟨.inr ⟨j,_,d,_,hg,hd,.inl ⟨hb,rfl⟩⟩,h⟩
    ·exact .inr ⟨.inr ⟨j,_,d,_,hg,hd,.inl ⟨hb,rfl⟩⟩,h⟩
    ·exact .inr ⟨.inr ⟨j,_,d,_,hg,hd,.inl ⟨hb,rfl⟩⟩,h⟩
    ·exact .inl ⟨.inr ⟨j,_,d,_,hg,hd,.inl ⟨hb,rfl⟩⟩,h⟩
   ·rename_i hb
    exact .inr ⟨.inr ⟨j,_,d,false,hg,hd,.inr ⟨hb,rfl⟩⟩,h⟩
   ·exact h.elim
  ·exact h.elim
theorem xP{F:Nat→Prop}{w:World}:aA F w (.tup []) undef:=.tup _ _ rfl (fun i x h=>by simp at h)
theorem Yc{F:Nat→Prop}{w:World}{u:Value}(h:aA F w (.tup []) u):u=.tuple #[]:=by
 cases h with
 |tup _ vs hs h=>rw[EL.1 hs.symm]
theorem Ft{ops:List Oper}{o:Oper}{t:Tm}{a:Act}{b:Bool}(h:uq ops o t b)(hr:∀d,(∃j want,o.guard=some (j,want)∧(ops[j]?).bind (·.dst)=some d)→∃F w,aA F w (t d) (a.tmps.getD d undef)):Region.wanted o (yielded ops.toArray a.tmps)=b:=by
 rcases h with ⟨hg,rfl⟩ | ⟨j,want,d,x,hg,h1,⟨h2,rfl⟩ | ⟨h2,rfl⟩⟩
 ·simp[Region.wanted,hg]
 ·obtain⟨F,w,h3⟩:=hr d ⟨j,want,hg,h1⟩
  rw[h2]at h3
  have h3:=h3.qV
  have h4:a.tmps[d]?=some (.bool x):=by
   rw[jy]at h3
   cases hq:a.tmps[d]? with
   |none=>rw[hq]at h3;simp[undef]at h3
   |some v=>rw[hq]at h3;simpa using h3
  have h5:yielded ops.toArray a.tmps j=some x:=by
   unfold yielded
   simp only[zk,h1,Option.bind_some,h4]
  simp[Region.wanted,hg,h5]
 ·obtain⟨F,w,h3⟩:=hr d ⟨j,want,hg,h1⟩
  rw[h2]at h3
  have h3:=Yc h3
  have h5:yielded ops.toArray a.tmps j=none:=by
   unfold yielded
   simp only[zk,h1,Option.bind_some]
   rw[jy]at h3
   cases hq:a.tmps[d]? with
   |none=>rfl
   |some v=>rw[hq]at h3;simp at h3;rw[h3]
  simp[Region.wanted,hg,h5]
theorem JK(ok:dz P TT){B n:Nat}{ops:List Oper}{Q:Exit→Act→World→Prop}:∀(l:List Oper) (t:Tm) (σ:Hp) (K:Tm→Hp→Prop) (F:Nat→Prop) (w:World) (a:Act),(∀o∈l,∀d,o.dst=some d→d<n)→Vg P TT ops l t σ K→dh B n F w t σ a→
  (∀t' σ' F' w' a',bE F w F' w'→dh B n F' w' t' σ' a'→K t' σ'→Q .normal a' w')→wJ P ops.toArray Q l a w
 | [],t,σ,K,F,w,a,_,h,hs,hq=>hq t σ F w a (.refl _ _) hs h
 |o::l,t,σ,K,F,w,a,hd,h,hs,hq=>by
  have hw:∀{b:Bool},uq ops o t b→Region.wanted o (yielded ops.toArray a.tmps)=b:=fun hg=>Ft hg fun d _=>⟨F,w,hs.tm d⟩
  rcases xT h with ⟨hg,h⟩ | ⟨hg,h⟩
  ·unfold wJ
   rw[ai (hw hg)]
   refine (J3 ok h a F w (fun x _=>hs.tm.eval x) hs.hp _ Q ?_)
   intro v av σ' F' w' h1 h2 h3 h4
   exact JK ok l _ σ' K F' w' _ (fun o ho=>hd o (cY _ ho)) h4 (hs.put h1 h2 h3 (hd o (cm ..))) (fun t' ko nI l4 a' k1 k2 k3=>hq t' ko nI l4 a' (h1.trans k1) k2 k3)
  ·unfold wJ
   rw[if_neg (by rw[hw hg];simp)]
   exact JK ok l _ σ K F w _ (fun o ho=>hd o (cY _ ho)) h (hs.put (.refl _ _) hs.hp xP (hd o (cm ..))) hq
def LR(P:Program)(o:Oper)(ρ:Operand→AV)(σ:Hp)(v:AV):Prop:=
 ∀(a:Act) (F:Nat→Prop) (w:World),(∀x∈o.op.operands.toList,aA F w (ρ x) (a.eval x))→bg F w σ→∀(next:Act→World→Prop) (Q:Exit→Act→World→Prop),
  (∀u F' w',bE F w F' w'→bg F' w' σ→aA F' w' v u→next (a.put o.dst u) w')→wq P o a w next Q
theorem QD(ok:dz P TT){o:Oper}{ρ:Operand→AV}{σ:Hp}{K:AV→Prop}(h:vk P TT o.op ρ σ K):∃v,K v∧LR P o ρ σ v:=by
 have dd:fy P TT o.op ρ σ K→∃v,K v∧LR P o ρ σ v:=fun h=>by
  obtain⟨v,h1,h2⟩:=FA ok h
  refine⟨v,h1,fun a F w hx aF next Q hn=>?_⟩
  obtain⟨v',h3,h4⟩:=h2 a.eval F w o rfl hx aF
  unfold wq
  rw[h3]
  exact hn v' F w (.refl _ _) aF h4
 generalize lL:o.op=op at h dd
 unfold vk at h
 split at h
 ·exact dd h
 ·obtain⟨_,_,h,_⟩ | ⟨f,xs,hc,fw⟩:=O7 lL h
  ·exact h.elim
  cases hc with
  |mk js r call go=>
   obtain⟨ob,gJ⟩:=call
   refine⟨r,go,fun a F w hx aF next Q hn=>?_⟩
   obtain⟨vs,bU,hr⟩:=fw a.eval F w hx
   unfold wq
   rw[hr ob]
   refine (gJ F w vs bU (aF.perm (xR js σ))).mono ?_
   rintro e w' ⟨r',v,σ',F',rfl,h1,h2,h3,rfl,rfl⟩
   exact⟨v,rfl,hn v F' w' h1 (h2.perm (xR js σ).symm) h3⟩
  |perm hp r call go=>
   obtain⟨ob,gJ⟩:=call
   refine⟨r,go,fun a F w hx aF next Q hn=>?_⟩
   obtain⟨vs,bU,hr⟩:=fw a.eval F w hx
   unfold wq
   rw[hr ob]
   refine (gJ F w vs bU (aF.perm hp)).mono ?_
   rintro e w' ⟨r',v,σ',F',rfl,h1,h2,h3,rfl,nw⟩
   exact⟨v,rfl,hn v F' w' h1 (h2.perm (hp.symm.trans nw)) h3⟩
 ·exact dd h
end
end Go.Proofs.YtnikdflhefijbaaGreat
