import Derived.Deep.AppendSrc
import Derived.Deep.Upon
import Derived.Great.BuildSlice
import Derived.Maps.RangeRun
import Derived.Orders
import Derived.Test.YtnikdflhefijbaaGreatBn3
namespace Go.Proofs.YtnikdflhefijbaaGreat
open Go.RowKit
section
variable {P:Program} {TT:TypeId→Option TI} {F F':Nat→Prop} {w w':World}
theorem Holds.mono{b:Nat}{cs:List AV}(h:Holds F w b cs)(ao:bJ F w F' w')(hb:w'.heap[b]?=w.heap[b]?)(hF:¬F' b):Holds F' w' b cs:=by
 obtain⟨_,⟨c,T,h1,h2,h3⟩ | ⟨x,o,h1,h2,h3⟩ | ⟨L,t,h1,h2,h3⟩⟩:=h
 ·exact⟨hF,.inl ⟨c,T,hb.trans h1,h2,fun i x hx=>⟨(h3 i x hx).1,(h3 i x hx).2.mono ao⟩⟩⟩
 ·exact⟨hF,.inr (.inl ⟨x,o,h1,hb.trans h2,h3⟩)⟩
 ·exact⟨hF,.inr (.inr ⟨L,t,h1,hb.trans h2,fun i=>(h3 i).mono ao⟩)⟩
theorem Holds.lt{b:Nat}{cs:List AV}(h:Holds F w b cs):b<w.heap.size:=by
 obtain⟨_,⟨_,_,h1,_⟩ | ⟨_,_,_,h1,_⟩ | ⟨_,_,_,h1,_⟩⟩:=h
 ·exact tc h1
 ·exact tc h1
 ·exact tc h1
theorem bA.perm{σ σ':Hp}(h:bA F w σ)(hp:σ'.Perm σ):bA F w σ':=
 ⟨((hp.map Prod.fst).nodup_iff).2 h.nodup,fun p hm=>h.holds p (hp.mem_iff.1 hm),h.low⟩
theorem bA.sub{σ σ':Hp}(h:bA F w σ)(hs:σ'.Sublist σ):bA F w σ':=
 ⟨h.nodup.sublist (hs.map _),fun p hm=>h.holds p (hs.subset hm),h.low⟩
theorem xO:∀(σ:Hp) (i:Nat) (p:Nat×List AV),σ[i]?=some p→(p::σ.eraseIdx i).Perm σ
 | [],i,p,h=>by simp at h
 |q::σ,0,p,h=>by simp at h;subst h;exact List.Perm.refl _
 |q::σ,i+1,p,h=>(List.Perm.swap q p _).trans (.cons q (xO σ i p (by simpa using h)))
theorem Yu(i:Nat)(σ:Hp):(pull i σ).Perm σ:=by
 unfold pull
 split
 ·rename_i p h
  exact xO σ i p h
 ·exact List.Perm.refl _
theorem xY:∀(js:List Nat) (σ:Hp),(n9 js σ).Perm σ
 | [],_=>List.Perm.refl _
 |i::r,σ=>(Yu i _).trans (xY r σ)
theorem xS(fg:∀b,F b→b<w.heap.size)(ho:w'.os=w.os)(ht:w'.tape=w.tape)(hu:w'.output=w.output)(hs:w.heap.size≤w'.heap.size)(hb:∀b,b<w.heap.size→w'.heap[b]?=w.heap[b]?)(hd:w.drawn≤w'.drawn:=by first | exact a8 _ | exact Nat.le_succ _ | exact Nat.le_add_right _ _):bJ F w F w':=
 ⟨ho,ht,hu,hs,fun _ h=>h,fun b h=>hb b (fg b h),fun b c _ fz h=>⟨c,fz,(hb b (tc h)).trans h,rfl⟩,hd⟩
theorem bA.same{σ:Hp}(h:bA F w σ)(ao:bJ F w F w')(hb:∀b,b<w.heap.size→w'.heap[b]?=w.heap[b]?):bA F w' σ:=
 ⟨h.nodup,fun p hm=>(h.holds p hm).mono ao (hb _ (h.holds p hm).lt) (h.holds p hm).1,fun b hF=>rH (h.low b hF) ao.size⟩
theorem Pd{σ:Hp}(h:bA F w σ){c:Array Value}{T:TypeId}{cs:List AV}(hl:cs.length≤c.size)(hc:∀(i:Nat) (x:AV),cs[i]?=some x→x.leaf=true∧aA F w x (c.getD i undef)){w0:World}(e0:w0=w∨w0=w.drew):
  bJ F w F (w0.alloc (.cells c T))∧bA F (w0.alloc (.cells c T)) ((w.heap.size,cs)::σ):=by
 have hold:∀b,b<w.heap.size→(w0.alloc (.cells c T)).heap[b]?=w.heap[b]?:=fun b hb=>by rcases e0 with rfl | rfl <;> exact Below.heap_alloc _ _ b (by simpa using hb)
 have ao:bJ F w F (w0.alloc (.cells c T)):=by
  rcases e0 with rfl | rfl
  ·exact xS h.low rfl rfl rfl (by simp) hold
  ·exact xS h.low rfl rfl rfl (by simp) hold
 have hr:=h.same ao hold
 have ik:(w0.alloc (.cells c T)).heap[w.heap.size]?=some (.cells c T (0,0)):=by rcases e0 with rfl | rfl <;> exact wG _ _
 refine⟨ao,⟨?_,fun p hm=>?_,hr.low⟩⟩
 ·simp only[oR,mr]
  refine⟨fun hm=>?_,h.nodup⟩
  obtain⟨p,hp,e⟩:=dP.1 hm
  have:=(h.holds p hp).lt
  omega
 ·rcases eF.1 hm with rfl | hm
  ·exact⟨fun hF=>I5 _ (h.low _ hF),.inl ⟨c,T,ik,hl,fun i x hx=>⟨(hc i x hx).1,(hc i x hx).2.mono ao⟩⟩⟩
  ·exact hr.holds p hm
theorem B6{σ:Hp}(h:bA F w σ){j b:Nat}{cs cs':List AV}(hj:σ[j]?=some (b,cs)){c c':Array Value}{T:TypeId}(hc:w.heap[b]?=some (.cells c T (0,0)))(eD:c'.size=c.size)(hl:cs'.length≤c'.size)
  (hr:∀(i:Nat) (x:AV),cs'[i]?=some x→x.leaf=true∧aA F w x (c'.getD i undef)) (hw:∀k,k≠b→w'.heap[k]?=w.heap[k]?) (IC:w'.heap[b]?=some (.cells c' T (0,0))) (ho:w'.os=w.os) (ht:w'.tape=w.tape) (hu:w'.output=w.output) (hs:w'.heap.size=w.heap.size) (hd:w.drawn≤w'.drawn:=by first | exact a8 _ | exact Nat.le_succ _ | exact Nat.le_add_right _ _) :
  bJ F w F w'∧bA F w' (σ.set j (b,cs')):=by
 have hb:=(h.holds (b,cs) (cq hj)).1
 have ab:j<σ.length:=(cg.1 hj).1
 have ao:bJ F w F w':=⟨ho,ht,hu,by omega,fun _ h=>h,fun k hF=>hw k (fun e=>hb (e▸hF)),fun k d S fz hk=>by
  by_cases e:k=b
  ·subst e
   rw[hc]at hk
   cases hk
   exact⟨c',(0,0),IC,eD⟩
  ·exact⟨d,fz,(hw k e).trans hk,rfl⟩,hd⟩
 have Dg:(σ.set j (b,cs')).map Prod.fst=σ.map Prod.fst:=by
  rw[oS]
  apply zo
  intro k
  rw[e8]
  split
  ·rename_i e;subst e
   simp[ab]
   have:=(cg.1 hj).2
   rw[this]
  ·rfl
 refine⟨ao,⟨Dg▸h.nodup,fun p hm=>?_,fun k hF=>by rw[hs];exact h.low k hF⟩⟩
 obtain⟨k,hk⟩:=qG.1 hm
 rw[e8]at hk
 split at hk
 ·rename_i e;subst e
  simp at hk
  obtain⟨_,rfl⟩:=hk
  exact⟨hb,.inl ⟨c',T,IC,hl,fun i x hx=>⟨(hr i x hx).1,(hr i x hx).2.mono ao⟩⟩⟩
 ·rename_i aS
  have aR:=cq hk
  have qy:p.1≠b:=by
   intro e
   have ca:=h.nodup
   have h1:(σ.map Prod.fst)[k]?=some b:=by rw[List.getElem?_map,hk];simp[e]
   have h2:(σ.map Prod.fst)[j]?=some b:=by rw[fo,hj];rfl
   have ec:k<(σ.map Prod.fst).length:=(cg.1 h1).1
   have:=(List.getElem?_inj (i:=k) (j:=j) ec ca).1 (h1.trans h2.symm)
   exact aS this.symm
  exact (h.holds p aR).mono ao (hw _ qy) (h.holds p aR).1
theorem RE(z:List AV):∀(n j:Nat),j<n*z.length→(cM z n)[j]?=z[j % z.length]?
 | 0,j,h=>by simp at h
 |n+1,j,h=>by
  unfold cM
  by_cases hj:j<z.length
  ·rw[jY hj,tU hj]
  ·have e:(n+1)*z.length=n*z.length+z.length:=qC n z.length
   rw[iX (by omega),RE z n (j-z.length) (by omega)]
   rw[Nat.mod_eq_sub_mod (a:=j) (b:=z.length) (by omega)]
theorem vZ(z:List AV)(n:Nat):(cM z n).length=n*z.length:=by
 induction n with
 |zero=>simp[cM]
 |succ n ih=>simp[cM,ih,Nat.succ_mul];omega
theorem Gm{i:TI}{z:Value}(hz:p7 i.zero z.cells.toList=true){n m:Nat}(hnm:n≤m):(cM i.zero n).length≤(madeCells z.cells (m*i.zero.length)).size∧∀(k:Nat) (x:AV),(cM i.zero n)[k]?=some x→x.leaf=true∧aA F w x ((madeCells z.cells (m*i.zero.length)).getD k undef):=by
 obtain⟨h1,h2⟩:=wx (F:=F) (w:=w) hz
 have hle:n*i.zero.length≤m*i.zero.length:=lY _ hnm
 refine⟨by rw[vZ,size_madeCells];exact hle,fun k x hx=>?_⟩
 have hk:k<n*i.zero.length:=by rw[← vZ];exact (cg.1 hx).1
 rw[RE _ _ _ hk]at hx
 obtain⟨h3,h4⟩:=h2 _ x hx
 refine⟨h3,?_⟩
 have ab:k<m*i.zero.length:=by omega
 have tz:0<i.zero.length:=by
  rcases tW i.zero.length with h0 | h0
  ·rw[h0]at hk;omega
  ·exact h0
 have Vx:k % i.zero.length<z.cells.size:=by rw[← h1];exact mT _ tz
 rw[h1]at h4 ab
 rw[h1]at Vx
 simpa [madeCells,Array.getD,ab,h1,Vx,Nat.mod_lt _ (h1▸tz)]using h4
end
section
variable {P:Program} {TT:TypeId→Option TI} {F F':Nat→Prop} {w w':World}
def kd(P:Program)(o:Oper)(ρ:Operand→AV)(σ:Hp)(K:AV→Hp→Prop):Prop:=
 ∀(a:Act) (F:Nat→Prop) (w:World),(∀x∈o.op.operands.toList,aA F w (ρ x) (a.eval x))→bA F w σ→∀(next:Act→World→Prop) (Q:Exit→Act→World→Prop),
  (∀v av σ' F' w',bJ F w F' w'→bA F' w' σ'→aA F' w' av v→K av σ'→next (a.put o.dst v) w')→wq P o a w next Q
theorem V2{o:Oper}{ρ:Operand→AV}{σ:Hp}{K:AV→Hp→Prop}{v:AV}(h:D2 P o.op ρ σ v)(hk:K v σ):kd P o ρ σ K:=by
 intro a F w hx aF next Q hn
 obtain⟨v',h1,h2⟩:=h a.eval F w o rfl hx aF
 unfold wq
 rw[h1]
 exact hn v' v σ F w (.refl _ _) aF h2 hk
theorem Fx{o:Oper}{ρ:Operand→AV}{σ:Hp}{K:AV→Hp→Prop}{cs:List AV}{mk:Nat→AV}(hk:∀b,K (mk b) ((b,cs)::σ))
  (h:∀(η:Operand→Value) (F:Nat→Prop) (w:World),(∀x∈o.op.operands.toList,aA F w (ρ x) (η x))→∃(c:Array Value) (T:TypeId) (v:Value),(execOp η o).run P w=.ok (.value v) (w.alloc (.cells c T))∧cs.length≤c.size∧(∀(i:Nat) (x:AV),cs[i]?=some x→x.leaf=true∧aA F w x (c.getD i undef))∧aA F (w.alloc (.cells c T)) (mk w.heap.size) v):kd P o ρ σ K:=by
 intro a F w hx aF next Q hn
 obtain⟨c,T,v,h1,h2,h3,h4⟩:=h a.eval F w hx
 unfold wq
 rw[h1]
 obtain⟨ao,hr⟩:=Pd aF (T:=T) h2 h3 (w0:=w) (.inl rfl)
 exact hn v _ _ F _ ao hr h4 (hk _)
theorem V5{x:AV}{v:Value}{cs:List AV}(h:aA F w x v)(hc:x.cells?=some cs):cs.length≤v.cells.size∧∀(i:Nat) (x:AV),cs[i]?=some x→x.leaf=true∧aA F w x (v.cells.getD i undef):=by
 obtain⟨h1,h2⟩:=J6 h hc
 exact⟨by omega,h2⟩
theorem Zj{o:Oper}{e:TypeId}{x:Operand}(ho:o.op=.box e x){ρ:Operand→AV}{σ:Hp}{K:AV→Hp→Prop}{cs:List AV}(hc:(ρ x).cells?=some cs)(hk:∀b,K (.ptr b 0) ((b,cs)::σ)):kd P o ρ σ K:=
 Fx hk fun η F w hx=>by
  have h1:=hx x (by simp[ho,Op.operands])
  obtain⟨h2,h3⟩:=V5 h1 hc
  exact⟨(η x).cells,e,.pointer (some ⟨w.heap.size,0,none⟩),by simp[execOp,ho,Instr.box,newVar,newRow],h2,h3,.ptr _ _ ⟨_,_,_,wG _ _⟩⟩
theorem W9(ok:dE P TT){o:Oper}{e:TypeId}(ho:o.op=.alloc e){ρ:Operand→AV}{σ:Hp}{K:AV→Hp→Prop}{i:TI}(hi:TT e=some i)(hk:∀b,K (.ptr b 0) ((b,i.zero)::σ)):kd P o ρ σ K:=
 Fx hk fun η F w hx=>by
  obtain⟨j,d,z,hj,hd,_,_,_,hz,iq⟩:=dp ok hi
  obtain⟨h1,h2⟩:=wx (F:=F) (w:=w) iq
  exact⟨z.cells,e,.pointer (some ⟨w.heap.size,0,none⟩),by simp[execOp,ho,Instr.alloc,newVar,newRow,zeroValue,typeInfo,hj,hz],by omega,h2,.ptr _ _ ⟨_,_,_,wG _ _⟩⟩
theorem VP(ok:dE P TT){o:Oper}{t e:TypeId}{len:Nat}{parts:Array (Nat×Operand)}(ho:o.op=.buildSlice t len parts){ρ:Operand→AV}{σ:Hp}{K:AV→Hp→Prop}{it i:TI}(ht:TT t=some it)(ec:it.k=.slice e)(hi:TT e=some i){cs:List AV}
  (hf:rY ((List.range len).map fun j=>(j*i.size,i.size)) (cM i.zero len) (parts.toList.map fun p=>(p.1,ρ p.2))=some cs) (eD:len*i.size≤16777216) (tz:1≤i.size) (hk:∀b,K (.ae b 0 len i.size) ((b,cs)::σ)):kd P o ρ σ K:=
 Fx hk fun η F w hx=>by
  obtain⟨_,d,_,_,hd,_,_,jX,_,_⟩:=dp ok ht
  rw[ec]at jX
  obtain rfl:=j5 jX
  obtain⟨j,d',z,hj,kp,hs,⟨_,oK⟩,_,hz,iq⟩:=dp ok hi
  obtain⟨hl,hr⟩:=QB (parts:=parts) (ρ:=ρ) (η:=η) (F:=F) (w:=w) (by simpa [ho,Op.operands]using hx)
  have jF:z.cells.size=j.size:=by have:=(wx (F:=F) (w:=w) iq).1;omega
  obtain⟨m1,m2⟩:=Gm (F:=F) (w:=w) iq (a8 len)
  have iL:pD F w (cM i.zero len) (madeCells z.cells (len*i.zero.length)):=⟨by rw[vZ,size_madeCells],m2⟩
  rw[oK,← hs]at iL
  obtain⟨eC,f1,f2⟩:=Gt (place:=fun k=>some (k*j.size,j.size)) (fun k p hk=>by
   obtain⟨a,ha,rfl⟩:=cg.1 hk
   simp[hs]) _ _ _ _ _ hl hr iL hf
  have af1:eC.size=len*j.size:=by
   have e1:∀(us:List (Nat×AV)) (xs out:List AV),rY ((List.range len).map fun j=>(j*i.size,i.size)) xs us=some out→out.length=xs.length:=by
    intro us
    induction us with
    |nil=>intro xs out h;simp[rY]at h;subst h;rfl
    |cons p us ih=>
     intro xs out h
     obtain⟨q,v⟩:=p
     simp only[rY]at h
     split at h
     ·split at h
      ·rw[ih _ _ h,zC]
      ·cases h
     ·cases h
   have:=e1 _ _ _ hf
   rw[vZ]at this
   have h3:=f2.1
   rw[oK,← hs]at this
   omega
  refine⟨eC,e,.slice (some ⟨w.heap.size,0,none⟩) len len,?_,by have:=f2.1;omega,f2.2,.ae _ _ _ _ _ _ ⟨eC,e,(0,0),wG _ _,a8 _,?_,.inl ⟨rfl,by rw[af1,hs];omega⟩⟩⟩
  ·by_cases h0:len*j.size=0
   ·have:eC = #[]:=E6.1 (by omega)
    subst this
    have f1':Instr.fill (fun k=>some (k*j.size,j.size)) #[] (parts.map fun (i,x)=>(i,η x)).toList=some #[]:=by
     have e0:madeCells z.cells (len*j.size) = #[]:=by rw[h0];simp[madeCells,Array.range_zero']
     rw[e0]at f1
     exact f1
    simp only[execOp,ho,Instr.buildSlice,Sem.run_bind,run_underlying hd,Result.andThen_ok,run_sizeOf hj,h0,if_true,Sem.run_pure,Nat.reducePow,if_false,nR,gt_iff_lt]
    rw[show ((Array.range 0).map fun x=>(#[]:Array Value)[x % (#[]:Array Value).size]!) = #[] by simp[Array.range_zero'],f1']
    rfl
   ·simp only[execOp,ho,Sem.run_bind,run_buildSlice w t e len _ eC j z hd hj hz (by rw[hs];omega) h0 f1]
    rfl
  ·have:len≤len*i.size:=Nat.le_mul_of_pos_right _ tz
   unfold maxLen;omega
theorem VR(ok:dE P TT){o:Oper}{t e:TypeId}{l c:Operand}(ho:o.op=.makeSlice t l c){ρ:Operand→AV}{σ:Hp}{K:AV→Hp→Prop}{it i:TI}(ht:TT t=some it)(ec:it.k=.slice e)(hi:TT e=some i){k k':IntKind}{n m:Int}(hl:ρ l=.int k n)(hc:ρ c=.int k' m)
  (h0:0≤n∧n≤m∧m≤1048576∧i.bytes≤1024) (hk:∀b,K (.ae b 0 n.toNat i.size) ((b,cM i.zero n.toNat)::σ)):kd P o ρ σ K:=
 Fx hk fun η F w hx=>by
  obtain⟨_,d,_,_,hd,_,_,jX,_,_⟩:=dp ok ht
  rw[ec]at jX
  obtain rfl:=j5 jX
  obtain⟨j,d',z,hj,kp,hs,⟨hb,oK⟩,_,hz,iq⟩:=dp ok hi
  have h1:=hx l (by simp[ho,Op.operands]);rw[hl]at h1
  have h2:=hx c (by simp[ho,Op.operands]);rw[hc]at h2
  obtain⟨m1,m2⟩:=Gm (F:=F) (w:=w) iq (show n.toNat≤m.toNat by omega)
  rw[oK,← hs]at m1 m2
  have sB:(j.bytes:Int)*m≤281474976710656:=by
   have:(j.bytes:Int)*m≤1024*1048576:=Int.mul_le_mul (by omega) (by omega) (by omega) (by omega)
   omega
  refine⟨madeCells z.cells (m.toNat*j.size),e,.slice (some ⟨w.heap.size,0,none⟩) n.toNat m.toNat,?_,m1,m2,.ae _ _ _ _ _ _ ⟨_,e,(0,0),wG _ _,by omega,by unfold maxLen;omega,.inl ⟨rfl,by rw[size_madeCells,hs];omega⟩⟩⟩
  simp only[execOp,ho,h1.gh,h2.gh,Sem.run_bind,run_make w t e j z hd hj hz k k' n m h0.1 h0.2.1 sB (by omega)]
  rfl
end
section
variable {P:Program} {TT:TypeId→Option TI} {F F':Nat→Prop} {w w':World}
theorem JU:∀(xs cs:List AV) (o k:Nat),o+xs.length≤cs.length→(ga cs o xs)[k]?=if o≤k∧k<o+xs.length then xs[k-o]? else cs[k]?
 | [],cs,o,k,_=>by rw[if_neg (by intro h;simp at h;omega)];rfl
 |x::xs,cs,o,k,h=>by
  simp only[iy]at h
  rw[ga,JU xs (cs.set o x) (o+1) k (by simp;omega)]
  simp only[iy]
  by_cases h1:o+1≤k∧k<o+1+xs.length
  ·rw[ah h1,ah (by omega),show k-o=(k-(o+1))+1 by omega];rfl
  ·rw[ag h1]
   by_cases h2:o=k
   ·subst h2
    rw[ah (by omega),pL,e8]
    simp;omega
   ·rw[ag (by omega),e8,ag h2]
theorem abS(c vs:List Value)(o k:Nat)(h:o+vs.length≤c.length):(c.take o++vs++c.drop (o+vs.length))[k]?=if o≤k∧k<o+vs.length then vs[k-o]? else c[k]?:=by
 have hl:(c.take o).length=o:=by simp;omega
 by_cases h1:k<o
 ·rw[ag (by omega),dQ,jY (by omega),qF,ah h1]
 ·by_cases h2:k<o+vs.length
  ·rw[ah (by omega),dQ,iX (by omega),hl,jY (by omega)]
  ·rw[if_neg (by omega),List.getElem?_append_right (by simp;omega),List.getElem?_drop]
   congr 1
   simp;omega
theorem V8{i:TI}{cs cs':List AV}{o:Nat}{v:AV}(h:kQ i cs o v=some cs'):∃vs,v.cells?=some vs∧vs.length=i.size∧o+i.size≤cs.length∧cs'=ga cs o vs:=by
 unfold kQ at h
 split at h
 ·rename_i vs hv
  split at h
  ·rename_i h1 h2
   exact⟨vs,hv,jK h1,cD h2,(Option.some.inj h).symm⟩
  ·cases h
 ·cases h
theorem Gn{c:Array Value}{cs xs:List AV}{vs:List Value}{o:Nat}(hc:∀(i:Nat) (x:AV),cs[i]?=some x→x.leaf=true∧aA F w x (c.getD i undef))(hx:xs.length=vs.length)(hv:∀(i:Nat) (x:AV),xs[i]?=some x→x.leaf=true∧aA F w x (vs.getD i undef))(ho:o+xs.length≤c.size)
  {out:List AV} (nO:out.length≤c.size) (H2:∀k y,out[k]?=some y→(if o≤k∧k<o+xs.length then xs[k-o]? else cs[k]?)=some y) :
  ∀(i:Nat) (x:AV),out[i]?=some x→x.leaf=true∧aA F w x ((c.toList.take o++vs++c.toList.drop (o+vs.length)).toArray.getD i undef):=by
 intro k y hk
 have h1:=H2 k y hk
 have ab:k<out.length:=(cg.1 hk).1
 have afN:=abS c.toList vs o k (by simp;omega)
 have Ey:k<c.size:=by omega
 have hlen:(c.toList.take o++vs++c.toList.drop (o+vs.length)).length=c.size:=by simp;omega
 have hgd:(c.toList.take o++vs++c.toList.drop (o+vs.length)).toArray.getD k undef=((c.toList.take o++vs++c.toList.drop (o+vs.length))[k]?).getD undef:=by
  have h2:k<(c.toList.take o++vs++c.toList.drop (o+vs.length)).toArray.size:=by rw[qE,hlen];exact Ey
  simp only[Array.getD,h2,dif_pos]
  rw[bF (by rw[hlen];exact Ey)]
  rfl
 rw[hgd,afN]
 split at h1
 ·rename_i dY
  rw[ah (by omega)]
  obtain⟨h2,h3⟩:=hv _ y h1
  exact⟨h2,by rw[bg]at h3;exact h3⟩
 ·rename_i dY
  rw[ag (by omega)]
  obtain⟨h2,h3⟩:=hc _ y h1
  refine⟨h2,?_⟩
  simpa [Array.getD,Ey]using h3
theorem Wn(ok:dE P TT){o:Oper}{t:TypeId}{p x:Operand}(ho:o.op=.store t p x){ρ:Operand→AV}{σ:Hp}{K:AV→Hp→Prop}{i:TI}(hi:TT t=some i){b off:Nat}(hp:ρ p=.ptr b off)(h:G1 i σ b off (ρ x) (fun σ'=>K .any σ')):kd P o ρ σ K:=by
 intro a F w hx aF next Q hn
 obtain⟨j,cs,cs',h1,h2,go⟩:=h
 obtain⟨vs,hv,IF,hle,rfl⟩:=V8 h2
 obtain⟨jt,d,z,hj,hd,hs,_⟩:=dp ok hi
 have a1:=hx p (by simp[ho,Op.operands]);rw[hp]at a1
 have a2:=hx x (by simp[ho,Op.operands])
 obtain⟨c1,c2⟩:=J6 a2 hv
 obtain⟨hF,c,T,hc,er,mm⟩:=(aF.holds _ (cq h1)).cells a1.zP
 have er:cs.length≤c.size:=er
 have ox:∀u∈(a.eval x).cells.toList,u.oneCell'=true:=by
  intro u hu
  obtain⟨k,hk⟩:=qG.1 hu
  have ab:k<(a.eval x).cells.size:=by have:=(List.getElem?_eq_some_iff.1 hk).1;simpa using this
  obtain⟨h3,h4⟩:=c2 k vs[k] (by simp)
  have:=h4.one h3
  simpa [Array.getD,ab,show (a.eval x).cells[k]=u by simpa [ab]using hk]using this
 have ao:=run_storeCells_at (P:=P) b off T (a.eval x).cells.toList 0 c w hc (by simp[c1];omega) ox
 have fH:(execOp a.eval o).run P w=.ok .skip (w.setRow b (c.toList.take off++(a.eval x).cells.toList++c.toList.drop (off+(a.eval x).cells.toList.length)).toArray):=by
  simp only[vO]at ao
  have eD:¬((a.eval x).cells.size≠jt.size):=by rw[c1,IF,hs];simp
  simp only[execOp,ho,a1.yK,Instr.storeAt,Instr.sureAddr,Sem.run_bind,Sem.run_pure,Result.andThen_ok,storeVar,run_sizeOf hj,ag eD,ao]
 unfold wq
 rw[fH]
 have hlen:(c.toList.take off++(a.eval x).cells.toList++c.toList.drop (off+(a.eval x).cells.toList.length)).length=c.size:=by simp;omega
 obtain⟨s1,s2⟩:=B6 aF h1 (cs':=ga cs off vs) hc (c':=(c.toList.take off++(a.eval x).cells.toList++c.toList.drop (off+(a.eval x).cells.toList.length)).toArray) (by simp only[qE];exact hlen) (by rw[zC];simp only[qE];omega)
  (Gn (xs:=vs) mm (by simp[c1]) (fun k y hk=>by
   have ab:k<(a.eval x).cells.size:=by rw[c1];exact (cg.1 hk).1
   have:=c2 k y hk
   simpa [Array.getD,List.getD,ab]using this) (by omega) (by rw[zC];omega) (fun k y hk=>by rw[JU _ _ _ _ (by omega)]at hk;exact hk))
  (fun k hk=>setRow_other w b k _ hk) (setRow_heap w b c _ T _ hc) rfl rfl rfl (by simp)
 exact hn undef .any _ F _ s1 s2 (.any _) go
theorem At.flat{α:Type}{f:α→List AV}{es:Nat}(hf:∀x,(f x).length=es){b:Nat}:∀(l:List α) (o:Nat),(∀i,(h:i<l.length)→At F w b (o+i*es) (f l[i]))→At F w b o (l.flatMap f)
 | [],o,_=>fun i x h=>by simp at h
 |y::l,o,h=>by
  have h0:=h 0 (by simp)
  have ih:=At.flat hf l (o+es) (fun i hi=>by
   have:=h (i+1) (by simpa using hi)
   rw[qC,show o+(i*es+es)=o+es+i*es by omega]at this
   simpa using this)
  intro i x hx
  rw[zr]at hx
  by_cases hi:i<es
  ·rw[jY (by rw[hf];exact hi)]at hx
   have:=h0 i x (by simpa using hx)
   simpa using this
  ·rw[iX (by rw[hf];omega),hf]at hx
   have:=ih (i-es) x hx
   rw[show o+es+(i-es)=o+i by omega]at this
   exact this
theorem v8{α:Type}{f:α→List AV}{es:Nat}(hf:∀x,(f x).length=es):∀(l:List α),(l.flatMap f).length=l.length*es
 | []=>by simp
 |y::l=>by rw[zr,bP,hf,v8 hf l,iy,qC];omega
theorem CR{b o:Nat}{cs:List AV}(h:At F w b o cs):∃news:List Value,news.length=cs.length∧(∀j u,news[j]?=some u→w.cell? ⟨b,o+j,none⟩=some u)∧(∀(i:Nat) (x:AV),cs[i]?=some x→x.leaf=true∧aA F w x (news.getD i undef))∧∀u∈news,u.oneCell'=true:=by
 have hc:∀m,m<cs.length→∃v,w.cell? ⟨b,o+m,none⟩=some v∧v.oneCell'=true:=by
  intro m hm
  obtain⟨h1,v,h2,h3⟩:=h m cs[m] (by simp[hm])
  exact⟨v,h2,h3.one h1⟩
 refine⟨(List.range cs.length).map fun m=>(w.cell? ⟨b,o+m,none⟩).getD undef,by simp,fun j u hj=>?_,fun i x hx=>?_,fun u hu=>?_⟩
 ·have ab:j<cs.length:=by have:=(List.getElem?_eq_some_iff.1 hj).1;simpa using this
  obtain⟨v,h2,_⟩:=hc j ab
  simp[ab,h2]at hj
  rw[h2,hj]
 ·have ab:i<cs.length:=(cg.1 hx).1
  obtain⟨h1,v,h2,h3⟩:=h i x hx
  refine⟨h1,?_⟩
  simpa [List.getD,ab,h2]using h3
 ·obtain⟨m,hm,rfl⟩:=dP.1 hu
  obtain⟨v,h2,h3⟩:=hc m (gm.1 hm)
  rw[h2]
  exact h3
theorem B4{σ:Hp}{es n:Nat}{x:AV}{new:List AV}(h:kc σ es x n new)(aF:bA F w σ){v:Value}(hv:aA F w x v){tx e':TypeId}(hk:P.underlying tx=some (.slice e')):
  ∃news:List Value,Src P es tx v n news w∧new.length=news.length∧∀(i:Nat) (x:AV),new[i]?=some x→x.leaf=true∧aA F w x (news.getD i undef):=by
 have empty:∀(a:Option Addr) (c:Nat),Src P es tx (.slice a 0 c) 0 [] w:=by
  intro a c
  cases a with
  |none=>exact Src.ofNil w hk c
  |some a=>exact Src.ofSlice w hk a 0 c [] (by simp) (fun j u h=>by simp at h) (fun _ h=>by cases h)
 cases h with
 |aj=>cases hv;exact⟨[],empty _ _,rfl,fun i x h=>by simp at h⟩
 |kB=>cases hv;exact⟨[],empty _ _,rfl,fun i x h=>by simp at h⟩
 |ia=>cases hv;exact⟨[],empty _ _,rfl,fun i x h=>by simp at h⟩
 |af s l hs=>
  obtain⟨a,c,rfl,h1,h2,h3⟩:=hv.DV
  by_cases aS:l=[]
  ·subst aS
   exact⟨[],empty _ _,rfl,fun i x h=>by simp at h⟩
  ·obtain⟨b,o,rfl,hF,hr⟩:=h3 aS
   have cx:At F w b o (l.flatMap s.cells):=At.flat (es:=s.size) (fun d=>Sh.sP s d) l o (fun i hi=>by
    obtain⟨cs',q1,q2,q3⟩:=hr i hi
    exact At.SY s q2 q3)
   obtain⟨news,n1,n2,n3,n4⟩:=CR cx
   have hl:=v8 (fun d=>Sh.sP s d) l
   exact⟨news,Src.ofSlice w hk _ _ c news (by rw[n1,hl,hs]) (fun j u hj=>by rw[o0];exact n2 j u hj) n4,n1.symm,n3⟩
 |ae j b off len cs h1 h2=>
  obtain⟨a,cap,rfl,c,T,fz,m1,m2,m3,m4⟩:=hv.kY
  have cx:At F w b off ((cs.drop off).take (n*es)):=by
   have:=(aF.at_ h1 ⟨c,T,fz,m1⟩).drop off
   rw[ef]at this
   intro i x hx
   rw[qF]at hx
   split at hx
   ·exact this i x hx
   ·cases hx
  have hl:((cs.drop off).take (n*es)).length=n*es:=by simp;omega
  obtain⟨news,n1,n2,n3,n4⟩:=CR cx
  rcases m4 with ⟨rfl,_⟩ | ⟨q1,q2,rfl,rfl⟩
  ·exact⟨news,Src.ofSlice w hk _ _ cap news (by rw[n1,hl]) (fun j u hj=>by rw[o0];exact n2 j u hj) n4,n1.symm,n3⟩
  ·have h0:(List.take (0*es) (List.drop off cs))=[]:=by simp
   rw[h0]
   exact⟨[],empty _ _,rfl,fun i x h=>by simp at h⟩
theorem sO{η:Operand→Value}{o:Oper}{s x:Operand}{t t':TypeId}(ho:o.op=.call ⟨.builtin .append,#[s,x],#[t,t']⟩){v:Value}{w w':World}(h:(Builtin.append_ #[t,t'] o.type #[η s,η x]).run P w=.ok v w'):(execOp η o).run P w=.ok (.value v) w':=by
 rw[sS _ _ _ o ho]
 simp[builtin,h]
theorem Xj(z:Array Value)(n:Nat):(Builtin.zeroCells z n).size=n*z.size:=by simp[Builtin.zeroCells]
theorem F8{σ:Hp}(aF:bA F w σ){e:TypeId}{i:TI}{z:Value}{olds news:List Value}{co cn:List AV}{len n cap:Nat}(ho:co.length=olds.length)(hn:cn.length=news.length)(hor:∀(i:Nat) (x:AV),co[i]?=some x→x.leaf=true∧aA F w x (olds.getD i undef))(hnr:∀(i:Nat) (x:AV),cn[i]?=some x→x.leaf=true∧aA F w x (news.getD i undef))
  (pG:olds.length=len*i.size) (NB:news.length=n*i.size) (jF:z.cells.size=i.size) (mn:len+n≤cap) (nP:cap≤maxLen) :
  let w2:=w.drew.alloc (.cells ((olds++news).toArray++Builtin.zeroCells z.cells (cap-(len+n))) e)
  bJ F w F w2∧bA F w2 ((w.heap.size,co++cn)::σ)∧aA F w2 (.ae w.heap.size 0 (len+n) i.size) (.slice (some ⟨w.heap.size,0,none⟩) (len+n) cap):=by
 intro w2
 have eD:((olds++news).toArray++Builtin.zeroCells z.cells (cap-(len+n))).size=cap*i.size:=by
  simp only[Array.size_append,qE,bP,Xj,jF,pG,NB]
  rw[← qB,← qB]
  congr 1
  omega
 obtain⟨h1,h2⟩:=Pd aF (c:=(olds++news).toArray++Builtin.zeroCells z.cells (cap-(len+n))) (T:=e) (cs:=co++cn) (by simp;omega) (fun k x hx=>by
  have ab:k<(co++cn).length:=(cg.1 hx).1
  have dX:k<(olds++news).length:=by simp at ab ⊢;omega
  have e1:((olds++news).toArray++Builtin.zeroCells z.cells (cap-(len+n))).getD k undef=(olds++news).getD k undef:=by
   rw[Array.getD_eq_getD_getElem?,Array.getElem?_append_left (by simpa using dX),List.getD_eq_getElem?_getD,List.getElem?_toArray]
  rw[e1]
  by_cases hk:k<co.length
  ·rw[jY hk]at hx
   rw[bg,jY (by omega),← bg]
   exact hor k x hx
  ·rw[iX (by omega)]at hx
   rw[bg,iX (by omega),← bg,← ho]
   exact hnr _ x hx) (w0:=w.drew) (.inr rfl)
 refine⟨h1,h2,.ae _ _ _ _ _ _ ⟨_,e,(0,0),?_,mn,nP,.inl ⟨rfl,by rw[eD];omega⟩⟩⟩
 exact wG w.drew _
theorem Fp(ok:dE P TT){o:Oper}{s x:Operand}{t t' e e':TypeId}(ho:o.op=.call ⟨.builtin .append,#[s,x],#[t,t']⟩){ρ:Operand→AV}{σ:Hp}{K:AV→Hp→Prop}{it sl i:TI}(ht:TT t=some it)(hk:it.k=.slice e)(nI:TT t'=some sl)(ec:sl.k=.slice e')(hi:TT e=some i)
  (h:G2 i σ (ρ s) (ρ x) K):kd P o ρ σ K:=by
 intro a F w hx aF next Q cQ
 obtain⟨_,d,_,_,hd,_,_,jX,_,_⟩:=dp ok ht
 rw[hk]at jX
 obtain rfl:=j5 jX
 obtain⟨_,d',_,_,kp,_,_,xe,_,_⟩:=dp ok nI
 rw[ec]at xe
 obtain rfl:=j5 xe
 obtain⟨j,dj,z,hj,NK,hs,⟨hb,oK⟩,_,hz,iq⟩:=dp ok hi
 have jF:z.cells.size=i.size:=by have:=(wx (F:=F) (w:=w) iq).1;omega
 have a1:=hx s (by simp[ho,Op.operands,Call.operands])
 have a2:=hx x (by simp[ho,Op.operands,Call.operands])
 have fits:∀{len n:Nat},len+n≤1048576→i.bytes≤1024→(len+n)*j.bytes≤140737488355328:=by
  intro len n h1 h2
  rw[hb]
  have:(len+n)*i.bytes≤1048576*1024:=tS h1 h2
  omega
 cases h with
 |fresh n new iu uU hn zi h0 go same=>
  obtain⟨news,src,q1,q2⟩:=B4 (P:=P) uU aF a2 kp
  rw[← hs]at src
  obtain⟨ad,hv⟩:∃ad,a.eval s=.slice ad 0 0:=by
   rcases iu with iu | iu
   ·rw[iu]at a1;revert a1;generalize a.eval s=u;intro a1;cases a1;exact⟨none,rfl⟩
   ·rw[iu]at a1;revert a1;generalize a.eval s=u;intro a1;cases a1;exact⟨_,rfl⟩
  by_cases fY:n=0
  ·subst fY
   have uM:news=[]:=List.length_eq_zero_iff.1 (by rw[src.newsLen];simp)
   subst uM
   have hr:=sO (η:=a.eval) ho (by rw[hv];exact run_append_nothing w t t' o.type e j hd hj ad 0 0 (a8 _) _ src)
   unfold wq
   rw[hr]
   exact cQ _ _ σ F w (.refl _ _) aF (by rw[← hv];exact a1) (same rfl)
  ·have hold:(Builtin.firstCells j.size 0 (.slice ad 0 0)).run P w.drew=.ok #[] w.drew:=by
    cases ad with
    |none=>exact run_firstCells_none w.drew _ _ _ _
    |some ad=>exact run_firstCells_some w.drew j.size 0 ad 0 0 [] (by simp) (fun j u h=>by simp at h)
   have yC:=run_append_grow_src (P:=P) w t t' o.type e j z hd hj hz ad 0 0 [] hold _ n news src (by omega) (by omega) (growslice_fits (by omega) (fits (by omega) zi))
   have au:=grownCap_ge w (0+n) 0 e
   have vJ:=grownCap_le_maxLen w (0+n) 0 e (by unfold maxLen;omega)
   obtain⟨g1,g2,g3⟩:=F8 aF (e:=e) (i:=i) (z:=z) (olds:=[]) (co:=[]) (news:=news) (cn:=new) (len:=0) (n:=n) (cap:=grownCap w (0+n) 0 e) rfl q1 (fun i x h=>by simp at h) q2 (by simp) (by rw[src.newsLen,hs]) jF au vJ
   have hr:=sO (η:=a.eval) ho (by rw[hv];exact yC)
   unfold wq
   rw[hr]
   have:=go fY w.heap.size
   rw[show n=0+n from (ef n).symm]at this
   exact cQ _ _ _ F _ g1 g2 g3 this
 |more jj b len n cs new oN sA er uU hn zi h0 go=>
  obtain⟨news,src,q1,q2⟩:=B4 (P:=P) uU aF a2 kp
  rw[oN]at a1
  obtain⟨ad,cap,hv,c,T,fz,m1,m2,m3,m4⟩:=a1.kY
  obtain⟨hF,c',T',ju,DR,H4⟩:=(aF.holds _ (cq sA)).cells ⟨c,T,fz,m1⟩
  have DR:cs.length≤c'.size:=DR
  have NO:c=c'∧T=T'∧fz=(0,0):=by
   rw[ju]at m1;cases m1;exact⟨rfl,rfl,rfl⟩
  obtain⟨rfl,rfl,rfl⟩:=NO
  have ab:jj<σ.length:=(cg.1 sA).1
  have tO:(cs.take (len*i.size)).length=len*i.size:=by simp;omega
  have ML:∀(k:Nat) (x:AV),(cs.take (len*i.size))[k]?=some x→x.leaf=true∧aA F w x (c.getD k undef):=by
   intro k x hx
   rw[qF]at hx
   split at hx
   ·exact H4 k x hx
   ·cases hx
  have mb:bA F w (σ.eraseIdx jj):=aF.sub (List.eraseIdx_sublist _ _)
  by_cases oa:len+n≤cap
  ·rcases m4 with ⟨rfl,pz⟩ | ⟨tP,sE,iv,iL⟩
   ·rw[ef]at pz
    have hmul:(len+n)*i.size≤cap*i.size:=lY _ oa
    rw[qB]at hmul
    have mj:news.length=n*i.size:=src.newsLen
    have ao:=run_storeCells_at (P:=P) b (len*i.size) T news 0 c w ju (by omega) src.one
    simp only[vO]at ao
    rw[← hs]at src
    have DT:(Builtin.append_ #[t,t'] o.type #[.slice (some ⟨b,0,none⟩) len cap,a.eval x]).run P w=.ok (.slice (some ⟨b,0,none⟩) (len+n) cap) (w.setRow b (c.toList.take (len*i.size)++news++c.toList.drop (len*i.size+news.length)).toArray):=by
     rw[← hs]at ao ⊢
     simp[Builtin.append_,run_underlying hd,run_underlying kp,sizeOf,typeInfo,hj,src.len,oa,src.cells,Addr.add_lit,ao]
    have hr:=sO (η:=a.eval) ho (by rw[hv];exact DT)
    have hlen:(c.toList.take (len*i.size)++news++c.toList.drop (len*i.size+news.length)).length=c.size:=by simp;omega
    obtain⟨s1,s2⟩:=B6 aF sA (cs':=cs.take (len*i.size)++new) ju (c':=(c.toList.take (len*i.size)++news++c.toList.drop (len*i.size+news.length)).toArray) (by simp only[qE];exact hlen) (by rw[qE,hlen,bP,tO,q1];omega)
     (Gn (cs:=cs.take (len*i.size)) (xs:=new) (fun k y hk=>ML k y hk) q1 q2 (by omega) (by simp only[bP,tO,q1];omega) (fun k y hk=>by
      by_cases mQ:k<len*i.size
      ·rw[ag (by omega)]
       rw[jY (by omega)]at hk
       exact hk
      ·rw[iX (by omega),tO]at hk
       have:=(cg.1 hk).1
       rw[ah (by omega)]
       exact hk))
     (fun k hk=>setRow_other w b k _ hk) (setRow_heap w b c _ T _ ju) rfl rfl rfl (by simp)
    unfold wq
    rw[hr]
    refine cQ _ _ _ F _ s1 (s2.perm ?_) ?_ (go b)
    ·have:=xO (σ.set jj (b,cs.take (len*i.size)++new)) jj (b,cs.take (len*i.size)++new) (by simp[ab])
     rw[Oh]at this
     exact this
    ·exact .ae _ _ _ _ _ _ ⟨_,T,(0,0),setRow_heap w b c _ T _ ju,by omega,m3,.inl ⟨rfl,by simp only[qE];rw[hlen];omega⟩⟩
   ·subst iv;subst iL
    obtain rfl:n=0:=by omega
    have uM:news=[]:=List.length_eq_zero_iff.1 (by rw[src.newsLen];simp)
    subst uM
    rw[← hs]at src
    have ik:new=[]:=List.length_eq_zero_iff.1 (by simpa using q1)
    subst ik
    have hr:=sO (η:=a.eval) ho (by rw[hv];exact run_append_nothing w t t' o.type e j hd hj (some ad) 0 0 (a8 _) _ src)
    unfold wq
    rw[hr]
    have ob:bA F w ((b,cs)::σ.eraseIdx jj):=aF.perm (xO σ jj (b,cs) sA)
    have g0:K (.ae b 0 0 i.size) ((b,[])::σ.eraseIdx jj):=by simpa using go b
    refine cQ _ _ ((b,[])::σ.eraseIdx jj) F w (.refl _ _) ⟨ob.nodup,fun p hp=>?_,ob.low⟩ (.ae b 0 0 i.size ad 0 ⟨c,T,(0,0),ju,a8 _,by unfold maxLen;omega,.inr ⟨tP,sE,rfl,rfl⟩⟩) g0
    rcases eF.1 hp with rfl | hp
    ·exact⟨hF,.inl ⟨c,T,ju,by simp,fun i x h=>by simp at h⟩⟩
    ·exact ob.holds p (cW _ hp)
  ·obtain⟨olds,o1,o2,o3⟩:∃olds:List Value,olds.length=len*i.size∧(Builtin.firstCells i.size len (.slice (some ad) len cap)).run P w.drew=.ok olds.toArray w.drew∧∀(k:Nat) (x:AV),(cs.take (len*i.size))[k]?=some x→x.leaf=true∧aA F w x (olds.getD k undef):=by
    rcases m4 with ⟨rfl,pz⟩ | ⟨tP,sE,rfl,rfl⟩
    ·have cx:At F w b 0 (cs.take (len*i.size)):=by
      have:=aF.at_ sA ⟨_,_,_,ju⟩
      intro k x hx
      rw[qF]at hx
      split at hx
      ·exact this k x hx
      ·cases hx
     obtain⟨olds,n1,n2,n3,n4⟩:=CR cx
     refine⟨olds,by rw[n1,tO],run_firstCells_some w.drew i.size len _ len cap olds (by rw[n1,tO]) (fun k u hk=>?_),n3⟩
     rw[o0]
     exact n2 k u hk
    ·exact⟨[],by simp,run_firstCells_some w.drew i.size 0 ad 0 0 [] (by simp) (fun j u h=>by simp at h),fun k x h=>by simp at h⟩
   have mj:news.length=n*i.size:=src.newsLen
   rw[← hs]at src
   have yC:=run_append_grow_src (P:=P) w t t' o.type e j z hd hj hz (some ad) len cap olds (by rw[hs];exact o2) _ n news src (by omega) (by omega) (growslice_fits (by omega) (fits (by omega) zi))
   have au:=grownCap_ge w (len+n) cap e
   have vJ:=grownCap_le_maxLen w (len+n) cap e (by unfold maxLen;omega)
   obtain⟨g1,g2,g3⟩:=F8 mb (e:=e) (i:=i) (z:=z) (olds:=olds) (co:=cs.take (len*i.size)) (news:=news) (cn:=new) (len:=len) (n:=n) (cap:=grownCap w (len+n) cap e) (by rw[tO,o1]) q1 o3 q2 o1 mj jF au vJ
   have hr:=sO (η:=a.eval) ho (by rw[hv];exact yC)
   unfold wq
   rw[hr]
   exact cQ _ _ _ F _ g1 g2 g3 (go w.heap.size)
 |Ax jj b off len n cs new oN sA er uU hn zi h0 xh go=>
  obtain⟨news,src,q1,q2⟩:=B4 (P:=P) uU aF a2 kp
  rw[oN]at a1
  obtain⟨ad,cap,hv,c,T,fz,m1,m2,m3,m4⟩:=a1.kY
  obtain⟨hF,c',T',ju,DR,H4⟩:=(aF.holds _ (cq sA)).cells ⟨c,T,fz,m1⟩
  have DR:cs.length≤c'.size:=DR
  have NO:c=c'∧T=T'∧fz=(0,0):=by
   rw[ju]at m1;cases m1;exact⟨rfl,rfl,rfl⟩
  obtain⟨rfl,rfl,rfl⟩:=NO
  have ab:jj<σ.length:=(cg.1 sA).1
  have tO:(cs.take (off+len*i.size)).length=off+len*i.size:=by simp;omega
  have MM:((cs.drop off).take (len*i.size)).length=len*i.size:=by simp;omega
  have ML:∀(k:Nat) (x:AV),(cs.take (off+len*i.size))[k]?=some x→x.leaf=true∧aA F w x (c.getD k undef):=by
   intro k x hx
   rw[qF]at hx
   split at hx
   ·exact H4 k x hx
   ·cases hx
  have mb:bA F w (σ.eraseIdx jj):=aF.sub (List.eraseIdx_sublist _ _)
  by_cases oa:len+n≤cap
  ·rcases m4 with ⟨rfl,pz⟩ | ⟨tP,sE,iv,iL⟩
   ·have pz:off+cap*i.size≤c.size:=pz
    have hmul:(len+n)*i.size≤cap*i.size:=lY _ oa
    rw[qB]at hmul
    have mj:news.length=n*i.size:=src.newsLen
    have ao:=run_storeCells_at (P:=P) b (off+len*i.size) T news 0 c w ju (by omega) src.one
    simp only[vO]at ao
    rw[← hs]at src
    have DT:(Builtin.append_ #[t,t'] o.type #[.slice (some ⟨b,off,none⟩) len cap,a.eval x]).run P w=.ok (.slice (some ⟨b,off,none⟩) (len+n) cap) (w.setRow b (c.toList.take (off+len*i.size)++news++c.toList.drop (off+len*i.size+news.length)).toArray):=by
     rw[← hs]at ao ⊢
     simp[Builtin.append_,run_underlying hd,run_underlying kp,sizeOf,typeInfo,hj,src.len,oa,src.cells,Addr.add_lit,ao]
    have hr:=sO (η:=a.eval) ho (by rw[hv];exact DT)
    have hlen:(c.toList.take (off+len*i.size)++news++c.toList.drop (off+len*i.size+news.length)).length=c.size:=by simp;omega
    obtain⟨s1,s2⟩:=B6 aF sA (cs':=cs.take (off+len*i.size)++new) ju (c':=(c.toList.take (off+len*i.size)++news++c.toList.drop (off+len*i.size+news.length)).toArray) (by simp only[qE];exact hlen) (by rw[qE,hlen,bP,tO,q1];omega)
     (Gn (cs:=cs.take (off+len*i.size)) (xs:=new) (fun k y hk=>ML k y hk) q1 q2 (by omega) (by simp only[bP,tO,q1];omega) (fun k y hk=>by
      by_cases mQ:k<off+len*i.size
      ·rw[ag (by omega)]
       rw[jY (by omega)]at hk
       exact hk
      ·rw[iX (by omega),tO]at hk
       have:=(cg.1 hk).1
       rw[ah (by omega)]
       exact hk))
     (fun k hk=>setRow_other w b k _ hk) (setRow_heap w b c _ T _ ju) rfl rfl rfl (by simp)
    unfold wq
    rw[hr]
    refine cQ _ _ _ F _ s1 (s2.perm ?_) ?_ xh
    ·have:=xO (σ.set jj (b,cs.take (off+len*i.size)++new)) jj (b,cs.take (off+len*i.size)++new) (by simp[ab])
     rw[Oh]at this
     exact this
    ·exact .ae _ _ _ _ _ _ ⟨_,T,(0,0),setRow_heap w b c _ T _ ju,by omega,m3,.inl ⟨rfl,by simp only[qE];rw[hlen];omega⟩⟩
   ·subst iv;subst iL
    obtain rfl:n=0:=by omega
    have uM:news=[]:=List.length_eq_zero_iff.1 (by rw[src.newsLen];simp)
    subst uM
    rw[← hs]at src
    have ik:new=[]:=List.length_eq_zero_iff.1 (by simpa using q1)
    subst ik
    have hr:=sO (η:=a.eval) ho (by rw[hv];exact run_append_nothing w t t' o.type e j hd hj (some ad) 0 0 (a8 _) _ src)
    unfold wq
    rw[hr]
    have ob:bA F w ((b,cs)::σ.eraseIdx jj):=aF.perm (xO σ jj (b,cs) sA)
    have g0:K (.ae b off 0 i.size) ((b,cs.take off)::σ.eraseIdx jj):=by simpa using xh
    refine cQ _ _ ((b,cs.take off)::σ.eraseIdx jj) F w (.refl _ _) ⟨ob.nodup,fun p hp=>?_,ob.low⟩ (.ae b off 0 i.size ad 0 ⟨c,T,(0,0),ju,a8 _,by unfold maxLen;omega,.inr ⟨tP,sE,rfl,rfl⟩⟩) g0
    rcases eF.1 hp with rfl | hp
    ·exact⟨hF,.inl ⟨c,T,ju,by simp only[zq];omega,fun k x h=>by
      rw[qF]at h
      split at h
      ·exact H4 k x h
      ·cases h⟩⟩
    ·exact ob.holds p (cW _ hp)
  ·obtain⟨olds,o1,o2,o3⟩:∃olds:List Value,olds.length=len*i.size∧(Builtin.firstCells i.size len (.slice (some ad) len cap)).run P w.drew=.ok olds.toArray w.drew∧∀(k:Nat) (x:AV),((cs.drop off).take (len*i.size))[k]?=some x→x.leaf=true∧aA F w x (olds.getD k undef):=by
    rcases m4 with ⟨rfl,pz⟩ | ⟨tP,sE,rfl,rfl⟩
    ·have cx:At F w b off ((cs.drop off).take (len*i.size)):=by
      have:=aF.at_ sA ⟨_,_,_,ju⟩
      intro k x hx
      rw[qF]at hx
      split at hx
      ·rw[zt]at hx
       have h5:=this (off+k) x hx
       simpa only [ef]using h5
      ·cases hx
     obtain⟨olds,n1,n2,n3,n4⟩:=CR cx
     refine⟨olds,by rw[n1,MM],run_firstCells_some w.drew i.size len _ len cap olds (by rw[n1,MM]) (fun k u hk=>?_),n3⟩
     rw[o0]
     exact n2 k u hk
    ·exact⟨[],by simp,run_firstCells_some w.drew i.size 0 ad 0 0 [] (by simp) (fun j u h=>by simp at h),fun k x h=>by simp at h⟩
   have mj:news.length=n*i.size:=src.newsLen
   rw[← hs]at src
   have yC:=run_append_grow_src (P:=P) w t t' o.type e j z hd hj hz (some ad) len cap olds (by rw[hs];exact o2) _ n news src (by omega) (by omega) (growslice_fits (by omega) (fits (by omega) zi))
   have au:=grownCap_ge w (len+n) cap e
   have vJ:=grownCap_le_maxLen w (len+n) cap e (by unfold maxLen;omega)
   obtain⟨g1,g2,g3⟩:=F8 mb (e:=e) (i:=i) (z:=z) (olds:=olds) (co:=(cs.drop off).take (len*i.size)) (news:=news) (cn:=new) (len:=len) (n:=n) (cap:=grownCap w (len+n) cap e) (by rw[MM,o1]) q1 o3 q2 o1 mj jF au vJ
   have hr:=sO (η:=a.eval) ho (by rw[hv];exact yC)
   unfold wq
   rw[hr]
   exact cQ _ _ _ F _ g1 g2 g3 (go w.heap.size)
theorem VO(w:World)(t t' ty e:TypeId)(k:IntKind)(i:TypeInfo)(z:Value)(hd:P.underlying t=some (.slice e))(kp:P.underlying t'=some (.int k))(hi:P.info? e=some i)(hz:i.zero=some z)(k':IntKind)(m:Nat)(h0:0<m)(hm:m≤1048576)(hb:m*i.bytes≤140737488355328)(hs:0<i.size):
  (Builtin.append_ #[t,t'] ty #[.slice none 0 0,.int k' (m:Int)]).run P w=.ok (.slice (some ⟨w.heap.size,0,none⟩) m (grownCap w m 0 e)) (w.drew.alloc (.cells (([]++(Builtin.zeroCells z.cells m).toList).toArray++Builtin.zeroCells z.cells (grownCap w m 0 e-m)) e)):=by
 have hw:IntKind.i64.wrap (m:Int)=m:=by rw[IntKind.wrap_i64];omega
 have h1:¬((m:Int)<0):=by omega
 have h2:¬((281474976710656:Int)<(m:Int)*(i.bytes:Int)):=by
  have:((m*i.bytes:Nat):Int)≤140737488355328:=by omega
  rw[EX]at this;omega
 have h3:¬(9223372036854775807<(m:Int)):=by omega
 have h4:¬(281474976710656<Builtin.nextslicecap m 0*i.bytes):=by rw[nextslicecap_zero h0];omega
 have h5:m≠0:=by omega
 have h6:i.size≠0:=by omega
 simp[Builtin.append_,run_underlying hd,run_underlying kp,sizeOf,typeInfo,zeroValue,hi,hz,asInt,asIntOf,hw,h1,h2,h3,h4,h5,Question.forced,run_firstCells_none,newRow,grownCap]
 intro h7
 exact absurd h7 (Nat.mul_ne_zero h5 h6)
theorem V7(ok:dE P TT){o:Oper}{s x:Operand}{t t' e:TypeId}{k:IntKind}(ho:o.op=.call ⟨.builtin .append,#[s,x],#[t,t']⟩){ρ:Operand→AV}{σ:Hp}{K:AV→Hp→Prop}{it sl i:TI}(ht:TT t=some it)(hk:it.k=.slice e)(nI:TT t'=some sl)(ec:sl.k=.int k)(hi:TT e=some i)
  (h:CU i σ (ρ s) (ρ x) K):kd P o ρ σ K:=by
 intro a F w hx aF next Q cQ
 obtain⟨_,d,_,_,hd,_,_,jX,_,_⟩:=dp ok ht
 rw[hk]at jX
 obtain rfl:=j5 jX
 obtain⟨_,d',_,_,kp,_,_,xe,_,_⟩:=dp ok nI
 rw[ec]at xe
 obtain rfl:=fits_int xe
 obtain⟨j,dj,z,hj,NK,hs,⟨hb,oK⟩,_,hz,iq⟩:=dp ok hi
 have jF:z.cells.size=i.size:=by have:=(wx (F:=F) (w:=w) iq).1;omega
 have a1:=hx s (by simp[ho,Op.operands,Call.operands])
 have a2:=hx x (by simp[ho,Op.operands,Call.operands])
 cases h with
 |aj k2 n iu Ei hn zi h0 go same=>
  rw[iu]at a1
  rw[Ei]at a2
  have e1:a.eval s=.slice none 0 0:=by revert a1;generalize a.eval s=u;intro a1;cases a1;rfl
  have e2:a.eval x=.int k2 n:=a2.gh
  by_cases fY:n=0
  ·subst fY
   have DT:(Builtin.append_ #[t,t'] o.type #[.slice none 0 0,.int k2 0]).run P w=.ok (.slice none 0 0) w:=by
    have hw:IntKind.i64.wrap 0=0:=by decide
    simp[Builtin.append_,run_underlying hd,run_underlying kp,sizeOf,typeInfo,hj,asInt,asIntOf,hw]
   have hr:=sO (η:=a.eval) ho (by rw[e1,e2];exact DT)
   unfold wq
   rw[hr]
   exact cQ _ _ σ F w (.refl _ _) aF .aj (same rfl)
  ·obtain⟨m,rfl⟩:∃m:Nat,n=m:=⟨n.toNat,by omega⟩
   have IS:0<m:=by omega
   have hmul:m*j.bytes≤140737488355328:=by
    rw[hb]
    have:m*i.bytes≤1048576*1024:=tS (by omega) zi
    omega
   have yC:=VO (P:=P) w t t' o.type e k j z hd kp hj hz k2 m IS (by omega) hmul (by omega)
   have au:=grownCap_ge w m 0 e
   have vJ:=grownCap_le_maxLen w m 0 e (by unfold maxLen;omega)
   obtain⟨r1,r2⟩:=Gm (F:=F) (w:=w) iq (a8 m)
   have lH:(madeCells z.cells (m*i.zero.length))=Builtin.zeroCells z.cells m:=by
    unfold madeCells Builtin.zeroCells
    rw[jF,oK]
   have eD:(Builtin.zeroCells z.cells m).size=m*i.zero.length:=by rw[← lH,size_madeCells]
   obtain⟨g1,g2,g3⟩:=F8 aF (e:=e) (i:=i) (z:=z) (olds:=[]) (co:=[]) (news:=(Builtin.zeroCells z.cells m).toList) (cn:=cM i.zero m) (len:=0) (n:=m) (cap:=grownCap w m 0 e) rfl (by rw[vZ,Array.length_toList,eD]) (fun i x h=>by simp at h) (fun k y hk=>by
    have:=r2 k y hk
    rw[lH]at this
    rw[bg,BF,← jL]
    exact this) (by simp) (by rw[Array.length_toList,eD,oK]) jF (by rw[Nat.zero_add];exact au) vJ
   rw[ef]at g1 g2 g3
   have hr:=sO (η:=a.eval) ho (by rw[e1,e2];exact yC)
   unfold wq
   rw[hr]
   exact cQ _ _ _ F _ g1 g2 g3 (go (by omega) w.heap.size)
theorem Wh(ok:dE P TT){o:Oper}{s x:Operand}{t t' e e':TypeId}(ho:o.op=.call ⟨.builtin .append,#[s,x],#[t,t']⟩){ρ:Operand→AV}{σ:Hp}{K:AV→Hp→Prop}{it sl i:TI}(ht:TT t=some it)(hk:it.k=.slice e)(nI:TT t'=some sl)(ec:sl.k=.slice e')(hi:TT e=some i)
  (h:AppendAt i σ (ρ s) (ρ x) K):kd P o ρ σ K:=by
 cases h with
 |fresh n new hs hx hn hb h0 go same=>exact Fp ok ho ht hk nI ec hi (.fresh n new hs hx hn hb h0 go same)
 |more j b len n cs new hs h1 h2 hx hn hb h0 go=>exact Fp ok ho ht hk nI ec hi (.more j b len n cs new hs h1 h2 hx hn hb h0 go)
 |Ax j b off len n cs new hs h1 h2 hx hn hb h0 xh go=>exact Fp ok ho ht hk nI ec hi (.Ax j b off len n cs new hs h1 h2 hx hn hb h0 xh go)
 |perm K2 hp h dX=>
  have:=Fp ok ho ht hk nI ec hi h
  intro a F w hx aF next Q hn
  refine this a F w hx (aF.perm hp) next Q (fun v av σ' F' w' h1 h2 h3 h4=>?_)
  obtain⟨yY,p,k | ⟨hl,k⟩⟩:=dX av σ' h4
  ·exact hn v av yY F' w' h1 (h2.perm p) h3 k
  ·exact hn v _ yY F' w' h1 (h2.perm p) (.via _ _ hl h3) k
end
section
variable {P:Program} {TT:TypeId→Option TI} {F:Nat→Prop} {w:World}
theorem Kq{σ:Hp}(aF:bA F w σ){j b off:Nat}{cs:List AV}(h1:σ[j]?=some (b,cs))(NP:n5 w b)(xs:List AV)(news:List Value)(hl:xs.length=news.length)(hle:off+xs.length≤cs.length)(hv:∀(k:Nat) (y:AV),xs[k]?=some y→y.leaf=true∧aA F w y (news.getD k undef)):
  ∃w',(storeCells ⟨b,off,none⟩ news).run P w=.ok () w'∧bJ F w F w'∧bA F w' (σ.set j (b,ga cs off xs)):=by
 obtain⟨hF,c,T,hc,er,mm⟩:=(aF.holds _ (cq h1)).cells NP
 have er:cs.length≤c.size:=er
 have ox:∀u∈news,u.oneCell'=true:=by
  intro u hu
  obtain⟨k,hk⟩:=qG.1 hu
  have ab:k<news.length:=(cg.1 hk).1
  obtain⟨h3,h4⟩:=hv k (xs[k]'(by omega)) (by simp)
  have:=h4.one h3
  rwa [bg,hk]at this
 have ao:=run_storeCells_at (P:=P) b off T news 0 c w hc (by omega) ox
 simp only[vO]at ao
 have hlen:(c.toList.take off++news++c.toList.drop (off+news.length)).length=c.size:=by simp;omega
 obtain⟨s1,s2⟩:=B6 aF h1 (cs':=ga cs off xs) hc (c':=(c.toList.take off++news++c.toList.drop (off+news.length)).toArray) (by simp only[qE];exact hlen) (by rw[zC];simp only[qE];omega)
  (Gn (xs:=xs) mm hl hv (by omega) (by rw[zC];omega) (fun k y hk=>by rw[JU _ _ _ _ (by omega)]at hk;exact hk))
  (fun k hk=>setRow_other w b k _ hk) (setRow_heap w b c _ T _ hc) rfl rfl rfl (by simp)
 exact⟨_,ao,s1,s2⟩
theorem O1{η:Operand→Value}{o:Oper}{s:Operand}{t:TypeId}(ho:o.op=.call ⟨.builtin .clear,#[s],#[t]⟩){v:Value}{w w':World}(h:(Builtin.clear_ #[t] o.type #[η s]).run P w=.ok v w'):(execOp η o).run P w=.ok (.value v) w':=by
 rw[sS _ _ _ o ho]
 simp[builtin,h]
theorem BR{η:Operand→Value}{o:Oper}{d x:Operand}{t t':TypeId}(ho:o.op=.call ⟨.builtin .copy,#[d,x],#[t,t']⟩){v:Value}{w w':World}(h:(Builtin.copy_ #[t,t'] o.type #[η d,η x]).run P w=.ok v w'):(execOp η o).run P w=.ok (.value v) w':=by
 rw[sS _ _ _ o ho]
 simp[builtin,h]
theorem KA{σ:Hp}{j:Nat}{p:Nat×List AV}(h:σ[j]?=some p):σ.set j p=σ:=by
 obtain⟨h1,h2⟩:=cg.1 h
 subst h2
 exact List.set_getElem_self h1
theorem W4(ok:dE P TT){o:Oper}{s:Operand}{t e:TypeId}(ho:o.op=.call ⟨.builtin .clear,#[s],#[t]⟩){ρ:Operand→AV}{σ:Hp}{K:AV→Hp→Prop}{it i:TI}(ht:TT t=some it)(hk:it.k=.slice e)(hi:TT e=some i)(h:TG i σ (ρ s) (fun σ'=>K (.tup []) σ')):kd P o ρ σ K:=by
 intro a F w hx aF next Q cQ
 obtain⟨_,d,_,_,hd,_,_,jX,_,_⟩:=dp ok ht
 rw[hk]at jX
 obtain rfl:=j5 jX
 obtain⟨j,dj,z,hj,NK,hs,⟨hb,oK⟩,_,hz,iq⟩:=dp ok hi
 have a1:=hx s (by simp[ho,Op.operands,Call.operands])
 have e0:∀(ad:Option Addr) (c:Nat),(Builtin.clear_ #[t] o.type #[.slice ad 0 c]).run P w=.ok (.tuple #[]) w:=fun ad c=>by
  cases ad <;> simp[Builtin.clear_,run_underlying hd]
 have done:∀(ad:Option Addr) (c:Nat),a.eval s=.slice ad 0 c→K (.tup []) σ→wq P o a w next Q:=fun ad c hv hK=>by
  unfold wq
  rw[O1 (η:=a.eval) ho (by rw[hv];exact e0 ad c)]
  exact cQ (.tuple #[]) _ σ F w (.refl _ _) aF (.tup _ _ rfl (fun i x h=>by simp at h)) hK
 cases h with
 |none hs go=>
  rcases hs with hs | hs | hs
  ·rw[hs]at a1;generalize hv:a.eval s=v at a1;cases a1;exact done _ _ hv go
  ·rw[hs]at a1;generalize hv:a.eval s=v at a1;cases a1;exact done _ _ hv go
  ·rw[hs]at a1;generalize hv:a.eval s=v at a1;cases a1;exact done _ _ hv go
 |ae j' b off len cs oN h1 h2 go=>
  rw[oN]at a1
  obtain⟨ad,cap,hv,c,T,fz,m1,m2,m3,m4⟩:=a1.kY
  by_cases iv:len=0
  ·subst iv
   refine done _ _ hv ?_
   have e:ga cs off (cM i.zero 0)=cs:=rfl
   rw[e,KA h1]at go
   exact go
  ·obtain⟨rfl,_⟩:ad=⟨b,off,none⟩∧off+cap*i.size≤c.size:=by
    rcases m4 with h | ⟨_,_,h,_⟩
    ·exact h
    ·exact absurd h iv
   obtain⟨r1,r2⟩:=Gm (F:=F) (w:=w) iq (a8 len)
   have afF:z.cells.size=i.zero.length:=((wx (F:=F) (w:=w) iq).1).symm
   have lH:(madeCells z.cells (len*i.zero.length))=Builtin.zeroCells z.cells len:=by
    unfold madeCells Builtin.zeroCells
    rw[afF]
   have eD:(Builtin.zeroCells z.cells len).size=len*i.zero.length:=by rw[← lH,size_madeCells]
   obtain⟨w',k1,k2,k3⟩:=Kq (P:=P) aF h1 (off:=off) ⟨_,_,_,m1⟩ (cM i.zero len) (Builtin.zeroCells z.cells len).toList (by rw[vZ,go2,eD]) (by rw[vZ,oK];exact h2) (fun k y hk=>by
    have:=r2 k y hk
    rw[lH]at this
    refine⟨this.1,?_⟩
    rw[bg,BF,← jL]
    exact this.2)
   obtain⟨len,rfl⟩:∃m,len=m+1:=⟨len-1,by omega⟩
   have fH:(Builtin.clear_ #[t] o.type #[.slice (some ⟨b,off,none⟩) (len+1) cap]).run P w=.ok (.tuple #[]) w':=by
    simp[Builtin.clear_,run_underlying hd,zeroValue,typeInfo,hj,hz,k1]
   unfold wq
   rw[O1 (η:=a.eval) ho (by rw[hv];exact fH)]
   exact cQ (.tuple #[]) _ _ F w' k2 k3 (.tup _ _ rfl (fun i x h=>by simp at h)) go
theorem XU(ok:dE P TT){o:Oper}{d x:Operand}{t t' e e':TypeId}(ho:o.op=.call ⟨.builtin .copy,#[d,x],#[t,t']⟩){ρ:Operand→AV}{σ:Hp}{K:AV→Hp→Prop}{it sl i:TI}(ht:TT t=some it)(hk:it.k=.slice e)(nI:TT t'=some sl)(ec:sl.k=.slice e')(hi:TT e=some i)
  (h:L1 i σ (ρ d) (ρ x) K):kd P o ρ σ K:=by
 intro a F w hx aF next Q cQ
 obtain⟨_,dd,_,_,hd,_,_,jX,_,_⟩:=dp ok ht
 rw[hk]at jX
 obtain rfl:=j5 jX
 obtain⟨_,d',_,_,kp,_,_,xe,_,_⟩:=dp ok nI
 rw[ec]at xe
 obtain rfl:=j5 xe
 obtain⟨j,dj,z,hj,NK,hs,_⟩:=dp ok hi
 have a1:=hx d (by simp[ho,Op.operands,Call.operands])
 have a2:=hx x (by simp[ho,Op.operands,Call.operands])
 cases h with
 |none new oO uU go=>
  obtain⟨news,src,q1,q2⟩:=B4 (P:=P) uU aF a2 kp
  have uM:news=[]:=List.length_eq_zero_iff.1 (by rw[src.newsLen];simp)
  subst uM
  rw[← hs]at src
  obtain⟨ad,c,hv⟩:∃ad c,a.eval d=.slice ad 0 c:=by
   rcases oO with oO | oO | oO
   ·rw[oO]at a1;generalize a.eval d=v at a1;cases a1;exact⟨_,_,rfl⟩
   ·rw[oO]at a1;generalize a.eval d=v at a1;cases a1;exact⟨_,_,rfl⟩
   ·rw[oO]at a1;generalize a.eval d=v at a1;cases a1;exact⟨_,_,rfl⟩
  have fH:(Builtin.copy_ #[t,t'] o.type #[.slice ad 0 c,a.eval x]).run P w=.ok (goInt 0) w:=by
   cases ad <;> simp[Builtin.copy_,run_underlying hd,src.len,sizeOf,typeInfo,hj,src.cells,storeCells]
  unfold wq
  rw[BR (η:=a.eval) ho (by rw[hv];exact fH)]
  exact cQ _ _ σ F w (.refl _ _) aF (.int _ _) go
 |ae jj b off len n cs new NJ h1 h2 uU hn go=>
  obtain⟨news,src,q1,q2⟩:=B4 (P:=P) uU aF a2 kp
  rw[NJ]at a1
  obtain⟨ad,cap,hv,c,T,fz,m1,m2,m3,m4⟩:=a1.kY
  have mj:news.length=n*i.size:=src.newsLen
  have hmul:n*i.size≤len*i.size:=lY _ hn
  rw[← hs]at src
  by_cases iv:len=0
  ·obtain rfl:n=0:=by omega
   have uM:news=[]:=List.length_eq_zero_iff.1 (by rw[mj];simp)
   subst uM
   have ik:new=[]:=List.length_eq_zero_iff.1 (by simpa using q1)
   subst ik
   subst iv
   have fH:(Builtin.copy_ #[t,t'] o.type #[.slice (some ad) 0 cap,a.eval x]).run P w=.ok (goInt 0) w:=by
    simp[Builtin.copy_,run_underlying hd,src.len,sizeOf,typeInfo,hj,src.cells,storeCells]
   unfold wq
   rw[BR (η:=a.eval) ho (by rw[hv];exact fH)]
   have e:ga cs off ([]:List AV)=cs:=rfl
   rw[e,KA h1]at go
   exact cQ _ _ σ F w (.refl _ _) aF (.int _ _) go
  ·obtain⟨rfl,_⟩:ad=⟨b,off,none⟩∧off+cap*i.size≤c.size:=by
    rcases m4 with h | ⟨_,_,h,_⟩
    ·exact h
    ·exact absurd h iv
   obtain⟨w',k1,k2,k3⟩:=Kq (P:=P) aF h1 (off:=off) ⟨_,_,_,m1⟩ new news q1 (by omega) q2
   have fH:(Builtin.copy_ #[t,t'] o.type #[.slice (some ⟨b,off,none⟩) len cap,a.eval x]).run P w=.ok (goInt n) w':=by
    simp[Builtin.copy_,run_underlying hd,src.len,sizeOf,typeInfo,hj,Nat.min_eq_left hn,src.cells,k1]
   unfold wq
   rw[BR (η:=a.eval) ho (by rw[hv];exact fH)]
   exact cQ _ _ _ F w' k2 k3 (.int _ _) go
 |part jj b off len cs NJ h1 h2 j2 b2 ny n kJ hxm h3 h4 hn go=>
  rw[NJ]at a1
  rw[hxm]at a2
  obtain⟨ad,cap,hv,c,T,fz,m1,m2,m3,m4⟩:=a1.kY
  obtain⟨a3,yV,hv3,c3,T3,JD,p1,p2,p3,p4⟩:=a2.kY
  have hmul:len*i.size≤n*i.size:=lY _ hn
  by_cases iv:len=0
  ·subst iv
   have hc:(Builtin.firstCells i.size 0 (.slice (some a3) n yV)).run P w=.ok (([]:List Value).toArray) w:=run_firstCells_some w i.size 0 a3 n yV [] (by simp) (fun j u h=>by simp at h)
   rw[← hs]at hc
   have fH:(Builtin.copy_ #[t,t'] o.type #[.slice (some ad) 0 cap,.slice (some a3) n yV]).run P w=.ok (goInt 0) w:=by
    simp[Builtin.copy_,run_underlying hd,sizeOf,typeInfo,hj,Builtin.lenOf,hc,storeCells]
   unfold wq
   rw[BR (η:=a.eval) ho (by rw[hv,hv3];exact fH)]
   have e:ga cs off ((kJ.drop ny).take (0*i.size))=cs:=by rw[xG];rfl
   rw[e,KA h1]at go
   exact cQ _ _ σ F w (.refl _ _) aF (.int _ _) go
  ·obtain⟨rfl,_⟩:ad=⟨b,off,none⟩∧off+cap*i.size≤c.size:=by
    rcases m4 with h | ⟨_,_,h,_⟩
    ·exact h
    ·exact absurd h iv
   obtain⟨rfl,_⟩:a3=⟨b2,ny,none⟩∧ny+yV*i.size≤c3.size:=by
    rcases p4 with h | ⟨_,_,h,_⟩
    ·exact h
    ·omega
   have cx:At F w b2 ny ((kJ.drop ny).take (len*i.size)):=by
    have:=(aF.at_ h3 ⟨c3,T3,JD,p1⟩).drop ny
    rw[ef]at this
    intro i x hx
    rw[qF]at hx
    split at hx
    ·exact this i x hx
    ·cases hx
   have hl:((kJ.drop ny).take (len*i.size)).length=len*i.size:=by simp;omega
   obtain⟨news,n1,n2,n3,n4⟩:=CR cx
   have hc:(Builtin.firstCells i.size len (.slice (some ⟨b2,ny,none⟩) n yV)).run P w=.ok news.toArray w:=run_firstCells_some w i.size len _ n yV news (by rw[n1,hl]) (fun j u hj=>by rw[o0];exact n2 j u hj)
   rw[← hs]at hc
   obtain⟨w',k1,k2,k3⟩:=Kq (P:=P) aF h1 (off:=off) ⟨_,_,_,m1⟩ ((kJ.drop ny).take (len*i.size)) news n1.symm (by rw[hl];exact h2) n3
   have fH:(Builtin.copy_ #[t,t'] o.type #[.slice (some ⟨b,off,none⟩) len cap,.slice (some ⟨b2,ny,none⟩) n yV]).run P w=.ok (goInt len) w':=by
    simp[Builtin.copy_,run_underlying hd,sizeOf,typeInfo,hj,Builtin.lenOf,Nat.min_eq_right hn,hc,k1]
   unfold wq
   rw[BR (η:=a.eval) ho (by rw[hv,hv3];exact fH)]
   exact cQ _ _ _ F w' k2 k3 (.int _ _) go
end
section
variable {P:Program} {TT:TypeId→Option TI}
theorem VT{F:Nat→Prop}{w:World}:∀(s:Sh) (d:s.T) (vs:List Value),vs.length=s.size→(∀(k:Nat) (x:AV),(s.cells d)[k]?=some x→aA F w x (vs.getD k undef))→kV F w s vs d:=by
 intro s
 induction s with
 |int k=>intro d vs hl h;match vs,hl with | [v],_=>have:=(h 0 _ rfl).gh;exact congrArg (fun x=>[x]) this
 |bool=>intro d vs hl h;match vs,hl with | [v],_=>have:=(h 0 _ rfl).qZ;exact congrArg (fun x=>[x]) this
 |str=>intro d vs hl h;match vs,hl with | [v],_=>have:=(h 0 _ rfl).Dv;exact congrArg (fun x=>[x]) this
 |nil=>intro d vs hl h;exact jv.1 hl
 |slice e ih=>
  intro d vs hl h
  match vs,hl with
  | [v],_=>
   have:=h 0 _ rfl
   cases this with
   |af _ _ _ h=>exact h
 |field f r qt jV=>
  intro d vs hl h
  simp only[Sh.size]at hl
  refine⟨vs.take f.size,vs.drop f.size,(List.take_append_drop _ _).symm,by simp;omega,qt d.1 _ (by simp;omega) (fun k x hk=>?_),jV d.2 _ (by simp;omega) (fun k x hk=>?_)⟩
  ·have mQ:k<f.size:=by rw[← Sh.sP f d.1];exact (cg.1 hk).1
   have:=h k x (by show (f.cells d.1++r.cells d.2)[k]?=some x;rw[jY (by rw[Sh.sP];exact mQ)];exact hk)
   rw[bg]at this ⊢
   rw[qF,ah mQ]
   exact this
  ·have:=h (f.size+k) x (by show (f.cells d.1++r.cells d.2)[f.size+k]?=some x;rw[iX (by rw[Sh.sP];omega),Sh.sP,Ju];exact hk)
   rw[bg]at this ⊢
   rw[zt]
   exact this
theorem flat_get{α:Type}{f:α→List AV}{es:Nat}(hf:∀x,(f x).length=es):∀(l:List α) (i:Nat) (h:i<l.length) (k:Nat),k<es→(l.flatMap f)[i*es+k]?=(f l[i])[k]?
 | [],i,h,_,_=>by simp at h
 |y::l,0,h,k,hk=>by rw[List.flatMap_cons,List.getElem?_append_left (by rw[hf];omega)];simp
 |y::l,i+1,h,k,hk=>by
  rw[zr,iX (by rw[hf,qC];omega),hf,show (i+1)*es+k-es=i*es+k by rw[qC];omega]
  simpa using flat_get hf l i (by simpa using h) k hk
theorem aaD{F:Nat→Prop}{w:World}{σ:Hp}(aF:bA F w σ){j b off len es:Nat}{cs:List AV}{e:Sh}{l:List e.T}(h1:σ[j]?=some (b,cs))(h2:(cs.drop off).take (len*es)=l.flatMap e.cells)(h3:l.length=len∧e.size=es∧0<es){v:Value}(hv:aA F w (.ae b off len es) v):
  aA (fun x=>F x∨x=b) w (.af e l) v:=by
 obtain⟨hl,he,tz⟩:=h3
 have ao:bJ F w (fun x=>F x∨x=b) w:=⟨rfl,rfl,rfl,a8 _,fun _ h=>.inl h,fun _ _=>rfl,fun _ c _ fz h=>⟨c,fz,h,rfl⟩,a8 _⟩
 obtain⟨a,cap,rfl,c,T,fz,m1,m2,m3,m4⟩:=hv.kY
 subst hl
 refine .af e l _ ⟨some a,cap,rfl,m2,m3,(fun e=>by cases e),fun aS=>?_⟩
 have sy:0<l.length:=mW.2 aS
 rcases m4 with ⟨rfl,pz⟩ | ⟨_,_,h0,_⟩
 ·refine⟨b,off,rfl,⟨.inr rfl,c,T,fz,m1⟩,fun i hi=>?_⟩
  have cx:At F w b off ((cs.drop off).take (l.length*es)):=by
   have:=(aF.at_ h1 ⟨c,T,fz,m1⟩).drop off
   rw[ef]at this
   intro i x hx
   rw[qF]at hx
   split at hx
   ·exact this i x hx
   ·cases hx
  rw[h2]at cx
  have lH:∀k,k<es→∃x v,(e.cells l[i])[k]?=some x∧w.cell? ⟨b,off+i*es+k,none⟩=some v∧aA F w x v:=by
   intro k hk
   have hlen:k<(e.cells l[i]).length:=by rw[Sh.sP,he];exact hk
   have hx:=bF hlen
   have:=flat_get (f:=e.cells) (es:=es) (fun d=>by rw[Sh.sP,he]) l i hi k hk
   obtain⟨_,v,h4,h5⟩:=cx (i*es+k) _ (this.trans hx)
   exact⟨_,v,hx,by rw[← h4,E4],h5⟩
  refine⟨(List.range es).map fun k=>(w.cell? ⟨b,off+i*es+k,none⟩).getD undef,by simp[he],fun k u hk=>?_,VT e l[i] _ (by simp[he]) (fun k x hk=>?_)⟩
  ·have Ew:k<es:=by have:=(List.getElem?_eq_some_iff.1 hk).1;simpa using this
   obtain⟨x,v,_,h4,_⟩:=lH k Ew
   simp[Ew,h4]at hk
   rw[he,h4,hk]
  ·have Ew:k<es:=by have:=(cg.1 hk).1;rw[Sh.sP,he]at this;exact this
   obtain⟨x',v,h3,h4,h5⟩:=lH k Ew
   rw[h3]at hk
   cases hk
   have:aA F w x v:=h5
   simpa [List.getD,Ew,h4]using this.mono ao
 ·omega
theorem xR{F F':Nat→Prop}{w:World}{b off len es:Nat}{e:Sh}{l:List e.T}(ao:bJ F w F' w)(hh:∀v,aA F w (.ae b off len es) v→aA F' w (.af e l) v){r r':AV}(h:eI b off len es e l r r'):∀v,aA F w r v→aA F' w r' v:=by
 induction h with
 |here=>exact hh
 |refl x=>exact fun v h=>h.mono ao
 |tup xs ys h hi ih=>
  intro v hv
  cases hv with
  |tup _ vs hs hr=>
   refine .tup _ _ (by rw[← h];exact hs) (fun i y hy=>?_)
   have qz:i<xs.length:=by rw[h];exact (cg.1 hy).1
   exact ih i xs[i] y (bF qz) hy _ (hr i _ (bF qz))
 |agg xs ys h hl hi ih=>
  intro v hv
  obtain⟨vs,rfl,hs,hr⟩:=hv.u0
  refine .agg _ _ (by rw[← h];exact hs) hl (fun i y hy=>?_)
  have qz:i<xs.length:=by rw[h];exact (cg.1 hy).1
  exact ih i xs[i] y (bF qz) hy _ (hr i _ (bF qz)).2
 |nil e'=>
  intro v hv
  cases hv
  exact .af e' [] _ ⟨none,0,rfl,a8 _,by unfold maxLen;omega,fun _=>rfl,fun aS=>absurd rfl aS⟩
 |ia e'=>
  intro v hv
  cases hv with
  |ia a c h=>exact .af e' [] _ ⟨some a,c,rfl,bD _,h,(fun e=>by cases e),fun aS=>absurd rfl aS⟩
 |via h ih=>
  intro v hv
  cases hv with
  |via _ _ _ hv=>exact ih v hv
theorem uF{F:Nat→Prop}{w:World}{σ:Hp}(aF:bA F w σ){j b off len es:Nat}{cs:List AV}{e:Sh}{l:List e.T}(h1:σ[j]?=some (b,cs))(h2:(cs.drop off).take (len*es)=l.flatMap e.cells)(h3:l.length=len∧e.size=es∧0<es):
  bJ F w (fun x=>F x∨x=b) w∧bA (fun x=>F x∨x=b) w (σ.eraseIdx j)∧∀v,aA F w (.ae b off len es) v→aA (fun x=>F x∨x=b) w (.af e l) v:=by
 have ao:bJ F w (fun x=>F x∨x=b) w:=⟨rfl,rfl,rfl,a8 _,fun _ h=>.inl h,fun _ _=>rfl,fun _ c _ fz h=>⟨c,fz,h,rfl⟩,a8 _⟩
 have ob:bA F w ((b,cs)::σ.eraseIdx j):=aF.perm (xO σ j (b,cs) h1)
 have ca:=ob.nodup
 simp only[oR,mr]at ca
 have ot:bA (fun x=>F x∨x=b) w (σ.eraseIdx j):=⟨ca.2,fun p hp=>(ob.holds p (cW _ hp)).mono ao rfl (fun hF=>by
  rcases hF with hF | hF
  ·exact (ob.holds p (cW _ hp)).1 hF
  ·exact ca.1 (dP.2 ⟨p,hp,hF⟩)),fun x hx=>by
  rcases hx with hx | hx
  ·exact aF.low x hx
  ·subst hx;exact (ob.holds (x,cs) (ck ..)).lt⟩
 exact⟨ao,ot,fun v hv=>aaD aF h1 h2 h3 hv⟩
end
section
variable {P:Program} {TT:TypeId→Option TI}
theorem JR{F:Nat→Prop}{w:World}{xs:Array Operand}{ρ:Operand→AV}{η:Operand→Value}(h:∀x∈xs.toList,aA F w (ρ x) (η x)):jf F w (xs.toList.map ρ) (xs.map η):=by
 refine⟨by simp,fun i x hi=>?_⟩
 simp only[fo,xJ]at hi
 obtain⟨a,h1,rfl⟩:=hi
 have ab:i<xs.size:=by have:=(List.getElem?_eq_some_iff.1 h1).1;simpa using this
 have:xs[i]=a:=by simpa [ab]using h1
 simpa [Array.getD,ab,this]using h a (List.mem_of_getElem? h1)
theorem Fq{F:Nat→Prop}{w:World}{xs ys:List AV}{us vs:Array Value}(h:jf F w xs us)(k:jf F w ys vs):jf F w (xs++ys) (us++vs):=by
 refine⟨by simp[h.1,k.1],fun i x hi=>?_⟩
 rw[jL]
 by_cases ab:i<xs.length
 ·rw[jY ab]at hi
  rw[Oy (by rw[← h.1];exact ab),← jL]
  exact h.2 i x hi
 ·rw[iX (by omega)]at hi
  rw[Array.getElem?_append_right (by rw[← h.1];omega),← jL,← h.1]
  exact k.2 _ x hi
theorem Qm{F:Nat→Prop}{w:World}{x:AV}{v:Value}(h:aA F w x v):jf F w [x] #[v]:=⟨rfl,fun i y hi=>by cases i <;> simp at hi;subst hi;exact h⟩
theorem Fw{o:Oper}{ρ:Operand→AV}{σ:Hp}{K:AV→Hp→Prop}(h:kd P o (fun x=>bQ (ρ x)) σ K):kd P o ρ σ K:=fun a F w hx=>h a F w (fun x hm=>(hx x hm).bQ)
theorem O8{o:Oper}{c:Call}(ho:o.op=.call c){ρ:Operand→AV}{K:FuncId→List AV→Prop}{KY:Nat→List AV→Prop}(h:pX P c ρ K KY):
  (∃l xs,KY l xs∧∀(η:Operand→Value) (F:Nat→Prop) (w:World),(∀x∈o.op.operands.toList,aA F w (ρ x) (η x))→∃vs,jf F w xs vs∧execOp η o=Instr.yield l vs)∨∃f xs,K f xs∧∀(η:Operand→Value) (F:Nat→Prop) (w:World),(∀x∈o.op.operands.toList,aA F w (ρ x) (η x))→∃vs,jf F w xs vs∧(Enters P f→(execOp η o).run P w=.ok (.enter f vs) w):=by
 unfold pX at h
 split at h
 ·rename_i f0 hc
  split at h
  ·rename_i g first cap hf
   refine .inr ⟨g,_,h,fun η F w hx=>?_⟩
   have h1:=hx f0 (by simp[ho,Op.operands,Call.operands,hc])
   rw[hf]at h1
   have h2:=JR (xs:=c.args) (ρ:=fun x=>bQ (ρ x)) (η:=η) (F:=F) (w:=w) (fun x hm=>(hx x (by simp only[ho,Op.operands,Call.operands,hc,BI,bV];exact .inr hm)).bQ)
   cases hv:η f0 with
   |func f' v1 v2=>
    rw[hv]at h1
    obtain⟨rfl,r1,r2⟩:f'=.func g∧jf F w first v1∧jf F w cap v2:=by cases h1 with | fn _ _ _ _ _ fv hG h1 h2=>exact⟨rfl,⟨fv,h1⟩,⟨hG,h2⟩⟩
    refine⟨v1++c.args.map η++v2,Fq (Fq r1 h2) r2,fun he=>?_⟩
    simp only[execOp,ho,resolve,hc,Deferred.ofValue,hv,Sem.run_bind,Sem.run_pure,Result.andThen_ok,invoke]
    exact he _ _
   |_=>rw[hv]at h1;cases h1
  ·rename_i l hf
   refine .inl ⟨l,_,h,fun η F w hx=>?_⟩
   have h1:=hx f0 (by simp[ho,Op.operands,Call.operands,hc])
   rw[hf]at h1
   have h2:=JR (xs:=c.args) (ρ:=fun x=>bQ (ρ x)) (η:=η) (F:=F) (w:=w) (fun x hm=>(hx x (by simp only[ho,Op.operands,Call.operands,hc,BI,bV];exact .inr hm)).bQ)
   cases hv:η f0 with
   |func f' v1 v2=>
    rw[hv]at h1
    obtain⟨rfl,r1,r2⟩:f'=.yield l∧v1 = #[]∧v2 = #[]:=by cases h1 with | fn _ _ _ _ _ fv hG h1 h2=>exact⟨rfl,E6.1 fv.symm,E6.1 hG.symm⟩
    subst r1 r2
    refine⟨c.args.map η,h2,?_⟩
    simp only[execOp,ho,resolve,hc,Deferred.ofValue,hv,pure_bind,invoke]
    simp
   |_=>rw[hv]at h1;cases h1
  ·exact h.elim
 ·rename_i r m hc
  have fin:∀(t:TypeId) (v:AV),ρ r=.iface t v→(∀F w u,aA F w v u→∃ad,u=.pointer (some ad))→InvAt P t m (fun g=>K g (v::c.args.toList.map fun x=>bQ (ρ x)))→
    ∃f xs,K f xs∧∀(η:Operand→Value) (F:Nat→Prop) (w:World),(∀x∈o.op.operands.toList,aA F w (ρ x) (η x))→∃vs,jf F w xs vs∧(Enters P f→(execOp η o).run P w=.ok (.enter f vs) w):=by
   rintro t v hr hp ⟨g,hm,go⟩
   refine⟨g,_,go,fun η F w hx=>?_⟩
   have h1:=hx r (by simp[ho,Op.operands,Call.operands,hc])
   rw[hr]at h1
   have h2:=JR (xs:=c.args) (ρ:=fun x=>bQ (ρ x)) (η:=η) (F:=F) (w:=w) (fun x hm=>(hx x (by simp only[ho,Op.operands,Call.operands,hc,BI,bV];exact .inr hm)).bQ)
   cases hv:η r with
   |iface t' u=>
    rw[hv]at h1
    obtain⟨rfl,hu⟩:t'=t∧aA F w v u:=by cases h1 with | iface _ _ _ h=>exact⟨rfl,h⟩
    obtain⟨ad,rfl⟩:=hp F w u hu
    refine⟨#[.pointer (some ad)]++c.args.map η,(show jf F w ([v]++c.args.toList.map fun x=>bQ (ρ x)) _ from Fq (Qm hu) h2),fun he=>?_⟩
    have hex:(#[η r]++c.args.map η).extract 1 (#[η r]++c.args.map η).size=c.args.map η:=by
     apply Array.ext'
     simp
     exact List.take_of_length_le (by simp)
    have h0:(#[η r]++c.args.map η)[0]?=some (η r):=by rw[Array.getElem?_append_left (by simp)];rfl
    have hinv:invoke (.fn (.method m) #[]) (#[η r]++c.args.map η)=callMethod (η r) m (c.args.map η):=by
     unfold invoke
     simp only[h0]
     exact congrArg (callMethod (η r) m) hex
    have vJ:(callMethod (η r) m (c.args.map η)).run P w=.ok (.enter g (#[.pointer (some ad)]++c.args.map η)) w:=by
     rw[hv]
     unfold callMethod
     have aR:=hm ad w
     simp only[Sem.run_bind,run_program,Result.andThen_ok,aR]
     exact he _ _
    simp only[execOp,ho,resolve,hc,Sem.run_bind,Sem.run_pure,Result.andThen_ok,hinv,vJ]
   |_=>rw[hv]at h1;cases h1
  split at h
  ·rename_i t b o' hr
   exact .inr <| fin t _ hr (fun F w u hu=>⟨_,hu.yK⟩) h
  ·rename_i t cs hr
   exact .inr <| fin t _ hr (fun F w u hu=>by obtain⟨b,o',e,_⟩:=hu.yh;exact⟨_,e⟩) h
  ·exact h.elim
 ·exact h.elim
theorem Cu{F F':Nat→Prop}{w:World}{σ:Hp}(aF:bA F' w σ){b off len es:Nat}{e:Sh}{l:List e.T}(hh:∀v,aA F w (.ae b off len es) v→aA F' w (.af e l) v){i k b':Nat}{cs:List AV}(hi:σ[i]?=some (b',cs))(hk:cs[k]?=some (.ae b off len es)):bA F' w (σ.set i (b',cs.set k (.af e l))):=by
 have ab:i<σ.length:=(cg.1 hi).1
 have Dg:(σ.set i (b',cs.set k (.af e l))).map Prod.fst=σ.map Prod.fst:=by
  rw[oS]
  apply zo
  intro n
  rw[e8]
  split
  ·rename_i e;subst e
   have:=(cg.1 hi).2
   simp[ab,this]
  ·rfl
 refine⟨Dg▸aF.nodup,fun p hm=>?_,aF.low⟩
 rcases qH hm with hm | rfl
 ·exact aF.holds p hm
 ·obtain⟨hF,c,T,h1,h2,h3⟩:=(aF.holds _ (cq hi)).Ma hk rfl
  refine⟨hF,.inl ⟨c,T,h1,by simpa using h2,fun n x hn=>?_⟩⟩
  rw[e8]at hn
  split at hn
  ·rename_i e;subst e
   split at hn
   ·cases hn
    refine⟨rfl,hh _ ?_⟩
    have:=(h3 k _ hk).2
    revert this
    generalize c.getD k undef=v
    intro this
    cases this with
    |ae _ _ _ _ a cap h=>exact .ae _ _ _ _ a cap h
   ·cases hn
  ·exact h3 n x hn
theorem x5{f:FuncId}{xs:List AV}{σ:Hp}{K:AV→Hp→Prop}(h:CallAt P f K xs σ):ACalls P f xs σ K:=by
 induction h with
 |mk js R call go=>
  obtain⟨oy,gR⟩:=call
  refine⟨oy,fun F w vs bS aF=>(gR F w vs bS (aF.perm (xY js _))).mono ?_⟩
  rintro e w' ⟨r,v,σ',F',rfl,h1,h2,h3,h4⟩
  exact⟨r,v,σ',F',rfl,h1,h2,h3,go r σ' h4⟩
 |perm R hp call go=>
  obtain⟨oy,gR⟩:=call
  refine⟨oy,fun F w vs bS aF=>(gR F w vs bS (aF.perm hp)).mono ?_⟩
  rintro e w' ⟨r,v,σ',F',rfl,h1,h2,h3,h4⟩
  obtain⟨eb,k1,k2⟩:=go r σ' h4
  exact⟨r,v,eb,F',rfl,h1,h2.perm k1,h3,k2⟩
 |kz j b off len es cs e l h1 h2 h3 i k b' cs' hi hk h ih=>
  obtain⟨oy,gR⟩:=ih
  refine⟨oy,fun F w vs bS aF =>?_⟩
  obtain⟨ao,ot,hh⟩:=uF aF h1 h2 h3
  refine (gR _ w vs (bS.mono ao) (Cu ot hh hi hk)).mono ?_
  rintro e w' ⟨r,v,σ',F',rfl,q1,q2,q3,q4⟩
  exact⟨r,v,σ',F',rfl,ao.trans q1,q2,q3,q4⟩
 |cJ j b off len es cs e l h1 h2 h3 h4 h ih=>
  obtain⟨oy,gR⟩:=ih
  refine⟨oy,fun F w vs bS aF =>?_⟩
  obtain⟨ao,ot,hh⟩:=uF aF h1 h2 h3
  have hv:=xR ao hh h4 (.tuple vs) (.tup _ _ bS.1 bS.2)
  cases hv with
  |tup _ _ hs hr=>
   refine (gR _ w vs ⟨hs,hr⟩ ot).mono ?_
   rintro e w' ⟨r,v,σ',F',rfl,h1,h2,h3,h4⟩
   exact⟨r,v,σ',F',rfl,ao.trans h1,h2,h3,h4⟩
theorem Wg{o:Oper}{c:Call}(ho:o.op=.call c){ρ:Operand→AV}{σ:Hp}{K:AV→Hp→Prop}(h:pX P c ρ (fun f xs=>CallAt P f K xs σ) (fun l xs=>wQ P l K xs σ)):kd P o ρ σ K:=by
 rcases O8 ho h with ⟨l,xs,hc,fH⟩ | ⟨f,xs,hc,fH⟩
 ·intro a F w hx aF next Q hn
  obtain⟨vs,bS,hr⟩:=fH a.eval F w hx
  unfold wq
  rw[hr]
  cases hc with
  |mk js R call go=>
   obtain⟨f,tmps,assign,body,h1,h2⟩:=call F w vs bS (aF.perm (xY js σ))
   rw[h1]
   refine RoundIn.mono h2 ?_
   rintro e w' ⟨r,v,σ',F',rfl,h1,h2,h3,h4⟩
   exact⟨v,rfl,hn v r σ' F' w' h1 h2 h3 (go _ _ h4)⟩
  |perm R hp call go=>
   obtain⟨f,tmps,assign,body,h1,h2⟩:=call F w vs bS (aF.perm hp)
   rw[h1]
   refine RoundIn.mono h2 ?_
   rintro e w' ⟨r,v,σ',F',rfl,h1,h2,h3,h4⟩
   obtain⟨eb,k1,k2⟩:=go _ _ h4
   exact⟨v,rfl,hn v r eb F' w' h1 (h2.perm k1) h3 k2⟩
 obtain⟨oy,gR⟩:=x5 hc
 intro a F w hx aF next Q hn
 obtain⟨vs,bS,hr⟩:=fH a.eval F w hx
 unfold wq
 rw[hr oy]
 refine (gR F w vs bS aF).mono ?_
 rintro e w' ⟨r,v,σ',F',rfl,h1,h2,h3,h4⟩
 exact⟨v,rfl,hn v r σ' F' w' h1 h2 h3 h4⟩
theorem V1{o:Oper}{t:TypeId}(ho:o.op=.makeMap t none){ρ:Operand→AV}{σ:Hp}{K:AV→Hp→Prop}(hk:∀b,K (.nA b) ((b,[.oq []])::σ)):kd P o ρ σ K:=by
 intro a F w hx aF next Q hn
 have fH:(execOp a.eval o).run P w=.ok (.value (.map (some w.heap.size))) (w.alloc (.map #[] 0)):=by
  have e:(Instr.makeMap t none).run P w=.ok (.map (some w.heap.size)) (w.alloc (.map #[] 0)):=rfl
  simp[execOp,ho,e,Result.andThen]
 unfold wq
 rw[fH]
 have hold:∀b,b<w.heap.size→(w.alloc (.map #[] 0)).heap[b]?=w.heap[b]?:=fun b hb=>Below.heap_alloc _ _ b hb
 have ao:bJ F w F (w.alloc (.map #[] 0)):=xS aF.low rfl rfl rfl (by simp) hold
 have hr:=aF.same ao hold
 have ik:(w.alloc (.map #[] 0)).heap[w.heap.size]?=some (.map #[] 0):=wG _ _
 refine hn _ (.nA w.heap.size) _ F _ ao ⟨?_,fun p hm=>?_,hr.low⟩ (.nA _) (hk _)
 ·simp only[oR,mr]
  refine⟨fun hm=>?_,aF.nodup⟩
  obtain⟨p,hp,e⟩:=dP.1 hm
  have:=(aF.holds p hp).lt
  omega
 ·rcases eF.1 hm with rfl | hm
  ·exact⟨fun hF=>I5 _ (aF.low _ hF),.inr (.inl ⟨_,_,rfl,ik,rfl⟩)⟩
  ·exact hr.holds p hm
theorem PK{σ:Hp}{F:Nat→Prop}{w:World}(h:bA F w σ){j b:Nat}{x x':AV}{o o':Obj}(ho:w9 x=some o)(ep:w9 x'=some o')(hj:σ[j]?=some (b,[x])):
  bJ F w F { w with heap:=w.heap.setIfInBounds b o' }∧bA F { w with heap:=w.heap.setIfInBounds b o' } (σ.set j (b,[x'])):=by
 obtain⟨hb,hc⟩:=(h.holds (b,[x]) (cq hj)).HX ho
 have ab:j<σ.length:=(cg.1 hj).1
 obtain⟨IC,hw⟩:=MapKept.heap_set (o':=o') hc
 have ao:bJ F w F { w with heap:=w.heap.setIfInBounds b o' }:=⟨rfl,rfl,rfl,by simp,fun _ h=>h,fun k hF=>hw k (fun e=>hb (e▸hF)),fun k d S fz hk=>by
  by_cases e:k=b
  ·subst e
   rw[hc]at hk
   cases hk
   exact (PS ho).elim
  ·exact⟨d,fz,(hw k e).trans hk,rfl⟩,a8 _⟩
 have Dg:(σ.set j (b,[x'])).map Prod.fst=σ.map Prod.fst:=by
  rw[oS]
  apply zo
  intro k
  rw[e8]
  split
  ·rename_i e;subst e
   simp[ab]
   have:=(cg.1 hj).2
   rw[this]
  ·rfl
 refine⟨ao,⟨Dg▸h.nodup,fun p hm=>?_,fun k hF=>by simpa using h.low k hF⟩⟩
 obtain⟨k,hk⟩:=qG.1 hm
 rw[e8]at hk
 split at hk
 ·rename_i e;subst e
  simp at hk
  obtain⟨_,rfl⟩:=hk
  exact⟨hb,.inr (.inl ⟨_,_,rfl,IC,ep⟩)⟩
 ·rename_i aS
  have aR:=cq hk
  have qy:p.1≠b:=fun e=>by
   have ca:=h.nodup
   have h1:(σ.map Prod.fst)[k]?=some b:=by rw[List.getElem?_map,hk];simp[e]
   have h2:(σ.map Prod.fst)[j]?=some b:=by rw[fo,hj];rfl
   have ec:k<(σ.map Prod.fst).length:=(cg.1 h1).1
   have:=(List.getElem?_inj (i:=k) (j:=j) ec ca).1 (h1.trans h2.symm)
   exact aS this.symm
  exact (h.holds p aR).mono ao (hw _ qy) (h.holds p aR).1
theorem Xn{σ:Hp}{F:Nat→Prop}{w:World}(h:bA F w σ){j b:Nat}{l l':List (Int×Int)}(hj:σ[j]?=some (b,[.oq l])):
  bJ F w F { w with heap:=w.heap.setIfInBounds b (.map (gg 0 l').toArray l'.length) }∧bA F { w with heap:=w.heap.setIfInBounds b (.map (gg 0 l').toArray l'.length) } (σ.set j (b,[.oq l'])):=PK h rfl rfl hj
theorem O5(ok:dE P TT){o:Oper}{t:TypeId}{m k x:Operand}(ho:o.op=.mapUpdate t m k x∨o.op=.insert t m k x){ρ:Operand→AV}{σ:Hp}{K:AV→Hp→Prop}(h:Ab TT t (bQ (ρ m)) (bQ (ρ k)) (bQ (ρ x)) σ K):kd P o ρ σ K:=by
 intro a F w hx aF next Q hn
 unfold Ab at h
 split at h
 ·rename_i z n v hz hk Bc
  obtain⟨kt,et,h1,h2,h3⟩:=Ko ok hz
  obtain⟨j,b,l,hm,hj,go⟩:=h
  have yT:m∈o.op.operands.toList∧k∈o.op.operands.toList∧x∈o.op.operands.toList:=by rcases ho with ho | ho <;> simp[ho,Op.operands]
  have a1:=(hx m yT.1).bQ
  rw[hm]at a1
  have a2:=(hx k yT.2.1).bQ
  rw[hk]at a2
  have a3:=(hx x yT.2.2).bQ
  rw[Bc]at a3
  have e1:a.eval m=.map (some b):=a1.L6
  have e2:a.eval k=.int .i64 n:=a2.gh
  have e3:a.eval x=.int .i64 v:=a3.gh
  obtain⟨_,hb⟩:=(aF.holds _ (cq hj)).DE
  have fH:(execOp a.eval o).run P w=.ok .skip { w with heap:=w.heap.setIfInBounds b (.map (gg 0 (rf l n v)).toArray (rf l n v).length) }:=by
   rcases ho with ho | ho <;> simp[execOp,ho,e1,e2,e3,Wt h1 h2 hb n v,Result.andThen]
  unfold wq
  rw[fH]
  obtain⟨s1,s2⟩:=Xn aF (l':=rf l n v) hj
  exact hn undef .any _ F _ s1 s2 (.any _) go
 ·exact h.elim
theorem Ku:∀(l:List (Int×Int)) (m:Nat) (e:MapEntry),e∈gg m l→∃(i:Nat) (p:Int×Int),l[i]?=some p∧e = { key:=.int .i64 p.1,val:=.int .i64 p.2,born:=m+i }
 | [],_,_,h=>by cases h
 |p::l,m,e,h=>by
  rcases eF.1 h with rfl | h
  ·exact⟨0,p,rfl,rfl⟩
  ·obtain⟨i,q,h1,h2⟩:=Ku l (m+1) e h
   exact⟨i+1,q,h1,by rw[h2];simp only[MapEntry.mk.injEq,true_and];omega⟩
theorem RY{l:List (Int×Int)}{m i:Nat}{p:Int×Int}(h:l[i]?=some p):({ key:=.int .i64 p.1,val:=.int .i64 p.2,born:=m+i }:MapEntry)∈gg m l:=
 cq (i:=i) (by rw[KK,h];rfl)
theorem P8:∀(l:List (Int×Int)) (m:Nat),((gg m l).map (·.born)).Nodup∧∀x∈(gg m l).map (·.born),m≤x
 | [],_=>⟨Ow,fun _ h=>by cases h⟩
 |p::l,m=>by
  obtain⟨h1,h2⟩:=P8 l (m+1)
  refine⟨mr.2 ⟨fun hm=>?_,h1⟩,fun x hx=>?_⟩
  ·have:=h2 _ hm
   exact Nat.not_succ_le_self _ this
  ·rcases eF.1 hx with rfl | hx
   ·exact a8 _
   ·exact Nat.le_of_succ_le (h2 _ hx)
theorem VV(ok:dE P TT){o:Oper}{t:TypeId}{x:Operand}(ho:o.op=.range t x){ρ:Operand→AV}{σ:Hp}{K:AV→Hp→Prop}(h:G7 TT t (bQ (ρ x)) σ K):kd P o ρ σ K:=by
 intro a F w hx aF next Q hn
 unfold G7 at h
 split at h
 ·rename_i z hz
  obtain⟨kt,et,h1,h2,h3⟩:=Ko ok hz
  obtain⟨j,b,l,hm,hj,go⟩:=h
  have a1:=(hx x (by simp[ho,Op.operands])).bQ
  rw[hm]at a1
  have e1:a.eval x=.map (some b):=a1.L6
  obtain⟨_,hb⟩:=(aF.holds _ (cq hj)).DE
  have fH:(execOp a.eval o).run P w=.ok (.value (.pointer (some ⟨w.heap.size,0,none⟩))) (w.alloc (.mapIter (some b) l.length #[] l.length)):=by
   have e:=run_range_map (P:=P) w t kt et b _ _ h1 hb
   simp[execOp,ho,e1,e,Result.andThen]
  unfold wq
  rw[fH]
  have hold:∀k,k<w.heap.size→(w.alloc (.mapIter (some b) l.length #[] l.length)).heap[k]?=w.heap[k]?:=fun k hk=>Below.heap_alloc _ _ k hk
  have ao:bJ F w F (w.alloc (.mapIter (some b) l.length #[] l.length)):=xS aF.low rfl rfl rfl (by simp) hold
  have hr:=aF.same ao hold
  have ik:(w.alloc (.mapIter (some b) l.length #[] l.length)).heap[w.heap.size]?=some (.mapIter (some b) l.length #[] l.length):=wG _ _
  refine hn _ (.nH w.heap.size) _ F _ ao ⟨?_,fun p hm=>?_,hr.low⟩ (.nH _) (go _)
  ·simp only[oR,mr]
   refine⟨fun hm=>?_,aF.nodup⟩
   obtain⟨p,hp,e⟩:=dP.1 hm
   have:=(aF.holds p hp).lt
   omega
  ·rcases eF.1 hm with rfl | hm
   ·exact⟨fun hF=>I5 _ (aF.low _ hF),.inr (.inl ⟨_,_,rfl,ik,rfl⟩)⟩
   ·exact hr.holds p hm
 ·exact h.elim
theorem Xo{σ:Hp}{F:Nat→Prop}{w:World}(h:bA F w σ):bJ F w F w.drew∧bA F w.drew σ:=by
 have ao:bJ F w F w.drew:=⟨rfl,rfl,rfl,a8 _,fun _ h=>h,fun _ _=>rfl,fun k d S fz hk=>⟨d,fz,hk,rfl⟩,Nat.le_succ _⟩
 exact⟨ao,h.nodup,fun p hp=>(h.holds p hp).mono ao rfl (h.holds p hp).1,h.low⟩
theorem V0{o:Oper}{x:Operand}(ho:o.op=.next x false){ρ:Operand→AV}{σ:Hp}{K:AV→Hp→Prop}(h:LY σ (bQ (ρ x)) K):kd P o ρ σ K:=by
 intro a F w hx aF next Q hn
 obtain⟨j,j2,r,b,l,seen,hm,h1,h2,stop,go⟩:=h
 have a1:=(hx x (by simp[ho,Op.operands])).bQ
 rw[hm]at a1
 have e1:a.eval x=.pointer (some ⟨r,0,none⟩):=a1.Vk
 obtain⟨_,hr⟩:=(aF.holds _ (cq h1)).HX rfl
 obtain⟨_,hb⟩:=(aF.holds _ (cq h2)).DE
 have af9:∀x∈(gg 0 l).toArray.toList,x.born<l.length:=fun x hx=>by
  obtain⟨i,p,hi,rfl⟩:=Ku l 0 x hx
  show 0+i<_
  have:=(cg.1 hi).1
  omega
 unfold wq
 rcases run_next_at (P:=P) w o.type r b l.length l.length seen.toArray _ _ hr hb af9 (a8 _) with ⟨hz,fH⟩ | ⟨e,he,w1,hw1,fH⟩
 ·have Df:(execOp a.eval o).run P w=.ok (.value (.tuple #[.bool false])) w:=by simp[execOp,ho,e1,fH,Result.andThen]
  rw[Df]
  refine hn _ (.tup [.bool false]) σ F w (bJ.refl _ _) aF (.tup _ _ rfl fun i y hy=>?_) (stop fun i hi=>?_)
  ·match i,hy with
   | 0,hy=>cases hy;exact .bool _
   |i+1,hy=>simp at hy
  ·have hz:leftOf (gg 0 l).toArray seen.toArray = #[]:=Array.eq_empty_of_size_eq_zero hz
   unfold leftOf at hz
   rw[Array.filter_eq_empty_iff]at hz
   have:=hz _ (by simpa using RY (m:=0) (List.getElem?_eq_getElem hi))
   simpa using this
 ·have Df:(execOp a.eval o).run P w=.ok (.value (.tuple #[.bool true,e.key,e.val])) (Go.ChangeMaps.setBlock w1 r (.mapIter (some b) l.length (seen.toArray.push e.born) l.length)):=by simp[execOp,ho,e1,fH,Result.andThen]
  rw[Df]
  unfold leftOf at he
  have zg:e∈gg 0 l∧e.born ∉ seen:=by simpa using he
  obtain⟨i,p,hi,rfl⟩:=Ku l 0 e zg.1
  have hns:i ∉ seen:=by simpa using zg.2
  have hw:bJ F w F w1∧bA F w1 σ:=by
   rcases hw1 with rfl | rfl
   ·exact⟨bJ.refl _ _,aF⟩
   ·exact Xo aF
  obtain⟨s1,s2⟩:=PK (x':=.r8 b l.length (seen++[i])) hw.2 rfl rfl h1
  have e2:(seen++[i]).toArray=seen.toArray.push (0+i):=by simp
  rw[e2]at s1 s2
  refine hn _ (.tup [.bool true,.int .i64 p.1,.int .i64 p.2]) _ F _ (hw.1.trans s1) s2 (.tup _ _ rfl fun k y hy=>?_) (go i p hi hns)
  match k,hy with
  | 0,hy=>cases hy;exact .bool _
  | 1,hy=>cases hy;exact .int _ _
  | 2,hy=>cases hy;exact .int _ _
  |k+3,hy=>simp at hy
theorem VX{o:Oper}{x:Operand}(ho:o.op=.entry x){ρ:Operand→AV}{σ:Hp}{K:AV→Hp→Prop}(h:Lx σ (bQ (ρ x)) K):kd P o ρ σ K:=by
 intro a F w hx aF next Q hn
 obtain⟨j,j2,r,b,i,l,p,seen,hm,h1,h2,h3,go⟩:=h
 have a1:=(hx x (by simp[ho,Op.operands])).bQ
 rw[hm]at a1
 have e1:a.eval x=.pointer (some ⟨r,0,none⟩):=a1.Vk
 obtain⟨_,hr⟩:=(aF.holds _ (cq h1)).HX rfl
 obtain⟨_,hb⟩:=(aF.holds _ (cq h2)).DE
 have hr:w.heap[r]?=some (.mapIter (some b) l.length (seen.toArray.push (0+i)) l.length):=by
  rw[hr];simp
 have fH:=run_entry_at (P:=P) w r b l.length seen.toArray (gg 0 l).toArray l.length { key:=.int .i64 p.1,val:=.int .i64 p.2,born:=0+i } hr hb (by simpa using RY (m:=0) h3) (by simpa using (P8 l 0).1)
 have Df:(execOp a.eval o).run P w=.ok (.value (.tuple #[.int .i64 p.1,.int .i64 p.2])) w:=by simp[execOp,ho,e1,fH,Result.andThen]
 unfold wq
 rw[Df]
 refine hn _ (.tup [.int .i64 p.1,.int .i64 p.2]) σ F w (bJ.refl _ _) aF (.tup _ _ rfl fun k y hy=>?_) go
 match k,hy with
 | 0,hy=>cases hy;exact .int _ _
 | 1,hy=>cases hy;exact .int _ _
 |k+2,hy=>simp at hy
theorem Kj(ok:dE P TT){o:Oper}{ρ:Operand→AV}{σ:Hp}{K:AV→Hp→Prop}(h:gX P TT o.op ρ σ K):kd P o ρ σ K:=by
 have dd:fI P TT o.op ρ σ (fun v=>K v σ)→kd P o ρ σ K:=fun h=>by
  obtain⟨v,h1,h2⟩:=FX ok h
  exact V2 h2 h1
 generalize lS:o.op=op at h dd
 unfold gX at h
 split at h
 ·split at h
  ·rename_i cs hc;exact Zj lS hc h
  ·exact h.elim
 ·split at h
  ·rename_i i hi;exact W9 ok lS hi h
  ·exact h.elim
 ·split at h
  ·rename_i e sz qI z0 ht
   split at h
   ·rename_i i hi
    split at h
    ·rename_i cs hf fv hG
     exact VP ok lS ht rfl hi hf (cD fv) (cD hG) h
    ·exact h.elim
   ·exact h.elim
  ·exact h.elim
 ·split at h
  ·rename_i e sz qI z0 k n k' m ht hl hc
   split at h
   ·rename_i i hi
    exact VR ok lS ht rfl hi hl hc h.fact h.go
   ·exact h.elim
  ·exact h.elim
 ·split at h
  ·rename_i i hi
   split at h
   ·rename_i b off hp;exact Wn ok lS hi hp h
   ·exact h.elim
  ·exact h.elim
 ·split at h
  ·exact V1 lS h
  ·exact h.elim
 ·exact O5 ok (.inl lS) h
 ·exact O5 ok (.inr lS) h
 ·exact VV ok lS h
 ·split at h
  ·exact V0 lS h
  ·exact h.elim
 ·exact VX lS h
 ·rename_i args cz
  split at h
  ·rename_i s x t t' Mi Vm
   obtain rfl:args = #[s,x]:=by cases args;simp_all
   obtain rfl:cz = #[t,t']:=by cases cz;simp_all
   split at h
   ·rename_i e s1 b1 z1 e' s2 b2 z2 ht nI
    split at h
    ·rename_i i hi;exact Fw (Wh ok lS ht rfl nI rfl hi (ρ:=fun x=>bQ (ρ x)) h)
    ·exact h.elim
   ·rename_i e s1 b1 z1 k' s2 b2 z2 ht nI
    split at h
    ·rename_i i hi;exact Fw (V7 ok lS ht rfl nI rfl hi (ρ:=fun x=>bQ (ρ x)) h)
    ·exact h.elim
   ·exact h.elim
  ·exact h.elim
 ·rename_i args cz
  split at h
  ·rename_i s t Mi Vm
   obtain rfl:args = #[s]:=by cases args;simp_all
   obtain rfl:cz = #[t]:=by cases cz;simp_all
   split at h
   ·rename_i e s1 b1 z1 ht
    split at h
    ·rename_i i hi;exact Fw (W4 ok lS ht rfl hi (ρ:=fun x=>bQ (ρ x)) h)
    ·exact h.elim
   ·exact h.elim
  ·exact h.elim
 ·rename_i args cz
  split at h
  ·rename_i d x t t' Mi Vm
   obtain rfl:args = #[d,x]:=by cases args;simp_all
   obtain rfl:cz = #[t,t']:=by cases cz;simp_all
   split at h
   ·rename_i e s1 b1 z1 e' s2 b2 z2 ht nI
    split at h
    ·rename_i i hi;exact Fw (XU ok lS ht rfl nI rfl hi (ρ:=fun x=>bQ (ρ x)) h)
    ·exact h.elim
   ·exact h.elim
  ·exact h.elim
 ·exact dd h
 ·exact Wg lS h
 ·exact dd h
def tB(F:Nat→Prop)(w:World)(t:Tm)(a:Act):Prop:=∀i,aA F w (t i) (a.tmps.getD i undef)
theorem tB.mono{F F':Nat→Prop}{w w':World}{t:Tm}{a:Act}(h:tB F w t a)(ao:bJ F w F' w'):tB F' w' t a:=fun i=>(h i).mono ao
theorem tB.put{F:Nat→Prop}{w:World}{t:Tm}{a:Act}(h:tB F w t a){d:Option Tmp}{x:AV}{v:Value}(hx:aA F w x v)(hd:∀i,d=some i→i<a.tmps.size):tB F w (put t d x) (a.put d v):=by
 cases d with
 |none=>exact h
 |some d=>
  intro i
  show aA F w (match Nat.beq i d with | true=>x | false=>t i) ((a.tmps.setIfInBounds d v).getD i undef)
  have ee:=hd d rfl
  cases hb:Nat.beq i d with
  |true=>
   have:=jK hb
   subst this
   simpa [Array.getD,ee]using hx
  |false=>
   have aS:d≠i:=fun e=>by subst e;rw[xF]at hb;cases hb
   have:=h i
   rw[jL]at this ⊢
   rw[JB aS]
   exact this
theorem oX{F:Nat→Prop}{w:World}(v:Value):aA F w (Ai v) v:=by
 cases v with
 |int k n=>exact .int _ _
 |bool b=>exact .bool _
 |string s=>exact .str _
 |pointer a=>cases a <;> first | exact .cR | exact .any _
 |slice a l c=>cases a <;> cases l <;> cases c <;> first | exact .aj | exact .any _
 |nilIface=>exact .nilif
 |nilFunc=>exact .iP
 |map a=>cases a <;> first | exact .px | exact .any _
 |_=>exact .any _
theorem Se{F:Nat→Prop}{w:World}{t:Tm}{a:Act}(x:Operand)(h:∀i,x=.tmp i→aA F w (t i) (a.tmps.getD i undef)):aA F w (ev t x) (a.eval x):=by
 cases x with
 |tmp i=>exact h i rfl
 |const v=>
  show aA F w (UM v) v
  cases v with
  |agg cs=>
   show aA F w (match (cs.toList.map Ai).all AV.leaf with | true=>.agg (cs.toList.map Ai) | false=>.any) _
   split
   ·rename_i hl
    refine .agg _ _ (by simp) (fun i x hx=>?_) (fun i x hx=>?_)
    ·exact fy.1 hl x (cq hx)
    ·simp only[fo,xJ]at hx
     obtain⟨v,hv,rfl⟩:=hx
     have ab:i<cs.size:=by have:=(List.getElem?_eq_some_iff.1 hv).1;simpa using this
     have:cs[i]=v:=by simpa [ab]using hv
     simpa [Array.getD,ab,this]using oX v
   ·exact .any _
  |tuple vs=>
   show aA F w (match vs.toList with | []=>.tup [] | _=>.any) _
   split
   ·rename_i h0
    exact .tup _ _ (by simp at h0;simp[h0]) (fun i x h=>by simp at h)
   ·exact .any _
  |int k n=>exact oX (.int k n)
  |bool b=>exact oX (.bool b)
  |string x=>exact oX (.string x)
  |float k b=>exact oX (.float k b)
  |complex k b c=>exact oX (.complex k b c)
  |pointer x=>exact oX (.pointer x)
  |slice x l c=>exact oX (.slice x l c)
  |map x=>exact oX (.map x)
  |chan x=>exact oX (.chan x)
  |func f x y=>exact oX (.func f x y)
  |nilFunc=>exact oX .nilFunc
  |iface t x=>exact oX (.iface t x)
  |nilIface=>exact oX .nilIface
 |global g=>exact .any _
 |func f=>exact .fn _ _ _ _ _ rfl rfl (fun i x h=>by simp at h) (fun i x h=>by simp at h)
theorem tB.eval{F:Nat→Prop}{w:World}{t:Tm}{a:Act}(h:tB F w t a)(x:Operand):aA F w (ev t x) (a.eval x):=Se x fun i _=>h i
end
section
variable {P:Program} {TT:TypeId→Option TI}
structure Marks(B:Nat)(F:Nat→Prop)(w:World)(ds:List Deferred):Prop where
 low:B≤w.heap.size
 nodup:ds.Nodup
 is:∀d∈ds,∃D,d = { target:=.collected D,args:= #[] }∧B≤D∧F D∧w.heap[D]?=some (.deferred (some []))
theorem Marks.mono{B:Nat}{F F':Nat→Prop}{w w':World}{ds:List Deferred}(h:Marks B F w ds)(ao:bJ F w F' w'):Marks B F' w' ds:=
 ⟨fx h.low ao.size,h.nodup,fun d hd=>by
  obtain⟨D,h1,h2,h3,h4⟩:=h.is d hd
  exact⟨D,h1,h2,ao.sub D h3,(ao.fix D h3).trans h4⟩⟩
structure dh(B n:Nat)(F:Nat→Prop)(w:World)(t:Tm)(σ:Hp)(a:Act):Prop where
 tm:tB F w t a
 hp:bA F w σ
 size:n≤a.tmps.size
 defers:Marks B F w a.defers
theorem RG(a:Act)(d:Option Tmp)(v:Value):(a.put d v).tmps.size=a.tmps.size:=by cases d <;> simp[Act.put]
theorem SP(a:Act)(d:Option Tmp)(v:Value):(a.put d v).defers=a.defers:=by cases d <;> rfl
theorem dh.put{B n:Nat}{F F':Nat→Prop}{w w':World}{t:Tm}{σ σ':Hp}{a:Act}(h:dh B n F w t σ a)(ao:bJ F w F' w')(hp:bA F' w' σ'){d:Option Tmp}{x:AV}{v:Value}(hx:aA F' w' x v)(hd:∀i,d=some i→i<n):dh B n F' w' (put t d x) σ' (a.put d v):=
 ⟨(h.tm.mono ao).put hx (fun i e=>rH (hd i e) h.size),hp,by rw[RG];exact h.size,by rw[SP];exact h.defers.mono ao⟩
theorem RV{F:Nat→Prop}{w:World}{σ:Hp}(h:bA F w σ){i b':Nat}{cs kJ:List AV}(hi:σ[i]?=some (b',cs))(hl:kJ.length=cs.length)(hk:∀(k:Nat) (x y:AV),cs[k]?=some x→kJ[k]?=some y→x=y∨(x=.aj∧∃e:Sh,y=.af e [])):bA F w (σ.set i (b',kJ)):=by
 refine⟨?_,fun p hp=>?_,h.low⟩
 ·have e1:(σ.set i (b',kJ)).map Prod.fst=σ.map Prod.fst:=by
   rw[oS]
   refine List.ext_getElem (by simp) fun j h1 h2=>?_
   rw[Jh]
   split
   ·rename_i hj;subst hj
    have:=cg.1 hi
    obtain⟨q1,q2⟩:=this
    rw[Jg,q2]
   ·rfl
  rw[e1];exact h.nodup
 ·rcases qH hp with hp | rfl
  ·exact h.holds p hp
  ·have hh:=h.holds _ (cq hi)
   by_cases hn:∃k:Nat,cs[k]?=some AV.aj
   ·obtain⟨k,jI⟩:=hn
    obtain⟨h1,c,T,h2,h3,h4⟩:=hh.Ma jI rfl
    refine⟨h1,.inl ⟨c,T,h2,by rw[hl];exact h3,fun j y hy=>?_⟩⟩
    have hj:j<cs.length:=by rw[← hl];exact (cg.1 hy).1
    have hx:=bF hj
    obtain⟨q1,q2⟩:=h4 j _ hx
    rcases hk j _ _ hx hy with e | ⟨e,e',rfl⟩
    ·rw[← e];exact⟨q1,q2⟩
    ·rw[e]at q2
     refine⟨rfl,?_⟩
     revert q2;generalize c.getD j undef=u;intro q2;cases q2
     exact .af e' [] _ ⟨none,0,rfl,a8 _,bD _,(fun _=>rfl),fun aS=>absurd rfl aS⟩
   ·have e:kJ=cs:=by
     refine BL hl fun j h1 h2=>?_
     rcases hk j _ _ (bF h2) (bF h1) with e | ⟨e,_⟩
     ·exact e.symm
     ·exact absurd ⟨j,(bF h2).trans (congrArg some e)⟩ hn
    rw[e];exact hh
theorem S5{F:Nat→Prop}{w:World}{σ:Hp}(h:bA F w σ){i b' k:Nat}{cs':List AV}(e:Sh)(hi:σ[i]?=some (b',cs'))(hk:cs'[k]?=some .aj):bA F w (σ.set i (b',cs'.set k (.af e []))):=
 RV h hi (by simp) fun j x y hx hy=>by
  rw[e8]at hy
  split at hy
  ·rename_i hj;subst hj
   split at hy
   ·rw[hk]at hx;cases hx;cases hy;exact .inr ⟨rfl,e,rfl⟩
   ·cases hy
  ·rw[hx]at hy;cases hy;exact .inl rfl
theorem bA.dI{F:Nat→Prop}{w:World}{σ σ':Hp}(h:bA F w σ)(hs:jm σ σ'):bA F w σ':=by
 induction hs with
 |refl=>exact h
 |pull js _ ih=>exact ih (h.perm (xY js _))
 |perm hp _ ih=>exact ih (h.perm hp)
 |afB i b' cs kJ hi hl hk _ ih=>exact ih (RV h hi hl hk)
 | @drop k n σ σ2 _ ih=>
  refine ih (h.sub ?_)
  have h1:(σ.drop (k+n)).Sublist (σ.drop k):=by
   rw[← List.drop_drop]
   exact List.drop_sublist _ _
  have h2:=(List.Sublist.refl (σ.take k)).append h1
  rwa [E7]at h2
theorem dh.dI{B n:Nat}{F:Nat→Prop}{w:World}{t:Tm}{σ σ':Hp}{a:Act}(h:dh B n F w t σ a)(hs:jm σ σ'):dh B n F w t σ' a:=⟨h.tm,h.hp.dI hs,h.size,h.defers⟩
def uu(ops:List Oper)(o:Oper)(t:Tm)(b:Bool):Prop:=
 (o.guard=none∧b=true)∨∃j want d x,o.guard=some (j,want)∧(ops[j]?).bind (·.dst)=some d∧((t d=.bool x∧b=(x == want))∨(t d=.tup []∧b=false))
theorem x4{ops:List Oper}{o:Oper}{t:Tm}{A B:Prop}(h:pf ops o t A B):(uu ops o t true∧A)∨(uu ops o t false∧B):=by
 unfold pf at h
 split at h
 ·rename_i hg
  exact .inl ⟨.inl ⟨hg,rfl⟩,h⟩
 ·rename_i j want hg
  split at h
  ·rename_i d hd
   split at h
   ·rename_i b hb
    cases want <;> cases b
    ·exact .inl ⟨.inr ⟨j,_,d,_,hg,hd,.inl ⟨hb,rfl⟩⟩,h⟩
    ·exact .inr ⟨.inr ⟨j,_,d,_,hg,hd,.inl ⟨hb,rfl⟩⟩,h⟩
    ·exact .inr ⟨.inr ⟨j,_,d,_,hg,hd,.inl ⟨hb,rfl⟩⟩,h⟩
    ·exact .inl ⟨.inr ⟨j,_,d,_,hg,hd,.inl ⟨hb,rfl⟩⟩,h⟩
   ·rename_i hb
    exact .inr ⟨.inr ⟨j,_,d,false,hg,hd,.inr ⟨hb,rfl⟩⟩,h⟩
   ·exact h.elim
  ·exact h.elim
theorem xV{F:Nat→Prop}{w:World}:aA F w (.tup []) undef:=.tup _ _ rfl (fun i x h=>by simp at h)
theorem Yd{F:Nat→Prop}{w:World}{u:Value}(h:aA F w (.tup []) u):u=.tuple #[]:=by
 cases h with
 |tup _ vs hs h=>rw[E6.1 hs.symm]
theorem FN{ops:List Oper}{o:Oper}{t:Tm}{a:Act}{b:Bool}(h:uu ops o t b)(hr:∀d,(∃j want,o.guard=some (j,want)∧(ops[j]?).bind (·.dst)=some d)→∃F w,aA F w (t d) (a.tmps.getD d undef)):Region.wanted o (yielded ops.toArray a.tmps)=b:=by
 rcases h with ⟨hg,rfl⟩ | ⟨j,want,d,x,hg,h1,⟨h2,rfl⟩ | ⟨h2,rfl⟩⟩
 ·simp[Region.wanted,hg]
 ·obtain⟨F,w,h3⟩:=hr d ⟨j,want,hg,h1⟩
  rw[h2]at h3
  have h3:=h3.qZ
  have h4:a.tmps[d]?=some (.bool x):=by
   rw[jL]at h3
   cases hq:a.tmps[d]? with
   |none=>rw[hq]at h3;simp[undef]at h3
   |some v=>rw[hq]at h3;simpa using h3
  have h5:yielded ops.toArray a.tmps j=some x:=by
   unfold yielded
   simp only[zu,h1,Option.bind_some,h4]
  simp[Region.wanted,hg,h5]
 ·obtain⟨F,w,h3⟩:=hr d ⟨j,want,hg,h1⟩
  rw[h2]at h3
  have h3:=Yd h3
  have h5:yielded ops.toArray a.tmps j=none:=by
   unfold yielded
   simp only[zu,h1,Option.bind_some]
   rw[jL]at h3
   cases hq:a.tmps[d]? with
   |none=>rfl
   |some v=>rw[hq]at h3;simp at h3;rw[h3]
  simp[Region.wanted,hg,h5]
theorem J0(ok:dE P TT){B n:Nat}{ops:List Oper}{Q:Exit→Act→World→Prop}:∀(l:List Oper) (t:Tm) (σ:Hp) (K:Tm→Hp→Prop) (F:Nat→Prop) (w:World) (a:Act),(∀o∈l,∀d,o.dst=some d→d<n)→Vh P TT ops l t σ K→dh B n F w t σ a→
  (∀t' σ' F' w' a',bJ F w F' w'→dh B n F' w' t' σ' a'→K t' σ'→Q .normal a' w')→wR P ops.toArray Q l a w
 | [],t,σ,K,F,w,a,_,h,hs,hq=>hq t σ F w a (.refl _ _) hs h
 |o::l,t,σ,K,F,w,a,hd,h,hs,hq=>by
  have hw:∀{b:Bool},uu ops o t b→Region.wanted o (yielded ops.toArray a.tmps)=b:=fun hg=>FN hg fun d _=>⟨F,w,hs.tm d⟩
  rcases x4 h with ⟨hg,h⟩ | ⟨hg,h⟩
  ·unfold wR
   rw[ah (hw hg)]
   refine (Kj ok h a F w (fun x _=>hs.tm.eval x) hs.hp _ Q ?_)
   intro v av σ' F' w' h1 h2 h3 h4
   exact J0 ok l _ σ' K F' w' _ (fun o ho=>hd o (cW _ ho)) h4 (hs.put h1 h2 h3 (hd o (ck ..))) (fun t' ky nV mf a' k1 k2 k3=>hq t' ky nV mf a' (h1.trans k1) k2 k3)
  ·unfold wR
   rw[if_neg (by rw[hw hg];simp)]
   exact J0 ok l _ σ K F w _ (fun o ho=>hd o (cW _ ho)) h (hs.put (.refl _ _) hs.hp xV (hd o (ck ..))) hq
def LZ(P:Program)(o:Oper)(ρ:Operand→AV)(σ:Hp)(v:AV):Prop:=
 ∀(a:Act) (F:Nat→Prop) (w:World),(∀x∈o.op.operands.toList,aA F w (ρ x) (a.eval x))→bA F w σ→∀(next:Act→World→Prop) (Q:Exit→Act→World→Prop),
  (∀u F' w',bJ F w F' w'→bA F' w' σ→aA F' w' v u→next (a.put o.dst u) w')→wq P o a w next Q
theorem QG(ok:dE P TT){o:Oper}{ρ:Operand→AV}{σ:Hp}{K:AV→Prop}(h:vr P TT o.op ρ σ K):∃v,K v∧LZ P o ρ σ v:=by
 have dd:fI P TT o.op ρ σ K→∃v,K v∧LZ P o ρ σ v:=fun h=>by
  obtain⟨v,h1,h2⟩:=FX ok h
  refine⟨v,h1,fun a F w hx aF next Q hn=>?_⟩
  obtain⟨v',h3,h4⟩:=h2 a.eval F w o rfl hx aF
  unfold wq
  rw[h3]
  exact hn v' F w (.refl _ _) aF h4
 generalize lS:o.op=op at h dd
 unfold vr at h
 split at h
 ·exact dd h
 ·obtain⟨_,_,h,_⟩ | ⟨f,xs,hc,fH⟩:=O8 lS h
  ·exact h.elim
  cases hc with
  |mk js r call go=>
   obtain⟨oy,gR⟩:=call
   refine⟨r,go,fun a F w hx aF next Q hn=>?_⟩
   obtain⟨vs,bS,hr⟩:=fH a.eval F w hx
   unfold wq
   rw[hr oy]
   refine (gR F w vs bS (aF.perm (xY js σ))).mono ?_
   rintro e w' ⟨r',v,σ',F',rfl,h1,h2,h3,rfl,rfl⟩
   exact⟨v,rfl,hn v F' w' h1 (h2.perm (xY js σ).symm) h3⟩
  |perm hp r call go=>
   obtain⟨oy,gR⟩:=call
   refine⟨r,go,fun a F w hx aF next Q hn=>?_⟩
   obtain⟨vs,bS,hr⟩:=fH a.eval F w hx
   unfold wq
   rw[hr oy]
   refine (gR F w vs bS (aF.perm hp)).mono ?_
   rintro e w' ⟨r',v,σ',F',rfl,h1,h2,h3,rfl,nM⟩
   exact⟨v,rfl,hn v F' w' h1 (h2.perm (hp.symm.trans nM)) h3⟩
 ·exact dd h
end
end Go.Proofs.YtnikdflhefijbaaGreat
