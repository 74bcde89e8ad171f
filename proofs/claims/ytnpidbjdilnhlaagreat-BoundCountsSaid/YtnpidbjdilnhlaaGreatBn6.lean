import Derived.Deep.AppendSrc
import Derived.Deep.Upon
import Derived.Great.BuildSlice
import Derived.Maps.RangeRun
import Derived.Orders
import Derived.Test.YtnpidbjdilnhlaaGreatBn5
namespace Go.Proofs.YtnpidbjdilnhlaaGreat
open Go.RowKit
section
variable {P:Program} {TT:TypeId→Option TI} {F F':Nat→Prop} {w w':World}
theorem Holds.mono{b:Nat}{cs:List AV}(h:Holds F w b cs)(ak:aQ F w F' w')(hb:w'.heap[b]?=w.heap[b]?)(hF:¬F' b):Holds F' w' b cs:=by
 obtain⟨_,⟨c,T,h1,h2,h3⟩ | ⟨x,o,h1,h2,h3⟩ | ⟨L,t,h1,h2,h3⟩⟩:=h
 ·exact⟨hF,.inl ⟨c,T,hb.trans h1,h2,fun i x hx=>⟨(h3 i x hx).1,(h3 i x hx).2.mono ak⟩⟩⟩
 ·exact⟨hF,.inr (.inl ⟨x,o,h1,hb.trans h2,h3⟩)⟩
 ·exact⟨hF,.inr (.inr ⟨L,t,h1,hb.trans h2,fun i=>(h3 i).mono ak⟩)⟩
theorem Holds.lt{b:Nat}{cs:List AV}(h:Holds F w b cs):b<w.heap.size:=by
 obtain⟨_,⟨_,_,h1,_⟩ | ⟨_,_,_,h1,_⟩ | ⟨_,_,_,h1,_⟩⟩:=h
 ·exact qW h1
 ·exact qW h1
 ·exact qW h1
theorem aM.perm{σ σ':Hp}(h:aM F w σ)(hp:σ'.Perm σ):aM F w σ':=
 ⟨((hp.map Prod.fst).nodup_iff).2 h.nodup,fun p hm=>h.holds p (hp.mem_iff.1 hm),h.low⟩
theorem aM.sub{σ σ':Hp}(h:aM F w σ)(hs:σ'.Sublist σ):aM F w σ':=
 ⟨h.nodup.sublist (hs.map _),fun p hm=>h.holds p (hs.subset hm),h.low⟩
theorem uT:∀(σ:Hp) (i:Nat) (p:Nat×List AV),σ[i]?=some p→(p::σ.eraseIdx i).Perm σ
 | [],i,p,h=>by simp at h
 | q::σ,0,p,h=>by simp at h;subst h;exact List.Perm.refl _
 | q::σ,i+1,p,h=>(List.Perm.swap q p _).trans (.cons q (uT σ i p (by simpa using h)))
theorem Uj(i:Nat)(σ:Hp):(pull i σ).Perm σ:=by
 unfold pull
 split
 ·rename_i p h
  exact uT σ i p h
 ·exact List.Perm.refl _
theorem vc:∀(js:List Nat) (σ:Hp),(lZ js σ).Perm σ
 | [],_=>List.Perm.refl _
 | i::r,σ=>(Uj i _).trans (vc r σ)
theorem uW(eo:∀b,F b→b<w.heap.size)(ho:w'.os=w.os)(ht:w'.tape=w.tape)(hu:w'.output=w.output)(hs:w.heap.size≤w'.heap.size)(hb:∀b,b<w.heap.size→w'.heap[b]?=w.heap[b]?)(hd:w.drawn≤w'.drawn:=by first | exact Nat.le_refl _ | exact Nat.le_succ _ | exact Nat.le_add_right _ _):aQ F w F w':=
 ⟨ho,ht,hu,hs,fun _ h=>h,fun b h=>hb b (eo b h),fun b c _ fz h=>⟨c,fz,(hb b (qW h)).trans h,rfl⟩,hd⟩
theorem aM.same{σ:Hp}(h:aM F w σ)(ak:aQ F w F w')(hb:∀b,b<w.heap.size→w'.heap[b]?=w.heap[b]?):aM F w' σ:=
 ⟨h.nodup,fun p hm=>(h.holds p hm).mono ak (hb _ (h.holds p hm).lt) (h.holds p hm).1,fun b hF=>Nat.lt_of_lt_of_le (h.low b hF) ak.size⟩
theorem KZ{σ:Hp}(h:aM F w σ){c:Array Value}{T:TypeId}{cs:List AV}(hl:cs.length≤c.size)(hc:∀(i:Nat) (x:AV),cs[i]?=some x→x.leaf=true∧ar F w x (c.getD i undef)){w0:World}(e0:w0=w∨w0=w.drew):
  aQ F w F (w0.alloc (.cells c T))∧aM F (w0.alloc (.cells c T)) ((w.heap.size,cs)::σ):=by
 have hold:∀b,b<w.heap.size→(w0.alloc (.cells c T)).heap[b]?=w.heap[b]?:=fun b hb=>by rcases e0 with rfl | rfl <;> exact Below.heap_alloc _ _ b (by simpa using hb)
 have ak:aQ F w F (w0.alloc (.cells c T)):=by
  rcases e0 with rfl | rfl
  ·exact uW h.low rfl rfl rfl (by simp) hold
  ·exact uW h.low rfl rfl rfl (by simp) hold
 have hr:=h.same ak hold
 have fP:(w0.alloc (.cells c T)).heap[w.heap.size]?=some (.cells c T (0,0)):=by rcases e0 with rfl | rfl <;> exact tE _ _
 refine⟨ak,⟨?_,fun p hm =>?_,hr.low⟩⟩
 ·simp only[List.map_cons,List.nodup_cons]
  refine⟨fun hm =>?_,h.nodup⟩
  obtain⟨p,hp,e⟩:=List.mem_map.1 hm
  have:=(h.holds p hp).lt
  omega
 ·rcases List.mem_cons.1 hm with rfl | hm
  ·exact⟨fun hF=>Nat.lt_irrefl _ (h.low _ hF),.inl ⟨c,T,fP,hl,fun i x hx=>⟨(hc i x hx).1,(hc i x hx).2.mono ak⟩⟩⟩
  ·exact hr.holds p hm
theorem xc{σ:Hp}(h:aM F w σ){j b:Nat}{cs cs':List AV}(hj:σ[j]?=some (b,cs)){c c':Array Value}{T:TypeId}(hc:w.heap[b]?=some (.cells c T (0,0)))(dz:c'.size=c.size)(hl:cs'.length≤c'.size)
  (hr:∀(i:Nat) (x:AV),cs'[i]?=some x→x.leaf=true∧ar F w x (c'.getD i undef)) (hw:∀k,k≠b→w'.heap[k]?=w.heap[k]?) (Fa:w'.heap[b]?=some (.cells c' T (0,0))) (ho:w'.os=w.os) (ht:w'.tape=w.tape) (hu:w'.output=w.output) (hs:w'.heap.size=w.heap.size) (hd:w.drawn≤w'.drawn:=by first | exact Nat.le_refl _ | exact Nat.le_succ _ | exact Nat.le_add_right _ _) :
  aQ F w F w'∧aM F w' (σ.set j (b,cs')):=by
 have hb:=(h.holds (b,cs) (List.mem_of_getElem? hj)).1
 have ab:j<σ.length:=(List.getElem?_eq_some_iff.1 hj).1
 have ak:aQ F w F w':=⟨ho,ht,hu,by omega,fun _ h=>h,fun k hF=>hw k (fun e=>hb (e▸hF)),fun k d S fz hk=>by
  by_cases e:k=b
  ·subst e
   rw[hc]at hk
   cases hk
   exact⟨c',(0,0),Fa,dz⟩
  ·exact⟨d,fz,(hw k e).trans hk,rfl⟩,hd⟩
 have AA:(σ.set j (b,cs')).map Prod.fst=σ.map Prod.fst:=by
  rw[List.map_set]
  apply List.ext_getElem?
  intro k
  rw[List.getElem?_set]
  split
  ·rename_i e;subst e
   simp[ab]
   have:=(List.getElem?_eq_some_iff.1 hj).2
   rw[this]
  ·rfl
 refine⟨ak,⟨AA▸h.nodup,fun p hm =>?_,fun k hF=>by rw[hs];exact h.low k hF⟩⟩
 obtain⟨k,hk⟩:=List.mem_iff_getElem?.1 hm
 rw[List.getElem?_set]at hk
 split at hk
 ·rename_i e;subst e
  simp at hk
  obtain⟨_,rfl⟩:=hk
  exact⟨hb,.inl ⟨c',T,Fa,hl,fun i x hx=>⟨(hr i x hx).1,(hr i x hx).2.mono ak⟩⟩⟩
 ·rename_i aI
  have aH:=List.mem_of_getElem? hk
  have ot:p.1≠b:=by
   intro e
   have bB:=h.nodup
   have h1:(σ.map Prod.fst)[k]?=some b:=by rw[List.getElem?_map,hk];simp[e]
   have h2:(σ.map Prod.fst)[j]?=some b:=by rw[List.getElem?_map,hj];rfl
   have eL:k<(σ.map Prod.fst).length:=(List.getElem?_eq_some_iff.1 h1).1
   have:=(List.getElem?_inj (i:=k) (j:=j) eL bB).1 (h1.trans h2.symm)
   exact aI this.symm
  exact (h.holds p aH).mono ak (hw _ ot) (h.holds p aH).1
theorem M7(z:List AV):∀(n j:Nat),j<n*z.length→(bU z n)[j]?=z[j % z.length]?
 | 0,j,h=>by simp at h
 | n+1,j,h=>by
  unfold bU
  by_cases hj:j<z.length
  ·rw[List.getElem?_append_left hj,Nat.mod_eq_of_lt hj]
  ·have e:(n+1)*z.length=n*z.length+z.length:=Nat.succ_mul n z.length
   rw[List.getElem?_append_right (by omega),M7 z n (j-z.length) (by omega)]
   rw[Nat.mod_eq_sub_mod (a:=j) (b:=z.length) (by omega)]
theorem ta(z:List AV)(n:Nat):(bU z n).length=n*z.length:=by
 induction n with
 | zero=>simp[bU]
 | succ n ih=>simp[bU,ih,Nat.succ_mul];omega
theorem CY{i:TI}{z:Value}(hz:nI i.zero z.cells.toList=true){n m:Nat}(BL:n≤m):(bU i.zero n).length≤(madeCells z.cells (m*i.zero.length)).size∧∀(k:Nat) (x:AV),(bU i.zero n)[k]?=some x→x.leaf=true∧ar F w x ((madeCells z.cells (m*i.zero.length)).getD k undef):=by
 obtain⟨h1,h2⟩:=tw (F:=F) (w:=w) hz
 have hle:n*i.zero.length≤m*i.zero.length:=Nat.mul_le_mul_right _ BL
 refine⟨by rw[ta,size_madeCells];exact hle,fun k x hx =>?_⟩
 have hk:k<n*i.zero.length:=by rw[← ta];exact (List.getElem?_eq_some_iff.1 hx).1
 rw[M7 _ _ _ hk]at hx
 obtain⟨h3,h4⟩:=h2 _ x hx
 refine⟨h3,?_⟩
 have ab:k<m*i.zero.length:=by omega
 have rh:0<i.zero.length:=by
  rcases Nat.eq_zero_or_pos i.zero.length with h0 | h0
  ·rw[h0]at hk;omega
  ·exact h0
 have QW:k % i.zero.length<z.cells.size:=by rw[← h1];exact Nat.mod_lt _ rh
 rw[h1]at h4 ab
 rw[h1]at QW
 simpa [madeCells,Array.getD,ab,h1,QW,Nat.mod_lt _ (h1▸rh)]using h4
end
section
variable {P:Program} {TT:TypeId→Option TI} {F F':Nat→Prop} {w w':World}
def iB(P:Program)(o:Oper)(ρ:Operand→AV)(σ:Hp)(K:AV→Hp→Prop):Prop:=
 ∀(a:Act) (F:Nat→Prop) (w:World),(∀x∈o.op.operands.toList,ar F w (ρ x) (a.eval x))→aM F w σ→∀(next:Act→World→Prop) (Q:Exit→Act→World→Prop),
  (∀v av σ' F' w',aQ F w F' w'→aM F' w' σ'→ar F' w' av v→K av σ'→next (a.put o.dst v) w')→wq P o a w next Q
theorem Rv{o:Oper}{ρ:Operand→AV}{σ:Hp}{K:AV→Hp→Prop}{v:AV}(h:Bl P o.op ρ σ v)(hk:K v σ):iB P o ρ σ K:=by
 intro a F w hx ay next Q hn
 obtain⟨v',h1,h2⟩:=h a.eval F w o rfl hx ay
 unfold wq
 rw[h1]
 exact hn v' v σ F w (.refl _ _) ay h2 hk
theorem Cj{o:Oper}{ρ:Operand→AV}{σ:Hp}{K:AV→Hp→Prop}{cs:List AV}{mk:Nat→AV}(hk:∀b,K (mk b) ((b,cs)::σ))
  (h:∀(η:Operand→Value) (F:Nat→Prop) (w:World),(∀x∈o.op.operands.toList,ar F w (ρ x) (η x))→∃(c:Array Value) (T:TypeId) (v:Value),(execOp η o).run P w=.ok (.value v) (w.alloc (.cells c T))∧cs.length≤c.size∧(∀(i:Nat) (x:AV),cs[i]?=some x→x.leaf=true∧ar F w x (c.getD i undef))∧ar F (w.alloc (.cells c T)) (mk w.heap.size) v):iB P o ρ σ K:=by
 intro a F w hx ay next Q hn
 obtain⟨c,T,v,h1,h2,h3,h4⟩:=h a.eval F w hx
 unfold wq
 rw[h1]
 obtain⟨ak,hr⟩:=KZ ay (T:=T) h2 h3 (w0:=w) (.inl rfl)
 exact hn v _ _ F _ ak hr h4 (hk _)
theorem Ry{x:AV}{v:Value}{cs:List AV}(h:ar F w x v)(hc:x.cells?=some cs):cs.length≤v.cells.size∧∀(i:Nat) (x:AV),cs[i]?=some x→x.leaf=true∧ar F w x (v.cells.getD i undef):=by
 obtain⟨h1,h2⟩:=Ge h hc
 exact⟨by omega,h2⟩
theorem Vg{o:Oper}{e:TypeId}{x:Operand}(ho:o.op=.box e x){ρ:Operand→AV}{σ:Hp}{K:AV→Hp→Prop}{cs:List AV}(hc:(ρ x).cells?=some cs)(hk:∀b,K (.ptr b 0) ((b,cs)::σ)):iB P o ρ σ K:=
 Cj hk fun η F w hx=>by
  have h1:=hx x (by simp[ho,Op.operands])
  obtain⟨h2,h3⟩:=Ry h1 hc
  exact⟨(η x).cells,e,.pointer (some ⟨w.heap.size,0,none⟩),by simp[execOp,ho,Instr.box,newVar,newRow],h2,h3,.ptr _ _ ⟨_,_,_,tE _ _⟩⟩
theorem SA(ok:cF P TT){o:Oper}{e:TypeId}(ho:o.op=.alloc e){ρ:Operand→AV}{σ:Hp}{K:AV→Hp→Prop}{i:TI}(hi:TT e=some i)(hk:∀b,K (.ptr b 0) ((b,i.zero)::σ)):iB P o ρ σ K:=
 Cj hk fun η F w hx=>by
  obtain⟨j,d,z,hj,hd,_,_,_,hz,fQ⟩:=cq ok hi
  obtain⟨h1,h2⟩:=tw (F:=F) (w:=w) fQ
  exact⟨z.cells,e,.pointer (some ⟨w.heap.size,0,none⟩),by simp[execOp,ho,Instr.alloc,newVar,newRow,zeroValue,typeInfo,hj,hz],by omega,h2,.ptr _ _ ⟨_,_,_,tE _ _⟩⟩
theorem Rg(ok:cF P TT){o:Oper}{t e:TypeId}{len:Nat}{parts:Array (Nat×Operand)}(ho:o.op=.buildSlice t len parts){ρ:Operand→AV}{σ:Hp}{K:AV→Hp→Prop}{it i:TI}(ht:TT t=some it)(eL:it.k=.slice e)(hi:TT e=some i){cs:List AV}
  (hf:pP ((List.range len).map fun j=>(j*i.size,i.size)) (bU i.zero len) (parts.toList.map fun p=>(p.1,ρ p.2))=some cs) (dz:len*i.size≤16777216) (rh:1≤i.size) (hk:∀b,K (.ae b 0 len i.size) ((b,cs)::σ)):iB P o ρ σ K:=
 Cj hk fun η F w hx=>by
  obtain⟨_,d,_,_,hd,_,_,ik,_,_⟩:=cq ok ht
  rw[eL]at ik
  obtain rfl:=iu ik
  obtain⟨j,d',z,hj,iL,hs,⟨_,mm⟩,_,hz,fQ⟩:=cq ok hi
  obtain⟨hl,hr⟩:=Me (parts:=parts) (ρ:=ρ) (η:=η) (F:=F) (w:=w) (by simpa [ho,Op.operands]using hx)
  have gU:z.cells.size=j.size:=by have:=(tw (F:=F) (w:=w) fQ).1;omega
  obtain⟨m1,m2⟩:=CY (F:=F) (w:=w) fQ (Nat.le_refl len)
  have fT:nq F w (bU i.zero len) (madeCells z.cells (len*i.zero.length)):=⟨by rw[ta,size_madeCells],m2⟩
  rw[mm,← hs]at fT
  obtain⟨dy,f1,f2⟩:=C4 (place:=fun k=>some (k*j.size,j.size)) (fun k p hk=>by
   obtain⟨a,ha,rfl⟩:=List.getElem?_eq_some_iff.1 hk
   simp[hs]) _ _ _ _ _ hl hr fT hf
  have ab2:dy.size=len*j.size:=by
   have e1:∀(us:List (Nat×AV)) (xs out:List AV),pP ((List.range len).map fun j=>(j*i.size,i.size)) xs us=some out→out.length=xs.length:=by
    intro us
    induction us with
    | nil=>intro xs out h;simp[pP]at h;subst h;rfl
    | cons p us ih =>
     intro xs out h
     obtain⟨q,v⟩:=p
     simp only[pP]at h
     split at h
     ·split at h
      ·rw[ih _ _ h,wW]
      ·cases h
     ·cases h
   have:=e1 _ _ _ hf
   rw[ta]at this
   have h3:=f2.1
   rw[mm,← hs]at this
   omega
  refine⟨dy,e,.slice (some ⟨w.heap.size,0,none⟩) len len,?_,by have:=f2.1;omega,f2.2,.ae _ _ _ _ _ _ ⟨dy,e,(0,0),tE _ _,Nat.le_refl _,?_,.inl ⟨rfl,by rw[ab2,hs];omega⟩⟩⟩
  ·by_cases h0:len*j.size=0
   ·have:dy = #[]:=Array.size_eq_zero_iff.1 (by omega)
    subst this
    have f1':Instr.fill (fun k=>some (k*j.size,j.size)) #[] (parts.map fun (i,x)=>(i,η x)).toList=some #[]:=by
     have e0:madeCells z.cells (len*j.size) = #[]:=by rw[h0];simp[madeCells,Array.range_zero']
     rw[e0]at f1
     exact f1
    simp only[execOp,ho,Instr.buildSlice,Sem.run_bind,run_underlying hd,Result.andThen_ok,run_sizeOf hj,h0,if_true,Sem.run_pure,Nat.reducePow,if_false,Nat.not_lt_zero,gt_iff_lt]
    rw[show ((Array.range 0).map fun x=>(#[]:Array Value)[x % (#[]:Array Value).size]!) = #[] by simp[Array.range_zero'],f1']
    rfl
   ·simp only[execOp,ho,Sem.run_bind,run_buildSlice w t e len _ dy j z hd hj hz (by rw[hs];omega) h0 f1]
    rfl
  ·have:len≤len*i.size:=Nat.le_mul_of_pos_right _ rh
   unfold maxLen;omega
theorem Ri(ok:cF P TT){o:Oper}{t e:TypeId}{l c:Operand}(ho:o.op=.makeSlice t l c){ρ:Operand→AV}{σ:Hp}{K:AV→Hp→Prop}{it i:TI}(ht:TT t=some it)(eL:it.k=.slice e)(hi:TT e=some i){k k':IntKind}{n m:Int}(hl:ρ l=.int k n)(hc:ρ c=.int k' m)
  (h0:0≤n∧n≤m∧m≤1048576∧i.bytes≤1024) (hk:∀b,K (.ae b 0 n.toNat i.size) ((b,bU i.zero n.toNat)::σ)):iB P o ρ σ K:=
 Cj hk fun η F w hx=>by
  obtain⟨_,d,_,_,hd,_,_,ik,_,_⟩:=cq ok ht
  rw[eL]at ik
  obtain rfl:=iu ik
  obtain⟨j,d',z,hj,iL,hs,⟨hb,mm⟩,_,hz,fQ⟩:=cq ok hi
  have h1:=hx l (by simp[ho,Op.operands]);rw[hl]at h1
  have h2:=hx c (by simp[ho,Op.operands]);rw[hc]at h2
  obtain⟨m1,m2⟩:=CY (F:=F) (w:=w) fQ (show n.toNat≤m.toNat by omega)
  rw[mm,← hs]at m1 m2
  have qq:(j.bytes:Int)*m≤281474976710656:=by
   have:(j.bytes:Int)*m≤1024*1048576:=Int.mul_le_mul (by omega) (by omega) (by omega) (by omega)
   omega
  refine⟨madeCells z.cells (m.toNat*j.size),e,.slice (some ⟨w.heap.size,0,none⟩) n.toNat m.toNat,?_,m1,m2,.ae _ _ _ _ _ _ ⟨_,e,(0,0),tE _ _,by omega,by unfold maxLen;omega,.inl ⟨rfl,by rw[size_madeCells,hs];omega⟩⟩⟩
  simp only[execOp,ho,h1.fk,h2.fk,Sem.run_bind,run_make w t e j z hd hj hz k k' n m h0.1 h0.2.1 qq (by omega)]
  rfl
end
section
variable {P:Program} {TT:TypeId→Option TI} {F F':Nat→Prop} {w w':World}
theorem FZ:∀(xs cs:List AV) (o k:Nat),o+xs.length≤cs.length→(eF cs o xs)[k]?=if o≤k∧k<o+xs.length then xs[k-o]? else cs[k]?
 | [],cs,o,k,_=>by rw[if_neg (by intro h;simp at h;omega)];rfl
 | x::xs,cs,o,k,h=>by
  simp only[List.length_cons]at h
  rw[eF,FZ xs (cs.set o x) (o+1) k (by simp;omega)]
  simp only[List.length_cons]
  by_cases h1:o+1≤k∧k<o+1+xs.length
  ·rw[if_pos h1,if_pos (by omega),show k-o=(k-(o+1))+1 by omega];rfl
  ·rw[if_neg h1]
   by_cases h2:o=k
   ·subst h2
    rw[if_pos (by omega),Nat.sub_self,List.getElem?_set]
    simp;omega
   ·rw[if_neg (by omega),List.getElem?_set,if_neg h2]
theorem X4(c vs:List Value)(o k:Nat)(h:o+vs.length≤c.length):(c.take o++vs++c.drop (o+vs.length))[k]?=if o≤k∧k<o+vs.length then vs[k-o]? else c[k]?:=by
 have hl:(c.take o).length=o:=by simp;omega
 by_cases h1:k<o
 ·rw[if_neg (by omega),List.append_assoc,List.getElem?_append_left (by omega),List.getElem?_take,if_pos h1]
 ·by_cases h2:k<o+vs.length
  ·rw[if_pos (by omega),List.append_assoc,List.getElem?_append_right (by omega),hl,List.getElem?_append_left (by omega)]
  ·rw[if_neg (by omega),List.getElem?_append_right (by simp;omega),List.getElem?_drop]
   congr 1
   simp;omega
theorem RB{i:TI}{cs cs':List AV}{o:Nat}{v:AV}(h:jq i cs o v=some cs'):∃vs,v.cells?=some vs∧vs.length=i.size∧o+i.size≤cs.length∧cs'=eF cs o vs:=by
 unfold jq at h
 split at h
 ·rename_i vs hv
  split at h
  ·rename_i h1 h2
   exact⟨vs,hv,Nat.eq_of_beq_eq_true h1,Nat.le_of_ble_eq_true h2,(Option.some.inj h).symm⟩
  ·cases h
 ·cases h
theorem CZ{c:Array Value}{cs xs:List AV}{vs:List Value}{o:Nat}(hc:∀(i:Nat) (x:AV),cs[i]?=some x→x.leaf=true∧ar F w x (c.getD i undef))(hx:xs.length=vs.length)(hv:∀(i:Nat) (x:AV),xs[i]?=some x→x.leaf=true∧ar F w x (vs.getD i undef))(ho:o+xs.length≤c.size)
  {out:List AV} (lM:out.length≤c.size) (Ez:∀k y,out[k]?=some y→(if o≤k∧k<o+xs.length then xs[k-o]? else cs[k]?)=some y) :
  ∀(i:Nat) (x:AV),out[i]?=some x→x.leaf=true∧ar F w x ((c.toList.take o++vs++c.toList.drop (o+vs.length)).toArray.getD i undef):=by
 intro k y hk
 have h1:=Ez k y hk
 have ab:k<out.length:=(List.getElem?_eq_some_iff.1 hk).1
 have abW:=X4 c.toList vs o k (by simp;omega)
 have wJ:k<c.size:=by omega
 have hlen:(c.toList.take o++vs++c.toList.drop (o+vs.length)).length=c.size:=by simp;omega
 have hgd:(c.toList.take o++vs++c.toList.drop (o+vs.length)).toArray.getD k undef=((c.toList.take o++vs++c.toList.drop (o+vs.length))[k]?).getD undef:=by
  have h2:k<(c.toList.take o++vs++c.toList.drop (o+vs.length)).toArray.size:=by rw[List.size_toArray,hlen];exact wJ
  simp only[Array.getD,h2,dif_pos]
  rw[List.getElem?_eq_getElem (by rw[hlen];exact wJ)]
  rfl
 rw[hgd,abW]
 split at h1
 ·rename_i de
  rw[if_pos (by omega)]
  obtain⟨h2,h3⟩:=hv _ y h1
  exact⟨h2,by rw[List.getD_eq_getElem?_getD]at h3;exact h3⟩
 ·rename_i de
  rw[if_neg (by omega)]
  obtain⟨h2,h3⟩:=hc _ y h1
  refine⟨h2,?_⟩
  simpa [Array.getD,wJ]using h3
theorem RT(ok:cF P TT){o:Oper}{t:TypeId}{p x:Operand}(ho:o.op=.store t p x){ρ:Operand→AV}{σ:Hp}{K:AV→Hp→Prop}{i:TI}(hi:TT t=some i){b off:Nat}(hp:ρ p=.ptr b off)(h:Du i σ b off (ρ x) (fun σ'=>K .any σ')):iB P o ρ σ K:=by
 intro a F w hx ay next Q hn
 obtain⟨j,cs,cs',h1,h2,go⟩:=h
 obtain⟨vs,hv,Fc,hle,rfl⟩:=RB h2
 obtain⟨jt,d,z,hj,hd,hs,_⟩:=cq ok hi
 have a1:=hx p (by simp[ho,Op.operands]);rw[hp]at a1
 have a2:=hx x (by simp[ho,Op.operands])
 obtain⟨c1,c2⟩:=Ge a2 hv
 obtain⟨hF,c,T,hc,dw,ny⟩:=(ay.holds _ (List.mem_of_getElem? h1)).cells a1.xd
 have dw:cs.length≤c.size:=dw
 have mb:∀u∈(a.eval x).cells.toList,u.oneCell'=true:=by
  intro u hu
  obtain⟨k,hk⟩:=List.mem_iff_getElem?.1 hu
  have ab:k<(a.eval x).cells.size:=by have:=(List.getElem?_eq_some_iff.1 hk).1;simpa using this
  obtain⟨h3,h4⟩:=c2 k vs[k] (by simp)
  have:=h4.one h3
  simpa [Array.getD,ab,show (a.eval x).cells[k]=u by simpa [ab]using hk]using this
 have ak:=run_storeCells_at (P:=P) b off T (a.eval x).cells.toList 0 c w hc (by simp[c1];omega) mb
 have ew:(execOp a.eval o).run P w=.ok .skip (w.setRow b (c.toList.take off++(a.eval x).cells.toList++c.toList.drop (off+(a.eval x).cells.toList.length)).toArray):=by
  simp only[Nat.add_zero]at ak
  have dz:¬((a.eval x).cells.size≠jt.size):=by rw[c1,Fc,hs];simp
  simp only[execOp,ho,a1.vX,Instr.storeAt,Instr.sureAddr,Sem.run_bind,Sem.run_pure,Result.andThen_ok,storeVar,run_sizeOf hj,if_neg dz,ak]
 unfold wq
 rw[ew]
 have hlen:(c.toList.take off++(a.eval x).cells.toList++c.toList.drop (off+(a.eval x).cells.toList.length)).length=c.size:=by simp;omega
 obtain⟨s1,s2⟩:=xc ay h1 (cs':=eF cs off vs) hc (c':=(c.toList.take off++(a.eval x).cells.toList++c.toList.drop (off+(a.eval x).cells.toList.length)).toArray) (by simp only[List.size_toArray];exact hlen) (by rw[wW];simp only[List.size_toArray];omega)
  (CZ (xs:=vs) ny (by simp[c1]) (fun k y hk=>by
   have ab:k<(a.eval x).cells.size:=by rw[c1];exact (List.getElem?_eq_some_iff.1 hk).1
   have:=c2 k y hk
   simpa [Array.getD,List.getD,ab]using this) (by omega) (by rw[wW];omega) (fun k y hk=>by rw[FZ _ _ _ _ (by omega)]at hk;exact hk))
  (fun k hk=>setRow_other w b k _ hk) (setRow_heap w b c _ T _ hc) rfl rfl rfl (by simp)
 exact hn undef .any _ F _ s1 s2 (.any _) go
theorem At.flat{α:Type}{f:α→List AV}{es:Nat}(hf:∀x,(f x).length=es){b:Nat}:∀(l:List α) (o:Nat),(∀i,(h:i<l.length)→At F w b (o+i*es) (f l[i]))→At F w b o (l.flatMap f)
 | [],o,_=>fun i x h=>by simp at h
 | y::l,o,h=>by
  have h0:=h 0 (by simp)
  have ih:=At.flat hf l (o+es) (fun i hi=>by
   have:=h (i+1) (by simpa using hi)
   rw[Nat.succ_mul,show o+(i*es+es)=o+es+i*es by omega]at this
   simpa using this)
  intro i x hx
  rw[List.flatMap_cons]at hx
  by_cases hi:i<es
  ·rw[List.getElem?_append_left (by rw[hf];exact hi)]at hx
   have:=h0 i x (by simpa using hx)
   simpa using this
  ·rw[List.getElem?_append_right (by rw[hf];omega),hf]at hx
   have:=ih (i-es) x hx
   rw[show o+es+(i-es)=o+i by omega]at this
   exact this
theorem uX{α:Type}{f:α→List AV}{es:Nat}(hf:∀x,(f x).length=es):∀(l:List α),(l.flatMap f).length=l.length*es
 | []=>by simp
 | y::l=>by rw[List.flatMap_cons,List.length_append,hf,uX hf l,List.length_cons,Nat.succ_mul];omega
theorem Ae{b o:Nat}{cs:List AV}(h:At F w b o cs):∃news:List Value,news.length=cs.length∧(∀j u,news[j]?=some u→w.cell? ⟨b,o+j,none⟩=some u)∧(∀(i:Nat) (x:AV),cs[i]?=some x→x.leaf=true∧ar F w x (news.getD i undef))∧∀u∈news,u.oneCell'=true:=by
 have hc:∀m,m<cs.length→∃v,w.cell? ⟨b,o+m,none⟩=some v∧v.oneCell'=true:=by
  intro m hm
  obtain⟨h1,v,h2,h3⟩:=h m cs[m] (by simp[hm])
  exact⟨v,h2,h3.one h1⟩
 refine⟨(List.range cs.length).map fun m=>(w.cell? ⟨b,o+m,none⟩).getD undef,by simp,fun j u hj =>?_,fun i x hx =>?_,fun u hu =>?_⟩
 ·have ab:j<cs.length:=by have:=(List.getElem?_eq_some_iff.1 hj).1;simpa using this
  obtain⟨v,h2,_⟩:=hc j ab
  simp[ab,h2]at hj
  rw[h2,hj]
 ·have ab:i<cs.length:=(List.getElem?_eq_some_iff.1 hx).1
  obtain⟨h1,v,h2,h3⟩:=h i x hx
  refine⟨h1,?_⟩
  simpa [List.getD,ab,h2]using h3
 ·obtain⟨m,hm,rfl⟩:=List.mem_map.1 hu
  obtain⟨v,h2,h3⟩:=hc m (List.mem_range.1 hm)
  rw[h2]
  exact h3
theorem zi{σ:Hp}{es n:Nat}{x:AV}{new:List AV}(h:iA σ es x n new)(ay:aM F w σ){v:Value}(hv:ar F w x v){tx e':TypeId}(hk:P.underlying tx=some (.slice e')):
  ∃news:List Value,Src P es tx v n news w∧new.length=news.length∧∀(i:Nat) (x:AV),new[i]?=some x→x.leaf=true∧ar F w x (news.getD i undef):=by
 have empty:∀(a:Option Addr) (c:Nat),Src P es tx (.slice a 0 c) 0 [] w:=by
  intro a c
  cases a with
  | none=>exact Src.ofNil w hk c
  | some a=>exact Src.ofSlice w hk a 0 c [] (by simp) (fun j u h=>by simp at h) (fun _ h=>by cases h)
 cases h with
 | af=>cases hv;exact⟨[],empty _ _,rfl,fun i x h=>by simp at h⟩
 | iV=>cases hv;exact⟨[],empty _ _,rfl,fun i x h=>by simp at h⟩
 | ft=>cases hv;exact⟨[],empty _ _,rfl,fun i x h=>by simp at h⟩
 | ah s l hs =>
  obtain⟨a,c,rfl,h1,h2,h3⟩:=hv.Bf
  by_cases aI:l=[]
  ·subst aI
   exact⟨[],empty _ _,rfl,fun i x h=>by simp at h⟩
  ·obtain⟨b,o,rfl,hF,hr⟩:=h3 aI
   have cW:At F w b o (l.flatMap s.cells):=At.flat (es:=s.size) (fun d=>Sh.rP s d) l o (fun i hi=>by
    obtain⟨cs',q1,q2,q3⟩:=hr i hi
    exact At.Oz s q2 q3)
   obtain⟨news,n1,n2,n3,n4⟩:=Ae cW
   have hl:=uX (fun d=>Sh.rP s d) l
   exact⟨news,Src.ofSlice w hk _ _ c news (by rw[n1,hl,hs]) (fun j u hj=>by rw[mF];exact n2 j u hj) n4,n1.symm,n3⟩
 | ae j b off len cs h1 h2 =>
  obtain⟨a,cap,rfl,c,T,fz,m1,m2,m3,m4⟩:=hv.jO
  have cW:At F w b off ((cs.drop off).take (n*es)):=by
   have:=(ay.at_ h1 ⟨c,T,fz,m1⟩).drop off
   rw[Nat.zero_add]at this
   intro i x hx
   rw[List.getElem?_take]at hx
   split at hx
   ·exact this i x hx
   ·cases hx
  have hl:((cs.drop off).take (n*es)).length=n*es:=by simp;omega
  obtain⟨news,n1,n2,n3,n4⟩:=Ae cW
  rcases m4 with ⟨rfl,_⟩ | ⟨q1,q2,rfl,rfl⟩
  ·exact⟨news,Src.ofSlice w hk _ _ cap news (by rw[n1,hl]) (fun j u hj=>by rw[mF];exact n2 j u hj) n4,n1.symm,n3⟩
  ·have h0:(List.take (0*es) (List.drop off cs))=[]:=by simp
   rw[h0]
   exact⟨[],empty _ _,rfl,fun i x h=>by simp at h⟩
theorem qz{η:Operand→Value}{o:Oper}{s x:Operand}{t t':TypeId}(ho:o.op=.call ⟨.builtin .append,#[s,x],#[t,t']⟩){v:Value}{w w':World}(h:(Builtin.append_ #[t,t'] o.type #[η s,η x]).run P w=.ok v w'):(execOp η o).run P w=.ok (.value v) w':=by
 rw[qD _ _ _ o ho]
 simp[builtin,h]
theorem SN(z:Array Value)(n:Nat):(Builtin.zeroCells z n).size=n*z.size:=by simp[Builtin.zeroCells]
theorem CK{σ:Hp}(ay:aM F w σ){e:TypeId}{i:TI}{z:Value}{olds news:List Value}{co cn:List AV}{len n cap:Nat}(ho:co.length=olds.length)(hn:cn.length=news.length)(hor:∀(i:Nat) (x:AV),co[i]?=some x→x.leaf=true∧ar F w x (olds.getD i undef))(hnr:∀(i:Nat) (x:AV),cn[i]?=some x→x.leaf=true∧ar F w x (news.getD i undef))
  (nw:olds.length=len*i.size) (hln:news.length=n*i.size) (gU:z.cells.size=i.size) (km:len+n≤cap) (lO:cap≤maxLen) :
  let w2:=w.drew.alloc (.cells ((olds++news).toArray++Builtin.zeroCells z.cells (cap-(len+n))) e)
  aQ F w F w2∧aM F w2 ((w.heap.size,co++cn)::σ)∧ar F w2 (.ae w.heap.size 0 (len+n) i.size) (.slice (some ⟨w.heap.size,0,none⟩) (len+n) cap):=by
 intro w2
 have dz:((olds++news).toArray++Builtin.zeroCells z.cells (cap-(len+n))).size=cap*i.size:=by
  simp only[Array.size_append,List.size_toArray,List.length_append,SN,gU,nw,hln]
  rw[← Nat.add_mul,← Nat.add_mul]
  congr 1
  omega
 obtain⟨h1,h2⟩:=KZ ay (c:=(olds++news).toArray++Builtin.zeroCells z.cells (cap-(len+n))) (T:=e) (cs:=co++cn) (by simp;omega) (fun k x hx=>by
  have ab:k<(co++cn).length:=(List.getElem?_eq_some_iff.1 hx).1
  have dm:k<(olds++news).length:=by simp at ab ⊢;omega
  have e1:((olds++news).toArray++Builtin.zeroCells z.cells (cap-(len+n))).getD k undef=(olds++news).getD k undef:=by
   rw[Array.getD_eq_getD_getElem?,Array.getElem?_append_left (by simpa using dm),List.getD_eq_getElem?_getD,List.getElem?_toArray]
  rw[e1]
  by_cases hk:k<co.length
  ·rw[List.getElem?_append_left hk]at hx
   rw[List.getD_eq_getElem?_getD,List.getElem?_append_left (by omega),← List.getD_eq_getElem?_getD]
   exact hor k x hx
  ·rw[List.getElem?_append_right (by omega)]at hx
   rw[List.getD_eq_getElem?_getD,List.getElem?_append_right (by omega),← List.getD_eq_getElem?_getD,← ho]
   exact hnr _ x hx) (w0:=w.drew) (.inr rfl)
 refine⟨h1,h2,.ae _ _ _ _ _ _ ⟨_,e,(0,0),?_,km,lO,.inl ⟨rfl,by rw[dz];omega⟩⟩⟩
 exact tE w.drew _
theorem Cb(ok:cF P TT){o:Oper}{s x:Operand}{t t' e e':TypeId}(ho:o.op=.call ⟨.builtin .append,#[s,x],#[t,t']⟩){ρ:Operand→AV}{σ:Hp}{K:AV→Hp→Prop}{it qe i:TI}(ht:TT t=some it)(hk:it.k=.slice e)(lJ:TT t'=some qe)(eL:qe.k=.slice e')(hi:TT e=some i)
  (h:Dv i σ (ρ s) (ρ x) K):iB P o ρ σ K:=by
 intro a F w hx ay next Q bY
 obtain⟨_,d,_,_,hd,_,_,ik,_,_⟩:=cq ok ht
 rw[hk]at ik
 obtain rfl:=iu ik
 obtain⟨_,d',_,_,iL,_,_,uh,_,_⟩:=cq ok lJ
 rw[eL]at uh
 obtain rfl:=iu uh
 obtain⟨j,dj,z,hj,JU,hs,⟨hb,mm⟩,_,hz,fQ⟩:=cq ok hi
 have gU:z.cells.size=i.size:=by have:=(tw (F:=F) (w:=w) fQ).1;omega
 have a1:=hx s (by simp[ho,Op.operands,Call.operands])
 have a2:=hx x (by simp[ho,Op.operands,Call.operands])
 have fits:∀{len n:Nat},len+n≤1048576→i.bytes≤1024→(len+n)*j.bytes≤140737488355328:=by
  intro len n h1 h2
  rw[hb]
  have:(len+n)*i.bytes≤1048576*1024:=Nat.mul_le_mul h1 h2
  omega
 cases h with
 | fresh n new gg sx hn wO h0 go same =>
  obtain⟨news,src,q1,q2⟩:=zi (P:=P) sx ay a2 iL
  rw[← hs]at src
  obtain⟨ad,hv⟩:∃ad,a.eval s=.slice ad 0 0:=by
   rcases gg with gg | gg
   ·rw[gg]at a1;revert a1;generalize a.eval s=u;intro a1;cases a1;exact⟨none,rfl⟩
   ·rw[gg]at a1;revert a1;generalize a.eval s=u;intro a1;cases a1;exact⟨_,rfl⟩
  by_cases eT:n=0
  ·subst eT
   have sn:news=[]:=List.length_eq_zero_iff.1 (by rw[src.newsLen];simp)
   subst sn
   have hr:=qz (η:=a.eval) ho (by rw[hv];exact run_append_nothing w t t' o.type e j hd hj ad 0 0 (Nat.le_refl _) _ src)
   unfold wq
   rw[hr]
   exact bY _ _ σ F w (.refl _ _) ay (by rw[← hv];exact a1) (same rfl)
  ·have hold:(Builtin.firstCells j.size 0 (.slice ad 0 0)).run P w.drew=.ok #[] w.drew:=by
    cases ad with
    | none=>exact run_firstCells_none w.drew _ _ _ _
    | some ad=>exact run_firstCells_some w.drew j.size 0 ad 0 0 [] (by simp) (fun j u h=>by simp at h)
   have vS:=run_append_grow_src (P:=P) w t t' o.type e j z hd hj hz ad 0 0 [] hold _ n news src (by omega) (by omega) (growslice_fits (by omega) (fits (by omega) wO))
   have au:=grownCap_ge w (0+n) 0 e
   have sX:=grownCap_le_maxLen w (0+n) 0 e (by unfold maxLen;omega)
   obtain⟨g1,g2,g3⟩:=CK ay (e:=e) (i:=i) (z:=z) (olds:=[]) (co:=[]) (news:=news) (cn:=new) (len:=0) (n:=n) (cap:=grownCap w (0+n) 0 e) rfl q1 (fun i x h=>by simp at h) q2 (by simp) (by rw[src.newsLen,hs]) gU au sX
   have hr:=qz (η:=a.eval) ho (by rw[hv];exact vS)
   unfold wq
   rw[hr]
   have:=go eT w.heap.size
   rw[show n=0+n from (Nat.zero_add n).symm]at this
   exact bY _ _ _ F _ g1 g2 g3 this
 | more jj b len n cs new oo qn dw sx hn wO h0 go =>
  obtain⟨news,src,q1,q2⟩:=zi (P:=P) sx ay a2 iL
  rw[oo]at a1
  obtain⟨ad,cap,hv,c,T,fz,m1,m2,m3,m4⟩:=a1.jO
  obtain⟨hF,c',T',jg,Bb,EB⟩:=(ay.holds _ (List.mem_of_getElem? qn)).cells ⟨c,T,fz,m1⟩
  have Bb:cs.length≤c'.size:=Bb
  have JY:c=c'∧T=T'∧fz=(0,0):=by
   rw[jg]at m1;cases m1;exact⟨rfl,rfl,rfl⟩
  obtain⟨rfl,rfl,rfl⟩:=JY
  have ab:jj<σ.length:=(List.getElem?_eq_some_iff.1 qn).1
  have rH:(cs.take (len*i.size)).length=len*i.size:=by simp;omega
  have I3:∀(k:Nat) (x:AV),(cs.take (len*i.size))[k]?=some x→x.leaf=true∧ar F w x (c.getD k undef):=by
   intro k x hx
   rw[List.getElem?_take]at hx
   split at hx
   ·exact EB k x hx
   ·cases hx
  have kf:aM F w (σ.eraseIdx jj):=ay.sub (List.eraseIdx_sublist _ _)
  by_cases l0:len+n≤cap
  ·rcases m4 with ⟨rfl,ni⟩ | ⟨rI,qv,fS,fT⟩
   ·rw[Nat.zero_add]at ni
    have hmul:(len+n)*i.size≤cap*i.size:=Nat.mul_le_mul_right _ l0
    rw[Nat.add_mul]at hmul
    have kl:news.length=n*i.size:=src.newsLen
    have ak:=run_storeCells_at (P:=P) b (len*i.size) T news 0 c w jg (by omega) src.one
    simp only[Nat.add_zero]at ak
    rw[← hs]at src
    have Bd:(Builtin.append_ #[t,t'] o.type #[.slice (some ⟨b,0,none⟩) len cap,a.eval x]).run P w=.ok (.slice (some ⟨b,0,none⟩) (len+n) cap) (w.setRow b (c.toList.take (len*i.size)++news++c.toList.drop (len*i.size+news.length)).toArray):=by
     rw[← hs]at ak ⊢
     simp[Builtin.append_,run_underlying hd,run_underlying iL,sizeOf,typeInfo,hj,src.len,l0,src.cells,Addr.add_lit,ak]
    have hr:=qz (η:=a.eval) ho (by rw[hv];exact Bd)
    have hlen:(c.toList.take (len*i.size)++news++c.toList.drop (len*i.size+news.length)).length=c.size:=by simp;omega
    obtain⟨s1,s2⟩:=xc ay qn (cs':=cs.take (len*i.size)++new) jg (c':=(c.toList.take (len*i.size)++news++c.toList.drop (len*i.size+news.length)).toArray) (by simp only[List.size_toArray];exact hlen) (by rw[List.size_toArray,hlen,List.length_append,rH,q1];omega)
     (CZ (cs:=cs.take (len*i.size)) (xs:=new) (fun k y hk=>I3 k y hk) q1 q2 (by omega) (by simp only[List.length_append,rH,q1];omega) (fun k y hk=>by
      by_cases qm:k<len*i.size
      ·rw[if_neg (by omega)]
       rw[List.getElem?_append_left (by omega)]at hk
       exact hk
      ·rw[List.getElem?_append_right (by omega),rH]at hk
       have:=(List.getElem?_eq_some_iff.1 hk).1
       rw[if_pos (by omega)]
       exact hk))
     (fun k hk=>setRow_other w b k _ hk) (setRow_heap w b c _ T _ jg) rfl rfl rfl (by simp)
    unfold wq
    rw[hr]
    refine bY _ _ _ F _ s1 (s2.perm ?_) ?_ (go b)
    ·have:=uT (σ.set jj (b,cs.take (len*i.size)++new)) jj (b,cs.take (len*i.size)++new) (by simp[ab])
     rw[List.eraseIdx_set_eq]at this
     exact this
    ·exact .ae _ _ _ _ _ _ ⟨_,T,(0,0),setRow_heap w b c _ T _ jg,by omega,m3,.inl ⟨rfl,by simp only[List.size_toArray];rw[hlen];omega⟩⟩
   ·subst fS;subst fT
    obtain rfl:n=0:=by omega
    have sn:news=[]:=List.length_eq_zero_iff.1 (by rw[src.newsLen];simp)
    subst sn
    rw[← hs]at src
    have fP:new=[]:=List.length_eq_zero_iff.1 (by simpa using q1)
    subst fP
    have hr:=qz (η:=a.eval) ho (by rw[hv];exact run_append_nothing w t t' o.type e j hd hj (some ad) 0 0 (Nat.le_refl _) _ src)
    unfold wq
    rw[hr]
    have l4:aM F w ((b,cs)::σ.eraseIdx jj):=ay.perm (uT σ jj (b,cs) qn)
    have g0:K (.ae b 0 0 i.size) ((b,[])::σ.eraseIdx jj):=by simpa using go b
    refine bY _ _ ((b,[])::σ.eraseIdx jj) F w (.refl _ _) ⟨l4.nodup,fun p hp =>?_,l4.low⟩ (.ae b 0 0 i.size ad 0 ⟨c,T,(0,0),jg,Nat.le_refl _,by unfold maxLen;omega,.inr ⟨rI,qv,rfl,rfl⟩⟩) g0
    rcases List.mem_cons.1 hp with rfl | hp
    ·exact⟨hF,.inl ⟨c,T,jg,by simp,fun i x h=>by simp at h⟩⟩
    ·exact l4.holds p (List.mem_cons_of_mem _ hp)
  ·obtain⟨olds,o1,o2,o3⟩:∃olds:List Value,olds.length=len*i.size∧(Builtin.firstCells i.size len (.slice (some ad) len cap)).run P w.drew=.ok olds.toArray w.drew∧∀(k:Nat) (x:AV),(cs.take (len*i.size))[k]?=some x→x.leaf=true∧ar F w x (olds.getD k undef):=by
    rcases m4 with ⟨rfl,ni⟩ | ⟨rI,qv,rfl,rfl⟩
    ·have cW:At F w b 0 (cs.take (len*i.size)):=by
      have:=ay.at_ qn ⟨_,_,_,jg⟩
      intro k x hx
      rw[List.getElem?_take]at hx
      split at hx
      ·exact this k x hx
      ·cases hx
     obtain⟨olds,n1,n2,n3,n4⟩:=Ae cW
     refine⟨olds,by rw[n1,rH],run_firstCells_some w.drew i.size len _ len cap olds (by rw[n1,rH]) (fun k u hk =>?_),n3⟩
     rw[mF]
     exact n2 k u hk
    ·exact⟨[],by simp,run_firstCells_some w.drew i.size 0 ad 0 0 [] (by simp) (fun j u h=>by simp at h),fun k x h=>by simp at h⟩
   have kl:news.length=n*i.size:=src.newsLen
   rw[← hs]at src
   have vS:=run_append_grow_src (P:=P) w t t' o.type e j z hd hj hz (some ad) len cap olds (by rw[hs];exact o2) _ n news src (by omega) (by omega) (growslice_fits (by omega) (fits (by omega) wO))
   have au:=grownCap_ge w (len+n) cap e
   have sX:=grownCap_le_maxLen w (len+n) cap e (by unfold maxLen;omega)
   obtain⟨g1,g2,g3⟩:=CK kf (e:=e) (i:=i) (z:=z) (olds:=olds) (co:=cs.take (len*i.size)) (news:=news) (cn:=new) (len:=len) (n:=n) (cap:=grownCap w (len+n) cap e) (by rw[rH,o1]) q1 o3 q2 o1 kl gU au sX
   have hr:=qz (η:=a.eval) ho (by rw[hv];exact vS)
   unfold wq
   rw[hr]
   exact bY _ _ _ F _ g1 g2 g3 (go w.heap.size)
 | xR jj b off len n cs new oo qn dw sx hn wO h0 uk go =>
  obtain⟨news,src,q1,q2⟩:=zi (P:=P) sx ay a2 iL
  rw[oo]at a1
  obtain⟨ad,cap,hv,c,T,fz,m1,m2,m3,m4⟩:=a1.jO
  obtain⟨hF,c',T',jg,Bb,EB⟩:=(ay.holds _ (List.mem_of_getElem? qn)).cells ⟨c,T,fz,m1⟩
  have Bb:cs.length≤c'.size:=Bb
  have JY:c=c'∧T=T'∧fz=(0,0):=by
   rw[jg]at m1;cases m1;exact⟨rfl,rfl,rfl⟩
  obtain⟨rfl,rfl,rfl⟩:=JY
  have ab:jj<σ.length:=(List.getElem?_eq_some_iff.1 qn).1
  have rH:(cs.take (off+len*i.size)).length=off+len*i.size:=by simp;omega
  have I4:((cs.drop off).take (len*i.size)).length=len*i.size:=by simp;omega
  have I3:∀(k:Nat) (x:AV),(cs.take (off+len*i.size))[k]?=some x→x.leaf=true∧ar F w x (c.getD k undef):=by
   intro k x hx
   rw[List.getElem?_take]at hx
   split at hx
   ·exact EB k x hx
   ·cases hx
  have kf:aM F w (σ.eraseIdx jj):=ay.sub (List.eraseIdx_sublist _ _)
  by_cases l0:len+n≤cap
  ·rcases m4 with ⟨rfl,ni⟩ | ⟨rI,qv,fS,fT⟩
   ·have ni:off+cap*i.size≤c.size:=ni
    have hmul:(len+n)*i.size≤cap*i.size:=Nat.mul_le_mul_right _ l0
    rw[Nat.add_mul]at hmul
    have kl:news.length=n*i.size:=src.newsLen
    have ak:=run_storeCells_at (P:=P) b (off+len*i.size) T news 0 c w jg (by omega) src.one
    simp only[Nat.add_zero]at ak
    rw[← hs]at src
    have Bd:(Builtin.append_ #[t,t'] o.type #[.slice (some ⟨b,off,none⟩) len cap,a.eval x]).run P w=.ok (.slice (some ⟨b,off,none⟩) (len+n) cap) (w.setRow b (c.toList.take (off+len*i.size)++news++c.toList.drop (off+len*i.size+news.length)).toArray):=by
     rw[← hs]at ak ⊢
     simp[Builtin.append_,run_underlying hd,run_underlying iL,sizeOf,typeInfo,hj,src.len,l0,src.cells,Addr.add_lit,ak]
    have hr:=qz (η:=a.eval) ho (by rw[hv];exact Bd)
    have hlen:(c.toList.take (off+len*i.size)++news++c.toList.drop (off+len*i.size+news.length)).length=c.size:=by simp;omega
    obtain⟨s1,s2⟩:=xc ay qn (cs':=cs.take (off+len*i.size)++new) jg (c':=(c.toList.take (off+len*i.size)++news++c.toList.drop (off+len*i.size+news.length)).toArray) (by simp only[List.size_toArray];exact hlen) (by rw[List.size_toArray,hlen,List.length_append,rH,q1];omega)
     (CZ (cs:=cs.take (off+len*i.size)) (xs:=new) (fun k y hk=>I3 k y hk) q1 q2 (by omega) (by simp only[List.length_append,rH,q1];omega) (fun k y hk=>by
      by_cases qm:k<off+len*i.size
      ·rw[if_neg (by omega)]
       rw[List.getElem?_append_left (by omega)]at hk
       exact hk
      ·rw[List.getElem?_append_right (by omega),rH]at hk
       have:=(List.getElem?_eq_some_iff.1 hk).1
       rw[if_pos (by omega)]
       exact hk))
     (fun k hk=>setRow_other w b k _ hk) (setRow_heap w b c _ T _ jg) rfl rfl rfl (by simp)
    unfold wq
    rw[hr]
    refine bY _ _ _ F _ s1 (s2.perm ?_) ?_ uk
    ·have:=uT (σ.set jj (b,cs.take (off+len*i.size)++new)) jj (b,cs.take (off+len*i.size)++new) (by simp[ab])
     rw[List.eraseIdx_set_eq]at this
     exact this
    ·exact .ae _ _ _ _ _ _ ⟨_,T,(0,0),setRow_heap w b c _ T _ jg,by omega,m3,.inl ⟨rfl,by simp only[List.size_toArray];rw[hlen];omega⟩⟩
   ·subst fS;subst fT
    obtain rfl:n=0:=by omega
    have sn:news=[]:=List.length_eq_zero_iff.1 (by rw[src.newsLen];simp)
    subst sn
    rw[← hs]at src
    have fP:new=[]:=List.length_eq_zero_iff.1 (by simpa using q1)
    subst fP
    have hr:=qz (η:=a.eval) ho (by rw[hv];exact run_append_nothing w t t' o.type e j hd hj (some ad) 0 0 (Nat.le_refl _) _ src)
    unfold wq
    rw[hr]
    have l4:aM F w ((b,cs)::σ.eraseIdx jj):=ay.perm (uT σ jj (b,cs) qn)
    have g0:K (.ae b off 0 i.size) ((b,cs.take off)::σ.eraseIdx jj):=by simpa using uk
    refine bY _ _ ((b,cs.take off)::σ.eraseIdx jj) F w (.refl _ _) ⟨l4.nodup,fun p hp =>?_,l4.low⟩ (.ae b off 0 i.size ad 0 ⟨c,T,(0,0),jg,Nat.le_refl _,by unfold maxLen;omega,.inr ⟨rI,qv,rfl,rfl⟩⟩) g0
    rcases List.mem_cons.1 hp with rfl | hp
    ·exact⟨hF,.inl ⟨c,T,jg,by simp only[List.length_take];omega,fun k x h=>by
      rw[List.getElem?_take]at h
      split at h
      ·exact EB k x h
      ·cases h⟩⟩
    ·exact l4.holds p (List.mem_cons_of_mem _ hp)
  ·obtain⟨olds,o1,o2,o3⟩:∃olds:List Value,olds.length=len*i.size∧(Builtin.firstCells i.size len (.slice (some ad) len cap)).run P w.drew=.ok olds.toArray w.drew∧∀(k:Nat) (x:AV),((cs.drop off).take (len*i.size))[k]?=some x→x.leaf=true∧ar F w x (olds.getD k undef):=by
    rcases m4 with ⟨rfl,ni⟩ | ⟨rI,qv,rfl,rfl⟩
    ·have cW:At F w b off ((cs.drop off).take (len*i.size)):=by
      have:=ay.at_ qn ⟨_,_,_,jg⟩
      intro k x hx
      rw[List.getElem?_take]at hx
      split at hx
      ·rw[List.getElem?_drop]at hx
       have h5:=this (off+k) x hx
       simpa only [Nat.zero_add]using h5
      ·cases hx
     obtain⟨olds,n1,n2,n3,n4⟩:=Ae cW
     refine⟨olds,by rw[n1,I4],run_firstCells_some w.drew i.size len _ len cap olds (by rw[n1,I4]) (fun k u hk =>?_),n3⟩
     rw[mF]
     exact n2 k u hk
    ·exact⟨[],by simp,run_firstCells_some w.drew i.size 0 ad 0 0 [] (by simp) (fun j u h=>by simp at h),fun k x h=>by simp at h⟩
   have kl:news.length=n*i.size:=src.newsLen
   rw[← hs]at src
   have vS:=run_append_grow_src (P:=P) w t t' o.type e j z hd hj hz (some ad) len cap olds (by rw[hs];exact o2) _ n news src (by omega) (by omega) (growslice_fits (by omega) (fits (by omega) wO))
   have au:=grownCap_ge w (len+n) cap e
   have sX:=grownCap_le_maxLen w (len+n) cap e (by unfold maxLen;omega)
   obtain⟨g1,g2,g3⟩:=CK kf (e:=e) (i:=i) (z:=z) (olds:=olds) (co:=(cs.drop off).take (len*i.size)) (news:=news) (cn:=new) (len:=len) (n:=n) (cap:=grownCap w (len+n) cap e) (by rw[I4,o1]) q1 o3 q2 o1 kl gU au sX
   have hr:=qz (η:=a.eval) ho (by rw[hv];exact vS)
   unfold wq
   rw[hr]
   exact bY _ _ _ F _ g1 g2 g3 (go w.heap.size)
theorem Rf(w:World)(t t' ty e:TypeId)(k:IntKind)(i:TypeInfo)(z:Value)(hd:P.underlying t=some (.slice e))(iL:P.underlying t'=some (.int k))(hi:P.info? e=some i)(hz:i.zero=some z)(k':IntKind)(m:Nat)(h0:0<m)(hm:m≤1048576)(hb:m*i.bytes≤140737488355328)(hs:0<i.size):
  (Builtin.append_ #[t,t'] ty #[.slice none 0 0,.int k' (m:Int)]).run P w=.ok (.slice (some ⟨w.heap.size,0,none⟩) m (grownCap w m 0 e)) (w.drew.alloc (.cells (([]++(Builtin.zeroCells z.cells m).toList).toArray++Builtin.zeroCells z.cells (grownCap w m 0 e-m)) e)):=by
 have hw:IntKind.i64.wrap (m:Int)=m:=by rw[IntKind.wrap_i64];omega
 have h1:¬((m:Int)<0):=by omega
 have h2:¬((281474976710656:Int)<(m:Int)*(i.bytes:Int)):=by
  have:((m*i.bytes:Nat):Int)≤140737488355328:=by omega
  rw[Int.natCast_mul]at this;omega
 have h3:¬(9223372036854775807<(m:Int)):=by omega
 have h4:¬(281474976710656<Builtin.nextslicecap m 0*i.bytes):=by rw[nextslicecap_zero h0];omega
 have h5:m≠0:=by omega
 have h6:i.size≠0:=by omega
 simp[Builtin.append_,run_underlying hd,run_underlying iL,sizeOf,typeInfo,zeroValue,hi,hz,asInt,asIntOf,hw,h1,h2,h3,h4,h5,Question.forced,run_firstCells_none,newRow,grownCap]
 intro h7
 exact absurd h7 (Nat.mul_ne_zero h5 h6)
theorem RA(ok:cF P TT){o:Oper}{s x:Operand}{t t' e:TypeId}{k:IntKind}(ho:o.op=.call ⟨.builtin .append,#[s,x],#[t,t']⟩){ρ:Operand→AV}{σ:Hp}{K:AV→Hp→Prop}{it qe i:TI}(ht:TT t=some it)(hk:it.k=.slice e)(lJ:TT t'=some qe)(eL:qe.k=.int k)(hi:TT e=some i)
  (h:Ah i σ (ρ s) (ρ x) K):iB P o ρ σ K:=by
 intro a F w hx ay next Q bY
 obtain⟨_,d,_,_,hd,_,_,ik,_,_⟩:=cq ok ht
 rw[hk]at ik
 obtain rfl:=iu ik
 obtain⟨_,d',_,_,iL,_,_,uh,_,_⟩:=cq ok lJ
 rw[eL]at uh
 obtain rfl:=fits_int uh
 obtain⟨j,dj,z,hj,JU,hs,⟨hb,mm⟩,_,hz,fQ⟩:=cq ok hi
 have gU:z.cells.size=i.size:=by have:=(tw (F:=F) (w:=w) fQ).1;omega
 have a1:=hx s (by simp[ho,Op.operands,Call.operands])
 have a2:=hx x (by simp[ho,Op.operands,Call.operands])
 cases h with
 | af k2 n gg BC hn wO h0 go same =>
  rw[gg]at a1
  rw[BC]at a2
  have e1:a.eval s=.slice none 0 0:=by revert a1;generalize a.eval s=u;intro a1;cases a1;rfl
  have e2:a.eval x=.int k2 n:=a2.fk
  by_cases eT:n=0
  ·subst eT
   have Bd:(Builtin.append_ #[t,t'] o.type #[.slice none 0 0,.int k2 0]).run P w=.ok (.slice none 0 0) w:=by
    have hw:IntKind.i64.wrap 0=0:=by decide
    simp[Builtin.append_,run_underlying hd,run_underlying iL,sizeOf,typeInfo,hj,asInt,asIntOf,hw]
   have hr:=qz (η:=a.eval) ho (by rw[e1,e2];exact Bd)
   unfold wq
   rw[hr]
   exact bY _ _ σ F w (.refl _ _) ay .af (same rfl)
  ·obtain⟨m,rfl⟩:∃m:Nat,n=m:=⟨n.toNat,by omega⟩
   have Fp:0<m:=by omega
   have hmul:m*j.bytes≤140737488355328:=by
    rw[hb]
    have:m*i.bytes≤1048576*1024:=Nat.mul_le_mul (by omega) wO
    omega
   have vS:=Rf (P:=P) w t t' o.type e k j z hd iL hj hz k2 m Fp (by omega) hmul (by omega)
   have au:=grownCap_ge w m 0 e
   have sX:=grownCap_le_maxLen w m 0 e (by unfold maxLen;omega)
   obtain⟨r1,r2⟩:=CY (F:=F) (w:=w) fQ (Nat.le_refl m)
   have jP:(madeCells z.cells (m*i.zero.length))=Builtin.zeroCells z.cells m:=by
    unfold madeCells Builtin.zeroCells
    rw[gU,mm]
   have dz:(Builtin.zeroCells z.cells m).size=m*i.zero.length:=by rw[← jP,size_madeCells]
   obtain⟨g1,g2,g3⟩:=CK ay (e:=e) (i:=i) (z:=z) (olds:=[]) (co:=[]) (news:=(Builtin.zeroCells z.cells m).toList) (cn:=bU i.zero m) (len:=0) (n:=m) (cap:=grownCap w m 0 e) rfl (by rw[ta,Array.length_toList,dz]) (fun i x h=>by simp at h) (fun k y hk=>by
    have:=r2 k y hk
    rw[jP]at this
    rw[List.getD_eq_getElem?_getD,Array.getElem?_toList,← Array.getD_eq_getD_getElem?]
    exact this) (by simp) (by rw[Array.length_toList,dz,mm]) gU (by rw[Nat.zero_add];exact au) sX
   rw[Nat.zero_add]at g1 g2 g3
   have hr:=qz (η:=a.eval) ho (by rw[e1,e2];exact vS)
   unfold wq
   rw[hr]
   exact bY _ _ _ F _ g1 g2 g3 (go (by omega) w.heap.size)
theorem RN(ok:cF P TT){o:Oper}{s x:Operand}{t t' e e':TypeId}(ho:o.op=.call ⟨.builtin .append,#[s,x],#[t,t']⟩){ρ:Operand→AV}{σ:Hp}{K:AV→Hp→Prop}{it qe i:TI}(ht:TT t=some it)(hk:it.k=.slice e)(lJ:TT t'=some qe)(eL:qe.k=.slice e')(hi:TT e=some i)
  (h:AppendAt i σ (ρ s) (ρ x) K):iB P o ρ σ K:=by
 cases h with
 | fresh n new hs hx hn hb h0 go same=>exact Cb ok ho ht hk lJ eL hi (.fresh n new hs hx hn hb h0 go same)
 | more j b len n cs new hs h1 h2 hx hn hb h0 go=>exact Cb ok ho ht hk lJ eL hi (.more j b len n cs new hs h1 h2 hx hn hb h0 go)
 | xR j b off len n cs new hs h1 h2 hx hn hb h0 uk go=>exact Cb ok ho ht hk lJ eL hi (.xR j b off len n cs new hs h1 h2 hx hn hb h0 uk go)
 | perm K2 hp h dm =>
  have:=Cb ok ho ht hk lJ eL hi h
  intro a F w hx ay next Q hn
  refine this a F w hx (ay.perm hp) next Q (fun v av σ' F' w' h1 h2 h3 h4 =>?_)
  obtain⟨wx,p,k | ⟨hl,k⟩⟩:=dm av σ' h4
  ·exact hn v av wx F' w' h1 (h2.perm p) h3 k
  ·exact hn v _ wx F' w' h1 (h2.perm p) (.via _ _ hl h3) k
end
section
variable {P:Program} {TT:TypeId→Option TI} {F:Nat→Prop} {w:World}
theorem GC{σ:Hp}(ay:aM F w σ){j b off:Nat}{cs:List AV}(h1:σ[j]?=some (b,cs))(JZ:lW w b)(xs:List AV)(news:List Value)(hl:xs.length=news.length)(hle:off+xs.length≤cs.length)(hv:∀(k:Nat) (y:AV),xs[k]?=some y→y.leaf=true∧ar F w y (news.getD k undef)):
  ∃w',(storeCells ⟨b,off,none⟩ news).run P w=.ok () w'∧aQ F w F w'∧aM F w' (σ.set j (b,eF cs off xs)):=by
 obtain⟨hF,c,T,hc,dw,ny⟩:=(ay.holds _ (List.mem_of_getElem? h1)).cells JZ
 have dw:cs.length≤c.size:=dw
 have mb:∀u∈news,u.oneCell'=true:=by
  intro u hu
  obtain⟨k,hk⟩:=List.mem_iff_getElem?.1 hu
  have ab:k<news.length:=(List.getElem?_eq_some_iff.1 hk).1
  obtain⟨h3,h4⟩:=hv k (xs[k]'(by omega)) (by simp)
  have:=h4.one h3
  rwa [List.getD_eq_getElem?_getD,hk]at this
 have ak:=run_storeCells_at (P:=P) b off T news 0 c w hc (by omega) mb
 simp only[Nat.add_zero]at ak
 have hlen:(c.toList.take off++news++c.toList.drop (off+news.length)).length=c.size:=by simp;omega
 obtain⟨s1,s2⟩:=xc ay h1 (cs':=eF cs off xs) hc (c':=(c.toList.take off++news++c.toList.drop (off+news.length)).toArray) (by simp only[List.size_toArray];exact hlen) (by rw[wW];simp only[List.size_toArray];omega)
  (CZ (xs:=xs) ny hl hv (by omega) (by rw[wW];omega) (fun k y hk=>by rw[FZ _ _ _ _ (by omega)]at hk;exact hk))
  (fun k hk=>setRow_other w b k _ hk) (setRow_heap w b c _ T _ hc) rfl rfl rfl (by simp)
 exact⟨_,ak,s1,s2⟩
theorem KJ{η:Operand→Value}{o:Oper}{s:Operand}{t:TypeId}(ho:o.op=.call ⟨.builtin .clear,#[s],#[t]⟩){v:Value}{w w':World}(h:(Builtin.clear_ #[t] o.type #[η s]).run P w=.ok v w'):(execOp η o).run P w=.ok (.value v) w':=by
 rw[qD _ _ _ o ho]
 simp[builtin,h]
theorem yX{η:Operand→Value}{o:Oper}{d x:Operand}{t t':TypeId}(ho:o.op=.call ⟨.builtin .copy,#[d,x],#[t,t']⟩){v:Value}{w w':World}(h:(Builtin.copy_ #[t,t'] o.type #[η d,η x]).run P w=.ok v w'):(execOp η o).run P w=.ok (.value v) w':=by
 rw[qD _ _ _ o ho]
 simp[builtin,h]
theorem GO{σ:Hp}{j:Nat}{p:Nat×List AV}(h:σ[j]?=some p):σ.set j p=σ:=by
 obtain⟨h1,h2⟩:=List.getElem?_eq_some_iff.1 h
 subst h2
 exact List.set_getElem_self h1
theorem Su(ok:cF P TT){o:Oper}{s:Operand}{t e:TypeId}(ho:o.op=.call ⟨.builtin .clear,#[s],#[t]⟩){ρ:Operand→AV}{σ:Hp}{K:AV→Hp→Prop}{it i:TI}(ht:TT t=some it)(hk:it.k=.slice e)(hi:TT e=some i)(h:HP i σ (ρ s) (fun σ'=>K (.tup []) σ')):iB P o ρ σ K:=by
 intro a F w hx ay next Q bY
 obtain⟨_,d,_,_,hd,_,_,ik,_,_⟩:=cq ok ht
 rw[hk]at ik
 obtain rfl:=iu ik
 obtain⟨j,dj,z,hj,JU,hs,⟨hb,mm⟩,_,hz,fQ⟩:=cq ok hi
 have a1:=hx s (by simp[ho,Op.operands,Call.operands])
 have e0:∀(ad:Option Addr) (c:Nat),(Builtin.clear_ #[t] o.type #[.slice ad 0 c]).run P w=.ok (.tuple #[]) w:=fun ad c=>by
  cases ad <;> simp[Builtin.clear_,run_underlying hd]
 have done:∀(ad:Option Addr) (c:Nat),a.eval s=.slice ad 0 c→K (.tup []) σ→wq P o a w next Q:=fun ad c hv hK=>by
  unfold wq
  rw[KJ (η:=a.eval) ho (by rw[hv];exact e0 ad c)]
  exact bY (.tuple #[]) _ σ F w (.refl _ _) ay (.tup _ _ rfl (fun i x h=>by simp at h)) hK
 cases h with
 | none hs go =>
  rcases hs with hs | hs | hs
  ·rw[hs]at a1;generalize hv:a.eval s=v at a1;cases a1;exact done _ _ hv go
  ·rw[hs]at a1;generalize hv:a.eval s=v at a1;cases a1;exact done _ _ hv go
  ·rw[hs]at a1;generalize hv:a.eval s=v at a1;cases a1;exact done _ _ hv go
 | ae j' b off len cs oo h1 h2 go =>
  rw[oo]at a1
  obtain⟨ad,cap,hv,c,T,fz,m1,m2,m3,m4⟩:=a1.jO
  by_cases fS:len=0
  ·subst fS
   refine done _ _ hv ?_
   have e:eF cs off (bU i.zero 0)=cs:=rfl
   rw[e,GO h1]at go
   exact go
  ·obtain⟨rfl,_⟩:ad=⟨b,off,none⟩∧off+cap*i.size≤c.size:=by
    rcases m4 with h | ⟨_,_,h,_⟩
    ·exact h
    ·exact absurd h fS
   obtain⟨r1,r2⟩:=CY (F:=F) (w:=w) fQ (Nat.le_refl len)
   have abP:z.cells.size=i.zero.length:=((tw (F:=F) (w:=w) fQ).1).symm
   have jP:(madeCells z.cells (len*i.zero.length))=Builtin.zeroCells z.cells len:=by
    unfold madeCells Builtin.zeroCells
    rw[abP]
   have dz:(Builtin.zeroCells z.cells len).size=len*i.zero.length:=by rw[← jP,size_madeCells]
   obtain⟨w',k1,k2,k3⟩:=GC (P:=P) ay h1 (off:=off) ⟨_,_,_,m1⟩ (bU i.zero len) (Builtin.zeroCells z.cells len).toList (by rw[ta,Array.length_toList,dz]) (by rw[ta,mm];exact h2) (fun k y hk=>by
    have:=r2 k y hk
    rw[jP]at this
    refine⟨this.1,?_⟩
    rw[List.getD_eq_getElem?_getD,Array.getElem?_toList,← Array.getD_eq_getD_getElem?]
    exact this.2)
   obtain⟨len,rfl⟩:∃m,len=m+1:=⟨len-1,by omega⟩
   have ew:(Builtin.clear_ #[t] o.type #[.slice (some ⟨b,off,none⟩) (len+1) cap]).run P w=.ok (.tuple #[]) w':=by
    simp[Builtin.clear_,run_underlying hd,zeroValue,typeInfo,hj,hz,k1]
   unfold wq
   rw[KJ (η:=a.eval) ho (by rw[hv];exact ew)]
   exact bY (.tuple #[]) _ _ F w' k2 k3 (.tup _ _ rfl (fun i x h=>by simp at h)) go
theorem Tu(ok:cF P TT){o:Oper}{d x:Operand}{t t' e e':TypeId}(ho:o.op=.call ⟨.builtin .copy,#[d,x],#[t,t']⟩){ρ:Operand→AV}{σ:Hp}{K:AV→Hp→Prop}{it qe i:TI}(ht:TT t=some it)(hk:it.k=.slice e)(lJ:TT t'=some qe)(eL:qe.k=.slice e')(hi:TT e=some i)
  (h:Ih i σ (ρ d) (ρ x) K):iB P o ρ σ K:=by
 intro a F w hx ay next Q bY
 obtain⟨_,dd,_,_,hd,_,_,ik,_,_⟩:=cq ok ht
 rw[hk]at ik
 obtain rfl:=iu ik
 obtain⟨_,d',_,_,iL,_,_,uh,_,_⟩:=cq ok lJ
 rw[eL]at uh
 obtain rfl:=iu uh
 obtain⟨j,dj,z,hj,JU,hs,_⟩:=cq ok hi
 have a1:=hx d (by simp[ho,Op.operands,Call.operands])
 have a2:=hx x (by simp[ho,Op.operands,Call.operands])
 cases h with
 | none new mu sx go =>
  obtain⟨news,src,q1,q2⟩:=zi (P:=P) sx ay a2 iL
  have sn:news=[]:=List.length_eq_zero_iff.1 (by rw[src.newsLen];simp)
  subst sn
  rw[← hs]at src
  obtain⟨ad,c,hv⟩:∃ad c,a.eval d=.slice ad 0 c:=by
   rcases mu with mu | mu | mu
   ·rw[mu]at a1;generalize a.eval d=v at a1;cases a1;exact⟨_,_,rfl⟩
   ·rw[mu]at a1;generalize a.eval d=v at a1;cases a1;exact⟨_,_,rfl⟩
   ·rw[mu]at a1;generalize a.eval d=v at a1;cases a1;exact⟨_,_,rfl⟩
  have ew:(Builtin.copy_ #[t,t'] o.type #[.slice ad 0 c,a.eval x]).run P w=.ok (goInt 0) w:=by
   cases ad <;> simp[Builtin.copy_,run_underlying hd,src.len,sizeOf,typeInfo,hj,src.cells,storeCells]
  unfold wq
  rw[yX (η:=a.eval) ho (by rw[hv];exact ew)]
  exact bY _ _ σ F w (.refl _ _) ay (.int _ _) go
 | ae jj b off len n cs new JT h1 h2 sx hn go =>
  obtain⟨news,src,q1,q2⟩:=zi (P:=P) sx ay a2 iL
  rw[JT]at a1
  obtain⟨ad,cap,hv,c,T,fz,m1,m2,m3,m4⟩:=a1.jO
  have kl:news.length=n*i.size:=src.newsLen
  have hmul:n*i.size≤len*i.size:=Nat.mul_le_mul_right _ hn
  rw[← hs]at src
  by_cases fS:len=0
  ·obtain rfl:n=0:=by omega
   have sn:news=[]:=List.length_eq_zero_iff.1 (by rw[kl];simp)
   subst sn
   have fP:new=[]:=List.length_eq_zero_iff.1 (by simpa using q1)
   subst fP
   subst fS
   have ew:(Builtin.copy_ #[t,t'] o.type #[.slice (some ad) 0 cap,a.eval x]).run P w=.ok (goInt 0) w:=by
    simp[Builtin.copy_,run_underlying hd,src.len,sizeOf,typeInfo,hj,src.cells,storeCells]
   unfold wq
   rw[yX (η:=a.eval) ho (by rw[hv];exact ew)]
   have e:eF cs off ([]:List AV)=cs:=rfl
   rw[e,GO h1]at go
   exact bY _ _ σ F w (.refl _ _) ay (.int _ _) go
  ·obtain⟨rfl,_⟩:ad=⟨b,off,none⟩∧off+cap*i.size≤c.size:=by
    rcases m4 with h | ⟨_,_,h,_⟩
    ·exact h
    ·exact absurd h fS
   obtain⟨w',k1,k2,k3⟩:=GC (P:=P) ay h1 (off:=off) ⟨_,_,_,m1⟩ new news q1 (by omega) q2
   have ew:(Builtin.copy_ #[t,t'] o.type #[.slice (some ⟨b,off,none⟩) len cap,a.eval x]).run P w=.ok (goInt n) w':=by
    simp[Builtin.copy_,run_underlying hd,src.len,sizeOf,typeInfo,hj,Nat.min_eq_left hn,src.cells,k1]
   unfold wq
   rw[yX (η:=a.eval) ho (by rw[hv];exact ew)]
   exact bY _ _ _ F w' k2 k3 (.int _ _) go
 | part jj b off len cs JT h1 h2 j2 b2 lu n jh hxm h3 h4 hn go =>
  rw[JT]at a1
  rw[hxm]at a2
  obtain⟨ad,cap,hv,c,T,fz,m1,m2,m3,m4⟩:=a1.jO
  obtain⟨a3,wk,hv3,c3,T3,FF,p1,p2,p3,p4⟩:=a2.jO
  have hmul:len*i.size≤n*i.size:=Nat.mul_le_mul_right _ hn
  by_cases fS:len=0
  ·subst fS
   have hc:(Builtin.firstCells i.size 0 (.slice (some a3) n wk)).run P w=.ok (([]:List Value).toArray) w:=run_firstCells_some w i.size 0 a3 n wk [] (by simp) (fun j u h=>by simp at h)
   rw[← hs]at hc
   have ew:(Builtin.copy_ #[t,t'] o.type #[.slice (some ad) 0 cap,.slice (some a3) n wk]).run P w=.ok (goInt 0) w:=by
    simp[Builtin.copy_,run_underlying hd,sizeOf,typeInfo,hj,Builtin.lenOf,hc,storeCells]
   unfold wq
   rw[yX (η:=a.eval) ho (by rw[hv,hv3];exact ew)]
   have e:eF cs off ((jh.drop lu).take (0*i.size))=cs:=by rw[Nat.zero_mul];rfl
   rw[e,GO h1]at go
   exact bY _ _ σ F w (.refl _ _) ay (.int _ _) go
  ·obtain⟨rfl,_⟩:ad=⟨b,off,none⟩∧off+cap*i.size≤c.size:=by
    rcases m4 with h | ⟨_,_,h,_⟩
    ·exact h
    ·exact absurd h fS
   obtain⟨rfl,_⟩:a3=⟨b2,lu,none⟩∧lu+wk*i.size≤c3.size:=by
    rcases p4 with h | ⟨_,_,h,_⟩
    ·exact h
    ·omega
   have cW:At F w b2 lu ((jh.drop lu).take (len*i.size)):=by
    have:=(ay.at_ h3 ⟨c3,T3,FF,p1⟩).drop lu
    rw[Nat.zero_add]at this
    intro i x hx
    rw[List.getElem?_take]at hx
    split at hx
    ·exact this i x hx
    ·cases hx
   have hl:((jh.drop lu).take (len*i.size)).length=len*i.size:=by simp;omega
   obtain⟨news,n1,n2,n3,n4⟩:=Ae cW
   have hc:(Builtin.firstCells i.size len (.slice (some ⟨b2,lu,none⟩) n wk)).run P w=.ok news.toArray w:=run_firstCells_some w i.size len _ n wk news (by rw[n1,hl]) (fun j u hj=>by rw[mF];exact n2 j u hj)
   rw[← hs]at hc
   obtain⟨w',k1,k2,k3⟩:=GC (P:=P) ay h1 (off:=off) ⟨_,_,_,m1⟩ ((jh.drop lu).take (len*i.size)) news n1.symm (by rw[hl];exact h2) n3
   have ew:(Builtin.copy_ #[t,t'] o.type #[.slice (some ⟨b,off,none⟩) len cap,.slice (some ⟨b2,lu,none⟩) n wk]).run P w=.ok (goInt len) w':=by
    simp[Builtin.copy_,run_underlying hd,sizeOf,typeInfo,hj,Builtin.lenOf,Nat.min_eq_right hn,hc,k1]
   unfold wq
   rw[yX (η:=a.eval) ho (by rw[hv,hv3];exact ew)]
   exact bY _ _ _ F w' k2 k3 (.int _ _) go
end
section
variable {P:Program} {TT:TypeId→Option TI}
theorem Rl{F:Nat→Prop}{w:World}:∀(s:Sh) (d:s.T) (vs:List Value),vs.length=s.size→(∀(k:Nat) (x:AV),(s.cells d)[k]?=some x→ar F w x (vs.getD k undef))→jv F w s vs d:=by
 intro s
 induction s with
 | int k=>intro d vs hl h;match vs,hl with | [v],_=>have:=(h 0 _ rfl).fk;exact congrArg (fun x=>[x]) this
 | bool=>intro d vs hl h;match vs,hl with | [v],_=>have:=(h 0 _ rfl).oX;exact congrArg (fun x=>[x]) this
 | str=>intro d vs hl h;match vs,hl with | [v],_=>have:=(h 0 _ rfl).AR;exact congrArg (fun x=>[x]) this
 | nil=>intro d vs hl h;exact List.length_eq_zero_iff.1 hl
 | slice e ih =>
  intro d vs hl h
  match vs,hl with
  | [v],_ =>
   have:=h 0 _ rfl
   cases this with
   | ah _ _ _ h=>exact h
 | field f r oh ij =>
  intro d vs hl h
  simp only[Sh.size]at hl
  refine⟨vs.take f.size,vs.drop f.size,(List.take_append_drop _ _).symm,by simp;omega,oh d.1 _ (by simp;omega) (fun k x hk =>?_),ij d.2 _ (by simp;omega) (fun k x hk =>?_)⟩
  ·have qm:k<f.size:=by rw[← Sh.rP f d.1];exact (List.getElem?_eq_some_iff.1 hk).1
   have:=h k x (by show (f.cells d.1++r.cells d.2)[k]?=some x;rw[List.getElem?_append_left (by rw[Sh.rP];exact qm)];exact hk)
   rw[List.getD_eq_getElem?_getD]at this ⊢
   rw[List.getElem?_take,if_pos qm]
   exact this
  ·have:=h (f.size+k) x (by show (f.cells d.1++r.cells d.2)[f.size+k]?=some x;rw[List.getElem?_append_right (by rw[Sh.rP];omega),Sh.rP,Nat.add_sub_cancel_left];exact hk)
   rw[List.getD_eq_getElem?_getD]at this ⊢
   rw[List.getElem?_drop]
   exact this
theorem flat_get{α:Type}{f:α→List AV}{es:Nat}(hf:∀x,(f x).length=es):∀(l:List α) (i:Nat) (h:i<l.length) (k:Nat),k<es→(l.flatMap f)[i*es+k]?=(f l[i])[k]?
 | [],i,h,_,_=>by simp at h
 | y::l,0,h,k,hk=>by rw[List.flatMap_cons,List.getElem?_append_left (by rw[hf];omega)];simp
 | y::l,i+1,h,k,hk=>by
  rw[List.flatMap_cons,List.getElem?_append_right (by rw[hf,Nat.succ_mul];omega),hf,show (i+1)*es+k-es=i*es+k by rw[Nat.succ_mul];omega]
  simpa using flat_get hf l i (by simpa using h) k hk
theorem WO{F:Nat→Prop}{w:World}{σ:Hp}(ay:aM F w σ){j b off len es:Nat}{cs:List AV}{e:Sh}{l:List e.T}(h1:σ[j]?=some (b,cs))(h2:(cs.drop off).take (len*es)=l.flatMap e.cells)(h3:l.length=len∧e.size=es∧0<es){v:Value}(hv:ar F w (.ae b off len es) v):
  ar (fun x=>F x∨x=b) w (.ah e l) v:=by
 obtain⟨hl,he,rh⟩:=h3
 have ak:aQ F w (fun x=>F x∨x=b) w:=⟨rfl,rfl,rfl,Nat.le_refl _,fun _ h=>.inl h,fun _ _=>rfl,fun _ c _ fz h=>⟨c,fz,h,rfl⟩,Nat.le_refl _⟩
 obtain⟨a,cap,rfl,c,T,fz,m1,m2,m3,m4⟩:=hv.jO
 subst hl
 refine .ah e l _ ⟨some a,cap,rfl,m2,m3,(fun e=>by cases e),fun aI =>?_⟩
 have ql:0<l.length:=List.length_pos_iff.2 aI
 rcases m4 with ⟨rfl,ni⟩ | ⟨_,_,h0,_⟩
 ·refine⟨b,off,rfl,⟨.inr rfl,c,T,fz,m1⟩,fun i hi =>?_⟩
  have cW:At F w b off ((cs.drop off).take (l.length*es)):=by
   have:=(ay.at_ h1 ⟨c,T,fz,m1⟩).drop off
   rw[Nat.zero_add]at this
   intro i x hx
   rw[List.getElem?_take]at hx
   split at hx
   ·exact this i x hx
   ·cases hx
  rw[h2]at cW
  have jP:∀k,k<es→∃x v,(e.cells l[i])[k]?=some x∧w.cell? ⟨b,off+i*es+k,none⟩=some v∧ar F w x v:=by
   intro k hk
   have hlen:k<(e.cells l[i]).length:=by rw[Sh.rP,he];exact hk
   have hx:=List.getElem?_eq_getElem hlen
   have:=flat_get (f:=e.cells) (es:=es) (fun d=>by rw[Sh.rP,he]) l i hi k hk
   obtain⟨_,v,h4,h5⟩:=cW (i*es+k) _ (this.trans hx)
   exact⟨_,v,hx,by rw[← h4,Nat.add_assoc],h5⟩
  refine⟨(List.range es).map fun k=>(w.cell? ⟨b,off+i*es+k,none⟩).getD undef,by simp[he],fun k u hk =>?_,Rl e l[i] _ (by simp[he]) (fun k x hk =>?_)⟩
  ·have BM:k<es:=by have:=(List.getElem?_eq_some_iff.1 hk).1;simpa using this
   obtain⟨x,v,_,h4,_⟩:=jP k BM
   simp[BM,h4]at hk
   rw[he,h4,hk]
  ·have BM:k<es:=by have:=(List.getElem?_eq_some_iff.1 hk).1;rw[Sh.rP,he]at this;exact this
   obtain⟨x',v,h3,h4,h5⟩:=jP k BM
   rw[h3]at hk
   cases hk
   have:ar F w x v:=h5
   simpa [List.getD,BM,h4]using this.mono ak
 ·omega
theorem yT{F F':Nat→Prop}{w:World}{b off len es:Nat}{e:Sh}{l:List e.T}(ak:aQ F w F' w)(hh:∀v,ar F w (.ae b off len es) v→ar F' w (.ah e l) v){r r':AV}(h:dP b off len es e l r r'):∀v,ar F w r v→ar F' w r' v:=by
 induction h with
 | here=>exact hh
 | refl x=>exact fun v h=>h.mono ak
 | tup xs ys h hi ih =>
  intro v hv
  cases hv with
  | tup _ vs hs hr =>
   refine .tup _ _ (by rw[← h];exact hs) (fun i y hy =>?_)
   have qp:i<xs.length:=by rw[h];exact (List.getElem?_eq_some_iff.1 hy).1
   exact ih i xs[i] y (List.getElem?_eq_getElem qp) hy _ (hr i _ (List.getElem?_eq_getElem qp))
 | agg xs ys h hl hi ih =>
  intro v hv
  obtain⟨vs,rfl,hs,hr⟩:=hv.sE
  refine .agg _ _ (by rw[← h];exact hs) hl (fun i y hy =>?_)
  have qp:i<xs.length:=by rw[h];exact (List.getElem?_eq_some_iff.1 hy).1
  exact ih i xs[i] y (List.getElem?_eq_getElem qp) hy _ (hr i _ (List.getElem?_eq_getElem qp)).2
 | nil e' =>
  intro v hv
  cases hv
  exact .ah e' [] _ ⟨none,0,rfl,Nat.le_refl _,by unfold maxLen;omega,fun _=>rfl,fun aI=>absurd rfl aI⟩
 | ft e' =>
  intro v hv
  cases hv with
  | ft a c h=>exact .ah e' [] _ ⟨some a,c,rfl,Nat.zero_le _,h,(fun e=>by cases e),fun aI=>absurd rfl aI⟩
 | via h ih =>
  intro v hv
  cases hv with
  | via _ _ _ hv=>exact ih v hv
theorem tS{F:Nat→Prop}{w:World}{σ:Hp}(ay:aM F w σ){j b off len es:Nat}{cs:List AV}{e:Sh}{l:List e.T}(h1:σ[j]?=some (b,cs))(h2:(cs.drop off).take (len*es)=l.flatMap e.cells)(h3:l.length=len∧e.size=es∧0<es):
  aQ F w (fun x=>F x∨x=b) w∧aM (fun x=>F x∨x=b) w (σ.eraseIdx j)∧∀v,ar F w (.ae b off len es) v→ar (fun x=>F x∨x=b) w (.ah e l) v:=by
 have ak:aQ F w (fun x=>F x∨x=b) w:=⟨rfl,rfl,rfl,Nat.le_refl _,fun _ h=>.inl h,fun _ _=>rfl,fun _ c _ fz h=>⟨c,fz,h,rfl⟩,Nat.le_refl _⟩
 have l4:aM F w ((b,cs)::σ.eraseIdx j):=ay.perm (uT σ j (b,cs) h1)
 have bB:=l4.nodup
 simp only[List.map_cons,List.nodup_cons]at bB
 have nX:aM (fun x=>F x∨x=b) w (σ.eraseIdx j):=⟨bB.2,fun p hp=>(l4.holds p (List.mem_cons_of_mem _ hp)).mono ak rfl (fun hF=>by
  rcases hF with hF | hF
  ·exact (l4.holds p (List.mem_cons_of_mem _ hp)).1 hF
  ·exact bB.1 (List.mem_map.2 ⟨p,hp,hF⟩)),fun x hx=>by
  rcases hx with hx | hx
  ·exact ay.low x hx
  ·subst hx;exact (l4.holds (x,cs) (List.mem_cons_self ..)).lt⟩
 exact⟨ak,nX,fun v hv=>WO ay h1 h2 h3 hv⟩
end
section
variable {P:Program} {TT:TypeId→Option TI}
theorem FV{F:Nat→Prop}{w:World}{xs:Array Operand}{ρ:Operand→AV}{η:Operand→Value}(h:∀x∈xs.toList,ar F w (ρ x) (η x)):gz F w (xs.toList.map ρ) (xs.map η):=by
 refine⟨by simp,fun i x hi =>?_⟩
 simp only[List.getElem?_map,Option.map_eq_some_iff]at hi
 obtain⟨a,h1,rfl⟩:=hi
 have ab:i<xs.size:=by have:=(List.getElem?_eq_some_iff.1 h1).1;simpa using this
 have:xs[i]=a:=by simpa [ab]using h1
 simpa [Array.getD,ab,this]using h a (List.mem_of_getElem? h1)
theorem Cc{F:Nat→Prop}{w:World}{xs ys:List AV}{us vs:Array Value}(h:gz F w xs us)(k:gz F w ys vs):gz F w (xs++ys) (us++vs):=by
 refine⟨by simp[h.1,k.1],fun i x hi =>?_⟩
 rw[Array.getD_eq_getD_getElem?]
 by_cases ab:i<xs.length
 ·rw[List.getElem?_append_left ab]at hi
  rw[Array.getElem?_append_left (by rw[← h.1];exact ab),← Array.getD_eq_getD_getElem?]
  exact h.2 i x hi
 ·rw[List.getElem?_append_right (by omega)]at hi
  rw[Array.getElem?_append_right (by rw[← h.1];omega),← Array.getD_eq_getD_getElem?,← h.1]
  exact k.2 _ x hi
theorem LY{F:Nat→Prop}{w:World}{x:AV}{v:Value}(h:ar F w x v):gz F w [x] #[v]:=⟨rfl,fun i y hi=>by cases i <;> simp at hi;subst hi;exact h⟩
theorem Ci{o:Oper}{ρ:Operand→AV}{σ:Hp}{K:AV→Hp→Prop}(h:iB P o (fun x=>bc (ρ x)) σ K):iB P o ρ σ K:=fun a F w hx=>h a F w (fun x hm=>(hx x hm).bc)
theorem KR{o:Oper}{c:Call}(ho:o.op=.call c){ρ:Operand→AV}{K:FuncId→List AV→Prop}{KY:Nat→List AV→Prop}(h:nG P c ρ K KY):
  (∃l xs,KY l xs∧∀(η:Operand→Value) (F:Nat→Prop) (w:World),(∀x∈o.op.operands.toList,ar F w (ρ x) (η x))→∃vs,gz F w xs vs∧execOp η o=Instr.yield l vs)∨∃f xs,K f xs∧∀(η:Operand→Value) (F:Nat→Prop) (w:World),(∀x∈o.op.operands.toList,ar F w (ρ x) (η x))→∃vs,gz F w xs vs∧(Enters P f→(execOp η o).run P w=.ok (.enter f vs) w):=by
 unfold nG at h
 split at h
 ·rename_i f0 hc
  split at h
  ·rename_i g first cap hf
   refine .inr ⟨g,_,h,fun η F w hx =>?_⟩
   have h1:=hx f0 (by simp[ho,Op.operands,Call.operands,hc])
   rw[hf]at h1
   have h2:=FV (xs:=c.args) (ρ:=fun x=>bc (ρ x)) (η:=η) (F:=F) (w:=w) (fun x hm=>(hx x (by simp only[ho,Op.operands,Call.operands,hc,Array.toList_append,List.mem_append];exact .inr hm)).bc)
   cases hv:η f0 with
   | func f' v1 v2 =>
    rw[hv]at h1
    obtain⟨rfl,r1,r2⟩:f'=.func g∧gz F w first v1∧gz F w cap v2:=by cases h1 with | fn _ _ _ _ _ dX fq h1 h2=>exact⟨rfl,⟨dX,h1⟩,⟨fq,h2⟩⟩
    refine⟨v1++c.args.map η++v2,Cc (Cc r1 h2) r2,fun he =>?_⟩
    simp only[execOp,ho,resolve,hc,Deferred.ofValue,hv,Sem.run_bind,Sem.run_pure,Result.andThen_ok,invoke]
    exact he _ _
   | _=>rw[hv]at h1;cases h1
  ·rename_i l hf
   refine .inl ⟨l,_,h,fun η F w hx =>?_⟩
   have h1:=hx f0 (by simp[ho,Op.operands,Call.operands,hc])
   rw[hf]at h1
   have h2:=FV (xs:=c.args) (ρ:=fun x=>bc (ρ x)) (η:=η) (F:=F) (w:=w) (fun x hm=>(hx x (by simp only[ho,Op.operands,Call.operands,hc,Array.toList_append,List.mem_append];exact .inr hm)).bc)
   cases hv:η f0 with
   | func f' v1 v2 =>
    rw[hv]at h1
    obtain⟨rfl,r1,r2⟩:f'=.yield l∧v1 = #[]∧v2 = #[]:=by cases h1 with | fn _ _ _ _ _ dX fq h1 h2=>exact⟨rfl,Array.size_eq_zero_iff.1 dX.symm,Array.size_eq_zero_iff.1 fq.symm⟩
    subst r1 r2
    refine⟨c.args.map η,h2,?_⟩
    simp only[execOp,ho,resolve,hc,Deferred.ofValue,hv,pure_bind,invoke]
    simp
   | _=>rw[hv]at h1;cases h1
  ·exact h.elim
 ·rename_i r m hc
  have fin:∀(t:TypeId) (v:AV),ρ r=.iface t v→(∀F w u,ar F w v u→∃ad,u=.pointer (some ad))→InvAt P t m (fun g=>K g (v::c.args.toList.map fun x=>bc (ρ x)))→
    ∃f xs,K f xs∧∀(η:Operand→Value) (F:Nat→Prop) (w:World),(∀x∈o.op.operands.toList,ar F w (ρ x) (η x))→∃vs,gz F w xs vs∧(Enters P f→(execOp η o).run P w=.ok (.enter f vs) w):=by
   rintro t v hr hp ⟨g,hm,go⟩
   refine⟨g,_,go,fun η F w hx =>?_⟩
   have h1:=hx r (by simp[ho,Op.operands,Call.operands,hc])
   rw[hr]at h1
   have h2:=FV (xs:=c.args) (ρ:=fun x=>bc (ρ x)) (η:=η) (F:=F) (w:=w) (fun x hm=>(hx x (by simp only[ho,Op.operands,Call.operands,hc,Array.toList_append,List.mem_append];exact .inr hm)).bc)
   cases hv:η r with
   | iface t' u =>
    rw[hv]at h1
    obtain⟨rfl,hu⟩:t'=t∧ar F w v u:=by cases h1 with | iface _ _ _ h=>exact⟨rfl,h⟩
    obtain⟨ad,rfl⟩:=hp F w u hu
    refine⟨#[.pointer (some ad)]++c.args.map η,(show gz F w ([v]++c.args.toList.map fun x=>bc (ρ x)) _ from Cc (LY hu) h2),fun he =>?_⟩
    have hex:(#[η r]++c.args.map η).extract 1 (#[η r]++c.args.map η).size=c.args.map η:=by
     apply Array.ext'
     simp
     exact List.take_of_length_le (by simp)
    have h0:(#[η r]++c.args.map η)[0]?=some (η r):=by rw[Array.getElem?_append_left (by simp)];rfl
    have hinv:invoke (.fn (.method m) #[]) (#[η r]++c.args.map η)=callMethod (η r) m (c.args.map η):=by
     unfold invoke
     simp only[h0]
     exact congrArg (callMethod (η r) m) hex
    have sX:(callMethod (η r) m (c.args.map η)).run P w=.ok (.enter g (#[.pointer (some ad)]++c.args.map η)) w:=by
     rw[hv]
     unfold callMethod
     have aH:=hm ad w
     simp only[Sem.run_bind,run_program,Result.andThen_ok,aH]
     exact he _ _
    simp only[execOp,ho,resolve,hc,Sem.run_bind,Sem.run_pure,Result.andThen_ok,hinv,sX]
   | _=>rw[hv]at h1;cases h1
  split at h
  ·rename_i t b o' hr
   exact .inr <| fin t _ hr (fun F w u hu=>⟨_,hu.vX⟩) h
  ·rename_i t cs hr
   exact .inr <| fin t _ hr (fun F w u hu=>by obtain⟨b,o',e,_⟩:=hu.vv;exact⟨_,e⟩) h
  ·exact h.elim
 ·exact h.elim
theorem C2{F F':Nat→Prop}{w:World}{σ:Hp}(ay:aM F' w σ){b off len es:Nat}{e:Sh}{l:List e.T}(hh:∀v,ar F w (.ae b off len es) v→ar F' w (.ah e l) v){i k b':Nat}{cs:List AV}(hi:σ[i]?=some (b',cs))(hk:cs[k]?=some (.ae b off len es)):aM F' w (σ.set i (b',cs.set k (.ah e l))):=by
 have ab:i<σ.length:=(List.getElem?_eq_some_iff.1 hi).1
 have AA:(σ.set i (b',cs.set k (.ah e l))).map Prod.fst=σ.map Prod.fst:=by
  rw[List.map_set]
  apply List.ext_getElem?
  intro n
  rw[List.getElem?_set]
  split
  ·rename_i e;subst e
   have:=(List.getElem?_eq_some_iff.1 hi).2
   simp[ab,this]
  ·rfl
 refine⟨AA▸ay.nodup,fun p hm =>?_,ay.low⟩
 rcases List.mem_or_eq_of_mem_set hm with hm | rfl
 ·exact ay.holds p hm
 ·obtain⟨hF,c,T,h1,h2,h3⟩:=(ay.holds _ (List.mem_of_getElem? hi)).It hk rfl
  refine⟨hF,.inl ⟨c,T,h1,by simpa using h2,fun n x hn =>?_⟩⟩
  rw[List.getElem?_set]at hn
  split at hn
  ·rename_i e;subst e
   split at hn
   ·cases hn
    refine⟨rfl,hh _ ?_⟩
    have:=(h3 k _ hk).2
    revert this
    generalize c.getD k undef=v
    intro this
    cases this with
    | ae _ _ _ _ a cap h=>exact .ae _ _ _ _ a cap h
   ·cases hn
  ·exact h3 n x hn
theorem Cu{f:FuncId}{xs:List AV}{σ:Hp}{K:AV→Hp→Prop}(h:CallAt P f K xs σ):ACalls P f xs σ K:=by
 induction h with
 | mk js R call go =>
  obtain⟨mc,fF⟩:=call
  refine⟨mc,fun F w vs bz ay=>(fF F w vs bz (ay.perm (vc js _))).mono ?_⟩
  rintro e w' ⟨r,v,σ',F',rfl,h1,h2,h3,h4⟩
  exact⟨r,v,σ',F',rfl,h1,h2,h3,go r σ' h4⟩
 | perm R hp call go =>
  obtain⟨mc,fF⟩:=call
  refine⟨mc,fun F w vs bz ay=>(fF F w vs bz (ay.perm hp)).mono ?_⟩
  rintro e w' ⟨r,v,σ',F',rfl,h1,h2,h3,h4⟩
  obtain⟨dh,k1,k2⟩:=go r σ' h4
  exact⟨r,v,dh,F',rfl,h1,h2.perm k1,h3,k2⟩
 | iU j b off len es cs e l h1 h2 h3 i k b' cs' hi hk h ih =>
  obtain⟨mc,fF⟩:=ih
  refine⟨mc,fun F w vs bz ay =>?_⟩
  obtain⟨ak,nX,hh⟩:=tS ay h1 h2 h3
  refine (fF _ w vs (bz.mono ak) (C2 nX hh hi hk)).mono ?_
  rintro e w' ⟨r,v,σ',F',rfl,q1,q2,q3,q4⟩
  exact⟨r,v,σ',F',rfl,ak.trans q1,q2,q3,q4⟩
 | cb j b off len es cs e l h1 h2 h3 h4 h ih =>
  obtain⟨mc,fF⟩:=ih
  refine⟨mc,fun F w vs bz ay =>?_⟩
  obtain⟨ak,nX,hh⟩:=tS ay h1 h2 h3
  have hv:=yT ak hh h4 (.tuple vs) (.tup _ _ bz.1 bz.2)
  cases hv with
  | tup _ _ hs hr =>
   refine (fF _ w vs ⟨hs,hr⟩ nX).mono ?_
   rintro e w' ⟨r,v,σ',F',rfl,h1,h2,h3,h4⟩
   exact⟨r,v,σ',F',rfl,ak.trans h1,h2,h3,h4⟩
theorem RM{o:Oper}{c:Call}(ho:o.op=.call c){ρ:Operand→AV}{σ:Hp}{K:AV→Hp→Prop}(h:nG P c ρ (fun f xs=>CallAt P f K xs σ) (fun l xs=>tO P l K xs σ)):iB P o ρ σ K:=by
 rcases KR ho h with ⟨l,xs,hc,ew⟩ | ⟨f,xs,hc,ew⟩
 ·intro a F w hx ay next Q hn
  obtain⟨vs,bz,hr⟩:=ew a.eval F w hx
  unfold wq
  rw[hr]
  cases hc with
  | mk js R call go =>
   obtain⟨f,tmps,assign,body,h1,h2⟩:=call F w vs bz (ay.perm (vc js σ))
   rw[h1]
   refine RoundIn.mono h2 ?_
   rintro e w' ⟨r,v,σ',F',rfl,h1,h2,h3,h4⟩
   exact⟨v,rfl,hn v r σ' F' w' h1 h2 h3 (go _ _ h4)⟩
  | perm R hp call go =>
   obtain⟨f,tmps,assign,body,h1,h2⟩:=call F w vs bz (ay.perm hp)
   rw[h1]
   refine RoundIn.mono h2 ?_
   rintro e w' ⟨r,v,σ',F',rfl,h1,h2,h3,h4⟩
   obtain⟨dh,k1,k2⟩:=go _ _ h4
   exact⟨v,rfl,hn v r dh F' w' h1 (h2.perm k1) h3 k2⟩
 obtain⟨mc,fF⟩:=Cu hc
 intro a F w hx ay next Q hn
 obtain⟨vs,bz,hr⟩:=ew a.eval F w hx
 unfold wq
 rw[hr mc]
 refine (fF F w vs bz ay).mono ?_
 rintro e w' ⟨r,v,σ',F',rfl,h1,h2,h3,h4⟩
 exact⟨v,rfl,hn v r σ' F' w' h1 h2 h3 h4⟩
theorem Ru{o:Oper}{t:TypeId}(ho:o.op=.makeMap t none){ρ:Operand→AV}{σ:Hp}{K:AV→Hp→Prop}(hk:∀b,K (.lA b) ((b,[.l9 []])::σ)):iB P o ρ σ K:=by
 intro a F w hx ay next Q hn
 have ew:(execOp a.eval o).run P w=.ok (.value (.map (some w.heap.size))) (w.alloc (.map #[] 0)):=by
  have e:(Instr.makeMap t none).run P w=.ok (.map (some w.heap.size)) (w.alloc (.map #[] 0)):=rfl
  simp[execOp,ho,e,Result.andThen]
 unfold wq
 rw[ew]
 have hold:∀b,b<w.heap.size→(w.alloc (.map #[] 0)).heap[b]?=w.heap[b]?:=fun b hb=>Below.heap_alloc _ _ b hb
 have ak:aQ F w F (w.alloc (.map #[] 0)):=uW ay.low rfl rfl rfl (by simp) hold
 have hr:=ay.same ak hold
 have fP:(w.alloc (.map #[] 0)).heap[w.heap.size]?=some (.map #[] 0):=tE _ _
 refine hn _ (.lA w.heap.size) _ F _ ak ⟨?_,fun p hm =>?_,hr.low⟩ (.lA _) (hk _)
 ·simp only[List.map_cons,List.nodup_cons]
  refine⟨fun hm =>?_,ay.nodup⟩
  obtain⟨p,hp,e⟩:=List.mem_map.1 hm
  have:=(ay.holds p hp).lt
  omega
 ·rcases List.mem_cons.1 hm with rfl | hm
  ·exact⟨fun hF=>Nat.lt_irrefl _ (ay.low _ hF),.inr (.inl ⟨_,_,rfl,fP,rfl⟩)⟩
  ·exact hr.holds p hm
theorem Lt{σ:Hp}{F:Nat→Prop}{w:World}(h:aM F w σ){j b:Nat}{x x':AV}{o o':Obj}(ho:ud x=some o)(eZ:ud x'=some o')(hj:σ[j]?=some (b,[x])):
  aQ F w F { w with heap:=w.heap.setIfInBounds b o' }∧aM F { w with heap:=w.heap.setIfInBounds b o' } (σ.set j (b,[x'])):=by
 obtain⟨hb,hc⟩:=(h.holds (b,[x]) (List.mem_of_getElem? hj)).Et ho
 have ab:j<σ.length:=(List.getElem?_eq_some_iff.1 hj).1
 obtain⟨Fa,hw⟩:=MapKept.heap_set (o':=o') hc
 have ak:aQ F w F { w with heap:=w.heap.setIfInBounds b o' }:=⟨rfl,rfl,rfl,by simp,fun _ h=>h,fun k hF=>hw k (fun e=>hb (e▸hF)),fun k d S fz hk=>by
  by_cases e:k=b
  ·subst e
   rw[hc]at hk
   cases hk
   exact (Lz ho).elim
  ·exact⟨d,fz,(hw k e).trans hk,rfl⟩,Nat.le_refl _⟩
 have AA:(σ.set j (b,[x'])).map Prod.fst=σ.map Prod.fst:=by
  rw[List.map_set]
  apply List.ext_getElem?
  intro k
  rw[List.getElem?_set]
  split
  ·rename_i e;subst e
   simp[ab]
   have:=(List.getElem?_eq_some_iff.1 hj).2
   rw[this]
  ·rfl
 refine⟨ak,⟨AA▸h.nodup,fun p hm =>?_,fun k hF=>by simpa using h.low k hF⟩⟩
 obtain⟨k,hk⟩:=List.mem_iff_getElem?.1 hm
 rw[List.getElem?_set]at hk
 split at hk
 ·rename_i e;subst e
  simp at hk
  obtain⟨_,rfl⟩:=hk
  exact⟨hb,.inr (.inl ⟨_,_,rfl,Fa,eZ⟩)⟩
 ·rename_i aI
  have aH:=List.mem_of_getElem? hk
  have ot:p.1≠b:=fun e=>by
   have bB:=h.nodup
   have h1:(σ.map Prod.fst)[k]?=some b:=by rw[List.getElem?_map,hk];simp[e]
   have h2:(σ.map Prod.fst)[j]?=some b:=by rw[List.getElem?_map,hj];rfl
   have eL:k<(σ.map Prod.fst).length:=(List.getElem?_eq_some_iff.1 h1).1
   have:=(List.getElem?_inj (i:=k) (j:=j) eL bB).1 (h1.trans h2.symm)
   exact aI this.symm
  exact (h.holds p aH).mono ak (hw _ ot) (h.holds p aH).1
theorem SR{σ:Hp}{F:Nat→Prop}{w:World}(h:aM F w σ){j b:Nat}{l l':List (Int×Int)}(hj:σ[j]?=some (b,[.l9 l])):
  aQ F w F { w with heap:=w.heap.setIfInBounds b (.map (eW 0 l').toArray l'.length) }∧aM F { w with heap:=w.heap.setIfInBounds b (.map (eW 0 l').toArray l'.length) } (σ.set j (b,[.l9 l'])):=Lt h rfl rfl hj
theorem KN(ok:cF P TT){o:Oper}{t:TypeId}{m k x:Operand}(ho:o.op=.mapUpdate t m k x∨o.op=.insert t m k x){ρ:Operand→AV}{σ:Hp}{K:AV→Hp→Prop}(h:xt TT t (bc (ρ m)) (bc (ρ k)) (bc (ρ x)) σ K):iB P o ρ σ K:=by
 intro a F w hx ay next Q hn
 unfold xt at h
 split at h
 ·rename_i z n v hz hk yB
  obtain⟨kt,et,h1,h2,h3⟩:=GA ok hz
  obtain⟨j,b,l,hm,hj,go⟩:=h
  have wh:m∈o.op.operands.toList∧k∈o.op.operands.toList∧x∈o.op.operands.toList:=by rcases ho with ho | ho <;> simp[ho,Op.operands]
  have a1:=(hx m wh.1).bc
  rw[hm]at a1
  have a2:=(hx k wh.2.1).bc
  rw[hk]at a2
  have a3:=(hx x wh.2.2).bc
  rw[yB]at a3
  have e1:a.eval m=.map (some b):=a1.Ip
  have e2:a.eval k=.int .i64 n:=a2.fk
  have e3:a.eval x=.int .i64 v:=a3.fk
  obtain⟨_,hb⟩:=(ay.holds _ (List.mem_of_getElem? hj)).A2
  have ew:(execOp a.eval o).run P w=.ok .skip { w with heap:=w.heap.setIfInBounds b (.map (eW 0 (o7 l n v)).toArray (o7 l n v).length) }:=by
   rcases ho with ho | ho <;> simp[execOp,ho,e1,e2,e3,R0 h1 h2 hb n v,Result.andThen]
  unfold wq
  rw[ew]
  obtain⟨s1,s2⟩:=SR ay (l':=o7 l n v) hj
  exact hn undef .any _ F _ s1 s2 (.any _) go
 ·exact h.elim
theorem GI:∀(l:List (Int×Int)) (m:Nat) (e:MapEntry),e∈eW m l→∃(i:Nat) (p:Int×Int),l[i]?=some p∧e = { key:=.int .i64 p.1,val:=.int .i64 p.2,born:=m+i }
 | [],_,_,h=>by cases h
 | p::l,m,e,h=>by
  rcases List.mem_cons.1 h with rfl | h
  ·exact⟨0,p,rfl,rfl⟩
  ·obtain⟨i,q,h1,h2⟩:=GI l (m+1) e h
   exact⟨i+1,q,h1,by rw[h2];simp only[MapEntry.mk.injEq,true_and];omega⟩
theorem Nu{l:List (Int×Int)}{m i:Nat}{p:Int×Int}(h:l[i]?=some p):({ key:=.int .i64 p.1,val:=.int .i64 p.2,born:=m+i }:MapEntry)∈eW m l:=
 List.mem_of_getElem? (i:=i) (by rw[GZ,h];rfl)
theorem LO:∀(l:List (Int×Int)) (m:Nat),((eW m l).map (·.born)).Nodup∧∀x∈(eW m l).map (·.born),m≤x
 | [],_=>⟨List.nodup_nil,fun _ h=>by cases h⟩
 | p::l,m=>by
  obtain⟨h1,h2⟩:=LO l (m+1)
  refine⟨List.nodup_cons.2 ⟨fun hm =>?_,h1⟩,fun x hx =>?_⟩
  ·have:=h2 _ hm
   exact Nat.not_succ_le_self _ this
  ·rcases List.mem_cons.1 hx with rfl | hx
   ·exact Nat.le_refl _
   ·exact Nat.le_of_succ_le (h2 _ hx)
theorem Rn(ok:cF P TT){o:Oper}{t:TypeId}{x:Operand}(ho:o.op=.range t x){ρ:Operand→AV}{σ:Hp}{K:AV→Hp→Prop}(h:DC TT t (bc (ρ x)) σ K):iB P o ρ σ K:=by
 intro a F w hx ay next Q hn
 unfold DC at h
 split at h
 ·rename_i z hz
  obtain⟨kt,et,h1,h2,h3⟩:=GA ok hz
  obtain⟨j,b,l,hm,hj,go⟩:=h
  have a1:=(hx x (by simp[ho,Op.operands])).bc
  rw[hm]at a1
  have e1:a.eval x=.map (some b):=a1.Ip
  obtain⟨_,hb⟩:=(ay.holds _ (List.mem_of_getElem? hj)).A2
  have ew:(execOp a.eval o).run P w=.ok (.value (.pointer (some ⟨w.heap.size,0,none⟩))) (w.alloc (.mapIter (some b) l.length #[] l.length)):=by
   have e:=run_range_map (P:=P) w t kt et b _ _ h1 hb
   simp[execOp,ho,e1,e,Result.andThen]
  unfold wq
  rw[ew]
  have hold:∀k,k<w.heap.size→(w.alloc (.mapIter (some b) l.length #[] l.length)).heap[k]?=w.heap[k]?:=fun k hk=>Below.heap_alloc _ _ k hk
  have ak:aQ F w F (w.alloc (.mapIter (some b) l.length #[] l.length)):=uW ay.low rfl rfl rfl (by simp) hold
  have hr:=ay.same ak hold
  have fP:(w.alloc (.mapIter (some b) l.length #[] l.length)).heap[w.heap.size]?=some (.mapIter (some b) l.length #[] l.length):=tE _ _
  refine hn _ (.lI w.heap.size) _ F _ ak ⟨?_,fun p hm =>?_,hr.low⟩ (.lI _) (go _)
  ·simp only[List.map_cons,List.nodup_cons]
   refine⟨fun hm =>?_,ay.nodup⟩
   obtain⟨p,hp,e⟩:=List.mem_map.1 hm
   have:=(ay.holds p hp).lt
   omega
  ·rcases List.mem_cons.1 hm with rfl | hm
   ·exact⟨fun hF=>Nat.lt_irrefl _ (ay.low _ hF),.inr (.inl ⟨_,_,rfl,fP,rfl⟩)⟩
   ·exact hr.holds p hm
 ·exact h.elim
theorem SS{σ:Hp}{F:Nat→Prop}{w:World}(h:aM F w σ):aQ F w F w.drew∧aM F w.drew σ:=by
 have ak:aQ F w F w.drew:=⟨rfl,rfl,rfl,Nat.le_refl _,fun _ h=>h,fun _ _=>rfl,fun k d S fz hk=>⟨d,fz,hk,rfl⟩,Nat.le_succ _⟩
 exact⟨ak,h.nodup,fun p hp=>(h.holds p hp).mono ak rfl (h.holds p hp).1,h.low⟩
theorem Rt{o:Oper}{x:Operand}(ho:o.op=.next x false){ρ:Operand→AV}{σ:Hp}{K:AV→Hp→Prop}(h:Ie σ (bc (ρ x)) K):iB P o ρ σ K:=by
 intro a F w hx ay next Q hn
 obtain⟨j,j2,r,b,l,seen,hm,h1,h2,stop,go⟩:=h
 have a1:=(hx x (by simp[ho,Op.operands])).bc
 rw[hm]at a1
 have e1:a.eval x=.pointer (some ⟨r,0,none⟩):=a1.QK
 obtain⟨_,hr⟩:=(ay.holds _ (List.mem_of_getElem? h1)).Et rfl
 obtain⟨_,hb⟩:=(ay.holds _ (List.mem_of_getElem? h2)).A2
 have abb:∀x∈(eW 0 l).toArray.toList,x.born<l.length:=fun x hx=>by
  obtain⟨i,p,hi,rfl⟩:=GI l 0 x hx
  show 0+i<_
  have:=(List.getElem?_eq_some_iff.1 hi).1
  omega
 unfold wq
 rcases run_next_at (P:=P) w o.type r b l.length l.length seen.toArray _ _ hr hb abb (Nat.le_refl _) with ⟨hz,ew⟩ | ⟨e,he,w1,hw1,ew⟩
 ·have Az:(execOp a.eval o).run P w=.ok (.value (.tuple #[.bool false])) w:=by simp[execOp,ho,e1,ew,Result.andThen]
  rw[Az]
  refine hn _ (.tup [.bool false]) σ F w (aQ.refl _ _) ay (.tup _ _ rfl fun i y hy =>?_) (stop fun i hi =>?_)
  ·match i,hy with
   | 0,hy=>cases hy;exact .bool _
   | i+1,hy=>simp at hy
  ·have hz:leftOf (eW 0 l).toArray seen.toArray = #[]:=Array.eq_empty_of_size_eq_zero hz
   unfold leftOf at hz
   rw[Array.filter_eq_empty_iff]at hz
   have:=hz _ (by simpa using Nu (m:=0) (List.getElem?_eq_getElem hi))
   simpa using this
 ·have Az:(execOp a.eval o).run P w=.ok (.value (.tuple #[.bool true,e.key,e.val])) (Go.ChangeMaps.setBlock w1 r (.mapIter (some b) l.length (seen.toArray.push e.born) l.length)):=by simp[execOp,ho,e1,ew,Result.andThen]
  rw[Az]
  unfold leftOf at he
  have he2:e∈eW 0 l∧e.born ∉ seen:=by simpa using he
  obtain⟨i,p,hi,rfl⟩:=GI l 0 e he2.1
  have hns:i ∉ seen:=by simpa using he2.2
  have hw:aQ F w F w1∧aM F w1 σ:=by
   rcases hw1 with rfl | rfl
   ·exact⟨aQ.refl _ _,ay⟩
   ·exact SS ay
  obtain⟨s1,s2⟩:=Lt (x':=.pS b l.length (seen++[i])) hw.2 rfl rfl h1
  have e2:(seen++[i]).toArray=seen.toArray.push (0+i):=by simp
  rw[e2]at s1 s2
  refine hn _ (.tup [.bool true,.int .i64 p.1,.int .i64 p.2]) _ F _ (hw.1.trans s1) s2 (.tup _ _ rfl fun k y hy =>?_) (go i p hi hns)
  match k,hy with
  | 0,hy=>cases hy;exact .bool _
  | 1,hy=>cases hy;exact .int _ _
  | 2,hy=>cases hy;exact .int _ _
  | k+3,hy=>simp at hy
theorem Rp{o:Oper}{x:Operand}(ho:o.op=.entry x){ρ:Operand→AV}{σ:Hp}{K:AV→Hp→Prop}(h:HO σ (bc (ρ x)) K):iB P o ρ σ K:=by
 intro a F w hx ay next Q hn
 obtain⟨j,j2,r,b,i,l,p,seen,hm,h1,h2,h3,go⟩:=h
 have a1:=(hx x (by simp[ho,Op.operands])).bc
 rw[hm]at a1
 have e1:a.eval x=.pointer (some ⟨r,0,none⟩):=a1.QK
 obtain⟨_,hr⟩:=(ay.holds _ (List.mem_of_getElem? h1)).Et rfl
 obtain⟨_,hb⟩:=(ay.holds _ (List.mem_of_getElem? h2)).A2
 have hr:w.heap[r]?=some (.mapIter (some b) l.length (seen.toArray.push (0+i)) l.length):=by
  rw[hr];simp
 have ew:=run_entry_at (P:=P) w r b l.length seen.toArray (eW 0 l).toArray l.length { key:=.int .i64 p.1,val:=.int .i64 p.2,born:=0+i } hr hb (by simpa using Nu (m:=0) h3) (by simpa using (LO l 0).1)
 have Az:(execOp a.eval o).run P w=.ok (.value (.tuple #[.int .i64 p.1,.int .i64 p.2])) w:=by simp[execOp,ho,e1,ew,Result.andThen]
 unfold wq
 rw[Az]
 refine hn _ (.tup [.int .i64 p.1,.int .i64 p.2]) σ F w (aQ.refl _ _) ay (.tup _ _ rfl fun k y hy =>?_) go
 match k,hy with
 | 0,hy=>cases hy;exact .int _ _
 | 1,hy=>cases hy;exact .int _ _
 | k+2,hy=>simp at hy
theorem Gw(ok:cF P TT){o:Oper}{ρ:Operand→AV}{σ:Hp}{K:AV→Hp→Prop}(h:fJ P TT o.op ρ σ K):iB P o ρ σ K:=by
 have dd:eB P TT o.op ρ σ (fun v=>K v σ)→iB P o ρ σ K:=fun h=>by
  obtain⟨v,h1,h2⟩:=CB ok h
  exact Rv h2 h1
 generalize jY:o.op=op at h dd
 unfold fJ at h
 split at h
 ·split at h
  ·rename_i cs hc;exact Vg jY hc h
  ·exact h.elim
 ·split at h
  ·rename_i i hi;exact SA ok jY hi h
  ·exact h.elim
 ·split at h
  ·rename_i e sz oz z0 ht
   split at h
   ·rename_i i hi
    split at h
    ·rename_i cs hf dX fq
     exact Rg ok jY ht rfl hi hf (Nat.le_of_ble_eq_true dX) (Nat.le_of_ble_eq_true fq) h
    ·exact h.elim
   ·exact h.elim
  ·exact h.elim
 ·split at h
  ·rename_i e sz oz z0 k n k' m ht hl hc
   split at h
   ·rename_i i hi
    exact Ri ok jY ht rfl hi hl hc h.fact h.go
   ·exact h.elim
  ·exact h.elim
 ·split at h
  ·rename_i i hi
   split at h
   ·rename_i b off hp;exact RT ok jY hi hp h
   ·exact h.elim
  ·exact h.elim
 ·split at h
  ·exact Ru jY h
  ·exact h.elim
 ·exact KN ok (.inl jY) h
 ·exact KN ok (.inr jY) h
 ·exact Rn ok jY h
 ·split at h
  ·exact Rt jY h
  ·exact h.elim
 ·exact Rp jY h
 ·rename_i args bJ
  split at h
  ·rename_i s x t t' IB QM
   obtain rfl:args = #[s,x]:=by cases args;simp_all
   obtain rfl:bJ = #[t,t']:=by cases bJ;simp_all
   split at h
   ·rename_i e s1 b1 z1 e' s2 b2 z2 ht lJ
    split at h
    ·rename_i i hi;exact Ci (RN ok jY ht rfl lJ rfl hi (ρ:=fun x=>bc (ρ x)) h)
    ·exact h.elim
   ·rename_i e s1 b1 z1 k' s2 b2 z2 ht lJ
    split at h
    ·rename_i i hi;exact Ci (RA ok jY ht rfl lJ rfl hi (ρ:=fun x=>bc (ρ x)) h)
    ·exact h.elim
   ·exact h.elim
  ·exact h.elim
 ·rename_i args bJ
  split at h
  ·rename_i s t IB QM
   obtain rfl:args = #[s]:=by cases args;simp_all
   obtain rfl:bJ = #[t]:=by cases bJ;simp_all
   split at h
   ·rename_i e s1 b1 z1 ht
    split at h
    ·rename_i i hi;exact Ci (Su ok jY ht rfl hi (ρ:=fun x=>bc (ρ x)) h)
    ·exact h.elim
   ·exact h.elim
  ·exact h.elim
 ·rename_i args bJ
  split at h
  ·rename_i d x t t' IB QM
   obtain rfl:args = #[d,x]:=by cases args;simp_all
   obtain rfl:bJ = #[t,t']:=by cases bJ;simp_all
   split at h
   ·rename_i e s1 b1 z1 e' s2 b2 z2 ht lJ
    split at h
    ·rename_i i hi;exact Ci (Tu ok jY ht rfl lJ rfl hi (ρ:=fun x=>bc (ρ x)) h)
    ·exact h.elim
   ·exact h.elim
  ·exact h.elim
 ·exact dd h
 ·exact RM jY h
 ·exact dd h
def rj(F:Nat→Prop)(w:World)(t:Tm)(a:Act):Prop:=∀i,ar F w (t i) (a.tmps.getD i undef)
theorem rj.mono{F F':Nat→Prop}{w w':World}{t:Tm}{a:Act}(h:rj F w t a)(ak:aQ F w F' w'):rj F' w' t a:=fun i=>(h i).mono ak
theorem rj.put{F:Nat→Prop}{w:World}{t:Tm}{a:Act}(h:rj F w t a){d:Option Tmp}{x:AV}{v:Value}(hx:ar F w x v)(hd:∀i,d=some i→i<a.tmps.size):rj F w (put t d x) (a.put d v):=by
 cases d with
 | none=>exact h
 | some d =>
  intro i
  show ar F w (match Nat.beq i d with | true=>x | false=>t i) ((a.tmps.setIfInBounds d v).getD i undef)
  have dA:=hd d rfl
  cases hb:Nat.beq i d with
  | true =>
   have:=Nat.eq_of_beq_eq_true hb
   subst this
   simpa [Array.getD,dA]using hx
  | false =>
   have aI:d≠i:=fun e=>by subst e;rw[Nat.beq_refl]at hb;cases hb
   have:=h i
   rw[Array.getD_eq_getD_getElem?]at this ⊢
   rw[Array.getElem?_setIfInBounds_ne aI]
   exact this
theorem mB{F:Nat→Prop}{w:World}(v:Value):ar F w (xG v) v:=by
 cases v with
 | int k n=>exact .int _ _
 | bool b=>exact .bool _
 | string s=>exact .str _
 | pointer a=>cases a <;> first | exact .bX | exact .any _
 | slice a l c=>cases a <;> cases l <;> cases c <;> first | exact .af | exact .any _
 | nilIface=>exact .nilif
 | nilFunc=>exact .gk
 | map a=>cases a <;> first | exact .nf | exact .any _
 | _=>exact .any _
theorem NQ{F:Nat→Prop}{w:World}{t:Tm}{a:Act}(x:Operand)(h:∀i,x=.tmp i→ar F w (t i) (a.tmps.getD i undef)):ar F w (ev t x) (a.eval x):=by
 cases x with
 | tmp i=>exact h i rfl
 | const v =>
  show ar F w (Qc v) v
  cases v with
  | agg cs =>
   show ar F w (match (cs.toList.map xG).all AV.leaf with | true=>.agg (cs.toList.map xG) | false=>.any) _
   split
   ·rename_i hl
    refine .agg _ _ (by simp) (fun i x hx =>?_) (fun i x hx =>?_)
    ·exact List.all_eq_true.1 hl x (List.mem_of_getElem? hx)
    ·simp only[List.getElem?_map,Option.map_eq_some_iff]at hx
     obtain⟨v,hv,rfl⟩:=hx
     have ab:i<cs.size:=by have:=(List.getElem?_eq_some_iff.1 hv).1;simpa using this
     have:cs[i]=v:=by simpa [ab]using hv
     simpa [Array.getD,ab,this]using mB v
   ·exact .any _
  | tuple vs =>
   show ar F w (match vs.toList with | []=>.tup [] | _=>.any) _
   split
   ·rename_i h0
    exact .tup _ _ (by simp at h0;simp[h0]) (fun i x h=>by simp at h)
   ·exact .any _
  | int k n=>exact mB (.int k n)
  | bool b=>exact mB (.bool b)
  | string x=>exact mB (.string x)
  | float k b=>exact mB (.float k b)
  | complex k b c=>exact mB (.complex k b c)
  | pointer x=>exact mB (.pointer x)
  | slice x l c=>exact mB (.slice x l c)
  | map x=>exact mB (.map x)
  | chan x=>exact mB (.chan x)
  | func f x y=>exact mB (.func f x y)
  | nilFunc=>exact mB .nilFunc
  | iface t x=>exact mB (.iface t x)
  | nilIface=>exact mB .nilIface
 | global g=>exact .any _
 | func f=>exact .fn _ _ _ _ _ rfl rfl (fun i x h=>by simp at h) (fun i x h=>by simp at h)
theorem rj.eval{F:Nat→Prop}{w:World}{t:Tm}{a:Act}(h:rj F w t a)(x:Operand):ar F w (ev t x) (a.eval x):=NQ x fun i _=>h i
end
section
variable {P:Program} {TT:TypeId→Option TI}
structure Marks(B:Nat)(F:Nat→Prop)(w:World)(ds:List Deferred):Prop where
 low:B≤w.heap.size
 nodup:ds.Nodup
 is:∀d∈ds,∃D,d = { target:=.collected D,args:= #[] }∧B≤D∧F D∧w.heap[D]?=some (.deferred (some []))
theorem Marks.mono{B:Nat}{F F':Nat→Prop}{w w':World}{ds:List Deferred}(h:Marks B F w ds)(ak:aQ F w F' w'):Marks B F' w' ds:=
 ⟨Nat.le_trans h.low ak.size,h.nodup,fun d hd=>by
  obtain⟨D,h1,h2,h3,h4⟩:=h.is d hd
  exact⟨D,h1,h2,ak.sub D h3,(ak.fix D h3).trans h4⟩⟩
structure cj(B n:Nat)(F:Nat→Prop)(w:World)(t:Tm)(σ:Hp)(a:Act):Prop where
 tm:rj F w t a
 hp:aM F w σ
 size:n≤a.tmps.size
 defers:Marks B F w a.defers
theorem M9(a:Act)(d:Option Tmp)(v:Value):(a.put d v).tmps.size=a.tmps.size:=by cases d <;> simp[Act.put]
theorem Oo(a:Act)(d:Option Tmp)(v:Value):(a.put d v).defers=a.defers:=by cases d <;> rfl
theorem cj.put{B n:Nat}{F F':Nat→Prop}{w w':World}{t:Tm}{σ σ':Hp}{a:Act}(h:cj B n F w t σ a)(ak:aQ F w F' w')(hp:aM F' w' σ'){d:Option Tmp}{x:AV}{v:Value}(hx:ar F' w' x v)(hd:∀i,d=some i→i<n):cj B n F' w' (put t d x) σ' (a.put d v):=
 ⟨(h.tm.mono ak).put hx (fun i e=>Nat.lt_of_lt_of_le (hd i e) h.size),hp,by rw[M9];exact h.size,by rw[Oo];exact h.defers.mono ak⟩
theorem Nr{F:Nat→Prop}{w:World}{σ:Hp}(h:aM F w σ){i b':Nat}{cs jh:List AV}(hi:σ[i]?=some (b',cs))(hl:jh.length=cs.length)(hk:∀(k:Nat) (x y:AV),cs[k]?=some x→jh[k]?=some y→x=y∨(x=.af∧∃e:Sh,y=.ah e [])):aM F w (σ.set i (b',jh)):=by
 refine⟨?_,fun p hp =>?_,h.low⟩
 ·have e1:(σ.set i (b',jh)).map Prod.fst=σ.map Prod.fst:=by
   rw[List.map_set]
   refine List.ext_getElem (by simp) fun j h1 h2 =>?_
   rw[List.getElem_set]
   split
   ·rename_i hj;subst hj
    have:=List.getElem?_eq_some_iff.1 hi
    obtain⟨q1,q2⟩:=this
    rw[List.getElem_map,q2]
   ·rfl
  rw[e1];exact h.nodup
 ·rcases List.mem_or_eq_of_mem_set hp with hp | rfl
  ·exact h.holds p hp
  ·have hh:=h.holds _ (List.mem_of_getElem? hi)
   by_cases hn:∃k:Nat,cs[k]?=some AV.af
   ·obtain⟨k,jd⟩:=hn
    obtain⟨h1,c,T,h2,h3,h4⟩:=hh.It jd rfl
    refine⟨h1,.inl ⟨c,T,h2,by rw[hl];exact h3,fun j y hy =>?_⟩⟩
    have hj:j<cs.length:=by rw[← hl];exact (List.getElem?_eq_some_iff.1 hy).1
    have hx:=List.getElem?_eq_getElem hj
    obtain⟨q1,q2⟩:=h4 j _ hx
    rcases hk j _ _ hx hy with e | ⟨e,e',rfl⟩
    ·rw[← e];exact⟨q1,q2⟩
    ·rw[e]at q2
     refine⟨rfl,?_⟩
     revert q2;generalize c.getD j undef=u;intro q2;cases q2
     exact .ah e' [] _ ⟨none,0,rfl,Nat.le_refl _,Nat.zero_le _,(fun _=>rfl),fun aI=>absurd rfl aI⟩
   ·have e:jh=cs:=by
     refine List.ext_getElem hl fun j h1 h2 =>?_
     rcases hk j _ _ (List.getElem?_eq_getElem h2) (List.getElem?_eq_getElem h1) with e | ⟨e,_⟩
     ·exact e.symm
     ·exact absurd ⟨j,(List.getElem?_eq_getElem h2).trans (congrArg some e)⟩ hn
    rw[e];exact hh
theorem OF{F:Nat→Prop}{w:World}{σ:Hp}(h:aM F w σ){i b' k:Nat}{cs':List AV}(e:Sh)(hi:σ[i]?=some (b',cs'))(hk:cs'[k]?=some .af):aM F w (σ.set i (b',cs'.set k (.ah e []))):=
 Nr h hi (by simp) fun j x y hx hy=>by
  rw[List.getElem?_set]at hy
  split at hy
  ·rename_i hj;subst hj
   split at hy
   ·rw[hk]at hx;cases hx;cases hy;exact .inr ⟨rfl,e,rfl⟩
   ·cases hy
  ·rw[hx]at hy;cases hy;exact .inl rfl
theorem aM.cO{F:Nat→Prop}{w:World}{σ σ':Hp}(h:aM F w σ)(hs:gF σ σ'):aM F w σ':=by
 induction hs with
 | refl=>exact h
 | pull js _ ih=>exact ih (h.perm (vc js _))
 | perm hp _ ih=>exact ih (h.perm hp)
 | abK i b' cs jh hi hl hk _ ih=>exact ih (Nr h hi hl hk)
 | @drop k n σ σ2 _ ih =>
  refine ih (h.sub ?_)
  have h1:(σ.drop (k+n)).Sublist (σ.drop k):=by
   rw[← List.drop_drop]
   exact List.drop_sublist _ _
  have h2:=(List.Sublist.refl (σ.take k)).append h1
  rwa [List.take_append_drop]at h2
theorem cj.cO{B n:Nat}{F:Nat→Prop}{w:World}{t:Tm}{σ σ':Hp}{a:Act}(h:cj B n F w t σ a)(hs:gF σ σ'):cj B n F w t σ' a:=⟨h.tm,h.hp.cO hs,h.size,h.defers⟩
def r8(ops:List Oper)(o:Oper)(t:Tm)(b:Bool):Prop:=
 (o.guard=none∧b=true)∨∃j want d x,o.guard=some (j,want)∧(ops[j]?).bind (·.dst)=some d∧((t d=.bool x∧b=(x == want))∨(t d=.tup []∧b=false))
theorem vf{ops:List Oper}{o:Oper}{t:Tm}{A B:Prop}(h:mL ops o t A B):(r8 ops o t true∧A)∨(r8 ops o t false∧B):=by
 unfold mL at h
 split at h
 ·rename_i hg
  exact .inl ⟨.inl ⟨hg,rfl⟩,h⟩
 ·rename_i j want hg
  split at h
  ·rename_i d hd
   split at h
   ·rename_i b hb
    cases want <;> cases b
    ·exact .inl ⟨.inr ⟨j,_,d,_,hg,hd,.inl ⟨hb,rfl⟩⟩,h⟩
    ·exact .inr ⟨.inr ⟨j,_,d,_,hg,hd,.inl ⟨hb,rfl⟩⟩,h⟩
    ·exact .inr ⟨.inr ⟨j,_,d,_,hg,hd,.inl ⟨hb,rfl⟩⟩,h⟩
    ·exact .inl ⟨.inr ⟨j,_,d,_,hg,hd,.inl ⟨hb,rfl⟩⟩,h⟩
   ·rename_i hb
    exact .inr ⟨.inr ⟨j,_,d,false,hg,hd,.inr ⟨hb,rfl⟩⟩,h⟩
   ·exact h.elim
  ·exact h.elim
theorem uZ{F:Nat→Prop}{w:World}:ar F w (.tup []) undef:=.tup _ _ rfl (fun i x h=>by simp at h)
theorem TS{F:Nat→Prop}{w:World}{u:Value}(h:ar F w (.tup []) u):u=.tuple #[]:=by
 cases h with
 | tup _ vs hs h=>rw[Array.size_eq_zero_iff.1 hs.symm]
theorem Cw{ops:List Oper}{o:Oper}{t:Tm}{a:Act}{b:Bool}(h:r8 ops o t b)(hr:∀d,(∃j want,o.guard=some (j,want)∧(ops[j]?).bind (·.dst)=some d)→∃F w,ar F w (t d) (a.tmps.getD d undef)):Region.wanted o (yielded ops.toArray a.tmps)=b:=by
 rcases h with ⟨hg,rfl⟩ | ⟨j,want,d,x,hg,h1,⟨h2,rfl⟩ | ⟨h2,rfl⟩⟩
 ·simp[Region.wanted,hg]
 ·obtain⟨F,w,h3⟩:=hr d ⟨j,want,hg,h1⟩
  rw[h2]at h3
  have h3:=h3.oX
  have h4:a.tmps[d]?=some (.bool x):=by
   rw[Array.getD_eq_getD_getElem?]at h3
   cases hq:a.tmps[d]? with
   | none=>rw[hq]at h3;simp[undef]at h3
   | some v=>rw[hq]at h3;simpa using h3
  have h5:yielded ops.toArray a.tmps j=some x:=by
   unfold yielded
   simp only[List.getElem?_toArray,h1,Option.bind_some,h4]
  simp[Region.wanted,hg,h5]
 ·obtain⟨F,w,h3⟩:=hr d ⟨j,want,hg,h1⟩
  rw[h2]at h3
  have h3:=TS h3
  have h5:yielded ops.toArray a.tmps j=none:=by
   unfold yielded
   simp only[List.getElem?_toArray,h1,Option.bind_some]
   rw[Array.getD_eq_getD_getElem?]at h3
   cases hq:a.tmps[d]? with
   | none=>rfl
   | some v=>rw[hq]at h3;simp at h3;rw[h3]
  simp[Region.wanted,hg,h5]
theorem F8(ok:cF P TT){B n:Nat}{ops:List Oper}{Q:Exit→Act→World→Prop}:∀(l:List Oper) (t:Tm) (σ:Hp) (K:Tm→Hp→Prop) (F:Nat→Prop) (w:World) (a:Act),(∀o∈l,∀d,o.dst=some d→d<n)→QG P TT ops l t σ K→cj B n F w t σ a→
  (∀t' σ' F' w' a',aQ F w F' w'→cj B n F' w' t' σ' a'→K t' σ'→Q .normal a' w')→tP P ops.toArray Q l a w
 | [],t,σ,K,F,w,a,_,h,hs,hq=>hq t σ F w a (.refl _ _) hs h
 | o::l,t,σ,K,F,w,a,hd,h,hs,hq=>by
  have hw:∀{b:Bool},r8 ops o t b→Region.wanted o (yielded ops.toArray a.tmps)=b:=fun hg=>Cw hg fun d _=>⟨F,w,hs.tm d⟩
  rcases vf h with ⟨hg,h⟩ | ⟨hg,h⟩
  ·unfold tP
   rw[if_pos (hw hg)]
   refine (Gw ok h a F w (fun x _=>hs.tm.eval x) hs.hp _ Q ?_)
   intro v av σ' F' w' h1 h2 h3 h4
   exact F8 ok l _ σ' K F' w' _ (fun o ho=>hd o (List.mem_cons_of_mem _ ho)) h4 (hs.put h1 h2 h3 (hd o (List.mem_cons_self ..))) (fun t' iR lR kh a' k1 k2 k3=>hq t' iR lR kh a' (h1.trans k1) k2 k3)
  ·unfold tP
   rw[if_neg (by rw[hw hg];simp)]
   exact F8 ok l _ σ K F w _ (fun o ho=>hd o (List.mem_cons_of_mem _ ho)) h (hs.put (.refl _ _) hs.hp uZ (hd o (List.mem_cons_self ..))) hq
def Ig(P:Program)(o:Oper)(ρ:Operand→AV)(σ:Hp)(v:AV):Prop:=
 ∀(a:Act) (F:Nat→Prop) (w:World),(∀x∈o.op.operands.toList,ar F w (ρ x) (a.eval x))→aM F w σ→∀(next:Act→World→Prop) (Q:Exit→Act→World→Prop),
  (∀u F' w',aQ F w F' w'→aM F' w' σ→ar F' w' v u→next (a.put o.dst u) w')→wq P o a w next Q
theorem Mi(ok:cF P TT){o:Oper}{ρ:Operand→AV}{σ:Hp}{K:AV→Prop}(h:sL P TT o.op ρ σ K):∃v,K v∧Ig P o ρ σ v:=by
 have dd:eB P TT o.op ρ σ K→∃v,K v∧Ig P o ρ σ v:=fun h=>by
  obtain⟨v,h1,h2⟩:=CB ok h
  refine⟨v,h1,fun a F w hx ay next Q hn =>?_⟩
  obtain⟨v',h3,h4⟩:=h2 a.eval F w o rfl hx ay
  unfold wq
  rw[h3]
  exact hn v' F w (.refl _ _) ay h4
 generalize jY:o.op=op at h dd
 unfold sL at h
 split at h
 ·exact dd h
 ·obtain⟨_,_,h,_⟩ | ⟨f,xs,hc,ew⟩:=KR jY h
  ·exact h.elim
  cases hc with
  | mk js r call go =>
   obtain⟨mc,fF⟩:=call
   refine⟨r,go,fun a F w hx ay next Q hn =>?_⟩
   obtain⟨vs,bz,hr⟩:=ew a.eval F w hx
   unfold wq
   rw[hr mc]
   refine (fF F w vs bz (ay.perm (vc js σ))).mono ?_
   rintro e w' ⟨r',v,σ',F',rfl,h1,h2,h3,rfl,rfl⟩
   exact⟨v,rfl,hn v F' w' h1 (h2.perm (vc js σ).symm) h3⟩
  | perm hp r call go =>
   obtain⟨mc,fF⟩:=call
   refine⟨r,go,fun a F w hx ay next Q hn =>?_⟩
   obtain⟨vs,bz,hr⟩:=ew a.eval F w hx
   unfold wq
   rw[hr mc]
   refine (fF F w vs bz (ay.perm hp)).mono ?_
   rintro e w' ⟨r',v,σ',F',rfl,h1,h2,h3,rfl,lL⟩
   exact⟨v,rfl,hn v F' w' h1 (h2.perm (hp.symm.trans lL)) h3⟩
 ·exact dd h
end
end Go.Proofs.YtnpidbjdilnhlaaGreat
