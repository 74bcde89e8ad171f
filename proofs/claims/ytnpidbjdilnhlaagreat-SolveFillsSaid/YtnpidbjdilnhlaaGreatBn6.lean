import Derived.Deep.AppendSrc
import Derived.Deep.Upon
import Derived.Great.BuildSlice
import Derived.Maps.RangeRun
import Derived.Orders
import Derived.Test.YtnpidbjdilnhlaaGreatBn5
namespace Go.Proofs.YtnpidbjdilnhlaaGreat
open Go.RowKit
section
variable {P:Program} {TT:TypeId→Option TI} {F F':Nat→Prop} {w w':World}
theorem Holds.mono{b:Nat}{cs:List AV}(h:Holds F w b cs)(ar:a6 F w F' w')(hb:w'.heap[b]?=w.heap[b]?)(hF:¬F' b):Holds F' w' b cs:=by
 obtain⟨_,⟨c,T,h1,h2,h3⟩ | ⟨x,o,h1,h2,h3⟩ | ⟨L,t,h1,h2,h3⟩⟩:=h
 ·exact⟨hF,.inl ⟨c,T,hb.trans h1,h2,fun i x hx=>⟨(h3 i x hx).1,(h3 i x hx).2.mono ar⟩⟩⟩
 ·exact⟨hF,.inr (.inl ⟨x,o,h1,hb.trans h2,h3⟩)⟩
 ·exact⟨hF,.inr (.inr ⟨L,t,h1,hb.trans h2,fun i=>(h3 i).mono ar⟩)⟩
theorem Holds.lt{b:Nat}{cs:List AV}(h:Holds F w b cs):b<w.heap.size:=by
 obtain⟨_,⟨_,_,h1,_⟩ | ⟨_,_,_,h1,_⟩ | ⟨_,_,_,h1,_⟩⟩:=h
 ·exact pt h1
 ·exact pt h1
 ·exact pt h1
theorem aV.perm{σ σ':Hp}(h:aV F w σ)(hp:σ'.Perm σ):aV F w σ':=
 ⟨((hp.map Prod.fst).nodup_iff).2 h.nodup,fun p hm=>h.holds p (hp.mem_iff.1 hm),h.low⟩
theorem aV.sub{σ σ':Hp}(h:aV F w σ)(hs:σ'.Sublist σ):aV F w σ':=
 ⟨h.nodup.sublist (hs.map _),fun p hm=>h.holds p (hs.subset hm),h.low⟩
theorem sO:∀(σ:Hp) (i:Nat) (p:Nat×List AV),σ[i]?=some p→(p::σ.eraseIdx i).Perm σ
 | [],i,p,h=>by simp at h
 | q::σ,0,p,h=>by simp at h;subst h;exact List.Perm.refl _
 | q::σ,i+1,p,h=>(List.Perm.swap q p _).trans (.cons q (sO σ i p (by simpa using h)))
theorem PF(i:Nat)(σ:Hp):(pull i σ).Perm σ:=by
 unfold pull
 split
 ·rename_i p h
  exact sO σ i p h
 ·exact List.Perm.refl _
theorem sT:∀(js:List Nat) (σ:Hp),(kK js σ).Perm σ
 | [],_=>List.Perm.refl _
 | i::r,σ=>(PF i _).trans (sT r σ)
theorem sQ(pC:∀b,F b→b<w.heap.size)(ho:w'.os=w.os)(ht:w'.tape=w.tape)(hu:w'.output=w.output)(hs:w.heap.size≤w'.heap.size)(hb:∀b,b<w.heap.size→w'.heap[b]?=w.heap[b]?)(hd:w.drawn≤w'.drawn:=by first | exact Nat.le_refl _ | exact Nat.le_succ _ | exact Nat.le_add_right _ _):a6 F w F w':=
 ⟨ho,ht,hu,hs,fun _ h=>h,fun b h=>hb b (pC b h),fun b c _ fz h=>⟨c,fz,(hb b (pt h)).trans h,rfl⟩,hd⟩
theorem aV.same{σ:Hp}(h:aV F w σ)(ar:a6 F w F w')(hb:∀b,b<w.heap.size→w'.heap[b]?=w.heap[b]?):aV F w' σ:=
 ⟨h.nodup,fun p hm=>(h.holds p hm).mono ar (hb _ (h.holds p hm).lt) (h.holds p hm).1,fun b hF=>Nat.lt_of_lt_of_le (h.low b hF) ar.size⟩
theorem G3{σ:Hp}(h:aV F w σ){c:Array Value}{T:TypeId}{cs:List AV}(hl:cs.length≤c.size)(hc:∀(i:Nat) (x:AV),cs[i]?=some x→x.leaf=true∧aA F w x (c.getD i undef)){w0:World}(e0:w0=w∨w0=w.drew):
  a6 F w F (w0.alloc (.cells c T))∧aV F (w0.alloc (.cells c T)) ((w.heap.size,cs)::σ):=by
 have hold:∀b,b<w.heap.size→(w0.alloc (.cells c T)).heap[b]?=w.heap[b]?:=fun b hb=>by rcases e0 with rfl | rfl <;> exact Below.heap_alloc _ _ b (by simpa using hb)
 have ar:a6 F w F (w0.alloc (.cells c T)):=by
  rcases e0 with rfl | rfl
  ·exact sQ h.low rfl rfl rfl (by simp) hold
  ·exact sQ h.low rfl rfl rfl (by simp) hold
 have hr:=h.same ar hold
 have ei:(w0.alloc (.cells c T)).heap[w.heap.size]?=some (.cells c T (0,0)):=by rcases e0 with rfl | rfl <;> exact rO _ _
 refine⟨ar,⟨?_,fun p hm =>?_,hr.low⟩⟩
 ·simp only[List.map_cons,List.nodup_cons]
  refine⟨fun hm =>?_,h.nodup⟩
  obtain⟨p,hp,e⟩:=List.mem_map.1 hm
  have:=(h.holds p hp).lt
  omega
 ·rcases List.mem_cons.1 hm with rfl | hm
  ·exact⟨fun hF=>Nat.lt_irrefl _ (h.low _ hF),.inl ⟨c,T,ei,hl,fun i x hx=>⟨(hc i x hx).1,(hc i x hx).2.mono ar⟩⟩⟩
  ·exact hr.holds p hm
theorem wH{σ:Hp}(h:aV F w σ){j b:Nat}{cs cs':List AV}(hj:σ[j]?=some (b,cs)){c c':Array Value}{T:TypeId}(hc:w.heap[b]?=some (.cells c T (0,0)))(cS:c'.size=c.size)(hl:cs'.length≤c'.size)
  (hr:∀(i:Nat) (x:AV),cs'[i]?=some x→x.leaf=true∧aA F w x (c'.getD i undef)) (hw:∀k,k≠b→w'.heap[k]?=w.heap[k]?) (BT:w'.heap[b]?=some (.cells c' T (0,0))) (ho:w'.os=w.os) (ht:w'.tape=w.tape) (hu:w'.output=w.output) (hs:w'.heap.size=w.heap.size) (hd:w.drawn≤w'.drawn:=by first | exact Nat.le_refl _ | exact Nat.le_succ _ | exact Nat.le_add_right _ _) :
  a6 F w F w'∧aV F w' (σ.set j (b,cs')):=by
 have hb:=(h.holds (b,cs) (List.mem_of_getElem? hj)).1
 have ab:j<σ.length:=(List.getElem?_eq_some_iff.1 hj).1
 have ar:a6 F w F w':=⟨ho,ht,hu,by omega,fun _ h=>h,fun k hF=>hw k (fun e=>hb (e▸hF)),fun k d S fz hk=>by
  by_cases e:k=b
  ·subst e
   rw[hc]at hk
   cases hk
   exact⟨c',(0,0),BT,cS⟩
  ·exact⟨d,fz,(hw k e).trans hk,rfl⟩,hd⟩
 have xz:(σ.set j (b,cs')).map Prod.fst=σ.map Prod.fst:=by
  rw[List.map_set]
  apply List.ext_getElem?
  intro k
  rw[List.getElem?_set]
  split
  ·rename_i e;subst e
   simp[ab]
   have:=(List.getElem?_eq_some_iff.1 hj).2
   rw[this]
  ·rfl
 refine⟨ar,⟨xz▸h.nodup,fun p hm =>?_,fun k hF=>by rw[hs];exact h.low k hF⟩⟩
 obtain⟨k,hk⟩:=List.mem_iff_getElem?.1 hm
 rw[List.getElem?_set]at hk
 split at hk
 ·rename_i e;subst e
  simp at hk
  obtain⟨_,rfl⟩:=hk
  exact⟨hb,.inl ⟨c',T,BT,hl,fun i x hx=>⟨(hr i x hx).1,(hr i x hx).2.mono ar⟩⟩⟩
 ·rename_i aS
  have aQ:=List.mem_of_getElem? hk
  have mI:p.1≠b:=by
   intro e
   have bC:=h.nodup
   have h1:(σ.map Prod.fst)[k]?=some b:=by rw[List.getElem?_map,hk];simp[e]
   have h2:(σ.map Prod.fst)[j]?=some b:=by rw[List.getElem?_map,hj];rfl
   have dN:k<(σ.map Prod.fst).length:=(List.getElem?_eq_some_iff.1 h1).1
   have:=(List.getElem?_inj (i:=k) (j:=j) dN bC).1 (h1.trans h2.symm)
   exact aS this.symm
  exact (h.holds p aQ).mono ar (hw _ mI) (h.holds p aQ).1
theorem I9(z:List AV):∀(n j:Nat),j<n*z.length→(bN z n)[j]?=z[j % z.length]?
 | 0,j,h=>by simp at h
 | n+1,j,h=>by
  unfold bN
  by_cases hj:j<z.length
  ·rw[List.getElem?_append_left hj,Nat.mod_eq_of_lt hj]
  ·have e:(n+1)*z.length=n*z.length+z.length:=Nat.succ_mul n z.length
   rw[List.getElem?_append_right (by omega),I9 z n (j-z.length) (by omega)]
   rw[Nat.mod_eq_sub_mod (a:=j) (b:=z.length) (by omega)]
theorem ru(z:List AV)(n:Nat):(bN z n).length=n*z.length:=by
 induction n with
 | zero=>simp[bN]
 | succ n ih=>simp[bN,ih,Nat.succ_mul];omega
theorem Ae{i:TI}{z:Value}(hz:l9 i.zero z.cells.toList=true){n m:Nat}(hnm:n≤m):(bN i.zero n).length≤(madeCells z.cells (m*i.zero.length)).size∧∀(k:Nat) (x:AV),(bN i.zero n)[k]?=some x→x.leaf=true∧aA F w x ((madeCells z.cells (m*i.zero.length)).getD k undef):=by
 obtain⟨h1,h2⟩:=rJ (F:=F) (w:=w) hz
 have hle:n*i.zero.length≤m*i.zero.length:=Nat.mul_le_mul_right _ hnm
 refine⟨by rw[ru,size_madeCells];exact hle,fun k x hx =>?_⟩
 have hk:k<n*i.zero.length:=by rw[← ru];exact (List.getElem?_eq_some_iff.1 hx).1
 rw[I9 _ _ _ hk]at hx
 obtain⟨h3,h4⟩:=h2 _ x hx
 refine⟨h3,?_⟩
 have ab:k<m*i.zero.length:=by omega
 have mi:0<i.zero.length:=by
  rcases Nat.eq_zero_or_pos i.zero.length with h0 | h0
  ·rw[h0]at hk;omega
  ·exact h0
 have E3:k % i.zero.length<z.cells.size:=by rw[← h1];exact Nat.mod_lt _ mi
 rw[h1]at h4 ab
 rw[h1]at E3
 simpa [madeCells,Array.getD,ab,h1,E3,Nat.mod_lt _ (h1▸mi)]using h4
end
section
variable {P:Program} {TT:TypeId→Option TI} {F F':Nat→Prop} {w w':World}
def gK(P:Program)(o:Oper)(ρ:Operand→AV)(σ:Hp)(K:AV→Hp→Prop):Prop:=
 ∀(a:Act) (F:Nat→Prop) (w:World),(∀x∈o.op.operands.toList,aA F w (ρ x) (a.eval x))→aV F w σ→∀(next:Act→World→Prop) (Q:Exit→Act→World→Prop),
  (∀v av σ' F' w',a6 F w F' w'→aV F' w' σ'→aA F' w' av v→K av σ'→next (a.put o.dst v) w')→wq P o a w next Q
theorem Nc{o:Oper}{ρ:Operand→AV}{σ:Hp}{K:AV→Hp→Prop}{v:AV}(h:yg P o.op ρ σ v)(hk:K v σ):gK P o ρ σ K:=by
 intro a F w hx aD next Q hn
 obtain⟨v',h1,h2⟩:=h a.eval F w o rfl hx aD
 unfold wq
 rw[h1]
 exact hn v' v σ F w (.refl _ _) aD h2 hk
theorem zF{o:Oper}{ρ:Operand→AV}{σ:Hp}{K:AV→Hp→Prop}{cs:List AV}{mk:Nat→AV}(hk:∀b,K (mk b) ((b,cs)::σ))
  (h:∀(η:Operand→Value) (F:Nat→Prop) (w:World),(∀x∈o.op.operands.toList,aA F w (ρ x) (η x))→∃(c:Array Value) (T:TypeId) (v:Value),(execOp η o).run P w=.ok (.value v) (w.alloc (.cells c T))∧cs.length≤c.size∧(∀(i:Nat) (x:AV),cs[i]?=some x→x.leaf=true∧aA F w x (c.getD i undef))∧aA F (w.alloc (.cells c T)) (mk w.heap.size) v):gK P o ρ σ K:=by
 intro a F w hx aD next Q hn
 obtain⟨c,T,v,h1,h2,h3,h4⟩:=h a.eval F w hx
 unfold wq
 rw[h1]
 obtain⟨ar,hr⟩:=G3 aD (T:=T) h2 h3 (w0:=w) (.inl rfl)
 exact hn v _ _ F _ ar hr h4 (hk _)
theorem Nf{x:AV}{v:Value}{cs:List AV}(h:aA F w x v)(hc:x.cells?=some cs):cs.length≤v.cells.size∧∀(i:Nat) (x:AV),cs[i]?=some x→x.leaf=true∧aA F w x (v.cells.getD i undef):=by
 obtain⟨h1,h2⟩:=CJ h hc
 exact⟨by omega,h2⟩
theorem Qs{o:Oper}{e:TypeId}{x:Operand}(ho:o.op=.box e x){ρ:Operand→AV}{σ:Hp}{K:AV→Hp→Prop}{cs:List AV}(hc:(ρ x).cells?=some cs)(hk:∀b,K (.ptr b 0) ((b,cs)::σ)):gK P o ρ σ K:=
 zF hk fun η F w hx=>by
  have h1:=hx x (by simp[ho,Op.operands])
  obtain⟨h2,h3⟩:=Nf h1 hc
  exact⟨(η x).cells,e,.pointer (some ⟨w.heap.size,0,none⟩),by simp[execOp,ho,Instr.box,newVar,newRow],h2,h3,.ptr _ _ ⟨_,_,_,rO _ _⟩⟩
theorem Oa(ok:ck P TT){o:Oper}{e:TypeId}(ho:o.op=.alloc e){ρ:Operand→AV}{σ:Hp}{K:AV→Hp→Prop}{i:TI}(hi:TT e=some i)(hk:∀b,K (.ptr b 0) ((b,i.zero)::σ)):gK P o ρ σ K:=
 zF hk fun η F w hx=>by
  obtain⟨j,d,z,hj,hd,_,_,_,hz,eU⟩:=cd ok hi
  obtain⟨h1,h2⟩:=rJ (F:=F) (w:=w) eU
  exact⟨z.cells,e,.pointer (some ⟨w.heap.size,0,none⟩),by simp[execOp,ho,Instr.alloc,newVar,newRow,zeroValue,typeInfo,hj,hz],by omega,h2,.ptr _ _ ⟨_,_,_,rO _ _⟩⟩
theorem MX(ok:ck P TT){o:Oper}{t e:TypeId}{len:Nat}{parts:Array (Nat×Operand)}(ho:o.op=.buildSlice t len parts){ρ:Operand→AV}{σ:Hp}{K:AV→Hp→Prop}{it i:TI}(ht:TT t=some it)(dN:it.k=.slice e)(hi:TT e=some i){cs:List AV}
  (hf:nX ((List.range len).map fun j=>(j*i.size,i.size)) (bN i.zero len) (parts.toList.map fun p=>(p.1,ρ p.2))=some cs) (cS:len*i.size≤16777216) (mi:1≤i.size) (hk:∀b,K (.ae b 0 len i.size) ((b,cs)::σ)):gK P o ρ σ K:=
 zF hk fun η F w hx=>by
  obtain⟨_,d,_,_,hd,_,_,gB,_,_⟩:=cd ok ht
  rw[dN]at gB
  obtain rfl:=gE gB
  obtain⟨j,d',z,hj,gQ,hs,⟨_,kZ⟩,_,hz,eU⟩:=cd ok hi
  obtain⟨hl,hr⟩:=Ic (parts:=parts) (ρ:=ρ) (η:=η) (F:=F) (w:=w) (by simpa [ho,Op.operands]using hx)
  have gi:z.cells.size=j.size:=by have:=(rJ (F:=F) (w:=w) eU).1;omega
  obtain⟨m1,m2⟩:=Ae (F:=F) (w:=w) eU (Nat.le_refl len)
  have pN:lR F w (bN i.zero len) (madeCells z.cells (len*i.zero.length)):=⟨by rw[ru,size_madeCells],m2⟩
  rw[kZ,← hs]at pN
  obtain⟨dg,f1,f2⟩:=Aj (place:=fun k=>some (k*j.size,j.size)) (fun k p hk=>by
   obtain⟨a,ha,rfl⟩:=List.getElem?_eq_some_iff.1 hk
   simp[hs]) _ _ _ _ _ hl hr pN hf
  have Wa:dg.size=len*j.size:=by
   have e1:∀(us:List (Nat×AV)) (xs out:List AV),nX ((List.range len).map fun j=>(j*i.size,i.size)) xs us=some out→out.length=xs.length:=by
    intro us
    induction us with
    | nil=>intro xs out h;simp[nX]at h;subst h;rfl
    | cons p us ih =>
     intro xs out h
     obtain⟨q,v⟩:=p
     simp only[nX]at h
     split at h
     ·split at h
      ·rw[ih _ _ h,ur]
      ·cases h
     ·cases h
   have:=e1 _ _ _ hf
   rw[ru]at this
   have h3:=f2.1
   rw[kZ,← hs]at this
   omega
  refine⟨dg,e,.slice (some ⟨w.heap.size,0,none⟩) len len,?_,by have:=f2.1;omega,f2.2,.ae _ _ _ _ _ _ ⟨dg,e,(0,0),rO _ _,Nat.le_refl _,?_,.inl ⟨rfl,by rw[Wa,hs];omega⟩⟩⟩
  ·by_cases h0:len*j.size=0
   ·have:dg = #[]:=Array.size_eq_zero_iff.1 (by omega)
    subst this
    have f1':Instr.fill (fun k=>some (k*j.size,j.size)) #[] (parts.map fun (i,x)=>(i,η x)).toList=some #[]:=by
     have e0:madeCells z.cells (len*j.size) = #[]:=by rw[h0];simp[madeCells,Array.range_zero']
     rw[e0]at f1
     exact f1
    simp only[execOp,ho,Instr.buildSlice,Sem.run_bind,run_underlying hd,Result.andThen_ok,run_sizeOf hj,h0,if_true,Sem.run_pure,Nat.reducePow,if_false,Nat.not_lt_zero,gt_iff_lt]
    rw[show ((Array.range 0).map fun x=>(#[]:Array Value)[x % (#[]:Array Value).size]!) = #[] by simp[Array.range_zero'],f1']
    rfl
   ·simp only[execOp,ho,Sem.run_bind,run_buildSlice w t e len _ dg j z hd hj hz (by rw[hs];omega) h0 f1]
    rfl
  ·have:len≤len*i.size:=Nat.le_mul_of_pos_right _ mi
   unfold maxLen;omega
theorem MZ(ok:ck P TT){o:Oper}{t e:TypeId}{l c:Operand}(ho:o.op=.makeSlice t l c){ρ:Operand→AV}{σ:Hp}{K:AV→Hp→Prop}{it i:TI}(ht:TT t=some it)(dN:it.k=.slice e)(hi:TT e=some i){k k':IntKind}{n m:Int}(hl:ρ l=.int k n)(hc:ρ c=.int k' m)
  (h0:0≤n∧n≤m∧m≤1048576∧i.bytes≤1024) (hk:∀b,K (.ae b 0 n.toNat i.size) ((b,bN i.zero n.toNat)::σ)):gK P o ρ σ K:=
 zF hk fun η F w hx=>by
  obtain⟨_,d,_,_,hd,_,_,gB,_,_⟩:=cd ok ht
  rw[dN]at gB
  obtain rfl:=gE gB
  obtain⟨j,d',z,hj,gQ,hs,⟨hb,kZ⟩,_,hz,eU⟩:=cd ok hi
  have h1:=hx l (by simp[ho,Op.operands]);rw[hl]at h1
  have h2:=hx c (by simp[ho,Op.operands]);rw[hc]at h2
  obtain⟨m1,m2⟩:=Ae (F:=F) (w:=w) eU (show n.toNat≤m.toNat by omega)
  rw[kZ,← hs]at m1 m2
  have oH:(j.bytes:Int)*m≤281474976710656:=by
   have:(j.bytes:Int)*m≤1024*1048576:=Int.mul_le_mul (by omega) (by omega) (by omega) (by omega)
   omega
  refine⟨madeCells z.cells (m.toNat*j.size),e,.slice (some ⟨w.heap.size,0,none⟩) n.toNat m.toNat,?_,m1,m2,.ae _ _ _ _ _ _ ⟨_,e,(0,0),rO _ _,by omega,by unfold maxLen;omega,.inl ⟨rfl,by rw[size_madeCells,hs];omega⟩⟩⟩
  simp only[execOp,ho,h1.eL,h2.eL,Sem.run_bind,run_make w t e j z hd hj hz k k' n m h0.1 h0.2.1 oH (by omega)]
  rfl
end
section
variable {P:Program} {TT:TypeId→Option TI} {F F':Nat→Prop} {w w':World}
theorem Cy:∀(xs cs:List AV) (o k:Nat),o+xs.length≤cs.length→(er cs o xs)[k]?=if o≤k∧k<o+xs.length then xs[k-o]? else cs[k]?
 | [],cs,o,k,_=>by rw[if_neg (by intro h;simp at h;omega)];rfl
 | x::xs,cs,o,k,h=>by
  simp only[List.length_cons]at h
  rw[er,Cy xs (cs.set o x) (o+1) k (by simp;omega)]
  simp only[List.length_cons]
  by_cases h1:o+1≤k∧k<o+1+xs.length
  ·rw[if_pos h1,if_pos (by omega),show k-o=(k-(o+1))+1 by omega];rfl
  ·rw[if_neg h1]
   by_cases h2:o=k
   ·subst h2
    rw[if_pos (by omega),Nat.sub_self,List.getElem?_set]
    simp;omega
   ·rw[if_neg (by omega),List.getElem?_set,if_neg h2]
theorem S1(c vs:List Value)(o k:Nat)(h:o+vs.length≤c.length):(c.take o++vs++c.drop (o+vs.length))[k]?=if o≤k∧k<o+vs.length then vs[k-o]? else c[k]?:=by
 have hl:(c.take o).length=o:=by simp;omega
 by_cases h1:k<o
 ·rw[if_neg (by omega),List.append_assoc,List.getElem?_append_left (by omega),List.getElem?_take,if_pos h1]
 ·by_cases h2:k<o+vs.length
  ·rw[if_pos (by omega),List.append_assoc,List.getElem?_append_right (by omega),hl,List.getElem?_append_left (by omega)]
  ·rw[if_neg (by omega),List.getElem?_append_right (by simp;omega),List.getElem?_drop]
   congr 1
   simp;omega
theorem Nj{i:TI}{cs cs':List AV}{o:Nat}{v:AV}(h:ju i cs o v=some cs'):∃vs,v.cells?=some vs∧vs.length=i.size∧o+i.size≤cs.length∧cs'=er cs o vs:=by
 unfold ju at h
 split at h
 ·rename_i vs hv
  split at h
  ·rename_i h1 h2
   exact⟨vs,hv,Nat.eq_of_beq_eq_true h1,Nat.le_of_ble_eq_true h2,(Option.some.inj h).symm⟩
  ·cases h
 ·cases h
theorem Af{c:Array Value}{cs xs:List AV}{vs:List Value}{o:Nat}(hc:∀(i:Nat) (x:AV),cs[i]?=some x→x.leaf=true∧aA F w x (c.getD i undef))(hx:xs.length=vs.length)(hv:∀(i:Nat) (x:AV),xs[i]?=some x→x.leaf=true∧aA F w x (vs.getD i undef))(ho:o+xs.length≤c.size)
  {out:List AV} (gj:out.length≤c.size) (Bw:∀k y,out[k]?=some y→(if o≤k∧k<o+xs.length then xs[k-o]? else cs[k]?)=some y) :
  ∀(i:Nat) (x:AV),out[i]?=some x→x.leaf=true∧aA F w x ((c.toList.take o++vs++c.toList.drop (o+vs.length)).toArray.getD i undef):=by
 intro k y hk
 have h1:=Bw k y hk
 have ab:k<out.length:=(List.getElem?_eq_some_iff.1 hk).1
 have Xf:=S1 c.toList vs o k (by simp;omega)
 have yH:k<c.size:=by omega
 have hlen:(c.toList.take o++vs++c.toList.drop (o+vs.length)).length=c.size:=by simp;omega
 have hgd:(c.toList.take o++vs++c.toList.drop (o+vs.length)).toArray.getD k undef=((c.toList.take o++vs++c.toList.drop (o+vs.length))[k]?).getD undef:=by
  have h2:k<(c.toList.take o++vs++c.toList.drop (o+vs.length)).toArray.size:=by rw[List.size_toArray,hlen];exact yH
  simp only[Array.getD,h2,dif_pos]
  rw[List.getElem?_eq_getElem (by rw[hlen];exact yH)]
  rfl
 rw[hgd,Xf]
 split at h1
 ·rename_i cX
  rw[if_pos (by omega)]
  obtain⟨h2,h3⟩:=hv _ y h1
  exact⟨h2,by rw[List.getD_eq_getElem?_getD]at h3;exact h3⟩
 ·rename_i cX
  rw[if_neg (by omega)]
  obtain⟨h2,h3⟩:=hc _ y h1
  refine⟨h2,?_⟩
  simpa [Array.getD,yH]using h3
theorem Ny(ok:ck P TT){o:Oper}{t:TypeId}{p x:Operand}(ho:o.op=.store t p x){ρ:Operand→AV}{σ:Hp}{K:AV→Hp→Prop}{i:TI}(hi:TT t=some i){b off:Nat}(hp:ρ p=.ptr b off)(h:ai i σ b off (ρ x) (fun σ'=>K .any σ')):gK P o ρ σ K:=by
 intro a F w hx aD next Q hn
 obtain⟨j,cs,cs',h1,h2,go⟩:=h
 obtain⟨vs,hv,tY,hle,rfl⟩:=Nj h2
 obtain⟨jt,d,z,hj,hd,hs,_⟩:=cd ok hi
 have a1:=hx p (by simp[ho,Op.operands]);rw[hp]at a1
 have a2:=hx x (by simp[ho,Op.operands])
 obtain⟨c1,c2⟩:=CJ a2 hv
 obtain⟨hF,c,T,hc,dI,oG⟩:=(aD.holds _ (List.mem_of_getElem? h1)).cells a1.uA
 have dI:cs.length≤c.size:=dI
 have nm:∀u∈(a.eval x).cells.toList,u.oneCell'=true:=by
  intro u hu
  obtain⟨k,hk⟩:=List.mem_iff_getElem?.1 hu
  have ab:k<(a.eval x).cells.size:=by have:=(List.getElem?_eq_some_iff.1 hk).1;simpa using this
  obtain⟨h3,h4⟩:=c2 k vs[k] (by simp)
  have:=h4.one h3
  simpa [Array.getD,ab,show (a.eval x).cells[k]=u by simpa [ab]using hk]using this
 have ar:=run_storeCells_at (P:=P) b off T (a.eval x).cells.toList 0 c w hc (by simp[c1];omega) nm
 have dV:(execOp a.eval o).run P w=.ok .skip (w.setRow b (c.toList.take off++(a.eval x).cells.toList++c.toList.drop (off+(a.eval x).cells.toList.length)).toArray):=by
  simp only[Nat.add_zero]at ar
  have cS:¬((a.eval x).cells.size≠jt.size):=by rw[c1,tY,hs];simp
  simp only[execOp,ho,a1.tz,Instr.storeAt,Instr.sureAddr,Sem.run_bind,Sem.run_pure,Result.andThen_ok,storeVar,run_sizeOf hj,if_neg cS,ar]
 unfold wq
 rw[dV]
 have hlen:(c.toList.take off++(a.eval x).cells.toList++c.toList.drop (off+(a.eval x).cells.toList.length)).length=c.size:=by simp;omega
 obtain⟨s1,s2⟩:=wH aD h1 (cs':=er cs off vs) hc (c':=(c.toList.take off++(a.eval x).cells.toList++c.toList.drop (off+(a.eval x).cells.toList.length)).toArray) (by simp only[List.size_toArray];exact hlen) (by rw[ur];simp only[List.size_toArray];omega)
  (Af (xs:=vs) oG (by simp[c1]) (fun k y hk=>by
   have ab:k<(a.eval x).cells.size:=by rw[c1];exact (List.getElem?_eq_some_iff.1 hk).1
   have:=c2 k y hk
   simpa [Array.getD,List.getD,ab]using this) (by omega) (by rw[ur];omega) (fun k y hk=>by rw[Cy _ _ _ _ (by omega)]at hk;exact hk))
  (fun k hk=>setRow_other w b k _ hk) (setRow_heap w b c _ T _ hc) rfl rfl rfl (by simp)
 exact hn undef .any _ F _ s1 s2 (.any _) go
theorem At.flat{α:Type}{f:α→List AV}{es:Nat}(hf:∀x,(f x).length=es){b:Nat}:∀(l:List α) (o:Nat),(∀i,(h:i<l.length)→At F w b (o+i*es) (f l[i]))→At F w b o (l.flatMap f)
 | [],o,_=>fun i x h=>by simp at h
 | y::l,o,h=>by
  have h0:=h 0 (by simp)
  have ih:=At.flat hf l (o+es) (fun i hi=>by
   have:=h (i+1) (by simpa using hi)
   rw[Nat.succ_mul,show o+(i*es+es)=o+es+i*es by omega]at this
   simpa using this)
  intro i x hx
  rw[List.flatMap_cons]at hx
  by_cases hi:i<es
  ·rw[List.getElem?_append_left (by rw[hf];exact hi)]at hx
   have:=h0 i x (by simpa using hx)
   simpa using this
  ·rw[List.getElem?_append_right (by rw[hf];omega),hf]at hx
   have:=ih (i-es) x hx
   rw[show o+es+(i-es)=o+i by omega]at this
   exact this
theorem rz{α:Type}{f:α→List AV}{es:Nat}(hf:∀x,(f x).length=es):∀(l:List α),(l.flatMap f).length=l.length*es
 | []=>by simp
 | y::l=>by rw[List.flatMap_cons,List.length_append,hf,rz hf l,List.length_cons,Nat.succ_mul];omega
theorem xg{b o:Nat}{cs:List AV}(h:At F w b o cs):∃news:List Value,news.length=cs.length∧(∀j u,news[j]?=some u→w.cell? ⟨b,o+j,none⟩=some u)∧(∀(i:Nat) (x:AV),cs[i]?=some x→x.leaf=true∧aA F w x (news.getD i undef))∧∀u∈news,u.oneCell'=true:=by
 have hc:∀m,m<cs.length→∃v,w.cell? ⟨b,o+m,none⟩=some v∧v.oneCell'=true:=by
  intro m hm
  obtain⟨h1,v,h2,h3⟩:=h m cs[m] (by simp[hm])
  exact⟨v,h2,h3.one h1⟩
 refine⟨(List.range cs.length).map fun m=>(w.cell? ⟨b,o+m,none⟩).getD undef,by simp,fun j u hj =>?_,fun i x hx =>?_,fun u hu =>?_⟩
 ·have ab:j<cs.length:=by have:=(List.getElem?_eq_some_iff.1 hj).1;simpa using this
  obtain⟨v,h2,_⟩:=hc j ab
  simp[ab,h2]at hj
  rw[h2,hj]
 ·have ab:i<cs.length:=(List.getElem?_eq_some_iff.1 hx).1
  obtain⟨h1,v,h2,h3⟩:=h i x hx
  refine⟨h1,?_⟩
  simpa [List.getD,ab,h2]using h3
 ·obtain⟨m,hm,rfl⟩:=List.mem_map.1 hu
  obtain⟨v,h2,h3⟩:=hc m (List.mem_range.1 hm)
  rw[h2]
  exact h3
theorem wG{σ:Hp}{es n:Nat}{x:AV}{new:List AV}(h:gd σ es x n new)(aD:aV F w σ){v:Value}(hv:aA F w x v){tx e':TypeId}(hk:P.underlying tx=some (.slice e')):
  ∃news:List Value,Src P es tx v n news w∧new.length=news.length∧∀(i:Nat) (x:AV),new[i]?=some x→x.leaf=true∧aA F w x (news.getD i undef):=by
 have empty:∀(a:Option Addr) (c:Nat),Src P es tx (.slice a 0 c) 0 [] w:=by
  intro a c
  cases a with
  | none=>exact Src.ofNil w hk c
  | some a=>exact Src.ofSlice w hk a 0 c [] (by simp) (fun j u h=>by simp at h) (fun _ h=>by cases h)
 cases h with
 | aj=>cases hv;exact⟨[],empty _ _,rfl,fun i x h=>by simp at h⟩
 | ib=>cases hv;exact⟨[],empty _ _,rfl,fun i x h=>by simp at h⟩
 | eX=>cases hv;exact⟨[],empty _ _,rfl,fun i x h=>by simp at h⟩
 | af s l hs =>
  obtain⟨a,c,rfl,h1,h2,h3⟩:=hv.ya
  by_cases aS:l=[]
  ·subst aS
   exact⟨[],empty _ _,rfl,fun i x h=>by simp at h⟩
  ·obtain⟨b,o,rfl,hF,hr⟩:=h3 aS
   have dO:At F w b o (l.flatMap s.cells):=At.flat (es:=s.size) (fun d=>Sh.oS s d) l o (fun i hi=>by
    obtain⟨cs',q1,q2,q3⟩:=hr i hi
    exact At.Kd s q2 q3)
   obtain⟨news,n1,n2,n3,n4⟩:=xg dO
   have hl:=rz (fun d=>Sh.oS s d) l
   exact⟨news,Src.ofSlice w hk _ _ c news (by rw[n1,hl,hs]) (fun j u hj=>by rw[lu];exact n2 j u hj) n4,n1.symm,n3⟩
 | ae j b off len cs h1 h2 =>
  obtain⟨a,cap,rfl,c,T,fz,m1,m2,m3,m4⟩:=hv.iS
  have dO:At F w b off ((cs.drop off).take (n*es)):=by
   have:=(aD.at_ h1 ⟨c,T,fz,m1⟩).drop off
   rw[Nat.zero_add]at this
   intro i x hx
   rw[List.getElem?_take]at hx
   split at hx
   ·exact this i x hx
   ·cases hx
  have hl:((cs.drop off).take (n*es)).length=n*es:=by simp;omega
  obtain⟨news,n1,n2,n3,n4⟩:=xg dO
  rcases m4 with ⟨rfl,_⟩ | ⟨q1,q2,rfl,rfl⟩
  ·exact⟨news,Src.ofSlice w hk _ _ cap news (by rw[n1,hl]) (fun j u hj=>by rw[lu];exact n2 j u hj) n4,n1.symm,n3⟩
  ·have h0:(List.take (0*es) (List.drop off cs))=[]:=by simp
   rw[h0]
   exact⟨[],empty _ _,rfl,fun i x h=>by simp at h⟩
theorem oR{η:Operand→Value}{o:Oper}{s x:Operand}{t t':TypeId}(ho:o.op=.call ⟨.builtin .append,#[s,x],#[t,t']⟩){v:Value}{w w':World}(h:(Builtin.append_ #[t,t'] o.type #[η s,η x]).run P w=.ok v w'):(execOp η o).run P w=.ok (.value v) w':=by
 rw[oX _ _ _ o ho]
 simp[builtin,h]
theorem Om(z:Array Value)(n:Nat):(Builtin.zeroCells z n).size=n*z.size:=by simp[Builtin.zeroCells]
theorem zX{σ:Hp}(aD:aV F w σ){e:TypeId}{i:TI}{z:Value}{olds news:List Value}{co cn:List AV}{len n cap:Nat}(ho:co.length=olds.length)(hn:cn.length=news.length)(hor:∀(i:Nat) (x:AV),co[i]?=some x→x.leaf=true∧aA F w x (olds.getD i undef))(hnr:∀(i:Nat) (x:AV),cn[i]?=some x→x.leaf=true∧aA F w x (news.getD i undef))
  (yF:olds.length=len*i.size) (vR:news.length=n*i.size) (gi:z.cells.size=i.size) (vY:len+n≤cap) (re:cap≤maxLen) :
  let w2:=w.drew.alloc (.cells ((olds++news).toArray++Builtin.zeroCells z.cells (cap-(len+n))) e)
  a6 F w F w2∧aV F w2 ((w.heap.size,co++cn)::σ)∧aA F w2 (.ae w.heap.size 0 (len+n) i.size) (.slice (some ⟨w.heap.size,0,none⟩) (len+n) cap):=by
 intro w2
 have cS:((olds++news).toArray++Builtin.zeroCells z.cells (cap-(len+n))).size=cap*i.size:=by
  simp only[Array.size_append,List.size_toArray,List.length_append,Om,gi,yF,vR]
  rw[← Nat.add_mul,← Nat.add_mul]
  congr 1
  omega
 obtain⟨h1,h2⟩:=G3 aD (c:=(olds++news).toArray++Builtin.zeroCells z.cells (cap-(len+n))) (T:=e) (cs:=co++cn) (by simp;omega) (fun k x hx=>by
  have ab:k<(co++cn).length:=(List.getElem?_eq_some_iff.1 hx).1
  have cD:k<(olds++news).length:=by simp at ab ⊢;omega
  have e1:((olds++news).toArray++Builtin.zeroCells z.cells (cap-(len+n))).getD k undef=(olds++news).getD k undef:=by
   rw[Array.getD_eq_getD_getElem?,Array.getElem?_append_left (by simpa using cD),List.getD_eq_getElem?_getD,List.getElem?_toArray]
  rw[e1]
  by_cases hk:k<co.length
  ·rw[List.getElem?_append_left hk]at hx
   rw[List.getD_eq_getElem?_getD,List.getElem?_append_left (by omega),← List.getD_eq_getElem?_getD]
   exact hor k x hx
  ·rw[List.getElem?_append_right (by omega)]at hx
   rw[List.getD_eq_getElem?_getD,List.getElem?_append_right (by omega),← List.getD_eq_getElem?_getD,← ho]
   exact hnr _ x hx) (w0:=w.drew) (.inr rfl)
 refine⟨h1,h2,.ae _ _ _ _ _ _ ⟨_,e,(0,0),?_,vY,re,.inl ⟨rfl,by rw[cS];omega⟩⟩⟩
 exact rO w.drew _
theorem zw(ok:ck P TT){o:Oper}{s x:Operand}{t t' e e':TypeId}(ho:o.op=.call ⟨.builtin .append,#[s,x],#[t,t']⟩){ρ:Operand→AV}{σ:Hp}{K:AV→Hp→Prop}{it ox i:TI}(ht:TT t=some it)(hk:it.k=.slice e)(kz:TT t'=some ox)(dN:ox.k=.slice e')(hi:TT e=some i)
  (h:AG i σ (ρ s) (ρ x) K):gK P o ρ σ K:=by
 intro a F w hx aD next Q bF
 obtain⟨_,d,_,_,hd,_,_,gB,_,_⟩:=cd ok ht
 rw[hk]at gB
 obtain rfl:=gE gB
 obtain⟨_,d',_,_,gQ,_,_,sf,_,_⟩:=cd ok kz
 rw[dN]at sf
 obtain rfl:=gE sf
 obtain⟨j,dj,z,hj,Ga,hs,⟨hb,kZ⟩,_,hz,eU⟩:=cd ok hi
 have gi:z.cells.size=i.size:=by have:=(rJ (F:=F) (w:=w) eU).1;omega
 have a1:=hx s (by simp[ho,Op.operands,Call.operands])
 have a2:=hx x (by simp[ho,Op.operands,Call.operands])
 have fits:∀{len n:Nat},len+n≤1048576→i.bytes≤1024→(len+n)*j.bytes≤140737488355328:=by
  intro len n h1 h2
  rw[hb]
  have:(len+n)*i.bytes≤1048576*1024:=Nat.mul_le_mul h1 h2
  omega
 cases h with
 | fresh n new fe qD hn ug h0 go same =>
  obtain⟨news,src,q1,q2⟩:=wG (P:=P) qD aD a2 gQ
  rw[← hs]at src
  obtain⟨ad,hv⟩:∃ad,a.eval s=.slice ad 0 0:=by
   rcases fe with fe | fe
   ·rw[fe]at a1;revert a1;generalize a.eval s=u;intro a1;cases a1;exact⟨none,rfl⟩
   ·rw[fe]at a1;revert a1;generalize a.eval s=u;intro a1;cases a1;exact⟨_,rfl⟩
  by_cases dS:n=0
  ·subst dS
   have qq:news=[]:=List.length_eq_zero_iff.1 (by rw[src.newsLen];simp)
   subst qq
   have hr:=oR (η:=a.eval) ho (by rw[hv];exact run_append_nothing w t t' o.type e j hd hj ad 0 0 (Nat.le_refl _) _ src)
   unfold wq
   rw[hr]
   exact bF _ _ σ F w (.refl _ _) aD (by rw[← hv];exact a1) (same rfl)
  ·have hold:(Builtin.firstCells j.size 0 (.slice ad 0 0)).run P w.drew=.ok #[] w.drew:=by
    cases ad with
    | none=>exact run_firstCells_none w.drew _ _ _ _
    | some ad=>exact run_firstCells_some w.drew j.size 0 ad 0 0 [] (by simp) (fun j u h=>by simp at h)
   have tk:=run_append_grow_src (P:=P) w t t' o.type e j z hd hj hz ad 0 0 [] hold _ n news src (by omega) (by omega) (growslice_fits (by omega) (fits (by omega) ug))
   have aq:=grownCap_ge w (0+n) 0 e
   have ra:=grownCap_le_maxLen w (0+n) 0 e (by unfold maxLen;omega)
   obtain⟨g1,g2,g3⟩:=zX aD (e:=e) (i:=i) (z:=z) (olds:=[]) (co:=[]) (news:=news) (cn:=new) (len:=0) (n:=n) (cap:=grownCap w (0+n) 0 e) rfl q1 (fun i x h=>by simp at h) q2 (by simp) (by rw[src.newsLen,hs]) gi aq ra
   have hr:=oR (η:=a.eval) ho (by rw[hv];exact tk)
   unfold wq
   rw[hr]
   have:=go dS w.heap.size
   rw[show n=0+n from (Nat.zero_add n).symm]at this
   exact bF _ _ _ F _ g1 g2 g3 this
 | more jj b len n cs new mE oF dI qD hn ug h0 go =>
  obtain⟨news,src,q1,q2⟩:=wG (P:=P) qD aD a2 gQ
  rw[mE]at a1
  obtain⟨ad,cap,hv,c,T,fz,m1,m2,m3,m4⟩:=a1.iS
  obtain⟨hF,c',T',jf,x7,Bz⟩:=(aD.holds _ (List.mem_of_getElem? oF)).cells ⟨c,T,fz,m1⟩
  have x7:cs.length≤c'.size:=x7
  have Gc:c=c'∧T=T'∧fz=(0,0):=by
   rw[jf]at m1;cases m1;exact⟨rfl,rfl,rfl⟩
  obtain⟨rfl,rfl,rfl⟩:=Gc
  have ab:jj<σ.length:=(List.getElem?_eq_some_iff.1 oF).1
  have pM:(cs.take (len*i.size)).length=len*i.size:=by simp;omega
  have E7:∀(k:Nat) (x:AV),(cs.take (len*i.size))[k]?=some x→x.leaf=true∧aA F w x (c.getD k undef):=by
   intro k x hx
   rw[List.getElem?_take]at hx
   split at hx
   ·exact Bz k x hx
   ·cases hx
  have jE:aV F w (σ.eraseIdx jj):=aD.sub (List.eraseIdx_sublist _ _)
  by_cases xx:len+n≤cap
  ·rcases m4 with ⟨rfl,tG⟩ | ⟨pP,kA,ff,pN⟩
   ·rw[Nat.zero_add]at tG
    have hmul:(len+n)*i.size≤cap*i.size:=Nat.mul_le_mul_right _ xx
    rw[Nat.add_mul]at hmul
    have iJ:news.length=n*i.size:=src.newsLen
    have ar:=run_storeCells_at (P:=P) b (len*i.size) T news 0 c w jf (by omega) src.one
    simp only[Nat.add_zero]at ar
    rw[← hs]at src
    have x8:(Builtin.append_ #[t,t'] o.type #[.slice (some ⟨b,0,none⟩) len cap,a.eval x]).run P w=.ok (.slice (some ⟨b,0,none⟩) (len+n) cap) (w.setRow b (c.toList.take (len*i.size)++news++c.toList.drop (len*i.size+news.length)).toArray):=by
     rw[← hs]at ar ⊢
     simp[Builtin.append_,run_underlying hd,run_underlying gQ,sizeOf,typeInfo,hj,src.len,xx,src.cells,Addr.add_lit,ar]
    have hr:=oR (η:=a.eval) ho (by rw[hv];exact x8)
    have hlen:(c.toList.take (len*i.size)++news++c.toList.drop (len*i.size+news.length)).length=c.size:=by simp;omega
    obtain⟨s1,s2⟩:=wH aD oF (cs':=cs.take (len*i.size)++new) jf (c':=(c.toList.take (len*i.size)++news++c.toList.drop (len*i.size+news.length)).toArray) (by simp only[List.size_toArray];exact hlen) (by rw[List.size_toArray,hlen,List.length_append,pM,q1];omega)
     (Af (cs:=cs.take (len*i.size)) (xs:=new) (fun k y hk=>E7 k y hk) q1 q2 (by omega) (by simp only[List.length_append,pM,q1];omega) (fun k y hk=>by
      by_cases j6:k<len*i.size
      ·rw[if_neg (by omega)]
       rw[List.getElem?_append_left (by omega)]at hk
       exact hk
      ·rw[List.getElem?_append_right (by omega),pM]at hk
       have:=(List.getElem?_eq_some_iff.1 hk).1
       rw[if_pos (by omega)]
       exact hk))
     (fun k hk=>setRow_other w b k _ hk) (setRow_heap w b c _ T _ jf) rfl rfl rfl (by simp)
    unfold wq
    rw[hr]
    refine bF _ _ _ F _ s1 (s2.perm ?_) ?_ (go b)
    ·have:=sO (σ.set jj (b,cs.take (len*i.size)++new)) jj (b,cs.take (len*i.size)++new) (by simp[ab])
     rw[List.eraseIdx_set_eq]at this
     exact this
    ·exact .ae _ _ _ _ _ _ ⟨_,T,(0,0),setRow_heap w b c _ T _ jf,by omega,m3,.inl ⟨rfl,by simp only[List.size_toArray];rw[hlen];omega⟩⟩
   ·subst ff;subst pN
    obtain rfl:n=0:=by omega
    have qq:news=[]:=List.length_eq_zero_iff.1 (by rw[src.newsLen];simp)
    subst qq
    rw[← hs]at src
    have ei:new=[]:=List.length_eq_zero_iff.1 (by simpa using q1)
    subst ei
    have hr:=oR (η:=a.eval) ho (by rw[hv];exact run_append_nothing w t t' o.type e j hd hj (some ad) 0 0 (Nat.le_refl _) _ src)
    unfold wq
    rw[hr]
    have kL:aV F w ((b,cs)::σ.eraseIdx jj):=aD.perm (sO σ jj (b,cs) oF)
    have g0:K (.ae b 0 0 i.size) ((b,[])::σ.eraseIdx jj):=by simpa using go b
    refine bF _ _ ((b,[])::σ.eraseIdx jj) F w (.refl _ _) ⟨kL.nodup,fun p hp =>?_,kL.low⟩ (.ae b 0 0 i.size ad 0 ⟨c,T,(0,0),jf,Nat.le_refl _,by unfold maxLen;omega,.inr ⟨pP,kA,rfl,rfl⟩⟩) g0
    rcases List.mem_cons.1 hp with rfl | hp
    ·exact⟨hF,.inl ⟨c,T,jf,by simp,fun i x h=>by simp at h⟩⟩
    ·exact kL.holds p (List.mem_cons_of_mem _ hp)
  ·obtain⟨olds,o1,o2,o3⟩:∃olds:List Value,olds.length=len*i.size∧(Builtin.firstCells i.size len (.slice (some ad) len cap)).run P w.drew=.ok olds.toArray w.drew∧∀(k:Nat) (x:AV),(cs.take (len*i.size))[k]?=some x→x.leaf=true∧aA F w x (olds.getD k undef):=by
    rcases m4 with ⟨rfl,tG⟩ | ⟨pP,kA,rfl,rfl⟩
    ·have dO:At F w b 0 (cs.take (len*i.size)):=by
      have:=aD.at_ oF ⟨_,_,_,jf⟩
      intro k x hx
      rw[List.getElem?_take]at hx
      split at hx
      ·exact this k x hx
      ·cases hx
     obtain⟨olds,n1,n2,n3,n4⟩:=xg dO
     refine⟨olds,by rw[n1,pM],run_firstCells_some w.drew i.size len _ len cap olds (by rw[n1,pM]) (fun k u hk =>?_),n3⟩
     rw[lu]
     exact n2 k u hk
    ·exact⟨[],by simp,run_firstCells_some w.drew i.size 0 ad 0 0 [] (by simp) (fun j u h=>by simp at h),fun k x h=>by simp at h⟩
   have iJ:news.length=n*i.size:=src.newsLen
   rw[← hs]at src
   have tk:=run_append_grow_src (P:=P) w t t' o.type e j z hd hj hz (some ad) len cap olds (by rw[hs];exact o2) _ n news src (by omega) (by omega) (growslice_fits (by omega) (fits (by omega) ug))
   have aq:=grownCap_ge w (len+n) cap e
   have ra:=grownCap_le_maxLen w (len+n) cap e (by unfold maxLen;omega)
   obtain⟨g1,g2,g3⟩:=zX jE (e:=e) (i:=i) (z:=z) (olds:=olds) (co:=cs.take (len*i.size)) (news:=news) (cn:=new) (len:=len) (n:=n) (cap:=grownCap w (len+n) cap e) (by rw[pM,o1]) q1 o3 q2 o1 iJ gi aq ra
   have hr:=oR (η:=a.eval) ho (by rw[hv];exact tk)
   unfold wq
   rw[hr]
   exact bF _ _ _ F _ g1 g2 g3 (go w.heap.size)
 | vh jj b off len n cs new mE oF dI qD hn ug h0 sh go =>
  obtain⟨news,src,q1,q2⟩:=wG (P:=P) qD aD a2 gQ
  rw[mE]at a1
  obtain⟨ad,cap,hv,c,T,fz,m1,m2,m3,m4⟩:=a1.iS
  obtain⟨hF,c',T',jf,x7,Bz⟩:=(aD.holds _ (List.mem_of_getElem? oF)).cells ⟨c,T,fz,m1⟩
  have x7:cs.length≤c'.size:=x7
  have Gc:c=c'∧T=T'∧fz=(0,0):=by
   rw[jf]at m1;cases m1;exact⟨rfl,rfl,rfl⟩
  obtain⟨rfl,rfl,rfl⟩:=Gc
  have ab:jj<σ.length:=(List.getElem?_eq_some_iff.1 oF).1
  have pM:(cs.take (off+len*i.size)).length=off+len*i.size:=by simp;omega
  have E8:((cs.drop off).take (len*i.size)).length=len*i.size:=by simp;omega
  have E7:∀(k:Nat) (x:AV),(cs.take (off+len*i.size))[k]?=some x→x.leaf=true∧aA F w x (c.getD k undef):=by
   intro k x hx
   rw[List.getElem?_take]at hx
   split at hx
   ·exact Bz k x hx
   ·cases hx
  have jE:aV F w (σ.eraseIdx jj):=aD.sub (List.eraseIdx_sublist _ _)
  by_cases xx:len+n≤cap
  ·rcases m4 with ⟨rfl,tG⟩ | ⟨pP,kA,ff,pN⟩
   ·have tG:off+cap*i.size≤c.size:=tG
    have hmul:(len+n)*i.size≤cap*i.size:=Nat.mul_le_mul_right _ xx
    rw[Nat.add_mul]at hmul
    have iJ:news.length=n*i.size:=src.newsLen
    have ar:=run_storeCells_at (P:=P) b (off+len*i.size) T news 0 c w jf (by omega) src.one
    simp only[Nat.add_zero]at ar
    rw[← hs]at src
    have x8:(Builtin.append_ #[t,t'] o.type #[.slice (some ⟨b,off,none⟩) len cap,a.eval x]).run P w=.ok (.slice (some ⟨b,off,none⟩) (len+n) cap) (w.setRow b (c.toList.take (off+len*i.size)++news++c.toList.drop (off+len*i.size+news.length)).toArray):=by
     rw[← hs]at ar ⊢
     simp[Builtin.append_,run_underlying hd,run_underlying gQ,sizeOf,typeInfo,hj,src.len,xx,src.cells,Addr.add_lit,ar]
    have hr:=oR (η:=a.eval) ho (by rw[hv];exact x8)
    have hlen:(c.toList.take (off+len*i.size)++news++c.toList.drop (off+len*i.size+news.length)).length=c.size:=by simp;omega
    obtain⟨s1,s2⟩:=wH aD oF (cs':=cs.take (off+len*i.size)++new) jf (c':=(c.toList.take (off+len*i.size)++news++c.toList.drop (off+len*i.size+news.length)).toArray) (by simp only[List.size_toArray];exact hlen) (by rw[List.size_toArray,hlen,List.length_append,pM,q1];omega)
     (Af (cs:=cs.take (off+len*i.size)) (xs:=new) (fun k y hk=>E7 k y hk) q1 q2 (by omega) (by simp only[List.length_append,pM,q1];omega) (fun k y hk=>by
      by_cases j6:k<off+len*i.size
      ·rw[if_neg (by omega)]
       rw[List.getElem?_append_left (by omega)]at hk
       exact hk
      ·rw[List.getElem?_append_right (by omega),pM]at hk
       have:=(List.getElem?_eq_some_iff.1 hk).1
       rw[if_pos (by omega)]
       exact hk))
     (fun k hk=>setRow_other w b k _ hk) (setRow_heap w b c _ T _ jf) rfl rfl rfl (by simp)
    unfold wq
    rw[hr]
    refine bF _ _ _ F _ s1 (s2.perm ?_) ?_ sh
    ·have:=sO (σ.set jj (b,cs.take (off+len*i.size)++new)) jj (b,cs.take (off+len*i.size)++new) (by simp[ab])
     rw[List.eraseIdx_set_eq]at this
     exact this
    ·exact .ae _ _ _ _ _ _ ⟨_,T,(0,0),setRow_heap w b c _ T _ jf,by omega,m3,.inl ⟨rfl,by simp only[List.size_toArray];rw[hlen];omega⟩⟩
   ·subst ff;subst pN
    obtain rfl:n=0:=by omega
    have qq:news=[]:=List.length_eq_zero_iff.1 (by rw[src.newsLen];simp)
    subst qq
    rw[← hs]at src
    have ei:new=[]:=List.length_eq_zero_iff.1 (by simpa using q1)
    subst ei
    have hr:=oR (η:=a.eval) ho (by rw[hv];exact run_append_nothing w t t' o.type e j hd hj (some ad) 0 0 (Nat.le_refl _) _ src)
    unfold wq
    rw[hr]
    have kL:aV F w ((b,cs)::σ.eraseIdx jj):=aD.perm (sO σ jj (b,cs) oF)
    have g0:K (.ae b off 0 i.size) ((b,cs.take off)::σ.eraseIdx jj):=by simpa using sh
    refine bF _ _ ((b,cs.take off)::σ.eraseIdx jj) F w (.refl _ _) ⟨kL.nodup,fun p hp =>?_,kL.low⟩ (.ae b off 0 i.size ad 0 ⟨c,T,(0,0),jf,Nat.le_refl _,by unfold maxLen;omega,.inr ⟨pP,kA,rfl,rfl⟩⟩) g0
    rcases List.mem_cons.1 hp with rfl | hp
    ·exact⟨hF,.inl ⟨c,T,jf,by simp only[List.length_take];omega,fun k x h=>by
      rw[List.getElem?_take]at h
      split at h
      ·exact Bz k x h
      ·cases h⟩⟩
    ·exact kL.holds p (List.mem_cons_of_mem _ hp)
  ·obtain⟨olds,o1,o2,o3⟩:∃olds:List Value,olds.length=len*i.size∧(Builtin.firstCells i.size len (.slice (some ad) len cap)).run P w.drew=.ok olds.toArray w.drew∧∀(k:Nat) (x:AV),((cs.drop off).take (len*i.size))[k]?=some x→x.leaf=true∧aA F w x (olds.getD k undef):=by
    rcases m4 with ⟨rfl,tG⟩ | ⟨pP,kA,rfl,rfl⟩
    ·have dO:At F w b off ((cs.drop off).take (len*i.size)):=by
      have:=aD.at_ oF ⟨_,_,_,jf⟩
      intro k x hx
      rw[List.getElem?_take]at hx
      split at hx
      ·rw[List.getElem?_drop]at hx
       have h5:=this (off+k) x hx
       simpa only [Nat.zero_add]using h5
      ·cases hx
     obtain⟨olds,n1,n2,n3,n4⟩:=xg dO
     refine⟨olds,by rw[n1,E8],run_firstCells_some w.drew i.size len _ len cap olds (by rw[n1,E8]) (fun k u hk =>?_),n3⟩
     rw[lu]
     exact n2 k u hk
    ·exact⟨[],by simp,run_firstCells_some w.drew i.size 0 ad 0 0 [] (by simp) (fun j u h=>by simp at h),fun k x h=>by simp at h⟩
   have iJ:news.length=n*i.size:=src.newsLen
   rw[← hs]at src
   have tk:=run_append_grow_src (P:=P) w t t' o.type e j z hd hj hz (some ad) len cap olds (by rw[hs];exact o2) _ n news src (by omega) (by omega) (growslice_fits (by omega) (fits (by omega) ug))
   have aq:=grownCap_ge w (len+n) cap e
   have ra:=grownCap_le_maxLen w (len+n) cap e (by unfold maxLen;omega)
   obtain⟨g1,g2,g3⟩:=zX jE (e:=e) (i:=i) (z:=z) (olds:=olds) (co:=(cs.drop off).take (len*i.size)) (news:=news) (cn:=new) (len:=len) (n:=n) (cap:=grownCap w (len+n) cap e) (by rw[E8,o1]) q1 o3 q2 o1 iJ gi aq ra
   have hr:=oR (η:=a.eval) ho (by rw[hv];exact tk)
   unfold wq
   rw[hr]
   exact bF _ _ _ F _ g1 g2 g3 (go w.heap.size)
theorem MW(w:World)(t t' ty e:TypeId)(k:IntKind)(i:TypeInfo)(z:Value)(hd:P.underlying t=some (.slice e))(gQ:P.underlying t'=some (.int k))(hi:P.info? e=some i)(hz:i.zero=some z)(k':IntKind)(m:Nat)(h0:0<m)(hm:m≤1048576)(hb:m*i.bytes≤140737488355328)(hs:0<i.size):
  (Builtin.append_ #[t,t'] ty #[.slice none 0 0,.int k' (m:Int)]).run P w=.ok (.slice (some ⟨w.heap.size,0,none⟩) m (grownCap w m 0 e)) (w.drew.alloc (.cells (([]++(Builtin.zeroCells z.cells m).toList).toArray++Builtin.zeroCells z.cells (grownCap w m 0 e-m)) e)):=by
 have hw:IntKind.i64.wrap (m:Int)=m:=by rw[IntKind.wrap_i64];omega
 have h1:¬((m:Int)<0):=by omega
 have h2:¬((281474976710656:Int)<(m:Int)*(i.bytes:Int)):=by
  have:((m*i.bytes:Nat):Int)≤140737488355328:=by omega
  rw[Int.natCast_mul]at this;omega
 have h3:¬(9223372036854775807<(m:Int)):=by omega
 have h4:¬(281474976710656<Builtin.nextslicecap m 0*i.bytes):=by rw[nextslicecap_zero h0];omega
 have h5:m≠0:=by omega
 have h6:i.size≠0:=by omega
 simp[Builtin.append_,run_underlying hd,run_underlying gQ,sizeOf,typeInfo,zeroValue,hi,hz,asInt,asIntOf,hw,h1,h2,h3,h4,h5,Question.forced,run_firstCells_none,newRow,grownCap]
 intro h7
 exact absurd h7 (Nat.mul_ne_zero h5 h6)
theorem Ni(ok:ck P TT){o:Oper}{s x:Operand}{t t' e:TypeId}{k:IntKind}(ho:o.op=.call ⟨.builtin .append,#[s,x],#[t,t']⟩){ρ:Operand→AV}{σ:Hp}{K:AV→Hp→Prop}{it ox i:TI}(ht:TT t=some it)(hk:it.k=.slice e)(kz:TT t'=some ox)(dN:ox.k=.int k)(hi:TT e=some i)
  (h:xj i σ (ρ s) (ρ x) K):gK P o ρ σ K:=by
 intro a F w hx aD next Q bF
 obtain⟨_,d,_,_,hd,_,_,gB,_,_⟩:=cd ok ht
 rw[hk]at gB
 obtain rfl:=gE gB
 obtain⟨_,d',_,_,gQ,_,_,sf,_,_⟩:=cd ok kz
 rw[dN]at sf
 obtain rfl:=fits_int sf
 obtain⟨j,dj,z,hj,Ga,hs,⟨hb,kZ⟩,_,hz,eU⟩:=cd ok hi
 have gi:z.cells.size=i.size:=by have:=(rJ (F:=F) (w:=w) eU).1;omega
 have a1:=hx s (by simp[ho,Op.operands,Call.operands])
 have a2:=hx x (by simp[ho,Op.operands,Call.operands])
 cases h with
 | aj k2 n fe sn hn ug h0 go same =>
  rw[fe]at a1
  rw[sn]at a2
  have e1:a.eval s=.slice none 0 0:=by revert a1;generalize a.eval s=u;intro a1;cases a1;rfl
  have e2:a.eval x=.int k2 n:=a2.eL
  by_cases dS:n=0
  ·subst dS
   have x8:(Builtin.append_ #[t,t'] o.type #[.slice none 0 0,.int k2 0]).run P w=.ok (.slice none 0 0) w:=by
    have hw:IntKind.i64.wrap 0=0:=by decide
    simp[Builtin.append_,run_underlying hd,run_underlying gQ,sizeOf,typeInfo,hj,asInt,asIntOf,hw]
   have hr:=oR (η:=a.eval) ho (by rw[e1,e2];exact x8)
   unfold wq
   rw[hr]
   exact bF _ _ σ F w (.refl _ _) aD .aj (same rfl)
  ·obtain⟨m,rfl⟩:∃m:Nat,n=m:=⟨n.toNat,by omega⟩
   have B4:0<m:=by omega
   have hmul:m*j.bytes≤140737488355328:=by
    rw[hb]
    have:m*i.bytes≤1048576*1024:=Nat.mul_le_mul (by omega) ug
    omega
   have tk:=MW (P:=P) w t t' o.type e k j z hd gQ hj hz k2 m B4 (by omega) hmul (by omega)
   have aq:=grownCap_ge w m 0 e
   have ra:=grownCap_le_maxLen w m 0 e (by unfold maxLen;omega)
   obtain⟨r1,r2⟩:=Ae (F:=F) (w:=w) eU (Nat.le_refl m)
   have iC:(madeCells z.cells (m*i.zero.length))=Builtin.zeroCells z.cells m:=by
    unfold madeCells Builtin.zeroCells
    rw[gi,kZ]
   have cS:(Builtin.zeroCells z.cells m).size=m*i.zero.length:=by rw[← iC,size_madeCells]
   obtain⟨g1,g2,g3⟩:=zX aD (e:=e) (i:=i) (z:=z) (olds:=[]) (co:=[]) (news:=(Builtin.zeroCells z.cells m).toList) (cn:=bN i.zero m) (len:=0) (n:=m) (cap:=grownCap w m 0 e) rfl (by rw[ru,Array.length_toList,cS]) (fun i x h=>by simp at h) (fun k y hk=>by
    have:=r2 k y hk
    rw[iC]at this
    rw[List.getD_eq_getElem?_getD,Array.getElem?_toList,← Array.getD_eq_getD_getElem?]
    exact this) (by simp) (by rw[Array.length_toList,cS,kZ]) gi (by rw[Nat.zero_add];exact aq) ra
   rw[Nat.zero_add]at g1 g2 g3
   have hr:=oR (η:=a.eval) ho (by rw[e1,e2];exact tk)
   unfold wq
   rw[hr]
   exact bF _ _ _ F _ g1 g2 g3 (go (by omega) w.heap.size)
theorem Nt(ok:ck P TT){o:Oper}{s x:Operand}{t t' e e':TypeId}(ho:o.op=.call ⟨.builtin .append,#[s,x],#[t,t']⟩){ρ:Operand→AV}{σ:Hp}{K:AV→Hp→Prop}{it ox i:TI}(ht:TT t=some it)(hk:it.k=.slice e)(kz:TT t'=some ox)(dN:ox.k=.slice e')(hi:TT e=some i)
  (h:AppendAt i σ (ρ s) (ρ x) K):gK P o ρ σ K:=by
 cases h with
 | fresh n new hs hx hn hb h0 go same=>exact zw ok ho ht hk kz dN hi (.fresh n new hs hx hn hb h0 go same)
 | more j b len n cs new hs h1 h2 hx hn hb h0 go=>exact zw ok ho ht hk kz dN hi (.more j b len n cs new hs h1 h2 hx hn hb h0 go)
 | vh j b off len n cs new hs h1 h2 hx hn hb h0 sh go=>exact zw ok ho ht hk kz dN hi (.vh j b off len n cs new hs h1 h2 hx hn hb h0 sh go)
 | perm K2 hp h cD =>
  have:=zw ok ho ht hk kz dN hi h
  intro a F w hx aD next Q hn
  refine this a F w hx (aD.perm hp) next Q (fun v av σ' F' w' h1 h2 h3 h4 =>?_)
  obtain⟨tM,p,k | ⟨hl,k⟩⟩:=cD av σ' h4
  ·exact hn v av tM F' w' h1 (h2.perm p) h3 k
  ·exact hn v _ tM F' w' h1 (h2.perm p) (.via _ _ hl h3) k
end
section
variable {P:Program} {TT:TypeId→Option TI} {F:Nat→Prop} {w:World}
theorem C2{σ:Hp}(aD:aV F w σ){j b off:Nat}{cs:List AV}(h1:σ[j]?=some (b,cs))(Gd:kH w b)(xs:List AV)(news:List Value)(hl:xs.length=news.length)(hle:off+xs.length≤cs.length)(hv:∀(k:Nat) (y:AV),xs[k]?=some y→y.leaf=true∧aA F w y (news.getD k undef)):
  ∃w',(storeCells ⟨b,off,none⟩ news).run P w=.ok () w'∧a6 F w F w'∧aV F w' (σ.set j (b,er cs off xs)):=by
 obtain⟨hF,c,T,hc,dI,oG⟩:=(aD.holds _ (List.mem_of_getElem? h1)).cells Gd
 have dI:cs.length≤c.size:=dI
 have nm:∀u∈news,u.oneCell'=true:=by
  intro u hu
  obtain⟨k,hk⟩:=List.mem_iff_getElem?.1 hu
  have ab:k<news.length:=(List.getElem?_eq_some_iff.1 hk).1
  obtain⟨h3,h4⟩:=hv k (xs[k]'(by omega)) (by simp)
  have:=h4.one h3
  rwa [List.getD_eq_getElem?_getD,hk]at this
 have ar:=run_storeCells_at (P:=P) b off T news 0 c w hc (by omega) nm
 simp only[Nat.add_zero]at ar
 have hlen:(c.toList.take off++news++c.toList.drop (off+news.length)).length=c.size:=by simp;omega
 obtain⟨s1,s2⟩:=wH aD h1 (cs':=er cs off xs) hc (c':=(c.toList.take off++news++c.toList.drop (off+news.length)).toArray) (by simp only[List.size_toArray];exact hlen) (by rw[ur];simp only[List.size_toArray];omega)
  (Af (xs:=xs) oG hl hv (by omega) (by rw[ur];omega) (fun k y hk=>by rw[Cy _ _ _ _ (by omega)]at hk;exact hk))
  (fun k hk=>setRow_other w b k _ hk) (setRow_heap w b c _ T _ hc) rfl rfl rfl (by simp)
 exact⟨_,ar,s1,s2⟩
theorem GO{η:Operand→Value}{o:Oper}{s:Operand}{t:TypeId}(ho:o.op=.call ⟨.builtin .clear,#[s],#[t]⟩){v:Value}{w w':World}(h:(Builtin.clear_ #[t] o.type #[η s]).run P w=.ok v w'):(execOp η o).run P w=.ok (.value v) w':=by
 rw[oX _ _ _ o ho]
 simp[builtin,h]
theorem wm{η:Operand→Value}{o:Oper}{d x:Operand}{t t':TypeId}(ho:o.op=.call ⟨.builtin .copy,#[d,x],#[t,t']⟩){v:Value}{w w':World}(h:(Builtin.copy_ #[t,t'] o.type #[η d,η x]).run P w=.ok v w'):(execOp η o).run P w=.ok (.value v) w':=by
 rw[oX _ _ _ o ho]
 simp[builtin,h]
theorem Di{σ:Hp}{j:Nat}{p:Nat×List AV}(h:σ[j]?=some p):σ.set j p=σ:=by
 obtain⟨h1,h2⟩:=List.getElem?_eq_some_iff.1 h
 subst h2
 exact List.set_getElem_self h1
theorem N6(ok:ck P TT){o:Oper}{s:Operand}{t e:TypeId}(ho:o.op=.call ⟨.builtin .clear,#[s],#[t]⟩){ρ:Operand→AV}{σ:Hp}{K:AV→Hp→Prop}{it i:TI}(ht:TT t=some it)(hk:it.k=.slice e)(hi:TT e=some i)(h:KK i σ (ρ s) (fun σ'=>K (.tup []) σ')):gK P o ρ σ K:=by
 intro a F w hx aD next Q bF
 obtain⟨_,d,_,_,hd,_,_,gB,_,_⟩:=cd ok ht
 rw[hk]at gB
 obtain rfl:=gE gB
 obtain⟨j,dj,z,hj,Ga,hs,⟨hb,kZ⟩,_,hz,eU⟩:=cd ok hi
 have a1:=hx s (by simp[ho,Op.operands,Call.operands])
 have e0:∀(ad:Option Addr) (c:Nat),(Builtin.clear_ #[t] o.type #[.slice ad 0 c]).run P w=.ok (.tuple #[]) w:=fun ad c=>by
  cases ad <;> simp[Builtin.clear_,run_underlying hd]
 have done:∀(ad:Option Addr) (c:Nat),a.eval s=.slice ad 0 c→K (.tup []) σ→wq P o a w next Q:=fun ad c hv hK=>by
  unfold wq
  rw[GO (η:=a.eval) ho (by rw[hv];exact e0 ad c)]
  exact bF (.tuple #[]) _ σ F w (.refl _ _) aD (.tup _ _ rfl (fun i x h=>by simp at h)) hK
 cases h with
 | none hs go =>
  rcases hs with hs | hs | hs
  ·rw[hs]at a1;generalize hv:a.eval s=v at a1;cases a1;exact done _ _ hv go
  ·rw[hs]at a1;generalize hv:a.eval s=v at a1;cases a1;exact done _ _ hv go
  ·rw[hs]at a1;generalize hv:a.eval s=v at a1;cases a1;exact done _ _ hv go
 | ae j' b off len cs mE h1 h2 go =>
  rw[mE]at a1
  obtain⟨ad,cap,hv,c,T,fz,m1,m2,m3,m4⟩:=a1.iS
  by_cases ff:len=0
  ·subst ff
   refine done _ _ hv ?_
   have e:er cs off (bN i.zero 0)=cs:=rfl
   rw[e,Di h1]at go
   exact go
  ·obtain⟨rfl,_⟩:ad=⟨b,off,none⟩∧off+cap*i.size≤c.size:=by
    rcases m4 with h | ⟨_,_,h,_⟩
    ·exact h
    ·exact absurd h ff
   obtain⟨r1,r2⟩:=Ae (F:=F) (w:=w) eU (Nat.le_refl len)
   have W4:z.cells.size=i.zero.length:=((rJ (F:=F) (w:=w) eU).1).symm
   have iC:(madeCells z.cells (len*i.zero.length))=Builtin.zeroCells z.cells len:=by
    unfold madeCells Builtin.zeroCells
    rw[W4]
   have cS:(Builtin.zeroCells z.cells len).size=len*i.zero.length:=by rw[← iC,size_madeCells]
   obtain⟨w',k1,k2,k3⟩:=C2 (P:=P) aD h1 (off:=off) ⟨_,_,_,m1⟩ (bN i.zero len) (Builtin.zeroCells z.cells len).toList (by rw[ru,Array.length_toList,cS]) (by rw[ru,kZ];exact h2) (fun k y hk=>by
    have:=r2 k y hk
    rw[iC]at this
    refine⟨this.1,?_⟩
    rw[List.getD_eq_getElem?_getD,Array.getElem?_toList,← Array.getD_eq_getD_getElem?]
    exact this.2)
   obtain⟨len,rfl⟩:∃m,len=m+1:=⟨len-1,by omega⟩
   have dV:(Builtin.clear_ #[t] o.type #[.slice (some ⟨b,off,none⟩) (len+1) cap]).run P w=.ok (.tuple #[]) w':=by
    simp[Builtin.clear_,run_underlying hd,zeroValue,typeInfo,hj,hz,k1]
   unfold wq
   rw[GO (η:=a.eval) ho (by rw[hv];exact dV)]
   exact bF (.tuple #[]) _ _ F w' k2 k3 (.tup _ _ rfl (fun i x h=>by simp at h)) go
theorem O3(ok:ck P TT){o:Oper}{d x:Operand}{t t' e e':TypeId}(ho:o.op=.call ⟨.builtin .copy,#[d,x],#[t,t']⟩){ρ:Operand→AV}{σ:Hp}{K:AV→Hp→Prop}{it ox i:TI}(ht:TT t=some it)(hk:it.k=.slice e)(kz:TT t'=some ox)(dN:ox.k=.slice e')(hi:TT e=some i)
  (h:En i σ (ρ d) (ρ x) K):gK P o ρ σ K:=by
 intro a F w hx aD next Q bF
 obtain⟨_,dd,_,_,hd,_,_,gB,_,_⟩:=cd ok ht
 rw[hk]at gB
 obtain rfl:=gE gB
 obtain⟨_,d',_,_,gQ,_,_,sf,_,_⟩:=cd ok kz
 rw[dN]at sf
 obtain rfl:=gE sf
 obtain⟨j,dj,z,hj,Ga,hs,_⟩:=cd ok hi
 have a1:=hx d (by simp[ho,Op.operands,Call.operands])
 have a2:=hx x (by simp[ho,Op.operands,Call.operands])
 cases h with
 | none new nB qD go =>
  obtain⟨news,src,q1,q2⟩:=wG (P:=P) qD aD a2 gQ
  have qq:news=[]:=List.length_eq_zero_iff.1 (by rw[src.newsLen];simp)
  subst qq
  rw[← hs]at src
  obtain⟨ad,c,hv⟩:∃ad c,a.eval d=.slice ad 0 c:=by
   rcases nB with nB | nB | nB
   ·rw[nB]at a1;generalize a.eval d=v at a1;cases a1;exact⟨_,_,rfl⟩
   ·rw[nB]at a1;generalize a.eval d=v at a1;cases a1;exact⟨_,_,rfl⟩
   ·rw[nB]at a1;generalize a.eval d=v at a1;cases a1;exact⟨_,_,rfl⟩
  have dV:(Builtin.copy_ #[t,t'] o.type #[.slice ad 0 c,a.eval x]).run P w=.ok (goInt 0) w:=by
   cases ad <;> simp[Builtin.copy_,run_underlying hd,src.len,sizeOf,typeInfo,hj,src.cells,storeCells]
  unfold wq
  rw[wm (η:=a.eval) ho (by rw[hv];exact dV)]
  exact bF _ _ σ F w (.refl _ _) aD (.int _ _) go
 | ae jj b off len n cs new F9 h1 h2 qD hn go =>
  obtain⟨news,src,q1,q2⟩:=wG (P:=P) qD aD a2 gQ
  rw[F9]at a1
  obtain⟨ad,cap,hv,c,T,fz,m1,m2,m3,m4⟩:=a1.iS
  have iJ:news.length=n*i.size:=src.newsLen
  have hmul:n*i.size≤len*i.size:=Nat.mul_le_mul_right _ hn
  rw[← hs]at src
  by_cases ff:len=0
  ·obtain rfl:n=0:=by omega
   have qq:news=[]:=List.length_eq_zero_iff.1 (by rw[iJ];simp)
   subst qq
   have ei:new=[]:=List.length_eq_zero_iff.1 (by simpa using q1)
   subst ei
   subst ff
   have dV:(Builtin.copy_ #[t,t'] o.type #[.slice (some ad) 0 cap,a.eval x]).run P w=.ok (goInt 0) w:=by
    simp[Builtin.copy_,run_underlying hd,src.len,sizeOf,typeInfo,hj,src.cells,storeCells]
   unfold wq
   rw[wm (η:=a.eval) ho (by rw[hv];exact dV)]
   have e:er cs off ([]:List AV)=cs:=rfl
   rw[e,Di h1]at go
   exact bF _ _ σ F w (.refl _ _) aD (.int _ _) go
  ·obtain⟨rfl,_⟩:ad=⟨b,off,none⟩∧off+cap*i.size≤c.size:=by
    rcases m4 with h | ⟨_,_,h,_⟩
    ·exact h
    ·exact absurd h ff
   obtain⟨w',k1,k2,k3⟩:=C2 (P:=P) aD h1 (off:=off) ⟨_,_,_,m1⟩ new news q1 (by omega) q2
   have dV:(Builtin.copy_ #[t,t'] o.type #[.slice (some ⟨b,off,none⟩) len cap,a.eval x]).run P w=.ok (goInt n) w':=by
    simp[Builtin.copy_,run_underlying hd,src.len,sizeOf,typeInfo,hj,Nat.min_eq_left hn,src.cells,k1]
   unfold wq
   rw[wm (η:=a.eval) ho (by rw[hv];exact dV)]
   exact bF _ _ _ F w' k2 k3 (.int _ _) go
 | part jj b off len cs F9 h1 h2 j2 b2 kj n iq hxm h3 h4 hn go =>
  rw[F9]at a1
  rw[hxm]at a2
  obtain⟨ad,cap,hv,c,T,fz,m1,m2,m3,m4⟩:=a1.iS
  obtain⟨a3,tK,hv3,c3,T3,Ce,p1,p2,p3,p4⟩:=a2.iS
  have hmul:len*i.size≤n*i.size:=Nat.mul_le_mul_right _ hn
  by_cases ff:len=0
  ·subst ff
   have hc:(Builtin.firstCells i.size 0 (.slice (some a3) n tK)).run P w=.ok (([]:List Value).toArray) w:=run_firstCells_some w i.size 0 a3 n tK [] (by simp) (fun j u h=>by simp at h)
   rw[← hs]at hc
   have dV:(Builtin.copy_ #[t,t'] o.type #[.slice (some ad) 0 cap,.slice (some a3) n tK]).run P w=.ok (goInt 0) w:=by
    simp[Builtin.copy_,run_underlying hd,sizeOf,typeInfo,hj,Builtin.lenOf,hc,storeCells]
   unfold wq
   rw[wm (η:=a.eval) ho (by rw[hv,hv3];exact dV)]
   have e:er cs off ((iq.drop kj).take (0*i.size))=cs:=by rw[Nat.zero_mul];rfl
   rw[e,Di h1]at go
   exact bF _ _ σ F w (.refl _ _) aD (.int _ _) go
  ·obtain⟨rfl,_⟩:ad=⟨b,off,none⟩∧off+cap*i.size≤c.size:=by
    rcases m4 with h | ⟨_,_,h,_⟩
    ·exact h
    ·exact absurd h ff
   obtain⟨rfl,_⟩:a3=⟨b2,kj,none⟩∧kj+tK*i.size≤c3.size:=by
    rcases p4 with h | ⟨_,_,h,_⟩
    ·exact h
    ·omega
   have dO:At F w b2 kj ((iq.drop kj).take (len*i.size)):=by
    have:=(aD.at_ h3 ⟨c3,T3,Ce,p1⟩).drop kj
    rw[Nat.zero_add]at this
    intro i x hx
    rw[List.getElem?_take]at hx
    split at hx
    ·exact this i x hx
    ·cases hx
   have hl:((iq.drop kj).take (len*i.size)).length=len*i.size:=by simp;omega
   obtain⟨news,n1,n2,n3,n4⟩:=xg dO
   have hc:(Builtin.firstCells i.size len (.slice (some ⟨b2,kj,none⟩) n tK)).run P w=.ok news.toArray w:=run_firstCells_some w i.size len _ n tK news (by rw[n1,hl]) (fun j u hj=>by rw[lu];exact n2 j u hj)
   rw[← hs]at hc
   obtain⟨w',k1,k2,k3⟩:=C2 (P:=P) aD h1 (off:=off) ⟨_,_,_,m1⟩ ((iq.drop kj).take (len*i.size)) news n1.symm (by rw[hl];exact h2) n3
   have dV:(Builtin.copy_ #[t,t'] o.type #[.slice (some ⟨b,off,none⟩) len cap,.slice (some ⟨b2,kj,none⟩) n tK]).run P w=.ok (goInt len) w':=by
    simp[Builtin.copy_,run_underlying hd,sizeOf,typeInfo,hj,Builtin.lenOf,Nat.min_eq_right hn,hc,k1]
   unfold wq
   rw[wm (η:=a.eval) ho (by rw[hv,hv3];exact dV)]
   exact bF _ _ _ F w' k2 k3 (.int _ _) go
end
section
variable {P:Program} {TT:TypeId→Option TI}
theorem M1{F:Nat→Prop}{w:World}:∀(s:Sh) (d:s.T) (vs:List Value),vs.length=s.size→(∀(k:Nat) (x:AV),(s.cells d)[k]?=some x→aA F w x (vs.getD k undef))→iA F w s vs d:=by
 intro s
 induction s with
 | int k=>intro d vs hl h;match vs,hl with | [v],_=>have:=(h 0 _ rfl).eL;exact congrArg (fun x=>[x]) this
 | bool=>intro d vs hl h;match vs,hl with | [v],_=>have:=(h 0 _ rfl).na;exact congrArg (fun x=>[x]) this
 | str=>intro d vs hl h;match vs,hl with | [v],_=>have:=(h 0 _ rfl).xJ;exact congrArg (fun x=>[x]) this
 | nil=>intro d vs hl h;exact List.length_eq_zero_iff.1 hl
 | slice e ih =>
  intro d vs hl h
  match vs,hl with
  | [v],_ =>
   have:=h 0 _ rfl
   cases this with
   | af _ _ _ h=>exact h
 | field f r mB gz =>
  intro d vs hl h
  simp only[Sh.size]at hl
  refine⟨vs.take f.size,vs.drop f.size,(List.take_append_drop _ _).symm,by simp;omega,mB d.1 _ (by simp;omega) (fun k x hk =>?_),gz d.2 _ (by simp;omega) (fun k x hk =>?_)⟩
  ·have j6:k<f.size:=by rw[← Sh.oS f d.1];exact (List.getElem?_eq_some_iff.1 hk).1
   have:=h k x (by show (f.cells d.1++r.cells d.2)[k]?=some x;rw[List.getElem?_append_left (by rw[Sh.oS];exact j6)];exact hk)
   rw[List.getD_eq_getElem?_getD]at this ⊢
   rw[List.getElem?_take,if_pos j6]
   exact this
  ·have:=h (f.size+k) x (by show (f.cells d.1++r.cells d.2)[f.size+k]?=some x;rw[List.getElem?_append_right (by rw[Sh.oS];omega),Sh.oS,Nat.add_sub_cancel_left];exact hk)
   rw[List.getD_eq_getElem?_getD]at this ⊢
   rw[List.getElem?_drop]
   exact this
theorem flat_get{α:Type}{f:α→List AV}{es:Nat}(hf:∀x,(f x).length=es):∀(l:List α) (i:Nat) (h:i<l.length) (k:Nat),k<es→(l.flatMap f)[i*es+k]?=(f l[i])[k]?
 | [],i,h,_,_=>by simp at h
 | y::l,0,h,k,hk=>by rw[List.flatMap_cons,List.getElem?_append_left (by rw[hf];omega)];simp
 | y::l,i+1,h,k,hk=>by
  rw[List.flatMap_cons,List.getElem?_append_right (by rw[hf,Nat.succ_mul];omega),hf,show (i+1)*es+k-es=i*es+k by rw[Nat.succ_mul];omega]
  simpa using flat_get hf l i (by simpa using h) k hk
theorem RH{F:Nat→Prop}{w:World}{σ:Hp}(aD:aV F w σ){j b off len es:Nat}{cs:List AV}{e:Sh}{l:List e.T}(h1:σ[j]?=some (b,cs))(h2:(cs.drop off).take (len*es)=l.flatMap e.cells)(h3:l.length=len∧e.size=es∧0<es){v:Value}(hv:aA F w (.ae b off len es) v):
  aA (fun x=>F x∨x=b) w (.af e l) v:=by
 obtain⟨hl,he,mi⟩:=h3
 have ar:a6 F w (fun x=>F x∨x=b) w:=⟨rfl,rfl,rfl,Nat.le_refl _,fun _ h=>.inl h,fun _ _=>rfl,fun _ c _ fz h=>⟨c,fz,h,rfl⟩,Nat.le_refl _⟩
 obtain⟨a,cap,rfl,c,T,fz,m1,m2,m3,m4⟩:=hv.iS
 subst hl
 refine .af e l _ ⟨some a,cap,rfl,m2,m3,(fun e=>by cases e),fun aS =>?_⟩
 have jd:0<l.length:=List.length_pos_iff.2 aS
 rcases m4 with ⟨rfl,tG⟩ | ⟨_,_,h0,_⟩
 ·refine⟨b,off,rfl,⟨.inr rfl,c,T,fz,m1⟩,fun i hi =>?_⟩
  have dO:At F w b off ((cs.drop off).take (l.length*es)):=by
   have:=(aD.at_ h1 ⟨c,T,fz,m1⟩).drop off
   rw[Nat.zero_add]at this
   intro i x hx
   rw[List.getElem?_take]at hx
   split at hx
   ·exact this i x hx
   ·cases hx
  rw[h2]at dO
  have iC:∀k,k<es→∃x v,(e.cells l[i])[k]?=some x∧w.cell? ⟨b,off+i*es+k,none⟩=some v∧aA F w x v:=by
   intro k hk
   have hlen:k<(e.cells l[i]).length:=by rw[Sh.oS,he];exact hk
   have hx:=List.getElem?_eq_getElem hlen
   have:=flat_get (f:=e.cells) (es:=es) (fun d=>by rw[Sh.oS,he]) l i hi k hk
   obtain⟨_,v,h4,h5⟩:=dO (i*es+k) _ (this.trans hx)
   exact⟨_,v,hx,by rw[← h4,Nat.add_assoc],h5⟩
  refine⟨(List.range es).map fun k=>(w.cell? ⟨b,off+i*es+k,none⟩).getD undef,by simp[he],fun k u hk =>?_,M1 e l[i] _ (by simp[he]) (fun k x hk =>?_)⟩
  ·have yG:k<es:=by have:=(List.getElem?_eq_some_iff.1 hk).1;simpa using this
   obtain⟨x,v,_,h4,_⟩:=iC k yG
   simp[yG,h4]at hk
   rw[he,h4,hk]
  ·have yG:k<es:=by have:=(List.getElem?_eq_some_iff.1 hk).1;rw[Sh.oS,he]at this;exact this
   obtain⟨x',v,h3,h4,h5⟩:=iC k yG
   rw[h3]at hk
   cases hk
   have:aA F w x v:=h5
   simpa [List.getD,yG,h4]using this.mono ar
 ·omega
theorem sP{F F':Nat→Prop}{w:World}{b off len es:Nat}{e:Sh}{l:List e.T}(ar:a6 F w F' w)(hh:∀v,aA F w (.ae b off len es) v→aA F' w (.af e l) v){r r':AV}(h:dp b off len es e l r r'):∀v,aA F w r v→aA F' w r' v:=by
 induction h with
 | here=>exact hh
 | refl x=>exact fun v h=>h.mono ar
 | tup xs ys h hi ih =>
  intro v hv
  cases hv with
  | tup _ vs hs hr =>
   refine .tup _ _ (by rw[← h];exact hs) (fun i y hy =>?_)
   have mJ:i<xs.length:=by rw[h];exact (List.getElem?_eq_some_iff.1 hy).1
   exact ih i xs[i] y (List.getElem?_eq_getElem mJ) hy _ (hr i _ (List.getElem?_eq_getElem mJ))
 | agg xs ys h hl hi ih =>
  intro v hv
  obtain⟨vs,rfl,hs,hr⟩:=hv.qJ
  refine .agg _ _ (by rw[← h];exact hs) hl (fun i y hy =>?_)
  have mJ:i<xs.length:=by rw[h];exact (List.getElem?_eq_some_iff.1 hy).1
  exact ih i xs[i] y (List.getElem?_eq_getElem mJ) hy _ (hr i _ (List.getElem?_eq_getElem mJ)).2
 | nil e' =>
  intro v hv
  cases hv
  exact .af e' [] _ ⟨none,0,rfl,Nat.le_refl _,by unfold maxLen;omega,fun _=>rfl,fun aS=>absurd rfl aS⟩
 | eX e' =>
  intro v hv
  cases hv with
  | eX a c h=>exact .af e' [] _ ⟨some a,c,rfl,Nat.zero_le _,h,(fun e=>by cases e),fun aS=>absurd rfl aS⟩
 | via h ih =>
  intro v hv
  cases hv with
  | via _ _ _ hv=>exact ih v hv
theorem ql{F:Nat→Prop}{w:World}{σ:Hp}(aD:aV F w σ){j b off len es:Nat}{cs:List AV}{e:Sh}{l:List e.T}(h1:σ[j]?=some (b,cs))(h2:(cs.drop off).take (len*es)=l.flatMap e.cells)(h3:l.length=len∧e.size=es∧0<es):
  a6 F w (fun x=>F x∨x=b) w∧aV (fun x=>F x∨x=b) w (σ.eraseIdx j)∧∀v,aA F w (.ae b off len es) v→aA (fun x=>F x∨x=b) w (.af e l) v:=by
 have ar:a6 F w (fun x=>F x∨x=b) w:=⟨rfl,rfl,rfl,Nat.le_refl _,fun _ h=>.inl h,fun _ _=>rfl,fun _ c _ fz h=>⟨c,fz,h,rfl⟩,Nat.le_refl _⟩
 have kL:aV F w ((b,cs)::σ.eraseIdx j):=aD.perm (sO σ j (b,cs) h1)
 have bC:=kL.nodup
 simp only[List.map_cons,List.nodup_cons]at bC
 have kR:aV (fun x=>F x∨x=b) w (σ.eraseIdx j):=⟨bC.2,fun p hp=>(kL.holds p (List.mem_cons_of_mem _ hp)).mono ar rfl (fun hF=>by
  rcases hF with hF | hF
  ·exact (kL.holds p (List.mem_cons_of_mem _ hp)).1 hF
  ·exact bC.1 (List.mem_map.2 ⟨p,hp,hF⟩)),fun x hx=>by
  rcases hx with hx | hx
  ·exact aD.low x hx
  ·subst hx;exact (kL.holds (x,cs) (List.mem_cons_self ..)).lt⟩
 exact⟨ar,kR,fun v hv=>RH aD h1 h2 h3 hv⟩
end
section
variable {P:Program} {TT:TypeId→Option TI}
theorem Cv{F:Nat→Prop}{w:World}{xs:Array Operand}{ρ:Operand→AV}{η:Operand→Value}(h:∀x∈xs.toList,aA F w (ρ x) (η x)):fO F w (xs.toList.map ρ) (xs.map η):=by
 refine⟨by simp,fun i x hi =>?_⟩
 simp only[List.getElem?_map,Option.map_eq_some_iff]at hi
 obtain⟨a,h1,rfl⟩:=hi
 have ab:i<xs.size:=by have:=(List.getElem?_eq_some_iff.1 h1).1;simpa using this
 have:xs[i]=a:=by simpa [ab]using h1
 simpa [Array.getD,ab,this]using h a (List.mem_of_getElem? h1)
theorem zx{F:Nat→Prop}{w:World}{xs ys:List AV}{us vs:Array Value}(h:fO F w xs us)(k:fO F w ys vs):fO F w (xs++ys) (us++vs):=by
 refine⟨by simp[h.1,k.1],fun i x hi =>?_⟩
 rw[Array.getD_eq_getD_getElem?]
 by_cases ab:i<xs.length
 ·rw[List.getElem?_append_left ab]at hi
  rw[Array.getElem?_append_left (by rw[← h.1];exact ab),← Array.getD_eq_getD_getElem?]
  exact h.2 i x hi
 ·rw[List.getElem?_append_right (by omega)]at hi
  rw[Array.getElem?_append_right (by rw[← h.1];omega),← Array.getD_eq_getD_getElem?,← h.1]
  exact k.2 _ x hi
theorem HX{F:Nat→Prop}{w:World}{x:AV}{v:Value}(h:aA F w x v):fO F w [x] #[v]:=⟨rfl,fun i y hi=>by cases i <;> simp at hi;subst hi;exact h⟩
theorem zE{o:Oper}{ρ:Operand→AV}{σ:Hp}{K:AV→Hp→Prop}(h:gK P o (fun x=>a8 (ρ x)) σ K):gK P o ρ σ K:=fun a F w hx=>h a F w (fun x hm=>(hx x hm).a8)
theorem GX{o:Oper}{c:Call}(ho:o.op=.call c){ρ:Operand→AV}{K:FuncId→List AV→Prop}{KY:Nat→List AV→Prop}(h:l5 P c ρ K KY):
  (∃l xs,KY l xs∧∀(η:Operand→Value) (F:Nat→Prop) (w:World),(∀x∈o.op.operands.toList,aA F w (ρ x) (η x))→∃vs,fO F w xs vs∧execOp η o=Instr.yield l vs)∨∃f xs,K f xs∧∀(η:Operand→Value) (F:Nat→Prop) (w:World),(∀x∈o.op.operands.toList,aA F w (ρ x) (η x))→∃vs,fO F w xs vs∧(Enters P f→(execOp η o).run P w=.ok (.enter f vs) w):=by
 unfold l5 at h
 split at h
 ·rename_i f0 hc
  split at h
  ·rename_i g first cap hf
   refine .inr ⟨g,_,h,fun η F w hx =>?_⟩
   have h1:=hx f0 (by simp[ho,Op.operands,Call.operands,hc])
   rw[hf]at h1
   have h2:=Cv (xs:=c.args) (ρ:=fun x=>a8 (ρ x)) (η:=η) (F:=F) (w:=w) (fun x hm=>(hx x (by simp only[ho,Op.operands,Call.operands,hc,Array.toList_append,List.mem_append];exact .inr hm)).a8)
   cases hv:η f0 with
   | func f' v1 v2 =>
    rw[hv]at h1
    obtain⟨rfl,r1,r2⟩:f'=.func g∧fO F w first v1∧fO F w cap v2:=by cases h1 with | fn _ _ _ _ _ dR eW h1 h2=>exact⟨rfl,⟨dR,h1⟩,⟨eW,h2⟩⟩
    refine⟨v1++c.args.map η++v2,zx (zx r1 h2) r2,fun he =>?_⟩
    simp only[execOp,ho,resolve,hc,Deferred.ofValue,hv,Sem.run_bind,Sem.run_pure,Result.andThen_ok,invoke]
    exact he _ _
   | _=>rw[hv]at h1;cases h1
  ·rename_i l hf
   refine .inl ⟨l,_,h,fun η F w hx =>?_⟩
   have h1:=hx f0 (by simp[ho,Op.operands,Call.operands,hc])
   rw[hf]at h1
   have h2:=Cv (xs:=c.args) (ρ:=fun x=>a8 (ρ x)) (η:=η) (F:=F) (w:=w) (fun x hm=>(hx x (by simp only[ho,Op.operands,Call.operands,hc,Array.toList_append,List.mem_append];exact .inr hm)).a8)
   cases hv:η f0 with
   | func f' v1 v2 =>
    rw[hv]at h1
    obtain⟨rfl,r1,r2⟩:f'=.yield l∧v1 = #[]∧v2 = #[]:=by cases h1 with | fn _ _ _ _ _ dR eW h1 h2=>exact⟨rfl,Array.size_eq_zero_iff.1 dR.symm,Array.size_eq_zero_iff.1 eW.symm⟩
    subst r1 r2
    refine⟨c.args.map η,h2,?_⟩
    simp only[execOp,ho,resolve,hc,Deferred.ofValue,hv,pure_bind,invoke]
    simp
   | _=>rw[hv]at h1;cases h1
  ·exact h.elim
 ·rename_i r m hc
  have fin:∀(t:TypeId) (v:AV),ρ r=.iface t v→(∀F w u,aA F w v u→∃ad,u=.pointer (some ad))→InvAt P t m (fun g=>K g (v::c.args.toList.map fun x=>a8 (ρ x)))→
    ∃f xs,K f xs∧∀(η:Operand→Value) (F:Nat→Prop) (w:World),(∀x∈o.op.operands.toList,aA F w (ρ x) (η x))→∃vs,fO F w xs vs∧(Enters P f→(execOp η o).run P w=.ok (.enter f vs) w):=by
   rintro t v hr hp ⟨g,hm,go⟩
   refine⟨g,_,go,fun η F w hx =>?_⟩
   have h1:=hx r (by simp[ho,Op.operands,Call.operands,hc])
   rw[hr]at h1
   have h2:=Cv (xs:=c.args) (ρ:=fun x=>a8 (ρ x)) (η:=η) (F:=F) (w:=w) (fun x hm=>(hx x (by simp only[ho,Op.operands,Call.operands,hc,Array.toList_append,List.mem_append];exact .inr hm)).a8)
   cases hv:η r with
   | iface t' u =>
    rw[hv]at h1
    obtain⟨rfl,hu⟩:t'=t∧aA F w v u:=by cases h1 with | iface _ _ _ h=>exact⟨rfl,h⟩
    obtain⟨ad,rfl⟩:=hp F w u hu
    refine⟨#[.pointer (some ad)]++c.args.map η,(show fO F w ([v]++c.args.toList.map fun x=>a8 (ρ x)) _ from zx (HX hu) h2),fun he =>?_⟩
    have hex:(#[η r]++c.args.map η).extract 1 (#[η r]++c.args.map η).size=c.args.map η:=by
     apply Array.ext'
     simp
     exact List.take_of_length_le (by simp)
    have h0:(#[η r]++c.args.map η)[0]?=some (η r):=by rw[Array.getElem?_append_left (by simp)];rfl
    have hinv:invoke (.fn (.method m) #[]) (#[η r]++c.args.map η)=callMethod (η r) m (c.args.map η):=by
     unfold invoke
     simp only[h0]
     exact congrArg (callMethod (η r) m) hex
    have ra:(callMethod (η r) m (c.args.map η)).run P w=.ok (.enter g (#[.pointer (some ad)]++c.args.map η)) w:=by
     rw[hv]
     unfold callMethod
     have aQ:=hm ad w
     simp only[Sem.run_bind,run_program,Result.andThen_ok,aQ]
     exact he _ _
    simp only[execOp,ho,resolve,hc,Sem.run_bind,Sem.run_pure,Result.andThen_ok,hinv,ra]
   | _=>rw[hv]at h1;cases h1
  split at h
  ·rename_i t b o' hr
   exact .inr <| fin t _ hr (fun F w u hu=>⟨_,hu.tz⟩) h
  ·rename_i t cs hr
   exact .inr <| fin t _ hr (fun F w u hu=>by obtain⟨b,o',e,_⟩:=hu.tb;exact⟨_,e⟩) h
  ·exact h.elim
 ·exact h.elim
theorem wW{F F':Nat→Prop}{w:World}{σ:Hp}(aD:aV F' w σ){b off len es:Nat}{e:Sh}{l:List e.T}(hh:∀v,aA F w (.ae b off len es) v→aA F' w (.af e l) v){i k b':Nat}{cs:List AV}(hi:σ[i]?=some (b',cs))(hk:cs[k]?=some (.ae b off len es)):aV F' w (σ.set i (b',cs.set k (.af e l))):=by
 have ab:i<σ.length:=(List.getElem?_eq_some_iff.1 hi).1
 have xz:(σ.set i (b',cs.set k (.af e l))).map Prod.fst=σ.map Prod.fst:=by
  rw[List.map_set]
  apply List.ext_getElem?
  intro n
  rw[List.getElem?_set]
  split
  ·rename_i e;subst e
   have:=(List.getElem?_eq_some_iff.1 hi).2
   simp[ab,this]
  ·rfl
 refine⟨xz▸aD.nodup,fun p hm =>?_,aD.low⟩
 rcases List.mem_or_eq_of_mem_set hm with hm | rfl
 ·exact aD.holds p hm
 ·obtain⟨hF,c,T,h1,h2,h3⟩:=(aD.holds _ (List.mem_of_getElem? hi)).EA hk rfl
  refine⟨hF,.inl ⟨c,T,h1,by simpa using h2,fun n x hn =>?_⟩⟩
  rw[List.getElem?_set]at hn
  split at hn
  ·rename_i e;subst e
   split at hn
   ·cases hn
    refine⟨rfl,hh _ ?_⟩
    have:=(h3 k _ hk).2
    revert this
    generalize c.getD k undef=v
    intro this
    cases this with
    | ae _ _ _ _ a cap h=>exact .ae _ _ _ _ a cap h
   ·cases hn
  ·exact h3 n x hn
theorem sW{f:FuncId}{xs:List AV}{σ:Hp}{K:AV→Hp→Prop}(h:CallAt P f K xs σ):ACalls P f xs σ K:=by
 induction h with
 | mk js R call go =>
  obtain⟨kT,eQ⟩:=call
  refine⟨kT,fun F w vs bD aD=>(eQ F w vs bD (aD.perm (sT js _))).mono ?_⟩
  rintro e w' ⟨r,v,σ',F',rfl,h1,h2,h3,h4⟩
  exact⟨r,v,σ',F',rfl,h1,h2,h3,go r σ' h4⟩
 | perm R hp call go =>
  obtain⟨kT,eQ⟩:=call
  refine⟨kT,fun F w vs bD aD=>(eQ F w vs bD (aD.perm hp)).mono ?_⟩
  rintro e w' ⟨r,v,σ',F',rfl,h1,h2,h3,h4⟩
  obtain⟨cR,k1,k2⟩:=go r σ' h4
  exact⟨r,v,cR,F',rfl,h1,h2.perm k1,h3,k2⟩
 | hY j b off len es cs e l h1 h2 h3 i k b' cs' hi hk h ih =>
  obtain⟨kT,eQ⟩:=ih
  refine⟨kT,fun F w vs bD aD =>?_⟩
  obtain⟨ar,kR,hh⟩:=ql aD h1 h2 h3
  refine (eQ _ w vs (bD.mono ar) (wW kR hh hi hk)).mono ?_
  rintro e w' ⟨r,v,σ',F',rfl,q1,q2,q3,q4⟩
  exact⟨r,v,σ',F',rfl,ar.trans q1,q2,q3,q4⟩
 | bO j b off len es cs e l h1 h2 h3 h4 h ih =>
  obtain⟨kT,eQ⟩:=ih
  refine⟨kT,fun F w vs bD aD =>?_⟩
  obtain⟨ar,kR,hh⟩:=ql aD h1 h2 h3
  have hv:=sP ar hh h4 (.tuple vs) (.tup _ _ bD.1 bD.2)
  cases hv with
  | tup _ _ hs hr =>
   refine (eQ _ w vs ⟨hs,hr⟩ kR).mono ?_
   rintro e w' ⟨r,v,σ',F',rfl,h1,h2,h3,h4⟩
   exact⟨r,v,σ',F',rfl,ar.trans h1,h2,h3,h4⟩
theorem Ns{o:Oper}{c:Call}(ho:o.op=.call c){ρ:Operand→AV}{σ:Hp}{K:AV→Hp→Prop}(h:l5 P c ρ (fun f xs=>CallAt P f K xs σ) (fun l xs=>rV P l K xs σ)):gK P o ρ σ K:=by
 rcases GX ho h with ⟨l,xs,hc,dV⟩ | ⟨f,xs,hc,dV⟩
 ·intro a F w hx aD next Q hn
  obtain⟨vs,bD,hr⟩:=dV a.eval F w hx
  unfold wq
  rw[hr]
  cases hc with
  | mk js R call go =>
   obtain⟨f,tmps,assign,body,h1,h2⟩:=call F w vs bD (aD.perm (sT js σ))
   rw[h1]
   refine RoundIn.mono h2 ?_
   rintro e w' ⟨r,v,σ',F',rfl,h1,h2,h3,h4⟩
   exact⟨v,rfl,hn v r σ' F' w' h1 h2 h3 (go _ _ h4)⟩
  | perm R hp call go =>
   obtain⟨f,tmps,assign,body,h1,h2⟩:=call F w vs bD (aD.perm hp)
   rw[h1]
   refine RoundIn.mono h2 ?_
   rintro e w' ⟨r,v,σ',F',rfl,h1,h2,h3,h4⟩
   obtain⟨cR,k1,k2⟩:=go _ _ h4
   exact⟨v,rfl,hn v r cR F' w' h1 (h2.perm k1) h3 k2⟩
 obtain⟨kT,eQ⟩:=sW hc
 intro a F w hx aD next Q hn
 obtain⟨vs,bD,hr⟩:=dV a.eval F w hx
 unfold wq
 rw[hr kT]
 refine (eQ F w vs bD aD).mono ?_
 rintro e w' ⟨r,v,σ',F',rfl,h1,h2,h3,h4⟩
 exact⟨v,rfl,hn v r σ' F' w' h1 h2 h3 h4⟩
theorem Nb{o:Oper}{t:TypeId}(ho:o.op=.makeMap t none){ρ:Operand→AV}{σ:Hp}{K:AV→Hp→Prop}(hk:∀b,K (.km b) ((b,[.kQ []])::σ)):gK P o ρ σ K:=by
 intro a F w hx aD next Q hn
 have dV:(execOp a.eval o).run P w=.ok (.value (.map (some w.heap.size))) (w.alloc (.map #[] 0)):=by
  have e:(Instr.makeMap t none).run P w=.ok (.map (some w.heap.size)) (w.alloc (.map #[] 0)):=rfl
  simp[execOp,ho,e,Result.andThen]
 unfold wq
 rw[dV]
 have hold:∀b,b<w.heap.size→(w.alloc (.map #[] 0)).heap[b]?=w.heap[b]?:=fun b hb=>Below.heap_alloc _ _ b hb
 have ar:a6 F w F (w.alloc (.map #[] 0)):=sQ aD.low rfl rfl rfl (by simp) hold
 have hr:=aD.same ar hold
 have ei:(w.alloc (.map #[] 0)).heap[w.heap.size]?=some (.map #[] 0):=rO _ _
 refine hn _ (.km w.heap.size) _ F _ ar ⟨?_,fun p hm =>?_,hr.low⟩ (.km _) (hk _)
 ·simp only[List.map_cons,List.nodup_cons]
  refine⟨fun hm =>?_,aD.nodup⟩
  obtain⟨p,hp,e⟩:=List.mem_map.1 hm
  have:=(aD.holds p hp).lt
  omega
 ·rcases List.mem_cons.1 hm with rfl | hm
  ·exact⟨fun hF=>Nat.lt_irrefl _ (aD.low _ hF),.inr (.inl ⟨_,_,rfl,ei,rfl⟩)⟩
  ·exact hr.holds p hm
theorem Hw{σ:Hp}{F:Nat→Prop}{w:World}(h:aV F w σ){j b:Nat}{x x':AV}{o o':Obj}(ho:sb x=some o)(ez:sb x'=some o')(hj:σ[j]?=some (b,[x])):
  a6 F w F { w with heap:=w.heap.setIfInBounds b o' }∧aV F { w with heap:=w.heap.setIfInBounds b o' } (σ.set j (b,[x'])):=by
 obtain⟨hb,hc⟩:=(h.holds (b,[x]) (List.mem_of_getElem? hj)).Bq ho
 have ab:j<σ.length:=(List.getElem?_eq_some_iff.1 hj).1
 obtain⟨BT,hw⟩:=MapKept.heap_set (o':=o') hc
 have ar:a6 F w F { w with heap:=w.heap.setIfInBounds b o' }:=⟨rfl,rfl,rfl,by simp,fun _ h=>h,fun k hF=>hw k (fun e=>hb (e▸hF)),fun k d S fz hk=>by
  by_cases e:k=b
  ·subst e
   rw[hc]at hk
   cases hk
   exact (HA ho).elim
  ·exact⟨d,fz,(hw k e).trans hk,rfl⟩,Nat.le_refl _⟩
 have xz:(σ.set j (b,[x'])).map Prod.fst=σ.map Prod.fst:=by
  rw[List.map_set]
  apply List.ext_getElem?
  intro k
  rw[List.getElem?_set]
  split
  ·rename_i e;subst e
   simp[ab]
   have:=(List.getElem?_eq_some_iff.1 hj).2
   rw[this]
  ·rfl
 refine⟨ar,⟨xz▸h.nodup,fun p hm =>?_,fun k hF=>by simpa using h.low k hF⟩⟩
 obtain⟨k,hk⟩:=List.mem_iff_getElem?.1 hm
 rw[List.getElem?_set]at hk
 split at hk
 ·rename_i e;subst e
  simp at hk
  obtain⟨_,rfl⟩:=hk
  exact⟨hb,.inr (.inl ⟨_,_,rfl,BT,ez⟩)⟩
 ·rename_i aS
  have aQ:=List.mem_of_getElem? hk
  have mI:p.1≠b:=fun e=>by
   have bC:=h.nodup
   have h1:(σ.map Prod.fst)[k]?=some b:=by rw[List.getElem?_map,hk];simp[e]
   have h2:(σ.map Prod.fst)[j]?=some b:=by rw[List.getElem?_map,hj];rfl
   have dN:k<(σ.map Prod.fst).length:=(List.getElem?_eq_some_iff.1 h1).1
   have:=(List.getElem?_inj (i:=k) (j:=j) dN bC).1 (h1.trans h2.symm)
   exact aS this.symm
  exact (h.holds p aQ).mono ar (hw _ mI) (h.holds p aQ).1
theorem Ou{σ:Hp}{F:Nat→Prop}{w:World}(h:aV F w σ){j b:Nat}{l l':List (Int×Int)}(hj:σ[j]?=some (b,[.kQ l])):
  a6 F w F { w with heap:=w.heap.setIfInBounds b (.map (eu 0 l').toArray l'.length) }∧aV F { w with heap:=w.heap.setIfInBounds b (.map (eu 0 l').toArray l'.length) } (σ.set j (b,[.kQ l'])):=Hw h rfl rfl hj
theorem GS(ok:ck P TT){o:Oper}{t:TypeId}{m k x:Operand}(ho:o.op=.mapUpdate t m k x∨o.op=.insert t m k x){ρ:Operand→AV}{σ:Hp}{K:AV→Hp→Prop}(h:uM TT t (a8 (ρ m)) (a8 (ρ k)) (a8 (ρ x)) σ K):gK P o ρ σ K:=by
 intro a F w hx aD next Q hn
 unfold uM at h
 split at h
 ·rename_i z n v hz hk vK
  obtain⟨kt,et,h1,h2,h3⟩:=CZ ok hz
  obtain⟨j,b,l,hm,hj,go⟩:=h
  have tD:m∈o.op.operands.toList∧k∈o.op.operands.toList∧x∈o.op.operands.toList:=by rcases ho with ho | ho <;> simp[ho,Op.operands]
  have a1:=(hx m tD.1).a8
  rw[hm]at a1
  have a2:=(hx k tD.2.1).a8
  rw[hk]at a2
  have a3:=(hx x tD.2.2).a8
  rw[vK]at a3
  have e1:a.eval m=.map (some b):=a1.Ew
  have e2:a.eval k=.int .i64 n:=a2.eL
  have e3:a.eval x=.int .i64 v:=a3.eL
  obtain⟨_,hb⟩:=(aD.holds _ (List.mem_of_getElem? hj)).xS
  have dV:(execOp a.eval o).run P w=.ok .skip { w with heap:=w.heap.setIfInBounds b (.map (eu 0 (nh l n v)).toArray (nh l n v).length) }:=by
   rcases ho with ho | ho <;> simp[execOp,ho,e1,e2,e3,NF h1 h2 hb n v,Result.andThen]
  unfold wq
  rw[dV]
  obtain⟨s1,s2⟩:=Ou aD (l':=nh l n v) hj
  exact hn undef .any _ F _ s1 s2 (.any _) go
 ·exact h.elim
theorem Da:∀(l:List (Int×Int)) (m:Nat) (e:MapEntry),e∈eu m l→∃(i:Nat) (p:Int×Int),l[i]?=some p∧e = { key:=.int .i64 p.1,val:=.int .i64 p.2,born:=m+i }
 | [],_,_,h=>by cases h
 | p::l,m,e,h=>by
  rcases List.mem_cons.1 h with rfl | h
  ·exact⟨0,p,rfl,rfl⟩
  ·obtain⟨i,q,h1,h2⟩:=Da l (m+1) e h
   exact⟨i+1,q,h1,by rw[h2];simp only[MapEntry.mk.injEq,true_and];omega⟩
theorem Jw{l:List (Int×Int)}{m i:Nat}{p:Int×Int}(h:l[i]?=some p):({ key:=.int .i64 p.1,val:=.int .i64 p.2,born:=m+i }:MapEntry)∈eu m l:=
 List.mem_of_getElem? (i:=i) (by rw[Dq,h];rfl)
theorem HN:∀(l:List (Int×Int)) (m:Nat),((eu m l).map (·.born)).Nodup∧∀x∈(eu m l).map (·.born),m≤x
 | [],_=>⟨List.nodup_nil,fun _ h=>by cases h⟩
 | p::l,m=>by
  obtain⟨h1,h2⟩:=HN l (m+1)
  refine⟨List.nodup_cons.2 ⟨fun hm =>?_,h1⟩,fun x hx =>?_⟩
  ·have:=h2 _ hm
   exact Nat.not_succ_le_self _ this
  ·rcases List.mem_cons.1 hx with rfl | hx
   ·exact Nat.le_refl _
   ·exact Nat.le_of_succ_le (h2 _ hx)
theorem M4(ok:ck P TT){o:Oper}{t:TypeId}{x:Operand}(ho:o.op=.range t x){ρ:Operand→AV}{σ:Hp}{K:AV→Hp→Prop}(h:AK TT t (a8 (ρ x)) σ K):gK P o ρ σ K:=by
 intro a F w hx aD next Q hn
 unfold AK at h
 split at h
 ·rename_i z hz
  obtain⟨kt,et,h1,h2,h3⟩:=CZ ok hz
  obtain⟨j,b,l,hm,hj,go⟩:=h
  have a1:=(hx x (by simp[ho,Op.operands])).a8
  rw[hm]at a1
  have e1:a.eval x=.map (some b):=a1.Ew
  obtain⟨_,hb⟩:=(aD.holds _ (List.mem_of_getElem? hj)).xS
  have dV:(execOp a.eval o).run P w=.ok (.value (.pointer (some ⟨w.heap.size,0,none⟩))) (w.alloc (.mapIter (some b) l.length #[] l.length)):=by
   have e:=run_range_map (P:=P) w t kt et b _ _ h1 hb
   simp[execOp,ho,e1,e,Result.andThen]
  unfold wq
  rw[dV]
  have hold:∀k,k<w.heap.size→(w.alloc (.mapIter (some b) l.length #[] l.length)).heap[k]?=w.heap[k]?:=fun k hk=>Below.heap_alloc _ _ k hk
  have ar:a6 F w F (w.alloc (.mapIter (some b) l.length #[] l.length)):=sQ aD.low rfl rfl rfl (by simp) hold
  have hr:=aD.same ar hold
  have ei:(w.alloc (.mapIter (some b) l.length #[] l.length)).heap[w.heap.size]?=some (.mapIter (some b) l.length #[] l.length):=rO _ _
  refine hn _ (.ky w.heap.size) _ F _ ar ⟨?_,fun p hm =>?_,hr.low⟩ (.ky _) (go _)
  ·simp only[List.map_cons,List.nodup_cons]
   refine⟨fun hm =>?_,aD.nodup⟩
   obtain⟨p,hp,e⟩:=List.mem_map.1 hm
   have:=(aD.holds p hp).lt
   omega
  ·rcases List.mem_cons.1 hm with rfl | hm
   ·exact⟨fun hF=>Nat.lt_irrefl _ (aD.low _ hF),.inr (.inl ⟨_,_,rfl,ei,rfl⟩)⟩
   ·exact hr.holds p hm
 ·exact h.elim
theorem Ov{σ:Hp}{F:Nat→Prop}{w:World}(h:aV F w σ):a6 F w F w.drew∧aV F w.drew σ:=by
 have ar:a6 F w F w.drew:=⟨rfl,rfl,rfl,Nat.le_refl _,fun _ h=>h,fun _ _=>rfl,fun k d S fz hk=>⟨d,fz,hk,rfl⟩,Nat.le_succ _⟩
 exact⟨ar,h.nodup,fun p hp=>(h.holds p hp).mono ar rfl (h.holds p hp).1,h.low⟩
theorem Na{o:Oper}{x:Operand}(ho:o.op=.next x false){ρ:Operand→AV}{σ:Hp}{K:AV→Hp→Prop}(h:El σ (a8 (ρ x)) K):gK P o ρ σ K:=by
 intro a F w hx aD next Q hn
 obtain⟨j,j2,r,b,l,seen,hm,h1,h2,stop,go⟩:=h
 have a1:=(hx x (by simp[ho,Op.operands])).a8
 rw[hm]at a1
 have e1:a.eval x=.pointer (some ⟨r,0,none⟩):=a1.Mg
 obtain⟨_,hr⟩:=(aD.holds _ (List.mem_of_getElem? h1)).Bq rfl
 obtain⟨_,hb⟩:=(aD.holds _ (List.mem_of_getElem? h2)).xS
 have Wi:∀x∈(eu 0 l).toArray.toList,x.born<l.length:=fun x hx=>by
  obtain⟨i,p,hi,rfl⟩:=Da l 0 x hx
  show 0+i<_
  have:=(List.getElem?_eq_some_iff.1 hi).1
  omega
 unfold wq
 rcases run_next_at (P:=P) w o.type r b l.length l.length seen.toArray _ _ hr hb Wi (Nat.le_refl _) with ⟨hz,dV⟩ | ⟨e,he,w1,hw1,dV⟩
 ·have xw:(execOp a.eval o).run P w=.ok (.value (.tuple #[.bool false])) w:=by simp[execOp,ho,e1,dV,Result.andThen]
  rw[xw]
  refine hn _ (.tup [.bool false]) σ F w (a6.refl _ _) aD (.tup _ _ rfl fun i y hy =>?_) (stop fun i hi =>?_)
  ·match i,hy with
   | 0,hy=>cases hy;exact .bool _
   | i+1,hy=>simp at hy
  ·have hz:leftOf (eu 0 l).toArray seen.toArray = #[]:=Array.eq_empty_of_size_eq_zero hz
   unfold leftOf at hz
   rw[Array.filter_eq_empty_iff]at hz
   have:=hz _ (by simpa using Jw (m:=0) (List.getElem?_eq_getElem hi))
   simpa using this
 ·have xw:(execOp a.eval o).run P w=.ok (.value (.tuple #[.bool true,e.key,e.val])) (Go.ChangeMaps.setBlock w1 r (.mapIter (some b) l.length (seen.toArray.push e.born) l.length)):=by simp[execOp,ho,e1,dV,Result.andThen]
  rw[xw]
  unfold leftOf at he
  have yM:e∈eu 0 l∧e.born ∉ seen:=by simpa using he
  obtain⟨i,p,hi,rfl⟩:=Da l 0 e yM.1
  have hns:i ∉ seen:=by simpa using yM.2
  have hw:a6 F w F w1∧aV F w1 σ:=by
   rcases hw1 with rfl | rfl
   ·exact⟨a6.refl _ _,aD⟩
   ·exact Ov aD
  obtain⟨s1,s2⟩:=Hw (x':=.oa b l.length (seen++[i])) hw.2 rfl rfl h1
  have e2:(seen++[i]).toArray=seen.toArray.push (0+i):=by simp
  rw[e2]at s1 s2
  refine hn _ (.tup [.bool true,.int .i64 p.1,.int .i64 p.2]) _ F _ (hw.1.trans s1) s2 (.tup _ _ rfl fun k y hy =>?_) (go i p hi hns)
  match k,hy with
  | 0,hy=>cases hy;exact .bool _
  | 1,hy=>cases hy;exact .int _ _
  | 2,hy=>cases hy;exact .int _ _
  | k+3,hy=>simp at hy
theorem M6{o:Oper}{x:Operand}(ho:o.op=.entry x){ρ:Operand→AV}{σ:Hp}{K:AV→Hp→Prop}(h:DZ σ (a8 (ρ x)) K):gK P o ρ σ K:=by
 intro a F w hx aD next Q hn
 obtain⟨j,j2,r,b,i,l,p,seen,hm,h1,h2,h3,go⟩:=h
 have a1:=(hx x (by simp[ho,Op.operands])).a8
 rw[hm]at a1
 have e1:a.eval x=.pointer (some ⟨r,0,none⟩):=a1.Mg
 obtain⟨_,hr⟩:=(aD.holds _ (List.mem_of_getElem? h1)).Bq rfl
 obtain⟨_,hb⟩:=(aD.holds _ (List.mem_of_getElem? h2)).xS
 have hr:w.heap[r]?=some (.mapIter (some b) l.length (seen.toArray.push (0+i)) l.length):=by
  rw[hr];simp
 have dV:=run_entry_at (P:=P) w r b l.length seen.toArray (eu 0 l).toArray l.length { key:=.int .i64 p.1,val:=.int .i64 p.2,born:=0+i } hr hb (by simpa using Jw (m:=0) h3) (by simpa using (HN l 0).1)
 have xw:(execOp a.eval o).run P w=.ok (.value (.tuple #[.int .i64 p.1,.int .i64 p.2])) w:=by simp[execOp,ho,e1,dV,Result.andThen]
 unfold wq
 rw[xw]
 refine hn _ (.tup [.int .i64 p.1,.int .i64 p.2]) σ F w (a6.refl _ _) aD (.tup _ _ rfl fun k y hy =>?_) go
 match k,hy with
 | 0,hy=>cases hy;exact .int _ _
 | 1,hy=>cases hy;exact .int _ _
 | k+2,hy=>simp at hy
theorem CT(ok:ck P TT){o:Oper}{ρ:Operand→AV}{σ:Hp}{K:AV→Hp→Prop}(h:eT P TT o.op ρ σ K):gK P o ρ σ K:=by
 have dd:dW P TT o.op ρ σ (fun v=>K v σ)→gK P o ρ σ K:=fun h=>by
  obtain⟨v,h1,h2⟩:=zS ok h
  exact Nc h2 h1
 generalize je:o.op=op at h dd
 unfold eT at h
 split at h
 ·split at h
  ·rename_i cs hc;exact Qs je hc h
  ·exact h.elim
 ·split at h
  ·rename_i i hi;exact Oa ok je hi h
  ·exact h.elim
 ·split at h
  ·rename_i e sz mM z0 ht
   split at h
   ·rename_i i hi
    split at h
    ·rename_i cs hf dR eW
     exact MX ok je ht rfl hi hf (Nat.le_of_ble_eq_true dR) (Nat.le_of_ble_eq_true eW) h
    ·exact h.elim
   ·exact h.elim
  ·exact h.elim
 ·split at h
  ·rename_i e sz mM z0 k n k' m ht hl hc
   split at h
   ·rename_i i hi
    exact MZ ok je ht rfl hi hl hc h.fact h.go
   ·exact h.elim
  ·exact h.elim
 ·split at h
  ·rename_i i hi
   split at h
   ·rename_i b off hp;exact Ny ok je hi hp h
   ·exact h.elim
  ·exact h.elim
 ·split at h
  ·exact Nb je h
  ·exact h.elim
 ·exact GS ok (.inl je) h
 ·exact GS ok (.inr je) h
 ·exact M4 ok je h
 ·split at h
  ·exact Na je h
  ·exact h.elim
 ·exact M6 je h
 ·rename_i args bK
  split at h
  ·rename_i s x t t' EI Mi
   obtain rfl:args = #[s,x]:=by cases args;simp_all
   obtain rfl:bK = #[t,t']:=by cases bK;simp_all
   split at h
   ·rename_i e s1 b1 z1 e' s2 b2 z2 ht kz
    split at h
    ·rename_i i hi;exact zE (Nt ok je ht rfl kz rfl hi (ρ:=fun x=>a8 (ρ x)) h)
    ·exact h.elim
   ·rename_i e s1 b1 z1 k' s2 b2 z2 ht kz
    split at h
    ·rename_i i hi;exact zE (Ni ok je ht rfl kz rfl hi (ρ:=fun x=>a8 (ρ x)) h)
    ·exact h.elim
   ·exact h.elim
  ·exact h.elim
 ·rename_i args bK
  split at h
  ·rename_i s t EI Mi
   obtain rfl:args = #[s]:=by cases args;simp_all
   obtain rfl:bK = #[t]:=by cases bK;simp_all
   split at h
   ·rename_i e s1 b1 z1 ht
    split at h
    ·rename_i i hi;exact zE (N6 ok je ht rfl hi (ρ:=fun x=>a8 (ρ x)) h)
    ·exact h.elim
   ·exact h.elim
  ·exact h.elim
 ·rename_i args bK
  split at h
  ·rename_i d x t t' EI Mi
   obtain rfl:args = #[d,x]:=by cases args;simp_all
   obtain rfl:bK = #[t,t']:=by cases bK;simp_all
   split at h
   ·rename_i e s1 b1 z1 e' s2 b2 z2 ht kz
    split at h
    ·rename_i i hi;exact zE (O3 ok je ht rfl kz rfl hi (ρ:=fun x=>a8 (ρ x)) h)
    ·exact h.elim
   ·exact h.elim
  ·exact h.elim
 ·exact dd h
 ·exact Ns je h
 ·exact dd h
def pF(F:Nat→Prop)(w:World)(t:Tm)(a:Act):Prop:=∀i,aA F w (t i) (a.tmps.getD i undef)
theorem pF.mono{F F':Nat→Prop}{w w':World}{t:Tm}{a:Act}(h:pF F w t a)(ar:a6 F w F' w'):pF F' w' t a:=fun i=>(h i).mono ar
theorem pF.put{F:Nat→Prop}{w:World}{t:Tm}{a:Act}(h:pF F w t a){d:Option Tmp}{x:AV}{v:Value}(hx:aA F w x v)(hd:∀i,d=some i→i<a.tmps.size):pF F w (put t d x) (a.put d v):=by
 cases d with
 | none=>exact h
 | some d =>
  intro i
  show aA F w (match Nat.beq i d with | true=>x | false=>t i) ((a.tmps.setIfInBounds d v).getD i undef)
  have di:=hd d rfl
  cases hb:Nat.beq i d with
  | true =>
   have:=Nat.eq_of_beq_eq_true hb
   subst this
   simpa [Array.getD,di]using hx
  | false =>
   have aS:d≠i:=fun e=>by subst e;rw[Nat.beq_refl]at hb;cases hb
   have:=h i
   rw[Array.getD_eq_getD_getElem?]at this ⊢
   rw[Array.getElem?_setIfInBounds_ne aS]
   exact this
theorem lq{F:Nat→Prop}{w:World}(v:Value):aA F w (uU v) v:=by
 cases v with
 | int k n=>exact .int _ _
 | bool b=>exact .bool _
 | string s=>exact .str _
 | pointer a=>cases a <;> first | exact .bu | exact .any _
 | slice a l c=>cases a <;> cases l <;> cases c <;> first | exact .aj | exact .any _
 | nilIface=>exact .nilif
 | nilFunc=>exact .ay
 | map a=>cases a <;> first | exact .lM | exact .any _
 | _=>exact .any _
theorem JH{F:Nat→Prop}{w:World}{t:Tm}{a:Act}(x:Operand)(h:∀i,x=.tmp i→aA F w (t i) (a.tmps.getD i undef)):aA F w (ev t x) (a.eval x):=by
 cases x with
 | tmp i=>exact h i rfl
 | const v =>
  show aA F w (LG v) v
  cases v with
  | agg cs =>
   show aA F w (match (cs.toList.map uU).all AV.leaf with | true=>.agg (cs.toList.map uU) | false=>.any) _
   split
   ·rename_i hl
    refine .agg _ _ (by simp) (fun i x hx =>?_) (fun i x hx =>?_)
    ·exact List.all_eq_true.1 hl x (List.mem_of_getElem? hx)
    ·simp only[List.getElem?_map,Option.map_eq_some_iff]at hx
     obtain⟨v,hv,rfl⟩:=hx
     have ab:i<cs.size:=by have:=(List.getElem?_eq_some_iff.1 hv).1;simpa using this
     have:cs[i]=v:=by simpa [ab]using hv
     simpa [Array.getD,ab,this]using lq v
   ·exact .any _
  | tuple vs =>
   show aA F w (match vs.toList with | []=>.tup [] | _=>.any) _
   split
   ·rename_i h0
    exact .tup _ _ (by simp at h0;simp[h0]) (fun i x h=>by simp at h)
   ·exact .any _
  | int k n=>exact lq (.int k n)
  | bool b=>exact lq (.bool b)
  | string x=>exact lq (.string x)
  | float k b=>exact lq (.float k b)
  | complex k b c=>exact lq (.complex k b c)
  | pointer x=>exact lq (.pointer x)
  | slice x l c=>exact lq (.slice x l c)
  | map x=>exact lq (.map x)
  | chan x=>exact lq (.chan x)
  | func f x y=>exact lq (.func f x y)
  | nilFunc=>exact lq .nilFunc
  | iface t x=>exact lq (.iface t x)
  | nilIface=>exact lq .nilIface
 | global g=>exact .any _
 | func f=>exact .fn _ _ _ _ _ rfl rfl (fun i x h=>by simp at h) (fun i x h=>by simp at h)
theorem pF.eval{F:Nat→Prop}{w:World}{t:Tm}{a:Act}(h:pF F w t a)(x:Operand):aA F w (ev t x) (a.eval x):=JH x fun i _=>h i
end
section
variable {P:Program} {TT:TypeId→Option TI}
structure Marks(B:Nat)(F:Nat→Prop)(w:World)(ds:List Deferred):Prop where
 low:B≤w.heap.size
 nodup:ds.Nodup
 is:∀d∈ds,∃D,d = { target:=.collected D,args:= #[] }∧B≤D∧F D∧w.heap[D]?=some (.deferred (some []))
theorem Marks.mono{B:Nat}{F F':Nat→Prop}{w w':World}{ds:List Deferred}(h:Marks B F w ds)(ar:a6 F w F' w'):Marks B F' w' ds:=
 ⟨Nat.le_trans h.low ar.size,h.nodup,fun d hd=>by
  obtain⟨D,h1,h2,h3,h4⟩:=h.is d hd
  exact⟨D,h1,h2,ar.sub D h3,(ar.fix D h3).trans h4⟩⟩
structure ca(B n:Nat)(F:Nat→Prop)(w:World)(t:Tm)(σ:Hp)(a:Act):Prop where
 tm:pF F w t a
 hp:aV F w σ
 size:n≤a.tmps.size
 defers:Marks B F w a.defers
theorem Jb(a:Act)(d:Option Tmp)(v:Value):(a.put d v).tmps.size=a.tmps.size:=by cases d <;> simp[Act.put]
theorem J8(a:Act)(d:Option Tmp)(v:Value):(a.put d v).defers=a.defers:=by cases d <;> rfl
theorem ca.put{B n:Nat}{F F':Nat→Prop}{w w':World}{t:Tm}{σ σ':Hp}{a:Act}(h:ca B n F w t σ a)(ar:a6 F w F' w')(hp:aV F' w' σ'){d:Option Tmp}{x:AV}{v:Value}(hx:aA F' w' x v)(hd:∀i,d=some i→i<n):ca B n F' w' (put t d x) σ' (a.put d v):=
 ⟨(h.tm.mono ar).put hx (fun i e=>Nat.lt_of_lt_of_le (hd i e) h.size),hp,by rw[Jb];exact h.size,by rw[J8];exact h.defers.mono ar⟩
theorem Jr{F:Nat→Prop}{w:World}{σ:Hp}(h:aV F w σ){i b':Nat}{cs iq:List AV}(hi:σ[i]?=some (b',cs))(hl:iq.length=cs.length)(hk:∀(k:Nat) (x y:AV),cs[k]?=some x→iq[k]?=some y→x=y∨(x=.aj∧∃e:Sh,y=.af e [])):aV F w (σ.set i (b',iq)):=by
 refine⟨?_,fun p hp =>?_,h.low⟩
 ·have e1:(σ.set i (b',iq)).map Prod.fst=σ.map Prod.fst:=by
   rw[List.map_set]
   refine List.ext_getElem (by simp) fun j h1 h2 =>?_
   rw[List.getElem_set]
   split
   ·rename_i hj;subst hj
    have:=List.getElem?_eq_some_iff.1 hi
    obtain⟨q1,q2⟩:=this
    rw[List.getElem_map,q2]
   ·rfl
  rw[e1];exact h.nodup
 ·rcases List.mem_or_eq_of_mem_set hp with hp | rfl
  ·exact h.holds p hp
  ·have hh:=h.holds _ (List.mem_of_getElem? hi)
   by_cases hn:∃k:Nat,cs[k]?=some AV.aj
   ·obtain⟨k,eM⟩:=hn
    obtain⟨h1,c,T,h2,h3,h4⟩:=hh.EA eM rfl
    refine⟨h1,.inl ⟨c,T,h2,by rw[hl];exact h3,fun j y hy =>?_⟩⟩
    have hj:j<cs.length:=by rw[← hl];exact (List.getElem?_eq_some_iff.1 hy).1
    have hx:=List.getElem?_eq_getElem hj
    obtain⟨q1,q2⟩:=h4 j _ hx
    rcases hk j _ _ hx hy with e | ⟨e,e',rfl⟩
    ·rw[← e];exact⟨q1,q2⟩
    ·rw[e]at q2
     refine⟨rfl,?_⟩
     revert q2;generalize c.getD j undef=u;intro q2;cases q2
     exact .af e' [] _ ⟨none,0,rfl,Nat.le_refl _,Nat.zero_le _,(fun _=>rfl),fun aS=>absurd rfl aS⟩
   ·have e:iq=cs:=by
     refine List.ext_getElem hl fun j h1 h2 =>?_
     rcases hk j _ _ (List.getElem?_eq_getElem h2) (List.getElem?_eq_getElem h1) with e | ⟨e,_⟩
     ·exact e.symm
     ·exact absurd ⟨j,(List.getElem?_eq_getElem h2).trans (congrArg some e)⟩ hn
    rw[e];exact hh
theorem Kg{F:Nat→Prop}{w:World}{σ:Hp}(h:aV F w σ){i b' k:Nat}{cs':List AV}(e:Sh)(hi:σ[i]?=some (b',cs'))(hk:cs'[k]?=some .aj):aV F w (σ.set i (b',cs'.set k (.af e []))):=
 Jr h hi (by simp) fun j x y hx hy=>by
  rw[List.getElem?_set]at hy
  split at hy
  ·rename_i hj;subst hj
   split at hy
   ·rw[hk]at hx;cases hx;cases hy;exact .inr ⟨rfl,e,rfl⟩
   ·cases hy
  ·rw[hx]at hy;cases hy;exact .inl rfl
theorem aV.cz{F:Nat→Prop}{w:World}{σ σ':Hp}(h:aV F w σ)(hs:fT σ σ'):aV F w σ':=by
 induction hs with
 | refl=>exact h
 | pull js _ ih=>exact ih (h.perm (sT js _))
 | perm hp _ ih=>exact ih (h.perm hp)
 | WW i b' cs iq hi hl hk _ ih=>exact ih (Jr h hi hl hk)
 | @drop k n σ σ2 _ ih =>
  refine ih (h.sub ?_)
  have h1:(σ.drop (k+n)).Sublist (σ.drop k):=by
   rw[← List.drop_drop]
   exact List.drop_sublist _ _
  have h2:=(List.Sublist.refl (σ.take k)).append h1
  rwa [List.take_append_drop]at h2
theorem ca.cz{B n:Nat}{F:Nat→Prop}{w:World}{t:Tm}{σ σ':Hp}{a:Act}(h:ca B n F w t σ a)(hs:fT σ σ'):ca B n F w t σ' a:=⟨h.tm,h.hp.cz hs,h.size,h.defers⟩
def qg(ops:List Oper)(o:Oper)(t:Tm)(b:Bool):Prop:=
 (o.guard=none∧b=true)∨∃j want d x,o.guard=some (j,want)∧(ops[j]?).bind (·.dst)=some d∧((t d=.bool x∧b=(x == want))∨(t d=.tup []∧b=false))
theorem sV{ops:List Oper}{o:Oper}{t:Tm}{A B:Prop}(h:lB ops o t A B):(qg ops o t true∧A)∨(qg ops o t false∧B):=by
 unfold lB at h
 split at h
 ·rename_i hg
  exact .inl ⟨.inl ⟨hg,rfl⟩,h⟩
 ·rename_i j want hg
  split at h
  ·rename_i d hd
   split at h
   ·rename_i b hb
    cases want <;> cases b
    ·exact .inl ⟨.inr ⟨j,_,d,_,hg,hd,.inl ⟨hb,rfl⟩⟩,h⟩
    ·exact .inr ⟨.inr ⟨j,_,d,_,hg,hd,.inl ⟨hb,rfl⟩⟩,h⟩
    ·exact .inr ⟨.inr ⟨j,_,d,_,hg,hd,.inl ⟨hb,rfl⟩⟩,h⟩
    ·exact .inl ⟨.inr ⟨j,_,d,_,hg,hd,.inl ⟨hb,rfl⟩⟩,h⟩
   ·rename_i hb
    exact .inr ⟨.inr ⟨j,_,d,false,hg,hd,.inr ⟨hb,rfl⟩⟩,h⟩
   ·exact h.elim
  ·exact h.elim
theorem sS{F:Nat→Prop}{w:World}:aA F w (.tup []) undef:=.tup _ _ rfl (fun i x h=>by simp at h)
theorem Pk{F:Nat→Prop}{w:World}{u:Value}(h:aA F w (.tup []) u):u=.tuple #[]:=by
 cases h with
 | tup _ vs hs h=>rw[Array.size_eq_zero_iff.1 hs.symm]
theorem zQ{ops:List Oper}{o:Oper}{t:Tm}{a:Act}{b:Bool}(h:qg ops o t b)(hr:∀d,(∃j want,o.guard=some (j,want)∧(ops[j]?).bind (·.dst)=some d)→∃F w,aA F w (t d) (a.tmps.getD d undef)):Region.wanted o (yielded ops.toArray a.tmps)=b:=by
 rcases h with ⟨hg,rfl⟩ | ⟨j,want,d,x,hg,h1,⟨h2,rfl⟩ | ⟨h2,rfl⟩⟩
 ·simp[Region.wanted,hg]
 ·obtain⟨F,w,h3⟩:=hr d ⟨j,want,hg,h1⟩
  rw[h2]at h3
  have h3:=h3.na
  have h4:a.tmps[d]?=some (.bool x):=by
   rw[Array.getD_eq_getD_getElem?]at h3
   cases hq:a.tmps[d]? with
   | none=>rw[hq]at h3;simp[undef]at h3
   | some v=>rw[hq]at h3;simpa using h3
  have h5:yielded ops.toArray a.tmps j=some x:=by
   unfold yielded
   simp only[List.getElem?_toArray,h1,Option.bind_some,h4]
  simp[Region.wanted,hg,h5]
 ·obtain⟨F,w,h3⟩:=hr d ⟨j,want,hg,h1⟩
  rw[h2]at h3
  have h3:=Pk h3
  have h5:yielded ops.toArray a.tmps j=none:=by
   unfold yielded
   simp only[List.getElem?_toArray,h1,Option.bind_some]
   rw[Array.getD_eq_getD_getElem?]at h3
   cases hq:a.tmps[d]? with
   | none=>rfl
   | some v=>rw[hq]at h3;simp at h3;rw[h3]
  simp[Region.wanted,hg,h5]
theorem CD(ok:ck P TT){B n:Nat}{ops:List Oper}{Q:Exit→Act→World→Prop}:∀(l:List Oper) (t:Tm) (σ:Hp) (K:Tm→Hp→Prop) (F:Nat→Prop) (w:World) (a:Act),(∀o∈l,∀d,o.dst=some d→d<n)→Md P TT ops l t σ K→ca B n F w t σ a→
  (∀t' σ' F' w' a',a6 F w F' w'→ca B n F' w' t' σ' a'→K t' σ'→Q .normal a' w')→rW P ops.toArray Q l a w
 | [],t,σ,K,F,w,a,_,h,hs,hq=>hq t σ F w a (.refl _ _) hs h
 | o::l,t,σ,K,F,w,a,hd,h,hs,hq=>by
  have hw:∀{b:Bool},qg ops o t b→Region.wanted o (yielded ops.toArray a.tmps)=b:=fun hg=>zQ hg fun d _=>⟨F,w,hs.tm d⟩
  rcases sV h with ⟨hg,h⟩ | ⟨hg,h⟩
  ·unfold rW
   rw[if_pos (hw hg)]
   refine (CT ok h a F w (fun x _=>hs.tm.eval x) hs.hp _ Q ?_)
   intro v av σ' F' w' h1 h2 h3 h4
   exact CD ok l _ σ' K F' w' _ (fun o ho=>hd o (List.mem_cons_of_mem _ ho)) h4 (hs.put h1 h2 h3 (hd o (List.mem_cons_self ..))) (fun t' gX kB jH a' k1 k2 k3=>hq t' gX kB jH a' (h1.trans k1) k2 k3)
  ·unfold rW
   rw[if_neg (by rw[hw hg];simp)]
   exact CD ok l _ σ K F w _ (fun o ho=>hd o (List.mem_cons_of_mem _ ho)) h (hs.put (.refl _ _) hs.hp sS (hd o (List.mem_cons_self ..))) hq
def Em(P:Program)(o:Oper)(ρ:Operand→AV)(σ:Hp)(v:AV):Prop:=
 ∀(a:Act) (F:Nat→Prop) (w:World),(∀x∈o.op.operands.toList,aA F w (ρ x) (a.eval x))→aV F w σ→∀(next:Act→World→Prop) (Q:Exit→Act→World→Prop),
  (∀u F' w',a6 F w F' w'→aV F' w' σ→aA F' w' v u→next (a.put o.dst u) w')→wq P o a w next Q
theorem Ii(ok:ck P TT){o:Oper}{ρ:Operand→AV}{σ:Hp}{K:AV→Prop}(h:qQ P TT o.op ρ σ K):∃v,K v∧Em P o ρ σ v:=by
 have dd:dW P TT o.op ρ σ K→∃v,K v∧Em P o ρ σ v:=fun h=>by
  obtain⟨v,h1,h2⟩:=zS ok h
  refine⟨v,h1,fun a F w hx aD next Q hn =>?_⟩
  obtain⟨v',h3,h4⟩:=h2 a.eval F w o rfl hx aD
  unfold wq
  rw[h3]
  exact hn v' F w (.refl _ _) aD h4
 generalize je:o.op=op at h dd
 unfold qQ at h
 split at h
 ·exact dd h
 ·obtain⟨_,_,h,_⟩ | ⟨f,xs,hc,dV⟩:=GX je h
  ·exact h.elim
  cases hc with
  | mk js r call go =>
   obtain⟨kT,eQ⟩:=call
   refine⟨r,go,fun a F w hx aD next Q hn =>?_⟩
   obtain⟨vs,bD,hr⟩:=dV a.eval F w hx
   unfold wq
   rw[hr kT]
   refine (eQ F w vs bD (aD.perm (sT js σ))).mono ?_
   rintro e w' ⟨r',v,σ',F',rfl,h1,h2,h3,rfl,rfl⟩
   exact⟨v,rfl,hn v F' w' h1 (h2.perm (sT js σ).symm) h3⟩
  | perm hp r call go =>
   obtain⟨kT,eQ⟩:=call
   refine⟨r,go,fun a F w hx aD next Q hn =>?_⟩
   obtain⟨vs,bD,hr⟩:=dV a.eval F w hx
   unfold wq
   rw[hr kT]
   refine (eQ F w vs bD (aD.perm hp)).mono ?_
   rintro e w' ⟨r',v,σ',F',rfl,h1,h2,h3,rfl,oE⟩
   exact⟨v,rfl,hn v F' w' h1 (h2.perm (hp.symm.trans oE)) h3⟩
 ·exact dd h
end
end Go.Proofs.YtnpidbjdilnhlaaGreat
