import Derived.Deep.AppendSrc
import Derived.Deep.Upon
import Derived.Great.BuildSlice
import Derived.Maps.RangeRun
import Derived.Orders
import Derived.Test.YtnikdflhefijbaaGreatBn2
namespace Go.Proofs.YtnikdflhefijbaaGreat
open Go.RowKit
section
variable {P:Program} {TT:TypeId→Option TI} {F F':Nat→Prop} {w w':World}
theorem Holds.mono{b:Nat}{cs:List AV}(h:Holds F w b cs)(an:bH F w F' w')(hb:w'.heap[b]?=w.heap[b]?)(hF:¬F' b):Holds F' w' b cs:=by
 obtain⟨_,⟨c,T,h1,h2,h3⟩ | ⟨x,o,h1,h2,h3⟩ | ⟨L,t,h1,h2,h3⟩⟩:=h
 ·exact⟨hF,.inl ⟨c,T,hb.trans h1,h2,fun i x hx=>⟨(h3 i x hx).1,(h3 i x hx).2.mono an⟩⟩⟩
 ·exact⟨hF,.inr (.inl ⟨x,o,h1,hb.trans h2,h3⟩)⟩
 ·exact⟨hF,.inr (.inr ⟨L,t,h1,hb.trans h2,fun i=>(h3 i).mono an⟩)⟩
theorem Holds.lt{b:Nat}{cs:List AV}(h:Holds F w b cs):b<w.heap.size:=by
 obtain⟨_,⟨_,_,h1,_⟩ | ⟨_,_,_,h1,_⟩ | ⟨_,_,_,h1,_⟩⟩:=h
 ·exact tW h1
 ·exact tW h1
 ·exact tW h1
theorem bu.perm{σ σ':Hp}(h:bu F w σ)(hp:σ'.Perm σ):bu F w σ':=
 ⟨((hp.map Prod.fst).nodup_iff).2 h.nodup,fun p hm=>h.holds p (hp.mem_iff.1 hm),h.low⟩
theorem bu.sub{σ σ':Hp}(h:bu F w σ)(hs:σ'.Sublist σ):bu F w σ':=
 ⟨h.nodup.sublist (hs.map _),fun p hm=>h.holds p (hs.subset hm),h.low⟩
theorem yD:∀(σ:Hp) (i:Nat) (p:Nat×List AV),σ[i]?=some p→(p::σ.eraseIdx i).Perm σ
 | [],i,p,h=>by simp at h
 |q::σ,0,p,h=>by simp at h;subst h;exact List.Perm.refl _
 |q::σ,i+1,p,h=>(List.Perm.swap q p _).trans (.cons q (yD σ i p (by simpa using h)))
theorem Z7(i:Nat)(σ:Hp):(pull i σ).Perm σ:=by
 unfold pull
 split
 ·rename_i p h
  exact yD σ i p h
 ·exact List.Perm.refl _
theorem yN:∀(js:List Nat) (σ:Hp),(oF js σ).Perm σ
 | [],_=>List.Perm.refl _
 |i::r,σ=>(Z7 i _).trans (yN r σ)
theorem yH(fv:∀b,F b→b<w.heap.size)(ho:w'.os=w.os)(ht:w'.tape=w.tape)(hu:w'.output=w.output)(hs:w.heap.size≤w'.heap.size)(hb:∀b,b<w.heap.size→w'.heap[b]?=w.heap[b]?)(hd:w.drawn≤w'.drawn:=by first | exact a8 _ | exact Nat.le_succ _ | exact Kp _ _):bH F w F w':=
 ⟨ho,ht,hu,hs,fun _ h=>h,fun b h=>hb b (fv b h),fun b c _ fz h=>⟨c,fz,(hb b (tW h)).trans h,rfl⟩,hd⟩
theorem bu.same{σ:Hp}(h:bu F w σ)(an:bH F w F w')(hb:∀b,b<w.heap.size→w'.heap[b]?=w.heap[b]?):bu F w' σ:=
 ⟨h.nodup,fun p hm=>(h.holds p hm).mono an (hb _ (h.holds p hm).lt) (h.holds p hm).1,fun b hF=>sl (h.low b hF) an.size⟩
theorem Qv{σ:Hp}(h:bu F w σ){c:Array Value}{T:TypeId}{cs:List AV}(hl:cs.length≤c.size)(hc:∀(i:Nat) (x:AV),cs[i]?=some x→x.leaf=true∧aA F w x (c.getD i undef)){w0:World}(e0:w0=w∨w0=w.drew):
  bH F w F (w0.alloc (.cells c T))∧bu F (w0.alloc (.cells c T)) ((w.heap.size,cs)::σ):=by
 have hold:∀b,b<w.heap.size→(w0.alloc (.cells c T)).heap[b]?=w.heap[b]?:=fun b hb=>by rcases e0 with rfl | rfl <;> exact Below.heap_alloc _ _ b (by simpa using hb)
 have an:bH F w F (w0.alloc (.cells c T)):=by
  rcases e0 with rfl | rfl
  ·exact yH h.low rfl rfl rfl (by simp) hold
  ·exact yH h.low rfl rfl rfl (by simp) hold
 have hr:=h.same an hold
 have iz:(w0.alloc (.cells c T)).heap[w.heap.size]?=some (.cells c T (0,0)):=by rcases e0 with rfl | rfl <;> exact xp _ _
 refine⟨an,⟨?_,fun p hm=>?_,hr.low⟩⟩
 ·simp only[pq,mE]
  refine⟨fun hm=>?_,h.nodup⟩
  obtain⟨p,hp,e⟩:=dT.1 hm
  have:=(h.holds p hp).lt
  omega
 ·rcases eB.1 hm with rfl | hm
  ·exact⟨fun hF=>Kc _ (h.low _ hF),.inl ⟨c,T,iz,hl,fun i x hx=>⟨(hc i x hx).1,(hc i x hx).2.mono an⟩⟩⟩
  ·exact hr.holds p hm
theorem AL{σ:Hp}(h:bu F w σ){j b:Nat}{cs cs':List AV}(hj:σ[j]?=some (b,cs)){c c':Array Value}{T:TypeId}(hc:w.heap[b]?=some (.cells c T (0,0)))(eF:c'.size=c.size)(hl:cs'.length≤c'.size)
  (hr:∀(i:Nat) (x:AV),cs'[i]?=some x→x.leaf=true∧aA F w x (c'.getD i undef)) (hw:∀k,k≠b→w'.heap[k]?=w.heap[k]?) (JJ:w'.heap[b]?=some (.cells c' T (0,0))) (ho:w'.os=w.os) (ht:w'.tape=w.tape) (hu:w'.output=w.output) (hs:w'.heap.size=w.heap.size) (hd:w.drawn≤w'.drawn:=by first | exact a8 _ | exact Nat.le_succ _ | exact Kp _ _) :
  bH F w F w'∧bu F w' (σ.set j (b,cs')):=by
 have hb:=(h.holds (b,cs) (cx hj)).1
 have ab:j<σ.length:=(ck.1 hj).1
 have an:bH F w F w':=⟨ho,ht,hu,by omega,fun _ h=>h,fun k hF=>hw k (fun e=>hb (e▸hF)),fun k d S fz hk=>by
  by_cases e:k=b
  ·subst e
   rw[hc]at hk
   cases hk
   exact⟨c',(0,0),JJ,eF⟩
  ·exact⟨d,fz,(hw k e).trans hk,rfl⟩,hd⟩
 have Eg:(σ.set j (b,cs')).map Prod.fst=σ.map Prod.fst:=by
  rw[oc]
  apply Am
  intro k
  rw[fj]
  split
  ·rename_i e;subst e
   simp[ab]
   have:=(ck.1 hj).2
   rw[this]
  ·rfl
 refine⟨an,⟨Eg▸h.nodup,fun p hm=>?_,fun k hF=>by rw[hs];exact h.low k hF⟩⟩
 obtain⟨k,hk⟩:=re.1 hm
 rw[fj]at hk
 split at hk
 ·rename_i e;subst e
  simp at hk
  obtain⟨_,rfl⟩:=hk
  exact⟨hb,.inl ⟨c',T,JJ,hl,fun i x hx=>⟨(hr i x hx).1,(hr i x hx).2.mono an⟩⟩⟩
 ·rename_i aX
  have aV:=cx hk
  have qX:p.1≠b:=by
   intro e
   have cf:=h.nodup
   have h1:(σ.map Prod.fst)[k]?=some b:=by rw[List.getElem?_map,hk];simp[e]
   have h2:(σ.map Prod.fst)[j]?=some b:=by rw[fm,hj];rfl
   have dQ:k<(σ.map Prod.fst).length:=(ck.1 h1).1
   have:=(List.getElem?_inj (i:=k) (j:=j) dQ cf).1 (h1.trans h2.symm)
   exact aX this.symm
  exact (h.holds p aV).mono an (hw _ qX) (h.holds p aV).1
theorem SV(z:List AV):∀(n j:Nat),j<n*z.length→(cD z n)[j]?=z[j % z.length]?
 | 0,j,h=>by simp at h
 |n+1,j,h=>by
  unfold cD
  by_cases hj:j<z.length
  ·rw[ky hj,uI hj]
  ·have e:(n+1)*z.length=n*z.length+z.length:=qe n z.length
   rw[jb (by omega),SV z n (j-z.length) (by omega)]
   rw[Nat.mod_eq_sub_mod (a:=j) (b:=z.length) (by omega)]
theorem w6(z:List AV)(n:Nat):(cD z n).length=n*z.length:=by
 induction n with
 |zero=>simp[cD]
 |succ n ih=>simp[cD,ih,Nat.succ_mul];omega
theorem Hi{i:TI}{z:Value}(hz:qy i.zero z.cells.toList=true){n m:Nat}(Fs:n≤m):(cD i.zero n).length≤(madeCells z.cells (m*i.zero.length)).size∧∀(k:Nat) (x:AV),(cD i.zero n)[k]?=some x→x.leaf=true∧aA F w x ((madeCells z.cells (m*i.zero.length)).getD k undef):=by
 obtain⟨h1,h2⟩:=xh (F:=F) (w:=w) hz
 have hle:n*i.zero.length≤m*i.zero.length:=lI _ Fs
 refine⟨by rw[w6,size_madeCells];exact hle,fun k x hx=>?_⟩
 have hk:k<n*i.zero.length:=by rw[← w6];exact (ck.1 hx).1
 rw[SV _ _ _ hk]at hx
 obtain⟨h3,h4⟩:=h2 _ x hx
 refine⟨h3,?_⟩
 have ab:k<m*i.zero.length:=by omega
 have uf:0<i.zero.length:=by
  rcases uK i.zero.length with h0 | h0
  ·rw[h0]at hk;omega
  ·exact h0
 have Xe:k % i.zero.length<z.cells.size:=by rw[← h1];exact ob _ uf
 rw[h1]at h4 ab
 rw[h1]at Xe
 simpa [madeCells,Array.getD,ab,h1,Xe,Nat.mod_lt _ (h1▸uf)]using h4
end
section
variable {P:Program} {TT:TypeId→Option TI} {F F':Nat→Prop} {w w':World}
def kg(P:Program)(o:Oper)(ρ:Operand→AV)(σ:Hp)(K:AV→Hp→Prop):Prop:=
 ∀(a:Act) (F:Nat→Prop) (w:World),(∀x∈o.op.operands.toList,aA F w (ρ x) (a.eval x))→bu F w σ→∀(next:Act→World→Prop) (Q:Exit→Act→World→Prop),
  (∀v av σ' F' w',bH F w F' w'→bu F' w' σ'→aA F' w' av v→K av σ'→next (a.put o.dst v) w')→wq P o a w next Q
theorem XN{o:Oper}{ρ:Operand→AV}{σ:Hp}{K:AV→Hp→Prop}{v:AV}(h:E1 P o.op ρ σ v)(hk:K v σ):kg P o ρ σ K:=by
 intro a F w hx aF next Q hn
 obtain⟨v',h1,h2⟩:=h a.eval F w o rfl hx aF
 unfold wq
 rw[h1]
 exact hn v' v σ F w (.refl _ _) aF h2 hk
theorem Gz{o:Oper}{ρ:Operand→AV}{σ:Hp}{K:AV→Hp→Prop}{cs:List AV}{mk:Nat→AV}(hk:∀b,K (mk b) ((b,cs)::σ))
  (h:∀(η:Operand→Value) (F:Nat→Prop) (w:World),(∀x∈o.op.operands.toList,aA F w (ρ x) (η x))→∃(c:Array Value) (T:TypeId) (v:Value),(execOp η o).run P w=.ok (.value v) (w.alloc (.cells c T))∧cs.length≤c.size∧(∀(i:Nat) (x:AV),cs[i]?=some x→x.leaf=true∧aA F w x (c.getD i undef))∧aA F (w.alloc (.cells c T)) (mk w.heap.size) v):kg P o ρ σ K:=by
 intro a F w hx aF next Q hn
 obtain⟨c,T,v,h1,h2,h3,h4⟩:=h a.eval F w hx
 unfold wq
 rw[h1]
 obtain⟨an,hr⟩:=Qv aF (T:=T) h2 h3 (w0:=w) (.inl rfl)
 exact hn v _ _ F _ an hr h4 (hk _)
theorem XP{x:AV}{v:Value}{cs:List AV}(h:aA F w x v)(hc:x.cells?=some cs):cs.length≤v.cells.size∧∀(i:Nat) (x:AV),cs[i]?=some x→x.leaf=true∧aA F w x (v.cells.getD i undef):=by
 obtain⟨h1,h2⟩:=Ll h hc
 exact⟨by omega,h2⟩
theorem aaL{o:Oper}{e:TypeId}{x:Operand}(ho:o.op=.box e x){ρ:Operand→AV}{σ:Hp}{K:AV→Hp→Prop}{cs:List AV}(hc:(ρ x).cells?=some cs)(hk:∀b,K (.ptr b 0) ((b,cs)::σ)):kg P o ρ σ K:=
 Gz hk fun η F w hx=>by
  have h1:=hx x (by simp[ho,Op.operands])
  obtain⟨h2,h3⟩:=XP h1 hc
  exact⟨(η x).cells,e,.pointer (some ⟨w.heap.size,0,none⟩),by simp[execOp,ho,Instr.box,newVar,newRow],h2,h3,.ptr _ _ ⟨_,_,_,xp _ _⟩⟩
theorem YJ(ok:dI P TT){o:Oper}{e:TypeId}(ho:o.op=.alloc e){ρ:Operand→AV}{σ:Hp}{K:AV→Hp→Prop}{i:TI}(hi:TT e=some i)(hk:∀b,K (.ptr b 0) ((b,i.zero)::σ)):kg P o ρ σ K:=
 Gz hk fun η F w hx=>by
  obtain⟨j,d,z,hj,hd,_,_,_,hz,iB⟩:=dz ok hi
  obtain⟨h1,h2⟩:=xh (F:=F) (w:=w) iB
  exact⟨z.cells,e,.pointer (some ⟨w.heap.size,0,none⟩),by simp[execOp,ho,Instr.alloc,newVar,newRow,zeroValue,typeInfo,hj,hz],by omega,h2,.ptr _ _ ⟨_,_,_,xp _ _⟩⟩
theorem Xz(ok:dI P TT){o:Oper}{t e:TypeId}{len:Nat}{parts:Array (Nat×Operand)}(ho:o.op=.buildSlice t len parts){ρ:Operand→AV}{σ:Hp}{K:AV→Hp→Prop}{it i:TI}(ht:TT t=some it)(dQ:it.k=.slice e)(hi:TT e=some i){cs:List AV}
  (hf:sH ((List.range len).map fun j=>(j*i.size,i.size)) (cD i.zero len) (parts.toList.map fun p=>(p.1,ρ p.2))=some cs) (eF:len*i.size≤16777216) (uf:1≤i.size) (hk:∀b,K (.af b 0 len i.size) ((b,cs)::σ)):kg P o ρ σ K:=
 Gz hk fun η F w hx=>by
  obtain⟨_,d,_,_,hd,_,_,j4,_,_⟩:=dz ok ht
  rw[dQ]at j4
  obtain rfl:=j9 j4
  obtain⟨j,d',z,hj,kx,hs,⟨_,o0⟩,_,hz,iB⟩:=dz ok hi
  obtain⟨hl,hr⟩:=RQ (parts:=parts) (ρ:=ρ) (η:=η) (F:=F) (w:=w) (by simpa [ho,Op.operands]using hx)
  have jI:z.cells.size=j.size:=by have:=(xh (F:=F) (w:=w) iB).1;omega
  obtain⟨m1,m2⟩:=Hi (F:=F) (w:=w) iB (a8 len)
  have gW:pV F w (cD i.zero len) (madeCells z.cells (len*i.zero.length)):=⟨by rw[w6,size_madeCells],m2⟩
  rw[o0,← hs]at gW
  obtain⟨eL,f1,f2⟩:=Hn (place:=fun k=>some (k*j.size,j.size)) (fun k p hk=>by
   obtain⟨a,ha,rfl⟩:=ck.1 hk
   simp[hs]) _ _ _ _ _ hl hr gW hf
  have ah9:eL.size=len*j.size:=by
   have e1:∀(us:List (Nat×AV)) (xs out:List AV),sH ((List.range len).map fun j=>(j*i.size,i.size)) xs us=some out→out.length=xs.length:=by
    intro us
    induction us with
    |nil=>intro xs out h;simp[sH]at h;subst h;rfl
    |cons p us ih=>
     intro xs out h
     obtain⟨q,v⟩:=p
     simp only[sH]at h
     split at h
     ·split at h
      ·rw[ih _ _ h,Ax]
      ·cases h
     ·cases h
   have:=e1 _ _ _ hf
   rw[w6]at this
   have h3:=f2.1
   rw[o0,← hs]at this
   omega
  refine⟨eL,e,.slice (some ⟨w.heap.size,0,none⟩) len len,?_,by have:=f2.1;omega,f2.2,.af _ _ _ _ _ _ ⟨eL,e,(0,0),xp _ _,a8 _,?_,.inl ⟨rfl,by rw[ah9,hs];omega⟩⟩⟩
  ·by_cases h0:len*j.size=0
   ·have:eL = #[]:=Gd.1 (by omega)
    subst this
    have f1':Instr.fill (fun k=>some (k*j.size,j.size)) #[] (parts.map fun (i,x)=>(i,η x)).toList=some #[]:=by
     have e0:madeCells z.cells (len*j.size) = #[]:=by rw[h0];simp[madeCells,Array.range_zero']
     rw[e0]at f1
     exact f1
    simp only[execOp,ho,Instr.buildSlice,Sem.run_bind,run_underlying hd,Result.andThen_ok,run_sizeOf hj,h0,if_true,Sem.run_pure,Nat.reducePow,if_false,og,gt_iff_lt]
    rw[show ((Array.range 0).map fun x=>(#[]:Array Value)[x % (#[]:Array Value).size]!) = #[] by simp[Array.range_zero'],f1']
    rfl
   ·simp only[execOp,ho,Sem.run_bind,run_buildSlice w t e len _ eL j z hd hj hz (by rw[hs];omega) h0 f1]
    rfl
  ·have:len≤len*i.size:=Nat.le_mul_of_pos_right _ uf
   unfold maxLen;omega
theorem XB(ok:dI P TT){o:Oper}{t e:TypeId}{l c:Operand}(ho:o.op=.makeSlice t l c){ρ:Operand→AV}{σ:Hp}{K:AV→Hp→Prop}{it i:TI}(ht:TT t=some it)(dQ:it.k=.slice e)(hi:TT e=some i){k k':IntKind}{n m:Int}(hl:ρ l=.int k n)(hc:ρ c=.int k' m)
  (h0:0≤n∧n≤m∧m≤1048576∧i.bytes≤1024) (hk:∀b,K (.af b 0 n.toNat i.size) ((b,cD i.zero n.toNat)::σ)):kg P o ρ σ K:=
 Gz hk fun η F w hx=>by
  obtain⟨_,d,_,_,hd,_,_,j4,_,_⟩:=dz ok ht
  rw[dQ]at j4
  obtain rfl:=j9 j4
  obtain⟨j,d',z,hj,kx,hs,⟨hb,o0⟩,_,hz,iB⟩:=dz ok hi
  have h1:=hx l (by simp[ho,Op.operands]);rw[hl]at h1
  have h2:=hx c (by simp[ho,Op.operands]);rw[hc]at h2
  obtain⟨m1,m2⟩:=Hi (F:=F) (w:=w) iB (show n.toNat≤m.toNat by omega)
  rw[o0,← hs]at m1 m2
  have ta:(j.bytes:Int)*m≤281474976710656:=by
   have:(j.bytes:Int)*m≤1024*1048576:=Int.mul_le_mul (by omega) (by omega) (by omega) (by omega)
   omega
  refine⟨madeCells z.cells (m.toNat*j.size),e,.slice (some ⟨w.heap.size,0,none⟩) n.toNat m.toNat,?_,m1,m2,.af _ _ _ _ _ _ ⟨_,e,(0,0),xp _ _,by omega,by unfold maxLen;omega,.inl ⟨rfl,by rw[size_madeCells,hs];omega⟩⟩⟩
  simp only[execOp,ho,h1.gJ,h2.gJ,Sem.run_bind,run_make w t e j z hd hj hz k k' n m h0.1 h0.2.1 ta (by omega)]
  rfl
end
section
variable {P:Program} {TT:TypeId→Option TI} {F F':Nat→Prop} {w w':World}
theorem Lb:∀(xs cs:List AV) (o k:Nat),o+xs.length≤cs.length→(fV cs o xs)[k]?=if o≤k∧k<o+xs.length then xs[k-o]? else cs[k]?
 | [],cs,o,k,_=>by rw[if_neg (by intro h;simp at h;omega)];rfl
 |x::xs,cs,o,k,h=>by
  simp only[ik]at h
  rw[fV,Lb xs (cs.set o x) (o+1) k (by simp;omega)]
  simp only[ik]
  by_cases h1:o+1≤k∧k<o+1+xs.length
  ·rw[ah h1,ah (by omega),show k-o=(k-(o+1))+1 by omega];rfl
  ·rw[ag h1]
   by_cases h2:o=k
   ·subst h2
    rw[ah (by omega),qd,fj]
    simp;omega
   ·rw[ag (by omega),fj,ag h2]
theorem adO(c vs:List Value)(o k:Nat)(h:o+vs.length≤c.length):(c.take o++vs++c.drop (o+vs.length))[k]?=if o≤k∧k<o+vs.length then vs[k-o]? else c[k]?:=by
 have hl:(c.take o).length=o:=by simp;omega
 by_cases h1:k<o
 ·rw[ag (by omega),dU,ky (by omega),rb,ah h1]
 ·by_cases h2:k<o+vs.length
  ·rw[ah (by omega),dU,jb (by omega),hl,ky (by omega)]
  ·rw[if_neg (by omega),List.getElem?_append_right (by simp;omega),List.getElem?_drop]
   congr 1
   simp;omega
theorem XS{i:TI}{cs cs':List AV}{o:Nat}{v:AV}(h:kX i cs o v=some cs'):∃vs,v.cells?=some vs∧vs.length=i.size∧o+i.size≤cs.length∧cs'=fV cs o vs:=by
 unfold kX at h
 split at h
 ·rename_i vs hv
  split at h
  ·rename_i h1 h2
   exact⟨vs,hv,jN h1,cI h2,(Option.some.inj h).symm⟩
  ·cases h
 ·cases h
theorem Hj{c:Array Value}{cs xs:List AV}{vs:List Value}{o:Nat}(hc:∀(i:Nat) (x:AV),cs[i]?=some x→x.leaf=true∧aA F w x (c.getD i undef))(hx:xs.length=vs.length)(hv:∀(i:Nat) (x:AV),xs[i]?=some x→x.leaf=true∧aA F w x (vs.getD i undef))(ho:o+xs.length≤c.size)
  {out:List AV} (nZ:out.length≤c.size) (I6:∀k y,out[k]?=some y→(if o≤k∧k<o+xs.length then xs[k-o]? else cs[k]?)=some y) :
  ∀(i:Nat) (x:AV),out[i]?=some x→x.leaf=true∧aA F w x ((c.toList.take o++vs++c.toList.drop (o+vs.length)).toArray.getD i undef):=by
 intro k y hk
 have h1:=I6 k y hk
 have ab:k<out.length:=(ck.1 hk).1
 have ai6:=adO c.toList vs o k (by simp;omega)
 have Ab:k<c.size:=by omega
 have hlen:(c.toList.take o++vs++c.toList.drop (o+vs.length)).length=c.size:=by simp;omega
 have hgd:(c.toList.take o++vs++c.toList.drop (o+vs.length)).toArray.getD k undef=((c.toList.take o++vs++c.toList.drop (o+vs.length))[k]?).getD undef:=by
  have h2:k<(c.toList.take o++vs++c.toList.drop (o+vs.length)).toArray.size:=by rw[qf,hlen];exact Ab
  simp only[Array.getD,h2,dif_pos]
  rw[bh (by rw[hlen];exact Ab)]
  rfl
 rw[hgd,ai6]
 split at h1
 ·rename_i ej
  rw[ah (by omega)]
  obtain⟨h2,h3⟩:=hv _ y h1
  exact⟨h2,by rw[aZ]at h3;exact h3⟩
 ·rename_i ej
  rw[ag (by omega)]
  obtain⟨h2,h3⟩:=hc _ y h1
  refine⟨h2,?_⟩
  simpa [Array.getD,Ab]using h3
theorem X7(ok:dI P TT){o:Oper}{t:TypeId}{p x:Operand}(ho:o.op=.store t p x){ρ:Operand→AV}{σ:Hp}{K:AV→Hp→Prop}{i:TI}(hi:TT t=some i){b off:Nat}(hp:ρ p=.ptr b off)(h:H0 i σ b off (ρ x) (fun σ'=>K .any σ')):kg P o ρ σ K:=by
 intro a F w hx aF next Q hn
 obtain⟨j,cs,cs',h1,h2,go⟩:=h
 obtain⟨vs,hv,JL,hle,rfl⟩:=XS h2
 obtain⟨jt,d,z,hj,hd,hs,_⟩:=dz ok hi
 have a1:=hx p (by simp[ho,Op.operands]);rw[hp]at a1
 have a2:=hx x (by simp[ho,Op.operands])
 obtain⟨c1,c2⟩:=Ll a2 hv
 obtain⟨hF,c,T,hc,eG,l7⟩:=(aF.holds _ (cx h1)).cells a1.AN
 have eG:cs.length≤c.size:=eG
 have mU:∀u∈(a.eval x).cells.toList,u.oneCell'=true:=by
  intro u hu
  obtain⟨k,hk⟩:=re.1 hu
  have ab:k<(a.eval x).cells.size:=by have:=(List.getElem?_eq_some_iff.1 hk).1;simpa using this
  obtain⟨h3,h4⟩:=c2 k vs[k] (by simp)
  have:=h4.one h3
  simpa [Array.getD,ab,show (a.eval x).cells[k]=u by simpa [ab]using hk]using this
 have an:=run_storeCells_at (P:=P) b off T (a.eval x).cells.toList 0 c w hc (by simp[c1];omega) mU
 have fO:(execOp a.eval o).run P w=.ok .skip (w.setRow b (c.toList.take off++(a.eval x).cells.toList++c.toList.drop (off+(a.eval x).cells.toList.length)).toArray):=by
  simp only[wO]at an
  have eF:¬((a.eval x).cells.size≠jt.size):=by rw[c1,JL,hs];simp
  simp only[execOp,ho,a1.zG,Instr.storeAt,Instr.sureAddr,Sem.run_bind,Sem.run_pure,Result.andThen_ok,storeVar,run_sizeOf hj,ag eF,an]
 unfold wq
 rw[fO]
 have hlen:(c.toList.take off++(a.eval x).cells.toList++c.toList.drop (off+(a.eval x).cells.toList.length)).length=c.size:=by simp;omega
 obtain⟨s1,s2⟩:=AL aF h1 (cs':=fV cs off vs) hc (c':=(c.toList.take off++(a.eval x).cells.toList++c.toList.drop (off+(a.eval x).cells.toList.length)).toArray) (by simp only[qf];exact hlen) (by rw[Ax];simp only[qf];omega)
  (Hj (xs:=vs) l7 (by simp[c1]) (fun k y hk=>by
   have ab:k<(a.eval x).cells.size:=by rw[c1];exact (ck.1 hk).1
   have:=c2 k y hk
   simpa [Array.getD,List.getD,ab]using this) (by omega) (by rw[Ax];omega) (fun k y hk=>by rw[Lb _ _ _ _ (by omega)]at hk;exact hk))
  (fun k hk=>setRow_other w b k _ hk) (setRow_heap w b c _ T _ hc) rfl rfl rfl (by simp)
 exact hn undef .any _ F _ s1 s2 (.any _) go
theorem At.flat{α:Type}{f:α→List AV}{es:Nat}(hf:∀x,(f x).length=es){b:Nat}:∀(l:List α) (o:Nat),(∀i,(h:i<l.length)→At F w b (o+i*es) (f l[i]))→At F w b o (l.flatMap f)
 | [],o,_=>fun i x h=>by simp at h
 |y::l,o,h=>by
  have h0:=h 0 (by simp)
  have ih:=At.flat hf l (o+es) (fun i hi=>by
   have:=h (i+1) (by simpa using hi)
   rw[qe,show o+(i*es+es)=o+es+i*es by omega]at this
   simpa using this)
  intro i x hx
  rw[yy]at hx
  by_cases hi:i<es
  ·rw[ky (by rw[hf];exact hi)]at hx
   have:=h0 i x (by simpa using hx)
   simpa using this
  ·rw[jb (by rw[hf];omega),hf]at hx
   have:=ih (i-es) x hx
   rw[show o+es+(i-es)=o+i by omega]at this
   exact this
theorem w8{α:Type}{f:α→List AV}{es:Nat}(hf:∀x,(f x).length=es):∀(l:List α),(l.flatMap f).length=l.length*es
 | []=>by simp
 |y::l=>by rw[yy,bZ,hf,w8 hf l,ik,qe];omega
theorem DR{b o:Nat}{cs:List AV}(h:At F w b o cs):∃news:List Value,news.length=cs.length∧(∀j u,news[j]?=some u→w.cell? ⟨b,o+j,none⟩=some u)∧(∀(i:Nat) (x:AV),cs[i]?=some x→x.leaf=true∧aA F w x (news.getD i undef))∧∀u∈news,u.oneCell'=true:=by
 have hc:∀m,m<cs.length→∃v,w.cell? ⟨b,o+m,none⟩=some v∧v.oneCell'=true:=by
  intro m hm
  obtain⟨h1,v,h2,h3⟩:=h m cs[m] (by simp[hm])
  exact⟨v,h2,h3.one h1⟩
 refine⟨(List.range cs.length).map fun m=>(w.cell? ⟨b,o+m,none⟩).getD undef,by simp,fun j u hj=>?_,fun i x hx=>?_,fun u hu=>?_⟩
 ·have ab:j<cs.length:=by have:=(List.getElem?_eq_some_iff.1 hj).1;simpa using this
  obtain⟨v,h2,_⟩:=hc j ab
  simp[ab,h2]at hj
  rw[h2,hj]
 ·have ab:i<cs.length:=(ck.1 hx).1
  obtain⟨h1,v,h2,h3⟩:=h i x hx
  refine⟨h1,?_⟩
  simpa [List.getD,ab,h2]using h3
 ·obtain⟨m,hm,rfl⟩:=dT.1 hu
  obtain⟨v,h2,h3⟩:=hc m (gy.1 hm)
  rw[h2]
  exact h3
theorem C0{σ:Hp}{es n:Nat}{x:AV}{new:List AV}(h:kf σ es x n new)(aF:bu F w σ){v:Value}(hv:aA F w x v){tx e':TypeId}(hk:P.underlying tx=some (.slice e')):
  ∃news:List Value,Src P es tx v n news w∧new.length=news.length∧∀(i:Nat) (x:AV),new[i]?=some x→x.leaf=true∧aA F w x (news.getD i undef):=by
 have empty:∀(a:Option Addr) (c:Nat),Src P es tx (.slice a 0 c) 0 [] w:=by
  intro a c
  cases a with
  |none=>exact Src.ofNil w hk c
  |some a=>exact Src.ofSlice w hk a 0 c [] (by simp) (fun j u h=>by simp at h) (fun _ h=>by cases h)
 cases h with
 |ai=>cases hv;exact⟨[],empty _ _,rfl,fun i x h=>by simp at h⟩
 |kI=>cases hv;exact⟨[],empty _ _,rfl,fun i x h=>by simp at h⟩
 |gQ=>cases hv;exact⟨[],empty _ _,rfl,fun i x h=>by simp at h⟩
 |ae s l hs=>
  obtain⟨a,c,rfl,h1,h2,h3⟩:=hv.EV
  by_cases aX:l=[]
  ·subst aX
   exact⟨[],empty _ _,rfl,fun i x h=>by simp at h⟩
  ·obtain⟨b,o,rfl,hF,hr⟩:=h3 aX
   have eb:At F w b o (l.flatMap s.cells):=At.flat (es:=s.size) (fun d=>Sh.tA s d) l o (fun i hi=>by
    obtain⟨cs',q1,q2,q3⟩:=hr i hi
    exact At.UA s q2 q3)
   obtain⟨news,n1,n2,n3,n4⟩:=DR eb
   have hl:=w8 (fun d=>Sh.tA s d) l
   exact⟨news,Src.ofSlice w hk _ _ c news (by rw[n1,hl,hs]) (fun j u hj=>by rw[pB];exact n2 j u hj) n4,n1.symm,n3⟩
 |af j b off len cs h1 h2=>
  obtain⟨a,cap,rfl,c,T,fz,m1,m2,m3,m4⟩:=hv.lr
  have eb:At F w b off ((cs.drop off).take (n*es)):=by
   have:=(aF.at_ h1 ⟨c,T,fz,m1⟩).drop off
   rw[dR]at this
   intro i x hx
   rw[rb]at hx
   split at hx
   ·exact this i x hx
   ·cases hx
  have hl:((cs.drop off).take (n*es)).length=n*es:=by simp;omega
  obtain⟨news,n1,n2,n3,n4⟩:=DR eb
  rcases m4 with ⟨rfl,_⟩ | ⟨q1,q2,rfl,rfl⟩
  ·exact⟨news,Src.ofSlice w hk _ _ cap news (by rw[n1,hl]) (fun j u hj=>by rw[pB];exact n2 j u hj) n4,n1.symm,n3⟩
  ·have h0:(List.take (0*es) (List.drop off cs))=[]:=by simp
   rw[h0]
   exact⟨[],empty _ _,rfl,fun i x h=>by simp at h⟩
theorem tz{η:Operand→Value}{o:Oper}{s x:Operand}{t t':TypeId}(ho:o.op=.call ⟨.builtin .append,#[s,x],#[t,t']⟩){v:Value}{w w':World}(h:(Builtin.append_ #[t,t'] o.type #[η s,η x]).run P w=.ok v w'):(execOp η o).run P w=.ok (.value v) w':=by
 rw[tD _ _ _ o ho]
 simp[builtin,h]
theorem YY(z:Array Value)(n:Nat):(Builtin.zeroCells z n).size=n*z.size:=by simp[Builtin.zeroCells]
theorem G3{σ:Hp}(aF:bu F w σ){e:TypeId}{i:TI}{z:Value}{olds news:List Value}{co cn:List AV}{len n cap:Nat}(ho:co.length=olds.length)(hn:cn.length=news.length)(hor:∀(i:Nat) (x:AV),co[i]?=some x→x.leaf=true∧aA F w x (olds.getD i undef))(hnr:∀(i:Nat) (x:AV),cn[i]?=some x→x.leaf=true∧aA F w x (news.getD i undef))
  (p7:olds.length=len*i.size) (hln:news.length=n*i.size) (jI:z.cells.size=i.size) (mB:len+n≤cap) (oa:cap≤maxLen) :
  let w2:=w.drew.alloc (.cells ((olds++news).toArray++Builtin.zeroCells z.cells (cap-(len+n))) e)
  bH F w F w2∧bu F w2 ((w.heap.size,co++cn)::σ)∧aA F w2 (.af w.heap.size 0 (len+n) i.size) (.slice (some ⟨w.heap.size,0,none⟩) (len+n) cap):=by
 intro w2
 have eF:((olds++news).toArray++Builtin.zeroCells z.cells (cap-(len+n))).size=cap*i.size:=by
  simp only[Array.size_append,qf,bZ,YY,jI,p7,hln]
  rw[← qc,← qc]
  congr 1
  omega
 obtain⟨h1,h2⟩:=Qv aF (c:=(olds++news).toArray++Builtin.zeroCells z.cells (cap-(len+n))) (T:=e) (cs:=co++cn) (by simp;omega) (fun k x hx=>by
  have ab:k<(co++cn).length:=(ck.1 hx).1
  have ei:k<(olds++news).length:=by simp at ab ⊢;omega
  have e1:((olds++news).toArray++Builtin.zeroCells z.cells (cap-(len+n))).getD k undef=(olds++news).getD k undef:=by
   rw[Array.getD_eq_getD_getElem?,Array.getElem?_append_left (by simpa using ei),List.getD_eq_getElem?_getD,List.getElem?_toArray]
  rw[e1]
  by_cases hk:k<co.length
  ·rw[ky hk]at hx
   rw[aZ,ky (by omega),← aZ]
   exact hor k x hx
  ·rw[jb (by omega)]at hx
   rw[aZ,jb (by omega),← aZ,← ho]
   exact hnr _ x hx) (w0:=w.drew) (.inr rfl)
 refine⟨h1,h2,.af _ _ _ _ _ _ ⟨_,e,(0,0),?_,mB,oa,.inl ⟨rfl,by rw[eF];omega⟩⟩⟩
 exact xp w.drew _
theorem Gr(ok:dI P TT){o:Oper}{s x:Operand}{t t' e e':TypeId}(ho:o.op=.call ⟨.builtin .append,#[s,x],#[t,t']⟩){ρ:Operand→AV}{σ:Hp}{K:AV→Hp→Prop}{it sV i:TI}(ht:TT t=some it)(hk:it.k=.slice e)(nU:TT t'=some sV)(dQ:sV.k=.slice e')(hi:TT e=some i)
  (h:H2 i σ (ρ s) (ρ x) K):kg P o ρ σ K:=by
 intro a F w hx aF next Q cU
 obtain⟨_,d,_,_,hd,_,_,j4,_,_⟩:=dz ok ht
 rw[hk]at j4
 obtain rfl:=j9 j4
 obtain⟨_,d',_,_,kx,_,_,xV,_,_⟩:=dz ok nU
 rw[dQ]at xV
 obtain rfl:=j9 xV
 obtain⟨j,dj,z,hj,OX,hs,⟨hb,o0⟩,_,hz,iB⟩:=dz ok hi
 have jI:z.cells.size=i.size:=by have:=(xh (F:=F) (w:=w) iB).1;omega
 have a1:=hx s (by simp[ho,Op.operands,Call.operands])
 have a2:=hx x (by simp[ho,Op.operands,Call.operands])
 have fits:∀{len n:Nat},len+n≤1048576→i.bytes≤1024→(len+n)*j.bytes≤140737488355328:=by
  intro len n h1 h2
  rw[hb]
  have:(len+n)*i.bytes≤1048576*1024:=uF h1 h2
  omega
 cases h with
 |fresh n new gV vO hn Ag h0 go same=>
  obtain⟨news,src,q1,q2⟩:=C0 (P:=P) vO aF a2 kx
  rw[← hs]at src
  obtain⟨ad,hv⟩:∃ad,a.eval s=.slice ad 0 0:=by
   rcases gV with gV | gV
   ·rw[gV]at a1;revert a1;generalize a.eval s=u;intro a1;cases a1;exact⟨none,rfl⟩
   ·rw[gV]at a1;revert a1;generalize a.eval s=u;intro a1;cases a1;exact⟨_,rfl⟩
  by_cases fI:n=0
  ·subst fI
   have vF:news=[]:=List.length_eq_zero_iff.1 (by rw[src.newsLen];simp)
   subst vF
   have hr:=tz (η:=a.eval) ho (by rw[hv];exact run_append_nothing w t t' o.type e j hd hj ad 0 0 (a8 _) _ src)
   unfold wq
   rw[hr]
   exact cU _ _ σ F w (.refl _ _) aF (by rw[← hv];exact a1) (same rfl)
  ·have hold:(Builtin.firstCells j.size 0 (.slice ad 0 0)).run P w.drew=.ok #[] w.drew:=by
    cases ad with
    |none=>exact run_firstCells_none w.drew _ _ _ _
    |some ad=>exact run_firstCells_some w.drew j.size 0 ad 0 0 [] (by simp) (fun j u h=>by simp at h)
   have zw:=run_append_grow_src (P:=P) w t t' o.type e j z hd hj hz ad 0 0 [] hold _ n news src (by omega) (by omega) (growslice_fits (by omega) (fits (by omega) Ag))
   have aq:=grownCap_ge w (0+n) 0 e
   have wI:=grownCap_le_maxLen w (0+n) 0 e (by unfold maxLen;omega)
   obtain⟨g1,g2,g3⟩:=G3 aF (e:=e) (i:=i) (z:=z) (olds:=[]) (co:=[]) (news:=news) (cn:=new) (len:=0) (n:=n) (cap:=grownCap w (0+n) 0 e) rfl q1 (fun i x h=>by simp at h) q2 (by simp) (by rw[src.newsLen,hs]) jI aq wI
   have hr:=tz (η:=a.eval) ho (by rw[hv];exact zw)
   unfold wq
   rw[hr]
   have:=go fI w.heap.size
   rw[show n=0+n from (dR n).symm]at this
   exact cU _ _ _ F _ g1 g2 g3 this
 |more jj b len n cs new qV s9 eG vO hn Ag h0 go=>
  obtain⟨news,src,q1,q2⟩:=C0 (P:=P) vO aF a2 kx
  rw[qV]at a1
  obtain⟨ad,cap,hv,c,T,fz,m1,m2,m3,m4⟩:=a1.lr
  obtain⟨hF,c',T',j5,ER,I9⟩:=(aF.holds _ (cx s9)).cells ⟨c,T,fz,m1⟩
  have ER:cs.length≤c'.size:=ER
  have O1:c=c'∧T=T'∧fz=(0,0):=by
   rw[j5]at m1;cases m1;exact⟨rfl,rfl,rfl⟩
  obtain⟨rfl,rfl,rfl⟩:=O1
  have ab:jj<σ.length:=(ck.1 s9).1
  have uA:(cs.take (len*i.size)).length=len*i.size:=by simp;omega
  have N0:∀(k:Nat) (x:AV),(cs.take (len*i.size))[k]?=some x→x.leaf=true∧aA F w x (c.getD k undef):=by
   intro k x hx
   rw[rb]at hx
   split at hx
   ·exact I9 k x hx
   ·cases hx
  have mn:bu F w (σ.eraseIdx jj):=aF.sub (List.eraseIdx_sublist _ _)
  by_cases oG:len+n≤cap
  ·rcases m4 with ⟨rfl,pS⟩ | ⟨uB,td,iD,gW⟩
   ·rw[dR]at pS
    have hmul:(len+n)*i.size≤cap*i.size:=lI _ oG
    rw[qc]at hmul
    have mz:news.length=n*i.size:=src.newsLen
    have an:=run_storeCells_at (P:=P) b (len*i.size) T news 0 c w j5 (by omega) src.one
    simp only[wO]at an
    rw[← hs]at src
    have ET:(Builtin.append_ #[t,t'] o.type #[.slice (some ⟨b,0,none⟩) len cap,a.eval x]).run P w=.ok (.slice (some ⟨b,0,none⟩) (len+n) cap) (w.setRow b (c.toList.take (len*i.size)++news++c.toList.drop (len*i.size+news.length)).toArray):=by
     rw[← hs]at an ⊢
     simp[Builtin.append_,run_underlying hd,run_underlying kx,sizeOf,typeInfo,hj,src.len,oG,src.cells,Addr.add_lit,an]
    have hr:=tz (η:=a.eval) ho (by rw[hv];exact ET)
    have hlen:(c.toList.take (len*i.size)++news++c.toList.drop (len*i.size+news.length)).length=c.size:=by simp;omega
    obtain⟨s1,s2⟩:=AL aF s9 (cs':=cs.take (len*i.size)++new) j5 (c':=(c.toList.take (len*i.size)++news++c.toList.drop (len*i.size+news.length)).toArray) (by simp only[qf];exact hlen) (by rw[qf,hlen,bZ,uA,q1];omega)
     (Hj (cs:=cs.take (len*i.size)) (xs:=new) (fun k y hk=>N0 k y hk) q1 q2 (by omega) (by simp only[bZ,uA,q1];omega) (fun k y hk=>by
      by_cases s8:k<len*i.size
      ·rw[ag (by omega)]
       rw[ky (by omega)]at hk
       exact hk
      ·rw[jb (by omega),uA]at hk
       have:=(ck.1 hk).1
       rw[ah (by omega)]
       exact hk))
     (fun k hk=>setRow_other w b k _ hk) (setRow_heap w b c _ T _ j5) rfl rfl rfl (by simp)
    unfold wq
    rw[hr]
    refine cU _ _ _ F _ s1 (s2.perm ?_) ?_ (go b)
    ·have:=yD (σ.set jj (b,cs.take (len*i.size)++new)) jj (b,cs.take (len*i.size)++new) (by simp[ab])
     rw[Py]at this
     exact this
    ·exact .af _ _ _ _ _ _ ⟨_,T,(0,0),setRow_heap w b c _ T _ j5,by omega,m3,.inl ⟨rfl,by simp only[qf];rw[hlen];omega⟩⟩
   ·subst iD;subst gW
    obtain rfl:n=0:=by omega
    have vF:news=[]:=List.length_eq_zero_iff.1 (by rw[src.newsLen];simp)
    subst vF
    rw[← hs]at src
    have iz:new=[]:=List.length_eq_zero_iff.1 (by simpa using q1)
    subst iz
    have hr:=tz (η:=a.eval) ho (by rw[hv];exact run_append_nothing w t t' o.type e j hd hj (some ad) 0 0 (a8 _) _ src)
    unfold wq
    rw[hr]
    have oH:bu F w ((b,cs)::σ.eraseIdx jj):=aF.perm (yD σ jj (b,cs) s9)
    have g0:K (.af b 0 0 i.size) ((b,[])::σ.eraseIdx jj):=by simpa using go b
    refine cU _ _ ((b,[])::σ.eraseIdx jj) F w (.refl _ _) ⟨oH.nodup,fun p hp=>?_,oH.low⟩ (.af b 0 0 i.size ad 0 ⟨c,T,(0,0),j5,a8 _,by unfold maxLen;omega,.inr ⟨uB,td,rfl,rfl⟩⟩) g0
    rcases eB.1 hp with rfl | hp
    ·exact⟨hF,.inl ⟨c,T,j5,by simp,fun i x h=>by simp at h⟩⟩
    ·exact oH.holds p (dp _ hp)
  ·obtain⟨olds,o1,o2,o3⟩:∃olds:List Value,olds.length=len*i.size∧(Builtin.firstCells i.size len (.slice (some ad) len cap)).run P w.drew=.ok olds.toArray w.drew∧∀(k:Nat) (x:AV),(cs.take (len*i.size))[k]?=some x→x.leaf=true∧aA F w x (olds.getD k undef):=by
    rcases m4 with ⟨rfl,pS⟩ | ⟨uB,td,rfl,rfl⟩
    ·have eb:At F w b 0 (cs.take (len*i.size)):=by
      have:=aF.at_ s9 ⟨_,_,_,j5⟩
      intro k x hx
      rw[rb]at hx
      split at hx
      ·exact this k x hx
      ·cases hx
     obtain⟨olds,n1,n2,n3,n4⟩:=DR eb
     refine⟨olds,by rw[n1,uA],run_firstCells_some w.drew i.size len _ len cap olds (by rw[n1,uA]) (fun k u hk=>?_),n3⟩
     rw[pB]
     exact n2 k u hk
    ·exact⟨[],by simp,run_firstCells_some w.drew i.size 0 ad 0 0 [] (by simp) (fun j u h=>by simp at h),fun k x h=>by simp at h⟩
   have mz:news.length=n*i.size:=src.newsLen
   rw[← hs]at src
   have zw:=run_append_grow_src (P:=P) w t t' o.type e j z hd hj hz (some ad) len cap olds (by rw[hs];exact o2) _ n news src (by omega) (by omega) (growslice_fits (by omega) (fits (by omega) Ag))
   have aq:=grownCap_ge w (len+n) cap e
   have wI:=grownCap_le_maxLen w (len+n) cap e (by unfold maxLen;omega)
   obtain⟨g1,g2,g3⟩:=G3 mn (e:=e) (i:=i) (z:=z) (olds:=olds) (co:=cs.take (len*i.size)) (news:=news) (cn:=new) (len:=len) (n:=n) (cap:=grownCap w (len+n) cap e) (by rw[uA,o1]) q1 o3 q2 o1 mz jI aq wI
   have hr:=tz (η:=a.eval) ho (by rw[hv];exact zw)
   unfold wq
   rw[hr]
   exact cU _ _ _ F _ g1 g2 g3 (go w.heap.size)
 |Bq jj b off len n cs new qV s9 eG vO hn Ag h0 xX go=>
  obtain⟨news,src,q1,q2⟩:=C0 (P:=P) vO aF a2 kx
  rw[qV]at a1
  obtain⟨ad,cap,hv,c,T,fz,m1,m2,m3,m4⟩:=a1.lr
  obtain⟨hF,c',T',j5,ER,I9⟩:=(aF.holds _ (cx s9)).cells ⟨c,T,fz,m1⟩
  have ER:cs.length≤c'.size:=ER
  have O1:c=c'∧T=T'∧fz=(0,0):=by
   rw[j5]at m1;cases m1;exact⟨rfl,rfl,rfl⟩
  obtain⟨rfl,rfl,rfl⟩:=O1
  have ab:jj<σ.length:=(ck.1 s9).1
  have uA:(cs.take (off+len*i.size)).length=off+len*i.size:=by simp;omega
  have N1:((cs.drop off).take (len*i.size)).length=len*i.size:=by simp;omega
  have N0:∀(k:Nat) (x:AV),(cs.take (off+len*i.size))[k]?=some x→x.leaf=true∧aA F w x (c.getD k undef):=by
   intro k x hx
   rw[rb]at hx
   split at hx
   ·exact I9 k x hx
   ·cases hx
  have mn:bu F w (σ.eraseIdx jj):=aF.sub (List.eraseIdx_sublist _ _)
  by_cases oG:len+n≤cap
  ·rcases m4 with ⟨rfl,pS⟩ | ⟨uB,td,iD,gW⟩
   ·have pS:off+cap*i.size≤c.size:=pS
    have hmul:(len+n)*i.size≤cap*i.size:=lI _ oG
    rw[qc]at hmul
    have mz:news.length=n*i.size:=src.newsLen
    have an:=run_storeCells_at (P:=P) b (off+len*i.size) T news 0 c w j5 (by omega) src.one
    simp only[wO]at an
    rw[← hs]at src
    have ET:(Builtin.append_ #[t,t'] o.type #[.slice (some ⟨b,off,none⟩) len cap,a.eval x]).run P w=.ok (.slice (some ⟨b,off,none⟩) (len+n) cap) (w.setRow b (c.toList.take (off+len*i.size)++news++c.toList.drop (off+len*i.size+news.length)).toArray):=by
     rw[← hs]at an ⊢
     simp[Builtin.append_,run_underlying hd,run_underlying kx,sizeOf,typeInfo,hj,src.len,oG,src.cells,Addr.add_lit,an]
    have hr:=tz (η:=a.eval) ho (by rw[hv];exact ET)
    have hlen:(c.toList.take (off+len*i.size)++news++c.toList.drop (off+len*i.size+news.length)).length=c.size:=by simp;omega
    obtain⟨s1,s2⟩:=AL aF s9 (cs':=cs.take (off+len*i.size)++new) j5 (c':=(c.toList.take (off+len*i.size)++news++c.toList.drop (off+len*i.size+news.length)).toArray) (by simp only[qf];exact hlen) (by rw[qf,hlen,bZ,uA,q1];omega)
     (Hj (cs:=cs.take (off+len*i.size)) (xs:=new) (fun k y hk=>N0 k y hk) q1 q2 (by omega) (by simp only[bZ,uA,q1];omega) (fun k y hk=>by
      by_cases s8:k<off+len*i.size
      ·rw[ag (by omega)]
       rw[ky (by omega)]at hk
       exact hk
      ·rw[jb (by omega),uA]at hk
       have:=(ck.1 hk).1
       rw[ah (by omega)]
       exact hk))
     (fun k hk=>setRow_other w b k _ hk) (setRow_heap w b c _ T _ j5) rfl rfl rfl (by simp)
    unfold wq
    rw[hr]
    refine cU _ _ _ F _ s1 (s2.perm ?_) ?_ xX
    ·have:=yD (σ.set jj (b,cs.take (off+len*i.size)++new)) jj (b,cs.take (off+len*i.size)++new) (by simp[ab])
     rw[Py]at this
     exact this
    ·exact .af _ _ _ _ _ _ ⟨_,T,(0,0),setRow_heap w b c _ T _ j5,by omega,m3,.inl ⟨rfl,by simp only[qf];rw[hlen];omega⟩⟩
   ·subst iD;subst gW
    obtain rfl:n=0:=by omega
    have vF:news=[]:=List.length_eq_zero_iff.1 (by rw[src.newsLen];simp)
    subst vF
    rw[← hs]at src
    have iz:new=[]:=List.length_eq_zero_iff.1 (by simpa using q1)
    subst iz
    have hr:=tz (η:=a.eval) ho (by rw[hv];exact run_append_nothing w t t' o.type e j hd hj (some ad) 0 0 (a8 _) _ src)
    unfold wq
    rw[hr]
    have oH:bu F w ((b,cs)::σ.eraseIdx jj):=aF.perm (yD σ jj (b,cs) s9)
    have g0:K (.af b off 0 i.size) ((b,cs.take off)::σ.eraseIdx jj):=by simpa using xX
    refine cU _ _ ((b,cs.take off)::σ.eraseIdx jj) F w (.refl _ _) ⟨oH.nodup,fun p hp=>?_,oH.low⟩ (.af b off 0 i.size ad 0 ⟨c,T,(0,0),j5,a8 _,by unfold maxLen;omega,.inr ⟨uB,td,rfl,rfl⟩⟩) g0
    rcases eB.1 hp with rfl | hp
    ·exact⟨hF,.inl ⟨c,T,j5,by simp only[sk];omega,fun k x h=>by
      rw[rb]at h
      split at h
      ·exact I9 k x h
      ·cases h⟩⟩
    ·exact oH.holds p (dp _ hp)
  ·obtain⟨olds,o1,o2,o3⟩:∃olds:List Value,olds.length=len*i.size∧(Builtin.firstCells i.size len (.slice (some ad) len cap)).run P w.drew=.ok olds.toArray w.drew∧∀(k:Nat) (x:AV),((cs.drop off).take (len*i.size))[k]?=some x→x.leaf=true∧aA F w x (olds.getD k undef):=by
    rcases m4 with ⟨rfl,pS⟩ | ⟨uB,td,rfl,rfl⟩
    ·have eb:At F w b off ((cs.drop off).take (len*i.size)):=by
      have:=aF.at_ s9 ⟨_,_,_,j5⟩
      intro k x hx
      rw[rb]at hx
      split at hx
      ·rw[Ao]at hx
       have h5:=this (off+k) x hx
       simpa only [dR]using h5
      ·cases hx
     obtain⟨olds,n1,n2,n3,n4⟩:=DR eb
     refine⟨olds,by rw[n1,N1],run_firstCells_some w.drew i.size len _ len cap olds (by rw[n1,N1]) (fun k u hk=>?_),n3⟩
     rw[pB]
     exact n2 k u hk
    ·exact⟨[],by simp,run_firstCells_some w.drew i.size 0 ad 0 0 [] (by simp) (fun j u h=>by simp at h),fun k x h=>by simp at h⟩
   have mz:news.length=n*i.size:=src.newsLen
   rw[← hs]at src
   have zw:=run_append_grow_src (P:=P) w t t' o.type e j z hd hj hz (some ad) len cap olds (by rw[hs];exact o2) _ n news src (by omega) (by omega) (growslice_fits (by omega) (fits (by omega) Ag))
   have aq:=grownCap_ge w (len+n) cap e
   have wI:=grownCap_le_maxLen w (len+n) cap e (by unfold maxLen;omega)
   obtain⟨g1,g2,g3⟩:=G3 mn (e:=e) (i:=i) (z:=z) (olds:=olds) (co:=(cs.drop off).take (len*i.size)) (news:=news) (cn:=new) (len:=len) (n:=n) (cap:=grownCap w (len+n) cap e) (by rw[N1,o1]) q1 o3 q2 o1 mz jI aq wI
   have hr:=tz (η:=a.eval) ho (by rw[hv];exact zw)
   unfold wq
   rw[hr]
   exact cU _ _ _ F _ g1 g2 g3 (go w.heap.size)
theorem Xy(w:World)(t t' ty e:TypeId)(k:IntKind)(i:TypeInfo)(z:Value)(hd:P.underlying t=some (.slice e))(kx:P.underlying t'=some (.int k))(hi:P.info? e=some i)(hz:i.zero=some z)(k':IntKind)(m:Nat)(h0:0<m)(hm:m≤1048576)(hb:m*i.bytes≤140737488355328)(hs:0<i.size):
  (Builtin.append_ #[t,t'] ty #[.slice none 0 0,.int k' (m:Int)]).run P w=.ok (.slice (some ⟨w.heap.size,0,none⟩) m (grownCap w m 0 e)) (w.drew.alloc (.cells (([]++(Builtin.zeroCells z.cells m).toList).toArray++Builtin.zeroCells z.cells (grownCap w m 0 e-m)) e)):=by
 have hw:IntKind.i64.wrap (m:Int)=m:=by rw[IntKind.wrap_i64];omega
 have h1:¬((m:Int)<0):=by omega
 have h2:¬((281474976710656:Int)<(m:Int)*(i.bytes:Int)):=by
  have:((m*i.bytes:Nat):Int)≤140737488355328:=by omega
  rw[FV]at this;omega
 have h3:¬(9223372036854775807<(m:Int)):=by omega
 have h4:¬(281474976710656<Builtin.nextslicecap m 0*i.bytes):=by rw[nextslicecap_zero h0];omega
 have h5:m≠0:=by omega
 have h6:i.size≠0:=by omega
 simp[Builtin.append_,run_underlying hd,run_underlying kx,sizeOf,typeInfo,zeroValue,hi,hz,asInt,asIntOf,hw,h1,h2,h3,h4,h5,Question.forced,run_firstCells_none,newRow,grownCap]
 intro h7
 exact absurd h7 (Nat.mul_ne_zero h5 h6)
theorem XR(ok:dI P TT){o:Oper}{s x:Operand}{t t' e:TypeId}{k:IntKind}(ho:o.op=.call ⟨.builtin .append,#[s,x],#[t,t']⟩){ρ:Operand→AV}{σ:Hp}{K:AV→Hp→Prop}{it sV i:TI}(ht:TT t=some it)(hk:it.k=.slice e)(nU:TT t'=some sV)(dQ:sV.k=.int k)(hi:TT e=some i)
  (h:DT i σ (ρ s) (ρ x) K):kg P o ρ σ K:=by
 intro a F w hx aF next Q cU
 obtain⟨_,d,_,_,hd,_,_,j4,_,_⟩:=dz ok ht
 rw[hk]at j4
 obtain rfl:=j9 j4
 obtain⟨_,d',_,_,kx,_,_,xV,_,_⟩:=dz ok nU
 rw[dQ]at xV
 obtain rfl:=fits_int xV
 obtain⟨j,dj,z,hj,OX,hs,⟨hb,o0⟩,_,hz,iB⟩:=dz ok hi
 have jI:z.cells.size=i.size:=by have:=(xh (F:=F) (w:=w) iB).1;omega
 have a1:=hx s (by simp[ho,Op.operands,Call.operands])
 have a2:=hx x (by simp[ho,Op.operands,Call.operands])
 cases h with
 |ai k2 n gV Fh hn Ag h0 go same=>
  rw[gV]at a1
  rw[Fh]at a2
  have e1:a.eval s=.slice none 0 0:=by revert a1;generalize a.eval s=u;intro a1;cases a1;rfl
  have e2:a.eval x=.int k2 n:=a2.gJ
  by_cases fI:n=0
  ·subst fI
   have ET:(Builtin.append_ #[t,t'] o.type #[.slice none 0 0,.int k2 0]).run P w=.ok (.slice none 0 0) w:=by
    have hw:IntKind.i64.wrap 0=0:=by decide
    simp[Builtin.append_,run_underlying hd,run_underlying kx,sizeOf,typeInfo,hj,asInt,asIntOf,hw]
   have hr:=tz (η:=a.eval) ho (by rw[e1,e2];exact ET)
   unfold wq
   rw[hr]
   exact cU _ _ σ F w (.refl _ _) aF .ai (same rfl)
  ·obtain⟨m,rfl⟩:∃m:Nat,n=m:=⟨n.toNat,by omega⟩
   have JU:0<m:=by omega
   have hmul:m*j.bytes≤140737488355328:=by
    rw[hb]
    have:m*i.bytes≤1048576*1024:=uF (by omega) Ag
    omega
   have zw:=Xy (P:=P) w t t' o.type e k j z hd kx hj hz k2 m JU (by omega) hmul (by omega)
   have aq:=grownCap_ge w m 0 e
   have wI:=grownCap_le_maxLen w m 0 e (by unfold maxLen;omega)
   obtain⟨r1,r2⟩:=Hi (F:=F) (w:=w) iB (a8 m)
   have lQ:(madeCells z.cells (m*i.zero.length))=Builtin.zeroCells z.cells m:=by
    unfold madeCells Builtin.zeroCells
    rw[jI,o0]
   have eF:(Builtin.zeroCells z.cells m).size=m*i.zero.length:=by rw[← lQ,size_madeCells]
   obtain⟨g1,g2,g3⟩:=G3 aF (e:=e) (i:=i) (z:=z) (olds:=[]) (co:=[]) (news:=(Builtin.zeroCells z.cells m).toList) (cn:=cD i.zero m) (len:=0) (n:=m) (cap:=grownCap w m 0 e) rfl (by rw[w6,Array.length_toList,eF]) (fun i x h=>by simp at h) (fun k y hk=>by
    have:=r2 k y hk
    rw[lQ]at this
    rw[aZ,Cz,← im]
    exact this) (by simp) (by rw[Array.length_toList,eF,o0]) jI (by rw[Nat.zero_add];exact aq) wI
   rw[dR]at g1 g2 g3
   have hr:=tz (η:=a.eval) ho (by rw[e1,e2];exact zw)
   unfold wq
   rw[hr]
   exact cU _ _ _ F _ g1 g2 g3 (go (by omega) w.heap.size)
theorem X1(ok:dI P TT){o:Oper}{s x:Operand}{t t' e e':TypeId}(ho:o.op=.call ⟨.builtin .append,#[s,x],#[t,t']⟩){ρ:Operand→AV}{σ:Hp}{K:AV→Hp→Prop}{it sV i:TI}(ht:TT t=some it)(hk:it.k=.slice e)(nU:TT t'=some sV)(dQ:sV.k=.slice e')(hi:TT e=some i)
  (h:AppendAt i σ (ρ s) (ρ x) K):kg P o ρ σ K:=by
 cases h with
 |fresh n new hs hx hn hb h0 go same=>exact Gr ok ho ht hk nU dQ hi (.fresh n new hs hx hn hb h0 go same)
 |more j b len n cs new hs h1 h2 hx hn hb h0 go=>exact Gr ok ho ht hk nU dQ hi (.more j b len n cs new hs h1 h2 hx hn hb h0 go)
 |Bq j b off len n cs new hs h1 h2 hx hn hb h0 xX go=>exact Gr ok ho ht hk nU dQ hi (.Bq j b off len n cs new hs h1 h2 hx hn hb h0 xX go)
 |perm K2 hp h ei=>
  have:=Gr ok ho ht hk nU dQ hi h
  intro a F w hx aF next Q hn
  refine this a F w hx (aF.perm hp) next Q (fun v av σ' F' w' h1 h2 h3 h4=>?_)
  obtain⟨zS,p,k | ⟨hl,k⟩⟩:=ei av σ' h4
  ·exact hn v av zS F' w' h1 (h2.perm p) h3 k
  ·exact hn v _ zS F' w' h1 (h2.perm p) (.via _ _ hl h3) k
end
section
variable {P:Program} {TT:TypeId→Option TI} {F:Nat→Prop} {w:World}
theorem LD{σ:Hp}(aF:bu F w σ){j b off:Nat}{cs:List AV}(h1:σ[j]?=some (b,cs))(O2:oz w b)(xs:List AV)(news:List Value)(hl:xs.length=news.length)(hle:off+xs.length≤cs.length)(hv:∀(k:Nat) (y:AV),xs[k]?=some y→y.leaf=true∧aA F w y (news.getD k undef)):
  ∃w',(storeCells ⟨b,off,none⟩ news).run P w=.ok () w'∧bH F w F w'∧bu F w' (σ.set j (b,fV cs off xs)):=by
 obtain⟨hF,c,T,hc,eG,l7⟩:=(aF.holds _ (cx h1)).cells O2
 have eG:cs.length≤c.size:=eG
 have mU:∀u∈news,u.oneCell'=true:=by
  intro u hu
  obtain⟨k,hk⟩:=re.1 hu
  have ab:k<news.length:=(ck.1 hk).1
  obtain⟨h3,h4⟩:=hv k (xs[k]'(by omega)) (by simp)
  have:=h4.one h3
  rwa [aZ,hk]at this
 have an:=run_storeCells_at (P:=P) b off T news 0 c w hc (by omega) mU
 simp only[wO]at an
 have hlen:(c.toList.take off++news++c.toList.drop (off+news.length)).length=c.size:=by simp;omega
 obtain⟨s1,s2⟩:=AL aF h1 (cs':=fV cs off xs) hc (c':=(c.toList.take off++news++c.toList.drop (off+news.length)).toArray) (by simp only[qf];exact hlen) (by rw[Ax];simp only[qf];omega)
  (Hj (xs:=xs) l7 hl hv (by omega) (by rw[Ax];omega) (fun k y hk=>by rw[Lb _ _ _ _ (by omega)]at hk;exact hk))
  (fun k hk=>setRow_other w b k _ hk) (setRow_heap w b c _ T _ hc) rfl rfl rfl (by simp)
 exact⟨_,an,s1,s2⟩
theorem Qg{η:Operand→Value}{o:Oper}{s:Operand}{t:TypeId}(ho:o.op=.call ⟨.builtin .clear,#[s],#[t]⟩){v:Value}{w w':World}(h:(Builtin.clear_ #[t] o.type #[η s]).run P w=.ok v w'):(execOp η o).run P w=.ok (.value v) w':=by
 rw[tD _ _ _ o ho]
 simp[builtin,h]
theorem CJ{η:Operand→Value}{o:Oper}{d x:Operand}{t t':TypeId}(ho:o.op=.call ⟨.builtin .copy,#[d,x],#[t,t']⟩){v:Value}{w w':World}(h:(Builtin.copy_ #[t,t'] o.type #[η d,η x]).run P w=.ok v w'):(execOp η o).run P w=.ok (.value v) w':=by
 rw[tD _ _ _ o ho]
 simp[builtin,h]
theorem LO{σ:Hp}{j:Nat}{p:Nat×List AV}(h:σ[j]?=some p):σ.set j p=σ:=by
 obtain⟨h1,h2⟩:=ck.1 h
 subst h2
 exact List.set_getElem_self h1
theorem YE(ok:dI P TT){o:Oper}{s:Operand}{t e:TypeId}(ho:o.op=.call ⟨.builtin .clear,#[s],#[t]⟩){ρ:Operand→AV}{σ:Hp}{K:AV→Hp→Prop}{it i:TI}(ht:TT t=some it)(hk:it.k=.slice e)(hi:TT e=some i)(h:MM i σ (ρ s) (fun σ'=>K (.tup []) σ')):kg P o ρ σ K:=by
 intro a F w hx aF next Q cU
 obtain⟨_,d,_,_,hd,_,_,j4,_,_⟩:=dz ok ht
 rw[hk]at j4
 obtain rfl:=j9 j4
 obtain⟨j,dj,z,hj,OX,hs,⟨hb,o0⟩,_,hz,iB⟩:=dz ok hi
 have a1:=hx s (by simp[ho,Op.operands,Call.operands])
 have e0:∀(ad:Option Addr) (c:Nat),(Builtin.clear_ #[t] o.type #[.slice ad 0 c]).run P w=.ok (.tuple #[]) w:=fun ad c=>by
  cases ad <;> simp[Builtin.clear_,run_underlying hd]
 have done:∀(ad:Option Addr) (c:Nat),a.eval s=.slice ad 0 c→K (.tup []) σ→wq P o a w next Q:=fun ad c hv hK=>by
  unfold wq
  rw[Qg (η:=a.eval) ho (by rw[hv];exact e0 ad c)]
  exact cU (.tuple #[]) _ σ F w (.refl _ _) aF (.tup _ _ rfl (fun i x h=>by simp at h)) hK
 cases h with
 |none hs go=>
  rcases hs with hs | hs | hs
  ·rw[hs]at a1;generalize hv:a.eval s=v at a1;cases a1;exact done _ _ hv go
  ·rw[hs]at a1;generalize hv:a.eval s=v at a1;cases a1;exact done _ _ hv go
  ·rw[hs]at a1;generalize hv:a.eval s=v at a1;cases a1;exact done _ _ hv go
 |af j' b off len cs qV h1 h2 go=>
  rw[qV]at a1
  obtain⟨ad,cap,hv,c,T,fz,m1,m2,m3,m4⟩:=a1.lr
  by_cases iD:len=0
  ·subst iD
   refine done _ _ hv ?_
   have e:fV cs off (cD i.zero 0)=cs:=rfl
   rw[e,LO h1]at go
   exact go
  ·obtain⟨rfl,_⟩:ad=⟨b,off,none⟩∧off+cap*i.size≤c.size:=by
    rcases m4 with h | ⟨_,_,h,_⟩
    ·exact h
    ·exact absurd h iD
   obtain⟨r1,r2⟩:=Hi (F:=F) (w:=w) iB (a8 len)
   have ahX:z.cells.size=i.zero.length:=((xh (F:=F) (w:=w) iB).1).symm
   have lQ:(madeCells z.cells (len*i.zero.length))=Builtin.zeroCells z.cells len:=by
    unfold madeCells Builtin.zeroCells
    rw[ahX]
   have eF:(Builtin.zeroCells z.cells len).size=len*i.zero.length:=by rw[← lQ,size_madeCells]
   obtain⟨w',k1,k2,k3⟩:=LD (P:=P) aF h1 (off:=off) ⟨_,_,_,m1⟩ (cD i.zero len) (Builtin.zeroCells z.cells len).toList (by rw[w6,PM,eF]) (by rw[w6,o0];exact h2) (fun k y hk=>by
    have:=r2 k y hk
    rw[lQ]at this
    refine⟨this.1,?_⟩
    rw[aZ,Cz,← im]
    exact this.2)
   obtain⟨len,rfl⟩:∃m,len=m+1:=⟨len-1,by omega⟩
   have fO:(Builtin.clear_ #[t] o.type #[.slice (some ⟨b,off,none⟩) (len+1) cap]).run P w=.ok (.tuple #[]) w':=by
    simp[Builtin.clear_,run_underlying hd,zeroValue,typeInfo,hj,hz,k1]
   unfold wq
   rw[Qg (η:=a.eval) ho (by rw[hv];exact fO)]
   exact cU (.tuple #[]) _ _ F w' k2 k3 (.tup _ _ rfl (fun i x h=>by simp at h)) go
theorem Zw(ok:dI P TT){o:Oper}{d x:Operand}{t t' e e':TypeId}(ho:o.op=.call ⟨.builtin .copy,#[d,x],#[t,t']⟩){ρ:Operand→AV}{σ:Hp}{K:AV→Hp→Prop}{it sV i:TI}(ht:TT t=some it)(hk:it.k=.slice e)(nU:TT t'=some sV)(dQ:sV.k=.slice e')(hi:TT e=some i)
  (h:Nc i σ (ρ d) (ρ x) K):kg P o ρ σ K:=by
 intro a F w hx aF next Q cU
 obtain⟨_,dd,_,_,hd,_,_,j4,_,_⟩:=dz ok ht
 rw[hk]at j4
 obtain rfl:=j9 j4
 obtain⟨_,d',_,_,kx,_,_,xV,_,_⟩:=dz ok nU
 rw[dQ]at xV
 obtain rfl:=j9 xV
 obtain⟨j,dj,z,hj,OX,hs,_⟩:=dz ok hi
 have a1:=hx d (by simp[ho,Op.operands,Call.operands])
 have a2:=hx x (by simp[ho,Op.operands,Call.operands])
 cases h with
 |none new pg vO go=>
  obtain⟨news,src,q1,q2⟩:=C0 (P:=P) vO aF a2 kx
  have vF:news=[]:=List.length_eq_zero_iff.1 (by rw[src.newsLen];simp)
  subst vF
  rw[← hs]at src
  obtain⟨ad,c,hv⟩:∃ad c,a.eval d=.slice ad 0 c:=by
   rcases pg with pg | pg | pg
   ·rw[pg]at a1;generalize a.eval d=v at a1;cases a1;exact⟨_,_,rfl⟩
   ·rw[pg]at a1;generalize a.eval d=v at a1;cases a1;exact⟨_,_,rfl⟩
   ·rw[pg]at a1;generalize a.eval d=v at a1;cases a1;exact⟨_,_,rfl⟩
  have fO:(Builtin.copy_ #[t,t'] o.type #[.slice ad 0 c,a.eval x]).run P w=.ok (goInt 0) w:=by
   cases ad <;> simp[Builtin.copy_,run_underlying hd,src.len,sizeOf,typeInfo,hj,src.cells,storeCells]
  unfold wq
  rw[CJ (η:=a.eval) ho (by rw[hv];exact fO)]
  exact cU _ _ σ F w (.refl _ _) aF (.int _ _) go
 |af jj b off len n cs new OW h1 h2 vO hn go=>
  obtain⟨news,src,q1,q2⟩:=C0 (P:=P) vO aF a2 kx
  rw[OW]at a1
  obtain⟨ad,cap,hv,c,T,fz,m1,m2,m3,m4⟩:=a1.lr
  have mz:news.length=n*i.size:=src.newsLen
  have hmul:n*i.size≤len*i.size:=lI _ hn
  rw[← hs]at src
  by_cases iD:len=0
  ·obtain rfl:n=0:=by omega
   have vF:news=[]:=List.length_eq_zero_iff.1 (by rw[mz];simp)
   subst vF
   have iz:new=[]:=List.length_eq_zero_iff.1 (by simpa using q1)
   subst iz
   subst iD
   have fO:(Builtin.copy_ #[t,t'] o.type #[.slice (some ad) 0 cap,a.eval x]).run P w=.ok (goInt 0) w:=by
    simp[Builtin.copy_,run_underlying hd,src.len,sizeOf,typeInfo,hj,src.cells,storeCells]
   unfold wq
   rw[CJ (η:=a.eval) ho (by rw[hv];exact fO)]
   have e:fV cs off ([]:List AV)=cs:=rfl
   rw[e,LO h1]at go
   exact cU _ _ σ F w (.refl _ _) aF (.int _ _) go
  ·obtain⟨rfl,_⟩:ad=⟨b,off,none⟩∧off+cap*i.size≤c.size:=by
    rcases m4 with h | ⟨_,_,h,_⟩
    ·exact h
    ·exact absurd h iD
   obtain⟨w',k1,k2,k3⟩:=LD (P:=P) aF h1 (off:=off) ⟨_,_,_,m1⟩ new news q1 (by omega) q2
   have fO:(Builtin.copy_ #[t,t'] o.type #[.slice (some ⟨b,off,none⟩) len cap,a.eval x]).run P w=.ok (goInt n) w':=by
    simp[Builtin.copy_,run_underlying hd,src.len,sizeOf,typeInfo,hj,Nat.min_eq_left hn,src.cells,k1]
   unfold wq
   rw[CJ (η:=a.eval) ho (by rw[hv];exact fO)]
   exact cU _ _ _ F w' k2 k3 (.int _ _) go
 |part jj b off len cs OW h1 h2 j2 b2 nH n kT hxm h3 h4 hn go=>
  rw[OW]at a1
  rw[hxm]at a2
  obtain⟨ad,cap,hv,c,T,fz,m1,m2,m3,m4⟩:=a1.lr
  obtain⟨a3,zP,hv3,c3,T3,KP,p1,p2,p3,p4⟩:=a2.lr
  have hmul:len*i.size≤n*i.size:=lI _ hn
  by_cases iD:len=0
  ·subst iD
   have hc:(Builtin.firstCells i.size 0 (.slice (some a3) n zP)).run P w=.ok (([]:List Value).toArray) w:=run_firstCells_some w i.size 0 a3 n zP [] (by simp) (fun j u h=>by simp at h)
   rw[← hs]at hc
   have fO:(Builtin.copy_ #[t,t'] o.type #[.slice (some ad) 0 cap,.slice (some a3) n zP]).run P w=.ok (goInt 0) w:=by
    simp[Builtin.copy_,run_underlying hd,sizeOf,typeInfo,hj,Builtin.lenOf,hc,storeCells]
   unfold wq
   rw[CJ (η:=a.eval) ho (by rw[hv,hv3];exact fO)]
   have e:fV cs off ((kT.drop nH).take (0*i.size))=cs:=by rw[yv];rfl
   rw[e,LO h1]at go
   exact cU _ _ σ F w (.refl _ _) aF (.int _ _) go
  ·obtain⟨rfl,_⟩:ad=⟨b,off,none⟩∧off+cap*i.size≤c.size:=by
    rcases m4 with h | ⟨_,_,h,_⟩
    ·exact h
    ·exact absurd h iD
   obtain⟨rfl,_⟩:a3=⟨b2,nH,none⟩∧nH+zP*i.size≤c3.size:=by
    rcases p4 with h | ⟨_,_,h,_⟩
    ·exact h
    ·omega
   have eb:At F w b2 nH ((kT.drop nH).take (len*i.size)):=by
    have:=(aF.at_ h3 ⟨c3,T3,KP,p1⟩).drop nH
    rw[dR]at this
    intro i x hx
    rw[rb]at hx
    split at hx
    ·exact this i x hx
    ·cases hx
   have hl:((kT.drop nH).take (len*i.size)).length=len*i.size:=by simp;omega
   obtain⟨news,n1,n2,n3,n4⟩:=DR eb
   have hc:(Builtin.firstCells i.size len (.slice (some ⟨b2,nH,none⟩) n zP)).run P w=.ok news.toArray w:=run_firstCells_some w i.size len _ n zP news (by rw[n1,hl]) (fun j u hj=>by rw[pB];exact n2 j u hj)
   rw[← hs]at hc
   obtain⟨w',k1,k2,k3⟩:=LD (P:=P) aF h1 (off:=off) ⟨_,_,_,m1⟩ ((kT.drop nH).take (len*i.size)) news n1.symm (by rw[hl];exact h2) n3
   have fO:(Builtin.copy_ #[t,t'] o.type #[.slice (some ⟨b,off,none⟩) len cap,.slice (some ⟨b2,nH,none⟩) n zP]).run P w=.ok (goInt len) w':=by
    simp[Builtin.copy_,run_underlying hd,sizeOf,typeInfo,hj,Builtin.lenOf,Nat.min_eq_right hn,hc,k1]
   unfold wq
   rw[CJ (η:=a.eval) ho (by rw[hv,hv3];exact fO)]
   exact cU _ _ _ F w' k2 k3 (.int _ _) go
end
section
variable {P:Program} {TT:TypeId→Option TI}
theorem XD{F:Nat→Prop}{w:World}:∀(s:Sh) (d:s.T) (vs:List Value),vs.length=s.size→(∀(k:Nat) (x:AV),(s.cells d)[k]?=some x→aA F w x (vs.getD k undef))→lh F w s vs d:=by
 intro s
 induction s with
 |int k=>intro d vs hl h;match vs,hl with | [v],_=>have:=(h 0 _ rfl).gJ;exact congrArg (fun x=>[x]) this
 |bool=>intro d vs hl h;match vs,hl with | [v],_=>have:=(h 0 _ rfl).rQ;exact congrArg (fun x=>[x]) this
 |str=>intro d vs hl h;match vs,hl with | [v],_=>have:=(h 0 _ rfl).Ew;exact congrArg (fun x=>[x]) this
 |nil=>intro d vs hl h;exact iE.1 hl
 |slice e ih=>
  intro d vs hl h
  match vs,hl with
  | [v],_=>
   have:=h 0 _ rfl
   cases this with
   |ae _ _ _ h=>exact h
 |field f r qS jZ=>
  intro d vs hl h
  simp only[Sh.size]at hl
  refine⟨vs.take f.size,vs.drop f.size,(List.take_append_drop _ _).symm,by simp;omega,qS d.1 _ (by simp;omega) (fun k x hk=>?_),jZ d.2 _ (by simp;omega) (fun k x hk=>?_)⟩
  ·have s8:k<f.size:=by rw[← Sh.tA f d.1];exact (ck.1 hk).1
   have:=h k x (by show (f.cells d.1++r.cells d.2)[k]?=some x;rw[ky (by rw[Sh.tA];exact s8)];exact hk)
   rw[aZ]at this ⊢
   rw[rb,ah s8]
   exact this
  ·have:=h (f.size+k) x (by show (f.cells d.1++r.cells d.2)[f.size+k]?=some x;rw[jb (by rw[Sh.tA];omega),Sh.tA,KC];exact hk)
   rw[aZ]at this ⊢
   rw[Ao]
   exact this
theorem flat_get{α:Type}{f:α→List AV}{es:Nat}(hf:∀x,(f x).length=es):∀(l:List α) (i:Nat) (h:i<l.length) (k:Nat),k<es→(l.flatMap f)[i*es+k]?=(f l[i])[k]?
 | [],i,h,_,_=>by simp at h
 |y::l,0,h,k,hk=>by rw[List.flatMap_cons,List.getElem?_append_left (by rw[hf];omega)];simp
 |y::l,i+1,h,k,hk=>by
  rw[yy,jb (by rw[hf,qe];omega),hf,show (i+1)*es+k-es=i*es+k by rw[qe];omega]
  simpa using flat_get hf l i (by simpa using h) k hk
theorem acp{F:Nat→Prop}{w:World}{σ:Hp}(aF:bu F w σ){j b off len es:Nat}{cs:List AV}{e:Sh}{l:List e.T}(h1:σ[j]?=some (b,cs))(h2:(cs.drop off).take (len*es)=l.flatMap e.cells)(h3:l.length=len∧e.size=es∧0<es){v:Value}(hv:aA F w (.af b off len es) v):
  aA (fun x=>F x∨x=b) w (.ae e l) v:=by
 obtain⟨hl,he,uf⟩:=h3
 have an:bH F w (fun x=>F x∨x=b) w:=⟨rfl,rfl,rfl,a8 _,fun _ h=>.inl h,fun _ _=>rfl,fun _ c _ fz h=>⟨c,fz,h,rfl⟩,a8 _⟩
 obtain⟨a,cap,rfl,c,T,fz,m1,m2,m3,m4⟩:=hv.lr
 subst hl
 refine .ae e l _ ⟨some a,cap,rfl,m2,m3,(fun e=>by cases e),fun aX=>?_⟩
 have s7:0<l.length:=mG.2 aX
 rcases m4 with ⟨rfl,pS⟩ | ⟨_,_,h0,_⟩
 ·refine⟨b,off,rfl,⟨.inr rfl,c,T,fz,m1⟩,fun i hi=>?_⟩
  have eb:At F w b off ((cs.drop off).take (l.length*es)):=by
   have:=(aF.at_ h1 ⟨c,T,fz,m1⟩).drop off
   rw[dR]at this
   intro i x hx
   rw[rb]at hx
   split at hx
   ·exact this i x hx
   ·cases hx
  rw[h2]at eb
  have lQ:∀k,k<es→∃x v,(e.cells l[i])[k]?=some x∧w.cell? ⟨b,off+i*es+k,none⟩=some v∧aA F w x v:=by
   intro k hk
   have hlen:k<(e.cells l[i]).length:=by rw[Sh.tA,he];exact hk
   have hx:=bh hlen
   have:=flat_get (f:=e.cells) (es:=es) (fun d=>by rw[Sh.tA,he]) l i hi k hk
   obtain⟨_,v,h4,h5⟩:=eb (i*es+k) _ (this.trans hx)
   exact⟨_,v,hx,by rw[← h4,Gb],h5⟩
  refine⟨(List.range es).map fun k=>(w.cell? ⟨b,off+i*es+k,none⟩).getD undef,by simp[he],fun k u hk=>?_,XD e l[i] _ (by simp[he]) (fun k x hk=>?_)⟩
  ·have Ft:k<es:=by have:=(List.getElem?_eq_some_iff.1 hk).1;simpa using this
   obtain⟨x,v,_,h4,_⟩:=lQ k Ft
   simp[Ft,h4]at hk
   rw[he,h4,hk]
  ·have Ft:k<es:=by have:=(ck.1 hk).1;rw[Sh.tA,he]at this;exact this
   obtain⟨x',v,h3,h4,h5⟩:=lQ k Ft
   rw[h3]at hk
   cases hk
   have:aA F w x v:=h5
   simpa [List.getD,Ft,h4]using this.mono an
 ·omega
theorem yG{F F':Nat→Prop}{w:World}{b off len es:Nat}{e:Sh}{l:List e.T}(an:bH F w F' w)(hh:∀v,aA F w (.af b off len es) v→aA F' w (.ae e l) v){r r':AV}(h:eO b off len es e l r r'):∀v,aA F w r v→aA F' w r' v:=by
 induction h with
 |here=>exact hh
 |refl x=>exact fun v h=>h.mono an
 |tup xs ys h hi ih=>
  intro v hv
  cases hv with
  |tup _ vs hs hr=>
   refine .tup _ _ (by rw[← h];exact hs) (fun i y hy=>?_)
   have pf:i<xs.length:=by rw[h];exact (ck.1 hy).1
   exact ih i xs[i] y (bh pf) hy _ (hr i _ (bh pf))
 |agg xs ys h hl hi ih=>
  intro v hv
  obtain⟨vs,rfl,hs,hr⟩:=hv.vU
  refine .agg _ _ (by rw[← h];exact hs) hl (fun i y hy=>?_)
  have pf:i<xs.length:=by rw[h];exact (ck.1 hy).1
  exact ih i xs[i] y (bh pf) hy _ (hr i _ (bh pf)).2
 |nil e'=>
  intro v hv
  cases hv
  exact .ae e' [] _ ⟨none,0,rfl,a8 _,by unfold maxLen;omega,fun _=>rfl,fun aX=>absurd rfl aX⟩
 |gQ e'=>
  intro v hv
  cases hv with
  |gQ a c h=>exact .ae e' [] _ ⟨some a,c,rfl,bA _,h,(fun e=>by cases e),fun aX=>absurd rfl aX⟩
 |via h ih=>
  intro v hv
  cases hv with
  |via _ _ _ hv=>exact ih v hv
theorem vv{F:Nat→Prop}{w:World}{σ:Hp}(aF:bu F w σ){j b off len es:Nat}{cs:List AV}{e:Sh}{l:List e.T}(h1:σ[j]?=some (b,cs))(h2:(cs.drop off).take (len*es)=l.flatMap e.cells)(h3:l.length=len∧e.size=es∧0<es):
  bH F w (fun x=>F x∨x=b) w∧bu (fun x=>F x∨x=b) w (σ.eraseIdx j)∧∀v,aA F w (.af b off len es) v→aA (fun x=>F x∨x=b) w (.ae e l) v:=by
 have an:bH F w (fun x=>F x∨x=b) w:=⟨rfl,rfl,rfl,a8 _,fun _ h=>.inl h,fun _ _=>rfl,fun _ c _ fz h=>⟨c,fz,h,rfl⟩,a8 _⟩
 have oH:bu F w ((b,cs)::σ.eraseIdx j):=aF.perm (yD σ j (b,cs) h1)
 have cf:=oH.nodup
 simp only[pq,mE]at cf
 have oQ:bu (fun x=>F x∨x=b) w (σ.eraseIdx j):=⟨cf.2,fun p hp=>(oH.holds p (dp _ hp)).mono an rfl (fun hF=>by
  rcases hF with hF | hF
  ·exact (oH.holds p (dp _ hp)).1 hF
  ·exact cf.1 (dT.2 ⟨p,hp,hF⟩)),fun x hx=>by
  rcases hx with hx | hx
  ·exact aF.low x hx
  ·subst hx;exact (oH.holds (x,cs) (cj ..)).lt⟩
 exact⟨an,oQ,fun v hv=>acp aF h1 h2 h3 hv⟩
end
section
variable {P:Program} {TT:TypeId→Option TI}
theorem K8{F:Nat→Prop}{w:World}{xs:Array Operand}{ρ:Operand→AV}{η:Operand→Value}(h:∀x∈xs.toList,aA F w (ρ x) (η x)):ji F w (xs.toList.map ρ) (xs.map η):=by
 refine⟨by simp,fun i x hi=>?_⟩
 simp only[fm,wU]at hi
 obtain⟨a,h1,rfl⟩:=hi
 have ab:i<xs.size:=by have:=(List.getElem?_eq_some_iff.1 h1).1;simpa using this
 have:xs[i]=a:=by simpa [ab]using h1
 simpa [Array.getD,ab,this]using h a (List.mem_of_getElem? h1)
theorem Gs{F:Nat→Prop}{w:World}{xs ys:List AV}{us vs:Array Value}(h:ji F w xs us)(k:ji F w ys vs):ji F w (xs++ys) (us++vs):=by
 refine⟨by simp[h.1,k.1],fun i x hi=>?_⟩
 rw[im]
 by_cases ab:i<xs.length
 ·rw[ky ab]at hi
  rw[KN (by rw[← h.1];exact ab),← im]
  exact h.2 i x hi
 ·rw[jb (by omega)]at hi
  rw[Array.getElem?_append_right (by rw[← h.1];omega),← im,← h.1]
  exact k.2 _ x hi
theorem Rz{F:Nat→Prop}{w:World}{x:AV}{v:Value}(h:aA F w x v):ji F w [x] #[v]:=⟨rfl,fun i y hi=>by cases i <;> simp at hi;subst hi;exact h⟩
theorem Gy{o:Oper}{ρ:Operand→AV}{σ:Hp}{K:AV→Hp→Prop}(h:kg P o (fun x=>bU (ρ x)) σ K):kg P o ρ σ K:=fun a F w hx=>h a F w (fun x hm=>(hx x hm).bU)
theorem Qp{o:Oper}{c:Call}(ho:o.op=.call c){ρ:Operand→AV}{K:FuncId→List AV→Prop}{KY:Nat→List AV→Prop}(h:qt P c ρ K KY):
  (∃l xs,KY l xs∧∀(η:Operand→Value) (F:Nat→Prop) (w:World),(∀x∈o.op.operands.toList,aA F w (ρ x) (η x))→∃vs,ji F w xs vs∧execOp η o=Instr.yield l vs)∨∃f xs,K f xs∧∀(η:Operand→Value) (F:Nat→Prop) (w:World),(∀x∈o.op.operands.toList,aA F w (ρ x) (η x))→∃vs,ji F w xs vs∧(Enters P f→(execOp η o).run P w=.ok (.enter f vs) w):=by
 unfold qt at h
 split at h
 ·rename_i f0 hc
  split at h
  ·rename_i g first cap hf
   refine .inr ⟨g,_,h,fun η F w hx=>?_⟩
   have h1:=hx f0 (by simp[ho,Op.operands,Call.operands,hc])
   rw[hf]at h1
   have h2:=K8 (xs:=c.args) (ρ:=fun x=>bU (ρ x)) (η:=η) (F:=F) (w:=w) (fun x hm=>(hx x (by simp only[ho,Op.operands,Call.operands,hc,CC,bV];exact .inr hm)).bU)
   cases hv:η f0 with
   |func f' v1 v2=>
    rw[hv]at h1
    obtain⟨rfl,r1,r2⟩:f'=.func g∧ji F w first v1∧ji F w cap v2:=by cases h1 with | fn _ _ _ _ _ fy gO h1 h2=>exact⟨rfl,⟨fy,h1⟩,⟨gO,h2⟩⟩
    refine⟨v1++c.args.map η++v2,Gs (Gs r1 h2) r2,fun he=>?_⟩
    simp only[execOp,ho,resolve,hc,Deferred.ofValue,hv,Sem.run_bind,Sem.run_pure,Result.andThen_ok,invoke]
    exact he _ _
   |_=>rw[hv]at h1;cases h1
  ·rename_i l hf
   refine .inl ⟨l,_,h,fun η F w hx=>?_⟩
   have h1:=hx f0 (by simp[ho,Op.operands,Call.operands,hc])
   rw[hf]at h1
   have h2:=K8 (xs:=c.args) (ρ:=fun x=>bU (ρ x)) (η:=η) (F:=F) (w:=w) (fun x hm=>(hx x (by simp only[ho,Op.operands,Call.operands,hc,CC,bV];exact .inr hm)).bU)
   cases hv:η f0 with
   |func f' v1 v2=>
    rw[hv]at h1
    obtain⟨rfl,r1,r2⟩:f'=.yield l∧v1 = #[]∧v2 = #[]:=by cases h1 with | fn _ _ _ _ _ fy gO h1 h2=>exact⟨rfl,Gd.1 fy.symm,Gd.1 gO.symm⟩
    subst r1 r2
    refine⟨c.args.map η,h2,?_⟩
    simp only[execOp,ho,resolve,hc,Deferred.ofValue,hv,pure_bind,invoke]
    simp
   |_=>rw[hv]at h1;cases h1
  ·exact h.elim
 ·rename_i r m hc
  have fin:∀(t:TypeId) (v:AV),ρ r=.iface t v→(∀F w u,aA F w v u→∃ad,u=.pointer (some ad))→InvAt P t m (fun g=>K g (v::c.args.toList.map fun x=>bU (ρ x)))→
    ∃f xs,K f xs∧∀(η:Operand→Value) (F:Nat→Prop) (w:World),(∀x∈o.op.operands.toList,aA F w (ρ x) (η x))→∃vs,ji F w xs vs∧(Enters P f→(execOp η o).run P w=.ok (.enter f vs) w):=by
   rintro t v hr hp ⟨g,hm,go⟩
   refine⟨g,_,go,fun η F w hx=>?_⟩
   have h1:=hx r (by simp[ho,Op.operands,Call.operands,hc])
   rw[hr]at h1
   have h2:=K8 (xs:=c.args) (ρ:=fun x=>bU (ρ x)) (η:=η) (F:=F) (w:=w) (fun x hm=>(hx x (by simp only[ho,Op.operands,Call.operands,hc,CC,bV];exact .inr hm)).bU)
   cases hv:η r with
   |iface t' u=>
    rw[hv]at h1
    obtain⟨rfl,hu⟩:t'=t∧aA F w v u:=by cases h1 with | iface _ _ _ h=>exact⟨rfl,h⟩
    obtain⟨ad,rfl⟩:=hp F w u hu
    refine⟨#[.pointer (some ad)]++c.args.map η,(show ji F w ([v]++c.args.toList.map fun x=>bU (ρ x)) _ from Gs (Rz hu) h2),fun he=>?_⟩
    have hex:(#[η r]++c.args.map η).extract 1 (#[η r]++c.args.map η).size=c.args.map η:=by
     apply Array.ext'
     simp
     exact List.take_of_length_le (by simp)
    have h0:(#[η r]++c.args.map η)[0]?=some (η r):=by rw[Array.getElem?_append_left (by simp)];rfl
    have hinv:invoke (.fn (.method m) #[]) (#[η r]++c.args.map η)=callMethod (η r) m (c.args.map η):=by
     unfold invoke
     simp only[h0]
     exact congrArg (callMethod (η r) m) hex
    have wI:(callMethod (η r) m (c.args.map η)).run P w=.ok (.enter g (#[.pointer (some ad)]++c.args.map η)) w:=by
     rw[hv]
     unfold callMethod
     have aV:=hm ad w
     simp only[Sem.run_bind,run_program,Result.andThen_ok,aV]
     exact he _ _
    simp only[execOp,ho,resolve,hc,Sem.run_bind,Sem.run_pure,Result.andThen_ok,hinv,wI]
   |_=>rw[hv]at h1;cases h1
  split at h
  ·rename_i t b o' hr
   exact .inr <| fin t _ hr (fun F w u hu=>⟨_,hu.zG⟩) h
  ·rename_i t cs hr
   exact .inr <| fin t _ hr (fun F w u hu=>by obtain⟨b,o',e,_⟩:=hu.y9;exact⟨_,e⟩) h
  ·exact h.elim
 ·exact h.elim
theorem Dr{F F':Nat→Prop}{w:World}{σ:Hp}(aF:bu F' w σ){b off len es:Nat}{e:Sh}{l:List e.T}(hh:∀v,aA F w (.af b off len es) v→aA F' w (.ae e l) v){i k b':Nat}{cs:List AV}(hi:σ[i]?=some (b',cs))(hk:cs[k]?=some (.af b off len es)):bu F' w (σ.set i (b',cs.set k (.ae e l))):=by
 have ab:i<σ.length:=(ck.1 hi).1
 have Eg:(σ.set i (b',cs.set k (.ae e l))).map Prod.fst=σ.map Prod.fst:=by
  rw[oc]
  apply Am
  intro n
  rw[fj]
  split
  ·rename_i e;subst e
   have:=(ck.1 hi).2
   simp[ab,this]
  ·rfl
 refine⟨Eg▸aF.nodup,fun p hm=>?_,aF.low⟩
 rcases qh hm with hm | rfl
 ·exact aF.holds p hm
 ·obtain⟨hF,c,T,h1,h2,h3⟩:=(aF.holds _ (cx hi)).Nl hk rfl
  refine⟨hF,.inl ⟨c,T,h1,by simpa using h2,fun n x hn=>?_⟩⟩
  rw[fj]at hn
  split at hn
  ·rename_i e;subst e
   split at hn
   ·cases hn
    refine⟨rfl,hh _ ?_⟩
    have:=(h3 k _ hk).2
    revert this
    generalize c.getD k undef=v
    intro this
    cases this with
    |af _ _ _ _ a cap h=>exact .af _ _ _ _ a cap h
   ·cases hn
  ·exact h3 n x hn
theorem yR{f:FuncId}{xs:List AV}{σ:Hp}{K:AV→Hp→Prop}(h:CallAt P f K xs σ):ACalls P f xs σ K:=by
 induction h with
 |mk js R call go=>
  obtain⟨oS,hG⟩:=call
  refine⟨oS,fun F w vs bR aF=>(hG F w vs bR (aF.perm (yN js _))).mono ?_⟩
  rintro e w' ⟨r,v,σ',F',rfl,h1,h2,h3,h4⟩
  exact⟨r,v,σ',F',rfl,h1,h2,h3,go r σ' h4⟩
 |perm R hp call go=>
  obtain⟨oS,hG⟩:=call
  refine⟨oS,fun F w vs bR aF=>(hG F w vs bR (aF.perm hp)).mono ?_⟩
  rintro e w' ⟨r,v,σ',F',rfl,h1,h2,h3,h4⟩
  obtain⟨ew,k1,k2⟩:=go r σ' h4
  exact⟨r,v,ew,F',rfl,h1,h2.perm k1,h3,k2⟩
 |kl j b off len es cs e l h1 h2 h3 i k b' cs' hi hk h ih=>
  obtain⟨oS,hG⟩:=ih
  refine⟨oS,fun F w vs bR aF =>?_⟩
  obtain⟨an,oQ,hh⟩:=vv aF h1 h2 h3
  refine (hG _ w vs (bR.mono an) (Dr oQ hh hi hk)).mono ?_
  rintro e w' ⟨r,v,σ',F',rfl,q1,q2,q3,q4⟩
  exact⟨r,v,σ',F',rfl,an.trans q1,q2,q3,q4⟩
 |cJ j b off len es cs e l h1 h2 h3 h4 h ih=>
  obtain⟨oS,hG⟩:=ih
  refine⟨oS,fun F w vs bR aF =>?_⟩
  obtain⟨an,oQ,hh⟩:=vv aF h1 h2 h3
  have hv:=yG an hh h4 (.tuple vs) (.tup _ _ bR.1 bR.2)
  cases hv with
  |tup _ _ hs hr=>
   refine (hG _ w vs ⟨hs,hr⟩ oQ).mono ?_
   rintro e w' ⟨r,v,σ',F',rfl,h1,h2,h3,h4⟩
   exact⟨r,v,σ',F',rfl,an.trans h1,h2,h3,h4⟩
theorem X0{o:Oper}{c:Call}(ho:o.op=.call c){ρ:Operand→AV}{σ:Hp}{K:AV→Hp→Prop}(h:qt P c ρ (fun f xs=>CallAt P f K xs σ) (fun l xs=>xE P l K xs σ)):kg P o ρ σ K:=by
 rcases Qp ho h with ⟨l,xs,hc,fO⟩ | ⟨f,xs,hc,fO⟩
 ·intro a F w hx aF next Q hn
  obtain⟨vs,bR,hr⟩:=fO a.eval F w hx
  unfold wq
  rw[hr]
  cases hc with
  |mk js R call go=>
   obtain⟨f,tmps,assign,body,h1,h2⟩:=call F w vs bR (aF.perm (yN js σ))
   rw[h1]
   refine RoundIn.mono h2 ?_
   rintro e w' ⟨r,v,σ',F',rfl,h1,h2,h3,h4⟩
   exact⟨v,rfl,hn v r σ' F' w' h1 h2 h3 (go _ _ h4)⟩
  |perm R hp call go=>
   obtain⟨f,tmps,assign,body,h1,h2⟩:=call F w vs bR (aF.perm hp)
   rw[h1]
   refine RoundIn.mono h2 ?_
   rintro e w' ⟨r,v,σ',F',rfl,h1,h2,h3,h4⟩
   obtain⟨ew,k1,k2⟩:=go _ _ h4
   exact⟨v,rfl,hn v r ew F' w' h1 (h2.perm k1) h3 k2⟩
 obtain⟨oS,hG⟩:=yR hc
 intro a F w hx aF next Q hn
 obtain⟨vs,bR,hr⟩:=fO a.eval F w hx
 unfold wq
 rw[hr oS]
 refine (hG F w vs bR aF).mono ?_
 rintro e w' ⟨r,v,σ',F',rfl,h1,h2,h3,h4⟩
 exact⟨v,rfl,hn v r σ' F' w' h1 h2 h3 h4⟩
theorem XM{o:Oper}{t:TypeId}(ho:o.op=.makeMap t none){ρ:Operand→AV}{σ:Hp}{K:AV→Hp→Prop}(hk:∀b,K (.nJ b) ((b,[.oP []])::σ)):kg P o ρ σ K:=by
 intro a F w hx aF next Q hn
 have fO:(execOp a.eval o).run P w=.ok (.value (.map (some w.heap.size))) (w.alloc (.map #[] 0)):=by
  have e:(Instr.makeMap t none).run P w=.ok (.map (some w.heap.size)) (w.alloc (.map #[] 0)):=rfl
  simp[execOp,ho,e,Result.andThen]
 unfold wq
 rw[fO]
 have hold:∀b,b<w.heap.size→(w.alloc (.map #[] 0)).heap[b]?=w.heap[b]?:=fun b hb=>Below.heap_alloc _ _ b hb
 have an:bH F w F (w.alloc (.map #[] 0)):=yH aF.low rfl rfl rfl (by simp) hold
 have hr:=aF.same an hold
 have iz:(w.alloc (.map #[] 0)).heap[w.heap.size]?=some (.map #[] 0):=xp _ _
 refine hn _ (.nJ w.heap.size) _ F _ an ⟨?_,fun p hm=>?_,hr.low⟩ (.nJ _) (hk _)
 ·simp only[pq,mE]
  refine⟨fun hm=>?_,aF.nodup⟩
  obtain⟨p,hp,e⟩:=dT.1 hm
  have:=(aF.holds p hp).lt
  omega
 ·rcases eB.1 hm with rfl | hm
  ·exact⟨fun hF=>Kc _ (aF.low _ hF),.inr (.inl ⟨_,_,rfl,iz,rfl⟩)⟩
  ·exact hr.holds p hm
theorem QZ{σ:Hp}{F:Nat→Prop}{w:World}(h:bu F w σ){j b:Nat}{x x':AV}{o o':Obj}(ho:xR x=some o)(gw:xR x'=some o')(hj:σ[j]?=some (b,[x])):
  bH F w F { w with heap:=w.heap.setIfInBounds b o' }∧bu F { w with heap:=w.heap.setIfInBounds b o' } (σ.set j (b,[x'])):=by
 obtain⟨hb,hc⟩:=(h.holds (b,[x]) (cx hj)).I2 ho
 have ab:j<σ.length:=(ck.1 hj).1
 obtain⟨JJ,hw⟩:=MapKept.heap_set (o':=o') hc
 have an:bH F w F { w with heap:=w.heap.setIfInBounds b o' }:=⟨rfl,rfl,rfl,by simp,fun _ h=>h,fun k hF=>hw k (fun e=>hb (e▸hF)),fun k d S fz hk=>by
  by_cases e:k=b
  ·subst e
   rw[hc]at hk
   cases hk
   exact (Q6 ho).elim
  ·exact⟨d,fz,(hw k e).trans hk,rfl⟩,a8 _⟩
 have Eg:(σ.set j (b,[x'])).map Prod.fst=σ.map Prod.fst:=by
  rw[oc]
  apply Am
  intro k
  rw[fj]
  split
  ·rename_i e;subst e
   simp[ab]
   have:=(ck.1 hj).2
   rw[this]
  ·rfl
 refine⟨an,⟨Eg▸h.nodup,fun p hm=>?_,fun k hF=>by simpa using h.low k hF⟩⟩
 obtain⟨k,hk⟩:=re.1 hm
 rw[fj]at hk
 split at hk
 ·rename_i e;subst e
  simp at hk
  obtain⟨_,rfl⟩:=hk
  exact⟨hb,.inr (.inl ⟨_,_,rfl,JJ,gw⟩)⟩
 ·rename_i aX
  have aV:=cx hk
  have qX:p.1≠b:=fun e=>by
   have cf:=h.nodup
   have h1:(σ.map Prod.fst)[k]?=some b:=by rw[List.getElem?_map,hk];simp[e]
   have h2:(σ.map Prod.fst)[j]?=some b:=by rw[fm,hj];rfl
   have dQ:k<(σ.map Prod.fst).length:=(ck.1 h1).1
   have:=(List.getElem?_inj (i:=k) (j:=j) dQ cf).1 (h1.trans h2.symm)
   exact aX this.symm
  exact (h.holds p aV).mono an (hw _ qX) (h.holds p aV).1
theorem Y2{σ:Hp}{F:Nat→Prop}{w:World}(h:bu F w σ){j b:Nat}{l l':List (Int×Int)}(hj:σ[j]?=some (b,[.oP l])):
  bH F w F { w with heap:=w.heap.setIfInBounds b (.map (gr 0 l').toArray l'.length) }∧bu F { w with heap:=w.heap.setIfInBounds b (.map (gr 0 l').toArray l'.length) } (σ.set j (b,[.oP l'])):=QZ h rfl rfl hj
theorem Ql(ok:dI P TT){o:Oper}{t:TypeId}{m k x:Operand}(ho:o.op=.mapUpdate t m k x∨o.op=.insert t m k x){ρ:Operand→AV}{σ:Hp}{K:AV→Hp→Prop}(h:A3 TT t (bU (ρ m)) (bU (ρ k)) (bU (ρ x)) σ K):kg P o ρ σ K:=by
 intro a F w hx aF next Q hn
 unfold A3 at h
 split at h
 ·rename_i z n v hz hk B1
  obtain⟨kt,et,h1,h2,h3⟩:=LB ok hz
  obtain⟨j,b,l,hm,hj,go⟩:=h
  have zN:m∈o.op.operands.toList∧k∈o.op.operands.toList∧x∈o.op.operands.toList:=by rcases ho with ho | ho <;> simp[ho,Op.operands]
  have a1:=(hx m zN.1).bU
  rw[hm]at a1
  have a2:=(hx k zN.2.1).bU
  rw[hk]at a2
  have a3:=(hx x zN.2.2).bU
  rw[B1]at a3
  have e1:a.eval m=.map (some b):=a1.Nh
  have e2:a.eval k=.int .i64 n:=a2.gJ
  have e3:a.eval x=.int .i64 v:=a3.gJ
  obtain⟨_,hb⟩:=(aF.holds _ (cx hj)).EF
  have fO:(execOp a.eval o).run P w=.ok .skip { w with heap:=w.heap.setIfInBounds b (.map (gr 0 (rV l n v)).toArray (rV l n v).length) }:=by
   rcases ho with ho | ho <;> simp[execOp,ho,e1,e2,e3,Yd h1 h2 hb n v,Result.andThen]
  unfold wq
  rw[fO]
  obtain⟨s1,s2⟩:=Y2 aF (l':=rV l n v) hj
  exact hn undef .any _ F _ s1 s2 (.any _) go
 ·exact h.elim
theorem LI:∀(l:List (Int×Int)) (m:Nat) (e:MapEntry),e∈gr m l→∃(i:Nat) (p:Int×Int),l[i]?=some p∧e = { key:=.int .i64 p.1,val:=.int .i64 p.2,born:=m+i }
 | [],_,_,h=>by cases h
 |p::l,m,e,h=>by
  rcases eB.1 h with rfl | h
  ·exact⟨0,p,rfl,rfl⟩
  ·obtain⟨i,q,h1,h2⟩:=LI l (m+1) e h
   exact⟨i+1,q,h1,by rw[h2];simp only[MapEntry.mk.injEq,true_and];omega⟩
theorem Tn{l:List (Int×Int)}{m i:Nat}{p:Int×Int}(h:l[i]?=some p):({ key:=.int .i64 p.1,val:=.int .i64 p.2,born:=m+i }:MapEntry)∈gr m l:=
 cx (i:=i) (by rw[L1,h];rfl)
theorem Rm:∀(l:List (Int×Int)) (m:Nat),((gr m l).map (·.born)).Nodup∧∀x∈(gr m l).map (·.born),m≤x
 | [],_=>⟨PL,fun _ h=>by cases h⟩
 |p::l,m=>by
  obtain⟨h1,h2⟩:=Rm l (m+1)
  refine⟨mE.2 ⟨fun hm=>?_,h1⟩,fun x hx=>?_⟩
  ·have:=h2 _ hm
   exact Nat.not_succ_le_self _ this
  ·rcases eB.1 hx with rfl | hx
   ·exact a8 _
   ·exact Nat.le_of_succ_le (h2 _ hx)
theorem XF(ok:dI P TT){o:Oper}{t:TypeId}{x:Operand}(ho:o.op=.range t x){ρ:Operand→AV}{σ:Hp}{K:AV→Hp→Prop}(h:H7 TT t (bU (ρ x)) σ K):kg P o ρ σ K:=by
 intro a F w hx aF next Q hn
 unfold H7 at h
 split at h
 ·rename_i z hz
  obtain⟨kt,et,h1,h2,h3⟩:=LB ok hz
  obtain⟨j,b,l,hm,hj,go⟩:=h
  have a1:=(hx x (by simp[ho,Op.operands])).bU
  rw[hm]at a1
  have e1:a.eval x=.map (some b):=a1.Nh
  obtain⟨_,hb⟩:=(aF.holds _ (cx hj)).EF
  have fO:(execOp a.eval o).run P w=.ok (.value (.pointer (some ⟨w.heap.size,0,none⟩))) (w.alloc (.mapIter (some b) l.length #[] l.length)):=by
   have e:=run_range_map (P:=P) w t kt et b _ _ h1 hb
   simp[execOp,ho,e1,e,Result.andThen]
  unfold wq
  rw[fO]
  have hold:∀k,k<w.heap.size→(w.alloc (.mapIter (some b) l.length #[] l.length)).heap[k]?=w.heap[k]?:=fun k hk=>Below.heap_alloc _ _ k hk
  have an:bH F w F (w.alloc (.mapIter (some b) l.length #[] l.length)):=yH aF.low rfl rfl rfl (by simp) hold
  have hr:=aF.same an hold
  have iz:(w.alloc (.mapIter (some b) l.length #[] l.length)).heap[w.heap.size]?=some (.mapIter (some b) l.length #[] l.length):=xp _ _
  refine hn _ (.nT w.heap.size) _ F _ an ⟨?_,fun p hm=>?_,hr.low⟩ (.nT _) (go _)
  ·simp only[pq,mE]
   refine⟨fun hm=>?_,aF.nodup⟩
   obtain⟨p,hp,e⟩:=dT.1 hm
   have:=(aF.holds p hp).lt
   omega
  ·rcases eB.1 hm with rfl | hm
   ·exact⟨fun hF=>Kc _ (aF.low _ hF),.inr (.inl ⟨_,_,rfl,iz,rfl⟩)⟩
   ·exact hr.holds p hm
 ·exact h.elim
theorem Y3{σ:Hp}{F:Nat→Prop}{w:World}(h:bu F w σ):bH F w F w.drew∧bu F w.drew σ:=by
 have an:bH F w F w.drew:=⟨rfl,rfl,rfl,a8 _,fun _ h=>h,fun _ _=>rfl,fun k d S fz hk=>⟨d,fz,hk,rfl⟩,Nat.le_succ _⟩
 exact⟨an,h.nodup,fun p hp=>(h.holds p hp).mono an rfl (h.holds p hp).1,h.low⟩
theorem XL{o:Oper}{x:Operand}(ho:o.op=.next x false){ρ:Operand→AV}{σ:Hp}{K:AV→Hp→Prop}(h:Na σ (bU (ρ x)) K):kg P o ρ σ K:=by
 intro a F w hx aF next Q hn
 obtain⟨j,j2,r,b,l,seen,hm,h1,h2,stop,go⟩:=h
 have a1:=(hx x (by simp[ho,Op.operands])).bU
 rw[hm]at a1
 have e1:a.eval x=.pointer (some ⟨r,0,none⟩):=a1.WX
 obtain⟨_,hr⟩:=(aF.holds _ (cx h1)).I2 rfl
 obtain⟨_,hb⟩:=(aF.holds _ (cx h2)).EF
 have ahi:∀x∈(gr 0 l).toArray.toList,x.born<l.length:=fun x hx=>by
  obtain⟨i,p,hi,rfl⟩:=LI l 0 x hx
  show 0+i<_
  have:=(ck.1 hi).1
  omega
 unfold wq
 rcases run_next_at (P:=P) w o.type r b l.length l.length seen.toArray _ _ hr hb ahi (a8 _) with ⟨hz,fO⟩ | ⟨e,he,w1,hw1,fO⟩
 ·have Ef:(execOp a.eval o).run P w=.ok (.value (.tuple #[.bool false])) w:=by simp[execOp,ho,e1,fO,Result.andThen]
  rw[Ef]
  refine hn _ (.tup [.bool false]) σ F w (bH.refl _ _) aF (.tup _ _ rfl fun i y hy=>?_) (stop fun i hi=>?_)
  ·match i,hy with
   | 0,hy=>cases hy;exact .bool _
   |i+1,hy=>simp at hy
  ·have hz:leftOf (gr 0 l).toArray seen.toArray = #[]:=KI hz
   unfold leftOf at hz
   rw[Array.filter_eq_empty_iff]at hz
   have:=hz _ (by simpa using Tn (m:=0) (List.getElem?_eq_getElem hi))
   simpa using this
 ·have Ef:(execOp a.eval o).run P w=.ok (.value (.tuple #[.bool true,e.key,e.val])) (Go.ChangeMaps.setBlock w1 r (.mapIter (some b) l.length (seen.toArray.push e.born) l.length)):=by simp[execOp,ho,e1,fO,Result.andThen]
  rw[Ef]
  unfold leftOf at he
  have Af:e∈gr 0 l∧e.born ∉ seen:=by simpa using he
  obtain⟨i,p,hi,rfl⟩:=LI l 0 e Af.1
  have hns:i ∉ seen:=by simpa using Af.2
  have hw:bH F w F w1∧bu F w1 σ:=by
   rcases hw1 with rfl | rfl
   ·exact⟨bH.refl _ _,aF⟩
   ·exact Y3 aF
  obtain⟨s1,s2⟩:=QZ (x':=.sK b l.length (seen++[i])) hw.2 rfl rfl h1
  have e2:(seen++[i]).toArray=seen.toArray.push (0+i):=by simp
  rw[e2]at s1 s2
  refine hn _ (.tup [.bool true,.int .i64 p.1,.int .i64 p.2]) _ F _ (hw.1.trans s1) s2 (.tup _ _ rfl fun k y hy=>?_) (go i p hi hns)
  match k,hy with
  | 0,hy=>cases hy;exact .bool _
  | 1,hy=>cases hy;exact .int _ _
  | 2,hy=>cases hy;exact .int _ _
  |k+3,hy=>simp at hy
theorem XH{o:Oper}{x:Operand}(ho:o.op=.entry x){ρ:Operand→AV}{σ:Hp}{K:AV→Hp→Prop}(h:ML σ (bU (ρ x)) K):kg P o ρ σ K:=by
 intro a F w hx aF next Q hn
 obtain⟨j,j2,r,b,i,l,p,seen,hm,h1,h2,h3,go⟩:=h
 have a1:=(hx x (by simp[ho,Op.operands])).bU
 rw[hm]at a1
 have e1:a.eval x=.pointer (some ⟨r,0,none⟩):=a1.WX
 obtain⟨_,hr⟩:=(aF.holds _ (cx h1)).I2 rfl
 obtain⟨_,hb⟩:=(aF.holds _ (cx h2)).EF
 have hr:w.heap[r]?=some (.mapIter (some b) l.length (seen.toArray.push (0+i)) l.length):=by
  rw[hr];simp
 have fO:=run_entry_at (P:=P) w r b l.length seen.toArray (gr 0 l).toArray l.length { key:=.int .i64 p.1,val:=.int .i64 p.2,born:=0+i } hr hb (by simpa using Tn (m:=0) h3) (by simpa using (Rm l 0).1)
 have Ef:(execOp a.eval o).run P w=.ok (.value (.tuple #[.int .i64 p.1,.int .i64 p.2])) w:=by simp[execOp,ho,e1,fO,Result.andThen]
 unfold wq
 rw[Ef]
 refine hn _ (.tup [.int .i64 p.1,.int .i64 p.2]) σ F w (bH.refl _ _) aF (.tup _ _ rfl fun k y hy=>?_) go
 match k,hy with
 | 0,hy=>cases hy;exact .int _ _
 | 1,hy=>cases hy;exact .int _ _
 |k+2,hy=>simp at hy
theorem Lx(ok:dI P TT){o:Oper}{ρ:Operand→AV}{σ:Hp}{K:AV→Hp→Prop}(h:ig P TT o.op ρ σ K):kg P o ρ σ K:=by
 have dd:fQ P TT o.op ρ σ (fun v=>K v σ)→kg P o ρ σ K:=fun h=>by
  obtain⟨v,h1,h2⟩:=GV ok h
  exact XN h2 h1
 generalize l4:o.op=op at h dd
 unfold ig at h
 split at h
 ·split at h
  ·rename_i cs hc;exact aaL l4 hc h
  ·exact h.elim
 ·split at h
  ·rename_i i hi;exact YJ ok l4 hi h
  ·exact h.elim
 ·split at h
  ·rename_i e sz rf z0 ht
   split at h
   ·rename_i i hi
    split at h
    ·rename_i cs hf fy gO
     exact Xz ok l4 ht rfl hi hf (cI fy) (cI gO) h
    ·exact h.elim
   ·exact h.elim
  ·exact h.elim
 ·split at h
  ·rename_i e sz rf z0 k n k' m ht hl hc
   split at h
   ·rename_i i hi
    exact XB ok l4 ht rfl hi hl hc h.fact h.go
   ·exact h.elim
  ·exact h.elim
 ·split at h
  ·rename_i i hi
   split at h
   ·rename_i b off hp;exact X7 ok l4 hi hp h
   ·exact h.elim
  ·exact h.elim
 ·split at h
  ·exact XM l4 h
  ·exact h.elim
 ·exact Ql ok (.inl l4) h
 ·exact Ql ok (.inr l4) h
 ·exact XF ok l4 h
 ·split at h
  ·exact XL l4 h
  ·exact h.elim
 ·exact XH l4 h
 ·rename_i args cF
  split at h
  ·rename_i s x t t' Nu W3
   obtain rfl:args = #[s,x]:=by cases args;simp_all
   obtain rfl:cF = #[t,t']:=by cases cF;simp_all
   split at h
   ·rename_i e s1 b1 z1 e' s2 b2 z2 ht nU
    split at h
    ·rename_i i hi;exact Gy (X1 ok l4 ht rfl nU rfl hi (ρ:=fun x=>bU (ρ x)) h)
    ·exact h.elim
   ·rename_i e s1 b1 z1 k' s2 b2 z2 ht nU
    split at h
    ·rename_i i hi;exact Gy (XR ok l4 ht rfl nU rfl hi (ρ:=fun x=>bU (ρ x)) h)
    ·exact h.elim
   ·exact h.elim
  ·exact h.elim
 ·rename_i args cF
  split at h
  ·rename_i s t Nu W3
   obtain rfl:args = #[s]:=by cases args;simp_all
   obtain rfl:cF = #[t]:=by cases cF;simp_all
   split at h
   ·rename_i e s1 b1 z1 ht
    split at h
    ·rename_i i hi;exact Gy (YE ok l4 ht rfl hi (ρ:=fun x=>bU (ρ x)) h)
    ·exact h.elim
   ·exact h.elim
  ·exact h.elim
 ·rename_i args cF
  split at h
  ·rename_i d x t t' Nu W3
   obtain rfl:args = #[d,x]:=by cases args;simp_all
   obtain rfl:cF = #[t,t']:=by cases cF;simp_all
   split at h
   ·rename_i e s1 b1 z1 e' s2 b2 z2 ht nU
    split at h
    ·rename_i i hi;exact Gy (Zw ok l4 ht rfl nU rfl hi (ρ:=fun x=>bU (ρ x)) h)
    ·exact h.elim
   ·exact h.elim
  ·exact h.elim
 ·exact dd h
 ·exact X0 l4 h
 ·exact dd h
def uj(F:Nat→Prop)(w:World)(t:Tm)(a:Act):Prop:=∀i,aA F w (t i) (a.tmps.getD i undef)
theorem uj.mono{F F':Nat→Prop}{w w':World}{t:Tm}{a:Act}(h:uj F w t a)(an:bH F w F' w'):uj F' w' t a:=fun i=>(h i).mono an
theorem uj.put{F:Nat→Prop}{w:World}{t:Tm}{a:Act}(h:uj F w t a){d:Option Tmp}{x:AV}{v:Value}(hx:aA F w x v)(hd:∀i,d=some i→i<a.tmps.size):uj F w (put t d x) (a.put d v):=by
 cases d with
 |none=>exact h
 |some d=>
  intro i
  show aA F w (match Nat.beq i d with | true=>x | false=>t i) ((a.tmps.setIfInBounds d v).getD i undef)
  have ey:=hd d rfl
  cases hb:Nat.beq i d with
  |true=>
   have:=jN hb
   subst this
   simpa [Array.getD,ey]using hx
  |false=>
   have aX:d≠i:=fun e=>by subst e;rw[yu]at hb;cases hb
   have:=h i
   rw[im]at this ⊢
   rw[KK aX]
   exact this
theorem py{F:Nat→Prop}{w:World}(v:Value):aA F w (Bd v) v:=by
 cases v with
 |int k n=>exact .int _ _
 |bool b=>exact .bool _
 |string s=>exact .str _
 |pointer a=>cases a <;> first | exact .cY | exact .any _
 |slice a l c=>cases a <;> cases l <;> cases c <;> first | exact .ai | exact .any _
 |nilIface=>exact .nilif
 |nilFunc=>exact .iT
 |map a=>cases a <;> first | exact .pR | exact .any _
 |_=>exact .any _
theorem TG{F:Nat→Prop}{w:World}{t:Tm}{a:Act}(x:Operand)(h:∀i,x=.tmp i→aA F w (t i) (a.tmps.getD i undef)):aA F w (ev t x) (a.eval x):=by
 cases x with
 |tmp i=>exact h i rfl
 |const v=>
  show aA F w (Wh v) v
  cases v with
  |agg cs=>
   show aA F w (match (cs.toList.map Bd).all AV.leaf with | true=>.agg (cs.toList.map Bd) | false=>.any) _
   split
   ·rename_i hl
    refine .agg _ _ (by simp) (fun i x hx=>?_) (fun i x hx=>?_)
    ·exact fK.1 hl x (cx hx)
    ·simp only[fm,wU]at hx
     obtain⟨v,hv,rfl⟩:=hx
     have ab:i<cs.size:=by have:=(List.getElem?_eq_some_iff.1 hv).1;simpa using this
     have:cs[i]=v:=by simpa [ab]using hv
     simpa [Array.getD,ab,this]using py v
   ·exact .any _
  |tuple vs=>
   show aA F w (match vs.toList with | []=>.tup [] | _=>.any) _
   split
   ·rename_i h0
    exact .tup _ _ (by simp at h0;simp[h0]) (fun i x h=>by simp at h)
   ·exact .any _
  |int k n=>exact py (.int k n)
  |bool b=>exact py (.bool b)
  |string x=>exact py (.string x)
  |float k b=>exact py (.float k b)
  |complex k b c=>exact py (.complex k b c)
  |pointer x=>exact py (.pointer x)
  |slice x l c=>exact py (.slice x l c)
  |map x=>exact py (.map x)
  |chan x=>exact py (.chan x)
  |func f x y=>exact py (.func f x y)
  |nilFunc=>exact py .nilFunc
  |iface t x=>exact py (.iface t x)
  |nilIface=>exact py .nilIface
 |global g=>exact .any _
 |func f=>exact .fn _ _ _ _ _ rfl rfl (fun i x h=>by simp at h) (fun i x h=>by simp at h)
theorem uj.eval{F:Nat→Prop}{w:World}{t:Tm}{a:Act}(h:uj F w t a)(x:Operand):aA F w (ev t x) (a.eval x):=TG x fun i _=>h i
end
section
variable {P:Program} {TT:TypeId→Option TI}
structure Marks(B:Nat)(F:Nat→Prop)(w:World)(ds:List Deferred):Prop where
 low:B≤w.heap.size
 nodup:ds.Nodup
 is:∀d∈ds,∃D,d = { target:=.collected D,args:= #[] }∧B≤D∧F D∧w.heap[D]?=some (.deferred (some []))
theorem Marks.mono{B:Nat}{F F':Nat→Prop}{w w':World}{ds:List Deferred}(h:Marks B F w ds)(an:bH F w F' w'):Marks B F' w' ds:=
 ⟨eH h.low an.size,h.nodup,fun d hd=>by
  obtain⟨D,h1,h2,h3,h4⟩:=h.is d hd
  exact⟨D,h1,h2,an.sub D h3,(an.fix D h3).trans h4⟩⟩
structure dx(B n:Nat)(F:Nat→Prop)(w:World)(t:Tm)(σ:Hp)(a:Act):Prop where
 tm:uj F w t a
 hp:bu F w σ
 size:n≤a.tmps.size
 defers:Marks B F w a.defers
theorem S1(a:Act)(d:Option Tmp)(v:Value):(a.put d v).tmps.size=a.tmps.size:=by cases d <;> simp[Act.put]
theorem Ur(a:Act)(d:Option Tmp)(v:Value):(a.put d v).defers=a.defers:=by cases d <;> rfl
theorem dx.put{B n:Nat}{F F':Nat→Prop}{w w':World}{t:Tm}{σ σ':Hp}{a:Act}(h:dx B n F w t σ a)(an:bH F w F' w')(hp:bu F' w' σ'){d:Option Tmp}{x:AV}{v:Value}(hx:aA F' w' x v)(hd:∀i,d=some i→i<n):dx B n F' w' (put t d x) σ' (a.put d v):=
 ⟨(h.tm.mono an).put hx (fun i e=>sl (hd i e) h.size),hp,by rw[S1];exact h.size,by rw[Ur];exact h.defers.mono an⟩
theorem Ti{F:Nat→Prop}{w:World}{σ:Hp}(h:bu F w σ){i b':Nat}{cs kT:List AV}(hi:σ[i]?=some (b',cs))(hl:kT.length=cs.length)(hk:∀(k:Nat) (x y:AV),cs[k]?=some x→kT[k]?=some y→x=y∨(x=.ai∧∃e:Sh,y=.ae e [])):bu F w (σ.set i (b',kT)):=by
 refine⟨?_,fun p hp=>?_,h.low⟩
 ·have e1:(σ.set i (b',kT)).map Prod.fst=σ.map Prod.fst:=by
   rw[oc]
   refine List.ext_getElem (by simp) fun j h1 h2=>?_
   rw[F5]
   split
   ·rename_i hj;subst hj
    have:=ck.1 hi
    obtain⟨q1,q2⟩:=this
    rw[Cr,q2]
   ·rfl
  rw[e1];exact h.nodup
 ·rcases qh hp with hp | rfl
  ·exact h.holds p hp
  ·have hh:=h.holds _ (cx hi)
   by_cases hn:∃k:Nat,cs[k]?=some AV.ai
   ·obtain⟨k,kQ⟩:=hn
    obtain⟨h1,c,T,h2,h3,h4⟩:=hh.Nl kQ rfl
    refine⟨h1,.inl ⟨c,T,h2,by rw[hl];exact h3,fun j y hy=>?_⟩⟩
    have hj:j<cs.length:=by rw[← hl];exact (ck.1 hy).1
    have hx:=bh hj
    obtain⟨q1,q2⟩:=h4 j _ hx
    rcases hk j _ _ hx hy with e | ⟨e,e',rfl⟩
    ·rw[← e];exact⟨q1,q2⟩
    ·rw[e]at q2
     refine⟨rfl,?_⟩
     revert q2;generalize c.getD j undef=u;intro q2;cases q2
     exact .ae e' [] _ ⟨none,0,rfl,a8 _,bA _,(fun _=>rfl),fun aX=>absurd rfl aX⟩
   ·have e:kT=cs:=by
     refine As hl fun j h1 h2=>?_
     rcases hk j _ _ (bh h2) (bh h1) with e | ⟨e,_⟩
     ·exact e.symm
     ·exact absurd ⟨j,(bh h2).trans (congrArg some e)⟩ hn
    rw[e];exact hh
theorem UF{F:Nat→Prop}{w:World}{σ:Hp}(h:bu F w σ){i b' k:Nat}{cs':List AV}(e:Sh)(hi:σ[i]?=some (b',cs'))(hk:cs'[k]?=some .ai):bu F w (σ.set i (b',cs'.set k (.ae e []))):=
 Ti h hi (by simp) fun j x y hx hy=>by
  rw[fj]at hy
  split at hy
  ·rename_i hj;subst hj
   split at hy
   ·rw[hk]at hx;cases hx;cases hy;exact .inr ⟨rfl,e,rfl⟩
   ·cases hy
  ·rw[hx]at hy;cases hy;exact .inl rfl
theorem bu.dO{F:Nat→Prop}{w:World}{σ σ':Hp}(h:bu F w σ)(hs:jv σ σ'):bu F w σ':=by
 induction hs with
 |refl=>exact h
 |pull js _ ih=>exact ih (h.perm (yN js _))
 |perm hp _ ih=>exact ih (h.perm hp)
 |ahT i b' cs kT hi hl hk _ ih=>exact ih (Ti h hi hl hk)
 | @drop k n σ σ2 _ ih=>
  refine ih (h.sub ?_)
  have h1:(σ.drop (k+n)).Sublist (σ.drop k):=by
   rw[← FU]
   exact List.drop_sublist _ _
  have h2:=(List.Sublist.refl (σ.take k)).append h1
  rwa [CB]at h2
theorem dx.dO{B n:Nat}{F:Nat→Prop}{w:World}{t:Tm}{σ σ':Hp}{a:Act}(h:dx B n F w t σ a)(hs:jv σ σ'):dx B n F w t σ' a:=⟨h.tm,h.hp.dO hs,h.size,h.defers⟩
def vk(ops:List Oper)(o:Oper)(t:Tm)(b:Bool):Prop:=
 (o.guard=none∧b=true)∨∃j want d x,o.guard=some (j,want)∧(ops[j]?).bind (·.dst)=some d∧((t d=.bool x∧b=(x == want))∨(t d=.tup []∧b=false))
theorem yQ{ops:List Oper}{o:Oper}{t:Tm}{A B:Prop}(h:pH ops o t A B):(vk ops o t true∧A)∨(vk ops o t false∧B):=by
 unfold pH at h
 split at h
 ·rename_i hg
  exact .inl ⟨.inl ⟨hg,rfl⟩,h⟩
 ·rename_i j want hg
  split at h
  ·rename_i d hd
   split at h
   ·rename_i b hb
    cases want <;> cases b
    ·exact .inl ⟨.inr ⟨j,_,d,_,hg,hd,.inl ⟨hb,rfl⟩⟩,h⟩
    ·exact .inr ⟨.inr ⟨j,_,d,_,hg,hd,.inl ⟨hb,rfl⟩⟩,h⟩
    ·exact .inr ⟨.inr ⟨j,_,d,_,hg,hd,.inl ⟨hb,rfl⟩⟩,h⟩
    ·exact .inl ⟨.inr ⟨j,_,d,_,hg,hd,.inl ⟨hb,rfl⟩⟩,h⟩
   ·rename_i hb
    exact .inr ⟨.inr ⟨j,_,d,false,hg,hd,.inr ⟨hb,rfl⟩⟩,h⟩
   ·exact h.elim
  ·exact h.elim
theorem yK{F:Nat→Prop}{w:World}:aA F w (.tup []) undef:=.tup _ _ rfl (fun i x h=>by simp at h)
theorem ZS{F:Nat→Prop}{w:World}{u:Value}(h:aA F w (.tup []) u):u=.tuple #[]:=by
 cases h with
 |tup _ vs hs h=>rw[Gd.1 hs.symm]
theorem GP{ops:List Oper}{o:Oper}{t:Tm}{a:Act}{b:Bool}(h:vk ops o t b)(hr:∀d,(∃j want,o.guard=some (j,want)∧(ops[j]?).bind (·.dst)=some d)→∃F w,aA F w (t d) (a.tmps.getD d undef)):Region.wanted o (yielded ops.toArray a.tmps)=b:=by
 rcases h with ⟨hg,rfl⟩ | ⟨j,want,d,x,hg,h1,⟨h2,rfl⟩ | ⟨h2,rfl⟩⟩
 ·simp[Region.wanted,hg]
 ·obtain⟨F,w,h3⟩:=hr d ⟨j,want,hg,h1⟩
  rw[h2]at h3
  have h3:=h3.rQ
  have h4:a.tmps[d]?=some (.bool x):=by
   rw[im]at h3
   cases hq:a.tmps[d]? with
   |none=>rw[hq]at h3;simp[undef]at h3
   |some v=>rw[hq]at h3;simpa using h3
  have h5:yielded ops.toArray a.tmps j=some x:=by
   unfold yielded
   simp only[Ap,h1,Option.bind_some,h4]
  simp[Region.wanted,hg,h5]
 ·obtain⟨F,w,h3⟩:=hr d ⟨j,want,hg,h1⟩
  rw[h2]at h3
  have h3:=ZS h3
  have h5:yielded ops.toArray a.tmps j=none:=by
   unfold yielded
   simp only[Ap,h1,Option.bind_some]
   rw[im]at h3
   cases hq:a.tmps[d]? with
   |none=>rfl
   |some v=>rw[hq]at h3;simp at h3;rw[h3]
  simp[Region.wanted,hg,h5]
theorem Lg(ok:dI P TT){B n:Nat}{ops:List Oper}{Q:Exit→Act→World→Prop}:∀(l:List Oper) (t:Tm) (σ:Hp) (K:Tm→Hp→Prop) (F:Nat→Prop) (w:World) (a:Act),(∀o∈l,∀d,o.dst=some d→d<n)→WR P TT ops l t σ K→dx B n F w t σ a→
  (∀t' σ' F' w' a',bH F w F' w'→dx B n F' w' t' σ' a'→K t' σ'→Q .normal a' w')→xF P ops.toArray Q l a w
 | [],t,σ,K,F,w,a,_,h,hs,hq=>hq t σ F w a (.refl _ _) hs h
 |o::l,t,σ,K,F,w,a,hd,h,hs,hq=>by
  have hw:∀{b:Bool},vk ops o t b→Region.wanted o (yielded ops.toArray a.tmps)=b:=fun hg=>GP hg fun d _=>⟨F,w,hs.tm d⟩
  rcases yQ h with ⟨hg,h⟩ | ⟨hg,h⟩
  ·unfold xF
   rw[ah (hw hg)]
   refine (Lx ok h a F w (fun x _=>hs.tm.eval x) hs.hp _ Q ?_)
   intro v av σ' F' w' h1 h2 h3 h4
   exact Lg ok l _ σ' K F' w' _ (fun o ho=>hd o (dp _ ho)) h4 (hs.put h1 h2 h3 (hd o (cj ..))) (fun t' kG oq mu a' k1 k2 k3=>hq t' kG oq mu a' (h1.trans k1) k2 k3)
  ·unfold xF
   rw[if_neg (by rw[hw hg];simp)]
   exact Lg ok l _ σ K F w _ (fun o ho=>hd o (dp _ ho)) h (hs.put (.refl _ _) hs.hp yK (hd o (cj ..))) hq
def Nb(P:Program)(o:Oper)(ρ:Operand→AV)(σ:Hp)(v:AV):Prop:=
 ∀(a:Act) (F:Nat→Prop) (w:World),(∀x∈o.op.operands.toList,aA F w (ρ x) (a.eval x))→bu F w σ→∀(next:Act→World→Prop) (Q:Exit→Act→World→Prop),
  (∀u F' w',bH F w F' w'→bu F' w' σ→aA F' w' v u→next (a.put o.dst u) w')→wq P o a w next Q
theorem RV(ok:dI P TT){o:Oper}{ρ:Operand→AV}{σ:Hp}{K:AV→Prop}(h:we P TT o.op ρ σ K):∃v,K v∧Nb P o ρ σ v:=by
 have dd:fQ P TT o.op ρ σ K→∃v,K v∧Nb P o ρ σ v:=fun h=>by
  obtain⟨v,h1,h2⟩:=GV ok h
  refine⟨v,h1,fun a F w hx aF next Q hn=>?_⟩
  obtain⟨v',h3,h4⟩:=h2 a.eval F w o rfl hx aF
  unfold wq
  rw[h3]
  exact hn v' F w (.refl _ _) aF h4
 generalize l4:o.op=op at h dd
 unfold we at h
 split at h
 ·exact dd h
 ·obtain⟨_,_,h,_⟩ | ⟨f,xs,hc,fO⟩:=Qp l4 h
  ·exact h.elim
  cases hc with
  |mk js r call go=>
   obtain⟨oS,hG⟩:=call
   refine⟨r,go,fun a F w hx aF next Q hn=>?_⟩
   obtain⟨vs,bR,hr⟩:=fO a.eval F w hx
   unfold wq
   rw[hr oS]
   refine (hG F w vs bR (aF.perm (yN js σ))).mono ?_
   rintro e w' ⟨r',v,σ',F',rfl,h1,h2,h3,rfl,rfl⟩
   exact⟨v,rfl,hn v F' w' h1 (h2.perm (yN js σ).symm) h3⟩
  |perm hp r call go=>
   obtain⟨oS,hG⟩:=call
   refine⟨r,go,fun a F w hx aF next Q hn=>?_⟩
   obtain⟨vs,bR,hr⟩:=fO a.eval F w hx
   unfold wq
   rw[hr oS]
   refine (hG F w vs bR (aF.perm hp)).mono ?_
   rintro e w' ⟨r',v,σ',F',rfl,h1,h2,h3,rfl,nY⟩
   exact⟨v,rfl,hn v F' w' h1 (h2.perm (hp.symm.trans nY)) h3⟩
 ·exact dd h
end
end Go.Proofs.YtnikdflhefijbaaGreat
