import Derived.Deep.AppendSrc
import Derived.Deep.Upon
import Derived.Great.BuildSlice
import Derived.Maps.RangeRun
import Derived.Orders
import Derived.Test.YtnikdflhefijbaaGreatBs2
namespace Go.Proofs.YtnikdflhefijbaaGreat
open Go.RowKit
section
variable {P:Program} {TT:TypeId→Option TI} {F F':Nat→Prop} {w w':World}
theorem Holds.mono{b:Nat}{cs:List AV}(h:Holds F w b cs)(aq:bH F w F' w')(hb:w'.heap[b]?=w.heap[b]?)(hF:¬F' b):Holds F' w' b cs:=by
 obtain⟨_,⟨c,T,h1,h2,h3⟩ | ⟨x,o,h1,h2,h3⟩ | ⟨L,t,h1,h2,h3⟩⟩:=h
 ·exact⟨hF,.inl ⟨c,T,hb.trans h1,h2,fun i x hx=>⟨(h3 i x hx).1,(h3 i x hx).2.mono aq⟩⟩⟩
 ·exact⟨hF,.inr (.inl ⟨x,o,h1,hb.trans h2,h3⟩)⟩
 ·exact⟨hF,.inr (.inr ⟨L,t,h1,hb.trans h2,fun i=>(h3 i).mono aq⟩)⟩
theorem Holds.lt{b:Nat}{cs:List AV}(h:Holds F w b cs):b<w.heap.size:=by
 obtain⟨_,⟨_,_,h1,_⟩ | ⟨_,_,_,h1,_⟩ | ⟨_,_,_,h1,_⟩⟩:=h
 ·exact tb h1
 ·exact tb h1
 ·exact tb h1
theorem bA.perm{σ σ':Hp}(h:bA F w σ)(hp:σ'.Perm σ):bA F w σ':=
 ⟨((hp.map Prod.fst).nodup_iff).2 h.nodup,fun p hm=>h.holds p (hp.mem_iff.1 hm),h.low⟩
theorem bA.sub{σ σ':Hp}(h:bA F w σ)(hs:σ'.Sublist σ):bA F w σ':=
 ⟨h.nodup.sublist (hs.map _),fun p hm=>h.holds p (hs.subset hm),h.low⟩
theorem xG:∀(σ:Hp) (i:Nat) (p:Nat×List AV),σ[i]?=some p→(p::σ.eraseIdx i).Perm σ
 | [],i,p,h=>by simp at h
 |q::σ,0,p,h=>by simp at h;subst h;exact List.Perm.refl _
 |q::σ,i+1,p,h=>(List.Perm.swap q p _).trans (.cons q (xG σ i p (by simpa using h)))
theorem XX(i:Nat)(σ:Hp):(pull i σ).Perm σ:=by
 unfold pull;split
 ·rename_i p h
  exact xG σ i p h
 ·exact List.Perm.refl _
theorem xM:∀(js:List Nat) (σ:Hp),(nG js σ).Perm σ
 | [],_=>List.Perm.refl _
 |i::r,σ=>(XX i _).trans (xM r σ)
theorem xJ(oX:∀b,F b→b<w.heap.size)(ho:w'.os=w.os)(ht:w'.tape=w.tape)(hu:w'.output=w.output)(hs:w.heap.size≤w'.heap.size)(hb:∀b,b<w.heap.size→w'.heap[b]?=w.heap[b]?)(hd:w.drawn≤w'.drawn:=by first | exact bg _ | exact Nat.le_succ _ | exact Nat.le_add_right _ _):bH F w F w':=
 ⟨ho,ht,hu,hs,fun _ h=>h,fun b h=>hb b (oX b h),fun b c _ fz h=>⟨c,fz,(hb b (tb h)).trans h,rfl⟩,hd⟩
theorem bA.same{σ:Hp}(h:bA F w σ)(aq:bH F w F w')(hb:∀b,b<w.heap.size→w'.heap[b]?=w.heap[b]?):bA F w' σ:=
 ⟨h.nodup,fun p hm=>(h.holds p hm).mono aq (hb _ (h.holds p hm).lt) (h.holds p hm).1,fun b hF=>tN (h.low b hF) aq.size⟩
theorem N9{σ:Hp}(h:bA F w σ){c:Array Value}{T:TypeId}{cs:List AV}(hl:cs.length≤c.size)(hc:∀(i:Nat) (x:AV),cs[i]?=some x→x.leaf=true∧aD F w x (c.getD i undef)){w0:World}(e0:w0=w∨w0=w.drew):
  bH F w F (w0.alloc (.cells c T))∧bA F (w0.alloc (.cells c T)) ((w.heap.size,cs)::σ):=by
 have hold:∀b,b<w.heap.size→(w0.alloc (.cells c T)).heap[b]?=w.heap[b]?:=fun b hb=>by rcases e0 with rfl | rfl <;> exact Below.heap_alloc _ _ b (by simpa using hb)
 have aq:bH F w F (w0.alloc (.cells c T)):=by
  rcases e0 with rfl | rfl
  ·exact xJ h.low rfl rfl rfl (by simp) hold
  ·exact xJ h.low rfl rfl rfl (by simp) hold
 have hr:=h.same aq hold;have fP:(w0.alloc (.cells c T)).heap[w.heap.size]?=some (.cells c T (0,0)):=by rcases e0 with rfl | rfl <;> exact wh _ _
 refine⟨aq,⟨?_,fun p hm=>?_,hr.low⟩⟩
 ·simp only[pn,mD];refine⟨fun hm=>?_,h.nodup⟩;obtain⟨p,hp,e⟩:=eW.1 hm;have:=(h.holds p hp).lt;omega
 ·rcases dW.1 hm with rfl | hm
  ·exact⟨fun hF=>HH _ (h.low _ hF),.inl ⟨c,T,fP,hl,fun i x hx=>⟨(hc i x hx).1,(hc i x hx).2.mono aq⟩⟩⟩
  ·exact hr.holds p hm
theorem zg{σ:Hp}(h:bA F w σ){j b:Nat}{cs cs':List AV}(hj:σ[j]?=some (b,cs)){c c':Array Value}{T:TypeId}(hc:w.heap[b]?=some (.cells c T (0,0)))(dG:c'.size=c.size)(hl:cs'.length≤c'.size)
  (hr:∀(i:Nat) (x:AV),cs'[i]?=some x→x.leaf=true∧aD F w x (c'.getD i undef)) (hw:∀k,k≠b→w'.heap[k]?=w.heap[k]?) (Hl:w'.heap[b]?=some (.cells c' T (0,0))) (ho:w'.os=w.os) (ht:w'.tape=w.tape) (hu:w'.output=w.output) (hs:w'.heap.size=w.heap.size) (hd:w.drawn≤w'.drawn:=by first | exact bg _ | exact Nat.le_succ _ | exact Nat.le_add_right _ _) :
  bH F w F w'∧bA F w' (σ.set j (b,cs')):=by
 have hb:=(h.holds (b,cs) (dz hj)).1;have ab:j<σ.length:=(cW.1 hj).1
 have aq:bH F w F w':=⟨ho,ht,hu,by omega,fun _ h=>h,fun k hF=>hw k (fun e=>hb (e▸hF)),fun k d S fz hk=>by
  by_cases e:k=b
  ·subst e;rw[hc]at hk;cases hk;exact⟨c',(0,0),Hl,dG⟩
  ·exact⟨d,fz,(hw k e).trans hk,rfl⟩,hd⟩
 have Cn:(σ.set j (b,cs')).map Prod.fst=σ.map Prod.fst:=by
  rw[sB];apply yW;intro k;rw[gQ];split
  ·rename_i e;subst e
   simp[ab];have:=(cW.1 hj).2;rw[this]
  ·rfl
 refine⟨aq,⟨Cn▸h.nodup,fun p hm=>?_,fun k hF=>by rw[hs];exact h.low k hF⟩⟩;obtain⟨k,hk⟩:=yZ.1 hm;rw[gQ]at hk;split at hk
 ·rename_i e;subst e
  simp at hk;obtain⟨_,rfl⟩:=hk;exact⟨hb,.inl ⟨c',T,Hl,hl,fun i x hx=>⟨(hr i x hx).1,(hr i x hx).2.mono aq⟩⟩⟩
 ·rename_i bf
  have aW:=dz hk
  have qm:p.1≠b:=by
   intro e;have cm:=h.nodup;have h1:(σ.map Prod.fst)[k]?=some b:=by rw[List.getElem?_map,hk];simp[e]
   have h2:(σ.map Prod.fst)[j]?=some b:=by rw[fD,hj];rfl
   have gw:k<(σ.map Prod.fst).length:=(cW.1 h1).1;have:=(List.getElem?_inj (i:=k) (j:=j) gw cm).1 (h1.trans h2.symm);exact bf this.symm
  exact (h.holds p aW).mono aq (hw _ qm) (h.holds p aW).1
theorem QA(z:List AV):∀(n j:Nat),j<n*z.length→(cP z n)[j]?=z[j % z.length]?
 | 0,j,h=>by simp at h
 |n+1,j,h=>by
  unfold cP
  by_cases hj:j<z.length
  ·rw[ku hj,vI hj]
  ·have e:(n+1)*z.length=n*z.length+z.length:=rD n z.length;rw[iL (by omega),QA z n (j-z.length) (by omega)];rw[Nat.mod_eq_sub_mod (a:=j) (b:=z.length) (by omega)]
theorem vP(z:List AV)(n:Nat):(cP z n).length=n*z.length:=by
 induction n with
 |zero=>simp[cP]
 |succ n ih=>simp[cP,ih,Nat.succ_mul];omega
theorem E9{i:TI}{z:Value}(hz:pM i.zero z.cells.toList=true){n m:Nat}(Dp:n≤m):(cP i.zero n).length≤(madeCells z.cells (m*i.zero.length)).size∧∀(k:Nat) (x:AV),(cP i.zero n)[k]?=some x→x.leaf=true∧aD F w x ((madeCells z.cells (m*i.zero.length)).getD k undef):=by
 obtain⟨h1,h2⟩:=vZ (F:=F) (w:=w) hz;have hle:n*i.zero.length≤m*i.zero.length:=nt _ Dp;refine⟨by rw[vP,size_madeCells];exact hle,fun k x hx=>?_⟩;have hk:k<n*i.zero.length:=by rw[← vP];exact (cW.1 hx).1
 rw[QA _ _ _ hk]at hx;obtain⟨h3,h4⟩:=h2 _ x hx;refine⟨h3,?_⟩;have ab:k<m*i.zero.length:=by omega
 have th:0<i.zero.length:=by
  rcases px i.zero.length with h0 | h0
  ·rw[h0]at hk;omega
  ·exact h0
 have Li:k % i.zero.length<z.cells.size:=by rw[← h1];exact tL _ th
 rw[h1]at h4 ab;rw[h1]at Li;simpa [madeCells,Array.getD,ab,h1,Li,Nat.mod_lt _ (h1▸th)]using h4
end
section
variable {P:Program} {TT:TypeId→Option TI} {F F':Nat→Prop} {w w':World}
def jW(P:Program)(o:Oper)(ρ:Operand→AV)(σ:Hp)(K:AV→Hp→Prop):Prop:=
 ∀(a:Act) (F:Nat→Prop) (w:World),(∀x∈o.op.operands.toList,aD F w (ρ x) (a.eval x))→bA F w σ→∀(next:Act→World→Prop) (Q:Exit→Act→World→Prop),
  (∀v av σ' F' w',bH F w F' w'→bA F' w' σ'→aD F' w' av v→K av σ'→next (a.put o.dst v) w')→wq P o a w next Q
theorem Vh{o:Oper}{ρ:Operand→AV}{σ:Hp}{K:AV→Hp→Prop}{v:AV}(h:C4 P o.op ρ σ v)(hk:K v σ):jW P o ρ σ K:=by
 intro a F w hx aG next Q hn;obtain⟨v',h1,h2⟩:=h a.eval F w o rfl hx aG;unfold wq;rw[h1];exact hn v' v σ F w (.refl _ _) aG h2 hk
theorem EA{o:Oper}{ρ:Operand→AV}{σ:Hp}{K:AV→Hp→Prop}{cs:List AV}{mk:Nat→AV}(hk:∀b,K (mk b) ((b,cs)::σ))
  (h:∀(η:Operand→Value) (F:Nat→Prop) (w:World),(∀x∈o.op.operands.toList,aD F w (ρ x) (η x))→∃(c:Array Value) (T:TypeId) (v:Value),(execOp η o).run P w=.ok (.value v) (w.alloc (.cells c T))∧cs.length≤c.size∧(∀(i:Nat) (x:AV),cs[i]?=some x→x.leaf=true∧aD F w x (c.getD i undef))∧aD F (w.alloc (.cells c T)) (mk w.heap.size) v):jW P o ρ σ K:=by
 intro a F w hx aG next Q hn;obtain⟨c,T,v,h1,h2,h3,h4⟩:=h a.eval F w hx;unfold wq;rw[h1];obtain⟨aq,hr⟩:=N9 aG (T:=T) h2 h3 (w0:=w) (.inl rfl);exact hn v _ _ F _ aq hr h4 (hk _)
theorem Vk{x:AV}{v:Value}{cs:List AV}(h:aD F w x v)(hc:x.cells?=some cs):cs.length≤v.cells.size∧∀(i:Nat) (x:AV),cs[i]?=some x→x.leaf=true∧aD F w x (v.cells.getD i undef):=by
 obtain⟨h1,h2⟩:=IN h hc;exact⟨by omega,h2⟩
theorem YL{o:Oper}{e:TypeId}{x:Operand}(ho:o.op=.box e x){ρ:Operand→AV}{σ:Hp}{K:AV→Hp→Prop}{cs:List AV}(hc:(ρ x).cells?=some cs)(hk:∀b,K (.ptr b 0) ((b,cs)::σ)):jW P o ρ σ K:=
 EA hk fun η F w hx=>by
  have h1:=hx x (by simp[ho,Op.operands]);obtain⟨h2,h3⟩:=Vk h1 hc;exact⟨(η x).cells,e,.pointer (some ⟨w.heap.size,0,none⟩),by simp[execOp,ho,Instr.box,newVar,newRow],h2,h3,.ptr _ _ ⟨_,_,_,wh _ _⟩⟩
theorem We(ok:dP P TT){o:Oper}{e:TypeId}(ho:o.op=.alloc e){ρ:Operand→AV}{σ:Hp}{K:AV→Hp→Prop}{i:TI}(hi:TT e=some i)(hk:∀b,K (.ptr b 0) ((b,i.zero)::σ)):jW P o ρ σ K:=
 EA hk fun η F w hx=>by
  obtain⟨j,d,z,hj,hd,_,_,_,hz,gN⟩:=dF ok hi;obtain⟨h1,h2⟩:=vZ (F:=F) (w:=w) gN;exact⟨z.cells,e,.pointer (some ⟨w.heap.size,0,none⟩),by simp[execOp,ho,Instr.alloc,newVar,newRow,zeroValue,typeInfo,hj,hz],by omega,h2,.ptr _ _ ⟨_,_,_,wh _ _⟩⟩
theorem U4(ok:dP P TT){o:Oper}{t e:TypeId}{len:Nat}{parts:Array (Nat×Operand)}(ho:o.op=.buildSlice t len parts){ρ:Operand→AV}{σ:Hp}{K:AV→Hp→Prop}{it i:TI}(ht:TT t=some it)(gw:it.k=.slice e)(hi:TT e=some i){cs:List AV}
  (hf:rY ((List.range len).map fun j=>(j*i.size,i.size)) (cP i.zero len) (parts.toList.map fun p=>(p.1,ρ p.2))=some cs) (dG:len*i.size≤16777216) (th:1≤i.size) (hk:∀b,K (.af b 0 len i.size) ((b,cs)::σ)):jW P o ρ σ K:=
 EA hk fun η F w hx=>by
  obtain⟨_,d,_,_,hd,_,_,jJ,_,_⟩:=dF ok ht;rw[gw]at jJ;obtain rfl:=jN jJ;obtain⟨j,d',z,hj,j6,hs,⟨_,n9⟩,_,hz,gN⟩:=dF ok hi;obtain⟨hl,hr⟩:=Pz (parts:=parts) (ρ:=ρ) (η:=η) (F:=F) (w:=w) (by simpa [ho,Op.operands]using hx);have gX:z.cells.size=j.size:=by have:=(vZ (F:=F) (w:=w) gN).1;omega
  obtain⟨m1,m2⟩:=E9 (F:=F) (w:=w) gN (bg len);have rp:o0 F w (cP i.zero len) (madeCells z.cells (len*i.zero.length)):=⟨by rw[vP,size_madeCells],m2⟩
  rw[n9,← hs]at rp
  obtain⟨eG,f1,f2⟩:=Fh (place:=fun k=>some (k*j.size,j.size)) (fun k p hk=>by
   obtain⟨a,ha,rfl⟩:=cW.1 hk
   simp[hs]) _ _ _ _ _ hl hr rp hf
  have af4:eG.size=len*j.size:=by
   have e1:∀(us:List (Nat×AV)) (xs out:List AV),rY ((List.range len).map fun j=>(j*i.size,i.size)) xs us=some out→out.length=xs.length:=by
    intro us
    induction us with
    |nil=>intro xs out h;simp[rY]at h;subst h;rfl
    |cons p us ih=>
     intro xs out h;obtain⟨q,v⟩:=p;simp only[rY]at h;split at h
     ·split at h
      ·rw[ih _ _ h,za]
      ·cases h
     ·cases h
   have:=e1 _ _ _ hf;rw[vP]at this;have h3:=f2.1;rw[n9,← hs]at this;omega
  refine⟨eG,e,.slice (some ⟨w.heap.size,0,none⟩) len len,?_,by have:=f2.1;omega,f2.2,.af _ _ _ _ _ _ ⟨eG,e,(0,0),wh _ _,bg _,?_,.inl ⟨rfl,by rw[af4,hs];omega⟩⟩⟩
  ·by_cases h0:len*j.size=0
   ·have:eG = #[]:=D9.1 (by omega);subst this
    have f1':Instr.fill (fun k=>some (k*j.size,j.size)) #[] (parts.map fun (i,x)=>(i,η x)).toList=some #[]:=by
     have e0:madeCells z.cells (len*j.size) = #[]:=by rw[h0];simp[madeCells,Array.range_zero']
     rw[e0]at f1;exact f1
    simp only[execOp,ho,Instr.buildSlice,Sem.run_bind,run_underlying hd,Result.andThen_ok,run_sizeOf hj,h0,if_true,Sem.run_pure,Nat.reducePow,if_false,vH,gt_iff_lt];rw[show ((Array.range 0).map fun x=>(#[]:Array Value)[x % (#[]:Array Value).size]!) = #[] by simp[Array.range_zero'],f1'];rfl
   ·simp only[execOp,ho,Sem.run_bind,run_buildSlice w t e len _ eG j z hd hj hz (by rw[hs];omega) h0 f1];rfl
  ·have:len≤len*i.size:=Nat.le_mul_of_pos_right _ th;unfold maxLen;omega
theorem U5(ok:dP P TT){o:Oper}{t e:TypeId}{l c:Operand}(ho:o.op=.makeSlice t l c){ρ:Operand→AV}{σ:Hp}{K:AV→Hp→Prop}{it i:TI}(ht:TT t=some it)(gw:it.k=.slice e)(hi:TT e=some i){k k':IntKind}{n m:Int}(hl:ρ l=.int k n)(hc:ρ c=.int k' m)
  (h0:0≤n∧n≤m∧m≤1048576∧i.bytes≤1024) (hk:∀b,K (.af b 0 n.toNat i.size) ((b,cP i.zero n.toNat)::σ)):jW P o ρ σ K:=
 EA hk fun η F w hx=>by
  obtain⟨_,d,_,_,hd,_,_,jJ,_,_⟩:=dF ok ht;rw[gw]at jJ;obtain rfl:=jN jJ;obtain⟨j,d',z,hj,j6,hs,⟨hb,n9⟩,_,hz,gN⟩:=dF ok hi;have h1:=hx l (by simp[ho,Op.operands]);rw[hl]at h1;have h2:=hx c (by simp[ho,Op.operands]);rw[hc]at h2;obtain⟨m1,m2⟩:=E9 (F:=F) (w:=w) gN (show n.toNat≤m.toNat by omega);rw[n9,← hs]at m1 m2
  have sq:(j.bytes:Int)*m≤281474976710656:=by
   have:(j.bytes:Int)*m≤1024*1048576:=Int.mul_le_mul (by omega) (by omega) (by omega) (by omega);omega
  refine⟨madeCells z.cells (m.toNat*j.size),e,.slice (some ⟨w.heap.size,0,none⟩) n.toNat m.toNat,?_,m1,m2,.af _ _ _ _ _ _ ⟨_,e,(0,0),wh _ _,by omega,by unfold maxLen;omega,.inl ⟨rfl,by rw[size_madeCells,hs];omega⟩⟩⟩;simp only[execOp,ho,h1.gq,h2.gq,Sem.run_bind,run_make w t e j z hd hj hz k k' n m h0.1 h0.2.1 sq (by omega)];rfl
end
section
variable {P:Program} {TT:TypeId→Option TI} {F F':Nat→Prop} {w w':World}
theorem IF:∀(xs cs:List AV) (o k:Nat),o+xs.length≤cs.length→(fG cs o xs)[k]?=if o≤k∧k<o+xs.length then xs[k-o]? else cs[k]?
 | [],cs,o,k,_=>by rw[if_neg (by intro h;simp at h;omega)];rfl
 |x::xs,cs,o,k,h=>by
  simp only[gH]at h;rw[fG,IF xs (cs.set o x) (o+1) k (by simp;omega)];simp only[gH]
  by_cases h1:o+1≤k∧k<o+1+xs.length
  ·rw[az h1,az (by omega),show k-o=(k-(o+1))+1 by omega];rfl
  ·rw[aB h1]
   by_cases h2:o=k
   ·subst h2;rw[az (by omega),l7,gQ];simp;omega
   ·rw[aB (by omega),gQ,aB h2]
theorem abw(c vs:List Value)(o k:Nat)(h:o+vs.length≤c.length):(c.take o++vs++c.drop (o+vs.length))[k]?=if o≤k∧k<o+vs.length then vs[k-o]? else c[k]?:=by
 have hl:(c.take o).length=o:=by simp;omega
 by_cases h1:k<o
 ·rw[aB (by omega),cU,ku (by omega),qw,az h1]
 ·by_cases h2:k<o+vs.length
  ·rw[az (by omega),cU,iL (by omega),hl,ku (by omega)]
  ·rw[if_neg (by omega),List.getElem?_append_right (by simp;omega),List.getElem?_drop]
   congr 1
   simp;omega
theorem Vo{i:TI}{cs cs':List AV}{o:Nat}{v:AV}(h:kC i cs o v=some cs'):∃vs,v.cells?=some vs∧vs.length=i.size∧o+i.size≤cs.length∧cs'=fG cs o vs:=by
 unfold kC at h;split at h
 ·rename_i vs hv
  split at h
  ·rename_i h1 h2
   exact⟨vs,hv,ju h1,cj h2,(Option.some.inj h).symm⟩
  ·cases h
 ·cases h
theorem Fa{c:Array Value}{cs xs:List AV}{vs:List Value}{o:Nat}(hc:∀(i:Nat) (x:AV),cs[i]?=some x→x.leaf=true∧aD F w x (c.getD i undef))(hx:xs.length=vs.length)(hv:∀(i:Nat) (x:AV),xs[i]?=some x→x.leaf=true∧aD F w x (vs.getD i undef))(ho:o+xs.length≤c.size)
  {out:List AV} (jn:out.length≤c.size) (GS:∀k y,out[k]?=some y→(if o≤k∧k<o+xs.length then xs[k-o]? else cs[k]?)=some y) :
  ∀(i:Nat) (x:AV),out[i]?=some x→x.leaf=true∧aD F w x ((c.toList.take o++vs++c.toList.drop (o+vs.length)).toArray.getD i undef):=by
 intro k y hk;have h1:=GS k y hk;have ab:k<out.length:=(cW.1 hk).1;have agb:=abw c.toList vs o k (by simp;omega);have yK:k<c.size:=by omega
 have hlen:(c.toList.take o++vs++c.toList.drop (o+vs.length)).length=c.size:=by simp;omega
 have hgd:(c.toList.take o++vs++c.toList.drop (o+vs.length)).toArray.getD k undef=((c.toList.take o++vs++c.toList.drop (o+vs.length))[k]?).getD undef:=by
  have h2:k<(c.toList.take o++vs++c.toList.drop (o+vs.length)).toArray.size:=by rw[pr,hlen];exact yK
  simp only[Array.getD,h2,dif_pos];rw[bu (by rw[hlen];exact yK)];rfl
 rw[hgd,agb];split at h1
 ·rename_i cq
  rw[az (by omega)];obtain⟨h2,h3⟩:=hv _ y h1;exact⟨h2,by rw[bK]at h3;exact h3⟩
 ·rename_i cq
  rw[aB (by omega)];obtain⟨h2,h3⟩:=hc _ y h1;refine⟨h2,?_⟩;simpa [Array.getD,yK]using h3
theorem VC(ok:dP P TT){o:Oper}{t:TypeId}{p x:Operand}(ho:o.op=.store t p x){ρ:Operand→AV}{σ:Hp}{K:AV→Hp→Prop}{i:TI}(hi:TT t=some i){b off:Nat}(hp:ρ p=.ptr b off)(h:FN i σ b off (ρ x) (fun σ'=>K .any σ')):jW P o ρ σ K:=by
 intro a F w hx aG next Q hn;obtain⟨j,cs,cs',h1,h2,go⟩:=h;obtain⟨vs,hv,yG,hle,rfl⟩:=Vo h2;obtain⟨jt,d,z,hj,hd,hs,_⟩:=dF ok hi;have a1:=hx p (by simp[ho,Op.operands]);rw[hp]at a1;have a2:=hx x (by simp[ho,Op.operands]);obtain⟨c1,c2⟩:=IN a2 hv;obtain⟨hF,c,T,hc,fk,ph⟩:=(aG.holds _ (dz h1)).cells a1.zh;have fk:cs.length≤c.size:=fk
 have qY:∀u∈(a.eval x).cells.toList,u.oneCell'=true:=by
  intro u hu;obtain⟨k,hk⟩:=yZ.1 hu;have ab:k<(a.eval x).cells.size:=by have:=(List.getElem?_eq_some_iff.1 hk).1;simpa using this
  obtain⟨h3,h4⟩:=c2 k vs[k] (by simp);have:=h4.one h3;simpa [Array.getD,ab,show (a.eval x).cells[k]=u by simpa [ab]using hk]using this
 have aq:=run_storeCells_at (P:=P) b off T (a.eval x).cells.toList 0 c w hc (by simp[c1];omega) qY
 have fp:(execOp a.eval o).run P w=.ok .skip (w.setRow b (c.toList.take off++(a.eval x).cells.toList++c.toList.drop (off+(a.eval x).cells.toList.length)).toArray):=by
  simp only[vF]at aq;have dG:¬((a.eval x).cells.size≠jt.size):=by rw[c1,yG,hs];simp
  simp only[execOp,ho,a1.uJ,Instr.storeAt,Instr.sureAddr,Sem.run_bind,Sem.run_pure,Result.andThen_ok,storeVar,run_sizeOf hj,aB dG,aq]
 unfold wq;rw[fp];have hlen:(c.toList.take off++(a.eval x).cells.toList++c.toList.drop (off+(a.eval x).cells.toList.length)).length=c.size:=by simp;omega
 obtain⟨s1,s2⟩:=zg aG h1 (cs':=fG cs off vs) hc (c':=(c.toList.take off++(a.eval x).cells.toList++c.toList.drop (off+(a.eval x).cells.toList.length)).toArray) (by simp only[pr];exact hlen) (by rw[za];simp only[pr];omega)
  (Fa (xs:=vs) ph (by simp[c1]) (fun k y hk=>by
   have ab:k<(a.eval x).cells.size:=by rw[c1];exact (cW.1 hk).1
   have:=c2 k y hk
   simpa [Array.getD,List.getD,ab]using this) (by omega) (by rw[za];omega) (fun k y hk=>by rw[IF _ _ _ _ (by omega)]at hk;exact hk))
  (fun k hk=>setRow_other w b k _ hk) (setRow_heap w b c _ T _ hc) rfl rfl rfl (by simp)
 exact hn undef .any _ F _ s1 s2 (.any _) go
theorem At.flat{α:Type}{f:α→List AV}{es:Nat}(hf:∀x,(f x).length=es){b:Nat}:∀(l:List α) (o:Nat),(∀i,(h:i<l.length)→At F w b (o+i*es) (f l[i]))→At F w b o (l.flatMap f)
 | [],o,_=>fun i x h=>by simp at h
 |y::l,o,h=>by
  have h0:=h 0 (by simp)
  have ih:=At.flat hf l (o+es) (fun i hi=>by
   have:=h (i+1) (by simpa using hi);rw[rD,show o+(i*es+es)=o+es+i*es by omega]at this
   simpa using this)
  intro i x hx;rw[sD]at hx
  by_cases hi:i<es
  ·rw[ku (by rw[hf];exact hi)]at hx;have:=h0 i x (by simpa using hx);simpa using this
  ·rw[iL (by rw[hf];omega),hf]at hx;have:=ih (i-es) x hx;rw[show o+es+(i-es)=o+i by omega]at this;exact this
theorem sM{α:Type}{f:α→List AV}{es:Nat}(hf:∀x,(f x).length=es):∀(l:List α),(l.flatMap f).length=l.length*es
 | []=>by simp
 |y::l=>by rw[sD,bB,hf,sM hf l,gH,rD];omega
theorem BZ{b o:Nat}{cs:List AV}(h:At F w b o cs):∃news:List Value,news.length=cs.length∧(∀j u,news[j]?=some u→w.cell? ⟨b,o+j,none⟩=some u)∧(∀(i:Nat) (x:AV),cs[i]?=some x→x.leaf=true∧aD F w x (news.getD i undef))∧∀u∈news,u.oneCell'=true:=by
 have hc:∀m,m<cs.length→∃v,w.cell? ⟨b,o+m,none⟩=some v∧v.oneCell'=true:=by
  intro m hm;obtain⟨h1,v,h2,h3⟩:=h m cs[m] (by simp[hm]);exact⟨v,h2,h3.one h1⟩
 refine⟨(List.range cs.length).map fun m=>(w.cell? ⟨b,o+m,none⟩).getD undef,by simp,fun j u hj=>?_,fun i x hx=>?_,fun u hu=>?_⟩
 ·have ab:j<cs.length:=by have:=(List.getElem?_eq_some_iff.1 hj).1;simpa using this
  obtain⟨v,h2,_⟩:=hc j ab;simp[ab,h2]at hj;rw[h2,hj]
 ·have ab:i<cs.length:=(cW.1 hx).1;obtain⟨h1,v,h2,h3⟩:=h i x hx;refine⟨h1,?_⟩;simpa [List.getD,ab,h2]using h3
 ·obtain⟨m,hm,rfl⟩:=eW.1 hu;obtain⟨v,h2,h3⟩:=hc m (gP.1 hm);rw[h2];exact h3
theorem Bu{σ:Hp}{es n:Nat}{x:AV}{new:List AV}(h:ji σ es x n new)(aG:bA F w σ){v:Value}(hv:aD F w x v){tx e':TypeId}(hk:P.underlying tx=some (.slice e')):
  ∃news:List Value,Src P es tx v n news w∧new.length=news.length∧∀(i:Nat) (x:AV),new[i]?=some x→x.leaf=true∧aD F w x (news.getD i undef):=by
 have empty:∀(a:Option Addr) (c:Nat),Src P es tx (.slice a 0 c) 0 [] w:=by
  intro a c;cases a with
  |none=>exact Src.ofNil w hk c
  |some a=>exact Src.ofSlice w hk a 0 c [] (by simp) (fun j u h=>by simp at h) (fun _ h=>by cases h)
 cases h with
 |ag=>cases hv;exact⟨[],empty _ _,rfl,fun i x h=>by simp at h⟩
 |kj=>cases hv;exact⟨[],empty _ _,rfl,fun i x h=>by simp at h⟩
 |gz=>cases hv;exact⟨[],empty _ _,rfl,fun i x h=>by simp at h⟩
 |ae s l hs=>
  obtain⟨a,c,rfl,h1,h2,h3⟩:=hv.CW
  by_cases bf:l=[]
  ·subst bf;exact⟨[],empty _ _,rfl,fun i x h=>by simp at h⟩
  ·obtain⟨b,o,rfl,hF,hr⟩:=h3 bf
   have eQ:At F w b o (l.flatMap s.cells):=At.flat (es:=s.size) (fun d=>Sh.sK s d) l o (fun i hi=>by
    obtain⟨cs',q1,q2,q3⟩:=hr i hi
    exact At.RY s q2 q3)
   obtain⟨news,n1,n2,n3,n4⟩:=BZ eQ;have hl:=sM (fun d=>Sh.sK s d) l;exact⟨news,Src.ofSlice w hk _ _ c news (by rw[n1,hl,hs]) (fun j u hj=>by rw[ox];exact n2 j u hj) n4,n1.symm,n3⟩
 |af j b off len cs h1 h2=>
  obtain⟨a,cap,rfl,c,T,fz,m1,m2,m3,m4⟩:=hv.kK
  have eQ:At F w b off ((cs.drop off).take (n*es)):=by
   have:=(aG.at_ h1 ⟨c,T,fz,m1⟩).drop off;rw[dD]at this;intro i x hx;rw[qw]at hx;split at hx
   ·exact this i x hx
   ·cases hx
  have hl:((cs.drop off).take (n*es)).length=n*es:=by simp;omega
  obtain⟨news,n1,n2,n3,n4⟩:=BZ eQ
  rcases m4 with ⟨rfl,_⟩ | ⟨q1,q2,rfl,rfl⟩
  ·exact⟨news,Src.ofSlice w hk _ _ cap news (by rw[n1,hl]) (fun j u hj=>by rw[ox];exact n2 j u hj) n4,n1.symm,n3⟩
  ·have h0:(List.take (0*es) (List.drop off cs))=[]:=by simp
   rw[h0];exact⟨[],empty _ _,rfl,fun i x h=>by simp at h⟩
theorem sJ{η:Operand→Value}{o:Oper}{s x:Operand}{t t':TypeId}(ho:o.op=.call ⟨.builtin .append,#[s,x],#[t,t']⟩){v:Value}{w w':World}(h:(Builtin.append_ #[t,t'] o.type #[η s,η x]).run P w=.ok v w'):(execOp η o).run P w=.ok (.value v) w':=by
 rw[sP _ _ _ o ho];simp[builtin,h]
theorem Ww(z:Array Value)(n:Nat):(Builtin.zeroCells z n).size=n*z.size:=by simp[Builtin.zeroCells]
theorem EZ{σ:Hp}(aG:bA F w σ){e:TypeId}{i:TI}{z:Value}{olds news:List Value}{co cn:List AV}{len n cap:Nat}(ho:co.length=olds.length)(hn:cn.length=news.length)(hor:∀(i:Nat) (x:AV),co[i]?=some x→x.leaf=true∧aD F w x (olds.getD i undef))(hnr:∀(i:Nat) (x:AV),cn[i]?=some x→x.leaf=true∧aD F w x (news.getD i undef))
  (Dr:olds.length=len*i.size) (Ds:news.length=n*i.size) (gX:z.cells.size=i.size) (AN:len+n≤cap) (vw:cap≤maxLen) :
  let w2:=w.drew.alloc (.cells ((olds++news).toArray++Builtin.zeroCells z.cells (cap-(len+n))) e)
  bH F w F w2∧bA F w2 ((w.heap.size,co++cn)::σ)∧aD F w2 (.af w.heap.size 0 (len+n) i.size) (.slice (some ⟨w.heap.size,0,none⟩) (len+n) cap):=by
 intro w2
 have dG:((olds++news).toArray++Builtin.zeroCells z.cells (cap-(len+n))).size=cap*i.size:=by
  simp only[Array.size_append,pr,bB,Ww,gX,Dr,Ds];rw[← qv,← qv]
  congr 1
  omega
 obtain⟨h1,h2⟩:=N9 aG (c:=(olds++news).toArray++Builtin.zeroCells z.cells (cap-(len+n))) (T:=e) (cs:=co++cn) (by simp;omega) (fun k x hx=>by
  have ab:k<(co++cn).length:=(cW.1 hx).1;have dR:k<(olds++news).length:=by simp at ab ⊢;omega
  have e1:((olds++news).toArray++Builtin.zeroCells z.cells (cap-(len+n))).getD k undef=(olds++news).getD k undef:=by
   rw[Array.getD_eq_getD_getElem?,Array.getElem?_append_left (by simpa using dR),List.getD_eq_getElem?_getD,List.getElem?_toArray]
  rw[e1]
  by_cases hk:k<co.length
  ·rw[ku hk]at hx;rw[bK,ku (by omega),← bK];exact hor k x hx
  ·rw[iL (by omega)]at hx;rw[bK,iL (by omega),← bK,← ho]
   exact hnr _ x hx) (w0:=w.drew) (.inr rfl)
 refine⟨h1,h2,.af _ _ _ _ _ _ ⟨_,e,(0,0),?_,AN,vw,.inl ⟨rfl,by rw[dG];omega⟩⟩⟩;exact wh w.drew _
theorem Ep(ok:dP P TT){o:Oper}{s x:Operand}{t t' e e':TypeId}(ho:o.op=.call ⟨.builtin .append,#[s,x],#[t,t']⟩){ρ:Operand→AV}{σ:Hp}{K:AV→Hp→Prop}{it sl i:TI}(ht:TT t=some it)(hk:it.k=.slice e)(nm:TT t'=some sl)(gw:sl.k=.slice e')(hi:TT e=some i)
  (h:FO i σ (ρ s) (ρ x) K):jW P o ρ σ K:=by
 intro a F w hx aG next Q cz;obtain⟨_,d,_,_,hd,_,_,jJ,_,_⟩:=dF ok ht;rw[hk]at jJ;obtain rfl:=jN jJ;obtain⟨_,d',_,_,j6,_,_,wN,_,_⟩:=dF ok nm;rw[gw]at wN;obtain rfl:=jN wN;obtain⟨j,dj,z,hj,Ms,hs,⟨hb,n9⟩,_,hz,gN⟩:=dF ok hi;have gX:z.cells.size=i.size:=by have:=(vZ (F:=F) (w:=w) gN).1;omega
 have a1:=hx s (by simp[ho,Op.operands,Call.operands]);have a2:=hx x (by simp[ho,Op.operands,Call.operands])
 have fits:∀{len n:Nat},len+n≤1048576→i.bytes≤1024→(len+n)*j.bytes≤140737488355328:=by
  intro len n h1 h2;rw[hb];have:(len+n)*i.bytes≤1048576*1024:=oe h1 h2;omega
 cases h with
 |fresh n new fT uM hn yR h0 go same=>
  obtain⟨news,src,q1,q2⟩:=Bu (P:=P) uM aG a2 j6;rw[← hs]at src
  obtain⟨ad,hv⟩:∃ad,a.eval s=.slice ad 0 0:=by
   rcases fT with fT | fT
   ·rw[fT]at a1;revert a1;generalize a.eval s=u;intro a1;cases a1;exact⟨none,rfl⟩
   ·rw[fT]at a1;revert a1;generalize a.eval s=u;intro a1;cases a1;exact⟨_,rfl⟩
  by_cases ep:n=0
  ·subst ep;have uB:news=[]:=List.length_eq_zero_iff.1 (by rw[src.newsLen];simp);subst uB;have hr:=sJ (η:=a.eval) ho (by rw[hv];exact run_append_nothing w t t' o.type e j hd hj ad 0 0 (bg _) _ src);unfold wq;rw[hr];exact cz _ _ σ F w (.refl _ _) aG (by rw[← hv];exact a1) (same rfl)
  ·have hold:(Builtin.firstCells j.size 0 (.slice ad 0 0)).run P w.drew=.ok #[] w.drew:=by
    cases ad with
    |none=>exact run_firstCells_none w.drew _ _ _ _
    |some ad=>exact run_firstCells_some w.drew j.size 0 ad 0 0 [] (by simp) (fun j u h=>by simp at h)
   have yg:=run_append_grow_src (P:=P) w t t' o.type e j z hd hj hz ad 0 0 [] hold _ n news src (by omega) (by omega) (growslice_fits (by omega) (fits (by omega) yR));have ak:=grownCap_ge w (0+n) 0 e;have vu:=grownCap_le_maxLen w (0+n) 0 e (by unfold maxLen;omega);obtain⟨g1,g2,g3⟩:=EZ aG (e:=e) (i:=i) (z:=z) (olds:=[]) (co:=[]) (news:=news) (cn:=new) (len:=0) (n:=n) (cap:=grownCap w (0+n) 0 e) rfl q1 (fun i x h=>by simp at h) q2 (by simp) (by rw[src.newsLen,hs]) gX ak vu;have hr:=sJ (η:=a.eval) ho (by rw[hv];exact yg);unfold wq;rw[hr];have:=go ep w.heap.size;rw[show n=0+n from (dD n).symm]at this;exact cz _ _ _ F _ g1 g2 g3 this
 |more jj b len n cs new qj so fk uM hn yR h0 go=>
  obtain⟨news,src,q1,q2⟩:=Bu (P:=P) uM aG a2 j6;rw[qj]at a1;obtain⟨ad,cap,hv,c,T,fz,m1,m2,m3,m4⟩:=a1.kK;obtain⟨hF,c',T',lz,CT,GX⟩:=(aG.holds _ (dz so)).cells ⟨c,T,fz,m1⟩;have CT:cs.length≤c'.size:=CT
  have Mt:c=c'∧T=T'∧fz=(0,0):=by
   rw[lz]at m1;cases m1;exact⟨rfl,rfl,rfl⟩
  obtain⟨rfl,rfl,rfl⟩:=Mt;have ab:jj<σ.length:=(cW.1 so).1;have tF:(cs.take (len*i.size)).length=len*i.size:=by simp;omega
  have Ln:∀(k:Nat) (x:AV),(cs.take (len*i.size))[k]?=some x→x.leaf=true∧aD F w x (c.getD k undef):=by
   intro k x hx;rw[qw]at hx;split at hx
   ·exact GX k x hx
   ·cases hx
  have lU:bA F w (σ.eraseIdx jj):=aG.sub (List.eraseIdx_sublist _ _)
  by_cases Cm:len+n≤cap
  ·rcases m4 with ⟨rfl,yv⟩ | ⟨tG,nq,gY,rp⟩
   ·rw[dD]at yv;have hmul:(len+n)*i.size≤cap*i.size:=nt _ Cm;rw[qv]at hmul;have kR:news.length=n*i.size:=src.newsLen;have aq:=run_storeCells_at (P:=P) b (len*i.size) T news 0 c w lz (by omega) src.one;simp only[vF]at aq;rw[← hs]at src
    have CU:(Builtin.append_ #[t,t'] o.type #[.slice (some ⟨b,0,none⟩) len cap,a.eval x]).run P w=.ok (.slice (some ⟨b,0,none⟩) (len+n) cap) (w.setRow b (c.toList.take (len*i.size)++news++c.toList.drop (len*i.size+news.length)).toArray):=by
     rw[← hs]at aq ⊢;simp[Builtin.append_,run_underlying hd,run_underlying j6,sizeOf,typeInfo,hj,src.len,Cm,src.cells,Addr.add_lit,aq]
    have hr:=sJ (η:=a.eval) ho (by rw[hv];exact CU);have hlen:(c.toList.take (len*i.size)++news++c.toList.drop (len*i.size+news.length)).length=c.size:=by simp;omega
    obtain⟨s1,s2⟩:=zg aG so (cs':=cs.take (len*i.size)++new) lz (c':=(c.toList.take (len*i.size)++news++c.toList.drop (len*i.size+news.length)).toArray) (by simp only[pr];exact hlen) (by rw[pr,hlen,bB,tF,q1];omega)
     (Fa (cs:=cs.take (len*i.size)) (xs:=new) (fun k y hk=>Ln k y hk) q1 q2 (by omega) (by simp only[bB,tF,q1];omega) (fun k y hk=>by
      by_cases qn:k<len*i.size
      ·rw[aB (by omega)];rw[ku (by omega)]at hk;exact hk
      ·rw[iL (by omega),tF]at hk;have:=(cW.1 hk).1;rw[az (by omega)]
       exact hk))
     (fun k hk=>setRow_other w b k _ hk) (setRow_heap w b c _ T _ lz) rfl rfl rfl (by simp)
    unfold wq;rw[hr];refine cz _ _ _ F _ s1 (s2.perm ?_) ?_ (go b)
    ·have:=xG (σ.set jj (b,cs.take (len*i.size)++new)) jj (b,cs.take (len*i.size)++new) (by simp[ab]);rw[M1]at this;exact this
    ·exact .af _ _ _ _ _ _ ⟨_,T,(0,0),setRow_heap w b c _ T _ lz,by omega,m3,.inl ⟨rfl,by simp only[pr];rw[hlen];omega⟩⟩
   ·subst gY;subst rp;obtain rfl:n=0:=by omega
    have uB:news=[]:=List.length_eq_zero_iff.1 (by rw[src.newsLen];simp);subst uB;rw[← hs]at src;have fP:new=[]:=List.length_eq_zero_iff.1 (by simpa using q1);subst fP;have hr:=sJ (η:=a.eval) ho (by rw[hv];exact run_append_nothing w t t' o.type e j hd hj (some ad) 0 0 (bg _) _ src);unfold wq;rw[hr];have nH:bA F w ((b,cs)::σ.eraseIdx jj):=aG.perm (xG σ jj (b,cs) so);have g0:K (.af b 0 0 i.size) ((b,[])::σ.eraseIdx jj):=by simpa using go b
    refine cz _ _ ((b,[])::σ.eraseIdx jj) F w (.refl _ _) ⟨nH.nodup,fun p hp=>?_,nH.low⟩ (.af b 0 0 i.size ad 0 ⟨c,T,(0,0),lz,bg _,by unfold maxLen;omega,.inr ⟨tG,nq,rfl,rfl⟩⟩) g0
    rcases dW.1 hp with rfl | hp
    ·exact⟨hF,.inl ⟨c,T,lz,by simp,fun i x h=>by simp at h⟩⟩
    ·exact nH.holds p (dq _ hp)
  ·obtain⟨olds,o1,o2,o3⟩:∃olds:List Value,olds.length=len*i.size∧(Builtin.firstCells i.size len (.slice (some ad) len cap)).run P w.drew=.ok olds.toArray w.drew∧∀(k:Nat) (x:AV),(cs.take (len*i.size))[k]?=some x→x.leaf=true∧aD F w x (olds.getD k undef):=by
    rcases m4 with ⟨rfl,yv⟩ | ⟨tG,nq,rfl,rfl⟩
    ·have eQ:At F w b 0 (cs.take (len*i.size)):=by
      have:=aG.at_ so ⟨_,_,_,lz⟩;intro k x hx;rw[qw]at hx;split at hx
      ·exact this k x hx
      ·cases hx
     obtain⟨olds,n1,n2,n3,n4⟩:=BZ eQ;refine⟨olds,by rw[n1,tF],run_firstCells_some w.drew i.size len _ len cap olds (by rw[n1,tF]) (fun k u hk=>?_),n3⟩;rw[ox];exact n2 k u hk
    ·exact⟨[],by simp,run_firstCells_some w.drew i.size 0 ad 0 0 [] (by simp) (fun j u h=>by simp at h),fun k x h=>by simp at h⟩
   have kR:news.length=n*i.size:=src.newsLen;rw[← hs]at src;have yg:=run_append_grow_src (P:=P) w t t' o.type e j z hd hj hz (some ad) len cap olds (by rw[hs];exact o2) _ n news src (by omega) (by omega) (growslice_fits (by omega) (fits (by omega) yR));have ak:=grownCap_ge w (len+n) cap e;have vu:=grownCap_le_maxLen w (len+n) cap e (by unfold maxLen;omega);obtain⟨g1,g2,g3⟩:=EZ lU (e:=e) (i:=i) (z:=z) (olds:=olds) (co:=cs.take (len*i.size)) (news:=news) (cn:=new) (len:=len) (n:=n) (cap:=grownCap w (len+n) cap e) (by rw[tF,o1]) q1 o3 q2 o1 kR gX ak vu;have hr:=sJ (η:=a.eval) ho (by rw[hv];exact yg);unfold wq;rw[hr];exact cz _ _ _ F _ g1 g2 g3 (go w.heap.size)
 |zU jj b off len n cs new qj so fk uM hn yR h0 wP go=>
  obtain⟨news,src,q1,q2⟩:=Bu (P:=P) uM aG a2 j6;rw[qj]at a1;obtain⟨ad,cap,hv,c,T,fz,m1,m2,m3,m4⟩:=a1.kK;obtain⟨hF,c',T',lz,CT,GX⟩:=(aG.holds _ (dz so)).cells ⟨c,T,fz,m1⟩;have CT:cs.length≤c'.size:=CT
  have Mt:c=c'∧T=T'∧fz=(0,0):=by
   rw[lz]at m1;cases m1;exact⟨rfl,rfl,rfl⟩
  obtain⟨rfl,rfl,rfl⟩:=Mt;have ab:jj<σ.length:=(cW.1 so).1;have tF:(cs.take (off+len*i.size)).length=off+len*i.size:=by simp;omega
  have Lo:((cs.drop off).take (len*i.size)).length=len*i.size:=by simp;omega
  have Ln:∀(k:Nat) (x:AV),(cs.take (off+len*i.size))[k]?=some x→x.leaf=true∧aD F w x (c.getD k undef):=by
   intro k x hx;rw[qw]at hx;split at hx
   ·exact GX k x hx
   ·cases hx
  have lU:bA F w (σ.eraseIdx jj):=aG.sub (List.eraseIdx_sublist _ _)
  by_cases Cm:len+n≤cap
  ·rcases m4 with ⟨rfl,yv⟩ | ⟨tG,nq,gY,rp⟩
   ·have yv:off+cap*i.size≤c.size:=yv;have hmul:(len+n)*i.size≤cap*i.size:=nt _ Cm;rw[qv]at hmul;have kR:news.length=n*i.size:=src.newsLen;have aq:=run_storeCells_at (P:=P) b (off+len*i.size) T news 0 c w lz (by omega) src.one;simp only[vF]at aq;rw[← hs]at src
    have CU:(Builtin.append_ #[t,t'] o.type #[.slice (some ⟨b,off,none⟩) len cap,a.eval x]).run P w=.ok (.slice (some ⟨b,off,none⟩) (len+n) cap) (w.setRow b (c.toList.take (off+len*i.size)++news++c.toList.drop (off+len*i.size+news.length)).toArray):=by
     rw[← hs]at aq ⊢;simp[Builtin.append_,run_underlying hd,run_underlying j6,sizeOf,typeInfo,hj,src.len,Cm,src.cells,Addr.add_lit,aq]
    have hr:=sJ (η:=a.eval) ho (by rw[hv];exact CU);have hlen:(c.toList.take (off+len*i.size)++news++c.toList.drop (off+len*i.size+news.length)).length=c.size:=by simp;omega
    obtain⟨s1,s2⟩:=zg aG so (cs':=cs.take (off+len*i.size)++new) lz (c':=(c.toList.take (off+len*i.size)++news++c.toList.drop (off+len*i.size+news.length)).toArray) (by simp only[pr];exact hlen) (by rw[pr,hlen,bB,tF,q1];omega)
     (Fa (cs:=cs.take (off+len*i.size)) (xs:=new) (fun k y hk=>Ln k y hk) q1 q2 (by omega) (by simp only[bB,tF,q1];omega) (fun k y hk=>by
      by_cases qn:k<off+len*i.size
      ·rw[aB (by omega)];rw[ku (by omega)]at hk;exact hk
      ·rw[iL (by omega),tF]at hk;have:=(cW.1 hk).1;rw[az (by omega)]
       exact hk))
     (fun k hk=>setRow_other w b k _ hk) (setRow_heap w b c _ T _ lz) rfl rfl rfl (by simp)
    unfold wq;rw[hr];refine cz _ _ _ F _ s1 (s2.perm ?_) ?_ wP
    ·have:=xG (σ.set jj (b,cs.take (off+len*i.size)++new)) jj (b,cs.take (off+len*i.size)++new) (by simp[ab]);rw[M1]at this;exact this
    ·exact .af _ _ _ _ _ _ ⟨_,T,(0,0),setRow_heap w b c _ T _ lz,by omega,m3,.inl ⟨rfl,by simp only[pr];rw[hlen];omega⟩⟩
   ·subst gY;subst rp;obtain rfl:n=0:=by omega
    have uB:news=[]:=List.length_eq_zero_iff.1 (by rw[src.newsLen];simp);subst uB;rw[← hs]at src;have fP:new=[]:=List.length_eq_zero_iff.1 (by simpa using q1);subst fP;have hr:=sJ (η:=a.eval) ho (by rw[hv];exact run_append_nothing w t t' o.type e j hd hj (some ad) 0 0 (bg _) _ src);unfold wq;rw[hr];have nH:bA F w ((b,cs)::σ.eraseIdx jj):=aG.perm (xG σ jj (b,cs) so);have g0:K (.af b off 0 i.size) ((b,cs.take off)::σ.eraseIdx jj):=by simpa using wP
    refine cz _ _ ((b,cs.take off)::σ.eraseIdx jj) F w (.refl _ _) ⟨nH.nodup,fun p hp=>?_,nH.low⟩ (.af b off 0 i.size ad 0 ⟨c,T,(0,0),lz,bg _,by unfold maxLen;omega,.inr ⟨tG,nq,rfl,rfl⟩⟩) g0
    rcases dW.1 hp with rfl | hp
    ·exact⟨hF,.inl ⟨c,T,lz,by simp only[oh];omega,fun k x h=>by
      rw[qw]at h;split at h
      ·exact GX k x h
      ·cases h⟩⟩
    ·exact nH.holds p (dq _ hp)
  ·obtain⟨olds,o1,o2,o3⟩:∃olds:List Value,olds.length=len*i.size∧(Builtin.firstCells i.size len (.slice (some ad) len cap)).run P w.drew=.ok olds.toArray w.drew∧∀(k:Nat) (x:AV),((cs.drop off).take (len*i.size))[k]?=some x→x.leaf=true∧aD F w x (olds.getD k undef):=by
    rcases m4 with ⟨rfl,yv⟩ | ⟨tG,nq,rfl,rfl⟩
    ·have eQ:At F w b off ((cs.drop off).take (len*i.size)):=by
      have:=aG.at_ so ⟨_,_,_,lz⟩;intro k x hx;rw[qw]at hx;split at hx
      ·rw[yY]at hx;have h5:=this (off+k) x hx;simpa only [dD]using h5
      ·cases hx
     obtain⟨olds,n1,n2,n3,n4⟩:=BZ eQ;refine⟨olds,by rw[n1,Lo],run_firstCells_some w.drew i.size len _ len cap olds (by rw[n1,Lo]) (fun k u hk=>?_),n3⟩;rw[ox];exact n2 k u hk
    ·exact⟨[],by simp,run_firstCells_some w.drew i.size 0 ad 0 0 [] (by simp) (fun j u h=>by simp at h),fun k x h=>by simp at h⟩
   have kR:news.length=n*i.size:=src.newsLen;rw[← hs]at src;have yg:=run_append_grow_src (P:=P) w t t' o.type e j z hd hj hz (some ad) len cap olds (by rw[hs];exact o2) _ n news src (by omega) (by omega) (growslice_fits (by omega) (fits (by omega) yR));have ak:=grownCap_ge w (len+n) cap e;have vu:=grownCap_le_maxLen w (len+n) cap e (by unfold maxLen;omega);obtain⟨g1,g2,g3⟩:=EZ lU (e:=e) (i:=i) (z:=z) (olds:=olds) (co:=(cs.drop off).take (len*i.size)) (news:=news) (cn:=new) (len:=len) (n:=n) (cap:=grownCap w (len+n) cap e) (by rw[Lo,o1]) q1 o3 q2 o1 kR gX ak vu;have hr:=sJ (η:=a.eval) ho (by rw[hv];exact yg);unfold wq;rw[hr];exact cz _ _ _ F _ g1 g2 g3 (go w.heap.size)
theorem U3(w:World)(t t' ty e:TypeId)(k:IntKind)(i:TypeInfo)(z:Value)(hd:P.underlying t=some (.slice e))(j6:P.underlying t'=some (.int k))(hi:P.info? e=some i)(hz:i.zero=some z)(k':IntKind)(m:Nat)(h0:0<m)(hm:m≤1048576)(hb:m*i.bytes≤140737488355328)(hs:0<i.size):
  (Builtin.append_ #[t,t'] ty #[.slice none 0 0,.int k' (m:Int)]).run P w=.ok (.slice (some ⟨w.heap.size,0,none⟩) m (grownCap w m 0 e)) (w.drew.alloc (.cells (([]++(Builtin.zeroCells z.cells m).toList).toArray++Builtin.zeroCells z.cells (grownCap w m 0 e-m)) e)):=by
 have hw:IntKind.i64.wrap (m:Int)=m:=by rw[IntKind.wrap_i64];omega
 have h1:¬((m:Int)<0):=by omega
 have h2:¬((281474976710656:Int)<(m:Int)*(i.bytes:Int)):=by
  have:((m*i.bytes:Nat):Int)≤140737488355328:=by omega
  rw[HM]at this;omega
 have h3:¬(9223372036854775807<(m:Int)):=by omega
 have h4:¬(281474976710656<Builtin.nextslicecap m 0*i.bytes):=by rw[nextslicecap_zero h0];omega
 have h5:m≠0:=by omega
 have h6:i.size≠0:=by omega
 simp[Builtin.append_,run_underlying hd,run_underlying j6,sizeOf,typeInfo,zeroValue,hi,hz,asInt,asIntOf,hw,h1,h2,h3,h4,h5,Question.forced,run_firstCells_none,newRow,grownCap];intro h7;exact absurd h7 (Nat.mul_ne_zero h5 h6)
theorem Vn(ok:dP P TT){o:Oper}{s x:Operand}{t t' e:TypeId}{k:IntKind}(ho:o.op=.call ⟨.builtin .append,#[s,x],#[t,t']⟩){ρ:Operand→AV}{σ:Hp}{K:AV→Hp→Prop}{it sl i:TI}(ht:TT t=some it)(hk:it.k=.slice e)(nm:TT t'=some sl)(gw:sl.k=.int k)(hi:TT e=some i)
  (h:B2 i σ (ρ s) (ρ x) K):jW P o ρ σ K:=by
 intro a F w hx aG next Q cz;obtain⟨_,d,_,_,hd,_,_,jJ,_,_⟩:=dF ok ht;rw[hk]at jJ;obtain rfl:=jN jJ;obtain⟨_,d',_,_,j6,_,_,wN,_,_⟩:=dF ok nm;rw[gw]at wN;obtain rfl:=fits_int wN;obtain⟨j,dj,z,hj,Ms,hs,⟨hb,n9⟩,_,hz,gN⟩:=dF ok hi;have gX:z.cells.size=i.size:=by have:=(vZ (F:=F) (w:=w) gN).1;omega
 have a1:=hx s (by simp[ho,Op.operands,Call.operands]);have a2:=hx x (by simp[ho,Op.operands,Call.operands]);cases h with
 |ag k2 n fT wZ hn yR h0 go same=>
  rw[fT]at a1;rw[wZ]at a2;have e1:a.eval s=.slice none 0 0:=by revert a1;generalize a.eval s=u;intro a1;cases a1;rfl
  have e2:a.eval x=.int k2 n:=a2.gq
  by_cases ep:n=0
  ·subst ep
   have CU:(Builtin.append_ #[t,t'] o.type #[.slice none 0 0,.int k2 0]).run P w=.ok (.slice none 0 0) w:=by
    have hw:IntKind.i64.wrap 0=0:=by decide
    simp[Builtin.append_,run_underlying hd,run_underlying j6,sizeOf,typeInfo,hj,asInt,asIntOf,hw]
   have hr:=sJ (η:=a.eval) ho (by rw[e1,e2];exact CU);unfold wq;rw[hr];exact cz _ _ σ F w (.refl _ _) aG .ag (same rfl)
  ·obtain⟨m,rfl⟩:∃m:Nat,n=m:=⟨n.toNat,by omega⟩
   have Hx:0<m:=by omega
   have hmul:m*j.bytes≤140737488355328:=by
    rw[hb];have:m*i.bytes≤1048576*1024:=oe (by omega) yR;omega
   have yg:=U3 (P:=P) w t t' o.type e k j z hd j6 hj hz k2 m Hx (by omega) hmul (by omega);have ak:=grownCap_ge w m 0 e;have vu:=grownCap_le_maxLen w m 0 e (by unfold maxLen;omega);obtain⟨r1,r2⟩:=E9 (F:=F) (w:=w) gN (bg m)
   have jz:(madeCells z.cells (m*i.zero.length))=Builtin.zeroCells z.cells m:=by
    unfold madeCells Builtin.zeroCells;rw[gX,n9]
   have dG:(Builtin.zeroCells z.cells m).size=m*i.zero.length:=by rw[← jz,size_madeCells]
   obtain⟨g1,g2,g3⟩:=EZ aG (e:=e) (i:=i) (z:=z) (olds:=[]) (co:=[]) (news:=(Builtin.zeroCells z.cells m).toList) (cn:=cP i.zero m) (len:=0) (n:=m) (cap:=grownCap w m 0 e) rfl (by rw[vP,Array.length_toList,dG]) (fun i x h=>by simp at h) (fun k y hk=>by
    have:=r2 k y hk;rw[jz]at this;rw[bK,A3,← gR]
    exact this) (by simp) (by rw[Array.length_toList,dG,n9]) gX (by rw[Nat.zero_add];exact ak) vu
   rw[dD]at g1 g2 g3;have hr:=sJ (η:=a.eval) ho (by rw[e1,e2];exact yg);unfold wq;rw[hr];exact cz _ _ _ F _ g1 g2 g3 (go (by omega) w.heap.size)
theorem Vy(ok:dP P TT){o:Oper}{s x:Operand}{t t' e e':TypeId}(ho:o.op=.call ⟨.builtin .append,#[s,x],#[t,t']⟩){ρ:Operand→AV}{σ:Hp}{K:AV→Hp→Prop}{it sl i:TI}(ht:TT t=some it)(hk:it.k=.slice e)(nm:TT t'=some sl)(gw:sl.k=.slice e')(hi:TT e=some i)
  (h:AppendAt i σ (ρ s) (ρ x) K):jW P o ρ σ K:=by
 cases h with
 |fresh n new hs hx hn hb h0 go same=>exact Ep ok ho ht hk nm gw hi (.fresh n new hs hx hn hb h0 go same)
 |more j b len n cs new hs h1 h2 hx hn hb h0 go=>exact Ep ok ho ht hk nm gw hi (.more j b len n cs new hs h1 h2 hx hn hb h0 go)
 |zU j b off len n cs new hs h1 h2 hx hn hb h0 wP go=>exact Ep ok ho ht hk nm gw hi (.zU j b off len n cs new hs h1 h2 hx hn hb h0 wP go)
 |perm K2 hp h dR=>
  have:=Ep ok ho ht hk nm gw hi h;intro a F w hx aG next Q hn;refine this a F w hx (aG.perm hp) next Q (fun v av σ' F' w' h1 h2 h3 h4=>?_);obtain⟨sf,p,k | ⟨hl,k⟩⟩:=dR av σ' h4
  ·exact hn v av sf F' w' h1 (h2.perm p) h3 k
  ·exact hn v _ sf F' w' h1 (h2.perm p) (.via _ _ hl h3) k
end
section
variable {P:Program} {TT:TypeId→Option TI} {F:Nat→Prop} {w:World}
theorem I7{σ:Hp}(aG:bA F w σ){j b off:Nat}{cs:List AV}(h1:σ[j]?=some (b,cs))(Mu:nD w b)(xs:List AV)(news:List Value)(hl:xs.length=news.length)(hle:off+xs.length≤cs.length)(hv:∀(k:Nat) (y:AV),xs[k]?=some y→y.leaf=true∧aD F w y (news.getD k undef)):
  ∃w',(storeCells ⟨b,off,none⟩ news).run P w=.ok () w'∧bH F w F w'∧bA F w' (σ.set j (b,fG cs off xs)):=by
 obtain⟨hF,c,T,hc,fk,ph⟩:=(aG.holds _ (dz h1)).cells Mu;have fk:cs.length≤c.size:=fk
 have qY:∀u∈news,u.oneCell'=true:=by
  intro u hu;obtain⟨k,hk⟩:=yZ.1 hu;have ab:k<news.length:=(cW.1 hk).1;obtain⟨h3,h4⟩:=hv k (xs[k]'(by omega)) (by simp);have:=h4.one h3
  rwa [bK,hk]at this
 have aq:=run_storeCells_at (P:=P) b off T news 0 c w hc (by omega) qY;simp only[vF]at aq;have hlen:(c.toList.take off++news++c.toList.drop (off+news.length)).length=c.size:=by simp;omega
 obtain⟨s1,s2⟩:=zg aG h1 (cs':=fG cs off xs) hc (c':=(c.toList.take off++news++c.toList.drop (off+news.length)).toArray) (by simp only[pr];exact hlen) (by rw[za];simp only[pr];omega)
  (Fa (xs:=xs) ph hl hv (by omega) (by rw[za];omega) (fun k y hk=>by rw[IF _ _ _ _ (by omega)]at hk;exact hk))
  (fun k hk=>setRow_other w b k _ hk) (setRow_heap w b c _ T _ hc) rfl rfl rfl (by simp)
 exact⟨_,aq,s1,s2⟩
theorem NO{η:Operand→Value}{o:Oper}{s:Operand}{t:TypeId}(ho:o.op=.call ⟨.builtin .clear,#[s],#[t]⟩){v:Value}{w w':World}(h:(Builtin.clear_ #[t] o.type #[η s]).run P w=.ok v w'):(execOp η o).run P w=.ok (.value v) w':=by
 rw[sP _ _ _ o ho];simp[builtin,h]
theorem Bh{η:Operand→Value}{o:Oper}{d x:Operand}{t t':TypeId}(ho:o.op=.call ⟨.builtin .copy,#[d,x],#[t,t']⟩){v:Value}{w w':World}(h:(Builtin.copy_ #[t,t'] o.type #[η d,η x]).run P w=.ok v w'):(execOp η o).run P w=.ok (.value v) w':=by
 rw[sP _ _ _ o ho];simp[builtin,h]
theorem Jq{σ:Hp}{j:Nat}{p:Nat×List AV}(h:σ[j]?=some p):σ.set j p=σ:=by
 obtain⟨h1,h2⟩:=cW.1 h;subst h2;exact List.set_getElem_self h1
theorem V9(ok:dP P TT){o:Oper}{s:Operand}{t e:TypeId}(ho:o.op=.call ⟨.builtin .clear,#[s],#[t]⟩){ρ:Operand→AV}{σ:Hp}{K:AV→Hp→Prop}{it i:TI}(ht:TT t=some it)(hk:it.k=.slice e)(hi:TT e=some i)(h:Kf i σ (ρ s) (fun σ'=>K (.tup []) σ')):jW P o ρ σ K:=by
 intro a F w hx aG next Q cz;obtain⟨_,d,_,_,hd,_,_,jJ,_,_⟩:=dF ok ht;rw[hk]at jJ;obtain rfl:=jN jJ;obtain⟨j,dj,z,hj,Ms,hs,⟨hb,n9⟩,_,hz,gN⟩:=dF ok hi;have a1:=hx s (by simp[ho,Op.operands,Call.operands])
 have e0:∀(ad:Option Addr) (c:Nat),(Builtin.clear_ #[t] o.type #[.slice ad 0 c]).run P w=.ok (.tuple #[]) w:=fun ad c=>by
  cases ad <;> simp[Builtin.clear_,run_underlying hd]
 have done:∀(ad:Option Addr) (c:Nat),a.eval s=.slice ad 0 c→K (.tup []) σ→wq P o a w next Q:=fun ad c hv hK=>by
  unfold wq;rw[NO (η:=a.eval) ho (by rw[hv];exact e0 ad c)];exact cz (.tuple #[]) _ σ F w (.refl _ _) aG (.tup _ _ rfl (fun i x h=>by simp at h)) hK
 cases h with
 |none hs go=>
  rcases hs with hs | hs | hs
  ·rw[hs]at a1;generalize hv:a.eval s=v at a1;cases a1;exact done _ _ hv go
  ·rw[hs]at a1;generalize hv:a.eval s=v at a1;cases a1;exact done _ _ hv go
  ·rw[hs]at a1;generalize hv:a.eval s=v at a1;cases a1;exact done _ _ hv go
 |af j' b off len cs qj h1 h2 go=>
  rw[qj]at a1;obtain⟨ad,cap,hv,c,T,fz,m1,m2,m3,m4⟩:=a1.kK
  by_cases gY:len=0
  ·subst gY;refine done _ _ hv ?_;have e:fG cs off (cP i.zero 0)=cs:=rfl;rw[e,Jq h1]at go;exact go
  ·obtain⟨rfl,_⟩:ad=⟨b,off,none⟩∧off+cap*i.size≤c.size:=by
    rcases m4 with h | ⟨_,_,h,_⟩
    ·exact h
    ·exact absurd h gY
   obtain⟨r1,r2⟩:=E9 (F:=F) (w:=w) gN (bg len);have ag1:z.cells.size=i.zero.length:=((vZ (F:=F) (w:=w) gN).1).symm
   have jz:(madeCells z.cells (len*i.zero.length))=Builtin.zeroCells z.cells len:=by
    unfold madeCells Builtin.zeroCells;rw[ag1]
   have dG:(Builtin.zeroCells z.cells len).size=len*i.zero.length:=by rw[← jz,size_madeCells]
   obtain⟨w',k1,k2,k3⟩:=I7 (P:=P) aG h1 (off:=off) ⟨_,_,_,m1⟩ (cP i.zero len) (Builtin.zeroCells z.cells len).toList (by rw[vP,Nh,dG]) (by rw[vP,n9];exact h2) (fun k y hk=>by
    have:=r2 k y hk;rw[jz]at this;refine⟨this.1,?_⟩;rw[bK,A3,← gR]
    exact this.2)
   obtain⟨len,rfl⟩:∃m,len=m+1:=⟨len-1,by omega⟩
   have fp:(Builtin.clear_ #[t] o.type #[.slice (some ⟨b,off,none⟩) (len+1) cap]).run P w=.ok (.tuple #[]) w':=by
    simp[Builtin.clear_,run_underlying hd,zeroValue,typeInfo,hj,hz,k1]
   unfold wq;rw[NO (η:=a.eval) ho (by rw[hv];exact fp)];exact cz (.tuple #[]) _ _ F w' k2 k3 (.tup _ _ rfl (fun i x h=>by simp at h)) go
theorem Xk(ok:dP P TT){o:Oper}{d x:Operand}{t t' e e':TypeId}(ho:o.op=.call ⟨.builtin .copy,#[d,x],#[t,t']⟩){ρ:Operand→AV}{σ:Hp}{K:AV→Hp→Prop}{it sl i:TI}(ht:TT t=some it)(hk:it.k=.slice e)(nm:TT t'=some sl)(gw:sl.k=.slice e')(hi:TT e=some i)
  (h:KE i σ (ρ d) (ρ x) K):jW P o ρ σ K:=by
 intro a F w hx aG next Q cz;obtain⟨_,dd,_,_,hd,_,_,jJ,_,_⟩:=dF ok ht;rw[hk]at jJ;obtain rfl:=jN jJ;obtain⟨_,d',_,_,j6,_,_,wN,_,_⟩:=dF ok nm;rw[gw]at wN;obtain rfl:=jN wN;obtain⟨j,dj,z,hj,Ms,hs,_⟩:=dF ok hi;have a1:=hx d (by simp[ho,Op.operands,Call.operands]);have a2:=hx x (by simp[ho,Op.operands,Call.operands]);cases h with
 |none new mC uM go=>
  obtain⟨news,src,q1,q2⟩:=Bu (P:=P) uM aG a2 j6;have uB:news=[]:=List.length_eq_zero_iff.1 (by rw[src.newsLen];simp);subst uB;rw[← hs]at src
  obtain⟨ad,c,hv⟩:∃ad c,a.eval d=.slice ad 0 c:=by
   rcases mC with mC | mC | mC
   ·rw[mC]at a1;generalize a.eval d=v at a1;cases a1;exact⟨_,_,rfl⟩
   ·rw[mC]at a1;generalize a.eval d=v at a1;cases a1;exact⟨_,_,rfl⟩
   ·rw[mC]at a1;generalize a.eval d=v at a1;cases a1;exact⟨_,_,rfl⟩
  have fp:(Builtin.copy_ #[t,t'] o.type #[.slice ad 0 c,a.eval x]).run P w=.ok (goInt 0) w:=by
   cases ad <;> simp[Builtin.copy_,run_underlying hd,src.len,sizeOf,typeInfo,hj,src.cells,storeCells]
  unfold wq;rw[Bh (η:=a.eval) ho (by rw[hv];exact fp)];exact cz _ _ σ F w (.refl _ _) aG (.int _ _) go
 |af jj b off len n cs new Mr h1 h2 uM hn go=>
  obtain⟨news,src,q1,q2⟩:=Bu (P:=P) uM aG a2 j6;rw[Mr]at a1;obtain⟨ad,cap,hv,c,T,fz,m1,m2,m3,m4⟩:=a1.kK;have kR:news.length=n*i.size:=src.newsLen;have hmul:n*i.size≤len*i.size:=nt _ hn;rw[← hs]at src
  by_cases gY:len=0
  ·obtain rfl:n=0:=by omega
   have uB:news=[]:=List.length_eq_zero_iff.1 (by rw[kR];simp);subst uB;have fP:new=[]:=List.length_eq_zero_iff.1 (by simpa using q1);subst fP;subst gY
   have fp:(Builtin.copy_ #[t,t'] o.type #[.slice (some ad) 0 cap,a.eval x]).run P w=.ok (goInt 0) w:=by
    simp[Builtin.copy_,run_underlying hd,src.len,sizeOf,typeInfo,hj,src.cells,storeCells]
   unfold wq;rw[Bh (η:=a.eval) ho (by rw[hv];exact fp)];have e:fG cs off ([]:List AV)=cs:=rfl;rw[e,Jq h1]at go;exact cz _ _ σ F w (.refl _ _) aG (.int _ _) go
  ·obtain⟨rfl,_⟩:ad=⟨b,off,none⟩∧off+cap*i.size≤c.size:=by
    rcases m4 with h | ⟨_,_,h,_⟩
    ·exact h
    ·exact absurd h gY
   obtain⟨w',k1,k2,k3⟩:=I7 (P:=P) aG h1 (off:=off) ⟨_,_,_,m1⟩ new news q1 (by omega) q2
   have fp:(Builtin.copy_ #[t,t'] o.type #[.slice (some ⟨b,off,none⟩) len cap,a.eval x]).run P w=.ok (goInt n) w':=by
    simp[Builtin.copy_,run_underlying hd,src.len,sizeOf,typeInfo,hj,Nat.min_eq_left hn,src.cells,k1]
   unfold wq;rw[Bh (η:=a.eval) ho (by rw[hv];exact fp)];exact cz _ _ _ F w' k2 k3 (.int _ _) go
 |part jj b off len cs Mr h1 h2 j2 b2 mV n kx hxm h3 h4 hn go=>
  rw[Mr]at a1;rw[hxm]at a2;obtain⟨ad,cap,hv,c,T,fz,m1,m2,m3,m4⟩:=a1.kK;obtain⟨a3,yw,hv3,c3,T3,Ij,p1,p2,p3,p4⟩:=a2.kK;have hmul:len*i.size≤n*i.size:=nt _ hn
  by_cases gY:len=0
  ·subst gY;have hc:(Builtin.firstCells i.size 0 (.slice (some a3) n yw)).run P w=.ok (([]:List Value).toArray) w:=run_firstCells_some w i.size 0 a3 n yw [] (by simp) (fun j u h=>by simp at h);rw[← hs]at hc
   have fp:(Builtin.copy_ #[t,t'] o.type #[.slice (some ad) 0 cap,.slice (some a3) n yw]).run P w=.ok (goInt 0) w:=by
    simp[Builtin.copy_,run_underlying hd,sizeOf,typeInfo,hj,Builtin.lenOf,hc,storeCells]
   unfold wq;rw[Bh (η:=a.eval) ho (by rw[hv,hv3];exact fp)];have e:fG cs off ((kx.drop mV).take (0*i.size))=cs:=by rw[xr];rfl
   rw[e,Jq h1]at go;exact cz _ _ σ F w (.refl _ _) aG (.int _ _) go
  ·obtain⟨rfl,_⟩:ad=⟨b,off,none⟩∧off+cap*i.size≤c.size:=by
    rcases m4 with h | ⟨_,_,h,_⟩
    ·exact h
    ·exact absurd h gY
   obtain⟨rfl,_⟩:a3=⟨b2,mV,none⟩∧mV+yw*i.size≤c3.size:=by
    rcases p4 with h | ⟨_,_,h,_⟩
    ·exact h
    ·omega
   have eQ:At F w b2 mV ((kx.drop mV).take (len*i.size)):=by
    have:=(aG.at_ h3 ⟨c3,T3,Ij,p1⟩).drop mV;rw[dD]at this;intro i x hx;rw[qw]at hx;split at hx
    ·exact this i x hx
    ·cases hx
   have hl:((kx.drop mV).take (len*i.size)).length=len*i.size:=by simp;omega
   obtain⟨news,n1,n2,n3,n4⟩:=BZ eQ;have hc:(Builtin.firstCells i.size len (.slice (some ⟨b2,mV,none⟩) n yw)).run P w=.ok news.toArray w:=run_firstCells_some w i.size len _ n yw news (by rw[n1,hl]) (fun j u hj=>by rw[ox];exact n2 j u hj);rw[← hs]at hc;obtain⟨w',k1,k2,k3⟩:=I7 (P:=P) aG h1 (off:=off) ⟨_,_,_,m1⟩ ((kx.drop mV).take (len*i.size)) news n1.symm (by rw[hl];exact h2) n3
   have fp:(Builtin.copy_ #[t,t'] o.type #[.slice (some ⟨b,off,none⟩) len cap,.slice (some ⟨b2,mV,none⟩) n yw]).run P w=.ok (goInt len) w':=by
    simp[Builtin.copy_,run_underlying hd,sizeOf,typeInfo,hj,Builtin.lenOf,Nat.min_eq_right hn,hc,k1]
   unfold wq;rw[Bh (η:=a.eval) ho (by rw[hv,hv3];exact fp)];exact cz _ _ _ F w' k2 k3 (.int _ _) go
end
section
variable {P:Program} {TT:TypeId→Option TI}
theorem U7{F:Nat→Prop}{w:World}:∀(s:Sh) (d:s.T) (vs:List Value),vs.length=s.size→(∀(k:Nat) (x:AV),(s.cells d)[k]?=some x→aD F w x (vs.getD k undef))→kI F w s vs d:=by
 intro s
 induction s with
 |int k=>intro d vs hl h;match vs,hl with | [v],_=>have:=(h 0 _ rfl).gq;exact congrArg (fun x=>[x]) this
 |bool=>intro d vs hl h;match vs,hl with | [v],_=>have:=(h 0 _ rfl).qO;exact congrArg (fun x=>[x]) this
 |str=>intro d vs hl h;match vs,hl with | [v],_=>have:=(h 0 _ rfl).CB;exact congrArg (fun x=>[x]) this
 |nil=>intro d vs hl h;exact fE.1 hl
 |slice e ih=>
  intro d vs hl h
  match vs,hl with
  | [v],_=>
   have:=h 0 _ rfl;cases this with
   |ae _ _ _ h=>exact h
 |field f r qf jH=>
  intro d vs hl h;simp only[Sh.size]at hl;refine⟨vs.take f.size,vs.drop f.size,(List.take_append_drop _ _).symm,by simp;omega,qf d.1 _ (by simp;omega) (fun k x hk=>?_),jH d.2 _ (by simp;omega) (fun k x hk=>?_)⟩
  ·have qn:k<f.size:=by rw[← Sh.sK f d.1];exact (cW.1 hk).1
   have:=h k x (by show (f.cells d.1++r.cells d.2)[k]?=some x;rw[ku (by rw[Sh.sK];exact qn)];exact hk);rw[bK]at this ⊢;rw[qw,az qn];exact this
  ·have:=h (f.size+k) x (by show (f.cells d.1++r.cells d.2)[f.size+k]?=some x;rw[iL (by rw[Sh.sK];omega),Sh.sK,H5];exact hk);rw[bK]at this ⊢;rw[yY];exact this
theorem flat_get{α:Type}{f:α→List AV}{es:Nat}(hf:∀x,(f x).length=es):∀(l:List α) (i:Nat) (h:i<l.length) (k:Nat),k<es→(l.flatMap f)[i*es+k]?=(f l[i])[k]?
 | [],i,h,_,_=>by simp at h
 |y::l,0,h,k,hk=>by rw[List.flatMap_cons,List.getElem?_append_left (by rw[hf];omega)];simp
 |y::l,i+1,h,k,hk=>by
  rw[sD,iL (by rw[hf,rD];omega),hf,show (i+1)*es+k-es=i*es+k by rw[rD];omega];simpa using flat_get hf l i (by simpa using h) k hk
theorem aa5{F:Nat→Prop}{w:World}{σ:Hp}(aG:bA F w σ){j b off len es:Nat}{cs:List AV}{e:Sh}{l:List e.T}(h1:σ[j]?=some (b,cs))(h2:(cs.drop off).take (len*es)=l.flatMap e.cells)(h3:l.length=len∧e.size=es∧0<es){v:Value}(hv:aD F w (.af b off len es) v):
  aD (fun x=>F x∨x=b) w (.ae e l) v:=by
 obtain⟨hl,he,th⟩:=h3;have aq:bH F w (fun x=>F x∨x=b) w:=⟨rfl,rfl,rfl,bg _,fun _ h=>.inl h,fun _ _=>rfl,fun _ c _ fz h=>⟨c,fz,h,rfl⟩,bg _⟩
 obtain⟨a,cap,rfl,c,T,fz,m1,m2,m3,m4⟩:=hv.kK;subst hl;refine .ae e l _ ⟨some a,cap,rfl,m2,m3,(fun e=>by cases e),fun bf=>?_⟩;have lu:0<l.length:=l9.2 bf
 rcases m4 with ⟨rfl,yv⟩ | ⟨_,_,h0,_⟩
 ·refine⟨b,off,rfl,⟨.inr rfl,c,T,fz,m1⟩,fun i hi=>?_⟩
  have eQ:At F w b off ((cs.drop off).take (l.length*es)):=by
   have:=(aG.at_ h1 ⟨c,T,fz,m1⟩).drop off;rw[dD]at this;intro i x hx;rw[qw]at hx;split at hx
   ·exact this i x hx
   ·cases hx
  rw[h2]at eQ
  have jz:∀k,k<es→∃x v,(e.cells l[i])[k]?=some x∧w.cell? ⟨b,off+i*es+k,none⟩=some v∧aD F w x v:=by
   intro k hk;have hlen:k<(e.cells l[i]).length:=by rw[Sh.sK,he];exact hk
   have hx:=bu hlen;have:=flat_get (f:=e.cells) (es:=es) (fun d=>by rw[Sh.sK,he]) l i hi k hk;obtain⟨_,v,h4,h5⟩:=eQ (i*es+k) _ (this.trans hx);exact⟨_,v,hx,by rw[← h4,D8],h5⟩
  refine⟨(List.range es).map fun k=>(w.cell? ⟨b,off+i*es+k,none⟩).getD undef,by simp[he],fun k u hk=>?_,U7 e l[i] _ (by simp[he]) (fun k x hk=>?_)⟩
  ·have Dt:k<es:=by have:=(List.getElem?_eq_some_iff.1 hk).1;simpa using this
   obtain⟨x,v,_,h4,_⟩:=jz k Dt;simp[Dt,h4]at hk;rw[he,h4,hk]
  ·have Dt:k<es:=by have:=(cW.1 hk).1;rw[Sh.sK,he]at this;exact this
   obtain⟨x',v,h3,h4,h5⟩:=jz k Dt;rw[h3]at hk;cases hk;have:aD F w x v:=h5;simpa [List.getD,Dt,h4]using this.mono aq
 ·omega
theorem xI{F F':Nat→Prop}{w:World}{b off len es:Nat}{e:Sh}{l:List e.T}(aq:bH F w F' w)(hh:∀v,aD F w (.af b off len es) v→aD F' w (.ae e l) v){r r':AV}(h:eB b off len es e l r r'):∀v,aD F w r v→aD F' w r' v:=by
 induction h with
 |here=>exact hh
 |refl x=>exact fun v h=>h.mono aq
 |tup xs ys h hi ih=>
  intro v hv;cases hv with
  |tup _ vs hs hr=>
   refine .tup _ _ (by rw[← h];exact hs) (fun i y hy=>?_);have pg:i<xs.length:=by rw[h];exact (cW.1 hy).1
   exact ih i xs[i] y (bu pg) hy _ (hr i _ (bu pg))
 |agg xs ys h hl hi ih=>
  intro v hv;obtain⟨vs,rfl,hs,hr⟩:=hv.tp;refine .agg _ _ (by rw[← h];exact hs) hl (fun i y hy=>?_);have pg:i<xs.length:=by rw[h];exact (cW.1 hy).1
  exact ih i xs[i] y (bu pg) hy _ (hr i _ (bu pg)).2
 |nil e'=>
  intro v hv;cases hv;exact .ae e' [] _ ⟨none,0,rfl,bg _,by unfold maxLen;omega,fun _=>rfl,fun bf=>absurd rfl bf⟩
 |gz e'=>
  intro v hv;cases hv with
  |gz a c h=>exact .ae e' [] _ ⟨some a,c,rfl,aV _,h,(fun e=>by cases e),fun bf=>absurd rfl bf⟩
 |via h ih=>
  intro v hv;cases hv with
  |via _ _ _ hv=>exact ih v hv
theorem uw{F:Nat→Prop}{w:World}{σ:Hp}(aG:bA F w σ){j b off len es:Nat}{cs:List AV}{e:Sh}{l:List e.T}(h1:σ[j]?=some (b,cs))(h2:(cs.drop off).take (len*es)=l.flatMap e.cells)(h3:l.length=len∧e.size=es∧0<es):
  bH F w (fun x=>F x∨x=b) w∧bA (fun x=>F x∨x=b) w (σ.eraseIdx j)∧∀v,aD F w (.af b off len es) v→aD (fun x=>F x∨x=b) w (.ae e l) v:=by
 have aq:bH F w (fun x=>F x∨x=b) w:=⟨rfl,rfl,rfl,bg _,fun _ h=>.inl h,fun _ _=>rfl,fun _ c _ fz h=>⟨c,fz,h,rfl⟩,bg _⟩
 have nH:bA F w ((b,cs)::σ.eraseIdx j):=aG.perm (xG σ j (b,cs) h1);have cm:=nH.nodup;simp only[pn,mD]at cm
 have nQ:bA (fun x=>F x∨x=b) w (σ.eraseIdx j):=⟨cm.2,fun p hp=>(nH.holds p (dq _ hp)).mono aq rfl (fun hF=>by
  rcases hF with hF | hF
  ·exact (nH.holds p (dq _ hp)).1 hF
  ·exact cm.1 (eW.2 ⟨p,hp,hF⟩)),fun x hx=>by
  rcases hx with hx | hx
  ·exact aG.low x hx
  ·subst hx;exact (nH.holds (x,cs) (cF ..)).lt⟩
 exact⟨aq,nQ,fun v hv=>aa5 aG h1 h2 h3 hv⟩
end
section
variable {P:Program} {TT:TypeId→Option TI}
theorem IC{F:Nat→Prop}{w:World}{xs:Array Operand}{ρ:Operand→AV}{η:Operand→Value}(h:∀x∈xs.toList,aD F w (ρ x) (η x)):iS F w (xs.toList.map ρ) (xs.map η):=by
 refine⟨by simp,fun i x hi=>?_⟩;simp only[fD,vL]at hi;obtain⟨a,h1,rfl⟩:=hi;have ab:i<xs.size:=by have:=(List.getElem?_eq_some_iff.1 h1).1;simpa using this
 have:xs[i]=a:=by simpa [ab]using h1
 simpa [Array.getD,ab,this]using h a (List.mem_of_getElem? h1)
theorem Er{F:Nat→Prop}{w:World}{xs ys:List AV}{us vs:Array Value}(h:iS F w xs us)(k:iS F w ys vs):iS F w (xs++ys) (us++vs):=by
 refine⟨by simp[h.1,k.1],fun i x hi=>?_⟩;rw[gR]
 by_cases ab:i<xs.length
 ·rw[ku ab]at hi;rw[Ii (by rw[← h.1];exact ab),← gR];exact h.2 i x hi
 ·rw[iL (by omega)]at hi;rw[Array.getElem?_append_right (by rw[← h.1];omega),← gR,← h.1];exact k.2 _ x hi
theorem Pe{F:Nat→Prop}{w:World}{x:AV}{v:Value}(h:aD F w x v):iS F w [x] #[v]:=⟨rfl,fun i y hi=>by cases i <;> simp at hi;subst hi;exact h⟩
theorem Ez{o:Oper}{ρ:Operand→AV}{σ:Hp}{K:AV→Hp→Prop}(h:jW P o (fun x=>bV (ρ x)) σ K):jW P o ρ σ K:=fun a F w hx=>h a F w (fun x hm=>(hx x hm).bV)
theorem NX{o:Oper}{c:Call}(ho:o.op=.call c){ρ:Operand→AV}{K:FuncId→List AV→Prop}{KY:Nat→List AV→Prop}(h:pI P c ρ K KY):
  (∃l xs,KY l xs∧∀(η:Operand→Value) (F:Nat→Prop) (w:World),(∀x∈o.op.operands.toList,aD F w (ρ x) (η x))→∃vs,iS F w xs vs∧execOp η o=Instr.yield l vs)∨∃f xs,K f xs∧∀(η:Operand→Value) (F:Nat→Prop) (w:World),(∀x∈o.op.operands.toList,aD F w (ρ x) (η x))→∃vs,iS F w xs vs∧(Enters P f→(execOp η o).run P w=.ok (.enter f vs) w):=by
 unfold pI at h;split at h
 ·rename_i f0 hc
  split at h
  ·rename_i g first cap hf
   refine .inr ⟨g,_,h,fun η F w hx=>?_⟩;have h1:=hx f0 (by simp[ho,Op.operands,Call.operands,hc]);rw[hf]at h1;have h2:=IC (xs:=c.args) (ρ:=fun x=>bV (ρ x)) (η:=η) (F:=F) (w:=w) (fun x hm=>(hx x (by simp only[ho,Op.operands,Call.operands,hc,A8,bQ];exact .inr hm)).bV);cases hv:η f0 with
   |func f' v1 v2=>
    rw[hv]at h1;obtain⟨rfl,r1,r2⟩:f'=.func g∧iS F w first v1∧iS F w cap v2:=by cases h1 with | fn _ _ _ _ _ fj dw h1 h2=>exact⟨rfl,⟨fj,h1⟩,⟨dw,h2⟩⟩
    refine⟨v1++c.args.map η++v2,Er (Er r1 h2) r2,fun he=>?_⟩;simp only[execOp,ho,resolve,hc,Deferred.ofValue,hv,Sem.run_bind,Sem.run_pure,Result.andThen_ok,invoke];exact he _ _
   |_=>rw[hv]at h1;cases h1
  ·rename_i l hf
   refine .inl ⟨l,_,h,fun η F w hx=>?_⟩;have h1:=hx f0 (by simp[ho,Op.operands,Call.operands,hc]);rw[hf]at h1;have h2:=IC (xs:=c.args) (ρ:=fun x=>bV (ρ x)) (η:=η) (F:=F) (w:=w) (fun x hm=>(hx x (by simp only[ho,Op.operands,Call.operands,hc,A8,bQ];exact .inr hm)).bV);cases hv:η f0 with
   |func f' v1 v2=>
    rw[hv]at h1;obtain⟨rfl,r1,r2⟩:f'=.yield l∧v1 = #[]∧v2 = #[]:=by cases h1 with | fn _ _ _ _ _ fj dw h1 h2=>exact⟨rfl,D9.1 fj.symm,D9.1 dw.symm⟩
    subst r1 r2;refine⟨c.args.map η,h2,?_⟩;simp only[execOp,ho,resolve,hc,Deferred.ofValue,hv,pure_bind,invoke];simp
   |_=>rw[hv]at h1;cases h1
  ·exact h.elim
 ·rename_i r m hc
  have fin:∀(t:TypeId) (v:AV),ρ r=.iface t v→InvAt P t m v (fun g u=>K g (u::c.args.toList.map fun x=>bV (ρ x)))→
    ∃f xs,K f xs∧∀(η:Operand→Value) (F:Nat→Prop) (w:World),(∀x∈o.op.operands.toList,aD F w (ρ x) (η x))→∃vs,iS F w xs vs∧(Enters P f→(execOp η o).run P w=.ok (.enter f vs) w):=by
   rintro t v hr ⟨g,rv,hm,go⟩;refine⟨g,_,go,fun η F w hx=>?_⟩;have h1:=hx r (by simp[ho,Op.operands,Call.operands,hc]);rw[hr]at h1;have h2:=IC (xs:=c.args) (ρ:=fun x=>bV (ρ x)) (η:=η) (F:=F) (w:=w) (fun x hm=>(hx x (by simp only[ho,Op.operands,Call.operands,hc,A8,bQ];exact .inr hm)).bV);cases hv:η r with
   |iface t' u=>
    rw[hv]at h1;obtain⟨rfl,hu⟩:t'=t∧aD F w v u:=by cases h1 with | iface _ _ _ h=>exact⟨rfl,h⟩
    obtain⟨ru,qk,hmr⟩:=Yf hm hu;refine⟨#[ru]++c.args.map η,(show iS F w ([rv]++c.args.toList.map fun x=>bV (ρ x)) _ from Er (Pe qk) h2),fun he=>?_⟩
    have hex:(#[η r]++c.args.map η).extract 1 (#[η r]++c.args.map η).size=c.args.map η:=by
     apply Array.ext';simp;exact List.take_of_length_le (by simp)
    have h0:(#[η r]++c.args.map η)[0]?=some (η r):=by rw[Array.getElem?_append_left (by simp)];rfl
    have hinv:invoke (.fn (.method m) #[]) (#[η r]++c.args.map η)=callMethod (η r) m (c.args.map η):=by
     unfold invoke;simp only[h0];exact congrArg (callMethod (η r) m) hex
    have vu:(callMethod (η r) m (c.args.map η)).run P w=.ok (.enter g (#[ru]++c.args.map η)) w:=by
     rw[hv];unfold callMethod;have aW:=hmr w;simp only[Sem.run_bind,run_program,Result.andThen_ok,aW];exact he _ _
    simp only[execOp,ho,resolve,hc,Sem.run_bind,Sem.run_pure,Result.andThen_ok,hinv,vu]
   |_=>rw[hv]at h1;cases h1
  split at h
  ·rename_i t v hr
   exact .inr <| fin t _ hr h
  ·exact h.elim
 ·exact h.elim
theorem BF{F F':Nat→Prop}{w:World}{σ:Hp}(aG:bA F' w σ){b off len es:Nat}{e:Sh}{l:List e.T}(hh:∀v,aD F w (.af b off len es) v→aD F' w (.ae e l) v){i k b':Nat}{cs:List AV}(hi:σ[i]?=some (b',cs))(hk:cs[k]?=some (.af b off len es)):bA F' w (σ.set i (b',cs.set k (.ae e l))):=by
 have ab:i<σ.length:=(cW.1 hi).1
 have Cn:(σ.set i (b',cs.set k (.ae e l))).map Prod.fst=σ.map Prod.fst:=by
  rw[sB];apply yW;intro n;rw[gQ];split
  ·rename_i e;subst e
   have:=(cW.1 hi).2;simp[ab,this]
  ·rfl
 refine⟨Cn▸aG.nodup,fun p hm=>?_,aG.low⟩
 rcases A7 hm with hm | rfl
 ·exact aG.holds p hm
 ·obtain⟨hF,c,T,h1,h2,h3⟩:=(aG.holds _ (dz hi)).KM hk rfl;refine⟨hF,.inl ⟨c,T,h1,by simpa using h2,fun n x hn=>?_⟩⟩;rw[gQ]at hn;split at hn
  ·rename_i e;subst e
   split at hn
   ·cases hn;refine⟨rfl,hh _ ?_⟩;have:=(h3 k _ hk).2;revert this;generalize c.getD k undef=v;intro this;cases this with
    |af _ _ _ _ a cap h=>exact .af _ _ _ _ a cap h
   ·cases hn
  ·exact h3 n x hn
theorem tY{f:FuncId}{xs:List AV}{σ:Hp}{K:AV→Hp→Prop}(h:CallAt P f K xs σ):ACalls P f xs σ K:=by
 induction h with
 |mk js R call go=>
  obtain⟨nT,eO⟩:=call;refine⟨nT,fun F w vs bY aG=>(eO F w vs bY (aG.perm (xM js _))).mono ?_⟩;rintro e w' ⟨r,v,σ',F',rfl,h1,h2,h3,h4⟩;exact⟨r,v,σ',F',rfl,h1,h2,h3,go r σ' h4⟩
 |perm R hp call go=>
  obtain⟨nT,eO⟩:=call;refine⟨nT,fun F w vs bY aG=>(eO F w vs bY (aG.perm hp)).mono ?_⟩;rintro e w' ⟨r,v,σ',F',rfl,h1,h2,h3,h4⟩;obtain⟨ee,k1,k2⟩:=go r σ' h4;exact⟨r,v,ee,F',rfl,h1,h2.perm k1,h3,k2⟩
 |jZ j b off len es cs e l h1 h2 h3 i k b' cs' hi hk h ih=>
  obtain⟨nT,eO⟩:=ih;refine⟨nT,fun F w vs bY aG =>?_⟩;obtain⟨aq,nQ,hh⟩:=uw aG h1 h2 h3;refine (eO _ w vs (bY.mono aq) (BF nQ hh hi hk)).mono ?_;rintro e w' ⟨r,v,σ',F',rfl,q1,q2,q3,q4⟩;exact⟨r,v,σ',F',rfl,aq.trans q1,q2,q3,q4⟩
 |cb j b off len es cs e l h1 h2 h3 h4 h ih=>
  obtain⟨nT,eO⟩:=ih;refine⟨nT,fun F w vs bY aG =>?_⟩;obtain⟨aq,nQ,hh⟩:=uw aG h1 h2 h3;have hv:=xI aq hh h4 (.tuple vs) (.tup _ _ bY.1 bY.2);cases hv with
  |tup _ _ hs hr=>
   refine (eO _ w vs ⟨hs,hr⟩ nQ).mono ?_;rintro e w' ⟨r,v,σ',F',rfl,h1,h2,h3,h4⟩;exact⟨r,v,σ',F',rfl,aq.trans h1,h2,h3,h4⟩
theorem Vx{o:Oper}{c:Call}(ho:o.op=.call c){ρ:Operand→AV}{σ:Hp}{K:AV→Hp→Prop}(h:pI P c ρ (fun f xs=>CallAt P f K xs σ) (fun l xs=>wj P l K xs σ)):jW P o ρ σ K:=by
 rcases NX ho h with ⟨l,xs,hc,fp⟩ | ⟨f,xs,hc,fp⟩
 ·intro a F w hx aG next Q hn;obtain⟨vs,bY,hr⟩:=fp a.eval F w hx;unfold wq;rw[hr];cases hc with
  |mk js R call go=>
   obtain⟨f,tmps,assign,body,h1,h2⟩:=call F w vs bY (aG.perm (xM js σ));rw[h1];refine RoundIn.mono h2 ?_;rintro e w' ⟨r,v,σ',F',rfl,h1,h2,h3,h4⟩;exact⟨v,rfl,hn v r σ' F' w' h1 h2 h3 (go _ _ h4)⟩
  |perm R hp call go=>
   obtain⟨f,tmps,assign,body,h1,h2⟩:=call F w vs bY (aG.perm hp);rw[h1];refine RoundIn.mono h2 ?_;rintro e w' ⟨r,v,σ',F',rfl,h1,h2,h3,h4⟩;obtain⟨ee,k1,k2⟩:=go _ _ h4;exact⟨v,rfl,hn v r ee F' w' h1 (h2.perm k1) h3 k2⟩
 obtain⟨nT,eO⟩:=tY hc;intro a F w hx aG next Q hn;obtain⟨vs,bY,hr⟩:=fp a.eval F w hx;unfold wq;rw[hr nT];refine (eO F w vs bY aG).mono ?_;rintro e w' ⟨r,v,σ',F',rfl,h1,h2,h3,h4⟩;exact⟨v,rfl,hn v r σ' F' w' h1 h2 h3 h4⟩
theorem Vg{o:Oper}{t:TypeId}(ho:o.op=.makeMap t none){ρ:Operand→AV}{σ:Hp}{K:AV→Hp→Prop}(hk:∀b,K (.mX b) ((b,[.nP []])::σ)):jW P o ρ σ K:=by
 intro a F w hx aG next Q hn
 have fp:(execOp a.eval o).run P w=.ok (.value (.map (some w.heap.size))) (w.alloc (.map #[] 0)):=by
  have e:(Instr.makeMap t none).run P w=.ok (.map (some w.heap.size)) (w.alloc (.map #[] 0)):=rfl;simp[execOp,ho,e,Result.andThen]
 unfold wq;rw[fp];have hold:∀b,b<w.heap.size→(w.alloc (.map #[] 0)).heap[b]?=w.heap[b]?:=fun b hb=>Below.heap_alloc _ _ b hb;have aq:bH F w F (w.alloc (.map #[] 0)):=xJ aG.low rfl rfl rfl (by simp) hold;have hr:=aG.same aq hold;have fP:(w.alloc (.map #[] 0)).heap[w.heap.size]?=some (.map #[] 0):=wh _ _;refine hn _ (.mX w.heap.size) _ F _ aq ⟨?_,fun p hm=>?_,hr.low⟩ (.mX _) (hk _)
 ·simp only[pn,mD];refine⟨fun hm=>?_,aG.nodup⟩;obtain⟨p,hp,e⟩:=eW.1 hm;have:=(aG.holds p hp).lt;omega
 ·rcases dW.1 hm with rfl | hm
  ·exact⟨fun hF=>HH _ (aG.low _ hF),.inr (.inl ⟨_,_,rfl,fP,rfl⟩)⟩
  ·exact hr.holds p hm
theorem OH{σ:Hp}{F:Nat→Prop}{w:World}(h:bA F w σ){j b:Nat}{x x':AV}{o o':Obj}(ho:wJ x=some o)(gd:wJ x'=some o')(hj:σ[j]?=some (b,[x])):
  bH F w F { w with heap:=w.heap.setIfInBounds b o' }∧bA F { w with heap:=w.heap.setIfInBounds b o' } (σ.set j (b,[x'])):=by
 obtain⟨hb,hc⟩:=(h.holds (b,[x]) (dz hj)).GN ho;have ab:j<σ.length:=(cW.1 hj).1;obtain⟨Hl,hw⟩:=MapKept.heap_set (o':=o') hc
 have aq:bH F w F { w with heap:=w.heap.setIfInBounds b o' }:=⟨rfl,rfl,rfl,by simp,fun _ h=>h,fun k hF=>hw k (fun e=>hb (e▸hF)),fun k d S fz hk=>by
  by_cases e:k=b
  ·subst e;rw[hc]at hk;cases hk;exact (OM ho).elim
  ·exact⟨d,fz,(hw k e).trans hk,rfl⟩,bg _⟩
 have Cn:(σ.set j (b,[x'])).map Prod.fst=σ.map Prod.fst:=by
  rw[sB];apply yW;intro k;rw[gQ];split
  ·rename_i e;subst e
   simp[ab];have:=(cW.1 hj).2;rw[this]
  ·rfl
 refine⟨aq,⟨Cn▸h.nodup,fun p hm=>?_,fun k hF=>by simpa using h.low k hF⟩⟩;obtain⟨k,hk⟩:=yZ.1 hm;rw[gQ]at hk;split at hk
 ·rename_i e;subst e
  simp at hk;obtain⟨_,rfl⟩:=hk;exact⟨hb,.inr (.inl ⟨_,_,rfl,Hl,gd⟩)⟩
 ·rename_i bf
  have aW:=dz hk
  have qm:p.1≠b:=fun e=>by
   have cm:=h.nodup;have h1:(σ.map Prod.fst)[k]?=some b:=by rw[List.getElem?_map,hk];simp[e]
   have h2:(σ.map Prod.fst)[j]?=some b:=by rw[fD,hj];rfl
   have gw:k<(σ.map Prod.fst).length:=(cW.1 h1).1;have:=(List.getElem?_inj (i:=k) (j:=j) gw cm).1 (h1.trans h2.symm);exact bf this.symm
  exact (h.holds p aW).mono aq (hw _ qm) (h.holds p aW).1
theorem WE{σ:Hp}{F:Nat→Prop}{w:World}(h:bA F w σ){j b:Nat}{l l':List (Int×Int)}(hj:σ[j]?=some (b,[.nP l])):
  bH F w F { w with heap:=w.heap.setIfInBounds b (.map (fZ 0 l').toArray l'.length) }∧bA F { w with heap:=w.heap.setIfInBounds b (.map (fZ 0 l').toArray l'.length) } (σ.set j (b,[.nP l'])):=OH h rfl rfl hj
theorem NS(ok:dP P TT){o:Oper}{t:TypeId}{m k x:Operand}(ho:o.op=.mapUpdate t m k x∨o.op=.insert t m k x){ρ:Operand→AV}{σ:Hp}{K:AV→Hp→Prop}(h:zy TT t (bV (ρ m)) (bV (ρ k)) (bV (ρ x)) σ K):jW P o ρ σ K:=by
 intro a F w hx aG next Q hn;unfold zy at h;split at h
 ·rename_i z n v hz hk Az
  obtain⟨kt,et,h1,h2,h3⟩:=I5 ok hz;obtain⟨j,b,l,hm,hj,go⟩:=h;have yq:m∈o.op.operands.toList∧k∈o.op.operands.toList∧x∈o.op.operands.toList:=by rcases ho with ho | ho <;> simp[ho,Op.operands]
  have a1:=(hx m yq.1).bV;rw[hm]at a1;have a2:=(hx k yq.2.1).bV;rw[hk]at a2;have a3:=(hx x yq.2.2).bV;rw[Az]at a3;have e1:a.eval m=.map (some b):=a1.KJ;have e2:a.eval k=.int .i64 n:=a2.gq;have e3:a.eval x=.int .i64 v:=a3.gq;obtain⟨_,hb⟩:=(aG.holds _ (dz hj)).CJ
  have fp:(execOp a.eval o).run P w=.ok .skip { w with heap:=w.heap.setIfInBounds b (.map (fZ 0 (qV l n v)).toArray (qV l n v).length) }:=by
   rcases ho with ho | ho <;> simp[execOp,ho,e1,e2,e3,VH h1 h2 hb n v,Result.andThen]
  unfold wq;rw[fp];obtain⟨s1,s2⟩:=WE aG (l':=qV l n v) hj;exact hn undef .any _ F _ s1 s2 (.any _) go
 ·exact h.elim
theorem Jf:∀(l:List (Int×Int)) (m:Nat) (e:MapEntry),e∈fZ m l→∃(i:Nat) (p:Int×Int),l[i]?=some p∧e = { key:=.int .i64 p.1,val:=.int .i64 p.2,born:=m+i }
 | [],_,_,h=>by cases h
 |p::l,m,e,h=>by
  rcases dW.1 h with rfl | h
  ·exact⟨0,p,rfl,rfl⟩
  ·obtain⟨i,q,h1,h2⟩:=Jf l (m+1) e h;exact⟨i+1,q,h1,by rw[h2];simp only[MapEntry.mk.injEq,true_and];omega⟩
theorem QW{l:List (Int×Int)}{m i:Nat}{p:Int×Int}(h:l[i]?=some p):({ key:=.int .i64 p.1,val:=.int .i64 p.2,born:=m+i }:MapEntry)∈fZ m l:=
 dz (i:=i) (by rw[Jy,h];rfl)
theorem O3:∀(l:List (Int×Int)) (m:Nat),((fZ m l).map (·.born)).Nodup∧∀x∈(fZ m l).map (·.born),m≤x
 | [],_=>⟨H7,fun _ h=>by cases h⟩
 |p::l,m=>by
  obtain⟨h1,h2⟩:=O3 l (m+1);refine⟨mD.2 ⟨fun hm=>?_,h1⟩,fun x hx=>?_⟩
  ·have:=h2 _ hm;exact Nat.not_succ_le_self _ this
  ·rcases dW.1 hx with rfl | hx
   ·exact bg _
   ·exact Nat.le_of_succ_le (h2 _ hx)
theorem U9(ok:dP P TT){o:Oper}{t:TypeId}{x:Operand}(ho:o.op=.range t x){ρ:Operand→AV}{σ:Hp}{K:AV→Hp→Prop}(h:FV TT t (bV (ρ x)) σ K):jW P o ρ σ K:=by
 intro a F w hx aG next Q hn;unfold FV at h;split at h
 ·rename_i z hz
  obtain⟨kt,et,h1,h2,h3⟩:=I5 ok hz;obtain⟨j,b,l,hm,hj,go⟩:=h;have a1:=(hx x (by simp[ho,Op.operands])).bV;rw[hm]at a1;have e1:a.eval x=.map (some b):=a1.KJ;obtain⟨_,hb⟩:=(aG.holds _ (dz hj)).CJ
  have fp:(execOp a.eval o).run P w=.ok (.value (.pointer (some ⟨w.heap.size,0,none⟩))) (w.alloc (.mapIter (some b) l.length #[] l.length)):=by
   have e:=run_range_map (P:=P) w t kt et b _ _ h1 hb;simp[execOp,ho,e1,e,Result.andThen]
  unfold wq;rw[fp];have hold:∀k,k<w.heap.size→(w.alloc (.mapIter (some b) l.length #[] l.length)).heap[k]?=w.heap[k]?:=fun k hk=>Below.heap_alloc _ _ k hk;have aq:bH F w F (w.alloc (.mapIter (some b) l.length #[] l.length)):=xJ aG.low rfl rfl rfl (by simp) hold;have hr:=aG.same aq hold;have fP:(w.alloc (.mapIter (some b) l.length #[] l.length)).heap[w.heap.size]?=some (.mapIter (some b) l.length #[] l.length):=wh _ _;refine hn _ (.nk w.heap.size) _ F _ aq ⟨?_,fun p hm=>?_,hr.low⟩ (.nk _) (go _)
  ·simp only[pn,mD];refine⟨fun hm=>?_,aG.nodup⟩;obtain⟨p,hp,e⟩:=eW.1 hm;have:=(aG.holds p hp).lt;omega
  ·rcases dW.1 hm with rfl | hm
   ·exact⟨fun hF=>HH _ (aG.low _ hF),.inr (.inl ⟨_,_,rfl,fP,rfl⟩)⟩
   ·exact hr.holds p hm
 ·exact h.elim
theorem WG{σ:Hp}{F:Nat→Prop}{w:World}(h:bA F w σ):bH F w F w.drew∧bA F w.drew σ:=by
 have aq:bH F w F w.drew:=⟨rfl,rfl,rfl,bg _,fun _ h=>h,fun _ _=>rfl,fun k d S fz hk=>⟨d,fz,hk,rfl⟩,Nat.le_succ _⟩
 exact⟨aq,h.nodup,fun p hp=>(h.holds p hp).mono aq rfl (h.holds p hp).1,h.low⟩
theorem Vf{o:Oper}{x:Operand}(ho:o.op=.next x false){ρ:Operand→AV}{σ:Hp}{K:AV→Hp→Prop}(h:KC σ (bV (ρ x)) K):jW P o ρ σ K:=by
 intro a F w hx aG next Q hn;obtain⟨j,j2,r,b,l,seen,hm,h1,h2,stop,go⟩:=h;have a1:=(hx x (by simp[ho,Op.operands])).bV;rw[hm]at a1;have e1:a.eval x=.pointer (some ⟨r,0,none⟩):=a1.Uk;obtain⟨_,hr⟩:=(aG.holds _ (dz h1)).GN rfl;obtain⟨_,hb⟩:=(aG.holds _ (dz h2)).CJ
 have afc:∀x∈(fZ 0 l).toArray.toList,x.born<l.length:=fun x hx=>by
  obtain⟨i,p,hi,rfl⟩:=Jf l 0 x hx;show 0+i<_;have:=(cW.1 hi).1;omega
 unfold wq
 rcases run_next_at (P:=P) w o.type r b l.length l.length seen.toArray _ _ hr hb afc (bg _) with ⟨hz,fp⟩ | ⟨e,he,w1,hw1,fp⟩
 ·have Cl:(execOp a.eval o).run P w=.ok (.value (.tuple #[.bool false])) w:=by simp[execOp,ho,e1,fp,Result.andThen]
  rw[Cl];refine hn _ (.tup [.bool false]) σ F w (bH.refl _ _) aG (.tup _ _ rfl fun i y hy=>?_) (stop fun i hi=>?_)
  ·match i,hy with
   | 0,hy=>cases hy;exact .bool _
   |i+1,hy=>simp at hy
  ·have hz:leftOf (fZ 0 l).toArray seen.toArray = #[]:=H9 hz;unfold leftOf at hz;rw[Array.filter_eq_empty_iff]at hz;have:=hz _ (by simpa using QW (m:=0) (List.getElem?_eq_getElem hi));simpa using this
 ·have Cl:(execOp a.eval o).run P w=.ok (.value (.tuple #[.bool true,e.key,e.val])) (Go.ChangeMaps.setBlock w1 r (.mapIter (some b) l.length (seen.toArray.push e.born) l.length)):=by simp[execOp,ho,e1,fp,Result.andThen]
  rw[Cl];unfold leftOf at he;have he2:e∈fZ 0 l∧e.born ∉ seen:=by simpa using he
  obtain⟨i,p,hi,rfl⟩:=Jf l 0 e he2.1;have hns:i ∉ seen:=by simpa using he2.2
  have hw:bH F w F w1∧bA F w1 σ:=by
   rcases hw1 with rfl | rfl
   ·exact⟨bH.refl _ _,aG⟩
   ·exact WG aG
  obtain⟨s1,s2⟩:=OH (x':=.r9 b l.length (seen++[i])) hw.2 rfl rfl h1;have e2:(seen++[i]).toArray=seen.toArray.push (0+i):=by simp
  rw[e2]at s1 s2;refine hn _ (.tup [.bool true,.int .i64 p.1,.int .i64 p.2]) _ F _ (hw.1.trans s1) s2 (.tup _ _ rfl fun k y hy=>?_) (go i p hi hns)
  match k,hy with
  | 0,hy=>cases hy;exact .bool _
  | 1,hy=>cases hy;exact .int _ _
  | 2,hy=>cases hy;exact .int _ _
  |k+3,hy=>simp at hy
theorem Vb{o:Oper}{x:Operand}(ho:o.op=.entry x){ρ:Operand→AV}{σ:Hp}{K:AV→Hp→Prop}(h:Ke σ (bV (ρ x)) K):jW P o ρ σ K:=by
 intro a F w hx aG next Q hn;obtain⟨j,j2,r,b,i,l,p,seen,hm,h1,h2,h3,go⟩:=h;have a1:=(hx x (by simp[ho,Op.operands])).bV;rw[hm]at a1;have e1:a.eval x=.pointer (some ⟨r,0,none⟩):=a1.Uk;obtain⟨_,hr⟩:=(aG.holds _ (dz h1)).GN rfl;obtain⟨_,hb⟩:=(aG.holds _ (dz h2)).CJ
 have hr:w.heap[r]?=some (.mapIter (some b) l.length (seen.toArray.push (0+i)) l.length):=by
  rw[hr];simp
 have fp:=run_entry_at (P:=P) w r b l.length seen.toArray (fZ 0 l).toArray l.length { key:=.int .i64 p.1,val:=.int .i64 p.2,born:=0+i } hr hb (by simpa using QW (m:=0) h3) (by simpa using (O3 l 0).1);have Cl:(execOp a.eval o).run P w=.ok (.value (.tuple #[.int .i64 p.1,.int .i64 p.2])) w:=by simp[execOp,ho,e1,fp,Result.andThen]
 unfold wq;rw[Cl];refine hn _ (.tup [.int .i64 p.1,.int .i64 p.2]) σ F w (bH.refl _ _) aG (.tup _ _ rfl fun k y hy=>?_) go
 match k,hy with
 | 0,hy=>cases hy;exact .int _ _
 | 1,hy=>cases hy;exact .int _ _
 |k+2,hy=>simp at hy
theorem IZ(ok:dP P TT){o:Oper}{ρ:Operand→AV}{σ:Hp}{K:AV→Hp→Prop}(h:gM P TT o.op ρ σ K):jW P o ρ σ K:=by
 have dd:fB P TT o.op ρ σ (fun v=>K v σ)→jW P o ρ σ K:=fun h=>by
  obtain⟨v,h1,h2⟩:=ER ok h;exact Vh h2 h1
 generalize lv:o.op=op at h dd;unfold gM at h;split at h
 ·split at h
  ·rename_i cs hc;exact YL lv hc h
  ·exact h.elim
 ·split at h
  ·rename_i i hi;exact We ok lv hi h
  ·exact h.elim
 ·split at h
  ·rename_i e sz qz z0 ht
   split at h
   ·rename_i i hi
    split at h
    ·rename_i cs hf fj dw
     exact U4 ok lv ht rfl hi hf (cj fj) (cj dw) h
    ·exact h.elim
   ·exact h.elim
  ·exact h.elim
 ·split at h
  ·rename_i e sz qz z0 k n k' m ht hl hc
   split at h
   ·rename_i i hi
    exact U5 ok lv ht rfl hi hl hc h.fact h.go
   ·exact h.elim
  ·exact h.elim
 ·split at h
  ·rename_i i hi
   split at h
   ·rename_i b off hp;exact VC ok lv hi hp h
   ·exact h.elim
  ·exact h.elim
 ·split at h
  ·exact Vg lv h
  ·exact h.elim
 ·exact NS ok (.inl lv) h
 ·exact NS ok (.inr lv) h
 ·exact U9 ok lv h
 ·split at h
  ·exact Vf lv h
  ·exact h.elim
 ·exact Vb lv h
 ·rename_i args cS
  split at h
  ·rename_i s x t t' KS Un
   obtain rfl:args = #[s,x]:=by cases args;simp_all
   obtain rfl:cS = #[t,t']:=by cases cS;simp_all
   split at h
   ·rename_i e s1 b1 z1 e' s2 b2 z2 ht nm
    split at h
    ·rename_i i hi;exact Ez (Vy ok lv ht rfl nm rfl hi (ρ:=fun x=>bV (ρ x)) h)
    ·exact h.elim
   ·rename_i e s1 b1 z1 k' s2 b2 z2 ht nm
    split at h
    ·rename_i i hi;exact Ez (Vn ok lv ht rfl nm rfl hi (ρ:=fun x=>bV (ρ x)) h)
    ·exact h.elim
   ·exact h.elim
  ·exact h.elim
 ·rename_i args cS
  split at h
  ·rename_i s t KS Un
   obtain rfl:args = #[s]:=by cases args;simp_all
   obtain rfl:cS = #[t]:=by cases cS;simp_all
   split at h
   ·rename_i e s1 b1 z1 ht
    split at h
    ·rename_i i hi;exact Ez (V9 ok lv ht rfl hi (ρ:=fun x=>bV (ρ x)) h)
    ·exact h.elim
   ·exact h.elim
  ·exact h.elim
 ·rename_i args cS
  split at h
  ·rename_i d x t t' KS Un
   obtain rfl:args = #[d,x]:=by cases args;simp_all
   obtain rfl:cS = #[t,t']:=by cases cS;simp_all
   split at h
   ·rename_i e s1 b1 z1 e' s2 b2 z2 ht nm
    split at h
    ·rename_i i hi;exact Ez (Xk ok lv ht rfl nm rfl hi (ρ:=fun x=>bV (ρ x)) h)
    ·exact h.elim
   ·exact h.elim
  ·exact h.elim
 ·exact dd h
 ·exact Vx lv h
 ·exact dd h
def tq(F:Nat→Prop)(w:World)(t:Tm)(a:Act):Prop:=∀i,aD F w (t i) (a.tmps.getD i undef)
theorem tq.mono{F F':Nat→Prop}{w w':World}{t:Tm}{a:Act}(h:tq F w t a)(aq:bH F w F' w'):tq F' w' t a:=fun i=>(h i).mono aq
theorem tq.put{F:Nat→Prop}{w:World}{t:Tm}{a:Act}(h:tq F w t a){d:Option Tmp}{x:AV}{v:Value}(hx:aD F w x v)(hd:∀i,d=some i→i<a.tmps.size):tq F w (put t d x) (a.put d v):=by
 cases d with
 |none=>exact h
 |some d=>
  intro i;show aD F w (match Nat.beq i d with | true=>x | false=>t i) ((a.tmps.setIfInBounds d v).getD i undef);have cu:=hd d rfl;cases hb:Nat.beq i d with
  |true=>
   have:=ju hb;subst this;simpa [Array.getD,cu]using hx
  |false=>
   have bf:d≠i:=fun e=>by subst e;rw[xq]at hb;cases hb
   have:=h i;rw[gR]at this ⊢;rw[Ib bf];exact this
theorem oq{F:Nat→Prop}{w:World}(v:Value):aD F w (zH v) v:=by
 cases v with
 |int k n=>exact .int _ _
 |bool b=>exact .bool _
 |string s=>exact .str _
 |pointer a=>cases a <;> first | exact .cR | exact .any _
 |slice a l c=>cases a <;> cases l <;> cases c <;> first | exact .ag | exact .any _
 |nilIface=>exact .nilif
 |nilFunc=>exact .iE
 |map a=>cases a <;> first | exact .oW | exact .any _
 |_=>exact .any _
theorem Rf{F:Nat→Prop}{w:World}{t:Tm}{a:Act}(x:Operand)(h:∀i,x=.tmp i→aD F w (t i) (a.tmps.getD i undef)):aD F w (ev t x) (a.eval x):=by
 cases x with
 |tmp i=>exact h i rfl
 |const v=>
  show aD F w (TH v) v;cases v with
  |agg cs=>
   show aD F w (match (cs.toList.map zH).all AV.leaf with | true=>.agg (cs.toList.map zH) | false=>.any) _;split
   ·rename_i hl
    refine .agg _ _ (by simp) (fun i x hx=>?_) (fun i x hx=>?_)
    ·exact fq.1 hl x (dz hx)
    ·simp only[fD,vL]at hx;obtain⟨v,hv,rfl⟩:=hx;have ab:i<cs.size:=by have:=(List.getElem?_eq_some_iff.1 hv).1;simpa using this
     have:cs[i]=v:=by simpa [ab]using hv
     simpa [Array.getD,ab,this]using oq v
   ·exact .any _
  |tuple vs=>
   show aD F w (match vs.toList with | []=>.tup [] | _=>.any) _;split
   ·rename_i h0
    exact .tup _ _ (by simp at h0;simp[h0]) (fun i x h=>by simp at h)
   ·exact .any _
  |int k n=>exact oq (.int k n)
  |bool b=>exact oq (.bool b)
  |string x=>exact oq (.string x)
  |float k b=>exact oq (.float k b)
  |complex k b c=>exact oq (.complex k b c)
  |pointer x=>exact oq (.pointer x)
  |slice x l c=>exact oq (.slice x l c)
  |map x=>exact oq (.map x)
  |chan x=>exact oq (.chan x)
  |func f x y=>exact oq (.func f x y)
  |nilFunc=>exact oq .nilFunc
  |iface t x=>exact oq (.iface t x)
  |nilIface=>exact oq .nilIface
 |global g=>exact .any _
 |func f=>exact .fn _ _ _ _ _ rfl rfl (fun i x h=>by simp at h) (fun i x h=>by simp at h)
theorem tq.eval{F:Nat→Prop}{w:World}{t:Tm}{a:Act}(h:tq F w t a)(x:Operand):aD F w (ev t x) (a.eval x):=Rf x fun i _=>h i
end
section
variable {P:Program} {TT:TypeId→Option TI}
structure Marks(B:Nat)(F:Nat→Prop)(w:World)(ds:List Deferred):Prop where
 low:B≤w.heap.size
 nodup:ds.Nodup
 is:∀d∈ds,∃D,d = { target:=.collected D,args:= #[] }∧B≤D∧F D∧w.heap[D]?=some (.deferred (some []))
theorem Marks.mono{B:Nat}{F F':Nat→Prop}{w w':World}{ds:List Deferred}(h:Marks B F w ds)(aq:bH F w F' w'):Marks B F' w' ds:=
 ⟨dE h.low aq.size,h.nodup,fun d hd=>by
  obtain⟨D,h1,h2,h3,h4⟩:=h.is d hd
  exact⟨D,h1,h2,aq.sub D h3,(aq.fix D h3).trans h4⟩⟩
structure dC(B n:Nat)(F:Nat→Prop)(w:World)(t:Tm)(σ:Hp)(a:Act):Prop where
 tm:tq F w t a
 hp:bA F w σ
 size:n≤a.tmps.size
 defers:Marks B F w a.defers
theorem QC(a:Act)(d:Option Tmp)(v:Value):(a.put d v).tmps.size=a.tmps.size:=by cases d <;> simp[Act.put]
theorem RQ(a:Act)(d:Option Tmp)(v:Value):(a.put d v).defers=a.defers:=by cases d <;> rfl
theorem dC.put{B n:Nat}{F F':Nat→Prop}{w w':World}{t:Tm}{σ σ':Hp}{a:Act}(h:dC B n F w t σ a)(aq:bH F w F' w')(hp:bA F' w' σ'){d:Option Tmp}{x:AV}{v:Value}(hx:aD F' w' x v)(hd:∀i,d=some i→i<n):dC B n F' w' (put t d x) σ' (a.put d v):=
 ⟨(h.tm.mono aq).put hx (fun i e=>tN (hd i e) h.size),hp,by rw[QC];exact h.size,by rw[RQ];exact h.defers.mono aq⟩
theorem QS{F:Nat→Prop}{w:World}{σ:Hp}(h:bA F w σ){i b':Nat}{cs kx:List AV}(hi:σ[i]?=some (b',cs))(hl:kx.length=cs.length)(hk:∀(k:Nat) (x y:AV),cs[k]?=some x→kx[k]?=some y→x=y∨(x=.ag∧∃e:Sh,y=.ae e [])):bA F w (σ.set i (b',kx)):=by
 refine⟨?_,fun p hp=>?_,h.low⟩
 ·have e1:(σ.set i (b',kx)).map Prod.fst=σ.map Prod.fst:=by
   rw[sB];refine List.ext_getElem (by simp) fun j h1 h2=>?_;rw[D2];split
   ·rename_i hj;subst hj
    have:=cW.1 hi;obtain⟨q1,q2⟩:=this;rw[D1,q2]
   ·rfl
  rw[e1];exact h.nodup
 ·rcases A7 hp with hp | rfl
  ·exact h.holds p hp
  ·have hh:=h.holds _ (dz hi)
   by_cases hn:∃k:Nat,cs[k]?=some AV.ag
   ·obtain⟨k,gF⟩:=hn;obtain⟨h1,c,T,h2,h3,h4⟩:=hh.KM gF rfl;refine⟨h1,.inl ⟨c,T,h2,by rw[hl];exact h3,fun j y hy=>?_⟩⟩;have hj:j<cs.length:=by rw[← hl];exact (cW.1 hy).1
    have hx:=bu hj;obtain⟨q1,q2⟩:=h4 j _ hx
    rcases hk j _ _ hx hy with e | ⟨e,e',rfl⟩
    ·rw[← e];exact⟨q1,q2⟩
    ·rw[e]at q2;refine⟨rfl,?_⟩;revert q2;generalize c.getD j undef=u;intro q2;cases q2;exact .ae e' [] _ ⟨none,0,rfl,bg _,aV _,(fun _=>rfl),fun bf=>absurd rfl bf⟩
   ·have e:kx=cs:=by
     refine Ig hl fun j h1 h2=>?_
     rcases hk j _ _ (bu h2) (bu h1) with e | ⟨e,_⟩
     ·exact e.symm
     ·exact absurd ⟨j,(bu h2).trans (congrArg some e)⟩ hn
    rw[e];exact hh
theorem R3{F:Nat→Prop}{w:World}{σ:Hp}(h:bA F w σ){i b' k:Nat}{cs':List AV}(e:Sh)(hi:σ[i]?=some (b',cs'))(hk:cs'[k]?=some .ag):bA F w (σ.set i (b',cs'.set k (.ae e []))):=
 QS h hi (by simp) fun j x y hx hy=>by
  rw[gQ]at hy;split at hy
  ·rename_i hj;subst hj
   split at hy
   ·rw[hk]at hx;cases hx;cases hy;exact .inr ⟨rfl,e,rfl⟩
   ·cases hy
  ·rw[hx]at hy;cases hy;exact .inl rfl
theorem bA.dT{F:Nat→Prop}{w:World}{σ σ':Hp}(h:bA F w σ)(hs:iY σ σ'):bA F w σ':=by
 induction hs with
 |refl=>exact h
 |pull js _ ih=>exact ih (h.perm (xM js _))
 |perm hp _ ih=>exact ih (h.perm hp)
 |afW i b' cs kx hi hl hk _ ih=>exact ih (QS h hi hl hk)
 | @drop k n σ σ2 _ ih=>
  refine ih (h.sub ?_)
  have h1:(σ.drop (k+n)).Sublist (σ.drop k):=by
   rw[← DX];exact List.drop_sublist _ _
  have h2:=(List.Sublist.refl (σ.take k)).append h1
  rwa [A6]at h2
theorem dC.dT{B n:Nat}{F:Nat→Prop}{w:World}{t:Tm}{σ σ':Hp}{a:Act}(h:dC B n F w t σ a)(hs:iY σ σ'):dC B n F w t σ' a:=⟨h.tm,h.hp.dT hs,h.size,h.defers⟩
def uo(ops:List Oper)(o:Oper)(t:Tm)(b:Bool):Prop:=
 (o.guard=none∧b=true)∨∃j want d x,o.guard=some (j,want)∧(ops[j]?).bind (·.dst)=some d∧((t d=.bool x∧b=(x == want))∨(t d=.tup []∧b=false))
theorem xP{ops:List Oper}{o:Oper}{t:Tm}{A B:Prop}(h:oF ops o t A B):(uo ops o t true∧A)∨(uo ops o t false∧B):=by
 unfold oF at h;split at h
 ·rename_i hg
  exact .inl ⟨.inl ⟨hg,rfl⟩,h⟩
 ·rename_i j want hg
  split at h
  ·rename_i d hd
   split at h
   ·rename_i b hb
    cases want <;> cases b
    ·exact .inl ⟨.inr ⟨j,_,d,_,hg,hd,.inl ⟨hb,rfl⟩⟩,h⟩
    ·exact .inr ⟨.inr ⟨j,_,d,_,hg,hd,.inl ⟨hb,rfl⟩⟩,h⟩
    ·exact .inr ⟨.inr ⟨j,_,d,_,hg,hd,.inl ⟨hb,rfl⟩⟩,h⟩
    ·exact .inl ⟨.inr ⟨j,_,d,_,hg,hd,.inl ⟨hb,rfl⟩⟩,h⟩
   ·rename_i hb
    exact .inr ⟨.inr ⟨j,_,d,false,hg,hd,.inr ⟨hb,rfl⟩⟩,h⟩
   ·exact h.elim
  ·exact h.elim
theorem xL{F:Nat→Prop}{w:World}:aD F w (.tup []) undef:=.tup _ _ rfl (fun i x h=>by simp at h)
theorem XF{F:Nat→Prop}{w:World}{u:Value}(h:aD F w (.tup []) u):u=.tuple #[]:=by
 cases h with
 |tup _ vs hs h=>rw[D9.1 hs.symm]
theorem EM{ops:List Oper}{o:Oper}{t:Tm}{a:Act}{b:Bool}(h:uo ops o t b)(hr:∀d,(∃j want,o.guard=some (j,want)∧(ops[j]?).bind (·.dst)=some d)→∃F w,aD F w (t d) (a.tmps.getD d undef)):Region.wanted o (yielded ops.toArray a.tmps)=b:=by
 rcases h with ⟨hg,rfl⟩ | ⟨j,want,d,x,hg,h1,⟨h2,rfl⟩ | ⟨h2,rfl⟩⟩
 ·simp[Region.wanted,hg]
 ·obtain⟨F,w,h3⟩:=hr d ⟨j,want,hg,h1⟩;rw[h2]at h3;have h3:=h3.qO
  have h4:a.tmps[d]?=some (.bool x):=by
   rw[gR]at h3;cases hq:a.tmps[d]? with
   |none=>rw[hq]at h3;simp[undef]at h3
   |some v=>rw[hq]at h3;simpa using h3
  have h5:yielded ops.toArray a.tmps j=some x:=by
   unfold yielded;simp only[y5,h1,Option.bind_some,h4]
  simp[Region.wanted,hg,h5]
 ·obtain⟨F,w,h3⟩:=hr d ⟨j,want,hg,h1⟩;rw[h2]at h3;have h3:=XF h3
  have h5:yielded ops.toArray a.tmps j=none:=by
   unfold yielded;simp only[y5,h1,Option.bind_some];rw[gR]at h3;cases hq:a.tmps[d]? with
   |none=>rfl
   |some v=>rw[hq]at h3;simp at h3;rw[h3]
  simp[Region.wanted,hg,h5]
theorem IK(ok:dP P TT){B n:Nat}{ops:List Oper}{Q:Exit→Act→World→Prop}:∀(l:List Oper) (t:Tm) (σ:Hp) (K:Tm→Hp→Prop) (F:Nat→Prop) (w:World) (a:Act),(∀o∈l,∀d,o.dst=some d→d<n)→Ui P TT ops l t σ K→dC B n F w t σ a→
  (∀t' σ' F' w' a',bH F w F' w'→dC B n F' w' t' σ' a'→K t' σ'→Q .normal a' w')→wk P ops.toArray Q l a w
 | [],t,σ,K,F,w,a,_,h,hs,hq=>hq t σ F w a (.refl _ _) hs h
 |o::l,t,σ,K,F,w,a,hd,h,hs,hq=>by
  have hw:∀{b:Bool},uo ops o t b→Region.wanted o (yielded ops.toArray a.tmps)=b:=fun hg=>EM hg fun d _=>⟨F,w,hs.tm d⟩
  rcases xP h with ⟨hg,h⟩ | ⟨hg,h⟩
  ·unfold wk;rw[az (hw hg)];refine (IZ ok h a F w (fun x _=>hs.tm.eval x) hs.hp _ Q ?_);intro v av σ' F' w' h1 h2 h3 h4;exact IK ok l _ σ' K F' w' _ (fun o ho=>hd o (dq _ ho)) h4 (hs.put h1 h2 h3 (hd o (cF ..))) (fun t' kg nw lX a' k1 k2 k3=>hq t' kg nw lX a' (h1.trans k1) k2 k3)
  ·unfold wk;rw[if_neg (by rw[hw hg];simp)];exact IK ok l _ σ K F w _ (fun o ho=>hd o (dq _ ho)) h (hs.put (.refl _ _) hs.hp xL (hd o (cF ..))) hq
def KD(P:Program)(o:Oper)(ρ:Operand→AV)(σ:Hp)(v:AV):Prop:=
 ∀(a:Act) (F:Nat→Prop) (w:World),(∀x∈o.op.operands.toList,aD F w (ρ x) (a.eval x))→bA F w σ→∀(next:Act→World→Prop) (Q:Exit→Act→World→Prop),
  (∀u F' w',bH F w F' w'→bA F' w' σ→aD F' w' v u→next (a.put o.dst u) w')→wq P o a w next Q
theorem PD(ok:dP P TT){o:Oper}{ρ:Operand→AV}{σ:Hp}{K:AV→Prop}(h:uY P TT o.op ρ σ K):∃v,K v∧KD P o ρ σ v:=by
 have dd:fB P TT o.op ρ σ K→∃v,K v∧KD P o ρ σ v:=fun h=>by
  obtain⟨v,h1,h2⟩:=ER ok h;refine⟨v,h1,fun a F w hx aG next Q hn=>?_⟩;obtain⟨v',h3,h4⟩:=h2 a.eval F w o rfl hx aG;unfold wq;rw[h3];exact hn v' F w (.refl _ _) aG h4
 generalize lv:o.op=op at h dd;unfold uY at h;split at h
 ·exact dd h
 ·obtain⟨_,_,h,_⟩ | ⟨f,xs,hc,fp⟩:=NX lv h
  ·exact h.elim
  cases hc with
  |mk js r call go=>
   obtain⟨nT,eO⟩:=call;refine⟨r,go,fun a F w hx aG next Q hn=>?_⟩;obtain⟨vs,bY,hr⟩:=fp a.eval F w hx;unfold wq;rw[hr nT];refine (eO F w vs bY (aG.perm (xM js σ))).mono ?_;rintro e w' ⟨r',v,σ',F',rfl,h1,h2,h3,rfl,rfl⟩;exact⟨v,rfl,hn v F' w' h1 (h2.perm (xM js σ).symm) h3⟩
  |perm hp r call go=>
   obtain⟨nT,eO⟩:=call;refine⟨r,go,fun a F w hx aG next Q hn=>?_⟩;obtain⟨vs,bY,hr⟩:=fp a.eval F w hx;unfold wq;rw[hr nT];refine (eO F w vs bY (aG.perm hp)).mono ?_;rintro e w' ⟨r',v,σ',F',rfl,h1,h2,h3,rfl,sm⟩;exact⟨v,rfl,hn v F' w' h1 (h2.perm (hp.symm.trans sm)) h3⟩
 ·exact dd h
end
end Go.Proofs.YtnikdflhefijbaaGreat
