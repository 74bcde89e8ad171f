import Derived.Deep.AppendSrc
import Derived.Deep.Upon
import Derived.Great.BuildSlice
import Derived.Maps.RangeRun
import Derived.Orders
import Derived.Test.YtnikdflhefijbaaGreatBq3
namespace Go.Proofs.YtnikdflhefijbaaGreat
open Go.RowKit
section
variable {P:Program} {TT:TypeId→Option TI} {F F':Nat→Prop} {w w':World}
theorem Holds.mono{b:Nat}{cs:List AV}(h:Holds F w b cs)(aq:bH F w F' w')(hb:w'.heap[b]?=w.heap[b]?)(hF:¬F' b):Holds F' w' b cs:=by
 obtain⟨_,⟨c,T,h1,h2,h3⟩ | ⟨x,o,h1,h2,h3⟩ | ⟨L,t,h1,h2,h3⟩⟩:=h
 ·exact⟨hF,.inl ⟨c,T,hb.trans h1,h2,fun i x hx=>⟨(h3 i x hx).1,(h3 i x hx).2.mono aq⟩⟩⟩
 ·exact⟨hF,.inr (.inl ⟨x,o,h1,hb.trans h2,h3⟩)⟩
 ·exact⟨hF,.inr (.inr ⟨L,t,h1,hb.trans h2,fun i=>(h3 i).mono aq⟩)⟩
theorem Holds.lt{b:Nat}{cs:List AV}(h:Holds F w b cs):b<w.heap.size:=by
 obtain⟨_,⟨_,_,h1,_⟩ | ⟨_,_,_,h1,_⟩ | ⟨_,_,_,h1,_⟩⟩:=h
 ·exact uB h1
 ·exact uB h1
 ·exact uB h1
theorem bj.perm{σ σ':Hp}(h:bj F w σ)(hp:σ'.Perm σ):bj F w σ':=
 ⟨((hp.map Prod.fst).nodup_iff).2 h.nodup,fun p hm=>h.holds p (hp.mem_iff.1 hm),h.low⟩
theorem bj.sub{σ σ':Hp}(h:bj F w σ)(hs:σ'.Sublist σ):bj F w σ':=
 ⟨h.nodup.sublist (hs.map _),fun p hm=>h.holds p (hs.subset hm),h.low⟩
theorem zd:∀(σ:Hp) (i:Nat) (p:Nat×List AV),σ[i]?=some p→(p::σ.eraseIdx i).Perm σ
 | [],i,p,h=>by simp at h
 |q::σ,0,p,h=>by simp at h;subst h;exact List.Perm.refl _
 |q::σ,i+1,p,h=>(List.Perm.swap q p _).trans (.cons q (zd σ i p (by simpa using h)))
theorem aaS(i:Nat)(σ:Hp):(pull i σ).Perm σ:=by
 unfold pull;split
 ·rename_i p h
  exact zd σ i p h
 ·exact List.Perm.refl _
theorem zl:∀(js:List Nat) (σ:Hp),(oX js σ).Perm σ
 | [],_=>List.Perm.refl _
 |i::r,σ=>(aaS i _).trans (zl r σ)
theorem zg(fB:∀b,F b→b<w.heap.size)(ho:w'.os=w.os)(ht:w'.tape=w.tape)(hu:w'.output=w.output)(hs:w.heap.size≤w'.heap.size)(hb:∀b,b<w.heap.size→w'.heap[b]?=w.heap[b]?)(hd:w.drawn≤w'.drawn:=by first | exact aQ _ | exact Nat.le_succ _ | exact GG _ _):bH F w F w':=
 ⟨ho,ht,hu,hs,fun _ h=>h,fun b h=>hb b (fB b h),fun b c _ fz h=>⟨c,fz,(hb b (uB h)).trans h,rfl⟩,hd⟩
theorem bj.same{σ:Hp}(h:bj F w σ)(aq:bH F w F w')(hb:∀b,b<w.heap.size→w'.heap[b]?=w.heap[b]?):bj F w' σ:=
 ⟨h.nodup,fun p hm=>(h.holds p hm).mono aq (hb _ (h.holds p hm).lt) (h.holds p hm).1,fun b hF=>sL (h.low b hF) aq.size⟩
theorem Rb{σ:Hp}(h:bj F w σ){c:Array Value}{T:TypeId}{cs:List AV}(hl:cs.length≤c.size)(hc:∀(i:Nat) (x:AV),cs[i]?=some x→x.leaf=true∧aB F w x (c.getD i undef)){w0:World}(e0:w0=w∨w0=w.drew):
  bH F w F (w0.alloc (.cells c T))∧bj F (w0.alloc (.cells c T)) ((w.heap.size,cs)::σ):=by
 have hold:∀b,b<w.heap.size→(w0.alloc (.cells c T)).heap[b]?=w.heap[b]?:=fun b hb=>by rcases e0 with rfl | rfl <;> exact Below.heap_alloc _ _ b (by simpa using hb)
 have aq:bH F w F (w0.alloc (.cells c T)):=by
  rcases e0 with rfl | rfl
  ·exact zg h.low rfl rfl rfl (by simp) hold
  ·exact zg h.low rfl rfl rfl (by simp) hold
 have hr:=h.same aq hold;have iG:(w0.alloc (.cells c T)).heap[w.heap.size]?=some (.cells c T (0,0)):=by rcases e0 with rfl | rfl <;> exact xX _ _
 refine⟨aq,⟨?_,fun p hm=>?_,hr.low⟩⟩
 ·simp only[pJ,lV];refine⟨fun hm=>?_,h.nodup⟩;obtain⟨p,hp,e⟩:=cX.1 hm;have:=(h.holds p hp).lt;omega
 ·rcases dm.1 hm with rfl | hm
  ·exact⟨fun hF=>KF _ (h.low _ hF),.inl ⟨c,T,iG,hl,fun i x hx=>⟨(hc i x hx).1,(hc i x hx).2.mono aq⟩⟩⟩
  ·exact hr.holds p hm
theorem Bf{σ:Hp}(h:bj F w σ){j b:Nat}{cs cs':List AV}(hj:σ[j]?=some (b,cs)){c c':Array Value}{T:TypeId}(hc:w.heap[b]?=some (.cells c T (0,0)))(eO:c'.size=c.size)(hl:cs'.length≤c'.size)
  (hr:∀(i:Nat) (x:AV),cs'[i]?=some x→x.leaf=true∧aB F w x (c'.getD i undef)) (hw:∀k,k≠b→w'.heap[k]?=w.heap[k]?) (Kd:w'.heap[b]?=some (.cells c' T (0,0))) (ho:w'.os=w.os) (ht:w'.tape=w.tape) (hu:w'.output=w.output) (hs:w'.heap.size=w.heap.size) (hd:w.drawn≤w'.drawn:=by first | exact aQ _ | exact Nat.le_succ _ | exact GG _ _) :
  bH F w F w'∧bj F w' (σ.set j (b,cs')):=by
 have hb:=(h.holds (b,cs) (bU hj)).1;have ab:j<σ.length:=(bZ.1 hj).1
 have aq:bH F w F w':=⟨ho,ht,hu,by omega,fun _ h=>h,fun k hF=>hw k (fun e=>hb (e▸hF)),fun k d S fz hk=>by
  by_cases e:k=b
  ·subst e;rw[hc]at hk;cases hk;exact⟨c',(0,0),Kd,eO⟩
  ·exact⟨d,fz,(hw k e).trans hk,rfl⟩,hd⟩
 have ET:(σ.set j (b,cs')).map Prod.fst=σ.map Prod.fst:=by
  rw[oI];apply AK;intro k;rw[eA];split
  ·rename_i e;subst e
   simp[ab];have:=(bZ.1 hj).2;rw[this]
  ·rfl
 refine⟨aq,⟨ET▸h.nodup,fun p hm=>?_,fun k hF=>by rw[hs];exact h.low k hF⟩⟩;obtain⟨k,hk⟩:=lq.1 hm;rw[eA]at hk;split at hk
 ·rename_i e;subst e
  simp at hk;obtain⟨_,rfl⟩:=hk;exact⟨hb,.inl ⟨c',T,Kd,hl,fun i x hx=>⟨(hr i x hx).1,(hr i x hx).2.mono aq⟩⟩⟩
 ·rename_i aS
  have aV:=bU hk
  have rJ:p.1≠b:=by
   intro e;have cg:=h.nodup;have h1:(σ.map Prod.fst)[k]?=some b:=by rw[List.getElem?_map,hk];simp[e]
   have h2:(σ.map Prod.fst)[j]?=some b:=by rw[fk,hj];rfl
   have dR:k<(σ.map Prod.fst).length:=(bZ.1 h1).1;have:=(List.getElem?_inj (i:=k) (j:=j) dR cg).1 (h1.trans h2.symm);exact aS this.symm
  exact (h.holds p aV).mono aq (hw _ rJ) (h.holds p aV).1
theorem T0(z:List AV):∀(n j:Nat),j<n*z.length→(cI z n)[j]?=z[j % z.length]?
 | 0,j,h=>by simp at h
 |n+1,j,h=>by
  unfold cI
  by_cases hj:j<z.length
  ·rw[j6 hj,vE hj]
  ·have e:(n+1)*z.length=n*z.length+z.length:=oH n z.length;rw[jq (by omega),T0 z n (j-z.length) (by omega)];rw[Nat.mod_eq_sub_mod (a:=j) (b:=z.length) (by omega)]
theorem vP(z:List AV)(n:Nat):(cI z n).length=n*z.length:=by
 induction n with
 |zero=>simp[cI]
 |succ n ih=>simp[cI,ih,Nat.succ_mul];omega
theorem HV{i:TI}{z:Value}(hz:qS i.zero z.cells.toList=true){n m:Nat}(Gb:n≤m):(cI i.zero n).length≤(madeCells z.cells (m*i.zero.length)).size∧∀(k:Nat) (x:AV),(cI i.zero n)[k]?=some x→x.leaf=true∧aB F w x ((madeCells z.cells (m*i.zero.length)).getD k undef):=by
 obtain⟨h1,h2⟩:=xQ (F:=F) (w:=w) hz;have hle:n*i.zero.length≤m*i.zero.length:=jm _ Gb;refine⟨by rw[vP,size_madeCells];exact hle,fun k x hx=>?_⟩;have hk:k<n*i.zero.length:=by rw[← vP];exact (bZ.1 hx).1
 rw[T0 _ _ _ hk]at hx;obtain⟨h3,h4⟩:=h2 _ x hx;refine⟨h3,?_⟩;have ab:k<m*i.zero.length:=by omega
 have uR:0<i.zero.length:=by
  rcases vG i.zero.length with h0 | h0
  ·rw[h0]at hk;omega
  ·exact h0
 have X3:k % i.zero.length<z.cells.size:=by rw[← h1];exact mU _ uR
 rw[h1]at h4 ab;rw[h1]at X3;simpa [madeCells,Array.getD,ab,h1,X3,Nat.mod_lt _ (h1▸uR)]using h4
end
section
variable {P:Program} {TT:TypeId→Option TI} {F F':Nat→Prop} {w w':World}
def ky(P:Program)(o:Oper)(ρ:Operand→AV)(σ:Hp)(K:AV→Hp→Prop):Prop:=
 ∀(a:Act) (F:Nat→Prop) (w:World),(∀x∈o.op.operands.toList,aB F w (ρ x) (a.eval x))→bj F w σ→∀(next:Act→World→Prop) (Q:Exit→Act→World→Prop),
  (∀v av σ' F' w',bH F w F' w'→bj F' w' σ'→aB F' w' av v→K av σ'→next (a.put o.dst v) w')→wq P o a w next Q
theorem Yy{o:Oper}{ρ:Operand→AV}{σ:Hp}{K:AV→Hp→Prop}{v:AV}(h:FB P o.op ρ σ v)(hk:K v σ):ky P o ρ σ K:=by
 intro a F w hx aG next Q hn;obtain⟨v',h1,h2⟩:=h a.eval F w o rfl hx aG;unfold wq;rw[h1];exact hn v' v σ F w (.refl _ _) aG h2 hk
theorem G9{o:Oper}{ρ:Operand→AV}{σ:Hp}{K:AV→Hp→Prop}{cs:List AV}{mk:Nat→AV}(hk:∀b,K (mk b) ((b,cs)::σ))
  (h:∀(η:Operand→Value) (F:Nat→Prop) (w:World),(∀x∈o.op.operands.toList,aB F w (ρ x) (η x))→∃(c:Array Value) (T:TypeId) (v:Value),(execOp η o).run P w=.ok (.value v) (w.alloc (.cells c T))∧cs.length≤c.size∧(∀(i:Nat) (x:AV),cs[i]?=some x→x.leaf=true∧aB F w x (c.getD i undef))∧aB F (w.alloc (.cells c T)) (mk w.heap.size) v):ky P o ρ σ K:=by
 intro a F w hx aG next Q hn;obtain⟨c,T,v,h1,h2,h3,h4⟩:=h a.eval F w hx;unfold wq;rw[h1];obtain⟨aq,hr⟩:=Rb aG (T:=T) h2 h3 (w0:=w) (.inl rfl);exact hn v _ _ F _ aq hr h4 (hk _)
theorem YB{x:AV}{v:Value}{cs:List AV}(h:aB F w x v)(hc:x.cells?=some cs):cs.length≤v.cells.size∧∀(i:Nat) (x:AV),cs[i]?=some x→x.leaf=true∧aB F w x (v.cells.getD i undef):=by
 obtain⟨h1,h2⟩:=LL h hc;exact⟨by omega,h2⟩
theorem abR{o:Oper}{e:TypeId}{x:Operand}(ho:o.op=.box e x){ρ:Operand→AV}{σ:Hp}{K:AV→Hp→Prop}{cs:List AV}(hc:(ρ x).cells?=some cs)(hk:∀b,K (.ptr b 0) ((b,cs)::σ)):ky P o ρ σ K:=
 G9 hk fun η F w hx=>by
  have h1:=hx x (by simp[ho,Op.operands]);obtain⟨h2,h3⟩:=YB h1 hc;exact⟨(η x).cells,e,.pointer (some ⟨w.heap.size,0,none⟩),by simp[execOp,ho,Instr.box,newVar,newRow],h2,h3,.ptr _ _ ⟨_,_,_,xX _ _⟩⟩
theorem Zz(ok:dM P TT){o:Oper}{e:TypeId}(ho:o.op=.alloc e){ρ:Operand→AV}{σ:Hp}{K:AV→Hp→Prop}{i:TI}(hi:TT e=some i)(hk:∀b,K (.ptr b 0) ((b,i.zero)::σ)):ky P o ρ σ K:=
 G9 hk fun η F w hx=>by
  obtain⟨j,d,z,hj,hd,_,_,_,hz,iI⟩:=dy ok hi;obtain⟨h1,h2⟩:=xQ (F:=F) (w:=w) iI;exact⟨z.cells,e,.pointer (some ⟨w.heap.size,0,none⟩),by simp[execOp,ho,Instr.alloc,newVar,newRow,zeroValue,typeInfo,hj,hz],by omega,h2,.ptr _ _ ⟨_,_,_,xX _ _⟩⟩
theorem Yl(ok:dM P TT){o:Oper}{t e:TypeId}{len:Nat}{parts:Array (Nat×Operand)}(ho:o.op=.buildSlice t len parts){ρ:Operand→AV}{σ:Hp}{K:AV→Hp→Prop}{it i:TI}(ht:TT t=some it)(dR:it.k=.slice e)(hi:TT e=some i){cs:List AV}
  (hf:s8 ((List.range len).map fun j=>(j*i.size,i.size)) (cI i.zero len) (parts.toList.map fun p=>(p.1,ρ p.2))=some cs) (eO:len*i.size≤16777216) (uR:1≤i.size) (hk:∀b,K (.ae b 0 len i.size) ((b,cs)::σ)):ky P o ρ σ K:=
 G9 hk fun η F w hx=>by
  obtain⟨_,d,_,_,hd,_,_,kj,_,_⟩:=dy ok ht;rw[dR]at kj;obtain rfl:=ko kj;obtain⟨j,d',z,hj,kK,hs,⟨_,pz⟩,_,hz,iI⟩:=dy ok hi;obtain⟨hl,hr⟩:=SK (parts:=parts) (ρ:=ρ) (η:=η) (F:=F) (w:=w) (by simpa [ho,Op.operands]using hx);have jX:z.cells.size=j.size:=by have:=(xQ (F:=F) (w:=w) iI).1;omega
  obtain⟨m1,m2⟩:=HV (F:=F) (w:=w) iI (aQ len);have iw:qs F w (cI i.zero len) (madeCells z.cells (len*i.zero.length)):=⟨by rw[vP,size_madeCells],m2⟩
  rw[pz,← hs]at iw
  obtain⟨eW,f1,f2⟩:=H3 (place:=fun k=>some (k*j.size,j.size)) (fun k p hk=>by
   obtain⟨a,ha,rfl⟩:=bZ.1 hk
   simp[hs]) _ _ _ _ _ hl hr iw hf
  have aif:eW.size=len*j.size:=by
   have e1:∀(us:List (Nat×AV)) (xs out:List AV),s8 ((List.range len).map fun j=>(j*i.size,i.size)) xs us=some out→out.length=xs.length:=by
    intro us
    induction us with
    |nil=>intro xs out h;simp[s8]at h;subst h;rfl
    |cons p us ih=>
     intro xs out h;obtain⟨q,v⟩:=p;simp only[s8]at h;split at h
     ·split at h
      ·rw[ih _ _ h,AY]
      ·cases h
     ·cases h
   have:=e1 _ _ _ hf;rw[vP]at this;have h3:=f2.1;rw[pz,← hs]at this;omega
  refine⟨eW,e,.slice (some ⟨w.heap.size,0,none⟩) len len,?_,by have:=f2.1;omega,f2.2,.ae _ _ _ _ _ _ ⟨eW,e,(0,0),xX _ _,aQ _,?_,.inl ⟨rfl,by rw[aif,hs];omega⟩⟩⟩
  ·by_cases h0:len*j.size=0
   ·have:eW = #[]:=GN.1 (by omega);subst this
    have f1':Instr.fill (fun k=>some (k*j.size,j.size)) #[] (parts.map fun (i,x)=>(i,η x)).toList=some #[]:=by
     have e0:madeCells z.cells (len*j.size) = #[]:=by rw[h0];simp[madeCells,Array.range_zero']
     rw[e0]at f1;exact f1
    simp only[execOp,ho,Instr.buildSlice,Sem.run_bind,run_underlying hd,Result.andThen_ok,run_sizeOf hj,h0,if_true,Sem.run_pure,Nat.reducePow,if_false,oJ,gt_iff_lt];rw[show ((Array.range 0).map fun x=>(#[]:Array Value)[x % (#[]:Array Value).size]!) = #[] by simp[Array.range_zero'],f1'];rfl
   ·simp only[execOp,ho,Sem.run_bind,run_buildSlice w t e len _ eW j z hd hj hz (by rw[hs];omega) h0 f1];rfl
  ·have:len≤len*i.size:=Nat.le_mul_of_pos_right _ uR;unfold maxLen;omega
theorem Ym(ok:dM P TT){o:Oper}{t e:TypeId}{l c:Operand}(ho:o.op=.makeSlice t l c){ρ:Operand→AV}{σ:Hp}{K:AV→Hp→Prop}{it i:TI}(ht:TT t=some it)(dR:it.k=.slice e)(hi:TT e=some i){k k':IntKind}{n m:Int}(hl:ρ l=.int k n)(hc:ρ c=.int k' m)
  (h0:0≤n∧n≤m∧m≤1048576∧i.bytes≤1024) (hk:∀b,K (.ae b 0 n.toNat i.size) ((b,cI i.zero n.toNat)::σ)):ky P o ρ σ K:=
 G9 hk fun η F w hx=>by
  obtain⟨_,d,_,_,hd,_,_,kj,_,_⟩:=dy ok ht;rw[dR]at kj;obtain rfl:=ko kj;obtain⟨j,d',z,hj,kK,hs,⟨hb,pz⟩,_,hz,iI⟩:=dy ok hi;have h1:=hx l (by simp[ho,Op.operands]);rw[hl]at h1;have h2:=hx c (by simp[ho,Op.operands]);rw[hc]at h2;obtain⟨m1,m2⟩:=HV (F:=F) (w:=w) iI (show n.toNat≤m.toNat by omega);rw[pz,← hs]at m1 m2
  have tI:(j.bytes:Int)*m≤281474976710656:=by
   have:(j.bytes:Int)*m≤1024*1048576:=Int.mul_le_mul (by omega) (by omega) (by omega) (by omega);omega
  refine⟨madeCells z.cells (m.toNat*j.size),e,.slice (some ⟨w.heap.size,0,none⟩) n.toNat m.toNat,?_,m1,m2,.ae _ _ _ _ _ _ ⟨_,e,(0,0),xX _ _,by omega,by unfold maxLen;omega,.inl ⟨rfl,by rw[size_madeCells,hs];omega⟩⟩⟩;simp only[execOp,ho,h1.gp,h2.gp,Sem.run_bind,run_make w t e j z hd hj hz k k' n m h0.1 h0.2.1 tI (by omega)];rfl
end
section
variable {P:Program} {TT:TypeId→Option TI} {F F':Nat→Prop} {w w':World}
theorem Lz:∀(xs cs:List AV) (o k:Nat),o+xs.length≤cs.length→(fx cs o xs)[k]?=if o≤k∧k<o+xs.length then xs[k-o]? else cs[k]?
 | [],cs,o,k,_=>by rw[if_neg (by intro h;simp at h;omega)];rfl
 |x::xs,cs,o,k,h=>by
  simp only[gj]at h;rw[fx,Lz xs (cs.set o x) (o+1) k (by simp;omega)];simp only[gj]
  by_cases h1:o+1≤k∧k<o+1+xs.length
  ·rw[af h1,af (by omega),show k-o=(k-(o+1))+1 by omega];rfl
  ·rw[ag h1]
   by_cases h2:o=k
   ·subst h2;rw[af (by omega),qB,eA];simp;omega
   ·rw[ag (by omega),eA,ag h2]
theorem aeV(c vs:List Value)(o k:Nat)(h:o+vs.length≤c.length):(c.take o++vs++c.drop (o+vs.length))[k]?=if o≤k∧k<o+vs.length then vs[k-o]? else c[k]?:=by
 have hl:(c.take o).length=o:=by simp;omega
 by_cases h1:k<o
 ·rw[ag (by omega),dW,j6 (by omega),oM,af h1]
 ·by_cases h2:k<o+vs.length
  ·rw[af (by omega),dW,jq (by omega),hl,j6 (by omega)]
  ·rw[if_neg (by omega),List.getElem?_append_right (by simp;omega),List.getElem?_drop]
   congr 1
   simp;omega
theorem YE{i:TI}{cs cs':List AV}{o:Nat}{v:AV}(h:kO i cs o v=some cs'):∃vs,v.cells?=some vs∧vs.length=i.size∧o+i.size≤cs.length∧cs'=fx cs o vs:=by
 unfold kO at h;split at h
 ·rename_i vs hv
  split at h
  ·rename_i h1 h2
   exact⟨vs,hv,j5 h1,cy h2,(Option.some.inj h).symm⟩
  ·cases h
 ·cases h
theorem HW{c:Array Value}{cs xs:List AV}{vs:List Value}{o:Nat}(hc:∀(i:Nat) (x:AV),cs[i]?=some x→x.leaf=true∧aB F w x (c.getD i undef))(hx:xs.length=vs.length)(hv:∀(i:Nat) (x:AV),xs[i]?=some x→x.leaf=true∧aB F w x (vs.getD i undef))(ho:o+xs.length≤c.size)
  {out:List AV} (oE:out.length≤c.size) (JE:∀k y,out[k]?=some y→(if o≤k∧k<o+xs.length then xs[k-o]? else cs[k]?)=some y) :
  ∀(i:Nat) (x:AV),out[i]?=some x→x.leaf=true∧aB F w x ((c.toList.take o++vs++c.toList.drop (o+vs.length)).toArray.getD i undef):=by
 intro k y hk;have h1:=JE k y hk;have ab:k<out.length:=(bZ.1 hk).1;have aj9:=aeV c.toList vs o k (by simp;omega);have Aw:k<c.size:=by omega
 have hlen:(c.toList.take o++vs++c.toList.drop (o+vs.length)).length=c.size:=by simp;omega
 have hgd:(c.toList.take o++vs++c.toList.drop (o+vs.length)).toArray.getD k undef=((c.toList.take o++vs++c.toList.drop (o+vs.length))[k]?).getD undef:=by
  have h2:k<(c.toList.take o++vs++c.toList.drop (o+vs.length)).toArray.size:=by rw[qD,hlen];exact Aw
  simp only[Array.getD,h2,dif_pos];rw[bB (by rw[hlen];exact Aw)];rfl
 rw[hgd,aj9];split at h1
 ·rename_i eE
  rw[af (by omega)];obtain⟨h2,h3⟩:=hv _ y h1;exact⟨h2,by rw[aZ]at h3;exact h3⟩
 ·rename_i eE
  rw[ag (by omega)];obtain⟨h2,h3⟩:=hc _ y h1;refine⟨h2,?_⟩;simpa [Array.getD,Aw]using h3
theorem YU(ok:dM P TT){o:Oper}{t:TypeId}{p x:Operand}(ho:o.op=.store t p x){ρ:Operand→AV}{σ:Hp}{K:AV→Hp→Prop}{i:TI}(hi:TT t=some i){b off:Nat}(hp:ρ p=.ptr b off)(h:IE i σ b off (ρ x) (fun σ'=>K .any σ')):ky P o ρ σ K:=by
 intro a F w hx aG next Q hn;obtain⟨j,cs,cs',h1,h2,go⟩:=h;obtain⟨vs,hv,Kf,hle,rfl⟩:=YE h2;obtain⟨jt,d,z,hj,hd,hs,_⟩:=dy ok hi;have a1:=hx p (by simp[ho,Op.operands]);rw[hp]at a1;have a2:=hx x (by simp[ho,Op.operands]);obtain⟨c1,c2⟩:=LL a2 hv;obtain⟨hF,c,T,hc,eQ,lp⟩:=(aG.holds _ (bU h1)).cells a1.Bg;have eQ:cs.length≤c.size:=eQ
 have mb:∀u∈(a.eval x).cells.toList,u.oneCell'=true:=by
  intro u hu;obtain⟨k,hk⟩:=lq.1 hu;have ab:k<(a.eval x).cells.size:=by have:=(List.getElem?_eq_some_iff.1 hk).1;simpa using this
  obtain⟨h3,h4⟩:=c2 k vs[k] (by simp);have:=h4.one h3;simpa [Array.getD,ab,show (a.eval x).cells[k]=u by simpa [ab]using hk]using this
 have aq:=run_storeCells_at (P:=P) b off T (a.eval x).cells.toList 0 c w hc (by simp[c1];omega) mb
 have fV:(execOp a.eval o).run P w=.ok .skip (w.setRow b (c.toList.take off++(a.eval x).cells.toList++c.toList.drop (off+(a.eval x).cells.toList.length)).toArray):=by
  simp only[vA]at aq;have eO:¬((a.eval x).cells.size≠jt.size):=by rw[c1,Kf,hs];simp
  simp only[execOp,ho,a1.z6,Instr.storeAt,Instr.sureAddr,Sem.run_bind,Sem.run_pure,Result.andThen_ok,storeVar,run_sizeOf hj,ag eO,aq]
 unfold wq;rw[fV];have hlen:(c.toList.take off++(a.eval x).cells.toList++c.toList.drop (off+(a.eval x).cells.toList.length)).length=c.size:=by simp;omega
 obtain⟨s1,s2⟩:=Bf aG h1 (cs':=fx cs off vs) hc (c':=(c.toList.take off++(a.eval x).cells.toList++c.toList.drop (off+(a.eval x).cells.toList.length)).toArray) (by simp only[qD];exact hlen) (by rw[AY];simp only[qD];omega)
  (HW (xs:=vs) lp (by simp[c1]) (fun k y hk=>by
   have ab:k<(a.eval x).cells.size:=by rw[c1];exact (bZ.1 hk).1
   have:=c2 k y hk
   simpa [Array.getD,List.getD,ab]using this) (by omega) (by rw[AY];omega) (fun k y hk=>by rw[Lz _ _ _ _ (by omega)]at hk;exact hk))
  (fun k hk=>setRow_other w b k _ hk) (setRow_heap w b c _ T _ hc) rfl rfl rfl (by simp)
 exact hn undef .any _ F _ s1 s2 (.any _) go
theorem At.flat{α:Type}{f:α→List AV}{es:Nat}(hf:∀x,(f x).length=es){b:Nat}:∀(l:List α) (o:Nat),(∀i,(h:i<l.length)→At F w b (o+i*es) (f l[i]))→At F w b o (l.flatMap f)
 | [],o,_=>fun i x h=>by simp at h
 |y::l,o,h=>by
  have h0:=h 0 (by simp)
  have ih:=At.flat hf l (o+es) (fun i hi=>by
   have:=h (i+1) (by simpa using hi);rw[oH,show o+(i*es+es)=o+es+i*es by omega]at this
   simpa using this)
  intro i x hx;rw[y6]at hx
  by_cases hi:i<es
  ·rw[j6 (by rw[hf];exact hi)]at hx;have:=h0 i x (by simpa using hx);simpa using this
  ·rw[jq (by rw[hf];omega),hf]at hx;have:=ih (i-es) x hx;rw[show o+es+(i-es)=o+i by omega]at this;exact this
theorem xH{α:Type}{f:α→List AV}{es:Nat}(hf:∀x,(f x).length=es):∀(l:List α),(l.flatMap f).length=l.length*es
 | []=>by simp
 |y::l=>by rw[y6,bQ,hf,xH hf l,gj,oH];omega
theorem Eo{b o:Nat}{cs:List AV}(h:At F w b o cs):∃news:List Value,news.length=cs.length∧(∀j u,news[j]?=some u→w.cell? ⟨b,o+j,none⟩=some u)∧(∀(i:Nat) (x:AV),cs[i]?=some x→x.leaf=true∧aB F w x (news.getD i undef))∧∀u∈news,u.oneCell'=true:=by
 have hc:∀m,m<cs.length→∃v,w.cell? ⟨b,o+m,none⟩=some v∧v.oneCell'=true:=by
  intro m hm;obtain⟨h1,v,h2,h3⟩:=h m cs[m] (by simp[hm]);exact⟨v,h2,h3.one h1⟩
 refine⟨(List.range cs.length).map fun m=>(w.cell? ⟨b,o+m,none⟩).getD undef,by simp,fun j u hj=>?_,fun i x hx=>?_,fun u hu=>?_⟩
 ·have ab:j<cs.length:=by have:=(List.getElem?_eq_some_iff.1 hj).1;simpa using this
  obtain⟨v,h2,_⟩:=hc j ab;simp[ab,h2]at hj;rw[h2,hj]
 ·have ab:i<cs.length:=(bZ.1 hx).1;obtain⟨h1,v,h2,h3⟩:=h i x hx;refine⟨h1,?_⟩;simpa [List.getD,ab,h2]using h3
 ·obtain⟨m,hm,rfl⟩:=cX.1 hu;obtain⟨v,h2,h3⟩:=hc m (fF.1 hm);rw[h2];exact h3
theorem Dx{σ:Hp}{es n:Nat}{x:AV}{new:List AV}(h:kx σ es x n new)(aG:bj F w σ){v:Value}(hv:aB F w x v){tx e':TypeId}(hk:P.underlying tx=some (.slice e')):
  ∃news:List Value,Src P es tx v n news w∧new.length=news.length∧∀(i:Nat) (x:AV),new[i]?=some x→x.leaf=true∧aB F w x (news.getD i undef):=by
 have empty:∀(a:Option Addr) (c:Nat),Src P es tx (.slice a 0 c) 0 [] w:=by
  intro a c;cases a with
  |none=>exact Src.ofNil w hk c
  |some a=>exact Src.ofSlice w hk a 0 c [] (by simp) (fun j u h=>by simp at h) (fun _ h=>by cases h)
 cases h with
 |an=>cases hv;exact⟨[],empty _ _,rfl,fun i x h=>by simp at h⟩
 |kX=>cases hv;exact⟨[],empty _ _,rfl,fun i x h=>by simp at h⟩
 |gT=>cases hv;exact⟨[],empty _ _,rfl,fun i x h=>by simp at h⟩
 |ah s l hs=>
  obtain⟨a,c,rfl,h1,h2,h3⟩:=hv.Fw
  by_cases aS:l=[]
  ·subst aS;exact⟨[],empty _ _,rfl,fun i x h=>by simp at h⟩
  ·obtain⟨b,o,rfl,hF,hr⟩:=h3 aS
   have ck:At F w b o (l.flatMap s.cells):=At.flat (es:=s.size) (fun d=>Sh.tW s d) l o (fun i hi=>by
    obtain⟨cs',q1,q2,q3⟩:=hr i hi
    exact At.Vv s q2 q3)
   obtain⟨news,n1,n2,n3,n4⟩:=Eo ck;have hl:=xH (fun d=>Sh.tW s d) l;exact⟨news,Src.ofSlice w hk _ _ c news (by rw[n1,hl,hs]) (fun j u hj=>by rw[pS];exact n2 j u hj) n4,n1.symm,n3⟩
 |ae j b off len cs h1 h2=>
  obtain⟨a,cap,rfl,c,T,fz,m1,m2,m3,m4⟩:=hv.kR
  have ck:At F w b off ((cs.drop off).take (n*es)):=by
   have:=(aG.at_ h1 ⟨c,T,fz,m1⟩).drop off;rw[dI]at this;intro i x hx;rw[oM]at hx;split at hx
   ·exact this i x hx
   ·cases hx
  have hl:((cs.drop off).take (n*es)).length=n*es:=by simp;omega
  obtain⟨news,n1,n2,n3,n4⟩:=Eo ck
  rcases m4 with ⟨rfl,_⟩ | ⟨q1,q2,rfl,rfl⟩
  ·exact⟨news,Src.ofSlice w hk _ _ cap news (by rw[n1,hl]) (fun j u hj=>by rw[pS];exact n2 j u hj) n4,n1.symm,n3⟩
  ·have h0:(List.take (0*es) (List.drop off cs))=[]:=by simp
   rw[h0];exact⟨[],empty _ _,rfl,fun i x h=>by simp at h⟩
theorem tV{η:Operand→Value}{o:Oper}{s x:Operand}{t t':TypeId}(ho:o.op=.call ⟨.builtin .append,#[s,x],#[t,t']⟩){v:Value}{w w':World}(h:(Builtin.append_ #[t,t'] o.type #[η s,η x]).run P w=.ok v w'):(execOp η o).run P w=.ok (.value v) w':=by
 rw[tZ _ _ _ o ho];simp[builtin,h]
theorem ZL(z:Array Value)(n:Nat):(Builtin.zeroCells z n).size=n*z.size:=by simp[Builtin.zeroCells]
theorem HG{σ:Hp}(aG:bj F w σ){e:TypeId}{i:TI}{z:Value}{olds news:List Value}{co cn:List AV}{len n cap:Nat}(ho:co.length=olds.length)(hn:cn.length=news.length)(hor:∀(i:Nat) (x:AV),co[i]?=some x→x.leaf=true∧aB F w x (olds.getD i undef))(hnr:∀(i:Nat) (x:AV),cn[i]?=some x→x.leaf=true∧aB F w x (news.getD i undef))
  (qx:olds.length=len*i.size) (Px:news.length=n*i.size) (jX:z.cells.size=i.size) (iY:len+n≤cap) (nH:cap≤maxLen) :
  let w2:=w.drew.alloc (.cells ((olds++news).toArray++Builtin.zeroCells z.cells (cap-(len+n))) e)
  bH F w F w2∧bj F w2 ((w.heap.size,co++cn)::σ)∧aB F w2 (.ae w.heap.size 0 (len+n) i.size) (.slice (some ⟨w.heap.size,0,none⟩) (len+n) cap):=by
 intro w2
 have eO:((olds++news).toArray++Builtin.zeroCells z.cells (cap-(len+n))).size=cap*i.size:=by
  simp only[Array.size_append,qD,bQ,ZL,jX,qx,Px];rw[← lU,← lU]
  congr 1
  omega
 obtain⟨h1,h2⟩:=Rb aG (c:=(olds++news).toArray++Builtin.zeroCells z.cells (cap-(len+n))) (T:=e) (cs:=co++cn) (by simp;omega) (fun k x hx=>by
  have ab:k<(co++cn).length:=(bZ.1 hx).1;have eD:k<(olds++news).length:=by simp at ab ⊢;omega
  have e1:((olds++news).toArray++Builtin.zeroCells z.cells (cap-(len+n))).getD k undef=(olds++news).getD k undef:=by
   rw[Array.getD_eq_getD_getElem?,Array.getElem?_append_left (by simpa using eD),List.getD_eq_getElem?_getD,List.getElem?_toArray]
  rw[e1]
  by_cases hk:k<co.length
  ·rw[j6 hk]at hx;rw[aZ,j6 (by omega),← aZ];exact hor k x hx
  ·rw[jq (by omega)]at hx;rw[aZ,jq (by omega),← aZ,← ho]
   exact hnr _ x hx) (w0:=w.drew) (.inr rfl)
 refine⟨h1,h2,.ae _ _ _ _ _ _ ⟨_,e,(0,0),?_,iY,nH,.inl ⟨rfl,by rw[eO];omega⟩⟩⟩;exact xX w.drew _
theorem G0(ok:dM P TT){o:Oper}{s x:Operand}{t t' e e':TypeId}(ho:o.op=.call ⟨.builtin .append,#[s,x],#[t,t']⟩){ρ:Operand→AV}{σ:Hp}{K:AV→Hp→Prop}{it tB i:TI}(ht:TT t=some it)(hk:it.k=.slice e)(ov:TT t'=some tB)(dR:tB.k=.slice e')(hi:TT e=some i)
  (h:IF i σ (ρ s) (ρ x) K):ky P o ρ σ K:=by
 intro a F w hx aG next Q cP;obtain⟨_,d,_,_,hd,_,_,kj,_,_⟩:=dy ok ht;rw[hk]at kj;obtain rfl:=ko kj;obtain⟨_,d',_,_,kK,_,_,yA,_,_⟩:=dy ok ov;rw[dR]at yA;obtain rfl:=ko yA;obtain⟨j,dj,z,hj,PD,hs,⟨hb,pz⟩,_,hz,iI⟩:=dy ok hi;have jX:z.cells.size=i.size:=by have:=(xQ (F:=F) (w:=w) iI).1;omega
 have a1:=hx s (by simp[ho,Op.operands,Call.operands]);have a2:=hx x (by simp[ho,Op.operands,Call.operands])
 have fits:∀{len n:Nat},len+n≤1048576→i.bytes≤1024→(len+n)*j.bytes≤140737488355328:=by
  intro len n h1 h2;rw[hb];have:(len+n)*i.bytes≤1048576*1024:=jN h1 h2;omega
 cases h with
 |fresh n new iK wO hn AD h0 go same=>
  obtain⟨news,src,q1,q2⟩:=Dx (P:=P) wO aG a2 kK;rw[← hs]at src
  obtain⟨ad,hv⟩:∃ad,a.eval s=.slice ad 0 0:=by
   rcases iK with iK | iK
   ·rw[iK]at a1;revert a1;generalize a.eval s=u;intro a1;cases a1;exact⟨none,rfl⟩
   ·rw[iK]at a1;revert a1;generalize a.eval s=u;intro a1;cases a1;exact⟨_,rfl⟩
  by_cases gw:n=0
  ·subst gw;have wF:news=[]:=List.length_eq_zero_iff.1 (by rw[src.newsLen];simp);subst wF;have hr:=tV (η:=a.eval) ho (by rw[hv];exact run_append_nothing w t t' o.type e j hd hj ad 0 0 (aQ _) _ src);unfold wq;rw[hr];exact cP _ _ σ F w (.refl _ _) aG (by rw[← hv];exact a1) (same rfl)
  ·have hold:(Builtin.firstCells j.size 0 (.slice ad 0 0)).run P w.drew=.ok #[] w.drew:=by
    cases ad with
    |none=>exact run_firstCells_none w.drew _ _ _ _
    |some ad=>exact run_firstCells_some w.drew j.size 0 ad 0 0 [] (by simp) (fun j u h=>by simp at h)
   have zV:=run_append_grow_src (P:=P) w t t' o.type e j z hd hj hz ad 0 0 [] hold _ n news src (by omega) (by omega) (growslice_fits (by omega) (fits (by omega) AD));have au:=grownCap_ge w (0+n) 0 e;have rK:=grownCap_le_maxLen w (0+n) 0 e (by unfold maxLen;omega);obtain⟨g1,g2,g3⟩:=HG aG (e:=e) (i:=i) (z:=z) (olds:=[]) (co:=[]) (news:=news) (cn:=new) (len:=0) (n:=n) (cap:=grownCap w (0+n) 0 e) rfl q1 (fun i x h=>by simp at h) q2 (by simp) (by rw[src.newsLen,hs]) jX au rK;have hr:=tV (η:=a.eval) ho (by rw[hv];exact zV);unfold wq;rw[hr];have:=go gw w.heap.size;rw[show n=0+n from (dI n).symm]at this;exact cP _ _ _ F _ g1 g2 g3 this
 |more jj b len n cs new rH tH eQ wO hn AD h0 go=>
  obtain⟨news,src,q1,q2⟩:=Dx (P:=P) wO aG a2 kK;rw[rH]at a1;obtain⟨ad,cap,hv,c,T,fz,m1,m2,m3,m4⟩:=a1.kR;obtain⟨hF,c',T',jM,Fs,JG⟩:=(aG.holds _ (bU tH)).cells ⟨c,T,fz,m1⟩;have Fs:cs.length≤c'.size:=Fs
  have PH:c=c'∧T=T'∧fz=(0,0):=by
   rw[jM]at m1;cases m1;exact⟨rfl,rfl,rfl⟩
  obtain⟨rfl,rfl,rfl⟩:=PH;have ab:jj<σ.length:=(bZ.1 tH).1;have vq:(cs.take (len*i.size)).length=len*i.size:=by simp;omega
  have OJ:∀(k:Nat) (x:AV),(cs.take (len*i.size))[k]?=some x→x.leaf=true∧aB F w x (c.getD k undef):=by
   intro k x hx;rw[oM]at hx;split at hx
   ·exact JG k x hx
   ·cases hx
  have mL:bj F w (σ.eraseIdx jj):=aG.sub (List.eraseIdx_sublist _ _)
  by_cases oY:len+n≤cap
  ·rcases m4 with ⟨rfl,qn⟩ | ⟨vr,tL,iL,iw⟩
   ·rw[dI]at qn;have hmul:(len+n)*i.size≤cap*i.size:=jm _ oY;rw[lU]at hmul;have mR:news.length=n*i.size:=src.newsLen;have aq:=run_storeCells_at (P:=P) b (len*i.size) T news 0 c w jM (by omega) src.one;simp only[vA]at aq;rw[← hs]at src
    have Fu:(Builtin.append_ #[t,t'] o.type #[.slice (some ⟨b,0,none⟩) len cap,a.eval x]).run P w=.ok (.slice (some ⟨b,0,none⟩) (len+n) cap) (w.setRow b (c.toList.take (len*i.size)++news++c.toList.drop (len*i.size+news.length)).toArray):=by
     rw[← hs]at aq ⊢;simp[Builtin.append_,run_underlying hd,run_underlying kK,sizeOf,typeInfo,hj,src.len,oY,src.cells,Addr.add_lit,aq]
    have hr:=tV (η:=a.eval) ho (by rw[hv];exact Fu);have hlen:(c.toList.take (len*i.size)++news++c.toList.drop (len*i.size+news.length)).length=c.size:=by simp;omega
    obtain⟨s1,s2⟩:=Bf aG tH (cs':=cs.take (len*i.size)++new) jM (c':=(c.toList.take (len*i.size)++news++c.toList.drop (len*i.size+news.length)).toArray) (by simp only[qD];exact hlen) (by rw[qD,hlen,bQ,vq,q1];omega)
     (HW (cs:=cs.take (len*i.size)) (xs:=new) (fun k y hk=>OJ k y hk) q1 q2 (by omega) (by simp only[bQ,vq,q1];omega) (fun k y hk=>by
      by_cases nE:k<len*i.size
      ·rw[ag (by omega)];rw[j6 (by omega)]at hk;exact hk
      ·rw[jq (by omega),vq]at hk;have:=(bZ.1 hk).1;rw[af (by omega)]
       exact hk))
     (fun k hk=>setRow_other w b k _ hk) (setRow_heap w b c _ T _ jM) rfl rfl rfl (by simp)
    unfold wq;rw[hr];refine cP _ _ _ F _ s1 (s2.perm ?_) ?_ (go b)
    ·have:=zd (σ.set jj (b,cs.take (len*i.size)++new)) jj (b,cs.take (len*i.size)++new) (by simp[ab]);rw[Qg]at this;exact this
    ·exact .ae _ _ _ _ _ _ ⟨_,T,(0,0),setRow_heap w b c _ T _ jM,by omega,m3,.inl ⟨rfl,by simp only[qD];rw[hlen];omega⟩⟩
   ·subst iL;subst iw;obtain rfl:n=0:=by omega
    have wF:news=[]:=List.length_eq_zero_iff.1 (by rw[src.newsLen];simp);subst wF;rw[← hs]at src;have iG:new=[]:=List.length_eq_zero_iff.1 (by simpa using q1);subst iG;have hr:=tV (η:=a.eval) ho (by rw[hv];exact run_append_nothing w t t' o.type e j hd hj (some ad) 0 0 (aQ _) _ src);unfold wq;rw[hr];have oZ:bj F w ((b,cs)::σ.eraseIdx jj):=aG.perm (zd σ jj (b,cs) tH);have g0:K (.ae b 0 0 i.size) ((b,[])::σ.eraseIdx jj):=by simpa using go b
    refine cP _ _ ((b,[])::σ.eraseIdx jj) F w (.refl _ _) ⟨oZ.nodup,fun p hp=>?_,oZ.low⟩ (.ae b 0 0 i.size ad 0 ⟨c,T,(0,0),jM,aQ _,by unfold maxLen;omega,.inr ⟨vr,tL,rfl,rfl⟩⟩) g0
    rcases dm.1 hp with rfl | hp
    ·exact⟨hF,.inl ⟨c,T,jM,by simp,fun i x h=>by simp at h⟩⟩
    ·exact oZ.holds p (cQ _ hp)
  ·obtain⟨olds,o1,o2,o3⟩:∃olds:List Value,olds.length=len*i.size∧(Builtin.firstCells i.size len (.slice (some ad) len cap)).run P w.drew=.ok olds.toArray w.drew∧∀(k:Nat) (x:AV),(cs.take (len*i.size))[k]?=some x→x.leaf=true∧aB F w x (olds.getD k undef):=by
    rcases m4 with ⟨rfl,qn⟩ | ⟨vr,tL,rfl,rfl⟩
    ·have ck:At F w b 0 (cs.take (len*i.size)):=by
      have:=aG.at_ tH ⟨_,_,_,jM⟩;intro k x hx;rw[oM]at hx;split at hx
      ·exact this k x hx
      ·cases hx
     obtain⟨olds,n1,n2,n3,n4⟩:=Eo ck;refine⟨olds,by rw[n1,vq],run_firstCells_some w.drew i.size len _ len cap olds (by rw[n1,vq]) (fun k u hk=>?_),n3⟩;rw[pS];exact n2 k u hk
    ·exact⟨[],by simp,run_firstCells_some w.drew i.size 0 ad 0 0 [] (by simp) (fun j u h=>by simp at h),fun k x h=>by simp at h⟩
   have mR:news.length=n*i.size:=src.newsLen;rw[← hs]at src;have zV:=run_append_grow_src (P:=P) w t t' o.type e j z hd hj hz (some ad) len cap olds (by rw[hs];exact o2) _ n news src (by omega) (by omega) (growslice_fits (by omega) (fits (by omega) AD));have au:=grownCap_ge w (len+n) cap e;have rK:=grownCap_le_maxLen w (len+n) cap e (by unfold maxLen;omega);obtain⟨g1,g2,g3⟩:=HG mL (e:=e) (i:=i) (z:=z) (olds:=olds) (co:=cs.take (len*i.size)) (news:=news) (cn:=new) (len:=len) (n:=n) (cap:=grownCap w (len+n) cap e) (by rw[vq,o1]) q1 o3 q2 o1 mR jX au rK;have hr:=tV (η:=a.eval) ho (by rw[hv];exact zV);unfold wq;rw[hr];exact cP _ _ _ F _ g1 g2 g3 (go w.heap.size)
 |BQ jj b off len n cs new rH tH eQ wO hn AD h0 yD go=>
  obtain⟨news,src,q1,q2⟩:=Dx (P:=P) wO aG a2 kK;rw[rH]at a1;obtain⟨ad,cap,hv,c,T,fz,m1,m2,m3,m4⟩:=a1.kR;obtain⟨hF,c',T',jM,Fs,JG⟩:=(aG.holds _ (bU tH)).cells ⟨c,T,fz,m1⟩;have Fs:cs.length≤c'.size:=Fs
  have PH:c=c'∧T=T'∧fz=(0,0):=by
   rw[jM]at m1;cases m1;exact⟨rfl,rfl,rfl⟩
  obtain⟨rfl,rfl,rfl⟩:=PH;have ab:jj<σ.length:=(bZ.1 tH).1;have vq:(cs.take (off+len*i.size)).length=off+len*i.size:=by simp;omega
  have OK:((cs.drop off).take (len*i.size)).length=len*i.size:=by simp;omega
  have OJ:∀(k:Nat) (x:AV),(cs.take (off+len*i.size))[k]?=some x→x.leaf=true∧aB F w x (c.getD k undef):=by
   intro k x hx;rw[oM]at hx;split at hx
   ·exact JG k x hx
   ·cases hx
  have mL:bj F w (σ.eraseIdx jj):=aG.sub (List.eraseIdx_sublist _ _)
  by_cases oY:len+n≤cap
  ·rcases m4 with ⟨rfl,qn⟩ | ⟨vr,tL,iL,iw⟩
   ·have qn:off+cap*i.size≤c.size:=qn;have hmul:(len+n)*i.size≤cap*i.size:=jm _ oY;rw[lU]at hmul;have mR:news.length=n*i.size:=src.newsLen;have aq:=run_storeCells_at (P:=P) b (off+len*i.size) T news 0 c w jM (by omega) src.one;simp only[vA]at aq;rw[← hs]at src
    have Fu:(Builtin.append_ #[t,t'] o.type #[.slice (some ⟨b,off,none⟩) len cap,a.eval x]).run P w=.ok (.slice (some ⟨b,off,none⟩) (len+n) cap) (w.setRow b (c.toList.take (off+len*i.size)++news++c.toList.drop (off+len*i.size+news.length)).toArray):=by
     rw[← hs]at aq ⊢;simp[Builtin.append_,run_underlying hd,run_underlying kK,sizeOf,typeInfo,hj,src.len,oY,src.cells,Addr.add_lit,aq]
    have hr:=tV (η:=a.eval) ho (by rw[hv];exact Fu);have hlen:(c.toList.take (off+len*i.size)++news++c.toList.drop (off+len*i.size+news.length)).length=c.size:=by simp;omega
    obtain⟨s1,s2⟩:=Bf aG tH (cs':=cs.take (off+len*i.size)++new) jM (c':=(c.toList.take (off+len*i.size)++news++c.toList.drop (off+len*i.size+news.length)).toArray) (by simp only[qD];exact hlen) (by rw[qD,hlen,bQ,vq,q1];omega)
     (HW (cs:=cs.take (off+len*i.size)) (xs:=new) (fun k y hk=>OJ k y hk) q1 q2 (by omega) (by simp only[bQ,vq,q1];omega) (fun k y hk=>by
      by_cases nE:k<off+len*i.size
      ·rw[ag (by omega)];rw[j6 (by omega)]at hk;exact hk
      ·rw[jq (by omega),vq]at hk;have:=(bZ.1 hk).1;rw[af (by omega)]
       exact hk))
     (fun k hk=>setRow_other w b k _ hk) (setRow_heap w b c _ T _ jM) rfl rfl rfl (by simp)
    unfold wq;rw[hr];refine cP _ _ _ F _ s1 (s2.perm ?_) ?_ yD
    ·have:=zd (σ.set jj (b,cs.take (off+len*i.size)++new)) jj (b,cs.take (off+len*i.size)++new) (by simp[ab]);rw[Qg]at this;exact this
    ·exact .ae _ _ _ _ _ _ ⟨_,T,(0,0),setRow_heap w b c _ T _ jM,by omega,m3,.inl ⟨rfl,by simp only[qD];rw[hlen];omega⟩⟩
   ·subst iL;subst iw;obtain rfl:n=0:=by omega
    have wF:news=[]:=List.length_eq_zero_iff.1 (by rw[src.newsLen];simp);subst wF;rw[← hs]at src;have iG:new=[]:=List.length_eq_zero_iff.1 (by simpa using q1);subst iG;have hr:=tV (η:=a.eval) ho (by rw[hv];exact run_append_nothing w t t' o.type e j hd hj (some ad) 0 0 (aQ _) _ src);unfold wq;rw[hr];have oZ:bj F w ((b,cs)::σ.eraseIdx jj):=aG.perm (zd σ jj (b,cs) tH);have g0:K (.ae b off 0 i.size) ((b,cs.take off)::σ.eraseIdx jj):=by simpa using yD
    refine cP _ _ ((b,cs.take off)::σ.eraseIdx jj) F w (.refl _ _) ⟨oZ.nodup,fun p hp=>?_,oZ.low⟩ (.ae b off 0 i.size ad 0 ⟨c,T,(0,0),jM,aQ _,by unfold maxLen;omega,.inr ⟨vr,tL,rfl,rfl⟩⟩) g0
    rcases dm.1 hp with rfl | hp
    ·exact⟨hF,.inl ⟨c,T,jM,by simp only[tO];omega,fun k x h=>by
      rw[oM]at h;split at h
      ·exact JG k x h
      ·cases h⟩⟩
    ·exact oZ.holds p (cQ _ hp)
  ·obtain⟨olds,o1,o2,o3⟩:∃olds:List Value,olds.length=len*i.size∧(Builtin.firstCells i.size len (.slice (some ad) len cap)).run P w.drew=.ok olds.toArray w.drew∧∀(k:Nat) (x:AV),((cs.drop off).take (len*i.size))[k]?=some x→x.leaf=true∧aB F w x (olds.getD k undef):=by
    rcases m4 with ⟨rfl,qn⟩ | ⟨vr,tL,rfl,rfl⟩
    ·have ck:At F w b off ((cs.drop off).take (len*i.size)):=by
      have:=aG.at_ tH ⟨_,_,_,jM⟩;intro k x hx;rw[oM]at hx;split at hx
      ·rw[xw]at hx;have h5:=this (off+k) x hx;simpa only [dI]using h5
      ·cases hx
     obtain⟨olds,n1,n2,n3,n4⟩:=Eo ck;refine⟨olds,by rw[n1,OK],run_firstCells_some w.drew i.size len _ len cap olds (by rw[n1,OK]) (fun k u hk=>?_),n3⟩;rw[pS];exact n2 k u hk
    ·exact⟨[],by simp,run_firstCells_some w.drew i.size 0 ad 0 0 [] (by simp) (fun j u h=>by simp at h),fun k x h=>by simp at h⟩
   have mR:news.length=n*i.size:=src.newsLen;rw[← hs]at src;have zV:=run_append_grow_src (P:=P) w t t' o.type e j z hd hj hz (some ad) len cap olds (by rw[hs];exact o2) _ n news src (by omega) (by omega) (growslice_fits (by omega) (fits (by omega) AD));have au:=grownCap_ge w (len+n) cap e;have rK:=grownCap_le_maxLen w (len+n) cap e (by unfold maxLen;omega);obtain⟨g1,g2,g3⟩:=HG mL (e:=e) (i:=i) (z:=z) (olds:=olds) (co:=(cs.drop off).take (len*i.size)) (news:=news) (cn:=new) (len:=len) (n:=n) (cap:=grownCap w (len+n) cap e) (by rw[OK,o1]) q1 o3 q2 o1 mR jX au rK;have hr:=tV (η:=a.eval) ho (by rw[hv];exact zV);unfold wq;rw[hr];exact cP _ _ _ F _ g1 g2 g3 (go w.heap.size)
theorem Yk(w:World)(t t' ty e:TypeId)(k:IntKind)(i:TypeInfo)(z:Value)(hd:P.underlying t=some (.slice e))(kK:P.underlying t'=some (.int k))(hi:P.info? e=some i)(hz:i.zero=some z)(k':IntKind)(m:Nat)(h0:0<m)(hm:m≤1048576)(hb:m*i.bytes≤140737488355328)(hs:0<i.size):
  (Builtin.append_ #[t,t'] ty #[.slice none 0 0,.int k' (m:Int)]).run P w=.ok (.slice (some ⟨w.heap.size,0,none⟩) m (grownCap w m 0 e)) (w.drew.alloc (.cells (([]++(Builtin.zeroCells z.cells m).toList).toArray++Builtin.zeroCells z.cells (grownCap w m 0 e-m)) e)):=by
 have hw:IntKind.i64.wrap (m:Int)=m:=by rw[IntKind.wrap_i64];omega
 have h1:¬((m:Int)<0):=by omega
 have h2:¬((281474976710656:Int)<(m:Int)*(i.bytes:Int)):=by
  have:((m*i.bytes:Nat):Int)≤140737488355328:=by omega
  rw[sJ]at this;omega
 have h3:¬(9223372036854775807<(m:Int)):=by omega
 have h4:¬(281474976710656<Builtin.nextslicecap m 0*i.bytes):=by rw[nextslicecap_zero h0];omega
 have h5:m≠0:=by omega
 have h6:i.size≠0:=by omega
 simp[Builtin.append_,run_underlying hd,run_underlying kK,sizeOf,typeInfo,zeroValue,hi,hz,asInt,asIntOf,hw,h1,h2,h3,h4,h5,Question.forced,run_firstCells_none,newRow,grownCap];intro h7;exact absurd h7 (Nat.mul_ne_zero h5 h6)
theorem YD(ok:dM P TT){o:Oper}{s x:Operand}{t t' e:TypeId}{k:IntKind}(ho:o.op=.call ⟨.builtin .append,#[s,x],#[t,t']⟩){ρ:Operand→AV}{σ:Hp}{K:AV→Hp→Prop}{it tB i:TI}(ht:TT t=some it)(hk:it.k=.slice e)(ov:TT t'=some tB)(dR:tB.k=.int k)(hi:TT e=some i)
  (h:Et i σ (ρ s) (ρ x) K):ky P o ρ σ K:=by
 intro a F w hx aG next Q cP;obtain⟨_,d,_,_,hd,_,_,kj,_,_⟩:=dy ok ht;rw[hk]at kj;obtain rfl:=ko kj;obtain⟨_,d',_,_,kK,_,_,yA,_,_⟩:=dy ok ov;rw[dR]at yA;obtain rfl:=fits_int yA;obtain⟨j,dj,z,hj,PD,hs,⟨hb,pz⟩,_,hz,iI⟩:=dy ok hi;have jX:z.cells.size=i.size:=by have:=(xQ (F:=F) (w:=w) iI).1;omega
 have a1:=hx s (by simp[ho,Op.operands,Call.operands]);have a2:=hx x (by simp[ho,Op.operands,Call.operands]);cases h with
 |an k2 n iK FT hn AD h0 go same=>
  rw[iK]at a1;rw[FT]at a2;have e1:a.eval s=.slice none 0 0:=by revert a1;generalize a.eval s=u;intro a1;cases a1;rfl
  have e2:a.eval x=.int k2 n:=a2.gp
  by_cases gw:n=0
  ·subst gw
   have Fu:(Builtin.append_ #[t,t'] o.type #[.slice none 0 0,.int k2 0]).run P w=.ok (.slice none 0 0) w:=by
    have hw:IntKind.i64.wrap 0=0:=by decide
    simp[Builtin.append_,run_underlying hd,run_underlying kK,sizeOf,typeInfo,hj,asInt,asIntOf,hw]
   have hr:=tV (η:=a.eval) ho (by rw[e1,e2];exact Fu);unfold wq;rw[hr];exact cP _ _ σ F w (.refl _ _) aG .an (same rfl)
  ·obtain⟨m,rfl⟩:∃m:Nat,n=m:=⟨n.toNat,by omega⟩
   have Kq:0<m:=by omega
   have hmul:m*j.bytes≤140737488355328:=by
    rw[hb];have:m*i.bytes≤1048576*1024:=jN (by omega) AD;omega
   have zV:=Yk (P:=P) w t t' o.type e k j z hd kK hj hz k2 m Kq (by omega) hmul (by omega);have au:=grownCap_ge w m 0 e;have rK:=grownCap_le_maxLen w m 0 e (by unfold maxLen;omega);obtain⟨r1,r2⟩:=HV (F:=F) (w:=w) iI (aQ m)
   have l7:(madeCells z.cells (m*i.zero.length))=Builtin.zeroCells z.cells m:=by
    unfold madeCells Builtin.zeroCells;rw[jX,pz]
   have eO:(Builtin.zeroCells z.cells m).size=m*i.zero.length:=by rw[← l7,size_madeCells]
   obtain⟨g1,g2,g3⟩:=HG aG (e:=e) (i:=i) (z:=z) (olds:=[]) (co:=[]) (news:=(Builtin.zeroCells z.cells m).toList) (cn:=cI i.zero m) (len:=0) (n:=m) (cap:=grownCap w m 0 e) rfl (by rw[vP,Array.length_toList,eO]) (fun i x h=>by simp at h) (fun k y hk=>by
    have:=r2 k y hk;rw[l7]at this;rw[aZ,C4,← iy]
    exact this) (by simp) (by rw[Array.length_toList,eO,pz]) jX (by rw[Nat.zero_add];exact au) rK
   rw[dI]at g1 g2 g3;have hr:=tV (η:=a.eval) ho (by rw[e1,e2];exact zV);unfold wq;rw[hr];exact cP _ _ _ F _ g1 g2 g3 (go (by omega) w.heap.size)
theorem YP(ok:dM P TT){o:Oper}{s x:Operand}{t t' e e':TypeId}(ho:o.op=.call ⟨.builtin .append,#[s,x],#[t,t']⟩){ρ:Operand→AV}{σ:Hp}{K:AV→Hp→Prop}{it tB i:TI}(ht:TT t=some it)(hk:it.k=.slice e)(ov:TT t'=some tB)(dR:tB.k=.slice e')(hi:TT e=some i)
  (h:AppendAt i σ (ρ s) (ρ x) K):ky P o ρ σ K:=by
 cases h with
 |fresh n new hs hx hn hb h0 go same=>exact G0 ok ho ht hk ov dR hi (.fresh n new hs hx hn hb h0 go same)
 |more j b len n cs new hs h1 h2 hx hn hb h0 go=>exact G0 ok ho ht hk ov dR hi (.more j b len n cs new hs h1 h2 hx hn hb h0 go)
 |BQ j b off len n cs new hs h1 h2 hx hn hb h0 yD go=>exact G0 ok ho ht hk ov dR hi (.BQ j b off len n cs new hs h1 h2 hx hn hb h0 yD go)
 |perm K2 hp h eD=>
  have:=G0 ok ho ht hk ov dR hi h;intro a F w hx aG next Q hn;refine this a F w hx (aG.perm hp) next Q (fun v av σ' F' w' h1 h2 h3 h4=>?_);obtain⟨Ai,p,k | ⟨hl,k⟩⟩:=eD av σ' h4
  ·exact hn v av Ai F' w' h1 (h2.perm p) h3 k
  ·exact hn v _ Ai F' w' h1 (h2.perm p) (.via _ _ hl h3) k
end
section
variable {P:Program} {TT:TypeId→Option TI} {F:Nat→Prop} {w:World}
theorem L4{σ:Hp}(aG:bj F w σ){j b off:Nat}{cs:List AV}(h1:σ[j]?=some (b,cs))(PI:oW w b)(xs:List AV)(news:List Value)(hl:xs.length=news.length)(hle:off+xs.length≤cs.length)(hv:∀(k:Nat) (y:AV),xs[k]?=some y→y.leaf=true∧aB F w y (news.getD k undef)):
  ∃w',(storeCells ⟨b,off,none⟩ news).run P w=.ok () w'∧bH F w F w'∧bj F w' (σ.set j (b,fx cs off xs)):=by
 obtain⟨hF,c,T,hc,eQ,lp⟩:=(aG.holds _ (bU h1)).cells PI;have eQ:cs.length≤c.size:=eQ
 have mb:∀u∈news,u.oneCell'=true:=by
  intro u hu;obtain⟨k,hk⟩:=lq.1 hu;have ab:k<news.length:=(bZ.1 hk).1;obtain⟨h3,h4⟩:=hv k (xs[k]'(by omega)) (by simp);have:=h4.one h3
  rwa [aZ,hk]at this
 have aq:=run_storeCells_at (P:=P) b off T news 0 c w hc (by omega) mb;simp only[vA]at aq;have hlen:(c.toList.take off++news++c.toList.drop (off+news.length)).length=c.size:=by simp;omega
 obtain⟨s1,s2⟩:=Bf aG h1 (cs':=fx cs off xs) hc (c':=(c.toList.take off++news++c.toList.drop (off+news.length)).toArray) (by simp only[qD];exact hlen) (by rw[AY];simp only[qD];omega)
  (HW (xs:=xs) lp hl hv (by omega) (by rw[AY];omega) (fun k y hk=>by rw[Lz _ _ _ _ (by omega)]at hk;exact hk))
  (fun k hk=>setRow_other w b k _ hk) (setRow_heap w b c _ T _ hc) rfl rfl rfl (by simp)
 exact⟨_,aq,s1,s2⟩
theorem QV{η:Operand→Value}{o:Oper}{s:Operand}{t:TypeId}(ho:o.op=.call ⟨.builtin .clear,#[s],#[t]⟩){v:Value}{w w':World}(h:(Builtin.clear_ #[t] o.type #[η s]).run P w=.ok v w'):(execOp η o).run P w=.ok (.value v) w':=by
 rw[tZ _ _ _ o ho];simp[builtin,h]
theorem Df{η:Operand→Value}{o:Oper}{d x:Operand}{t t':TypeId}(ho:o.op=.call ⟨.builtin .copy,#[d,x],#[t,t']⟩){v:Value}{w w':World}(h:(Builtin.copy_ #[t,t'] o.type #[η d,η x]).run P w=.ok v w'):(execOp η o).run P w=.ok (.value v) w':=by
 rw[tZ _ _ _ o ho];simp[builtin,h]
theorem Mk{σ:Hp}{j:Nat}{p:Nat×List AV}(h:σ[j]?=some p):σ.set j p=σ:=by
 obtain⟨h1,h2⟩:=bZ.1 h;subst h2;exact List.set_getElem_self h1
theorem Zu(ok:dM P TT){o:Oper}{s:Operand}{t e:TypeId}(ho:o.op=.call ⟨.builtin .clear,#[s],#[t]⟩){ρ:Operand→AV}{σ:Hp}{K:AV→Hp→Prop}{it i:TI}(ht:TT t=some it)(hk:it.k=.slice e)(hi:TT e=some i)(h:Nn i σ (ρ s) (fun σ'=>K (.tup []) σ')):ky P o ρ σ K:=by
 intro a F w hx aG next Q cP;obtain⟨_,d,_,_,hd,_,_,kj,_,_⟩:=dy ok ht;rw[hk]at kj;obtain rfl:=ko kj;obtain⟨j,dj,z,hj,PD,hs,⟨hb,pz⟩,_,hz,iI⟩:=dy ok hi;have a1:=hx s (by simp[ho,Op.operands,Call.operands])
 have e0:∀(ad:Option Addr) (c:Nat),(Builtin.clear_ #[t] o.type #[.slice ad 0 c]).run P w=.ok (.tuple #[]) w:=fun ad c=>by
  cases ad <;> simp[Builtin.clear_,run_underlying hd]
 have done:∀(ad:Option Addr) (c:Nat),a.eval s=.slice ad 0 c→K (.tup []) σ→wq P o a w next Q:=fun ad c hv hK=>by
  unfold wq;rw[QV (η:=a.eval) ho (by rw[hv];exact e0 ad c)];exact cP (.tuple #[]) _ σ F w (.refl _ _) aG (.tup _ _ rfl (fun i x h=>by simp at h)) hK
 cases h with
 |none hs go=>
  rcases hs with hs | hs | hs
  ·rw[hs]at a1;generalize hv:a.eval s=v at a1;cases a1;exact done _ _ hv go
  ·rw[hs]at a1;generalize hv:a.eval s=v at a1;cases a1;exact done _ _ hv go
  ·rw[hs]at a1;generalize hv:a.eval s=v at a1;cases a1;exact done _ _ hv go
 |ae j' b off len cs rH h1 h2 go=>
  rw[rH]at a1;obtain⟨ad,cap,hv,c,T,fz,m1,m2,m3,m4⟩:=a1.kR
  by_cases iL:len=0
  ·subst iL;refine done _ _ hv ?_;have e:fx cs off (cI i.zero 0)=cs:=rfl;rw[e,Mk h1]at go;exact go
  ·obtain⟨rfl,_⟩:ad=⟨b,off,none⟩∧off+cap*i.size≤c.size:=by
    rcases m4 with h | ⟨_,_,h,_⟩
    ·exact h
    ·exact absurd h iL
   obtain⟨r1,r2⟩:=HV (F:=F) (w:=w) iI (aQ len);have aj1:z.cells.size=i.zero.length:=((xQ (F:=F) (w:=w) iI).1).symm
   have l7:(madeCells z.cells (len*i.zero.length))=Builtin.zeroCells z.cells len:=by
    unfold madeCells Builtin.zeroCells;rw[aj1]
   have eO:(Builtin.zeroCells z.cells len).size=len*i.zero.length:=by rw[← l7,size_madeCells]
   obtain⟨w',k1,k2,k3⟩:=L4 (P:=P) aG h1 (off:=off) ⟨_,_,_,m1⟩ (cI i.zero len) (Builtin.zeroCells z.cells len).toList (by rw[vP,Qs,eO]) (by rw[vP,pz];exact h2) (fun k y hk=>by
    have:=r2 k y hk;rw[l7]at this;refine⟨this.1,?_⟩;rw[aZ,C4,← iy]
    exact this.2)
   obtain⟨len,rfl⟩:∃m,len=m+1:=⟨len-1,by omega⟩
   have fV:(Builtin.clear_ #[t] o.type #[.slice (some ⟨b,off,none⟩) (len+1) cap]).run P w=.ok (.tuple #[]) w':=by
    simp[Builtin.clear_,run_underlying hd,zeroValue,typeInfo,hj,hz,k1]
   unfold wq;rw[QV (η:=a.eval) ho (by rw[hv];exact fV)];exact cP (.tuple #[]) _ _ F w' k2 k3 (.tup _ _ rfl (fun i x h=>by simp at h)) go
theorem aae(ok:dM P TT){o:Oper}{d x:Operand}{t t' e e':TypeId}(ho:o.op=.call ⟨.builtin .copy,#[d,x],#[t,t']⟩){ρ:Operand→AV}{σ:Hp}{K:AV→Hp→Prop}{it tB i:TI}(ht:TT t=some it)(hk:it.k=.slice e)(ov:TT t'=some tB)(dR:tB.k=.slice e')(hi:TT e=some i)
  (h:NS i σ (ρ d) (ρ x) K):ky P o ρ σ K:=by
 intro a F w hx aG next Q cP;obtain⟨_,dd,_,_,hd,_,_,kj,_,_⟩:=dy ok ht;rw[hk]at kj;obtain rfl:=ko kj;obtain⟨_,d',_,_,kK,_,_,yA,_,_⟩:=dy ok ov;rw[dR]at yA;obtain rfl:=ko yA;obtain⟨j,dj,z,hj,PD,hs,_⟩:=dy ok hi;have a1:=hx d (by simp[ho,Op.operands,Call.operands]);have a2:=hx x (by simp[ho,Op.operands,Call.operands]);cases h with
 |none new mS wO go=>
  obtain⟨news,src,q1,q2⟩:=Dx (P:=P) wO aG a2 kK;have wF:news=[]:=List.length_eq_zero_iff.1 (by rw[src.newsLen];simp);subst wF;rw[← hs]at src
  obtain⟨ad,c,hv⟩:∃ad c,a.eval d=.slice ad 0 c:=by
   rcases mS with mS | mS | mS
   ·rw[mS]at a1;generalize a.eval d=v at a1;cases a1;exact⟨_,_,rfl⟩
   ·rw[mS]at a1;generalize a.eval d=v at a1;cases a1;exact⟨_,_,rfl⟩
   ·rw[mS]at a1;generalize a.eval d=v at a1;cases a1;exact⟨_,_,rfl⟩
  have fV:(Builtin.copy_ #[t,t'] o.type #[.slice ad 0 c,a.eval x]).run P w=.ok (goInt 0) w:=by
   cases ad <;> simp[Builtin.copy_,run_underlying hd,src.len,sizeOf,typeInfo,hj,src.cells,storeCells]
  unfold wq;rw[Df (η:=a.eval) ho (by rw[hv];exact fV)];exact cP _ _ σ F w (.refl _ _) aG (.int _ _) go
 |ae jj b off len n cs new PC h1 h2 wO hn go=>
  obtain⟨news,src,q1,q2⟩:=Dx (P:=P) wO aG a2 kK;rw[PC]at a1;obtain⟨ad,cap,hv,c,T,fz,m1,m2,m3,m4⟩:=a1.kR;have mR:news.length=n*i.size:=src.newsLen;have hmul:n*i.size≤len*i.size:=jm _ hn;rw[← hs]at src
  by_cases iL:len=0
  ·obtain rfl:n=0:=by omega
   have wF:news=[]:=List.length_eq_zero_iff.1 (by rw[mR];simp);subst wF;have iG:new=[]:=List.length_eq_zero_iff.1 (by simpa using q1);subst iG;subst iL
   have fV:(Builtin.copy_ #[t,t'] o.type #[.slice (some ad) 0 cap,a.eval x]).run P w=.ok (goInt 0) w:=by
    simp[Builtin.copy_,run_underlying hd,src.len,sizeOf,typeInfo,hj,src.cells,storeCells]
   unfold wq;rw[Df (η:=a.eval) ho (by rw[hv];exact fV)];have e:fx cs off ([]:List AV)=cs:=rfl;rw[e,Mk h1]at go;exact cP _ _ σ F w (.refl _ _) aG (.int _ _) go
  ·obtain⟨rfl,_⟩:ad=⟨b,off,none⟩∧off+cap*i.size≤c.size:=by
    rcases m4 with h | ⟨_,_,h,_⟩
    ·exact h
    ·exact absurd h iL
   obtain⟨w',k1,k2,k3⟩:=L4 (P:=P) aG h1 (off:=off) ⟨_,_,_,m1⟩ new news q1 (by omega) q2
   have fV:(Builtin.copy_ #[t,t'] o.type #[.slice (some ⟨b,off,none⟩) len cap,a.eval x]).run P w=.ok (goInt n) w':=by
    simp[Builtin.copy_,run_underlying hd,src.len,sizeOf,typeInfo,hj,Nat.min_eq_left hn,src.cells,k1]
   unfold wq;rw[Df (η:=a.eval) ho (by rw[hv];exact fV)];exact cP _ _ _ F w' k2 k3 (.int _ _) go
 |part jj b off len cs PC h1 h2 j2 b2 n9 n lr hxm h3 h4 hn go=>
  rw[PC]at a1;rw[hxm]at a2;obtain⟨ad,cap,hv,c,T,fz,m1,m2,m3,m4⟩:=a1.kR;obtain⟨a3,Af,hv3,c3,T3,Li,p1,p2,p3,p4⟩:=a2.kR;have hmul:len*i.size≤n*i.size:=jm _ hn
  by_cases iL:len=0
  ·subst iL;have hc:(Builtin.firstCells i.size 0 (.slice (some a3) n Af)).run P w=.ok (([]:List Value).toArray) w:=run_firstCells_some w i.size 0 a3 n Af [] (by simp) (fun j u h=>by simp at h);rw[← hs]at hc
   have fV:(Builtin.copy_ #[t,t'] o.type #[.slice (some ad) 0 cap,.slice (some a3) n Af]).run P w=.ok (goInt 0) w:=by
    simp[Builtin.copy_,run_underlying hd,sizeOf,typeInfo,hj,Builtin.lenOf,hc,storeCells]
   unfold wq;rw[Df (η:=a.eval) ho (by rw[hv,hv3];exact fV)];have e:fx cs off ((lr.drop n9).take (0*i.size))=cs:=by rw[vC];rfl
   rw[e,Mk h1]at go;exact cP _ _ σ F w (.refl _ _) aG (.int _ _) go
  ·obtain⟨rfl,_⟩:ad=⟨b,off,none⟩∧off+cap*i.size≤c.size:=by
    rcases m4 with h | ⟨_,_,h,_⟩
    ·exact h
    ·exact absurd h iL
   obtain⟨rfl,_⟩:a3=⟨b2,n9,none⟩∧n9+Af*i.size≤c3.size:=by
    rcases p4 with h | ⟨_,_,h,_⟩
    ·exact h
    ·omega
   have ck:At F w b2 n9 ((lr.drop n9).take (len*i.size)):=by
    have:=(aG.at_ h3 ⟨c3,T3,Li,p1⟩).drop n9;rw[dI]at this;intro i x hx;rw[oM]at hx;split at hx
    ·exact this i x hx
    ·cases hx
   have hl:((lr.drop n9).take (len*i.size)).length=len*i.size:=by simp;omega
   obtain⟨news,n1,n2,n3,n4⟩:=Eo ck;have hc:(Builtin.firstCells i.size len (.slice (some ⟨b2,n9,none⟩) n Af)).run P w=.ok news.toArray w:=run_firstCells_some w i.size len _ n Af news (by rw[n1,hl]) (fun j u hj=>by rw[pS];exact n2 j u hj);rw[← hs]at hc;obtain⟨w',k1,k2,k3⟩:=L4 (P:=P) aG h1 (off:=off) ⟨_,_,_,m1⟩ ((lr.drop n9).take (len*i.size)) news n1.symm (by rw[hl];exact h2) n3
   have fV:(Builtin.copy_ #[t,t'] o.type #[.slice (some ⟨b,off,none⟩) len cap,.slice (some ⟨b2,n9,none⟩) n Af]).run P w=.ok (goInt len) w':=by
    simp[Builtin.copy_,run_underlying hd,sizeOf,typeInfo,hj,Builtin.lenOf,Nat.min_eq_right hn,hc,k1]
   unfold wq;rw[Df (η:=a.eval) ho (by rw[hv,hv3];exact fV)];exact cP _ _ _ F w' k2 k3 (.int _ _) go
end
section
variable {P:Program} {TT:TypeId→Option TI}
theorem Yo{F:Nat→Prop}{w:World}:∀(s:Sh) (d:s.T) (vs:List Value),vs.length=s.size→(∀(k:Nat) (x:AV),(s.cells d)[k]?=some x→aB F w x (vs.getD k undef))→lF F w s vs d:=by
 intro s
 induction s with
 |int k=>intro d vs hl h;match vs,hl with | [v],_=>have:=(h 0 _ rfl).gp;exact congrArg (fun x=>[x]) this
 |bool=>intro d vs hl h;match vs,hl with | [v],_=>have:=(h 0 _ rfl).sd;exact congrArg (fun x=>[x]) this
 |str=>intro d vs hl h;match vs,hl with | [v],_=>have:=(h 0 _ rfl).E6;exact congrArg (fun x=>[x]) this
 |nil=>intro d vs hl h;exact iz.1 hl
 |slice e ih=>
  intro d vs hl h
  match vs,hl with
  | [v],_=>
   have:=h 0 _ rfl;cases this with
   |ah _ _ _ h=>exact h
 |field f r rC kh=>
  intro d vs hl h;simp only[Sh.size]at hl;refine⟨vs.take f.size,vs.drop f.size,(List.take_append_drop _ _).symm,by simp;omega,rC d.1 _ (by simp;omega) (fun k x hk=>?_),kh d.2 _ (by simp;omega) (fun k x hk=>?_)⟩
  ·have nE:k<f.size:=by rw[← Sh.tW f d.1];exact (bZ.1 hk).1
   have:=h k x (by show (f.cells d.1++r.cells d.2)[k]?=some x;rw[j6 (by rw[Sh.tW];exact nE)];exact hk);rw[aZ]at this ⊢;rw[oM,af nE];exact this
  ·have:=h (f.size+k) x (by show (f.cells d.1++r.cells d.2)[f.size+k]?=some x;rw[jq (by rw[Sh.tW];omega),Sh.tW,K4];exact hk);rw[aZ]at this ⊢;rw[xw];exact this
theorem flat_get{α:Type}{f:α→List AV}{es:Nat}(hf:∀x,(f x).length=es):∀(l:List α) (i:Nat) (h:i<l.length) (k:Nat),k<es→(l.flatMap f)[i*es+k]?=(f l[i])[k]?
 | [],i,h,_,_=>by simp at h
 |y::l,0,h,k,hk=>by rw[List.flatMap_cons,List.getElem?_append_left (by rw[hf];omega)];simp
 |y::l,i+1,h,k,hk=>by
  rw[y6,jq (by rw[hf,oH];omega),hf,show (i+1)*es+k-es=i*es+k by rw[oH];omega];simpa using flat_get hf l i (by simpa using h) k hk
theorem adE{F:Nat→Prop}{w:World}{σ:Hp}(aG:bj F w σ){j b off len es:Nat}{cs:List AV}{e:Sh}{l:List e.T}(h1:σ[j]?=some (b,cs))(h2:(cs.drop off).take (len*es)=l.flatMap e.cells)(h3:l.length=len∧e.size=es∧0<es){v:Value}(hv:aB F w (.ae b off len es) v):
  aB (fun x=>F x∨x=b) w (.ah e l) v:=by
 obtain⟨hl,he,uR⟩:=h3;have aq:bH F w (fun x=>F x∨x=b) w:=⟨rfl,rfl,rfl,aQ _,fun _ h=>.inl h,fun _ _=>rfl,fun _ c _ fz h=>⟨c,fz,h,rfl⟩,aQ _⟩
 obtain⟨a,cap,rfl,c,T,fz,m1,m2,m3,m4⟩:=hv.kR;subst hl;refine .ah e l _ ⟨some a,cap,rfl,m2,m3,(fun e=>by cases e),fun aS=>?_⟩;have tG:0<l.length:=mX.2 aS
 rcases m4 with ⟨rfl,qn⟩ | ⟨_,_,h0,_⟩
 ·refine⟨b,off,rfl,⟨.inr rfl,c,T,fz,m1⟩,fun i hi=>?_⟩
  have ck:At F w b off ((cs.drop off).take (l.length*es)):=by
   have:=(aG.at_ h1 ⟨c,T,fz,m1⟩).drop off;rw[dI]at this;intro i x hx;rw[oM]at hx;split at hx
   ·exact this i x hx
   ·cases hx
  rw[h2]at ck
  have l7:∀k,k<es→∃x v,(e.cells l[i])[k]?=some x∧w.cell? ⟨b,off+i*es+k,none⟩=some v∧aB F w x v:=by
   intro k hk;have hlen:k<(e.cells l[i]).length:=by rw[Sh.tW,he];exact hk
   have hx:=bB hlen;have:=flat_get (f:=e.cells) (es:=es) (fun d=>by rw[Sh.tW,he]) l i hi k hk;obtain⟨_,v,h4,h5⟩:=ck (i*es+k) _ (this.trans hx);exact⟨_,v,hx,by rw[← h4,C2],h5⟩
  refine⟨(List.range es).map fun k=>(w.cell? ⟨b,off+i*es+k,none⟩).getD undef,by simp[he],fun k u hk=>?_,Yo e l[i] _ (by simp[he]) (fun k x hk=>?_)⟩
  ·have Gc:k<es:=by have:=(List.getElem?_eq_some_iff.1 hk).1;simpa using this
   obtain⟨x,v,_,h4,_⟩:=l7 k Gc;simp[Gc,h4]at hk;rw[he,h4,hk]
  ·have Gc:k<es:=by have:=(bZ.1 hk).1;rw[Sh.tW,he]at this;exact this
   obtain⟨x',v,h3,h4,h5⟩:=l7 k Gc;rw[h3]at hk;cases hk;have:aB F w x v:=h5;simpa [List.getD,Gc,h4]using this.mono aq
 ·omega
theorem A3{F F':Nat→Prop}{w:World}{b off len es:Nat}{e:Sh}{l:List e.T}(aq:bH F w F' w)(hh:∀v,aB F w (.ae b off len es) v→aB F' w (.ah e l) v){r r':AV}(h:fm b off len es e l r r'):∀v,aB F w r v→aB F' w r' v:=by
 induction h with
 |here=>exact hh
 |refl x=>exact fun v h=>h.mono aq
 |tup xs ys h hi ih=>
  intro v hv;cases hv with
  |tup _ vs hs hr=>
   refine .tup _ _ (by rw[← h];exact hs) (fun i y hy=>?_);have pE:i<xs.length:=by rw[h];exact (bZ.1 hy).1
   exact ih i xs[i] y (bB pE) hy _ (hr i _ (bB pE))
 |agg xs ys h hl hi ih=>
  intro v hv;obtain⟨vs,rfl,hs,hr⟩:=hv.wU;refine .agg _ _ (by rw[← h];exact hs) hl (fun i y hy=>?_);have pE:i<xs.length:=by rw[h];exact (bZ.1 hy).1
  exact ih i xs[i] y (bB pE) hy _ (hr i _ (bB pE)).2
 |nil e'=>
  intro v hv;cases hv;exact .ah e' [] _ ⟨none,0,rfl,aQ _,by unfold maxLen;omega,fun _=>rfl,fun aS=>absurd rfl aS⟩
 |gT e'=>
  intro v hv;cases hv with
  |gT a c h=>exact .ah e' [] _ ⟨some a,c,rfl,bC _,h,(fun e=>by cases e),fun aS=>absurd rfl aS⟩
 |via h ih=>
  intro v hv;cases hv with
  |via _ _ _ hv=>exact ih v hv
theorem yh{F:Nat→Prop}{w:World}{σ:Hp}(aG:bj F w σ){j b off len es:Nat}{cs:List AV}{e:Sh}{l:List e.T}(h1:σ[j]?=some (b,cs))(h2:(cs.drop off).take (len*es)=l.flatMap e.cells)(h3:l.length=len∧e.size=es∧0<es):
  bH F w (fun x=>F x∨x=b) w∧bj (fun x=>F x∨x=b) w (σ.eraseIdx j)∧∀v,aB F w (.ae b off len es) v→aB (fun x=>F x∨x=b) w (.ah e l) v:=by
 have aq:bH F w (fun x=>F x∨x=b) w:=⟨rfl,rfl,rfl,aQ _,fun _ h=>.inl h,fun _ _=>rfl,fun _ c _ fz h=>⟨c,fz,h,rfl⟩,aQ _⟩
 have oZ:bj F w ((b,cs)::σ.eraseIdx j):=aG.perm (zd σ j (b,cs) h1);have cg:=oZ.nodup;simp only[pJ,lV]at cg
 have re:bj (fun x=>F x∨x=b) w (σ.eraseIdx j):=⟨cg.2,fun p hp=>(oZ.holds p (cQ _ hp)).mono aq rfl (fun hF=>by
  rcases hF with hF | hF
  ·exact (oZ.holds p (cQ _ hp)).1 hF
  ·exact cg.1 (cX.2 ⟨p,hp,hF⟩)),fun x hx=>by
  rcases hx with hx | hx
  ·exact aG.low x hx
  ·subst hx;exact (oZ.holds (x,cs) (b9 ..)).lt⟩
 exact⟨aq,re,fun v hv=>adE aG h1 h2 h3 hv⟩
end
section
variable {P:Program} {TT:TypeId→Option TI}
theorem Lx{F:Nat→Prop}{w:World}{xs:Array Operand}{ρ:Operand→AV}{η:Operand→Value}(h:∀x∈xs.toList,aB F w (ρ x) (η x)):jC F w (xs.toList.map ρ) (xs.map η):=by
 refine⟨by simp,fun i x hi=>?_⟩;simp only[fk,xB]at hi;obtain⟨a,h1,rfl⟩:=hi;have ab:i<xs.size:=by have:=(List.getElem?_eq_some_iff.1 h1).1;simpa using this
 have:xs[i]=a:=by simpa [ab]using h1
 simpa [Array.getD,ab,this]using h a (List.mem_of_getElem? h1)
theorem G1{F:Nat→Prop}{w:World}{xs ys:List AV}{us vs:Array Value}(h:jC F w xs us)(k:jC F w ys vs):jC F w (xs++ys) (us++vs):=by
 refine⟨by simp[h.1,k.1],fun i x hi=>?_⟩;rw[iy]
 by_cases ab:i<xs.length
 ·rw[j6 ab]at hi;rw[Lg (by rw[← h.1];exact ab),← iy];exact h.2 i x hi
 ·rw[jq (by omega)]at hi;rw[Array.getElem?_append_right (by rw[← h.1];omega),← iy,← h.1];exact k.2 _ x hi
theorem Sq{F:Nat→Prop}{w:World}{x:AV}{v:Value}(h:aB F w x v):jC F w [x] #[v]:=⟨rfl,fun i y hi=>by cases i <;> simp at hi;subst hi;exact h⟩
theorem G8{o:Oper}{ρ:Operand→AV}{σ:Hp}{K:AV→Hp→Prop}(h:ky P o (fun x=>bR (ρ x)) σ K):ky P o ρ σ K:=fun a F w hx=>h a F w (fun x hm=>(hx x hm).bR)
theorem Q5{o:Oper}{c:Call}(ho:o.op=.call c){ρ:Operand→AV}{K:FuncId→List AV→Prop}{KY:Nat→List AV→Prop}(h:qO P c ρ K KY):
  (∃l xs,KY l xs∧∀(η:Operand→Value) (F:Nat→Prop) (w:World),(∀x∈o.op.operands.toList,aB F w (ρ x) (η x))→∃vs,jC F w xs vs∧execOp η o=Instr.yield l vs)∨∃f xs,K f xs∧∀(η:Operand→Value) (F:Nat→Prop) (w:World),(∀x∈o.op.operands.toList,aB F w (ρ x) (η x))→∃vs,jC F w xs vs∧(Enters P f→(execOp η o).run P w=.ok (.enter f vs) w):=by
 unfold qO at h;split at h
 ·rename_i f0 hc
  split at h
  ·rename_i g first cap hf
   refine .inr ⟨g,_,h,fun η F w hx=>?_⟩;have h1:=hx f0 (by simp[ho,Op.operands,Call.operands,hc]);rw[hf]at h1;have h2:=Lx (xs:=c.args) (ρ:=fun x=>bR (ρ x)) (η:=η) (F:=F) (w:=w) (fun x hm=>(hx x (by simp only[ho,Op.operands,Call.operands,hc,C6,bY];exact .inr hm)).bR);cases hv:η f0 with
   |func f' v1 v2=>
    rw[hv]at h1;obtain⟨rfl,r1,r2⟩:f'=.func g∧jC F w first v1∧jC F w cap v2:=by cases h1 with | fn _ _ _ _ _ fD gQ h1 h2=>exact⟨rfl,⟨fD,h1⟩,⟨gQ,h2⟩⟩
    refine⟨v1++c.args.map η++v2,G1 (G1 r1 h2) r2,fun he=>?_⟩;simp only[execOp,ho,resolve,hc,Deferred.ofValue,hv,Sem.run_bind,Sem.run_pure,Result.andThen_ok,invoke];exact he _ _
   |_=>rw[hv]at h1;cases h1
  ·rename_i l hf
   refine .inl ⟨l,_,h,fun η F w hx=>?_⟩;have h1:=hx f0 (by simp[ho,Op.operands,Call.operands,hc]);rw[hf]at h1;have h2:=Lx (xs:=c.args) (ρ:=fun x=>bR (ρ x)) (η:=η) (F:=F) (w:=w) (fun x hm=>(hx x (by simp only[ho,Op.operands,Call.operands,hc,C6,bY];exact .inr hm)).bR);cases hv:η f0 with
   |func f' v1 v2=>
    rw[hv]at h1;obtain⟨rfl,r1,r2⟩:f'=.yield l∧v1 = #[]∧v2 = #[]:=by cases h1 with | fn _ _ _ _ _ fD gQ h1 h2=>exact⟨rfl,GN.1 fD.symm,GN.1 gQ.symm⟩
    subst r1 r2;refine⟨c.args.map η,h2,?_⟩;simp only[execOp,ho,resolve,hc,Deferred.ofValue,hv,pure_bind,invoke];simp
   |_=>rw[hv]at h1;cases h1
  ·exact h.elim
 ·rename_i r m hc
  have fin:∀(t:TypeId) (v:AV),ρ r=.iface t v→(∀F w u,aB F w v u→∃ad,u=.pointer (some ad))→InvAt P t m (fun g=>K g (v::c.args.toList.map fun x=>bR (ρ x)))→
    ∃f xs,K f xs∧∀(η:Operand→Value) (F:Nat→Prop) (w:World),(∀x∈o.op.operands.toList,aB F w (ρ x) (η x))→∃vs,jC F w xs vs∧(Enters P f→(execOp η o).run P w=.ok (.enter f vs) w):=by
   rintro t v hr hp ⟨g,hm,go⟩;refine⟨g,_,go,fun η F w hx=>?_⟩;have h1:=hx r (by simp[ho,Op.operands,Call.operands,hc]);rw[hr]at h1;have h2:=Lx (xs:=c.args) (ρ:=fun x=>bR (ρ x)) (η:=η) (F:=F) (w:=w) (fun x hm=>(hx x (by simp only[ho,Op.operands,Call.operands,hc,C6,bY];exact .inr hm)).bR);cases hv:η r with
   |iface t' u=>
    rw[hv]at h1;obtain⟨rfl,hu⟩:t'=t∧aB F w v u:=by cases h1 with | iface _ _ _ h=>exact⟨rfl,h⟩
    obtain⟨ad,rfl⟩:=hp F w u hu;refine⟨#[.pointer (some ad)]++c.args.map η,(show jC F w ([v]++c.args.toList.map fun x=>bR (ρ x)) _ from G1 (Sq hu) h2),fun he=>?_⟩
    have hex:(#[η r]++c.args.map η).extract 1 (#[η r]++c.args.map η).size=c.args.map η:=by
     apply Array.ext';simp;exact List.take_of_length_le (by simp)
    have h0:(#[η r]++c.args.map η)[0]?=some (η r):=by rw[Array.getElem?_append_left (by simp)];rfl
    have hinv:invoke (.fn (.method m) #[]) (#[η r]++c.args.map η)=callMethod (η r) m (c.args.map η):=by
     unfold invoke;simp only[h0];exact congrArg (callMethod (η r) m) hex
    have rK:(callMethod (η r) m (c.args.map η)).run P w=.ok (.enter g (#[.pointer (some ad)]++c.args.map η)) w:=by
     rw[hv];unfold callMethod;have aV:=hm ad w;simp only[Sem.run_bind,run_program,Result.andThen_ok,aV];exact he _ _
    simp only[execOp,ho,resolve,hc,Sem.run_bind,Sem.run_pure,Result.andThen_ok,hinv,rK]
   |_=>rw[hv]at h1;cases h1
  split at h
  ·rename_i t b o' hr
   exact .inr <| fin t _ hr (fun F w u hu=>⟨_,hu.z6⟩) h
  ·rename_i t cs hr
   exact .inr <| fin t _ hr (fun F w u hu=>by obtain⟨b,o',e,_⟩:=hu.zF;exact⟨_,e⟩) h
  ·exact h.elim
 ·exact h.elim
theorem H0{F F':Nat→Prop}{w:World}{σ:Hp}(aG:bj F' w σ){b off len es:Nat}{e:Sh}{l:List e.T}(hh:∀v,aB F w (.ae b off len es) v→aB F' w (.ah e l) v){i k b':Nat}{cs:List AV}(hi:σ[i]?=some (b',cs))(hk:cs[k]?=some (.ae b off len es)):bj F' w (σ.set i (b',cs.set k (.ah e l))):=by
 have ab:i<σ.length:=(bZ.1 hi).1
 have ET:(σ.set i (b',cs.set k (.ah e l))).map Prod.fst=σ.map Prod.fst:=by
  rw[oI];apply AK;intro n;rw[eA];split
  ·rename_i e;subst e
   have:=(bZ.1 hi).2;simp[ab,this]
  ·rfl
 refine⟨ET▸aG.nodup,fun p hm=>?_,aG.low⟩
 rcases qG hm with hm | rfl
 ·exact aG.holds p hm
 ·obtain⟨hF,c,T,h1,h2,h3⟩:=(aG.holds _ (bU hi)).N3 hk rfl;refine⟨hF,.inl ⟨c,T,h1,by simpa using h2,fun n x hn=>?_⟩⟩;rw[eA]at hn;split at hn
  ·rename_i e;subst e
   split at hn
   ·cases hn;refine⟨rfl,hh _ ?_⟩;have:=(h3 k _ hk).2;revert this;generalize c.getD k undef=v;intro this;cases this with
    |ae _ _ _ _ a cap h=>exact .ae _ _ _ _ a cap h
   ·cases hn
  ·exact h3 n x hn
theorem Hl{f:FuncId}{xs:List AV}{σ:Hp}{K:AV→Hp→Prop}(h:CallAt P f K xs σ):ACalls P f xs σ K:=by
 induction h with
 |mk js R call go=>
  obtain⟨po,ie⟩:=call;refine⟨po,fun F w vs bP aG=>(ie F w vs bP (aG.perm (zl js _))).mono ?_⟩;rintro e w' ⟨r,v,σ',F',rfl,h1,h2,h3,h4⟩;exact⟨r,v,σ',F',rfl,h1,h2,h3,go r σ' h4⟩
 |perm R hp call go=>
  obtain⟨po,ie⟩:=call;refine⟨po,fun F w vs bP aG=>(ie F w vs bP (aG.perm hp)).mono ?_⟩;rintro e w' ⟨r,v,σ',F',rfl,h1,h2,h3,h4⟩;obtain⟨eJ,k1,k2⟩:=go r σ' h4;exact⟨r,v,eJ,F',rfl,h1,h2.perm k1,h3,k2⟩
 |kV j b off len es cs e l h1 h2 h3 i k b' cs' hi hk h ih=>
  obtain⟨po,ie⟩:=ih;refine⟨po,fun F w vs bP aG =>?_⟩;obtain⟨aq,re,hh⟩:=yh aG h1 h2 h3;refine (ie _ w vs (bP.mono aq) (H0 re hh hi hk)).mono ?_;rintro e w' ⟨r,v,σ',F',rfl,q1,q2,q3,q4⟩;exact⟨r,v,σ',F',rfl,aq.trans q1,q2,q3,q4⟩
 |cN j b off len es cs e l h1 h2 h3 h4 h ih=>
  obtain⟨po,ie⟩:=ih;refine⟨po,fun F w vs bP aG =>?_⟩;obtain⟨aq,re,hh⟩:=yh aG h1 h2 h3;have hv:=A3 aq hh h4 (.tuple vs) (.tup _ _ bP.1 bP.2);cases hv with
  |tup _ _ hs hr=>
   refine (ie _ w vs ⟨hs,hr⟩ re).mono ?_;rintro e w' ⟨r,v,σ',F',rfl,h1,h2,h3,h4⟩;exact⟨r,v,σ',F',rfl,aq.trans h1,h2,h3,h4⟩
theorem YO{o:Oper}{c:Call}(ho:o.op=.call c){ρ:Operand→AV}{σ:Hp}{K:AV→Hp→Prop}(h:qO P c ρ (fun f xs=>CallAt P f K xs σ) (fun l xs=>yd P l K xs σ)):ky P o ρ σ K:=by
 rcases Q5 ho h with ⟨l,xs,hc,fV⟩ | ⟨f,xs,hc,fV⟩
 ·intro a F w hx aG next Q hn;obtain⟨vs,bP,hr⟩:=fV a.eval F w hx;unfold wq;rw[hr];cases hc with
  |mk js R call go=>
   obtain⟨f,tmps,assign,body,h1,h2⟩:=call F w vs bP (aG.perm (zl js σ));rw[h1];refine RoundIn.mono h2 ?_;rintro e w' ⟨r,v,σ',F',rfl,h1,h2,h3,h4⟩;exact⟨v,rfl,hn v r σ' F' w' h1 h2 h3 (go _ _ h4)⟩
  |perm R hp call go=>
   obtain⟨f,tmps,assign,body,h1,h2⟩:=call F w vs bP (aG.perm hp);rw[h1];refine RoundIn.mono h2 ?_;rintro e w' ⟨r,v,σ',F',rfl,h1,h2,h3,h4⟩;obtain⟨eJ,k1,k2⟩:=go _ _ h4;exact⟨v,rfl,hn v r eJ F' w' h1 (h2.perm k1) h3 k2⟩
 obtain⟨po,ie⟩:=Hl hc;intro a F w hx aG next Q hn;obtain⟨vs,bP,hr⟩:=fV a.eval F w hx;unfold wq;rw[hr po];refine (ie F w vs bP aG).mono ?_;rintro e w' ⟨r,v,σ',F',rfl,h1,h2,h3,h4⟩;exact⟨v,rfl,hn v r σ' F' w' h1 h2 h3 h4⟩
theorem Yx{o:Oper}{t:TypeId}(ho:o.op=.makeMap t none){ρ:Operand→AV}{σ:Hp}{K:AV→Hp→Prop}(hk:∀b,K (.ob b) ((b,[.pf []])::σ)):ky P o ρ σ K:=by
 intro a F w hx aG next Q hn
 have fV:(execOp a.eval o).run P w=.ok (.value (.map (some w.heap.size))) (w.alloc (.map #[] 0)):=by
  have e:(Instr.makeMap t none).run P w=.ok (.map (some w.heap.size)) (w.alloc (.map #[] 0)):=rfl;simp[execOp,ho,e,Result.andThen]
 unfold wq;rw[fV];have hold:∀b,b<w.heap.size→(w.alloc (.map #[] 0)).heap[b]?=w.heap[b]?:=fun b hb=>Below.heap_alloc _ _ b hb;have aq:bH F w F (w.alloc (.map #[] 0)):=zg aG.low rfl rfl rfl (by simp) hold;have hr:=aG.same aq hold;have iG:(w.alloc (.map #[] 0)).heap[w.heap.size]?=some (.map #[] 0):=xX _ _;refine hn _ (.ob w.heap.size) _ F _ aq ⟨?_,fun p hm=>?_,hr.low⟩ (.ob _) (hk _)
 ·simp only[pJ,lV];refine⟨fun hm=>?_,aG.nodup⟩;obtain⟨p,hp,e⟩:=cX.1 hm;have:=(aG.holds p hp).lt;omega
 ·rcases dm.1 hm with rfl | hm
  ·exact⟨fun hF=>KF _ (aG.low _ hF),.inr (.inl ⟨_,_,rfl,iG,rfl⟩)⟩
  ·exact hr.holds p hm
theorem RL{σ:Hp}{F:Nat→Prop}{w:World}(h:bj F w σ){j b:Nat}{x x':AV}{o o':Obj}(ho:yw x=some o)(eP:yw x'=some o')(hj:σ[j]?=some (b,[x])):
  bH F w F { w with heap:=w.heap.setIfInBounds b o' }∧bj F { w with heap:=w.heap.setIfInBounds b o' } (σ.set j (b,[x'])):=by
 obtain⟨hb,hc⟩:=(h.holds (b,[x]) (bU hj)).JA ho;have ab:j<σ.length:=(bZ.1 hj).1;obtain⟨Kd,hw⟩:=MapKept.heap_set (o':=o') hc
 have aq:bH F w F { w with heap:=w.heap.setIfInBounds b o' }:=⟨rfl,rfl,rfl,by simp,fun _ h=>h,fun k hF=>hw k (fun e=>hb (e▸hF)),fun k d S fz hk=>by
  by_cases e:k=b
  ·subst e;rw[hc]at hk;cases hk;exact (RS ho).elim
  ·exact⟨d,fz,(hw k e).trans hk,rfl⟩,aQ _⟩
 have ET:(σ.set j (b,[x'])).map Prod.fst=σ.map Prod.fst:=by
  rw[oI];apply AK;intro k;rw[eA];split
  ·rename_i e;subst e
   simp[ab];have:=(bZ.1 hj).2;rw[this]
  ·rfl
 refine⟨aq,⟨ET▸h.nodup,fun p hm=>?_,fun k hF=>by simpa using h.low k hF⟩⟩;obtain⟨k,hk⟩:=lq.1 hm;rw[eA]at hk;split at hk
 ·rename_i e;subst e
  simp at hk;obtain⟨_,rfl⟩:=hk;exact⟨hb,.inr (.inl ⟨_,_,rfl,Kd,eP⟩)⟩
 ·rename_i aS
  have aV:=bU hk
  have rJ:p.1≠b:=fun e=>by
   have cg:=h.nodup;have h1:(σ.map Prod.fst)[k]?=some b:=by rw[List.getElem?_map,hk];simp[e]
   have h2:(σ.map Prod.fst)[j]?=some b:=by rw[fk,hj];rfl
   have dR:k<(σ.map Prod.fst).length:=(bZ.1 h1).1;have:=(List.getElem?_inj (i:=k) (j:=j) dR cg).1 (h1.trans h2.symm);exact aS this.symm
  exact (h.holds p aV).mono aq (hw _ rJ) (h.holds p aV).1
theorem ZP{σ:Hp}{F:Nat→Prop}{w:World}(h:bj F w σ){j b:Nat}{l l':List (Int×Int)}(hj:σ[j]?=some (b,[.pf l])):
  bH F w F { w with heap:=w.heap.setIfInBounds b (.map (gB 0 l').toArray l'.length) }∧bj F { w with heap:=w.heap.setIfInBounds b (.map (gB 0 l').toArray l'.length) } (σ.set j (b,[.pf l'])):=RL h rfl rfl hj
theorem Q1(ok:dM P TT){o:Oper}{t:TypeId}{m k x:Operand}(ho:o.op=.mapUpdate t m k x∨o.op=.insert t m k x){ρ:Operand→AV}{σ:Hp}{K:AV→Hp→Prop}(h:Bv TT t (bR (ρ m)) (bR (ρ k)) (bR (ρ x)) σ K):ky P o ρ σ K:=by
 intro a F w hx aG next Q hn;unfold Bv at h;split at h
 ·rename_i z n v hz hk Cy
  obtain⟨kt,et,h1,h2,h3⟩:=L2 ok hz;obtain⟨j,b,l,hm,hj,go⟩:=h;have Ac:m∈o.op.operands.toList∧k∈o.op.operands.toList∧x∈o.op.operands.toList:=by rcases ho with ho | ho <;> simp[ho,Op.operands]
  have a1:=(hx m Ac.1).bR;rw[hm]at a1;have a2:=(hx k Ac.2.1).bR;rw[hk]at a2;have a3:=(hx x Ac.2.2).bR;rw[Cy]at a3;have e1:a.eval m=.map (some b):=a1.NY;have e2:a.eval k=.int .i64 n:=a2.gp;have e3:a.eval x=.int .i64 v:=a3.gp;obtain⟨_,hb⟩:=(aG.holds _ (bU hj)).Ff
  have fV:(execOp a.eval o).run P w=.ok .skip { w with heap:=w.heap.setIfInBounds b (.map (gB 0 (si l n v)).toArray (si l n v).length) }:=by
   rcases ho with ho | ho <;> simp[execOp,ho,e1,e2,e3,Y1 h1 h2 hb n v,Result.andThen]
  unfold wq;rw[fV];obtain⟨s1,s2⟩:=ZP aG (l':=si l n v) hj;exact hn undef .any _ F _ s1 s2 (.any _) go
 ·exact h.elim
theorem Ma:∀(l:List (Int×Int)) (m:Nat) (e:MapEntry),e∈gB m l→∃(i:Nat) (p:Int×Int),l[i]?=some p∧e = { key:=.int .i64 p.1,val:=.int .i64 p.2,born:=m+i }
 | [],_,_,h=>by cases h
 |p::l,m,e,h=>by
  rcases dm.1 h with rfl | h
  ·exact⟨0,p,rfl,rfl⟩
  ·obtain⟨i,q,h1,h2⟩:=Ma l (m+1) e h;exact⟨i+1,q,h1,by rw[h2];simp only[MapEntry.mk.injEq,true_and];omega⟩
theorem Ut{l:List (Int×Int)}{m i:Nat}{p:Int×Int}(h:l[i]?=some p):({ key:=.int .i64 p.1,val:=.int .i64 p.2,born:=m+i }:MapEntry)∈gB m l:=
 bU (i:=i) (by rw[Mv,h];rfl)
theorem Sb:∀(l:List (Int×Int)) (m:Nat),((gB m l).map (·.born)).Nodup∧∀x∈(gB m l).map (·.born),m≤x
 | [],_=>⟨Qr,fun _ h=>by cases h⟩
 |p::l,m=>by
  obtain⟨h1,h2⟩:=Sb l (m+1);refine⟨lV.2 ⟨fun hm=>?_,h1⟩,fun x hx=>?_⟩
  ·have:=h2 _ hm;exact Nat.not_succ_le_self _ this
  ·rcases dm.1 hx with rfl | hx
   ·exact aQ _
   ·exact Nat.le_of_succ_le (h2 _ hx)
theorem Yq(ok:dM P TT){o:Oper}{t:TypeId}{x:Operand}(ho:o.op=.range t x){ρ:Operand→AV}{σ:Hp}{K:AV→Hp→Prop}(h:IK TT t (bR (ρ x)) σ K):ky P o ρ σ K:=by
 intro a F w hx aG next Q hn;unfold IK at h;split at h
 ·rename_i z hz
  obtain⟨kt,et,h1,h2,h3⟩:=L2 ok hz;obtain⟨j,b,l,hm,hj,go⟩:=h;have a1:=(hx x (by simp[ho,Op.operands])).bR;rw[hm]at a1;have e1:a.eval x=.map (some b):=a1.NY;obtain⟨_,hb⟩:=(aG.holds _ (bU hj)).Ff
  have fV:(execOp a.eval o).run P w=.ok (.value (.pointer (some ⟨w.heap.size,0,none⟩))) (w.alloc (.mapIter (some b) l.length #[] l.length)):=by
   have e:=run_range_map (P:=P) w t kt et b _ _ h1 hb;simp[execOp,ho,e1,e,Result.andThen]
  unfold wq;rw[fV];have hold:∀k,k<w.heap.size→(w.alloc (.mapIter (some b) l.length #[] l.length)).heap[k]?=w.heap[k]?:=fun k hk=>Below.heap_alloc _ _ k hk;have aq:bH F w F (w.alloc (.mapIter (some b) l.length #[] l.length)):=zg aG.low rfl rfl rfl (by simp) hold;have hr:=aG.same aq hold;have iG:(w.alloc (.mapIter (some b) l.length #[] l.length)).heap[w.heap.size]?=some (.mapIter (some b) l.length #[] l.length):=xX _ _;refine hn _ (.ou w.heap.size) _ F _ aq ⟨?_,fun p hm=>?_,hr.low⟩ (.ou _) (go _)
  ·simp only[pJ,lV];refine⟨fun hm=>?_,aG.nodup⟩;obtain⟨p,hp,e⟩:=cX.1 hm;have:=(aG.holds p hp).lt;omega
  ·rcases dm.1 hm with rfl | hm
   ·exact⟨fun hF=>KF _ (aG.low _ hF),.inr (.inl ⟨_,_,rfl,iG,rfl⟩)⟩
   ·exact hr.holds p hm
 ·exact h.elim
theorem ZQ{σ:Hp}{F:Nat→Prop}{w:World}(h:bj F w σ):bH F w F w.drew∧bj F w.drew σ:=by
 have aq:bH F w F w.drew:=⟨rfl,rfl,rfl,aQ _,fun _ h=>h,fun _ _=>rfl,fun k d S fz hk=>⟨d,fz,hk,rfl⟩,Nat.le_succ _⟩
 exact⟨aq,h.nodup,fun p hp=>(h.holds p hp).mono aq rfl (h.holds p hp).1,h.low⟩
theorem Yw{o:Oper}{x:Operand}(ho:o.op=.next x false){ρ:Operand→AV}{σ:Hp}{K:AV→Hp→Prop}(h:NP σ (bR (ρ x)) K):ky P o ρ σ K:=by
 intro a F w hx aG next Q hn;obtain⟨j,j2,r,b,l,seen,hm,h1,h2,stop,go⟩:=h;have a1:=(hx x (by simp[ho,Op.operands])).bR;rw[hm]at a1;have e1:a.eval x=.pointer (some ⟨r,0,none⟩):=a1.XP;obtain⟨_,hr⟩:=(aG.holds _ (bU h1)).JA rfl;obtain⟨_,hb⟩:=(aG.holds _ (bU h2)).Ff
 have aip:∀x∈(gB 0 l).toArray.toList,x.born<l.length:=fun x hx=>by
  obtain⟨i,p,hi,rfl⟩:=Ma l 0 x hx;show 0+i<_;have:=(bZ.1 hi).1;omega
 unfold wq
 rcases run_next_at (P:=P) w o.type r b l.length l.length seen.toArray _ _ hr hb aip (aQ _) with ⟨hz,fV⟩ | ⟨e,he,w1,hw1,fV⟩
 ·have ES:(execOp a.eval o).run P w=.ok (.value (.tuple #[.bool false])) w:=by simp[execOp,ho,e1,fV,Result.andThen]
  rw[ES];refine hn _ (.tup [.bool false]) σ F w (bH.refl _ _) aG (.tup _ _ rfl fun i y hy=>?_) (stop fun i hi=>?_)
  ·match i,hy with
   | 0,hy=>cases hy;exact .bool _
   |i+1,hy=>simp at hy
  ·have hz:leftOf (gB 0 l).toArray seen.toArray = #[]:=Lb hz;unfold leftOf at hz;rw[Array.filter_eq_empty_iff]at hz;have:=hz _ (by simpa using Ut (m:=0) (List.getElem?_eq_getElem hi));simpa using this
 ·have ES:(execOp a.eval o).run P w=.ok (.value (.tuple #[.bool true,e.key,e.val])) (Go.ChangeMaps.setBlock w1 r (.mapIter (some b) l.length (seen.toArray.push e.born) l.length)):=by simp[execOp,ho,e1,fV,Result.andThen]
  rw[ES];unfold leftOf at he;have vm:e∈gB 0 l∧e.born ∉ seen:=by simpa using he
  obtain⟨i,p,hi,rfl⟩:=Ma l 0 e vm.1;have hns:i ∉ seen:=by simpa using vm.2
  have hw:bH F w F w1∧bj F w1 σ:=by
   rcases hw1 with rfl | rfl
   ·exact⟨bH.refl _ _,aG⟩
   ·exact ZQ aG
  obtain⟨s1,s2⟩:=RL (x':=.tc b l.length (seen++[i])) hw.2 rfl rfl h1;have e2:(seen++[i]).toArray=seen.toArray.push (0+i):=by simp
  rw[e2]at s1 s2;refine hn _ (.tup [.bool true,.int .i64 p.1,.int .i64 p.2]) _ F _ (hw.1.trans s1) s2 (.tup _ _ rfl fun k y hy=>?_) (go i p hi hns)
  match k,hy with
  | 0,hy=>cases hy;exact .bool _
  | 1,hy=>cases hy;exact .int _ _
  | 2,hy=>cases hy;exact .int _ _
  |k+3,hy=>simp at hy
theorem Ys{o:Oper}{x:Operand}(ho:o.op=.entry x){ρ:Operand→AV}{σ:Hp}{K:AV→Hp→Prop}(h:Nl σ (bR (ρ x)) K):ky P o ρ σ K:=by
 intro a F w hx aG next Q hn;obtain⟨j,j2,r,b,i,l,p,seen,hm,h1,h2,h3,go⟩:=h;have a1:=(hx x (by simp[ho,Op.operands])).bR;rw[hm]at a1;have e1:a.eval x=.pointer (some ⟨r,0,none⟩):=a1.XP;obtain⟨_,hr⟩:=(aG.holds _ (bU h1)).JA rfl;obtain⟨_,hb⟩:=(aG.holds _ (bU h2)).Ff
 have hr:w.heap[r]?=some (.mapIter (some b) l.length (seen.toArray.push (0+i)) l.length):=by
  rw[hr];simp
 have fV:=run_entry_at (P:=P) w r b l.length seen.toArray (gB 0 l).toArray l.length { key:=.int .i64 p.1,val:=.int .i64 p.2,born:=0+i } hr hb (by simpa using Ut (m:=0) h3) (by simpa using (Sb l 0).1);have ES:(execOp a.eval o).run P w=.ok (.value (.tuple #[.int .i64 p.1,.int .i64 p.2])) w:=by simp[execOp,ho,e1,fV,Result.andThen]
 unfold wq;rw[ES];refine hn _ (.tup [.int .i64 p.1,.int .i64 p.2]) σ F w (bH.refl _ _) aG (.tup _ _ rfl fun k y hy=>?_) go
 match k,hy with
 | 0,hy=>cases hy;exact .int _ _
 | 1,hy=>cases hy;exact .int _ _
 |k+2,hy=>simp at hy
theorem LZ(ok:dM P TT){o:Oper}{ρ:Operand→AV}{σ:Hp}{K:AV→Hp→Prop}(h:ir P TT o.op ρ σ K):ky P o ρ σ K:=by
 have dd:fX P TT o.op ρ σ (fun v=>K v σ)→ky P o ρ σ K:=fun h=>by
  obtain⟨v,h1,h2⟩:=Hx ok h;exact Yy h2 h1
 generalize mm:o.op=op at h dd;unfold ir at h;split at h
 ·split at h
  ·rename_i cs hc;exact abR mm hc h
  ·exact h.elim
 ·split at h
  ·rename_i i hi;exact Zz ok mm hi h
  ·exact h.elim
 ·split at h
  ·rename_i e sz rL z0 ht
   split at h
   ·rename_i i hi
    split at h
    ·rename_i cs hf fD gQ
     exact Yl ok mm ht rfl hi hf (cy fD) (cy gQ) h
    ·exact h.elim
   ·exact h.elim
  ·exact h.elim
 ·split at h
  ·rename_i e sz rL z0 k n k' m ht hl hc
   split at h
   ·rename_i i hi
    exact Ym ok mm ht rfl hi hl hc h.fact h.go
   ·exact h.elim
  ·exact h.elim
 ·split at h
  ·rename_i i hi
   split at h
   ·rename_i b off hp;exact YU ok mm hi hp h
   ·exact h.elim
  ·exact h.elim
 ·split at h
  ·exact Yx mm h
  ·exact h.elim
 ·exact Q1 ok (.inl mm) h
 ·exact Q1 ok (.inr mm) h
 ·exact Yq ok mm h
 ·split at h
  ·exact Yw mm h
  ·exact h.elim
 ·exact Ys mm h
 ·rename_i args cD
  split at h
  ·rename_i s x t t' Ob XS
   obtain rfl:args = #[s,x]:=by cases args;simp_all
   obtain rfl:cD = #[t,t']:=by cases cD;simp_all
   split at h
   ·rename_i e s1 b1 z1 e' s2 b2 z2 ht ov
    split at h
    ·rename_i i hi;exact G8 (YP ok mm ht rfl ov rfl hi (ρ:=fun x=>bR (ρ x)) h)
    ·exact h.elim
   ·rename_i e s1 b1 z1 k' s2 b2 z2 ht ov
    split at h
    ·rename_i i hi;exact G8 (YD ok mm ht rfl ov rfl hi (ρ:=fun x=>bR (ρ x)) h)
    ·exact h.elim
   ·exact h.elim
  ·exact h.elim
 ·rename_i args cD
  split at h
  ·rename_i s t Ob XS
   obtain rfl:args = #[s]:=by cases args;simp_all
   obtain rfl:cD = #[t]:=by cases cD;simp_all
   split at h
   ·rename_i e s1 b1 z1 ht
    split at h
    ·rename_i i hi;exact G8 (Zu ok mm ht rfl hi (ρ:=fun x=>bR (ρ x)) h)
    ·exact h.elim
   ·exact h.elim
  ·exact h.elim
 ·rename_i args cD
  split at h
  ·rename_i d x t t' Ob XS
   obtain rfl:args = #[d,x]:=by cases args;simp_all
   obtain rfl:cD = #[t,t']:=by cases cD;simp_all
   split at h
   ·rename_i e s1 b1 z1 e' s2 b2 z2 ht ov
    split at h
    ·rename_i i hi;exact G8 (aae ok mm ht rfl ov rfl hi (ρ:=fun x=>bR (ρ x)) h)
    ·exact h.elim
   ·exact h.elim
  ·exact h.elim
 ·exact dd h
 ·exact YO mm h
 ·exact dd h
def uU(F:Nat→Prop)(w:World)(t:Tm)(a:Act):Prop:=∀i,aB F w (t i) (a.tmps.getD i undef)
theorem uU.mono{F F':Nat→Prop}{w w':World}{t:Tm}{a:Act}(h:uU F w t a)(aq:bH F w F' w'):uU F' w' t a:=fun i=>(h i).mono aq
theorem uU.put{F:Nat→Prop}{w:World}{t:Tm}{a:Act}(h:uU F w t a){d:Option Tmp}{x:AV}{v:Value}(hx:aB F w x v)(hd:∀i,d=some i→i<a.tmps.size):uU F w (put t d x) (a.put d v):=by
 cases d with
 |none=>exact h
 |some d=>
  intro i;show aB F w (match Nat.beq i d with | true=>x | false=>t i) ((a.tmps.setIfInBounds d v).getD i undef);have eK:=hd d rfl;cases hb:Nat.beq i d with
  |true=>
   have:=j5 hb;subst this;simpa [Array.getD,eK]using hx
  |false=>
   have aS:d≠i:=fun e=>by subst e;rw[y4]at hb;cases hb
   have:=h i;rw[iy]at this ⊢;rw[Ld aS];exact this
theorem pP{F:Nat→Prop}{w:World}(v:Value):aB F w (BD v) v:=by
 cases v with
 |int k n=>exact .int _ _
 |bool b=>exact .bool _
 |string s=>exact .str _
 |pointer a=>cases a <;> first | exact .cW | exact .any _
 |slice a l c=>cases a <;> cases l <;> cases c <;> first | exact .an | exact .any _
 |nilIface=>exact .nilif
 |nilFunc=>exact .jd
 |map a=>cases a <;> first | exact .qk | exact .any _
 |_=>exact .any _
theorem UM{F:Nat→Prop}{w:World}{t:Tm}{a:Act}(x:Operand)(h:∀i,x=.tmp i→aB F w (t i) (a.tmps.getD i undef)):aB F w (ev t x) (a.eval x):=by
 cases x with
 |tmp i=>exact h i rfl
 |const v=>
  show aB F w (Xg v) v;cases v with
  |agg cs=>
   show aB F w (match (cs.toList.map BD).all AV.leaf with | true=>.agg (cs.toList.map BD) | false=>.any) _;split
   ·rename_i hl
    refine .agg _ _ (by simp) (fun i x hx=>?_) (fun i x hx=>?_)
    ·exact fG.1 hl x (bU hx)
    ·simp only[fk,xB]at hx;obtain⟨v,hv,rfl⟩:=hx;have ab:i<cs.size:=by have:=(List.getElem?_eq_some_iff.1 hv).1;simpa using this
     have:cs[i]=v:=by simpa [ab]using hv
     simpa [Array.getD,ab,this]using pP v
   ·exact .any _
  |tuple vs=>
   show aB F w (match vs.toList with | []=>.tup [] | _=>.any) _;split
   ·rename_i h0
    exact .tup _ _ (by simp at h0;simp[h0]) (fun i x h=>by simp at h)
   ·exact .any _
  |int k n=>exact pP (.int k n)
  |bool b=>exact pP (.bool b)
  |string x=>exact pP (.string x)
  |float k b=>exact pP (.float k b)
  |complex k b c=>exact pP (.complex k b c)
  |pointer x=>exact pP (.pointer x)
  |slice x l c=>exact pP (.slice x l c)
  |map x=>exact pP (.map x)
  |chan x=>exact pP (.chan x)
  |func f x y=>exact pP (.func f x y)
  |nilFunc=>exact pP .nilFunc
  |iface t x=>exact pP (.iface t x)
  |nilIface=>exact pP .nilIface
 |global g=>exact .any _
 |func f=>exact .fn _ _ _ _ _ rfl rfl (fun i x h=>by simp at h) (fun i x h=>by simp at h)
theorem uU.eval{F:Nat→Prop}{w:World}{t:Tm}{a:Act}(h:uU F w t a)(x:Operand):aB F w (ev t x) (a.eval x):=UM x fun i _=>h i
end
section
variable {P:Program} {TT:TypeId→Option TI}
structure Marks(B:Nat)(F:Nat→Prop)(w:World)(ds:List Deferred):Prop where
 low:B≤w.heap.size
 nodup:ds.Nodup
 is:∀d∈ds,∃D,d = { target:=.collected D,args:= #[] }∧B≤D∧F D∧w.heap[D]?=some (.deferred (some []))
theorem Marks.mono{B:Nat}{F F':Nat→Prop}{w w':World}{ds:List Deferred}(h:Marks B F w ds)(aq:bH F w F' w'):Marks B F' w' ds:=
 ⟨ff h.low aq.size,h.nodup,fun d hd=>by
  obtain⟨D,h1,h2,h3,h4⟩:=h.is d hd
  exact⟨D,h1,h2,aq.sub D h3,(aq.fix D h3).trans h4⟩⟩
structure dx(B n:Nat)(F:Nat→Prop)(w:World)(t:Tm)(σ:Hp)(a:Act):Prop where
 tm:uU F w t a
 hp:bj F w σ
 size:n≤a.tmps.size
 defers:Marks B F w a.defers
theorem T9(a:Act)(d:Option Tmp)(v:Value):(a.put d v).tmps.size=a.tmps.size:=by cases d <;> simp[Act.put]
theorem Vn(a:Act)(d:Option Tmp)(v:Value):(a.put d v).defers=a.defers:=by cases d <;> rfl
theorem dx.put{B n:Nat}{F F':Nat→Prop}{w w':World}{t:Tm}{σ σ':Hp}{a:Act}(h:dx B n F w t σ a)(aq:bH F w F' w')(hp:bj F' w' σ'){d:Option Tmp}{x:AV}{v:Value}(hx:aB F' w' x v)(hd:∀i,d=some i→i<n):dx B n F' w' (put t d x) σ' (a.put d v):=
 ⟨(h.tm.mono aq).put hx (fun i e=>sL (hd i e) h.size),hp,by rw[T9];exact h.size,by rw[Vn];exact h.defers.mono aq⟩
theorem Up{F:Nat→Prop}{w:World}{σ:Hp}(h:bj F w σ){i b':Nat}{cs lr:List AV}(hi:σ[i]?=some (b',cs))(hl:lr.length=cs.length)(hk:∀(k:Nat) (x y:AV),cs[k]?=some x→lr[k]?=some y→x=y∨(x=.an∧∃e:Sh,y=.ah e [])):bj F w (σ.set i (b',lr)):=by
 refine⟨?_,fun p hp=>?_,h.low⟩
 ·have e1:(σ.set i (b',lr)).map Prod.fst=σ.map Prod.fst:=by
   rw[oI];refine List.ext_getElem (by simp) fun j h1 h2=>?_;rw[KR];split
   ·rename_i hj;subst hj
    have:=bZ.1 hi;obtain⟨q1,q2⟩:=this;rw[KQ,q2]
   ·rfl
  rw[e1];exact h.nodup
 ·rcases qG hp with hp | rfl
  ·exact h.holds p hp
  ·have hh:=h.holds _ (bU hi)
   by_cases hn:∃k:Nat,cs[k]?=some AV.an
   ·obtain⟨k,j0⟩:=hn;obtain⟨h1,c,T,h2,h3,h4⟩:=hh.N3 j0 rfl;refine⟨h1,.inl ⟨c,T,h2,by rw[hl];exact h3,fun j y hy=>?_⟩⟩;have hj:j<cs.length:=by rw[← hl];exact (bZ.1 hy).1
    have hx:=bB hj;obtain⟨q1,q2⟩:=h4 j _ hx
    rcases hk j _ _ hx hy with e | ⟨e,e',rfl⟩
    ·rw[← e];exact⟨q1,q2⟩
    ·rw[e]at q2;refine⟨rfl,?_⟩;revert q2;generalize c.getD j undef=u;intro q2;cases q2;exact .ah e' [] _ ⟨none,0,rfl,aQ _,bC _,(fun _=>rfl),fun aS=>absurd rfl aS⟩
   ·have e:lr=cs:=by
     refine C8 hl fun j h1 h2=>?_
     rcases hk j _ _ (bB h2) (bB h1) with e | ⟨e,_⟩
     ·exact e.symm
     ·exact absurd ⟨j,(bB h2).trans (congrArg some e)⟩ hn
    rw[e];exact hh
theorem Vz{F:Nat→Prop}{w:World}{σ:Hp}(h:bj F w σ){i b' k:Nat}{cs':List AV}(e:Sh)(hi:σ[i]?=some (b',cs'))(hk:cs'[k]?=some .an):bj F w (σ.set i (b',cs'.set k (.ah e []))):=
 Up h hi (by simp) fun j x y hx hy=>by
  rw[eA]at hy;split at hy
  ·rename_i hj;subst hj
   split at hy
   ·rw[hk]at hx;cases hx;cases hy;exact .inr ⟨rfl,e,rfl⟩
   ·cases hy
  ·rw[hx]at hy;cases hy;exact .inl rfl
theorem bj.eb{F:Nat→Prop}{w:World}{σ σ':Hp}(h:bj F w σ)(hs:jI σ σ'):bj F w σ':=by
 induction hs with
 |refl=>exact h
 |pull js _ ih=>exact ih (h.perm (zl js _))
 |perm hp _ ih=>exact ih (h.perm hp)
 |aiX i b' cs lr hi hl hk _ ih=>exact ih (Up h hi hl hk)
 | @drop k n σ σ2 _ ih=>
  refine ih (h.sub ?_)
  have h1:(σ.drop (k+n)).Sublist (σ.drop k):=by
   rw[← CT];exact List.drop_sublist _ _
  have h2:=(List.Sublist.refl (σ.take k)).append h1
  rwa [y7]at h2
theorem dx.eb{B n:Nat}{F:Nat→Prop}{w:World}{t:Tm}{σ σ':Hp}{a:Act}(h:dx B n F w t σ a)(hs:jI σ σ'):dx B n F w t σ' a:=⟨h.tm,h.hp.eb hs,h.size,h.defers⟩
def wg(ops:List Oper)(o:Oper)(t:Tm)(b:Bool):Prop:=
 (o.guard=none∧b=true)∨∃j want d x,o.guard=some (j,want)∧(ops[j]?).bind (·.dst)=some d∧((t d=.bool x∧b=(x == want))∨(t d=.tup []∧b=false))
theorem zo{ops:List Oper}{o:Oper}{t:Tm}{A B:Prop}(h:p7 ops o t A B):(wg ops o t true∧A)∨(wg ops o t false∧B):=by
 unfold p7 at h;split at h
 ·rename_i hg
  exact .inl ⟨.inl ⟨hg,rfl⟩,h⟩
 ·rename_i j want hg
  split at h
  ·rename_i d hd
   split at h
   ·rename_i b hb
    cases want <;> cases b
    ·exact .inl ⟨.inr ⟨j,_,d,_,hg,hd,.inl ⟨hb,rfl⟩⟩,h⟩
    ·exact .inr ⟨.inr ⟨j,_,d,_,hg,hd,.inl ⟨hb,rfl⟩⟩,h⟩
    ·exact .inr ⟨.inr ⟨j,_,d,_,hg,hd,.inl ⟨hb,rfl⟩⟩,h⟩
    ·exact .inl ⟨.inr ⟨j,_,d,_,hg,hd,.inl ⟨hb,rfl⟩⟩,h⟩
   ·rename_i hb
    exact .inr ⟨.inr ⟨j,_,d,false,hg,hd,.inr ⟨hb,rfl⟩⟩,h⟩
   ·exact h.elim
  ·exact h.elim
theorem zi{F:Nat→Prop}{w:World}:aB F w (.tup []) undef:=.tup _ _ rfl (fun i x h=>by simp at h)
theorem aaA{F:Nat→Prop}{w:World}{u:Value}(h:aB F w (.tup []) u):u=.tuple #[]:=by
 cases h with
 |tup _ vs hs h=>rw[GN.1 hs.symm]
theorem Ho{ops:List Oper}{o:Oper}{t:Tm}{a:Act}{b:Bool}(h:wg ops o t b)(hr:∀d,(∃j want,o.guard=some (j,want)∧(ops[j]?).bind (·.dst)=some d)→∃F w,aB F w (t d) (a.tmps.getD d undef)):Region.wanted o (yielded ops.toArray a.tmps)=b:=by
 rcases h with ⟨hg,rfl⟩ | ⟨j,want,d,x,hg,h1,⟨h2,rfl⟩ | ⟨h2,rfl⟩⟩
 ·simp[Region.wanted,hg]
 ·obtain⟨F,w,h3⟩:=hr d ⟨j,want,hg,h1⟩;rw[h2]at h3;have h3:=h3.sd
  have h4:a.tmps[d]?=some (.bool x):=by
   rw[iy]at h3;cases hq:a.tmps[d]? with
   |none=>rw[hq]at h3;simp[undef]at h3
   |some v=>rw[hq]at h3;simpa using h3
  have h5:yielded ops.toArray a.tmps j=some x:=by
   unfold yielded;simp only[AO,h1,Option.bind_some,h4]
  simp[Region.wanted,hg,h5]
 ·obtain⟨F,w,h3⟩:=hr d ⟨j,want,hg,h1⟩;rw[h2]at h3;have h3:=aaA h3
  have h5:yielded ops.toArray a.tmps j=none:=by
   unfold yielded;simp only[AO,h1,Option.bind_some];rw[iy]at h3;cases hq:a.tmps[d]? with
   |none=>rfl
   |some v=>rw[hq]at h3;simp at h3;rw[h3]
  simp[Region.wanted,hg,h5]
theorem LG(ok:dM P TT){B n:Nat}{ops:List Oper}{Q:Exit→Act→World→Prop}:∀(l:List Oper) (t:Tm) (σ:Hp) (K:Tm→Hp→Prop) (F:Nat→Prop) (w:World) (a:Act),(∀o∈l,∀d,o.dst=some d→d<n)→XK P TT ops l t σ K→dx B n F w t σ a→
  (∀t' σ' F' w' a',bH F w F' w'→dx B n F' w' t' σ' a'→K t' σ'→Q .normal a' w')→ye P ops.toArray Q l a w
 | [],t,σ,K,F,w,a,_,h,hs,hq=>hq t σ F w a (.refl _ _) hs h
 |o::l,t,σ,K,F,w,a,hd,h,hs,hq=>by
  have hw:∀{b:Bool},wg ops o t b→Region.wanted o (yielded ops.toArray a.tmps)=b:=fun hg=>Ho hg fun d _=>⟨F,w,hs.tm d⟩
  rcases zo h with ⟨hg,h⟩ | ⟨hg,h⟩
  ·unfold ye;rw[af (hw hg)];refine (LZ ok h a F w (fun x _=>hs.tm.eval x) hs.hp _ Q ?_);intro v av σ' F' w' h1 h2 h3 h4;exact LG ok l _ σ' K F' w' _ (fun o ho=>hd o (cQ _ ho)) h4 (hs.put h1 h2 h3 (hd o (b9 ..))) (fun t' kT oQ mO a' k1 k2 k3=>hq t' kT oQ mO a' (h1.trans k1) k2 k3)
  ·unfold ye;rw[if_neg (by rw[hw hg];simp)];exact LG ok l _ σ K F w _ (fun o ho=>hd o (cQ _ ho)) h (hs.put (.refl _ _) hs.hp zi (hd o (b9 ..))) hq
def NQ(P:Program)(o:Oper)(ρ:Operand→AV)(σ:Hp)(v:AV):Prop:=
 ∀(a:Act) (F:Nat→Prop) (w:World),(∀x∈o.op.operands.toList,aB F w (ρ x) (a.eval x))→bj F w σ→∀(next:Act→World→Prop) (Q:Exit→Act→World→Prop),
  (∀u F' w',bH F w F' w'→bj F' w' σ→aB F' w' v u→next (a.put o.dst u) w')→wq P o a w next Q
theorem SP(ok:dM P TT){o:Oper}{ρ:Operand→AV}{σ:Hp}{K:AV→Prop}(h:w7 P TT o.op ρ σ K):∃v,K v∧NQ P o ρ σ v:=by
 have dd:fX P TT o.op ρ σ K→∃v,K v∧NQ P o ρ σ v:=fun h=>by
  obtain⟨v,h1,h2⟩:=Hx ok h;refine⟨v,h1,fun a F w hx aG next Q hn=>?_⟩;obtain⟨v',h3,h4⟩:=h2 a.eval F w o rfl hx aG;unfold wq;rw[h3];exact hn v' F w (.refl _ _) aG h4
 generalize mm:o.op=op at h dd;unfold w7 at h;split at h
 ·exact dd h
 ·obtain⟨_,_,h,_⟩ | ⟨f,xs,hc,fV⟩:=Q5 mm h
  ·exact h.elim
  cases hc with
  |mk js r call go=>
   obtain⟨po,ie⟩:=call;refine⟨r,go,fun a F w hx aG next Q hn=>?_⟩;obtain⟨vs,bP,hr⟩:=fV a.eval F w hx;unfold wq;rw[hr po];refine (ie F w vs bP (aG.perm (zl js σ))).mono ?_;rintro e w' ⟨r',v,σ',F',rfl,h1,h2,h3,rfl,rfl⟩;exact⟨v,rfl,hn v F' w' h1 (h2.perm (zl js σ).symm) h3⟩
  |perm hp r call go=>
   obtain⟨po,ie⟩:=call;refine⟨r,go,fun a F w hx aG next Q hn=>?_⟩;obtain⟨vs,bP,hr⟩:=fV a.eval F w hx;unfold wq;rw[hr po];refine (ie F w vs bP (aG.perm hp)).mono ?_;rintro e w' ⟨r',v,σ',F',rfl,h1,h2,h3,rfl,oz⟩;exact⟨v,rfl,hn v F' w' h1 (h2.perm (hp.symm.trans oz)) h3⟩
 ·exact dd h
end
end Go.Proofs.YtnikdflhefijbaaGreat
