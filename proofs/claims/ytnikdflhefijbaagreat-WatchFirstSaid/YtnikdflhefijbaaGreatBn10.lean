import Derived.Shelf.GgSortFunc.RowK
import Derived.Sort.Grow
import Derived.Test.YtnikdflhefijbaaGreatBn5
import Derived.Shelf.SlSortCmp.NoneTotal
import Derived.Test.YtnikdflhefijbaaGreatBn8
import Derived.Test.YtnikdflhefijbaaGreatBn9
import Derived.Test.YtnikdflhefijbaaGreatBn6
namespace Go.Proofs.YtnikdflhefijbaaGreat
open Go.RowKit
theorem aeq{F':Nat→Prop}{w w':World}(h:bB (fun b=>b<w.heap.size) w F' w'):∃q os,w'=Go.Sort.grow (w.drewN q) os:=by
 obtain⟨h1,h2,h3,h4,_,h6,_,h8⟩:=h
 have hh:w'.heap=w.heap++w'.heap.extract w.heap.size w'.heap.size:=by
  apply Array.ext
  ·simp only[Array.size_append,Array.size_extract];omega
  ·intro i hi qV
   by_cases ab:i<w.heap.size
   ·have e:=h6 i ab
    rw[qe hi,qe ab]at e
    rw[Array.getElem_append_left ab]
    exact Option.some.inj e
   ·rw[Array.getElem_append_right (by omega),Array.getElem_extract]
    congr 1;omega
 refine⟨w'.drawn-w.drawn,w'.heap.extract w.heap.size w'.heap.size,?_⟩
 have hd:w.drawn+(w'.drawn-w.drawn)=w'.drawn:=by omega
 unfold Go.Sort.grow World.drewN
 cases w' with
 |mk heap tape drawn os output=>
  simp only at h1 h2 h3 hh hd ⊢
  rw[h1,h2,h3,← hh,hd]
theorem Q5{f:FuncId}{xs:List AV}{k:IntKind}{z:Int}(h:∀σ,ACalls Tryz.prog f xs σ (aB (.int k z) σ)){w:World}{vs:Array Value}(hv:ja (fun b=>b<w.heap.size) w xs vs):Calls Tryz.prog f vs w fun e w'=>e=.returned (.int k z)∧∃q os,w'=Go.Sort.grow (w.drewN q) os:=by
 refine ((h []).2 (fun b=>b<w.heap.size) w vs hv ⟨Px,fun p hp=>absurd hp wG,fun b hb=>hb⟩).mono ?_
 rintro e w' ⟨r,v,σ',F',rfl,an,_,hr,rfl,_⟩
 refine⟨?_,aeq an⟩
 rw[hr.gB]
set_option maxRecDepth 100000
def xN(a b:Int):Int:=if a<b then -1 else if b<a then 1 else 0
theorem VN(a:Int)(σ:Hp):ACalls Tryz.prog 234 [.int .i64 a] σ (aB (.bool false) σ):=by
 refine au Tryz.func234 ?_
 refine cI (fun h=>absurd h (by simp)) (fun _=>?_)
 exact .done ⟨rfl,rfl⟩
theorem Xg(a b:Int)(σ:Hp):ACalls Tryz.prog 184 [.int .i64 a,.int .i64 b] σ (aB (.int .i64 (xN a b)) σ):=by
 refine au Tryz.func184 ?_
 refine az [] (VN a _) ?_
 refine az [] (VN b _) ?_
 refine ak (p:=a<b) (fun c1=>?_) (fun c1=>?_)
 ·exact .done ⟨aJ (ah c1).symm,rfl⟩
 refine ak (p:=b<a) (fun c2=>?_) (fun c2=>?_)
 ·exact .done ⟨aJ (by unfold xN;rw[ag c1,ah c2]),rfl⟩
 ·exact .done ⟨aJ (by unfold xN;rw[ag c1,ag c2]),rfl⟩
def BN(x y:Int):Int:=if x=0 then y else x
theorem aiy(b:Nat)(x y:Int)(σ:Hp):ACalls Tryz.prog 183 [.af b 0 2 1] ((b,[.int .i64 x,.int .i64 y])::σ) (aB (.int .i64 (BN x y)) ((b,[.int .i64 x,.int .i64 y])::σ)):=by
 refine au Tryz.func183 ?_
 refine cc (S:=Nat×Int) (fun s=>[(3,.int .i64 s.2),(6,.af b 0 2 1),(7,.int .i64 2),(8,.int .i64 s.1)]) (fun _=>(b,[.int .i64 x,.int .i64 y])::σ) (fun s=>s.2=0∧s.1≤2∧(0<s.1→x=0)∧(1<s.1→y=0)) (fun s=>2-s.1) (0,0) ⟨⟨rfl,by omega,fun h=>by omega,fun h=>by omega⟩,⟨rfl,rfl,rfl,rfl,trivial⟩,rfl⟩ ?_
 rintro⟨k,z⟩ g ⟨iA,aP,BR,hy0⟩
 have hz:z=0:=iA
 have hk:k≤2:=aP
 have hx:0<k→x=0:=BR
 have hy:1<k→y=0:=hy0
 clear iA aP BR hy0
 match k,hk,hx,hy with
 | 0,_,_,_=>
  refine aK ?_
  refine aa 0 ?_
  refine cI (fun c1=>?_) (fun c1=>?_)
  ·have c1:(!decide (x=z))=true:=c1
   have c1:¬x=z:=by simpa using c1
   exact .done ⟨aJ (by unfold BN;rw[ag (by rw[← hz];exact c1)]),rfl⟩
  ·have c1:(!decide (x=z))=false:=c1
   have c1:x=z:=by simpa using c1
   exact bg (1,z) (by show 2-1<2-0;decide) ⟨hz,(show 1≤2 by decide),fun _=>c1.trans hz,fun h=>absurd h (show ¬1<1 by decide)⟩ ⟨rfl,rfl,rfl,rfl,trivial⟩ (.refl _)
 | 1,_,hx,_=>
  refine aK ?_
  refine aa 0 ?_
  refine cI (fun c1=>?_) (fun c1=>?_)
  ·exact .done ⟨aJ (by unfold BN;rw[ah (hx (by decide))]),rfl⟩
  ·have c1:(!decide (y=z))=false:=c1
   have c1:y=z:=by simpa using c1
   exact bg (2,z) (by show 2-2<2-1;decide) ⟨hz,(show 2≤2 by decide),fun _=>hx (by decide),fun _=>c1.trans hz⟩ ⟨rfl,rfl,rfl,rfl,trivial⟩ (.refl _)
 | 2,_,hx,hy=>
  exact .done ⟨aJ (by unfold BN;rw[ah (hx (by decide)),hy (by decide)];exact hz),rfl⟩
def N0(a b c d:Int):Int:=BN (xN a c) (xN b d)
theorem ahq(a b c d:Int)(σ:Hp):ACalls Tryz.prog 182 [.agg [.int .i64 a,.int .i64 b],.agg [.int .i64 c,.int .i64 d]] σ (aB (.int .i64 (N0 a b c d)) σ):=by
 refine au Tryz.func182 ?_
 intro aD
 intro du
 refine .sched [4,9] (upto [4,9] 13 0) (by kernel_rfl) ?_
 refine aa 1 ?_
 refine aa 0 ?_
 refine aH [] (Xg a c _) ?_
 refine aa 1 ?_
 refine aa 0 ?_
 refine aH [] (Xg b d _) ?_
 intro rb
 refine az [] (aiy rb (xN a c) (xN b d) _) ?_
 exact .drop 0 3 (.done ⟨rfl,rfl⟩)
theorem aiE(a b c d:Int)(σ:Hp):ACalls Tryz.prog 186 [.agg [.int .i64 a,.int .i64 b],.agg [.int .i64 c,.int .i64 d]] σ (aB (.bool (decide (a=c)&&decide (b=d))) σ):=by
 refine au Tryz.func186 ?_
 intro aD
 intro du
 refine aa 1 ?_
 refine aa 0 ?_
 refine .mk (by kernel_rfl) (by kernel_rfl) ?_
 refine cI (fun h=>?_) (fun h=>?_)
 ·have h:fD [decide (a=c),decide (b=d)]=true:=h
  exact .drop 0 2 (.done ⟨bY (by simpa [fD]using h.symm),rfl⟩)
 ·have h:fD [decide (a=c),decide (b=d)]=false:=h
  exact .drop 0 2 (.done ⟨bY (by simpa [fD]using h.symm),rfl⟩)
section
variable {F:Nat→Prop} {w:World} {σ:Hp}
theorem aak(h:bf F w σ)(os:Array Obj):bB F w F (Go.Sort.grow w os)∧bf F (Go.Sort.grow w os) σ:=by
 have eC:(Go.Sort.grow w os).heap.size=w.heap.size+os.size:=by simp[Go.Sort.grow]
 have aq:∀b,b<w.heap.size→(Go.Sort.grow w os).heap[b]?=w.heap[b]?:=fun b hb=>by
  show (w.heap++os)[b]?=_
  rw[Km hb]
 have an:bB F w F (Go.Sort.grow w os):=⟨rfl,rfl,rfl,by omega,fun _ h=>h,fun b hb=>aq b (h.low b hb),fun b c T fz hc=>⟨c,fz,by
  rw[aq b (z6.1 hc).1];exact hc,rfl⟩,aR _⟩
 exact⟨an,h.nodup,fun p hp=>(h.holds p hp).mono an (aq _ (h.holds p hp).lt) (h.holds p hp).1,fun b hb=>by have:=h.low b hb;omega⟩
theorem Holds.SP{F:Nat→Prop}{w:World}{b:Nat}{cs:List AV}(h:Holds F w b cs)(hn:∀x∈cs,x.leaf=true):¬F b∧DP F w b cs:=by
 obtain⟨hF,h | ⟨x,o,e,_,hx⟩ | ⟨L,t,e,_⟩⟩:=h
 ·exact⟨hF,h⟩
 ·subst e;have:=hn _ (bU ..);rw[Gz hx]at this;cases this
 ·subst e;cases hn _ (bU ..)
theorem abE{b n:Nat}{cs cs':List AV}{d:Array Value}(h:bf F w ((b,cs)::σ))(Fb:∀x∈cs,x.leaf=true)(hl:cs'.length=cs.length)(hd:d.size=cs'.length)(hv:∀(i:Nat) (x:AV),cs'[i]?=some x→x.leaf=true∧aA F w x (d.getD i undef))(os:Array Obj):
  bB F w F (Go.Sort.grow (Go.Sort.putRow id (Go.Sort.ahead w n) b 0 d) os)∧bf F (Go.Sort.grow (Go.Sort.putRow id (Go.Sort.ahead w n) b 0 d) os) ((b,cs')::σ):=by
 obtain⟨hF,c,T,hc,hle,pZ⟩:=(h.holds _ (bU ..)).SP Fb
 have hle:cs.length≤c.size:=hle
 have hc:w.heap[b]?=some (.cells c T (0,0)):=hc
 have tZ:∀k,k<d.size→(Go.Sort.putCells id 0 d c).getD k undef=d.getD k undef:=fun k hk=>by
  have zL:k<c.size:=by omega
  unfold Go.Sort.putCells
  rw[gW,Array.getElem?_mapIdx,qe zL]
  simp only[JT,FN]
  rw[ah ⟨bE _,by omega⟩,Nat.sub_zero,gW,qe hk]
  simp[hk]
 have key:=Aq (F:=F) (w:=w) (w':=Go.Sort.putRow id (Go.Sort.ahead w n) b 0 d) h (j:=0) (b:=b) (cs:=cs) (cs':=cs') rfl hc (c':=Go.Sort.putCells id 0 d c) (by simp[Go.Sort.putCells]) (by simp[Go.Sort.putCells];omega)
  (fun i x hx=>by
   have h2:i<cs'.length:=(ck.1 hx).1
   rw[tZ i (by omega)]
   exact hv i x hx)
  (fun k hk=>by
   show (w.heap.modify b _)[k]?=_
   rw[J9,ag (fun e=>hk e.symm)])
  (by
   show (w.heap.modify b _)[b]?=_
   rw[J9,ah rfl,hc];rfl)
  rfl rfl rfl (by simp[Go.Sort.ahead])
 obtain⟨k1,k2⟩:=key
 obtain⟨g1,g2⟩:=aak k2 os
 exact⟨k1.trans g1,g2⟩
theorem afX{b:Nat}{cs:List AV}{d:Array Value}(h:bf F w ((b,cs)::σ))(Fb:∀x∈cs,x.leaf=true)(hd:d.size=cs.length)(hv:∀(i:Nat) (x:AV),cs[i]?=some x→∀v,aA F w x v→v=d.getD i undef):Go.Sort.Holds id w b 0 d∧b<w.heap.size:=by
 obtain⟨hF,c,T,hc,hle,pZ⟩:=(h.holds _ (bU ..)).SP Fb
 have hc:w.heap[b]?=some (.cells c T (0,0)):=hc
 have hle:cs.length≤c.size:=hle
 refine⟨fun j hj=>?_,(z6.1 hc).1⟩
 have Ff:j<cs.length:=by omega
 have hr:=hv j _ (bj Ff) _ (pZ j _ (bj Ff)).2
 rw[dM]
 constructor
 ·rw[Hv hc,qe (by omega)]
  rw[gW,qe (by omega),gW,qe hj]at hr
  simp only[FN]at hr
  rw[hr]
  simp[hj]
 ·unfold World.frozen?
  simp[hc]
end
def mR(l:List (Int×Int×Unit)):List AV:=l.flatMap fun x=>[.int .i64 x.1,.int .i64 x.2.1]
def nH(x:Int×Int×Unit):List Value:=[.int .i64 x.1,.int .i64 x.2.1]
theorem yC:∀l:List (Int×Int×Unit),(mR l).length=l.length*2
 | []=>rfl
 |x::l=>by
  show (mR l).length+2=(l.length+1)*2
  rw[yC l];omega
theorem U9(L:List (Int×Int×Unit)):∀x∈mR L,x.leaf=true:=fun x hx=>by
 obtain⟨p,_,h⟩:=List.mem_flatMap.1 hx
 rcases dA.1 h with rfl | h
 ·rfl
 ·rw[bh.1 h];rfl
theorem Ub:∀(l:List (Int×Int×Unit)) (i:Nat),(mR l)[i]?=(l[i / 2]?).map fun x=>if i % 2=0 then .int .i64 x.1 else .int .i64 x.2.1
 | [],i=>by simp[mR]
 |x::l,0=>rfl
 |x::l,1=>rfl
 |x::l,i+2=>by
  have h:=Ub l i
  show (mR l)[i]?=_
  rw[h,show (i+2) / 2=i / 2+1 by omega,show (i+2) % 2=i % 2 by omega]
  rfl
theorem Ua(l:List (Int×Int×Unit))(i:Nat)(x:AV)(h:(mR l)[i]?=some x):∃z,x=.int .i64 z∧(Go.Sort.flatK nH 2 l.toArray).getD i undef=.int .i64 z:=by
 rw[Ub]at h
 obtain⟨d,hd,hx⟩:=wL.1 h
 obtain⟨hi,nS⟩:=ck.1 hd
 have ab:i<l.toArray.size*2:=by simp only[qc];omega
 have hg:=Go.Sort.get_flatK nH 2 l.toArray i ab
 have he:(Go.Sort.flatK nH 2 l.toArray).getD i undef=(Go.Sort.flatK nH 2 l.toArray)[i]!:=by
  have hs:i<(Go.Sort.flatK nH 2 l.toArray).size:=by rw[Go.Sort.size_flatK];exact ab
  rw[gW,qe hs]
  exact (getElem!_pos _ i hs).symm
 have hl:l.toArray[i / 2]! = d:=by simp[hi,nS]
 rw[he,hg,hl]
 by_cases h0:i % 2=0
 ·rw[ah h0]at hx
  rw[h0]
  exact⟨d.1,hx.symm,rfl⟩
 ·rw[ag h0]at hx
  have h1:i % 2=1:=by omega
  rw[h1]
  exact⟨d.2.1,hx.symm,rfl⟩
variable {α:Type} {f:α→List AV} {n:Nat}
theorem CF(hf:∀x,(f x).length=n)(l:List α):(l.flatMap f).length=l.length*n:=yx hf l
theorem abx(hf:∀x,(f x).length=n){l:List α}{j:Nat}(h:j<l.length):((l.flatMap f).drop (j*n)).take n=f l[j]:=by
 induction l generalizing j with
 |nil=>simp at h
 |cons x l ih=>
  cases j with
  |zero=>simp[hf]
  |succ j=>
   rw[yh,List.drop_append,hf,qa,Pz,FU (by rw[hf];omega),ye]
   simpa using ih (by simpa using h)
theorem LA{i:TI}(hi:i.wide=true)(hs:i.size=n)(hf:∀x,(f x).length=n){l:List α}{k:Nat}(h:k<l.length){z:Int}(hz:z=k):eg i (l.flatMap f) (0+z.toNat*n)=some (.agg (f l[k])):=by
 subst hz
 have hl:=CF hf l
 have hm:(k+1)*n≤l.length*n:=kg n h
 rw[p9,Nat.one_mul]at hm
 have hb:Nat.ble (0+k*n+n) (l.flatMap f).length=true:=Kn (by rw[hl];omega)
 unfold eg
 rw[hi,hs]
 show (match Nat.ble (0+k*n+n) (l.flatMap f).length with | true=>some (AV.agg (((l.flatMap f).drop (0+k*n)).take n)) | false=>none)=_
 rw[hb]
 show some (AV.agg (((l.flatMap f).drop (0+k*n)).take n))=_
 rw[dM,abx hf h]
theorem KI:∀(vs A B C:List AV),B.length=vs.length→fL (A++(B++C)) A.length vs=A++(vs++C)
 | [],A,B,C,h=>by
  obtain rfl:=iR.1 h
  rfl
 |v::vs,A,b::B,C,h=>by
  show fL ((A++(b::(B++C))).set A.length v) (A.length+1) vs=_
  have e:(A++(b::(B++C))).set A.length v=(A++[v])++(B++C):=by
   rw[List.set_append_right _ _ (Nat.le_refl _),Nat.sub_self];simp
  rw[e,show A.length+1=(A++[v]).length by simp,KI vs (A++[v]) B C (by simpa using h)]
  simp
theorem adG(hf:∀x,(f x).length=n){l:List α}{k:Nat}(h:k<l.length)(d:α):fL (l.flatMap f) (k*n) (f d)=(l.set k d).flatMap f:=by
 have e:l=l.take k++([l[k]]++l.drop (k+1)):=by simp
 have e2:l.set k d=l.take k++([d]++l.drop (k+1)):=by
  rw[List.set_eq_take_append_cons_drop,ah h];rfl
 have hk:((l.take k).flatMap f).length=k*n:=by rw[CF hf,qb,J5 (Nat.le_of_lt h)]
 rw[e2]
 conv=>lhs;rw[e]
 rw[yj,yj,yj,yj,List.flatMap_singleton,List.flatMap_singleton,← hk]
 exact KI _ _ _ _ (by rw[hf,hf])
theorem Rp{i:TI}(hs:i.size=n)(hf:∀x,(f x).length=n){l:List α}{k:Nat}(h:k<l.length)(d:α){z:Int}(hz:z=k):kP i (l.flatMap f) (0+z.toNat*n) (.agg (f d))=some ((l.set k d).flatMap f):=by
 subst hz
 have hl:=CF hf l
 have hm:(k+1)*n≤l.length*n:=kg n h
 rw[p9,Nat.one_mul]at hm
 have hb:Nat.ble (0+k*n+n) (l.flatMap f).length=true:=Kn (by rw[hl];omega)
 have hq:Nat.beq (f d).length n=true:=by rw[hf];exact yb n
 unfold kP
 rw[hs]
 show (match Nat.beq (f d).length n,Nat.ble (0+k*n+n) (l.flatMap f).length with | true,true=>some (fL (l.flatMap f) (0+k*n) (f d)) | _,_=>none)=_
 rw[hb,hq]
 show some (fL (l.flatMap f) (0+k*n) (f d))=_
 rw[dM,adG hf h]
theorem Qc:∀(vs cs:List AV) (off k:Nat),k≤off→(fL cs off vs).take k=cs.take k
 | [],_,_,_,_=>rfl
 |v::vs,cs,off,k,h=>by
  show (fL (cs.set off v) (off+1) vs).take k=_
  rw[Qc vs _ _ _ (by omega),List.take_set_of_le h]
theorem abw(hf:∀x,(f x).length=n)(l:List α){k:Nat}(h:k≤l.length):(l.flatMap f).take (k*n)=(l.take k).flatMap f:=by
 conv=>lhs;rw[← zZ k l]
 rw[yj]
 exact List.take_left' (by rw[CF hf,qb,J5 h])
abbrev rf(x:Int×Int×Unit):List AV:=[.int .i64 x.1,.int .i64 x.2.1]
theorem AI(x:Int×Int×Unit):(rf x).length=2:=rfl
def pE(L:List (Int×Int×Unit))(j:Nat):Bool:=decide (j=0)||!decide (L.getD j (0,0,())=L.getD (j-1) (0,0,()))
def pG(L:List (Int×Int×Unit))(j:Nat):List (Int×Int×Unit):=((List.range j).filter (pE L)).map fun i=>L.getD i (0,0,())
def rJ(L:List (Int×Int×Unit)):List (Int×Int×Unit):=pG L L.length
theorem CL(L:List (Int×Int×Unit))(j:Nat):pG L (j+1)=pG L j++(if pE L j=true then [L.getD j (0,0,())] else []):=by
 unfold pG
 rw[wJ,zW,dr]
 congr 1
 by_cases h:pE L j=true
 ·rw[ah h,gt4 h];rfl
 ·rw[ag h,gp9 h];rfl
theorem Xd(x y:Int×Int×Unit)(σ:Hp):ACalls Tryz.prog 186 [.agg (rf x),.agg (rf y)] σ (aB (.bool (decide (x=y))) σ):=by
 have h:=aiE x.1 x.2.1 y.1 y.2.1 σ
 have e:(decide (x.1=y.1)&&decide (x.2.1=y.2.1))=decide (x=y):=by
  obtain⟨a,b,_⟩:=x
  obtain⟨c,d,_⟩:=y
  simp only[Prod.mk.injEq,and_true,Bool.decide_and]
 rw[e]at h
 exact h
theorem mK{L:List (Int×Int×Unit)}{j:Nat}(h:j<L.length):L.getD j (0,0,())=L[j]:=by rw[aW,bj h];rfl
theorem xv{i:TI}(hi:i.wide=true)(hs:i.size=2){l:List (Int×Int×Unit)}{p q:Nat}(h:q<l.length){z:Int}(hz:(p:Int)+z=q)(h0:0≤z):eg i (l.flatMap rf) (0+p*2+z.toNat*2)=some (.agg (rf l[q])):=by
 rw[← LA (f:=rf) (n:=2) hi hs AI h rfl]
 congr 1
 omega
theorem Sa(b:Nat)(L:List (Int×Int×Unit))(σ:Hp)(hl:L.length≤1000000):ACalls Tryz.prog 185 [.af b 0 L.length 2,.fn (.func 186) [] []] ((b,mR L)::σ)
  (fun x σ'=>∃(k:Nat) (cs:List AV),k=(rJ L).length∧cs.take (k*2)=mR (rJ L)∧x=.af b 0 k 2∧σ'=(b,cs)::σ):=by
 refine au Tryz.func185 ?_
 refine ak (p:=(L.length:Int)<2) (fun c1=>?_) (fun c1=>?_)
 ·have hc:rJ L=L:=by
   match L,c1 with
   | [],_=>rfl
   | [x],_=>rfl
   |x::y::r,h=>simp only[gq]at h;omega
  refine .done ⟨L.length,mR L,by rw[hc],?_,rfl,rfl⟩
  rw[hc]
  exact fe (yc (yC L))
 refine cc (S:=Nat) (fun k=>[(0,.af b 0 L.length 2),(1,.fn (.func 186) [] []),(5,.int .i64 ((k+1:Nat):Int))]) (fun _=>(b,mR L)::σ) (fun k=>k+1≤L.length∧pG L (k+1)=L.take (k+1)) (fun k=>L.length-k) 0 ⟨⟨by omega,?_⟩,⟨rfl,rfl,rfl,trivial⟩,rfl⟩ ?_
 ·rw[CL]
  have h0:0<L.length:=by omega
  rw[fw h0,ah (show pE L 0=true from rfl),mK h0];rfl
 rintro k g ⟨aP,lv⟩
 have hk:k+1≤L.length:=aP
 have ha:pG L (k+1)=L.take (k+1):=lv
 clear aP lv
 have hw:IntKind.i64.wrap (((k+1:Nat):Int)-1)=(k:Int):=by rw[IntKind.wrap_i64];omega
 refine ak (p:=((k+1:Nat):Int)<(L.length:Int)) (fun ab=>?_) (fun aq=>?_)
 ·have ab:k+1<L.length:=by omega
  refine .quiet (by kernel_rfl) ?_
  refine aK ?_
  refine eU.mk 0 _ (.agg (rf L[k+1])) rfl (LA rfl rfl AI ab rfl) ?_
  refine aG.mk ⟨rfl,by rw[hw];omega,by rw[hw];omega⟩ ?_
  refine eU.mk 0 _ (.agg (rf L[k])) rfl (LA rfl rfl AI (by omega) hw) ?_
  refine MR [] (Xd L[k+1] L[k] _) (fun c2=>?_) (fun c2=>?_)
  rotate_left
  ·refine bg (k+1) (by show L.length-(k+1)<L.length-k;omega) ⟨ab,?_⟩ ⟨rfl,rfl,a8 (by omega),trivial⟩ (.refl _)
   show pG L (k+1+1)=L.take (k+1+1)
   rw[CL,ha,fw ab,mK ab]
   have sb:pE L (k+1)=true:=by
    unfold pE
    rw[mK ab,Nat.add_sub_cancel,mK (by omega),c2];simp
   rw[ah sb]
  have sb:pE L (k+1)=false:=by
   unfold pE
   rw[mK ab,Nat.add_sub_cancel,mK (by omega),c2];simp
  have ik:pG L ((k+1)+1)=L.take (k+1):=by rw[CL,sb,ha];simp
  refine aG.mk ⟨by omega,by omega,by omega,rfl⟩ ?_
  refine cc (S:=Nat×Nat×List (Int×Int×Unit)) (fun s=>[(0,.af b 0 L.length 2),(1,.fn (.func 186) [] []),(5,.int .i64 s.1),(6,.af b (0+(k+1)*2) (L.length-(k+1)) 2),(7,.int .i64 ((s.2.1+1:Nat):Int))]) (fun s=>(b,s.2.2.flatMap rf)::σ) (fun s=>s.1≤(k+1)+s.2.1∧(k+1)+s.2.1+1≤L.length∧s.2.2.length=L.length∧s.2.2.take s.1=pG L ((k+1)+s.2.1+1)∧s.2.2.drop ((k+1)+s.2.1)=L.drop ((k+1)+s.2.1)) (fun s=>L.length-s.2.1) ((k+1),0,L) ⟨⟨aR _,ab,rfl,ik.symm,rfl⟩,⟨rfl,rfl,rfl,rfl,rfl,trivial⟩,rfl⟩ ?_
  rintro⟨i,j,M⟩ g ⟨eD,pY,ya,p8,JG⟩
  have hi:i≤(k+1)+j:=eD
  have hj:(k+1)+j+1≤L.length:=pY
  have hM:M.length=L.length:=ya
  have hF:M.take i=pG L ((k+1)+j+1):=p8
  have hD:M.drop ((k+1)+j)=L.drop ((k+1)+j):=JG
  clear eD pY ya p8 JG
  have we:IntKind.i64.wrap (((j+1:Nat):Int)-1)=(j:Int):=by rw[IntKind.wrap_i64];omega
  refine ak (p:=((j+1:Nat):Int)<((L.length-(k+1):Nat):Int)) (fun h=>?_) (fun h=>?_)
  ·have h1:(k+1)+j+1<L.length:=by omega
   have O6:(k+1)+j+1<M.length:=by omega
   have hM2:(k+1)+j<M.length:=by omega
   have e1:M[(k+1)+j+1]=L[(k+1)+j+1]:=by
    have:=congrArg (fun x=>x[1]?) hD
    simpa [h1,O6]using this
   have e2:M[(k+1)+j]=L[(k+1)+j]:=by
    have:=congrArg (fun x=>x[0]?) hD
    simpa [hM2,show (k+1)+j<L.length by omega]using this
   have hD1:M.drop ((k+1)+j+1)=L.drop ((k+1)+j+1):=by
    have h3:=congrArg (List.drop 1) hD
    rwa [FF,FF]at h3
   refine .quiet (by kernel_rfl) ?_
   refine aG.mk ⟨rfl,(show (0:Int)≤((j+1:Nat):Int) by omega),h⟩ ?_
   refine eU.mk 0 _ (.agg (rf M[(k+1)+j+1])) rfl (xv (z:=((j+1:Nat):Int)) rfl rfl O6 (by omega) (by omega)) ?_
   refine aG.mk ⟨rfl,by rw[we];omega,by rw[we];omega⟩ ?_
   refine eU.mk 0 _ (.agg (rf M[(k+1)+j])) rfl (xv rfl rfl hM2 (by rw[we];omega) (by rw[we];omega)) ?_
   have Ju:pE L ((k+1)+j+1) = !decide (M[(k+1)+j+1]=M[(k+1)+j]):=by
    unfold pE
    rw[mK h1,Nat.add_sub_cancel,mK (by omega),e1,e2];simp
   refine MR [] (Xd M[(k+1)+j+1] M[(k+1)+j] _) (fun c3=>?_) (fun c3=>?_)
   ·rw[c3]at Ju
    refine bg (i,j+1,M) (by show L.length-(j+1)<L.length-j;omega) ⟨by show i≤(k+1)+(j+1);omega,by show (k+1)+(j+1)+1≤L.length;omega,hM,?_,hD1⟩ ⟨rfl,rfl,rfl,rfl,a8 (k:=j+1) (by omega),trivial⟩ (.refl _)
    show M.take i=pG L ((k+1)+(j+1)+1)
    rw[show (k+1)+(j+1)+1=(k+1)+j+1+1 by omega,CL,Ju,hF];simp
   ·rw[c3]at Ju
    refine aG.mk ⟨rfl,(show (0:Int)≤((j+1:Nat):Int) by omega),h⟩ ?_
    refine eU.mk 0 _ (.agg (rf M[(k+1)+j+1])) rfl (xv (z:=((j+1:Nat):Int)) rfl rfl O6 (by omega) (by omega)) ?_
    refine aK ?_
    have hiM:i<M.length:=by omega
    refine da 0 rfl (Rp rfl AI hiM M[(k+1)+j+1] rfl) ?_
    refine bg (i+1,j+1,M.set i M[(k+1)+j+1]) (by show L.length-(j+1)<L.length-j;omega) ⟨by show i+1≤(k+1)+(j+1);omega,by show (k+1)+(j+1)+1≤L.length;omega,(cM ..).trans hM,?_,?_⟩ ⟨rfl,rfl,a8 (k:=i) (by omega),rfl,a8 (k:=j+1) (by omega),trivial⟩ (.refl _)
    ·show (M.set i M[(k+1)+j+1]).take (i+1)=pG L ((k+1)+(j+1)+1)
     rw[show (k+1)+(j+1)+1=(k+1)+j+1+1 by omega,CL,Ju,fw (by rw[cM];exact hiM),List.take_set_of_le (aR _),List.getElem_set_self,hF,mK h1,e1]
     simp
    ·show (M.set i M[(k+1)+j+1]).drop ((k+1)+(j+1))=L.drop ((k+1)+(j+1))
     rw[List.drop_set_of_lt (by omega)]
     exact hD1
  ·have h1:(k+1)+j+1=L.length:=by omega
   rw[h1]at hF
   refine aG.mk ⟨by omega,by omega,by omega,rfl⟩ ?_
   refine MA.af 0 b _ _ _ rfl rfl (by show 0+(i:Int).toNat*2+((L.length:Int).toNat-(i:Int).toNat)*2≤(M.flatMap rf).length;rw[CF AI];omega) ?_
   refine aG.mk ⟨by omega,by omega,by omega,rfl⟩ ?_
   have sZ:i=(rJ L).length:=by unfold rJ;rw[← hF,qb];omega
   refine .done ⟨i,_,sZ,?_,rfl,rfl⟩
   rw[Qc _ _ _ _ (by omega),abw AI M (by omega),hF];rfl
 ·have aq:k+1=L.length:=by omega
  have hc:rJ L=L:=by unfold rJ;rw[← aq,ha,aq,fu]
  refine .done ⟨L.length,mR L,by rw[hc],?_,rfl,rfl⟩
  rw[hc]
  exact fe (yc (yC L))
end Go.Proofs.YtnikdflhefijbaaGreat
namespace Go.Proofs.YtnikdflhefijbaaGreat
open Go.Shelf
def Y4:Go.Shelf.Ren:=⟨fun | 6=>181 | 15=>233 | 14=>232 | 28=>274 | 29=>275 | 20=>266 | 21=>267 | 22=>268 | 23=>269 | 24=>270 | 25=>271 | 26=>272 | 27=>273 | 46=>295 | 47=>296 | 48=>297 | 49=>298 | 50=>299 | 57=>327 | n=>n,fun | 22=>22 | 24=>227 | 25=>250 | 3=>3 | 39=>253 | 0=>0 | 53=>284 | 55=>56 | 4=>4 | 46=>308 | 45=>307 | 50=>312 | 5=>5 | 9=>9 | 66=>331 | 70=>335 | 76=>353 | 77=>50 | n=>n,fun | n=>n⟩
theorem MM:Go.Proofs.SlLaysF0.n6 Tryz.prog Y4:= {
 mixed:=by kernel_rfl
 f6 := ⟨"slices.SortFunc[[]sough/api.Edge,sough/api.Edge]", by decide, Tryz.func181.trans (congrArg some (by kernel_rfl))⟩
 f14 := ⟨"slices.pdqsortCmpFunc[sough/api.Edge]", by decide, Tryz.func232.trans (congrArg some (by kernel_rfl))⟩
 f15:=Tryz.func233.trans (congrArg some (by kernel_rfl))
 f20 := ⟨"slices.insertionSortCmpFunc[sough/api.Edge]", by decide, Tryz.func266.trans (congrArg some (by kernel_rfl))⟩
 f21 := ⟨"slices.heapSortCmpFunc[sough/api.Edge]", by decide, Tryz.func267.trans (congrArg some (by kernel_rfl))⟩
 f22 := ⟨"slices.breakPatternsCmpFunc[sough/api.Edge]", by decide, Tryz.func268.trans (congrArg some (by kernel_rfl))⟩
 f23 := ⟨"slices.choosePivotCmpFunc[sough/api.Edge]", by decide, Tryz.func269.trans (congrArg some (by kernel_rfl))⟩
 f24 := ⟨"slices.reverseRangeCmpFunc[sough/api.Edge]", by decide, Tryz.func270.trans (congrArg some (by kernel_rfl))⟩
 f25 := ⟨"slices.partialInsertionSortCmpFunc[sough/api.Edge]", by decide, Tryz.func271.trans (congrArg some (by kernel_rfl))⟩
 f26 := ⟨"slices.partitionEqualCmpFunc[sough/api.Edge]", by decide, Tryz.func272.trans (congrArg some (by kernel_rfl))⟩
 f27 := ⟨"slices.partitionCmpFunc[sough/api.Edge]", by decide, Tryz.func273.trans (congrArg some (by kernel_rfl))⟩
 f28:=Tryz.func274.trans (congrArg some (by kernel_rfl))
 f29:=Tryz.func275.trans (congrArg some (by kernel_rfl))
 f46 := ⟨"slices.siftDownCmpFunc[sough/api.Edge]", by decide, Tryz.func295.trans (congrArg some (by kernel_rfl))⟩
 f47:=Tryz.func296.trans (congrArg some (by kernel_rfl))
 f48:=Tryz.func297.trans (congrArg some (by kernel_rfl))
 f49 := ⟨"slices.medianAdjacentCmpFunc[sough/api.Edge]", by decide, Tryz.func298.trans (congrArg some (by kernel_rfl))⟩
 f50 := ⟨"slices.medianCmpFunc[sough/api.Edge]", by decide, Tryz.func299.trans (congrArg some (by kernel_rfl))⟩
 f57 := ⟨"slices.order2CmpFunc[sough/api.Edge]", by decide, Tryz.func327.trans (congrArg some (by kernel_rfl))⟩
 t0:=Tryz.underlying0
 a0:=Tryz.isAgg0
 z0:=Tryz.sizeOf0
 v0:=Tryz.zeroValue0
 t3:=Tryz.underlying3
 a3:=Tryz.isAgg3
 z3:=Tryz.sizeOf3
 v3:=Tryz.zeroValue3
 t4:=Tryz.underlying4
 a4:=Tryz.isAgg4
 z4:=Tryz.sizeOf4
 v4:=Tryz.zeroValue4
 t5:=Tryz.underlying5
 a5:=Tryz.isAgg5
 z5:=Tryz.sizeOf5
 v5:=Tryz.zeroValue5
 t9:=Tryz.underlying9
 a9:=Tryz.isAgg9
 z9:=Tryz.sizeOf9
 v9:=Tryz.zeroValue9
 t22:=Tryz.underlying22
 a22:=Tryz.isAgg22
 z22:=Tryz.sizeOf22
 v22:=Tryz.zeroValue22
 t25:=Tryz.underlying250
 a25:=Tryz.isAgg250
 z25:=Tryz.sizeOf250
 v25:=Tryz.zeroValue250
 t39:=Tryz.underlying253
 a39:=Tryz.isAgg253
 z39:=Tryz.sizeOf253
 v39:=Tryz.zeroValue253
 t45:=Tryz.underlying307
 a45:=Tryz.isAgg307
 z45:=Tryz.sizeOf307
 v45:=Tryz.zeroValue307
 t46:=Tryz.underlying308
 a46:=Tryz.isAgg308
 z46:=Tryz.sizeOf308
 v46:=Tryz.zeroValue308
 t50:=Tryz.underlying312
 a50:=Tryz.isAgg312
 z50:=Tryz.sizeOf312
 v50:=Tryz.zeroValue312
 t53:=Tryz.underlying284
 a53:=Tryz.isAgg284
 z53:=Tryz.sizeOf284
 v53:=Tryz.zeroValue284
 t55:=Tryz.underlying56
 a55:=Tryz.isAgg56
 z55:=Tryz.sizeOf56
 v55:=Tryz.zeroValue56
 t66:=Tryz.underlying331
 a66:=Tryz.isAgg331
 z66:=Tryz.sizeOf331
 v66:=Tryz.zeroValue331
 t70:=Tryz.underlying335
 a70:=Tryz.isAgg335
 z70:=Tryz.sizeOf335
 v70:=Tryz.zeroValue335
 t76:=Tryz.underlying353
 a76:=Tryz.isAgg353
 z76:=Tryz.sizeOf353
 v76:=Tryz.zeroValue353
 t77:=Tryz.underlying50
 a77:=Tryz.isAgg50
 z77:=Tryz.sizeOf50
 v77:=Tryz.zeroValue50 }
set_option maxRecDepth 100000
abbrev ew:Type:=Int×Int×Unit
def vJ(x y:ew):Int:=N0 x.1 x.2.1 y.1 y.2.1
theorem TN{F:Nat→Prop}{w:World}(x:ew):aA F w (.agg [.int .i64 x.1,.int .i64 x.2.1]) (.agg (nH x).toArray):=by
 refine .agg _ _ rfl (fun i a h=>?_) (fun i a h=>?_)
 ·match i,h with
  | 0,h=>cases h;rfl
  | 1,h=>cases h;rfl
 ·match i,h with
  | 0,h=>cases h;exact .int _ _
  | 1,h=>cases h;exact .int _ _
theorem acI(blk off size:Nat)(w:World):CmpLays Tryz.prog 182 #[] nH 2 vJ blk off size w:=fun m os dk _ x y=>by
 have h:=Q5 (fun σ=>ahq x.1 x.2.1 y.1 y.2.1 σ) (w:=sortWorldK nH 2 w blk off m dk os) (vs:= #[.agg (nH x).toArray,.agg (nH y).toArray]) ⟨rfl,fun i a h=>by
  match i,h with
  | 0,h=>cases h;exact TN x
  | 1,h=>cases h;exact TN y⟩
 exact h
theorem xh(x y:ew):ltOf vJ x y=decide (x.1<y.1∨(x.1=y.1∧x.2.1<y.2.1)):=by
 unfold ltOf
 rw[decide_eq_decide]
 unfold vJ N0 BN xN
 split <;> split at * <;> (try split at *) <;> (try split) <;> omega
theorem ahv:Go.Sort.SWO (ltOf vJ) where
 irrefl x:=by rw[xh];simp
 trans x y z h1 h2:=by rw[xh]at *;simp only[decide_eq_true_eq]at *;omega
 ntrans x y z h1 h2:=by rw[xh]at *;simp only[decide_eq_false_iff_not]at *;omega
theorem ahu(x y:ew)(h1:ltOf vJ x y=false)(h2:ltOf vJ y x=false):x=y:=by
 rw[xh]at *
 simp only[decide_eq_false_iff_not]at *
 obtain⟨a,b,_⟩:=x
 obtain⟨c,d,_⟩:=y
 have e1:a=c:=by simp only at h1 h2;omega
 have e2:b=d:=by simp only at h1 h2;omega
 rw[e1,e2]
def qt(l:List ew):List ew:=l.mergeSort fun x y=> !(ltOf vJ) y x
theorem Gb(l:List ew):(qt l).length=l.length:=Pp ..
theorem P9:Enters Tryz.prog 181:=enters_of Tryz.func181 (by kernel_rfl)
theorem Yn:Enters Tryz.prog 182:=enters_of Tryz.func182 (by kernel_rfl)
theorem Sj{vs:Array Value}(h:2=vs.size):∃v u,vs = #[v,u]:=by
 refine⟨vs.getD 0 undef,vs.getD 1 undef,Array.ext ?_ fun i h2 h3=>?_⟩
 ·simp[← h]
 ·have:i=0∨i=1:=by omega
  rcases this with rfl | rfl <;> simp[Array.getD,h2]
theorem fnv{F:Nat→Prop}{w:World}{f:Fn}{v:Value}(h:aA F w (.fn f [] []) v):v=.func f #[] #[]:=by
 cases h with
 |fn _ _ _ v1 v2 fk gF _ _=>
  rw[Kh fk.symm,Kh gF.symm]
theorem adW(x:ew):∀v∈nH x,v.oneCell'=true:=by
 intro v hv
 simp only[nH,dA,wG,or_false]at hv
 rcases hv with rfl | rfl <;> rfl
theorem VC(b:Nat)(L:List ew)(n:Nat)(σ:Hp)(hz:L.length=n)(hl:n≤1000000):ACalls Tryz.prog 181 [.af b 0 n 2,.fn (.func 182) [] []] ((b,mR L)::σ) (aB (.tup []) ((b,mR (qt L))::σ)):=by
 subst hz
 refine⟨P9,fun F w vs bN aE =>?_⟩
 obtain⟨v,u,rfl⟩:=Sj bN.1
 have hv:aA F w (.af b 0 L.length 2) v:=bN.2 0 _ rfl
 obtain rfl:=fnv (show aA F w (.fn (.func 182) [] []) u from bN.2 1 _ rfl)
 obtain⟨a,cap,rfl,c,T,fz,m1,m2,m3,m4⟩:=hv.kV
 rcases m4 with ⟨rfl,_⟩ | ⟨_,_,h0,_⟩
 ·obtain⟨h1,h2⟩:=afX (d:=Go.Sort.flatK nH 2 L.toArray) aE (U9 L) (by rw[Go.Sort.size_flatK,yC];rfl) (fun i x hx v hv=>by
   obtain⟨z,rfl,hz⟩:=Ua L i x hx
   rw[hz];exact hv.gB)
  have h:Calls Tryz.prog 181 #[.slice (some ⟨b,0,none⟩) L.length cap,.func (.func 182) #[] #[]] w fun e w'=>e=.returned (.tuple #[])∧∃n os,w'=sortWorldK nH 2 w b 0 n (qt L).toArray os:=AnyQ.slices_SortFunc_total MM 2 Tryz.isAgg227 Tryz.sizeOf227 nH (fun _=>rfl) adW vJ ahv 182 #[] b 0 cap L.toArray w Yn (acI b 0 L.length w) h1 h2 (by show L.length<_;omega) ahu
  refine h.mono ?_
  rintro e w' ⟨rfl,n,os,rfl⟩
  obtain⟨k1,k2⟩:=abE (n:=n) (cs':=mR (qt L)) (d:=Go.Sort.flatK nH 2 (qt L).toArray) aE (U9 L) (by rw[yC,yC,Gb]) (by rw[Go.Sort.size_flatK,yC];rfl) (fun i x hx=>by
   obtain⟨z,rfl,hz⟩:=Ua (qt L) i x hx
   rw[hz];exact⟨rfl,.int _ _⟩) os
  exact⟨.tup [],.tuple #[],_,F,rfl,k1,k2,.tup [] #[] rfl fun i x h=>by simp at h,rfl,rfl⟩
 ·have hz:L=[]:=iR.1 h0
  subst hz
  have h:Calls Tryz.prog 181 #[.slice (some a) 0 cap,.func (.func 182) #[] #[]] w fun e w'=>e=.returned (.tuple #[])∧w'=w:=AnyF.slices_SortFunc_none MM (some a) cap _ w
  have he:qt []=[]:=iR.1 (Gb [])
  rw[he]
  refine h.mono ?_
  rintro e w' ⟨rfl,rfl⟩
  exact⟨.tup [],.tuple #[],_,F,rfl,.refl _ _,aE,.tup [] #[] rfl fun i x h=>by simp at h,rfl,rfl⟩
abbrev mm:Sh:=.field (.int .i64) (.field (.int .i64) .nil)
theorem afk(L:List ew)(σ:Hp)(hl:L.length≤1000000)(h0:L≠[]):ACalls Tryz.prog 180 [.ae mm L] σ (fun x σ'=>∃b,x=.af b 0 L.length 2∧σ'=(b,mR L)::σ):=by
 refine au Tryz.func180 ?_
 refine aG.mk (mB.2 h0) ?_
 intro b2
 refine AppendAt.more 0 b2 0 L.length [] (mR L) rfl rfl (cR rfl) (.ae _ _ rfl) (by omega) (by decide) (by decide) (fun b'=>?_)
 refine .done ⟨b',?_,?_⟩
 ·rw[dM];rfl
 ·rfl
theorem ad8(σ:Hp):ACalls Tryz.prog 180 [.ai] σ (aB .ai σ):=by
 refine au Tryz.func180 ?_
 exact .done ⟨rfl,rfl⟩
theorem ad7(σ:Hp):ACalls Tryz.prog 180 [.gH] σ (fun x σ'=>∃b,x=.af b 0 0 2∧σ'=(b,[])::σ):=by
 refine au Tryz.func180 ?_
 intro b2
 refine AppendAt.more 0 b2 0 0 [] [] rfl rfl (cR rfl) .gH (by omega) (by decide) (by decide) (fun b'=>?_)
 exact .done ⟨b',rfl,rfl⟩
theorem aeY(σ:Hp):ACalls Tryz.prog 181 [.ai,.fn (.func 182) [] []] σ (aB (.tup []) σ):=by
 refine⟨P9,fun F w vs bN aE =>?_⟩
 obtain⟨v,u,rfl⟩:=Sj bN.1
 have hv:aA F w .ai v:=bN.2 0 _ rfl
 cases hv
 have h:Calls Tryz.prog 181 #[.slice none 0 0,u] w fun e w'=>e=.returned (.tuple #[])∧w'=w:=AnyF.slices_SortFunc_none MM none 0 u w
 refine h.mono ?_
 rintro e w' ⟨rfl,rfl⟩
 exact⟨.tup [],.tuple #[],_,F,rfl,.refl _ _,aE,.tup [] #[] rfl fun i x h=>by simp at h,rfl,rfl⟩
theorem ZD(σ:Hp):ACalls Tryz.prog 185 [.ai,.fn (.func 186) [] []] σ (aB .ai σ):=by
 refine au Tryz.func185 ?_
 exact .done ⟨rfl,rfl⟩
def ko(L:List ew):List ew:=rJ (qt L)
theorem YE(L:List ew)(σ:Hp)(hl:L.length≤1000000):ACalls Tryz.prog 133 [.ae mm L] σ (aB (.ae mm (ko L)) σ):=by
 have hn:qt []=[]:=iR.1 (Gb [])
 have oU:ko []=[]:=by unfold ko;rw[hn];rfl
 refine CN (fun h=>?_) (fun h=>?_)
 ·subst h
  refine⟨?_,?_⟩
  ·refine au Tryz.func133 ?_
   refine az [] (ad8 σ) ?_
   refine az [] (aeY _) ?_
   refine az [] (ZD _) ?_
   exact .nil (.nil mm) (.done ⟨congrArg (AV.ae mm) oU.symm,rfl⟩)
  ·refine au Tryz.func133 ?_
   refine .mk [] _ (ad7 σ) ?_
   rintro _ _ ⟨b,rfl,rfl⟩
   have hs:=VC b [] 0 σ rfl (by decide)
   rw[hn]at hs
   refine az [] hs ?_
   refine .mk [] _ (Sa b [] σ (by decide)) ?_
   rintro _ _ ⟨k,cs,hk,kK,rfl,rfl⟩
   subst hk
   exact .cX 0 b 0 _ 2 cs mm ([]:List ew) rfl kK ⟨rfl,rfl,by decide⟩ .here (.done ⟨congrArg (AV.ae mm) oU.symm,rfl⟩)
 ·refine au Tryz.func133 ?_
  refine .mk [] _ (afk L σ hl h) ?_
  rintro _ _ ⟨b,rfl,rfl⟩
  refine az [] (VC b L L.length σ rfl hl) ?_
  have cY:(qt L).length=L.length:=Gb L
  have hc:=Sa b (qt L) σ (by rw[cY];exact hl)
  rw[cY]at hc
  refine .mk [] _ hc ?_
  rintro _ _ ⟨k,cs,hk,kK,rfl,rfl⟩
  subst hk
  exact .cX 0 b 0 _ 2 cs mm (ko L) rfl kK ⟨rfl,rfl,by decide⟩ .here (.done ⟨rfl,rfl⟩)
def nJ(x y:ew):Prop:=x.1<y.1∨(x.1=y.1∧x.2.1<y.2.1)
def BO(x y:ew):Prop:=x.1<y.1∨(x.1=y.1∧x.2.1≤y.2.1)
theorem U8{x y:ew}(h1:x.1=y.1)(h2:x.2.1=y.2.1):x=y:=by
 obtain⟨a,b,_⟩:=x
 obtain⟨c,d,_⟩:=y
 simp only at h1 h2
 rw[h1,h2]
theorem Td:∀{l m:List ew},l.Pairwise nJ→m.Pairwise nJ→(∀x,x∈l↔x∈m)→l=m
 | [],[],_,_,_=>rfl
 | [],y::m,_,_,h=>absurd ((h y).2 (bU ..)) wG
 |x::l,[],_,_,h=>absurd ((h x).1 (bU ..)) wG
 |x::l,y::m,hl,hm,h=>by
  have h1:=ta.1 hl
  have h2:=ta.1 hm
  have aO:x=y:=by
   have a:=(h x).1 (bU ..)
   have b:=(h y).2 (bU ..)
   rcases dA.1 a with a | a
   ·exact a
   ·rcases dA.1 b with b | b
    ·exact b.symm
    ·have p:=h1.1 y b
     have q:=h2.1 x a
     unfold nJ at p q
     omega
  subst aO
  refine congrArg (x :: ·) (Td h1.2 h2.2 fun z=>⟨fun hz=>?_,fun hz=>?_⟩)
  ·rcases dA.1 ((h z).1 (cQ _ hz)) with e | e
   ·subst e
    have p:=h1.1 z hz
    unfold nJ at p
    omega
   ·exact e
  ·rcases dA.1 ((h z).2 (cQ _ hz)) with e | e
   ·subst e
    have p:=h2.1 z hz
    unfold nJ at p
    omega
   ·exact e
theorem XJ(l:List ew):(qt l).Pairwise BO:=by
 have:=List.pairwise_mergeSort (le:=fun x y:ew=> !(ltOf vJ) y x) (fun a b c h1 h2=>by
  rw[xh]at *
  simp only[jl,decide_eq_false_iff_not]at *
  omega) (fun a b=>by
  rw[xh,xh,o6]
  simp only[jl,decide_eq_false_iff_not]
  omega) l
 refine this.imp fun {x y} h=>?_
 rw[xh]at h
 simp only[jl,decide_eq_false_iff_not]at h
 unfold BO
 omega
theorem ZO(l:List ew)(x:ew):x∈qt l↔x∈l:=List.mem_mergeSort
theorem Uq{l:List ew}(h:l.Pairwise BO){i j:Nat}(jB:i≤j)(hj:j<l.length):BO (l[i]'(by omega)) l[j]:=by
 by_cases e:i=j
 ·subst e;exact .inr ⟨rfl,jD _⟩
 ·exact FV.1 h i j (by omega) hj (by omega)
theorem aay{l:List ew}(h:l.Pairwise BO):(rJ l).Pairwise nJ:=by
 unfold rJ pG
 rw[zV]
 have hr:((List.range l.length).filter (pE l)).Pairwise fun i j=>i<j∧j<l.length∧pE l j=true:=by
  have h1:(List.range l.length).Pairwise fun i j=>i<j∧j<l.length:=by
   rw[FV]
   intro i j hi hj jB
   simp only[FO]
   exact⟨jB,by simpa using hj⟩
  rw[List.pairwise_filter]
  exact h1.imp fun jB _ hk=>⟨jB.1,jB.2,hk⟩
 refine hr.imp fun {i j} ⟨h1,h2,h3⟩=>?_
 have hk:l[j]≠l[j-1]'(by omega):=by
  unfold pE at h3
  rw[mK h2,mK (show j-1<l.length by omega)]at h3
  simp only[o6,decide_eq_true_eq,jl,decide_eq_false_iff_not]at h3
  rcases h3 with h3 | h3
  ·omega
  ·exact h3
 rw[mK h2,mK (show i<l.length by omega)]
 have q1:=Uq h (i:=i) (j:=j-1) (by omega) (by omega)
 have q2:=Uq h (i:=j-1) (j:=j) (by omega) h2
 have aQ:¬((l[j]).1=(l[j-1]'(by omega)).1∧(l[j]).2.1=(l[j-1]'(by omega)).2.1):=fun e=>hk (U8 e.1 e.2)
 unfold BO at q1 q2
 unfold nJ
 omega
theorem aax{l:List ew}(x:ew):x∈rJ l↔x∈l:=by
 unfold rJ pG
 constructor
 ·intro hx
  obtain⟨j,hj,rfl⟩:=dL.1 hx
  have hj:=gb.1 (lZ.1 hj).1
  rw[mK hj];exact bX hj
 ·intro hx
  obtain⟨j,⟨hj,e⟩,iJ⟩:∃j,(∃h:j<l.length,l[j]=x)∧∀k,k<j→¬∃h:k<l.length,l[k]=x:=by
   obtain⟨j,hj,e⟩:=tc.1 hx
   have hj:∃h:j<l.length,l[j]=x:=⟨hj,e⟩
   clear e
   induction j using Nat.strongRecOn with
   |ind j ih=>
    by_cases hk:∃k,k<j∧∃h:k<l.length,l[k]=x
    ·obtain⟨k,h1,h2⟩:=hk
     exact ih k h1 h2.1 h2
    ·exact⟨j,hj,fun k h1 h2=>hk ⟨k,h1,h2⟩⟩
  refine dL.2 ⟨j,lZ.2 ⟨gb.2 hj,?_⟩,by rw[mK hj];exact e⟩
  unfold pE
  by_cases h0:j=0
  ·rw[aL h0];rfl
  ·rw[bH h0,mY,mK hj,mK (show j-1<l.length by omega)]
   rw[jl,decide_eq_false_iff_not]
   exact fun h=>iJ (j-1) (by omega) ⟨by omega,h.symm.trans e⟩
theorem XY(l:List ew):(ko l).Pairwise nJ:=aay (XJ l)
theorem Qd(l:List ew)(x:ew):x∈ko l↔x∈l:=by unfold ko;rw[aax,ZO]
def pP(x:ew):List ew→List ew
 | []=>[x]
 |y::r=>if x.1<y.1∨(x.1=y.1∧x.2.1≤y.2.1) then (if x=y then y::r else x::y::r) else y::pP x r
theorem LO(x:ew):∀(l:List ew) (z:ew),z∈pP x l↔z=x∨z∈l
 | [],z=>by unfold pP;rw[List.mem_singleton];simp
 |y::r,z=>by
  unfold pP
  split
  ·split
   ·rename_i h;subst h;rw[dA]
    exact⟨fun h=>.inr h,fun h=>h.elim .inl id⟩
   ·rw[dA]
  ·rw[dA,LO x r z,dA]
   exact⟨fun h=>h.elim (fun h=>.inr (.inl h)) fun h=>h.elim .inl fun h=>.inr (.inr h),fun h=>h.elim (fun h=>.inr (.inl h)) fun h=>h.elim .inl fun h=>.inr (.inr h)⟩
theorem Tc(x:ew):∀{l:List ew},l.Pairwise nJ→(pP x l).Pairwise nJ
 | [],_=>List.pairwise_singleton ..
 |y::r,h=>by
  have h1:=ta.1 h
  unfold pP
  split
  ·rename_i hle
   split
   ·exact h
   ·rename_i aQ
    have ab:nJ x y:=by
     have:¬(x.1=y.1∧x.2.1=y.2.1):=fun e=>aQ (U8 e.1 e.2)
     unfold nJ
     omega
    refine ta.2 ⟨fun z hz=>?_,h⟩
    rcases dA.1 hz with e | e
    ·rw[e];exact ab
    ·have:=h1.1 z e
     unfold nJ at this ab ⊢
     omega
  ·rename_i hgt
   refine ta.2 ⟨fun z hz=>?_,Tc x h1.2⟩
   rcases (LO x r z).1 hz with e | e
   ·rw[e];unfold nJ;omega
   ·exact h1.1 z e
theorem acm(l:List ew):l.foldl (fun o x=>pP x o) []=ko l:=by
 have key:∀(l o:List ew),o.Pairwise nJ→(l.foldl (fun o x=>pP x o) o).Pairwise nJ∧∀z,z∈l.foldl (fun o x=>pP x o) o↔z∈o∨z∈l:=by
  intro l
  induction l with
  |nil=>intro o ho;exact⟨ho,fun z=>by simp⟩
  |cons x l ih=>
   intro o ho
   obtain⟨k1,k2⟩:=ih (pP x o) (Tc x ho)
   refine⟨k1,fun z=>?_⟩
   rw[FG,k2,LO,dA]
   exact⟨fun h=>h.elim (fun h=>h.elim (fun h=>.inr (.inl h)) .inl) fun h=>.inr (.inr h),fun h=>h.elim (fun h=>.inl (.inr h)) fun h=>h.elim (fun h=>.inl (.inl h)) .inr⟩
 obtain⟨k1,k2⟩:=key l [] List.Pairwise.nil
 refine Td k1 (XY l) fun z=>?_
 rw[k2,Qd];simp
def Bx(B:List ew)(k:Nat):List ew:=(B.take k).foldl (fun o x=>pP x o) []
theorem aaj{B:List ew}{k:Nat}(h:k<B.length):Bx B (k+1)=pP B[k] (Bx B k):=by
 unfold Bx;rw[fw h,s9];rfl
theorem Tb(x:ew):∀l,(pP x l).length≤l.length+1
 | []=>aR _
 |y::r=>by
  unfold pP
  split
  ·split
   ·simp only[gq];omega
   ·simp only[gq];omega
  ·have:=Tb x r
   simp only[gq];omega
theorem Ta(B:List ew):∀k,k≤B.length→(Bx B k).length≤k
 | 0,_=>aR _
 |k+1,h=>by
  have h1:=Ta B k (by omega)
  rw[aaj (by omega)]
  exact eu (Tb _ _) (by omega)
theorem ac9(B:List ew):Bx B B.length=ko B:=by unfold Bx;rw[fu];exact acm B
theorem Mb{α:Type}(fr σ:List α)(x y:α):(fr++(x::σ)).set fr.length y=fr++(y::σ):=by
 rw[Kk _ _ (aR _),qY];rfl
theorem ade(l:List (Sh.T mm))(σ:Hp)(hl:l.length≤1000000):ACalls Tryz.prog 180 [.ae mm l] σ (fun x σ'=>∃acc,Acc 2 l.length x acc (l.flatMap (Sh.cells mm))∧σ'=acc++σ):=by
 refine CN (fun h=>⟨?_,?_⟩) (fun h=>?_)
 ·subst h
  refine au Tryz.func180 ?_
  exact .done ⟨[],.nil,rfl⟩
 ·subst h
  refine au Tryz.func180 ?_
  intro b
  refine AppendAt.more 0 b 0 0 [] _ rfl rfl (cR rfl) .gH (by decide) (by decide) (by decide) (fun b'=>?_)
  exact .done ⟨[(b',[])],.af b' 0 [] rfl,rfl⟩
 ·refine au Tryz.func180 ?_
  refine aG.mk (mB.2 h) ?_
  intro b
  refine AppendAt.more 0 b 0 l.length [] _ rfl rfl (cR rfl) (.ae mm l rfl) (by omega) (by decide) (by decide) (fun b'=>?_)
  refine .done ⟨[(b',l.flatMap (Sh.cells mm))],?_,rfl⟩
  rw[dM];exact .af b' l.length _ (yx (f:=Sh.cells mm) (es:=2) (fun _=>rfl) l)
theorem adb(l:List (Sh.T mm))(σ:Hp)(hl:l.length≤1000000):ACalls Tryz.prog 180 [.ae mm l] σ (aB (.ae mm l) σ):=by
 refine (ade l σ hl).fin ?_
 rintro v σ' ⟨acc,cH,rfl⟩
 exact tD (s:=mm) [] cH rfl rfl (by decide) (.done ⟨rfl,rfl⟩)
theorem ada(l:List (Sh.T (.int .i64)))(σ:Hp)(hl:l.length≤1000000):ACalls Tryz.prog 220 [.ae (.int .i64) l] σ (fun x σ'=>∃acc,Acc 1 l.length x acc (l.flatMap (Sh.cells (.int .i64)))∧σ'=acc++σ):=by
 refine CN (fun h=>⟨?_,?_⟩) (fun h=>?_)
 ·subst h
  refine au Tryz.func220 ?_
  exact .done ⟨[],.nil,rfl⟩
 ·subst h
  refine au Tryz.func220 ?_
  intro b
  refine AppendAt.more 0 b 0 0 [] _ rfl rfl (cR rfl) .gH (by decide) (by decide) (by decide) (fun b'=>?_)
  exact .done ⟨[(b',[])],.af b' 0 [] rfl,rfl⟩
 ·refine au Tryz.func220 ?_
  refine aG.mk (mB.2 h) ?_
  intro b
  refine AppendAt.more 0 b 0 l.length [] _ rfl rfl (cR rfl) (.ae (.int .i64) l rfl) (by omega) (by decide) (by decide) (fun b'=>?_)
  refine .done ⟨[(b',l.flatMap (Sh.cells (.int .i64)))],?_,rfl⟩
  rw[dM];exact .af b' l.length _ (yx (f:=Sh.cells (.int .i64)) (es:=1) (fun _=>rfl) l)
theorem ad9(l:List (Sh.T (.int .i64)))(σ:Hp)(hl:l.length≤1000000):ACalls Tryz.prog 220 [.ae (.int .i64) l] σ (aB (.ae (.int .i64) l) σ):=by
 refine (ada l σ hl).fin ?_
 rintro v σ' ⟨acc,cH,rfl⟩
 exact tD (s:=(.int .i64)) [] cH rfl rfl (by decide) (.done ⟨rfl,rfl⟩)
theorem adg(l:List (Sh.T jr))(σ:Hp)(hl:l.length≤1000000):ACalls Tryz.prog 222 [.ae jr l] σ (fun x σ'=>∃acc,Acc 8 l.length x acc (l.flatMap (Sh.cells jr))∧σ'=acc++σ):=by
 refine CN (fun h=>⟨?_,?_⟩) (fun h=>?_)
 ·subst h
  refine au Tryz.func222 ?_
  exact .done ⟨[],.nil,rfl⟩
 ·subst h
  refine au Tryz.func222 ?_
  intro b
  refine AppendAt.more 0 b 0 0 [] _ rfl rfl (cR rfl) .gH (by decide) (by decide) (by decide) (fun b'=>?_)
  exact .done ⟨[(b',[])],.af b' 0 [] rfl,rfl⟩
 ·refine au Tryz.func222 ?_
  refine aG.mk (mB.2 h) ?_
  intro b
  refine AppendAt.more 0 b 0 l.length [] _ rfl rfl (cR rfl) (.ae jr l rfl) (by omega) (by decide) (by decide) (fun b'=>?_)
  refine .done ⟨[(b',l.flatMap (Sh.cells jr))],?_,rfl⟩
  rw[dM];exact .af b' l.length _ (yx (f:=Sh.cells jr) (es:=8) (fun _=>rfl) l)
theorem adf(l:List (Sh.T jr))(σ:Hp)(hl:l.length≤1000000):ACalls Tryz.prog 222 [.ae jr l] σ (aB (.ae jr l) σ):=by
 refine (adg l σ hl).fin ?_
 rintro v σ' ⟨acc,cH,rfl⟩
 exact tD (s:=jr) [] cH rfl rfl (by decide) (.done ⟨rfl,rfl⟩)
theorem aeM(l:List Int)(σ:Hp)(hl:l.length≤1000000):ACalls Tryz.prog 221 [.ae (.int .u64) l] σ (fun x σ'=>∃b,x=.af b 0 l.length 1∧σ'=(b,bz l)::σ):=by
 refine au Tryz.func221 ?_
 have hn:(l.length:Int)≤1048576:=by omega
 refine aG.mk ⟨Pf _,jD _,hn,by decide⟩ ?_
 intro aD
 have hr:(cJ [.int .u64 0] ((l.length:Int)).toNat).length=l.length:=by rw[bO,wQ];exact er _
 refine M5.af 0 aD 0 l.length l.length _ (l.flatMap (Sh.cells (.int .u64))) rfl rfl (by show 0+l.length*1≤(cJ [.int .u64 0] ((l.length:Int)).toNat).length;rw[hr];omega) (.ae (.int .u64) l rfl) (aR _) ?_
 have he:fL (cJ [.int .u64 0] ((l.length:Int)).toNat) 0 (l.flatMap (Sh.cells (.int .u64)))=bz l:=by
  rw[← qh]
  have h:=KI (bz l) [] (cJ [.int .u64 0] ((l.length:Int)).toNat) [] (by rw[hr];simp[bz])
  simpa using h
 exact .done ⟨aD,rfl,congrArg (fun cs=>(aD,cs)::σ) he⟩
theorem Mv(l:List Int)(σ:Hp)(hl:l.length≤1000000):ACalls Tryz.prog 221 [.ae (.int .u64) l] σ (aB (.ae (.int .u64) l) σ):=by
 refine (aeM l σ hl).fin ?_
 rintro v σ' ⟨b,rfl,rfl⟩
 exact .cX 0 b 0 l.length 1 _ (.int .u64) l rfl (by rw[List.drop_zero,← qh];exact List.take_of_length_le (by simp[bz])) ⟨rfl,rfl,by decide⟩ .here (.done ⟨rfl,rfl⟩)
def yY:Option l7→List AV
 |none=>[.ai,.ai,.ai]
 |some t=>[.ae (.int .u64) t.1,.ae (.int .u64) t.2.1,.ae jr t.2.2.1]
theorem ZK(t:Option l7):(yY t).length=3:=by cases t <;> rfl
def ub(T:List l7)(k:Nat):List (Option l7):=(T.take k).map some++List.replicate (T.length-k) none
theorem aau(T:List l7):(ub T 0).flatMap yY=cJ [.ai,.ai,.ai] T.length:=by
 show (List.replicate (T.length-0) none).flatMap yY=_
 rw[Nat.sub_zero]
 generalize T.length=n
 induction n with
 |zero=>rfl
 |succ n ih=>rw[Kl,yh,ih];rfl
theorem acs{T:List l7}{k:Nat}(h:k≤T.length):(ub T k).length=T.length:=by unfold ub;simp;omega
theorem acr{T:List l7}{k:Nat}(h:k<T.length):(ub T k).set k (some T[k])=ub T (k+1):=by
 unfold ub
 rw[List.set_append_right _ _ (by simp;omega)]
 have e:T.length-k=(T.length-(k+1))+1:=by omega
 have e2:k-((T.take k).map some).length=0:=by simp;omega
 rw[e2,e,Kl,fw h]
 simp only[dr,o0,List.map_nil,dQ,FK,ye,List.set_cons_zero]
theorem acu(T:List l7):(ub T T.length).flatMap yY=T.flatMap (Sh.cells kn):=by
 unfold ub
 rw[qY,fu,List.replicate_zero,mZ,List.flatMap_map]
 rfl
theorem aaX(s:Sy)(σ:Hp)(hf:Fit s):ACalls Tryz.prog 162 [.agg (aV s)] σ (aB (.agg (aV s)) σ):=by
 refine au Tryz.func162 ?_
 intro aD
 intro du
 refine .sched [2,5,8] (upto [2,5,8] 15 0) (by kernel_rfl) ?_
 refine aa 1 ?_
 refine aH [] (adb s.aT _ (eu hf.xL (by decide))) ?_
 refine aa 1 ?_
 refine aH [] (ad9 s.entry _ (eu hf.Bv (by decide))) ?_
 refine aa 1 ?_
 refine aH [] (Mv s.init _ (eu hf.IC (by decide))) ?_
 refine aj 1 ?_
 refine aj 1 ?_
 refine aj 1 ?_
 refine aa 1 ?_
 have hT:=hf.Iu
 have Fp:(s.T.length:Int)≤1048576:=by omega
 refine aG.mk ⟨Pf _,jD _,Fp,by decide⟩ ?_
 intro bt
 have B4:(bt,cJ [AV.ai,AV.ai,AV.ai] ((s.T.length:Int)).toNat)=(bt,(ub s.T 0).flatMap yY):=by rw[aau,bO]
 refine aa 2 ?_
 refine cc (S:=Nat) (fun k=>[(1,.ptr aD 0),(2,.ptr du 0),(3,.af bt 0 s.T.length 3),(23,.ae kn s.T),(24,.int .i64 s.T.length),(25,.int .i64 k)]) (fun k=>(bt,(ub s.T k).flatMap yY)::(du,[.int .i64 0,.int .i64 0,.int .i64 0,.ai,.ai,.ai,.ai])::(aD,aV s)::σ) (fun k=>k≤s.T.length) (fun k=>s.T.length-k) 0 ⟨bE _,⟨rfl,rfl,rfl,rfl,rfl,rfl,trivial⟩,congrArg (· :: (du,([.int .i64 0,.int .i64 0,.int .i64 0,.ai,.ai,.ai,.ai]:List AV))::(aD,aV s)::σ) B4⟩ ?_
 rintro k g aP
 have hk:k≤s.T.length:=aP
 clear aP
 refine ak (fun ab=>?_) (fun aq=>?_)
 ·have ab:k<s.T.length:=by have ab:(k:Int)<s.T.length:=ab;omega
  have j5:=acr ab
  have lR:=hf.ts _ (bX ab)
  obtain⟨t,ht⟩:∃t:l7,s.T[k]=t:=⟨_,rfl⟩
  rw[ht]at j5 lR
  obtain⟨t1,t2,t3,tu⟩:=t
  obtain⟨_,_,l1,l2,l3⟩:=lR
  have l1:t1.length≤10000:=l1
  have l2:t2.length≤10000:=l2
  have l3:t3.length≤100000:=l3
  refine aG.mk rfl (bM.mk (t1,t2,t3,tu) (by omega) ((get_some ab).trans (congrArg some ht)) ?_)
  intro aD
  refine aj 0 ?_
  refine .sched [4,7,10] (upto [4,7,10] 14 0) (by kernel_rfl) ?_
  refine aa 0 ?_
  refine aH [] (Mv t1 _ (eu l1 (by decide))) ?_
  refine aa 0 ?_
  refine aH [] (Mv t2 _ (eu l2 (by decide))) ?_
  refine aa 0 ?_
  refine aH [] (adf t3 _ (eu l3 (by decide))) ?_
  refine aK ?_
  refine da 1 rfl ((Rp rfl ZK (by rw[acs hk];exact ab) (some (t1,t2,t3,tu)) rfl).trans (congrArg (fun l=>some (List.flatMap yY l)) j5)) ?_
  exact bg (k+1) (by show s.T.length-(k+1)<s.T.length-k;omega) ab ⟨rfl,rfl,rfl,rfl,rfl,a8 (by omega),trivial⟩ (.drop 0 1 (.refl _))
 ·have aq:k=s.T.length:=by have aq:¬(k:Int)<s.T.length:=aq;omega
  subst aq
  rw[acu]
  refine aj 2 ?_
  refine aa 2 ?_
  refine aj 1 ?_
  refine aa 1 ?_
  refine .cX 0 bt 0 s.T.length 3 _ kn s.T rfl ?_ ⟨rfl,rfl,by decide⟩ (AO (cg (.refl _) (cg (.refl _) (cg (.refl _) (cg (.refl _) (cg (.refl _) (cg (.refl _) (cg .here AN))))))) rfl) (.drop 0 2 (.done ⟨rfl,rfl⟩))
  rw[iP]
  exact fe (yc (yx (f:=Sh.cells kn) (es:=3) (fun _=>rfl) s.T))
theorem UH{F:Nat→Prop}{w:World}{σ:Hp}(h:bf F w σ){i b' k:Nat}{cs':List AV}{c c':AV}(hl:c'.leaf=true)(ef:c.leaf=true)(hc:∀v,aA F w c v→aA F w c' v)(hi:σ[i]?=some (b',cs'))(hk:cs'[k]?=some c):bf F w (σ.set i (b',cs'.set k c')):=by
 refine⟨?_,fun p hp=>?_,h.low⟩
 ·have e1:(σ.set i (b',cs'.set k c')).map Prod.fst=σ.map Prod.fst:=by
   rw[nU]
   refine List.ext_getElem (by simp) fun j h1 h2=>?_
   rw[FM]
   split
   ·rename_i hj;subst hj
    obtain⟨q1,q2⟩:=ck.1 hi
    rw[FL,q2]
   ·rfl
  rw[e1];exact h.nodup
 ·rcases q9 hp with hp | rfl
  ·exact h.holds p hp
  ·obtain⟨h1,c0,T,h2,h3,h4⟩:=(h.holds _ (cu hi)).Nd hk ef
   refine⟨h1,.inl ⟨c0,T,h2,by rw[cM];exact h3,fun j x hx=>?_⟩⟩
   rw[e9]at hx
   split at hx
   ·rename_i hj;subst hj
    split at hx
    ·cases hx
     exact⟨hl,hc _ (h4 k _ hk).2⟩
    ·cases hx
   ·exact h4 j x hx
abbrev jO:=AV×Hp×List Int
def y7(r:jO):Prop:=(r.1=.ai∧r.2.1=[]∧r.2.2=[])∨(∃v,r.1=.via v∧Acc 1 r.2.2.length v r.2.1 (ao r.2.2))
def jX(rs:List jO):List AV:=rs.map (·.1)
def lG(rs:List jO):Hp:=rs.flatMap (·.2.1)
def kU(rs:List jO):List (List Int):=rs.map (·.2.2)
theorem Mg:∀(A:List (List Int)) (l:List Int) (B:List AV),(cz A++.ae (.int .i64) l::B)=cz (A++[l])++B
 | [],_,_=>rfl
 |a::A,l,B=>congrArg (AV.ae (.int .i64) a :: ·) (Mg A l B)
theorem adV(A:List (List Int)):(cz A).length=A.length:=cj _
theorem Md{w:World}{bo:Nat}{σ:Hp}:∀(B:List jO) (A:List (List Int)) (F:Nat→Prop),(∀r∈B,y7 r)→bf F w ((bo,cz A++jX B)::(lG B++σ))→∃F',bB F w F' w∧bf F' w ((bo,cz (A++kU B))::σ)
 | [],A,F,_,h=>⟨F,⟨rfl,rfl,rfl,aR _,fun _ h=>h,fun _ _=>rfl,fun _ c _ fz h=>⟨c,fz,h,rfl⟩,aR _⟩,by
  have h:bf F w ((bo,cz A++[])::σ):=h
  rw[mZ]at h
  rw[show A++kU []=A from mZ _]
  exact h⟩
 |(c,acc,l)::B,A,F,hB,h=>by
  have hB':∀r∈B,y7 r:=fun r hr=>hB r (cQ _ hr)
  have h:bf F w ((bo,cz A++c::jX B)::(acc++lG B++σ)):=h
  have hk:(cz A++c::jX B)[(cz A).length]?=some c:=by simp
  have rS:acc=[]→l=[]→c.leaf=true→(∀v,aA F w c v→aA F w (.ae (.int .i64) []) v)→∃F',bB F w F' w∧bf F' w ((bo,cz (A++kU ((c,acc,l)::B)))::σ):=fun h1 h2 ef h3=>by
   subst h1;subst h2
   have this:bf F w ((bo,(cz A++c::jX B).set (cz A).length (.ae (.int .i64) []))::(lG B++σ)):=UH h (c':=.ae (.int .i64) []) rfl ef h3 (i:=0) rfl hk
   rw[Mb]at this
   have this:bf F w ((bo,cz A++.ae (.int .i64) []::jX B)::(lG B++σ)):=this
   have this:bf F w ((bo,cz (A++[[]])++jX B)::(lG B++σ)):=(Mg A [] (jX B))▸this
   obtain⟨F',q1,q2⟩:=Md B (A++[[]]) F hB' this
   rw[dQ]at q2
   exact⟨F',q1,q2⟩
  have e8:∀v,aA F w .ai v→aA F w (.ae (.int .i64) []) v:=fun v hv=>by
   cases hv
   exact .ae (.int .i64) [] _ ⟨none,0,rfl,aR _,by unfold maxLen;omega,fun _=>rfl,fun aQ=>absurd rfl aQ⟩
  rcases hB _ (bU ..) with ⟨h1,h2,h3⟩ | ⟨v,h1,h2⟩
  ·have h1:c=.ai:=h1
   exact rS h2 h3 (by rw[h1];rfl) (by rw[h1];exact e8)
  ·have h1:c=.via v:=h1
   subst h1
   have h2:Acc 1 l.length v acc (ao l):=h2
   generalize hn:l.length=n at h2
   generalize hc:ao l=cs at h2
   cases h2 with
   |nil=>
    exact rS rfl (iR.1 hn) rfl (by
     intro v hv
     cases hv with
     |via _ _ _ hv=>exact e8 _ hv)
   |af b k cs hl=>
    subst hn
    subst hc
    have h5:bf F w ((bo,(cz A++.via (.af b 0 l.length 1)::jX B).set (cz A).length (.af b 0 l.length 1))::(b,ao l)::(lG B++σ)):=UH h (c':=.af b 0 l.length 1) rfl rfl (by
     intro v hv
     cases hv with
     |via _ _ _ hv=>exact hv) (i:=0) rfl hk
    rw[Mb]at h5
    have h5:bf F w ((bo,cz A++.af b 0 l.length 1::jX B)::(b,ao l)::(lG B++σ)):=h5
    obtain⟨an,aE,hh⟩:=vd h5 (j:=1) (b:=b) (off:=0) (len:=l.length) (es:=1) (cs:=ao l) (e:=.int .i64) (l:=l) rfl (by rw[iP,← xa];exact fe (by rw[Mq];omega)) ⟨rfl,rfl,by decide⟩
    have h6:bf _ w ((bo,(cz A++.af b 0 l.length 1::jX B).set (cz A).length (.ae (.int .i64) l))::(lG B++σ)):=Dc aE hh (i:=0) (k:=(cz A).length) (b':=bo) rfl (by simp)
    rw[Mb]at h6
    have h6:bf _ w ((bo,cz A++.ae (.int .i64) l::jX B)::(lG B++σ)):=h6
    rw[Mg]at h6
    obtain⟨F',q1,q2⟩:=Md B (A++[l]) _ hB' h6
    rw[dQ]at q2
    exact⟨F',an.trans q1,q2⟩
theorem YA{f:FuncId}{xs:List AV}{σ0 σ:Hp}{Q:List (List Int)→Prop}(h:ACalls Tryz.prog f xs σ0 (fun r σ'=>∃bo rs,r=.af bo 0 (rs:List jO).length 1∧σ'=(bo,jX rs)::(lG rs++σ)∧(∀r∈rs,y7 r)∧Q (kU rs))):ACalls Tryz.prog f xs σ0 (fun r σ'=>∃ls:List (List Int),r=.ae (.slice (.int .i64)) ls∧σ'=σ∧Q ls):=
 ⟨h.1,fun F w vs bN aE=>(h.2 F w vs bN aE).mono fun _ w' ⟨r,v,σ',F',h1,h2,h3,h4,h5⟩=>by
  obtain⟨bo,rs,rfl,rfl,q1,q2⟩:=h5
  obtain⟨F2,k1,k2⟩:=Md rs [] F' q1 h3
  have hl:(kU rs).length=rs.length:=cj _
  have k2:bf F2 w' ((bo,cz (kU rs))::σ):=k2
  obtain⟨m1,m2,m3⟩:=vd k2 (j:=0) (b:=bo) (off:=0) (len:=rs.length) (es:=1) (cs:=cz (kU rs)) (e:=.slice (.int .i64)) (l:=kU rs) rfl (by rw[iP,← w6];exact fe (by rw[adV,hl];omega)) ⟨hl,rfl,by decide⟩
  exact⟨.ae (.slice (.int .i64)) (kU rs),v,σ,_,h1,(h2.trans k1).trans m1,m2,m3 v (h4.mono k1),kU rs,rfl,rfl,q2⟩⟩
theorem ZW(rs:List jO):(jX rs).length=rs.length:=cj _
theorem abv(A:List jO)(r:jO)(B:List jO){z:Int}(hz:z=A.length):(jX (A++r::B))[0+z.toNat*1]?=some r.1:=by
 subst hz
 rw[bO,er,dM]
 unfold jX
 rw[fm]
 simp
theorem ZV(A:List jO)(r r2:jO)(B:List jO){z:Int}(hz:z=A.length):(jX (A++r::B)).set (0+z.toNat*1) r2.1=jX (A++r2::B):=by
 subst hz
 rw[bO,er,dM]
 unfold jX
 simp
theorem abA(n:Nat):cJ [.ai] n=jX (List.replicate n (.ai,[],[])):=by
 induction n with
 |zero=>rfl
 |succ n ih=>show AV.ai::cJ [.ai] n=_;rw[ih];rfl
theorem ZX(n:Nat):lG (List.replicate n (.ai,[],[]))=[]:=by
 induction n with
 |zero=>rfl
 |succ n ih=>exact ih
theorem La(A:List jO)(r:jO)(B:List jO)(σ:Hp):lG (A++r::B)++σ=lG A++(r.2.1++(lG B++σ)):=by
 unfold lG
 simp
def vc(s:Sy):Int:=if cb s=0 then IntKind.i64.wrap (s.n*dR s.what s.w) else 0
def ve(s:Sy):Int:=if cb s=0 then IntKind.i64.wrap (s.n+IntKind.i64.wrap (((ko s.aT).length:Int)*dR s.what s.w)) else 0
theorem aej{s:Sy}(h:cb s=0):IntKind.i64.wrap (s.n*dR s.what s.w)=vc s:=(ah h).symm
theorem aei{s:Sy}(h:¬cb s=0):0=vc s:=(ag h).symm
theorem aex{s:Sy}(h:cb s=0):IntKind.i64.wrap (s.n+IntKind.i64.wrap (((ko s.aT).length:Int)*dR s.what s.w))=ve s:=(ah h).symm
theorem aew{s:Sy}(h:¬cb s=0):0=ve s:=(ag h).symm
theorem Zx(s:Sy)(σ:Hp)(hf:Fit s):ACalls Tryz.prog 139 [.agg (aV s)] σ (aB (.int .i64 (vc s)) σ):=by
 refine au Tryz.func139 ?_
 intro aD
 refine aa 0 ?_
 refine az [] (yI s _ hf) ?_
 refine cI (fun c2=>?_) (fun c2=>?_)
 ·have c2:¬(cb s=0):=by simpa using c2
  exact .drop 0 1 (.done ⟨aJ (aei (by assumption)),rfl⟩)
 ·have c2:cb s=0:=by simpa using c2
  refine .quiet (by kernel_rfl) ?_
  refine aa 0 ?_
  refine aa 0 ?_
  refine aa 0 ?_
  refine aH [] (G6 _ _ _) ?_
  exact .drop 0 1 (.done ⟨aJ (aej (by assumption)),rfl⟩)
theorem Zy(s:Sy)(σ:Hp)(hf:Fit s):ACalls Tryz.prog 138 [.agg (aV s)] σ (aB (.int .i64 (ve s)) σ):=by
 refine au Tryz.func138 ?_
 intro aD
 refine aa 0 ?_
 refine az [] (yI s _ hf) ?_
 refine cI (fun c2=>?_) (fun c2=>?_)
 ·have c2:¬(cb s=0):=by simpa using c2
  exact .drop 0 1 (.done ⟨aJ (aew (by assumption)),rfl⟩)
 ·have c2:cb s=0:=by simpa using c2
  refine .quiet (by kernel_rfl) ?_
  refine aa 0 ?_
  refine aa 0 ?_
  refine aH [] (YE s.aT _ (by have:=hf.xL;omega)) ?_
  refine aa 0 ?_
  refine aa 0 ?_
  refine aH [] (G6 _ _ _) ?_
  exact .drop 0 1 (.done ⟨aJ (aex (by assumption)),rfl⟩)
def cP(s:Sy)(k:Int):Int:=if cb s=0 then (if 1≤k∧k≤64 then 0 else 1) else cb s
theorem ahD{s:Sy}{k:Int}(h:¬cb s=0):cb s=cP s k:=(ag h).symm
theorem ahC{s:Sy}{k:Int}(h:cb s=0)(hk:¬(1≤k∧k≤64)):1=cP s k:=by unfold cP;rw[ah h,ag hk]
theorem ahB{s:Sy}{k:Int}(h:cb s=0)(hk:1≤k∧k≤64):0=cP s k:=by unfold cP;rw[ah h,ah hk]
def qO(e n:Int):Int:=if e=0 then n else 0
def xF(s:Sy)(k:Int):List AV:=[.int .i64 (qO (cP s k) s.what),.int .i64 (qO (cP s k) (eX s.what s.w)),.int .i64 (qO (cP s k) s.n),.int .i64 (qO (cP s k) k)]
theorem SO{s:Sy}{k:Int}(h:¬cb s=0):AV.tup [.agg [.int .i64 0,.int .i64 0,.int .i64 0,.int .i64 0],.int .i64 (cb s)]=.tup [.agg (xF s k),.int .i64 (cP s k)]:=by unfold xF qO;rw[← ahD h];simp only[ag h]
theorem GV{s:Sy}{k:Int}(h:cb s=0)(hk:¬(1≤k∧k≤64)):AV.tup [.agg [.int .i64 0,.int .i64 0,.int .i64 0,.int .i64 0],.int .i64 1]=.tup [.agg (xF s k),.int .i64 (cP s k)]:=by unfold xF qO;rw[← ahC h hk];rfl
theorem Ui{s:Sy}{k:Int}(h:cb s=0)(hk:1≤k∧k≤64):AV.tup [.agg [.int .i64 s.what,.int .i64 (eX s.what s.w),.int .i64 s.n,.int .i64 k],.int .i64 0]=.tup [.agg (xF s k),.int .i64 (cP s k)]:=by unfold xF qO;rw[← ahB h hk];rfl
theorem VH(s:Sy)(k:Int)(σ:Hp)(hf:Fit s):ACalls Tryz.prog 15 [.agg (aV s),.int .i64 k] σ (aB (.tup [.agg (xF s k),.int .i64 (cP s k)]) σ):=by
 refine au Tryz.func15 ?_
 intro aD
 intro du
 refine aa 1 ?_
 refine az [] (ab0 s _ hf) ?_
 refine cI (fun c3=>?_) (fun c3=>?_)
 ·have c3:¬(cb s=0):=by simpa using c3
  refine aj 0 ?_
  refine aa 0 ?_
  exact .drop 0 2 (.done ⟨SO (by assumption),rfl⟩)
 ·have c3:cb s=0:=by simpa using c3
  refine ak (fun c4=>?_) (fun c4=>?_)
  ·have c4:k<1:=c4
   refine aj 0 ?_
   refine aa 0 ?_
   exact .drop 0 2 (.done ⟨GV (by assumption) (by omega),rfl⟩)
  ·have c4:¬(k<1):=c4
   refine ak (fun c5=>?_) (fun c5=>?_)
   ·have c5:64<k:=c5
    refine aj 0 ?_
    refine aa 0 ?_
    exact .drop 0 2 (.done ⟨GV (by assumption) (by omega),rfl⟩)
   ·have c5:¬(64<k):=c5
    refine .sched [6] (upto [6] 13 0) (by kernel_rfl) ?_
    refine aa 1 ?_
    refine aa 1 ?_
    refine aa 1 ?_
    refine aH [] (R8 _ _ _) ?_
    refine aa 1 ?_
    refine aj 0 ?_
    refine aa 0 ?_
    exact .drop 0 2 (.done ⟨Ui (by assumption) (by omega),rfl⟩)
set_option maxHeartbeats 4000000
def rm(n:Int):Nat:=(min (max n 1) 4096).toNat
theorem vq(n:Int):1≤rm n∧rm n≤4096:=by unfold rm;omega
theorem afx(n:Int):(if (4096:Int)<(if n<1 then 1 else n) then (4096:Int) else (if n<1 then 1 else n))=((rm n:Nat):Int):=by
 unfold rm
 by_cases h:n<1
 ·simp only[ah h];omega
 ·simp only[ag h];split <;> omega
theorem Nt(n:Int)(σ:Hp):ACalls Tryz.prog 154 [.int .i64 n] σ (aB (.int .i64 (rm n)) σ):=by
 refine au Tryz.func154 ?_
 exact .done ⟨aJ (afx n),rfl⟩
def eZ(base:Int):Int:=wr (base+1)
def lE(base cap i:Int):Int:=wr (wr (base+2)+wr (i % (rm cap:Int)))
theorem tH(b c:Int)(σ:Hp):ACalls Tryz.prog 111 [.agg [.int .i64 b,.int .i64 c]] σ (aB (.int .i64 (eZ b)) σ):=by
 refine au Tryz.func111 ?_
 intro aD
 refine aa 0 ?_
 exact .drop 0 1 (.done ⟨rfl,rfl⟩)
theorem MW(b c i:Int)(σ:Hp)(h0:0≤i):ACalls Tryz.prog 402 [.agg [.int .i64 b,.int .i64 c],.int .u64 i] σ (aB (.int .i64 (lE b c i)) σ):=by
 have hr:=vq c
 have e1:IntKind.u64.wrap (rm c:Int)=rm c:=by rw[IntKind.wrap_u64];omega
 have e2:i.tmod (IntKind.u64.wrap (rm c:Int))=i % (rm c:Int):=by rw[e1,Cq h0]
 refine au Tryz.func402 ?_
 intro aD
 refine .quiet (by kernel_rfl) ?_
 refine aa 0 ?_
 refine aa 0 ?_
 refine aH [] (Nt _ _) ?_
 refine aG.mk (by rw[e1];omega) ?_
 exact .drop 0 1 (.done ⟨aJ (by rw[e2];rfl),rfl⟩)
structure DQ where
 base:Int
 cap:Int
 n:Int
 ok:Bool
 ended:Bool
 at_:Nat
 b:Int
 t:Int
 x:Int
def l5(q:DQ):List AV:=[.int .i64 q.base,.int .i64 q.cap,.int .u64 q.n,.bool q.ok,.bool q.ended,.int .i64 q.at_,.int .u64 q.b,.int .u64 q.t,.int .u64 q.x]
abbrev wu(n:Int):Int:=IntKind.u64.wrap n
def gx(O:j7)(q:DQ)(a:O.A):DQ×O.A×Bool:=
 if q.ended then (q,a,true)
 else if q.at_=0 then ({ q with at_:=q.at_+1,b:=(O.ld a (eZ q.base)).1 },(O.ld a (eZ q.base)).2,false)
 else if q.at_=1 then
  (if (rm q.cap:Int)≤wr (wu (q.b-(O.ld a q.base).1)) then ({ q with at_:=q.at_+1,t:=(O.ld a q.base).1,ended:=true },(O.ld a q.base).2,true)
  else ({ q with at_:=q.at_+1,t:=(O.ld a q.base).1 },(O.ld a q.base).2,false))
 else if q.at_=2 then ({ q with at_:=q.at_+1 },O.st a (lE q.base q.cap q.b) q.n,false)
 else ({ q with at_:=q.at_+1,ok:=true,ended:=true },O.st a (eZ q.base) (wu (q.b+1)),true)
theorem kS{M:AMem}{σ:Hp}{X:Type}{B:X→List AV}{r:Nat}{res:X×M.O.A×Bool}{x:X}{a:M.O.A}{b:Bool}{m':M.S}{cs:List AV}(h:res=(x,a,b))(hm:M.abs m'=a)(hc:cs=B x):qA M σ B r res (.bool b) ((r,cs)::(M.B m'++σ)):=by
 subst hc
 exact jY h hm
theorem Wt(M:AMem)(r:Nat)(q:DQ)(m:M.S)(d:Int)(σ:Hp)(hf:M.O.free (M.abs m))(dV:q.at_≤1000)(hb:0≤q.b):ACalls Tryz.prog 409 [.ptr r 0,M.v,.int .i64 d] ((r,l5 q)::(M.B m++σ)) (qA M σ l5 r (gx M.O q (M.abs m))):=by
 have hw:IntKind.i64.wrap ((q.at_:Int)+1)=((q.at_+1:Nat):Int):=by rw[IntKind.wrap_i64];omega
 refine au Tryz.func409 ?_
 refine eU.kC 0 _ _ rfl rfl (fun h0=>?_) (fun h0=>?_)
 ·exact .done (jY (x:=q) (by simp[gx,h0]) rfl)
 refine az [] (dF _ _ _) ?_
 refine aa 0 ?_
 refine aj 0 ?_
 refine aa 0 ?_
 refine ak (fun c1=>?_) (fun c1=>?_)
 ·have c1:IntKind.i64.wrap ((↑q.at_:Int)+1)=1:=c1
  refine .sched [6] (upto [6] 15 0) (by kernel_rfl) ?_
  refine aa 0 ?_
  refine aH [] (tH _ _ _) ?_
  refine ff.mk M.hL ?_
  refine M.aLoad [_] hf fun m' hm=>?_
  refine aj 0 ?_
  exact .done (kS (x:= { q with at_:=q.at_+1,b:=(M.O.ld (M.abs m) (eZ q.base)).1 }) (by simp[gx,h0,show q.at_=0 by omega]) hm (by rw[hw];rfl))
 ·have c1:¬(IntKind.i64.wrap ((↑q.at_:Int)+1)=1):=c1
  refine ak (fun c2=>?_) (fun c2=>?_)
  ·have c2:IntKind.i64.wrap ((↑q.at_:Int)+1)=2:=c2
   refine .sched [] (upto [] 15 0) (by kernel_rfl) ?_
   refine aa 0 ?_
   refine ff.mk M.hL ?_
   refine M.aLoad [_] hf fun m' hm=>?_
   refine aj 0 ?_
   refine .quiet (by kernel_rfl) ?_
   refine aa 0 ?_
   refine aa 0 ?_
   refine aa 0 ?_
   refine aH [] (Nt _ _) ?_
   refine ak (fun c3=>?_) (fun c3=>?_)
   ·have c3:(↑(rm q.cap):Int)≤IntKind.i64.wrap (IntKind.u64.wrap (q.b-(M.O.ld (M.abs m) q.base).fst)):=c3
    refine .fwd 1 ?_
    refine aj 0 ?_
    exact .done (kS (x:= { q with at_:=q.at_+1,t:=(M.O.ld (M.abs m) q.base).1,ended:=true }) (by simp[gx,h0,show q.at_=1 by omega,c3]) hm (by rw[hw];rfl))
   ·have c3:¬((↑(rm q.cap):Int)≤IntKind.i64.wrap (IntKind.u64.wrap (q.b-(M.O.ld (M.abs m) q.base).fst))):=c3
    exact .done (kS (x:= { q with at_:=q.at_+1,t:=(M.O.ld (M.abs m) q.base).1 }) (by unfold gx wr wu;(repeat' split) <;> first | rfl | omega | simp_all) hm (by rw[hw];rfl))
  ·have c2:¬(IntKind.i64.wrap ((↑q.at_:Int)+1)=2):=c2
   refine ak (fun c4=>?_) (fun c4=>?_)
   ·have c4:IntKind.i64.wrap ((↑q.at_:Int)+1)=3:=c4
    refine .sched [10] (upto [10] 19 0) (by kernel_rfl) ?_
    refine aa 0 ?_
    refine aa 0 ?_
    refine aH [] (MW _ _ _ _ hb) ?_
    refine aa 0 ?_
    refine ff.mk M.hS ?_
    refine M.aStore [_] hf fun m' hm=>?_
    exact .done (kS (x:= { q with at_:=q.at_+1 }) (by simp[gx,h0,show q.at_=2 by omega]) hm (by rw[hw];rfl))
   ·have c4:¬(IntKind.i64.wrap ((↑q.at_:Int)+1)=3):=c4
    refine .sched [5] (upto [5] 16 0) (by kernel_rfl) ?_
    refine aa 0 ?_
    refine aH [] (tH _ _ _) ?_
    refine aa 0 ?_
    refine ff.mk M.hS ?_
    refine M.aStore [_] hf fun m' hm=>?_
    refine aj 0 ?_
    refine .fwd 1 ?_
    refine aj 0 ?_
    exact .done (kS (x:= { q with at_:=q.at_+1,ok:=true,ended:=true }) (by simp[gx,h0,show q.at_≠0 by omega,show q.at_≠1 by omega,show q.at_≠2 by omega]) hm (by rw[hw];rfl))
def fx(O:j7)(q:DQ)(a:O.A):DQ×O.A×Bool:=
 if q.ended then (q,a,true)
 else if q.at_=0 then ({ q with at_:=q.at_+1,b:=wu ((O.ld a (eZ q.base)).1-1) },(O.ld a (eZ q.base)).2,false)
 else if q.at_=1 then ({ q with at_:=q.at_+1 },O.st a (eZ q.base) q.b,false)
 else if q.at_=2 then ({ q with at_:=q.at_+1,t:=(O.ld a q.base).1 },(O.ld a q.base).2,false)
 else if q.at_=3 then
  (if wr q.b<wr q.t then ({ q with at_:=q.at_+1,ended:=true },O.st a (eZ q.base) (wu (q.b+1)),true)
  else if wr q.t<wr q.b then ({ q with at_:=q.at_+1,x:=(O.ld a (lE q.base q.cap q.b)).1,ok:=true,n:=(O.ld a (lE q.base q.cap q.b)).1,ended:=true },(O.ld a (lE q.base q.cap q.b)).2,true)
  else ({ q with at_:=q.at_+1,x:=(O.ld a (lE q.base q.cap q.b)).1 },(O.ld a (lE q.base q.cap q.b)).2,false))
 else if q.at_=4 then ({ q with at_:=q.at_+1,ok:=(O.cs a q.base q.t (wu (q.t+1))).1 },(O.cs a q.base q.t (wu (q.t+1))).2,false)
 else ({ q with at_:=q.at_+1,n:=if q.ok then q.x else q.n,ended:=true },O.st a (eZ q.base) (wu (q.b+1)),true)
theorem I0(M:AMem)(r:Nat)(q:DQ)(m:M.S)(d:Int)(σ:Hp)(hf:M.O.free (M.abs m))(dV:q.at_≤1000)(hb:0≤q.b):ACalls Tryz.prog 401 [.ptr r 0,M.v,.int .i64 d] ((r,l5 q)::(M.B m++σ)) (qA M σ l5 r (fx M.O q (M.abs m))):=by
 have hw:IntKind.i64.wrap ((q.at_:Int)+1)=((q.at_+1:Nat):Int):=by rw[IntKind.wrap_i64];omega
 refine au Tryz.func401 ?_
 refine eU.kC 0 _ _ rfl rfl (fun h0=>?_) (fun h0=>?_)
 ·exact .done (jY (x:=q) (by simp[fx,h0]) rfl)
 refine az [] (dF _ _ _) ?_
 refine aa 0 ?_
 refine aj 0 ?_
 refine aa 0 ?_
 refine ak (fun c1=>?_) (fun c1=>?_)
 ·have c1:IntKind.i64.wrap ((↑q.at_:Int)+1)=1:=c1
  refine .sched [6] (upto [6] 16 0) (by kernel_rfl) ?_
  refine aa 0 ?_
  refine aH [] (tH _ _ _) ?_
  refine ff.mk M.hL ?_
  refine M.aLoad [_] hf fun m' hm=>?_
  refine aj 0 ?_
  exact .done (kS (x:= { q with at_:=q.at_+1,b:=wu ((M.O.ld (M.abs m) (eZ q.base)).1-1) }) (by unfold fx wr wu;(repeat' split) <;> first | rfl | omega | simp_all) hm (by rw[hw];rfl))
 ·have c1:¬(IntKind.i64.wrap ((↑q.at_:Int)+1)=1):=c1
  refine ak (fun c2=>?_) (fun c2=>?_)
  ·have c2:IntKind.i64.wrap ((↑q.at_:Int)+1)=2:=c2
   refine .sched [5] (upto [5] 15 0) (by kernel_rfl) ?_
   refine aa 0 ?_
   refine aH [] (tH _ _ _) ?_
   refine aa 0 ?_
   refine ff.mk M.hS ?_
   refine M.aStore [_] hf fun m' hm=>?_
   exact .done (kS (x:= { q with at_:=q.at_+1 }) (by unfold fx wr wu;(repeat' split) <;> first | rfl | omega | simp_all) hm (by rw[hw];rfl))
  ·have c2:¬(IntKind.i64.wrap ((↑q.at_:Int)+1)=2):=c2
   refine ak (fun c3=>?_) (fun c3=>?_)
   ·have c3:IntKind.i64.wrap ((↑q.at_:Int)+1)=3:=c3
    refine .sched [] (upto [] 15 0) (by kernel_rfl) ?_
    refine aa 0 ?_
    refine ff.mk M.hL ?_
    refine M.aLoad [_] hf fun m' hm=>?_
    refine aj 0 ?_
    exact .done (kS (x:= { q with at_:=q.at_+1,t:=(M.O.ld (M.abs m) q.base).1 }) (by unfold fx wr wu;(repeat' split) <;> first | rfl | omega | simp_all) hm (by rw[hw];rfl))
   ·have c3:¬(IntKind.i64.wrap ((↑q.at_:Int)+1)=3):=c3
    refine ak (fun c4=>?_) (fun c4=>?_)
    ·have c4:IntKind.i64.wrap ((↑q.at_:Int)+1)=4:=c4
     refine .quiet (by kernel_rfl) ?_
     refine aa 0 ?_
     refine aa 0 ?_
     refine ak (fun c5=>?_) (fun c5=>?_)
     ·have c5:IntKind.i64.wrap q.b<IntKind.i64.wrap q.t:=c5
      refine .fwd 1 ?_
      refine .sched [5] (upto [5] 16 0) (by kernel_rfl) ?_
      refine aa 0 ?_
      refine aH [] (tH _ _ _) ?_
      refine aa 0 ?_
      refine ff.mk M.hS ?_
      refine M.aStore [_] hf fun m' hm=>?_
      refine aj 0 ?_
      exact .done (kS (x:= { q with at_:=q.at_+1,ended:=true }) (by unfold fx wr wu;(repeat' split) <;> first | rfl | omega | simp_all) hm (by rw[hw];rfl))
     ·have c5:¬(IntKind.i64.wrap q.b<IntKind.i64.wrap q.t):=c5
      refine .sched [11] (upto [11] 20 0) (by kernel_rfl) ?_
      refine aa 0 ?_
      refine aa 0 ?_
      refine aH [] (MW _ _ _ _ hb) ?_
      refine ff.mk M.hL ?_
      refine M.aLoad [_] hf fun m' hm=>?_
      refine aj 0 ?_
      refine .quiet (by kernel_rfl) ?_
      refine aa 0 ?_
      refine aa 0 ?_
      refine ak (fun c6=>?_) (fun c6=>?_)
      ·have c6:IntKind.i64.wrap q.t<IntKind.i64.wrap q.b:=c6
       refine aa 0 ?_
       refine aj 0 ?_
       refine aj 0 ?_
       refine .fwd 1 ?_
       refine aj 0 ?_
       exact .done (kS (x:= { q with at_:=q.at_+1,x:=(M.O.ld (M.abs m) (lE q.base q.cap q.b)).1,ok:=true,n:=(M.O.ld (M.abs m) (lE q.base q.cap q.b)).1,ended:=true }) (by unfold fx wr wu;(repeat' split) <;> first | rfl | omega | simp_all) hm (by rw[hw];rfl))
      ·have c6:¬(IntKind.i64.wrap q.t<IntKind.i64.wrap q.b):=c6
       exact .done (kS (x:= { q with at_:=q.at_+1,x:=(M.O.ld (M.abs m) (lE q.base q.cap q.b)).1 }) (by unfold fx wr wu;(repeat' split) <;> first | rfl | omega | simp_all) hm (by rw[hw];rfl))
    ·have c4:¬(IntKind.i64.wrap ((↑q.at_:Int)+1)=4):=c4
     refine ak (fun c7=>?_) (fun c7=>?_)
     ·have c7:IntKind.i64.wrap ((↑q.at_:Int)+1)=5:=c7
      refine .sched [] (upto [] 25 0) (by kernel_rfl) ?_
      refine aa 0 ?_
      refine aa 0 ?_
      refine aa 0 ?_
      refine ff.mk M.hC ?_
      refine M.aCas [_] hf fun m' hm=>?_
      refine aj 0 ?_
      exact .done (kS (x:= { q with at_:=q.at_+1,ok:=(M.O.cs (M.abs m) q.base q.t (wu (q.t+1))).1 }) (by unfold fx wr wu;(repeat' split) <;> first | rfl | omega | simp_all) hm (by rw[hw];rfl))
     ·have c7:¬(IntKind.i64.wrap ((↑q.at_:Int)+1)=5):=c7
      refine eU.kC 0 _ _ rfl rfl (fun c8=>?_) (fun c8=>?_)
      ·refine aa 0 ?_
       refine aj 0 ?_
       refine .fwd 1 ?_
       refine .sched [5] (upto [5] 16 0) (by kernel_rfl) ?_
       refine aa 0 ?_
       refine aH [] (tH _ _ _) ?_
       refine aa 0 ?_
       refine ff.mk M.hS ?_
       refine M.aStore [_] hf fun m' hm=>?_
       refine aj 0 ?_
       exact .done (kS (x:= { q with at_:=q.at_+1,n:=q.x,ended:=true }) (by unfold fx wr wu;(repeat' split) <;> first | rfl | omega | simp_all) hm (by rw[hw];rfl))
      ·refine .fwd 1 ?_
       refine .sched [5] (upto [5] 16 0) (by kernel_rfl) ?_
       refine aa 0 ?_
       refine aH [] (tH _ _ _) ?_
       refine aa 0 ?_
       refine ff.mk M.hS ?_
       refine M.aStore [_] hf fun m' hm=>?_
       refine aj 0 ?_
       exact .done (kS (x:= { q with at_:=q.at_+1,ended:=true }) (by unfold fx wr wu;(repeat' split) <;> first | rfl | omega | simp_all) hm (by rw[hw];rfl))
def gJ(O:j7)(q:DQ)(a:O.A):DQ×O.A×Bool:=
 if q.ended then (q,a,true)
 else if q.at_=0 then ({ q with at_:=q.at_+1,t:=(O.ld a q.base).1 },(O.ld a q.base).2,false)
 else if q.at_=1 then
  (if wr (O.ld a (eZ q.base)).1≤wr q.t then ({ q with at_:=q.at_+1,b:=(O.ld a (eZ q.base)).1,ended:=true },(O.ld a (eZ q.base)).2,true)
  else ({ q with at_:=q.at_+1,b:=(O.ld a (eZ q.base)).1 },(O.ld a (eZ q.base)).2,false))
 else if q.at_=2 then ({ q with at_:=q.at_+1,x:=(O.ld a (lE q.base q.cap q.t)).1 },(O.ld a (lE q.base q.cap q.t)).2,false)
 else ({ q with at_:=q.at_+1,ok:=(O.cs a q.base q.t (wu (q.t+1))).1,n:=if (O.cs a q.base q.t (wu (q.t+1))).1 then q.x else q.n,ended:=true },(O.cs a q.base q.t (wu (q.t+1))).2,true)
theorem HU(M:AMem)(r:Nat)(q:DQ)(m:M.S)(d:Int)(σ:Hp)(hf:M.O.free (M.abs m))(dV:q.at_≤1000)(hb:0≤q.t):ACalls Tryz.prog 403 [.ptr r 0,M.v,.int .i64 d] ((r,l5 q)::(M.B m++σ)) (qA M σ l5 r (gJ M.O q (M.abs m))):=by
 have hw:IntKind.i64.wrap ((q.at_:Int)+1)=((q.at_+1:Nat):Int):=by rw[IntKind.wrap_i64];omega
 refine au Tryz.func403 ?_
 refine eU.kC 0 _ _ rfl rfl (fun h0=>?_) (fun h0=>?_)
 ·exact .done (jY (x:=q) (by simp[gJ,h0]) rfl)
 refine az [] (dF _ _ _) ?_
 refine aa 0 ?_
 refine aj 0 ?_
 refine aa 0 ?_
 refine ak (fun c1=>?_) (fun c1=>?_)
 ·have c1:IntKind.i64.wrap ((↑q.at_:Int)+1)=1:=c1
  refine .sched [] (upto [] 15 0) (by kernel_rfl) ?_
  refine aa 0 ?_
  refine ff.mk M.hL ?_
  refine M.aLoad [_] hf fun m' hm=>?_
  refine aj 0 ?_
  exact .done (kS (x:= { q with at_:=q.at_+1,t:=(M.O.ld (M.abs m) q.base).1 }) (by unfold gJ wr wu;(repeat' split) <;> first | rfl | omega | simp_all) hm (by rw[hw];rfl))
 ·have c1:¬(IntKind.i64.wrap ((↑q.at_:Int)+1)=1):=c1
  refine ak (fun c2=>?_) (fun c2=>?_)
  ·have c2:IntKind.i64.wrap ((↑q.at_:Int)+1)=2:=c2
   refine .sched [6] (upto [6] 15 0) (by kernel_rfl) ?_
   refine aa 0 ?_
   refine aH [] (tH _ _ _) ?_
   refine ff.mk M.hL ?_
   refine M.aLoad [_] hf fun m' hm=>?_
   refine aj 0 ?_
   refine .quiet (by kernel_rfl) ?_
   refine aa 0 ?_
   refine aa 0 ?_
   refine ak (fun c3=>?_) (fun c3=>?_)
   ·have c3:IntKind.i64.wrap (M.O.ld (M.abs m) (eZ q.base)).fst≤IntKind.i64.wrap q.t:=c3
    refine .fwd 1 ?_
    refine aj 0 ?_
    exact .done (kS (x:= { q with at_:=q.at_+1,b:=(M.O.ld (M.abs m) (eZ q.base)).1,ended:=true }) (by unfold gJ wr wu;(repeat' split) <;> first | rfl | omega | simp_all) hm (by rw[hw];rfl))
   ·have c3:¬(IntKind.i64.wrap (M.O.ld (M.abs m) (eZ q.base)).fst≤IntKind.i64.wrap q.t):=c3
    exact .done (kS (x:= { q with at_:=q.at_+1,b:=(M.O.ld (M.abs m) (eZ q.base)).1 }) (by unfold gJ wr wu;(repeat' split) <;> first | rfl | omega | simp_all) hm (by rw[hw];rfl))
  ·have c2:¬(IntKind.i64.wrap ((↑q.at_:Int)+1)=2):=c2
   refine ak (fun c4=>?_) (fun c4=>?_)
   ·have c4:IntKind.i64.wrap ((↑q.at_:Int)+1)=3:=c4
    refine .sched [11] (upto [11] 20 0) (by kernel_rfl) ?_
    refine aa 0 ?_
    refine aa 0 ?_
    refine aH [] (MW _ _ _ _ hb) ?_
    refine ff.mk M.hL ?_
    refine M.aLoad [_] hf fun m' hm=>?_
    refine aj 0 ?_
    exact .done (kS (x:= { q with at_:=q.at_+1,x:=(M.O.ld (M.abs m) (lE q.base q.cap q.t)).1 }) (by unfold gJ wr wu;(repeat' split) <;> first | rfl | omega | simp_all) hm (by rw[hw];rfl))
   ·have c4:¬(IntKind.i64.wrap ((↑q.at_:Int)+1)=3):=c4
    refine .sched [] (upto [] 25 0) (by kernel_rfl) ?_
    refine aa 0 ?_
    refine aa 0 ?_
    refine aa 0 ?_
    refine ff.mk M.hC ?_
    refine M.aCasB [_] hf (fun m' hm hb=>?_) (fun m' hm hb=>?_)
    ·refine aj 0 ?_
     refine aa 0 ?_
     refine aa 0 ?_
     refine aj 0 ?_
     refine .fwd 1 ?_
     refine aj 0 ?_
     exact .done (kS (x:= { q with at_:=q.at_+1,ok:=true,n:=q.x,ended:=true }) (by unfold gJ wr wu;(repeat' split) <;> first | rfl | omega | simp_all) hm (by rw[hw];rfl))
    ·refine aj 0 ?_
     refine aa 0 ?_
     refine .fwd 1 ?_
     refine aj 0 ?_
     exact .done (kS (x:= { q with at_:=q.at_+1,ok:=false,ended:=true }) (by unfold gJ wr wu;(repeat' split) <;> first | rfl | omega | simp_all) hm (by rw[hw];rfl))
theorem af3(p q:Nat)(ws:List Int)(b c:Int)(σ:Hp):ACalls Tryz.prog 161 [.agg [.int .i64 b,.int .i64 c],kB p] (bG p q ws σ) (aB (.tup []) (bG p q (gZ (gZ ws b 1) (eZ b) 1) σ)):=by
 refine au Tryz.func161 ?_
 intro aD
 refine az [] (dF _ _ _) ?_
 refine aa 0 ?_
 refine⟨_,mStore_,?_⟩
 refine az [2,2] (aStore p q _ _ _ _) ?_
 refine .sched [2] (upto [2] 7 0) (by kernel_rfl) ?_
 refine aa 2 ?_
 refine aH [] (tH _ _ _) ?_
 refine ff.mk hStore_ ?_
 refine⟨_,mStore_,?_⟩
 refine az [] (aStore p q _ _ _ _) ?_
 exact .drop 2 1 (.done ⟨rfl,rfl⟩)
end Go.Proofs.YtnikdflhefijbaaGreat
