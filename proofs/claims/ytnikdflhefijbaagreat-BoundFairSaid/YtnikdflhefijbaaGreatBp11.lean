import Derived.Shelf.GgSortFunc.RowK
import Derived.Sort.Grow
import Derived.Test.YtnikdflhefijbaaGreatBp7
import Derived.Shelf.SlSortCmp.NoneTotal
import Derived.Test.YtnikdflhefijbaaGreatBp9
import Derived.Test.YtnikdflhefijbaaGreatBp10
namespace Go.Proofs.YtnikdflhefijbaaGreat
open Go.RowKit
theorem aec{F':Nat→Prop}{w w':World}(h:bh (fun b=>b<w.heap.size) w F' w'):∃q os,w'=Go.Sort.grow (w.drewN q) os:=by
 obtain⟨h1,h2,h3,h4,_,h6,_,h8⟩:=h
 have hh:w'.heap=w.heap++w'.heap.extract w.heap.size w'.heap.size:=by
  apply Array.ext
  ·simp only[Array.size_append,Array.size_extract];omega
  ·intro i hi yl
   by_cases ab:i<w.heap.size
   ·have e:=h6 i ab
    rw[qa hi,qa ab]at e
    rw[Array.getElem_append_left ab]
    exact Option.some.inj e
   ·rw[Array.getElem_append_right (by omega),Array.getElem_extract]
    congr 1;omega
 refine⟨w'.drawn-w.drawn,w'.heap.extract w.heap.size w'.heap.size,?_⟩
 have hd:w.drawn+(w'.drawn-w.drawn)=w'.drawn:=by omega
 unfold Go.Sort.grow World.drewN
 cases w' with
 |mk heap tape drawn os output=>
  simp only at h1 h2 h3 hh hd ⊢
  rw[h1,h2,h3,← hh,hd]
theorem Q3{f:FuncId}{xs:List AV}{k:IntKind}{z:Int}(h:∀σ,ACalls Tryz.prog f xs σ (aE (.int k z) σ)){w:World}{vs:Array Value}(hv:jb (fun b=>b<w.heap.size) w xs vs):Calls Tryz.prog f vs w fun e w'=>e=.returned (.int k z)∧∃q os,w'=Go.Sort.grow (w.drewN q) os:=by
 refine ((h []).2 (fun b=>b<w.heap.size) w vs hv ⟨Pp,fun p hp=>absurd hp wQ,fun b hb=>hb⟩).mono ?_
 rintro e w' ⟨r,v,σ',F',rfl,ao,_,hr,rfl,_⟩
 refine⟨?_,aec ao⟩
 rw[hr.gu]
set_option maxRecDepth 100000
def x7(a b:Int):Int:=if a<b then -1 else if b<a then 1 else 0
theorem VE(a:Int)(σ:Hp):ACalls Tryz.prog 234 [.int .i64 a] σ (aE (.bool false) σ):=by
 refine aA Tryz.func234 ?_
 refine eG (fun h=>absurd h (by simp)) (fun _=>?_)
 exact .done ⟨rfl,rfl⟩
theorem W9(a b:Int)(σ:Hp):ACalls Tryz.prog 184 [.int .i64 a,.int .i64 b] σ (aE (.int .i64 (x7 a b)) σ):=by
 refine aA Tryz.func184 ?_
 refine aB [] (VE a _) ?_
 refine aB [] (VE b _) ?_
 refine aq (p:=a<b) (fun c1=>?_) (fun c1=>?_)
 ·exact .done ⟨aW (ag c1).symm,rfl⟩
 refine aq (p:=b<a) (fun c2=>?_) (fun c2=>?_)
 ·exact .done ⟨aW (by unfold x7;rw[ah c1,ag c2]),rfl⟩
 ·exact .done ⟨aW (by unfold x7;rw[ah c1,ah c2]),rfl⟩
def BL(x y:Int):Int:=if x=0 then y else x
theorem ain(b:Nat)(x y:Int)(σ:Hp):ACalls Tryz.prog 183 [.ae b 0 2 1] ((b,[.int .i64 x,.int .i64 y])::σ) (aE (.int .i64 (BL x y)) ((b,[.int .i64 x,.int .i64 y])::σ)):=by
 refine aA Tryz.func183 ?_
 refine cj (S:=Nat×Int) (fun s=>[(3,.int .i64 s.2),(6,.ae b 0 2 1),(7,.int .i64 2),(8,.int .i64 s.1)]) (fun _=>(b,[.int .i64 x,.int .i64 y])::σ) (fun s=>s.2=0∧s.1≤2∧(0<s.1→x=0)∧(1<s.1→y=0)) (fun s=>2-s.1) (0,0) ⟨⟨rfl,by omega,fun h=>by omega,fun h=>by omega⟩,⟨rfl,rfl,rfl,rfl,trivial⟩,rfl⟩ ?_
 rintro⟨k,z⟩ g ⟨iP,bD,wD,hy0⟩
 have hz:z=0:=iP
 have hk:k≤2:=bD
 have hx:0<k→x=0:=wD
 have hy:1<k→y=0:=hy0
 clear iP bD wD hy0
 match k,hk,hx,hy with
 | 0,_,_,_=>
  refine aK ?_
  refine aa 0 ?_
  refine eG (fun c1=>?_) (fun c1=>?_)
  ·have c1:(!decide (x=z))=true:=c1
   have c1:¬x=z:=by simpa using c1
   exact .done ⟨aW (by unfold BL;rw[ah (by rw[← hz];exact c1)]),rfl⟩
  ·have c1:(!decide (x=z))=false:=c1
   have c1:x=z:=by simpa using c1
   exact aZ (1,z) (by show 2-1<2-0;decide) ⟨hz,(show 1≤2 by decide),fun _=>c1.trans hz,fun h=>absurd h (show ¬1<1 by decide)⟩ ⟨rfl,rfl,rfl,rfl,trivial⟩ (.refl _)
 | 1,_,hx,_=>
  refine aK ?_
  refine aa 0 ?_
  refine eG (fun c1=>?_) (fun c1=>?_)
  ·exact .done ⟨aW (by unfold BL;rw[ag (hx (by decide))]),rfl⟩
  ·have c1:(!decide (y=z))=false:=c1
   have c1:y=z:=by simpa using c1
   exact aZ (2,z) (by show 2-2<2-1;decide) ⟨hz,(show 2≤2 by decide),fun _=>hx (by decide),fun _=>c1.trans hz⟩ ⟨rfl,rfl,rfl,rfl,trivial⟩ (.refl _)
 | 2,_,hx,hy=>
  exact .done ⟨aW (by unfold BL;rw[ag (hx (by decide)),hy (by decide)];exact hz),rfl⟩
def N1(a b c d:Int):Int:=BL (x7 a c) (x7 b d)
theorem ahk(a b c d:Int)(σ:Hp):ACalls Tryz.prog 182 [.agg [.int .i64 a,.int .i64 b],.agg [.int .i64 c,.int .i64 d]] σ (aE (.int .i64 (N1 a b c d)) σ):=by
 refine aA Tryz.func182 ?_
 intro aG
 intro eV
 refine .sched [4,9] (upto [4,9] 13 0) (by kernel_rfl) ?_
 refine aa 1 ?_
 refine aa 0 ?_
 refine aI [] (W9 a c _) ?_
 refine aa 1 ?_
 refine aa 0 ?_
 refine aI [] (W9 b d _) ?_
 intro uW
 refine aB [] (ain uW (x7 a c) (x7 b d) _) ?_
 exact .drop 0 3 (.done ⟨rfl,rfl⟩)
theorem ait(a b c d:Int)(σ:Hp):ACalls Tryz.prog 186 [.agg [.int .i64 a,.int .i64 b],.agg [.int .i64 c,.int .i64 d]] σ (aE (.bool (decide (a=c)&&decide (b=d))) σ):=by
 refine aA Tryz.func186 ?_
 intro aG
 intro eV
 refine aa 1 ?_
 refine aa 0 ?_
 refine .mk (by kernel_rfl) (by kernel_rfl) ?_
 refine eG (fun h=>?_) (fun h=>?_)
 ·have h:fH [decide (a=c),decide (b=d)]=true:=h
  exact .drop 0 2 (.done ⟨eb (by simpa [fH]using h.symm),rfl⟩)
 ·have h:fH [decide (a=c),decide (b=d)]=false:=h
  exact .drop 0 2 (.done ⟨eb (by simpa [fH]using h.symm),rfl⟩)
section
variable {F:Nat→Prop} {w:World} {σ:Hp}
theorem aae(h:aX F w σ)(os:Array Obj):bh F w F (Go.Sort.grow w os)∧aX F (Go.Sort.grow w os) σ:=by
 have eD:(Go.Sort.grow w os).heap.size=w.heap.size+os.size:=by simp[Go.Sort.grow]
 have ay:∀b,b<w.heap.size→(Go.Sort.grow w os).heap[b]?=w.heap[b]?:=fun b hb=>by
  show (w.heap++os)[b]?=_
  rw[Kk hb]
 have ao:bh F w F (Go.Sort.grow w os):=⟨rfl,rfl,rfl,by omega,fun _ h=>h,fun b hb=>ay b (h.low b hb),fun b c T fz hc=>⟨c,fz,by
  rw[ay b (Ad.1 hc).1];exact hc,rfl⟩,aM _⟩
 exact⟨ao,h.nodup,fun p hp=>(h.holds p hp).mono ao (ay _ (h.holds p hp).lt) (h.holds p hp).1,fun b hb=>by have:=h.low b hb;omega⟩
theorem Holds.SS{F:Nat→Prop}{w:World}{b:Nat}{cs:List AV}(h:Holds F w b cs)(hn:∀x∈cs,x.leaf=true):¬F b∧DM F w b cs:=by
 obtain⟨hF,h | ⟨x,o,e,_,hx⟩ | ⟨L,t,e,_⟩⟩:=h
 ·exact⟨hF,h⟩
 ·subst e;have:=hn _ (bV ..);rw[GH hx]at this;cases this
 ·subst e;cases hn _ (bV ..)
theorem abw{b n:Nat}{cs cs':List AV}{d:Array Value}(h:aX F w ((b,cs)::σ))(Fa:∀x∈cs,x.leaf=true)(hl:cs'.length=cs.length)(hd:d.size=cs'.length)(hv:∀(i:Nat) (x:AV),cs'[i]?=some x→x.leaf=true∧ax F w x (d.getD i undef))(os:Array Obj):
  bh F w F (Go.Sort.grow (Go.Sort.putRow id (Go.Sort.ahead w n) b 0 d) os)∧aX F (Go.Sort.grow (Go.Sort.putRow id (Go.Sort.ahead w n) b 0 d) os) ((b,cs')::σ):=by
 obtain⟨hF,c,T,hc,hle,pZ⟩:=(h.holds _ (bV ..)).SS Fa
 have hle:cs.length≤c.size:=hle
 have hc:w.heap[b]?=some (.cells c T (0,0)):=hc
 have uh:∀k,k<d.size→(Go.Sort.putCells id 0 d c).getD k undef=d.getD k undef:=fun k hk=>by
  have zT:k<c.size:=by omega
  unfold Go.Sort.putCells
  rw[gW,Array.getElem?_mapIdx,qa zT]
  simp only[JS,FO]
  rw[ag ⟨bK _,by omega⟩,Nat.sub_zero,gW,qa hk]
  simp[hk]
 have key:=Aw (F:=F) (w:=w) (w':=Go.Sort.putRow id (Go.Sort.ahead w n) b 0 d) h (j:=0) (b:=b) (cs:=cs) (cs':=cs') rfl hc (c':=Go.Sort.putCells id 0 d c) (by simp[Go.Sort.putCells]) (by simp[Go.Sort.putCells];omega)
  (fun i x hx=>by
   have h2:i<cs'.length:=(bQ.1 hx).1
   rw[uh i (by omega)]
   exact hv i x hx)
  (fun k hk=>by
   show (w.heap.modify b _)[k]?=_
   rw[J8,ah (fun e=>hk e.symm)])
  (by
   show (w.heap.modify b _)[b]?=_
   rw[J8,ag rfl,hc];rfl)
  rfl rfl rfl (by simp[Go.Sort.ahead])
 obtain⟨k1,k2⟩:=key
 obtain⟨g1,g2⟩:=aae k2 os
 exact⟨k1.trans g1,g2⟩
theorem afK{b:Nat}{cs:List AV}{d:Array Value}(h:aX F w ((b,cs)::σ))(Fa:∀x∈cs,x.leaf=true)(hd:d.size=cs.length)(hv:∀(i:Nat) (x:AV),cs[i]?=some x→∀v,ax F w x v→v=d.getD i undef):Go.Sort.Holds id w b 0 d∧b<w.heap.size:=by
 obtain⟨hF,c,T,hc,hle,pZ⟩:=(h.holds _ (bV ..)).SS Fa
 have hc:w.heap[b]?=some (.cells c T (0,0)):=hc
 have hle:cs.length≤c.size:=hle
 refine⟨fun j hj=>?_,(Ad.1 hc).1⟩
 have wG:j<cs.length:=by omega
 have hr:=hv j _ (bc wG) _ (pZ j _ (bc wG)).2
 rw[dK]
 constructor
 ·rw[HA hc,qa (by omega)]
  rw[gW,qa (by omega),gW,qa hj]at hr
  simp only[FO]at hr
  rw[hr]
  simp[hj]
 ·unfold World.frozen?
  simp[hc]
end
def mJ(l:List (Int×Int×Unit)):List AV:=l.flatMap fun x=>[.int .i64 x.1,.int .i64 x.2.1]
def nG(x:Int×Int×Unit):List Value:=[.int .i64 x.1,.int .i64 x.2.1]
theorem yQ:∀l:List (Int×Int×Unit),(mJ l).length=l.length*2
 | []=>rfl
 |x::l=>by
  show (mJ l).length+2=(l.length+1)*2
  rw[yQ l];omega
theorem U9(L:List (Int×Int×Unit)):∀x∈mJ L,x.leaf=true:=fun x hx=>by
 obtain⟨p,_,h⟩:=List.mem_flatMap.1 hx
 rcases da.1 h with rfl | h
 ·rfl
 ·rw[a8.1 h];rfl
theorem Uf:∀(l:List (Int×Int×Unit)) (i:Nat),(mJ l)[i]?=(l[i / 2]?).map fun x=>if i % 2=0 then .int .i64 x.1 else .int .i64 x.2.1
 | [],i=>by simp[mJ]
 |x::l,0=>rfl
 |x::l,1=>rfl
 |x::l,i+2=>by
  have h:=Uf l i
  show (mJ l)[i]?=_
  rw[h,show (i+2) / 2=i / 2+1 by omega,show (i+2) % 2=i % 2 by omega]
  rfl
theorem Ue(l:List (Int×Int×Unit))(i:Nat)(x:AV)(h:(mJ l)[i]?=some x):∃z,x=.int .i64 z∧(Go.Sort.flatK nG 2 l.toArray).getD i undef=.int .i64 z:=by
 rw[Uf]at h
 obtain⟨d,hd,hx⟩:=wY.1 h
 obtain⟨hi,rW⟩:=bQ.1 hd
 have ab:i<l.toArray.size*2:=by simp only[p9];omega
 have hg:=Go.Sort.get_flatK nG 2 l.toArray i ab
 have he:(Go.Sort.flatK nG 2 l.toArray).getD i undef=(Go.Sort.flatK nG 2 l.toArray)[i]!:=by
  have hs:i<(Go.Sort.flatK nG 2 l.toArray).size:=by rw[Go.Sort.size_flatK];exact ab
  rw[gW,qa hs]
  exact (getElem!_pos _ i hs).symm
 have hl:l.toArray[i / 2]! = d:=by simp[hi,rW]
 rw[he,hg,hl]
 by_cases h0:i % 2=0
 ·rw[ag h0]at hx
  rw[h0]
  exact⟨d.1,hx.symm,rfl⟩
 ·rw[ah h0]at hx
  have h1:i % 2=1:=by omega
  rw[h1]
  exact⟨d.2.1,hx.symm,rfl⟩
variable {α:Type} {f:α→List AV} {n:Nat}
theorem CA(hf:∀x,(f x).length=n)(l:List α):(l.flatMap f).length=l.length*n:=yL hf l
theorem abo(hf:∀x,(f x).length=n){l:List α}{j:Nat}(h:j<l.length):((l.flatMap f).drop (j*n)).take n=f l[j]:=by
 induction l generalizing j with
 |nil=>simp at h
 |cons x l ih=>
  cases j with
  |zero=>simp[hf]
  |succ j=>
   rw[yA,List.drop_append,hf,lR,gp7,FV (by rw[hf];omega),yy]
   simpa using ih (by simpa using h)
theorem Lr{i:TI}(hi:i.wide=true)(hs:i.size=n)(hf:∀x,(f x).length=n){l:List α}{k:Nat}(h:k<l.length){z:Int}(hz:z=k):dP i (l.flatMap f) (0+z.toNat*n)=some (.agg (f l[k])):=by
 subst hz
 have hl:=CA hf l
 have hm:(k+1)*n≤l.length*n:=iR n h
 rw[lh,FE]at hm
 have hb:Nat.ble (0+k*n+n) (l.flatMap f).length=true:=Kl (by rw[hl];omega)
 unfold dP
 rw[hi,hs]
 show (match Nat.ble (0+k*n+n) (l.flatMap f).length with | true=>some (AV.agg (((l.flatMap f).drop (0+k*n)).take n)) | false=>none)=_
 rw[hb]
 show some (AV.agg (((l.flatMap f).drop (0+k*n)).take n))=_
 rw[dK,abo hf h]
theorem Gn:∀(vs A B C:List AV),B.length=vs.length→e8 (A++(B++C)) A.length vs=A++(vs++C)
 | [],A,B,C,h=>by
  obtain rfl:=iS.1 h
  rfl
 |v::vs,A,b::B,C,h=>by
  show e8 ((A++(b::(B++C))).set A.length v) (A.length+1) vs=_
  have e:(A++(b::(B++C))).set A.length v=(A++[v])++(B++C):=by
   rw[List.set_append_right _ _ (Nat.le_refl _),Nat.sub_self];simp
  rw[e,show A.length+1=(A++[v]).length by simp,Gn vs (A++[v]) B C (by simpa using h)]
  simp
theorem adv(hf:∀x,(f x).length=n){l:List α}{k:Nat}(h:k<l.length)(d:α):e8 (l.flatMap f) (k*n) (f d)=(l.set k d).flatMap f:=by
 have e:l=l.take k++([l[k]]++l.drop (k+1)):=by simp
 have e2:l.set k d=l.take k++([d]++l.drop (k+1)):=by
  rw[List.set_eq_take_append_cons_drop,ag h];rfl
 have hk:((l.take k).flatMap f).length=k*n:=by rw[CA hf,sb,J9 (Nat.le_of_lt h)]
 rw[e2]
 conv=>lhs;rw[e]
 rw[tc,tc,tc,tc,List.flatMap_singleton,List.flatMap_singleton,← hk]
 exact Gn _ _ _ _ (by rw[hf,hf])
theorem Rp{i:TI}(hs:i.size=n)(hf:∀x,(f x).length=n){l:List α}{k:Nat}(h:k<l.length)(d:α){z:Int}(hz:z=k):kn i (l.flatMap f) (0+z.toNat*n) (.agg (f d))=some ((l.set k d).flatMap f):=by
 subst hz
 have hl:=CA hf l
 have hm:(k+1)*n≤l.length*n:=iR n h
 rw[lh,FE]at hm
 have hb:Nat.ble (0+k*n+n) (l.flatMap f).length=true:=Kl (by rw[hl];omega)
 have hq:Nat.beq (f d).length n=true:=by rw[hf];exact yx n
 unfold kn
 rw[hs]
 show (match Nat.beq (f d).length n,Nat.ble (0+k*n+n) (l.flatMap f).length with | true,true=>some (e8 (l.flatMap f) (0+k*n) (f d)) | _,_=>none)=_
 rw[hb,hq]
 show some (e8 (l.flatMap f) (0+k*n) (f d))=_
 rw[dK,adv hf h]
theorem P5:∀(vs cs:List AV) (off k:Nat),k≤off→(e8 cs off vs).take k=cs.take k
 | [],_,_,_,_=>rfl
 |v::vs,cs,off,k,h=>by
  show (e8 (cs.set off v) (off+1) vs).take k=_
  rw[P5 vs _ _ _ (by omega),List.take_set_of_le h]
theorem abn(hf:∀x,(f x).length=n)(l:List α){k:Nat}(h:k≤l.length):(l.flatMap f).take (k*n)=(l.take k).flatMap f:=by
 conv=>lhs;rw[← yB k l]
 rw[tc]
 exact List.take_left' (by rw[CA hf,sb,J9 h])
abbrev qW(x:Int×Int×Unit):List AV:=[.int .i64 x.1,.int .i64 x.2.1]
theorem AJ(x:Int×Int×Unit):(qW x).length=2:=rfl
def pz(L:List (Int×Int×Unit))(j:Nat):Bool:=decide (j=0)||!decide (L.getD j (0,0,())=L.getD (j-1) (0,0,()))
def pB(L:List (Int×Int×Unit))(j:Nat):List (Int×Int×Unit):=((List.range j).filter (pz L)).map fun i=>L.getD i (0,0,())
def rz(L:List (Int×Int×Unit)):List (Int×Int×Unit):=pB L L.length
theorem CG(L:List (Int×Int×Unit))(j:Nat):pB L (j+1)=pB L j++(if pz L j=true then [L.getD j (0,0,())] else []):=by
 unfold pB
 rw[wU,Ab,cM]
 congr 1
 by_cases h:pz L j=true
 ·rw[ag h,gs8 h];rfl
 ·rw[ah h,gp8 h];rfl
theorem W6(x y:Int×Int×Unit)(σ:Hp):ACalls Tryz.prog 186 [.agg (qW x),.agg (qW y)] σ (aE (.bool (decide (x=y))) σ):=by
 have h:=ait x.1 x.2.1 y.1 y.2.1 σ
 have e:(decide (x.1=y.1)&&decide (x.2.1=y.2.1))=decide (x=y):=by
  obtain⟨a,b,_⟩:=x
  obtain⟨c,d,_⟩:=y
  simp only[Prod.mk.injEq,and_true,Bool.decide_and]
 rw[e]at h
 exact h
theorem mF{L:List (Int×Int×Unit)}{j:Nat}(h:j<L.length):L.getD j (0,0,())=L[j]:=by rw[aR,bc h];rfl
theorem xM{i:TI}(hi:i.wide=true)(hs:i.size=2){l:List (Int×Int×Unit)}{p q:Nat}(h:q<l.length){z:Int}(hz:(p:Int)+z=q)(h0:0≤z):dP i (l.flatMap qW) (0+p*2+z.toNat*2)=some (.agg (qW l[q])):=by
 rw[← Lr (f:=qW) (n:=2) hi hs AJ h rfl]
 congr 1
 omega
theorem Sa(b:Nat)(L:List (Int×Int×Unit))(σ:Hp)(hl:L.length≤1000000):ACalls Tryz.prog 185 [.ae b 0 L.length 2,.fn (.func 186) [] []] ((b,mJ L)::σ)
  (fun x σ'=>∃(k:Nat) (cs:List AV),k=(rz L).length∧cs.take (k*2)=mJ (rz L)∧x=.ae b 0 k 2∧σ'=(b,cs)::σ):=by
 refine aA Tryz.func185 ?_
 refine aq (p:=(L.length:Int)<2) (fun c1=>?_) (fun c1=>?_)
 ·have hc:rz L=L:=by
   match L,c1 with
   | [],_=>rfl
   | [x],_=>rfl
   |x::y::r,h=>simp only[fO]at h;omega
  refine .done ⟨L.length,mJ L,by rw[hc],?_,rfl,rfl⟩
  rw[hc]
  exact eZ (z7 (yQ L))
 refine cj (S:=Nat) (fun k=>[(0,.ae b 0 L.length 2),(1,.fn (.func 186) [] []),(5,.int .i64 ((k+1:Nat):Int))]) (fun _=>(b,mJ L)::σ) (fun k=>k+1≤L.length∧pB L (k+1)=L.take (k+1)) (fun k=>L.length-k) 0 ⟨⟨by omega,?_⟩,⟨rfl,rfl,rfl,trivial⟩,rfl⟩ ?_
 ·rw[CG]
  have h0:0<L.length:=by omega
  rw[fQ h0,ag (show pz L 0=true from rfl),mF h0];rfl
 rintro k g ⟨bD,s7⟩
 have hk:k+1≤L.length:=bD
 have ha:pB L (k+1)=L.take (k+1):=s7
 clear bD s7
 have hw:IntKind.i64.wrap (((k+1:Nat):Int)-1)=(k:Int):=by rw[IntKind.wrap_i64];omega
 refine aq (p:=((k+1:Nat):Int)<(L.length:Int)) (fun ab=>?_) (fun ay=>?_)
 ·have ab:k+1<L.length:=by omega
  refine .quiet (by kernel_rfl) ?_
  refine aK ?_
  refine eO.mk 0 _ (.agg (qW L[k+1])) rfl (Lr rfl rfl AJ ab rfl) ?_
  refine aH.mk ⟨rfl,by rw[hw];omega,by rw[hw];omega⟩ ?_
  refine eO.mk 0 _ (.agg (qW L[k])) rfl (Lr rfl rfl AJ (by omega) hw) ?_
  refine ML [] (W6 L[k+1] L[k] _) (fun c2=>?_) (fun c2=>?_)
  rotate_left
  ·refine aZ (k+1) (by show L.length-(k+1)<L.length-k;omega) ⟨ab,?_⟩ ⟨rfl,rfl,bu (by omega),trivial⟩ (.refl _)
   show pB L (k+1+1)=L.take (k+1+1)
   rw[CG,ha,fQ ab,mF ab]
   have rV:pz L (k+1)=true:=by
    unfold pz
    rw[mF ab,Nat.add_sub_cancel,mF (by omega),c2];simp
   rw[ag rV]
  have rV:pz L (k+1)=false:=by
   unfold pz
   rw[mF ab,Nat.add_sub_cancel,mF (by omega),c2];simp
  have gV:pB L ((k+1)+1)=L.take (k+1):=by rw[CG,rV,ha];simp
  refine aH.mk ⟨by omega,by omega,by omega,rfl⟩ ?_
  refine cj (S:=Nat×Nat×List (Int×Int×Unit)) (fun s=>[(0,.ae b 0 L.length 2),(1,.fn (.func 186) [] []),(5,.int .i64 s.1),(6,.ae b (0+(k+1)*2) (L.length-(k+1)) 2),(7,.int .i64 ((s.2.1+1:Nat):Int))]) (fun s=>(b,s.2.2.flatMap qW)::σ) (fun s=>s.1≤(k+1)+s.2.1∧(k+1)+s.2.1+1≤L.length∧s.2.2.length=L.length∧s.2.2.take s.1=pB L ((k+1)+s.2.1+1)∧s.2.2.drop ((k+1)+s.2.1)=L.drop ((k+1)+s.2.1)) (fun s=>L.length-s.2.1) ((k+1),0,L) ⟨⟨aM _,ab,rfl,gV.symm,rfl⟩,⟨rfl,rfl,rfl,rfl,rfl,trivial⟩,rfl⟩ ?_
  rintro⟨i,j,M⟩ g ⟨fi,mS,yv,oT,JF⟩
  have hi:i≤(k+1)+j:=fi
  have hj:(k+1)+j+1≤L.length:=mS
  have hM:M.length=L.length:=yv
  have hF:M.take i=pB L ((k+1)+j+1):=oT
  have hD:M.drop ((k+1)+j)=L.drop ((k+1)+j):=JF
  clear fi mS yv oT JF
  have uz:IntKind.i64.wrap (((j+1:Nat):Int)-1)=(j:Int):=by rw[IntKind.wrap_i64];omega
  refine aq (p:=((j+1:Nat):Int)<((L.length-(k+1):Nat):Int)) (fun h=>?_) (fun h=>?_)
  ·have h1:(k+1)+j+1<L.length:=by omega
   have OZ:(k+1)+j+1<M.length:=by omega
   have hM2:(k+1)+j<M.length:=by omega
   have e1:M[(k+1)+j+1]=L[(k+1)+j+1]:=by
    have:=congrArg (fun x=>x[1]?) hD
    simpa [h1,OZ]using this
   have e2:M[(k+1)+j]=L[(k+1)+j]:=by
    have:=congrArg (fun x=>x[0]?) hD
    simpa [hM2,show (k+1)+j<L.length by omega]using this
   have hD1:M.drop ((k+1)+j+1)=L.drop ((k+1)+j+1):=by
    have h3:=congrArg (List.drop 1) hD
    rwa [B9,B9]at h3
   refine .quiet (by kernel_rfl) ?_
   refine aH.mk ⟨rfl,(show (0:Int)≤((j+1:Nat):Int) by omega),h⟩ ?_
   refine eO.mk 0 _ (.agg (qW M[(k+1)+j+1])) rfl (xM (z:=((j+1:Nat):Int)) rfl rfl OZ (by omega) (by omega)) ?_
   refine aH.mk ⟨rfl,by rw[uz];omega,by rw[uz];omega⟩ ?_
   refine eO.mk 0 _ (.agg (qW M[(k+1)+j])) rfl (xM rfl rfl hM2 (by rw[uz];omega) (by rw[uz];omega)) ?_
   have yj:pz L ((k+1)+j+1) = !decide (M[(k+1)+j+1]=M[(k+1)+j]):=by
    unfold pz
    rw[mF h1,Nat.add_sub_cancel,mF (by omega),e1,e2];simp
   refine ML [] (W6 M[(k+1)+j+1] M[(k+1)+j] _) (fun c3=>?_) (fun c3=>?_)
   ·rw[c3]at yj
    refine aZ (i,j+1,M) (by show L.length-(j+1)<L.length-j;omega) ⟨by show i≤(k+1)+(j+1);omega,by show (k+1)+(j+1)+1≤L.length;omega,hM,?_,hD1⟩ ⟨rfl,rfl,rfl,rfl,bu (k:=j+1) (by omega),trivial⟩ (.refl _)
    show M.take i=pB L ((k+1)+(j+1)+1)
    rw[show (k+1)+(j+1)+1=(k+1)+j+1+1 by omega,CG,yj,hF];simp
   ·rw[c3]at yj
    refine aH.mk ⟨rfl,(show (0:Int)≤((j+1:Nat):Int) by omega),h⟩ ?_
    refine eO.mk 0 _ (.agg (qW M[(k+1)+j+1])) rfl (xM (z:=((j+1:Nat):Int)) rfl rfl OZ (by omega) (by omega)) ?_
    refine aK ?_
    have hiM:i<M.length:=by omega
    refine cU 0 rfl (Rp rfl AJ hiM M[(k+1)+j+1] rfl) ?_
    refine aZ (i+1,j+1,M.set i M[(k+1)+j+1]) (by show L.length-(j+1)<L.length-j;omega) ⟨by show i+1≤(k+1)+(j+1);omega,by show (k+1)+(j+1)+1≤L.length;omega,(ck ..).trans hM,?_,?_⟩ ⟨rfl,rfl,bu (k:=i) (by omega),rfl,bu (k:=j+1) (by omega),trivial⟩ (.refl _)
    ·show (M.set i M[(k+1)+j+1]).take (i+1)=pB L ((k+1)+(j+1)+1)
     rw[show (k+1)+(j+1)+1=(k+1)+j+1+1 by omega,CG,yj,fQ (by rw[ck];exact hiM),List.take_set_of_le (aM _),List.getElem_set_self,hF,mF h1,e1]
     simp
    ·show (M.set i M[(k+1)+j+1]).drop ((k+1)+(j+1))=L.drop ((k+1)+(j+1))
     rw[List.drop_set_of_lt (by omega)]
     exact hD1
  ·have h1:(k+1)+j+1=L.length:=by omega
   rw[h1]at hF
   refine aH.mk ⟨by omega,by omega,by omega,rfl⟩ ?_
   refine Mv.ae 0 b _ _ _ rfl rfl (by show 0+(i:Int).toNat*2+((L.length:Int).toNat-(i:Int).toNat)*2≤(M.flatMap qW).length;rw[CA AJ];omega) ?_
   refine aH.mk ⟨by omega,by omega,by omega,rfl⟩ ?_
   have sY:i=(rz L).length:=by unfold rz;rw[← hF,sb];omega
   refine .done ⟨i,_,sY,?_,rfl,rfl⟩
   rw[P5 _ _ _ _ (by omega),abn AJ M (by omega),hF];rfl
 ·have ay:k+1=L.length:=by omega
  have hc:rz L=L:=by unfold rz;rw[← ay,ha,ay,ig]
  refine .done ⟨L.length,mJ L,by rw[hc],?_,rfl,rfl⟩
  rw[hc]
  exact eZ (z7 (yQ L))
end Go.Proofs.YtnikdflhefijbaaGreat
namespace Go.Proofs.YtnikdflhefijbaaGreat
open Go.Shelf
def YT:Go.Shelf.Ren:=⟨fun | 6=>181 | 15=>233 | 14=>232 | 28=>274 | 29=>275 | 20=>266 | 21=>267 | 22=>268 | 23=>269 | 24=>270 | 25=>271 | 26=>272 | 27=>273 | 46=>295 | 47=>296 | 48=>297 | 49=>298 | 50=>299 | 57=>327 | n=>n,fun | 22=>22 | 24=>227 | 25=>250 | 3=>3 | 39=>253 | 0=>0 | 53=>284 | 55=>56 | 4=>4 | 46=>308 | 45=>307 | 50=>312 | 5=>5 | 9=>9 | 66=>331 | 70=>335 | 76=>353 | 77=>50 | n=>n,fun | n=>n⟩
theorem MG:Go.Proofs.SlLaysF0.n6 Tryz.prog YT:= {
 mixed:=by kernel_rfl
 f6 := ⟨"slices.SortFunc[[]sough/api.Edge,sough/api.Edge]", by decide, Tryz.func181.trans (congrArg some (by kernel_rfl))⟩
 f14 := ⟨"slices.pdqsortCmpFunc[sough/api.Edge]", by decide, Tryz.func232.trans (congrArg some (by kernel_rfl))⟩
 f15:=Tryz.func233.trans (congrArg some (by kernel_rfl))
 f20 := ⟨"slices.insertionSortCmpFunc[sough/api.Edge]", by decide, Tryz.func266.trans (congrArg some (by kernel_rfl))⟩
 f21 := ⟨"slices.heapSortCmpFunc[sough/api.Edge]", by decide, Tryz.func267.trans (congrArg some (by kernel_rfl))⟩
 f22 := ⟨"slices.breakPatternsCmpFunc[sough/api.Edge]", by decide, Tryz.func268.trans (congrArg some (by kernel_rfl))⟩
 f23 := ⟨"slices.choosePivotCmpFunc[sough/api.Edge]", by decide, Tryz.func269.trans (congrArg some (by kernel_rfl))⟩
 f24 := ⟨"slices.reverseRangeCmpFunc[sough/api.Edge]", by decide, Tryz.func270.trans (congrArg some (by kernel_rfl))⟩
 f25 := ⟨"slices.partialInsertionSortCmpFunc[sough/api.Edge]", by decide, Tryz.func271.trans (congrArg some (by kernel_rfl))⟩
 f26 := ⟨"slices.partitionEqualCmpFunc[sough/api.Edge]", by decide, Tryz.func272.trans (congrArg some (by kernel_rfl))⟩
 f27 := ⟨"slices.partitionCmpFunc[sough/api.Edge]", by decide, Tryz.func273.trans (congrArg some (by kernel_rfl))⟩
 f28:=Tryz.func274.trans (congrArg some (by kernel_rfl))
 f29:=Tryz.func275.trans (congrArg some (by kernel_rfl))
 f46 := ⟨"slices.siftDownCmpFunc[sough/api.Edge]", by decide, Tryz.func295.trans (congrArg some (by kernel_rfl))⟩
 f47:=Tryz.func296.trans (congrArg some (by kernel_rfl))
 f48:=Tryz.func297.trans (congrArg some (by kernel_rfl))
 f49 := ⟨"slices.medianAdjacentCmpFunc[sough/api.Edge]", by decide, Tryz.func298.trans (congrArg some (by kernel_rfl))⟩
 f50 := ⟨"slices.medianCmpFunc[sough/api.Edge]", by decide, Tryz.func299.trans (congrArg some (by kernel_rfl))⟩
 f57 := ⟨"slices.order2CmpFunc[sough/api.Edge]", by decide, Tryz.func327.trans (congrArg some (by kernel_rfl))⟩
 t0:=Tryz.underlying0
 a0:=Tryz.isAgg0
 z0:=Tryz.sizeOf0
 v0:=Tryz.zeroValue0
 t3:=Tryz.underlying3
 a3:=Tryz.isAgg3
 z3:=Tryz.sizeOf3
 v3:=Tryz.zeroValue3
 t4:=Tryz.underlying4
 a4:=Tryz.isAgg4
 z4:=Tryz.sizeOf4
 v4:=Tryz.zeroValue4
 t5:=Tryz.underlying5
 a5:=Tryz.isAgg5
 z5:=Tryz.sizeOf5
 v5:=Tryz.zeroValue5
 t9:=Tryz.underlying9
 a9:=Tryz.isAgg9
 z9:=Tryz.sizeOf9
 v9:=Tryz.zeroValue9
 t22:=Tryz.underlying22
 a22:=Tryz.isAgg22
 z22:=Tryz.sizeOf22
 v22:=Tryz.zeroValue22
 t25:=Tryz.underlying250
 a25:=Tryz.isAgg250
 z25:=Tryz.sizeOf250
 v25:=Tryz.zeroValue250
 t39:=Tryz.underlying253
 a39:=Tryz.isAgg253
 z39:=Tryz.sizeOf253
 v39:=Tryz.zeroValue253
 t45:=Tryz.underlying307
 a45:=Tryz.isAgg307
 z45:=Tryz.sizeOf307
 v45:=Tryz.zeroValue307
 t46:=Tryz.underlying308
 a46:=Tryz.isAgg308
 z46:=Tryz.sizeOf308
 v46:=Tryz.zeroValue308
 t50:=Tryz.underlying312
 a50:=Tryz.isAgg312
 z50:=Tryz.sizeOf312
 v50:=Tryz.zeroValue312
 t53:=Tryz.underlying284
 a53:=Tryz.isAgg284
 z53:=Tryz.sizeOf284
 v53:=Tryz.zeroValue284
 t55:=Tryz.underlying56
 a55:=Tryz.isAgg56
 z55:=Tryz.sizeOf56
 v55:=Tryz.zeroValue56
 t66:=Tryz.underlying331
 a66:=Tryz.isAgg331
 z66:=Tryz.sizeOf331
 v66:=Tryz.zeroValue331
 t70:=Tryz.underlying335
 a70:=Tryz.isAgg335
 z70:=Tryz.sizeOf335
 v70:=Tryz.zeroValue335
 t76:=Tryz.underlying353
 a76:=Tryz.isAgg353
 z76:=Tryz.sizeOf353
 v76:=Tryz.zeroValue353
 t77:=Tryz.underlying50
 a77:=Tryz.isAgg50
 z77:=Tryz.sizeOf50
 v77:=Tryz.zeroValue50 }
set_option maxRecDepth 100000
abbrev ep:Type:=Int×Int×Unit
def vY(x y:ep):Int:=N1 x.1 x.2.1 y.1 y.2.1
theorem TR{F:Nat→Prop}{w:World}(x:ep):ax F w (.agg [.int .i64 x.1,.int .i64 x.2.1]) (.agg (nG x).toArray):=by
 refine .agg _ _ rfl (fun i a h=>?_) (fun i a h=>?_)
 ·match i,h with
  | 0,h=>cases h;rfl
  | 1,h=>cases h;rfl
 ·match i,h with
  | 0,h=>cases h;exact .int _ _
  | 1,h=>cases h;exact .int _ _
theorem acE(blk off size:Nat)(w:World):CmpLays Tryz.prog 182 #[] nG 2 vY blk off size w:=fun m os dk _ x y=>by
 have h:=Q3 (fun σ=>ahk x.1 x.2.1 y.1 y.2.1 σ) (w:=sortWorldK nG 2 w blk off m dk os) (vs:= #[.agg (nG x).toArray,.agg (nG y).toArray]) ⟨rfl,fun i a h=>by
  match i,h with
  | 0,h=>cases h;exact TR x
  | 1,h=>cases h;exact TR y⟩
 exact h
theorem xw(x y:ep):ltOf vY x y=decide (x.1<y.1∨(x.1=y.1∧x.2.1<y.2.1)):=by
 unfold ltOf
 rw[decide_eq_decide]
 unfold vY N1 BL x7
 split <;> split at * <;> (try split at *) <;> (try split) <;> omega
theorem aho:Go.Sort.SWO (ltOf vY) where
 irrefl x:=by rw[xw];simp
 trans x y z h1 h2:=by rw[xw]at *;simp only[decide_eq_true_eq]at *;omega
 ntrans x y z h1 h2:=by rw[xw]at *;simp only[decide_eq_false_iff_not]at *;omega
theorem ahn(x y:ep)(h1:ltOf vY x y=false)(h2:ltOf vY y x=false):x=y:=by
 rw[xw]at *
 simp only[decide_eq_false_iff_not]at *
 obtain⟨a,b,_⟩:=x
 obtain⟨c,d,_⟩:=y
 have e1:a=c:=by simp only at h1 h2;omega
 have e2:b=d:=by simp only at h1 h2;omega
 rw[e1,e2]
def ql(l:List ep):List ep:=l.mergeSort fun x y=> !(ltOf vY) y x
theorem Ge(l:List ep):(ql l).length=l.length:=Pe ..
theorem P1:Enters Tryz.prog 181:=enters_of Tryz.func181 (by kernel_rfl)
theorem Yg:Enters Tryz.prog 182:=enters_of Tryz.func182 (by kernel_rfl)
theorem Sm{vs:Array Value}(h:2=vs.size):∃v u,vs = #[v,u]:=by
 refine⟨vs.getD 0 undef,vs.getD 1 undef,Array.ext ?_ fun i h2 h3=>?_⟩
 ·simp[← h]
 ·have:i=0∨i=1:=by omega
  rcases this with rfl | rfl <;> simp[Array.getD,h2]
theorem fnv{F:Nat→Prop}{w:World}{f:Fn}{v:Value}(h:ax F w (.fn f [] []) v):v=.func f #[] #[]:=by
 cases h with
 |fn _ _ _ v1 v2 fh gy _ _=>
  rw[Kf fh.symm,Kf gy.symm]
theorem adJ(x:ep):∀v∈nG x,v.oneCell'=true:=by
 intro v hv
 simp only[nG,da,wQ,or_false]at hv
 rcases hv with rfl | rfl <;> rfl
theorem VA(b:Nat)(L:List ep)(n:Nat)(σ:Hp)(hz:L.length=n)(hl:n≤1000000):ACalls Tryz.prog 181 [.ae b 0 n 2,.fn (.func 182) [] []] ((b,mJ L)::σ) (aE (.tup []) ((b,mJ (ql L))::σ)):=by
 subst hz
 refine⟨P1,fun F w vs bX aC =>?_⟩
 obtain⟨v,u,rfl⟩:=Sm bX.1
 have hv:ax F w (.ae b 0 L.length 2) v:=bX.2 0 _ rfl
 obtain rfl:=fnv (show ax F w (.fn (.func 182) [] []) u from bX.2 1 _ rfl)
 obtain⟨a,cap,rfl,c,T,fz,m1,m2,m3,m4⟩:=hv.lD
 rcases m4 with ⟨rfl,_⟩ | ⟨_,_,h0,_⟩
 ·obtain⟨h1,h2⟩:=afK (d:=Go.Sort.flatK nG 2 L.toArray) aC (U9 L) (by rw[Go.Sort.size_flatK,yQ];rfl) (fun i x hx v hv=>by
   obtain⟨z,rfl,hz⟩:=Ue L i x hx
   rw[hz];exact hv.gu)
  have h:Calls Tryz.prog 181 #[.slice (some ⟨b,0,none⟩) L.length cap,.func (.func 182) #[] #[]] w fun e w'=>e=.returned (.tuple #[])∧∃n os,w'=sortWorldK nG 2 w b 0 n (ql L).toArray os:=AnyQ.slices_SortFunc_total MG 2 Tryz.isAgg227 Tryz.sizeOf227 nG (fun _=>rfl) adJ vY aho 182 #[] b 0 cap L.toArray w Yg (acE b 0 L.length w) h1 h2 (by show L.length<_;omega) ahn
  refine h.mono ?_
  rintro e w' ⟨rfl,n,os,rfl⟩
  obtain⟨k1,k2⟩:=abw (n:=n) (cs':=mJ (ql L)) (d:=Go.Sort.flatK nG 2 (ql L).toArray) aC (U9 L) (by rw[yQ,yQ,Ge]) (by rw[Go.Sort.size_flatK,yQ];rfl) (fun i x hx=>by
   obtain⟨z,rfl,hz⟩:=Ue (ql L) i x hx
   rw[hz];exact⟨rfl,.int _ _⟩) os
  exact⟨.tup [],.tuple #[],_,F,rfl,k1,k2,.tup [] #[] rfl fun i x h=>by simp at h,rfl,rfl⟩
 ·have hz:L=[]:=iS.1 h0
  subst hz
  have h:Calls Tryz.prog 181 #[.slice (some a) 0 cap,.func (.func 182) #[] #[]] w fun e w'=>e=.returned (.tuple #[])∧w'=w:=AnyF.slices_SortFunc_none MG (some a) cap _ w
  have he:ql []=[]:=iS.1 (Ge [])
  rw[he]
  refine h.mono ?_
  rintro e w' ⟨rfl,rfl⟩
  exact⟨.tup [],.tuple #[],_,F,rfl,.refl _ _,aC,.tup [] #[] rfl fun i x h=>by simp at h,rfl,rfl⟩
abbrev l8:Sh:=.field (.int .i64) (.field (.int .i64) .nil)
theorem af3(L:List ep)(σ:Hp)(hl:L.length≤1000000)(h0:L≠[]):ACalls Tryz.prog 180 [.ai l8 L] σ (fun x σ'=>∃b,x=.ae b 0 L.length 2∧σ'=(b,mJ L)::σ):=by
 refine aA Tryz.func180 ?_
 refine aH.mk (mm.2 h0) ?_
 intro b2
 refine AppendAt.more 0 b2 0 L.length [] (mJ L) rfl rfl (cT rfl) (.ai _ _ rfl) (by omega) (by decide) (by decide) (fun b'=>?_)
 refine .done ⟨b',?_,?_⟩
 ·rw[dK];rfl
 ·rfl
theorem ad0(σ:Hp):ACalls Tryz.prog 180 [.aj] σ (aE .aj σ):=by
 refine aA Tryz.func180 ?_
 exact .done ⟨rfl,rfl⟩
theorem acZ(σ:Hp):ACalls Tryz.prog 180 [.gz] σ (fun x σ'=>∃b,x=.ae b 0 0 2∧σ'=(b,[])::σ):=by
 refine aA Tryz.func180 ?_
 intro b2
 refine AppendAt.more 0 b2 0 0 [] [] rfl rfl (cT rfl) .gz (by omega) (by decide) (by decide) (fun b'=>?_)
 exact .done ⟨b',rfl,rfl⟩
theorem aeK(σ:Hp):ACalls Tryz.prog 181 [.aj,.fn (.func 182) [] []] σ (aE (.tup []) σ):=by
 refine⟨P1,fun F w vs bX aC =>?_⟩
 obtain⟨v,u,rfl⟩:=Sm bX.1
 have hv:ax F w .aj v:=bX.2 0 _ rfl
 cases hv
 have h:Calls Tryz.prog 181 #[.slice none 0 0,u] w fun e w'=>e=.returned (.tuple #[])∧w'=w:=AnyF.slices_SortFunc_none MG none 0 u w
 refine h.mono ?_
 rintro e w' ⟨rfl,rfl⟩
 exact⟨.tup [],.tuple #[],_,F,rfl,.refl _ _,aC,.tup [] #[] rfl fun i x h=>by simp at h,rfl,rfl⟩
theorem Zq(σ:Hp):ACalls Tryz.prog 185 [.aj,.fn (.func 186) [] []] σ (aE .aj σ):=by
 refine aA Tryz.func185 ?_
 exact .done ⟨rfl,rfl⟩
def fS(L:List ep):List ep:=rz (ql L)
theorem Qm(L:List ep)(σ:Hp)(hl:L.length≤1000000):ACalls Tryz.prog 133 [.ai l8 L] σ (aE (.ai l8 (fS L)) σ):=by
 have hn:ql []=[]:=iS.1 (Ge [])
 have kD:fS []=[]:=by unfold fS;rw[hn];rfl
 refine CH (fun h=>?_) (fun h=>?_)
 ·subst h
  refine⟨?_,?_⟩
  ·refine aA Tryz.func133 ?_
   refine aB [] (ad0 σ) ?_
   refine aB [] (aeK _) ?_
   refine aB [] (Zq _) ?_
   exact .nil (.nil l8) (.done ⟨congrArg (AV.ai l8) kD.symm,rfl⟩)
  ·refine aA Tryz.func133 ?_
   refine .mk [] _ (acZ σ) ?_
   rintro _ _ ⟨b,rfl,rfl⟩
   have hs:=VA b [] 0 σ rfl (by decide)
   rw[hn]at hs
   refine aB [] hs ?_
   refine .mk [] _ (Sa b [] σ (by decide)) ?_
   rintro _ _ ⟨k,cs,hk,kH,rfl,rfl⟩
   subst hk
   exact .cI 0 b 0 _ 2 cs l8 ([]:List ep) rfl kH ⟨rfl,rfl,by decide⟩ .here (.done ⟨congrArg (AV.ai l8) kD.symm,rfl⟩)
 ·refine aA Tryz.func133 ?_
  refine .mk [] _ (af3 L σ hl h) ?_
  rintro _ _ ⟨b,rfl,rfl⟩
  refine aB [] (VA b L L.length σ rfl hl) ?_
  have cH:(ql L).length=L.length:=Ge L
  have hc:=Sa b (ql L) σ (by rw[cH];exact hl)
  rw[cH]at hc
  refine .mk [] _ hc ?_
  rintro _ _ ⟨k,cs,hk,kH,rfl,rfl⟩
  subst hk
  exact .cI 0 b 0 _ 2 cs l8 (fS L) rfl kH ⟨rfl,rfl,by decide⟩ .here (.done ⟨rfl,rfl⟩)
def nI(x y:ep):Prop:=x.1<y.1∨(x.1=y.1∧x.2.1<y.2.1)
def BM(x y:ep):Prop:=x.1<y.1∨(x.1=y.1∧x.2.1≤y.2.1)
theorem U8{x y:ep}(h1:x.1=y.1)(h2:x.2.1=y.2.1):x=y:=by
 obtain⟨a,b,_⟩:=x
 obtain⟨c,d,_⟩:=y
 simp only at h1 h2
 rw[h1,h2]
theorem Ti:∀{l m:List ep},l.Pairwise nI→m.Pairwise nI→(∀x,x∈l↔x∈m)→l=m
 | [],[],_,_,_=>rfl
 | [],y::m,_,_,h=>absurd ((h y).2 (bV ..)) wQ
 |x::l,[],_,_,h=>absurd ((h x).1 (bV ..)) wQ
 |x::l,y::m,hl,hm,h=>by
  have h1:=ta.1 hl
  have h2:=ta.1 hm
  have aN:x=y:=by
   have a:=(h x).1 (bV ..)
   have b:=(h y).2 (bV ..)
   rcases da.1 a with a | a
   ·exact a
   ·rcases da.1 b with b | b
    ·exact b.symm
    ·have p:=h1.1 y b
     have q:=h2.1 x a
     unfold nI at p q
     omega
  subst aN
  refine congrArg (x :: ·) (Ti h1.2 h2.2 fun z=>⟨fun hz=>?_,fun hz=>?_⟩)
  ·rcases da.1 ((h z).1 (cE _ hz)) with e | e
   ·subst e
    have p:=h1.1 z hz
    unfold nI at p
    omega
   ·exact e
  ·rcases da.1 ((h z).2 (cE _ hz)) with e | e
   ·subst e
    have p:=h2.1 z hz
    unfold nI at p
    omega
   ·exact e
theorem Xz(l:List ep):(ql l).Pairwise BM:=by
 have:=List.pairwise_mergeSort (le:=fun x y:ep=> !(ltOf vY) y x) (fun a b c h1 h2=>by
  rw[xw]at *
  simp only[jq,decide_eq_false_iff_not]at *
  omega) (fun a b=>by
  rw[xw,xw,oW]
  simp only[jq,decide_eq_false_iff_not]
  omega) l
 refine this.imp fun {x y} h=>?_
 rw[xw]at h
 simp only[jq,decide_eq_false_iff_not]at h
 unfold BM
 omega
theorem ZD(l:List ep)(x:ep):x∈ql l↔x∈l:=List.mem_mergeSort
theorem Uv{l:List ep}(h:l.Pairwise BM){i j:Nat}(eQ:i≤j)(hj:j<l.length):BM (l[i]'(by omega)) l[j]:=by
 by_cases e:i=j
 ·subst e;exact .inr ⟨rfl,lf _⟩
 ·exact FZ.1 h i j (by omega) hj (by omega)
theorem aau{l:List ep}(h:l.Pairwise BM):(rz l).Pairwise nI:=by
 unfold rz pB
 rw[uP]
 have hr:((List.range l.length).filter (pz l)).Pairwise fun i j=>i<j∧j<l.length∧pz l j=true:=by
  have h1:(List.range l.length).Pairwise fun i j=>i<j∧j<l.length:=by
   rw[FZ]
   intro i j hi hj eQ
   simp only[J4]
   exact⟨eQ,by simpa using hj⟩
  rw[List.pairwise_filter]
  exact h1.imp fun eQ _ hk=>⟨eQ.1,eQ.2,hk⟩
 refine hr.imp fun {i j} ⟨h1,h2,h3⟩=>?_
 have hk:l[j]≠l[j-1]'(by omega):=by
  unfold pz at h3
  rw[mF h2,mF (show j-1<l.length by omega)]at h3
  simp only[oW,decide_eq_true_eq,jq,decide_eq_false_iff_not]at h3
  rcases h3 with h3 | h3
  ·omega
  ·exact h3
 rw[mF h2,mF (show i<l.length by omega)]
 have q1:=Uv h (i:=i) (j:=j-1) (by omega) (by omega)
 have q2:=Uv h (i:=j-1) (j:=j) (by omega) h2
 have aO:¬((l[j]).1=(l[j-1]'(by omega)).1∧(l[j]).2.1=(l[j-1]'(by omega)).2.1):=fun e=>hk (U8 e.1 e.2)
 unfold BM at q1 q2
 unfold nI
 omega
theorem aat{l:List ep}(x:ep):x∈rz l↔x∈l:=by
 unfold rz pB
 constructor
 ·intro hx
  obtain⟨j,hj,rfl⟩:=cY.1 hx
  have hj:=fA.1 (ki.1 hj).1
  rw[mF hj];exact cD hj
 ·intro hx
  obtain⟨j,⟨hj,e⟩,iL⟩:∃j,(∃h:j<l.length,l[j]=x)∧∀k,k<j→¬∃h:k<l.length,l[k]=x:=by
   obtain⟨j,hj,e⟩:=wW.1 hx
   have hj:∃h:j<l.length,l[j]=x:=⟨hj,e⟩
   clear e
   induction j using Nat.strongRecOn with
   |ind j ih=>
    by_cases hk:∃k,k<j∧∃h:k<l.length,l[k]=x
    ·obtain⟨k,h1,h2⟩:=hk
     exact ih k h1 h2.1 h2
    ·exact⟨j,hj,fun k h1 h2=>hk ⟨k,h1,h2⟩⟩
  refine cY.2 ⟨j,ki.2 ⟨fA.2 hj,?_⟩,by rw[mF hj];exact e⟩
  unfold pz
  by_cases h0:j=0
  ·rw[aY h0];rfl
  ·rw[b9 h0,qS,mF hj,mF (show j-1<l.length by omega)]
   rw[jq,decide_eq_false_iff_not]
   exact fun h=>iL (j-1) (by omega) ⟨by omega,h.symm.trans e⟩
theorem XP(l:List ep):(fS l).Pairwise nI:=aau (Xz l)
theorem Gh(l:List ep)(x:ep):x∈fS l↔x∈l:=by unfold fS;rw[aat,ZD]
def pL(x:ep):List ep→List ep
 | []=>[x]
 |y::r=>if x.1<y.1∨(x.1=y.1∧x.2.1≤y.2.1) then (if x=y then y::r else x::y::r) else y::pL x r
theorem LD(x:ep):∀(l:List ep) (z:ep),z∈pL x l↔z=x∨z∈l
 | [],z=>by unfold pL;rw[List.mem_singleton];simp
 |y::r,z=>by
  unfold pL
  split
  ·split
   ·rename_i h;subst h;rw[da]
    exact⟨fun h=>.inr h,fun h=>h.elim .inl id⟩
   ·rw[da]
  ·rw[da,LD x r z,da]
   exact⟨fun h=>h.elim (fun h=>.inr (.inl h)) fun h=>h.elim .inl fun h=>.inr (.inr h),fun h=>h.elim (fun h=>.inr (.inl h)) fun h=>h.elim .inl fun h=>.inr (.inr h)⟩
theorem Tg(x:ep):∀{l:List ep},l.Pairwise nI→(pL x l).Pairwise nI
 | [],_=>List.pairwise_singleton ..
 |y::r,h=>by
  have h1:=ta.1 h
  unfold pL
  split
  ·rename_i hle
   split
   ·exact h
   ·rename_i aO
    have ab:nI x y:=by
     have:¬(x.1=y.1∧x.2.1=y.2.1):=fun e=>aO (U8 e.1 e.2)
     unfold nI
     omega
    refine ta.2 ⟨fun z hz=>?_,h⟩
    rcases da.1 hz with e | e
    ·rw[e];exact ab
    ·have:=h1.1 z e
     unfold nI at this ab ⊢
     omega
  ·rename_i hgt
   refine ta.2 ⟨fun z hz=>?_,Tg x h1.2⟩
   rcases (LD x r z).1 hz with e | e
   ·rw[e];unfold nI;omega
   ·exact h1.1 z e
theorem acj(l:List ep):l.foldl (fun o x=>pL x o) []=fS l:=by
 have key:∀(l o:List ep),o.Pairwise nI→(l.foldl (fun o x=>pL x o) o).Pairwise nI∧∀z,z∈l.foldl (fun o x=>pL x o) o↔z∈o∨z∈l:=by
  intro l
  induction l with
  |nil=>intro o ho;exact⟨ho,fun z=>by simp⟩
  |cons x l ih=>
   intro o ho
   obtain⟨k1,k2⟩:=ih (pL x o) (Tg x ho)
   refine⟨k1,fun z=>?_⟩
   rw[FK,k2,LD,da]
   exact⟨fun h=>h.elim (fun h=>h.elim (fun h=>.inr (.inl h)) .inl) fun h=>.inr (.inr h),fun h=>h.elim (fun h=>.inl (.inr h)) fun h=>h.elim (fun h=>.inl (.inl h)) .inr⟩
 obtain⟨k1,k2⟩:=key l [] List.Pairwise.nil
 refine Ti k1 (XP l) fun z=>?_
 rw[k2,Gh];simp
def Bx(B:List ep)(k:Nat):List ep:=(B.take k).foldl (fun o x=>pL x o) []
theorem aad{B:List ep}{k:Nat}(h:k<B.length):Bx B (k+1)=pL B[k] (Bx B k):=by
 unfold Bx;rw[fQ h,sa];rfl
theorem Tf(x:ep):∀l,(pL x l).length≤l.length+1
 | []=>aM _
 |y::r=>by
  unfold pL
  split
  ·split
   ·simp only[fO];omega
   ·simp only[fO];omega
  ·have:=Tf x r
   simp only[fO];omega
theorem LC(B:List ep):∀k,k≤B.length→(Bx B k).length≤k
 | 0,_=>aM _
 |k+1,h=>by
  have h1:=LC B k (by omega)
  rw[aad (by omega)]
  exact fy (Tf _ _) (by omega)
theorem Te(B:List ep):Bx B B.length=fS B:=by unfold Bx;rw[ig];exact acj B
theorem L1{α:Type}(fr σ:List α)(x y:α):(fr++(x::σ)).set fr.length y=fr++(y::σ):=by
 rw[Ki _ _ (aM _),qT];rfl
theorem ad4(l:List (Sh.T l8))(σ:Hp)(hl:l.length≤1000000):ACalls Tryz.prog 180 [.ai l8 l] σ (fun x σ'=>∃acc,Acc 2 l.length x acc (l.flatMap (Sh.cells l8))∧σ'=acc++σ):=by
 refine CH (fun h=>⟨?_,?_⟩) (fun h=>?_)
 ·subst h
  refine aA Tryz.func180 ?_
  exact .done ⟨[],.nil,rfl⟩
 ·subst h
  refine aA Tryz.func180 ?_
  intro b
  refine AppendAt.more 0 b 0 0 [] _ rfl rfl (cT rfl) .gz (by decide) (by decide) (by decide) (fun b'=>?_)
  exact .done ⟨[(b',[])],.ae b' 0 [] rfl,rfl⟩
 ·refine aA Tryz.func180 ?_
  refine aH.mk (mm.2 h) ?_
  intro b
  refine AppendAt.more 0 b 0 l.length [] _ rfl rfl (cT rfl) (.ai l8 l rfl) (by omega) (by decide) (by decide) (fun b'=>?_)
  refine .done ⟨[(b',l.flatMap (Sh.cells l8))],?_,rfl⟩
  rw[dK];exact .ae b' l.length _ (yL (f:=Sh.cells l8) (es:=2) (fun _=>rfl) l)
theorem ad3(l:List (Sh.T l8))(σ:Hp)(hl:l.length≤1000000):ACalls Tryz.prog 180 [.ai l8 l] σ (aE (.ai l8 l) σ):=by
 refine (ad4 l σ hl).fin ?_
 rintro v σ' ⟨acc,cC,rfl⟩
 exact xB (s:=l8) [] cC rfl rfl (by decide) (.done ⟨rfl,rfl⟩)
theorem ad2(l:List (Sh.T (.int .i64)))(σ:Hp)(hl:l.length≤1000000):ACalls Tryz.prog 220 [.ai (.int .i64) l] σ (fun x σ'=>∃acc,Acc 1 l.length x acc (l.flatMap (Sh.cells (.int .i64)))∧σ'=acc++σ):=by
 refine CH (fun h=>⟨?_,?_⟩) (fun h=>?_)
 ·subst h
  refine aA Tryz.func220 ?_
  exact .done ⟨[],.nil,rfl⟩
 ·subst h
  refine aA Tryz.func220 ?_
  intro b
  refine AppendAt.more 0 b 0 0 [] _ rfl rfl (cT rfl) .gz (by decide) (by decide) (by decide) (fun b'=>?_)
  exact .done ⟨[(b',[])],.ae b' 0 [] rfl,rfl⟩
 ·refine aA Tryz.func220 ?_
  refine aH.mk (mm.2 h) ?_
  intro b
  refine AppendAt.more 0 b 0 l.length [] _ rfl rfl (cT rfl) (.ai (.int .i64) l rfl) (by omega) (by decide) (by decide) (fun b'=>?_)
  refine .done ⟨[(b',l.flatMap (Sh.cells (.int .i64)))],?_,rfl⟩
  rw[dK];exact .ae b' l.length _ (yL (f:=Sh.cells (.int .i64)) (es:=1) (fun _=>rfl) l)
theorem ad1(l:List (Sh.T (.int .i64)))(σ:Hp)(hl:l.length≤1000000):ACalls Tryz.prog 220 [.ai (.int .i64) l] σ (aE (.ai (.int .i64) l) σ):=by
 refine (ad2 l σ hl).fin ?_
 rintro v σ' ⟨acc,cC,rfl⟩
 exact xB (s:=(.int .i64)) [] cC rfl rfl (by decide) (.done ⟨rfl,rfl⟩)
theorem ad6(l:List (Sh.T jL))(σ:Hp)(hl:l.length≤1000000):ACalls Tryz.prog 222 [.ai jL l] σ (fun x σ'=>∃acc,Acc 8 l.length x acc (l.flatMap (Sh.cells jL))∧σ'=acc++σ):=by
 refine CH (fun h=>⟨?_,?_⟩) (fun h=>?_)
 ·subst h
  refine aA Tryz.func222 ?_
  exact .done ⟨[],.nil,rfl⟩
 ·subst h
  refine aA Tryz.func222 ?_
  intro b
  refine AppendAt.more 0 b 0 0 [] _ rfl rfl (cT rfl) .gz (by decide) (by decide) (by decide) (fun b'=>?_)
  exact .done ⟨[(b',[])],.ae b' 0 [] rfl,rfl⟩
 ·refine aA Tryz.func222 ?_
  refine aH.mk (mm.2 h) ?_
  intro b
  refine AppendAt.more 0 b 0 l.length [] _ rfl rfl (cT rfl) (.ai jL l rfl) (by omega) (by decide) (by decide) (fun b'=>?_)
  refine .done ⟨[(b',l.flatMap (Sh.cells jL))],?_,rfl⟩
  rw[dK];exact .ae b' l.length _ (yL (f:=Sh.cells jL) (es:=8) (fun _=>rfl) l)
theorem ad5(l:List (Sh.T jL))(σ:Hp)(hl:l.length≤1000000):ACalls Tryz.prog 222 [.ai jL l] σ (aE (.ai jL l) σ):=by
 refine (ad6 l σ hl).fin ?_
 rintro v σ' ⟨acc,cC,rfl⟩
 exact xB (s:=jL) [] cC rfl rfl (by decide) (.done ⟨rfl,rfl⟩)
theorem aez(l:List Int)(σ:Hp)(hl:l.length≤1000000):ACalls Tryz.prog 221 [.ai (.int .u64) l] σ (fun x σ'=>∃b,x=.ae b 0 l.length 1∧σ'=(b,bB l)::σ):=by
 refine aA Tryz.func221 ?_
 have hn:(l.length:Int)≤1048576:=by omega
 refine aH.mk ⟨FP _,lf _,hn,by decide⟩ ?_
 intro aG
 have hr:(cz [.int .u64 0] ((l.length:Int)).toNat).length=l.length:=by rw[bU,u0];exact eo _
 refine MY.ae 0 aG 0 l.length l.length _ (l.flatMap (Sh.cells (.int .u64))) rfl rfl (by show 0+l.length*1≤(cz [.int .u64 0] ((l.length:Int)).toNat).length;rw[hr];omega) (.ai (.int .u64) l rfl) (aM _) ?_
 have he:e8 (cz [.int .u64 0] ((l.length:Int)).toNat) 0 (l.flatMap (Sh.cells (.int .u64)))=bB l:=by
  rw[← rb]
  have h:=Gn (bB l) [] (cz [.int .u64 0] ((l.length:Int)).toNat) [] (by rw[hr];simp[bB])
  simpa using h
 exact .done ⟨aG,rfl,congrArg (fun cs=>(aG,cs)::σ) he⟩
theorem Mq(l:List Int)(σ:Hp)(hl:l.length≤1000000):ACalls Tryz.prog 221 [.ai (.int .u64) l] σ (aE (.ai (.int .u64) l) σ):=by
 refine (aez l σ hl).fin ?_
 rintro v σ' ⟨b,rfl,rfl⟩
 exact .cI 0 b 0 l.length 1 _ (.int .u64) l rfl (by rw[List.drop_zero,← rb];exact List.take_of_length_le (by simp[bB])) ⟨rfl,rfl,by decide⟩ .here (.done ⟨rfl,rfl⟩)
def zj:Option mq→List AV
 |none=>[.aj,.aj,.aj]
 |some t=>[.ai (.int .u64) t.1,.ai (.int .u64) t.2.1,.ai jL t.2.2.1]
theorem Zy(t:Option mq):(zj t).length=3:=by cases t <;> rfl
def uj(T:List mq)(k:Nat):List (Option mq):=(T.take k).map some++List.replicate (T.length-k) none
theorem aap(T:List mq):(uj T 0).flatMap zj=cz [.aj,.aj,.aj] T.length:=by
 show (List.replicate (T.length-0) none).flatMap zj=_
 rw[Nat.sub_zero]
 generalize T.length=n
 induction n with
 |zero=>rfl
 |succ n ih=>rw[Pr,yA,ih];rfl
theorem acp{T:List mq}{k:Nat}(h:k≤T.length):(uj T k).length=T.length:=by unfold uj;simp;omega
theorem aco{T:List mq}{k:Nat}(h:k<T.length):(uj T k).set k (some T[k])=uj T (k+1):=by
 unfold uj
 rw[List.set_append_right _ _ (by simp;omega)]
 have e:T.length-k=(T.length-(k+1))+1:=by omega
 have e2:k-((T.take k).map some).length=0:=by simp;omega
 rw[e2,e,Pr,fQ h]
 simp only[cM,oV,List.map_nil,dN,Cc,yy,List.set_cons_zero]
theorem acq(T:List mq):(uj T T.length).flatMap zj=T.flatMap (Sh.cells lX):=by
 unfold uj
 rw[qT,ig,List.replicate_zero,mX,List.flatMap_map]
 rfl
theorem aaR(s:Sy)(σ:Hp)(hf:Fit s):ACalls Tryz.prog 162 [.agg (cd s)] σ (aE (.agg (cd s)) σ):=by
 refine aA Tryz.func162 ?_
 intro aG
 intro eV
 refine .sched [2,5,8] (upto [2,5,8] 15 0) (by kernel_rfl) ?_
 refine aa 1 ?_
 refine aI [] (ad3 s.aL _ (fy hf.x5 (by decide))) ?_
 refine aa 1 ?_
 refine aI [] (ad1 s.entry _ (fy hf.Ek (by decide))) ?_
 refine aa 1 ?_
 refine aI [] (Mq s.init _ (fy hf.IA (by decide))) ?_
 refine an 1 ?_
 refine an 1 ?_
 refine an 1 ?_
 refine aa 1 ?_
 have hT:=hf.Ny
 have Fl:(s.T.length:Int)≤1048576:=by omega
 refine aH.mk ⟨FP _,lf _,Fl,by decide⟩ ?_
 intro bt
 have Jy:(bt,cz [AV.aj,AV.aj,AV.aj] ((s.T.length:Int)).toNat)=(bt,(uj s.T 0).flatMap zj):=by rw[aap,bU]
 refine aa 2 ?_
 refine cj (S:=Nat) (fun k=>[(1,.ptr aG 0),(2,.ptr eV 0),(3,.ae bt 0 s.T.length 3),(23,.ai lX s.T),(24,.int .i64 s.T.length),(25,.int .i64 k)]) (fun k=>(bt,(uj s.T k).flatMap zj)::(eV,[.int .i64 0,.int .i64 0,.int .i64 0,.aj,.aj,.aj,.aj])::(aG,cd s)::σ) (fun k=>k≤s.T.length) (fun k=>s.T.length-k) 0 ⟨bK _,⟨rfl,rfl,rfl,rfl,rfl,rfl,trivial⟩,congrArg (· :: (eV,([.int .i64 0,.int .i64 0,.int .i64 0,.aj,.aj,.aj,.aj]:List AV))::(aG,cd s)::σ) Jy⟩ ?_
 rintro k g bD
 have hk:k≤s.T.length:=bD
 clear bD
 refine aq (fun ab=>?_) (fun ay=>?_)
 ·have ab:k<s.T.length:=by have ab:(k:Int)<s.T.length:=ab;omega
  have j7:=aco ab
  have qL:=hf.ts _ (cD ab)
  obtain⟨t,ht⟩:∃t:mq,s.T[k]=t:=⟨_,rfl⟩
  rw[ht]at j7 qL
  obtain⟨t1,t2,t3,tu⟩:=t
  obtain⟨_,_,l1,l2,l3⟩:=qL
  have l1:t1.length≤10000:=l1
  have l2:t2.length≤10000:=l2
  have l3:t3.length≤100000:=l3
  refine aH.mk rfl (cg.mk (t1,t2,t3,tu) (by omega) ((get_some ab).trans (congrArg some ht)) ?_)
  intro aG
  refine an 0 ?_
  refine .sched [4,7,10] (upto [4,7,10] 14 0) (by kernel_rfl) ?_
  refine aa 0 ?_
  refine aI [] (Mq t1 _ (fy l1 (by decide))) ?_
  refine aa 0 ?_
  refine aI [] (Mq t2 _ (fy l2 (by decide))) ?_
  refine aa 0 ?_
  refine aI [] (ad5 t3 _ (fy l3 (by decide))) ?_
  refine aK ?_
  refine cU 1 rfl ((Rp rfl Zy (by rw[acp hk];exact ab) (some (t1,t2,t3,tu)) rfl).trans (congrArg (fun l=>some (List.flatMap zj l)) j7)) ?_
  exact aZ (k+1) (by show s.T.length-(k+1)<s.T.length-k;omega) ab ⟨rfl,rfl,rfl,rfl,rfl,bu (by omega),trivial⟩ (.drop 0 1 (.refl _))
 ·have ay:k=s.T.length:=by have ay:¬(k:Int)<s.T.length:=ay;omega
  subst ay
  rw[acq]
  refine an 2 ?_
  refine aa 2 ?_
  refine an 1 ?_
  refine aa 1 ?_
  refine .cI 0 bt 0 s.T.length 3 _ lX s.T rfl ?_ ⟨rfl,rfl,by decide⟩ (Mk (eH (.refl _) (eH (.refl _) (eH (.refl _) (eH (.refl _) (eH (.refl _) (eH (.refl _) (eH .here Ds))))))) rfl) (.drop 0 2 (.done ⟨rfl,rfl⟩))
  rw[iB]
  exact eZ (z7 (yL (f:=Sh.cells lX) (es:=3) (fun _=>rfl) s.T))
theorem UK{F:Nat→Prop}{w:World}{σ:Hp}(h:aX F w σ){i b' k:Nat}{cs':List AV}{c c':AV}(hl:c'.leaf=true)(ey:c.leaf=true)(hc:∀v,ax F w c v→ax F w c' v)(hi:σ[i]?=some (b',cs'))(hk:cs'[k]?=some c):aX F w (σ.set i (b',cs'.set k c')):=by
 refine⟨?_,fun p hp=>?_,h.low⟩
 ·have e1:(σ.set i (b',cs'.set k c')).map Prod.fst=σ.map Prod.fst:=by
   rw[nS]
   refine List.ext_getElem (by simp) fun j h1 h2=>?_
   rw[JV]
   split
   ·rename_i hj;subst hj
    obtain⟨q1,q2⟩:=bQ.1 hi
    rw[JU,q2]
   ·rfl
  rw[e1];exact h.nodup
 ·rcases qb hp with hp | rfl
  ·exact h.holds p hp
  ·obtain⟨h1,c0,T,h2,h3,h4⟩:=(h.holds _ (bH hi)).M9 hk ey
   refine⟨h1,.inl ⟨c0,T,h2,by rw[ck];exact h3,fun j x hx=>?_⟩⟩
   rw[dY]at hx
   split at hx
   ·rename_i hj;subst hj
    split at hx
    ·cases hx
     exact⟨hl,hc _ (h4 k _ hk).2⟩
    ·cases hx
   ·exact h4 j x hx
abbrev jR:=AV×Hp×List Int
def zk(r:jR):Prop:=(r.1=.aj∧r.2.1=[]∧r.2.2=[])∨(∃v,r.1=.via v∧Acc 1 r.2.2.length v r.2.1 (ak r.2.2))
def jZ(rs:List jR):List AV:=rs.map (·.1)
def lC(rs:List jR):Hp:=rs.flatMap (·.2.1)
def kQ(rs:List jR):List (List Int):=rs.map (·.2.2)
theorem L5:∀(A:List (List Int)) (l:List Int) (B:List AV),(cq A++.ai (.int .i64) l::B)=cq (A++[l])++B
 | [],_,_=>rfl
 |a::A,l,B=>congrArg (AV.ai (.int .i64) a :: ·) (L5 A l B)
theorem adI(A:List (List Int)):(cq A).length=A.length:=cb _
theorem L2{w:World}{bo:Nat}{σ:Hp}:∀(B:List jR) (A:List (List Int)) (F:Nat→Prop),(∀r∈B,zk r)→aX F w ((bo,cq A++jZ B)::(lC B++σ))→∃F',bh F w F' w∧aX F' w ((bo,cq (A++kQ B))::σ)
 | [],A,F,_,h=>⟨F,⟨rfl,rfl,rfl,aM _,fun _ h=>h,fun _ _=>rfl,fun _ c _ fz h=>⟨c,fz,h,rfl⟩,aM _⟩,by
  have h:aX F w ((bo,cq A++[])::σ):=h
  rw[mX]at h
  rw[show A++kQ []=A from mX _]
  exact h⟩
 |(c,acc,l)::B,A,F,hB,h=>by
  have hB':∀r∈B,zk r:=fun r hr=>hB r (cE _ hr)
  have h:aX F w ((bo,cq A++c::jZ B)::(acc++lC B++σ)):=h
  have hk:(cq A++c::jZ B)[(cq A).length]?=some c:=by simp
  have rJ:acc=[]→l=[]→c.leaf=true→(∀v,ax F w c v→ax F w (.ai (.int .i64) []) v)→∃F',bh F w F' w∧aX F' w ((bo,cq (A++kQ ((c,acc,l)::B)))::σ):=fun h1 h2 ey h3=>by
   subst h1;subst h2
   have this:aX F w ((bo,(cq A++c::jZ B).set (cq A).length (.ai (.int .i64) []))::(lC B++σ)):=UK h (c':=.ai (.int .i64) []) rfl ey h3 (i:=0) rfl hk
   rw[L1]at this
   have this:aX F w ((bo,cq A++.ai (.int .i64) []::jZ B)::(lC B++σ)):=this
   have this:aX F w ((bo,cq (A++[[]])++jZ B)::(lC B++σ)):=(L5 A [] (jZ B))▸this
   obtain⟨F',q1,q2⟩:=L2 B (A++[[]]) F hB' this
   rw[dN]at q2
   exact⟨F',q1,q2⟩
  have fY:∀v,ax F w .aj v→ax F w (.ai (.int .i64) []) v:=fun v hv=>by
   cases hv
   exact .ai (.int .i64) [] _ ⟨none,0,rfl,aM _,by unfold maxLen;omega,fun _=>rfl,fun aO=>absurd rfl aO⟩
  rcases hB _ (bV ..) with ⟨h1,h2,h3⟩ | ⟨v,h1,h2⟩
  ·have h1:c=.aj:=h1
   exact rJ h2 h3 (by rw[h1];rfl) (by rw[h1];exact fY)
  ·have h1:c=.via v:=h1
   subst h1
   have h2:Acc 1 l.length v acc (ak l):=h2
   generalize hn:l.length=n at h2
   generalize hc:ak l=cs at h2
   cases h2 with
   |nil=>
    exact rJ rfl (iS.1 hn) rfl (by
     intro v hv
     cases hv with
     |via _ _ _ hv=>exact fY _ hv)
   |ae b k cs hl=>
    subst hn
    subst hc
    have h5:aX F w ((bo,(cq A++.via (.ae b 0 l.length 1)::jZ B).set (cq A).length (.ae b 0 l.length 1))::(b,ak l)::(lC B++σ)):=UK h (c':=.ae b 0 l.length 1) rfl rfl (by
     intro v hv
     cases hv with
     |via _ _ _ hv=>exact hv) (i:=0) rfl hk
    rw[L1]at h5
    have h5:aX F w ((bo,cq A++.ae b 0 l.length 1::jZ B)::(b,ak l)::(lC B++σ)):=h5
    obtain⟨ao,aC,hh⟩:=xH h5 (j:=1) (b:=b) (off:=0) (len:=l.length) (es:=1) (cs:=ak l) (e:=.int .i64) (l:=l) rfl (by rw[iB,← xn];exact eZ (by rw[Mg];omega)) ⟨rfl,rfl,by decide⟩
    have h6:aX _ w ((bo,(cq A++.ae b 0 l.length 1::jZ B).set (cq A).length (.ai (.int .i64) l))::(lC B++σ)):=G9 aC hh (i:=0) (k:=(cq A).length) (b':=bo) rfl (by simp)
    rw[L1]at h6
    have h6:aX _ w ((bo,cq A++.ai (.int .i64) l::jZ B)::(lC B++σ)):=h6
    rw[L5]at h6
    obtain⟨F',q1,q2⟩:=L2 B (A++[l]) _ hB' h6
    rw[dN]at q2
    exact⟨F',ao.trans q1,q2⟩
theorem Ys{f:FuncId}{xs:List AV}{σ0 σ:Hp}{Q:List (List Int)→Prop}(h:ACalls Tryz.prog f xs σ0 (fun r σ'=>∃bo rs,r=.ae bo 0 (rs:List jR).length 1∧σ'=(bo,jZ rs)::(lC rs++σ)∧(∀r∈rs,zk r)∧Q (kQ rs))):ACalls Tryz.prog f xs σ0 (fun r σ'=>∃ls:List (List Int),r=.ai (.slice (.int .i64)) ls∧σ'=σ∧Q ls):=
 ⟨h.1,fun F w vs bX aC=>(h.2 F w vs bX aC).mono fun _ w' ⟨r,v,σ',F',h1,h2,h3,h4,h5⟩=>by
  obtain⟨bo,rs,rfl,rfl,q1,q2⟩:=h5
  obtain⟨F2,k1,k2⟩:=L2 rs [] F' q1 h3
  have hl:(kQ rs).length=rs.length:=cb _
  have k2:aX F2 w' ((bo,cq (kQ rs))::σ):=k2
  obtain⟨m1,m2,m3⟩:=xH k2 (j:=0) (b:=bo) (off:=0) (len:=rs.length) (es:=1) (cs:=cq (kQ rs)) (e:=.slice (.int .i64)) (l:=kQ rs) rfl (by rw[iB,← xj];exact eZ (by rw[adI,hl];omega)) ⟨hl,rfl,by decide⟩
  exact⟨.ai (.slice (.int .i64)) (kQ rs),v,σ,_,h1,(h2.trans k1).trans m1,m2,m3 v (h4.mono k1),kQ rs,rfl,rfl,q2⟩⟩
theorem ZL(rs:List jR):(jZ rs).length=rs.length:=cb _
theorem abm(A:List jR)(r:jR)(B:List jR){z:Int}(hz:z=A.length):(jZ (A++r::B))[0+z.toNat*1]?=some r.1:=by
 subst hz
 rw[bU,eo,dK]
 unfold jZ
 rw[eU]
 simp
theorem ZK(A:List jR)(r r2:jR)(B:List jR){z:Int}(hz:z=A.length):(jZ (A++r::B)).set (0+z.toNat*1) r2.1=jZ (A++r2::B):=by
 subst hz
 rw[bU,eo,dK]
 unfold jZ
 simp
theorem abr(n:Nat):cz [.aj] n=jZ (List.replicate n (.aj,[],[])):=by
 induction n with
 |zero=>rfl
 |succ n ih=>show AV.aj::cz [.aj] n=_;rw[ih];rfl
theorem ZM(n:Nat):lC (List.replicate n (.aj,[],[]))=[]:=by
 induction n with
 |zero=>rfl
 |succ n ih=>exact ih
theorem K0(A:List jR)(r:jR)(B:List jR)(σ:Hp):lC (A++r::B)++σ=lC A++(r.2.1++(lC B++σ)):=by
 unfold lC
 simp
def xI(s:Sy):Int:=if dH s=0 then IntKind.i64.wrap (s.n+IntKind.i64.wrap (((fS s.aL).length:Int)*dZ s.what s.w)) else 0
theorem aei{s:Sy}(h:dH s=0):IntKind.i64.wrap (s.n+IntKind.i64.wrap (((fS s.aL).length:Int)*dZ s.what s.w))=xI s:=(ag h).symm
theorem aeh{s:Sy}(h:¬dH s=0):0=xI s:=(ah h).symm
theorem Zl(s:Sy)(σ:Hp)(hf:Fit s):ACalls Tryz.prog 138 [.agg (cd s)] σ (aE (.int .i64 (xI s)) σ):=by
 refine aA Tryz.func138 ?_
 intro aG
 refine aa 0 ?_
 refine aB [] (GX s _ hf) ?_
 refine eG (fun c2=>?_) (fun c2=>?_)
 ·have c2:¬(dH s=0):=by simpa using c2
  exact .drop 0 1 (.done ⟨aW (aeh (by assumption)),rfl⟩)
 ·have c2:dH s=0:=by simpa using c2
  refine .quiet (by kernel_rfl) ?_
  refine aa 0 ?_
  refine aa 0 ?_
  refine aI [] (Qm s.aL _ (by have:=hf.x5;omega)) ?_
  refine aa 0 ?_
  refine aa 0 ?_
  refine aI [] (LP _ _ _) ?_
  exact .drop 0 1 (.done ⟨aW (aei (by assumption)),rfl⟩)
theorem af6(s:Sy)(σ:Hp)(hf:Fit s):ACalls Tryz.prog 132 [.agg (cd s)] σ (aE (.int .i64 (xI s)) σ):=by
 refine aA Tryz.func132 ?_
 intro aG
 refine aa 0 ?_
 refine aB [] (Zl s _ hf) ?_
 exact .drop 0 1 (.done ⟨rfl,rfl⟩)
def Br(l:List Int):Int:=l.foldl (fun a x=>IntKind.i64.wrap (a+x)) 0
theorem aha(o:Nat)(x n:Int)(σ:Hp):ACalls Tryz.prog 187 [.int .i64 n,.ptr o 0] ((o,[.int .i64 x])::σ) (aE (.tup []) ((o,[.int .i64 (IntKind.i64.wrap (x+n))])::σ)):=by
 refine aA Tryz.func187 ?_
 refine aa 0 ?_
 refine an 0 ?_
 exact .done ⟨rfl,rfl⟩
theorem ZA{l:List Int}{k:Nat}(h:k<l.length):Br (l.take (k+1))=IntKind.i64.wrap (Br (l.take k)+l[k]):=by
 unfold Br;rw[fQ h,sa];rfl
theorem ac6{l:List Int}{k:Nat}(h:k<l.length):dP ⟨.int .i64,1,8,[.int .i64 0]⟩ (ak l) (0+((k:Int)).toNat*1)=some (.int .i64 l[k]):=by
 show (ak l)[_]?=_
 unfold ak
 rw[bU,eo,dK,eU,bc h];rfl
theorem ail(b:Nat)(l:List Int)(σ:Hp)(hl:l.length≤1000):ACalls Tryz.prog 134 [.ae b 0 l.length 1] ((b,ak l)::σ) (aE (.int .i64 (Br l)) ((b,ak l)::σ)):=by
 refine aA Tryz.func134 ?_
 intro aG
 refine an 0 ?_
 refine cj (S:=Nat) (fun k=>[(3,.ptr aG 0),(4,.fn (.func 187) [] [.ptr aG 0]),(8,.ae b 0 l.length 1),(9,.int .i64 l.length),(10,.int .i64 k)]) (fun k=>(aG,[.int .i64 (Br (l.take k))])::(b,ak l)::σ) (fun k=>k≤l.length) (fun k=>l.length-k) 0 ⟨bK _,⟨rfl,rfl,rfl,rfl,rfl,trivial⟩,rfl⟩ ?_
 rintro k g hk
 have hk:k≤l.length:=hk
 refine aq (fun ab=>?_) (fun ay=>?_)
 ·have ab:k<l.length:=by have ab:(k:Int)<l.length:=ab;omega
  refine aH.mk ⟨rfl,(show (0:Int)≤(k:Int) by omega),(show (k:Int)<(l.length:Int) by omega)⟩ ?_
  refine eO.mk 1 _ (.int .i64 l[k]) rfl (ac6 ab) ?_
  refine aB [] (aha aG _ _ _) ?_
  refine aZ (k+1) (by show l.length-(k+1)<l.length-k;omega) (show k+1≤l.length by omega) ⟨rfl,rfl,rfl,rfl,bu (by omega),trivial⟩ (aJ ?_)
  rw[ZA ab]
 ·have ay:k=l.length:=by have ay:¬(k:Int)<l.length:=ay;omega
  subst ay
  rw[ig]
  refine aa 0 ?_
  exact .drop 0 1 (.done ⟨rfl,rfl⟩)
def wM(s:Sy):Int:=if ft s.what s.w<1 then 1 else ft s.what s.w
def w1(s:Sy):Int:=IntKind.i64.wrap (xI s*IntKind.i64.wrap (wM s+2))
def w2(s:Sy)(k:Int):Int:=IntKind.i64.wrap (6*IntKind.i64.wrap (IntKind.i64.wrap (2*xI s)+k))
def w3(s:Sy):Int:=IntKind.i64.wrap (IntKind.i64.wrap (IntKind.i64.wrap (1+dZ s.what s.w)*((fS s.aL).length:Int))*wM s)
def w4(s:Sy)(k:Int):Int:=IntKind.i64.wrap (IntKind.i64.wrap (s.n*dZ s.what s.w)*IntKind.i64.wrap (IntKind.i64.wrap (2*k)+5))
def zh(s:Sy)(k:Int):Int:=Br [w1 s,w2 s k,w3 s,w4 s k]
def cx(s:Sy)(k:Int):Int:=if dH s=0 then (if 1≤k∧k≤64 then 0 else 1) else dH s
theorem Wu{s:Sy}{k:Int}(h:¬dH s=0):dH s=cx s k:=(ah h).symm
theorem Wt{s:Sy}{k:Int}(h:dH s=0)(hk:¬(1≤k∧k≤64)):1=cx s k:=by unfold cx;rw[ag h,ah hk]
theorem Ws{s:Sy}{k:Int}(h:dH s=0)(hk:1≤k∧k≤64):0=cx s k:=by unfold cx;rw[ag h,ag hk]
def kX(e n:Int):Int:=if e=0 then n else 0
theorem afy{s:Sy}{k n:Int}(h:¬dH s=0):AV.tup [.int .i64 0,.int .i64 (dH s)]=.tup [.int .i64 (kX (cx s k) n),.int .i64 (cx s k)]:=by rw[← Wu h,kX,ah h]
theorem Vf{s:Sy}{k n:Int}(h:dH s=0)(hk:¬(1≤k∧k≤64)):AV.tup [.int .i64 0,.int .i64 1]=.tup [.int .i64 (kX (cx s k) n),.int .i64 (cx s k)]:=by rw[← Wt h hk];rfl
theorem agA{s:Sy}{k n:Int}(h:dH s=0)(hk:1≤k∧k≤64):AV.tup [.int .i64 n,.int .i64 0]=.tup [.int .i64 (kX (cx s k) n),.int .i64 (cx s k)]:=by rw[← Ws h hk];rfl
theorem agp(s:Sy)(k:Int)(σ:Hp)(hf:Fit s):ACalls Tryz.prog 73 [.agg (cd s),.int .i64 k] σ (aE (.tup [.int .i64 (kX (cx s k) (zh s k)),.int .i64 (cx s k)]) σ):=by
 refine aA Tryz.func73 ?_
 intro aG
 refine aa 0 ?_
 refine aB [] (GX s _ hf) ?_
 refine eG (fun c2=>?_) (fun c2=>?_)
 ·have c2:¬(dH s=0):=by simpa using c2
  exact .drop 0 1 (.done ⟨afy (by assumption),rfl⟩)
 ·have c2:dH s=0:=by simpa using c2
  refine aq (fun c3=>?_) (fun c3=>?_)
  ·have c3:k<1:=c3
   exact .drop 0 1 (.done ⟨Vf (by assumption) (by omega),rfl⟩)
  ·have c3:¬(k<1):=c3
   refine aq (fun c4=>?_) (fun c4=>?_)
   ·have c4:64<k:=c4
    exact .drop 0 1 (.done ⟨Vf (by assumption) (by omega),rfl⟩)
   ·have c4:¬(64<k):=c4
    refine .quiet (by kernel_rfl) ?_
    refine aa 0 ?_
    refine aa 0 ?_
    refine aI [] (LP _ _ _) ?_
    refine aa 0 ?_
    refine aa 0 ?_
    refine aI [] (Dz _ _ _) ?_
    refine aa 0 ?_
    refine aI [] (af6 s _ hf) ?_
    refine aa 0 ?_
    refine aB [] (Qm s.aL _ (by have:=hf.x5;omega)) ?_
    refine aa 0 ?_
    intro yD
    refine aB [] (ail yD [w1 s,w2 s k,w3 s,w4 s k] _ (by decide:4≤1000)) ?_
    exact .drop 0 2 (.done ⟨agA (by assumption) (by omega),rfl⟩)
def om(s:Sy)(w k:Int):Int:=if cx s w=0 then (if 1≤k∧k≤4096 then IntKind.i64.wrap (k*IntKind.i64.wrap (zh s w+12)) else 0) else 0
def qn(s:Sy)(w k:Int):Int:=if cx s w=0 then (if 1≤k∧k≤4096 then 0 else 1) else cx s w
theorem afr{s:Sy}{w k:Int}(h:¬cx s w=0):AV.tup [.int .i64 0,.int .i64 (cx s w)]=.tup [.int .i64 (om s w k),.int .i64 (qn s w k)]:=by unfold om qn;rw[ah h,ah h]
theorem Vb{s:Sy}{w k:Int}(h:cx s w=0)(hk:¬(1≤k∧k≤4096)):AV.tup [.int .i64 0,.int .i64 1]=.tup [.int .i64 (om s w k),.int .i64 (qn s w k)]:=by unfold om qn;rw[ag h,ag h,ah hk,ah hk]
theorem agz{s:Sy}{w k:Int}(h:cx s w=0)(hk:1≤k∧k≤4096):AV.tup [.int .i64 (IntKind.i64.wrap (k*IntKind.i64.wrap (kX (cx s w) (zh s w)+12))),.int .i64 0]=.tup [.int .i64 (om s w k),.int .i64 (qn s w k)]:=by unfold om qn kX;rw[ag h,ag h,ag h,ag hk,ag hk]
theorem HZ(s:Sy)(w k:Int)(σ:Hp)(hf:Fit s):ACalls Tryz.prog 30 [.agg (cd s),.int .i64 w,.int .i64 k] σ (aE (.tup [.int .i64 (om s w k),.int .i64 (qn s w k)]) σ):=by
 refine aA Tryz.func30 ?_
 intro aG
 refine aa 0 ?_
 refine aB [] (agp s w _ hf) ?_
 refine eG (fun c2=>?_) (fun c2=>?_)
 ·have c2:¬(cx s w=0):=by simpa using c2
  exact .drop 0 1 (.done ⟨afr (by assumption),rfl⟩)
 ·have c2:cx s w=0:=by simpa using c2
  refine aq (fun c3=>?_) (fun c3=>?_)
  ·have c3:k<1:=c3
   exact .drop 0 1 (.done ⟨Vb (by assumption) (by omega),rfl⟩)
  ·have c3:¬(k<1):=c3
   refine aq (fun c4=>?_) (fun c4=>?_)
   ·have c4:4096<k:=c4
    exact .drop 0 1 (.done ⟨Vb (by assumption) (by omega),rfl⟩)
   ·have c4:¬(4096<k):=c4
    exact .drop 0 1 (.done ⟨agz (by assumption) (by omega),rfl⟩)
def Bw(s:Sy)(k:Int):List AV:=[.int .i64 (kX (cx s k) s.what),.int .i64 (kX (cx s k) (ft s.what s.w)),.int .i64 (kX (cx s k) s.n),.int .i64 (kX (cx s k) k)]
theorem abS{s:Sy}{k:Int}(h:¬dH s=0):AV.tup [.agg [.int .i64 0,.int .i64 0,.int .i64 0,.int .i64 0],.int .i64 (dH s)]=.tup [.agg (Bw s k),.int .i64 (cx s k)]:=by unfold Bw kX;rw[← Wu h];simp only[ah h]
theorem SQ{s:Sy}{k:Int}(h:dH s=0)(hk:¬(1≤k∧k≤64)):AV.tup [.agg [.int .i64 0,.int .i64 0,.int .i64 0,.int .i64 0],.int .i64 1]=.tup [.agg (Bw s k),.int .i64 (cx s k)]:=by unfold Bw kX;rw[← Wt h hk];rfl
theorem adY{s:Sy}{k:Int}(h:dH s=0)(hk:1≤k∧k≤64):AV.tup [.agg [.int .i64 s.what,.int .i64 (ft s.what s.w),.int .i64 s.n,.int .i64 k],.int .i64 0]=.tup [.agg (Bw s k),.int .i64 (cx s k)]:=by unfold Bw kX;rw[← Ws h hk];rfl
end Go.Proofs.YtnikdflhefijbaaGreat
