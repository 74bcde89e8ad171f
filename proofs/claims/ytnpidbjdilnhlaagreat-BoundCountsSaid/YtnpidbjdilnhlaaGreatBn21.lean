import Derived.Shelf.GgSortFunc.RowK
import Derived.Sort.Grow
import Derived.Test.YtnpidbjdilnhlaaGreatBn11
namespace Go.Proofs.YtnpidbjdilnhlaaGreat
open Go.RowKit
theorem YM{F':Nat→Prop}{w w':World}(h:aQ (fun b=>b<w.heap.size) w F' w'):∃q os,w'=Go.Sort.grow (w.drewN q) os:=by
 obtain⟨h1,h2,h3,h4,_,h6,_,h8⟩:=h
 have hh:w'.heap=w.heap++w'.heap.extract w.heap.size w'.heap.size:=by
  apply Array.ext
  ·simp only[Array.size_append,Array.size_extract];omega
  ·intro i hi yK
   by_cases ab:i<w.heap.size
   ·have e:=h6 i ab
    rw[Array.getElem?_eq_getElem hi,Array.getElem?_eq_getElem ab]at e
    rw[Array.getElem_append_left ab]
    exact Option.some.inj e
   ·rw[Array.getElem_append_right (by omega),Array.getElem_extract]
    congr 1;omega
 refine⟨w'.drawn-w.drawn,w'.heap.extract w.heap.size w'.heap.size,?_⟩
 have hd:w.drawn+(w'.drawn-w.drawn)=w'.drawn:=by omega
 unfold Go.Sort.grow World.drewN
 cases w' with
 | mk heap tape drawn os output =>
  simp only at h1 h2 h3 hh hd ⊢
  rw[h1,h2,h3,← hh,hd]
theorem LM{f:FuncId}{xs:List AV}{k:IntKind}{z:Int}(h:∀σ,ACalls Tryz.prog f xs σ (az (.int k z) σ)){w:World}{vs:Array Value}(hv:gz (fun b=>b<w.heap.size) w xs vs):Calls Tryz.prog f vs w fun e w'=>e=.returned (.int k z)∧∃q os,w'=Go.Sort.grow (w.drewN q) os:=by
 refine ((h []).2 (fun b=>b<w.heap.size) w vs hv ⟨List.nodup_nil,fun p hp=>absurd hp List.not_mem_nil,fun b hb=>hb⟩).mono ?_
 rintro e w' ⟨r,v,σ',F',rfl,ak,_,hr,rfl,_⟩
 refine⟨?_,YM ak⟩
 rw[hr.fk]
set_option maxRecDepth 100000
def uq(a b:Int):Int:=if a<b then -1 else if b<a then 1 else 0
theorem PS(a:Int)(σ:Hp):ACalls Tryz.prog 232 [.int .i64 a] σ (az (.bool false) σ):=by
 refine okF Tryz.func232 (by kernel_rfl) ?_
 refine dx (fun h=>absurd h (by simp)) (fun _ =>?_)
 exact .done ⟨rfl,rfl⟩
theorem Rb(a b:Int)(σ:Hp):ACalls Tryz.prog 192 [.int .i64 a,.int .i64 b] σ (az (.int .i64 (uq a b)) σ):=by
 refine okF Tryz.func192 (by kernel_rfl) ?_
 refine ax [] (PS a _) ?_
 refine ax [] (PS b _) ?_
 refine ao (p:=a<b) (fun c1 =>?_) (fun c1 =>?_)
 ·exact .done ⟨aN (if_pos c1).symm,rfl⟩
 refine ao (p:=b<a) (fun c2 =>?_) (fun c2 =>?_)
 ·exact .done ⟨aN (by unfold uq;rw[if_neg c1,if_pos c2]),rfl⟩
 ·exact .done ⟨aN (by unfold uq;rw[if_neg c1,if_neg c2]),rfl⟩
def yy(x y:Int):Int:=if x=0 then y else x
theorem acG(b:Nat)(x y:Int)(σ:Hp):ACalls Tryz.prog 191 [.ae b 0 2 1] ((b,[.int .i64 x,.int .i64 y])::σ) (az (.int .i64 (yy x y)) ((b,[.int .i64 x,.int .i64 y])::σ)):=by
 refine okF Tryz.func191 (by kernel_rfl) ?_
 refine bO (S:=Nat×Int) (fun s=>[(3,.int .i64 s.2),(6,.ae b 0 2 1),(7,.int .i64 2),(8,.int .i64 s.1)]) (fun _=>(b,[.int .i64 x,.int .i64 y])::σ) (fun s=>s.2=0∧s.1≤2∧(0<s.1→x=0)∧(1<s.1→y=0)) (fun s=>2-s.1) (0,0) ⟨⟨rfl,by omega,fun h=>by omega,fun h=>by omega⟩,⟨rfl,rfl,rfl,rfl,trivial⟩,rfl⟩ ?_
 rintro⟨k,z⟩ g ⟨gp,aZ,yD,hy0⟩
 have hz:z=0:=gp
 have hk:k≤2:=aZ
 have hx:0<k→x=0:=yD
 have hy:1<k→y=0:=hy0
 clear gp aZ yD hy0
 match k,hk,hx,hy with
 | 0,_,_,_ =>
  refine ag.mk ⟨rfl,by omega,by omega⟩ ?_
  refine aa 0 ?_
  refine dx (fun c1 =>?_) (fun c1 =>?_)
  ·have c1:(!decide (x=z))=true:=c1
   have c1:¬x=z:=by simpa using c1
   exact .done ⟨aN (by unfold yy;rw[if_neg (by rw[← hz];exact c1)]),rfl⟩
  ·have c1:(!decide (x=z))=false:=c1
   have c1:x=z:=by simpa using c1
   exact bg (1,z) (by show 2-1<2-0;decide) ⟨hz,(show 1≤2 by decide),fun _=>c1.trans hz,fun h=>absurd h (show ¬1<1 by decide)⟩ ⟨rfl,rfl,rfl,rfl,trivial⟩ (.refl _)
 | 1,_,hx,_ =>
  refine ag.mk ⟨rfl,by omega,by omega⟩ ?_
  refine aa 0 ?_
  refine dx (fun c1 =>?_) (fun c1 =>?_)
  ·exact .done ⟨aN (by unfold yy;rw[if_pos (hx (by decide))]),rfl⟩
  ·have c1:(!decide (y=z))=false:=c1
   have c1:y=z:=by simpa using c1
   exact bg (2,z) (by show 2-2<2-1;decide) ⟨hz,(show 2≤2 by decide),fun _=>hx (by decide),fun _=>c1.trans hz⟩ ⟨rfl,rfl,rfl,rfl,trivial⟩ (.refl _)
 | 2,_,hx,hy =>
  exact .done ⟨aN (by unfold yy;rw[if_pos (hx (by decide)),hy (by decide)];exact hz),rfl⟩
def Je(a b c d:Int):Int:=yy (uq a c) (uq b d)
theorem abz(a b c d:Int)(σ:Hp):ACalls Tryz.prog 190 [.agg [.int .i64 a,.int .i64 b],.agg [.int .i64 c,.int .i64 d]] σ (az (.int .i64 (Je a b c d)) σ):=by
 refine okF Tryz.func190 (by kernel_rfl) ?_
 intro aC
 intro dI
 refine .sched [4,9] (upto [4,9] 13 0) (by kernel_rfl) ?_
 refine aa 1 ?_
 refine aa 0 ?_
 refine aD [] (Rb a c _) ?_
 refine aa 1 ?_
 refine aa 0 ?_
 refine aD [] (Rb b d _) ?_
 intro pB
 refine ax [] (acG pB (uq a c) (uq b d) _) ?_
 exact .drop 0 3 (.done ⟨rfl,rfl⟩)
theorem acM(a b c d:Int)(σ:Hp):ACalls Tryz.prog 194 [.agg [.int .i64 a,.int .i64 b],.agg [.int .i64 c,.int .i64 d]] σ (az (.bool (decide (a=c) && decide (b=d))) σ):=by
 refine okF Tryz.func194 (by kernel_rfl) ?_
 intro aC
 intro dI
 refine aa 1 ?_
 refine aa 0 ?_
 refine .mk (by kernel_rfl) (by kernel_rfl) ?_
 refine dx (fun h =>?_) (fun h =>?_)
 ·have h:eA [decide (a=c),decide (b=d)]=true:=h
  exact .drop 0 2 (.done ⟨cM (by simpa [eA]using h.symm),rfl⟩)
 ·have h:eA [decide (a=c),decide (b=d)]=false:=h
  exact .drop 0 2 (.done ⟨cM (by simpa [eA]using h.symm),rfl⟩)
section
variable {F:Nat→Prop} {w:World} {σ:Hp}
theorem UO(h:aM F w σ)(os:Array Obj):aQ F w F (Go.Sort.grow w os)∧aM F (Go.Sort.grow w os) σ:=by
 have dz:(Go.Sort.grow w os).heap.size=w.heap.size+os.size:=by simp[Go.Sort.grow]
 have au:∀b,b<w.heap.size→(Go.Sort.grow w os).heap[b]?=w.heap[b]?:=fun b hb=>by
  show (w.heap++os)[b]?=_
  rw[Array.getElem?_append_left hb]
 have ak:aQ F w F (Go.Sort.grow w os):=⟨rfl,rfl,rfl,by omega,fun _ h=>h,fun b hb=>au b (h.low b hb),fun b c T fz hc=>⟨c,fz,by
  rw[au b (Array.getElem?_eq_some_iff.1 hc).1];exact hc,rfl⟩,Nat.le_refl _⟩
 exact⟨ak,h.nodup,fun p hp=>(h.holds p hp).mono ak (au _ (h.holds p hp).lt) (h.holds p hp).1,fun b hb=>by have:=h.low b hb;omega⟩
theorem Holds.Nn{F:Nat→Prop}{w:World}{b:Nat}{cs:List AV}(h:Holds F w b cs)(hn:∀x∈cs,x.leaf=true):¬F b∧Ap F w b cs:=by
 obtain⟨hF,h | ⟨x,o,e,_,hx⟩ | ⟨L,t,e,_⟩⟩:=h
 ·exact⟨hF,h⟩
 ·subst e;have:=hn _ (List.mem_cons_self ..);rw[CC hx]at this;cases this
 ·subst e;cases hn _ (List.mem_cons_self ..)
theorem V7{b n:Nat}{cs cs':List AV}{d:Array Value}(h:aM F w ((b,cs)::σ))(BL:∀x∈cs,x.leaf=true)(hl:cs'.length=cs.length)(hd:d.size=cs'.length)(hv:∀(i:Nat) (x:AV),cs'[i]?=some x→x.leaf=true∧ar F w x (d.getD i undef))(os:Array Obj):
  aQ F w F (Go.Sort.grow (Go.Sort.putRow id (Go.Sort.ahead w n) b 0 d) os)∧aM F (Go.Sort.grow (Go.Sort.putRow id (Go.Sort.ahead w n) b 0 d) os) ((b,cs')::σ):=by
 obtain⟨hF,c,T,hc,hle,ny⟩:=(h.holds _ (List.mem_cons_self ..)).Nn BL
 have hle:cs.length≤c.size:=hle
 have hc:w.heap[b]?=some (.cells c T (0,0)):=hc
 have rf:∀k,k<d.size→(Go.Sort.putCells id 0 d c).getD k undef=d.getD k undef:=fun k hk=>by
  have wJ:k<c.size:=by omega
  unfold Go.Sort.putCells
  rw[Array.getD_eq_getD_getElem?,Array.getElem?_mapIdx,Array.getElem?_eq_getElem wJ]
  simp only[Option.map_some,Option.getD_some]
  rw[if_pos ⟨Nat.zero_le _,by omega⟩,Nat.sub_zero,Array.getD_eq_getD_getElem?,Array.getElem?_eq_getElem hk]
  simp[hk]
 have key:=xc (F:=F) (w:=w) (w':=Go.Sort.putRow id (Go.Sort.ahead w n) b 0 d) h (j:=0) (b:=b) (cs:=cs) (cs':=cs') rfl hc (c':=Go.Sort.putCells id 0 d c) (by simp[Go.Sort.putCells]) (by simp[Go.Sort.putCells];omega)
  (fun i x hx=>by
   have h2:i<cs'.length:=(List.getElem?_eq_some_iff.1 hx).1
   rw[rf i (by omega)]
   exact hv i x hx)
  (fun k hk=>by
   show (w.heap.modify b _)[k]?=_
   rw[Array.getElem?_modify,if_neg (fun e=>hk e.symm)])
  (by
   show (w.heap.modify b _)[b]?=_
   rw[Array.getElem?_modify,if_pos rfl,hc];rfl)
  rfl rfl rfl (by simp[Go.Sort.ahead])
 obtain⟨k1,k2⟩:=key
 obtain⟨g1,g2⟩:=UO k2 os
 exact⟨k1.trans g1,g2⟩
theorem aa3{b:Nat}{cs:List AV}{d:Array Value}(h:aM F w ((b,cs)::σ))(BL:∀x∈cs,x.leaf=true)(hd:d.size=cs.length)(hv:∀(i:Nat) (x:AV),cs[i]?=some x→∀v,ar F w x v→v=d.getD i undef):Go.Sort.Holds id w b 0 d∧b<w.heap.size:=by
 obtain⟨hF,c,T,hc,hle,ny⟩:=(h.holds _ (List.mem_cons_self ..)).Nn BL
 have hc:w.heap[b]?=some (.cells c T (0,0)):=hc
 have hle:cs.length≤c.size:=hle
 refine⟨fun j hj =>?_,(Array.getElem?_eq_some_iff.1 hc).1⟩
 have BO:j<cs.length:=by omega
 have hr:=hv j _ (List.getElem?_eq_getElem BO) _ (ny j _ (List.getElem?_eq_getElem BO)).2
 rw[Nat.zero_add]
 constructor
 ·rw[Dr hc,Array.getElem?_eq_getElem (by omega)]
  rw[Array.getD_eq_getD_getElem?,Array.getElem?_eq_getElem (by omega),Array.getD_eq_getD_getElem?,Array.getElem?_eq_getElem hj]at hr
  simp only[Option.getD_some]at hr
  rw[hr]
  simp[hj]
 ·unfold World.frozen?
  simp[hc]
end
def kI(l:List (Int×Int×Unit)):List AV:=l.flatMap fun x=>[.int .i64 x.1,.int .i64 x.2.1]
def lE(x:Int×Int×Unit):List Value:=[.int .i64 x.1,.int .i64 x.2.1]
theorem vd:∀l:List (Int×Int×Unit),(kI l).length=l.length*2
 | []=>rfl
 | x::l=>by
  show (kI l).length+2=(l.length+1)*2
  rw[vd l];omega
theorem Pk(L:List (Int×Int×Unit)):∀x∈kI L,x.leaf=true:=fun x hx=>by
 obtain⟨p,_,h⟩:=List.mem_flatMap.1 hx
 rcases List.mem_cons.1 h with rfl | h
 ·rfl
 ·rw[List.mem_singleton.1 h];rfl
theorem Ot:∀(l:List (Int×Int×Unit)) (i:Nat),(kI l)[i]?=(l[i / 2]?).map fun x=>if i % 2=0 then .int .i64 x.1 else .int .i64 x.2.1
 | [],i=>by simp[kI]
 | x::l,0=>rfl
 | x::l,1=>rfl
 | x::l,i+2=>by
  have h:=Ot l i
  show (kI l)[i]?=_
  rw[h,show (i+2) / 2=i / 2+1 by omega,show (i+2) % 2=i % 2 by omega]
  rfl
theorem Oq(l:List (Int×Int×Unit))(i:Nat)(x:AV)(h:(kI l)[i]?=some x):∃z,x=.int .i64 z∧(Go.Sort.flatK lE 2 l.toArray).getD i undef=.int .i64 z:=by
 rw[Ot]at h
 obtain⟨d,hd,hx⟩:=Option.map_eq_some_iff.1 h
 obtain⟨hi,ou⟩:=List.getElem?_eq_some_iff.1 hd
 have ab:i<l.toArray.size*2:=by simp only[List.size_toArray];omega
 have hg:=Go.Sort.get_flatK lE 2 l.toArray i ab
 have he:(Go.Sort.flatK lE 2 l.toArray).getD i undef=(Go.Sort.flatK lE 2 l.toArray)[i]!:=by
  have hs:i<(Go.Sort.flatK lE 2 l.toArray).size:=by rw[Go.Sort.size_flatK];exact ab
  rw[Array.getD_eq_getD_getElem?,Array.getElem?_eq_getElem hs]
  exact (getElem!_pos _ i hs).symm
 have hl:l.toArray[i / 2]! = d:=by simp[hi,ou]
 rw[he,hg,hl]
 by_cases h0:i % 2=0
 ·rw[if_pos h0]at hx
  rw[h0]
  exact⟨d.1,hx.symm,rfl⟩
 ·rw[if_neg h0]at hx
  have h1:i % 2=1:=by omega
  rw[h1]
  exact⟨d.2.1,hx.symm,rfl⟩
variable {α:Type} {f:α→List AV} {n:Nat}
theorem y6(hf:∀x,(f x).length=n)(l:List α):(l.flatMap f).length=l.length*n:=uX hf l
theorem V0(hf:∀x,(f x).length=n){l:List α}{j:Nat}(h:j<l.length):((l.flatMap f).drop (j*n)).take n=f l[j]:=by
 induction l generalizing j with
 | nil=>simp at h
 | cons x l ih =>
  cases j with
  | zero=>simp[hf]
  | succ j =>
   rw[List.flatMap_cons,List.drop_append,hf,Nat.succ_mul,Nat.add_sub_cancel,List.drop_of_length_le (by rw[hf];omega),List.nil_append]
   simpa using ih (by simpa using h)
theorem GQ{i:TI}(hi:i.wide=true)(hs:i.size=n)(hf:∀x,(f x).length=n){l:List α}{k:Nat}(h:k<l.length){z:Int}(hz:z=k):cY i (l.flatMap f) (0+z.toNat*n)=some (.agg (f l[k])):=by
 subst hz
 have hl:=y6 hf l
 have hm:(k+1)*n≤l.length*n:=Nat.mul_le_mul_right n h
 rw[Nat.add_mul,Nat.one_mul]at hm
 have hb:Nat.ble (0+k*n+n) (l.flatMap f).length=true:=Nat.ble_eq_true_of_le (by rw[hl];omega)
 unfold cY
 rw[hi,hs]
 show (match Nat.ble (0+k*n+n) (l.flatMap f).length with | true=>some (AV.agg (((l.flatMap f).drop (0+k*n)).take n)) | false=>none)=_
 rw[hb]
 show some (AV.agg (((l.flatMap f).drop (0+k*n)).take n))=_
 rw[Nat.zero_add,V0 hf h]
theorem FY:∀(vs A B C:List AV),B.length=vs.length→eF (A++(B++C)) A.length vs=A++(vs++C)
 | [],A,B,C,h=>by
  obtain rfl:=List.length_eq_zero_iff.1 h
  rfl
 | v::vs,A,b::B,C,h=>by
  show eF ((A++(b::(B++C))).set A.length v) (A.length+1) vs=_
  have e:(A++(b::(B++C))).set A.length v=(A++[v])++(B++C):=by
   rw[List.set_append_right _ _ (Nat.le_refl _),Nat.sub_self];simp
  rw[e,show A.length+1=(A++[v]).length by simp,FY vs (A++[v]) B C (by simpa using h)]
  simp
theorem X3(hf:∀x,(f x).length=n){l:List α}{k:Nat}(h:k<l.length)(d:α):eF (l.flatMap f) (k*n) (f d)=(l.set k d).flatMap f:=by
 have e:l=l.take k++([l[k]]++l.drop (k+1)):=by simp
 have e2:l.set k d=l.take k++([d]++l.drop (k+1)):=by
  rw[List.set_eq_take_append_cons_drop,if_pos h];rfl
 have hk:((l.take k).flatMap f).length=k*n:=by rw[y6 hf,List.length_take,Nat.min_eq_left (Nat.le_of_lt h)]
 rw[e2]
 conv=>lhs;rw[e]
 rw[List.flatMap_append,List.flatMap_append,List.flatMap_append,List.flatMap_append,List.flatMap_singleton,List.flatMap_singleton,← hk]
 exact FY _ _ _ _ (by rw[hf,hf])
theorem L5{i:TI}(hs:i.size=n)(hf:∀x,(f x).length=n){l:List α}{k:Nat}(h:k<l.length)(d:α){z:Int}(hz:z=k):jq i (l.flatMap f) (0+z.toNat*n) (.agg (f d))=some ((l.set k d).flatMap f):=by
 subst hz
 have hl:=y6 hf l
 have hm:(k+1)*n≤l.length*n:=Nat.mul_le_mul_right n h
 rw[Nat.add_mul,Nat.one_mul]at hm
 have hb:Nat.ble (0+k*n+n) (l.flatMap f).length=true:=Nat.ble_eq_true_of_le (by rw[hl];omega)
 have hq:Nat.beq (f d).length n=true:=by rw[hf];exact Nat.beq_refl n
 unfold jq
 rw[hs]
 show (match Nat.beq (f d).length n,Nat.ble (0+k*n+n) (l.flatMap f).length with | true,true=>some (eF (l.flatMap f) (0+k*n) (f d)) | _,_=>none)=_
 rw[hb,hq]
 show some (eF (l.flatMap f) (0+k*n) (f d))=_
 rw[Nat.zero_add,X3 hf h]
theorem KT:∀(vs cs:List AV) (off k:Nat),k≤off→(eF cs off vs).take k=cs.take k
 | [],_,_,_,_=>rfl
 | v::vs,cs,off,k,h=>by
  show (eF (cs.set off v) (off+1) vs).take k=_
  rw[KT vs _ _ _ (by omega),List.take_set_of_le h]
theorem VZ(hf:∀x,(f x).length=n)(l:List α){k:Nat}(h:k≤l.length):(l.flatMap f).take (k*n)=(l.take k).flatMap f:=by
 conv=>lhs;rw[← List.take_append_drop k l]
 rw[List.flatMap_append]
 exact List.take_left' (by rw[y6 hf,List.length_take,Nat.min_eq_left h])
abbrev oF(x:Int×Int×Unit):List AV:=[.int .i64 x.1,.int .i64 x.2.1]
theorem xq(x:Int×Int×Unit):(oF x).length=2:=rfl
def mQ(L:List (Int×Int×Unit))(j:Nat):Bool:=decide (j=0) || !decide (L.getD j (0,0,())=L.getD (j-1) (0,0,()))
def mS(L:List (Int×Int×Unit))(j:Nat):List (Int×Int×Unit):=((List.range j).filter (mQ L)).map fun i=>L.getD i (0,0,())
def oW(L:List (Int×Int×Unit)):List (Int×Int×Unit):=mS L L.length
theorem zd(L:List (Int×Int×Unit))(j:Nat):mS L (j+1)=mS L j++(if mQ L j=true then [L.getD j (0,0,())] else []):=by
 unfold mS
 rw[List.range_succ,List.filter_append,List.map_append]
 congr 1
 by_cases h:mQ L j=true
 ·rw[if_pos h,List.filter_cons_of_pos h];rfl
 ·rw[if_neg h,List.filter_cons_of_neg h];rfl
theorem Q8(x y:Int×Int×Unit)(σ:Hp):ACalls Tryz.prog 194 [.agg (oF x),.agg (oF y)] σ (az (.bool (decide (x=y))) σ):=by
 have h:=acM x.1 x.2.1 y.1 y.2.1 σ
 have e:(decide (x.1=y.1) && decide (x.2.1=y.2.1))=decide (x=y):=by
  obtain⟨a,b,_⟩:=x
  obtain⟨c,d,_⟩:=y
  simp only[Prod.mk.injEq,and_true,Bool.decide_and]
 rw[e]at h
 exact h
theorem kC{L:List (Int×Int×Unit)}{j:Nat}(h:j<L.length):L.getD j (0,0,())=L[j]:=by rw[List.getD_eq_getElem?_getD,List.getElem?_eq_getElem h];rfl
theorem tV{i:TI}(hi:i.wide=true)(hs:i.size=2){l:List (Int×Int×Unit)}{p q:Nat}(h:q<l.length){z:Int}(hz:(p:Int)+z=q)(h0:0≤z):cY i (l.flatMap oF) (0+p*2+z.toNat*2)=some (.agg (oF l[q])):=by
 rw[← GQ (f:=oF) (n:=2) hi hs xq h rfl]
 congr 1
 omega
theorem MI(b:Nat)(L:List (Int×Int×Unit))(σ:Hp)(hl:L.length≤1000000):ACalls Tryz.prog 193 [.ae b 0 L.length 2,.fn (.func 194) [] []] ((b,kI L)::σ)
  (fun x σ'=>∃(k:Nat) (cs:List AV),k=(oW L).length∧cs.take (k*2)=kI (oW L)∧x=.ae b 0 k 2∧σ'=(b,cs)::σ):=by
 refine okF Tryz.func193 (by kernel_rfl) ?_
 refine ao (p:=(L.length:Int)<2) (fun c1 =>?_) (fun c1 =>?_)
 ·have hc:oW L=L:=by
   match L,c1 with
   | [],_=>rfl
   | [x],_=>rfl
   | x::y::r,h=>simp only[List.length_cons]at h;omega
  refine .done ⟨L.length,kI L,by rw[hc],?_,rfl,rfl⟩
  rw[hc]
  exact List.take_of_length_le (Nat.le_of_eq (vd L))
 refine bO (S:=Nat) (fun k=>[(0,.ae b 0 L.length 2),(1,.fn (.func 194) [] []),(5,.int .i64 ((k+1:Nat):Int))]) (fun _=>(b,kI L)::σ) (fun k=>k+1≤L.length∧mS L (k+1)=L.take (k+1)) (fun k=>L.length-k) 0 ⟨⟨by omega,?_⟩,⟨rfl,rfl,rfl,trivial⟩,rfl⟩ ?_
 ·rw[zd]
  have h0:0<L.length:=by omega
  rw[List.take_succ_eq_append_getElem h0,if_pos (show mQ L 0=true from rfl),kC h0];rfl
 rintro k g ⟨aZ,qw⟩
 have hk:k+1≤L.length:=aZ
 have ha:mS L (k+1)=L.take (k+1):=qw
 clear aZ qw
 have hw:IntKind.i64.wrap (((k+1:Nat):Int)-1)=(k:Int):=by rw[IntKind.wrap_i64];omega
 refine ao (p:=((k+1:Nat):Int)<(L.length:Int)) (fun ab =>?_) (fun au =>?_)
 ·have ab:k+1<L.length:=by omega
  refine .quiet (by kernel_rfl) ?_
  refine ag.mk ⟨rfl,by omega,by omega⟩ ?_
  refine dJ.mk 0 _ (.agg (oF L[k+1])) rfl (GQ rfl rfl xq ab rfl) ?_
  refine ag.mk ⟨rfl,by rw[hw];omega,by rw[hw];omega⟩ ?_
  refine dJ.mk 0 _ (.agg (oF L[k])) rfl (GQ rfl rfl xq (by omega) hw) ?_
  refine H5 [] (Q8 L[k+1] L[k] _) (fun c2 =>?_) (fun c2 =>?_)
  rotate_left
  ·refine bg (k+1) (by show L.length-(k+1)<L.length-k;omega) ⟨ab,?_⟩ ⟨rfl,rfl,a8 (by omega),trivial⟩ (.refl _)
   show mS L (k+1+1)=L.take (k+1+1)
   rw[zd,ha,List.take_succ_eq_append_getElem ab,kC ab]
   have pv:mQ L (k+1)=true:=by
    unfold mQ
    rw[kC ab,Nat.add_sub_cancel,kC (by omega),c2];simp
   rw[if_pos pv]
  have pv:mQ L (k+1)=false:=by
   unfold mQ
   rw[kC ab,Nat.add_sub_cancel,kC (by omega),c2];simp
  have fT:mS L ((k+1)+1)=L.take (k+1):=by rw[zd,pv,ha];simp
  refine ag.mk ⟨by omega,by omega,by omega,rfl⟩ ?_
  refine bO (S:=Nat×Nat×List (Int×Int×Unit)) (fun s=>[(0,.ae b 0 L.length 2),(1,.fn (.func 194) [] []),(5,.int .i64 s.1),(6,.ae b (0+(k+1)*2) (L.length-(k+1)) 2),(7,.int .i64 ((s.2.1+1:Nat):Int))]) (fun s=>(b,s.2.2.flatMap oF)::σ) (fun s=>s.1≤(k+1)+s.2.1∧(k+1)+s.2.1+1≤L.length∧s.2.2.length=L.length∧s.2.2.take s.1=mS L ((k+1)+s.2.1+1)∧s.2.2.drop ((k+1)+s.2.1)=L.drop ((k+1)+s.2.1)) (fun s=>L.length-s.2.1) ((k+1),0,L) ⟨⟨Nat.le_refl _,ab,rfl,fT.symm,rfl⟩,⟨rfl,rfl,rfl,rfl,rfl,trivial⟩,rfl⟩ ?_
  rintro⟨i,j,M⟩ g ⟨dY,qo,uO,nA,FE⟩
  have hi:i≤(k+1)+j:=dY
  have hj:(k+1)+j+1≤L.length:=qo
  have hM:M.length=L.length:=uO
  have hF:M.take i=mS L ((k+1)+j+1):=nA
  have hD:M.drop ((k+1)+j)=L.drop ((k+1)+j):=FE
  clear dY qo uO nA FE
  have sS:IntKind.i64.wrap (((j+1:Nat):Int)-1)=(j:Int):=by rw[IntKind.wrap_i64];omega
  refine ao (p:=((j+1:Nat):Int)<((L.length-(k+1):Nat):Int)) (fun h =>?_) (fun h =>?_)
  ·have h1:(k+1)+j+1<L.length:=by omega
   have Ke:(k+1)+j+1<M.length:=by omega
   have hM2:(k+1)+j<M.length:=by omega
   have e1:M[(k+1)+j+1]=L[(k+1)+j+1]:=by
    have:=congrArg (fun x=>x[1]?) hD
    simpa [h1,Ke]using this
   have e2:M[(k+1)+j]=L[(k+1)+j]:=by
    have:=congrArg (fun x=>x[0]?) hD
    simpa [hM2,show (k+1)+j<L.length by omega]using this
   have hD1:M.drop ((k+1)+j+1)=L.drop ((k+1)+j+1):=by
    have h3:=congrArg (List.drop 1) hD
    rwa [List.drop_drop,List.drop_drop]at h3
   refine .quiet (by kernel_rfl) ?_
   refine ag.mk ⟨rfl,(show (0:Int)≤((j+1:Nat):Int) by omega),h⟩ ?_
   refine dJ.mk 0 _ (.agg (oF M[(k+1)+j+1])) rfl (tV (z:=((j+1:Nat):Int)) rfl rfl Ke (by omega) (by omega)) ?_
   refine ag.mk ⟨rfl,by rw[sS];omega,by rw[sS];omega⟩ ?_
   refine dJ.mk 0 _ (.agg (oF M[(k+1)+j])) rfl (tV rfl rfl hM2 (by rw[sS];omega) (by rw[sS];omega)) ?_
   have Fq:mQ L ((k+1)+j+1) = !decide (M[(k+1)+j+1]=M[(k+1)+j]):=by
    unfold mQ
    rw[kC h1,Nat.add_sub_cancel,kC (by omega),e1,e2];simp
   refine H5 [] (Q8 M[(k+1)+j+1] M[(k+1)+j] _) (fun c3 =>?_) (fun c3 =>?_)
   ·rw[c3]at Fq
    refine bg (i,j+1,M) (by show L.length-(j+1)<L.length-j;omega) ⟨by show i≤(k+1)+(j+1);omega,by show (k+1)+(j+1)+1≤L.length;omega,hM,?_,hD1⟩ ⟨rfl,rfl,rfl,rfl,a8 (k:=j+1) (by omega),trivial⟩ (.refl _)
    show M.take i=mS L ((k+1)+(j+1)+1)
    rw[show (k+1)+(j+1)+1=(k+1)+j+1+1 by omega,zd,Fq,hF];simp
   ·rw[c3]at Fq
    refine ag.mk ⟨rfl,(show (0:Int)≤((j+1:Nat):Int) by omega),h⟩ ?_
    refine dJ.mk 0 _ (.agg (oF M[(k+1)+j+1])) rfl (tV (z:=((j+1:Nat):Int)) rfl rfl Ke (by omega) (by omega)) ?_
    refine ag.mk ⟨rfl,by omega,by omega⟩ ?_
    have hiM:i<M.length:=by omega
    refine cd 0 rfl (L5 rfl xq hiM M[(k+1)+j+1] rfl) ?_
    refine bg (i+1,j+1,M.set i M[(k+1)+j+1]) (by show L.length-(j+1)<L.length-j;omega) ⟨by show i+1≤(k+1)+(j+1);omega,by show (k+1)+(j+1)+1≤L.length;omega,(List.length_set ..).trans hM,?_,?_⟩ ⟨rfl,rfl,a8 (k:=i) (by omega),rfl,a8 (k:=j+1) (by omega),trivial⟩ (.refl _)
    ·show (M.set i M[(k+1)+j+1]).take (i+1)=mS L ((k+1)+(j+1)+1)
     rw[show (k+1)+(j+1)+1=(k+1)+j+1+1 by omega,zd,Fq,List.take_succ_eq_append_getElem (by rw[List.length_set];exact hiM),List.take_set_of_le (Nat.le_refl _),List.getElem_set_self,hF,kC h1,e1]
     simp
    ·show (M.set i M[(k+1)+j+1]).drop ((k+1)+(j+1))=L.drop ((k+1)+(j+1))
     rw[List.drop_set_of_lt (by omega)]
     exact hD1
  ·have h1:(k+1)+j+1=L.length:=by omega
   rw[h1]at hF
   refine ag.mk ⟨by omega,by omega,by omega,rfl⟩ ?_
   refine HP.ae 0 b _ _ _ rfl rfl (by show 0+(i:Int).toNat*2+((L.length:Int).toNat-(i:Int).toNat)*2≤(M.flatMap oF).length;rw[y6 xq];omega) ?_
   refine ag.mk ⟨by omega,by omega,by omega,rfl⟩ ?_
   have qp:i=(oW L).length:=by unfold oW;rw[← hF,List.length_take];omega
   refine .done ⟨i,_,qp,?_,rfl,rfl⟩
   rw[KT _ _ _ _ (by omega),VZ xq M (by omega),hF];rfl
 ·have au:k+1=L.length:=by omega
  have hc:oW L=L:=by unfold oW;rw[← au,ha,au,List.take_length]
  refine .done ⟨L.length,kI L,by rw[hc],?_,rfl,rfl⟩
  rw[hc]
  exact List.take_of_length_le (Nat.le_of_eq (vd L))
end Go.Proofs.YtnpidbjdilnhlaaGreat
