import Derived.Shelf.GgSortFunc.RowK
import Derived.Sort.Grow
import Derived.Test.YtnikdflhefijbaaGreatBs6
import Derived.Shelf.SlSortCmp.NoneTotal
import Derived.Test.YtnikdflhefijbaaGreatBs10
import Derived.Test.YtnikdflhefijbaaGreatBs12
import Derived.Test.YtnikdflhefijbaaGreatBs11
namespace Go.Proofs.YtnikdflhefijbaaGreat
open Go.RowKit
theorem aca{F':Nat→Prop}{w w':World}(h:bH (fun b=>b<w.heap.size) w F' w'):∃q os,w'=Go.Sort.grow (w.drewN q) os:=by
 obtain⟨h1,h2,h3,h4,_,h6,_,h8⟩:=h
 have hh:w'.heap=w.heap++w'.heap.extract w.heap.size w'.heap.size:=by
  apply Array.ext
  ·simp only[Array.size_append,Array.size_extract];omega
  ·intro i hi xc
   by_cases ab:i<w.heap.size
   ·have e:=h6 i ab;rw[pA hi,pA ab]at e;rw[Array.getElem_append_left ab];exact Option.some.inj e
   ·rw[Array.getElem_append_right (by omega),Array.getElem_extract]
    congr 1;omega
 refine⟨w'.drawn-w.drawn,w'.heap.extract w.heap.size w'.heap.size,?_⟩;have hd:w.drawn+(w'.drawn-w.drawn)=w'.drawn:=by omega
 unfold Go.Sort.grow World.drewN;cases w' with
 |mk heap tape drawn os output=>
  simp only at h1 h2 h3 hh hd ⊢;rw[h1,h2,h3,← hh,hd]
theorem O0{f:FuncId}{xs:List AV}{k:IntKind}{z:Int}(h:∀σ,ACalls Tryz.prog f xs σ (ay (.int k z) σ)){w:World}{vs:Array Value}(hv:iS (fun b=>b<w.heap.size) w xs vs):Calls Tryz.prog f vs w fun e w'=>e=.returned (.int k z)∧∃q os,w'=Go.Sort.grow (w.drewN q) os:=by
 refine ((h []).2 (fun b=>b<w.heap.size) w vs hv ⟨H7,fun p hp=>absurd hp sC,fun b hb=>hb⟩).mono ?_;rintro e w' ⟨r,v,σ',F',rfl,aq,_,hr,rfl,_⟩;refine⟨?_,aca aq⟩;rw[hr.gq]
set_option maxRecDepth 100000
def wS(a b:Int):Int:=if a<b then -1 else if b<a then 1 else 0
theorem Tp(a:Int)(σ:Hp):ACalls Tryz.prog 234 [.int .i64 a] σ (ay (.bool false) σ):=by
 refine ao Tryz.func234 ?_;refine cO (fun h=>absurd h (by simp)) (fun _=>?_);exact .done ⟨rfl,rfl⟩
theorem UY(a b:Int)(σ:Hp):ACalls Tryz.prog 184 [.int .i64 a,.int .i64 b] σ (ay (.int .i64 (wS a b)) σ):=by
 refine ao Tryz.func184 ?_;refine aw [] (Tp a _) ?_;refine aw [] (Tp b _) ?_;refine ai (p:=a<b) (fun c1=>?_) (fun c1=>?_)
 ·exact .done ⟨aQ (az c1).symm,rfl⟩
 refine ai (p:=b<a) (fun c2=>?_) (fun c2=>?_)
 ·exact .done ⟨aQ (by unfold wS;rw[aB c1,az c2]),rfl⟩
 ·exact .done ⟨aQ (by unfold wS;rw[aB c1,aB c2]),rfl⟩
def Aw(x y:Int):Int:=if x=0 then y else x
theorem agV(b:Nat)(x y:Int)(σ:Hp):ACalls Tryz.prog 183 [.af b 0 2 1] ((b,[.int .i64 x,.int .i64 y])::σ) (ay (.int .i64 (Aw x y)) ((b,[.int .i64 x,.int .i64 y])::σ)):=by
 refine ao Tryz.func183 ?_;refine bc (S:=Nat×Int) (fun s=>[(3,.int .i64 s.2),(6,.af b 0 2 1),(7,.int .i64 2),(8,.int .i64 s.1)]) (fun _=>(b,[.int .i64 x,.int .i64 y])::σ) (fun s=>s.2=0∧s.1≤2∧(0<s.1→x=0)∧(1<s.1→y=0)) (fun s=>2-s.1) (0,0) ⟨⟨rfl,by omega,fun h=>by omega,fun h=>by omega⟩,⟨rfl,rfl,rfl,rfl,trivial⟩,rfl⟩ ?_;rintro⟨k,z⟩ g ⟨l0,aK,Hi,hy0⟩;have hz:z=0:=l0;have hk:k≤2:=aK;have hx:0<k→x=0:=Hi;have hy:1<k→y=0:=hy0;clear l0 aK Hi hy0
 match k,hk,hx,hy with
 | 0,_,_,_=>
  refine aH ?_;refine aa 0 ?_;refine cO (fun c1=>?_) (fun c1=>?_)
  ·have c1:(!decide (x=z))=true:=c1;have c1:¬x=z:=by simpa using c1
   exact .done ⟨aQ (by unfold Aw;rw[aB (by rw[← hz];exact c1)]),rfl⟩
  ·have c1:(!decide (x=z))=false:=c1;have c1:x=z:=by simpa using c1
   exact aM (1,z) (by show 2-1<2-0;decide) ⟨hz,(show 1≤2 by decide),fun _=>c1.trans hz,fun h=>absurd h (show ¬1<1 by decide)⟩ ⟨rfl,rfl,rfl,rfl,trivial⟩ (.refl _)
 | 1,_,hx,_=>
  refine aH ?_;refine aa 0 ?_;refine cO (fun c1=>?_) (fun c1=>?_)
  ·exact .done ⟨aQ (by unfold Aw;rw[az (hx (by decide))]),rfl⟩
  ·have c1:(!decide (y=z))=false:=c1;have c1:y=z:=by simpa using c1
   exact aM (2,z) (by show 2-2<2-1;decide) ⟨hz,(show 2≤2 by decide),fun _=>hx (by decide),fun _=>c1.trans hz⟩ ⟨rfl,rfl,rfl,rfl,trivial⟩ (.refl _)
 | 2,_,hx,hy=>
  exact .done ⟨aQ (by unfold Aw;rw[az (hx (by decide)),hy (by decide)];exact hz),rfl⟩
def Lx(a b c d:Int):Int:=Aw (wS a c) (wS b d)
theorem afI(a b c d:Int)(σ:Hp):ACalls Tryz.prog 182 [.agg [.int .i64 a,.int .i64 b],.agg [.int .i64 c,.int .i64 d]] σ (ay (.int .i64 (Lx a b c d)) σ):=by
 refine ao Tryz.func182 ?_;intro ax;intro bX;refine .sched [4,9] (upto [4,9] 13 0) (by kernel_rfl) ?_;refine aa 1 ?_;refine aa 0 ?_;refine aN [] (UY a c _) ?_;refine aa 1 ?_;refine aa 0 ?_;refine aN [] (UY b d _) ?_;intro kX;refine aw [] (agV kX (wS a c) (wS b d) _) ?_;exact .drop 0 3 (.done ⟨rfl,rfl⟩)
theorem ah0(a b c d:Int)(σ:Hp):ACalls Tryz.prog 186 [.agg [.int .i64 a,.int .i64 b],.agg [.int .i64 c,.int .i64 d]] σ (ay (.bool (decide (a=c)&&decide (b=d))) σ):=by
 refine ao Tryz.func186 ?_;intro ax;intro bX;refine aa 1 ?_;refine aa 0 ?_;refine .mk (by kernel_rfl) (by kernel_rfl) ?_;refine cO (fun h=>?_) (fun h=>?_)
 ·have h:eP [decide (a=c),decide (b=d)]=true:=h;exact .drop 0 2 (.done ⟨bJ (by simpa [eP]using h.symm),rfl⟩)
 ·have h:eP [decide (a=c),decide (b=d)]=false:=h;exact .drop 0 2 (.done ⟨bJ (by simpa [eP]using h.symm),rfl⟩)
section
variable {F:Nat→Prop} {w:World} {σ:Hp}
theorem Yq(h:bA F w σ)(os:Array Obj):bH F w F (Go.Sort.grow w os)∧bA F (Go.Sort.grow w os) σ:=by
 have dG:(Go.Sort.grow w os).heap.size=w.heap.size+os.size:=by simp[Go.Sort.grow]
 have ak:∀b,b<w.heap.size→(Go.Sort.grow w os).heap[b]?=w.heap[b]?:=fun b hb=>by
  show (w.heap++os)[b]?=_;rw[Ii hb]
 have aq:bH F w F (Go.Sort.grow w os):=⟨rfl,rfl,rfl,by omega,fun _ h=>h,fun b hb=>ak b (h.low b hb),fun b c T fz hc=>⟨c,fz,by
  rw[ak b (y6.1 hc).1];exact hc,rfl⟩,bg _⟩
 exact⟨aq,h.nodup,fun p hp=>(h.holds p hp).mono aq (ak _ (h.holds p hp).lt) (h.holds p hp).1,fun b hb=>by have:=h.low b hb;omega⟩
theorem Holds.QN{F:Nat→Prop}{w:World}{b:Nat}{cs:List AV}(h:Holds F w b cs)(hn:∀x∈cs,x.leaf=true):¬F b∧Cf F w b cs:=by
 obtain⟨hF,h | ⟨x,o,e,_,hx⟩ | ⟨L,t,e,_⟩⟩:=h
 ·exact⟨hF,h⟩
 ·subst e;have:=hn _ (cF ..);rw[ES hx]at this;cases this
 ·subst e;cases hn _ (cF ..)
theorem ZD{b n:Nat}{cs cs':List AV}{d:Array Value}(h:bA F w ((b,cs)::σ))(Dp:∀x∈cs,x.leaf=true)(hl:cs'.length=cs.length)(hd:d.size=cs'.length)(hv:∀(i:Nat) (x:AV),cs'[i]?=some x→x.leaf=true∧aD F w x (d.getD i undef))(os:Array Obj):
  bH F w F (Go.Sort.grow (Go.Sort.putRow id (Go.Sort.ahead w n) b 0 d) os)∧bA F (Go.Sort.grow (Go.Sort.putRow id (Go.Sort.ahead w n) b 0 d) os) ((b,cs')::σ):=by
 obtain⟨hF,c,T,hc,hle,ph⟩:=(h.holds _ (cF ..)).QN Dp;have hle:cs.length≤c.size:=hle;have hc:w.heap[b]?=some (.cells c T (0,0)):=hc
 have CO:∀k,k<d.size→(Go.Sort.putCells id 0 d c).getD k undef=d.getD k undef:=fun k hk=>by
  have yK:k<c.size:=by omega
  unfold Go.Sort.putCells;rw[gR,Array.getElem?_mapIdx,pA yK];simp only[HP,D4];rw[az ⟨aV _,by omega⟩,Nat.sub_zero,gR,pA hk];simp[hk]
 have key:=zg (F:=F) (w:=w) (w':=Go.Sort.putRow id (Go.Sort.ahead w n) b 0 d) h (j:=0) (b:=b) (cs:=cs) (cs':=cs') rfl hc (c':=Go.Sort.putCells id 0 d c) (by simp[Go.Sort.putCells]) (by simp[Go.Sort.putCells];omega)
  (fun i x hx=>by
   have h2:i<cs'.length:=(cW.1 hx).1;rw[CO i (by omega)]
   exact hv i x hx)
  (fun k hk=>by
   show (w.heap.modify b _)[k]?=_
   rw[H3,aB (fun e=>hk e.symm)])
  (by
   show (w.heap.modify b _)[b]?=_
   rw[H3,az rfl,hc];rfl)
  rfl rfl rfl (by simp[Go.Sort.ahead])
 obtain⟨k1,k2⟩:=key;obtain⟨g1,g2⟩:=Yq k2 os;exact⟨k1.trans g1,g2⟩
theorem adX{b:Nat}{cs:List AV}{d:Array Value}(h:bA F w ((b,cs)::σ))(Dp:∀x∈cs,x.leaf=true)(hd:d.size=cs.length)(hv:∀(i:Nat) (x:AV),cs[i]?=some x→∀v,aD F w x v→v=d.getD i undef):Go.Sort.Holds id w b 0 d∧b<w.heap.size:=by
 obtain⟨hF,c,T,hc,hle,ph⟩:=(h.holds _ (cF ..)).QN Dp;have hc:w.heap[b]?=some (.cells c T (0,0)):=hc;have hle:cs.length≤c.size:=hle;refine⟨fun j hj=>?_,(y6.1 hc).1⟩;have Dv:j<cs.length:=by omega
 have hr:=hv j _ (bu Dv) _ (ph j _ (bu Dv)).2;rw[dD];constructor
 ·rw[FJ hc,pA (by omega)];rw[gR,pA (by omega),gR,pA hj]at hr;simp only[D4]at hr;rw[hr];simp[hj]
 ·unfold World.frozen?;simp[hc]
end
def mu(l:List (Int×Int×Unit)):List AV:=l.flatMap fun x=>[.int .i64 x.1,.int .i64 x.2.1]
def ni(x:Int×Int×Unit):List Value:=[.int .i64 x.1,.int .i64 x.2.1]
theorem xN:∀l:List (Int×Int×Unit),(mu l).length=l.length*2
 | []=>rfl
 |x::l=>by
  show (mu l).length+2=(l.length+1)*2;rw[xN l];omega
theorem SN(L:List (Int×Int×Unit)):∀x∈mu L,x.leaf=true:=fun x hx=>by
 obtain⟨p,_,h⟩:=List.mem_flatMap.1 hx
 rcases dW.1 h with rfl | h
 ·rfl
 ·rw[bj.1 h];rfl
theorem RS:∀(l:List (Int×Int×Unit)) (i:Nat),(mu l)[i]?=(l[i / 2]?).map fun x=>if i % 2=0 then .int .i64 x.1 else .int .i64 x.2.1
 | [],i=>by simp[mu]
 |x::l,0=>rfl
 |x::l,1=>rfl
 |x::l,i+2=>by
  have h:=RS l i;show (mu l)[i]?=_;rw[h,show (i+2) / 2=i / 2+1 by omega,show (i+2) % 2=i % 2 by omega];rfl
theorem RR(l:List (Int×Int×Unit))(i:Nat)(x:AV)(h:(mu l)[i]?=some x):∃z,x=.int .i64 z∧(Go.Sort.flatK ni 2 l.toArray).getD i undef=.int .i64 z:=by
 rw[RS]at h;obtain⟨d,hd,hx⟩:=vL.1 h;obtain⟨hi,qo⟩:=cW.1 hd;have ab:i<l.toArray.size*2:=by simp only[pr];omega
 have hg:=Go.Sort.get_flatK ni 2 l.toArray i ab
 have he:(Go.Sort.flatK ni 2 l.toArray).getD i undef=(Go.Sort.flatK ni 2 l.toArray)[i]!:=by
  have hs:i<(Go.Sort.flatK ni 2 l.toArray).size:=by rw[Go.Sort.size_flatK];exact ab
  rw[gR,pA hs];exact (getElem!_pos _ i hs).symm
 have hl:l.toArray[i / 2]! = d:=by simp[hi,qo]
 rw[he,hg,hl]
 by_cases h0:i % 2=0
 ·rw[az h0]at hx;rw[h0];exact⟨d.1,hx.symm,rfl⟩
 ·rw[aB h0]at hx;have h1:i % 2=1:=by omega
  rw[h1];exact⟨d.2.1,hx.symm,rfl⟩
variable {α:Type} {f:α→List AV} {n:Nat}
theorem Bj(hf:∀x,(f x).length=n)(l:List α):(l.flatMap f).length=l.length*n:=sM hf l
theorem Zw(hf:∀x,(f x).length=n){l:List α}{j:Nat}(h:j<l.length):((l.flatMap f).drop (j*n)).take n=f l[j]:=by
 induction l generalizing j with
 |nil=>simp at h
 |cons x l ih=>
  cases j with
  |zero=>simp[hf]
  |succ j=>
   rw[sD,List.drop_append,hf,rD,gp3,xz (by rw[hf];omega),sA];simpa using ih (by simpa using h)
theorem Jt{i:TI}(hi:i.wide=true)(hs:i.size=n)(hf:∀x,(f x).length=n){l:List α}{k:Nat}(h:k<l.length){z:Int}(hz:z=k):ef i (l.flatMap f) (0+z.toNat*n)=some (.agg (f l[k])):=by
 subst hz;have hl:=Bj hf l;have hm:(k+1)*n≤l.length*n:=nt n h;rw[qv,Nat.one_mul]at hm;have hb:Nat.ble (0+k*n+n) (l.flatMap f).length=true:=Ed (by rw[hl];omega);unfold ef;rw[hi,hs];show (match Nat.ble (0+k*n+n) (l.flatMap f).length with | true=>some (AV.agg (((l.flatMap f).drop (0+k*n)).take n)) | false=>none)=_;rw[hb];show some (AV.agg (((l.flatMap f).drop (0+k*n)).take n))=_;rw[dD,Zw hf h]
theorem IE:∀(vs A B C:List AV),B.length=vs.length→fG (A++(B++C)) A.length vs=A++(vs++C)
 | [],A,B,C,h=>by
  obtain rfl:=fE.1 h;rfl
 |v::vs,A,b::B,C,h=>by
  show fG ((A++(b::(B++C))).set A.length v) (A.length+1) vs=_
  have e:(A++(b::(B++C))).set A.length v=(A++[v])++(B++C):=by
   rw[List.set_append_right _ _ (Nat.le_refl _),Nat.sub_self];simp
  rw[e,show A.length+1=(A++[v]).length by simp,IE vs (A++[v]) B C (by simpa using h)];simp
theorem abv(hf:∀x,(f x).length=n){l:List α}{k:Nat}(h:k<l.length)(d:α):fG (l.flatMap f) (k*n) (f d)=(l.set k d).flatMap f:=by
 have e:l=l.take k++([l[k]]++l.drop (k+1)):=by simp
 have e2:l.set k d=l.take k++([d]++l.drop (k+1)):=by
  rw[List.set_eq_take_append_cons_drop,az h];rfl
 have hk:((l.take k).flatMap f).length=k*n:=by rw[Bj hf,oh,yX (Nat.le_of_lt h)]
 rw[e2]
 conv=>lhs;rw[e]
 rw[sF,sF,sF,sF,List.flatMap_singleton,List.flatMap_singleton,← hk];exact IE _ _ _ _ (by rw[hf,hf])
theorem Po{i:TI}(hs:i.size=n)(hf:∀x,(f x).length=n){l:List α}{k:Nat}(h:k<l.length)(d:α){z:Int}(hz:z=k):kC i (l.flatMap f) (0+z.toNat*n) (.agg (f d))=some ((l.set k d).flatMap f):=by
 subst hz;have hl:=Bj hf l;have hm:(k+1)*n≤l.length*n:=nt n h;rw[qv,Nat.one_mul]at hm;have hb:Nat.ble (0+k*n+n) (l.flatMap f).length=true:=Ed (by rw[hl];omega);have hq:Nat.beq (f d).length n=true:=by rw[hf];exact xq n
 unfold kC;rw[hs];show (match Nat.beq (f d).length n,Nat.ble (0+k*n+n) (l.flatMap f).length with | true,true=>some (fG (l.flatMap f) (0+k*n) (f d)) | _,_=>none)=_;rw[hb,hq];show some (fG (l.flatMap f) (0+k*n) (f d))=_;rw[dD,abv hf h]
theorem N0:∀(vs cs:List AV) (off k:Nat),k≤off→(fG cs off vs).take k=cs.take k
 | [],_,_,_,_=>rfl
 |v::vs,cs,off,k,h=>by
  show (fG (cs.set off v) (off+1) vs).take k=_;rw[N0 vs _ _ _ (by omega),List.take_set_of_le h]
theorem Zv(hf:∀x,(f x).length=n)(l:List α){k:Nat}(h:k≤l.length):(l.flatMap f).take (k*n)=(l.take k).flatMap f:=by
 conv=>lhs;rw[← A6 k l]
 rw[sF];exact List.take_left' (by rw[Bj hf,oh,yX h])
abbrev qA(x:Int×Int×Unit):List AV:=[.int .i64 x.1,.int .i64 x.2.1]
theorem zw(x:Int×Int×Unit):(qA x).length=2:=rfl
def s7(L:List (Int×Int×Unit))(j:Nat):Bool:=decide (j=0)||!decide (L.getD j (0,0,())=L.getD (j-1) (0,0,()))
def qN(L:List (Int×Int×Unit))(j:Nat):List (Int×Int×Unit):=((List.range j).filter (s7 L)).map fun i=>L.getD i (0,0,())
def wE(L:List (Int×Int×Unit)):List (Int×Int×Unit):=qN L L.length
theorem Bp(L:List (Int×Int×Unit))(j:Nat):qN L (j+1)=qN L j++(if s7 L j=true then [L.getD j (0,0,())] else []):=by
 unfold qN;rw[pz,tP,cE]
 congr 1
 by_cases h:s7 L j=true
 ·rw[az h,Ea h];rfl
 ·rw[aB h,Eb h];rfl
theorem UU(x y:Int×Int×Unit)(σ:Hp):ACalls Tryz.prog 186 [.agg (qA x),.agg (qA y)] σ (ay (.bool (decide (x=y))) σ):=by
 have h:=ah0 x.1 x.2.1 y.1 y.2.1 σ
 have e:(decide (x.1=y.1)&&decide (x.2.1=y.2.1))=decide (x=y):=by
  obtain⟨a,b,_⟩:=x;obtain⟨c,d,_⟩:=y;simp only[Prod.mk.injEq,and_true,Bool.decide_and]
 rw[e]at h;exact h
theorem uD{L:List (Int×Int×Unit)}{j:Nat}(h:j<L.length):L.getD j (0,0,())=L[j]:=by rw[bK,bu h];rfl
theorem KH{i:TI}(hi:i.wide=true)(hs:i.size=2){l:List (Int×Int×Unit)}{p q:Nat}(h:q<l.length){z:Int}(hz:(p:Int)+z=q)(h0:0≤z):ef i (l.flatMap qA) (0+p*2+z.toNat*2)=some (.agg (qA l[q])):=by
 rw[← Jt (f:=qA) (n:=2) hi hs zw h rfl]
 congr 1
 omega
theorem Qb(b:Nat)(L:List (Int×Int×Unit))(σ:Hp)(hl:L.length≤1000000):ACalls Tryz.prog 185 [.af b 0 L.length 2,.fn (.func 186) [] []] ((b,mu L)::σ)
  (fun x σ'=>∃(k:Nat) (cs:List AV),k=(wE L).length∧cs.take (k*2)=mu (wE L)∧x=.af b 0 k 2∧σ'=(b,cs)::σ):=by
 refine ao Tryz.func185 ?_;refine ai (p:=(L.length:Int)<2) (fun c1=>?_) (fun c1=>?_)
 ·have hc:wE L=L:=by
   match L,c1 with
   | [],_=>rfl
   | [x],_=>rfl
   |x::y::r,h=>simp only[gH]at h;omega
  refine .done ⟨L.length,mu L,by rw[hc],?_,rfl,rfl⟩;rw[hc];exact dZ (vG (xN L))
 refine bc (S:=Nat) (fun k=>[(0,.af b 0 L.length 2),(1,.fn (.func 186) [] []),(5,.int .i64 ((k+1:Nat):Int))]) (fun _=>(b,mu L)::σ) (fun k=>k+1≤L.length∧qN L (k+1)=L.take (k+1)) (fun k=>L.length-k) 0 ⟨⟨by omega,?_⟩,⟨rfl,rfl,rfl,trivial⟩,rfl⟩ ?_
 ·rw[Bp];have h0:0<L.length:=by omega
  rw[eM h0,az (show s7 L 0=true from rfl),uD h0];rfl
 rintro k g ⟨aK,eR⟩;have hk:k+1≤L.length:=aK;have ha:qN L (k+1)=L.take (k+1):=eR;clear aK eR;have hw:IntKind.i64.wrap (((k+1:Nat):Int)-1)=(k:Int):=by rw[IntKind.wrap_i64];omega
 refine ai (p:=((k+1:Nat):Int)<(L.length:Int)) (fun ab=>?_) (fun ak=>?_)
 ·have ab:k+1<L.length:=by omega
  refine .quiet (by kernel_rfl) ?_;refine aH ?_;refine ec.mk 0 _ (.agg (qA L[k+1])) rfl (Jt rfl rfl zw ab rfl) ?_;refine aF.mk ⟨rfl,by rw[hw];omega,by rw[hw];omega⟩ ?_;refine ec.mk 0 _ (.agg (qA L[k])) rfl (Jt rfl rfl zw (by omega) hw) ?_;refine Kr [] (UU L[k+1] L[k] _) (fun c2=>?_) (fun c2=>?_);rotate_left
  ·refine aM (k+1) (by show L.length-(k+1)<L.length-k;omega) ⟨ab,?_⟩ ⟨rfl,rfl,aI (by omega),trivial⟩ (.refl _);show qN L (k+1+1)=L.take (k+1+1);rw[Bp,ha,eM ab,uD ab]
   have ri:s7 L (k+1)=true:=by
    unfold s7;rw[uD ab,Nat.add_sub_cancel,uD (by omega),c2];simp
   rw[az ri]
  have ri:s7 L (k+1)=false:=by
   unfold s7;rw[uD ab,Nat.add_sub_cancel,uD (by omega),c2];simp
  have rp:qN L ((k+1)+1)=L.take (k+1):=by rw[Bp,ri,ha];simp
  refine aF.mk ⟨by omega,by omega,by omega,rfl⟩ ?_;refine bc (S:=Nat×Nat×List (Int×Int×Unit)) (fun s=>[(0,.af b 0 L.length 2),(1,.fn (.func 186) [] []),(5,.int .i64 s.1),(6,.af b (0+(k+1)*2) (L.length-(k+1)) 2),(7,.int .i64 ((s.2.1+1:Nat):Int))]) (fun s=>(b,s.2.2.flatMap qA)::σ) (fun s=>s.1≤(k+1)+s.2.1∧(k+1)+s.2.1+1≤L.length∧s.2.2.length=L.length∧s.2.2.take s.1=qN L ((k+1)+s.2.1+1)∧s.2.2.drop ((k+1)+s.2.1)=L.drop ((k+1)+s.2.1)) (fun s=>L.length-s.2.1) ((k+1),0,L) ⟨⟨bg _,ab,rfl,rp.symm,rfl⟩,⟨rfl,rfl,rfl,rfl,rfl,trivial⟩,rfl⟩ ?_;rintro⟨i,j,M⟩ g ⟨dK,gx,xm,pj,hD0⟩;have hi:i≤(k+1)+j:=dK;have hj:(k+1)+j+1≤L.length:=gx;have hM:M.length=L.length:=xm;have hF:M.take i=qN L ((k+1)+j+1):=pj;have hD:M.drop ((k+1)+j)=L.drop ((k+1)+j):=hD0;clear dK gx xm pj hD0;have vj:IntKind.i64.wrap (((j+1:Nat):Int)-1)=(j:Int):=by rw[IntKind.wrap_i64];omega
  refine ai (p:=((j+1:Nat):Int)<((L.length-(k+1):Nat):Int)) (fun h=>?_) (fun h=>?_)
  ·have h1:(k+1)+j+1<L.length:=by omega
   have MK:(k+1)+j+1<M.length:=by omega
   have hM2:(k+1)+j<M.length:=by omega
   have e1:M[(k+1)+j+1]=L[(k+1)+j+1]:=by
    have:=congrArg (fun x=>x[1]?) hD;simpa [h1,MK]using this
   have e2:M[(k+1)+j]=L[(k+1)+j]:=by
    have:=congrArg (fun x=>x[0]?) hD;simpa [hM2,show (k+1)+j<L.length by omega]using this
   have hD1:M.drop ((k+1)+j+1)=L.drop ((k+1)+j+1):=by
    have h3:=congrArg (List.drop 1) hD
    rwa [DX,DX]at h3
   refine .quiet (by kernel_rfl) ?_;refine aF.mk ⟨rfl,(show (0:Int)≤((j+1:Nat):Int) by omega),h⟩ ?_;refine ec.mk 0 _ (.agg (qA M[(k+1)+j+1])) rfl (KH (z:=((j+1:Nat):Int)) rfl rfl MK (by omega) (by omega)) ?_;refine aF.mk ⟨rfl,by rw[vj];omega,by rw[vj];omega⟩ ?_;refine ec.mk 0 _ (.agg (qA M[(k+1)+j])) rfl (KH rfl rfl hM2 (by rw[vj];omega) (by rw[vj];omega)) ?_
   have Hy:s7 L ((k+1)+j+1) = !decide (M[(k+1)+j+1]=M[(k+1)+j]):=by
    unfold s7;rw[uD h1,Nat.add_sub_cancel,uD (by omega),e1,e2];simp
   refine Kr [] (UU M[(k+1)+j+1] M[(k+1)+j] _) (fun c3=>?_) (fun c3=>?_)
   ·rw[c3]at Hy;refine aM (i,j+1,M) (by show L.length-(j+1)<L.length-j;omega) ⟨by show i≤(k+1)+(j+1);omega,by show (k+1)+(j+1)+1≤L.length;omega,hM,?_,hD1⟩ ⟨rfl,rfl,rfl,rfl,aI (k:=j+1) (by omega),trivial⟩ (.refl _);show M.take i=qN L ((k+1)+(j+1)+1);rw[show (k+1)+(j+1)+1=(k+1)+j+1+1 by omega,Bp,Hy,hF];simp
   ·rw[c3]at Hy;refine aF.mk ⟨rfl,(show (0:Int)≤((j+1:Nat):Int) by omega),h⟩ ?_;refine ec.mk 0 _ (.agg (qA M[(k+1)+j+1])) rfl (KH (z:=((j+1:Nat):Int)) rfl rfl MK (by omega) (by omega)) ?_;refine aH ?_;have hiM:i<M.length:=by omega
    refine bM 0 rfl (Po rfl zw hiM M[(k+1)+j+1] rfl) ?_;refine aM (i+1,j+1,M.set i M[(k+1)+j+1]) (by show L.length-(j+1)<L.length-j;omega) ⟨by show i+1≤(k+1)+(j+1);omega,by show (k+1)+(j+1)+1≤L.length;omega,(dY ..).trans hM,?_,?_⟩ ⟨rfl,rfl,aI (k:=i) (by omega),rfl,aI (k:=j+1) (by omega),trivial⟩ (.refl _)
    ·show (M.set i M[(k+1)+j+1]).take (i+1)=qN L ((k+1)+(j+1)+1);rw[show (k+1)+(j+1)+1=(k+1)+j+1+1 by omega,Bp,Hy,eM (by rw[dY];exact hiM),List.take_set_of_le (bg _),List.getElem_set_self,hF,uD h1,e1];simp
    ·show (M.set i M[(k+1)+j+1]).drop ((k+1)+(j+1))=L.drop ((k+1)+(j+1));rw[List.drop_set_of_lt (by omega)];exact hD1
  ·have h1:(k+1)+j+1=L.length:=by omega
   rw[h1]at hF;refine aF.mk ⟨by omega,by omega,by omega,rfl⟩ ?_;refine Kf.af 0 b _ _ _ rfl rfl (by show 0+(i:Int).toNat*2+((L.length:Int).toNat-(i:Int).toNat)*2≤(M.flatMap qA).length;rw[Bj zw];omega) ?_;refine aF.mk ⟨by omega,by omega,by omega,rfl⟩ ?_;have pg:i=(wE L).length:=by unfold wE;rw[← hF,oh];omega
   refine .done ⟨i,_,pg,?_,rfl,rfl⟩;rw[N0 _ _ _ _ (by omega),Zv zw M (by omega),hF];rfl
 ·have ak:k+1=L.length:=by omega
  have hc:wE L=L:=by unfold wE;rw[← ak,ha,ak,er]
  refine .done ⟨L.length,mu L,by rw[hc],?_,rfl,rfl⟩;rw[hc];exact dZ (vG (xN L))
end Go.Proofs.YtnikdflhefijbaaGreat
namespace Go.Proofs.YtnikdflhefijbaaGreat
open Go.Shelf
def W2:Go.Shelf.Ren:=⟨fun | 6=>181 | 15=>233 | 14=>232 | 28=>274 | 29=>275 | 20=>266 | 21=>267 | 22=>268 | 23=>269 | 24=>270 | 25=>271 | 26=>272 | 27=>273 | 46=>295 | 47=>296 | 48=>297 | 49=>298 | 50=>299 | 57=>327 | n=>n,fun | 22=>22 | 24=>227 | 25=>250 | 3=>3 | 39=>253 | 0=>0 | 53=>284 | 55=>56 | 4=>4 | 46=>308 | 45=>307 | 50=>312 | 5=>5 | 9=>9 | 66=>331 | 70=>335 | 76=>353 | 77=>50 | n=>n,fun | n=>n⟩
theorem Kl:Go.Proofs.SlLaysF0.n6 Tryz.prog W2:= {
 mixed:=by kernel_rfl
 f6 := ⟨"slices.SortFunc[[]sough/api.Edge,sough/api.Edge]", by decide, Tryz.func181.trans (congrArg some (by kernel_rfl))⟩
 f14 := ⟨"slices.pdqsortCmpFunc[sough/api.Edge]", by decide, Tryz.func232.trans (congrArg some (by kernel_rfl))⟩
 f15:=Tryz.func233.trans (congrArg some (by kernel_rfl))
 f20 := ⟨"slices.insertionSortCmpFunc[sough/api.Edge]", by decide, Tryz.func266.trans (congrArg some (by kernel_rfl))⟩
 f21 := ⟨"slices.heapSortCmpFunc[sough/api.Edge]", by decide, Tryz.func267.trans (congrArg some (by kernel_rfl))⟩
 f22 := ⟨"slices.breakPatternsCmpFunc[sough/api.Edge]", by decide, Tryz.func268.trans (congrArg some (by kernel_rfl))⟩
 f23 := ⟨"slices.choosePivotCmpFunc[sough/api.Edge]", by decide, Tryz.func269.trans (congrArg some (by kernel_rfl))⟩
 f24 := ⟨"slices.reverseRangeCmpFunc[sough/api.Edge]", by decide, Tryz.func270.trans (congrArg some (by kernel_rfl))⟩
 f25 := ⟨"slices.partialInsertionSortCmpFunc[sough/api.Edge]", by decide, Tryz.func271.trans (congrArg some (by kernel_rfl))⟩
 f26 := ⟨"slices.partitionEqualCmpFunc[sough/api.Edge]", by decide, Tryz.func272.trans (congrArg some (by kernel_rfl))⟩
 f27 := ⟨"slices.partitionCmpFunc[sough/api.Edge]", by decide, Tryz.func273.trans (congrArg some (by kernel_rfl))⟩
 f28:=Tryz.func274.trans (congrArg some (by kernel_rfl))
 f29:=Tryz.func275.trans (congrArg some (by kernel_rfl))
 f46 := ⟨"slices.siftDownCmpFunc[sough/api.Edge]", by decide, Tryz.func295.trans (congrArg some (by kernel_rfl))⟩
 f47:=Tryz.func296.trans (congrArg some (by kernel_rfl))
 f48:=Tryz.func297.trans (congrArg some (by kernel_rfl))
 f49 := ⟨"slices.medianAdjacentCmpFunc[sough/api.Edge]", by decide, Tryz.func298.trans (congrArg some (by kernel_rfl))⟩
 f50 := ⟨"slices.medianCmpFunc[sough/api.Edge]", by decide, Tryz.func299.trans (congrArg some (by kernel_rfl))⟩
 f57 := ⟨"slices.order2CmpFunc[sough/api.Edge]", by decide, Tryz.func327.trans (congrArg some (by kernel_rfl))⟩
 t0:=Tryz.underlying0
 a0:=Tryz.isAgg0
 z0:=Tryz.sizeOf0
 v0:=Tryz.zeroValue0
 t3:=Tryz.underlying3
 a3:=Tryz.isAgg3
 z3:=Tryz.sizeOf3
 v3:=Tryz.zeroValue3
 t4:=Tryz.underlying4
 a4:=Tryz.isAgg4
 z4:=Tryz.sizeOf4
 v4:=Tryz.zeroValue4
 t5:=Tryz.underlying5
 a5:=Tryz.isAgg5
 z5:=Tryz.sizeOf5
 v5:=Tryz.zeroValue5
 t9:=Tryz.underlying9
 a9:=Tryz.isAgg9
 z9:=Tryz.sizeOf9
 v9:=Tryz.zeroValue9
 t22:=Tryz.underlying22
 a22:=Tryz.isAgg22
 z22:=Tryz.sizeOf22
 v22:=Tryz.zeroValue22
 t25:=Tryz.underlying250
 a25:=Tryz.isAgg250
 z25:=Tryz.sizeOf250
 v25:=Tryz.zeroValue250
 t39:=Tryz.underlying253
 a39:=Tryz.isAgg253
 z39:=Tryz.sizeOf253
 v39:=Tryz.zeroValue253
 t45:=Tryz.underlying307
 a45:=Tryz.isAgg307
 z45:=Tryz.sizeOf307
 v45:=Tryz.zeroValue307
 t46:=Tryz.underlying308
 a46:=Tryz.isAgg308
 z46:=Tryz.sizeOf308
 v46:=Tryz.zeroValue308
 t50:=Tryz.underlying312
 a50:=Tryz.isAgg312
 z50:=Tryz.sizeOf312
 v50:=Tryz.zeroValue312
 t53:=Tryz.underlying284
 a53:=Tryz.isAgg284
 z53:=Tryz.sizeOf284
 v53:=Tryz.zeroValue284
 t55:=Tryz.underlying56
 a55:=Tryz.isAgg56
 z55:=Tryz.sizeOf56
 v55:=Tryz.zeroValue56
 t66:=Tryz.underlying331
 a66:=Tryz.isAgg331
 z66:=Tryz.sizeOf331
 v66:=Tryz.zeroValue331
 t70:=Tryz.underlying335
 a70:=Tryz.isAgg335
 z70:=Tryz.sizeOf335
 v70:=Tryz.zeroValue335
 t76:=Tryz.underlying353
 a76:=Tryz.isAgg353
 z76:=Tryz.sizeOf353
 v76:=Tryz.zeroValue353
 t77:=Tryz.underlying50
 a77:=Tryz.isAgg50
 z77:=Tryz.sizeOf50
 v77:=Tryz.zeroValue50 }
set_option maxRecDepth 100000
abbrev pB:Type:=Int×Int×Unit
def wR(x y:pB):Int:=Lx x.1 x.2.1 y.1 y.2.1
theorem RE{F:Nat→Prop}{w:World}(x:pB):aD F w (.agg [.int .i64 x.1,.int .i64 x.2.1]) (.agg (ni x).toArray):=by
 refine .agg _ _ rfl (fun i a h=>?_) (fun i a h=>?_)
 ·match i,h with
  | 0,h=>cases h;rfl
  | 1,h=>cases h;rfl
 ·match i,h with
  | 0,h=>cases h;exact .int _ _
  | 1,h=>cases h;exact .int _ _
theorem aao(blk off size:Nat)(w:World):CmpLays Tryz.prog 182 #[] ni 2 wR blk off size w:=fun m os dk _ x y=>by
 have h:=O0 (fun σ=>afI x.1 x.2.1 y.1 y.2.1 σ) (w:=sortWorldK ni 2 w blk off m dk os) (vs:= #[.agg (ni x).toArray,.agg (ni y).toArray]) ⟨rfl,fun i a h=>by
  match i,h with
  | 0,h=>cases h;exact RE x
  | 1,h=>cases h;exact RE y⟩
 exact h
theorem Fx(x y:pB):ltOf wR x y=decide (x.1<y.1∨(x.1=y.1∧x.2.1<y.2.1)):=by
 unfold ltOf;rw[decide_eq_decide];unfold wR Lx Aw wS;split <;> split at * <;> (try split at *) <;> (try split) <;> omega
theorem afO:Go.Sort.SWO (ltOf wR) where
 irrefl x:=by rw[Fx];simp
 trans x y z h1 h2:=by rw[Fx]at *;simp only[decide_eq_true_eq]at *;omega
 ntrans x y z h1 h2:=by rw[Fx]at *;simp only[decide_eq_false_iff_not]at *;omega
theorem afN(x y:pB)(h1:ltOf wR x y=false)(h2:ltOf wR y x=false):x=y:=by
 rw[Fx]at *;simp only[decide_eq_false_iff_not]at *;obtain⟨a,b,_⟩:=x;obtain⟨c,d,_⟩:=y;have e1:a=c:=by simp only at h1 h2;omega
 have e2:b=d:=by simp only at h1 h2;omega
 rw[e1,e2]
def rT(l:List pB):List pB:=l.mergeSort fun x y=> !(ltOf wR) y x
theorem Es(l:List pB):(rT l).length=l.length:=M5 ..
theorem NW:Enters Tryz.prog 181:=enters_of Tryz.func181 (by kernel_rfl)
theorem V4:Enters Tryz.prog 182:=enters_of Tryz.func182 (by kernel_rfl)
theorem Qn{vs:Array Value}(h:2=vs.size):∃v u,vs = #[v,u]:=by
 refine⟨vs.getD 0 undef,vs.getD 1 undef,Array.ext ?_ fun i h2 h3=>?_⟩
 ·simp[← h]
 ·have:i=0∨i=1:=by omega
  rcases this with rfl | rfl <;> simp[Array.getD,h2]
theorem fnv{F:Nat→Prop}{w:World}{f:Fn}{v:Value}(h:aD F w (.fn f [] []) v):v=.func f #[] #[]:=by
 cases h with
 |fn _ _ _ v1 v2 fj dw _ _=>
  rw[H9 fj.symm,H9 dw.symm]
theorem abF(x:pB):∀v∈ni x,v.oneCell'=true:=by
 intro v hv;simp only[ni,dW,sC,or_false]at hv
 rcases hv with rfl | rfl <;> rfl
theorem Tg(b:Nat)(L:List pB)(n:Nat)(σ:Hp)(hz:L.length=n)(hl:n≤1000000):ACalls Tryz.prog 181 [.af b 0 n 2,.fn (.func 182) [] []] ((b,mu L)::σ) (ay (.tup []) ((b,mu (rT L))::σ)):=by
 subst hz;refine⟨NW,fun F w vs bY aG =>?_⟩;obtain⟨v,u,rfl⟩:=Qn bY.1;have hv:aD F w (.af b 0 L.length 2) v:=bY.2 0 _ rfl;obtain rfl:=fnv (show aD F w (.fn (.func 182) [] []) u from bY.2 1 _ rfl);obtain⟨a,cap,rfl,c,T,fz,m1,m2,m3,m4⟩:=hv.kK
 rcases m4 with ⟨rfl,_⟩ | ⟨_,_,h0,_⟩
 ·obtain⟨h1,h2⟩:=adX (d:=Go.Sort.flatK ni 2 L.toArray) aG (SN L) (by rw[Go.Sort.size_flatK,xN];rfl) (fun i x hx v hv=>by
   obtain⟨z,rfl,hz⟩:=RR L i x hx
   rw[hz];exact hv.gq)
  have h:Calls Tryz.prog 181 #[.slice (some ⟨b,0,none⟩) L.length cap,.func (.func 182) #[] #[]] w fun e w'=>e=.returned (.tuple #[])∧∃n os,w'=sortWorldK ni 2 w b 0 n (rT L).toArray os:=AnyQ.slices_SortFunc_total Kl 2 Tryz.isAgg227 Tryz.sizeOf227 ni (fun _=>rfl) abF wR afO 182 #[] b 0 cap L.toArray w V4 (aao b 0 L.length w) h1 h2 (by show L.length<_;omega) afN;refine h.mono ?_;rintro e w' ⟨rfl,n,os,rfl⟩
  obtain⟨k1,k2⟩:=ZD (n:=n) (cs':=mu (rT L)) (d:=Go.Sort.flatK ni 2 (rT L).toArray) aG (SN L) (by rw[xN,xN,Es]) (by rw[Go.Sort.size_flatK,xN];rfl) (fun i x hx=>by
   obtain⟨z,rfl,hz⟩:=RR (rT L) i x hx
   rw[hz];exact⟨rfl,.int _ _⟩) os
  exact⟨.tup [],.tuple #[],_,F,rfl,k1,k2,.tup [] #[] rfl fun i x h=>by simp at h,rfl,rfl⟩
 ·have hz:L=[]:=fE.1 h0;subst hz;have h:Calls Tryz.prog 181 #[.slice (some a) 0 cap,.func (.func 182) #[] #[]] w fun e w'=>e=.returned (.tuple #[])∧w'=w:=AnyF.slices_SortFunc_none Kl (some a) cap _ w;have he:rT []=[]:=fE.1 (Es []);rw[he];refine h.mono ?_;rintro e w' ⟨rfl,rfl⟩;exact⟨.tup [],.tuple #[],_,F,rfl,.refl _ _,aG,.tup [] #[] rfl fun i x h=>by simp at h,rfl,rfl⟩
abbrev lS:Sh:=.field (.int .i64) (.field (.int .i64) .nil)
theorem ade(L:List pB)(σ:Hp)(hl:L.length≤1000000)(h0:L≠[]):ACalls Tryz.prog 180 [.ae lS L] σ (fun x σ'=>∃b,x=.af b 0 L.length 2∧σ'=(b,mu L)::σ):=by
 refine ao Tryz.func180 ?_;refine aF.mk (l9.2 h0) ?_;intro b2;refine AppendAt.more 0 b2 0 L.length [] (mu L) rfl rfl (cj rfl) (.ae _ _ rfl) (by omega) (by decide) (by decide) (fun b'=>?_);refine .done ⟨b',?_,?_⟩
 ·rw[dD];rfl
 ·rfl
theorem aaZ(σ:Hp):ACalls Tryz.prog 180 [.ag] σ (ay .ag σ):=by
 refine ao Tryz.func180 ?_;exact .done ⟨rfl,rfl⟩
theorem aaY(σ:Hp):ACalls Tryz.prog 180 [.gz] σ (fun x σ'=>∃b,x=.af b 0 0 2∧σ'=(b,[])::σ):=by
 refine ao Tryz.func180 ?_;intro b2;refine AppendAt.more 0 b2 0 0 [] [] rfl rfl (cj rfl) .gz (by omega) (by decide) (by decide) (fun b'=>?_);exact .done ⟨b',rfl,rfl⟩
theorem acM(σ:Hp):ACalls Tryz.prog 181 [.ag,.fn (.func 182) [] []] σ (ay (.tup []) σ):=by
 refine⟨NW,fun F w vs bY aG =>?_⟩;obtain⟨v,u,rfl⟩:=Qn bY.1;have hv:aD F w .ag v:=bY.2 0 _ rfl;cases hv;have h:Calls Tryz.prog 181 #[.slice none 0 0,u] w fun e w'=>e=.returned (.tuple #[])∧w'=w:=AnyF.slices_SortFunc_none Kl none 0 u w;refine h.mono ?_;rintro e w' ⟨rfl,rfl⟩;exact⟨.tup [],.tuple #[],_,F,rfl,.refl _ _,aG,.tup [] #[] rfl fun i x h=>by simp at h,rfl,rfl⟩
theorem XA(σ:Hp):ACalls Tryz.prog 185 [.ag,.fn (.func 186) [] []] σ (ay .ag σ):=by
 refine ao Tryz.func185 ?_;exact .done ⟨rfl,rfl⟩
def zq(L:List pB):List pB:=wE (rT L)
theorem Wl(L:List pB)(σ:Hp)(hl:L.length≤1000000):ACalls Tryz.prog 133 [.ae lS L] σ (ay (.ae lS (zq L)) σ):=by
 have hn:rT []=[]:=fE.1 (Es []);have np:zq []=[]:=by unfold zq;rw[hn];rfl
 refine Bq (fun h=>?_) (fun h=>?_)
 ·subst h;refine⟨?_,?_⟩
  ·refine ao Tryz.func133 ?_;refine aw [] (aaZ σ) ?_;refine aw [] (acM _) ?_;refine aw [] (XA _) ?_;exact .nil (.nil lS) (.done ⟨congrArg (AV.ae lS) np.symm,rfl⟩)
  ·refine ao Tryz.func133 ?_;refine .mk [] _ (aaY σ) ?_;rintro _ _ ⟨b,rfl,rfl⟩;have hs:=Tg b [] 0 σ rfl (by decide);rw[hn]at hs;refine aw [] hs ?_;refine .mk [] _ (Qb b [] σ (by decide)) ?_;rintro _ _ ⟨k,cs,hk,fU,rfl,rfl⟩;subst hk;exact .cb 0 b 0 _ 2 cs lS ([]:List pB) rfl fU ⟨rfl,rfl,by decide⟩ .here (.done ⟨congrArg (AV.ae lS) np.symm,rfl⟩)
 ·refine ao Tryz.func133 ?_;refine .mk [] _ (ade L σ hl h) ?_;rintro _ _ ⟨b,rfl,rfl⟩;refine aw [] (Tg b L L.length σ rfl hl) ?_;have bP:(rT L).length=L.length:=Es L;have hc:=Qb b (rT L) σ (by rw[bP];exact hl);rw[bP]at hc;refine .mk [] _ hc ?_;rintro _ _ ⟨k,cs,hk,fU,rfl,rfl⟩;subst hk;exact .cb 0 b 0 _ 2 cs lS (zq L) rfl fU ⟨rfl,rfl,by decide⟩ .here (.done ⟨rfl,rfl⟩)
theorem YB{α:Type}(fr σ:List α)(x:α):(fr++(x::σ)).eraseIdx fr.length=fr++σ:=by
 rw[List.eraseIdx_append_of_length_le (bg _),l7];rfl
theorem R5{α:Type}(fr σ:List α)(x:α):(fr++(x::σ))[fr.length]?=some x:=by
 rw[iL (bg _),l7];rfl
theorem JO{α:Type}(fr σ:List α)(x y:α):(fr++(x::σ)).set fr.length y=fr++(y::σ):=by
 rw[Ec _ _ (bg _),l7];rfl
theorem aar{e:Sh}{k:Nat}{v:AV}{acc:Hp}{cs:List AV}{l:List e.T}{f:FuncId}{K:AV→Hp→Prop}(fr:Hp){σ:Hp}{xs ys:List AV}(h:Acc e.size k v acc cs)(hl:k=l.length)(hc:cs=l.flatMap e.cells)(hp:0<e.size)
  (hr:∀{b off len es:Nat} {e':Sh} {l':List e'.T},eB b off len es e' l' v (.ae e l)→eB b off len es e' l' (.tup xs) (.tup ys)) (go:CallAt Tryz.prog f K ys (fr++σ)):CallAt Tryz.prog f K xs (fr++(acc++σ)):=by
 cases h with
 |nil=>
  obtain rfl:=fE.1 hl.symm;exact .mk [] K (EL (hr (.nil e)) (tY go)) fun _ _ h=>h
 |af b k cs h=>
  refine .cb (args':=ys) fr.length b 0 k e.size cs e l (R5 fr σ _) (by rw[fy,dZ (by omega)];exact hc) ⟨hl.symm,rfl,hp⟩ (hr .here) ?_;rw[show (fr++([(b,cs)]++σ)).eraseIdx fr.length=fr++σ from YB fr σ _];exact go
theorem ab3(l:List (Sh.T lS))(σ:Hp)(hl:l.length≤1000000):ACalls Tryz.prog 180 [.ae lS l] σ (fun x σ'=>∃acc,Acc 2 l.length x acc (l.flatMap (Sh.cells lS))∧σ'=acc++σ):=by
 refine Bq (fun h=>⟨?_,?_⟩) (fun h=>?_)
 ·subst h;refine ao Tryz.func180 ?_;exact .done ⟨[],.nil,rfl⟩
 ·subst h;refine ao Tryz.func180 ?_;intro b;refine AppendAt.more 0 b 0 0 [] _ rfl rfl (cj rfl) .gz (by decide) (by decide) (by decide) (fun b'=>?_);exact .done ⟨[(b',[])],.af b' 0 [] rfl,rfl⟩
 ·refine ao Tryz.func180 ?_;refine aF.mk (l9.2 h) ?_;intro b;refine AppendAt.more 0 b 0 l.length [] _ rfl rfl (cj rfl) (.ae lS l rfl) (by omega) (by decide) (by decide) (fun b'=>?_);refine .done ⟨[(b',l.flatMap (Sh.cells lS))],?_,rfl⟩;rw[dD];exact .af b' l.length _ (sM (f:=Sh.cells lS) (es:=2) (fun _=>rfl) l)
theorem ab2(l:List (Sh.T lS))(σ:Hp)(hl:l.length≤1000000):ACalls Tryz.prog 180 [.ae lS l] σ (ay (.ae lS l) σ):=by
 refine (ab3 l σ hl).fin ?_;rintro v σ' ⟨acc,bF,rfl⟩;exact lH (s:=lS) [] bF rfl rfl (by decide) (.done ⟨rfl,rfl⟩)
theorem ab1(l:List (Sh.T (.int .i64)))(σ:Hp)(hl:l.length≤1000000):ACalls Tryz.prog 220 [.ae (.int .i64) l] σ (fun x σ'=>∃acc,Acc 1 l.length x acc (l.flatMap (Sh.cells (.int .i64)))∧σ'=acc++σ):=by
 refine Bq (fun h=>⟨?_,?_⟩) (fun h=>?_)
 ·subst h;refine ao Tryz.func220 ?_;exact .done ⟨[],.nil,rfl⟩
 ·subst h;refine ao Tryz.func220 ?_;intro b;refine AppendAt.more 0 b 0 0 [] _ rfl rfl (cj rfl) .gz (by decide) (by decide) (by decide) (fun b'=>?_);exact .done ⟨[(b',[])],.af b' 0 [] rfl,rfl⟩
 ·refine ao Tryz.func220 ?_;refine aF.mk (l9.2 h) ?_;intro b;refine AppendAt.more 0 b 0 l.length [] _ rfl rfl (cj rfl) (.ae (.int .i64) l rfl) (by omega) (by decide) (by decide) (fun b'=>?_);refine .done ⟨[(b',l.flatMap (Sh.cells (.int .i64)))],?_,rfl⟩;rw[dD];exact .af b' l.length _ (sM (f:=Sh.cells (.int .i64)) (es:=1) (fun _=>rfl) l)
theorem ab0(l:List (Sh.T (.int .i64)))(σ:Hp)(hl:l.length≤1000000):ACalls Tryz.prog 220 [.ae (.int .i64) l] σ (ay (.ae (.int .i64) l) σ):=by
 refine (ab1 l σ hl).fin ?_;rintro v σ' ⟨acc,bF,rfl⟩;exact lH (s:=(.int .i64)) [] bF rfl rfl (by decide) (.done ⟨rfl,rfl⟩)
theorem ab5(l:List (Sh.T jg))(σ:Hp)(hl:l.length≤1000000):ACalls Tryz.prog 222 [.ae jg l] σ (fun x σ'=>∃acc,Acc 8 l.length x acc (l.flatMap (Sh.cells jg))∧σ'=acc++σ):=by
 refine Bq (fun h=>⟨?_,?_⟩) (fun h=>?_)
 ·subst h;refine ao Tryz.func222 ?_;exact .done ⟨[],.nil,rfl⟩
 ·subst h;refine ao Tryz.func222 ?_;intro b;refine AppendAt.more 0 b 0 0 [] _ rfl rfl (cj rfl) .gz (by decide) (by decide) (by decide) (fun b'=>?_);exact .done ⟨[(b',[])],.af b' 0 [] rfl,rfl⟩
 ·refine ao Tryz.func222 ?_;refine aF.mk (l9.2 h) ?_;intro b;refine AppendAt.more 0 b 0 l.length [] _ rfl rfl (cj rfl) (.ae jg l rfl) (by omega) (by decide) (by decide) (fun b'=>?_);refine .done ⟨[(b',l.flatMap (Sh.cells jg))],?_,rfl⟩;rw[dD];exact .af b' l.length _ (sM (f:=Sh.cells jg) (es:=8) (fun _=>rfl) l)
theorem ab4(l:List (Sh.T jg))(σ:Hp)(hl:l.length≤1000000):ACalls Tryz.prog 222 [.ae jg l] σ (ay (.ae jg l) σ):=by
 refine (ab5 l σ hl).fin ?_;rintro v σ' ⟨acc,bF,rfl⟩;exact lH (s:=jg) [] bF rfl rfl (by decide) (.done ⟨rfl,rfl⟩)
theorem acB(l:List Int)(σ:Hp)(hl:l.length≤1000000):ACalls Tryz.prog 221 [.ae (.int .u64) l] σ (fun x σ'=>∃b,x=.af b 0 l.length 1∧σ'=(b,aU l)::σ):=by
 refine ao Tryz.func221 ?_;have hn:(l.length:Int)≤1048576:=by omega
 refine aF.mk ⟨MT _,kU _,hn,by decide⟩ ?_;intro ax;have hr:(cP [.int .u64 0] ((l.length:Int)).toNat).length=l.length:=by rw[bD,vP];exact dH _
 refine KE.af 0 ax 0 l.length l.length _ (l.flatMap (Sh.cells (.int .u64))) rfl rfl (by show 0+l.length*1≤(cP [.int .u64 0] ((l.length:Int)).toNat).length;rw[hr];omega) (.ae (.int .u64) l rfl) (bg _) ?_
 have he:fG (cP [.int .u64 0] ((l.length:Int)).toNat) 0 (l.flatMap (Sh.cells (.int .u64)))=aU l:=by
  rw[← nz];have h:=IE (aU l) [] (cP [.int .u64 0] ((l.length:Int)).toNat) [] (by rw[hr];simp[aU]);simpa using h
 exact .done ⟨ax,rfl,congrArg (fun cs=>(ax,cs)::σ) he⟩
theorem J7(l:List Int)(σ:Hp)(hl:l.length≤1000000):ACalls Tryz.prog 221 [.ae (.int .u64) l] σ (ay (.ae (.int .u64) l) σ):=by
 refine (acB l σ hl).fin ?_;rintro v σ' ⟨b,rfl,rfl⟩;exact .cb 0 b 0 l.length 1 _ (.int .u64) l rfl (by rw[List.drop_zero,← nz];exact List.take_of_length_le (by simp[aU])) ⟨rfl,rfl,by decide⟩ .here (.done ⟨rfl,rfl⟩)
def yb:Option lC→List AV
 |none=>[.ag,.ag,.ag]
 |some t=>[.ae (.int .u64) t.1,.ae (.int .u64) t.2.1,.ae jg t.2.2.1]
theorem XI(t:Option lC):(yb t).length=3:=by cases t <;> rfl
def tk(T:List lC)(k:Nat):List (Option lC):=(T.take k).map some++List.replicate (T.length-k) none
theorem Yz(T:List lC):(tk T 0).flatMap yb=cP [.ag,.ag,.ag] T.length:=by
 show (List.replicate (T.length-0) none).flatMap yb=_;rw[Nat.sub_zero];generalize T.length=n
 induction n with
 |zero=>rfl
 |succ n ih=>rw[Ih,sD,ih];rfl
theorem aab{T:List lC}{k:Nat}(h:k≤T.length):(tk T k).length=T.length:=by unfold tk;simp;omega
theorem aaa{T:List lC}{k:Nat}(h:k<T.length):(tk T k).set k (some T[k])=tk T (k+1):=by
 unfold tk;rw[List.set_append_right _ _ (by simp;omega)];have e:T.length-k=(T.length-(k+1))+1:=by omega
 have e2:k-((T.take k).map some).length=0:=by simp;omega
 rw[e2,e,Ih,eM h];simp only[cE,pn,List.map_nil,cU,AW,sA,List.set_cons_zero]
theorem aac(T:List lC):(tk T T.length).flatMap yb=T.flatMap (Sh.cells j9):=by
 unfold tk;rw[l7,er,List.replicate_zero,fC,List.flatMap_map];rfl
theorem Y4(s:Sy)(σ:Hp)(hf:Fit s):ACalls Tryz.prog 162 [.agg (aP s)] σ (ay (.agg (aP s)) σ):=by
 refine ao Tryz.func162 ?_;intro ax;intro bX;refine .sched [2,5,8] (upto [2,5,8] 15 0) (by kernel_rfl) ?_;refine aa 1 ?_;refine aN [] (ab2 s.cd _ (dE hf.wQ (by decide))) ?_;refine aa 1 ?_;refine aN [] (ab0 s.entry _ (dE hf.wK (by decide))) ?_;refine aa 1 ?_;refine aN [] (J7 s.init _ (dE hf.CL (by decide))) ?_;refine ah 1 ?_;refine ah 1 ?_;refine ah 1 ?_;refine aa 1 ?_;have hT:=hf.uH;have DF:(s.T.length:Int)≤1048576:=by omega
 refine aF.mk ⟨MT _,kU _,DF,by decide⟩ ?_;intro bt;have ry:(bt,cP [AV.ag,AV.ag,AV.ag] ((s.T.length:Int)).toNat)=(bt,(tk s.T 0).flatMap yb):=by rw[Yz,bD]
 refine aa 2 ?_;refine bc (S:=Nat) (fun k=>[(1,.ptr ax 0),(2,.ptr bX 0),(3,.af bt 0 s.T.length 3),(23,.ae j9 s.T),(24,.int .i64 s.T.length),(25,.int .i64 k)]) (fun k=>(bt,(tk s.T k).flatMap yb)::(bX,[.int .i64 0,.int .i64 0,.int .i64 0,.ag,.ag,.ag,.ag])::(ax,aP s)::σ) (fun k=>k≤s.T.length) (fun k=>s.T.length-k) 0 ⟨aV _,⟨rfl,rfl,rfl,rfl,rfl,rfl,trivial⟩,congrArg (· :: (bX,([.int .i64 0,.int .i64 0,.int .i64 0,.ag,.ag,.ag,.ag]:List AV))::(ax,aP s)::σ) ry⟩ ?_;rintro k g aK;have hk:k≤s.T.length:=aK;clear aK;refine ai (fun ab=>?_) (fun ak=>?_)
 ·have ab:k<s.T.length:=by have ab:(k:Int)<s.T.length:=ab;omega
  have iV:=aaa ab;have w6:=hf.ts _ (bU ab);obtain⟨t,ht⟩:∃t:lC,s.T[k]=t:=⟨_,rfl⟩
  rw[ht]at iV w6;obtain⟨t1,t2,t3,tu⟩:=t;obtain⟨_,_,l1,l2,l3⟩:=w6;have l1:t1.length≤10000:=l1;have l2:t2.length≤10000:=l2;have l3:t3.length≤100000:=l3;refine aF.mk rfl (aY.mk (t1,t2,t3,tu) (by omega) ((get_some ab).trans (congrArg some ht)) ?_);intro ax;refine ah 0 ?_;refine .sched [4,7,10] (upto [4,7,10] 14 0) (by kernel_rfl) ?_;refine aa 0 ?_;refine aN [] (J7 t1 _ (dE l1 (by decide))) ?_;refine aa 0 ?_;refine aN [] (J7 t2 _ (dE l2 (by decide))) ?_;refine aa 0 ?_;refine aN [] (ab4 t3 _ (dE l3 (by decide))) ?_;refine aH ?_;refine bM 1 rfl ((Po rfl XI (by rw[aab hk];exact ab) (some (t1,t2,t3,tu)) rfl).trans (congrArg (fun l=>some (List.flatMap yb l)) iV)) ?_;exact aM (k+1) (by show s.T.length-(k+1)<s.T.length-k;omega) ab ⟨rfl,rfl,rfl,rfl,rfl,aI (by omega),trivial⟩ (.drop 0 1 (.refl _))
 ·have ak:k=s.T.length:=by have ak:¬(k:Int)<s.T.length:=ak;omega
  subst ak;rw[aac];refine ah 2 ?_;refine aa 2 ?_;refine ah 1 ?_;refine aa 1 ?_;refine .cb 0 bt 0 s.T.length 3 _ j9 s.T rfl ?_ ⟨rfl,rfl,by decide⟩ (zB (bZ (.refl _) (bZ (.refl _) (bZ (.refl _) (bZ (.refl _) (bZ (.refl _) (bZ (.refl _) (bZ .here sU))))))) rfl) (.drop 0 2 (.done ⟨rfl,rfl⟩));rw[fy];exact dZ (vG (sM (f:=Sh.cells j9) (es:=3) (fun _=>rfl) s.T))
theorem QP:∀(n:Nat) (l:List Int),l.Nodup→(∀z∈l,0≤z∧z<n)→l.length≤n
 | 0,l,_,h=>by
  cases l with
  |nil=>exact bg _
  |cons z l=>have:=h z (cF ..);omega
 |n+1,l,hn,h=>by
  have h1:=QP n (l.erase (n:Int)) (hn.erase _) (fun z hz=>by
   rw[hn.mem_erase_iff]at hz;have:=h z hz.2;have:=hz.1
   omega)
  rw[List.length_erase]at h1;split at h1 <;> omega
def jx(n:Nat)(l:List Int):Prop:=l.Nodup∧∀z∈l,0≤z∧z<n
theorem jx.len{n:Nat}{l:List Int}(h:jx n l):l.length≤n:=QP n l h.1 h.2
theorem jx.nil(n:Nat):jx n []:=⟨H7,fun _ h=>(sC h).elim⟩
theorem jx.snoc{n:Nat}{l:List Int}{a:Int}(h:jx n l)(ha:¬a∈l)(h2:0≤a∧a<n):jx n (l++[a]):=by
 refine⟨?_,fun z hz=>?_⟩
 ·rw[ma];refine⟨h.1,by simp,fun x hx y hy=>?_⟩;rw[bj.1 hy];exact fun he=>ha (he▸hx)
 ·rcases bQ.1 hz with hz | hz
  ·exact h.2 z hz
  ·rw[bj.1 hz];exact h2
theorem jx.perm{n:Nat}{l l2:List Int}(h:jx n l)(hp:l.Perm l2):jx n l2:=⟨hp.nodup_iff.1 h.1,fun z hz=>h.2 z (hp.mem_iff.2 hz)⟩
theorem jx.right{n:Nat}{l l2:List Int}(h:jx n (l++l2)):jx n l2:=⟨(ma.1 h.1).2.1,fun z hz=>h.2 z (bQ.2 (.inr hz))⟩
theorem acz{k:Nat}{v:AV}{acc:Hp}{cs:List AV}(fr σ:Hp)(h:Acc 1 k v acc cs):ji (fr++(acc++σ)) 1 v k cs:=by
 have hl:=h.length;cases h with
 |nil=>exact .ag
 |af b k cs h=>
  have:=ji.af (σ:=fr++([(b,cs)]++σ)) (es:=1) fr.length b 0 k cs (R5 fr σ _) (by omega);rw[fy,dZ (by omega)]at this;exact this
abbrev LK(met:List Int)(a:Int):List AV:=(([]:List AV)++aj met).take ((0+met.length)*1)++[.int .i64 a]
theorem adt(met:List Int)(a:Int):LK met a=aj (met++[a]):=by
 show (aj met).take ((0+met.length)*1)++[.int .i64 a]=_;rw[dZ (by rw[rM];omega)];unfold aj;rw[cE];rfl
theorem aeU(met:List Int):(0+met.length)*1≤(([]:List AV)++aj met).length:=by
 show (0+met.length)*1≤(aj met).length;rw[rM];omega
theorem ads(met:List Int)(a:Int)(b:Nat):Acc 1 (met++[a]).length (.af b 0 (0+met.length+1) 1) [(b,LK met a)] (aj (met++[a])):=by
 rw[adt,show 0+met.length+1=(met++[a]).length by simp];exact .af b _ _ (by rw[rM,dH])
abbrev ViS:=Nat×List Int×AV×Hp×AV×Hp
def ah4(n:Nat)(nx met:List Int)(a:Int)(s:ViS):Prop:=s.1≤nx.length∧jx n (met++[a]++s.2.1)∧Acc 1 (met++[a]++s.2.1).length s.2.2.1 s.2.2.2.1 (aj (met++[a]++s.2.1))∧Acc 1 s.2.1.length s.2.2.2.2.1 s.2.2.2.2.2 (aj s.2.1)
theorem S3{l:List Int}{k:Nat}(h:k<l.length):l[k]?=some (l.getD k 0):=by
 rw[bK,bu h];rfl
abbrev Is:=Nat×List Int×AV×Hp
def LG(n B:Nat)(s:Is):Prop:=(s.2.1.length≤B∧∀z∈s.2.1,0≤z∧z<n)∧Acc 1 s.2.1.length s.2.2.1 s.2.2.2 (aj s.2.1)
theorem Se{F:Nat→Prop}{w:World}{σ:Hp}(h:bA F w σ){i b' k:Nat}{cs':List AV}{c c':AV}(hl:c'.leaf=true)(fk:c.leaf=true)(hc:∀v,aD F w c v→aD F w c' v)(hi:σ[i]?=some (b',cs'))(hk:cs'[k]?=some c):bA F w (σ.set i (b',cs'.set k c')):=by
 refine⟨?_,fun p hp=>?_,h.low⟩
 ·have e1:(σ.set i (b',cs'.set k c')).map Prod.fst=σ.map Prod.fst:=by
   rw[sB];refine List.ext_getElem (by simp) fun j h1 h2=>?_;rw[D2];split
   ·rename_i hj;subst hj
    obtain⟨q1,q2⟩:=cW.1 hi;rw[D1,q2]
   ·rfl
  rw[e1];exact h.nodup
 ·rcases A7 hp with hp | rfl
  ·exact h.holds p hp
  ·obtain⟨h1,c0,T,h2,h3,h4⟩:=(h.holds _ (dz hi)).KM hk fk;refine⟨h1,.inl ⟨c0,T,h2,by rw[dY];exact h3,fun j x hx=>?_⟩⟩;rw[gQ]at hx;split at hx
   ·rename_i hj;subst hj
    split at hx
    ·cases hx;exact⟨hl,hc _ (h4 k _ hk).2⟩
    ·cases hx
   ·exact h4 j x hx
abbrev iZ:=AV×Hp×List Int
def rU(r:iZ):Prop:=(r.1=.ag∧r.2.1=[]∧r.2.2=[])∨(∃v,r.1=.via v∧Acc 1 r.2.2.length v r.2.1 (aj r.2.2))
def iP(rs:List iZ):List AV:=rs.map (·.1)
def iQ(rs:List iZ):Hp:=rs.flatMap (·.2.1)
def iO(rs:List iZ):List (List Int):=rs.map (·.2.2)
theorem JQ:∀(A:List (List Int)) (l:List Int) (B:List AV),(cD A++.ae (.int .i64) l::B)=cD (A++[l])++B
 | [],_,_=>rfl
 |a::A,l,B=>congrArg (AV.ae (.int .i64) a :: ·) (JQ A l B)
theorem abE(A:List (List Int)):(cD A).length=A.length:=cN _
theorem JP{w:World}{bo:Nat}{σ:Hp}:∀(B:List iZ) (A:List (List Int)) (F:Nat→Prop),(∀r∈B,rU r)→bA F w ((bo,cD A++iP B)::(iQ B++σ))→∃F',bH F w F' w∧bA F' w ((bo,cD (A++iO B))::σ)
 | [],A,F,_,h=>⟨F,⟨rfl,rfl,rfl,bg _,fun _ h=>h,fun _ _=>rfl,fun _ c _ fz h=>⟨c,fz,h,rfl⟩,bg _⟩,by
  have h:bA F w ((bo,cD A++[])::σ):=h;rw[fC]at h;rw[show A++iO []=A from fC _]
  exact h⟩
 |(c,acc,l)::B,A,F,hB,h=>by
  have hB':∀r∈B,rU r:=fun r hr=>hB r (dq _ hr);have h:bA F w ((bo,cD A++c::iP B)::(acc++iQ B++σ)):=h;have hk:(cD A++c::iP B)[(cD A).length]?=some c:=by simp
  have jY:acc=[]→l=[]→c.leaf=true→(∀v,aD F w c v→aD F w (.ae (.int .i64) []) v)→∃F',bH F w F' w∧bA F' w ((bo,cD (A++iO ((c,acc,l)::B)))::σ):=fun h1 h2 fk h3=>by
   subst h1;subst h2;have this:bA F w ((bo,(cD A++c::iP B).set (cD A).length (.ae (.int .i64) []))::(iQ B++σ)):=Se h (c':=.ae (.int .i64) []) rfl fk h3 (i:=0) rfl hk;rw[JO]at this;have this:bA F w ((bo,cD A++.ae (.int .i64) []::iP B)::(iQ B++σ)):=this;have this:bA F w ((bo,cD (A++[[]])++iP B)::(iQ B++σ)):=(JQ A [] (iP B))▸this;obtain⟨F',q1,q2⟩:=JP B (A++[[]]) F hB' this;rw[cU]at q2;exact⟨F',q1,q2⟩
  have ep:∀v,aD F w .ag v→aD F w (.ae (.int .i64) []) v:=fun v hv=>by
   cases hv;exact .ae (.int .i64) [] _ ⟨none,0,rfl,bg _,by unfold maxLen;omega,fun _=>rfl,fun bf=>absurd rfl bf⟩
  rcases hB _ (cF ..) with ⟨h1,h2,h3⟩ | ⟨v,h1,h2⟩
  ·have h1:c=.ag:=h1;exact jY h2 h3 (by rw[h1];rfl) (by rw[h1];exact ep)
  ·have h1:c=.via v:=h1;subst h1;have h2:Acc 1 l.length v acc (aj l):=h2;generalize hn:l.length=n at h2;generalize hc:aj l=cs at h2;cases h2 with
   |nil=>
    exact jY rfl (fE.1 hn) rfl (by
     intro v hv;cases hv with
     |via _ _ _ hv=>exact ep _ hv)
   |af b k cs hl=>
    subst hn;subst hc
    have h5:bA F w ((bo,(cD A++.via (.af b 0 l.length 1)::iP B).set (cD A).length (.af b 0 l.length 1))::(b,aj l)::(iQ B++σ)):=Se h (c':=.af b 0 l.length 1) rfl rfl (by
     intro v hv;cases hv with
     |via _ _ _ hv=>exact hv) (i:=0) rfl hk
    rw[JO]at h5;have h5:bA F w ((bo,cD A++.af b 0 l.length 1::iP B)::(b,aj l)::(iQ B++σ)):=h5;obtain⟨aq,aG,hh⟩:=uw h5 (j:=1) (b:=b) (off:=0) (len:=l.length) (es:=1) (cs:=aj l) (e:=.int .i64) (l:=l) rfl (by rw[fy,← ia];exact dZ (by rw[rM];omega)) ⟨rfl,rfl,by decide⟩;have h6:bA _ w ((bo,(cD A++.af b 0 l.length 1::iP B).set (cD A).length (.ae (.int .i64) l))::(iQ B++σ)):=BF aG hh (i:=0) (k:=(cD A).length) (b':=bo) rfl (by simp);rw[JO]at h6;have h6:bA _ w ((bo,cD A++.ae (.int .i64) l::iP B)::(iQ B++σ)):=h6;rw[JQ]at h6;obtain⟨F',q1,q2⟩:=JP B (A++[l]) _ hB' h6;rw[cU]at q2;exact⟨F',aq.trans q1,q2⟩
theorem Ol{f:FuncId}{xs:List AV}{σ0 σ:Hp}{Q:List (List Int)→Prop}(h:ACalls Tryz.prog f xs σ0 (fun r σ'=>∃bo rs,r=.af bo 0 (rs:List iZ).length 1∧σ'=(bo,iP rs)::(iQ rs++σ)∧(∀r∈rs,rU r)∧Q (iO rs))):ACalls Tryz.prog f xs σ0 (fun r σ'=>∃ls:List (List Int),r=.ae (.slice (.int .i64)) ls∧σ'=σ∧Q ls):=
 ⟨h.1,fun F w vs bY aG=>(h.2 F w vs bY aG).mono fun _ w' ⟨r,v,σ',F',h1,h2,h3,h4,h5⟩=>by
  obtain⟨bo,rs,rfl,rfl,q1,q2⟩:=h5;obtain⟨F2,k1,k2⟩:=JP rs [] F' q1 h3;have hl:(iO rs).length=rs.length:=cN _;have k2:bA F2 w' ((bo,cD (iO rs))::σ):=k2;obtain⟨m1,m2,m3⟩:=uw k2 (j:=0) (b:=bo) (off:=0) (len:=rs.length) (es:=1) (cs:=cD (iO rs)) (e:=.slice (.int .i64)) (l:=iO rs) rfl (by rw[fy,← ub];exact dZ (by rw[abE,hl];omega)) ⟨hl,rfl,by decide⟩
  exact⟨.ae (.slice (.int .i64)) (iO rs),v,σ,_,h1,(h2.trans k1).trans m1,m2,m3 v (h4.mono k1),iO rs,rfl,rfl,q2⟩⟩
theorem Pn(rs:List iZ):(iP rs).length=rs.length:=cN _
theorem Qv(A:List iZ)(r:iZ)(B:List iZ){z:Int}(hz:z=A.length):(iP (A++r::B))[0+z.toNat*1]?=some r.1:=by
 subst hz;rw[bD,dH,dD];unfold iP;rw[fD];simp
theorem Pm(A:List iZ)(r r2:iZ)(B:List iZ){z:Int}(hz:z=A.length):(iP (A++r::B)).set (0+z.toNat*1) r2.1=iP (A++r2::B):=by
 subst hz;rw[bD,dH,dD];unfold iP;simp
theorem Qz(n:Nat):cP [.ag] n=iP (List.replicate n (.ag,[],[])):=by
 induction n with
 |zero=>rfl
 |succ n ih=>show AV.ag::cP [.ag] n=_;rw[ih];rfl
theorem Pq(n:Nat):iQ (List.replicate n (.ag,[],[]))=[]:=by
 induction n with
 |zero=>rfl
 |succ n ih=>exact ih
theorem vU(A:List iZ)(r:iZ)(B:List iZ)(σ:Hp):iQ (A++r::B)++σ=iQ A++(r.2.1++(iQ B++σ)):=by
 unfold iQ;simp
def zI(s:Sy):Int:=if cx s=0 then IntKind.i64.wrap (s.n*kE s.what s.w) else 0
def zM(s:Sy):Int:=if cx s=0 then IntKind.i64.wrap (s.n+IntKind.i64.wrap (((zq s.cd).length:Int)*kE s.what s.w)) else 0
theorem ac0{s:Sy}(h:cx s=0):IntKind.i64.wrap (s.n*kE s.what s.w)=zI s:=(az h).symm
theorem abZ{s:Sy}(h:¬cx s=0):0=zI s:=(aB h).symm
theorem aco{s:Sy}(h:cx s=0):IntKind.i64.wrap (s.n+IntKind.i64.wrap (((zq s.cd).length:Int)*kE s.what s.w))=zM s:=(az h).symm
theorem acn{s:Sy}(h:¬cx s=0):0=zM s:=(aB h).symm
theorem Xu(s:Sy)(σ:Hp)(hf:Fit s):ACalls Tryz.prog 139 [.agg (aP s)] σ (ay (.int .i64 (zI s)) σ):=by
 refine ao Tryz.func139 ?_;intro ax;refine aa 0 ?_;refine aw [] (xT s _ hf) ?_;refine cO (fun c2=>?_) (fun c2=>?_)
 ·have c2:¬(cx s=0):=by simpa using c2
  exact .drop 0 1 (.done ⟨aQ (abZ (by assumption)),rfl⟩)
 ·have c2:cx s=0:=by simpa using c2
  refine .quiet (by kernel_rfl) ?_;refine aa 0 ?_;refine aa 0 ?_;refine aa 0 ?_;refine aN [] (Fj _ _ _) ?_;exact .drop 0 1 (.done ⟨aQ (ac0 (by assumption)),rfl⟩)
theorem Xv(s:Sy)(σ:Hp)(hf:Fit s):ACalls Tryz.prog 138 [.agg (aP s)] σ (ay (.int .i64 (zM s)) σ):=by
 refine ao Tryz.func138 ?_;intro ax;refine aa 0 ?_;refine aw [] (xT s _ hf) ?_;refine cO (fun c2=>?_) (fun c2=>?_)
 ·have c2:¬(cx s=0):=by simpa using c2
  exact .drop 0 1 (.done ⟨aQ (acn (by assumption)),rfl⟩)
 ·have c2:cx s=0:=by simpa using c2
  refine .quiet (by kernel_rfl) ?_;refine aa 0 ?_;refine aa 0 ?_;refine aN [] (Wl s.cd _ (by have:=hf.wQ;omega)) ?_;refine aa 0 ?_;refine aa 0 ?_;refine aN [] (Fj _ _ _) ?_;exact .drop 0 1 (.done ⟨aQ (aco (by assumption)),rfl⟩)
def cI(s:Sy)(k:Int):Int:=if cx s=0 then (if 1≤k∧k≤64 then 0 else 1) else cx s
theorem afU{s:Sy}{k:Int}(h:¬cx s=0):cx s=cI s k:=(aB h).symm
theorem afT{s:Sy}{k:Int}(h:cx s=0)(hk:¬(1≤k∧k≤64)):1=cI s k:=by unfold cI;rw[az h,aB hk]
theorem afS{s:Sy}{k:Int}(h:cx s=0)(hk:1≤k∧k≤64):0=cI s k:=by unfold cI;rw[az h,az hk]
def qe(e n:Int):Int:=if e=0 then n else 0
def yn(s:Sy)(k:Int):List AV:=[.int .i64 (qe (cI s k) s.what),.int .i64 (qe (cI s k) (ez s.what s.w)),.int .i64 (qe (cI s k) s.n),.int .i64 (qe (cI s k) k)]
theorem QM{s:Sy}{k:Int}(h:¬cx s=0):AV.tup [.agg [.int .i64 0,.int .i64 0,.int .i64 0,.int .i64 0],.int .i64 (cx s)]=.tup [.agg (yn s k),.int .i64 (cI s k)]:=by unfold yn qe;rw[← afU h];simp only[aB h]
theorem E6{s:Sy}{k:Int}(h:cx s=0)(hk:¬(1≤k∧k≤64)):AV.tup [.agg [.int .i64 0,.int .i64 0,.int .i64 0,.int .i64 0],.int .i64 1]=.tup [.agg (yn s k),.int .i64 (cI s k)]:=by unfold yn qe;rw[← afT h hk];rfl
theorem RZ{s:Sy}{k:Int}(h:cx s=0)(hk:1≤k∧k≤64):AV.tup [.agg [.int .i64 s.what,.int .i64 (ez s.what s.w),.int .i64 s.n,.int .i64 k],.int .i64 0]=.tup [.agg (yn s k),.int .i64 (cI s k)]:=by unfold yn qe;rw[← afS h hk];rfl
theorem Ti(s:Sy)(k:Int)(σ:Hp)(hf:Fit s):ACalls Tryz.prog 15 [.agg (aP s),.int .i64 k] σ (ay (.tup [.agg (yn s k),.int .i64 (cI s k)]) σ):=by
 refine ao Tryz.func15 ?_;intro ax;intro bX;refine aa 1 ?_;refine aw [] (Za s _ hf) ?_;refine cO (fun c3=>?_) (fun c3=>?_)
 ·have c3:¬(cx s=0):=by simpa using c3
  refine ah 0 ?_;refine aa 0 ?_;exact .drop 0 2 (.done ⟨QM (by assumption),rfl⟩)
 ·have c3:cx s=0:=by simpa using c3
  refine ai (fun c4=>?_) (fun c4=>?_)
  ·have c4:k<1:=c4;refine ah 0 ?_;refine aa 0 ?_;exact .drop 0 2 (.done ⟨E6 (by assumption) (by omega),rfl⟩)
  ·have c4:¬(k<1):=c4;refine ai (fun c5=>?_) (fun c5=>?_)
   ·have c5:64<k:=c5;refine ah 0 ?_;refine aa 0 ?_;exact .drop 0 2 (.done ⟨E6 (by assumption) (by omega),rfl⟩)
   ·have c5:¬(64<k):=c5;refine .sched [6] (upto [6] 13 0) (by kernel_rfl) ?_;refine aa 1 ?_;refine aa 1 ?_;refine aa 1 ?_;refine aN [] (Ji _ _ _) ?_;refine aa 1 ?_;refine ah 0 ?_;refine aa 0 ?_;exact .drop 0 2 (.done ⟨RZ (by assumption) (by omega),rfl⟩)
set_option maxHeartbeats 4000000
def rm(n:Int):Nat:=(min (max n 1) 4096).toNat
theorem Gj(n:Int):1≤rm n∧rm n≤4096:=by unfold rm;omega
theorem SI(n:Int):(if (4096:Int)<(if n<1 then 1 else n) then (4096:Int) else (if n<1 then 1 else n))=((rm n:Nat):Int):=by
 unfold rm
 by_cases h:n<1
 ·simp only[az h];omega
 ·simp only[aB h];split <;> omega
theorem K1(n:Int)(σ:Hp):ACalls Tryz.prog 154 [.int .i64 n] σ (ay (.int .i64 (rm n)) σ):=by
 refine ao Tryz.func154 ?_;exact .done ⟨aQ (SI n),rfl⟩
def ff(base:Int):Int:=wr (base+1)
def jy(base cap i:Int):Int:=wr (wr (base+2)+wr (i % (rm cap:Int)))
theorem sV(b c:Int)(σ:Hp):ACalls Tryz.prog 111 [.agg [.int .i64 b,.int .i64 c]] σ (ay (.int .i64 (ff b)) σ):=by
 refine ao Tryz.func111 ?_;intro ax;refine aa 0 ?_;exact .drop 0 1 (.done ⟨rfl,rfl⟩)
theorem Kx(b c i:Int)(σ:Hp)(h0:0≤i):ACalls Tryz.prog 402 [.agg [.int .i64 b,.int .i64 c],.int .u64 i] σ (ay (.int .i64 (jy b c i)) σ):=by
 have hr:=Gj c;have e1:IntKind.u64.wrap (rm c:Int)=rm c:=by rw[IntKind.wrap_u64];omega
 have e2:i.tmod (IntKind.u64.wrap (rm c:Int))=i % (rm c:Int):=by rw[e1,A9 h0]
 refine ao Tryz.func402 ?_;intro ax;refine .quiet (by kernel_rfl) ?_;refine aa 0 ?_;refine aa 0 ?_;refine aN [] (K1 _ _) ?_;refine aF.mk (by rw[e1];omega) ?_;exact .drop 0 1 (.done ⟨aQ (by rw[e2];rfl),rfl⟩)
structure DQ where
 base:Int
 cap:Int
 n:Int
 ok:Bool
 ended:Bool
 at_:Nat
 b:Int
 t:Int
 x:Int
def lA(q:DQ):List AV:=[.int .i64 q.base,.int .i64 q.cap,.int .u64 q.n,.bool q.ok,.bool q.ended,.int .i64 q.at_,.int .u64 q.b,.int .u64 q.t,.int .u64 q.x]
abbrev wu(n:Int):Int:=IntKind.u64.wrap n
def kz(O:ja)(q:DQ)(a:O.A):DQ×O.A×Bool:=
 if q.ended then (q,a,true)
 else if q.at_=0 then ({ q with at_:=q.at_+1,b:=(O.ld a (ff q.base)).1 },(O.ld a (ff q.base)).2,false)
 else if q.at_=1 then
  (if (rm q.cap:Int)≤wr (wu (q.b-(O.ld a q.base).1)) then ({ q with at_:=q.at_+1,t:=(O.ld a q.base).1,ended:=true },(O.ld a q.base).2,true)
  else ({ q with at_:=q.at_+1,t:=(O.ld a q.base).1 },(O.ld a q.base).2,false))
 else if q.at_=2 then ({ q with at_:=q.at_+1 },O.st a (jy q.base q.cap q.b) q.n,false)
 else ({ q with at_:=q.at_+1,ok:=true,ended:=true },O.st a (ff q.base) (wu (q.b+1)),true)
theorem kH{M:AMem}{σ:Hp}{X:Type}{B:X→List AV}{r:Nat}{res:X×M.O.A×Bool}{x:X}{a:M.O.A}{b:Bool}{m':M.S}{cs:List AV}(h:res=(x,a,b))(hm:M.abs m'=a)(hc:cs=B x):pS M σ B r res (.bool b) ((r,cs)::(M.B m'++σ)):=by
 subst hc;exact jV h hm
theorem Ud(M:AMem)(r:Nat)(q:DQ)(m:M.S)(d:Int)(σ:Hp)(hf:M.O.free (M.abs m))(eQ:q.at_≤1000)(hb:0≤q.b):ACalls Tryz.prog 409 [.ptr r 0,M.v,.int .i64 d] ((r,lA q)::(M.B m++σ)) (pS M σ lA r (kz M.O q (M.abs m))):=by
 have hw:IntKind.i64.wrap ((q.at_:Int)+1)=((q.at_+1:Nat):Int):=by rw[IntKind.wrap_i64];omega
 refine ao Tryz.func409 ?_;refine ec.jG 0 _ _ rfl rfl (fun h0=>?_) (fun h0=>?_)
 ·exact .done (jV (x:=q) (by simp[kz,h0]) rfl)
 refine aw [] (dI _ _ _) ?_;refine aa 0 ?_;refine ah 0 ?_;refine aa 0 ?_;refine ai (fun c1=>?_) (fun c1=>?_)
 ·have c1:IntKind.i64.wrap ((↑q.at_:Int)+1)=1:=c1;refine .sched [6] (upto [6] 15 0) (by kernel_rfl) ?_;refine aa 0 ?_;refine aN [] (sV _ _ _) ?_;refine eY.mk M.hL ?_;refine M.aLoad [_] hf fun m' hm=>?_;refine ah 0 ?_;exact .done (kH (x:= { q with at_:=q.at_+1,b:=(M.O.ld (M.abs m) (ff q.base)).1 }) (by simp[kz,h0,show q.at_=0 by omega]) hm (by rw[hw];rfl))
 ·have c1:¬(IntKind.i64.wrap ((↑q.at_:Int)+1)=1):=c1;refine ai (fun c2=>?_) (fun c2=>?_)
  ·have c2:IntKind.i64.wrap ((↑q.at_:Int)+1)=2:=c2;refine .sched [] (upto [] 15 0) (by kernel_rfl) ?_;refine aa 0 ?_;refine eY.mk M.hL ?_;refine M.aLoad [_] hf fun m' hm=>?_;refine ah 0 ?_;refine .quiet (by kernel_rfl) ?_;refine aa 0 ?_;refine aa 0 ?_;refine aa 0 ?_;refine aN [] (K1 _ _) ?_;refine ai (fun c3=>?_) (fun c3=>?_)
   ·have c3:(↑(rm q.cap):Int)≤IntKind.i64.wrap (IntKind.u64.wrap (q.b-(M.O.ld (M.abs m) q.base).fst)):=c3;refine .fwd 1 ?_;refine ah 0 ?_;exact .done (kH (x:= { q with at_:=q.at_+1,t:=(M.O.ld (M.abs m) q.base).1,ended:=true }) (by simp[kz,h0,show q.at_=1 by omega,c3]) hm (by rw[hw];rfl))
   ·have c3:¬((↑(rm q.cap):Int)≤IntKind.i64.wrap (IntKind.u64.wrap (q.b-(M.O.ld (M.abs m) q.base).fst))):=c3;exact .done (kH (x:= { q with at_:=q.at_+1,t:=(M.O.ld (M.abs m) q.base).1 }) (by unfold kz wr wu;(repeat' split) <;> first | rfl | omega | simp_all) hm (by rw[hw];rfl))
  ·have c2:¬(IntKind.i64.wrap ((↑q.at_:Int)+1)=2):=c2;refine ai (fun c4=>?_) (fun c4=>?_)
   ·have c4:IntKind.i64.wrap ((↑q.at_:Int)+1)=3:=c4;refine .sched [10] (upto [10] 19 0) (by kernel_rfl) ?_;refine aa 0 ?_;refine aa 0 ?_;refine aN [] (Kx _ _ _ _ hb) ?_;refine aa 0 ?_;refine eY.mk M.hS ?_;refine M.aStore [_] hf fun m' hm=>?_;exact .done (kH (x:= { q with at_:=q.at_+1 }) (by simp[kz,h0,show q.at_=2 by omega]) hm (by rw[hw];rfl))
   ·have c4:¬(IntKind.i64.wrap ((↑q.at_:Int)+1)=3):=c4;refine .sched [5] (upto [5] 16 0) (by kernel_rfl) ?_;refine aa 0 ?_;refine aN [] (sV _ _ _) ?_;refine aa 0 ?_;refine eY.mk M.hS ?_;refine M.aStore [_] hf fun m' hm=>?_;refine ah 0 ?_;refine .fwd 1 ?_;refine ah 0 ?_;exact .done (kH (x:= { q with at_:=q.at_+1,ok:=true,ended:=true }) (by simp[kz,h0,show q.at_≠0 by omega,show q.at_≠1 by omega,show q.at_≠2 by omega]) hm (by rw[hw];rfl))
def jf(O:ja)(q:DQ)(a:O.A):DQ×O.A×Bool:=
 if q.ended then (q,a,true)
 else if q.at_=0 then ({ q with at_:=q.at_+1,b:=wu ((O.ld a (ff q.base)).1-1) },(O.ld a (ff q.base)).2,false)
 else if q.at_=1 then ({ q with at_:=q.at_+1 },O.st a (ff q.base) q.b,false)
 else if q.at_=2 then ({ q with at_:=q.at_+1,t:=(O.ld a q.base).1 },(O.ld a q.base).2,false)
 else if q.at_=3 then
  (if wr q.b<wr q.t then ({ q with at_:=q.at_+1,ended:=true },O.st a (ff q.base) (wu (q.b+1)),true)
  else if wr q.t<wr q.b then ({ q with at_:=q.at_+1,x:=(O.ld a (jy q.base q.cap q.b)).1,ok:=true,n:=(O.ld a (jy q.base q.cap q.b)).1,ended:=true },(O.ld a (jy q.base q.cap q.b)).2,true)
  else ({ q with at_:=q.at_+1,x:=(O.ld a (jy q.base q.cap q.b)).1 },(O.ld a (jy q.base q.cap q.b)).2,false))
 else if q.at_=4 then ({ q with at_:=q.at_+1,ok:=(O.cs a q.base q.t (wu (q.t+1))).1 },(O.cs a q.base q.t (wu (q.t+1))).2,false)
 else ({ q with at_:=q.at_+1,n:=if q.ok then q.x else q.n,ended:=true },O.st a (ff q.base) (wu (q.b+1)),true)
theorem G4(M:AMem)(r:Nat)(q:DQ)(m:M.S)(d:Int)(σ:Hp)(hf:M.O.free (M.abs m))(eQ:q.at_≤1000)(hb:0≤q.b):ACalls Tryz.prog 401 [.ptr r 0,M.v,.int .i64 d] ((r,lA q)::(M.B m++σ)) (pS M σ lA r (jf M.O q (M.abs m))):=by
 have hw:IntKind.i64.wrap ((q.at_:Int)+1)=((q.at_+1:Nat):Int):=by rw[IntKind.wrap_i64];omega
 refine ao Tryz.func401 ?_;refine ec.jG 0 _ _ rfl rfl (fun h0=>?_) (fun h0=>?_)
 ·exact .done (jV (x:=q) (by simp[jf,h0]) rfl)
 refine aw [] (dI _ _ _) ?_;refine aa 0 ?_;refine ah 0 ?_;refine aa 0 ?_;refine ai (fun c1=>?_) (fun c1=>?_)
 ·have c1:IntKind.i64.wrap ((↑q.at_:Int)+1)=1:=c1;refine .sched [6] (upto [6] 16 0) (by kernel_rfl) ?_;refine aa 0 ?_;refine aN [] (sV _ _ _) ?_;refine eY.mk M.hL ?_;refine M.aLoad [_] hf fun m' hm=>?_;refine ah 0 ?_;exact .done (kH (x:= { q with at_:=q.at_+1,b:=wu ((M.O.ld (M.abs m) (ff q.base)).1-1) }) (by unfold jf wr wu;(repeat' split) <;> first | rfl | omega | simp_all) hm (by rw[hw];rfl))
 ·have c1:¬(IntKind.i64.wrap ((↑q.at_:Int)+1)=1):=c1;refine ai (fun c2=>?_) (fun c2=>?_)
  ·have c2:IntKind.i64.wrap ((↑q.at_:Int)+1)=2:=c2;refine .sched [5] (upto [5] 15 0) (by kernel_rfl) ?_;refine aa 0 ?_;refine aN [] (sV _ _ _) ?_;refine aa 0 ?_;refine eY.mk M.hS ?_;refine M.aStore [_] hf fun m' hm=>?_;exact .done (kH (x:= { q with at_:=q.at_+1 }) (by unfold jf wr wu;(repeat' split) <;> first | rfl | omega | simp_all) hm (by rw[hw];rfl))
  ·have c2:¬(IntKind.i64.wrap ((↑q.at_:Int)+1)=2):=c2;refine ai (fun c3=>?_) (fun c3=>?_)
   ·have c3:IntKind.i64.wrap ((↑q.at_:Int)+1)=3:=c3;refine .sched [] (upto [] 15 0) (by kernel_rfl) ?_;refine aa 0 ?_;refine eY.mk M.hL ?_;refine M.aLoad [_] hf fun m' hm=>?_;refine ah 0 ?_;exact .done (kH (x:= { q with at_:=q.at_+1,t:=(M.O.ld (M.abs m) q.base).1 }) (by unfold jf wr wu;(repeat' split) <;> first | rfl | omega | simp_all) hm (by rw[hw];rfl))
   ·have c3:¬(IntKind.i64.wrap ((↑q.at_:Int)+1)=3):=c3;refine ai (fun c4=>?_) (fun c4=>?_)
    ·have c4:IntKind.i64.wrap ((↑q.at_:Int)+1)=4:=c4;refine .quiet (by kernel_rfl) ?_;refine aa 0 ?_;refine aa 0 ?_;refine ai (fun c5=>?_) (fun c5=>?_)
     ·have c5:IntKind.i64.wrap q.b<IntKind.i64.wrap q.t:=c5;refine .fwd 1 ?_;refine .sched [5] (upto [5] 16 0) (by kernel_rfl) ?_;refine aa 0 ?_;refine aN [] (sV _ _ _) ?_;refine aa 0 ?_;refine eY.mk M.hS ?_;refine M.aStore [_] hf fun m' hm=>?_;refine ah 0 ?_;exact .done (kH (x:= { q with at_:=q.at_+1,ended:=true }) (by unfold jf wr wu;(repeat' split) <;> first | rfl | omega | simp_all) hm (by rw[hw];rfl))
     ·have c5:¬(IntKind.i64.wrap q.b<IntKind.i64.wrap q.t):=c5;refine .sched [11] (upto [11] 20 0) (by kernel_rfl) ?_;refine aa 0 ?_;refine aa 0 ?_;refine aN [] (Kx _ _ _ _ hb) ?_;refine eY.mk M.hL ?_;refine M.aLoad [_] hf fun m' hm=>?_;refine ah 0 ?_;refine .quiet (by kernel_rfl) ?_;refine aa 0 ?_;refine aa 0 ?_;refine ai (fun c6=>?_) (fun c6=>?_)
      ·have c6:IntKind.i64.wrap q.t<IntKind.i64.wrap q.b:=c6;refine aa 0 ?_;refine ah 0 ?_;refine ah 0 ?_;refine .fwd 1 ?_;refine ah 0 ?_;exact .done (kH (x:= { q with at_:=q.at_+1,x:=(M.O.ld (M.abs m) (jy q.base q.cap q.b)).1,ok:=true,n:=(M.O.ld (M.abs m) (jy q.base q.cap q.b)).1,ended:=true }) (by unfold jf wr wu;(repeat' split) <;> first | rfl | omega | simp_all) hm (by rw[hw];rfl))
      ·have c6:¬(IntKind.i64.wrap q.t<IntKind.i64.wrap q.b):=c6;exact .done (kH (x:= { q with at_:=q.at_+1,x:=(M.O.ld (M.abs m) (jy q.base q.cap q.b)).1 }) (by unfold jf wr wu;(repeat' split) <;> first | rfl | omega | simp_all) hm (by rw[hw];rfl))
    ·have c4:¬(IntKind.i64.wrap ((↑q.at_:Int)+1)=4):=c4;refine ai (fun c7=>?_) (fun c7=>?_)
     ·have c7:IntKind.i64.wrap ((↑q.at_:Int)+1)=5:=c7;refine .sched [] (upto [] 25 0) (by kernel_rfl) ?_;refine aa 0 ?_;refine aa 0 ?_;refine aa 0 ?_;refine eY.mk M.hC ?_;refine M.aCas [_] hf fun m' hm=>?_;refine ah 0 ?_;exact .done (kH (x:= { q with at_:=q.at_+1,ok:=(M.O.cs (M.abs m) q.base q.t (wu (q.t+1))).1 }) (by unfold jf wr wu;(repeat' split) <;> first | rfl | omega | simp_all) hm (by rw[hw];rfl))
     ·have c7:¬(IntKind.i64.wrap ((↑q.at_:Int)+1)=5):=c7;refine ec.jG 0 _ _ rfl rfl (fun c8=>?_) (fun c8=>?_)
      ·refine aa 0 ?_;refine ah 0 ?_;refine .fwd 1 ?_;refine .sched [5] (upto [5] 16 0) (by kernel_rfl) ?_;refine aa 0 ?_;refine aN [] (sV _ _ _) ?_;refine aa 0 ?_;refine eY.mk M.hS ?_;refine M.aStore [_] hf fun m' hm=>?_;refine ah 0 ?_;exact .done (kH (x:= { q with at_:=q.at_+1,n:=q.x,ended:=true }) (by unfold jf wr wu;(repeat' split) <;> first | rfl | omega | simp_all) hm (by rw[hw];rfl))
      ·refine .fwd 1 ?_;refine .sched [5] (upto [5] 16 0) (by kernel_rfl) ?_;refine aa 0 ?_;refine aN [] (sV _ _ _) ?_;refine aa 0 ?_;refine eY.mk M.hS ?_;refine M.aStore [_] hf fun m' hm=>?_;refine ah 0 ?_;exact .done (kH (x:= { q with at_:=q.at_+1,ended:=true }) (by unfold jf wr wu;(repeat' split) <;> first | rfl | omega | simp_all) hm (by rw[hw];rfl))
def j8(O:ja)(q:DQ)(a:O.A):DQ×O.A×Bool:=
 if q.ended then (q,a,true)
 else if q.at_=0 then ({ q with at_:=q.at_+1,t:=(O.ld a q.base).1 },(O.ld a q.base).2,false)
 else if q.at_=1 then
  (if wr (O.ld a (ff q.base)).1≤wr q.t then ({ q with at_:=q.at_+1,b:=(O.ld a (ff q.base)).1,ended:=true },(O.ld a (ff q.base)).2,true)
  else ({ q with at_:=q.at_+1,b:=(O.ld a (ff q.base)).1 },(O.ld a (ff q.base)).2,false))
 else if q.at_=2 then ({ q with at_:=q.at_+1,x:=(O.ld a (jy q.base q.cap q.t)).1 },(O.ld a (jy q.base q.cap q.t)).2,false)
 else ({ q with at_:=q.at_+1,ok:=(O.cs a q.base q.t (wu (q.t+1))).1,n:=if (O.cs a q.base q.t (wu (q.t+1))).1 then q.x else q.n,ended:=true },(O.cs a q.base q.t (wu (q.t+1))).2,true)
theorem F9(M:AMem)(r:Nat)(q:DQ)(m:M.S)(d:Int)(σ:Hp)(hf:M.O.free (M.abs m))(eQ:q.at_≤1000)(hb:0≤q.t):ACalls Tryz.prog 403 [.ptr r 0,M.v,.int .i64 d] ((r,lA q)::(M.B m++σ)) (pS M σ lA r (j8 M.O q (M.abs m))):=by
 have hw:IntKind.i64.wrap ((q.at_:Int)+1)=((q.at_+1:Nat):Int):=by rw[IntKind.wrap_i64];omega
 refine ao Tryz.func403 ?_;refine ec.jG 0 _ _ rfl rfl (fun h0=>?_) (fun h0=>?_)
 ·exact .done (jV (x:=q) (by simp[j8,h0]) rfl)
 refine aw [] (dI _ _ _) ?_;refine aa 0 ?_;refine ah 0 ?_;refine aa 0 ?_;refine ai (fun c1=>?_) (fun c1=>?_)
 ·have c1:IntKind.i64.wrap ((↑q.at_:Int)+1)=1:=c1;refine .sched [] (upto [] 15 0) (by kernel_rfl) ?_;refine aa 0 ?_;refine eY.mk M.hL ?_;refine M.aLoad [_] hf fun m' hm=>?_;refine ah 0 ?_;exact .done (kH (x:= { q with at_:=q.at_+1,t:=(M.O.ld (M.abs m) q.base).1 }) (by unfold j8 wr wu;(repeat' split) <;> first | rfl | omega | simp_all) hm (by rw[hw];rfl))
 ·have c1:¬(IntKind.i64.wrap ((↑q.at_:Int)+1)=1):=c1;refine ai (fun c2=>?_) (fun c2=>?_)
  ·have c2:IntKind.i64.wrap ((↑q.at_:Int)+1)=2:=c2;refine .sched [6] (upto [6] 15 0) (by kernel_rfl) ?_;refine aa 0 ?_;refine aN [] (sV _ _ _) ?_;refine eY.mk M.hL ?_;refine M.aLoad [_] hf fun m' hm=>?_;refine ah 0 ?_;refine .quiet (by kernel_rfl) ?_;refine aa 0 ?_;refine aa 0 ?_;refine ai (fun c3=>?_) (fun c3=>?_)
   ·have c3:IntKind.i64.wrap (M.O.ld (M.abs m) (ff q.base)).fst≤IntKind.i64.wrap q.t:=c3;refine .fwd 1 ?_;refine ah 0 ?_;exact .done (kH (x:= { q with at_:=q.at_+1,b:=(M.O.ld (M.abs m) (ff q.base)).1,ended:=true }) (by unfold j8 wr wu;(repeat' split) <;> first | rfl | omega | simp_all) hm (by rw[hw];rfl))
   ·have c3:¬(IntKind.i64.wrap (M.O.ld (M.abs m) (ff q.base)).fst≤IntKind.i64.wrap q.t):=c3;exact .done (kH (x:= { q with at_:=q.at_+1,b:=(M.O.ld (M.abs m) (ff q.base)).1 }) (by unfold j8 wr wu;(repeat' split) <;> first | rfl | omega | simp_all) hm (by rw[hw];rfl))
  ·have c2:¬(IntKind.i64.wrap ((↑q.at_:Int)+1)=2):=c2;refine ai (fun c4=>?_) (fun c4=>?_)
   ·have c4:IntKind.i64.wrap ((↑q.at_:Int)+1)=3:=c4;refine .sched [11] (upto [11] 20 0) (by kernel_rfl) ?_;refine aa 0 ?_;refine aa 0 ?_;refine aN [] (Kx _ _ _ _ hb) ?_;refine eY.mk M.hL ?_;refine M.aLoad [_] hf fun m' hm=>?_;refine ah 0 ?_;exact .done (kH (x:= { q with at_:=q.at_+1,x:=(M.O.ld (M.abs m) (jy q.base q.cap q.t)).1 }) (by unfold j8 wr wu;(repeat' split) <;> first | rfl | omega | simp_all) hm (by rw[hw];rfl))
   ·have c4:¬(IntKind.i64.wrap ((↑q.at_:Int)+1)=3):=c4;refine .sched [] (upto [] 25 0) (by kernel_rfl) ?_;refine aa 0 ?_;refine aa 0 ?_;refine aa 0 ?_;refine eY.mk M.hC ?_;refine M.aCasB [_] hf (fun m' hm hb=>?_) (fun m' hm hb=>?_)
    ·refine ah 0 ?_;refine aa 0 ?_;refine aa 0 ?_;refine ah 0 ?_;refine .fwd 1 ?_;refine ah 0 ?_;exact .done (kH (x:= { q with at_:=q.at_+1,ok:=true,n:=q.x,ended:=true }) (by unfold j8 wr wu;(repeat' split) <;> first | rfl | omega | simp_all) hm (by rw[hw];rfl))
    ·refine ah 0 ?_;refine aa 0 ?_;refine .fwd 1 ?_;refine ah 0 ?_;exact .done (kH (x:= { q with at_:=q.at_+1,ok:=false,ended:=true }) (by unfold j8 wr wu;(repeat' split) <;> first | rfl | omega | simp_all) hm (by rw[hw];rfl))
theorem acS(p q:Nat)(ws:List Int)(b c:Int)(σ:Hp):ACalls Tryz.prog 161 [.agg [.int .i64 b,.int .i64 c],km p] (bN p q ws σ) (ay (.tup []) (bN p q (gJ (gJ ws b 1) (ff b) 1) σ)):=by
 refine ao Tryz.func161 ?_;intro ax;refine aw [] (dI _ _ _) ?_;refine aa 0 ?_;refine InvAt.mk _ mStore_ ?_;refine aw [2,2] (aStore p q _ _ _ _) ?_;refine .sched [2] (upto [2] 7 0) (by kernel_rfl) ?_;refine aa 2 ?_;refine aN [] (sV _ _ _) ?_;refine eY.mk hStore_ ?_;refine InvAt.mk _ mStore_ ?_;refine aw [] (aStore p q _ _ _ _) ?_;exact .drop 2 1 (.done ⟨rfl,rfl⟩)
set_option maxHeartbeats 4000000
theorem BR{ws:List Int}(h:bC ws)(a:Int):bO (eT ws a):=by
 unfold eT;split
 ·exact⟨by decide,by decide⟩
 ·rw[bK];cases hq:ws[a.toNat]? with
  |none=>exact⟨by decide,by decide⟩
  |some x=>exact h x (dz hq)
theorem NB(a:List Int)(i:Nat)(σ:Hp):ACalls Tryz.prog 213 [.ae (.int .u64) a,.int .i64 i] σ (ay (.int .u64 (wd a i)) σ):=by
 refine ao Tryz.func213 ?_;refine ai (fun h=>?_) (fun h=>?_)
 ·have h:(a.length:Int)≤i:=h;exact .done ⟨aQ (by simp[wd,List.getElem?_eq_none (show a.length≤i by omega)]),rfl⟩
 ·have h:¬(a.length:Int)≤i:=h;have hi:i<a.length:=by omega
  refine aF.mk rfl (aY.mk a[i] (by omega) (get_some hi) ?_);exact .done ⟨aQ (by simp[wd,hi]),rfl⟩
def cw(n:Int):Nat:=(min (max n 0) 1024).toNat
theorem z8(n:Int):cw n≤1024:=by unfold cw;omega
theorem ae8(n:Int):(if (1024:Int)<(if n<0 then 0 else n) then (1024:Int) else (if n<0 then 0 else n))=((cw n:Nat):Int):=by
 unfold cw
 by_cases h:n<0
 ·simp only[az h];omega
 ·simp only[aB h];split <;> omega
theorem nB(b w n:Int)(σ:Hp):ACalls Tryz.prog 163 [.agg [.int .i64 b,.int .i64 w,.int .i64 n]] σ (ay (.int .i64 (cw n)) σ):=by
 refine ao Tryz.func163 ?_;intro ax;refine aa 0 ?_;exact .drop 0 1 (.done ⟨aQ (ae8 n),rfl⟩)
structure Jn where
 base:Int
 what:Int
 words:Int
 a:List Int
 changed:Bool
 ended:Bool
 tries:Int
 at_:Nat
 jR:Bool
 x:Int
def yD(j:Jn):List AV:=[.int .i64 j.base,.int .i64 j.what,.int .i64 j.words,.ae (.int .u64) j.a,.bool j.changed,.bool j.ended,.int .i64 j.tries,.int .i64 j.at_,.bool j.jR,.int .u64 j.x]
def sW(j:Jn):Jn×Bool:=if j.at_+1<cw j.words then ({ j with at_:=j.at_+1 },false) else ({ j with at_:=j.at_+1,ended:=true },true)
def jS(O:ja)(j:Jn)(a:O.A):Jn×O.A×Bool:=
 if j.ended then (j,a,true)
 else if j.at_=cw j.words then ({ j with ended:=true },a,true)
 else if j.jR then
  (if (O.cs a (wr (j.base+j.at_)) j.x (kc j.what j.x (wd j.a j.at_))).1 then ((sW { j with jR:=false,changed:=true }).1,(O.cs a (wr (j.base+j.at_)) j.x (kc j.what j.x (wd j.a j.at_))).2,(sW { j with jR:=false,changed:=true }).2)
  else ({ j with jR:=false,tries:=wr (j.tries+1) },(O.cs a (wr (j.base+j.at_)) j.x (kc j.what j.x (wd j.a j.at_))).2,false))
 else if kc j.what (O.ld a (wr (j.base+j.at_))).1 (wd j.a j.at_)=(O.ld a (wr (j.base+j.at_))).1 then ((sW { j with x:=(O.ld a (wr (j.base+j.at_))).1 }).1,(O.ld a (wr (j.base+j.at_))).2,(sW { j with x:=(O.ld a (wr (j.base+j.at_))).1 }).2)
 else ({ j with x:=(O.ld a (wr (j.base+j.at_))).1,jR:=true },(O.ld a (wr (j.base+j.at_))).2,false)
theorem FZ{M:AMem}{σ:Hp}{X:Type}{B:X→List AV}{r:Nat}{res:X×M.O.A×Bool}{x:X}{a:M.O.A}{b:Bool}{m':M.S}{cs:List AV}(h:res=(x,a,b))(hm:M.abs m'=a)(hc:cs=B x):pS M σ B r res (.bool b) ((r,cs)::(M.B m'++σ)):=by
 subst hc;exact jV h hm
theorem GG(M:AMem)(r:Nat)(j:Jn)(m:M.S)(d:Int)(σ:Hp)(hf:M.O.free (M.abs m))(eQ:j.at_≤2000):ACalls Tryz.prog 407 [.ptr r 0,M.v,.int .i64 d] ((r,yD j)::(M.B m++σ)) (pS M σ yD r (jS M.O j (M.abs m))):=by
 refine ao Tryz.func407 ?_;have hw:IntKind.i64.wrap ((j.at_:Int)+1)=((j.at_+1:Nat):Int):=by rw[IntKind.wrap_i64];omega
 refine ec.jG 0 _ _ rfl rfl (fun h0=>?_) (fun h0=>?_)
 ·exact .done (jV (x:=j) (by simp[jS,h0]) rfl)
 refine aw [] (dI _ _ _) ?_;refine .quiet (by kernel_rfl) ?_;refine aa 0 ?_;refine aa 0 ?_;refine aN [] (nB _ _ _ _) ?_;refine ai (fun c1=>?_) (fun c1=>?_)
 ·have c1:(j.at_:Int)=cw j.words:=c1;have c1:j.at_=cw j.words:=by omega
  refine .fwd 1 ?_;refine ah 0 ?_;exact .done (jV (x:= { j with ended:=true }) (by simp[jS,h0,c1]) rfl)
 ·have c1:¬(j.at_:Int)=cw j.words:=c1;have c1:¬j.at_=cw j.words:=by omega
  refine ec.jG 0 _ _ rfl rfl (fun c2=>?_) (fun c2=>?_)
  ·refine ah 0 ?_;refine .sched [36,37] (upto [36,37] 43 0) (by kernel_rfl) ?_;refine aa 0 ?_;refine aa 0 ?_;refine aa 0 ?_;refine aa 0 ?_;refine aa 0 ?_;refine aa 0 ?_;refine aa 0 ?_;refine aN [] (NB _ _ _) ?_;refine aN [] (K0 _ _ _ _) ?_;refine eY.mk M.hC ?_;refine M.aCasB [_] hf (fun m' hm hb=>?_) (fun m' hm hb=>?_)
   ·refine ah 0 ?_;refine .fwd 1 ?_;refine aa 0 ?_;refine ah 0 ?_;refine .quiet (by kernel_rfl) ?_;refine aa 0 ?_;refine aa 0 ?_;refine aN [] (nB _ _ _ _) ?_;refine ai (fun c3=>?_) (fun c3=>?_)
    ·have c3:IntKind.i64.wrap (↑j.at_+1) < ↑(cw j.words):=c3;exact .done (FZ (x:= { j with jR:=false,changed:=true,at_:=j.at_+1 }) (by simp[jS,h0,c1,c2,hb,sW,show j.at_+1<cw j.words by omega]) hm (by rw[hw];rfl))
    ·have c3:¬(IntKind.i64.wrap (↑j.at_+1) < ↑(cw j.words)):=c3;refine ah 0 ?_;exact .done (FZ (x:= { j with jR:=false,changed:=true,at_:=j.at_+1,ended:=true }) (by simp[jS,h0,c1,c2,hb,sW,show ¬j.at_+1<cw j.words by omega]) hm (by rw[hw];rfl))
   ·refine aa 0 ?_;refine ah 0 ?_;exact .done (jV (x:= { j with jR:=false,tries:=wr (j.tries+1) }) (by simp[jS,h0,c1,c2,hb]) hm)
  ·refine .sched [] (upto [] 21 0) (by kernel_rfl) ?_;refine aa 0 ?_;refine aa 0 ?_;refine eY.mk M.hL ?_;refine M.aLoad [_] hf fun m' hm=>?_;refine ah 0 ?_;refine .quiet (by kernel_rfl) ?_;refine aa 0 ?_;refine aa 0 ?_;refine aa 0 ?_;refine aa 0 ?_;refine aN [] (NB _ _ _) ?_;refine aN [] (K0 _ _ _ _) ?_;refine aa 0 ?_;refine cO (fun c4=>?_) (fun c4=>?_)
   ·have c4:¬(kc j.what (M.O.ld (M.abs m) (IntKind.i64.wrap (j.base + ↑j.at_))).fst (wd j.a j.at_)=(M.O.ld (M.abs m) (IntKind.i64.wrap (j.base + ↑j.at_))).fst):=by simpa using c4
    refine ah 0 ?_;exact .done (jV (x:= { j with x:=(M.O.ld (M.abs m) (wr (j.base+j.at_))).1,jR:=true }) (by simp[jS,h0,c1,c2,c4]) hm)
   ·have c4:kc j.what (M.O.ld (M.abs m) (IntKind.i64.wrap (j.base + ↑j.at_))).fst (wd j.a j.at_)=(M.O.ld (M.abs m) (IntKind.i64.wrap (j.base + ↑j.at_))).fst:=by simpa using c4
    refine aa 0 ?_;refine ah 0 ?_;refine .quiet (by kernel_rfl) ?_;refine aa 0 ?_;refine aa 0 ?_;refine aN [] (nB _ _ _ _) ?_;refine ai (fun c5=>?_) (fun c5=>?_)
    ·have c5:IntKind.i64.wrap (↑j.at_+1) < ↑(cw j.words):=c5;exact .done (FZ (x:= { j with x:=(M.O.ld (M.abs m) (wr (j.base+j.at_))).1,at_:=j.at_+1 }) (by simp[jS,h0,c1,c2,c4,sW,show j.at_+1<cw j.words by omega]) hm (by rw[hw];rfl))
    ·have c5:¬(IntKind.i64.wrap (↑j.at_+1) < ↑(cw j.words)):=c5;refine ah 0 ?_;exact .done (FZ (x:= { j with x:=(M.O.ld (M.abs m) (wr (j.base+j.at_))).1,at_:=j.at_+1,ended:=true }) (by simp[jS,h0,c1,c2,c4,sW,show ¬j.at_+1<cw j.words by omega]) hm (by rw[hw];rfl))
def Af(base:Int)(a:List Int)(ws:List Int):Nat→List Int
 | 0=>ws
 |k+1=>gJ (Af base a ws k) (wr (base+k)) (wd a k)
theorem agU(p q:Nat)(ws:List Int)(b w n:Int)(a:List Int)(σ:Hp):ACalls Tryz.prog 159 [.agg [.int .i64 b,.int .i64 w,.int .i64 n],km p,.ae (.int .u64) a] (bN p q ws σ) (ay (.tup []) (bN p q (Af b a ws (cw n)) σ)):=by
 have hc:=z8 n;refine ao Tryz.func159 ?_;intro ax;refine aw [] (dI _ _ _) ?_;refine aa 0 ?_;refine aw [] (nB _ _ _ _) ?_;refine bc (S:=Nat) (fun s=>[(1,km p),(2,.ae (.int .u64) a),(3,.ptr ax 0),(10,.int .i64 (cw n)),(11,.int .i64 s)]) (fun s=>(ax,[.int .i64 b,.int .i64 w,.int .i64 n])::bN p q (Af b a ws s) σ) (fun s=>s≤cw n) (fun s=>cw n-s) 0 ⟨aV _,⟨rfl,rfl,rfl,rfl,rfl,trivial⟩,rfl⟩ ?_;intro k g hk;refine ai (fun h=>?_) (fun h=>?_)
 ·have h:(k:Int)<cw n:=h;refine .sched [7] (upto [7] 12 0) (by kernel_rfl) ?_;refine aa 0 ?_;refine aN [] (NB _ _ _) ?_;refine eY.mk hStore_ ?_;refine InvAt.mk _ mStore_ ?_;refine aw [2,2] (aStore p q _ _ _ _) ?_;refine aM (k+1) ?_ ?_ ⟨rfl,rfl,rfl,rfl,aI (by omega),trivial⟩ (.pull [2] (aL rfl))
  ·show cw n-(k+1)<cw n-k;omega
  ·show k+1≤cw n;omega
 ·have h:¬(k:Int)<cw n:=h;obtain rfl:k=cw n:=by omega
  exact .drop 0 1 (.done ⟨rfl,rfl⟩)
def pY(base:Int)(ws:List Int)(k:Nat):List Int:=(List.range k).map fun i=>eT ws (wr (base+(i:Nat)))
theorem V2(base:Int)(ws:List Int)(k:Nat):(pY base ws k).length=k:=by unfold pY;rw[cN,og]
theorem Yr(base:Int)(ws:List Int)(k:Nat):pY base ws (k+1)=pY base ws k++[eT ws (wr (base+k))]:=by unfold pY;rw[pz,cE];rfl
theorem agY(p q:Nat)(ws:List Int)(b w n:Int)(σ:Hp):ACalls Tryz.prog 107 [.agg [.int .i64 b,.int .i64 w,.int .i64 n],km p] (bN p q ws σ) (ay (.ae (.int .u64) (pY b ws (cw n))) (bN p q ws σ)):=by
 have hc:=z8 n;refine ao Tryz.func107 ?_;intro ax;refine aw [] (dI _ _ _) ?_;refine aa 0 ?_;refine aw [] (nB _ _ _ _) ?_;refine .wrap 5 _ rfl rfl ?_;refine bc (S:=Nat×AV×Hp) (fun s=>[(1,km p),(2,.ptr ax 0),(5,.via s.2.1),(10,.int .i64 (cw n)),(11,.int .i64 s.1)]) (fun s=>(ax,[.int .i64 b,.int .i64 w,.int .i64 n])::(s.2.2++bN p q ws σ)) (fun s=>s.1≤cw n∧Acc 1 s.1 s.2.1 s.2.2 (aU (pY b ws s.1))) (fun s=>cw n-s.1) (0,.ag,[]) ⟨⟨aV _,.nil⟩,⟨rfl,rfl,rfl,rfl,rfl,trivial⟩,rfl⟩ ?_;rintro⟨k,v,acc⟩ g ⟨hk,bF⟩;have hk:k≤cw n:=hk;have bF:Acc 1 k v acc (aU (pY b ws k)):=bF;refine ai (fun h=>?_) (fun h=>?_)
 ·have h:(k:Int)<cw n:=h;refine aa 0 ?_;refine InvAt.mk _ mLoad_ ?_;refine .perm (σ2:=bN p q ws ((ax,[.int .i64 b,.int .i64 w,.int .i64 n])::(acc++σ))) _ ?_ (aLoad p q ws _ _) ?_
  ·exact ew ((ax,[.int .i64 b,.int .i64 w,.int .i64 n])::acc) [_,_] σ
  rintro _ _ ⟨rfl,rfl⟩;refine⟨_,(ew ((ax,[.int .i64 b,.int .i64 w,.int .i64 n])::acc) [_,_] σ).symm,?_⟩;intro bX;refine eS [_,_] bF (.af 0 bX 0 1 _ rfl (cj rfl)) rfl (by omega) (by decide) (by decide) (fun v' aJ h'=>?_);refine aM (k+1,v',aJ) ?_ ⟨?_,?_⟩ ⟨rfl,rfl,rfl,rfl,aI (by omega),trivial⟩ (.drop 0 1 (aL rfl))
  ·show cw n-(k+1)<cw n-k;omega
  ·show k+1≤cw n;omega
  ·show Acc 1 (k+1) v' aJ (aU (pY b ws (k+1)));rw[Yr,aU,cE];exact h'
 ·have h:¬(k:Int)<cw n:=h;obtain rfl:k=cw n:=by omega
  refine .drop 0 1 ?_;exact lH (s:=.int .u64) (l:=pY b ws (cw n)) [] bF (V2 b ws _).symm (by rw[nz]) (by decide) (.done ⟨rfl,rfl⟩)
def j4(v:AV)(base what words:Int)(ended:Bool)(at_:Nat)(jR:Bool)(x:Int):List AV:=[.int .i64 base,.int .i64 what,.int .i64 words,v,.bool ended,.int .i64 at_,.bool jR,.int .u64 x]
inductive ky:AV→Hp→List Int→Prop where
 |nil:ky .ag [] []
 |af (b:Nat) (l:List Int):ky (.af b 0 l.length 1) [(b,aU l)] l
theorem ky.push(b:Nat)(l:List Int)(x:Int):ky (.af b 0 (l.length+1) 1) [(b,(aU l).take (l.length*1)++[.int .u64 x])] (l++[x]):=by
 have h:=ky.af b (l++[x]);have e1:(l++[x]).length=l.length+1:=by simp
 have e2:aU (l++[x])=(aU l).take (l.length*1)++[.int .u64 x]:=by rw[List.take_of_length_le (by simp[aU])];simp[aU]
 rw[e1,e2]at h;exact h
theorem Ze(σ:Hp):ACalls Tryz.prog 256 [.ag] σ (ay .ag σ):=by
 refine ao Tryz.func256 ?_;exact .done ⟨rfl,rfl⟩
theorem Bz(b k:Nat)(cs:List AV)(σ:Hp)(hm:(b,cs)∈σ)(h:cs.length=k*1)(hl:k≤1000000):ACalls Tryz.prog 256 [.af b 0 k 1] σ (fun x σ'=>∃b',x=.af b' 0 k 1∧σ'=(b',cs)::σ):=by
 refine ao Tryz.func256 ?_;intro b2;refine AppendAt.more 0 b2 0 k [] ((cs.drop 0).take (k*1)) rfl rfl (cj rfl) (.mem (dq _ hm) (by show 0+k*1≤cs.length;omega)) (by omega) (by decide) (by decide) (fun b'=>?_);refine .done ⟨b',by rw[dD];rfl,?_⟩;show (b',List.take (0*1) []++(cs.drop 0).take (k*1))::σ=_;rw[show (cs.drop 0).take (k*1)=cs by rw[fy,dZ (by omega)]];rfl
structure Lay where
 what:Int
 words:Int
 n:Int
 k:Int
def dp(l:Lay):List AV:=[.int .i64 l.what,.int .i64 l.words,.int .i64 l.n,.int .i64 l.k]
def gK(l:Lay):Int:=wr (l.n*l.words)
def fL(l:Lay):Int:=wr (gK l+l.n)
def fH(l:Lay):Int:=wr (l.n+1)
def fF(l:Lay)(w:Int):Int:=wr (wr (fL l+1)+wr (w*((2+rm (fH l):Nat):Int)))
def dX(l:Lay)(v:Int):Int:=wr (v*l.words)
def fN(s:Sy)(k:Int):Lay:=⟨qe (cI s k) s.what,qe (cI s k) (ez s.what s.w),qe (cI s k) s.n,qe (cI s k) k⟩
theorem Sg(n:Int)(σ:Hp):ACalls Tryz.prog 87 [.int .i64 n] σ (ay (.int .i64 ((2+rm n:Nat):Int)) σ):=by
 have h:=Gj n;refine ao Tryz.func87 ?_;refine aw [] (K1 _ _) ?_;exact .done ⟨aQ (by rw[IntKind.wrap_i64];omega),rfl⟩
theorem Tr(l:Lay)(σ:Hp):ACalls Tryz.prog 108 [.agg (dp l)] σ (ay (.int .i64 (gK l)) σ):=by
 refine ao Tryz.func108 ?_;intro ax;refine aa 0 ?_;refine aa 0 ?_;exact .drop 0 1 (.done ⟨rfl,rfl⟩)
theorem Sw(l:Lay)(σ:Hp):ACalls Tryz.prog 109 [.agg (dp l)] σ (ay (.int .i64 (fL l)) σ):=by
 refine ao Tryz.func109 ?_;intro ax;refine .quiet (by kernel_rfl) ?_;refine aa 0 ?_;refine aN [] (Tr l _) ?_;refine aa 0 ?_;exact .drop 0 1 (.done ⟨rfl,rfl⟩)
theorem Gb(l:Lay)(σ:Hp):ACalls Tryz.prog 88 [.agg (dp l)] σ (ay (.int .i64 (fH l)) σ):=by
 refine ao Tryz.func88 ?_;intro ax;refine aa 0 ?_;exact .drop 0 1 (.done ⟨rfl,rfl⟩)
theorem x6(l:Lay)(w:Int)(σ:Hp):ACalls Tryz.prog 52 [.agg (dp l),.int .i64 w] σ (ay (.agg [.int .i64 (fF l w),.int .i64 (fH l)]) σ):=by
 refine ao Tryz.func52 ?_;intro ax;intro bX;refine .sched [1,5,6,10] (upto [1,5,6,10] 13 0) (by kernel_rfl) ?_;refine aa 1 ?_;refine aN [] (Sw l _) ?_;refine aa 1 ?_;refine aN [] (Gb l _) ?_;refine aN [] (Sg _ _) ?_;refine aa 1 ?_;refine aN [] (Gb l _) ?_;refine ah 0 ?_;refine aa 0 ?_;exact .drop 0 2 (.done ⟨rfl,rfl⟩)
theorem zC(l:Lay)(σ:Hp):ACalls Tryz.prog 45 [.agg (dp l)] σ (ay (.agg [.int .i64 (gK l),.int .i64 (fL l)]) σ):=by
 refine ao Tryz.func45 ?_;intro ax;intro bX;refine .sched [1,3] (upto [1,3] 6 0) (by kernel_rfl) ?_;refine aa 1 ?_;refine aN [] (Tr l _) ?_;refine aa 1 ?_;refine aN [] (Sw l _) ?_;refine ah 0 ?_;refine aa 0 ?_;exact .drop 0 2 (.done ⟨rfl,rfl⟩)
theorem Gc(l:Lay)(v:Int)(σ:Hp):ACalls Tryz.prog 106 [.agg (dp l),.int .i64 v] σ (ay (.agg [.int .i64 (dX l v),.int .i64 l.what,.int .i64 l.words]) σ):=by
 refine ao Tryz.func106 ?_;intro ax;intro bX;refine aa 1 ?_;refine aa 1 ?_;refine aa 1 ?_;refine ah 0 ?_;refine aa 0 ?_;exact .drop 0 2 (.done ⟨rfl,rfl⟩)
theorem Kz(l:Lay)(σ:Hp):ACalls Tryz.prog 96 [.agg (dp l)] σ (ay (.int .i64 (fF l l.k)) σ):=by
 refine ao Tryz.func96 ?_;intro ax;refine aa 0 ?_;refine aa 0 ?_;refine aw [] (x6 l _ _) ?_;exact .drop 0 1 (.done ⟨rfl,rfl⟩)
theorem zP(s:Sy)(k:Int)(σ:Hp)(hf:Fit s):ACalls Tryz.prog 37 [.agg (aP s),.int .i64 k] σ (ay (.tup [.agg (dp (fN s k)),.int .i64 (cI s k)]) σ):=by
 refine ao Tryz.func37 ?_;intro ax;intro bX;refine aa 1 ?_;refine aw [] (xT s _ hf) ?_;refine cO (fun c3=>?_) (fun c3=>?_)
 ·have c3:¬(cx s=0):=by simpa using c3
  refine ah 0 ?_;refine aa 0 ?_;exact .drop 0 2 (.done ⟨QM (by assumption),rfl⟩)
 ·have c3:cx s=0:=by simpa using c3
  refine ai (fun c4=>?_) (fun c4=>?_)
  ·have c4:k<1:=c4;refine ah 0 ?_;refine aa 0 ?_;exact .drop 0 2 (.done ⟨E6 (by assumption) (by omega),rfl⟩)
  ·have c4:¬(k<1):=c4;refine ai (fun c5=>?_) (fun c5=>?_)
   ·have c5:64<k:=c5;refine ah 0 ?_;refine aa 0 ?_;exact .drop 0 2 (.done ⟨E6 (by assumption) (by omega),rfl⟩)
   ·have c5:¬(64<k):=c5;refine .sched [6] (upto [6] 13 0) (by kernel_rfl) ?_;refine aa 1 ?_;refine aa 1 ?_;refine aa 1 ?_;refine aN [] (FM _ _ _) ?_;refine aa 1 ?_;refine ah 0 ?_;refine aa 0 ?_;exact .drop 0 2 (.done ⟨RZ (by assumption) (by omega),rfl⟩)
inductive Nw where
 |none
 |pop (q:DQ)
 |ft (q:DQ)
 |quiet (t:Qk)
 |clear (t:Ck)
 |read (l:List Int)
 |join (j:Jn)
 |take (t:Tk)
 |push (q:DQ)
 |ib (t:Rk)
structure WS where
 ev:Int
 jo:Int
 en:Bool
 an:Int
 now:Nw
 node:Int
 has:Bool
 nx:List Int
 out:List Int
abbrev ei(s:Sy)(l:Lay)(who ev jo:Int)(en:Bool)(an:Int)(nv:AV)(node:Int)(has:Bool)(nx out:List Int):List AV:=
 [.int .i64 ev,.int .i64 jo,.bool en,.int .i64 s.what,.int .i64 s.w,.int .i64 s.n,.ae cg s.cd,.ae (.int .i64) s.entry,.ae (.int .u64) s.init,.ae j9 s.T,.int .i64 l.what,.int .i64 l.words,.int .i64 l.n,.int .i64 l.k,.int .i64 who,.int .i64 an,nv,.int .i64 node,.bool has,.ae (.int .i64) nx,.ae (.int .u64) out,.bool true]
theorem KB(w:Nat)(s:Sy)(l:Lay)(who ev jo:Int)(en:Bool)(an:Int)(nv:AV)(node:Int)(has:Bool)(nx out:List Int)(σ:Hp):ACalls Tryz.prog 396 [.ptr w 0] ((w,ei s l who ev jo en an nv node has nx out)::σ) (ay (.bool (decide (l.k<2))) ((w,ei s l who ev jo en an nv node has nx out)::σ)):=by
 refine ao Tryz.func396 ?_;refine aa 0 ?_;refine ai (fun c1=>?_) (fun c1=>?_)
 ·have c1:l.k<2:=c1;exact .done ⟨bJ (aX (by assumption)).symm,rfl⟩
 ·have c1:¬(l.k<2):=c1;exact .done ⟨bJ (cp (by assumption)).symm,rfl⟩
def nK(l:Lay):Int:=wr (l.k-1)
def BJ(l:Lay)(who d:Int):Int:=(wr (wr (who+1)+(wr (d.tmod (nK l)+nK l)).tmod (nK l))).tmod l.k
theorem acI(w:Nat)(s:Sy)(l:Lay)(who ev jo:Int)(en:Bool)(an:Int)(nv:AV)(node:Int)(has:Bool)(nx out:List Int)(d:Int)(σ:Hp)(h1:nK l≠0)(h2:l.k≠0):ACalls Tryz.prog 393 [.ptr w 0,.int .i64 d] ((w,ei s l who ev jo en an nv node has nx out)::σ) (ay (.int .i64 (BJ l who d)) ((w,ei s l who ev jo en an nv node has nx out)::σ)):=by
 refine ao Tryz.func393 ?_;refine aa 0 ?_;refine .quiet (by kernel_rfl) ?_;refine aa 0 ?_;refine aF.mk h1 ?_;refine aF.mk h1 ?_;refine aa 0 ?_;refine aF.mk h2 ?_;exact .done ⟨rfl,rfl⟩
def qG(l:Lay)(n:Int):Int:=if wu l.n≤n then 0 else wr n
def sT(l:Lay)(n:Int):Int:=if wu l.n≤n then 8 else 3
theorem UT(w:Nat)(s:Sy)(l:Lay)(who ev jo:Int)(en:Bool)(an:Int)(nv:AV)(node:Int)(has:Bool)(nx out:List Int)(n:Int)(σ:Hp):ACalls Tryz.prog 394 [.ptr w 0,.int .u64 n] ((w,ei s l who ev jo en an nv node has nx out)::σ) (ay (.int .i64 (sT l n)) ((w,ei s l who ev jo en an nv (qG l n) true nx out)::σ)):=by
 refine ao Tryz.func394 ?_;refine ah 0 ?_;refine ah 0 ?_;refine aa 0 ?_;refine ai (fun c1=>?_) (fun c1=>?_)
 ·have c1:IntKind.u64.wrap l.n≤n:=c1;exact .done ⟨aQ (az c1).symm,congrArg (fun z=>(w,ei s l who ev jo en an nv z true nx out)::σ) (show _=qG l n from (az c1).symm)⟩
 ·have c1:¬(IntKind.u64.wrap l.n≤n):=c1;refine ah 0 ?_;exact .done ⟨aQ (aB c1).symm,congrArg (fun z=>(w,ei s l who ev jo en an nv z true nx out)::σ) (show _=qG l n from (aB c1).symm)⟩
def xV(l:Lay):Int:=if l.k<2 then 2 else 1
theorem aeB(w:Nat)(s:Sy)(l:Lay)(who ev jo:Int)(en:Bool)(an:Int)(nv:AV)(node:Int)(has:Bool)(nx out:List Int)(σ:Hp):ACalls Tryz.prog 395 [.ptr w 0] ((w,ei s l who ev jo en an nv node has nx out)::σ) (ay (.int .i64 (xV l)) ((w,ei s l who ev jo en an nv node has nx out)::σ)):=by
 refine ao Tryz.func395 ?_;refine dc [] (KB w s l who ev jo en an nv node has nx out _) (fun c=>?_) (fun c=>?_)
 ·exact .done ⟨aQ (az (eX c)).symm,rfl⟩
 ·exact .done ⟨aQ (aB (py c)).symm,rfl⟩
def qH(nx:List Int):Int:=if nx.tail.length=0 then 8 else 5
theorem Kd(w:Nat)(s:Sy)(l:Lay)(who ev jo:Int)(en:Bool)(an:Int)(nv:AV)(node:Int)(has:Bool)(nx out:List Int)(σ:Hp)(hx:0<nx.length):ACalls Tryz.prog 398 [.ptr w 0] ((w,ei s l who ev jo en an nv node has nx out)::σ) (ay (.int .i64 (qH nx)) ((w,ei s l who ev jo en an nv node has nx.tail out)::σ)):=by
 refine ao Tryz.func398 ?_;cases nx with
 |nil=>simp at hx
 |cons z nx=>
  refine aa 0 ?_;refine aF.mk ⟨by decide,Int.ofNat_le.2 (D3 (aV _)),kU _,rfl⟩ ?_;have e:((z::nx).drop ((1:Int)).toNat).take ((((z::nx).length:Nat):Int).toNat-((1:Int)).toNat)=nx:=by simp
  refine ah 0 ?_;refine aa 0 ?_;refine ai (fun c1=>?_) (fun c1=>?_)
  ·have c1:(↑(List.take ((↑(z::nx).length:Int).toNat-Int.toNat 1) (List.drop (Int.toNat 1) (z::nx))).length:Int)=0:=c1;have c2:(nx.length:Int)=0:=(congrArg (fun z:List Int=>(z.length:Int)) e).symm.trans c1;exact .done ⟨aQ (az (show nx.length=0 by omega)).symm,congrArg (fun z=>(w,ei s l who ev jo en an nv node has z out)::σ) e⟩
  ·have c1:¬((↑(List.take ((↑(z::nx).length:Int).toNat-Int.toNat 1) (List.drop (Int.toNat 1) (z::nx))).length:Int)=0):=c1;have c2:¬(nx.length:Int)=0:=fun h=>c1 ((congrArg (fun z:List Int=>(z.length:Int)) e).trans h);exact .done ⟨aQ (aB (show ¬nx.length=0 by omega)).symm,congrArg (fun z=>(w,ei s l who ev jo en an nv node has z out)::σ) e⟩
def zF(s:Sy)(node:Int):Int:=if (au s.n s.cd node).length=0 then 8 else 5
theorem aer(w:Nat)(s:Sy)(l:Lay)(who ev jo:Int)(en:Bool)(an:Int)(nv:AV)(node:Int)(has:Bool)(nx out x:List Int)(σ:Hp)(hf:Fit s)(hx:bC x)(lx:x.length≤10000):ACalls Tryz.prog 397 [.ptr w 0,.ae (.int .u64) x] ((w,ei s l who ev jo en an nv node has nx out)::σ) (ay (.int .i64 (zF s node)) ((w,ei s l who (wr (ev+1)) jo en an nv node has (au s.n s.cd node) (sj (qW s node x) (lf s x node.toNat)))::σ)):=by
 refine ao Tryz.func397 ?_;refine aa 0 ?_;refine ah 0 ?_;refine .sched [10] (upto [10] 17 0) (by kernel_rfl) ?_;refine aa 0 ?_;refine aa 0 ?_;refine aN [] (acL s node x _ hf hx lx) ?_;refine ah 0 ?_;refine .sched [15] (upto [15] 19 0) (by kernel_rfl) ?_;refine aa 0 ?_;refine aa 0 ?_;refine aa 0 ?_;refine aN [] (Ab s.n s.cd node _ hf.wQ) ?_;refine ah 0 ?_;refine aa 0 ?_;refine ai (fun c1=>?_) (fun c1=>?_)
 ·have c1:(↑(au s.n s.cd node).length:Int)=0:=c1;exact .done ⟨aQ (az (show (au s.n s.cd node).length=0 by omega)).symm,rfl⟩
 ·have c1:¬((↑(au s.n s.cd node).length:Int)=0):=c1;exact .done ⟨aQ (aB (show ¬(au s.n s.cd node).length=0 by omega)).symm,rfl⟩
end Go.Proofs.YtnikdflhefijbaaGreat
