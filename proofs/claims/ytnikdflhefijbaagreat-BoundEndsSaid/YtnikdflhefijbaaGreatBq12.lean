import Derived.Shelf.GgSortFunc.RowK
import Derived.Sort.Grow
import Derived.Test.YtnikdflhefijbaaGreatBq6
import Derived.Shelf.SlSortCmp.NoneTotal
import Derived.Test.YtnikdflhefijbaaGreatBq10
import Derived.Test.YtnikdflhefijbaaGreatBq11
namespace Go.Proofs.YtnikdflhefijbaaGreat
open Go.RowKit
theorem afD{F':Nat→Prop}{w w':World}(h:bH (fun b=>b<w.heap.size) w F' w'):∃q os,w'=Go.Sort.grow (w.drewN q) os:=by
 obtain⟨h1,h2,h3,h4,_,h6,_,h8⟩:=h
 have hh:w'.heap=w.heap++w'.heap.extract w.heap.size w'.heap.size:=by
  apply Array.ext
  ·simp only[Array.size_append,Array.size_extract];omega
  ·intro i hi qz
   by_cases ab:i<w.heap.size
   ·have e:=h6 i ab;rw[qF hi,qF ab]at e;rw[Array.getElem_append_left ab];exact Option.some.inj e
   ·rw[Array.getElem_append_right (by omega),Array.getElem_extract]
    congr 1;omega
 refine⟨w'.drawn-w.drawn,w'.heap.extract w.heap.size w'.heap.size,?_⟩;have hd:w.drawn+(w'.drawn-w.drawn)=w'.drawn:=by omega
 unfold Go.Sort.grow World.drewN;cases w' with
 |mk heap tape drawn os output=>
  simp only at h1 h2 h3 hh hd ⊢;rw[h1,h2,h3,← hh,hd]
theorem R9{f:FuncId}{xs:List AV}{k:IntKind}{z:Int}(h:∀σ,ACalls Tryz.prog f xs σ (aC (.int k z) σ)){w:World}{vs:Array Value}(hv:jC (fun b=>b<w.heap.size) w xs vs):Calls Tryz.prog f vs w fun e w'=>e=.returned (.int k z)∧∃q os,w'=Go.Sort.grow (w.drewN q) os:=by
 refine ((h []).2 (fun b=>b<w.heap.size) w vs hv ⟨Qr,fun p hp=>absurd hp xt,fun b hb=>hb⟩).mono ?_;rintro e w' ⟨r,v,σ',F',rfl,aq,_,hr,rfl,_⟩;refine⟨?_,afD aq⟩;rw[hr.gp]
set_option maxRecDepth 100000
def yG(a b:Int):Int:=if a<b then -1 else if b<a then 1 else 0
theorem WU(a:Int)(σ:Hp):ACalls Tryz.prog 234 [.int .i64 a] σ (aC (.bool false) σ):=by
 refine ay Tryz.func234 ?_;refine dX (fun h=>absurd h (by simp)) (fun _=>?_);exact .done ⟨rfl,rfl⟩
theorem Yj(a b:Int)(σ:Hp):ACalls Tryz.prog 184 [.int .i64 a,.int .i64 b] σ (aC (.int .i64 (yG a b)) σ):=by
 refine ay Tryz.func184 ?_;refine ax [] (WU a _) ?_;refine ax [] (WU b _) ?_;refine ao (p:=a<b) (fun c1=>?_) (fun c1=>?_)
 ·exact .done ⟨aT (af c1).symm,rfl⟩
 refine ao (p:=b<a) (fun c2=>?_) (fun c2=>?_)
 ·exact .done ⟨aT (by unfold yG;rw[ag c1,af c2]),rfl⟩
 ·exact .done ⟨aT (by unfold yG;rw[ag c1,ag c2]),rfl⟩
def Cu(x y:Int):Int:=if x=0 then y else x
theorem ajS(b:Nat)(x y:Int)(σ:Hp):ACalls Tryz.prog 183 [.ae b 0 2 1] ((b,[.int .i64 x,.int .i64 y])::σ) (aC (.int .i64 (Cu x y)) ((b,[.int .i64 x,.int .i64 y])::σ)):=by
 refine ay Tryz.func183 ?_;refine ca (S:=Nat×Int) (fun s=>[(3,.int .i64 s.2),(6,.ae b 0 2 1),(7,.int .i64 2),(8,.int .i64 s.1)]) (fun _=>(b,[.int .i64 x,.int .i64 y])::σ) (fun s=>s.2=0∧s.1≤2∧(0<s.1→x=0)∧(1<s.1→y=0)) (fun s=>2-s.1) (0,0) ⟨⟨rfl,by omega,fun h=>by omega,fun h=>by omega⟩,⟨rfl,rfl,rfl,rfl,trivial⟩,rfl⟩ ?_;rintro⟨k,z⟩ g ⟨iv,aP,xe,hy0⟩;have hz:z=0:=iv;have hk:k≤2:=aP;have hx:0<k→x=0:=xe;have hy:1<k→y=0:=hy0;clear iv aP xe hy0
 match k,hk,hx,hy with
 | 0,_,_,_=>
  refine aO ?_;refine aa 0 ?_;refine dX (fun c1=>?_) (fun c1=>?_)
  ·have c1:(!decide (x=z))=true:=c1;have c1:¬x=z:=by simpa using c1
   exact .done ⟨aT (by unfold Cu;rw[ag (by rw[← hz];exact c1)]),rfl⟩
  ·have c1:(!decide (x=z))=false:=c1;have c1:x=z:=by simpa using c1
   exact a8 (1,z) (by show 2-1<2-0;decide) ⟨hz,(show 1≤2 by decide),fun _=>c1.trans hz,fun h=>absurd h (show ¬1<1 by decide)⟩ ⟨rfl,rfl,rfl,rfl,trivial⟩ (.refl _)
 | 1,_,hx,_=>
  refine aO ?_;refine aa 0 ?_;refine dX (fun c1=>?_) (fun c1=>?_)
  ·exact .done ⟨aT (by unfold Cu;rw[af (hx (by decide))]),rfl⟩
  ·have c1:(!decide (y=z))=false:=c1;have c1:y=z:=by simpa using c1
   exact a8 (2,z) (by show 2-2<2-1;decide) ⟨hz,(show 2≤2 by decide),fun _=>hx (by decide),fun _=>c1.trans hz⟩ ⟨rfl,rfl,rfl,rfl,trivial⟩ (.refl _)
 | 2,_,hx,hy=>
  exact .done ⟨aT (by unfold Cu;rw[af (hx (by decide)),hy (by decide)];exact hz),rfl⟩
def OW(a b c d:Int):Int:=Cu (yG a c) (yG b d)
theorem aiQ(a b c d:Int)(σ:Hp):ACalls Tryz.prog 182 [.agg [.int .i64 a,.int .i64 b],.agg [.int .i64 c,.int .i64 d]] σ (aC (.int .i64 (OW a b c d)) σ):=by
 refine ay Tryz.func182 ?_;intro aF;intro dJ;refine .sched [4,9] (upto [4,9] 13 0) (by kernel_rfl) ?_;refine aa 1 ?_;refine aa 0 ?_;refine aK [] (Yj a c _) ?_;refine aa 1 ?_;refine aa 0 ?_;refine aK [] (Yj b d _) ?_;intro tU;refine ax [] (ajS tU (yG a c) (yG b d) _) ?_;exact .drop 0 3 (.done ⟨rfl,rfl⟩)
theorem ajY(a b c d:Int)(σ:Hp):ACalls Tryz.prog 186 [.agg [.int .i64 a,.int .i64 b],.agg [.int .i64 c,.int .i64 d]] σ (aC (.bool (decide (a=c)&&decide (b=d))) σ):=by
 refine ay Tryz.func186 ?_;intro aF;intro dJ;refine aa 1 ?_;refine aa 0 ?_;refine .mk (by kernel_rfl) (by kernel_rfl) ?_;refine dX (fun h=>?_) (fun h=>?_)
 ·have h:fW [decide (a=c),decide (b=d)]=true:=h;exact .drop 0 2 (.done ⟨cY (by simpa [fW]using h.symm),rfl⟩)
 ·have h:fW [decide (a=c),decide (b=d)]=false:=h;exact .drop 0 2 (.done ⟨cY (by simpa [fW]using h.symm),rfl⟩)
section
variable {F:Nat→Prop} {w:World} {σ:Hp}
theorem abr(h:bj F w σ)(os:Array Obj):bH F w F (Go.Sort.grow w os)∧bj F (Go.Sort.grow w os) σ:=by
 have eO:(Go.Sort.grow w os).heap.size=w.heap.size+os.size:=by simp[Go.Sort.grow]
 have au:∀b,b<w.heap.size→(Go.Sort.grow w os).heap[b]?=w.heap[b]?:=fun b hb=>by
  show (w.heap++os)[b]?=_;rw[Lg hb]
 have aq:bH F w F (Go.Sort.grow w os):=⟨rfl,rfl,rfl,by omega,fun _ h=>h,fun b hb=>au b (h.low b hb),fun b c T fz hc=>⟨c,fz,by
  rw[au b (AQ.1 hc).1];exact hc,rfl⟩,aQ _⟩
 exact⟨aq,h.nodup,fun p hp=>(h.holds p hp).mono aq (au _ (h.holds p hp).lt) (h.holds p hp).1,fun b hb=>by have:=h.low b hb;omega⟩
theorem Holds.Ul{F:Nat→Prop}{w:World}{b:Nat}{cs:List AV}(h:Holds F w b cs)(hn:∀x∈cs,x.leaf=true):¬F b∧EE F w b cs:=by
 obtain⟨hF,h | ⟨x,o,e,_,hx⟩ | ⟨L,t,e,_⟩⟩:=h
 ·exact⟨hF,h⟩
 ·subst e;have:=hn _ (b9 ..);rw[Hy hx]at this;cases this
 ·subst e;cases hn _ (b9 ..)
theorem acU{b n:Nat}{cs cs':List AV}{d:Array Value}(h:bj F w ((b,cs)::σ))(Gb:∀x∈cs,x.leaf=true)(hl:cs'.length=cs.length)(hd:d.size=cs'.length)(hv:∀(i:Nat) (x:AV),cs'[i]?=some x→x.leaf=true∧aB F w x (d.getD i undef))(os:Array Obj):
  bH F w F (Go.Sort.grow (Go.Sort.putRow id (Go.Sort.ahead w n) b 0 d) os)∧bj F (Go.Sort.grow (Go.Sort.putRow id (Go.Sort.ahead w n) b 0 d) os) ((b,cs')::σ):=by
 obtain⟨hF,c,T,hc,hle,lp⟩:=(h.holds _ (b9 ..)).Ul Gb;have hle:cs.length≤c.size:=hle;have hc:w.heap[b]?=some (.cells c T (0,0)):=hc
 have uQ:∀k,k<d.size→(Go.Sort.putCells id 0 d c).getD k undef=d.getD k undef:=fun k hk=>by
  have Aw:k<c.size:=by omega
  unfold Go.Sort.putCells;rw[iy,Array.getElem?_mapIdx,qF Aw];simp only[KO,GH];rw[af ⟨bC _,by omega⟩,Nat.sub_zero,iy,qF hk];simp[hk]
 have key:=Bf (F:=F) (w:=w) (w':=Go.Sort.putRow id (Go.Sort.ahead w n) b 0 d) h (j:=0) (b:=b) (cs:=cs) (cs':=cs') rfl hc (c':=Go.Sort.putCells id 0 d c) (by simp[Go.Sort.putCells]) (by simp[Go.Sort.putCells];omega)
  (fun i x hx=>by
   have h2:i<cs'.length:=(bZ.1 hx).1;rw[uQ i (by omega)]
   exact hv i x hx)
  (fun k hk=>by
   show (w.heap.modify b _)[k]?=_
   rw[K3,ag (fun e=>hk e.symm)])
  (by
   show (w.heap.modify b _)[b]?=_
   rw[K3,af rfl,hc];rfl)
  rfl rfl rfl (by simp[Go.Sort.ahead])
 obtain⟨k1,k2⟩:=key;obtain⟨g1,g2⟩:=abr k2 os;exact⟨k1.trans g1,g2⟩
theorem ahe{b:Nat}{cs:List AV}{d:Array Value}(h:bj F w ((b,cs)::σ))(Gb:∀x∈cs,x.leaf=true)(hd:d.size=cs.length)(hv:∀(i:Nat) (x:AV),cs[i]?=some x→∀v,aB F w x v→v=d.getD i undef):Go.Sort.Holds id w b 0 d∧b<w.heap.size:=by
 obtain⟨hF,c,T,hc,hle,lp⟩:=(h.holds _ (b9 ..)).Ul Gb;have hc:w.heap[b]?=some (.cells c T (0,0)):=hc;have hle:cs.length≤c.size:=hle;refine⟨fun j hj=>?_,(AQ.1 hc).1⟩;have xi:j<cs.length:=by omega
 have hr:=hv j _ (bB xi) _ (lp j _ (bB xi)).2;rw[dI];constructor
 ·rw[IA hc,qF (by omega)];rw[iy,qF (by omega),iy,qF hj]at hr;simp only[GH]at hr;rw[hr];simp[hj]
 ·unfold World.frozen?;simp[hc]
end
def nw(l:List (Int×Int×Unit)):List AV:=l.flatMap fun x=>[.int .i64 x.1,.int .i64 x.2.1]
def oo(x:Int×Int×Unit):List Value:=[.int .i64 x.1,.int .i64 x.2.1]
theorem zm:∀l:List (Int×Int×Unit),(nw l).length=l.length*2
 | []=>rfl
 |x::l=>by
  show (nw l).length+2=(l.length+1)*2;rw[zm l];omega
theorem Wi(L:List (Int×Int×Unit)):∀x∈nw L,x.leaf=true:=fun x hx=>by
 obtain⟨p,_,h⟩:=List.mem_flatMap.1 hx
 rcases dm.1 h with rfl | h
 ·rfl
 ·rw[bD.1 h];rfl
theorem Vq:∀(l:List (Int×Int×Unit)) (i:Nat),(nw l)[i]?=(l[i / 2]?).map fun x=>if i % 2=0 then .int .i64 x.1 else .int .i64 x.2.1
 | [],i=>by simp[nw]
 |x::l,0=>rfl
 |x::l,1=>rfl
 |x::l,i+2=>by
  have h:=Vq l i;show (nw l)[i]?=_;rw[h,show (i+2) / 2=i / 2+1 by omega,show (i+2) % 2=i % 2 by omega];rfl
theorem Vp(l:List (Int×Int×Unit))(i:Nat)(x:AV)(h:(nw l)[i]?=some x):∃z,x=.int .i64 z∧(Go.Sort.flatK oo 2 l.toArray).getD i undef=.int .i64 z:=by
 rw[Vq]at h;obtain⟨d,hd,hx⟩:=xB.1 h;obtain⟨hi,sD⟩:=bZ.1 hd;have ab:i<l.toArray.size*2:=by simp only[qD];omega
 have hg:=Go.Sort.get_flatK oo 2 l.toArray i ab
 have he:(Go.Sort.flatK oo 2 l.toArray).getD i undef=(Go.Sort.flatK oo 2 l.toArray)[i]!:=by
  have hs:i<(Go.Sort.flatK oo 2 l.toArray).size:=by rw[Go.Sort.size_flatK];exact ab
  rw[iy,qF hs];exact (getElem!_pos _ i hs).symm
 have hl:l.toArray[i / 2]! = d:=by simp[hi,sD]
 rw[he,hg,hl]
 by_cases h0:i % 2=0
 ·rw[af h0]at hx;rw[h0];exact⟨d.1,hx.symm,rfl⟩
 ·rw[ag h0]at hx;have h1:i % 2=1:=by omega
  rw[h1];exact⟨d.2.1,hx.symm,rfl⟩
variable {α:Type} {f:α→List AV} {n:Nat}
theorem Dk(hf:∀x,(f x).length=n)(l:List α):(l.flatMap f).length=l.length*n:=xH hf l
theorem acN(hf:∀x,(f x).length=n){l:List α}{j:Nat}(h:j<l.length):((l.flatMap f).drop (j*n)).take n=f l[j]:=by
 induction l generalizing j with
 |nil=>simp at h
 |cons x l ih=>
  cases j with
  |zero=>simp[hf]
  |succ j=>
   rw[y6,List.drop_append,hf,oH,gq2,C5 (by rw[hf];omega),vD];simpa using ih (by simpa using h)
theorem Mm{i:TI}(hi:i.wide=true)(hs:i.size=n)(hf:∀x,(f x).length=n){l:List α}{k:Nat}(h:k<l.length){z:Int}(hz:z=k):ei i (l.flatMap f) (0+z.toNat*n)=some (.agg (f l[k])):=by
 subst hz;have hl:=Dk hf l;have hm:(k+1)*n≤l.length*n:=jm n h;rw[lU,Gx]at hm;have hb:Nat.ble (0+k*n+n) (l.flatMap f).length=true:=Lh (by rw[hl];omega);unfold ei;rw[hi,hs];show (match Nat.ble (0+k*n+n) (l.flatMap f).length with | true=>some (AV.agg (((l.flatMap f).drop (0+k*n)).take n)) | false=>none)=_;rw[hb];show some (AV.agg (((l.flatMap f).drop (0+k*n)).take n))=_;rw[dI,acN hf h]
theorem Hc:∀(vs A B C:List AV),B.length=vs.length→fx (A++(B++C)) A.length vs=A++(vs++C)
 | [],A,B,C,h=>by
  obtain rfl:=iz.1 h;rfl
 |v::vs,A,b::B,C,h=>by
  show fx ((A++(b::(B++C))).set A.length v) (A.length+1) vs=_
  have e:(A++(b::(B++C))).set A.length v=(A++[v])++(B++C):=by
   rw[List.set_append_right _ _ (Nat.le_refl _),Nat.sub_self];simp
  rw[e,show A.length+1=(A++[v]).length by simp,Hc vs (A++[v]) B C (by simpa using h)];simp
theorem aeU(hf:∀x,(f x).length=n){l:List α}{k:Nat}(h:k<l.length)(d:α):fx (l.flatMap f) (k*n) (f d)=(l.set k d).flatMap f:=by
 have e:l=l.take k++([l[k]]++l.drop (k+1)):=by simp
 have e2:l.set k d=l.take k++([d]++l.drop (k+1)):=by
  rw[List.set_eq_take_append_cons_drop,af h];rfl
 have hk:((l.take k).flatMap f).length=k*n:=by rw[Dk hf,tO,K5 (Nat.le_of_lt h)]
 rw[e2]
 conv=>lhs;rw[e]
 rw[xC,xC,xC,xC,List.flatMap_singleton,List.flatMap_singleton,← hk];exact Hc _ _ _ _ (by rw[hf,hf])
theorem SC{i:TI}(hs:i.size=n)(hf:∀x,(f x).length=n){l:List α}{k:Nat}(h:k<l.length)(d:α){z:Int}(hz:z=k):kO i (l.flatMap f) (0+z.toNat*n) (.agg (f d))=some ((l.set k d).flatMap f):=by
 subst hz;have hl:=Dk hf l;have hm:(k+1)*n≤l.length*n:=jm n h;rw[lU,Gx]at hm;have hb:Nat.ble (0+k*n+n) (l.flatMap f).length=true:=Lh (by rw[hl];omega);have hq:Nat.beq (f d).length n=true:=by rw[hf];exact y4 n
 unfold kO;rw[hs];show (match Nat.beq (f d).length n,Nat.ble (0+k*n+n) (l.flatMap f).length with | true,true=>some (fx (l.flatMap f) (0+k*n) (f d)) | _,_=>none)=_;rw[hb,hq];show some (fx (l.flatMap f) (0+k*n) (f d))=_;rw[dI,aeU hf h]
theorem Q7:∀(vs cs:List AV) (off k:Nat),k≤off→(fx cs off vs).take k=cs.take k
 | [],_,_,_,_=>rfl
 |v::vs,cs,off,k,h=>by
  show (fx (cs.set off v) (off+1) vs).take k=_;rw[Q7 vs _ _ _ (by omega),List.take_set_of_le h]
theorem acM(hf:∀x,(f x).length=n)(l:List α){k:Nat}(h:k≤l.length):(l.flatMap f).take (k*n)=(l.take k).flatMap f:=by
 conv=>lhs;rw[← y7 k l]
 rw[xC];exact List.take_left' (by rw[Dk hf,tO,K5 h])
abbrev rM(x:Int×Int×Unit):List AV:=[.int .i64 x.1,.int .i64 x.2.1]
theorem Bt(x:Int×Int×Unit):(rM x).length=2:=rfl
def qb(L:List (Int×Int×Unit))(j:Nat):Bool:=decide (j=0)||!decide (L.getD j (0,0,())=L.getD (j-1) (0,0,()))
def qd(L:List (Int×Int×Unit))(j:Nat):List (Int×Int×Unit):=((List.range j).filter (qb L)).map fun i=>L.getD i (0,0,())
def sc(L:List (Int×Int×Unit)):List (Int×Int×Unit):=qd L L.length
theorem Dr(L:List (Int×Int×Unit))(j:Nat):qd L (j+1)=qd L j++(if qb L j=true then [L.getD j (0,0,())] else []):=by
 unfold qd;rw[sM,AN,cF]
 congr 1
 by_cases h:qb L j=true
 ·rw[af h,gt2 h];rfl
 ·rw[ag h,gq3 h];rfl
theorem Yg(x y:Int×Int×Unit)(σ:Hp):ACalls Tryz.prog 186 [.agg (rM x),.agg (rM y)] σ (aC (.bool (decide (x=y))) σ):=by
 have h:=ajY x.1 x.2.1 y.1 y.2.1 σ
 have e:(decide (x.1=y.1)&&decide (x.2.1=y.2.1))=decide (x=y):=by
  obtain⟨a,b,_⟩:=x;obtain⟨c,d,_⟩:=y;simp only[Prod.mk.injEq,and_true,Bool.decide_and]
 rw[e]at h;exact h
theorem np{L:List (Int×Int×Unit)}{j:Nat}(h:j<L.length):L.getD j (0,0,())=L[j]:=by rw[aZ,bB h];rfl
theorem yn{i:TI}(hi:i.wide=true)(hs:i.size=2){l:List (Int×Int×Unit)}{p q:Nat}(h:q<l.length){z:Int}(hz:(p:Int)+z=q)(h0:0≤z):ei i (l.flatMap rM) (0+p*2+z.toNat*2)=some (.agg (rM l[q])):=by
 rw[← Mm (f:=rM) (n:=2) hi hs Bt h rfl]
 congr 1
 omega
theorem Tx(b:Nat)(L:List (Int×Int×Unit))(σ:Hp)(hl:L.length≤1000000):ACalls Tryz.prog 185 [.ae b 0 L.length 2,.fn (.func 186) [] []] ((b,nw L)::σ)
  (fun x σ'=>∃(k:Nat) (cs:List AV),k=(sc L).length∧cs.take (k*2)=nw (sc L)∧x=.ae b 0 k 2∧σ'=(b,cs)::σ):=by
 refine ay Tryz.func185 ?_;refine ao (p:=(L.length:Int)<2) (fun c1=>?_) (fun c1=>?_)
 ·have hc:sc L=L:=by
   match L,c1 with
   | [],_=>rfl
   | [x],_=>rfl
   |x::y::r,h=>simp only[gj]at h;omega
  refine .done ⟨L.length,nw L,by rw[hc],?_,rfl,rfl⟩;rw[hc];exact eR (y5 (zm L))
 refine ca (S:=Nat) (fun k=>[(0,.ae b 0 L.length 2),(1,.fn (.func 186) [] []),(5,.int .i64 ((k+1:Nat):Int))]) (fun _=>(b,nw L)::σ) (fun k=>k+1≤L.length∧qd L (k+1)=L.take (k+1)) (fun k=>L.length-k) 0 ⟨⟨by omega,?_⟩,⟨rfl,rfl,rfl,trivial⟩,rfl⟩ ?_
 ·rw[Dr];have h0:0<L.length:=by omega
  rw[ft h0,af (show qb L 0=true from rfl),np h0];rfl
 rintro k g ⟨aP,nI⟩;have hk:k+1≤L.length:=aP;have ha:qd L (k+1)=L.take (k+1):=nI;clear aP nI;have hw:IntKind.i64.wrap (((k+1:Nat):Int)-1)=(k:Int):=by rw[IntKind.wrap_i64];omega
 refine ao (p:=((k+1:Nat):Int)<(L.length:Int)) (fun ab=>?_) (fun au=>?_)
 ·have ab:k+1<L.length:=by omega
  refine .quiet (by kernel_rfl) ?_;refine aO ?_;refine fg.mk 0 _ (.agg (rM L[k+1])) rfl (Mm rfl rfl Bt ab rfl) ?_;refine aJ.mk ⟨rfl,by rw[hw];omega,by rw[hw];omega⟩ ?_;refine fg.mk 0 _ (.agg (rM L[k])) rfl (Mm rfl rfl Bt (by omega) hw) ?_;refine IX [] (Yg L[k+1] L[k] _) (fun c2=>?_) (fun c2=>?_);rotate_left
  ·refine a8 (k+1) (by show L.length-(k+1)<L.length-k;omega) ⟨ab,?_⟩ ⟨rfl,rfl,aX (by omega),trivial⟩ (.refl _);show qd L (k+1+1)=L.take (k+1+1);rw[Dr,ha,ft ab,np ab]
   have sC:qb L (k+1)=true:=by
    unfold qb;rw[np ab,Nat.add_sub_cancel,np (by omega),c2];simp
   rw[af sC]
  have sC:qb L (k+1)=false:=by
   unfold qb;rw[np ab,Nat.add_sub_cancel,np (by omega),c2];simp
  have iw:qd L ((k+1)+1)=L.take (k+1):=by rw[Dr,sC,ha];simp
  refine aJ.mk ⟨by omega,by omega,by omega,rfl⟩ ?_;refine ca (S:=Nat×Nat×List (Int×Int×Unit)) (fun s=>[(0,.ae b 0 L.length 2),(1,.fn (.func 186) [] []),(5,.int .i64 s.1),(6,.ae b (0+(k+1)*2) (L.length-(k+1)) 2),(7,.int .i64 ((s.2.1+1:Nat):Int))]) (fun s=>(b,s.2.2.flatMap rM)::σ) (fun s=>s.1≤(k+1)+s.2.1∧(k+1)+s.2.1+1≤L.length∧s.2.2.length=L.length∧s.2.2.take s.1=qd L ((k+1)+s.2.1+1)∧s.2.2.drop ((k+1)+s.2.1)=L.drop ((k+1)+s.2.1)) (fun s=>L.length-s.2.1) ((k+1),0,L) ⟨⟨aQ _,ab,rfl,iw.symm,rfl⟩,⟨rfl,rfl,rfl,rfl,rfl,trivial⟩,rfl⟩ ?_;rintro⟨i,j,M⟩ g ⟨fE,qy,yZ,pG,KC⟩;have hi:i≤(k+1)+j:=fE;have hj:(k+1)+j+1≤L.length:=qy;have hM:M.length=L.length:=yZ;have hF:M.take i=qd L ((k+1)+j+1):=pG;have hD:M.drop ((k+1)+j)=L.drop ((k+1)+j):=KC;clear fE qy yZ pG KC;have vd:IntKind.i64.wrap (((j+1:Nat):Int)-1)=(j:Int):=by rw[IntKind.wrap_i64];omega
  refine ao (p:=((j+1:Nat):Int)<((L.length-(k+1):Nat):Int)) (fun h=>?_) (fun h=>?_)
  ·have h1:(k+1)+j+1<L.length:=by omega
   have P1:(k+1)+j+1<M.length:=by omega
   have hM2:(k+1)+j<M.length:=by omega
   have e1:M[(k+1)+j+1]=L[(k+1)+j+1]:=by
    have:=congrArg (fun x=>x[1]?) hD;simpa [h1,P1]using this
   have e2:M[(k+1)+j]=L[(k+1)+j]:=by
    have:=congrArg (fun x=>x[0]?) hD;simpa [hM2,show (k+1)+j<L.length by omega]using this
   have hD1:M.drop ((k+1)+j+1)=L.drop ((k+1)+j+1):=by
    have h3:=congrArg (List.drop 1) hD
    rwa [CT,CT]at h3
   refine .quiet (by kernel_rfl) ?_;refine aJ.mk ⟨rfl,(show (0:Int)≤((j+1:Nat):Int) by omega),h⟩ ?_;refine fg.mk 0 _ (.agg (rM M[(k+1)+j+1])) rfl (yn (z:=((j+1:Nat):Int)) rfl rfl P1 (by omega) (by omega)) ?_;refine aJ.mk ⟨rfl,by rw[vd];omega,by rw[vd];omega⟩ ?_;refine fg.mk 0 _ (.agg (rM M[(k+1)+j])) rfl (yn rfl rfl hM2 (by rw[vd];omega) (by rw[vd];omega)) ?_
   have yS:qb L ((k+1)+j+1) = !decide (M[(k+1)+j+1]=M[(k+1)+j]):=by
    unfold qb;rw[np h1,Nat.add_sub_cancel,np (by omega),e1,e2];simp
   refine IX [] (Yg M[(k+1)+j+1] M[(k+1)+j] _) (fun c3=>?_) (fun c3=>?_)
   ·rw[c3]at yS;refine a8 (i,j+1,M) (by show L.length-(j+1)<L.length-j;omega) ⟨by show i≤(k+1)+(j+1);omega,by show (k+1)+(j+1)+1≤L.length;omega,hM,?_,hD1⟩ ⟨rfl,rfl,rfl,rfl,aX (k:=j+1) (by omega),trivial⟩ (.refl _);show M.take i=qd L ((k+1)+(j+1)+1);rw[show (k+1)+(j+1)+1=(k+1)+j+1+1 by omega,Dr,yS,hF];simp
   ·rw[c3]at yS;refine aJ.mk ⟨rfl,(show (0:Int)≤((j+1:Nat):Int) by omega),h⟩ ?_;refine fg.mk 0 _ (.agg (rM M[(k+1)+j+1])) rfl (yn (z:=((j+1:Nat):Int)) rfl rfl P1 (by omega) (by omega)) ?_;refine aO ?_;have hiM:i<M.length:=by omega
    refine cU 0 rfl (SC rfl Bt hiM M[(k+1)+j+1] rfl) ?_;refine a8 (i+1,j+1,M.set i M[(k+1)+j+1]) (by show L.length-(j+1)<L.length-j;omega) ⟨by show i+1≤(k+1)+(j+1);omega,by show (k+1)+(j+1)+1≤L.length;omega,(cz ..).trans hM,?_,?_⟩ ⟨rfl,rfl,aX (k:=i) (by omega),rfl,aX (k:=j+1) (by omega),trivial⟩ (.refl _)
    ·show (M.set i M[(k+1)+j+1]).take (i+1)=qd L ((k+1)+(j+1)+1);rw[show (k+1)+(j+1)+1=(k+1)+j+1+1 by omega,Dr,yS,ft (by rw[cz];exact hiM),List.take_set_of_le (aQ _),List.getElem_set_self,hF,np h1,e1];simp
    ·show (M.set i M[(k+1)+j+1]).drop ((k+1)+(j+1))=L.drop ((k+1)+(j+1));rw[List.drop_set_of_lt (by omega)];exact hD1
  ·have h1:(k+1)+j+1=L.length:=by omega
   rw[h1]at hF;refine aJ.mk ⟨by omega,by omega,by omega,rfl⟩ ?_;refine Nn.ae 0 b _ _ _ rfl rfl (by show 0+(i:Int).toNat*2+((L.length:Int).toNat-(i:Int).toNat)*2≤(M.flatMap rM).length;rw[Dk Bt];omega) ?_;refine aJ.mk ⟨by omega,by omega,by omega,rfl⟩ ?_;have pE:i=(sc L).length:=by unfold sc;rw[← hF,tO];omega
   refine .done ⟨i,_,pE,?_,rfl,rfl⟩;rw[Q7 _ _ _ _ (by omega),acM Bt M (by omega),hF];rfl
 ·have au:k+1=L.length:=by omega
  have hc:sc L=L:=by unfold sc;rw[← au,ha,au,ga]
  refine .done ⟨L.length,nw L,by rw[hc],?_,rfl,rfl⟩;rw[hc];exact eR (y5 (zm L))
end Go.Proofs.YtnikdflhefijbaaGreat
namespace Go.Proofs.YtnikdflhefijbaaGreat
open Go.Shelf
def Z2:Go.Shelf.Ren:=⟨fun | 6=>181 | 15=>233 | 14=>232 | 28=>274 | 29=>275 | 20=>266 | 21=>267 | 22=>268 | 23=>269 | 24=>270 | 25=>271 | 26=>272 | 27=>273 | 46=>295 | 47=>296 | 48=>297 | 49=>298 | 50=>299 | 57=>327 | n=>n,fun | 22=>22 | 24=>227 | 25=>250 | 3=>3 | 39=>253 | 0=>0 | 53=>284 | 55=>56 | 4=>4 | 46=>308 | 45=>307 | 50=>312 | 5=>5 | 9=>9 | 66=>331 | 70=>335 | 76=>353 | 77=>50 | n=>n,fun | n=>n⟩
theorem Ny:Go.Proofs.SlLaysF0.n6 Tryz.prog Z2:= {
 mixed:=by kernel_rfl
 f6 := ⟨"slices.SortFunc[[]sough/api.Edge,sough/api.Edge]", by decide, Tryz.func181.trans (congrArg some (by kernel_rfl))⟩
 f14 := ⟨"slices.pdqsortCmpFunc[sough/api.Edge]", by decide, Tryz.func232.trans (congrArg some (by kernel_rfl))⟩
 f15:=Tryz.func233.trans (congrArg some (by kernel_rfl))
 f20 := ⟨"slices.insertionSortCmpFunc[sough/api.Edge]", by decide, Tryz.func266.trans (congrArg some (by kernel_rfl))⟩
 f21 := ⟨"slices.heapSortCmpFunc[sough/api.Edge]", by decide, Tryz.func267.trans (congrArg some (by kernel_rfl))⟩
 f22 := ⟨"slices.breakPatternsCmpFunc[sough/api.Edge]", by decide, Tryz.func268.trans (congrArg some (by kernel_rfl))⟩
 f23 := ⟨"slices.choosePivotCmpFunc[sough/api.Edge]", by decide, Tryz.func269.trans (congrArg some (by kernel_rfl))⟩
 f24 := ⟨"slices.reverseRangeCmpFunc[sough/api.Edge]", by decide, Tryz.func270.trans (congrArg some (by kernel_rfl))⟩
 f25 := ⟨"slices.partialInsertionSortCmpFunc[sough/api.Edge]", by decide, Tryz.func271.trans (congrArg some (by kernel_rfl))⟩
 f26 := ⟨"slices.partitionEqualCmpFunc[sough/api.Edge]", by decide, Tryz.func272.trans (congrArg some (by kernel_rfl))⟩
 f27 := ⟨"slices.partitionCmpFunc[sough/api.Edge]", by decide, Tryz.func273.trans (congrArg some (by kernel_rfl))⟩
 f28:=Tryz.func274.trans (congrArg some (by kernel_rfl))
 f29:=Tryz.func275.trans (congrArg some (by kernel_rfl))
 f46 := ⟨"slices.siftDownCmpFunc[sough/api.Edge]", by decide, Tryz.func295.trans (congrArg some (by kernel_rfl))⟩
 f47:=Tryz.func296.trans (congrArg some (by kernel_rfl))
 f48:=Tryz.func297.trans (congrArg some (by kernel_rfl))
 f49 := ⟨"slices.medianAdjacentCmpFunc[sough/api.Edge]", by decide, Tryz.func298.trans (congrArg some (by kernel_rfl))⟩
 f50 := ⟨"slices.medianCmpFunc[sough/api.Edge]", by decide, Tryz.func299.trans (congrArg some (by kernel_rfl))⟩
 f57 := ⟨"slices.order2CmpFunc[sough/api.Edge]", by decide, Tryz.func327.trans (congrArg some (by kernel_rfl))⟩
 t0:=Tryz.underlying0
 a0:=Tryz.isAgg0
 z0:=Tryz.sizeOf0
 v0:=Tryz.zeroValue0
 t3:=Tryz.underlying3
 a3:=Tryz.isAgg3
 z3:=Tryz.sizeOf3
 v3:=Tryz.zeroValue3
 t4:=Tryz.underlying4
 a4:=Tryz.isAgg4
 z4:=Tryz.sizeOf4
 v4:=Tryz.zeroValue4
 t5:=Tryz.underlying5
 a5:=Tryz.isAgg5
 z5:=Tryz.sizeOf5
 v5:=Tryz.zeroValue5
 t9:=Tryz.underlying9
 a9:=Tryz.isAgg9
 z9:=Tryz.sizeOf9
 v9:=Tryz.zeroValue9
 t22:=Tryz.underlying22
 a22:=Tryz.isAgg22
 z22:=Tryz.sizeOf22
 v22:=Tryz.zeroValue22
 t25:=Tryz.underlying250
 a25:=Tryz.isAgg250
 z25:=Tryz.sizeOf250
 v25:=Tryz.zeroValue250
 t39:=Tryz.underlying253
 a39:=Tryz.isAgg253
 z39:=Tryz.sizeOf253
 v39:=Tryz.zeroValue253
 t45:=Tryz.underlying307
 a45:=Tryz.isAgg307
 z45:=Tryz.sizeOf307
 v45:=Tryz.zeroValue307
 t46:=Tryz.underlying308
 a46:=Tryz.isAgg308
 z46:=Tryz.sizeOf308
 v46:=Tryz.zeroValue308
 t50:=Tryz.underlying312
 a50:=Tryz.isAgg312
 z50:=Tryz.sizeOf312
 v50:=Tryz.zeroValue312
 t53:=Tryz.underlying284
 a53:=Tryz.isAgg284
 z53:=Tryz.sizeOf284
 v53:=Tryz.zeroValue284
 t55:=Tryz.underlying56
 a55:=Tryz.isAgg56
 z55:=Tryz.sizeOf56
 v55:=Tryz.zeroValue56
 t66:=Tryz.underlying331
 a66:=Tryz.isAgg331
 z66:=Tryz.sizeOf331
 v66:=Tryz.zeroValue331
 t70:=Tryz.underlying335
 a70:=Tryz.isAgg335
 z70:=Tryz.sizeOf335
 v70:=Tryz.zeroValue335
 t76:=Tryz.underlying353
 a76:=Tryz.isAgg353
 z76:=Tryz.sizeOf353
 v76:=Tryz.zeroValue353
 t77:=Tryz.underlying50
 a77:=Tryz.isAgg50
 z77:=Tryz.sizeOf50
 v77:=Tryz.zeroValue50 }
set_option maxRecDepth 100000
abbrev eL:Type:=Int×Int×Unit
def wS(x y:eL):Int:=OW x.1 x.2.1 y.1 y.2.1
theorem Va{F:Nat→Prop}{w:World}(x:eL):aB F w (.agg [.int .i64 x.1,.int .i64 x.2.1]) (.agg (oo x).toArray):=by
 refine .agg _ _ rfl (fun i a h=>?_) (fun i a h=>?_)
 ·match i,h with
  | 0,h=>cases h;rfl
  | 1,h=>cases h;rfl
 ·match i,h with
  | 0,h=>cases h;exact .int _ _
  | 1,h=>cases h;exact .int _ _
theorem adW(blk off size:Nat)(w:World):CmpLays Tryz.prog 182 #[] oo 2 wS blk off size w:=fun m os dk _ x y=>by
 have h:=R9 (fun σ=>aiQ x.1 x.2.1 y.1 y.2.1 σ) (w:=sortWorldK oo 2 w blk off m dk os) (vs:= #[.agg (oo x).toArray,.agg (oo y).toArray]) ⟨rfl,fun i a h=>by
  match i,h with
  | 0,h=>cases h;exact Va x
  | 1,h=>cases h;exact Va y⟩
 exact h
theorem x9(x y:eL):ltOf wS x y=decide (x.1<y.1∨(x.1=y.1∧x.2.1<y.2.1)):=by
 unfold ltOf;rw[decide_eq_decide];unfold wS OW Cu yG;split <;> split at * <;> (try split at *) <;> (try split) <;> omega
theorem aiU:Go.Sort.SWO (ltOf wS) where
 irrefl x:=by rw[x9];simp
 trans x y z h1 h2:=by rw[x9]at *;simp only[decide_eq_true_eq]at *;omega
 ntrans x y z h1 h2:=by rw[x9]at *;simp only[decide_eq_false_iff_not]at *;omega
theorem aiT(x y:eL)(h1:ltOf wS x y=false)(h2:ltOf wS y x=false):x=y:=by
 rw[x9]at *;simp only[decide_eq_false_iff_not]at *;obtain⟨a,b,_⟩:=x;obtain⟨c,d,_⟩:=y;have e1:a=c:=by simp only at h1 h2;omega
 have e2:b=d:=by simp only at h1 h2;omega
 rw[e1,e2]
def qU(l:List eL):List eL:=l.mergeSort fun x y=> !(ltOf wS) y x
theorem G2(l:List eL):(qU l).length=l.length:=Qi ..
theorem Q4:Enters Tryz.prog 181:=enters_of Tryz.func181 (by kernel_rfl)
theorem Zp:Enters Tryz.prog 182:=enters_of Tryz.func182 (by kernel_rfl)
theorem TH{vs:Array Value}(h:2=vs.size):∃v u,vs = #[v,u]:=by
 refine⟨vs.getD 0 undef,vs.getD 1 undef,Array.ext ?_ fun i h2 h3=>?_⟩
 ·simp[← h]
 ·have:i=0∨i=1:=by omega
  rcases this with rfl | rfl <;> simp[Array.getD,h2]
theorem fnv{F:Nat→Prop}{w:World}{f:Fn}{v:Value}(h:aB F w (.fn f [] []) v):v=.func f #[] #[]:=by
 cases h with
 |fn _ _ _ v1 v2 fD gQ _ _=>
  rw[Lb fD.symm,Lb gQ.symm]
theorem af8(x:eL):∀v∈oo x,v.oneCell'=true:=by
 intro v hv;simp only[oo,dm,xt,or_false]at hv
 rcases hv with rfl | rfl <;> rfl
theorem WN(b:Nat)(L:List eL)(n:Nat)(σ:Hp)(hz:L.length=n)(hl:n≤1000000):ACalls Tryz.prog 181 [.ae b 0 n 2,.fn (.func 182) [] []] ((b,nw L)::σ) (aC (.tup []) ((b,nw (qU L))::σ)):=by
 subst hz;refine⟨Q4,fun F w vs bP aG =>?_⟩;obtain⟨v,u,rfl⟩:=TH bP.1;have hv:aB F w (.ae b 0 L.length 2) v:=bP.2 0 _ rfl;obtain rfl:=fnv (show aB F w (.fn (.func 182) [] []) u from bP.2 1 _ rfl);obtain⟨a,cap,rfl,c,T,fz,m1,m2,m3,m4⟩:=hv.kR
 rcases m4 with ⟨rfl,_⟩ | ⟨_,_,h0,_⟩
 ·obtain⟨h1,h2⟩:=ahe (d:=Go.Sort.flatK oo 2 L.toArray) aG (Wi L) (by rw[Go.Sort.size_flatK,zm];rfl) (fun i x hx v hv=>by
   obtain⟨z,rfl,hz⟩:=Vp L i x hx
   rw[hz];exact hv.gp)
  have h:Calls Tryz.prog 181 #[.slice (some ⟨b,0,none⟩) L.length cap,.func (.func 182) #[] #[]] w fun e w'=>e=.returned (.tuple #[])∧∃n os,w'=sortWorldK oo 2 w b 0 n (qU L).toArray os:=AnyQ.slices_SortFunc_total Ny 2 Tryz.isAgg227 Tryz.sizeOf227 oo (fun _=>rfl) af8 wS aiU 182 #[] b 0 cap L.toArray w Zp (adW b 0 L.length w) h1 h2 (by show L.length<_;omega) aiT;refine h.mono ?_;rintro e w' ⟨rfl,n,os,rfl⟩
  obtain⟨k1,k2⟩:=acU (n:=n) (cs':=nw (qU L)) (d:=Go.Sort.flatK oo 2 (qU L).toArray) aG (Wi L) (by rw[zm,zm,G2]) (by rw[Go.Sort.size_flatK,zm];rfl) (fun i x hx=>by
   obtain⟨z,rfl,hz⟩:=Vp (qU L) i x hx
   rw[hz];exact⟨rfl,.int _ _⟩) os
  exact⟨.tup [],.tuple #[],_,F,rfl,k1,k2,.tup [] #[] rfl fun i x h=>by simp at h,rfl,rfl⟩
 ·have hz:L=[]:=iz.1 h0;subst hz;have h:Calls Tryz.prog 181 #[.slice (some a) 0 cap,.func (.func 182) #[] #[]] w fun e w'=>e=.returned (.tuple #[])∧w'=w:=AnyF.slices_SortFunc_none Ny (some a) cap _ w;have he:qU []=[]:=iz.1 (G2 []);rw[he];refine h.mono ?_;rintro e w' ⟨rfl,rfl⟩;exact⟨.tup [],.tuple #[],_,F,rfl,.refl _ _,aG,.tup [] #[] rfl fun i x h=>by simp at h,rfl,rfl⟩
abbrev mK:Sh:=.field (.int .i64) (.field (.int .i64) .nil)
theorem agu(L:List eL)(σ:Hp)(hl:L.length≤1000000)(h0:L≠[]):ACalls Tryz.prog 180 [.ah mK L] σ (fun x σ'=>∃b,x=.ae b 0 L.length 2∧σ'=(b,nw L)::σ):=by
 refine ay Tryz.func180 ?_;refine aJ.mk (mX.2 h0) ?_;intro b2;refine AppendAt.more 0 b2 0 L.length [] (nw L) rfl rfl (cy rfl) (.ah _ _ rfl) (by omega) (by decide) (by decide) (fun b'=>?_);refine .done ⟨b',?_,?_⟩
 ·rw[dI];rfl
 ·rfl
theorem aep(σ:Hp):ACalls Tryz.prog 180 [.an] σ (aC .an σ):=by
 refine ay Tryz.func180 ?_;exact .done ⟨rfl,rfl⟩
theorem aeo(σ:Hp):ACalls Tryz.prog 180 [.gT] σ (fun x σ'=>∃b,x=.ae b 0 0 2∧σ'=(b,[])::σ):=by
 refine ay Tryz.func180 ?_;intro b2;refine AppendAt.more 0 b2 0 0 [] [] rfl rfl (cy rfl) .gT (by omega) (by decide) (by decide) (fun b'=>?_);exact .done ⟨b',rfl,rfl⟩
theorem ag8(σ:Hp):ACalls Tryz.prog 181 [.an,.fn (.func 182) [] []] σ (aC (.tup []) σ):=by
 refine⟨Q4,fun F w vs bP aG =>?_⟩;obtain⟨v,u,rfl⟩:=TH bP.1;have hv:aB F w .an v:=bP.2 0 _ rfl;cases hv;have h:Calls Tryz.prog 181 #[.slice none 0 0,u] w fun e w'=>e=.returned (.tuple #[])∧w'=w:=AnyF.slices_SortFunc_none Ny none 0 u w;refine h.mono ?_;rintro e w' ⟨rfl,rfl⟩;exact⟨.tup [],.tuple #[],_,F,rfl,.refl _ _,aG,.tup [] #[] rfl fun i x h=>by simp at h,rfl,rfl⟩
theorem aau(σ:Hp):ACalls Tryz.prog 185 [.an,.fn (.func 186) [] []] σ (aC .an σ):=by
 refine ay Tryz.func185 ?_;exact .done ⟨rfl,rfl⟩
def gl(L:List eL):List eL:=sc (qU L)
theorem Ro(L:List eL)(σ:Hp)(hl:L.length≤1000000):ACalls Tryz.prog 133 [.ah mK L] σ (aC (.ah mK (gl L)) σ):=by
 have hn:qU []=[]:=iz.1 (G2 []);have mq:gl []=[]:=by unfold gl;rw[hn];rfl
 refine Ds (fun h=>?_) (fun h=>?_)
 ·subst h;refine⟨?_,?_⟩
  ·refine ay Tryz.func133 ?_;refine ax [] (aep σ) ?_;refine ax [] (ag8 _) ?_;refine ax [] (aau _) ?_;exact .nil (.nil mK) (.done ⟨congrArg (AV.ah mK) mq.symm,rfl⟩)
  ·refine ay Tryz.func133 ?_;refine .mk [] _ (aeo σ) ?_;rintro _ _ ⟨b,rfl,rfl⟩;have hs:=WN b [] 0 σ rfl (by decide);rw[hn]at hs;refine ax [] hs ?_;refine .mk [] _ (Tx b [] σ (by decide)) ?_;rintro _ _ ⟨k,cs,hk,jL,rfl,rfl⟩;subst hk;exact .cN 0 b 0 _ 2 cs mK ([]:List eL) rfl jL ⟨rfl,rfl,by decide⟩ .here (.done ⟨congrArg (AV.ah mK) mq.symm,rfl⟩)
 ·refine ay Tryz.func133 ?_;refine .mk [] _ (agu L σ hl h) ?_;rintro _ _ ⟨b,rfl,rfl⟩;refine ax [] (WN b L L.length σ rfl hl) ?_;have cT:(qU L).length=L.length:=G2 L;have hc:=Tx b (qU L) σ (by rw[cT];exact hl);rw[cT]at hc;refine .mk [] _ hc ?_;rintro _ _ ⟨k,cs,hk,jL,rfl,rfl⟩;subst hk;exact .cN 0 b 0 _ 2 cs mK (gl L) rfl jL ⟨rfl,rfl,by decide⟩ .here (.done ⟨rfl,rfl⟩)
def ot(x y:eL):Prop:=x.1<y.1∨(x.1=y.1∧x.2.1<y.2.1)
def Cv(x y:eL):Prop:=x.1<y.1∨(x.1=y.1∧x.2.1≤y.2.1)
theorem Wh{x y:eL}(h1:x.1=y.1)(h2:x.2.1=y.2.1):x=y:=by
 obtain⟨a,b,_⟩:=x;obtain⟨c,d,_⟩:=y;simp only at h1 h2;rw[h1,h2]
theorem UF:∀{l m:List eL},l.Pairwise ot→m.Pairwise ot→(∀x,x∈l↔x∈m)→l=m
 | [],[],_,_,_=>rfl
 | [],y::m,_,_,h=>absurd ((h y).2 (b9 ..)) xt
 |x::l,[],_,_,h=>absurd ((h x).1 (b9 ..)) xt
 |x::l,y::m,hl,hm,h=>by
  have h1:=tP.1 hl;have h2:=tP.1 hm
  have aU:x=y:=by
   have a:=(h x).1 (b9 ..);have b:=(h y).2 (b9 ..)
   rcases dm.1 a with a | a
   ·exact a
   ·rcases dm.1 b with b | b
    ·exact b.symm
    ·have p:=h1.1 y b;have q:=h2.1 x a;unfold ot at p q;omega
  subst aU;refine congrArg (x :: ·) (UF h1.2 h2.2 fun z=>⟨fun hz=>?_,fun hz=>?_⟩)
  ·rcases dm.1 ((h z).1 (cQ _ hz)) with e | e
   ·subst e;have p:=h1.1 z hz;unfold ot at p;omega
   ·exact e
  ·rcases dm.1 ((h z).2 (cQ _ hz)) with e | e
   ·subst e;have p:=h2.1 z hz;unfold ot at p;omega
   ·exact e
theorem YI(l:List eL):(qU l).Pairwise Cv:=by
 have:=List.pairwise_mergeSort (le:=fun x y:eL=> !(ltOf wS) y x) (fun a b c h1 h2=>by
  rw[x9]at *;simp only[jO,decide_eq_false_iff_not]at *;omega) (fun a b=>by
  rw[x9,x9,pK];simp only[jO,decide_eq_false_iff_not]
  omega) l
 refine this.imp fun {x y} h=>?_;rw[x9]at h;simp only[jO,decide_eq_false_iff_not]at h;unfold Cv;omega
theorem aaF(l:List eL)(x:eL):x∈qU l↔x∈l:=List.mem_mergeSort
theorem VB{l:List eL}(h:l.Pairwise Cv){i j:Nat}(fj:i≤j)(hj:j<l.length):Cv (l[i]'(by omega)) l[j]:=by
 by_cases e:i=j
 ·subst e;exact .inr ⟨rfl,kl _⟩
 ·exact GP.1 h i j (by omega) hj (by omega)
theorem abG{l:List eL}(h:l.Pairwise Cv):(sc l).Pairwise ot:=by
 unfold sc qd;rw[vF]
 have hr:((List.range l.length).filter (qb l)).Pairwise fun i j=>i<j∧j<l.length∧qb l j=true:=by
  have h1:(List.range l.length).Pairwise fun i j=>i<j∧j<l.length:=by
   rw[GP];intro i j hi hj fj;simp only[KX];exact⟨fj,by simpa using hj⟩
  rw[List.pairwise_filter];exact h1.imp fun fj _ hk=>⟨fj.1,fj.2,hk⟩
 refine hr.imp fun {i j} ⟨h1,h2,h3⟩=>?_
 have hk:l[j]≠l[j-1]'(by omega):=by
  unfold qb at h3;rw[np h2,np (show j-1<l.length by omega)]at h3;simp only[pK,decide_eq_true_eq,jO,decide_eq_false_iff_not]at h3
  rcases h3 with h3 | h3
  ·omega
  ·exact h3
 rw[np h2,np (show i<l.length by omega)];have q1:=VB h (i:=i) (j:=j-1) (by omega) (by omega);have q2:=VB h (i:=j-1) (j:=j) (by omega) h2;have aS:¬((l[j]).1=(l[j-1]'(by omega)).1∧(l[j]).2.1=(l[j-1]'(by omega)).2.1):=fun e=>hk (Wh e.1 e.2);unfold Cv at q1 q2;unfold ot;omega
theorem abF{l:List eL}(x:eL):x∈sc l↔x∈l:=by
 unfold sc qd;constructor
 ·intro hx;obtain⟨j,hj,rfl⟩:=cX.1 hx;have hj:=fF.1 (kL.1 hj).1;rw[np hj];exact cq hj
 ·intro hx
  obtain⟨j,⟨hj,e⟩,jg⟩:∃j,(∃h:j<l.length,l[j]=x)∧∀k,k<j→¬∃h:k<l.length,l[k]=x:=by
   obtain⟨j,hj,e⟩:=xz.1 hx;have hj:∃h:j<l.length,l[j]=x:=⟨hj,e⟩
   clear e
   induction j using Nat.strongRecOn with
   |ind j ih=>
    by_cases hk:∃k,k<j∧∃h:k<l.length,l[k]=x
    ·obtain⟨k,h1,h2⟩:=hk;exact ih k h1 h2.1 h2
    ·exact⟨j,hj,fun k h1 h2=>hk ⟨k,h1,h2⟩⟩
  refine cX.2 ⟨j,kL.2 ⟨fF.2 hj,?_⟩,by rw[np hj];exact e⟩;unfold qb
  by_cases h0:j=0
  ·rw[bu h0];rfl
  ·rw[cf h0,pI,np hj,np (show j-1<l.length by omega)];rw[jO,decide_eq_false_iff_not];exact fun h=>jg (j-1) (by omega) ⟨by omega,h.symm.trans e⟩
theorem YX(l:List eL):(gl l).Pairwise ot:=abG (YI l)
theorem G5(l:List eL)(x:eL):x∈gl l↔x∈l:=by unfold gl;rw[abF,aaF]
def ql(x:eL):List eL→List eL
 | []=>[x]
 |y::r=>if x.1<y.1∨(x.1=y.1∧x.2.1≤y.2.1) then (if x=y then y::r else x::y::r) else y::ql x r
theorem Mz(x:eL):∀(l:List eL) (z:eL),z∈ql x l↔z=x∨z∈l
 | [],z=>by unfold ql;rw[List.mem_singleton];simp
 |y::r,z=>by
  unfold ql;split
  ·split
   ·rename_i h;subst h;rw[dm]
    exact⟨fun h=>.inr h,fun h=>h.elim .inl id⟩
   ·rw[dm]
  ·rw[dm,Mz x r z,dm];exact⟨fun h=>h.elim (fun h=>.inr (.inl h)) fun h=>h.elim .inl fun h=>.inr (.inr h),fun h=>h.elim (fun h=>.inr (.inl h)) fun h=>h.elim .inl fun h=>.inr (.inr h)⟩
theorem UE(x:eL):∀{l:List eL},l.Pairwise ot→(ql x l).Pairwise ot
 | [],_=>List.pairwise_singleton ..
 |y::r,h=>by
  have h1:=tP.1 h;unfold ql;split
  ·rename_i hle
   split
   ·exact h
   ·rename_i aS
    have ab:ot x y:=by
     have:¬(x.1=y.1∧x.2.1=y.2.1):=fun e=>aS (Wh e.1 e.2);unfold ot;omega
    refine tP.2 ⟨fun z hz=>?_,h⟩
    rcases dm.1 hz with e | e
    ·rw[e];exact ab
    ·have:=h1.1 z e;unfold ot at this ab ⊢;omega
  ·rename_i hgt
   refine tP.2 ⟨fun z hz=>?_,UE x h1.2⟩
   rcases (Mz x r z).1 hz with e | e
   ·rw[e];unfold ot;omega
   ·exact h1.1 z e
theorem adF(l:List eL):l.foldl (fun o x=>ql x o) []=gl l:=by
 have key:∀(l o:List eL),o.Pairwise ot→(l.foldl (fun o x=>ql x o) o).Pairwise ot∧∀z,z∈l.foldl (fun o x=>ql x o) o↔z∈o∨z∈l:=by
  intro l
  induction l with
  |nil=>intro o ho;exact⟨ho,fun z=>by simp⟩
  |cons x l ih=>
   intro o ho;obtain⟨k1,k2⟩:=ih (ql x o) (UE x ho);refine⟨k1,fun z=>?_⟩;rw[GC,k2,Mz,dm];exact⟨fun h=>h.elim (fun h=>h.elim (fun h=>.inr (.inl h)) .inl) fun h=>.inr (.inr h),fun h=>h.elim (fun h=>.inl (.inr h)) fun h=>h.elim (fun h=>.inl (.inl h)) .inr⟩
 obtain⟨k1,k2⟩:=key l [] List.Pairwise.nil;refine UF k1 (YX l) fun z=>?_;rw[k2,G5];simp
def Cf(B:List eL)(k:Nat):List eL:=(B.take k).foldl (fun o x=>ql x o) []
theorem abq{B:List eL}{k:Nat}(h:k<B.length):Cf B (k+1)=ql B[k] (Cf B k):=by
 unfold Cf;rw[ft h,sK];rfl
theorem UD(x:eL):∀l,(ql x l).length≤l.length+1
 | []=>aQ _
 |y::r=>by
  unfold ql;split
  ·split
   ·simp only[gj];omega
   ·simp only[gj];omega
  ·have:=UD x r;simp only[gj];omega
theorem My(B:List eL):∀k,k≤B.length→(Cf B k).length≤k
 | 0,_=>aQ _
 |k+1,h=>by
  have h1:=My B k (by omega);rw[abq (by omega)];exact ff (UD _ _) (by omega)
theorem UC(B:List eL):Cf B B.length=gl B:=by unfold Cf;rw[ga];exact adF B
theorem MS{α:Type}(fr σ:List α)(x y:α):(fr++(x::σ)).set fr.length y=fr++(y::σ):=by
 rw[Le _ _ (aQ _),qB];rfl
theorem aet(l:List (Sh.T mK))(σ:Hp)(hl:l.length≤1000000):ACalls Tryz.prog 180 [.ah mK l] σ (fun x σ'=>∃acc,Acc 2 l.length x acc (l.flatMap (Sh.cells mK))∧σ'=acc++σ):=by
 refine Ds (fun h=>⟨?_,?_⟩) (fun h=>?_)
 ·subst h;refine ay Tryz.func180 ?_;exact .done ⟨[],.nil,rfl⟩
 ·subst h;refine ay Tryz.func180 ?_;intro b;refine AppendAt.more 0 b 0 0 [] _ rfl rfl (cy rfl) .gT (by decide) (by decide) (by decide) (fun b'=>?_);exact .done ⟨[(b',[])],.ae b' 0 [] rfl,rfl⟩
 ·refine ay Tryz.func180 ?_;refine aJ.mk (mX.2 h) ?_;intro b;refine AppendAt.more 0 b 0 l.length [] _ rfl rfl (cy rfl) (.ah mK l rfl) (by omega) (by decide) (by decide) (fun b'=>?_);refine .done ⟨[(b',l.flatMap (Sh.cells mK))],?_,rfl⟩;rw[dI];exact .ae b' l.length _ (xH (f:=Sh.cells mK) (es:=2) (fun _=>rfl) l)
theorem aes(l:List (Sh.T mK))(σ:Hp)(hl:l.length≤1000000):ACalls Tryz.prog 180 [.ah mK l] σ (aC (.ah mK l) σ):=by
 refine (aet l σ hl).fin ?_;rintro v σ' ⟨acc,cj,rfl⟩;exact rX (s:=mK) [] cj rfl rfl (by decide) (.done ⟨rfl,rfl⟩)
theorem aer(l:List (Sh.T (.int .i64)))(σ:Hp)(hl:l.length≤1000000):ACalls Tryz.prog 220 [.ah (.int .i64) l] σ (fun x σ'=>∃acc,Acc 1 l.length x acc (l.flatMap (Sh.cells (.int .i64)))∧σ'=acc++σ):=by
 refine Ds (fun h=>⟨?_,?_⟩) (fun h=>?_)
 ·subst h;refine ay Tryz.func220 ?_;exact .done ⟨[],.nil,rfl⟩
 ·subst h;refine ay Tryz.func220 ?_;intro b;refine AppendAt.more 0 b 0 0 [] _ rfl rfl (cy rfl) .gT (by decide) (by decide) (by decide) (fun b'=>?_);exact .done ⟨[(b',[])],.ae b' 0 [] rfl,rfl⟩
 ·refine ay Tryz.func220 ?_;refine aJ.mk (mX.2 h) ?_;intro b;refine AppendAt.more 0 b 0 l.length [] _ rfl rfl (cy rfl) (.ah (.int .i64) l rfl) (by omega) (by decide) (by decide) (fun b'=>?_);refine .done ⟨[(b',l.flatMap (Sh.cells (.int .i64)))],?_,rfl⟩;rw[dI];exact .ae b' l.length _ (xH (f:=Sh.cells (.int .i64)) (es:=1) (fun _=>rfl) l)
theorem aeq(l:List (Sh.T (.int .i64)))(σ:Hp)(hl:l.length≤1000000):ACalls Tryz.prog 220 [.ah (.int .i64) l] σ (aC (.ah (.int .i64) l) σ):=by
 refine (aer l σ hl).fin ?_;rintro v σ' ⟨acc,cj,rfl⟩;exact rX (s:=(.int .i64)) [] cj rfl rfl (by decide) (.done ⟨rfl,rfl⟩)
theorem aev(l:List (Sh.T jS))(σ:Hp)(hl:l.length≤1000000):ACalls Tryz.prog 222 [.ah jS l] σ (fun x σ'=>∃acc,Acc 8 l.length x acc (l.flatMap (Sh.cells jS))∧σ'=acc++σ):=by
 refine Ds (fun h=>⟨?_,?_⟩) (fun h=>?_)
 ·subst h;refine ay Tryz.func222 ?_;exact .done ⟨[],.nil,rfl⟩
 ·subst h;refine ay Tryz.func222 ?_;intro b;refine AppendAt.more 0 b 0 0 [] _ rfl rfl (cy rfl) .gT (by decide) (by decide) (by decide) (fun b'=>?_);exact .done ⟨[(b',[])],.ae b' 0 [] rfl,rfl⟩
 ·refine ay Tryz.func222 ?_;refine aJ.mk (mX.2 h) ?_;intro b;refine AppendAt.more 0 b 0 l.length [] _ rfl rfl (cy rfl) (.ah jS l rfl) (by omega) (by decide) (by decide) (fun b'=>?_);refine .done ⟨[(b',l.flatMap (Sh.cells jS))],?_,rfl⟩;rw[dI];exact .ae b' l.length _ (xH (f:=Sh.cells jS) (es:=8) (fun _=>rfl) l)
theorem aeu(l:List (Sh.T jS))(σ:Hp)(hl:l.length≤1000000):ACalls Tryz.prog 222 [.ah jS l] σ (aC (.ah jS l) σ):=by
 refine (aev l σ hl).fin ?_;rintro v σ' ⟨acc,cj,rfl⟩;exact rX (s:=jS) [] cj rfl rfl (by decide) (.done ⟨rfl,rfl⟩)
theorem afX(l:List Int)(σ:Hp)(hl:l.length≤1000000):ACalls Tryz.prog 221 [.ah (.int .u64) l] σ (fun x σ'=>∃b,x=.ae b 0 l.length 1∧σ'=(b,aR l)::σ):=by
 refine ay Tryz.func221 ?_;have hn:(l.length:Int)≤1048576:=by omega
 refine aJ.mk ⟨GJ _,kl _,hn,by decide⟩ ?_;intro aF;have hr:(cI [.int .u64 0] ((l.length:Int)).toNat).length=l.length:=by rw[bG,vP];exact dS _
 refine NS.ae 0 aF 0 l.length l.length _ (l.flatMap (Sh.cells (.int .u64))) rfl rfl (by show 0+l.length*1≤(cI [.int .u64 0] ((l.length:Int)).toNat).length;rw[hr];omega) (.ah (.int .u64) l rfl) (aQ _) ?_
 have he:fx (cI [.int .u64 0] ((l.length:Int)).toNat) 0 (l.flatMap (Sh.cells (.int .u64)))=aR l:=by
  rw[← lA];have h:=Hc (aR l) [] (cI [.int .u64 0] ((l.length:Int)).toNat) [] (by rw[hr];simp[aR]);simpa using h
 exact .done ⟨aF,rfl,congrArg (fun cs=>(aF,cs)::σ) he⟩
theorem Nh(l:List Int)(σ:Hp)(hl:l.length≤1000000):ACalls Tryz.prog 221 [.ah (.int .u64) l] σ (aC (.ah (.int .u64) l) σ):=by
 refine (afX l σ hl).fin ?_;rintro v σ' ⟨b,rfl,rfl⟩;exact .cN 0 b 0 l.length 1 _ (.int .u64) l rfl (by rw[List.drop_zero,← lA];exact List.take_of_length_le (by simp[aR])) ⟨rfl,rfl,by decide⟩ .here (.done ⟨rfl,rfl⟩)
def zQ:Option mZ→List AV
 |none=>[.an,.an,.an]
 |some t=>[.ah (.int .u64) t.1,.ah (.int .u64) t.2.1,.ah jS t.2.2.1]
theorem aaB(t:Option mZ):(zQ t).length=3:=by cases t <;> rfl
def uS(T:List mZ)(k:Nat):List (Option mZ):=(T.take k).map some++List.replicate (T.length-k) none
theorem abC(T:List mZ):(uS T 0).flatMap zQ=cI [.an,.an,.an] T.length:=by
 show (List.replicate (T.length-0) none).flatMap zQ=_;rw[Nat.sub_zero];generalize T.length=n
 induction n with
 |zero=>rfl
 |succ n ih=>rw[Qt,y6,ih];rfl
theorem adK{T:List mZ}{k:Nat}(h:k≤T.length):(uS T k).length=T.length:=by unfold uS;simp;omega
theorem adJ{T:List mZ}{k:Nat}(h:k<T.length):(uS T k).set k (some T[k])=uS T (k+1):=by
 unfold uS;rw[List.set_append_right _ _ (by simp;omega)];have e:T.length-k=(T.length-(k+1))+1:=by omega
 have e2:k-((T.take k).map some).length=0:=by simp;omega
 rw[e2,e,Qt,ft h];simp only[cF,pJ,List.map_nil,dW,CW,vD,List.set_cons_zero]
theorem adL(T:List mZ):(uS T T.length).flatMap zQ=T.flatMap (Sh.cells mC):=by
 unfold uS;rw[qB,ga,List.replicate_zero,mV,List.flatMap_map];rfl
theorem ac5(s:Sy)(σ:Hp)(hf:Fit s):ACalls Tryz.prog 162 [.agg (cc s)] σ (aC (.agg (cc s)) σ):=by
 refine ay Tryz.func162 ?_;intro aF;intro dJ;refine .sched [2,5,8] (upto [2,5,8] 15 0) (by kernel_rfl) ?_;refine aa 1 ?_;refine aK [] (aes s.aN _ (ff hf.yE (by decide))) ?_;refine aa 1 ?_;refine aK [] (aeq s.entry _ (ff hf.Cc (by decide))) ?_;refine aa 1 ?_;refine aK [] (Nh s.init _ (ff hf.Fi (by decide))) ?_;refine aj 1 ?_;refine aj 1 ?_;refine aj 1 ?_;refine aa 1 ?_;have hT:=hf.Oq;have Gl:(s.T.length:Int)≤1048576:=by omega
 refine aJ.mk ⟨GJ _,kl _,Gl,by decide⟩ ?_;intro bt;have Kv:(bt,cI [AV.an,AV.an,AV.an] ((s.T.length:Int)).toNat)=(bt,(uS s.T 0).flatMap zQ):=by rw[abC,bG]
 refine aa 2 ?_;refine ca (S:=Nat) (fun k=>[(1,.ptr aF 0),(2,.ptr dJ 0),(3,.ae bt 0 s.T.length 3),(23,.ah mC s.T),(24,.int .i64 s.T.length),(25,.int .i64 k)]) (fun k=>(bt,(uS s.T k).flatMap zQ)::(dJ,[.int .i64 0,.int .i64 0,.int .i64 0,.an,.an,.an,.an])::(aF,cc s)::σ) (fun k=>k≤s.T.length) (fun k=>s.T.length-k) 0 ⟨bC _,⟨rfl,rfl,rfl,rfl,rfl,rfl,trivial⟩,congrArg (· :: (dJ,([.int .i64 0,.int .i64 0,.int .i64 0,.an,.an,.an,.an]:List AV))::(aF,cc s)::σ) Kv⟩ ?_;rintro k g aP;have hk:k≤s.T.length:=aP;clear aP;refine ao (fun ab=>?_) (fun au=>?_)
 ·have ab:k<s.T.length:=by have ab:(k:Int)<s.T.length:=ab;omega
  have kA:=adJ ab;have rG:=hf.ts _ (cq ab);obtain⟨t,ht⟩:∃t:mZ,s.T[k]=t:=⟨_,rfl⟩
  rw[ht]at kA rG;obtain⟨t1,t2,t3,tu⟩:=t;obtain⟨_,_,l1,l2,l3⟩:=rG;have l1:t1.length≤10000:=l1;have l2:t2.length≤10000:=l2;have l3:t3.length≤100000:=l3;refine aJ.mk rfl (bO.mk (t1,t2,t3,tu) (by omega) ((get_some ab).trans (congrArg some ht)) ?_);intro aF;refine aj 0 ?_;refine .sched [4,7,10] (upto [4,7,10] 14 0) (by kernel_rfl) ?_;refine aa 0 ?_;refine aK [] (Nh t1 _ (ff l1 (by decide))) ?_;refine aa 0 ?_;refine aK [] (Nh t2 _ (ff l2 (by decide))) ?_;refine aa 0 ?_;refine aK [] (aeu t3 _ (ff l3 (by decide))) ?_;refine aO ?_;refine cU 1 rfl ((SC rfl aaB (by rw[adK hk];exact ab) (some (t1,t2,t3,tu)) rfl).trans (congrArg (fun l=>some (List.flatMap zQ l)) kA)) ?_;exact a8 (k+1) (by show s.T.length-(k+1)<s.T.length-k;omega) ab ⟨rfl,rfl,rfl,rfl,rfl,aX (by omega),trivial⟩ (.drop 0 1 (.refl _))
 ·have au:k=s.T.length:=by have au:¬(k:Int)<s.T.length:=au;omega
  subst au;rw[adL];refine aj 2 ?_;refine aa 2 ?_;refine aj 1 ?_;refine aa 1 ?_;refine .cN 0 bt 0 s.T.length 3 _ mC s.T rfl ?_ ⟨rfl,rfl,by decide⟩ (Nc (eF (.refl _) (eF (.refl _) (eF (.refl _) (eF (.refl _) (eF (.refl _) (eF (.refl _) (eF .here zE))))))) rfl) (.drop 0 2 (.done ⟨rfl,rfl⟩));rw[gR];exact eR (y5 (xH (f:=Sh.cells mC) (es:=3) (fun _=>rfl) s.T))
theorem VR{F:Nat→Prop}{w:World}{σ:Hp}(h:bj F w σ){i b' k:Nat}{cs':List AV}{c c':AV}(hl:c'.leaf=true)(eQ:c.leaf=true)(hc:∀v,aB F w c v→aB F w c' v)(hi:σ[i]?=some (b',cs'))(hk:cs'[k]?=some c):bj F w (σ.set i (b',cs'.set k c')):=by
 refine⟨?_,fun p hp=>?_,h.low⟩
 ·have e1:(σ.set i (b',cs'.set k c')).map Prod.fst=σ.map Prod.fst:=by
   rw[oI];refine List.ext_getElem (by simp) fun j h1 h2=>?_;rw[KR];split
   ·rename_i hj;subst hj
    obtain⟨q1,q2⟩:=bZ.1 hi;rw[KQ,q2]
   ·rfl
  rw[e1];exact h.nodup
 ·rcases qG hp with hp | rfl
  ·exact h.holds p hp
  ·obtain⟨h1,c0,T,h2,h3,h4⟩:=(h.holds _ (bU hi)).N3 hk eQ;refine⟨h1,.inl ⟨c0,T,h2,by rw[cz];exact h3,fun j x hx=>?_⟩⟩;rw[eA]at hx;split at hx
   ·rename_i hj;subst hj
    split at hx
    ·cases hx;exact⟨hl,hc _ (h4 k _ hk).2⟩
    ·cases hx
   ·exact h4 j x hx
abbrev kf:=AV×Hp×List Int
def zR(r:kf):Prop:=(r.1=.an∧r.2.1=[]∧r.2.2=[])∨(∃v,r.1=.via v∧Acc 1 r.2.2.length v r.2.1 (ai r.2.2))
def kq(rs:List kf):List AV:=rs.map (·.1)
def l6(rs:List kf):Hp:=rs.flatMap (·.2.1)
def lH(rs:List kf):List (List Int):=rs.map (·.2.2)
theorem MX:∀(A:List (List Int)) (l:List Int) (B:List AV),(cE A++.ah (.int .i64) l::B)=cE (A++[l])++B
 | [],_,_=>rfl
 |a::A,l,B=>congrArg (AV.ah (.int .i64) a :: ·) (MX A l B)
theorem af7(A:List (List Int)):(cE A).length=A.length:=bX _
theorem MT{w:World}{bo:Nat}{σ:Hp}:∀(B:List kf) (A:List (List Int)) (F:Nat→Prop),(∀r∈B,zR r)→bj F w ((bo,cE A++kq B)::(l6 B++σ))→∃F',bH F w F' w∧bj F' w ((bo,cE (A++lH B))::σ)
 | [],A,F,_,h=>⟨F,⟨rfl,rfl,rfl,aQ _,fun _ h=>h,fun _ _=>rfl,fun _ c _ fz h=>⟨c,fz,h,rfl⟩,aQ _⟩,by
  have h:bj F w ((bo,cE A++[])::σ):=h;rw[mV]at h;rw[show A++lH []=A from mV _]
  exact h⟩
 |(c,acc,l)::B,A,F,hB,h=>by
  have hB':∀r∈B,zR r:=fun r hr=>hB r (cQ _ hr);have h:bj F w ((bo,cE A++c::kq B)::(acc++l6 B++σ)):=h;have hk:(cE A++c::kq B)[(cE A).length]?=some c:=by simp
  have sk:acc=[]→l=[]→c.leaf=true→(∀v,aB F w c v→aB F w (.ah (.int .i64) []) v)→∃F',bH F w F' w∧bj F' w ((bo,cE (A++lH ((c,acc,l)::B)))::σ):=fun h1 h2 eQ h3=>by
   subst h1;subst h2;have this:bj F w ((bo,(cE A++c::kq B).set (cE A).length (.ah (.int .i64) []))::(l6 B++σ)):=VR h (c':=.ah (.int .i64) []) rfl eQ h3 (i:=0) rfl hk;rw[MS]at this;have this:bj F w ((bo,cE A++.ah (.int .i64) []::kq B)::(l6 B++σ)):=this;have this:bj F w ((bo,cE (A++[[]])++kq B)::(l6 B++σ)):=(MX A [] (kq B))▸this;obtain⟨F',q1,q2⟩:=MT B (A++[[]]) F hB' this;rw[dW]at q2;exact⟨F',q1,q2⟩
  have gw:∀v,aB F w .an v→aB F w (.ah (.int .i64) []) v:=fun v hv=>by
   cases hv;exact .ah (.int .i64) [] _ ⟨none,0,rfl,aQ _,by unfold maxLen;omega,fun _=>rfl,fun aS=>absurd rfl aS⟩
  rcases hB _ (b9 ..) with ⟨h1,h2,h3⟩ | ⟨v,h1,h2⟩
  ·have h1:c=.an:=h1;exact sk h2 h3 (by rw[h1];rfl) (by rw[h1];exact gw)
  ·have h1:c=.via v:=h1;subst h1;have h2:Acc 1 l.length v acc (ai l):=h2;generalize hn:l.length=n at h2;generalize hc:ai l=cs at h2;cases h2 with
   |nil=>
    exact sk rfl (iz.1 hn) rfl (by
     intro v hv;cases hv with
     |via _ _ _ hv=>exact gw _ hv)
   |ae b k cs hl=>
    subst hn;subst hc
    have h5:bj F w ((bo,(cE A++.via (.ae b 0 l.length 1)::kq B).set (cE A).length (.ae b 0 l.length 1))::(b,ai l)::(l6 B++σ)):=VR h (c':=.ae b 0 l.length 1) rfl rfl (by
     intro v hv;cases hv with
     |via _ _ _ hv=>exact hv) (i:=0) rfl hk
    rw[MS]at h5;have h5:bj F w ((bo,cE A++.ae b 0 l.length 1::kq B)::(b,ai l)::(l6 B++σ)):=h5;obtain⟨aq,aG,hh⟩:=yh h5 (j:=1) (b:=b) (off:=0) (len:=l.length) (es:=1) (cs:=ai l) (e:=.int .i64) (l:=l) rfl (by rw[gR,← vW];exact eR (by rw[M8];omega)) ⟨rfl,rfl,by decide⟩;have h6:bj _ w ((bo,(cE A++.ae b 0 l.length 1::kq B).set (cE A).length (.ah (.int .i64) l))::(l6 B++σ)):=H0 aG hh (i:=0) (k:=(cE A).length) (b':=bo) rfl (by simp);rw[MS]at h6;have h6:bj _ w ((bo,cE A++.ah (.int .i64) l::kq B)::(l6 B++σ)):=h6;rw[MX]at h6;obtain⟨F',q1,q2⟩:=MT B (A++[l]) _ hB' h6;rw[dW]at q2;exact⟨F',aq.trans q1,q2⟩
theorem ZB{f:FuncId}{xs:List AV}{σ0 σ:Hp}{Q:List (List Int)→Prop}(h:ACalls Tryz.prog f xs σ0 (fun r σ'=>∃bo rs,r=.ae bo 0 (rs:List kf).length 1∧σ'=(bo,kq rs)::(l6 rs++σ)∧(∀r∈rs,zR r)∧Q (lH rs))):ACalls Tryz.prog f xs σ0 (fun r σ'=>∃ls:List (List Int),r=.ah (.slice (.int .i64)) ls∧σ'=σ∧Q ls):=
 ⟨h.1,fun F w vs bP aG=>(h.2 F w vs bP aG).mono fun _ w' ⟨r,v,σ',F',h1,h2,h3,h4,h5⟩=>by
  obtain⟨bo,rs,rfl,rfl,q1,q2⟩:=h5;obtain⟨F2,k1,k2⟩:=MT rs [] F' q1 h3;have hl:(lH rs).length=rs.length:=bX _;have k2:bj F2 w' ((bo,cE (lH rs))::σ):=k2;obtain⟨m1,m2,m3⟩:=yh k2 (j:=0) (b:=bo) (off:=0) (len:=rs.length) (es:=1) (cs:=cE (lH rs)) (e:=.slice (.int .i64)) (l:=lH rs) rfl (by rw[gR,← xT];exact eR (by rw[af7,hl];omega)) ⟨hl,rfl,by decide⟩
  exact⟨.ah (.slice (.int .i64)) (lH rs),v,σ,_,h1,(h2.trans k1).trans m1,m2,m3 v (h4.mono k1),lH rs,rfl,rfl,q2⟩⟩
theorem aaN(rs:List kf):(kq rs).length=rs.length:=bX _
theorem acL(A:List kf)(r:kf)(B:List kf){z:Int}(hz:z=A.length):(kq (A++r::B))[0+z.toNat*1]?=some r.1:=by
 subst hz;rw[bG,dS,dI];unfold kq;rw[fk];simp
theorem aaM(A:List kf)(r r2:kf)(B:List kf){z:Int}(hz:z=A.length):(kq (A++r::B)).set (0+z.toNat*1) r2.1=kq (A++r2::B):=by
 subst hz;rw[bG,dS,dI];unfold kq;simp
theorem acQ(n:Nat):cI [.an] n=kq (List.replicate n (.an,[],[])):=by
 induction n with
 |zero=>rfl
 |succ n ih=>show AV.an::cI [.an] n=_;rw[ih];rfl
theorem aaO(n:Nat):l6 (List.replicate n (.an,[],[]))=[]:=by
 induction n with
 |zero=>rfl
 |succ n ih=>exact ih
theorem LX(A:List kf)(r:kf)(B:List kf)(σ:Hp):l6 (A++r::B)++σ=l6 A++(r.2.1++(l6 B++σ)):=by
 unfold l6;simp
def yi(s:Sy):Int:=if dT s=0 then IntKind.i64.wrap (s.n+IntKind.i64.wrap (((gl s.aN).length:Int)*dN s.what s.w)) else 0
theorem afJ{s:Sy}(h:dT s=0):IntKind.i64.wrap (s.n+IntKind.i64.wrap (((gl s.aN).length:Int)*dN s.what s.w))=yi s:=(af h).symm
theorem afI{s:Sy}(h:¬dT s=0):0=yi s:=(ag h).symm
theorem aap(s:Sy)(σ:Hp)(hf:Fit s):ACalls Tryz.prog 138 [.agg (cc s)] σ (aC (.int .i64 (yi s)) σ):=by
 refine ay Tryz.func138 ?_;intro aF;refine aa 0 ?_;refine ax [] (HL s _ hf) ?_;refine dX (fun c2=>?_) (fun c2=>?_)
 ·have c2:¬(dT s=0):=by simpa using c2
  exact .drop 0 1 (.done ⟨aT (afI (by assumption)),rfl⟩)
 ·have c2:dT s=0:=by simpa using c2
  refine .quiet (by kernel_rfl) ?_;refine aa 0 ?_;refine aa 0 ?_;refine aK [] (Ro s.aN _ (by have:=hf.yE;omega)) ?_;refine aa 0 ?_;refine aa 0 ?_;refine aK [] (MH _ _ _) ?_;exact .drop 0 1 (.done ⟨aT (afJ (by assumption)),rfl⟩)
theorem agz(s:Sy)(σ:Hp)(hf:Fit s):ACalls Tryz.prog 132 [.agg (cc s)] σ (aC (.int .i64 (yi s)) σ):=by
 refine ay Tryz.func132 ?_;intro aF;refine aa 0 ?_;refine ax [] (aap s _ hf) ?_;exact .drop 0 1 (.done ⟨rfl,rfl⟩)
def B8(l:List Int):Int:=l.foldl (fun a x=>IntKind.i64.wrap (a+x)) 0
theorem aiE(o:Nat)(x n:Int)(σ:Hp):ACalls Tryz.prog 187 [.int .i64 n,.ptr o 0] ((o,[.int .i64 x])::σ) (aC (.tup []) ((o,[.int .i64 (IntKind.i64.wrap (x+n))])::σ)):=by
 refine ay Tryz.func187 ?_;refine aa 0 ?_;refine aj 0 ?_;exact .done ⟨rfl,rfl⟩
theorem aaD{l:List Int}{k:Nat}(h:k<l.length):B8 (l.take (k+1))=IntKind.i64.wrap (B8 (l.take k)+l[k]):=by
 unfold B8;rw[ft h,sK];rfl
theorem adu{l:List Int}{k:Nat}(h:k<l.length):ei ⟨.int .i64,1,8,[.int .i64 0]⟩ (ai l) (0+((k:Int)).toNat*1)=some (.int .i64 l[k]):=by
 show (ai l)[_]?=_;unfold ai;rw[bG,dS,dI,fk,bB h];rfl
theorem ajP(b:Nat)(l:List Int)(σ:Hp)(hl:l.length≤1000):ACalls Tryz.prog 134 [.ae b 0 l.length 1] ((b,ai l)::σ) (aC (.int .i64 (B8 l)) ((b,ai l)::σ)):=by
 refine ay Tryz.func134 ?_;intro aF;refine aj 0 ?_;refine ca (S:=Nat) (fun k=>[(3,.ptr aF 0),(4,.fn (.func 187) [] [.ptr aF 0]),(8,.ae b 0 l.length 1),(9,.int .i64 l.length),(10,.int .i64 k)]) (fun k=>(aF,[.int .i64 (B8 (l.take k))])::(b,ai l)::σ) (fun k=>k≤l.length) (fun k=>l.length-k) 0 ⟨bC _,⟨rfl,rfl,rfl,rfl,rfl,trivial⟩,rfl⟩ ?_;rintro k g hk;have hk:k≤l.length:=hk;refine ao (fun ab=>?_) (fun au=>?_)
 ·have ab:k<l.length:=by have ab:(k:Int)<l.length:=ab;omega
  refine aJ.mk ⟨rfl,(show (0:Int)≤(k:Int) by omega),(show (k:Int)<(l.length:Int) by omega)⟩ ?_;refine fg.mk 1 _ (.int .i64 l[k]) rfl (adu ab) ?_;refine ax [] (aiE aF _ _ _) ?_;refine a8 (k+1) (by show l.length-(k+1)<l.length-k;omega) (show k+1≤l.length by omega) ⟨rfl,rfl,rfl,rfl,aX (by omega),trivial⟩ (aL ?_);rw[aaD ab]
 ·have au:k=l.length:=by have au:¬(k:Int)<l.length:=au;omega
  subst au;rw[ga];refine aa 0 ?_;exact .drop 0 1 (.done ⟨rfl,rfl⟩)
def wM(s:Sy):Int:=if eG s.what s.w<1 then 1 else eG s.what s.w
def w1(s:Sy):Int:=IntKind.i64.wrap (yi s*IntKind.i64.wrap (wM s+2))
def w2(s:Sy)(k:Int):Int:=IntKind.i64.wrap (6*IntKind.i64.wrap (IntKind.i64.wrap (2*yi s)+k))
def w3(s:Sy):Int:=IntKind.i64.wrap (IntKind.i64.wrap (IntKind.i64.wrap (1+dN s.what s.w)*((gl s.aN).length:Int))*wM s)
def w4(s:Sy)(k:Int):Int:=IntKind.i64.wrap (IntKind.i64.wrap (s.n*dN s.what s.w)*IntKind.i64.wrap (IntKind.i64.wrap (2*k)+5))
def zO(s:Sy)(k:Int):Int:=B8 [w1 s,w2 s k,w3 s,w4 s k]
def cM(s:Sy)(k:Int):Int:=if dT s=0 then (if 1≤k∧k≤64 then 0 else 1) else dT s
theorem XN{s:Sy}{k:Int}(h:¬dT s=0):dT s=cM s k:=(ag h).symm
theorem XM{s:Sy}{k:Int}(h:dT s=0)(hk:¬(1≤k∧k≤64)):1=cM s k:=by unfold cM;rw[af h,ag hk]
theorem XL{s:Sy}{k:Int}(h:dT s=0)(hk:1≤k∧k≤64):0=cM s k:=by unfold cM;rw[af h,af hk]
def lP(e n:Int):Int:=if e=0 then n else 0
theorem ah2{s:Sy}{k n:Int}(h:¬dT s=0):AV.tup [.int .i64 0,.int .i64 (dT s)]=.tup [.int .i64 (lP (cM s k) n),.int .i64 (cM s k)]:=by rw[← XN h,lP,ag h]
theorem Wp{s:Sy}{k n:Int}(h:dT s=0)(hk:¬(1≤k∧k≤64)):AV.tup [.int .i64 0,.int .i64 1]=.tup [.int .i64 (lP (cM s k) n),.int .i64 (cM s k)]:=by rw[← XM h hk];rfl
theorem ai5{s:Sy}{k n:Int}(h:dT s=0)(hk:1≤k∧k≤64):AV.tup [.int .i64 n,.int .i64 0]=.tup [.int .i64 (lP (cM s k) n),.int .i64 (cM s k)]:=by rw[← XL h hk];rfl
theorem ahV(s:Sy)(k:Int)(σ:Hp)(hf:Fit s):ACalls Tryz.prog 73 [.agg (cc s),.int .i64 k] σ (aC (.tup [.int .i64 (lP (cM s k) (zO s k)),.int .i64 (cM s k)]) σ):=by
 refine ay Tryz.func73 ?_;intro aF;refine aa 0 ?_;refine ax [] (HL s _ hf) ?_;refine dX (fun c2=>?_) (fun c2=>?_)
 ·have c2:¬(dT s=0):=by simpa using c2
  exact .drop 0 1 (.done ⟨ah2 (by assumption),rfl⟩)
 ·have c2:dT s=0:=by simpa using c2
  refine ao (fun c3=>?_) (fun c3=>?_)
  ·have c3:k<1:=c3;exact .drop 0 1 (.done ⟨Wp (by assumption) (by omega),rfl⟩)
  ·have c3:¬(k<1):=c3;refine ao (fun c4=>?_) (fun c4=>?_)
   ·have c4:64<k:=c4;exact .drop 0 1 (.done ⟨Wp (by assumption) (by omega),rfl⟩)
   ·have c4:¬(64<k):=c4;refine .quiet (by kernel_rfl) ?_;refine aa 0 ?_;refine aa 0 ?_;refine aK [] (MH _ _ _) ?_;refine aa 0 ?_;refine aa 0 ?_;refine aK [] (Ep _ _ _) ?_;refine aa 0 ?_;refine aK [] (agz s _ hf) ?_;refine aa 0 ?_;refine ax [] (Ro s.aN _ (by have:=hf.yE;omega)) ?_;refine aa 0 ?_;intro y9;refine ax [] (ajP y9 [w1 s,w2 s k,w3 s,w4 s k] _ (by decide:4≤1000)) ?_;exact .drop 0 2 (.done ⟨ai5 (by assumption) (by omega),rfl⟩)
def r9(s:Sy)(w k:Int):Int:=if cM s w=0 then (if 1≤k∧k≤4096 then IntKind.i64.wrap (k*IntKind.i64.wrap (zO s w+12)) else 0) else 0
def sa(s:Sy)(w k:Int):Int:=if cM s w=0 then (if 1≤k∧k≤4096 then 0 else 1) else cM s w
theorem agW{s:Sy}{w k:Int}(h:¬cM s w=0):AV.tup [.int .i64 0,.int .i64 (cM s w)]=.tup [.int .i64 (r9 s w k),.int .i64 (sa s w k)]:=by unfold r9 sa;rw[ag h,ag h]
theorem Wk{s:Sy}{w k:Int}(h:cM s w=0)(hk:¬(1≤k∧k≤4096)):AV.tup [.int .i64 0,.int .i64 1]=.tup [.int .i64 (r9 s w k),.int .i64 (sa s w k)]:=by unfold r9 sa;rw[af h,af h,ag hk,ag hk]
theorem ai4{s:Sy}{w k:Int}(h:cM s w=0)(hk:1≤k∧k≤4096):AV.tup [.int .i64 (IntKind.i64.wrap (k*IntKind.i64.wrap (lP (cM s w) (zO s w)+12))),.int .i64 0]=.tup [.int .i64 (r9 s w k),.int .i64 (sa s w k)]:=by unfold r9 sa lP;rw[af h,af h,af h,af hk,af hk]
theorem NK(s:Sy)(w k:Int)(σ:Hp)(hf:Fit s):ACalls Tryz.prog 30 [.agg (cc s),.int .i64 w,.int .i64 k] σ (aC (.tup [.int .i64 (r9 s w k),.int .i64 (sa s w k)]) σ):=by
 refine ay Tryz.func30 ?_;intro aF;refine aa 0 ?_;refine ax [] (ahV s w _ hf) ?_;refine dX (fun c2=>?_) (fun c2=>?_)
 ·have c2:¬(cM s w=0):=by simpa using c2
  exact .drop 0 1 (.done ⟨agW (by assumption),rfl⟩)
 ·have c2:cM s w=0:=by simpa using c2
  refine ao (fun c3=>?_) (fun c3=>?_)
  ·have c3:k<1:=c3;exact .drop 0 1 (.done ⟨Wk (by assumption) (by omega),rfl⟩)
  ·have c3:¬(k<1):=c3;refine ao (fun c4=>?_) (fun c4=>?_)
   ·have c4:4096<k:=c4;exact .drop 0 1 (.done ⟨Wk (by assumption) (by omega),rfl⟩)
   ·have c4:¬(4096<k):=c4;exact .drop 0 1 (.done ⟨ai4 (by assumption) (by omega),rfl⟩)
def Ce(s:Sy)(k:Int):List AV:=[.int .i64 (lP (cM s k) s.what),.int .i64 (lP (cM s k) (eG s.what s.w)),.int .i64 (lP (cM s k) s.n),.int .i64 (lP (cM s k) k)]
theorem adh{s:Sy}{k:Int}(h:¬dT s=0):AV.tup [.agg [.int .i64 0,.int .i64 0,.int .i64 0,.int .i64 0],.int .i64 (dT s)]=.tup [.agg (Ce s k),.int .i64 (cM s k)]:=by unfold Ce lP;rw[← XN h];simp only[ag h]
theorem Uk{s:Sy}{k:Int}(h:dT s=0)(hk:¬(1≤k∧k≤64)):AV.tup [.agg [.int .i64 0,.int .i64 0,.int .i64 0,.int .i64 0],.int .i64 1]=.tup [.agg (Ce s k),.int .i64 (cM s k)]:=by unfold Ce lP;rw[← XM h hk];rfl
theorem afn{s:Sy}{k:Int}(h:dT s=0)(hk:1≤k∧k≤64):AV.tup [.agg [.int .i64 s.what,.int .i64 (eG s.what s.w),.int .i64 s.n,.int .i64 k],.int .i64 0]=.tup [.agg (Ce s k),.int .i64 (cM s k)]:=by unfold Ce lP;rw[← XL h hk];rfl
end Go.Proofs.YtnikdflhefijbaaGreat
