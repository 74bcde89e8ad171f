import Derived.Test.YtnikdflhefijbaaGreatBs11
import Derived.Test.YtnikdflhefijbaaGreatBs8
namespace Go.Proofs.YtnikdflhefijbaaGreat
open Go.RowKit
set_option maxRecDepth 100000
section
variable {F:Nat→Prop} {w:World} {σ:Hp}
theorem Z9(h:bA F w σ)(os:Array Obj):bH F w F (Go.Sort.grow w os)∧bA F (Go.Sort.grow w os) σ:=by
 have dG:(Go.Sort.grow w os).heap.size=w.heap.size+os.size:=by simp[Go.Sort.grow]
 have ak:∀b,b<w.heap.size→(Go.Sort.grow w os).heap[b]?=w.heap[b]?:=fun b hb=>by
  show (w.heap++os)[b]?=_;rw[Ii hb]
 have aq:bH F w F (Go.Sort.grow w os):=⟨rfl,rfl,rfl,by omega,fun _ h=>h,fun b hb=>ak b (h.low b hb),fun b c T fz hc=>⟨c,fz,by
  rw[ak b (y6.1 hc).1];exact hc,rfl⟩,bg _⟩
 exact⟨aq,h.nodup,fun p hp=>(h.holds p hp).mono aq (ak _ (h.holds p hp).lt) (h.holds p hp).1,fun b hb=>by have:=h.low b hb;omega⟩
theorem lF(zs:List Int):(aj zs).length=zs.length:=by unfold aj;simp
theorem ac7(zs:List Int){i:Nat}{x:AV}(h:(aj zs)[i]?=some x):∃h2:i<zs.length,x=.int .i64 zs[i]:=by
 unfold aj at h;rw[fD]at h;cases hz:zs[i]? with
 |none=>rw[hz]at h;cases h
 |some z=>
  rw[hz]at h;obtain⟨h2,h3⟩:=cW.1 hz;exact⟨h2,by cases h;rw[h3]⟩
theorem ace(zs:List Int){i:Nat}(h:i<zs.length):(aj zs)[i]?=some (.int .i64 zs[i]):=by unfold aj;rw[fD,bu h];rfl
theorem Holds.JT{F:Nat→Prop}{w:World}{b:Nat}{cs:List AV}(h:Holds F w b cs)(hn:∀x∈cs,x.leaf=true):¬F b∧Cf F w b cs:=by
 obtain⟨hF,h | ⟨x,o,e,_,hx⟩ | ⟨L,t,e,_⟩⟩:=h
 ·exact⟨hF,h⟩
 ·subst e;have:=hn _ (cF ..);rw[ES hx]at this;cases this
 ·subst e;cases hn _ (cF ..)
theorem QZ(zs:List Int):∀x∈aj zs,x.leaf=true:=fun x hx=>by
 obtain⟨z,_,rfl⟩:=eW.1 hx;rfl
theorem Fs{b n:Nat}{zs zs':List Int}(h:bA F w ((b,aj zs)::σ))(hl:zs'.length=zs.length)(os:Array Obj):
  bH F w F (Go.Sort.grow (Go.Sort.putRow (Value.int .i64) (Go.Sort.ahead w n) b 0 zs'.toArray) os)∧bA F (Go.Sort.grow (Go.Sort.putRow (Value.int .i64) (Go.Sort.ahead w n) b 0 zs'.toArray) os) ((b,aj zs')::σ):=by
 obtain⟨hF,c,T,hc,hle,ph⟩:=(h.holds _ (cF ..)).JT (QZ zs);have hle:(aj zs).length≤c.size:=hle;rw[lF]at hle;have hc:w.heap[b]?=some (.cells c T (0,0)):=hc
 have CO:∀k,k<zs'.length→(Go.Sort.putCells (Value.int .i64) 0 zs'.toArray c).getD k undef=Value.int .i64 (zs'.getD k 0):=fun k hk=>by
  have yK:k<c.size:=by omega
  unfold Go.Sort.putCells;rw[gR,Array.getElem?_mapIdx,pA yK];simp only[HP,D4];rw[if_pos ⟨Nat.zero_le _,by simpa using hk⟩,Nat.sub_zero,List.getD_eq_getElem?_getD,List.getElem?_eq_getElem hk];simp[hk]
 have key:=zg (F:=F) (w:=w) (w':=Go.Sort.putRow (Value.int .i64) (Go.Sort.ahead w n) b 0 zs'.toArray) h (j:=0) (b:=b) (cs:=aj zs) (cs':=aj zs') rfl hc (c':=Go.Sort.putCells (Value.int .i64) 0 zs'.toArray c) (by simp[Go.Sort.putCells]) (by rw[lF];simp[Go.Sort.putCells];omega)
  (fun i x hx=>by
   obtain⟨h2,rfl⟩:=ac7 zs' hx;refine⟨rfl,?_⟩;rw[CO i h2,bK,bu h2]
   exact .int _ _)
  (fun k hk=>by
   show (w.heap.modify b _)[k]?=_
   rw[H3,aB (fun e=>hk e.symm)])
  (by
   show (w.heap.modify b _)[b]?=_
   rw[H3,az rfl,hc];rfl)
  rfl rfl rfl (by simp[Go.Sort.ahead])
 obtain⟨k1,k2⟩:=key;obtain⟨g1,g2⟩:=Z9 k2 os;exact⟨k1.trans g1,g2⟩
theorem JA{b:Nat}{zs:List Int}(h:bA F w ((b,aj zs)::σ)):Go.Sort.Holds (Value.int .i64) w b 0 zs.toArray∧b<w.heap.size:=by
 obtain⟨hF,c,T,hc,hle,ph⟩:=(h.holds _ (cF ..)).JT (QZ zs);have hc:w.heap[b]?=some (.cells c T (0,0)):=hc;have hle:(aj zs).length≤c.size:=hle;rw[lF]at hle;refine⟨fun j hj=>?_,(y6.1 hc).1⟩;have hj:j<zs.length:=by simpa using hj
 have hr:=(ph j _ (ace zs hj)).2.gq;rw[dD];constructor
 ·rw[FJ hc,pA (by omega)];rw[gR,pA (by omega)]at hr;simp only[D4]at hr;rw[hr];simp[hj]
 ·unfold World.frozen?;simp[hc]
end
theorem V6(l:List Int):(Go.Lib.compact l).length≤l.length:=by
 unfold Go.Lib.compact Go.Lib.compactUpTo;rw[cN];exact Nat.le_trans (List.length_filter_le _ _) (by simp)
def fA(zs:List Int):List Int:=zs.mergeSort fun x y=>decide (x≤y)
theorem zc(zs:List Int):(fA zs).length=zs.length:=M5 ..
theorem JZ:∀{l m:List Int},l.Pairwise (· < ·)→m.Pairwise (· < ·)→(∀x,x∈l↔x∈m)→l=m
 | [],[],_,_,_=>rfl
 | [],y::m,_,_,h=>absurd ((h y).2 (cF ..)) sC
 |x::l,[],_,_,h=>absurd ((h x).1 (cF ..)) sC
 |x::l,y::m,hl,hm,h=>by
  have h1:=xw.1 hl;have h2:=xw.1 hm
  have aZ:x=y:=by
   have a:=(h x).1 (cF ..);have b:=(h y).2 (cF ..)
   rcases dW.1 a with a | a
   ·exact a
   ·rcases dW.1 b with b | b
    ·exact b.symm
    ·have:=h1.1 y b;have:=h2.1 x a;omega
  subst aZ;refine congrArg (x :: ·) (JZ h1.2 h2.2 fun z=>⟨fun hz=>?_,fun hz=>?_⟩)
  ·rcases dW.1 ((h z).1 (dq _ hz)) with e | e
   ·subst e;have:=h1.1 z hz;omega
   ·exact e
  ·rcases dW.1 ((h z).2 (dq _ hz)) with e | e
   ·subst e;have:=h2.1 z hz;omega
   ·exact e
theorem NM(zs:List Int):(fA zs).Pairwise (·≤·):=by
 have:=List.pairwise_mergeSort (le:=fun x y:Int=>decide (x≤y)) (fun a b c h1 h2=>by simp at *;omega) (fun a b=>by simp;omega) zs;exact this.imp fun h=>by simpa using h
theorem Ph(zs:List Int)(x:Int):x∈fA zs↔x∈zs:=List.mem_mergeSort
theorem OD{l:List Int}(h:l.Pairwise (·≤·)){i j:Nat}(l4:i≤j)(hj:j<l.length):l[i]'(by omega)≤l[j]:=by
 by_cases e:i=j
 ·subst e;exact kU _
 ·exact M8.1 h i j (by omega) hj (by omega)
def yi(zs:List Int):List Int:=Go.Lib.compact (fA zs)
theorem V7{l:List Int}(h:l.Pairwise (·≤·)):(Go.Lib.compact l).Pairwise (· < ·):=by
 unfold Go.Lib.compact Go.Lib.compactUpTo;rw[AY]
 have hr:((List.range l.length).filter (Go.Lib.keeps l.toArray)).Pairwise fun i j=>i<j∧j<l.length∧Go.Lib.keeps l.toArray j=true:=by
  have h1:(List.range l.length).Pairwise fun i j=>i<j∧j<l.length:=by
   rw[M8];intro i j hi hj l4;simp only[MU];exact⟨l4,by simpa using hj⟩
  rw[List.pairwise_filter];exact h1.imp fun l4 _ hk=>⟨l4.1,l4.2,hk⟩
 refine hr.imp fun {i j} ⟨h1,h2,h3⟩=>?_
 have hk:l.toArray[j]!≠l.toArray[j-1]!:=by
  unfold Go.Lib.keeps at h3;simp only[decide_eq_true_eq]at h3
  rcases h3 with h3 | h3
  ·omega
  ·exact h3
 have e1:l.toArray[j]! = l[j]:=by simp[h2]
 have e2:l.toArray[j-1]! = l[j-1]'(by omega):=by simp[show j-1<l.length by omega]
 have e3:l.toArray[i]! = l[i]'(by omega):=by simp[show i<l.length by omega]
 rw[e1,e2]at hk;rw[e1,e3];have q1:=OD h (i:=i) (j:=j-1) (by omega) (by omega);have q2:=OD h (i:=j-1) (j:=j) (by omega) h2;omega
theorem Oi{l:List Int}(x:Int):x∈Go.Lib.compact l↔x∈l:=by
 unfold Go.Lib.compact Go.Lib.compactUpTo;constructor
 ·intro hx;obtain⟨j,hj,rfl⟩:=eW.1 hx;have hj:=gP.1 (jK.1 hj).1;have e1:l.toArray[j]! = l[j]:=by simp[hj]
  rw[e1];exact bU hj
 ·intro hx
  have hex:∃j,∃h:j<l.length,l[j]=x:=by
   obtain⟨j,hj,e⟩:=vK.1 hx;exact⟨j,hj,e⟩
  obtain⟨j,⟨hj,e⟩,jk⟩:∃j,(∃h:j<l.length,l[j]=x)∧∀k,k<j→¬∃h:k<l.length,l[k]=x:=by
   obtain⟨j,hj⟩:=hex
   induction j using Nat.strongRecOn with
   |ind j ih=>
    by_cases hk:∃k,k<j∧∃h:k<l.length,l[k]=x
    ·obtain⟨k,h1,h2⟩:=hk;exact ih k h1 h2
    ·exact⟨j,hj,fun k h1 h2=>hk ⟨k,h1,h2⟩⟩
  refine List.mem_map.2 ⟨j,List.mem_filter.2 ⟨List.mem_range.2 hj,?_⟩,by simp[hj,e]⟩;unfold Go.Lib.keeps;rw[decide_eq_true_eq]
  by_cases h0:j=0
  ·exact .inl h0
  ·refine .inr fun h=>jk (j-1) (by omega) ⟨by omega,?_⟩;have e1:l.toArray[j]! = l[j]:=by simp[hj]
   have e2:l.toArray[j-1]! = l[j-1]'(by omega):=by simp[show j-1<l.length by omega]
   rw[e1,e2]at h;rw[← h];exact e
theorem aan{zs:List Int}{n:Nat}(h:∀z∈zs,0≤z∧z<n):yi zs=((List.range n).map fun i:Nat=>(i:Int)).filter fun b=>decide (b∈zs):=by
 refine JZ (V7 (NM zs)) ?_ fun x=>?_
 ·refine List.Pairwise.filter _ ?_;rw[AY,M8];intro i j hi hj l4;simp only[MU];omega
 ·unfold yi;rw[Oi,Ph,jK,decide_eq_true_eq];refine⟨fun hx=>⟨?_,hx⟩,fun hx=>hx.2⟩;have:=h x hx;exact eW.2 ⟨x.toNat,gP.2 (by omega),by omega⟩
theorem Of:Enters Tryz.prog 312:=enters_of Tryz.func312 (by kernel_rfl)
theorem Og:Enters Tryz.prog 313:=enters_of Tryz.func313 (by kernel_rfl)
theorem Fw{vs:Array Value}(h:1=vs.size):∃v,vs = #[v]:=by
 refine⟨vs.getD 0 undef,Array.ext ?_ fun i h2 h3=>?_⟩
 ·simp[← h]
 ·have:i=0:=by omega
  subst this;simp[Array.getD,h2]
theorem JM{F:Nat→Prop}{w:World}:aD F w (.tup []) (.tuple #[]):=.tup [] #[] rfl fun i x h=>by simp at h
theorem aem(σ:Hp):ACalls Tryz.prog 312 [.ag] σ (ay (.tup []) σ):=by
 refine⟨Of,fun F w vs bY aG =>?_⟩;obtain⟨v,rfl⟩:=Fw bY.1;have hv:aD F w .ag v:=bY.2 0 _ rfl;cases hv;have h:Calls Tryz.prog 312 #[.slice none 0 0] w fun e w'=>e=.returned (.tuple #[])∧w'=w:=Any.slices_Sort_int_none JV none 0 w;refine h.mono ?_;rintro e w' ⟨rfl,rfl⟩;exact⟨.tup [],.tuple #[],σ,F,rfl,.refl _ _,aG,JM,rfl,rfl⟩
theorem Kv(b:Nat)(zs:List Int)(n:Nat)(σ:Hp)(hz:zs.length=n)(hl:n≤1000000):ACalls Tryz.prog 312 [.af b 0 n 1] ((b,aj zs)::σ) (ay (.tup []) ((b,aj (fA zs))::σ)):=by
 subst hz;refine⟨Of,fun F w vs bY aG =>?_⟩;obtain⟨v,rfl⟩:=Fw bY.1;have hv:aD F w (.af b 0 zs.length 1) v:=bY.2 0 _ rfl;obtain⟨a,cap,rfl,c,T,fz,m1,m2,m3,m4⟩:=hv.kK
 rcases m4 with ⟨rfl,_⟩ | ⟨_,_,h0,_⟩
 ·obtain⟨h1,h2⟩:=JA aG;have h:Calls Tryz.prog 312 #[.slice (some ⟨b,0,none⟩) zs.length cap] w fun e w'=>e=.returned (.tuple #[])∧∃n os,w'=Go.Sort.grow (Go.Sort.putRow (Value.int .i64) (Go.Sort.ahead w n) b 0 (fA zs).toArray) os:=Any.slices_Sort_int JV b 0 cap zs w h1 h2 (by omega);refine h.mono ?_;rintro e w' ⟨rfl,n,os,rfl⟩;obtain⟨k1,k2⟩:=Fs (n:=n) aG (zc zs) os;exact⟨.tup [],.tuple #[],_,F,rfl,k1,k2,JM,rfl,rfl⟩
 ·have hz:zs=[]:=fE.1 h0;subst hz;have h:Calls Tryz.prog 312 #[.slice (some a) 0 cap] w fun e w'=>e=.returned (.tuple #[])∧w'=w:=Any.slices_Sort_int_none JV (some a) cap w;have he:fA []=[]:=fE.1 (zc []);rw[he];refine h.mono ?_;rintro e w' ⟨rfl,rfl⟩;exact⟨.tup [],.tuple #[],_,F,rfl,.refl _ _,aG,JM,rfl,rfl⟩
theorem aeK(σ:Hp):ACalls Tryz.prog 313 [.ag] σ (ay .ag σ):=by
 refine⟨Og,fun F w vs bY aG =>?_⟩;obtain⟨v,rfl⟩:=Fw bY.1;have hv:aD F w .ag v:=bY.2 0 _ rfl;cases hv;have h:Calls Tryz.prog 313 #[.slice none 0 0] w fun e w'=>e=.returned (.slice none 0 0)∧w'=w:=Any.slices_Compact_int_empty JU none 0 w;refine h.mono ?_;rintro e w' ⟨rfl,rfl⟩;exact⟨.ag,_,σ,F,rfl,.refl _ _,aG,.ag,rfl,rfl⟩
theorem aeL(b:Nat)(zs:List Int)(n:Nat)(σ:Hp)(hz:zs.length=n)(hl:n≤1000000):ACalls Tryz.prog 313 [.af b 0 n 1] ((b,aj zs)::σ) (ay (.af b 0 (Go.Lib.compact zs).length 1) ((b,aj (Go.Lib.compact zs++List.replicate (n-(Go.Lib.compact zs).length) 0))::σ)):=by
 subst hz;have hle:=V6 zs;refine⟨Og,fun F w vs bY aG =>?_⟩;obtain⟨v,rfl⟩:=Fw bY.1;have hv:aD F w (.af b 0 zs.length 1) v:=bY.2 0 _ rfl;obtain⟨a,cap,rfl,c,T,fz,m1,m2,m3,m4⟩:=hv.kK
 rcases m4 with ⟨rfl,m5⟩ | ⟨m5,m6,h0,m7⟩
 ·obtain⟨h1,h2⟩:=JA aG;have h:Calls Tryz.prog 313 #[.slice (some ⟨b,0,none⟩) zs.length cap] w fun e w'=>e=.returned (.slice (some ⟨b,0,none⟩) (Go.Lib.compact zs).length cap)∧∃q,w'=Go.Sort.putRow (Value.int .i64) (Go.Sort.ahead w q) b 0 (Go.Lib.compact zs++List.replicate (zs.length-(Go.Lib.compact zs).length) 0).toArray:=Any.slices_Compact_int JU b 0 cap zs w h1 (by omega) m2;refine h.mono ?_;rintro e w' ⟨rfl,q,rfl⟩;obtain⟨k1,k2⟩:=Fs (n:=q) (zs':=Go.Lib.compact zs++List.replicate (zs.length-(Go.Lib.compact zs).length) 0) aG (by rw[bB,gh];omega) #[];have hg:∀W:World,Go.Sort.grow W #[]=W:=fun W=>by unfold Go.Sort.grow;rw[Array.append_empty]
  rw[hg]at k1 k2;obtain⟨c',rF,lz,cC⟩:=k1.rows b c T fz m1;exact⟨.af b 0 _ 1,_,_,F,rfl,k1,k2,.af _ _ _ _ _ _ ⟨c',T,rF,lz,by omega,m3,.inl ⟨rfl,by omega⟩⟩,rfl,rfl⟩
 ·have hz:zs=[]:=fE.1 h0;subst hz;have h:Calls Tryz.prog 313 #[.slice (some a) 0 cap] w fun e w'=>e=.returned (.slice (some a) 0 cap)∧w'=w:=Any.slices_Compact_int_empty JU (some a) cap w;refine h.mono ?_;rintro e w' ⟨rfl,rfl⟩;exact⟨.af b 0 0 1,_,_,F,rfl,.refl _ _,aG,hv,rfl,rfl⟩
theorem YD:yi []=[]:=Ia.2 fun x h=>by
 unfold yi at h;rw[Oi,Ph]at h;cases h
def ie(n:Int)(l:List aO)(a:Int):List Int:=(l.filter fun e=>decide (e.1=a)&&cH n a&&cH n e.2.1).map fun e=>e.2.1
def au(n:Int)(l:List aO)(a:Int):List Int:=((List.range n.toNat).map fun i:Nat=>(i:Int)).filter fun b=>decide (b∈ie n l a)
theorem Yb(n:Int)(l:List aO)(a:Int):(ie n l a).length≤l.length:=by unfold ie;rw[cN];exact Ee _ _
theorem PG{n:Int}{l:List aO}{a z:Int}(h:z∈ie n l a):0≤z∧z<n:=by
 unfold ie at h;obtain⟨e,he,rfl⟩:=eW.1 h;have h4:=(jK.1 he).2;simp only[bS,decide_eq_true_eq,kA]at h4;exact h4.2
theorem WR(n:Int)(l:List aO)(a:Int){k:Nat}(h:k<l.length):ie n (l.take (k+1)) a=ie n (l.take k) a++(if (decide (l[k].1=a)&&cH n a&&cH n l[k].2.1)=true then [l[k].2.1] else []):=by
 unfold ie;rw[eM h,tP,cE]
 congr 1
 by_cases hc:(decide (l[k].1=a)&&cH n a&&cH n l[k].2.1)=true
 ·rw[az hc];have e:=Ea (p:=fun e:aO=>decide (e.1=a)&&cH n a&&cH n e.2.1) (a:=l[k]) (l:=[]) hc;rw[e];rfl
 ·rw[aB hc];have e:=Eb (p:=fun e:aO=>decide (e.1=a)&&cH n a&&cH n e.2.1) (a:=l[k]) (l:=[]) hc;rw[e];rfl
theorem Zn(n:Int)(l:List aO)(a:Int):yi (ie n l a)=au n l a:=by
 unfold au;exact aan fun z hz=>by have:=PG hz;omega
theorem Ab(n:Int)(l:List aO)(a:Int)(σ:Hp)(hl:l.length≤100000):ACalls Tryz.prog 289 [.int .i64 n,.ae cg l,.int .i64 a] σ (ay (.ae (.int .i64) (au n l a)) σ):=by
 refine ao Tryz.func289 ?_;refine .wrap 7 _ rfl rfl ?_;refine bc (S:=Nat×AV×Hp) (fun s=>[(0,.int .i64 n),(2,.int .i64 a),(7,.via s.2.1),(10,.ae cg l),(11,.int .i64 l.length),(12,.int .i64 s.1)]) (fun s=>s.2.2++σ) (fun s=>s.1≤l.length∧Acc 1 (ie n (l.take s.1) a).length s.2.1 s.2.2 (aj (ie n (l.take s.1) a))) (fun s=>l.length-s.1) (0,.ag,[]) ⟨⟨aV _,.nil⟩,⟨rfl,rfl,rfl,rfl,rfl,rfl,trivial⟩,rfl⟩ ?_;rintro⟨k,v,acc⟩ g ⟨aK,fX⟩;have hk:k≤l.length:=aK;have bF:Acc 1 (ie n (l.take k) a).length v acc (aj (ie n (l.take k) a)):=fX;clear aK fX;have n9:(ie n (l.take k) a).length≤k:=by have:=Yb n (l.take k) a;rw[oh]at this;omega
 refine ai (fun ab=>?_) (fun ak=>?_)
 ·have ab:k<l.length:=by have ab:(k:Int)<l.length:=ab;omega
  have hs:=WR n l a ab;obtain⟨d,hd⟩:∃d:aO,l[k]=d:=⟨_,rfl⟩
  rw[hd]at hs;refine aF.mk rfl (aY.mk d (by omega) ((get_some ab).trans (congrArg some hd)) ?_);intro ax;refine ah 0 ?_;refine aa 0 ?_;refine ai (p:=d.1=a) (fun c1=>?_) (fun c1=>?_)
  ·refine dc [] (GF n a _) (fun c2=>?_) (fun c2=>?_)
   ·refine aa 0 ?_;refine dc [] (GF n d.2.1 _) (fun c3=>?_) (fun c3=>?_)
    ·rw[aX c1,c2,c3,az (show (true&&true&&true)=true from rfl)]at hs;refine aa 0 ?_;intro bX;refine eS [_,_] bF (.af 0 bX 0 1 _ rfl (cj rfl)) rfl (by omega) (by decide) (by decide) (fun v' aJ h'=>?_);refine aM (k+1,v',aJ) (by show l.length-(k+1)<l.length-k;omega) ⟨ab,?_⟩ ⟨rfl,rfl,rfl,rfl,rfl,aI (by omega),trivial⟩ (.drop 0 2 (aL rfl));show Acc 1 (ie n (l.take (k+1)) a).length v' aJ (aj (ie n (l.take (k+1)) a));rw[hs,bB,aj,cE];exact h'
    ·rw[c3,DV,aB (by decide),fC]at hs;refine aM (k+1,v,acc) (by show l.length-(k+1)<l.length-k;omega) ⟨ab,by show Acc 1 (ie n (l.take (k+1)) a).length v acc (aj (ie n (l.take (k+1)) a));rw[hs];exact bF⟩ ⟨rfl,rfl,rfl,rfl,rfl,aI (by omega),trivial⟩ (.drop 0 1 (aL rfl))
   ·rw[c2,DV,DW,aB (by decide),fC]at hs;refine aM (k+1,v,acc) (by show l.length-(k+1)<l.length-k;omega) ⟨ab,by show Acc 1 (ie n (l.take (k+1)) a).length v acc (aj (ie n (l.take (k+1)) a));rw[hs];exact bF⟩ ⟨rfl,rfl,rfl,rfl,rfl,aI (by omega),trivial⟩ (.drop 0 1 (aL rfl))
  ·rw[cp c1,DW,DW,aB (by decide),fC]at hs;refine aM (k+1,v,acc) (by show l.length-(k+1)<l.length-k;omega) ⟨ab,by show Acc 1 (ie n (l.take (k+1)) a).length v acc (aj (ie n (l.take (k+1)) a));rw[hs];exact bF⟩ ⟨rfl,rfl,rfl,rfl,rfl,aI (by omega),trivial⟩ (.drop 0 1 (aL rfl))
 ·have ak:k=l.length:=by have ak:¬(k:Int)<l.length:=ak;omega
  subst ak;rw[er]at bF n9;have KR:=Zn n l a;generalize ie n l a=zs at bF n9 KR;generalize hC:aj zs=C at bF;generalize hm:zs.length=m at bF;cases bF with
  |nil=>
   have hz:zs=[]:=fE.1 hm;subst hz;refine aw [] (aem _) ?_;refine aw [] (aeK _) ?_;exact .nil (.nil (.int .i64)) (.done ⟨by rw[← KR,YD];rfl,rfl⟩)
  |af b m cs h=>
   subst hC;refine aw [] (Kv b zs m σ hm (by omega)) ?_;refine aw [] (aeL b (fA zs) m σ ((zc zs).trans hm) (by omega)) ?_;refine .cb 0 b 0 _ 1 _ (.int .i64) (yi zs) rfl ?_ ⟨rfl,rfl,by decide⟩ .here (.done ⟨by rw[KR],rfl⟩);rw[fy,← ia];unfold yi aj;rw[cE,dH,H8 (by rw[cN];exact bg _)];exact dZ (by rw[cN];exact bg _)
structure rI(what w:Int)(a:List Int):Prop where
 v:dm what w a=true
 jF:bC a
structure q7(s:Sy)(a:List (List Int)):Prop where
 len:(a.length:Int)=s.n
 val:∀x∈a,rI s.what s.w x
theorem abj{s:Sy}{a:List (List Int)}(h:oI s a=true)(ha:lT a):q7 s a:=
 ⟨(zl.1 h).1,fun x hx=>⟨(zl.1 h).2 x hx,(ha.2 x hx).1⟩⟩
theorem q7.dh{s:Sy}{a:List (List Int)}(h:q7 s a):oI s a=true:=zl.2 ⟨h.len,fun x hx=>(h.val x hx).v⟩
theorem q7.ok{s:Sy}{a:List (List Int)}(hg:Good s)(h:q7 s a):lT a:=by
 have h1:=h.len;have h2:=hg.n2;exact⟨by omega,fun x hx=>⟨(h.val x hx).jF,by have:=EN (h.val x hx).v;omega⟩⟩
theorem XK{s:Sy}(hf:Fit s)(hg:Good s)(v:Int):rI s.what s.w (eN s v):=⟨(EP hf hg v).1,(EP hf hg v).2⟩
theorem Pf{s:Sy}(hf:Fit s)(hg:Good s){a:List (List Int)}(h:q7 s a):q7 s (ke s a):=abj (OB hf hg (h.ok hg) h.dh).1 (OB hf hg (h.ok hg) h.dh).2
theorem acp{s:Sy}(hg:Good s){a:List (List Int)}(h:q7 s a):uO s a=0:=by unfold uO;rw[az (I9 hg),az h.dh]
def Ug(p:Prop)(σ:Hp):AV→Hp→Prop:=fun r σ'=>∃b:Bool,r=.bool b∧σ'=σ∧(b=true→p)
theorem afl{P:Program}{f:FuncId}{xs:List AV}{σ:Hp}{K:AV→Hp→Prop}(js:List Nat){p:Prop}{σ2:Hp}(h:ACalls P f xs (nG js σ) (Ug p σ2))(k1:p→K (.bool true) σ2)(k2:K (.bool false) σ2):CallAt P f K xs σ:=
 .mk js _ h fun r σ' ⟨b,h1,h2,h3⟩=>by subst h1 h2;cases b;exact k2;exact k1 (h3 rfl)
structure Tx(s:Sy):Prop where
 tl:s.T.length≤8
 el:s.cd.length≤16
 nl:s.entry.length≤10
 il:s.init.length≤20
 ts:∀t∈s.T,t.1.length≤4∧t.2.1.length≤4∧t.2.2.1.length≤6
 sz:(s.n≤7∧s.w≤10)∨256<s.n∨1024<s.w
theorem aaH(s:Sy)(σ:Hp):ACalls Tryz.prog 28 [.agg (aP s)] σ (Ug (Tx s) σ):=by
 refine ao Tryz.func28 ?_;intro ax;refine aa 0 ?_;refine ai (fun c2=>?_) (fun c2=>?_)
 ·have c2:7<s.n:=c2;refine aa 0 ?_;refine ai (fun c3=>?_) (fun c3=>?_)
  ·have c3:s.n≤256:=c3;refine aa 0 ?_;refine ai (fun c4=>?_) (fun c4=>?_)
   ·exact .drop 0 1 (.done ⟨false,rfl,rfl,fun h=>by cases h⟩)
   ·have c4:¬(s.w≤1024):=c4;refine aa 0 ?_;refine ai (fun c5=>?_) (fun c5=>?_)
    ·exact .drop 0 1 (.done ⟨false,rfl,rfl,fun h=>by cases h⟩)
    ·have c5:¬(8<(↑s.T.length:Int)):=c5;refine aa 0 ?_;refine ai (fun c6=>?_) (fun c6=>?_)
     ·exact .drop 0 1 (.done ⟨false,rfl,rfl,fun h=>by cases h⟩)
     ·have c6:¬(16<(↑s.cd.length:Int)):=c6;refine aa 0 ?_;refine ai (fun c7=>?_) (fun c7=>?_)
      ·exact .drop 0 1 (.done ⟨false,rfl,rfl,fun h=>by cases h⟩)
      ·have c7:¬(10<(↑s.entry.length:Int)):=c7;refine aa 0 ?_;refine ai (fun c8=>?_) (fun c8=>?_)
       ·exact .drop 0 1 (.done ⟨false,rfl,rfl,fun h=>by cases h⟩)
       ·have c8:¬(20<(↑s.init.length:Int)):=c8;refine aa 0 ?_;refine bc (S:=Nat) (fun k=>[(48,.ae j9 s.T),(49,.int .i64 s.T.length),(50,.int .i64 k)]) (fun _=>(ax,aP s)::σ) (fun k=>k≤s.T.length∧∀t∈s.T.take k,t.1.length≤4∧t.2.1.length≤4∧t.2.2.1.length≤6) (fun k=>s.T.length-k) 0 ⟨⟨aV _,fun t h=>by cases h⟩,⟨rfl,rfl,rfl,trivial⟩,rfl⟩ ?_;rintro k g ⟨aK,gO⟩;have hk:k≤s.T.length:=aK;have ht:∀t∈s.T.take k,t.1.length≤4∧t.2.1.length≤4∧t.2.2.1.length≤6:=gO;clear aK gO;refine ai (fun ab=>?_) (fun ak=>?_)
        ·have ab:k<s.T.length:=by have ab:(k:Int)<s.T.length:=ab;omega
         have fT:s.T.take (k+1)=s.T.take k++[s.T[k]]:=eM ab;obtain⟨t,eH⟩:∃t:lC,s.T[k]=t:=⟨_,rfl⟩
         rw[eH]at fT;refine aF.mk rfl (aY.mk t (by omega) ((get_some ab).trans (congrArg some eH)) ?_);intro bX;refine ah 0 ?_;refine aa 0 ?_;refine ai (p:=4<(t.1.length:Int)) (fun d1=>?_) (fun d1=>?_)
         ·exact .drop 0 2 (.done ⟨false,rfl,rfl,fun h=>by cases h⟩)
         ·refine aa 0 ?_;refine ai (p:=4<(t.2.1.length:Int)) (fun d2=>?_) (fun d2=>?_)
          ·exact .drop 0 2 (.done ⟨false,rfl,rfl,fun h=>by cases h⟩)
          ·refine aa 0 ?_;refine ai (p:=6<(t.2.2.1.length:Int)) (fun d3=>?_) (fun d3=>?_)
           ·exact .drop 0 2 (.done ⟨false,rfl,rfl,fun h=>by cases h⟩)
           ·refine aM (k+1) (by show s.T.length-(k+1)<s.T.length-k;omega) ⟨ab,fun u hu=>?_⟩ ⟨rfl,rfl,aI (by omega),trivial⟩ (.drop 0 1 (.refl _));rw[fT]at hu
            rcases bQ.1 hu with hu | hu
            ·exact ht u hu
            ·rw[bj.1 hu];omega
        ·have ak:k=s.T.length:=by have ak:¬(k:Int)<s.T.length:=ak;omega
         subst ak;rw[er]at ht;exact .drop 0 1 (.done ⟨true,rfl,rfl,fun _=>⟨by omega,by omega,by omega,by omega,ht,by omega⟩⟩)
  ·have c3:¬(s.n≤256):=c3;refine aa 0 ?_;refine ai (fun c9=>?_) (fun c9=>?_)
   ·exact .drop 0 1 (.done ⟨false,rfl,rfl,fun h=>by cases h⟩)
   ·have c9:¬(8<(↑s.T.length:Int)):=c9;refine aa 0 ?_;refine ai (fun jL=>?_) (fun jL=>?_)
    ·exact .drop 0 1 (.done ⟨false,rfl,rfl,fun h=>by cases h⟩)
    ·have jL:¬(16<(↑s.cd.length:Int)):=jL;refine aa 0 ?_;refine ai (fun NA=>?_) (fun NA=>?_)
     ·exact .drop 0 1 (.done ⟨false,rfl,rfl,fun h=>by cases h⟩)
     ·have NA:¬(10<(↑s.entry.length:Int)):=NA;refine aa 0 ?_;refine ai (fun vN=>?_) (fun vN=>?_)
      ·exact .drop 0 1 (.done ⟨false,rfl,rfl,fun h=>by cases h⟩)
      ·have vN:¬(20<(↑s.init.length:Int)):=vN;refine aa 0 ?_;refine bc (S:=Nat) (fun k=>[(48,.ae j9 s.T),(49,.int .i64 s.T.length),(50,.int .i64 k)]) (fun _=>(ax,aP s)::σ) (fun k=>k≤s.T.length∧∀t∈s.T.take k,t.1.length≤4∧t.2.1.length≤4∧t.2.2.1.length≤6) (fun k=>s.T.length-k) 0 ⟨⟨aV _,fun t h=>by cases h⟩,⟨rfl,rfl,rfl,trivial⟩,rfl⟩ ?_;rintro k g ⟨aK,gO⟩;have hk:k≤s.T.length:=aK;have ht:∀t∈s.T.take k,t.1.length≤4∧t.2.1.length≤4∧t.2.2.1.length≤6:=gO;clear aK gO;refine ai (fun ab=>?_) (fun ak=>?_)
       ·have ab:k<s.T.length:=by have ab:(k:Int)<s.T.length:=ab;omega
        have fT:s.T.take (k+1)=s.T.take k++[s.T[k]]:=eM ab;obtain⟨t,eH⟩:∃t:lC,s.T[k]=t:=⟨_,rfl⟩
        rw[eH]at fT;refine aF.mk rfl (aY.mk t (by omega) ((get_some ab).trans (congrArg some eH)) ?_);intro bX;refine ah 0 ?_;refine aa 0 ?_;refine ai (p:=4<(t.1.length:Int)) (fun d1=>?_) (fun d1=>?_)
        ·exact .drop 0 2 (.done ⟨false,rfl,rfl,fun h=>by cases h⟩)
        ·refine aa 0 ?_;refine ai (p:=4<(t.2.1.length:Int)) (fun d2=>?_) (fun d2=>?_)
         ·exact .drop 0 2 (.done ⟨false,rfl,rfl,fun h=>by cases h⟩)
         ·refine aa 0 ?_;refine ai (p:=6<(t.2.2.1.length:Int)) (fun d3=>?_) (fun d3=>?_)
          ·exact .drop 0 2 (.done ⟨false,rfl,rfl,fun h=>by cases h⟩)
          ·refine aM (k+1) (by show s.T.length-(k+1)<s.T.length-k;omega) ⟨ab,fun u hu=>?_⟩ ⟨rfl,rfl,aI (by omega),trivial⟩ (.drop 0 1 (.refl _));rw[fT]at hu
           rcases bQ.1 hu with hu | hu
           ·exact ht u hu
           ·rw[bj.1 hu];omega
       ·have ak:k=s.T.length:=by have ak:¬(k:Int)<s.T.length:=ak;omega
        subst ak;rw[er]at ht;exact .drop 0 1 (.done ⟨true,rfl,rfl,fun _=>⟨by omega,by omega,by omega,by omega,ht,by omega⟩⟩)
 ·have c2:¬(7<s.n):=c2;refine aa 0 ?_;refine ai (fun Ej=>?_) (fun Ej=>?_)
  ·have Ej:10<s.w:=Ej;refine aa 0 ?_;refine ai (fun sH=>?_) (fun sH=>?_)
   ·have sH:s.n≤256:=sH;refine aa 0 ?_;refine ai (fun Nz=>?_) (fun Nz=>?_)
    ·exact .drop 0 1 (.done ⟨false,rfl,rfl,fun h=>by cases h⟩)
    ·have Nz:¬(s.w≤1024):=Nz;refine aa 0 ?_;refine ai (fun vM=>?_) (fun vM=>?_)
     ·exact .drop 0 1 (.done ⟨false,rfl,rfl,fun h=>by cases h⟩)
     ·have vM:¬(8<(↑s.T.length:Int)):=vM;refine aa 0 ?_;refine ai (fun Ny=>?_) (fun Ny=>?_)
      ·exact .drop 0 1 (.done ⟨false,rfl,rfl,fun h=>by cases h⟩)
      ·have Ny:¬(16<(↑s.cd.length:Int)):=Ny;refine aa 0 ?_;refine ai (fun Nx=>?_) (fun Nx=>?_)
       ·exact .drop 0 1 (.done ⟨false,rfl,rfl,fun h=>by cases h⟩)
       ·have Nx:¬(10<(↑s.entry.length:Int)):=Nx;refine aa 0 ?_;refine ai (fun Nv=>?_) (fun Nv=>?_)
        ·exact .drop 0 1 (.done ⟨false,rfl,rfl,fun h=>by cases h⟩)
        ·have Nv:¬(20<(↑s.init.length:Int)):=Nv;refine aa 0 ?_;refine bc (S:=Nat) (fun k=>[(48,.ae j9 s.T),(49,.int .i64 s.T.length),(50,.int .i64 k)]) (fun _=>(ax,aP s)::σ) (fun k=>k≤s.T.length∧∀t∈s.T.take k,t.1.length≤4∧t.2.1.length≤4∧t.2.2.1.length≤6) (fun k=>s.T.length-k) 0 ⟨⟨aV _,fun t h=>by cases h⟩,⟨rfl,rfl,rfl,trivial⟩,rfl⟩ ?_;rintro k g ⟨aK,gO⟩;have hk:k≤s.T.length:=aK;have ht:∀t∈s.T.take k,t.1.length≤4∧t.2.1.length≤4∧t.2.2.1.length≤6:=gO;clear aK gO;refine ai (fun ab=>?_) (fun ak=>?_)
         ·have ab:k<s.T.length:=by have ab:(k:Int)<s.T.length:=ab;omega
          have fT:s.T.take (k+1)=s.T.take k++[s.T[k]]:=eM ab;obtain⟨t,eH⟩:∃t:lC,s.T[k]=t:=⟨_,rfl⟩
          rw[eH]at fT;refine aF.mk rfl (aY.mk t (by omega) ((get_some ab).trans (congrArg some eH)) ?_);intro bX;refine ah 0 ?_;refine aa 0 ?_;refine ai (p:=4<(t.1.length:Int)) (fun d1=>?_) (fun d1=>?_)
          ·exact .drop 0 2 (.done ⟨false,rfl,rfl,fun h=>by cases h⟩)
          ·refine aa 0 ?_;refine ai (p:=4<(t.2.1.length:Int)) (fun d2=>?_) (fun d2=>?_)
           ·exact .drop 0 2 (.done ⟨false,rfl,rfl,fun h=>by cases h⟩)
           ·refine aa 0 ?_;refine ai (p:=6<(t.2.2.1.length:Int)) (fun d3=>?_) (fun d3=>?_)
            ·exact .drop 0 2 (.done ⟨false,rfl,rfl,fun h=>by cases h⟩)
            ·refine aM (k+1) (by show s.T.length-(k+1)<s.T.length-k;omega) ⟨ab,fun u hu=>?_⟩ ⟨rfl,rfl,aI (by omega),trivial⟩ (.drop 0 1 (.refl _));rw[fT]at hu
             rcases bQ.1 hu with hu | hu
             ·exact ht u hu
             ·rw[bj.1 hu];omega
         ·have ak:k=s.T.length:=by have ak:¬(k:Int)<s.T.length:=ak;omega
          subst ak;rw[er]at ht;exact .drop 0 1 (.done ⟨true,rfl,rfl,fun _=>⟨by omega,by omega,by omega,by omega,ht,by omega⟩⟩)
   ·have sH:¬(s.n≤256):=sH;refine aa 0 ?_;refine ai (fun Nu=>?_) (fun Nu=>?_)
    ·exact .drop 0 1 (.done ⟨false,rfl,rfl,fun h=>by cases h⟩)
    ·have Nu:¬(8<(↑s.T.length:Int)):=Nu;refine aa 0 ?_;refine ai (fun Nt=>?_) (fun Nt=>?_)
     ·exact .drop 0 1 (.done ⟨false,rfl,rfl,fun h=>by cases h⟩)
     ·have Nt:¬(16<(↑s.cd.length:Int)):=Nt;refine aa 0 ?_;refine ai (fun Ns=>?_) (fun Ns=>?_)
      ·exact .drop 0 1 (.done ⟨false,rfl,rfl,fun h=>by cases h⟩)
      ·have Ns:¬(10<(↑s.entry.length:Int)):=Ns;refine aa 0 ?_;refine ai (fun Nr=>?_) (fun Nr=>?_)
       ·exact .drop 0 1 (.done ⟨false,rfl,rfl,fun h=>by cases h⟩)
       ·have Nr:¬(20<(↑s.init.length:Int)):=Nr;refine aa 0 ?_;refine bc (S:=Nat) (fun k=>[(48,.ae j9 s.T),(49,.int .i64 s.T.length),(50,.int .i64 k)]) (fun _=>(ax,aP s)::σ) (fun k=>k≤s.T.length∧∀t∈s.T.take k,t.1.length≤4∧t.2.1.length≤4∧t.2.2.1.length≤6) (fun k=>s.T.length-k) 0 ⟨⟨aV _,fun t h=>by cases h⟩,⟨rfl,rfl,rfl,trivial⟩,rfl⟩ ?_;rintro k g ⟨aK,gO⟩;have hk:k≤s.T.length:=aK;have ht:∀t∈s.T.take k,t.1.length≤4∧t.2.1.length≤4∧t.2.2.1.length≤6:=gO;clear aK gO;refine ai (fun ab=>?_) (fun ak=>?_)
        ·have ab:k<s.T.length:=by have ab:(k:Int)<s.T.length:=ab;omega
         have fT:s.T.take (k+1)=s.T.take k++[s.T[k]]:=eM ab;obtain⟨t,eH⟩:∃t:lC,s.T[k]=t:=⟨_,rfl⟩
         rw[eH]at fT;refine aF.mk rfl (aY.mk t (by omega) ((get_some ab).trans (congrArg some eH)) ?_);intro bX;refine ah 0 ?_;refine aa 0 ?_;refine ai (p:=4<(t.1.length:Int)) (fun d1=>?_) (fun d1=>?_)
         ·exact .drop 0 2 (.done ⟨false,rfl,rfl,fun h=>by cases h⟩)
         ·refine aa 0 ?_;refine ai (p:=4<(t.2.1.length:Int)) (fun d2=>?_) (fun d2=>?_)
          ·exact .drop 0 2 (.done ⟨false,rfl,rfl,fun h=>by cases h⟩)
          ·refine aa 0 ?_;refine ai (p:=6<(t.2.2.1.length:Int)) (fun d3=>?_) (fun d3=>?_)
           ·exact .drop 0 2 (.done ⟨false,rfl,rfl,fun h=>by cases h⟩)
           ·refine aM (k+1) (by show s.T.length-(k+1)<s.T.length-k;omega) ⟨ab,fun u hu=>?_⟩ ⟨rfl,rfl,aI (by omega),trivial⟩ (.drop 0 1 (.refl _));rw[fT]at hu
            rcases bQ.1 hu with hu | hu
            ·exact ht u hu
            ·rw[bj.1 hu];omega
        ·have ak:k=s.T.length:=by have ak:¬(k:Int)<s.T.length:=ak;omega
         subst ak;rw[er]at ht;exact .drop 0 1 (.done ⟨true,rfl,rfl,fun _=>⟨by omega,by omega,by omega,by omega,ht,by omega⟩⟩)
  ·have Ej:¬(10<s.w):=Ej;refine aa 0 ?_;refine ai (fun Nq=>?_) (fun Nq=>?_)
   ·exact .drop 0 1 (.done ⟨false,rfl,rfl,fun h=>by cases h⟩)
   ·have Nq:¬(8<(↑s.T.length:Int)):=Nq;refine aa 0 ?_;refine ai (fun Np=>?_) (fun Np=>?_)
    ·exact .drop 0 1 (.done ⟨false,rfl,rfl,fun h=>by cases h⟩)
    ·have Np:¬(16<(↑s.cd.length:Int)):=Np;refine aa 0 ?_;refine ai (fun No=>?_) (fun No=>?_)
     ·exact .drop 0 1 (.done ⟨false,rfl,rfl,fun h=>by cases h⟩)
     ·have No:¬(10<(↑s.entry.length:Int)):=No;refine aa 0 ?_;refine ai (fun Nn=>?_) (fun Nn=>?_)
      ·exact .drop 0 1 (.done ⟨false,rfl,rfl,fun h=>by cases h⟩)
      ·have Nn:¬(20<(↑s.init.length:Int)):=Nn;refine aa 0 ?_;refine bc (S:=Nat) (fun k=>[(48,.ae j9 s.T),(49,.int .i64 s.T.length),(50,.int .i64 k)]) (fun _=>(ax,aP s)::σ) (fun k=>k≤s.T.length∧∀t∈s.T.take k,t.1.length≤4∧t.2.1.length≤4∧t.2.2.1.length≤6) (fun k=>s.T.length-k) 0 ⟨⟨aV _,fun t h=>by cases h⟩,⟨rfl,rfl,rfl,trivial⟩,rfl⟩ ?_;rintro k g ⟨aK,gO⟩;have hk:k≤s.T.length:=aK;have ht:∀t∈s.T.take k,t.1.length≤4∧t.2.1.length≤4∧t.2.2.1.length≤6:=gO;clear aK gO;refine ai (fun ab=>?_) (fun ak=>?_)
       ·have ab:k<s.T.length:=by have ab:(k:Int)<s.T.length:=ab;omega
        have fT:s.T.take (k+1)=s.T.take k++[s.T[k]]:=eM ab;obtain⟨t,eH⟩:∃t:lC,s.T[k]=t:=⟨_,rfl⟩
        rw[eH]at fT;refine aF.mk rfl (aY.mk t (by omega) ((get_some ab).trans (congrArg some eH)) ?_);intro bX;refine ah 0 ?_;refine aa 0 ?_;refine ai (p:=4<(t.1.length:Int)) (fun d1=>?_) (fun d1=>?_)
        ·exact .drop 0 2 (.done ⟨false,rfl,rfl,fun h=>by cases h⟩)
        ·refine aa 0 ?_;refine ai (p:=4<(t.2.1.length:Int)) (fun d2=>?_) (fun d2=>?_)
         ·exact .drop 0 2 (.done ⟨false,rfl,rfl,fun h=>by cases h⟩)
         ·refine aa 0 ?_;refine ai (p:=6<(t.2.2.1.length:Int)) (fun d3=>?_) (fun d3=>?_)
          ·exact .drop 0 2 (.done ⟨false,rfl,rfl,fun h=>by cases h⟩)
          ·refine aM (k+1) (by show s.T.length-(k+1)<s.T.length-k;omega) ⟨ab,fun u hu=>?_⟩ ⟨rfl,rfl,aI (by omega),trivial⟩ (.drop 0 1 (.refl _));rw[fT]at hu
           rcases bQ.1 hu with hu | hu
           ·exact ht u hu
           ·rw[bj.1 hu];omega
       ·have ak:k=s.T.length:=by have ak:¬(k:Int)<s.T.length:=ak;omega
        subst ak;rw[er]at ht;exact .drop 0 1 (.done ⟨true,rfl,rfl,fun _=>⟨by omega,by omega,by omega,by omega,ht,by omega⟩⟩)
theorem ae3{s:Sy}(h:Tx s)(hi:bC s.init)(ht:∀t∈s.T,bC t.1∧bC t.2.1):Fit s:=by
 obtain⟨h1,h2,h3,h4,h5,_⟩:=h;exact⟨hi,by omega,by omega,by omega,by omega,fun t hm=>⟨(ht t hm).1,(ht t hm).2,by have:=h5 t hm;omega,by have:=h5 t hm;omega,by have:=h5 t hm;omega⟩⟩
theorem FK{f:FuncId}{xs:List AV}{σ:Hp}{K:AV→Hp→Prop}(i k b':Nat)(cs':List AV)(e:Sh)(hi:σ[i]?=some (b',cs'))(hk:cs'[k]?=some .ag)(h:CallAt Tryz.prog f K xs (σ.set i (b',cs'.set k (.ae e [])))):CallAt Tryz.prog f K xs σ:=
 .mk [] K ⟨(tY h).1,fun F w vs bY aG=>(tY h).2 F w vs bY (R3 aG e hi hk)⟩ fun _ _ h=>h
theorem zB{b off len es:Nat}{e:Sh}{l:List e.T}{xs ys:List AV}(h:eB b off len es e l (.tup xs) (.tup ys))(hl:ys.all AV.leaf=true):eB b off len es e l (.agg xs) (.agg ys):=by
 cases h with
 |refl=>exact .refl _
 |tup _ _ h1 h2=>exact .agg _ _ h1 (fun i y hy=>fq.1 hl y (dz hy)) h2
def pT(s:Sy):Nat→List (List Int)→Nat→List (List Int)×Nat
 | 0,a,k=>(a,k)
 |m+1,a,k=>if a=ke s a then (a,k) else pT s m (ke s a) (k+1)
theorem Pj{s:Sy}{a:List (List Int)}(m k:Nat)(h:a=ke s a):pT s m a k=(a,k):=by
 cases m with
 |zero=>rfl
 |succ m=>exact az h
theorem RJ{s:Sy}{a:List (List Int)}(m k:Nat)(h:¬a=ke s a):pT s (m+1) a k=pT s m (ke s a) (k+1):=aB h
theorem Tn(a b:List (List Int))(σ:Hp)(ha:lT a):ACalls Tryz.prog 240 [.ae (.slice (.int .u64)) a,.ae (.slice (.int .u64)) b] σ (ay (.bool (decide (a=b))) σ):=by
 refine ao Tryz.func240 ?_;refine aw [] (Rv 244 [] a b (fun x y=>decide (x=y)) _ (dE ha.1 (by decide)) (fun x hx y _=>aaX x y _ (dE (ha.2 x hx).2 (by decide)))) ?_;exact .done ⟨bJ (YT a b),rfl⟩
theorem P9(s:Sy)(a:List (List Int))(q r:Nat)(σ:Hp)(hf:Fit s)(hg:Good s)(ha:q7 s a):ACalls Tryz.prog 238 [.ptr q 0,.ptr r 0] ((r,[.ae (.slice (.int .u64)) a])::(q,aP s)::σ) (ay (.ae (.slice (.int .u64)) (ke s a)) ((r,[.ae (.slice (.int .u64)) a])::(q,aP s)::σ)):=by
 refine ao Tryz.func238 ?_;refine aa 1 ?_;refine aa 0 ?_;refine aw [] (mf (aaF s a _ hf (ha.ok hg)) (by rw[acp hg ha])) ?_;exact .done ⟨rfl,rfl⟩
theorem Wc{s:Sy}(hg:Good s):q7 s (jO s):=by
 refine⟨by rw[NI];have:=hg.n1;omega,fun x hx=>?_⟩;rw[(MX.1 hx).2];exact⟨J4 hg.tA,Ks _ _⟩
theorem aaS(s:Sy)(yd:Int)(σ:Hp)(hf:Fit s)(hm:cx s=0→0≤yd∧yd≤1000000):ACalls Tryz.prog 189 [.agg (aP s),.int .i64 yd] σ (ay (.tup [.ae (.slice (.int .u64)) (vd (cx s) (pT s yd.toNat (jO s) 0).1),.int .i64 (if cx s=0 then ((pT s yd.toNat (jO s) 0).2:Int) else 0),.int .i64 (cx s)]) σ):=by
 refine ao Tryz.func189 ?_;intro ax;refine aa 0 ?_
 by_cases c1:cx s=0
 ·have hg:=wi c1;have hb:=Wc hg;have hm:=hm c1;obtain⟨jC,rfl⟩:∃jC:Nat,yd=jC:=⟨yd.toNat,by omega⟩
  rw[bD];refine aw [] (mf (O5 s _ hf) (by rw[c1])) ?_;intro br;refine ah 0 ?_;have hR:pT s (jC-0) (jO s) 0=pT s jC (jO s) 0:=rfl;refine aw [] (P9 s (jO s) ax br _ hf hg hb) ?_;refine ai (p:=((0:Nat):Int)<(jC:Int)) (fun d1=>?_) (fun d1=>?_);rotate_left
  ·have d2:jC-0=0:=by omega
   refine aa 0 ?_;rw[d2]at hR;exact .drop 0 2 (.done ⟨by rw[← hR,c1];rfl,rfl⟩)
  refine aa 0 ?_;refine dc [] (Tn (jO s) (ke s (jO s)) _ ((hb).ok hg)) (fun d2=>?_) (fun d2=>?_)
  ·have d2:(jO s)=ke s (jO s):=eX d2;refine aa 0 ?_;rw[Pj _ _ d2]at hR;exact .drop 0 2 (.done ⟨by rw[← hR,c1];rfl,rfl⟩)
  have d2:¬(jO s)=ke s (jO s):=py d2;refine ah 0 ?_;rw[show jC-0=(jC-(0+1))+1 by omega,RJ _ _ d2]at hR;refine .loop (S:=List (List Int)×Nat) (fun _=>0) (fun x=>[(1,.int .i64 jC),(2,.ptr ax 0),(7,.ptr br 0),(9,.int .i64 x.2),(10,.fn (.func 238) [] [.ptr ax 0,.ptr br 0])]) (fun x=>(br,[.ae (.slice (.int .u64)) x.1])::(ax,aP s)::σ) (fun x=>(q7 s x.1∧x.2≤jC)∧pT s (jC-x.2) x.1 x.2=pT s jC (jO s) 0) (fun x=>jC-x.2) (ke s (jO s),1) ⟨rfl,⟨⟨Pf hf hg hb,by omega⟩,hR⟩,⟨rfl,rfl,rfl,rfl,rfl,trivial⟩,.refl _⟩ ?_;rintro⟨a,k⟩ t ⟨⟨eR,aK⟩,hR0⟩;have ha:q7 s a:=eR;have hk:k≤jC:=aK;have hR:pT s (jC-k) a k=pT s jC (jO s) 0:=hR0;clear eR aK hR0;refine aw [] (P9 s a ax br _ hf hg ha) ?_;refine ai (p:=((k:Nat):Int)<(jC:Int)) (fun d1=>?_) (fun d1=>?_);rotate_left
  ·have d2:jC-k=0:=by omega
   refine aa 0 ?_;rw[d2]at hR;exact .drop 0 2 (.done ⟨by rw[← hR,c1];rfl,rfl⟩)
  refine aa 0 ?_;refine dc [] (Tn a (ke s a) _ ((ha).ok hg)) (fun d2=>?_) (fun d2=>?_)
  ·have d2:a=ke s a:=eX d2;refine aa 0 ?_;rw[Pj _ _ d2]at hR;exact .drop 0 2 (.done ⟨by rw[← hR,c1];rfl,rfl⟩)
  have d2:¬a=ke s a:=py d2;refine ah 0 ?_;rw[show jC-k=(jC-(k+1))+1 by omega,RJ _ _ d2]at hR;exact .mk (ke s a,k+1) rfl (by show jC-(k+1)<jC-k;omega) ⟨⟨Pf hf hg ha,by show k+1≤jC;omega⟩,hR⟩ ⟨rfl,rfl,rfl,aI (by omega),rfl,trivial⟩ (.refl _)
 ·refine aw [] (O5 s _ hf) ?_;intro br;refine ah 0 ?_;refine cO (fun _=>?_) (fun c2=>?_)
  ·exact .nil (bZ (.nil _) (.refl _)) (.drop 0 2 (.done ⟨by unfold vd;rw[aB c1,aB c1];rfl,rfl⟩))
  ·have c2:(!decide (cx s=0))=false:=c2;exact absurd (by simpa using c2) c1
def BW(s:Sy):Int:=s.n*kE s.what s.w+1
theorem Yp(what w:Int):0≤kE what w∧kE what w≤2048:=by
 unfold kE;split
 ·rename_i h
  unfold df at h;simp at h;split <;> omega
 ·omega
theorem ad9(s:Sy)(σ:Hp):ACalls Tryz.prog 190 [.agg (aP s)] σ (ay (.int .i64 (IntKind.i64.wrap (IntKind.i64.wrap (s.n*kE s.what s.w)+1))) σ):=by
 refine ao Tryz.func190 ?_;intro ax;refine .quiet (by kernel_rfl) ?_;refine aa 0 ?_;refine aa 0 ?_;refine aa 0 ?_;refine aN [] (Fj _ _ _) ?_;exact .drop 0 1 (.done ⟨rfl,rfl⟩)
theorem P4{s:Sy}(hg:Good s):IntKind.i64.wrap (IntKind.i64.wrap (s.n*kE s.what s.w)+1)=BW s∧0≤BW s∧BW s≤1000000:=by
 have h1:=hg.n1;have h2:=hg.n2;have h3:=Yp s.what s.w;have h4:s.n*kE s.what s.w≤256*2048:=Int.mul_le_mul h2 h3.2 h3.1 (by decide);have h5:0≤s.n*kE s.what s.w:=Int.mul_nonneg (by omega) h3.1;unfold BW;rw[jF (n:=s.n*kE s.what s.w) (by omega),jF (by omega)];omega
def r7(s:Sy):List (List Int)×Nat:=pT s (BW s).toNat (jO s) 0
theorem aen(s:Sy)(σ:Hp)(hf:Fit s):ACalls Tryz.prog 136 [.agg (aP s)] σ (ay (.tup [.ae (.slice (.int .u64)) (vd (cx s) (r7 s).1),.int .i64 (if cx s=0 then ((r7 s).2:Int) else 0),.int .i64 (cx s)]) σ):=by
 refine ao Tryz.func136 ?_;intro ax;refine .quiet (by kernel_rfl) ?_;refine aa 0 ?_;refine aa 0 ?_;refine aN [] (ad9 s _) ?_;refine aN [] (aaS s _ _ hf (fun h=>?_)) ?_
 ·have:=P4 (wi h);rw[this.1];exact this.2
 ·refine .drop 0 1 (.done ⟨?_,rfl⟩)
  by_cases h:cx s=0
  ·unfold r7;rw[(P4 (wi h)).1];rfl
  ·unfold vd;rw[aB h,aB h,aB h,aB h];rfl
theorem acU(n:Int)(l:List aO)(σ:Hp)(hl:l.length≤1000000):ACalls Tryz.prog 113 [.int .i64 n,.ae cg l] σ (ay (.bool (eA n l)) σ):=by
 refine ao Tryz.func113 ?_;refine ai (p:=n<1) (fun c1=>?_) (fun c1=>?_)
 ·exact .done ⟨bJ (by unfold eA;simp;omega),rfl⟩
 refine ai (p:=256<n) (fun c2=>?_) (fun c2=>?_)
 ·exact .done ⟨bJ (by unfold eA;simp;omega),rfl⟩
 refine ai (p:=1024<(l.length:Int)) (fun c3=>?_) (fun c3=>?_)
 ·exact .done ⟨bJ (by unfold eA;simp;omega),rfl⟩
 have Gs:eA n l=l.all fun e=>cH n e.1&&cH n e.2.1:=by
  unfold eA;rw[decide_eq_true (by omega),decide_eq_true (by omega),decide_eq_true (by omega)];simp
 refine bc (S:=Nat) (fun k=>[(0,.int .i64 n),(18,.ae cg l),(19,.int .i64 l.length),(20,.int .i64 k)]) (fun _=>σ) (fun k=>k≤l.length∧((l.take k).any fun e=> !(cH n e.1&&cH n e.2.1))=false) (fun k=>l.length-k) 0 ⟨⟨aV _,rfl⟩,⟨rfl,rfl,rfl,rfl,trivial⟩,rfl⟩ ?_;rintro k g ⟨aK,eR⟩;have hk:k≤l.length:=aK;have ha:((l.take k).any fun e=> !(cH n e.1&&cH n e.2.1))=false:=eR;clear aK eR;refine ai (fun ab=>?_) (fun ak=>?_)
 ·have ab:k<l.length:=by have ab:(k:Int)<l.length:=ab;omega
  have hs:=mH ab fun e:aO=> !(cH n e.1&&cH n e.2.1);rw[ha,l8]at hs;have hm:=bU ab;obtain⟨d,hd⟩:∃d:aO,l[k]=d:=⟨_,rfl⟩
  rw[hd]at hs hm
  have nb:(cH n d.1&&cH n d.2.1)=false→false=eA n l:=fun h=>by
   rw[Gs,B0];have:(l.any fun e=> !(cH n e.1&&cH n e.2.1))=true:=kr.2 ⟨d,hm,by rw[h];rfl⟩;rw[this];rfl
  refine aF.mk rfl (aY.mk d (by omega) ((get_some ab).trans (congrArg some hd)) ?_);intro bX;refine ah 0 ?_;refine aa 0 ?_;refine ai (p:=d.1<0) (fun d1=>?_) (fun d1=>?_)
  ·exact .drop 0 1 (.done ⟨bJ (nb (by unfold cH;simp;omega)),rfl⟩)
  refine aa 0 ?_;refine ai (p:=n≤d.1) (fun d2=>?_) (fun d2=>?_)
  ·exact .drop 0 1 (.done ⟨bJ (nb (by unfold cH;simp;omega)),rfl⟩)
  refine aa 0 ?_;refine ai (p:=d.2.1<0) (fun d3=>?_) (fun d3=>?_)
  ·exact .drop 0 1 (.done ⟨bJ (nb (by unfold cH;simp;omega)),rfl⟩)
  refine aa 0 ?_;refine ai (p:=n≤d.2.1) (fun d4=>?_) (fun d4=>?_)
  ·exact .drop 0 1 (.done ⟨bJ (nb (by unfold cH;simp;omega)),rfl⟩)
  exact aM (k+1) (by show l.length-(k+1)<l.length-k;omega) ⟨ab,hs.trans (by unfold cH;simp;omega)⟩ ⟨rfl,rfl,rfl,aI (by omega),trivial⟩ (.drop 0 1 (.refl _))
 ·have ak:k=l.length:=by have ak:¬(k:Int)<l.length:=ak;omega
  subst ak;rw[er]at ha;exact .done ⟨bJ (by rw[Gs,B0,ha];rfl),rfl⟩
theorem Za(s:Sy)(σ:Hp)(hf:Fit s):ACalls Tryz.prog 56 [.agg (aP s)] σ (ay (.int .i64 (cx s)) σ):=by
 refine ao Tryz.func56 ?_;intro ax;refine aa 0 ?_;refine aa 0 ?_;refine dc [] (C2 s.what s.w _) (fun hi=>?_) (fun hi=>?_);rotate_left
 ·exact .drop 0 1 (.done ⟨aQ (S9 hi),rfl⟩)
 refine aa 0 ?_;refine aa 0 ?_;refine dc [] (acU s.n s.cd _ (dE hf.wQ (by decide))) (fun cr=>?_) (fun cr=>?_);rotate_left
 ·exact .drop 0 1 (.done ⟨aQ (Aa hi fun h=>by rw[h.1]at cr;cases cr),rfl⟩)
 refine aa 0 ?_;refine aa 0 ?_;refine cO (fun ct=>?_) (fun ct=>?_)
 ·have ct:(!decide ((s.T.length:Int)=s.n))=true:=ct;have ct:¬(s.T.length:Int)=s.n:=by simpa using ct
  exact .drop 0 1 (.done ⟨aQ (Aa hi fun h=>ct h.2),rfl⟩)
 have ct:(!decide ((s.T.length:Int)=s.n))=false:=ct;have ct:(s.T.length:Int)=s.n:=by simpa using ct
 have hr:eA s.n s.cd=true∧(s.T.length:Int)=s.n:=⟨cr,ct⟩
 refine aa 0 ?_;refine bc (S:=Nat) (fun k=>[(1,.ptr ax 0),(28,.ae (.int .i64) s.entry),(29,.int .i64 s.entry.length),(30,.int .i64 k)]) (fun _=>(ax,aP s)::σ) (fun k=>k≤s.entry.length∧((s.entry.take k).any fun v=> !cH s.n v)=false) (fun k=>s.entry.length-k) 0 ⟨⟨aV _,rfl⟩,⟨rfl,rfl,rfl,rfl,trivial⟩,rfl⟩ ?_;rintro k g ⟨aK,eR⟩;have hk:k≤s.entry.length:=aK;have ha:((s.entry.take k).any fun v=> !cH s.n v)=false:=eR;clear aK eR;refine ai (fun ab=>?_) (fun ak=>?_)
 ·have ab:k<s.entry.length:=by have ab:(k:Int)<s.entry.length:=ab;omega
  have hs:=mH ab fun v=> !cH s.n v;rw[ha,l8]at hs;have nb:cH s.n s.entry[k]=false→(s.entry.any fun v=> !cH s.n v)=true:=fun h=>kr.2 ⟨s.entry[k],bU ab,by rw[h];rfl⟩;refine aF.mk rfl (aY.mk s.entry[k] (by omega) (get_some ab) ?_);refine ai (p:=s.entry[k]<0) (fun d1=>?_) (fun d1=>?_)
  ·exact .drop 0 1 (.done ⟨aQ (zO hi hr (nb (by unfold cH;simp;omega))),rfl⟩)
  ·refine aa 0 ?_;refine ai (p:=s.n≤s.entry[k]) (fun d2=>?_) (fun d2=>?_)
   ·exact .drop 0 1 (.done ⟨aQ (zO hi hr (nb (by unfold cH;simp;omega))),rfl⟩)
   ·exact aM (k+1) (by show s.entry.length-(k+1)<s.entry.length-k;omega) ⟨ab,hs.trans (by unfold cH;simp;omega)⟩ ⟨rfl,rfl,rfl,aI (by have:=hf.wK;omega),trivial⟩ (.refl _)
 have ak:k=s.entry.length:=by have ak:¬(k:Int)<s.entry.length:=ak;omega
 subst ak;rw[er]at ha;refine aa 0 ?_;refine aa 0 ?_;refine aa 0 ?_;refine dc [] (aaJ s.what s.w s.init _ hf.i64) (fun cv=>?_) (fun cv=>?_);rotate_left
 ·exact .drop 0 1 (.done ⟨aQ (KV hi hr ha cv),rfl⟩)
 refine aa 0 ?_;refine bc (S:=Nat) (fun k=>[(1,.ptr ax 0),(52,.ae j9 s.T),(53,.int .i64 s.T.length),(54,.int .i64 k)]) (fun _=>(ax,aP s)::σ) (fun k=>k≤s.T.length∧((s.T.take k).any fun t=> !decide (fm s.what s.w t.1 t.2.1 t.2.2.1=0))=false) (fun k=>s.T.length-k) 0 ⟨⟨aV _,rfl⟩,⟨rfl,rfl,rfl,rfl,trivial⟩,rfl⟩ ?_;rintro k g ⟨aK,gO⟩;have hk:k≤s.T.length:=aK;have ht:((s.T.take k).any fun t=> !decide (fm s.what s.w t.1 t.2.1 t.2.2.1=0))=false:=gO;clear aK gO;refine ai (fun ab=>?_) (fun ak=>?_)
 ·have ab:k<s.T.length:=by have ab:(k:Int)<s.T.length:=ab;omega
  have hs:=mH ab fun t=> !decide (fm s.what s.w t.1 t.2.1 t.2.2.1=0);rw[ht,l8]at hs;have ho:=hf.ts _ (bU ab);have hm:=bU ab;obtain⟨t,eH⟩:∃t:lC,s.T[k]=t:=⟨_,rfl⟩
  rw[eH]at hs ho hm;refine aF.mk rfl (aY.mk t (by omega) ((get_some ab).trans (congrArg some eH)) ?_);intro bX;refine ah 0 ?_;refine aa 1 ?_;refine aa 1 ?_;refine aa 0 ?_;refine aw [] (aaE s.what s.w t.1 t.2.1 t.2.2.1 _ ho.1 ho.2.1 ho.2.2.1 ho.2.2.2.1 (dE ho.2.2.2.2 (by decide))) ?_;refine cO (fun d1=>?_) (fun d1=>?_)
  ·exact .drop 0 2 (.done ⟨aQ (Kq hi hr ha cv (kr.2 ⟨t,hm,d1⟩)),rfl⟩)
  ·exact aM (k+1) (by show s.T.length-(k+1)<s.T.length-k;omega) ⟨ab,hs.trans d1⟩ ⟨rfl,rfl,rfl,aI (by have:=hf.uH;omega),trivial⟩ (.drop 0 1 (.refl _))
 ·have ak:k=s.T.length:=by have ak:¬(k:Int)<s.T.length:=ak;omega
  subst ak;rw[er]at ht;exact .drop 0 1 (.done ⟨aQ (Gx hi hr ha cv ht),rfl⟩)
def p9(n:Nat):List Int:=(List.range n).map fun i:Nat=>(i:Int)
theorem Ox(n:Nat):(p9 n).length=n:=by simp[p9]
theorem Zl(n:Nat):p9 (n+1)=p9 n++[(n:Int)]:=by unfold p9;rw[pz,cE];rfl
theorem abm{n k:Nat}(h:k<n):(p9 n)[k]?=some (k:Int):=by unfold p9;rw[fD,A1 h];rfl
theorem aev(n:Nat)(σ:Hp)(hn:n≤1024):ACalls Tryz.prog 245 [.int .i64 n,.ae (.int .i64) (p9 n)] σ (ay (.ae (.int .u64) (fu n)) σ):=by
 have iG:eF n=n:=by unfold eF;omega
 have dG:=xU n;refine ao Tryz.func245 ?_;refine aw [] (Kw n _) ?_;refine a8 ?_;intro q;refine bc (S:=Nat×Nat) (fun s=>[(0,.int .i64 n),(5,.af s.2 0 (dS n) 1),(11,.ae (.int .i64) (p9 n)),(12,.int .i64 n),(13,.int .i64 s.1)]) (fun s=>(s.2,aU (iy (fu n) s.1))::σ) (fun s=>s.1≤n) (fun s=>n-s.1) (0,q) ⟨aV _,⟨rfl,rfl,rfl,congrArg (fun m:Nat=>AV.int .i64 (m:Int)) (Ox n),rfl,trivial⟩,?_⟩ ?_
 ·show (q,cP [.int .u64 0] (((dS n:Nat):Int)).toNat)::σ=(q,aU (iy (fu n) 0))::σ;rw[QE,ny,bD,zt]
 rintro⟨k,b⟩ g aK;have hk:k≤n:=aK;clear aK;refine ai (fun ab=>?_) (fun ak=>?_)
 ·have ab:k<n:=by have ab:(k:Int)<n:=ab;omega
  refine aF.mk rfl (aY.mk (k:Int) (by omega) (by rw[bD];exact abm ab) ?_);refine aw [] (J8 n _) ?_;refine ai (p:=(k:Int)<(eF n:Int)) (fun _=>?_) (fun h=>?_);rotate_left
  ·exact absurd (by omega) h
  have hi:k / 64<dS n:=by unfold dS;omega
  refine .mk [] _ (aef (iy (fu n) k) k b (dS n) σ (by rw[tW,ny]) (by omega) hi) ?_;rintro _ _ ⟨b2,rfl,rfl⟩;refine aM (k+1,b2) (by show n-(k+1)<n-k;omega) ab ⟨rfl,rfl,rfl,rfl,aI (by omega),trivial⟩ (.drop 1 1 (aL ?_));rw[PS n (by omega)];rfl
 ·have ak:k=n:=by have ak:¬(k:Int)<n:=ak;omega
  subst ak;have hc:=Q4 k;rw[iG]at hc;rw[hc];exact .cb 0 b 0 (dS k) 1 _ (.int .u64) (fu k) rfl (by rw[List.drop_zero,← nz];exact List.take_of_length_le (by simp[aU,ny])) ⟨ny k,rfl,by decide⟩ .here (.done ⟨rfl,rfl⟩)
theorem aaN(n:Nat)(σ:Hp)(hn:n≤1024):ACalls Tryz.prog 196 [.int .i64 n] σ (ay (.ae (.int .u64) (fu n)) σ):=by
 refine ao Tryz.func196 ?_;refine .wrap 3 _ rfl rfl ?_;refine bc (S:=Nat×AV×Hp) (fun s=>[(0,.int .i64 n),(3,.via s.2.1),(4,.int .i64 s.1)]) (fun s=>s.2.2++σ) (fun s=>s.1≤n∧Acc 1 s.1 s.2.1 s.2.2 (aj (p9 s.1))) (fun s=>n-s.1) (0,.ag,[]) ⟨⟨aV _,.nil⟩,⟨rfl,rfl,rfl,trivial⟩,rfl⟩ ?_;rintro⟨k,v,acc⟩ g ⟨aK,fX⟩;have hk:k≤n:=aK;have bF:Acc 1 k v acc (aj (p9 k)):=fX;clear aK fX;refine ai (fun ab=>?_) (fun ak=>?_)
 ·have ab:k<n:=by have ab:(k:Int)<n:=ab;omega
  intro ax;refine eS [_] bF (.af 0 ax 0 1 _ rfl (cj rfl)) rfl (by omega) (by decide) (by decide) (fun v' aJ h'=>?_);refine aM (k+1,v',aJ) (by show n-(k+1)<n-k;omega) ⟨ab,?_⟩ ⟨rfl,rfl,aI (by omega),trivial⟩ (.drop 0 1 (aL rfl));show Acc 1 (k+1) v' aJ (aj (p9 (k+1)));rw[Zl,aj,cE];exact h'
 ·have ak:k=n:=by have ak:¬(k:Int)<n:=ak;omega
  subst ak;have hO:=fun σ=>aev k σ hn;generalize hU:p9 k=U at bF hO;have hlU:U.length=k:=by rw[← hU];exact Ox k
  generalize hC:aj U=C at bF;cases bF with
  |nil=>
   have hU0:U=[]:=fE.1 hlU;rw[hU0]at hO;refine aw [] (EL (bZ (.refl _) (bZ (.nil _) sU)) (hO _)) ?_;exact .done ⟨rfl,rfl⟩
  |af b k cs h=>
   refine .cb (args':=[.int .i64 k,.ae (.int .i64) U]) 0 b 0 k 1 _ (.int .i64) U rfl (by rw[fy,← ia,hC];exact dZ (by omega)) ⟨hlU,rfl,by decide⟩ (bZ (.refl _) (bZ .here sU)) (aw [] (hO _) ?_);exact .done ⟨rfl,rfl⟩
theorem Xt(what w:Int)(σ:Hp)(hi:df what w=true):ACalls Tryz.prog 145 [.int .i64 what,.int .i64 w] σ (ay (.ae (.int .u64) (iq what w)) σ):=by
 refine ao Tryz.func145 ?_;have hw:=xQ what w;refine aw [] (mf (C2 what w _) (bJ hi)) ?_;refine ai (p:=what=2) (fun c=>?_) (fun c=>?_)
 ·have kS:=hi;unfold df at kS;simp at kS;obtain⟨n,rfl⟩:∃n:Nat,w=n:=⟨w.toNat,by omega⟩
  refine aw [] (aaN n _ (by omega)) ?_;exact .done ⟨by rw[show iq what (n:Int)=fu n from az ⟨c,hi⟩];rfl,rfl⟩
 ·refine aw [] (Ji what w _) ?_;refine a8 ?_;intro b;have e:iq what w=List.replicate (ez what w).toNat 0:=aB fun h=>c h.1;rw[e];show Fin _ (.af b 0 (ez what w).toNat 1) ((b,cP [.int .u64 0] (ez what w).toNat)::σ);rw[zt];have hl:(List.replicate (ez what w).toNat (0:Int)).length=(ez what w).toNat:=gh;generalize List.replicate (ez what w).toNat (0:Int)=Z at hl;refine .cb 0 b 0 (ez what w).toNat 1 _ (.int .u64) Z rfl ?_ ⟨hl,rfl,by decide⟩ .here (.done ⟨rfl,rfl⟩);rw[fy,← nz];exact dZ (by rw[aU,cN,hl];omega)
theorem Y7(s:Sy)(v:Int)(σ:Hp)(hf:Fit s)(hg:Good s):ACalls Tryz.prog 82 [.agg (aP s),.int .i64 v] σ (ay (.ae (.int .u64) (eN s v)) σ):=by
 refine ao Tryz.func82 ?_;intro ax;refine aa 0 ?_;refine dc [] (LD s.entry v _ (dE hf.wK (by decide))) (fun c=>?_) (fun c=>?_)
 ·intro bX;have hle:=hf.CL;refine aa 1 ?_;refine AppendAt.more 0 bX 0 s.init.length [] _ rfl rfl (cj rfl) (.ae (.int .u64) s.init rfl) (by omega) (by decide) (by decide) (fun b=>?_);have e:eN s v=s.init:=by unfold eN;rw[c];rfl
  rw[e];refine .cb 0 b 0 (0+s.init.length) 1 _ (.int .u64) s.init rfl ?_ ⟨(dD _).symm,rfl,by decide⟩ .here (.drop 0 1 (.done ⟨rfl,rfl⟩));rw[fy];refine dZ ?_;have:=sM (fun d=>Sh.sK (.int .u64) d) s.init;simp only[List.take_nil,sA];rw[this];show s.init.length*1≤(0+s.init.length)*1;omega
 ·refine aa 0 ?_;refine aa 0 ?_;refine aw [] (Xt s.what s.w _ hg.tA) ?_;exact .drop 0 1 (.done ⟨by unfold eN;rw[c];rfl,rfl⟩)
def jh(s:Sy)(v:Int):Int:=if cx s=0 then (if cH s.n v=true then 0 else 1) else cx s
theorem Ya{s:Sy}{v:Int}(h:¬cx s=0):cx s=jh s v:=(aB h).symm
theorem QQ{s:Sy}{v:Int}(h:cx s=0)(hv:¬(0≤v∧v<s.n)):1=jh s v:=by unfold jh;rw[az h,aB];rw[kA];exact hv
theorem I1{s:Sy}{v:Int}(h:cx s=0)(hv:0≤v∧v<s.n):0=jh s v:=by unfold jh;rw[az h,az];rw[kA];exact hv
theorem WQ{s:Sy}{v:Int}(h:jh s v=0):Good s∧0≤v∧v<s.n:=by
 unfold jh at h;split at h
 ·rename_i h1
  split at h
  ·rename_i h2;exact⟨wi h1,kA.1 h2⟩
  ·cases h
 ·rename_i h1;exact absurd h h1
theorem Ro(s:Sy)(v:Int)(σ:Hp)(hf:Fit s):ACalls Tryz.prog 211 [.agg (aP s),.int .i64 v] σ (ay (.int .i64 (jh s v)) σ):=by
 refine ao Tryz.func211 ?_;intro ax;refine aa 0 ?_;refine aw [] (xT s _ hf) ?_;refine cO (fun c1=>?_) (fun c1=>?_)
 ·have c1:(!decide (cx s=0))=true:=c1;have c1:¬cx s=0:=by simpa using c1
  exact .drop 0 1 (.done ⟨aQ (Ya c1),rfl⟩)
 ·have c1:(!decide (cx s=0))=false:=c1;have c1:cx s=0:=by simpa using c1
  refine ai (p:=v<0) (fun c2=>?_) (fun c2=>?_)
  ·exact .drop 0 1 (.done ⟨aQ (QQ c1 (by omega)),rfl⟩)
  ·refine aa 0 ?_;refine ai (p:=s.n≤v) (fun c3=>?_) (fun c3=>?_)
   ·exact .drop 0 1 (.done ⟨aQ (QQ c1 (by omega)),rfl⟩)
   ·exact .drop 0 1 (.done ⟨aQ (I1 c1 (by omega)),rfl⟩)
theorem Y3(s:Sy)(v:Int)(σ:Hp)(hf:Fit s):ACalls Tryz.prog 158 [.agg (aP s),.int .i64 v] σ (ay (.tup [.ae (.int .u64) (sj (jh s v) (eN s v)),.int .i64 (jh s v)]) σ):=by
 refine ao Tryz.func158 ?_;intro ax;refine aa 0 ?_;refine aw [] (Ro s v _ hf) ?_;refine cO (fun c1=>?_) (fun c1=>?_)
 ·have c1:(!decide (jh s v=0))=true:=c1;have c1:¬jh s v=0:=by simpa using c1
  exact .nil (bZ (.nil _) (.refl _)) (.drop 0 1 (.done ⟨by rw[BO c1];rfl,rfl⟩))
 ·have c1:(!decide (jh s v=0))=false:=c1;have c1:jh s v=0:=by simpa using c1
  refine aa 0 ?_;refine aw [] (Tf s v _ hf) ?_;exact .drop 0 1 (.done ⟨by rw[ui c1,c1];rfl,rfl⟩)
def qW(s:Sy)(v:Int)(x:List Int):Int:=if jh s v=0 then (if dm s.what s.w x=true then 0 else 2) else jh s v
theorem ZL{s:Sy}{v:Int}(x:List Int)(h:¬jh s v=0):qW s v x=jh s v:=aB h
theorem ZK{s:Sy}{v:Int}{x:List Int}(h:jh s v=0)(hv:dm s.what s.w x=true):qW s v x=0:=by unfold qW;rw[az h,az hv]
theorem acL(s:Sy)(v:Int)(x:List Int)(σ:Hp)(hf:Fit s)(hx:bC x)(lx:x.length≤10000):ACalls Tryz.prog 399 [.agg (aP s),.int .i64 v,.ae (.int .u64) x] σ (ay (.tup [.ae (.int .u64) (sj (qW s v x) (lf s x v.toNat)),.int .i64 (qW s v x)]) σ):=by
 refine ao Tryz.func399 ?_;intro ax;refine aa 0 ?_;refine aw [] (Ro s v _ hf) ?_;refine cO (fun c1=>?_) (fun c1=>?_)
 ·have c1:(!decide (jh s v=0))=true:=c1;have c1:¬jh s v=0:=by simpa using c1
  have e:=ZL x c1;exact .nil (bZ (.nil _) (.refl _)) (.drop 0 1 (.done ⟨by rw[e,BO c1];rfl,rfl⟩))
 ·have c1:(!decide (jh s v=0))=false:=c1;have c1:jh s v=0:=by simpa using c1
  obtain⟨hg,oa,eC⟩:=WQ c1;obtain⟨hT,MB⟩:=K6 hg (v:=v.toNat) (by omega);have ht:=hf.ts _ (bU hT);have hc:=hg.Hc _ (bU hT);have hA:=fun σ=>Si s.what s.w s.T[v.toNat].1 s.T[v.toNat].2.1 s.T[v.toNat].2.2.1 x σ ht.1 ht.2.1 hx ht.2.2.1 ht.2.2.2.1 lx (dE ht.2.2.2.2 (by decide));have Mg:nF s.what s.T[v.toNat].1 s.T[v.toNat].2.1 s.T[v.toNat].2.2.1 x=lf s x v.toNat:=by unfold lf;rw[MB]
  have hE:uP s.what s.w s.T[v.toNat].1 s.T[v.toNat].2.1 s.T[v.toNat].2.2.1 x=qW s v x:=by unfold qW uP;rw[az hc,az c1]
  rw[Mg,hE]at hA;refine .quiet (by kernel_rfl) ?_;refine aa 0 ?_;refine aa 0 ?_;refine aa 0 ?_;refine aF.mk rfl (aY.mk s.T[v.toNat] (by omega) (bu hT) ?_);refine aN [] (hA _) ?_;exact .drop 0 1 (.done ⟨rfl,rfl⟩)
theorem kD{n:Int}{l:List aO}{a b:Int}:b∈au n l a↔(0≤b∧b<n)∧(0≤a∧a<n)∧∃e∈l,e.1=a∧e.2.1=b:=by
 unfold au ie;rw[jK,decide_eq_true_eq,eW,eW];constructor
 ·rintro⟨⟨i,hi,rfl⟩,e,he,h2⟩;have hi:=gP.1 hi;obtain⟨h3,h4⟩:=jK.1 he;simp only[bS,decide_eq_true_eq,kA]at h4;exact⟨by omega,h4.1.2,e,h3,h4.1.1,h2⟩
 ·rintro⟨h1,h2,e,h3,h4,h5⟩;refine⟨⟨b.toNat,gP.2 (by omega),by omega⟩,e,jK.2 ⟨h3,?_⟩,h5⟩;simp only[bS,decide_eq_true_eq,kA];exact⟨⟨h4,h2⟩,by omega⟩
theorem vR(n:Int)(l:List aO)(a:Int):(au n l a).length≤n.toNat:=by
 unfold au;exact Nat.le_trans (List.length_filter_le _ _) (by simp)
theorem Rp(s:Sy)(σ:Hp)(hf:Fit s)(hg:Good s):ACalls Tryz.prog 136 [.agg (aP s)] σ (ay (.tup [.ae (.slice (.int .u64)) (r7 s).1,.int .i64 (r7 s).2,.int .i64 0]) σ):=by
 refine mf (aen s σ hf) ?_;rw[I9 hg];rfl
def ti(l:List aO)(a b:Int):Bool:=l.any fun e=>decide (e.1=a)&&decide (e.2.1=b)
theorem aey(l:List aO)(a b:Int)(σ:Hp)(hl:l.length≤100000):ACalls Tryz.prog 228 [.ae cg l,.int .i64 a,.int .i64 b] σ (ay (.bool (ti l a b)) σ):=by
 refine ao Tryz.func228 ?_;refine bc (S:=Nat) (fun k=>[(1,.int .i64 a),(2,.int .i64 b),(9,.ae cg l),(10,.int .i64 l.length),(11,.int .i64 k)]) (fun _=>σ) (fun k=>k≤l.length∧ti (l.take k) a b=false) (fun k=>l.length-k) 0 ⟨⟨aV _,rfl⟩,⟨rfl,rfl,rfl,rfl,rfl,trivial⟩,rfl⟩ ?_;rintro k g ⟨aK,eR⟩;have hk:k≤l.length:=aK;have ha:ti (l.take k) a b=false:=eR;clear aK eR;refine ai (fun ab=>?_) (fun ak=>?_)
 ·have ab:k<l.length:=by have ab:(k:Int)<l.length:=ab;omega
  have hs:ti (l.take (k+1)) a b=(decide (l[k].1=a)&&decide (l[k].2.1=b)):=by
   have:=mH ab fun e:aO=>decide (e.1=a)&&decide (e.2.1=b);unfold ti at ha ⊢;rw[this,ha,l8]
  have hm:=bU ab;obtain⟨d,hd⟩:∃d:aO,l[k]=d:=⟨_,rfl⟩
  rw[hd]at hs hm;refine aF.mk rfl (aY.mk d (by omega) ((get_some ab).trans (congrArg some hd)) ?_);intro ax;refine ah 0 ?_;refine aa 0 ?_;refine ai (p:=d.1=a) (fun c1=>?_) (fun c1=>?_)
  ·refine aa 0 ?_;refine ai (p:=d.2.1=b) (fun c2=>?_) (fun c2=>?_)
   ·exact .drop 0 1 (.done ⟨bJ (kr.2 ⟨d,hm,by rw[aX c1,aX c2];rfl⟩).symm,rfl⟩)
   ·exact aM (k+1) (by show l.length-(k+1)<l.length-k;omega) ⟨ab,hs.trans (by rw[cp c2,DV])⟩ ⟨rfl,rfl,rfl,rfl,aI (by omega),trivial⟩ (.drop 0 1 (.refl _))
  ·exact aM (k+1) (by show l.length-(k+1)<l.length-k;omega) ⟨ab,hs.trans (by rw[cp c1];rfl)⟩ ⟨rfl,rfl,rfl,rfl,aI (by omega),trivial⟩ (.drop 0 1 (.refl _))
 ·have ak:k=l.length:=by have ak:¬(k:Int)<l.length:=ak;omega
  subst ak;rw[er]at ha;exact .done ⟨bJ ha.symm,rfl⟩
theorem ac8{n:Int}{l:List aO}{a b:Int}(ha:0≤a∧a<n)(hb:0≤b∧b<n):ti l a b=decide (b∈au n l a):=by
 rw[DZ,decide_eq_true_eq,kD];unfold ti;rw[kr];constructor
 ·rintro⟨e,he,h⟩;simp only[bS,decide_eq_true_eq]at h;exact⟨hb,ha,e,he,h.1,h.2⟩
 ·rintro⟨_,_,e,he,h1,h2⟩;exact⟨e,he,by rw[aX h1,aX h2];rfl⟩
def lR(n:Int)(l:List aO)(a:Int)(k:Nat):List Int:=((List.range k).map fun i:Nat=>(i:Int)).filter fun b=>decide (b∈ie n l a)
theorem PH{n:Int}{l:List aO}{a b:Int}(hb:0≤b∧b<n):b∈ie n l a↔b∈au n l a:=by
 unfold au;rw[jK,decide_eq_true_eq];exact⟨fun h=>⟨eW.2 ⟨b.toNat,gP.2 (by omega),by omega⟩,h⟩,fun h=>h.2⟩
theorem aex(n:Nat)(l:List aO)(a:Int)(σ:Hp)(hl:l.length≤100000)(hn:n≤100000):ACalls Tryz.prog 171 [.int .i64 n,.ae cg l,.int .i64 a] σ (ay (.ae (.int .i64) (au n l a)) σ):=by
 refine ao Tryz.func171 ?_;refine .wrap 7 _ rfl rfl ?_;refine bc (S:=Nat×AV×Hp) (fun s=>[(0,.int .i64 n),(1,.ae cg l),(2,.int .i64 a),(7,.via s.2.1),(8,.int .i64 s.1)]) (fun s=>s.2.2++σ) (fun s=>s.1≤n∧Acc 1 (lR n l a s.1).length s.2.1 s.2.2 (aj (lR n l a s.1))) (fun s=>n-s.1) (0,.ag,[]) ⟨⟨aV _,.nil⟩,⟨rfl,rfl,rfl,rfl,rfl,trivial⟩,rfl⟩ ?_;rintro⟨k,v,acc⟩ g ⟨aK,fX⟩;have hk:k≤n:=aK;have bF:Acc 1 (lR n l a k).length v acc (aj (lR n l a k)):=fX;clear aK fX;have cQ:(lR n l a k).length≤k:=by unfold lR;exact Nat.le_trans (List.length_filter_le _ _) (by simp)
 have TR:lR n l a n=au n l a:=by unfold lR au;rw[bD]
 have nb:¬(0≤a∧a<n)→∀j,lR n l a j=[]:=fun h j=>by
  unfold lR;refine List.filter_eq_nil_iff.2 fun b _ hb=>?_;have hb:=eX hb;have h1:=PG hb;exact h (kD.1 ((PH h1).1 hb)).2.1
 have na:(¬(0≤a∧a<n)∨k=n)→Fin (ay (.ae (.int .i64) (au n l a)) σ) v (acc++σ):=fun h=>by
  have he:lR n l a k=au n l a:=by
   rcases h with h | h
   ·rw[nb h k,← TR,nb h n]
   ·rw[h,TR]
  rw[he]at bF;exact lH (s:=.int .i64) [] bF rfl (ia _) (by decide) (.done ⟨rfl,rfl⟩)
 refine ai (p:=(k:Int)<n) (fun ab=>?_) (fun ak=>?_);rotate_left
 ·exact na (.inr (by omega))
 have ab:k<n:=by omega
 refine ai (p:=0≤a) (fun c1=>?_) (fun c1=>?_);rotate_left
 ·exact na (.inl fun h=>c1 h.1)
 refine ai (p:=a<n) (fun c2=>?_) (fun c2=>?_);rotate_left
 ·exact na (.inl fun h=>c2 h.2)
 have hs:lR n l a (k+1)=lR n l a k++(if ti l a k=true then [(k:Int)] else []):=by
  unfold lR;rw[pz,cE,tP]
  congr 1
  have UD:ti l a k=true↔(k:Int)∈ie n l a:=by
   rw[ac8 ⟨c1,c2⟩ (by omega),decide_eq_true_eq,PH (by omega)]
  by_cases hc:ti l a k=true
  ·rw[az hc];exact Ea (aX (UD.1 hc))
  ·rw[aB hc];exact Eb (by rw[decide_eq_true_eq];exact fun h=>hc (UD.2 h))
 refine dc [] (aey l a k _ hl) (fun c3=>?_) (fun c3=>?_)
 ·rw[az c3]at hs;intro bX;refine eS [_] bF (.af 0 bX 0 1 _ rfl (cj rfl)) rfl (by omega) (by decide) (by decide) (fun v' aJ h'=>?_);refine aM (k+1,v',aJ) (by show n-(k+1)<n-k;omega) ⟨ab,?_⟩ ⟨rfl,rfl,rfl,rfl,aI (by omega),trivial⟩ (.drop 0 1 (aL rfl));show Acc 1 (lR n l a (k+1)).length v' aJ (aj (lR n l a (k+1)));rw[hs,bB,aj,cE];exact h'
 ·rw[c3,aB (by decide),fC]at hs;exact aM (k+1,v,acc) (by show n-(k+1)<n-k;omega) ⟨ab,by show Acc 1 (lR n l a (k+1)).length v acc (aj (lR n l a (k+1)));rw[hs];exact bF⟩ ⟨rfl,rfl,rfl,rfl,aI (by omega),trivial⟩ (.refl _)
end Go.Proofs.YtnikdflhefijbaaGreat
