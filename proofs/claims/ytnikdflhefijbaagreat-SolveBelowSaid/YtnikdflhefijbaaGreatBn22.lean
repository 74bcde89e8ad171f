import Derived.Test.YtnikdflhefijbaaGreatBn21
namespace Go.Proofs.YtnikdflhefijbaaGreat
open Go.RowKit
set_option maxRecDepth 100000
section
variable {F:Nat→Prop} {w:World} {σ:Hp}
theorem aat(h:bg F w σ)(os:Array Obj):bE F w F (Go.Sort.grow w os)∧bg F (Go.Sort.grow w os) σ:=by
 have ei:(Go.Sort.grow w os).heap.size=w.heap.size+os.size:=by simp[Go.Sort.grow]
 have ar:∀b,b<w.heap.size→(Go.Sort.grow w os).heap[b]?=w.heap[b]?:=fun b hb=>by
  show (w.heap++os)[b]?=_
  rw[Ox hb]
 have aq:bE F w F (Go.Sort.grow w os):=⟨rfl,rfl,rfl,by omega,fun _ h=>h,fun b hb=>ar b (h.low b hb),fun b c T fz hc=>⟨c,fz,by
  rw[ar b (EM.1 hc).1];exact hc,rfl⟩,aU _⟩
 exact⟨aq,h.nodup,fun p hp=>(h.holds p hp).mono aq (ar _ (h.holds p hp).lt) (h.holds p hp).1,fun b hb=>by have:=h.low b hb;omega⟩
theorem mQ(zs:List Int):(ao zs).length=zs.length:=by unfold ao;simp
theorem acq(zs:List Int){i:Nat}{x:AV}(h:(ao zs)[i]?=some x):∃h2:i<zs.length,x=.int .i64 zs[i]:=by
 unfold ao at h
 rw[fo]at h
 cases hz:zs[i]? with
 |none=>rw[hz]at h;cases h
 |some z=>
  rw[hz]at h
  obtain⟨h2,h3⟩:=cf.1 hz
  exact⟨h2,by cases h;rw[h3]⟩
theorem acv(zs:List Int){i:Nat}(h:i<zs.length):(ao zs)[i]?=some (.int .i64 zs[i]):=by unfold ao;rw[fo,bJ h];rfl
theorem Holds.K4{F:Nat→Prop}{w:World}{b:Nat}{cs:List AV}(h:Holds F w b cs)(hn:∀x∈cs,x.leaf=true):¬F b∧Ha F w b cs:=by
 obtain⟨hF,h | ⟨x,o,e,_,hx⟩ | ⟨L,t,e,_⟩⟩:=h
 ·exact⟨hF,h⟩
 ·subst e;have:=hn _ (cm ..);rw[J5 hx]at this;cases this
 ·subst e;cases hn _ (cm ..)
theorem R0(zs:List Int):∀x∈ao zs,x.leaf=true:=fun x hx=>by
 obtain⟨z,_,rfl⟩:=dX.1 hx;rfl
theorem Gm{b n:Nat}{zs zs':List Int}(h:bg F w ((b,ao zs)::σ))(hl:zs'.length=zs.length)(os:Array Obj):
  bE F w F (Go.Sort.grow (Go.Sort.putRow (Value.int .i64) (Go.Sort.ahead w n) b 0 zs'.toArray) os)∧bg F (Go.Sort.grow (Go.Sort.putRow (Value.int .i64) (Go.Sort.ahead w n) b 0 zs'.toArray) os) ((b,ao zs')::σ):=by
 obtain⟨hF,c,T,hc,hle,nz⟩:=(h.holds _ (cm ..)).K4 (R0 zs)
 have hle:(ao zs).length≤c.size:=hle
 rw[mQ]at hle
 have hc:w.heap[b]?=some (.cells c T (0,0)):=hc
 have wY:∀k,k<zs'.length→(Go.Sort.putCells (Value.int .i64) 0 zs'.toArray c).getD k undef=Value.int .i64 (zs'.getD k 0):=fun k hk=>by
  have Ed:k<c.size:=by omega
  unfold Go.Sort.putCells
  rw[jy,Array.getElem?_mapIdx,xF Ed]
  simp only[Option.map_some,Option.getD_some]
  rw[if_pos ⟨Nat.zero_le _,by simpa using hk⟩,Nat.sub_zero,List.getD_eq_getElem?_getD,List.getElem?_eq_getElem hk]
  simp[hk]
 have key:=BP (F:=F) (w:=w) (w':=Go.Sort.putRow (Value.int .i64) (Go.Sort.ahead w n) b 0 zs'.toArray) h (j:=0) (b:=b) (cs:=ao zs) (cs':=ao zs') rfl hc (c':=Go.Sort.putCells (Value.int .i64) 0 zs'.toArray c) (by simp[Go.Sort.putCells]) (by rw[mQ];simp[Go.Sort.putCells];omega)
  (fun i x hx=>by
   obtain⟨h2,rfl⟩:=acq zs' hx
   refine⟨rfl,?_⟩
   rw[wY i h2,aW,bJ h2]
   exact .int _ _)
  (fun k hk=>by
   show (w.heap.modify b _)[k]?=_
   rw[Array.getElem?_modify,ah (fun e=>hk e.symm)])
  (by
   show (w.heap.modify b _)[b]?=_
   rw[Array.getElem?_modify,ai rfl,hc];rfl)
  rfl rfl rfl (by simp[Go.Sort.ahead])
 obtain⟨k1,k2⟩:=key
 obtain⟨g1,g2⟩:=aat k2 os
 exact⟨k1.trans g1,g2⟩
theorem KB{b:Nat}{zs:List Int}(h:bg F w ((b,ao zs)::σ)):Go.Sort.Holds (Value.int .i64) w b 0 zs.toArray∧b<w.heap.size:=by
 obtain⟨hF,c,T,hc,hle,nz⟩:=(h.holds _ (cm ..)).K4 (R0 zs)
 have hc:w.heap[b]?=some (.cells c T (0,0)):=hc
 have hle:(ao zs).length≤c.size:=hle
 rw[mQ]at hle
 refine⟨fun j hj=>?_,(EM.1 hc).1⟩
 have hj:j<zs.length:=by simpa using hj
 have hr:=(nz j _ (acv zs hj)).2.gA
 rw[eF]
 constructor
 ·rw[Lh hc,xF (by omega)]
  rw[jy,xF (by omega)]at hr
  simp only[Option.getD_some]at hr
  rw[hr]
  simp[hj]
 ·unfold World.frozen?
  simp[hc]
end
theorem WW(l:List Int):(Go.Lib.compact l).length≤l.length:=by
 unfold Go.Lib.compact Go.Lib.compactUpTo
 rw[cd]
 exact Nat.le_trans (List.length_filter_le _ _) (by simp)
def fv(zs:List Int):List Int:=zs.mergeSort fun x y=>decide (x≤y)
theorem zw(zs:List Int):(fv zs).length=zs.length:=List.length_mergeSort ..
theorem La:∀{l m:List Int},l.Pairwise (· < ·)→m.Pairwise (· < ·)→(∀x,x∈l↔x∈m)→l=m
 | [],[],_,_,_=>rfl
 | [],y::m,_,_,h=>absurd ((h y).2 (cm ..)) Be
 |x::l,[],_,_,h=>absurd ((h x).1 (cm ..)) Be
 |x::l,y::m,hl,hm,h=>by
  have h1:=Bk.1 hl
  have h2:=Bk.1 hm
  have aN:x=y:=by
   have a:=(h x).1 (cm ..)
   have b:=(h y).2 (cm ..)
   rcases eG.1 a with a | a
   ·exact a
   ·rcases eG.1 b with b | b
    ·exact b.symm
    ·have:=h1.1 y b;have:=h2.1 x a;omega
  subst aN
  refine congrArg (x :: ·) (La h1.2 h2.2 fun z=>⟨fun hz=>?_,fun hz=>?_⟩)
  ·rcases eG.1 ((h z).1 (cY _ hz)) with e | e
   ·subst e;have:=h1.1 z hz;omega
   ·exact e
  ·rcases eG.1 ((h z).2 (cY _ hz)) with e | e
   ·subst e;have:=h2.1 z hz;omega
   ·exact e
theorem OY(zs:List Int):(fv zs).Pairwise (·≤·):=by
 have:=List.pairwise_mergeSort (le:=fun x y:Int=>decide (x≤y)) (fun a b c h1 h2=>by simp at *;omega) (fun a b=>by simp;omega) zs
 exact this.imp fun h=>by simpa using h
theorem Qp(zs:List Int)(x:Int):x∈fv zs↔x∈zs:=List.mem_mergeSort
theorem PC{l:List Int}(h:l.Pairwise (·≤·)){i j:Nat}(l9:i≤j)(hj:j<l.length):l[i]'(by omega)≤l[j]:=by
 by_cases e:i=j
 ·subst e;exact ke _
 ·exact Ol.1 h i j (by omega) hj (by omega)
def yA(zs:List Int):List Int:=Go.Lib.compact (fv zs)
theorem WX{l:List Int}(h:l.Pairwise (·≤·)):(Go.Lib.compact l).Pairwise (· < ·):=by
 unfold Go.Lib.compact Go.Lib.compactUpTo
 rw[Bi]
 have hr:((List.range l.length).filter (Go.Lib.keeps l.toArray)).Pairwise fun i j=>i<j∧j<l.length∧Go.Lib.keeps l.toArray j=true:=by
  have h1:(List.range l.length).Pairwise fun i j=>i<j∧j<l.length:=by
   rw[Ol]
   intro i j hi hj l9
   simp only[N9]
   exact⟨l9,by simpa using hj⟩
  rw[List.pairwise_filter]
  exact h1.imp fun l9 _ hk=>⟨l9.1,l9.2,hk⟩
 refine hr.imp fun {i j} ⟨h1,h2,h3⟩=>?_
 have hk:l.toArray[j]!≠l.toArray[j-1]!:=by
  unfold Go.Lib.keeps at h3
  simp only[decide_eq_true_eq]at h3
  rcases h3 with h3 | h3
  ·omega
  ·exact h3
 have e1:l.toArray[j]! = l[j]:=by simp[h2]
 have e2:l.toArray[j-1]! = l[j-1]'(by omega):=by simp[show j-1<l.length by omega]
 have e3:l.toArray[i]! = l[i]'(by omega):=by simp[show i<l.length by omega]
 rw[e1,e2]at hk
 rw[e1,e3]
 have q1:=PC h (i:=i) (j:=j-1) (by omega) (by omega)
 have q2:=PC h (i:=j-1) (j:=j) (by omega) h2
 omega
theorem Pn{l:List Int}(x:Int):x∈Go.Lib.compact l↔x∈l:=by
 unfold Go.Lib.compact Go.Lib.compactUpTo
 constructor
 ·intro hx
  obtain⟨j,hj,rfl⟩:=dX.1 hx
  have hj:=gw.1 (nD.1 hj).1
  have e1:l.toArray[j]! = l[j]:=by simp[hj]
  rw[e1];exact bX hj
 ·intro hx
  have hex:∃j,∃h:j<l.length,l[j]=x:=by
   obtain⟨j,hj,e⟩:=tW.1 hx
   exact⟨j,hj,e⟩
  obtain⟨j,⟨hj,e⟩,jk⟩:∃j,(∃h:j<l.length,l[j]=x)∧∀k,k<j→¬∃h:k<l.length,l[k]=x:=by
   obtain⟨j,hj⟩:=hex
   induction j using Nat.strongRecOn with
   |ind j ih=>
    by_cases hk:∃k,k<j∧∃h:k<l.length,l[k]=x
    ·obtain⟨k,h1,h2⟩:=hk
     exact ih k h1 h2
    ·exact⟨j,hj,fun k h1 h2=>hk ⟨k,h1,h2⟩⟩
  refine List.mem_map.2 ⟨j,List.mem_filter.2 ⟨List.mem_range.2 hj,?_⟩,by simp[hj,e]⟩
  unfold Go.Lib.keeps
  rw[decide_eq_true_eq]
  by_cases h0:j=0
  ·exact .inl h0
  ·refine .inr fun h=>jk (j-1) (by omega) ⟨by omega,?_⟩
   have e1:l.toArray[j]! = l[j]:=by simp[hj]
   have e2:l.toArray[j-1]! = l[j-1]'(by omega):=by simp[show j-1<l.length by omega]
   rw[e1,e2]at h
   rw[← h];exact e
theorem aaN{zs:List Int}{n:Nat}(h:∀z∈zs,0≤z∧z<n):yA zs=((List.range n).map fun i:Nat=>(i:Int)).filter fun b=>decide (b∈zs):=by
 refine La (WX (OY zs)) ?_ fun x=>?_
 ·refine List.Pairwise.filter _ ?_
  rw[Bi,Ol]
  intro i j hi hj l9
  simp only[N9]
  omega
 ·unfold yA
  rw[Pn,Qp,nD,decide_eq_true_eq]
  refine⟨fun hx=>⟨?_,hx⟩,fun hx=>hx.2⟩
  have:=h x hx
  exact dX.2 ⟨x.toNat,gw.2 (by omega),by omega⟩
theorem Pj:Enters Tryz.prog 312:=enters_of Tryz.func312 (by kernel_rfl)
theorem Pk:Enters Tryz.prog 313:=enters_of Tryz.func313 (by kernel_rfl)
theorem Gs{vs:Array Value}(h:1=vs.size):∃v,vs = #[v]:=by
 refine⟨vs.getD 0 undef,Array.ext ?_ fun i h2 h3=>?_⟩
 ·simp[← h]
 ·have:i=0:=by omega
  subst this
  simp[Array.getD,h2]
theorem KP{F:Nat→Prop}{w:World}:aA F w (.tup []) (.tuple #[]):=.tup [] #[] rfl fun i x h=>by simp at h
theorem aeb(σ:Hp):ACalls Tryz.prog 312 [.aj] σ (aE (.tup []) σ):=by
 refine⟨Pj,fun F w vs bU aF =>?_⟩
 obtain⟨v,rfl⟩:=Gs bU.1
 have hv:aA F w .aj v:=bU.2 0 _ rfl
 cases hv
 have h:Calls Tryz.prog 312 #[.slice none 0 0] w fun e w'=>e=.returned (.tuple #[])∧w'=w:=Any.slices_Sort_int_none K7 none 0 w
 refine h.mono ?_
 rintro e w' ⟨rfl,rfl⟩
 exact⟨.tup [],.tuple #[],σ,F,rfl,.refl _ _,aF,KP,rfl,rfl⟩
theorem LI(b:Nat)(zs:List Int)(n:Nat)(σ:Hp)(hz:zs.length=n)(hl:n≤1000000):ACalls Tryz.prog 312 [.ae b 0 n 1] ((b,ao zs)::σ) (aE (.tup []) ((b,ao (fv zs))::σ)):=by
 subst hz
 refine⟨Pj,fun F w vs bU aF =>?_⟩
 obtain⟨v,rfl⟩:=Gs bU.1
 have hv:aA F w (.ae b 0 zs.length 1) v:=bU.2 0 _ rfl
 obtain⟨a,cap,rfl,c,T,fz,m1,m2,m3,m4⟩:=hv.lu
 rcases m4 with ⟨rfl,_⟩ | ⟨_,_,h0,_⟩
 ·obtain⟨h1,h2⟩:=KB aF
  have h:Calls Tryz.prog 312 #[.slice (some ⟨b,0,none⟩) zs.length cap] w fun e w'=>e=.returned (.tuple #[])∧∃n os,w'=Go.Sort.grow (Go.Sort.putRow (Value.int .i64) (Go.Sort.ahead w n) b 0 (fv zs).toArray) os:=Any.slices_Sort_int K7 b 0 cap zs w h1 h2 (by omega)
  refine h.mono ?_
  rintro e w' ⟨rfl,n,os,rfl⟩
  obtain⟨k1,k2⟩:=Gm (n:=n) aF (zw zs) os
  exact⟨.tup [],.tuple #[],_,F,rfl,k1,k2,KP,rfl,rfl⟩
 ·have hz:zs=[]:=jP.1 h0
  subst hz
  have h:Calls Tryz.prog 312 #[.slice (some a) 0 cap] w fun e w'=>e=.returned (.tuple #[])∧w'=w:=Any.slices_Sort_int_none K7 (some a) cap w
  have he:fv []=[]:=jP.1 (zw [])
  rw[he]
  refine h.mono ?_
  rintro e w' ⟨rfl,rfl⟩
  exact⟨.tup [],.tuple #[],_,F,rfl,.refl _ _,aF,KP,rfl,rfl⟩
theorem aex(σ:Hp):ACalls Tryz.prog 313 [.aj] σ (aE .aj σ):=by
 refine⟨Pk,fun F w vs bU aF =>?_⟩
 obtain⟨v,rfl⟩:=Gs bU.1
 have hv:aA F w .aj v:=bU.2 0 _ rfl
 cases hv
 have h:Calls Tryz.prog 313 #[.slice none 0 0] w fun e w'=>e=.returned (.slice none 0 0)∧w'=w:=Any.slices_Compact_int_empty K6 none 0 w
 refine h.mono ?_
 rintro e w' ⟨rfl,rfl⟩
 exact⟨.aj,_,σ,F,rfl,.refl _ _,aF,.aj,rfl,rfl⟩
theorem aey(b:Nat)(zs:List Int)(n:Nat)(σ:Hp)(hz:zs.length=n)(hl:n≤1000000):ACalls Tryz.prog 313 [.ae b 0 n 1] ((b,ao zs)::σ) (aE (.ae b 0 (Go.Lib.compact zs).length 1) ((b,ao (Go.Lib.compact zs++List.replicate (n-(Go.Lib.compact zs).length) 0))::σ)):=by
 subst hz
 have hle:=WW zs
 refine⟨Pk,fun F w vs bU aF =>?_⟩
 obtain⟨v,rfl⟩:=Gs bU.1
 have hv:aA F w (.ae b 0 zs.length 1) v:=bU.2 0 _ rfl
 obtain⟨a,cap,rfl,c,T,fz,m1,m2,m3,m4⟩:=hv.lu
 rcases m4 with ⟨rfl,m5⟩ | ⟨m5,m6,h0,m7⟩
 ·obtain⟨h1,h2⟩:=KB aF
  have h:Calls Tryz.prog 313 #[.slice (some ⟨b,0,none⟩) zs.length cap] w fun e w'=>e=.returned (.slice (some ⟨b,0,none⟩) (Go.Lib.compact zs).length cap)∧∃q,w'=Go.Sort.putRow (Value.int .i64) (Go.Sort.ahead w q) b 0 (Go.Lib.compact zs++List.replicate (zs.length-(Go.Lib.compact zs).length) 0).toArray:=Any.slices_Compact_int K6 b 0 cap zs w h1 (by omega) m2
  refine h.mono ?_
  rintro e w' ⟨rfl,q,rfl⟩
  obtain⟨k1,k2⟩:=Gm (n:=q) (zs':=Go.Lib.compact zs++List.replicate (zs.length-(Go.Lib.compact zs).length) 0) aF (by rw[bQ,gb];omega) #[]
  have hg:∀W:World,Go.Sort.grow W #[]=W:=fun W=>by unfold Go.Sort.grow;rw[Array.append_empty]
  rw[hg]at k1 k2
  obtain⟨c',rG,kD,dE⟩:=k1.rows b c T fz m1
  exact⟨.ae b 0 _ 1,_,_,F,rfl,k1,k2,.ae _ _ _ _ _ _ ⟨c',T,rG,kD,by omega,m3,.inl ⟨rfl,by omega⟩⟩,rfl,rfl⟩
 ·have hz:zs=[]:=jP.1 h0
  subst hz
  have h:Calls Tryz.prog 313 #[.slice (some a) 0 cap] w fun e w'=>e=.returned (.slice (some a) 0 cap)∧w'=w:=Any.slices_Compact_int_empty K6 (some a) cap w
  refine h.mono ?_
  rintro e w' ⟨rfl,rfl⟩
  exact⟨.ae b 0 0 1,_,_,F,rfl,.refl _ _,aF,hv,rfl,rfl⟩
theorem Y4:yA []=[]:=Jh.2 fun x h=>by
 unfold yA at h
 rw[Pn,Qp]at h
 cases h
def jf(n:Int)(l:List bC)(a:Int):List Int:=(l.filter fun e=>decide (e.1=a)&&dI n a&&dI n e.2.1).map fun e=>e.2.1
def au(n:Int)(l:List bC)(a:Int):List Int:=((List.range n.toNat).map fun i:Nat=>(i:Int)).filter fun b=>decide (b∈jf n l a)
theorem YH(n:Int)(l:List bC)(a:Int):(jf n l a).length≤l.length:=by unfold jf;rw[cd];exact EP _ _
theorem YG{n:Int}{l:List bC}{a z:Int}(h:z∈jf n l a):0≤z∧z<n:=by
 unfold jf at h
 obtain⟨e,he,rfl⟩:=dX.1 h
 have h4:=(nD.1 he).2
 simp only[bL,decide_eq_true_eq,kI]at h4
 exact h4.2
theorem Xy(n:Int)(l:List bC)(a:Int){k:Nat}(h:k<l.length):jf n (l.take (k+1)) a=jf n (l.take k) a++(if (decide (l[k].1=a)&&dI n a&&dI n l[k].2.1)=true then [l[k].2.1] else []):=by
 unfold jf
 rw[fp h,Bo,cS]
 congr 1
 by_cases hc:(decide (l[k].1=a)&&dI n a&&dI n l[k].2.1)=true
 ·rw[ai hc];have e:=List.filter_cons_of_pos (p:=fun e:bC=>decide (e.1=a)&&dI n a&&dI n e.2.1) (a:=l[k]) (l:=[]) hc;rw[e];rfl
 ·rw[ah hc];have e:=gs0 (p:=fun e:bC=>decide (e.1=a)&&dI n a&&dI n e.2.1) (a:=l[k]) (l:=[]) hc;rw[e];rfl
theorem ZM(n:Int)(l:List bC)(a:Int):yA (jf n l a)=au n l a:=by
 unfold au
 exact aaN fun z hz=>by have:=YG hz;omega
theorem Aw(n:Int)(l:List bC)(a:Int)(σ:Hp)(hl:l.length≤100000):ACalls Tryz.prog 289 [.int .i64 n,.af dv l,.int .i64 a] σ (aE (.af (.int .i64) (au n l a)) σ):=by
 refine ay Tryz.func289 ?_
 refine .wrap 7 _ rfl rfl ?_
 refine bV (S:=Nat×AV×Hp) (fun s=>[(0,.int .i64 n),(2,.int .i64 a),(7,.via s.2.1),(10,.af dv l),(11,.int .i64 l.length),(12,.int .i64 s.1)]) (fun s=>s.2.2++σ) (fun s=>s.1≤l.length∧Acc 1 (jf n (l.take s.1) a).length s.2.1 s.2.2 (ao (jf n (l.take s.1) a))) (fun s=>l.length-s.1) (0,.aj,[]) ⟨⟨bA _,.nil⟩,⟨rfl,rfl,rfl,rfl,rfl,rfl,trivial⟩,rfl⟩ ?_
 rintro⟨k,v,acc⟩ g ⟨aL,gK⟩
 have hk:k≤l.length:=aL
 have bY:Acc 1 (jf n (l.take k) a).length v acc (ao (jf n (l.take k) a)):=gK
 clear aL gK
 have ov:(jf n (l.take k) a).length≤k:=by have:=YH n (l.take k) a;rw[xC]at this;omega
 refine an (fun ab=>?_) (fun ar=>?_)
 ·have ab:k<l.length:=by have ab:(k:Int)<l.length:=ab;omega
  have hs:=Xy n l a ab
  obtain⟨d,hd⟩:∃d:bC,l[k]=d:=⟨_,rfl⟩
  rw[hd]at hs
  refine ag.mk rfl (bG.mk d (by omega) ((get_some ab).trans (congrArg some hd)) ?_)
  intro aD
  refine ak 0 ?_
  refine aa 0 ?_
  refine an (p:=d.1=a) (fun c1=>?_) (fun c1=>?_)
  ·refine eb [] (Hu n a _) (fun c2=>?_) (fun c2=>?_)
   ·refine aa 0 ?_
    refine eb [] (Hu n d.2.1 _) (fun c3=>?_) (fun c3=>?_)
    ·rw[aV c1,c2,c3,ai (show (true&&true&&true)=true from rfl)]at hs
     refine aa 0 ?_
     intro dH
     refine jU [_,_] bY (.ae 0 dH 0 1 _ rfl (cH rfl)) rfl (by omega) (by decide) (by decide) (fun v' bu h'=>?_)
     refine a8 (k+1,v',bu) (by show l.length-(k+1)<l.length-k;omega) ⟨ab,?_⟩ ⟨rfl,rfl,rfl,rfl,rfl,aX (by omega),trivial⟩ (.drop 0 2 (aJ rfl))
     show Acc 1 (jf n (l.take (k+1)) a).length v' bu (ao (jf n (l.take (k+1)) a))
     rw[hs,bQ,ao,cS]
     exact h'
    ·rw[c3,IP,ah (by decide),mL]at hs
     refine a8 (k+1,v,acc) (by show l.length-(k+1)<l.length-k;omega) ⟨ab,by show Acc 1 (jf n (l.take (k+1)) a).length v acc (ao (jf n (l.take (k+1)) a));rw[hs];exact bY⟩ ⟨rfl,rfl,rfl,rfl,rfl,aX (by omega),trivial⟩ (.drop 0 1 (aJ rfl))
   ·rw[c2,IP,IQ,ah (by decide),mL]at hs
    refine a8 (k+1,v,acc) (by show l.length-(k+1)<l.length-k;omega) ⟨ab,by show Acc 1 (jf n (l.take (k+1)) a).length v acc (ao (jf n (l.take (k+1)) a));rw[hs];exact bY⟩ ⟨rfl,rfl,rfl,rfl,rfl,aX (by omega),trivial⟩ (.drop 0 1 (aJ rfl))
  ·rw[bR c1,IQ,IQ,ah (by decide),mL]at hs
   refine a8 (k+1,v,acc) (by show l.length-(k+1)<l.length-k;omega) ⟨ab,by show Acc 1 (jf n (l.take (k+1)) a).length v acc (ao (jf n (l.take (k+1)) a));rw[hs];exact bY⟩ ⟨rfl,rfl,rfl,rfl,rfl,aX (by omega),trivial⟩ (.drop 0 1 (aJ rfl))
 ·have ar:k=l.length:=by have ar:¬(k:Int)<l.length:=ar;omega
  subst ar
  rw[fj]at bY ov
  have Mb:=ZM n l a
  generalize jf n l a=zs at bY ov Mb
  generalize hC:ao zs=C at bY
  generalize hm:zs.length=m at bY
  cases bY with
  |nil=>
   have hz:zs=[]:=jP.1 hm
   subst hz
   refine az [] (aeb _) ?_
   refine az [] (aex _) ?_
   exact .nil (.nil (.int .i64)) (.done ⟨by rw[← Mb,Y4];rfl,rfl⟩)
  |ae b m cs h=>
   subst hC
   refine az [] (LI b zs m σ hm (by omega)) ?_
   refine az [] (aey b (fv zs) m σ ((zw zs).trans hm) (by omega)) ?_
   refine .cI 0 b 0 _ 1 _ (.int .i64) (yA zs) rfl ?_ ⟨rfl,rfl,by decide⟩ .here (.done ⟨by rw[Mb],rfl⟩)
   rw[gR,← ug]
   unfold yA ao
   rw[cS,eH,Jg (by rw[cd];exact aU _)]
   exact eI (by rw[cd];exact aU _)
def jn(a b:Int):Int:=if a=b∨b=0 then a else if a=0 then b else 1
theorem wk{a b:Int}(ha:aI a=a)(hb:aI b=b):kn a b=jn a b:=by unfold kn jn;rw[ha,hb]
theorem Gy(a b:Int):jn a b=jn b a:=by
 unfold jn
 by_cases h1:a=b
 ·subst h1;rfl
 ·by_cases h2:a=0
  ·by_cases h3:b=0
   ·omega
   ·rw[ah (by omega),ai h2,ai (by omega)]
  ·by_cases h3:b=0
   ·rw[ai (by omega),ah (by omega),ai h3]
   ·rw[ah (by omega),ah h2,ah (by omega),ah h3]
theorem Gx(a:Int):jn a 0=a:=by unfold jn;rw[ai (.inr rfl)]
theorem Cf(a:Int):jn 0 a=a:=by rw[Gy,Gx]
theorem zR(a:Int):jn a a=a:=by unfold jn;rw[ai (.inl rfl)]
theorem CY{a b:Int}(h:a≠b)(ha:a≠0)(hb:b≠0):jn a b=1:=by unfold jn;rw[ah (by omega),ah ha]
theorem Ly(a:Int):jn a 1=1:=by
 by_cases h:a=1
 ·rw[h,zR]
 ·by_cases h0:a=0
  ·rw[h0,Cf]
  ·exact CY h h0 (by decide)
theorem RV(a b c:Int):jn (jn a b) c=jn a (jn b c):=by
 by_cases ha:a=0
 ·rw[ha,Cf,Cf]
 by_cases hb:b=0
 ·rw[hb,Gx,Cf]
 by_cases hc:c=0
 ·rw[hc,Gx,Gx]
 by_cases h1:a=b
 ·subst h1
  by_cases h2:a=c
  ·subst h2;rw[zR]
  ·rw[zR,CY h2 ha hc,Ly]
 ·rw[CY h1 ha hb,Gy 1 c,Ly]
  by_cases h2:b=c
  ·subst h2;rw[zR,CY h1 ha hb]
  ·rw[CY h2 hb hc,Ly]
theorem ud{a b:List Int}(ha:okW a=true)(hb:okW b=true){i:Nat}(h:i<a.length)(h2:i<b.length):wd (dg 3 a b) i=jn (wd a i) (wd b i):=by
 rw[ya h h2,qS,wk (wE ha h) (wE hb h2)]
theorem sO{what w:Int}{a b:List Int}(va:cC what w a=true)(vb:cC what w b=true):a.length=b.length:=by have h1:=wx va;have h2:=wx vb;omega
theorem aa6(what:Int)(x y:Bool):ja what x y=ja what y x:=by unfold ja;split <;> cases x <;> cases y <;> rfl
theorem Yy(what:Int)(x y z:Bool):ja what (ja what x y) z=ja what x (ja what y z):=by unfold ja;split <;> cases x <;> cases y <;> cases z <;> rfl
structure dY(what w:Int)(a:List Int):Prop where
 v:cC what w a=true
 ca:aR a
theorem dY.join{what w:Int}{a b:List Int}(ha:dY what w a)(hb:dY what w b):dY what w (dg what a b):=⟨Kz ha.ca hb.ca ha.v hb.v,wF ha.ca hb.ca⟩
theorem B8{what w:Int}{x y:List Int}(hx:dY what w x)(hy:dY what w y)(h3:what=3→∀i,i<x.length→wd x i=wd y i)(hs:what=1∨what=2→∀i k,i<x.length→k<64→dU x i k=dU y i k):x=y:=by
 have hl:=sO hx.v hy.v
 by_cases h:what=3
 ·exact ye hl (h3 h)
 ·exact Gk hx.ca hy.ca hl (hs (GV (mn hx.v) h))
theorem join_comm{what w:Int}{a b:List Int}(ha:dY what w a)(hb:dY what w b):dg what a b=dg what b a:=by
 have hl:=sO ha.v hb.v
 refine B8 (ha.join hb) (hb.join ha) (fun h3 i hi=>?_) (fun hs i k hi _=>?_)
 ·subst h3
  rw[iK hl]at hi
  have va:=((jB (mn ha.v) rfl).1 ha.v).2
  have vb:=((jB (mn hb.v) rfl).1 hb.v).2
  rw[ud va vb hi (by omega),ud vb va (by omega) hi,Gy]
 ·rw[iK hl]at hi
  rw[oV hs ha.ca hb.ca hl i k hi,oV hs hb.ca ha.ca hl.symm i k (by omega),aa6]
theorem join_assoc{what w:Int}{a b c:List Int}(ha:dY what w a)(hb:dY what w b)(hc:dY what w c):dg what (dg what a b) c=dg what a (dg what b c):=by
 have hl:=sO ha.v hb.v
 have qs:=sO hb.v hc.v
 have l1:=iK (what:=what) hl
 have l2:=iK (what:=what) qs
 refine B8 ((ha.join hb).join hc) (ha.join (hb.join hc)) (fun h3 i hi=>?_) (fun hs i k hi _=>?_)
 ·subst h3
  rw[iK (by omega),l1]at hi
  have o:∀{x:List Int},dY 3 w x→okW x=true:=fun h=>((jB (mn h.v) rfl).1 h.v).2
  rw[ud (o (ha.join hb)) (o hc) (by omega) (by omega),ud (o ha) (o hb) (by omega) (by omega),ud (o ha) (o (hb.join hc)) (by omega) (by omega),ud (o hb) (o hc) (by omega) (by omega),RV]
 ·rw[iK (by omega),l1]at hi
  rw[oV hs (ha.join hb).ca hc.ca (by omega) i k (by omega),oV hs ha.ca hb.ca hl i k (by omega),oV hs ha.ca (hb.join hc).ca (by omega) i k (by omega),oV hs hb.ca hc.ca qs i k (by omega),Yy]
theorem join_self{what w:Int}{a:List Int}(ha:dY what w a):dg what a a=a:=by
 refine B8 (ha.join ha) ha (fun h3 i hi=>?_) (fun hs i k hi _=>?_)
 ·subst h3
  rw[iK rfl]at hi
  have va:=((jB (mn ha.v) rfl).1 ha.v).2
  rw[ud va va hi hi,zR]
 ·rw[iK rfl]at hi
  rw[oV hs ha.ca ha.ca rfl i k hi,(Lv _ (dU a i k) (dU a i k)).2.2]
def dV(what w:Int)(a b:List Int):Prop:=dY what w a∧dY what w b∧dg what a b=b
theorem dV.refl{what w:Int}{a:List Int}(h:dY what w a):dV what w a a:=⟨h,h,join_self h⟩
theorem dV.trans{what w:Int}{a b c:List Int}(h1:dV what w a b)(h2:dV what w b c):dV what w a c:=by
 refine⟨h1.1,h2.2.1,?_⟩
 have:=join_assoc h1.1 h1.2.1 h2.2.1
 rw[h1.2.2,h2.2.2]at this
 exact this.symm
theorem dV.left{what w:Int}{a b:List Int}(ha:dY what w a)(hb:dY what w b):dV what w a (dg what a b):=by
 refine⟨ha,ha.join hb,?_⟩
 rw[← join_assoc ha ha hb,join_self ha]
theorem dV.right{what w:Int}{a b:List Int}(ha:dY what w a)(hb:dY what w b):dV what w b (dg what a b):=by
 rw[join_comm ha hb];exact dV.left hb ha
theorem dV.join{what w:Int}{a b c:List Int}(h1:dV what w a c)(h2:dV what w b c):dV what w (dg what a b) c:=by
 refine⟨h1.1.join h2.1,h1.2.1,?_⟩
 rw[join_assoc h1.1 h2.1 h1.2.1,h2.2.2,h1.2.2]
theorem dV.mono{what w:Int}{a b c d:List Int}(h1:dV what w a c)(h2:dV what w b d):dV what w (dg what a b) (dg what c d):=
 dV.join (h1.trans (dV.left h1.2.1 h2.2.1)) (h2.trans (dV.right h1.2.1 h2.2.1))
theorem Gc{what w:Int}{a b:List Int}(ha:aR a)(hb:aR b):pS what w a b=true↔dV what w a b:=by
 rw[Zk]
 exact⟨fun h=>⟨⟨h.1,ha⟩,⟨h.2.1,hb⟩,h.2.2⟩,fun h=>⟨h.1.v,h.2.1.v,h.2.2⟩⟩
theorem bot_le{what w:Int}{a:List Int}(ha:dY what w a):dV what w (fX what w) a:=by
 have hi:=mn ha.v
 have hb:dY what w (fX what w):=⟨GD hi,G2 _ _⟩
 have hl:=sO hb.v ha.v
 refine⟨hb,ha,B8 (hb.join ha) ha (fun h3 i eN=>?_) (fun hs i k eN hk=>?_)⟩
 ·subst h3
  rw[iK hl]at eN
  have va:=((jB hi rfl).1 ha.v).2
  have vb:=((jB hi rfl).1 hb.v).2
  rw[ud vb va eN (by omega)]
  have:wd (fX 3 w) i=0:=by
   have e:fX 3 w=List.replicate (dS 3 w).toNat 0:=ah (fun h=>absurd h.1 (by decide))
   rw[e]at eN ⊢
   rw[kL _ eN,Jf]
  rw[this,Cf]
 ·rw[iK hl]at eN
  rw[oV hs hb.ca ha.ca hl i k eN]
  rcases hs with rfl | rfl
  ·have e:fX 1 w=List.replicate (dS 1 w).toNat 0:=ah (fun h=>absurd h.1 (by decide))
   have h0:dU (fX 1 w) i k=false:=by
    unfold dU
    rw[e]at eN ⊢
    rw[kL _ eN,Jf];exact FQ k
   rw[h0];exact oK _
  ·have e:fX 2 w=eP w:=ai ⟨rfl,hi⟩
   have fa:=(pL hi (by decide)).1 ha.v
   rw[e]at eN ⊢
   rw[mP]at eN
   show (dU (eP w) i k&&dU a i k)=dU a i k
   by_cases hc:64*i+k<dK w
   ·have h1:dU (eP w) i k=true:=by
     unfold dU
     rw[Cb w eN,bM,Je]
     exact aV (by omega)
    rw[h1,tO]
   ·have h2:=(qN ha.ca (nL fa)).1 fa i k (by rw[nL fa];exact eN) hk (by omega)
    rw[h2,IP]
theorem XZ{what w:Int}{g k a b:List Int}{l:List da}(hg:aR g)(hk:aR k)(hc:ft what w g k l=0)(h:dV what w a b):dV what w (fU what g k l a) (fU what g k l b):=by
 have:=(aeE hg hk h.1.ca h.2.1.ca hc h.1.v h.2.1.v).1
 rw[h.2.2,Gc (zH h.1.ca) (zH h.2.1.ca)]at this
 exact this
structure jH(s:Sy)(a:List (List Int)):Prop where
 len:(a.length:Int)=s.n
 val:∀x∈a,dY s.what s.w x
theorem KN{s:Sy}{a:List (List Int)}(h:pV s a=true)(ha:uR a):jH s a:=
 ⟨(B3.1 h).1,fun x hx=>⟨(B3.1 h).2 x hx,(ha.2 x hx).1⟩⟩
theorem jH.b9{s:Sy}{a:List (List Int)}(h:jH s a):pV s a=true:=B3.2 ⟨h.len,fun x hx=>(h.val x hx).v⟩
theorem jH.ok{s:Sy}{a:List (List Int)}(hg:Good s)(h:jH s a):uR a:=by
 have h1:=h.len
 have h2:=hg.n2
 exact⟨by omega,fun x hx=>⟨(h.val x hx).ca,by have:=BL (h.val x hx).v;omega⟩⟩
theorem jH.get{s:Sy}{a:List (List Int)}(h:jH s a){i:Nat}(hi:(i:Int)<s.n):dY s.what s.w (a.getD i []):=by
 have hl:=h.len
 have ab:i<a.length:=by omega
 rw[aW,bJ ab]
 exact h.val _ (bX ab)
def jl(s:Sy)(a b:List (List Int)):Prop:=jH s a∧jH s b∧∀i:Nat,(i:Int)<s.n→dV s.what s.w (a.getD i []) (b.getD i [])
theorem Kt{s:Sy}(hf:Fit s)(hg:Good s){x y:List Int}(h:dV s.what s.w x y){v:Nat}(hv:(v:Int)<s.n):dV s.what s.w (iD s x v) (iD s y v):=by
 obtain⟨h2,e⟩:=Hx hg hv
 unfold iD
 rw[e]
 have ho:=hf.ts _ (bX h2)
 exact XZ ho.1 ho.2.1 (hg.DP _ (bX h2)) h
theorem JX{s:Sy}(hf:Fit s)(hg:Good s)(v:Int):dY s.what s.w (gG s v):=⟨(JW hf hg v).1,(JW hf hg v).2⟩
theorem Qn{s:Sy}(hf:Fit s)(hg:Good s){a:List (List Int)}(h:jH s a)(v k:Nat)(hk:k≤s.bf.length):dY s.what s.w (jD s a k v):=
 ⟨(Fx hf hg (h.ok hg) h.b9 v k hk).1,(Fx hf hg (h.ok hg) h.b9 v k hk).2⟩
theorem Fw{s:Sy}(hf:Fit s)(hg:Good s){a:List (List Int)}(h:jH s a):jH s (gz s a):=KN (PA hf hg (h.ok hg) h.b9).1 (PA hf hg (h.ok hg) h.b9).2
theorem Fy(s:Sy)(a:List (List Int)){i:Nat}(h:(i:Int)<s.n):(gz s a).getD i []=jD s a s.bf.length i:=by
 unfold gz CR
 rw[aW,fo,tU (by omega)];rfl
theorem Pz{s:Sy}(hf:Fit s)(hg:Good s){a b:List (List Int)}(h:jl s a b)(v:Nat):∀k,k≤s.bf.length→dV s.what s.w (jD s a k v) (jD s b k v)
 | 0,_=>dV.refl (JX hf hg v)
 |k+1,hk=>by
  have ih:=Pz hf hg h v k (by omega)
  rw[zA s a (by omega),zA s b (by omega)]
  unfold wQ
  have he:=hg.yO _ (bX (show k<s.bf.length by omega))
  split
  ·exact ih.mono (Kt hf hg (h.2.2 _ (by omega)) (by omega))
  ·exact ih
theorem Qm{s:Sy}(hf:Fit s)(hg:Good s){a b:List (List Int)}(h:jl s a b):jl s (gz s a) (gz s b):=
 ⟨Fw hf hg h.1,Fw hf hg h.2.1,fun i hi=>by
  rw[Fy s a hi,Fy s b hi]
  exact Pz hf hg h i _ (aU _)⟩
theorem jl.trans{s:Sy}{a b c:List (List Int)}(h1:jl s a b)(h2:jl s b c):jl s a c:=⟨h1.1,h2.2.1,fun i hi=>(h1.2.2 i hi).trans (h2.2.2 i hi)⟩
theorem Zj{s:Sy}(hf:Good s){a b:List (List Int)}(ha:uR a)(hb:uR b):LG s a b=true↔jl s a b:=by
 unfold LG
 rw[Kc hf]
 simp only[decide_true,tO,bL]
 constructor
 ·rintro⟨⟨h1,h2⟩,h3⟩
  have va:=KN h1 ha
  have vb:=KN h2 hb
  have h3:=Fq.1 h3
  refine⟨va,vb,fun i hi=>?_⟩
  have la:=va.len
  have lb:=vb.len
  have:=h3.2 i (by omega) (by omega)
  rw[Gc (ha.2 _ (bX _)).1 (hb.2 _ (bX _)).1]at this
  rw[aW,aW,bJ (by omega),bJ (by omega)]
  exact this
 ·rintro⟨va,vb,h⟩
  have la:=va.len
  have lb:=vb.len
  refine⟨⟨va.b9,vb.b9⟩,Fq.2 ⟨by omega,fun i hi su=>?_⟩⟩
  rw[Gc (ha.2 _ (bX hi)).1 (hb.2 _ (bX su)).1]
  have:=h i (by omega)
  rw[aW,aW,bJ hi,bJ su]at this
  exact this
end Go.Proofs.YtnikdflhefijbaaGreat
