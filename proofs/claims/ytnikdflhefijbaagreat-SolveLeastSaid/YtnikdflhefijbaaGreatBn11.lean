import Derived.Test.YtnikdflhefijbaaGreatBn10
import Derived.Test.YtnikdflhefijbaaGreatBn8
import Derived.Shelf.GgSortFunc.RowK
import Derived.Sort.Grow
import Derived.Test.YtnikdflhefijbaaGreatBn6
import Derived.Shelf.SlSortCmp.NoneTotal
namespace Go.Proofs.YtnikdflhefijbaaGreat
open Go.RowKit
set_option maxRecDepth 100000
section
variable {F:Nat→Prop} {w:World} {σ:Hp}
theorem aay(h:bA F w σ)(os:Array Obj):bJ F w F (Go.Sort.grow w os)∧bA F (Go.Sort.grow w os) σ:=by
 have eD:(Go.Sort.grow w os).heap.size=w.heap.size+os.size:=by simp[Go.Sort.grow]
 have au:∀b,b<w.heap.size→(Go.Sort.grow w os).heap[b]?=w.heap[b]?:=fun b hb=>by
  show (w.heap++os)[b]?=_
  rw[Oy hb]
 have ao:bJ F w F (Go.Sort.grow w os):=⟨rfl,rfl,rfl,by omega,fun _ h=>h,fun b hb=>au b (h.low b hb),fun b c T fz hc=>⟨c,fz,by
  rw[au b (E8.1 hc).1];exact hc,rfl⟩,a8 _⟩
 exact⟨ao,h.nodup,fun p hp=>(h.holds p hp).mono ao (au _ (h.holds p hp).lt) (h.holds p hp).1,fun b hb=>by have:=h.low b hb;omega⟩
theorem jy(zs:List Int):(an zs).length=zs.length:=by unfold an;simp
theorem acC(zs:List Int){i:Nat}{x:AV}(h:(an zs)[i]?=some x):∃h2:i<zs.length,x=.int .i64 zs[i]:=by
 unfold an at h
 rw[fo]at h
 cases hz:zs[i]? with
 |none=>rw[hz]at h;cases h
 |some z=>
  rw[hz]at h
  obtain⟨h2,h3⟩:=cg.1 hz
  exact⟨h2,by cases h;rw[h3]⟩
theorem acG(zs:List Int){i:Nat}(h:i<zs.length):(an zs)[i]?=some (.int .i64 zs[i]):=by unfold an;rw[fo,bF h];rfl
theorem Holds.GM{F:Nat→Prop}{w:World}{b:Nat}{cs:List AV}(h:Holds F w b cs)(hn:∀x∈cs,x.leaf=true):¬F b∧Ht F w b cs:=by
 obtain⟨hF,h | ⟨x,o,e,_,hx⟩ | ⟨L,t,e,_⟩⟩:=h
 ·exact⟨hF,h⟩
 ·subst e;have:=hn _ (ck ..);rw[Kl hx]at this;cases this
 ·subst e;cases hn _ (ck ..)
theorem KN(zs:List Int):∀x∈an zs,x.leaf=true:=fun x hx=>by
 obtain⟨z,_,rfl⟩:=dP.1 hx;rfl
theorem CD{b n:Nat}{zs zs':List Int}(h:bA F w ((b,an zs)::σ))(hl:zs'.length=zs.length)(os:Array Obj):
  bJ F w F (Go.Sort.grow (Go.Sort.putRow (Value.int .i64) (Go.Sort.ahead w n) b 0 zs'.toArray) os)∧bA F (Go.Sort.grow (Go.Sort.putRow (Value.int .i64) (Go.Sort.ahead w n) b 0 zs'.toArray) os) ((b,an zs')::σ):=by
 obtain⟨hF,c,T,hc,hle,mm⟩:=(h.holds _ (ck ..)).GM (KN zs)
 have hle:(an zs).length≤c.size:=hle
 rw[jy]at hle
 have hc:w.heap[b]?=some (.cells c T (0,0)):=hc
 have xd:∀k,k<zs'.length→(Go.Sort.putCells (Value.int .i64) 0 zs'.toArray c).getD k undef=Value.int .i64 (zs'.getD k 0):=fun k hk=>by
  have Ey:k<c.size:=by omega
  unfold Go.Sort.putCells
  rw[jL,Array.getElem?_mapIdx,xK Ey]
  simp only[Option.map_some,Option.getD_some]
  rw[if_pos ⟨Nat.zero_le _,by simpa using hk⟩,Nat.sub_zero,List.getD_eq_getElem?_getD,List.getElem?_eq_getElem hk]
  simp[hk]
 have key:=B6 (F:=F) (w:=w) (w':=Go.Sort.putRow (Value.int .i64) (Go.Sort.ahead w n) b 0 zs'.toArray) h (j:=0) (b:=b) (cs:=an zs) (cs':=an zs') rfl hc (c':=Go.Sort.putCells (Value.int .i64) 0 zs'.toArray c) (by simp[Go.Sort.putCells]) (by rw[jy];simp[Go.Sort.putCells];omega)
  (fun i x hx=>by
   obtain⟨h2,rfl⟩:=acC zs' hx
   refine⟨rfl,?_⟩
   rw[xd i h2,bg,bF h2]
   exact .int _ _)
  (fun k hk=>by
   show (w.heap.modify b _)[k]?=_
   rw[Array.getElem?_modify,ag (fun e=>hk e.symm)])
  (by
   show (w.heap.modify b _)[b]?=_
   rw[Array.getElem?_modify,ah rfl,hc];rfl)
  rfl rfl rfl (by simp[Go.Sort.ahead])
 obtain⟨k1,k2⟩:=key
 obtain⟨g1,g2⟩:=aay k2 os
 exact⟨k1.trans g1,g2⟩
theorem Gq{b:Nat}{zs:List Int}(h:bA F w ((b,an zs)::σ)):Go.Sort.Holds (Value.int .i64) w b 0 zs.toArray∧b<w.heap.size:=by
 obtain⟨hF,c,T,hc,hle,mm⟩:=(h.holds _ (ck ..)).GM (KN zs)
 have hc:w.heap[b]?=some (.cells c T (0,0)):=hc
 have hle:(an zs).length≤c.size:=hle
 rw[jy]at hle
 refine⟨fun j hj=>?_,(E8.1 hc).1⟩
 have hj:j<zs.length:=by simpa using hj
 have hr:=(mm j _ (acG zs hj)).2.gh
 rw[ef]
 constructor
 ·rw[Ls hc,xK (by omega)]
  rw[jL,xK (by omega)]at hr
  simp only[Option.getD_some]at hr
  rw[hr]
  simp[hj]
 ·unfold World.frozen?
  simp[hc]
end
theorem WY(l:List Int):(Go.Lib.compact l).length≤l.length:=by
 unfold Go.Lib.compact Go.Lib.compactUpTo
 rw[cm]
 exact Nat.le_trans (List.length_filter_le _ _) (by simp)
def fG(zs:List Int):List Int:=zs.mergeSort fun x y=>decide (x≤y)
theorem zG(zs:List Int):(fG zs).length=zs.length:=List.length_mergeSort ..
theorem Ll:∀{l m:List Int},l.Pairwise (· < ·)→m.Pairwise (· < ·)→(∀x,x∈l↔x∈m)→l=m
 | [],[],_,_,_=>rfl
 | [],y::m,_,_,h=>absurd ((h y).2 (ck ..)) Bx
 |x::l,[],_,_,h=>absurd ((h x).1 (ck ..)) Bx
 |x::l,y::m,hl,hm,h=>by
  have h1:=BC.1 hl
  have h2:=BC.1 hm
  have aQ:x=y:=by
   have a:=(h x).1 (ck ..)
   have b:=(h y).2 (ck ..)
   rcases eF.1 a with a | a
   ·exact a
   ·rcases eF.1 b with b | b
    ·exact b.symm
    ·have:=h1.1 y b;have:=h2.1 x a;omega
  subst aQ
  refine congrArg (x :: ·) (Ll h1.2 h2.2 fun z=>⟨fun hz=>?_,fun hz=>?_⟩)
  ·rcases eF.1 ((h z).1 (cW _ hz)) with e | e
   ·subst e;have:=h1.1 z hz;omega
   ·exact e
  ·rcases eF.1 ((h z).2 (cW _ hz)) with e | e
   ·subst e;have:=h2.1 z hz;omega
   ·exact e
theorem OZ(zs:List Int):(fG zs).Pairwise (·≤·):=by
 have:=List.pairwise_mergeSort (le:=fun x y:Int=>decide (x≤y)) (fun a b c h1 h2=>by simp at *;omega) (fun a b=>by simp;omega) zs
 exact this.imp fun h=>by simpa using h
theorem Qt(zs:List Int)(x:Int):x∈fG zs↔x∈zs:=List.mem_mergeSort
theorem PE{l:List Int}(h:l.Pairwise (·≤·)){i j:Nat}(ml:i≤j)(hj:j<l.length):l[i]'(by omega)≤l[j]:=by
 by_cases e:i=j
 ·subst e;exact kq _
 ·exact On.1 h i j (by omega) hj (by omega)
def yG(zs:List Int):List Int:=Go.Lib.compact (fG zs)
theorem W2{l:List Int}(h:l.Pairwise (·≤·)):(Go.Lib.compact l).Pairwise (· < ·):=by
 unfold Go.Lib.compact Go.Lib.compactUpTo
 rw[BA]
 have hr:((List.range l.length).filter (Go.Lib.keeps l.toArray)).Pairwise fun i j=>i<j∧j<l.length∧Go.Lib.keeps l.toArray j=true:=by
  have h1:(List.range l.length).Pairwise fun i j=>i<j∧j<l.length:=by
   rw[On]
   intro i j hi hj ml
   simp only[Od]
   exact⟨ml,by simpa using hj⟩
  rw[List.pairwise_filter]
  exact h1.imp fun ml _ hk=>⟨ml.1,ml.2,hk⟩
 refine hr.imp fun {i j} ⟨h1,h2,h3⟩=>?_
 have hk:l.toArray[j]!≠l.toArray[j-1]!:=by
  unfold Go.Lib.keeps at h3
  simp only[decide_eq_true_eq]at h3
  rcases h3 with h3 | h3
  ·omega
  ·exact h3
 have e1:l.toArray[j]! = l[j]:=by simp[h2]
 have e2:l.toArray[j-1]! = l[j-1]'(by omega):=by simp[show j-1<l.length by omega]
 have e3:l.toArray[i]! = l[i]'(by omega):=by simp[show i<l.length by omega]
 rw[e1,e2]at hk
 rw[e1,e3]
 have q1:=PE h (i:=i) (j:=j-1) (by omega) (by omega)
 have q2:=PE h (i:=j-1) (j:=j) (by omega) h2
 omega
theorem Po{l:List Int}(x:Int):x∈Go.Lib.compact l↔x∈l:=by
 unfold Go.Lib.compact Go.Lib.compactUpTo
 constructor
 ·intro hx
  obtain⟨j,hj,rfl⟩:=dP.1 hx
  have hj:=gm.1 (nQ.1 hj).1
  have e1:l.toArray[j]! = l[j]:=by simp[hj]
  rw[e1];exact cj hj
 ·intro hx
  have hex:∃j,∃h:j<l.length,l[j]=x:=by
   obtain⟨j,hj,e⟩:=xI.1 hx
   exact⟨j,hj,e⟩
  obtain⟨j,⟨hj,e⟩,jE⟩:∃j,(∃h:j<l.length,l[j]=x)∧∀k,k<j→¬∃h:k<l.length,l[k]=x:=by
   obtain⟨j,hj⟩:=hex
   induction j using Nat.strongRecOn with
   |ind j ih=>
    by_cases hk:∃k,k<j∧∃h:k<l.length,l[k]=x
    ·obtain⟨k,h1,h2⟩:=hk
     exact ih k h1 h2
    ·exact⟨j,hj,fun k h1 h2=>hk ⟨k,h1,h2⟩⟩
  refine List.mem_map.2 ⟨j,List.mem_filter.2 ⟨List.mem_range.2 hj,?_⟩,by simp[hj,e]⟩
  unfold Go.Lib.keeps
  rw[decide_eq_true_eq]
  by_cases h0:j=0
  ·exact .inl h0
  ·refine .inr fun h=>jE (j-1) (by omega) ⟨by omega,?_⟩
   have e1:l.toArray[j]! = l[j]:=by simp[hj]
   have e2:l.toArray[j-1]! = l[j-1]'(by omega):=by simp[show j-1<l.length by omega]
   rw[e1,e2]at h
   rw[← h];exact e
theorem aaS{zs:List Int}{n:Nat}(h:∀z∈zs,0≤z∧z<n):yG zs=((List.range n).map fun i:Nat=>(i:Int)).filter fun b=>decide (b∈zs):=by
 refine Ll (W2 (OZ zs)) ?_ fun x=>?_
 ·refine List.Pairwise.filter _ ?_
  rw[BA,On]
  intro i j hi hj ml
  simp only[Od]
  omega
 ·unfold yG
  rw[Po,Qt,nQ,decide_eq_true_eq]
  refine⟨fun hx=>⟨?_,hx⟩,fun hx=>hx.2⟩
  have:=h x hx
  exact dP.2 ⟨x.toNat,gm.2 (by omega),by omega⟩
theorem Pk:Enters Tryz.prog 312:=enters_of Tryz.func312 (by kernel_rfl)
theorem Pm:Enters Tryz.prog 313:=enters_of Tryz.func313 (by kernel_rfl)
theorem GK{vs:Array Value}(h:1=vs.size):∃v,vs = #[v]:=by
 refine⟨vs.getD 0 undef,Array.ext ?_ fun i h2 h3=>?_⟩
 ·simp[← h]
 ·have:i=0:=by omega
  subst this
  simp[Array.getD,h2]
theorem K0{F:Nat→Prop}{w:World}:aA F w (.tup []) (.tuple #[]):=.tup [] #[] rfl fun i x h=>by simp at h
theorem aep(σ:Hp):ACalls Tryz.prog 312 [.aj] σ (aE (.tup []) σ):=by
 refine⟨Pk,fun F w vs bS aF =>?_⟩
 obtain⟨v,rfl⟩:=GK bS.1
 have hv:aA F w .aj v:=bS.2 0 _ rfl
 cases hv
 have h:Calls Tryz.prog 312 #[.slice none 0 0] w fun e w'=>e=.returned (.tuple #[])∧w'=w:=Any.slices_Sort_int_none Lh none 0 w
 refine h.mono ?_
 rintro e w' ⟨rfl,rfl⟩
 exact⟨.tup [],.tuple #[],σ,F,rfl,.refl _ _,aF,K0,rfl,rfl⟩
theorem LP(b:Nat)(zs:List Int)(n:Nat)(σ:Hp)(hz:zs.length=n)(hl:n≤1000000):ACalls Tryz.prog 312 [.ae b 0 n 1] ((b,an zs)::σ) (aE (.tup []) ((b,an (fG zs))::σ)):=by
 subst hz
 refine⟨Pk,fun F w vs bS aF =>?_⟩
 obtain⟨v,rfl⟩:=GK bS.1
 have hv:aA F w (.ae b 0 zs.length 1) v:=bS.2 0 _ rfl
 obtain⟨a,cap,rfl,c,T,fz,m1,m2,m3,m4⟩:=hv.kY
 rcases m4 with ⟨rfl,_⟩ | ⟨_,_,h0,_⟩
 ·obtain⟨h1,h2⟩:=Gq aF
  have h:Calls Tryz.prog 312 #[.slice (some ⟨b,0,none⟩) zs.length cap] w fun e w'=>e=.returned (.tuple #[])∧∃n os,w'=Go.Sort.grow (Go.Sort.putRow (Value.int .i64) (Go.Sort.ahead w n) b 0 (fG zs).toArray) os:=Any.slices_Sort_int Lh b 0 cap zs w h1 h2 (by omega)
  refine h.mono ?_
  rintro e w' ⟨rfl,n,os,rfl⟩
  obtain⟨k1,k2⟩:=CD (n:=n) aF (zG zs) os
  exact⟨.tup [],.tuple #[],_,F,rfl,k1,k2,K0,rfl,rfl⟩
 ·have hz:zs=[]:=jv.1 h0
  subst hz
  have h:Calls Tryz.prog 312 #[.slice (some a) 0 cap] w fun e w'=>e=.returned (.tuple #[])∧w'=w:=Any.slices_Sort_int_none Lh (some a) cap w
  have he:fG []=[]:=jv.1 (zG [])
  rw[he]
  refine h.mono ?_
  rintro e w' ⟨rfl,rfl⟩
  exact⟨.tup [],.tuple #[],_,F,rfl,.refl _ _,aF,K0,rfl,rfl⟩
theorem aeK(σ:Hp):ACalls Tryz.prog 313 [.aj] σ (aE .aj σ):=by
 refine⟨Pm,fun F w vs bS aF =>?_⟩
 obtain⟨v,rfl⟩:=GK bS.1
 have hv:aA F w .aj v:=bS.2 0 _ rfl
 cases hv
 have h:Calls Tryz.prog 313 #[.slice none 0 0] w fun e w'=>e=.returned (.slice none 0 0)∧w'=w:=Any.slices_Compact_int_empty Lg none 0 w
 refine h.mono ?_
 rintro e w' ⟨rfl,rfl⟩
 exact⟨.aj,_,σ,F,rfl,.refl _ _,aF,.aj,rfl,rfl⟩
theorem aeL(b:Nat)(zs:List Int)(n:Nat)(σ:Hp)(hz:zs.length=n)(hl:n≤1000000):ACalls Tryz.prog 313 [.ae b 0 n 1] ((b,an zs)::σ) (aE (.ae b 0 (Go.Lib.compact zs).length 1) ((b,an (Go.Lib.compact zs++List.replicate (n-(Go.Lib.compact zs).length) 0))::σ)):=by
 subst hz
 have hle:=WY zs
 refine⟨Pm,fun F w vs bS aF =>?_⟩
 obtain⟨v,rfl⟩:=GK bS.1
 have hv:aA F w (.ae b 0 zs.length 1) v:=bS.2 0 _ rfl
 obtain⟨a,cap,rfl,c,T,fz,m1,m2,m3,m4⟩:=hv.kY
 rcases m4 with ⟨rfl,m5⟩ | ⟨m5,m6,h0,m7⟩
 ·obtain⟨h1,h2⟩:=Gq aF
  have h:Calls Tryz.prog 313 #[.slice (some ⟨b,0,none⟩) zs.length cap] w fun e w'=>e=.returned (.slice (some ⟨b,0,none⟩) (Go.Lib.compact zs).length cap)∧∃q,w'=Go.Sort.putRow (Value.int .i64) (Go.Sort.ahead w q) b 0 (Go.Lib.compact zs++List.replicate (zs.length-(Go.Lib.compact zs).length) 0).toArray:=Any.slices_Compact_int Lg b 0 cap zs w h1 (by omega) m2
  refine h.mono ?_
  rintro e w' ⟨rfl,q,rfl⟩
  obtain⟨k1,k2⟩:=CD (n:=q) (zs':=Go.Lib.compact zs++List.replicate (zs.length-(Go.Lib.compact zs).length) 0) aF (by rw[bP,fZ];omega) #[]
  have hg:∀W:World,Go.Sort.grow W #[]=W:=fun W=>by unfold Go.Sort.grow;rw[Array.append_empty]
  rw[hg]at k1 k2
  obtain⟨c',pP,ju,dN⟩:=k1.rows b c T fz m1
  exact⟨.ae b 0 _ 1,_,_,F,rfl,k1,k2,.ae _ _ _ _ _ _ ⟨c',T,pP,ju,by omega,m3,.inl ⟨rfl,by omega⟩⟩,rfl,rfl⟩
 ·have hz:zs=[]:=jv.1 h0
  subst hz
  have h:Calls Tryz.prog 313 #[.slice (some a) 0 cap] w fun e w'=>e=.returned (.slice (some a) 0 cap)∧w'=w:=Any.slices_Compact_int_empty Lg (some a) cap w
  refine h.mono ?_
  rintro e w' ⟨rfl,rfl⟩
  exact⟨.ae b 0 0 1,_,_,F,rfl,.refl _ _,aF,hv,rfl,rfl⟩
theorem Y9:yG []=[]:=JA.2 fun x h=>by
 unfold yG at h
 rw[Po,Qt]at h
 cases h
def jB(n:Int)(l:List bE)(a:Int):List Int:=(l.filter fun e=>decide (e.1=a)&&dH n a&&dH n e.2.1).map fun e=>e.2.1
def ar(n:Int)(l:List bE)(a:Int):List Int:=((List.range n.toNat).map fun i:Nat=>(i:Int)).filter fun b=>decide (b∈jB n l a)
theorem YJ(n:Int)(l:List bE)(a:Int):(jB n l a).length≤l.length:=by unfold jB;rw[cm];exact Fa _ _
theorem YI{n:Int}{l:List bE}{a z:Int}(h:z∈jB n l a):0≤z∧z<n:=by
 unfold jB at h
 obtain⟨e,he,rfl⟩:=dP.1 h
 have h4:=(nQ.1 he).2
 simp only[bR,decide_eq_true_eq,kP]at h4
 exact h4.2
theorem Xw(n:Int)(l:List bE)(a:Int){k:Nat}(h:k<l.length):jB n (l.take (k+1)) a=jB n (l.take k) a++(if (decide (l[k].1=a)&&dH n a&&dH n l[k].2.1)=true then [l[k].2.1] else []):=by
 unfold jB
 rw[fL h,BG,cO]
 congr 1
 by_cases hc:(decide (l[k].1=a)&&dH n a&&dH n l[k].2.1)=true
 ·rw[ah hc];have e:=List.filter_cons_of_pos (p:=fun e:bE=>decide (e.1=a)&&dH n a&&dH n e.2.1) (a:=l[k]) (l:=[]) hc;rw[e];rfl
 ·rw[ag hc];have e:=gr8 (p:=fun e:bE=>decide (e.1=a)&&dH n a&&dH n e.2.1) (a:=l[k]) (l:=[]) hc;rw[e];rfl
theorem ZQ(n:Int)(l:List bE)(a:Int):yG (jB n l a)=ar n l a:=by
 unfold ar
 exact aaS fun z hz=>by have:=YI hz;omega
theorem AL(n:Int)(l:List bE)(a:Int)(σ:Hp)(hl:l.length≤100000):ACalls Tryz.prog 289 [.int .i64 n,.af dB l,.int .i64 a] σ (aE (.af (.int .i64) (ar n l a)) σ):=by
 refine az Tryz.func289 ?_
 refine .wrap 7 _ rfl rfl ?_
 refine cc (S:=Nat×AV×Hp) (fun s=>[(0,.int .i64 n),(2,.int .i64 a),(7,.via s.2.1),(10,.af dB l),(11,.int .i64 l.length),(12,.int .i64 s.1)]) (fun s=>s.2.2++σ) (fun s=>s.1≤l.length∧Acc 1 (jB n (l.take s.1) a).length s.2.1 s.2.2 (an (jB n (l.take s.1) a))) (fun s=>l.length-s.1) (0,.aj,[]) ⟨⟨bD _,.nil⟩,⟨rfl,rfl,rfl,rfl,rfl,rfl,trivial⟩,rfl⟩ ?_
 rintro⟨k,v,acc⟩ g ⟨aP,gT⟩
 have hk:k≤l.length:=aP
 have b9:Acc 1 (jB n (l.take k) a).length v acc (an (jB n (l.take k) a)):=gT
 clear aP gT
 have oK:(jB n (l.take k) a).length≤k:=by have:=YJ n (l.take k) a;rw[zq]at this;omega
 refine aq (fun ab=>?_) (fun au=>?_)
 ·have ab:k<l.length:=by have ab:(k:Int)<l.length:=ab;omega
  have hs:=Xw n l a ab
  obtain⟨d,hd⟩:∃d:bE,l[k]=d:=⟨_,rfl⟩
  rw[hd]at hs
  refine aI.mk rfl (bL.mk d (by omega) ((get_some ab).trans (congrArg some hd)) ?_)
  intro aG
  refine ai 0 ?_
  refine aa 0 ?_
  refine aq (p:=d.1=a) (fun c1=>?_) (fun c1=>?_)
  ·refine eK [] (HL n a _) (fun c2=>?_) (fun c2=>?_)
   ·refine aa 0 ?_
    refine eK [] (HL n d.2.1 _) (fun c3=>?_) (fun c3=>?_)
    ·rw[bu c1,c2,c3,ah (show (true&&true&&true)=true from rfl)]at hs
     refine aa 0 ?_
     intro dw
     refine ic [_,_] b9 (.ae 0 dw 0 1 _ rfl (cD rfl)) rfl (by omega) (by decide) (by decide) (fun v' aU h'=>?_)
     refine bj (k+1,v',aU) (by show l.length-(k+1)<l.length-k;omega) ⟨ab,?_⟩ ⟨rfl,rfl,rfl,rfl,rfl,aY (by omega),trivial⟩ (.drop 0 2 (aJ rfl))
     show Acc 1 (jB n (l.take (k+1)) a).length v' aU (an (jB n (l.take (k+1)) a))
     rw[hs,bP,an,cO]
     exact h'
    ·rw[c3,I6,ag (by decide),mU]at hs
     refine bj (k+1,v,acc) (by show l.length-(k+1)<l.length-k;omega) ⟨ab,by show Acc 1 (jB n (l.take (k+1)) a).length v acc (an (jB n (l.take (k+1)) a));rw[hs];exact b9⟩ ⟨rfl,rfl,rfl,rfl,rfl,aY (by omega),trivial⟩ (.drop 0 1 (aJ rfl))
   ·rw[c2,I6,I7,ag (by decide),mU]at hs
    refine bj (k+1,v,acc) (by show l.length-(k+1)<l.length-k;omega) ⟨ab,by show Acc 1 (jB n (l.take (k+1)) a).length v acc (an (jB n (l.take (k+1)) a));rw[hs];exact b9⟩ ⟨rfl,rfl,rfl,rfl,rfl,aY (by omega),trivial⟩ (.drop 0 1 (aJ rfl))
  ·rw[bZ c1,I7,I7,ag (by decide),mU]at hs
   refine bj (k+1,v,acc) (by show l.length-(k+1)<l.length-k;omega) ⟨ab,by show Acc 1 (jB n (l.take (k+1)) a).length v acc (an (jB n (l.take (k+1)) a));rw[hs];exact b9⟩ ⟨rfl,rfl,rfl,rfl,rfl,aY (by omega),trivial⟩ (.drop 0 1 (aJ rfl))
 ·have au:k=l.length:=by have au:¬(k:Int)<l.length:=au;omega
  subst au
  rw[gn]at b9 oK
  have Mh:=ZQ n l a
  generalize jB n l a=zs at b9 oK Mh
  generalize hC:an zs=C at b9
  generalize hm:zs.length=m at b9
  cases b9 with
  |nil=>
   have hz:zs=[]:=jv.1 hm
   subst hz
   refine ay [] (aep _) ?_
   refine ay [] (aeK _) ?_
   exact .nil (.nil (.int .i64)) (.done ⟨by rw[← Mh,Y9];rfl,rfl⟩)
  |ae b m cs h=>
   subst hC
   refine ay [] (LP b zs m σ hm (by omega)) ?_
   refine ay [] (aeL b (fG zs) m σ ((zG zs).trans hm) (by omega)) ?_
   refine .cJ 0 b 0 _ 1 _ (.int .i64) (yG zs) rfl ?_ ⟨rfl,rfl,by decide⟩ .here (.done ⟨by rw[Mh],rfl⟩)
   rw[gM,← ui]
   unfold yG an
   rw[cO,dO,Jz (by rw[cm];exact a8 _)]
   exact eG (by rw[cm];exact a8 _)
def jn(a b:Int):Int:=if a=b∨b=0 then a else if a=0 then b else 1
theorem wE{a b:Int}(ha:aK a=a)(hb:aK b=b):kx a b=jn a b:=by unfold kx jn;rw[ha,hb]
theorem GQ(a b:Int):jn a b=jn b a:=by
 unfold jn
 by_cases h1:a=b
 ·subst h1;rfl
 ·by_cases h2:a=0
  ·by_cases h3:b=0
   ·omega
   ·rw[ag (by omega),ah h2,ah (by omega)]
  ·by_cases h3:b=0
   ·rw[ah (by omega),ag (by omega),ah h3]
   ·rw[ag (by omega),ag h2,ag (by omega),ag h3]
theorem GP(a:Int):jn a 0=a:=by unfold jn;rw[ah (.inr rfl)]
theorem Cx(a:Int):jn 0 a=a:=by rw[GQ,GP]
theorem Ac(a:Int):jn a a=a:=by unfold jn;rw[ah (.inl rfl)]
theorem Dc{a b:Int}(h:a≠b)(ha:a≠0)(hb:b≠0):jn a b=1:=by unfold jn;rw[ag (by omega),ag ha]
theorem LI(a:Int):jn a 1=1:=by
 by_cases h:a=1
 ·rw[h,Ac]
 ·by_cases h0:a=0
  ·rw[h0,Cx]
  ·exact Dc h h0 (by decide)
theorem R3(a b c:Int):jn (jn a b) c=jn a (jn b c):=by
 by_cases ha:a=0
 ·rw[ha,Cx,Cx]
 by_cases hb:b=0
 ·rw[hb,GP,Cx]
 by_cases hc:c=0
 ·rw[hc,GP,GP]
 by_cases h1:a=b
 ·subst h1
  by_cases h2:a=c
  ·subst h2;rw[Ac]
  ·rw[Ac,Dc h2 ha hc,LI]
 ·rw[Dc h1 ha hb,GQ 1 c,LI]
  by_cases h2:b=c
  ·subst h2;rw[Ac,Dc h1 ha hb]
  ·rw[Dc h2 hb hc,LI]
theorem uf{a b:List Int}(ha:okW a=true)(hb:okW b=true){i:Nat}(h:i<a.length)(h2:i<b.length):wd (dr 3 a b) i=jn (wd a i) (wd b i):=by
 rw[yg h h2,qW,wE (wM ha h) (wM hb h2)]
theorem ue{what w:Int}{a b:List Int}(va:cY what w a=true)(vb:cY what w b=true):a.length=b.length:=by have h1:=wH va;have h2:=wH vb;omega
theorem aa9(what:Int)(x y:Bool):jr what x y=jr what y x:=by unfold jr;split <;> cases x <;> cases y <;> rfl
theorem YA(what:Int)(x y z:Bool):jr what (jr what x y) z=jr what x (jr what y z):=by unfold jr;split <;> cases x <;> cases y <;> cases z <;> rfl
structure eu(what w:Int)(a:List Int):Prop where
 v:cY what w a=true
 cy:bc a
theorem eu.join{what w:Int}{a b:List Int}(ha:eu what w a)(hb:eu what w b):eu what w (dr what a b):=⟨KL ha.cy hb.cy ha.v hb.v,wN ha.cy hb.cy⟩
theorem Cq{what w:Int}{x y:List Int}(hx:eu what w x)(hy:eu what w y)(h3:what=3→∀i,i<x.length→wd x i=wd y i)(hs:what=1∨what=2→∀i k,i<x.length→k<64→dW x i k=dW y i k):x=y:=by
 have hl:=ue hx.v hy.v
 by_cases h:what=3
 ·exact yj hl (h3 h)
 ·exact GD hx.cy hy.cy hl (hs (Hc (mC hx.v) h))
theorem join_comm{what w:Int}{a b:List Int}(ha:eu what w a)(hb:eu what w b):dr what a b=dr what b a:=by
 have hl:=ue ha.v hb.v
 refine Cq (ha.join hb) (hb.join ha) (fun h3 i hi=>?_) (fun hs i k hi _=>?_)
 ·subst h3
  rw[iZ hl]at hi
  have va:=((jO (mC ha.v) rfl).1 ha.v).2
  have vb:=((jO (mC hb.v) rfl).1 hb.v).2
  rw[uf va vb hi (by omega),uf vb va (by omega) hi,GQ]
 ·rw[iZ hl]at hi
  rw[oZ hs ha.cy hb.cy hl i k hi,oZ hs hb.cy ha.cy hl.symm i k (by omega),aa9]
theorem join_assoc{what w:Int}{a b c:List Int}(ha:eu what w a)(hb:eu what w b)(hc:eu what w c):dr what (dr what a b) c=dr what a (dr what b c):=by
 have hl:=ue ha.v hb.v
 have gE:=ue hb.v hc.v
 have l1:=iZ (what:=what) hl
 have l2:=iZ (what:=what) gE
 refine Cq ((ha.join hb).join hc) (ha.join (hb.join hc)) (fun h3 i hi=>?_) (fun hs i k hi _=>?_)
 ·subst h3
  rw[iZ (by omega),l1]at hi
  have o:∀{x:List Int},eu 3 w x→okW x=true:=fun h=>((jO (mC h.v) rfl).1 h.v).2
  rw[uf (o (ha.join hb)) (o hc) (by omega) (by omega),uf (o ha) (o hb) (by omega) (by omega),uf (o ha) (o (hb.join hc)) (by omega) (by omega),uf (o hb) (o hc) (by omega) (by omega),R3]
 ·rw[iZ (by omega),l1]at hi
  rw[oZ hs (ha.join hb).cy hc.cy (by omega) i k (by omega),oZ hs ha.cy hb.cy hl i k (by omega),oZ hs ha.cy (hb.join hc).cy (by omega) i k (by omega),oZ hs hb.cy hc.cy gE i k (by omega),YA]
theorem join_self{what w:Int}{a:List Int}(ha:eu what w a):dr what a a=a:=by
 refine Cq (ha.join ha) ha (fun h3 i hi=>?_) (fun hs i k hi _=>?_)
 ·subst h3
  rw[iZ rfl]at hi
  have va:=((jO (mC ha.v) rfl).1 ha.v).2
  rw[uf va va hi hi,Ac]
 ·rw[iZ rfl]at hi
  rw[oZ hs ha.cy ha.cy rfl i k hi,(LF _ (dW a i k) (dW a i k)).2.2]
def dz(what w:Int)(a b:List Int):Prop:=eu what w a∧eu what w b∧dr what a b=b
theorem dz.refl{what w:Int}{a:List Int}(h:eu what w a):dz what w a a:=⟨h,h,join_self h⟩
theorem dz.trans{what w:Int}{a b c:List Int}(h1:dz what w a b)(h2:dz what w b c):dz what w a c:=by
 refine⟨h1.1,h2.2.1,?_⟩
 have:=join_assoc h1.1 h1.2.1 h2.2.1
 rw[h1.2.2,h2.2.2]at this
 exact this.symm
theorem dz.ags{what w:Int}{a b:List Int}(h1:dz what w a b)(h2:dz what w b a):a=b:=by
 rw[← h2.2.2,join_comm h2.1 h1.1];exact h1.2.2
theorem dz.left{what w:Int}{a b:List Int}(ha:eu what w a)(hb:eu what w b):dz what w a (dr what a b):=by
 refine⟨ha,ha.join hb,?_⟩
 rw[← join_assoc ha ha hb,join_self ha]
theorem dz.right{what w:Int}{a b:List Int}(ha:eu what w a)(hb:eu what w b):dz what w b (dr what a b):=by
 rw[join_comm ha hb];exact dz.left hb ha
theorem dz.join{what w:Int}{a b c:List Int}(h1:dz what w a c)(h2:dz what w b c):dz what w (dr what a b) c:=by
 refine⟨h1.1.join h2.1,h1.2.1,?_⟩
 rw[join_assoc h1.1 h2.1 h1.2.1,h2.2.2,h1.2.2]
theorem dz.mono{what w:Int}{a b c d:List Int}(h1:dz what w a c)(h2:dz what w b d):dz what w (dr what a b) (dr what c d):=
 dz.join (h1.trans (dz.left h1.2.1 h2.2.1)) (h2.trans (dz.right h1.2.1 h2.2.1))
theorem aaZ{what w:Int}{a b:List Int}(ha:bc a)(hb:bc b):yr what w a b=true↔dz what w a b:=by
 rw[Zo]
 exact⟨fun h=>⟨⟨h.1,ha⟩,⟨h.2.1,hb⟩,h.2.2⟩,fun h=>⟨h.1.v,h.2.1.v,h.2.2⟩⟩
theorem bot_le{what w:Int}{a:List Int}(ha:eu what w a):dz what w (gi what w) a:=by
 have hi:=mC ha.v
 have hb:eu what w (gi what w):=⟨GX hi,Hj _ _⟩
 have hl:=ue hb.v ha.v
 refine⟨hb,ha,Cq (hb.join ha) ha (fun h3 i eW=>?_) (fun hs i k eW hk=>?_)⟩
 ·subst h3
  rw[iZ hl]at eW
  have va:=((jO hi rfl).1 ha.v).2
  have vb:=((jO hi rfl).1 hb.v).2
  rw[uf vb va eW (by omega)]
  have:wd (gi 3 w) i=0:=by
   have e:gi 3 w=List.replicate (eH 3 w).toNat 0:=ag (fun h=>absurd h.1 (by decide))
   rw[e]at eW ⊢
   rw[kS _ eW,Jy]
  rw[this,Cx]
 ·rw[iZ hl]at eW
  rw[oZ hs hb.cy ha.cy hl i k eW]
  rcases hs with rfl | rfl
  ·have e:gi 1 w=List.replicate (eH 1 w).toNat 0:=ag (fun h=>absurd h.1 (by decide))
   have h0:dW (gi 1 w) i k=false:=by
    unfold dW
    rw[e]at eW ⊢
    rw[kS _ eW,Jy];exact Ge k
   rw[h0];exact pM _
  ·have e:gi 2 w=eY w:=ah ⟨rfl,hi⟩
   have fa:=(pT hi (by decide)).1 ha.v
   rw[e]at eW ⊢
   rw[mZ]at eW
   show (dW (eY w) i k&&dW a i k)=dW a i k
   by_cases hc:64*i+k<ej w
   ·have h1:dW (eY w) i k=true:=by
     unfold dW
     rw[Ct w eW,bM,Jx]
     exact bu (by omega)
    rw[h1,zn]
   ·have h2:=(qR ha.cy (nY fa)).1 fa i k (by rw[nY fa];exact eW) hk (by omega)
    rw[h2,I6]
theorem X0{what w:Int}{g k a b:List Int}{l:List de}(hg:bc g)(hk:bc k)(hc:fD what w g k l=0)(h:dz what w a b):dz what w (gd what g k l a) (gd what g k l b):=by
 have:=(aeR hg hk h.1.cy h.2.1.cy hc h.1.v h.2.1.v).1
 rw[h.2.2,aaZ (zR h.1.cy) (zR h.2.1.cy)]at this
 exact this
structure kA(s:Sy)(a:List (List Int)):Prop where
 len:(a.length:Int)=s.n
 val:∀x∈a,eu s.what s.w x
theorem abF{s:Sy}{a:List (List Int)}(h:yu s a=true)(ha:yO a):kA s a:=
 ⟨(Cl.1 h).1,fun x hx=>⟨(Cl.1 h).2 x hx,(ha.2 x hx).1⟩⟩
theorem kA.cF{s:Sy}{a:List (List Int)}(h:kA s a):yu s a=true:=Cl.2 ⟨h.len,fun x hx=>(h.val x hx).v⟩
theorem kA.ok{s:Sy}{a:List (List Int)}(hg:Good s)(h:kA s a):yO a:=by
 have h1:=h.len
 have h2:=hg.n2
 exact⟨by omega,fun x hx=>⟨(h.val x hx).cy,by have:=FQ (h.val x hx).v;omega⟩⟩
theorem kA.get{s:Sy}{a:List (List Int)}(h:kA s a){i:Nat}(hi:(i:Int)<s.n):eu s.what s.w (a.getD i []):=by
 have hl:=h.len
 have ab:i<a.length:=by omega
 rw[bg,bF ab]
 exact h.val _ (cj ab)
def mg(s:Sy)(a b:List (List Int)):Prop:=kA s a∧kA s b∧∀i:Nat,(i:Int)<s.n→dz s.what s.w (a.getD i []) (b.getD i [])
theorem KF{s:Sy}(hf:Fit s)(hg:Good s){x y:List Int}(h:dz s.what s.w x y){v:Nat}(hv:(v:Int)<s.n):dz s.what s.w (iF s x v) (iF s y v):=by
 obtain⟨h2,e⟩:=HP hg hv
 unfold iF
 rw[e]
 have ho:=hf.ts _ (cj h2)
 exact X0 ho.1 ho.2.1 (hg.D7 _ (cj h2)) h
theorem FU{s:Sy}(hf:Fit s)(hg:Good s)(v:Int):eu s.what s.w (gv s v):=⟨(Kd hf hg v).1,(Kd hf hg v).2⟩
theorem Qr{s:Sy}(hf:Fit s)(hg:Good s){a:List (List Int)}(h:kA s a)(v k:Nat)(hk:k≤s.aW.length):eu s.what s.w (jA s a k v):=
 ⟨(FT hf hg (h.ok hg) h.cF v k hk).1,(FT hf hg (h.ok hg) h.cF v k hk).2⟩
theorem B2{s:Sy}(hf:Fit s)(hg:Good s){a:List (List Int)}(h:kA s a):kA s (gH s a):=abF (PC hf hg (h.ok hg) h.cF).1 (PC hf hg (h.ok hg) h.cF).2
theorem B3(s:Sy)(a:List (List Int)){i:Nat}(h:(i:Int)<s.n):(gH s a).getD i []=jA s a s.aW.length i:=by
 unfold gH C5
 rw[bg,fo,tX (by omega)];rfl
theorem PB{s:Sy}(hf:Fit s)(hg:Good s){a b:List (List Int)}(h:mg s a b)(v:Nat):∀k,k≤s.aW.length→dz s.what s.w (jA s a k v) (jA s b k v)
 | 0,_=>dz.refl (FU hf hg v)
 |k+1,hk=>by
  have ih:=PB hf hg h v k (by omega)
  rw[xX s a (by omega),xX s b (by omega)]
  unfold uK
  have he:=hg.uX _ (cj (show k<s.aW.length by omega))
  split
  ·exact ih.mono (KF hf hg (h.2.2 _ (by omega)) (by omega))
  ·exact ih
theorem Qq{s:Sy}(hf:Fit s)(hg:Good s){a b:List (List Int)}(h:mg s a b):mg s (gH s a) (gH s b):=
 ⟨B2 hf hg h.1,B2 hf hg h.2.1,fun i hi=>by
  rw[B3 s a hi,B3 s b hi]
  exact PB hf hg h i _ (a8 _)⟩
theorem mg.trans{s:Sy}{a b c:List (List Int)}(h1:mg s a b)(h2:mg s b c):mg s a c:=⟨h1.1,h2.2.1,fun i hi=>(h1.2.2 i hi).trans (h2.2.2 i hi)⟩
def Mt(p:Prop)(σ:Hp):AV→Hp→Prop:=fun r σ'=>∃b:Bool,r=.bool b∧σ'=σ∧(b=true→p)
theorem U3{P:Program}{f:FuncId}{xs:List AV}{σ:Hp}{K:AV→Hp→Prop}(js:List Nat){p:Prop}{σ2:Hp}(h:ACalls P f xs (n9 js σ) (Mt p σ2))(k1:p→K (.bool true) σ2)(k2:K (.bool false) σ2):CallAt P f K xs σ:=
 .mk js _ h fun r σ' ⟨b,h1,h2,h3⟩=>by subst h1 h2;cases b;exact k2;exact k1 (h3 rfl)
structure LW(s:Sy):Prop where
 tl:s.T.length≤8
 el:s.aW.length≤16
 nl:s.entry.length≤10
 il:s.init.length≤20
 ts:∀t∈s.T,t.1.length≤4∧t.2.1.length≤4∧t.2.2.1.length≤6
 sz:(s.n≤7∧s.w≤10)∨256<s.n∨1024<s.w
theorem abc(s:Sy)(σ:Hp):ACalls Tryz.prog 28 [.agg (bU s)] σ (Mt (LW s) σ):=by
 refine az Tryz.func28 ?_
 intro aG
 refine aa 0 ?_
 refine aq (fun c2=>?_) (fun c2=>?_)
 ·have c2:7<s.n:=c2
  refine aa 0 ?_
  refine aq (fun c3=>?_) (fun c3=>?_)
  ·have c3:s.n≤256:=c3
   refine aa 0 ?_
   refine aq (fun c4=>?_) (fun c4=>?_)
   ·exact .drop 0 1 (.done ⟨false,rfl,rfl,fun h=>by cases h⟩)
   ·have c4:¬(s.w≤1024):=c4
    refine aa 0 ?_
    refine aq (fun c5=>?_) (fun c5=>?_)
    ·exact .drop 0 1 (.done ⟨false,rfl,rfl,fun h=>by cases h⟩)
    ·have c5:¬(8<(↑s.T.length:Int)):=c5
     refine aa 0 ?_
     refine aq (fun c6=>?_) (fun c6=>?_)
     ·exact .drop 0 1 (.done ⟨false,rfl,rfl,fun h=>by cases h⟩)
     ·have c6:¬(16<(↑s.aW.length:Int)):=c6
      refine aa 0 ?_
      refine aq (fun c7=>?_) (fun c7=>?_)
      ·exact .drop 0 1 (.done ⟨false,rfl,rfl,fun h=>by cases h⟩)
      ·have c7:¬(10<(↑s.entry.length:Int)):=c7
       refine aa 0 ?_
       refine aq (fun c8=>?_) (fun c8=>?_)
       ·exact .drop 0 1 (.done ⟨false,rfl,rfl,fun h=>by cases h⟩)
       ·have c8:¬(20<(↑s.init.length:Int)):=c8
        refine aa 0 ?_
        refine cc (S:=Nat) (fun k=>[(48,.af kR s.T),(49,.int .i64 s.T.length),(50,.int .i64 k)]) (fun _=>(aG,bU s)::σ) (fun k=>k≤s.T.length∧∀t∈s.T.take k,t.1.length≤4∧t.2.1.length≤4∧t.2.2.1.length≤6) (fun k=>s.T.length-k) 0 ⟨⟨bD _,fun t h=>by cases h⟩,⟨rfl,rfl,rfl,trivial⟩,rfl⟩ ?_
        rintro k g ⟨aP,lu⟩
        have hk:k≤s.T.length:=aP
        have ht:∀t∈s.T.take k,t.1.length≤4∧t.2.1.length≤4∧t.2.2.1.length≤6:=lu
        clear aP lu
        refine aq (fun ab=>?_) (fun au=>?_)
        ·have ab:k<s.T.length:=by have ab:(k:Int)<s.T.length:=ab;omega
         have iu:s.T.take (k+1)=s.T.take k++[s.T[k]]:=fL ab
         obtain⟨t,fK⟩:∃t:mw,s.T[k]=t:=⟨_,rfl⟩
         rw[fK]at iu
         refine aI.mk rfl (bL.mk t (by omega) ((get_some ab).trans (congrArg some fK)) ?_)
         intro dw
         refine ai 0 ?_
         refine aa 0 ?_
         refine aq (p:=4<(t.1.length:Int)) (fun d1=>?_) (fun d1=>?_)
         ·exact .drop 0 2 (.done ⟨false,rfl,rfl,fun h=>by cases h⟩)
         ·refine aa 0 ?_
          refine aq (p:=4<(t.2.1.length:Int)) (fun d2=>?_) (fun d2=>?_)
          ·exact .drop 0 2 (.done ⟨false,rfl,rfl,fun h=>by cases h⟩)
          ·refine aa 0 ?_
           refine aq (p:=6<(t.2.2.1.length:Int)) (fun d3=>?_) (fun d3=>?_)
           ·exact .drop 0 2 (.done ⟨false,rfl,rfl,fun h=>by cases h⟩)
           ·refine bj (k+1) (by show s.T.length-(k+1)<s.T.length-k;omega) ⟨ab,fun u hu=>?_⟩ ⟨rfl,rfl,aY (by omega),trivial⟩ (.drop 0 1 (.refl _))
            rw[iu]at hu
            rcases bV.1 hu with hu | hu
            ·exact ht u hu
            ·rw[bB.1 hu];omega
        ·have au:k=s.T.length:=by have au:¬(k:Int)<s.T.length:=au;omega
         subst au
         rw[gn]at ht
         exact .drop 0 1 (.done ⟨true,rfl,rfl,fun _=>⟨by omega,by omega,by omega,by omega,ht,by omega⟩⟩)
  ·have c3:¬(s.n≤256):=c3
   refine aa 0 ?_
   refine aq (fun c9=>?_) (fun c9=>?_)
   ·exact .drop 0 1 (.done ⟨false,rfl,rfl,fun h=>by cases h⟩)
   ·have c9:¬(8<(↑s.T.length:Int)):=c9
    refine aa 0 ?_
    refine aq (fun j0=>?_) (fun j0=>?_)
    ·exact .drop 0 1 (.done ⟨false,rfl,rfl,fun h=>by cases h⟩)
    ·have j0:¬(16<(↑s.aW.length:Int)):=j0
     refine aa 0 ?_
     refine aq (fun OO=>?_) (fun OO=>?_)
     ·exact .drop 0 1 (.done ⟨false,rfl,rfl,fun h=>by cases h⟩)
     ·have OO:¬(10<(↑s.entry.length:Int)):=OO
      refine aa 0 ?_
      refine aq (fun vW=>?_) (fun vW=>?_)
      ·exact .drop 0 1 (.done ⟨false,rfl,rfl,fun h=>by cases h⟩)
      ·have vW:¬(20<(↑s.init.length:Int)):=vW
       refine aa 0 ?_
       refine cc (S:=Nat) (fun k=>[(48,.af kR s.T),(49,.int .i64 s.T.length),(50,.int .i64 k)]) (fun _=>(aG,bU s)::σ) (fun k=>k≤s.T.length∧∀t∈s.T.take k,t.1.length≤4∧t.2.1.length≤4∧t.2.2.1.length≤6) (fun k=>s.T.length-k) 0 ⟨⟨bD _,fun t h=>by cases h⟩,⟨rfl,rfl,rfl,trivial⟩,rfl⟩ ?_
       rintro k g ⟨aP,lu⟩
       have hk:k≤s.T.length:=aP
       have ht:∀t∈s.T.take k,t.1.length≤4∧t.2.1.length≤4∧t.2.2.1.length≤6:=lu
       clear aP lu
       refine aq (fun ab=>?_) (fun au=>?_)
       ·have ab:k<s.T.length:=by have ab:(k:Int)<s.T.length:=ab;omega
        have iu:s.T.take (k+1)=s.T.take k++[s.T[k]]:=fL ab
        obtain⟨t,fK⟩:∃t:mw,s.T[k]=t:=⟨_,rfl⟩
        rw[fK]at iu
        refine aI.mk rfl (bL.mk t (by omega) ((get_some ab).trans (congrArg some fK)) ?_)
        intro dw
        refine ai 0 ?_
        refine aa 0 ?_
        refine aq (p:=4<(t.1.length:Int)) (fun d1=>?_) (fun d1=>?_)
        ·exact .drop 0 2 (.done ⟨false,rfl,rfl,fun h=>by cases h⟩)
        ·refine aa 0 ?_
         refine aq (p:=4<(t.2.1.length:Int)) (fun d2=>?_) (fun d2=>?_)
         ·exact .drop 0 2 (.done ⟨false,rfl,rfl,fun h=>by cases h⟩)
         ·refine aa 0 ?_
          refine aq (p:=6<(t.2.2.1.length:Int)) (fun d3=>?_) (fun d3=>?_)
          ·exact .drop 0 2 (.done ⟨false,rfl,rfl,fun h=>by cases h⟩)
          ·refine bj (k+1) (by show s.T.length-(k+1)<s.T.length-k;omega) ⟨ab,fun u hu=>?_⟩ ⟨rfl,rfl,aY (by omega),trivial⟩ (.drop 0 1 (.refl _))
           rw[iu]at hu
           rcases bV.1 hu with hu | hu
           ·exact ht u hu
           ·rw[bB.1 hu];omega
       ·have au:k=s.T.length:=by have au:¬(k:Int)<s.T.length:=au;omega
        subst au
        rw[gn]at ht
        exact .drop 0 1 (.done ⟨true,rfl,rfl,fun _=>⟨by omega,by omega,by omega,by omega,ht,by omega⟩⟩)
 ·have c2:¬(7<s.n):=c2
  refine aa 0 ?_
  refine aq (fun Fh=>?_) (fun Fh=>?_)
  ·have Fh:10<s.w:=Fh
   refine aa 0 ?_
   refine aq (fun sM=>?_) (fun sM=>?_)
   ·have sM:s.n≤256:=sM
    refine aa 0 ?_
    refine aq (fun ON=>?_) (fun ON=>?_)
    ·exact .drop 0 1 (.done ⟨false,rfl,rfl,fun h=>by cases h⟩)
    ·have ON:¬(s.w≤1024):=ON
     refine aa 0 ?_
     refine aq (fun vV=>?_) (fun vV=>?_)
     ·exact .drop 0 1 (.done ⟨false,rfl,rfl,fun h=>by cases h⟩)
     ·have vV:¬(8<(↑s.T.length:Int)):=vV
      refine aa 0 ?_
      refine aq (fun OM=>?_) (fun OM=>?_)
      ·exact .drop 0 1 (.done ⟨false,rfl,rfl,fun h=>by cases h⟩)
      ·have OM:¬(16<(↑s.aW.length:Int)):=OM
       refine aa 0 ?_
       refine aq (fun OL=>?_) (fun OL=>?_)
       ·exact .drop 0 1 (.done ⟨false,rfl,rfl,fun h=>by cases h⟩)
       ·have OL:¬(10<(↑s.entry.length:Int)):=OL
        refine aa 0 ?_
        refine aq (fun OK=>?_) (fun OK=>?_)
        ·exact .drop 0 1 (.done ⟨false,rfl,rfl,fun h=>by cases h⟩)
        ·have OK:¬(20<(↑s.init.length:Int)):=OK
         refine aa 0 ?_
         refine cc (S:=Nat) (fun k=>[(48,.af kR s.T),(49,.int .i64 s.T.length),(50,.int .i64 k)]) (fun _=>(aG,bU s)::σ) (fun k=>k≤s.T.length∧∀t∈s.T.take k,t.1.length≤4∧t.2.1.length≤4∧t.2.2.1.length≤6) (fun k=>s.T.length-k) 0 ⟨⟨bD _,fun t h=>by cases h⟩,⟨rfl,rfl,rfl,trivial⟩,rfl⟩ ?_
         rintro k g ⟨aP,lu⟩
         have hk:k≤s.T.length:=aP
         have ht:∀t∈s.T.take k,t.1.length≤4∧t.2.1.length≤4∧t.2.2.1.length≤6:=lu
         clear aP lu
         refine aq (fun ab=>?_) (fun au=>?_)
         ·have ab:k<s.T.length:=by have ab:(k:Int)<s.T.length:=ab;omega
          have iu:s.T.take (k+1)=s.T.take k++[s.T[k]]:=fL ab
          obtain⟨t,fK⟩:∃t:mw,s.T[k]=t:=⟨_,rfl⟩
          rw[fK]at iu
          refine aI.mk rfl (bL.mk t (by omega) ((get_some ab).trans (congrArg some fK)) ?_)
          intro dw
          refine ai 0 ?_
          refine aa 0 ?_
          refine aq (p:=4<(t.1.length:Int)) (fun d1=>?_) (fun d1=>?_)
          ·exact .drop 0 2 (.done ⟨false,rfl,rfl,fun h=>by cases h⟩)
          ·refine aa 0 ?_
           refine aq (p:=4<(t.2.1.length:Int)) (fun d2=>?_) (fun d2=>?_)
           ·exact .drop 0 2 (.done ⟨false,rfl,rfl,fun h=>by cases h⟩)
           ·refine aa 0 ?_
            refine aq (p:=6<(t.2.2.1.length:Int)) (fun d3=>?_) (fun d3=>?_)
            ·exact .drop 0 2 (.done ⟨false,rfl,rfl,fun h=>by cases h⟩)
            ·refine bj (k+1) (by show s.T.length-(k+1)<s.T.length-k;omega) ⟨ab,fun u hu=>?_⟩ ⟨rfl,rfl,aY (by omega),trivial⟩ (.drop 0 1 (.refl _))
             rw[iu]at hu
             rcases bV.1 hu with hu | hu
             ·exact ht u hu
             ·rw[bB.1 hu];omega
         ·have au:k=s.T.length:=by have au:¬(k:Int)<s.T.length:=au;omega
          subst au
          rw[gn]at ht
          exact .drop 0 1 (.done ⟨true,rfl,rfl,fun _=>⟨by omega,by omega,by omega,by omega,ht,by omega⟩⟩)
   ·have sM:¬(s.n≤256):=sM
    refine aa 0 ?_
    refine aq (fun OJ=>?_) (fun OJ=>?_)
    ·exact .drop 0 1 (.done ⟨false,rfl,rfl,fun h=>by cases h⟩)
    ·have OJ:¬(8<(↑s.T.length:Int)):=OJ
     refine aa 0 ?_
     refine aq (fun OH=>?_) (fun OH=>?_)
     ·exact .drop 0 1 (.done ⟨false,rfl,rfl,fun h=>by cases h⟩)
     ·have OH:¬(16<(↑s.aW.length:Int)):=OH
      refine aa 0 ?_
      refine aq (fun OG=>?_) (fun OG=>?_)
      ·exact .drop 0 1 (.done ⟨false,rfl,rfl,fun h=>by cases h⟩)
      ·have OG:¬(10<(↑s.entry.length:Int)):=OG
       refine aa 0 ?_
       refine aq (fun OF=>?_) (fun OF=>?_)
       ·exact .drop 0 1 (.done ⟨false,rfl,rfl,fun h=>by cases h⟩)
       ·have OF:¬(20<(↑s.init.length:Int)):=OF
        refine aa 0 ?_
        refine cc (S:=Nat) (fun k=>[(48,.af kR s.T),(49,.int .i64 s.T.length),(50,.int .i64 k)]) (fun _=>(aG,bU s)::σ) (fun k=>k≤s.T.length∧∀t∈s.T.take k,t.1.length≤4∧t.2.1.length≤4∧t.2.2.1.length≤6) (fun k=>s.T.length-k) 0 ⟨⟨bD _,fun t h=>by cases h⟩,⟨rfl,rfl,rfl,trivial⟩,rfl⟩ ?_
        rintro k g ⟨aP,lu⟩
        have hk:k≤s.T.length:=aP
        have ht:∀t∈s.T.take k,t.1.length≤4∧t.2.1.length≤4∧t.2.2.1.length≤6:=lu
        clear aP lu
        refine aq (fun ab=>?_) (fun au=>?_)
        ·have ab:k<s.T.length:=by have ab:(k:Int)<s.T.length:=ab;omega
         have iu:s.T.take (k+1)=s.T.take k++[s.T[k]]:=fL ab
         obtain⟨t,fK⟩:∃t:mw,s.T[k]=t:=⟨_,rfl⟩
         rw[fK]at iu
         refine aI.mk rfl (bL.mk t (by omega) ((get_some ab).trans (congrArg some fK)) ?_)
         intro dw
         refine ai 0 ?_
         refine aa 0 ?_
         refine aq (p:=4<(t.1.length:Int)) (fun d1=>?_) (fun d1=>?_)
         ·exact .drop 0 2 (.done ⟨false,rfl,rfl,fun h=>by cases h⟩)
         ·refine aa 0 ?_
          refine aq (p:=4<(t.2.1.length:Int)) (fun d2=>?_) (fun d2=>?_)
          ·exact .drop 0 2 (.done ⟨false,rfl,rfl,fun h=>by cases h⟩)
          ·refine aa 0 ?_
           refine aq (p:=6<(t.2.2.1.length:Int)) (fun d3=>?_) (fun d3=>?_)
           ·exact .drop 0 2 (.done ⟨false,rfl,rfl,fun h=>by cases h⟩)
           ·refine bj (k+1) (by show s.T.length-(k+1)<s.T.length-k;omega) ⟨ab,fun u hu=>?_⟩ ⟨rfl,rfl,aY (by omega),trivial⟩ (.drop 0 1 (.refl _))
            rw[iu]at hu
            rcases bV.1 hu with hu | hu
            ·exact ht u hu
            ·rw[bB.1 hu];omega
        ·have au:k=s.T.length:=by have au:¬(k:Int)<s.T.length:=au;omega
         subst au
         rw[gn]at ht
         exact .drop 0 1 (.done ⟨true,rfl,rfl,fun _=>⟨by omega,by omega,by omega,by omega,ht,by omega⟩⟩)
  ·have Fh:¬(10<s.w):=Fh
   refine aa 0 ?_
   refine aq (fun OE=>?_) (fun OE=>?_)
   ·exact .drop 0 1 (.done ⟨false,rfl,rfl,fun h=>by cases h⟩)
   ·have OE:¬(8<(↑s.T.length:Int)):=OE
    refine aa 0 ?_
    refine aq (fun OD=>?_) (fun OD=>?_)
    ·exact .drop 0 1 (.done ⟨false,rfl,rfl,fun h=>by cases h⟩)
    ·have OD:¬(16<(↑s.aW.length:Int)):=OD
     refine aa 0 ?_
     refine aq (fun OC=>?_) (fun OC=>?_)
     ·exact .drop 0 1 (.done ⟨false,rfl,rfl,fun h=>by cases h⟩)
     ·have OC:¬(10<(↑s.entry.length:Int)):=OC
      refine aa 0 ?_
      refine aq (fun OB=>?_) (fun OB=>?_)
      ·exact .drop 0 1 (.done ⟨false,rfl,rfl,fun h=>by cases h⟩)
      ·have OB:¬(20<(↑s.init.length:Int)):=OB
       refine aa 0 ?_
       refine cc (S:=Nat) (fun k=>[(48,.af kR s.T),(49,.int .i64 s.T.length),(50,.int .i64 k)]) (fun _=>(aG,bU s)::σ) (fun k=>k≤s.T.length∧∀t∈s.T.take k,t.1.length≤4∧t.2.1.length≤4∧t.2.2.1.length≤6) (fun k=>s.T.length-k) 0 ⟨⟨bD _,fun t h=>by cases h⟩,⟨rfl,rfl,rfl,trivial⟩,rfl⟩ ?_
       rintro k g ⟨aP,lu⟩
       have hk:k≤s.T.length:=aP
       have ht:∀t∈s.T.take k,t.1.length≤4∧t.2.1.length≤4∧t.2.2.1.length≤6:=lu
       clear aP lu
       refine aq (fun ab=>?_) (fun au=>?_)
       ·have ab:k<s.T.length:=by have ab:(k:Int)<s.T.length:=ab;omega
        have iu:s.T.take (k+1)=s.T.take k++[s.T[k]]:=fL ab
        obtain⟨t,fK⟩:∃t:mw,s.T[k]=t:=⟨_,rfl⟩
        rw[fK]at iu
        refine aI.mk rfl (bL.mk t (by omega) ((get_some ab).trans (congrArg some fK)) ?_)
        intro dw
        refine ai 0 ?_
        refine aa 0 ?_
        refine aq (p:=4<(t.1.length:Int)) (fun d1=>?_) (fun d1=>?_)
        ·exact .drop 0 2 (.done ⟨false,rfl,rfl,fun h=>by cases h⟩)
        ·refine aa 0 ?_
         refine aq (p:=4<(t.2.1.length:Int)) (fun d2=>?_) (fun d2=>?_)
         ·exact .drop 0 2 (.done ⟨false,rfl,rfl,fun h=>by cases h⟩)
         ·refine aa 0 ?_
          refine aq (p:=6<(t.2.2.1.length:Int)) (fun d3=>?_) (fun d3=>?_)
          ·exact .drop 0 2 (.done ⟨false,rfl,rfl,fun h=>by cases h⟩)
          ·refine bj (k+1) (by show s.T.length-(k+1)<s.T.length-k;omega) ⟨ab,fun u hu=>?_⟩ ⟨rfl,rfl,aY (by omega),trivial⟩ (.drop 0 1 (.refl _))
           rw[iu]at hu
           rcases bV.1 hu with hu | hu
           ·exact ht u hu
           ·rw[bB.1 hu];omega
       ·have au:k=s.T.length:=by have au:¬(k:Int)<s.T.length:=au;omega
        subst au
        rw[gn]at ht
        exact .drop 0 1 (.done ⟨true,rfl,rfl,fun _=>⟨by omega,by omega,by omega,by omega,ht,by omega⟩⟩)
theorem ae9{s:Sy}(h:LW s)(hi:bc s.init)(ht:∀t∈s.T,bc t.1∧bc t.2.1):Fit s:=by
 obtain⟨h1,h2,h3,h4,h5,_⟩:=h
 exact⟨hi,by omega,by omega,by omega,by omega,fun t hm=>⟨(ht t hm).1,(ht t hm).2,by have:=h5 t hm;omega,by have:=h5 t hm;omega,by have:=h5 t hm;omega⟩⟩
theorem GW{f:FuncId}{xs:List AV}{σ:Hp}{K:AV→Hp→Prop}(i k b':Nat)(cs':List AV)(e:Sh)(hi:σ[i]?=some (b',cs'))(hk:cs'[k]?=some .aj)(h:CallAt Tryz.prog f K xs (σ.set i (b',cs'.set k (.af e [])))):CallAt Tryz.prog f K xs σ:=
 .mk [] K ⟨(x5 h).1,fun F w vs bS aF=>(x5 h).2 F w vs bS (S5 aF e hi hk)⟩ fun _ _ h=>h
theorem CL{b off len es:Nat}{e:Sh}{l:List e.T}{xs ys:List AV}(h:eI b off len es e l (.tup xs) (.tup ys))(hl:ys.all AV.leaf=true):eI b off len es e l (.agg xs) (.agg ys):=by
 cases h with
 |refl=>exact .refl _
 |tup _ _ h1 h2=>exact .agg _ _ h1 (fun i y hy=>fy.1 hl y (cq hy)) h2
def mI(s:Sy):Nat→List (List Int)→Nat→List (List Int)×Nat
 | 0,a,k=>(a,k)
 |m+1,a,k=>if a=gH s a then (a,k) else mI s m (gH s a) (k+1)
theorem Qu{s:Sy}{a:List (List Int)}(m k:Nat)(h:a=gH s a):mI s m a k=(a,k):=by
 cases m with
 |zero=>rfl
 |succ m=>exact ah h
theorem SK{s:Sy}{a:List (List Int)}(m k:Nat)(h:¬a=gH s a):mI s (m+1) a k=mI s m (gH s a) (k+1):=ag h
theorem JQ{s:Sy}(hg:Good s):kA s (nh s):=by
 refine⟨by rw[OU];have:=hg.n1;omega,fun x hx=>?_⟩
 rw[(Oe.1 hx).2]
 exact⟨GX hg.sm,Hj _ _⟩
def sV(s:Sy):Int:=s.n*gP s.what s.w+1
theorem QR(what w:Int):0≤gP what w∧gP what w≤2048:=by
 unfold gP
 split
 ·rename_i h
  unfold cI at h;simp at h
  split <;> omega
 ·omega
theorem Q6{s:Sy}(hg:Good s):IntKind.i64.wrap (IntKind.i64.wrap (s.n*gP s.what s.w)+1)=sV s∧0≤sV s∧sV s≤1000000:=by
 have h1:=hg.n1
 have h2:=hg.n2
 have h3:=QR s.what s.w
 have h4:s.n*gP s.what s.w≤256*2048:=Int.mul_le_mul h2 h3.2 h3.1 (by decide)
 have h5:0≤s.n*gP s.what s.w:=Int.mul_nonneg (by omega) h3.1
 unfold sV
 rw[cy (n:=s.n*gP s.what s.w) (by omega),cy (by omega)]
 omega
def ke(s:Sy):List (List Int)×Nat:=mI s (sV s).toNat (nh s) 0
theorem abh(what w:Int)(σ:Hp):ACalls Tryz.prog 126 [.int .i64 what,.int .i64 w] σ (aE (.int .i64 (gP what w)) σ):=by
 refine az Tryz.func126 ?_
 refine eK [] (M4 what w _) (fun c0=>?_) (fun c0=>?_)
 ·refine aq (fun c1=>?_) (fun c1=>?_)
  ·have c1:what=3:=c1
   exact .done ⟨aV (by unfold cI at c0;simp at c0;unfold gP;rw[if_pos (pY (by omega)),if_pos c1,cy (by omega)]),rfl⟩
  ·have c1:¬(what=3):=c1
   exact .done ⟨aV (by unfold gP;rw[ah c0,ag c1]),rfl⟩
 ·exact .done ⟨aV (by unfold gP;rw[c0];rfl),rfl⟩
def tg(n:Nat)(f:Nat→Nat):Nat:=((List.range n).map f).sum
theorem Kb(n:Nat)(f:Nat→Nat):tg (n+1) f=tg n f+f n:=by unfold tg;rw[List.range_succ,List.map_append,List.sum_append];simp
theorem Kc{f g:Nat→Nat}:∀n,(∀i,i<n→f i≤g i)→tg n f≤tg n g∧(tg n f=tg n g→∀i,i<n→f i=g i)
 | 0,_=>⟨a8 _,fun _ i h=>absurd h (nR i)⟩
 |n+1,h=>by
  obtain⟨h1,h2⟩:=Kc n fun i hi=>h i (by omega)
  have h3:=h n (by omega)
  rw[Kb,Kb]
  refine⟨by omega,fun e i hi=>?_⟩
  by_cases dY:i=n
  ·subst dY;omega
  ·exact h2 (by omega) i (by omega)
theorem GC{f:Nat→Nat}{c:Nat}:∀n,(∀i,i<n→f i≤c)→tg n f≤n*c
 | 0,_=>bD _
 |n+1,h=>by
  have h1:=GC n fun i hi=>h i (by omega)
  have h2:=h n (by omega)
  rw[Kb,qC];omega
def Ea(b:Bool):Nat:=if b=true then 1 else 0
def Iy(z:Int):Nat:=if z=0 then 0 else if z=1 then 2 else 1
def qq(what:Int)(x:List Int)(j:Nat):Nat:=if what=3 then Iy (wd x j) else if what=1 then Ea (dW x (j / 64) (j % 64)) else Ea (!dW x (j / 64) (j % 64))
def rT(what w:Int)(x:List Int):Nat:=tg w.toNat (qq what x)
theorem S6{w:Int}{a b:List Int}(h:dz 3 w a b){i:Nat}(hi:i<a.length):wd a i=wd b i∨wd a i=0∨wd b i=1:=by
 have hl:=ue h.1.v h.2.1.v
 have va:=((jO (mC h.1.v) rfl).1 h.1.v).2
 have vb:=((jO (mC h.1.v) rfl).1 h.2.1.v).2
 have:=uf va vb hi (by omega)
 rw[h.2.2]at this
 unfold jn at this
 split at this
 ·exact .inl this.symm
 ·split at this
  ·rename_i h0;exact .inr (.inl h0)
  ·exact .inr (.inr this)
theorem acv{what w:Int}(hs:what=1∨what=2){a b:List Int}(h:dz what w a b){i k:Nat}(hi:i<a.length):jr what (dW a i k) (dW b i k)=dW b i k:=by
 have hl:=ue h.1.v h.2.1.v
 rw[← oZ hs h.1.cy h.2.1.cy hl i k hi,h.2.2]
theorem adG{what w:Int}{a b:List Int}(h:dz what w a b){j:Nat}(hj:j<w.toNat):qq what a j≤qq what b j:=by
 have hi:=mC h.1.v
 by_cases h3:what=3
 ·subst h3
  have hl:=((jO hi rfl).1 h.1.v).1
  unfold qq Iy
  rw[ah rfl,ah rfl]
  rcases S6 h (i:=j) (by omega) with e | e | e
  ·rw[e];exact a8 _
  ·rw[ah e];exact bD _
  ·rw[e]
   rw[ag (show ¬(1:Int)=0 by decide),ah rfl]
   split
   ·omega
   ·split <;> omega
 ·have hs:=Hc hi h3
  have hla:=nY ((pT hi h3).1 h.1.v)
  have hw:ej w=w.toNat:=by unfold cI at hi;simp at hi;unfold ej;omega
  have ab:j / 64<a.length:=by rw[hla];unfold dV;omega
  have hb:=acv hs h (k:=j % 64) ab
  unfold qq Ea
  rw[ag h3,ag h3]
  unfold jr at hb
  rcases hs with rfl | rfl
  ·rw[ah rfl,ah rfl]
   rw[ah rfl]at hb
   revert hb
   cases dW a (j / 64) (j % 64) <;> cases dW b (j / 64) (j % 64) <;> simp
  ·rw[ag (show ¬(2:Int)=1 by decide),ag (show ¬(2:Int)=1 by decide)]
   rw[ag (show ¬(2:Int)=1 by decide)]at hb
   revert hb
   cases dW a (j / 64) (j % 64) <;> cases dW b (j / 64) (j % 64) <;> simp
theorem adH{what w:Int}{a b:List Int}(h:dz what w a b)(he:∀j,j<w.toNat→qq what a j=qq what b j):a=b:=by
 have hi:=mC h.1.v
 have hl:=ue h.1.v h.2.1.v
 refine Cq h.1 h.2.1 (fun h3 i ab=>?_) (fun hs i k ab hk=>?_)
 ·subst h3
  have hw:=((jO hi rfl).1 h.1.v).1
  have:=he i (by omega)
  unfold qq Iy at this
  rw[ah rfl,ah rfl]at this
  rcases S6 h ab with e | e | e
  ·exact e
  ·rw[ah e]at this
   split at this
   ·omega
   ·split at this <;> omega
  ·rw[e,ag (show ¬(1:Int)=0 by decide),ah rfl]at this
   split at this
   ·omega
   ·split at this
    ·omega
    ·omega
 ·have h3:¬what=3:=by omega
  have fa:=(pT hi h3).1 h.1.v
  have fb:=(pT hi h3).1 h.2.1.v
  have hw:ej w=w.toNat:=by unfold cI at hi;simp at hi;unfold ej;omega
  by_cases hc:64*i+k<ej w
  ·have:=he (64*i+k) (by omega)
   unfold qq Ea at this
   rw[ag h3,ag h3,show (64*i+k) / 64=i by omega,show (64*i+k) % 64=k by omega]at this
   revert this
   split <;> cases dW a i k <;> cases dW b i k <;> simp
  ·rw[(qR h.1.cy (nY fa)).1 fa i k ab hk (by omega),(qR h.2.1.cy (nY fb)).1 fb i k (by omega) hk (by omega)]
theorem Wz{what w:Int}(x:List Int)(hi:cI what w=true):(rT what w x:Int)≤gP what w:=by
 unfold gP rT
 rw[ah hi]
 unfold cI at hi;simp at hi
 by_cases h3:what=3
 ·rw[ah h3]
  have:=GC (f:=qq what x) (c:=2) w.toNat fun i _=>by
   unfold qq Iy
   rw[ah h3]
   split
   ·omega
   ·split <;> omega
  omega
 ·rw[ag h3]
  have:=GC (f:=qq what x) (c:=1) w.toNat fun i _=>by
   unfold qq Ea
   rw[ag h3]
   split <;> split <;> omega
  omega
theorem La{what w:Int}{a b:List Int}(h:dz what w a b):rT what w a≤rT what w b∧(rT what w a=rT what w b→a=b):=by
 have:=Kc w.toNat fun j hj=>adG h hj
 exact⟨this.1,fun e=>adH h (this.2 e)⟩
def tf(s:Sy)(a:List (List Int)):Nat:=tg s.n.toNat fun v=>rT s.what s.w (a.getD v [])
theorem abK{s:Sy}{a b:List (List Int)}(h:mg s a b):tf s a≤tf s b∧(tf s a=tf s b→a=b):=by
 have:=Kc (f:=fun v=>rT s.what s.w (a.getD v [])) (g:=fun v=>rT s.what s.w (b.getD v [])) s.n.toNat fun v hv=>(La (h.2.2 v (by omega))).1
 refine⟨this.1,fun e=>?_⟩
 have la:=h.1.len
 have lb:=h.2.1.len
 refine BL (by omega) fun i h1 h2=>?_
 have hv:=(La (h.2.2 i (by omega))).2 (this.2 e i (by omega))
 rw[bg,bg,bF h1,bF h2]at hv
 exact hv
theorem Qp{s:Sy}(hg:Good s)(a:List (List Int)):(tf s a:Int)≤s.n*gP s.what s.w:=by
 have hh:=QR s.what s.w
 have:=GC (f:=fun v=>rT s.what s.w (a.getD v [])) (c:=(gP s.what s.w).toNat) s.n.toNat fun v _=>by
  have:=Wz (a.getD v []) hg.sm
  omega
 have hn:=hg.n1
 have e:(s.n.toNat*(gP s.what s.w).toNat:Nat)=s.n*gP s.what s.w:=by
  rw[EX,lZ (by omega),lZ hh.1]
 unfold tf
 omega
theorem W7{s:Sy}{i:Nat}(h:(i:Int)<s.n):(nh s).getD i []=gi s.what s.w:=by
 unfold nh
 rw[bg,vU,ah (by omega)];rfl
theorem Q9{s:Sy}(hg:Good s){a:List (List Int)}(h:kA s a):mg s (nh s) a:=
 ⟨JQ hg,h,fun i hi=>by rw[W7 hi];exact bot_le (h.get hi)⟩
theorem PF{s:Sy}(hf:Fit s)(hg:Good s):∀(m:Nat) (a:List (List Int)) (k:Nat),mg s a (gH s a)→k≤tf s a→s.n*gP s.what s.w+1≤(k+m:Nat)→
  kA s (mI s m a k).1∧(mI s m a k).1=gH s (mI s m a k).1∧((mI s m a k).2:Int)≤s.n*gP s.what s.w∧∀y,mg s (gH s y) y→mg s a y→mg s (mI s m a k).1 y
 | 0,a,k,h,hk,hm=>by have:=Qp hg a;omega
 |m+1,a,k,h,hk,hm=>by
  by_cases e:a=gH s a
  ·rw[Qu _ _ e]
   have:=Qp hg a
   exact⟨h.1,e,by show ((k:Nat):Int)≤_;omega,fun y _ hy=>hy⟩
  ·rw[SK _ _ e]
   have h2:=Qq hf hg h
   have ab:k+1≤tf s (gH s a):=by
    have:=abK h
    by_cases e2:tf s a=tf s (gH s a)
    ·exact absurd (this.2 e2) e
    ·omega
   obtain⟨q1,q2,q3,q4⟩:=PF hf hg m (gH s a) (k+1) h2 ab (by omega)
   exact⟨q1,q2,q3,fun y hy hay=>q4 y hy ((Qq hf hg hay).trans hy)⟩
theorem zO{s:Sy}(hf:Fit s)(hg:Good s):kA s (ke s).1∧(ke s).1=gH s (ke s).1∧((ke s).2:Int)≤s.n*gP s.what s.w∧∀y,mg s (gH s y) y→mg s (ke s).1 y:=by
 have hb:=JQ hg
 have he:=Q6 hg
 obtain⟨q1,q2,q3,q4⟩:=PF hf hg (sV s).toNat (nh s) 0 (Q9 hg (B2 hf hg hb)) (bD _) (by unfold sV at he ⊢;omega)
 exact⟨q1,q2,q3,fun y hy=>q4 y hy (Q9 hg hy.2.1)⟩
theorem Sr(a b:List (List Int))(σ:Hp)(ha:yO a):ACalls Tryz.prog 19 [.af (.slice (.int .u64)) a,.af (.slice (.int .u64)) b] σ (aE (.bool (decide (a=b))) σ):=by
 refine az Tryz.func19 ?_
 have NS:=ha.1
 refine ew (fun c1=>?_) (fun c1=>?_)
 ·have c1:(!decide ((a.length:Int)=(b.length:Int)))=true:=c1
  have:a≠b:=by rintro rfl;simp at c1
  exact .done ⟨dc (bZ this).symm,rfl⟩
 ·have c1:(!decide ((a.length:Int)=(b.length:Int)))=false:=c1
  have hlen:a.length=b.length:=by simp at c1;omega
  refine cc (S:=Nat) (fun k=>[(0,.af (.slice (.int .u64)) a),(1,.af (.slice (.int .u64)) b),(12,.int .i64 a.length),(13,.int .i64 k)]) (fun _=>σ) (fun k=>k≤a.length∧a.take k=b.take k) (fun k=>a.length-k) 0 ⟨⟨bD _,rfl⟩,⟨rfl,rfl,rfl,rfl,trivial⟩,rfl⟩ ?_
  rintro k g ⟨aP,Vn⟩
  have hk:k≤a.length:=aP
  have fK:a.take k=b.take k:=Vn
  clear aP Vn
  refine aq (fun ab=>?_) (fun au=>?_)
  ·have ec:k<a.length:=by have ab:(k:Int)<a.length:=ab;omega
   have DO:k<b.length:=by omega
   refine .quiet (by kernel_rfl) ?_
   refine aI.mk rfl (bL.mk a[k] (by omega) (get_some ec) ?_)
   refine aI.mk rfl (bL.mk b[k] (by omega) (get_some DO) ?_)
   refine Un [] (adD a[k] b[k] _ (fx (ha.2 _ (cj ec)).2 (by decide))) (fun hx=>?_) (fun hx=>?_)
   ·have jW:a[k]=b[k]:=fA hx
    refine bj (k+1) (by show a.length-(k+1)<a.length-k;omega) ⟨ec,?_⟩ ⟨rfl,rfl,rfl,aY (by omega),trivial⟩ (.refl _)
    rw[fL ec,fL DO,fK,jW]
   ·have:a≠b:=by rintro rfl;exact absurd rfl (pO hx)
    exact .done ⟨dc (bZ this).symm,rfl⟩
  ·have au:k=a.length:=by have au:¬(k:Int)<a.length:=au;omega
   subst au
   have:a=b:=by
    rw[gn]at fK
    rw[fK,hlen,gn]
   exact .done ⟨dc (bu this).symm,rfl⟩
def qo(n:Nat):List Int:=(List.range n).map fun i:Nat=>(i:Int)
theorem Px(n:Nat):(qo n).length=n:=by simp[qo]
theorem ZO(n:Nat):qo (n+1)=qo n++[(n:Int)]:=by unfold qo;rw[sH,cO];rfl
theorem abG{n k:Nat}(h:k<n):(qo n)[k]?=some (k:Int):=by unfold qo;rw[fo,tX h];rfl
theorem aey(n:Nat)(σ:Hp)(hn:n≤1024):ACalls Tryz.prog 245 [.int .i64 n,.af (.int .i64) (qo n)] σ (aE (.af (.int .u64) (eY n)) σ):=by
 have iR:ej n=n:=by unfold ej;omega
 have eD:=zV n
 refine az Tryz.func245 ?_
 refine ay [] (Ut n _) ?_
 refine aZ ?_
 intro q
 refine cc (S:=Nat×Nat) (fun s=>[(0,.int .i64 n),(5,.ae s.2 0 (dV n) 1),(11,.af (.int .i64) (qo n)),(12,.int .i64 n),(13,.int .i64 s.1)]) (fun s=>(s.2,aO (fQ (eY n) s.1))::σ) (fun s=>s.1≤n) (fun s=>n-s.1) (0,q) ⟨bD _,⟨rfl,rfl,rfl,congrArg (fun m:Nat=>AV.int .i64 (m:Int)) (Px n),rfl,trivial⟩,?_⟩ ?_
 ·show (q,cM [.int .u64 0] (((dV n:Nat):Int)).toNat)::σ=(q,aO (fQ (eY n) 0))::σ
  rw[Gh,mZ,bM,wL]
 rintro⟨k,b⟩ g aP
 have hk:k≤n:=aP
 clear aP
 refine aq (fun ab=>?_) (fun au=>?_)
 ·have ab:k<n:=by have ab:(k:Int)<n:=ab;omega
  refine aI.mk rfl (bL.mk (k:Int) (by omega) (by rw[bM];exact abG ab) ?_)
  refine ay [] (Tx n _) ?_
  refine aq (p:=(k:Int)<(ej n:Int)) (fun _=>?_) (fun h=>?_)
  rotate_left
  ·exact absurd (by omega) h
  have hi:k / 64<dV n:=by unfold dV;omega
  refine .mk [] _ (LO (fQ (eY n) k) k b (dV n) σ (by rw[pR,mZ]) (by omega) hi) ?_
  rintro _ _ ⟨b2,rfl,rfl⟩
  refine bj (k+1,b2) (by show n-(k+1)<n-k;omega) ab ⟨rfl,rfl,rfl,rfl,aY (by omega),trivial⟩ (.drop 1 1 (aJ ?_))
  rw[QV n (by omega)]
  rfl
 ·have au:k=n:=by have au:¬(k:Int)<n:=au;omega
  subst au
  have hc:=R9 k
  rw[iR]at hc
  rw[hc]
  exact .cJ 0 b 0 (dV k) 1 _ (.int .u64) (eY k) rfl (by rw[List.drop_zero,← kO];exact List.take_of_length_le (by simp[aO,mZ])) ⟨mZ k,rfl,by decide⟩ .here (.done ⟨rfl,rfl⟩)
theorem abi(n:Nat)(σ:Hp)(hn:n≤1024):ACalls Tryz.prog 196 [.int .i64 n] σ (aE (.af (.int .u64) (eY n)) σ):=by
 refine az Tryz.func196 ?_
 refine .wrap 3 _ rfl rfl ?_
 refine cc (S:=Nat×AV×Hp) (fun s=>[(0,.int .i64 n),(3,.via s.2.1),(4,.int .i64 s.1)]) (fun s=>s.2.2++σ) (fun s=>s.1≤n∧Acc 1 s.1 s.2.1 s.2.2 (an (qo s.1))) (fun s=>n-s.1) (0,.aj,[]) ⟨⟨bD _,.nil⟩,⟨rfl,rfl,rfl,trivial⟩,rfl⟩ ?_
 rintro⟨k,v,acc⟩ g ⟨aP,gT⟩
 have hk:k≤n:=aP
 have b9:Acc 1 k v acc (an (qo k)):=gT
 clear aP gT
 refine aq (fun ab=>?_) (fun au=>?_)
 ·have ab:k<n:=by have ab:(k:Int)<n:=ab;omega
  intro aG
  refine ic [_] b9 (.ae 0 aG 0 1 _ rfl (cD rfl)) rfl (by omega) (by decide) (by decide) (fun v' aU h'=>?_)
  refine bj (k+1,v',aU) (by show n-(k+1)<n-k;omega) ⟨ab,?_⟩ ⟨rfl,rfl,aY (by omega),trivial⟩ (.drop 0 1 (aJ rfl))
  show Acc 1 (k+1) v' aU (an (qo (k+1)))
  rw[ZO,an,cO]
  exact h'
 ·have au:k=n:=by have au:¬(k:Int)<n:=au;omega
  subst au
  have hO:=fun σ=>aey k σ hn
  generalize hU:qo k=U at b9 hO
  have hlU:U.length=k:=by rw[← hU];exact Px k
  generalize hC:an U=C at b9
  cases b9 with
  |nil=>
   have hU0:U=[]:=jv.1 hlU
   rw[hU0]at hO
   refine ay [] (P9 (cE (.refl _) (cE (.nil _) uw)) (hO _)) ?_
   exact .done ⟨rfl,rfl⟩
  |ae b k cs h=>
   refine .cJ (args':=[.int .i64 k,.af (.int .i64) U]) 0 b 0 k 1 _ (.int .i64) U rfl (by rw[gM,← ui,hC];exact eG (by omega)) ⟨hlU,rfl,by decide⟩ (cE (.refl _) (cE .here uw)) (ay [] (hO _) ?_)
   exact .done ⟨rfl,rfl⟩
theorem Qb(what w:Int)(σ:Hp)(hi:cI what w=true):ACalls Tryz.prog 145 [.int .i64 what,.int .i64 w] σ (aE (.af (.int .u64) (gi what w)) σ):=by
 refine az Tryz.func145 ?_
 have hw:=zN what w
 refine ay [] (x8 (M4 what w _) (dc hi)) ?_
 refine aq (p:=what=2) (fun c=>?_) (fun c=>?_)
 ·have eW:=hi
  unfold cI at eW;simp at eW
  obtain⟨n,rfl⟩:∃n:Nat,w=n:=⟨w.toNat,by omega⟩
  refine ay [] (abi n _ (by omega)) ?_
  exact .done ⟨by rw[show gi what (n:Int)=eY n from ah ⟨c,hi⟩];rfl,rfl⟩
 ·refine ay [] (ZA what w _) ?_
  refine aZ ?_
  intro b
  have e:gi what w=List.replicate (eH what w).toNat 0:=ag fun h=>c h.1
  rw[e]
  show Fin _ (.ae b 0 (eH what w).toNat 1) ((b,cM [.int .u64 0] (eH what w).toNat)::σ)
  rw[wL]
  have hl:(List.replicate (eH what w).toNat (0:Int)).length=(eH what w).toNat:=fZ
  generalize List.replicate (eH what w).toNat (0:Int)=Z at hl
  refine .cJ 0 b 0 (eH what w).toNat 1 _ (.int .u64) Z rfl ?_ ⟨hl,rfl,by decide⟩ .here (.done ⟨rfl,rfl⟩)
  rw[gM,← kO]
  exact eG (by rw[aO,cm,hl];omega)
theorem ZB(s:Sy)(v:Int)(σ:Hp)(hf:Fit s)(hg:Good s):ACalls Tryz.prog 82 [.agg (bU s),.int .i64 v] σ (aE (.af (.int .u64) (gv s v)) σ):=by
 refine az Tryz.func82 ?_
 intro aG
 refine aa 0 ?_
 refine eK [] (agx s.entry v _ (fx hf.AT (by decide))) (fun c=>?_) (fun c=>?_)
 ·intro dw
  have hle:=hf.DH
  refine aa 1 ?_
  refine AppendAt.more 0 dw 0 s.init.length [] _ rfl rfl (cD rfl) (.af (.int .u64) s.init rfl) (by omega) (by decide) (by decide) (fun b=>?_)
  have e:gv s v=s.init:=by unfold gv;rw[c];rfl
  rw[e]
  refine .cJ 0 b 0 (0+s.init.length) 1 _ (.int .u64) s.init rfl ?_ ⟨(ef _).symm,rfl,by decide⟩ .here (.drop 0 1 (.done ⟨rfl,rfl⟩))
  rw[gM]
  refine eG ?_
  have:=v8 (fun d=>Sh.sP (.int .u64) d) s.init
  simp only[List.take_nil,vQ]
  rw[this]
  show s.init.length*1≤(0+s.init.length)*1
  omega
 ·refine aa 0 ?_
  refine aa 0 ?_
  refine ay [] (Qb s.what s.w _ hg.sm) ?_
  exact .drop 0 1 (.done ⟨by unfold gv;rw[c];rfl,rfl⟩)
theorem adg(s:Sy)(v:Nat)(x:List Int)(σ:Hp)(hf:Fit s)(hg:Good s)(hv:(v:Int)<s.n)(hx:eu s.what s.w x):ACalls Tryz.prog 170 [.agg (bU s),.int .i64 v,.af (.int .u64) x] σ (aE (.af (.int .u64) (iF s x v)) σ):=by
 refine az Tryz.func170 ?_
 intro aG
 obtain⟨hT,NW⟩:=HP hg hv
 have ht:=hf.ts _ (cj hT)
 have hc:=hg.D7 _ (cj hT)
 have hl:=FQ hx.v
 refine .quiet (by kernel_rfl) ?_
 refine aa 0 ?_
 refine aa 0 ?_
 refine aI.mk rfl (bL.mk s.T[v] (by omega) (by rw[bM];exact bF hT) ?_)
 refine aL [] (adh s.what s.T[v].1 s.T[v].2.1 s.T[v].2.2.1 x _ ht.1 ht.2.1 hx.cy ht.2.2.1 ht.2.2.2.1 (by omega) (fx ht.2.2.2.2 (by decide)) (fun h3=>by rw[Qo hx.v h3];exact (K1 hc h3).2.2)) ?_
 exact .drop 0 1 (.done ⟨by unfold iF;rw[NW];rfl,rfl⟩)
theorem X4(s:Sy)(σ:Hp)(hg:Good s):ACalls Tryz.prog 124 [.agg (bU s)] σ (aE (.af (.slice (.int .u64)) (nh s)) σ):=by
 refine az Tryz.func124 ?_
 intro aG
 obtain⟨N,hN⟩:∃N:Nat,s.n=N:=⟨s.n.toNat,by have:=hg.n1;omega⟩
 have hN2:=hg.n2
 refine .wrap 3 _ rfl rfl ?_
 refine cc (S:=Nat×AV×Hp) (fun x=>[(1,.ptr aG 0),(3,.via x.2.1),(4,.int .i64 x.1)]) (fun x=>(aG,bU s)::(x.2.2++σ)) (fun x=>x.1≤N∧Acc 1 x.1 x.2.1 x.2.2 (vh (List.replicate x.1 (gi s.what s.w)))) (fun x=>N-x.1) (0,.aj,[]) ⟨⟨bD _,.nil⟩,⟨rfl,rfl,rfl,trivial⟩,rfl⟩ ?_
 rintro⟨k,v,acc⟩ g ⟨aP,gT⟩
 have hk:k≤N:=aP
 have b9:Acc 1 k v acc (vh (List.replicate k (gi s.what s.w))):=gT
 clear aP gT
 refine aa 0 ?_
 refine aq (p:=(k:Int)<s.n) (fun ab=>?_) (fun au=>?_)
 ·have ab:k<N:=by omega
  refine aa 0 ?_
  refine aa 0 ?_
  refine ay [] (Qb s.what s.w _ hg.sm) ?_
  intro dw
  refine ic [_,_] b9 (.ae 0 dw 0 1 _ rfl (cD rfl)) rfl (by omega) (by decide) (by decide) (fun v' aU h'=>?_)
  refine bj (k+1,v',aU) (by show N-(k+1)<N-k;omega) ⟨ab,?_⟩ ⟨rfl,rfl,aY (by omega),trivial⟩ (.drop 0 1 (aJ rfl))
  show Acc 1 (k+1) v' aU (vh (List.replicate (k+1) (gi s.what s.w)))
  rw[List.replicate_succ',vh,cO]
  exact h'
 ·have au:k=N:=by omega
  subst au
  refine qU (s:=.slice (.int .u64)) (l:=nh s) [_] b9 ?_ ?_ (by decide) (.drop 0 1 (.done ⟨rfl,rfl⟩))
  ·exact ((OU s).trans (by rw[hN];omega)).symm
  ·rw[← Kx];unfold nh;rw[hN,bM]
theorem abe(s:Sy)(a:List (List Int))(σ:Hp)(hf:Fit s)(hg:Good s)(ha:kA s a):ACalls Tryz.prog 125 [.agg (bU s),.af (.slice (.int .u64)) a] σ (aE (.af (.slice (.int .u64)) (gH s a)) σ):=by
 refine az Tryz.func125 ?_
 intro aG
 obtain⟨N,hN⟩:∃N:Nat,s.n=N:=⟨s.n.toNat,by have:=hg.n1;omega⟩
 have hN2:=hg.n2
 have hel:=hg.el
 have El:=ha.len
 refine .wrap 5 _ rfl rfl ?_
 refine cc (S:=Nat×AV×Hp) (fun x=>[(1,.af (.slice (.int .u64)) a),(2,.ptr aG 0),(5,.via x.2.1),(6,.int .i64 x.1)]) (fun x=>(aG,bU s)::(x.2.2++σ)) (fun x=>x.1≤N∧Acc 1 x.1 x.2.1 x.2.2 (vh ((List.range x.1).map (jA s a s.aW.length)))) (fun x=>N-x.1) (0,.aj,[]) ⟨⟨bD _,.nil⟩,⟨rfl,rfl,rfl,rfl,trivial⟩,rfl⟩ ?_
 rintro⟨v,av,acc⟩ g ⟨aP,gT⟩
 have hv:v≤N:=aP
 have b9:Acc 1 v av acc (vh ((List.range v).map (jA s a s.aW.length))):=gT
 clear aP gT
 refine aa 0 ?_
 refine aq (p:=(v:Int)<s.n) (fun ab=>?_) (fun au=>?_)
 ·have ab:v<N:=by omega
  refine aa 0 ?_
  refine ay [] (ZB s v _ hf hg) ?_
  refine aa 0 ?_
  refine cc (S:=Nat) (fun k=>[(1,.af (.slice (.int .u64)) a),(2,.ptr aG 0),(5,.via av),(6,.int .i64 v),(7,.af (.int .u64) (jA s a k v)),(20,.af dB s.aW),(21,.int .i64 s.aW.length),(22,.int .i64 k)]) (fun _=>(aG,bU s)::(acc++σ)) (fun k=>k≤s.aW.length) (fun k=>s.aW.length-k) 0 ⟨bD _,⟨rfl,rfl,rfl,rfl,rfl,rfl,rfl,rfl,trivial⟩,rfl⟩ ?_
  intro k t aP
  have hk:k≤s.aW.length:=aP
  clear aP
  refine aq (fun dy=>?_) (fun ji=>?_)
  ·have dy:k<s.aW.length:=by have dy:(k:Int)<s.aW.length:=dy;omega
   have he:=hg.uX _ (cj dy)
   have Ns:=xX s a dy v
   have hV:=Qr hf hg ha v k hk
   obtain⟨d,hd⟩:∃d:bE,s.aW[k]=d:=⟨_,rfl⟩
   rw[hd]at he Ns
   refine aI.mk rfl (bL.mk d (by omega) ((get_some dy).trans (congrArg some hd)) ?_)
   intro dw
   refine ai 0 ?_
   refine aa 0 ?_
   refine aq (p:=d.2.1=(v:Int)) (fun d1=>?_) (fun d1=>?_)
   ·obtain⟨i,hi⟩:∃i:Nat,d.1=i:=⟨d.1.toNat,by omega⟩
    have qz:i<a.length:=by omega
    have hga:a.getD d.1.toNat []=a[i]:=by rw[hi,bM,bg,bF qz];rfl
    have Nn:=ha.val _ (cj qz)
    have ho:=GG hf hg Nn.cy Nn.v (v:=i) (by omega)
    have hO:=fun σ=>adg s i a[i] σ hf hg (by omega) Nn
    have zg:jA s a (k+1) v=dr s.what (jA s a k v) (iF s a[i] i):=by rw[Ns];unfold uK;rw[ah d1,hga,hi,bM]
    rw[← hi]at hO
    generalize iF s a[i] i=o at ho hO zg
    refine .quiet (by kernel_rfl) ?_
    refine aa 1 ?_
    refine aa 1 ?_
    refine aa 0 ?_
    refine aa 0 ?_
    refine aI.mk rfl (bL.mk a[i] (by omega) (by rw[hi,bM];exact bF qz) ?_)
    refine aL [] (hO _) ?_
    refine aL [] (abg s.what (jA s a k v) o _ hV.cy ho.2 (ue hV.v ho.1) (fx (FQ hV.v) (by decide))) ?_
    refine bj (k+1) (by show s.aW.length-(k+1)<s.aW.length-k;omega) dy ⟨rfl,rfl,rfl,rfl,?_,rfl,rfl,aY (by omega),trivial⟩ (.drop 0 1 (.refl _))
    rw[zg];rfl
   ·have zg:jA s a (k+1) v=jA s a k v:=by rw[Ns];unfold uK;rw[ag d1]
    refine bj (k+1) (by show s.aW.length-(k+1)<s.aW.length-k;omega) dy ⟨rfl,rfl,rfl,rfl,?_,rfl,rfl,aY (by omega),trivial⟩ (.drop 0 1 (.refl _))
    rw[zg];rfl
  ·have ji:k=s.aW.length:=by have ji:¬(k:Int)<s.aW.length:=ji;omega
   subst ji
   intro dw
   refine ic [_,_] b9 (.ae 0 dw 0 1 _ rfl (cD rfl)) rfl (by omega) (by decide) (by decide) (fun v' aU h'=>?_)
   refine bj (v+1,v',aU) (by show N-(v+1)<N-v;omega) ⟨ab,?_⟩ ⟨rfl,rfl,rfl,aY (by omega),trivial⟩ (.drop 0 1 (aJ rfl))
   show Acc 1 (v+1) v' aU (vh ((List.range (v+1)).map (jA s a s.aW.length)))
   rw[sH,cO,vh,cO]
   exact h'
 ·have au:v=N:=by omega
  subst au
  refine qU (s:=.slice (.int .u64)) (l:=gH s a) [_] b9 ?_ ?_ (by decide) (.drop 0 1 (.done ⟨rfl,rfl⟩))
  ·exact ((OY s a _).trans (by rw[hN];omega)).symm
  ·rw[← Kx];unfold gH C5;rw[hN,bM]
def jd(s:Sy)(v:Int):Int:=if eX s=0 then (if dH s.n v=true then 0 else 1) else eX s
theorem YH{s:Sy}{v:Int}(h:¬eX s=0):eX s=jd s v:=(ag h).symm
theorem RT{s:Sy}{v:Int}(h:eX s=0)(hv:¬(0≤v∧v<s.n)):1=jd s v:=by unfold jd;rw[ah h,ag];rw[kP];exact hv
theorem F4{s:Sy}{v:Int}(h:eX s=0)(hv:0≤v∧v<s.n):0=jd s v:=by unfold jd;rw[ah h,ah];rw[kP];exact hv
theorem Xv{s:Sy}{v:Int}(h:jd s v=0):Good s∧0≤v∧v<s.n:=by
 unfold jd at h
 split at h
 ·rename_i h1
  split at h
  ·rename_i h2;exact⟨Lp h1,kP.1 h2⟩
  ·cases h
 ·rename_i h1;exact absurd h h1
theorem Sn(s:Sy)(v:Int)(σ:Hp)(hf:Fit s):ACalls Tryz.prog 211 [.agg (bU s),.int .i64 v] σ (aE (.int .i64 (jd s v)) σ):=by
 refine az Tryz.func211 ?_
 intro aG
 refine aa 0 ?_
 refine ay [] (Rf s _ hf) ?_
 refine ew (fun c1=>?_) (fun c1=>?_)
 ·have c1:(!decide (eX s=0))=true:=c1
  have c1:¬eX s=0:=by simpa using c1
  exact .drop 0 1 (.done ⟨aV (YH c1),rfl⟩)
 ·have c1:(!decide (eX s=0))=false:=c1
  have c1:eX s=0:=by simpa using c1
  refine aq (p:=v<0) (fun c2=>?_) (fun c2=>?_)
  ·exact .drop 0 1 (.done ⟨aV (RT c1 (by omega)),rfl⟩)
  ·refine aa 0 ?_
   refine aq (p:=s.n≤v) (fun c3=>?_) (fun c3=>?_)
   ·exact .drop 0 1 (.done ⟨aV (RT c1 (by omega)),rfl⟩)
   ·exact .drop 0 1 (.done ⟨aV (F4 c1 (by omega)),rfl⟩)
theorem Zv(s:Sy)(v:Int)(σ:Hp)(hf:Fit s):ACalls Tryz.prog 158 [.agg (bU s),.int .i64 v] σ (aE (.tup [.af (.int .u64) (sk (jd s v) (gv s v)),.int .i64 (jd s v)]) σ):=by
 refine az Tryz.func158 ?_
 intro aG
 refine aa 0 ?_
 refine ay [] (Sn s v _ hf) ?_
 refine ew (fun c1=>?_) (fun c1=>?_)
 ·have c1:(!decide (jd s v=0))=true:=c1
  have c1:¬jd s v=0:=by simpa using c1
  exact .nil (cE (.nil _) (.refl _)) (.drop 0 1 (.done ⟨by rw[GL c1];rfl,rfl⟩))
 ·have c1:(!decide (jd s v=0))=false:=c1
  have c1:jd s v=0:=by simpa using c1
  refine aa 0 ?_
  refine ay [] (aeo s v _ hf) ?_
  exact .drop 0 1 (.done ⟨by rw[CG c1,c1];rfl,rfl⟩)
def pv(s:Sy)(v:Int)(x:List Int):Int:=if jd s v=0 then (if cY s.what s.w x=true then 0 else 2) else jd s v
theorem aa6{s:Sy}{v:Int}(x:List Int)(h:¬jd s v=0):pv s v x=jd s v:=ag h
theorem RL{s:Sy}{v:Int}{x:List Int}(h:jd s v=0)(hv:cY s.what s.w x=true):pv s v x=0:=by unfold pv;rw[ah h,ah hv]
theorem ad6(s:Sy)(v:Int)(x:List Int)(σ:Hp)(hf:Fit s)(hx:bc x)(lx:x.length≤10000):ACalls Tryz.prog 399 [.agg (bU s),.int .i64 v,.af (.int .u64) x] σ (aE (.tup [.af (.int .u64) (sk (pv s v x) (iF s x v.toNat)),.int .i64 (pv s v x)]) σ):=by
 refine az Tryz.func399 ?_
 intro aG
 refine aa 0 ?_
 refine ay [] (Sn s v _ hf) ?_
 refine ew (fun c1=>?_) (fun c1=>?_)
 ·have c1:(!decide (jd s v=0))=true:=c1
  have c1:¬jd s v=0:=by simpa using c1
  have e:=aa6 x c1
  exact .nil (cE (.nil _) (.refl _)) (.drop 0 1 (.done ⟨by rw[e,GL c1];rfl,rfl⟩))
 ·have c1:(!decide (jd s v=0))=false:=c1
  have c1:jd s v=0:=by simpa using c1
  obtain⟨hg,ru,dm⟩:=Xv c1
  obtain⟨hT,NW⟩:=HP hg (v:=v.toNat) (by omega)
  have ht:=hf.ts _ (cj hT)
  have hc:=hg.D7 _ (cj hT)
  have hA:=fun σ=>ad5 s.what s.w s.T[v.toNat].1 s.T[v.toNat].2.1 s.T[v.toNat].2.2.1 x σ ht.1 ht.2.1 hx ht.2.2.1 ht.2.2.2.1 lx (fx ht.2.2.2.2 (by decide))
  have hoe:gd s.what s.T[v.toNat].1 s.T[v.toNat].2.1 s.T[v.toNat].2.2.1 x=iF s x v.toNat:=by unfold iF;rw[NW]
  have hE:uV s.what s.w s.T[v.toNat].1 s.T[v.toNat].2.1 s.T[v.toNat].2.2.1 x=pv s v x:=by unfold pv uV;rw[ah hc,ah c1]
  rw[hoe,hE]at hA
  refine .quiet (by kernel_rfl) ?_
  refine aa 0 ?_
  refine aa 0 ?_
  refine aa 0 ?_
  refine aI.mk rfl (bL.mk s.T[v.toNat] (by omega) (bF hT) ?_)
  refine aL [] (hA _) ?_
  exact .drop 0 1 (.done ⟨rfl,rfl⟩)
theorem abj(s:Sy)(σ:Hp):ACalls Tryz.prog 66 [.agg (bU s)] σ (aE (.int .i64 (IntKind.i64.wrap (IntKind.i64.wrap (s.n*gP s.what s.w)+1))) σ):=by
 refine az Tryz.func66 ?_
 intro aG
 refine .quiet (by kernel_rfl) ?_
 refine aa 0 ?_
 refine aa 0 ?_
 refine aa 0 ?_
 refine aL [] (abh _ _ _) ?_
 exact .drop 0 1 (.done ⟨rfl,rfl⟩)
theorem ZC(s:Sy)(lL:Nat)(σ:Hp)(hf:Fit s)(hg:Good s)(hm:lL≤1000000):ACalls Tryz.prog 65 [.agg (bU s),.int .i64 lL] σ (aE (.tup [.af (.slice (.int .u64)) (mI s lL (nh s) 0).1,.int .i64 (mI s lL (nh s) 0).2]) σ):=by
 refine az Tryz.func65 ?_
 intro aG
 refine aa 0 ?_
 refine ay [] (X4 s _ hg) ?_
 refine cc (S:=List (List Int)×Nat) (fun x=>[(1,.int .i64 lL),(2,.ptr aG 0),(6,.af (.slice (.int .u64)) x.1),(7,.int .i64 x.2)]) (fun _=>(aG,bU s)::σ) (fun x=>(kA s x.1∧x.2≤lL)∧mI s (lL-x.2) x.1 x.2=mI s lL (nh s) 0) (fun x=>lL-x.2) (nh s,0) ⟨⟨⟨JQ hg,bD _⟩,rfl⟩,⟨rfl,rfl,rfl,rfl,trivial⟩,rfl⟩ ?_
 rintro⟨a,k⟩ t ⟨⟨pK,aP⟩,hR0⟩
 have ha:kA s a:=pK
 have hk:k≤lL:=aP
 have hR:mI s (lL-k) a k=mI s lL (nh s) 0:=hR0
 clear pK aP hR0
 refine aq (p:=(k:Int)<lL) (fun ab=>?_) (fun au=>?_)
 ·have ab:k<lL:=by omega
  refine aa 0 ?_
  refine ay [] (abe s a _ hf hg ha) ?_
  refine eK [] (Sr a (gH s a) _ (ha.ok hg)) (fun d=>?_) (fun d=>?_)
  ·have d:a=gH s a:=fA d
   rw[Qu _ _ d]at hR
   exact .drop 0 1 (.done ⟨by rw[← hR];rfl,rfl⟩)
  ·have d:¬a=gH s a:=pO d
   rw[show lL-k=(lL-(k+1))+1 by omega,SK _ _ d]at hR
   exact bj (gH s a,k+1) (by show lL-(k+1)<lL-k;omega) ⟨⟨B2 hf hg ha,ab⟩,hR⟩ ⟨rfl,rfl,rfl,aY (by omega),trivial⟩ (.refl _)
 ·have au:k=lL:=by omega
  rw[au,pL]at hR
  exact .drop 0 1 (.done ⟨by rw[← hR];rfl,rfl⟩)
theorem lD{n:Int}{l:List bE}{a b:Int}:b∈ar n l a↔(0≤b∧b<n)∧(0≤a∧a<n)∧∃e∈l,e.1=a∧e.2.1=b:=by
 unfold ar jB
 rw[nQ,decide_eq_true_eq,dP,dP]
 constructor
 ·rintro⟨⟨i,hi,rfl⟩,e,he,h2⟩
  have hi:=gm.1 hi
  obtain⟨h3,h4⟩:=nQ.1 he
  simp only[bR,decide_eq_true_eq,kP]at h4
  exact⟨by omega,h4.1.2,e,h3,h4.1.1,h2⟩
 ·rintro⟨h1,h2,e,h3,h4,h5⟩
  refine⟨⟨b.toNat,gm.2 (by omega),by omega⟩,e,nQ.2 ⟨h3,?_⟩,h5⟩
  simp only[bR,decide_eq_true_eq,kP]
  exact⟨⟨h4,h2⟩,by omega⟩
theorem xW(n:Int)(l:List bE)(a:Int):(ar n l a).length≤n.toNat:=by
 unfold ar
 exact Nat.le_trans (List.length_filter_le _ _) (by simp)
theorem JS{s:Sy}(hf:Fit s)(hg:Good s){a:List (List Int)}(ha:kA s a)(v:Nat):∀k,k≤s.aW.length→dz s.what s.w (gv s v) (jA s a k v)∧∀e∈s.aW.take k,e.2.1=v→dz s.what s.w (iF s (a.getD e.1.toNat []) e.1.toNat) (jA s a k v)
 | 0,_=>⟨dz.refl (FU hf hg v),fun e he=>by cases he⟩
 |k+1,hk=>by
  obtain⟨h1,h2⟩:=JS hf hg ha v k (by omega)
  have ab:k<s.aW.length:=by omega
  have hv:=Qr hf hg ha v k (by omega)
  have he:=hg.uX _ (cj ab)
  have ho:eu s.what s.w (iF s (a.getD s.aW[k].1.toNat []) s.aW[k].1.toNat):=by
   have hx:=ha.get (i:=s.aW[k].1.toNat) (by omega)
   have:=GG hf hg hx.cy hx.v (v:=s.aW[k].1.toNat) (by omega)
   exact⟨this.1,this.2⟩
  have mi:dz s.what s.w (jA s a k v) (jA s a (k+1) v):=by
   rw[xX s a ab]
   unfold uK
   split
   ·exact dz.left hv ho
   ·exact dz.refl hv
  refine⟨h1.trans mi,fun e hm lA=>?_⟩
  rw[fL ab]at hm
  rcases bV.1 hm with hm | hm
  ·exact (h2 e hm lA).trans mi
  ·rw[bB.1 hm]at lA ⊢
   rw[xX s a ab]
   unfold uK
   rw[ah lA]
   exact dz.right hv ho
theorem acE{F':Nat→Prop}{w w':World}(h:bJ (fun b=>b<w.heap.size) w F' w'):∃q os,w'=Go.Sort.grow (w.drewN q) os:=by
 obtain⟨h1,h2,h3,h4,_,h6,_,h8⟩:=h
 have hh:w'.heap=w.heap++w'.heap.extract w.heap.size w'.heap.size:=by
  apply Array.ext
  ·simp only[Array.size_append,Array.size_extract];omega
  ·intro i hi pH
   by_cases ab:i<w.heap.size
   ·have e:=h6 i ab
    rw[xK hi,xK ab]at e
    rw[Array.getElem_append_left ab]
    exact Option.some.inj e
   ·rw[Array.getElem_append_right (by omega),Array.getElem_extract]
    congr 1;omega
 refine⟨w'.drawn-w.drawn,w'.heap.extract w.heap.size w'.heap.size,?_⟩
 have hd:w.drawn+(w'.drawn-w.drawn)=w'.drawn:=by omega
 unfold Go.Sort.grow World.drewN
 cases w' with
 |mk heap tape drawn os output=>
  simp only at h1 h2 h3 hh hd ⊢
  rw[h1,h2,h3,← hh,hd]
theorem XW{f:FuncId}{xs:List AV}{k:IntKind}{z:Int}(h:∀σ,ACalls Tryz.prog f xs σ (aE (.int k z) σ)){w:World}{vs:Array Value}(hv:jf (fun b=>b<w.heap.size) w xs vs):Calls Tryz.prog f vs w fun e w'=>e=.returned (.int k z)∧∃q os,w'=Go.Sort.grow (w.drewN q) os:=by
 refine ((h []).2 (fun b=>b<w.heap.size) w vs hv ⟨Ow,fun p hp=>absurd hp Bx,fun b hb=>hb⟩).mono ?_
 rintro e w' ⟨r,v,σ',F',rfl,ao,_,hr,rfl,_⟩
 refine⟨?_,acE ao⟩
 rw[hr.gh]
section
variable {F:Nat→Prop} {w:World} {σ:Hp}
end
variable {α:Type} {f:α→List AV} {n:Nat}
theorem PH(hf:∀x,(f x).length=n)(l:List α):(l.flatMap f).length=l.length*n:=v8 hf l
theorem JT:∀(vs A B C:List AV),B.length=vs.length→ga (A++(B++C)) A.length vs=A++(vs++C)
 | [],A,B,C,h=>by
  obtain rfl:=jv.1 h
  rfl
 |v::vs,A,b::B,C,h=>by
  show ga ((A++(b::(B++C))).set A.length v) (A.length+1) vs=_
  have e:(A++(b::(B++C))).set A.length v=(A++[v])++(B++C):=by
   rw[List.set_append_right _ _ (Nat.le_refl _),Nat.sub_self];simp
  rw[e,show A.length+1=(A++[v]).length by simp,JT vs (A++[v]) B C (by simpa using h)]
  simp
theorem abR(hf:∀x,(f x).length=n){l:List α}{k:Nat}(h:k<l.length)(d:α):ga (l.flatMap f) (k*n) (f d)=(l.set k d).flatMap f:=by
 have e:l=l.take k++([l[k]]++l.drop (k+1)):=by simp
 have e2:l.set k d=l.take k++([d]++l.drop (k+1)):=by
  rw[List.set_eq_take_append_cons_drop,ah h];rfl
 have hk:((l.take k).flatMap f).length=k*n:=by rw[PH hf,zq,Ol (Nat.le_of_lt h)]
 rw[e2]
 conv=>lhs;rw[e]
 rw[vT,vT,vT,vT,List.flatMap_singleton,List.flatMap_singleton,← hk]
 exact JT _ _ _ _ (by rw[hf,hf])
theorem Yp{i:TI}(hs:i.size=n)(hf:∀x,(f x).length=n){l:List α}{k:Nat}(h:k<l.length)(d:α){z:Int}(hz:z=k):kQ i (l.flatMap f) (0+z.toNat*n) (.agg (f d))=some ((l.set k d).flatMap f):=by
 subst hz
 have hl:=PH hf l
 have hm:(k+1)*n≤l.length*n:=lY n h
 rw[qB,Nat.one_mul]at hm
 have hb:Nat.ble (0+k*n+n) (l.flatMap f).length=true:=Oz (by rw[hl];omega)
 have hq:Nat.beq (f d).length n=true:=by rw[hf];exact xF n
 unfold kQ
 rw[hs]
 show (match Nat.beq (f d).length n,Nat.ble (0+k*n+n) (l.flatMap f).length with | true,true=>some (ga (l.flatMap f) (0+k*n) (f d)) | _,_=>none)=_
 rw[hb,hq]
 show some (ga (l.flatMap f) (0+k*n) (f d))=_
 rw[ef,abR hf h]
abbrev tk:Sh:=.field (.int .i64) (.field (.int .i64) .nil)
theorem K7{α:Type}(fr σ:List α)(x y:α):(fr++(x::σ)).set fr.length y=fr++(y::σ):=by
 rw[JC _ _ (a8 _),pL];rfl
theorem abp(l:List (Sh.T tk))(σ:Hp)(hl:l.length≤1000000):ACalls Tryz.prog 180 [.af tk l] σ (fun x σ'=>∃acc,Acc 2 l.length x acc (l.flatMap (Sh.cells tk))∧σ'=acc++σ):=by
 refine FM (fun h=>⟨?_,?_⟩) (fun h=>?_)
 ·subst h
  refine az Tryz.func180 ?_
  exact .done ⟨[],.nil,rfl⟩
 ·subst h
  refine az Tryz.func180 ?_
  intro b
  refine AppendAt.more 0 b 0 0 [] _ rfl rfl (cD rfl) .ia (by decide) (by decide) (by decide) (fun b'=>?_)
  exact .done ⟨[(b',[])],.ae b' 0 [] rfl,rfl⟩
 ·refine az Tryz.func180 ?_
  refine aI.mk (mW.2 h) ?_
  intro b
  refine AppendAt.more 0 b 0 l.length [] _ rfl rfl (cD rfl) (.af tk l rfl) (by omega) (by decide) (by decide) (fun b'=>?_)
  refine .done ⟨[(b',l.flatMap (Sh.cells tk))],?_,rfl⟩
  rw[ef];exact .ae b' l.length _ (v8 (f:=Sh.cells tk) (es:=2) (fun _=>rfl) l)
theorem abo(l:List (Sh.T tk))(σ:Hp)(hl:l.length≤1000000):ACalls Tryz.prog 180 [.af tk l] σ (aE (.af tk l) σ):=by
 refine (abp l σ hl).fin ?_
 rintro v σ' ⟨acc,b9,rfl⟩
 exact qU (s:=tk) [] b9 rfl rfl (by decide) (.done ⟨rfl,rfl⟩)
theorem abn(l:List (Sh.T (.int .i64)))(σ:Hp)(hl:l.length≤1000000):ACalls Tryz.prog 220 [.af (.int .i64) l] σ (fun x σ'=>∃acc,Acc 1 l.length x acc (l.flatMap (Sh.cells (.int .i64)))∧σ'=acc++σ):=by
 refine FM (fun h=>⟨?_,?_⟩) (fun h=>?_)
 ·subst h
  refine az Tryz.func220 ?_
  exact .done ⟨[],.nil,rfl⟩
 ·subst h
  refine az Tryz.func220 ?_
  intro b
  refine AppendAt.more 0 b 0 0 [] _ rfl rfl (cD rfl) .ia (by decide) (by decide) (by decide) (fun b'=>?_)
  exact .done ⟨[(b',[])],.ae b' 0 [] rfl,rfl⟩
 ·refine az Tryz.func220 ?_
  refine aI.mk (mW.2 h) ?_
  intro b
  refine AppendAt.more 0 b 0 l.length [] _ rfl rfl (cD rfl) (.af (.int .i64) l rfl) (by omega) (by decide) (by decide) (fun b'=>?_)
  refine .done ⟨[(b',l.flatMap (Sh.cells (.int .i64)))],?_,rfl⟩
  rw[ef];exact .ae b' l.length _ (v8 (f:=Sh.cells (.int .i64)) (es:=1) (fun _=>rfl) l)
theorem abm(l:List (Sh.T (.int .i64)))(σ:Hp)(hl:l.length≤1000000):ACalls Tryz.prog 220 [.af (.int .i64) l] σ (aE (.af (.int .i64) l) σ):=by
 refine (abn l σ hl).fin ?_
 rintro v σ' ⟨acc,b9,rfl⟩
 exact qU (s:=(.int .i64)) [] b9 rfl rfl (by decide) (.done ⟨rfl,rfl⟩)
theorem abr(l:List (Sh.T jz))(σ:Hp)(hl:l.length≤1000000):ACalls Tryz.prog 222 [.af jz l] σ (fun x σ'=>∃acc,Acc 8 l.length x acc (l.flatMap (Sh.cells jz))∧σ'=acc++σ):=by
 refine FM (fun h=>⟨?_,?_⟩) (fun h=>?_)
 ·subst h
  refine az Tryz.func222 ?_
  exact .done ⟨[],.nil,rfl⟩
 ·subst h
  refine az Tryz.func222 ?_
  intro b
  refine AppendAt.more 0 b 0 0 [] _ rfl rfl (cD rfl) .ia (by decide) (by decide) (by decide) (fun b'=>?_)
  exact .done ⟨[(b',[])],.ae b' 0 [] rfl,rfl⟩
 ·refine az Tryz.func222 ?_
  refine aI.mk (mW.2 h) ?_
  intro b
  refine AppendAt.more 0 b 0 l.length [] _ rfl rfl (cD rfl) (.af jz l rfl) (by omega) (by decide) (by decide) (fun b'=>?_)
  refine .done ⟨[(b',l.flatMap (Sh.cells jz))],?_,rfl⟩
  rw[ef];exact .ae b' l.length _ (v8 (f:=Sh.cells jz) (es:=8) (fun _=>rfl) l)
theorem abq(l:List (Sh.T jz))(σ:Hp)(hl:l.length≤1000000):ACalls Tryz.prog 222 [.af jz l] σ (aE (.af jz l) σ):=by
 refine (abr l σ hl).fin ?_
 rintro v σ' ⟨acc,b9,rfl⟩
 exact qU (s:=jz) [] b9 rfl rfl (by decide) (.done ⟨rfl,rfl⟩)
theorem acX(l:List Int)(σ:Hp)(hl:l.length≤1000000):ACalls Tryz.prog 221 [.af (.int .u64) l] σ (fun x σ'=>∃b,x=.ae b 0 l.length 1∧σ'=(b,aO l)::σ):=by
 refine az Tryz.func221 ?_
 have hn:(l.length:Int)≤1048576:=by omega
 refine aI.mk ⟨Jm _,kq _,hn,by decide⟩ ?_
 intro aG
 have hr:(cM [.int .u64 0] ((l.length:Int)).toNat).length=l.length:=by rw[bM,vZ];exact dO _
 refine L1.ae 0 aG 0 l.length l.length _ (l.flatMap (Sh.cells (.int .u64))) rfl rfl (by show 0+l.length*1≤(cM [.int .u64 0] ((l.length:Int)).toNat).length;rw[hr];omega) (.af (.int .u64) l rfl) (a8 _) ?_
 have he:ga (cM [.int .u64 0] ((l.length:Int)).toNat) 0 (l.flatMap (Sh.cells (.int .u64)))=aO l:=by
  rw[← kO]
  have h:=JT (aO l) [] (cM [.int .u64 0] ((l.length:Int)).toNat) [] (by rw[hr];simp[aO])
  simpa using h
 exact .done ⟨aG,rfl,congrArg (fun cs=>(aG,cs)::σ) he⟩
theorem Lt(l:List Int)(σ:Hp)(hl:l.length≤1000000):ACalls Tryz.prog 221 [.af (.int .u64) l] σ (aE (.af (.int .u64) l) σ):=by
 refine (acX l σ hl).fin ?_
 rintro v σ' ⟨b,rfl,rfl⟩
 exact .cJ 0 b 0 l.length 1 _ (.int .u64) l rfl (by rw[List.drop_zero,← kO];exact List.take_of_length_le (by simp[aO])) ⟨rfl,rfl,by decide⟩ .here (.done ⟨rfl,rfl⟩)
def yv:Option mw→List AV
 |none=>[.aj,.aj,.aj]
 |some t=>[.af (.int .u64) t.1,.af (.int .u64) t.2.1,.af jz t.2.2.1]
theorem Ye(t:Option mw):(yv t).length=3:=by cases t <;> rfl
def tA(T:List mw)(k:Nat):List (Option mw):=(T.take k).map some++List.replicate (T.length-k) none
theorem Y7(T:List mw):(tA T 0).flatMap yv=cM [.aj,.aj,.aj] T.length:=by
 show (List.replicate (T.length-0) none).flatMap yv=_
 rw[Nat.sub_zero]
 generalize T.length=n
 induction n with
 |zero=>rfl
 |succ n ih=>rw[Ox,zr,ih];rfl
theorem aaI{T:List mw}{k:Nat}(h:k≤T.length):(tA T k).length=T.length:=by unfold tA;simp;omega
theorem aaH{T:List mw}{k:Nat}(h:k<T.length):(tA T k).set k (some T[k])=tA T (k+1):=by
 unfold tA
 rw[List.set_append_right _ _ (by simp;omega)]
 have e:T.length-k=(T.length-(k+1))+1:=by omega
 have e2:k-((T.take k).map some).length=0:=by simp;omega
 rw[e2,e,Ox,fL h]
 simp only[cO,oR,List.map_nil,dQ,E0,vQ,List.set_cons_zero]
theorem aaJ(T:List mw):(tA T T.length).flatMap yv=T.flatMap (Sh.cells kR):=by
 unfold tA
 rw[pL,gn,List.replicate_zero,mU,List.flatMap_map]
 rfl
theorem Zw(s:Sy)(σ:Hp)(hf:Fit s):ACalls Tryz.prog 162 [.agg (bU s)] σ (aE (.agg (bU s)) σ):=by
 refine az Tryz.func162 ?_
 intro aG
 intro dw
 refine .sched [2,5,8] (upto [2,5,8] 15 0) (by kernel_rfl) ?_
 refine aa 1 ?_
 refine aL [] (abo s.aW _ (fx hf.DW (by decide))) ?_
 refine aa 1 ?_
 refine aL [] (abm s.entry _ (fx hf.AT (by decide))) ?_
 refine aa 1 ?_
 refine aL [] (Lt s.init _ (fx hf.DH (by decide))) ?_
 refine ai 1 ?_
 refine ai 1 ?_
 refine ai 1 ?_
 refine aa 1 ?_
 have hT:=hf.Mw
 have EH:(s.T.length:Int)≤1048576:=by omega
 refine aI.mk ⟨Jm _,kq _,EH,by decide⟩ ?_
 intro bt
 have IX:(bt,cM [AV.aj,AV.aj,AV.aj] ((s.T.length:Int)).toNat)=(bt,(tA s.T 0).flatMap yv):=by rw[Y7,bM]
 refine aa 2 ?_
 refine cc (S:=Nat) (fun k=>[(1,.ptr aG 0),(2,.ptr dw 0),(3,.ae bt 0 s.T.length 3),(23,.af kR s.T),(24,.int .i64 s.T.length),(25,.int .i64 k)]) (fun k=>(bt,(tA s.T k).flatMap yv)::(dw,[.int .i64 0,.int .i64 0,.int .i64 0,.aj,.aj,.aj,.aj])::(aG,bU s)::σ) (fun k=>k≤s.T.length) (fun k=>s.T.length-k) 0 ⟨bD _,⟨rfl,rfl,rfl,rfl,rfl,rfl,trivial⟩,congrArg (· :: (dw,([.int .i64 0,.int .i64 0,.int .i64 0,.aj,.aj,.aj,.aj]:List AV))::(aG,bU s)::σ) IX⟩ ?_
 rintro k g aP
 have hk:k≤s.T.length:=aP
 clear aP
 refine aq (fun ab=>?_) (fun au=>?_)
 ·have ab:k<s.T.length:=by have ab:(k:Int)<s.T.length:=ab;omega
  have k9:=aaH ab
  have sr:=hf.ts _ (cj ab)
  obtain⟨t,ht⟩:∃t:mw,s.T[k]=t:=⟨_,rfl⟩
  rw[ht]at k9 sr
  obtain⟨t1,t2,t3,tu⟩:=t
  obtain⟨_,_,l1,l2,l3⟩:=sr
  have l1:t1.length≤10000:=l1
  have l2:t2.length≤10000:=l2
  have l3:t3.length≤100000:=l3
  refine aI.mk rfl (bL.mk (t1,t2,t3,tu) (by omega) ((get_some ab).trans (congrArg some ht)) ?_)
  intro aG
  refine ai 0 ?_
  refine .sched [4,7,10] (upto [4,7,10] 14 0) (by kernel_rfl) ?_
  refine aa 0 ?_
  refine aL [] (Lt t1 _ (fx l1 (by decide))) ?_
  refine aa 0 ?_
  refine aL [] (Lt t2 _ (fx l2 (by decide))) ?_
  refine aa 0 ?_
  refine aL [] (abq t3 _ (fx l3 (by decide))) ?_
  refine aM ?_
  refine da 1 rfl ((Yp rfl Ye (by rw[aaI hk];exact ab) (some (t1,t2,t3,tu)) rfl).trans (congrArg (fun l=>some (List.flatMap yv l)) k9)) ?_
  exact bj (k+1) (by show s.T.length-(k+1)<s.T.length-k;omega) ab ⟨rfl,rfl,rfl,rfl,rfl,aY (by omega),trivial⟩ (.drop 0 1 (.refl _))
 ·have au:k=s.T.length:=by have au:¬(k:Int)<s.T.length:=au;omega
  subst au
  rw[aaJ]
  refine ai 2 ?_
  refine aa 2 ?_
  refine ai 1 ?_
  refine aa 1 ?_
  refine .cJ 0 bt 0 s.T.length 3 _ kR s.T rfl ?_ ⟨rfl,rfl,by decide⟩ (CL (cE (.refl _) (cE (.refl _) (cE (.refl _) (cE (.refl _) (cE (.refl _) (cE (.refl _) (cE .here uw))))))) rfl) (.drop 0 2 (.done ⟨rfl,rfl⟩))
  rw[gM]
  exact eG (Bs (v8 (f:=Sh.cells kR) (es:=3) (fun _=>rfl) s.T))
theorem Tp{F:Nat→Prop}{w:World}{σ:Hp}(h:bA F w σ){i b' k:Nat}{cs':List AV}{c c':AV}(hl:c'.leaf=true)(er:c.leaf=true)(hc:∀v,aA F w c v→aA F w c' v)(hi:σ[i]?=some (b',cs'))(hk:cs'[k]?=some c):bA F w (σ.set i (b',cs'.set k c')):=by
 refine⟨?_,fun p hp=>?_,h.low⟩
 ·have e1:(σ.set i (b',cs'.set k c')).map Prod.fst=σ.map Prod.fst:=by
   rw[oS]
   refine List.ext_getElem (by simp) fun j h1 h2=>?_
   rw[Jh]
   split
   ·rename_i hj;subst hj
    obtain⟨q1,q2⟩:=cg.1 hi
    rw[Jg,q2]
   ·rfl
  rw[e1];exact h.nodup
 ·rcases qH hp with hp | rfl
  ·exact h.holds p hp
  ·obtain⟨h1,c0,T,h2,h3,h4⟩:=(h.holds _ (cq hi)).Ma hk er
   refine⟨h1,.inl ⟨c0,T,h2,by rw[cN];exact h3,fun j x hx=>?_⟩⟩
   rw[e8]at hx
   split at hx
   ·rename_i hj;subst hj
    split at hx
    ·cases hx
     exact⟨hl,hc _ (h4 k _ hk).2⟩
    ·cases hx
   ·exact h4 j x hx
abbrev jT:=AV×Hp×List Int
def yz(r:jT):Prop:=(r.1=.aj∧r.2.1=[]∧r.2.2=[])∨(∃v,r.1=.via v∧Acc 1 r.2.2.length v r.2.1 (an r.2.2))
def j8(rs:List jT):List AV:=rs.map (·.1)
def lG(rs:List jT):Hp:=rs.flatMap (·.2.1)
def kX(rs:List jT):List (List Int):=rs.map (·.2.2)
theorem Lb:∀(A:List (List Int)) (l:List Int) (B:List AV),(cC A++.af (.int .i64) l::B)=cC (A++[l])++B
 | [],_,_=>rfl
 |a::A,l,B=>congrArg (AV.af (.int .i64) a :: ·) (Lb A l B)
theorem ac7(A:List (List Int)):(cC A).length=A.length:=cm _
theorem K8{w:World}{bo:Nat}{σ:Hp}:∀(B:List jT) (A:List (List Int)) (F:Nat→Prop),(∀r∈B,yz r)→bA F w ((bo,cC A++j8 B)::(lG B++σ))→∃F',bJ F w F' w∧bA F' w ((bo,cC (A++kX B))::σ)
 | [],A,F,_,h=>⟨F,⟨rfl,rfl,rfl,a8 _,fun _ h=>h,fun _ _=>rfl,fun _ c _ fz h=>⟨c,fz,h,rfl⟩,a8 _⟩,by
  have h:bA F w ((bo,cC A++[])::σ):=h
  rw[mU]at h
  rw[show A++kX []=A from mU _]
  exact h⟩
 |(c,acc,l)::B,A,F,hB,h=>by
  have hB':∀r∈B,yz r:=fun r hr=>hB r (cW _ hr)
  have h:bA F w ((bo,cC A++c::j8 B)::(acc++lG B++σ)):=h
  have hk:(cC A++c::j8 B)[(cC A).length]?=some c:=by simp
  have ri:acc=[]→l=[]→c.leaf=true→(∀v,aA F w c v→aA F w (.af (.int .i64) []) v)→∃F',bJ F w F' w∧bA F' w ((bo,cC (A++kX ((c,acc,l)::B)))::σ):=fun h1 h2 er h3=>by
   subst h1;subst h2
   have this:bA F w ((bo,(cC A++c::j8 B).set (cC A).length (.af (.int .i64) []))::(lG B++σ)):=Tp h (c':=.af (.int .i64) []) rfl er h3 (i:=0) rfl hk
   rw[K7]at this
   have this:bA F w ((bo,cC A++.af (.int .i64) []::j8 B)::(lG B++σ)):=this
   have this:bA F w ((bo,cC (A++[[]])++j8 B)::(lG B++σ)):=(Lb A [] (j8 B))▸this
   obtain⟨F',q1,q2⟩:=K8 B (A++[[]]) F hB' this
   rw[dQ]at q2
   exact⟨F',q1,q2⟩
  have fY:∀v,aA F w .aj v→aA F w (.af (.int .i64) []) v:=fun v hv=>by
   cases hv
   exact .af (.int .i64) [] _ ⟨none,0,rfl,a8 _,by unfold maxLen;omega,fun _=>rfl,fun aS=>absurd rfl aS⟩
  rcases hB _ (ck ..) with ⟨h1,h2,h3⟩ | ⟨v,h1,h2⟩
  ·have h1:c=.aj:=h1
   exact ri h2 h3 (by rw[h1];rfl) (by rw[h1];exact fY)
  ·have h1:c=.via v:=h1
   subst h1
   have h2:Acc 1 l.length v acc (an l):=h2
   generalize hn:l.length=n at h2
   generalize hc:an l=cs at h2
   cases h2 with
   |nil=>
    exact ri rfl (jv.1 hn) rfl (by
     intro v hv
     cases hv with
     |via _ _ _ hv=>exact fY _ hv)
   |ae b k cs hl=>
    subst hn
    subst hc
    have h5:bA F w ((bo,(cC A++.via (.ae b 0 l.length 1)::j8 B).set (cC A).length (.ae b 0 l.length 1))::(b,an l)::(lG B++σ)):=Tp h (c':=.ae b 0 l.length 1) rfl rfl (by
     intro v hv
     cases hv with
     |via _ _ _ hv=>exact hv) (i:=0) rfl hk
    rw[K7]at h5
    have h5:bA F w ((bo,cC A++.ae b 0 l.length 1::j8 B)::(b,an l)::(lG B++σ)):=h5
    obtain⟨ao,aF,hh⟩:=uF h5 (j:=1) (b:=b) (off:=0) (len:=l.length) (es:=1) (cs:=an l) (e:=.int .i64) (l:=l) rfl (by rw[gM,← ui];exact eG (by rw[Lm];omega)) ⟨rfl,rfl,by decide⟩
    have h6:bA _ w ((bo,(cC A++.ae b 0 l.length 1::j8 B).set (cC A).length (.af (.int .i64) l))::(lG B++σ)):=Cu aF hh (i:=0) (k:=(cC A).length) (b':=bo) rfl (by simp)
    rw[K7]at h6
    have h6:bA _ w ((bo,cC A++.af (.int .i64) l::j8 B)::(lG B++σ)):=h6
    rw[Lb]at h6
    obtain⟨F',q1,q2⟩:=K8 B (A++[l]) _ hB' h6
    rw[dQ]at q2
    exact⟨F',ao.trans q1,q2⟩
theorem Xb{f:FuncId}{xs:List AV}{σ0 σ:Hp}{Q:List (List Int)→Prop}(h:ACalls Tryz.prog f xs σ0 (fun r σ'=>∃bo rs,r=.ae bo 0 (rs:List jT).length 1∧σ'=(bo,j8 rs)::(lG rs++σ)∧(∀r∈rs,yz r)∧Q (kX rs))):ACalls Tryz.prog f xs σ0 (fun r σ'=>∃ls:List (List Int),r=.af (.slice (.int .i64)) ls∧σ'=σ∧Q ls):=
 ⟨h.1,fun F w vs bS aF=>(h.2 F w vs bS aF).mono fun _ w' ⟨r,v,σ',F',h1,h2,h3,h4,h5⟩=>by
  obtain⟨bo,rs,rfl,rfl,q1,q2⟩:=h5
  obtain⟨F2,k1,k2⟩:=K8 rs [] F' q1 h3
  have hl:(kX rs).length=rs.length:=cm _
  have k2:bA F2 w' ((bo,cC (kX rs))::σ):=k2
  obtain⟨m1,m2,m3⟩:=uF k2 (j:=0) (b:=bo) (off:=0) (len:=rs.length) (es:=1) (cs:=cC (kX rs)) (e:=.slice (.int .i64)) (l:=kX rs) rfl (by rw[gM,← wC];exact eG (by rw[ac7,hl];omega)) ⟨hl,rfl,by decide⟩
  exact⟨.af (.slice (.int .i64)) (kX rs),v,σ,_,h1,(h2.trans k1).trans m1,m2,m3 v (h4.mono k1),kX rs,rfl,rfl,q2⟩⟩
theorem Yo(rs:List jT):(j8 rs).length=rs.length:=cm _
theorem Z6(A:List jT)(r:jT)(B:List jT){z:Int}(hz:z=A.length):(j8 (A++r::B))[0+z.toNat*1]?=some r.1:=by
 subst hz
 rw[bM,dO,ef]
 unfold j8
 rw[fo]
 simp
theorem Yn(A:List jT)(r r2:jT)(B:List jT){z:Int}(hz:z=A.length):(j8 (A++r::B)).set (0+z.toNat*1) r2.1=j8 (A++r2::B):=by
 subst hz
 rw[bM,dO,ef]
 unfold j8
 simp
theorem Z9(n:Nat):cM [.aj] n=j8 (List.replicate n (.aj,[],[])):=by
 induction n with
 |zero=>rfl
 |succ n ih=>show AV.aj::cM [.aj] n=_;rw[ih];rfl
theorem Yq(n:Nat):lG (List.replicate n (.aj,[],[]))=[]:=by
 induction n with
 |zero=>rfl
 |succ n ih=>exact ih
theorem Kg(A:List jT)(r:jT)(B:List jT)(σ:Hp):lG (A++r::B)++σ=lG A++(r.2.1++(lG B++σ)):=by
 unfold lG
 simp
def dv(s:Sy)(k:Int):Int:=if eX s=0 then (if 1≤k∧k≤64 then 0 else 1) else eX s
theorem afA{s:Sy}{k:Int}(h:¬eX s=0):eX s=dv s k:=(ag h).symm
theorem afz{s:Sy}{k:Int}(h:eX s=0)(hk:¬(1≤k∧k≤64)):1=dv s k:=by unfold dv;rw[ah h,ag hk]
theorem afy{s:Sy}{k:Int}(h:eX s=0)(hk:1≤k∧k≤64):0=dv s k:=by unfold dv;rw[ah h,ah hk]
def qs(e n:Int):Int:=if e=0 then n else 0
def AW(s:Sy)(k:Int):List AV:=[.int .i64 (qs (dv s k) s.what),.int .i64 (qs (dv s k) (eH s.what s.w)),.int .i64 (qs (dv s k) s.n),.int .i64 (qs (dv s k) k)]
theorem aak{s:Sy}{k:Int}(h:¬eX s=0):AV.tup [.agg [.int .i64 0,.int .i64 0,.int .i64 0,.int .i64 0],.int .i64 (eX s)]=.tup [.agg (AW s k),.int .i64 (dv s k)]:=by unfold AW qs;rw[← afA h];simp only[ag h]
theorem RR{s:Sy}{k:Int}(h:eX s=0)(hk:¬(1≤k∧k≤64)):AV.tup [.agg [.int .i64 0,.int .i64 0,.int .i64 0,.int .i64 0],.int .i64 1]=.tup [.agg (AW s k),.int .i64 (dv s k)]:=by unfold AW qs;rw[← afz h hk];rfl
theorem acn{s:Sy}{k:Int}(h:eX s=0)(hk:1≤k∧k≤64):AV.tup [.agg [.int .i64 s.what,.int .i64 (eH s.what s.w),.int .i64 s.n,.int .i64 k],.int .i64 0]=.tup [.agg (AW s k),.int .i64 (dv s k)]:=by unfold AW qs;rw[← afy h hk];rfl
end Go.Proofs.YtnikdflhefijbaaGreat
