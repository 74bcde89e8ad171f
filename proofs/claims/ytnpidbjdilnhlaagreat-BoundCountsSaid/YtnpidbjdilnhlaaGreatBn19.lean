import Derived.Test.YtnpidbjdilnhlaaGreatBn18
namespace Go.Proofs.YtnpidbjdilnhlaaGreat
open Go.RowKit
set_option maxRecDepth 100000
section
variable {F:Nat→Prop} {w:World} {σ:Hp}
theorem WH(h:aM F w σ)(os:Array Obj):aQ F w F (Go.Sort.grow w os)∧aM F (Go.Sort.grow w os) σ:=by
 have dz:(Go.Sort.grow w os).heap.size=w.heap.size+os.size:=by simp[Go.Sort.grow]
 have au:∀b,b<w.heap.size→(Go.Sort.grow w os).heap[b]?=w.heap[b]?:=fun b hb=>by
  show (w.heap++os)[b]?=_
  rw[Array.getElem?_append_left hb]
 have ak:aQ F w F (Go.Sort.grow w os):=⟨rfl,rfl,rfl,by omega,fun _ h=>h,fun b hb=>au b (h.low b hb),fun b c T fz hc=>⟨c,fz,by
  rw[au b (Array.getElem?_eq_some_iff.1 hc).1];exact hc,rfl⟩,Nat.le_refl _⟩
 exact⟨ak,h.nodup,fun p hp=>(h.holds p hp).mono ak (au _ (h.holds p hp).lt) (h.holds p hp).1,fun b hb=>by have:=h.low b hb;omega⟩
theorem kU(zs:List Int):(aj zs).length=zs.length:=by unfold aj;simp
theorem YL(zs:List Int){i:Nat}{x:AV}(h:(aj zs)[i]?=some x):∃h2:i<zs.length,x=.int .i64 zs[i]:=by
 unfold aj at h
 rw[List.getElem?_map]at h
 cases hz:zs[i]? with
 | none=>rw[hz]at h;cases h
 | some z =>
  rw[hz]at h
  obtain⟨h2,h3⟩:=List.getElem?_eq_some_iff.1 hz
  exact⟨h2,by cases h;rw[h3]⟩
theorem YO(zs:List Int){i:Nat}(h:i<zs.length):(aj zs)[i]?=some (.int .i64 zs[i]):=by unfold aj;rw[List.getElem?_map,List.getElem?_eq_getElem h];rfl
theorem Holds.Ht{F:Nat→Prop}{w:World}{b:Nat}{cs:List AV}(h:Holds F w b cs)(hn:∀x∈cs,x.leaf=true):¬F b∧Ap F w b cs:=by
 obtain⟨hF,h | ⟨x,o,e,_,hx⟩ | ⟨L,t,e,_⟩⟩:=h
 ·exact⟨hF,h⟩
 ·subst e;have:=hn _ (List.mem_cons_self ..);rw[CC hx]at this;cases this
 ·subst e;cases hn _ (List.mem_cons_self ..)
theorem NK(zs:List Int):∀x∈aj zs,x.leaf=true:=fun x hx=>by
 obtain⟨z,_,rfl⟩:=List.mem_map.1 hx;rfl
theorem De{b n:Nat}{zs zs':List Int}(h:aM F w ((b,aj zs)::σ))(hl:zs'.length=zs.length)(os:Array Obj):
  aQ F w F (Go.Sort.grow (Go.Sort.putRow (Value.int .i64) (Go.Sort.ahead w n) b 0 zs'.toArray) os)∧aM F (Go.Sort.grow (Go.Sort.putRow (Value.int .i64) (Go.Sort.ahead w n) b 0 zs'.toArray) os) ((b,aj zs')::σ):=by
 obtain⟨hF,c,T,hc,hle,ny⟩:=(h.holds _ (List.mem_cons_self ..)).Ht (NK zs)
 have hle:(aj zs).length≤c.size:=hle
 rw[kU]at hle
 have hc:w.heap[b]?=some (.cells c T (0,0)):=hc
 have rf:∀k,k<zs'.length→(Go.Sort.putCells (Value.int .i64) 0 zs'.toArray c).getD k undef=Value.int .i64 (zs'.getD k 0):=fun k hk=>by
  have wJ:k<c.size:=by omega
  unfold Go.Sort.putCells
  rw[Array.getD_eq_getD_getElem?,Array.getElem?_mapIdx,Array.getElem?_eq_getElem wJ]
  simp only[Option.map_some,Option.getD_some]
  rw[if_pos ⟨Nat.zero_le _,by simpa using hk⟩,Nat.sub_zero,List.getD_eq_getElem?_getD,List.getElem?_eq_getElem hk]
  simp[hk]
 have key:=xc (F:=F) (w:=w) (w':=Go.Sort.putRow (Value.int .i64) (Go.Sort.ahead w n) b 0 zs'.toArray) h (j:=0) (b:=b) (cs:=aj zs) (cs':=aj zs') rfl hc (c':=Go.Sort.putCells (Value.int .i64) 0 zs'.toArray c) (by simp[Go.Sort.putCells]) (by rw[kU];simp[Go.Sort.putCells];omega)
  (fun i x hx=>by
   obtain⟨h2,rfl⟩:=YL zs' hx
   refine⟨rfl,?_⟩
   rw[rf i h2,List.getD_eq_getElem?_getD,List.getElem?_eq_getElem h2]
   exact .int _ _)
  (fun k hk=>by
   show (w.heap.modify b _)[k]?=_
   rw[Array.getElem?_modify,if_neg (fun e=>hk e.symm)])
  (by
   show (w.heap.modify b _)[b]?=_
   rw[Array.getElem?_modify,if_pos rfl,hc];rfl)
  rfl rfl rfl (by simp[Go.Sort.ahead])
 obtain⟨k1,k2⟩:=key
 obtain⟨g1,g2⟩:=WH k2 os
 exact⟨k1.trans g1,g2⟩
theorem G3{b:Nat}{zs:List Int}(h:aM F w ((b,aj zs)::σ)):Go.Sort.Holds (Value.int .i64) w b 0 zs.toArray∧b<w.heap.size:=by
 obtain⟨hF,c,T,hc,hle,ny⟩:=(h.holds _ (List.mem_cons_self ..)).Ht (NK zs)
 have hc:w.heap[b]?=some (.cells c T (0,0)):=hc
 have hle:(aj zs).length≤c.size:=hle
 rw[kU]at hle
 refine⟨fun j hj =>?_,(Array.getElem?_eq_some_iff.1 hc).1⟩
 have hj:j<zs.length:=by simpa using hj
 have hr:=(ny j _ (YO zs hj)).2.fk
 rw[Nat.zero_add]
 constructor
 ·rw[Dr hc,Array.getElem?_eq_getElem (by omega)]
  rw[Array.getD_eq_getD_getElem?,Array.getElem?_eq_getElem (by omega)]at hr
  simp only[Option.getD_some]at hr
  rw[hr]
  simp[hj]
 ·unfold World.frozen?
  simp[hc]
end
theorem Sq(l:List Int):(Go.Lib.compact l).length≤l.length:=by
 unfold Go.Lib.compact Go.Lib.compactUpTo
 rw[List.length_map]
 exact Nat.le_trans (List.length_filter_le _ _) (by simp)
def eu(zs:List Int):List Int:=zs.mergeSort fun x y=>decide (x≤y)
theorem w6(zs:List Int):(eu zs).length=zs.length:=List.length_mergeSort ..
theorem HA:∀{l m:List Int},l.Pairwise (· < ·)→m.Pairwise (· < ·)→(∀x,x∈l↔x∈m)→l=m
 | [],[],_,_,_=>rfl
 | [],y::m,_,_,h=>absurd ((h y).2 (List.mem_cons_self ..)) List.not_mem_nil
 | x::l,[],_,_,h=>absurd ((h x).1 (List.mem_cons_self ..)) List.not_mem_nil
 | x::l,y::m,hl,hm,h=>by
  have h1:=List.pairwise_cons.1 hl
  have h2:=List.pairwise_cons.1 hm
  have aG:x=y:=by
   have a:=(h x).1 (List.mem_cons_self ..)
   have b:=(h y).2 (List.mem_cons_self ..)
   rcases List.mem_cons.1 a with a | a
   ·exact a
   ·rcases List.mem_cons.1 b with b | b
    ·exact b.symm
    ·have:=h1.1 y b;have:=h2.1 x a;omega
  subst aG
  refine congrArg (x :: ·) (HA h1.2 h2.2 fun z=>⟨fun hz =>?_,fun hz =>?_⟩)
  ·rcases List.mem_cons.1 ((h z).1 (List.mem_cons_of_mem _ hz)) with e | e
   ·subst e;have:=h1.1 z hz;omega
   ·exact e
  ·rcases List.mem_cons.1 ((h z).2 (List.mem_cons_of_mem _ hz)) with e | e
   ·subst e;have:=h2.1 z hz;omega
   ·exact e
theorem KH(zs:List Int):(eu zs).Pairwise (·≤·):=by
 have:=List.pairwise_mergeSort (le:=fun x y:Int=>decide (x≤y)) (fun a b c h1 h2=>by simp at *;omega) (fun a b=>by simp;omega) zs
 exact this.imp fun h=>by simpa using h
theorem L4(zs:List Int)(x:Int):x∈eu zs↔x∈zs:=List.mem_mergeSort
theorem Lo{l:List Int}(h:l.Pairwise (·≤·)){i j:Nat}(gX:i≤j)(hj:j<l.length):l[i]'(by omega)≤l[j]:=by
 by_cases e:i=j
 ·subst e;exact Int.le_refl _
 ·exact List.pairwise_iff_getElem.1 h i j (by omega) hj (by omega)
def vU(zs:List Int):List Int:=Go.Lib.compact (eu zs)
theorem Sr{l:List Int}(h:l.Pairwise (·≤·)):(Go.Lib.compact l).Pairwise (· < ·):=by
 unfold Go.Lib.compact Go.Lib.compactUpTo
 rw[List.pairwise_map]
 have hr:((List.range l.length).filter (Go.Lib.keeps l.toArray)).Pairwise fun i j=>i<j∧j<l.length∧Go.Lib.keeps l.toArray j=true:=by
  have h1:(List.range l.length).Pairwise fun i j=>i<j∧j<l.length:=by
   rw[List.pairwise_iff_getElem]
   intro i j hi hj gX
   simp only[List.getElem_range]
   exact⟨gX,by simpa using hj⟩
  rw[List.pairwise_filter]
  exact h1.imp fun gX _ hk=>⟨gX.1,gX.2,hk⟩
 refine hr.imp fun {i j} ⟨h1,h2,h3⟩ =>?_
 have hk:l.toArray[j]!≠l.toArray[j-1]!:=by
  unfold Go.Lib.keeps at h3
  simp only[decide_eq_true_eq]at h3
  rcases h3 with h3 | h3
  ·omega
  ·exact h3
 have e1:l.toArray[j]! = l[j]:=by simp[h2]
 have e2:l.toArray[j-1]! = l[j-1]'(by omega):=by simp[show j-1<l.length by omega]
 have e3:l.toArray[i]! = l[i]'(by omega):=by simp[show i<l.length by omega]
 rw[e1,e2]at hk
 rw[e1,e3]
 have q1:=Lo h (i:=i) (j:=j-1) (by omega) (by omega)
 have q2:=Lo h (i:=j-1) (j:=j) (by omega) h2
 omega
theorem K9{l:List Int}(x:Int):x∈Go.Lib.compact l↔x∈l:=by
 unfold Go.Lib.compact Go.Lib.compactUpTo
 constructor
 ·intro hx
  obtain⟨j,hj,rfl⟩:=List.mem_map.1 hx
  have hj:=List.mem_range.1 (List.mem_filter.1 hj).1
  have e1:l.toArray[j]! = l[j]:=by simp[hj]
  rw[e1];exact List.getElem_mem hj
 ·intro hx
  have hex:∃j,∃h:j<l.length,l[j]=x:=by
   obtain⟨j,hj,e⟩:=List.mem_iff_getElem.1 hx
   exact⟨j,hj,e⟩
  obtain⟨j,⟨hj,e⟩,gl⟩:∃j,(∃h:j<l.length,l[j]=x)∧∀k,k<j→¬∃h:k<l.length,l[k]=x:=by
   obtain⟨j,hj⟩:=hex
   induction j using Nat.strongRecOn with
   | ind j ih =>
    by_cases hk:∃k,k<j∧∃h:k<l.length,l[k]=x
    ·obtain⟨k,h1,h2⟩:=hk
     exact ih k h1 h2
    ·exact⟨j,hj,fun k h1 h2=>hk ⟨k,h1,h2⟩⟩
  refine List.mem_map.2 ⟨j,List.mem_filter.2 ⟨List.mem_range.2 hj,?_⟩,by simp[hj,e]⟩
  unfold Go.Lib.keeps
  rw[decide_eq_true_eq]
  by_cases h0:j=0
  ·exact .inl h0
  ·refine .inr fun h=>gl (j-1) (by omega) ⟨by omega,?_⟩
   have e1:l.toArray[j]! = l[j]:=by simp[hj]
   have e2:l.toArray[j-1]! = l[j-1]'(by omega):=by simp[show j-1<l.length by omega]
   rw[e1,e2]at h
   rw[← h];exact e
theorem Xb{zs:List Int}{n:Nat}(h:∀z∈zs,0≤z∧z<n):vU zs=((List.range n).map fun i:Nat=>(i:Int)).filter fun b=>decide (b∈zs):=by
 refine HA (Sr (KH zs)) ?_ fun x =>?_
 ·refine List.Pairwise.filter _ ?_
  rw[List.pairwise_map,List.pairwise_iff_getElem]
  intro i j hi hj gX
  simp only[List.getElem_range]
  omega
 ·unfold vU
  rw[K9,L4,List.mem_filter,decide_eq_true_eq]
  refine⟨fun hx=>⟨?_,hx⟩,fun hx=>hx.2⟩
  have:=h x hx
  exact List.mem_map.2 ⟨x.toNat,List.mem_range.2 (by omega),by omega⟩
theorem K6:Enters Tryz.prog 244:=enters_of Tryz.func244 (by kernel_rfl)
theorem K7:Enters Tryz.prog 245:=enters_of Tryz.func245 (by kernel_rfl)
theorem Di{vs:Array Value}(h:1=vs.size):∃v,vs = #[v]:=by
 refine⟨vs.getD 0 undef,Array.ext ?_ fun i h2 h3 =>?_⟩
 ·simp[← h]
 ·have:i=0:=by omega
  subst this
  simp[Array.getD,h2]
theorem Hi{F:Nat→Prop}{w:World}:ar F w (.tup []) (.tuple #[]):=.tup [] #[] rfl fun i x h=>by simp at h
theorem aao(σ:Hp):ACalls Tryz.prog 244 [.af] σ (az (.tup []) σ):=by
 refine⟨K6,fun F w vs bz ay =>?_⟩
 obtain⟨v,rfl⟩:=Di bz.1
 have hv:ar F w .af v:=bz.2 0 _ rfl
 cases hv
 have h:Calls Tryz.prog 244 #[.slice none 0 0] w fun e w'=>e=.returned (.tuple #[])∧w'=w:=Any.slices_Sort_int_none Hw none 0 w
 refine h.mono ?_
 rintro e w' ⟨rfl,rfl⟩
 exact⟨.tup [],.tuple #[],σ,F,rfl,.refl _ _,ay,Hi,rfl,rfl⟩
theorem H8(b:Nat)(zs:List Int)(n:Nat)(σ:Hp)(hz:zs.length=n)(hl:n≤1000000):ACalls Tryz.prog 244 [.ae b 0 n 1] ((b,aj zs)::σ) (az (.tup []) ((b,aj (eu zs))::σ)):=by
 subst hz
 refine⟨K6,fun F w vs bz ay =>?_⟩
 obtain⟨v,rfl⟩:=Di bz.1
 have hv:ar F w (.ae b 0 zs.length 1) v:=bz.2 0 _ rfl
 obtain⟨a,cap,rfl,c,T,fz,m1,m2,m3,m4⟩:=hv.jO
 rcases m4 with ⟨rfl,_⟩ | ⟨_,_,h0,_⟩
 ·obtain⟨h1,h2⟩:=G3 ay
  have h:Calls Tryz.prog 244 #[.slice (some ⟨b,0,none⟩) zs.length cap] w fun e w'=>e=.returned (.tuple #[])∧∃n os,w'=Go.Sort.grow (Go.Sort.putRow (Value.int .i64) (Go.Sort.ahead w n) b 0 (eu zs).toArray) os:=Any.slices_Sort_int Hw b 0 cap zs w h1 h2 (by omega)
  refine h.mono ?_
  rintro e w' ⟨rfl,n,os,rfl⟩
  obtain⟨k1,k2⟩:=De (n:=n) ay (w6 zs) os
  exact⟨.tup [],.tuple #[],_,F,rfl,k1,k2,Hi,rfl,rfl⟩
 ·have hz:zs=[]:=List.length_eq_zero_iff.1 h0
  subst hz
  have h:Calls Tryz.prog 244 #[.slice (some a) 0 cap] w fun e w'=>e=.returned (.tuple #[])∧w'=w:=Any.slices_Sort_int_none Hw (some a) cap w
  have he:eu []=[]:=List.length_eq_zero_iff.1 (w6 [])
  rw[he]
  refine h.mono ?_
  rintro e w' ⟨rfl,rfl⟩
  exact⟨.tup [],.tuple #[],_,F,rfl,.refl _ _,ay,Hi,rfl,rfl⟩
theorem aaE(σ:Hp):ACalls Tryz.prog 245 [.af] σ (az .af σ):=by
 refine⟨K7,fun F w vs bz ay =>?_⟩
 obtain⟨v,rfl⟩:=Di bz.1
 have hv:ar F w .af v:=bz.2 0 _ rfl
 cases hv
 have h:Calls Tryz.prog 245 #[.slice none 0 0] w fun e w'=>e=.returned (.slice none 0 0)∧w'=w:=Any.slices_Compact_int_empty Hv none 0 w
 refine h.mono ?_
 rintro e w' ⟨rfl,rfl⟩
 exact⟨.af,_,σ,F,rfl,.refl _ _,ay,.af,rfl,rfl⟩
theorem aaF(b:Nat)(zs:List Int)(n:Nat)(σ:Hp)(hz:zs.length=n)(hl:n≤1000000):ACalls Tryz.prog 245 [.ae b 0 n 1] ((b,aj zs)::σ) (az (.ae b 0 (Go.Lib.compact zs).length 1) ((b,aj (Go.Lib.compact zs++List.replicate (n-(Go.Lib.compact zs).length) 0))::σ)):=by
 subst hz
 have hle:=Sq zs
 refine⟨K7,fun F w vs bz ay =>?_⟩
 obtain⟨v,rfl⟩:=Di bz.1
 have hv:ar F w (.ae b 0 zs.length 1) v:=bz.2 0 _ rfl
 obtain⟨a,cap,rfl,c,T,fz,m1,m2,m3,m4⟩:=hv.jO
 rcases m4 with ⟨rfl,m5⟩ | ⟨m5,m6,h0,m7⟩
 ·obtain⟨h1,h2⟩:=G3 ay
  have h:Calls Tryz.prog 245 #[.slice (some ⟨b,0,none⟩) zs.length cap] w fun e w'=>e=.returned (.slice (some ⟨b,0,none⟩) (Go.Lib.compact zs).length cap)∧∃q,w'=Go.Sort.putRow (Value.int .i64) (Go.Sort.ahead w q) b 0 (Go.Lib.compact zs++List.replicate (zs.length-(Go.Lib.compact zs).length) 0).toArray:=Any.slices_Compact_int Hv b 0 cap zs w h1 (by omega) m2
  refine h.mono ?_
  rintro e w' ⟨rfl,q,rfl⟩
  obtain⟨k1,k2⟩:=De (n:=q) (zs':=Go.Lib.compact zs++List.replicate (zs.length-(Go.Lib.compact zs).length) 0) ay (by rw[List.length_append,List.length_replicate];omega) #[]
  have hg:∀W:World,Go.Sort.grow W #[]=W:=fun W=>by unfold Go.Sort.grow;rw[Array.append_empty]
  rw[hg]at k1 k2
  obtain⟨c',pA,jg,cT⟩:=k1.rows b c T fz m1
  exact⟨.ae b 0 _ 1,_,_,F,rfl,k1,k2,.ae _ _ _ _ _ _ ⟨c',T,pA,jg,by omega,m3,.inl ⟨rfl,by omega⟩⟩,rfl,rfl⟩
 ·have hz:zs=[]:=List.length_eq_zero_iff.1 h0
  subst hz
  have h:Calls Tryz.prog 245 #[.slice (some a) 0 cap] w fun e w'=>e=.returned (.slice (some a) 0 cap)∧w'=w:=Any.slices_Compact_int_empty Hv (some a) cap w
  refine h.mono ?_
  rintro e w' ⟨rfl,rfl⟩
  exact⟨.ae b 0 0 1,_,_,F,rfl,.refl _ _,ay,hv,rfl,rfl⟩
theorem U6:vU []=[]:=List.eq_nil_iff_forall_not_mem.2 fun x h=>by
 unfold vU at h
 rw[K9,L4]at h
 cases h
def gO(n:Int)(l:List aV)(a:Int):List Int:=(l.filter fun e=>decide (e.1=a) && cN n a && cN n e.2.1).map fun e=>e.2.1
def an(n:Int)(l:List aV)(a:Int):List Int:=((List.range n.toNat).map fun i:Nat=>(i:Int)).filter fun b=>decide (b∈gO n l a)
theorem Uz(n:Int)(l:List aV)(a:Int):(gO n l a).length≤l.length:=by unfold gO;rw[List.length_map];exact List.length_filter_le _ _
theorem Uy{n:Int}{l:List aV}{a z:Int}(h:z∈gO n l a):0≤z∧z<n:=by
 unfold gO at h
 obtain⟨e,he,rfl⟩:=List.mem_map.1 h
 have h4:=(List.mem_filter.1 he).2
 simp only[Bool.and_eq_true,decide_eq_true_eq,jm]at h4
 exact h4.2
theorem S5(n:Int)(l:List aV)(a:Int){k:Nat}(h:k<l.length):gO n (l.take (k+1)) a=gO n (l.take k) a++(if (decide (l[k].1=a) && cN n a && cN n l[k].2.1)=true then [l[k].2.1] else []):=by
 unfold gO
 rw[List.take_succ_eq_append_getElem h,List.filter_append,List.map_append]
 congr 1
 by_cases hc:(decide (l[k].1=a) && cN n a && cN n l[k].2.1)=true
 ·rw[if_pos hc];have e:=List.filter_cons_of_pos (p:=fun e:aV=>decide (e.1=a) && cN n a && cN n e.2.1) (a:=l[k]) (l:=[]) hc;rw[e];rfl
 ·rw[if_neg hc];have e:=List.filter_cons_of_neg (p:=fun e:aV=>decide (e.1=a) && cN n a && cN n e.2.1) (a:=l[k]) (l:=[]) hc;rw[e];rfl
theorem VH(n:Int)(l:List aV)(a:Int):vU (gO n l a)=an n l a:=by
 unfold an
 exact Xb fun z hz=>by have:=Uy hz;omega
theorem x8(n:Int)(l:List aV)(a:Int)(σ:Hp)(hl:l.length≤100000):ACalls Tryz.prog 204 [.int .i64 n,.ah cI l,.int .i64 a] σ (az (.ah (.int .i64) (an n l a)) σ):=by
 refine okF Tryz.func204 (by kernel_rfl) ?_
 refine .wrap 7 _ rfl rfl ?_
 refine bO (S:=Nat×AV×Hp) (fun s=>[(0,.int .i64 n),(2,.int .i64 a),(7,.via s.2.1),(10,.ah cI l),(11,.int .i64 l.length),(12,.int .i64 s.1)]) (fun s=>s.2.2++σ) (fun s=>s.1≤l.length∧Acc 1 (gO n (l.take s.1) a).length s.2.1 s.2.2 (aj (gO n (l.take s.1) a))) (fun s=>l.length-s.1) (0,.af,[]) ⟨⟨Nat.zero_le _,.nil⟩,⟨rfl,rfl,rfl,rfl,rfl,rfl,trivial⟩,rfl⟩ ?_
 rintro⟨k,v,acc⟩ g ⟨aZ,kB⟩
 have hk:k≤l.length:=aZ
 have bP:Acc 1 (gO n (l.take k) a).length v acc (aj (gO n (l.take k) a)):=kB
 clear aZ kB
 have mm:(gO n (l.take k) a).length≤k:=by have:=Uz n (l.take k) a;rw[List.length_take]at this;omega
 refine ao (fun ab =>?_) (fun au =>?_)
 ·have ab:k<l.length:=by have ab:(k:Int)<l.length:=ab;omega
  have hs:=S5 n l a ab
  obtain⟨d,hd⟩:∃d:aV,l[k]=d:=⟨_,rfl⟩
  rw[hd]at hs
  refine ag.mk rfl (bH.mk d (by omega) ((get_some ab).trans (congrArg some hd)) ?_)
  intro aC
  refine ai 0 ?_
  refine aa 0 ?_
  refine ao (p:=d.1=a) (fun c1 =>?_) (fun c1 =>?_)
  ·refine eH [] (Ei n a _) (fun c2 =>?_) (fun c2 =>?_)
   ·refine aa 0 ?_
    refine eH [] (Ei n d.2.1 _) (fun c3 =>?_) (fun c3 =>?_)
    ·rw[decide_eq_true c1,c2,c3,if_pos (show (true && true && true)=true from rfl)]at hs
     refine aa 0 ?_
     intro dI
     refine kr [_,_] bP (.ae 0 dI 0 1 _ rfl (Nat.le_of_ble_eq_true rfl)) rfl (by omega) (by decide) (by decide) (fun v' bh h' =>?_)
     refine bg (k+1,v',bh) (by show l.length-(k+1)<l.length-k;omega) ⟨ab,?_⟩ ⟨rfl,rfl,rfl,rfl,rfl,a8 (by omega),trivial⟩ (.drop 0 2 (aF rfl))
     show Acc 1 (gO n (l.take (k+1)) a).length v' bh (aj (gO n (l.take (k+1)) a))
     rw[hs,List.length_append,aj,List.map_append]
     exact h'
    ·rw[c3,Bool.and_false,if_neg (by decide),List.append_nil]at hs
     refine bg (k+1,v,acc) (by show l.length-(k+1)<l.length-k;omega) ⟨ab,by show Acc 1 (gO n (l.take (k+1)) a).length v acc (aj (gO n (l.take (k+1)) a));rw[hs];exact bP⟩ ⟨rfl,rfl,rfl,rfl,rfl,a8 (by omega),trivial⟩ (.drop 0 1 (aF rfl))
   ·rw[c2,Bool.and_false,Bool.false_and,if_neg (by decide),List.append_nil]at hs
    refine bg (k+1,v,acc) (by show l.length-(k+1)<l.length-k;omega) ⟨ab,by show Acc 1 (gO n (l.take (k+1)) a).length v acc (aj (gO n (l.take (k+1)) a));rw[hs];exact bP⟩ ⟨rfl,rfl,rfl,rfl,rfl,a8 (by omega),trivial⟩ (.drop 0 1 (aF rfl))
  ·rw[decide_eq_false c1,Bool.false_and,Bool.false_and,if_neg (by decide),List.append_nil]at hs
   refine bg (k+1,v,acc) (by show l.length-(k+1)<l.length-k;omega) ⟨ab,by show Acc 1 (gO n (l.take (k+1)) a).length v acc (aj (gO n (l.take (k+1)) a));rw[hs];exact bP⟩ ⟨rfl,rfl,rfl,rfl,rfl,a8 (by omega),trivial⟩ (.drop 0 1 (aF rfl))
 ·have au:k=l.length:=by have au:¬(k:Int)<l.length:=au;omega
  subst au
  rw[List.take_length]at bP mm
  have IA:=VH n l a
  generalize gO n l a=zs at bP mm IA
  generalize hC:aj zs=C at bP
  generalize hm:zs.length=m at bP
  cases bP with
  | nil =>
   have hz:zs=[]:=List.length_eq_zero_iff.1 hm
   subst hz
   refine ax [] (aao _) ?_
   refine ax [] (aaE _) ?_
   exact .nil (.nil (.int .i64)) (.done ⟨by rw[← IA,U6];rfl,rfl⟩)
  | ae b m cs h =>
   subst hC
   refine ax [] (H8 b zs m σ hm (by omega)) ?_
   refine ax [] (aaF b (eu zs) m σ ((w6 zs).trans hm) (by omega)) ?_
   refine .cb 0 b 0 _ 1 _ (.int .i64) (vU zs) rfl ?_ ⟨rfl,rfl,by decide⟩ .here (.done ⟨by rw[IA],rfl⟩)
   rw[List.drop_zero,← tD]
   unfold vU aj
   rw[List.map_append,Nat.mul_one,List.take_append_of_le_length (by rw[List.length_map];exact Nat.le_refl _)]
   exact List.take_of_length_le (by rw[List.length_map];exact Nat.le_refl _)
def jn(a b:Int):Int:=if a=b∨b=0 then a else if a=0 then b else 1
theorem tB{a b:Int}(ha:bj a=a)(hb:bj b=b):k9 a b=jn a b:=by unfold k9 jn;rw[ha,hb]
theorem Dm(a b:Int):jn a b=jn b a:=by
 unfold jn
 by_cases h1:a=b
 ·subst h1;rfl
 ·by_cases h2:a=0
  ·by_cases h3:b=0
   ·omega
   ·rw[if_neg (by omega),if_pos h2,if_pos (by omega)]
  ·by_cases h3:b=0
   ·rw[if_pos (by omega),if_neg (by omega),if_pos h3]
   ·rw[if_neg (by omega),if_neg h2,if_neg (by omega),if_neg h3]
theorem Dl(a:Int):jn a 0=a:=by unfold jn;rw[if_pos (.inr rfl)]
theorem zL(a:Int):jn 0 a=a:=by rw[Dm,Dl]
theorem xv(a:Int):jn a a=a:=by unfold jn;rw[if_pos (.inl rfl)]
theorem Ax{a b:Int}(h:a≠b)(ha:a≠0)(hb:b≠0):jn a b=1:=by unfold jn;rw[if_neg (by omega),if_neg ha]
theorem H2(a:Int):jn a 1=1:=by
 by_cases h:a=1
 ·rw[h,xv]
 ·by_cases h0:a=0
  ·rw[h0,zL]
  ·exact Ax h h0 (by decide)
theorem Nz(a b c:Int):jn (jn a b) c=jn a (jn b c):=by
 by_cases ha:a=0
 ·rw[ha,zL,zL]
 by_cases hb:b=0
 ·rw[hb,Dl,zL]
 by_cases hc:c=0
 ·rw[hc,Dl,Dl]
 by_cases h1:a=b
 ·subst h1
  by_cases h2:a=c
  ·subst h2;rw[xv]
  ·rw[xv,Ax h2 ha hc,H2]
 ·rw[Ax h1 ha hb,Dm 1 c,H2]
  by_cases h2:b=c
  ·subst h2;rw[xv,Ax h1 ha hb]
  ·rw[Ax h2 hb hc,H2]
theorem rR{a b:List Int}(ha:okW a=true)(hb:okW b=true){i:Nat}(h:i<a.length)(h2:i<b.length):wd (dr 3 a b) i=jn (wd a i) (wd b i):=by
 rw[vu h h2,oT,tB (tJ ha h) (tJ hb h2)]
theorem tg{what w:Int}{a b:List Int}(va:bZ what w a=true)(vb:bZ what w b=true):a.length=b.length:=by have h1:=tF va;have h2:=tF vb;omega
theorem Wg(what:Int)(x y:Bool):gK what x y=gK what y x:=by unfold gK;split <;> cases x <;> cases y <;> rfl
theorem Up(what:Int)(x y z:Bool):gK what (gK what x y) z=gK what x (gK what y z):=by unfold gK;split <;> cases x <;> cases y <;> cases z <;> rfl
structure dC(what w:Int)(a:List Int):Prop where
 v:bZ what w a=true
 ck:aS a
theorem dC.join{what w:Int}{a b:List Int}(ha:dC what w a)(hb:dC what w b):dC what w (dr what a b):=⟨G0 ha.ck hb.ck ha.v hb.v,tL ha.ck hb.ck⟩
theorem zD{what w:Int}{x y:List Int}(hx:dC what w x)(hy:dC what w y)(h3:what=3→∀i,i<x.length→wd x i=wd y i)(hs:what=1∨what=2→∀i k,i<x.length→k<64→da x i k=da y i k):x=y:=by
 have hl:=tg hx.v hy.v
 by_cases h:what=3
 ·exact xC hl (h3 h)
 ·exact Dc hx.ck hy.ck hl (hs (DJ (ky hx.v) h))
theorem join_comm{what w:Int}{a b:List Int}(ha:dC what w a)(hb:dC what w b):dr what a b=dr what b a:=by
 have hl:=tg ha.v hb.v
 refine zD (ha.join hb) (hb.join ha) (fun h3 i hi =>?_) (fun hs i k hi _ =>?_)
 ·subst h3
  rw[gr hl]at hi
  have va:=((hG (ky ha.v) rfl).1 ha.v).2
  have vb:=((hG (ky hb.v) rfl).1 hb.v).2
  rw[rR va vb hi (by omega),rR vb va (by omega) hi,Dm]
 ·rw[gr hl]at hi
  rw[mE hs ha.ck hb.ck hl i k hi,mE hs hb.ck ha.ck hl.symm i k (by omega),Wg]
theorem join_assoc{what w:Int}{a b c:List Int}(ha:dC what w a)(hb:dC what w b)(hc:dC what w c):dr what (dr what a b) c=dr what a (dr what b c):=by
 have hl:=tg ha.v hb.v
 have rE:=tg hb.v hc.v
 have l1:=gr (what:=what) hl
 have l2:=gr (what:=what) rE
 refine zD ((ha.join hb).join hc) (ha.join (hb.join hc)) (fun h3 i hi =>?_) (fun hs i k hi _ =>?_)
 ·subst h3
  rw[gr (by omega),l1]at hi
  have o:∀{x:List Int},dC 3 w x→okW x=true:=fun h=>((hG (ky h.v) rfl).1 h.v).2
  rw[rR (o (ha.join hb)) (o hc) (by omega) (by omega),rR (o ha) (o hb) (by omega) (by omega),rR (o ha) (o (hb.join hc)) (by omega) (by omega),rR (o hb) (o hc) (by omega) (by omega),Nz]
 ·rw[gr (by omega),l1]at hi
  rw[mE hs (ha.join hb).ck hc.ck (by omega) i k (by omega),mE hs ha.ck hb.ck hl i k (by omega),mE hs ha.ck (hb.join hc).ck (by omega) i k (by omega),mE hs hb.ck hc.ck rE i k (by omega),Up]
theorem join_self{what w:Int}{a:List Int}(ha:dC what w a):dr what a a=a:=by
 refine zD (ha.join ha) ha (fun h3 i hi =>?_) (fun hs i k hi _ =>?_)
 ·subst h3
  rw[gr rfl]at hi
  have va:=((hG (ky ha.v) rfl).1 ha.v).2
  rw[rR va va hi hi,xv]
 ·rw[gr rfl]at hi
  rw[mE hs ha.ck ha.ck rfl i k hi,(HX _ (da a i k) (da a i k)).2.2]
def dc(what w:Int)(a b:List Int):Prop:=dC what w a∧dC what w b∧dr what a b=b
theorem dc.refl{what w:Int}{a:List Int}(h:dC what w a):dc what w a a:=⟨h,h,join_self h⟩
theorem dc.trans{what w:Int}{a b c:List Int}(h1:dc what w a b)(h2:dc what w b c):dc what w a c:=by
 refine⟨h1.1,h2.2.1,?_⟩
 have:=join_assoc h1.1 h1.2.1 h2.2.1
 rw[h1.2.2,h2.2.2]at this
 exact this.symm
theorem dc.left{what w:Int}{a b:List Int}(ha:dC what w a)(hb:dC what w b):dc what w a (dr what a b):=by
 refine⟨ha,ha.join hb,?_⟩
 rw[← join_assoc ha ha hb,join_self ha]
theorem dc.right{what w:Int}{a b:List Int}(ha:dC what w a)(hb:dC what w b):dc what w b (dr what a b):=by
 rw[join_comm ha hb];exact dc.left hb ha
theorem dc.join{what w:Int}{a b c:List Int}(h1:dc what w a c)(h2:dc what w b c):dc what w (dr what a b) c:=by
 refine⟨h1.1.join h2.1,h1.2.1,?_⟩
 rw[join_assoc h1.1 h2.1 h1.2.1,h2.2.2,h1.2.2]
theorem dc.mono{what w:Int}{a b c d:List Int}(h1:dc what w a c)(h2:dc what w b d):dc what w (dr what a b) (dr what c d):=
 dc.join (h1.trans (dc.left h1.2.1 h2.2.1)) (h2.trans (dc.right h1.2.1 h2.2.1))
theorem Xg{what w:Int}{a b:List Int}(ha:aS a)(hb:aS b):vI what w a b=true↔dc what w a b:=by
 rw[Vl]
 exact⟨fun h=>⟨⟨h.1,ha⟩,⟨h.2.1,hb⟩,h.2.2⟩,fun h=>⟨h.1.v,h.2.1.v,h.2.2⟩⟩
theorem bot_le{what w:Int}{a:List Int}(ha:dC what w a):dc what w (gm what w) a:=by
 have hi:=ky ha.v
 have hb:dC what w (gm what w):=⟨Ds hi,DR _ _⟩
 have hl:=tg hb.v ha.v
 refine⟨hb,ha,zD (hb.join ha) ha (fun h3 i eg =>?_) (fun hs i k eg hk =>?_)⟩
 ·subst h3
  rw[gr hl]at eg
  have va:=((hG hi rfl).1 ha.v).2
  have vb:=((hG hi rfl).1 hb.v).2
  rw[rR vb va eg (by omega)]
  have:wd (gm 3 w) i=0:=by
   have e:gm 3 w=List.replicate (eE 3 w).toNat 0:=if_neg (fun h=>absurd h.1 (by decide))
   rw[e]at eg ⊢
   rw[jK _ eg,List.getElem_replicate]
  rw[this,zL]
 ·rw[gr hl]at eg
  rw[mE hs hb.ck ha.ck hl i k eg]
  rcases hs with rfl | rfl
  ·have e:gm 1 w=List.replicate (eE 1 w).toNat 0:=if_neg (fun h=>absurd h.1 (by decide))
   have h0:da (gm 1 w) i k=false:=by
    unfold da
    rw[e]at eg ⊢
    rw[jK _ eg,List.getElem_replicate];exact CS k
   rw[h0];exact Bool.false_or _
  ·have e:gm 2 w=eV w:=if_pos ⟨rfl,hi⟩
   have fa:=(nD hi (by decide)).1 ha.v
   rw[e]at eg ⊢
   rw[oH]at eg
   show (da (eV w) i k && da a i k)=da a i k
   by_cases hc:64*i+k<dR w
   ·have h1:da (eV w) i k=true:=by
     unfold da
     rw[zG w eg,Int.toNat_natCast,Nat.testBit_two_pow_sub_one]
     exact decide_eq_true (by omega)
    rw[h1,Bool.true_and]
   ·have h2:=(oO ha.ck (lS fa)).1 fa i k (by rw[lS fa];exact eg) hk (by omega)
    rw[h2,Bool.and_false]
theorem Tz{what w:Int}{g k a b:List Int}{l:List cg}(hg:aS g)(hk:aS k)(hc:er what w g k l=0)(h:dc what w a b):dc what w (fh what g k l a) (fh what g k l b):=by
 have:=(aaP hg hk h.1.ck h.2.1.ck hc h.1.v h.2.1.v).1
 rw[h.2.2,Xg (xe h.1.ck) (xe h.2.1.ck)]at this
 exact this
structure kG(s:Sy)(a:List (List Int)):Prop where
 len:(a.length:Int)=s.n
 val:∀x∈a,dC s.what s.w x
theorem XR{s:Sy}{a:List (List Int)}(h:vK s a=true)(ha:AX a):kG s a:=
 ⟨(zw.1 h).1,fun x hx=>⟨(zw.1 h).2 x hx,(ha.2 x hx).1⟩⟩
theorem kG.bG{s:Sy}{a:List (List Int)}(h:kG s a):vK s a=true:=zw.2 ⟨h.len,fun x hx=>(h.val x hx).v⟩
theorem kG.ok{s:Sy}{a:List (List Int)}(hg:Good s)(h:kG s a):AX a:=by
 have h1:=h.len
 have h2:=hg.n2
 exact⟨by omega,fun x hx=>⟨(h.val x hx).ck,by have:=L0 (h.val x hx).v;omega⟩⟩
theorem kG.get{s:Sy}{a:List (List Int)}(h:kG s a){i:Nat}(hi:(i:Int)<s.n):dC s.what s.w (a.getD i []):=by
 have hl:=h.len
 have ab:i<a.length:=by omega
 rw[List.getD_eq_getElem?_getD,List.getElem?_eq_getElem ab]
 exact h.val _ (List.getElem_mem ab)
def ml(s:Sy)(a b:List (List Int)):Prop:=kG s a∧kG s b∧∀i:Nat,(i:Int)<s.n→dc s.what s.w (a.getD i []) (b.getD i [])
theorem GU{s:Sy}(hf:Fit s)(hg:Good s){x y:List Int}(h:dc s.what s.w x y){v:Nat}(hv:(v:Int)<s.n):dc s.what s.w (iD s x v) (iD s y v):=by
 obtain⟨h2,e⟩:=IK hg hv
 unfold iD
 rw[e]
 have ho:=hf.ts _ (List.getElem_mem h2)
 exact Tz ho.1 ho.2.1 (hg.E4 _ (List.getElem_mem h2)) h
theorem Gp{s:Sy}(hf:Fit s)(hg:Good s)(v:Int):dC s.what s.w (gu s v):=⟨(Gn hf hg v).1,(Gn hf hg v).2⟩
theorem TX{s:Sy}(hf:Fit s)(hg:Good s){a:List (List Int)}(h:kG s a)(v k:Nat)(hk:k≤s.aR.length):dC s.what s.w (mM s a k v):=
 ⟨(Cz hf hg (h.ok hg) h.bG v k hk).1,(Cz hf hg (h.ok hg) h.bG v k hk).2⟩
theorem Gm{s:Sy}(hf:Fit s)(hg:Good s){a:List (List Int)}(h:kG s a):kG s (ib s a):=XR (Lm hf hg (h.ok hg) h.bG).1 (Lm hf hg (h.ok hg) h.bG).2
theorem CA(s:Sy)(a:List (List Int)){i:Nat}(h:(i:Int)<s.n):(ib s a).getD i []=mM s a s.aR.length i:=by
 unfold ib DZ
 rw[List.getD_eq_getElem?_getD,List.getElem?_map,List.getElem?_range (by omega)];rfl
theorem Ll{s:Sy}(hf:Fit s)(hg:Good s){a b:List (List Int)}(h:ml s a b)(v:Nat):∀k,k≤s.aR.length→dc s.what s.w (mM s a k v) (mM s b k v)
 | 0,_=>dc.refl (Gp hf hg v)
 | k+1,hk=>by
  have ih:=Ll hf hg h v k (by omega)
  rw[y5 s a (by omega),y5 s b (by omega)]
  unfold xU
  have he:=hg.yn _ (List.getElem_mem (show k<s.aR.length by omega))
  split
  ·exact ih.mono (GU hf hg (h.2.2 _ (by omega)) (by omega))
  ·exact ih
theorem L2{s:Sy}(hf:Fit s)(hg:Good s){a b:List (List Int)}(h:ml s a b):ml s (ib s a) (ib s b):=
 ⟨Gm hf hg h.1,Gm hf hg h.2.1,fun i hi=>by
  rw[CA s a hi,CA s b hi]
  exact Ll hf hg h i _ (Nat.le_refl _)⟩
theorem ml.trans{s:Sy}{a b c:List (List Int)}(h1:ml s a b)(h2:ml s b c):ml s a c:=⟨h1.1,h2.2.1,fun i hi=>(h1.2.2 i hi).trans (h2.2.2 i hi)⟩
end Go.Proofs.YtnpidbjdilnhlaaGreat
