import Derived.Test.YtnpidbjdilnhlaaGreatBn22
import Derived.Test.YtnpidbjdilnhlaaGreatBn21
namespace Go.Proofs.YtnpidbjdilnhlaaGreat
open Go.RowKit
set_option maxRecDepth 100000
section
variable {F:Nat→Prop} {w:World} {σ:Hp}
theorem RB(h:aV F w σ)(os:Array Obj):a6 F w F (Go.Sort.grow w os)∧aV F (Go.Sort.grow w os) σ:=by
 have cS:(Go.Sort.grow w os).heap.size=w.heap.size+os.size:=by simp[Go.Sort.grow]
 have aq:∀b,b<w.heap.size→(Go.Sort.grow w os).heap[b]?=w.heap[b]?:=fun b hb=>by
  show (w.heap++os)[b]?=_
  rw[Array.getElem?_append_left hb]
 have ar:a6 F w F (Go.Sort.grow w os):=⟨rfl,rfl,rfl,by omega,fun _ h=>h,fun b hb=>aq b (h.low b hb),fun b c T fz hc=>⟨c,fz,by
  rw[aq b (Array.getElem?_eq_some_iff.1 hc).1];exact hc,rfl⟩,Nat.le_refl _⟩
 exact⟨ar,h.nodup,fun p hp=>(h.holds p hp).mono ar (aq _ (h.holds p hp).lt) (h.holds p hp).1,fun b hb=>by have:=h.low b hb;omega⟩
theorem jm(zs:List Int):(ak zs).length=zs.length:=by unfold ak;simp
theorem TD(zs:List Int){i:Nat}{x:AV}(h:(ak zs)[i]?=some x):∃h2:i<zs.length,x=.int .i64 zs[i]:=by
 unfold ak at h
 rw[List.getElem?_map]at h
 cases hz:zs[i]? with
 | none=>rw[hz]at h;cases h
 | some z =>
  rw[hz]at h
  obtain⟨h2,h3⟩:=List.getElem?_eq_some_iff.1 hz
  exact⟨h2,by cases h;rw[h3]⟩
theorem TN(zs:List Int){i:Nat}(h:i<zs.length):(ak zs)[i]?=some (.int .i64 zs[i]):=by unfold ak;rw[List.getElem?_map,List.getElem?_eq_getElem h];rfl
theorem Holds.DH{F:Nat→Prop}{w:World}{b:Nat}{cs:List AV}(h:Holds F w b cs)(hn:∀x∈cs,x.leaf=true):¬F b∧AY F w b cs:=by
 obtain⟨hF,h | ⟨x,o,e,_,hx⟩ | ⟨L,t,e,_⟩⟩:=h
 ·exact⟨hF,h⟩
 ·subst e;have:=hn _ (List.mem_cons_self ..);rw[CV hx]at this;cases this
 ·subst e;cases hn _ (List.mem_cons_self ..)
theorem Jy(zs:List Int):∀x∈ak zs,x.leaf=true:=fun x hx=>by
 obtain⟨z,_,rfl⟩:=List.mem_map.1 hx;rfl
theorem Ar{b n:Nat}{zs zs':List Int}(h:aV F w ((b,ak zs)::σ))(hl:zs'.length=zs.length)(os:Array Obj):
  a6 F w F (Go.Sort.grow (Go.Sort.putRow (Value.int .i64) (Go.Sort.ahead w n) b 0 zs'.toArray) os)∧aV F (Go.Sort.grow (Go.Sort.putRow (Value.int .i64) (Go.Sort.ahead w n) b 0 zs'.toArray) os) ((b,ak zs')::σ):=by
 obtain⟨hF,c,T,hc,hle,oG⟩:=(h.holds _ (List.mem_cons_self ..)).DH (Jy zs)
 have hle:(ak zs).length≤c.size:=hle
 rw[jm]at hle
 have hc:w.heap[b]?=some (.cells c T (0,0)):=hc
 have E0:∀k,k<zs'.length→(Go.Sort.putCells (Value.int .i64) 0 zs'.toArray c).getD k undef=Value.int .i64 (zs'.getD k 0):=fun k hk=>by
  have yH:k<c.size:=by omega
  unfold Go.Sort.putCells
  rw[Array.getD_eq_getD_getElem?,Array.getElem?_mapIdx,Array.getElem?_eq_getElem yH]
  simp only[Option.map_some,Option.getD_some]
  rw[if_pos ⟨Nat.zero_le _,by simpa using hk⟩,Nat.sub_zero,List.getD_eq_getElem?_getD,List.getElem?_eq_getElem hk]
  simp[hk]
 have key:=wH (F:=F) (w:=w) (w':=Go.Sort.putRow (Value.int .i64) (Go.Sort.ahead w n) b 0 zs'.toArray) h (j:=0) (b:=b) (cs:=ak zs) (cs':=ak zs') rfl hc (c':=Go.Sort.putCells (Value.int .i64) 0 zs'.toArray c) (by simp[Go.Sort.putCells]) (by rw[jm];simp[Go.Sort.putCells];omega)
  (fun i x hx=>by
   obtain⟨h2,rfl⟩:=TD zs' hx
   refine⟨rfl,?_⟩
   rw[E0 i h2,List.getD_eq_getElem?_getD,List.getElem?_eq_getElem h2]
   exact .int _ _)
  (fun k hk=>by
   show (w.heap.modify b _)[k]?=_
   rw[Array.getElem?_modify,if_neg (fun e=>hk e.symm)])
  (by
   show (w.heap.modify b _)[b]?=_
   rw[Array.getElem?_modify,if_pos rfl,hc];rfl)
  rfl rfl rfl (by simp[Go.Sort.ahead])
 obtain⟨k1,k2⟩:=key
 obtain⟨g1,g2⟩:=RB k2 os
 exact⟨k1.trans g1,g2⟩
theorem Ds{b:Nat}{zs:List Int}(h:aV F w ((b,ak zs)::σ)):Go.Sort.Holds (Value.int .i64) w b 0 zs.toArray∧b<w.heap.size:=by
 obtain⟨hF,c,T,hc,hle,oG⟩:=(h.holds _ (List.mem_cons_self ..)).DH (Jy zs)
 have hc:w.heap[b]?=some (.cells c T (0,0)):=hc
 have hle:(ak zs).length≤c.size:=hle
 rw[jm]at hle
 refine⟨fun j hj =>?_,(Array.getElem?_eq_some_iff.1 hc).1⟩
 have hj:j<zs.length:=by simpa using hj
 have hr:=(oG j _ (TN zs hj)).2.eL
 rw[Nat.zero_add]
 constructor
 ·rw[DS hc,Array.getElem?_eq_getElem (by omega)]
  rw[Array.getD_eq_getD_getElem?,Array.getElem?_eq_getElem (by omega)]at hr
  simp only[Option.getD_some]at hr
  rw[hr]
  simp[hj]
 ·unfold World.frozen?
  simp[hc]
end
theorem N3(l:List Int):(Go.Lib.compact l).length≤l.length:=by
 unfold Go.Lib.compact Go.Lib.compactUpTo
 rw[List.length_map]
 exact Nat.le_trans (List.length_filter_le _ _) (by simp)
def dU(zs:List Int):List Int:=zs.mergeSort fun x y=>decide (x≤y)
theorem uv(zs:List Int):(dU zs).length=zs.length:=List.length_mergeSort ..
theorem DM:∀{l m:List Int},l.Pairwise (· < ·)→m.Pairwise (· < ·)→(∀x,x∈l↔x∈m)→l=m
 | [],[],_,_,_=>rfl
 | [],y::m,_,_,h=>absurd ((h y).2 (List.mem_cons_self ..)) List.not_mem_nil
 | x::l,[],_,_,h=>absurd ((h x).1 (List.mem_cons_self ..)) List.not_mem_nil
 | x::l,y::m,hl,hm,h=>by
  have h1:=List.pairwise_cons.1 hl
  have h2:=List.pairwise_cons.1 hm
  have aR:x=y:=by
   have a:=(h x).1 (List.mem_cons_self ..)
   have b:=(h y).2 (List.mem_cons_self ..)
   rcases List.mem_cons.1 a with a | a
   ·exact a
   ·rcases List.mem_cons.1 b with b | b
    ·exact b.symm
    ·have:=h1.1 y b;have:=h2.1 x a;omega
  subst aR
  refine congrArg (x :: ·) (DM h1.2 h2.2 fun z=>⟨fun hz =>?_,fun hz =>?_⟩)
  ·rcases List.mem_cons.1 ((h z).1 (List.mem_cons_of_mem _ hz)) with e | e
   ·subst e;have:=h1.1 z hz;omega
   ·exact e
  ·rcases List.mem_cons.1 ((h z).2 (List.mem_cons_of_mem _ hz)) with e | e
   ·subst e;have:=h2.1 z hz;omega
   ·exact e
theorem GM(zs:List Int):(dU zs).Pairwise (·≤·):=by
 have:=List.pairwise_mergeSort (le:=fun x y:Int=>decide (x≤y)) (fun a b c h1 h2=>by simp at *;omega) (fun a b=>by simp;omega) zs
 exact this.imp fun h=>by simpa using h
theorem HY(zs:List Int)(x:Int):x∈dU zs↔x∈zs:=List.mem_mergeSort
theorem Hr{l:List Int}(h:l.Pairwise (·≤·)){i j:Nat}(jK:i≤j)(hj:j<l.length):l[i]'(by omega)≤l[j]:=by
 by_cases e:i=j
 ·subst e;exact Int.le_refl _
 ·exact List.pairwise_iff_getElem.1 h i j (by omega) hj (by omega)
def tv(zs:List Int):List Int:=Go.Lib.compact (dU zs)
theorem N4{l:List Int}(h:l.Pairwise (·≤·)):(Go.Lib.compact l).Pairwise (· < ·):=by
 unfold Go.Lib.compact Go.Lib.compactUpTo
 rw[List.pairwise_map]
 have hr:((List.range l.length).filter (Go.Lib.keeps l.toArray)).Pairwise fun i j=>i<j∧j<l.length∧Go.Lib.keeps l.toArray j=true:=by
  have h1:(List.range l.length).Pairwise fun i j=>i<j∧j<l.length:=by
   rw[List.pairwise_iff_getElem]
   intro i j hi hj jK
   simp only[List.getElem_range]
   exact⟨jK,by simpa using hj⟩
  rw[List.pairwise_filter]
  exact h1.imp fun jK _ hk=>⟨jK.1,jK.2,hk⟩
 refine hr.imp fun {i j} ⟨h1,h2,h3⟩ =>?_
 have hk:l.toArray[j]!≠l.toArray[j-1]!:=by
  unfold Go.Lib.keeps at h3
  simp only[decide_eq_true_eq]at h3
  rcases h3 with h3 | h3
  ·omega
  ·exact h3
 have e1:l.toArray[j]! = l[j]:=by simp[h2]
 have e2:l.toArray[j-1]! = l[j-1]'(by omega):=by simp[show j-1<l.length by omega]
 have e3:l.toArray[i]! = l[i]'(by omega):=by simp[show i<l.length by omega]
 rw[e1,e2]at hk
 rw[e1,e3]
 have q1:=Hr h (i:=i) (j:=j-1) (by omega) (by omega)
 have q2:=Hr h (i:=j-1) (j:=j) (by omega) h2
 omega
theorem Hb{l:List Int}(x:Int):x∈Go.Lib.compact l↔x∈l:=by
 unfold Go.Lib.compact Go.Lib.compactUpTo
 constructor
 ·intro hx
  obtain⟨j,hj,rfl⟩:=List.mem_map.1 hx
  have hj:=List.mem_range.1 (List.mem_filter.1 hj).1
  have e1:l.toArray[j]! = l[j]:=by simp[hj]
  rw[e1];exact List.getElem_mem hj
 ·intro hx
  have hex:∃j,∃h:j<l.length,l[j]=x:=by
   obtain⟨j,hj,e⟩:=List.mem_iff_getElem.1 hx
   exact⟨j,hj,e⟩
  obtain⟨j,⟨hj,e⟩,gg⟩:∃j,(∃h:j<l.length,l[j]=x)∧∀k,k<j→¬∃h:k<l.length,l[k]=x:=by
   obtain⟨j,hj⟩:=hex
   induction j using Nat.strongRecOn with
   | ind j ih =>
    by_cases hk:∃k,k<j∧∃h:k<l.length,l[k]=x
    ·obtain⟨k,h1,h2⟩:=hk
     exact ih k h1 h2
    ·exact⟨j,hj,fun k h1 h2=>hk ⟨k,h1,h2⟩⟩
  refine List.mem_map.2 ⟨j,List.mem_filter.2 ⟨List.mem_range.2 hj,?_⟩,by simp[hj,e]⟩
  unfold Go.Lib.keeps
  rw[decide_eq_true_eq]
  by_cases h0:j=0
  ·exact .inl h0
  ·refine .inr fun h=>gg (j-1) (by omega) ⟨by omega,?_⟩
   have e1:l.toArray[j]! = l[j]:=by simp[hj]
   have e2:l.toArray[j-1]! = l[j-1]'(by omega):=by simp[show j-1<l.length by omega]
   rw[e1,e2]at h
   rw[← h];exact e
theorem RY{zs:List Int}{n:Nat}(h:∀z∈zs,0≤z∧z<n):tv zs=((List.range n).map fun i:Nat=>(i:Int)).filter fun b=>decide (b∈zs):=by
 refine DM (N4 (GM zs)) ?_ fun x =>?_
 ·refine List.Pairwise.filter _ ?_
  rw[List.pairwise_map,List.pairwise_iff_getElem]
  intro i j hi hj jK
  simp only[List.getElem_range]
  omega
 ·unfold tv
  rw[Hb,HY,List.mem_filter,decide_eq_true_eq]
  refine⟨fun hx=>⟨?_,hx⟩,fun hx=>hx.2⟩
  have:=h x hx
  exact List.mem_map.2 ⟨x.toNat,List.mem_range.2 (by omega),by omega⟩
theorem G8:Enters Tryz.prog 244:=enters_of Tryz.func244 (by kernel_rfl)
theorem G9:Enters Tryz.prog 245:=enters_of Tryz.func245 (by kernel_rfl)
theorem Aw{vs:Array Value}(h:1=vs.size):∃v,vs = #[v]:=by
 refine⟨vs.getD 0 undef,Array.ext ?_ fun i h2 h3 =>?_⟩
 ·simp[← h]
 ·have:i=0:=by omega
  subst this
  simp[Array.getD,h2]
theorem DB{F:Nat→Prop}{w:World}:aA F w (.tup []) (.tuple #[]):=.tup [] #[] rfl fun i x h=>by simp at h
theorem Vr(σ:Hp):ACalls Tryz.prog 244 [.aj] σ (aB (.tup []) σ):=by
 refine⟨G8,fun F w vs bD aD =>?_⟩
 obtain⟨v,rfl⟩:=Aw bD.1
 have hv:aA F w .aj v:=bD.2 0 _ rfl
 cases hv
 have h:Calls Tryz.prog 244 #[.slice none 0 0] w fun e w'=>e=.returned (.tuple #[])∧w'=w:=Any.slices_Sort_int_none DJ none 0 w
 refine h.mono ?_
 rintro e w' ⟨rfl,rfl⟩
 exact⟨.tup [],.tuple #[],σ,F,rfl,.refl _ _,aD,DB,rfl,rfl⟩
theorem Ec(b:Nat)(zs:List Int)(n:Nat)(σ:Hp)(hz:zs.length=n)(hl:n≤1000000):ACalls Tryz.prog 244 [.ae b 0 n 1] ((b,ak zs)::σ) (aB (.tup []) ((b,ak (dU zs))::σ)):=by
 subst hz
 refine⟨G8,fun F w vs bD aD =>?_⟩
 obtain⟨v,rfl⟩:=Aw bD.1
 have hv:aA F w (.ae b 0 zs.length 1) v:=bD.2 0 _ rfl
 obtain⟨a,cap,rfl,c,T,fz,m1,m2,m3,m4⟩:=hv.iS
 rcases m4 with ⟨rfl,_⟩ | ⟨_,_,h0,_⟩
 ·obtain⟨h1,h2⟩:=Ds aD
  have h:Calls Tryz.prog 244 #[.slice (some ⟨b,0,none⟩) zs.length cap] w fun e w'=>e=.returned (.tuple #[])∧∃n os,w'=Go.Sort.grow (Go.Sort.putRow (Value.int .i64) (Go.Sort.ahead w n) b 0 (dU zs).toArray) os:=Any.slices_Sort_int DJ b 0 cap zs w h1 h2 (by omega)
  refine h.mono ?_
  rintro e w' ⟨rfl,n,os,rfl⟩
  obtain⟨k1,k2⟩:=Ar (n:=n) aD (uv zs) os
  exact⟨.tup [],.tuple #[],_,F,rfl,k1,k2,DB,rfl,rfl⟩
 ·have hz:zs=[]:=List.length_eq_zero_iff.1 h0
  subst hz
  have h:Calls Tryz.prog 244 #[.slice (some a) 0 cap] w fun e w'=>e=.returned (.tuple #[])∧w'=w:=Any.slices_Sort_int_none DJ (some a) cap w
  have he:dU []=[]:=List.length_eq_zero_iff.1 (uv [])
  rw[he]
  refine h.mono ?_
  rintro e w' ⟨rfl,rfl⟩
  exact⟨.tup [],.tuple #[],_,F,rfl,.refl _ _,aD,DB,rfl,rfl⟩
theorem VP(σ:Hp):ACalls Tryz.prog 245 [.aj] σ (aB .aj σ):=by
 refine⟨G9,fun F w vs bD aD =>?_⟩
 obtain⟨v,rfl⟩:=Aw bD.1
 have hv:aA F w .aj v:=bD.2 0 _ rfl
 cases hv
 have h:Calls Tryz.prog 245 #[.slice none 0 0] w fun e w'=>e=.returned (.slice none 0 0)∧w'=w:=Any.slices_Compact_int_empty DI none 0 w
 refine h.mono ?_
 rintro e w' ⟨rfl,rfl⟩
 exact⟨.aj,_,σ,F,rfl,.refl _ _,aD,.aj,rfl,rfl⟩
theorem VQ(b:Nat)(zs:List Int)(n:Nat)(σ:Hp)(hz:zs.length=n)(hl:n≤1000000):ACalls Tryz.prog 245 [.ae b 0 n 1] ((b,ak zs)::σ) (aB (.ae b 0 (Go.Lib.compact zs).length 1) ((b,ak (Go.Lib.compact zs++List.replicate (n-(Go.Lib.compact zs).length) 0))::σ)):=by
 subst hz
 have hle:=N3 zs
 refine⟨G9,fun F w vs bD aD =>?_⟩
 obtain⟨v,rfl⟩:=Aw bD.1
 have hv:aA F w (.ae b 0 zs.length 1) v:=bD.2 0 _ rfl
 obtain⟨a,cap,rfl,c,T,fz,m1,m2,m3,m4⟩:=hv.iS
 rcases m4 with ⟨rfl,m5⟩ | ⟨m5,m6,h0,m7⟩
 ·obtain⟨h1,h2⟩:=Ds aD
  have h:Calls Tryz.prog 245 #[.slice (some ⟨b,0,none⟩) zs.length cap] w fun e w'=>e=.returned (.slice (some ⟨b,0,none⟩) (Go.Lib.compact zs).length cap)∧∃q,w'=Go.Sort.putRow (Value.int .i64) (Go.Sort.ahead w q) b 0 (Go.Lib.compact zs++List.replicate (zs.length-(Go.Lib.compact zs).length) 0).toArray:=Any.slices_Compact_int DI b 0 cap zs w h1 (by omega) m2
  refine h.mono ?_
  rintro e w' ⟨rfl,q,rfl⟩
  obtain⟨k1,k2⟩:=Ar (n:=q) (zs':=Go.Lib.compact zs++List.replicate (zs.length-(Go.Lib.compact zs).length) 0) aD (by rw[List.length_append,List.length_replicate];omega) #[]
  have hg:∀W:World,Go.Sort.grow W #[]=W:=fun W=>by unfold Go.Sort.grow;rw[Array.append_empty]
  rw[hg]at k1 k2
  obtain⟨c',nG,jf,cI⟩:=k1.rows b c T fz m1
  exact⟨.ae b 0 _ 1,_,_,F,rfl,k1,k2,.ae _ _ _ _ _ _ ⟨c',T,nG,jf,by omega,m3,.inl ⟨rfl,by omega⟩⟩,rfl,rfl⟩
 ·have hz:zs=[]:=List.length_eq_zero_iff.1 h0
  subst hz
  have h:Calls Tryz.prog 245 #[.slice (some a) 0 cap] w fun e w'=>e=.returned (.slice (some a) 0 cap)∧w'=w:=Any.slices_Compact_int_empty DI (some a) cap w
  refine h.mono ?_
  rintro e w' ⟨rfl,rfl⟩
  exact⟨.ae b 0 0 1,_,_,F,rfl,.refl _ _,aD,hv,rfl,rfl⟩
theorem Qm:tv []=[]:=List.eq_nil_iff_forall_not_mem.2 fun x h=>by
 unfold tv at h
 rw[Hb,HY]at h
 cases h
set_option maxRecDepth 100000
def fk(n:Int)(l:List aK)(a:Int):List Int:=(l.filter fun e=>decide (e.1=a) && bG n a && bG n e.2.1).map fun e=>e.2.1
def au(n:Int)(l:List aK)(a:Int):List Int:=((List.range n.toNat).map fun i:Nat=>(i:Int)).filter fun b=>decide (b∈fk n l a)
theorem PV(n:Int)(l:List aK)(a:Int):(fk n l a).length≤l.length:=by unfold fk;rw[List.length_map];exact List.length_filter_le _ _
theorem Il{n:Int}{l:List aK}{a z:Int}(h:z∈fk n l a):0≤z∧z<n:=by
 unfold fk at h
 obtain⟨e,he,rfl⟩:=List.mem_map.1 h
 have h4:=(List.mem_filter.1 he).2
 simp only[Bool.and_eq_true,decide_eq_true_eq,iu]at h4
 exact h4.2
theorem OF(n:Int)(l:List aK)(a:Int){k:Nat}(h:k<l.length):fk n (l.take (k+1)) a=fk n (l.take k) a++(if (decide (l[k].1=a) && bG n a && bG n l[k].2.1)=true then [l[k].2.1] else []):=by
 unfold fk
 rw[List.take_succ_eq_append_getElem h,List.filter_append,List.map_append]
 congr 1
 by_cases hc:(decide (l[k].1=a) && bG n a && bG n l[k].2.1)=true
 ·rw[if_pos hc];have e:=List.filter_cons_of_pos (p:=fun e:aK=>decide (e.1=a) && bG n a && bG n e.2.1) (a:=l[k]) (l:=[]) hc;rw[e];rfl
 ·rw[if_neg hc];have e:=List.filter_cons_of_neg (p:=fun e:aK=>decide (e.1=a) && bG n a && bG n e.2.1) (a:=l[k]) (l:=[]) hc;rw[e];rfl
theorem QW(n:Int)(l:List aK)(a:Int):tv (fk n l a)=au n l a:=by
 unfold au
 exact RY fun z hz=>by have:=Il hz;omega
theorem vw(n:Int)(l:List aK)(a:Int)(σ:Hp)(hl:l.length≤100000):ACalls Tryz.prog 204 [.int .i64 n,.af bA l,.int .i64 a] σ (aB (.af (.int .i64) (au n l a)) σ):=by
 refine okF Tryz.func204 (by kernel_rfl) ?_
 refine .wrap 7 _ rfl rfl ?_
 refine aU (S:=Nat×AV×Hp) (fun s=>[(0,.int .i64 n),(2,.int .i64 a),(7,.via s.2.1),(10,.af bA l),(11,.int .i64 l.length),(12,.int .i64 s.1)]) (fun s=>s.2.2++σ) (fun s=>s.1≤l.length∧Acc 1 (fk n (l.take s.1) a).length s.2.1 s.2.2 (ak (fk n (l.take s.1) a))) (fun s=>l.length-s.1) (0,.aj,[]) ⟨⟨Nat.zero_le _,.nil⟩,⟨rfl,rfl,rfl,rfl,rfl,rfl,trivial⟩,rfl⟩ ?_
 rintro⟨k,v,acc⟩ g ⟨aG,eR⟩
 have hk:k≤l.length:=aG
 have bc:Acc 1 (fk n (l.take k) a).length v acc (ak (fk n (l.take k) a)):=eR
 clear aG eR
 have kZ:(fk n (l.take k) a).length≤k:=by have:=PV n (l.take k) a;rw[List.length_take]at this;omega
 refine an (fun ab =>?_) (fun aq =>?_)
 ·have ab:k<l.length:=by have ab:(k:Int)<l.length:=ab;omega
  have hs:=OF n l a ab
  obtain⟨d,hd⟩:∃d:aK,l[k]=d:=⟨_,rfl⟩
  rw[hd]at hs
  refine ah.mk rfl (aT.mk d (by omega) ((get_some ab).trans (congrArg some hd)) ?_)
  intro aC
  refine ai.mk 0 _ _ rfl rfl ?_
  refine aa.mk 0 _ _ rfl rfl ?_
  refine an (p:=d.1=a) (fun c1 =>?_) (fun c1 =>?_)
  ·refine cm [] (Bi n a _) (fun c2 =>?_) (fun c2 =>?_)
   ·refine aa.mk 0 _ _ rfl rfl ?_
    refine cm [] (Bi n d.2.1 _) (fun c3 =>?_) (fun c3 =>?_)
    ·rw[decide_eq_true c1,c2,c3,if_pos (show (true && true && true)=true from rfl)]at hs
     refine aa.mk 0 _ _ rfl rfl ?_
     intro bM
     refine dX [_,_] bc (.ae 0 bM 0 1 _ rfl (Nat.le_of_ble_eq_true rfl)) rfl (by omega) (by decide) (by decide) (fun v' aP h' =>?_)
     refine aH (k+1,v',aP) (by show l.length-(k+1)<l.length-k;omega) ⟨ab,?_⟩ ⟨rfl,rfl,rfl,rfl,rfl,aI (by omega),trivial⟩ (.drop 0 2 (aF rfl))
     show Acc 1 (fk n (l.take (k+1)) a).length v' aP (ak (fk n (l.take (k+1)) a))
     rw[hs,List.length_append,ak,List.map_append]
     exact h'
    ·rw[c3,Bool.and_false,if_neg (by decide),List.append_nil]at hs
     refine aH (k+1,v,acc) (by show l.length-(k+1)<l.length-k;omega) ⟨ab,by show Acc 1 (fk n (l.take (k+1)) a).length v acc (ak (fk n (l.take (k+1)) a));rw[hs];exact bc⟩ ⟨rfl,rfl,rfl,rfl,rfl,aI (by omega),trivial⟩ (.drop 0 1 (aF rfl))
   ·rw[c2,Bool.and_false,Bool.false_and,if_neg (by decide),List.append_nil]at hs
    refine aH (k+1,v,acc) (by show l.length-(k+1)<l.length-k;omega) ⟨ab,by show Acc 1 (fk n (l.take (k+1)) a).length v acc (ak (fk n (l.take (k+1)) a));rw[hs];exact bc⟩ ⟨rfl,rfl,rfl,rfl,rfl,aI (by omega),trivial⟩ (.drop 0 1 (aF rfl))
  ·rw[decide_eq_false c1,Bool.false_and,Bool.false_and,if_neg (by decide),List.append_nil]at hs
   refine aH (k+1,v,acc) (by show l.length-(k+1)<l.length-k;omega) ⟨ab,by show Acc 1 (fk n (l.take (k+1)) a).length v acc (ak (fk n (l.take (k+1)) a));rw[hs];exact bc⟩ ⟨rfl,rfl,rfl,rfl,rfl,aI (by omega),trivial⟩ (.drop 0 1 (aF rfl))
 ·have aq:k=l.length:=by have aq:¬(k:Int)<l.length:=aq;omega
  subst aq
  rw[List.take_length]at bc kZ
  have EH:=QW n l a
  generalize fk n l a=zs at bc kZ EH
  generalize hC:ak zs=C at bc
  generalize hm:zs.length=m at bc
  cases bc with
  | nil =>
   have hz:zs=[]:=List.length_eq_zero_iff.1 hm
   subst hz
   refine az [] (Vr _) ?_
   refine az [] (VP _) ?_
   exact .nil (.nil (.int .i64)) (.done ⟨by rw[← EH,Qm];rfl,rfl⟩)
  | ae b m cs h =>
   subst hC
   refine az [] (Ec b zs m σ hm (by omega)) ?_
   refine az [] (VQ b (dU zs) m σ ((uv zs).trans hm) (by omega)) ?_
   refine .bO 0 b 0 _ 1 _ (.int .i64) (tv zs) rfl ?_ ⟨rfl,rfl,by decide⟩ .here (.done ⟨by rw[EH],rfl⟩)
   rw[List.drop_zero,← fi]
   unfold tv ak
   rw[List.map_append,Nat.mul_one,List.take_append_of_le_length (by rw[List.length_map];exact Nat.le_refl _)]
   exact List.take_of_length_le (by rw[List.length_map];exact Nat.le_refl _)
end Go.Proofs.YtnpidbjdilnhlaaGreat
namespace Go.Proofs.YtnpidbjdilnhlaaGreat
open Go.RowKit
structure mN(ag w:Int)(a:List Int):Prop where
 v:dZ ag w a=true
 ic:bJ a
structure Fm(s:Sy)(a:List (List Int)):Prop where
 len:(a.length:Int)=s.n
 val:∀x∈a,mN s.ag s.w x
theorem Fm.ok{s:Sy}{a:List (List Int)}(hg:Good s)(h:Fm s a):Me a:=by
 have h1:=h.len
 have h2:=hg.n2
 exact⟨by omega,fun x hx=>⟨(h.val x hx).ic,by have:=Po (h.val x hx).v;omega⟩⟩
theorem Pq{s:Sy}(hf:Fit s)(hg:Good s)(v:Int):mN s.ag s.w (eE s v):=⟨(CP hf hg v).1,(CP hf hg v).2⟩
end Go.Proofs.YtnpidbjdilnhlaaGreat
