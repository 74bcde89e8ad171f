import Derived.Shelf.SlSortCmp.NoneTotal
import Derived.Test.YtnpidbjdilnhlaaGreatBn11
import Derived.Test.YtnpidbjdilnhlaaGreatBn23
import Derived.Test.YtnpidbjdilnhlaaGreatBn26
import Derived.Test.YtnpidbjdilnhlaaGreatBn43
import Derived.Test.YtnpidbjdilnhlaaGreatBn38
namespace Go.Proofs.YtnpidbjdilnhlaaGreat
open Go.Shelf
def NU:Go.Shelf.Ren:=⟨fun | 6=>153 | 15=>208 | 14=>207 | 28=>258 | 29=>259 | 20=>250 | 21=>251 | 22=>252 | 23=>253 | 24=>254 | 25=>255 | 26=>256 | 27=>257 | 46=>286 | 47=>287 | 48=>288 | 49=>289 | 50=>290 | 57=>316 | n=>n,fun | 22=>23 | 24=>3 | 25=>88 | 3=>3 | 39=>253 | 0=>0 | 53=>290 | 55=>38 | 4=>4 | 46=>283 | 45=>282 | 50=>287 | 5=>5 | 9=>9 | 66=>314 | 70=>318 | 76=>333 | 77=>70 | n=>n,fun | n=>n⟩
theorem Tz:Go.Proofs.SlLaysF.n6 Tryz.prog NU:= {
 mixed:=by kernel_rfl
 f6 := ⟨"slices.SortFunc[[]int,int]", by decide, Tryz.func153.trans (congrArg some (by kernel_rfl))⟩
 f14 := ⟨"slices.pdqsortCmpFunc[int]", by decide, Tryz.func207.trans (congrArg some (by kernel_rfl))⟩
 f15:=Tryz.func208.trans (congrArg some (by kernel_rfl))
 f20 := ⟨"slices.insertionSortCmpFunc[int]", by decide, Tryz.func250.trans (congrArg some (by kernel_rfl))⟩
 f21 := ⟨"slices.heapSortCmpFunc[int]", by decide, Tryz.func251.trans (congrArg some (by kernel_rfl))⟩
 f22 := ⟨"slices.breakPatternsCmpFunc[int]", by decide, Tryz.func252.trans (congrArg some (by kernel_rfl))⟩
 f23 := ⟨"slices.choosePivotCmpFunc[int]", by decide, Tryz.func253.trans (congrArg some (by kernel_rfl))⟩
 f24 := ⟨"slices.reverseRangeCmpFunc[int]", by decide, Tryz.func254.trans (congrArg some (by kernel_rfl))⟩
 f25 := ⟨"slices.partialInsertionSortCmpFunc[int]", by decide, Tryz.func255.trans (congrArg some (by kernel_rfl))⟩
 f26 := ⟨"slices.partitionEqualCmpFunc[int]", by decide, Tryz.func256.trans (congrArg some (by kernel_rfl))⟩
 f27 := ⟨"slices.partitionCmpFunc[int]", by decide, Tryz.func257.trans (congrArg some (by kernel_rfl))⟩
 f28:=Tryz.func258.trans (congrArg some (by kernel_rfl))
 f29:=Tryz.func259.trans (congrArg some (by kernel_rfl))
 f46 := ⟨"slices.siftDownCmpFunc[int]", by decide, Tryz.func286.trans (congrArg some (by kernel_rfl))⟩
 f47:=Tryz.func287.trans (congrArg some (by kernel_rfl))
 f48:=Tryz.func288.trans (congrArg some (by kernel_rfl))
 f49 := ⟨"slices.medianAdjacentCmpFunc[int]", by decide, Tryz.func289.trans (congrArg some (by kernel_rfl))⟩
 f50 := ⟨"slices.medianCmpFunc[int]", by decide, Tryz.func290.trans (congrArg some (by kernel_rfl))⟩
 f57 := ⟨"slices.order2CmpFunc[int]", by decide, Tryz.func316.trans (congrArg some (by kernel_rfl))⟩
 t0:=Tryz.underlying0
 a0:=Tryz.isAgg0
 z0:=Tryz.sizeOf0
 v0:=Tryz.zeroValue0
 t3:=Tryz.underlying3
 a3:=Tryz.isAgg3
 z3:=Tryz.sizeOf3
 v3:=Tryz.zeroValue3
 t4:=Tryz.underlying4
 a4:=Tryz.isAgg4
 z4:=Tryz.sizeOf4
 v4:=Tryz.zeroValue4
 t5:=Tryz.underlying5
 a5:=Tryz.isAgg5
 z5:=Tryz.sizeOf5
 v5:=Tryz.zeroValue5
 t9:=Tryz.underlying9
 a9:=Tryz.isAgg9
 z9:=Tryz.sizeOf9
 v9:=Tryz.zeroValue9
 t22:=Tryz.underlying23
 a22:=Tryz.isAgg23
 z22:=Tryz.sizeOf23
 v22:=Tryz.zeroValue23
 a24:=Tryz.isAgg3
 z24:=Tryz.sizeOf3
 t25:=Tryz.underlying88
 a25:=Tryz.isAgg88
 z25:=Tryz.sizeOf88
 v25:=Tryz.zeroValue88
 t39:=Tryz.underlying253
 a39:=Tryz.isAgg253
 z39:=Tryz.sizeOf253
 v39:=Tryz.zeroValue253
 t45:=Tryz.underlying282
 a45:=Tryz.isAgg282
 z45:=Tryz.sizeOf282
 v45:=Tryz.zeroValue282
 t46:=Tryz.underlying283
 a46:=Tryz.isAgg283
 z46:=Tryz.sizeOf283
 v46:=Tryz.zeroValue283
 t50:=Tryz.underlying287
 a50:=Tryz.isAgg287
 z50:=Tryz.sizeOf287
 v50:=Tryz.zeroValue287
 t53:=Tryz.underlying290
 a53:=Tryz.isAgg290
 z53:=Tryz.sizeOf290
 v53:=Tryz.zeroValue290
 t55:=Tryz.underlying38
 a55:=Tryz.isAgg38
 z55:=Tryz.sizeOf38
 v55:=Tryz.zeroValue38
 t66:=Tryz.underlying314
 a66:=Tryz.isAgg314
 z66:=Tryz.sizeOf314
 v66:=Tryz.zeroValue314
 t70:=Tryz.underlying318
 a70:=Tryz.isAgg318
 z70:=Tryz.sizeOf318
 v70:=Tryz.zeroValue318
 t76:=Tryz.underlying333
 a76:=Tryz.isAgg333
 z76:=Tryz.sizeOf333
 v76:=Tryz.zeroValue333
 t77:=Tryz.underlying70
 a77:=Tryz.isAgg70
 z77:=Tryz.sizeOf70
 v77:=Tryz.zeroValue70 }
end Go.Proofs.YtnpidbjdilnhlaaGreat
namespace Go.Proofs.YtnpidbjdilnhlaaGreat
open Go.RowKit Go.Lib
set_option maxRecDepth 100000
theorem UE(n:Nat)(rk:List Int)(x y:Int)(σ:Hp)(hr:rk.length=n)(hx:0≤x∧x<n)(hy:0≤y∧y<n):ACalls Tryz.prog 154 [.int .i64 x,.int .i64 y,.ej [.af (.int .i64) rk]] σ (aB (.int .i64 (IntKind.i64.wrap (rk.getD x.toNat 0-rk.getD y.toNat 0))) σ):=by
 have h1:rk[x.toNat]?=some (rk.getD x.toNat 0):=by rw[List.getD_eq_getElem?_getD,List.getElem?_eq_getElem (by omega)];rfl
 have h2:rk[y.toNat]?=some (rk.getD y.toNat 0):=by rw[List.getD_eq_getElem?_getD,List.getElem?_eq_getElem (by omega)];rfl
 refine okF Tryz.func154 (by kernel_rfl) ?_
 refine .quiet (by kernel_rfl) ?_
 refine ah.mk rfl ?_
 refine aT.mk _ hx.1 h1 ?_
 refine ah.mk rfl ?_
 refine aT.mk _ hy.1 h2 ?_
 exact .done ⟨rfl,rfl⟩
abbrev j9(n:Nat):Type:= { x:Int // 0≤x∧x<(n:Int) }
def qH{n:Nat}(rk:List Int)(x y:j9 n):Int:=IntKind.i64.wrap (rk.getD x.1.toNat 0-rk.getD y.1.toNat 0)
def og{n:Nat}(x:j9 n):Value:=.int .i64 x.1
structure oo(n:Nat)(rk:List Int):Prop where
 len:rk.length=n
 big:∀i:Nat,i<n→0≤rk.getD i 0∧rk.getD i 0<1000000
 inj:∀i j:Nat,i<n→j<n→rk.getD i 0=rk.getD j 0→i=j
theorem oo.lt{n:Nat}{rk:List Int}(h:oo n rk)(x y:j9 n):ltOf (qH rk) x y=decide (rk.getD x.1.toNat 0<rk.getD y.1.toNat 0):=by
 unfold ltOf
 rw[decide_eq_decide]
 have h1:=h.big x.1.toNat (by have:=x.2;omega)
 have h2:=h.big y.1.toNat (by have:=y.2;omega)
 unfold qH
 rw[IntKind.wrap_i64]
 omega
theorem oo.swo{n:Nat}{rk:List Int}(h:oo n rk):Go.Sort.SWO (ltOf (qH (n:=n) rk)) where
 irrefl x:=by rw[h.lt];simp
 trans x y z h1 h2:=by rw[h.lt]at *;simp only[decide_eq_true_eq]at *;omega
 ntrans x y z h1 h2:=by rw[h.lt]at *;simp only[decide_eq_false_iff_not]at *;omega
theorem oo.tot{n:Nat}{rk:List Int}(h:oo n rk)(x y:j9 n)(h1:ltOf (qH rk) x y=false)(h2:ltOf (qH rk) y x=false):x=y:=by
 rw[h.lt]at h1 h2
 simp only[decide_eq_false_iff_not]at h1 h2
 have hx:=x.2
 have hy:=y.2
 have:=h.inj x.1.toNat y.1.toNat (by omega) (by omega) (by omega)
 exact Subtype.ext (by omega)
def pf{n:Nat}(rk:List Int)(L:List (j9 n)):List (j9 n):=L.mergeSort fun x y => !(ltOf (qH rk)) y x
theorem Nn{n:Nat}(rk:List Int)(L:List (j9 n)):(pf rk L).length=L.length:=List.length_mergeSort ..
def fP{n:Nat}(L:List (j9 n)):List Int:=L.map (·.1)
theorem Jc{n:Nat}[Inhabited (j9 n)](w:World)(b:Nat)(d:List (j9 n)):Go.Sort.putRow og w b 0 d.toArray=Go.Sort.putRow (Value.int .i64) w b 0 (fP d).toArray:=by
 have e:Go.Sort.putCells og 0 d.toArray=Go.Sort.putCells (Value.int .i64) 0 (fP d).toArray:=by
  funext c
  unfold Go.Sort.putCells
  refine Array.ext (by simp) fun i h1 h2 =>?_
  have hs:(fP d).toArray.size=d.toArray.size:=by simp[fP]
  simp only[Array.getElem_mapIdx,hs]
  by_cases hi:0≤i∧i<0+d.toArray.size
  ·rw[if_pos hi,if_pos hi]
   have vT:i<d.length:=by have:=hi.2;simp at this;omega
   have e1:d.toArray[i-0]! = d[i]'vT:=by simp[vT]
   have e2:(fP d).toArray[i-0]! = (d[i]'vT).1:=by simp[fP,vT]
   rw[e1,e2];rfl
  ·rw[if_neg hi,if_neg hi]
 unfold Go.Sort.putRow
 rw[e]
theorem wi{n:Nat}(L:List (j9 n)):(fP L).length=L.length:=List.length_map _
theorem Nr:Enters Tryz.prog 153:=enters_of Tryz.func153 (by kernel_rfl)
theorem N2:Enters Tryz.prog 154:=enters_of Tryz.func154 (by kernel_rfl)
theorem XM{F:Nat→Prop}{w:World}{f:Fn}{bk:Nat}{v:Value}(h:aA F w (.fn f [] [.ptr bk 0]) v):v=.func f #[] #[.pointer (some ⟨bk,0,none⟩)]:=by
 cases h with
 | fn _ _ _ v1 v2 dR eW h1 h2 =>
  have e1:v1 = #[]:=Array.eq_empty_of_size_eq_zero dR.symm
  obtain⟨z,rfl⟩:∃z,v2 = #[z]:=by
   obtain⟨l2⟩:=v2
   match l2,eW with
   | [z],_=>exact⟨z,rfl⟩
  subst e1
  have h3:=h2 0 _ rfl
  cases h3
  rfl
theorem Qp{F:Nat→Prop}{w:World}{σ:Hp}{n:Nat}[Inhabited (j9 n)]{rk:List Int}{b bk:Nat}{L:List (j9 n)}(hr:oo n rk)(aD:aV F w ((b,ak (fP L))::(bk,[.af (.int .i64) rk])::σ)):CmpLays1 Tryz.prog 154 #[.pointer (some ⟨bk,0,none⟩)] og (qH (n:=n) rk) b 0 L.length w:=fun m os dk hdk x y=>by
 have hd:(fP dk.toList).length=(fP L).length:=by
  rw[wi,wi,Array.length_toList,hdk]
 obtain⟨s1,s2⟩:=Ar (n:=m) (zs':=fP dk.toList) aD hd os
 have hW:sortWorld og w b 0 m dk os=Go.Sort.grow (Go.Sort.putRow (Value.int .i64) (Go.Sort.ahead w m) b 0 (fP dk.toList).toArray) os:=by
  have:=Jc (Go.Sort.ahead w m) b dk.toList
  show Go.Sort.grow (Go.Sort.putRow og (Go.Sort.ahead w m) b 0 dk) os=_
  rw[← this]
 rw[← hW]at s1 s2
 generalize sortWorld og w b 0 m dk os=W at s1 s2
 obtain⟨hF,c,T,h1,h2,h3⟩:=(s2.holds (bk,[.af (.int .i64) rk]) (List.mem_cons_of_mem _ (List.mem_cons_self ..))).DH (fun x hx=>by rw[List.mem_singleton.1 hx];rfl)
 have ar:a6 F W (fun k=>k<W.heap.size) W:=⟨rfl,rfl,rfl,Nat.le_refl _,fun k hk=>s2.low k hk,fun _ _=>rfl,fun k c T fz h=>⟨c,fz,h,rfl⟩,Nat.le_refl _⟩
 have sy:bk<W.heap.size:=(Array.getElem?_eq_some_iff.1 h1).1
 have pN:0<c.size:=h2
 have hv:aA (fun k=>k<W.heap.size) W (.ej [.af (.int .i64) rk]) (.pointer (some ⟨bk,0,none⟩)):=by
  refine .ej _ bk 0 (fun i=>c.getD i undef) ⟨sy,c,T,(0,0),h1⟩ (fun i x hx =>?_) (fun i x hx =>?_) (fun i x hx =>?_)
  ·match i,hx with
   | 0,hx=>rw[DS h1,Array.getD_eq_getD_getElem?,Array.getElem?_eq_getElem (by omega)];rfl
   | i+1,hx=>simp at hx
  ·exact (h3 i x hx).1
  ·exact (h3 i x hx).2.mono ar
 have h:=O5 (fun σ=>UE n rk x.1 y.1 σ hr.len x.2 y.2) (w:=W) (vs:= #[.int .i64 x.1,.int .i64 y.1,.pointer (some ⟨bk,0,none⟩)]) ⟨rfl,fun i a h=>by
  match i,h with
  | 0,h=>cases h;exact .int _ _
  | 1,h=>cases h;exact .int _ _
  | 2,h=>cases h;exact hv⟩
 exact h
theorem QG(n:Nat)[Inhabited (j9 n)](rk:List Int)(b bk:Nat)(L:List (j9 n))(q:Nat)(σ:Hp)(hr:oo n rk)(hz:L.length=q)(h0:0<q)(hl:q≤1000000):ACalls Tryz.prog 153 [.ae b 0 q 1,.fn (.func 154) [] [.ptr bk 0]] ((b,ak (fP L))::(bk,[.af (.int .i64) rk])::σ) (aB (.tup []) ((b,ak (fP (pf rk L)))::(bk,[.af (.int .i64) rk])::σ)):=by
 subst hz
 refine⟨Nr,fun F w vs bD aD =>?_⟩
 obtain⟨v,u,rfl⟩:∃v u,vs = #[v,u]:=by
  obtain⟨l2⟩:=vs
  match l2,bD.1 with
  | [v,u],_=>exact⟨v,u,rfl⟩
 have hv:aA F w (.ae b 0 L.length 1) v:=bD.2 0 _ rfl
 obtain rfl:=XM (show aA F w (.fn (.func 154) [] [.ptr bk 0]) u from bD.2 1 _ rfl)
 obtain⟨a,cap,rfl,c,T,fz,m1,m2,m3,m4⟩:=hv.iS
 rcases m4 with ⟨rfl,_⟩ | ⟨_,_,h9,_⟩
 ·obtain⟨h1,h2⟩:=Ds aD
  have h1:Go.Sort.Holds (og (n:=n)) w b 0 L.toArray:=fun j hj=>by
   have hj2:j<L.length:=by simpa using hj
   have hh:=h1 j (by simp[fP];exact hj2)
   rw[show (fP L).toArray[j]! = (L.toArray[j]!).1 by simp[fP,hj2]]at hh
   exact hh
  have h:Calls Tryz.prog 153 #[.slice (some ⟨b,0,none⟩) L.length cap,.func (.func 154) #[] #[.pointer (some ⟨bk,0,none⟩)]] w fun e w'=>e=.returned (.tuple #[])∧∃n os,w'=sortWorld og w b 0 n (pf rk L).toArray os:=Any.slices_SortFunc_total Tz og (fun _=>rfl) (qH rk) hr.swo 154 #[.pointer (some ⟨bk,0,none⟩)] b 0 cap L.toArray w N2 (by have:=Qp hr aD;simpa using this) h1 h2 (by show L.length<_;omega) hr.tot
  refine h.mono ?_
  rintro e w' ⟨rfl,m,os,rfl⟩
  obtain⟨k1,k2⟩:=Ar (n:=m) (zs':=fP (pf rk L)) aD (by rw[wi,wi,Nn]) os
  have hW:sortWorld og w b 0 m (pf rk L).toArray os=Go.Sort.grow (Go.Sort.putRow (Value.int .i64) (Go.Sort.ahead w m) b 0 (fP (pf rk L)).toArray) os:=by
   show Go.Sort.grow (Go.Sort.putRow og (Go.Sort.ahead w m) b 0 (pf rk L).toArray) os=_
   rw[Jc]
  rw[hW]
  exact⟨.tup [],.tuple #[],_,F,rfl,k1,k2,.tup [] #[] rfl fun i x h=>by simp at h,rfl,rfl⟩
 ·omega
end Go.Proofs.YtnpidbjdilnhlaaGreat
namespace Go.Proofs.YtnpidbjdilnhlaaGreat
open Go.RowKit
set_option maxRecDepth 100000
set_option maxHeartbeats 4000000
def kv(n:Nat)(p:List Int):Nat→List Int
 | 0=>List.replicate n 0
 | k+1=>(kv n p k).set (p.getD k 0).toNat ((n:Int)-1-(k:Int))
theorem oU(n:Nat)(p:List Int):∀k,(kv n p k).length=n
 | 0=>List.length_replicate
 | k+1=>by unfold kv;rw[List.length_set];exact oU n p k
theorem QS{nx:Int→List Int}{n:Nat}{a:Int}{out:List Int}:a∈out++dF nx (n+1) a out:=by
 by_cases h:a∈out
 ·exact List.mem_append_left _ h
 ·refine List.mem_append_right _ ?_
  unfold dF
  rw[if_neg h]
  simp
theorem Je{nx:Int→List Int}{n:Nat}:∀(L out:List Int) (a:Int),a∈out∨a∈L→a∈L.foldl (fun out a=>out++dF nx (n+1) a out) out
 | [],out,a,h=>h.elim id fun h=>by cases h
 | b::L,out,a,h=>by
  refine Je L _ a ?_
  rcases h with h | h
  ·exact .inl (List.mem_append_left _ h)
  ·rcases List.mem_cons.1 h with rfl | h
   ·exact .inl QS
   ·exact .inr h
theorem Ib{n:Nat}{l:List aK}{fr:List Int}{a:Int}(h:0≤a∧a<n):a∈gH n l fr:=by
 refine Je _ _ a (.inr (List.mem_append_right _ (List.mem_map.2 ⟨a.toNat,List.mem_range.2 (by omega),?_⟩)))
 omega
structure ft(n:Nat)(p:List Int):Prop where
 nd:p.Nodup
 rg:∀x∈p,0≤x∧x<(n:Int)
 all:∀x:Int,0≤x∧x<(n:Int)→x∈p
theorem ft.len{n:Nat}{p:List Int}(h:ft n p):p.length=n:=by
 have h1:=zU n p h.nd h.rg
 have h2:((List.range n).map fun a:Nat=>(a:Int)).Nodup:=List.pairwise_map.2 (List.Pairwise.imp (fun h e=>h (Int.ofNat.inj e)) List.nodup_range)
 have h3:∀(A B:List Int),A.Nodup→(∀x∈A,x∈B)→A.length≤B.length:=by
  intro A
  induction A with
  | nil=>intro B _ _;exact Nat.zero_le _
  | cons a A ih =>
   intro B hn hs
   have hn:=List.nodup_cons.1 hn
   have ha:=hs a (List.mem_cons_self ..)
   have:=ih (B.erase a) hn.2 fun x hx=>(List.mem_erase_of_ne (fun e:x=a=>hn.1 (e▸hx))).2 (hs x (List.mem_cons_of_mem _ hx))
   rw[List.length_erase_of_mem ha]at this
   have:=List.length_pos_of_mem ha
   rw[List.length_cons];omega
 have h4:=h3 _ p h2 fun x hx=>by
  obtain⟨a,ha,rfl⟩:=List.mem_map.1 hx
  exact h.all _ ⟨by omega,by have:=List.mem_range.1 ha;omega⟩
 rw[List.length_map,List.length_range]at h4
 omega
theorem KU{n:Nat}{p:List Int}(h:ft n p):∀k,k≤n→∀i,i<k→(kv n p k).getD (p.getD i 0).toNat 0=(n:Int)-1-(i:Int)
 | 0,_,i,hi=>absurd hi (Nat.not_lt_zero _)
 | k+1,hk,i,hi=>by
  have hl:=h.len
  have FZ:k<p.length:=by omega
  have e:∀j,j<p.length→p.getD j 0∈p∧p[j]?=some (p.getD j 0):=fun j hj=>by
   have:p[j]?=some (p.getD j 0):=by rw[List.getD_eq_getElem?_getD,List.getElem?_eq_getElem hj];rfl
   exact⟨List.mem_of_getElem? this,this⟩
  have hr:=h.rg _ (e k FZ).1
  unfold kv
  rw[List.getD_eq_getElem?_getD,List.getElem?_set]
  by_cases he:i=k
  ·subst he
   rw[if_pos rfl,if_pos (by rw[oU];omega)];rfl
  ·have cJ:=h.rg _ (e i (by omega)).1
   have aS:¬(p.getD k 0).toNat=(p.getD i 0).toNat:=fun e2=>by
    have e3:p.getD k 0=p.getD i 0:=by omega
    have:=(List.getElem?_inj (i:=k) (j:=i) FZ h.nd).1 ((e k FZ).2.trans ((congrArg some e3).trans (e i (by omega)).2.symm))
    omega
   rw[if_neg aS,← List.getD_eq_getElem?_getD]
   exact KU h k (by omega) i (by omega)
def iY(n:Nat)(p:List Int):List Int:=kv n p n
theorem KV{n:Nat}{p:List Int}(h:ft n p){i:Nat}{x:Int}(hi:p[i]?=some x):(iY n p).getD x.toNat 0=(n:Int)-1-(i:Int):=by
 have hl:=(List.getElem?_eq_some_iff.1 hi).1
 rw[h.len]at hl
 have:=KU h n (Nat.le_refl _) i hl
 rw[show p.getD i 0=x by rw[List.getD_eq_getElem?_getD,hi];rfl]at this
 exact this
theorem Vx(n:Nat)(l:List aK)(fr:List Int)(σ:Hp)(hl:l.length≤100000)(hf:fr.length≤100000)(cJ:cU n l=true)(jL:∀x∈fr,0≤x∧x<(n:Int)):ACalls Tryz.prog 151 [.int .i64 n,.af bA l,.af (.int .i64) fr] σ (fun r σ'=>r=.tup [.af (.int .i64) (iY n (gH n l fr)),.int .i64 0]∧σ'=σ∧ft n (gH n l fr)):=by
 have hn:1≤n∧n≤256:=by
  unfold cU at cJ
  simp only[Bool.and_eq_true,decide_eq_true_eq]at cJ
  omega
 refine okF Tryz.func151 (by kernel_rfl) ?_
 refine .mk [] _ (WH n l fr _ hl hf cJ jL) ?_
 rintro _ τ ⟨rfl,sm,met,hP⟩
 subst τ
 have hA:ft n (gH n l fr):=⟨hP.nd,hP.rg,fun x hx=>Ib hx⟩
 have hlen:=hA.len
 generalize gH n l fr=p at hP hA hlen
 have FU:((n:Nat):Int).toNat=n:=Int.toNat_natCast n
 refine ah.mk ⟨by omega,by omega,by omega,by decide⟩ ?_
 intro bo
 refine aU (S:=Nat) (fun x=>[(0,.int .i64 n),(10,.ae bo 0 n 1),(25,.af (.int .i64) p),(26,.int .i64 p.length),(27,.int .i64 x)]) (fun x=>(bo,ak (kv n p x))::σ) (fun x=>x≤p.length) (fun x=>p.length-x) 0 ⟨Nat.zero_le _,⟨rfl,rfl,rfl,rfl,rfl,trivial⟩,by rw[show ak (kv n p 0)=bN [.int .i64 0] n from (p8 n).symm];rfl⟩ ?_
 intro k g hk
 have hk:k≤p.length:=hk
 refine an (p:=(k:Int)<p.length) (fun ab =>?_) (fun aq =>?_)
 ·have ab:k<p.length:=by omega
  have hx:=hA.rg _ (List.getElem_mem ab)
  have hlk:=oU n p k
  refine ah.mk rfl (aT.mk p[k] (by omega) (get_some ab) ?_)
  refine ah.mk ⟨rfl,by omega,by omega⟩ ?_
  have hv:IntKind.i64.wrap (IntKind.i64.wrap ((n:Int)-1)-(k:Int))=(n:Int)-1-(k:Int):=by rw[IntKind.wrap_i64,IntKind.wrap_i64];omega
  have iF:kv n p (k+1)=(kv n p k).set p[k].toNat ((n:Int)-1-(k:Int)):=by
   show (kv n p k).set (p.getD k 0).toNat _=_
   rw[List.getD_eq_getElem?_getD,List.getElem?_eq_getElem ab];rfl
  refine ai.mk 0 _ _ rfl (jw rfl _ hx.1 (by omega)) ?_
  exact aH (k+1) (by show p.length-(k+1)<p.length-k;omega) ab ⟨rfl,rfl,rfl,rfl,aI (by omega),trivial⟩ (aF (by rw[hv,← iF];rfl))
 ·have aq:k=p.length:=by omega
  subst aq
  refine .bO 0 bo 0 n 1 _ (.int .i64) (iY n p) rfl (by rw[List.drop_zero,List.take_of_length_le (by rw[jm,oU,Nat.mul_one];exact Nat.le_refl _),hlen];exact fi _) ⟨oU n p n,rfl,by decide⟩ (bL .here (.refl _)) (.done ⟨rfl,rfl,hA⟩)
end Go.Proofs.YtnpidbjdilnhlaaGreat
