import Derived.Shelf.SlSortCmp.NoneTotal
import Derived.Test.YtnpidbjdilnhlaaGreatBn11
import Derived.Test.YtnpidbjdilnhlaaGreatBn19
import Derived.Test.YtnpidbjdilnhlaaGreatBn21
import Derived.Test.YtnpidbjdilnhlaaGreatBn39
import Derived.Test.YtnpidbjdilnhlaaGreatBn35
import Derived.Test.YtnpidbjdilnhlaaGreatBn18
import Derived.Test.YtnpidbjdilnhlaaGreatBn36
namespace Go.Proofs.YtnpidbjdilnhlaaGreat
open Go.Shelf
def Se:Go.Shelf.Ren:=⟨fun | 6=>153 | 15=>208 | 14=>207 | 28=>258 | 29=>259 | 20=>250 | 21=>251 | 22=>252 | 23=>253 | 24=>254 | 25=>255 | 26=>256 | 27=>257 | 46=>286 | 47=>287 | 48=>288 | 49=>289 | 50=>290 | 57=>316 | n=>n,fun | 22=>23 | 24=>3 | 25=>88 | 3=>3 | 39=>253 | 0=>0 | 53=>290 | 55=>38 | 4=>4 | 46=>283 | 45=>282 | 50=>287 | 5=>5 | 9=>9 | 66=>314 | 70=>318 | 76=>333 | 77=>70 | n=>n,fun | n=>n⟩
theorem YE:Go.Proofs.SlLaysF.n6 Tryz.prog Se:= {
 mixed:=by kernel_rfl
 f6 := ⟨"slices.SortFunc[[]int,int]", by decide, Tryz.func153.trans (congrArg some (by kernel_rfl))⟩
 f14 := ⟨"slices.pdqsortCmpFunc[int]", by decide, Tryz.func207.trans (congrArg some (by kernel_rfl))⟩
 f15:=Tryz.func208.trans (congrArg some (by kernel_rfl))
 f20 := ⟨"slices.insertionSortCmpFunc[int]", by decide, Tryz.func250.trans (congrArg some (by kernel_rfl))⟩
 f21 := ⟨"slices.heapSortCmpFunc[int]", by decide, Tryz.func251.trans (congrArg some (by kernel_rfl))⟩
 f22 := ⟨"slices.breakPatternsCmpFunc[int]", by decide, Tryz.func252.trans (congrArg some (by kernel_rfl))⟩
 f23 := ⟨"slices.choosePivotCmpFunc[int]", by decide, Tryz.func253.trans (congrArg some (by kernel_rfl))⟩
 f24 := ⟨"slices.reverseRangeCmpFunc[int]", by decide, Tryz.func254.trans (congrArg some (by kernel_rfl))⟩
 f25 := ⟨"slices.partialInsertionSortCmpFunc[int]", by decide, Tryz.func255.trans (congrArg some (by kernel_rfl))⟩
 f26 := ⟨"slices.partitionEqualCmpFunc[int]", by decide, Tryz.func256.trans (congrArg some (by kernel_rfl))⟩
 f27 := ⟨"slices.partitionCmpFunc[int]", by decide, Tryz.func257.trans (congrArg some (by kernel_rfl))⟩
 f28:=Tryz.func258.trans (congrArg some (by kernel_rfl))
 f29:=Tryz.func259.trans (congrArg some (by kernel_rfl))
 f46 := ⟨"slices.siftDownCmpFunc[int]", by decide, Tryz.func286.trans (congrArg some (by kernel_rfl))⟩
 f47:=Tryz.func287.trans (congrArg some (by kernel_rfl))
 f48:=Tryz.func288.trans (congrArg some (by kernel_rfl))
 f49 := ⟨"slices.medianAdjacentCmpFunc[int]", by decide, Tryz.func289.trans (congrArg some (by kernel_rfl))⟩
 f50 := ⟨"slices.medianCmpFunc[int]", by decide, Tryz.func290.trans (congrArg some (by kernel_rfl))⟩
 f57 := ⟨"slices.order2CmpFunc[int]", by decide, Tryz.func316.trans (congrArg some (by kernel_rfl))⟩
 t0:=Tryz.underlying0
 a0:=Tryz.isAgg0
 z0:=Tryz.sizeOf0
 v0:=Tryz.zeroValue0
 t3:=Tryz.underlying3
 a3:=Tryz.isAgg3
 z3:=Tryz.sizeOf3
 v3:=Tryz.zeroValue3
 t4:=Tryz.underlying4
 a4:=Tryz.isAgg4
 z4:=Tryz.sizeOf4
 v4:=Tryz.zeroValue4
 t5:=Tryz.underlying5
 a5:=Tryz.isAgg5
 z5:=Tryz.sizeOf5
 v5:=Tryz.zeroValue5
 t9:=Tryz.underlying9
 a9:=Tryz.isAgg9
 z9:=Tryz.sizeOf9
 v9:=Tryz.zeroValue9
 t22:=Tryz.underlying23
 a22:=Tryz.isAgg23
 z22:=Tryz.sizeOf23
 v22:=Tryz.zeroValue23
 a24:=Tryz.isAgg3
 z24:=Tryz.sizeOf3
 t25:=Tryz.underlying88
 a25:=Tryz.isAgg88
 z25:=Tryz.sizeOf88
 v25:=Tryz.zeroValue88
 t39:=Tryz.underlying253
 a39:=Tryz.isAgg253
 z39:=Tryz.sizeOf253
 v39:=Tryz.zeroValue253
 t45:=Tryz.underlying282
 a45:=Tryz.isAgg282
 z45:=Tryz.sizeOf282
 v45:=Tryz.zeroValue282
 t46:=Tryz.underlying283
 a46:=Tryz.isAgg283
 z46:=Tryz.sizeOf283
 v46:=Tryz.zeroValue283
 t50:=Tryz.underlying287
 a50:=Tryz.isAgg287
 z50:=Tryz.sizeOf287
 v50:=Tryz.zeroValue287
 t53:=Tryz.underlying290
 a53:=Tryz.isAgg290
 z53:=Tryz.sizeOf290
 v53:=Tryz.zeroValue290
 t55:=Tryz.underlying38
 a55:=Tryz.isAgg38
 z55:=Tryz.sizeOf38
 v55:=Tryz.zeroValue38
 t66:=Tryz.underlying314
 a66:=Tryz.isAgg314
 z66:=Tryz.sizeOf314
 v66:=Tryz.zeroValue314
 t70:=Tryz.underlying318
 a70:=Tryz.isAgg318
 z70:=Tryz.sizeOf318
 v70:=Tryz.zeroValue318
 t76:=Tryz.underlying333
 a76:=Tryz.isAgg333
 z76:=Tryz.sizeOf333
 v76:=Tryz.zeroValue333
 t77:=Tryz.underlying70
 a77:=Tryz.isAgg70
 z77:=Tryz.sizeOf70
 v77:=Tryz.zeroValue70 }
end Go.Proofs.YtnpidbjdilnhlaaGreat
namespace Go.Proofs.YtnpidbjdilnhlaaGreat
open Go.RowKit Go.Lib
set_option maxRecDepth 100000
theorem ZC(n:Nat)(rk:List Int)(x y:Int)(σ:Hp)(hr:rk.length=n)(hx:0≤x∧x<n)(hy:0≤y∧y<n):ACalls Tryz.prog 154 [.int .i64 x,.int .i64 y,.eQ [.ah (.int .i64) rk]] σ (az (.int .i64 (IntKind.i64.wrap (rk.getD x.toNat 0-rk.getD y.toNat 0))) σ):=by
 have h1:rk[x.toNat]?=some (rk.getD x.toNat 0):=by rw[List.getD_eq_getElem?_getD,List.getElem?_eq_getElem (by omega)];rfl
 have h2:rk[y.toNat]?=some (rk.getD y.toNat 0):=by rw[List.getD_eq_getElem?_getD,List.getElem?_eq_getElem (by omega)];rfl
 refine okF Tryz.func154 (by kernel_rfl) ?_
 refine .quiet (by kernel_rfl) ?_
 refine ag.mk rfl ?_
 refine bH.mk _ hx.1 h1 ?_
 refine ag.mk rfl ?_
 refine bH.mk _ hy.1 h2 ?_
 exact .done ⟨rfl,rfl⟩
abbrev kT(n:Nat):Type:= { x:Int // 0≤x∧x<(n:Int) }
def uo{n:Nat}(rk:List Int)(x y:kT n):Int:=IntKind.i64.wrap (rk.getD x.1.toNat 0-rk.getD y.1.toNat 0)
def pY{n:Nat}(x:kT n):Value:=.int .i64 x.1
structure rn(n:Nat)(rk:List Int):Prop where
 len:rk.length=n
 big:∀i:Nat,i<n→0≤rk.getD i 0∧rk.getD i 0<1000000
 inj:∀i j:Nat,i<n→j<n→rk.getD i 0=rk.getD j 0→i=j
theorem rn.lt{n:Nat}{rk:List Int}(h:rn n rk)(x y:kT n):ltOf (uo rk) x y=decide (rk.getD x.1.toNat 0<rk.getD y.1.toNat 0):=by
 unfold ltOf
 rw[decide_eq_decide]
 have h1:=h.big x.1.toNat (by have:=x.2;omega)
 have h2:=h.big y.1.toNat (by have:=y.2;omega)
 unfold uo
 rw[IntKind.wrap_i64]
 omega
theorem rn.swo{n:Nat}{rk:List Int}(h:rn n rk):Go.Sort.SWO (ltOf (uo (n:=n) rk)) where
 irrefl x:=by rw[h.lt];simp
 trans x y z h1 h2:=by rw[h.lt]at *;simp only[decide_eq_true_eq]at *;omega
 ntrans x y z h1 h2:=by rw[h.lt]at *;simp only[decide_eq_false_iff_not]at *;omega
theorem rn.tot{n:Nat}{rk:List Int}(h:rn n rk)(x y:kT n)(h1:ltOf (uo rk) x y=false)(h2:ltOf (uo rk) y x=false):x=y:=by
 rw[h.lt]at h1 h2
 simp only[decide_eq_false_iff_not]at h1 h2
 have hx:=x.2
 have hy:=y.2
 have:=h.inj x.1.toNat y.1.toNat (by omega) (by omega) (by omega)
 exact Subtype.ext (by omega)
def si{n:Nat}(rk:List Int)(L:List (kT n)):List (kT n):=L.mergeSort fun x y => !(ltOf (uo rk)) y x
theorem RF{n:Nat}(rk:List Int)(L:List (kT n)):(si rk L).length=L.length:=List.length_mergeSort ..
def gR{n:Nat}(L:List (kT n)):List Int:=L.map (·.1)
theorem Na{n:Nat}[Inhabited (kT n)](w:World)(b:Nat)(d:List (kT n)):Go.Sort.putRow pY w b 0 d.toArray=Go.Sort.putRow (Value.int .i64) w b 0 (gR d).toArray:=by
 have e:Go.Sort.putCells pY 0 d.toArray=Go.Sort.putCells (Value.int .i64) 0 (gR d).toArray:=by
  funext c
  unfold Go.Sort.putCells
  refine Array.ext (by simp) fun i h1 h2 =>?_
  have hs:(gR d).toArray.size=d.toArray.size:=by simp[gR]
  simp only[Array.getElem_mapIdx,hs]
  by_cases hi:0≤i∧i<0+d.toArray.size
  ·rw[if_pos hi,if_pos hi]
   have yK:i<d.length:=by have:=hi.2;simp at this;omega
   have e1:d.toArray[i-0]! = d[i]'yK:=by simp[yK]
   have e2:(gR d).toArray[i-0]! = (d[i]'yK).1:=by simp[gR,yK]
   rw[e1,e2];rfl
  ·rw[if_neg hi,if_neg hi]
 unfold Go.Sort.putRow
 rw[e]
theorem yU{n:Nat}(L:List (kT n)):(gR L).length=L.length:=List.length_map _
theorem RL:Enters Tryz.prog 153:=enters_of Tryz.func153 (by kernel_rfl)
theorem Sp:Enters Tryz.prog 154:=enters_of Tryz.func154 (by kernel_rfl)
theorem acs{F:Nat→Prop}{w:World}{f:Fn}{bk:Nat}{v:Value}(h:ar F w (.fn f [] [.ptr bk 0]) v):v=.func f #[] #[.pointer (some ⟨bk,0,none⟩)]:=by
 cases h with
 | fn _ _ _ v1 v2 dX fq h1 h2 =>
  have e1:v1 = #[]:=Array.eq_empty_of_size_eq_zero dX.symm
  obtain⟨z,rfl⟩:∃z,v2 = #[z]:=by
   obtain⟨l2⟩:=v2
   match l2,fq with
   | [z],_=>exact⟨z,rfl⟩
  subst e1
  have h3:=h2 0 _ rfl
  cases h3
  rfl
theorem U9{F:Nat→Prop}{w:World}{σ:Hp}{n:Nat}[Inhabited (kT n)]{rk:List Int}{b bk:Nat}{L:List (kT n)}(hr:rn n rk)(ay:aM F w ((b,aj (gR L))::(bk,[.ah (.int .i64) rk])::σ)):CmpLays1 Tryz.prog 154 #[.pointer (some ⟨bk,0,none⟩)] pY (uo (n:=n) rk) b 0 L.length w:=fun m os dk hdk x y=>by
 have hd:(gR dk.toList).length=(gR L).length:=by
  rw[yU,yU,Array.length_toList,hdk]
 obtain⟨s1,s2⟩:=De (n:=m) (zs':=gR dk.toList) ay hd os
 have hW:sortWorld pY w b 0 m dk os=Go.Sort.grow (Go.Sort.putRow (Value.int .i64) (Go.Sort.ahead w m) b 0 (gR dk.toList).toArray) os:=by
  have:=Na (Go.Sort.ahead w m) b dk.toList
  show Go.Sort.grow (Go.Sort.putRow pY (Go.Sort.ahead w m) b 0 dk) os=_
  rw[← this]
 rw[← hW]at s1 s2
 generalize sortWorld pY w b 0 m dk os=W at s1 s2
 obtain⟨hF,c,T,h1,h2,h3⟩:=(s2.holds (bk,[.ah (.int .i64) rk]) (List.mem_cons_of_mem _ (List.mem_cons_self ..))).Ht (fun x hx=>by rw[List.mem_singleton.1 hx];rfl)
 have ak:aQ F W (fun k=>k<W.heap.size) W:=⟨rfl,rfl,rfl,Nat.le_refl _,fun k hk=>s2.low k hk,fun _ _=>rfl,fun k c T fz h=>⟨c,fz,h,rfl⟩,Nat.le_refl _⟩
 have uH:bk<W.heap.size:=(Array.getElem?_eq_some_iff.1 h1).1
 have fT:0<c.size:=h2
 have hv:ar (fun k=>k<W.heap.size) W (.eQ [.ah (.int .i64) rk]) (.pointer (some ⟨bk,0,none⟩)):=by
  refine .eQ _ bk 0 (fun i=>c.getD i undef) ⟨uH,c,T,(0,0),h1⟩ (fun i x hx =>?_) (fun i x hx =>?_) (fun i x hx =>?_)
  ·match i,hx with
   | 0,hx=>rw[Dr h1,Array.getD_eq_getD_getElem?,Array.getElem?_eq_getElem (by omega)];rfl
   | i+1,hx=>simp at hx
  ·exact (h3 i x hx).1
  ·exact (h3 i x hx).2.mono ak
 have h:=LM (fun σ=>ZC n rk x.1 y.1 σ hr.len x.2 y.2) (w:=W) (vs:= #[.int .i64 x.1,.int .i64 y.1,.pointer (some ⟨bk,0,none⟩)]) ⟨rfl,fun i a h=>by
  match i,h with
  | 0,h=>cases h;exact .int _ _
  | 1,h=>cases h;exact .int _ _
  | 2,h=>cases h;exact hv⟩
 exact h
theorem Vu(n:Nat)[Inhabited (kT n)](rk:List Int)(b bk:Nat)(L:List (kT n))(q:Nat)(σ:Hp)(hr:rn n rk)(hz:L.length=q)(h0:0<q)(hl:q≤1000000):ACalls Tryz.prog 153 [.ae b 0 q 1,.fn (.func 154) [] [.ptr bk 0]] ((b,aj (gR L))::(bk,[.ah (.int .i64) rk])::σ) (az (.tup []) ((b,aj (gR (si rk L)))::(bk,[.ah (.int .i64) rk])::σ)):=by
 subst hz
 refine⟨RL,fun F w vs bz ay =>?_⟩
 obtain⟨v,u,rfl⟩:∃v u,vs = #[v,u]:=by
  obtain⟨l2⟩:=vs
  match l2,bz.1 with
  | [v,u],_=>exact⟨v,u,rfl⟩
 have hv:ar F w (.ae b 0 L.length 1) v:=bz.2 0 _ rfl
 obtain rfl:=acs (show ar F w (.fn (.func 154) [] [.ptr bk 0]) u from bz.2 1 _ rfl)
 obtain⟨a,cap,rfl,c,T,fz,m1,m2,m3,m4⟩:=hv.jO
 rcases m4 with ⟨rfl,_⟩ | ⟨_,_,h9,_⟩
 ·obtain⟨h1,h2⟩:=G3 ay
  have h1:Go.Sort.Holds (pY (n:=n)) w b 0 L.toArray:=fun j hj=>by
   have BO:j<L.length:=by simpa using hj
   have hh:=h1 j (by simp[gR];exact BO)
   rw[show (gR L).toArray[j]! = (L.toArray[j]!).1 by simp[gR,BO]]at hh
   exact hh
  have h:Calls Tryz.prog 153 #[.slice (some ⟨b,0,none⟩) L.length cap,.func (.func 154) #[] #[.pointer (some ⟨bk,0,none⟩)]] w fun e w'=>e=.returned (.tuple #[])∧∃n os,w'=sortWorld pY w b 0 n (si rk L).toArray os:=Any.slices_SortFunc_total YE pY (fun _=>rfl) (uo rk) hr.swo 154 #[.pointer (some ⟨bk,0,none⟩)] b 0 cap L.toArray w Sp (by have:=U9 hr ay;simpa using this) h1 h2 (by show L.length<_;omega) hr.tot
  refine h.mono ?_
  rintro e w' ⟨rfl,m,os,rfl⟩
  obtain⟨k1,k2⟩:=De (n:=m) (zs':=gR (si rk L)) ay (by rw[yU,yU,RF]) os
  have hW:sortWorld pY w b 0 m (si rk L).toArray os=Go.Sort.grow (Go.Sort.putRow (Value.int .i64) (Go.Sort.ahead w m) b 0 (gR (si rk L)).toArray) os:=by
   show Go.Sort.grow (Go.Sort.putRow pY (Go.Sort.ahead w m) b 0 (si rk L).toArray) os=_
   rw[Na]
  rw[hW]
  exact⟨.tup [],.tuple #[],_,F,rfl,k1,k2,.tup [] #[] rfl fun i x h=>by simp at h,rfl,rfl⟩
 ·omega
set_option maxRecDepth 100000
set_option maxHeartbeats 4000000
def qa(n:Nat)(p:List Int):Nat→List Int
 | 0=>List.replicate n 0
 | k+1=>(qa n p k).set (p.getD k 0).toNat ((n:Int)-1-(k:Int))
theorem w9(n:Nat)(p:List Int):∀k,(qa n p k).length=n
 | 0=>List.length_replicate
 | k+1=>by unfold qa;rw[List.length_set];exact w9 n p k
theorem VE{nx:Int→List Int}{n:Nat}{a:Int}{out:List Int}:a∈out++fG nx (n+1) a out:=by
 by_cases h:a∈out
 ·exact List.mem_append_left _ h
 ·refine List.mem_append_right _ ?_
  unfold fG
  rw[if_neg h]
  simp
theorem Nb{nx:Int→List Int}{n:Nat}:∀(L out:List Int) (a:Int),a∈out∨a∈L→a∈L.foldl (fun out a=>out++fG nx (n+1) a out) out
 | [],out,a,h=>h.elim id fun h=>by cases h
 | b::L,out,a,h=>by
  refine Nb L _ a ?_
  rcases h with h | h
  ·exact .inl (List.mem_append_left _ h)
  ·rcases List.mem_cons.1 h with rfl | h
   ·exact .inl VE
   ·exact .inr h
theorem Uk{n:Nat}{l:List aV}{fr:List Int}{a:Int}(h:0≤a∧a<n):a∈nM n l fr:=by
 refine Nb _ _ a (.inr (List.mem_append_right _ (List.mem_map.2 ⟨a.toNat,List.mem_range.2 (by omega),?_⟩)))
 omega
structure iF(n:Nat)(p:List Int):Prop where
 nd:p.Nodup
 rg:∀x∈p,0≤x∧x<(n:Int)
 all:∀x:Int,0≤x∧x<(n:Int)→x∈p
theorem iF.len{n:Nat}{p:List Int}(h:iF n p):p.length=n:=by
 have h1:=CE n p h.nd h.rg
 have h2:((List.range n).map fun a:Nat=>(a:Int)).Nodup:=List.pairwise_map.2 (List.Pairwise.imp (fun h e=>h (Int.ofNat.inj e)) List.nodup_range)
 have h3:∀(A B:List Int),A.Nodup→(∀x∈A,x∈B)→A.length≤B.length:=by
  intro A
  induction A with
  | nil=>intro B _ _;exact Nat.zero_le _
  | cons a A ih =>
   intro B hn hs
   have hn:=List.nodup_cons.1 hn
   have ha:=hs a (List.mem_cons_self ..)
   have:=ih (B.erase a) hn.2 fun x hx=>(List.mem_erase_of_ne (fun e:x=a=>hn.1 (e▸hx))).2 (hs x (List.mem_cons_of_mem _ hx))
   rw[List.length_erase_of_mem ha]at this
   have:=List.length_pos_of_mem ha
   rw[List.length_cons];omega
 have h4:=h3 _ p h2 fun x hx=>by
  obtain⟨a,ha,rfl⟩:=List.mem_map.1 hx
  exact h.all _ ⟨by omega,by have:=List.mem_range.1 ha;omega⟩
 rw[List.length_map,List.length_range]at h4
 omega
theorem Pf{n:Nat}{p:List Int}(h:iF n p):∀k,k≤n→∀i,i<k→(qa n p k).getD (p.getD i 0).toNat 0=(n:Int)-1-(i:Int)
 | 0,_,i,hi=>absurd hi (Nat.not_lt_zero _)
 | k+1,hk,i,hi=>by
  have hl:=h.len
  have JO:k<p.length:=by omega
  have e:∀j,j<p.length→p.getD j 0∈p∧p[j]?=some (p.getD j 0):=fun j hj=>by
   have:p[j]?=some (p.getD j 0):=by rw[List.getD_eq_getElem?_getD,List.getElem?_eq_getElem hj];rfl
   exact⟨List.mem_of_getElem? this,this⟩
  have hr:=h.rg _ (e k JO).1
  unfold qa
  rw[List.getD_eq_getElem?_getD,List.getElem?_set]
  by_cases he:i=k
  ·subst he
   rw[if_pos rfl,if_pos (by rw[w9];omega)];rfl
  ·have cU:=h.rg _ (e i (by omega)).1
   have aI:¬(p.getD k 0).toNat=(p.getD i 0).toNat:=fun e2=>by
    have e3:p.getD k 0=p.getD i 0:=by omega
    have:=(List.getElem?_inj (i:=k) (j:=i) JO h.nd).1 ((e k JO).2.trans ((congrArg some e3).trans (e i (by omega)).2.symm))
    omega
   rw[if_neg aI,← List.getD_eq_getElem?_getD]
   exact Pf h k (by omega) i (by omega)
def wF(n:Nat)(p:List Int):List Int:=qa n p n
theorem ZO{n:Nat}{p:List Int}(h:iF n p){i:Nat}{x:Int}(hi:p[i]?=some x):(wF n p).getD x.toNat 0=(n:Int)-1-(i:Int):=by
 have hl:=(List.getElem?_eq_some_iff.1 hi).1
 rw[h.len]at hl
 have:=Pf h n (Nat.le_refl _) i hl
 rw[show p.getD i 0=x by rw[List.getD_eq_getElem?_getD,hi];rfl]at this
 exact this
theorem aat(n:Nat)(l:List aV)(fr:List Int)(σ:Hp)(hl:l.length≤100000)(hf:fr.length≤100000)(cU:ej n l=true)(rG:∀x∈fr,0≤x∧x<(n:Int)):ACalls Tryz.prog 151 [.int .i64 n,.ah cI l,.ah (.int .i64) fr] σ (fun r σ'=>r=.tup [.ah (.int .i64) (wF n (nM n l fr)),.int .i64 0]∧σ'=σ∧iF n (nM n l fr)):=by
 have hn:1≤n∧n≤256:=by
  unfold ej at cU
  simp only[Bool.and_eq_true,decide_eq_true_eq]at cU
  omega
 refine okF Tryz.func151 (by kernel_rfl) ?_
 refine .mk [] _ (abv n l fr _ hl hf cU rG) ?_
 rintro _ τ ⟨rfl,Jw,met,hP⟩
 subst τ
 have hA:iF n (nM n l fr):=⟨hP.nd,hP.rg,fun x hx=>Uk hx⟩
 have hlen:=hA.len
 generalize nM n l fr=p at hP hA hlen
 have hnT:((n:Nat):Int).toNat=n:=Int.toNat_natCast n
 refine ag.mk ⟨by omega,by omega,by omega,by decide⟩ ?_
 intro bo
 refine bO (S:=Nat) (fun x=>[(0,.int .i64 n),(10,.ae bo 0 n 1),(25,.ah (.int .i64) p),(26,.int .i64 p.length),(27,.int .i64 x)]) (fun x=>(bo,aj (qa n p x))::σ) (fun x=>x≤p.length) (fun x=>p.length-x) 0 ⟨Nat.zero_le _,⟨rfl,rfl,rfl,rfl,rfl,trivial⟩,by rw[show aj (qa n p 0)=bU [.int .i64 0] n from (vm n).symm];rfl⟩ ?_
 intro k g hk
 have hk:k≤p.length:=hk
 refine ao (p:=(k:Int)<p.length) (fun ab =>?_) (fun au =>?_)
 ·have ab:k<p.length:=by omega
  have hx:=hA.rg _ (List.getElem_mem ab)
  have hlk:=w9 n p k
  refine ag.mk rfl (bH.mk p[k] (by omega) (get_some ab) ?_)
  refine ag.mk ⟨rfl,by omega,by omega⟩ ?_
  have hv:IntKind.i64.wrap (IntKind.i64.wrap ((n:Int)-1)-(k:Int))=(n:Int)-1-(k:Int):=by rw[IntKind.wrap_i64,IntKind.wrap_i64];omega
  have jA:qa n p (k+1)=(qa n p k).set p[k].toNat ((n:Int)-1-(k:Int)):=by
   show (qa n p k).set (p.getD k 0).toNat _=_
   rw[List.getD_eq_getElem?_getD,List.getElem?_eq_getElem ab];rfl
  refine cd 0 rfl (kZ rfl _ hx.1 (by omega)) ?_
  exact bg (k+1) (by show p.length-(k+1)<p.length-k;omega) ab ⟨rfl,rfl,rfl,rfl,a8 (by omega),trivial⟩ (aF (by rw[hv,← jA];rfl))
 ·have au:k=p.length:=by omega
  subst au
  refine .cb 0 bo 0 n 1 _ (.int .i64) (wF n p) rfl (by rw[List.drop_zero,List.take_of_length_le (by rw[kU,w9,Nat.mul_one];exact Nat.le_refl _),hlen];exact tD _) ⟨w9 n p n,rfl,by decide⟩ (dK .here (.refl _)) (.done ⟨rfl,rfl,hA⟩)
set_option maxRecDepth 100000
set_option maxHeartbeats 4000000
theorem Lw:∀{Q:List (List Int)},(∀p∈Q,0<p.length)→Q.length≤Q.flatten.length
 | [],_=>Nat.le_refl _
 | p::Q,h=>by
  have ih:=Lw (Q:=Q) fun q hq=>h q (List.mem_cons_of_mem _ hq)
  have:=h p (List.mem_cons_self ..)
  rw[List.flatten_cons,List.length_append,List.length_cons]
  omega
set_option maxRecDepth 100000
set_option maxHeartbeats 4000000
theorem iF.rk{n:Nat}{p:List Int}(h:iF n p)(hn:n≤1000):rn n (wF n p):=by
 have hl:=h.len
 have key:∀i:Nat,i<n→∃j:Nat,p[j]?=some (i:Int)∧j<n∧(wF n p).getD i 0=(n:Int)-1-(j:Int):=fun i hi=>by
  obtain⟨j,hj⟩:=List.getElem?_of_mem (h.all i ⟨by omega,by omega⟩)
  have gL:=(List.getElem?_eq_some_iff.1 hj).1
  have:=ZO h hj
  rw[Int.toNat_natCast]at this
  exact⟨j,hj,by omega,this⟩
 refine⟨w9 n p n,fun i hi =>?_,fun i j hi hj e =>?_⟩
 ·obtain⟨k,_,hk,e⟩:=key i hi
  omega
 ·obtain⟨k,h1,_,e1⟩:=key i hi
  obtain⟨m,h2,_,e2⟩:=key j hj
  have:k=m:=by omega
  subst this
  rw[h1]at h2
  have:=Option.some.inj h2
  omega
def vQ(n:Nat)(p:List Int):List (kT n):=p.filterMap fun x=>if h:0≤x∧x<(n:Int) then some ⟨x,h⟩ else none
theorem Cy{n:Nat}:∀{p:List Int},(∀x∈p,0≤x∧x<(n:Int))→gR (vQ n p)=p
 | [],_=>rfl
 | x::p,h=>by
  have hx:=h x (List.mem_cons_self ..)
  have ih:=Cy (p:=p) fun y hy=>h y (List.mem_cons_of_mem _ hy)
  unfold vQ at ih ⊢
  rw[List.filterMap_cons,dif_pos hx]
  show x::gR _=_
  rw[ih]
def ee(n:Nat)(rk:List Int)(p:List Int):List Int:=gR (si rk (vQ n p))
theorem L3{n:Nat}{rk p:List Int}(h:∀x∈p,0≤x∧x<(n:Int)):(ee n rk p).Perm p:=by
 have h1:(gR (si rk (vQ n p))).Perm (gR (vQ n p)):=List.Perm.map _ (List.mergeSort_perm _ _)
 rw[Cy h]at h1
 exact h1
theorem RV{n:Nat}{rk p:List Int}(h:∀x∈p,0≤x∧x<(n:Int)):(ee n rk p).length=p.length:=(L3 h).length_eq
def nj(n:Nat)(l:List aV)(fr:List Int):List Int:=(iI n l).flatMap (ee n (wF n (nM n l fr)))
def oc(n:Nat)(rk:List Int)(rw:List (Nat×List Int))(k:Nat):List (Nat×List Int):=(rw.take k).map (fun r=>(r.1,ee n rk r.2))++rw.drop k
theorem Xr(n:Nat)(rk:List Int)(b bk:Nat)(p:List Int)(σ:Hp)(hr:rn n rk)(hp:∀x∈p,0≤x∧x<(n:Int))(h0:0<p.length)(hl:p.length≤1000000):ACalls Tryz.prog 153 [.ae b 0 p.length 1,.fn (.func 154) [] [.ptr bk 0]] ((b,aj p)::(bk,[.ah (.int .i64) rk])::σ) (az (.tup []) ((b,aj (ee n rk p))::(bk,[.ah (.int .i64) rk])::σ)):=by
 obtain⟨x,hx⟩:∃x,x∈p:=by
  match p,h0 with
  | x::_,_=>exact⟨x,List.mem_cons_self ..⟩
 haveI:Inhabited (kT n):=⟨⟨x,hp x hx⟩⟩
 have e:(vQ n p).length=p.length:=by
  have:=congrArg List.length (Cy hp)
  rw[yU]at this
  exact this
 have h:=Vu n rk b bk (vQ n p) p.length σ hr e h0 hl
 rw[Cy hp]at h
 exact h
theorem ZK{n:Nat}{rk:List Int}{rw:List (Nat×List Int)}{k b:Nat}{p:List Int}(h:rw[k]?=some (b,p)):(oc n rk rw k)[k]?=some (b,p)∧(oc n rk rw (k+1))[k]?=some (b,ee n rk p):=by
 have hk:=(List.getElem?_eq_some_iff.1 h).1
 have hg:rw[k]=(b,p):=(List.getElem?_eq_some_iff.1 h).2
 have hl:((rw.take k).map (fun r=>(r.1,ee n rk r.2))).length=k:=by rw[List.length_map,List.length_take];omega
 refine⟨?_,?_⟩
 ·unfold oc
  rw[List.getElem?_append_right (by omega),hl,Nat.sub_self,List.getElem?_drop,Nat.add_zero]
  exact h
 ·unfold oc
  rw[List.take_succ_eq_append_getElem hk,List.map_append,hg,List.append_assoc,List.getElem?_append_right (by omega),hl,Nat.sub_self]
  rfl
theorem Ub{n:Nat}{rk:List Int}{rw:List (Nat×List Int)}{k b:Nat}{p:List Int}(h:rw[k]?=some (b,p)):oc n rk rw k=(rw.take k).map (fun r=>(r.1,ee n rk r.2))++(b,p)::rw.drop (k+1)∧oc n rk rw (k+1)=(rw.take k).map (fun r=>(r.1,ee n rk r.2))++(b,ee n rk p)::rw.drop (k+1):=by
 have hk:=(List.getElem?_eq_some_iff.1 h).1
 have hg:rw[k]=(b,p):=(List.getElem?_eq_some_iff.1 h).2
 refine⟨?_,?_⟩
 ·unfold oc
  rw[List.drop_eq_getElem_cons hk,hg]
 ·unfold oc
  rw[List.take_succ_eq_append_getElem hk,List.map_append,hg,List.append_assoc]
  rfl
theorem M4(A B:List (Nat×List Int))(b:Nat)(p:List Int)(x:Nat×List AV)(X σ:Hp):((b,aj p)::x::(X++(dH A++(dH B++σ)))).Perm (x::(X++(dH (A++(b,p)::B)++σ))):=by
 have e:dH (A++(b,p)::B)++σ=dH A++((b,aj p)::(dH B++σ)):=by
  unfold dH
  rw[List.map_append,List.append_assoc];rfl
 rw[e]
 refine (List.Perm.swap _ _ _).trans (List.Perm.cons _ ?_)
 exact (List.perm_middle.symm).trans (List.Perm.append_left X List.perm_middle.symm)
theorem iF.perm{n:Nat}{p q:List Int}(h:iF n p)(hp:q.Perm p):iF n q:=⟨hp.nodup_iff.2 h.nd,fun x hx=>h.rg x (hp.mem_iff.1 hx),fun x hx=>hp.mem_iff.2 (h.all x hx)⟩
theorem Mw{n:Nat}{rk:List Int}:∀{Q:List (List Int)},(∀p∈Q,∀x∈p,0≤x∧x<(n:Int))→(Q.flatMap (ee n rk)).Perm Q.flatten
 | [],_=>List.Perm.nil
 | p::Q,h=>by
  rw[List.flatMap_cons,List.flatten_cons]
  exact (L3 (h p (List.mem_cons_self ..))).append (Mw fun q hq=>h q (List.mem_cons_of_mem _ hq))
theorem mi.flat{n:Nat}{l:List aV}{P Q:List (List Int)}(h:mi n l P)(hp:Q.Perm P):(∀p∈Q,p≠[])∧(∀p∈Q,∀x∈p,0≤x∧x<(n:Int))∧iF n Q.flatten:=by
 have hn:∀p∈Q,∀x∈p,0≤x∧x<(n:Int):=fun p hq=>h.ok.node p (hp.mem_iff.1 hq)
 refine⟨fun p hq=>h.ok.ne p (hp.mem_iff.1 hq),hn,(hp.flatten).nodup_iff.2 h.ok.nd,fun x hx =>?_,fun x hx =>?_⟩
 ·obtain⟨p,hq,po⟩:=List.mem_flatten.1 hx
  exact hn p hq x po
 ·obtain⟨p,hq,po⟩:=h.all x hx.1 hx.2
  exact List.mem_flatten.2 ⟨p,hp.mem_iff.2 hq,po⟩
theorem Lx:∀{Q:List (List Int)},(∀p∈Q,p≠[])→Q.length≤Q.flatten.length
 | [],_=>Nat.le_refl _
 | p::Q,h=>by
  have ih:=Lx (Q:=Q) fun q hq=>h q (List.mem_cons_of_mem _ hq)
  have:=List.length_pos_iff.2 (h p (List.mem_cons_self ..))
  rw[List.flatten_cons,List.length_append,List.length_cons]
  omega
theorem Zo(n:Nat)(l:List aV)(fr:List Int)(σ:Hp)(hl:l.length≤100000)(hf:fr.length≤100000)(cU:ej n l=true)(rG:∀x∈fr,0≤x∧x<(n:Int)):ACalls Tryz.prog 105 [.int .i64 n,.ah cI l,.ah (.int .i64) fr] σ (fun r σ'=>∃bo,r=.tup [.ae bo 0 (nj n l fr).length 1,.int .i64 0]∧σ'=(bo,aj (nj n l fr))::σ∧iF n (nj n l fr)∧(∀p∈iI n l,p≠[])∧iF n (iI n l).flatten∧iF n (nM n l fr)):=by
 have hn:1≤n∧n≤256:=by
  unfold ej at cU
  simp only[Bool.and_eq_true,decide_eq_true_eq]at cU
  omega
 refine okF Tryz.func105 (by kernel_rfl) ?_
 refine .mk [] _ (aat n l fr _ hl hf cU rG) ?_
 rintro _ τ ⟨rfl,Jw,hA⟩
 subst τ
 have hR:=hA.rk (by omega)
 intro b8
 refine ai 0 ?_
 refine .mk [] _ (Zj n l _ hl cU) ?_
 rintro _ _ ⟨bo,dG,rfl,kL,rfl,P,bM,BI⟩
 obtain⟨aI,nP,fB⟩:=bM.flat BI
 have B1:iF n (nj n l fr):=fB.perm (Mw nP)
 unfold nj at B1 ⊢
 generalize wF n (nM n l fr)=rk at hR B1
 generalize iI n l=Q at kL aI nP B1 fB
 have hQl:dG.length=Q.length:=by rw[← kL,List.length_map]
 have hlen:=B1.len
 have ac0:∀p∈Q,p.length≤n:=fun p hp=>by
  have h1:p.Sublist Q.flatten:=List.sublist_flatten_of_mem hp
  have:=h1.length_le
  have:=fB.len
  omega
 have Qi:dG.length≤n:=by
  have:=Lx aI
  have:=fB.len
  omega
 have h0:oc n rk dG 0=dG:=by simp[oc]
 have hH:((b8,[AV.ah (.int .i64) rk])::(bo,dW dG)::(dH dG++([]++σ))).Perm ((bo,dW dG)::(dH dG++((b8,[AV.ah (.int .i64) rk])::σ))):=
  (List.Perm.swap _ _ _).trans (List.Perm.cons _ List.perm_middle.symm)
 refine .wrap 11 .af rfl rfl ?_
 refine .cO (.perm hH (.refl _)) ?_
 refine bO (S:=Nat×AV×Hp) (fun x=>[(8,.ptr b8 0),(9,.int .i64 0),(11,.via x.2.1),(30,.ae bo 0 dG.length 1),(31,.int .i64 dG.length),(32,.int .i64 x.1)]) (fun x=>(b8,[.ah (.int .i64) rk])::(bo,dW dG)::(dH (oc n rk dG x.1)++(x.2.2++σ))) (fun x=>x.1≤dG.length∧Acc 1 ((Q.take x.1).flatMap (ee n rk)).length x.2.1 x.2.2 (aj ((Q.take x.1).flatMap (ee n rk)))) (fun x=>dG.length-x.1) (0,.af,[]) ⟨⟨Nat.zero_le _,.nil⟩,⟨rfl,rfl,rfl,rfl,rfl,rfl,trivial⟩,by rw[h0]⟩ ?_
 rintro⟨k,v,acc⟩ g ⟨hk,bP⟩
 have hk:k≤dG.length:=hk
 have bP:Acc 1 ((Q.take k).flatMap (ee n rk)).length v acc (aj ((Q.take k).flatMap (ee n rk))):=bP
 refine ao (p:=(k:Int)<dG.length) (fun ab =>?_) (fun au =>?_)
 ·have ab:k<dG.length:=by omega
  obtain⟨p,hp⟩:∃p,Q[k]?=some p:=⟨Q[k]'(by omega),List.getElem?_eq_getElem (by omega)⟩
  obtain⟨bk,uH⟩:=Ar kL hp
  have eY:=List.mem_of_getElem? hp
  have Fm:=nP p eY
  have rC:=List.length_pos_iff.2 (aI p eY)
  have ql:=ac0 p eY
  have bV:=RV (rk:=rk) Fm
  obtain⟨s1,s2⟩:=Ub (n:=n) (rk:=rk) uH
  have gb:Q.take (k+1)=Q.take k++[p]:=by
   rw[List.take_succ_eq_append_getElem (by omega)]
   rw[List.getElem?_eq_getElem (by omega)]at hp
   rw[Option.some.inj hp]
  have lM:((Q.take k).flatMap (ee n rk)).length+p.length≤n:=by
   have e:Q.flatMap (ee n rk)=(Q.take (k+1)).flatMap (ee n rk)++(Q.drop (k+1)).flatMap (ee n rk):=by rw[← List.flatMap_append,List.take_append_drop]
   have:=congrArg List.length e
   rw[gb,List.flatMap_append,List.length_append,List.length_append,show [p].flatMap (ee n rk)=ee n rk p by simp]at this
   omega
  refine ag.mk ⟨rfl,by omega,by omega⟩ ?_
  refine aL 1 rfl (Aj rfl (by omega) (by rw[Int.toNat_natCast];exact uH)) ?_
  rw[s1]
  refine .perm _ (M4 _ _ bk p (b8,[.ah (.int .i64) rk]) [(bo,dW dG)] (acc++σ)) (Xr n rk bk b8 p _ hR Fm rC (by omega)) ?_
  rintro _ _ ⟨rfl,rfl⟩
  refine⟨_,(M4 _ _ bk (ee n rk p) (b8,[.ah (.int .i64) rk]) [(bo,dW dG)] (acc++σ)).symm,?_⟩
  rw[← s2]
  have cW:=(ZK (n:=n) (rk:=rk) uH).2
  refine kr (_::_::dH (oc n rk dG (k+1))) bP (.ae (k+2) bk 0 p.length (aj (ee n rk p)) (Dz cW) (by rw[kU,bV];show 0+p.length*1≤_;omega)) ?_ (by omega) (by decide) (by decide) (fun v' bh h' =>?_)
  ·show (List.take (p.length*1) (List.drop 0 (aj (ee n rk p)))).length=p.length*1
   rw[List.length_take,List.length_drop,kU,bV];omega
  ·refine bg (k+1,v',bh) (by show dG.length-(k+1)<dG.length-k;omega) ⟨ab,?_⟩ ⟨rfl,rfl,rfl,rfl,rfl,a8 (by omega),trivial⟩ (.refl _)
   have e:List.take (p.length*1) (List.drop 0 (aj (ee n rk p)))=aj (ee n rk p):=by rw[List.drop_zero,List.take_of_length_le (by rw[kU,bV];omega)]
   have h2:Acc 1 (((Q.take k).flatMap (ee n rk)).length+p.length) v' bh (aj ((Q.take k).flatMap (ee n rk))++List.take (p.length*1) (List.drop 0 (aj (ee n rk p)))):=h'
   rw[e,← bV,← List.length_append,show aj ((Q.take k).flatMap (ee n rk))++aj (ee n rk p)=aj ((Q.take k).flatMap (ee n rk)++ee n rk p) by unfold aj;rw[List.map_append]]at h2
   show Acc 1 ((Q.take (k+1)).flatMap (ee n rk)).length v' bh (aj ((Q.take (k+1)).flatMap (ee n rk)))
   rw[gb,List.flatMap_append,show [p].flatMap (ee n rk)=ee n rk p by simp]
   exact h2
 ·have au:¬(k:Int)<dG.length:=au
  rw[List.take_of_length_le (by omega)]at bP
  obtain⟨b,rfl,rfl⟩:=qF (by omega) bP
  exact .drop 0 2 (Tj (dH (oc n rk dG k)) (.done ⟨b,rfl,rfl,B1,aI,fB,hA⟩))
end Go.Proofs.YtnpidbjdilnhlaaGreat
