import Derived.Shelf.SlSortCmp.NoneTotal
import Derived.Test.YtnikdflhefijbaaGreatBr5
import Derived.Test.YtnikdflhefijbaaGreatBr9
import Derived.Test.YtnikdflhefijbaaGreatBr10
import Derived.Test.YtnikdflhefijbaaGreatBr17
import Derived.Test.YtnikdflhefijbaaGreatBr16
namespace Go.Proofs.YtnikdflhefijbaaGreat
open Go.Shelf
def Us:Go.Shelf.Ren:=⟨fun | 6=>259 | 15=>233 | 14=>292 | 28=>274 | 29=>275 | 20=>318 | 21=>319 | 22=>320 | 23=>321 | 24=>322 | 25=>323 | 26=>324 | 27=>325 | 46=>339 | 47=>296 | 48=>297 | 49=>340 | 50=>341 | 57=>355 | n=>n,fun | 22=>23 | 24=>3 | 25=>118 | 3=>3 | 39=>253 | 0=>0 | 53=>284 | 55=>56 | 4=>4 | 46=>308 | 45=>307 | 50=>312 | 5=>5 | 9=>9 | 66=>331 | 70=>335 | 76=>353 | 77=>50 | n=>n,fun | n=>n⟩
theorem ZZ:Go.Proofs.SlLaysF.n6 Tryz.prog Us:= {
 mixed:=by kernel_rfl
 f6 := ⟨"slices.SortFunc[[]int,int]", by decide, Tryz.func259.trans (congrArg some (by kernel_rfl))⟩
 f14 := ⟨"slices.pdqsortCmpFunc[int]", by decide, Tryz.func292.trans (congrArg some (by kernel_rfl))⟩
 f15:=Tryz.func233.trans (congrArg some (by kernel_rfl))
 f20 := ⟨"slices.insertionSortCmpFunc[int]", by decide, Tryz.func318.trans (congrArg some (by kernel_rfl))⟩
 f21 := ⟨"slices.heapSortCmpFunc[int]", by decide, Tryz.func319.trans (congrArg some (by kernel_rfl))⟩
 f22 := ⟨"slices.breakPatternsCmpFunc[int]", by decide, Tryz.func320.trans (congrArg some (by kernel_rfl))⟩
 f23 := ⟨"slices.choosePivotCmpFunc[int]", by decide, Tryz.func321.trans (congrArg some (by kernel_rfl))⟩
 f24 := ⟨"slices.reverseRangeCmpFunc[int]", by decide, Tryz.func322.trans (congrArg some (by kernel_rfl))⟩
 f25 := ⟨"slices.partialInsertionSortCmpFunc[int]", by decide, Tryz.func323.trans (congrArg some (by kernel_rfl))⟩
 f26 := ⟨"slices.partitionEqualCmpFunc[int]", by decide, Tryz.func324.trans (congrArg some (by kernel_rfl))⟩
 f27 := ⟨"slices.partitionCmpFunc[int]", by decide, Tryz.func325.trans (congrArg some (by kernel_rfl))⟩
 f28:=Tryz.func274.trans (congrArg some (by kernel_rfl))
 f29:=Tryz.func275.trans (congrArg some (by kernel_rfl))
 f46 := ⟨"slices.siftDownCmpFunc[int]", by decide, Tryz.func339.trans (congrArg some (by kernel_rfl))⟩
 f47:=Tryz.func296.trans (congrArg some (by kernel_rfl))
 f48:=Tryz.func297.trans (congrArg some (by kernel_rfl))
 f49 := ⟨"slices.medianAdjacentCmpFunc[int]", by decide, Tryz.func340.trans (congrArg some (by kernel_rfl))⟩
 f50 := ⟨"slices.medianCmpFunc[int]", by decide, Tryz.func341.trans (congrArg some (by kernel_rfl))⟩
 f57 := ⟨"slices.order2CmpFunc[int]", by decide, Tryz.func355.trans (congrArg some (by kernel_rfl))⟩
 t0:=Tryz.underlying0
 a0:=Tryz.isAgg0
 z0:=Tryz.sizeOf0
 v0:=Tryz.zeroValue0
 t3:=Tryz.underlying3
 a3:=Tryz.isAgg3
 z3:=Tryz.sizeOf3
 v3:=Tryz.zeroValue3
 t4:=Tryz.underlying4
 a4:=Tryz.isAgg4
 z4:=Tryz.sizeOf4
 v4:=Tryz.zeroValue4
 t5:=Tryz.underlying5
 a5:=Tryz.isAgg5
 z5:=Tryz.sizeOf5
 v5:=Tryz.zeroValue5
 t9:=Tryz.underlying9
 a9:=Tryz.isAgg9
 z9:=Tryz.sizeOf9
 v9:=Tryz.zeroValue9
 t22:=Tryz.underlying23
 a22:=Tryz.isAgg23
 z22:=Tryz.sizeOf23
 v22:=Tryz.zeroValue23
 a24:=Tryz.isAgg3
 z24:=Tryz.sizeOf3
 t25:=Tryz.underlying118
 a25:=Tryz.isAgg118
 z25:=Tryz.sizeOf118
 v25:=Tryz.zeroValue118
 t39:=Tryz.underlying253
 a39:=Tryz.isAgg253
 z39:=Tryz.sizeOf253
 v39:=Tryz.zeroValue253
 t45:=Tryz.underlying307
 a45:=Tryz.isAgg307
 z45:=Tryz.sizeOf307
 v45:=Tryz.zeroValue307
 t46:=Tryz.underlying308
 a46:=Tryz.isAgg308
 z46:=Tryz.sizeOf308
 v46:=Tryz.zeroValue308
 t50:=Tryz.underlying312
 a50:=Tryz.isAgg312
 z50:=Tryz.sizeOf312
 v50:=Tryz.zeroValue312
 t53:=Tryz.underlying284
 a53:=Tryz.isAgg284
 z53:=Tryz.sizeOf284
 v53:=Tryz.zeroValue284
 t55:=Tryz.underlying56
 a55:=Tryz.isAgg56
 z55:=Tryz.sizeOf56
 v55:=Tryz.zeroValue56
 t66:=Tryz.underlying331
 a66:=Tryz.isAgg331
 z66:=Tryz.sizeOf331
 v66:=Tryz.zeroValue331
 t70:=Tryz.underlying335
 a70:=Tryz.isAgg335
 z70:=Tryz.sizeOf335
 v70:=Tryz.zeroValue335
 t76:=Tryz.underlying353
 a76:=Tryz.isAgg353
 z76:=Tryz.sizeOf353
 v76:=Tryz.zeroValue353
 t77:=Tryz.underlying50
 a77:=Tryz.isAgg50
 z77:=Tryz.sizeOf50
 v77:=Tryz.zeroValue50 }
end Go.Proofs.YtnikdflhefijbaaGreat
namespace Go.Proofs.YtnikdflhefijbaaGreat
open Go.RowKit Go.Lib
set_option maxRecDepth 100000
theorem ab3(n:Nat)(rk:List Int)(x y:Int)(σ:Hp)(hr:rk.length=n)(hx:0≤x∧x<n)(hy:0≤y∧y<n):ACalls Tryz.prog 260 [.int .i64 x,.int .i64 y,.fY [.af (.int .i64) rk]] σ (aD (.int .i64 (IntKind.i64.wrap (rk.getD x.toNat 0-rk.getD y.toNat 0))) σ):=by
 have h1:rk[x.toNat]?=some (rk.getD x.toNat 0):=by rw[bO,bN (by omega)];rfl
 have h2:rk[y.toNat]?=some (rk.getD y.toNat 0):=by rw[bO,bN (by omega)];rfl
 refine au Tryz.func260 ?_
 refine .quiet (by kernel_rfl) ?_
 refine aw.mk rfl ?_
 refine aX.mk _ hx.1 h1 ?_
 refine aw.mk rfl ?_
 refine aX.mk _ hy.1 h2 ?_
 exact .done ⟨rfl,rfl⟩
abbrev mP(n:Nat):Type:= { x:Int // 0≤x∧x<(n:Int) }
def ue{n:Nat}(rk:List Int)(x y:mP n):Int:=IntKind.i64.wrap (rk.getD x.1.toNat 0-rk.getD y.1.toNat 0)
def rF{n:Nat}(x:mP n):Value:=.int .i64 x.1
structure rI(n:Nat)(rk:List Int):Prop where
 len:rk.length=n
 big:∀i:Nat,i<n→0≤rk.getD i 0∧rk.getD i 0<1000000
 inj:∀i j:Nat,i<n→j<n→rk.getD i 0=rk.getD j 0→i=j
theorem rI.lt{n:Nat}{rk:List Int}(h:rI n rk)(x y:mP n):ltOf (ue rk) x y=decide (rk.getD x.1.toNat 0<rk.getD y.1.toNat 0):=by
 unfold ltOf
 rw[decide_eq_decide]
 have h1:=h.big x.1.toNat (by have:=x.2;omega)
 have h2:=h.big y.1.toNat (by have:=y.2;omega)
 unfold ue
 rw[IntKind.wrap_i64]
 omega
theorem rI.swo{n:Nat}{rk:List Int}(h:rI n rk):Go.Sort.SWO (ltOf (ue (n:=n) rk)) where
 irrefl x:=by rw[h.lt];simp
 trans x y z h1 h2:=by rw[h.lt]at *;simp only[decide_eq_true_eq]at *;omega
 ntrans x y z h1 h2:=by rw[h.lt]at *;simp only[decide_eq_false_iff_not]at *;omega
theorem rI.tot{n:Nat}{rk:List Int}(h:rI n rk)(x y:mP n)(h1:ltOf (ue rk) x y=false)(h2:ltOf (ue rk) y x=false):x=y:=by
 rw[h.lt]at h1 h2
 simp only[decide_eq_false_iff_not]at h1 h2
 have hx:=x.2
 have hy:=y.2
 have:=h.inj x.1.toNat y.1.toNat (by omega) (by omega) (by omega)
 exact Subtype.ext (by omega)
def sw{n:Nat}(rk:List Int)(L:List (mP n)):List (mP n):=L.mergeSort fun x y=> !(ltOf (ue rk)) y x
theorem TN{n:Nat}(rk:List Int)(L:List (mP n)):(sw rk L).length=L.length:=List.length_mergeSort ..
def jc{n:Nat}(L:List (mP n)):List Int:=L.map (·.1)
theorem O8{n:Nat}[Inhabited (mP n)](w:World)(b:Nat)(d:List (mP n)):Go.Sort.putRow rF w b 0 d.toArray=Go.Sort.putRow (Value.int .i64) w b 0 (jc d).toArray:=by
 have e:Go.Sort.putCells rF 0 d.toArray=Go.Sort.putCells (Value.int .i64) 0 (jc d).toArray:=by
  funext c
  unfold Go.Sort.putCells
  refine Array.ext (by simp) fun i h1 h2=>?_
  have hs:(jc d).toArray.size=d.toArray.size:=by simp[jc]
  simp only[Array.getElem_mapIdx,hs]
  by_cases hi:0≤i∧i<0+d.toArray.size
  ·rw[az hi,az hi]
   have z7:i<d.length:=by have:=hi.2;simp at this;omega
   have e1:d.toArray[i-0]! = d[i]'z7:=by simp[z7]
   have e2:(jc d).toArray[i-0]! = (d[i]'z7).1:=by simp[jc,z7]
   rw[e1,e2];rfl
  ·rw[aA hi,aA hi]
 unfold Go.Sort.putRow
 rw[e]
theorem AI{n:Nat}(L:List (mP n)):(jc L).length=L.length:=cm _
theorem TS:Enters Tryz.prog 259:=enters_of Tryz.func259 (by kernel_rfl)
theorem Uz:Enters Tryz.prog 260:=enters_of Tryz.func260 (by kernel_rfl)
theorem aek{F:Nat→Prop}{w:World}{f:Fn}{bk:Nat}{v:Value}(h:aF F w (.fn f [] [.ptr bk 0]) v):v=.func f #[] #[.pointer (some ⟨bk,0,none⟩)]:=by
 cases h with
 |fn _ _ _ v1 v2 fE gV h1 h2=>
  have e1:v1 = #[]:=Array.eq_empty_of_size_eq_zero fE.symm
  obtain⟨z,rfl⟩:∃z,v2 = #[z]:=by
   obtain⟨l2⟩:=v2
   match l2,gV with
   | [z],_=>exact⟨z,rfl⟩
  subst e1
  have h3:=h2 0 _ rfl
  cases h3
  rfl
theorem WO{F:Nat→Prop}{w:World}{σ:Hp}{n:Nat}[Inhabited (mP n)]{rk:List Int}{b bk:Nat}{L:List (mP n)}(hr:rI n rk)(aJ:bC F w ((b,an (jc L))::(bk,[.af (.int .i64) rk])::σ)):CmpLays1 Tryz.prog 260 #[.pointer (some ⟨bk,0,none⟩)] rF (ue (n:=n) rk) b 0 L.length w:=fun m os dk hdk x y=>by
 have hd:(jc dk.toList).length=(jc L).length:=by
  rw[AI,AI,L6,hdk]
 obtain⟨s1,s2⟩:=EE (n:=m) (zs':=jc dk.toList) aJ hd os
 have hW:sortWorld rF w b 0 m dk os=Go.Sort.grow (Go.Sort.putRow (Value.int .i64) (Go.Sort.ahead w m) b 0 (jc dk.toList).toArray) os:=by
  have:=O8 (Go.Sort.ahead w m) b dk.toList
  show Go.Sort.grow (Go.Sort.putRow rF (Go.Sort.ahead w m) b 0 dk) os=_
  rw[← this]
 rw[← hW]at s1 s2
 generalize sortWorld rF w b 0 m dk os=W at s1 s2
 obtain⟨hF,c,T,h1,h2,h3⟩:=(s2.holds (bk,[.af (.int .i64) rk]) (dy _ (cF ..))).IH (fun x hx=>by rw[bE.1 hx];rfl)
 have ao:bL F W (fun k=>k<W.heap.size) W:=⟨rfl,rfl,rfl,bJ _,fun k hk=>s2.low k hk,fun _ _=>rfl,fun k c T fz h=>⟨c,fz,h,rfl⟩,bJ _⟩
 have mI:bk<W.heap.size:=(Dx.1 h1).1
 have sX:0<c.size:=h2
 have hv:aF (fun k=>k<W.heap.size) W (.fY [.af (.int .i64) rk]) (.pointer (some ⟨bk,0,none⟩)):=by
  refine .fY _ bk 0 (fun i=>c.getD i undef) ⟨mI,c,T,(0,0),h1⟩ (fun i x hx=>?_) (fun i x hx=>?_) (fun i x hx=>?_)
  ·match i,hx with
   | 0,hx=>rw[IV h1,jG,wU (by omega)];rfl
   |i+1,hx=>simp at hx
  ·exact (h3 i x hx).1
  ·exact (h3 i x hx).2.mono ao
 have h:=VA (fun σ=>ab3 n rk x.1 y.1 σ hr.len x.2 y.2) (w:=W) (vs:= #[.int .i64 x.1,.int .i64 y.1,.pointer (some ⟨bk,0,none⟩)]) ⟨rfl,fun i a h=>by
  match i,h with
  | 0,h=>cases h;exact .int _ _
  | 1,h=>cases h;exact .int _ _
  | 2,h=>cases h;exact hv⟩
 exact h
theorem Xd(n:Nat)[Inhabited (mP n)](rk:List Int)(b bk:Nat)(L:List (mP n))(q:Nat)(σ:Hp)(hr:rI n rk)(hz:L.length=q)(h0:0<q)(hl:q≤1000000):ACalls Tryz.prog 259 [.ah b 0 q 1,.fn (.func 260) [] [.ptr bk 0]] ((b,an (jc L))::(bk,[.af (.int .i64) rk])::σ) (aD (.tup []) ((b,an (jc (sw rk L)))::(bk,[.af (.int .i64) rk])::σ)):=by
 subst hz
 refine⟨TS,fun F w vs cg aJ =>?_⟩
 obtain⟨v,u,rfl⟩:∃v u,vs = #[v,u]:=by
  obtain⟨l2⟩:=vs
  match l2,cg.1 with
  | [v,u],_=>exact⟨v,u,rfl⟩
 have hv:aF F w (.ah b 0 L.length 1) v:=cg.2 0 _ rfl
 obtain rfl:=aek (show aF F w (.fn (.func 260) [] [.ptr bk 0]) u from cg.2 1 _ rfl)
 obtain⟨a,cap,rfl,c,T,fz,m1,m2,m3,m4⟩:=hv.lh
 rcases m4 with ⟨rfl,_⟩ | ⟨_,_,h9,_⟩
 ·obtain⟨h1,h2⟩:=Ir aJ
  have h1:Go.Sort.Holds (rF (n:=n)) w b 0 L.toArray:=fun j hj=>by
   have hj2:j<L.length:=by simpa using hj
   have hh:=h1 j (by simp[jc];exact hj2)
   rw[show (jc L).toArray[j]! = (L.toArray[j]!).1 by simp[jc,hj2]]at hh
   exact hh
  have h:Calls Tryz.prog 259 #[.slice (some ⟨b,0,none⟩) L.length cap,.func (.func 260) #[] #[.pointer (some ⟨bk,0,none⟩)]] w fun e w'=>e=.returned (.tuple #[])∧∃n os,w'=sortWorld rF w b 0 n (sw rk L).toArray os:=Any.slices_SortFunc_total ZZ rF (fun _=>rfl) (ue rk) hr.swo 260 #[.pointer (some ⟨bk,0,none⟩)] b 0 cap L.toArray w Uz (by have:=WO hr aJ;simpa using this) h1 h2 (by show L.length<_;omega) hr.tot
  refine h.mono ?_
  rintro e w' ⟨rfl,m,os,rfl⟩
  obtain⟨k1,k2⟩:=EE (n:=m) (zs':=jc (sw rk L)) aJ (by rw[AI,AI,TN]) os
  have hW:sortWorld rF w b 0 m (sw rk L).toArray os=Go.Sort.grow (Go.Sort.putRow (Value.int .i64) (Go.Sort.ahead w m) b 0 (jc (sw rk L)).toArray) os:=by
   show Go.Sort.grow (Go.Sort.putRow rF (Go.Sort.ahead w m) b 0 (sw rk L).toArray) os=_
   rw[O8]
  rw[hW]
  exact⟨.tup [],.tuple #[],_,F,rfl,k1,k2,.tup [] #[] rfl fun i x h=>by simp at h,rfl,rfl⟩
 ·omega
set_option maxHeartbeats 4000000
def ni(n:Nat)(p:List Int):Nat→List Int
 | 0=>List.replicate n 0
 |k+1=>(ni n p k).set (p.getD k 0).toNat ((n:Int)-1-(k:Int))
theorem sg(n:Nat)(p:List Int):∀k,(ni n p k).length=n
 | 0=>gY
 |k+1=>by unfold ni;rw[dV];exact sg n p k
theorem Xr{nx:Int→List Int}{n:Nat}{a:Int}{out:List Int}:a∈out++e9 nx (n+1) a out:=by
 by_cases h:a∈out
 ·exact gF _ h
 ·refine iO _ ?_
  unfold e9
  rw[aA h]
  simp
theorem O9{nx:Int→List Int}{n:Nat}:∀(L out:List Int) (a:Int),a∈out∨a∈L→a∈L.foldl (fun out a=>out++e9 nx (n+1) a out) out
 | [],out,a,h=>h.elim id fun h=>by cases h
 |b::L,out,a,h=>by
  refine O9 L _ a ?_
  rcases h with h | h
  ·exact .inl (gF _ h)
  ·rcases ei.1 h with rfl | h
   ·exact .inl Xr
   ·exact .inr h
theorem N5{n:Nat}{l:List aT}{fr:List Int}{a:Int}(h:0≤a∧a<n):a∈j4 n l fr:=by
 refine O9 _ _ a (.inr (iO _ (fi.2 ⟨a.toNat,gq.2 (by omega),?_⟩)))
 omega
structure iz(n:Nat)(p:List Int):Prop where
 nd:p.Nodup
 rg:∀x∈p,0≤x∧x<(n:Int)
 all:∀x:Int,0≤x∧x<(n:Int)→x∈p
theorem iz.len{n:Nat}{p:List Int}(h:iz n p):p.length=n:=by
 have h1:=D7 n p h.nd h.rg
 have h2:((List.range n).map fun a:Nat=>(a:Int)).Nodup:=Aq.2 (List.Pairwise.imp (fun h e=>h (Int.ofNat.inj e)) List.nodup_range)
 have h3:∀(A B:List Int),A.Nodup→(∀x∈A,x∈B)→A.length≤B.length:=by
  intro A
  induction A with
  |nil=>intro B _ _;exact aY _
  |cons a A ih=>
   intro B hn hs
   have hn:=mJ.1 hn
   have ha:=hs a (cF ..)
   have:=ih (B.erase a) hn.2 fun x hx=>(LU (fun e:x=a=>hn.1 (e▸hx))).2 (hs x (dy _ hx))
   rw[List.length_erase_of_mem ha]at this
   have:=AB ha
   rw[iE];omega
 have h4:=h3 _ p h2 fun x hx=>by
  obtain⟨a,ha,rfl⟩:=fi.1 hx
  exact h.all _ ⟨by omega,by have:=gq.1 ha;omega⟩
 rw[cm,kx]at h4
 omega
theorem Q4{n:Nat}{p:List Int}(h:iz n p):∀k,k≤n→∀i,i<k→(ni n p k).getD (p.getD i 0).toNat 0=(n:Int)-1-(i:Int)
 | 0,_,i,hi=>absurd hi (s7 _)
 |k+1,hk,i,hi=>by
  have hl:=h.len
  have Lg:k<p.length:=by omega
  have e:∀j,j<p.length→p.getD j 0∈p∧p[j]?=some (p.getD j 0):=fun j hj=>by
   have:p[j]?=some (p.getD j 0):=by rw[bO,bN hj];rfl
   exact⟨dm this,this⟩
  have hr:=h.rg _ (e k Lg).1
  unfold ni
  rw[bO,gX]
  by_cases he:i=k
  ·subst he
   rw[az rfl,az (by rw[sg];omega)];rfl
  ·have dT:=h.rg _ (e i (by omega)).1
   have bc:¬(p.getD k 0).toNat=(p.getD i 0).toNat:=fun e2=>by
    have e3:p.getD k 0=p.getD i 0:=by omega
    have:=(List.getElem?_inj (i:=k) (j:=i) Lg h.nd).1 ((e k Lg).2.trans ((congrArg some e3).trans (e i (by omega)).2.symm))
    omega
   rw[aA bc,← bO]
   exact Q4 h k (by omega) i (by omega)
def lz(n:Nat)(p:List Int):List Int:=ni n p n
theorem Q5{n:Nat}{p:List Int}(h:iz n p){i:Nat}{x:Int}(hi:p[i]?=some x):(lz n p).getD x.toNat 0=(n:Int)-1-(i:Int):=by
 have hl:=(cR.1 hi).1
 rw[h.len]at hl
 have:=Q4 h n (bJ _) i hl
 rw[show p.getD i 0=x by rw[bO,hi];rfl]at this
 exact this
theorem abX(n:Nat)(l:List aT)(fr:List Int)(σ:Hp)(hl:l.length≤100000)(hf:fr.length≤100000)(dT:ek n l=true)(mg:∀x∈fr,0≤x∧x<(n:Int)):ACalls Tryz.prog 257 [.int .i64 n,.af cb l,.af (.int .i64) fr] σ (fun r σ'=>r=.tup [.af (.int .i64) (lz n (j4 n l fr)),.int .i64 0]∧σ'=σ∧iz n (j4 n l fr)):=by
 have hn:1≤n∧n≤256:=by
  unfold ek at dT
  simp only[b9,decide_eq_true_eq]at dT
  omega
 refine au Tryz.func257 ?_
 refine .mk [] _ (adf n l fr _ hl hf dT mg) ?_
 rintro _ τ ⟨rfl,wi,met,hP⟩
 subst τ
 have hA:iz n (j4 n l fr):=⟨hP.nd,hP.rg,fun x hx=>N5 hx⟩
 have hlen:=hA.len
 generalize j4 n l fr=p at hP hA hlen
 have La:((n:Nat):Int).toNat=n:=bR n
 refine bg ?_
 intro bo
 refine bh (S:=Nat) (fun x=>[(0,.int .i64 n),(10,.ah bo 0 n 1),(25,.af (.int .i64) p),(26,.int .i64 p.length),(27,.int .i64 x)]) (fun x=>(bo,an (ni n p x))::σ) (fun x=>x≤p.length) (fun x=>p.length-x) 0 ⟨aY _,⟨rfl,rfl,rfl,rfl,rfl,trivial⟩,by rw[show an (ni n p 0)=cN [.int .i64 0] n from (tk n).symm];rfl⟩ ?_
 intro k g hk
 have hk:k≤p.length:=hk
 refine aj (p:=(k:Int)<p.length) (fun ab=>?_) (fun aq=>?_)
 ·have ab:k<p.length:=by omega
  have hx:=hA.rg _ (cq ab)
  have zZ:=sg n p k
  refine aw.mk rfl (aX.mk p[k] (by omega) (get_some ab) ?_)
  refine aQ ?_
  have hv:IntKind.i64.wrap (IntKind.i64.wrap ((n:Int)-1)-(k:Int))=(n:Int)-1-(k:Int):=by rw[IntKind.wrap_i64,IntKind.wrap_i64];omega
  have kM:ni n p (k+1)=(ni n p k).set p[k].toNat ((n:Int)-1-(k:Int)):=by
   show (ni n p k).set (p.getD k 0).toNat _=_
   rw[bO,bN ab];rfl
  refine cu 0 rfl (lS rfl _ hx.1 (by omega)) ?_
  exact aM (k+1) (by show p.length-(k+1)<p.length-k;omega) ab ⟨rfl,rfl,rfl,rfl,aL (by omega),trivial⟩ (aN (by rw[hv,← kM];rfl))
 ·have aq:k=p.length:=by omega
  subst aq
  refine .cH 0 bo 0 n 1 _ (.int .i64) (lz n p) rfl (by rw[fG,dN (by rw[lO,sg,dB];exact bJ _),hlen];exact ir _) ⟨sg n p n,rfl,by decide⟩ (cc .here (.refl _)) (.done ⟨rfl,rfl,hA⟩)
set_option maxHeartbeats 4000000
theorem OR{nx:Int→List Int}{a:Int}{met:List Int}:e9 nx 0 a met=[]:=by unfold e9;rfl
theorem ab5{nx:Int→List Int}{f:Nat}{a:Int}{met:List Int}(h:a∈met):e9 nx (f+1) a met=[]:=by unfold e9;rw[az h]
theorem Zn{nx:Int→List Int}{f:Nat}{a:Int}{met:List Int}(h:¬a∈met):e9 nx (f+1) a met=dv nx f (nx a) (met++[a])++[a]:=by
 conv=>lhs;unfold e9
 rw[aA h]
theorem X7{nx:Int→List Int}{f:Nat}{b:Int}{bs met:List Int}:dv nx f (b::bs) met=e9 nx f b met++dv nx f bs (met++e9 nx f b met):=by
 conv=>lhs;unfold dv
abbrev VwS:=Nat×List Int×AV×Hp×AV×Hp
def acp(n:Nat)(l:List aT)(f:Nat)(a:Int)(met:List Int)(acc σ:Hp):AV→Hp→Prop:=fun r σ'=>∃o:List Int,r=.af (.int .i64) o∧σ'=acc++σ∧jI n (met++o)∧o=e9 (ax n l) f a met
theorem PN(n:Nat)(l:List aT)(hl:l.length≤100000)(hn:n≤256):∀(f deep:Nat),n+1-deep=f→deep≤n+1→∀(a:Int) (met:List Int) (v:AV) (acc σ:Hp),(0≤a∧a<n)→jI n met→Acc 1 met.length v acc (an met)→ACalls Tryz.prog 282 [.int .i64 n,.af cb l,.int .i64 a,v,.int .i64 deep] (acc++σ) (acp n l f a met acc σ):=by
 intro f
 induction f with
 |zero=>
  intro deep hf hd a met v acc σ ha xK h
  have sT:=xK.len
  have h2:=h
  generalize hk:met.length=k at h2
  generalize hc:an met=cs at h2
  cases h2
  all_goals
   first | subst hc | clear hc
   refine au Tryz.func282 ?_
   refine BB [] (fun σ=>Fz met a σ (by omega) h) (fun c1=>?_) (fun c1=>?_)
   ·exact .nil (.nil _) (.done ⟨[],rfl,rfl,by rw[gg];exact xK,OR.symm⟩)
   refine aj (p:=(n:Int)<(deep:Int)) (fun c2=>?_) (fun c2=>absurd c2 (by omega))
   exact .nil (.nil _) (.done ⟨[],rfl,rfl,by rw[gg];exact xK,OR.symm⟩)
 |succ f ih=>
  intro deep hf hd a met v acc σ ha xK h
  have sT:=xK.len
  have h2:=h
  generalize hk:met.length=k at h2
  generalize hc:an met=cs at h2
  cases h2
  all_goals
   first | subst hc | clear hc
   refine au Tryz.func282 ?_
   refine BB [] (fun σ=>Fz met a σ (by omega) h) (fun c1=>?_) (fun c1=>?_)
   ·exact .nil (.nil _) (.done ⟨[],rfl,rfl,by rw[gg];exact xK,(ab5 (tC.1 c1)).symm⟩)
   refine aj (p:=(n:Int)<(deep:Int)) (fun c2=>absurd c2 (by omega)) (fun c2=>?_)
   intro aB
   refine AppendAt.more 0 aB 0 met.length [] _ rfl rfl (cp rfl) (aac [_] σ h) (by omega) (by decide) (by decide) (fun b2=>?_)
   intro qg
   refine AppendAt.more 1 b2 (0+met.length) 1 _ _ rfl rfl (acv met) (.ah 0 _ 0 1 _ rfl (cp rfl)) (by omega) (by decide) (by decide) (fun b4=>?_)
   have Ls:=ab9 met a b4
   have hna:¬a∈met:=fun h=>by rw[tC.2 h]at c1;cases c1
   refine ar [] (RF n l a _ hl (by omega)) ?_
   refine .dL (.drop 1 1 (.refl _)) ?_
   refine .wrap 12 _ rfl rfl ?_
   refine .wrap 11 _ rfl rfl ?_
   have wk:∀z∈ax n l a,0≤z∧z<n:=fun z hz=>(kD.1 hz).1
   have x7:=vb n l a
   generalize cz:ax n l a=nx at wk x7
   have qS:=aL (k:=deep) (by omega)
   refine bh (S:=VwS) (fun s=>[(0,.int .i64 n),(1,.af cb l),(2,.int .i64 a),(4,.int .i64 deep),(11,.via s.2.2.1),(12,.via s.2.2.2.2.1),(33,.af (.int .i64) nx),(34,.int .i64 nx.length),(35,.int .i64 s.1)]) (fun s=>s.2.2.2.1++(s.2.2.2.2.2++(_++σ))) (fun s=>aeE n nx met a s∧dv (ax n l) f nx (met++[a])=s.2.1++dv (ax n l) f (nx.drop s.1) (met++[a]++s.2.1)) (fun s=>nx.length-s.1) (0,[],.ah b4 0 (0+met.length+1) 1,[(b4,KG met a)],.ak,[]) ⟨⟨⟨aY _,by rw[gg];exact xK.snoc hna ha,by rw[gg];exact Ls,.nil⟩,by show _=[]++dv (ax n l) f (nx.drop 0) (met++[a]++[]);rw[gg];rfl⟩,⟨rfl,rfl,rfl,rfl,rfl,rfl,rfl,rfl,rfl,trivial⟩,rfl⟩ ?_
   rintro⟨k,o,v1,a1,v2,a2⟩ g ⟨⟨aO,wJ,rX,rW⟩,mi⟩
   have hk:k≤nx.length:=aO
   have hN:jI n (met++[a]++o):=wJ
   have h1:Acc 1 (met++[a]++o).length v1 a1 (an (met++[a]++o)):=rX
   have h2:Acc 1 o.length v2 a2 (an o):=rW
   have hX:dv (ax n l) f nx (met++[a])=o++dv (ax n l) f (nx.drop k) (met++[a]++o):=mi
   clear aO wJ rX rW mi
   have hN1:=hN.len
   have jC:o.length≤n:=hN.right.len
   refine aj (p:=(k:Int)<(nx.length:Int)) (fun ab=>?_) (fun aq=>?_)
   rotate_left
   ·intro td
    refine eU ((td,[.int .i64 a])::a1) h2 (.ah 0 td 0 1 _ rfl (cp rfl)) rfl (by omega) (by decide) (by decide) (fun v' aU h'=>?_)
    have hlen:o.length+1=(o++[a]:List Int).length:=by simp
    refine kZ (s:=.int .i64) (l:=(o++[a]:List Int)) ((td,[.int .i64 a])::a1) h' hlen (by rw[← ir,show an (o++[a])=an o++[.int .i64 a] from cC];rfl) (by decide) ?_
    refine .drop 0 1 (Ny a1 (.done ⟨o++[a],rfl,rfl,hN.perm ?_,?_⟩))
    rotate_left
    ·have aq:¬(k:Int)<(nx.length:Int):=aq
     rw[Dw (by omega),show dv (ax n l) f [] (met++[a]++o)=[] by unfold dv;rfl,gg]at hX
     rw[← hX,← cz]
     exact (Zn hna).symm
    rw[dh]
    exact List.Perm.append_left _ GY
   have ab:k<nx.length:=by omega
   obtain⟨z,hz⟩:∃z,nx[k]=z:=⟨_,rfl⟩
   have fg:=wk z (hz▸cq ab)
   refine aw.mk rfl (aX.mk z (by omega) ((get_some ab).trans (congrArg some hz)) ?_)
   have hih:=fun σ=>ih (deep+1) (by omega) (by omega) z (met++[a]++o) v1 a1 σ fg hN h1
   rw[← qS]at hih
   refine .mk [] _ (hih _) ?_
   rintro _ _ ⟨more,rfl,rfl,wI,ya⟩
   have Db:=wI.len
   rw[bG]at Db
   refine eU a1 h2 (.af (.int .i64) more rfl) (by rw[← ir,q9];exact (dB _).symm) (show o.length+more.length≤1048576 by omega) (by decide) (by decide) (fun pN sd p9=>?_)
   refine eU [] h1 (.af (.int .i64) more rfl) (by rw[← ir,q9];exact (dB _).symm) (show (met++[a]++o).length+more.length≤1048576 by omega) (by decide) (by decide) (fun xU AF Ah=>?_)
   refine aM (k+1,o++more,xU,AF,pN,sd) (by show nx.length-(k+1)<nx.length-k;omega) ⟨⟨ab,?_,?_,?_⟩,?_⟩ ⟨rfl,rfl,rfl,rfl,rfl,rfl,rfl,rfl,aL (by omega),trivial⟩ (.refl _)
   ·show jI n (met++[a]++(o++more))
    rw[← dh];exact wI
   ·show Acc 1 (met++[a]++(o++more)).length xU AF (an (met++[a]++(o++more)))
    rw[← dh,bG (bs:=more),an,cC (l₂:=more)]
    rw[← ir]at Ah
    exact Ah
   ·show Acc 1 (o++more).length pN sd (an (o++more))
    rw[bG,an,cC]
    rw[← ir]at p9
    exact p9
   ·show dv (ax n l) f nx (met++[a])=(o++more)++dv (ax n l) f (nx.drop (k+1)) (met++[a]++(o++more))
    rw[hX,yu ab,hz,X7,← ya]
    simp only[dh]
theorem aaG(n:Nat)(l:List aT)(fr:List Int)(σ:Hp)(hl:l.length≤100000)(hn:n≤256)(hf:fr.length≤100000)(mg:∀z∈fr,0≤z∧z<n):ACalls Tryz.prog 248 [.int .i64 n,.af cb l,.af (.int .i64) fr] σ (fun r σ'=>r=.af (.int .i64) (j4 n l fr)∧σ'=σ∧jI n (j4 n l fr)):=by
 refine au Tryz.func248 ?_
 refine .wrap 7 _ rfl rfl ?_
 refine bh (S:=Nat×List Int×AV×Hp) (fun s=>[(0,.int .i64 n),(1,.af cb l),(7,.via s.2.2.1),(11,.af (.int .i64) fr),(12,.int .i64 fr.length),(13,.int .i64 s.1)]) (fun s=>s.2.2.2++σ) (fun s=>s.1≤fr.length∧(jI n s.2.1∧s.2.1=lV n (ax n l) (fr.take s.1))∧Acc 1 s.2.1.length s.2.2.1 s.2.2.2 (an s.2.1)) (fun s=>fr.length-s.1) (0,[],.ak,[]) ⟨⟨aY _,⟨jI.nil n,rfl⟩,.nil⟩,⟨rfl,rfl,rfl,rfl,rfl,rfl,trivial⟩,rfl⟩ ?_
 rintro⟨k,o,v,acc⟩ g ⟨aO,⟨wJ,mi⟩,h0⟩
 have hX:o=lV n (ax n l) (fr.take k):=mi
 have hk:k≤fr.length:=aO
 have hN:jI n o:=wJ
 have h:Acc 1 o.length v acc (an o):=h0
 clear aO wJ h0
 refine aj (p:=(k:Int)<(fr.length:Int)) (fun ab=>?_) (fun aq=>?_)
 ·have ab:k<fr.length:=by omega
  obtain⟨z,hz⟩:∃z,fr[k]=z:=⟨_,rfl⟩
  have fg:=mg z (hz▸cq ab)
  refine aw.mk rfl (aX.mk z (by omega) ((get_some ab).trans (congrArg some hz)) ?_)
  refine .mk [] _ (PN n l hl hn (n+1) 0 rfl (aY _) z o v acc _ fg hN h) ?_
  rintro _ _ ⟨more,rfl,rfl,wI,ya⟩
  have Db:=wI.len
  rw[bG]at Db
  refine eU [] h (.af (.int .i64) more rfl) (by rw[← ir,q9];exact (dB _).symm) (show o.length+more.length≤1048576 by omega) (by decide) (by decide) (fun pN sd p9=>?_)
  refine aM (k+1,o++more,pN,sd) (by show fr.length-(k+1)<fr.length-k;omega) ⟨ab,⟨wI,by show o++more=lV n (ax n l) (fr.take (k+1));rw[eT ab,DT,← hX,hz,ya]⟩,?_⟩ ⟨rfl,rfl,rfl,rfl,rfl,aL (by omega),trivial⟩ (.refl _)
  show Acc 1 (o++more).length pN sd (an (o++more))
  rw[bG,an,cC]
  rw[← ir]at p9
  exact p9
 ·refine bh (S:=Nat×List Int×AV×Hp) (fun s=>[(0,.int .i64 n),(1,.af cb l),(7,.via s.2.2.1),(10,.int .i64 s.1)]) (fun s=>s.2.2.2++σ) (fun s=>s.1≤n∧(jI n s.2.1∧s.2.1=lV n (ax n l) (fr++(List.range s.1).map fun a:Nat=>(a:Int)))∧Acc 1 s.2.1.length s.2.2.1 s.2.2.2 (an s.2.1)) (fun s=>n-s.1) (0,o,v,acc) ⟨⟨Nat.zero_le _,⟨hN,by have aq:¬(k:Int)<(fr.length:Int):=aq;rw[List.take_of_length_le (by omega)]at hX;show o=lV n (ax n l) (fr++(List.range 0).map fun a:Nat=>(a:Int));rw[hX];simp⟩,h⟩,⟨rfl,rfl,rfl,rfl,trivial⟩,rfl⟩ ?_
  clear h hN hk aq hX
  rintro⟨k,o,v,acc⟩ g ⟨aO,⟨wJ,mi⟩,h0⟩
  have hX:o=lV n (ax n l) (fr++(List.range k).map fun a:Nat=>(a:Int)):=mi
  have hk:k≤n:=aO
  have hN:jI n o:=wJ
  have h:Acc 1 o.length v acc (an o):=h0
  clear aO wJ h0
  refine aj (p:=(k:Int)<(n:Int)) (fun ab=>?_) (fun aq=>?_)
  ·have ab:k<n:=by omega
   refine .mk [] _ (PN n l hl hn (n+1) 0 rfl (aY _) k o v acc _ (by omega) hN h) ?_
   rintro _ _ ⟨more,rfl,rfl,wI,ya⟩
   have Db:=wI.len
   rw[bG]at Db
   refine eU [] h (.af (.int .i64) more rfl) (by rw[← ir,q9];exact (dB _).symm) (show o.length+more.length≤1048576 by omega) (by decide) (by decide) (fun pN sd p9=>?_)
   refine aM (k+1,o++more,pN,sd) (by show n-(k+1)<n-k;omega) ⟨ab,⟨wI,by show o++more=lV n (ax n l) (fr++(List.range (k+1)).map fun a:Nat=>(a:Int));rw[qe,cC,← dh,show List.map (fun a:Nat=>(a:Int)) [k]=[(k:Int)] from rfl,DT,← hX,ya]⟩,?_⟩ ⟨rfl,rfl,rfl,aL (by omega),trivial⟩ (.refl _)
   show Acc 1 (o++more).length pN sd (an (o++more))
   rw[bG,an,cC]
   rw[← ir]at p9
   exact p9
  ·have aq:¬(k:Int)<(n:Int):=aq
   have gN:k=n:=by omega
   subst gN
   have hX:o=j4 k l fr:=hX
   rw[← hX]
   exact kZ (s:=.int .i64) [] h rfl (ir _) (by decide) (.done ⟨rfl,rfl,hN⟩)
theorem YX(n:Nat)(l:List aT)(fr:List Int)(σ:Hp)(hl:l.length≤100000)(hn:n≤256)(hf:fr.length≤100000)(mg:∀z∈fr,0≤z∧z<n):ACalls Tryz.prog 198 [.int .i64 n,.af cb l,.af (.int .i64) fr] σ (fun r σ'=>r=.af (.int .i64) (lz n (j4 n l fr))∧σ'=σ):=by
 refine au Tryz.func198 ?_
 refine bg ?_
 intro bq
 refine .mk [] _ (aaG n l fr _ hl hn hf mg) ?_
 rintro _ τ ⟨rfl,wi,hN⟩
 subst τ
 have hA:iz n (j4 n l fr):=⟨hN.1,hN.2,fun x hx=>N5 hx⟩
 generalize j4 n l fr=po at hN hA
 have hlen:=hA.len
 have lG:=hN.len
 refine bh (S:=Nat) (fun s=>[(0,.int .i64 n),(7,.ah bq 0 n 1),(15,.af (.int .i64) po),(16,.int .i64 po.length),(17,.int .i64 s)]) (fun s=>(bq,an (ni n po s))::σ) (fun s=>s≤po.length) (fun s=>po.length-s) 0 ⟨aY _,⟨rfl,rfl,rfl,rfl,rfl,trivial⟩,by rw[show an (ni n po 0)=cN [.int .i64 0] n from (tk n).symm];rfl⟩ ?_
 intro i g hi
 have hi:i≤po.length:=hi
 have ho:=sg n po i
 refine aj (p:=(i:Int)<(po.length:Int)) (fun ab=>?_) (fun aq=>?_)
 rotate_left
 ·have aq:po.length=i:=by omega
  subst aq
  refine .cH 0 bq 0 n 1 _ (.int .i64) (lz n po) rfl (by rw[fG,dN (by rw[lO,sg,dB];exact bJ _),hlen];exact ir _) ⟨sg n po n,rfl,by decide⟩ .here (.done ⟨rfl,rfl⟩)
 have ab:i<po.length:=by omega
 have fg:=hN.2 _ (cq ab)
 have hv:IntKind.i64.wrap (IntKind.i64.wrap ((n:Int)-1)-(i:Int))=(n:Int)-1-(i:Int):=by rw[IntKind.wrap_i64,IntKind.wrap_i64];omega
 have kM:ni n po (i+1)=(ni n po i).set po[i].toNat ((n:Int)-1-(i:Int)):=by
  show (ni n po i).set (po.getD i 0).toNat _=_
  rw[bO,bN ab];rfl
 refine aw.mk rfl (aX.mk po[i] (by omega) (get_some ab) ?_)
 refine aQ ?_
 refine cu 0 rfl (lS rfl _ fg.1 (by omega)) ?_
 exact aM (i+1) (by show po.length-(i+1)<po.length-i;omega) ab ⟨rfl,rfl,rfl,rfl,aL (by omega),trivial⟩ (aN (by rw[hv,← kM];rfl))
set_option maxHeartbeats 4000000
def ph(n:Nat)(l:List aT)(ps:List (List Int))(told:List Int):Prop:=∀f,nR n l (ps.length+f) ([],[])=nR n l f (ps,told)
theorem ph.nil(n:Nat)(l:List aT):ph n l [] []:=fun f=>by rw[List.length_nil,dU]
theorem ph.done{n:Nat}{l:List aT}{ps:List (List Int)}{told:List Int}(h:ph n l ps told)(hle:ps.length≤n)(hs:∀f,nR n l f (ps,told)=(ps,told)):ps=gC n l:=by
 unfold gC
 have:=h (n+1-ps.length)
 rw[show ps.length+(n+1-ps.length)=n+1 by omega,hs]at this
 rw[this]
theorem V7{n:Nat}{l:List aT}{ps:List (List Int)}{told:List Int}(h:¬told.length<n):∀f,nR n l f (ps,told)=(ps,told)
 | 0=>rfl
 |f+1=>by
  unfold nR
  rw[aA h]
theorem V6{n:Nat}{l:List aT}{ps:List (List Int)}{told:List Int}(h:∀b,b<n→lp n l told b=false):∀f,nR n l f (ps,told)=(ps,told)
 | 0=>rfl
 |f+1=>by
  unfold nR
  split
  ·have:(List.range n).find? (lp n l told)=none:=List.find?_eq_none.2 fun b hb=>by rw[h b (List.mem_range.1 hb)];simp
   show (match (List.range n).find? (lp n l told) with | none=>(ps,told) | some a=>nR n l f (ps++[eJ n l a],told++eJ n l a))=_
   rw[this]
  ·rfl
theorem ph.step{n:Nat}{l:List aT}{ps:List (List Int)}{told:List Int}{k:Nat}(h:ph n l ps told)(ht:told.length<n)(hk:k<n)(hc:∀b,b<k→lp n l told b=false)(hb:lp n l told k=true):ph n l (ps++[eJ n l k]) (told++eJ n l k):=fun f=>by
 have e:(List.range n).find? (lp n l told)=some k:=Nx hk hb hc
 have:=h (f+1)
 rw[bG,show ps.length+[eJ n l k].length+f=ps.length+(f+1) by show ps.length+1+f=_;omega,this]
 show (if told.length<n then (match (List.range n).find? (lp n l told) with | none=>(ps,told) | some a=>nR n l f (ps++[eJ n l a],told++eJ n l a)) else (ps,told))=_
 rw[az ht,e]
theorem Hz:∀{Q:List (List Int)},(∀p∈Q,0<p.length)→Q.length≤Q.flatten.length
 | [],_=>bJ _
 |p::Q,h=>by
  have ih:=Hz (Q:=Q) fun q hq=>h q (dy _ hq)
  have:=h p (cF ..)
  rw[wP,bG,iE]
  omega
theorem lN.RZ{n:Nat}{ps:List (List Int)}{told:List Int}(h:lN n ps told):ps.length≤n:=by
 rcases r8 ps.length with h0 | h0
 ·omega
 ·have h1:=h.ahead (ps.length-1) (by omega)
  have h2:=Hz (Q:=ps.take (ps.length-1)) fun p hp=>(h.ne p (List.mem_of_mem_take hp)).1
  rw[uT]at h2
  omega
theorem Sx(n:Nat)(l:List aT)(σ:Hp)(hl:l.length≤100000)(hn:n≤256):ACalls Tryz.prog 197 [.int .i64 n,.af cb l] σ (fun r σ'=>r=.af (.slice (.int .i64)) (gC n l)∧σ'=σ∧∃told,lN n (gC n l) told):=by
 refine au Tryz.func197 ?_
 refine .wrap 5 _ rfl rfl ?_
 refine .wrap 6 _ rfl rfl ?_
 have lv:∀s:DH,Ge n s→s.1.length≤n→ph n l s.1 s.2.2.2.1→(∀f,nR n l f (s.1,s.2.2.2.1)=(s.1,s.2.2.2.1))→Fin (fun r σ'=>r=.af (.slice (.int .i64)) (gC n l)∧σ'=σ∧∃told,lN n (gC n l) told) s.2.1 (KN s σ):=fun s ⟨h1,h2,h3⟩ hle hx hs=>
  kZ (s:=.slice (.int .i64)) [] h2 rfl (tp _) (by decide) (Ny s.2.2.2.2.2 (.done ⟨by rw[hx.done hle hs],rfl,s.2.2.2.1,(hx.done hle hs)▸h1⟩))
 refine bh (S:=DH) (fun s=>[(0,.int .i64 n),(1,.af cb l),(5,.via s.2.1),(6,.via s.2.2.2.2.1)]) (fun s=>KN s σ) (fun s=>Ge n s∧ph n l s.1 s.2.2.2.1) (fun s=>n-s.2.2.2.1.length) ([],.ak,[],[],.ak,[]) ⟨⟨⟨lN.nil n,.nil,.nil⟩,ph.nil n l⟩,⟨rfl,rfl,rfl,rfl,trivial⟩,rfl⟩ ?_
 rintro⟨ps,v1,a1,lU,v2,a2⟩ g ⟨⟨Df,rX,rW⟩,mi⟩
 have hX:ph n l ps lU:=mi
 clear mi
 have hI:lN n ps lU:=Df
 have h1:Acc 1 ps.length v1 a1 (cx ps):=rX
 have h2:Acc 1 lU.length v2 a2 (an lU):=rW
 clear Df rX rW
 have LK:=h2
 generalize cY:lU.length=k2 at LK
 generalize uI:an lU=c2 at LK
 cases LK
 all_goals
  first | subst uI | clear uI
  refine aj (fun c=>?_) (fun c=>?_)
  rotate_left
  ·exact lv (ps,v1,a1,lU,_,_) ⟨hI,h1,h2⟩ hI.RZ hX (V7 (ps:=ps) (told:=lU) (by first | (have c:¬(0:Int)<n:=c;omega) | (have c:¬((k2:Nat):Int)<n:=c;omega)))
  have ab:lU.length<n:=by first | (have c:(0:Int)<n:=c;omega) | (have c:((k2:Nat):Int)<n:=c;omega)
  clear c cY
  refine bh (S:=Nat×Bool×DH) (fun s=>[(0,.int .i64 n),(1,.af cb l),(5,.via s.2.2.2.1),(6,.via s.2.2.2.2.2.2.1),(7,.bool s.2.1),(8,.int .i64 s.1)]) (fun s=>KN s.2.2 σ) (fun s=>s.1≤n∧(Ge n s.2.2∧ph n l s.2.2.1 s.2.2.2.2.2.1∧(s.2.1=false→∀b,b<s.1→lp n l s.2.2.2.2.2.1 b=false))∧(s.2.1=false→s.2.2.2.2.2.1.length=lU.length)∧(s.2.1=true→lU.length<s.2.2.2.2.2.1.length)) (fun s=>n-s.1) (0,false,ps,v1,a1,lU,_,_) ⟨⟨aY _,⟨⟨hI,h1,h2⟩,hX,fun _ b hb=>absurd hb (s7 b)⟩,fun _=>rfl,fun h=>by cases h⟩,⟨rfl,rfl,rfl,rfl,rfl,rfl,trivial⟩,rfl⟩ ?_
  clear h1 h2 hI hX
  rintro⟨k,Hb,ps,v1,a1,told,v2,a2⟩ g2 ⟨aO,⟨⟨Df,rX,rW⟩,mi,hC0⟩,hf0,iM⟩
  have hX:ph n l ps told:=mi
  have hC:Hb=false→∀b,b<k→lp n l told b=false:=hC0
  clear mi hC0
  have hk:k≤n:=aO
  have hI:lN n ps told:=Df
  have h1:Acc 1 ps.length v1 a1 (cx ps):=rX
  have h2:Acc 1 told.length v2 a2 (an told):=rW
  have hf:Hb=false→told.length=lU.length:=hf0
  have ht:Hb=true→lU.length<told.length:=iM
  clear aO Df rX rW hf0 iM
  cases Hb with
  |true=>
   have wo:=ht rfl
   refine aj (fun c1=>?_) (fun c1=>?_)
   all_goals exact aM (ps,v1,a1,told,v2,a2) (by show n-told.length<n-lU.length;omega) ⟨⟨hI,h1,h2⟩,hX⟩ ⟨rfl,rfl,rfl,rfl,trivial⟩ (.refl _)
  |false=>
   have ik:=hf rfl
   clear hf ht
   have hC:=hC rfl
   have wo:=hI.tS
   have lG:=hI.J1
   refine aj (p:=(k:Int)<(n:Int)) (fun c1=>?_) (fun c1=>?_)
   rotate_left
   ·exact lv (ps,v1,a1,told,v2,a2) ⟨hI,h1,h2⟩ hI.RZ hX (V6 (fun b hb=>hC b (by omega)))
   have gN:k<n:=by omega
   have wz:=We (l:=l) gN
   have qN:=Ul n l k
   have qO:(eJ n l k)[((0:Int)).toNat]?=some ((eJ n l k).headD 0):=IN wz
   have cz:lp n l told k=false→k+1≤n∧(Ge n (ps,v1,a1,told,v2,a2)∧ph n l ps told∧((false:Bool)=false→∀b,b<k+1→lp n l told b=false))∧((false:Bool)=false→told.length=lU.length)∧((false:Bool)=true→lU.length<told.length):=fun hc=>⟨gN,⟨⟨hI,h1,h2⟩,hX,fun _ b hb=>(Nat.lt_succ_iff_lt_or_eq.1 hb).elim (hC b) fun e=>e▸hc⟩,fun _=>ik,fun h=>by cases h⟩
   refine ar [] (abZ n l k _ hl (by omega)) ?_
   refine aw.mk rfl (aX.mk _ (by decide) qO ?_)
   refine aj (p:=(eJ n l k).headD 0=(k:Int)) (fun c2=>?_) (fun c2=>?_)
   rotate_left
   ·exact aM (k+1,false,ps,v1,a1,told,v2,a2) (by show n-(k+1)<n-k;omega) (cz (by unfold lp;rw[cy c2];rfl)) ⟨rfl,rfl,rfl,rfl,rfl,aL (by omega),trivial⟩ (.refl _)
   refine BB a1 (fun σ=>Fz told k σ (by omega) h2) (fun c3=>?_) (fun c3=>?_)
   ·exact aM (k+1,false,ps,v1,a1,told,v2,a2) (by show n-(k+1)<n-k;omega) (cz (by unfold lp;rw[show iL told k=true from c3];simp)) ⟨rfl,rfl,rfl,rfl,rfl,aL (by omega),trivial⟩ (.refl _)
   refine BB a1 (fun σ=>ac7 l (eJ n l k) told σ hl (by omega) (by omega) h2) (fun c4=>?_) (fun c4=>?_)
   rotate_left
   ·exact aM (k+1,false,ps,v1,a1,told,v2,a2) (by show n-(k+1)<n-k;omega) (cz (by unfold lp;rw[show qy l (eJ n l k) told=false from c4];simp)) ⟨rfl,rfl,rfl,rfl,rfl,aL (by omega),trivial⟩ (.refl _)
   intro aB
   refine eU [_] h1 (.ah 0 aB 0 1 _ rfl (cp rfl)) rfl (by omega) (by decide) (by decide) (fun xU AF Ah=>?_)
   refine eU ((aB,[AV.af (.int .i64) (eJ n l k)])::AF) h2 (.af (.int .i64) (eJ n l k) rfl) (by rw[← ir,q9];exact (dB _).symm) (show told.length+(eJ n l k).length≤1048576 by omega) (by decide) (by decide) (fun pN sd p9=>?_)
   refine aM (k+1,true,ps++[eJ n l k],xU,AF,told++eJ n l k,pN,sd) (by show n-(k+1)<n-k;omega) ⟨gN,⟨⟨hI.snoc (by omega) wz qN (fun z hz=>ZH hz),?_,?_⟩,hX.step (by omega) gN hC (by unfold lp;rw[bj c2,show iL told k=false from c3,show qy l (eJ n l k) told=true from c4];rfl),fun h=>by cases h⟩,(fun h=>by cases h),fun _=>?_⟩ ⟨rfl,rfl,rfl,rfl,rfl,aL (by omega),trivial⟩ (.drop 0 1 (aN rfl))
   ·show Acc 1 (ps++[eJ n l k]).length xU AF (cx (ps++[eJ n l k]))
    rw[show cx (ps++[eJ n l k])=cx ps++[.af (.int .i64) (eJ n l k)] from cC,bG];exact Ah
   ·show Acc 1 (told++eJ n l k).length pN sd (an (told++eJ n l k))
    rw[an,cC,bG]
    rw[← ir]at p9
    exact p9
   ·show lU.length<(told++eJ n l k).length
    rw[bG];omega
set_option maxHeartbeats 4000000
def oY(n:Nat)(rk p:List Int):List Int:=(List.range n).flatMap fun k:Nat=>p.filter fun a=>decide (rk.getD a.toNat 0=(k:Int))
def vI(n:Nat)(l:List aT)(fr:List Int):List Int:=(gC n l).flatMap (oY n (lz n (j4 n l fr)))
theorem Y4(n:Nat)(l:List aT)(fr:List Int)(σ:Hp)(hl:l.length≤100000)(hn:n≤256)(hf:fr.length≤100000)(mg:∀z∈fr,0≤z∧z<n):ACalls Tryz.prog 147 [.int .i64 n,.af cb l,.af (.int .i64) fr] σ (fun r σ'=>r=.af (.int .i64) (vI n l fr)∧σ'=σ∧(vI n l fr).length≤131072∧∀z∈vI n l fr,0≤z∧z<(n:Int)):=by
 refine au Tryz.func147 ?_
 refine .mk [] _ (YX n l fr _ hl hn hf mg) ?_
 rintro _ τ ⟨rfl,wi⟩
 subst τ
 refine .mk [] _ (Sx n l _ hl hn) ?_
 rintro _ τ ⟨rfl,wi,told,hI⟩
 subst τ
 unfold vI
 have hrk:(lz n (j4 n l fr)).length=n:=sg _ _ _
 generalize lz n (j4 n l fr)=rk at hrk
 generalize gC n l=ps at hI
 have lG:=hI.J1
 refine .wrap 8 _ rfl rfl ?_
 refine bh (S:=Hh) (fun s=>[(0,.int .i64 n),(7,.af (.int .i64) rk),(8,.via s.2.2.1),(20,.af (.slice (.int .i64)) ps),(21,.int .i64 ps.length),(22,.int .i64 s.1)]) (fun s=>s.2.2.2++σ) (fun s=>s.1≤ps.length∧KB n (n*(ps.take s.1).flatten.length) s∧s.2.1=(ps.take s.1).flatMap (oY n rk)) (fun s=>ps.length-s.1) (0,[],.ak,[]) ⟨⟨aY _,⟨⟨aY _,fun _ h=>(s9 h).elim⟩,.nil⟩,rfl⟩,⟨rfl,rfl,rfl,rfl,rfl,rfl,trivial⟩,rfl⟩ ?_
 rintro⟨i,o,v,acc⟩ g ⟨dc,⟨⟨wK,l9⟩,h0⟩,mi⟩
 have hX:o=(ps.take i).flatMap (oY n rk):=mi
 have hi:i≤ps.length:=dc
 have hB:o.length≤n*(ps.take i).flatten.length:=wK
 have hz:∀z∈o,0≤z∧z<n:=l9
 have h:Acc 1 o.length v acc (an o):=h0
 clear dc wK l9 h0
 refine aj (p:=(i:Int)<(ps.length:Int)) (fun ab=>?_) (fun aq=>?_)
 rotate_left
 ·refine kZ (s:=.int .i64) [] h rfl (ir _) (by decide) (.done ?_)
  obtain rfl:i=ps.length:=by omega
  rw[dW]at hX
  refine⟨congrArg (AV.af (.int .i64)) hX,rfl,by rw[← hX];refine ey hB ?_;rw[dW,← hI.told];exact ey (qa hn hI.tS) (by omega),by rw[← hX];exact hz⟩
 have ab:i<ps.length:=by omega
 have hah:=hI.ahead i ab
 have htf:=UU ab
 have qN:=hI.node ps[i] (cq ab)
 have FQ:=(hI.ne ps[i] (cq ab)).2
 obtain⟨p,hp⟩:∃p,ps[i]=p:=⟨_,rfl⟩
 rw[hp]at htf qN FQ
 refine aw.mk rfl (aX.mk p (by omega) ((get_some ab).trans (congrArg some hp)) ?_)
 have hA:n*(ps.take i).flatten.length≤65536:=ey (qa hn (Nat.le_of_lt hah)) (by omega)
 have Di:n*(ps.take (i+1)).flatten.length=n*(ps.take i).flatten.length+n*p.length:=by rw[htf,Nat.mul_add]
 have hnp:n*p.length≤65536:=ey (qa hn FQ) (by omega)
 generalize n*(ps.take i).flatten.length=A at hB hA Di
 have dR:(ps.take (i+1)).flatMap (oY n rk)=(ps.take i).flatMap (oY n rk)++oY n rk p:=by rw[List.take_succ_eq_append_getElem ab,List.flatMap_append,hp];simp
 generalize (ps.take i).flatMap (oY n rk)=O at hX dR
 refine bh (S:=Hh) (fun s=>[(0,.int .i64 n),(7,.af (.int .i64) rk),(8,.via s.2.2.1),(10,.af (.int .i64) p),(11,.int .i64 s.1),(20,.af (.slice (.int .i64)) ps),(21,.int .i64 ps.length),(22,.int .i64 i)]) (fun s=>s.2.2.2++σ) (fun s=>s.1≤n∧KB n (A+s.1*p.length) s∧s.2.1=O++(List.range s.1).flatMap fun k:Nat=>p.filter fun a=>decide (rk.getD a.toNat 0=(k:Int))) (fun s=>n-s.1) (0,o,v,acc) ⟨⟨aY _,⟨⟨by show o.length≤A+0*p.length;omega,hz⟩,h⟩,by show o=O++[];rw[gg];exact hX⟩,⟨rfl,rfl,rfl,rfl,rfl,rfl,rfl,rfl,trivial⟩,rfl⟩ ?_
 clear h hz hB hX
 rintro⟨k,o,v,acc⟩ g2 ⟨aO,⟨⟨wK,l9⟩,h0⟩,mi⟩
 have hX:o=O++(List.range k).flatMap fun k:Nat=>p.filter fun a=>decide (rk.getD a.toNat 0=(k:Int)):=mi
 have hk:k≤n:=aO
 have hB:o.length≤A+k*p.length:=wK
 have hz:∀z∈o,0≤z∧z<n:=l9
 have h:Acc 1 o.length v acc (an o):=h0
 clear aO wK l9 h0
 refine aj (p:=(k:Int)<(n:Int)) (fun db=>?_) (fun jx=>?_)
 rotate_left
 ·obtain rfl:k=n:=by omega
  exact aM (i+1,o,v,acc) (by show ps.length-(i+1)<ps.length-i;omega) ⟨ab,⟨⟨by show o.length≤k*(ps.take (i+1)).flatten.length;omega,hz⟩,h⟩,by show o=(ps.take (i+1)).flatMap (oY k rk);rw[dR];exact hX⟩ ⟨rfl,rfl,rfl,rfl,rfl,aL (by omega),trivial⟩ (.refl _)
 have db:k<n:=by omega
 have hkp:(k+1)*p.length=k*p.length+p.length:=uO _ _
 have ae2:(k+1)*p.length≤n*p.length:=pf _ db
 generalize (k+1)*p.length=Y2 at hkp ae2
 have SN:O++(List.range (k+1)).flatMap (fun k:Nat=>p.filter fun a=>decide (rk.getD a.toNat 0=(k:Int)))=(O++(List.range k).flatMap fun k:Nat=>p.filter fun a=>decide (rk.getD a.toNat 0=(k:Int)))++p.filter fun a=>decide (rk.getD a.toNat 0=(k:Int)):=by rw[List.range_succ,List.flatMap_append,List.append_assoc];simp
 generalize (O++(List.range k).flatMap fun k:Nat=>p.filter fun a=>decide (rk.getD a.toNat 0=(k:Int)))=O2 at hX SN
 refine bh (S:=Hh) (fun s=>[(0,.int .i64 n),(7,.af (.int .i64) rk),(8,.via s.2.2.1),(10,.af (.int .i64) p),(11,.int .i64 k),(20,.af (.slice (.int .i64)) ps),(21,.int .i64 ps.length),(22,.int .i64 i),(31,.af (.int .i64) p),(32,.int .i64 p.length),(33,.int .i64 s.1)]) (fun s=>s.2.2.2++σ) (fun s=>s.1≤p.length∧KB n (A+k*p.length+s.1) s∧s.2.1=O2++(p.take s.1).filter fun a=>decide (rk.getD a.toNat 0=(k:Int))) (fun s=>p.length-s.1) (0,o,v,acc) ⟨⟨aY _,⟨⟨hB,hz⟩,h⟩,by show o=O2++[];rw[gg];exact hX⟩,⟨rfl,rfl,rfl,rfl,rfl,rfl,rfl,rfl,rfl,rfl,rfl,trivial⟩,rfl⟩ ?_
 clear h hz hB hX
 rintro⟨j,o,v,acc⟩ g3 ⟨jk,⟨⟨wK,l9⟩,h0⟩,mi⟩
 have hX:o=O2++(p.take j).filter fun a=>decide (rk.getD a.toNat 0=(k:Int)):=mi
 have hj:j≤p.length:=jk
 have hB:o.length≤A+k*p.length+j:=wK
 have hz:∀z∈o,0≤z∧z<n:=l9
 have h:Acc 1 o.length v acc (an o):=h0
 clear jk wK l9 h0
 refine aj (p:=(j:Int)<(p.length:Int)) (fun xL=>?_) (fun hge3=>?_)
 rotate_left
 ·obtain rfl:j=p.length:=by omega
  exact aM (k+1,o,v,acc) (by show n-(k+1)<n-k;omega) ⟨db,⟨⟨by show o.length≤A+(k+1)*p.length;rw[uO];omega,hz⟩,h⟩,by show o=O++(List.range (k+1)).flatMap fun k:Nat=>p.filter fun a=>decide (rk.getD a.toNat 0=(k:Int));rw[SN];rw[dW]at hX;exact hX⟩ ⟨rfl,rfl,rfl,rfl,aL (by omega),rfl,rfl,rfl,trivial⟩ (.refl _)
 have xL:j<p.length:=by omega
 obtain⟨z,Gt⟩:∃z,p[j]=z:=⟨_,rfl⟩
 have fg:=qN z (Gt▸cq xL)
 refine aw.mk rfl (aX.mk z (by omega) ((get_some xL).trans (congrArg some Gt)) ?_)
 refine aw.mk rfl (aX.mk (rk.getD z.toNat 0) (by omega) (Rn (by omega)) ?_)
 refine aj (p:=rk.getD z.toNat 0=(k:Int)) (fun c=>?_) (fun c=>?_)
 ·intro aB
  refine eU [_] h (.ah 0 aB 0 1 _ rfl (cp rfl)) rfl (by omega) (by decide) (by decide) (fun v' aU h'=>?_)
  have jC:(o++[z]:List Int).length=o.length+1:=bG
  have hoc:an (o++[z])=an o++[.int .i64 z]:=cC
  refine aM (j+1,o++[z],v',aU) (by show p.length-(j+1)<p.length-j;omega) ⟨xL,⟨⟨ey (Aj jC) (by omega),fun y hy=>?_⟩,?_⟩,?_⟩ ⟨rfl,rfl,rfl,rfl,rfl,rfl,rfl,rfl,rfl,rfl,aL (by omega),trivial⟩ (.drop 0 1 (aN rfl))
  ·rcases bU.1 hy with hy | hy
   ·exact hz y hy
   ·rw[bE.1 hy];exact fg
  ·show Acc 1 (o++[z]:List Int).length v' aU (an (o++[z]))
   rw[jC,hoc]
   exact h'
  ·show o++[z]=O2++(p.take (j+1)).filter fun a=>decide (rk.getD a.toNat 0=(k:Int))
   rw[List.take_succ_eq_append_getElem xL,List.filter_append,Gt,hX,List.append_assoc,List.filter_cons,if_pos (by simpa using c),List.filter_nil]
 ·exact aM (j+1,o,v,acc) (by show p.length-(j+1)<p.length-j;omega) ⟨xL,⟨⟨by show o.length≤A+k*p.length+(j+1);omega,hz⟩,h⟩,by show o=O2++(p.take (j+1)).filter fun a=>decide (rk.getD a.toNat 0=(k:Int));rw[List.take_succ_eq_append_getElem xL,List.filter_append,Gt,List.filter_cons,if_neg (by simpa using c),List.filter_nil,List.append_nil];exact hX⟩ ⟨rfl,rfl,rfl,rfl,rfl,rfl,rfl,rfl,rfl,rfl,aL (by omega),trivial⟩ (.refl _)
end Go.Proofs.YtnikdflhefijbaaGreat
