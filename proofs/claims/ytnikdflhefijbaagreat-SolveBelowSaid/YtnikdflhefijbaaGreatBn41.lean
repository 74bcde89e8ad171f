import Derived.Shelf.SlSortCmp.NoneTotal
import Derived.Test.YtnikdflhefijbaaGreatBn11
import Derived.Test.YtnikdflhefijbaaGreatBn22
import Derived.Test.YtnikdflhefijbaaGreatBn25
import Derived.Test.YtnikdflhefijbaaGreatBn40
import Derived.Test.YtnikdflhefijbaaGreatBn36
import Derived.Test.YtnikdflhefijbaaGreatBn21
import Derived.Test.YtnikdflhefijbaaGreatBn37
namespace Go.Proofs.YtnikdflhefijbaaGreat
open Go.Shelf
def WK:Go.Shelf.Ren:=⟨fun | 6=>259 | 15=>233 | 14=>292 | 28=>274 | 29=>275 | 20=>318 | 21=>319 | 22=>320 | 23=>321 | 24=>322 | 25=>323 | 26=>324 | 27=>325 | 46=>339 | 47=>296 | 48=>297 | 49=>340 | 50=>341 | 57=>355 | n=>n,fun | 22=>23 | 24=>3 | 25=>118 | 3=>3 | 39=>253 | 0=>0 | 53=>284 | 55=>56 | 4=>4 | 46=>308 | 45=>307 | 50=>312 | 5=>5 | 9=>9 | 66=>331 | 70=>335 | 76=>353 | 77=>50 | n=>n,fun | n=>n⟩
theorem ack:Go.Proofs.SlLaysF.n6 Tryz.prog WK:= {
 mixed:=by kernel_rfl
 f6 := ⟨"slices.SortFunc[[]int,int]", by decide, Tryz.func259.trans (congrArg some (by kernel_rfl))⟩
 f14 := ⟨"slices.pdqsortCmpFunc[int]", by decide, Tryz.func292.trans (congrArg some (by kernel_rfl))⟩
 f15:=Tryz.func233.trans (congrArg some (by kernel_rfl))
 f20 := ⟨"slices.insertionSortCmpFunc[int]", by decide, Tryz.func318.trans (congrArg some (by kernel_rfl))⟩
 f21 := ⟨"slices.heapSortCmpFunc[int]", by decide, Tryz.func319.trans (congrArg some (by kernel_rfl))⟩
 f22 := ⟨"slices.breakPatternsCmpFunc[int]", by decide, Tryz.func320.trans (congrArg some (by kernel_rfl))⟩
 f23 := ⟨"slices.choosePivotCmpFunc[int]", by decide, Tryz.func321.trans (congrArg some (by kernel_rfl))⟩
 f24 := ⟨"slices.reverseRangeCmpFunc[int]", by decide, Tryz.func322.trans (congrArg some (by kernel_rfl))⟩
 f25 := ⟨"slices.partialInsertionSortCmpFunc[int]", by decide, Tryz.func323.trans (congrArg some (by kernel_rfl))⟩
 f26 := ⟨"slices.partitionEqualCmpFunc[int]", by decide, Tryz.func324.trans (congrArg some (by kernel_rfl))⟩
 f27 := ⟨"slices.partitionCmpFunc[int]", by decide, Tryz.func325.trans (congrArg some (by kernel_rfl))⟩
 f28:=Tryz.func274.trans (congrArg some (by kernel_rfl))
 f29:=Tryz.func275.trans (congrArg some (by kernel_rfl))
 f46 := ⟨"slices.siftDownCmpFunc[int]", by decide, Tryz.func339.trans (congrArg some (by kernel_rfl))⟩
 f47:=Tryz.func296.trans (congrArg some (by kernel_rfl))
 f48:=Tryz.func297.trans (congrArg some (by kernel_rfl))
 f49 := ⟨"slices.medianAdjacentCmpFunc[int]", by decide, Tryz.func340.trans (congrArg some (by kernel_rfl))⟩
 f50 := ⟨"slices.medianCmpFunc[int]", by decide, Tryz.func341.trans (congrArg some (by kernel_rfl))⟩
 f57 := ⟨"slices.order2CmpFunc[int]", by decide, Tryz.func355.trans (congrArg some (by kernel_rfl))⟩
 t0:=Tryz.underlying0
 a0:=Tryz.isAgg0
 z0:=Tryz.sizeOf0
 v0:=Tryz.zeroValue0
 t3:=Tryz.underlying3
 a3:=Tryz.isAgg3
 z3:=Tryz.sizeOf3
 v3:=Tryz.zeroValue3
 t4:=Tryz.underlying4
 a4:=Tryz.isAgg4
 z4:=Tryz.sizeOf4
 v4:=Tryz.zeroValue4
 t5:=Tryz.underlying5
 a5:=Tryz.isAgg5
 z5:=Tryz.sizeOf5
 v5:=Tryz.zeroValue5
 t9:=Tryz.underlying9
 a9:=Tryz.isAgg9
 z9:=Tryz.sizeOf9
 v9:=Tryz.zeroValue9
 t22:=Tryz.underlying23
 a22:=Tryz.isAgg23
 z22:=Tryz.sizeOf23
 v22:=Tryz.zeroValue23
 a24:=Tryz.isAgg3
 z24:=Tryz.sizeOf3
 t25:=Tryz.underlying118
 a25:=Tryz.isAgg118
 z25:=Tryz.sizeOf118
 v25:=Tryz.zeroValue118
 t39:=Tryz.underlying253
 a39:=Tryz.isAgg253
 z39:=Tryz.sizeOf253
 v39:=Tryz.zeroValue253
 t45:=Tryz.underlying307
 a45:=Tryz.isAgg307
 z45:=Tryz.sizeOf307
 v45:=Tryz.zeroValue307
 t46:=Tryz.underlying308
 a46:=Tryz.isAgg308
 z46:=Tryz.sizeOf308
 v46:=Tryz.zeroValue308
 t50:=Tryz.underlying312
 a50:=Tryz.isAgg312
 z50:=Tryz.sizeOf312
 v50:=Tryz.zeroValue312
 t53:=Tryz.underlying284
 a53:=Tryz.isAgg284
 z53:=Tryz.sizeOf284
 v53:=Tryz.zeroValue284
 t55:=Tryz.underlying56
 a55:=Tryz.isAgg56
 z55:=Tryz.sizeOf56
 v55:=Tryz.zeroValue56
 t66:=Tryz.underlying331
 a66:=Tryz.isAgg331
 z66:=Tryz.sizeOf331
 v66:=Tryz.zeroValue331
 t70:=Tryz.underlying335
 a70:=Tryz.isAgg335
 z70:=Tryz.sizeOf335
 v70:=Tryz.zeroValue335
 t76:=Tryz.underlying353
 a76:=Tryz.isAgg353
 z76:=Tryz.sizeOf353
 v76:=Tryz.zeroValue353
 t77:=Tryz.underlying50
 a77:=Tryz.isAgg50
 z77:=Tryz.sizeOf50
 v77:=Tryz.zeroValue50 }
end Go.Proofs.YtnikdflhefijbaaGreat
namespace Go.Proofs.YtnikdflhefijbaaGreat
open Go.RowKit Go.Lib
set_option maxRecDepth 100000
theorem adk(n:Nat)(rk:List Int)(x y:Int)(σ:Hp)(hr:rk.length=n)(hx:0≤x∧x<n)(hy:0≤y∧y<n):ACalls Tryz.prog 260 [.int .i64 x,.int .i64 y,.fO [.af (.int .i64) rk]] σ (aE (.int .i64 (IntKind.i64.wrap (rk.getD x.toNat 0-rk.getD y.toNat 0))) σ):=by
 have h1:rk[x.toNat]?=some (rk.getD x.toNat 0):=by rw[aW,bJ (by omega)];rfl
 have h2:rk[y.toNat]?=some (rk.getD y.toNat 0):=by rw[aW,bJ (by omega)];rfl
 refine ay Tryz.func260 ?_
 refine .quiet (by kernel_rfl) ?_
 refine ag.mk rfl ?_
 refine bG.mk _ hx.1 h1 ?_
 refine ag.mk rfl ?_
 refine bG.mk _ hy.1 h2 ?_
 exact .done ⟨rfl,rfl⟩
abbrev mO(n:Nat):Type:= { x:Int // 0≤x∧x<(n:Int) }
def w8{n:Nat}(rk:List Int)(x y:mO n):Int:=IntKind.i64.wrap (rk.getD x.1.toNat 0-rk.getD y.1.toNat 0)
def r9{n:Nat}(x:mO n):Value:=.int .i64 x.1
structure tA(n:Nat)(rk:List Int):Prop where
 len:rk.length=n
 big:∀i:Nat,i<n→0≤rk.getD i 0∧rk.getD i 0<1000000
 inj:∀i j:Nat,i<n→j<n→rk.getD i 0=rk.getD j 0→i=j
theorem tA.lt{n:Nat}{rk:List Int}(h:tA n rk)(x y:mO n):ltOf (w8 rk) x y=decide (rk.getD x.1.toNat 0<rk.getD y.1.toNat 0):=by
 unfold ltOf
 rw[decide_eq_decide]
 have h1:=h.big x.1.toNat (by have:=x.2;omega)
 have h2:=h.big y.1.toNat (by have:=y.2;omega)
 unfold w8
 rw[IntKind.wrap_i64]
 omega
theorem tA.swo{n:Nat}{rk:List Int}(h:tA n rk):Go.Sort.SWO (ltOf (w8 (n:=n) rk)) where
 irrefl x:=by rw[h.lt];simp
 trans x y z h1 h2:=by rw[h.lt]at *;simp only[decide_eq_true_eq]at *;omega
 ntrans x y z h1 h2:=by rw[h.lt]at *;simp only[decide_eq_false_iff_not]at *;omega
theorem tA.tot{n:Nat}{rk:List Int}(h:tA n rk)(x y:mO n)(h1:ltOf (w8 rk) x y=false)(h2:ltOf (w8 rk) y x=false):x=y:=by
 rw[h.lt]at h1 h2
 simp only[decide_eq_false_iff_not]at h1 h2
 have hx:=x.2
 have hy:=y.2
 have:=h.inj x.1.toNat y.1.toNat (by omega) (by omega) (by omega)
 exact Subtype.ext (by omega)
def uG{n:Nat}(rk:List Int)(L:List (mO n)):List (mO n):=L.mergeSort fun x y=> !(ltOf (w8 rk)) y x
theorem Wa{n:Nat}(rk:List Int)(L:List (mO n)):(uG rk L).length=L.length:=List.length_mergeSort ..
def ji{n:Nat}(L:List (mO n)):List Int:=L.map (·.1)
theorem RA{n:Nat}[Inhabited (mO n)](w:World)(b:Nat)(d:List (mO n)):Go.Sort.putRow r9 w b 0 d.toArray=Go.Sort.putRow (Value.int .i64) w b 0 (ji d).toArray:=by
 have e:Go.Sort.putCells r9 0 d.toArray=Go.Sort.putCells (Value.int .i64) 0 (ji d).toArray:=by
  funext c
  unfold Go.Sort.putCells
  refine Array.ext (by simp) fun i h1 h2=>?_
  have hs:(ji d).toArray.size=d.toArray.size:=by simp[ji]
  simp only[Array.getElem_mapIdx,hs]
  by_cases hi:0≤i∧i<0+d.toArray.size
  ·rw[ai hi,ai hi]
   have su:i<d.length:=by have:=hi.2;simp at this;omega
   have e1:d.toArray[i-0]! = d[i]'su:=by simp[su]
   have e2:(ji d).toArray[i-0]! = (d[i]'su).1:=by simp[ji,su]
   rw[e1,e2];rfl
  ·rw[ah hi,ah hi]
 unfold Go.Sort.putRow
 rw[e]
theorem Bw{n:Nat}(L:List (mO n)):(ji L).length=L.length:=cd _
theorem We:Enters Tryz.prog 259:=enters_of Tryz.func259 (by kernel_rfl)
theorem WU:Enters Tryz.prog 260:=enters_of Tryz.func260 (by kernel_rfl)
theorem ag9{F:Nat→Prop}{w:World}{f:Fn}{bk:Nat}{v:Value}(h:aA F w (.fn f [] [.ptr bk 0]) v):v=.func f #[] #[.pointer (some ⟨bk,0,none⟩)]:=by
 cases h with
 |fn _ _ _ v1 v2 fh gQ h1 h2=>
  have e1:v1 = #[]:=Array.eq_empty_of_size_eq_zero fh.symm
  obtain⟨z,rfl⟩:∃z,v2 = #[z]:=by
   obtain⟨l2⟩:=v2
   match l2,gQ with
   | [z],_=>exact⟨z,rfl⟩
  subst e1
  have h3:=h2 0 _ rfl
  cases h3
  rfl
theorem Y7{F:Nat→Prop}{w:World}{σ:Hp}{n:Nat}[Inhabited (mO n)]{rk:List Int}{b bk:Nat}{L:List (mO n)}(hr:tA n rk)(aF:bg F w ((b,ao (ji L))::(bk,[.af (.int .i64) rk])::σ)):CmpLays1 Tryz.prog 260 #[.pointer (some ⟨bk,0,none⟩)] r9 (w8 (n:=n) rk) b 0 L.length w:=fun m os dk hdk x y=>by
 have hd:(ji dk.toList).length=(ji L).length:=by
  rw[Bw,Bw,Ov,hdk]
 obtain⟨s1,s2⟩:=Gm (n:=m) (zs':=ji dk.toList) aF hd os
 have hW:sortWorld r9 w b 0 m dk os=Go.Sort.grow (Go.Sort.putRow (Value.int .i64) (Go.Sort.ahead w m) b 0 (ji dk.toList).toArray) os:=by
  have:=RA (Go.Sort.ahead w m) b dk.toList
  show Go.Sort.grow (Go.Sort.putRow r9 (Go.Sort.ahead w m) b 0 dk) os=_
  rw[← this]
 rw[← hW]at s1 s2
 generalize sortWorld r9 w b 0 m dk os=W at s1 s2
 obtain⟨hF,c,T,h1,h2,h3⟩:=(s2.holds (bk,[.af (.int .i64) rk]) (cY _ (cm ..))).K4 (fun x hx=>by rw[bh.1 hx];rfl)
 have aq:bE F W (fun k=>k<W.heap.size) W:=⟨rfl,rfl,rfl,aU _,fun k hk=>s2.low k hk,fun _ _=>rfl,fun k c T fz h=>⟨c,fz,h,rfl⟩,aU _⟩
 have pE:bk<W.heap.size:=(EM.1 h1).1
 have iI:0<c.size:=h2
 have hv:aA (fun k=>k<W.heap.size) W (.fO [.af (.int .i64) rk]) (.pointer (some ⟨bk,0,none⟩)):=by
  refine .fO _ bk 0 (fun i=>c.getD i undef) ⟨pE,c,T,(0,0),h1⟩ (fun i x hx=>?_) (fun i x hx=>?_) (fun i x hx=>?_)
  ·match i,hx with
   | 0,hx=>rw[Lh h1,jy,xF (by omega)];rfl
   |i+1,hx=>simp at hx
  ·exact (h3 i x hx).1
  ·exact (h3 i x hx).2.mono aq
 have h:=XV (fun σ=>adk n rk x.1 y.1 σ hr.len x.2 y.2) (w:=W) (vs:= #[.int .i64 x.1,.int .i64 y.1,.pointer (some ⟨bk,0,none⟩)]) ⟨rfl,fun i a h=>by
  match i,h with
  | 0,h=>cases h;exact .int _ _
  | 1,h=>cases h;exact .int _ _
  | 2,h=>cases h;exact hv⟩
 exact h
theorem Zu(n:Nat)[Inhabited (mO n)](rk:List Int)(b bk:Nat)(L:List (mO n))(q:Nat)(σ:Hp)(hr:tA n rk)(hz:L.length=q)(h0:0<q)(hl:q≤1000000):ACalls Tryz.prog 259 [.ae b 0 q 1,.fn (.func 260) [] [.ptr bk 0]] ((b,ao (ji L))::(bk,[.af (.int .i64) rk])::σ) (aE (.tup []) ((b,ao (ji (uG rk L)))::(bk,[.af (.int .i64) rk])::σ)):=by
 subst hz
 refine⟨We,fun F w vs bU aF =>?_⟩
 obtain⟨v,u,rfl⟩:∃v u,vs = #[v,u]:=by
  obtain⟨l2⟩:=vs
  match l2,bU.1 with
  | [v,u],_=>exact⟨v,u,rfl⟩
 have hv:aA F w (.ae b 0 L.length 1) v:=bU.2 0 _ rfl
 obtain rfl:=ag9 (show aA F w (.fn (.func 260) [] [.ptr bk 0]) u from bU.2 1 _ rfl)
 obtain⟨a,cap,rfl,c,T,fz,m1,m2,m3,m4⟩:=hv.lu
 rcases m4 with ⟨rfl,_⟩ | ⟨_,_,h9,_⟩
 ·obtain⟨h1,h2⟩:=KB aF
  have h1:Go.Sort.Holds (r9 (n:=n)) w b 0 L.toArray:=fun j hj=>by
   have hj2:j<L.length:=by simpa using hj
   have hh:=h1 j (by simp[ji];exact hj2)
   rw[show (ji L).toArray[j]! = (L.toArray[j]!).1 by simp[ji,hj2]]at hh
   exact hh
  have h:Calls Tryz.prog 259 #[.slice (some ⟨b,0,none⟩) L.length cap,.func (.func 260) #[] #[.pointer (some ⟨bk,0,none⟩)]] w fun e w'=>e=.returned (.tuple #[])∧∃n os,w'=sortWorld r9 w b 0 n (uG rk L).toArray os:=Any.slices_SortFunc_total ack r9 (fun _=>rfl) (w8 rk) hr.swo 260 #[.pointer (some ⟨bk,0,none⟩)] b 0 cap L.toArray w WU (by have:=Y7 hr aF;simpa using this) h1 h2 (by show L.length<_;omega) hr.tot
  refine h.mono ?_
  rintro e w' ⟨rfl,m,os,rfl⟩
  obtain⟨k1,k2⟩:=Gm (n:=m) (zs':=ji (uG rk L)) aF (by rw[Bw,Bw,Wa]) os
  have hW:sortWorld r9 w b 0 m (uG rk L).toArray os=Go.Sort.grow (Go.Sort.putRow (Value.int .i64) (Go.Sort.ahead w m) b 0 (ji (uG rk L)).toArray) os:=by
   show Go.Sort.grow (Go.Sort.putRow r9 (Go.Sort.ahead w m) b 0 (uG rk L).toArray) os=_
   rw[RA]
  rw[hW]
  exact⟨.tup [],.tuple #[],_,F,rfl,k1,k2,.tup [] #[] rfl fun i x h=>by simp at h,rfl,rfl⟩
 ·omega
set_option maxHeartbeats 4000000
def se(n:Nat)(p:List Int):Nat→List Int
 | 0=>List.replicate n 0
 |k+1=>(se n p k).set (p.getD k 0).toNat ((n:Int)-1-(k:Int))
theorem zB(n:Nat)(p:List Int):∀k,(se n p k).length=n
 | 0=>gb
 |k+1=>by unfold se;rw[cM];exact zB n p k
theorem ZI{nx:Int→List Int}{n:Nat}{a:Int}{out:List Int}:a∈out++gL nx (n+1) a out:=by
 by_cases h:a∈out
 ·exact gD _ h
 ·refine jv _ ?_
  unfold gL
  rw[ah h]
  simp
theorem RB{nx:Int→List Int}{n:Nat}:∀(L out:List Int) (a:Int),a∈out∨a∈L→a∈L.foldl (fun out a=>out++gL nx (n+1) a out) out
 | [],out,a,h=>h.elim id fun h=>by cases h
 |b::L,out,a,h=>by
  refine RB L _ a ?_
  rcases h with h | h
  ·exact .inl (gD _ h)
  ·rcases eG.1 h with rfl | h
   ·exact .inl ZI
   ·exact .inr h
theorem Yt{n:Nat}{l:List bC}{fr:List Int}{a:Int}(h:0≤a∧a<n):a∈pY n l fr:=by
 refine RB _ _ a (.inr (jv _ (dX.2 ⟨a.toNat,gw.2 (by omega),?_⟩)))
 omega
structure j7(n:Nat)(p:List Int):Prop where
 nd:p.Nodup
 rg:∀x∈p,0≤x∧x<(n:Int)
 all:∀x:Int,0≤x∧x<(n:Int)→x∈p
theorem j7.len{n:Nat}{p:List Int}(h:j7 n p):p.length=n:=by
 have h1:=FD n p h.nd h.rg
 have h2:((List.range n).map fun a:Nat=>(a:Int)).Nodup:=Bi.2 (List.Pairwise.imp (fun h e=>h (Int.ofNat.inj e)) List.nodup_range)
 have h3:∀(A B:List Int),A.Nodup→(∀x∈A,x∈B)→A.length≤B.length:=by
  intro A
  induction A with
  |nil=>intro B _ _;exact bA _
  |cons a A ih=>
   intro B hn hs
   have hn:=mc.1 hn
   have ha:=hs a (cm ..)
   have:=ih (B.erase a) hn.2 fun x hx=>(Og (fun e:x=a=>hn.1 (e▸hx))).2 (hs x (cY _ hx))
   rw[List.length_erase_of_mem ha]at this
   have:=EN ha
   rw[ie];omega
 have h4:=h3 _ p h2 fun x hx=>by
  obtain⟨a,ha,rfl⟩:=dX.1 hx
  exact h.all _ ⟨by omega,by have:=gw.1 ha;omega⟩
 rw[cd,oO]at h4
 omega
theorem TL{n:Nat}{p:List Int}(h:j7 n p):∀k,k≤n→∀i,i<k→(se n p k).getD (p.getD i 0).toNat 0=(n:Int)-1-(i:Int)
 | 0,_,i,hi=>absurd hi (nE _)
 |k+1,hk,i,hi=>by
  have hl:=h.len
  have Nv:k<p.length:=by omega
  have e:∀j,j<p.length→p.getD j 0∈p∧p[j]?=some (p.getD j 0):=fun j hj=>by
   have:p[j]?=some (p.getD j 0):=by rw[aW,bJ hj];rfl
   exact⟨cq this,this⟩
  have hr:=h.rg _ (e k Nv).1
  unfold se
  rw[aW,eR]
  by_cases he:i=k
  ·subst he
   rw[ai rfl,ai (by rw[zB];omega)];rfl
  ·have dQ:=h.rg _ (e i (by omega)).1
   have aP:¬(p.getD k 0).toNat=(p.getD i 0).toNat:=fun e2=>by
    have e3:p.getD k 0=p.getD i 0:=by omega
    have:=(List.getElem?_inj (i:=k) (j:=i) Nv h.nd).1 ((e k Nv).2.trans ((congrArg some e3).trans (e i (by omega)).2.symm))
    omega
   rw[ah aP,← aW]
   exact TL h k (by omega) i (by omega)
def yY(n:Nat)(p:List Int):List Int:=se n p n
theorem adu{n:Nat}{p:List Int}(h:j7 n p){i:Nat}{x:Int}(hi:p[i]?=some x):(yY n p).getD x.toNat 0=(n:Int)-1-(i:Int):=by
 have hl:=(cf.1 hi).1
 rw[h.len]at hl
 have:=TL h n (aU _) i hl
 rw[show p.getD i 0=x by rw[aW,hi];rfl]at this
 exact this
theorem aeh(n:Nat)(l:List bC)(fr:List Int)(σ:Hp)(hl:l.length≤100000)(hf:fr.length≤100000)(dQ:fe n l=true)(tI:∀x∈fr,0≤x∧x<(n:Int)):ACalls Tryz.prog 257 [.int .i64 n,.af dv l,.af (.int .i64) fr] σ (fun r σ'=>r=.tup [.af (.int .i64) (yY n (pY n l fr)),.int .i64 0]∧σ'=σ∧j7 n (pY n l fr)):=by
 have hn:1≤n∧n≤256:=by
  unfold fe at dQ
  simp only[bL,decide_eq_true_eq]at dQ
  omega
 refine ay Tryz.func257 ?_
 refine .mk [] _ (aff n l fr _ hl hf dQ tI) ?_
 rintro _ τ ⟨rfl,M8,met,hP⟩
 subst τ
 have hA:j7 n (pY n l fr):=⟨hP.nd,hP.rg,fun x hx=>Yt hx⟩
 have hlen:=hA.len
 generalize pY n l fr=p at hP hA hlen
 have hnT:((n:Nat):Int).toNat=n:=bM n
 refine ag.mk ⟨by omega,by omega,by omega,by decide⟩ ?_
 intro bo
 refine bV (S:=Nat) (fun x=>[(0,.int .i64 n),(10,.ae bo 0 n 1),(25,.af (.int .i64) p),(26,.int .i64 p.length),(27,.int .i64 x)]) (fun x=>(bo,ao (se n p x))::σ) (fun x=>x≤p.length) (fun x=>p.length-x) 0 ⟨bA _,⟨rfl,rfl,rfl,rfl,rfl,trivial⟩,by rw[show ao (se n p 0)=cE [.int .i64 0] n from (xZ n).symm];rfl⟩ ?_
 intro k g hk
 have hk:k≤p.length:=hk
 refine an (p:=(k:Int)<p.length) (fun ab=>?_) (fun ar=>?_)
 ·have ab:k<p.length:=by omega
  have hx:=hA.rg _ (bX ab)
  have hlk:=zB n p k
  refine ag.mk rfl (bG.mk p[k] (by omega) (get_some ab) ?_)
  refine ag.mk ⟨rfl,by omega,by omega⟩ ?_
  have hv:IntKind.i64.wrap (IntKind.i64.wrap ((n:Int)-1)-(k:Int))=(n:Int)-1-(k:Int):=by rw[IntKind.wrap_i64,IntKind.wrap_i64];omega
  have kT:se n p (k+1)=(se n p k).set p[k].toNat ((n:Int)-1-(k:Int)):=by
   show (se n p k).set (p.getD k 0).toNat _=_
   rw[aW,bJ ab];rfl
  refine cX 0 rfl (mV rfl _ hx.1 (by omega)) ?_
  exact a8 (k+1) (by show p.length-(k+1)<p.length-k;omega) ab ⟨rfl,rfl,rfl,rfl,aX (by omega),trivial⟩ (aJ (by rw[hv,← kT];rfl))
 ·have ar:k=p.length:=by omega
  subst ar
  refine .cI 0 bo 0 n 1 _ (.int .i64) (yY n p) rfl (by rw[gR,eI (by rw[mQ,zB,eH];exact aU _),hlen];exact ug _) ⟨zB n p n,rfl,by decide⟩ (cJ .here (.refl _)) (.done ⟨rfl,rfl,hA⟩)
set_option maxHeartbeats 4000000
theorem PL:∀{Q:List (List Int)},(∀p∈Q,0<p.length)→Q.length≤Q.flatten.length
 | [],_=>aU _
 |p::Q,h=>by
  have ih:=PL (Q:=Q) fun q hq=>h q (cY _ hq)
  have:=h p (cm ..)
  rw[Bh,bQ,ie]
  omega
set_option maxHeartbeats 4000000
theorem j7.rk{n:Nat}{p:List Int}(h:j7 n p)(hn:n≤1000):tA n (yY n p):=by
 have hl:=h.len
 have key:∀i:Nat,i<n→∃j:Nat,p[j]?=some (i:Int)∧j<n∧(yY n p).getD i 0=(n:Int)-1-(j:Int):=fun i hi=>by
  obtain⟨j,hj⟩:=EH (h.all i ⟨by omega,by omega⟩)
  have ic:=(cf.1 hj).1
  have:=adu h hj
  rw[bM]at this
  exact⟨j,hj,by omega,this⟩
 refine⟨zB n p n,fun i hi=>?_,fun i j hi hj e=>?_⟩
 ·obtain⟨k,_,hk,e⟩:=key i hi
  omega
 ·obtain⟨k,h1,_,e1⟩:=key i hi
  obtain⟨m,h2,_,e2⟩:=key j hj
  have:k=m:=by omega
  subst this
  rw[h1]at h2
  have:=Option.some.inj h2
  omega
def yu(n:Nat)(p:List Int):List (mO n):=p.filterMap fun x=>if h:0≤x∧x<(n:Int) then some ⟨x,h⟩ else none
theorem Fv{n:Nat}:∀{p:List Int},(∀x∈p,0≤x∧x<(n:Int))→ji (yu n p)=p
 | [],_=>rfl
 |x::p,h=>by
  have hx:=h x (cm ..)
  have ih:=Fv (p:=p) fun y hy=>h y (cY _ hy)
  unfold yu at ih ⊢
  rw[List.filterMap_cons,dif_pos hx]
  show x::ji _=_
  rw[ih]
def eZ(n:Nat)(rk:List Int)(p:List Int):List Int:=ji (uG rk (yu n p))
theorem Qo{n:Nat}{rk p:List Int}(h:∀x∈p,0≤x∧x<(n:Int)):(eZ n rk p).Perm p:=by
 have h1:(ji (uG rk (yu n p))).Perm (ji (yu n p)):=List.Perm.map _ (List.mergeSort_perm _ _)
 rw[Fv h]at h1
 exact h1
theorem Wo{n:Nat}{rk p:List Int}(h:∀x∈p,0≤x∧x<(n:Int)):(eZ n rk p).length=p.length:=(Qo h).length_eq
def oh(n:Nat)(l:List bC)(fr:List Int):List Int:=(ka n l).flatMap (eZ n (yY n (pY n l fr)))
def qk(n:Nat)(rk:List Int)(rw:List (Nat×List Int))(k:Nat):List (Nat×List Int):=(rw.take k).map (fun r=>(r.1,eZ n rk r.2))++rw.drop k
theorem ab2(n:Nat)(rk:List Int)(b bk:Nat)(p:List Int)(σ:Hp)(hr:tA n rk)(hp:∀x∈p,0≤x∧x<(n:Int))(h0:0<p.length)(hl:p.length≤1000000):ACalls Tryz.prog 259 [.ae b 0 p.length 1,.fn (.func 260) [] [.ptr bk 0]] ((b,ao p)::(bk,[.af (.int .i64) rk])::σ) (aE (.tup []) ((b,ao (eZ n rk p))::(bk,[.af (.int .i64) rk])::σ)):=by
 obtain⟨x,hx⟩:∃x,x∈p:=by
  match p,h0 with
  |x::_,_=>exact⟨x,cm ..⟩
 haveI:Inhabited (mO n):=⟨⟨x,hp x hx⟩⟩
 have e:(yu n p).length=p.length:=by
  have:=congrArg List.length (Fv hp)
  rw[Bw]at this
  exact this
 have h:=Zu n rk b bk (yu n p) p.length σ hr e h0 hl
 rw[Fv hp]at h
 exact h
theorem adq{n:Nat}{rk:List Int}{rw:List (Nat×List Int)}{k b:Nat}{p:List Int}(h:rw[k]?=some (b,p)):(qk n rk rw k)[k]?=some (b,p)∧(qk n rk rw (k+1))[k]?=some (b,eZ n rk p):=by
 have hk:=(cf.1 h).1
 have hg:rw[k]=(b,p):=(cf.1 h).2
 have hl:((rw.take k).map (fun r=>(r.1,eZ n rk r.2))).length=k:=by rw[cd,xC];omega
 refine⟨?_,?_⟩
 ·unfold qk
  rw[iJ (by omega),hl,pG,zj,vK]
  exact h
 ·unfold qk
  rw[fp hk,cS,hg,dM,iJ (by omega),hl,pG]
  rfl
theorem Yk{n:Nat}{rk:List Int}{rw:List (Nat×List Int)}{k b:Nat}{p:List Int}(h:rw[k]?=some (b,p)):qk n rk rw k=(rw.take k).map (fun r=>(r.1,eZ n rk r.2))++(b,p)::rw.drop (k+1)∧qk n rk rw (k+1)=(rw.take k).map (fun r=>(r.1,eZ n rk r.2))++(b,eZ n rk p)::rw.drop (k+1):=by
 have hk:=(cf.1 h).1
 have hg:rw[k]=(b,p):=(cf.1 h).2
 refine⟨?_,?_⟩
 ·unfold qk
  rw[go2 hk,hg]
 ·unfold qk
  rw[fp hk,cS,hg,dM]
  rfl
theorem Rs(A B:List (Nat×List Int))(b:Nat)(p:List Int)(x:Nat×List AV)(X σ:Hp):((b,ao p)::x::(X++(eE A++(eE B++σ)))).Perm (x::(X++(eE (A++(b,p)::B)++σ))):=by
 have e:eE (A++(b,p)::B)++σ=eE A++((b,ao p)::(eE B++σ)):=by
  unfold eE
  rw[cS,dM];rfl
 rw[e]
 refine (List.Perm.swap _ _ _).trans (List.Perm.cons _ ?_)
 exact (nF.symm).trans (List.Perm.append_left X nF.symm)
theorem j7.perm{n:Nat}{p q:List Int}(h:j7 n p)(hp:q.Perm p):j7 n q:=⟨hp.nodup_iff.2 h.nd,fun x hx=>h.rg x (hp.mem_iff.1 hx),fun x hx=>hp.mem_iff.2 (h.all x hx)⟩
theorem QT{n:Nat}{rk:List Int}:∀{Q:List (List Int)},(∀p∈Q,∀x∈p,0≤x∧x<(n:Int))→(Q.flatMap (eZ n rk)).Perm Q.flatten
 | [],_=>List.Perm.nil
 |p::Q,h=>by
  rw[zi,Bh]
  exact (Qo (h p (cm ..))).append (QT fun q hq=>h q (cY _ hq))
theorem oq.flat{n:Nat}{l:List bC}{P Q:List (List Int)}(h:oq n l P)(hp:Q.Perm P):(∀p∈Q,p≠[])∧(∀p∈Q,∀x∈p,0≤x∧x<(n:Int))∧j7 n Q.flatten:=by
 have hn:∀p∈Q,∀x∈p,0≤x∧x<(n:Int):=fun p hq=>h.ok.node p (hp.mem_iff.1 hq)
 refine⟨fun p hq=>h.ok.ne p (hp.mem_iff.1 hq),hn,(hp.flatten).nodup_iff.2 h.ok.nd,fun x hx=>?_,fun x hx=>?_⟩
 ·obtain⟨p,hq,rj⟩:=oN.1 hx
  exact hn p hq x rj
 ·obtain⟨p,hq,rj⟩:=h.all x hx.1 hx.2
  exact oN.2 ⟨p,hp.mem_iff.2 hq,rj⟩
theorem PM:∀{Q:List (List Int)},(∀p∈Q,p≠[])→Q.length≤Q.flatten.length
 | [],_=>aU _
 |p::Q,h=>by
  have ih:=PM (Q:=Q) fun q hq=>h q (cY _ hq)
  have:=mM.2 (h p (cm ..))
  rw[Bh,bQ,ie]
  omega
theorem ad5(n:Nat)(l:List bC)(fr:List Int)(σ:Hp)(hl:l.length≤100000)(hf:fr.length≤100000)(dQ:fe n l=true)(tI:∀x∈fr,0≤x∧x<(n:Int)):ACalls Tryz.prog 215 [.int .i64 n,.af dv l,.af (.int .i64) fr] σ (fun r σ'=>∃bo,r=.tup [.ae bo 0 (oh n l fr).length 1,.int .i64 0]∧σ'=(bo,ao (oh n l fr))::σ∧j7 n (oh n l fr)∧(∀p∈ka n l,p≠[])∧j7 n (ka n l).flatten∧j7 n (pY n l fr)):=by
 have hn:1≤n∧n≤256:=by
  unfold fe at dQ
  simp only[bL,decide_eq_true_eq]at dQ
  omega
 refine ay Tryz.func215 ?_
 refine .mk [] _ (aeh n l fr _ hl hf dQ tI) ?_
 rintro _ τ ⟨rfl,M8,hA⟩
 subst τ
 have hR:=hA.rk (by omega)
 intro b8
 refine ak 0 ?_
 refine .mk [] _ (acY n l _ hl dQ) ?_
 rintro _ _ ⟨bo,eD,rfl,mC,rfl,P,cg,D9⟩
 obtain⟨aP,p8,ga⟩:=cg.flat D9
 have Es:j7 n (oh n l fr):=ga.perm (QT p8)
 unfold oh at Es ⊢
 generalize yY n (pY n l fr)=rk at hR Es
 generalize ka n l=Q at mC aP p8 Es ga
 have hQl:eD.length=Q.length:=by rw[← mC,cd]
 have hlen:=Es.len
 have afJ:∀p∈Q,p.length≤n:=fun p hp=>by
  have h1:p.Sublist Q.flatten:=List.sublist_flatten_of_mem hp
  have:=h1.length_le
  have:=ga.len
  omega
 have UO:eD.length≤n:=by
  have:=PM aP
  have:=ga.len
  omega
 have h0:qk n rk eD 0=eD:=by simp[qk]
 have hH:((b8,[AV.af (.int .i64) rk])::(bo,eX eD)::(eE eD++([]++σ))).Perm ((bo,eX eD)::(eE eD++((b8,[AV.af (.int .i64) rk])::σ))):=
  (List.Perm.swap _ _ _).trans (List.Perm.cons _ nF.symm)
 refine .wrap 11 .aj rfl rfl ?_
 refine .dJ (.perm hH (.refl _)) ?_
 refine bV (S:=Nat×AV×Hp) (fun x=>[(8,.ptr b8 0),(9,.int .i64 0),(11,.via x.2.1),(30,.ae bo 0 eD.length 1),(31,.int .i64 eD.length),(32,.int .i64 x.1)]) (fun x=>(b8,[.af (.int .i64) rk])::(bo,eX eD)::(eE (qk n rk eD x.1)++(x.2.2++σ))) (fun x=>x.1≤eD.length∧Acc 1 ((Q.take x.1).flatMap (eZ n rk)).length x.2.1 x.2.2 (ao ((Q.take x.1).flatMap (eZ n rk)))) (fun x=>eD.length-x.1) (0,.aj,[]) ⟨⟨bA _,.nil⟩,⟨rfl,rfl,rfl,rfl,rfl,rfl,trivial⟩,by rw[h0]⟩ ?_
 rintro⟨k,v,acc⟩ g ⟨hk,bY⟩
 have hk:k≤eD.length:=hk
 have bY:Acc 1 ((Q.take k).flatMap (eZ n rk)).length v acc (ao ((Q.take k).flatMap (eZ n rk))):=bY
 refine an (p:=(k:Int)<eD.length) (fun ab=>?_) (fun ar=>?_)
 ·have ab:k<eD.length:=by omega
  obtain⟨p,hp⟩:∃p,Q[k]?=some p:=⟨Q[k]'(by omega),bJ (by omega)⟩
  obtain⟨bk,pE⟩:=CS mC hp
  have fY:=cq hp
  have Iy:=p8 p fY
  have tG:=mM.2 (aP p fY)
  have oE:=afJ p fY
  have de:=Wo (rk:=rk) Iy
  obtain⟨s1,s2⟩:=Yk (n:=n) (rk:=rk) pE
  have fB:Q.take (k+1)=Q.take k++[p]:=by
   rw[fp (by omega)]
   rw[bJ (by omega)]at hp
   rw[Option.some.inj hp]
  have ny:((Q.take k).flatMap (eZ n rk)).length+p.length≤n:=by
   have e:Q.flatMap (eZ n rk)=(Q.take (k+1)).flatMap (eZ n rk)++(Q.drop (k+1)).flatMap (eZ n rk):=by rw[← zl,Bq]
   have:=congrArg List.length e
   rw[fB,List.flatMap_append,List.length_append,List.length_append,show [p].flatMap (eZ n rk)=eZ n rk p by simp]at this
   omega
  refine ag.mk ⟨rfl,by omega,by omega⟩ ?_
  refine aT 1 rfl (CI rfl (by omega) (by rw[bM];exact pE)) ?_
  rw[s1]
  refine .perm _ (Rs _ _ bk p (b8,[.af (.int .i64) rk]) [(bo,eX eD)] (acc++σ)) (ab2 n rk bk b8 p _ hR Iy tG (by omega)) ?_
  rintro _ _ ⟨rfl,rfl⟩
  refine⟨_,(Rs _ _ bk (eZ n rk p) (b8,[.af (.int .i64) rk]) [(bo,eX eD)] (acc++σ)).symm,?_⟩
  rw[← s2]
  have dR:=(adq (n:=n) (rk:=rk) pE).2
  refine jU (_::_::eE (qk n rk eD (k+1))) bY (.ae (k+2) bk 0 p.length (ao (eZ n rk p)) (GN dR) (by rw[mQ,de];show 0+p.length*1≤_;omega)) ?_ (by omega) (by decide) (by decide) (fun v' bu h'=>?_)
  ·show (List.take (p.length*1) (List.drop 0 (ao (eZ n rk p)))).length=p.length*1
   rw[xC,List.length_drop,mQ,de];omega
  ·refine a8 (k+1,v',bu) (by show eD.length-(k+1)<eD.length-k;omega) ⟨ab,?_⟩ ⟨rfl,rfl,rfl,rfl,rfl,aX (by omega),trivial⟩ (.refl _)
   have e:List.take (p.length*1) (List.drop 0 (ao (eZ n rk p)))=ao (eZ n rk p):=by rw[gR,eI (by rw[mQ,de];omega)]
   have h2:Acc 1 (((Q.take k).flatMap (eZ n rk)).length+p.length) v' bu (ao ((Q.take k).flatMap (eZ n rk))++List.take (p.length*1) (List.drop 0 (ao (eZ n rk p)))):=h'
   rw[e,← de,← bQ,show ao ((Q.take k).flatMap (eZ n rk))++ao (eZ n rk p)=ao ((Q.take k).flatMap (eZ n rk)++eZ n rk p) by unfold ao;rw[cS]]at h2
   show Acc 1 ((Q.take (k+1)).flatMap (eZ n rk)).length v' bu (ao ((Q.take (k+1)).flatMap (eZ n rk)))
   rw[fB,List.flatMap_append,show [p].flatMap (eZ n rk)=eZ n rk p by simp]
   exact h2
 ·have ar:¬(k:Int)<eD.length:=ar
  rw[eI (by omega)]at bY
  obtain⟨b,rfl,rfl⟩:=sR (by omega) bY
  exact .drop 0 2 (XL (eE (qk n rk eD k)) (.done ⟨b,rfl,rfl,Es,aP,ga,hA⟩))
end Go.Proofs.YtnikdflhefijbaaGreat
