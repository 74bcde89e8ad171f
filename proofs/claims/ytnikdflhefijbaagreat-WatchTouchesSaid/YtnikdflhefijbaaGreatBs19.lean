import Derived.Shelf.SlSortCmp.NoneTotal
import Derived.Test.YtnikdflhefijbaaGreatBs6
import Derived.Test.YtnikdflhefijbaaGreatBs12
import Derived.Test.YtnikdflhefijbaaGreatBs13
import Derived.Test.YtnikdflhefijbaaGreatBs18
import Derived.Test.YtnikdflhefijbaaGreatBs17
import Derived.Test.YtnikdflhefijbaaGreatBs11
namespace Go.Proofs.YtnikdflhefijbaaGreat
open Go.Shelf
def VW:Go.Shelf.Ren:=⟨fun | 6=>259 | 15=>233 | 14=>292 | 28=>274 | 29=>275 | 20=>318 | 21=>319 | 22=>320 | 23=>321 | 24=>322 | 25=>323 | 26=>324 | 27=>325 | 46=>339 | 47=>296 | 48=>297 | 49=>340 | 50=>341 | 57=>355 | n=>n,fun | 22=>23 | 24=>3 | 25=>118 | 3=>3 | 39=>253 | 0=>0 | 53=>284 | 55=>56 | 4=>4 | 46=>308 | 45=>307 | 50=>312 | 5=>5 | 9=>9 | 66=>331 | 70=>335 | 76=>353 | 77=>50 | n=>n,fun | n=>n⟩
theorem abY:Go.Proofs.SlLaysF.n6 Tryz.prog VW:= {
 mixed:=by kernel_rfl
 f6 := ⟨"slices.SortFunc[[]int,int]", by decide, Tryz.func259.trans (congrArg some (by kernel_rfl))⟩
 f14 := ⟨"slices.pdqsortCmpFunc[int]", by decide, Tryz.func292.trans (congrArg some (by kernel_rfl))⟩
 f15:=Tryz.func233.trans (congrArg some (by kernel_rfl))
 f20 := ⟨"slices.insertionSortCmpFunc[int]", by decide, Tryz.func318.trans (congrArg some (by kernel_rfl))⟩
 f21 := ⟨"slices.heapSortCmpFunc[int]", by decide, Tryz.func319.trans (congrArg some (by kernel_rfl))⟩
 f22 := ⟨"slices.breakPatternsCmpFunc[int]", by decide, Tryz.func320.trans (congrArg some (by kernel_rfl))⟩
 f23 := ⟨"slices.choosePivotCmpFunc[int]", by decide, Tryz.func321.trans (congrArg some (by kernel_rfl))⟩
 f24 := ⟨"slices.reverseRangeCmpFunc[int]", by decide, Tryz.func322.trans (congrArg some (by kernel_rfl))⟩
 f25 := ⟨"slices.partialInsertionSortCmpFunc[int]", by decide, Tryz.func323.trans (congrArg some (by kernel_rfl))⟩
 f26 := ⟨"slices.partitionEqualCmpFunc[int]", by decide, Tryz.func324.trans (congrArg some (by kernel_rfl))⟩
 f27 := ⟨"slices.partitionCmpFunc[int]", by decide, Tryz.func325.trans (congrArg some (by kernel_rfl))⟩
 f28:=Tryz.func274.trans (congrArg some (by kernel_rfl))
 f29:=Tryz.func275.trans (congrArg some (by kernel_rfl))
 f46 := ⟨"slices.siftDownCmpFunc[int]", by decide, Tryz.func339.trans (congrArg some (by kernel_rfl))⟩
 f47:=Tryz.func296.trans (congrArg some (by kernel_rfl))
 f48:=Tryz.func297.trans (congrArg some (by kernel_rfl))
 f49 := ⟨"slices.medianAdjacentCmpFunc[int]", by decide, Tryz.func340.trans (congrArg some (by kernel_rfl))⟩
 f50 := ⟨"slices.medianCmpFunc[int]", by decide, Tryz.func341.trans (congrArg some (by kernel_rfl))⟩
 f57 := ⟨"slices.order2CmpFunc[int]", by decide, Tryz.func355.trans (congrArg some (by kernel_rfl))⟩
 t0:=Tryz.underlying0
 a0:=Tryz.isAgg0
 z0:=Tryz.sizeOf0
 v0:=Tryz.zeroValue0
 t3:=Tryz.underlying3
 a3:=Tryz.isAgg3
 z3:=Tryz.sizeOf3
 v3:=Tryz.zeroValue3
 t4:=Tryz.underlying4
 a4:=Tryz.isAgg4
 z4:=Tryz.sizeOf4
 v4:=Tryz.zeroValue4
 t5:=Tryz.underlying5
 a5:=Tryz.isAgg5
 z5:=Tryz.sizeOf5
 v5:=Tryz.zeroValue5
 t9:=Tryz.underlying9
 a9:=Tryz.isAgg9
 z9:=Tryz.sizeOf9
 v9:=Tryz.zeroValue9
 t22:=Tryz.underlying23
 a22:=Tryz.isAgg23
 z22:=Tryz.sizeOf23
 v22:=Tryz.zeroValue23
 a24:=Tryz.isAgg3
 z24:=Tryz.sizeOf3
 t25:=Tryz.underlying118
 a25:=Tryz.isAgg118
 z25:=Tryz.sizeOf118
 v25:=Tryz.zeroValue118
 t39:=Tryz.underlying253
 a39:=Tryz.isAgg253
 z39:=Tryz.sizeOf253
 v39:=Tryz.zeroValue253
 t45:=Tryz.underlying307
 a45:=Tryz.isAgg307
 z45:=Tryz.sizeOf307
 v45:=Tryz.zeroValue307
 t46:=Tryz.underlying308
 a46:=Tryz.isAgg308
 z46:=Tryz.sizeOf308
 v46:=Tryz.zeroValue308
 t50:=Tryz.underlying312
 a50:=Tryz.isAgg312
 z50:=Tryz.sizeOf312
 v50:=Tryz.zeroValue312
 t53:=Tryz.underlying284
 a53:=Tryz.isAgg284
 z53:=Tryz.sizeOf284
 v53:=Tryz.zeroValue284
 t55:=Tryz.underlying56
 a55:=Tryz.isAgg56
 z55:=Tryz.sizeOf56
 v55:=Tryz.zeroValue56
 t66:=Tryz.underlying331
 a66:=Tryz.isAgg331
 z66:=Tryz.sizeOf331
 v66:=Tryz.zeroValue331
 t70:=Tryz.underlying335
 a70:=Tryz.isAgg335
 z70:=Tryz.sizeOf335
 v70:=Tryz.zeroValue335
 t76:=Tryz.underlying353
 a76:=Tryz.isAgg353
 z76:=Tryz.sizeOf353
 v76:=Tryz.zeroValue353
 t77:=Tryz.underlying50
 a77:=Tryz.isAgg50
 z77:=Tryz.sizeOf50
 v77:=Tryz.zeroValue50 }
end Go.Proofs.YtnikdflhefijbaaGreat
namespace Go.Proofs.YtnikdflhefijbaaGreat
open Go.RowKit Go.Lib
set_option maxRecDepth 100000
theorem adk(n:Nat)(rk:List Int)(x y:Int)(σ:Hp)(hr:rk.length=n)(hx:0≤x∧x<n)(hy:0≤y∧y<n):ACalls Tryz.prog 260 [.int .i64 x,.int .i64 y,.fQ [.ae (.int .i64) rk]] σ (ay (.int .i64 (IntKind.i64.wrap (rk.getD x.toNat 0-rk.getD y.toNat 0))) σ):=by
 have h1:rk[x.toNat]?=some (rk.getD x.toNat 0):=by rw[bK,bu (by omega)];rfl
 have h2:rk[y.toNat]?=some (rk.getD y.toNat 0):=by rw[bK,bu (by omega)];rfl
 refine ao Tryz.func260 ?_;refine .quiet (by kernel_rfl) ?_;refine aF.mk rfl ?_;refine aY.mk _ hx.1 h1 ?_;refine aF.mk rfl ?_;refine aY.mk _ hy.1 h2 ?_;exact .done ⟨rfl,rfl⟩
abbrev mG(n:Nat):Type:= { x:Int // 0≤x∧x<(n:Int) }
def uS{n:Nat}(rk:List Int)(x y:mG n):Int:=IntKind.i64.wrap (rk.getD x.1.toNat 0-rk.getD y.1.toNat 0)
def sb{n:Nat}(x:mG n):Value:=.int .i64 x.1
structure sd(n:Nat)(rk:List Int):Prop where
 len:rk.length=n
 big:∀i:Nat,i<n→0≤rk.getD i 0∧rk.getD i 0<1000000
 inj:∀i j:Nat,i<n→j<n→rk.getD i 0=rk.getD j 0→i=j
theorem sd.lt{n:Nat}{rk:List Int}(h:sd n rk)(x y:mG n):ltOf (uS rk) x y=decide (rk.getD x.1.toNat 0<rk.getD y.1.toNat 0):=by
 unfold ltOf;rw[decide_eq_decide];have h1:=h.big x.1.toNat (by have:=x.2;omega);have h2:=h.big y.1.toNat (by have:=y.2;omega);unfold uS;rw[IntKind.wrap_i64];omega
theorem sd.swo{n:Nat}{rk:List Int}(h:sd n rk):Go.Sort.SWO (ltOf (uS (n:=n) rk)) where
 irrefl x:=by rw[h.lt];simp
 trans x y z h1 h2:=by rw[h.lt]at *;simp only[decide_eq_true_eq]at *;omega
 ntrans x y z h1 h2:=by rw[h.lt]at *;simp only[decide_eq_false_iff_not]at *;omega
theorem sd.tot{n:Nat}{rk:List Int}(h:sd n rk)(x y:mG n)(h1:ltOf (uS rk) x y=false)(h2:ltOf (uS rk) y x=false):x=y:=by
 rw[h.lt]at h1 h2;simp only[decide_eq_false_iff_not]at h1 h2;have hx:=x.2;have hy:=y.2;have:=h.inj x.1.toNat y.1.toNat (by omega) (by omega) (by omega);exact Subtype.ext (by omega)
def s4{n:Nat}(rk:List Int)(L:List (mG n)):List (mG n):=L.mergeSort fun x y=> !(ltOf (uS rk)) y x
theorem Vr{n:Nat}(rk:List Int)(L:List (mG n)):(s4 rk L).length=L.length:=M5 ..
def iT{n:Nat}(L:List (mG n)):List Int:=L.map (·.1)
theorem QD{n:Nat}[Inhabited (mG n)](w:World)(b:Nat)(d:List (mG n)):Go.Sort.putRow sb w b 0 d.toArray=Go.Sort.putRow (Value.int .i64) w b 0 (iT d).toArray:=by
 have e:Go.Sort.putCells sb 0 d.toArray=Go.Sort.putCells (Value.int .i64) 0 (iT d).toArray:=by
  funext c
  unfold Go.Sort.putCells;refine Array.ext (by simp) fun i h1 h2=>?_;have hs:(iT d).toArray.size=d.toArray.size:=by simp[iT]
  simp only[Array.getElem_mapIdx,hs]
  by_cases hi:0≤i∧i<0+d.toArray.size
  ·rw[az hi,az hi];have xc:i<d.length:=by have:=hi.2;simp at this;omega
   have e1:d.toArray[i-0]! = d[i]'xc:=by simp[xc]
   have e2:(iT d).toArray[i-0]! = (d[i]'xc).1:=by simp[iT,xc]
   rw[e1,e2];rfl
  ·rw[aB hi,aB hi]
 unfold Go.Sort.putRow;rw[e]
theorem Be{n:Nat}(L:List (mG n)):(iT L).length=L.length:=cN _
theorem Vw:Enters Tryz.prog 259:=enters_of Tryz.func259 (by kernel_rfl)
theorem V5:Enters Tryz.prog 260:=enters_of Tryz.func260 (by kernel_rfl)
theorem agK{F:Nat→Prop}{w:World}{f:Fn}{bk:Nat}{v:Value}(h:aD F w (.fn f [] [.ptr bk 0]) v):v=.func f #[] #[.pointer (some ⟨bk,0,none⟩)]:=by
 cases h with
 |fn _ _ _ v1 v2 fj dw h1 h2=>
  have e1:v1 = #[]:=H9 fj.symm
  obtain⟨z,rfl⟩:∃z,v2 = #[z]:=by
   obtain⟨l2⟩:=v2
   match l2,dw with
   | [z],_=>exact⟨z,rfl⟩
  subst e1;have h3:=h2 0 _ rfl;cases h3;rfl
theorem YG{F:Nat→Prop}{w:World}{σ:Hp}{n:Nat}[Inhabited (mG n)]{rk:List Int}{b bk:Nat}{L:List (mG n)}(hr:sd n rk)(aG:bA F w ((b,aj (iT L))::(bk,[.ae (.int .i64) rk])::σ)):CmpLays1 Tryz.prog 260 #[.pointer (some ⟨bk,0,none⟩)] sb (uS (n:=n) rk) b 0 L.length w:=fun m os dk hdk x y=>by
 have hd:(iT dk.toList).length=(iT L).length:=by
  rw[Be,Be,Nh,hdk]
 obtain⟨s1,s2⟩:=Fs (n:=m) (zs':=iT dk.toList) aG hd os
 have hW:sortWorld sb w b 0 m dk os=Go.Sort.grow (Go.Sort.putRow (Value.int .i64) (Go.Sort.ahead w m) b 0 (iT dk.toList).toArray) os:=by
  have:=QD (Go.Sort.ahead w m) b dk.toList;show Go.Sort.grow (Go.Sort.putRow sb (Go.Sort.ahead w m) b 0 dk) os=_;rw[← this]
 rw[← hW]at s1 s2;generalize sortWorld sb w b 0 m dk os=W at s1 s2;obtain⟨hF,c,T,h1,h2,h3⟩:=(s2.holds (bk,[.ae (.int .i64) rk]) (dq _ (cF ..))).JT (fun x hx=>by rw[bj.1 hx];rfl);have aq:bH F W (fun k=>k<W.heap.size) W:=⟨rfl,rfl,rfl,bg _,fun k hk=>s2.low k hk,fun _ _=>rfl,fun k c T fz h=>⟨c,fz,h,rfl⟩,bg _⟩
 have xe:bk<W.heap.size:=(y6.1 h1).1;have rp:0<c.size:=h2
 have hv:aD (fun k=>k<W.heap.size) W (.fQ [.ae (.int .i64) rk]) (.pointer (some ⟨bk,0,none⟩)):=by
  refine .fQ _ bk 0 (fun i=>c.getD i undef) ⟨xe,c,T,(0,0),h1⟩ (fun i x hx=>?_) (fun i x hx=>?_) (fun i x hx=>?_)
  ·match i,hx with
   | 0,hx=>rw[FJ h1,gR,pA (by omega)];rfl
   |i+1,hx=>simp at hx
  ·exact (h3 i x hx).1
  ·exact (h3 i x hx).2.mono aq
 have h:=O0 (fun σ=>adk n rk x.1 y.1 σ hr.len x.2 y.2) (w:=W) (vs:= #[.int .i64 x.1,.int .i64 y.1,.pointer (some ⟨bk,0,none⟩)]) ⟨rfl,fun i a h=>by
  match i,h with
  | 0,h=>cases h;exact .int _ _
  | 1,h=>cases h;exact .int _ _
  | 2,h=>cases h;exact hv⟩
 exact h
theorem Y5(n:Nat)[Inhabited (mG n)](rk:List Int)(b bk:Nat)(L:List (mG n))(q:Nat)(σ:Hp)(hr:sd n rk)(hz:L.length=q)(h0:0<q)(hl:q≤1000000):ACalls Tryz.prog 259 [.af b 0 q 1,.fn (.func 260) [] [.ptr bk 0]] ((b,aj (iT L))::(bk,[.ae (.int .i64) rk])::σ) (ay (.tup []) ((b,aj (iT (s4 rk L)))::(bk,[.ae (.int .i64) rk])::σ)):=by
 subst hz;refine⟨Vw,fun F w vs bY aG =>?_⟩
 obtain⟨v,u,rfl⟩:∃v u,vs = #[v,u]:=by
  obtain⟨l2⟩:=vs
  match l2,bY.1 with
  | [v,u],_=>exact⟨v,u,rfl⟩
 have hv:aD F w (.af b 0 L.length 1) v:=bY.2 0 _ rfl;obtain rfl:=agK (show aD F w (.fn (.func 260) [] [.ptr bk 0]) u from bY.2 1 _ rfl);obtain⟨a,cap,rfl,c,T,fz,m1,m2,m3,m4⟩:=hv.kK
 rcases m4 with ⟨rfl,_⟩ | ⟨_,_,h9,_⟩
 ·obtain⟨h1,h2⟩:=JA aG
  have h1:Go.Sort.Holds (sb (n:=n)) w b 0 L.toArray:=fun j hj=>by
   have Dv:j<L.length:=by simpa using hj
   have hh:=h1 j (by simp[iT];exact Dv);rw[show (iT L).toArray[j]! = (L.toArray[j]!).1 by simp[iT,Dv]]at hh;exact hh
  have h:Calls Tryz.prog 259 #[.slice (some ⟨b,0,none⟩) L.length cap,.func (.func 260) #[] #[.pointer (some ⟨bk,0,none⟩)]] w fun e w'=>e=.returned (.tuple #[])∧∃n os,w'=sortWorld sb w b 0 n (s4 rk L).toArray os:=Any.slices_SortFunc_total abY sb (fun _=>rfl) (uS rk) hr.swo 260 #[.pointer (some ⟨bk,0,none⟩)] b 0 cap L.toArray w V5 (by have:=YG hr aG;simpa using this) h1 h2 (by show L.length<_;omega) hr.tot;refine h.mono ?_;rintro e w' ⟨rfl,m,os,rfl⟩;obtain⟨k1,k2⟩:=Fs (n:=m) (zs':=iT (s4 rk L)) aG (by rw[Be,Be,Vr]) os
  have hW:sortWorld sb w b 0 m (s4 rk L).toArray os=Go.Sort.grow (Go.Sort.putRow (Value.int .i64) (Go.Sort.ahead w m) b 0 (iT (s4 rk L)).toArray) os:=by
   show Go.Sort.grow (Go.Sort.putRow sb (Go.Sort.ahead w m) b 0 (s4 rk L).toArray) os=_;rw[QD]
  rw[hW];exact⟨.tup [],.tuple #[],_,F,rfl,k1,k2,.tup [] #[] rfl fun i x h=>by simp at h,rfl,rfl⟩
 ·omega
set_option maxHeartbeats 4000000
def nh(n:Nat)(p:List Int):Nat→List Int
 | 0=>List.replicate n 0
 |k+1=>(nh n p k).set (p.getD k 0).toNat ((n:Int)-1-(k:Int))
theorem sN(n:Nat)(p:List Int):∀k,(nh n p k).length=n
 | 0=>gh
 |k+1=>by unfold nh;rw[dY];exact sN n p k
theorem Zj{nx:Int→List Int}{n:Nat}{a:Int}{out:List Int}:a∈out++fe nx (n+1) a out:=by
 by_cases h:a∈out
 ·exact gg _ h
 ·refine iK _ ?_;unfold fe;rw[aB h];simp
theorem QF{nx:Int→List Int}{n:Nat}:∀(L out:List Int) (a:Int),a∈out∨a∈L→a∈L.foldl (fun out a=>out++fe nx (n+1) a out) out
 | [],out,a,h=>h.elim id fun h=>by cases h
 |b::L,out,a,h=>by
  refine QF L _ a ?_
  rcases h with h | h
  ·exact .inl (gg _ h)
  ·rcases dW.1 h with rfl | h
   ·exact .inl Zj
   ·exact .inr h
theorem Py{n:Nat}{l:List aO}{fr:List Int}{a:Int}(h:0≤a∧a<n):a∈jU n l fr:=by
 refine QF _ _ a (.inr (iK _ (eW.2 ⟨a.toNat,gP.2 (by omega),?_⟩)));omega
structure iu(n:Nat)(p:List Int):Prop where
 nd:p.Nodup
 rg:∀x∈p,0≤x∧x<(n:Int)
 all:∀x:Int,0≤x∧x<(n:Int)→x∈p
theorem iu.len{n:Nat}{p:List Int}(h:iu n p):p.length=n:=by
 have h1:=EU n p h.nd h.rg;have h2:((List.range n).map fun a:Nat=>(a:Int)).Nodup:=AY.2 (List.Pairwise.imp (fun h e=>h (Int.ofNat.inj e)) List.nodup_range)
 have h3:∀(A B:List Int),A.Nodup→(∀x∈A,x∈B)→A.length≤B.length:=by
  intro A
  induction A with
  |nil=>intro B _ _;exact aV _
  |cons a A ih=>
   intro B hn hs;have hn:=mD.1 hn;have ha:=hs a (cF ..);have:=ih (B.erase a) hn.2 fun x hx=>(M4 (fun e:x=a=>hn.1 (e▸hx))).2 (hs x (dq _ hx));rw[List.length_erase_of_mem ha]at this;have:=Ba ha;rw[gH];omega
 have h4:=h3 _ p h2 fun x hx=>by
  obtain⟨a,ha,rfl⟩:=eW.1 hx;exact h.all _ ⟨by omega,by have:=gP.1 ha;omega⟩
 rw[cN,og]at h4;omega
theorem SJ{n:Nat}{p:List Int}(h:iu n p):∀k,k≤n→∀i,i<k→(nh n p k).getD (p.getD i 0).toNat 0=(n:Int)-1-(i:Int)
 | 0,_,i,hi=>absurd hi (vH _)
 |k+1,hk,i,hi=>by
  have hl:=h.len;have Ml:k<p.length:=by omega
  have e:∀j,j<p.length→p.getD j 0∈p∧p[j]?=some (p.getD j 0):=fun j hj=>by
   have:p[j]?=some (p.getD j 0):=by rw[bK,bu hj];rfl
   exact⟨dz this,this⟩
  have hr:=h.rg _ (e k Ml).1;unfold nh;rw[bK,gQ]
  by_cases he:i=k
  ·subst he;rw[az rfl,az (by rw[sN];omega)];rfl
  ·have ek:=h.rg _ (e i (by omega)).1
   have bf:¬(p.getD k 0).toNat=(p.getD i 0).toNat:=fun e2=>by
    have e3:p.getD k 0=p.getD i 0:=by omega
    have:=(List.getElem?_inj (i:=k) (j:=i) Ml h.nd).1 ((e k Ml).2.trans ((congrArg some e3).trans (e i (by omega)).2.symm));omega
   rw[aB bf,← bK];exact SJ h k (by omega) i (by omega)
def lj(n:Nat)(p:List Int):List Int:=nh n p n
theorem SK{n:Nat}{p:List Int}(h:iu n p){i:Nat}{x:Int}(hi:p[i]?=some x):(lj n p).getD x.toNat 0=(n:Int)-1-(i:Int):=by
 have hl:=(cW.1 hi).1;rw[h.len]at hl;have:=SJ h n (bg _) i hl;rw[show p.getD i 0=x by rw[bK,hi];rfl]at this;exact this
theorem aes(n:Nat)(l:List aO)(fr:List Int)(σ:Hp)(hl:l.length≤100000)(hf:fr.length≤100000)(ek:eA n l=true)(iI:∀x∈fr,0≤x∧x<(n:Int)):ACalls Tryz.prog 257 [.int .i64 n,.ae cg l,.ae (.int .i64) fr] σ (fun r σ'=>r=.tup [.ae (.int .i64) (lj n (jU n l fr)),.int .i64 0]∧σ'=σ∧iu n (jU n l fr)):=by
 have hn:1≤n∧n≤256:=by
  unfold eA at ek;simp only[bS,decide_eq_true_eq]at ek;omega
 refine ao Tryz.func257 ?_;refine .mk [] _ (afz n l fr _ hl hf ek iI) ?_;rintro _ τ ⟨rfl,wY,met,hP⟩;subst τ;have hA:iu n (jU n l fr):=⟨hP.nd,hP.rg,fun x hx=>Py hx⟩
 have hlen:=hA.len;generalize jU n l fr=p at hP hA hlen;have Mh:((n:Nat):Int).toNat=n:=bD n;refine a8 ?_;intro bo;refine bc (S:=Nat) (fun x=>[(0,.int .i64 n),(10,.af bo 0 n 1),(25,.ae (.int .i64) p),(26,.int .i64 p.length),(27,.int .i64 x)]) (fun x=>(bo,aj (nh n p x))::σ) (fun x=>x≤p.length) (fun x=>p.length-x) 0 ⟨aV _,⟨rfl,rfl,rfl,rfl,rfl,trivial⟩,by rw[show aj (nh n p 0)=cP [.int .i64 0] n from (ua n).symm];rfl⟩ ?_;intro k g hk;have hk:k≤p.length:=hk;refine ai (p:=(k:Int)<p.length) (fun ab=>?_) (fun ak=>?_)
 ·have ab:k<p.length:=by omega
  have hx:=hA.rg _ (bU ab);have hlk:=sN n p k;refine aF.mk rfl (aY.mk p[k] (by omega) (get_some ab) ?_);refine aH ?_;have hv:IntKind.i64.wrap (IntKind.i64.wrap ((n:Int)-1)-(k:Int))=(n:Int)-1-(k:Int):=by rw[IntKind.wrap_i64,IntKind.wrap_i64];omega
  have iV:nh n p (k+1)=(nh n p k).set p[k].toNat ((n:Int)-1-(k:Int)):=by
   show (nh n p k).set (p.getD k 0).toNat _=_;rw[bK,bu ab];rfl
  refine bM 0 rfl (lL rfl _ hx.1 (by omega)) ?_;exact aM (k+1) (by show p.length-(k+1)<p.length-k;omega) ab ⟨rfl,rfl,rfl,rfl,aI (by omega),trivial⟩ (aL (by rw[hv,← iV];rfl))
 ·have ak:k=p.length:=by omega
  subst ak;refine .cb 0 bo 0 n 1 _ (.int .i64) (lj n p) rfl (by rw[fy,dZ (by rw[lF,sN,dH];exact bg _),hlen];exact ia _) ⟨sN n p n,rfl,by decide⟩ (bZ .here (.refl _)) (.done ⟨rfl,rfl,hA⟩)
set_option maxHeartbeats 4000000
theorem Ql{nx:Int→List Int}{a:Int}{met:List Int}:fe nx 0 a met=[]:=by unfold fe;rfl
theorem adn{nx:Int→List Int}{f:Nat}{a:Int}{met:List Int}(h:a∈met):fe nx (f+1) a met=[]:=by unfold fe;rw[az h]
theorem abi{nx:Int→List Int}{f:Nat}{a:Int}{met:List Int}(h:¬a∈met):fe nx (f+1) a met=dB nx f (nx a) (met++[a])++[a]:=by
 conv=>lhs;unfold fe
 rw[aB h]
theorem Z2{nx:Int→List Int}{f:Nat}{b:Int}{bs met:List Int}:dB nx f (b::bs) met=fe nx f b met++dB nx f bs (met++fe nx f b met):=by
 conv=>lhs;unfold dB
abbrev VwS:=Nat×List Int×AV×Hp×AV×Hp
def aeO(n:Nat)(l:List aO)(f:Nat)(a:Int)(met:List Int)(acc σ:Hp):AV→Hp→Prop:=fun r σ'=>∃o:List Int,r=.ae (.int .i64) o∧σ'=acc++σ∧jx n (met++o)∧o=fe (au n l) f a met
theorem Rr(n:Nat)(l:List aO)(hl:l.length≤100000)(hn:n≤256):∀(f deep:Nat),n+1-deep=f→deep≤n+1→∀(a:Int) (met:List Int) (v:AV) (acc σ:Hp),(0≤a∧a<n)→jx n met→Acc 1 met.length v acc (aj met)→ACalls Tryz.prog 282 [.int .i64 n,.ae cg l,.int .i64 a,v,.int .i64 deep] (acc++σ) (aeO n l f a met acc σ):=by
 intro f
 induction f with
 |zero=>
  intro deep hf hd a met v acc σ ha yr h;have tE:=yr.len;have h2:=h;generalize hk:met.length=k at h2;generalize hc:aj met=cs at h2;cases h2
  all_goals
   first | subst hc | clear hc
   refine ao Tryz.func282 ?_;refine Cb [] (fun σ=>GC met a σ (by omega) h) (fun c1=>?_) (fun c1=>?_)
   ·exact .nil (.nil _) (.done ⟨[],rfl,rfl,by rw[fC];exact yr,Ql.symm⟩)
   refine ai (p:=(n:Int)<(deep:Int)) (fun c2=>?_) (fun c2=>absurd c2 (by omega));exact .nil (.nil _) (.done ⟨[],rfl,rfl,by rw[fC];exact yr,Ql.symm⟩)
 |succ f ih=>
  intro deep hf hd a met v acc σ ha yr h;have tE:=yr.len;have h2:=h;generalize hk:met.length=k at h2;generalize hc:aj met=cs at h2;cases h2
  all_goals
   first | subst hc | clear hc
   refine ao Tryz.func282 ?_;refine Cb [] (fun σ=>GC met a σ (by omega) h) (fun c1=>?_) (fun c1=>?_)
   ·exact .nil (.nil _) (.done ⟨[],rfl,rfl,by rw[fC];exact yr,(adn (um.1 c1)).symm⟩)
   refine ai (p:=(n:Int)<(deep:Int)) (fun c2=>absurd c2 (by omega)) (fun c2=>?_);intro ax;refine AppendAt.more 0 ax 0 met.length [] _ rfl rfl (cj rfl) (acz [_] σ h) (by omega) (by decide) (by decide) (fun b2=>?_);intro kX;refine AppendAt.more 1 b2 (0+met.length) 1 _ _ rfl rfl (aeU met) (.af 0 _ 0 1 _ rfl (cj rfl)) (by omega) (by decide) (by decide) (fun b4=>?_);have Mx:=ads met a b4;have hna:¬a∈met:=fun h=>by rw[um.2 h]at c1;cases c1
   refine aw [] (aex n l a _ hl (by omega)) ?_;refine .dT (.drop 1 1 (.refl _)) ?_;refine .wrap 12 _ rfl rfl ?_;refine .wrap 11 _ rfl rfl ?_;have wZ:∀z∈au n l a,0≤z∧z<n:=fun z hz=>(kD.1 hz).1;have yF:=vR n l a;generalize cz:au n l a=nx at wZ yF;have xd:=aI (k:=deep) (by omega);refine bc (S:=VwS) (fun s=>[(0,.int .i64 n),(1,.ae cg l),(2,.int .i64 a),(4,.int .i64 deep),(11,.via s.2.2.1),(12,.via s.2.2.2.2.1),(33,.ae (.int .i64) nx),(34,.int .i64 nx.length),(35,.int .i64 s.1)]) (fun s=>s.2.2.2.1++(s.2.2.2.2.2++(_++σ))) (fun s=>ah4 n nx met a s∧dB (au n l) f nx (met++[a])=s.2.1++dB (au n l) f (nx.drop s.1) (met++[a]++s.2.1)) (fun s=>nx.length-s.1) (0,[],.af b4 0 (0+met.length+1) 1,[(b4,LK met a)],.ag,[]) ⟨⟨⟨aV _,by rw[fC];exact yr.snoc hna ha,by rw[fC];exact Mx,.nil⟩,by show _=[]++dB (au n l) f (nx.drop 0) (met++[a]++[]);rw[fC];rfl⟩,⟨rfl,rfl,rfl,rfl,rfl,rfl,rfl,rfl,rfl,trivial⟩,rfl⟩ ?_;rintro⟨k,o,v1,a1,v2,a2⟩ g ⟨⟨aK,xl,xp,xo⟩,l6⟩;have hk:k≤nx.length:=aK;have hN:jx n (met++[a]++o):=xl;have h1:Acc 1 (met++[a]++o).length v1 a1 (aj (met++[a]++o)):=xp;have h2:Acc 1 o.length v2 a2 (aj o):=xo;have hX:dB (au n l) f nx (met++[a])=o++dB (au n l) f (nx.drop k) (met++[a]++o):=l6;clear aK xl xp xo l6;have hN1:=hN.len;have jn:o.length≤n:=hN.right.len;refine ai (p:=(k:Int)<(nx.length:Int)) (fun ab=>?_) (fun ak=>?_);rotate_left
   ·intro tR;refine eS ((tR,[.int .i64 a])::a1) h2 (.af 0 tR 0 1 _ rfl (cj rfl)) rfl (by omega) (by decide) (by decide) (fun v' aJ h'=>?_);have hlen:o.length+1=(o++[a]:List Int).length:=by simp
    refine lH (s:=.int .i64) (l:=(o++[a]:List Int)) ((tR,[.int .i64 a])::a1) h' hlen (by rw[← ia,show aj (o++[a])=aj o++[.int .i64 a] from cE];rfl) (by decide) ?_;refine .drop 0 1 (OV a1 (.done ⟨o++[a],rfl,rfl,hN.perm ?_,?_⟩));rotate_left
    ·have ak:¬(k:Int)<(nx.length:Int):=ak;rw[xz (by omega),show dB (au n l) f [] (met++[a]++o)=[] by unfold dB;rfl,fC]at hX;rw[← hX,← cz];exact (abi hna).symm
    rw[cU];exact List.Perm.append_left _ H4
   have ab:k<nx.length:=by omega
   obtain⟨z,hz⟩:∃z,nx[k]=z:=⟨_,rfl⟩
   have fi:=wZ z (hz▸bU ab);refine aF.mk rfl (aY.mk z (by omega) ((get_some ab).trans (congrArg some hz)) ?_);have hih:=fun σ=>ih (deep+1) (by omega) (by omega) z (met++[a]++o) v1 a1 σ fi hN h1;rw[← xd]at hih;refine .mk [] _ (hih _) ?_;rintro _ _ ⟨more,rfl,rfl,tJ,yJ⟩;have DK:=tJ.len;rw[bB]at DK;refine eS a1 h2 (.ae (.int .i64) more rfl) (by rw[← ia,rM];exact (dH _).symm) (show o.length+more.length≤1048576 by omega) (by decide) (by decide) (fun sh sI sw=>?_);refine eS [] h1 (.ae (.int .i64) more rfl) (by rw[← ia,rM];exact (dH _).symm) (show (met++[a]++o).length+more.length≤1048576 by omega) (by decide) (by decide) (fun C8 Bb HF=>?_);refine aM (k+1,o++more,C8,Bb,sh,sI) (by show nx.length-(k+1)<nx.length-k;omega) ⟨⟨ab,?_,?_,?_⟩,?_⟩ ⟨rfl,rfl,rfl,rfl,rfl,rfl,rfl,rfl,aI (by omega),trivial⟩ (.refl _)
   ·show jx n (met++[a]++(o++more));rw[← cU];exact tJ
   ·show Acc 1 (met++[a]++(o++more)).length C8 Bb (aj (met++[a]++(o++more)));rw[← cU,bB (bs:=more),aj,cE (l₂:=more)];rw[← ia]at HF;exact HF
   ·show Acc 1 (o++more).length sh sI (aj (o++more));rw[bB,aj,cE];rw[← ia]at sw;exact sw
   ·show dB (au n l) f nx (met++[a])=(o++more)++dB (au n l) f (nx.drop (k+1)) (met++[a]++(o++more));rw[hX,tQ ab,hz,Z2,← yJ];simp only[cU]
theorem acV(n:Nat)(l:List aO)(fr:List Int)(σ:Hp)(hl:l.length≤100000)(hn:n≤256)(hf:fr.length≤100000)(iI:∀z∈fr,0≤z∧z<n):ACalls Tryz.prog 248 [.int .i64 n,.ae cg l,.ae (.int .i64) fr] σ (fun r σ'=>r=.ae (.int .i64) (jU n l fr)∧σ'=σ∧jx n (jU n l fr)):=by
 refine ao Tryz.func248 ?_;refine .wrap 7 _ rfl rfl ?_;refine bc (S:=Nat×List Int×AV×Hp) (fun s=>[(0,.int .i64 n),(1,.ae cg l),(7,.via s.2.2.1),(11,.ae (.int .i64) fr),(12,.int .i64 fr.length),(13,.int .i64 s.1)]) (fun s=>s.2.2.2++σ) (fun s=>s.1≤fr.length∧(jx n s.2.1∧s.2.1=lN n (au n l) (fr.take s.1))∧Acc 1 s.2.1.length s.2.2.1 s.2.2.2 (aj s.2.1)) (fun s=>fr.length-s.1) (0,[],.ag,[]) ⟨⟨aV _,⟨jx.nil n,rfl⟩,.nil⟩,⟨rfl,rfl,rfl,rfl,rfl,rfl,trivial⟩,rfl⟩ ?_;rintro⟨k,o,v,acc⟩ g ⟨aK,⟨xl,l6⟩,h0⟩;have hX:o=lN n (au n l) (fr.take k):=l6;have hk:k≤fr.length:=aK;have hN:jx n o:=xl;have h:Acc 1 o.length v acc (aj o):=h0;clear aK xl h0;refine ai (p:=(k:Int)<(fr.length:Int)) (fun ab=>?_) (fun ak=>?_)
 ·have ab:k<fr.length:=by omega
  obtain⟨z,hz⟩:∃z,fr[k]=z:=⟨_,rfl⟩
  have fi:=iI z (hz▸bU ab);refine aF.mk rfl (aY.mk z (by omega) ((get_some ab).trans (congrArg some hz)) ?_);refine .mk [] _ (Rr n l hl hn (n+1) 0 rfl (aV _) z o v acc _ fi hN h) ?_;rintro _ _ ⟨more,rfl,rfl,tJ,yJ⟩;have DK:=tJ.len;rw[bB]at DK;refine eS [] h (.ae (.int .i64) more rfl) (by rw[← ia,rM];exact (dH _).symm) (show o.length+more.length≤1048576 by omega) (by decide) (by decide) (fun sh sI sw=>?_);refine aM (k+1,o++more,sh,sI) (by show fr.length-(k+1)<fr.length-k;omega) ⟨ab,⟨tJ,by show o++more=lN n (au n l) (fr.take (k+1));rw[eM ab,EE,← hX,hz,yJ]⟩,?_⟩ ⟨rfl,rfl,rfl,rfl,rfl,aI (by omega),trivial⟩ (.refl _);show Acc 1 (o++more).length sh sI (aj (o++more));rw[bB,aj,cE];rw[← ia]at sw;exact sw
 ·refine bc (S:=Nat×List Int×AV×Hp) (fun s=>[(0,.int .i64 n),(1,.ae cg l),(7,.via s.2.2.1),(10,.int .i64 s.1)]) (fun s=>s.2.2.2++σ) (fun s=>s.1≤n∧(jx n s.2.1∧s.2.1=lN n (au n l) (fr++(List.range s.1).map fun a:Nat=>(a:Int)))∧Acc 1 s.2.1.length s.2.2.1 s.2.2.2 (aj s.2.1)) (fun s=>n-s.1) (0,o,v,acc) ⟨⟨Nat.zero_le _,⟨hN,by have ak:¬(k:Int)<(fr.length:Int):=ak;rw[List.take_of_length_le (by omega)]at hX;show o=lN n (au n l) (fr++(List.range 0).map fun a:Nat=>(a:Int));rw[hX];simp⟩,h⟩,⟨rfl,rfl,rfl,rfl,trivial⟩,rfl⟩ ?_;clear h hN hk ak hX;rintro⟨k,o,v,acc⟩ g ⟨aK,⟨xl,l6⟩,h0⟩;have hX:o=lN n (au n l) (fr++(List.range k).map fun a:Nat=>(a:Int)):=l6;have hk:k≤n:=aK;have hN:jx n o:=xl;have h:Acc 1 o.length v acc (aj o):=h0;clear aK xl h0;refine ai (p:=(k:Int)<(n:Int)) (fun ab=>?_) (fun ak=>?_)
  ·have ab:k<n:=by omega
   refine .mk [] _ (Rr n l hl hn (n+1) 0 rfl (aV _) k o v acc _ (by omega) hN h) ?_;rintro _ _ ⟨more,rfl,rfl,tJ,yJ⟩;have DK:=tJ.len;rw[bB]at DK;refine eS [] h (.ae (.int .i64) more rfl) (by rw[← ia,rM];exact (dH _).symm) (show o.length+more.length≤1048576 by omega) (by decide) (by decide) (fun sh sI sw=>?_);refine aM (k+1,o++more,sh,sI) (by show n-(k+1)<n-k;omega) ⟨ab,⟨tJ,by show o++more=lN n (au n l) (fr++(List.range (k+1)).map fun a:Nat=>(a:Int));rw[pz,cE,← cU,show List.map (fun a:Nat=>(a:Int)) [k]=[(k:Int)] from rfl,EE,← hX,yJ]⟩,?_⟩ ⟨rfl,rfl,rfl,aI (by omega),trivial⟩ (.refl _);show Acc 1 (o++more).length sh sI (aj (o++more));rw[bB,aj,cE];rw[← ia]at sw;exact sw
  ·have ak:¬(k:Int)<(n:Int):=ak;have gF:k=n:=by omega
   subst gF;have hX:o=jU k l fr:=hX;rw[← hX];exact lH (s:=.int .i64) [] h rfl (ia _) (by decide) (.done ⟨rfl,rfl,hN⟩)
theorem aaM(n:Nat)(l:List aO)(fr:List Int)(σ:Hp)(hl:l.length≤100000)(hn:n≤256)(hf:fr.length≤100000)(iI:∀z∈fr,0≤z∧z<n):ACalls Tryz.prog 198 [.int .i64 n,.ae cg l,.ae (.int .i64) fr] σ (fun r σ'=>r=.ae (.int .i64) (lj n (jU n l fr))∧σ'=σ):=by
 refine ao Tryz.func198 ?_;refine a8 ?_;intro bq;refine .mk [] _ (acV n l fr _ hl hn hf iI) ?_;rintro _ τ ⟨rfl,wY,hN⟩;subst τ;have hA:iu n (jU n l fr):=⟨hN.1,hN.2,fun x hx=>Py hx⟩
 generalize jU n l fr=po at hN hA;have hlen:=hA.len;have lu:=hN.len;refine bc (S:=Nat) (fun s=>[(0,.int .i64 n),(7,.af bq 0 n 1),(15,.ae (.int .i64) po),(16,.int .i64 po.length),(17,.int .i64 s)]) (fun s=>(bq,aj (nh n po s))::σ) (fun s=>s≤po.length) (fun s=>po.length-s) 0 ⟨aV _,⟨rfl,rfl,rfl,rfl,rfl,trivial⟩,by rw[show aj (nh n po 0)=cP [.int .i64 0] n from (ua n).symm];rfl⟩ ?_;intro i g hi;have hi:i≤po.length:=hi;have ho:=sN n po i;refine ai (p:=(i:Int)<(po.length:Int)) (fun ab=>?_) (fun ak=>?_);rotate_left
 ·have ak:po.length=i:=by omega
  subst ak;refine .cb 0 bq 0 n 1 _ (.int .i64) (lj n po) rfl (by rw[fy,dZ (by rw[lF,sN,dH];exact bg _),hlen];exact ia _) ⟨sN n po n,rfl,by decide⟩ .here (.done ⟨rfl,rfl⟩)
 have ab:i<po.length:=by omega
 have fi:=hN.2 _ (bU ab);have hv:IntKind.i64.wrap (IntKind.i64.wrap ((n:Int)-1)-(i:Int))=(n:Int)-1-(i:Int):=by rw[IntKind.wrap_i64,IntKind.wrap_i64];omega
 have iV:nh n po (i+1)=(nh n po i).set po[i].toNat ((n:Int)-1-(i:Int)):=by
  show (nh n po i).set (po.getD i 0).toNat _=_;rw[bK,bu ab];rfl
 refine aF.mk rfl (aY.mk po[i] (by omega) (get_some ab) ?_);refine aH ?_;refine bM 0 rfl (lL rfl _ fi.1 (by omega)) ?_;exact aM (i+1) (by show po.length-(i+1)<po.length-i;omega) ab ⟨rfl,rfl,rfl,rfl,aI (by omega),trivial⟩ (aL (by rw[hv,← iV];rfl))
set_option maxHeartbeats 4000000
def pC(n:Nat)(l:List aO)(ps:List (List Int))(told:List Int):Prop:=∀f,nO n l (ps.length+f) ([],[])=nO n l f (ps,told)
theorem pC.nil(n:Nat)(l:List aO):pC n l [] []:=fun f=>by rw[List.length_nil,dD]
theorem pC.done{n:Nat}{l:List aO}{ps:List (List Int)}{told:List Int}(h:pC n l ps told)(hle:ps.length≤n)(hs:∀f,nO n l f (ps,told)=(ps,told)):ps=gv n l:=by
 unfold gv;have:=h (n+1-ps.length);rw[show ps.length+(n+1-ps.length)=n+1 by omega,hs]at this;rw[this]
theorem XV{n:Nat}{l:List aO}{ps:List (List Int)}{told:List Int}(h:¬told.length<n):∀f,nO n l f (ps,told)=(ps,told)
 | 0=>rfl
 |f+1=>by
  unfold nO;rw[aB h]
theorem XU{n:Nat}{l:List aO}{ps:List (List Int)}{told:List Int}(h:∀b,b<n→k8 n l told b=false):∀f,nO n l f (ps,told)=(ps,told)
 | 0=>rfl
 |f+1=>by
  unfold nO;split
  ·have:(List.range n).find? (k8 n l told)=none:=List.find?_eq_none.2 fun b hb=>by rw[h b (List.mem_range.1 hb)];simp
   show (match (List.range n).find? (k8 n l told) with | none=>(ps,told) | some a=>nO n l f (ps++[eI n l a],told++eI n l a))=_;rw[this]
  ·rfl
theorem pC.step{n:Nat}{l:List aO}{ps:List (List Int)}{told:List Int}{k:Nat}(h:pC n l ps told)(ht:told.length<n)(hk:k<n)(hc:∀b,b<k→k8 n l told b=false)(hb:k8 n l told k=true):pC n l (ps++[eI n l k]) (told++eI n l k):=fun f=>by
 have e:(List.range n).find? (k8 n l told)=some k:=OU hk hb hc;have:=h (f+1);rw[bB,show ps.length+[eI n l k].length+f=ps.length+(f+1) by show ps.length+1+f=_;omega,this];show (if told.length<n then (match (List.range n).find? (k8 n l told) with | none=>(ps,told) | some a=>nO n l f (ps++[eI n l a],told++eI n l a)) else (ps,told))=_;rw[az ht,e]
theorem IJ:∀{Q:List (List Int)},(∀p∈Q,0<p.length)→Q.length≤Q.flatten.length
 | [],_=>bg _
 |p::Q,h=>by
  have ih:=IJ (Q:=Q) fun q hq=>h q (dq _ hq);have:=h p (cF ..);rw[xv,bB,gH];omega
theorem lD.TE{n:Nat}{ps:List (List Int)}{told:List Int}(h:lD n ps told):ps.length≤n:=by
 rcases px ps.length with h0 | h0
 ·omega
 ·have h1:=h.ahead (ps.length-1) (by omega);have h2:=IJ (Q:=ps.take (ps.length-1)) fun p hp=>(h.ne p (List.mem_of_mem_take hp)).1;rw[oh]at h2;omega
theorem Uc(n:Nat)(l:List aO)(σ:Hp)(hl:l.length≤100000)(hn:n≤256):ACalls Tryz.prog 197 [.int .i64 n,.ae cg l] σ (fun r σ'=>r=.ae (.slice (.int .i64)) (gv n l)∧σ'=σ∧∃told,lD n (gv n l) told):=by
 refine ao Tryz.func197 ?_;refine .wrap 5 _ rfl rfl ?_;refine .wrap 6 _ rfl rfl ?_
 have na:∀s:Eo,G7 n s→s.1.length≤n→pC n l s.1 s.2.2.2.1→(∀f,nO n l f (s.1,s.2.2.2.1)=(s.1,s.2.2.2.1))→Fin (fun r σ'=>r=.ae (.slice (.int .i64)) (gv n l)∧σ'=σ∧∃told,lD n (gv n l) told) s.2.1 (LP s σ):=fun s ⟨h1,h2,h3⟩ hle hx hs=>
  lH (s:=.slice (.int .i64)) [] h2 rfl (ub _) (by decide) (OV s.2.2.2.2.2 (.done ⟨by rw[hx.done hle hs],rfl,s.2.2.2.1,(hx.done hle hs)▸h1⟩))
 refine bc (S:=Eo) (fun s=>[(0,.int .i64 n),(1,.ae cg l),(5,.via s.2.1),(6,.via s.2.2.2.2.1)]) (fun s=>LP s σ) (fun s=>G7 n s∧pC n l s.1 s.2.2.2.1) (fun s=>n-s.2.2.2.1.length) ([],.ag,[],[],.ag,[]) ⟨⟨⟨lD.nil n,.nil,.nil⟩,pC.nil n l⟩,⟨rfl,rfl,rfl,rfl,trivial⟩,rfl⟩ ?_;rintro⟨ps,v1,a1,lM,v2,a2⟩ g ⟨⟨DN,xp,xo⟩,l6⟩;have hX:pC n l ps lM:=l6;clear l6;have hI:lD n ps lM:=DN;have h1:Acc 1 ps.length v1 a1 (cD ps):=xp;have h2:Acc 1 lM.length v2 a2 (aj lM):=xo;clear DN xp xo;have MR:=h2;generalize dR:lM.length=k2 at MR;generalize vw:aj lM=c2 at MR;cases MR
 all_goals
  first | subst vw | clear vw
  refine ai (fun c=>?_) (fun c=>?_);rotate_left
  ·exact na (ps,v1,a1,lM,_,_) ⟨hI,h1,h2⟩ hI.TE hX (XV (ps:=ps) (told:=lM) (by first | (have c:¬(0:Int)<n:=c;omega) | (have c:¬((k2:Nat):Int)<n:=c;omega)))
  have ab:lM.length<n:=by first | (have c:(0:Int)<n:=c;omega) | (have c:((k2:Nat):Int)<n:=c;omega)
  clear c dR;refine bc (S:=Nat×Bool×Eo) (fun s=>[(0,.int .i64 n),(1,.ae cg l),(5,.via s.2.2.2.1),(6,.via s.2.2.2.2.2.2.1),(7,.bool s.2.1),(8,.int .i64 s.1)]) (fun s=>LP s.2.2 σ) (fun s=>s.1≤n∧(G7 n s.2.2∧pC n l s.2.2.1 s.2.2.2.2.2.1∧(s.2.1=false→∀b,b<s.1→k8 n l s.2.2.2.2.2.1 b=false))∧(s.2.1=false→s.2.2.2.2.2.1.length=lM.length)∧(s.2.1=true→lM.length<s.2.2.2.2.2.1.length)) (fun s=>n-s.1) (0,false,ps,v1,a1,lM,_,_) ⟨⟨aV _,⟨⟨hI,h1,h2⟩,hX,fun _ b hb=>absurd hb (vH b)⟩,fun _=>rfl,fun h=>by cases h⟩,⟨rfl,rfl,rfl,rfl,rfl,rfl,trivial⟩,rfl⟩ ?_;clear h1 h2 hI hX;rintro⟨k,Ik,ps,v1,a1,told,v2,a2⟩ g2 ⟨aK,⟨⟨DN,xp,xo⟩,l6,hC0⟩,hf0,gO⟩;have hX:pC n l ps told:=l6;have hC:Ik=false→∀b,b<k→k8 n l told b=false:=hC0;clear l6 hC0;have hk:k≤n:=aK;have hI:lD n ps told:=DN;have h1:Acc 1 ps.length v1 a1 (cD ps):=xp;have h2:Acc 1 told.length v2 a2 (aj told):=xo;have hf:Ik=false→told.length=lM.length:=hf0;have ht:Ik=true→lM.length<told.length:=gO;clear aK DN xp xo hf0 gO;cases Ik with
  |true=>
   have yI:=ht rfl;refine ai (fun c1=>?_) (fun c1=>?_)
   all_goals exact aM (ps,v1,a1,told,v2,a2) (by show n-told.length<n-lM.length;omega) ⟨⟨hI,h1,h2⟩,hX⟩ ⟨rfl,rfl,rfl,rfl,trivial⟩ (.refl _)
  |false=>
   have jc:=hf rfl;clear hf ht;have hC:=hC rfl;have yI:=hI.uH;have lu:=hI.Lc;refine ai (p:=(k:Int)<(n:Int)) (fun c1=>?_) (fun c1=>?_);rotate_left
   ·exact na (ps,v1,a1,told,v2,a2) ⟨hI,h1,h2⟩ hI.TE hX (XU (fun b hb=>hC b (by omega)))
   have gF:k<n:=by omega
   have w9:=X2 (l:=l) gF;have re:=VP n l k;have pc:(eI n l k)[((0:Int)).toNat]?=some ((eI n l k).headD 0):=J0 w9;have cz:k8 n l told k=false→k+1≤n∧(G7 n (ps,v1,a1,told,v2,a2)∧pC n l ps told∧((false:Bool)=false→∀b,b<k+1→k8 n l told b=false))∧((false:Bool)=false→told.length=lM.length)∧((false:Bool)=true→lM.length<told.length):=fun hc=>⟨gF,⟨⟨hI,h1,h2⟩,hX,fun _ b hb=>(Nat.lt_succ_iff_lt_or_eq.1 hb).elim (hC b) fun e=>e▸hc⟩,fun _=>jc,fun h=>by cases h⟩
   refine aw [] (aeu n l k _ hl (by omega)) ?_;refine aF.mk rfl (aY.mk _ (by decide) pc ?_);refine ai (p:=(eI n l k).headD 0=(k:Int)) (fun c2=>?_) (fun c2=>?_);rotate_left
   ·exact aM (k+1,false,ps,v1,a1,told,v2,a2) (by show n-(k+1)<n-k;omega) (cz (by unfold k8;rw[cp c2];rfl)) ⟨rfl,rfl,rfl,rfl,rfl,aI (by omega),trivial⟩ (.refl _)
   refine Cb a1 (fun σ=>GC told k σ (by omega) h2) (fun c3=>?_) (fun c3=>?_)
   ·exact aM (k+1,false,ps,v1,a1,told,v2,a2) (by show n-(k+1)<n-k;omega) (cz (by unfold k8;rw[show iH told k=true from c3];simp)) ⟨rfl,rfl,rfl,rfl,rfl,aI (by omega),trivial⟩ (.refl _)
   refine Cb a1 (fun σ=>aez l (eI n l k) told σ hl (by omega) (by omega) h2) (fun c4=>?_) (fun c4=>?_);rotate_left
   ·exact aM (k+1,false,ps,v1,a1,told,v2,a2) (by show n-(k+1)<n-k;omega) (cz (by unfold k8;rw[show qM l (eI n l k) told=false from c4];simp)) ⟨rfl,rfl,rfl,rfl,rfl,aI (by omega),trivial⟩ (.refl _)
   intro ax;refine eS [_] h1 (.af 0 ax 0 1 _ rfl (cj rfl)) rfl (by omega) (by decide) (by decide) (fun C8 Bb HF=>?_);refine eS ((ax,[AV.ae (.int .i64) (eI n l k)])::Bb) h2 (.ae (.int .i64) (eI n l k) rfl) (by rw[← ia,rM];exact (dH _).symm) (show told.length+(eI n l k).length≤1048576 by omega) (by decide) (by decide) (fun sh sI sw=>?_);refine aM (k+1,true,ps++[eI n l k],C8,Bb,told++eI n l k,sh,sI) (by show n-(k+1)<n-k;omega) ⟨gF,⟨⟨hI.snoc (by omega) w9 re (fun z hz=>abI hz),?_,?_⟩,hX.step (by omega) gF hC (by unfold k8;rw[aX c2,show iH told k=false from c3,show qM l (eI n l k) told=true from c4];rfl),fun h=>by cases h⟩,(fun h=>by cases h),fun _=>?_⟩ ⟨rfl,rfl,rfl,rfl,rfl,aI (by omega),trivial⟩ (.drop 0 1 (aL rfl))
   ·show Acc 1 (ps++[eI n l k]).length C8 Bb (cD (ps++[eI n l k]));rw[show cD (ps++[eI n l k])=cD ps++[.ae (.int .i64) (eI n l k)] from cE,bB];exact HF
   ·show Acc 1 (told++eI n l k).length sh sI (aj (told++eI n l k));rw[aj,cE,bB];rw[← ia]at sw;exact sw
   ·show lM.length<(told++eI n l k).length;rw[bB];omega
set_option maxHeartbeats 4000000
def o8(n:Nat)(rk p:List Int):List Int:=(List.range n).flatMap fun k:Nat=>p.filter fun a=>decide (rk.getD a.toNat 0=(k:Int))
def wz(n:Nat)(l:List aO)(fr:List Int):List Int:=(gv n l).flatMap (o8 n (lj n (jU n l fr)))
theorem aaO(n:Nat)(l:List aO)(fr:List Int)(σ:Hp)(hl:l.length≤100000)(hn:n≤256)(hf:fr.length≤100000)(iI:∀z∈fr,0≤z∧z<n):ACalls Tryz.prog 147 [.int .i64 n,.ae cg l,.ae (.int .i64) fr] σ (fun r σ'=>r=.ae (.int .i64) (wz n l fr)∧σ'=σ∧(wz n l fr).length≤131072∧∀z∈wz n l fr,0≤z∧z<(n:Int)):=by
 refine ao Tryz.func147 ?_;refine .mk [] _ (aaM n l fr _ hl hn hf iI) ?_;rintro _ τ ⟨rfl,wY⟩;subst τ;refine .mk [] _ (Uc n l _ hl hn) ?_;rintro _ τ ⟨rfl,wY,told,hI⟩;subst τ;unfold wz;have hrk:(lj n (jU n l fr)).length=n:=sN _ _ _;generalize lj n (jU n l fr)=rk at hrk;generalize gv n l=ps at hI;have lu:=hI.Lc;refine .wrap 8 _ rfl rfl ?_;refine bc (S:=Is) (fun s=>[(0,.int .i64 n),(7,.ae (.int .i64) rk),(8,.via s.2.2.1),(20,.ae (.slice (.int .i64)) ps),(21,.int .i64 ps.length),(22,.int .i64 s.1)]) (fun s=>s.2.2.2++σ) (fun s=>s.1≤ps.length∧LG n (n*(ps.take s.1).flatten.length) s∧s.2.1=(ps.take s.1).flatMap (o8 n rk)) (fun s=>ps.length-s.1) (0,[],.ag,[]) ⟨⟨aV _,⟨⟨aV _,fun _ h=>(sC h).elim⟩,.nil⟩,rfl⟩,⟨rfl,rfl,rfl,rfl,rfl,rfl,trivial⟩,rfl⟩ ?_;rintro⟨i,o,v,acc⟩ g ⟨dK,⟨⟨xn,l0⟩,h0⟩,l6⟩;have hX:o=(ps.take i).flatMap (o8 n rk):=l6;have hi:i≤ps.length:=dK;have hB:o.length≤n*(ps.take i).flatten.length:=xn;have hz:∀z∈o,0≤z∧z<n:=l0;have h:Acc 1 o.length v acc (aj o):=h0;clear dK xn l0 h0;refine ai (p:=(i:Int)<(ps.length:Int)) (fun ab=>?_) (fun ak=>?_);rotate_left
 ·refine lH (s:=.int .i64) [] h rfl (ia _) (by decide) (.done ?_);obtain rfl:i=ps.length:=by omega
  rw[er]at hX;refine⟨congrArg (AV.ae (.int .i64)) hX,rfl,by rw[← hX];refine dE hB ?_;rw[er,← hI.told];exact dE (oe hn hI.uH) (by omega),by rw[← hX];exact hz⟩
 have ab:i<ps.length:=by omega
 have hah:=hI.ahead i ab;have htf:=Wr ab;have re:=hI.node ps[i] (bU ab);have GR:=(hI.ne ps[i] (bU ab)).2;obtain⟨p,hp⟩:∃p,ps[i]=p:=⟨_,rfl⟩
 rw[hp]at htf re GR;refine aF.mk rfl (aY.mk p (by omega) ((get_some ab).trans (congrArg some hp)) ?_);have hA:n*(ps.take i).flatten.length≤65536:=dE (oe hn (Nat.le_of_lt hah)) (by omega);have DO:n*(ps.take (i+1)).flatten.length=n*(ps.take i).flatten.length+n*p.length:=by rw[htf,Nat.mul_add]
 have hnp:n*p.length≤65536:=dE (oe hn GR) (by omega);generalize n*(ps.take i).flatten.length=A at hB hA DO;have eH:(ps.take (i+1)).flatMap (o8 n rk)=(ps.take i).flatMap (o8 n rk)++o8 n rk p:=by rw[List.take_succ_eq_append_getElem ab,List.flatMap_append,hp];simp
 generalize (ps.take i).flatMap (o8 n rk)=O at hX eH;refine bc (S:=Is) (fun s=>[(0,.int .i64 n),(7,.ae (.int .i64) rk),(8,.via s.2.2.1),(10,.ae (.int .i64) p),(11,.int .i64 s.1),(20,.ae (.slice (.int .i64)) ps),(21,.int .i64 ps.length),(22,.int .i64 i)]) (fun s=>s.2.2.2++σ) (fun s=>s.1≤n∧LG n (A+s.1*p.length) s∧s.2.1=O++(List.range s.1).flatMap fun k:Nat=>p.filter fun a=>decide (rk.getD a.toNat 0=(k:Int))) (fun s=>n-s.1) (0,o,v,acc) ⟨⟨aV _,⟨⟨by show o.length≤A+0*p.length;omega,hz⟩,h⟩,by show o=O++[];rw[fC];exact hX⟩,⟨rfl,rfl,rfl,rfl,rfl,rfl,rfl,rfl,trivial⟩,rfl⟩ ?_;clear h hz hB hX;rintro⟨k,o,v,acc⟩ g2 ⟨aK,⟨⟨xn,l0⟩,h0⟩,l6⟩;have hX:o=O++(List.range k).flatMap fun k:Nat=>p.filter fun a=>decide (rk.getD a.toNat 0=(k:Int)):=l6;have hk:k≤n:=aK;have hB:o.length≤A+k*p.length:=xn;have hz:∀z∈o,0≤z∧z<n:=l0;have h:Acc 1 o.length v acc (aj o):=h0;clear aK xn l0 h0;refine ai (p:=(k:Int)<(n:Int)) (fun da=>?_) (fun jl=>?_);rotate_left
 ·obtain rfl:k=n:=by omega
  exact aM (i+1,o,v,acc) (by show ps.length-(i+1)<ps.length-i;omega) ⟨ab,⟨⟨by show o.length≤k*(ps.take (i+1)).flatten.length;omega,hz⟩,h⟩,by show o=(ps.take (i+1)).flatMap (o8 k rk);rw[eH];exact hX⟩ ⟨rfl,rfl,rfl,rfl,rfl,aI (by omega),trivial⟩ (.refl _)
 have da:k<n:=by omega
 have hkp:(k+1)*p.length=k*p.length+p.length:=rD _ _;have ags:(k+1)*p.length≤n*p.length:=nt _ da;generalize (k+1)*p.length=Y2 at hkp ags;have Uo:O++(List.range (k+1)).flatMap (fun k:Nat=>p.filter fun a=>decide (rk.getD a.toNat 0=(k:Int)))=(O++(List.range k).flatMap fun k:Nat=>p.filter fun a=>decide (rk.getD a.toNat 0=(k:Int)))++p.filter fun a=>decide (rk.getD a.toNat 0=(k:Int)):=by rw[List.range_succ,List.flatMap_append,List.append_assoc];simp
 generalize (O++(List.range k).flatMap fun k:Nat=>p.filter fun a=>decide (rk.getD a.toNat 0=(k:Int)))=O2 at hX Uo;refine bc (S:=Is) (fun s=>[(0,.int .i64 n),(7,.ae (.int .i64) rk),(8,.via s.2.2.1),(10,.ae (.int .i64) p),(11,.int .i64 k),(20,.ae (.slice (.int .i64)) ps),(21,.int .i64 ps.length),(22,.int .i64 i),(31,.ae (.int .i64) p),(32,.int .i64 p.length),(33,.int .i64 s.1)]) (fun s=>s.2.2.2++σ) (fun s=>s.1≤p.length∧LG n (A+k*p.length+s.1) s∧s.2.1=O2++(p.take s.1).filter fun a=>decide (rk.getD a.toNat 0=(k:Int))) (fun s=>p.length-s.1) (0,o,v,acc) ⟨⟨aV _,⟨⟨hB,hz⟩,h⟩,by show o=O2++[];rw[fC];exact hX⟩,⟨rfl,rfl,rfl,rfl,rfl,rfl,rfl,rfl,rfl,rfl,rfl,trivial⟩,rfl⟩ ?_;clear h hz hB hX;rintro⟨j,o,v,acc⟩ g3 ⟨gx,⟨⟨xn,l0⟩,h0⟩,l6⟩;have hX:o=O2++(p.take j).filter fun a=>decide (rk.getD a.toNat 0=(k:Int)):=l6;have hj:j≤p.length:=gx;have hB:o.length≤A+k*p.length+j:=xn;have hz:∀z∈o,0≤z∧z<n:=l0;have h:Acc 1 o.length v acc (aj o):=h0;clear gx xn l0 h0;refine ai (p:=(j:Int)<(p.length:Int)) (fun yu=>?_) (fun hge3=>?_);rotate_left
 ·obtain rfl:j=p.length:=by omega
  exact aM (k+1,o,v,acc) (by show n-(k+1)<n-k;omega) ⟨da,⟨⟨by show o.length≤A+(k+1)*p.length;rw[rD];omega,hz⟩,h⟩,by show o=O++(List.range (k+1)).flatMap fun k:Nat=>p.filter fun a=>decide (rk.getD a.toNat 0=(k:Int));rw[Uo];rw[er]at hX;exact hX⟩ ⟨rfl,rfl,rfl,rfl,aI (by omega),rfl,rfl,rfl,trivial⟩ (.refl _)
 have yu:j<p.length:=by omega
 obtain⟨z,Hu⟩:∃z,p[j]=z:=⟨_,rfl⟩
 have fi:=re z (Hu▸bU yu);refine aF.mk rfl (aY.mk z (by omega) ((get_some yu).trans (congrArg some Hu)) ?_);refine aF.mk rfl (aY.mk (rk.getD z.toNat 0) (by omega) (S3 (by omega)) ?_);refine ai (p:=rk.getD z.toNat 0=(k:Int)) (fun c=>?_) (fun c=>?_)
 ·intro ax;refine eS [_] h (.af 0 ax 0 1 _ rfl (cj rfl)) rfl (by omega) (by decide) (by decide) (fun v' aJ h'=>?_);have jn:(o++[z]:List Int).length=o.length+1:=bB;have hoc:aj (o++[z])=aj o++[.int .i64 z]:=cE;refine aM (j+1,o++[z],v',aJ) (by show p.length-(j+1)<p.length-j;omega) ⟨yu,⟨⟨dE (vG jn) (by omega),fun y hy=>?_⟩,?_⟩,?_⟩ ⟨rfl,rfl,rfl,rfl,rfl,rfl,rfl,rfl,rfl,rfl,aI (by omega),trivial⟩ (.drop 0 1 (aL rfl))
  ·rcases bQ.1 hy with hy | hy
   ·exact hz y hy
   ·rw[bj.1 hy];exact fi
  ·show Acc 1 (o++[z]:List Int).length v' aJ (aj (o++[z]));rw[jn,hoc];exact h'
  ·show o++[z]=O2++(p.take (j+1)).filter fun a=>decide (rk.getD a.toNat 0=(k:Int));rw[List.take_succ_eq_append_getElem yu,List.filter_append,Hu,hX,List.append_assoc,List.filter_cons,if_pos (by simpa using c),List.filter_nil]
 ·exact aM (j+1,o,v,acc) (by show p.length-(j+1)<p.length-j;omega) ⟨yu,⟨⟨by show o.length≤A+k*p.length+(j+1);omega,hz⟩,h⟩,by show o=O2++(p.take (j+1)).filter fun a=>decide (rk.getD a.toNat 0=(k:Int));rw[List.take_succ_eq_append_getElem yu,List.filter_append,Hu,List.filter_cons,if_neg (by simpa using c),List.filter_nil,List.append_nil];exact hX⟩ ⟨rfl,rfl,rfl,rfl,rfl,rfl,rfl,rfl,rfl,rfl,aI (by omega),trivial⟩ (.refl _)
set_option maxHeartbeats 4000000
theorem iu.rk{n:Nat}{p:List Int}(h:iu n p)(hn:n≤1000):sd n (lj n p):=by
 have hl:=h.len
 have key:∀i:Nat,i<n→∃j:Nat,p[j]?=some (i:Int)∧j<n∧(lj n p).getD i 0=(n:Int)-1-(j:Int):=fun i hi=>by
  obtain⟨j,hj⟩:=A2 (h.all i ⟨by omega,by omega⟩);have rj:=(cW.1 hj).1;have:=SK h hj;rw[bD]at this;exact⟨j,hj,by omega,this⟩
 refine⟨sN n p n,fun i hi=>?_,fun i j hi hj e=>?_⟩
 ·obtain⟨k,_,hk,e⟩:=key i hi;omega
 ·obtain⟨k,h1,_,e1⟩:=key i hi;obtain⟨m,h2,_,e2⟩:=key j hj;have:k=m:=by omega
  subst this;rw[h1]at h2;have:=Option.some.inj h2;omega
def wC(n:Nat)(p:List Int):List (mG n):=p.filterMap fun x=>if h:0≤x∧x<(n:Int) then some ⟨x,h⟩ else none
theorem EO{n:Nat}:∀{p:List Int},(∀x∈p,0≤x∧x<(n:Int))→iT (wC n p)=p
 | [],_=>rfl
 |x::p,h=>by
  have hx:=h x (cF ..);have ih:=EO (p:=p) fun y hy=>h y (dq _ hy);unfold wC at ih ⊢;rw[List.filterMap_cons,dif_pos hx];show x::iT _=_;rw[ih]
def eE(n:Nat)(rk:List Int)(p:List Int):List Int:=iT (s4 rk (wC n p))
theorem Bt{n:Nat}{rk p:List Int}(h:∀x∈p,0≤x∧x<(n:Int)):(eE n rk p).Perm p:=by
 have h1:(iT (s4 rk (wC n p))).Perm (iT (wC n p)):=List.Perm.map _ (List.mergeSort_perm _ _);rw[EO h]at h1;exact h1
theorem VE{n:Nat}{rk p:List Int}(h:∀x∈p,0≤x∧x<(n:Int)):(eE n rk p).length=p.length:=(Bt h).length_eq
def qZ(n:Nat)(l:List aO)(fr:List Int):List Int:=(gv n l).flatMap (eE n (lj n (jU n l fr)))
def qb(n:Nat)(rk:List Int)(rw:List (Nat×List Int))(k:Nat):List (Nat×List Int):=(rw.take k).map (fun r=>(r.1,eE n rk r.2))++rw.drop k
theorem aaG(n:Nat)(rk:List Int)(b bk:Nat)(p:List Int)(σ:Hp)(hr:sd n rk)(hp:∀x∈p,0≤x∧x<(n:Int))(h0:0<p.length)(hl:p.length≤1000000):ACalls Tryz.prog 259 [.af b 0 p.length 1,.fn (.func 260) [] [.ptr bk 0]] ((b,aj p)::(bk,[.ae (.int .i64) rk])::σ) (ay (.tup []) ((b,aj (eE n rk p))::(bk,[.ae (.int .i64) rk])::σ)):=by
 obtain⟨x,hx⟩:∃x,x∈p:=by
  match p,h0 with
  |x::_,_=>exact⟨x,cF ..⟩
 haveI:Inhabited (mG n):=⟨⟨x,hp x hx⟩⟩
 have e:(wC n p).length=p.length:=by
  have:=congrArg List.length (EO hp);rw[Be]at this;exact this
 have h:=Y5 n rk b bk (wC n p) p.length σ hr e h0 hl;rw[EO hp]at h;exact h
theorem adu{n:Nat}{rk:List Int}{rw:List (Nat×List Int)}{k b:Nat}{p:List Int}(h:rw[k]?=some (b,p)):(qb n rk rw k)[k]?=some (b,p)∧(qb n rk rw (k+1))[k]?=some (b,eE n rk p):=by
 have hk:=(cW.1 h).1;have hg:rw[k]=(b,p):=(cW.1 h).2;have hl:((rw.take k).map (fun r=>(r.1,eE n rk r.2))).length=k:=by rw[cN,oh];omega
 refine⟨?_,?_⟩
 ·unfold qb;rw[iL (by omega),hl,l7,yY,vF];exact h
 ·unfold qb;rw[eM hk,cE,hg,cU,iL (by omega),hl,l7];rfl
theorem XR{n:Nat}{rk:List Int}{rw:List (Nat×List Int)}{k b:Nat}{p:List Int}(h:rw[k]?=some (b,p)):qb n rk rw k=(rw.take k).map (fun r=>(r.1,eE n rk r.2))++(b,p)::rw.drop (k+1)∧qb n rk rw (k+1)=(rw.take k).map (fun r=>(r.1,eE n rk r.2))++(b,eE n rk p)::rw.drop (k+1):=by
 have hk:=(cW.1 h).1;have hg:rw[k]=(b,p):=(cW.1 h).2;refine⟨?_,?_⟩
 ·unfold qb;rw[tQ hk,hg]
 ·unfold qb;rw[eM hk,cE,hg,cU];rfl
theorem Qw(A B:List (Nat×List Int))(b:Nat)(p:List Int)(x:Nat×List AV)(X σ:Hp):((b,aj p)::x::(X++(eL A++(eL B++σ)))).Perm (x::(X++(eL (A++(b,p)::B)++σ))):=by
 have e:eL (A++(b,p)::B)++σ=eL A++((b,aj p)::(eL B++σ)):=by
  unfold eL;rw[cE,cU];rfl
 rw[e];refine (List.Perm.swap _ _ _).trans (List.Perm.cons _ ?_);exact (ns.symm).trans (List.Perm.append_left X ns.symm)
theorem iu.perm{n:Nat}{p q:List Int}(h:iu n p)(hp:q.Perm p):iu n q:=⟨hp.nodup_iff.2 h.nd,fun x hx=>h.rg x (hp.mem_iff.1 hx),fun x hx=>hp.mem_iff.2 (h.all x hx)⟩
theorem PV{n:Nat}{rk:List Int}:∀{Q:List (List Int)},(∀p∈Q,∀x∈p,0≤x∧x<(n:Int))→(Q.flatMap (eE n rk)).Perm Q.flatten
 | [],_=>List.Perm.nil
 |p::Q,h=>by
  rw[sD,xv];exact (Bt (h p (cF ..))).append (PV fun q hq=>h q (dq _ hq))
theorem n0.flat{n:Nat}{l:List aO}{P Q:List (List Int)}(h:n0 n l P)(hp:Q.Perm P):(∀p∈Q,p≠[])∧(∀p∈Q,∀x∈p,0≤x∧x<(n:Int))∧iu n Q.flatten:=by
 have hn:∀p∈Q,∀x∈p,0≤x∧x<(n:Int):=fun p hq=>h.ok.node p (hp.mem_iff.1 hq);refine⟨fun p hq=>h.ok.ne p (hp.mem_iff.1 hq),hn,(hp.flatten).nodup_iff.2 h.ok.nd,fun x hx=>?_,fun x hx=>?_⟩
 ·obtain⟨p,hq,ra⟩:=nr.1 hx;exact hn p hq x ra
 ·obtain⟨p,hq,ra⟩:=h.all x hx.1 hx.2;exact nr.2 ⟨p,hp.mem_iff.2 hq,ra⟩
theorem OK:∀{Q:List (List Int)},(∀p∈Q,p≠[])→Q.length≤Q.flatten.length
 | [],_=>bg _
 |p::Q,h=>by
  have ih:=OK (Q:=Q) fun q hq=>h q (dq _ hq);have:=l9.2 (h p (cF ..));rw[xv,bB,gH];omega
theorem acY(n:Nat)(l:List aO)(fr:List Int)(σ:Hp)(hl:l.length≤100000)(hf:fr.length≤100000)(ek:eA n l=true)(iI:∀x∈fr,0≤x∧x<(n:Int)):ACalls Tryz.prog 215 [.int .i64 n,.ae cg l,.ae (.int .i64) fr] σ (fun r σ'=>∃bo,r=.tup [.af bo 0 (qZ n l fr).length 1,.int .i64 0]∧σ'=(bo,aj (qZ n l fr))::σ∧iu n (qZ n l fr)∧(∀p∈gv n l,p≠[])∧iu n (gv n l).flatten∧iu n (jU n l fr)):=by
 have hn:1≤n∧n≤256:=by
  unfold eA at ek;simp only[bS,decide_eq_true_eq]at ek;omega
 refine ao Tryz.func215 ?_;refine .mk [] _ (aes n l fr _ hl hf ek iI) ?_;rintro _ τ ⟨rfl,wY,hA⟩;subst τ;have hR:=hA.rk (by omega);intro b8;refine ah 0 ?_;refine .mk [] _ (acP n l _ hl ek) ?_;rintro _ _ ⟨bo,eK,rfl,mw,rfl,P,bh,w9⟩;obtain⟨bf,rW,jc⟩:=bh.flat w9;have DP:iu n (qZ n l fr):=jc.perm (PV rW);unfold qZ at DP ⊢;generalize lj n (jU n l fr)=rk at hR DP;generalize gv n l=Q at mw bf rW DP jc;have hQl:eK.length=Q.length:=by rw[← mw,cN]
 have hlen:=DP.len
 have agh:∀p∈Q,p.length≤n:=fun p hp=>by
  have h1:p.Sublist Q.flatten:=M9 hp;have:=h1.length_le;have:=jc.len;omega
 have TP:eK.length≤n:=by
  have:=OK bf;have:=jc.len;omega
 have h0:qb n rk eK 0=eK:=by simp[qb]
 have hH:((b8,[AV.ae (.int .i64) rk])::(bo,fh eK)::(eL eK++([]++σ))).Perm ((bo,fh eK)::(eL eK++((b8,[AV.ae (.int .i64) rk])::σ))):=
  (List.Perm.swap _ _ _).trans (List.Perm.cons _ ns.symm)
 refine .wrap 11 .ag rfl rfl ?_;refine .dT (.perm hH (.refl _)) ?_;refine bc (S:=Nat×AV×Hp) (fun x=>[(8,.ptr b8 0),(9,.int .i64 0),(11,.via x.2.1),(30,.af bo 0 eK.length 1),(31,.int .i64 eK.length),(32,.int .i64 x.1)]) (fun x=>(b8,[.ae (.int .i64) rk])::(bo,fh eK)::(eL (qb n rk eK x.1)++(x.2.2++σ))) (fun x=>x.1≤eK.length∧Acc 1 ((Q.take x.1).flatMap (eE n rk)).length x.2.1 x.2.2 (aj ((Q.take x.1).flatMap (eE n rk)))) (fun x=>eK.length-x.1) (0,.ag,[]) ⟨⟨aV _,.nil⟩,⟨rfl,rfl,rfl,rfl,rfl,rfl,trivial⟩,by rw[h0]⟩ ?_;rintro⟨k,v,acc⟩ g ⟨hk,bF⟩;have hk:k≤eK.length:=hk;have bF:Acc 1 ((Q.take k).flatMap (eE n rk)).length v acc (aj ((Q.take k).flatMap (eE n rk))):=bF;refine ai (p:=(k:Int)<eK.length) (fun ab=>?_) (fun ak=>?_)
 ·have ab:k<eK.length:=by omega
  obtain⟨p,hp⟩:∃p,Q[k]?=some p:=⟨Q[k]'(by omega),bu (by omega)⟩
  obtain⟨bk,xe⟩:=Ch mw hp;have gb:=dz hp;have AE:=rW p gb;have pc:=l9.2 (bf p gb);have lu:=agh p gb;have bP:=VE (rk:=rk) AE;obtain⟨s1,s2⟩:=XR (n:=n) (rk:=rk) xe
  have eH:Q.take (k+1)=Q.take k++[p]:=by
   rw[eM (by omega)];rw[bu (by omega)]at hp;rw[Option.some.inj hp]
  have jn:((Q.take k).flatMap (eE n rk)).length+p.length≤n:=by
   have e:Q.flatMap (eE n rk)=(Q.take (k+1)).flatMap (eE n rk)++(Q.drop (k+1)).flatMap (eE n rk):=by rw[← sF,A6]
   have:=congrArg List.length e;rw[eH,List.flatMap_append,List.length_append,List.length_append,show [p].flatMap (eE n rk)=eE n rk p by simp]at this;omega
  refine aH ?_;refine aS 1 rfl (B7 rfl (by omega) (by rw[bD];exact xe)) ?_;rw[s1];refine .perm _ (Qw _ _ bk p (b8,[.ae (.int .i64) rk]) [(bo,fh eK)] (acc++σ)) (aaG n rk bk b8 p _ hR AE pc (by omega)) ?_;rintro _ _ ⟨rfl,rfl⟩;refine⟨_,(Qw _ _ bk (eE n rk p) (b8,[.ae (.int .i64) rk]) [(bo,fh eK)] (acc++σ)).symm,?_⟩;rw[← s2];have eQ:=(adu (n:=n) (rk:=rk) xe).2;refine eS (_::_::eL (qb n rk eK (k+1))) bF (.af (k+2) bk 0 p.length (aj (eE n rk p)) (FT eQ) (by rw[lF,bP];show 0+p.length*1≤_;omega)) ?_ (by omega) (by decide) (by decide) (fun v' aJ h'=>?_)
  ·show (List.take (p.length*1) (List.drop 0 (aj (eE n rk p)))).length=p.length*1;rw[oh,List.length_drop,lF,bP];omega
  ·refine aM (k+1,v',aJ) (by show eK.length-(k+1)<eK.length-k;omega) ⟨ab,?_⟩ ⟨rfl,rfl,rfl,rfl,rfl,aI (by omega),trivial⟩ (.refl _);have e:List.take (p.length*1) (List.drop 0 (aj (eE n rk p)))=aj (eE n rk p):=by rw[fy,dZ (by rw[lF,bP];omega)]
   have h2:Acc 1 (((Q.take k).flatMap (eE n rk)).length+p.length) v' aJ (aj ((Q.take k).flatMap (eE n rk))++List.take (p.length*1) (List.drop 0 (aj (eE n rk p)))):=h';rw[e,← bP,← bB,show aj ((Q.take k).flatMap (eE n rk))++aj (eE n rk p)=aj ((Q.take k).flatMap (eE n rk)++eE n rk p) by unfold aj;rw[cE]]at h2;show Acc 1 ((Q.take (k+1)).flatMap (eE n rk)).length v' aJ (aj ((Q.take (k+1)).flatMap (eE n rk)));rw[eH,List.flatMap_append,show [p].flatMap (eE n rk)=eE n rk p by simp];exact h2
 ·have ak:¬(k:Int)<eK.length:=ak;rw[dZ (by omega)]at bF;obtain⟨b,rfl,rfl⟩:=sS (by omega) bF;exact .drop 0 2 (Xb (eL (qb n rk eK k)) (.done ⟨b,rfl,rfl,DP,bf,jc,hA⟩))
theorem iu.rkn{n:Nat}{p:List Int}(h:iu n p){x:Int}(hx:0≤x∧x<(n:Int)):0≤(lj n p).getD x.toNat 0∧(lj n p).getD x.toNat 0<(n:Int):=by
 obtain⟨j,hj⟩:=A2 (h.all x hx);have rj:=(cW.1 hj).1;have:=SK h hj;have:=h.len;omega
theorem adC{n:Nat}{rk p:List Int}(hr:∀x∈p,0≤rk.getD x.toNat 0∧rk.getD x.toNat 0<(n:Int)){x:Int}:x∈o8 n rk p↔x∈p:=by
 unfold o8;rw[List.mem_flatMap];constructor
 ·rintro⟨k,_,hx⟩;exact (jK.1 hx).1
 ·intro hx;have:=hr x hx;exact⟨(rk.getD x.toNat 0).toNat,gP.2 (by omega),jK.2 ⟨hx,aX (by omega)⟩⟩
theorem X1{n:Nat}{rk p:List Int}(hn:p.Nodup)(agu:∀x∈p,∀y∈p,rk.getD x.toNat 0=rk.getD y.toNat 0→x=y):(o8 n rk p).Pairwise fun x y=>rk.getD x.toNat 0<rk.getD y.toNat 0:=by
 unfold o8;rw[List.pairwise_flatMap];refine⟨fun k _=>?_,?_⟩
 ·refine List.Pairwise.imp_of_mem (fun {x y} hx hy bf=>?_) (List.Pairwise.filter _ hn);have h1:=jK.1 hx;have h2:=jK.1 hy;exact absurd (agu x h1.1 y h2.1 ((eX h1.2).trans (eX h2.2).symm)) bf
 ·refine List.Pairwise.imp (fun {k m} hkm x hx y hy=>?_) M6;have h1:=eX (jK.1 hx).2;have h2:=eX (jK.1 hy).2;omega
theorem Wv{n:Nat}{rk p:List Int}(hk:sd n rk)(hp:∀x∈p,0≤x∧x<(n:Int))(hn:p.Nodup):(eE n rk p).Pairwise fun x y=>rk.getD x.toNat 0<rk.getD y.toNat 0:=by
 have hs:(s4 rk (wC n p)).Pairwise fun x y=>(!(ltOf (uS rk)) y x)=true:=List.pairwise_mergeSort (fun x y z h1 h2=>by
  rw[hk.lt]at *;simp only[j7,decide_eq_false_iff_not]at *;omega) (fun x y=>by
  rw[hk.lt,hk.lt]
  simp only[pq,j7,decide_eq_false_iff_not];omega) _
 have cm:=(Bt (rk:=rk) hp).nodup_iff.2 hn;have hm:∀x∈eE n rk p,0≤x∧x<(n:Int):=fun x hx=>hp x ((Bt hp).mem_iff.1 hx)
 have h1:(eE n rk p).Pairwise fun x y=>¬rk.getD y.toNat 0<rk.getD x.toNat 0:=by
  unfold eE iT;rw[AY];refine hs.imp fun {x y} h=>?_;rw[hk.lt]at h;simpa using h
 refine (h1.and cm).imp_of_mem fun {x y} hx hy h=>?_;have hx:=hm x hx;have hy:=hm y hy;have h1:=h.1
 by_cases h3:rk.getD x.toNat 0<rk.getD y.toNat 0
 ·exact h3
 ·have:=hk.inj x.toNat y.toNat (by omega) (by omega) (by omega);exact absurd (by omega) h.2
theorem R4{f:Int→Int}:∀{A B:List Int},A.Pairwise (fun x y=>f x<f y)→B.Pairwise (fun x y=>f x<f y)→(∀x,x∈A↔x∈B)→A=B
 | [],[],_,_,_=>rfl
 | [],b::B,_,_,h=>by have:=(h b).2 (cF ..);cases this
 |a::A,[],_,_,h=>by have:=(h a).1 (cF ..);cases this
 |a::A,b::B,ha,hb,h=>by
  have HD:=xw.1 ha;have vA:=xw.1 hb
  have e:a=b:=by
   rcases dW.1 ((h a).1 (cF ..)) with h1 | h1
   ·exact h1
   ·rcases dW.1 ((h b).2 (cF ..)) with h2 | h2
    ·exact h2.symm
    ·have:=vA.1 a h1;have:=HD.1 b h2;omega
  subst e;rw[R4 HD.2 vA.2 fun x=>⟨fun hx=>?_,fun hx=>?_⟩]
  ·rcases dW.1 ((h x).1 (dq _ hx)) with h1 | h1
   ·subst h1;have:=HD.1 x hx;omega
   ·exact h1
  ·rcases dW.1 ((h x).2 (dq _ hx)) with h1 | h1
   ·subst h1;have:=vA.1 x hx;omega
   ·exact h1
theorem adB{n:Nat}{q p:List Int}(h:iu n q)(hn:n≤1000)(hp:∀x∈p,0≤x∧x<(n:Int))(cm:p.Nodup):o8 n (lj n q) p=eE n (lj n q) p:=by
 have hk:=h.rk hn;refine R4 (f:=fun x=>(lj n q).getD x.toNat 0) (X1 cm fun x hx y hy e=>?_) (Wv hk hp cm) fun x=>?_
 ·have hx:=hp x hx;have hy:=hp y hy;have:=hk.inj x.toNat y.toNat (by omega) (by omega) e;omega
 ·rw[adC fun x hx=>h.rkn (hp x hx)];exact (Bt hp).mem_iff.symm
theorem SP{n:Nat}{q:List Int}(h:iu n q)(hn:n≤1000):∀{Q:List (List Int)},(∀p∈Q,∀x∈p,0≤x∧x<(n:Int))→Q.flatten.Nodup→Q.flatMap (o8 n (lj n q))=Q.flatMap (eE n (lj n q))
 | [],_,_=>rfl
 |p::Q,hp,hd=>by
  have hd:(p++Q.flatten).Nodup:=hd;have hd:=ma.1 hd;rw[sD,sD,adB h hn (hp p (cF ..)) hd.1,SP h hn (fun q hq=>hp q (dq _ hq)) hd.2.1]
set_option maxHeartbeats 4000000
def o9(x:Int)(p:List Int)(o:List Int):List Int:=p.foldl (fun o a=>o.set a.toNat x) o
theorem EG(x:Int):∀(p o:List Int),(o9 x p o).length=o.length
 | [],_=>rfl
 |a::p,o=>by
  show (o9 x p (o.set a.toNat x)).length=_;rw[EG x p,dY]
theorem QG(x:Int)(p o:List Int)(a:Int):o9 x (p++[a]) o=(o9 x p o).set a.toNat x:=by unfold o9;rw[rE];rfl
def lY(n k:Nat)(Q:List (List Int)):Nat→List Int
 | 0=>List.replicate n 0
 |j+1=>o9 (((k*((Q.take j).flatten.length) / n:Nat)):Int) (Q.getD j []) (lY n k Q j)
theorem sO(n k:Nat)(Q:List (List Int)):∀j,(lY n k Q j).length=n
 | 0=>gh
 |j+1=>by unfold lY;rw[EG];exact sO n k Q j
def jA(n k:Nat)(l:List aO):List Int:=lY n k (gv n l) (gv n l).length
theorem US(k:Nat)(σ:Hp)(h1:1≤k)(h2:k≤64):ACalls Tryz.prog 214 [.int .i64 k] σ (ay (.bool true) σ):=by
 refine ao Tryz.func214 ?_;refine ai (fun _=>?_) (fun c=>absurd (show (1:Int)≤k by omega) c);refine ai (fun _=>?_) (fun c=>absurd (show (k:Int)≤64 by omega) c);exact .done ⟨rfl,rfl⟩
theorem ID(Q:List (List Int))(j:Nat):(Q.take j).flatten.length≤Q.flatten.length:=by
 have e:Q.flatten=(Q.take j).flatten++(Q.drop j).flatten:=by rw[← Ni,A6]
 rw[e,bB];omega
structure U0(n:Nat)(Q:List (List Int)):Prop where
 node:∀p∈Q,∀x∈p,0≤x∧x<(n:Int)
 flat:Q.flatten.length≤600
 len:Q.length≤600
theorem RT{k a n:Nat}(hk:k≤64)(ha:a≤600)(_hn:1≤n):IntKind.i64.wrap ((IntKind.i64.wrap ((k:Int)*(a:Nat))).tdiv (n:Int))=((k*a / n:Nat):Int):=by
 have h1:(k:Int)*(a:Nat)=((k*a:Nat):Int):=by simp
 have h2:k*a≤64*600:=oe hk ha;have h3:k*a / n≤k*a:=Nat.div_le_self _ _;have h4:IntKind.i64.wrap ((k*a:Nat):Int)=((k*a:Nat):Int):=by rw[IntKind.wrap_i64];omega
 have h5:(((k*a:Nat):Int)).tdiv (n:Int)=((k*a / n:Nat):Int):=rfl;rw[h1,h4,h5];clear h4 h5;generalize k*a / n=q at h3;generalize k*a=m at h2 h3;rw[IntKind.wrap_i64];omega
theorem ady{n:Nat}{l:List aO}{P:List (List Int)}(h:n0 n l P)(hr:∀e∈l,(0≤e.1∧e.1<(n:Int))∧0≤e.2.1∧e.2.1<(n:Int))(hn:n≤256):U0 n (gv n l):=by
 have hO:=(Ft h hr P.length (bg _)).1;rw[Kj h hr]at hO
 have hm:∀p∈gv n l,p∈P:=fun p hp=>by
  obtain⟨i,_,hi⟩:=(hO.mem p).1 hp;exact dz hi
 have jc:=EU n _ hO.nd fun x hx=>by
  obtain⟨p,hp,ra⟩:=nr.1 hx;exact h.ok.node p (hm p hp) x ra
 have hll:=IJ (Q:=gv n l) fun p hp=>l9.2 (h.ok.ne p (hm p hp));exact⟨fun p hp=>h.ok.node p (hm p hp),by omega,by omega⟩
theorem lD.qok{n:Nat}{Q:List (List Int)}{told:List Int}(h:lD n Q told)(hn:n≤256):U0 n Q:=by
 have h1:=h.uH;have h2:=h.Lc;rw[h.told]at h1;exact⟨h.node,by omega,by omega⟩
theorem acX(n:Nat)(l:List aO)(k:Nat)(σ:Hp)(hl:l.length≤100000)(ek:eA n l=true)(h1:1≤k)(h2:k≤64):ACalls Tryz.prog 216 [.int .i64 n,.ae cg l,.int .i64 k] σ (ay (.tup [.ae (.int .i64) (jA n k l),.int .i64 0]) σ):=by
 have hn:1≤n∧n≤256:=by
  unfold eA at ek;simp only[bS,decide_eq_true_eq]at ek;omega
 have AM:∀e∈l,(0≤e.1∧e.1<(n:Int))∧0≤e.2.1∧e.2.1<(n:Int):=fun e he=>by
  unfold eA at ek;simp only[bS,fq]at ek;have:=ek.2 e he;exact⟨kA.1 this.1,kA.1 this.2⟩
 refine ao Tryz.func216 ?_;refine aw [] (US k _ h1 h2) ?_;refine .mk [] _ (acO n l _ hl ek) ?_;rintro _ τ ⟨rfl,wY,P,hP⟩;subst τ;have hQ:=ady hP AM hn.2;unfold jA;generalize gv n l=Q at hQ;have hQl:=hQ.len;have Mh:((n:Nat):Int).toNat=n:=bD n;refine a8 ?_;intro bo;refine bc (S:=Nat) (fun x=>[(0,.int .i64 n),(2,.int .i64 k),(10,.af bo 0 n 1),(11,.int .i64 ((Q.take x).flatten.length:Nat)),(30,.ae (.slice (.int .i64)) Q),(31,.int .i64 Q.length),(32,.int .i64 x)]) (fun x=>(bo,aj (lY n k Q x))::σ) (fun x=>x≤Q.length) (fun x=>Q.length-x) 0 ⟨aV _,⟨rfl,rfl,rfl,rfl,rfl,rfl,rfl,trivial⟩,by rw[show aj (lY n k Q 0)=cP [.int .i64 0] n from (ua n).symm];rfl⟩ ?_;intro j g hj;have hj:j≤Q.length:=hj;have yI:(Q.take j).flatten.length≤600:=dE (ID Q j) hQ.flat;refine ai (p:=(j:Int)<Q.length) (fun ab=>?_) (fun ak=>?_)
 ·have ab:j<Q.length:=by omega
  obtain⟨p,hp⟩:∃p,Q[j]?=some p:=⟨Q[j]'ab,bu ab⟩
  have AE:=hQ.node p (dz hp);have lu:p.length≤600:=dE (List.Sublist.length_le (M9 (dz hp))) hQ.flat;have hx:IntKind.i64.wrap ((IntKind.i64.wrap ((k:Int)*((Q.take j).flatten.length:Nat))).tdiv (n:Int))=((k*(Q.take j).flatten.length / n:Nat):Int):=RT (by omega) (by omega) (by omega)
  have hu:lY n k Q (j+1)=o9 ((k*(Q.take j).flatten.length / n:Nat):Int) p (lY n k Q j):=by
   show o9 _ (Q.getD j []) _=_;rw[bK,hp];rfl
  have jn:=sO n k Q j
  have eH:(Q.take (j+1)).flatten.length=(Q.take j).flatten.length+p.length:=by
   rw[List.take_succ_eq_append_getElem ab,List.flatten_append,List.length_append,show Q[j]=p from Option.some.inj ((List.getElem?_eq_getElem ab).symm.trans hp)];simp
  generalize lY n k Q j=o at hu jn;generalize hX:((k*(Q.take j).flatten.length / n:Nat):Int)=X at hx hu;refine aF.mk rfl (aY.mk p (by omega) (by rw[bD];exact hp) ?_);refine bc (S:=Nat) (fun y=>[(0,.int .i64 n),(2,.int .i64 k),(10,.af bo 0 n 1),(11,.int .i64 ((Q.take j).flatten.length:Nat)),(13,.ae (.int .i64) p),(30,.ae (.slice (.int .i64)) Q),(31,.int .i64 Q.length),(32,.int .i64 j),(36,.ae (.int .i64) p),(37,.int .i64 p.length),(38,.int .i64 y)]) (fun y=>(bo,aj (o9 X (p.take y) o))::σ) (fun y=>y≤p.length) (fun y=>p.length-y) 0 ⟨aV _,⟨rfl,rfl,rfl,rfl,rfl,rfl,rfl,rfl,rfl,rfl,rfl,trivial⟩,rfl⟩ ?_;intro y g2 hy;have hy:y≤p.length:=hy;refine ai (p:=(y:Int)<p.length) (fun mB=>?_) (fun Dz=>?_)
  ·have mB:y<p.length:=by omega
   have hz:=AE _ (bU mB);have AF:=EG X (p.take y) o;refine aF.mk rfl (aY.mk p[y] (by omega) (get_some mB) ?_);refine e9 ?_;refine aH ?_;refine bM 0 rfl (lL rfl _ hz.1 (by omega)) ?_;exact aM (y+1) (by show p.length-(y+1)<p.length-y;omega) mB ⟨rfl,rfl,rfl,rfl,rfl,rfl,rfl,rfl,rfl,rfl,aI (by omega),trivial⟩ (aL (by rw[hx,eM mB,QG];rfl))
  ·have Dz:p.length=y:=by omega
   subst Dz;rw[er];exact aM (j+1) (by show Q.length-(j+1)<Q.length-j;omega) ab ⟨rfl,rfl,rfl,(by show AV.int .i64 (IntKind.i64.wrap ((((Q.take j).flatten.length:Nat):Int)+((p.length:Nat):Int)))=.int .i64 (((Q.take (j+1)).flatten.length:Nat):Int);rw[eH,IntKind.wrap_i64];exact aQ (by omega)),rfl,rfl,aI (by omega),trivial⟩ (aL (by rw[hu]))
 ·have ak:Q.length=j:=by omega
  subst ak;refine .cb 0 bo 0 n 1 _ (.int .i64) (lY n k Q Q.length) rfl (by rw[fy,dZ (by rw[lF,sO,dH];exact bg _)];exact ia _) ⟨sO n k Q _,rfl,by decide⟩ (bZ .here (.refl _)) (.done ⟨rfl,rfl⟩)
theorem Y9(n:Nat)(l:List aO)(k:Nat)(σ:Hp)(hl:l.length≤100000)(hn:1≤n∧n≤256)(_h1:1≤k)(h2:k≤64):ACalls Tryz.prog 146 [.int .i64 n,.ae cg l,.int .i64 k] σ (ay (.ae (.int .i64) (jA n k l)) σ):=by
 refine ao Tryz.func146 ?_;have Mh:((n:Nat):Int).toNat=n:=bD n;refine a8 ?_;intro bo;refine .mk [] _ (Uc n l _ hl hn.2) ?_;rintro _ τ ⟨rfl,wY,told,hT⟩;subst τ;have hQ:=hT.qok hn.2;unfold jA;generalize gv n l=Q at hQ;have hQl:=hQ.len;refine bc (S:=Nat) (fun x=>[(0,.int .i64 n),(2,.int .i64 k),(7,.af bo 0 n 1),(8,.int .i64 ((Q.take x).flatten.length:Nat)),(17,.ae (.slice (.int .i64)) Q),(18,.int .i64 Q.length),(19,.int .i64 x)]) (fun x=>(bo,aj (lY n k Q x))::σ) (fun x=>x≤Q.length) (fun x=>Q.length-x) 0 ⟨aV _,⟨rfl,rfl,rfl,rfl,rfl,rfl,rfl,trivial⟩,by rw[show aj (lY n k Q 0)=cP [.int .i64 0] n from (ua n).symm];rfl⟩ ?_;intro j g hj;have hj:j≤Q.length:=hj;have yI:(Q.take j).flatten.length≤600:=dE (ID Q j) hQ.flat;refine ai (p:=(j:Int)<Q.length) (fun ab=>?_) (fun ak=>?_)
 ·have ab:j<Q.length:=by omega
  obtain⟨p,hp⟩:∃p,Q[j]?=some p:=⟨Q[j]'ab,bu ab⟩
  have AE:=hQ.node p (dz hp);have lu:p.length≤600:=dE (List.Sublist.length_le (M9 (dz hp))) hQ.flat;have hx:IntKind.i64.wrap ((IntKind.i64.wrap ((k:Int)*((Q.take j).flatten.length:Nat))).tdiv (n:Int))=((k*(Q.take j).flatten.length / n:Nat):Int):=RT (by omega) (by omega) (by omega)
  have hu:lY n k Q (j+1)=o9 ((k*(Q.take j).flatten.length / n:Nat):Int) p (lY n k Q j):=by
   show o9 _ (Q.getD j []) _=_;rw[bK,hp];rfl
  have jn:=sO n k Q j
  have eH:(Q.take (j+1)).flatten.length=(Q.take j).flatten.length+p.length:=by
   rw[List.take_succ_eq_append_getElem ab,List.flatten_append,List.length_append,show Q[j]=p from Option.some.inj ((List.getElem?_eq_getElem ab).symm.trans hp)];simp
  generalize lY n k Q j=o at hu jn;generalize hX:((k*(Q.take j).flatten.length / n:Nat):Int)=X at hx hu;refine aF.mk rfl (aY.mk p (by omega) (by rw[bD];exact hp) ?_);refine bc (S:=Nat) (fun y=>[(0,.int .i64 n),(2,.int .i64 k),(7,.af bo 0 n 1),(8,.int .i64 ((Q.take j).flatten.length:Nat)),(10,.ae (.int .i64) p),(17,.ae (.slice (.int .i64)) Q),(18,.int .i64 Q.length),(19,.int .i64 j),(23,.ae (.int .i64) p),(24,.int .i64 p.length),(25,.int .i64 y)]) (fun y=>(bo,aj (o9 X (p.take y) o))::σ) (fun y=>y≤p.length) (fun y=>p.length-y) 0 ⟨aV _,⟨rfl,rfl,rfl,rfl,rfl,rfl,rfl,rfl,rfl,rfl,rfl,trivial⟩,rfl⟩ ?_;intro y g2 hy;have hy:y≤p.length:=hy;refine ai (p:=(y:Int)<p.length) (fun mB=>?_) (fun Dz=>?_)
  ·have mB:y<p.length:=by omega
   have hz:=AE _ (bU mB);have AF:=EG X (p.take y) o;refine aF.mk rfl (aY.mk p[y] (by omega) (get_some mB) ?_);refine e9 ?_;refine aH ?_;refine bM 0 rfl (lL rfl _ hz.1 (by omega)) ?_;exact aM (y+1) (by show p.length-(y+1)<p.length-y;omega) mB ⟨rfl,rfl,rfl,rfl,rfl,rfl,rfl,rfl,rfl,rfl,aI (by omega),trivial⟩ (aL (by rw[hx,eM mB,QG];rfl))
  ·have Dz:p.length=y:=by omega
   subst Dz;rw[er];exact aM (j+1) (by show Q.length-(j+1)<Q.length-j;omega) ab ⟨rfl,rfl,rfl,(by show AV.int .i64 (IntKind.i64.wrap ((((Q.take j).flatten.length:Nat):Int)+((p.length:Nat):Int)))=.int .i64 (((Q.take (j+1)).flatten.length:Nat):Int);rw[eH,IntKind.wrap_i64];exact aQ (by omega)),rfl,rfl,aI (by omega),trivial⟩ (aL (by rw[hu]))
 ·have ak:Q.length=j:=by omega
  subst ak;refine .cb 0 bo 0 n 1 _ (.int .i64) (lY n k Q Q.length) rfl (by rw[fy,dZ (by rw[lF,sO,dH];exact bg _)];exact ia _) ⟨sO n k Q _,rfl,by decide⟩ .here (.done ⟨rfl,rfl⟩)
set_option maxHeartbeats 4000000
def mT(L:List Int):Nat→List Int
 | 0=>L
 |i+1=>((mT L i).set i ((mT L i).getD (L.length-1-i) 0)).set (L.length-1-i) ((mT L i).getD i 0)
theorem Ew(L:List Int):∀i,(mT L i).length=L.length
 | 0=>rfl
 |i+1=>by unfold mT;rw[dY,dY];exact Ew L i
theorem PQ(l:List Int)(a:Nat)(v:Int)(t:Nat)(ha:a<l.length):(l.set a v).getD t 0=if a=t then v else l.getD t 0:=by
 rw[bK,gQ]
 by_cases h:a=t
 ·subst h;rw[az rfl,az ha,az rfl];rfl
 ·rw[aB h,aB h,bK]
theorem RK(L:List Int):∀i,2*i≤L.length+1→∀t,t<L.length→(mT L i).getD t 0=if t<i∨L.length-i≤t then L.getD (L.length-1-t) 0 else L.getD t 0
 | 0,_,t,ht=>by
  rw[aB (by omega)];rfl
 |i+1,hi,t,ht=>by
  have hl:=Ew L i;have ih:=RK L i (by omega);have h0:0<L.length:=by omega
  have e1:L.length-1-i<((mT L i).set i ((mT L i).getD (L.length-1-i) 0)).length:=by rw[dY,hl];omega
  unfold mT;rw[PQ _ _ _ _ e1]
  by_cases hm:i<L.length
  ·rw[PQ _ _ _ _ (by rw[hl];exact hm),ih i hm,ih (L.length-1-i) (by omega),ih t ht]
   repeat' split
   all_goals first | rfl | (exfalso;omega) | (congr 1;omega)
  ·omega
theorem Zy{L:List Int}{i:Nat}(h1:2*i≤L.length+1)(h2:L.length≤2*i+1):mT L i=L.reverse:=by
 have hl:=Ew L i;refine Ig (by rw[hl,tO]) fun t h3 h4=>?_;have ht:t<L.length:=by omega
 have:=RK L i h1 t ht;rw[bK,bu h3,bK,bu (show L.length-1-t<L.length by omega),bK,bu ht]at this;rw[List.getElem_reverse];have this:(mT L i)[t]=if t<i∨L.length-i≤t then L[L.length-1-t] else L[t]:=this
 rw[this];split
 ·rfl
 ·have e:t=L.length-1-t:=by omega
  congr 1
theorem aaI(b:Nat)(L:List Int)(q:Nat)(σ:Hp)(hq:L.length=q)(hl:q≤1000000):ACalls Tryz.prog 217 [.af b 0 q 1] ((b,aj L)::σ) (ay (.tup []) ((b,aj L.reverse)::σ)):=by
 refine ao Tryz.func217 ?_;refine bc (S:=Nat) (fun i=>[(0,.af b 0 q 1),(2,.int .i64 i),(3,.int .i64 ((q:Int)-1-i))]) (fun i=>(b,aj (mT L i))::σ) (fun i=>2*i≤q+1) (fun i=>q+1-i) 0 ⟨by omega,⟨rfl,rfl,aQ (by rw[IntKind.wrap_i64];omega),trivial⟩,rfl⟩ ?_;intro i g hi;have hi:2*i≤q+1:=hi;have cQ:=Ew L i;refine ai (p:=(i:Int)<(q:Int)-1-i) (fun ab=>?_) (fun ak=>?_)
 ·have hj:((q:Int)-1-(i:Int)).toNat=L.length-1-i:=by omega
  refine .sched [] (upto [] 16 0) (by kernel_rfl) ?_;refine aH ?_;refine aS 0 rfl (eZ rfl (by omega) (by omega)) ?_;refine aH ?_;refine aS 0 rfl (eZ rfl (by omega) (by omega)) ?_;refine aH ?_;refine bM 0 rfl (lL rfl _ (by omega) (by omega)) ?_;refine aH ?_;refine bM 0 rfl (lL rfl _ (by omega) (by rw[dY];omega)) ?_;refine aM (i+1) (by show q+1-(i+1)<q+1-i;omega) (by show 2*(i+1)≤q+1;omega) ⟨rfl,aQ (by rw[IntKind.wrap_i64];omega),aQ (by rw[IntKind.wrap_i64];omega),trivial⟩ (aL ?_);show (b,aj (((mT L i).set ((i:Nat):Int).toNat ((mT L i).getD ((q:Int)-1-(i:Int)).toNat 0)).set ((q:Int)-1-(i:Int)).toNat ((mT L i).getD ((i:Nat):Int).toNat 0)))::σ=(b,aj (mT L (i+1)))::σ;rw[hj,bD];rfl
 ·rw[Zy (by omega) (by omega)];exact .done ⟨rfl,rfl⟩
set_option maxHeartbeats 4000000
def jP(k:Nat)(ow al:List Int):List (List Int):=(List.range k).map fun u:Nat=>al.filter fun x=>decide (ow.getD x.toNat 0=(u:Int))
theorem tU(k:Nat)(ow al:List Int):(jP k ow al).length=k:=by unfold jP;rw[cN,og]
theorem xS{k:Nat}{ow al:List Int}{u:Nat}(h:u<k):(jP k ow al)[u]?=some (al.filter fun x=>decide (ow.getD x.toNat 0=(u:Int))):=by
 unfold jP;rw[fD,A1 h];rfl
theorem N2{k:Nat}{ow al:List Int}{z:Int}{w:Nat}{rl:List Int}(hz:ow.getD z.toNat 0=(w:Int))(hr:(jP k ow al)[w]?=some rl):jP k ow (al++[z])=(jP k ow al).set w (rl++[z]):=by
 have hw:w<k:=by
  have:=(cW.1 hr).1;rw[tU]at this;exact this
 refine yW fun i=>?_;rw[gQ,tU]
 rcases sx i k with hi | hi
 ·rw[xS hi,xS hi,tP]
  by_cases e:w=i
  ·subst e;rw[az rfl,az hw];rw[xS hw]at hr;rw[← Option.some.inj hr,List.filter_cons,if_pos (by rw[hz];simp),List.filter_nil]
  ·rw[if_neg e,List.filter_cons,if_neg (by rw[hz];simp;omega),List.filter_nil,List.append_nil]
 ·rw[sE (by rw[tU];exact hi),aB (by omega),sE (by rw[tU];exact hi)]
theorem Pk(A:List iZ)(r r2:iZ)(B:List iZ):iO (A++r2::B)=(iO (A++r::B)).set A.length r2.2.2:=by
 unfold iO;rw[cE,cE,Ec _ _ (by rw[cN];exact bg _),cN,l7];rfl
theorem Qu(A:List iZ)(r:iZ)(B:List iZ):(iO (A++r::B))[A.length]?=some r.2.2:=by
 unfold iO;rw[cE,iL (by rw[cN];exact bg _),cN,l7];rfl
theorem Th(bx:Nat)(ow:List Int)(x w:Int)(σ:Hp)(hx:0≤x)(hw:ow[x.toNat]?=some w):ACalls Tryz.prog 219 [.int .i64 x,.ptr bx 0] ((bx,[.ae (.int .i64) ow])::σ) (ay (.int .i64 w) ((bx,[.ae (.int .i64) ow])::σ)):=by
 refine ao Tryz.func219 ?_;refine aa 0 ?_;refine aF.mk rfl (aY.mk w hx hw ?_);exact .done ⟨rfl,rfl⟩
theorem aeD(n k bx:Nat)(ow al:List Int)(σ:Hp)(jr:1≤k)(dR:k≤64)(hal:al.length≤100000)(hr:∀x∈al,0≤x∧x<(n:Int))(jn:ow.length=n)(jI:∀i:Nat,i<n→0≤ow.getD i 0∧ow.getD i 0<(k:Int)):ACalls Tryz.prog 218 [.ae (.int .i64) al,.int .i64 k,.fn (.func 219) [] [.ptr bx 0]] ((bx,[.ae (.int .i64) ow])::σ) (fun r σ'=>∃ls:List (List Int),r=.ae (.slice (.int .i64)) ls∧σ'=(bx,[.ae (.int .i64) ow])::σ∧ls=jP k ow al):=by
 refine Ol ?_;refine ao Tryz.func218 ?_;refine a8 ?_;intro bo;refine .dT (.pull [1] (.refl _)) ?_;refine bc (S:=Nat×List iZ) (fun s=>[(2,.fn (.func 219) [] [.ptr bx 0]),(7,.af bo 0 k 1),(12,.ae (.int .i64) al),(13,.int .i64 al.length),(14,.int .i64 s.1)]) (fun s=>(bx,[.ae (.int .i64) ow])::(bo,iP s.2)::(iQ s.2++σ)) (fun s=>s.1≤al.length∧(∀r∈s.2,rU r)∧iO s.2=jP k ow (al.take s.1)) (fun s=>al.length-s.1) (0,List.replicate k (.ag,[],[])) ⟨⟨aV _,fun r hr=>.inl (by rw[Ic hr];exact⟨rfl,rfl,rfl⟩),?_⟩,⟨rfl,rfl,rfl,rfl,rfl,trivial⟩,?_⟩ ?_
 ·refine yW fun i=>?_;show (iO (List.replicate k (.ag,[],[])))[i]?=_;unfold iO;rw[fD,xA]
  rcases sx i k with hi | hi
  ·rw[az hi,xS hi];rfl
  ·rw[aB (by omega),sE (by rw[tU];exact hi)];rfl
 ·show _=(bx,[AV.ae (.int .i64) ow])::(bo,iP (List.replicate k (.ag,[],[])))::(iQ (List.replicate k (.ag,[],[]))++σ);rw[← Qz,Pq];rfl
 rintro⟨j,rs⟩ g ⟨gx,Dn,DM⟩;have hj:j≤al.length:=gx;have ho:∀r∈rs,rU r:=Dn;have hL:iO rs=jP k ow (al.take j):=DM;clear gx Dn DM
 have rb:rs.length=k:=by
  have:=congrArg List.length hL;rw[tU]at this;exact (cN _).symm.trans this
 refine ai (p:=(j:Int)<al.length) (fun ab=>?_) (fun ak=>?_);rotate_left
 ·have ak:¬(j:Int)<al.length:=ak;rw[dZ (by omega)]at hL;subst rb;exact .perm ((List.Perm.cons _ ns).trans (List.Perm.swap _ _ _)) (.done ⟨bo,rs,rfl,rfl,ho,hL⟩)
 have ab:j<al.length:=by omega
 obtain⟨z,hz⟩:∃z,al[j]=z:=⟨_,rfl⟩
 have fi:=hr z (hz▸bU ab);have Dh:al[((j:Nat):Int).toNat]?=some z:=by rw[bD,bu ab,hz]
 have eH:al.take (j+1)=al.take j++[z]:=by rw[eM ab,hz]
 obtain⟨w,hw⟩:∃w:Nat,ow.getD z.toNat 0=(w:Int):=⟨(ow.getD z.toNat 0).toNat,by have:=jI z.toNat (by omega);omega⟩
 have tC:w<k:=by have:=jI z.toNat (by omega);omega
 have Ay:ow[z.toNat]?=some (w:Int):=by rw[← hw,bK,bu (by omega)];rfl
 obtain⟨A,r,B,rfl,hA⟩:∃A r B,rs=A++r::B∧w=A.length:=⟨rs.take w,rs[w]'(by omega),rs.drop (w+1),by simp,by rw[List.length_take];omega⟩
 obtain⟨c,acc,rl⟩:=r;have hAw:((w:Nat):Int)=A.length:=by rw[hA]
 rw[vU];have vv:=Qv A (c,acc,rl) B hAw;have fU:=fun r2=>Pm A (c,acc,rl) r2 B hAw;have yp:(jP k ow (al.take j))[w]?=some rl:=by rw[← hL,hA];exact Qu A (c,acc,rl) B
 have fT:=N2 hw yp;rw[← eH]at fT;generalize hC:iP (A++(c,acc,rl)::B)=C at vv fU;have mw:rU (c,acc,rl):=ho _ (iK _ (cF ..));have hCl:C.length=k:=by rw[← hC,Pn];exact rb
 have hrb:rl.length≤100000:=by
  rw[xS tC]at yp;rw[← Option.some.inj yp];exact dE (Ee _ _) (by rw[oh];omega)
 have fP:∀v' aJ,Acc 1 (rl.length+1) v' aJ (aj rl++[.int .i64 z])→j+1≤al.length∧(∀r∈A++(.via v',aJ,rl++[z])::B,rU r)∧iO (A++(.via v',aJ,rl++[z])::B)=jP k ow (al.take (j+1)):=fun v' aJ h'=>by
  have mB:(rl++[z]:List Int).length=rl.length+1:=bB;refine⟨ab,fun r hr=>?_,?_⟩
  ·rcases bQ.1 hr with hr | hr
   ·exact ho r (gg _ hr)
   ·rcases dW.1 hr with rfl | hr
    ·refine .inr ⟨v',rfl,?_⟩;show Acc 1 (rl++[z]:List Int).length v' aJ (aj (rl++[z]));rw[mB,show aj (rl++[z])=aj rl++[.int .i64 z] from cE];exact h'
    ·exact ho r (iK _ (dq _ hr))
  ·rw[fT,← hL,hA];exact Pk A (c,acc,rl) (.via v',aJ,rl++[z]) B
 refine aF.mk rfl (aY.mk z (by omega) Dh ?_);refine aw [] (Th bx ow z w _ fi.1 Ay) ?_;refine aw [] (Th bx ow z w _ fi.1 Ay) ?_;refine aH ?_
 rcases mw with ⟨q1,q2,q3⟩ | ⟨v,q1,q2⟩
 ·have q1:c=.ag:=q1;have q2:acc=[]:=q2;have q3:rl=[]:=q3;subst q1;subst q2;subst q3;refine aS 1 rfl (gD rfl vv) ?_;intro ax;refine eS ((ax,[.int .i64 z])::(bx,[.ae (.int .i64) ow])::(bo,C)::iQ A) (Acc.nil (e:=1)) (.af 0 ax 0 1 _ rfl (cj rfl)) rfl (by omega) (by decide) (by decide) (fun v' aJ h'=>?_);refine aH ?_;refine bM 2 rfl ((mO rfl rfl (by omega)).trans (congrArg some (fU (.via v',aJ,[]++[z])))) ?_;exact aM (j+1,A++(.via v',aJ,[]++[z])::B) (by show al.length-(j+1)<al.length-j;omega) (fP v' aJ h') ⟨rfl,rfl,rfl,rfl,aI (by omega),trivial⟩ (.drop 0 1 (aL (by rw[vU];rfl)))
 ·have q1:c=.via v:=q1;have q2:Acc 1 rl.length v acc (aj rl):=q2;subst q1;refine aS 1 rfl (gD rfl vv) ?_;intro ax;refine eS (k:=rl.length) (n:=1) ((ax,[.int .i64 z])::(bx,[.ae (.int .i64) ow])::(bo,C)::iQ A) q2 (.af 0 ax 0 1 _ rfl (cj rfl)) rfl (by omega) (by decide) (by decide) (fun v' aJ h'=>?_);refine aH ?_;refine bM 2 rfl ((mO rfl rfl (by omega)).trans (congrArg some (fU (.via v',aJ,rl++[z])))) ?_;exact aM (j+1,A++(.via v',aJ,rl++[z])::B) (by show al.length-(j+1)<al.length-j;omega) (fP v' aJ h') ⟨rfl,rfl,rfl,rfl,aI (by omega),trivial⟩ (.drop 0 1 (aL (by rw[vU];rfl)))
theorem PB{k:Nat}{x:Int}(hx:0≤x∧x<(k:Int)):∀(p o:List Int),(∀i:Nat,i<o.length→0≤o.getD i 0∧o.getD i 0<(k:Int))→∀i:Nat,i<o.length→0≤(o9 x p o).getD i 0∧(o9 x p o).getD i 0<(k:Int)
 | [],_,h=>h
 |a::p,o,h=>by
  have ih:=PB hx p (o.set a.toNat x) fun i hi=>by
   rw[dY]at hi;rw[bK,gQ]
   by_cases e:a.toNat=i
   ·subst e;rw[az rfl,az hi];exact hx
   ·rw[aB e,← bK];exact h i hi
  rw[dY]at ih;exact ih
theorem PA{n k:Nat}{Q:List (List Int)}(hk:1≤k)(bf:∀p∈Q,p≠[])(jc:Q.flatten.length≤n):∀j,j≤Q.length→∀i:Nat,i<n→0≤(lY n k Q j).getD i 0∧(lY n k Q j).getD i 0<(k:Int)
 | 0,_,i,hi=>by
  show 0≤(List.replicate n (0:Int)).getD i 0∧(List.replicate n (0:Int)).getD i 0<(k:Int);rw[bK,xA,az hi];show (0:Int)≤0∧(0:Int)<k;omega
 |j+1,hj,i,hi=>by
  have ih:=PA hk bf jc j (by omega);have ab:j<Q.length:=hj;have pc:=l9.2 (bf _ (bU ab));have h1:=ID Q (j+1);rw[List.take_succ_eq_append_getElem ab,List.flatten_append,List.length_append,show [Q[j]].flatten=Q[j] by simp]at h1;have ha:(Q.take j).flatten.length<n:=by omega
  have hx:k*(Q.take j).flatten.length / n<k:=by
   refine Nat.div_lt_of_lt_mul ?_;rw[AS n k];exact Nat.mul_lt_mul_of_pos_left ha (by omega)
  have hl:=sO n k Q j;refine PB (k:=k) ⟨MT _,Int.ofNat_lt.2 hx⟩ _ _ (fun i hi=>ih i (by omega)) i (by omega)
theorem WN{n k:Nat}{l:List aO}(hk:1≤k)(bf:∀p∈gv n l,p≠[])(jc:(gv n l).flatten.length≤n):∀i:Nat,i<n→0≤(jA n k l).getD i 0∧(jA n k l).getD i 0<(k:Int):=PA hk bf jc _ (bg _)
def CC(n k:Nat)(l:List aO)(fr:List Int):List (List Int):=jP k (jA n k l) (qZ n l fr).reverse
theorem aeo(n:Nat)(l:List aO)(fr:List Int)(k:Nat)(σ:Hp)(hl:l.length≤100000)(hf:fr.length≤100000)(ek:eA n l=true)(iI:∀x∈fr,0≤x∧x<(n:Int))(h1:1≤k)(h2:k≤64):ACalls Tryz.prog 160 [.int .i64 n,.ae cg l,.ae (.int .i64) fr,.int .i64 k] σ (fun r σ'=>r=.tup [.ae (.slice (.int .i64)) (CC n k l fr),.int .i64 0]∧σ'=σ∧iu n (qZ n l fr)∧(∀i:Nat,i<n→0≤(jA n k l).getD i 0∧(jA n k l).getD i 0<(k:Int))∧iu n (gv n l).flatten∧iu n (jU n l fr)):=by
 have hn:1≤n∧n≤256:=by
  unfold eA at ek;simp only[bS,decide_eq_true_eq]at ek;omega
 refine ao Tryz.func160 ?_;refine aw [] (US k _ h1 h2) ?_;refine .mk [] _ (acY n l fr _ hl hf ek iI) ?_;rintro _ _ ⟨ba,rfl,rfl,hA,bf,jc,AF⟩;have jI:=WN (k:=k) h1 bf (vG jc.len);refine aw [] (acX n l k _ hl ek h1 h2) ?_;intro bx;refine ah 0 ?_;have hlen:=hA.len;unfold CC;have jn:(jA n k l).length=n:=sO n k _ _;generalize jA n k l=ow at jI jn;generalize qZ n l fr=L at hA hlen;refine aw [1] (aaI ba L _ _ rfl (by omega)) ?_;refine .cb (args':=[.ae (.int .i64) L.reverse,.int .i64 k,.fn (.func 219) [] [.ptr bx 0]]) 0 ba 0 L.length 1 _ (.int .i64) L.reverse rfl (by rw[fy,dZ (by rw[lF,tO,dH];exact bg _)];exact ia _) ⟨tO,rfl,by decide⟩ (bZ .here (.refl _)) ?_;refine .mk [] _ (aeD n k bx ow L.reverse _ h1 h2 (by rw[tO];omega) (fun x hx=>hA.rg x (List.mem_reverse.1 hx)) jn jI) ?_;rintro _ _ ⟨ls,rfl,rfl,rfl⟩;exact .drop 0 1 (.done ⟨rfl,rfl,hA,jI,jc,AF⟩)
end Go.Proofs.YtnikdflhefijbaaGreat
