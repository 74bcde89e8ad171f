import Derived.Shelf.SlSortCmp.NoneTotal
import Derived.Test.YtnpidbjdilnhlaaGreatBn11
import Derived.Test.YtnpidbjdilnhlaaGreatBn21
namespace Go.Proofs.YtnpidbjdilnhlaaGreat
open Go.Shelf
def S9:Go.Shelf.Ren:=⟨fun | 6=>189 | 15=>208 | 14=>231 | 28=>258 | 29=>259 | 20=>271 | 21=>272 | 22=>273 | 23=>274 | 24=>275 | 25=>276 | 26=>277 | 27=>278 | 46=>298 | 47=>287 | 48=>288 | 49=>299 | 50=>300 | 57=>320 | n=>n,fun | 22=>22 | 24=>202 | 25=>240 | 3=>3 | 39=>253 | 0=>0 | 53=>290 | 55=>38 | 4=>4 | 46=>283 | 45=>282 | 50=>287 | 5=>5 | 9=>9 | 66=>314 | 70=>318 | 76=>333 | 77=>70 | n=>n,fun | n=>n⟩
theorem H0:Go.Proofs.SlLaysF0.n6 Tryz.prog S9:= {
 mixed:=by kernel_rfl
 f6 := ⟨"slices.SortFunc[[]sough/api.Edge,sough/api.Edge]", by decide, Tryz.func189.trans (congrArg some (by kernel_rfl))⟩
 f14 := ⟨"slices.pdqsortCmpFunc[sough/api.Edge]", by decide, Tryz.func231.trans (congrArg some (by kernel_rfl))⟩
 f15:=Tryz.func208.trans (congrArg some (by kernel_rfl))
 f20 := ⟨"slices.insertionSortCmpFunc[sough/api.Edge]", by decide, Tryz.func271.trans (congrArg some (by kernel_rfl))⟩
 f21 := ⟨"slices.heapSortCmpFunc[sough/api.Edge]", by decide, Tryz.func272.trans (congrArg some (by kernel_rfl))⟩
 f22 := ⟨"slices.breakPatternsCmpFunc[sough/api.Edge]", by decide, Tryz.func273.trans (congrArg some (by kernel_rfl))⟩
 f23 := ⟨"slices.choosePivotCmpFunc[sough/api.Edge]", by decide, Tryz.func274.trans (congrArg some (by kernel_rfl))⟩
 f24 := ⟨"slices.reverseRangeCmpFunc[sough/api.Edge]", by decide, Tryz.func275.trans (congrArg some (by kernel_rfl))⟩
 f25 := ⟨"slices.partialInsertionSortCmpFunc[sough/api.Edge]", by decide, Tryz.func276.trans (congrArg some (by kernel_rfl))⟩
 f26 := ⟨"slices.partitionEqualCmpFunc[sough/api.Edge]", by decide, Tryz.func277.trans (congrArg some (by kernel_rfl))⟩
 f27 := ⟨"slices.partitionCmpFunc[sough/api.Edge]", by decide, Tryz.func278.trans (congrArg some (by kernel_rfl))⟩
 f28:=Tryz.func258.trans (congrArg some (by kernel_rfl))
 f29:=Tryz.func259.trans (congrArg some (by kernel_rfl))
 f46 := ⟨"slices.siftDownCmpFunc[sough/api.Edge]", by decide, Tryz.func298.trans (congrArg some (by kernel_rfl))⟩
 f47:=Tryz.func287.trans (congrArg some (by kernel_rfl))
 f48:=Tryz.func288.trans (congrArg some (by kernel_rfl))
 f49 := ⟨"slices.medianAdjacentCmpFunc[sough/api.Edge]", by decide, Tryz.func299.trans (congrArg some (by kernel_rfl))⟩
 f50 := ⟨"slices.medianCmpFunc[sough/api.Edge]", by decide, Tryz.func300.trans (congrArg some (by kernel_rfl))⟩
 f57 := ⟨"slices.order2CmpFunc[sough/api.Edge]", by decide, Tryz.func320.trans (congrArg some (by kernel_rfl))⟩
 t0:=Tryz.underlying0
 a0:=Tryz.isAgg0
 z0:=Tryz.sizeOf0
 v0:=Tryz.zeroValue0
 t3:=Tryz.underlying3
 a3:=Tryz.isAgg3
 z3:=Tryz.sizeOf3
 v3:=Tryz.zeroValue3
 t4:=Tryz.underlying4
 a4:=Tryz.isAgg4
 z4:=Tryz.sizeOf4
 v4:=Tryz.zeroValue4
 t5:=Tryz.underlying5
 a5:=Tryz.isAgg5
 z5:=Tryz.sizeOf5
 v5:=Tryz.zeroValue5
 t9:=Tryz.underlying9
 a9:=Tryz.isAgg9
 z9:=Tryz.sizeOf9
 v9:=Tryz.zeroValue9
 t22:=Tryz.underlying22
 a22:=Tryz.isAgg22
 z22:=Tryz.sizeOf22
 v22:=Tryz.zeroValue22
 t25:=Tryz.underlying240
 a25:=Tryz.isAgg240
 z25:=Tryz.sizeOf240
 v25:=Tryz.zeroValue240
 t39:=Tryz.underlying253
 a39:=Tryz.isAgg253
 z39:=Tryz.sizeOf253
 v39:=Tryz.zeroValue253
 t45:=Tryz.underlying282
 a45:=Tryz.isAgg282
 z45:=Tryz.sizeOf282
 v45:=Tryz.zeroValue282
 t46:=Tryz.underlying283
 a46:=Tryz.isAgg283
 z46:=Tryz.sizeOf283
 v46:=Tryz.zeroValue283
 t50:=Tryz.underlying287
 a50:=Tryz.isAgg287
 z50:=Tryz.sizeOf287
 v50:=Tryz.zeroValue287
 t53:=Tryz.underlying290
 a53:=Tryz.isAgg290
 z53:=Tryz.sizeOf290
 v53:=Tryz.zeroValue290
 t55:=Tryz.underlying38
 a55:=Tryz.isAgg38
 z55:=Tryz.sizeOf38
 v55:=Tryz.zeroValue38
 t66:=Tryz.underlying314
 a66:=Tryz.isAgg314
 z66:=Tryz.sizeOf314
 v66:=Tryz.zeroValue314
 t70:=Tryz.underlying318
 a70:=Tryz.isAgg318
 z70:=Tryz.sizeOf318
 v70:=Tryz.zeroValue318
 t76:=Tryz.underlying333
 a76:=Tryz.isAgg333
 z76:=Tryz.sizeOf333
 v76:=Tryz.zeroValue333
 t77:=Tryz.underlying70
 a77:=Tryz.isAgg70
 z77:=Tryz.sizeOf70
 v77:=Tryz.zeroValue70 }
set_option maxRecDepth 100000
abbrev dp:Type:=Int×Int×Unit
def sC(x y:dp):Int:=Je x.1 x.2.1 y.1 y.2.1
theorem N9{F:Nat→Prop}{w:World}(x:dp):ar F w (.agg [.int .i64 x.1,.int .i64 x.2.1]) (.agg (lE x).toArray):=by
 refine .agg _ _ rfl (fun i a h =>?_) (fun i a h =>?_)
 ·match i,h with
  | 0,h=>cases h;rfl
  | 1,h=>cases h;rfl
 ·match i,h with
  | 0,h=>cases h;exact .int _ _
  | 1,h=>cases h;exact .int _ _
theorem Xd(blk off size:Nat)(w:World):CmpLays Tryz.prog 190 #[] lE 2 sC blk off size w:=fun m os dk _ x y=>by
 have h:=LM (fun σ=>abz x.1 x.2.1 y.1 y.2.1 σ) (w:=sortWorldK lE 2 w blk off m dk os) (vs:= #[.agg (lE x).toArray,.agg (lE y).toArray]) ⟨rfl,fun i a h=>by
  match i,h with
  | 0,h=>cases h;exact N9 x
  | 1,h=>cases h;exact N9 y⟩
 exact h
theorem tK(x y:dp):ltOf sC x y=decide (x.1<y.1∨(x.1=y.1∧x.2.1<y.2.1)):=by
 unfold ltOf
 rw[decide_eq_decide]
 unfold sC Je yy uq
 split <;> split at * <;> (try split at *) <;> (try split) <;> omega
theorem abF:Go.Sort.SWO (ltOf sC) where
 irrefl x:=by rw[tK];simp
 trans x y z h1 h2:=by rw[tK]at *;simp only[decide_eq_true_eq]at *;omega
 ntrans x y z h1 h2:=by rw[tK]at *;simp only[decide_eq_false_iff_not]at *;omega
theorem abD(x y:dp)(h1:ltOf sC x y=false)(h2:ltOf sC y x=false):x=y:=by
 rw[tK]at *
 simp only[decide_eq_false_iff_not]at *
 obtain⟨a,b,_⟩:=x
 obtain⟨c,d,_⟩:=y
 have e1:a=c:=by simp only at h1 h2;omega
 have e2:b=d:=by simp only at h1 h2;omega
 rw[e1,e2]
def nL(l:List dp):List dp:=l.mergeSort fun x y => !(ltOf sC) y x
theorem Cd(l:List dp):(nL l).length=l.length:=List.length_mergeSort ..
theorem KQ:Enters Tryz.prog 189:=enters_of Tryz.func189 (by kernel_rfl)
theorem Sn:Enters Tryz.prog 190:=enters_of Tryz.func190 (by kernel_rfl)
theorem MQ{vs:Array Value}(h:2=vs.size):∃v u,vs = #[v,u]:=by
 refine⟨vs.getD 0 undef,vs.getD 1 undef,Array.ext ?_ fun i h2 h3 =>?_⟩
 ·simp[← h]
 ·have:i=0∨i=1:=by omega
  rcases this with rfl | rfl <;> simp[Array.getD,h2]
theorem fnv{F:Nat→Prop}{w:World}{f:Fn}{v:Value}(h:ar F w (.fn f [] []) v):v=.func f #[] #[]:=by
 cases h with
 | fn _ _ _ v1 v2 dX fq _ _ =>
  rw[Array.eq_empty_of_size_eq_zero dX.symm,Array.eq_empty_of_size_eq_zero fq.symm]
theorem Yi(x:dp):∀v∈lE x,v.oneCell'=true:=by
 intro v hv
 simp only[lE,List.mem_cons,List.not_mem_nil,or_false]at hv
 rcases hv with rfl | rfl <;> rfl
theorem PM(b:Nat)(L:List dp)(n:Nat)(σ:Hp)(hz:L.length=n)(hl:n≤1000000):ACalls Tryz.prog 189 [.ae b 0 n 2,.fn (.func 190) [] []] ((b,kI L)::σ) (az (.tup []) ((b,kI (nL L))::σ)):=by
 subst hz
 refine⟨KQ,fun F w vs bz ay =>?_⟩
 obtain⟨v,u,rfl⟩:=MQ bz.1
 have hv:ar F w (.ae b 0 L.length 2) v:=bz.2 0 _ rfl
 obtain rfl:=fnv (show ar F w (.fn (.func 190) [] []) u from bz.2 1 _ rfl)
 obtain⟨a,cap,rfl,c,T,fz,m1,m2,m3,m4⟩:=hv.jO
 rcases m4 with ⟨rfl,_⟩ | ⟨_,_,h0,_⟩
 ·obtain⟨h1,h2⟩:=aa3 (d:=Go.Sort.flatK lE 2 L.toArray) ay (Pk L) (by rw[Go.Sort.size_flatK,vd];rfl) (fun i x hx v hv=>by
   obtain⟨z,rfl,hz⟩:=Oq L i x hx
   rw[hz];exact hv.fk)
  have h:Calls Tryz.prog 189 #[.slice (some ⟨b,0,none⟩) L.length cap,.func (.func 190) #[] #[]] w fun e w'=>e=.returned (.tuple #[])∧∃n os,w'=sortWorldK lE 2 w b 0 n (nL L).toArray os:=AnyQ.slices_SortFunc_total H0 2 Tryz.isAgg202 Tryz.sizeOf202 lE (fun _=>rfl) Yi sC abF 190 #[] b 0 cap L.toArray w Sn (Xd b 0 L.length w) h1 h2 (by show L.length<_;omega) abD
  refine h.mono ?_
  rintro e w' ⟨rfl,n,os,rfl⟩
  obtain⟨k1,k2⟩:=V7 (n:=n) (cs':=kI (nL L)) (d:=Go.Sort.flatK lE 2 (nL L).toArray) ay (Pk L) (by rw[vd,vd,Cd]) (by rw[Go.Sort.size_flatK,vd];rfl) (fun i x hx=>by
   obtain⟨z,rfl,hz⟩:=Oq (nL L) i x hx
   rw[hz];exact⟨rfl,.int _ _⟩) os
  exact⟨.tup [],.tuple #[],_,F,rfl,k1,k2,.tup [] #[] rfl fun i x h=>by simp at h,rfl,rfl⟩
 ·have hz:L=[]:=List.length_eq_zero_iff.1 h0
  subst hz
  have h:Calls Tryz.prog 189 #[.slice (some a) 0 cap,.func (.func 190) #[] #[]] w fun e w'=>e=.returned (.tuple #[])∧w'=w:=AnyF.slices_SortFunc_none H0 (some a) cap _ w
  have he:nL []=[]:=List.length_eq_zero_iff.1 (Cd [])
  rw[he]
  refine h.mono ?_
  rintro e w' ⟨rfl,rfl⟩
  exact⟨.tup [],.tuple #[],_,F,rfl,.refl _ _,ay,.tup [] #[] rfl fun i x h=>by simp at h,rfl,rfl⟩
set_option maxRecDepth 100000
abbrev ke:Sh:=.field (.int .i64) (.field (.int .i64) .nil)
theorem Zy(L:List dp)(σ:Hp)(hl:L.length≤1000000)(h0:L≠[]):ACalls Tryz.prog 188 [.ah ke L] σ (fun x σ'=>∃b,x=.ae b 0 L.length 2∧σ'=(b,kI L)::σ):=by
 refine okF Tryz.func188 (by kernel_rfl) ?_
 refine ag.mk (List.length_pos_iff.2 h0) ?_
 intro b2
 refine AppendAt.more 0 b2 0 L.length [] (kI L) rfl rfl (Nat.le_of_ble_eq_true rfl) (.ah _ _ rfl) (by omega) (by decide) (by decide) (fun b' =>?_)
 refine .done ⟨b',?_,?_⟩
 ·rw[Nat.zero_add];rfl
 ·rfl
theorem Xw(σ:Hp):ACalls Tryz.prog 188 [.af] σ (az .af σ):=by
 refine okF Tryz.func188 (by kernel_rfl) ?_
 exact .done ⟨rfl,rfl⟩
theorem Xv(σ:Hp):ACalls Tryz.prog 188 [.ft] σ (fun x σ'=>∃b,x=.ae b 0 0 2∧σ'=(b,[])::σ):=by
 refine okF Tryz.func188 (by kernel_rfl) ?_
 intro b2
 refine AppendAt.more 0 b2 0 0 [] [] rfl rfl (Nat.le_of_ble_eq_true rfl) .ft (by omega) (by decide) (by decide) (fun b' =>?_)
 exact .done ⟨b',rfl,rfl⟩
theorem Zg(σ:Hp):ACalls Tryz.prog 189 [.af,.fn (.func 190) [] []] σ (az (.tup []) σ):=by
 refine⟨KQ,fun F w vs bz ay =>?_⟩
 obtain⟨v,u,rfl⟩:=MQ bz.1
 have hv:ar F w .af v:=bz.2 0 _ rfl
 cases hv
 have h:Calls Tryz.prog 189 #[.slice none 0 0,u] w fun e w'=>e=.returned (.tuple #[])∧w'=w:=AnyF.slices_SortFunc_none H0 none 0 u w
 refine h.mono ?_
 rintro e w' ⟨rfl,rfl⟩
 exact⟨.tup [],.tuple #[],_,F,rfl,.refl _ _,ay,.tup [] #[] rfl fun i x h=>by simp at h,rfl,rfl⟩
theorem TM(σ:Hp):ACalls Tryz.prog 193 [.af,.fn (.func 194) [] []] σ (az .af σ):=by
 refine okF Tryz.func193 (by kernel_rfl) ?_
 exact .done ⟨rfl,rfl⟩
def iw(L:List dp):List dp:=oW (nL L)
theorem Lc(L:List dp)(σ:Hp)(hl:L.length≤1000000):ACalls Tryz.prog 143 [.ah ke L] σ (az (.ah ke (iw L)) σ):=by
 have hn:nL []=[]:=List.length_eq_zero_iff.1 (Cd [])
 have mr:iw []=[]:=by unfold iw;rw[hn];rfl
 refine ze (fun h =>?_) (fun h =>?_)
 ·subst h
  refine⟨?_,?_⟩
  ·refine okF Tryz.func143 (by kernel_rfl) ?_
   refine ax [] (Xw σ) ?_
   refine ax [] (Zg _) ?_
   refine ax [] (TM _) ?_
   exact .nil (.nil ke) (.done ⟨congrArg (AV.ah ke) mr.symm,rfl⟩)
  ·refine okF Tryz.func143 (by kernel_rfl) ?_
   refine .mk [] _ (Xv σ) ?_
   rintro _ _ ⟨b,rfl,rfl⟩
   have hs:=PM b [] 0 σ rfl (by decide)
   rw[hn]at hs
   refine ax [] hs ?_
   refine .mk [] _ (MI b [] σ (by decide)) ?_
   rintro _ _ ⟨k,cs,hk,jf,rfl,rfl⟩
   subst hk
   exact .cb 0 b 0 _ 2 cs ke ([]:List dp) rfl jf ⟨rfl,rfl,by decide⟩ .here (.done ⟨congrArg (AV.ah ke) mr.symm,rfl⟩)
 ·refine okF Tryz.func143 (by kernel_rfl) ?_
  refine .mk [] _ (Zy L σ hl h) ?_
  rintro _ _ ⟨b,rfl,rfl⟩
  refine ax [] (PM b L L.length σ rfl hl) ?_
  have bV:(nL L).length=L.length:=Cd L
  have hc:=MI b (nL L) σ (by rw[bV];exact hl)
  rw[bV]at hc
  refine .mk [] _ hc ?_
  rintro _ _ ⟨k,cs,hk,jf,rfl,rfl⟩
  subst hk
  exact .cb 0 b 0 _ 2 cs ke (iw L) rfl jf ⟨rfl,rfl,by decide⟩ .here (.done ⟨rfl,rfl⟩)
def lG(x y:dp):Prop:=x.1<y.1∨(x.1=y.1∧x.2.1<y.2.1)
def yz(x y:dp):Prop:=x.1<y.1∨(x.1=y.1∧x.2.1≤y.2.1)
theorem Pj{x y:dp}(h1:x.1=y.1)(h2:x.2.1=y.2.1):x=y:=by
 obtain⟨a,b,_⟩:=x
 obtain⟨c,d,_⟩:=y
 simp only at h1 h2
 rw[h1,h2]
theorem NJ:∀{l m:List dp},l.Pairwise lG→m.Pairwise lG→(∀x,x∈l↔x∈m)→l=m
 | [],[],_,_,_=>rfl
 | [],y::m,_,_,h=>absurd ((h y).2 (List.mem_cons_self ..)) List.not_mem_nil
 | x::l,[],_,_,h=>absurd ((h x).1 (List.mem_cons_self ..)) List.not_mem_nil
 | x::l,y::m,hl,hm,h=>by
  have h1:=List.pairwise_cons.1 hl
  have h2:=List.pairwise_cons.1 hm
  have aG:x=y:=by
   have a:=(h x).1 (List.mem_cons_self ..)
   have b:=(h y).2 (List.mem_cons_self ..)
   rcases List.mem_cons.1 a with a | a
   ·exact a
   ·rcases List.mem_cons.1 b with b | b
    ·exact b.symm
    ·have p:=h1.1 y b
     have q:=h2.1 x a
     unfold lG at p q
     omega
  subst aG
  refine congrArg (x :: ·) (NJ h1.2 h2.2 fun z=>⟨fun hz =>?_,fun hz =>?_⟩)
  ·rcases List.mem_cons.1 ((h z).1 (List.mem_cons_of_mem _ hz)) with e | e
   ·subst e
    have p:=h1.1 z hz
    unfold lG at p
    omega
   ·exact e
  ·rcases List.mem_cons.1 ((h z).2 (List.mem_cons_of_mem _ hz)) with e | e
   ·subst e
    have p:=h2.1 z hz
    unfold lG at p
    omega
   ·exact e
theorem RG(l:List dp):(nL l).Pairwise yz:=by
 have:=List.pairwise_mergeSort (le:=fun x y:dp => !(ltOf sC) y x) (fun a b c h1 h2=>by
  rw[tK]at *
  simp only[Bool.not_eq_true',decide_eq_false_iff_not]at *
  omega) (fun a b=>by
  rw[tK,tK,Bool.or_eq_true]
  simp only[Bool.not_eq_true',decide_eq_false_iff_not]
  omega) l
 refine this.imp fun {x y} h =>?_
 rw[tK]at h
 simp only[Bool.not_eq_true',decide_eq_false_iff_not]at h
 unfold yz
 omega
theorem T0(l:List dp)(x:dp):x∈nL l↔x∈l:=List.mem_mergeSort
theorem OH{l:List dp}(h:l.Pairwise yz){i j:Nat}(gX:i≤j)(hj:j<l.length):yz (l[i]'(by omega)) l[j]:=by
 by_cases e:i=j
 ·subst e;exact .inr ⟨rfl,Int.le_refl _⟩
 ·exact List.pairwise_iff_getElem.1 h i j (by omega) hj (by omega)
theorem U5{l:List dp}(h:l.Pairwise yz):(oW l).Pairwise lG:=by
 unfold oW mS
 rw[List.pairwise_map]
 have hr:((List.range l.length).filter (mQ l)).Pairwise fun i j=>i<j∧j<l.length∧mQ l j=true:=by
  have h1:(List.range l.length).Pairwise fun i j=>i<j∧j<l.length:=by
   rw[List.pairwise_iff_getElem]
   intro i j hi hj gX
   simp only[List.getElem_range]
   exact⟨gX,by simpa using hj⟩
  rw[List.pairwise_filter]
  exact h1.imp fun gX _ hk=>⟨gX.1,gX.2,hk⟩
 refine hr.imp fun {i j} ⟨h1,h2,h3⟩ =>?_
 have hk:l[j]≠l[j-1]'(by omega):=by
  unfold mQ at h3
  rw[kC h2,kC (show j-1<l.length by omega)]at h3
  simp only[Bool.or_eq_true,decide_eq_true_eq,Bool.not_eq_true',decide_eq_false_iff_not]at h3
  rcases h3 with h3 | h3
  ·omega
  ·exact h3
 rw[kC h2,kC (show i<l.length by omega)]
 have q1:=OH h (i:=i) (j:=j-1) (by omega) (by omega)
 have q2:=OH h (i:=j-1) (j:=j) (by omega) h2
 have aI:¬((l[j]).1=(l[j-1]'(by omega)).1∧(l[j]).2.1=(l[j-1]'(by omega)).2.1):=fun e=>hk (Pj e.1 e.2)
 unfold yz at q1 q2
 unfold lG
 omega
theorem U4{l:List dp}(x:dp):x∈oW l↔x∈l:=by
 unfold oW mS
 constructor
 ·intro hx
  obtain⟨j,hj,rfl⟩:=List.mem_map.1 hx
  have hj:=List.mem_range.1 (List.mem_filter.1 hj).1
  rw[kC hj];exact List.getElem_mem hj
 ·intro hx
  obtain⟨j,⟨hj,e⟩,gl⟩:∃j,(∃h:j<l.length,l[j]=x)∧∀k,k<j→¬∃h:k<l.length,l[k]=x:=by
   obtain⟨j,hj,e⟩:=List.mem_iff_getElem.1 hx
   have hj:∃h:j<l.length,l[j]=x:=⟨hj,e⟩
   clear e
   induction j using Nat.strongRecOn with
   | ind j ih =>
    by_cases hk:∃k,k<j∧∃h:k<l.length,l[k]=x
    ·obtain⟨k,h1,h2⟩:=hk
     exact ih k h1 h2.1 h2
    ·exact⟨j,hj,fun k h1 h2=>hk ⟨k,h1,h2⟩⟩
  refine List.mem_map.2 ⟨j,List.mem_filter.2 ⟨List.mem_range.2 hj,?_⟩,by rw[kC hj];exact e⟩
  unfold mQ
  by_cases h0:j=0
  ·rw[decide_eq_true h0];rfl
  ·rw[decide_eq_false h0,Bool.false_or,kC hj,kC (show j-1<l.length by omega)]
   rw[Bool.not_eq_true',decide_eq_false_iff_not]
   exact fun h=>gl (j-1) (by omega) ⟨by omega,h.symm.trans e⟩
theorem RW(l:List dp):(iw l).Pairwise lG:=U5 (RG l)
theorem KU(l:List dp)(x:dp):x∈iw l↔x∈l:=by unfold iw;rw[U4,T0]
def ng(x:dp):List dp→List dp
 | []=>[x]
 | y::r=>if x.1<y.1∨(x.1=y.1∧x.2.1≤y.2.1) then (if x=y then y::r else x::y::r) else y::ng x r
theorem G2(x:dp):∀(l:List dp) (z:dp),z∈ng x l↔z=x∨z∈l
 | [],z=>by unfold ng;rw[List.mem_singleton];simp
 | y::r,z=>by
  unfold ng
  split
  ·split
   ·rename_i h;subst h;rw[List.mem_cons]
    exact⟨fun h=>.inr h,fun h=>h.elim .inl id⟩
   ·rw[List.mem_cons]
  ·rw[List.mem_cons,G2 x r z,List.mem_cons]
   exact⟨fun h=>h.elim (fun h=>.inr (.inl h)) fun h=>h.elim .inl fun h=>.inr (.inr h),fun h=>h.elim (fun h=>.inr (.inl h)) fun h=>h.elim .inl fun h=>.inr (.inr h)⟩
theorem NI(x:dp):∀{l:List dp},l.Pairwise lG→(ng x l).Pairwise lG
 | [],_=>List.pairwise_singleton ..
 | y::r,h=>by
  have h1:=List.pairwise_cons.1 h
  unfold ng
  split
  ·rename_i hle
   split
   ·exact h
   ·rename_i aI
    have ab:lG x y:=by
     have:¬(x.1=y.1∧x.2.1=y.2.1):=fun e=>aI (Pj e.1 e.2)
     unfold lG
     omega
    refine List.pairwise_cons.2 ⟨fun z hz =>?_,h⟩
    rcases List.mem_cons.1 hz with e | e
    ·rw[e];exact ab
    ·have:=h1.1 z e
     unfold lG at this ab ⊢
     omega
  ·rename_i hgt
   refine List.pairwise_cons.2 ⟨fun z hz =>?_,NI x h1.2⟩
   rcases (G2 x r z).1 hz with e | e
   ·rw[e];unfold lG;omega
   ·exact h1.1 z e
theorem WQ(l:List dp):l.foldl (fun o x=>ng x o) []=iw l:=by
 have key:∀(l o:List dp),o.Pairwise lG→(l.foldl (fun o x=>ng x o) o).Pairwise lG∧∀z,z∈l.foldl (fun o x=>ng x o) o↔z∈o∨z∈l:=by
  intro l
  induction l with
  | nil=>intro o ho;exact⟨ho,fun z=>by simp⟩
  | cons x l ih =>
   intro o ho
   obtain⟨k1,k2⟩:=ih (ng x o) (NI x ho)
   refine⟨k1,fun z =>?_⟩
   rw[List.foldl_cons,k2,G2,List.mem_cons]
   exact⟨fun h=>h.elim (fun h=>h.elim (fun h=>.inr (.inl h)) .inl) fun h=>.inr (.inr h),fun h=>h.elim (fun h=>.inl (.inr h)) fun h=>h.elim (fun h=>.inl (.inl h)) .inr⟩
 obtain⟨k1,k2⟩:=key l [] List.Pairwise.nil
 refine NJ k1 (RW l) fun z =>?_
 rw[k2,KU];simp
def yh(B:List dp)(k:Nat):List dp:=(B.take k).foldl (fun o x=>ng x o) []
theorem UN{B:List dp}{k:Nat}(h:k<B.length):yh B (k+1)=ng B[k] (yh B k):=by
 unfold yh;rw[List.take_succ_eq_append_getElem h,List.foldl_append];rfl
theorem NH(x:dp):∀l,(ng x l).length≤l.length+1
 | []=>Nat.le_refl _
 | y::r=>by
  unfold ng
  split
  ·split
   ·simp only[List.length_cons];omega
   ·simp only[List.length_cons];omega
  ·have:=NH x r
   simp only[List.length_cons];omega
theorem NG(B:List dp):∀k,k≤B.length→(yh B k).length≤k
 | 0,_=>Nat.le_refl _
 | k+1,h=>by
  have h1:=NG B k (by omega)
  rw[UN (by omega)]
  exact Nat.le_trans (NH _ _) (by omega)
theorem WC(B:List dp):yh B B.length=iw B:=by unfold yh;rw[List.take_length];exact WQ B
end Go.Proofs.YtnpidbjdilnhlaaGreat
