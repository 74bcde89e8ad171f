import Derived.Shelf.SlSortCmp.NoneTotal
import Derived.Test.YtnikdflhefijbaaGreatBn5
import Derived.Test.YtnikdflhefijbaaGreatBn10
import Derived.Test.YtnikdflhefijbaaGreatBn8
import Derived.Test.YtnikdflhefijbaaGreatBn9
import Derived.Test.YtnikdflhefijbaaGreatBn6
namespace Go.Proofs.YtnikdflhefijbaaGreat
open Go.Shelf
def Zf:Go.Shelf.Ren:=⟨fun | 6=>181 | 15=>233 | 14=>232 | 28=>274 | 29=>275 | 20=>266 | 21=>267 | 22=>268 | 23=>269 | 24=>270 | 25=>271 | 26=>272 | 27=>273 | 46=>295 | 47=>296 | 48=>297 | 49=>298 | 50=>299 | 57=>327 | n=>n,fun | 22=>22 | 24=>227 | 25=>250 | 3=>3 | 39=>253 | 0=>0 | 53=>284 | 55=>56 | 4=>4 | 46=>308 | 45=>307 | 50=>312 | 5=>5 | 9=>9 | 66=>331 | 70=>335 | 76=>353 | 77=>50 | n=>n,fun | n=>n⟩
theorem MX:Go.Proofs.SlLaysF0.n6 Tryz.prog Zf:= {
 mixed:=by kernel_rfl
 f6 := ⟨"slices.SortFunc[[]sough/api.Edge,sough/api.Edge]", by decide, Tryz.func181.trans (congrArg some (by kernel_rfl))⟩
 f14 := ⟨"slices.pdqsortCmpFunc[sough/api.Edge]", by decide, Tryz.func232.trans (congrArg some (by kernel_rfl))⟩
 f15:=Tryz.func233.trans (congrArg some (by kernel_rfl))
 f20 := ⟨"slices.insertionSortCmpFunc[sough/api.Edge]", by decide, Tryz.func266.trans (congrArg some (by kernel_rfl))⟩
 f21 := ⟨"slices.heapSortCmpFunc[sough/api.Edge]", by decide, Tryz.func267.trans (congrArg some (by kernel_rfl))⟩
 f22 := ⟨"slices.breakPatternsCmpFunc[sough/api.Edge]", by decide, Tryz.func268.trans (congrArg some (by kernel_rfl))⟩
 f23 := ⟨"slices.choosePivotCmpFunc[sough/api.Edge]", by decide, Tryz.func269.trans (congrArg some (by kernel_rfl))⟩
 f24 := ⟨"slices.reverseRangeCmpFunc[sough/api.Edge]", by decide, Tryz.func270.trans (congrArg some (by kernel_rfl))⟩
 f25 := ⟨"slices.partialInsertionSortCmpFunc[sough/api.Edge]", by decide, Tryz.func271.trans (congrArg some (by kernel_rfl))⟩
 f26 := ⟨"slices.partitionEqualCmpFunc[sough/api.Edge]", by decide, Tryz.func272.trans (congrArg some (by kernel_rfl))⟩
 f27 := ⟨"slices.partitionCmpFunc[sough/api.Edge]", by decide, Tryz.func273.trans (congrArg some (by kernel_rfl))⟩
 f28:=Tryz.func274.trans (congrArg some (by kernel_rfl))
 f29:=Tryz.func275.trans (congrArg some (by kernel_rfl))
 f46 := ⟨"slices.siftDownCmpFunc[sough/api.Edge]", by decide, Tryz.func295.trans (congrArg some (by kernel_rfl))⟩
 f47:=Tryz.func296.trans (congrArg some (by kernel_rfl))
 f48:=Tryz.func297.trans (congrArg some (by kernel_rfl))
 f49 := ⟨"slices.medianAdjacentCmpFunc[sough/api.Edge]", by decide, Tryz.func298.trans (congrArg some (by kernel_rfl))⟩
 f50 := ⟨"slices.medianCmpFunc[sough/api.Edge]", by decide, Tryz.func299.trans (congrArg some (by kernel_rfl))⟩
 f57 := ⟨"slices.order2CmpFunc[sough/api.Edge]", by decide, Tryz.func327.trans (congrArg some (by kernel_rfl))⟩
 t0:=Tryz.underlying0
 a0:=Tryz.isAgg0
 z0:=Tryz.sizeOf0
 v0:=Tryz.zeroValue0
 t3:=Tryz.underlying3
 a3:=Tryz.isAgg3
 z3:=Tryz.sizeOf3
 v3:=Tryz.zeroValue3
 t4:=Tryz.underlying4
 a4:=Tryz.isAgg4
 z4:=Tryz.sizeOf4
 v4:=Tryz.zeroValue4
 t5:=Tryz.underlying5
 a5:=Tryz.isAgg5
 z5:=Tryz.sizeOf5
 v5:=Tryz.zeroValue5
 t9:=Tryz.underlying9
 a9:=Tryz.isAgg9
 z9:=Tryz.sizeOf9
 v9:=Tryz.zeroValue9
 t22:=Tryz.underlying22
 a22:=Tryz.isAgg22
 z22:=Tryz.sizeOf22
 v22:=Tryz.zeroValue22
 t25:=Tryz.underlying250
 a25:=Tryz.isAgg250
 z25:=Tryz.sizeOf250
 v25:=Tryz.zeroValue250
 t39:=Tryz.underlying253
 a39:=Tryz.isAgg253
 z39:=Tryz.sizeOf253
 v39:=Tryz.zeroValue253
 t45:=Tryz.underlying307
 a45:=Tryz.isAgg307
 z45:=Tryz.sizeOf307
 v45:=Tryz.zeroValue307
 t46:=Tryz.underlying308
 a46:=Tryz.isAgg308
 z46:=Tryz.sizeOf308
 v46:=Tryz.zeroValue308
 t50:=Tryz.underlying312
 a50:=Tryz.isAgg312
 z50:=Tryz.sizeOf312
 v50:=Tryz.zeroValue312
 t53:=Tryz.underlying284
 a53:=Tryz.isAgg284
 z53:=Tryz.sizeOf284
 v53:=Tryz.zeroValue284
 t55:=Tryz.underlying56
 a55:=Tryz.isAgg56
 z55:=Tryz.sizeOf56
 v55:=Tryz.zeroValue56
 t66:=Tryz.underlying331
 a66:=Tryz.isAgg331
 z66:=Tryz.sizeOf331
 v66:=Tryz.zeroValue331
 t70:=Tryz.underlying335
 a70:=Tryz.isAgg335
 z70:=Tryz.sizeOf335
 v70:=Tryz.zeroValue335
 t76:=Tryz.underlying353
 a76:=Tryz.isAgg353
 z76:=Tryz.sizeOf353
 v76:=Tryz.zeroValue353
 t77:=Tryz.underlying50
 a77:=Tryz.isAgg50
 z77:=Tryz.sizeOf50
 v77:=Tryz.zeroValue50 }
set_option maxRecDepth 100000
abbrev qk:Type:=Int×Int×Unit
def xZ(x y:qk):Int:=Od x.1 x.2.1 y.1 y.2.1
theorem Uf{F:Nat→Prop}{w:World}(x:qk):aA F w (.agg [.int .i64 x.1,.int .i64 x.2.1]) (.agg (nR x).toArray):=by
 refine .agg _ _ rfl (fun i a h=>?_) (fun i a h=>?_)
 ·match i,h with
  | 0,h=>cases h;rfl
  | 1,h=>cases h;rfl
 ·match i,h with
  | 0,h=>cases h;exact .int _ _
  | 1,h=>cases h;exact .int _ _
theorem acK(blk off size:Nat)(w:World):CmpLays Tryz.prog 182 #[] nR 2 xZ blk off size w:=fun m os dk _ x y=>by
 have h:=Rj (fun σ=>ahG x.1 x.2.1 y.1 y.2.1 σ) (w:=sortWorldK nR 2 w blk off m dk os) (vs:= #[.agg (nR x).toArray,.agg (nR y).toArray]) ⟨rfl,fun i a h=>by
  match i,h with
  | 0,h=>cases h;exact Uf x
  | 1,h=>cases h;exact Uf y⟩
 exact h
theorem HK(x y:qk):ltOf xZ x y=decide (x.1<y.1∨(x.1=y.1∧x.2.1<y.2.1)):=by
 unfold ltOf
 rw[decide_eq_decide]
 unfold xZ Od BZ x4
 split <;> split at * <;> (try split at *) <;> (try split) <;> omega
theorem ahL:Go.Sort.SWO (ltOf xZ) where
 irrefl x:=by rw[HK];simp
 trans x y z h1 h2:=by rw[HK]at *;simp only[decide_eq_true_eq]at *;omega
 ntrans x y z h1 h2:=by rw[HK]at *;simp only[decide_eq_false_iff_not]at *;omega
theorem ahK(x y:qk)(h1:ltOf xZ x y=false)(h2:ltOf xZ y x=false):x=y:=by
 rw[HK]at *
 simp only[decide_eq_false_iff_not]at *
 obtain⟨a,b,_⟩:=x
 obtain⟨c,d,_⟩:=y
 have e1:a=c:=by simp only at h1 h2;omega
 have e2:b=d:=by simp only at h1 h2;omega
 rw[e1,e2]
def sB(l:List qk):List qk:=l.mergeSort fun x y=> !(ltOf xZ) y x
theorem Gt(l:List qk):(sB l).length=l.length:=PB ..
theorem Qo:Enters Tryz.prog 181:=enters_of Tryz.func181 (by kernel_rfl)
theorem Yz:Enters Tryz.prog 182:=enters_of Tryz.func182 (by kernel_rfl)
theorem SF{vs:Array Value}(h:2=vs.size):∃v u,vs = #[v,u]:=by
 refine⟨vs.getD 0 undef,vs.getD 1 undef,Array.ext ?_ fun i h2 h3=>?_⟩
 ·simp[← h]
 ·have:i=0∨i=1:=by omega
  rcases this with rfl | rfl <;> simp[Array.getD,h2]
theorem fnv{F:Nat→Prop}{w:World}{f:Fn}{v:Value}(h:aA F w (.fn f [] []) v):v=.func f #[] #[]:=by
 cases h with
 |fn _ _ _ v1 v2 fy gO _ _=>
  rw[KI fy.symm,KI gO.symm]
theorem ae2(x:qk):∀v∈nR x,v.oneCell'=true:=by
 intro v hv
 simp only[nR,eB,Al,or_false]at hv
 rcases hv with rfl | rfl <;> rfl
theorem VQ(b:Nat)(L:List qk)(n:Nat)(σ:Hp)(hz:L.length=n)(hl:n≤1000000):ACalls Tryz.prog 181 [.af b 0 n 2,.fn (.func 182) [] []] ((b,mW L)::σ) (ay (.tup []) ((b,mW (sB L))::σ)):=by
 subst hz
 refine⟨Qo,fun F w vs bR aF =>?_⟩
 obtain⟨v,u,rfl⟩:=SF bR.1
 have hv:aA F w (.af b 0 L.length 2) v:=bR.2 0 _ rfl
 obtain rfl:=fnv (show aA F w (.fn (.func 182) [] []) u from bR.2 1 _ rfl)
 obtain⟨a,cap,rfl,c,T,fz,m1,m2,m3,m4⟩:=hv.lr
 rcases m4 with ⟨rfl,_⟩ | ⟨_,_,h0,_⟩
 ·obtain⟨h1,h2⟩:=ag8 (d:=Go.Sort.flatK nR 2 L.toArray) aF (Vn L) (by rw[Go.Sort.size_flatK,yO];rfl) (fun i x hx v hv=>by
   obtain⟨z,rfl,hz⟩:=Uu L i x hx
   rw[hz];exact hv.gJ)
  have h:Calls Tryz.prog 181 #[.slice (some ⟨b,0,none⟩) L.length cap,.func (.func 182) #[] #[]] w fun e w'=>e=.returned (.tuple #[])∧∃n os,w'=sortWorldK nR 2 w b 0 n (sB L).toArray os:=AnyQ.slices_SortFunc_total MX 2 Tryz.isAgg227 Tryz.sizeOf227 nR (fun _=>rfl) ae2 xZ ahL 182 #[] b 0 cap L.toArray w Yz (acK b 0 L.length w) h1 h2 (by show L.length<_;omega) ahK
  refine h.mono ?_
  rintro e w' ⟨rfl,n,os,rfl⟩
  obtain⟨k1,k2⟩:=abL (n:=n) (cs':=mW (sB L)) (d:=Go.Sort.flatK nR 2 (sB L).toArray) aF (Vn L) (by rw[yO,yO,Gt]) (by rw[Go.Sort.size_flatK,yO];rfl) (fun i x hx=>by
   obtain⟨z,rfl,hz⟩:=Uu (sB L) i x hx
   rw[hz];exact⟨rfl,.int _ _⟩) os
  exact⟨.tup [],.tuple #[],_,F,rfl,k1,k2,.tup [] #[] rfl fun i x h=>by simp at h,rfl,rfl⟩
 ·have hz:L=[]:=iE.1 h0
  subst hz
  have h:Calls Tryz.prog 181 #[.slice (some a) 0 cap,.func (.func 182) #[] #[]] w fun e w'=>e=.returned (.tuple #[])∧w'=w:=AnyF.slices_SortFunc_none MX (some a) cap _ w
  have he:sB []=[]:=iE.1 (Gt [])
  rw[he]
  refine h.mono ?_
  rintro e w' ⟨rfl,rfl⟩
  exact⟨.tup [],.tuple #[],_,F,rfl,.refl _ _,aF,.tup [] #[] rfl fun i x h=>by simp at h,rfl,rfl⟩
abbrev mm:Sh:=.field (.int .i64) (.field (.int .i64) .nil)
theorem aft(L:List qk)(σ:Hp)(hl:L.length≤1000000)(h0:L≠[]):ACalls Tryz.prog 180 [.ae mm L] σ (fun x σ'=>∃b,x=.af b 0 L.length 2∧σ'=(b,mW L)::σ):=by
 refine ar Tryz.func180 ?_
 refine aG.mk (mG.2 h0) ?_
 intro b2
 refine AppendAt.more 0 b2 0 L.length [] (mW L) rfl rfl (cI rfl) (.ae _ _ rfl) (by omega) (by decide) (by decide) (fun b'=>?_)
 refine .done ⟨b',?_,?_⟩
 ·rw[dR];rfl
 ·rfl
theorem adg(σ:Hp):ACalls Tryz.prog 180 [.ai] σ (ay .ai σ):=by
 refine ar Tryz.func180 ?_
 exact .done ⟨rfl,rfl⟩
theorem adf(σ:Hp):ACalls Tryz.prog 180 [.gQ] σ (fun x σ'=>∃b,x=.af b 0 0 2∧σ'=(b,[])::σ):=by
 refine ar Tryz.func180 ?_
 intro b2
 refine AppendAt.more 0 b2 0 0 [] [] rfl rfl (cI rfl) .gQ (by omega) (by decide) (by decide) (fun b'=>?_)
 exact .done ⟨b',rfl,rfl⟩
theorem af6(σ:Hp):ACalls Tryz.prog 181 [.ai,.fn (.func 182) [] []] σ (ay (.tup []) σ):=by
 refine⟨Qo,fun F w vs bR aF =>?_⟩
 obtain⟨v,u,rfl⟩:=SF bR.1
 have hv:aA F w .ai v:=bR.2 0 _ rfl
 cases hv
 have h:Calls Tryz.prog 181 #[.slice none 0 0,u] w fun e w'=>e=.returned (.tuple #[])∧w'=w:=AnyF.slices_SortFunc_none MX none 0 u w
 refine h.mono ?_
 rintro e w' ⟨rfl,rfl⟩
 exact⟨.tup [],.tuple #[],_,F,rfl,.refl _ _,aF,.tup [] #[] rfl fun i x h=>by simp at h,rfl,rfl⟩
theorem ZN(σ:Hp):ACalls Tryz.prog 185 [.ai,.fn (.func 186) [] []] σ (ay .ai σ):=by
 refine ar Tryz.func185 ?_
 exact .done ⟨rfl,rfl⟩
def A0(L:List qk):List qk:=xP (sB L)
theorem YQ(L:List qk)(σ:Hp)(hl:L.length≤1000000):ACalls Tryz.prog 133 [.ae mm L] σ (ay (.ae mm (A0 L)) σ):=by
 have hn:sB []=[]:=iE.1 (Gt [])
 have o9:A0 []=[]:=by unfold A0;rw[hn];rfl
 refine CV (fun h=>?_) (fun h=>?_)
 ·subst h
  refine⟨?_,?_⟩
  ·refine ar Tryz.func133 ?_
   refine aw [] (adg σ) ?_
   refine aw [] (af6 _) ?_
   refine aw [] (ZN _) ?_
   exact .nil (.nil mm) (.done ⟨congrArg (AV.ae mm) o9.symm,rfl⟩)
  ·refine ar Tryz.func133 ?_
   refine .mk [] _ (adf σ) ?_
   rintro _ _ ⟨b,rfl,rfl⟩
   have hs:=VQ b [] 0 σ rfl (by decide)
   rw[hn]at hs
   refine aw [] hs ?_
   refine .mk [] _ (Sw b [] σ (by decide)) ?_
   rintro _ _ ⟨k,cs,hk,jB,rfl,rfl⟩
   subst hk
   exact .cJ 0 b 0 _ 2 cs mm ([]:List qk) rfl jB ⟨rfl,rfl,by decide⟩ .here (.done ⟨congrArg (AV.ae mm) o9.symm,rfl⟩)
 ·refine ar Tryz.func133 ?_
  refine .mk [] _ (aft L σ hl h) ?_
  rintro _ _ ⟨b,rfl,rfl⟩
  refine aw [] (VQ b L L.length σ rfl hl) ?_
  have df:(sB L).length=L.length:=Gt L
  have hc:=Sw b (sB L) σ (by rw[df];exact hl)
  rw[df]at hc
  refine .mk [] _ hc ?_
  rintro _ _ ⟨k,cs,hk,jB,rfl,rfl⟩
  subst hk
  exact .cJ 0 b 0 _ 2 cs mm (A0 L) rfl jB ⟨rfl,rfl,by decide⟩ .here (.done ⟨rfl,rfl⟩)
theorem Mp{α:Type}(fr σ:List α)(x y:α):(fr++(x::σ)).set fr.length y=fr++(y::σ):=by
 rw[KL _ _ (a8 _),qd];rfl
theorem adk(l:List (Sh.T mm))(σ:Hp)(hl:l.length≤1000000):ACalls Tryz.prog 180 [.ae mm l] σ (fun x σ'=>∃acc,Acc 2 l.length x acc (l.flatMap (Sh.cells mm))∧σ'=acc++σ):=by
 refine CV (fun h=>⟨?_,?_⟩) (fun h=>?_)
 ·subst h
  refine ar Tryz.func180 ?_
  exact .done ⟨[],.nil,rfl⟩
 ·subst h
  refine ar Tryz.func180 ?_
  intro b
  refine AppendAt.more 0 b 0 0 [] _ rfl rfl (cI rfl) .gQ (by decide) (by decide) (by decide) (fun b'=>?_)
  exact .done ⟨[(b',[])],.af b' 0 [] rfl,rfl⟩
 ·refine ar Tryz.func180 ?_
  refine aG.mk (mG.2 h) ?_
  intro b
  refine AppendAt.more 0 b 0 l.length [] _ rfl rfl (cI rfl) (.ae mm l rfl) (by omega) (by decide) (by decide) (fun b'=>?_)
  refine .done ⟨[(b',l.flatMap (Sh.cells mm))],?_,rfl⟩
  rw[dR];exact .af b' l.length _ (w8 (f:=Sh.cells mm) (es:=2) (fun _=>rfl) l)
theorem adj(l:List (Sh.T mm))(σ:Hp)(hl:l.length≤1000000):ACalls Tryz.prog 180 [.ae mm l] σ (ay (.ae mm l) σ):=by
 refine (adk l σ hl).fin ?_
 rintro v σ' ⟨acc,bY,rfl⟩
 exact qs (s:=mm) [] bY rfl rfl (by decide) (.done ⟨rfl,rfl⟩)
theorem adi(l:List (Sh.T (.int .i64)))(σ:Hp)(hl:l.length≤1000000):ACalls Tryz.prog 220 [.ae (.int .i64) l] σ (fun x σ'=>∃acc,Acc 1 l.length x acc (l.flatMap (Sh.cells (.int .i64)))∧σ'=acc++σ):=by
 refine CV (fun h=>⟨?_,?_⟩) (fun h=>?_)
 ·subst h
  refine ar Tryz.func220 ?_
  exact .done ⟨[],.nil,rfl⟩
 ·subst h
  refine ar Tryz.func220 ?_
  intro b
  refine AppendAt.more 0 b 0 0 [] _ rfl rfl (cI rfl) .gQ (by decide) (by decide) (by decide) (fun b'=>?_)
  exact .done ⟨[(b',[])],.af b' 0 [] rfl,rfl⟩
 ·refine ar Tryz.func220 ?_
  refine aG.mk (mG.2 h) ?_
  intro b
  refine AppendAt.more 0 b 0 l.length [] _ rfl rfl (cI rfl) (.ae (.int .i64) l rfl) (by omega) (by decide) (by decide) (fun b'=>?_)
  refine .done ⟨[(b',l.flatMap (Sh.cells (.int .i64)))],?_,rfl⟩
  rw[dR];exact .af b' l.length _ (w8 (f:=Sh.cells (.int .i64)) (es:=1) (fun _=>rfl) l)
theorem adh(l:List (Sh.T (.int .i64)))(σ:Hp)(hl:l.length≤1000000):ACalls Tryz.prog 220 [.ae (.int .i64) l] σ (ay (.ae (.int .i64) l) σ):=by
 refine (adi l σ hl).fin ?_
 rintro v σ' ⟨acc,bY,rfl⟩
 exact qs (s:=(.int .i64)) [] bY rfl rfl (by decide) (.done ⟨rfl,rfl⟩)
theorem adm(l:List (Sh.T jD))(σ:Hp)(hl:l.length≤1000000):ACalls Tryz.prog 222 [.ae jD l] σ (fun x σ'=>∃acc,Acc 8 l.length x acc (l.flatMap (Sh.cells jD))∧σ'=acc++σ):=by
 refine CV (fun h=>⟨?_,?_⟩) (fun h=>?_)
 ·subst h
  refine ar Tryz.func222 ?_
  exact .done ⟨[],.nil,rfl⟩
 ·subst h
  refine ar Tryz.func222 ?_
  intro b
  refine AppendAt.more 0 b 0 0 [] _ rfl rfl (cI rfl) .gQ (by decide) (by decide) (by decide) (fun b'=>?_)
  exact .done ⟨[(b',[])],.af b' 0 [] rfl,rfl⟩
 ·refine ar Tryz.func222 ?_
  refine aG.mk (mG.2 h) ?_
  intro b
  refine AppendAt.more 0 b 0 l.length [] _ rfl rfl (cI rfl) (.ae jD l rfl) (by omega) (by decide) (by decide) (fun b'=>?_)
  refine .done ⟨[(b',l.flatMap (Sh.cells jD))],?_,rfl⟩
  rw[dR];exact .af b' l.length _ (w8 (f:=Sh.cells jD) (es:=8) (fun _=>rfl) l)
theorem adl(l:List (Sh.T jD))(σ:Hp)(hl:l.length≤1000000):ACalls Tryz.prog 222 [.ae jD l] σ (ay (.ae jD l) σ):=by
 refine (adm l σ hl).fin ?_
 rintro v σ' ⟨acc,bY,rfl⟩
 exact qs (s:=jD) [] bY rfl rfl (by decide) (.done ⟨rfl,rfl⟩)
theorem aeT(l:List Int)(σ:Hp)(hl:l.length≤1000000):ACalls Tryz.prog 221 [.ae (.int .u64) l] σ (fun x σ'=>∃b,x=.af b 0 l.length 1∧σ'=(b,aP l)::σ):=by
 refine ar Tryz.func221 ?_
 have hn:(l.length:Int)≤1048576:=by omega
 refine aG.mk ⟨Kv _,jL _,hn,by decide⟩ ?_
 intro aB
 have hr:(cD [.int .u64 0] ((l.length:Int)).toNat).length=l.length:=by rw[bC,w6];exact eA _
 refine Nc.af 0 aB 0 l.length l.length _ (l.flatMap (Sh.cells (.int .u64))) rfl rfl (by show 0+l.length*1≤(cD [.int .u64 0] ((l.length:Int)).toNat).length;rw[hr];omega) (.ae (.int .u64) l rfl) (a8 _) ?_
 have he:fV (cD [.int .u64 0] ((l.length:Int)).toNat) 0 (l.flatMap (Sh.cells (.int .u64)))=aP l:=by
  rw[← kC]
  have h:=La (aP l) [] (cD [.int .u64 0] ((l.length:Int)).toNat) [] (by rw[hr];simp[aP])
  simpa using h
 exact .done ⟨aB,rfl,congrArg (fun cs=>(aB,cs)::σ) he⟩
theorem MH(l:List Int)(σ:Hp)(hl:l.length≤1000000):ACalls Tryz.prog 221 [.ae (.int .u64) l] σ (ay (.ae (.int .u64) l) σ):=by
 refine (aeT l σ hl).fin ?_
 rintro v σ' ⟨b,rfl,rfl⟩
 exact .cJ 0 b 0 l.length 1 _ (.int .u64) l rfl (by rw[List.drop_zero,← kC];exact List.take_of_length_le (by simp[aP])) ⟨rfl,rfl,by decide⟩ .here (.done ⟨rfl,rfl⟩)
def zl:Option mI→List AV
 |none=>[.ai,.ai,.ai]
 |some t=>[.ae (.int .u64) t.1,.ae (.int .u64) t.2.1,.ae jD t.2.2.1]
theorem ZT(t:Option mI):(zl t).length=3:=by cases t <;> rfl
def uh(T:List mI)(k:Nat):List (Option mI):=(T.take k).map some++List.replicate (T.length-k) none
theorem aaA(T:List mI):(uh T 0).flatMap zl=cD [.ai,.ai,.ai] T.length:=by
 show (List.replicate (T.length-0) none).flatMap zl=_
 rw[Nat.sub_zero]
 generalize T.length=n
 induction n with
 |zero=>rfl
 |succ n ih=>rw[KM,yy,ih];rfl
theorem acw{T:List mI}{k:Nat}(h:k≤T.length):(uh T k).length=T.length:=by unfold uh;simp;omega
theorem acv{T:List mI}{k:Nat}(h:k<T.length):(uh T k).set k (some T[k])=uh T (k+1):=by
 unfold uh
 rw[List.set_append_right _ _ (by simp;omega)]
 have e:T.length-k=(T.length-(k+1))+1:=by omega
 have e2:k-((T.take k).map some).length=0:=by simp;omega
 rw[e2,e,KM,ff h]
 simp only[cW,pq,List.map_nil,dU,F4,uH,List.set_cons_zero]
theorem acx(T:List mI):(uh T T.length).flatMap zl=T.flatMap (Sh.cells kY):=by
 unfold uh
 rw[qd,fA,List.replicate_zero,ni,List.flatMap_map]
 rfl
theorem ab1(s:Sy)(σ:Hp)(hf:Fit s):ACalls Tryz.prog 162 [.agg (aW s)] σ (ay (.agg (aW s)) σ):=by
 refine ar Tryz.func162 ?_
 intro aB
 intro dc
 refine .sched [2,5,8] (upto [2,5,8] 15 0) (by kernel_rfl) ?_
 refine aa 1 ?_
 refine aI [] (adj s.aO _ (eH hf.BN (by decide))) ?_
 refine aa 1 ?_
 refine aI [] (adh s.entry _ (eH hf.BG (by decide))) ?_
 refine aa 1 ?_
 refine aI [] (MH s.init _ (eH hf.EJ (by decide))) ?_
 refine aj 1 ?_
 refine aj 1 ?_
 refine aj 1 ?_
 refine aa 1 ?_
 have hT:=hf.NK
 have FG:(s.T.length:Int)≤1048576:=by omega
 refine aG.mk ⟨Kv _,jL _,FG,by decide⟩ ?_
 intro bt
 have Ch:(bt,cD [AV.ai,AV.ai,AV.ai] ((s.T.length:Int)).toNat)=(bt,(uh s.T 0).flatMap zl):=by rw[aaA,bC]
 refine aa 2 ?_
 refine bQ (S:=Nat) (fun k=>[(1,.ptr aB 0),(2,.ptr dc 0),(3,.af bt 0 s.T.length 3),(23,.ae kY s.T),(24,.int .i64 s.T.length),(25,.int .i64 k)]) (fun k=>(bt,(uh s.T k).flatMap zl)::(dc,[.int .i64 0,.int .i64 0,.int .i64 0,.ai,.ai,.ai,.ai])::(aB,aW s)::σ) (fun k=>k≤s.T.length) (fun k=>s.T.length-k) 0 ⟨bA _,⟨rfl,rfl,rfl,rfl,rfl,rfl,trivial⟩,congrArg (· :: (dc,([.int .i64 0,.int .i64 0,.int .i64 0,.ai,.ai,.ai,.ai]:List AV))::(aB,aW s)::σ) Ch⟩ ?_
 rintro k g aK
 have hk:k≤s.T.length:=aK
 clear aK
 refine ak (fun ab=>?_) (fun aq=>?_)
 ·have ab:k<s.T.length:=by have ab:(k:Int)<s.T.length:=ab;omega
  have kj:=acv ab
  have mX:=hf.ts _ (bP ab)
  obtain⟨t,ht⟩:∃t:mI,s.T[k]=t:=⟨_,rfl⟩
  rw[ht]at kj mX
  obtain⟨t1,t2,t3,tu⟩:=t
  obtain⟨_,_,l1,l2,l3⟩:=mX
  have l1:t1.length≤10000:=l1
  have l2:t2.length≤10000:=l2
  have l3:t3.length≤100000:=l3
  refine aG.mk rfl (bE.mk (t1,t2,t3,tu) (by omega) ((get_some ab).trans (congrArg some ht)) ?_)
  intro aB
  refine aj 0 ?_
  refine .sched [4,7,10] (upto [4,7,10] 14 0) (by kernel_rfl) ?_
  refine aa 0 ?_
  refine aI [] (MH t1 _ (eH l1 (by decide))) ?_
  refine aa 0 ?_
  refine aI [] (MH t2 _ (eH l2 (by decide))) ?_
  refine aa 0 ?_
  refine aI [] (adl t3 _ (eH l3 (by decide))) ?_
  refine aM ?_
  refine cT 1 rfl ((RH rfl ZT (by rw[acw hk];exact ab) (some (t1,t2,t3,tu)) rfl).trans (congrArg (fun l=>some (List.flatMap zl l)) kj)) ?_
  exact aY (k+1) (by show s.T.length-(k+1)<s.T.length-k;omega) ab ⟨rfl,rfl,rfl,rfl,rfl,aS (by omega),trivial⟩ (.drop 0 1 (.refl _))
 ·have aq:k=s.T.length:=by have aq:¬(k:Int)<s.T.length:=aq;omega
  subst aq
  rw[acx]
  refine aj 2 ?_
  refine aa 2 ?_
  refine aj 1 ?_
  refine aa 1 ?_
  refine .cJ 0 bt 0 s.T.length 3 _ kY s.T rfl ?_ ⟨rfl,rfl,by decide⟩ (A6 (cd (.refl _) (cd (.refl _) (cd (.refl _) (cd (.refl _) (cd (.refl _) (cd (.refl _) (cd .here xC))))))) rfl) (.drop 0 2 (.done ⟨rfl,rfl⟩))
  rw[gz]
  exact ek (wP (w8 (f:=Sh.cells kY) (es:=3) (fun _=>rfl) s.T))
theorem UX{F:Nat→Prop}{w:World}{σ:Hp}(h:bu F w σ){i b' k:Nat}{cs':List AV}{c c':AV}(hl:c'.leaf=true)(eG:c.leaf=true)(hc:∀v,aA F w c v→aA F w c' v)(hi:σ[i]?=some (b',cs'))(hk:cs'[k]?=some c):bu F w (σ.set i (b',cs'.set k c')):=by
 refine⟨?_,fun p hp=>?_,h.low⟩
 ·have e1:(σ.set i (b',cs'.set k c')).map Prod.fst=σ.map Prod.fst:=by
   rw[oc]
   refine List.ext_getElem (by simp) fun j h1 h2=>?_
   rw[F5]
   split
   ·rename_i hj;subst hj
    obtain⟨q1,q2⟩:=ck.1 hi
    rw[Cr,q2]
   ·rfl
  rw[e1];exact h.nodup
 ·rcases qh hp with hp | rfl
  ·exact h.holds p hp
  ·obtain⟨h1,c0,T,h2,h3,h4⟩:=(h.holds _ (cx hi)).Nl hk eG
   refine⟨h1,.inl ⟨c0,T,h2,by rw[cR];exact h3,fun j x hx=>?_⟩⟩
   rw[fj]at hx
   split at hx
   ·rename_i hj;subst hj
    split at hx
    ·cases hx
     exact⟨hl,hc _ (h4 k _ hk).2⟩
    ·cases hx
   ·exact h4 j x hx
abbrev jX:=AV×Hp×List Int
def zp(r:jX):Prop:=(r.1=.ai∧r.2.1=[]∧r.2.2=[])∨(∃v,r.1=.via v∧Acc 1 r.2.2.length v r.2.1 (ao r.2.2))
def kb(rs:List jX):List AV:=rs.map (·.1)
def lP(rs:List jX):Hp:=rs.flatMap (·.2.1)
def lq(rs:List jX):List (List Int):=rs.map (·.2.2)
theorem Ms:∀(A:List (List Int)) (l:List Int) (B:List AV),(cH A++.ae (.int .i64) l::B)=cH (A++[l])++B
 | [],_,_=>rfl
 |a::A,l,B=>congrArg (AV.ae (.int .i64) a :: ·) (Ms A l B)
theorem ae1(A:List (List Int)):(cH A).length=A.length:=cg _
theorem Mq{w:World}{bo:Nat}{σ:Hp}:∀(B:List jX) (A:List (List Int)) (F:Nat→Prop),(∀r∈B,zp r)→bu F w ((bo,cH A++kb B)::(lP B++σ))→∃F',bH F w F' w∧bu F' w ((bo,cH (A++lq B))::σ)
 | [],A,F,_,h=>⟨F,⟨rfl,rfl,rfl,a8 _,fun _ h=>h,fun _ _=>rfl,fun _ c _ fz h=>⟨c,fz,h,rfl⟩,a8 _⟩,by
  have h:bu F w ((bo,cH A++[])::σ):=h
  rw[ni]at h
  rw[show A++lq []=A from ni _]
  exact h⟩
 |(c,acc,l)::B,A,F,hB,h=>by
  have hB':∀r∈B,zp r:=fun r hr=>hB r (dp _ hr)
  have h:bu F w ((bo,cH A++c::kb B)::(acc++lP B++σ)):=h
  have hk:(cH A++c::kb B)[(cH A).length]?=some c:=by simp
  have rX:acc=[]→l=[]→c.leaf=true→(∀v,aA F w c v→aA F w (.ae (.int .i64) []) v)→∃F',bH F w F' w∧bu F' w ((bo,cH (A++lq ((c,acc,l)::B)))::σ):=fun h1 h2 eG h3=>by
   subst h1;subst h2
   have this:bu F w ((bo,(cH A++c::kb B).set (cH A).length (.ae (.int .i64) []))::(lP B++σ)):=UX h (c':=.ae (.int .i64) []) rfl eG h3 (i:=0) rfl hk
   rw[Mp]at this
   have this:bu F w ((bo,cH A++.ae (.int .i64) []::kb B)::(lP B++σ)):=this
   have this:bu F w ((bo,cH (A++[[]])++kb B)::(lP B++σ)):=(Ms A [] (kb B))▸this
   obtain⟨F',q1,q2⟩:=Mq B (A++[[]]) F hB' this
   rw[dU]at q2
   exact⟨F',q1,q2⟩
  have fI:∀v,aA F w .ai v→aA F w (.ae (.int .i64) []) v:=fun v hv=>by
   cases hv
   exact .ae (.int .i64) [] _ ⟨none,0,rfl,a8 _,by unfold maxLen;omega,fun _=>rfl,fun aX=>absurd rfl aX⟩
  rcases hB _ (cj ..) with ⟨h1,h2,h3⟩ | ⟨v,h1,h2⟩
  ·have h1:c=.ai:=h1
   exact rX h2 h3 (by rw[h1];rfl) (by rw[h1];exact fI)
  ·have h1:c=.via v:=h1
   subst h1
   have h2:Acc 1 l.length v acc (ao l):=h2
   generalize hn:l.length=n at h2
   generalize hc:ao l=cs at h2
   cases h2 with
   |nil=>
    exact rX rfl (iE.1 hn) rfl (by
     intro v hv
     cases hv with
     |via _ _ _ hv=>exact fI _ hv)
   |af b k cs hl=>
    subst hn
    subst hc
    have h5:bu F w ((bo,(cH A++.via (.af b 0 l.length 1)::kb B).set (cH A).length (.af b 0 l.length 1))::(b,ao l)::(lP B++σ)):=UX h (c':=.af b 0 l.length 1) rfl rfl (by
     intro v hv
     cases hv with
     |via _ _ _ hv=>exact hv) (i:=0) rfl hk
    rw[Mp]at h5
    have h5:bu F w ((bo,cH A++.af b 0 l.length 1::kb B)::(b,ao l)::(lP B++σ)):=h5
    obtain⟨an,aF,hh⟩:=vv h5 (j:=1) (b:=b) (off:=0) (len:=l.length) (es:=1) (cs:=ao l) (e:=.int .i64) (l:=l) rfl (by rw[gz,← uY];exact ek (by rw[MD];omega)) ⟨rfl,rfl,by decide⟩
    have h6:bu _ w ((bo,(cH A++.af b 0 l.length 1::kb B).set (cH A).length (.ae (.int .i64) l))::(lP B++σ)):=Dr aF hh (i:=0) (k:=(cH A).length) (b':=bo) rfl (by simp)
    rw[Mp]at h6
    have h6:bu _ w ((bo,cH A++.ae (.int .i64) l::kb B)::(lP B++σ)):=h6
    rw[Ms]at h6
    obtain⟨F',q1,q2⟩:=Mq B (A++[l]) _ hB' h6
    rw[dU]at q2
    exact⟨F',an.trans q1,q2⟩
theorem YM{f:FuncId}{xs:List AV}{σ0 σ:Hp}{Q:List (List Int)→Prop}(h:ACalls Tryz.prog f xs σ0 (fun r σ'=>∃bo rs,r=.af bo 0 (rs:List jX).length 1∧σ'=(bo,kb rs)::(lP rs++σ)∧(∀r∈rs,zp r)∧Q (lq rs))):ACalls Tryz.prog f xs σ0 (fun r σ'=>∃ls:List (List Int),r=.ae (.slice (.int .i64)) ls∧σ'=σ∧Q ls):=
 ⟨h.1,fun F w vs bR aF=>(h.2 F w vs bR aF).mono fun _ w' ⟨r,v,σ',F',h1,h2,h3,h4,h5⟩=>by
  obtain⟨bo,rs,rfl,rfl,q1,q2⟩:=h5
  obtain⟨F2,k1,k2⟩:=Mq rs [] F' q1 h3
  have hl:(lq rs).length=rs.length:=cg _
  have k2:bu F2 w' ((bo,cH (lq rs))::σ):=k2
  obtain⟨m1,m2,m3⟩:=vv k2 (j:=0) (b:=bo) (off:=0) (len:=rs.length) (es:=1) (cs:=cH (lq rs)) (e:=.slice (.int .i64)) (l:=lq rs) rfl (by rw[gz,← xl];exact ek (by rw[ae1,hl];omega)) ⟨hl,rfl,by decide⟩
  exact⟨.ae (.slice (.int .i64)) (lq rs),v,σ,_,h1,(h2.trans k1).trans m1,m2,m3 v (h4.mono k1),lq rs,rfl,rfl,q2⟩⟩
theorem Z3(rs:List jX):(kb rs).length=rs.length:=cg _
theorem abB(A:List jX)(r:jX)(B:List jX){z:Int}(hz:z=A.length):(kb (A++r::B))[0+z.toNat*1]?=some r.1:=by
 subst hz
 rw[bC,eA,dR]
 unfold kb
 rw[fm]
 simp
theorem Z2(A:List jX)(r r2:jX)(B:List jX){z:Int}(hz:z=A.length):(kb (A++r::B)).set (0+z.toNat*1) r2.1=kb (A++r2::B):=by
 subst hz
 rw[bC,eA,dR]
 unfold kb
 simp
theorem abH(n:Nat):cD [.ai] n=kb (List.replicate n (.ai,[],[])):=by
 induction n with
 |zero=>rfl
 |succ n ih=>show AV.ai::cD [.ai] n=_;rw[ih];rfl
theorem Z4(n:Nat):lP (List.replicate n (.ai,[],[]))=[]:=by
 induction n with
 |zero=>rfl
 |succ n ih=>exact ih
theorem Lv(A:List jX)(r:jX)(B:List jX)(σ:Hp):lP (A++r::B)++σ=lP A++(r.2.1++(lP B++σ)):=by
 unfold lP
 simp
def zh(s:Sy):Int:=if cm s=0 then IntKind.i64.wrap (s.n*fU s.what s.w) else 0
def zj(s:Sy):Int:=if cm s=0 then IntKind.i64.wrap (s.n+IntKind.i64.wrap (((A0 s.aO).length:Int)*fU s.what s.w)) else 0
theorem aeq{s:Sy}(h:cm s=0):IntKind.i64.wrap (s.n*fU s.what s.w)=zh s:=(ah h).symm
theorem aep{s:Sy}(h:¬cm s=0):0=zh s:=(ag h).symm
theorem aeE{s:Sy}(h:cm s=0):IntKind.i64.wrap (s.n+IntKind.i64.wrap (((A0 s.aO).length:Int)*fU s.what s.w))=zj s:=(ah h).symm
theorem aeD{s:Sy}(h:¬cm s=0):0=zj s:=(ag h).symm
theorem ZH(s:Sy)(σ:Hp)(hf:Fit s):ACalls Tryz.prog 139 [.agg (aW s)] σ (ay (.int .i64 (zh s)) σ):=by
 refine ar Tryz.func139 ?_
 intro aB
 refine aa 0 ?_
 refine aw [] (yV s _ hf) ?_
 refine cX (fun c2=>?_) (fun c2=>?_)
 ·have c2:¬(cm s=0):=by simpa using c2
  exact .drop 0 1 (.done ⟨aQ (aep (by assumption)),rfl⟩)
 ·have c2:cm s=0:=by simpa using c2
  refine .quiet (by kernel_rfl) ?_
  refine aa 0 ?_
  refine aa 0 ?_
  refine aa 0 ?_
  refine aI [] (Hs _ _ _) ?_
  exact .drop 0 1 (.done ⟨aQ (aeq (by assumption)),rfl⟩)
theorem ZI(s:Sy)(σ:Hp)(hf:Fit s):ACalls Tryz.prog 138 [.agg (aW s)] σ (ay (.int .i64 (zj s)) σ):=by
 refine ar Tryz.func138 ?_
 intro aB
 refine aa 0 ?_
 refine aw [] (yV s _ hf) ?_
 refine cX (fun c2=>?_) (fun c2=>?_)
 ·have c2:¬(cm s=0):=by simpa using c2
  exact .drop 0 1 (.done ⟨aQ (aeD (by assumption)),rfl⟩)
 ·have c2:cm s=0:=by simpa using c2
  refine .quiet (by kernel_rfl) ?_
  refine aa 0 ?_
  refine aa 0 ?_
  refine aI [] (YQ s.aO _ (by have:=hf.BN;omega)) ?_
  refine aa 0 ?_
  refine aa 0 ?_
  refine aI [] (Hs _ _ _) ?_
  exact .drop 0 1 (.done ⟨aQ (aeE (by assumption)),rfl⟩)
def du(s:Sy)(k:Int):Int:=if cm s=0 then (if 1≤k∧k≤64 then 0 else 1) else cm s
theorem ahR{s:Sy}{k:Int}(h:¬cm s=0):cm s=du s k:=(ag h).symm
theorem ahQ{s:Sy}{k:Int}(h:cm s=0)(hk:¬(1≤k∧k≤64)):1=du s k:=by unfold du;rw[ah h,ag hk]
theorem ahP{s:Sy}{k:Int}(h:cm s=0)(hk:1≤k∧k≤64):0=du s k:=by unfold du;rw[ah h,ah hk]
def qR(e n:Int):Int:=if e=0 then n else 0
def BI(s:Sy)(k:Int):List AV:=[.int .i64 (qR (du s k) s.what),.int .i64 (qR (du s k) (eN s.what s.w)),.int .i64 (qR (du s k) s.n),.int .i64 (qR (du s k) k)]
theorem ac5{s:Sy}{k:Int}(h:¬cm s=0):AV.tup [.agg [.int .i64 0,.int .i64 0,.int .i64 0,.int .i64 0],.int .i64 (cm s)]=.tup [.agg (BI s k),.int .i64 (du s k)]:=by unfold BI qR;rw[← ahR h];simp only[ag h]
theorem Tc{s:Sy}{k:Int}(h:cm s=0)(hk:¬(1≤k∧k≤64)):AV.tup [.agg [.int .i64 0,.int .i64 0,.int .i64 0,.int .i64 0],.int .i64 1]=.tup [.agg (BI s k),.int .i64 (du s k)]:=by unfold BI qR;rw[← ahQ h hk];rfl
theorem aeg{s:Sy}{k:Int}(h:cm s=0)(hk:1≤k∧k≤64):AV.tup [.agg [.int .i64 s.what,.int .i64 (eN s.what s.w),.int .i64 s.n,.int .i64 k],.int .i64 0]=.tup [.agg (BI s k),.int .i64 (du s k)]:=by unfold BI qR;rw[← ahP h hk];rfl
set_option maxHeartbeats 4000000
def rm(n:Int):Nat:=(min (max n 1) 4096).toNat
theorem vD(n:Int):1≤rm n∧rm n≤4096:=by unfold rm;omega
theorem afI(n:Int):(if (4096:Int)<(if n<1 then 1 else n) then (4096:Int) else (if n<1 then 1 else n))=((rm n:Nat):Int):=by
 unfold rm
 by_cases h:n<1
 ·simp only[ah h];omega
 ·simp only[ag h];split <;> omega
theorem NF(n:Int)(σ:Hp):ACalls Tryz.prog 154 [.int .i64 n] σ (ay (.int .i64 (rm n)) σ):=by
 refine ar Tryz.func154 ?_
 exact .done ⟨aQ (afI n),rfl⟩
def eR(base:Int):Int:=wr (base+1)
def lN(base cap i:Int):Int:=wr (wr (base+2)+wr (i % (rm cap:Int)))
theorem tL(b c:Int)(σ:Hp):ACalls Tryz.prog 111 [.agg [.int .i64 b,.int .i64 c]] σ (ay (.int .i64 (eR b)) σ):=by
 refine ar Tryz.func111 ?_
 intro aB
 refine aa 0 ?_
 exact .drop 0 1 (.done ⟨rfl,rfl⟩)
theorem M6(b c i:Int)(σ:Hp)(h0:0≤i):ACalls Tryz.prog 402 [.agg [.int .i64 b,.int .i64 c],.int .u64 i] σ (ay (.int .i64 (lN b c i)) σ):=by
 have hr:=vD c
 have e1:IntKind.u64.wrap (rm c:Int)=rm c:=by rw[IntKind.wrap_u64];omega
 have e2:i.tmod (IntKind.u64.wrap (rm c:Int))=i % (rm c:Int):=by rw[e1,uO h0]
 refine ar Tryz.func402 ?_
 intro aB
 refine .quiet (by kernel_rfl) ?_
 refine aa 0 ?_
 refine aa 0 ?_
 refine aI [] (NF _ _) ?_
 refine aG.mk (by rw[e1];omega) ?_
 exact .drop 0 1 (.done ⟨aQ (by rw[e2];rfl),rfl⟩)
structure DQ where
 base:Int
 cap:Int
 n:Int
 ok:Bool
 ended:Bool
 at_:Nat
 b:Int
 t:Int
 x:Int
def mb(q:DQ):List AV:=[.int .i64 q.base,.int .i64 q.cap,.int .u64 q.n,.bool q.ok,.bool q.ended,.int .i64 q.at_,.int .u64 q.b,.int .u64 q.t,.int .u64 q.x]
abbrev wu(n:Int):Int:=IntKind.u64.wrap n
def gD(O:km)(q:DQ)(a:O.A):DQ×O.A×Bool:=
 if q.ended then (q,a,true)
 else if q.at_=0 then ({ q with at_:=q.at_+1,b:=(O.ld a (eR q.base)).1 },(O.ld a (eR q.base)).2,false)
 else if q.at_=1 then
  (if (rm q.cap:Int)≤wr (wu (q.b-(O.ld a q.base).1)) then ({ q with at_:=q.at_+1,t:=(O.ld a q.base).1,ended:=true },(O.ld a q.base).2,true)
  else ({ q with at_:=q.at_+1,t:=(O.ld a q.base).1 },(O.ld a q.base).2,false))
 else if q.at_=2 then ({ q with at_:=q.at_+1 },O.st a (lN q.base q.cap q.b) q.n,false)
 else ({ q with at_:=q.at_+1,ok:=true,ended:=true },O.st a (eR q.base) (wu (q.b+1)),true)
theorem lf{M:AMem}{σ:Hp}{X:Type}{B:X→List AV}{r:Nat}{res:X×M.O.A×Bool}{x:X}{a:M.O.A}{b:Bool}{m':M.S}{cs:List AV}(h:res=(x,a,b))(hm:M.abs m'=a)(hc:cs=B x):qF M σ B r res (.bool b) ((r,cs)::(M.B m'++σ)):=by
 subst hc
 exact ke h hm
theorem WG(M:AMem)(r:Nat)(q:DQ)(m:M.S)(d:Int)(σ:Hp)(hf:M.O.free (M.abs m))(eb:q.at_≤1000)(hb:0≤q.b):ACalls Tryz.prog 409 [.ptr r 0,M.v,.int .i64 d] ((r,mb q)::(M.B m++σ)) (qF M σ mb r (gD M.O q (M.abs m))):=by
 have hw:IntKind.i64.wrap ((q.at_:Int)+1)=((q.at_+1:Nat):Int):=by rw[IntKind.wrap_i64];omega
 refine ar Tryz.func409 ?_
 refine eY.kL 0 _ _ rfl rfl (fun h0=>?_) (fun h0=>?_)
 ·exact .done (ke (x:=q) (by simp[gD,h0]) rfl)
 refine aw [] (dG _ _ _) ?_
 refine aa 0 ?_
 refine aj 0 ?_
 refine aa 0 ?_
 refine ak (fun c1=>?_) (fun c1=>?_)
 ·have c1:IntKind.i64.wrap ((↑q.at_:Int)+1)=1:=c1
  refine .sched [6] (upto [6] 15 0) (by kernel_rfl) ?_
  refine aa 0 ?_
  refine aI [] (tL _ _ _) ?_
  refine fo.mk M.hL ?_
  refine M.aLoad [_] hf fun m' hm=>?_
  refine aj 0 ?_
  exact .done (lf (x:= { q with at_:=q.at_+1,b:=(M.O.ld (M.abs m) (eR q.base)).1 }) (by simp[gD,h0,show q.at_=0 by omega]) hm (by rw[hw];rfl))
 ·have c1:¬(IntKind.i64.wrap ((↑q.at_:Int)+1)=1):=c1
  refine ak (fun c2=>?_) (fun c2=>?_)
  ·have c2:IntKind.i64.wrap ((↑q.at_:Int)+1)=2:=c2
   refine .sched [] (upto [] 15 0) (by kernel_rfl) ?_
   refine aa 0 ?_
   refine fo.mk M.hL ?_
   refine M.aLoad [_] hf fun m' hm=>?_
   refine aj 0 ?_
   refine .quiet (by kernel_rfl) ?_
   refine aa 0 ?_
   refine aa 0 ?_
   refine aa 0 ?_
   refine aI [] (NF _ _) ?_
   refine ak (fun c3=>?_) (fun c3=>?_)
   ·have c3:(↑(rm q.cap):Int)≤IntKind.i64.wrap (IntKind.u64.wrap (q.b-(M.O.ld (M.abs m) q.base).fst)):=c3
    refine .fwd 1 ?_
    refine aj 0 ?_
    exact .done (lf (x:= { q with at_:=q.at_+1,t:=(M.O.ld (M.abs m) q.base).1,ended:=true }) (by simp[gD,h0,show q.at_=1 by omega,c3]) hm (by rw[hw];rfl))
   ·have c3:¬((↑(rm q.cap):Int)≤IntKind.i64.wrap (IntKind.u64.wrap (q.b-(M.O.ld (M.abs m) q.base).fst))):=c3
    exact .done (lf (x:= { q with at_:=q.at_+1,t:=(M.O.ld (M.abs m) q.base).1 }) (by unfold gD wr wu;(repeat' split) <;> first | rfl | omega | simp_all) hm (by rw[hw];rfl))
  ·have c2:¬(IntKind.i64.wrap ((↑q.at_:Int)+1)=2):=c2
   refine ak (fun c4=>?_) (fun c4=>?_)
   ·have c4:IntKind.i64.wrap ((↑q.at_:Int)+1)=3:=c4
    refine .sched [10] (upto [10] 19 0) (by kernel_rfl) ?_
    refine aa 0 ?_
    refine aa 0 ?_
    refine aI [] (M6 _ _ _ _ hb) ?_
    refine aa 0 ?_
    refine fo.mk M.hS ?_
    refine M.aStore [_] hf fun m' hm=>?_
    exact .done (lf (x:= { q with at_:=q.at_+1 }) (by simp[gD,h0,show q.at_=2 by omega]) hm (by rw[hw];rfl))
   ·have c4:¬(IntKind.i64.wrap ((↑q.at_:Int)+1)=3):=c4
    refine .sched [5] (upto [5] 16 0) (by kernel_rfl) ?_
    refine aa 0 ?_
    refine aI [] (tL _ _ _) ?_
    refine aa 0 ?_
    refine fo.mk M.hS ?_
    refine M.aStore [_] hf fun m' hm=>?_
    refine aj 0 ?_
    refine .fwd 1 ?_
    refine aj 0 ?_
    exact .done (lf (x:= { q with at_:=q.at_+1,ok:=true,ended:=true }) (by simp[gD,h0,show q.at_≠0 by omega,show q.at_≠1 by omega,show q.at_≠2 by omega]) hm (by rw[hw];rfl))
def fE(O:km)(q:DQ)(a:O.A):DQ×O.A×Bool:=
 if q.ended then (q,a,true)
 else if q.at_=0 then ({ q with at_:=q.at_+1,b:=wu ((O.ld a (eR q.base)).1-1) },(O.ld a (eR q.base)).2,false)
 else if q.at_=1 then ({ q with at_:=q.at_+1 },O.st a (eR q.base) q.b,false)
 else if q.at_=2 then ({ q with at_:=q.at_+1,t:=(O.ld a q.base).1 },(O.ld a q.base).2,false)
 else if q.at_=3 then
  (if wr q.b<wr q.t then ({ q with at_:=q.at_+1,ended:=true },O.st a (eR q.base) (wu (q.b+1)),true)
  else if wr q.t<wr q.b then ({ q with at_:=q.at_+1,x:=(O.ld a (lN q.base q.cap q.b)).1,ok:=true,n:=(O.ld a (lN q.base q.cap q.b)).1,ended:=true },(O.ld a (lN q.base q.cap q.b)).2,true)
  else ({ q with at_:=q.at_+1,x:=(O.ld a (lN q.base q.cap q.b)).1 },(O.ld a (lN q.base q.cap q.b)).2,false))
 else if q.at_=4 then ({ q with at_:=q.at_+1,ok:=(O.cs a q.base q.t (wu (q.t+1))).1 },(O.cs a q.base q.t (wu (q.t+1))).2,false)
 else ({ q with at_:=q.at_+1,n:=if q.ok then q.x else q.n,ended:=true },O.st a (eR q.base) (wu (q.b+1)),true)
theorem Jr(M:AMem)(r:Nat)(q:DQ)(m:M.S)(d:Int)(σ:Hp)(hf:M.O.free (M.abs m))(eb:q.at_≤1000)(hb:0≤q.b):ACalls Tryz.prog 401 [.ptr r 0,M.v,.int .i64 d] ((r,mb q)::(M.B m++σ)) (qF M σ mb r (fE M.O q (M.abs m))):=by
 have hw:IntKind.i64.wrap ((q.at_:Int)+1)=((q.at_+1:Nat):Int):=by rw[IntKind.wrap_i64];omega
 refine ar Tryz.func401 ?_
 refine eY.kL 0 _ _ rfl rfl (fun h0=>?_) (fun h0=>?_)
 ·exact .done (ke (x:=q) (by simp[fE,h0]) rfl)
 refine aw [] (dG _ _ _) ?_
 refine aa 0 ?_
 refine aj 0 ?_
 refine aa 0 ?_
 refine ak (fun c1=>?_) (fun c1=>?_)
 ·have c1:IntKind.i64.wrap ((↑q.at_:Int)+1)=1:=c1
  refine .sched [6] (upto [6] 16 0) (by kernel_rfl) ?_
  refine aa 0 ?_
  refine aI [] (tL _ _ _) ?_
  refine fo.mk M.hL ?_
  refine M.aLoad [_] hf fun m' hm=>?_
  refine aj 0 ?_
  exact .done (lf (x:= { q with at_:=q.at_+1,b:=wu ((M.O.ld (M.abs m) (eR q.base)).1-1) }) (by unfold fE wr wu;(repeat' split) <;> first | rfl | omega | simp_all) hm (by rw[hw];rfl))
 ·have c1:¬(IntKind.i64.wrap ((↑q.at_:Int)+1)=1):=c1
  refine ak (fun c2=>?_) (fun c2=>?_)
  ·have c2:IntKind.i64.wrap ((↑q.at_:Int)+1)=2:=c2
   refine .sched [5] (upto [5] 15 0) (by kernel_rfl) ?_
   refine aa 0 ?_
   refine aI [] (tL _ _ _) ?_
   refine aa 0 ?_
   refine fo.mk M.hS ?_
   refine M.aStore [_] hf fun m' hm=>?_
   exact .done (lf (x:= { q with at_:=q.at_+1 }) (by unfold fE wr wu;(repeat' split) <;> first | rfl | omega | simp_all) hm (by rw[hw];rfl))
  ·have c2:¬(IntKind.i64.wrap ((↑q.at_:Int)+1)=2):=c2
   refine ak (fun c3=>?_) (fun c3=>?_)
   ·have c3:IntKind.i64.wrap ((↑q.at_:Int)+1)=3:=c3
    refine .sched [] (upto [] 15 0) (by kernel_rfl) ?_
    refine aa 0 ?_
    refine fo.mk M.hL ?_
    refine M.aLoad [_] hf fun m' hm=>?_
    refine aj 0 ?_
    exact .done (lf (x:= { q with at_:=q.at_+1,t:=(M.O.ld (M.abs m) q.base).1 }) (by unfold fE wr wu;(repeat' split) <;> first | rfl | omega | simp_all) hm (by rw[hw];rfl))
   ·have c3:¬(IntKind.i64.wrap ((↑q.at_:Int)+1)=3):=c3
    refine ak (fun c4=>?_) (fun c4=>?_)
    ·have c4:IntKind.i64.wrap ((↑q.at_:Int)+1)=4:=c4
     refine .quiet (by kernel_rfl) ?_
     refine aa 0 ?_
     refine aa 0 ?_
     refine ak (fun c5=>?_) (fun c5=>?_)
     ·have c5:IntKind.i64.wrap q.b<IntKind.i64.wrap q.t:=c5
      refine .fwd 1 ?_
      refine .sched [5] (upto [5] 16 0) (by kernel_rfl) ?_
      refine aa 0 ?_
      refine aI [] (tL _ _ _) ?_
      refine aa 0 ?_
      refine fo.mk M.hS ?_
      refine M.aStore [_] hf fun m' hm=>?_
      refine aj 0 ?_
      exact .done (lf (x:= { q with at_:=q.at_+1,ended:=true }) (by unfold fE wr wu;(repeat' split) <;> first | rfl | omega | simp_all) hm (by rw[hw];rfl))
     ·have c5:¬(IntKind.i64.wrap q.b<IntKind.i64.wrap q.t):=c5
      refine .sched [11] (upto [11] 20 0) (by kernel_rfl) ?_
      refine aa 0 ?_
      refine aa 0 ?_
      refine aI [] (M6 _ _ _ _ hb) ?_
      refine fo.mk M.hL ?_
      refine M.aLoad [_] hf fun m' hm=>?_
      refine aj 0 ?_
      refine .quiet (by kernel_rfl) ?_
      refine aa 0 ?_
      refine aa 0 ?_
      refine ak (fun c6=>?_) (fun c6=>?_)
      ·have c6:IntKind.i64.wrap q.t<IntKind.i64.wrap q.b:=c6
       refine aa 0 ?_
       refine aj 0 ?_
       refine aj 0 ?_
       refine .fwd 1 ?_
       refine aj 0 ?_
       exact .done (lf (x:= { q with at_:=q.at_+1,x:=(M.O.ld (M.abs m) (lN q.base q.cap q.b)).1,ok:=true,n:=(M.O.ld (M.abs m) (lN q.base q.cap q.b)).1,ended:=true }) (by unfold fE wr wu;(repeat' split) <;> first | rfl | omega | simp_all) hm (by rw[hw];rfl))
      ·have c6:¬(IntKind.i64.wrap q.t<IntKind.i64.wrap q.b):=c6
       exact .done (lf (x:= { q with at_:=q.at_+1,x:=(M.O.ld (M.abs m) (lN q.base q.cap q.b)).1 }) (by unfold fE wr wu;(repeat' split) <;> first | rfl | omega | simp_all) hm (by rw[hw];rfl))
    ·have c4:¬(IntKind.i64.wrap ((↑q.at_:Int)+1)=4):=c4
     refine ak (fun c7=>?_) (fun c7=>?_)
     ·have c7:IntKind.i64.wrap ((↑q.at_:Int)+1)=5:=c7
      refine .sched [] (upto [] 25 0) (by kernel_rfl) ?_
      refine aa 0 ?_
      refine aa 0 ?_
      refine aa 0 ?_
      refine fo.mk M.hC ?_
      refine M.aCas [_] hf fun m' hm=>?_
      refine aj 0 ?_
      exact .done (lf (x:= { q with at_:=q.at_+1,ok:=(M.O.cs (M.abs m) q.base q.t (wu (q.t+1))).1 }) (by unfold fE wr wu;(repeat' split) <;> first | rfl | omega | simp_all) hm (by rw[hw];rfl))
     ·have c7:¬(IntKind.i64.wrap ((↑q.at_:Int)+1)=5):=c7
      refine eY.kL 0 _ _ rfl rfl (fun c8=>?_) (fun c8=>?_)
      ·refine aa 0 ?_
       refine aj 0 ?_
       refine .fwd 1 ?_
       refine .sched [5] (upto [5] 16 0) (by kernel_rfl) ?_
       refine aa 0 ?_
       refine aI [] (tL _ _ _) ?_
       refine aa 0 ?_
       refine fo.mk M.hS ?_
       refine M.aStore [_] hf fun m' hm=>?_
       refine aj 0 ?_
       exact .done (lf (x:= { q with at_:=q.at_+1,n:=q.x,ended:=true }) (by unfold fE wr wu;(repeat' split) <;> first | rfl | omega | simp_all) hm (by rw[hw];rfl))
      ·refine .fwd 1 ?_
       refine .sched [5] (upto [5] 16 0) (by kernel_rfl) ?_
       refine aa 0 ?_
       refine aI [] (tL _ _ _) ?_
       refine aa 0 ?_
       refine fo.mk M.hS ?_
       refine M.aStore [_] hf fun m' hm=>?_
       refine aj 0 ?_
       exact .done (lf (x:= { q with at_:=q.at_+1,ended:=true }) (by unfold fE wr wu;(repeat' split) <;> first | rfl | omega | simp_all) hm (by rw[hw];rfl))
def gR(O:km)(q:DQ)(a:O.A):DQ×O.A×Bool:=
 if q.ended then (q,a,true)
 else if q.at_=0 then ({ q with at_:=q.at_+1,t:=(O.ld a q.base).1 },(O.ld a q.base).2,false)
 else if q.at_=1 then
  (if wr (O.ld a (eR q.base)).1≤wr q.t then ({ q with at_:=q.at_+1,b:=(O.ld a (eR q.base)).1,ended:=true },(O.ld a (eR q.base)).2,true)
  else ({ q with at_:=q.at_+1,b:=(O.ld a (eR q.base)).1 },(O.ld a (eR q.base)).2,false))
 else if q.at_=2 then ({ q with at_:=q.at_+1,x:=(O.ld a (lN q.base q.cap q.t)).1 },(O.ld a (lN q.base q.cap q.t)).2,false)
 else ({ q with at_:=q.at_+1,ok:=(O.cs a q.base q.t (wu (q.t+1))).1,n:=if (O.cs a q.base q.t (wu (q.t+1))).1 then q.x else q.n,ended:=true },(O.cs a q.base q.t (wu (q.t+1))).2,true)
theorem Iq(M:AMem)(r:Nat)(q:DQ)(m:M.S)(d:Int)(σ:Hp)(hf:M.O.free (M.abs m))(eb:q.at_≤1000)(hb:0≤q.t):ACalls Tryz.prog 403 [.ptr r 0,M.v,.int .i64 d] ((r,mb q)::(M.B m++σ)) (qF M σ mb r (gR M.O q (M.abs m))):=by
 have hw:IntKind.i64.wrap ((q.at_:Int)+1)=((q.at_+1:Nat):Int):=by rw[IntKind.wrap_i64];omega
 refine ar Tryz.func403 ?_
 refine eY.kL 0 _ _ rfl rfl (fun h0=>?_) (fun h0=>?_)
 ·exact .done (ke (x:=q) (by simp[gR,h0]) rfl)
 refine aw [] (dG _ _ _) ?_
 refine aa 0 ?_
 refine aj 0 ?_
 refine aa 0 ?_
 refine ak (fun c1=>?_) (fun c1=>?_)
 ·have c1:IntKind.i64.wrap ((↑q.at_:Int)+1)=1:=c1
  refine .sched [] (upto [] 15 0) (by kernel_rfl) ?_
  refine aa 0 ?_
  refine fo.mk M.hL ?_
  refine M.aLoad [_] hf fun m' hm=>?_
  refine aj 0 ?_
  exact .done (lf (x:= { q with at_:=q.at_+1,t:=(M.O.ld (M.abs m) q.base).1 }) (by unfold gR wr wu;(repeat' split) <;> first | rfl | omega | simp_all) hm (by rw[hw];rfl))
 ·have c1:¬(IntKind.i64.wrap ((↑q.at_:Int)+1)=1):=c1
  refine ak (fun c2=>?_) (fun c2=>?_)
  ·have c2:IntKind.i64.wrap ((↑q.at_:Int)+1)=2:=c2
   refine .sched [6] (upto [6] 15 0) (by kernel_rfl) ?_
   refine aa 0 ?_
   refine aI [] (tL _ _ _) ?_
   refine fo.mk M.hL ?_
   refine M.aLoad [_] hf fun m' hm=>?_
   refine aj 0 ?_
   refine .quiet (by kernel_rfl) ?_
   refine aa 0 ?_
   refine aa 0 ?_
   refine ak (fun c3=>?_) (fun c3=>?_)
   ·have c3:IntKind.i64.wrap (M.O.ld (M.abs m) (eR q.base)).fst≤IntKind.i64.wrap q.t:=c3
    refine .fwd 1 ?_
    refine aj 0 ?_
    exact .done (lf (x:= { q with at_:=q.at_+1,b:=(M.O.ld (M.abs m) (eR q.base)).1,ended:=true }) (by unfold gR wr wu;(repeat' split) <;> first | rfl | omega | simp_all) hm (by rw[hw];rfl))
   ·have c3:¬(IntKind.i64.wrap (M.O.ld (M.abs m) (eR q.base)).fst≤IntKind.i64.wrap q.t):=c3
    exact .done (lf (x:= { q with at_:=q.at_+1,b:=(M.O.ld (M.abs m) (eR q.base)).1 }) (by unfold gR wr wu;(repeat' split) <;> first | rfl | omega | simp_all) hm (by rw[hw];rfl))
  ·have c2:¬(IntKind.i64.wrap ((↑q.at_:Int)+1)=2):=c2
   refine ak (fun c4=>?_) (fun c4=>?_)
   ·have c4:IntKind.i64.wrap ((↑q.at_:Int)+1)=3:=c4
    refine .sched [11] (upto [11] 20 0) (by kernel_rfl) ?_
    refine aa 0 ?_
    refine aa 0 ?_
    refine aI [] (M6 _ _ _ _ hb) ?_
    refine fo.mk M.hL ?_
    refine M.aLoad [_] hf fun m' hm=>?_
    refine aj 0 ?_
    exact .done (lf (x:= { q with at_:=q.at_+1,x:=(M.O.ld (M.abs m) (lN q.base q.cap q.t)).1 }) (by unfold gR wr wu;(repeat' split) <;> first | rfl | omega | simp_all) hm (by rw[hw];rfl))
   ·have c4:¬(IntKind.i64.wrap ((↑q.at_:Int)+1)=3):=c4
    refine .sched [] (upto [] 25 0) (by kernel_rfl) ?_
    refine aa 0 ?_
    refine aa 0 ?_
    refine aa 0 ?_
    refine fo.mk M.hC ?_
    refine M.aCasB [_] hf (fun m' hm hb=>?_) (fun m' hm hb=>?_)
    ·refine aj 0 ?_
     refine aa 0 ?_
     refine aa 0 ?_
     refine aj 0 ?_
     refine .fwd 1 ?_
     refine aj 0 ?_
     exact .done (lf (x:= { q with at_:=q.at_+1,ok:=true,n:=q.x,ended:=true }) (by unfold gR wr wu;(repeat' split) <;> first | rfl | omega | simp_all) hm (by rw[hw];rfl))
    ·refine aj 0 ?_
     refine aa 0 ?_
     refine .fwd 1 ?_
     refine aj 0 ?_
     exact .done (lf (x:= { q with at_:=q.at_+1,ok:=false,ended:=true }) (by unfold gR wr wu;(repeat' split) <;> first | rfl | omega | simp_all) hm (by rw[hw];rfl))
theorem afb(p q:Nat)(ws:List Int)(b c:Int)(σ:Hp):ACalls Tryz.prog 161 [.agg [.int .i64 b,.int .i64 c],kK p] (bM p q ws σ) (ay (.tup []) (bM p q (iv (iv ws b 1) (eR b) 1) σ)):=by
 refine ar Tryz.func161 ?_
 intro aB
 refine aw [] (dG _ _ _) ?_
 refine aa 0 ?_
 refine⟨_,mStore_,?_⟩
 refine aw [2,2] (aStore p q _ _ _ _) ?_
 refine .sched [2] (upto [2] 7 0) (by kernel_rfl) ?_
 refine aa 2 ?_
 refine aI [] (tL _ _ _) ?_
 refine fo.mk hStore_ ?_
 refine⟨_,mStore_,?_⟩
 refine aw [] (aStore p q _ _ _ _) ?_
 exact .drop 2 1 (.done ⟨rfl,rfl⟩)
set_option maxHeartbeats 4000000
theorem HL{ws:List Int}(h:aR ws)(a:Int):bG (cc ws a):=by
 unfold cc
 split
 ·exact⟨by decide,by decide⟩
 ·rw[aZ]
  cases hq:ws[a.toNat]? with
  |none=>exact⟨by decide,by decide⟩
  |some x=>exact h x (cx hq)
theorem P5(a:List Int)(i:Nat)(σ:Hp):ACalls Tryz.prog 213 [.ae (.int .u64) a,.int .i64 i] σ (ay (.int .u64 (wd a i)) σ):=by
 refine ar Tryz.func213 ?_
 refine ak (fun h=>?_) (fun h=>?_)
 ·have h:(a.length:Int)≤i:=h
  exact .done ⟨aQ (by simp[wd,List.getElem?_eq_none (show a.length≤i by omega)]),rfl⟩
 ·have h:¬(a.length:Int)≤i:=h
  have hi:i<a.length:=by omega
  refine aG.mk rfl (bE.mk a[i] (by omega) (get_some hi) ?_)
  exact .done ⟨aQ (by simp[wd,hi]),rfl⟩
def cw(n:Int):Nat:=(min (max n 0) 1024).toNat
theorem Bx(n:Int):cw n≤1024:=by unfold cw;omega
theorem agj(n:Int):(if (1024:Int)<(if n<0 then 0 else n) then (1024:Int) else (if n<0 then 0 else n))=((cw n:Nat):Int):=by
 unfold cw
 by_cases h:n<0
 ·simp only[ah h];omega
 ·simp only[ag h];split <;> omega
theorem oy(b w n:Int)(σ:Hp):ACalls Tryz.prog 163 [.agg [.int .i64 b,.int .i64 w,.int .i64 n]] σ (ay (.int .i64 (cw n)) σ):=by
 refine ar Tryz.func163 ?_
 intro aB
 refine aa 0 ?_
 exact .drop 0 1 (.done ⟨aQ (agj n),rfl⟩)
structure Jn where
 base:Int
 what:Int
 words:Int
 a:List Int
 changed:Bool
 ended:Bool
 tries:Int
 at_:Nat
 fG:Bool
 x:Int
def z7(j:Jn):List AV:=[.int .i64 j.base,.int .i64 j.what,.int .i64 j.words,.ae (.int .u64) j.a,.bool j.changed,.bool j.ended,.int .i64 j.tries,.int .i64 j.at_,.bool j.fG,.int .u64 j.x]
def gZ(j:Jn):Jn×Bool:=if j.at_+1<cw j.words then ({ j with at_:=j.at_+1 },false) else ({ j with at_:=j.at_+1,ended:=true },true)
def iI(O:km)(j:Jn)(a:O.A):Jn×O.A×Bool:=
 if j.ended then (j,a,true)
 else if j.at_=cw j.words then ({ j with ended:=true },a,true)
 else if j.fG then
  (if (O.cs a (wr (j.base+j.at_)) j.x (de j.what j.x (wd j.a j.at_))).1 then ((gZ { j with fG:=false,changed:=true }).1,(O.cs a (wr (j.base+j.at_)) j.x (de j.what j.x (wd j.a j.at_))).2,(gZ { j with fG:=false,changed:=true }).2)
  else ({ j with fG:=false,tries:=wr (j.tries+1) },(O.cs a (wr (j.base+j.at_)) j.x (de j.what j.x (wd j.a j.at_))).2,false))
 else if de j.what (O.ld a (wr (j.base+j.at_))).1 (wd j.a j.at_)=(O.ld a (wr (j.base+j.at_))).1 then ((gZ { j with x:=(O.ld a (wr (j.base+j.at_))).1 }).1,(O.ld a (wr (j.base+j.at_))).2,(gZ { j with x:=(O.ld a (wr (j.base+j.at_))).1 }).2)
 else ({ j with x:=(O.ld a (wr (j.base+j.at_))).1,fG:=true },(O.ld a (wr (j.base+j.at_))).2,false)
theorem Ib{M:AMem}{σ:Hp}{X:Type}{B:X→List AV}{r:Nat}{res:X×M.O.A×Bool}{x:X}{a:M.O.A}{b:Bool}{m':M.S}{cs:List AV}(h:res=(x,a,b))(hm:M.abs m'=a)(hc:cs=B x):qF M σ B r res (.bool b) ((r,cs)::(M.B m'++σ)):=by
 subst hc
 exact ke h hm
theorem IQ(M:AMem)(r:Nat)(j:Jn)(m:M.S)(d:Int)(σ:Hp)(hf:M.O.free (M.abs m))(eb:j.at_≤2000):ACalls Tryz.prog 407 [.ptr r 0,M.v,.int .i64 d] ((r,z7 j)::(M.B m++σ)) (qF M σ z7 r (iI M.O j (M.abs m))):=by
 refine ar Tryz.func407 ?_
 have hw:IntKind.i64.wrap ((j.at_:Int)+1)=((j.at_+1:Nat):Int):=by rw[IntKind.wrap_i64];omega
 refine eY.kL 0 _ _ rfl rfl (fun h0=>?_) (fun h0=>?_)
 ·exact .done (ke (x:=j) (by simp[iI,h0]) rfl)
 refine aw [] (dG _ _ _) ?_
 refine .quiet (by kernel_rfl) ?_
 refine aa 0 ?_
 refine aa 0 ?_
 refine aI [] (oy _ _ _ _) ?_
 refine ak (fun c1=>?_) (fun c1=>?_)
 ·have c1:(j.at_:Int)=cw j.words:=c1
  have c1:j.at_=cw j.words:=by omega
  refine .fwd 1 ?_
  refine aj 0 ?_
  exact .done (ke (x:= { j with ended:=true }) (by simp[iI,h0,c1]) rfl)
 ·have c1:¬(j.at_:Int)=cw j.words:=c1
  have c1:¬j.at_=cw j.words:=by omega
  refine eY.kL 0 _ _ rfl rfl (fun c2=>?_) (fun c2=>?_)
  ·refine aj 0 ?_
   refine .sched [36,37] (upto [36,37] 43 0) (by kernel_rfl) ?_
   refine aa 0 ?_
   refine aa 0 ?_
   refine aa 0 ?_
   refine aa 0 ?_
   refine aa 0 ?_
   refine aa 0 ?_
   refine aa 0 ?_
   refine aI [] (P5 _ _ _) ?_
   refine aI [] (ND _ _ _ _) ?_
   refine fo.mk M.hC ?_
   refine M.aCasB [_] hf (fun m' hm hb=>?_) (fun m' hm hb=>?_)
   ·refine aj 0 ?_
    refine .fwd 1 ?_
    refine aa 0 ?_
    refine aj 0 ?_
    refine .quiet (by kernel_rfl) ?_
    refine aa 0 ?_
    refine aa 0 ?_
    refine aI [] (oy _ _ _ _) ?_
    refine ak (fun c3=>?_) (fun c3=>?_)
    ·have c3:IntKind.i64.wrap (↑j.at_+1) < ↑(cw j.words):=c3
     exact .done (Ib (x:= { j with fG:=false,changed:=true,at_:=j.at_+1 }) (by simp[iI,h0,c1,c2,hb,gZ,show j.at_+1<cw j.words by omega]) hm (by rw[hw];rfl))
    ·have c3:¬(IntKind.i64.wrap (↑j.at_+1) < ↑(cw j.words)):=c3
     refine aj 0 ?_
     exact .done (Ib (x:= { j with fG:=false,changed:=true,at_:=j.at_+1,ended:=true }) (by simp[iI,h0,c1,c2,hb,gZ,show ¬j.at_+1<cw j.words by omega]) hm (by rw[hw];rfl))
   ·refine aa 0 ?_
    refine aj 0 ?_
    exact .done (ke (x:= { j with fG:=false,tries:=wr (j.tries+1) }) (by simp[iI,h0,c1,c2,hb]) hm)
  ·refine .sched [] (upto [] 21 0) (by kernel_rfl) ?_
   refine aa 0 ?_
   refine aa 0 ?_
   refine fo.mk M.hL ?_
   refine M.aLoad [_] hf fun m' hm=>?_
   refine aj 0 ?_
   refine .quiet (by kernel_rfl) ?_
   refine aa 0 ?_
   refine aa 0 ?_
   refine aa 0 ?_
   refine aa 0 ?_
   refine aI [] (P5 _ _ _) ?_
   refine aI [] (ND _ _ _ _) ?_
   refine aa 0 ?_
   refine cX (fun c4=>?_) (fun c4=>?_)
   ·have c4:¬(de j.what (M.O.ld (M.abs m) (IntKind.i64.wrap (j.base + ↑j.at_))).fst (wd j.a j.at_)=(M.O.ld (M.abs m) (IntKind.i64.wrap (j.base + ↑j.at_))).fst):=by simpa using c4
    refine aj 0 ?_
    exact .done (ke (x:= { j with x:=(M.O.ld (M.abs m) (wr (j.base+j.at_))).1,fG:=true }) (by simp[iI,h0,c1,c2,c4]) hm)
   ·have c4:de j.what (M.O.ld (M.abs m) (IntKind.i64.wrap (j.base + ↑j.at_))).fst (wd j.a j.at_)=(M.O.ld (M.abs m) (IntKind.i64.wrap (j.base + ↑j.at_))).fst:=by simpa using c4
    refine aa 0 ?_
    refine aj 0 ?_
    refine .quiet (by kernel_rfl) ?_
    refine aa 0 ?_
    refine aa 0 ?_
    refine aI [] (oy _ _ _ _) ?_
    refine ak (fun c5=>?_) (fun c5=>?_)
    ·have c5:IntKind.i64.wrap (↑j.at_+1) < ↑(cw j.words):=c5
     exact .done (Ib (x:= { j with x:=(M.O.ld (M.abs m) (wr (j.base+j.at_))).1,at_:=j.at_+1 }) (by simp[iI,h0,c1,c2,c4,gZ,show j.at_+1<cw j.words by omega]) hm (by rw[hw];rfl))
    ·have c5:¬(IntKind.i64.wrap (↑j.at_+1) < ↑(cw j.words)):=c5
     refine aj 0 ?_
     exact .done (Ib (x:= { j with x:=(M.O.ld (M.abs m) (wr (j.base+j.at_))).1,at_:=j.at_+1,ended:=true }) (by simp[iI,h0,c1,c2,c4,gZ,show ¬j.at_+1<cw j.words by omega]) hm (by rw[hw];rfl))
def BE(base:Int)(a:List Int)(ws:List Int):Nat→List Int
 | 0=>ws
 |k+1=>iv (BE base a ws k) (wr (base+k)) (wd a k)
theorem aiO(p q:Nat)(ws:List Int)(b w n:Int)(a:List Int)(σ:Hp):ACalls Tryz.prog 159 [.agg [.int .i64 b,.int .i64 w,.int .i64 n],kK p,.ae (.int .u64) a] (bM p q ws σ) (ay (.tup []) (bM p q (BE b a ws (cw n)) σ)):=by
 have hc:=Bx n
 refine ar Tryz.func159 ?_
 intro aB
 refine aw [] (dG _ _ _) ?_
 refine aa 0 ?_
 refine aw [] (oy _ _ _ _) ?_
 refine bQ (S:=Nat) (fun s=>[(1,kK p),(2,.ae (.int .u64) a),(3,.ptr aB 0),(10,.int .i64 (cw n)),(11,.int .i64 s)]) (fun s=>(aB,[.int .i64 b,.int .i64 w,.int .i64 n])::bM p q (BE b a ws s) σ) (fun s=>s≤cw n) (fun s=>cw n-s) 0 ⟨bA _,⟨rfl,rfl,rfl,rfl,rfl,trivial⟩,rfl⟩ ?_
 intro k g hk
 refine ak (fun h=>?_) (fun h=>?_)
 ·have h:(k:Int)<cw n:=h
  refine .sched [7] (upto [7] 12 0) (by kernel_rfl) ?_
  refine aa 0 ?_
  refine aI [] (P5 _ _ _) ?_
  refine fo.mk hStore_ ?_
  refine⟨_,mStore_,?_⟩
  refine aw [2,2] (aStore p q _ _ _ _) ?_
  refine aY (k+1) ?_ ?_ ⟨rfl,rfl,rfl,rfl,aS (by omega),trivial⟩ (.pull [2] (aL rfl))
  ·show cw n-(k+1)<cw n-k;omega
  ·show k+1≤cw n;omega
 ·have h:¬(k:Int)<cw n:=h
  obtain rfl:k=cw n:=by omega
  exact .drop 0 1 (.done ⟨rfl,rfl⟩)
def pT(base:Int)(ws:List Int)(k:Nat):List Int:=(List.range k).map fun i=>cc ws (wr (base+(i:Nat)))
theorem Yx(base:Int)(ws:List Int)(k:Nat):(pT base ws k).length=k:=by unfold pT;rw[cg,kS]
theorem aar(base:Int)(ws:List Int)(k:Nat):pT base ws (k+1)=pT base ws k++[cc ws (wr (base+k))]:=by unfold pT;rw[tk,cW];rfl
theorem aiT(p q:Nat)(ws:List Int)(b w n:Int)(σ:Hp):ACalls Tryz.prog 107 [.agg [.int .i64 b,.int .i64 w,.int .i64 n],kK p] (bM p q ws σ) (ay (.ae (.int .u64) (pT b ws (cw n))) (bM p q ws σ)):=by
 have hc:=Bx n
 refine ar Tryz.func107 ?_
 intro aB
 refine aw [] (dG _ _ _) ?_
 refine aa 0 ?_
 refine aw [] (oy _ _ _ _) ?_
 refine .wrap 5 _ rfl rfl ?_
 refine bQ (S:=Nat×AV×Hp) (fun s=>[(1,kK p),(2,.ptr aB 0),(5,.via s.2.1),(10,.int .i64 (cw n)),(11,.int .i64 s.1)]) (fun s=>(aB,[.int .i64 b,.int .i64 w,.int .i64 n])::(s.2.2++bM p q ws σ)) (fun s=>s.1≤cw n∧Acc 1 s.1 s.2.1 s.2.2 (aP (pT b ws s.1))) (fun s=>cw n-s.1) (0,.ai,[]) ⟨⟨bA _,.nil⟩,⟨rfl,rfl,rfl,rfl,rfl,trivial⟩,rfl⟩ ?_
 rintro⟨k,v,acc⟩ g ⟨hk,bY⟩
 have hk:k≤cw n:=hk
 have bY:Acc 1 k v acc (aP (pT b ws k)):=bY
 refine ak (fun h=>?_) (fun h=>?_)
 ·have h:(k:Int)<cw n:=h
  refine aa 0 ?_
  refine⟨_,mLoad_,?_⟩
  refine .perm (σ2:=bM p q ws ((aB,[.int .i64 b,.int .i64 w,.int .i64 n])::(acc++σ))) _ ?_ (aLoad p q ws _ _) ?_
  ·exact eX ((aB,[.int .i64 b,.int .i64 w,.int .i64 n])::acc) [_,_] σ
  rintro _ _ ⟨rfl,rfl⟩
  refine⟨_,(eX ((aB,[.int .i64 b,.int .i64 w,.int .i64 n])::acc) [_,_] σ).symm,?_⟩
  intro dc
  refine jP [_,_] bY (.af 0 dc 0 1 _ rfl (cI rfl)) rfl (by omega) (by decide) (by decide) (fun v' bD h'=>?_)
  refine aY (k+1,v',bD) ?_ ⟨?_,?_⟩ ⟨rfl,rfl,rfl,rfl,aS (by omega),trivial⟩ (.drop 0 1 (aL rfl))
  ·show cw n-(k+1)<cw n-k;omega
  ·show k+1≤cw n;omega
  ·show Acc 1 (k+1) v' bD (aP (pT b ws (k+1)))
   rw[aar,aP,cW]
   exact h'
 ·have h:¬(k:Int)<cw n:=h
  obtain rfl:k=cw n:=by omega
  refine .drop 0 1 ?_
  exact qs (s:=.int .u64) (l:=pT b ws (cw n)) [] bY (Yx b ws _).symm (by rw[kC]) (by decide) (.done ⟨rfl,rfl⟩)
def kp(v:AV)(base what words:Int)(ended:Bool)(at_:Nat)(fG:Bool)(x:Int):List AV:=[.int .i64 base,.int .i64 what,.int .i64 words,v,.bool ended,.int .i64 at_,.bool fG,.int .u64 x]
inductive kV:AV→Hp→List Int→Prop where
 |nil:kV .ai [] []
 |af (b:Nat) (l:List Int):kV (.af b 0 l.length 1) [(b,aP l)] l
theorem kV.push(b:Nat)(l:List Int)(x:Int):kV (.af b 0 (l.length+1) 1) [(b,(aP l).take (l.length*1)++[.int .u64 x])] (l++[x]):=by
 have h:=kV.af b (l++[x])
 have e1:(l++[x]).length=l.length+1:=by simp
 have e2:aP (l++[x])=(aP l).take (l.length*1)++[.int .u64 x]:=by rw[List.take_of_length_le (by simp[aP])];simp[aP]
 rw[e1,e2]at h
 exact h
theorem ab8(σ:Hp):ACalls Tryz.prog 256 [.ai] σ (ay .ai σ):=by
 refine ar Tryz.func256 ?_
 exact .done ⟨rfl,rfl⟩
theorem Dd(b k:Nat)(cs:List AV)(σ:Hp)(hm:(b,cs)∈σ)(h:cs.length=k*1)(hl:k≤1000000):ACalls Tryz.prog 256 [.af b 0 k 1] σ (fun x σ'=>∃b',x=.af b' 0 k 1∧σ'=(b',cs)::σ):=by
 refine ar Tryz.func256 ?_
 intro b2
 refine AppendAt.more 0 b2 0 k [] ((cs.drop 0).take (k*1)) rfl rfl (cI rfl) (.mem (dp _ hm) (by show 0+k*1≤cs.length;omega)) (by omega) (by decide) (by decide) (fun b'=>?_)
 refine .done ⟨b',by rw[dR];rfl,?_⟩
 show (b',List.take (0*1) []++(cs.drop 0).take (k*1))::σ=_
 rw[show (cs.drop 0).take (k*1)=cs by rw[gz,ek (by omega)]];rfl
structure Lay where
 what:Int
 words:Int
 n:Int
 k:Int
def ib(l:Lay):List AV:=[.int .i64 l.what,.int .i64 l.words,.int .i64 l.n,.int .i64 l.k]
def cO(l:Lay):Int:=wr (l.n*l.words)
def cq(l:Lay):Int:=wr (cO l+l.n)
def eC(l:Lay):Int:=wr (l.n+1)
def ec(l:Lay)(w:Int):Int:=wr (wr (cq l+1)+wr (w*((2+rm (eC l):Nat):Int)))
def bg(l:Lay)(v:Int):Int:=wr (v*l.words)
def iJ(s:Sy)(k:Int):Lay:=⟨qR (du s k) s.what,qR (du s k) (eN s.what s.w),qR (du s k) s.n,qR (du s k) k⟩
theorem aeU(n:Int)(σ:Hp):ACalls Tryz.prog 87 [.int .i64 n] σ (ay (.int .i64 ((2+rm n:Nat):Int)) σ):=by
 have h:=vD n
 refine ar Tryz.func87 ?_
 refine aw [] (NF _ _) ?_
 exact .done ⟨aQ (by rw[IntKind.wrap_i64];omega),rfl⟩
theorem V1(l:Lay)(σ:Hp):ACalls Tryz.prog 108 [.agg (ib l)] σ (ay (.int .i64 (cO l)) σ):=by
 refine ar Tryz.func108 ?_
 intro aB
 refine aa 0 ?_
 refine aa 0 ?_
 exact .drop 0 1 (.done ⟨rfl,rfl⟩)
theorem U8(l:Lay)(σ:Hp):ACalls Tryz.prog 109 [.agg (ib l)] σ (ay (.int .i64 (cq l)) σ):=by
 refine ar Tryz.func109 ?_
 intro aB
 refine .quiet (by kernel_rfl) ?_
 refine aa 0 ?_
 refine aI [] (V1 l _) ?_
 refine aa 0 ?_
 exact .drop 0 1 (.done ⟨rfl,rfl⟩)
theorem M8(l:Lay)(σ:Hp):ACalls Tryz.prog 88 [.agg (ib l)] σ (ay (.int .i64 (eC l)) σ):=by
 refine ar Tryz.func88 ?_
 intro aB
 refine aa 0 ?_
 exact .drop 0 1 (.done ⟨rfl,rfl⟩)
theorem za(l:Lay)(w:Int)(σ:Hp):ACalls Tryz.prog 52 [.agg (ib l),.int .i64 w] σ (ay (.agg [.int .i64 (ec l w),.int .i64 (eC l)]) σ):=by
 refine ar Tryz.func52 ?_
 intro aB
 intro dc
 refine .sched [1,5,6,10] (upto [1,5,6,10] 13 0) (by kernel_rfl) ?_
 refine aa 1 ?_
 refine aI [] (U8 l _) ?_
 refine aa 1 ?_
 refine aI [] (M8 l _) ?_
 refine aI [] (aeU _ _) ?_
 refine aa 1 ?_
 refine aI [] (M8 l _) ?_
 refine aj 0 ?_
 refine aa 0 ?_
 exact .drop 0 2 (.done ⟨rfl,rfl⟩)
theorem A9(l:Lay)(σ:Hp):ACalls Tryz.prog 45 [.agg (ib l)] σ (ay (.agg [.int .i64 (cO l),.int .i64 (cq l)]) σ):=by
 refine ar Tryz.func45 ?_
 intro aB
 intro dc
 refine .sched [1,3] (upto [1,3] 6 0) (by kernel_rfl) ?_
 refine aa 1 ?_
 refine aI [] (V1 l _) ?_
 refine aa 1 ?_
 refine aI [] (U8 l _) ?_
 refine aj 0 ?_
 refine aa 0 ?_
 exact .drop 0 2 (.done ⟨rfl,rfl⟩)
theorem Iu(l:Lay)(v:Int)(σ:Hp):ACalls Tryz.prog 106 [.agg (ib l),.int .i64 v] σ (ay (.agg [.int .i64 (bg l v),.int .i64 l.what,.int .i64 l.words]) σ):=by
 refine ar Tryz.func106 ?_
 intro aB
 intro dc
 refine aa 1 ?_
 refine aa 1 ?_
 refine aa 1 ?_
 refine aj 0 ?_
 refine aa 0 ?_
 exact .drop 0 2 (.done ⟨rfl,rfl⟩)
theorem VW(l:Lay)(σ:Hp):ACalls Tryz.prog 96 [.agg (ib l)] σ (ay (.int .i64 (ec l l.k)) σ):=by
 refine ar Tryz.func96 ?_
 intro aB
 refine aa 0 ?_
 refine aa 0 ?_
 refine aw [] (za l _ _) ?_
 exact .drop 0 1 (.done ⟨rfl,rfl⟩)
theorem It(s:Sy)(k:Int)(σ:Hp)(hf:Fit s):ACalls Tryz.prog 37 [.agg (aW s),.int .i64 k] σ (ay (.tup [.agg (ib (iJ s k)),.int .i64 (du s k)]) σ):=by
 refine ar Tryz.func37 ?_
 intro aB
 intro dc
 refine aa 1 ?_
 refine aw [] (yV s _ hf) ?_
 refine cX (fun c3=>?_) (fun c3=>?_)
 ·have c3:¬(cm s=0):=by simpa using c3
  refine aj 0 ?_
  refine aa 0 ?_
  exact .drop 0 2 (.done ⟨ac5 (by assumption),rfl⟩)
 ·have c3:cm s=0:=by simpa using c3
  refine ak (fun c4=>?_) (fun c4=>?_)
  ·have c4:k<1:=c4
   refine aj 0 ?_
   refine aa 0 ?_
   exact .drop 0 2 (.done ⟨Tc (by assumption) (by omega),rfl⟩)
  ·have c4:¬(k<1):=c4
   refine ak (fun c5=>?_) (fun c5=>?_)
   ·have c5:64<k:=c5
    refine aj 0 ?_
    refine aa 0 ?_
    exact .drop 0 2 (.done ⟨Tc (by assumption) (by omega),rfl⟩)
   ·have c5:¬(64<k):=c5
    refine .sched [6] (upto [6] 13 0) (by kernel_rfl) ?_
    refine aa 1 ?_
    refine aa 1 ?_
    refine aa 1 ?_
    refine aI [] (HZ _ _ _) ?_
    refine aa 1 ?_
    refine aj 0 ?_
    refine aa 0 ?_
    exact .drop 0 2 (.done ⟨aeg (by assumption) (by omega),rfl⟩)
inductive Nw where
 |none
 |pop (q:DQ)
 |cC (q:DQ)
 |quiet (t:Qk)
 |clear (t:Ck)
 |read (l:List Int)
 |join (j:Jn)
 |take (t:Tk)
 |push (q:DQ)
 |ee (t:Rk)
structure WS where
 ev:Int
 jo:Int
 en:Bool
 does:Int
 now:Nw
 node:Int
 has:Bool
 nx:List Int
 out:List Int
abbrev dW(s:Sy)(l:Lay)(who ev jo:Int)(en:Bool)(does:Int)(nv:AV)(node:Int)(has:Bool)(nx out:List Int):List AV:=
 [.int .i64 ev,.int .i64 jo,.bool en,.int .i64 s.what,.int .i64 s.w,.int .i64 s.n,.ae dB s.aO,.ae (.int .i64) s.entry,.ae (.int .u64) s.init,.ae kY s.T,.int .i64 l.what,.int .i64 l.words,.int .i64 l.n,.int .i64 l.k,.int .i64 who,.int .i64 does,nv,.int .i64 node,.bool has,.ae (.int .i64) nx,.ae (.int .u64) out,.bool true]
theorem M9(w:Nat)(s:Sy)(l:Lay)(who ev jo:Int)(en:Bool)(does:Int)(nv:AV)(node:Int)(has:Bool)(nx out:List Int)(σ:Hp):ACalls Tryz.prog 396 [.ptr w 0] ((w,dW s l who ev jo en does nv node has nx out)::σ) (ay (.bool (decide (l.k<2))) ((w,dW s l who ev jo en does nv node has nx out)::σ)):=by
 refine ar Tryz.func396 ?_
 refine aa 0 ?_
 refine ak (fun c1=>?_) (fun c1=>?_)
 ·have c1:l.k<2:=c1
  exact .done ⟨cy (aT (by assumption)).symm,rfl⟩
 ·have c1:¬(l.k<2):=c1
  exact .done ⟨cy (bS (by assumption)).symm,rfl⟩
def nK(l:Lay):Int:=wr (l.k-1)
def Dx(l:Lay)(who d:Int):Int:=(wr (wr (who+1)+(wr (d.tmod (nK l)+nK l)).tmod (nK l))).tmod l.k
theorem af2(w:Nat)(s:Sy)(l:Lay)(who ev jo:Int)(en:Bool)(does:Int)(nv:AV)(node:Int)(has:Bool)(nx out:List Int)(d:Int)(σ:Hp)(h1:nK l≠0)(h2:l.k≠0):ACalls Tryz.prog 393 [.ptr w 0,.int .i64 d] ((w,dW s l who ev jo en does nv node has nx out)::σ) (ay (.int .i64 (Dx l who d)) ((w,dW s l who ev jo en does nv node has nx out)::σ)):=by
 refine ar Tryz.func393 ?_
 refine aa 0 ?_
 refine .quiet (by kernel_rfl) ?_
 refine aa 0 ?_
 refine aG.mk h1 ?_
 refine aG.mk h1 ?_
 refine aa 0 ?_
 refine aG.mk h2 ?_
 exact .done ⟨rfl,rfl⟩
def pD(l:Lay)(n:Int):Int:=if wu l.n≤n then 0 else wr n
def rG(l:Lay)(n:Int):Int:=if wu l.n≤n then 8 else 3
theorem Xq(w:Nat)(s:Sy)(l:Lay)(who ev jo:Int)(en:Bool)(does:Int)(nv:AV)(node:Int)(has:Bool)(nx out:List Int)(n:Int)(σ:Hp):ACalls Tryz.prog 394 [.ptr w 0,.int .u64 n] ((w,dW s l who ev jo en does nv node has nx out)::σ) (ay (.int .i64 (rG l n)) ((w,dW s l who ev jo en does nv (pD l n) true nx out)::σ)):=by
 refine ar Tryz.func394 ?_
 refine aj 0 ?_
 refine aj 0 ?_
 refine aa 0 ?_
 refine ak (fun c1=>?_) (fun c1=>?_)
 ·have c1:IntKind.u64.wrap l.n≤n:=c1
  exact .done ⟨aQ (ah c1).symm,congrArg (fun z=>(w,dW s l who ev jo en does nv z true nx out)::σ) (show _=pD l n from (ah c1).symm)⟩
 ·have c1:¬(IntKind.u64.wrap l.n≤n):=c1
  refine aj 0 ?_
  exact .done ⟨aQ (ag c1).symm,congrArg (fun z=>(w,dW s l who ev jo en does nv z true nx out)::σ) (show _=pD l n from (ag c1).symm)⟩
def rC(l:Lay):Int:=if l.k<2 then 2 else 1
theorem agJ(w:Nat)(s:Sy)(l:Lay)(who ev jo:Int)(en:Bool)(does:Int)(nv:AV)(node:Int)(has:Bool)(nx out:List Int)(σ:Hp):ACalls Tryz.prog 395 [.ptr w 0] ((w,dW s l who ev jo en does nv node has nx out)::σ) (ay (.int .i64 (rC l)) ((w,dW s l who ev jo en does nv node has nx out)::σ)):=by
 refine ar Tryz.func395 ?_
 refine dC [] (M9 w s l who ev jo en does nv node has nx out _) (fun c=>?_) (fun c=>?_)
 ·exact .done ⟨aQ (ah (fk c)).symm,rfl⟩
 ·exact .done ⟨aQ (ag (nj c)).symm,rfl⟩
def kD(nx:List Int):Int:=if nx.tail.length=0 then 8 else 5
theorem MK(w:Nat)(s:Sy)(l:Lay)(who ev jo:Int)(en:Bool)(does:Int)(nv:AV)(node:Int)(has:Bool)(nx out:List Int)(σ:Hp)(hx:0<nx.length):ACalls Tryz.prog 398 [.ptr w 0] ((w,dW s l who ev jo en does nv node has nx out)::σ) (ay (.int .i64 (kD nx)) ((w,dW s l who ev jo en does nv node has nx.tail out)::σ)):=by
 refine ar Tryz.func398 ?_
 cases nx with
 |nil=>simp at hx
 |cons z nx=>
  refine aa 0 ?_
  refine aG.mk ⟨by decide,Int.ofNat_le.2 (Nat.succ_le_succ (bA _)),jL _,rfl⟩ ?_
  have e:((z::nx).drop ((1:Int)).toNat).take ((((z::nx).length:Nat):Int).toNat-((1:Int)).toNat)=nx:=by simp
  refine aj 0 ?_
  refine aa 0 ?_
  refine ak (fun c1=>?_) (fun c1=>?_)
  ·have c1:(↑(List.take ((↑(z::nx).length:Int).toNat-Int.toNat 1) (List.drop (Int.toNat 1) (z::nx))).length:Int)=0:=c1
   have c2:(nx.length:Int)=0:=(congrArg (fun z:List Int=>(z.length:Int)) e).symm.trans c1
   exact .done ⟨aQ (ah (show nx.length=0 by omega)).symm,congrArg (fun z=>(w,dW s l who ev jo en does nv node has z out)::σ) e⟩
  ·have c1:¬((↑(List.take ((↑(z::nx).length:Int).toNat-Int.toNat 1) (List.drop (Int.toNat 1) (z::nx))).length:Int)=0):=c1
   have c2:¬(nx.length:Int)=0:=fun h=>c1 ((congrArg (fun z:List Int=>(z.length:Int)) e).trans h)
   exact .done ⟨aQ (ag (show ¬nx.length=0 by omega)).symm,congrArg (fun z=>(w,dW s l who ev jo en does nv node has z out)::σ) e⟩
def vr(s:Sy)(node:Int):Int:=if (au s.n s.aO node).length=0 then 8 else 5
theorem agC(w:Nat)(s:Sy)(l:Lay)(who ev jo:Int)(en:Bool)(does:Int)(nv:AV)(node:Int)(has:Bool)(nx out x:List Int)(σ:Hp)(hf:Fit s)(hx:aR x)(lx:x.length≤10000):ACalls Tryz.prog 397 [.ptr w 0,.ae (.int .u64) x] ((w,dW s l who ev jo en does nv node has nx out)::σ) (ay (.int .i64 (vr s node)) ((w,dW s l who (wr (ev+1)) jo en does nv node has (au s.n s.aO node) (r8 (pQ s node x) (gg s x node.toNat)))::σ)):=by
 refine ar Tryz.func397 ?_
 refine aa 0 ?_
 refine aj 0 ?_
 refine .sched [10] (upto [10] 17 0) (by kernel_rfl) ?_
 refine aa 0 ?_
 refine aa 0 ?_
 refine aI [] (af5 s node x _ hf hx lx) ?_
 refine aj 0 ?_
 refine .sched [15] (upto [15] 19 0) (by kernel_rfl) ?_
 refine aa 0 ?_
 refine aa 0 ?_
 refine aa 0 ?_
 refine aI [] (BB s.n s.aO node _ hf.BN) ?_
 refine aj 0 ?_
 refine aa 0 ?_
 refine ak (fun c1=>?_) (fun c1=>?_)
 ·have c1:(↑(au s.n s.aO node).length:Int)=0:=c1
  exact .done ⟨aQ (ah (show (au s.n s.aO node).length=0 by omega)).symm,rfl⟩
 ·have c1:¬((↑(au s.n s.aO node).length:Int)=0):=c1
  exact .done ⟨aQ (ag (show ¬(au s.n s.aO node).length=0 by omega)).symm,rfl⟩
end Go.Proofs.YtnikdflhefijbaaGreat
