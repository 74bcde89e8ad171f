import Derived.Test.YtnikdflhefijbaaGreatBn9
import Derived.Test.YtnikdflhefijbaaGreatBn6
import Derived.Shelf.GgSortFunc.RowK
import Derived.Sort.Grow
import Derived.Test.YtnikdflhefijbaaGreatBn5
namespace Go.Proofs.YtnikdflhefijbaaGreat
open Go.RowKit
set_option maxRecDepth 100000
def WK(p:Prop)(σ:Hp):AV→Hp→Prop:=fun r σ'=>∃b:Bool,r=.bool b∧σ'=σ∧(b=true→p)
theorem ahq{P:Program}{f:FuncId}{xs:List AV}{σ:Hp}{K:AV→Hp→Prop}(js:List Nat){p:Prop}{σ2:Hp}(h:ACalls P f xs (oF js σ) (WK p σ2))(k1:p→K (.bool true) σ2)(k2:K (.bool false) σ2):CallAt P f K xs σ:=
 .mk js _ h fun r σ' ⟨b,h1,h2,h3⟩=>by subst h1 h2;cases b;exact k2;exact k1 (h3 rfl)
structure V7(s:Sy):Prop where
 tl:s.T.length≤8
 el:s.aO.length≤16
 nl:s.entry.length≤10
 il:s.init.length≤20
 ts:∀t∈s.T,t.1.length≤4∧t.2.1.length≤4∧t.2.2.1.length≤6
 sz:(s.n≤7∧s.w≤10)∨256<s.n∨1024<s.w
theorem ad0(s:Sy)(σ:Hp):ACalls Tryz.prog 28 [.agg (aW s)] σ (WK (V7 s) σ):=by
 refine ar Tryz.func28 ?_
 intro aB
 refine aa 0 ?_
 refine ak (fun c2=>?_) (fun c2=>?_)
 ·have c2:7<s.n:=c2
  refine aa 0 ?_
  refine ak (fun c3=>?_) (fun c3=>?_)
  ·have c3:s.n≤256:=c3
   refine aa 0 ?_
   refine ak (fun c4=>?_) (fun c4=>?_)
   ·exact .drop 0 1 (.done ⟨false,rfl,rfl,fun h=>by cases h⟩)
   ·have c4:¬(s.w≤1024):=c4
    refine aa 0 ?_
    refine ak (fun c5=>?_) (fun c5=>?_)
    ·exact .drop 0 1 (.done ⟨false,rfl,rfl,fun h=>by cases h⟩)
    ·have c5:¬(8<(↑s.T.length:Int)):=c5
     refine aa 0 ?_
     refine ak (fun c6=>?_) (fun c6=>?_)
     ·exact .drop 0 1 (.done ⟨false,rfl,rfl,fun h=>by cases h⟩)
     ·have c6:¬(16<(↑s.aO.length:Int)):=c6
      refine aa 0 ?_
      refine ak (fun c7=>?_) (fun c7=>?_)
      ·exact .drop 0 1 (.done ⟨false,rfl,rfl,fun h=>by cases h⟩)
      ·have c7:¬(10<(↑s.entry.length:Int)):=c7
       refine aa 0 ?_
       refine ak (fun c8=>?_) (fun c8=>?_)
       ·exact .drop 0 1 (.done ⟨false,rfl,rfl,fun h=>by cases h⟩)
       ·have c8:¬(20<(↑s.init.length:Int)):=c8
        refine aa 0 ?_
        refine bQ (S:=Nat) (fun k=>[(48,.ae kY s.T),(49,.int .i64 s.T.length),(50,.int .i64 k)]) (fun _=>(aB,aW s)::σ) (fun k=>k≤s.T.length∧∀t∈s.T.take k,t.1.length≤4∧t.2.1.length≤4∧t.2.2.1.length≤6) (fun k=>s.T.length-k) 0 ⟨⟨bA _,fun t h=>by cases h⟩,⟨rfl,rfl,rfl,trivial⟩,rfl⟩ ?_
        rintro k g ⟨aK,j0⟩
        have hk:k≤s.T.length:=aK
        have ht:∀t∈s.T.take k,t.1.length≤4∧t.2.1.length≤4∧t.2.2.1.length≤6:=j0
        clear aK j0
        refine ak (fun ab=>?_) (fun aq=>?_)
        ·have ab:k<s.T.length:=by have ab:(k:Int)<s.T.length:=ab;omega
         have gV:s.T.take (k+1)=s.T.take k++[s.T[k]]:=ff ab
         obtain⟨t,fi⟩:∃t:mI,s.T[k]=t:=⟨_,rfl⟩
         rw[fi]at gV
         refine aG.mk rfl (bE.mk t (by omega) ((get_some ab).trans (congrArg some fi)) ?_)
         intro dc
         refine aj 0 ?_
         refine aa 0 ?_
         refine ak (p:=4<(t.1.length:Int)) (fun d1=>?_) (fun d1=>?_)
         ·exact .drop 0 2 (.done ⟨false,rfl,rfl,fun h=>by cases h⟩)
         ·refine aa 0 ?_
          refine ak (p:=4<(t.2.1.length:Int)) (fun d2=>?_) (fun d2=>?_)
          ·exact .drop 0 2 (.done ⟨false,rfl,rfl,fun h=>by cases h⟩)
          ·refine aa 0 ?_
           refine ak (p:=6<(t.2.2.1.length:Int)) (fun d3=>?_) (fun d3=>?_)
           ·exact .drop 0 2 (.done ⟨false,rfl,rfl,fun h=>by cases h⟩)
           ·refine aY (k+1) (by show s.T.length-(k+1)<s.T.length-k;omega) ⟨ab,fun u hu=>?_⟩ ⟨rfl,rfl,aS (by omega),trivial⟩ (.drop 0 1 (.refl _))
            rw[gV]at hu
            rcases bV.1 hu with hu | hu
            ·exact ht u hu
            ·rw[bB.1 hu];omega
        ·have aq:k=s.T.length:=by have aq:¬(k:Int)<s.T.length:=aq;omega
         subst aq
         rw[fA]at ht
         exact .drop 0 1 (.done ⟨true,rfl,rfl,fun _=>⟨by omega,by omega,by omega,by omega,ht,by omega⟩⟩)
  ·have c3:¬(s.n≤256):=c3
   refine aa 0 ?_
   refine ak (fun c9=>?_) (fun c9=>?_)
   ·exact .drop 0 1 (.done ⟨false,rfl,rfl,fun h=>by cases h⟩)
   ·have c9:¬(8<(↑s.T.length:Int)):=c9
    refine aa 0 ?_
    refine ak (fun j7=>?_) (fun j7=>?_)
    ·exact .drop 0 1 (.done ⟨false,rfl,rfl,fun h=>by cases h⟩)
    ·have j7:¬(16<(↑s.aO.length:Int)):=j7
     refine aa 0 ?_
     refine ak (fun P4=>?_) (fun P4=>?_)
     ·exact .drop 0 1 (.done ⟨false,rfl,rfl,fun h=>by cases h⟩)
     ·have P4:¬(10<(↑s.entry.length:Int)):=P4
      refine aa 0 ?_
      refine ak (fun wX=>?_) (fun wX=>?_)
      ·exact .drop 0 1 (.done ⟨false,rfl,rfl,fun h=>by cases h⟩)
      ·have wX:¬(20<(↑s.init.length:Int)):=wX
       refine aa 0 ?_
       refine bQ (S:=Nat) (fun k=>[(48,.ae kY s.T),(49,.int .i64 s.T.length),(50,.int .i64 k)]) (fun _=>(aB,aW s)::σ) (fun k=>k≤s.T.length∧∀t∈s.T.take k,t.1.length≤4∧t.2.1.length≤4∧t.2.2.1.length≤6) (fun k=>s.T.length-k) 0 ⟨⟨bA _,fun t h=>by cases h⟩,⟨rfl,rfl,rfl,trivial⟩,rfl⟩ ?_
       rintro k g ⟨aK,j0⟩
       have hk:k≤s.T.length:=aK
       have ht:∀t∈s.T.take k,t.1.length≤4∧t.2.1.length≤4∧t.2.2.1.length≤6:=j0
       clear aK j0
       refine ak (fun ab=>?_) (fun aq=>?_)
       ·have ab:k<s.T.length:=by have ab:(k:Int)<s.T.length:=ab;omega
        have gV:s.T.take (k+1)=s.T.take k++[s.T[k]]:=ff ab
        obtain⟨t,fi⟩:∃t:mI,s.T[k]=t:=⟨_,rfl⟩
        rw[fi]at gV
        refine aG.mk rfl (bE.mk t (by omega) ((get_some ab).trans (congrArg some fi)) ?_)
        intro dc
        refine aj 0 ?_
        refine aa 0 ?_
        refine ak (p:=4<(t.1.length:Int)) (fun d1=>?_) (fun d1=>?_)
        ·exact .drop 0 2 (.done ⟨false,rfl,rfl,fun h=>by cases h⟩)
        ·refine aa 0 ?_
         refine ak (p:=4<(t.2.1.length:Int)) (fun d2=>?_) (fun d2=>?_)
         ·exact .drop 0 2 (.done ⟨false,rfl,rfl,fun h=>by cases h⟩)
         ·refine aa 0 ?_
          refine ak (p:=6<(t.2.2.1.length:Int)) (fun d3=>?_) (fun d3=>?_)
          ·exact .drop 0 2 (.done ⟨false,rfl,rfl,fun h=>by cases h⟩)
          ·refine aY (k+1) (by show s.T.length-(k+1)<s.T.length-k;omega) ⟨ab,fun u hu=>?_⟩ ⟨rfl,rfl,aS (by omega),trivial⟩ (.drop 0 1 (.refl _))
           rw[gV]at hu
           rcases bV.1 hu with hu | hu
           ·exact ht u hu
           ·rw[bB.1 hu];omega
       ·have aq:k=s.T.length:=by have aq:¬(k:Int)<s.T.length:=aq;omega
        subst aq
        rw[fA]at ht
        exact .drop 0 1 (.done ⟨true,rfl,rfl,fun _=>⟨by omega,by omega,by omega,by omega,ht,by omega⟩⟩)
 ·have c2:¬(7<s.n):=c2
  refine aa 0 ?_
  refine ak (fun Gl=>?_) (fun Gl=>?_)
  ·have Gl:10<s.w:=Gl
   refine aa 0 ?_
   refine ak (fun tw=>?_) (fun tw=>?_)
   ·have tw:s.n≤256:=tw
    refine aa 0 ?_
    refine ak (fun P3=>?_) (fun P3=>?_)
    ·exact .drop 0 1 (.done ⟨false,rfl,rfl,fun h=>by cases h⟩)
    ·have P3:¬(s.w≤1024):=P3
     refine aa 0 ?_
     refine ak (fun wW=>?_) (fun wW=>?_)
     ·exact .drop 0 1 (.done ⟨false,rfl,rfl,fun h=>by cases h⟩)
     ·have wW:¬(8<(↑s.T.length:Int)):=wW
      refine aa 0 ?_
      refine ak (fun P1=>?_) (fun P1=>?_)
      ·exact .drop 0 1 (.done ⟨false,rfl,rfl,fun h=>by cases h⟩)
      ·have P1:¬(16<(↑s.aO.length:Int)):=P1
       refine aa 0 ?_
       refine ak (fun PZ=>?_) (fun PZ=>?_)
       ·exact .drop 0 1 (.done ⟨false,rfl,rfl,fun h=>by cases h⟩)
       ·have PZ:¬(10<(↑s.entry.length:Int)):=PZ
        refine aa 0 ?_
        refine ak (fun PY=>?_) (fun PY=>?_)
        ·exact .drop 0 1 (.done ⟨false,rfl,rfl,fun h=>by cases h⟩)
        ·have PY:¬(20<(↑s.init.length:Int)):=PY
         refine aa 0 ?_
         refine bQ (S:=Nat) (fun k=>[(48,.ae kY s.T),(49,.int .i64 s.T.length),(50,.int .i64 k)]) (fun _=>(aB,aW s)::σ) (fun k=>k≤s.T.length∧∀t∈s.T.take k,t.1.length≤4∧t.2.1.length≤4∧t.2.2.1.length≤6) (fun k=>s.T.length-k) 0 ⟨⟨bA _,fun t h=>by cases h⟩,⟨rfl,rfl,rfl,trivial⟩,rfl⟩ ?_
         rintro k g ⟨aK,j0⟩
         have hk:k≤s.T.length:=aK
         have ht:∀t∈s.T.take k,t.1.length≤4∧t.2.1.length≤4∧t.2.2.1.length≤6:=j0
         clear aK j0
         refine ak (fun ab=>?_) (fun aq=>?_)
         ·have ab:k<s.T.length:=by have ab:(k:Int)<s.T.length:=ab;omega
          have gV:s.T.take (k+1)=s.T.take k++[s.T[k]]:=ff ab
          obtain⟨t,fi⟩:∃t:mI,s.T[k]=t:=⟨_,rfl⟩
          rw[fi]at gV
          refine aG.mk rfl (bE.mk t (by omega) ((get_some ab).trans (congrArg some fi)) ?_)
          intro dc
          refine aj 0 ?_
          refine aa 0 ?_
          refine ak (p:=4<(t.1.length:Int)) (fun d1=>?_) (fun d1=>?_)
          ·exact .drop 0 2 (.done ⟨false,rfl,rfl,fun h=>by cases h⟩)
          ·refine aa 0 ?_
           refine ak (p:=4<(t.2.1.length:Int)) (fun d2=>?_) (fun d2=>?_)
           ·exact .drop 0 2 (.done ⟨false,rfl,rfl,fun h=>by cases h⟩)
           ·refine aa 0 ?_
            refine ak (p:=6<(t.2.2.1.length:Int)) (fun d3=>?_) (fun d3=>?_)
            ·exact .drop 0 2 (.done ⟨false,rfl,rfl,fun h=>by cases h⟩)
            ·refine aY (k+1) (by show s.T.length-(k+1)<s.T.length-k;omega) ⟨ab,fun u hu=>?_⟩ ⟨rfl,rfl,aS (by omega),trivial⟩ (.drop 0 1 (.refl _))
             rw[gV]at hu
             rcases bV.1 hu with hu | hu
             ·exact ht u hu
             ·rw[bB.1 hu];omega
         ·have aq:k=s.T.length:=by have aq:¬(k:Int)<s.T.length:=aq;omega
          subst aq
          rw[fA]at ht
          exact .drop 0 1 (.done ⟨true,rfl,rfl,fun _=>⟨by omega,by omega,by omega,by omega,ht,by omega⟩⟩)
   ·have tw:¬(s.n≤256):=tw
    refine aa 0 ?_
    refine ak (fun PX=>?_) (fun PX=>?_)
    ·exact .drop 0 1 (.done ⟨false,rfl,rfl,fun h=>by cases h⟩)
    ·have PX:¬(8<(↑s.T.length:Int)):=PX
     refine aa 0 ?_
     refine ak (fun PW=>?_) (fun PW=>?_)
     ·exact .drop 0 1 (.done ⟨false,rfl,rfl,fun h=>by cases h⟩)
     ·have PW:¬(16<(↑s.aO.length:Int)):=PW
      refine aa 0 ?_
      refine ak (fun PV=>?_) (fun PV=>?_)
      ·exact .drop 0 1 (.done ⟨false,rfl,rfl,fun h=>by cases h⟩)
      ·have PV:¬(10<(↑s.entry.length:Int)):=PV
       refine aa 0 ?_
       refine ak (fun PU=>?_) (fun PU=>?_)
       ·exact .drop 0 1 (.done ⟨false,rfl,rfl,fun h=>by cases h⟩)
       ·have PU:¬(20<(↑s.init.length:Int)):=PU
        refine aa 0 ?_
        refine bQ (S:=Nat) (fun k=>[(48,.ae kY s.T),(49,.int .i64 s.T.length),(50,.int .i64 k)]) (fun _=>(aB,aW s)::σ) (fun k=>k≤s.T.length∧∀t∈s.T.take k,t.1.length≤4∧t.2.1.length≤4∧t.2.2.1.length≤6) (fun k=>s.T.length-k) 0 ⟨⟨bA _,fun t h=>by cases h⟩,⟨rfl,rfl,rfl,trivial⟩,rfl⟩ ?_
        rintro k g ⟨aK,j0⟩
        have hk:k≤s.T.length:=aK
        have ht:∀t∈s.T.take k,t.1.length≤4∧t.2.1.length≤4∧t.2.2.1.length≤6:=j0
        clear aK j0
        refine ak (fun ab=>?_) (fun aq=>?_)
        ·have ab:k<s.T.length:=by have ab:(k:Int)<s.T.length:=ab;omega
         have gV:s.T.take (k+1)=s.T.take k++[s.T[k]]:=ff ab
         obtain⟨t,fi⟩:∃t:mI,s.T[k]=t:=⟨_,rfl⟩
         rw[fi]at gV
         refine aG.mk rfl (bE.mk t (by omega) ((get_some ab).trans (congrArg some fi)) ?_)
         intro dc
         refine aj 0 ?_
         refine aa 0 ?_
         refine ak (p:=4<(t.1.length:Int)) (fun d1=>?_) (fun d1=>?_)
         ·exact .drop 0 2 (.done ⟨false,rfl,rfl,fun h=>by cases h⟩)
         ·refine aa 0 ?_
          refine ak (p:=4<(t.2.1.length:Int)) (fun d2=>?_) (fun d2=>?_)
          ·exact .drop 0 2 (.done ⟨false,rfl,rfl,fun h=>by cases h⟩)
          ·refine aa 0 ?_
           refine ak (p:=6<(t.2.2.1.length:Int)) (fun d3=>?_) (fun d3=>?_)
           ·exact .drop 0 2 (.done ⟨false,rfl,rfl,fun h=>by cases h⟩)
           ·refine aY (k+1) (by show s.T.length-(k+1)<s.T.length-k;omega) ⟨ab,fun u hu=>?_⟩ ⟨rfl,rfl,aS (by omega),trivial⟩ (.drop 0 1 (.refl _))
            rw[gV]at hu
            rcases bV.1 hu with hu | hu
            ·exact ht u hu
            ·rw[bB.1 hu];omega
        ·have aq:k=s.T.length:=by have aq:¬(k:Int)<s.T.length:=aq;omega
         subst aq
         rw[fA]at ht
         exact .drop 0 1 (.done ⟨true,rfl,rfl,fun _=>⟨by omega,by omega,by omega,by omega,ht,by omega⟩⟩)
  ·have Gl:¬(10<s.w):=Gl
   refine aa 0 ?_
   refine ak (fun PT=>?_) (fun PT=>?_)
   ·exact .drop 0 1 (.done ⟨false,rfl,rfl,fun h=>by cases h⟩)
   ·have PT:¬(8<(↑s.T.length:Int)):=PT
    refine aa 0 ?_
    refine ak (fun PS=>?_) (fun PS=>?_)
    ·exact .drop 0 1 (.done ⟨false,rfl,rfl,fun h=>by cases h⟩)
    ·have PS:¬(16<(↑s.aO.length:Int)):=PS
     refine aa 0 ?_
     refine ak (fun PR=>?_) (fun PR=>?_)
     ·exact .drop 0 1 (.done ⟨false,rfl,rfl,fun h=>by cases h⟩)
     ·have PR:¬(10<(↑s.entry.length:Int)):=PR
      refine aa 0 ?_
      refine ak (fun PQ=>?_) (fun PQ=>?_)
      ·exact .drop 0 1 (.done ⟨false,rfl,rfl,fun h=>by cases h⟩)
      ·have PQ:¬(20<(↑s.init.length:Int)):=PQ
       refine aa 0 ?_
       refine bQ (S:=Nat) (fun k=>[(48,.ae kY s.T),(49,.int .i64 s.T.length),(50,.int .i64 k)]) (fun _=>(aB,aW s)::σ) (fun k=>k≤s.T.length∧∀t∈s.T.take k,t.1.length≤4∧t.2.1.length≤4∧t.2.2.1.length≤6) (fun k=>s.T.length-k) 0 ⟨⟨bA _,fun t h=>by cases h⟩,⟨rfl,rfl,rfl,trivial⟩,rfl⟩ ?_
       rintro k g ⟨aK,j0⟩
       have hk:k≤s.T.length:=aK
       have ht:∀t∈s.T.take k,t.1.length≤4∧t.2.1.length≤4∧t.2.2.1.length≤6:=j0
       clear aK j0
       refine ak (fun ab=>?_) (fun aq=>?_)
       ·have ab:k<s.T.length:=by have ab:(k:Int)<s.T.length:=ab;omega
        have gV:s.T.take (k+1)=s.T.take k++[s.T[k]]:=ff ab
        obtain⟨t,fi⟩:∃t:mI,s.T[k]=t:=⟨_,rfl⟩
        rw[fi]at gV
        refine aG.mk rfl (bE.mk t (by omega) ((get_some ab).trans (congrArg some fi)) ?_)
        intro dc
        refine aj 0 ?_
        refine aa 0 ?_
        refine ak (p:=4<(t.1.length:Int)) (fun d1=>?_) (fun d1=>?_)
        ·exact .drop 0 2 (.done ⟨false,rfl,rfl,fun h=>by cases h⟩)
        ·refine aa 0 ?_
         refine ak (p:=4<(t.2.1.length:Int)) (fun d2=>?_) (fun d2=>?_)
         ·exact .drop 0 2 (.done ⟨false,rfl,rfl,fun h=>by cases h⟩)
         ·refine aa 0 ?_
          refine ak (p:=6<(t.2.2.1.length:Int)) (fun d3=>?_) (fun d3=>?_)
          ·exact .drop 0 2 (.done ⟨false,rfl,rfl,fun h=>by cases h⟩)
          ·refine aY (k+1) (by show s.T.length-(k+1)<s.T.length-k;omega) ⟨ab,fun u hu=>?_⟩ ⟨rfl,rfl,aS (by omega),trivial⟩ (.drop 0 1 (.refl _))
           rw[gV]at hu
           rcases bV.1 hu with hu | hu
           ·exact ht u hu
           ·rw[bB.1 hu];omega
       ·have aq:k=s.T.length:=by have aq:¬(k:Int)<s.T.length:=aq;omega
        subst aq
        rw[fA]at ht
        exact .drop 0 1 (.done ⟨true,rfl,rfl,fun _=>⟨by omega,by omega,by omega,by omega,ht,by omega⟩⟩)
theorem agd{s:Sy}(h:V7 s)(hi:aR s.init)(ht:∀t∈s.T,aR t.1∧aR t.2.1):Fit s:=by
 obtain⟨h1,h2,h3,h4,h5,_⟩:=h
 exact⟨hi,by omega,by omega,by omega,by omega,fun t hm=>⟨(ht t hm).1,(ht t hm).2,by have:=h5 t hm;omega,by have:=h5 t hm;omega,by have:=h5 t hm;omega⟩⟩
theorem HV{f:FuncId}{xs:List AV}{σ:Hp}{K:AV→Hp→Prop}(i k b':Nat)(cs':List AV)(e:Sh)(hi:σ[i]?=some (b',cs'))(hk:cs'[k]?=some .ai)(h:CallAt Tryz.prog f K xs (σ.set i (b',cs'.set k (.ae e [])))):CallAt Tryz.prog f K xs σ:=
 .mk [] K ⟨(yR h).1,fun F w vs bR aF=>(yR h).2 F w vs bR (UF aF e hi hk)⟩ fun _ _ h=>h
theorem A6{b off len es:Nat}{e:Sh}{l:List e.T}{xs ys:List AV}(h:eO b off len es e l (.tup xs) (.tup ys))(hl:ys.all AV.leaf=true):eO b off len es e l (.agg xs) (.agg ys):=by
 cases h with
 |refl=>exact .refl _
 |tup _ _ h1 h2=>exact .agg _ _ h1 (fun i y hy=>fK.1 hl y (cx hy)) h2
def jl(s:Sy):Nat→List (List Int)→Nat→List (List Int)×Nat
 | 0,a,k=>(a,k)
 |m+1,a,k=>if a=eW s a then (a,k) else jl s m (eW s a) (k+1)
theorem GU{s:Sy}{a:List (List Int)}(m k:Nat)(h:a=eW s a):jl s m a k=(a,k):=by
 cases m with
 |zero=>rfl
 |succ m=>exact ah h
theorem HB{s:Sy}{a:List (List Int)}(m k:Nat)(h:¬a=eW s a):jl s (m+1) a k=jl s m (eW s a) (k+1):=ag h
theorem VX(a b:List (List Int))(σ:Hp)(ha:ki a):ACalls Tryz.prog 240 [.ae (.slice (.int .u64)) a,.ae (.slice (.int .u64)) b] σ (ay (.bool (decide (a=b))) σ):=by
 refine ar Tryz.func240 ?_
 refine aw [] (TZ 244 [] a b (fun x y=>decide (x=y)) _ (eH ha.1 (by decide)) (fun x hx y _=>ade x y _ (eH (ha.2 x hx).2 (by decide)))) ?_
 exact .done ⟨cy (aaU a b),rfl⟩
theorem Sv(s:Sy)(a:List (List Int))(q r:Nat)(σ:Hp)(hf:Fit s)(hg:Good s)(ha:ic s a):ACalls Tryz.prog 238 [.ptr q 0,.ptr r 0] ((r,[.ae (.slice (.int .u64)) a])::(q,aW s)::σ) (ay (.ae (.slice (.int .u64)) (eW s a)) ((r,[.ae (.slice (.int .u64)) a])::(q,aW s)::σ)):=by
 refine ar Tryz.func238 ?_
 refine aa 1 ?_
 refine aa 0 ?_
 refine aw [] (ot (acY s a _ hf (ha.ok hg)) (by rw[aeF hg ha])) ?_
 exact .done ⟨rfl,rfl⟩
theorem GA{s:Sy}(hg:Good s):ic s (fM s):=by
 refine⟨by rw[KZ];have:=hg.n1;omega,fun x hx=>?_⟩
 rw[(Pu.1 hx).2]
 exact⟨HW hg.sW,Io _ _⟩
theorem ad9(s:Sy)(zq:Int)(σ:Hp)(hf:Fit s)(hm:cm s=0→0≤zq∧zq≤1000000):ACalls Tryz.prog 189 [.agg (aW s),.int .i64 zq] σ (ay (.tup [.ae (.slice (.int .u64)) (wk (cm s) (jl s zq.toNat (fM s) 0).1),.int .i64 (if cm s=0 then ((jl s zq.toNat (fM s) 0).2:Int) else 0),.int .i64 (cm s)]) σ):=by
 refine ar Tryz.func189 ?_
 intro aB
 refine aa 0 ?_
 by_cases c1:cm s=0
 ·have hg:=xB c1
  have hb:=GA hg
  have hm:=hm c1
  obtain⟨eK,rfl⟩:∃eK:Nat,zq=eK:=⟨zq.toNat,by omega⟩
  rw[bC]
  refine aw [] (ot (Ro s _ hf) (by rw[c1])) ?_
  intro br
  refine aj 0 ?_
  have hR:jl s (eK-0) (fM s) 0=jl s eK (fM s) 0:=rfl
  refine aw [] (Sv s (fM s) aB br _ hf hg hb) ?_
  refine ak (p:=((0:Nat):Int)<(eK:Int)) (fun d1=>?_) (fun d1=>?_)
  rotate_left
  ·have d2:eK-0=0:=by omega
   refine aa 0 ?_
   rw[d2]at hR
   exact .drop 0 2 (.done ⟨by rw[← hR,c1];rfl,rfl⟩)
  refine aa 0 ?_
  refine dC [] (VX (fM s) (eW s (fM s)) _ ((hb).ok hg)) (fun d2=>?_) (fun d2=>?_)
  ·have d2:(fM s)=eW s (fM s):=fk d2
   refine aa 0 ?_
   rw[GU _ _ d2]at hR
   exact .drop 0 2 (.done ⟨by rw[← hR,c1];rfl,rfl⟩)
  have d2:¬(fM s)=eW s (fM s):=nj d2
  refine aj 0 ?_
  rw[show eK-0=(eK-(0+1))+1 by omega,HB _ _ d2]at hR
  refine .loop (S:=List (List Int)×Nat) (fun _=>0) (fun x=>[(1,.int .i64 eK),(2,.ptr aB 0),(7,.ptr br 0),(9,.int .i64 x.2),(10,.fn (.func 238) [] [.ptr aB 0,.ptr br 0])]) (fun x=>(br,[.ae (.slice (.int .u64)) x.1])::(aB,aW s)::σ) (fun x=>(ic s x.1∧x.2≤eK)∧jl s (eK-x.2) x.1 x.2=jl s eK (fM s) 0) (fun x=>eK-x.2) (eW s (fM s),1) ⟨rfl,⟨⟨yT hf hg hb,by omega⟩,hR⟩,⟨rfl,rfl,rfl,rfl,rfl,trivial⟩,.refl _⟩ ?_
  rintro⟨a,k⟩ t ⟨⟨lG,aK⟩,FL⟩
  have ha:ic s a:=lG
  have hk:k≤eK:=aK
  have hR:jl s (eK-k) a k=jl s eK (fM s) 0:=FL
  clear lG aK FL
  refine aw [] (Sv s a aB br _ hf hg ha) ?_
  refine ak (p:=((k:Nat):Int)<(eK:Int)) (fun d1=>?_) (fun d1=>?_)
  rotate_left
  ·have d2:eK-k=0:=by omega
   refine aa 0 ?_
   rw[d2]at hR
   exact .drop 0 2 (.done ⟨by rw[← hR,c1];rfl,rfl⟩)
  refine aa 0 ?_
  refine dC [] (VX a (eW s a) _ ((ha).ok hg)) (fun d2=>?_) (fun d2=>?_)
  ·have d2:a=eW s a:=fk d2
   refine aa 0 ?_
   rw[GU _ _ d2]at hR
   exact .drop 0 2 (.done ⟨by rw[← hR,c1];rfl,rfl⟩)
  have d2:¬a=eW s a:=nj d2
  refine aj 0 ?_
  rw[show eK-k=(eK-(k+1))+1 by omega,HB _ _ d2]at hR
  exact .mk (eW s a,k+1) rfl (by show eK-(k+1)<eK-k;omega) ⟨⟨yT hf hg ha,by show k+1≤eK;omega⟩,hR⟩ ⟨rfl,rfl,rfl,aS (by omega),rfl,trivial⟩ (.refl _)
 ·refine aw [] (Ro s _ hf) ?_
  intro br
  refine aj 0 ?_
  refine cX (fun _=>?_) (fun c2=>?_)
  ·exact .nil (cd (.nil _) (.refl _)) (.drop 0 2 (.done ⟨by unfold wk;rw[ag c1,ag c1];rfl,rfl⟩))
  ·have c2:(!decide (cm s=0))=false:=c2
   exact absurd (by simpa using c2) c1
def tH(s:Sy):Int:=s.n*fU s.what s.w+1
theorem R6(what w:Int):0≤fU what w∧fU what w≤2048:=by
 unfold fU
 split
 ·rename_i h
  unfold cP at h;simp at h
  split <;> omega
 ·omega
theorem afq(s:Sy)(σ:Hp):ACalls Tryz.prog 190 [.agg (aW s)] σ (ay (.int .i64 (IntKind.i64.wrap (IntKind.i64.wrap (s.n*fU s.what s.w)+1))) σ):=by
 refine ar Tryz.func190 ?_
 intro aB
 refine .quiet (by kernel_rfl) ?_
 refine aa 0 ?_
 refine aa 0 ?_
 refine aa 0 ?_
 refine aI [] (Hs _ _ _) ?_
 exact .drop 0 1 (.done ⟨rfl,rfl⟩)
theorem G7{s:Sy}(hg:Good s):IntKind.i64.wrap (IntKind.i64.wrap (s.n*fU s.what s.w)+1)=tH s∧0≤tH s∧tH s≤1000000:=by
 have h1:=hg.n1
 have h2:=hg.n2
 have h3:=R6 s.what s.w
 have h4:s.n*fU s.what s.w≤256*2048:=Int.mul_le_mul h2 h3.2 h3.1 (by decide)
 have h5:0≤s.n*fU s.what s.w:=Int.mul_nonneg (by omega) h3.1
 unfold tH
 rw[cE (n:=s.n*fU s.what s.w) (by omega),cE (by omega)]
 omega
def iV(s:Sy):List (List Int)×Nat:=jl s (tH s).toNat (fM s) 0
theorem agy(s:Sy)(σ:Hp)(hf:Fit s):ACalls Tryz.prog 136 [.agg (aW s)] σ (ay (.tup [.ae (.slice (.int .u64)) (wk (cm s) (iV s).1),.int .i64 (if cm s=0 then ((iV s).2:Int) else 0),.int .i64 (cm s)]) σ):=by
 refine ar Tryz.func136 ?_
 intro aB
 refine .quiet (by kernel_rfl) ?_
 refine aa 0 ?_
 refine aa 0 ?_
 refine aI [] (afq s _) ?_
 refine aI [] (ad9 s _ _ hf (fun h=>?_)) ?_
 ·have:=G7 (xB h)
  rw[this.1];exact this.2
 ·refine .drop 0 1 (.done ⟨?_,rfl⟩)
  by_cases h:cm s=0
  ·unfold iV
   rw[(G7 (xB h)).1]
   rfl
  ·unfold wk
   rw[ag h,ag h,ag h,ag h]
   rfl
theorem ad5(what w:Int)(σ:Hp):ACalls Tryz.prog 126 [.int .i64 what,.int .i64 w] σ (ay (.int .i64 (fU what w)) σ):=by
 refine ar Tryz.func126 ?_
 refine dC [] (Oi what w _) (fun c0=>?_) (fun c0=>?_)
 ·refine ak (fun c1=>?_) (fun c1=>?_)
  ·have c1:what=3:=c1
   exact .done ⟨aQ (by unfold cP at c0;simp at c0;unfold fU;rw[if_pos (qv (by omega)),if_pos c1,cE (by omega)]),rfl⟩
  ·have c1:¬(what=3):=c1
   exact .done ⟨aQ (by unfold fU;rw[ah c0,ag c1]),rfl⟩
 ·exact .done ⟨aQ (by unfold fU;rw[c0];rfl),rfl⟩
def tZ(n:Nat)(f:Nat→Nat):Nat:=((List.range n).map f).sum
theorem Lq(n:Nat)(f:Nat→Nat):tZ (n+1) f=tZ n f+f n:=by unfold tZ;rw[List.range_succ,List.map_append,List.sum_append];simp
theorem Lr{f g:Nat→Nat}:∀n,(∀i,i<n→f i≤g i)→tZ n f≤tZ n g∧(tZ n f=tZ n g→∀i,i<n→f i=g i)
 | 0,_=>⟨a8 _,fun _ i h=>absurd h (og i)⟩
 |n+1,h=>by
  obtain⟨h1,h2⟩:=Lr n fun i hi=>h i (by omega)
  have h3:=h n (by omega)
  rw[Lq,Lq]
  refine⟨by omega,fun e i hi=>?_⟩
  by_cases ej:i=n
  ·subst ej;omega
  ·exact h2 (by omega) i (by omega)
theorem HA{f:Nat→Nat}{c:Nat}:∀n,(∀i,i<n→f i≤c)→tZ n f≤n*c
 | 0,_=>bA _
 |n+1,h=>by
  have h1:=HA n fun i hi=>h i (by omega)
  have h2:=h n (by omega)
  rw[Lq,qe];omega
def E8(b:Bool):Nat:=if b=true then 1 else 0
def JC(z:Int):Nat:=if z=0 then 0 else if z=1 then 2 else 1
def qQ(what:Int)(x:List Int)(j:Nat):Nat:=if what=3 then JC (wd x j) else if what=1 then E8 (eg x (j / 64) (j % 64)) else E8 (!eg x (j / 64) (j % 64))
def sC(what w:Int)(x:List Int):Nat:=tZ w.toNat (qQ what x)
theorem UG{w:Int}{a b:List Int}(h:dE 3 w a b){i:Nat}(hi:i<a.length):wd a i=wd b i∨wd a i=0∨wd b i=1:=by
 have hl:=uU h.1.v h.2.1.v
 have va:=((jR (mN h.1.v) rfl).1 h.1.v).2
 have vb:=((jR (mN h.1.v) rfl).1 h.2.1.v).2
 have:=uV va vb hi (by omega)
 rw[h.2.2]at this
 unfold jn at this
 split at this
 ·exact .inl this.symm
 ·split at this
  ·rename_i h0;exact .inr (.inl h0)
  ·exact .inr (.inr this)
theorem aen{what w:Int}(hs:what=1∨what=2){a b:List Int}(h:dE what w a b){i k:Nat}(hi:i<a.length):jz what (eg a i k) (eg b i k)=eg b i k:=by
 have hl:=uU h.1.v h.2.1.v
 rw[← pA hs h.1.cE h.2.1.cE hl i k hi,h.2.2]
theorem afJ{what w:Int}{a b:List Int}(h:dE what w a b){j:Nat}(hj:j<w.toNat):qQ what a j≤qQ what b j:=by
 have hi:=mN h.1.v
 by_cases h3:what=3
 ·subst h3
  have hl:=((jR hi rfl).1 h.1.v).1
  unfold qQ JC
  rw[ah rfl,ah rfl]
  rcases UG h (i:=j) (by omega) with e | e | e
  ·rw[e];exact a8 _
  ·rw[ah e];exact bA _
  ·rw[e]
   rw[ag (show ¬(1:Int)=0 by decide),ah rfl]
   split
   ·omega
   ·split <;> omega
 ·have hs:=Ic hi h3
  have hla:=ou ((qo hi h3).1 h.1.v)
  have hw:eE w=w.toNat:=by unfold cP at hi;simp at hi;unfold eE;omega
  have ab:j / 64<a.length:=by rw[hla];unfold ef;omega
  have hb:=aen hs h (k:=j % 64) ab
  unfold qQ E8
  rw[ag h3,ag h3]
  unfold jz at hb
  rcases hs with rfl | rfl
  ·rw[ah rfl,ah rfl]
   rw[ah rfl]at hb
   revert hb
   cases eg a (j / 64) (j % 64) <;> cases eg b (j / 64) (j % 64) <;> simp
  ·rw[ag (show ¬(2:Int)=1 by decide),ag (show ¬(2:Int)=1 by decide)]
   rw[ag (show ¬(2:Int)=1 by decide)]at hb
   revert hb
   cases eg a (j / 64) (j % 64) <;> cases eg b (j / 64) (j % 64) <;> simp
theorem afK{what w:Int}{a b:List Int}(h:dE what w a b)(he:∀j,j<w.toNat→qQ what a j=qQ what b j):a=b:=by
 have hi:=mN h.1.v
 have hl:=uU h.1.v h.2.1.v
 refine Dm h.1 h.2.1 (fun h3 i ab=>?_) (fun hs i k ab hk=>?_)
 ·subst h3
  have hw:=((jR hi rfl).1 h.1.v).1
  have:=he i (by omega)
  unfold qQ JC at this
  rw[ah rfl,ah rfl]at this
  rcases UG h ab with e | e | e
  ·exact e
  ·rw[ah e]at this
   split at this
   ·omega
   ·split at this <;> omega
  ·rw[e,ag (show ¬(1:Int)=0 by decide),ah rfl]at this
   split at this
   ·omega
   ·split at this
    ·omega
    ·omega
 ·have h3:¬what=3:=by omega
  have fa:=(qo hi h3).1 h.1.v
  have fb:=(qo hi h3).1 h.2.1.v
  have hw:eE w=w.toNat:=by unfold cP at hi;simp at hi;unfold eE;omega
  by_cases hc:64*i+k<eE w
  ·have:=he (64*i+k) (by omega)
   unfold qQ E8 at this
   rw[ag h3,ag h3,show (64*i+k) / 64=i by omega,show (64*i+k) % 64=k by omega]at this
   revert this
   split <;> cases eg a i k <;> cases eg b i k <;> simp
  ·rw[(rD h.1.cE (ou fa)).1 fa i k ab hk (by omega),(rD h.2.1.cE (ou fb)).1 fb i k (by omega) hk (by omega)]
theorem Yj{what w:Int}(x:List Int)(hi:cP what w=true):(sC what w x:Int)≤fU what w:=by
 unfold fU sC
 rw[ah hi]
 unfold cP at hi;simp at hi
 by_cases h3:what=3
 ·rw[ah h3]
  have:=HA (f:=qQ what x) (c:=2) w.toNat fun i _=>by
   unfold qQ JC
   rw[ah h3]
   split
   ·omega
   ·split <;> omega
  omega
 ·rw[ag h3]
  have:=HA (f:=qQ what x) (c:=1) w.toNat fun i _=>by
   unfold qQ E8
   rw[ag h3]
   split <;> split <;> omega
  omega
theorem Mr{what w:Int}{a b:List Int}(h:dE what w a b):sC what w a≤sC what w b∧(sC what w a=sC what w b→a=b):=by
 have:=Lr w.toNat fun j hj=>afJ h hj
 exact⟨this.1,fun e=>afK h (this.2 e)⟩
def tY(s:Sy)(a:List (List Int)):Nat:=tZ s.n.toNat fun v=>sC s.what s.w (a.getD v [])
theorem adG{s:Sy}{a b:List (List Int)}(h:kN s a b):tY s a≤tY s b∧(tY s a=tY s b→a=b):=by
 have:=Lr (f:=fun v=>sC s.what s.w (a.getD v [])) (g:=fun v=>sC s.what s.w (b.getD v [])) s.n.toNat fun v hv=>(Mr (h.2.2 v (by omega))).1
 refine⟨this.1,fun e=>?_⟩
 have la:=h.1.len
 have lb:=h.2.1.len
 refine As (by omega) fun i h1 h2=>?_
 have hv:=(Mr (h.2.2 i (by omega))).2 (this.2 e i (by omega))
 rw[aZ,aZ,bh h1,bh h2]at hv
 exact hv
theorem RC{s:Sy}(hg:Good s)(a:List (List Int)):(tY s a:Int)≤s.n*fU s.what s.w:=by
 have hh:=R6 s.what s.w
 have:=HA (f:=fun v=>sC s.what s.w (a.getD v [])) (c:=(fU s.what s.w).toNat) s.n.toNat fun v _=>by
  have:=Yj (a.getD v []) hg.sW
  omega
 have hn:=hg.n1
 have e:(s.n.toNat*(fU s.what s.w).toNat:Nat)=s.n*fU s.what s.w:=by
  rw[FV,ma (by omega),ma hh.1]
 unfold tY
 omega
theorem YH{s:Sy}{i:Nat}(h:(i:Int)<s.n):(fM s).getD i []=fw s.what s.w:=by
 unfold fM
 rw[aZ,wV,ah (by omega)];rfl
theorem Sp{s:Sy}(hg:Good s){a:List (List Int)}(h:ic s a):kN s (fM s) a:=
 ⟨GA hg,h,fun i hi=>by rw[YH hi];exact bot_le (h.get hi)⟩
theorem QV{s:Sy}(hf:Fit s)(hg:Good s):∀(m:Nat) (a:List (List Int)) (k:Nat),kN s a (eW s a)→k≤tY s a→s.n*fU s.what s.w+1≤(k+m:Nat)→
  ic s (jl s m a k).1∧(jl s m a k).1=eW s (jl s m a k).1∧((jl s m a k).2:Int)≤s.n*fU s.what s.w∧∀y,kN s (eW s y) y→kN s a y→kN s (jl s m a k).1 y
 | 0,a,k,h,hk,hm=>by have:=RC hg a;omega
 |m+1,a,k,h,hk,hm=>by
  by_cases e:a=eW s a
  ·rw[GU _ _ e]
   have:=RC hg a
   exact⟨h.1,e,by show ((k:Nat):Int)≤_;omega,fun y _ hy=>hy⟩
  ·rw[HB _ _ e]
   have h2:=RD hf hg h
   have ab:k+1≤tY s (eW s a):=by
    have:=adG h
    by_cases e2:tY s a=tY s (eW s a)
    ·exact absurd (this.2 e2) e
    ·omega
   obtain⟨q1,q2,q3,q4⟩:=QV hf hg m (eW s a) (k+1) h2 ab (by omega)
   exact⟨q1,q2,q3,fun y hy hay=>q4 y hy ((RD hf hg hay).trans hy)⟩
theorem xd{s:Sy}(hf:Fit s)(hg:Good s):ic s (iV s).1∧(iV s).1=eW s (iV s).1∧((iV s).2:Int)≤s.n*fU s.what s.w∧∀y,kN s (eW s y) y→kN s (iV s).1 y:=by
 have hb:=GA hg
 have he:=G7 hg
 obtain⟨q1,q2,q3,q4⟩:=QV hf hg (tH s).toNat (fM s) 0 (Sp hg (yT hf hg hb)) (bA _) (by unfold tH at he ⊢;omega)
 exact⟨q1,q2,q3,fun y hy=>q4 y hy (Sp hg hy.2.1)⟩
theorem TW(a b:List (List Int))(σ:Hp)(ha:ki a):ACalls Tryz.prog 19 [.ae (.slice (.int .u64)) a,.ae (.slice (.int .u64)) b] σ (ay (.bool (decide (a=b))) σ):=by
 refine ar Tryz.func19 ?_
 have O6:=ha.1
 refine cX (fun c1=>?_) (fun c1=>?_)
 ·have c1:(!decide ((a.length:Int)=(b.length:Int)))=true:=c1
  have:a≠b:=by rintro rfl;simp at c1
  exact .done ⟨cy (bS this).symm,rfl⟩
 ·have c1:(!decide ((a.length:Int)=(b.length:Int)))=false:=c1
  have hlen:a.length=b.length:=by simp at c1;omega
  refine bQ (S:=Nat) (fun k=>[(0,.ae (.slice (.int .u64)) a),(1,.ae (.slice (.int .u64)) b),(12,.int .i64 a.length),(13,.int .i64 k)]) (fun _=>σ) (fun k=>k≤a.length∧a.take k=b.take k) (fun k=>a.length-k) 0 ⟨⟨bA _,rfl⟩,⟨rfl,rfl,rfl,rfl,trivial⟩,rfl⟩ ?_
  rintro k g ⟨aK,W4⟩
  have hk:k≤a.length:=aK
  have fi:a.take k=b.take k:=W4
  clear aK W4
  refine ak (fun ab=>?_) (fun aq=>?_)
  ·have dQ:k<a.length:=by have ab:(k:Int)<a.length:=ab;omega
   have xU:k<b.length:=by omega
   refine .quiet (by kernel_rfl) ?_
   refine aG.mk rfl (bE.mk a[k] (by omega) (get_some dQ) ?_)
   refine aG.mk rfl (bE.mk b[k] (by omega) (get_some xU) ?_)
   refine Il [] (afG a[k] b[k] _ (eH (ha.2 _ (bP dQ)).2 (by decide))) (fun hx=>?_) (fun hx=>?_)
   ·have jA:a[k]=b[k]:=fk hx
    refine aY (k+1) (by show a.length-(k+1)<a.length-k;omega) ⟨dQ,?_⟩ ⟨rfl,rfl,rfl,aS (by omega),trivial⟩ (.refl _)
    rw[ff dQ,ff xU,fi,jA]
   ·have:a≠b:=by rintro rfl;exact absurd rfl (nj hx)
    exact .done ⟨cy (bS this).symm,rfl⟩
  ·have aq:k=a.length:=by have aq:¬(k:Int)<a.length:=aq;omega
   subst aq
   have:a=b:=by
    rw[fA]at fi
    rw[fi,hlen,fA]
   exact .done ⟨cy (aT this).symm,rfl⟩
def qO(n:Nat):List Int:=(List.range n).map fun i:Nat=>(i:Int)
theorem QN(n:Nat):(qO n).length=n:=by simp[qO]
theorem abi(n:Nat):qO (n+1)=qO n++[(n:Int)]:=by unfold qO;rw[tk,cW];rfl
theorem adC{n k:Nat}(h:k<n):(qO n)[k]?=some (k:Int):=by unfold qO;rw[fm,tf h];rfl
theorem agG(n:Nat)(σ:Hp)(hn:n≤1024):ACalls Tryz.prog 245 [.int .i64 n,.ae (.int .i64) (qO n)] σ (ay (.ae (.int .u64) (fg n)) σ):=by
 have iX:eE n=n:=by unfold eE;omega
 have eF:=AW n
 refine ar Tryz.func245 ?_
 refine aw [] (VR n _) ?_
 refine bc ?_
 intro q
 refine bQ (S:=Nat×Nat) (fun s=>[(0,.int .i64 n),(5,.af s.2 0 (ef n) 1),(11,.ae (.int .i64) (qO n)),(12,.int .i64 n),(13,.int .i64 s.1)]) (fun s=>(s.2,aP (fZ (fg n) s.1))::σ) (fun s=>s.1≤n) (fun s=>n-s.1) (0,q) ⟨bA _,⟨rfl,rfl,rfl,congrArg (fun m:Nat=>AV.int .i64 (m:Int)) (QN n),rfl,trivial⟩,?_⟩ ?_
 ·show (q,cD [.int .u64 0] (((ef n:Nat):Int)).toNat)::σ=(q,aP (fZ (fg n) 0))::σ
  rw[Hd,np,bC,xv]
 rintro⟨k,b⟩ g aK
 have hk:k≤n:=aK
 clear aK
 refine ak (fun ab=>?_) (fun aq=>?_)
 ·have ab:k<n:=by have ab:(k:Int)<n:=ab;omega
  refine aG.mk rfl (bE.mk (k:Int) (by omega) (by rw[bC];exact adC ab) ?_)
  refine aw [] (U0 n _) ?_
  refine ak (p:=(k:Int)<(eE n:Int)) (fun _=>?_) (fun h=>?_)
  rotate_left
  ·exact absurd (by omega) h
  have hi:k / 64<ef n:=by unfold ef;omega
  refine .mk [] _ (M4 (fZ (fg n) k) k b (ef n) σ (by rw[qm,np]) (by omega) hi) ?_
  rintro _ _ ⟨b2,rfl,rfl⟩
  refine aY (k+1,b2) (by show n-(k+1)<n-k;omega) ab ⟨rfl,rfl,rfl,rfl,aS (by omega),trivial⟩ (.drop 1 1 (aL ?_))
  rw[R9 n (by omega)]
  rfl
 ·have aq:k=n:=by have aq:¬(k:Int)<n:=aq;omega
  subst aq
  have hc:=Tz k
  rw[iX]at hc
  rw[hc]
  exact .cJ 0 b 0 (ef k) 1 _ (.int .u64) (fg k) rfl (by rw[List.drop_zero,← kC];exact List.take_of_length_le (by simp[aP,np])) ⟨np k,rfl,by decide⟩ .here (.done ⟨rfl,rfl⟩)
theorem ad6(n:Nat)(σ:Hp)(hn:n≤1024):ACalls Tryz.prog 196 [.int .i64 n] σ (ay (.ae (.int .u64) (fg n)) σ):=by
 refine ar Tryz.func196 ?_
 refine .wrap 3 _ rfl rfl ?_
 refine bQ (S:=Nat×AV×Hp) (fun s=>[(0,.int .i64 n),(3,.via s.2.1),(4,.int .i64 s.1)]) (fun s=>s.2.2++σ) (fun s=>s.1≤n∧Acc 1 s.1 s.2.1 s.2.2 (ao (qO s.1))) (fun s=>n-s.1) (0,.ai,[]) ⟨⟨bA _,.nil⟩,⟨rfl,rfl,rfl,trivial⟩,rfl⟩ ?_
 rintro⟨k,v,acc⟩ g ⟨aK,gp⟩
 have hk:k≤n:=aK
 have bY:Acc 1 k v acc (ao (qO k)):=gp
 clear aK gp
 refine ak (fun ab=>?_) (fun aq=>?_)
 ·have ab:k<n:=by have ab:(k:Int)<n:=ab;omega
  intro aB
  refine jP [_] bY (.af 0 aB 0 1 _ rfl (cI rfl)) rfl (by omega) (by decide) (by decide) (fun v' bD h'=>?_)
  refine aY (k+1,v',bD) (by show n-(k+1)<n-k;omega) ⟨ab,?_⟩ ⟨rfl,rfl,aS (by omega),trivial⟩ (.drop 0 1 (aL rfl))
  show Acc 1 (k+1) v' bD (ao (qO (k+1)))
  rw[abi,ao,cW]
  exact h'
 ·have aq:k=n:=by have aq:¬(k:Int)<n:=aq;omega
  subst aq
  have hO:=fun σ=>agG k σ hn
  generalize hU:qO k=U at bY hO
  have hlU:U.length=k:=by rw[← hU];exact QN k
  generalize hC:ao U=C at bY
  cases bY with
  |nil=>
   have hU0:U=[]:=iE.1 hlU
   rw[hU0]at hO
   refine aw [] (Rn (cd (.refl _) (cd (.nil _) xC)) (hO _)) ?_
   exact .done ⟨rfl,rfl⟩
  |af b k cs h=>
   refine .cJ (args':=[.int .i64 k,.ae (.int .i64) U]) 0 b 0 k 1 _ (.int .i64) U rfl (by rw[gz,← uY,hC];exact ek (by omega)) ⟨hlU,rfl,by decide⟩ (cd (.refl _) (cd .here xC)) (aw [] (hO _) ?_)
   exact .done ⟨rfl,rfl⟩
theorem Rp(what w:Int)(σ:Hp)(hi:cP what w=true):ACalls Tryz.prog 145 [.int .i64 what,.int .i64 w] σ (ay (.ae (.int .u64) (fw what w)) σ):=by
 refine ar Tryz.func145 ?_
 have hw:=AI what w
 refine aw [] (ot (Oi what w _) (cy hi)) ?_
 refine ak (p:=what=2) (fun c=>?_) (fun c=>?_)
 ·have fe:=hi
  unfold cP at fe;simp at fe
  obtain⟨n,rfl⟩:∃n:Nat,w=n:=⟨w.toNat,by omega⟩
  refine aw [] (ad6 n _ (by omega)) ?_
  exact .done ⟨by rw[show fw what (n:Int)=fg n from ah ⟨c,hi⟩];rfl,rfl⟩
 ·refine aw [] (ab4 what w _) ?_
  refine bc ?_
  intro b
  have e:fw what w=List.replicate (eN what w).toNat 0:=ag fun h=>c h.1
  rw[e]
  show Fin _ (.af b 0 (eN what w).toNat 1) ((b,cD [.int .u64 0] (eN what w).toNat)::σ)
  rw[xv]
  have hl:(List.replicate (eN what w).toNat (0:Int)).length=(eN what w).toNat:=gl
  generalize List.replicate (eN what w).toNat (0:Int)=Z at hl
  refine .cJ 0 b 0 (eN what w).toNat 1 _ (.int .u64) Z rfl ?_ ⟨hl,rfl,by decide⟩ .here (.done ⟨rfl,rfl⟩)
  rw[gz,← kC]
  exact ek (by rw[aP,cg,hl];omega)
theorem ab5(s:Sy)(v:Int)(σ:Hp)(hf:Fit s)(hg:Good s):ACalls Tryz.prog 82 [.agg (aW s),.int .i64 v] σ (ay (.ae (.int .u64) (fp s v)) σ):=by
 refine ar Tryz.func82 ?_
 intro aB
 refine aa 0 ?_
 refine dC [] (aiN s.entry v _ (eH hf.BG (by decide))) (fun c=>?_) (fun c=>?_)
 ·intro dc
  have hle:=hf.EJ
  refine aa 1 ?_
  refine AppendAt.more 0 dc 0 s.init.length [] _ rfl rfl (cI rfl) (.ae (.int .u64) s.init rfl) (by omega) (by decide) (by decide) (fun b=>?_)
  have e:fp s v=s.init:=by unfold fp;rw[c];rfl
  rw[e]
  refine .cJ 0 b 0 (0+s.init.length) 1 _ (.int .u64) s.init rfl ?_ ⟨(dR _).symm,rfl,by decide⟩ .here (.drop 0 1 (.done ⟨rfl,rfl⟩))
  rw[gz]
  refine ek ?_
  have:=w8 (fun d=>Sh.tA (.int .u64) d) s.init
  simp only[List.take_nil,uH]
  rw[this]
  show s.init.length*1≤(0+s.init.length)*1
  omega
 ·refine aa 0 ?_
  refine aa 0 ?_
  refine aw [] (Rp s.what s.w _ hg.sW) ?_
  exact .drop 0 1 (.done ⟨by unfold fp;rw[c];rfl,rfl⟩)
theorem afd(s:Sy)(v:Nat)(x:List Int)(σ:Hp)(hf:Fit s)(hg:Good s)(hv:(v:Int)<s.n)(hx:eI s.what s.w x):ACalls Tryz.prog 170 [.agg (aW s),.int .i64 v,.ae (.int .u64) x] σ (ay (.ae (.int .u64) (gg s x v)) σ):=by
 refine ar Tryz.func170 ?_
 intro aB
 obtain⟨hT,FF⟩:=Et hg hv
 have ht:=hf.ts _ (bP hT)
 have hc:=hg.BT _ (bP hT)
 have hl:=AK hx.v
 refine .quiet (by kernel_rfl) ?_
 refine aa 0 ?_
 refine aa 0 ?_
 refine aG.mk rfl (bE.mk s.T[v] (by omega) (by rw[bC];exact bh hT) ?_)
 refine aI [] (afe s.what s.T[v].1 s.T[v].2.1 s.T[v].2.2.1 x _ ht.1 ht.2.1 hx.cE ht.2.2.1 ht.2.2.2.1 (by omega) (eH ht.2.2.2.2 (by decide)) (fun h3=>by rw[RB hx.v h3];exact (Mk hc h3).2.2)) ?_
 exact .drop 0 1 (.done ⟨by unfold gg;rw[FF];rfl,rfl⟩)
theorem ZG(s:Sy)(σ:Hp)(hg:Good s):ACalls Tryz.prog 124 [.agg (aW s)] σ (ay (.ae (.slice (.int .u64)) (fM s)) σ):=by
 refine ar Tryz.func124 ?_
 intro aB
 obtain⟨N,hN⟩:∃N:Nat,s.n=N:=⟨s.n.toNat,by have:=hg.n1;omega⟩
 have Pm:=hg.n2
 refine .wrap 3 _ rfl rfl ?_
 refine bQ (S:=Nat×AV×Hp) (fun x=>[(1,.ptr aB 0),(3,.via x.2.1),(4,.int .i64 x.1)]) (fun x=>(aB,aW s)::(x.2.2++σ)) (fun x=>x.1≤N∧Acc 1 x.1 x.2.1 x.2.2 (jy (List.replicate x.1 (fw s.what s.w)))) (fun x=>N-x.1) (0,.ai,[]) ⟨⟨bA _,.nil⟩,⟨rfl,rfl,rfl,trivial⟩,rfl⟩ ?_
 rintro⟨k,v,acc⟩ g ⟨aK,gp⟩
 have hk:k≤N:=aK
 have bY:Acc 1 k v acc (jy (List.replicate k (fw s.what s.w))):=gp
 clear aK gp
 refine aa 0 ?_
 refine ak (p:=(k:Int)<s.n) (fun ab=>?_) (fun aq=>?_)
 ·have ab:k<N:=by omega
  refine aa 0 ?_
  refine aa 0 ?_
  refine aw [] (Rp s.what s.w _ hg.sW) ?_
  intro dc
  refine jP [_,_] bY (.af 0 dc 0 1 _ rfl (cI rfl)) rfl (by omega) (by decide) (by decide) (fun v' bD h'=>?_)
  refine aY (k+1,v',bD) (by show N-(k+1)<N-k;omega) ⟨ab,?_⟩ ⟨rfl,rfl,aS (by omega),trivial⟩ (.drop 0 1 (aL rfl))
  show Acc 1 (k+1) v' bD (jy (List.replicate (k+1) (fw s.what s.w)))
  rw[List.replicate_succ',jy,cW]
  exact h'
 ·have aq:k=N:=by omega
  subst aq
  refine qs (s:=.slice (.int .u64)) (l:=fM s) [_] bY ?_ ?_ (by decide) (.drop 0 1 (.done ⟨rfl,rfl⟩))
  ·exact ((KZ s).trans (by rw[hN];omega)).symm
  ·rw[← Dg];unfold fM;rw[hN,bC]
theorem ad2(s:Sy)(a:List (List Int))(σ:Hp)(hf:Fit s)(hg:Good s)(ha:ic s a):ACalls Tryz.prog 125 [.agg (aW s),.ae (.slice (.int .u64)) a] σ (ay (.ae (.slice (.int .u64)) (eW s a)) σ):=by
 refine ar Tryz.func125 ?_
 intro aB
 obtain⟨N,hN⟩:∃N:Nat,s.n=N:=⟨s.n.toNat,by have:=hg.n1;omega⟩
 have Pm:=hg.n2
 have OV:=hg.el
 have qU:=ha.len
 refine .wrap 5 _ rfl rfl ?_
 refine bQ (S:=Nat×AV×Hp) (fun x=>[(1,.ae (.slice (.int .u64)) a),(2,.ptr aB 0),(5,.via x.2.1),(6,.int .i64 x.1)]) (fun x=>(aB,aW s)::(x.2.2++σ)) (fun x=>x.1≤N∧Acc 1 x.1 x.2.1 x.2.2 (jy ((List.range x.1).map (iy s a s.aO.length)))) (fun x=>N-x.1) (0,.ai,[]) ⟨⟨bA _,.nil⟩,⟨rfl,rfl,rfl,rfl,trivial⟩,rfl⟩ ?_
 rintro⟨v,av,acc⟩ g ⟨aK,gp⟩
 have hv:v≤N:=aK
 have bY:Acc 1 v av acc (jy ((List.range v).map (iy s a s.aO.length))):=gp
 clear aK gp
 refine aa 0 ?_
 refine ak (p:=(v:Int)<s.n) (fun ab=>?_) (fun aq=>?_)
 ·have ab:v<N:=by omega
  refine aa 0 ?_
  refine aw [] (ab5 s v _ hf hg) ?_
  refine aa 0 ?_
  refine bQ (S:=Nat) (fun k=>[(1,.ae (.slice (.int .u64)) a),(2,.ptr aB 0),(5,.via av),(6,.int .i64 v),(7,.ae (.int .u64) (iy s a k v)),(20,.ae dB s.aO),(21,.int .i64 s.aO.length),(22,.int .i64 k)]) (fun _=>(aB,aW s)::(acc++σ)) (fun k=>k≤s.aO.length) (fun k=>s.aO.length-k) 0 ⟨bA _,⟨rfl,rfl,rfl,rfl,rfl,rfl,rfl,rfl,trivial⟩,rfl⟩ ?_
  intro k t aK
  have hk:k≤s.aO.length:=aK
  clear aK
  refine ak (fun dA=>?_) (fun lV=>?_)
  ·have dA:k<s.aO.length:=by have dA:(k:Int)<s.aO.length:=dA;omega
   have he:=hg.ui _ (bP dA)
   have ye:=w9 s a dA v
   have hV:=RE hf hg ha v k hk
   obtain⟨d,hd⟩:∃d:bK,s.aO[k]=d:=⟨_,rfl⟩
   rw[hd]at he ye
   refine aG.mk rfl (bE.mk d (by omega) ((get_some dA).trans (congrArg some hd)) ?_)
   intro dc
   refine aj 0 ?_
   refine aa 0 ?_
   refine ak (p:=d.2.1=(v:Int)) (fun d1=>?_) (fun d1=>?_)
   ·obtain⟨i,hi⟩:∃i:Nat,d.1=i:=⟨d.1.toNat,by omega⟩
    have pf:i<a.length:=by omega
    have hga:a.getD d.1.toNat []=a[i]:=by rw[hi,bC,aZ,bh pf];rfl
    have z8:=ha.val _ (bP pf)
    have ho:=DE hf hg z8.cE z8.v (v:=i) (by omega)
    have hO:=fun σ=>afd s i a[i] σ hf hg (by omega) z8
    have Af:iy s a (k+1) v=cN s.what (iy s a k v) (gg s a[i] i):=by rw[ye];unfold tS;rw[ah d1,hga,hi,bC]
    rw[← hi]at hO
    generalize gg s a[i] i=o at ho hO Af
    refine .quiet (by kernel_rfl) ?_
    refine aa 1 ?_
    refine aa 1 ?_
    refine aa 0 ?_
    refine aa 0 ?_
    refine aG.mk rfl (bE.mk a[i] (by omega) (by rw[hi,bC];exact bh pf) ?_)
    refine aI [] (hO _) ?_
    refine aI [] (ad4 s.what (iy s a k v) o _ hV.cE ho.2 (uU hV.v ho.1) (eH (AK hV.v) (by decide))) ?_
    refine aY (k+1) (by show s.aO.length-(k+1)<s.aO.length-k;omega) dA ⟨rfl,rfl,rfl,rfl,?_,rfl,rfl,aS (by omega),trivial⟩ (.drop 0 1 (.refl _))
    rw[Af];rfl
   ·have Af:iy s a (k+1) v=iy s a k v:=by rw[ye];unfold tS;rw[ag d1]
    refine aY (k+1) (by show s.aO.length-(k+1)<s.aO.length-k;omega) dA ⟨rfl,rfl,rfl,rfl,?_,rfl,rfl,aS (by omega),trivial⟩ (.drop 0 1 (.refl _))
    rw[Af];rfl
  ·have lV:k=s.aO.length:=by have lV:¬(k:Int)<s.aO.length:=lV;omega
   subst lV
   intro dc
   refine jP [_,_] bY (.af 0 dc 0 1 _ rfl (cI rfl)) rfl (by omega) (by decide) (by decide) (fun v' bD h'=>?_)
   refine aY (v+1,v',bD) (by show N-(v+1)<N-v;omega) ⟨ab,?_⟩ ⟨rfl,rfl,rfl,aS (by omega),trivial⟩ (.drop 0 1 (aL rfl))
   show Acc 1 (v+1) v' bD (jy ((List.range (v+1)).map (iy s a s.aO.length)))
   rw[tk,cW,jy,cW]
   exact h'
 ·have aq:v=N:=by omega
  subst aq
  refine qs (s:=.slice (.int .u64)) (l:=eW s a) [_] bY ?_ ?_ (by decide) (.drop 0 1 (.done ⟨rfl,rfl⟩))
  ·exact ((w5 s a _).trans (by rw[hN];omega)).symm
  ·rw[← Dg];unfold eW nz;rw[hN,bC]
def jg(s:Sy)(v:Int):Int:=if cm s=0 then (if dN s.n v=true then 0 else 1) else cm s
theorem aaa{s:Sy}{v:Int}(h:¬cm s=0):cm s=jg s v:=(ag h).symm
theorem Tf{s:Sy}{v:Int}(h:cm s=0)(hv:¬(0≤v∧v<s.n)):1=jg s v:=by unfold jg;rw[ah h,ag];rw[kW];exact hv
theorem GZ{s:Sy}{v:Int}(h:cm s=0)(hv:0≤v∧v<s.n):0=jg s v:=by unfold jg;rw[ah h,ah];rw[kW];exact hv
theorem Za{s:Sy}{v:Int}(h:jg s v=0):Good s∧0≤v∧v<s.n:=by
 unfold jg at h
 split at h
 ·rename_i h1
  split at h
  ·rename_i h2;exact⟨xB h1,kW.1 h2⟩
  ·cases h
 ·rename_i h1;exact absurd h h1
theorem TR(s:Sy)(v:Int)(σ:Hp)(hf:Fit s):ACalls Tryz.prog 211 [.agg (aW s),.int .i64 v] σ (ay (.int .i64 (jg s v)) σ):=by
 refine ar Tryz.func211 ?_
 intro aB
 refine aa 0 ?_
 refine aw [] (yV s _ hf) ?_
 refine cX (fun c1=>?_) (fun c1=>?_)
 ·have c1:(!decide (cm s=0))=true:=c1
  have c1:¬cm s=0:=by simpa using c1
  exact .drop 0 1 (.done ⟨aQ (aaa c1),rfl⟩)
 ·have c1:(!decide (cm s=0))=false:=c1
  have c1:cm s=0:=by simpa using c1
  refine ak (p:=v<0) (fun c2=>?_) (fun c2=>?_)
  ·exact .drop 0 1 (.done ⟨aQ (Tf c1 (by omega)),rfl⟩)
  ·refine aa 0 ?_
   refine ak (p:=s.n≤v) (fun c3=>?_) (fun c3=>?_)
   ·exact .drop 0 1 (.done ⟨aQ (Tf c1 (by omega)),rfl⟩)
   ·exact .drop 0 1 (.done ⟨aQ (GZ c1 (by omega)),rfl⟩)
theorem ab0(s:Sy)(v:Int)(σ:Hp)(hf:Fit s):ACalls Tryz.prog 158 [.agg (aW s),.int .i64 v] σ (ay (.tup [.ae (.int .u64) (r8 (jg s v) (fp s v)),.int .i64 (jg s v)]) σ):=by
 refine ar Tryz.func158 ?_
 intro aB
 refine aa 0 ?_
 refine aw [] (TR s v _ hf) ?_
 refine cX (fun c1=>?_) (fun c1=>?_)
 ·have c1:(!decide (jg s v=0))=true:=c1
  have c1:¬jg s v=0:=by simpa using c1
  exact .nil (cd (.nil _) (.refl _)) (.drop 0 1 (.done ⟨by rw[DF c1];rfl,rfl⟩))
 ·have c1:(!decide (jg s v=0))=false:=c1
  have c1:jg s v=0:=by simpa using c1
  refine aa 0 ?_
  refine aw [] (VP s v _ hf) ?_
  exact .drop 0 1 (.done ⟨by rw[ve c1,c1];rfl,rfl⟩)
def pQ(s:Sy)(v:Int)(x:List Int):Int:=if jg s v=0 then (if cM s.what s.w x=true then 0 else 2) else jg s v
theorem abP{s:Sy}{v:Int}(x:List Int)(h:¬jg s v=0):pQ s v x=jg s v:=ag h
theorem S6{s:Sy}{v:Int}{x:List Int}(h:jg s v=0)(hv:cM s.what s.w x=true):pQ s v x=0:=by unfold pQ;rw[ah h,ah hv]
theorem af5(s:Sy)(v:Int)(x:List Int)(σ:Hp)(hf:Fit s)(hx:aR x)(lx:x.length≤10000):ACalls Tryz.prog 399 [.agg (aW s),.int .i64 v,.ae (.int .u64) x] σ (ay (.tup [.ae (.int .u64) (r8 (pQ s v x) (gg s x v.toNat)),.int .i64 (pQ s v x)]) σ):=by
 refine ar Tryz.func399 ?_
 intro aB
 refine aa 0 ?_
 refine aw [] (TR s v _ hf) ?_
 refine cX (fun c1=>?_) (fun c1=>?_)
 ·have c1:(!decide (jg s v=0))=true:=c1
  have c1:¬jg s v=0:=by simpa using c1
  have e:=abP x c1
  exact .nil (cd (.nil _) (.refl _)) (.drop 0 1 (.done ⟨by rw[e,DF c1];rfl,rfl⟩))
 ·have c1:(!decide (jg s v=0))=false:=c1
  have c1:jg s v=0:=by simpa using c1
  obtain⟨hg,o6,dy⟩:=Za c1
  obtain⟨hT,FF⟩:=Et hg (v:=v.toNat) (by omega)
  have ht:=hf.ts _ (bP hT)
  have hc:=hg.BT _ (bP hT)
  have hA:=fun σ=>U1 s.what s.w s.T[v.toNat].1 s.T[v.toNat].2.1 s.T[v.toNat].2.2.1 x σ ht.1 ht.2.1 hx ht.2.2.1 ht.2.2.2.1 lx (eH ht.2.2.2.2 (by decide))
  have OL:fW s.what s.T[v.toNat].1 s.T[v.toNat].2.1 s.T[v.toNat].2.2.1 x=gg s x v.toNat:=by unfold gg;rw[FF]
  have hE:vQ s.what s.w s.T[v.toNat].1 s.T[v.toNat].2.1 s.T[v.toNat].2.2.1 x=pQ s v x:=by unfold pQ vQ;rw[ah hc,ah c1]
  rw[OL,hE]at hA
  refine .quiet (by kernel_rfl) ?_
  refine aa 0 ?_
  refine aa 0 ?_
  refine aa 0 ?_
  refine aG.mk rfl (bE.mk s.T[v.toNat] (by omega) (bh hT) ?_)
  refine aI [] (hA _) ?_
  exact .drop 0 1 (.done ⟨rfl,rfl⟩)
theorem ad7(s:Sy)(σ:Hp):ACalls Tryz.prog 66 [.agg (aW s)] σ (ay (.int .i64 (IntKind.i64.wrap (IntKind.i64.wrap (s.n*fU s.what s.w)+1))) σ):=by
 refine ar Tryz.func66 ?_
 intro aB
 refine .quiet (by kernel_rfl) ?_
 refine aa 0 ?_
 refine aa 0 ?_
 refine aa 0 ?_
 refine aI [] (ad5 _ _ _) ?_
 exact .drop 0 1 (.done ⟨rfl,rfl⟩)
theorem ab6(s:Sy)(eK:Nat)(σ:Hp)(hf:Fit s)(hg:Good s)(hm:eK≤1000000):ACalls Tryz.prog 65 [.agg (aW s),.int .i64 eK] σ (ay (.tup [.ae (.slice (.int .u64)) (jl s eK (fM s) 0).1,.int .i64 (jl s eK (fM s) 0).2]) σ):=by
 refine ar Tryz.func65 ?_
 intro aB
 refine aa 0 ?_
 refine aw [] (ZG s _ hg) ?_
 refine bQ (S:=List (List Int)×Nat) (fun x=>[(1,.int .i64 eK),(2,.ptr aB 0),(6,.ae (.slice (.int .u64)) x.1),(7,.int .i64 x.2)]) (fun _=>(aB,aW s)::σ) (fun x=>(ic s x.1∧x.2≤eK)∧jl s (eK-x.2) x.1 x.2=jl s eK (fM s) 0) (fun x=>eK-x.2) (fM s,0) ⟨⟨⟨GA hg,bA _⟩,rfl⟩,⟨rfl,rfl,rfl,rfl,trivial⟩,rfl⟩ ?_
 rintro⟨a,k⟩ t ⟨⟨lG,aK⟩,FL⟩
 have ha:ic s a:=lG
 have hk:k≤eK:=aK
 have hR:jl s (eK-k) a k=jl s eK (fM s) 0:=FL
 clear lG aK FL
 refine ak (p:=(k:Int)<eK) (fun ab=>?_) (fun aq=>?_)
 ·have ab:k<eK:=by omega
  refine aa 0 ?_
  refine aw [] (ad2 s a _ hf hg ha) ?_
  refine dC [] (TW a (eW s a) _ (ha.ok hg)) (fun d=>?_) (fun d=>?_)
  ·have d:a=eW s a:=fk d
   rw[GU _ _ d]at hR
   exact .drop 0 1 (.done ⟨by rw[← hR];rfl,rfl⟩)
  ·have d:¬a=eW s a:=nj d
   rw[show eK-k=(eK-(k+1))+1 by omega,HB _ _ d]at hR
   exact aY (eW s a,k+1) (by show eK-(k+1)<eK-k;omega) ⟨⟨yT hf hg ha,ab⟩,hR⟩ ⟨rfl,rfl,rfl,aS (by omega),trivial⟩ (.refl _)
 ·have aq:k=eK:=by omega
  rw[aq,qd]at hR
  exact .drop 0 1 (.done ⟨by rw[← hR];rfl,rfl⟩)
theorem lL{n:Int}{l:List bK}{a b:Int}:b∈au n l a↔(0≤b∧b<n)∧(0≤a∧a<n)∧∃e∈l,e.1=a∧e.2.1=b:=by
 unfold au jE
 rw[oe,decide_eq_true_eq,dT,dT]
 constructor
 ·rintro⟨⟨i,hi,rfl⟩,e,he,h2⟩
  have hi:=gy.1 hi
  obtain⟨h3,h4⟩:=oe.1 he
  simp only[bO,decide_eq_true_eq,kW]at h4
  exact⟨by omega,h4.1.2,e,h3,h4.1.1,h2⟩
 ·rintro⟨h1,h2,e,h3,h4,h5⟩
  refine⟨⟨b.toNat,gy.2 (by omega),by omega⟩,e,oe.2 ⟨h3,?_⟩,h5⟩
  simp only[bO,decide_eq_true_eq,kW]
  exact⟨⟨h4,h2⟩,by omega⟩
theorem yM(n:Int)(l:List bK)(a:Int):(au n l a).length≤n.toNat:=by
 unfold au
 exact Nat.le_trans (List.length_filter_le _ _) (by simp)
theorem K9{s:Sy}(hf:Fit s)(hg:Good s){a:List (List Int)}(ha:ic s a)(v:Nat):∀k,k≤s.aO.length→dE s.what s.w (fp s v) (iy s a k v)∧∀e∈s.aO.take k,e.2.1=v→dE s.what s.w (gg s (a.getD e.1.toNat []) e.1.toNat) (iy s a k v)
 | 0,_=>⟨dE.refl (GS hf hg v),fun e he=>by cases he⟩
 |k+1,hk=>by
  obtain⟨h1,h2⟩:=K9 hf hg ha v k (by omega)
  have ab:k<s.aO.length:=by omega
  have hv:=RE hf hg ha v k (by omega)
  have he:=hg.ui _ (bP ab)
  have ho:eI s.what s.w (gg s (a.getD s.aO[k].1.toNat []) s.aO[k].1.toNat):=by
   have hx:=ha.get (i:=s.aO[k].1.toNat) (by omega)
   have:=DE hf hg hx.cE hx.v (v:=s.aO[k].1.toNat) (by omega)
   exact⟨this.1,this.2⟩
  have my:dE s.what s.w (iy s a k v) (iy s a (k+1) v):=by
   rw[w9 s a ab]
   unfold tS
   split
   ·exact dE.left hv ho
   ·exact dE.refl hv
  refine⟨h1.trans my,fun e hm kv=>?_⟩
  rw[ff ab]at hm
  rcases bV.1 hm with hm | hm
  ·exact (h2 e hm kv).trans my
  ·rw[bB.1 hm]at kv ⊢
   rw[w9 s a ab]
   unfold tS
   rw[ah kv]
   exact dE.right hv ho
theorem TS(s:Sy)(σ:Hp)(hf:Fit s)(hg:Good s):ACalls Tryz.prog 136 [.agg (aW s)] σ (ay (.tup [.ae (.slice (.int .u64)) (iV s).1,.int .i64 (iV s).2,.int .i64 0]) σ):=by
 refine ot (agy s σ hf) ?_
 rw[C8 hg];rfl
theorem aex{F':Nat→Prop}{w w':World}(h:bH (fun b=>b<w.heap.size) w F' w'):∃q os,w'=Go.Sort.grow (w.drewN q) os:=by
 obtain⟨h1,h2,h3,h4,_,h6,_,h8⟩:=h
 have hh:w'.heap=w.heap++w'.heap.extract w.heap.size w'.heap.size:=by
  apply Array.ext
  ·simp only[Array.size_append,Array.size_extract];omega
  ·intro i hi qY
   by_cases ab:i<w.heap.size
   ·have e:=h6 i ab
    rw[qg hi,qg ab]at e
    rw[Array.getElem_append_left ab]
    exact Option.some.inj e
   ·rw[Array.getElem_append_right (by omega),Array.getElem_extract]
    congr 1;omega
 refine⟨w'.drawn-w.drawn,w'.heap.extract w.heap.size w'.heap.size,?_⟩
 have hd:w.drawn+(w'.drawn-w.drawn)=w'.drawn:=by omega
 unfold Go.Sort.grow World.drewN
 cases w' with
 |mk heap tape drawn os output=>
  simp only at h1 h2 h3 hh hd ⊢
  rw[h1,h2,h3,← hh,hd]
theorem Rj{f:FuncId}{xs:List AV}{k:IntKind}{z:Int}(h:∀σ,ACalls Tryz.prog f xs σ (ay (.int k z) σ)){w:World}{vs:Array Value}(hv:ji (fun b=>b<w.heap.size) w xs vs):Calls Tryz.prog f vs w fun e w'=>e=.returned (.int k z)∧∃q os,w'=Go.Sort.grow (w.drewN q) os:=by
 refine ((h []).2 (fun b=>b<w.heap.size) w vs hv ⟨PL,fun p hp=>absurd hp Al,fun b hb=>hb⟩).mono ?_
 rintro e w' ⟨r,v,σ',F',rfl,an,_,hr,rfl,_⟩
 refine⟨?_,aex an⟩
 rw[hr.gJ]
def x4(a b:Int):Int:=if a<b then -1 else if b<a then 1 else 0
theorem VZ(a:Int)(σ:Hp):ACalls Tryz.prog 234 [.int .i64 a] σ (ay (.bool false) σ):=by
 refine ar Tryz.func234 ?_
 refine cX (fun h=>absurd h (by simp)) (fun _=>?_)
 exact .done ⟨rfl,rfl⟩
theorem Xu(a b:Int)(σ:Hp):ACalls Tryz.prog 184 [.int .i64 a,.int .i64 b] σ (ay (.int .i64 (x4 a b)) σ):=by
 refine ar Tryz.func184 ?_
 refine aw [] (VZ a _) ?_
 refine aw [] (VZ b _) ?_
 refine ak (p:=a<b) (fun c1=>?_) (fun c1=>?_)
 ·exact .done ⟨aQ (ah c1).symm,rfl⟩
 refine ak (p:=b<a) (fun c2=>?_) (fun c2=>?_)
 ·exact .done ⟨aQ (by unfold x4;rw[ag c1,ah c2]),rfl⟩
 ·exact .done ⟨aQ (by unfold x4;rw[ag c1,ag c2]),rfl⟩
def BZ(x y:Int):Int:=if x=0 then y else x
theorem aiP(b:Nat)(x y:Int)(σ:Hp):ACalls Tryz.prog 183 [.af b 0 2 1] ((b,[.int .i64 x,.int .i64 y])::σ) (ay (.int .i64 (BZ x y)) ((b,[.int .i64 x,.int .i64 y])::σ)):=by
 refine ar Tryz.func183 ?_
 refine bQ (S:=Nat×Int) (fun s=>[(3,.int .i64 s.2),(6,.af b 0 2 1),(7,.int .i64 2),(8,.int .i64 s.1)]) (fun _=>(b,[.int .i64 x,.int .i64 y])::σ) (fun s=>s.2=0∧s.1≤2∧(0<s.1→x=0)∧(1<s.1→y=0)) (fun s=>2-s.1) (0,0) ⟨⟨rfl,by omega,fun h=>by omega,fun h=>by omega⟩,⟨rfl,rfl,rfl,rfl,trivial⟩,rfl⟩ ?_
 rintro⟨k,z⟩ g ⟨gU,aK,B3,hy0⟩
 have hz:z=0:=gU
 have hk:k≤2:=aK
 have hx:0<k→x=0:=B3
 have hy:1<k→y=0:=hy0
 clear gU aK B3 hy0
 match k,hk,hx,hy with
 | 0,_,_,_=>
  refine aM ?_
  refine aa 0 ?_
  refine cX (fun c1=>?_) (fun c1=>?_)
  ·have c1:(!decide (x=z))=true:=c1
   have c1:¬x=z:=by simpa using c1
   exact .done ⟨aQ (by unfold BZ;rw[ag (by rw[← hz];exact c1)]),rfl⟩
  ·have c1:(!decide (x=z))=false:=c1
   have c1:x=z:=by simpa using c1
   exact aY (1,z) (by show 2-1<2-0;decide) ⟨hz,(show 1≤2 by decide),fun _=>c1.trans hz,fun h=>absurd h (show ¬1<1 by decide)⟩ ⟨rfl,rfl,rfl,rfl,trivial⟩ (.refl _)
 | 1,_,hx,_=>
  refine aM ?_
  refine aa 0 ?_
  refine cX (fun c1=>?_) (fun c1=>?_)
  ·exact .done ⟨aQ (by unfold BZ;rw[ah (hx (by decide))]),rfl⟩
  ·have c1:(!decide (y=z))=false:=c1
   have c1:y=z:=by simpa using c1
   exact aY (2,z) (by show 2-2<2-1;decide) ⟨hz,(show 2≤2 by decide),fun _=>hx (by decide),fun _=>c1.trans hz⟩ ⟨rfl,rfl,rfl,rfl,trivial⟩ (.refl _)
 | 2,_,hx,hy=>
  exact .done ⟨aQ (by unfold BZ;rw[ah (hx (by decide)),hy (by decide)];exact hz),rfl⟩
def Od(a b c d:Int):Int:=BZ (x4 a c) (x4 b d)
theorem ahG(a b c d:Int)(σ:Hp):ACalls Tryz.prog 182 [.agg [.int .i64 a,.int .i64 b],.agg [.int .i64 c,.int .i64 d]] σ (ay (.int .i64 (Od a b c d)) σ):=by
 refine ar Tryz.func182 ?_
 intro aB
 intro dc
 refine .sched [4,9] (upto [4,9] 13 0) (by kernel_rfl) ?_
 refine aa 1 ?_
 refine aa 0 ?_
 refine aI [] (Xu a c _) ?_
 refine aa 1 ?_
 refine aa 0 ?_
 refine aI [] (Xu b d _) ?_
 intro qj
 refine aw [] (aiP qj (x4 a c) (x4 b d) _) ?_
 exact .drop 0 3 (.done ⟨rfl,rfl⟩)
theorem aiV(a b c d:Int)(σ:Hp):ACalls Tryz.prog 186 [.agg [.int .i64 a,.int .i64 b],.agg [.int .i64 c,.int .i64 d]] σ (ay (.bool (decide (a=c)&&decide (b=d))) σ):=by
 refine ar Tryz.func186 ?_
 intro aB
 intro dc
 refine aa 1 ?_
 refine aa 0 ?_
 refine .mk (by kernel_rfl) (by kernel_rfl) ?_
 refine cX (fun h=>?_) (fun h=>?_)
 ·have h:fP [decide (a=c),decide (b=d)]=true:=h
  exact .drop 0 2 (.done ⟨cy (by simpa [fP]using h.symm),rfl⟩)
 ·have h:fP [decide (a=c),decide (b=d)]=false:=h
  exact .drop 0 2 (.done ⟨cy (by simpa [fP]using h.symm),rfl⟩)
section
variable {F:Nat→Prop} {w:World} {σ:Hp}
theorem aaq(h:bu F w σ)(os:Array Obj):bH F w F (Go.Sort.grow w os)∧bu F (Go.Sort.grow w os) σ:=by
 have eF:(Go.Sort.grow w os).heap.size=w.heap.size+os.size:=by simp[Go.Sort.grow]
 have aq:∀b,b<w.heap.size→(Go.Sort.grow w os).heap[b]?=w.heap[b]?:=fun b hb=>by
  show (w.heap++os)[b]?=_
  rw[KN hb]
 have an:bH F w F (Go.Sort.grow w os):=⟨rfl,rfl,rfl,by omega,fun _ h=>h,fun b hb=>aq b (h.low b hb),fun b c T fz hc=>⟨c,fz,by
  rw[aq b (Aq.1 hc).1];exact hc,rfl⟩,a8 _⟩
 exact⟨an,h.nodup,fun p hp=>(h.holds p hp).mono an (aq _ (h.holds p hp).lt) (h.holds p hp).1,fun b hb=>by have:=h.low b hb;omega⟩
theorem Holds.Td{F:Nat→Prop}{w:World}{b:Nat}{cs:List AV}(h:Holds F w b cs)(hn:∀x∈cs,x.leaf=true):¬F b∧D3 F w b cs:=by
 obtain⟨hF,h | ⟨x,o,e,_,hx⟩ | ⟨L,t,e,_⟩⟩:=h
 ·exact⟨hF,h⟩
 ·subst e;have:=hn _ (cj ..);rw[GW hx]at this;cases this
 ·subst e;cases hn _ (cj ..)
theorem abL{b n:Nat}{cs cs':List AV}{d:Array Value}(h:bu F w ((b,cs)::σ))(Fs:∀x∈cs,x.leaf=true)(hl:cs'.length=cs.length)(hd:d.size=cs'.length)(hv:∀(i:Nat) (x:AV),cs'[i]?=some x→x.leaf=true∧aA F w x (d.getD i undef))(os:Array Obj):
  bH F w F (Go.Sort.grow (Go.Sort.putRow id (Go.Sort.ahead w n) b 0 d) os)∧bu F (Go.Sort.grow (Go.Sort.putRow id (Go.Sort.ahead w n) b 0 d) os) ((b,cs')::σ):=by
 obtain⟨hF,c,T,hc,hle,l7⟩:=(h.holds _ (cj ..)).Td Fs
 have hle:cs.length≤c.size:=hle
 have hc:w.heap[b]?=some (.cells c T (0,0)):=hc
 have ue:∀k,k<d.size→(Go.Sort.putCells id 0 d c).getD k undef=d.getD k undef:=fun k hk=>by
  have Ab:k<c.size:=by omega
  unfold Go.Sort.putCells
  rw[im,Array.getElem?_mapIdx,qg Ab]
  simp only[Kn,F6]
  rw[ah ⟨bA _,by omega⟩,Nat.sub_zero,im,qg hk]
  simp[hk]
 have key:=AL (F:=F) (w:=w) (w':=Go.Sort.putRow id (Go.Sort.ahead w n) b 0 d) h (j:=0) (b:=b) (cs:=cs) (cs':=cs') rfl hc (c':=Go.Sort.putCells id 0 d c) (by simp[Go.Sort.putCells]) (by simp[Go.Sort.putCells];omega)
  (fun i x hx=>by
   have h2:i<cs'.length:=(ck.1 hx).1
   rw[ue i (by omega)]
   exact hv i x hx)
  (fun k hk=>by
   show (w.heap.modify b _)[k]?=_
   rw[KB,ag (fun e=>hk e.symm)])
  (by
   show (w.heap.modify b _)[b]?=_
   rw[KB,ah rfl,hc];rfl)
  rfl rfl rfl (by simp[Go.Sort.ahead])
 obtain⟨k1,k2⟩:=key
 obtain⟨g1,g2⟩:=aaq k2 os
 exact⟨k1.trans g1,g2⟩
theorem ag8{b:Nat}{cs:List AV}{d:Array Value}(h:bu F w ((b,cs)::σ))(Fs:∀x∈cs,x.leaf=true)(hd:d.size=cs.length)(hv:∀(i:Nat) (x:AV),cs[i]?=some x→∀v,aA F w x v→v=d.getD i undef):Go.Sort.Holds id w b 0 d∧b<w.heap.size:=by
 obtain⟨hF,c,T,hc,hle,l7⟩:=(h.holds _ (cj ..)).Td Fs
 have hc:w.heap[b]?=some (.cells c T (0,0)):=hc
 have hle:cs.length≤c.size:=hle
 refine⟨fun j hj=>?_,(Aq.1 hc).1⟩
 have Fv:j<cs.length:=by omega
 have hr:=hv j _ (bh Fv) _ (l7 j _ (bh Fv)).2
 rw[dR]
 constructor
 ·rw[HU hc,qg (by omega)]
  rw[im,qg (by omega),im,qg hj]at hr
  simp only[F6]at hr
  rw[hr]
  simp[hj]
 ·unfold World.frozen?
  simp[hc]
end
def mW(l:List (Int×Int×Unit)):List AV:=l.flatMap fun x=>[.int .i64 x.1,.int .i64 x.2.1]
def nR(x:Int×Int×Unit):List Value:=[.int .i64 x.1,.int .i64 x.2.1]
theorem yO:∀l:List (Int×Int×Unit),(mW l).length=l.length*2
 | []=>rfl
 |x::l=>by
  show (mW l).length+2=(l.length+1)*2
  rw[yO l];omega
theorem Vn(L:List (Int×Int×Unit)):∀x∈mW L,x.leaf=true:=fun x hx=>by
 obtain⟨p,_,h⟩:=List.mem_flatMap.1 hx
 rcases eB.1 h with rfl | h
 ·rfl
 ·rw[bB.1 h];rfl
theorem Uv:∀(l:List (Int×Int×Unit)) (i:Nat),(mW l)[i]?=(l[i / 2]?).map fun x=>if i % 2=0 then .int .i64 x.1 else .int .i64 x.2.1
 | [],i=>by simp[mW]
 |x::l,0=>rfl
 |x::l,1=>rfl
 |x::l,i+2=>by
  have h:=Uv l i
  show (mW l)[i]?=_
  rw[h,show (i+2) / 2=i / 2+1 by omega,show (i+2) % 2=i % 2 by omega]
  rfl
theorem Uu(l:List (Int×Int×Unit))(i:Nat)(x:AV)(h:(mW l)[i]?=some x):∃z,x=.int .i64 z∧(Go.Sort.flatK nR 2 l.toArray).getD i undef=.int .i64 z:=by
 rw[Uv]at h
 obtain⟨d,hd,hx⟩:=wU.1 h
 obtain⟨hi,n9⟩:=ck.1 hd
 have ab:i<l.toArray.size*2:=by simp only[qf];omega
 have hg:=Go.Sort.get_flatK nR 2 l.toArray i ab
 have he:(Go.Sort.flatK nR 2 l.toArray).getD i undef=(Go.Sort.flatK nR 2 l.toArray)[i]!:=by
  have hs:i<(Go.Sort.flatK nR 2 l.toArray).size:=by rw[Go.Sort.size_flatK];exact ab
  rw[im,qg hs]
  exact (getElem!_pos _ i hs).symm
 have hl:l.toArray[i / 2]! = d:=by simp[hi,n9]
 rw[he,hg,hl]
 by_cases h0:i % 2=0
 ·rw[ah h0]at hx
  rw[h0]
  exact⟨d.1,hx.symm,rfl⟩
 ·rw[ag h0]at hx
  have h1:i % 2=1:=by omega
  rw[h1]
  exact⟨d.2.1,hx.symm,rfl⟩
variable {α:Type} {f:α→List AV} {n:Nat}
theorem CN(hf:∀x,(f x).length=n)(l:List α):(l.flatMap f).length=l.length*n:=w8 hf l
theorem abD(hf:∀x,(f x).length=n){l:List α}{j:Nat}(h:j<l.length):((l.flatMap f).drop (j*n)).take n=f l[j]:=by
 induction l generalizing j with
 |nil=>simp at h
 |cons x l ih=>
  cases j with
  |zero=>simp[hf]
  |succ j=>
   rw[yy,List.drop_append,hf,qe,gp4,Ge (by rw[hf];omega),uH]
   simpa using ih (by simpa using h)
theorem LQ{i:TI}(hi:i.wide=true)(hs:i.size=n)(hf:∀x,(f x).length=n){l:List α}{k:Nat}(h:k<l.length){z:Int}(hz:z=k):ep i (l.flatMap f) (0+z.toNat*n)=some (.agg (f l[k])):=by
 subst hz
 have hl:=CN hf l
 have hm:(k+1)*n≤l.length*n:=lI n h
 rw[qc,Nat.one_mul]at hm
 have hb:Nat.ble (0+k*n+n) (l.flatMap f).length=true:=KO (by rw[hl];omega)
 unfold ep
 rw[hi,hs]
 show (match Nat.ble (0+k*n+n) (l.flatMap f).length with | true=>some (AV.agg (((l.flatMap f).drop (0+k*n)).take n)) | false=>none)=_
 rw[hb]
 show some (AV.agg (((l.flatMap f).drop (0+k*n)).take n))=_
 rw[dR,abD hf h]
theorem La:∀(vs A B C:List AV),B.length=vs.length→fV (A++(B++C)) A.length vs=A++(vs++C)
 | [],A,B,C,h=>by
  obtain rfl:=iE.1 h
  rfl
 |v::vs,A,b::B,C,h=>by
  show fV ((A++(b::(B++C))).set A.length v) (A.length+1) vs=_
  have e:(A++(b::(B++C))).set A.length v=(A++[v])++(B++C):=by
   rw[List.set_append_right _ _ (Nat.le_refl _),Nat.sub_self];simp
  rw[e,show A.length+1=(A++[v]).length by simp,La vs (A++[v]) B C (by simpa using h)]
  simp
theorem adN(hf:∀x,(f x).length=n){l:List α}{k:Nat}(h:k<l.length)(d:α):fV (l.flatMap f) (k*n) (f d)=(l.set k d).flatMap f:=by
 have e:l=l.take k++([l[k]]++l.drop (k+1)):=by simp
 have e2:l.set k d=l.take k++([d]++l.drop (k+1)):=by
  rw[List.set_eq_take_append_cons_drop,ah h];rfl
 have hk:((l.take k).flatMap f).length=k*n:=by rw[CN hf,sk,Ky (Nat.le_of_lt h)]
 rw[e2]
 conv=>lhs;rw[e]
 rw[yz,yz,yz,yz,List.flatMap_singleton,List.flatMap_singleton,← hk]
 exact La _ _ _ _ (by rw[hf,hf])
theorem RH{i:TI}(hs:i.size=n)(hf:∀x,(f x).length=n){l:List α}{k:Nat}(h:k<l.length)(d:α){z:Int}(hz:z=k):kX i (l.flatMap f) (0+z.toNat*n) (.agg (f d))=some ((l.set k d).flatMap f):=by
 subst hz
 have hl:=CN hf l
 have hm:(k+1)*n≤l.length*n:=lI n h
 rw[qc,Nat.one_mul]at hm
 have hb:Nat.ble (0+k*n+n) (l.flatMap f).length=true:=KO (by rw[hl];omega)
 have hq:Nat.beq (f d).length n=true:=by rw[hf];exact yu n
 unfold kX
 rw[hs]
 show (match Nat.beq (f d).length n,Nat.ble (0+k*n+n) (l.flatMap f).length with | true,true=>some (fV (l.flatMap f) (0+k*n) (f d)) | _,_=>none)=_
 rw[hb,hq]
 show some (fV (l.flatMap f) (0+k*n) (f d))=_
 rw[dR,adN hf h]
theorem Qr:∀(vs cs:List AV) (off k:Nat),k≤off→(fV cs off vs).take k=cs.take k
 | [],_,_,_,_=>rfl
 |v::vs,cs,off,k,h=>by
  show (fV (cs.set off v) (off+1) vs).take k=_
  rw[Qr vs _ _ _ (by omega),List.take_set_of_le h]
theorem abC(hf:∀x,(f x).length=n)(l:List α){k:Nat}(h:k≤l.length):(l.flatMap f).take (k*n)=(l.take k).flatMap f:=by
 conv=>lhs;rw[← CB k l]
 rw[yz]
 exact List.take_left' (by rw[CN hf,sk,Ky h])
abbrev ri(x:Int×Int×Unit):List AV:=[.int .i64 x.1,.int .i64 x.2.1]
theorem A2(x:Int×Int×Unit):(ri x).length=2:=rfl
def tR(L:List (Int×Int×Unit))(j:Nat):Bool:=decide (j=0)||!decide (L.getD j (0,0,())=L.getD (j-1) (0,0,()))
def rP(L:List (Int×Int×Unit))(j:Nat):List (Int×Int×Unit):=((List.range j).filter (tR L)).map fun i=>L.getD i (0,0,())
def xP(L:List (Int×Int×Unit)):List (Int×Int×Unit):=rP L L.length
theorem CT(L:List (Int×Int×Unit))(j:Nat):rP L (j+1)=rP L j++(if tR L j=true then [L.getD j (0,0,())] else []):=by
 unfold rP
 rw[tk,An,cW]
 congr 1
 by_cases h:tR L j=true
 ·rw[ah h,gs9 h];rfl
 ·rw[ag h,gp6 h];rfl
theorem Xr(x y:Int×Int×Unit)(σ:Hp):ACalls Tryz.prog 186 [.agg (ri x),.agg (ri y)] σ (ay (.bool (decide (x=y))) σ):=by
 have h:=aiV x.1 x.2.1 y.1 y.2.1 σ
 have e:(decide (x.1=y.1)&&decide (x.2.1=y.2.1))=decide (x=y):=by
  obtain⟨a,b,_⟩:=x
  obtain⟨c,d,_⟩:=y
  simp only[Prod.mk.injEq,and_true,Bool.decide_and]
 rw[e]at h
 exact h
theorem vG{L:List (Int×Int×Unit)}{j:Nat}(h:j<L.length):L.getD j (0,0,())=L[j]:=by rw[aZ,bh h];rfl
theorem xK{i:TI}(hi:i.wide=true)(hs:i.size=2){l:List (Int×Int×Unit)}{p q:Nat}(h:q<l.length){z:Int}(hz:(p:Int)+z=q)(h0:0≤z):ep i (l.flatMap ri) (0+p*2+z.toNat*2)=some (.agg (ri l[q])):=by
 rw[← LQ (f:=ri) (n:=2) hi hs A2 h rfl]
 congr 1
 omega
theorem Sw(b:Nat)(L:List (Int×Int×Unit))(σ:Hp)(hl:L.length≤1000000):ACalls Tryz.prog 185 [.af b 0 L.length 2,.fn (.func 186) [] []] ((b,mW L)::σ)
  (fun x σ'=>∃(k:Nat) (cs:List AV),k=(xP L).length∧cs.take (k*2)=mW (xP L)∧x=.af b 0 k 2∧σ'=(b,cs)::σ):=by
 refine ar Tryz.func185 ?_
 refine ak (p:=(L.length:Int)<2) (fun c1=>?_) (fun c1=>?_)
 ·have hc:xP L=L:=by
   match L,c1 with
   | [],_=>rfl
   | [x],_=>rfl
   |x::y::r,h=>simp only[ik]at h;omega
  refine .done ⟨L.length,mW L,by rw[hc],?_,rfl,rfl⟩
  rw[hc]
  exact ek (wP (yO L))
 refine bQ (S:=Nat) (fun k=>[(0,.af b 0 L.length 2),(1,.fn (.func 186) [] []),(5,.int .i64 ((k+1:Nat):Int))]) (fun _=>(b,mW L)::σ) (fun k=>k+1≤L.length∧rP L (k+1)=L.take (k+1)) (fun k=>L.length-k) 0 ⟨⟨by omega,?_⟩,⟨rfl,rfl,rfl,trivial⟩,rfl⟩ ?_
 ·rw[CT]
  have h0:0<L.length:=by omega
  rw[ff h0,ah (show tR L 0=true from rfl),vG h0];rfl
 rintro k g ⟨aK,lG⟩
 have hk:k+1≤L.length:=aK
 have ha:rP L (k+1)=L.take (k+1):=lG
 clear aK lG
 have hw:IntKind.i64.wrap (((k+1:Nat):Int)-1)=(k:Int):=by rw[IntKind.wrap_i64];omega
 refine ak (p:=((k+1:Nat):Int)<(L.length:Int)) (fun ab=>?_) (fun aq=>?_)
 ·have ab:k+1<L.length:=by omega
  refine .quiet (by kernel_rfl) ?_
  refine aM ?_
  refine eY.mk 0 _ (.agg (ri L[k+1])) rfl (LQ rfl rfl A2 ab rfl) ?_
  refine aG.mk ⟨rfl,by rw[hw];omega,by rw[hw];omega⟩ ?_
  refine eY.mk 0 _ (.agg (ri L[k])) rfl (LQ rfl rfl A2 (by omega) hw) ?_
  refine Il [] (Xr L[k+1] L[k] _) (fun c2=>?_) (fun c2=>?_)
  rotate_left
  ·refine aY (k+1) (by show L.length-(k+1)<L.length-k;omega) ⟨ab,?_⟩ ⟨rfl,rfl,aS (by omega),trivial⟩ (.refl _)
   show rP L (k+1+1)=L.take (k+1+1)
   rw[CT,ha,ff ab,vG ab]
   have sd:tR L (k+1)=true:=by
    unfold tR
    rw[vG ab,Nat.add_sub_cancel,vG (by omega),c2];simp
   rw[ah sd]
  have sd:tR L (k+1)=false:=by
   unfold tR
   rw[vG ab,Nat.add_sub_cancel,vG (by omega),c2];simp
  have gW:rP L ((k+1)+1)=L.take (k+1):=by rw[CT,sd,ha];simp
  refine aG.mk ⟨by omega,by omega,by omega,rfl⟩ ?_
  refine bQ (S:=Nat×Nat×List (Int×Int×Unit)) (fun s=>[(0,.af b 0 L.length 2),(1,.fn (.func 186) [] []),(5,.int .i64 s.1),(6,.af b (0+(k+1)*2) (L.length-(k+1)) 2),(7,.int .i64 ((s.2.1+1:Nat):Int))]) (fun s=>(b,s.2.2.flatMap ri)::σ) (fun s=>s.1≤(k+1)+s.2.1∧(k+1)+s.2.1+1≤L.length∧s.2.2.length=L.length∧s.2.2.take s.1=rP L ((k+1)+s.2.1+1)∧s.2.2.drop ((k+1)+s.2.1)=L.drop ((k+1)+s.2.1)) (fun s=>L.length-s.2.1) ((k+1),0,L) ⟨⟨a8 _,ab,rfl,gW.symm,rfl⟩,⟨rfl,rfl,rfl,rfl,rfl,trivial⟩,rfl⟩ ?_
  rintro⟨i,j,M⟩ g ⟨dZ,p8,yr,qb,J9⟩
  have hi:i≤(k+1)+j:=dZ
  have hj:(k+1)+j+1≤L.length:=p8
  have hM:M.length=L.length:=yr
  have hF:M.take i=rP L ((k+1)+j+1):=qb
  have hD:M.drop ((k+1)+j)=L.drop ((k+1)+j):=J9
  clear dZ p8 yr qb J9
  have wC:IntKind.i64.wrap (((j+1:Nat):Int)-1)=(j:Int):=by rw[IntKind.wrap_i64];omega
  refine ak (p:=((j+1:Nat):Int)<((L.length-(k+1):Nat):Int)) (fun h=>?_) (fun h=>?_)
  ·have h1:(k+1)+j+1<L.length:=by omega
   have Pn:(k+1)+j+1<M.length:=by omega
   have hM2:(k+1)+j<M.length:=by omega
   have e1:M[(k+1)+j+1]=L[(k+1)+j+1]:=by
    have:=congrArg (fun x=>x[1]?) hD
    simpa [h1,Pn]using this
   have e2:M[(k+1)+j]=L[(k+1)+j]:=by
    have:=congrArg (fun x=>x[0]?) hD
    simpa [hM2,show (k+1)+j<L.length by omega]using this
   have hD1:M.drop ((k+1)+j+1)=L.drop ((k+1)+j+1):=by
    have h3:=congrArg (List.drop 1) hD
    rwa [FU,FU]at h3
   refine .quiet (by kernel_rfl) ?_
   refine aG.mk ⟨rfl,(show (0:Int)≤((j+1:Nat):Int) by omega),h⟩ ?_
   refine eY.mk 0 _ (.agg (ri M[(k+1)+j+1])) rfl (xK (z:=((j+1:Nat):Int)) rfl rfl Pn (by omega) (by omega)) ?_
   refine aG.mk ⟨rfl,by rw[wC];omega,by rw[wC];omega⟩ ?_
   refine eY.mk 0 _ (.agg (ri M[(k+1)+j])) rfl (xK rfl rfl hM2 (by rw[wC];omega) (by rw[wC];omega)) ?_
   have JV:tR L ((k+1)+j+1) = !decide (M[(k+1)+j+1]=M[(k+1)+j]):=by
    unfold tR
    rw[vG h1,Nat.add_sub_cancel,vG (by omega),e1,e2];simp
   refine Il [] (Xr M[(k+1)+j+1] M[(k+1)+j] _) (fun c3=>?_) (fun c3=>?_)
   ·rw[c3]at JV
    refine aY (i,j+1,M) (by show L.length-(j+1)<L.length-j;omega) ⟨by show i≤(k+1)+(j+1);omega,by show (k+1)+(j+1)+1≤L.length;omega,hM,?_,hD1⟩ ⟨rfl,rfl,rfl,rfl,aS (k:=j+1) (by omega),trivial⟩ (.refl _)
    show M.take i=rP L ((k+1)+(j+1)+1)
    rw[show (k+1)+(j+1)+1=(k+1)+j+1+1 by omega,CT,JV,hF];simp
   ·rw[c3]at JV
    refine aG.mk ⟨rfl,(show (0:Int)≤((j+1:Nat):Int) by omega),h⟩ ?_
    refine eY.mk 0 _ (.agg (ri M[(k+1)+j+1])) rfl (xK (z:=((j+1:Nat):Int)) rfl rfl Pn (by omega) (by omega)) ?_
    refine aM ?_
    have hiM:i<M.length:=by omega
    refine cT 0 rfl (RH rfl A2 hiM M[(k+1)+j+1] rfl) ?_
    refine aY (i+1,j+1,M.set i M[(k+1)+j+1]) (by show L.length-(j+1)<L.length-j;omega) ⟨by show i+1≤(k+1)+(j+1);omega,by show (k+1)+(j+1)+1≤L.length;omega,(cR ..).trans hM,?_,?_⟩ ⟨rfl,rfl,aS (k:=i) (by omega),rfl,aS (k:=j+1) (by omega),trivial⟩ (.refl _)
    ·show (M.set i M[(k+1)+j+1]).take (i+1)=rP L ((k+1)+(j+1)+1)
     rw[show (k+1)+(j+1)+1=(k+1)+j+1+1 by omega,CT,JV,ff (by rw[cR];exact hiM),List.take_set_of_le (a8 _),List.getElem_set_self,hF,vG h1,e1]
     simp
    ·show (M.set i M[(k+1)+j+1]).drop ((k+1)+(j+1))=L.drop ((k+1)+(j+1))
     rw[List.drop_set_of_lt (by omega)]
     exact hD1
  ·have h1:(k+1)+j+1=L.length:=by omega
   rw[h1]at hF
   refine aG.mk ⟨by omega,by omega,by omega,rfl⟩ ?_
   refine MM.af 0 b _ _ _ rfl rfl (by show 0+(i:Int).toNat*2+((L.length:Int).toNat-(i:Int).toNat)*2≤(M.flatMap ri).length;rw[CN A2];omega) ?_
   refine aG.mk ⟨by omega,by omega,by omega,rfl⟩ ?_
   have pf:i=(xP L).length:=by unfold xP;rw[← hF,sk];omega
   refine .done ⟨i,_,pf,?_,rfl,rfl⟩
   rw[Qr _ _ _ _ (by omega),abC A2 M (by omega),hF];rfl
 ·have aq:k+1=L.length:=by omega
  have hc:xP L=L:=by unfold xP;rw[← aq,ha,aq,fA]
  refine .done ⟨L.length,mW L,by rw[hc],?_,rfl,rfl⟩
  rw[hc]
  exact ek (wP (yO L))
end Go.Proofs.YtnikdflhefijbaaGreat
