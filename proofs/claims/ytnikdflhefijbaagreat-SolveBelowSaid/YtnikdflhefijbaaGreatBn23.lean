import Derived.Test.YtnikdflhefijbaaGreatBn22
namespace Go.Proofs.YtnikdflhefijbaaGreat
open Go.RowKit
set_option maxRecDepth 100000
def Mm(p:Prop)(σ:Hp):AV→Hp→Prop:=fun r σ'=>∃b:Bool,r=.bool b∧σ'=σ∧(b=true→p)
theorem U0{P:Program}{f:FuncId}{xs:List AV}{σ:Hp}{K:AV→Hp→Prop}(js:List Nat){p:Prop}{σ2:Hp}(h:ACalls P f xs (nR js σ) (Mm p σ2))(k1:p→K (.bool true) σ2)(k2:K (.bool false) σ2):CallAt P f K xs σ:=
 .mk js _ h fun r σ' ⟨b,h1,h2,h3⟩=>by subst h1 h2;cases b;exact k2;exact k1 (h3 rfl)
structure LO(s:Sy):Prop where
 tl:s.T.length≤8
 el:s.bf.length≤16
 nl:s.entry.length≤10
 il:s.init.length≤20
 ts:∀t∈s.T,t.1.length≤4∧t.2.1.length≤4∧t.2.2.1.length≤6
 sz:(s.n≤7∧s.w≤10)∨256<s.n∨1024<s.w
theorem ab3(s:Sy)(σ:Hp):ACalls Tryz.prog 28 [.agg (bc s)] σ (Mm (LO s) σ):=by
 refine ay Tryz.func28 ?_
 intro aD
 refine aa 0 ?_
 refine an (fun c2=>?_) (fun c2=>?_)
 ·have c2:7<s.n:=c2
  refine aa 0 ?_
  refine an (fun c3=>?_) (fun c3=>?_)
  ·have c3:s.n≤256:=c3
   refine aa 0 ?_
   refine an (fun c4=>?_) (fun c4=>?_)
   ·exact .drop 0 1 (.done ⟨false,rfl,rfl,fun h=>by cases h⟩)
   ·have c4:¬(s.w≤1024):=c4
    refine aa 0 ?_
    refine an (fun c5=>?_) (fun c5=>?_)
    ·exact .drop 0 1 (.done ⟨false,rfl,rfl,fun h=>by cases h⟩)
    ·have c5:¬(8<(↑s.T.length:Int)):=c5
     refine aa 0 ?_
     refine an (fun c6=>?_) (fun c6=>?_)
     ·exact .drop 0 1 (.done ⟨false,rfl,rfl,fun h=>by cases h⟩)
     ·have c6:¬(16<(↑s.bf.length:Int)):=c6
      refine aa 0 ?_
      refine an (fun c7=>?_) (fun c7=>?_)
      ·exact .drop 0 1 (.done ⟨false,rfl,rfl,fun h=>by cases h⟩)
      ·have c7:¬(10<(↑s.entry.length:Int)):=c7
       refine aa 0 ?_
       refine an (fun c8=>?_) (fun c8=>?_)
       ·exact .drop 0 1 (.done ⟨false,rfl,rfl,fun h=>by cases h⟩)
       ·have c8:¬(20<(↑s.init.length:Int)):=c8
        refine aa 0 ?_
        refine bV (S:=Nat) (fun k=>[(48,.af kK s.T),(49,.int .i64 s.T.length),(50,.int .i64 k)]) (fun _=>(aD,bc s)::σ) (fun k=>k≤s.T.length∧∀t∈s.T.take k,t.1.length≤4∧t.2.1.length≤4∧t.2.2.1.length≤6) (fun k=>s.T.length-k) 0 ⟨⟨bA _,fun t h=>by cases h⟩,⟨rfl,rfl,rfl,trivial⟩,rfl⟩ ?_
        rintro k g ⟨aL,jM⟩
        have hk:k≤s.T.length:=aL
        have ht:∀t∈s.T.take k,t.1.length≤4∧t.2.1.length≤4∧t.2.2.1.length≤6:=jM
        clear aL jM
        refine an (fun ab=>?_) (fun ar=>?_)
        ·have ab:k<s.T.length:=by have ab:(k:Int)<s.T.length:=ab;omega
         have gB:s.T.take (k+1)=s.T.take k++[s.T[k]]:=fp ab
         obtain⟨t,fB⟩:∃t:mh,s.T[k]=t:=⟨_,rfl⟩
         rw[fB]at gB
         refine ag.mk rfl (bG.mk t (by omega) ((get_some ab).trans (congrArg some fB)) ?_)
         intro dH
         refine ak 0 ?_
         refine aa 0 ?_
         refine an (p:=4<(t.1.length:Int)) (fun d1=>?_) (fun d1=>?_)
         ·exact .drop 0 2 (.done ⟨false,rfl,rfl,fun h=>by cases h⟩)
         ·refine aa 0 ?_
          refine an (p:=4<(t.2.1.length:Int)) (fun d2=>?_) (fun d2=>?_)
          ·exact .drop 0 2 (.done ⟨false,rfl,rfl,fun h=>by cases h⟩)
          ·refine aa 0 ?_
           refine an (p:=6<(t.2.2.1.length:Int)) (fun d3=>?_) (fun d3=>?_)
           ·exact .drop 0 2 (.done ⟨false,rfl,rfl,fun h=>by cases h⟩)
           ·refine a8 (k+1) (by show s.T.length-(k+1)<s.T.length-k;omega) ⟨ab,fun u hu=>?_⟩ ⟨rfl,rfl,aX (by omega),trivial⟩ (.drop 0 1 (.refl _))
            rw[gB]at hu
            rcases bO.1 hu with hu | hu
            ·exact ht u hu
            ·rw[bh.1 hu];omega
        ·have ar:k=s.T.length:=by have ar:¬(k:Int)<s.T.length:=ar;omega
         subst ar
         rw[fj]at ht
         exact .drop 0 1 (.done ⟨true,rfl,rfl,fun _=>⟨by omega,by omega,by omega,by omega,ht,by omega⟩⟩)
  ·have c3:¬(s.n≤256):=c3
   refine aa 0 ?_
   refine an (fun c9=>?_) (fun c9=>?_)
   ·exact .drop 0 1 (.done ⟨false,rfl,rfl,fun h=>by cases h⟩)
   ·have c9:¬(8<(↑s.T.length:Int)):=c9
    refine aa 0 ?_
    refine an (fun jR=>?_) (fun jR=>?_)
    ·exact .drop 0 1 (.done ⟨false,rfl,rfl,fun h=>by cases h⟩)
    ·have jR:¬(16<(↑s.bf.length:Int)):=jR
     refine aa 0 ?_
     refine an (fun ON=>?_) (fun ON=>?_)
     ·exact .drop 0 1 (.done ⟨false,rfl,rfl,fun h=>by cases h⟩)
     ·have ON:¬(10<(↑s.entry.length:Int)):=ON
      refine aa 0 ?_
      refine an (fun vP=>?_) (fun vP=>?_)
      ·exact .drop 0 1 (.done ⟨false,rfl,rfl,fun h=>by cases h⟩)
      ·have vP:¬(20<(↑s.init.length:Int)):=vP
       refine aa 0 ?_
       refine bV (S:=Nat) (fun k=>[(48,.af kK s.T),(49,.int .i64 s.T.length),(50,.int .i64 k)]) (fun _=>(aD,bc s)::σ) (fun k=>k≤s.T.length∧∀t∈s.T.take k,t.1.length≤4∧t.2.1.length≤4∧t.2.2.1.length≤6) (fun k=>s.T.length-k) 0 ⟨⟨bA _,fun t h=>by cases h⟩,⟨rfl,rfl,rfl,trivial⟩,rfl⟩ ?_
       rintro k g ⟨aL,jM⟩
       have hk:k≤s.T.length:=aL
       have ht:∀t∈s.T.take k,t.1.length≤4∧t.2.1.length≤4∧t.2.2.1.length≤6:=jM
       clear aL jM
       refine an (fun ab=>?_) (fun ar=>?_)
       ·have ab:k<s.T.length:=by have ab:(k:Int)<s.T.length:=ab;omega
        have gB:s.T.take (k+1)=s.T.take k++[s.T[k]]:=fp ab
        obtain⟨t,fB⟩:∃t:mh,s.T[k]=t:=⟨_,rfl⟩
        rw[fB]at gB
        refine ag.mk rfl (bG.mk t (by omega) ((get_some ab).trans (congrArg some fB)) ?_)
        intro dH
        refine ak 0 ?_
        refine aa 0 ?_
        refine an (p:=4<(t.1.length:Int)) (fun d1=>?_) (fun d1=>?_)
        ·exact .drop 0 2 (.done ⟨false,rfl,rfl,fun h=>by cases h⟩)
        ·refine aa 0 ?_
         refine an (p:=4<(t.2.1.length:Int)) (fun d2=>?_) (fun d2=>?_)
         ·exact .drop 0 2 (.done ⟨false,rfl,rfl,fun h=>by cases h⟩)
         ·refine aa 0 ?_
          refine an (p:=6<(t.2.2.1.length:Int)) (fun d3=>?_) (fun d3=>?_)
          ·exact .drop 0 2 (.done ⟨false,rfl,rfl,fun h=>by cases h⟩)
          ·refine a8 (k+1) (by show s.T.length-(k+1)<s.T.length-k;omega) ⟨ab,fun u hu=>?_⟩ ⟨rfl,rfl,aX (by omega),trivial⟩ (.drop 0 1 (.refl _))
           rw[gB]at hu
           rcases bO.1 hu with hu | hu
           ·exact ht u hu
           ·rw[bh.1 hu];omega
       ·have ar:k=s.T.length:=by have ar:¬(k:Int)<s.T.length:=ar;omega
        subst ar
        rw[fj]at ht
        exact .drop 0 1 (.done ⟨true,rfl,rfl,fun _=>⟨by omega,by omega,by omega,by omega,ht,by omega⟩⟩)
 ·have c2:¬(7<s.n):=c2
  refine aa 0 ?_
  refine an (fun EW=>?_) (fun EW=>?_)
  ·have EW:10<s.w:=EW
   refine aa 0 ?_
   refine an (fun sI=>?_) (fun sI=>?_)
   ·have sI:s.n≤256:=sI
    refine aa 0 ?_
    refine an (fun OM=>?_) (fun OM=>?_)
    ·exact .drop 0 1 (.done ⟨false,rfl,rfl,fun h=>by cases h⟩)
    ·have OM:¬(s.w≤1024):=OM
     refine aa 0 ?_
     refine an (fun vO=>?_) (fun vO=>?_)
     ·exact .drop 0 1 (.done ⟨false,rfl,rfl,fun h=>by cases h⟩)
     ·have vO:¬(8<(↑s.T.length:Int)):=vO
      refine aa 0 ?_
      refine an (fun OL=>?_) (fun OL=>?_)
      ·exact .drop 0 1 (.done ⟨false,rfl,rfl,fun h=>by cases h⟩)
      ·have OL:¬(16<(↑s.bf.length:Int)):=OL
       refine aa 0 ?_
       refine an (fun OK=>?_) (fun OK=>?_)
       ·exact .drop 0 1 (.done ⟨false,rfl,rfl,fun h=>by cases h⟩)
       ·have OK:¬(10<(↑s.entry.length:Int)):=OK
        refine aa 0 ?_
        refine an (fun OJ=>?_) (fun OJ=>?_)
        ·exact .drop 0 1 (.done ⟨false,rfl,rfl,fun h=>by cases h⟩)
        ·have OJ:¬(20<(↑s.init.length:Int)):=OJ
         refine aa 0 ?_
         refine bV (S:=Nat) (fun k=>[(48,.af kK s.T),(49,.int .i64 s.T.length),(50,.int .i64 k)]) (fun _=>(aD,bc s)::σ) (fun k=>k≤s.T.length∧∀t∈s.T.take k,t.1.length≤4∧t.2.1.length≤4∧t.2.2.1.length≤6) (fun k=>s.T.length-k) 0 ⟨⟨bA _,fun t h=>by cases h⟩,⟨rfl,rfl,rfl,trivial⟩,rfl⟩ ?_
         rintro k g ⟨aL,jM⟩
         have hk:k≤s.T.length:=aL
         have ht:∀t∈s.T.take k,t.1.length≤4∧t.2.1.length≤4∧t.2.2.1.length≤6:=jM
         clear aL jM
         refine an (fun ab=>?_) (fun ar=>?_)
         ·have ab:k<s.T.length:=by have ab:(k:Int)<s.T.length:=ab;omega
          have gB:s.T.take (k+1)=s.T.take k++[s.T[k]]:=fp ab
          obtain⟨t,fB⟩:∃t:mh,s.T[k]=t:=⟨_,rfl⟩
          rw[fB]at gB
          refine ag.mk rfl (bG.mk t (by omega) ((get_some ab).trans (congrArg some fB)) ?_)
          intro dH
          refine ak 0 ?_
          refine aa 0 ?_
          refine an (p:=4<(t.1.length:Int)) (fun d1=>?_) (fun d1=>?_)
          ·exact .drop 0 2 (.done ⟨false,rfl,rfl,fun h=>by cases h⟩)
          ·refine aa 0 ?_
           refine an (p:=4<(t.2.1.length:Int)) (fun d2=>?_) (fun d2=>?_)
           ·exact .drop 0 2 (.done ⟨false,rfl,rfl,fun h=>by cases h⟩)
           ·refine aa 0 ?_
            refine an (p:=6<(t.2.2.1.length:Int)) (fun d3=>?_) (fun d3=>?_)
            ·exact .drop 0 2 (.done ⟨false,rfl,rfl,fun h=>by cases h⟩)
            ·refine a8 (k+1) (by show s.T.length-(k+1)<s.T.length-k;omega) ⟨ab,fun u hu=>?_⟩ ⟨rfl,rfl,aX (by omega),trivial⟩ (.drop 0 1 (.refl _))
             rw[gB]at hu
             rcases bO.1 hu with hu | hu
             ·exact ht u hu
             ·rw[bh.1 hu];omega
         ·have ar:k=s.T.length:=by have ar:¬(k:Int)<s.T.length:=ar;omega
          subst ar
          rw[fj]at ht
          exact .drop 0 1 (.done ⟨true,rfl,rfl,fun _=>⟨by omega,by omega,by omega,by omega,ht,by omega⟩⟩)
   ·have sI:¬(s.n≤256):=sI
    refine aa 0 ?_
    refine an (fun OH=>?_) (fun OH=>?_)
    ·exact .drop 0 1 (.done ⟨false,rfl,rfl,fun h=>by cases h⟩)
    ·have OH:¬(8<(↑s.T.length:Int)):=OH
     refine aa 0 ?_
     refine an (fun OG=>?_) (fun OG=>?_)
     ·exact .drop 0 1 (.done ⟨false,rfl,rfl,fun h=>by cases h⟩)
     ·have OG:¬(16<(↑s.bf.length:Int)):=OG
      refine aa 0 ?_
      refine an (fun OF=>?_) (fun OF=>?_)
      ·exact .drop 0 1 (.done ⟨false,rfl,rfl,fun h=>by cases h⟩)
      ·have OF:¬(10<(↑s.entry.length:Int)):=OF
       refine aa 0 ?_
       refine an (fun OE=>?_) (fun OE=>?_)
       ·exact .drop 0 1 (.done ⟨false,rfl,rfl,fun h=>by cases h⟩)
       ·have OE:¬(20<(↑s.init.length:Int)):=OE
        refine aa 0 ?_
        refine bV (S:=Nat) (fun k=>[(48,.af kK s.T),(49,.int .i64 s.T.length),(50,.int .i64 k)]) (fun _=>(aD,bc s)::σ) (fun k=>k≤s.T.length∧∀t∈s.T.take k,t.1.length≤4∧t.2.1.length≤4∧t.2.2.1.length≤6) (fun k=>s.T.length-k) 0 ⟨⟨bA _,fun t h=>by cases h⟩,⟨rfl,rfl,rfl,trivial⟩,rfl⟩ ?_
        rintro k g ⟨aL,jM⟩
        have hk:k≤s.T.length:=aL
        have ht:∀t∈s.T.take k,t.1.length≤4∧t.2.1.length≤4∧t.2.2.1.length≤6:=jM
        clear aL jM
        refine an (fun ab=>?_) (fun ar=>?_)
        ·have ab:k<s.T.length:=by have ab:(k:Int)<s.T.length:=ab;omega
         have gB:s.T.take (k+1)=s.T.take k++[s.T[k]]:=fp ab
         obtain⟨t,fB⟩:∃t:mh,s.T[k]=t:=⟨_,rfl⟩
         rw[fB]at gB
         refine ag.mk rfl (bG.mk t (by omega) ((get_some ab).trans (congrArg some fB)) ?_)
         intro dH
         refine ak 0 ?_
         refine aa 0 ?_
         refine an (p:=4<(t.1.length:Int)) (fun d1=>?_) (fun d1=>?_)
         ·exact .drop 0 2 (.done ⟨false,rfl,rfl,fun h=>by cases h⟩)
         ·refine aa 0 ?_
          refine an (p:=4<(t.2.1.length:Int)) (fun d2=>?_) (fun d2=>?_)
          ·exact .drop 0 2 (.done ⟨false,rfl,rfl,fun h=>by cases h⟩)
          ·refine aa 0 ?_
           refine an (p:=6<(t.2.2.1.length:Int)) (fun d3=>?_) (fun d3=>?_)
           ·exact .drop 0 2 (.done ⟨false,rfl,rfl,fun h=>by cases h⟩)
           ·refine a8 (k+1) (by show s.T.length-(k+1)<s.T.length-k;omega) ⟨ab,fun u hu=>?_⟩ ⟨rfl,rfl,aX (by omega),trivial⟩ (.drop 0 1 (.refl _))
            rw[gB]at hu
            rcases bO.1 hu with hu | hu
            ·exact ht u hu
            ·rw[bh.1 hu];omega
        ·have ar:k=s.T.length:=by have ar:¬(k:Int)<s.T.length:=ar;omega
         subst ar
         rw[fj]at ht
         exact .drop 0 1 (.done ⟨true,rfl,rfl,fun _=>⟨by omega,by omega,by omega,by omega,ht,by omega⟩⟩)
  ·have EW:¬(10<s.w):=EW
   refine aa 0 ?_
   refine an (fun OD=>?_) (fun OD=>?_)
   ·exact .drop 0 1 (.done ⟨false,rfl,rfl,fun h=>by cases h⟩)
   ·have OD:¬(8<(↑s.T.length:Int)):=OD
    refine aa 0 ?_
    refine an (fun OC=>?_) (fun OC=>?_)
    ·exact .drop 0 1 (.done ⟨false,rfl,rfl,fun h=>by cases h⟩)
    ·have OC:¬(16<(↑s.bf.length:Int)):=OC
     refine aa 0 ?_
     refine an (fun OB=>?_) (fun OB=>?_)
     ·exact .drop 0 1 (.done ⟨false,rfl,rfl,fun h=>by cases h⟩)
     ·have OB:¬(10<(↑s.entry.length:Int)):=OB
      refine aa 0 ?_
      refine an (fun OA=>?_) (fun OA=>?_)
      ·exact .drop 0 1 (.done ⟨false,rfl,rfl,fun h=>by cases h⟩)
      ·have OA:¬(20<(↑s.init.length:Int)):=OA
       refine aa 0 ?_
       refine bV (S:=Nat) (fun k=>[(48,.af kK s.T),(49,.int .i64 s.T.length),(50,.int .i64 k)]) (fun _=>(aD,bc s)::σ) (fun k=>k≤s.T.length∧∀t∈s.T.take k,t.1.length≤4∧t.2.1.length≤4∧t.2.2.1.length≤6) (fun k=>s.T.length-k) 0 ⟨⟨bA _,fun t h=>by cases h⟩,⟨rfl,rfl,rfl,trivial⟩,rfl⟩ ?_
       rintro k g ⟨aL,jM⟩
       have hk:k≤s.T.length:=aL
       have ht:∀t∈s.T.take k,t.1.length≤4∧t.2.1.length≤4∧t.2.2.1.length≤6:=jM
       clear aL jM
       refine an (fun ab=>?_) (fun ar=>?_)
       ·have ab:k<s.T.length:=by have ab:(k:Int)<s.T.length:=ab;omega
        have gB:s.T.take (k+1)=s.T.take k++[s.T[k]]:=fp ab
        obtain⟨t,fB⟩:∃t:mh,s.T[k]=t:=⟨_,rfl⟩
        rw[fB]at gB
        refine ag.mk rfl (bG.mk t (by omega) ((get_some ab).trans (congrArg some fB)) ?_)
        intro dH
        refine ak 0 ?_
        refine aa 0 ?_
        refine an (p:=4<(t.1.length:Int)) (fun d1=>?_) (fun d1=>?_)
        ·exact .drop 0 2 (.done ⟨false,rfl,rfl,fun h=>by cases h⟩)
        ·refine aa 0 ?_
         refine an (p:=4<(t.2.1.length:Int)) (fun d2=>?_) (fun d2=>?_)
         ·exact .drop 0 2 (.done ⟨false,rfl,rfl,fun h=>by cases h⟩)
         ·refine aa 0 ?_
          refine an (p:=6<(t.2.2.1.length:Int)) (fun d3=>?_) (fun d3=>?_)
          ·exact .drop 0 2 (.done ⟨false,rfl,rfl,fun h=>by cases h⟩)
          ·refine a8 (k+1) (by show s.T.length-(k+1)<s.T.length-k;omega) ⟨ab,fun u hu=>?_⟩ ⟨rfl,rfl,aX (by omega),trivial⟩ (.drop 0 1 (.refl _))
           rw[gB]at hu
           rcases bO.1 hu with hu | hu
           ·exact ht u hu
           ·rw[bh.1 hu];omega
       ·have ar:k=s.T.length:=by have ar:¬(k:Int)<s.T.length:=ar;omega
        subst ar
        rw[fj]at ht
        exact .drop 0 1 (.done ⟨true,rfl,rfl,fun _=>⟨by omega,by omega,by omega,by omega,ht,by omega⟩⟩)
theorem adV{s:Sy}(h:LO s)(hi:aR s.init)(ht:∀t∈s.T,aR t.1∧aR t.2.1):Fit s:=by
 obtain⟨h1,h2,h3,h4,h5,_⟩:=h
 exact⟨hi,by omega,by omega,by omega,by omega,fun t hm=>⟨(ht t hm).1,(ht t hm).2,by have:=h5 t hm;omega,by have:=h5 t hm;omega,by have:=h5 t hm;omega⟩⟩
theorem GC{f:FuncId}{xs:List AV}{σ:Hp}{K:AV→Hp→Prop}(i k b':Nat)(cs':List AV)(e:Sh)(hi:σ[i]?=some (b',cs'))(hk:cs'[k]?=some .aj)(h:CallAt Tryz.prog f K xs (σ.set i (b',cs'.set k (.af e [])))):CallAt Tryz.prog f K xs σ:=
 .mk [] K ⟨(xU h).1,fun F w vs bU aF=>(xU h).2 F w vs bU (SY aF e hi hk)⟩ fun _ _ h=>h
theorem Cv{b off len es:Nat}{e:Sh}{l:List e.T}{xs ys:List AV}(h:ew b off len es e l (.tup xs) (.tup ys))(hl:ys.all AV.leaf=true):ew b off len es e l (.agg xs) (.agg ys):=by
 cases h with
 |refl=>exact .refl _
 |tup _ _ h1 h2=>exact .agg _ _ h1 (fun i y hy=>fk.1 hl y (cq hy)) h2
end Go.Proofs.YtnikdflhefijbaaGreat
