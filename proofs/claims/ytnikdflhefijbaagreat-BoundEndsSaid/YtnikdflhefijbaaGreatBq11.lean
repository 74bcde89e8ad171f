import Derived.Test.YtnikdflhefijbaaGreatBq10
import Derived.Test.YtnikdflhefijbaaGreatBq8
namespace Go.Proofs.YtnikdflhefijbaaGreat
open Go.RowKit
set_option maxRecDepth 100000
def XE(p:Prop)(σ:Hp):AV→Hp→Prop:=fun r σ'=>∃b:Bool,r=.bool b∧σ'=σ∧(b=true→p)
theorem aiw{P:Program}{f:FuncId}{xs:List AV}{σ:Hp}{K:AV→Hp→Prop}(js:List Nat){p:Prop}{σ2:Hp}(h:ACalls P f xs (oX js σ) (XE p σ2))(k1:p→K (.bool true) σ2)(k2:K (.bool false) σ2):CallAt P f K xs σ:=
 .mk js _ h fun r σ' ⟨b,h1,h2,h3⟩=>by subst h1 h2;cases b;exact k2;exact k1 (h3 rfl)
structure W7(s:Sy):Prop where
 tl:s.T.length≤8
 el:s.aN.length≤16
 nl:s.entry.length≤10
 il:s.init.length≤20
 ts:∀t∈s.T,t.1.length≤4∧t.2.1.length≤4∧t.2.2.1.length≤6
 sz:(s.n≤7∧s.w≤10)∨256<s.n∨1024<s.w
theorem aee(s:Sy)(σ:Hp):ACalls Tryz.prog 28 [.agg (cc s)] σ (XE (W7 s) σ):=by
 refine ay Tryz.func28 ?_;intro aF;refine aa 0 ?_;refine ao (fun c2=>?_) (fun c2=>?_)
 ·have c2:7<s.n:=c2;refine aa 0 ?_;refine ao (fun c3=>?_) (fun c3=>?_)
  ·have c3:s.n≤256:=c3;refine aa 0 ?_;refine ao (fun c4=>?_) (fun c4=>?_)
   ·exact .drop 0 1 (.done ⟨false,rfl,rfl,fun h=>by cases h⟩)
   ·have c4:¬(s.w≤1024):=c4;refine aa 0 ?_;refine ao (fun c5=>?_) (fun c5=>?_)
    ·exact .drop 0 1 (.done ⟨false,rfl,rfl,fun h=>by cases h⟩)
    ·have c5:¬(8<(↑s.T.length:Int)):=c5;refine aa 0 ?_;refine ao (fun c6=>?_) (fun c6=>?_)
     ·exact .drop 0 1 (.done ⟨false,rfl,rfl,fun h=>by cases h⟩)
     ·have c6:¬(16<(↑s.aN.length:Int)):=c6;refine aa 0 ?_;refine ao (fun c7=>?_) (fun c7=>?_)
      ·exact .drop 0 1 (.done ⟨false,rfl,rfl,fun h=>by cases h⟩)
      ·have c7:¬(10<(↑s.entry.length:Int)):=c7;refine aa 0 ?_;refine ao (fun c8=>?_) (fun c8=>?_)
       ·exact .drop 0 1 (.done ⟨false,rfl,rfl,fun h=>by cases h⟩)
       ·have c8:¬(20<(↑s.init.length:Int)):=c8;refine aa 0 ?_;refine ca (S:=Nat) (fun k=>[(48,.ah mC s.T),(49,.int .i64 s.T.length),(50,.int .i64 k)]) (fun _=>(aF,cc s)::σ) (fun k=>k≤s.T.length∧∀t∈s.T.take k,t.1.length≤4∧t.2.1.length≤4∧t.2.2.1.length≤6) (fun k=>s.T.length-k) 0 ⟨⟨bC _,fun t h=>by cases h⟩,⟨rfl,rfl,rfl,trivial⟩,rfl⟩ ?_;rintro k g ⟨aP,lR⟩;have hk:k≤s.T.length:=aP;have ht:∀t∈s.T.take k,t.1.length≤4∧t.2.1.length≤4∧t.2.2.1.length≤6:=lR;clear aP lR;refine ao (fun ab=>?_) (fun au=>?_)
        ·have ab:k<s.T.length:=by have ab:(k:Int)<s.T.length:=ab;omega
         have iK:s.T.take (k+1)=s.T.take k++[s.T[k]]:=ft ab;obtain⟨t,fZ⟩:∃t:mZ,s.T[k]=t:=⟨_,rfl⟩
         rw[fZ]at iK;refine aJ.mk rfl (bO.mk t (by omega) ((get_some ab).trans (congrArg some fZ)) ?_);intro dJ;refine aj 0 ?_;refine aa 0 ?_;refine ao (p:=4<(t.1.length:Int)) (fun d1=>?_) (fun d1=>?_)
         ·exact .drop 0 2 (.done ⟨false,rfl,rfl,fun h=>by cases h⟩)
         ·refine aa 0 ?_;refine ao (p:=4<(t.2.1.length:Int)) (fun d2=>?_) (fun d2=>?_)
          ·exact .drop 0 2 (.done ⟨false,rfl,rfl,fun h=>by cases h⟩)
          ·refine aa 0 ?_;refine ao (p:=6<(t.2.2.1.length:Int)) (fun d3=>?_) (fun d3=>?_)
           ·exact .drop 0 2 (.done ⟨false,rfl,rfl,fun h=>by cases h⟩)
           ·refine a8 (k+1) (by show s.T.length-(k+1)<s.T.length-k;omega) ⟨ab,fun u hu=>?_⟩ ⟨rfl,rfl,aX (by omega),trivial⟩ (.drop 0 1 (.refl _));rw[iK]at hu
            rcases bY.1 hu with hu | hu
            ·exact ht u hu
            ·rw[bD.1 hu];omega
        ·have au:k=s.T.length:=by have au:¬(k:Int)<s.T.length:=au;omega
         subst au;rw[ga]at ht;exact .drop 0 1 (.done ⟨true,rfl,rfl,fun _=>⟨by omega,by omega,by omega,by omega,ht,by omega⟩⟩)
  ·have c3:¬(s.n≤256):=c3;refine aa 0 ?_;refine ao (fun c9=>?_) (fun c9=>?_)
   ·exact .drop 0 1 (.done ⟨false,rfl,rfl,fun h=>by cases h⟩)
   ·have c9:¬(8<(↑s.T.length:Int)):=c9;refine aa 0 ?_;refine ao (fun km=>?_) (fun km=>?_)
    ·exact .drop 0 1 (.done ⟨false,rfl,rfl,fun h=>by cases h⟩)
    ·have km:¬(16<(↑s.aN.length:Int)):=km;refine aa 0 ?_;refine ao (fun QH=>?_) (fun QH=>?_)
     ·exact .drop 0 1 (.done ⟨false,rfl,rfl,fun h=>by cases h⟩)
     ·have QH:¬(10<(↑s.entry.length:Int)):=QH;refine aa 0 ?_;refine ao (fun xE=>?_) (fun xE=>?_)
      ·exact .drop 0 1 (.done ⟨false,rfl,rfl,fun h=>by cases h⟩)
      ·have xE:¬(20<(↑s.init.length:Int)):=xE;refine aa 0 ?_;refine ca (S:=Nat) (fun k=>[(48,.ah mC s.T),(49,.int .i64 s.T.length),(50,.int .i64 k)]) (fun _=>(aF,cc s)::σ) (fun k=>k≤s.T.length∧∀t∈s.T.take k,t.1.length≤4∧t.2.1.length≤4∧t.2.2.1.length≤6) (fun k=>s.T.length-k) 0 ⟨⟨bC _,fun t h=>by cases h⟩,⟨rfl,rfl,rfl,trivial⟩,rfl⟩ ?_;rintro k g ⟨aP,lR⟩;have hk:k≤s.T.length:=aP;have ht:∀t∈s.T.take k,t.1.length≤4∧t.2.1.length≤4∧t.2.2.1.length≤6:=lR;clear aP lR;refine ao (fun ab=>?_) (fun au=>?_)
       ·have ab:k<s.T.length:=by have ab:(k:Int)<s.T.length:=ab;omega
        have iK:s.T.take (k+1)=s.T.take k++[s.T[k]]:=ft ab;obtain⟨t,fZ⟩:∃t:mZ,s.T[k]=t:=⟨_,rfl⟩
        rw[fZ]at iK;refine aJ.mk rfl (bO.mk t (by omega) ((get_some ab).trans (congrArg some fZ)) ?_);intro dJ;refine aj 0 ?_;refine aa 0 ?_;refine ao (p:=4<(t.1.length:Int)) (fun d1=>?_) (fun d1=>?_)
        ·exact .drop 0 2 (.done ⟨false,rfl,rfl,fun h=>by cases h⟩)
        ·refine aa 0 ?_;refine ao (p:=4<(t.2.1.length:Int)) (fun d2=>?_) (fun d2=>?_)
         ·exact .drop 0 2 (.done ⟨false,rfl,rfl,fun h=>by cases h⟩)
         ·refine aa 0 ?_;refine ao (p:=6<(t.2.2.1.length:Int)) (fun d3=>?_) (fun d3=>?_)
          ·exact .drop 0 2 (.done ⟨false,rfl,rfl,fun h=>by cases h⟩)
          ·refine a8 (k+1) (by show s.T.length-(k+1)<s.T.length-k;omega) ⟨ab,fun u hu=>?_⟩ ⟨rfl,rfl,aX (by omega),trivial⟩ (.drop 0 1 (.refl _));rw[iK]at hu
           rcases bY.1 hu with hu | hu
           ·exact ht u hu
           ·rw[bD.1 hu];omega
       ·have au:k=s.T.length:=by have au:¬(k:Int)<s.T.length:=au;omega
        subst au;rw[ga]at ht;exact .drop 0 1 (.done ⟨true,rfl,rfl,fun _=>⟨by omega,by omega,by omega,by omega,ht,by omega⟩⟩)
 ·have c2:¬(7<s.n):=c2;refine aa 0 ?_;refine ao (fun GV=>?_) (fun GV=>?_)
  ·have GV:10<s.w:=GV;refine aa 0 ?_;refine ao (fun tT=>?_) (fun tT=>?_)
   ·have tT:s.n≤256:=tT;refine aa 0 ?_;refine ao (fun QG=>?_) (fun QG=>?_)
    ·exact .drop 0 1 (.done ⟨false,rfl,rfl,fun h=>by cases h⟩)
    ·have QG:¬(s.w≤1024):=QG;refine aa 0 ?_;refine ao (fun xD=>?_) (fun xD=>?_)
     ·exact .drop 0 1 (.done ⟨false,rfl,rfl,fun h=>by cases h⟩)
     ·have xD:¬(8<(↑s.T.length:Int)):=xD;refine aa 0 ?_;refine ao (fun QF=>?_) (fun QF=>?_)
      ·exact .drop 0 1 (.done ⟨false,rfl,rfl,fun h=>by cases h⟩)
      ·have QF:¬(16<(↑s.aN.length:Int)):=QF;refine aa 0 ?_;refine ao (fun QE=>?_) (fun QE=>?_)
       ·exact .drop 0 1 (.done ⟨false,rfl,rfl,fun h=>by cases h⟩)
       ·have QE:¬(10<(↑s.entry.length:Int)):=QE;refine aa 0 ?_;refine ao (fun QD=>?_) (fun QD=>?_)
        ·exact .drop 0 1 (.done ⟨false,rfl,rfl,fun h=>by cases h⟩)
        ·have QD:¬(20<(↑s.init.length:Int)):=QD;refine aa 0 ?_;refine ca (S:=Nat) (fun k=>[(48,.ah mC s.T),(49,.int .i64 s.T.length),(50,.int .i64 k)]) (fun _=>(aF,cc s)::σ) (fun k=>k≤s.T.length∧∀t∈s.T.take k,t.1.length≤4∧t.2.1.length≤4∧t.2.2.1.length≤6) (fun k=>s.T.length-k) 0 ⟨⟨bC _,fun t h=>by cases h⟩,⟨rfl,rfl,rfl,trivial⟩,rfl⟩ ?_;rintro k g ⟨aP,lR⟩;have hk:k≤s.T.length:=aP;have ht:∀t∈s.T.take k,t.1.length≤4∧t.2.1.length≤4∧t.2.2.1.length≤6:=lR;clear aP lR;refine ao (fun ab=>?_) (fun au=>?_)
         ·have ab:k<s.T.length:=by have ab:(k:Int)<s.T.length:=ab;omega
          have iK:s.T.take (k+1)=s.T.take k++[s.T[k]]:=ft ab;obtain⟨t,fZ⟩:∃t:mZ,s.T[k]=t:=⟨_,rfl⟩
          rw[fZ]at iK;refine aJ.mk rfl (bO.mk t (by omega) ((get_some ab).trans (congrArg some fZ)) ?_);intro dJ;refine aj 0 ?_;refine aa 0 ?_;refine ao (p:=4<(t.1.length:Int)) (fun d1=>?_) (fun d1=>?_)
          ·exact .drop 0 2 (.done ⟨false,rfl,rfl,fun h=>by cases h⟩)
          ·refine aa 0 ?_;refine ao (p:=4<(t.2.1.length:Int)) (fun d2=>?_) (fun d2=>?_)
           ·exact .drop 0 2 (.done ⟨false,rfl,rfl,fun h=>by cases h⟩)
           ·refine aa 0 ?_;refine ao (p:=6<(t.2.2.1.length:Int)) (fun d3=>?_) (fun d3=>?_)
            ·exact .drop 0 2 (.done ⟨false,rfl,rfl,fun h=>by cases h⟩)
            ·refine a8 (k+1) (by show s.T.length-(k+1)<s.T.length-k;omega) ⟨ab,fun u hu=>?_⟩ ⟨rfl,rfl,aX (by omega),trivial⟩ (.drop 0 1 (.refl _));rw[iK]at hu
             rcases bY.1 hu with hu | hu
             ·exact ht u hu
             ·rw[bD.1 hu];omega
         ·have au:k=s.T.length:=by have au:¬(k:Int)<s.T.length:=au;omega
          subst au;rw[ga]at ht;exact .drop 0 1 (.done ⟨true,rfl,rfl,fun _=>⟨by omega,by omega,by omega,by omega,ht,by omega⟩⟩)
   ·have tT:¬(s.n≤256):=tT;refine aa 0 ?_;refine ao (fun QC=>?_) (fun QC=>?_)
    ·exact .drop 0 1 (.done ⟨false,rfl,rfl,fun h=>by cases h⟩)
    ·have QC:¬(8<(↑s.T.length:Int)):=QC;refine aa 0 ?_;refine ao (fun QB=>?_) (fun QB=>?_)
     ·exact .drop 0 1 (.done ⟨false,rfl,rfl,fun h=>by cases h⟩)
     ·have QB:¬(16<(↑s.aN.length:Int)):=QB;refine aa 0 ?_;refine ao (fun QA=>?_) (fun QA=>?_)
      ·exact .drop 0 1 (.done ⟨false,rfl,rfl,fun h=>by cases h⟩)
      ·have QA:¬(10<(↑s.entry.length:Int)):=QA;refine aa 0 ?_;refine ao (fun Qz=>?_) (fun Qz=>?_)
       ·exact .drop 0 1 (.done ⟨false,rfl,rfl,fun h=>by cases h⟩)
       ·have Qz:¬(20<(↑s.init.length:Int)):=Qz;refine aa 0 ?_;refine ca (S:=Nat) (fun k=>[(48,.ah mC s.T),(49,.int .i64 s.T.length),(50,.int .i64 k)]) (fun _=>(aF,cc s)::σ) (fun k=>k≤s.T.length∧∀t∈s.T.take k,t.1.length≤4∧t.2.1.length≤4∧t.2.2.1.length≤6) (fun k=>s.T.length-k) 0 ⟨⟨bC _,fun t h=>by cases h⟩,⟨rfl,rfl,rfl,trivial⟩,rfl⟩ ?_;rintro k g ⟨aP,lR⟩;have hk:k≤s.T.length:=aP;have ht:∀t∈s.T.take k,t.1.length≤4∧t.2.1.length≤4∧t.2.2.1.length≤6:=lR;clear aP lR;refine ao (fun ab=>?_) (fun au=>?_)
        ·have ab:k<s.T.length:=by have ab:(k:Int)<s.T.length:=ab;omega
         have iK:s.T.take (k+1)=s.T.take k++[s.T[k]]:=ft ab;obtain⟨t,fZ⟩:∃t:mZ,s.T[k]=t:=⟨_,rfl⟩
         rw[fZ]at iK;refine aJ.mk rfl (bO.mk t (by omega) ((get_some ab).trans (congrArg some fZ)) ?_);intro dJ;refine aj 0 ?_;refine aa 0 ?_;refine ao (p:=4<(t.1.length:Int)) (fun d1=>?_) (fun d1=>?_)
         ·exact .drop 0 2 (.done ⟨false,rfl,rfl,fun h=>by cases h⟩)
         ·refine aa 0 ?_;refine ao (p:=4<(t.2.1.length:Int)) (fun d2=>?_) (fun d2=>?_)
          ·exact .drop 0 2 (.done ⟨false,rfl,rfl,fun h=>by cases h⟩)
          ·refine aa 0 ?_;refine ao (p:=6<(t.2.2.1.length:Int)) (fun d3=>?_) (fun d3=>?_)
           ·exact .drop 0 2 (.done ⟨false,rfl,rfl,fun h=>by cases h⟩)
           ·refine a8 (k+1) (by show s.T.length-(k+1)<s.T.length-k;omega) ⟨ab,fun u hu=>?_⟩ ⟨rfl,rfl,aX (by omega),trivial⟩ (.drop 0 1 (.refl _));rw[iK]at hu
            rcases bY.1 hu with hu | hu
            ·exact ht u hu
            ·rw[bD.1 hu];omega
        ·have au:k=s.T.length:=by have au:¬(k:Int)<s.T.length:=au;omega
         subst au;rw[ga]at ht;exact .drop 0 1 (.done ⟨true,rfl,rfl,fun _=>⟨by omega,by omega,by omega,by omega,ht,by omega⟩⟩)
  ·have GV:¬(10<s.w):=GV;refine aa 0 ?_;refine ao (fun Qy=>?_) (fun Qy=>?_)
   ·exact .drop 0 1 (.done ⟨false,rfl,rfl,fun h=>by cases h⟩)
   ·have Qy:¬(8<(↑s.T.length:Int)):=Qy;refine aa 0 ?_;refine ao (fun Qx=>?_) (fun Qx=>?_)
    ·exact .drop 0 1 (.done ⟨false,rfl,rfl,fun h=>by cases h⟩)
    ·have Qx:¬(16<(↑s.aN.length:Int)):=Qx;refine aa 0 ?_;refine ao (fun Qw=>?_) (fun Qw=>?_)
     ·exact .drop 0 1 (.done ⟨false,rfl,rfl,fun h=>by cases h⟩)
     ·have Qw:¬(10<(↑s.entry.length:Int)):=Qw;refine aa 0 ?_;refine ao (fun Qv=>?_) (fun Qv=>?_)
      ·exact .drop 0 1 (.done ⟨false,rfl,rfl,fun h=>by cases h⟩)
      ·have Qv:¬(20<(↑s.init.length:Int)):=Qv;refine aa 0 ?_;refine ca (S:=Nat) (fun k=>[(48,.ah mC s.T),(49,.int .i64 s.T.length),(50,.int .i64 k)]) (fun _=>(aF,cc s)::σ) (fun k=>k≤s.T.length∧∀t∈s.T.take k,t.1.length≤4∧t.2.1.length≤4∧t.2.2.1.length≤6) (fun k=>s.T.length-k) 0 ⟨⟨bC _,fun t h=>by cases h⟩,⟨rfl,rfl,rfl,trivial⟩,rfl⟩ ?_;rintro k g ⟨aP,lR⟩;have hk:k≤s.T.length:=aP;have ht:∀t∈s.T.take k,t.1.length≤4∧t.2.1.length≤4∧t.2.2.1.length≤6:=lR;clear aP lR;refine ao (fun ab=>?_) (fun au=>?_)
       ·have ab:k<s.T.length:=by have ab:(k:Int)<s.T.length:=ab;omega
        have iK:s.T.take (k+1)=s.T.take k++[s.T[k]]:=ft ab;obtain⟨t,fZ⟩:∃t:mZ,s.T[k]=t:=⟨_,rfl⟩
        rw[fZ]at iK;refine aJ.mk rfl (bO.mk t (by omega) ((get_some ab).trans (congrArg some fZ)) ?_);intro dJ;refine aj 0 ?_;refine aa 0 ?_;refine ao (p:=4<(t.1.length:Int)) (fun d1=>?_) (fun d1=>?_)
        ·exact .drop 0 2 (.done ⟨false,rfl,rfl,fun h=>by cases h⟩)
        ·refine aa 0 ?_;refine ao (p:=4<(t.2.1.length:Int)) (fun d2=>?_) (fun d2=>?_)
         ·exact .drop 0 2 (.done ⟨false,rfl,rfl,fun h=>by cases h⟩)
         ·refine aa 0 ?_;refine ao (p:=6<(t.2.2.1.length:Int)) (fun d3=>?_) (fun d3=>?_)
          ·exact .drop 0 2 (.done ⟨false,rfl,rfl,fun h=>by cases h⟩)
          ·refine a8 (k+1) (by show s.T.length-(k+1)<s.T.length-k;omega) ⟨ab,fun u hu=>?_⟩ ⟨rfl,rfl,aX (by omega),trivial⟩ (.drop 0 1 (.refl _));rw[iK]at hu
           rcases bY.1 hu with hu | hu
           ·exact ht u hu
           ·rw[bD.1 hu];omega
       ·have au:k=s.T.length:=by have au:¬(k:Int)<s.T.length:=au;omega
        subst au;rw[ga]at ht;exact .drop 0 1 (.done ⟨true,rfl,rfl,fun _=>⟨by omega,by omega,by omega,by omega,ht,by omega⟩⟩)
theorem ahj{s:Sy}(h:W7 s)(hi:bh s.init)(ht:∀t∈s.T,bh t.1∧bh t.2.1):Fit s:=by
 obtain⟨h1,h2,h3,h4,h5,_⟩:=h;exact⟨hi,by omega,by omega,by omega,by omega,fun t hm=>⟨(ht t hm).1,(ht t hm).2,by have:=h5 t hm;omega,by have:=h5 t hm;omega,by have:=h5 t hm;omega⟩⟩
theorem Ng{f:FuncId}{xs:List AV}{σ:Hp}{K:AV→Hp→Prop}(i k b':Nat)(cs':List AV)(e:Sh)(hi:σ[i]?=some (b',cs'))(hk:cs'[k]?=some .an)(h:CallAt Tryz.prog f K xs (σ.set i (b',cs'.set k (.ah e [])))):CallAt Tryz.prog f K xs σ:=
 .mk [] K ⟨(Hl h).1,fun F w vs bP aG=>(Hl h).2 F w vs bP (Vz aG e hi hk)⟩ fun _ _ h=>h
theorem Nc{b off len es:Nat}{e:Sh}{l:List e.T}{xs ys:List AV}(h:fm b off len es e l (.tup xs) (.tup ys))(hl:ys.all AV.leaf=true):fm b off len es e l (.agg xs) (.agg ys):=by
 cases h with
 |refl=>exact .refl _
 |tup _ _ h1 h2=>exact .agg _ _ h1 (fun i y hy=>fG.1 hl y (bU hy)) h2
def ns(s:Sy):Nat→List (List Int)→Nat→List (List Int)×Nat
 | 0,a,k=>(a,k)
 |m+1,a,k=>if a=gW s a then (a,k) else ns s m (gW s a) (k+1)
theorem SB{s:Sy}{a:List (List Int)}(m k:Nat)(h:a=gW s a):ns s m a k=(a,k):=by
 cases m with
 |zero=>rfl
 |succ m=>exact af h
theorem Vh{s:Sy}{a:List (List Int)}(m k:Nat)(h:¬a=gW s a):ns s (m+1) a k=ns s m (gW s a) (k+1):=ag h
theorem Lv{s:Sy}(hg:Good s):kW s (nQ s):=by
 refine⟨by rw[QO];have:=hg.n1;omega,fun x hx=>?_⟩;rw[(Qc.1 hx).2];exact⟨IB hg.sr,IZ _ _⟩
def uc(s:Sy):Int:=s.n*dN s.what s.w+1
theorem HE(what w:Int):0≤dN what w∧dN what w≤2048:=by
 unfold dN;split
 ·rename_i h
  unfold cO at h;simp at h;split <;> omega
 ·omega
theorem Tl{s:Sy}(hg:Good s):IntKind.i64.wrap (IntKind.i64.wrap (s.n*dN s.what s.w)+1)=uc s∧0≤uc s∧uc s≤1000000:=by
 have h1:=hg.n1;have h2:=hg.n2;have h3:=HE s.what s.w;have h4:s.n*dN s.what s.w≤256*2048:=Int.mul_le_mul h2 h3.2 h3.1 (by decide);have h5:0≤s.n*dN s.what s.w:=Int.mul_nonneg (by omega) h3.1;unfold uc;rw[cC (n:=s.n*dN s.what s.w) (by omega),cC (by omega)];omega
def kU(s:Sy):List (List Int)×Nat:=ns s (uc s).toNat (nQ s) 0
theorem aek(what w:Int)(σ:Hp):ACalls Tryz.prog 126 [.int .i64 what,.int .i64 w] σ (aC (.int .i64 (dN what w)) σ):=by
 refine ay Tryz.func126 ?_;refine eY [] (O1 what w _) (fun c0=>?_) (fun c0=>?_)
 ·refine ao (fun c1=>?_) (fun c1=>?_)
  ·have c1:what=3:=c1;exact .done ⟨aT (by unfold cO at c0;simp at c0;unfold dN;rw[if_pos (qP (by omega)),if_pos c1,cC (by omega)]),rfl⟩
  ·have c1:¬(what=3):=c1;exact .done ⟨aT (by unfold dN;rw[af c0,ag c1]),rfl⟩
 ·exact .done ⟨aT (by unfold dN;rw[c0];rfl),rfl⟩
def uH(n:Nat)(f:Nat→Nat):Nat:=((List.range n).map f).sum
theorem LQ(n:Nat)(f:Nat→Nat):uH (n+1) f=uH n f+f n:=by unfold uH;rw[List.range_succ,List.map_append,List.sum_append];simp
theorem LR{f g:Nat→Nat}:∀n,(∀i,i<n→f i≤g i)→uH n f≤uH n g∧(uH n f=uH n g→∀i,i<n→f i=g i)
 | 0,_=>⟨aQ _,fun _ i h=>absurd h (oJ i)⟩
 |n+1,h=>by
  obtain⟨h1,h2⟩:=LR n fun i hi=>h i (by omega);have h3:=h n (by omega);rw[LQ,LQ];refine⟨by omega,fun e i hi=>?_⟩
  by_cases eE:i=n
  ·subst eE;omega
  ·exact h2 (by omega) i (by omega)
theorem Ig{f:Nat→Nat}{c:Nat}:∀n,(∀i,i<n→f i≤c)→uH n f≤n*c
 | 0,_=>bC _
 |n+1,h=>by
  have h1:=Ig n fun i hi=>h i (by omega);have h2:=h n (by omega);rw[LQ,oH];omega
def FL(b:Bool):Nat:=if b=true then 1 else 0
def J9(z:Int):Nat:=if z=0 then 0 else if z=1 then 2 else 1
def rz(what:Int)(x:List Int)(j:Nat):Nat:=if what=3 then J9 (wd x j) else if what=1 then FL (eC x (j / 64) (j % 64)) else FL (!eC x (j / 64) (j % 64))
def sZ(what w:Int)(x:List Int):Nat:=uH w.toNat (rz what x)
theorem VA{w:Int}{a b:List Int}(h:dG 3 w a b){i:Nat}(hi:i<a.length):wd a i=wd b i∨wd a i=0∨wd b i=1:=by
 have hl:=vS h.1.v h.2.1.v;have va:=((ka (nk h.1.v) rfl).1 h.1.v).2;have vb:=((ka (nk h.1.v) rfl).1 h.2.1.v).2;have:=vT va vb hi (by omega);rw[h.2.2]at this;unfold jn at this;split at this
 ·exact .inl this.symm
 ·split at this
  ·rename_i h0;exact .inr (.inl h0)
  ·exact .inr (.inr this)
theorem afu{what w:Int}(hs:what=1∨what=2){a b:List Int}(h:dG what w a b){i k:Nat}(hi:i<a.length):jK what (eC a i k) (eC b i k)=eC b i k:=by
 have hl:=vS h.1.v h.2.1.v;rw[← pR hs h.1.cC h.2.1.cC hl i k hi,h.2.2]
theorem agM{what w:Int}{a b:List Int}(h:dG what w a b){j:Nat}(hj:j<w.toNat):rz what a j≤rz what b j:=by
 have hi:=nk h.1.v
 by_cases h3:what=3
 ·subst h3;have hl:=((ka hi rfl).1 h.1.v).1;unfold rz J9;rw[af rfl,af rfl]
  rcases VA h (i:=j) (by omega) with e | e | e
  ·rw[e];exact aQ _
  ·rw[af e];exact bC _
  ·rw[e];rw[ag (show ¬(1:Int)=0 by decide),af rfl];split
   ·omega
   ·split <;> omega
 ·have hs:=IQ hi h3;have hla:=oT ((qL hi h3).1 h.1.v);have hw:eI w=w.toNat:=by unfold cO at hi;simp at hi;unfold eI;omega
  have ab:j / 64<a.length:=by rw[hla];unfold ef;omega
  have hb:=afu hs h (k:=j % 64) ab;unfold rz FL;rw[ag h3,ag h3];unfold jK at hb
  rcases hs with rfl | rfl
  ·rw[af rfl,af rfl];rw[af rfl]at hb;revert hb;cases eC a (j / 64) (j % 64) <;> cases eC b (j / 64) (j % 64) <;> simp
  ·rw[ag (show ¬(2:Int)=1 by decide),ag (show ¬(2:Int)=1 by decide)];rw[ag (show ¬(2:Int)=1 by decide)]at hb;revert hb;cases eC a (j / 64) (j % 64) <;> cases eC b (j / 64) (j % 64) <;> simp
theorem agN{what w:Int}{a b:List Int}(h:dG what w a b)(he:∀j,j<w.toNat→rz what a j=rz what b j):a=b:=by
 have hi:=nk h.1.v;have hl:=vS h.1.v h.2.1.v;refine DV h.1 h.2.1 (fun h3 i ab=>?_) (fun hs i k ab hk=>?_)
 ·subst h3;have hw:=((ka hi rfl).1 h.1.v).1;have:=he i (by omega);unfold rz J9 at this;rw[af rfl,af rfl]at this
  rcases VA h ab with e | e | e
  ·exact e
  ·rw[af e]at this;split at this
   ·omega
   ·split at this <;> omega
  ·rw[e,ag (show ¬(1:Int)=0 by decide),af rfl]at this;split at this
   ·omega
   ·split at this
    ·omega
    ·omega
 ·have h3:¬what=3:=by omega
  have fa:=(qL hi h3).1 h.1.v;have fb:=(qL hi h3).1 h.2.1.v;have hw:eI w=w.toNat:=by unfold cO at hi;simp at hi;unfold eI;omega
  by_cases hc:64*i+k<eI w
  ·have:=he (64*i+k) (by omega);unfold rz FL at this;rw[ag h3,ag h3,show (64*i+k) / 64=i by omega,show (64*i+k) % 64=k by omega]at this;revert this;split <;> cases eC a i k <;> cases eC b i k <;> simp
  ·rw[(rU h.1.cC (oT fa)).1 fa i k ab hk (by omega),(rU h.2.1.cC (oT fb)).1 fb i k (by omega) hk (by omega)]
theorem Rc{what w:Int}(x:List Int)(hi:cO what w=true):(sZ what w x:Int)≤dN what w:=by
 unfold dN sZ;rw[af hi];unfold cO at hi;simp at hi
 by_cases h3:what=3
 ·rw[af h3]
  have:=Ig (f:=rz what x) (c:=2) w.toNat fun i _=>by
   unfold rz J9;rw[af h3];split
   ·omega
   ·split <;> omega
  omega
 ·rw[ag h3]
  have:=Ig (f:=rz what x) (c:=1) w.toNat fun i _=>by
   unfold rz FL;rw[ag h3];split <;> split <;> omega
  omega
theorem MW{what w:Int}{a b:List Int}(h:dG what w a b):sZ what w a≤sZ what w b∧(sZ what w a=sZ what w b→a=b):=by
 have:=LR w.toNat fun j hj=>agM h hj;exact⟨this.1,fun e=>agN h (this.2 e)⟩
def uG(s:Sy)(a:List (List Int)):Nat:=uH s.n.toNat fun v=>sZ s.what s.w (a.getD v [])
theorem aeN{s:Sy}{a b:List (List Int)}(h:mP s a b):uG s a≤uG s b∧(uG s a=uG s b→a=b):=by
 have:=LR (f:=fun v=>sZ s.what s.w (a.getD v [])) (g:=fun v=>sZ s.what s.w (b.getD v [])) s.n.toNat fun v hv=>(MW (h.2.2 v (by omega))).1;refine⟨this.1,fun e=>?_⟩;have la:=h.1.len;have lb:=h.2.1.len;refine C8 (by omega) fun i h1 h2=>?_;have hv:=(MW (h.2.2 i (by omega))).2 (this.2 e i (by omega));rw[aZ,aZ,bB h1,bB h2]at hv;exact hv
theorem Su{s:Sy}(hg:Good s)(a:List (List Int)):(uG s a:Int)≤s.n*dN s.what s.w:=by
 have hh:=HE s.what s.w
 have:=Ig (f:=fun v=>sZ s.what s.w (a.getD v [])) (c:=(dN s.what s.w).toNat) s.n.toNat fun v _=>by
  have:=Rc (a.getD v []) hg.sr;omega
 have hn:=hg.n1
 have e:(s.n.toNat*(dN s.what s.w).toNat:Nat)=s.n*dN s.what s.w:=by
  rw[sJ,lW (by omega),lW hh.1]
 unfold uG;omega
theorem Zx{s:Sy}{i:Nat}(h:(i:Int)<s.n):(nQ s).getD i []=gC s.what s.w:=by
 unfold nQ;rw[aZ,vK,af (by omega)];rfl
theorem Tp{s:Sy}(hg:Good s){a:List (List Int)}(h:kW s a):mP s (nQ s) a:=
 ⟨Lv hg,h,fun i hi=>by rw[Zx hi];exact bot_le (h.get hi)⟩
theorem RG{s:Sy}(hf:Fit s)(hg:Good s):∀(m:Nat) (a:List (List Int)) (k:Nat),mP s a (gW s a)→k≤uG s a→s.n*dN s.what s.w+1≤(k+m:Nat)→
  kW s (ns s m a k).1∧(ns s m a k).1=gW s (ns s m a k).1∧((ns s m a k).2:Int)≤s.n*dN s.what s.w∧∀y,mP s (gW s y) y→mP s a y→mP s (ns s m a k).1 y
 | 0,a,k,h,hk,hm=>by have:=Su hg a;omega
 |m+1,a,k,h,hk,hm=>by
  by_cases e:a=gW s a
  ·rw[SB _ _ e];have:=Su hg a;exact⟨h.1,e,by show ((k:Nat):Int)≤_;omega,fun y _ hy=>hy⟩
  ·rw[Vh _ _ e];have h2:=Sv hf hg h
   have ab:k+1≤uG s (gW s a):=by
    have:=aeN h
    by_cases e2:uG s a=uG s (gW s a)
    ·exact absurd (this.2 e2) e
    ·omega
   obtain⟨q1,q2,q3,q4⟩:=RG hf hg m (gW s a) (k+1) h2 ab (by omega);exact⟨q1,q2,q3,fun y hy hay=>q4 y hy ((Sv hf hg hay).trans hy)⟩
theorem Be{s:Sy}(hf:Fit s)(hg:Good s):kW s (kU s).1∧(kU s).1=gW s (kU s).1∧((kU s).2:Int)≤s.n*dN s.what s.w∧∀y,mP s (gW s y) y→mP s (kU s).1 y:=by
 have hb:=Lv hg;have he:=Tl hg;obtain⟨q1,q2,q3,q4⟩:=RG hf hg (uc s).toNat (nQ s) 0 (Tp hg (Dv hf hg hb)) (bC _) (by unfold uc at he ⊢;omega);exact⟨q1,q2,q3,fun y hy=>q4 y hy (Tp hg hy.2.1)⟩
theorem UY(a b:List (List Int))(σ:Hp)(ha:z8 a):ACalls Tryz.prog 19 [.ah (.slice (.int .u64)) a,.ah (.slice (.int .u64)) b] σ (aC (.bool (decide (a=b))) σ):=by
 refine ay Tryz.func19 ?_;have PL:=ha.1;refine dX (fun c1=>?_) (fun c1=>?_)
 ·have c1:(!decide ((a.length:Int)=(b.length:Int)))=true:=c1;have:a≠b:=by rintro rfl;simp at c1
  exact .done ⟨cY (cf this).symm,rfl⟩
 ·have c1:(!decide ((a.length:Int)=(b.length:Int)))=false:=c1;have hlen:a.length=b.length:=by simp at c1;omega
  refine ca (S:=Nat) (fun k=>[(0,.ah (.slice (.int .u64)) a),(1,.ah (.slice (.int .u64)) b),(12,.int .i64 a.length),(13,.int .i64 k)]) (fun _=>σ) (fun k=>k≤a.length∧a.take k=b.take k) (fun k=>a.length-k) 0 ⟨⟨bC _,rfl⟩,⟨rfl,rfl,rfl,rfl,trivial⟩,rfl⟩ ?_;rintro k g ⟨aP,XT⟩;have hk:k≤a.length:=aP;have fZ:a.take k=b.take k:=XT;clear aP XT;refine ao (fun ab=>?_) (fun au=>?_)
  ·have dR:k<a.length:=by have ab:(k:Int)<a.length:=ab;omega
   have Fp:k<b.length:=by omega
   refine .quiet (by kernel_rfl) ?_;refine aJ.mk rfl (bO.mk a[k] (by omega) (get_some dR) ?_);refine aJ.mk rfl (bO.mk b[k] (by omega) (get_some Fp) ?_);refine IX [] (agJ a[k] b[k] _ (ff (ha.2 _ (cq dR)).2 (by decide))) (fun hx=>?_) (fun hx=>?_)
   ·have ki:a[k]=b[k]:=fP hx;refine a8 (k+1) (by show a.length-(k+1)<a.length-k;omega) ⟨dR,?_⟩ ⟨rfl,rfl,rfl,aX (by omega),trivial⟩ (.refl _);rw[ft dR,ft Fp,fZ,ki]
   ·have:a≠b:=by rintro rfl;exact absurd rfl (qE hx)
    exact .done ⟨cY (cf this).symm,rfl⟩
  ·have au:k=a.length:=by have au:¬(k:Int)<a.length:=au;omega
   subst au
   have:a=b:=by
    rw[ga]at fZ;rw[fZ,hlen,ga]
   exact .done ⟨cY (bu this).symm,rfl⟩
def rr(n:Nat):List Int:=(List.range n).map fun i:Nat=>(i:Int)
theorem Rw(n:Nat):(rr n).length=n:=by simp[rr]
theorem acq(n:Nat):rr (n+1)=rr n++[(n:Int)]:=by unfold rr;rw[sM,cF];rfl
theorem aeJ{n k:Nat}(h:k<n):(rr n)[k]?=some (k:Int):=by unfold rr;rw[fk,vH h];rfl
theorem ahH(n:Nat)(σ:Hp)(hn:n≤1024):ACalls Tryz.prog 245 [.int .i64 n,.ah (.int .i64) (rr n)] σ (aC (.ah (.int .u64) (fv n)) σ):=by
 have jh:eI n=n:=by unfold eI;omega
 have eO:=Bn n;refine ay Tryz.func245 ?_;refine ax [] (WO n _) ?_;refine bf ?_;intro q;refine ca (S:=Nat×Nat) (fun s=>[(0,.int .i64 n),(5,.ae s.2 0 (ef n) 1),(11,.ah (.int .i64) (rr n)),(12,.int .i64 n),(13,.int .i64 s.1)]) (fun s=>(s.2,aR (gh (fv n) s.1))::σ) (fun s=>s.1≤n) (fun s=>n-s.1) (0,q) ⟨bC _,⟨rfl,rfl,rfl,congrArg (fun m:Nat=>AV.int .i64 (m:Int)) (Rw n),rfl,trivial⟩,?_⟩ ?_
 ·show (q,cI [.int .u64 0] (((ef n:Nat):Int)).toNat)::σ=(q,aR (gh (fv n) 0))::σ;rw[HQ,nM,bG,x7]
 rintro⟨k,b⟩ g aP;have hk:k≤n:=aP;clear aP;refine ao (fun ab=>?_) (fun au=>?_)
 ·have ab:k<n:=by have ab:(k:Int)<n:=ab;omega
  refine aJ.mk rfl (bO.mk (k:Int) (by omega) (by rw[bG];exact aeJ ab) ?_);refine ax [] (VV n _) ?_;refine ao (p:=(k:Int)<(eI n:Int)) (fun _=>?_) (fun h=>?_);rotate_left
  ·exact absurd (by omega) h
  have hi:k / 64<ef n:=by unfold ef;omega
  refine .mk [] _ (NH (gh (fv n) k) k b (ef n) σ (by rw[qJ,nM]) (by omega) hi) ?_;rintro _ _ ⟨b2,rfl,rfl⟩;refine a8 (k+1,b2) (by show n-(k+1)<n-k;omega) ab ⟨rfl,rfl,rfl,rfl,aX (by omega),trivial⟩ (.drop 1 1 (aL ?_));rw[S9 n (by omega)];rfl
 ·have au:k=n:=by have au:¬(k:Int)<n:=au;omega
  subst au;have hc:=UH k;rw[jh]at hc;rw[hc];exact .cN 0 b 0 (ef k) 1 _ (.int .u64) (fv k) rfl (by rw[List.drop_zero,← lA];exact List.take_of_length_le (by simp[aR,nM])) ⟨nM k,rfl,by decide⟩ .here (.done ⟨rfl,rfl⟩)
theorem ael(n:Nat)(σ:Hp)(hn:n≤1024):ACalls Tryz.prog 196 [.int .i64 n] σ (aC (.ah (.int .u64) (fv n)) σ):=by
 refine ay Tryz.func196 ?_;refine .wrap 3 _ rfl rfl ?_;refine ca (S:=Nat×AV×Hp) (fun s=>[(0,.int .i64 n),(3,.via s.2.1),(4,.int .i64 s.1)]) (fun s=>s.2.2++σ) (fun s=>s.1≤n∧Acc 1 s.1 s.2.1 s.2.2 (ai (rr s.1))) (fun s=>n-s.1) (0,.an,[]) ⟨⟨bC _,.nil⟩,⟨rfl,rfl,rfl,trivial⟩,rfl⟩ ?_;rintro⟨k,v,acc⟩ g ⟨aP,ig⟩;have hk:k≤n:=aP;have cj:Acc 1 k v acc (ai (rr k)):=ig;clear aP ig;refine ao (fun ab=>?_) (fun au=>?_)
 ·have ab:k<n:=by have ab:(k:Int)<n:=ab;omega
  intro aF;refine iC [_] cj (.ae 0 aF 0 1 _ rfl (cy rfl)) rfl (by omega) (by decide) (by decide) (fun v' aY h'=>?_);refine a8 (k+1,v',aY) (by show n-(k+1)<n-k;omega) ⟨ab,?_⟩ ⟨rfl,rfl,aX (by omega),trivial⟩ (.drop 0 1 (aL rfl));show Acc 1 (k+1) v' aY (ai (rr (k+1)));rw[acq,ai,cF];exact h'
 ·have au:k=n:=by have au:¬(k:Int)<n:=au;omega
  subst au;have hO:=fun σ=>ahH k σ hn;generalize hU:rr k=U at cj hO;have hlU:U.length=k:=by rw[← hU];exact Rw k
  generalize hC:ai U=C at cj;cases cj with
  |nil=>
   have hU0:U=[]:=iz.1 hlU;rw[hU0]at hO;refine ax [] (aam (eF (.refl _) (eF (.nil _) zE)) (hO _)) ?_;exact .done ⟨rfl,rfl⟩
  |ae b k cs h=>
   refine .cN (args':=[.int .i64 k,.ah (.int .i64) U]) 0 b 0 k 1 _ (.int .i64) U rfl (by rw[gR,← vW,hC];exact eR (by omega)) ⟨hlU,rfl,by decide⟩ (eF (.refl _) (eF .here zE)) (ax [] (hO _) ?_);exact .done ⟨rfl,rfl⟩
theorem Sd(what w:Int)(σ:Hp)(hi:cO what w=true):ACalls Tryz.prog 145 [.int .i64 what,.int .i64 w] σ (aC (.ah (.int .u64) (gC what w)) σ):=by
 refine ay Tryz.func145 ?_;have hw:=Ba what w;refine ax [] (sS (O1 what w _) (cY hi)) ?_;refine ao (p:=what=2) (fun c=>?_) (fun c=>?_)
 ·have fq:=hi;unfold cO at fq;simp at fq;obtain⟨n,rfl⟩:∃n:Nat,w=n:=⟨w.toNat,by omega⟩
  refine ax [] (ael n _ (by omega)) ?_;exact .done ⟨by rw[show gC what (n:Int)=fv n from af ⟨c,hi⟩];rfl,rfl⟩
 ·refine ax [] (ac8 what w _) ?_;refine bf ?_;intro b;have e:gC what w=List.replicate (eG what w).toNat 0:=ag fun h=>c h.1;rw[e];show Fin _ (.ae b 0 (eG what w).toNat 1) ((b,cI [.int .u64 0] (eG what w).toNat)::σ);rw[x7];have hl:(List.replicate (eG what w).toNat (0:Int)).length=(eG what w).toNat:=fQ;generalize List.replicate (eG what w).toNat (0:Int)=Z at hl;refine .cN 0 b 0 (eG what w).toNat 1 _ (.int .u64) Z rfl ?_ ⟨hl,rfl,by decide⟩ .here (.done ⟨rfl,rfl⟩);rw[gR,← lA];exact eR (by rw[aR,bX,hl];omega)
theorem ac9(s:Sy)(v:Int)(σ:Hp)(hf:Fit s)(hg:Good s):ACalls Tryz.prog 82 [.agg (cc s),.int .i64 v] σ (aC (.ah (.int .u64) (gJ s v)) σ):=by
 refine ay Tryz.func82 ?_;intro aF;refine aa 0 ?_;refine eY [] (ajQ s.entry v _ (ff hf.Cc (by decide))) (fun c=>?_) (fun c=>?_)
 ·intro dJ;have hle:=hf.Fi;refine aa 1 ?_;refine AppendAt.more 0 dJ 0 s.init.length [] _ rfl rfl (cy rfl) (.ah (.int .u64) s.init rfl) (by omega) (by decide) (by decide) (fun b=>?_);have e:gJ s v=s.init:=by unfold gJ;rw[c];rfl
  rw[e];refine .cN 0 b 0 (0+s.init.length) 1 _ (.int .u64) s.init rfl ?_ ⟨(dI _).symm,rfl,by decide⟩ .here (.drop 0 1 (.done ⟨rfl,rfl⟩));rw[gR];refine eR ?_;have:=xH (fun d=>Sh.tW (.int .u64) d) s.init;simp only[List.take_nil,vD];rw[this];show s.init.length*1≤(0+s.init.length)*1;omega
 ·refine aa 0 ?_;refine aa 0 ?_;refine ax [] (Sd s.what s.w _ hg.sr) ?_;exact .drop 0 1 (.done ⟨by unfold gJ;rw[c];rfl,rfl⟩)
theorem agf(s:Sy)(v:Nat)(x:List Int)(σ:Hp)(hf:Fit s)(hg:Good s)(hv:(v:Int)<s.n)(hx:eS s.what s.w x):ACalls Tryz.prog 170 [.agg (cc s),.int .i64 v,.ah (.int .u64) x] σ (aC (.ah (.int .u64) (iS s x v)) σ):=by
 refine ay Tryz.func170 ?_;intro aF;obtain⟨hT,PR⟩:=Jr hg hv;have ht:=hf.ts _ (cq hT);have hc:=hg.FH _ (cq hT);have hl:=Hs hx.v;refine .quiet (by kernel_rfl) ?_;refine aa 0 ?_;refine aa 0 ?_;refine aJ.mk rfl (bO.mk s.T[v] (by omega) (by rw[bG];exact bB hT) ?_);refine aK [] (agh s.what s.T[v].1 s.T[v].2.1 s.T[v].2.2.1 x _ ht.1 ht.2.1 hx.cC ht.2.2.1 ht.2.2.2.1 (by omega) (ff ht.2.2.2.2 (by decide)) (fun h3=>by rw[Ss hx.v h3];exact (MN hc h3).2.2)) ?_;exact .drop 0 1 (.done ⟨by unfold iS;rw[PR];rfl,rfl⟩)
theorem aao(s:Sy)(σ:Hp)(hg:Good s):ACalls Tryz.prog 124 [.agg (cc s)] σ (aC (.ah (.slice (.int .u64)) (nQ s)) σ):=by
 refine ay Tryz.func124 ?_;intro aF;obtain⟨N,hN⟩:∃N:Nat,s.n=N:=⟨s.n.toNat,by have:=hg.n1;omega⟩
 have hN2:=hg.n2;refine .wrap 3 _ rfl rfl ?_;refine ca (S:=Nat×AV×Hp) (fun x=>[(1,.ptr aF 0),(3,.via x.2.1),(4,.int .i64 x.1)]) (fun x=>(aF,cc s)::(x.2.2++σ)) (fun x=>x.1≤N∧Acc 1 x.1 x.2.1 x.2.2 (wZ (List.replicate x.1 (gC s.what s.w)))) (fun x=>N-x.1) (0,.an,[]) ⟨⟨bC _,.nil⟩,⟨rfl,rfl,rfl,trivial⟩,rfl⟩ ?_;rintro⟨k,v,acc⟩ g ⟨aP,ig⟩;have hk:k≤N:=aP;have cj:Acc 1 k v acc (wZ (List.replicate k (gC s.what s.w))):=ig;clear aP ig;refine aa 0 ?_;refine ao (p:=(k:Int)<s.n) (fun ab=>?_) (fun au=>?_)
 ·have ab:k<N:=by omega
  refine aa 0 ?_;refine aa 0 ?_;refine ax [] (Sd s.what s.w _ hg.sr) ?_;intro dJ;refine iC [_,_] cj (.ae 0 dJ 0 1 _ rfl (cy rfl)) rfl (by omega) (by decide) (by decide) (fun v' aY h'=>?_);refine a8 (k+1,v',aY) (by show N-(k+1)<N-k;omega) ⟨ab,?_⟩ ⟨rfl,rfl,aX (by omega),trivial⟩ (.drop 0 1 (aL rfl));show Acc 1 (k+1) v' aY (wZ (List.replicate (k+1) (gC s.what s.w)));rw[List.replicate_succ',wZ,cF];exact h'
 ·have au:k=N:=by omega
  subst au;refine rX (s:=.slice (.int .u64)) (l:=nQ s) [_] cj ?_ ?_ (by decide) (.drop 0 1 (.done ⟨rfl,rfl⟩))
  ·exact ((QO s).trans (by rw[hN];omega)).symm
  ·rw[← Md];unfold nQ;rw[hN,bG]
theorem aeh(s:Sy)(a:List (List Int))(σ:Hp)(hf:Fit s)(hg:Good s)(ha:kW s a):ACalls Tryz.prog 125 [.agg (cc s),.ah (.slice (.int .u64)) a] σ (aC (.ah (.slice (.int .u64)) (gW s a)) σ):=by
 refine ay Tryz.func125 ?_;intro aF;obtain⟨N,hN⟩:∃N:Nat,s.n=N:=⟨s.n.toNat,by have:=hg.n1;omega⟩
 have hN2:=hg.n2;have AA:=hg.el;have FX:=ha.len;refine .wrap 5 _ rfl rfl ?_;refine ca (S:=Nat×AV×Hp) (fun x=>[(1,.ah (.slice (.int .u64)) a),(2,.ptr aF 0),(5,.via x.2.1),(6,.int .i64 x.1)]) (fun x=>(aF,cc s)::(x.2.2++σ)) (fun x=>x.1≤N∧Acc 1 x.1 x.2.1 x.2.2 (wZ ((List.range x.1).map (jT s a s.aN.length)))) (fun x=>N-x.1) (0,.an,[]) ⟨⟨bC _,.nil⟩,⟨rfl,rfl,rfl,rfl,trivial⟩,rfl⟩ ?_;rintro⟨v,av,acc⟩ g ⟨aP,ig⟩;have hv:v≤N:=aP;have cj:Acc 1 v av acc (wZ ((List.range v).map (jT s a s.aN.length))):=ig;clear aP ig;refine aa 0 ?_;refine ao (p:=(v:Int)<s.n) (fun ab=>?_) (fun au=>?_)
 ·have ab:v<N:=by omega
  refine aa 0 ?_;refine ax [] (ac9 s v _ hf hg) ?_;refine aa 0 ?_;refine ca (S:=Nat) (fun k=>[(1,.ah (.slice (.int .u64)) a),(2,.ptr aF 0),(5,.via av),(6,.int .i64 v),(7,.ah (.int .u64) (jT s a k v)),(20,.ah dO s.aN),(21,.int .i64 s.aN.length),(22,.int .i64 k)]) (fun _=>(aF,cc s)::(acc++σ)) (fun k=>k≤s.aN.length) (fun k=>s.aN.length-k) 0 ⟨bC _,⟨rfl,rfl,rfl,rfl,rfl,rfl,rfl,rfl,trivial⟩,rfl⟩ ?_;intro k t aP;have hk:k≤s.aN.length:=aP;clear aP;refine ao (fun dE=>?_) (fun jF=>?_)
  ·have dE:k<s.aN.length:=by have dE:(k:Int)<s.aN.length:=dE;omega
   have he:=hg.uT _ (cq dE);have Pq:=zk s a dE v;have hV:=Sw hf hg ha v k hk;obtain⟨d,hd⟩:∃d:bE,s.aN[k]=d:=⟨_,rfl⟩
   rw[hd]at he Pq;refine aJ.mk rfl (bO.mk d (by omega) ((get_some dE).trans (congrArg some hd)) ?_);intro dJ;refine aj 0 ?_;refine aa 0 ?_;refine ao (p:=d.2.1=(v:Int)) (fun d1=>?_) (fun d1=>?_)
   ·obtain⟨i,hi⟩:∃i:Nat,d.1=i:=⟨d.1.toNat,by omega⟩
    have pE:i<a.length:=by omega
    have hga:a.getD d.1.toNat []=a[i]:=by rw[hi,bG,aZ,bB pE];rfl
    have Pm:=ha.val _ (cq pE);have ho:=Ij hf hg Pm.cC Pm.v (v:=i) (by omega);have hO:=fun σ=>agf s i a[i] σ hf hg (by omega) Pm;have vm:jT s a (k+1) v=dz s.what (jT s a k v) (iS s a[i] i):=by rw[Pq];unfold wD;rw[af d1,hga,hi,bG]
    rw[← hi]at hO;generalize iS s a[i] i=o at ho hO vm;refine .quiet (by kernel_rfl) ?_;refine aa 1 ?_;refine aa 1 ?_;refine aa 0 ?_;refine aa 0 ?_;refine aJ.mk rfl (bO.mk a[i] (by omega) (by rw[hi,bG];exact bB pE) ?_);refine aK [] (hO _) ?_;refine aK [] (aej s.what (jT s a k v) o _ hV.cC ho.2 (vS hV.v ho.1) (ff (Hs hV.v) (by decide))) ?_;refine a8 (k+1) (by show s.aN.length-(k+1)<s.aN.length-k;omega) dE ⟨rfl,rfl,rfl,rfl,?_,rfl,rfl,aX (by omega),trivial⟩ (.drop 0 1 (.refl _));rw[vm];rfl
   ·have vm:jT s a (k+1) v=jT s a k v:=by rw[Pq];unfold wD;rw[ag d1]
    refine a8 (k+1) (by show s.aN.length-(k+1)<s.aN.length-k;omega) dE ⟨rfl,rfl,rfl,rfl,?_,rfl,rfl,aX (by omega),trivial⟩ (.drop 0 1 (.refl _));rw[vm];rfl
  ·have jF:k=s.aN.length:=by have jF:¬(k:Int)<s.aN.length:=jF;omega
   subst jF;intro dJ;refine iC [_,_] cj (.ae 0 dJ 0 1 _ rfl (cy rfl)) rfl (by omega) (by decide) (by decide) (fun v' aY h'=>?_);refine a8 (v+1,v',aY) (by show N-(v+1)<N-v;omega) ⟨ab,?_⟩ ⟨rfl,rfl,rfl,aX (by omega),trivial⟩ (.drop 0 1 (aL rfl));show Acc 1 (v+1) v' aY (wZ ((List.range (v+1)).map (jT s a s.aN.length)));rw[sM,cF,wZ,cF];exact h'
 ·have au:v=N:=by omega
  subst au;refine rX (s:=.slice (.int .u64)) (l:=gW s a) [_] cj ?_ ?_ (by decide) (.drop 0 1 (.done ⟨rfl,rfl⟩))
  ·exact ((QS s a _).trans (by rw[hN];omega)).symm
  ·rw[← Md];unfold gW EG;rw[hN,bG]
def jA(s:Sy)(v:Int):Int:=if dT s=0 then (if dY s.n v=true then 0 else 1) else dT s
theorem ab9{s:Sy}{v:Int}(h:¬dT s=0):dT s=jA s v:=(ag h).symm
theorem Un{s:Sy}{v:Int}(h:dT s=0)(hv:¬(0≤v∧v<s.n)):1=jA s v:=by unfold jA;rw[af h,ag];rw[lB];exact hv
theorem HB{s:Sy}{v:Int}(h:dT s=0)(hv:0≤v∧v<s.n):0=jA s v:=by unfold jA;rw[af h,af];rw[lB];exact hv
theorem ZX{s:Sy}{v:Int}(h:jA s v=0):Good s∧0≤v∧v<s.n:=by
 unfold jA at h;split at h
 ·rename_i h1
  split at h
  ·rename_i h2;exact⟨Nb h1,lB.1 h2⟩
  ·cases h
 ·rename_i h1;exact absurd h h1
theorem UU(s:Sy)(v:Int)(σ:Hp)(hf:Fit s):ACalls Tryz.prog 211 [.agg (cc s),.int .i64 v] σ (aC (.int .i64 (jA s v)) σ):=by
 refine ay Tryz.func211 ?_;intro aF;refine aa 0 ?_;refine ax [] (HL s _ hf) ?_;refine dX (fun c1=>?_) (fun c1=>?_)
 ·have c1:(!decide (dT s=0))=true:=c1;have c1:¬dT s=0:=by simpa using c1
  exact .drop 0 1 (.done ⟨aT (ab9 c1),rfl⟩)
 ·have c1:(!decide (dT s=0))=false:=c1;have c1:dT s=0:=by simpa using c1
  refine ao (p:=v<0) (fun c2=>?_) (fun c2=>?_)
  ·exact .drop 0 1 (.done ⟨aT (Un c1 (by omega)),rfl⟩)
  ·refine aa 0 ?_;refine ao (p:=s.n≤v) (fun c3=>?_) (fun c3=>?_)
   ·exact .drop 0 1 (.done ⟨aT (Un c1 (by omega)),rfl⟩)
   ·exact .drop 0 1 (.done ⟨aT (HB c1 (by omega)),rfl⟩)
theorem ac4(s:Sy)(v:Int)(σ:Hp)(hf:Fit s):ACalls Tryz.prog 158 [.agg (cc s),.int .i64 v] σ (aC (.tup [.ah (.int .u64) (tA (jA s v) (gJ s v)),.int .i64 (jA s v)]) σ):=by
 refine ay Tryz.func158 ?_;intro aF;refine aa 0 ?_;refine ax [] (UU s v _ hf) ?_;refine dX (fun c1=>?_) (fun c1=>?_)
 ·have c1:(!decide (jA s v=0))=true:=c1;have c1:¬jA s v=0:=by simpa using c1
  exact .nil (eF (.nil _) (.refl _)) (.drop 0 1 (.done ⟨by rw[Ip c1];rfl,rfl⟩))
 ·have c1:(!decide (jA s v=0))=false:=c1;have c1:jA s v=0:=by simpa using c1
  refine aa 0 ?_;refine ax [] (ahx s v _ hf) ?_;exact .drop 0 1 (.done ⟨by rw[Ee c1,c1];rfl,rfl⟩)
def qj(s:Sy)(v:Int)(x:List Int):Int:=if jA s v=0 then (if dg s.what s.w x=true then 0 else 2) else jA s v
theorem ad1{s:Sy}{v:Int}(x:List Int)(h:¬jA s v=0):qj s v x=jA s v:=ag h
theorem Ue{s:Sy}{v:Int}{x:List Int}(h:jA s v=0)(hv:dg s.what s.w x=true):qj s v x=0:=by unfold qj;rw[af h,af hv]
theorem ag7(s:Sy)(v:Int)(x:List Int)(σ:Hp)(hf:Fit s)(hx:bh x)(lx:x.length≤10000):ACalls Tryz.prog 399 [.agg (cc s),.int .i64 v,.ah (.int .u64) x] σ (aC (.tup [.ah (.int .u64) (tA (qj s v x) (iS s x v.toNat)),.int .i64 (qj s v x)]) σ):=by
 refine ay Tryz.func399 ?_;intro aF;refine aa 0 ?_;refine ax [] (UU s v _ hf) ?_;refine dX (fun c1=>?_) (fun c1=>?_)
 ·have c1:(!decide (jA s v=0))=true:=c1;have c1:¬jA s v=0:=by simpa using c1
  have e:=ad1 x c1;exact .nil (eF (.nil _) (.refl _)) (.drop 0 1 (.done ⟨by rw[e,Ip c1];rfl,rfl⟩))
 ·have c1:(!decide (jA s v=0))=false:=c1;have c1:jA s v=0:=by simpa using c1
  obtain⟨hg,sy,dv⟩:=ZX c1;obtain⟨hT,PR⟩:=Jr hg (v:=v.toNat) (by omega);have ht:=hf.ts _ (cq hT);have hc:=hg.FH _ (cq hT);have hA:=fun σ=>ag6 s.what s.w s.T[v.toNat].1 s.T[v.toNat].2.1 s.T[v.toNat].2.2.1 x σ ht.1 ht.2.1 hx ht.2.2.1 ht.2.2.2.1 lx (ff ht.2.2.2.2 (by decide));have hoe:gz s.what s.T[v.toNat].1 s.T[v.toNat].2.1 s.T[v.toNat].2.2.1 x=iS s x v.toNat:=by unfold iS;rw[PR]
  have hE:wP s.what s.w s.T[v.toNat].1 s.T[v.toNat].2.1 s.T[v.toNat].2.2.1 x=qj s v x:=by unfold qj wP;rw[af hc,af c1]
  rw[hoe,hE]at hA;refine .quiet (by kernel_rfl) ?_;refine aa 0 ?_;refine aa 0 ?_;refine aa 0 ?_;refine aJ.mk rfl (bO.mk s.T[v.toNat] (by omega) (bB hT) ?_);refine aK [] (hA _) ?_;exact .drop 0 1 (.done ⟨rfl,rfl⟩)
theorem aem(s:Sy)(σ:Hp):ACalls Tryz.prog 66 [.agg (cc s)] σ (aC (.int .i64 (IntKind.i64.wrap (IntKind.i64.wrap (s.n*dN s.what s.w)+1))) σ):=by
 refine ay Tryz.func66 ?_;intro aF;refine .quiet (by kernel_rfl) ?_;refine aa 0 ?_;refine aa 0 ?_;refine aa 0 ?_;refine aK [] (aek _ _ _) ?_;exact .drop 0 1 (.done ⟨rfl,rfl⟩)
theorem aca(s:Sy)(ma:Nat)(σ:Hp)(hf:Fit s)(hg:Good s)(hm:ma≤1000000):ACalls Tryz.prog 65 [.agg (cc s),.int .i64 ma] σ (aC (.tup [.ah (.slice (.int .u64)) (ns s ma (nQ s) 0).1,.int .i64 (ns s ma (nQ s) 0).2]) σ):=by
 refine ay Tryz.func65 ?_;intro aF;refine aa 0 ?_;refine ax [] (aao s _ hg) ?_;refine ca (S:=List (List Int)×Nat) (fun x=>[(1,.int .i64 ma),(2,.ptr aF 0),(6,.ah (.slice (.int .u64)) x.1),(7,.int .i64 x.2)]) (fun _=>(aF,cc s)::σ) (fun x=>(kW s x.1∧x.2≤ma)∧ns s (ma-x.2) x.1 x.2=ns s ma (nQ s) 0) (fun x=>ma-x.2) (nQ s,0) ⟨⟨⟨Lv hg,bC _⟩,rfl⟩,⟨rfl,rfl,rfl,rfl,trivial⟩,rfl⟩ ?_;rintro⟨a,k⟩ t ⟨⟨nI,aP⟩,hR0⟩;have ha:kW s a:=nI;have hk:k≤ma:=aP;have hR:ns s (ma-k) a k=ns s ma (nQ s) 0:=hR0;clear nI aP hR0;refine ao (p:=(k:Int)<ma) (fun ab=>?_) (fun au=>?_)
 ·have ab:k<ma:=by omega
  refine aa 0 ?_;refine ax [] (aeh s a _ hf hg ha) ?_;refine eY [] (UY a (gW s a) _ (ha.ok hg)) (fun d=>?_) (fun d=>?_)
  ·have d:a=gW s a:=fP d;rw[SB _ _ d]at hR;exact .drop 0 1 (.done ⟨by rw[← hR];rfl,rfl⟩)
  ·have d:¬a=gW s a:=qE d;rw[show ma-k=(ma-(k+1))+1 by omega,Vh _ _ d]at hR;exact a8 (gW s a,k+1) (by show ma-(k+1)<ma-k;omega) ⟨⟨Dv hf hg ha,ab⟩,hR⟩ ⟨rfl,rfl,rfl,aX (by omega),trivial⟩ (.refl _)
 ·have au:k=ma:=by omega
  rw[au,qB]at hR;exact .drop 0 1 (.done ⟨by rw[← hR];rfl,rfl⟩)
theorem lZ{n:Int}{l:List bE}{a b:Int}:b∈aw n l a↔(0≤b∧b<n)∧(0≤a∧a<n)∧∃e∈l,e.1=a∧e.2.1=b:=by
 unfold aw jU;rw[kL,decide_eq_true_eq,cX,cX];constructor
 ·rintro⟨⟨i,hi,rfl⟩,e,he,h2⟩;have hi:=fF.1 hi;obtain⟨h3,h4⟩:=kL.1 he;simp only[bS,decide_eq_true_eq,lB]at h4;exact⟨by omega,h4.1.2,e,h3,h4.1.1,h2⟩
 ·rintro⟨h1,h2,e,h3,h4,h5⟩;refine⟨⟨b.toNat,fF.2 (by omega),by omega⟩,e,kL.2 ⟨h3,?_⟩,h5⟩;simp only[bS,decide_eq_true_eq,lB];exact⟨⟨h4,h2⟩,by omega⟩
theorem zj(n:Int)(l:List bE)(a:Int):(aw n l a).length≤n.toNat:=by
 unfold aw;exact Nat.le_trans (List.length_filter_le _ _) (by simp)
theorem Ly{s:Sy}(hf:Fit s)(hg:Good s){a:List (List Int)}(ha:kW s a)(v:Nat):∀k,k≤s.aN.length→dG s.what s.w (gJ s v) (jT s a k v)∧∀e∈s.aN.take k,e.2.1=v→dG s.what s.w (iS s (a.getD e.1.toNat []) e.1.toNat) (jT s a k v)
 | 0,_=>⟨dG.refl (Hv hf hg v),fun e he=>by cases he⟩
 |k+1,hk=>by
  obtain⟨h1,h2⟩:=Ly hf hg ha v k (by omega);have ab:k<s.aN.length:=by omega
  have hv:=Sw hf hg ha v k (by omega);have he:=hg.uT _ (cq ab)
  have ho:eS s.what s.w (iS s (a.getD s.aN[k].1.toNat []) s.aN[k].1.toNat):=by
   have hx:=ha.get (i:=s.aN[k].1.toNat) (by omega);have:=Ij hf hg hx.cC hx.v (v:=s.aN[k].1.toNat) (by omega);exact⟨this.1,this.2⟩
  have mj:dG s.what s.w (jT s a k v) (jT s a (k+1) v):=by
   rw[zk s a ab];unfold wD;split
   ·exact dG.left hv ho
   ·exact dG.refl hv
  refine⟨h1.trans mj,fun e hm lT=>?_⟩;rw[ft ab]at hm
  rcases bY.1 hm with hm | hm
  ·exact (h2 e hm lT).trans mj
  ·rw[bD.1 hm]at lT ⊢;rw[zk s a ab];unfold wD;rw[af lT];exact dG.right hv ho
end Go.Proofs.YtnikdflhefijbaaGreat
