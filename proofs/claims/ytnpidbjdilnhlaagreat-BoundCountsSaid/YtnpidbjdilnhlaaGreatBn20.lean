import Derived.Test.YtnpidbjdilnhlaaGreatBn19
import Derived.Test.YtnpidbjdilnhlaaGreatBn11
namespace Go.Proofs.YtnpidbjdilnhlaaGreat
open Go.RowKit
set_option maxRecDepth 100000
def QC(p:Prop)(σ:Hp):AV→Hp→Prop:=fun r σ'=>∃b:Bool,r=.bool b∧σ'=σ∧(b=true→p)
theorem abj{P:Program}{f:FuncId}{xs:List AV}{σ:Hp}{K:AV→Hp→Prop}(js:List Nat){p:Prop}{σ2:Hp}(h:ACalls P f xs (lZ js σ) (QC p σ2))(k1:p→K (.bool true) σ2)(k2:K (.bool false) σ2):CallAt P f K xs σ:=
 .mk js _ h fun r σ' ⟨b,h1,h2,h3⟩=>by subst h1 h2;cases b;exact k2;exact k1 (h3 rfl)
structure P1(s:Sy):Prop where
 tl:s.T.length≤8
 el:s.aR.length≤16
 nl:s.entry.length≤10
 il:s.init.length≤20
 ts:∀t∈s.T,t.1.length≤4∧t.2.1.length≤4∧t.2.2.1.length≤6
 sz:(s.n≤7∧s.w≤10)∨256<s.n∨1024<s.w
theorem Xs(s:Sy)(σ:Hp):ACalls Tryz.prog 10 [.agg (bD s)] σ (QC (P1 s) σ):=by
 refine okF Tryz.func10 (by kernel_rfl) ?_
 intro aC
 refine aa 0 ?_
 refine ao (fun c2 =>?_) (fun c2 =>?_)
 ·have c2:7<s.n:=c2
  refine aa 0 ?_
  refine ao (fun c3 =>?_) (fun c3 =>?_)
  ·have c3:s.n≤256:=c3
   refine aa 0 ?_
   refine ao (fun c4 =>?_) (fun c4 =>?_)
   ·exact .drop 0 1 (.done ⟨false,rfl,rfl,fun h=>by cases h⟩)
   ·have c4:¬(s.w≤1024):=c4
    refine aa 0 ?_
    refine ao (fun c5 =>?_) (fun c5 =>?_)
    ·exact .drop 0 1 (.done ⟨false,rfl,rfl,fun h=>by cases h⟩)
    ·have c5:¬(8<(↑s.T.length:Int)):=c5
     refine aa 0 ?_
     refine ao (fun c6 =>?_) (fun c6 =>?_)
     ·exact .drop 0 1 (.done ⟨false,rfl,rfl,fun h=>by cases h⟩)
     ·have c6:¬(16<(↑s.aR.length:Int)):=c6
      refine aa 0 ?_
      refine ao (fun c7 =>?_) (fun c7 =>?_)
      ·exact .drop 0 1 (.done ⟨false,rfl,rfl,fun h=>by cases h⟩)
      ·have c7:¬(10<(↑s.entry.length:Int)):=c7
       refine aa 0 ?_
       refine ao (fun c8 =>?_) (fun c8 =>?_)
       ·exact .drop 0 1 (.done ⟨false,rfl,rfl,fun h=>by cases h⟩)
       ·have c8:¬(20<(↑s.init.length:Int)):=c8
        refine aa 0 ?_
        refine bO (S:=Nat) (fun k=>[(48,.ah j7 s.T),(49,.int .i64 s.T.length),(50,.int .i64 k)]) (fun _=>(aC,bD s)::σ) (fun k=>k≤s.T.length∧∀t∈s.T.take k,t.1.length≤4∧t.2.1.length≤4∧t.2.2.1.length≤6) (fun k=>s.T.length-k) 0 ⟨⟨Nat.zero_le _,fun t h=>by cases h⟩,⟨rfl,rfl,rfl,trivial⟩,rfl⟩ ?_
        rintro k g ⟨aZ,jG⟩
        have hk:k≤s.T.length:=aZ
        have ht:∀t∈s.T.take k,t.1.length≤4∧t.2.1.length≤4∧t.2.2.1.length≤6:=jG
        clear aZ jG
        refine ao (fun ab =>?_) (fun au =>?_)
        ·have ab:k<s.T.length:=by have ab:(k:Int)<s.T.length:=ab;omega
         have gg:s.T.take (k+1)=s.T.take k++[s.T[k]]:=List.take_succ_eq_append_getElem ab
         obtain⟨t,gb⟩:∃t:kp,s.T[k]=t:=⟨_,rfl⟩
         rw[gb]at gg
         refine ag.mk rfl (bH.mk t (by omega) ((get_some ab).trans (congrArg some gb)) ?_)
         intro dI
         refine ai 0 ?_
         refine aa 0 ?_
         refine ao (p:=4<(t.1.length:Int)) (fun d1 =>?_) (fun d1 =>?_)
         ·exact .drop 0 2 (.done ⟨false,rfl,rfl,fun h=>by cases h⟩)
         ·refine aa 0 ?_
          refine ao (p:=4<(t.2.1.length:Int)) (fun d2 =>?_) (fun d2 =>?_)
          ·exact .drop 0 2 (.done ⟨false,rfl,rfl,fun h=>by cases h⟩)
          ·refine aa 0 ?_
           refine ao (p:=6<(t.2.2.1.length:Int)) (fun d3 =>?_) (fun d3 =>?_)
           ·exact .drop 0 2 (.done ⟨false,rfl,rfl,fun h=>by cases h⟩)
           ·refine bg (k+1) (by show s.T.length-(k+1)<s.T.length-k;omega) ⟨ab,fun u hu =>?_⟩ ⟨rfl,rfl,a8 (by omega),trivial⟩ (.drop 0 1 (.refl _))
            rw[gg]at hu
            rcases List.mem_append.1 hu with hu | hu
            ·exact ht u hu
            ·rw[List.mem_singleton.1 hu];omega
        ·have au:k=s.T.length:=by have au:¬(k:Int)<s.T.length:=au;omega
         subst au
         rw[List.take_length]at ht
         exact .drop 0 1 (.done ⟨true,rfl,rfl,fun _=>⟨by omega,by omega,by omega,by omega,ht,by omega⟩⟩)
  ·have c3:¬(s.n≤256):=c3
   refine aa 0 ?_
   refine ao (fun c9 =>?_) (fun c9 =>?_)
   ·exact .drop 0 1 (.done ⟨false,rfl,rfl,fun h=>by cases h⟩)
   ·have c9:¬(8<(↑s.T.length:Int)):=c9
    refine aa 0 ?_
    refine ao (fun iq =>?_) (fun iq =>?_)
    ·exact .drop 0 1 (.done ⟨false,rfl,rfl,fun h=>by cases h⟩)
    ·have iq:¬(16<(↑s.aR.length:Int)):=iq
     refine aa 0 ?_
     refine ao (fun Kz =>?_) (fun Kz =>?_)
     ·exact .drop 0 1 (.done ⟨false,rfl,rfl,fun h=>by cases h⟩)
     ·have Kz:¬(10<(↑s.entry.length:Int)):=Kz
      refine aa 0 ?_
      refine ao (fun s8 =>?_) (fun s8 =>?_)
      ·exact .drop 0 1 (.done ⟨false,rfl,rfl,fun h=>by cases h⟩)
      ·have s8:¬(20<(↑s.init.length:Int)):=s8
       refine aa 0 ?_
       refine bO (S:=Nat) (fun k=>[(48,.ah j7 s.T),(49,.int .i64 s.T.length),(50,.int .i64 k)]) (fun _=>(aC,bD s)::σ) (fun k=>k≤s.T.length∧∀t∈s.T.take k,t.1.length≤4∧t.2.1.length≤4∧t.2.2.1.length≤6) (fun k=>s.T.length-k) 0 ⟨⟨Nat.zero_le _,fun t h=>by cases h⟩,⟨rfl,rfl,rfl,trivial⟩,rfl⟩ ?_
       rintro k g ⟨aZ,jG⟩
       have hk:k≤s.T.length:=aZ
       have ht:∀t∈s.T.take k,t.1.length≤4∧t.2.1.length≤4∧t.2.2.1.length≤6:=jG
       clear aZ jG
       refine ao (fun ab =>?_) (fun au =>?_)
       ·have ab:k<s.T.length:=by have ab:(k:Int)<s.T.length:=ab;omega
        have gg:s.T.take (k+1)=s.T.take k++[s.T[k]]:=List.take_succ_eq_append_getElem ab
        obtain⟨t,gb⟩:∃t:kp,s.T[k]=t:=⟨_,rfl⟩
        rw[gb]at gg
        refine ag.mk rfl (bH.mk t (by omega) ((get_some ab).trans (congrArg some gb)) ?_)
        intro dI
        refine ai 0 ?_
        refine aa 0 ?_
        refine ao (p:=4<(t.1.length:Int)) (fun d1 =>?_) (fun d1 =>?_)
        ·exact .drop 0 2 (.done ⟨false,rfl,rfl,fun h=>by cases h⟩)
        ·refine aa 0 ?_
         refine ao (p:=4<(t.2.1.length:Int)) (fun d2 =>?_) (fun d2 =>?_)
         ·exact .drop 0 2 (.done ⟨false,rfl,rfl,fun h=>by cases h⟩)
         ·refine aa 0 ?_
          refine ao (p:=6<(t.2.2.1.length:Int)) (fun d3 =>?_) (fun d3 =>?_)
          ·exact .drop 0 2 (.done ⟨false,rfl,rfl,fun h=>by cases h⟩)
          ·refine bg (k+1) (by show s.T.length-(k+1)<s.T.length-k;omega) ⟨ab,fun u hu =>?_⟩ ⟨rfl,rfl,a8 (by omega),trivial⟩ (.drop 0 1 (.refl _))
           rw[gg]at hu
           rcases List.mem_append.1 hu with hu | hu
           ·exact ht u hu
           ·rw[List.mem_singleton.1 hu];omega
       ·have au:k=s.T.length:=by have au:¬(k:Int)<s.T.length:=au;omega
        subst au
        rw[List.take_length]at ht
        exact .drop 0 1 (.done ⟨true,rfl,rfl,fun _=>⟨by omega,by omega,by omega,by omega,ht,by omega⟩⟩)
 ·have c2:¬(7<s.n):=c2
  refine aa 0 ?_
  refine ao (fun B6 =>?_) (fun B6 =>?_)
  ·have B6:10<s.w:=B6
   refine aa 0 ?_
   refine ao (fun qy =>?_) (fun qy =>?_)
   ·have qy:s.n≤256:=qy
    refine aa 0 ?_
    refine ao (fun Ky =>?_) (fun Ky =>?_)
    ·exact .drop 0 1 (.done ⟨false,rfl,rfl,fun h=>by cases h⟩)
    ·have Ky:¬(s.w≤1024):=Ky
     refine aa 0 ?_
     refine ao (fun s7 =>?_) (fun s7 =>?_)
     ·exact .drop 0 1 (.done ⟨false,rfl,rfl,fun h=>by cases h⟩)
     ·have s7:¬(8<(↑s.T.length:Int)):=s7
      refine aa 0 ?_
      refine ao (fun Kx =>?_) (fun Kx =>?_)
      ·exact .drop 0 1 (.done ⟨false,rfl,rfl,fun h=>by cases h⟩)
      ·have Kx:¬(16<(↑s.aR.length:Int)):=Kx
       refine aa 0 ?_
       refine ao (fun Kw =>?_) (fun Kw =>?_)
       ·exact .drop 0 1 (.done ⟨false,rfl,rfl,fun h=>by cases h⟩)
       ·have Kw:¬(10<(↑s.entry.length:Int)):=Kw
        refine aa 0 ?_
        refine ao (fun Kv =>?_) (fun Kv =>?_)
        ·exact .drop 0 1 (.done ⟨false,rfl,rfl,fun h=>by cases h⟩)
        ·have Kv:¬(20<(↑s.init.length:Int)):=Kv
         refine aa 0 ?_
         refine bO (S:=Nat) (fun k=>[(48,.ah j7 s.T),(49,.int .i64 s.T.length),(50,.int .i64 k)]) (fun _=>(aC,bD s)::σ) (fun k=>k≤s.T.length∧∀t∈s.T.take k,t.1.length≤4∧t.2.1.length≤4∧t.2.2.1.length≤6) (fun k=>s.T.length-k) 0 ⟨⟨Nat.zero_le _,fun t h=>by cases h⟩,⟨rfl,rfl,rfl,trivial⟩,rfl⟩ ?_
         rintro k g ⟨aZ,jG⟩
         have hk:k≤s.T.length:=aZ
         have ht:∀t∈s.T.take k,t.1.length≤4∧t.2.1.length≤4∧t.2.2.1.length≤6:=jG
         clear aZ jG
         refine ao (fun ab =>?_) (fun au =>?_)
         ·have ab:k<s.T.length:=by have ab:(k:Int)<s.T.length:=ab;omega
          have gg:s.T.take (k+1)=s.T.take k++[s.T[k]]:=List.take_succ_eq_append_getElem ab
          obtain⟨t,gb⟩:∃t:kp,s.T[k]=t:=⟨_,rfl⟩
          rw[gb]at gg
          refine ag.mk rfl (bH.mk t (by omega) ((get_some ab).trans (congrArg some gb)) ?_)
          intro dI
          refine ai 0 ?_
          refine aa 0 ?_
          refine ao (p:=4<(t.1.length:Int)) (fun d1 =>?_) (fun d1 =>?_)
          ·exact .drop 0 2 (.done ⟨false,rfl,rfl,fun h=>by cases h⟩)
          ·refine aa 0 ?_
           refine ao (p:=4<(t.2.1.length:Int)) (fun d2 =>?_) (fun d2 =>?_)
           ·exact .drop 0 2 (.done ⟨false,rfl,rfl,fun h=>by cases h⟩)
           ·refine aa 0 ?_
            refine ao (p:=6<(t.2.2.1.length:Int)) (fun d3 =>?_) (fun d3 =>?_)
            ·exact .drop 0 2 (.done ⟨false,rfl,rfl,fun h=>by cases h⟩)
            ·refine bg (k+1) (by show s.T.length-(k+1)<s.T.length-k;omega) ⟨ab,fun u hu =>?_⟩ ⟨rfl,rfl,a8 (by omega),trivial⟩ (.drop 0 1 (.refl _))
             rw[gg]at hu
             rcases List.mem_append.1 hu with hu | hu
             ·exact ht u hu
             ·rw[List.mem_singleton.1 hu];omega
         ·have au:k=s.T.length:=by have au:¬(k:Int)<s.T.length:=au;omega
          subst au
          rw[List.take_length]at ht
          exact .drop 0 1 (.done ⟨true,rfl,rfl,fun _=>⟨by omega,by omega,by omega,by omega,ht,by omega⟩⟩)
   ·have qy:¬(s.n≤256):=qy
    refine aa 0 ?_
    refine ao (fun Ku =>?_) (fun Ku =>?_)
    ·exact .drop 0 1 (.done ⟨false,rfl,rfl,fun h=>by cases h⟩)
    ·have Ku:¬(8<(↑s.T.length:Int)):=Ku
     refine aa 0 ?_
     refine ao (fun Kt =>?_) (fun Kt =>?_)
     ·exact .drop 0 1 (.done ⟨false,rfl,rfl,fun h=>by cases h⟩)
     ·have Kt:¬(16<(↑s.aR.length:Int)):=Kt
      refine aa 0 ?_
      refine ao (fun Ks =>?_) (fun Ks =>?_)
      ·exact .drop 0 1 (.done ⟨false,rfl,rfl,fun h=>by cases h⟩)
      ·have Ks:¬(10<(↑s.entry.length:Int)):=Ks
       refine aa 0 ?_
       refine ao (fun Kr =>?_) (fun Kr =>?_)
       ·exact .drop 0 1 (.done ⟨false,rfl,rfl,fun h=>by cases h⟩)
       ·have Kr:¬(20<(↑s.init.length:Int)):=Kr
        refine aa 0 ?_
        refine bO (S:=Nat) (fun k=>[(48,.ah j7 s.T),(49,.int .i64 s.T.length),(50,.int .i64 k)]) (fun _=>(aC,bD s)::σ) (fun k=>k≤s.T.length∧∀t∈s.T.take k,t.1.length≤4∧t.2.1.length≤4∧t.2.2.1.length≤6) (fun k=>s.T.length-k) 0 ⟨⟨Nat.zero_le _,fun t h=>by cases h⟩,⟨rfl,rfl,rfl,trivial⟩,rfl⟩ ?_
        rintro k g ⟨aZ,jG⟩
        have hk:k≤s.T.length:=aZ
        have ht:∀t∈s.T.take k,t.1.length≤4∧t.2.1.length≤4∧t.2.2.1.length≤6:=jG
        clear aZ jG
        refine ao (fun ab =>?_) (fun au =>?_)
        ·have ab:k<s.T.length:=by have ab:(k:Int)<s.T.length:=ab;omega
         have gg:s.T.take (k+1)=s.T.take k++[s.T[k]]:=List.take_succ_eq_append_getElem ab
         obtain⟨t,gb⟩:∃t:kp,s.T[k]=t:=⟨_,rfl⟩
         rw[gb]at gg
         refine ag.mk rfl (bH.mk t (by omega) ((get_some ab).trans (congrArg some gb)) ?_)
         intro dI
         refine ai 0 ?_
         refine aa 0 ?_
         refine ao (p:=4<(t.1.length:Int)) (fun d1 =>?_) (fun d1 =>?_)
         ·exact .drop 0 2 (.done ⟨false,rfl,rfl,fun h=>by cases h⟩)
         ·refine aa 0 ?_
          refine ao (p:=4<(t.2.1.length:Int)) (fun d2 =>?_) (fun d2 =>?_)
          ·exact .drop 0 2 (.done ⟨false,rfl,rfl,fun h=>by cases h⟩)
          ·refine aa 0 ?_
           refine ao (p:=6<(t.2.2.1.length:Int)) (fun d3 =>?_) (fun d3 =>?_)
           ·exact .drop 0 2 (.done ⟨false,rfl,rfl,fun h=>by cases h⟩)
           ·refine bg (k+1) (by show s.T.length-(k+1)<s.T.length-k;omega) ⟨ab,fun u hu =>?_⟩ ⟨rfl,rfl,a8 (by omega),trivial⟩ (.drop 0 1 (.refl _))
            rw[gg]at hu
            rcases List.mem_append.1 hu with hu | hu
            ·exact ht u hu
            ·rw[List.mem_singleton.1 hu];omega
        ·have au:k=s.T.length:=by have au:¬(k:Int)<s.T.length:=au;omega
         subst au
         rw[List.take_length]at ht
         exact .drop 0 1 (.done ⟨true,rfl,rfl,fun _=>⟨by omega,by omega,by omega,by omega,ht,by omega⟩⟩)
  ·have B6:¬(10<s.w):=B6
   refine aa 0 ?_
   refine ao (fun Kq =>?_) (fun Kq =>?_)
   ·exact .drop 0 1 (.done ⟨false,rfl,rfl,fun h=>by cases h⟩)
   ·have Kq:¬(8<(↑s.T.length:Int)):=Kq
    refine aa 0 ?_
    refine ao (fun Kp =>?_) (fun Kp =>?_)
    ·exact .drop 0 1 (.done ⟨false,rfl,rfl,fun h=>by cases h⟩)
    ·have Kp:¬(16<(↑s.aR.length:Int)):=Kp
     refine aa 0 ?_
     refine ao (fun Ko =>?_) (fun Ko =>?_)
     ·exact .drop 0 1 (.done ⟨false,rfl,rfl,fun h=>by cases h⟩)
     ·have Ko:¬(10<(↑s.entry.length:Int)):=Ko
      refine aa 0 ?_
      refine ao (fun Kn =>?_) (fun Kn =>?_)
      ·exact .drop 0 1 (.done ⟨false,rfl,rfl,fun h=>by cases h⟩)
      ·have Kn:¬(20<(↑s.init.length:Int)):=Kn
       refine aa 0 ?_
       refine bO (S:=Nat) (fun k=>[(48,.ah j7 s.T),(49,.int .i64 s.T.length),(50,.int .i64 k)]) (fun _=>(aC,bD s)::σ) (fun k=>k≤s.T.length∧∀t∈s.T.take k,t.1.length≤4∧t.2.1.length≤4∧t.2.2.1.length≤6) (fun k=>s.T.length-k) 0 ⟨⟨Nat.zero_le _,fun t h=>by cases h⟩,⟨rfl,rfl,rfl,trivial⟩,rfl⟩ ?_
       rintro k g ⟨aZ,jG⟩
       have hk:k≤s.T.length:=aZ
       have ht:∀t∈s.T.take k,t.1.length≤4∧t.2.1.length≤4∧t.2.2.1.length≤6:=jG
       clear aZ jG
       refine ao (fun ab =>?_) (fun au =>?_)
       ·have ab:k<s.T.length:=by have ab:(k:Int)<s.T.length:=ab;omega
        have gg:s.T.take (k+1)=s.T.take k++[s.T[k]]:=List.take_succ_eq_append_getElem ab
        obtain⟨t,gb⟩:∃t:kp,s.T[k]=t:=⟨_,rfl⟩
        rw[gb]at gg
        refine ag.mk rfl (bH.mk t (by omega) ((get_some ab).trans (congrArg some gb)) ?_)
        intro dI
        refine ai 0 ?_
        refine aa 0 ?_
        refine ao (p:=4<(t.1.length:Int)) (fun d1 =>?_) (fun d1 =>?_)
        ·exact .drop 0 2 (.done ⟨false,rfl,rfl,fun h=>by cases h⟩)
        ·refine aa 0 ?_
         refine ao (p:=4<(t.2.1.length:Int)) (fun d2 =>?_) (fun d2 =>?_)
         ·exact .drop 0 2 (.done ⟨false,rfl,rfl,fun h=>by cases h⟩)
         ·refine aa 0 ?_
          refine ao (p:=6<(t.2.2.1.length:Int)) (fun d3 =>?_) (fun d3 =>?_)
          ·exact .drop 0 2 (.done ⟨false,rfl,rfl,fun h=>by cases h⟩)
          ·refine bg (k+1) (by show s.T.length-(k+1)<s.T.length-k;omega) ⟨ab,fun u hu =>?_⟩ ⟨rfl,rfl,a8 (by omega),trivial⟩ (.drop 0 1 (.refl _))
           rw[gg]at hu
           rcases List.mem_append.1 hu with hu | hu
           ·exact ht u hu
           ·rw[List.mem_singleton.1 hu];omega
       ·have au:k=s.T.length:=by have au:¬(k:Int)<s.T.length:=au;omega
        subst au
        rw[List.take_length]at ht
        exact .drop 0 1 (.done ⟨true,rfl,rfl,fun _=>⟨by omega,by omega,by omega,by omega,ht,by omega⟩⟩)
theorem aa8{s:Sy}(h:P1 s)(hi:aS s.init)(ht:∀t∈s.T,aS t.1∧aS t.2.1):Fit s:=by
 obtain⟨h1,h2,h3,h4,h5,_⟩:=h
 exact⟨hi,by omega,by omega,by omega,by omega,fun t hm=>⟨(ht t hm).1,(ht t hm).2,by have:=h5 t hm;omega,by have:=h5 t hm;omega,by have:=h5 t hm;omega⟩⟩
theorem HJ{f:FuncId}{xs:List AV}{σ:Hp}{K:AV→Hp→Prop}(i k b':Nat)(cs':List AV)(e:Sh)(hi:σ[i]?=some (b',cs'))(hk:cs'[k]?=some .af)(h:CallAt Tryz.prog f K xs (σ.set i (b',cs'.set k (.ah e [])))):CallAt Tryz.prog f K xs σ:=
 .mk [] K ⟨(Cu h).1,fun F w vs bz ay=>(Cu h).2 F w vs bz (OF ay e hi hk)⟩ fun _ _ h=>h
theorem HF{b off len es:Nat}{e:Sh}{l:List e.T}{xs ys:List AV}(h:dP b off len es e l (.tup xs) (.tup ys))(hl:ys.all AV.leaf=true):dP b off len es e l (.agg xs) (.agg ys):=by
 cases h with
 | refl=>exact .refl _
 | tup _ _ h1 h2=>exact .agg _ _ h1 (fun i y hy=>List.all_eq_true.1 hl y (List.mem_of_getElem? hy)) h2
set_option maxRecDepth 100000
def q9(s:Sy):Nat→List (List Int)→Nat→List (List Int)×Nat
 | 0,a,k=>(a,k)
 | m+1,a,k=>if a=ib s a then (a,k) else q9 s m (ib s a) (k+1)
theorem Uc{s:Sy}{a:List (List Int)}(m k:Nat)(h:a=ib s a):q9 s m a k=(a,k):=by
 cases m with
 | zero=>rfl
 | succ m=>exact if_pos h
theorem X2{s:Sy}{a:List (List Int)}(m k:Nat)(h:¬a=ib s a):q9 s (m+1) a k=q9 s m (ib s a) (k+1):=if_neg h
theorem La{s:Sy}(hg:Good s):kG s (vA s):=by
 refine⟨by rw[Rq];have:=hg.n1;omega,fun x hx =>?_⟩
 rw[(List.mem_replicate.1 hx).2]
 exact⟨Ds hg.rr,DR _ _⟩
def vw(s:Sy):Int:=s.n*cP s.what s.w+1
theorem CI(what w:Int):0≤cP what w∧cP what w≤2048:=by
 unfold cP
 split
 ·rename_i h
  unfold cE at h;simp at h
  split <;> omega
 ·omega
theorem U2{s:Sy}(hg:Good s):IntKind.i64.wrap (IntKind.i64.wrap (s.n*cP s.what s.w)+1)=vw s∧0≤vw s∧vw s≤1000000:=by
 have h1:=hg.n1
 have h2:=hg.n2
 have h3:=CI s.what s.w
 have h4:s.n*cP s.what s.w≤256*2048:=Int.mul_le_mul h2 h3.2 h3.1 (by decide)
 have h5:0≤s.n*cP s.what s.w:=Int.mul_nonneg (by omega) h3.1
 unfold vw
 rw[ck (n:=s.n*cP s.what s.w) (by omega),ck (by omega)]
 omega
def uc(s:Sy):List (List Int)×Nat:=q9 s (vw s).toNat (vA s) 0
def qZ(n:Nat)(f:Nat→Nat):Nat:=((List.range n).map f).sum
theorem Gk(n:Nat)(f:Nat→Nat):qZ (n+1) f=qZ n f+f n:=by unfold qZ;rw[List.range_succ,List.map_append,List.sum_append];simp
theorem Gl{f g:Nat→Nat}:∀n,(∀i,i<n→f i≤g i)→qZ n f≤qZ n g∧(qZ n f=qZ n g→∀i,i<n→f i=g i)
 | 0,_=>⟨Nat.le_refl _,fun _ i h=>absurd h (Nat.not_lt_zero i)⟩
 | n+1,h=>by
  obtain⟨h1,h2⟩:=Gl n fun i hi=>h i (by omega)
  have h3:=h n (by omega)
  rw[Gk,Gk]
  refine⟨by omega,fun e i hi =>?_⟩
  by_cases de:i=n
  ·subst de;omega
  ·exact h2 (by omega) i (by omega)
theorem Db{f:Nat→Nat}{c:Nat}:∀n,(∀i,i<n→f i≤c)→qZ n f≤n*c
 | 0,_=>Nat.zero_le _
 | n+1,h=>by
  have h1:=Db n fun i hi=>h i (by omega)
  have h2:=h n (by omega)
  rw[Gk,Nat.succ_mul];omega
def Bs(b:Bool):Nat:=if b=true then 1 else 0
def E5(z:Int):Nat:=if z=0 then 0 else if z=1 then 2 else 1
def oe(what:Int)(x:List Int)(j:Nat):Nat:=if what=3 then E5 (wd x j) else if what=1 then Bs (da x (j / 64) (j % 64)) else Bs (!da x (j / 64) (j % 64))
def pL(what w:Int)(x:List Int):Nat:=qZ w.toNat (oe what x)
theorem OG{w:Int}{a b:List Int}(h:dc 3 w a b){i:Nat}(hi:i<a.length):wd a i=wd b i∨wd a i=0∨wd b i=1:=by
 have hl:=tg h.1.v h.2.1.v
 have va:=((hG (ky h.1.v) rfl).1 h.1.v).2
 have vb:=((hG (ky h.1.v) rfl).1 h.2.1.v).2
 have:=rR va vb hi (by omega)
 rw[h.2.2]at this
 unfold jn at this
 split at this
 ·exact .inl this.symm
 ·split at this
  ·rename_i h0;exact .inr (.inl h0)
  ·exact .inr (.inr this)
theorem YD{what w:Int}(hs:what=1∨what=2){a b:List Int}(h:dc what w a b){i k:Nat}(hi:i<a.length):gK what (da a i k) (da b i k)=da b i k:=by
 have hl:=tg h.1.v h.2.1.v
 rw[← mE hs h.1.ck h.2.1.ck hl i k hi,h.2.2]
theorem ZM{what w:Int}{a b:List Int}(h:dc what w a b){j:Nat}(hj:j<w.toNat):oe what a j≤oe what b j:=by
 have hi:=ky h.1.v
 by_cases h3:what=3
 ·subst h3
  have hl:=((hG hi rfl).1 h.1.v).1
  unfold oe E5
  rw[if_pos rfl,if_pos rfl]
  rcases OG h (i:=j) (by omega) with e | e | e
  ·rw[e];exact Nat.le_refl _
  ·rw[if_pos e];exact Nat.zero_le _
  ·rw[e]
   rw[if_neg (show ¬(1:Int)=0 by decide),if_pos rfl]
   split
   ·omega
   ·split <;> omega
 ·have hs:=DJ hi h3
  have hla:=lS ((nD hi h3).1 h.1.v)
  have hw:dR w=w.toNat:=by unfold cE at hi;simp at hi;unfold dR;omega
  have ab:j / 64<a.length:=by rw[hla];unfold eb;omega
  have hb:=YD hs h (k:=j % 64) ab
  unfold oe Bs
  rw[if_neg h3,if_neg h3]
  unfold gK at hb
  rcases hs with rfl | rfl
  ·rw[if_pos rfl,if_pos rfl]
   rw[if_pos rfl]at hb
   revert hb
   cases da a (j / 64) (j % 64) <;> cases da b (j / 64) (j % 64) <;> simp
  ·rw[if_neg (show ¬(2:Int)=1 by decide),if_neg (show ¬(2:Int)=1 by decide)]
   rw[if_neg (show ¬(2:Int)=1 by decide)]at hb
   revert hb
   cases da a (j / 64) (j % 64) <;> cases da b (j / 64) (j % 64) <;> simp
theorem ZN{what w:Int}{a b:List Int}(h:dc what w a b)(he:∀j,j<w.toNat→oe what a j=oe what b j):a=b:=by
 have hi:=ky h.1.v
 have hl:=tg h.1.v h.2.1.v
 refine zD h.1 h.2.1 (fun h3 i ab =>?_) (fun hs i k ab hk =>?_)
 ·subst h3
  have hw:=((hG hi rfl).1 h.1.v).1
  have:=he i (by omega)
  unfold oe E5 at this
  rw[if_pos rfl,if_pos rfl]at this
  rcases OG h ab with e | e | e
  ·exact e
  ·rw[if_pos e]at this
   split at this
   ·omega
   ·split at this <;> omega
  ·rw[e,if_neg (show ¬(1:Int)=0 by decide),if_pos rfl]at this
   split at this
   ·omega
   ·split at this
    ·omega
    ·omega
 ·have h3:¬what=3:=by omega
  have fa:=(nD hi h3).1 h.1.v
  have fb:=(nD hi h3).1 h.2.1.v
  have hw:dR w=w.toNat:=by unfold cE at hi;simp at hi;unfold dR;omega
  by_cases hc:64*i+k<dR w
  ·have:=he (64*i+k) (by omega)
   unfold oe Bs at this
   rw[if_neg h3,if_neg h3,show (64*i+k) / 64=i by omega,show (64*i+k) % 64=k by omega]at this
   revert this
   split <;> cases da a i k <;> cases da b i k <;> simp
  ·rw[(oO h.1.ck (lS fa)).1 fa i k ab hk (by omega),(oO h.2.1.ck (lS fb)).1 fb i k (by omega) hk (by omega)]
theorem K0{what w:Int}(x:List Int)(hi:cE what w=true):(pL what w x:Int)≤cP what w:=by
 unfold cP pL
 rw[if_pos hi]
 unfold cE at hi;simp at hi
 by_cases h3:what=3
 ·rw[if_pos h3]
  have:=Db (f:=oe what x) (c:=2) w.toNat fun i _=>by
   unfold oe E5
   rw[if_pos h3]
   split
   ·omega
   ·split <;> omega
  omega
 ·rw[if_neg h3]
  have:=Db (f:=oe what x) (c:=1) w.toNat fun i _=>by
   unfold oe Bs
   rw[if_neg h3]
   split <;> split <;> omega
  omega
theorem Ho{what w:Int}{a b:List Int}(h:dc what w a b):pL what w a≤pL what w b∧(pL what w a=pL what w b→a=b):=by
 have:=Gl w.toNat fun j hj=>ZM h hj
 exact⟨this.1,fun e=>ZN h (this.2 e)⟩
def qY(s:Sy)(a:List (List Int)):Nat:=qZ s.n.toNat fun v=>pL s.what s.w (a.getD v [])
theorem XV{s:Sy}{a b:List (List Int)}(h:ml s a b):qY s a≤qY s b∧(qY s a=qY s b→a=b):=by
 have:=Gl (f:=fun v=>pL s.what s.w (a.getD v [])) (g:=fun v=>pL s.what s.w (b.getD v [])) s.n.toNat fun v hv=>(Ho (h.2.2 v (by omega))).1
 refine⟨this.1,fun e =>?_⟩
 have la:=h.1.len
 have lb:=h.2.1.len
 refine List.ext_getElem (by omega) fun i h1 h2 =>?_
 have hv:=(Ho (h.2.2 i (by omega))).2 (this.2 e i (by omega))
 rw[List.getD_eq_getElem?_getD,List.getD_eq_getElem?_getD,List.getElem?_eq_getElem h1,List.getElem?_eq_getElem h2]at hv
 exact hv
theorem L1{s:Sy}(hg:Good s)(a:List (List Int)):(qY s a:Int)≤s.n*cP s.what s.w:=by
 have hh:=CI s.what s.w
 have:=Db (f:=fun v=>pL s.what s.w (a.getD v [])) (c:=(cP s.what s.w).toNat) s.n.toNat fun v _=>by
  have:=K0 (a.getD v []) hg.rr
  omega
 have hn:=hg.n1
 have e:(s.n.toNat*(cP s.what s.w).toNat:Nat)=s.n*cP s.what s.w:=by
  rw[Int.natCast_mul,Int.toNat_of_nonneg (by omega),Int.toNat_of_nonneg hh.1]
 unfold qY
 omega
theorem Sx{s:Sy}{i:Nat}(h:(i:Int)<s.n):(vA s).getD i []=gm s.what s.w:=by
 unfold vA
 rw[List.getD_eq_getElem?_getD,List.getElem?_replicate,if_pos (by omega)];rfl
theorem ME{s:Sy}(hg:Good s){a:List (List Int)}(h:kG s a):ml s (vA s) a:=
 ⟨La hg,h,fun i hi=>by rw[Sx hi];exact bot_le (h.get hi)⟩
theorem Lp{s:Sy}(hf:Fit s)(hg:Good s):∀(m:Nat) (a:List (List Int)) (k:Nat),ml s a (ib s a)→k≤qY s a→s.n*cP s.what s.w+1≤(k+m:Nat)→
  kG s (q9 s m a k).1∧(q9 s m a k).1=ib s (q9 s m a k).1∧((q9 s m a k).2:Int)≤s.n*cP s.what s.w∧∀y,ml s (ib s y) y→ml s a y→ml s (q9 s m a k).1 y
 | 0,a,k,h,hk,hm=>by have:=L1 hg a;omega
 | m+1,a,k,h,hk,hm=>by
  by_cases e:a=ib s a
  ·rw[Uc _ _ e]
   have:=L1 hg a
   exact⟨h.1,e,by show ((k:Nat):Int)≤_;omega,fun y _ hy=>hy⟩
  ·rw[X2 _ _ e]
   have h2:=L2 hf hg h
   have ab:k+1≤qY s (ib s a):=by
    have:=XV h
    by_cases e2:qY s a=qY s (ib s a)
    ·exact absurd (this.2 e2) e
    ·omega
   obtain⟨q1,q2,q3,q4⟩:=Lp hf hg m (ib s a) (k+1) h2 ab (by omega)
   exact⟨q1,q2,q3,fun y hy hay=>q4 y hy ((L2 hf hg hay).trans hy)⟩
theorem Gq{s:Sy}(hf:Fit s)(hg:Good s):kG s (uc s).1∧(uc s).1=ib s (uc s).1∧((uc s).2:Int)≤s.n*cP s.what s.w∧∀y,ml s (ib s y) y→ml s (uc s).1 y:=by
 have hb:=La hg
 have he:=U2 hg
 obtain⟨q1,q2,q3,q4⟩:=Lp hf hg (vw s).toNat (vA s) 0 (ME hg (Gm hf hg hb)) (Nat.zero_le _) (by unfold vw at he ⊢;omega)
 exact⟨q1,q2,q3,fun y hy=>q4 y hy (ME hg hy.2.1)⟩
set_option maxRecDepth 100000
def gx(s:Sy)(v:Int):Int:=if cf s=0 then (if cN s.n v=true then 0 else 1) else cf s
theorem Ux{s:Sy}{v:Int}(h:¬cf s=0):cf s=gx s v:=(if_neg h).symm
theorem Np{s:Sy}{v:Int}(h:cf s=0)(hv:¬(0≤v∧v<s.n)):1=gx s v:=by unfold gx;rw[if_pos h,if_neg];rw[jm];exact hv
theorem CF{s:Sy}{v:Int}(h:cf s=0)(hv:0≤v∧v<s.n):0=gx s v:=by unfold gx;rw[if_pos h,if_pos];rw[jm];exact hv
theorem S4{s:Sy}{v:Int}(h:gx s v=0):Good s∧0≤v∧v<s.n:=by
 unfold gx at h
 split at h
 ·rename_i h1
  split at h
  ·rename_i h2;exact⟨HE h1,jm.1 h2⟩
  ·cases h
 ·rename_i h1;exact absurd h h1
theorem NW(s:Sy)(v:Int)(σ:Hp)(hf:Fit s):ACalls Tryz.prog 98 [.agg (bD s),.int .i64 v] σ (az (.int .i64 (gx s v)) σ):=by
 refine okF Tryz.func98 (by kernel_rfl) ?_
 intro aC
 refine aa 0 ?_
 refine ax [] (zr s _ hf) ?_
 refine dx (fun c1 =>?_) (fun c1 =>?_)
 ·have c1:(!decide (cf s=0))=true:=c1
  have c1:¬cf s=0:=by simpa using c1
  exact .drop 0 1 (.done ⟨aN (Ux c1),rfl⟩)
 ·have c1:(!decide (cf s=0))=false:=c1
  have c1:cf s=0:=by simpa using c1
  refine ao (p:=v<0) (fun c2 =>?_) (fun c2 =>?_)
  ·exact .drop 0 1 (.done ⟨aN (Np c1 (by omega)),rfl⟩)
  ·refine aa 0 ?_
   refine ao (p:=s.n≤v) (fun c3 =>?_) (fun c3 =>?_)
   ·exact .drop 0 1 (.done ⟨aN (Np c1 (by omega)),rfl⟩)
   ·exact .drop 0 1 (.done ⟨aN (CF c1 (by omega)),rfl⟩)
theorem Vs(s:Sy)(v:Int)(σ:Hp)(hf:Fit s):ACalls Tryz.prog 47 [.agg (bD s),.int .i64 v] σ (az (.tup [.ah (.int .u64) (qd (gx s v) (gu s v)),.int .i64 (gx s v)]) σ):=by
 refine okF Tryz.func47 (by kernel_rfl) ?_
 intro aC
 refine aa 0 ?_
 refine ax [] (NW s v _ hf) ?_
 refine dx (fun c1 =>?_) (fun c1 =>?_)
 ·have c1:(!decide (gx s v=0))=true:=c1
  have c1:¬gx s v=0:=by simpa using c1
  exact .nil (dK (.nil _) (.refl _)) (.drop 0 1 (.done ⟨by rw[Dj c1];rfl,rfl⟩))
 ·have c1:(!decide (gx s v=0))=false:=c1
  have c1:gx s v=0:=by simpa using c1
  refine aa 0 ?_
  refine ax [] (aan s v _ hf) ?_
  exact .drop 0 1 (.done ⟨by rw[zW c1,c1];rfl,rfl⟩)
def mY(s:Sy)(v:Int)(x:List Int):Int:=if gx s v=0 then (if bZ s.what s.w x=true then 0 else 2) else gx s v
theorem Wd{s:Sy}{v:Int}(x:List Int)(h:¬gx s v=0):mY s v x=gx s v:=if_neg h
theorem Nd{s:Sy}{v:Int}{x:List Int}(h:gx s v=0)(hv:bZ s.what s.w x=true):mY s v x=0:=by unfold mY;rw[if_pos h,if_pos hv]
theorem Zf(s:Sy)(v:Int)(x:List Int)(σ:Hp)(hf:Fit s)(hx:aS x)(lx:x.length≤10000):ACalls Tryz.prog 366 [.agg (bD s),.int .i64 v,.ah (.int .u64) x] σ (az (.tup [.ah (.int .u64) (qd (mY s v x) (iD s x v.toNat)),.int .i64 (mY s v x)]) σ):=by
 refine okF Tryz.func366 (by kernel_rfl) ?_
 intro aC
 refine aa 0 ?_
 refine ax [] (NW s v _ hf) ?_
 refine dx (fun c1 =>?_) (fun c1 =>?_)
 ·have c1:(!decide (gx s v=0))=true:=c1
  have c1:¬gx s v=0:=by simpa using c1
  have e:=Wd x c1
  exact .nil (dK (.nil _) (.refl _)) (.drop 0 1 (.done ⟨by rw[e,Dj c1];rfl,rfl⟩))
 ·have c1:(!decide (gx s v=0))=false:=c1
  have c1:gx s v=0:=by simpa using c1
  obtain⟨hg,pr,cm⟩:=S4 c1
  obtain⟨hT,hTe⟩:=IK hg (v:=v.toNat) (by omega)
  have ht:=hf.ts _ (List.getElem_mem hT)
  have hc:=hg.E4 _ (List.getElem_mem hT)
  have hA:=fun σ=>Ze s.what s.w s.T[v.toNat].1 s.T[v.toNat].2.1 s.T[v.toNat].2.2.1 x σ ht.1 ht.2.1 hx ht.2.2.1 ht.2.2.2.1 lx (Nat.le_trans ht.2.2.2.2 (by decide))
  have hoe:fh s.what s.T[v.toNat].1 s.T[v.toNat].2.1 s.T[v.toNat].2.2.1 x=iD s x v.toNat:=by unfold iD;rw[hTe]
  have hE:sy s.what s.w s.T[v.toNat].1 s.T[v.toNat].2.1 s.T[v.toNat].2.2.1 x=mY s v x:=by unfold mY sy;rw[if_pos hc,if_pos c1]
  rw[hoe,hE]at hA
  refine .quiet (by kernel_rfl) ?_
  refine aa 0 ?_
  refine aa 0 ?_
  refine aa 0 ?_
  refine ag.mk rfl (bH.mk s.T[v.toNat] (by omega) (List.getElem?_eq_getElem hT) ?_)
  refine aD [] (hA _) ?_
  exact .drop 0 1 (.done ⟨rfl,rfl⟩)
theorem j8{n:Int}{l:List aV}{a b:Int}:b∈an n l a↔(0≤b∧b<n)∧(0≤a∧a<n)∧∃e∈l,e.1=a∧e.2.1=b:=by
 unfold an gO
 rw[List.mem_filter,decide_eq_true_eq,List.mem_map,List.mem_map]
 constructor
 ·rintro⟨⟨i,hi,rfl⟩,e,he,h2⟩
  have hi:=List.mem_range.1 hi
  obtain⟨h3,h4⟩:=List.mem_filter.1 he
  simp only[Bool.and_eq_true,decide_eq_true_eq,jm]at h4
  exact⟨by omega,h4.1.2,e,h3,h4.1.1,h2⟩
 ·rintro⟨h1,h2,e,h3,h4,h5⟩
  refine⟨⟨b.toNat,List.mem_range.2 (by omega),by omega⟩,e,List.mem_filter.2 ⟨h3,?_⟩,h5⟩
  simp only[Bool.and_eq_true,decide_eq_true_eq,jm]
  exact⟨⟨h4,h2⟩,by omega⟩
theorem u0(n:Int)(l:List aV)(a:Int):(an n l a).length≤n.toNat:=by
 unfold an
 exact Nat.le_trans (List.length_filter_le _ _) (by simp)
theorem FX{s:Sy}(hf:Fit s)(hg:Good s){a:List (List Int)}(ha:kG s a)(v:Nat):∀k,k≤s.aR.length→dc s.what s.w (gu s v) (mM s a k v)∧∀e∈s.aR.take k,e.2.1=v→dc s.what s.w (iD s (a.getD e.1.toNat []) e.1.toNat) (mM s a k v)
 | 0,_=>⟨dc.refl (Gp hf hg v),fun e he=>by cases he⟩
 | k+1,hk=>by
  obtain⟨h1,h2⟩:=FX hf hg ha v k (by omega)
  have ab:k<s.aR.length:=by omega
  have hv:=TX hf hg ha v k (by omega)
  have he:=hg.yn _ (List.getElem_mem ab)
  have ho:dC s.what s.w (iD s (a.getD s.aR[k].1.toNat []) s.aR[k].1.toNat):=by
   have hx:=ha.get (i:=s.aR[k].1.toNat) (by omega)
   have:=Hs hf hg hx.ck hx.v (v:=s.aR[k].1.toNat) (by omega)
   exact⟨this.1,this.2⟩
  have kj:dc s.what s.w (mM s a k v) (mM s a (k+1) v):=by
   rw[y5 s a ab]
   unfold xU
   split
   ·exact dc.left hv ho
   ·exact dc.refl hv
  refine⟨h1.trans kj,fun e hm jI =>?_⟩
  rw[List.take_succ_eq_append_getElem ab]at hm
  rcases List.mem_append.1 hm with hm | hm
  ·exact (h2 e hm jI).trans kj
  ·rw[List.mem_singleton.1 hm]at jI ⊢
   rw[y5 s a ab]
   unfold xU
   rw[if_pos jI]
   exact dc.right hv ho
end Go.Proofs.YtnpidbjdilnhlaaGreat
