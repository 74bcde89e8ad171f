import Derived.Test.YtnpidbjdilnhlaaGreatBn23
namespace Go.Proofs.YtnpidbjdilnhlaaGreat
open Go.RowKit
set_option maxRecDepth 100000
def L9(p:Prop)(σ:Hp):AV→Hp→Prop:=fun r σ'=>∃b:Bool,r=.bool b∧σ'=σ∧(b=true→p)
theorem Wr{P:Program}{f:FuncId}{xs:List AV}{σ:Hp}{K:AV→Hp→Prop}(js:List Nat){p:Prop}{σ2:Hp}(h:ACalls P f xs (kK js σ) (L9 p σ2))(k1:p→K (.bool true) σ2)(k2:K (.bool false) σ2):CallAt P f K xs σ:=
 .mk js _ h fun r σ' ⟨b,h1,h2,h3⟩=>by subst h1 h2;cases b;exact k2;exact k1 (h3 rfl)
structure Lw(s:Sy):Prop where
 tl:s.T.length≤8
 el:s.bQ.length≤16
 nl:s.entry.length≤10
 il:s.init.length≤20
 ts:∀t∈s.T,t.1.length≤4∧t.2.1.length≤4∧t.2.2.1.length≤6
 sz:(s.n≤7∧s.w≤10)∨256<s.n∨1024<s.w
theorem Sf(s:Sy)(σ:Hp):ACalls Tryz.prog 10 [.agg (bg s)] σ (L9 (Lw s) σ):=by
 refine okF Tryz.func10 (by kernel_rfl) ?_
 intro aC
 refine aa.mk 0 _ _ rfl rfl ?_
 refine an (fun c2 =>?_) (fun c2 =>?_)
 ·have c2:7<s.n:=c2
  refine aa.mk 0 _ _ rfl rfl ?_
  refine an (fun c3 =>?_) (fun c3 =>?_)
  ·have c3:s.n≤256:=c3
   refine aa.mk 0 _ _ rfl rfl ?_
   refine an (fun c4 =>?_) (fun c4 =>?_)
   ·have c4:s.w≤1024:=c4
    exact .drop 0 1 (.done ⟨false,rfl,rfl,fun h=>by cases h⟩)
   ·have c4:¬(s.w≤1024):=c4
    refine aa.mk 0 _ _ rfl rfl ?_
    refine an (fun c5 =>?_) (fun c5 =>?_)
    ·have c5:8<(↑s.T.length:Int):=c5
     exact .drop 0 1 (.done ⟨false,rfl,rfl,fun h=>by cases h⟩)
    ·have c5:¬(8<(↑s.T.length:Int)):=c5
     refine aa.mk 0 _ _ rfl rfl ?_
     refine an (fun c6 =>?_) (fun c6 =>?_)
     ·have c6:16<(↑s.bQ.length:Int):=c6
      exact .drop 0 1 (.done ⟨false,rfl,rfl,fun h=>by cases h⟩)
     ·have c6:¬(16<(↑s.bQ.length:Int)):=c6
      refine aa.mk 0 _ _ rfl rfl ?_
      refine an (fun c7 =>?_) (fun c7 =>?_)
      ·have c7:10<(↑s.entry.length:Int):=c7
       exact .drop 0 1 (.done ⟨false,rfl,rfl,fun h=>by cases h⟩)
      ·have c7:¬(10<(↑s.entry.length:Int)):=c7
       refine aa.mk 0 _ _ rfl rfl ?_
       refine an (fun c8 =>?_) (fun c8 =>?_)
       ·have c8:20<(↑s.init.length:Int):=c8
        exact .drop 0 1 (.done ⟨false,rfl,rfl,fun h=>by cases h⟩)
       ·have c8:¬(20<(↑s.init.length:Int)):=c8
        refine aa.mk 0 _ _ rfl rfl ?_
        refine aU (S:=Nat) (fun k=>[(48,.af gR s.T),(49,.int .i64 s.T.length),(50,.int .i64 k)]) (fun _=>(aC,bg s)::σ) (fun k=>k≤s.T.length∧∀t∈s.T.take k,t.1.length≤4∧t.2.1.length≤4∧t.2.2.1.length≤6) (fun k=>s.T.length-k) 0 ⟨⟨Nat.zero_le _,fun t h=>by cases h⟩,⟨rfl,rfl,rfl,trivial⟩,rfl⟩ ?_
        rintro k g ⟨aG,eV⟩
        have hk:k≤s.T.length:=aG
        have ht:∀t∈s.T.take k,t.1.length≤4∧t.2.1.length≤4∧t.2.2.1.length≤6:=eV
        clear aG eV
        refine an (fun ab =>?_) (fun aq =>?_)
        ·have ab:k<s.T.length:=by have ab:(k:Int)<s.T.length:=ab;omega
         have fe:s.T.take (k+1)=s.T.take k++[s.T[k]]:=List.take_succ_eq_append_getElem ab
         obtain⟨t,dh⟩:∃t:jk,s.T[k]=t:=⟨_,rfl⟩
         rw[dh]at fe
         refine ah.mk rfl (aT.mk t (by omega) ((get_some ab).trans (congrArg some dh)) ?_)
         intro bM
         refine ai.mk 0 _ _ rfl rfl ?_
         refine aa.mk 0 _ _ rfl rfl ?_
         refine an (p:=4<(t.1.length:Int)) (fun d1 =>?_) (fun d1 =>?_)
         ·exact .drop 0 2 (.done ⟨false,rfl,rfl,fun h=>by cases h⟩)
         ·refine aa.mk 0 _ _ rfl rfl ?_
          refine an (p:=4<(t.2.1.length:Int)) (fun d2 =>?_) (fun d2 =>?_)
          ·exact .drop 0 2 (.done ⟨false,rfl,rfl,fun h=>by cases h⟩)
          ·refine aa.mk 0 _ _ rfl rfl ?_
           refine an (p:=6<(t.2.2.1.length:Int)) (fun d3 =>?_) (fun d3 =>?_)
           ·exact .drop 0 2 (.done ⟨false,rfl,rfl,fun h=>by cases h⟩)
           ·refine aH (k+1) (by show s.T.length-(k+1)<s.T.length-k;omega) ⟨ab,fun u hu =>?_⟩ ⟨rfl,rfl,aI (by omega),trivial⟩ (.drop 0 1 (.refl _))
            rw[fe]at hu
            rcases List.mem_append.1 hu with hu | hu
            ·exact ht u hu
            ·rw[List.mem_singleton.1 hu];omega
        ·have aq:k=s.T.length:=by have aq:¬(k:Int)<s.T.length:=aq;omega
         subst aq
         rw[List.take_length]at ht
         exact .drop 0 1 (.done ⟨true,rfl,rfl,fun _=>⟨by omega,by omega,by omega,by omega,ht,by omega⟩⟩)
  ·have c3:¬(s.n≤256):=c3
   refine aa.mk 0 _ _ rfl rfl ?_
   refine an (fun c9 =>?_) (fun c9 =>?_)
   ·have c9:8<(↑s.T.length:Int):=c9
    exact .drop 0 1 (.done ⟨false,rfl,rfl,fun h=>by cases h⟩)
   ·have c9:¬(8<(↑s.T.length:Int)):=c9
    refine aa.mk 0 _ _ rfl rfl ?_
    refine an (fun fY =>?_) (fun fY =>?_)
    ·have fY:16<(↑s.bQ.length:Int):=fY
     exact .drop 0 1 (.done ⟨false,rfl,rfl,fun h=>by cases h⟩)
    ·have fY:¬(16<(↑s.bQ.length:Int)):=fY
     refine aa.mk 0 _ _ rfl rfl ?_
     refine an (fun zo =>?_) (fun zo =>?_)
     ·have zo:10<(↑s.entry.length:Int):=zo
      exact .drop 0 1 (.done ⟨false,rfl,rfl,fun h=>by cases h⟩)
     ·have zo:¬(10<(↑s.entry.length:Int)):=zo
      refine aa.mk 0 _ _ rfl rfl ?_
      refine an (fun oP =>?_) (fun oP =>?_)
      ·have oP:20<(↑s.init.length:Int):=oP
       exact .drop 0 1 (.done ⟨false,rfl,rfl,fun h=>by cases h⟩)
      ·have oP:¬(20<(↑s.init.length:Int)):=oP
       refine aa.mk 0 _ _ rfl rfl ?_
       refine aU (S:=Nat) (fun k=>[(48,.af gR s.T),(49,.int .i64 s.T.length),(50,.int .i64 k)]) (fun _=>(aC,bg s)::σ) (fun k=>k≤s.T.length∧∀t∈s.T.take k,t.1.length≤4∧t.2.1.length≤4∧t.2.2.1.length≤6) (fun k=>s.T.length-k) 0 ⟨⟨Nat.zero_le _,fun t h=>by cases h⟩,⟨rfl,rfl,rfl,trivial⟩,rfl⟩ ?_
       rintro k g ⟨aG,eV⟩
       have hk:k≤s.T.length:=aG
       have ht:∀t∈s.T.take k,t.1.length≤4∧t.2.1.length≤4∧t.2.2.1.length≤6:=eV
       clear aG eV
       refine an (fun ab =>?_) (fun aq =>?_)
       ·have ab:k<s.T.length:=by have ab:(k:Int)<s.T.length:=ab;omega
        have fe:s.T.take (k+1)=s.T.take k++[s.T[k]]:=List.take_succ_eq_append_getElem ab
        obtain⟨t,dh⟩:∃t:jk,s.T[k]=t:=⟨_,rfl⟩
        rw[dh]at fe
        refine ah.mk rfl (aT.mk t (by omega) ((get_some ab).trans (congrArg some dh)) ?_)
        intro bM
        refine ai.mk 0 _ _ rfl rfl ?_
        refine aa.mk 0 _ _ rfl rfl ?_
        refine an (p:=4<(t.1.length:Int)) (fun d1 =>?_) (fun d1 =>?_)
        ·exact .drop 0 2 (.done ⟨false,rfl,rfl,fun h=>by cases h⟩)
        ·refine aa.mk 0 _ _ rfl rfl ?_
         refine an (p:=4<(t.2.1.length:Int)) (fun d2 =>?_) (fun d2 =>?_)
         ·exact .drop 0 2 (.done ⟨false,rfl,rfl,fun h=>by cases h⟩)
         ·refine aa.mk 0 _ _ rfl rfl ?_
          refine an (p:=6<(t.2.2.1.length:Int)) (fun d3 =>?_) (fun d3 =>?_)
          ·exact .drop 0 2 (.done ⟨false,rfl,rfl,fun h=>by cases h⟩)
          ·refine aH (k+1) (by show s.T.length-(k+1)<s.T.length-k;omega) ⟨ab,fun u hu =>?_⟩ ⟨rfl,rfl,aI (by omega),trivial⟩ (.drop 0 1 (.refl _))
           rw[fe]at hu
           rcases List.mem_append.1 hu with hu | hu
           ·exact ht u hu
           ·rw[List.mem_singleton.1 hu];omega
       ·have aq:k=s.T.length:=by have aq:¬(k:Int)<s.T.length:=aq;omega
        subst aq
        rw[List.take_length]at ht
        exact .drop 0 1 (.done ⟨true,rfl,rfl,fun _=>⟨by omega,by omega,by omega,by omega,ht,by omega⟩⟩)
 ·have c2:¬(7<s.n):=c2
  refine aa.mk 0 _ _ rfl rfl ?_
  refine an (fun zn =>?_) (fun zn =>?_)
  ·have zn:10<s.w:=zn
   refine aa.mk 0 _ _ rfl rfl ?_
   refine an (fun oO =>?_) (fun oO =>?_)
   ·have oO:s.n≤256:=oO
    refine aa.mk 0 _ _ rfl rfl ?_
    refine an (fun zm =>?_) (fun zm =>?_)
    ·have zm:s.w≤1024:=zm
     exact .drop 0 1 (.done ⟨false,rfl,rfl,fun h=>by cases h⟩)
    ·have zm:¬(s.w≤1024):=zm
     refine aa.mk 0 _ _ rfl rfl ?_
     refine an (fun oN =>?_) (fun oN =>?_)
     ·have oN:8<(↑s.T.length:Int):=oN
      exact .drop 0 1 (.done ⟨false,rfl,rfl,fun h=>by cases h⟩)
     ·have oN:¬(8<(↑s.T.length:Int)):=oN
      refine aa.mk 0 _ _ rfl rfl ?_
      refine an (fun zl =>?_) (fun zl =>?_)
      ·have zl:16<(↑s.bQ.length:Int):=zl
       exact .drop 0 1 (.done ⟨false,rfl,rfl,fun h=>by cases h⟩)
      ·have zl:¬(16<(↑s.bQ.length:Int)):=zl
       refine aa.mk 0 _ _ rfl rfl ?_
       refine an (fun zk =>?_) (fun zk =>?_)
       ·have zk:10<(↑s.entry.length:Int):=zk
        exact .drop 0 1 (.done ⟨false,rfl,rfl,fun h=>by cases h⟩)
       ·have zk:¬(10<(↑s.entry.length:Int)):=zk
        refine aa.mk 0 _ _ rfl rfl ?_
        refine an (fun zj =>?_) (fun zj =>?_)
        ·have zj:20<(↑s.init.length:Int):=zj
         exact .drop 0 1 (.done ⟨false,rfl,rfl,fun h=>by cases h⟩)
        ·have zj:¬(20<(↑s.init.length:Int)):=zj
         refine aa.mk 0 _ _ rfl rfl ?_
         refine aU (S:=Nat) (fun k=>[(48,.af gR s.T),(49,.int .i64 s.T.length),(50,.int .i64 k)]) (fun _=>(aC,bg s)::σ) (fun k=>k≤s.T.length∧∀t∈s.T.take k,t.1.length≤4∧t.2.1.length≤4∧t.2.2.1.length≤6) (fun k=>s.T.length-k) 0 ⟨⟨Nat.zero_le _,fun t h=>by cases h⟩,⟨rfl,rfl,rfl,trivial⟩,rfl⟩ ?_
         rintro k g ⟨aG,eV⟩
         have hk:k≤s.T.length:=aG
         have ht:∀t∈s.T.take k,t.1.length≤4∧t.2.1.length≤4∧t.2.2.1.length≤6:=eV
         clear aG eV
         refine an (fun ab =>?_) (fun aq =>?_)
         ·have ab:k<s.T.length:=by have ab:(k:Int)<s.T.length:=ab;omega
          have fe:s.T.take (k+1)=s.T.take k++[s.T[k]]:=List.take_succ_eq_append_getElem ab
          obtain⟨t,dh⟩:∃t:jk,s.T[k]=t:=⟨_,rfl⟩
          rw[dh]at fe
          refine ah.mk rfl (aT.mk t (by omega) ((get_some ab).trans (congrArg some dh)) ?_)
          intro bM
          refine ai.mk 0 _ _ rfl rfl ?_
          refine aa.mk 0 _ _ rfl rfl ?_
          refine an (p:=4<(t.1.length:Int)) (fun d1 =>?_) (fun d1 =>?_)
          ·exact .drop 0 2 (.done ⟨false,rfl,rfl,fun h=>by cases h⟩)
          ·refine aa.mk 0 _ _ rfl rfl ?_
           refine an (p:=4<(t.2.1.length:Int)) (fun d2 =>?_) (fun d2 =>?_)
           ·exact .drop 0 2 (.done ⟨false,rfl,rfl,fun h=>by cases h⟩)
           ·refine aa.mk 0 _ _ rfl rfl ?_
            refine an (p:=6<(t.2.2.1.length:Int)) (fun d3 =>?_) (fun d3 =>?_)
            ·exact .drop 0 2 (.done ⟨false,rfl,rfl,fun h=>by cases h⟩)
            ·refine aH (k+1) (by show s.T.length-(k+1)<s.T.length-k;omega) ⟨ab,fun u hu =>?_⟩ ⟨rfl,rfl,aI (by omega),trivial⟩ (.drop 0 1 (.refl _))
             rw[fe]at hu
             rcases List.mem_append.1 hu with hu | hu
             ·exact ht u hu
             ·rw[List.mem_singleton.1 hu];omega
         ·have aq:k=s.T.length:=by have aq:¬(k:Int)<s.T.length:=aq;omega
          subst aq
          rw[List.take_length]at ht
          exact .drop 0 1 (.done ⟨true,rfl,rfl,fun _=>⟨by omega,by omega,by omega,by omega,ht,by omega⟩⟩)
   ·have oO:¬(s.n≤256):=oO
    refine aa.mk 0 _ _ rfl rfl ?_
    refine an (fun zi =>?_) (fun zi =>?_)
    ·have zi:8<(↑s.T.length:Int):=zi
     exact .drop 0 1 (.done ⟨false,rfl,rfl,fun h=>by cases h⟩)
    ·have zi:¬(8<(↑s.T.length:Int)):=zi
     refine aa.mk 0 _ _ rfl rfl ?_
     refine an (fun zh =>?_) (fun zh =>?_)
     ·have zh:16<(↑s.bQ.length:Int):=zh
      exact .drop 0 1 (.done ⟨false,rfl,rfl,fun h=>by cases h⟩)
     ·have zh:¬(16<(↑s.bQ.length:Int)):=zh
      refine aa.mk 0 _ _ rfl rfl ?_
      refine an (fun zg =>?_) (fun zg =>?_)
      ·have zg:10<(↑s.entry.length:Int):=zg
       exact .drop 0 1 (.done ⟨false,rfl,rfl,fun h=>by cases h⟩)
      ·have zg:¬(10<(↑s.entry.length:Int)):=zg
       refine aa.mk 0 _ _ rfl rfl ?_
       refine an (fun zf =>?_) (fun zf =>?_)
       ·have zf:20<(↑s.init.length:Int):=zf
        exact .drop 0 1 (.done ⟨false,rfl,rfl,fun h=>by cases h⟩)
       ·have zf:¬(20<(↑s.init.length:Int)):=zf
        refine aa.mk 0 _ _ rfl rfl ?_
        refine aU (S:=Nat) (fun k=>[(48,.af gR s.T),(49,.int .i64 s.T.length),(50,.int .i64 k)]) (fun _=>(aC,bg s)::σ) (fun k=>k≤s.T.length∧∀t∈s.T.take k,t.1.length≤4∧t.2.1.length≤4∧t.2.2.1.length≤6) (fun k=>s.T.length-k) 0 ⟨⟨Nat.zero_le _,fun t h=>by cases h⟩,⟨rfl,rfl,rfl,trivial⟩,rfl⟩ ?_
        rintro k g ⟨aG,eV⟩
        have hk:k≤s.T.length:=aG
        have ht:∀t∈s.T.take k,t.1.length≤4∧t.2.1.length≤4∧t.2.2.1.length≤6:=eV
        clear aG eV
        refine an (fun ab =>?_) (fun aq =>?_)
        ·have ab:k<s.T.length:=by have ab:(k:Int)<s.T.length:=ab;omega
         have fe:s.T.take (k+1)=s.T.take k++[s.T[k]]:=List.take_succ_eq_append_getElem ab
         obtain⟨t,dh⟩:∃t:jk,s.T[k]=t:=⟨_,rfl⟩
         rw[dh]at fe
         refine ah.mk rfl (aT.mk t (by omega) ((get_some ab).trans (congrArg some dh)) ?_)
         intro bM
         refine ai.mk 0 _ _ rfl rfl ?_
         refine aa.mk 0 _ _ rfl rfl ?_
         refine an (p:=4<(t.1.length:Int)) (fun d1 =>?_) (fun d1 =>?_)
         ·exact .drop 0 2 (.done ⟨false,rfl,rfl,fun h=>by cases h⟩)
         ·refine aa.mk 0 _ _ rfl rfl ?_
          refine an (p:=4<(t.2.1.length:Int)) (fun d2 =>?_) (fun d2 =>?_)
          ·exact .drop 0 2 (.done ⟨false,rfl,rfl,fun h=>by cases h⟩)
          ·refine aa.mk 0 _ _ rfl rfl ?_
           refine an (p:=6<(t.2.2.1.length:Int)) (fun d3 =>?_) (fun d3 =>?_)
           ·exact .drop 0 2 (.done ⟨false,rfl,rfl,fun h=>by cases h⟩)
           ·refine aH (k+1) (by show s.T.length-(k+1)<s.T.length-k;omega) ⟨ab,fun u hu =>?_⟩ ⟨rfl,rfl,aI (by omega),trivial⟩ (.drop 0 1 (.refl _))
            rw[fe]at hu
            rcases List.mem_append.1 hu with hu | hu
            ·exact ht u hu
            ·rw[List.mem_singleton.1 hu];omega
        ·have aq:k=s.T.length:=by have aq:¬(k:Int)<s.T.length:=aq;omega
         subst aq
         rw[List.take_length]at ht
         exact .drop 0 1 (.done ⟨true,rfl,rfl,fun _=>⟨by omega,by omega,by omega,by omega,ht,by omega⟩⟩)
  ·have zn:¬(10<s.w):=zn
   refine aa.mk 0 _ _ rfl rfl ?_
   refine an (fun ze =>?_) (fun ze =>?_)
   ·have ze:8<(↑s.T.length:Int):=ze
    exact .drop 0 1 (.done ⟨false,rfl,rfl,fun h=>by cases h⟩)
   ·have ze:¬(8<(↑s.T.length:Int)):=ze
    refine aa.mk 0 _ _ rfl rfl ?_
    refine an (fun zd =>?_) (fun zd =>?_)
    ·have zd:16<(↑s.bQ.length:Int):=zd
     exact .drop 0 1 (.done ⟨false,rfl,rfl,fun h=>by cases h⟩)
    ·have zd:¬(16<(↑s.bQ.length:Int)):=zd
     refine aa.mk 0 _ _ rfl rfl ?_
     refine an (fun zc =>?_) (fun zc =>?_)
     ·have zc:10<(↑s.entry.length:Int):=zc
      exact .drop 0 1 (.done ⟨false,rfl,rfl,fun h=>by cases h⟩)
     ·have zc:¬(10<(↑s.entry.length:Int)):=zc
      refine aa.mk 0 _ _ rfl rfl ?_
      refine an (fun zb =>?_) (fun zb =>?_)
      ·have zb:20<(↑s.init.length:Int):=zb
       exact .drop 0 1 (.done ⟨false,rfl,rfl,fun h=>by cases h⟩)
      ·have zb:¬(20<(↑s.init.length:Int)):=zb
       refine aa.mk 0 _ _ rfl rfl ?_
       refine aU (S:=Nat) (fun k=>[(48,.af gR s.T),(49,.int .i64 s.T.length),(50,.int .i64 k)]) (fun _=>(aC,bg s)::σ) (fun k=>k≤s.T.length∧∀t∈s.T.take k,t.1.length≤4∧t.2.1.length≤4∧t.2.2.1.length≤6) (fun k=>s.T.length-k) 0 ⟨⟨Nat.zero_le _,fun t h=>by cases h⟩,⟨rfl,rfl,rfl,trivial⟩,rfl⟩ ?_
       rintro k g ⟨aG,eV⟩
       have hk:k≤s.T.length:=aG
       have ht:∀t∈s.T.take k,t.1.length≤4∧t.2.1.length≤4∧t.2.2.1.length≤6:=eV
       clear aG eV
       refine an (fun ab =>?_) (fun aq =>?_)
       ·have ab:k<s.T.length:=by have ab:(k:Int)<s.T.length:=ab;omega
        have fe:s.T.take (k+1)=s.T.take k++[s.T[k]]:=List.take_succ_eq_append_getElem ab
        obtain⟨t,dh⟩:∃t:jk,s.T[k]=t:=⟨_,rfl⟩
        rw[dh]at fe
        refine ah.mk rfl (aT.mk t (by omega) ((get_some ab).trans (congrArg some dh)) ?_)
        intro bM
        refine ai.mk 0 _ _ rfl rfl ?_
        refine aa.mk 0 _ _ rfl rfl ?_
        refine an (p:=4<(t.1.length:Int)) (fun d1 =>?_) (fun d1 =>?_)
        ·exact .drop 0 2 (.done ⟨false,rfl,rfl,fun h=>by cases h⟩)
        ·refine aa.mk 0 _ _ rfl rfl ?_
         refine an (p:=4<(t.2.1.length:Int)) (fun d2 =>?_) (fun d2 =>?_)
         ·exact .drop 0 2 (.done ⟨false,rfl,rfl,fun h=>by cases h⟩)
         ·refine aa.mk 0 _ _ rfl rfl ?_
          refine an (p:=6<(t.2.2.1.length:Int)) (fun d3 =>?_) (fun d3 =>?_)
          ·exact .drop 0 2 (.done ⟨false,rfl,rfl,fun h=>by cases h⟩)
          ·refine aH (k+1) (by show s.T.length-(k+1)<s.T.length-k;omega) ⟨ab,fun u hu =>?_⟩ ⟨rfl,rfl,aI (by omega),trivial⟩ (.drop 0 1 (.refl _))
           rw[fe]at hu
           rcases List.mem_append.1 hu with hu | hu
           ·exact ht u hu
           ·rw[List.mem_singleton.1 hu];omega
       ·have aq:k=s.T.length:=by have aq:¬(k:Int)<s.T.length:=aq;omega
        subst aq
        rw[List.take_length]at ht
        exact .drop 0 1 (.done ⟨true,rfl,rfl,fun _=>⟨by omega,by omega,by omega,by omega,ht,by omega⟩⟩)
theorem Vf{s:Sy}(h:Lw s)(hi:bJ s.init)(ht:∀t∈s.T,bJ t.1∧bJ t.2.1):Fit s:=by
 obtain⟨h1,h2,h3,h4,h5,_⟩:=h
 exact⟨hi,by omega,by omega,by omega,by omega,fun t hm=>⟨(ht t hm).1,(ht t hm).2,by have:=h5 t hm;omega,by have:=h5 t hm;omega,by have:=h5 t hm;omega⟩⟩
theorem AB{f:FuncId}{xs:List AV}{σ:Hp}{K:AV→Hp→Prop}(i k b':Nat)(cs':List AV)(e:Sh)(hi:σ[i]?=some (b',cs'))(hk:cs'[k]?=some .aj)(h:CallAt Tryz.prog f K xs (σ.set i (b',cs'.set k (.af e [])))):CallAt Tryz.prog f K xs σ:=
 .mk [] K ⟨(sW h).1,fun F w vs bD aD=>(sW h).2 F w vs bD (Kg aD e hi hk)⟩ fun _ _ h=>h
theorem xd{b off len es:Nat}{e:Sh}{l:List e.T}{xs ys:List AV}(h:dp b off len es e l (.tup xs) (.tup ys))(hl:ys.all AV.leaf=true):dp b off len es e l (.agg xs) (.agg ys):=by
 cases h with
 | refl=>exact .refl _
 | tup _ _ h1 h2=>exact .agg _ _ h1 (fun i y hy=>List.all_eq_true.1 hl y (List.mem_of_getElem? hy)) h2
end Go.Proofs.YtnpidbjdilnhlaaGreat
