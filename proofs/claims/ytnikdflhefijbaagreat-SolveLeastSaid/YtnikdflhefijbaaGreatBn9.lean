import Derived.Test.YtnikdflhefijbaaGreatBn8
import Derived.Test.YtnikdflhefijbaaGreatBn6
import Derived.Test.YtnikdflhefijbaaGreatBn7
namespace Go.Proofs.YtnikdflhefijbaaGreat
open Go.RowKit
set_option maxRecDepth 100000
def nj(l:List Int):Int:=if (l.any fun w=>decide (aK w=0)) then 0 else if (l.any fun w=>decide (aK w=1)) then 1 else 2
theorem WK(l:List Int)(w:Int)(h:(l.any fun w=>decide (aK w=0))=false):nj (l++[w])=if aK w=0 then 0 else if aK w=1 then 1 else nj l:=by
 unfold nj
 rw[gt0,gt0,h]
 by_cases h0:aK w=0
 ·simp[h0]
 ·by_cases h1:aK w=1
  ·simp[h1]
  ·simp[h0,h1]
theorem WJ(l:List Int){w:Int}(hm:w∈l)(h:aK w=0):nj l=0:=by
 unfold nj
 rw[ah]
 exact mV.2 ⟨w,hm,bu h⟩
theorem LR(l:List Int)(σ:Hp)(hl:l.length≤100000):ACalls Tryz.prog 343 [.af (.int .u64) l] σ (aE (.int .u64 (nj l)) σ):=by
 refine az Tryz.func343 ?_
 refine cc (S:=Nat) (fun s=>[(3,.int .u64 (nj (l.take s))),(6,.af (.int .u64) l),(7,.int .i64 l.length),(8,.int .i64 s)]) (fun _=>σ) (fun s=>s≤l.length∧((l.take s).any fun w=>decide (aK w=0))=false) (fun s=>l.length-s) 0 ⟨⟨bD _,rfl⟩,⟨rfl,rfl,rfl,rfl,trivial⟩,rfl⟩ ?_
 rintro k g ⟨aP,iJ⟩
 have hk:k≤l.length:=aP
 have hz:((l.take k).any fun w=>decide (aK w=0))=false:=iJ
 clear aP iJ
 refine aq (fun ab=>?_) (fun au=>?_)
 ·have ab:k<l.length:=by have ab:(k:Int)<l.length:=ab;omega
  have hs:=WK (l.take k) l[k] hz
  rw[← fL ab]at hs
  have fJ:((l.take (k+1)).any fun w=>decide (aK w=0))=decide (aK l[k]=0):=by
   rw[List.take_succ_eq_append_getElem ab,List.any_append,hz];simp
  refine aI.mk rfl (bL.mk l[k] (by omega) (get_some ab) ?_)
  refine ay [] (Mr l[k] _) ?_
  refine aq (fun c1=>?_) (fun c1=>?_)
  ·have c1:aK l[k]=0:=c1
   refine .fwd 1 ?_
   rw[WJ l (cj ab) c1]
   exact .done ⟨rfl,rfl⟩
  ·have c1:¬(aK l[k]=0):=c1
   refine aq (fun c2=>?_) (fun c2=>?_)
   ·have c2:aK l[k]=1:=c2
    refine bj (k+1) (by show l.length-(k+1)<l.length-k;omega) ⟨ab,by rw[fJ];exact bZ c1⟩ ⟨?_,rfl,rfl,aY (by omega),trivial⟩ (.refl _)
    rw[hs,ag c1,ah c2]
    rfl
   ·have c2:¬(aK l[k]=1):=c2
    refine bj (k+1) (by show l.length-(k+1)<l.length-k;omega) ⟨ab,by rw[fJ];exact bZ c1⟩ ⟨?_,rfl,rfl,aY (by omega),trivial⟩ (.refl _)
    rw[hs,ag c1,ag c2]
    rfl
 ·have au:k=l.length:=by have au:¬(k:Int)<l.length:=au;omega
  subst au
  rw[gn]
  exact .done ⟨rfl,rfl⟩
theorem Gl{w:Int}(h0:aK w≠0)(h1:aK w≠1):eA w=true∧aK w=w:=by
 unfold aK at *
 by_cases a:w=0
 ·rw[ah a]at h0;exact absurd rfl h0
 ·rw[ag a]at h0 h1 ⊢
  by_cases b:w=1
  ·rw[ah b]at h1;exact absurd rfl h1
  ·rw[ag b]at h0 h1 ⊢
   cases c:eA w with
   |true=>exact⟨rfl,rfl⟩
   |false=>rw[c]at h1;exact absurd rfl h1
theorem adQ{op:Int}(h:op=0∨op=4)(a b c d c2 d2:Int):iI op a b c d=iI op a b c2 d2:=by
 rcases h with rfl | rfl <;> rfl
def mJ(op a b:Int):Int:=match iI op (j9 a) (ka a) (j9 b) (ka b) with | some (x,y)=>lr x y | none=>1
def fP(op a b:Int):Int:=if aK a=0∨aK b=0 then 0 else if aK a=1∨aK b=1 then 1 else mJ op a b
def jU(op a b:Int):Int:=if op=0∨op=4 then fP op a 2 else fP op a b
theorem adW(x y:Int):2≤lr x y:=by have:=Ci x y;unfold lr;omega
theorem adV(x y:Int):eA (lr x y)=true:=by
 have h1:=Ci x y
 have h2:=Gf x y
 unfold eA lr;simp;omega
theorem norm_num{w:Int}(h:eA w=true):aK w=w:=by
 have:=KI h
 unfold aK
 rw[ag this.1,ag this.2,ah h]
theorem abW{op:Int}(h:op=0∨op=4)(a b c:Int):mJ op a b=mJ op a c:=by
 unfold mJ
 rw[adQ h (j9 a) (ka a) (j9 b) (ka b) (j9 c) (ka c)]
theorem Cn:aK 2=2:=by decide
theorem FE{op:Int}(a b:Int)(h:op=0∨op=4):jU op a b=if nj [a]=2 then mJ op a b else nj [a]:=by
 unfold jU fP nj
 rw[ah h,Cn,abW h a b 2]
 by_cases h0:aK a=0
 ·simp[h0]
 ·by_cases h1:aK a=1
  ·simp[h1]
  ·simp[h0,h1]
theorem PR{op:Int}(a b:Int)(h:¬(op=0∨op=4)):jU op a b=if nj [a,b]=2 then mJ op a b else nj [a,b]:=by
 unfold jU fP nj
 rw[ag h]
 by_cases h0:aK a=0
 ·simp[h0]
 ·by_cases h1:aK a=1
  ·by_cases g0:aK b=0
   ·simp[g0]
   ·simp[h1,g0]
  ·by_cases g0:aK b=0
   ·simp[g0]
   ·by_cases g1:aK b=1
    ·simp[h0,g1]
    ·simp[h0,h1,g0,g1]
theorem agF(op a b:Int)(σ:Hp)(ha:bH a)(hb:bH b):ACalls Tryz.prog 332 [.int .i64 op,.int .u64 a,.int .u64 b] σ (aE (.int .u64 (jU op a b)) σ):=by
 refine az Tryz.func332 ?_
 intro aG
 refine .cJ (args':=[.af (.int .u64) [a,b]]) 0 aG 0 2 1 _ (.int .u64) [a,b] rfl rfl ⟨rfl,rfl,by decide⟩ (cE .here uw) (ay [] (LR [a,b] _ (by show 2≤100000;omega)) ?_)
 refine aq (fun c1=>?_) (fun c1=>?_)
 ·have c1:op=0:=c1
  intro dw
  refine .cJ (args':=[.af (.int .u64) [a]]) 0 dw 0 1 1 _ (.int .u64) [a] rfl rfl ⟨rfl,rfl,by decide⟩ (cE .here uw) (ay [] (LR [a] _ (by show 1≤100000;omega)) ?_)
  generalize hL:nj [a]=L
  refine ew (fun c5=>?_) (fun c5=>?_)
  ·have c5:¬(L=2):=by simpa using c5
   rw[FE a b (.inl c1),ag (by rw[hL];exact c5),hL]
   exact .done ⟨rfl,rfl⟩
  ·have c5:L=2:=by simpa using c5
   rw[FE a b (.inl c1),ah (by rw[hL];exact c5)]
   refine ay [] (AE a _ ha) ?_
   intro p1
   refine ai 0 ?_
   refine ay [] (AE b _ hb) ?_
   intro p2
   refine ai 0 ?_
   refine aa 1 ?_
   refine aa 0 ?_
   refine ay [] (MT op _ _ _ _ _) ?_
   unfold mJ
   cases hr:iI op (j9 a) (ka a) (j9 b) (ka b) with
   |none=>
    intro p3
    refine ai 0 ?_
    exact .drop 0 3 (.done ⟨rfl,rfl⟩)
   |some xy=>
    obtain⟨x,y⟩:=xy
    intro p3
    refine ai 0 ?_
    refine aa 0 ?_
    refine ay [] (HF x y _) ?_
    exact .drop 0 3 (.done ⟨rfl,rfl⟩)
 ·have c1:¬(op=0):=c1
  refine aq (fun c3=>?_) (fun c3=>?_)
  ·have c3:op=4:=c3
   intro JG
   refine .cJ (args':=[.af (.int .u64) [a]]) 0 JG 0 1 1 _ (.int .u64) [a] rfl rfl ⟨rfl,rfl,by decide⟩ (cE .here uw) (ay [] (LR [a] _ (by show 1≤100000;omega)) ?_)
   generalize hL:nj [a]=L
   refine ew (fun c5=>?_) (fun c5=>?_)
   ·have c5:¬(L=2):=by simpa using c5
    rw[FE a b (.inr c3),ag (by rw[hL];exact c5),hL]
    exact .done ⟨rfl,rfl⟩
   ·have c5:L=2:=by simpa using c5
    rw[FE a b (.inr c3),ah (by rw[hL];exact c5)]
    refine ay [] (AE a _ ha) ?_
    intro p1
    refine ai 0 ?_
    refine ay [] (AE b _ hb) ?_
    intro p2
    refine ai 0 ?_
    refine aa 1 ?_
    refine aa 0 ?_
    refine ay [] (MT op _ _ _ _ _) ?_
    unfold mJ
    cases hr:iI op (j9 a) (ka a) (j9 b) (ka b) with
    |none=>
     intro p3
     refine ai 0 ?_
     exact .drop 0 3 (.done ⟨rfl,rfl⟩)
    |some xy=>
     obtain⟨x,y⟩:=xy
     intro p3
     refine ai 0 ?_
     refine aa 0 ?_
     refine ay [] (HF x y _) ?_
     exact .drop 0 3 (.done ⟨rfl,rfl⟩)
  ·have c3:¬(op=4):=c3
   generalize hL:nj [a,b]=L
   refine ew (fun c5=>?_) (fun c5=>?_)
   ·have c5:¬(L=2):=by simpa using c5
    rw[PR a b (fun h=>h.elim c1 c3),ag (by rw[hL];exact c5),hL]
    exact .done ⟨rfl,rfl⟩
   ·have c5:L=2:=by simpa using c5
    rw[PR a b (fun h=>h.elim c1 c3),ah (by rw[hL];exact c5)]
    refine ay [] (AE a _ ha) ?_
    intro p1
    refine ai 0 ?_
    refine ay [] (AE b _ hb) ?_
    intro p2
    refine ai 0 ?_
    refine aa 1 ?_
    refine aa 0 ?_
    refine ay [] (MT op _ _ _ _ _) ?_
    unfold mJ
    cases hr:iI op (j9 a) (ka a) (j9 b) (ka b) with
    |none=>
     intro p3
     refine ai 0 ?_
     exact .drop 0 3 (.done ⟨rfl,rfl⟩)
    |some xy=>
     obtain⟨x,y⟩:=xy
     intro p3
     refine ai 0 ?_
     refine aa 0 ?_
     refine ay [] (HF x y _) ?_
     exact .drop 0 3 (.done ⟨rfl,rfl⟩)
theorem jN(w:Int):aK (aK w)=aK w:=by
 by_cases h0:aK w=0
 ·rw[h0];rfl
 ·by_cases h1:aK w=1
  ·rw[h1];rfl
  ·rw[(Gl h0 h1).2];exact (Gl h0 h1).2
theorem QF(op a b:Int):fP op (aK a) (aK b)=fP op a b:=by
 unfold fP
 rw[jN,jN]
 by_cases h0:aK a=0∨aK b=0
 ·rw[ah h0,ah h0]
 ·by_cases h1:aK a=1∨aK b=1
  ·rw[ag h0,ah h1,ag h0,ah h1]
  ·rw[ag h0,ag h1,ag h0,ag h1]
   have ha:=(Gl (w:=a) (fun h=>h0 (.inl h)) (fun h=>h1 (.inl h))).2
   have hb:=(Gl (w:=b) (fun h=>h0 (.inr h)) (fun h=>h1 (.inr h))).2
   rw[ha,hb]
theorem aaj:lr 0 0=2:=by decide
theorem aex(op a b:Int)(σ:Hp)(ha:bH a)(hb:bH b):ACalls Tryz.prog 264 [.int .i64 op,.int .u64 a,.int .u64 b] σ (aE (.int .u64 (jU op a b)) σ):=by
 have na:=GN ha
 have nb:=GN hb
 obtain⟨B,hB⟩:∃B:Int,B=2:=⟨_,rfl⟩
 have wB:bH B:=by rw[hB];unfold bH;omega
 have nB:aK B=B:=by rw[hB];exact Cn
 have hOf:∀σ,ACalls Tryz.prog 293 [.agg (nC 0 0)] σ (aE (.int .u64 B) σ):=fun σ=>by rw[hB,← aaj];exact C8 0 0 σ
 have e04:(op=0∨op=4)→jU op a b=fP op (aK a) B:=fun h=>by unfold jU;rw[ah h,← QF,Cn,hB]
 clear hB
 refine az Tryz.func264 ?_
 refine ay [] (Hm a _ ha.1 ha.2) ?_
 refine ay [] (Hm b _ hb.1 hb.2) ?_
 refine aq (fun d1=>?_) (fun d1=>?_)
 ·have d1:op=0:=d1
  rw[e04 (.inl d1)]
  refine ay [] (hOf _) ?_
  refine aq (fun c1=>?_) (fun c1=>?_)
  ·have c1:aK a=0:=c1
   unfold fP
   rw[jN,ah (.inl c1)]
   exact .done ⟨rfl,rfl⟩
  ·have c1:¬aK a=0:=c1
   refine aq (fun c2=>?_) (fun c2=>?_)
   ·have c2:B=0:=c2
    unfold fP
    rw[jN,ah (.inr (nB.trans c2))]
    exact .done ⟨rfl,rfl⟩
   ·have c2:¬B=0:=c2
    refine aq (fun c3=>?_) (fun c3=>?_)
    ·have c3:aK a=1:=c3
     unfold fP
     rw[jN,ag (fun h=>h.elim c1 fun h=>c2 (nB.symm.trans h)),ah (.inl c3)]
     exact .done ⟨rfl,rfl⟩
    ·have c3:¬aK a=1:=c3
     refine aq (fun c4=>?_) (fun c4=>?_)
     ·have c4:B=1:=c4
      unfold fP
      rw[jN,ag (fun h=>h.elim c1 fun h=>c2 (nB.symm.trans h)),ah (.inr (nB.trans c4))]
      exact .done ⟨rfl,rfl⟩
     ·have c4:¬B=1:=c4
      unfold fP
      rw[jN,ag (fun h=>h.elim c1 fun h=>c2 (nB.symm.trans h)),ag (fun h=>h.elim c3 fun h=>c4 (nB.symm.trans h))]
      unfold mJ
      refine ay [] (Au (aK a) _ na) ?_
      intro p1
      refine ai 0 ?_
      refine ay [] (Au (B) _ wB) ?_
      intro p2
      refine ai 0 ?_
      refine aa 1 ?_
      refine aa 0 ?_
      refine ay [] (MA op _ _ _ _ _) ?_
      cases hr:iI op (j9 (aK a)) (ka (aK a)) (j9 (B)) (ka (B)) with
      |none=>
       intro p3
       refine ai 0 ?_
       exact .drop 0 3 (.done ⟨rfl,rfl⟩)
      |some xy=>
       obtain⟨x,y⟩:=xy
       intro p3
       refine ai 0 ?_
       refine aa 0 ?_
       refine ay [] (C8 x y _) ?_
       exact .drop 0 3 (.done ⟨rfl,rfl⟩)
 ·have d1:¬op=0:=d1
  refine aq (fun d2=>?_) (fun d2=>?_)
  ·have d2:op=4:=d2
   rw[e04 (.inr d2)]
   refine ay [] (hOf _) ?_
   refine aq (fun c1=>?_) (fun c1=>?_)
   ·have c1:aK a=0:=c1
    unfold fP
    rw[jN,ah (.inl c1)]
    exact .done ⟨rfl,rfl⟩
   ·have c1:¬aK a=0:=c1
    refine aq (fun c2=>?_) (fun c2=>?_)
    ·have c2:B=0:=c2
     unfold fP
     rw[jN,ah (.inr (nB.trans c2))]
     exact .done ⟨rfl,rfl⟩
    ·have c2:¬B=0:=c2
     refine aq (fun c3=>?_) (fun c3=>?_)
     ·have c3:aK a=1:=c3
      unfold fP
      rw[jN,ag (fun h=>h.elim c1 fun h=>c2 (nB.symm.trans h)),ah (.inl c3)]
      exact .done ⟨rfl,rfl⟩
     ·have c3:¬aK a=1:=c3
      refine aq (fun c4=>?_) (fun c4=>?_)
      ·have c4:B=1:=c4
       unfold fP
       rw[jN,ag (fun h=>h.elim c1 fun h=>c2 (nB.symm.trans h)),ah (.inr (nB.trans c4))]
       exact .done ⟨rfl,rfl⟩
      ·have c4:¬B=1:=c4
       unfold fP
       rw[jN,ag (fun h=>h.elim c1 fun h=>c2 (nB.symm.trans h)),ag (fun h=>h.elim c3 fun h=>c4 (nB.symm.trans h))]
       unfold mJ
       refine ay [] (Au (aK a) _ na) ?_
       intro p1
       refine ai 0 ?_
       refine ay [] (Au (B) _ wB) ?_
       intro p2
       refine ai 0 ?_
       refine aa 1 ?_
       refine aa 0 ?_
       refine ay [] (MA op _ _ _ _ _) ?_
       cases hr:iI op (j9 (aK a)) (ka (aK a)) (j9 (B)) (ka (B)) with
       |none=>
        intro p3
        refine ai 0 ?_
        exact .drop 0 3 (.done ⟨rfl,rfl⟩)
       |some xy=>
        obtain⟨x,y⟩:=xy
        intro p3
        refine ai 0 ?_
        refine aa 0 ?_
        refine ay [] (C8 x y _) ?_
        exact .drop 0 3 (.done ⟨rfl,rfl⟩)
  ·have d2:¬op=4:=d2
   rw[show jU op a b=fP op (aK a) (aK b) by unfold jU;rw[ag (fun h=>h.elim d1 d2),QF]]
   refine aq (fun c1=>?_) (fun c1=>?_)
   ·have c1:aK a=0:=c1
    unfold fP
    rw[jN,ah (.inl c1)]
    exact .done ⟨rfl,rfl⟩
   ·have c1:¬aK a=0:=c1
    refine aq (fun c2=>?_) (fun c2=>?_)
    ·have c2:(aK b)=0:=c2
     unfold fP
     rw[jN,ah (.inr ((jN b).trans c2))]
     exact .done ⟨rfl,rfl⟩
    ·have c2:¬(aK b)=0:=c2
     refine aq (fun c3=>?_) (fun c3=>?_)
     ·have c3:aK a=1:=c3
      unfold fP
      rw[jN,ag (fun h=>h.elim c1 fun h=>c2 ((jN b).symm.trans h)),ah (.inl c3)]
      exact .done ⟨rfl,rfl⟩
     ·have c3:¬aK a=1:=c3
      refine aq (fun c4=>?_) (fun c4=>?_)
      ·have c4:(aK b)=1:=c4
       unfold fP
       rw[jN,ag (fun h=>h.elim c1 fun h=>c2 ((jN b).symm.trans h)),ah (.inr ((jN b).trans c4))]
       exact .done ⟨rfl,rfl⟩
      ·have c4:¬(aK b)=1:=c4
       unfold fP
       rw[jN,ag (fun h=>h.elim c1 fun h=>c2 ((jN b).symm.trans h)),ag (fun h=>h.elim c3 fun h=>c4 ((jN b).symm.trans h))]
       unfold mJ
       refine ay [] (Au (aK a) _ na) ?_
       intro p1
       refine ai 0 ?_
       refine ay [] (Au ((aK b)) _ nb) ?_
       intro p2
       refine ai 0 ?_
       refine aa 1 ?_
       refine aa 0 ?_
       refine ay [] (MA op _ _ _ _ _) ?_
       cases hr:iI op (j9 (aK a)) (ka (aK a)) (j9 ((aK b))) (ka ((aK b))) with
       |none=>
        intro p3
        refine ai 0 ?_
        exact .drop 0 3 (.done ⟨rfl,rfl⟩)
       |some xy=>
        obtain⟨x,y⟩:=xy
        intro p3
        refine ai 0 ?_
        refine aa 0 ?_
        refine ay [] (C8 x y _) ?_
        exact .drop 0 3 (.done ⟨rfl,rfl⟩)
theorem adl(g:Nat)(cap:List AV)(l:List (Sh.T (.int .u64)))(p:Sh.T (.int .u64)→Bool)(σ:Hp)(hl:l.length≤1000000)(hg:∀(i:Nat) (hi:i<l.length),ACalls Tryz.prog g (.int .u64 l[i]::cap) σ (aE (.bool (p l[i])) σ)):ACalls Tryz.prog 250 [.af (.int .u64) l,.fn (.func g) [] cap] σ (fun r σ'=>∃n:Int,r=.int .i64 n∧σ'=σ∧decide (0≤n)=l.any p):=by
 refine az Tryz.func250 ?_
 refine cc (S:=Nat) (fun s=>[(0,.af (.int .u64) l),(1,.fn (.func g) [] cap),(7,.int .i64 l.length),(8,.int .i64 s)]) (fun _=>σ) (fun s=>s≤l.length∧(l.take s).any p=false) (fun s=>l.length-s) 0 ⟨⟨bD _,rfl⟩,⟨rfl,rfl,rfl,rfl,trivial⟩,rfl⟩ ?_
 rintro k t ⟨aP,fY⟩
 have hk:k≤l.length:=aP
 have hn:(l.take k).any p=false:=fY
 clear aP fY
 refine aq (fun ab=>?_) (fun au=>?_)
 ·have ab:k<l.length:=by have ab:(k:Int)<l.length:=ab;omega
  have hs:=rM ab p
  rw[hn,pM]at hs
  refine aI.mk rfl (bL.mk l[k] (by omega) (get_some ab) ?_)
  refine eK [] (hg k ab) (fun c=>?_) (fun c=>?_)
  ·have hp:l.any p=true:=mV.2 ⟨l[k],cj ab,c⟩
   exact .done ⟨_,rfl,rfl,by rw[hp];exact bu (by omega)⟩
  ·exact bj (k+1) (by show l.length-(k+1)<l.length-k;omega) ⟨ab,hs.trans c⟩ ⟨rfl,rfl,rfl,aY (by omega),trivial⟩ (.refl _)
 ·have au:k=l.length:=by have au:¬(k:Int)<l.length:=au;omega
  subst au
  rw[gn]at hn
  exact .done ⟨_,rfl,rfl,by rw[hn];rfl⟩
theorem X5(g:Nat)(cap:List AV)(l:List (Sh.T (.int .u64)))(p:Sh.T (.int .u64)→Bool)(σ:Hp)(hl:l.length≤1000000)(hg:∀(i:Nat) (hi:i<l.length),ACalls Tryz.prog g (.int .u64 l[i]::cap) σ (aE (.bool (p l[i])) σ)):ACalls Tryz.prog 200 [.af (.int .u64) l,.fn (.func g) [] cap] σ (aE (.bool (l.any p)) σ):=by
 refine az Tryz.func200 ?_
 refine .mk [] _ (adl g cap l p _ hl hg) ?_
 rintro _ _ ⟨n,rfl,rfl,hn⟩
 rw[← hn]
 refine aq (fun c=>?_) (fun c=>?_)
 ·have c:0≤n:=c
  rw[bu c]
  exact .done ⟨rfl,rfl⟩
 ·have c:¬0≤n:=c
  rw[bZ c]
  exact .done ⟨rfl,rfl⟩
abbrev aeU:Sh:=.field (.int .i64) (.field (.int .i64) .nil)
abbrev UK:Sh:=.field (.int .i64) (.field aeU .nil)
abbrev jz:Sh:=.field (.int .i64) (.field (.int .i64) (.field UK (.field UK .nil)))
abbrev agH:Type:=Int×Int×Unit
abbrev oH:Type:=Int×agH×Unit
abbrev de:Type:=Int×Int×oH×oH×Unit
abbrev Dx(r:oH):List AV:=[.int .i64 r.1,.int .i64 r.2.1.1,.int .i64 r.2.1.2.1]
abbrev U0(c:de):List AV:=[.int .i64 c.1,.int .i64 c.2.1,.int .i64 c.2.2.1.1,.int .i64 c.2.2.1.2.1.1,.int .i64 c.2.2.1.2.1.2.1,.int .i64 c.2.2.2.1.1,.int .i64 c.2.2.2.1.2.1.1,.int .i64 c.2.2.2.1.2.1.2.1]
def HG(c:de):AV:=.agg (U0 c)
theorem ado(g:Nat)(cap:List AV)(l:List (Sh.T jz))(p:Sh.T jz→Bool)(σ:Hp)(hl:l.length≤1000000)(hg:∀(i:Nat) (hi:i<l.length),ACalls Tryz.prog g (HG l[i]::cap) σ (aE (.bool (p l[i])) σ)):ACalls Tryz.prog 253 [.af jz l,.fn (.func g) [] cap] σ (fun r σ'=>∃n:Int,r=.int .i64 n∧σ'=σ∧decide (0≤n)=l.any p):=by
 refine az Tryz.func253 ?_
 refine cc (S:=Nat) (fun s=>[(0,.af jz l),(1,.fn (.func g) [] cap),(7,.int .i64 l.length),(8,.int .i64 s)]) (fun _=>σ) (fun s=>s≤l.length∧(l.take s).any p=false) (fun s=>l.length-s) 0 ⟨⟨bD _,rfl⟩,⟨rfl,rfl,rfl,rfl,trivial⟩,rfl⟩ ?_
 rintro k t ⟨aP,fY⟩
 have hk:k≤l.length:=aP
 have hn:(l.take k).any p=false:=fY
 clear aP fY
 refine aq (fun ab=>?_) (fun au=>?_)
 ·have ab:k<l.length:=by have ab:(k:Int)<l.length:=ab;omega
  have hs:=rM ab p
  rw[hn,pM]at hs
  refine aI.mk rfl (bL.mk l[k] (by omega) (get_some ab) ?_)
  refine eK [] (hg k ab) (fun c=>?_) (fun c=>?_)
  ·have hp:l.any p=true:=mV.2 ⟨l[k],cj ab,c⟩
   exact .done ⟨_,rfl,rfl,by rw[hp];exact bu (by omega)⟩
  ·exact bj (k+1) (by show l.length-(k+1)<l.length-k;omega) ⟨ab,hs.trans c⟩ ⟨rfl,rfl,rfl,aY (by omega),trivial⟩ (.refl _)
 ·have au:k=l.length:=by have au:¬(k:Int)<l.length:=au;omega
  subst au
  rw[gn]at hn
  exact .done ⟨_,rfl,rfl,by rw[hn];rfl⟩
theorem X8(g:Nat)(cap:List AV)(l:List (Sh.T jz))(p:Sh.T jz→Bool)(σ:Hp)(hl:l.length≤1000000)(hg:∀(i:Nat) (hi:i<l.length),ACalls Tryz.prog g (HG l[i]::cap) σ (aE (.bool (p l[i])) σ)):ACalls Tryz.prog 207 [.af jz l,.fn (.func g) [] cap] σ (aE (.bool (l.any p)) σ):=by
 refine az Tryz.func207 ?_
 refine .mk [] _ (ado g cap l p _ hl hg) ?_
 rintro _ _ ⟨n,rfl,rfl,hn⟩
 rw[← hn]
 refine aq (fun c=>?_) (fun c=>?_)
 ·have c:0≤n:=c
  rw[bu c]
  exact .done ⟨rfl,rfl⟩
 ·have c:¬0≤n:=c
  rw[bZ c]
  exact .done ⟨rfl,rfl⟩
theorem adn(l:List Int)(x:Int)(σ:Hp)(hl:l.length≤1000000):ACalls Tryz.prog 329 [.af (.int .u64) l,.int .u64 x] σ (fun r σ'=>∃n:Int,r=.int .i64 n∧σ'=σ∧decide (0≤n)=l.any fun z=>decide (x=z)):=by
 refine az Tryz.func329 ?_
 refine cc (S:=Nat) (fun s=>[(0,.af (.int .u64) l),(1,.int .u64 x),(7,.int .i64 l.length),(8,.int .i64 s)]) (fun _=>σ) (fun s=>s≤l.length∧((l.take s).any fun z=>decide (x=z))=false) (fun s=>l.length-s) 0 ⟨⟨bD _,rfl⟩,⟨rfl,rfl,rfl,rfl,trivial⟩,rfl⟩ ?_
 rintro k t ⟨aP,fY⟩
 have hk:k≤l.length:=aP
 have hn:((l.take k).any fun z=>decide (x=z))=false:=fY
 clear aP fY
 refine aq (fun ab=>?_) (fun au=>?_)
 ·have ab:k<l.length:=by have ab:(k:Int)<l.length:=ab;omega
  have hs:=rM ab fun z=>decide (x=z)
  rw[hn,pM]at hs
  refine aI.mk rfl (bL.mk l[k] (by omega) (get_some ab) ?_)
  refine aq (fun c=>?_) (fun c=>?_)
  ·have c:x=l[k]:=c
   have hp:(l.any fun z=>decide (x=z))=true:=mV.2 ⟨l[k],cj ab,bu c⟩
   exact .done ⟨_,rfl,rfl,by rw[hp];exact bu (by omega)⟩
  ·have c:¬x=l[k]:=c
   exact bj (k+1) (by show l.length-(k+1)<l.length-k;omega) ⟨ab,hs.trans (bZ c)⟩ ⟨rfl,rfl,rfl,aY (by omega),trivial⟩ (.refl _)
 ·have au:k=l.length:=by have au:¬(k:Int)<l.length:=au;omega
  subst au
  rw[gn]at hn
  exact .done ⟨_,rfl,rfl,by rw[hn];rfl⟩
theorem X7(l:List Int)(x:Int)(σ:Hp)(hl:l.length≤1000000):ACalls Tryz.prog 301 [.af (.int .u64) l,.int .u64 x] σ (aE (.bool (l.any fun z=>decide (x=z))) σ):=by
 refine az Tryz.func301 ?_
 refine .mk [] _ (adn l x _ hl) ?_
 rintro _ _ ⟨n,rfl,rfl,hn⟩
 rw[← hn]
 refine aq (fun c=>?_) (fun c=>?_)
 ·have c:0≤n:=c
  rw[bu c]
  exact .done ⟨rfl,rfl⟩
 ·have c:¬0≤n:=c
  rw[bZ c]
  exact .done ⟨rfl,rfl⟩
def cI(what width:Int):Bool:=decide (1≤what)&&decide (what≤3)&&decide (0≤width)&&decide (width≤1024)
theorem M4(what width:Int)(σ:Hp):ACalls Tryz.prog 112 [.int .i64 what,.int .i64 width] σ (aE (.bool (cI what width)) σ):=by
 refine az Tryz.func112 ?_
 refine aq (fun c1=>?_) (fun c1=>?_)
 ·have c1:1≤what:=c1
  refine aq (fun c2=>?_) (fun c2=>?_)
  ·have c2:what≤3:=c2
   refine aq (fun c3=>?_) (fun c3=>?_)
   ·have c3:0≤width:=c3
    refine aq (fun c4=>?_) (fun c4=>?_)
    ·have c4:width≤1024:=c4
     exact .done ⟨dc (by first | (simp_all [cI];done) | (simp_all [cI];intros;omega)),rfl⟩
    ·have c4:¬(width≤1024):=c4
     exact .done ⟨dc (by first | (simp_all [cI];done) | (simp_all [cI];intros;omega)),rfl⟩
   ·have c3:¬(0≤width):=c3
    exact .done ⟨dc (by first | (simp_all [cI];done) | (simp_all [cI];intros;omega)),rfl⟩
  ·have c2:¬(what≤3):=c2
   exact .done ⟨dc (by first | (simp_all [cI];done) | (simp_all [cI];intros;omega)),rfl⟩
 ·have c1:¬(1≤what):=c1
  exact .done ⟨dc (by first | (simp_all [cI];done) | (simp_all [cI];intros;omega)),rfl⟩
def dr(what:Int)(xs ys:List Int):List Int:=List.zipWith (cT what) xs ys
theorem V3(what:Int)(xs ys:List Int)(h:xs.length=ys.length):(dr what xs ys).length=xs.length:=by simp[dr,h]
theorem abg(what:Int)(xs ys:List Int)(σ:Hp)(hx:bc xs)(hy:bc ys)(h:xs.length=ys.length)(hl:xs.length≤1000000):ACalls Tryz.prog 127 [.int .i64 what,.af (.int .u64) xs,.af (.int .u64) ys] σ (aE (.af (.int .u64) (dr what xs ys)) σ):=by
 refine az Tryz.func127 ?_
 refine .wrap 7 _ rfl rfl ?_
 refine cc (S:=Nat×AV×Hp) (fun s=>[(0,.int .i64 what),(1,.af (.int .u64) xs),(2,.af (.int .u64) ys),(7,.via s.2.1),(9,.af (.int .u64) xs),(10,.int .i64 xs.length),(11,.int .i64 s.1)]) (fun s=>s.2.2++σ) (fun s=>s.1≤xs.length∧Acc 1 s.1 s.2.1 s.2.2 (aO ((dr what xs ys).take s.1))) (fun s=>xs.length-s.1) (0,.aj,[]) ⟨⟨bD _,.nil⟩,⟨rfl,rfl,rfl,rfl,rfl,rfl,rfl,trivial⟩,rfl⟩ ?_
 rintro⟨k,v,acc⟩ g ⟨aP,gT⟩
 have hk:k≤xs.length:=aP
 have b9:Acc 1 k v acc (aO ((dr what xs ys).take k)):=gT
 clear aP gT
 have iw:=V3 what xs ys h
 refine aq (fun ab=>?_) (fun au=>?_)
 ·have ab:k<xs.length:=by have ab:(k:Int)<xs.length:=ab;omega
  have dy:k<ys.length:=by omega
  have hz:=hx _ (cj ab)
  have fJ:=hy _ (cj dy)
  have hje:(dr what xs ys)[k]'(by omega)=cT what xs[k] ys[k]:=by simp[dr]
  refine .sched [10] (upto [10] 14 0) (by kernel_rfl) ?_
  refine aI.mk rfl ?_
  refine bL.mk xs[k] (by omega) (get_some ab) ?_
  refine aI.mk rfl ?_
  refine bL.mk ys[k] (by omega) (get_some dy) ?_
  refine aL [] (aew what xs[k] ys[k] _ hz.1 fJ.1 hz.2 fJ.2) ?_
  intro aG
  refine ic [_] b9 (.ae 0 aG 0 1 _ rfl (cD rfl)) rfl (by omega) (by decide) (by decide) (fun v' aU h'=>?_)
  refine bj (k+1,v',aU) (by show xs.length-(k+1)<xs.length-k;omega) ⟨ab,?_⟩ ⟨rfl,rfl,rfl,rfl,rfl,rfl,aY (by omega),trivial⟩ (.drop 0 1 (aJ rfl))
  show Acc 1 (k+1) v' aU (aO ((dr what xs ys).take (k+1)))
  rw[fL (by omega),hje,aO,cO]
  exact h'
 ·have au:k=xs.length:=by have au:¬(k:Int)<xs.length:=au;omega
  subst au
  rw[eG (Bs iw)]at b9
  exact qU (s:=.int .u64) (l:=dr what xs ys) [] b9 iw.symm (by rw[kO]) (by decide) (.done ⟨rfl,rfl⟩)
theorem Iq(what width:Int)(σ:Hp):ACalls Tryz.prog 152 [.int .i64 what,.int .i64 width] σ (aE (.bool (cI what width)) σ):=by
 refine az Tryz.func152 ?_
 have hk:∀w:Int,(1≤w∧w≤3)↔(w=1∨w=2∨w=3):=fun w=>by omega
 have hI:cI what width=(decide (what=1∨what=2∨what=3)&&decide (0≤width)&&decide (width≤1024)):=by
  unfold cI
  rw[← Bool.decide_and,decide_eq_decide.2 (hk what)]
 rw[hI]
 refine aq (fun c1=>?_) (fun c1=>?_)
 ·have c1:what=1:=c1
  have hw:(what=1∨what=2∨what=3):=.inl c1
  refine aq (fun d1=>?_) (fun d1=>?_)
  ·have d1:0≤width:=d1
   refine aq (fun d2=>?_) (fun d2=>?_)
   ·have d2:width≤1024:=d2
    rw[bu hw,bu d1,bu d2]
    exact .done ⟨rfl,rfl⟩
   ·have d2:¬width≤1024:=d2
    rw[bu hw,bu d1,bZ d2]
    exact .done ⟨rfl,rfl⟩
  ·have d1:¬0≤width:=d1
   rw[bu hw,bZ d1]
   exact .done ⟨rfl,rfl⟩
 ·have c1:¬what=1:=c1
  refine aq (fun c2=>?_) (fun c2=>?_)
  ·have c2:what=2:=c2
   have hw:(what=1∨what=2∨what=3):=.inr (.inl c2)
   refine aq (fun d1=>?_) (fun d1=>?_)
   ·have d1:0≤width:=d1
    refine aq (fun d2=>?_) (fun d2=>?_)
    ·have d2:width≤1024:=d2
     rw[bu hw,bu d1,bu d2]
     exact .done ⟨rfl,rfl⟩
    ·have d2:¬width≤1024:=d2
     rw[bu hw,bu d1,bZ d2]
     exact .done ⟨rfl,rfl⟩
   ·have d1:¬0≤width:=d1
    rw[bu hw,bZ d1]
    exact .done ⟨rfl,rfl⟩
  ·have c2:¬what=2:=c2
   refine aq (fun c3=>?_) (fun c3=>?_)
   ·have c3:what=3:=c3
    have hw:(what=1∨what=2∨what=3):=.inr (.inr c3)
    refine aq (fun d1=>?_) (fun d1=>?_)
    ·have d1:0≤width:=d1
     refine aq (fun d2=>?_) (fun d2=>?_)
     ·have d2:width≤1024:=d2
      rw[bu hw,bu d1,bu d2]
      exact .done ⟨rfl,rfl⟩
     ·have d2:¬width≤1024:=d2
      rw[bu hw,bu d1,bZ d2]
      exact .done ⟨rfl,rfl⟩
    ·have d1:¬0≤width:=d1
     rw[bu hw,bZ d1]
     exact .done ⟨rfl,rfl⟩
   ·have c3:¬what=3:=c3
    rw[bZ (p:=what=1∨what=2∨what=3) (fun h=>h.elim c1 fun h=>h.elim c2 c3)]
    exact .done ⟨rfl,rfl⟩
def eH(what width:Int):Int:=if cI what width=true then (if what=3 then width else (dV width:Int)) else 0
theorem G0(what width:Int)(σ:Hp):ACalls Tryz.prog 85 [.int .i64 what,.int .i64 width] σ (aE (.int .i64 (eH what width)) σ):=by
 refine az Tryz.func85 ?_
 unfold eH
 refine eK [] (Iq what width _) (fun hi=>?_) (fun hi=>?_)
 ·rw[ah hi]
  have h3:(what=1∨what=2∨what=3):=by unfold cI at hi;simp at hi;omega
  refine aq (fun c1=>?_) (fun c1=>?_)
  ·have c1:what=1:=c1
   rw[ag (by omega)]
   refine ay [] (GZ width _) ?_
   exact .done ⟨rfl,rfl⟩
  ·have c1:¬what=1:=c1
   refine aq (fun c2=>?_) (fun c2=>?_)
   ·have c2:what=2:=c2
    rw[ag (by omega)]
    refine ay [] (GZ width _) ?_
    exact .done ⟨rfl,rfl⟩
   ·have c2:¬what=2:=c2
    rw[ah (by omega)]
    exact .done ⟨rfl,rfl⟩
 ·rw[ag (by rw[hi];decide)]
  exact .done ⟨rfl,rfl⟩
theorem ZA(what width:Int)(σ:Hp):ACalls Tryz.prog 57 [.int .i64 what,.int .i64 width] σ (aE (.int .i64 (eH what width)) σ):=by
 refine az Tryz.func57 ?_
 unfold eH
 refine eK [] (M4 what width _) (fun hi=>?_) (fun hi=>?_)
 ·rw[ah hi]
  refine aq (fun c1=>?_) (fun c1=>?_)
  ·have c1:what=3:=c1
   rw[ah c1]
   exact .done ⟨rfl,rfl⟩
  ·have c1:¬what=3:=c1
   rw[ag c1]
   refine ay [] (Ut width _) ?_
   exact .done ⟨rfl,rfl⟩
 ·rw[ag (by rw[hi];decide)]
  exact .done ⟨rfl,rfl⟩
theorem zN(what width:Int):0≤eH what width∧eH what width≤1024:=by
 unfold eH
 by_cases h:cI what width=true
 ·rw[ah h]
  have:=zV width
  unfold cI at h;simp at h
  split <;> omega
 ·rw[ag h];omega
def okW(a:List Int):Bool:=a.all fun z=>decide (aK z=z)
def cY(what w:Int)(a:List Int):Bool:=cI what w&&decide ((a.length:Int)=eH what w)&&(if what=3 then okW a else gw a w)
theorem acz(w:Int):(eA w||decide (w=0)||decide (w=1))=decide (aK w=w):=by
 unfold aK
 by_cases h0:w=0
 ·simp[h0]
 ·by_cases h1:w=1
  ·simp[h1]
  ·cases h2:eA w with
   |true=>simp[h0,h1]
   |false=>simp[h0,h1];exact fun h=>h1 h.symm
theorem agB(z:Int)(σ:Hp):ACalls Tryz.prog 201 [.int .u64 z] σ (aE (.bool (!decide (aK z=z))) σ):=by
 refine az Tryz.func201 ?_
 refine ay [] (aIs z _) ?_
 rw[acz]
 exact .done ⟨rfl,rfl⟩
theorem ack(a:List Int):(!a.any fun z=> !decide (aK z=z))=okW a:=by
 unfold okW
 rw[List.all_eq_not_any_not]
theorem Ir(what w:Int)(a:List Int)(σ:Hp)(ha:bc a)(hl:a.length≤1000000):ACalls Tryz.prog 148 [.int .i64 what,.int .i64 w,.af (.int .u64) a] σ (aE (.bool (cY what w a)) σ):=by
 refine az Tryz.func148 ?_
 have vC:=zN what w
 unfold cY
 refine eK [] (Iq what w _) (fun hi=>?_) (fun hi=>?_)
 ·refine ay [] (G0 what w _) ?_
  refine ew (fun c=>?_) (fun c=>?_)
  ·have c:(!decide ((a.length:Int)=eH what w))=true:=c
   have c:¬((a.length:Int)=eH what w):=by simpa using c
   rw[hi,bZ c]
   exact .done ⟨rfl,rfl⟩
  ·have c:(!decide ((a.length:Int)=eH what w))=false:=c
   have c:(a.length:Int)=eH what w:=by simpa using c
   rw[hi,bu c]
   refine ew (fun c3=>?_) (fun c3=>?_)
   ·have c3:¬(what=3):=by simpa using c3
    rw[ag c3]
    refine ay [] (CT a w _ ha (by omega)) ?_
    exact .done ⟨rfl,rfl⟩
   ·have c3:what=3:=by simpa using c3
    rw[ah c3,← ack]
    refine ay [] (X5 201 [] a (fun z:Int=> !decide (aK z=z)) _ hl (fun i hi=>agB _ _)) ?_
    exact .done ⟨rfl,rfl⟩
 ·rw[hi]
  exact .done ⟨rfl,rfl⟩
def C1(what w:Int)(l:List (List Int)):Int:=if cI what w then (if (l.any fun a=> !cY what w a) then 2 else 0) else 10
theorem Zd{what w:Int}{a b:List Int}(h:C1 what w [a,b]=0):cY what w a=true∧cY what w b=true:=by
 unfold C1 at h
 cases hi:cI what w with
 |false=>rw[hi]at h;exact absurd h (by simp)
 |true=>
  rw[hi,ah rfl]at h
  cases ha:cY what w a with
  |false=>simp[ha]at h
  |true=>
   cases hb:cY what w b with
   |false=>simp[ha,hb]at h
   |true=>exact⟨rfl,rfl⟩
theorem wH{what w:Int}{a:List Int}(h:cY what w a=true):(a.length:Int)=eH what w:=by
 unfold cY at h;simp at h;exact h.1.2
def sk(e:Int)(l:List Int):List Int:=if e=0 then l else []
theorem CG{e:Int}{l:List Int}(h:e=0):sk e l=l:=ah h
theorem GL{e:Int}{l:List Int}(h:¬e=0):sk e l=[]:=ag h
theorem wN{what:Int}:∀{xs ys:List Int},bc xs→bc ys→bc (dr what xs ys)
 | [],_,_,_=>fun z hz=>by simp[dr]at hz
 |_::_,[],_,_=>fun z hz=>by simp[dr]at hz
 |x::xs,y::ys,hx,hy=>fun z hz=>by
  rcases eF.1 (show z∈cT what x y::dr what xs ys from hz) with rfl | hz
  ·exact SB (hx _ (ck ..)) (hy _ (ck ..))
  ·exact wN (fun a ha=>hx a (cW _ ha)) (fun a ha=>hy a (cW _ ha)) z hz
def yr(what w:Int)(xs ys:List Int):Bool:=decide (C1 what w [xs,ys]=0)&&decide (dr what xs ys=ys)
def gi(what w:Int):List Int:=if what=2∧cI what w=true then eY w else List.replicate (eH what w).toNat 0
theorem KV(what w:Int)(σ:Hp):ACalls Tryz.prog 149 [.int .i64 what,.int .i64 w] σ (aE (.af (.int .u64) (gi what w)) σ):=by
 refine az Tryz.func149 ?_
 have hw:=zN what w
 have hz:gi what w=List.replicate (eH what w).toNat 0→∀q,Fin (aE (.af (.int .u64) (gi what w)) σ) (.ae q 0 (eH what w).toNat 1) ((q,cM [.int .u64 0] (eH what w).toNat)::σ):=fun hb q=>by
  rw[wL,← hb]
  have hl:(gi what w).length=(eH what w).toNat:=by rw[hb,fZ]
  generalize gi what w=Z at hl
  refine .cJ 0 q 0 _ 1 _ (.int .u64) Z rfl ?_ ⟨hl,rfl,by decide⟩ .here (.done ⟨rfl,rfl⟩)
  rw[gM,← kO]
  exact eG (by rw[aO,cm,hl];omega)
 refine aq (fun c=>?_) (fun c=>?_)
 ·have c:what=2:=c
  refine eK [] (Iq what w _) (fun hi=>?_) (fun hi=>?_)
  ·refine ay [] (Vb w _) ?_
   have hb:gi what w=eY w:=ah ⟨c,hi⟩
   rw[hb]
   exact .done ⟨rfl,rfl⟩
  ·refine ay [] (G0 what w _) ?_
   refine aZ ?_
   intro q
   exact hz (ag fun h=>Bool.noConfusion (hi.symm.trans h.2)) q
 ·have c:¬what=2:=c
  refine ay [] (G0 what w _) ?_
  refine aZ ?_
  intro q
  exact hz (ag fun h=>c h.1) q
def isN(x y:Int):Bool:=decide (x=aD x)&&decide (y=aD y)
def p9(w:Int)(r:oH):Bool:=if r.1 = -1 then isN r.2.1.1 r.2.1.2.1 else decide (0≤r.1)&&decide (r.1<w)&&(decide (r.2.1.1=0)&&decide (r.2.1.2.1=0))
theorem eq2(x y:Int):gB (tb (nC x y) (nC 0 0))=(decide (x=0)&&decide (y=0)):=by
 show (decide (x=0)&&(decide (y=0)&&true))=_
 rw[I3]
theorem U7(w:Int)(r:oH)(σ:Hp):ACalls Tryz.prog 254 [.int .i64 w,.agg (Dx r)] σ (aE (.bool (p9 w r)) σ):=by
 obtain⟨v,⟨x,y,u⟩,u2⟩:=r
 refine az Tryz.func254 ?_
 unfold p9
 show uO Tryz.prog tt _ [.int .i64 w,.agg [.int .i64 v,.int .i64 x,.int .i64 y]] σ (aE (.bool (if v = -1 then isN x y else decide (0≤v)&&decide (v<w)&&(decide (x=0)&&decide (y=0)))) σ)
 intro aG
 refine aa 0 ?_
 refine aq (fun c2=>?_) (fun c2=>?_)
 ·have c2:v = -1:=c2
  refine aa 0 ?_
  refine ay [] (age _ _ _) ?_
  exact .drop 0 1 (.done ⟨dc (by rw[ah c2];rfl),rfl⟩)
 ·have c2:¬(v = -1):=c2
  refine aa 0 ?_
  refine aq (fun c3=>?_) (fun c3=>?_)
  ·have c3:0≤v:=c3
   refine aa 0 ?_
   refine aq (fun c4=>?_) (fun c4=>?_)
   ·have c4:v<w:=c4
    refine aa 0 ?_
    refine EqAt.mk (by kernel_rfl) (by kernel_rfl) ?_
    refine ew (fun c5=>?_) (fun c5=>?_)
    ·have c5:=(eq2 x y).symm.trans c5
     exact .drop 0 1 (.done ⟨dc (by rw[ag c2,bu c3,bu c4,c5];rfl),rfl⟩)
    ·have c5:=(eq2 x y).symm.trans c5
     exact .drop 0 1 (.done ⟨dc (by rw[ag c2,bu c3,bu c4,c5];rfl),rfl⟩)
   ·have c4:¬(v<w):=c4
    exact .drop 0 1 (.done ⟨dc (by rw[ag c2,bu c3,bZ c4];rfl),rfl⟩)
  ·have c3:¬(0≤v):=c3
   exact .drop 0 1 (.done ⟨dc (by rw[ag c2,bZ c3];rfl),rfl⟩)
def Mz(r:oH):Bool:=decide (r.1=0)&&(decide (r.2.1.1=0)&&decide (r.2.1.2.1=0))
theorem JE(r:oH):gB (tb (Dx r) [.int .i64 0,.int .i64 0,.int .i64 0])=Mz r:=by
 show (decide (r.1=0)&&(decide (r.2.1.1=0)&&(decide (r.2.1.2.1=0)&&true)))=_
 rw[I3];rfl
def gx(w:Int)(c:de):Bool:=if c.1<0 then false else if w≤c.1 then false else if c.2.1 < -1 then false else if 4<c.2.1 then false else if c.2.1 = -1 then Mz c.2.2.1&&Mz c.2.2.2.1 else p9 w c.2.2.1&&p9 w c.2.2.2.1
theorem aen(w:Int)(c:de)(σ:Hp):ACalls Tryz.prog 209 [.int .i64 w,.agg (U0 c)] σ (aE (.bool (gx w c)) σ):=by
 refine az Tryz.func209 ?_
 intro aG
 refine aa 0 ?_
 refine aq (fun c2=>?_) (fun c2=>?_)
 ·have c2:c.fst<0:=c2
  exact .drop 0 1 (.done ⟨dc (by simp[gx, *]),rfl⟩)
 ·have c2:¬(c.fst<0):=c2
  refine aa 0 ?_
  refine aq (fun c3=>?_) (fun c3=>?_)
  ·have c3:w≤c.fst:=c3
   exact .drop 0 1 (.done ⟨dc (by simp[gx, *]),rfl⟩)
  ·have c3:¬(w≤c.fst):=c3
   refine aa 0 ?_
   refine aq (fun c4=>?_) (fun c4=>?_)
   ·have c4:c.snd.fst < -1:=c4
    exact .drop 0 1 (.done ⟨dc (by simp[gx, *]),rfl⟩)
   ·have c4:¬(c.snd.fst < -1):=c4
    refine aa 0 ?_
    refine aq (fun c5=>?_) (fun c5=>?_)
    ·have c5:4<c.snd.fst:=c5
     exact .drop 0 1 (.done ⟨dc (by simp[gx, *]),rfl⟩)
    ·have c5:¬(4<c.snd.fst):=c5
     refine aa 0 ?_
     refine aq (fun c6=>?_) (fun c6=>?_)
     ·have c6:c.snd.fst = -1:=c6
      refine aa 0 ?_
      refine EqAt.mk (by kernel_rfl) (by kernel_rfl) ?_
      refine ew (fun c7=>?_) (fun c7=>?_)
      ·have c7:=(JE c.2.2.1).symm.trans c7
       refine aa 0 ?_
       refine EqAt.mk (by kernel_rfl) (by kernel_rfl) ?_
       refine ew (fun c8=>?_) (fun c8=>?_)
       ·have c8:=(JE c.2.2.2.1).symm.trans c8
        exact .drop 0 1 (.done ⟨dc (by simp[gx, *]),rfl⟩)
       ·have c8:=(JE c.2.2.2.1).symm.trans c8
        exact .drop 0 1 (.done ⟨dc (by simp[gx, *]),rfl⟩)
      ·have c7:=(JE c.2.2.1).symm.trans c7
       exact .drop 0 1 (.done ⟨dc (by simp[gx, *]),rfl⟩)
     ·have c6:¬(c.snd.fst = -1):=c6
      refine aa 0 ?_
      refine eK [] (U7 w c.2.2.1 _) (fun cA=>?_) (fun cA=>?_)
      ·refine aa 0 ?_
       refine eK [] (U7 w c.2.2.2.1 _) (fun cB=>?_) (fun cB=>?_)
       ·exact .drop 0 1 (.done ⟨dc (by simp[gx, *]),rfl⟩)
       ·exact .drop 0 1 (.done ⟨dc (by simp[gx, *]),rfl⟩)
      ·exact .drop 0 1 (.done ⟨dc (by simp[gx, *]),rfl⟩)
abbrev kR:Sh:=.field (.slice (.int .u64)) (.field (.slice (.int .u64)) (.field (.slice jz) .nil))
abbrev A5(g k:List Int)(l:List de):List AV:=[.af (.int .u64) g,.af (.int .u64) k,.af jz l]
theorem abu(w:Int)(c:de)(q:Nat)(σ:Hp):ACalls Tryz.prog 208 [HG c,.ptr q 0] ((q,[.int .i64 w])::σ) (aE (.bool (!gx w c)) ((q,[.int .i64 w])::σ)):=by
 refine az Tryz.func208 ?_
 unfold HG
 intro aG
 refine aa 1 ?_
 refine aa 0 ?_
 refine ay [] (aen w c _) ?_
 exact .drop 0 1 (.done ⟨rfl,rfl⟩)
def yH(what w:Int)(g k:List Int)(l:List de):Bool:=if what=3 then decide (g.length+k.length=0)&&(l.all (gx w)) else decide (l.length=0)&&gw g w&&gw k w
def fD(what w:Int)(g k:List Int)(l:List de):Int:=if cI what w=true then (if yH what w g k l=true then 0 else 2) else 10
theorem Tu{α:Type}(l:List α){p:α→Bool}:l.all p = !l.any fun c=> !p c:=List.all_eq_not_any_not ..
theorem U4{w:Int}(l:List de){b:Bool}(h:(l.any fun c=> !gx w c)=b):l.all (gx w) = !b:=by rw[Tu,h]
theorem MZ{what w:Int}{g k:List Int}{l:List de}(hi:cI what w=true)(ht:yH what w g k l=true):0=fD what w g k l:=by unfold fD;rw[ah hi,ah ht]
theorem xj{what w:Int}{g k:List Int}{l:List de}(hi:cI what w=true)(ht:yH what w g k l=false):2=fD what w g k l:=by unfold fD;rw[ah hi,ht];rfl
theorem Mm{what w:Int}{g k:List Int}{l:List de}(hi:cI what w=false):10=fD what w g k l:=by unfold fD;rw[hi];rfl
theorem vm{what w:Int}{g k:List Int}{l:List de}(h:¬what=3):yH what w g k l=(decide (l.length=0)&&gw g w&&gw k w):=ag h
theorem D8{what w:Int}{g k:List Int}{l:List de}(h:what=3):yH what w g k l=(decide (g.length+k.length=0)&&(l.all (gx w))):=ah h
theorem pY{what w:Int}(h:1≤what∧what≤3∧0≤w∧w≤1024):cI what w=true:=by unfold cI;simp;omega
theorem Mb{what w:Int}(h:¬(1≤what∧what≤3∧0≤w∧w≤1024)):cI what w=false:=by unfold cI;simp;omega
theorem Lu(what w:Int)(g k:List Int)(l:List de)(σ:Hp)(hg:bc g)(hk:bc k)(lg:g.length≤10000)(lk:k.length≤10000)(ll:l.length≤1000000):ACalls Tryz.prog 151 [.int .i64 what,.int .i64 w,.agg (A5 g k l)] σ (aE (.int .i64 (fD what w g k l)) σ):=by
 refine az Tryz.func151 ?_
 intro aG
 intro dw
 refine aa 1 ?_
 refine aq (fun c3=>?_) (fun c3=>?_)
 ·have c3:w<0:=c3
  exact .drop 0 2 (.done ⟨aV (Mm (Mb (by omega))),rfl⟩)
 ·have c3:¬(w<0):=c3
  refine aa 1 ?_
  refine aq (fun c4=>?_) (fun c4=>?_)
  ·have c4:1024<w:=c4
   exact .drop 0 2 (.done ⟨aV (Mm (Mb (by omega))),rfl⟩)
  ·have c4:¬(1024<w):=c4
   refine aq (fun c5=>?_) (fun c5=>?_)
   ·have c5:what=1:=c5
    refine aa 0 ?_
    refine aa 1 ?_
    refine eK [] (CT g w _ hg lg) (fun cG=>?_) (fun cG=>?_)
    ·refine aa 0 ?_
     refine aa 1 ?_
     refine eK [] (CT k w _ hk lk) (fun cK=>?_) (fun cK=>?_)
     ·refine aa 0 ?_
      refine aq (fun c6=>?_) (fun c6=>?_)
      ·have c6:(↑l.length:Int)=0:=c6
       have iv:decide (l.length=0)=true:=bu (by have h0:(l.length:Int)=0:=c6;omega)
       exact .drop 0 2 (.done ⟨aV (MZ (pY (by omega)) (by rw[vm (by omega),iv,cG,cK];rfl)),rfl⟩)
      ·have c6:¬((↑l.length:Int)=0):=c6
       have iv:decide (l.length=0)=false:=bZ (by have h0:¬(l.length:Int)=0:=c6;omega)
       exact .drop 0 2 (.done ⟨aV (xj (pY (by omega)) (by rw[vm (by omega),iv];rfl)),rfl⟩)
     ·exact .drop 0 2 (.done ⟨aV (xj (pY (by omega)) (by rw[vm (by omega),cK];simp)),rfl⟩)
    ·exact .drop 0 2 (.done ⟨aV (xj (pY (by omega)) (by rw[vm (by omega),cG];simp)),rfl⟩)
   ·have c5:¬(what=1):=c5
    refine aq (fun c7=>?_) (fun c7=>?_)
    ·have c7:what=2:=c7
     refine aa 0 ?_
     refine aa 1 ?_
     refine eK [] (CT g w _ hg lg) (fun cG=>?_) (fun cG=>?_)
     ·refine aa 0 ?_
      refine aa 1 ?_
      refine eK [] (CT k w _ hk lk) (fun cK=>?_) (fun cK=>?_)
      ·refine aa 0 ?_
       refine aq (fun c8=>?_) (fun c8=>?_)
       ·have c8:(↑l.length:Int)=0:=c8
        have iv:decide (l.length=0)=true:=bu (by have h0:(l.length:Int)=0:=c8;omega)
        exact .drop 0 2 (.done ⟨aV (MZ (pY (by omega)) (by rw[vm (by omega),iv,cG,cK];rfl)),rfl⟩)
       ·have c8:¬((↑l.length:Int)=0):=c8
        have iv:decide (l.length=0)=false:=bZ (by have h0:¬(l.length:Int)=0:=c8;omega)
        exact .drop 0 2 (.done ⟨aV (xj (pY (by omega)) (by rw[vm (by omega),iv];rfl)),rfl⟩)
      ·exact .drop 0 2 (.done ⟨aV (xj (pY (by omega)) (by rw[vm (by omega),cK];simp)),rfl⟩)
     ·exact .drop 0 2 (.done ⟨aV (xj (pY (by omega)) (by rw[vm (by omega),cG];simp)),rfl⟩)
    ·have c7:¬(what=2):=c7
     refine aq (fun c9=>?_) (fun c9=>?_)
     ·have c9:what=3:=c9
      refine aa 0 ?_
      refine aa 0 ?_
      refine aq (fun j0=>?_) (fun j0=>?_)
      ·have j0:IntKind.i64.wrap ((↑g.length:Int)+(↑k.length:Int))=0:=j0
       refine aa 0 ?_
       rw[cy (by omega)]at j0
       refine eK [1] (X8 208 [.ptr aG 0] l (fun c=> !gx w c) _ ll (fun i hi=>abu w l[i] aG _)) (fun cL=>?_) (fun cL=>?_)
       ·exact .drop 0 2 (.done ⟨aV (xj (pY (by omega)) (by rw[D8 c9,U4 l cL];simp)),rfl⟩)
       ·exact .drop 0 2 (.done ⟨aV (MZ (pY (by omega)) (by rw[D8 c9,U4 l cL,bu (by omega)];rfl)),rfl⟩)
      ·have j0:¬(IntKind.i64.wrap ((↑g.length:Int)+(↑k.length:Int))=0):=j0
       exact .drop 0 2 (.done ⟨aV (xj (pY (by omega)) (by rw[cy (by omega)]at j0;rw[D8 c9,bZ (by omega)];rfl)),rfl⟩)
     ·have c9:¬(what=3):=c9
      exact .drop 0 2 (.done ⟨aV (Mm (Mb (by omega))),rfl⟩)
end Go.Proofs.YtnikdflhefijbaaGreat
