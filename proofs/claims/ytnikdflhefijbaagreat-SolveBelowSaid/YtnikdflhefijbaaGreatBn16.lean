import Derived.Test.YtnikdflhefijbaaGreatBn15
namespace Go.Proofs.YtnikdflhefijbaaGreat
open Go.RowKit
set_option maxRecDepth 100000
def mU(l:List Int):Int:=if (l.any fun w=>decide (aI w=0)) then 0 else if (l.any fun w=>decide (aI w=1)) then 1 else 2
theorem WJ(l:List Int)(w:Int)(h:(l.any fun w=>decide (aI w=0))=false):mU (l++[w])=if aI w=0 then 0 else if aI w=1 then 1 else mU l:=by
 unfold mU
 rw[gt3,gt3,h]
 by_cases h0:aI w=0
 ·simp[h0]
 ·by_cases h1:aI w=1
  ·simp[h1]
  ·simp[h0,h1]
theorem WH(l:List Int){w:Int}(hm:w∈l)(h:aI w=0):mU l=0:=by
 unfold mU
 rw[ai]
 exact mf.2 ⟨w,hm,aV h⟩
theorem LL(l:List Int)(σ:Hp)(hl:l.length≤100000):ACalls Tryz.prog 343 [.af (.int .u64) l] σ (aE (.int .u64 (mU l)) σ):=by
 refine ay Tryz.func343 ?_
 refine bV (S:=Nat) (fun s=>[(3,.int .u64 (mU (l.take s))),(6,.af (.int .u64) l),(7,.int .i64 l.length),(8,.int .i64 s)]) (fun _=>σ) (fun s=>s≤l.length∧((l.take s).any fun w=>decide (aI w=0))=false) (fun s=>l.length-s) 0 ⟨⟨bA _,rfl⟩,⟨rfl,rfl,rfl,rfl,trivial⟩,rfl⟩ ?_
 rintro k g ⟨aL,iw⟩
 have hk:k≤l.length:=aL
 have hz:((l.take k).any fun w=>decide (aI w=0))=false:=iw
 clear aL iw
 refine an (fun ab=>?_) (fun ar=>?_)
 ·have ab:k<l.length:=by have ab:(k:Int)<l.length:=ab;omega
  have hs:=WJ (l.take k) l[k] hz
  rw[← fp ab]at hs
  have fA:((l.take (k+1)).any fun w=>decide (aI w=0))=decide (aI l[k]=0):=by
   rw[List.take_succ_eq_append_getElem ab,List.any_append,hz];simp
  refine ag.mk rfl (bG.mk l[k] (by omega) (get_some ab) ?_)
  refine az [] (Mk l[k] _) ?_
  refine an (fun c1=>?_) (fun c1=>?_)
  ·have c1:aI l[k]=0:=c1
   refine .fwd 1 ?_
   rw[WH l (bX ab) c1]
   exact .done ⟨rfl,rfl⟩
  ·have c1:¬(aI l[k]=0):=c1
   refine an (fun c2=>?_) (fun c2=>?_)
   ·have c2:aI l[k]=1:=c2
    refine a8 (k+1) (by show l.length-(k+1)<l.length-k;omega) ⟨ab,by rw[fA];exact bR c1⟩ ⟨?_,rfl,rfl,aX (by omega),trivial⟩ (.refl _)
    rw[hs,ah c1,ai c2]
    rfl
   ·have c2:¬(aI l[k]=1):=c2
    refine a8 (k+1) (by show l.length-(k+1)<l.length-k;omega) ⟨ab,by rw[fA];exact bR c1⟩ ⟨?_,rfl,rfl,aX (by omega),trivial⟩ (.refl _)
    rw[hs,ah c1,ah c2]
    rfl
 ·have ar:k=l.length:=by have ar:¬(k:Int)<l.length:=ar;omega
  subst ar
  rw[fj]
  exact .done ⟨rfl,rfl⟩
theorem FZ{w:Int}(h0:aI w≠0)(h1:aI w≠1):ek w=true∧aI w=w:=by
 unfold aI at *
 by_cases a:w=0
 ·rw[ai a]at h0;exact absurd rfl h0
 ·rw[ah a]at h0 h1 ⊢
  by_cases b:w=1
  ·rw[ai b]at h1;exact absurd rfl h1
  ·rw[ah b]at h0 h1 ⊢
   cases c:ek w with
   |true=>exact⟨rfl,rfl⟩
   |false=>rw[c]at h1;exact absurd rfl h1
theorem adC{op:Int}(h:op=0∨op=4)(a b c d c2 d2:Int):iv op a b c d=iv op a b c2 d2:=by
 rcases h with rfl | rfl <;> rfl
def mA(op a b:Int):Int:=match iv op (jX a) (jY a) (jX b) (jY b) with | some (x,y)=>kZ x y | none=>1
def fH(op a b:Int):Int:=if aI a=0∨aI b=0 then 0 else if aI a=1∨aI b=1 then 1 else mA op a b
def jJ(op a b:Int):Int:=if op=0∨op=4 then fH op a 2 else fH op a b
theorem adI(x y:Int):2≤kZ x y:=by have:=B1 x y;unfold kZ;omega
theorem adH(x y:Int):ek (kZ x y)=true:=by
 have h1:=B1 x y
 have h2:=FR x y
 unfold ek kZ;simp;omega
theorem norm_num{w:Int}(h:ek w=true):aI w=w:=by
 have:=Kw h
 unfold aI
 rw[ah this.1,ah this.2,ai h]
theorem abM{op:Int}(h:op=0∨op=4)(a b c:Int):mA op a b=mA op a c:=by
 unfold mA
 rw[adC h (jX a) (jY a) (jX b) (jY b) (jX c) (jY c)]
theorem B5:aI 2=2:=by decide
theorem Fh{op:Int}(a b:Int)(h:op=0∨op=4):jJ op a b=if mU [a]=2 then mA op a b else mU [a]:=by
 unfold jJ fH mU
 rw[ai h,B5,abM h a b 2]
 by_cases h0:aI a=0
 ·simp[h0]
 ·by_cases h1:aI a=1
  ·simp[h1]
  ·simp[h0,h1]
theorem PN{op:Int}(a b:Int)(h:¬(op=0∨op=4)):jJ op a b=if mU [a,b]=2 then mA op a b else mU [a,b]:=by
 unfold jJ fH mU
 rw[ah h]
 by_cases h0:aI a=0
 ·simp[h0]
 ·by_cases h1:aI a=1
  ·by_cases g0:aI b=0
   ·simp[g0]
   ·simp[h1,g0]
  ·by_cases g0:aI b=0
   ·simp[g0]
   ·by_cases g1:aI b=1
    ·simp[h0,g1]
    ·simp[h0,h1,g0,g1]
theorem agt(op a b:Int)(σ:Hp)(ha:bD a)(hb:bD b):ACalls Tryz.prog 332 [.int .i64 op,.int .u64 a,.int .u64 b] σ (aE (.int .u64 (jJ op a b)) σ):=by
 refine ay Tryz.func332 ?_
 intro aD
 refine .cI (args':=[.af (.int .u64) [a,b]]) 0 aD 0 2 1 _ (.int .u64) [a,b] rfl rfl ⟨rfl,rfl,by decide⟩ (cJ .here uu) (az [] (LL [a,b] _ (by show 2≤100000;omega)) ?_)
 refine an (fun c1=>?_) (fun c1=>?_)
 ·have c1:op=0:=c1
  intro dH
  refine .cI (args':=[.af (.int .u64) [a]]) 0 dH 0 1 1 _ (.int .u64) [a] rfl rfl ⟨rfl,rfl,by decide⟩ (cJ .here uu) (az [] (LL [a] _ (by show 1≤100000;omega)) ?_)
  generalize hL:mU [a]=L
  refine dB (fun c5=>?_) (fun c5=>?_)
  ·have c5:¬(L=2):=by simpa using c5
   rw[Fh a b (.inl c1),ah (by rw[hL];exact c5),hL]
   exact .done ⟨rfl,rfl⟩
  ·have c5:L=2:=by simpa using c5
   rw[Fh a b (.inl c1),ai (by rw[hL];exact c5)]
   refine az [] (Ao a _ ha) ?_
   intro p1
   refine ak 0 ?_
   refine az [] (Ao b _ hb) ?_
   intro p2
   refine ak 0 ?_
   refine aa 1 ?_
   refine aa 0 ?_
   refine az [] (MM op _ _ _ _ _) ?_
   unfold mA
   cases hr:iv op (jX a) (jY a) (jX b) (jY b) with
   |none=>
    intro p3
    refine ak 0 ?_
    exact .drop 0 3 (.done ⟨rfl,rfl⟩)
   |some xy=>
    obtain⟨x,y⟩:=xy
    intro p3
    refine ak 0 ?_
    refine aa 0 ?_
    refine az [] (Hm x y _) ?_
    exact .drop 0 3 (.done ⟨rfl,rfl⟩)
 ·have c1:¬(op=0):=c1
  refine an (fun c3=>?_) (fun c3=>?_)
  ·have c3:op=4:=c3
   intro Jo
   refine .cI (args':=[.af (.int .u64) [a]]) 0 Jo 0 1 1 _ (.int .u64) [a] rfl rfl ⟨rfl,rfl,by decide⟩ (cJ .here uu) (az [] (LL [a] _ (by show 1≤100000;omega)) ?_)
   generalize hL:mU [a]=L
   refine dB (fun c5=>?_) (fun c5=>?_)
   ·have c5:¬(L=2):=by simpa using c5
    rw[Fh a b (.inr c3),ah (by rw[hL];exact c5),hL]
    exact .done ⟨rfl,rfl⟩
   ·have c5:L=2:=by simpa using c5
    rw[Fh a b (.inr c3),ai (by rw[hL];exact c5)]
    refine az [] (Ao a _ ha) ?_
    intro p1
    refine ak 0 ?_
    refine az [] (Ao b _ hb) ?_
    intro p2
    refine ak 0 ?_
    refine aa 1 ?_
    refine aa 0 ?_
    refine az [] (MM op _ _ _ _ _) ?_
    unfold mA
    cases hr:iv op (jX a) (jY a) (jX b) (jY b) with
    |none=>
     intro p3
     refine ak 0 ?_
     exact .drop 0 3 (.done ⟨rfl,rfl⟩)
    |some xy=>
     obtain⟨x,y⟩:=xy
     intro p3
     refine ak 0 ?_
     refine aa 0 ?_
     refine az [] (Hm x y _) ?_
     exact .drop 0 3 (.done ⟨rfl,rfl⟩)
  ·have c3:¬(op=4):=c3
   generalize hL:mU [a,b]=L
   refine dB (fun c5=>?_) (fun c5=>?_)
   ·have c5:¬(L=2):=by simpa using c5
    rw[PN a b (fun h=>h.elim c1 c3),ah (by rw[hL];exact c5),hL]
    exact .done ⟨rfl,rfl⟩
   ·have c5:L=2:=by simpa using c5
    rw[PN a b (fun h=>h.elim c1 c3),ai (by rw[hL];exact c5)]
    refine az [] (Ao a _ ha) ?_
    intro p1
    refine ak 0 ?_
    refine az [] (Ao b _ hb) ?_
    intro p2
    refine ak 0 ?_
    refine aa 1 ?_
    refine aa 0 ?_
    refine az [] (MM op _ _ _ _ _) ?_
    unfold mA
    cases hr:iv op (jX a) (jY a) (jX b) (jY b) with
    |none=>
     intro p3
     refine ak 0 ?_
     exact .drop 0 3 (.done ⟨rfl,rfl⟩)
    |some xy=>
     obtain⟨x,y⟩:=xy
     intro p3
     refine ak 0 ?_
     refine aa 0 ?_
     refine az [] (Hm x y _) ?_
     exact .drop 0 3 (.done ⟨rfl,rfl⟩)
theorem jA(w:Int):aI (aI w)=aI w:=by
 by_cases h0:aI w=0
 ·rw[h0];rfl
 ·by_cases h1:aI w=1
  ·rw[h1];rfl
  ·rw[(FZ h0 h1).2];exact (FZ h0 h1).2
theorem QC(op a b:Int):fH op (aI a) (aI b)=fH op a b:=by
 unfold fH
 rw[jA,jA]
 by_cases h0:aI a=0∨aI b=0
 ·rw[ai h0,ai h0]
 ·by_cases h1:aI a=1∨aI b=1
  ·rw[ah h0,ai h1,ah h0,ai h1]
  ·rw[ah h0,ah h1,ah h0,ah h1]
   have ha:=(FZ (w:=a) (fun h=>h0 (.inl h)) (fun h=>h1 (.inl h))).2
   have hb:=(FZ (w:=b) (fun h=>h0 (.inr h)) (fun h=>h1 (.inr h))).2
   rw[ha,hb]
theorem aag:kZ 0 0=2:=by decide
theorem aej(op a b:Int)(σ:Hp)(ha:bD a)(hb:bD b):ACalls Tryz.prog 264 [.int .i64 op,.int .u64 a,.int .u64 b] σ (aE (.int .u64 (jJ op a b)) σ):=by
 have na:=Gu ha
 have nb:=Gu hb
 obtain⟨B,hB⟩:∃B:Int,B=2:=⟨_,rfl⟩
 have wB:bD B:=by rw[hB];unfold bD;omega
 have nB:aI B=B:=by rw[hB];exact B5
 have hOf:∀σ,ACalls Tryz.prog 293 [.agg (nC 0 0)] σ (aE (.int .u64 B) σ):=fun σ=>by rw[hB,← aag];exact CU 0 0 σ
 have e04:(op=0∨op=4)→jJ op a b=fH op (aI a) B:=fun h=>by unfold jJ;rw[ai h,← QC,B5,hB]
 clear hB
 refine ay Tryz.func264 ?_
 refine az [] (CO a _ ha.1 ha.2) ?_
 refine az [] (CO b _ hb.1 hb.2) ?_
 refine an (fun d1=>?_) (fun d1=>?_)
 ·have d1:op=0:=d1
  rw[e04 (.inl d1)]
  refine az [] (hOf _) ?_
  refine an (fun c1=>?_) (fun c1=>?_)
  ·have c1:aI a=0:=c1
   unfold fH
   rw[jA,ai (.inl c1)]
   exact .done ⟨rfl,rfl⟩
  ·have c1:¬aI a=0:=c1
   refine an (fun c2=>?_) (fun c2=>?_)
   ·have c2:B=0:=c2
    unfold fH
    rw[jA,ai (.inr (nB.trans c2))]
    exact .done ⟨rfl,rfl⟩
   ·have c2:¬B=0:=c2
    refine an (fun c3=>?_) (fun c3=>?_)
    ·have c3:aI a=1:=c3
     unfold fH
     rw[jA,ah (fun h=>h.elim c1 fun h=>c2 (nB.symm.trans h)),ai (.inl c3)]
     exact .done ⟨rfl,rfl⟩
    ·have c3:¬aI a=1:=c3
     refine an (fun c4=>?_) (fun c4=>?_)
     ·have c4:B=1:=c4
      unfold fH
      rw[jA,ah (fun h=>h.elim c1 fun h=>c2 (nB.symm.trans h)),ai (.inr (nB.trans c4))]
      exact .done ⟨rfl,rfl⟩
     ·have c4:¬B=1:=c4
      unfold fH
      rw[jA,ah (fun h=>h.elim c1 fun h=>c2 (nB.symm.trans h)),ah (fun h=>h.elim c3 fun h=>c4 (nB.symm.trans h))]
      unfold mA
      refine az [] (Af (aI a) _ na) ?_
      intro p1
      refine ak 0 ?_
      refine az [] (Af (B) _ wB) ?_
      intro p2
      refine ak 0 ?_
      refine aa 1 ?_
      refine aa 0 ?_
      refine az [] (Mt op _ _ _ _ _) ?_
      cases hr:iv op (jX (aI a)) (jY (aI a)) (jX (B)) (jY (B)) with
      |none=>
       intro p3
       refine ak 0 ?_
       exact .drop 0 3 (.done ⟨rfl,rfl⟩)
      |some xy=>
       obtain⟨x,y⟩:=xy
       intro p3
       refine ak 0 ?_
       refine aa 0 ?_
       refine az [] (CU x y _) ?_
       exact .drop 0 3 (.done ⟨rfl,rfl⟩)
 ·have d1:¬op=0:=d1
  refine an (fun d2=>?_) (fun d2=>?_)
  ·have d2:op=4:=d2
   rw[e04 (.inr d2)]
   refine az [] (hOf _) ?_
   refine an (fun c1=>?_) (fun c1=>?_)
   ·have c1:aI a=0:=c1
    unfold fH
    rw[jA,ai (.inl c1)]
    exact .done ⟨rfl,rfl⟩
   ·have c1:¬aI a=0:=c1
    refine an (fun c2=>?_) (fun c2=>?_)
    ·have c2:B=0:=c2
     unfold fH
     rw[jA,ai (.inr (nB.trans c2))]
     exact .done ⟨rfl,rfl⟩
    ·have c2:¬B=0:=c2
     refine an (fun c3=>?_) (fun c3=>?_)
     ·have c3:aI a=1:=c3
      unfold fH
      rw[jA,ah (fun h=>h.elim c1 fun h=>c2 (nB.symm.trans h)),ai (.inl c3)]
      exact .done ⟨rfl,rfl⟩
     ·have c3:¬aI a=1:=c3
      refine an (fun c4=>?_) (fun c4=>?_)
      ·have c4:B=1:=c4
       unfold fH
       rw[jA,ah (fun h=>h.elim c1 fun h=>c2 (nB.symm.trans h)),ai (.inr (nB.trans c4))]
       exact .done ⟨rfl,rfl⟩
      ·have c4:¬B=1:=c4
       unfold fH
       rw[jA,ah (fun h=>h.elim c1 fun h=>c2 (nB.symm.trans h)),ah (fun h=>h.elim c3 fun h=>c4 (nB.symm.trans h))]
       unfold mA
       refine az [] (Af (aI a) _ na) ?_
       intro p1
       refine ak 0 ?_
       refine az [] (Af (B) _ wB) ?_
       intro p2
       refine ak 0 ?_
       refine aa 1 ?_
       refine aa 0 ?_
       refine az [] (Mt op _ _ _ _ _) ?_
       cases hr:iv op (jX (aI a)) (jY (aI a)) (jX (B)) (jY (B)) with
       |none=>
        intro p3
        refine ak 0 ?_
        exact .drop 0 3 (.done ⟨rfl,rfl⟩)
       |some xy=>
        obtain⟨x,y⟩:=xy
        intro p3
        refine ak 0 ?_
        refine aa 0 ?_
        refine az [] (CU x y _) ?_
        exact .drop 0 3 (.done ⟨rfl,rfl⟩)
  ·have d2:¬op=4:=d2
   rw[show jJ op a b=fH op (aI a) (aI b) by unfold jJ;rw[ah (fun h=>h.elim d1 d2),QC]]
   refine an (fun c1=>?_) (fun c1=>?_)
   ·have c1:aI a=0:=c1
    unfold fH
    rw[jA,ai (.inl c1)]
    exact .done ⟨rfl,rfl⟩
   ·have c1:¬aI a=0:=c1
    refine an (fun c2=>?_) (fun c2=>?_)
    ·have c2:(aI b)=0:=c2
     unfold fH
     rw[jA,ai (.inr ((jA b).trans c2))]
     exact .done ⟨rfl,rfl⟩
    ·have c2:¬(aI b)=0:=c2
     refine an (fun c3=>?_) (fun c3=>?_)
     ·have c3:aI a=1:=c3
      unfold fH
      rw[jA,ah (fun h=>h.elim c1 fun h=>c2 ((jA b).symm.trans h)),ai (.inl c3)]
      exact .done ⟨rfl,rfl⟩
     ·have c3:¬aI a=1:=c3
      refine an (fun c4=>?_) (fun c4=>?_)
      ·have c4:(aI b)=1:=c4
       unfold fH
       rw[jA,ah (fun h=>h.elim c1 fun h=>c2 ((jA b).symm.trans h)),ai (.inr ((jA b).trans c4))]
       exact .done ⟨rfl,rfl⟩
      ·have c4:¬(aI b)=1:=c4
       unfold fH
       rw[jA,ah (fun h=>h.elim c1 fun h=>c2 ((jA b).symm.trans h)),ah (fun h=>h.elim c3 fun h=>c4 ((jA b).symm.trans h))]
       unfold mA
       refine az [] (Af (aI a) _ na) ?_
       intro p1
       refine ak 0 ?_
       refine az [] (Af ((aI b)) _ nb) ?_
       intro p2
       refine ak 0 ?_
       refine aa 1 ?_
       refine aa 0 ?_
       refine az [] (Mt op _ _ _ _ _) ?_
       cases hr:iv op (jX (aI a)) (jY (aI a)) (jX ((aI b))) (jY ((aI b))) with
       |none=>
        intro p3
        refine ak 0 ?_
        exact .drop 0 3 (.done ⟨rfl,rfl⟩)
       |some xy=>
        obtain⟨x,y⟩:=xy
        intro p3
        refine ak 0 ?_
        refine aa 0 ?_
        refine az [] (CU x y _) ?_
        exact .drop 0 3 (.done ⟨rfl,rfl⟩)
theorem ad8(g:Nat)(cap:List AV)(l:List (Sh.T (.int .u64)))(p:Sh.T (.int .u64)→Bool)(σ:Hp)(hl:l.length≤1000000)(hg:∀(i:Nat) (hi:i<l.length),ACalls Tryz.prog g (.int .u64 l[i]::cap) σ (aE (.bool (p l[i])) σ)):ACalls Tryz.prog 250 [.af (.int .u64) l,.fn (.func g) [] cap] σ (fun r σ'=>∃n:Int,r=.int .i64 n∧σ'=σ∧decide (0≤n)=l.any p):=by
 refine ay Tryz.func250 ?_
 refine bV (S:=Nat) (fun s=>[(0,.af (.int .u64) l),(1,.fn (.func g) [] cap),(7,.int .i64 l.length),(8,.int .i64 s)]) (fun _=>σ) (fun s=>s≤l.length∧(l.take s).any p=false) (fun s=>l.length-s) 0 ⟨⟨bA _,rfl⟩,⟨rfl,rfl,rfl,rfl,trivial⟩,rfl⟩ ?_
 rintro k t ⟨aL,fR⟩
 have hk:k≤l.length:=aL
 have hn:(l.take k).any p=false:=fR
 clear aL fR
 refine an (fun ab=>?_) (fun ar=>?_)
 ·have ab:k<l.length:=by have ab:(k:Int)<l.length:=ab;omega
  have hs:=qP ab p
  rw[hn,oK]at hs
  refine ag.mk rfl (bG.mk l[k] (by omega) (get_some ab) ?_)
  refine eb [] (hg k ab) (fun c=>?_) (fun c=>?_)
  ·have hp:l.any p=true:=mf.2 ⟨l[k],bX ab,c⟩
   exact .done ⟨_,rfl,rfl,by rw[hp];exact aV (by omega)⟩
  ·exact a8 (k+1) (by show l.length-(k+1)<l.length-k;omega) ⟨ab,hs.trans c⟩ ⟨rfl,rfl,rfl,aX (by omega),trivial⟩ (.refl _)
 ·have ar:k=l.length:=by have ar:¬(k:Int)<l.length:=ar;omega
  subst ar
  rw[fj]at hn
  exact .done ⟨_,rfl,rfl,by rw[hn];rfl⟩
theorem X4(g:Nat)(cap:List AV)(l:List (Sh.T (.int .u64)))(p:Sh.T (.int .u64)→Bool)(σ:Hp)(hl:l.length≤1000000)(hg:∀(i:Nat) (hi:i<l.length),ACalls Tryz.prog g (.int .u64 l[i]::cap) σ (aE (.bool (p l[i])) σ)):ACalls Tryz.prog 200 [.af (.int .u64) l,.fn (.func g) [] cap] σ (aE (.bool (l.any p)) σ):=by
 refine ay Tryz.func200 ?_
 refine .mk [] _ (ad8 g cap l p _ hl hg) ?_
 rintro _ _ ⟨n,rfl,rfl,hn⟩
 rw[← hn]
 refine an (fun c=>?_) (fun c=>?_)
 ·have c:0≤n:=c
  rw[aV c]
  exact .done ⟨rfl,rfl⟩
 ·have c:¬0≤n:=c
  rw[bR c]
  exact .done ⟨rfl,rfl⟩
abbrev aeH:Sh:=.field (.int .i64) (.field (.int .i64) .nil)
abbrev UG:Sh:=.field (.int .i64) (.field aeH .nil)
abbrev jd:Sh:=.field (.int .i64) (.field (.int .i64) (.field UG (.field UG .nil)))
abbrev agw:Type:=Int×Int×Unit
abbrev oo:Type:=Int×agw×Unit
abbrev da:Type:=Int×Int×oo×oo×Unit
abbrev Di(r:oo):List AV:=[.int .i64 r.1,.int .i64 r.2.1.1,.int .i64 r.2.1.2.1]
abbrev UX(c:da):List AV:=[.int .i64 c.1,.int .i64 c.2.1,.int .i64 c.2.2.1.1,.int .i64 c.2.2.1.2.1.1,.int .i64 c.2.2.1.2.1.2.1,.int .i64 c.2.2.2.1.1,.int .i64 c.2.2.2.1.2.1.1,.int .i64 c.2.2.2.1.2.1.2.1]
def Hn(c:da):AV:=.agg (UX c)
theorem adb(g:Nat)(cap:List AV)(l:List (Sh.T jd))(p:Sh.T jd→Bool)(σ:Hp)(hl:l.length≤1000000)(hg:∀(i:Nat) (hi:i<l.length),ACalls Tryz.prog g (Hn l[i]::cap) σ (aE (.bool (p l[i])) σ)):ACalls Tryz.prog 253 [.af jd l,.fn (.func g) [] cap] σ (fun r σ'=>∃n:Int,r=.int .i64 n∧σ'=σ∧decide (0≤n)=l.any p):=by
 refine ay Tryz.func253 ?_
 refine bV (S:=Nat) (fun s=>[(0,.af jd l),(1,.fn (.func g) [] cap),(7,.int .i64 l.length),(8,.int .i64 s)]) (fun _=>σ) (fun s=>s≤l.length∧(l.take s).any p=false) (fun s=>l.length-s) 0 ⟨⟨bA _,rfl⟩,⟨rfl,rfl,rfl,rfl,trivial⟩,rfl⟩ ?_
 rintro k t ⟨aL,fR⟩
 have hk:k≤l.length:=aL
 have hn:(l.take k).any p=false:=fR
 clear aL fR
 refine an (fun ab=>?_) (fun ar=>?_)
 ·have ab:k<l.length:=by have ab:(k:Int)<l.length:=ab;omega
  have hs:=qP ab p
  rw[hn,oK]at hs
  refine ag.mk rfl (bG.mk l[k] (by omega) (get_some ab) ?_)
  refine eb [] (hg k ab) (fun c=>?_) (fun c=>?_)
  ·have hp:l.any p=true:=mf.2 ⟨l[k],bX ab,c⟩
   exact .done ⟨_,rfl,rfl,by rw[hp];exact aV (by omega)⟩
  ·exact a8 (k+1) (by show l.length-(k+1)<l.length-k;omega) ⟨ab,hs.trans c⟩ ⟨rfl,rfl,rfl,aX (by omega),trivial⟩ (.refl _)
 ·have ar:k=l.length:=by have ar:¬(k:Int)<l.length:=ar;omega
  subst ar
  rw[fj]at hn
  exact .done ⟨_,rfl,rfl,by rw[hn];rfl⟩
theorem X7(g:Nat)(cap:List AV)(l:List (Sh.T jd))(p:Sh.T jd→Bool)(σ:Hp)(hl:l.length≤1000000)(hg:∀(i:Nat) (hi:i<l.length),ACalls Tryz.prog g (Hn l[i]::cap) σ (aE (.bool (p l[i])) σ)):ACalls Tryz.prog 207 [.af jd l,.fn (.func g) [] cap] σ (aE (.bool (l.any p)) σ):=by
 refine ay Tryz.func207 ?_
 refine .mk [] _ (adb g cap l p _ hl hg) ?_
 rintro _ _ ⟨n,rfl,rfl,hn⟩
 rw[← hn]
 refine an (fun c=>?_) (fun c=>?_)
 ·have c:0≤n:=c
  rw[aV c]
  exact .done ⟨rfl,rfl⟩
 ·have c:¬0≤n:=c
  rw[bR c]
  exact .done ⟨rfl,rfl⟩
theorem ada(l:List Int)(x:Int)(σ:Hp)(hl:l.length≤1000000):ACalls Tryz.prog 329 [.af (.int .u64) l,.int .u64 x] σ (fun r σ'=>∃n:Int,r=.int .i64 n∧σ'=σ∧decide (0≤n)=l.any fun z=>decide (x=z)):=by
 refine ay Tryz.func329 ?_
 refine bV (S:=Nat) (fun s=>[(0,.af (.int .u64) l),(1,.int .u64 x),(7,.int .i64 l.length),(8,.int .i64 s)]) (fun _=>σ) (fun s=>s≤l.length∧((l.take s).any fun z=>decide (x=z))=false) (fun s=>l.length-s) 0 ⟨⟨bA _,rfl⟩,⟨rfl,rfl,rfl,rfl,trivial⟩,rfl⟩ ?_
 rintro k t ⟨aL,fR⟩
 have hk:k≤l.length:=aL
 have hn:((l.take k).any fun z=>decide (x=z))=false:=fR
 clear aL fR
 refine an (fun ab=>?_) (fun ar=>?_)
 ·have ab:k<l.length:=by have ab:(k:Int)<l.length:=ab;omega
  have hs:=qP ab fun z=>decide (x=z)
  rw[hn,oK]at hs
  refine ag.mk rfl (bG.mk l[k] (by omega) (get_some ab) ?_)
  refine an (fun c=>?_) (fun c=>?_)
  ·have c:x=l[k]:=c
   have hp:(l.any fun z=>decide (x=z))=true:=mf.2 ⟨l[k],bX ab,aV c⟩
   exact .done ⟨_,rfl,rfl,by rw[hp];exact aV (by omega)⟩
  ·have c:¬x=l[k]:=c
   exact a8 (k+1) (by show l.length-(k+1)<l.length-k;omega) ⟨ab,hs.trans (bR c)⟩ ⟨rfl,rfl,rfl,aX (by omega),trivial⟩ (.refl _)
 ·have ar:k=l.length:=by have ar:¬(k:Int)<l.length:=ar;omega
  subst ar
  rw[fj]at hn
  exact .done ⟨_,rfl,rfl,by rw[hn];rfl⟩
theorem X6(l:List Int)(x:Int)(σ:Hp)(hl:l.length≤1000000):ACalls Tryz.prog 301 [.af (.int .u64) l,.int .u64 x] σ (aE (.bool (l.any fun z=>decide (x=z))) σ):=by
 refine ay Tryz.func301 ?_
 refine .mk [] _ (ada l x _ hl) ?_
 rintro _ _ ⟨n,rfl,rfl,hn⟩
 rw[← hn]
 refine an (fun c=>?_) (fun c=>?_)
 ·have c:0≤n:=c
  rw[aV c]
  exact .done ⟨rfl,rfl⟩
 ·have c:¬0≤n:=c
  rw[bR c]
  exact .done ⟨rfl,rfl⟩
end Go.Proofs.YtnikdflhefijbaaGreat
