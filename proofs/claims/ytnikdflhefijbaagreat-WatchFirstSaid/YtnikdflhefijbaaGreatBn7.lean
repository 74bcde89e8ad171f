import Derived.Test.YtnikdflhefijbaaGreatBn6
import Derived.Test.YtnikdflhefijbaaGreatBn5
namespace Go.Proofs.YtnikdflhefijbaaGreat
open Go.RowKit
set_option maxRecDepth 100000
def np(l:List Int):Int:=if (l.any fun w=>decide (bD w=0)) then 0 else if (l.any fun w=>decide (bD w=1)) then 1 else 2
theorem Ye(l:List Int)(w:Int)(h:(l.any fun w=>decide (bD w=0))=false):np (l++[w])=if bD w=0 then 0 else if bD w=1 then 1 else np l:=by
 unfold np
 rw[gu6,gu6,h]
 by_cases h0:bD w=0
 ·simp[h0]
 ·by_cases h1:bD w=1
  ·simp[h1]
  ·simp[h0,h1]
theorem Yd(l:List Int){w:Int}(hm:w∈l)(h:bD w=0):np l=0:=by
 unfold np
 rw[ah]
 exact lA.2 ⟨w,hm,aL h⟩
theorem MX(l:List Int)(σ:Hp)(hl:l.length≤100000):ACalls Tryz.prog 343 [.ae (.int .u64) l] σ (aB (.int .u64 (np l)) σ):=by
 refine au Tryz.func343 ?_
 refine cc (S:=Nat) (fun s=>[(3,.int .u64 (np (l.take s))),(6,.ae (.int .u64) l),(7,.int .i64 l.length),(8,.int .i64 s)]) (fun _=>σ) (fun s=>s≤l.length∧((l.take s).any fun w=>decide (bD w=0))=false) (fun s=>l.length-s) 0 ⟨⟨bE _,rfl⟩,⟨rfl,rfl,rfl,rfl,trivial⟩,rfl⟩ ?_
 rintro k g ⟨aP,iA⟩
 have hk:k≤l.length:=aP
 have hz:((l.take k).any fun w=>decide (bD w=0))=false:=iA
 clear aP iA
 refine ak (fun ab=>?_) (fun aq=>?_)
 ·have ab:k<l.length:=by have ab:(k:Int)<l.length:=ab;omega
  have hs:=Ye (l.take k) l[k] hz
  rw[← fw ab]at hs
  have gm:((l.take (k+1)).any fun w=>decide (bD w=0))=decide (bD l[k]=0):=by
   rw[List.take_succ_eq_append_getElem ab,List.any_append,hz];simp
  refine aG.mk rfl (bM.mk l[k] (by omega) (get_some ab) ?_)
  refine az [] (Nu l[k] _) ?_
  refine ak (fun c1=>?_) (fun c1=>?_)
  ·have c1:bD l[k]=0:=c1
   refine .fwd 1 ?_
   rw[Yd l (bX ab) c1]
   exact .done ⟨rfl,rfl⟩
  ·have c1:¬(bD l[k]=0):=c1
   refine ak (fun c2=>?_) (fun c2=>?_)
   ·have c2:bD l[k]=1:=c2
    refine bg (k+1) (by show l.length-(k+1)<l.length-k;omega) ⟨ab,by rw[gm];exact bH c1⟩ ⟨?_,rfl,rfl,a8 (by omega),trivial⟩ (.refl _)
    rw[hs,ag c1,ah c2]
    rfl
   ·have c2:¬(bD l[k]=1):=c2
    refine bg (k+1) (by show l.length-(k+1)<l.length-k;omega) ⟨ab,by rw[gm];exact bH c1⟩ ⟨?_,rfl,rfl,a8 (by omega),trivial⟩ (.refl _)
    rw[hs,ag c1,ag c2]
    rfl
 ·have aq:k=l.length:=by have aq:¬(k:Int)<l.length:=aq;omega
  subst aq
  rw[fu]
  exact .done ⟨rfl,rfl⟩
theorem afI{op:Int}(h:op=0∨op=4)(a b c d c2 d2:Int):qN op a b c d=qN op a b c2 d2:=by
 rcases h with rfl | rfl <;> rfl
def pL(op a b:Int):Int:=match qN op (pC a) (pD a) (pC b) (pD b) with | some (x,y)=>oQ x y | none=>1
def pN(op a b:Int):Int:=if bD a=0∨bD b=0 then 0 else if bD a=1∨bD b=1 then 1 else pL op a b
def mT(op a b:Int):Int:=if op=0∨op=4 then pN op a 2 else pN op a b
theorem afO(x y:Int):2≤oQ x y:=by have:=GR x y;unfold oQ;omega
theorem afN(x y:Int):fO (oQ x y)=true:=by
 have h1:=GR x y
 have h2:=Lu x y
 unfold fO oQ;simp;omega
theorem norm_num{w:Int}(h:fO w=true):bD w=w:=by
 have:=LI h
 unfold bD
 rw[ag this.1,ag this.2,ah h]
theorem adM{op:Int}(h:op=0∨op=4)(a b c:Int):pL op a b=pL op a c:=by
 unfold pL
 rw[afI h (pC a) (pD a) (pC b) (pD b) (pC c) (pD c)]
theorem LJ:bD 2=2:=by decide
theorem Gn{op:Int}(a b:Int)(h:op=0∨op=4):mT op a b=if np [a]=2 then pL op a b else np [a]:=by
 unfold mT pN np
 rw[ah h,LJ,adM h a b 2]
 by_cases h0:bD a=0
 ·simp[h0]
 ·by_cases h1:bD a=1
  ·simp[h1]
  ·simp[h0,h1]
theorem QR{op:Int}(a b:Int)(h:¬(op=0∨op=4)):mT op a b=if np [a,b]=2 then pL op a b else np [a,b]:=by
 unfold mT pN np
 rw[ag h]
 by_cases h0:bD a=0
 ·simp[h0]
 ·by_cases h1:bD a=1
  ·by_cases g0:bD b=0
   ·simp[g0]
   ·simp[h1,g0]
  ·by_cases g0:bD b=0
   ·simp[g0]
   ·by_cases g1:bD b=1
    ·simp[h0,g1]
    ·simp[h0,h1,g0,g1]
theorem aiG(op a b:Int)(σ:Hp)(ha:bK a)(hb:bK b):ACalls Tryz.prog 332 [.int .i64 op,.int .u64 a,.int .u64 b] σ (aB (.int .u64 (mT op a b)) σ):=by
 refine au Tryz.func332 ?_
 intro aD
 refine .cX (args':=[.ae (.int .u64) [a,b]]) 0 aD 0 2 1 _ (.int .u64) [a,b] rfl rfl ⟨rfl,rfl,by decide⟩ (cg .here AN) (az [] (MX [a,b] _ (by show 2≤100000;omega)) ?_)
 refine ak (fun c1=>?_) (fun c1=>?_)
 ·have c1:op=0:=c1
  intro du
  refine .cX (args':=[.ae (.int .u64) [a]]) 0 du 0 1 1 _ (.int .u64) [a] rfl rfl ⟨rfl,rfl,by decide⟩ (cg .here AN) (az [] (MX [a] _ (by show 1≤100000;omega)) ?_)
  generalize hL:np [a]=L
  refine cI (fun c5=>?_) (fun c5=>?_)
  ·have c5:¬(L=2):=by simpa using c5
   rw[Gn a b (.inl c1),ag (by rw[hL];exact c5),hL]
   exact .done ⟨rfl,rfl⟩
  ·have c5:L=2:=by simpa using c5
   rw[Gn a b (.inl c1),ah (by rw[hL];exact c5)]
   refine az [] (Bh a _ ha) ?_
   intro p1
   refine aj 0 ?_
   refine az [] (Bh b _ hb) ?_
   intro p2
   refine aj 0 ?_
   refine aa 1 ?_
   refine aa 0 ?_
   refine az [] (NU op _ _ _ _ _) ?_
   unfold pL
   cases hr:qN op (pC a) (pD a) (pC b) (pD b) with
   |none=>
    intro p3
    refine aj 0 ?_
    exact .drop 0 3 (.done ⟨rfl,rfl⟩)
   |some xy=>
    obtain⟨x,y⟩:=xy
    intro p3
    refine aj 0 ?_
    refine aa 0 ?_
    refine az [] (Ib x y _) ?_
    exact .drop 0 3 (.done ⟨rfl,rfl⟩)
 ·have c1:¬(op=0):=c1
  refine ak (fun c3=>?_) (fun c3=>?_)
  ·have c3:op=4:=c3
   intro Ku
   refine .cX (args':=[.ae (.int .u64) [a]]) 0 Ku 0 1 1 _ (.int .u64) [a] rfl rfl ⟨rfl,rfl,by decide⟩ (cg .here AN) (az [] (MX [a] _ (by show 1≤100000;omega)) ?_)
   generalize hL:np [a]=L
   refine cI (fun c5=>?_) (fun c5=>?_)
   ·have c5:¬(L=2):=by simpa using c5
    rw[Gn a b (.inr c3),ag (by rw[hL];exact c5),hL]
    exact .done ⟨rfl,rfl⟩
   ·have c5:L=2:=by simpa using c5
    rw[Gn a b (.inr c3),ah (by rw[hL];exact c5)]
    refine az [] (Bh a _ ha) ?_
    intro p1
    refine aj 0 ?_
    refine az [] (Bh b _ hb) ?_
    intro p2
    refine aj 0 ?_
    refine aa 1 ?_
    refine aa 0 ?_
    refine az [] (NU op _ _ _ _ _) ?_
    unfold pL
    cases hr:qN op (pC a) (pD a) (pC b) (pD b) with
    |none=>
     intro p3
     refine aj 0 ?_
     exact .drop 0 3 (.done ⟨rfl,rfl⟩)
    |some xy=>
     obtain⟨x,y⟩:=xy
     intro p3
     refine aj 0 ?_
     refine aa 0 ?_
     refine az [] (Ib x y _) ?_
     exact .drop 0 3 (.done ⟨rfl,rfl⟩)
  ·have c3:¬(op=4):=c3
   generalize hL:np [a,b]=L
   refine cI (fun c5=>?_) (fun c5=>?_)
   ·have c5:¬(L=2):=by simpa using c5
    rw[QR a b (fun h=>h.elim c1 c3),ag (by rw[hL];exact c5),hL]
    exact .done ⟨rfl,rfl⟩
   ·have c5:L=2:=by simpa using c5
    rw[QR a b (fun h=>h.elim c1 c3),ah (by rw[hL];exact c5)]
    refine az [] (Bh a _ ha) ?_
    intro p1
    refine aj 0 ?_
    refine az [] (Bh b _ hb) ?_
    intro p2
    refine aj 0 ?_
    refine aa 1 ?_
    refine aa 0 ?_
    refine az [] (NU op _ _ _ _ _) ?_
    unfold pL
    cases hr:qN op (pC a) (pD a) (pC b) (pD b) with
    |none=>
     intro p3
     refine aj 0 ?_
     exact .drop 0 3 (.done ⟨rfl,rfl⟩)
    |some xy=>
     obtain⟨x,y⟩:=xy
     intro p3
     refine aj 0 ?_
     refine aa 0 ?_
     refine az [] (Ib x y _) ?_
     exact .drop 0 3 (.done ⟨rfl,rfl⟩)
theorem afc(g:Nat)(cap:List AV)(l:List (Sh.T (.int .u64)))(p:Sh.T (.int .u64)→Bool)(σ:Hp)(hl:l.length≤1000000)(hg:∀(i:Nat) (hi:i<l.length),ACalls Tryz.prog g (.int .u64 l[i]::cap) σ (aB (.bool (p l[i])) σ)):ACalls Tryz.prog 250 [.ae (.int .u64) l,.fn (.func g) [] cap] σ (fun r σ'=>∃n:Int,r=.int .i64 n∧σ'=σ∧decide (0≤n)=l.any p):=by
 refine au Tryz.func250 ?_
 refine cc (S:=Nat) (fun s=>[(0,.ae (.int .u64) l),(1,.fn (.func g) [] cap),(7,.int .i64 l.length),(8,.int .i64 s)]) (fun _=>σ) (fun s=>s≤l.length∧(l.take s).any p=false) (fun s=>l.length-s) 0 ⟨⟨bE _,rfl⟩,⟨rfl,rfl,rfl,rfl,trivial⟩,rfl⟩ ?_
 rintro k t ⟨aP,e8⟩
 have hk:k≤l.length:=aP
 have hn:(l.take k).any p=false:=e8
 clear aP e8
 refine ak (fun ab=>?_) (fun aq=>?_)
 ·have ab:k<l.length:=by have ab:(k:Int)<l.length:=ab;omega
  have hs:=qj ab p
  rw[hn,mY]at hs
  refine aG.mk rfl (bM.mk l[k] (by omega) (get_some ab) ?_)
  refine dm [] (hg k ab) (fun c=>?_) (fun c=>?_)
  ·have hp:l.any p=true:=lA.2 ⟨l[k],bX ab,c⟩
   exact .done ⟨_,rfl,rfl,by rw[hp];exact aL (by omega)⟩
  ·exact bg (k+1) (by show l.length-(k+1)<l.length-k;omega) ⟨ab,hs.trans c⟩ ⟨rfl,rfl,rfl,a8 (by omega),trivial⟩ (.refl _)
 ·have aq:k=l.length:=by have aq:¬(k:Int)<l.length:=aq;omega
  subst aq
  rw[fu]at hn
  exact .done ⟨_,rfl,rfl,by rw[hn];rfl⟩
theorem Zz(g:Nat)(cap:List AV)(l:List (Sh.T (.int .u64)))(p:Sh.T (.int .u64)→Bool)(σ:Hp)(hl:l.length≤1000000)(hg:∀(i:Nat) (hi:i<l.length),ACalls Tryz.prog g (.int .u64 l[i]::cap) σ (aB (.bool (p l[i])) σ)):ACalls Tryz.prog 200 [.ae (.int .u64) l,.fn (.func g) [] cap] σ (aB (.bool (l.any p)) σ):=by
 refine au Tryz.func200 ?_
 refine .mk [] _ (afc g cap l p _ hl hg) ?_
 rintro _ _ ⟨n,rfl,rfl,hn⟩
 rw[← hn]
 refine ak (fun c=>?_) (fun c=>?_)
 ·have c:0≤n:=c
  rw[aL c]
  exact .done ⟨rfl,rfl⟩
 ·have c:¬0≤n:=c
  rw[bH c]
  exact .done ⟨rfl,rfl⟩
abbrev agN:Sh:=.field (.int .i64) (.field (.int .i64) .nil)
abbrev V2:Sh:=.field (.int .i64) (.field agN .nil)
abbrev jr:Sh:=.field (.int .i64) (.field (.int .i64) (.field V2 (.field V2 .nil)))
abbrev aiI:Type:=Int×Int×Unit
abbrev oN:Type:=Int×aiI×Unit
abbrev df:Type:=Int×Int×oN×oN×Unit
abbrev Ej(r:oN):List AV:=[.int .i64 r.1,.int .i64 r.2.1.1,.int .i64 r.2.1.2.1]
abbrev Wn(c:df):List AV:=[.int .i64 c.1,.int .i64 c.2.1,.int .i64 c.2.2.1.1,.int .i64 c.2.2.1.2.1.1,.int .i64 c.2.2.1.2.1.2.1,.int .i64 c.2.2.2.1.1,.int .i64 c.2.2.2.1.2.1.1,.int .i64 c.2.2.2.1.2.1.2.1]
def Ic(c:df):AV:=.agg (Wn c)
theorem aff(g:Nat)(cap:List AV)(l:List (Sh.T jr))(p:Sh.T jr→Bool)(σ:Hp)(hl:l.length≤1000000)(hg:∀(i:Nat) (hi:i<l.length),ACalls Tryz.prog g (Ic l[i]::cap) σ (aB (.bool (p l[i])) σ)):ACalls Tryz.prog 253 [.ae jr l,.fn (.func g) [] cap] σ (fun r σ'=>∃n:Int,r=.int .i64 n∧σ'=σ∧decide (0≤n)=l.any p):=by
 refine au Tryz.func253 ?_
 refine cc (S:=Nat) (fun s=>[(0,.ae jr l),(1,.fn (.func g) [] cap),(7,.int .i64 l.length),(8,.int .i64 s)]) (fun _=>σ) (fun s=>s≤l.length∧(l.take s).any p=false) (fun s=>l.length-s) 0 ⟨⟨bE _,rfl⟩,⟨rfl,rfl,rfl,rfl,trivial⟩,rfl⟩ ?_
 rintro k t ⟨aP,e8⟩
 have hk:k≤l.length:=aP
 have hn:(l.take k).any p=false:=e8
 clear aP e8
 refine ak (fun ab=>?_) (fun aq=>?_)
 ·have ab:k<l.length:=by have ab:(k:Int)<l.length:=ab;omega
  have hs:=qj ab p
  rw[hn,mY]at hs
  refine aG.mk rfl (bM.mk l[k] (by omega) (get_some ab) ?_)
  refine dm [] (hg k ab) (fun c=>?_) (fun c=>?_)
  ·have hp:l.any p=true:=lA.2 ⟨l[k],bX ab,c⟩
   exact .done ⟨_,rfl,rfl,by rw[hp];exact aL (by omega)⟩
  ·exact bg (k+1) (by show l.length-(k+1)<l.length-k;omega) ⟨ab,hs.trans c⟩ ⟨rfl,rfl,rfl,a8 (by omega),trivial⟩ (.refl _)
 ·have aq:k=l.length:=by have aq:¬(k:Int)<l.length:=aq;omega
  subst aq
  rw[fu]at hn
  exact .done ⟨_,rfl,rfl,by rw[hn];rfl⟩
theorem ZC(g:Nat)(cap:List AV)(l:List (Sh.T jr))(p:Sh.T jr→Bool)(σ:Hp)(hl:l.length≤1000000)(hg:∀(i:Nat) (hi:i<l.length),ACalls Tryz.prog g (Ic l[i]::cap) σ (aB (.bool (p l[i])) σ)):ACalls Tryz.prog 207 [.ae jr l,.fn (.func g) [] cap] σ (aB (.bool (l.any p)) σ):=by
 refine au Tryz.func207 ?_
 refine .mk [] _ (aff g cap l p _ hl hg) ?_
 rintro _ _ ⟨n,rfl,rfl,hn⟩
 rw[← hn]
 refine ak (fun c=>?_) (fun c=>?_)
 ·have c:0≤n:=c
  rw[aL c]
  exact .done ⟨rfl,rfl⟩
 ·have c:¬0≤n:=c
  rw[bH c]
  exact .done ⟨rfl,rfl⟩
theorem ad4(g:Nat)(cap:List AV)(l:List (Sh.T (.slice (.int .u64))))(p:Sh.T (.slice (.int .u64))→Bool)(σ:Hp)(hl:l.length≤1000000)(hg:∀(i:Nat) (hi:i<l.length),ACalls Tryz.prog g (.ae (.int .u64) l[i]::cap) σ (aB (.bool (p l[i])) σ)):ACalls Tryz.prog 277 [.ae (.slice (.int .u64)) l,.fn (.func g) [] cap] σ (fun r σ'=>∃n:Int,r=.int .i64 n∧σ'=σ∧decide (0≤n)=l.any p):=by
 refine au Tryz.func277 ?_
 refine cc (S:=Nat) (fun s=>[(0,.ae (.slice (.int .u64)) l),(1,.fn (.func g) [] cap),(7,.int .i64 l.length),(8,.int .i64 s)]) (fun _=>σ) (fun s=>s≤l.length∧(l.take s).any p=false) (fun s=>l.length-s) 0 ⟨⟨bE _,rfl⟩,⟨rfl,rfl,rfl,rfl,trivial⟩,rfl⟩ ?_
 rintro k t ⟨aP,e8⟩
 have hk:k≤l.length:=aP
 have hn:(l.take k).any p=false:=e8
 clear aP e8
 refine ak (fun ab=>?_) (fun aq=>?_)
 ·have ab:k<l.length:=by have ab:(k:Int)<l.length:=ab;omega
  have hs:=qj ab p
  rw[hn,mY]at hs
  refine aG.mk rfl (bM.mk l[k] (by omega) (get_some ab) ?_)
  refine dm [] (hg k ab) (fun c=>?_) (fun c=>?_)
  ·have hp:l.any p=true:=lA.2 ⟨l[k],bX ab,c⟩
   exact .done ⟨_,rfl,rfl,by rw[hp];exact aL (by omega)⟩
  ·exact bg (k+1) (by show l.length-(k+1)<l.length-k;omega) ⟨ab,hs.trans c⟩ ⟨rfl,rfl,rfl,a8 (by omega),trivial⟩ (.refl _)
 ·have aq:k=l.length:=by have aq:¬(k:Int)<l.length:=aq;omega
  subst aq
  rw[fu]at hn
  exact .done ⟨_,rfl,rfl,by rw[hn];rfl⟩
theorem Qu(g:Nat)(cap:List AV)(l:List (Sh.T (.slice (.int .u64))))(p:Sh.T (.slice (.int .u64))→Bool)(σ:Hp)(hl:l.length≤1000000)(hg:∀(i:Nat) (hi:i<l.length),ACalls Tryz.prog g (.ae (.int .u64) l[i]::cap) σ (aB (.bool (p l[i])) σ)):ACalls Tryz.prog 241 [.ae (.slice (.int .u64)) l,.fn (.func g) [] cap] σ (aB (.bool (l.any p)) σ):=by
 refine au Tryz.func241 ?_
 refine .mk [] _ (ad4 g cap l p _ hl hg) ?_
 rintro _ _ ⟨n,rfl,rfl,hn⟩
 rw[← hn]
 refine ak (fun c=>?_) (fun c=>?_)
 ·have c:0≤n:=c
  rw[aL c]
  exact .done ⟨rfl,rfl⟩
 ·have c:¬0≤n:=c
  rw[bH c]
  exact .done ⟨rfl,rfl⟩
theorem afe(l:List Int)(x:Int)(σ:Hp)(hl:l.length≤1000000):ACalls Tryz.prog 329 [.ae (.int .u64) l,.int .u64 x] σ (fun r σ'=>∃n:Int,r=.int .i64 n∧σ'=σ∧decide (0≤n)=l.any fun z=>decide (x=z)):=by
 refine au Tryz.func329 ?_
 refine cc (S:=Nat) (fun s=>[(0,.ae (.int .u64) l),(1,.int .u64 x),(7,.int .i64 l.length),(8,.int .i64 s)]) (fun _=>σ) (fun s=>s≤l.length∧((l.take s).any fun z=>decide (x=z))=false) (fun s=>l.length-s) 0 ⟨⟨bE _,rfl⟩,⟨rfl,rfl,rfl,rfl,trivial⟩,rfl⟩ ?_
 rintro k t ⟨aP,e8⟩
 have hk:k≤l.length:=aP
 have hn:((l.take k).any fun z=>decide (x=z))=false:=e8
 clear aP e8
 refine ak (fun ab=>?_) (fun aq=>?_)
 ·have ab:k<l.length:=by have ab:(k:Int)<l.length:=ab;omega
  have hs:=qj ab fun z=>decide (x=z)
  rw[hn,mY]at hs
  refine aG.mk rfl (bM.mk l[k] (by omega) (get_some ab) ?_)
  refine ak (fun c=>?_) (fun c=>?_)
  ·have c:x=l[k]:=c
   have hp:(l.any fun z=>decide (x=z))=true:=lA.2 ⟨l[k],bX ab,aL c⟩
   exact .done ⟨_,rfl,rfl,by rw[hp];exact aL (by omega)⟩
  ·have c:¬x=l[k]:=c
   exact bg (k+1) (by show l.length-(k+1)<l.length-k;omega) ⟨ab,hs.trans (bH c)⟩ ⟨rfl,rfl,rfl,a8 (by omega),trivial⟩ (.refl _)
 ·have aq:k=l.length:=by have aq:¬(k:Int)<l.length:=aq;omega
  subst aq
  rw[fu]at hn
  exact .done ⟨_,rfl,rfl,by rw[hn];rfl⟩
theorem ZB(l:List Int)(x:Int)(σ:Hp)(hl:l.length≤1000000):ACalls Tryz.prog 301 [.ae (.int .u64) l,.int .u64 x] σ (aB (.bool (l.any fun z=>decide (x=z))) σ):=by
 refine au Tryz.func301 ?_
 refine .mk [] _ (afe l x _ hl) ?_
 rintro _ _ ⟨n,rfl,rfl,hn⟩
 rw[← hn]
 refine ak (fun c=>?_) (fun c=>?_)
 ·have c:0≤n:=c
  rw[aL c]
  exact .done ⟨rfl,rfl⟩
 ·have c:¬0≤n:=c
  rw[bH c]
  exact .done ⟨rfl,rfl⟩
theorem US(xs ys:List Int)(σ:Hp)(h1:xs.length≤1000000):ACalls Tryz.prog 244 [.ae (.int .u64) xs,.ae (.int .u64) ys] σ (aB (.bool (decide (xs=ys))) σ):=by
 refine au Tryz.func244 ?_
 refine cI (fun hl=>?_) (fun hl=>?_)
 ·have:xs≠ys:=by rintro rfl;simp at hl
  exact .done ⟨by simp[this];rfl,rfl⟩
 ·have hl:(!decide ((xs.length:Int)=(ys.length:Int)))=false:=hl
  have hlen:xs.length=ys.length:=by simp at hl;omega
  refine cc (S:=Nat) (fun k=>[(0,.ae (.int .u64) xs),(1,.ae (.int .u64) ys),(12,.int .i64 xs.length),(13,.int .i64 k)]) (fun _=>σ) (fun k=>k≤xs.length∧xs.take k=ys.take k) (fun k=>xs.length-k) 0 ⟨⟨bE _,rfl⟩,⟨rfl,rfl,rfl,rfl,trivial⟩,rfl⟩ ?_
  rintro k g ⟨hk,fQ⟩
  refine ak (fun ab=>?_) (fun aq=>?_)
  ·have eQ:k<xs.length:=by omega
   have W2:k<ys.length:=by omega
   refine gz.quiet (by kernel_rfl) ?_
   refine aG.mk rfl (bM.mk xs[k] (by omega) (get_some eQ) ?_)
   refine aG.mk rfl (bM.mk ys[k] (by omega) (get_some W2) ?_)
   refine cI (fun hx=>?_) (fun hx=>?_)
   ·have:xs≠ys:=by rintro rfl;simp at hx
    exact .done ⟨by simp[this];rfl,rfl⟩
   ·have kG:xs[k]=ys[k]:=by simpa using hx
    refine next (k+1) (Nat.sub_lt_sub_left eQ (Nat.lt_succ_self k)) ⟨eQ,?_⟩ ⟨rfl,rfl,rfl,a8 (by omega),trivial⟩ rfl
    rw[fw eQ,fw W2,fQ,kG]
  ·obtain rfl:k=xs.length:=by omega
   have:xs=ys:=by
    rw[fu]at fQ
    rw[fQ,hlen,fu]
   exact .done ⟨by simp[this];rfl,rfl⟩
def cO(what width:Int):Bool:=decide (1≤what)&&decide (what≤3)&&decide (0≤width)&&decide (width≤1024)
theorem IZ(what width:Int)(σ:Hp):ACalls Tryz.prog 112 [.int .i64 what,.int .i64 width] σ (aB (.bool (cO what width)) σ):=by
 refine au Tryz.func112 ?_
 refine ak (fun c1=>?_) (fun c1=>?_)
 ·have c1:1≤what:=c1
  refine ak (fun c2=>?_) (fun c2=>?_)
  ·have c2:what≤3:=c2
   refine ak (fun c3=>?_) (fun c3=>?_)
   ·have c3:0≤width:=c3
    refine ak (fun c4=>?_) (fun c4=>?_)
    ·have c4:width≤1024:=c4
     exact .done ⟨bY (by first | (simp_all [cO];done) | (simp_all [cO];intros;omega)),rfl⟩
    ·have c4:¬(width≤1024):=c4
     exact .done ⟨bY (by first | (simp_all [cO];done) | (simp_all [cO];intros;omega)),rfl⟩
   ·have c3:¬(0≤width):=c3
    exact .done ⟨bY (by first | (simp_all [cO];done) | (simp_all [cO];intros;omega)),rfl⟩
  ·have c2:¬(what≤3):=c2
   exact .done ⟨bY (by first | (simp_all [cO];done) | (simp_all [cO];intros;omega)),rfl⟩
 ·have c1:¬(1≤what):=c1
  exact .done ⟨bY (by first | (simp_all [cO];done) | (simp_all [cO];intros;omega)),rfl⟩
def de(what:Int)(xs ys:List Int):List Int:=List.zipWith (dD what) xs ys
theorem Xz(what:Int)(xs ys:List Int)(h:xs.length=ys.length):(de what xs ys).length=xs.length:=by simp[de,h]
theorem EJ(what width:Int)(σ:Hp):ACalls Tryz.prog 152 [.int .i64 what,.int .i64 width] σ (aB (.bool (cO what width)) σ):=by
 refine au Tryz.func152 ?_
 have hk:∀w:Int,(1≤w∧w≤3)↔(w=1∨w=2∨w=3):=fun w=>by omega
 have hI:cO what width=(decide (what=1∨what=2∨what=3)&&decide (0≤width)&&decide (width≤1024)):=by
  unfold cO
  rw[← Bool.decide_and,decide_eq_decide.2 (hk what)]
 rw[hI]
 refine ak (fun c1=>?_) (fun c1=>?_)
 ·have c1:what=1:=c1
  have hw:(what=1∨what=2∨what=3):=.inl c1
  refine ak (fun d1=>?_) (fun d1=>?_)
  ·have d1:0≤width:=d1
   refine ak (fun d2=>?_) (fun d2=>?_)
   ·have d2:width≤1024:=d2
    rw[aL hw,aL d1,aL d2]
    exact .done ⟨rfl,rfl⟩
   ·have d2:¬width≤1024:=d2
    rw[aL hw,aL d1,bH d2]
    exact .done ⟨rfl,rfl⟩
  ·have d1:¬0≤width:=d1
   rw[aL hw,bH d1]
   exact .done ⟨rfl,rfl⟩
 ·have c1:¬what=1:=c1
  refine ak (fun c2=>?_) (fun c2=>?_)
  ·have c2:what=2:=c2
   have hw:(what=1∨what=2∨what=3):=.inr (.inl c2)
   refine ak (fun d1=>?_) (fun d1=>?_)
   ·have d1:0≤width:=d1
    refine ak (fun d2=>?_) (fun d2=>?_)
    ·have d2:width≤1024:=d2
     rw[aL hw,aL d1,aL d2]
     exact .done ⟨rfl,rfl⟩
    ·have d2:¬width≤1024:=d2
     rw[aL hw,aL d1,bH d2]
     exact .done ⟨rfl,rfl⟩
   ·have d1:¬0≤width:=d1
    rw[aL hw,bH d1]
    exact .done ⟨rfl,rfl⟩
  ·have c2:¬what=2:=c2
   refine ak (fun c3=>?_) (fun c3=>?_)
   ·have c3:what=3:=c3
    have hw:(what=1∨what=2∨what=3):=.inr (.inr c3)
    refine ak (fun d1=>?_) (fun d1=>?_)
    ·have d1:0≤width:=d1
     refine ak (fun d2=>?_) (fun d2=>?_)
     ·have d2:width≤1024:=d2
      rw[aL hw,aL d1,aL d2]
      exact .done ⟨rfl,rfl⟩
     ·have d2:¬width≤1024:=d2
      rw[aL hw,aL d1,bH d2]
      exact .done ⟨rfl,rfl⟩
    ·have d1:¬0≤width:=d1
     rw[aL hw,bH d1]
     exact .done ⟨rfl,rfl⟩
   ·have c3:¬what=3:=c3
    rw[bH (p:=what=1∨what=2∨what=3) (fun h=>h.elim c1 fun h=>h.elim c2 c3)]
    exact .done ⟨rfl,rfl⟩
def eX(what width:Int):Int:=if cO what width=true then (if what=3 then width else (ej width:Int)) else 0
theorem Hz(what width:Int)(σ:Hp):ACalls Tryz.prog 85 [.int .i64 what,.int .i64 width] σ (aB (.int .i64 (eX what width)) σ):=by
 refine au Tryz.func85 ?_
 unfold eX
 refine dm [] (EJ what width _) (fun hi=>?_) (fun hi=>?_)
 ·rw[ah hi]
  have h3:(what=1∨what=2∨what=3):=by unfold cO at hi;simp at hi;omega
  refine ak (fun c1=>?_) (fun c1=>?_)
  ·have c1:what=1:=c1
   rw[ag (by omega)]
   refine az [] (Hy width _) ?_
   exact .done ⟨rfl,rfl⟩
  ·have c1:¬what=1:=c1
   refine ak (fun c2=>?_) (fun c2=>?_)
   ·have c2:what=2:=c2
    rw[ag (by omega)]
    refine az [] (Hy width _) ?_
    exact .done ⟨rfl,rfl⟩
   ·have c2:¬what=2:=c2
    rw[ah (by omega)]
    exact .done ⟨rfl,rfl⟩
 ·rw[ag (by rw[hi];decide)]
  exact .done ⟨rfl,rfl⟩
theorem R8(what width:Int)(σ:Hp):ACalls Tryz.prog 57 [.int .i64 what,.int .i64 width] σ (aB (.int .i64 (eX what width)) σ):=by
 refine au Tryz.func57 ?_
 unfold eX
 refine dm [] (IZ what width _) (fun hi=>?_) (fun hi=>?_)
 ·rw[ah hi]
  refine ak (fun c1=>?_) (fun c1=>?_)
  ·have c1:what=3:=c1
   rw[ah c1]
   exact .done ⟨rfl,rfl⟩
  ·have c1:¬what=3:=c1
   rw[ag c1]
   refine az [] (VD width _) ?_
   exact .done ⟨rfl,rfl⟩
 ·rw[ag (by rw[hi];decide)]
  exact .done ⟨rfl,rfl⟩
theorem Ao(what width:Int):0≤eX what width∧eX what width≤1024:=by
 unfold eX
 by_cases h:cO what width=true
 ·rw[ah h]
  have:=AD width
  unfold cO at h;simp at h
  split <;> omega
 ·rw[ag h];omega
def okW(a:List Int):Bool:=a.all fun z=>decide (bD z=z)
def cC(what w:Int)(a:List Int):Bool:=cO what w&&decide ((a.length:Int)=eX what w)&&(if what=3 then okW a else fA a w)
theorem ael(w:Int):(fO w||decide (w=0)||decide (w=1))=decide (bD w=w):=by
 unfold bD
 by_cases h0:w=0
 ·simp[h0]
 ·by_cases h1:w=1
  ·simp[h1]
  ·cases h2:fO w with
   |true=>simp[h0,h1]
   |false=>simp[h0,h1];exact fun h=>h1 h.symm
theorem aiB(z:Int)(σ:Hp):ACalls Tryz.prog 201 [.int .u64 z] σ (aB (.bool (!decide (bD z=z))) σ):=by
 refine au Tryz.func201 ?_
 refine az [] (aIs z _) ?_
 rw[ael]
 exact .done ⟨rfl,rfl⟩
theorem ae8(a:List Int):(!a.any fun z=> !decide (bD z=z))=okW a:=by
 unfold okW
 rw[List.all_eq_not_any_not]
theorem BG(what w:Int)(a:List Int)(σ:Hp)(ha:aU a)(hl:a.length≤1000000):ACalls Tryz.prog 148 [.int .i64 what,.int .i64 w,.ae (.int .u64) a] σ (aB (.bool (cC what w a)) σ):=by
 refine au Tryz.func148 ?_
 have v7:=Ao what w
 unfold cC
 refine dm [] (EJ what w _) (fun hi=>?_) (fun hi=>?_)
 ·refine az [] (Hz what w _) ?_
  refine cI (fun c=>?_) (fun c=>?_)
  ·have c:(!decide ((a.length:Int)=eX what w))=true:=c
   have c:¬((a.length:Int)=eX what w):=by simpa using c
   rw[hi,bH c]
   exact .done ⟨rfl,rfl⟩
  ·have c:(!decide ((a.length:Int)=eX what w))=false:=c
   have c:(a.length:Int)=eX what w:=by simpa using c
   rw[hi,aL c]
   refine cI (fun c3=>?_) (fun c3=>?_)
   ·have c3:¬(what=3):=by simpa using c3
    rw[ag c3]
    refine az [] (DF a w _ ha (by omega)) ?_
    exact .done ⟨rfl,rfl⟩
   ·have c3:what=3:=by simpa using c3
    rw[ah c3,← ae8]
    refine az [] (Zz 201 [] a (fun z:Int=> !decide (bD z=z)) _ hl (fun i hi=>aiB _ _)) ?_
    exact .done ⟨rfl,rfl⟩
 ·rw[hi]
  exact .done ⟨rfl,rfl⟩
theorem ad1(what w:Int)(a:List Int)(σ:Hp)(ha:aU a):ACalls Tryz.prog 68 [.int .i64 what,.int .i64 w,.ae (.int .u64) a] σ (aB (.bool (cC what w a)) σ):=by
 refine au Tryz.func68 ?_
 have v7:=Ao what w
 unfold cC
 refine dm [] (IZ what w _) (fun hi=>?_) (fun hi=>?_)
 ·refine az [] (R8 what w _) ?_
  refine cI (fun c=>?_) (fun c=>?_)
  ·have c:(!decide ((a.length:Int)=eX what w))=true:=c
   have c:¬((a.length:Int)=eX what w):=by simpa using c
   rw[hi,bH c]
   exact .done ⟨rfl,rfl⟩
  ·have c:(!decide ((a.length:Int)=eX what w))=false:=c
   have c:(a.length:Int)=eX what w:=by simpa using c
   rw[hi,aL c]
   refine cI (fun c3=>?_) (fun c3=>?_)
   ·have c3:¬(what=3):=by simpa using c3
    rw[ag c3]
    refine az [] (MZ a w _ ha) ?_
    exact .done ⟨rfl,rfl⟩
   ·have c3:what=3:=by simpa using c3
    rw[ah c3]
    unfold okW
    refine cc (S:=Nat) (fun k=>[(26,.ae (.int .u64) a),(27,.int .i64 a.length),(28,.int .i64 k)]) (fun _=>σ) (fun k=>k≤a.length∧((a.take k).all fun z=>decide (bD z=z))=true) (fun k=>a.length-k) 0 ⟨⟨bE _,rfl⟩,⟨rfl,rfl,rfl,trivial⟩,rfl⟩ ?_
    rintro k g ⟨aP,Wi⟩
    have hk:k≤a.length:=aP
    have cD:((a.take k).all fun z=>decide (bD z=z))=true:=Wi
    clear aP Wi
    refine ak (fun ab=>?_) (fun aq=>?_)
    ·have ab:k<a.length:=by have ab:(k:Int)<a.length:=ab;omega
     have hz:=ha _ (bX ab)
     refine aG.mk rfl (bM.mk a[k] (by omega) (get_some ab) ?_)
     refine az [] (agr _ _ hz.1 hz.2) ?_
     refine cI (fun c1=>?_) (fun c1=>?_)
     ·have c1:¬(bD a[k]=a[k]):=by simpa using c1
      have:(a.all fun z=>decide (bD z=z))=false:=by
       rw[List.all_eq_false]
       exact⟨a[k],List.getElem_mem ab,by simpa using c1⟩
      rw[this]
      exact .done ⟨rfl,rfl⟩
     ·have c1:bD a[k]=a[k]:=by simpa using c1
      refine bg (k+1) (by show a.length-(k+1)<a.length-k;omega) ⟨ab,?_⟩ ⟨rfl,rfl,a8 (by omega),trivial⟩ (aN rfl)
      rw[fw ab,Ci,cD]
      simp[c1]
    ·have aq:k=a.length:=by have aq:¬(k:Int)<a.length:=aq;omega
     rw[aq,fu]at cD
     rw[cD]
     exact .done ⟨rfl,rfl⟩
 ·rw[hi]
  exact .done ⟨rfl,rfl⟩
theorem afn(what w:Int)(a:List Int)(q1 q2:Nat)(σ:Hp)(ha:aU a)(hl:a.length≤1000000):ACalls Tryz.prog 303 [.ae (.int .u64) a,.ptr q1 0,.ptr q2 0] ((q2,[.int .i64 w])::(q1,[.int .i64 what])::σ) (aB (.bool (!cC what w a)) ((q2,[.int .i64 w])::(q1,[.int .i64 what])::σ)):=by
 refine au Tryz.func303 ?_
 refine aa 1 ?_
 refine aa 0 ?_
 refine az [] (BG what w a _ ha hl) ?_
 exact .done ⟨rfl,rfl⟩
def rF(what w:Int)(l:List (List Int)):Int:=if cO what w then (if (l.any fun a=> !cC what w a) then 2 else 0) else 10
theorem afa(what w:Int)(l:List (List Int))(σ:Hp)(hl:l.length≤1000000)(ha:∀a∈l,aU a∧a.length≤1000000):ACalls Tryz.prog 278 [.int .i64 what,.int .i64 w,.ae (.slice (.int .u64)) l] σ (aB (.int .i64 (rF what w l)) σ):=by
 refine au Tryz.func278 ?_
 unfold rF
 intro q1
 intro q2
 refine aa 1 ?_
 refine aa 0 ?_
 refine dm [] (EJ what w _) (fun hi=>?_) (fun hi=>?_)
 ·refine dm [] (Qu 303 [.ptr q1 0,.ptr q2 0] l (fun a:List Int=> !cC what w a) _ hl (fun i hi=>afn what w l[i] q1 q2 _ (ha _ (bX hi)).1 (ha _ (bX hi)).2)) (fun hc=>?_) (fun hc=>?_)
  ·exact .drop 0 2 (.done ⟨aJ (by rw[ah hi];exact (ah hc).symm),rfl⟩)
  ·exact .drop 0 2 (.done ⟨aJ (by rw[ah hi];exact (ag (fun h=>Bool.noConfusion (hc.symm.trans h))).symm),rfl⟩)
 ·exact .drop 0 2 (.done ⟨aJ (ag (by rw[hi];decide)).symm,rfl⟩)
theorem RY{what w:Int}{a b:List Int}(h:rF what w [a,b]=0):cC what w a=true∧cC what w b=true:=by
 unfold rF at h
 cases hi:cO what w with
 |false=>rw[hi]at h;exact absurd h (by simp)
 |true=>
  rw[hi,ah rfl]at h
  cases ha:cC what w a with
  |false=>simp[ha]at h
  |true=>
   cases hb:cC what w b with
   |false=>simp[ha,hb]at h
   |true=>exact⟨rfl,rfl⟩
theorem tC{what w:Int}{a:List Int}(h:cC what w a=true):(a.length:Int)=eX what w:=by
 unfold cC at h;simp at h;exact h.1.2
def rY(e:Int)(l:List Int):List Int:=if e=0 then l else []
theorem uS{e:Int}{l:List Int}(h:e=0):rY e l=l:=ah h
theorem Dr{e:Int}{l:List Int}(h:¬e=0):rY e l=[]:=ag h
theorem acq{R:AV→Hp→Prop}(fr:Hp){acc σ:Hp}{s:Sh}{k:Nat}{v y:AV}{cs:List AV}{l:List s.T}(h:Acc s.size k v acc cs)(hl:k=l.length)(hc:cs=l.flatMap s.cells)(hp:0<s.size)(go:Fin R (.tup [.ae s l,y]) (fr++σ)):Fin R (.tup [v,y]) (fr++(acc++σ)):=by
 subst hl
 have hlen:=h.length
 refine .perm (eS fr acc σ) ?_
 generalize hk:l.length=k at h
 cases h with
 |nil=>
  obtain rfl:=iR.1 hk
  exact .nil (cg (.nil _) (.refl _)) go
 |af b k cs h=>
  subst hk
  exact .cX 0 b 0 l.length s.size cs s l rfl (by rw[iP,fe (by omega)];exact hc) ⟨rfl,rfl,hp⟩ (cg .here (.refl _)) go
theorem VM(what w:Int)(xs ys:List Int)(σ:Hp)(hx:aU xs)(hy:aU ys)(lx:xs.length≤1000000)(ly:ys.length≤1000000):ACalls Tryz.prog 243 [.int .i64 what,.int .i64 w,.ae (.int .u64) xs,.ae (.int .u64) ys] σ (aB (.tup [.ae (.int .u64) (rY (rF what w [xs,ys]) (de what xs ys)),.int .i64 (rF what w [xs,ys])]) σ):=by
 refine au Tryz.func243 ?_
 intro b1
 have sa:∀a∈[xs,ys],aU a∧a.length≤1000000:=by
  intro a ha
  rcases dA.1 ha with rfl | ha
  ·exact⟨hx,lx⟩
  ·rw[bh.1 ha];exact⟨hy,ly⟩
 refine .cX (args':=[.int .i64 what,.int .i64 w,.ae (.slice (.int .u64)) [xs,ys]]) 0 b1 0 2 1 _ (.slice (.int .u64)) [xs,ys] rfl rfl ⟨rfl,rfl,by decide⟩ (cg (.refl _) (cg (.refl _) (cg .here AN))) (az [] (afa what w [xs,ys] _ (by show 2≤1000000;omega) sa) ?_)
 have hL:=fun (h:rF what w [xs,ys]=0)=>RY h
 generalize rF what w [xs,ys]=e at hL ⊢
 refine cI (fun c=>?_) (fun c=>?_)
 ·have c:¬(e=0):=by simpa using c
  exact .nil (cg (.nil _) (.refl _)) (.done ⟨by rw[Dr c];rfl,rfl⟩)
 ·have c:e=0:=by simpa using c
  obtain⟨v1,v2⟩:=hL c
  have h:xs.length=ys.length:=by have h1:=tC v1;have h2:=tC v2;omega
  refine .wrap 11 _ rfl rfl ?_
  refine cc (S:=Nat×AV×Hp) (fun s=>[(0,.int .i64 what),(2,.ae (.int .u64) xs),(3,.ae (.int .u64) ys),(11,.via s.2.1),(23,.int .i64 xs.length),(24,.int .i64 s.1)]) (fun s=>s.2.2++σ) (fun s=>s.1≤xs.length∧Acc 1 s.1 s.2.1 s.2.2 (bz ((de what xs ys).take s.1))) (fun s=>xs.length-s.1) (0,.ai,[]) ⟨⟨bE _,.nil⟩,⟨rfl,rfl,rfl,rfl,rfl,rfl,trivial⟩,rfl⟩ ?_
  rintro⟨k,v,acc⟩ g ⟨aP,kW⟩
  have hk:k≤xs.length:=aP
  have cH:Acc 1 k v acc (bz ((de what xs ys).take k)):=kW
  clear aP kW
  have ij:=Xz what xs ys h
  refine ak (fun ab=>?_) (fun aq=>?_)
  ·have ab:k<xs.length:=by have ab:(k:Int)<xs.length:=ab;omega
   have eL:k<ys.length:=by omega
   have hje:(de what xs ys)[k]'(by omega)=dD what xs[k] ys[k]:=by simp[de]
   refine .sched [10] (upto [10] 14 0) (by kernel_rfl) ?_
   refine aG.mk rfl ?_
   refine bM.mk xs[k] (by omega) (get_some ab) ?_
   refine aG.mk rfl ?_
   refine bM.mk ys[k] (by omega) (get_some eL) ?_
   refine aH [] (Ns what xs[k] ys[k] _) ?_
   intro aD
   refine l8 [_] cH (.af 0 aD 0 1 _ rfl (cR rfl)) rfl (by omega) (by decide) (by decide) (fun v' bQ h'=>?_)
   refine bg (k+1,v',bQ) (by show xs.length-(k+1)<xs.length-k;omega) ⟨ab,?_⟩ ⟨rfl,rfl,rfl,rfl,rfl,a8 (by omega),trivial⟩ (.drop 0 1 (aN rfl))
   show Acc 1 (k+1) v' bQ (bz ((de what xs ys).take (k+1)))
   rw[fw (by omega),hje,bz,dr]
   exact h'
  ·have aq:k=xs.length:=by have aq:¬(k:Int)<xs.length:=aq;omega
   subst aq
   rw[fe (yc ij)]at cH
   exact acq (s:=.int .u64) (l:=de what xs ys) [] cH ij.symm (by rw[qh]) (by decide) (.done ⟨by rw[uS c,c];rfl,rfl⟩)
theorem xj{what:Int}:∀{xs ys:List Int},aU xs→aU ys→aU (de what xs ys)
 | [],_,_,_=>fun z hz=>by simp[de]at hz
 |_::_,[],_,_=>fun z hz=>by simp[de]at hz
 |x::xs,y::ys,hx,hy=>fun z hz=>by
  rcases dA.1 (show z∈dD what x y::de what xs ys from hz) with rfl | hz
  ·exact TH (hx _ (bU ..)) (hy _ (bU ..))
  ·exact xj (fun a ha=>hx a (cQ _ ha)) (fun a ha=>hy a (cQ _ ha)) z hz
def rG(what w:Int)(xs ys:List Int):Bool:=decide (rF what w [xs,ys]=0)&&decide (de what xs ys=ys)
theorem join_le(what:Int)(xs ys:List Int):(de what xs ys).length≤xs.length:=by unfold de;rw[FP];omega
theorem afb(what w:Int)(xs ys:List Int)(σ:Hp)(hx:aU xs)(hy:aU ys)(lx:xs.length≤1000000)(ly:ys.length≤1000000):ACalls Tryz.prog 194 [.int .i64 what,.int .i64 w,.ae (.int .u64) xs,.ae (.int .u64) ys] σ (aB (.bool (rG what w xs ys)) σ):=by
 refine au Tryz.func194 ?_
 unfold rG
 have hj:=join_le what xs ys
 refine az [] (VM what w xs ys _ hx hy lx ly) ?_
 generalize rF what w [xs,ys]=e
 refine ak (fun c=>?_) (fun c=>?_)
 ·have c:e=0:=c
  rw[uS c,aL c]
  refine az [] (US _ _ _ (by omega)) ?_
  exact .done ⟨rfl,rfl⟩
 ·have c:¬e=0:=c
  rw[bH c]
  exact .done ⟨rfl,rfl⟩
def gl(what w:Int):List Int:=if what=2∧cO what w=true then gj w else List.replicate (eX what w).toNat 0
theorem G7(what w:Int)(σ:Hp):ACalls Tryz.prog 149 [.int .i64 what,.int .i64 w] σ (aB (.ae (.int .u64) (gl what w)) σ):=by
 refine au Tryz.func149 ?_
 have hw:=Ao what w
 have hz:gl what w=List.replicate (eX what w).toNat 0→∀q,Fin (aB (.ae (.int .u64) (gl what w)) σ) (.af q 0 (eX what w).toNat 1) ((q,cJ [.int .u64 0] (eX what w).toNat)::σ):=fun hb q=>by
  rw[Me,← hb]
  have hl:(gl what w).length=(eX what w).toNat:=by rw[hb,gG]
  generalize gl what w=Z at hl
  refine .cX 0 q 0 _ 1 _ (.int .u64) Z rfl ?_ ⟨hl,rfl,by decide⟩ .here (.done ⟨rfl,rfl⟩)
  rw[iP,← qh]
  exact fe (by rw[bz,cj,hl];omega)
 refine ak (fun c=>?_) (fun c=>?_)
 ·have c:what=2:=c
  refine dm [] (EJ what w _) (fun hi=>?_) (fun hi=>?_)
  ·refine az [] (Wv w _) ?_
   have hb:gl what w=gj w:=ah ⟨c,hi⟩
   rw[hb]
   exact .done ⟨rfl,rfl⟩
  ·refine az [] (Hz what w _) ?_
   refine aY ?_
   intro q
   exact hz (ag fun h=>Bool.noConfusion (hi.symm.trans h.2)) q
 ·have c:¬what=2:=c
  refine az [] (Hz what w _) ?_
  refine aY ?_
  intro q
  exact hz (ag fun h=>c h.1) q
def Oe(x y:Int):Bool:=decide (x=aM x)&&decide (y=aM y)
def pB(w:Int)(r:oN):Bool:=if r.1 = -1 then Oe r.2.1.1 r.2.1.2.1 else decide (0≤r.1)&&decide (r.1<w)&&(decide (r.2.1.1=0)&&decide (r.2.1.2.1=0))
theorem Kr(x y:Int):fD (sB (nC x y) (nC 0 0))=(decide (x=0)&&decide (y=0)):=by
 show (decide (x=0)&&(decide (y=0)&&true))=_
 rw[FA]
theorem Ws(w:Int)(r:oN)(σ:Hp):ACalls Tryz.prog 254 [.int .i64 w,.agg (Ej r)] σ (aB (.bool (pB w r)) σ):=by
 obtain⟨v,⟨x,y,u⟩,u2⟩:=r
 refine au Tryz.func254 ?_
 unfold pB
 show tS Tryz.prog tt _ [.int .i64 w,.agg [.int .i64 v,.int .i64 x,.int .i64 y]] σ (aB (.bool (if v = -1 then Oe x y else decide (0≤v)&&decide (v<w)&&(decide (x=0)&&decide (y=0)))) σ)
 intro aD
 refine aa 0 ?_
 refine ak (fun c2=>?_) (fun c2=>?_)
 ·have c2:v = -1:=c2
  refine aa 0 ?_
  refine az [] (aih _ _ _) ?_
  exact .drop 0 1 (.done ⟨bY (by rw[ah c2];rfl),rfl⟩)
 ·have c2:¬(v = -1):=c2
  refine aa 0 ?_
  refine ak (fun c3=>?_) (fun c3=>?_)
  ·have c3:0≤v:=c3
   refine aa 0 ?_
   refine ak (fun c4=>?_) (fun c4=>?_)
   ·have c4:v<w:=c4
    refine aa 0 ?_
    refine EqAt.mk (by kernel_rfl) (by kernel_rfl) ?_
    refine cI (fun c5=>?_) (fun c5=>?_)
    ·have c5:=(Kr x y).symm.trans c5
     exact .drop 0 1 (.done ⟨bY (by rw[ag c2,aL c3,aL c4,c5];rfl),rfl⟩)
    ·have c5:=(Kr x y).symm.trans c5
     exact .drop 0 1 (.done ⟨bY (by rw[ag c2,aL c3,aL c4,c5];rfl),rfl⟩)
   ·have c4:¬(v<w):=c4
    exact .drop 0 1 (.done ⟨bY (by rw[ag c2,aL c3,bH c4];rfl),rfl⟩)
  ·have c3:¬(0≤v):=c3
   exact .drop 0 1 (.done ⟨bY (by rw[ag c2,bH c3];rfl),rfl⟩)
theorem eqN(x y z w:Int):fD (sB (nC x y) (nC z w))=(decide (x=z)&&decide (y=w)):=by
 show (decide (x=z)&&(decide (y=w)&&true))=_
 rw[FA]
theorem VA(w:Int)(r:oN)(σ:Hp):ACalls Tryz.prog 164 [.int .i64 w,.agg (Ej r)] σ (aB (.bool (pB w r)) σ):=by
 obtain⟨v,⟨x,y,u⟩,u2⟩:=r
 refine au Tryz.func164 ?_
 unfold pB
 show tS Tryz.prog tt _ [.int .i64 w,.agg [.int .i64 v,.int .i64 x,.int .i64 y]] σ (aB (.bool (if v = -1 then Oe x y else decide (0≤v)&&decide (v<w)&&(decide (x=0)&&decide (y=0)))) σ)
 intro aD
 refine aa 0 ?_
 refine ak (fun c2=>?_) (fun c2=>?_)
 ·have c2:v = -1:=c2
  refine .quiet (by kernel_rfl) ?_
  refine aa 0 ?_
  refine aa 0 ?_
  refine aa 0 ?_
  refine aH [] (ahz _ _ _) ?_
  refine EqAt.mk (by kernel_rfl) (by kernel_rfl) ?_
  refine cI (fun c3=>?_) (fun c3=>?_)
  ·have c3:=(eqN x y (aM x) (aM y)).symm.trans c3
   exact .drop 0 1 (.done ⟨bY (by rw[ah c2];exact c3.symm),rfl⟩)
  ·have c3:=(eqN x y (aM x) (aM y)).symm.trans c3
   exact .drop 0 1 (.done ⟨bY (by rw[ah c2];exact c3.symm),rfl⟩)
 ·have c2:¬(v = -1):=c2
  refine aa 0 ?_
  refine ak (fun c4=>?_) (fun c4=>?_)
  ·have c4:0≤v:=c4
   refine aa 0 ?_
   refine ak (fun c5=>?_) (fun c5=>?_)
   ·have c5:v<w:=c5
    refine aa 0 ?_
    refine EqAt.mk (by kernel_rfl) (by kernel_rfl) ?_
    refine cI (fun c6=>?_) (fun c6=>?_)
    ·have c6:=(Kr x y).symm.trans c6
     exact .drop 0 1 (.done ⟨bY (by rw[ag c2,aL c4,aL c5,c6];rfl),rfl⟩)
    ·have c6:=(Kr x y).symm.trans c6
     exact .drop 0 1 (.done ⟨bY (by rw[ag c2,aL c4,aL c5,c6];rfl),rfl⟩)
   ·have c5:¬(v<w):=c5
    exact .drop 0 1 (.done ⟨bY (by rw[ag c2,aL c4,bH c5];rfl),rfl⟩)
  ·have c4:¬(0≤v):=c4
   exact .drop 0 1 (.done ⟨bY (by rw[ag c2,bH c4];rfl),rfl⟩)
def sD(r:oN):Bool:=decide (r.1=0)&&(decide (r.2.1.1=0)&&decide (r.2.1.2.1=0))
theorem yl(r:oN):fD (sB (Ej r) [.int .i64 0,.int .i64 0,.int .i64 0])=sD r:=by
 show (decide (r.1=0)&&(decide (r.2.1.1=0)&&(decide (r.2.1.2.1=0)&&true)))=_
 rw[FA];rfl
def dX(w:Int)(c:df):Bool:=if c.1<0 then false else if w≤c.1 then false else if c.2.1 < -1 then false else if 4<c.2.1 then false else if c.2.1 = -1 then sD c.2.2.1&&sD c.2.2.2.1 else pB w c.2.2.1&&pB w c.2.2.2.1
theorem agj(w:Int)(c:df)(σ:Hp):ACalls Tryz.prog 209 [.int .i64 w,.agg (Wn c)] σ (aB (.bool (dX w c)) σ):=by
 refine au Tryz.func209 ?_
 intro aD
 refine aa 0 ?_
 refine ak (fun c2=>?_) (fun c2=>?_)
 ·have c2:c.fst<0:=c2
  exact .drop 0 1 (.done ⟨bY (by simp[dX, *]),rfl⟩)
 ·have c2:¬(c.fst<0):=c2
  refine aa 0 ?_
  refine ak (fun c3=>?_) (fun c3=>?_)
  ·have c3:w≤c.fst:=c3
   exact .drop 0 1 (.done ⟨bY (by simp[dX, *]),rfl⟩)
  ·have c3:¬(w≤c.fst):=c3
   refine aa 0 ?_
   refine ak (fun c4=>?_) (fun c4=>?_)
   ·have c4:c.snd.fst < -1:=c4
    exact .drop 0 1 (.done ⟨bY (by simp[dX, *]),rfl⟩)
   ·have c4:¬(c.snd.fst < -1):=c4
    refine aa 0 ?_
    refine ak (fun c5=>?_) (fun c5=>?_)
    ·have c5:4<c.snd.fst:=c5
     exact .drop 0 1 (.done ⟨bY (by simp[dX, *]),rfl⟩)
    ·have c5:¬(4<c.snd.fst):=c5
     refine aa 0 ?_
     refine ak (fun c6=>?_) (fun c6=>?_)
     ·have c6:c.snd.fst = -1:=c6
      refine aa 0 ?_
      refine EqAt.mk (by kernel_rfl) (by kernel_rfl) ?_
      refine cI (fun c7=>?_) (fun c7=>?_)
      ·have c7:=(yl c.2.2.1).symm.trans c7
       refine aa 0 ?_
       refine EqAt.mk (by kernel_rfl) (by kernel_rfl) ?_
       refine cI (fun c8=>?_) (fun c8=>?_)
       ·have c8:=(yl c.2.2.2.1).symm.trans c8
        exact .drop 0 1 (.done ⟨bY (by simp[dX, *]),rfl⟩)
       ·have c8:=(yl c.2.2.2.1).symm.trans c8
        exact .drop 0 1 (.done ⟨bY (by simp[dX, *]),rfl⟩)
      ·have c7:=(yl c.2.2.1).symm.trans c7
       exact .drop 0 1 (.done ⟨bY (by simp[dX, *]),rfl⟩)
     ·have c6:¬(c.snd.fst = -1):=c6
      refine aa 0 ?_
      refine dm [] (Ws w c.2.2.1 _) (fun cA=>?_) (fun cA=>?_)
      ·refine aa 0 ?_
       refine dm [] (Ws w c.2.2.2.1 _) (fun cB=>?_) (fun cB=>?_)
       ·exact .drop 0 1 (.done ⟨bY (by simp[dX, *]),rfl⟩)
       ·exact .drop 0 1 (.done ⟨bY (by simp[dX, *]),rfl⟩)
      ·exact .drop 0 1 (.done ⟨bY (by simp[dX, *]),rfl⟩)
abbrev kn:Sh:=.field (.slice (.int .u64)) (.field (.slice (.int .u64)) (.field (.slice jr) .nil))
abbrev ER(g k:List Int)(l:List df):List AV:=[.ae (.int .u64) g,.ae (.int .u64) k,.ae jr l]
theorem adi(w:Int)(c:df)(q:Nat)(σ:Hp):ACalls Tryz.prog 208 [Ic c,.ptr q 0] ((q,[.int .i64 w])::σ) (aB (.bool (!dX w c)) ((q,[.int .i64 w])::σ)):=by
 refine au Tryz.func208 ?_
 unfold Ic
 intro aD
 refine aa 1 ?_
 refine aa 0 ?_
 refine az [] (agj w c _) ?_
 exact .drop 0 1 (.done ⟨rfl,rfl⟩)
def xC(what w:Int)(g k:List Int)(l:List df):Bool:=if what=3 then decide (g.length+k.length=0)&&(l.all (dX w)) else decide (l.length=0)&&fA g w&&fA k w
def eT(what w:Int)(g k:List Int)(l:List df):Int:=if cO what w=true then (if xC what w g k l=true then 0 else 2) else 10
theorem DE{α:Type}(l:List α){p:α→Bool}:l.all p = !l.any fun c=> !p c:=List.all_eq_not_any_not ..
theorem Wq{w:Int}(l:List df){b:Bool}(h:(l.any fun c=> !dX w c)=b):l.all (dX w) = !b:=by rw[DE,h]
theorem EE{what w:Int}{g k:List Int}{l:List df}(hi:cO what w=true)(ht:xC what w g k l=true):0=eT what w g k l:=by unfold eT;rw[ah hi,ah ht]
theorem ky{what w:Int}{g k:List Int}{l:List df}(hi:cO what w=true)(ht:xC what w g k l=false):2=eT what w g k l:=by unfold eT;rw[ah hi,ht];rfl
theorem Ig{what w:Int}{g k:List Int}{l:List df}(hi:cO what w=false):10=eT what w g k l:=by unfold eT;rw[hi];rfl
theorem qK{what w:Int}{g k:List Int}{l:List df}(h:¬what=3):xC what w g k l=(decide (l.length=0)&&fA g w&&fA k w):=ag h
theorem vR{what w:Int}{g k:List Int}{l:List df}(h:what=3):xC what w g k l=(decide (g.length+k.length=0)&&(l.all (dX w))):=ah h
theorem rE{what w:Int}(h:1≤what∧what≤3∧0≤w∧w≤1024):cO what w=true:=by unfold cO;simp;omega
theorem Nf{what w:Int}(h:¬(1≤what∧what≤3∧0≤w∧w≤1024)):cO what w=false:=by unfold cO;simp;omega
theorem Mx(what w:Int)(g k:List Int)(l:List df)(σ:Hp)(hg:aU g)(hk:aU k)(lg:g.length≤10000)(lk:k.length≤10000)(ll:l.length≤1000000):ACalls Tryz.prog 151 [.int .i64 what,.int .i64 w,.agg (ER g k l)] σ (aB (.int .i64 (eT what w g k l)) σ):=by
 refine au Tryz.func151 ?_
 intro aD
 intro du
 refine aa 1 ?_
 refine ak (fun c3=>?_) (fun c3=>?_)
 ·have c3:w<0:=c3
  exact .drop 0 2 (.done ⟨aJ (Ig (Nf (by omega))),rfl⟩)
 ·have c3:¬(w<0):=c3
  refine aa 1 ?_
  refine ak (fun c4=>?_) (fun c4=>?_)
  ·have c4:1024<w:=c4
   exact .drop 0 2 (.done ⟨aJ (Ig (Nf (by omega))),rfl⟩)
  ·have c4:¬(1024<w):=c4
   refine ak (fun c5=>?_) (fun c5=>?_)
   ·have c5:what=1:=c5
    refine aa 0 ?_
    refine aa 1 ?_
    refine dm [] (DF g w _ hg lg) (fun cG=>?_) (fun cG=>?_)
    ·refine aa 0 ?_
     refine aa 1 ?_
     refine dm [] (DF k w _ hk lk) (fun cK=>?_) (fun cK=>?_)
     ·refine aa 0 ?_
      refine ak (fun c6=>?_) (fun c6=>?_)
      ·have c6:(↑l.length:Int)=0:=c6
       have ig:decide (l.length=0)=true:=aL (by have h0:(l.length:Int)=0:=c6;omega)
       exact .drop 0 2 (.done ⟨aJ (EE (rE (by omega)) (by rw[qK (by omega),ig,cG,cK];rfl)),rfl⟩)
      ·have c6:¬((↑l.length:Int)=0):=c6
       have ig:decide (l.length=0)=false:=bH (by have h0:¬(l.length:Int)=0:=c6;omega)
       exact .drop 0 2 (.done ⟨aJ (ky (rE (by omega)) (by rw[qK (by omega),ig];rfl)),rfl⟩)
     ·exact .drop 0 2 (.done ⟨aJ (ky (rE (by omega)) (by rw[qK (by omega),cK];simp)),rfl⟩)
    ·exact .drop 0 2 (.done ⟨aJ (ky (rE (by omega)) (by rw[qK (by omega),cG];simp)),rfl⟩)
   ·have c5:¬(what=1):=c5
    refine ak (fun c7=>?_) (fun c7=>?_)
    ·have c7:what=2:=c7
     refine aa 0 ?_
     refine aa 1 ?_
     refine dm [] (DF g w _ hg lg) (fun cG=>?_) (fun cG=>?_)
     ·refine aa 0 ?_
      refine aa 1 ?_
      refine dm [] (DF k w _ hk lk) (fun cK=>?_) (fun cK=>?_)
      ·refine aa 0 ?_
       refine ak (fun c8=>?_) (fun c8=>?_)
       ·have c8:(↑l.length:Int)=0:=c8
        have ig:decide (l.length=0)=true:=aL (by have h0:(l.length:Int)=0:=c8;omega)
        exact .drop 0 2 (.done ⟨aJ (EE (rE (by omega)) (by rw[qK (by omega),ig,cG,cK];rfl)),rfl⟩)
       ·have c8:¬((↑l.length:Int)=0):=c8
        have ig:decide (l.length=0)=false:=bH (by have h0:¬(l.length:Int)=0:=c8;omega)
        exact .drop 0 2 (.done ⟨aJ (ky (rE (by omega)) (by rw[qK (by omega),ig];rfl)),rfl⟩)
      ·exact .drop 0 2 (.done ⟨aJ (ky (rE (by omega)) (by rw[qK (by omega),cK];simp)),rfl⟩)
     ·exact .drop 0 2 (.done ⟨aJ (ky (rE (by omega)) (by rw[qK (by omega),cG];simp)),rfl⟩)
    ·have c7:¬(what=2):=c7
     refine ak (fun c9=>?_) (fun c9=>?_)
     ·have c9:what=3:=c9
      refine aa 0 ?_
      refine aa 0 ?_
      refine ak (fun jT=>?_) (fun jT=>?_)
      ·have jT:IntKind.i64.wrap ((↑g.length:Int)+(↑k.length:Int))=0:=jT
       refine aa 0 ?_
       rw[dx (by omega)]at jT
       refine dm [1] (ZC 208 [.ptr aD 0] l (fun c=> !dX w c) _ ll (fun i hi=>adi w l[i] aD _)) (fun cL=>?_) (fun cL=>?_)
       ·exact .drop 0 2 (.done ⟨aJ (ky (rE (by omega)) (by rw[vR c9,Wq l cL];simp)),rfl⟩)
       ·exact .drop 0 2 (.done ⟨aJ (EE (rE (by omega)) (by rw[vR c9,Wq l cL,aL (by omega)];rfl)),rfl⟩)
      ·have jT:¬(IntKind.i64.wrap ((↑g.length:Int)+(↑k.length:Int))=0):=jT
       exact .drop 0 2 (.done ⟨aJ (ky (rE (by omega)) (by rw[dx (by omega)]at jT;rw[vR c9,bH (by omega)];rfl)),rfl⟩)
     ·have c9:¬(what=3):=c9
      exact .drop 0 2 (.done ⟨aJ (Ig (Nf (by omega))),rfl⟩)
theorem acW(what w:Int)(g k:List Int)(l:List df)(σ:Hp)(hg:aU g)(hk:aU k)(lg:g.length≤10000)(lk:k.length≤10000)(ll:l.length≤1000000):ACalls Tryz.prog 114 [.int .i64 what,.int .i64 w,.agg (ER g k l)] σ (aB (.int .i64 (eT what w g k l)) σ):=by
 refine au Tryz.func114 ?_
 intro aD
 refine dm [] (IZ what w _) (fun hi=>?_) (fun hi=>?_)
 ·refine cI (fun c2=>?_) (fun c2=>?_)
  ·have c2:¬(what=3):=by simpa using c2
   refine aa 0 ?_
   refine ak (fun c3=>?_) (fun c3=>?_)
   ·have c3:0<(↑l.length:Int):=c3
    exact .drop 0 1 (.done ⟨aJ (ky hi (by rw[qK c2,bH (p:=l.length=0) (by have c3:0<(l.length:Int):=c3;omega)];rfl)),rfl⟩)
   ·have c3:¬(0<(↑l.length:Int)):=c3
    refine aa 0 ?_
    refine dm [] (MZ g w _ hg) (fun cG=>?_) (fun cG=>?_)
    ·refine aa 0 ?_
     refine dm [] (MZ k w _ hk) (fun cK=>?_) (fun cK=>?_)
     ·exact .drop 0 1 (.done ⟨aJ (EE hi (by rw[qK c2,cG,cK,aL (p:=l.length=0) (by have c3:¬0<(l.length:Int):=c3;omega)];rfl)),rfl⟩)
     ·exact .drop 0 1 (.done ⟨aJ (ky hi (by rw[qK c2,cK];simp)),rfl⟩)
    ·exact .drop 0 1 (.done ⟨aJ (ky hi (by rw[qK c2,cG];simp)),rfl⟩)
  ·have c2:what=3:=by simpa using c2
   refine aa 0 ?_
   refine ak (fun c4=>?_) (fun c4=>?_)
   ·have c4:0<(↑g.length:Int):=c4
    exact .drop 0 1 (.done ⟨aJ (ky hi (by rw[vR c2,bH (p:=g.length+k.length=0) (by have c4:0<(g.length:Int):=c4;omega)];rfl)),rfl⟩)
   ·have c4:¬(0<(↑g.length:Int)):=c4
    refine aa 0 ?_
    refine ak (fun c5=>?_) (fun c5=>?_)
    ·have c5:0<(↑k.length:Int):=c5
     exact .drop 0 1 (.done ⟨aJ (ky hi (by rw[vR c2,bH (p:=g.length+k.length=0) (by have c5:0<(k.length:Int):=c5;omega)];rfl)),rfl⟩)
    ·have c5:¬(0<(↑k.length:Int)):=c5
     refine aa 0 ?_
     have OH:g.length+k.length=0:=by
      have c4:¬0<(g.length:Int):=c4
      have c5:¬0<(k.length:Int):=c5
      omega
     refine cc (S:=Nat) (fun s=>[(1,.int .i64 w),(44,.ae jr l),(45,.int .i64 l.length),(46,.int .i64 s)]) (fun _=>(aD,ER g k l)::σ) (fun s=>s≤l.length∧(l.take s).all (dX w)=true) (fun s=>l.length-s) 0 ⟨⟨bE _,rfl⟩,⟨rfl,rfl,rfl,rfl,trivial⟩,rfl⟩ ?_
     rintro s t ⟨qS,e8⟩
     have hs:s≤l.length:=qS
     have hn:(l.take s).all (dX w)=true:=e8
     clear qS e8
     refine ak (fun ab=>?_) (fun aq=>?_)
     ·have ab:s<l.length:=by have ab:(s:Int)<l.length:=ab;omega
      have hb:dX w l[s]=false→xC what w g k l=false:=fun h=>by
       rw[vR c2,show l.all (dX w)=false from List.all_eq_false.2 ⟨l[s],List.getElem_mem ab,by rw[h];decide⟩];simp
      have hy:dX w l[s]=true→(l.take (s+1)).all (dX w)=true:=fun h=>by
       rw[List.take_succ_eq_append_getElem ab,List.all_append,hn];simp[h]
      obtain⟨c,hc⟩:∃c:df,l[s]=c:=⟨_,rfl⟩
      rw[hc]at hb hy
      refine aG.mk rfl (bM.mk c (by omega) ((get_some ab).trans (congrArg some hc)) ?_)
      clear hc
      intro du
      refine aj 0 ?_
      refine aa 0 ?_
      refine ak (fun c1=>?_) (fun c1=>?_)
      ·have c1:c.fst<0:=c1
       exact .drop 0 2 (.done ⟨aJ (ky hi (hb (by simp[dX, *]))),rfl⟩)
      ·have c1:¬(c.fst<0):=c1
       refine aa 0 ?_
       refine ak (fun c2=>?_) (fun c2=>?_)
       ·have c2:w≤c.fst:=c2
        exact .drop 0 2 (.done ⟨aJ (ky hi (hb (by simp[dX, *]))),rfl⟩)
       ·have c2:¬(w≤c.fst):=c2
        refine aa 0 ?_
        refine ak (p:=c.2.1 < -1) (fun d3=>?_) (fun d3=>?_)
        ·exact .drop 0 2 (.done ⟨aJ (ky hi (hb (by simp[dX, *]))),rfl⟩)
        refine aa 0 ?_
        refine ak (p:=4<c.2.1) (fun d4=>?_) (fun d4=>?_)
        ·exact .drop 0 2 (.done ⟨aJ (ky hi (hb (by simp[dX, *]))),rfl⟩)
        refine aa 0 ?_
        refine ak (p:=c.2.1 = -1) (fun d5=>?_) (fun d5=>?_)
        ·refine aa 0 ?_
         refine EqAt.mk (by kernel_rfl) (by kernel_rfl) ?_
         refine cI (fun e1=>?_) (fun e1=>?_)
         ·have e1:(!sD c.2.2.1)=true:=(congrArg (fun b=> !b) (yl c.2.2.1)).symm.trans e1
          have e1:sD c.2.2.1=false:=by simpa using e1
          exact .drop 0 2 (.done ⟨aJ (ky hi (hb (by simp[dX, *]))),rfl⟩)
         ·have e1:(!sD c.2.2.1)=false:=(congrArg (fun b=> !b) (yl c.2.2.1)).symm.trans e1
          have e1:sD c.2.2.1=true:=by simpa using e1
          refine aa 0 ?_
          refine EqAt.mk (by kernel_rfl) (by kernel_rfl) ?_
          refine cI (fun e2=>?_) (fun e2=>?_)
          ·have e2:(!sD c.2.2.2.1)=true:=(congrArg (fun b=> !b) (yl c.2.2.2.1)).symm.trans e2
           have e2:sD c.2.2.2.1=false:=by simpa using e2
           exact .drop 0 2 (.done ⟨aJ (ky hi (hb (by simp[dX, *]))),rfl⟩)
          ·have e2:(!sD c.2.2.2.1)=false:=(congrArg (fun b=> !b) (yl c.2.2.2.1)).symm.trans e2
           have e2:sD c.2.2.2.1=true:=by simpa using e2
           refine aa 0 ?_
           refine ak (p:=0≤c.2.1) (fun d6=>?_) (fun d6=>?_)
           ·exact absurd d6 (by rw[d5];decide)
           ·exact bg (s+1) (by show l.length-(s+1)<l.length-s;omega) ⟨ab,hy (by first | (simp[dX, *];done) | omega)⟩ ⟨rfl,rfl,rfl,a8 (by omega),trivial⟩ (.drop 0 1 (.refl _))
        ·refine aa 0 ?_
         refine ak (p:=0≤c.2.1) (fun d6=>?_) (fun d6=>?_)
         ·refine aa 0 ?_
          refine dm [] (VA w c.2.2.1 _) (fun cA=>?_) (fun cA=>?_)
          ·refine aa 0 ?_
           refine dm [] (VA w c.2.2.2.1 _) (fun cB=>?_) (fun cB=>?_)
           ·exact bg (s+1) (by show l.length-(s+1)<l.length-s;omega) ⟨ab,hy (by first | (simp[dX, *];done) | omega)⟩ ⟨rfl,rfl,rfl,a8 (by omega),trivial⟩ (.drop 0 1 (.refl _))
           ·exact .drop 0 2 (.done ⟨aJ (ky hi (hb (by simp[dX, *]))),rfl⟩)
          ·exact .drop 0 2 (.done ⟨aJ (ky hi (hb (by simp[dX, *]))),rfl⟩)
         ·exact absurd d6 (by omega)
     ·have aq:s=l.length:=by have aq:¬(s:Int)<l.length:=aq;omega
      subst aq
      rw[fu]at hn
      exact .drop 0 1 (.done ⟨aJ (EE hi (by rw[vR c2,hn,aL OH];rfl)),rfl⟩)
 ·exact .drop 0 1 (.done ⟨aJ (Ig hi),rfl⟩)
def mj(a:List Int)(r:oN):Int:=if r.1 = -1 then oQ r.2.1.1 r.2.1.2.1 else wd a r.1.toNat
def qC(a:List Int)(c:df):Int:=if c.2.1 = -1 then 1 else mT c.2.1 (mj a c.2.2.1) (mj a c.2.2.2.1)
def tO(a:List Int)(c:df):List Int:=a.set c.1.toNat (qC a c)
def kj(a:List Int)(l:List df):List Int:=l.foldl tO a
theorem Af(a:List Int)(c:df):(tO a c).length=a.length:=cM ..
theorem KS(a:List Int)(l:List df):(kj a l).length=a.length:=by
 unfold kj
 induction l generalizing a with
 |nil=>rfl
 |cons c l ih=>exact (ih _).trans (Af a c)
theorem acD(a:List Int)(l:List df)(c:df):kj a (l++[c])=tO (kj a l) c:=by
 unfold kj;rw[s9];rfl
theorem Vf(x y:Int):bK (oQ x y):=by
 have h1:=GR x y
 have h2:=Lu x y
 unfold bK oQ;omega
theorem TP{a:List Int}(ha:aU a)(r:oN):bK (mj a r):=by
 unfold mj;split
 ·exact Vf _ _
 ·exact oc ha _
theorem ae0(op a b:Int):bK (pN op a b):=by
 unfold pN pL
 split
 ·exact⟨by omega,by omega⟩
 ·split
  ·exact⟨by omega,by omega⟩
  ·split
   ·exact Vf _ _
   ·exact⟨by omega,by omega⟩
theorem afL(op a b:Int):bK (mT op a b):=by unfold mT;split <;> exact ae0 _ _ _
theorem aed(a:List Int)(c:df):bK (qC a c):=by
 unfold qC;split
 ·exact⟨by omega,by omega⟩
 ·exact afL _ _ _
theorem afv{a:List Int}(ha:aU a){i:Nat}{z:Int}(hz:bK z):aU (a.set i z):=fun x hx=>by
 rcases q9 hx with h | rfl
 ·exact ha x h
 ·exact hz
theorem Vt{a:List Int}(ha:aU a)(l:List df):aU (kj a l):=by
 unfold kj
 induction l generalizing a with
 |nil=>exact ha
 |cons c l ih=>exact ih (afv ha (aed a c))
theorem GL{w:Int}{c:df}(h:dX w c=true):0≤c.1∧c.1<w:=by
 unfold dX at h
 by_cases h1:c.1<0
 ·rw[ah h1]at h;exact absurd h (by decide)
 ·by_cases h2:w≤c.1
  ·rw[ag h1,ah h2]at h;exact absurd h (by decide)
  ·omega
theorem LV{w:Int}{c:df}(h:dX w c=true): -1≤c.2.1∧(¬c.2.1 = -1→pB w c.2.2.1=true∧pB w c.2.2.2.1=true):=by
 have hv:=GL h
 unfold dX at h
 rw[ag (by omega),ag (by omega)]at h
 by_cases h1:c.2.1 < -1
 ·rw[ah h1]at h;exact absurd h (by decide)
 ·rw[ag h1]at h
  by_cases h2:4<c.2.1
  ·rw[ah h2]at h;exact absurd h (by decide)
  ·rw[ag h2]at h
   refine⟨by omega,fun h3=>?_⟩
   rw[ag h3]at h
   exact Bool.and_eq_true_iff.1 h
theorem Lb{w:Int}{r:oN}(h:pB w r=true)(h1:¬r.1 = -1):0≤r.1∧r.1<w:=by
 unfold pB at h
 rw[ag h1]at h
 simp at h
 exact h.1
theorem aiF(a:List Int)(r:oN)(q b:Nat)(σ:Hp)(hr:pB a.length r=true):ACalls Tryz.prog 330 [.agg (Ej r),.ptr q 0] ((q,[.af b 0 a.length 1])::(b,bz a)::σ) (aB (.int .u64 (mj a r)) ((q,[.af b 0 a.length 1])::(b,bz a)::σ)):=by
 refine au Tryz.func330 ?_
 intro aD
 refine aa 0 ?_
 refine ak (fun c2=>?_) (fun c2=>?_)
 ·have c2:r.fst = -1:=c2
  refine aa 0 ?_
  refine az [] (Ib _ _ _) ?_
  have e:mj a r=oQ r.2.1.1 r.2.1.2.1:=ah c2
  exact .drop 0 1 (.done ⟨aJ e.symm,rfl⟩)
 ·have c2:¬(r.fst = -1):=c2
  refine aa 1 ?_
  refine aa 0 ?_
  have hv:=Lb hr c2
  have e:mj a r=wd a r.1.toNat:=ag c2
  refine aG.mk ⟨rfl,hv.1,hv.2⟩ ?_
  refine aZ 2 rfl (Wl (i:=r.1.toNat) (by omega) (by omega)) ?_
  exact .drop 0 1 (.done ⟨aJ e.symm,rfl⟩)
theorem Xe(a:List Int)(n:Nat)(hn:a.length=n)(r:oN)(q b:Nat)(σ:Hp)(hr:pB n r=true):ACalls Tryz.prog 330 [.agg (Ej r),.ptr q 0] ((q,[.af b 0 n 1])::(b,bz a)::σ) (aB (.int .u64 (mj a r)) ((q,[.af b 0 n 1])::(b,bz a)::σ)):=by
 subst hn
 exact aiF a r q b σ hr
theorem UW(l:List Int)(σ:Hp)(hl:l.length≤1000000):ACalls Tryz.prog 256 [.ae (.int .u64) l] σ (fun x σ'=>∃acc,Acc 1 l.length x acc (bz l)∧σ'=acc++σ):=by
 refine CN (fun h=>⟨?_,?_⟩) (fun h=>?_)
 ·subst h
  refine au Tryz.func256 ?_
  exact .done ⟨[],.nil,rfl⟩
 ·subst h
  refine au Tryz.func256 ?_
  intro b
  refine AppendAt.more 0 b 0 0 [] _ rfl rfl (cR rfl) .gH (by decide) (by decide) (by decide) (fun b'=>?_)
  exact .done ⟨[(b',[])],.af b' 0 [] rfl,rfl⟩
 ·refine au Tryz.func256 ?_
  refine aG.mk (mB.2 h) ?_
  intro b
  refine AppendAt.more 0 b 0 l.length [] _ rfl rfl (cR rfl) (.ae (.int .u64) l rfl) (by omega) (by decide) (by decide) (fun b'=>?_)
  refine .done ⟨[(b',bz l)],?_,?_⟩
  ·rw[Nat.zero_add];exact .af b' l.length _ (by simp[bz])
  ·show (b',[]++l.flatMap (Sh.cells (.int .u64)))::σ=_
   rw[qh];rfl
theorem aiw(a:List Int)(l:List df)(σ:Hp)(ha:aU a)(la:a.length≤10000)(ll:l.length≤1000000)(hl:l.all (dX a.length)=true):ACalls Tryz.prog 302 [.ae (.int .u64) a,.ae jr l] σ (aB (.ae (.int .u64) (kj a l)) σ):=by
 refine au Tryz.func302 ?_
 intro q
 refine aa 0 ?_
 refine .mk [] _ (UW a _ (by omega)) ?_
 rintro v σ' ⟨acc,cH,rfl⟩
 generalize hn:a.length=n at cH la hl
 generalize kK:bz a=cs at cH
 cases cH with
 |nil=>
  have h0:a=[]:=iR.1 hn
  subst h0
  cases l with
  |cons c l=>
   have:=GL (fI.1 hl c (bU ..))
   exact absurd this (by omega)
  |nil=>
   refine aj 0 ?_
   refine cc (S:=Unit) (fun _=>[(2,.ptr q 0),(12,.int .i64 0),(13,.int .i64 0)]) (fun _=>(q,[.ai])::σ) (fun _=>True) (fun _=>0) () ⟨trivial,⟨rfl,rfl,rfl,trivial⟩,rfl⟩ ?_
   rintro _ _ _
   refine aa 0 ?_
   exact .drop 0 1 (.nil (.nil _) (.done ⟨rfl,rfl⟩))
 |af b n cs h=>
 subst kK
 refine aj 1 ?_
 refine cc (S:=Nat) (fun s=>[(2,.ptr q 0),(5,.fn (.func 330) [] [.ptr q 0]),(11,.ae jr l),(12,.int .i64 l.length),(13,.int .i64 s)]) (fun s=>(b,bz (kj a (l.take s)))::(q,[.af b 0 n 1])::σ) (fun s=>s≤l.length) (fun s=>l.length-s) 0 ⟨bE _,⟨rfl,rfl,rfl,rfl,rfl,trivial⟩,rfl⟩ ?_
 intro s t qS
 have hs:s≤l.length:=qS
 clear qS
 have hA:aU (kj a (l.take s)):=Vt ha _
 have hlen:(kj a (l.take s)).length=n:=(KS a _).trans hn
 refine ak (fun ab=>?_) (fun aq=>?_)
 ·have ab:s<l.length:=by have ab:(s:Int)<l.length:=ab;omega
  have hd:=acD a (l.take s) l[s]
  rw[← fw ab]at hd
  have pZ:=fI.1 hl l[s] (bX ab)
  obtain⟨c,hc⟩:∃c:df,l[s]=c:=⟨_,rfl⟩
  rw[hc]at hd pZ
  have hv:=GL pZ
  have ho:=LV pZ
  refine aG.mk rfl (bM.mk c (by omega) ((get_some ab).trans (congrArg some hc)) ?_)
  clear hc pZ
  generalize kj a (l.take s)=A at hA hlen hd
  intro du
  refine aj 0 ?_
  refine aa 0 ?_
  refine ak (p:=c.2.1 = -1) (fun d5=>?_) (fun d5=>?_)
  ·refine aa 2 ?_
   refine aa 0 ?_
   refine aK ?_
   have xX:qC A c=1:=ah d5
   refine da 1 rfl (M7 (i:=c.1.toNat) (by omega) _ (by omega)) ?_
   refine bg (s+1) (by show l.length-(s+1)<l.length-s;omega) ab ⟨rfl,rfl,rfl,rfl,a8 (by omega),trivial⟩ (.drop 0 1 (aN ?_))
   rw[hd,tO,xX]
   rfl
  ·have ho2:=ho.2 d5
   have xX:qC A c=mT c.2.1 (mj A c.2.2.1) (mj A c.2.2.2.1):=ag d5
   refine .sched [8,12,13] (upto [8,12,13] 16 0) (by kernel_rfl) ?_
   refine aa 2 ?_
   refine aa 0 ?_
   refine aa 0 ?_
   refine aa 0 ?_
   refine aH [2,1] (Xe A n hlen c.2.2.1 q b _ ho2.1) ?_
   refine aa 0 ?_
   refine aH [2,1] (Xe A n hlen c.2.2.2.1 q b _ ho2.2) ?_
   refine aH [] (aiG _ _ _ _ (TP hA _) (TP hA _)) ?_
   refine aK ?_
   refine da 1 rfl (M7 (i:=c.1.toNat) (by omega) _ (by omega)) ?_
   refine bg (s+1) (by show l.length-(s+1)<l.length-s;omega) ab ⟨rfl,rfl,rfl,rfl,a8 (by omega),trivial⟩ (.drop 0 1 (aN ?_))
   rw[hd,tO,xX]
   rfl
 ·have aq:s=l.length:=by have aq:¬(s:Int)<l.length:=aq;omega
  subst aq
  rw[fu]at hlen ⊢
  refine aa 1 ?_
  have gL:((bz (kj a l)).drop 0).take (n*1)=(kj a l).flatMap (Sh.cells (.int .u64)):=by
   rw[iP,← qh];exact fe (by rw[bz,cj];omega)
  exact .cX 0 b 0 n 1 _ (.int .u64) (kj a l) rfl gL ⟨hlen,rfl,by decide⟩ .here (.drop 0 1 (.done ⟨rfl,rfl⟩))
def fS(what:Int)(g k:List Int)(l:List df)(a:List Int):List Int:=
 if what=3 then (if (a.any fun z=>decide (0=z))=true then List.replicate a.length 0 else kj a l) else fU mS (fU jI a k) g
theorem KW{what:Int}(h:¬what=3)(g k:List Int)(l:List df)(a:List Int):fS what g k l a=fU mS (fU jI a k) g:=ag h
theorem KF{what:Int}(h:what=3){a:List Int}(h0:(a.any fun z=>decide (0=z))=true)(g k:List Int)(l:List df):fS what g k l a=List.replicate a.length 0:=by unfold fS;rw[ah h,ah h0]
theorem GO{what:Int}(h:what=3){a:List Int}(h0:(a.any fun z=>decide (0=z))=false)(g k:List Int)(l:List df):fS what g k l a=kj a l:=by unfold fS;rw[ah h,h0];rfl
def vG(what w:Int)(g k:List Int)(l:List df)(a:List Int):Int:=if eT what w g k l=0 then (if cC what w a=true then 0 else 2) else eT what w g k l
theorem acA{what w:Int}{g k:List Int}{l:List df}{a:List Int}(h:¬eT what w g k l=0):vG what w g k l a=eT what w g k l:=ag h
theorem Hs{what w:Int}{g k:List Int}{l:List df}{a:List Int}(h:eT what w g k l=0)(hv:cC what w a=true):vG what w g k l a=0:=by unfold vG;rw[ah h,ah hv]
theorem acz{what w:Int}{g k:List Int}{l:List df}{a:List Int}(h:eT what w g k l=0)(hv:cC what w a=false):vG what w g k l a=2:=by unfold vG;rw[ah h,hv];rfl
theorem LX{what w:Int}{g k:List Int}{l:List df}(h:eT what w g k l=0):cO what w=true∧xC what w g k l=true:=by
 unfold eT at h
 cases hi:cO what w with
 |false=>rw[hi]at h;exact absurd h (by simp)
 |true=>
  rw[hi,ah rfl]at h
  cases ht:xC what w g k l with
  |false=>rw[ht]at h;exact absurd h (by simp)
  |true=>exact⟨rfl,rfl⟩
theorem ZJ{what w:Int}{a:List Int}(h:cC what w a=true)(h3:what=3):(a.length:Int)=w:=by
 have hl:=tC h
 have hi:cO what w=true:=by unfold cC at h;simp at h;exact h.1.1
 rw[hl];unfold eX;rw[ah hi,ah h3]
theorem acK{what w:Int}{a:List Int}(h:cC what w a=true)(h3:what=3):gl what w=List.replicate a.length 0:=by
 unfold gl
 rw[ag (fun h=>by omega),← tC h,bO]
theorem UM(what w:Int)(g k:List Int)(l:List df)(a:List Int)(σ:Hp)(hg:aU g)(hk:aU k)(ha:aU a)(lg:g.length≤10000)(lk:k.length≤10000)(la:a.length≤10000)(ll:l.length≤1000000):ACalls Tryz.prog 276 [.int .i64 what,.int .i64 w,.agg (ER g k l),.ae (.int .u64) a] σ (aB (.tup [.ae (.int .u64) (rY (vG what w g k l a) (fS what g k l a)),.int .i64 (vG what w g k l a)]) σ):=by
 refine au Tryz.func276 ?_
 have hm:(fU jI a k).length≤10000:=by rw[tk];omega
 intro aD
 refine aa 0 ?_
 refine az [] (Mx what w g k l _ hg hk lg lk ll) ?_
 refine cI (fun c2=>?_) (fun c2=>?_)
 ·have c2:¬(eT what w g k l=0):=by simpa using c2
  rw[acA c2,Dr c2]
  exact .nil (cg (.nil _) (.refl _)) (.drop 0 1 (.done ⟨rfl,rfl⟩))
 ·have c2:eT what w g k l=0:=by simpa using c2
  refine dm [] (BG what w a _ ha (by omega)) (fun cV=>?_) (fun cV=>?_)
  ·refine cI (fun c3=>?_) (fun c3=>?_)
   ·have c3:¬(what=3):=by simpa using c3
    refine .quiet (by kernel_rfl) ?_
    refine aa 0 ?_
    refine aH [] (VJ a k _ (by omega) (by omega)) ?_
    refine aa 0 ?_
    refine aH [] (agi (fU jI a k) g _ (by omega) (by omega)) ?_
    rw[Hs c2 cV,uS rfl,KW c3]
    exact .drop 0 1 (.done ⟨rfl,rfl⟩)
   ·have c3:what=3:=by simpa using c3
    refine dm [] (ZB a 0 _ (by omega)) (fun cZ=>?_) (fun cZ=>?_)
    ·refine az [] (G7 what w _) ?_
     rw[Hs c2 cV,uS rfl,KF c3 cZ,← acK cV c3]
     exact .drop 0 1 (.done ⟨rfl,rfl⟩)
    ·refine aa 0 ?_
     have hal:l.all (dX a.length)=true:=by
      have ht:=(LX c2).2
      rw[vR c3,bL]at ht
      rw[ZJ cV c3];exact ht.2
     rw[Hs c2 cV,uS rfl,GO c3 cZ]
     refine az [] (aiw a l _ ha la ll hal) ?_
     exact .drop 0 1 (.done ⟨rfl,rfl⟩)
  ·rw[acz c2 cV,Dr (by decide)]
   exact .nil (cg (.nil _) (.refl _)) (.drop 0 1 (.done ⟨rfl,rfl⟩))
end Go.Proofs.YtnikdflhefijbaaGreat
