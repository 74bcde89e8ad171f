import Derived.Test.YtnikdflhefijbaaGreatBs8
import Derived.Test.YtnikdflhefijbaaGreatBs6
namespace Go.Proofs.YtnikdflhefijbaaGreat
open Go.RowKit
set_option maxRecDepth 100000
def mQ(l:List Int):Int:=if (l.any fun w=>decide (cc w=0)) then 0 else if (l.any fun w=>decide (cc w=1)) then 1 else 2
theorem VV(l:List Int)(w:Int)(h:(l.any fun w=>decide (cc w=0))=false):mQ (l++[w])=if cc w=0 then 0 else if cc w=1 then 1 else mQ l:=by
 unfold mQ;rw[gt8,gt8,h]
 by_cases h0:cc w=0
 ·simp[h0]
 ·by_cases h1:cc w=1
  ·simp[h1]
  ·simp[h0,h1]
theorem VU(l:List Int){w:Int}(hm:w∈l)(h:cc w=0):mQ l=0:=by
 unfold mQ;rw[az];exact kr.2 ⟨w,hm,aX h⟩
theorem Ky(l:List Int)(σ:Hp)(hl:l.length≤100000):ACalls Tryz.prog 343 [.ae (.int .u64) l] σ (ay (.int .u64 (mQ l)) σ):=by
 refine ao Tryz.func343 ?_;refine bc (S:=Nat) (fun s=>[(3,.int .u64 (mQ (l.take s))),(6,.ae (.int .u64) l),(7,.int .i64 l.length),(8,.int .i64 s)]) (fun _=>σ) (fun s=>s≤l.length∧((l.take s).any fun w=>decide (cc w=0))=false) (fun s=>l.length-s) 0 ⟨⟨aV _,rfl⟩,⟨rfl,rfl,rfl,rfl,trivial⟩,rfl⟩ ?_;rintro k g ⟨aK,l0⟩;have hk:k≤l.length:=aK;have hz:((l.take k).any fun w=>decide (cc w=0))=false:=l0;clear aK l0;refine ai (fun ab=>?_) (fun ak=>?_)
 ·have ab:k<l.length:=by have ab:(k:Int)<l.length:=ab;omega
  have hs:=VV (l.take k) l[k] hz;rw[← eM ab]at hs
  have vf:((l.take (k+1)).any fun w=>decide (cc w=0))=decide (cc l[k]=0):=by
   rw[List.take_succ_eq_append_getElem ab,List.any_append,hz];simp
  refine aF.mk rfl (aY.mk l[k] (by omega) (get_some ab) ?_);refine aw [] (K4 l[k] _) ?_;refine ai (fun c1=>?_) (fun c1=>?_)
  ·have c1:cc l[k]=0:=c1;refine .fwd 1 ?_;rw[VU l (bU ab) c1];exact .done ⟨rfl,rfl⟩
  ·have c1:¬(cc l[k]=0):=c1;refine ai (fun c2=>?_) (fun c2=>?_)
   ·have c2:cc l[k]=1:=c2;refine aM (k+1) (by show l.length-(k+1)<l.length-k;omega) ⟨ab,by rw[vf];exact cp c1⟩ ⟨?_,rfl,rfl,aI (by omega),trivial⟩ (.refl _);rw[hs,aB c1,az c2];rfl
   ·have c2:¬(cc l[k]=1):=c2;refine aM (k+1) (by show l.length-(k+1)<l.length-k;omega) ⟨ab,by rw[vf];exact cp c1⟩ ⟨?_,rfl,rfl,aI (by omega),trivial⟩ (.refl _);rw[hs,aB c1,aB c2];rfl
 ·have ak:k=l.length:=by have ak:¬(k:Int)<l.length:=ak;omega
  subst ak;rw[er];exact .done ⟨rfl,rfl⟩
theorem adG{op:Int}(h:op=0∨op=4)(a b c d c2 d2:Int):qc op a b c d=qc op a b c2 d2:=by
 rcases h with rfl | rfl <;> rfl
def oV(op a b:Int):Int:=match qc op (oK a) (oL a) (oK b) (oL b) with | some (x,y)=>n5 x y | none=>1
def tf(op a b:Int):Int:=if cc a=0∨cc b=0 then 0 else if cc a=1∨cc b=1 then 1 else oV op a b
def qd(op a b:Int):Int:=if op=0∨op=4 then tf op a 2 else tf op a b
theorem adL(x y:Int):2≤n5 x y:=by have:=E3 x y;unfold n5;omega
theorem adK(x y:Int):fI (n5 x y)=true:=by
 have h1:=E3 x y;have h2:=Jl x y;unfold fI n5;simp;omega
theorem norm_num{w:Int}(h:fI w=true):cc w=w:=by
 have:=Jw h;unfold cc;rw[aB this.1,aB this.2,az h]
theorem abA{op:Int}(h:op=0∨op=4)(a b c:Int):oV op a b=oV op a c:=by
 unfold oV;rw[adG h (oK a) (oL a) (oK b) (oL b) (oK c) (oL c)]
theorem QO:cc 2=2:=by decide
theorem EH{op:Int}(a b:Int)(h:op=0∨op=4):qd op a b=if mQ [a]=2 then oV op a b else mQ [a]:=by
 unfold qd tf mQ;rw[az h,QO,abA h a b 2]
 by_cases h0:cc a=0
 ·simp[h0]
 ·by_cases h1:cc a=1
  ·simp[h1]
  ·simp[h0,h1]
theorem OL{op:Int}(a b:Int)(h:¬(op=0∨op=4)):qd op a b=if mQ [a,b]=2 then oV op a b else mQ [a,b]:=by
 unfold qd tf mQ;rw[aB h]
 by_cases h0:cc a=0
 ·simp[h0]
 ·by_cases h1:cc a=1
  ·by_cases g0:cc b=0
   ·simp[g0]
   ·simp[h1,g0]
  ·by_cases g0:cc b=0
   ·simp[g0]
   ·by_cases g1:cc b=1
    ·simp[h0,g1]
    ·simp[h0,h1,g0,g1]
theorem ah2(op a b:Int)(σ:Hp)(ha:bO a)(hb:bO b):ACalls Tryz.prog 332 [.int .i64 op,.int .u64 a,.int .u64 b] σ (ay (.int .u64 (qd op a b)) σ):=by
 refine ao Tryz.func332 ?_;intro ax;refine .cb (args':=[.ae (.int .u64) [a,b]]) 0 ax 0 2 1 _ (.int .u64) [a,b] rfl rfl ⟨rfl,rfl,by decide⟩ (bZ .here sU) (aw [] (Ky [a,b] _ (by show 2≤100000;omega)) ?_);refine ai (fun c1=>?_) (fun c1=>?_)
 ·have c1:op=0:=c1;intro bX;refine .cb (args':=[.ae (.int .u64) [a]]) 0 bX 0 1 1 _ (.int .u64) [a] rfl rfl ⟨rfl,rfl,by decide⟩ (bZ .here sU) (aw [] (Ky [a] _ (by show 1≤100000;omega)) ?_);generalize hL:mQ [a]=L;refine cO (fun c5=>?_) (fun c5=>?_)
  ·have c5:¬(L=2):=by simpa using c5
   rw[EH a b (.inl c1),aB (by rw[hL];exact c5),hL];exact .done ⟨rfl,rfl⟩
  ·have c5:L=2:=by simpa using c5
   rw[EH a b (.inl c1),az (by rw[hL];exact c5)];refine aw [] (z6 a _ ha) ?_;intro p1;refine ah 0 ?_;refine aw [] (z6 b _ hb) ?_;intro p2;refine ah 0 ?_;refine aa 1 ?_;refine aa 0 ?_;refine aw [] (Ls op _ _ _ _ _) ?_;unfold oV;cases hr:qc op (oK a) (oL a) (oK b) (oL b) with
   |none=>
    intro p3;refine ah 0 ?_;exact .drop 0 3 (.done ⟨rfl,rfl⟩)
   |some xy=>
    obtain⟨x,y⟩:=xy;intro p3;refine ah 0 ?_;refine aa 0 ?_;refine aw [] (Gu x y _) ?_;exact .drop 0 3 (.done ⟨rfl,rfl⟩)
 ·have c1:¬(op=0):=c1;refine ai (fun c3=>?_) (fun c3=>?_)
  ·have c3:op=4:=c3;intro El;refine .cb (args':=[.ae (.int .u64) [a]]) 0 El 0 1 1 _ (.int .u64) [a] rfl rfl ⟨rfl,rfl,by decide⟩ (bZ .here sU) (aw [] (Ky [a] _ (by show 1≤100000;omega)) ?_);generalize hL:mQ [a]=L;refine cO (fun c5=>?_) (fun c5=>?_)
   ·have c5:¬(L=2):=by simpa using c5
    rw[EH a b (.inr c3),aB (by rw[hL];exact c5),hL];exact .done ⟨rfl,rfl⟩
   ·have c5:L=2:=by simpa using c5
    rw[EH a b (.inr c3),az (by rw[hL];exact c5)];refine aw [] (z6 a _ ha) ?_;intro p1;refine ah 0 ?_;refine aw [] (z6 b _ hb) ?_;intro p2;refine ah 0 ?_;refine aa 1 ?_;refine aa 0 ?_;refine aw [] (Ls op _ _ _ _ _) ?_;unfold oV;cases hr:qc op (oK a) (oL a) (oK b) (oL b) with
    |none=>
     intro p3;refine ah 0 ?_;exact .drop 0 3 (.done ⟨rfl,rfl⟩)
    |some xy=>
     obtain⟨x,y⟩:=xy;intro p3;refine ah 0 ?_;refine aa 0 ?_;refine aw [] (Gu x y _) ?_;exact .drop 0 3 (.done ⟨rfl,rfl⟩)
  ·have c3:¬(op=4):=c3;generalize hL:mQ [a,b]=L;refine cO (fun c5=>?_) (fun c5=>?_)
   ·have c5:¬(L=2):=by simpa using c5
    rw[OL a b (fun h=>h.elim c1 c3),aB (by rw[hL];exact c5),hL];exact .done ⟨rfl,rfl⟩
   ·have c5:L=2:=by simpa using c5
    rw[OL a b (fun h=>h.elim c1 c3),az (by rw[hL];exact c5)];refine aw [] (z6 a _ ha) ?_;intro p1;refine ah 0 ?_;refine aw [] (z6 b _ hb) ?_;intro p2;refine ah 0 ?_;refine aa 1 ?_;refine aa 0 ?_;refine aw [] (Ls op _ _ _ _ _) ?_;unfold oV;cases hr:qc op (oK a) (oL a) (oK b) (oL b) with
    |none=>
     intro p3;refine ah 0 ?_;exact .drop 0 3 (.done ⟨rfl,rfl⟩)
    |some xy=>
     obtain⟨x,y⟩:=xy;intro p3;refine ah 0 ?_;refine aa 0 ?_;refine aw [] (Gu x y _) ?_;exact .drop 0 3 (.done ⟨rfl,rfl⟩)
theorem ad4(g:Nat)(cap:List AV)(l:List (Sh.T (.int .u64)))(p:Sh.T (.int .u64)→Bool)(σ:Hp)(hl:l.length≤1000000)(hg:∀(i:Nat) (hi:i<l.length),ACalls Tryz.prog g (.int .u64 l[i]::cap) σ (ay (.bool (p l[i])) σ)):ACalls Tryz.prog 250 [.ae (.int .u64) l,.fn (.func g) [] cap] σ (fun r σ'=>∃n:Int,r=.int .i64 n∧σ'=σ∧decide (0≤n)=l.any p):=by
 refine ao Tryz.func250 ?_;refine bc (S:=Nat) (fun s=>[(0,.ae (.int .u64) l),(1,.fn (.func g) [] cap),(7,.int .i64 l.length),(8,.int .i64 s)]) (fun _=>σ) (fun s=>s≤l.length∧(l.take s).any p=false) (fun s=>l.length-s) 0 ⟨⟨aV _,rfl⟩,⟨rfl,rfl,rfl,rfl,trivial⟩,rfl⟩ ?_;rintro k t ⟨aK,ep⟩;have hk:k≤l.length:=aK;have hn:(l.take k).any p=false:=ep;clear aK ep;refine ai (fun ab=>?_) (fun ak=>?_)
 ·have ab:k<l.length:=by have ab:(k:Int)<l.length:=ab;omega
  have hs:=mH ab p;rw[hn,l8]at hs;refine aF.mk rfl (aY.mk l[k] (by omega) (get_some ab) ?_);refine dc [] (hg k ab) (fun c=>?_) (fun c=>?_)
  ·have hp:l.any p=true:=kr.2 ⟨l[k],bU ab,c⟩;exact .done ⟨_,rfl,rfl,by rw[hp];exact aX (by omega)⟩
  ·exact aM (k+1) (by show l.length-(k+1)<l.length-k;omega) ⟨ab,hs.trans c⟩ ⟨rfl,rfl,rfl,aI (by omega),trivial⟩ (.refl _)
 ·have ak:k=l.length:=by have ak:¬(k:Int)<l.length:=ak;omega
  subst ak;rw[er]at hn;exact .done ⟨_,rfl,rfl,by rw[hn];rfl⟩
theorem Xw(g:Nat)(cap:List AV)(l:List (Sh.T (.int .u64)))(p:Sh.T (.int .u64)→Bool)(σ:Hp)(hl:l.length≤1000000)(hg:∀(i:Nat) (hi:i<l.length),ACalls Tryz.prog g (.int .u64 l[i]::cap) σ (ay (.bool (p l[i])) σ)):ACalls Tryz.prog 200 [.ae (.int .u64) l,.fn (.func g) [] cap] σ (ay (.bool (l.any p)) σ):=by
 refine ao Tryz.func200 ?_;refine .mk [] _ (ad4 g cap l p _ hl hg) ?_;rintro _ _ ⟨n,rfl,rfl,hn⟩;rw[← hn];refine ai (fun c=>?_) (fun c=>?_)
 ·have c:0≤n:=c;rw[aX c];exact .done ⟨rfl,rfl⟩
 ·have c:¬0≤n:=c;rw[cp c];exact .done ⟨rfl,rfl⟩
abbrev aeX:Sh:=.field (.int .i64) (.field (.int .i64) .nil)
abbrev TD:Sh:=.field (.int .i64) (.field aeX .nil)
abbrev jg:Sh:=.field (.int .i64) (.field (.int .i64) (.field TD (.field TD .nil)))
abbrev ah5:Type:=Int×Int×Unit
abbrev oY:Type:=Int×ah5×Unit
abbrev dN:Type:=Int×Int×oY×oY×Unit
abbrev CE(r:oY):List AV:=[.int .i64 r.1,.int .i64 r.2.1.1,.int .i64 r.2.1.2.1]
abbrev TY(c:dN):List AV:=[.int .i64 c.1,.int .i64 c.2.1,.int .i64 c.2.2.1.1,.int .i64 c.2.2.1.2.1.1,.int .i64 c.2.2.1.2.1.2.1,.int .i64 c.2.2.2.1.1,.int .i64 c.2.2.2.1.2.1.1,.int .i64 c.2.2.2.1.2.1.2.1]
def Gw(c:dN):AV:=.agg (TY c)
theorem ad7(g:Nat)(cap:List AV)(l:List (Sh.T jg))(p:Sh.T jg→Bool)(σ:Hp)(hl:l.length≤1000000)(hg:∀(i:Nat) (hi:i<l.length),ACalls Tryz.prog g (Gw l[i]::cap) σ (ay (.bool (p l[i])) σ)):ACalls Tryz.prog 253 [.ae jg l,.fn (.func g) [] cap] σ (fun r σ'=>∃n:Int,r=.int .i64 n∧σ'=σ∧decide (0≤n)=l.any p):=by
 refine ao Tryz.func253 ?_;refine bc (S:=Nat) (fun s=>[(0,.ae jg l),(1,.fn (.func g) [] cap),(7,.int .i64 l.length),(8,.int .i64 s)]) (fun _=>σ) (fun s=>s≤l.length∧(l.take s).any p=false) (fun s=>l.length-s) 0 ⟨⟨aV _,rfl⟩,⟨rfl,rfl,rfl,rfl,trivial⟩,rfl⟩ ?_;rintro k t ⟨aK,ep⟩;have hk:k≤l.length:=aK;have hn:(l.take k).any p=false:=ep;clear aK ep;refine ai (fun ab=>?_) (fun ak=>?_)
 ·have ab:k<l.length:=by have ab:(k:Int)<l.length:=ab;omega
  have hs:=mH ab p;rw[hn,l8]at hs;refine aF.mk rfl (aY.mk l[k] (by omega) (get_some ab) ?_);refine dc [] (hg k ab) (fun c=>?_) (fun c=>?_)
  ·have hp:l.any p=true:=kr.2 ⟨l[k],bU ab,c⟩;exact .done ⟨_,rfl,rfl,by rw[hp];exact aX (by omega)⟩
  ·exact aM (k+1) (by show l.length-(k+1)<l.length-k;omega) ⟨ab,hs.trans c⟩ ⟨rfl,rfl,rfl,aI (by omega),trivial⟩ (.refl _)
 ·have ak:k=l.length:=by have ak:¬(k:Int)<l.length:=ak;omega
  subst ak;rw[er]at hn;exact .done ⟨_,rfl,rfl,by rw[hn];rfl⟩
theorem Xz(g:Nat)(cap:List AV)(l:List (Sh.T jg))(p:Sh.T jg→Bool)(σ:Hp)(hl:l.length≤1000000)(hg:∀(i:Nat) (hi:i<l.length),ACalls Tryz.prog g (Gw l[i]::cap) σ (ay (.bool (p l[i])) σ)):ACalls Tryz.prog 207 [.ae jg l,.fn (.func g) [] cap] σ (ay (.bool (l.any p)) σ):=by
 refine ao Tryz.func207 ?_;refine .mk [] _ (ad7 g cap l p _ hl hg) ?_;rintro _ _ ⟨n,rfl,rfl,hn⟩;rw[← hn];refine ai (fun c=>?_) (fun c=>?_)
 ·have c:0≤n:=c;rw[aX c];exact .done ⟨rfl,rfl⟩
 ·have c:¬0≤n:=c;rw[cp c];exact .done ⟨rfl,rfl⟩
theorem aaT(g:Nat)(cap:List AV)(l:List (Sh.T (.slice (.int .u64))))(p:Sh.T (.slice (.int .u64))→Bool)(σ:Hp)(hl:l.length≤1000000)(hg:∀(i:Nat) (hi:i<l.length),ACalls Tryz.prog g (.ae (.int .u64) l[i]::cap) σ (ay (.bool (p l[i])) σ)):ACalls Tryz.prog 277 [.ae (.slice (.int .u64)) l,.fn (.func g) [] cap] σ (fun r σ'=>∃n:Int,r=.int .i64 n∧σ'=σ∧decide (0≤n)=l.any p):=by
 refine ao Tryz.func277 ?_;refine bc (S:=Nat) (fun s=>[(0,.ae (.slice (.int .u64)) l),(1,.fn (.func g) [] cap),(7,.int .i64 l.length),(8,.int .i64 s)]) (fun _=>σ) (fun s=>s≤l.length∧(l.take s).any p=false) (fun s=>l.length-s) 0 ⟨⟨aV _,rfl⟩,⟨rfl,rfl,rfl,rfl,trivial⟩,rfl⟩ ?_;rintro k t ⟨aK,ep⟩;have hk:k≤l.length:=aK;have hn:(l.take k).any p=false:=ep;clear aK ep;refine ai (fun ab=>?_) (fun ak=>?_)
 ·have ab:k<l.length:=by have ab:(k:Int)<l.length:=ab;omega
  have hs:=mH ab p;rw[hn,l8]at hs;refine aF.mk rfl (aY.mk l[k] (by omega) (get_some ab) ?_);refine dc [] (hg k ab) (fun c=>?_) (fun c=>?_)
  ·have hp:l.any p=true:=kr.2 ⟨l[k],bU ab,c⟩;exact .done ⟨_,rfl,rfl,by rw[hp];exact aX (by omega)⟩
  ·exact aM (k+1) (by show l.length-(k+1)<l.length-k;omega) ⟨ab,hs.trans c⟩ ⟨rfl,rfl,rfl,aI (by omega),trivial⟩ (.refl _)
 ·have ak:k=l.length:=by have ak:¬(k:Int)<l.length:=ak;omega
  subst ak;rw[er]at hn;exact .done ⟨_,rfl,rfl,by rw[hn];rfl⟩
theorem On(g:Nat)(cap:List AV)(l:List (Sh.T (.slice (.int .u64))))(p:Sh.T (.slice (.int .u64))→Bool)(σ:Hp)(hl:l.length≤1000000)(hg:∀(i:Nat) (hi:i<l.length),ACalls Tryz.prog g (.ae (.int .u64) l[i]::cap) σ (ay (.bool (p l[i])) σ)):ACalls Tryz.prog 241 [.ae (.slice (.int .u64)) l,.fn (.func g) [] cap] σ (ay (.bool (l.any p)) σ):=by
 refine ao Tryz.func241 ?_;refine .mk [] _ (aaT g cap l p _ hl hg) ?_;rintro _ _ ⟨n,rfl,rfl,hn⟩;rw[← hn];refine ai (fun c=>?_) (fun c=>?_)
 ·have c:0≤n:=c;rw[aX c];exact .done ⟨rfl,rfl⟩
 ·have c:¬0≤n:=c;rw[cp c];exact .done ⟨rfl,rfl⟩
theorem ad6(l:List Int)(x:Int)(σ:Hp)(hl:l.length≤1000000):ACalls Tryz.prog 329 [.ae (.int .u64) l,.int .u64 x] σ (fun r σ'=>∃n:Int,r=.int .i64 n∧σ'=σ∧decide (0≤n)=l.any fun z=>decide (x=z)):=by
 refine ao Tryz.func329 ?_;refine bc (S:=Nat) (fun s=>[(0,.ae (.int .u64) l),(1,.int .u64 x),(7,.int .i64 l.length),(8,.int .i64 s)]) (fun _=>σ) (fun s=>s≤l.length∧((l.take s).any fun z=>decide (x=z))=false) (fun s=>l.length-s) 0 ⟨⟨aV _,rfl⟩,⟨rfl,rfl,rfl,rfl,trivial⟩,rfl⟩ ?_;rintro k t ⟨aK,ep⟩;have hk:k≤l.length:=aK;have hn:((l.take k).any fun z=>decide (x=z))=false:=ep;clear aK ep;refine ai (fun ab=>?_) (fun ak=>?_)
 ·have ab:k<l.length:=by have ab:(k:Int)<l.length:=ab;omega
  have hs:=mH ab fun z=>decide (x=z);rw[hn,l8]at hs;refine aF.mk rfl (aY.mk l[k] (by omega) (get_some ab) ?_);refine ai (fun c=>?_) (fun c=>?_)
  ·have c:x=l[k]:=c;have hp:(l.any fun z=>decide (x=z))=true:=kr.2 ⟨l[k],bU ab,aX c⟩;exact .done ⟨_,rfl,rfl,by rw[hp];exact aX (by omega)⟩
  ·have c:¬x=l[k]:=c;exact aM (k+1) (by show l.length-(k+1)<l.length-k;omega) ⟨ab,hs.trans (cp c)⟩ ⟨rfl,rfl,rfl,aI (by omega),trivial⟩ (.refl _)
 ·have ak:k=l.length:=by have ak:¬(k:Int)<l.length:=ak;omega
  subst ak;rw[er]at hn;exact .done ⟨_,rfl,rfl,by rw[hn];rfl⟩
theorem Xy(l:List Int)(x:Int)(σ:Hp)(hl:l.length≤1000000):ACalls Tryz.prog 301 [.ae (.int .u64) l,.int .u64 x] σ (ay (.bool (l.any fun z=>decide (x=z))) σ):=by
 refine ao Tryz.func301 ?_;refine .mk [] _ (ad6 l x _ hl) ?_;rintro _ _ ⟨n,rfl,rfl,hn⟩;rw[← hn];refine ai (fun c=>?_) (fun c=>?_)
 ·have c:0≤n:=c;rw[aX c];exact .done ⟨rfl,rfl⟩
 ·have c:¬0≤n:=c;rw[cp c];exact .done ⟨rfl,rfl⟩
theorem Sv(xs ys:List Int)(σ:Hp)(h1:xs.length≤1000000):ACalls Tryz.prog 244 [.ae (.int .u64) xs,.ae (.int .u64) ys] σ (ay (.bool (decide (xs=ys))) σ):=by
 refine ao Tryz.func244 ?_;refine cO (fun hl=>?_) (fun hl=>?_)
 ·have:xs≠ys:=by rintro rfl;simp at hl
  exact .done ⟨by simp[this];rfl,rfl⟩
 ·have hl:(!decide ((xs.length:Int)=(ys.length:Int)))=false:=hl;have hlen:xs.length=ys.length:=by simp at hl;omega
  refine bc (S:=Nat) (fun k=>[(0,.ae (.int .u64) xs),(1,.ae (.int .u64) ys),(12,.int .i64 xs.length),(13,.int .i64 k)]) (fun _=>σ) (fun k=>k≤xs.length∧xs.take k=ys.take k) (fun k=>xs.length-k) 0 ⟨⟨aV _,rfl⟩,⟨rfl,rfl,rfl,rfl,trivial⟩,rfl⟩ ?_;rintro k g ⟨hk,eH⟩;refine ai (fun ab=>?_) (fun ak=>?_)
  ·have gw:k<xs.length:=by omega
   have UB:k<ys.length:=by omega
   refine gn.quiet (by kernel_rfl) ?_;refine aF.mk rfl (aY.mk xs[k] (by omega) (get_some gw) ?_);refine aF.mk rfl (aY.mk ys[k] (by omega) (get_some UB) ?_);refine cO (fun hx=>?_) (fun hx=>?_)
   ·have:xs≠ys:=by rintro rfl;simp at hx
    exact .done ⟨by simp[this];rfl,rfl⟩
   ·have Dj:xs[k]=ys[k]:=by simpa using hx
    refine next (k+1) (Nat.sub_lt_sub_left gw (A0 k)) ⟨gw,?_⟩ ⟨rfl,rfl,rfl,aI (by omega),trivial⟩ rfl;rw[eM gw,eM UB,eH,Dj]
  ·obtain rfl:k=xs.length:=by omega
   have:xs=ys:=by
    rw[er]at eH;rw[eH,hlen,er]
   exact .done ⟨by simp[this];rfl,rfl⟩
def df(what width:Int):Bool:=decide (1≤what)&&decide (what≤3)&&decide (0≤width)&&decide (width≤1024)
theorem C2(what width:Int)(σ:Hp):ACalls Tryz.prog 112 [.int .i64 what,.int .i64 width] σ (ay (.bool (df what width)) σ):=by
 refine ao Tryz.func112 ?_;refine ai (fun c1=>?_) (fun c1=>?_)
 ·have c1:1≤what:=c1;refine ai (fun c2=>?_) (fun c2=>?_)
  ·have c2:what≤3:=c2;refine ai (fun c3=>?_) (fun c3=>?_)
   ·have c3:0≤width:=c3;refine ai (fun c4=>?_) (fun c4=>?_)
    ·have c4:width≤1024:=c4;exact .done ⟨bJ (by first | (simp_all [df];done) | (simp_all [df];intros;omega)),rfl⟩
    ·have c4:¬(width≤1024):=c4;exact .done ⟨bJ (by first | (simp_all [df];done) | (simp_all [df];intros;omega)),rfl⟩
   ·have c3:¬(0≤width):=c3;exact .done ⟨bJ (by first | (simp_all [df];done) | (simp_all [df];intros;omega)),rfl⟩
  ·have c2:¬(what≤3):=c2;exact .done ⟨bJ (by first | (simp_all [df];done) | (simp_all [df];intros;omega)),rfl⟩
 ·have c1:¬(1≤what):=c1;exact .done ⟨bJ (by first | (simp_all [df];done) | (simp_all [df];intros;omega)),rfl⟩
def gl(what:Int)(xs ys:List Int):List Int:=List.zipWith (kc what) xs ys
theorem Vi(what:Int)(xs ys:List Int)(h:xs.length=ys.length):(gl what xs ys).length=xs.length:=by simp[gl,h]
theorem C3(what width:Int)(σ:Hp):ACalls Tryz.prog 152 [.int .i64 what,.int .i64 width] σ (ay (.bool (df what width)) σ):=by
 refine ao Tryz.func152 ?_;have hk:∀w:Int,(1≤w∧w≤3)↔(w=1∨w=2∨w=3):=fun w=>by omega
 have hI:df what width=(decide (what=1∨what=2∨what=3)&&decide (0≤width)&&decide (width≤1024)):=by
  unfold df;rw[← Bool.decide_and,decide_eq_decide.2 (hk what)]
 rw[hI];refine ai (fun c1=>?_) (fun c1=>?_)
 ·have c1:what=1:=c1;have hw:(what=1∨what=2∨what=3):=.inl c1;refine ai (fun d1=>?_) (fun d1=>?_)
  ·have d1:0≤width:=d1;refine ai (fun d2=>?_) (fun d2=>?_)
   ·have d2:width≤1024:=d2;rw[aX hw,aX d1,aX d2];exact .done ⟨rfl,rfl⟩
   ·have d2:¬width≤1024:=d2;rw[aX hw,aX d1,cp d2];exact .done ⟨rfl,rfl⟩
  ·have d1:¬0≤width:=d1;rw[aX hw,cp d1];exact .done ⟨rfl,rfl⟩
 ·have c1:¬what=1:=c1;refine ai (fun c2=>?_) (fun c2=>?_)
  ·have c2:what=2:=c2;have hw:(what=1∨what=2∨what=3):=.inr (.inl c2);refine ai (fun d1=>?_) (fun d1=>?_)
   ·have d1:0≤width:=d1;refine ai (fun d2=>?_) (fun d2=>?_)
    ·have d2:width≤1024:=d2;rw[aX hw,aX d1,aX d2];exact .done ⟨rfl,rfl⟩
    ·have d2:¬width≤1024:=d2;rw[aX hw,aX d1,cp d2];exact .done ⟨rfl,rfl⟩
   ·have d1:¬0≤width:=d1;rw[aX hw,cp d1];exact .done ⟨rfl,rfl⟩
  ·have c2:¬what=2:=c2;refine ai (fun c3=>?_) (fun c3=>?_)
   ·have c3:what=3:=c3;have hw:(what=1∨what=2∨what=3):=.inr (.inr c3);refine ai (fun d1=>?_) (fun d1=>?_)
    ·have d1:0≤width:=d1;refine ai (fun d2=>?_) (fun d2=>?_)
     ·have d2:width≤1024:=d2;rw[aX hw,aX d1,aX d2];exact .done ⟨rfl,rfl⟩
     ·have d2:¬width≤1024:=d2;rw[aX hw,aX d1,cp d2];exact .done ⟨rfl,rfl⟩
    ·have d1:¬0≤width:=d1;rw[aX hw,cp d1];exact .done ⟨rfl,rfl⟩
   ·have c3:¬what=3:=c3;rw[cp (p:=what=1∨what=2∨what=3) (fun h=>h.elim c1 fun h=>h.elim c2 c3)];exact .done ⟨rfl,rfl⟩
def ez(what width:Int):Int:=if df what width=true then (if what=3 then width else (dS width:Int)) else 0
theorem FM(what width:Int)(σ:Hp):ACalls Tryz.prog 85 [.int .i64 what,.int .i64 width] σ (ay (.int .i64 (ez what width)) σ):=by
 refine ao Tryz.func85 ?_;unfold ez;refine dc [] (C3 what width _) (fun hi=>?_) (fun hi=>?_)
 ·rw[az hi];have h3:(what=1∨what=2∨what=3):=by unfold df at hi;simp at hi;omega
  refine ai (fun c1=>?_) (fun c1=>?_)
  ·have c1:what=1:=c1;rw[aB (by omega)];refine aw [] (FL width _) ?_;exact .done ⟨rfl,rfl⟩
  ·have c1:¬what=1:=c1;refine ai (fun c2=>?_) (fun c2=>?_)
   ·have c2:what=2:=c2;rw[aB (by omega)];refine aw [] (FL width _) ?_;exact .done ⟨rfl,rfl⟩
   ·have c2:¬what=2:=c2;rw[az (by omega)];exact .done ⟨rfl,rfl⟩
 ·rw[aB (by rw[hi];decide)];exact .done ⟨rfl,rfl⟩
theorem Ji(what width:Int)(σ:Hp):ACalls Tryz.prog 57 [.int .i64 what,.int .i64 width] σ (ay (.int .i64 (ez what width)) σ):=by
 refine ao Tryz.func57 ?_;unfold ez;refine dc [] (C2 what width _) (fun hi=>?_) (fun hi=>?_)
 ·rw[az hi];refine ai (fun c1=>?_) (fun c1=>?_)
  ·have c1:what=3:=c1;rw[az c1];exact .done ⟨rfl,rfl⟩
  ·have c1:¬what=3:=c1;rw[aB c1];refine aw [] (Kw width _) ?_;exact .done ⟨rfl,rfl⟩
 ·rw[aB (by rw[hi];decide)];exact .done ⟨rfl,rfl⟩
theorem xQ(what width:Int):0≤ez what width∧ez what width≤1024:=by
 unfold ez
 by_cases h:df what width=true
 ·rw[az h];have:=xU width;unfold df at h;simp at h;split <;> omega
 ·rw[aB h];omega
def okW(a:List Int):Bool:=a.all fun z=>decide (cc z=z)
def dm(what w:Int)(a:List Int):Bool:=df what w&&decide ((a.length:Int)=ez what w)&&(if what=3 then okW a else fw a w)
theorem ac4(w:Int):(fI w||decide (w=0)||decide (w=1))=decide (cc w=w):=by
 unfold cc
 by_cases h0:w=0
 ·simp[h0]
 ·by_cases h1:w=1
  ·simp[h1]
  ·cases h2:fI w with
   |true=>simp[h0,h1]
   |false=>simp[h0,h1];exact fun h=>h1 h.symm
theorem agX(z:Int)(σ:Hp):ACalls Tryz.prog 201 [.int .u64 z] σ (ay (.bool (!decide (cc z=z))) σ):=by
 refine ao Tryz.func201 ?_;refine aw [] (aIs z _) ?_;rw[ac4];exact .done ⟨rfl,rfl⟩
theorem abS(a:List Int):(!a.any fun z=> !decide (cc z=z))=okW a:=by
 unfold okW;rw[List.all_eq_not_any_not]
theorem Ap(what w:Int)(a:List Int)(σ:Hp)(ha:bC a)(hl:a.length≤1000000):ACalls Tryz.prog 148 [.int .i64 what,.int .i64 w,.ae (.int .u64) a] σ (ay (.bool (dm what w a)) σ):=by
 refine ao Tryz.func148 ?_;have qh:=xQ what w;unfold dm;refine dc [] (C3 what w _) (fun hi=>?_) (fun hi=>?_)
 ·refine aw [] (FM what w _) ?_;refine cO (fun c=>?_) (fun c=>?_)
  ·have c:(!decide ((a.length:Int)=ez what w))=true:=c;have c:¬((a.length:Int)=ez what w):=by simpa using c
   rw[hi,cp c];exact .done ⟨rfl,rfl⟩
  ·have c:(!decide ((a.length:Int)=ez what w))=false:=c;have c:(a.length:Int)=ez what w:=by simpa using c
   rw[hi,aX c];refine cO (fun c3=>?_) (fun c3=>?_)
   ·have c3:¬(what=3):=by simpa using c3
    rw[aB c3];refine aw [] (B1 a w _ ha (by omega)) ?_;exact .done ⟨rfl,rfl⟩
   ·have c3:what=3:=by simpa using c3
    rw[az c3,← abS];refine aw [] (Xw 201 [] a (fun z:Int=> !decide (cc z=z)) _ hl (fun i hi=>agX _ _)) ?_;exact .done ⟨rfl,rfl⟩
 ·rw[hi];exact .done ⟨rfl,rfl⟩
theorem aaJ(what w:Int)(a:List Int)(σ:Hp)(ha:bC a):ACalls Tryz.prog 68 [.int .i64 what,.int .i64 w,.ae (.int .u64) a] σ (ay (.bool (dm what w a)) σ):=by
 refine ao Tryz.func68 ?_;have qh:=xQ what w;unfold dm;refine dc [] (C2 what w _) (fun hi=>?_) (fun hi=>?_)
 ·refine aw [] (Ji what w _) ?_;refine cO (fun c=>?_) (fun c=>?_)
  ·have c:(!decide ((a.length:Int)=ez what w))=true:=c;have c:¬((a.length:Int)=ez what w):=by simpa using c
   rw[hi,cp c];exact .done ⟨rfl,rfl⟩
  ·have c:(!decide ((a.length:Int)=ez what w))=false:=c;have c:(a.length:Int)=ez what w:=by simpa using c
   rw[hi,aX c];refine cO (fun c3=>?_) (fun c3=>?_)
   ·have c3:¬(what=3):=by simpa using c3
    rw[aB c3];refine aw [] (KA a w _ ha) ?_;exact .done ⟨rfl,rfl⟩
   ·have c3:what=3:=by simpa using c3
    rw[az c3];unfold okW;refine bc (S:=Nat) (fun k=>[(26,.ae (.int .u64) a),(27,.int .i64 a.length),(28,.int .i64 k)]) (fun _=>σ) (fun k=>k≤a.length∧((a.take k).all fun z=>decide (cc z=z))=true) (fun k=>a.length-k) 0 ⟨⟨aV _,rfl⟩,⟨rfl,rfl,rfl,trivial⟩,rfl⟩ ?_;rintro k g ⟨aK,TW⟩;have hk:k≤a.length:=aK;have bh:((a.take k).all fun z=>decide (cc z=z))=true:=TW;clear aK TW;refine ai (fun ab=>?_) (fun ak=>?_)
    ·have ab:k<a.length:=by have ab:(k:Int)<a.length:=ab;omega
     have hz:=ha _ (bU ab);refine aF.mk rfl (aY.mk a[k] (by omega) (get_some ab) ?_);refine aw [] (aew _ _ hz.1 hz.2) ?_;refine cO (fun c1=>?_) (fun c1=>?_)
     ·have c1:¬(cc a[k]=a[k]):=by simpa using c1
      have:(a.all fun z=>decide (cc z=z))=false:=by
       rw[List.all_eq_false];exact⟨a[k],List.getElem_mem ab,by simpa using c1⟩
      rw[this];exact .done ⟨rfl,rfl⟩
     ·have c1:cc a[k]=a[k]:=by simpa using c1
      refine aM (k+1) (by show a.length-(k+1)<a.length-k;omega) ⟨ab,?_⟩ ⟨rfl,rfl,aI (by omega),trivial⟩ (aL rfl);rw[eM ab,xt,bh];simp[c1]
    ·have ak:k=a.length:=by have ak:¬(k:Int)<a.length:=ak;omega
     rw[ak,er]at bh;rw[bh];exact .done ⟨rfl,rfl⟩
 ·rw[hi];exact .done ⟨rfl,rfl⟩
theorem adi(what w:Int)(a:List Int)(q1 q2:Nat)(σ:Hp)(ha:bC a)(hl:a.length≤1000000):ACalls Tryz.prog 303 [.ae (.int .u64) a,.ptr q1 0,.ptr q2 0] ((q2,[.int .i64 w])::(q1,[.int .i64 what])::σ) (ay (.bool (!dm what w a)) ((q2,[.int .i64 w])::(q1,[.int .i64 what])::σ)):=by
 refine ao Tryz.func303 ?_;refine aa 1 ?_;refine aa 0 ?_;refine aw [] (Ap what w a _ ha hl) ?_;exact .done ⟨rfl,rfl⟩
def qK(what w:Int)(l:List (List Int)):Int:=if df what w then (if (l.any fun a=> !dm what w a) then 2 else 0) else 10
theorem ad2(what w:Int)(l:List (List Int))(σ:Hp)(hl:l.length≤1000000)(ha:∀a∈l,bC a∧a.length≤1000000):ACalls Tryz.prog 278 [.int .i64 what,.int .i64 w,.ae (.slice (.int .u64)) l] σ (ay (.int .i64 (qK what w l)) σ):=by
 refine ao Tryz.func278 ?_;unfold qK;intro q1;intro q2;refine aa 1 ?_;refine aa 0 ?_;refine dc [] (C3 what w _) (fun hi=>?_) (fun hi=>?_)
 ·refine dc [] (On 303 [.ptr q1 0,.ptr q2 0] l (fun a:List Int=> !dm what w a) _ hl (fun i hi=>adi what w l[i] q1 q2 _ (ha _ (bU hi)).1 (ha _ (bU hi)).2)) (fun hc=>?_) (fun hc=>?_)
  ·exact .drop 0 2 (.done ⟨aQ (by rw[az hi];exact (az hc).symm),rfl⟩)
  ·exact .drop 0 2 (.done ⟨aQ (by rw[az hi];exact (aB (fun h=>Bool.noConfusion (hc.symm.trans h))).symm),rfl⟩)
 ·exact .drop 0 2 (.done ⟨aQ (aB (by rw[hi];decide)).symm,rfl⟩)
theorem YH{what w:Int}{a b:List Int}(h:qK what w [a,b]=0):dm what w a=true∧dm what w b=true:=by
 unfold qK at h;cases hi:df what w with
 |false=>rw[hi]at h;exact absurd h (by simp)
 |true=>
  rw[hi,az rfl]at h;cases ha:dm what w a with
  |false=>simp[ha]at h
  |true=>
   cases hb:dm what w b with
   |false=>simp[ha,hb]at h
   |true=>exact⟨rfl,rfl⟩
theorem zp{what w:Int}{a:List Int}(h:dm what w a=true):(a.length:Int)=ez what w:=by
 unfold dm at h;simp at h;exact h.1.2
def sj(e:Int)(l:List Int):List Int:=if e=0 then l else []
theorem ui{e:Int}{l:List Int}(h:e=0):sj e l=l:=az h
theorem BO{e:Int}{l:List Int}(h:¬e=0):sj e l=[]:=aB h
theorem aa9{R:AV→Hp→Prop}(fr:Hp){acc σ:Hp}{s:Sh}{k:Nat}{v y:AV}{cs:List AV}{l:List s.T}(h:Acc s.size k v acc cs)(hl:k=l.length)(hc:cs=l.flatMap s.cells)(hp:0<s.size)(go:Fin R (.tup [.ae s l,y]) (fr++σ)):Fin R (.tup [v,y]) (fr++(acc++σ)):=by
 subst hl;have hlen:=h.length;refine .perm (ew fr acc σ) ?_;generalize hk:l.length=k at h;cases h with
 |nil=>
  obtain rfl:=fE.1 hk;exact .nil (bZ (.nil _) (.refl _)) go
 |af b k cs h=>
  subst hk;exact .cb 0 b 0 l.length s.size cs s l rfl (by rw[fy,dZ (by omega)];exact hc) ⟨rfl,rfl,hp⟩ (bZ .here (.refl _)) go
theorem To(what w:Int)(xs ys:List Int)(σ:Hp)(hx:bC xs)(hy:bC ys)(lx:xs.length≤1000000)(ly:ys.length≤1000000):ACalls Tryz.prog 243 [.int .i64 what,.int .i64 w,.ae (.int .u64) xs,.ae (.int .u64) ys] σ (ay (.tup [.ae (.int .u64) (sj (qK what w [xs,ys]) (gl what xs ys)),.int .i64 (qK what w [xs,ys])]) σ):=by
 refine ao Tryz.func243 ?_;intro b1
 have mB:∀a∈[xs,ys],bC a∧a.length≤1000000:=by
  intro a ha
  rcases dW.1 ha with rfl | ha
  ·exact⟨hx,lx⟩
  ·rw[bj.1 ha];exact⟨hy,ly⟩
 refine .cb (args':=[.int .i64 what,.int .i64 w,.ae (.slice (.int .u64)) [xs,ys]]) 0 b1 0 2 1 _ (.slice (.int .u64)) [xs,ys] rfl rfl ⟨rfl,rfl,by decide⟩ (bZ (.refl _) (bZ (.refl _) (bZ .here sU))) (aw [] (ad2 what w [xs,ys] _ (by show 2≤1000000;omega) mB) ?_);have hL:=fun (h:qK what w [xs,ys]=0)=>YH h;generalize qK what w [xs,ys]=e at hL ⊢;refine cO (fun c=>?_) (fun c=>?_)
 ·have c:¬(e=0):=by simpa using c
  exact .nil (bZ (.nil _) (.refl _)) (.done ⟨by rw[BO c];rfl,rfl⟩)
 ·have c:e=0:=by simpa using c
  obtain⟨v1,v2⟩:=hL c;have h:xs.length=ys.length:=by have h1:=zp v1;have h2:=zp v2;omega
  refine .wrap 11 _ rfl rfl ?_;refine bc (S:=Nat×AV×Hp) (fun s=>[(0,.int .i64 what),(2,.ae (.int .u64) xs),(3,.ae (.int .u64) ys),(11,.via s.2.1),(23,.int .i64 xs.length),(24,.int .i64 s.1)]) (fun s=>s.2.2++σ) (fun s=>s.1≤xs.length∧Acc 1 s.1 s.2.1 s.2.2 (aU ((gl what xs ys).take s.1))) (fun s=>xs.length-s.1) (0,.ag,[]) ⟨⟨aV _,.nil⟩,⟨rfl,rfl,rfl,rfl,rfl,rfl,trivial⟩,rfl⟩ ?_;rintro⟨k,v,acc⟩ g ⟨aK,fX⟩;have hk:k≤xs.length:=aK;have bF:Acc 1 k v acc (aU ((gl what xs ys).take k)):=fX;clear aK fX;have rj:=Vi what xs ys h;refine ai (fun ab=>?_) (fun ak=>?_)
  ·have ab:k<xs.length:=by have ab:(k:Int)<xs.length:=ab;omega
   have da:k<ys.length:=by omega
   have hje:(gl what xs ys)[k]'(by omega)=kc what xs[k] ys[k]:=by simp[gl]
   refine .sched [10] (upto [10] 14 0) (by kernel_rfl) ?_;refine aF.mk rfl ?_;refine aY.mk xs[k] (by omega) (get_some ab) ?_;refine aF.mk rfl ?_;refine aY.mk ys[k] (by omega) (get_some da) ?_;refine aN [] (K0 what xs[k] ys[k] _) ?_;intro ax;refine eS [_] bF (.af 0 ax 0 1 _ rfl (cj rfl)) rfl (by omega) (by decide) (by decide) (fun v' aJ h'=>?_);refine aM (k+1,v',aJ) (by show xs.length-(k+1)<xs.length-k;omega) ⟨ab,?_⟩ ⟨rfl,rfl,rfl,rfl,rfl,aI (by omega),trivial⟩ (.drop 0 1 (aL rfl));show Acc 1 (k+1) v' aJ (aU ((gl what xs ys).take (k+1)));rw[eM (by omega),hje,aU,cE];exact h'
  ·have ak:k=xs.length:=by have ak:¬(k:Int)<xs.length:=ak;omega
   subst ak;rw[dZ (vG rj)]at bF;exact aa9 (s:=.int .u64) (l:=gl what xs ys) [] bF rj.symm (by rw[nz]) (by decide) (.done ⟨by rw[ui c,c];rfl,rfl⟩)
theorem JW{what:Int}:∀{xs ys:List Int},bC xs→bC ys→bC (gl what xs ys)
 | [],_,_,_=>fun z hz=>by simp[gl]at hz
 |_::_,[],_,_=>fun z hz=>by simp[gl]at hz
 |x::xs,y::ys,hx,hy=>fun z hz=>by
  rcases dW.1 (show z∈kc what x y::gl what xs ys from hz) with rfl | hz
  ·exact RB (hx _ (cF ..)) (hy _ (cF ..))
  ·exact JW (fun a ha=>hx a (dq _ ha)) (fun a ha=>hy a (dq _ ha)) z hz
def Cc(what w:Int)(xs ys:List Int):Bool:=decide (qK what w [xs,ys]=0)&&decide (gl what xs ys=ys)
theorem join_le(what:Int)(xs ys:List Int):(gl what xs ys).length≤xs.length:=by unfold gl;rw[D6];omega
theorem ad3(what w:Int)(xs ys:List Int)(σ:Hp)(hx:bC xs)(hy:bC ys)(lx:xs.length≤1000000)(ly:ys.length≤1000000):ACalls Tryz.prog 194 [.int .i64 what,.int .i64 w,.ae (.int .u64) xs,.ae (.int .u64) ys] σ (ay (.bool (Cc what w xs ys)) σ):=by
 refine ao Tryz.func194 ?_;unfold Cc;have hj:=join_le what xs ys;refine aw [] (To what w xs ys _ hx hy lx ly) ?_;generalize qK what w [xs,ys]=e;refine ai (fun c=>?_) (fun c=>?_)
 ·have c:e=0:=c;rw[ui c,aX c];refine aw [] (Sv _ _ _ (by omega)) ?_;exact .done ⟨rfl,rfl⟩
 ·have c:¬e=0:=c;rw[cp c];exact .done ⟨rfl,rfl⟩
def iq(what w:Int):List Int:=if what=2∧df what w=true then fu w else List.replicate (ez what w).toNat 0
theorem Fk(what w:Int)(σ:Hp):ACalls Tryz.prog 149 [.int .i64 what,.int .i64 w] σ (ay (.ae (.int .u64) (iq what w)) σ):=by
 refine ao Tryz.func149 ?_;have hw:=xQ what w
 have hz:iq what w=List.replicate (ez what w).toNat 0→∀q,Fin (ay (.ae (.int .u64) (iq what w)) σ) (.af q 0 (ez what w).toNat 1) ((q,cP [.int .u64 0] (ez what w).toNat)::σ):=fun hb q=>by
  rw[zt,← hb];have hl:(iq what w).length=(ez what w).toNat:=by rw[hb,gh]
  generalize iq what w=Z at hl;refine .cb 0 q 0 _ 1 _ (.int .u64) Z rfl ?_ ⟨hl,rfl,by decide⟩ .here (.done ⟨rfl,rfl⟩);rw[fy,← nz];exact dZ (by rw[aU,cN,hl];omega)
 refine ai (fun c=>?_) (fun c=>?_)
 ·have c:what=2:=c;refine dc [] (C3 what w _) (fun hi=>?_) (fun hi=>?_)
  ·refine aw [] (Uf w _) ?_;have hb:iq what w=fu w:=az ⟨c,hi⟩;rw[hb];exact .done ⟨rfl,rfl⟩
  ·refine aw [] (FM what w _) ?_;refine a8 ?_;intro q;exact hz (aB fun h=>Bool.noConfusion (hi.symm.trans h.2)) q
 ·have c:¬what=2:=c;refine aw [] (FM what w _) ?_;refine a8 ?_;intro q;exact hz (aB fun h=>c h.1) q
def LU(x y:Int):Bool:=decide (x=aT x)&&decide (y=aT y)
def pP(w:Int)(r:oY):Bool:=if r.1 = -1 then LU r.2.1.1 r.2.1.2.1 else decide (0≤r.1)&&decide (r.1<w)&&(decide (r.2.1.1=0)&&decide (r.2.1.2.1=0))
theorem Io(x y:Int):eP (oP (nC x y) (nC 0 0))=(decide (x=0)&&decide (y=0)):=by
 show (decide (x=0)&&(decide (y=0)&&true))=_;rw[DT]
theorem Ub(w:Int)(r:oY)(σ:Hp):ACalls Tryz.prog 254 [.int .i64 w,.agg (CE r)] σ (ay (.bool (pP w r)) σ):=by
 obtain⟨v,⟨x,y,u⟩,u2⟩:=r;refine ao Tryz.func254 ?_;unfold pP;show ta Tryz.prog tt _ [.int .i64 w,.agg [.int .i64 v,.int .i64 x,.int .i64 y]] σ (ay (.bool (if v = -1 then LU x y else decide (0≤v)&&decide (v<w)&&(decide (x=0)&&decide (y=0)))) σ);intro ax;refine aa 0 ?_;refine ai (fun c2=>?_) (fun c2=>?_)
 ·have c2:v = -1:=c2;refine aa 0 ?_;refine aw [] (agF _ _ _) ?_;exact .drop 0 1 (.done ⟨bJ (by rw[az c2];rfl),rfl⟩)
 ·have c2:¬(v = -1):=c2;refine aa 0 ?_;refine ai (fun c3=>?_) (fun c3=>?_)
  ·have c3:0≤v:=c3;refine aa 0 ?_;refine ai (fun c4=>?_) (fun c4=>?_)
   ·have c4:v<w:=c4;refine aa 0 ?_;refine EqAt.mk (by kernel_rfl) (by kernel_rfl) ?_;refine cO (fun c5=>?_) (fun c5=>?_)
    ·have c5:=(Io x y).symm.trans c5;exact .drop 0 1 (.done ⟨bJ (by rw[aB c2,aX c3,aX c4,c5];rfl),rfl⟩)
    ·have c5:=(Io x y).symm.trans c5;exact .drop 0 1 (.done ⟨bJ (by rw[aB c2,aX c3,aX c4,c5];rfl),rfl⟩)
   ·have c4:¬(v<w):=c4;exact .drop 0 1 (.done ⟨bJ (by rw[aB c2,aX c3,cp c4];rfl),rfl⟩)
  ·have c3:¬(0≤v):=c3;exact .drop 0 1 (.done ⟨bJ (by rw[aB c2,cp c3];rfl),rfl⟩)
theorem eqN(x y z w:Int):eP (oP (nC x y) (nC z w))=(decide (x=z)&&decide (y=w)):=by
 show (decide (x=z)&&(decide (y=w)&&true))=_;rw[DT]
theorem Te(w:Int)(r:oY)(σ:Hp):ACalls Tryz.prog 164 [.int .i64 w,.agg (CE r)] σ (ay (.bool (pP w r)) σ):=by
 obtain⟨v,⟨x,y,u⟩,u2⟩:=r;refine ao Tryz.func164 ?_;unfold pP;show ta Tryz.prog tt _ [.int .i64 w,.agg [.int .i64 v,.int .i64 x,.int .i64 y]] σ (ay (.bool (if v = -1 then LU x y else decide (0≤v)&&decide (v<w)&&(decide (x=0)&&decide (y=0)))) σ);intro ax;refine aa 0 ?_;refine ai (fun c2=>?_) (fun c2=>?_)
 ·have c2:v = -1:=c2;refine .quiet (by kernel_rfl) ?_;refine aa 0 ?_;refine aa 0 ?_;refine aa 0 ?_;refine aN [] (afR _ _ _) ?_;refine EqAt.mk (by kernel_rfl) (by kernel_rfl) ?_;refine cO (fun c3=>?_) (fun c3=>?_)
  ·have c3:=(eqN x y (aT x) (aT y)).symm.trans c3;exact .drop 0 1 (.done ⟨bJ (by rw[az c2];exact c3.symm),rfl⟩)
  ·have c3:=(eqN x y (aT x) (aT y)).symm.trans c3;exact .drop 0 1 (.done ⟨bJ (by rw[az c2];exact c3.symm),rfl⟩)
 ·have c2:¬(v = -1):=c2;refine aa 0 ?_;refine ai (fun c4=>?_) (fun c4=>?_)
  ·have c4:0≤v:=c4;refine aa 0 ?_;refine ai (fun c5=>?_) (fun c5=>?_)
   ·have c5:v<w:=c5;refine aa 0 ?_;refine EqAt.mk (by kernel_rfl) (by kernel_rfl) ?_;refine cO (fun c6=>?_) (fun c6=>?_)
    ·have c6:=(Io x y).symm.trans c6;exact .drop 0 1 (.done ⟨bJ (by rw[aB c2,aX c4,aX c5,c6];rfl),rfl⟩)
    ·have c6:=(Io x y).symm.trans c6;exact .drop 0 1 (.done ⟨bJ (by rw[aB c2,aX c4,aX c5,c6];rfl),rfl⟩)
   ·have c5:¬(v<w):=c5;exact .drop 0 1 (.done ⟨bJ (by rw[aB c2,aX c4,cp c5];rfl),rfl⟩)
  ·have c4:¬(0≤v):=c4;exact .drop 0 1 (.done ⟨bJ (by rw[aB c2,cp c4];rfl),rfl⟩)
def r8(r:oY):Bool:=decide (r.1=0)&&(decide (r.2.1.1=0)&&decide (r.2.1.2.1=0))
theorem xC(r:oY):eP (oP (CE r) [.int .i64 0,.int .i64 0,.int .i64 0])=r8 r:=by
 show (decide (r.1=0)&&(decide (r.2.1.1=0)&&(decide (r.2.1.2.1=0)&&true)))=_;rw[DT];rfl
def eD(w:Int)(c:dN):Bool:=if c.1<0 then false else if w≤c.1 then false else if c.2.1 < -1 then false else if 4<c.2.1 then false else if c.2.1 = -1 then r8 c.2.2.1&&r8 c.2.2.2.1 else pP w c.2.2.1&&pP w c.2.2.2.1
theorem ael(w:Int)(c:dN)(σ:Hp):ACalls Tryz.prog 209 [.int .i64 w,.agg (TY c)] σ (ay (.bool (eD w c)) σ):=by
 refine ao Tryz.func209 ?_;intro ax;refine aa 0 ?_;refine ai (fun c2=>?_) (fun c2=>?_)
 ·have c2:c.fst<0:=c2;exact .drop 0 1 (.done ⟨bJ (by simp[eD, *]),rfl⟩)
 ·have c2:¬(c.fst<0):=c2;refine aa 0 ?_;refine ai (fun c3=>?_) (fun c3=>?_)
  ·have c3:w≤c.fst:=c3;exact .drop 0 1 (.done ⟨bJ (by simp[eD, *]),rfl⟩)
  ·have c3:¬(w≤c.fst):=c3;refine aa 0 ?_;refine ai (fun c4=>?_) (fun c4=>?_)
   ·have c4:c.snd.fst < -1:=c4;exact .drop 0 1 (.done ⟨bJ (by simp[eD, *]),rfl⟩)
   ·have c4:¬(c.snd.fst < -1):=c4;refine aa 0 ?_;refine ai (fun c5=>?_) (fun c5=>?_)
    ·have c5:4<c.snd.fst:=c5;exact .drop 0 1 (.done ⟨bJ (by simp[eD, *]),rfl⟩)
    ·have c5:¬(4<c.snd.fst):=c5;refine aa 0 ?_;refine ai (fun c6=>?_) (fun c6=>?_)
     ·have c6:c.snd.fst = -1:=c6;refine aa 0 ?_;refine EqAt.mk (by kernel_rfl) (by kernel_rfl) ?_;refine cO (fun c7=>?_) (fun c7=>?_)
      ·have c7:=(xC c.2.2.1).symm.trans c7;refine aa 0 ?_;refine EqAt.mk (by kernel_rfl) (by kernel_rfl) ?_;refine cO (fun c8=>?_) (fun c8=>?_)
       ·have c8:=(xC c.2.2.2.1).symm.trans c8;exact .drop 0 1 (.done ⟨bJ (by simp[eD, *]),rfl⟩)
       ·have c8:=(xC c.2.2.2.1).symm.trans c8;exact .drop 0 1 (.done ⟨bJ (by simp[eD, *]),rfl⟩)
      ·have c7:=(xC c.2.2.1).symm.trans c7;exact .drop 0 1 (.done ⟨bJ (by simp[eD, *]),rfl⟩)
     ·have c6:¬(c.snd.fst = -1):=c6;refine aa 0 ?_;refine dc [] (Ub w c.2.2.1 _) (fun cA=>?_) (fun cA=>?_)
      ·refine aa 0 ?_;refine dc [] (Ub w c.2.2.2.1 _) (fun cB=>?_) (fun cB=>?_)
       ·exact .drop 0 1 (.done ⟨bJ (by simp[eD, *]),rfl⟩)
       ·exact .drop 0 1 (.done ⟨bJ (by simp[eD, *]),rfl⟩)
      ·exact .drop 0 1 (.done ⟨bJ (by simp[eD, *]),rfl⟩)
abbrev j9:Sh:=.field (.slice (.int .u64)) (.field (.slice (.int .u64)) (.field (.slice jg) .nil))
abbrev Da(g k:List Int)(l:List dN):List AV:=[.ae (.int .u64) g,.ae (.int .u64) k,.ae jg l]
theorem ab7(w:Int)(c:dN)(q:Nat)(σ:Hp):ACalls Tryz.prog 208 [Gw c,.ptr q 0] ((q,[.int .i64 w])::σ) (ay (.bool (!eD w c)) ((q,[.int .i64 w])::σ)):=by
 refine ao Tryz.func208 ?_;unfold Gw;intro ax;refine aa 1 ?_;refine aa 0 ?_;refine aw [] (ael w c _) ?_;exact .drop 0 1 (.done ⟨rfl,rfl⟩)
def wI(what w:Int)(g k:List Int)(l:List dN):Bool:=if what=3 then decide (g.length+k.length=0)&&(l.all (eD w)) else decide (l.length=0)&&fw g w&&fw k w
def fm(what w:Int)(g k:List Int)(l:List dN):Int:=if df what w=true then (if wI what w g k l=true then 0 else 2) else 10
theorem B0{α:Type}(l:List α){p:α→Bool}:l.all p = !l.any fun c=> !p c:=List.all_eq_not_any_not ..
theorem T8{w:Int}(l:List dN){b:Bool}(h:(l.any fun c=> !eD w c)=b):l.all (eD w) = !b:=by rw[B0,h]
theorem CY{what w:Int}{g k:List Int}{l:List dN}(hi:df what w=true)(ht:wI what w g k l=true):0=fm what w g k l:=by unfold fm;rw[az hi,az ht]
theorem ki{what w:Int}{g k:List Int}{l:List dN}(hi:df what w=true)(ht:wI what w g k l=false):2=fm what w g k l:=by unfold fm;rw[az hi,ht];rfl
theorem Gy{what w:Int}{g k:List Int}{l:List dN}(hi:df what w=false):10=fm what w g k l:=by unfold fm;rw[hi];rfl
theorem qa{what w:Int}{g k:List Int}{l:List dN}(h:¬what=3):wI what w g k l=(decide (l.length=0)&&fw g w&&fw k w):=aB h
theorem uW{what w:Int}{g k:List Int}{l:List dN}(h:what=3):wI what w g k l=(decide (g.length+k.length=0)&&(l.all (eD w))):=az h
theorem qJ{what w:Int}(h:1≤what∧what≤3∧0≤w∧w≤1024):df what w=true:=by unfold df;simp;omega
theorem KN{what w:Int}(h:¬(1≤what∧what≤3∧0≤w∧w≤1024)):df what w=false:=by unfold df;simp;omega
theorem Ka(what w:Int)(g k:List Int)(l:List dN)(σ:Hp)(hg:bC g)(hk:bC k)(lg:g.length≤10000)(lk:k.length≤10000)(ll:l.length≤1000000):ACalls Tryz.prog 151 [.int .i64 what,.int .i64 w,.agg (Da g k l)] σ (ay (.int .i64 (fm what w g k l)) σ):=by
 refine ao Tryz.func151 ?_;intro ax;intro bX;refine aa 1 ?_;refine ai (fun c3=>?_) (fun c3=>?_)
 ·have c3:w<0:=c3;exact .drop 0 2 (.done ⟨aQ (Gy (KN (by omega))),rfl⟩)
 ·have c3:¬(w<0):=c3;refine aa 1 ?_;refine ai (fun c4=>?_) (fun c4=>?_)
  ·have c4:1024<w:=c4;exact .drop 0 2 (.done ⟨aQ (Gy (KN (by omega))),rfl⟩)
  ·have c4:¬(1024<w):=c4;refine ai (fun c5=>?_) (fun c5=>?_)
   ·have c5:what=1:=c5;refine aa 0 ?_;refine aa 1 ?_;refine dc [] (B1 g w _ hg lg) (fun cG=>?_) (fun cG=>?_)
    ·refine aa 0 ?_;refine aa 1 ?_;refine dc [] (B1 k w _ hk lk) (fun cK=>?_) (fun cK=>?_)
     ·refine aa 0 ?_;refine ai (fun c6=>?_) (fun c6=>?_)
      ·have c6:(↑l.length:Int)=0:=c6;have gY:decide (l.length=0)=true:=aX (by have h0:(l.length:Int)=0:=c6;omega);exact .drop 0 2 (.done ⟨aQ (CY (qJ (by omega)) (by rw[qa (by omega),gY,cG,cK];rfl)),rfl⟩)
      ·have c6:¬((↑l.length:Int)=0):=c6;have gY:decide (l.length=0)=false:=cp (by have h0:¬(l.length:Int)=0:=c6;omega);exact .drop 0 2 (.done ⟨aQ (ki (qJ (by omega)) (by rw[qa (by omega),gY];rfl)),rfl⟩)
     ·exact .drop 0 2 (.done ⟨aQ (ki (qJ (by omega)) (by rw[qa (by omega),cK];simp)),rfl⟩)
    ·exact .drop 0 2 (.done ⟨aQ (ki (qJ (by omega)) (by rw[qa (by omega),cG];simp)),rfl⟩)
   ·have c5:¬(what=1):=c5;refine ai (fun c7=>?_) (fun c7=>?_)
    ·have c7:what=2:=c7;refine aa 0 ?_;refine aa 1 ?_;refine dc [] (B1 g w _ hg lg) (fun cG=>?_) (fun cG=>?_)
     ·refine aa 0 ?_;refine aa 1 ?_;refine dc [] (B1 k w _ hk lk) (fun cK=>?_) (fun cK=>?_)
      ·refine aa 0 ?_;refine ai (fun c8=>?_) (fun c8=>?_)
       ·have c8:(↑l.length:Int)=0:=c8;have gY:decide (l.length=0)=true:=aX (by have h0:(l.length:Int)=0:=c8;omega);exact .drop 0 2 (.done ⟨aQ (CY (qJ (by omega)) (by rw[qa (by omega),gY,cG,cK];rfl)),rfl⟩)
       ·have c8:¬((↑l.length:Int)=0):=c8;have gY:decide (l.length=0)=false:=cp (by have h0:¬(l.length:Int)=0:=c8;omega);exact .drop 0 2 (.done ⟨aQ (ki (qJ (by omega)) (by rw[qa (by omega),gY];rfl)),rfl⟩)
      ·exact .drop 0 2 (.done ⟨aQ (ki (qJ (by omega)) (by rw[qa (by omega),cK];simp)),rfl⟩)
     ·exact .drop 0 2 (.done ⟨aQ (ki (qJ (by omega)) (by rw[qa (by omega),cG];simp)),rfl⟩)
    ·have c7:¬(what=2):=c7;refine ai (fun c9=>?_) (fun c9=>?_)
     ·have c9:what=3:=c9;refine aa 0 ?_;refine aa 0 ?_;refine ai (fun jL=>?_) (fun jL=>?_)
      ·have jL:IntKind.i64.wrap ((↑g.length:Int)+(↑k.length:Int))=0:=jL;refine aa 0 ?_;rw[jF (by omega)]at jL;refine dc [1] (Xz 208 [.ptr ax 0] l (fun c=> !eD w c) _ ll (fun i hi=>ab7 w l[i] ax _)) (fun cL=>?_) (fun cL=>?_)
       ·exact .drop 0 2 (.done ⟨aQ (ki (qJ (by omega)) (by rw[uW c9,T8 l cL];simp)),rfl⟩)
       ·exact .drop 0 2 (.done ⟨aQ (CY (qJ (by omega)) (by rw[uW c9,T8 l cL,aX (by omega)];rfl)),rfl⟩)
      ·have jL:¬(IntKind.i64.wrap ((↑g.length:Int)+(↑k.length:Int))=0):=jL;exact .drop 0 2 (.done ⟨aQ (ki (qJ (by omega)) (by rw[jF (by omega)]at jL;rw[uW c9,cp (by omega)];rfl)),rfl⟩)
     ·have c9:¬(what=3):=c9;exact .drop 0 2 (.done ⟨aQ (Gy (KN (by omega))),rfl⟩)
theorem aaE(what w:Int)(g k:List Int)(l:List dN)(σ:Hp)(hg:bC g)(hk:bC k)(lg:g.length≤10000)(lk:k.length≤10000)(ll:l.length≤1000000):ACalls Tryz.prog 114 [.int .i64 what,.int .i64 w,.agg (Da g k l)] σ (ay (.int .i64 (fm what w g k l)) σ):=by
 refine ao Tryz.func114 ?_;intro ax;refine dc [] (C2 what w _) (fun hi=>?_) (fun hi=>?_)
 ·refine cO (fun c2=>?_) (fun c2=>?_)
  ·have c2:¬(what=3):=by simpa using c2
   refine aa 0 ?_;refine ai (fun c3=>?_) (fun c3=>?_)
   ·have c3:0<(↑l.length:Int):=c3;exact .drop 0 1 (.done ⟨aQ (ki hi (by rw[qa c2,cp (p:=l.length=0) (by have c3:0<(l.length:Int):=c3;omega)];rfl)),rfl⟩)
   ·have c3:¬(0<(↑l.length:Int)):=c3;refine aa 0 ?_;refine dc [] (KA g w _ hg) (fun cG=>?_) (fun cG=>?_)
    ·refine aa 0 ?_;refine dc [] (KA k w _ hk) (fun cK=>?_) (fun cK=>?_)
     ·exact .drop 0 1 (.done ⟨aQ (CY hi (by rw[qa c2,cG,cK,aX (p:=l.length=0) (by have c3:¬0<(l.length:Int):=c3;omega)];rfl)),rfl⟩)
     ·exact .drop 0 1 (.done ⟨aQ (ki hi (by rw[qa c2,cK];simp)),rfl⟩)
    ·exact .drop 0 1 (.done ⟨aQ (ki hi (by rw[qa c2,cG];simp)),rfl⟩)
  ·have c2:what=3:=by simpa using c2
   refine aa 0 ?_;refine ai (fun c4=>?_) (fun c4=>?_)
   ·have c4:0<(↑g.length:Int):=c4;exact .drop 0 1 (.done ⟨aQ (ki hi (by rw[uW c2,cp (p:=g.length+k.length=0) (by have c4:0<(g.length:Int):=c4;omega)];rfl)),rfl⟩)
   ·have c4:¬(0<(↑g.length:Int)):=c4;refine aa 0 ?_;refine ai (fun c5=>?_) (fun c5=>?_)
    ·have c5:0<(↑k.length:Int):=c5;exact .drop 0 1 (.done ⟨aQ (ki hi (by rw[uW c2,cp (p:=g.length+k.length=0) (by have c5:0<(k.length:Int):=c5;omega)];rfl)),rfl⟩)
    ·have c5:¬(0<(↑k.length:Int)):=c5;refine aa 0 ?_
     have Mp:g.length+k.length=0:=by
      have c4:¬0<(g.length:Int):=c4;have c5:¬0<(k.length:Int):=c5;omega
     refine bc (S:=Nat) (fun s=>[(1,.int .i64 w),(44,.ae jg l),(45,.int .i64 l.length),(46,.int .i64 s)]) (fun _=>(ax,Da g k l)::σ) (fun s=>s≤l.length∧(l.take s).all (eD w)=true) (fun s=>l.length-s) 0 ⟨⟨aV _,rfl⟩,⟨rfl,rfl,rfl,rfl,trivial⟩,rfl⟩ ?_;rintro s t ⟨oc,ep⟩;have hs:s≤l.length:=oc;have hn:(l.take s).all (eD w)=true:=ep;clear oc ep;refine ai (fun ab=>?_) (fun ak=>?_)
     ·have ab:s<l.length:=by have ab:(s:Int)<l.length:=ab;omega
      have hb:eD w l[s]=false→wI what w g k l=false:=fun h=>by
       rw[uW c2,show l.all (eD w)=false from List.all_eq_false.2 ⟨l[s],List.getElem_mem ab,by rw[h];decide⟩];simp
      have hy:eD w l[s]=true→(l.take (s+1)).all (eD w)=true:=fun h=>by
       rw[List.take_succ_eq_append_getElem ab,List.all_append,hn];simp[h]
      obtain⟨c,hc⟩:∃c:dN,l[s]=c:=⟨_,rfl⟩
      rw[hc]at hb hy;refine aF.mk rfl (aY.mk c (by omega) ((get_some ab).trans (congrArg some hc)) ?_);clear hc;intro bX;refine ah 0 ?_;refine aa 0 ?_;refine ai (fun c1=>?_) (fun c1=>?_)
      ·have c1:c.fst<0:=c1;exact .drop 0 2 (.done ⟨aQ (ki hi (hb (by simp[eD, *]))),rfl⟩)
      ·have c1:¬(c.fst<0):=c1;refine aa 0 ?_;refine ai (fun c2=>?_) (fun c2=>?_)
       ·have c2:w≤c.fst:=c2;exact .drop 0 2 (.done ⟨aQ (ki hi (hb (by simp[eD, *]))),rfl⟩)
       ·have c2:¬(w≤c.fst):=c2;refine aa 0 ?_;refine ai (p:=c.2.1 < -1) (fun d3=>?_) (fun d3=>?_)
        ·exact .drop 0 2 (.done ⟨aQ (ki hi (hb (by simp[eD, *]))),rfl⟩)
        refine aa 0 ?_;refine ai (p:=4<c.2.1) (fun d4=>?_) (fun d4=>?_)
        ·exact .drop 0 2 (.done ⟨aQ (ki hi (hb (by simp[eD, *]))),rfl⟩)
        refine aa 0 ?_;refine ai (p:=c.2.1 = -1) (fun d5=>?_) (fun d5=>?_)
        ·refine aa 0 ?_;refine EqAt.mk (by kernel_rfl) (by kernel_rfl) ?_;refine cO (fun e1=>?_) (fun e1=>?_)
         ·have e1:(!r8 c.2.2.1)=true:=(congrArg (fun b=> !b) (xC c.2.2.1)).symm.trans e1;have e1:r8 c.2.2.1=false:=by simpa using e1
          exact .drop 0 2 (.done ⟨aQ (ki hi (hb (by simp[eD, *]))),rfl⟩)
         ·have e1:(!r8 c.2.2.1)=false:=(congrArg (fun b=> !b) (xC c.2.2.1)).symm.trans e1;have e1:r8 c.2.2.1=true:=by simpa using e1
          refine aa 0 ?_;refine EqAt.mk (by kernel_rfl) (by kernel_rfl) ?_;refine cO (fun e2=>?_) (fun e2=>?_)
          ·have e2:(!r8 c.2.2.2.1)=true:=(congrArg (fun b=> !b) (xC c.2.2.2.1)).symm.trans e2;have e2:r8 c.2.2.2.1=false:=by simpa using e2
           exact .drop 0 2 (.done ⟨aQ (ki hi (hb (by simp[eD, *]))),rfl⟩)
          ·have e2:(!r8 c.2.2.2.1)=false:=(congrArg (fun b=> !b) (xC c.2.2.2.1)).symm.trans e2;have e2:r8 c.2.2.2.1=true:=by simpa using e2
           refine aa 0 ?_;refine ai (p:=0≤c.2.1) (fun d6=>?_) (fun d6=>?_)
           ·exact absurd d6 (by rw[d5];decide)
           ·exact aM (s+1) (by show l.length-(s+1)<l.length-s;omega) ⟨ab,hy (by first | (simp[eD, *];done) | omega)⟩ ⟨rfl,rfl,rfl,aI (by omega),trivial⟩ (.drop 0 1 (.refl _))
        ·refine aa 0 ?_;refine ai (p:=0≤c.2.1) (fun d6=>?_) (fun d6=>?_)
         ·refine aa 0 ?_;refine dc [] (Te w c.2.2.1 _) (fun cA=>?_) (fun cA=>?_)
          ·refine aa 0 ?_;refine dc [] (Te w c.2.2.2.1 _) (fun cB=>?_) (fun cB=>?_)
           ·exact aM (s+1) (by show l.length-(s+1)<l.length-s;omega) ⟨ab,hy (by first | (simp[eD, *];done) | omega)⟩ ⟨rfl,rfl,rfl,aI (by omega),trivial⟩ (.drop 0 1 (.refl _))
           ·exact .drop 0 2 (.done ⟨aQ (ki hi (hb (by simp[eD, *]))),rfl⟩)
          ·exact .drop 0 2 (.done ⟨aQ (ki hi (hb (by simp[eD, *]))),rfl⟩)
         ·exact absurd d6 (by omega)
     ·have ak:s=l.length:=by have ak:¬(s:Int)<l.length:=ak;omega
      subst ak;rw[er]at hn;exact .drop 0 1 (.done ⟨aQ (CY hi (by rw[uW c2,hn,aX Mp];rfl)),rfl⟩)
 ·exact .drop 0 1 (.done ⟨aQ (Gy hi),rfl⟩)
end Go.Proofs.YtnikdflhefijbaaGreat
