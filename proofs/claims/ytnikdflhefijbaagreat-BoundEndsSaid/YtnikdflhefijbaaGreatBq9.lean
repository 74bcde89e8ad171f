import Derived.Test.YtnikdflhefijbaaGreatBq8
import Derived.Test.YtnikdflhefijbaaGreatBq6
import Derived.Test.YtnikdflhefijbaaGreatBq7
namespace Go.Proofs.YtnikdflhefijbaaGreat
open Go.RowKit
set_option maxRecDepth 100000
def nT(l:List Int):Int:=if (l.any fun w=>decide (aM w=0)) then 0 else if (l.any fun w=>decide (aM w=1)) then 1 else 2
theorem Zf(l:List Int)(w:Int)(h:(l.any fun w=>decide (aM w=0))=false):nT (l++[w])=if aM w=0 then 0 else if aM w=1 then 1 else nT l:=by
 unfold nT;rw[gu5,gu5,h]
 by_cases h0:aM w=0
 ·simp[h0]
 ·by_cases h1:aM w=1
  ·simp[h1]
  ·simp[h0,h1]
theorem Ze(l:List Int){w:Int}(hm:w∈l)(h:aM w=0):nT l=0:=by
 unfold nT;rw[af];exact mW.2 ⟨w,hm,bu h⟩
theorem NL(l:List Int)(σ:Hp)(hl:l.length≤100000):ACalls Tryz.prog 343 [.ah (.int .u64) l] σ (aC (.int .u64 (nT l)) σ):=by
 refine ay Tryz.func343 ?_;refine ca (S:=Nat) (fun s=>[(3,.int .u64 (nT (l.take s))),(6,.ah (.int .u64) l),(7,.int .i64 l.length),(8,.int .i64 s)]) (fun _=>σ) (fun s=>s≤l.length∧((l.take s).any fun w=>decide (aM w=0))=false) (fun s=>l.length-s) 0 ⟨⟨bC _,rfl⟩,⟨rfl,rfl,rfl,rfl,trivial⟩,rfl⟩ ?_;rintro k g ⟨aP,iv⟩;have hk:k≤l.length:=aP;have hz:((l.take k).any fun w=>decide (aM w=0))=false:=iv;clear aP iv;refine ao (fun ab=>?_) (fun au=>?_)
 ·have ab:k<l.length:=by have ab:(k:Int)<l.length:=ab;omega
  have hs:=Zf (l.take k) l[k] hz;rw[← ft ab]at hs
  have fY:((l.take (k+1)).any fun w=>decide (aM w=0))=decide (aM l[k]=0):=by
   rw[List.take_succ_eq_append_getElem ab,List.any_append,hz];simp
  refine aJ.mk rfl (bO.mk l[k] (by omega) (get_some ab) ?_);refine ax [] (Oj l[k] _) ?_;refine ao (fun c1=>?_) (fun c1=>?_)
  ·have c1:aM l[k]=0:=c1;refine .fwd 1 ?_;rw[Ze l (cq ab) c1];exact .done ⟨rfl,rfl⟩
  ·have c1:¬(aM l[k]=0):=c1;refine ao (fun c2=>?_) (fun c2=>?_)
   ·have c2:aM l[k]=1:=c2;refine a8 (k+1) (by show l.length-(k+1)<l.length-k;omega) ⟨ab,by rw[fY];exact cf c1⟩ ⟨?_,rfl,rfl,aX (by omega),trivial⟩ (.refl _);rw[hs,ag c1,af c2];rfl
   ·have c2:¬(aM l[k]=1):=c2;refine a8 (k+1) (by show l.length-(k+1)<l.length-k;omega) ⟨ab,by rw[fY];exact cf c1⟩ ⟨?_,rfl,rfl,aX (by omega),trivial⟩ (.refl _);rw[hs,ag c1,ag c2];rfl
 ·have au:k=l.length:=by have au:¬(k:Int)<l.length:=au;omega
  subst au;rw[ga];exact .done ⟨rfl,rfl⟩
theorem HU{w:Int}(h0:aM w≠0)(h1:aM w≠1):eT w=true∧aM w=w:=by
 unfold aM at *
 by_cases a:w=0
 ·rw[af a]at h0;exact absurd rfl h0
 ·rw[ag a]at h0 h1 ⊢
  by_cases b:w=1
  ·rw[af b]at h1;exact absurd rfl h1
  ·rw[ag b]at h0 h1 ⊢;cases c:eT w with
   |true=>exact⟨rfl,rfl⟩
   |false=>rw[c]at h1;exact absurd rfl h1
theorem agX{op:Int}(h:op=0∨op=4)(a b c d c2 d2:Int):iV op a b c d=iV op a b c2 d2:=by
 rcases h with rfl | rfl <;> rfl
def nt(op a b:Int):Int:=match iV op (kr a) (ku a) (kr b) (ku b) with | some (x,y)=>lQ x y | none=>1
def gg(op a b:Int):Int:=if aM a=0∨aM b=0 then 0 else if aM a=1∨aM b=1 then 1 else nt op a b
def kg(op a b:Int):Int:=if op=0∨op=4 then gg op a 2 else gg op a b
theorem ah4(x y:Int):2≤lQ x y:=by have:=DN x y;unfold lQ;omega
theorem ah3(x y:Int):eT (lQ x y)=true:=by
 have h1:=DN x y;have h2:=HO x y;unfold eT lQ;simp;omega
theorem norm_num{w:Int}(h:eT w=true):aM w=w:=by
 have:=Mt h;unfold aM;rw[ag this.1,ag this.2,af h]
theorem aeZ{op:Int}(h:op=0∨op=4)(a b c:Int):nt op a b=nt op a c:=by
 unfold nt;rw[agX h (kr a) (ku a) (kr b) (ku b) (kr c) (ku c)]
theorem DS:aM 2=2:=by decide
theorem Hf{op:Int}(a b:Int)(h:op=0∨op=4):kg op a b=if nT [a]=2 then nt op a b else nT [a]:=by
 unfold kg gg nT;rw[af h,DS,aeZ h a b 2]
 by_cases h0:aM a=0
 ·simp[h0]
 ·by_cases h1:aM a=1
  ·simp[h1]
  ·simp[h0,h1]
theorem RR{op:Int}(a b:Int)(h:¬(op=0∨op=4)):kg op a b=if nT [a,b]=2 then nt op a b else nT [a,b]:=by
 unfold kg gg nT;rw[ag h]
 by_cases h0:aM a=0
 ·simp[h0]
 ·by_cases h1:aM a=1
  ·by_cases g0:aM b=0
   ·simp[g0]
   ·simp[h1,g0]
  ·by_cases g0:aM b=0
   ·simp[g0]
   ·by_cases g1:aM b=1
    ·simp[h0,g1]
    ·simp[h0,h1,g0,g1]
theorem ak0(op a b:Int)(σ:Hp)(ha:bK a)(hb:bK b):ACalls Tryz.prog 332 [.int .i64 op,.int .u64 a,.int .u64 b] σ (aC (.int .u64 (kg op a b)) σ):=by
 refine ay Tryz.func332 ?_;intro aF;refine .cN (args':=[.ah (.int .u64) [a,b]]) 0 aF 0 2 1 _ (.int .u64) [a,b] rfl rfl ⟨rfl,rfl,by decide⟩ (eF .here zE) (ax [] (NL [a,b] _ (by show 2≤100000;omega)) ?_);refine ao (fun c1=>?_) (fun c1=>?_)
 ·have c1:op=0:=c1;intro dJ;refine .cN (args':=[.ah (.int .u64) [a]]) 0 dJ 0 1 1 _ (.int .u64) [a] rfl rfl ⟨rfl,rfl,by decide⟩ (eF .here zE) (ax [] (NL [a] _ (by show 1≤100000;omega)) ?_);generalize hL:nT [a]=L;refine dX (fun c5=>?_) (fun c5=>?_)
  ·have c5:¬(L=2):=by simpa using c5
   rw[Hf a b (.inl c1),ag (by rw[hL];exact c5),hL];exact .done ⟨rfl,rfl⟩
  ·have c5:L=2:=by simpa using c5
   rw[Hf a b (.inl c1),af (by rw[hL];exact c5)];refine ax [] (BV a _ ha) ?_;intro p1;refine aj 0 ?_;refine ax [] (BV b _ hb) ?_;intro p2;refine aj 0 ?_;refine aa 1 ?_;refine aa 0 ?_;refine ax [] (OR op _ _ _ _ _) ?_;unfold nt;cases hr:iV op (kr a) (ku a) (kr b) (ku b) with
   |none=>
    intro p3;refine aj 0 ?_;exact .drop 0 3 (.done ⟨rfl,rfl⟩)
   |some xy=>
    obtain⟨x,y⟩:=xy;intro p3;refine aj 0 ?_;refine aa 0 ?_;refine ax [] (Jg x y _) ?_;exact .drop 0 3 (.done ⟨rfl,rfl⟩)
 ·have c1:¬(op=0):=c1;refine ao (fun c3=>?_) (fun c3=>?_)
  ·have c3:op=4:=c3;intro bl4;refine .cN (args':=[.ah (.int .u64) [a]]) 0 bl4 0 1 1 _ (.int .u64) [a] rfl rfl ⟨rfl,rfl,by decide⟩ (eF .here zE) (ax [] (NL [a] _ (by show 1≤100000;omega)) ?_);generalize hL:nT [a]=L;refine dX (fun c5=>?_) (fun c5=>?_)
   ·have c5:¬(L=2):=by simpa using c5
    rw[Hf a b (.inr c3),ag (by rw[hL];exact c5),hL];exact .done ⟨rfl,rfl⟩
   ·have c5:L=2:=by simpa using c5
    rw[Hf a b (.inr c3),af (by rw[hL];exact c5)];refine ax [] (BV a _ ha) ?_;intro p1;refine aj 0 ?_;refine ax [] (BV b _ hb) ?_;intro p2;refine aj 0 ?_;refine aa 1 ?_;refine aa 0 ?_;refine ax [] (OR op _ _ _ _ _) ?_;unfold nt;cases hr:iV op (kr a) (ku a) (kr b) (ku b) with
    |none=>
     intro p3;refine aj 0 ?_;exact .drop 0 3 (.done ⟨rfl,rfl⟩)
    |some xy=>
     obtain⟨x,y⟩:=xy;intro p3;refine aj 0 ?_;refine aa 0 ?_;refine ax [] (Jg x y _) ?_;exact .drop 0 3 (.done ⟨rfl,rfl⟩)
  ·have c3:¬(op=4):=c3;generalize hL:nT [a,b]=L;refine dX (fun c5=>?_) (fun c5=>?_)
   ·have c5:¬(L=2):=by simpa using c5
    rw[RR a b (fun h=>h.elim c1 c3),ag (by rw[hL];exact c5),hL];exact .done ⟨rfl,rfl⟩
   ·have c5:L=2:=by simpa using c5
    rw[RR a b (fun h=>h.elim c1 c3),af (by rw[hL];exact c5)];refine ax [] (BV a _ ha) ?_;intro p1;refine aj 0 ?_;refine ax [] (BV b _ hb) ?_;intro p2;refine aj 0 ?_;refine aa 1 ?_;refine aa 0 ?_;refine ax [] (OR op _ _ _ _ _) ?_;unfold nt;cases hr:iV op (kr a) (ku a) (kr b) (ku b) with
    |none=>
     intro p3;refine aj 0 ?_;exact .drop 0 3 (.done ⟨rfl,rfl⟩)
    |some xy=>
     obtain⟨x,y⟩:=xy;intro p3;refine aj 0 ?_;refine aa 0 ?_;refine ax [] (Jg x y _) ?_;exact .drop 0 3 (.done ⟨rfl,rfl⟩)
theorem j9(w:Int):aM (aM w)=aM w:=by
 by_cases h0:aM w=0
 ·rw[h0];rfl
 ·by_cases h1:aM w=1
  ·rw[h1];rfl
  ·rw[(HU h0 h1).2];exact (HU h0 h1).2
theorem SO(op a b:Int):gg op (aM a) (aM b)=gg op a b:=by
 unfold gg;rw[j9,j9]
 by_cases h0:aM a=0∨aM b=0
 ·rw[af h0,af h0]
 ·by_cases h1:aM a=1∨aM b=1
  ·rw[ag h0,af h1,ag h0,af h1]
  ·rw[ag h0,ag h1,ag h0,ag h1];have ha:=(HU (w:=a) (fun h=>h0 (.inl h)) (fun h=>h1 (.inl h))).2;have hb:=(HU (w:=b) (fun h=>h0 (.inr h)) (fun h=>h1 (.inr h))).2;rw[ha,hb]
theorem adg:lQ 0 0=2:=by decide
theorem ahG(op a b:Int)(σ:Hp)(ha:bK a)(hb:bK b):ACalls Tryz.prog 264 [.int .i64 op,.int .u64 a,.int .u64 b] σ (aC (.int .u64 (kg op a b)) σ):=by
 have na:=Ir ha;have nb:=Ir hb;obtain⟨B,hB⟩:∃B:Int,B=2:=⟨_,rfl⟩
 have wB:bK B:=by rw[hB];unfold bK;omega
 have nB:aM B=B:=by rw[hB];exact DS
 have hOf:∀σ,ACalls Tryz.prog 293 [.agg (nC 0 0)] σ (aC (.int .u64 B) σ):=fun σ=>by rw[hB,← adg];exact EK 0 0 σ
 have e04:(op=0∨op=4)→kg op a b=gg op (aM a) B:=fun h=>by unfold kg;rw[af h,← SO,DS,hB]
 clear hB;refine ay Tryz.func264 ?_;refine ax [] (I2 a _ ha.1 ha.2) ?_;refine ax [] (I2 b _ hb.1 hb.2) ?_;refine ao (fun d1=>?_) (fun d1=>?_)
 ·have d1:op=0:=d1;rw[e04 (.inl d1)];refine ax [] (hOf _) ?_;refine ao (fun c1=>?_) (fun c1=>?_)
  ·have c1:aM a=0:=c1;unfold gg;rw[j9,af (.inl c1)];exact .done ⟨rfl,rfl⟩
  ·have c1:¬aM a=0:=c1;refine ao (fun c2=>?_) (fun c2=>?_)
   ·have c2:B=0:=c2;unfold gg;rw[j9,af (.inr (nB.trans c2))];exact .done ⟨rfl,rfl⟩
   ·have c2:¬B=0:=c2;refine ao (fun c3=>?_) (fun c3=>?_)
    ·have c3:aM a=1:=c3;unfold gg;rw[j9,ag (fun h=>h.elim c1 fun h=>c2 (nB.symm.trans h)),af (.inl c3)];exact .done ⟨rfl,rfl⟩
    ·have c3:¬aM a=1:=c3;refine ao (fun c4=>?_) (fun c4=>?_)
     ·have c4:B=1:=c4;unfold gg;rw[j9,ag (fun h=>h.elim c1 fun h=>c2 (nB.symm.trans h)),af (.inr (nB.trans c4))];exact .done ⟨rfl,rfl⟩
     ·have c4:¬B=1:=c4;unfold gg;rw[j9,ag (fun h=>h.elim c1 fun h=>c2 (nB.symm.trans h)),ag (fun h=>h.elim c3 fun h=>c4 (nB.symm.trans h))];unfold nt;refine ax [] (BN (aM a) _ na) ?_;intro p1;refine aj 0 ?_;refine ax [] (BN (B) _ wB) ?_;intro p2;refine aj 0 ?_;refine aa 1 ?_;refine aa 0 ?_;refine ax [] (Ow op _ _ _ _ _) ?_;cases hr:iV op (kr (aM a)) (ku (aM a)) (kr (B)) (ku (B)) with
      |none=>
       intro p3;refine aj 0 ?_;exact .drop 0 3 (.done ⟨rfl,rfl⟩)
      |some xy=>
       obtain⟨x,y⟩:=xy;intro p3;refine aj 0 ?_;refine aa 0 ?_;refine ax [] (EK x y _) ?_;exact .drop 0 3 (.done ⟨rfl,rfl⟩)
 ·have d1:¬op=0:=d1;refine ao (fun d2=>?_) (fun d2=>?_)
  ·have d2:op=4:=d2;rw[e04 (.inr d2)];refine ax [] (hOf _) ?_;refine ao (fun c1=>?_) (fun c1=>?_)
   ·have c1:aM a=0:=c1;unfold gg;rw[j9,af (.inl c1)];exact .done ⟨rfl,rfl⟩
   ·have c1:¬aM a=0:=c1;refine ao (fun c2=>?_) (fun c2=>?_)
    ·have c2:B=0:=c2;unfold gg;rw[j9,af (.inr (nB.trans c2))];exact .done ⟨rfl,rfl⟩
    ·have c2:¬B=0:=c2;refine ao (fun c3=>?_) (fun c3=>?_)
     ·have c3:aM a=1:=c3;unfold gg;rw[j9,ag (fun h=>h.elim c1 fun h=>c2 (nB.symm.trans h)),af (.inl c3)];exact .done ⟨rfl,rfl⟩
     ·have c3:¬aM a=1:=c3;refine ao (fun c4=>?_) (fun c4=>?_)
      ·have c4:B=1:=c4;unfold gg;rw[j9,ag (fun h=>h.elim c1 fun h=>c2 (nB.symm.trans h)),af (.inr (nB.trans c4))];exact .done ⟨rfl,rfl⟩
      ·have c4:¬B=1:=c4;unfold gg;rw[j9,ag (fun h=>h.elim c1 fun h=>c2 (nB.symm.trans h)),ag (fun h=>h.elim c3 fun h=>c4 (nB.symm.trans h))];unfold nt;refine ax [] (BN (aM a) _ na) ?_;intro p1;refine aj 0 ?_;refine ax [] (BN (B) _ wB) ?_;intro p2;refine aj 0 ?_;refine aa 1 ?_;refine aa 0 ?_;refine ax [] (Ow op _ _ _ _ _) ?_;cases hr:iV op (kr (aM a)) (ku (aM a)) (kr (B)) (ku (B)) with
       |none=>
        intro p3;refine aj 0 ?_;exact .drop 0 3 (.done ⟨rfl,rfl⟩)
       |some xy=>
        obtain⟨x,y⟩:=xy;intro p3;refine aj 0 ?_;refine aa 0 ?_;refine ax [] (EK x y _) ?_;exact .drop 0 3 (.done ⟨rfl,rfl⟩)
  ·have d2:¬op=4:=d2;rw[show kg op a b=gg op (aM a) (aM b) by unfold kg;rw[ag (fun h=>h.elim d1 d2),SO]];refine ao (fun c1=>?_) (fun c1=>?_)
   ·have c1:aM a=0:=c1;unfold gg;rw[j9,af (.inl c1)];exact .done ⟨rfl,rfl⟩
   ·have c1:¬aM a=0:=c1;refine ao (fun c2=>?_) (fun c2=>?_)
    ·have c2:(aM b)=0:=c2;unfold gg;rw[j9,af (.inr ((j9 b).trans c2))];exact .done ⟨rfl,rfl⟩
    ·have c2:¬(aM b)=0:=c2;refine ao (fun c3=>?_) (fun c3=>?_)
     ·have c3:aM a=1:=c3;unfold gg;rw[j9,ag (fun h=>h.elim c1 fun h=>c2 ((j9 b).symm.trans h)),af (.inl c3)];exact .done ⟨rfl,rfl⟩
     ·have c3:¬aM a=1:=c3;refine ao (fun c4=>?_) (fun c4=>?_)
      ·have c4:(aM b)=1:=c4;unfold gg;rw[j9,ag (fun h=>h.elim c1 fun h=>c2 ((j9 b).symm.trans h)),af (.inr ((j9 b).trans c4))];exact .done ⟨rfl,rfl⟩
      ·have c4:¬(aM b)=1:=c4;unfold gg;rw[j9,ag (fun h=>h.elim c1 fun h=>c2 ((j9 b).symm.trans h)),ag (fun h=>h.elim c3 fun h=>c4 ((j9 b).symm.trans h))];unfold nt;refine ax [] (BN (aM a) _ na) ?_;intro p1;refine aj 0 ?_;refine ax [] (BN ((aM b)) _ nb) ?_;intro p2;refine aj 0 ?_;refine aa 1 ?_;refine aa 0 ?_;refine ax [] (Ow op _ _ _ _ _) ?_;cases hr:iV op (kr (aM a)) (ku (aM a)) (kr ((aM b))) (ku ((aM b))) with
       |none=>
        intro p3;refine aj 0 ?_;exact .drop 0 3 (.done ⟨rfl,rfl⟩)
       |some xy=>
        obtain⟨x,y⟩:=xy;intro p3;refine aj 0 ?_;refine aa 0 ?_;refine ax [] (EK x y _) ?_;exact .drop 0 3 (.done ⟨rfl,rfl⟩)
theorem agm(g:Nat)(cap:List AV)(l:List (Sh.T (.int .u64)))(p:Sh.T (.int .u64)→Bool)(σ:Hp)(hl:l.length≤1000000)(hg:∀(i:Nat) (hi:i<l.length),ACalls Tryz.prog g (.int .u64 l[i]::cap) σ (aC (.bool (p l[i])) σ)):ACalls Tryz.prog 250 [.ah (.int .u64) l,.fn (.func g) [] cap] σ (fun r σ'=>∃n:Int,r=.int .i64 n∧σ'=σ∧decide (0≤n)=l.any p):=by
 refine ay Tryz.func250 ?_;refine ca (S:=Nat) (fun s=>[(0,.ah (.int .u64) l),(1,.fn (.func g) [] cap),(7,.int .i64 l.length),(8,.int .i64 s)]) (fun _=>σ) (fun s=>s≤l.length∧(l.take s).any p=false) (fun s=>l.length-s) 0 ⟨⟨bC _,rfl⟩,⟨rfl,rfl,rfl,rfl,trivial⟩,rfl⟩ ?_;rintro k t ⟨aP,gw⟩;have hk:k≤l.length:=aP;have hn:(l.take k).any p=false:=gw;clear aP gw;refine ao (fun ab=>?_) (fun au=>?_)
 ·have ab:k<l.length:=by have ab:(k:Int)<l.length:=ab;omega
  have hs:=sU ab p;rw[hn,pI]at hs;refine aJ.mk rfl (bO.mk l[k] (by omega) (get_some ab) ?_);refine eY [] (hg k ab) (fun c=>?_) (fun c=>?_)
  ·have hp:l.any p=true:=mW.2 ⟨l[k],cq ab,c⟩;exact .done ⟨_,rfl,rfl,by rw[hp];exact bu (by omega)⟩
  ·exact a8 (k+1) (by show l.length-(k+1)<l.length-k;omega) ⟨ab,hs.trans c⟩ ⟨rfl,rfl,rfl,aX (by omega),trivial⟩ (.refl _)
 ·have au:k=l.length:=by have au:¬(k:Int)<l.length:=au;omega
  subst au;rw[ga]at hn;exact .done ⟨_,rfl,rfl,by rw[hn];rfl⟩
theorem aaq(g:Nat)(cap:List AV)(l:List (Sh.T (.int .u64)))(p:Sh.T (.int .u64)→Bool)(σ:Hp)(hl:l.length≤1000000)(hg:∀(i:Nat) (hi:i<l.length),ACalls Tryz.prog g (.int .u64 l[i]::cap) σ (aC (.bool (p l[i])) σ)):ACalls Tryz.prog 200 [.ah (.int .u64) l,.fn (.func g) [] cap] σ (aC (.bool (l.any p)) σ):=by
 refine ay Tryz.func200 ?_;refine .mk [] _ (agm g cap l p _ hl hg) ?_;rintro _ _ ⟨n,rfl,rfl,hn⟩;rw[← hn];refine ao (fun c=>?_) (fun c=>?_)
 ·have c:0≤n:=c;rw[bu c];exact .done ⟨rfl,rfl⟩
 ·have c:¬0≤n:=c;rw[cf c];exact .done ⟨rfl,rfl⟩
abbrev ai7:Sh:=.field (.int .i64) (.field (.int .i64) .nil)
abbrev Xe:Sh:=.field (.int .i64) (.field ai7 .nil)
abbrev jS:Sh:=.field (.int .i64) (.field (.int .i64) (.field Xe (.field Xe .nil)))
abbrev ak3:Type:=Int×Int×Unit
abbrev pv:Type:=Int×ak3×Unit
abbrev dp:Type:=Int×Int×pv×pv×Unit
abbrev E8(r:pv):List AV:=[.int .i64 r.1,.int .i64 r.2.1.1,.int .i64 r.2.1.2.1]
abbrev Xt(c:dp):List AV:=[.int .i64 c.1,.int .i64 c.2.1,.int .i64 c.2.2.1.1,.int .i64 c.2.2.1.2.1.1,.int .i64 c.2.2.1.2.1.2.1,.int .i64 c.2.2.2.1.1,.int .i64 c.2.2.2.1.2.1.1,.int .i64 c.2.2.2.1.2.1.2.1]
def Jh(c:dp):AV:=.agg (Xt c)
theorem agp(g:Nat)(cap:List AV)(l:List (Sh.T jS))(p:Sh.T jS→Bool)(σ:Hp)(hl:l.length≤1000000)(hg:∀(i:Nat) (hi:i<l.length),ACalls Tryz.prog g (Jh l[i]::cap) σ (aC (.bool (p l[i])) σ)):ACalls Tryz.prog 253 [.ah jS l,.fn (.func g) [] cap] σ (fun r σ'=>∃n:Int,r=.int .i64 n∧σ'=σ∧decide (0≤n)=l.any p):=by
 refine ay Tryz.func253 ?_;refine ca (S:=Nat) (fun s=>[(0,.ah jS l),(1,.fn (.func g) [] cap),(7,.int .i64 l.length),(8,.int .i64 s)]) (fun _=>σ) (fun s=>s≤l.length∧(l.take s).any p=false) (fun s=>l.length-s) 0 ⟨⟨bC _,rfl⟩,⟨rfl,rfl,rfl,rfl,trivial⟩,rfl⟩ ?_;rintro k t ⟨aP,gw⟩;have hk:k≤l.length:=aP;have hn:(l.take k).any p=false:=gw;clear aP gw;refine ao (fun ab=>?_) (fun au=>?_)
 ·have ab:k<l.length:=by have ab:(k:Int)<l.length:=ab;omega
  have hs:=sU ab p;rw[hn,pI]at hs;refine aJ.mk rfl (bO.mk l[k] (by omega) (get_some ab) ?_);refine eY [] (hg k ab) (fun c=>?_) (fun c=>?_)
  ·have hp:l.any p=true:=mW.2 ⟨l[k],cq ab,c⟩;exact .done ⟨_,rfl,rfl,by rw[hp];exact bu (by omega)⟩
  ·exact a8 (k+1) (by show l.length-(k+1)<l.length-k;omega) ⟨ab,hs.trans c⟩ ⟨rfl,rfl,rfl,aX (by omega),trivial⟩ (.refl _)
 ·have au:k=l.length:=by have au:¬(k:Int)<l.length:=au;omega
  subst au;rw[ga]at hn;exact .done ⟨_,rfl,rfl,by rw[hn];rfl⟩
theorem aat(g:Nat)(cap:List AV)(l:List (Sh.T jS))(p:Sh.T jS→Bool)(σ:Hp)(hl:l.length≤1000000)(hg:∀(i:Nat) (hi:i<l.length),ACalls Tryz.prog g (Jh l[i]::cap) σ (aC (.bool (p l[i])) σ)):ACalls Tryz.prog 207 [.ah jS l,.fn (.func g) [] cap] σ (aC (.bool (l.any p)) σ):=by
 refine ay Tryz.func207 ?_;refine .mk [] _ (agp g cap l p _ hl hg) ?_;rintro _ _ ⟨n,rfl,rfl,hn⟩;rw[← hn];refine ao (fun c=>?_) (fun c=>?_)
 ·have c:0≤n:=c;rw[bu c];exact .done ⟨rfl,rfl⟩
 ·have c:¬0≤n:=c;rw[cf c];exact .done ⟨rfl,rfl⟩
theorem ago(l:List Int)(x:Int)(σ:Hp)(hl:l.length≤1000000):ACalls Tryz.prog 329 [.ah (.int .u64) l,.int .u64 x] σ (fun r σ'=>∃n:Int,r=.int .i64 n∧σ'=σ∧decide (0≤n)=l.any fun z=>decide (x=z)):=by
 refine ay Tryz.func329 ?_;refine ca (S:=Nat) (fun s=>[(0,.ah (.int .u64) l),(1,.int .u64 x),(7,.int .i64 l.length),(8,.int .i64 s)]) (fun _=>σ) (fun s=>s≤l.length∧((l.take s).any fun z=>decide (x=z))=false) (fun s=>l.length-s) 0 ⟨⟨bC _,rfl⟩,⟨rfl,rfl,rfl,rfl,trivial⟩,rfl⟩ ?_;rintro k t ⟨aP,gw⟩;have hk:k≤l.length:=aP;have hn:((l.take k).any fun z=>decide (x=z))=false:=gw;clear aP gw;refine ao (fun ab=>?_) (fun au=>?_)
 ·have ab:k<l.length:=by have ab:(k:Int)<l.length:=ab;omega
  have hs:=sU ab fun z=>decide (x=z);rw[hn,pI]at hs;refine aJ.mk rfl (bO.mk l[k] (by omega) (get_some ab) ?_);refine ao (fun c=>?_) (fun c=>?_)
  ·have c:x=l[k]:=c;have hp:(l.any fun z=>decide (x=z))=true:=mW.2 ⟨l[k],cq ab,bu c⟩;exact .done ⟨_,rfl,rfl,by rw[hp];exact bu (by omega)⟩
  ·have c:¬x=l[k]:=c;exact a8 (k+1) (by show l.length-(k+1)<l.length-k;omega) ⟨ab,hs.trans (cf c)⟩ ⟨rfl,rfl,rfl,aX (by omega),trivial⟩ (.refl _)
 ·have au:k=l.length:=by have au:¬(k:Int)<l.length:=au;omega
  subst au;rw[ga]at hn;exact .done ⟨_,rfl,rfl,by rw[hn];rfl⟩
theorem aas(l:List Int)(x:Int)(σ:Hp)(hl:l.length≤1000000):ACalls Tryz.prog 301 [.ah (.int .u64) l,.int .u64 x] σ (aC (.bool (l.any fun z=>decide (x=z))) σ):=by
 refine ay Tryz.func301 ?_;refine .mk [] _ (ago l x _ hl) ?_;rintro _ _ ⟨n,rfl,rfl,hn⟩;rw[← hn];refine ao (fun c=>?_) (fun c=>?_)
 ·have c:0≤n:=c;rw[bu c];exact .done ⟨rfl,rfl⟩
 ·have c:¬0≤n:=c;rw[cf c];exact .done ⟨rfl,rfl⟩
def cO(what width:Int):Bool:=decide (1≤what)&&decide (what≤3)&&decide (0≤width)&&decide (width≤1024)
theorem O1(what width:Int)(σ:Hp):ACalls Tryz.prog 112 [.int .i64 what,.int .i64 width] σ (aC (.bool (cO what width)) σ):=by
 refine ay Tryz.func112 ?_;refine ao (fun c1=>?_) (fun c1=>?_)
 ·have c1:1≤what:=c1;refine ao (fun c2=>?_) (fun c2=>?_)
  ·have c2:what≤3:=c2;refine ao (fun c3=>?_) (fun c3=>?_)
   ·have c3:0≤width:=c3;refine ao (fun c4=>?_) (fun c4=>?_)
    ·have c4:width≤1024:=c4;exact .done ⟨cY (by first | (simp_all [cO];done) | (simp_all [cO];intros;omega)),rfl⟩
    ·have c4:¬(width≤1024):=c4;exact .done ⟨cY (by first | (simp_all [cO];done) | (simp_all [cO];intros;omega)),rfl⟩
   ·have c3:¬(0≤width):=c3;exact .done ⟨cY (by first | (simp_all [cO];done) | (simp_all [cO];intros;omega)),rfl⟩
  ·have c2:¬(what≤3):=c2;exact .done ⟨cY (by first | (simp_all [cO];done) | (simp_all [cO];intros;omega)),rfl⟩
 ·have c1:¬(1≤what):=c1;exact .done ⟨cY (by first | (simp_all [cO];done) | (simp_all [cO];intros;omega)),rfl⟩
def dz(what:Int)(xs ys:List Int):List Int:=List.zipWith (da what) xs ys
theorem Yz(what:Int)(xs ys:List Int)(h:xs.length=ys.length):(dz what xs ys).length=xs.length:=by simp[dz,h]
theorem aej(what:Int)(xs ys:List Int)(σ:Hp)(hx:bh xs)(hy:bh ys)(h:xs.length=ys.length)(hl:xs.length≤1000000):ACalls Tryz.prog 127 [.int .i64 what,.ah (.int .u64) xs,.ah (.int .u64) ys] σ (aC (.ah (.int .u64) (dz what xs ys)) σ):=by
 refine ay Tryz.func127 ?_;refine .wrap 7 _ rfl rfl ?_;refine ca (S:=Nat×AV×Hp) (fun s=>[(0,.int .i64 what),(1,.ah (.int .u64) xs),(2,.ah (.int .u64) ys),(7,.via s.2.1),(9,.ah (.int .u64) xs),(10,.int .i64 xs.length),(11,.int .i64 s.1)]) (fun s=>s.2.2++σ) (fun s=>s.1≤xs.length∧Acc 1 s.1 s.2.1 s.2.2 (aR ((dz what xs ys).take s.1))) (fun s=>xs.length-s.1) (0,.an,[]) ⟨⟨bC _,.nil⟩,⟨rfl,rfl,rfl,rfl,rfl,rfl,rfl,trivial⟩,rfl⟩ ?_;rintro⟨k,v,acc⟩ g ⟨aP,ig⟩;have hk:k≤xs.length:=aP;have cj:Acc 1 k v acc (aR ((dz what xs ys).take k)):=ig;clear aP ig;have iM:=Yz what xs ys h;refine ao (fun ab=>?_) (fun au=>?_)
 ·have ab:k<xs.length:=by have ab:(k:Int)<xs.length:=ab;omega
  have dE:k<ys.length:=by omega
  have hz:=hx _ (cq ab);have fY:=hy _ (cq dE);have hje:(dz what xs ys)[k]'(by omega)=da what xs[k] ys[k]:=by simp[dz]
  refine .sched [10] (upto [10] 14 0) (by kernel_rfl) ?_;refine aJ.mk rfl ?_;refine bO.mk xs[k] (by omega) (get_some ab) ?_;refine aJ.mk rfl ?_;refine bO.mk ys[k] (by omega) (get_some dE) ?_;refine aK [] (ahF what xs[k] ys[k] _ hz.1 fY.1 hz.2 fY.2) ?_;intro aF;refine iC [_] cj (.ae 0 aF 0 1 _ rfl (cy rfl)) rfl (by omega) (by decide) (by decide) (fun v' aY h'=>?_);refine a8 (k+1,v',aY) (by show xs.length-(k+1)<xs.length-k;omega) ⟨ab,?_⟩ ⟨rfl,rfl,rfl,rfl,rfl,rfl,aX (by omega),trivial⟩ (.drop 0 1 (aL rfl));show Acc 1 (k+1) v' aY (aR ((dz what xs ys).take (k+1)));rw[ft (by omega),hje,aR,cF];exact h'
 ·have au:k=xs.length:=by have au:¬(k:Int)<xs.length:=au;omega
  subst au;rw[eR (y5 iM)]at cj;exact rX (s:=.int .u64) (l:=dz what xs ys) [] cj iM.symm (by rw[lA]) (by decide) (.done ⟨rfl,rfl⟩)
theorem JZ(what width:Int)(σ:Hp):ACalls Tryz.prog 152 [.int .i64 what,.int .i64 width] σ (aC (.bool (cO what width)) σ):=by
 refine ay Tryz.func152 ?_;have hk:∀w:Int,(1≤w∧w≤3)↔(w=1∨w=2∨w=3):=fun w=>by omega
 have hI:cO what width=(decide (what=1∨what=2∨what=3)&&decide (0≤width)&&decide (width≤1024)):=by
  unfold cO;rw[← Bool.decide_and,decide_eq_decide.2 (hk what)]
 rw[hI];refine ao (fun c1=>?_) (fun c1=>?_)
 ·have c1:what=1:=c1;have hw:(what=1∨what=2∨what=3):=.inl c1;refine ao (fun d1=>?_) (fun d1=>?_)
  ·have d1:0≤width:=d1;refine ao (fun d2=>?_) (fun d2=>?_)
   ·have d2:width≤1024:=d2;rw[bu hw,bu d1,bu d2];exact .done ⟨rfl,rfl⟩
   ·have d2:¬width≤1024:=d2;rw[bu hw,bu d1,cf d2];exact .done ⟨rfl,rfl⟩
  ·have d1:¬0≤width:=d1;rw[bu hw,cf d1];exact .done ⟨rfl,rfl⟩
 ·have c1:¬what=1:=c1;refine ao (fun c2=>?_) (fun c2=>?_)
  ·have c2:what=2:=c2;have hw:(what=1∨what=2∨what=3):=.inr (.inl c2);refine ao (fun d1=>?_) (fun d1=>?_)
   ·have d1:0≤width:=d1;refine ao (fun d2=>?_) (fun d2=>?_)
    ·have d2:width≤1024:=d2;rw[bu hw,bu d1,bu d2];exact .done ⟨rfl,rfl⟩
    ·have d2:¬width≤1024:=d2;rw[bu hw,bu d1,cf d2];exact .done ⟨rfl,rfl⟩
   ·have d1:¬0≤width:=d1;rw[bu hw,cf d1];exact .done ⟨rfl,rfl⟩
  ·have c2:¬what=2:=c2;refine ao (fun c3=>?_) (fun c3=>?_)
   ·have c3:what=3:=c3;have hw:(what=1∨what=2∨what=3):=.inr (.inr c3);refine ao (fun d1=>?_) (fun d1=>?_)
    ·have d1:0≤width:=d1;refine ao (fun d2=>?_) (fun d2=>?_)
     ·have d2:width≤1024:=d2;rw[bu hw,bu d1,bu d2];exact .done ⟨rfl,rfl⟩
     ·have d2:¬width≤1024:=d2;rw[bu hw,bu d1,cf d2];exact .done ⟨rfl,rfl⟩
    ·have d1:¬0≤width:=d1;rw[bu hw,cf d1];exact .done ⟨rfl,rfl⟩
   ·have c3:¬what=3:=c3;rw[cf (p:=what=1∨what=2∨what=3) (fun h=>h.elim c1 fun h=>h.elim c2 c3)];exact .done ⟨rfl,rfl⟩
def eG(what width:Int):Int:=if cO what width=true then (if what=3 then width else (ef width:Int)) else 0
theorem Ep(what width:Int)(σ:Hp):ACalls Tryz.prog 85 [.int .i64 what,.int .i64 width] σ (aC (.int .i64 (eG what width)) σ):=by
 refine ay Tryz.func85 ?_;unfold eG;refine eY [] (JZ what width _) (fun hi=>?_) (fun hi=>?_)
 ·rw[af hi];have h3:(what=1∨what=2∨what=3):=by unfold cO at hi;simp at hi;omega
  refine ao (fun c1=>?_) (fun c1=>?_)
  ·have c1:what=1:=c1;rw[ag (by omega)];refine ax [] (ID width _) ?_;exact .done ⟨rfl,rfl⟩
  ·have c1:¬what=1:=c1;refine ao (fun c2=>?_) (fun c2=>?_)
   ·have c2:what=2:=c2;rw[ag (by omega)];refine ax [] (ID width _) ?_;exact .done ⟨rfl,rfl⟩
   ·have c2:¬what=2:=c2;rw[af (by omega)];exact .done ⟨rfl,rfl⟩
 ·rw[ag (by rw[hi];decide)];exact .done ⟨rfl,rfl⟩
theorem ac8(what width:Int)(σ:Hp):ACalls Tryz.prog 57 [.int .i64 what,.int .i64 width] σ (aC (.int .i64 (eG what width)) σ):=by
 refine ay Tryz.func57 ?_;unfold eG;refine eY [] (O1 what width _) (fun hi=>?_) (fun hi=>?_)
 ·rw[af hi];refine ao (fun c1=>?_) (fun c1=>?_)
  ·have c1:what=3:=c1;rw[af c1];exact .done ⟨rfl,rfl⟩
  ·have c1:¬what=3:=c1;rw[ag c1];refine ax [] (WO width _) ?_;exact .done ⟨rfl,rfl⟩
 ·rw[ag (by rw[hi];decide)];exact .done ⟨rfl,rfl⟩
theorem Ba(what width:Int):0≤eG what width∧eG what width≤1024:=by
 unfold eG
 by_cases h:cO what width=true
 ·rw[af h];have:=Bn width;unfold cO at h;simp at h;split <;> omega
 ·rw[ag h];omega
def okW(a:List Int):Bool:=a.all fun z=>decide (aM z=z)
def dg(what w:Int)(a:List Int):Bool:=cO what w&&decide ((a.length:Int)=eG what w)&&(if what=3 then okW a else gK a w)
theorem afy(w:Int):(eT w||decide (w=0)||decide (w=1))=decide (aM w=w):=by
 unfold aM
 by_cases h0:w=0
 ·simp[h0]
 ·by_cases h1:w=1
  ·simp[h1]
  ·cases h2:eT w with
   |true=>simp[h0,h1]
   |false=>simp[h0,h1];exact fun h=>h1 h.symm
theorem ajV(z:Int)(σ:Hp):ACalls Tryz.prog 201 [.int .u64 z] σ (aC (.bool (!decide (aM z=z))) σ):=by
 refine ay Tryz.func201 ?_;refine ax [] (aIs z _) ?_;rw[afy];exact .done ⟨rfl,rfl⟩
theorem afl(a:List Int):(!a.any fun z=> !decide (aM z=z))=okW a:=by
 unfold okW;rw[List.all_eq_not_any_not]
theorem J0(what w:Int)(a:List Int)(σ:Hp)(ha:bh a)(hl:a.length≤1000000):ACalls Tryz.prog 148 [.int .i64 what,.int .i64 w,.ah (.int .u64) a] σ (aC (.bool (dg what w a)) σ):=by
 refine ay Tryz.func148 ?_;have pA:=Ba what w;unfold dg;refine eY [] (JZ what w _) (fun hi=>?_) (fun hi=>?_)
 ·refine ax [] (Ep what w _) ?_;refine dX (fun c=>?_) (fun c=>?_)
  ·have c:(!decide ((a.length:Int)=eG what w))=true:=c;have c:¬((a.length:Int)=eG what w):=by simpa using c
   rw[hi,cf c];exact .done ⟨rfl,rfl⟩
  ·have c:(!decide ((a.length:Int)=eG what w))=false:=c;have c:(a.length:Int)=eG what w:=by simpa using c
   rw[hi,bu c];refine dX (fun c3=>?_) (fun c3=>?_)
   ·have c3:¬(what=3):=by simpa using c3
    rw[ag c3];refine ax [] (Es a w _ ha (by omega)) ?_;exact .done ⟨rfl,rfl⟩
   ·have c3:what=3:=by simpa using c3
    rw[af c3,← afl];refine ax [] (aaq 201 [] a (fun z:Int=> !decide (aM z=z)) _ hl (fun i hi=>ajV _ _)) ?_;exact .done ⟨rfl,rfl⟩
 ·rw[hi];exact .done ⟨rfl,rfl⟩
def EB(what w:Int)(l:List (List Int)):Int:=if cO what w then (if (l.any fun a=> !dg what w a) then 2 else 0) else 10
theorem abL{what w:Int}{a b:List Int}(h:EB what w [a,b]=0):dg what w a=true∧dg what w b=true:=by
 unfold EB at h;cases hi:cO what w with
 |false=>rw[hi]at h;exact absurd h (by simp)
 |true=>
  rw[hi,af rfl]at h;cases ha:dg what w a with
  |false=>simp[ha]at h
  |true=>
   cases hb:dg what w b with
   |false=>simp[ha,hb]at h
   |true=>exact⟨rfl,rfl⟩
theorem xY{what w:Int}{a:List Int}(h:dg what w a=true):(a.length:Int)=eG what w:=by
 unfold dg at h;simp at h;exact h.1.2
def tA(e:Int)(l:List Int):List Int:=if e=0 then l else []
theorem Ee{e:Int}{l:List Int}(h:e=0):tA e l=l:=af h
theorem Ip{e:Int}{l:List Int}(h:¬e=0):tA e l=[]:=ag h
theorem ya{what:Int}:∀{xs ys:List Int},bh xs→bh ys→bh (dz what xs ys)
 | [],_,_,_=>fun z hz=>by simp[dz]at hz
 |_::_,[],_,_=>fun z hz=>by simp[dz]at hz
 |x::xs,y::ys,hx,hy=>fun z hz=>by
  rcases dm.1 (show z∈da what x y::dz what xs ys from hz) with rfl | hz
  ·exact U6 (hx _ (b9 ..)) (hy _ (b9 ..))
  ·exact ya (fun a ha=>hx a (cQ _ ha)) (fun a ha=>hy a (cQ _ ha)) z hz
def zN(what w:Int)(xs ys:List Int):Bool:=decide (EB what w [xs,ys]=0)&&decide (dz what xs ys=ys)
def gC(what w:Int):List Int:=if what=2∧cO what w=true then fv w else List.replicate (eG what w).toNat 0
theorem MI(what w:Int)(σ:Hp):ACalls Tryz.prog 149 [.int .i64 what,.int .i64 w] σ (aC (.ah (.int .u64) (gC what w)) σ):=by
 refine ay Tryz.func149 ?_;have hw:=Ba what w
 have hz:gC what w=List.replicate (eG what w).toNat 0→∀q,Fin (aC (.ah (.int .u64) (gC what w)) σ) (.ae q 0 (eG what w).toNat 1) ((q,cI [.int .u64 0] (eG what w).toNat)::σ):=fun hb q=>by
  rw[x7,← hb];have hl:(gC what w).length=(eG what w).toNat:=by rw[hb,fQ]
  generalize gC what w=Z at hl;refine .cN 0 q 0 _ 1 _ (.int .u64) Z rfl ?_ ⟨hl,rfl,by decide⟩ .here (.done ⟨rfl,rfl⟩);rw[gR,← lA];exact eR (by rw[aR,bX,hl];omega)
 refine ao (fun c=>?_) (fun c=>?_)
 ·have c:what=2:=c;refine eY [] (JZ what w _) (fun hi=>?_) (fun hi=>?_)
  ·refine ax [] (XC w _) ?_;have hb:gC what w=fv w:=af ⟨c,hi⟩;rw[hb];exact .done ⟨rfl,rfl⟩
  ·refine ax [] (Ep what w _) ?_;refine bf ?_;intro q;exact hz (ag fun h=>Bool.noConfusion (hi.symm.trans h.2)) q
 ·have c:¬what=2:=c;refine ax [] (Ep what w _) ?_;refine bf ?_;intro q;exact hz (ag fun h=>c h.1) q
def isN(x y:Int):Bool:=decide (x=aE x)&&decide (y=aE y)
def qV(w:Int)(r:pv):Bool:=if r.1 = -1 then isN r.2.1.1 r.2.1.2.1 else decide (0≤r.1)&&decide (r.1<w)&&(decide (r.2.1.1=0)&&decide (r.2.1.2.1=0))
theorem eq2(x y:Int):fW (uA (nC x y) (nC 0 0))=(decide (x=0)&&decide (y=0)):=by
 show (decide (x=0)&&(decide (y=0)&&true))=_;rw[KD]
theorem Xz(w:Int)(r:pv)(σ:Hp):ACalls Tryz.prog 254 [.int .i64 w,.agg (E8 r)] σ (aC (.bool (qV w r)) σ):=by
 obtain⟨v,⟨x,y,u⟩,u2⟩:=r;refine ay Tryz.func254 ?_;unfold qV;show wJ Tryz.prog tt _ [.int .i64 w,.agg [.int .i64 v,.int .i64 x,.int .i64 y]] σ (aC (.bool (if v = -1 then isN x y else decide (0≤v)&&decide (v<w)&&(decide (x=0)&&decide (y=0)))) σ);intro aF;refine aa 0 ?_;refine ao (fun c2=>?_) (fun c2=>?_)
 ·have c2:v = -1:=c2;refine aa 0 ?_;refine ax [] (ajx _ _ _) ?_;exact .drop 0 1 (.done ⟨cY (by rw[af c2];rfl),rfl⟩)
 ·have c2:¬(v = -1):=c2;refine aa 0 ?_;refine ao (fun c3=>?_) (fun c3=>?_)
  ·have c3:0≤v:=c3;refine aa 0 ?_;refine ao (fun c4=>?_) (fun c4=>?_)
   ·have c4:v<w:=c4;refine aa 0 ?_;refine EqAt.mk (by kernel_rfl) (by kernel_rfl) ?_;refine dX (fun c5=>?_) (fun c5=>?_)
    ·have c5:=(eq2 x y).symm.trans c5;exact .drop 0 1 (.done ⟨cY (by rw[ag c2,bu c3,bu c4,c5];rfl),rfl⟩)
    ·have c5:=(eq2 x y).symm.trans c5;exact .drop 0 1 (.done ⟨cY (by rw[ag c2,bu c3,bu c4,c5];rfl),rfl⟩)
   ·have c4:¬(v<w):=c4;exact .drop 0 1 (.done ⟨cY (by rw[ag c2,bu c3,cf c4];rfl),rfl⟩)
  ·have c3:¬(0≤v):=c3;exact .drop 0 1 (.done ⟨cY (by rw[ag c2,cf c3];rfl),rfl⟩)
def Ov(r:pv):Bool:=decide (r.1=0)&&(decide (r.2.1.1=0)&&decide (r.2.1.2.1=0))
theorem Lk(r:pv):fW (uA (E8 r) [.int .i64 0,.int .i64 0,.int .i64 0])=Ov r:=by
 show (decide (r.1=0)&&(decide (r.2.1.1=0)&&(decide (r.2.1.2.1=0)&&true)))=_;rw[KD];rfl
def gL(w:Int)(c:dp):Bool:=if c.1<0 then false else if w≤c.1 then false else if c.2.1 < -1 then false else if 4<c.2.1 then false else if c.2.1 = -1 then Ov c.2.2.1&&Ov c.2.2.2.1 else qV w c.2.2.1&&qV w c.2.2.2.1
theorem ahw(w:Int)(c:dp)(σ:Hp):ACalls Tryz.prog 209 [.int .i64 w,.agg (Xt c)] σ (aC (.bool (gL w c)) σ):=by
 refine ay Tryz.func209 ?_;intro aF;refine aa 0 ?_;refine ao (fun c2=>?_) (fun c2=>?_)
 ·have c2:c.fst<0:=c2;exact .drop 0 1 (.done ⟨cY (by simp[gL, *]),rfl⟩)
 ·have c2:¬(c.fst<0):=c2;refine aa 0 ?_;refine ao (fun c3=>?_) (fun c3=>?_)
  ·have c3:w≤c.fst:=c3;exact .drop 0 1 (.done ⟨cY (by simp[gL, *]),rfl⟩)
  ·have c3:¬(w≤c.fst):=c3;refine aa 0 ?_;refine ao (fun c4=>?_) (fun c4=>?_)
   ·have c4:c.snd.fst < -1:=c4;exact .drop 0 1 (.done ⟨cY (by simp[gL, *]),rfl⟩)
   ·have c4:¬(c.snd.fst < -1):=c4;refine aa 0 ?_;refine ao (fun c5=>?_) (fun c5=>?_)
    ·have c5:4<c.snd.fst:=c5;exact .drop 0 1 (.done ⟨cY (by simp[gL, *]),rfl⟩)
    ·have c5:¬(4<c.snd.fst):=c5;refine aa 0 ?_;refine ao (fun c6=>?_) (fun c6=>?_)
     ·have c6:c.snd.fst = -1:=c6;refine aa 0 ?_;refine EqAt.mk (by kernel_rfl) (by kernel_rfl) ?_;refine dX (fun c7=>?_) (fun c7=>?_)
      ·have c7:=(Lk c.2.2.1).symm.trans c7;refine aa 0 ?_;refine EqAt.mk (by kernel_rfl) (by kernel_rfl) ?_;refine dX (fun c8=>?_) (fun c8=>?_)
       ·have c8:=(Lk c.2.2.2.1).symm.trans c8;exact .drop 0 1 (.done ⟨cY (by simp[gL, *]),rfl⟩)
       ·have c8:=(Lk c.2.2.2.1).symm.trans c8;exact .drop 0 1 (.done ⟨cY (by simp[gL, *]),rfl⟩)
      ·have c7:=(Lk c.2.2.1).symm.trans c7;exact .drop 0 1 (.done ⟨cY (by simp[gL, *]),rfl⟩)
     ·have c6:¬(c.snd.fst = -1):=c6;refine aa 0 ?_;refine eY [] (Xz w c.2.2.1 _) (fun cA=>?_) (fun cA=>?_)
      ·refine aa 0 ?_;refine eY [] (Xz w c.2.2.2.1 _) (fun cB=>?_) (fun cB=>?_)
       ·exact .drop 0 1 (.done ⟨cY (by simp[gL, *]),rfl⟩)
       ·exact .drop 0 1 (.done ⟨cY (by simp[gL, *]),rfl⟩)
      ·exact .drop 0 1 (.done ⟨cY (by simp[gL, *]),rfl⟩)
abbrev mC:Sh:=.field (.slice (.int .u64)) (.field (.slice (.int .u64)) (.field (.slice jS) .nil))
abbrev Co(g k:List Int)(l:List dp):List AV:=[.ah (.int .u64) g,.ah (.int .u64) k,.ah jS l]
theorem aex(w:Int)(c:dp)(q:Nat)(σ:Hp):ACalls Tryz.prog 208 [Jh c,.ptr q 0] ((q,[.int .i64 w])::σ) (aC (.bool (!gL w c)) ((q,[.int .i64 w])::σ)):=by
 refine ay Tryz.func208 ?_;unfold Jh;intro aF;refine aa 1 ?_;refine aa 0 ?_;refine ax [] (ahw w c _) ?_;exact .drop 0 1 (.done ⟨rfl,rfl⟩)
def zZ(what w:Int)(g k:List Int)(l:List dp):Bool:=if what=3 then decide (g.length+k.length=0)&&(l.all (gL w)) else decide (l.length=0)&&gK g w&&gK k w
def fT(what w:Int)(g k:List Int)(l:List dp):Int:=if cO what w=true then (if zZ what w g k l=true then 0 else 2) else 10
theorem VS{α:Type}(l:List α){p:α→Bool}:l.all p = !l.any fun c=> !p c:=List.all_eq_not_any_not ..
theorem Xw{w:Int}(l:List dp){b:Bool}(h:(l.any fun c=> !gL w c)=b):l.all (gL w) = !b:=by rw[VS,h]
theorem OX{what w:Int}{g k:List Int}{l:List dp}(hi:cO what w=true)(ht:zZ what w g k l=true):0=fT what w g k l:=by unfold fT;rw[af hi,af ht]
theorem yH{what w:Int}{g k:List Int}{l:List dp}(hi:cO what w=true)(ht:zZ what w g k l=false):2=fT what w g k l:=by unfold fT;rw[af hi,ht];rfl
theorem Of{what w:Int}{g k:List Int}{l:List dp}(hi:cO what w=false):10=fT what w g k l:=by unfold fT;rw[hi];rfl
theorem w5{what w:Int}{g k:List Int}{l:List dp}(h:¬what=3):zZ what w g k l=(decide (l.length=0)&&gK g w&&gK k w):=ag h
theorem FJ{what w:Int}{g k:List Int}{l:List dp}(h:what=3):zZ what w g k l=(decide (g.length+k.length=0)&&(l.all (gL w))):=af h
theorem qP{what w:Int}(h:1≤what∧what≤3∧0≤w∧w≤1024):cO what w=true:=by unfold cO;simp;omega
theorem N4{what w:Int}(h:¬(1≤what∧what≤3∧0≤w∧w≤1024)):cO what w=false:=by unfold cO;simp;omega
theorem Ni(what w:Int)(g k:List Int)(l:List dp)(σ:Hp)(hg:bh g)(hk:bh k)(lg:g.length≤10000)(lk:k.length≤10000)(ll:l.length≤1000000):ACalls Tryz.prog 151 [.int .i64 what,.int .i64 w,.agg (Co g k l)] σ (aC (.int .i64 (fT what w g k l)) σ):=by
 refine ay Tryz.func151 ?_;intro aF;intro dJ;refine aa 1 ?_;refine ao (fun c3=>?_) (fun c3=>?_)
 ·have c3:w<0:=c3;exact .drop 0 2 (.done ⟨aT (Of (N4 (by omega))),rfl⟩)
 ·have c3:¬(w<0):=c3;refine aa 1 ?_;refine ao (fun c4=>?_) (fun c4=>?_)
  ·have c4:1024<w:=c4;exact .drop 0 2 (.done ⟨aT (Of (N4 (by omega))),rfl⟩)
  ·have c4:¬(1024<w):=c4;refine ao (fun c5=>?_) (fun c5=>?_)
   ·have c5:what=1:=c5;refine aa 0 ?_;refine aa 1 ?_;refine eY [] (Es g w _ hg lg) (fun cG=>?_) (fun cG=>?_)
    ·refine aa 0 ?_;refine aa 1 ?_;refine eY [] (Es k w _ hk lk) (fun cK=>?_) (fun cK=>?_)
     ·refine aa 0 ?_;refine ao (fun c6=>?_) (fun c6=>?_)
      ·have c6:(↑l.length:Int)=0:=c6;have iL:decide (l.length=0)=true:=bu (by have h0:(l.length:Int)=0:=c6;omega);exact .drop 0 2 (.done ⟨aT (OX (qP (by omega)) (by rw[w5 (by omega),iL,cG,cK];rfl)),rfl⟩)
      ·have c6:¬((↑l.length:Int)=0):=c6;have iL:decide (l.length=0)=false:=cf (by have h0:¬(l.length:Int)=0:=c6;omega);exact .drop 0 2 (.done ⟨aT (yH (qP (by omega)) (by rw[w5 (by omega),iL];rfl)),rfl⟩)
     ·exact .drop 0 2 (.done ⟨aT (yH (qP (by omega)) (by rw[w5 (by omega),cK];simp)),rfl⟩)
    ·exact .drop 0 2 (.done ⟨aT (yH (qP (by omega)) (by rw[w5 (by omega),cG];simp)),rfl⟩)
   ·have c5:¬(what=1):=c5;refine ao (fun c7=>?_) (fun c7=>?_)
    ·have c7:what=2:=c7;refine aa 0 ?_;refine aa 1 ?_;refine eY [] (Es g w _ hg lg) (fun cG=>?_) (fun cG=>?_)
     ·refine aa 0 ?_;refine aa 1 ?_;refine eY [] (Es k w _ hk lk) (fun cK=>?_) (fun cK=>?_)
      ·refine aa 0 ?_;refine ao (fun c8=>?_) (fun c8=>?_)
       ·have c8:(↑l.length:Int)=0:=c8;have iL:decide (l.length=0)=true:=bu (by have h0:(l.length:Int)=0:=c8;omega);exact .drop 0 2 (.done ⟨aT (OX (qP (by omega)) (by rw[w5 (by omega),iL,cG,cK];rfl)),rfl⟩)
       ·have c8:¬((↑l.length:Int)=0):=c8;have iL:decide (l.length=0)=false:=cf (by have h0:¬(l.length:Int)=0:=c8;omega);exact .drop 0 2 (.done ⟨aT (yH (qP (by omega)) (by rw[w5 (by omega),iL];rfl)),rfl⟩)
      ·exact .drop 0 2 (.done ⟨aT (yH (qP (by omega)) (by rw[w5 (by omega),cK];simp)),rfl⟩)
     ·exact .drop 0 2 (.done ⟨aT (yH (qP (by omega)) (by rw[w5 (by omega),cG];simp)),rfl⟩)
    ·have c7:¬(what=2):=c7;refine ao (fun c9=>?_) (fun c9=>?_)
     ·have c9:what=3:=c9;refine aa 0 ?_;refine aa 0 ?_;refine ao (fun km=>?_) (fun km=>?_)
      ·have km:IntKind.i64.wrap ((↑g.length:Int)+(↑k.length:Int))=0:=km;refine aa 0 ?_;rw[cC (by omega)]at km;refine eY [1] (aat 208 [.ptr aF 0] l (fun c=> !gL w c) _ ll (fun i hi=>aex w l[i] aF _)) (fun cL=>?_) (fun cL=>?_)
       ·exact .drop 0 2 (.done ⟨aT (yH (qP (by omega)) (by rw[FJ c9,Xw l cL];simp)),rfl⟩)
       ·exact .drop 0 2 (.done ⟨aT (OX (qP (by omega)) (by rw[FJ c9,Xw l cL,bu (by omega)];rfl)),rfl⟩)
      ·have km:¬(IntKind.i64.wrap ((↑g.length:Int)+(↑k.length:Int))=0):=km;exact .drop 0 2 (.done ⟨aT (yH (qP (by omega)) (by rw[cC (by omega)]at km;rw[FJ c9,cf (by omega)];rfl)),rfl⟩)
     ·have c9:¬(what=3):=c9;exact .drop 0 2 (.done ⟨aT (Of (N4 (by omega))),rfl⟩)
def kc(a:List Int)(r:pv):Int:=if r.1 = -1 then lQ r.2.1.1 r.2.1.2.1 else wd a r.1.toNat
def pc(a:List Int)(c:dp):Int:=if c.2.1 = -1 then 1 else kg c.2.1 (kc a c.2.2.1) (kc a c.2.2.2.1)
def r8(a:List Int)(c:dp):List Int:=a.set c.1.toNat (pc a c)
def iB(a:List Int)(l:List dp):List Int:=l.foldl r8 a
theorem A1(a:List Int)(c:dp):(r8 a c).length=a.length:=cz ..
theorem Hj(a:List Int)(l:List dp):(iB a l).length=a.length:=by
 unfold iB
 induction l generalizing a with
 |nil=>rfl
 |cons c l ih=>exact (ih _).trans (A1 a c)
theorem UN(a:List Int)(l:List dp)(c:dp):iB a (l++[c])=r8 (iB a l) c:=by
 unfold iB;rw[sK];rfl
theorem Wq(x y:Int):bK (lQ x y):=by
 have h1:=DN x y;have h2:=HO x y;unfold bK lQ;omega
theorem H9{a:List Int}(ha:bh a)(r:pv):bK (kc a r):=by
 unfold kc;split
 ·exact Wq _ _
 ·exact lG ha _
theorem afd(op a b:Int):bK (gg op a b):=by
 unfold gg nt;split
 ·exact⟨by omega,by omega⟩
 ·split
  ·exact⟨by omega,by omega⟩
  ·split
   ·exact Wq _ _
   ·exact⟨by omega,by omega⟩
theorem ah0(op a b:Int):bK (kg op a b):=by unfold kg;split <;> exact afd _ _ _
theorem afr(a:List Int)(c:dp):bK (pc a c):=by
 unfold pc;split
 ·exact⟨by omega,by omega⟩
 ·exact ah0 _ _ _
theorem agI{a:List Int}(ha:bh a){i:Nat}{z:Int}(hz:bK z):bh (a.set i z):=fun x hx=>by
 rcases qG hx with h | rfl
 ·exact ha x h
 ·exact hz
theorem NF{a:List Int}(ha:bh a)(l:List dp):bh (iB a l):=by
 unfold iB
 induction l generalizing a with
 |nil=>exact ha
 |cons c l ih=>exact ih (agI ha (afr a c))
theorem DH{w:Int}{c:dp}(h:gL w c=true):0≤c.1∧c.1<w:=by
 unfold gL at h
 by_cases h1:c.1<0
 ·rw[af h1]at h;exact absurd h (by decide)
 ·by_cases h2:w≤c.1
  ·rw[ag h1,af h2]at h;exact absurd h (by decide)
  ·omega
theorem H5{w:Int}{c:dp}(h:gL w c=true): -1≤c.2.1∧(¬c.2.1 = -1→qV w c.2.2.1=true∧qV w c.2.2.2.1=true):=by
 have hv:=DH h;unfold gL at h;rw[ag (by omega),ag (by omega)]at h
 by_cases h1:c.2.1 < -1
 ·rw[af h1]at h;exact absurd h (by decide)
 ·rw[ag h1]at h
  by_cases h2:4<c.2.1
  ·rw[af h2]at h;exact absurd h (by decide)
  ·rw[ag h2]at h;refine⟨by omega,fun h3=>?_⟩;rw[ag h3]at h;exact Bool.and_eq_true_iff.1 h
theorem Dz{w:Int}{r:pv}(h:qV w r=true)(h1:¬r.1 = -1):0≤r.1∧r.1<w:=by
 unfold qV at h;rw[ag h1]at h;simp at h;exact h.1
theorem ajZ(a:List Int)(r:pv)(q b:Nat)(σ:Hp)(hr:qV a.length r=true):ACalls Tryz.prog 330 [.agg (E8 r),.ptr q 0] ((q,[.ae b 0 a.length 1])::(b,aR a)::σ) (aC (.int .u64 (kc a r)) ((q,[.ae b 0 a.length 1])::(b,aR a)::σ)):=by
 refine ay Tryz.func330 ?_;intro aF;refine aa 0 ?_;refine ao (fun c2=>?_) (fun c2=>?_)
 ·have c2:r.fst = -1:=c2;refine aa 0 ?_;refine ax [] (Jg _ _ _) ?_;have e:kc a r=lQ r.2.1.1 r.2.1.2.1:=af c2;exact .drop 0 1 (.done ⟨aT e.symm,rfl⟩)
 ·have c2:¬(r.fst = -1):=c2;refine aa 1 ?_;refine aa 0 ?_;have hv:=Dz hr c2;have e:kc a r=wd a r.1.toNat:=ag c2;refine aJ.mk ⟨rfl,hv.1,hv.2⟩ ?_;refine aW 2 rfl (Jf (i:=r.1.toNat) (by omega) (by omega)) ?_;exact .drop 0 1 (.done ⟨aT e.symm,rfl⟩)
theorem Yh(a:List Int)(n:Nat)(hn:a.length=n)(r:pv)(q b:Nat)(σ:Hp)(hr:qV n r=true):ACalls Tryz.prog 330 [.agg (E8 r),.ptr q 0] ((q,[.ae b 0 n 1])::(b,aR a)::σ) (aC (.int .u64 (kc a r)) ((q,[.ae b 0 n 1])::(b,aR a)::σ)):=by
 subst hn;exact ajZ a r q b σ hr
theorem V3(l:List Int)(σ:Hp)(hl:l.length≤1000000):ACalls Tryz.prog 256 [.ah (.int .u64) l] σ (fun x σ'=>∃acc,Acc 1 l.length x acc (aR l)∧σ'=acc++σ):=by
 refine Ds (fun h=>⟨?_,?_⟩) (fun h=>?_)
 ·subst h;refine ay Tryz.func256 ?_;exact .done ⟨[],.nil,rfl⟩
 ·subst h;refine ay Tryz.func256 ?_;intro b;refine AppendAt.more 0 b 0 0 [] _ rfl rfl (cy rfl) .gT (by decide) (by decide) (by decide) (fun b'=>?_);exact .done ⟨[(b',[])],.ae b' 0 [] rfl,rfl⟩
 ·refine ay Tryz.func256 ?_;refine aJ.mk (mX.2 h) ?_;intro b;refine AppendAt.more 0 b 0 l.length [] _ rfl rfl (cy rfl) (.ah (.int .u64) l rfl) (by omega) (by decide) (by decide) (fun b'=>?_);refine .done ⟨[(b',aR l)],?_,?_⟩
  ·rw[Nat.zero_add];exact .ae b' l.length _ (by simp[aR])
  ·show (b',[]++l.flatMap (Sh.cells (.int .u64)))::σ=_;rw[lA];rfl
theorem ajO(a:List Int)(l:List dp)(σ:Hp)(ha:bh a)(la:a.length≤10000)(ll:l.length≤1000000)(hl:l.all (gL a.length)=true):ACalls Tryz.prog 302 [.ah (.int .u64) a,.ah jS l] σ (aC (.ah (.int .u64) (iB a l)) σ):=by
 refine ay Tryz.func302 ?_;intro q;refine aa 0 ?_;refine .mk [] _ (V3 a _ (by omega)) ?_;rintro v σ' ⟨acc,cj,rfl⟩;generalize hn:a.length=n at cj la hl;generalize jL:aR a=cs at cj;cases cj with
 |nil=>
  have h0:a=[]:=iz.1 hn;subst h0;cases l with
  |cons c l=>
   have:=DH (fG.1 hl c (b9 ..));exact absurd this (by omega)
  |nil=>
   refine aj 0 ?_;refine ca (S:=Unit) (fun _=>[(2,.ptr q 0),(12,.int .i64 0),(13,.int .i64 0)]) (fun _=>(q,[.an])::σ) (fun _=>True) (fun _=>0) () ⟨trivial,⟨rfl,rfl,rfl,trivial⟩,rfl⟩ ?_;rintro _ _ _;refine aa 0 ?_;exact .drop 0 1 (.nil (.nil _) (.done ⟨rfl,rfl⟩))
 |ae b n cs h=>
 subst jL;refine aj 1 ?_;refine ca (S:=Nat) (fun s=>[(2,.ptr q 0),(5,.fn (.func 330) [] [.ptr q 0]),(11,.ah jS l),(12,.int .i64 l.length),(13,.int .i64 s)]) (fun s=>(b,aR (iB a (l.take s)))::(q,[.ae b 0 n 1])::σ) (fun s=>s≤l.length) (fun s=>l.length-s) 0 ⟨bC _,⟨rfl,rfl,rfl,rfl,rfl,trivial⟩,rfl⟩ ?_;intro s t ox;have hs:s≤l.length:=ox;clear ox;have hA:bh (iB a (l.take s)):=NF ha _;have hlen:(iB a (l.take s)).length=n:=(Hj a _).trans hn;refine ao (fun ab=>?_) (fun au=>?_)
 ·have ab:s<l.length:=by have ab:(s:Int)<l.length:=ab;omega
  have hd:=UN a (l.take s) l[s];rw[← ft ab]at hd;have lp:=fG.1 hl l[s] (cq ab);obtain⟨c,hc⟩:∃c:dp,l[s]=c:=⟨_,rfl⟩
  rw[hc]at hd lp;have hv:=DH lp;have ho:=H5 lp;refine aJ.mk rfl (bO.mk c (by omega) ((get_some ab).trans (congrArg some hc)) ?_);clear hc lp;generalize iB a (l.take s)=A at hA hlen hd;intro dJ;refine aj 0 ?_;refine aa 0 ?_;refine ao (p:=c.2.1 = -1) (fun d5=>?_) (fun d5=>?_)
  ·refine aa 2 ?_;refine aa 0 ?_;refine aO ?_;have pD:pc A c=1:=af d5;refine cU 1 rfl (BO (i:=c.1.toNat) (by omega) _ (by omega)) ?_;refine a8 (s+1) (by show l.length-(s+1)<l.length-s;omega) ab ⟨rfl,rfl,rfl,rfl,aX (by omega),trivial⟩ (.drop 0 1 (aL ?_));rw[hd,r8,pD];rfl
  ·have ho2:=ho.2 d5;have pD:pc A c=kg c.2.1 (kc A c.2.2.1) (kc A c.2.2.2.1):=ag d5;refine .sched [8,12,13] (upto [8,12,13] 16 0) (by kernel_rfl) ?_;refine aa 2 ?_;refine aa 0 ?_;refine aa 0 ?_;refine aa 0 ?_;refine aK [2,1] (Yh A n hlen c.2.2.1 q b _ ho2.1) ?_;refine aa 0 ?_;refine aK [2,1] (Yh A n hlen c.2.2.2.1 q b _ ho2.2) ?_;refine aK [] (ak0 _ _ _ _ (H9 hA _) (H9 hA _)) ?_;refine aO ?_;refine cU 1 rfl (BO (i:=c.1.toNat) (by omega) _ (by omega)) ?_;refine a8 (s+1) (by show l.length-(s+1)<l.length-s;omega) ab ⟨rfl,rfl,rfl,rfl,aX (by omega),trivial⟩ (.drop 0 1 (aL ?_));rw[hd,r8,pD];rfl
 ·have au:s=l.length:=by have au:¬(s:Int)<l.length:=au;omega
  subst au;rw[ga]at hlen ⊢;refine aa 1 ?_
  have gD:((aR (iB a l)).drop 0).take (n*1)=(iB a l).flatMap (Sh.cells (.int .u64)):=by
   rw[gR,← lA];exact eR (by rw[aR,bX];omega)
  exact .cN 0 b 0 n 1 _ (.int .u64) (iB a l) rfl gD ⟨hlen,rfl,by decide⟩ .here (.drop 0 1 (.done ⟨rfl,rfl⟩))
theorem UX(a:List Int)(n:Nat)(hn:a.length=n)(r:pv)(b:Nat)(σ:Hp)(hr:qV n r=true):ACalls Tryz.prog 265 [.ae b 0 n 1,.agg (E8 r)] ((b,aR a)::σ) (aC (.int .u64 (kc a r)) ((b,aR a)::σ)):=by
 refine ay Tryz.func265 ?_;intro aF;refine aa 0 ?_;refine ao (p:=r.1<0) (fun c2=>?_) (fun c2=>?_)
 ·have c3:r.1 = -1:=by
   by_cases h:r.1 = -1
   ·exact h
   ·have:=Dz hr h;omega
  have e:kc a r=lQ r.2.1.1 r.2.1.2.1:=af c3;refine aa 0 ?_;refine ax [] (EK _ _ _) ?_;exact .drop 0 1 (.done ⟨aT e.symm,rfl⟩)
 ·have c3:¬r.1 = -1:=by omega
  have hv:=Dz hr c3;have e:kc a r=wd a r.1.toNat:=ag c3;refine aa 0 ?_;refine aJ.mk ⟨rfl,hv.1,hv.2⟩ ?_;refine aW 1 rfl (Jf (i:=r.1.toNat) (by omega) (by omega)) ?_;exact .drop 0 1 (.done ⟨aT e.symm,rfl⟩)
def gz(what:Int)(g k:List Int)(l:List dp)(a:List Int):List Int:=
 if what=3 then (if (a.any fun z=>decide (0=z))=true then List.replicate a.length 0 else iB a l) else dD iH (dD fR a k) g
theorem Hn{what:Int}(h:¬what=3)(g k:List Int)(l:List dp)(a:List Int):gz what g k l a=dD iH (dD fR a k) g:=ag h
theorem Ha{what:Int}(h:what=3){a:List Int}(h0:(a.any fun z=>decide (0=z))=true)(g k:List Int)(l:List dp):gz what g k l a=List.replicate a.length 0:=by unfold gz;rw[af h,af h0]
theorem DL{what:Int}(h:what=3){a:List Int}(h0:(a.any fun z=>decide (0=z))=false)(g k:List Int)(l:List dp):gz what g k l a=iB a l:=by unfold gz;rw[af h,h0];rfl
theorem agh(what:Int)(g k:List Int)(l:List dp)(a:List Int)(σ:Hp)(hg:bh g)(hk:bh k)(ha:bh a)(lg:g.length≤10000)(lk:k.length≤10000)(la:a.length≤10000)(ll:l.length≤1000000)(hl:what=3→l.all (gL a.length)=true):ACalls Tryz.prog 227 [.int .i64 what,.agg (Co g k l),.ah (.int .u64) a] σ (aC (.ah (.int .u64) (gz what g k l a)) σ):=by
 refine ay Tryz.func227 ?_;intro q;refine dX (fun c=>?_) (fun c=>?_)
 ·have c:¬(what=3):=by simpa using c
  rw[Hn c];have hm:(dD fR a k).length≤10000:=by rw[qI];omega
  refine .quiet (by kernel_rfl) ?_;refine aa 0 ?_;refine aK [] (agx a k _ ha hk la lk) ?_;refine aa 0 ?_;refine aK [] (agy (dD fR a k) g _ (Bp a k) hg hm lg) ?_;exact .drop 0 1 (.done ⟨rfl,rfl⟩)
 ·have c:what=3:=by simpa using c
  have hl:=hl c;intro aF;refine AppendAt.more 0 aF 0 a.length [] _ rfl rfl (cy rfl) (.ah (.int .u64) a rfl) (by omega) (by decide) (by decide) (fun b=>?_);have jL:List.take (0*1) []++a.flatMap (Sh.cells (.int .u64))=aR a:=by rw[lA];rfl
  rw[jL,dI];refine ca (S:=Nat) (fun s=>[(2,.ah (.int .u64) a),(4,.ptr q 0),(7,.ae b 0 a.length 1),(25,.ah (.int .u64) a),(26,.int .i64 a.length),(27,.int .i64 s)]) (fun _=>(b,aR a)::(q,Co g k l)::σ) (fun s=>s≤a.length∧((a.take s).any fun z=>decide (0=z))=false) (fun s=>a.length-s) 0 ⟨⟨bC _,rfl⟩,⟨rfl,rfl,rfl,rfl,rfl,rfl,trivial⟩,rfl⟩ ?_;rintro s t ⟨ox,iv⟩;have hs:s≤a.length:=ox;have hz:((a.take s).any fun z=>decide (0=z))=false:=iv;clear ox iv;refine ao (fun ab=>?_) (fun au=>?_)
  ·have ab:s<a.length:=by have ab:(s:Int)<a.length:=ab;omega
   have iK:=sU ab fun z=>decide (0=z);rw[hz,pI]at iK;refine aJ.mk rfl (bO.mk a[s] (by omega) (get_some ab) ?_);refine ao (p:=a[s]=0) (fun e=>?_) (fun e=>?_)
   ·have h0:(a.any fun z=>decide (0=z))=true:=mW.2 ⟨a[s],cq ab,bu e.symm⟩;rw[Ha c h0];have la2:(a.length:Int)≤1048576:=by omega
    refine aJ.mk ⟨GJ _,kl _,la2,by decide⟩ ?_;intro bz;show Fin _ (.ae bz 0 a.length 1) ((bz,cI [.int .u64 0] a.length)::(b,aR a)::(q,Co g k l)::σ);rw[x7];generalize hZ:List.replicate a.length (0:Int)=Z;have gx:Z.length=a.length:=by rw[← hZ,fQ]
    refine .cN 0 bz 0 _ 1 _ (.int .u64) Z rfl ?_ ⟨gx,rfl,by decide⟩ .here (.drop 0 2 (.done ⟨rfl,rfl⟩));rw[gR,← lA];exact eR (by rw[aR,bX,gx];omega)
   ·exact a8 (s+1) (by show a.length-(s+1)<a.length-s;omega) ⟨ab,iK.trans (cf fun h=>e h.symm)⟩ ⟨rfl,rfl,rfl,rfl,rfl,aX (by omega),trivial⟩ (.refl _)
  ·have au:s=a.length:=by have au:¬(s:Int)<a.length:=au;omega
   subst au;rw[ga]at hz;rw[DL c hz];refine aa 1 ?_;generalize hn:a.length=n at la hl;refine ca (S:=Nat) (fun s=>[(7,.ae b 0 n 1),(38,.ah jS l),(39,.int .i64 l.length),(40,.int .i64 s)]) (fun s=>(b,aR (iB a (l.take s)))::(q,Co g k l)::σ) (fun s=>s≤l.length) (fun s=>l.length-s) 0 ⟨bC _,⟨rfl,rfl,rfl,rfl,trivial⟩,rfl⟩ ?_;intro s t ox;have hs:s≤l.length:=ox;clear ox;have hA:bh (iB a (l.take s)):=NF ha _;have hlen:(iB a (l.take s)).length=n:=(Hj a _).trans hn;refine ao (fun ab=>?_) (fun au=>?_)
   ·have ab:s<l.length:=by have ab:(s:Int)<l.length:=ab;omega
    have hd:=UN a (l.take s) l[s];rw[← ft ab]at hd;have lp:=fG.1 hl l[s] (cq ab);obtain⟨c,hc⟩:∃c:dp,l[s]=c:=⟨_,rfl⟩
    rw[hc]at hd lp;have hv:=DH lp;have ho:=H5 lp;refine aJ.mk rfl (bO.mk c (by omega) ((get_some ab).trans (congrArg some hc)) ?_);clear hc lp;generalize iB a (l.take s)=A at hA hlen hd;intro dJ;refine aj 0 ?_;refine aa 0 ?_;refine ao (p:=0≤c.2.1) (fun d5=>?_) (fun d5=>?_)
    ·refine .quiet (by kernel_rfl) ?_;refine aa 0 ?_;refine aa 0 ?_;refine aK [1] (UX A n hlen c.2.2.1 b _ (ho.2 (by omega)).1) ?_;refine aa 0 ?_;refine aK [1] (UX A n hlen c.2.2.2.1 b _ (ho.2 (by omega)).2) ?_;refine aK [] (ahG _ _ _ _ (H9 hA _) (H9 hA _)) ?_;refine aa 0 ?_;refine aO ?_;have pD:pc A c=kg c.2.1 (kc A c.2.2.1) (kc A c.2.2.2.1):=ag (by omega);refine cU 1 rfl (BO (i:=c.1.toNat) (by omega) _ (by omega)) ?_;refine a8 (s+1) (by show l.length-(s+1)<l.length-s;omega) ab ⟨rfl,rfl,rfl,aX (by omega),trivial⟩ (.drop 0 1 (aL ?_));rw[hd,r8,pD];rfl
    ·refine aa 0 ?_;refine aO ?_;have pD:pc A c=1:=af (by omega);refine cU 1 rfl (BO (i:=c.1.toNat) (by omega) _ (by omega)) ?_;refine a8 (s+1) (by show l.length-(s+1)<l.length-s;omega) ab ⟨rfl,rfl,rfl,aX (by omega),trivial⟩ (.drop 0 1 (aL ?_));rw[hd,r8,pD];rfl
   ·have au:s=l.length:=by have au:¬(s:Int)<l.length:=au;omega
    subst au;rw[ga]at hlen ⊢
    have gD:((aR (iB a l)).drop 0).take (n*1)=(iB a l).flatMap (Sh.cells (.int .u64)):=by
     rw[gR,← lA];exact eR (by rw[aR,bX];omega)
    exact .cN 0 b 0 n 1 _ (.int .u64) (iB a l) rfl gD ⟨hlen,rfl,by decide⟩ .here (.drop 0 1 (.done ⟨rfl,rfl⟩))
def wP(what w:Int)(g k:List Int)(l:List dp)(a:List Int):Int:=if fT what w g k l=0 then (if dg what w a=true then 0 else 2) else fT what w g k l
theorem adO{what w:Int}{g k:List Int}{l:List dp}{a:List Int}(h:¬fT what w g k l=0):wP what w g k l a=fT what w g k l:=ag h
theorem Nd{what w:Int}{g k:List Int}{l:List dp}{a:List Int}(h:fT what w g k l=0)(hv:dg what w a=true):wP what w g k l a=0:=by unfold wP;rw[af h,af hv]
theorem adN{what w:Int}{g k:List Int}{l:List dp}{a:List Int}(h:fT what w g k l=0)(hv:dg what w a=false):wP what w g k l a=2:=by unfold wP;rw[af h,hv];rfl
theorem ME{what w:Int}{g k:List Int}{l:List dp}(h:fT what w g k l=0):cO what w=true∧zZ what w g k l=true:=by
 unfold fT at h;cases hi:cO what w with
 |false=>rw[hi]at h;exact absurd h (by simp)
 |true=>
  rw[hi,af rfl]at h;cases ht:zZ what w g k l with
  |false=>rw[ht]at h;exact absurd h (by simp)
  |true=>exact⟨rfl,rfl⟩
theorem Ss{what w:Int}{a:List Int}(h:dg what w a=true)(h3:what=3):(a.length:Int)=w:=by
 have hl:=xY h;have hi:cO what w=true:=by unfold dg at h;simp at h;exact h.1.1
 rw[hl];unfold eG;rw[af hi,af h3]
theorem ae0{what w:Int}{a:List Int}(h:dg what w a=true)(h3:what=3):gC what w=List.replicate a.length 0:=by
 unfold gC;rw[ag (fun h=>by omega),← xY h,bG]
theorem ag6(what w:Int)(g k:List Int)(l:List dp)(a:List Int)(σ:Hp)(hg:bh g)(hk:bh k)(ha:bh a)(lg:g.length≤10000)(lk:k.length≤10000)(la:a.length≤10000)(ll:l.length≤1000000):ACalls Tryz.prog 276 [.int .i64 what,.int .i64 w,.agg (Co g k l),.ah (.int .u64) a] σ (aC (.tup [.ah (.int .u64) (tA (wP what w g k l a) (gz what g k l a)),.int .i64 (wP what w g k l a)]) σ):=by
 refine ay Tryz.func276 ?_;have hm:(dD fR a k).length≤10000:=by rw[qI];omega
 intro aF;refine aa 0 ?_;refine ax [] (Ni what w g k l _ hg hk lg lk ll) ?_;refine dX (fun c2=>?_) (fun c2=>?_)
 ·have c2:¬(fT what w g k l=0):=by simpa using c2
  rw[adO c2,Ip c2];exact .nil (eF (.nil _) (.refl _)) (.drop 0 1 (.done ⟨rfl,rfl⟩))
 ·have c2:fT what w g k l=0:=by simpa using c2
  refine eY [] (J0 what w a _ ha (by omega)) (fun cV=>?_) (fun cV=>?_)
  ·refine dX (fun c3=>?_) (fun c3=>?_)
   ·have c3:¬(what=3):=by simpa using c3
    refine .quiet (by kernel_rfl) ?_;refine aa 0 ?_;refine aK [] (WR a k _ (by omega) (by omega)) ?_;refine aa 0 ?_;refine aK [] (ahv (dD fR a k) g _ (by omega) (by omega)) ?_;rw[Nd c2 cV,Ee rfl,Hn c3];exact .drop 0 1 (.done ⟨rfl,rfl⟩)
   ·have c3:what=3:=by simpa using c3
    refine eY [] (aas a 0 _ (by omega)) (fun cZ=>?_) (fun cZ=>?_)
    ·refine ax [] (MI what w _) ?_;rw[Nd c2 cV,Ee rfl,Ha c3 cZ,← ae0 cV c3];exact .drop 0 1 (.done ⟨rfl,rfl⟩)
    ·refine aa 0 ?_
     have PL:l.all (gL a.length)=true:=by
      have ht:=(ME c2).2;rw[FJ c3,bS]at ht;rw[Ss cV c3];exact ht.2
     rw[Nd c2 cV,Ee rfl,DL c3 cZ];refine ax [] (ajO a l _ ha la ll PL) ?_;exact .drop 0 1 (.done ⟨rfl,rfl⟩)
  ·rw[adN c2 cV,Ip (by decide)];exact .nil (eF (.nil _) (.refl _)) (.drop 0 1 (.done ⟨rfl,rfl⟩))
theorem acg{x y:Int}(hx:bK x)(hy:bK y)(h:∀k,k<64→x.toNat.testBit k=y.toNat.testBit k):x=y:=by
 have e:x.toNat=y.toNat:=by
  refine C3 fun k=>?_
  rcases xp k 64 with hk | hk
  ·exact h k hk
  ·rw[xA (sL (uO hx) (vI (by decide:0<2) hk)),xA (sL (uO hy) (vI (by decide:0<2) hk))]
 have h1:=zy hx;have h2:=zy hy;omega
def eC(a:List Int)(i k:Nat):Bool:=(wd a i).toNat.testBit k
theorem Ih{a b:List Int}(ha:bh a)(hb:bh b)(hl:a.length=b.length)(h:∀i k,i<a.length→k<64→eC a i k=eC b i k):a=b:=
 zH hl fun i hi=>acg (lG ha i) (lG hb i) fun k hk=>h i k hi hk
theorem HN(k:Nat):(0:Int).toNat.testBit k=false:=Nat.zero_testBit k
theorem Xf(a b:List Int):bh (dD iH a b):=Eu fun _ _=>Wo _ _
theorem Wn{a b:List Int}(ha:bh a)(hb:bh b)(i k:Nat):eC (dD iH a b) i k=(eC a i k||eC b i k):=by
 unfold eC
 rcases xp i (max a.length b.length) with h | h
 ·rw[zw _ _ _ h,MZ (lG ha i) (lG hb i)]
 ·rw[zx (by rw[qI];exact h),zx (a:=a) (by omega),zx (a:=b) (by omega),HN];rfl
theorem WJ{a b:List Int}(ha:bh a)(hb:bh b)(i:Nat){k:Nat}(hk:k<64):eC (dD fR a b) i k=(eC a i k&&!eC b i k):=by
 unfold eC
 rcases xp i (max a.length b.length) with h | h
 ·rw[zw _ _ _ h,IC (lG ha i) (lG hb i) hk]
 ·rw[zx (by rw[qI];exact h),zx (a:=a) (by omega),HN];rfl
theorem oT{a:List Int}{w:Int}(h:gK a w=true):a.length=ef w:=by
 unfold gK at h;rw[bS]at h;exact fP h.1
theorem rU{a:List Int}{w:Int}(ha:bh a)(hl:a.length=ef w):gK a w=true↔∀i k,i<a.length→k<64→eI w≤64*i+k→eC a i k=false:=by
 rw[aby ha hl];unfold hasB eC;constructor
 ·intro h i k hi hk hc;have:=h (64*i+k) hc (by omega);rw[show (64*i+k) / 64=i by omega,show (64*i+k) % 64=k by omega]at this;exact this
 ·intro h n h1 h2;exact h (n / 64) (n % 64) (by omega) (by omega) (by omega)
theorem afc{a b:List Int}{w:Int}(ha:bh a)(hb:bh b)(fa:gK a w=true)(fb:gK b w=true):gK (dD iH a b) w=true:=by
 have la:=oT fa;have lb:=oT fb;have hl:(dD iH a b).length=ef w:=by rw[qI];omega
 rw[rU (Xf _ _) hl];intro i k hi hk hc;rw[Wn ha hb,(rU ha la).1 fa i k (by omega) hk hc,(rU hb lb).1 fb i k (by omega) hk hc];rfl
theorem afV{a b:List Int}{w:Int}(ha:bh a)(hb:bh b)(fa:gK a w=true)(lb:b.length≤ef w):gK (dD fR a b) w=true:=by
 have la:=oT fa;have hl:(dD fR a b).length=ef w:=by rw[qI];omega
 rw[rU (Bp _ _) hl];intro i k hi hk hc;rw[WJ ha hb i hk,(rU ha la).1 fa i k (by omega) hk hc];rfl
def NZ(a:List Int):Prop:=∀z∈a,aM z=z∧z≠0
theorem IG{a:List Int}{i:Nat}(h:i<a.length):wd a i∈a:=by rw[lC a h];exact cq h
theorem Uj(x y:Int):aM (lQ x y)=lQ x y∧lQ x y≠0:=⟨norm_num (ah3 x y),by have:=ah4 x y;omega⟩
theorem H8{a:List Int}(h:NZ a){r:pv}(hr:qV a.length r=true):aM (kc a r)=kc a r∧kc a r≠0:=by
 unfold kc;split
 ·exact Uj _ _
 ·rename_i h1
  have hv:=Dz hr h1;exact h _ (IG (by omega))
theorem Um:aM 1=1:=rfl
theorem aeY(op a b:Int):aM (nt op a b)=nt op a b∧nt op a b≠0:=by
 unfold nt;split
 ·exact Uj _ _
 ·exact⟨rfl,by decide⟩
theorem Vs(op:Int){a b:Int}(ha:aM a≠0)(hb:aM b≠0):aM (gg op a b)=gg op a b∧gg op a b≠0:=by
 unfold gg;rw[ag (by omega)];split
 ·exact⟨rfl,by decide⟩
 ·exact aeY _ _ _
theorem agZ(op:Int){a b:Int}(ha:aM a≠0)(hb:aM b≠0):aM (kg op a b)=kg op a b∧kg op a b≠0:=by
 unfold kg;split
 ·exact Vs _ ha (by rw[DS];decide)
 ·exact Vs _ ha hb
theorem afq{a:List Int}(h:NZ a){c:dp}(hc:gL a.length c=true):aM (pc a c)=pc a c∧pc a c≠0:=by
 unfold pc;split
 ·exact⟨rfl,by decide⟩
 ·rename_i h1
  have ho:=(H5 hc).2 h1;have h1:=H8 h ho.1;have h2:=H8 h ho.2;exact agZ _ (by rw[h1.1];exact h1.2) (by rw[h2.1];exact h2.2)
theorem TO{a:List Int}(h:NZ a){c:dp}(hc:gL a.length c=true):NZ (r8 a c):=fun z hz=>by
 rcases qG hz with h' | rfl
 ·exact h z h'
 ·exact afq h hc
theorem MC(a:List Int)(c:dp)(l:List dp):iB a (c::l)=iB (r8 a c) l:=rfl
theorem all_cons{α:Type}{p:α→Bool}{c:α}{l:List α}(h:(c::l).all p=true):p c=true∧l.all p=true:=by
 rw[List.all_cons,bS]at h;exact h
theorem WE:∀{l:List dp} {a:List Int},NZ a→l.all (gL a.length)=true→NZ (iB a l)
 | [],_,h,_=>h
 |c::l,a,h,hl=>by
  have hl:=all_cons hl;rw[MC];exact WE (TO h hl.1) (by rw[A1];exact hl.2)
def Al(a b:List Int):Prop:=a.length=b.length∧∀i,i<a.length→wd a i=wd b i∨wd b i=1
theorem Vb{a b:List Int}(h:Al a b){r:pv}(hr:qV a.length r=true):kc a r=kc b r∨kc b r=1:=by
 unfold kc
 by_cases h1:r.1 = -1
 ·rw[af h1,af h1];exact .inl rfl
 ·have hv:=Dz hr h1;rw[ag h1,ag h1];exact h.2 _ (by omega)
theorem Vr(op:Int){a b a' b':Int}(AF:aM a'≠0)(yT:aM b'≠0)(h1:a=a'∨a'=1)(h2:b=b'∨b'=1):gg op a b=gg op a' b'∨gg op a' b'=1:=by
 by_cases c:aM a'=1∨aM b'=1
 ·exact .inr (by unfold gg;rw[ag (by omega),af c])
 ·rcases h1 with rfl | rfl
  ·rcases h2 with rfl | rfl
   ·exact .inl rfl
   ·exact absurd (Or.inr Um) c
  ·exact absurd (Or.inl Um) c
theorem agY(op:Int){a b a' b':Int}(AF:aM a'≠0)(yT:aM b'≠0)(h1:a=a'∨a'=1)(h2:b=b'∨b'=1):kg op a b=kg op a' b'∨kg op a' b'=1:=by
 unfold kg;split
 ·exact Vr op AF (by rw[DS];decide) h1 (.inl rfl)
 ·exact Vr op AF yT h1 h2
theorem afp{a b:List Int}(hb:NZ b)(h:Al a b){c:dp}(hc:gL a.length c=true):pc a c=pc b c∨pc b c=1:=by
 unfold pc
 by_cases h1:c.2.1 = -1
 ·rw[af h1,af h1];exact .inl rfl
 ·have ho:=(H5 hc).2 h1;rw[ag h1,ag h1];have hl:(a.length:Int)=b.length:=by rw[h.1]
  have n1:=H8 hb (hl▸ho.1);have n2:=H8 hb (hl▸ho.2);exact agY _ (by rw[n1.1];exact n1.2) (by rw[n2.1];exact n2.2) (Vb h ho.1) (Vb h ho.2)
theorem V4{a:List Int}{i j:Nat}(h:i<a.length)(z:Int):wd (a.set i z) j=if i=j then z else wd a j:=by
 unfold wd;split
 ·rename_i e;subst e;rw[List.getElem?_set_self h];rfl
 ·rename_i e;rw[Qh e]
theorem acv{a b:List Int}(hb:NZ b)(h:Al a b){c:dp}(hc:gL a.length c=true):Al (r8 a c) (r8 b c):=by
 have hv:=DH hc;have hl:=h.1;refine⟨by rw[A1,A1];exact h.1,fun i hi=>?_⟩;rw[A1]at hi;unfold r8;rw[V4 (by omega),V4 (by omega)];split
 ·exact afp hb h hc
 ·exact h.2 i hi
theorem WD:∀{l:List dp} {a b:List Int},NZ b→Al a b→l.all (gL a.length)=true→Al (iB a l) (iB b l)
 | [],_,_,_,h,_=>h
 |c::l,a,b,hb,h,hl=>by
  have hl:=all_cons hl;rw[MC,MC];exact WD (TO hb (h.1▸hl.1)) (acv hb h hl.1) (by rw[A1];exact hl.2)
theorem Np{what w:Int}{g k:List Int}{l:List dp}(h:fT what w g k l=0)(h3:¬what=3):gK g w=true∧gK k w=true∧l=[]:=by
 have h:=(ME h).2;rw[w5 h3,bS,bS]at h;exact⟨h.1.2,h.2,iz.1 (fP h.1.1)⟩
theorem MN{what w:Int}{g k:List Int}{l:List dp}(h:fT what w g k l=0)(h3:what=3):g=[]∧k=[]∧l.all (gL w)=true:=by
 have h:=(ME h).2;rw[FJ h3,bS]at h;have h0:=fP h.1;exact⟨iz.1 (by omega),iz.1 (by omega),h.2⟩
theorem Sm{what w:Int}(hi:cO what w=true)(h3:¬what=3):eG what w=ef w:=by unfold eG;rw[af hi,ag h3]
theorem Rr{what w:Int}(hi:cO what w=true)(h3:what=3):eG what w=w:=by unfold eG;rw[af hi,af h3]
theorem nk{what w:Int}{a:List Int}(h:dg what w a=true):cO what w=true:=by unfold dg at h;rw[bS,bS]at h;exact h.1.1
theorem qL{what w:Int}{a:List Int}(hi:cO what w=true)(h3:¬what=3):dg what w a=true↔gK a w=true:=by
 unfold dg;rw[ag h3,hi,AJ,bS,Sm hi h3];refine⟨fun h=>h.2,fun h=>⟨bu ?_,h⟩⟩;rw[oT h]
theorem ka{what w:Int}{a:List Int}(hi:cO what w=true)(h3:what=3):dg what w a=true↔(a.length:Int)=w∧okW a=true:=by
 unfold dg;rw[af h3,hi,AJ,bS,Rr hi h3,decide_eq_true_eq]
theorem zB{a:List Int}:okW a=true↔∀z∈a,aM z=z:=by unfold okW;rw[fG];exact forall₂_congr fun _ _=>decide_eq_true_iff
theorem any_zero{a:List Int}:(a.any fun z=>decide (0=z))=true↔0∈a:=by
 rw[mW];exact⟨fun ⟨z,hz,h⟩=>(fP h)▸hz,fun h=>⟨0,h,bu rfl⟩⟩
theorem Xh{a:List Int}(h:okW a=true)(h0:(a.any fun z=>decide (0=z))=false):NZ a:=fun z hz=>⟨zB.1 h z hz,fun e=>by subst e;rw[any_zero.2 hz]at h0;exact Bool.noConfusion h0⟩
theorem ai6{a:List Int}(h:NZ a):(a.any fun z=>decide (0=z))=false:=by
 cases hb:a.any fun z=>decide (0=z) with
 |false=>rfl
 |true=>exact absurd rfl (h 0 (any_zero.1 hb)).2
theorem Uh(n:Nat):okW (List.replicate n 0)=true:=zB.2 fun z hz=>by rw[(Qc.1 hz).2];rfl
theorem Nq(n:Nat):bh (List.replicate n (0:Int)):=fun z hz=>by rw[(Qc.1 hz).2];exact⟨by omega,by omega⟩
theorem Bi{what:Int}{g k:List Int}{l:List dp}{a:List Int}(ha:bh a):bh (gz what g k l a):=by
 unfold gz;split
 ·split
  ·exact Nq _
  ·exact NF ha l
 ·exact Xf _ _
theorem zf{what w:Int}{g k:List Int}{l:List dp}{a:List Int}(hc:fT what w g k l=0)(hv:dg what w a=true):(gz what g k l a).length=a.length:=by
 unfold gz;split
 ·split
  ·exact fQ
  ·exact Hj _ _
 ·rename_i h3
  have hf:=Np hc h3;have h1:=oT hf.1;have h2:=oT hf.2.1;have h3:=oT ((qL (nk hv) h3).1 hv);rw[qI,qI];omega
theorem HK{what w:Int}{g k:List Int}{l:List dp}{a:List Int}(hg:bh g)(hk:bh k)(ha:bh a)(hc:fT what w g k l=0)(hv:dg what w a=true):dg what w (gz what g k l a)=true:=by
 have hi:=nk hv
 by_cases h3:what=3
 ·have pB:=(ka hi h3).1 hv;rw[ka hi h3,zf hc hv];refine⟨pB.1,?_⟩;have hl:=(MN hc h3).2.2;cases hz:a.any fun z=>decide (0=z) with
  |true=>rw[Ha h3 hz];exact Uh _
  |false=>
   rw[DL h3 hz];exact zB.2 fun z hm=>(WE (Xh pB.2 hz) (by rw[pB.1];exact hl) z hm).1
 ·have hf:=Np hc h3;have pB:=(qL hi h3).1 hv;rw[qL hi h3,Hn h3];exact afc (Bp _ _) hg (afV ha hk pB (y5 (oT hf.2.1))) hf.1
def FN(a b:List Int):Prop:=a.length=b.length∧∀i,i<a.length→wd a i=wd b i∨wd a i=0∨wd b i=1
theorem zD{what:Int}{a b:List Int}{i:Nat}(h:i<a.length)(h2:i<b.length):wd (dz what a b) i=da what (wd a i) (wd b i):=by
 have hj:i<(dz what a b).length:=by unfold dz;rw[List.length_zipWith];omega
 rw[lC _ hj,lC _ h,lC _ h2];simp[dz]
theorem RW(a b:Int):aM (kS a b)=kS a b:=by
 have hn:∀w,aM (aM w)=aM w:=fun w=>by
  unfold aM
  by_cases h0:w=0
  ·simp[h0]
  ·by_cases h1:w=1
   ·simp[h1]
   ·cases hk:eT w with
    |true=>simp[h0,h1,hk]
    |false=>simp[h0,h1]
 unfold kS;split
 ·exact hn _
 ·split
  ·exact hn _
  ·rfl
theorem r7(a b:Int):da 3 a b=kS a b:=rfl
theorem jv{what:Int}{a b:List Int}(h:a.length=b.length):(dz what a b).length=a.length:=by unfold dz;rw[List.length_zipWith];omega
theorem adr{a b:List Int}:okW (dz 3 a b)=true:=zB.2 fun z hz=>by
 obtain⟨i,hi,rfl⟩:=xz.1 hz;simp only[dz,List.getElem_zipWith];exact RW _ _
theorem x8{a:List Int}(h:okW a=true){i:Nat}(hi:i<a.length):aM (wd a i)=wd a i:=zB.1 h _ (IG hi)
theorem afx{a b:List Int}(ha:okW a=true)(hb:okW b=true)(hl:a.length=b.length):FN a (dz 3 a b)∧FN b (dz 3 a b):=by
 refine⟨⟨(jv hl).symm,fun i hi=>?_⟩,⟨by rw[jv hl];exact hl.symm,fun i hi=>?_⟩⟩
 ·rw[zD hi (by omega),r7];have h1:=x8 ha hi;unfold kS;rw[h1];split
  ·exact .inl rfl
  ·split
   ·rename_i h;exact .inr (.inl h)
   ·exact .inr (.inr rfl)
 ·rw[zD (by omega) hi,r7];have h1:=x8 ha (i:=i) (by omega);have h2:=x8 hb hi;unfold kS;rw[h1,h2];split
  ·rename_i h
   rcases h with h | h
   ·exact .inl h.symm
   ·exact .inr (.inl h)
  ·split
   ·exact .inl rfl
   ·exact .inr (.inr rfl)
theorem Uv{a b:List Int}(ha:okW a=true)(hb:okW b=true)(h:FN a b):dz 3 a b=b:=by
 refine zH ((jv h.1).trans h.1) fun i hi=>?_;rw[jv h.1]at hi;have h1:=x8 ha hi;have h2:=x8 hb (i:=i) (by have:=h.1;omega);rw[zD hi (by have:=h.1;omega),r7];unfold kS;rw[h1,h2]
 rcases h.2 i hi with e | e | e
 ·rw[af (.inl e),e]
 ·rw[e]
  by_cases hc:(0:Int)=wd b i∨wd b i=0
  ·rw[af hc];omega
  ·rw[ag hc,af rfl]
 ·rw[e]
  by_cases hc:wd a i=1∨(1:Int)=0
  ·rw[af hc];omega
  ·rw[ag hc];split <;> rfl
theorem Tt{w:Int}{g k:List Int}{l:List dp}{a b:List Int}(hc:fT 3 w g k l=0)(ha:dg 3 w a=true)(hb:dg 3 w b=true)(h:FN a b):FN (gz 3 g k l a) (gz 3 g k l b):=by
 have hi:=nk ha;have va:=(ka hi rfl).1 ha;have vb:=(ka hi rfl).1 hb;refine⟨by rw[zf hc ha,zf hc hb];exact h.1,fun i ab=>?_⟩;rw[zf hc ha]at ab;cases hz:a.any fun z=>decide (0=z) with
 |true=>
  rw[Ha rfl hz];refine .inr (.inl ?_);rw[lC _ (by rw[fQ];exact ab),K9]
 |false=>
  have na:=Xh va.2 hz;have hl:=h.1
  have up:Al a b:=⟨hl,fun j hj=>by
   rcases h.2 j hj with e | e | e
   ·exact .inl e
   ·exact absurd e (na _ (IG hj)).2
   ·exact .inr e⟩
  have nb:NZ b:=fun z hz=>by
   refine⟨zB.1 vb.2 z hz,fun e=>?_⟩;obtain⟨j,hj,rfl⟩:=xz.1 hz;have e:wd b j=0:=by rw[lC _ hj];exact e
   rcases up.2 j (by omega) with e2 | e2
   ·exact (na _ (IG (i:=j) (by omega))).2 (e2.trans e)
   ·rw[e2]at e;exact absurd e (by decide)
  rw[DL rfl hz,DL rfl (ai6 nb)];have:=WD nb up (by rw[va.1];exact (MN hc rfl).2.2)
  rcases this.2 i (by rw[Hj];exact ab) with e | e
  ·exact .inl e
  ·exact .inr (.inr e)
def jK(what:Int)(x y:Bool):Bool:=if what=1 then x||y else x&&y
theorem aht{x y:Int}(hx:bK x)(hy:bK y)(k:Nat):(bits .and .u64 x y).toNat.testBit k=(x.toNat.testBit k&&y.toNat.testBit k):=by
 have e:bits .and .u64 x y=((BitVec.ofInt 64 x &&& BitVec.ofInt 64 y).toNat:Int):=by
  show IntKind.u64.wrap _=_;exact zG (BitVec.isLt _)
 rw[e,bG,BitVec.toNat_and,KN,toNat_ofInt hx,toNat_ofInt hy]
theorem IQ{what w:Int}(hi:cO what w=true)(h3:¬what=3):what=1∨what=2:=by
 unfold cO at hi;simp at hi;omega
theorem pR{what:Int}(h:what=1∨what=2){a b:List Int}(ha:bh a)(hb:bh b)(hl:a.length=b.length)(i k:Nat)(hi:i<a.length):eC (dz what a b) i k=jK what (eC a i k) (eC b i k):=by
 unfold eC jK;rw[zD hi (by omega)]
 rcases h with rfl | rfl
 ·rw[af rfl];exact MZ (lG ha i) (lG hb i) k
 ·rw[ag (by decide)];exact aht (lG ha i) (lG hb i) k
theorem ad3(what:Int)(x y g k:Bool):jK what ((x&&!k)||g) ((y&&!k)||g)=((jK what x y&&!k)||g):=by
 unfold jK;split <;> cases x <;> cases y <;> cases g <;> cases k <;> rfl
theorem Nu(what:Int)(x y:Bool):jK what x (jK what x y)=jK what x y∧jK what y (jK what x y)=jK what x y∧jK what x x=x:=by
 unfold jK;split <;> cases x <;> cases y <;> exact⟨rfl,rfl,rfl⟩
theorem abn{what w:Int}(h:what=1∨what=2){a b:List Int}(ha:bh a)(hb:bh b)(fa:gK a w=true)(fb:gK b w=true):gK (dz what a b) w=true:=by
 have la:=oT fa;have lb:=oT fb;have hl:=jv (what:=what) (la.trans lb.symm);rw[rU (ya ha hb) (hl.trans la)];intro i k hi hk hc;rw[hl]at hi;rw[pR h ha hb (la.trans lb.symm) i k hi,(rU ha la).1 fa i k hi hk hc,(rU hb lb).1 fb i k (by omega) hk hc];unfold jK;split <;> rfl
theorem Mw{what w:Int}{a b:List Int}(ha:bh a)(hb:bh b)(va:dg what w a=true)(vb:dg what w b=true):dg what w (dz what a b)=true:=by
 have hi:=nk va
 by_cases h3:what=3
 ·subst h3;have v1:=(ka hi rfl).1 va;have v2:=(ka hi rfl).1 vb;rw[ka hi rfl,jv (by omega)];exact⟨v1.1,adr⟩
 ·rw[qL hi h3];exact abn (IQ hi h3) ha hb ((qL hi h3).1 va) ((qL hi h3).1 vb)
theorem abM{what w:Int}{a b:List Int}(va:dg what w a=true)(vb:dg what w b=true):EB what w [a,b]=0:=by
 unfold EB;rw[af (nk va)];simp[va,vb]
theorem DK{what w:Int}{a b:List Int}(va:dg what w a=true)(vb:dg what w b=true)(h:dz what a b=b):zN what w a b=true:=by
 unfold zN;rw[abM va vb,h];simp
theorem abV{what w:Int}{a b:List Int}:zN what w a b=true↔dg what w a=true∧dg what w b=true∧dz what a b=b:=by
 constructor
 ·intro h;unfold zN at h;rw[bS]at h;have hc:=abL (fP h.1);exact⟨hc.1,hc.2,fP h.2⟩
 ·exact fun h=>DK h.1 h.2.1 h.2.2
theorem ai1{what w:Int}{g k a b:List Int}{l:List dp}(hg:bh g)(hk:bh k)(ha:bh a)(hb:bh b)(hc:fT what w g k l=0)(va:dg what w a=true)(vb:dg what w b=true):
  zN what w (gz what g k l a) (gz what g k l (dz what a b))=true∧zN what w (gz what g k l b) (gz what g k l (dz what a b))=true∧(¬what=3→dz what (gz what g k l a) (gz what g k l b)=gz what g k l (dz what a b)):=by
 have hi:=nk va;have OG:bh (dz what a b):=ya ha hb;have vj:=Mw ha hb va vb;have vx:=HK hg hk ha hc va;have vy:=HK hg hk hb hc vb;have vz:=HK hg hk OG hc vj;have oF:a.length=b.length:=by have h1:=xY va;have h2:=xY vb;omega
 by_cases h3:what=3
 ·subst h3;have v1:=(ka hi rfl).1 va;have v2:=(ka hi rfl).1 vb;have hu:=afx v1.2 v2.2 oF;have o:∀{x:List Int},dg 3 w x=true→okW x=true:=fun h=>((ka hi rfl).1 h).2;exact⟨DK vx vz (Uv (o vx) (o vz) (Tt hc va vj hu.1)),DK vy vz (Uv (o vy) (o vz) (Tt hc vb vj hu.2)),fun h=>absurd rfl h⟩
 ·have hs:=IQ hi h3;have hf:=Np hc h3;have lx:=zf hc va;have ly:=zf hc vb;have lz:=zf hc vj;have lj:=jv (what:=what) oF;have J7:bh (gz what g k l a):=Bi ha;have J6:bh (gz what g k l b):=Bi hb;have z64:bh (gz what g k l (dz what a b)):=Bi OG
  have bx:∀{c:List Int},bh c→∀i k',k'<64→eC (gz what g k l c) i k'=((eC c i k'&&!eC k i k')||eC g i k'):=fun hc i k' dR=>by
   rw[Hn h3,Wn (Bp _ _) hg,WJ hc hk i dR]
  have hz:∀i k',i<a.length→k'<64→eC (gz what g k l (dz what a b)) i k'=jK what (eC (gz what g k l a) i k') (eC (gz what g k l b) i k'):=fun i k' fq dR=>by
   rw[bx OG i k' dR,bx ha i k' dR,bx hb i k' dR,pR hs ha hb oF i k' fq,ad3]
  refine⟨DK vx vz ?_,DK vy vz ?_,fun _=>?_⟩
  ·refine Ih (ya J7 z64) z64 (by rw[jv (by omega)];omega) fun i k' fq dR=>?_;rw[jv (by omega)]at fq;rw[pR hs J7 z64 (by omega) i k' fq,hz i k' (by omega) dR,(Nu ..).1]
  ·refine Ih (ya J6 z64) z64 (by rw[jv (by omega)];omega) fun i k' fq dR=>?_;rw[jv (by omega)]at fq;rw[pR hs J6 z64 (by omega) i k' fq,hz i k' (by omega) dR,(Nu ..).2.1]
  ·refine Ih (ya J7 J6) z64 (by rw[jv (by omega)];omega) fun i k' fq dR=>?_;rw[jv (by omega)]at fq;rw[pR hs J7 J6 (by omega) i k' fq,hz i k' (by omega) dR]
end Go.Proofs.YtnikdflhefijbaaGreat
