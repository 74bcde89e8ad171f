import Derived.Test.YtnpidbjdilnhlaaGreatBn16
import Derived.Test.YtnpidbjdilnhlaaGreatBn11
import Derived.Test.YtnpidbjdilnhlaaGreatBn13
namespace Go.Proofs.YtnpidbjdilnhlaaGreat
open Go.RowKit
set_option maxRecDepth 100000
def kd(l:List Int):Int:=if (l.any fun w=>decide (bf w=0)) then 0 else if (l.any fun w=>decide (bf w=1)) then 1 else 2
theorem NT(l:List Int)(w:Int)(h:(l.any fun w=>decide (bf w=0))=false):kd (l++[w])=if bf w=0 then 0 else if bf w=1 then 1 else kd l:=by
 unfold kd
 rw[List.any_append,List.any_append,h]
 by_cases h0:bf w=0
 ·simp[h0]
 ·by_cases h1:bf w=1
  ·simp[h1]
  ·simp[h0,h1]
theorem NS(l:List Int){w:Int}(hm:w∈l)(h:bf w=0):kd l=0:=by
 unfold kd
 rw[if_pos]
 exact List.any_eq_true.2 ⟨w,hm,decide_eq_true h⟩
theorem Ef(l:List Int)(σ:Hp)(hl:l.length≤100000):ACalls Tryz.prog 331 [.af (.int .u64) l] σ (aB (.int .u64 (kd l)) σ):=by
 refine okF Tryz.func331 (by kernel_rfl) ?_
 refine aU (S:=Nat) (fun s=>[(3,.int .u64 (kd (l.take s))),(6,.af (.int .u64) l),(7,.int .i64 l.length),(8,.int .i64 s)]) (fun _=>σ) (fun s=>s≤l.length∧((l.take s).any fun w=>decide (bf w=0))=false) (fun s=>l.length-s) 0 ⟨⟨Nat.zero_le _,rfl⟩,⟨rfl,rfl,rfl,rfl,trivial⟩,rfl⟩ ?_
 rintro k g ⟨aG,ja⟩
 have hk:k≤l.length:=aG
 have hz:((l.take k).any fun w=>decide (bf w=0))=false:=ja
 clear aG ja
 refine an (fun ab =>?_) (fun aq =>?_)
 ·have ab:k<l.length:=by have ab:(k:Int)<l.length:=ab;omega
  have hs:=NT (l.take k) l[k] hz
  rw[← List.take_succ_eq_append_getElem ab]at hs
  have tV:((l.take (k+1)).any fun w=>decide (bf w=0))=decide (bf l[k]=0):=by
   rw[List.take_succ_eq_append_getElem ab,List.any_append,hz];simp
  refine ah.mk rfl (aT.mk l[k] (by omega) (get_some ab) ?_)
  refine az [] (EP l[k] _) ?_
  refine an (fun c1 =>?_) (fun c1 =>?_)
  ·have c1:bf l[k]=0:=c1
   refine .fwd 1 ?_
   rw[NS l (List.getElem_mem ab) c1]
   exact .done ⟨rfl,rfl⟩
  ·have c1:¬(bf l[k]=0):=c1
   refine an (fun c2 =>?_) (fun c2 =>?_)
   ·have c2:bf l[k]=1:=c2
    refine aH (k+1) (by show l.length-(k+1)<l.length-k;omega) ⟨ab,by rw[tV];exact decide_eq_false c1⟩ ⟨?_,rfl,rfl,aI (by omega),trivial⟩ (.refl _)
    rw[hs,if_neg c1,if_pos c2]
    rfl
   ·have c2:¬(bf l[k]=1):=c2
    refine aH (k+1) (by show l.length-(k+1)<l.length-k;omega) ⟨ab,by rw[tV];exact decide_eq_false c1⟩ ⟨?_,rfl,rfl,aI (by omega),trivial⟩ (.refl _)
    rw[hs,if_neg c1,if_neg c2]
    rfl
 ·have aq:k=l.length:=by have aq:¬(k:Int)<l.length:=aq;omega
  subst aq
  rw[List.take_length]
  exact .done ⟨rfl,rfl⟩
theorem UW{op:Int}(h:op=0∨op=4)(a b c d c2 d2:Int):my op a b c d=my op a b c2 d2:=by
 rcases h with rfl | rfl <;> rfl
def lL(op a b:Int):Int:=match my op (lD a) (lE a) (lD b) (lE b) with | some (x,y)=>kY x y | none=>1
def pA(op a b:Int):Int:=if bf a=0∨bf b=0 then 0 else if bf a=1∨bf b=1 then 1 else lL op a b
def mz(op a b:Int):Int:=if op=0∨op=4 then pA op a 2 else pA op a b
theorem U1(x y:Int):2≤kY x y:=by have:=z7 x y;unfold kY;omega
theorem U0(x y:Int):dY (kY x y)=true:=by
 have h1:=z7 x y
 have h2:=Df x y
 unfold dY kY;simp;omega
theorem norm_num{w:Int}(h:dY w=true):bf w=w:=by
 have:=Dn h
 unfold bf
 rw[if_neg this.1,if_neg this.2,if_pos h]
set_option maxRecDepth 100000
theorem S6{op:Int}(h:op=0∨op=4)(a b c:Int):lL op a b=lL op a c:=by
 unfold lL
 rw[UW h (lD a) (lE a) (lD b) (lE b) (lD c) (lE c)]
theorem Jm:bf 2=2:=by decide
theorem zL{op:Int}(a b:Int)(h:op=0∨op=4):mz op a b=if kd [a]=2 then lL op a b else kd [a]:=by
 unfold mz pA kd
 rw[if_pos h,Jm,S6 h a b 2]
 by_cases h0:bf a=0
 ·simp[h0]
 ·by_cases h1:bf a=1
  ·simp[h1]
  ·simp[h0,h1]
theorem Hz{op:Int}(a b:Int)(h:¬(op=0∨op=4)):mz op a b=if kd [a,b]=2 then lL op a b else kd [a,b]:=by
 unfold mz pA kd
 rw[if_neg h]
 by_cases h0:bf a=0
 ·simp[h0]
 ·by_cases h1:bf a=1
  ·by_cases g0:bf b=0
   ·simp[g0]
   ·simp[h1,g0]
  ·by_cases g0:bf b=0
   ·simp[g0]
   ·by_cases g1:bf b=1
    ·simp[h0,g1]
    ·simp[h0,h1,g0,g1]
theorem X2(op a b:Int)(σ:Hp)(ha:bh a)(hb:bh b):ACalls Tryz.prog 325 [.int .i64 op,.int .u64 a,.int .u64 b] σ (aB (.int .u64 (mz op a b)) σ):=by
 refine okF Tryz.func325 (by kernel_rfl) ?_
 intro aC
 refine .bO (args':=[.af (.int .u64) [a,b]]) 0 aC 0 2 1 _ (.int .u64) [a,b] rfl rfl ⟨rfl,rfl,by decide⟩ (bL .here nP) (az [] (Ef [a,b] _ (by show 2≤100000;omega)) ?_)
 refine an (fun c1 =>?_) (fun c1 =>?_)
 ·have c1:op=0:=c1
  intro bM
  refine .bO (args':=[.af (.int .u64) [a]]) 0 bM 0 1 1 _ (.int .u64) [a] rfl rfl ⟨rfl,rfl,by decide⟩ (bL .here nP) (az [] (Ef [a] _ (by show 1≤100000;omega)) ?_)
  generalize hL:kd [a]=L
  refine bS (fun c5 =>?_) (fun c5 =>?_)
  ·have c5:¬(L=2):=by simpa using c5
   rw[zL a b (.inl c1),if_neg (by rw[hL];exact c5),hL]
   exact .done ⟨rfl,rfl⟩
  ·have c5:L=2:=by simpa using c5
   rw[zL a b (.inl c1),if_pos (by rw[hL];exact c5)]
   refine az [] (vt a _ ha) ?_
   intro p1
   refine ai.mk 0 _ _ rfl rfl ?_
   refine az [] (vt b _ hb) ?_
   intro p2
   refine ai.mk 0 _ _ rfl rfl ?_
   refine aa.mk 1 _ _ rfl rfl ?_
   refine aa.mk 0 _ _ rfl rfl ?_
   refine az [] (Fc op _ _ _ _ _) ?_
   unfold lL
   cases hr:my op (lD a) (lE a) (lD b) (lE b) with
   | none =>
    intro p3
    refine ai.mk 0 _ _ rfl rfl ?_
    exact .drop 0 3 (.done ⟨rfl,rfl⟩)
   | some xy =>
    obtain⟨x,y⟩:=xy
    intro p3
    refine ai.mk 0 _ _ rfl rfl ?_
    refine aa.mk 0 _ _ rfl rfl ?_
    refine az [] (A8 x y _) ?_
    exact .drop 0 3 (.done ⟨rfl,rfl⟩)
 ·have c1:¬(op=0):=c1
  refine an (fun c3 =>?_) (fun c3 =>?_)
  ·have c3:op=4:=c3
   intro Cj
   refine .bO (args':=[.af (.int .u64) [a]]) 0 Cj 0 1 1 _ (.int .u64) [a] rfl rfl ⟨rfl,rfl,by decide⟩ (bL .here nP) (az [] (Ef [a] _ (by show 1≤100000;omega)) ?_)
   generalize hL:kd [a]=L
   refine bS (fun c5 =>?_) (fun c5 =>?_)
   ·have c5:¬(L=2):=by simpa using c5
    rw[zL a b (.inr c3),if_neg (by rw[hL];exact c5),hL]
    exact .done ⟨rfl,rfl⟩
   ·have c5:L=2:=by simpa using c5
    rw[zL a b (.inr c3),if_pos (by rw[hL];exact c5)]
    refine az [] (vt a _ ha) ?_
    intro p1
    refine ai.mk 0 _ _ rfl rfl ?_
    refine az [] (vt b _ hb) ?_
    intro p2
    refine ai.mk 0 _ _ rfl rfl ?_
    refine aa.mk 1 _ _ rfl rfl ?_
    refine aa.mk 0 _ _ rfl rfl ?_
    refine az [] (Fc op _ _ _ _ _) ?_
    unfold lL
    cases hr:my op (lD a) (lE a) (lD b) (lE b) with
    | none =>
     intro p3
     refine ai.mk 0 _ _ rfl rfl ?_
     exact .drop 0 3 (.done ⟨rfl,rfl⟩)
    | some xy =>
     obtain⟨x,y⟩:=xy
     intro p3
     refine ai.mk 0 _ _ rfl rfl ?_
     refine aa.mk 0 _ _ rfl rfl ?_
     refine az [] (A8 x y _) ?_
     exact .drop 0 3 (.done ⟨rfl,rfl⟩)
  ·have c3:¬(op=4):=c3
   generalize hL:kd [a,b]=L
   refine bS (fun c5 =>?_) (fun c5 =>?_)
   ·have c5:¬(L=2):=by simpa using c5
    rw[Hz a b (fun h=>h.elim c1 c3),if_neg (by rw[hL];exact c5),hL]
    exact .done ⟨rfl,rfl⟩
   ·have c5:L=2:=by simpa using c5
    rw[Hz a b (fun h=>h.elim c1 c3),if_pos (by rw[hL];exact c5)]
    refine az [] (vt a _ ha) ?_
    intro p1
    refine ai.mk 0 _ _ rfl rfl ?_
    refine az [] (vt b _ hb) ?_
    intro p2
    refine ai.mk 0 _ _ rfl rfl ?_
    refine aa.mk 1 _ _ rfl rfl ?_
    refine aa.mk 0 _ _ rfl rfl ?_
    refine az [] (Fc op _ _ _ _ _) ?_
    unfold lL
    cases hr:my op (lD a) (lE a) (lD b) (lE b) with
    | none =>
     intro p3
     refine ai.mk 0 _ _ rfl rfl ?_
     exact .drop 0 3 (.done ⟨rfl,rfl⟩)
    | some xy =>
     obtain⟨x,y⟩:=xy
     intro p3
     refine ai.mk 0 _ _ rfl rfl ?_
     refine aa.mk 0 _ _ rfl rfl ?_
     refine az [] (A8 x y _) ?_
     exact .drop 0 3 (.done ⟨rfl,rfl⟩)
set_option maxRecDepth 100000
theorem Uw(g:Nat)(cap:List AV)(l:List (Sh.T (.int .u64)))(p:Sh.T (.int .u64)→Bool)(σ:Hp)(hl:l.length≤1000000)(hg:∀(i:Nat) (hi:i<l.length),ACalls Tryz.prog g (.int .u64 l[i]::cap) σ (aB (.bool (p l[i])) σ)):ACalls Tryz.prog 214 [.af (.int .u64) l,.fn (.func g) [] cap] σ (fun r σ'=>∃n:Int,r=.int .i64 n∧σ'=σ∧decide (0≤n)=l.any p):=by
 refine okF Tryz.func214 (by kernel_rfl) ?_
 refine aU (S:=Nat) (fun s=>[(0,.af (.int .u64) l),(1,.fn (.func g) [] cap),(7,.int .i64 l.length),(8,.int .i64 s)]) (fun _=>σ) (fun s=>s≤l.length∧(l.take s).any p=false) (fun s=>l.length-s) 0 ⟨⟨Nat.zero_le _,rfl⟩,⟨rfl,rfl,rfl,rfl,trivial⟩,rfl⟩ ?_
 rintro k t ⟨aG,dS⟩
 have hk:k≤l.length:=aG
 have hn:(l.take k).any p=false:=dS
 clear aG dS
 refine an (fun ab =>?_) (fun aq =>?_)
 ·have ab:k<l.length:=by have ab:(k:Int)<l.length:=ab;omega
  have hs:=kF ab p
  rw[hn,Bool.false_or]at hs
  refine ah.mk rfl (aT.mk l[k] (by omega) (get_some ab) ?_)
  refine cm [] (hg k ab) (fun c =>?_) (fun c =>?_)
  ·have hp:l.any p=true:=List.any_eq_true.2 ⟨l[k],List.getElem_mem ab,c⟩
   exact .done ⟨_,rfl,rfl,by rw[hp];exact decide_eq_true (by omega)⟩
  ·exact aH (k+1) (by show l.length-(k+1)<l.length-k;omega) ⟨ab,hs.trans c⟩ ⟨rfl,rfl,rfl,aI (by omega),trivial⟩ (.refl _)
 ·have aq:k=l.length:=by have aq:¬(k:Int)<l.length:=aq;omega
  subst aq
  rw[List.take_length]at hn
  exact .done ⟨_,rfl,rfl,by rw[hn];rfl⟩
theorem Pd(g:Nat)(cap:List AV)(l:List (Sh.T (.int .u64)))(p:Sh.T (.int .u64)→Bool)(σ:Hp)(hl:l.length≤1000000)(hg:∀(i:Nat) (hi:i<l.length),ACalls Tryz.prog g (.int .u64 l[i]::cap) σ (aB (.bool (p l[i])) σ)):ACalls Tryz.prog 160 [.af (.int .u64) l,.fn (.func g) [] cap] σ (aB (.bool (l.any p)) σ):=by
 refine okF Tryz.func160 (by kernel_rfl) ?_
 refine .mk [] _ (Uw g cap l p _ hl hg) ?_
 rintro _ _ ⟨n,rfl,rfl,hn⟩
 rw[← hn]
 refine an (fun c =>?_) (fun c =>?_)
 ·have c:0≤n:=c
  rw[decide_eq_true c]
  exact .done ⟨rfl,rfl⟩
 ·have c:¬0≤n:=c
  rw[decide_eq_false c]
  exact .done ⟨rfl,rfl⟩
abbrev V3:Sh:=.field (.int .i64) (.field (.int .i64) .nil)
abbrev LC:Sh:=.field (.int .i64) (.field V3 .nil)
abbrev ga:Sh:=.field (.int .i64) (.field (.int .i64) (.field LC (.field LC .nil)))
abbrev X5:Type:=Int×Int×Unit
abbrev lP:Type:=Int×X5×Unit
abbrev cp:Type:=Int×Int×lP×lP×Unit
abbrev xM(r:lP):List AV:=[.int .i64 r.1,.int .i64 r.2.1.1,.int .i64 r.2.1.2.1]
abbrev LV(c:cp):List AV:=[.int .i64 c.1,.int .i64 c.2.1,.int .i64 c.2.2.1.1,.int .i64 c.2.2.1.2.1.1,.int .i64 c.2.2.1.2.1.2.1,.int .i64 c.2.2.2.1.1,.int .i64 c.2.2.2.1.2.1.1,.int .i64 c.2.2.2.1.2.1.2.1]
def Ba(c:cp):AV:=.agg (LV c)
theorem Uz(g:Nat)(cap:List AV)(l:List (Sh.T ga))(p:Sh.T ga→Bool)(σ:Hp)(hl:l.length≤1000000)(hg:∀(i:Nat) (hi:i<l.length),ACalls Tryz.prog g (Ba l[i]::cap) σ (aB (.bool (p l[i])) σ)):ACalls Tryz.prog 217 [.af ga l,.fn (.func g) [] cap] σ (fun r σ'=>∃n:Int,r=.int .i64 n∧σ'=σ∧decide (0≤n)=l.any p):=by
 refine okF Tryz.func217 (by kernel_rfl) ?_
 refine aU (S:=Nat) (fun s=>[(0,.af ga l),(1,.fn (.func g) [] cap),(7,.int .i64 l.length),(8,.int .i64 s)]) (fun _=>σ) (fun s=>s≤l.length∧(l.take s).any p=false) (fun s=>l.length-s) 0 ⟨⟨Nat.zero_le _,rfl⟩,⟨rfl,rfl,rfl,rfl,trivial⟩,rfl⟩ ?_
 rintro k t ⟨aG,dS⟩
 have hk:k≤l.length:=aG
 have hn:(l.take k).any p=false:=dS
 clear aG dS
 refine an (fun ab =>?_) (fun aq =>?_)
 ·have ab:k<l.length:=by have ab:(k:Int)<l.length:=ab;omega
  have hs:=kF ab p
  rw[hn,Bool.false_or]at hs
  refine ah.mk rfl (aT.mk l[k] (by omega) (get_some ab) ?_)
  refine cm [] (hg k ab) (fun c =>?_) (fun c =>?_)
  ·have hp:l.any p=true:=List.any_eq_true.2 ⟨l[k],List.getElem_mem ab,c⟩
   exact .done ⟨_,rfl,rfl,by rw[hp];exact decide_eq_true (by omega)⟩
  ·exact aH (k+1) (by show l.length-(k+1)<l.length-k;omega) ⟨ab,hs.trans c⟩ ⟨rfl,rfl,rfl,aI (by omega),trivial⟩ (.refl _)
 ·have aq:k=l.length:=by have aq:¬(k:Int)<l.length:=aq;omega
  subst aq
  rw[List.take_length]at hn
  exact .done ⟨_,rfl,rfl,by rw[hn];rfl⟩
theorem Pg(g:Nat)(cap:List AV)(l:List (Sh.T ga))(p:Sh.T ga→Bool)(σ:Hp)(hl:l.length≤1000000)(hg:∀(i:Nat) (hi:i<l.length),ACalls Tryz.prog g (Ba l[i]::cap) σ (aB (.bool (p l[i])) σ)):ACalls Tryz.prog 167 [.af ga l,.fn (.func g) [] cap] σ (aB (.bool (l.any p)) σ):=by
 refine okF Tryz.func167 (by kernel_rfl) ?_
 refine .mk [] _ (Uz g cap l p _ hl hg) ?_
 rintro _ _ ⟨n,rfl,rfl,hn⟩
 rw[← hn]
 refine an (fun c =>?_) (fun c =>?_)
 ·have c:0≤n:=c
  rw[decide_eq_true c]
  exact .done ⟨rfl,rfl⟩
 ·have c:¬0≤n:=c
  rw[decide_eq_false c]
  exact .done ⟨rfl,rfl⟩
theorem Uy(l:List Int)(x:Int)(σ:Hp)(hl:l.length≤1000000):ACalls Tryz.prog 322 [.af (.int .u64) l,.int .u64 x] σ (fun r σ'=>∃n:Int,r=.int .i64 n∧σ'=σ∧decide (0≤n)=l.any fun z=>decide (x=z)):=by
 refine okF Tryz.func322 (by kernel_rfl) ?_
 refine aU (S:=Nat) (fun s=>[(0,.af (.int .u64) l),(1,.int .u64 x),(7,.int .i64 l.length),(8,.int .i64 s)]) (fun _=>σ) (fun s=>s≤l.length∧((l.take s).any fun z=>decide (x=z))=false) (fun s=>l.length-s) 0 ⟨⟨Nat.zero_le _,rfl⟩,⟨rfl,rfl,rfl,rfl,trivial⟩,rfl⟩ ?_
 rintro k t ⟨aG,dS⟩
 have hk:k≤l.length:=aG
 have hn:((l.take k).any fun z=>decide (x=z))=false:=dS
 clear aG dS
 refine an (fun ab =>?_) (fun aq =>?_)
 ·have ab:k<l.length:=by have ab:(k:Int)<l.length:=ab;omega
  have hs:=kF ab fun z=>decide (x=z)
  rw[hn,Bool.false_or]at hs
  refine ah.mk rfl (aT.mk l[k] (by omega) (get_some ab) ?_)
  refine an (fun c =>?_) (fun c =>?_)
  ·have c:x=l[k]:=c
   have hp:(l.any fun z=>decide (x=z))=true:=List.any_eq_true.2 ⟨l[k],List.getElem_mem ab,decide_eq_true c⟩
   exact .done ⟨_,rfl,rfl,by rw[hp];exact decide_eq_true (by omega)⟩
  ·have c:¬x=l[k]:=c
   exact aH (k+1) (by show l.length-(k+1)<l.length-k;omega) ⟨ab,hs.trans (decide_eq_false c)⟩ ⟨rfl,rfl,rfl,aI (by omega),trivial⟩ (.refl _)
 ·have aq:k=l.length:=by have aq:¬(k:Int)<l.length:=aq;omega
  subst aq
  rw[List.take_length]at hn
  exact .done ⟨_,rfl,rfl,by rw[hn];rfl⟩
theorem Pf(l:List Int)(x:Int)(σ:Hp)(hl:l.length≤1000000):ACalls Tryz.prog 302 [.af (.int .u64) l,.int .u64 x] σ (aB (.bool (l.any fun z=>decide (x=z))) σ):=by
 refine okF Tryz.func302 (by kernel_rfl) ?_
 refine .mk [] _ (Uy l x _ hl) ?_
 rintro _ _ ⟨n,rfl,rfl,hn⟩
 rw[← hn]
 refine an (fun c =>?_) (fun c =>?_)
 ·have c:0≤n:=c
  rw[decide_eq_true c]
  exact .done ⟨rfl,rfl⟩
 ·have c:¬0≤n:=c
  rw[decide_eq_false c]
  exact .done ⟨rfl,rfl⟩
end Go.Proofs.YtnpidbjdilnhlaaGreat
namespace Go.Proofs.YtnpidbjdilnhlaaGreat
open Go.RowKit
set_option maxRecDepth 100000
def bX(ag width:Int):Bool:=decide (1≤ag) && decide (ag≤3) && decide (0≤width) && decide (width≤1024)
theorem yf(ag width:Int)(σ:Hp):ACalls Tryz.prog 94 [.int .i64 ag,.int .i64 width] σ (aB (.bool (bX ag width)) σ):=by
 refine okF Tryz.func94 (by kernel_rfl) ?_
 refine an (fun c1 =>?_) (fun c1 =>?_)
 ·have c1:1≤ag:=c1
  refine an (fun c2 =>?_) (fun c2 =>?_)
  ·have c2:ag≤3:=c2
   refine an (fun c3 =>?_) (fun c3 =>?_)
   ·have c3:0≤width:=c3
    refine an (fun c4 =>?_) (fun c4 =>?_)
    ·have c4:width≤1024:=c4
     exact .done ⟨bz (by first | (simp_all [bX];done) | (simp_all [bX];intros;omega)),rfl⟩
    ·have c4:¬(width≤1024):=c4
     exact .done ⟨bz (by first | (simp_all [bX];done) | (simp_all [bX];intros;omega)),rfl⟩
   ·have c3:¬(0≤width):=c3
    exact .done ⟨bz (by first | (simp_all [bX];done) | (simp_all [bX];intros;omega)),rfl⟩
  ·have c2:¬(ag≤3):=c2
   exact .done ⟨bz (by first | (simp_all [bX];done) | (simp_all [bX];intros;omega)),rfl⟩
 ·have c1:¬(1≤ag):=c1
  exact .done ⟨bz (by first | (simp_all [bX];done) | (simp_all [bX];intros;omega)),rfl⟩
end Go.Proofs.YtnpidbjdilnhlaaGreat
namespace Go.Proofs.YtnpidbjdilnhlaaGreat
open Go.RowKit
set_option maxRecDepth 100000
theorem BI(ag width:Int)(σ:Hp):ACalls Tryz.prog 121 [.int .i64 ag,.int .i64 width] σ (aB (.bool (bX ag width)) σ):=by
 refine okF Tryz.func121 (by kernel_rfl) ?_
 have hk:∀w:Int,(1≤w∧w≤3)↔(w=1∨w=2∨w=3):=fun w=>by omega
 have hI:bX ag width=(decide (ag=1∨ag=2∨ag=3) && decide (0≤width) && decide (width≤1024)):=by
  unfold bX
  rw[← Bool.decide_and,decide_eq_decide.2 (hk ag)]
 rw[hI]
 refine an (fun c1 =>?_) (fun c1 =>?_)
 ·have c1:ag=1:=c1
  have hw:(ag=1∨ag=2∨ag=3):=.inl c1
  refine an (fun d1 =>?_) (fun d1 =>?_)
  ·have d1:0≤width:=d1
   refine an (fun d2 =>?_) (fun d2 =>?_)
   ·have d2:width≤1024:=d2
    rw[decide_eq_true hw,decide_eq_true d1,decide_eq_true d2]
    exact .done ⟨rfl,rfl⟩
   ·have d2:¬width≤1024:=d2
    rw[decide_eq_true hw,decide_eq_true d1,decide_eq_false d2]
    exact .done ⟨rfl,rfl⟩
  ·have d1:¬0≤width:=d1
   rw[decide_eq_true hw,decide_eq_false d1]
   exact .done ⟨rfl,rfl⟩
 ·have c1:¬ag=1:=c1
  refine an (fun c2 =>?_) (fun c2 =>?_)
  ·have c2:ag=2:=c2
   have hw:(ag=1∨ag=2∨ag=3):=.inr (.inl c2)
   refine an (fun d1 =>?_) (fun d1 =>?_)
   ·have d1:0≤width:=d1
    refine an (fun d2 =>?_) (fun d2 =>?_)
    ·have d2:width≤1024:=d2
     rw[decide_eq_true hw,decide_eq_true d1,decide_eq_true d2]
     exact .done ⟨rfl,rfl⟩
    ·have d2:¬width≤1024:=d2
     rw[decide_eq_true hw,decide_eq_true d1,decide_eq_false d2]
     exact .done ⟨rfl,rfl⟩
   ·have d1:¬0≤width:=d1
    rw[decide_eq_true hw,decide_eq_false d1]
    exact .done ⟨rfl,rfl⟩
  ·have c2:¬ag=2:=c2
   refine an (fun c3 =>?_) (fun c3 =>?_)
   ·have c3:ag=3:=c3
    have hw:(ag=1∨ag=2∨ag=3):=.inr (.inr c3)
    refine an (fun d1 =>?_) (fun d1 =>?_)
    ·have d1:0≤width:=d1
     refine an (fun d2 =>?_) (fun d2 =>?_)
     ·have d2:width≤1024:=d2
      rw[decide_eq_true hw,decide_eq_true d1,decide_eq_true d2]
      exact .done ⟨rfl,rfl⟩
     ·have d2:¬width≤1024:=d2
      rw[decide_eq_true hw,decide_eq_true d1,decide_eq_false d2]
      exact .done ⟨rfl,rfl⟩
    ·have d1:¬0≤width:=d1
     rw[decide_eq_true hw,decide_eq_false d1]
     exact .done ⟨rfl,rfl⟩
   ·have c3:¬ag=3:=c3
    rw[decide_eq_false (p:=ag=1∨ag=2∨ag=3) (fun h=>h.elim c1 fun h=>h.elim c2 c3)]
    exact .done ⟨rfl,rfl⟩
def cT(ag width:Int):Int:=if bX ag width=true then (if ag=3 then width else (cx width:Int)) else 0
theorem AF(ag width:Int)(σ:Hp):ACalls Tryz.prog 59 [.int .i64 ag,.int .i64 width] σ (aB (.int .i64 (cT ag width)) σ):=by
 refine okF Tryz.func59 (by kernel_rfl) ?_
 unfold cT
 refine cm [] (BI ag width _) (fun hi =>?_) (fun hi =>?_)
 ·rw[if_pos hi]
  have h3:(ag=1∨ag=2∨ag=3):=by unfold bX at hi;simp at hi;omega
  refine an (fun c1 =>?_) (fun c1 =>?_)
  ·have c1:ag=1:=c1
   rw[if_neg (by omega)]
   refine az [] (AE width _) ?_
   exact .done ⟨rfl,rfl⟩
  ·have c1:¬ag=1:=c1
   refine an (fun c2 =>?_) (fun c2 =>?_)
   ·have c2:ag=2:=c2
    rw[if_neg (by omega)]
    refine az [] (AE width _) ?_
    exact .done ⟨rfl,rfl⟩
   ·have c2:¬ag=2:=c2
    rw[if_pos (by omega)]
    exact .done ⟨rfl,rfl⟩
 ·rw[if_neg (by rw[hi];decide)]
  exact .done ⟨rfl,rfl⟩
theorem Dd(ag width:Int)(σ:Hp):ACalls Tryz.prog 42 [.int .i64 ag,.int .i64 width] σ (aB (.int .i64 (cT ag width)) σ):=by
 refine okF Tryz.func42 (by kernel_rfl) ?_
 unfold cT
 refine cm [] (yf ag width _) (fun hi =>?_) (fun hi =>?_)
 ·rw[if_pos hi]
  refine an (fun c1 =>?_) (fun c1 =>?_)
  ·have c1:ag=3:=c1
   rw[if_pos c1]
   exact .done ⟨rfl,rfl⟩
  ·have c1:¬ag=3:=c1
   rw[if_neg c1]
   refine az [] (Ed width _) ?_
   exact .done ⟨rfl,rfl⟩
 ·rw[if_neg (by rw[hi];decide)]
  exact .done ⟨rfl,rfl⟩
theorem sX(ag width:Int):0≤cT ag width∧cT ag width≤1024:=by
 unfold cT
 by_cases h:bX ag width=true
 ·rw[if_pos h]
  have:=s5 width
  unfold bX at h;simp at h
  split <;> omega
 ·rw[if_neg h];omega
def okW(a:List Int):Bool:=a.all fun z=>decide (bf z=z)
def dZ(ag w:Int)(a:List Int):Bool:=bX ag w && decide ((a.length:Int)=cT ag w) && (if ag=3 then okW a else ef a w)
theorem TA(w:Int):(dY w || decide (w=0) || decide (w=1))=decide (bf w=w):=by
 unfold bf
 by_cases h0:w=0
 ·simp[h0]
 ·by_cases h1:w=1
  ·simp[h1]
  ·cases h2:dY w with
   | true=>simp[h0,h1]
   | false=>simp[h0,h1];exact fun h=>h1 h.symm
theorem XY(z:Int)(σ:Hp):ACalls Tryz.prog 161 [.int .u64 z] σ (aB (.bool (!decide (bf z=z))) σ):=by
 refine okF Tryz.func161 (by kernel_rfl) ?_
 refine az [] (aIs z _) ?_
 rw[TA]
 exact .done ⟨rfl,rfl⟩
theorem Ts(a:List Int):(!a.any fun z => !decide (bf z=z))=okW a:=by
 unfold okW
 rw[List.all_eq_not_any_not]
theorem BJ(ag w:Int)(a:List Int)(σ:Hp)(ha:bJ a)(hl:a.length≤1000000):ACalls Tryz.prog 117 [.int .i64 ag,.int .i64 w,.af (.int .u64) a] σ (aB (.bool (dZ ag w a)) σ):=by
 refine okF Tryz.func117 (by kernel_rfl) ?_
 have oy:=sX ag w
 unfold dZ
 refine cm [] (BI ag w _) (fun hi =>?_) (fun hi =>?_)
 ·refine az [] (AF ag w _) ?_
  refine bS (fun c =>?_) (fun c =>?_)
  ·have c:(!decide ((a.length:Int)=cT ag w))=true:=c
   have c:¬((a.length:Int)=cT ag w):=by simpa using c
   rw[hi,decide_eq_false c]
   exact .done ⟨rfl,rfl⟩
  ·have c:(!decide ((a.length:Int)=cT ag w))=false:=c
   have c:(a.length:Int)=cT ag w:=by simpa using c
   rw[hi,decide_eq_true c]
   refine bS (fun c3 =>?_) (fun c3 =>?_)
   ·have c3:¬(ag=3):=by simpa using c3
    rw[if_neg c3]
    refine az [] (xi a w _ ha (by omega)) ?_
    exact .done ⟨rfl,rfl⟩
   ·have c3:ag=3:=by simpa using c3
    rw[if_pos c3,← Ts]
    refine az [] (Pd 161 [] a (fun z:Int => !decide (bf z=z)) _ hl (fun i hi=>XY _ _)) ?_
    exact .done ⟨rfl,rfl⟩
 ·rw[hi]
  exact .done ⟨rfl,rfl⟩
theorem Si(ag w:Int)(a:List Int)(σ:Hp)(ha:bJ a):ACalls Tryz.prog 85 [.int .i64 ag,.int .i64 w,.af (.int .u64) a] σ (aB (.bool (dZ ag w a)) σ):=by
 refine okF Tryz.func85 (by kernel_rfl) ?_
 have oy:=sX ag w
 unfold dZ
 refine cm [] (yf ag w _) (fun hi =>?_) (fun hi =>?_)
 ·refine az [] (Dd ag w _) ?_
  refine bS (fun c =>?_) (fun c =>?_)
  ·have c:(!decide ((a.length:Int)=cT ag w))=true:=c
   have c:¬((a.length:Int)=cT ag w):=by simpa using c
   rw[hi,decide_eq_false c]
   exact .done ⟨rfl,rfl⟩
  ·have c:(!decide ((a.length:Int)=cT ag w))=false:=c
   have c:(a.length:Int)=cT ag w:=by simpa using c
   rw[hi,decide_eq_true c]
   refine bS (fun c3 =>?_) (fun c3 =>?_)
   ·have c3:¬(ag=3):=by simpa using c3
    rw[if_neg c3]
    refine az [] (Ei a w _ ha) ?_
    exact .done ⟨rfl,rfl⟩
   ·have c3:ag=3:=by simpa using c3
    rw[if_pos c3]
    unfold okW
    refine aU (S:=Nat) (fun k=>[(26,.af (.int .u64) a),(27,.int .i64 a.length),(28,.int .i64 k)]) (fun _=>σ) (fun k=>k≤a.length∧((a.take k).all fun z=>decide (bf z=z))=true) (fun k=>a.length-k) 0 ⟨⟨Nat.zero_le _,rfl⟩,⟨rfl,rfl,rfl,trivial⟩,rfl⟩ ?_
    rintro k g ⟨aG,LQ⟩
    have hk:k≤a.length:=aG
    have bH:((a.take k).all fun z=>decide (bf z=z))=true:=LQ
    clear aG LQ
    refine an (fun ab =>?_) (fun aq =>?_)
    ·have ab:k<a.length:=by have ab:(k:Int)<a.length:=ab;omega
     have hz:=ha _ (List.getElem_mem ab)
     refine ah.mk rfl (aT.mk a[k] (by omega) (get_some ab) ?_)
     refine az [] (VC _ _ hz.1 hz.2) ?_
     refine bS (fun c1 =>?_) (fun c1 =>?_)
     ·have c1:¬(bf a[k]=a[k]):=by simpa using c1
      have:(a.all fun z=>decide (bf z=z))=false:=by
       rw[List.all_eq_false]
       exact⟨a[k],List.getElem_mem ab,by simpa using c1⟩
      rw[this]
      exact .done ⟨rfl,rfl⟩
     ·have c1:bf a[k]=a[k]:=by simpa using c1
      refine aH (k+1) (by show a.length-(k+1)<a.length-k;omega) ⟨ab,?_⟩ ⟨rfl,rfl,aI (by omega),trivial⟩ (aF rfl)
      rw[List.take_succ_eq_append_getElem ab,List.all_append,bH]
      simp[c1]
    ·have aq:k=a.length:=by have aq:¬(k:Int)<a.length:=aq;omega
     rw[aq,List.take_length]at bH
     rw[bH]
     exact .done ⟨rfl,rfl⟩
 ·rw[hi]
  exact .done ⟨rfl,rfl⟩
set_option maxRecDepth 100000
theorem An{ag w:Int}{a:List Int}(h:dZ ag w a=true):(a.length:Int)=cT ag w:=by
 unfold dZ at h;simp at h;exact h.1.2
def pI(e:Int)(l:List Int):List Int:=if e=0 then l else []
theorem xa{e:Int}{l:List Int}(h:e=0):pI e l=l:=if_pos h
theorem Ax{e:Int}{l:List Int}(h:¬e=0):pI e l=[]:=if_neg h
def iG(ag w:Int):List Int:=if ag=2∧bX ag w=true then dQ w else List.replicate (cT ag w).toNat 0
theorem Dy(ag w:Int)(σ:Hp):ACalls Tryz.prog 118 [.int .i64 ag,.int .i64 w] σ (aB (.af (.int .u64) (iG ag w)) σ):=by
 refine okF Tryz.func118 (by kernel_rfl) ?_
 have hw:=sX ag w
 have hz:iG ag w=List.replicate (cT ag w).toNat 0→∀q,Fin (aB (.af (.int .u64) (iG ag w)) σ) (.ae q 0 (cT ag w).toNat 1) ((q,bN [.int .u64 0] (cT ag w).toNat)::σ):=fun hb q=>by
  rw[uK,← hb]
  have hl:(iG ag w).length=(cT ag w).toNat:=by rw[hb,List.length_replicate]
  generalize iG ag w=Z at hl
  refine .bO 0 q 0 _ 1 _ (.int .u64) Z rfl ?_ ⟨hl,rfl,by decide⟩ .here (.done ⟨rfl,rfl⟩)
  rw[List.drop_zero,← ka]
  exact List.take_of_length_le (by rw[aL,List.length_map,hl];omega)
 refine an (fun c =>?_) (fun c =>?_)
 ·have c:ag=2:=c
  refine cm [] (BI ag w _) (fun hi =>?_) (fun hi =>?_)
  ·refine az [] (L6 w _) ?_
   have hb:iG ag w=dQ w:=if_pos ⟨c,hi⟩
   rw[hb]
   exact .done ⟨rfl,rfl⟩
  ·refine az [] (AF ag w _) ?_
   refine ah.mk ⟨by omega,by omega,by omega,by decide⟩ ?_
   intro q
   exact hz (if_neg fun h=>Bool.noConfusion (hi.symm.trans h.2)) q
 ·have c:¬ag=2:=c
  refine az [] (AF ag w _) ?_
  refine ah.mk ⟨by omega,by omega,by omega,by decide⟩ ?_
  intro q
  exact hz (if_neg fun h=>c h.1) q
end Go.Proofs.YtnpidbjdilnhlaaGreat
