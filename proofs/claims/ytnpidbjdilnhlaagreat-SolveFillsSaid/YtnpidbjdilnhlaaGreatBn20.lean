import Derived.Test.YtnpidbjdilnhlaaGreatBn19
namespace Go.Proofs.YtnpidbjdilnhlaaGreat
open Go.RowKit
set_option maxRecDepth 100000
abbrev bA:Sh:=.field (.int .i64) (.field (.int .i64) .nil)
abbrev aK:Type:=Int×Int×Unit
abbrev jk:Type:=List Int×List Int×List cp×Unit
abbrev LA:Sh:=.field (.int .i64) (.field (.int .i64) (.field (.int .i64) (.field (.slice bA) (.field (.slice (.int .i64)) (.field (.slice (.int .u64)) (.field (.slice gR) .nil))))))
structure Sy where
 ag:Int
 w:Int
 n:Int
 bQ:List aK
 entry:List Int
 init:List Int
 T:List jk
abbrev bg(s:Sy):List AV:=[.int .i64 s.ag,.int .i64 s.w,.int .i64 s.n,.af bA s.bQ,.af (.int .i64) s.entry,.af (.int .u64) s.init,.af gR s.T]
def W2(x:LA.T):Sy:=⟨x.1,x.2.1,x.2.2.1,x.2.2.2.1,x.2.2.2.2.1,x.2.2.2.2.2.1,x.2.2.2.2.2.2.1⟩
def okT(t:jk):Prop:=bJ t.1∧bJ t.2.1∧t.1.length≤10000∧t.2.1.length≤10000∧t.2.2.1.length≤100000
structure Fit(s:Sy):Prop where
 i64:bJ s.init
 xU:s.init.length≤10000
 tH:s.bQ.length≤100000
 sc:s.entry.length≤100000
 qy:s.T.length≤100000
 ts:∀t∈s.T,okT t
def bG(n a:Int):Bool:=decide (0≤a) && decide (a<n)
theorem Bi(n a:Int)(σ:Hp):ACalls Tryz.prog 166 [.int .i64 n,.int .i64 a] σ (aB (.bool (bG n a)) σ):=by
 refine okF Tryz.func166 (by kernel_rfl) ?_
 refine an (fun c1 =>?_) (fun c1 =>?_)
 ·have c1:0≤a:=c1
  refine an (fun c2 =>?_) (fun c2 =>?_)
  ·have c2:a<n:=c2
   exact .done ⟨bz (by unfold bG;simp;omega),rfl⟩
  ·have c2:¬(a<n):=c2
   exact .done ⟨bz (by unfold bG;simp;omega),rfl⟩
 ·have c1:¬(0≤a):=c1
  exact .done ⟨bz (by unfold bG;simp;omega),rfl⟩
def vu(e:aK):AV:=.agg [.int .i64 e.1,.int .i64 e.2.1]
theorem Uk(n:Int)(e:aK)(q:Nat)(σ:Hp):ACalls Tryz.prog 165 [vu e,.ptr q 0] ((q,[.int .i64 n])::σ) (aB (.bool (!(bG n e.1 && bG n e.2.1))) ((q,[.int .i64 n])::σ)):=by
 refine okF Tryz.func165 (by kernel_rfl) ?_
 unfold vu
 intro aC
 refine aa.mk 1 _ _ rfl rfl ?_
 refine aa.mk 0 _ _ rfl rfl ?_
 refine cm [] (Bi n e.1 _) (fun c1 =>?_) (fun c1 =>?_)
 ·refine aa.mk 1 _ _ rfl rfl ?_
  refine aa.mk 0 _ _ rfl rfl ?_
  refine cm [] (Bi n e.2.1 _) (fun c2 =>?_) (fun c2 =>?_)
  ·exact .drop 0 1 (.done ⟨bz (by rw[c1,c2];rfl),rfl⟩)
  ·exact .drop 0 1 (.done ⟨bz (by rw[c1,c2];rfl),rfl⟩)
 ·exact .drop 0 1 (.done ⟨bz (by rw[c1];rfl),rfl⟩)
theorem Sr(g:Nat)(cap:List AV)(l:List (Sh.T bA))(p:Sh.T bA→Bool)(σ:Hp)(hl:l.length≤1000000)(hg:∀(i:Nat) (hi:i<l.length),ACalls Tryz.prog g (vu l[i]::cap) σ (aB (.bool (p l[i])) σ)):ACalls Tryz.prog 216 [.af bA l,.fn (.func g) [] cap] σ (fun r σ'=>∃n:Int,r=.int .i64 n∧σ'=σ∧decide (0≤n)=l.any p):=by
 refine okF Tryz.func216 (by kernel_rfl) ?_
 refine aU (S:=Nat) (fun s=>[(0,.af bA l),(1,.fn (.func g) [] cap),(7,.int .i64 l.length),(8,.int .i64 s)]) (fun _=>σ) (fun s=>s≤l.length∧(l.take s).any p=false) (fun s=>l.length-s) 0 ⟨⟨Nat.zero_le _,rfl⟩,⟨rfl,rfl,rfl,rfl,trivial⟩,rfl⟩ ?_
 rintro k t ⟨aG,dS⟩
 have hk:k≤l.length:=aG
 have hn:(l.take k).any p=false:=dS
 clear aG dS
 refine an (fun ab =>?_) (fun aq =>?_)
 ·have ab:k<l.length:=by have ab:(k:Int)<l.length:=ab;omega
  have hs:=kF ab p
  rw[hn,Bool.false_or]at hs
  refine ah.mk rfl (aT.mk l[k] (by omega) (get_some ab) ?_)
  refine cm [] (hg k ab) (fun c =>?_) (fun c =>?_)
  ·have hp:l.any p=true:=List.any_eq_true.2 ⟨l[k],List.getElem_mem ab,c⟩
   exact .done ⟨_,rfl,rfl,by rw[hp];exact decide_eq_true (by omega)⟩
  ·exact aH (k+1) (by show l.length-(k+1)<l.length-k;omega) ⟨ab,hs.trans c⟩ ⟨rfl,rfl,rfl,aI (by omega),trivial⟩ (.refl _)
 ·have aq:k=l.length:=by have aq:¬(k:Int)<l.length:=aq;omega
  subst aq
  rw[List.take_length]at hn
  exact .done ⟨_,rfl,rfl,by rw[hn];rfl⟩
theorem Hf(g:Nat)(cap:List AV)(l:List (Sh.T bA))(p:Sh.T bA→Bool)(σ:Hp)(hl:l.length≤1000000)(hg:∀(i:Nat) (hi:i<l.length),ACalls Tryz.prog g (vu l[i]::cap) σ (aB (.bool (p l[i])) σ)):ACalls Tryz.prog 164 [.af bA l,.fn (.func g) [] cap] σ (aB (.bool (l.any p)) σ):=by
 refine okF Tryz.func164 (by kernel_rfl) ?_
 refine .mk [] _ (Sr g cap l p _ hl hg) ?_
 rintro _ _ ⟨n,rfl,rfl,hn⟩
 rw[← hn]
 refine an (fun c =>?_) (fun c =>?_)
 ·have c:0≤n:=c
  rw[decide_eq_true c]
  exact .done ⟨rfl,rfl⟩
 ·have c:¬0≤n:=c
  rw[decide_eq_false c]
  exact .done ⟨rfl,rfl⟩
def cU(n:Int)(l:List aK):Bool:=decide (1≤n) && decide (n≤256) && decide (l.length≤1024) && l.all fun e=>bG n e.1 && bG n e.2.1
theorem LY{n:Int}(l:List aK){b:Bool}(h:(l.any fun e => !(bG n e.1 && bG n e.2.1))=b):(l.all fun e=>bG n e.1 && bG n e.2.1) = !b:=by rw[AD,h]
theorem xo(n:Int)(l:List aK)(σ:Hp)(hl:l.length≤1000000):ACalls Tryz.prog 119 [.int .i64 n,.af bA l] σ (aB (.bool (cU n l)) σ):=by
 refine okF Tryz.func119 (by kernel_rfl) ?_
 intro aC
 refine aa.mk 0 _ _ rfl rfl ?_
 refine an (fun c2 =>?_) (fun c2 =>?_)
 ·have c2:n<1:=c2
  exact .drop 0 1 (.done ⟨bz (by unfold cU;simp;omega),rfl⟩)
 ·have c2:¬(n<1):=c2
  refine aa.mk 0 _ _ rfl rfl ?_
  refine an (fun c3 =>?_) (fun c3 =>?_)
  ·have c3:256<n:=c3
   exact .drop 0 1 (.done ⟨bz (by unfold cU;simp;omega),rfl⟩)
  ·have c3:¬(256<n):=c3
   refine an (fun c4 =>?_) (fun c4 =>?_)
   ·have c4:1024<(↑l.length:Int):=c4
    exact .drop 0 1 (.done ⟨bz (by unfold cU;simp;omega),rfl⟩)
   ·have c4:¬(1024<(↑l.length:Int)):=c4
    refine cm [] (Hf 165 [.ptr aC 0] l (fun e => !(bG n e.1 && bG n e.2.1)) _ hl (fun i hi=>Uk n l[i] aC _)) (fun cL =>?_) (fun cL =>?_)
    ·exact .drop 0 1 (.done ⟨bz (by unfold cU;rw[LY l cL];simp),rfl⟩)
    ·exact .drop 0 1 (.done ⟨bz (by unfold cU;rw[LY l cL];simp;omega),rfl⟩)
def ta(ag w:Int):Int:=if bX ag w=true then (if ag=3 then 2*w else w) else 0
theorem Sq(ag w:Int)(σ:Hp):ACalls Tryz.prog 116 [.int .i64 ag,.int .i64 w] σ (aB (.int .i64 (ta ag w)) σ):=by
 refine okF Tryz.func116 (by kernel_rfl) ?_
 refine cm [] (BI ag w _) (fun c0 =>?_) (fun c0 =>?_)
 ·refine an (fun c1 =>?_) (fun c1 =>?_)
  ·have c1:ag=3:=c1
   exact .done ⟨aN (by unfold bX at c0;simp at c0;unfold ta;rw[if_pos (mY (by omega)),if_pos c1,ic (by omega)]),rfl⟩
  ·have c1:¬(ag=3):=c1
   exact .done ⟨aN (by unfold ta;rw[if_pos c0,if_neg c1]),rfl⟩
 ·exact .done ⟨aN (by unfold ta;rw[c0];rfl),rfl⟩
theorem Qa(w:Int):ef (dQ w) w=true:=by
 unfold ef
 rw[decide_eq_true (kC w),Bool.true_and,List.all_eq_true]
 intro i hi
 have hi:=List.mem_range.1 hi
 rw[kC]at hi
 rw[decide_eq_true_eq,Ah w hi,Int.toNat_natCast]
 have:=Nat.two_pow_pos (min 64 (df w-64*i))
 omega
theorem Ky{ag w:Int}(h:bX ag w=true):dZ ag w (iG ag w)=true:=by
 by_cases h3:ag=3
 ·rw[wP h h3]
  unfold iG
  rw[if_neg (fun h=>by omega),Hh h h3]
  unfold bX at h;simp at h
  exact⟨by rw[List.length_replicate];omega,Ji _⟩
 ·rw[uI h h3]
  unfold iG
  split
  ·exact Qa w
  ·rw[HW h h3,Int.toNat_natCast]
   refine (uG (D3 _) List.length_replicate).2 fun i k hi _ _ =>?_
   unfold oh
   rw[ly _ hi,List.getElem_replicate];exact De k
theorem Lj(ag w:Int):bJ (iG ag w):=by
 unfold iG;split
 ·exact JC w
 ·exact D3 _
theorem TS(ag w:Int):(iG ag w).length≤1024:=by
 unfold iG;split
 ·rw[kC];have:=s5 w;omega
 ·rw[List.length_replicate];have:=sX ag w;omega
def dm(s:Sy):Int:=if bX s.ag s.w=true then (if cU s.n s.bQ=true∧(s.T.length:Int)=s.n then (if (s.entry.any fun v => !bG s.n v)=true then 1 else if dZ s.ag s.w s.init=true then (if (s.T.any fun t => !decide (dP s.ag s.w t.1 t.2.1 t.2.2.1=0))=true then 2 else 0) else 2) else 1) else 10
theorem Lg{s:Sy}(h:bX s.ag s.w=false):10=dm s:=by unfold dm;rw[h];rfl
theorem vv{s:Sy}(hi:bX s.ag s.w=true)(h:¬(cU s.n s.bQ=true∧(s.T.length:Int)=s.n)):1=dm s:=by unfold dm;rw[if_pos hi,if_neg h]
theorem u0{s:Sy}(hi:bX s.ag s.w=true)(h:cU s.n s.bQ=true∧(s.T.length:Int)=s.n)(he:(s.entry.any fun v => !bG s.n v)=true):1=dm s:=by unfold dm;rw[if_pos hi,if_pos h,if_pos he]
theorem EK{s:Sy}(hi:bX s.ag s.w=true)(h:cU s.n s.bQ=true∧(s.T.length:Int)=s.n)(he:(s.entry.any fun v => !bG s.n v)=false)(hv:dZ s.ag s.w s.init=false):2=dm s:=by unfold dm;rw[if_pos hi,if_pos h,he,hv];rfl
theorem D9{s:Sy}(hi:bX s.ag s.w=true)(h:cU s.n s.bQ=true∧(s.T.length:Int)=s.n)(he:(s.entry.any fun v => !bG s.n v)=false)(hv:dZ s.ag s.w s.init=true)(ht:(s.T.any fun t => !decide (dP s.ag s.w t.1 t.2.1 t.2.2.1=0))=true):2=dm s:=by unfold dm;rw[if_pos hi,if_pos h,he,hv,ht];rfl
theorem Bb{s:Sy}(hi:bX s.ag s.w=true)(h:cU s.n s.bQ=true∧(s.T.length:Int)=s.n)(he:(s.entry.any fun v => !bG s.n v)=false)(hv:dZ s.ag s.w s.init=true)(ht:(s.T.any fun t => !decide (dP s.ag s.w t.1 t.2.1 t.2.2.1=0))=false):0=dm s:=by unfold dm;rw[if_pos hi,if_pos h,he,hv,ht];rfl
theorem IJ(s:Sy)(σ:Hp)(hf:Fit s):ACalls Tryz.prog 58 [.agg (bg s)] σ (aB (.int .i64 (dm s)) σ):=by
 refine okF Tryz.func58 (by kernel_rfl) ?_
 intro aC
 refine .quiet (by kernel_rfl) ?_
 refine aa.mk 0 _ _ rfl rfl ?_
 refine aa.mk 0 _ _ rfl rfl ?_
 refine aJ [] (Sq _ _ _) ?_
 refine an (fun c1 =>?_) (fun c1 =>?_)
 ·have c1:ta s.ag s.w=0:=c1
  refine aa.mk 0 _ _ rfl rfl ?_
  refine aa.mk 0 _ _ rfl rfl ?_
  refine aa.mk 0 _ _ rfl rfl ?_
  refine aa.mk 0 _ _ rfl rfl ?_
  refine aJ [] (Dy _ _ _) ?_
  refine Li [] (BJ s.ag s.w (iG s.ag s.w) _ (Lj _ _) (Nat.le_trans (TS _ _) (by decide))) (fun c2 =>?_) (fun c2 =>?_)
  ·have hi:=D2 c2
   refine aa.mk 0 _ _ rfl rfl ?_
   refine aa.mk 0 _ _ rfl rfl ?_
   refine cm [] (xo s.n s.bQ _ (Nat.le_trans hf.tH (by decide))) (fun cr =>?_) (fun cr =>?_)
   ·refine aa.mk 0 _ _ rfl rfl ?_
    refine aa.mk 0 _ _ rfl rfl ?_
    refine bS (fun ct =>?_) (fun ct =>?_)
    ·have ct:(!decide ((s.T.length:Int)=s.n))=true:=ct
     have ct:¬(s.T.length:Int)=s.n:=by simpa using ct
     exact .fwd 1 (.drop 0 1 (.done ⟨aN (vv hi fun h=>ct h.2),rfl⟩))
    ·have ct:(!decide ((s.T.length:Int)=s.n))=false:=ct
     have ct:(s.T.length:Int)=s.n:=by simpa using ct
     have hr:cU s.n s.bQ=true∧(s.T.length:Int)=s.n:=⟨cr,ct⟩
     refine aa.mk 0 _ _ rfl rfl ?_
     refine aU (S:=Nat) (fun k=>[(1,.ptr aC 0),(3,.int .i64 1),(42,.af (.int .i64) s.entry),(43,.int .i64 s.entry.length),(44,.int .i64 k)]) (fun _=>(aC,bg s)::σ) (fun k=>k≤s.entry.length∧((s.entry.take k).any fun v => !bG s.n v)=false) (fun k=>s.entry.length-k) 0 ⟨⟨Nat.zero_le _,rfl⟩,⟨rfl,rfl,rfl,rfl,rfl,trivial⟩,rfl⟩ ?_
     rintro k g ⟨aG,eA⟩
     have hk:k≤s.entry.length:=aG
     have ha:((s.entry.take k).any fun v => !bG s.n v)=false:=eA
     clear aG eA
     refine an (fun ab =>?_) (fun aq =>?_)
     ·have ab:k<s.entry.length:=by have ab:(k:Int)<s.entry.length:=ab;omega
      have hs:=kF ab fun v => !bG s.n v
      rw[ha,Bool.false_or]at hs
      have kq:bG s.n s.entry[k]=false→(s.entry.any fun v => !bG s.n v)=true:=fun h=>List.any_eq_true.2 ⟨s.entry[k],List.getElem_mem ab,by rw[h];rfl⟩
      refine ah.mk rfl (aT.mk s.entry[k] (by omega) (get_some ab) ?_)
      refine an (p:=s.entry[k]<0) (fun d1 =>?_) (fun d1 =>?_)
      ·exact .fwd 1 (.drop 0 1 (.done ⟨aN (u0 hi hr (kq (by unfold bG;simp;omega))),rfl⟩))
      ·refine aa.mk 0 _ _ rfl rfl ?_
       refine an (p:=s.n≤s.entry[k]) (fun d2 =>?_) (fun d2 =>?_)
       ·exact .fwd 1 (.drop 0 1 (.done ⟨aN (u0 hi hr (kq (by unfold bG;simp;omega))),rfl⟩))
       ·exact aH (k+1) (by show s.entry.length-(k+1)<s.entry.length-k;omega) ⟨ab,hs.trans (by unfold bG;simp;omega)⟩ ⟨rfl,rfl,rfl,rfl,aI (by have:=hf.sc;omega),trivial⟩ (.refl _)
     ·have aq:k=s.entry.length:=by have aq:¬(k:Int)<s.entry.length:=aq;omega
      subst aq
      rw[List.take_length]at ha
      refine aa.mk 0 _ _ rfl rfl ?_
      refine aa.mk 0 _ _ rfl rfl ?_
      refine aa.mk 0 _ _ rfl rfl ?_
      refine cm [] (BJ s.ag s.w s.init _ hf.i64 (Nat.le_trans hf.xU (by decide))) (fun cv =>?_) (fun cv =>?_)
      ·refine aa.mk 0 _ _ rfl rfl ?_
       refine aU (S:=Nat) (fun k=>[(1,.ptr aC 0),(3,.int .i64 2),(66,.af gR s.T),(67,.int .i64 s.T.length),(68,.int .i64 k)]) (fun _=>(aC,bg s)::σ) (fun k=>k≤s.T.length∧((s.T.take k).any fun t => !decide (dP s.ag s.w t.1 t.2.1 t.2.2.1=0))=false) (fun k=>s.T.length-k) 0 ⟨⟨Nat.zero_le _,rfl⟩,⟨rfl,rfl,rfl,rfl,rfl,trivial⟩,rfl⟩ ?_
       rintro k g ⟨aG,eV⟩
       have hk:k≤s.T.length:=aG
       have ht:((s.T.take k).any fun t => !decide (dP s.ag s.w t.1 t.2.1 t.2.2.1=0))=false:=eV
       clear aG eV
       refine an (fun ab =>?_) (fun aq =>?_)
       ·have ab:k<s.T.length:=by have ab:(k:Int)<s.T.length:=ab;omega
        have hs:=kF ab fun t => !decide (dP s.ag s.w t.1 t.2.1 t.2.2.1=0)
        rw[ht,Bool.false_or]at hs
        have ho:=hf.ts _ (List.getElem_mem ab)
        have hm:=List.getElem_mem ab
        obtain⟨t,dh⟩:∃t:jk,s.T[k]=t:=⟨_,rfl⟩
        rw[dh]at hs ho hm
        refine ah.mk rfl (aT.mk t (by omega) ((get_some ab).trans (congrArg some dh)) ?_)
        intro bM
        refine ai.mk 0 _ _ rfl rfl ?_
        refine aa.mk 1 _ _ rfl rfl ?_
        refine aa.mk 1 _ _ rfl rfl ?_
        refine aa.mk 0 _ _ rfl rfl ?_
        refine az [] (DW s.ag s.w t.1 t.2.1 t.2.2.1 _ ho.1 ho.2.1 ho.2.2.1 ho.2.2.2.1 (Nat.le_trans ho.2.2.2.2 (by decide))) ?_
        refine bS (fun d1 =>?_) (fun d1 =>?_)
        ·exact .fwd 1 (.drop 0 2 (.done ⟨aN (D9 hi hr ha cv (List.any_eq_true.2 ⟨t,hm,d1⟩)),rfl⟩))
        ·exact aH (k+1) (by show s.T.length-(k+1)<s.T.length-k;omega) ⟨ab,hs.trans d1⟩ ⟨rfl,rfl,rfl,rfl,aI (by have:=hf.qy;omega),trivial⟩ (.drop 0 1 (.refl _))
       ·have aq:k=s.T.length:=by have aq:¬(k:Int)<s.T.length:=aq;omega
        subst aq
        rw[List.take_length]at ht
        exact .drop 0 1 (.done ⟨aN (Bb hi hr ha cv ht),rfl⟩)
      ·exact .fwd 1 (.drop 0 1 (.done ⟨aN (EK hi hr ha cv),rfl⟩))
   ·exact .fwd 1 (.drop 0 1 (.done ⟨aN (vv hi fun h=>by rw[h.1]at cr;cases cr),rfl⟩))
  ·have hi:bX s.ag s.w=false:=by
    cases h:bX s.ag s.w with
    | false=>rfl
    | true=>rw[Ky h]at c2;cases c2
   exact .fwd 1 (.drop 0 1 (.done ⟨aN (Lg hi),rfl⟩))
 ·have c1:¬ta s.ag s.w=0:=c1
  refine aa.mk 0 _ _ rfl rfl ?_
  refine aa.mk 0 _ _ rfl rfl ?_
  have hi:bX s.ag s.w=true:=by
   cases h:bX s.ag s.w with
   | true=>rfl
   | false=>exact absurd (by unfold ta;rw[h];rfl) c1
  refine cm [] (xo s.n s.bQ _ (Nat.le_trans hf.tH (by decide))) (fun cr =>?_) (fun cr =>?_)
  ·refine aa.mk 0 _ _ rfl rfl ?_
   refine aa.mk 0 _ _ rfl rfl ?_
   refine bS (fun ct =>?_) (fun ct =>?_)
   ·have ct:(!decide ((s.T.length:Int)=s.n))=true:=ct
    have ct:¬(s.T.length:Int)=s.n:=by simpa using ct
    exact .fwd 1 (.drop 0 1 (.done ⟨aN (vv hi fun h=>ct h.2),rfl⟩))
   ·have ct:(!decide ((s.T.length:Int)=s.n))=false:=ct
    have ct:(s.T.length:Int)=s.n:=by simpa using ct
    have hr:cU s.n s.bQ=true∧(s.T.length:Int)=s.n:=⟨cr,ct⟩
    refine aa.mk 0 _ _ rfl rfl ?_
    refine aU (S:=Nat) (fun k=>[(1,.ptr aC 0),(3,.int .i64 1),(42,.af (.int .i64) s.entry),(43,.int .i64 s.entry.length),(44,.int .i64 k)]) (fun _=>(aC,bg s)::σ) (fun k=>k≤s.entry.length∧((s.entry.take k).any fun v => !bG s.n v)=false) (fun k=>s.entry.length-k) 0 ⟨⟨Nat.zero_le _,rfl⟩,⟨rfl,rfl,rfl,rfl,rfl,trivial⟩,rfl⟩ ?_
    rintro k g ⟨aG,eA⟩
    have hk:k≤s.entry.length:=aG
    have ha:((s.entry.take k).any fun v => !bG s.n v)=false:=eA
    clear aG eA
    refine an (fun ab =>?_) (fun aq =>?_)
    ·have ab:k<s.entry.length:=by have ab:(k:Int)<s.entry.length:=ab;omega
     have hs:=kF ab fun v => !bG s.n v
     rw[ha,Bool.false_or]at hs
     have kq:bG s.n s.entry[k]=false→(s.entry.any fun v => !bG s.n v)=true:=fun h=>List.any_eq_true.2 ⟨s.entry[k],List.getElem_mem ab,by rw[h];rfl⟩
     refine ah.mk rfl (aT.mk s.entry[k] (by omega) (get_some ab) ?_)
     refine an (p:=s.entry[k]<0) (fun d1 =>?_) (fun d1 =>?_)
     ·exact .fwd 1 (.drop 0 1 (.done ⟨aN (u0 hi hr (kq (by unfold bG;simp;omega))),rfl⟩))
     ·refine aa.mk 0 _ _ rfl rfl ?_
      refine an (p:=s.n≤s.entry[k]) (fun d2 =>?_) (fun d2 =>?_)
      ·exact .fwd 1 (.drop 0 1 (.done ⟨aN (u0 hi hr (kq (by unfold bG;simp;omega))),rfl⟩))
      ·exact aH (k+1) (by show s.entry.length-(k+1)<s.entry.length-k;omega) ⟨ab,hs.trans (by unfold bG;simp;omega)⟩ ⟨rfl,rfl,rfl,rfl,aI (by have:=hf.sc;omega),trivial⟩ (.refl _)
    ·have aq:k=s.entry.length:=by have aq:¬(k:Int)<s.entry.length:=aq;omega
     subst aq
     rw[List.take_length]at ha
     refine aa.mk 0 _ _ rfl rfl ?_
     refine aa.mk 0 _ _ rfl rfl ?_
     refine aa.mk 0 _ _ rfl rfl ?_
     refine cm [] (BJ s.ag s.w s.init _ hf.i64 (Nat.le_trans hf.xU (by decide))) (fun cv =>?_) (fun cv =>?_)
     ·refine aa.mk 0 _ _ rfl rfl ?_
      refine aU (S:=Nat) (fun k=>[(1,.ptr aC 0),(3,.int .i64 2),(66,.af gR s.T),(67,.int .i64 s.T.length),(68,.int .i64 k)]) (fun _=>(aC,bg s)::σ) (fun k=>k≤s.T.length∧((s.T.take k).any fun t => !decide (dP s.ag s.w t.1 t.2.1 t.2.2.1=0))=false) (fun k=>s.T.length-k) 0 ⟨⟨Nat.zero_le _,rfl⟩,⟨rfl,rfl,rfl,rfl,rfl,trivial⟩,rfl⟩ ?_
      rintro k g ⟨aG,eV⟩
      have hk:k≤s.T.length:=aG
      have ht:((s.T.take k).any fun t => !decide (dP s.ag s.w t.1 t.2.1 t.2.2.1=0))=false:=eV
      clear aG eV
      refine an (fun ab =>?_) (fun aq =>?_)
      ·have ab:k<s.T.length:=by have ab:(k:Int)<s.T.length:=ab;omega
       have hs:=kF ab fun t => !decide (dP s.ag s.w t.1 t.2.1 t.2.2.1=0)
       rw[ht,Bool.false_or]at hs
       have ho:=hf.ts _ (List.getElem_mem ab)
       have hm:=List.getElem_mem ab
       obtain⟨t,dh⟩:∃t:jk,s.T[k]=t:=⟨_,rfl⟩
       rw[dh]at hs ho hm
       refine ah.mk rfl (aT.mk t (by omega) ((get_some ab).trans (congrArg some dh)) ?_)
       intro bM
       refine ai.mk 0 _ _ rfl rfl ?_
       refine aa.mk 1 _ _ rfl rfl ?_
       refine aa.mk 1 _ _ rfl rfl ?_
       refine aa.mk 0 _ _ rfl rfl ?_
       refine az [] (DW s.ag s.w t.1 t.2.1 t.2.2.1 _ ho.1 ho.2.1 ho.2.2.1 ho.2.2.2.1 (Nat.le_trans ho.2.2.2.2 (by decide))) ?_
       refine bS (fun d1 =>?_) (fun d1 =>?_)
       ·exact .fwd 1 (.drop 0 2 (.done ⟨aN (D9 hi hr ha cv (List.any_eq_true.2 ⟨t,hm,d1⟩)),rfl⟩))
       ·exact aH (k+1) (by show s.T.length-(k+1)<s.T.length-k;omega) ⟨ab,hs.trans d1⟩ ⟨rfl,rfl,rfl,rfl,aI (by have:=hf.qy;omega),trivial⟩ (.drop 0 1 (.refl _))
      ·have aq:k=s.T.length:=by have aq:¬(k:Int)<s.T.length:=aq;omega
       subst aq
       rw[List.take_length]at ht
       exact .drop 0 1 (.done ⟨aN (Bb hi hr ha cv ht),rfl⟩)
     ·exact .fwd 1 (.drop 0 1 (.done ⟨aN (EK hi hr ha cv),rfl⟩))
  ·exact .fwd 1 (.drop 0 1 (.done ⟨aN (vv hi fun h=>by rw[h.1]at cr;cases cr),rfl⟩))
end Go.Proofs.YtnpidbjdilnhlaaGreat
