import Derived.Test.YtnpidbjdilnhlaaGreatBn17
import Derived.Test.YtnpidbjdilnhlaaGreatBn11
import Derived.Shelf.Slices.CompactI
import Derived.Shelf.Slices.In.SortNone
import Derived.Shelf.Sort.Plain
namespace Go.Proofs.YtnpidbjdilnhlaaGreat
open Go.RowKit
set_option maxRecDepth 100000
theorem TB{f:FuncId}{xs:List AV}{σ:Hp}{R R':AV→Hp→Prop}(h:ACalls Tryz.prog f xs σ R)(hv:∀r σ',R r σ'→r.leaf=true∧R' (.via r) σ'):ACalls Tryz.prog f xs σ R':=
 ⟨h.1,fun F w vs bz ay=>(h.2 F w vs bz ay).mono fun _ _ ⟨r,v,σ',F',h1,h2,h3,h4,h5⟩=>⟨.via r,v,σ',F',h1,h2,h3,.via _ _ (hv r σ' h5).1 h4,(hv r σ' h5).2⟩⟩
set_option maxRecDepth 100000
theorem Io{n:Int}(h:bf n):aS [n]:=fun z hz=>by rw[List.mem_singleton.1 hz];exact h
set_option maxRecDepth 100000
abbrev cI:Sh:=.field (.int .i64) (.field (.int .i64) .nil)
abbrev aV:Type:=Int×Int×Unit
abbrev kp:Type:=List Int×List Int×List cg×Unit
abbrev P9:Sh:=.field (.int .i64) (.field (.int .i64) (.field (.int .i64) (.field (.slice cI) (.field (.slice (.int .i64)) (.field (.slice (.int .u64)) (.field (.slice j7) .nil))))))
structure Sy where
 what:Int
 w:Int
 n:Int
 aR:List aV
 entry:List Int
 init:List Int
 T:List kp
abbrev bD(s:Sy):List AV:=[.int .i64 s.what,.int .i64 s.w,.int .i64 s.n,.ah cI s.aR,.ah (.int .i64) s.entry,.ah (.int .u64) s.init,.ah j7 s.T]
def abN(x:P9.T):Sy:=⟨x.1,x.2.1,x.2.2.1,x.2.2.2.1,x.2.2.2.2.1,x.2.2.2.2.2.1,x.2.2.2.2.2.2.1⟩
def okT(t:kp):Prop:=aS t.1∧aS t.2.1∧t.1.length≤10000∧t.2.1.length≤10000∧t.2.2.1.length≤100000
structure Fit(s:Sy):Prop where
 i64:aS s.init
 Ew:s.init.length≤10000
 um:s.aR.length≤100000
 AY:s.entry.length≤100000
 IN:s.T.length≤100000
 ts:∀t∈s.T,okT t
def cN(n a:Int):Bool:=decide (0≤a) && decide (a<n)
theorem Ei(n a:Int)(σ:Hp):ACalls Tryz.prog 166 [.int .i64 n,.int .i64 a] σ (az (.bool (cN n a)) σ):=by
 refine okF Tryz.func166 (by kernel_rfl) ?_
 refine ao (fun c1 =>?_) (fun c1 =>?_)
 ·have c1:0≤a:=c1
  refine ao (fun c2 =>?_) (fun c2 =>?_)
  ·have c2:a<n:=c2
   exact .done ⟨cM (by unfold cN;simp;omega),rfl⟩
  ·have c2:¬(a<n):=c2
   exact .done ⟨cM (by unfold cN;simp;omega),rfl⟩
 ·have c1:¬(0≤a):=c1
  exact .done ⟨cM (by unfold cN;simp;omega),rfl⟩
def x4(e:aV):AV:=.agg [.int .i64 e.1,.int .i64 e.2.1]
theorem Zk(n:Int)(e:aV)(q:Nat)(σ:Hp):ACalls Tryz.prog 165 [x4 e,.ptr q 0] ((q,[.int .i64 n])::σ) (az (.bool (!(cN n e.1 && cN n e.2.1))) ((q,[.int .i64 n])::σ)):=by
 refine okF Tryz.func165 (by kernel_rfl) ?_
 unfold x4
 intro aC
 refine aa 1 ?_
 refine aa 0 ?_
 refine eH [] (Ei n e.1 _) (fun c1 =>?_) (fun c1 =>?_)
 ·refine aa 1 ?_
  refine aa 0 ?_
  refine eH [] (Ei n e.2.1 _) (fun c2 =>?_) (fun c2 =>?_)
  ·exact .drop 0 1 (.done ⟨cM (by rw[c1,c2];rfl),rfl⟩)
  ·exact .drop 0 1 (.done ⟨cM (by rw[c1,c2];rfl),rfl⟩)
 ·exact .drop 0 1 (.done ⟨cM (by rw[c1];rfl),rfl⟩)
theorem Xu(g:Nat)(cap:List AV)(l:List (Sh.T cI))(p:Sh.T cI→Bool)(σ:Hp)(hl:l.length≤1000000)(hg:∀(i:Nat) (hi:i<l.length),ACalls Tryz.prog g (x4 l[i]::cap) σ (az (.bool (p l[i])) σ)):ACalls Tryz.prog 216 [.ah cI l,.fn (.func g) [] cap] σ (fun r σ'=>∃n:Int,r=.int .i64 n∧σ'=σ∧decide (0≤n)=l.any p):=by
 refine okF Tryz.func216 (by kernel_rfl) ?_
 refine bO (S:=Nat) (fun s=>[(0,.ah cI l),(1,.fn (.func g) [] cap),(7,.int .i64 l.length),(8,.int .i64 s)]) (fun _=>σ) (fun s=>s≤l.length∧(l.take s).any p=false) (fun s=>l.length-s) 0 ⟨⟨Nat.zero_le _,rfl⟩,⟨rfl,rfl,rfl,rfl,trivial⟩,rfl⟩ ?_
 rintro k t ⟨aZ,eT⟩
 have hk:k≤l.length:=aZ
 have hn:(l.take k).any p=false:=eT
 clear aZ eT
 refine ao (fun ab =>?_) (fun au =>?_)
 ·have ab:k<l.length:=by have ab:(k:Int)<l.length:=ab;omega
  have hs:=rV ab p
  rw[hn,Bool.false_or]at hs
  refine ag.mk rfl (bH.mk l[k] (by omega) (get_some ab) ?_)
  refine eH [] (hg k ab) (fun c =>?_) (fun c =>?_)
  ·have hp:l.any p=true:=List.any_eq_true.2 ⟨l[k],List.getElem_mem ab,c⟩
   exact .done ⟨_,rfl,rfl,by rw[hp];exact decide_eq_true (by omega)⟩
  ·exact bg (k+1) (by show l.length-(k+1)<l.length-k;omega) ⟨ab,hs.trans c⟩ ⟨rfl,rfl,rfl,a8 (by omega),trivial⟩ (.refl _)
 ·have au:k=l.length:=by have au:¬(k:Int)<l.length:=au;omega
  subst au
  rw[List.take_length]at hn
  exact .done ⟨_,rfl,rfl,by rw[hn];rfl⟩
theorem Ld(g:Nat)(cap:List AV)(l:List (Sh.T cI))(p:Sh.T cI→Bool)(σ:Hp)(hl:l.length≤1000000)(hg:∀(i:Nat) (hi:i<l.length),ACalls Tryz.prog g (x4 l[i]::cap) σ (az (.bool (p l[i])) σ)):ACalls Tryz.prog 164 [.ah cI l,.fn (.func g) [] cap] σ (az (.bool (l.any p)) σ):=by
 refine okF Tryz.func164 (by kernel_rfl) ?_
 refine .mk [] _ (Xu g cap l p _ hl hg) ?_
 rintro _ _ ⟨n,rfl,rfl,hn⟩
 rw[← hn]
 refine ao (fun c =>?_) (fun c =>?_)
 ·have c:0≤n:=c
  rw[decide_eq_true c]
  exact .done ⟨rfl,rfl⟩
 ·have c:¬0≤n:=c
  rw[decide_eq_false c]
  exact .done ⟨rfl,rfl⟩
def ej(n:Int)(l:List aV):Bool:=decide (1≤n) && decide (n≤256) && decide (l.length≤1024) && l.all fun e=>cN n e.1 && cN n e.2.1
theorem Qw{n:Int}(l:List aV){b:Bool}(h:(l.any fun e => !(cN n e.1 && cN n e.2.1))=b):(l.all fun e=>cN n e.1 && cN n e.2.1) = !b:=by rw[OW,h]
theorem An(n:Int)(l:List aV)(σ:Hp)(hl:l.length≤1000000):ACalls Tryz.prog 119 [.int .i64 n,.ah cI l] σ (az (.bool (ej n l)) σ):=by
 refine okF Tryz.func119 (by kernel_rfl) ?_
 intro aC
 refine aa 0 ?_
 refine ao (fun c2 =>?_) (fun c2 =>?_)
 ·have c2:n<1:=c2
  exact .drop 0 1 (.done ⟨cM (by unfold ej;simp;omega),rfl⟩)
 ·have c2:¬(n<1):=c2
  refine aa 0 ?_
  refine ao (fun c3 =>?_) (fun c3 =>?_)
  ·have c3:256<n:=c3
   exact .drop 0 1 (.done ⟨cM (by unfold ej;simp;omega),rfl⟩)
  ·have c3:¬(256<n):=c3
   refine ao (fun c4 =>?_) (fun c4 =>?_)
   ·have c4:1024<(↑l.length:Int):=c4
    exact .drop 0 1 (.done ⟨cM (by unfold ej;simp;omega),rfl⟩)
   ·have c4:¬(1024<(↑l.length:Int)):=c4
    refine eH [] (Ld 165 [.ptr aC 0] l (fun e => !(cN n e.1 && cN n e.2.1)) _ hl (fun i hi=>Zk n l[i] aC _)) (fun cL =>?_) (fun cL =>?_)
    ·exact .drop 0 1 (.done ⟨cM (by unfold ej;rw[Qw l cL];simp),rfl⟩)
    ·exact .drop 0 1 (.done ⟨cM (by unfold ej;rw[Qw l cL];simp;omega),rfl⟩)
def cP(what w:Int):Int:=if cE what w=true then (if what=3 then 2*w else w) else 0
theorem C5(what w:Int)(σ:Hp):ACalls Tryz.prog 116 [.int .i64 what,.int .i64 w] σ (az (.int .i64 (cP what w)) σ):=by
 refine okF Tryz.func116 (by kernel_rfl) ?_
 refine eH [] (EV what w _) (fun c0 =>?_) (fun c0 =>?_)
 ·refine ao (fun c1 =>?_) (fun c1 =>?_)
  ·have c1:what=3:=c1
   exact .done ⟨aN (by unfold cE at c0;simp at c0;unfold cP;rw[if_pos (oS (by omega)),if_pos c1,ck (by omega)]),rfl⟩
  ·have c1:¬(what=3):=c1
   exact .done ⟨aN (by unfold cP;rw[if_pos c0,if_neg c1]),rfl⟩
 ·exact .done ⟨aN (by unfold cP;rw[c0];rfl),rfl⟩
theorem UR(w:Int):fi (eV w) w=true:=by
 unfold fi
 rw[decide_eq_true (oH w),Bool.true_and,List.all_eq_true]
 intro i hi
 have hi:=List.mem_range.1 hi
 rw[oH]at hi
 rw[decide_eq_true_eq,zG w hi,Int.toNat_natCast]
 have:=Nat.two_pow_pos (min 64 (dR w-64*i))
 omega
theorem Ds{what w:Int}(h:cE what w=true):bZ what w (gm what w)=true:=by
 by_cases h3:what=3
 ·rw[hG h h3]
  unfold gm
  rw[if_neg (fun h=>by omega),Lf h h3]
  unfold cE at h;simp at h
  exact⟨by rw[List.length_replicate];omega,Nh _⟩
 ·rw[nD h h3]
  unfold gm
  split
  ·exact UR w
  ·rw[LX h h3,Int.toNat_natCast]
   refine (oO (HT _) List.length_replicate).2 fun i k hi _ _ =>?_
   unfold da
   rw[jK _ hi,List.getElem_replicate];exact CS k
theorem DR(what w:Int):aS (gm what w):=by
 unfold gm;split
 ·exact NM w
 ·exact HT _
theorem YZ(what w:Int):(gm what w).length≤1024:=by
 unfold gm;split
 ·rw[oH];have:=zx w;omega
 ·rw[List.length_replicate];have:=zf what w;omega
def cf(s:Sy):Int:=if cE s.what s.w=true then (if ej s.n s.aR=true∧(s.T.length:Int)=s.n then (if (s.entry.any fun v => !cN s.n v)=true then 1 else if bZ s.what s.w s.init=true then (if (s.T.any fun t => !decide (er s.what s.w t.1 t.2.1 t.2.2.1=0))=true then 2 else 0) else 2) else 1) else 10
theorem aab{s:Sy}(h:cE s.what s.w=false):10=cf s:=by unfold cf;rw[h];rfl
theorem Ed{s:Sy}(hi:cE s.what s.w=true)(h:¬(ej s.n s.aR=true∧(s.T.length:Int)=s.n)):1=cf s:=by unfold cf;rw[if_pos hi,if_neg h]
theorem DN{s:Sy}(hi:cE s.what s.w=true)(h:ej s.n s.aR=true∧(s.T.length:Int)=s.n)(he:(s.entry.any fun v => !cN s.n v)=true):1=cf s:=by unfold cf;rw[if_pos hi,if_pos h,if_pos he]
theorem Qs{s:Sy}(hi:cE s.what s.w=true)(h:ej s.n s.aR=true∧(s.T.length:Int)=s.n)(he:(s.entry.any fun v => !cN s.n v)=false)(hv:bZ s.what s.w s.init=false):2=cf s:=by unfold cf;rw[if_pos hi,if_pos h,he,hv];rfl
theorem PH{s:Sy}(hi:cE s.what s.w=true)(h:ej s.n s.aR=true∧(s.T.length:Int)=s.n)(he:(s.entry.any fun v => !cN s.n v)=false)(hv:bZ s.what s.w s.init=true)(ht:(s.T.any fun t => !decide (er s.what s.w t.1 t.2.1 t.2.2.1=0))=true):2=cf s:=by unfold cf;rw[if_pos hi,if_pos h,he,hv,ht];rfl
theorem ID{s:Sy}(hi:cE s.what s.w=true)(h:ej s.n s.aR=true∧(s.T.length:Int)=s.n)(he:(s.entry.any fun v => !cN s.n v)=false)(hv:bZ s.what s.w s.init=true)(ht:(s.T.any fun t => !decide (er s.what s.w t.1 t.2.1 t.2.2.1=0))=false):0=cf s:=by unfold cf;rw[if_pos hi,if_pos h,he,hv,ht];rfl
theorem zr(s:Sy)(σ:Hp)(hf:Fit s):ACalls Tryz.prog 58 [.agg (bD s)] σ (az (.int .i64 (cf s)) σ):=by
 refine okF Tryz.func58 (by kernel_rfl) ?_
 intro aC
 refine .quiet (by kernel_rfl) ?_
 refine aa 0 ?_
 refine aa 0 ?_
 refine aD [] (C5 _ _ _) ?_
 refine ao (fun c1 =>?_) (fun c1 =>?_)
 ·have c1:cP s.what s.w=0:=c1
  refine aa 0 ?_
  refine aa 0 ?_
  refine aa 0 ?_
  refine aa 0 ?_
  refine aD [] (He _ _ _) ?_
  refine H5 [] (EW s.what s.w (gm s.what s.w) _ (DR _ _) (Nat.le_trans (YZ _ _) (by decide))) (fun c2 =>?_) (fun c2 =>?_)
  ·have hi:=ky c2
   refine aa 0 ?_
   refine aa 0 ?_
   refine eH [] (An s.n s.aR _ (Nat.le_trans hf.um (by decide))) (fun cr =>?_) (fun cr =>?_)
   ·refine aa 0 ?_
    refine aa 0 ?_
    refine dx (fun ct =>?_) (fun ct =>?_)
    ·have ct:(!decide ((s.T.length:Int)=s.n))=true:=ct
     have ct:¬(s.T.length:Int)=s.n:=by simpa using ct
     exact .fwd 1 (.drop 0 1 (.done ⟨aN (Ed hi fun h=>ct h.2),rfl⟩))
    ·have ct:(!decide ((s.T.length:Int)=s.n))=false:=ct
     have ct:(s.T.length:Int)=s.n:=by simpa using ct
     have hr:ej s.n s.aR=true∧(s.T.length:Int)=s.n:=⟨cr,ct⟩
     refine aa 0 ?_
     refine bO (S:=Nat) (fun k=>[(1,.ptr aC 0),(3,.int .i64 1),(42,.ah (.int .i64) s.entry),(43,.int .i64 s.entry.length),(44,.int .i64 k)]) (fun _=>(aC,bD s)::σ) (fun k=>k≤s.entry.length∧((s.entry.take k).any fun v => !cN s.n v)=false) (fun k=>s.entry.length-k) 0 ⟨⟨Nat.zero_le _,rfl⟩,⟨rfl,rfl,rfl,rfl,rfl,trivial⟩,rfl⟩ ?_
     rintro k g ⟨aZ,qw⟩
     have hk:k≤s.entry.length:=aZ
     have ha:((s.entry.take k).any fun v => !cN s.n v)=false:=qw
     clear aZ qw
     refine ao (fun ab =>?_) (fun au =>?_)
     ·have ab:k<s.entry.length:=by have ab:(k:Int)<s.entry.length:=ab;omega
      have hs:=rV ab fun v => !cN s.n v
      rw[ha,Bool.false_or]at hs
      have Bc:cN s.n s.entry[k]=false→(s.entry.any fun v => !cN s.n v)=true:=fun h=>List.any_eq_true.2 ⟨s.entry[k],List.getElem_mem ab,by rw[h];rfl⟩
      refine ag.mk rfl (bH.mk s.entry[k] (by omega) (get_some ab) ?_)
      refine ao (p:=s.entry[k]<0) (fun d1 =>?_) (fun d1 =>?_)
      ·exact .fwd 1 (.drop 0 1 (.done ⟨aN (DN hi hr (Bc (by unfold cN;simp;omega))),rfl⟩))
      ·refine aa 0 ?_
       refine ao (p:=s.n≤s.entry[k]) (fun d2 =>?_) (fun d2 =>?_)
       ·exact .fwd 1 (.drop 0 1 (.done ⟨aN (DN hi hr (Bc (by unfold cN;simp;omega))),rfl⟩))
       ·exact bg (k+1) (by show s.entry.length-(k+1)<s.entry.length-k;omega) ⟨ab,hs.trans (by unfold cN;simp;omega)⟩ ⟨rfl,rfl,rfl,rfl,a8 (by have:=hf.AY;omega),trivial⟩ (.refl _)
     ·have au:k=s.entry.length:=by have au:¬(k:Int)<s.entry.length:=au;omega
      subst au
      rw[List.take_length]at ha
      refine aa 0 ?_
      refine aa 0 ?_
      refine aa 0 ?_
      refine eH [] (EW s.what s.w s.init _ hf.i64 (Nat.le_trans hf.Ew (by decide))) (fun cv =>?_) (fun cv =>?_)
      ·refine aa 0 ?_
       refine bO (S:=Nat) (fun k=>[(1,.ptr aC 0),(3,.int .i64 2),(66,.ah j7 s.T),(67,.int .i64 s.T.length),(68,.int .i64 k)]) (fun _=>(aC,bD s)::σ) (fun k=>k≤s.T.length∧((s.T.take k).any fun t => !decide (er s.what s.w t.1 t.2.1 t.2.2.1=0))=false) (fun k=>s.T.length-k) 0 ⟨⟨Nat.zero_le _,rfl⟩,⟨rfl,rfl,rfl,rfl,rfl,trivial⟩,rfl⟩ ?_
       rintro k g ⟨aZ,jG⟩
       have hk:k≤s.T.length:=aZ
       have ht:((s.T.take k).any fun t => !decide (er s.what s.w t.1 t.2.1 t.2.2.1=0))=false:=jG
       clear aZ jG
       refine ao (fun ab =>?_) (fun au =>?_)
       ·have ab:k<s.T.length:=by have ab:(k:Int)<s.T.length:=ab;omega
        have hs:=rV ab fun t => !decide (er s.what s.w t.1 t.2.1 t.2.2.1=0)
        rw[ht,Bool.false_or]at hs
        have ho:=hf.ts _ (List.getElem_mem ab)
        have hm:=List.getElem_mem ab
        obtain⟨t,gb⟩:∃t:kp,s.T[k]=t:=⟨_,rfl⟩
        rw[gb]at hs ho hm
        refine ag.mk rfl (bH.mk t (by omega) ((get_some ab).trans (congrArg some gb)) ?_)
        intro dI
        refine ai 0 ?_
        refine aa 1 ?_
        refine aa 1 ?_
        refine aa 0 ?_
        refine ax [] (HM s.what s.w t.1 t.2.1 t.2.2.1 _ ho.1 ho.2.1 ho.2.2.1 ho.2.2.2.1 (Nat.le_trans ho.2.2.2.2 (by decide))) ?_
        refine dx (fun d1 =>?_) (fun d1 =>?_)
        ·exact .fwd 1 (.drop 0 2 (.done ⟨aN (PH hi hr ha cv (List.any_eq_true.2 ⟨t,hm,d1⟩)),rfl⟩))
        ·exact bg (k+1) (by show s.T.length-(k+1)<s.T.length-k;omega) ⟨ab,hs.trans d1⟩ ⟨rfl,rfl,rfl,rfl,a8 (by have:=hf.IN;omega),trivial⟩ (.drop 0 1 (.refl _))
       ·have au:k=s.T.length:=by have au:¬(k:Int)<s.T.length:=au;omega
        subst au
        rw[List.take_length]at ht
        exact .drop 0 1 (.done ⟨aN (ID hi hr ha cv ht),rfl⟩)
      ·exact .fwd 1 (.drop 0 1 (.done ⟨aN (Qs hi hr ha cv),rfl⟩))
   ·exact .fwd 1 (.drop 0 1 (.done ⟨aN (Ed hi fun h=>by rw[h.1]at cr;cases cr),rfl⟩))
  ·have hi:cE s.what s.w=false:=by
    cases h:cE s.what s.w with
    | false=>rfl
    | true=>rw[Ds h]at c2;cases c2
   exact .fwd 1 (.drop 0 1 (.done ⟨aN (aab hi),rfl⟩))
 ·have c1:¬cP s.what s.w=0:=c1
  refine aa 0 ?_
  refine aa 0 ?_
  have hi:cE s.what s.w=true:=by
   cases h:cE s.what s.w with
   | true=>rfl
   | false=>exact absurd (by unfold cP;rw[h];rfl) c1
  refine eH [] (An s.n s.aR _ (Nat.le_trans hf.um (by decide))) (fun cr =>?_) (fun cr =>?_)
  ·refine aa 0 ?_
   refine aa 0 ?_
   refine dx (fun ct =>?_) (fun ct =>?_)
   ·have ct:(!decide ((s.T.length:Int)=s.n))=true:=ct
    have ct:¬(s.T.length:Int)=s.n:=by simpa using ct
    exact .fwd 1 (.drop 0 1 (.done ⟨aN (Ed hi fun h=>ct h.2),rfl⟩))
   ·have ct:(!decide ((s.T.length:Int)=s.n))=false:=ct
    have ct:(s.T.length:Int)=s.n:=by simpa using ct
    have hr:ej s.n s.aR=true∧(s.T.length:Int)=s.n:=⟨cr,ct⟩
    refine aa 0 ?_
    refine bO (S:=Nat) (fun k=>[(1,.ptr aC 0),(3,.int .i64 1),(42,.ah (.int .i64) s.entry),(43,.int .i64 s.entry.length),(44,.int .i64 k)]) (fun _=>(aC,bD s)::σ) (fun k=>k≤s.entry.length∧((s.entry.take k).any fun v => !cN s.n v)=false) (fun k=>s.entry.length-k) 0 ⟨⟨Nat.zero_le _,rfl⟩,⟨rfl,rfl,rfl,rfl,rfl,trivial⟩,rfl⟩ ?_
    rintro k g ⟨aZ,qw⟩
    have hk:k≤s.entry.length:=aZ
    have ha:((s.entry.take k).any fun v => !cN s.n v)=false:=qw
    clear aZ qw
    refine ao (fun ab =>?_) (fun au =>?_)
    ·have ab:k<s.entry.length:=by have ab:(k:Int)<s.entry.length:=ab;omega
     have hs:=rV ab fun v => !cN s.n v
     rw[ha,Bool.false_or]at hs
     have Bc:cN s.n s.entry[k]=false→(s.entry.any fun v => !cN s.n v)=true:=fun h=>List.any_eq_true.2 ⟨s.entry[k],List.getElem_mem ab,by rw[h];rfl⟩
     refine ag.mk rfl (bH.mk s.entry[k] (by omega) (get_some ab) ?_)
     refine ao (p:=s.entry[k]<0) (fun d1 =>?_) (fun d1 =>?_)
     ·exact .fwd 1 (.drop 0 1 (.done ⟨aN (DN hi hr (Bc (by unfold cN;simp;omega))),rfl⟩))
     ·refine aa 0 ?_
      refine ao (p:=s.n≤s.entry[k]) (fun d2 =>?_) (fun d2 =>?_)
      ·exact .fwd 1 (.drop 0 1 (.done ⟨aN (DN hi hr (Bc (by unfold cN;simp;omega))),rfl⟩))
      ·exact bg (k+1) (by show s.entry.length-(k+1)<s.entry.length-k;omega) ⟨ab,hs.trans (by unfold cN;simp;omega)⟩ ⟨rfl,rfl,rfl,rfl,a8 (by have:=hf.AY;omega),trivial⟩ (.refl _)
    ·have au:k=s.entry.length:=by have au:¬(k:Int)<s.entry.length:=au;omega
     subst au
     rw[List.take_length]at ha
     refine aa 0 ?_
     refine aa 0 ?_
     refine aa 0 ?_
     refine eH [] (EW s.what s.w s.init _ hf.i64 (Nat.le_trans hf.Ew (by decide))) (fun cv =>?_) (fun cv =>?_)
     ·refine aa 0 ?_
      refine bO (S:=Nat) (fun k=>[(1,.ptr aC 0),(3,.int .i64 2),(66,.ah j7 s.T),(67,.int .i64 s.T.length),(68,.int .i64 k)]) (fun _=>(aC,bD s)::σ) (fun k=>k≤s.T.length∧((s.T.take k).any fun t => !decide (er s.what s.w t.1 t.2.1 t.2.2.1=0))=false) (fun k=>s.T.length-k) 0 ⟨⟨Nat.zero_le _,rfl⟩,⟨rfl,rfl,rfl,rfl,rfl,trivial⟩,rfl⟩ ?_
      rintro k g ⟨aZ,jG⟩
      have hk:k≤s.T.length:=aZ
      have ht:((s.T.take k).any fun t => !decide (er s.what s.w t.1 t.2.1 t.2.2.1=0))=false:=jG
      clear aZ jG
      refine ao (fun ab =>?_) (fun au =>?_)
      ·have ab:k<s.T.length:=by have ab:(k:Int)<s.T.length:=ab;omega
       have hs:=rV ab fun t => !decide (er s.what s.w t.1 t.2.1 t.2.2.1=0)
       rw[ht,Bool.false_or]at hs
       have ho:=hf.ts _ (List.getElem_mem ab)
       have hm:=List.getElem_mem ab
       obtain⟨t,gb⟩:∃t:kp,s.T[k]=t:=⟨_,rfl⟩
       rw[gb]at hs ho hm
       refine ag.mk rfl (bH.mk t (by omega) ((get_some ab).trans (congrArg some gb)) ?_)
       intro dI
       refine ai 0 ?_
       refine aa 1 ?_
       refine aa 1 ?_
       refine aa 0 ?_
       refine ax [] (HM s.what s.w t.1 t.2.1 t.2.2.1 _ ho.1 ho.2.1 ho.2.2.1 ho.2.2.2.1 (Nat.le_trans ho.2.2.2.2 (by decide))) ?_
       refine dx (fun d1 =>?_) (fun d1 =>?_)
       ·exact .fwd 1 (.drop 0 2 (.done ⟨aN (PH hi hr ha cv (List.any_eq_true.2 ⟨t,hm,d1⟩)),rfl⟩))
       ·exact bg (k+1) (by show s.T.length-(k+1)<s.T.length-k;omega) ⟨ab,hs.trans d1⟩ ⟨rfl,rfl,rfl,rfl,a8 (by have:=hf.IN;omega),trivial⟩ (.drop 0 1 (.refl _))
      ·have au:k=s.T.length:=by have au:¬(k:Int)<s.T.length:=au;omega
       subst au
       rw[List.take_length]at ht
       exact .drop 0 1 (.done ⟨aN (ID hi hr ha cv ht),rfl⟩)
     ·exact .fwd 1 (.drop 0 1 (.done ⟨aN (Qs hi hr ha cv),rfl⟩))
  ·exact .fwd 1 (.drop 0 1 (.done ⟨aN (Ed hi fun h=>by rw[h.1]at cr;cases cr),rfl⟩))
set_option maxRecDepth 100000
theorem Zs(l:List Int)(x:Int)(σ:Hp)(hl:l.length≤1000000):ACalls Tryz.prog 202 [.ah (.int .i64) l,.int .i64 x] σ (fun r σ'=>∃n:Int,r=.int .i64 n∧σ'=σ∧decide (0≤n)=l.any fun z=>decide (x=z)):=by
 refine okF Tryz.func202 (by kernel_rfl) ?_
 refine bO (S:=Nat) (fun s=>[(0,.ah (.int .i64) l),(1,.int .i64 x),(7,.int .i64 l.length),(8,.int .i64 s)]) (fun _=>σ) (fun s=>s≤l.length∧((l.take s).any fun z=>decide (x=z))=false) (fun s=>l.length-s) 0 ⟨⟨Nat.zero_le _,rfl⟩,⟨rfl,rfl,rfl,rfl,trivial⟩,rfl⟩ ?_
 rintro k t ⟨aZ,eT⟩
 have hk:k≤l.length:=aZ
 have hn:((l.take k).any fun z=>decide (x=z))=false:=eT
 clear aZ eT
 refine ao (fun ab =>?_) (fun au =>?_)
 ·have ab:k<l.length:=by have ab:(k:Int)<l.length:=ab;omega
  have hs:=rV ab fun z=>decide (x=z)
  rw[hn,Bool.false_or]at hs
  refine ag.mk rfl (bH.mk l[k] (by omega) (get_some ab) ?_)
  refine ao (fun c =>?_) (fun c =>?_)
  ·have c:x=l[k]:=c
   have hp:(l.any fun z=>decide (x=z))=true:=List.any_eq_true.2 ⟨l[k],List.getElem_mem ab,decide_eq_true c⟩
   exact .done ⟨_,rfl,rfl,by rw[hp];exact decide_eq_true (by omega)⟩
  ·have c:¬x=l[k]:=c
   exact bg (k+1) (by show l.length-(k+1)<l.length-k;omega) ⟨ab,hs.trans (decide_eq_false c)⟩ ⟨rfl,rfl,rfl,a8 (by omega),trivial⟩ (.refl _)
 ·have au:k=l.length:=by have au:¬(k:Int)<l.length:=au;omega
  subst au
  rw[List.take_length]at hn
  exact .done ⟨_,rfl,rfl,by rw[hn];rfl⟩
theorem TG(l:List Int)(x:Int)(σ:Hp)(hl:l.length≤1000000):ACalls Tryz.prog 149 [.ah (.int .i64) l,.int .i64 x] σ (az (.bool (l.any fun z=>decide (x=z))) σ):=by
 refine okF Tryz.func149 (by kernel_rfl) ?_
 refine .mk [] _ (Zs l x _ hl) ?_
 rintro _ _ ⟨n,rfl,rfl,hn⟩
 rw[← hn]
 refine ao (fun c =>?_) (fun c =>?_)
 ·have c:0≤n:=c
  rw[decide_eq_true c]
  exact .done ⟨rfl,rfl⟩
 ·have c:¬0≤n:=c
  rw[decide_eq_false c]
  exact .done ⟨rfl,rfl⟩
theorem Zx(l:List Int)(σ:Hp)(hl:l.length≤1000000):ACalls Tryz.prog 150 [.ah (.int .u64) l] σ (az (.ah (.int .u64) l) σ):=by
 refine (O5 l σ hl).fin ?_
 rintro v σ' ⟨acc,bP,rfl⟩
 exact qG (s:=.int .u64) [] bP rfl (oL l) (by decide) (.done ⟨rfl,rfl⟩)
def gu(s:Sy)(v:Int):List Int:=if (s.entry.any fun z=>decide (v=z))=true then s.init else gm s.what s.w
theorem aan(s:Sy)(v:Int)(σ:Hp)(hf:Fit s):ACalls Tryz.prog 99 [.agg (bD s),.int .i64 v] σ (az (.ah (.int .u64) (gu s v)) σ):=by
 refine okF Tryz.func99 (by kernel_rfl) ?_
 intro aC
 refine aa 0 ?_
 refine eH [] (TG s.entry v _ (Nat.le_trans hf.AY (by decide))) (fun c =>?_) (fun c =>?_)
 ·refine aa 0 ?_
  refine ax [] (Zx s.init _ (Nat.le_trans hf.Ew (by decide))) ?_
  exact .drop 0 1 (.done ⟨by unfold gu;rw[c];rfl,rfl⟩)
 ·refine aa 0 ?_
  refine aa 0 ?_
  refine ax [] (He _ _ _) ?_
  exact .drop 0 1 (.done ⟨by unfold gu;rw[c];rfl,rfl⟩)
def vK(s:Sy)(a:List (List Int)):Bool:=decide ((a.length:Int)=s.n) && a.all (bZ s.what s.w)
def AX(a:List (List Int)):Prop:=a.length≤100000∧∀x∈a,aS x∧x.length≤10000
set_option maxRecDepth 100000
structure Good(s:Sy):Prop where
 rr:cE s.what s.w=true
 n1:1≤s.n
 n2:s.n≤256
 el:s.aR.length≤1024
 yn:∀e∈s.aR,(0≤e.1∧e.1<s.n)∧0≤e.2.1∧e.2.1<s.n
 tl:(s.T.length:Int)=s.n
 ent:∀v∈s.entry,0≤v∧v<s.n
 ini:bZ s.what s.w s.init=true
 E4:∀t∈s.T,er s.what s.w t.1 t.2.1 t.2.2.1=0
theorem jm{n a:Int}:cN n a=true↔0≤a∧a<n:=by unfold cN;simp
theorem HE{s:Sy}(h:cf s=0):Good s:=by
 unfold cf at h
 split at h
 ·rename_i h1
  split at h
  ·rename_i h2
   split at h
   ·cases h
   ·rename_i h3
    split at h
    ·rename_i h4
     split at h
     ·cases h
     ·rename_i h5
      have h3:(s.entry.any fun v => !cN s.n v)=false:=by simpa using h3
      have h5:(s.T.any fun t => !decide (er s.what s.w t.1 t.2.1 t.2.2.1=0))=false:=by simpa using h5
      have hr:=h2.1
      unfold ej at hr
      simp only[Bool.and_eq_true,decide_eq_true_eq]at hr
      refine⟨h1,hr.1.1.1,hr.1.1.2,hr.1.2,fun e he =>?_,h2.2,fun v hv =>?_,h4,fun t ht =>?_⟩
      ·have:=List.all_eq_true.1 hr.2 e he
       rw[Bool.and_eq_true,jm,jm]at this
       exact this
      ·have:=List.any_eq_false.1 h3 v hv
       exact jm.1 (by simpa using this)
      ·have:=List.any_eq_false.1 h5 t ht
       simpa using this
    ·cases h
  ·cases h
 ·cases h
theorem GF{s:Sy}(h:Good s):cf s=0:=by
 refine (ID h.rr ⟨?_,h.tl⟩ (List.any_eq_false.2 fun v hv =>?_) h.ini (List.any_eq_false.2 fun t ht =>?_)).symm
 ·unfold ej
  simp only[Bool.and_eq_true,decide_eq_true_eq]
  refine⟨⟨⟨h.n1,h.n2⟩,h.el⟩,List.all_eq_true.2 fun e he =>?_⟩
  rw[Bool.and_eq_true,jm,jm];exact h.yn e he
 ·rw[jm.2 (h.ent v hv)];decide
 ·rw[h.E4 t ht];decide
def iD(s:Sy)(x:List Int)(v:Nat):List Int:=fh s.what (s.T.getD v ([],[],[],())).1 (s.T.getD v ([],[],[],())).2.1 (s.T.getD v ([],[],[],())).2.2.1 x
def xU(s:Sy)(a:List (List Int))(v:Nat)(x:List Int)(e:aV):List Int:=if e.2.1=v then dr s.what x (iD s (a.getD e.1.toNat []) e.1.toNat) else x
def mM(s:Sy)(a:List (List Int))(k v:Nat):List Int:=(s.aR.take k).foldl (xU s a v) (gu s v)
def DZ(s:Sy)(a:List (List Int))(k:Nat):List (List Int):=(List.range s.n.toNat).map (mM s a k)
def ib(s:Sy)(a:List (List Int)):List (List Int):=DZ s a s.aR.length
theorem RE(s:Sy)(a:List (List Int))(k:Nat):(DZ s a k).length=s.n.toNat:=by unfold DZ;simp
theorem y5(s:Sy)(a:List (List Int)){k:Nat}(h:k<s.aR.length)(v:Nat):mM s a (k+1) v=xU s a v (mM s a k v) s.aR[k]:=by
 unfold mM;rw[List.take_succ_eq_append_getElem h,List.foldl_append];rfl
theorem zw{s:Sy}{a:List (List Int)}:vK s a=true↔(a.length:Int)=s.n∧∀x∈a,bZ s.what s.w x=true:=by
 unfold vK;rw[Bool.and_eq_true,decide_eq_true_eq,List.all_eq_true]
theorem L0{what w:Int}{x:List Int}(h:bZ what w x=true):x.length≤1024:=by
 have h1:=tF h
 have:=zf what w;omega
theorem IK{s:Sy}(hg:Good s){v:Nat}(h:(v:Int)<s.n):∃h2:v<s.T.length,s.T.getD v ([],[],[],())=s.T[v]:=by
 have h2:v<s.T.length:=by have:=hg.tl;omega
 exact⟨h2,by rw[List.getD_eq_getElem?_getD,List.getElem?_eq_getElem h2];rfl⟩
theorem Hs{s:Sy}(hf:Fit s)(hg:Good s){x:List Int}(kQ:aS x)(hv:bZ s.what s.w x=true){v:Nat}(h:(v:Int)<s.n):bZ s.what s.w (iD s x v)=true∧aS (iD s x v):=by
 obtain⟨h2,e⟩:=IK hg h
 unfold iD
 rw[e]
 have ho:=hf.ts _ (List.getElem_mem h2)
 exact⟨CP ho.1 ho.2.1 kQ (hg.E4 _ (List.getElem_mem h2)) hv,xe kQ⟩
theorem Gn{s:Sy}(hf:Fit s)(hg:Good s)(v:Int):bZ s.what s.w (gu s v)=true∧aS (gu s v):=by
 unfold gu;split
 ·exact⟨hg.ini,hf.i64⟩
 ·exact⟨Ds hg.rr,DR _ _⟩
theorem Cz{s:Sy}(hf:Fit s)(hg:Good s){a:List (List Int)}(ha:AX a)(hv:vK s a=true)(v:Nat):∀k,k≤s.aR.length→bZ s.what s.w (mM s a k v)=true∧aS (mM s a k v)
 | 0,_=>by
  show bZ s.what s.w (gu s v)=true∧aS (gu s v)
  exact Gn hf hg v
 | k+1,h=>by
  have ih:=Cz hf hg ha hv v k (by omega)
  rw[y5 s a (by omega)]
  unfold xU
  split
  ·have he:=hg.yn _ (List.getElem_mem (show k<s.aR.length by omega))
   have hva:=zw.1 hv
   generalize s.aR[k]=e at he
   have hl:e.1.toNat<a.length:=by omega
   have hm:a.getD e.1.toNat []∈a:=by rw[List.getD_eq_getElem?_getD,List.getElem?_eq_getElem hl];exact List.getElem_mem hl
   have ho:=Hs hf hg (ha.2 _ hm).1 (hva.2 _ hm) (v:=e.1.toNat) (by omega)
   exact⟨G0 ih.2 ho.2 ih.1 ho.1,tL ih.2 ho.2⟩
  ·exact ih
theorem Lm{s:Sy}(hf:Fit s)(hg:Good s){a:List (List Int)}(ha:AX a)(hv:vK s a=true):vK s (ib s a)=true∧AX (ib s a):=by
 have hx:∀x∈ib s a,bZ s.what s.w x=true∧aS x:=fun x hx=>by
  obtain⟨v,_,rfl⟩:=List.mem_map.1 hx
  exact Cz hf hg ha hv v _ (Nat.le_refl _)
 have hn:=hg.n1
 have mr:=hg.n2
 have hl:(ib s a).length=s.n.toNat:=RE _ _ _
 exact⟨zw.2 ⟨by omega,fun x h=>(hx x h).1⟩,by omega,fun x h=>⟨(hx x h).2,by have:=L0 (hx x h).1;omega⟩⟩
theorem sa{i:TI}(hs:i.size=1){cs:List AV}{o:Nat}{v:AV}(hv:v.cells?=some [v])(ho:o<cs.length):jq i cs o v=some (cs.set o v):=by
 unfold jq
 rw[hv]
 simp only
 have e1:Nat.beq ([v]:List AV).length i.size=true:=by rw[hs];rfl
 have e2:Nat.ble (o+i.size) cs.length=true:=Nat.ble_eq_true_of_le (by omega)
 rw[e1,e2]
 rfl
theorem gN{i:TI}(hw:i.wide=false){cs:List AV}{o:Nat}{v:AV}(h:cs[o]?=some v):cY i cs o=some v:=by unfold cY;rw[hw];exact h
def vA(s:Sy):List (List Int):=List.replicate s.n.toNat (gm s.what s.w)
theorem Rq(s:Sy):(vA s).length=s.n.toNat:=List.length_replicate
set_option maxRecDepth 100000
def aY(b:List Bool):List AV:=b.map .bool
theorem Y2{b:List Bool}{k:Nat}(h:k<b.length){z:Int}(hz:z=k):(aY b)[0+z.toNat*1]?=some (.bool (b.getD k false)):=by
 subst hz
 rw[Int.toNat_natCast,Nat.mul_one,Nat.zero_add]
 unfold aY
 rw[List.getElem?_map,List.getElem?_eq_getElem h,List.getD_eq_getElem?_getD,List.getElem?_eq_getElem h];rfl
theorem Y0(b:List Bool)(k:Nat)(x:Bool){z:Int}(hz:z=k):(aY b).set (0+z.toNat*1) (.bool x)=aY (b.set k x):=by
 subst hz
 rw[Int.toNat_natCast,Nat.mul_one,Nat.zero_add]
 unfold aY
 rw[List.map_set]
theorem zT(n:Nat):bU [.bool false] n=aY (List.replicate n false):=by
 induction n with
 | zero=>rfl
 | succ n ih=>show AV.bool false::bU [.bool false] n=_;rw[ih];rfl
def tX(n:Int)(b:List Bool)(a:Int):List Bool:=if 0≤a∧a<n then b.set a.toNat true else b
def pz(n:Int)(b:List Bool)(e:aV):List Bool:=if (0≤e.1∧e.1<n)∧(0≤e.2.1∧e.2.1<n)∧b.getD e.1.toNat false=true then b.set e.2.1.toNat true else b
def mJ(n:Int)(l:List aV)(b:List Bool):List Bool:=l.foldl (pz n) b
def rW(n:Int)(l:List aV):Nat→List Bool→List Bool
 | 0,b=>b
 | k+1,b=>rW n l k (mJ n l b)
def Ir(b:List Bool)(k:Nat):List Int:=((List.range k).filter fun i=>b.getD i false).map fun i:Nat=>(i:Int)
def Ak(n:Int)(l:List aV)(fr:List Int):List Bool:=rW n l n.toNat (fr.foldl (tX n) (List.replicate n.toNat false))
def HU(n:Int)(l:List aV)(fr:List Int):List Int:=Ir (Ak n l fr) n.toNat
theorem KM(n:Int)(b:List Bool)(a:Int):(tX n b a).length=b.length:=by unfold tX;split;exact List.length_set;rfl
theorem LF(n:Int)(b:List Bool)(e:aV):(pz n b e).length=b.length:=by unfold pz;split;exact List.length_set;rfl
theorem Y1(b:List Bool):(aY b).length=b.length:=List.length_map _
theorem rounds_succ(n:Int)(l:List aV)(k:Nat)(b:List Bool):rW n l (k+1) b=rW n l k (mJ n l b):=rfl
theorem vk{i:TI}(hs:i.size=1){b:List Bool}(x:Bool){a:Int}(h1:0≤a)(h2:a<b.length):jq i (aY b) (0+a.toNat*1) (.bool x)=some (aY (b.set a.toNat x)):=by
 rw[sa hs rfl (by rw[Y1];omega),Y0 b a.toNat x (by omega)]
theorem qE{i:TI}(hw:i.wide=false){b:List Bool}{a:Int}(h1:0≤a)(h2:a<b.length):cY i (aY b) (0+a.toNat*1)=some (.bool (b.getD a.toNat false)):=gN hw (Y2 (by omega) (by omega))
set_option maxRecDepth 100000
def qf(l:List Int)(x:Int):Bool:=l.any fun z=>decide (x=z)
theorem z6{l:List Int}{x:Int}:qf l x=true↔x∈l:=by unfold qf;simp
theorem HB(l:List Int):(aj l).length=l.length:=List.length_map _
def yr(n:Int)(l:List aV)(a b:Int):Bool:=qf (HU n l [a]) b
def HV(n:Int)(l:List aV)(a:Int)(k:Nat):List Int:=((List.range k).filter fun b:Nat=>yr n l a b && yr n l b a).map fun i:Nat=>(i:Int)
def oV(n:Int)(l:List aV)(a:Int):List Int:=HV n l a n.toNat
def IC(l:List aV)(part told:List Int):Bool:=l.all fun e => !(qf part e.2.1 && !qf part e.1 && !qf told e.1)
set_option maxRecDepth 100000
theorem Ga{b:List Bool}{i j:Nat}{x:Bool}:(b.set i x).getD j false=if i=j∧j<b.length then x else b.getD j false:=by
 simp only[List.getD_eq_getElem?_getD,List.getElem?_set]
 by_cases h:i=j
 ·subst h
  by_cases h2:i<b.length
  ·simp[h2]
  ·simp[h2]
 ·simp[h]
theorem UD{n:Nat}{l:List aV}{a z:Int}:z∈oV n l a↔∃i:Nat,i<n∧(yr n l a i && yr n l i a)=true∧z=i:=by
 unfold oV HV
 rw[List.mem_map,Int.toNat_natCast]
 constructor
 ·rintro⟨i,hi,rfl⟩
  rw[List.mem_filter,List.mem_range]at hi
  exact⟨i,hi.1,hi.2,rfl⟩
 ·rintro⟨i,h1,h2,rfl⟩
  exact⟨i,by rw[List.mem_filter,List.mem_range];exact⟨h1,h2⟩,rfl⟩
def bK(ps:List (List Int)):List AV:=ps.map (.ah (.int .i64))
theorem tz:∀ps:List (List Int),bK ps=ps.flatMap (Sh.cells (.slice (.int .i64)))
 | []=>rfl
 | p::ps=>congrArg (AV.ah (.int .i64) p :: ·) (tz ps)
theorem OJ{nx:List Int}(h:0<nx.length):nx[((0:Int)).toNat]?=some (nx.headD 0):=by
 cases nx with
 | nil=>simp at h
 | cons z nx=>rfl
end Go.Proofs.YtnpidbjdilnhlaaGreat
namespace Go.Proofs.YtnpidbjdilnhlaaGreat
open Go.Shelf
def Sg:Go.Shelf.Ren:=⟨fun | 189=>244 | 125=>208 | 257=>285 | 128=>258 | 129=>259 | 294=>307 | 295=>308 | 296=>309 | 297=>310 | 298=>311 | 299=>312 | 216=>313 | 300=>314 | 301=>315 | 328=>327 | 329=>287 | 330=>288 | 331=>328 | 332=>329 | 215=>232 | 343=>333 | n=>n,fun | 28=>23 | 3=>3 | 46=>253 | 0=>0 | 51=>290 | 53=>38 | 4=>4 | 183=>283 | 182=>282 | 131=>287 | 5=>5 | 9=>9 | 218=>314 | 222=>318 | 228=>333 | 229=>70 | n=>n,fun | n=>n⟩
theorem Hw:Go.Proofs.Lays.n189 Tryz.prog Sg:= {
 mixed:=by kernel_rfl
 f125:=Tryz.func208.trans (congrArg some (by kernel_rfl))
 f128:=Tryz.func258.trans (congrArg some (by kernel_rfl))
 f129:=Tryz.func259.trans (congrArg some (by kernel_rfl))
 f189:=Tryz.func244.trans (congrArg some (by kernel_rfl))
 f215:=Tryz.func232.trans (congrArg some (by kernel_rfl))
 f216:=Tryz.func313.trans (congrArg some (by kernel_rfl))
 f257:=Tryz.func285.trans (congrArg some (by kernel_rfl))
 f294:=Tryz.func307.trans (congrArg some (by kernel_rfl))
 f295:=Tryz.func308.trans (congrArg some (by kernel_rfl))
 f296:=Tryz.func309.trans (congrArg some (by kernel_rfl))
 f297:=Tryz.func310.trans (congrArg some (by kernel_rfl))
 f298:=Tryz.func311.trans (congrArg some (by kernel_rfl))
 f299:=Tryz.func312.trans (congrArg some (by kernel_rfl))
 f300:=Tryz.func314.trans (congrArg some (by kernel_rfl))
 f301:=Tryz.func315.trans (congrArg some (by kernel_rfl))
 f328:=Tryz.func327.trans (congrArg some (by kernel_rfl))
 f329:=Tryz.func287.trans (congrArg some (by kernel_rfl))
 f330:=Tryz.func288.trans (congrArg some (by kernel_rfl))
 f331:=Tryz.func328.trans (congrArg some (by kernel_rfl))
 f332:=Tryz.func329.trans (congrArg some (by kernel_rfl))
 f343:=Tryz.func333.trans (congrArg some (by kernel_rfl))
 t0:=Tryz.underlying0
 a0:=Tryz.isAgg0
 z0:=Tryz.sizeOf0
 v0:=Tryz.zeroValue0
 t3:=Tryz.underlying3
 a3:=Tryz.isAgg3
 z3:=Tryz.sizeOf3
 v3:=Tryz.zeroValue3
 t4:=Tryz.underlying4
 a4:=Tryz.isAgg4
 z4:=Tryz.sizeOf4
 v4:=Tryz.zeroValue4
 t5:=Tryz.underlying5
 a5:=Tryz.isAgg5
 z5:=Tryz.sizeOf5
 v5:=Tryz.zeroValue5
 t9:=Tryz.underlying9
 a9:=Tryz.isAgg9
 z9:=Tryz.sizeOf9
 v9:=Tryz.zeroValue9
 t28:=Tryz.underlying23
 a28:=Tryz.isAgg23
 z28:=Tryz.sizeOf23
 v28:=Tryz.zeroValue23
 t46:=Tryz.underlying253
 a46:=Tryz.isAgg253
 z46:=Tryz.sizeOf253
 v46:=Tryz.zeroValue253
 t51:=Tryz.underlying290
 a51:=Tryz.isAgg290
 z51:=Tryz.sizeOf290
 v51:=Tryz.zeroValue290
 t53:=Tryz.underlying38
 a53:=Tryz.isAgg38
 z53:=Tryz.sizeOf38
 v53:=Tryz.zeroValue38
 t131:=Tryz.underlying287
 a131:=Tryz.isAgg287
 z131:=Tryz.sizeOf287
 v131:=Tryz.zeroValue287
 t182:=Tryz.underlying282
 a182:=Tryz.isAgg282
 z182:=Tryz.sizeOf282
 v182:=Tryz.zeroValue282
 t183:=Tryz.underlying283
 a183:=Tryz.isAgg283
 z183:=Tryz.sizeOf283
 v183:=Tryz.zeroValue283
 t218:=Tryz.underlying314
 a218:=Tryz.isAgg314
 z218:=Tryz.sizeOf314
 v218:=Tryz.zeroValue314
 t222:=Tryz.underlying318
 a222:=Tryz.isAgg318
 z222:=Tryz.sizeOf318
 v222:=Tryz.zeroValue318
 t228:=Tryz.underlying333
 a228:=Tryz.isAgg333
 z228:=Tryz.sizeOf333
 v228:=Tryz.zeroValue333
 t229:=Tryz.underlying70
 a229:=Tryz.isAgg70
 z229:=Tryz.sizeOf70
 v229:=Tryz.zeroValue70 }
def Sf:Go.Shelf.Ren:=⟨fun | 20=>245 | n=>n,fun | 22=>23 | 3=>3 | 4=>4 | 0=>0 | n=>n,fun | n=>n⟩
theorem Hv:Go.Proofs.Lays2.n20 Tryz.prog Sf:= {
 mixed:=by kernel_rfl
 f20:=Tryz.func245.trans (congrArg some (by kernel_rfl))
 t0:=Tryz.underlying0
 a0:=Tryz.isAgg0
 z0:=Tryz.sizeOf0
 v0:=Tryz.zeroValue0
 t3:=Tryz.underlying3
 a3:=Tryz.isAgg3
 z3:=Tryz.sizeOf3
 v3:=Tryz.zeroValue3
 t4:=Tryz.underlying4
 a4:=Tryz.isAgg4
 z4:=Tryz.sizeOf4
 v4:=Tryz.zeroValue4
 t22:=Tryz.underlying23
 a22:=Tryz.isAgg23
 z22:=Tryz.sizeOf23
 v22:=Tryz.zeroValue23
 i3:=by kernel_rfl }
end Go.Proofs.YtnpidbjdilnhlaaGreat
