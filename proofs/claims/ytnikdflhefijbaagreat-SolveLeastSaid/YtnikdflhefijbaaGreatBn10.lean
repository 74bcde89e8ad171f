import Derived.Test.YtnikdflhefijbaaGreatBn9
import Derived.Test.YtnikdflhefijbaaGreatBn8
import Derived.Shelf.Slices.CompactI
import Derived.Shelf.Slices.In.SortNone
import Derived.Shelf.Sort.Plain
import Derived.Test.YtnikdflhefijbaaGreatBn6
namespace Go.Proofs.YtnikdflhefijbaaGreat
open Go.RowKit
set_option maxRecDepth 100000
def jQ(a:List Int)(r:oH):Int:=if r.1 = -1 then lr r.2.1.1 r.2.1.2.1 else wd a r.1.toNat
def oo(a:List Int)(c:de):Int:=if c.2.1 = -1 then 1 else jU c.2.1 (jQ a c.2.2.1) (jQ a c.2.2.2.1)
def qX(a:List Int)(c:de):List Int:=a.set c.1.toNat (oo a c)
def ib(a:List Int)(l:List de):List Int:=l.foldl qX a
theorem zF(a:List Int)(c:de):(qX a c).length=a.length:=cN ..
theorem FH(a:List Int)(l:List de):(ib a l).length=a.length:=by
 unfold ib
 induction l generalizing a with
 |nil=>rfl
 |cons c l ih=>exact (ih _).trans (zF a c)
theorem Sf(a:List Int)(l:List de)(c:de):ib a (l++[c])=qX (ib a l) c:=by
 unfold ib;rw[tV];rfl
theorem T0(x y:Int):bH (lr x y):=by
 have h1:=Ci x y
 have h2:=Gf x y
 unfold bH lr;omega
theorem Gz{a:List Int}(ha:bc a)(r:oH):bH (jQ a r):=by
 unfold jQ;split
 ·exact T0 _ _
 ·exact kW ha _
theorem acb(op a b:Int):bH (fP op a b):=by
 unfold fP mJ
 split
 ·exact⟨by omega,by omega⟩
 ·split
  ·exact⟨by omega,by omega⟩
  ·split
   ·exact T0 _ _
   ·exact⟨by omega,by omega⟩
theorem adT(op a b:Int):bH (jU op a b):=by unfold jU;split <;> exact acb _ _ _
theorem acr(a:List Int)(c:de):bH (oo a c):=by
 unfold oo;split
 ·exact⟨by omega,by omega⟩
 ·exact adT _ _ _
theorem adC{a:List Int}(ha:bc a){i:Nat}{z:Int}(hz:bH z):bc (a.set i z):=fun x hx=>by
 rcases qH hx with h | rfl
 ·exact ha x h
 ·exact hz
theorem LM{a:List Int}(ha:bc a)(l:List de):bc (ib a l):=by
 unfold ib
 induction l generalizing a with
 |nil=>exact ha
 |cons c l ih=>exact ih (adC ha (acr a c))
theorem Cd{w:Int}{c:de}(h:gx w c=true):0≤c.1∧c.1<w:=by
 unfold gx at h
 by_cases h1:c.1<0
 ·rw[ah h1]at h;exact absurd h (by decide)
 ·by_cases h2:w≤c.1
  ·rw[ag h1,ah h2]at h;exact absurd h (by decide)
  ·omega
theorem Gv{w:Int}{c:de}(h:gx w c=true): -1≤c.2.1∧(¬c.2.1 = -1→p9 w c.2.2.1=true∧p9 w c.2.2.2.1=true):=by
 have hv:=Cd h
 unfold gx at h
 rw[ag (by omega),ag (by omega)]at h
 by_cases h1:c.2.1 < -1
 ·rw[ah h1]at h;exact absurd h (by decide)
 ·rw[ag h1]at h
  by_cases h2:4<c.2.1
  ·rw[ah h2]at h;exact absurd h (by decide)
  ·rw[ag h2]at h
   refine⟨by omega,fun h3=>?_⟩
   rw[ag h3]at h
   exact Bool.and_eq_true_iff.1 h
theorem B7{w:Int}{r:oH}(h:p9 w r=true)(h1:¬r.1 = -1):0≤r.1∧r.1<w:=by
 unfold p9 at h
 rw[ag h1]at h
 simp at h
 exact h.1
theorem agE(a:List Int)(r:oH)(q b:Nat)(σ:Hp)(hr:p9 a.length r=true):ACalls Tryz.prog 330 [.agg (Dx r),.ptr q 0] ((q,[.ae b 0 a.length 1])::(b,aO a)::σ) (aE (.int .u64 (jQ a r)) ((q,[.ae b 0 a.length 1])::(b,aO a)::σ)):=by
 refine az Tryz.func330 ?_
 intro aG
 refine aa 0 ?_
 refine aq (fun c2=>?_) (fun c2=>?_)
 ·have c2:r.fst = -1:=c2
  refine aa 0 ?_
  refine ay [] (HF _ _ _) ?_
  have e:jQ a r=lr r.2.1.1 r.2.1.2.1:=ah c2
  exact .drop 0 1 (.done ⟨aV e.symm,rfl⟩)
 ·have c2:¬(r.fst = -1):=c2
  refine aa 1 ?_
  refine aa 0 ?_
  have hv:=B7 hr c2
  have e:jQ a r=wd a r.1.toNat:=ag c2
  refine aI.mk ⟨rfl,hv.1,hv.2⟩ ?_
  refine aT 2 rfl (HE (i:=r.1.toNat) (by omega) (by omega)) ?_
  exact .drop 0 1 (.done ⟨aV e.symm,rfl⟩)
theorem VK(a:List Int)(n:Nat)(hn:a.length=n)(r:oH)(q b:Nat)(σ:Hp)(hr:p9 n r=true):ACalls Tryz.prog 330 [.agg (Dx r),.ptr q 0] ((q,[.ae b 0 n 1])::(b,aO a)::σ) (aE (.int .u64 (jQ a r)) ((q,[.ae b 0 n 1])::(b,aO a)::σ)):=by
 subst hn
 exact agE a r q b σ hr
theorem TF(l:List Int)(σ:Hp)(hl:l.length≤1000000):ACalls Tryz.prog 256 [.af (.int .u64) l] σ (fun x σ'=>∃acc,Acc 1 l.length x acc (aO l)∧σ'=acc++σ):=by
 refine FM (fun h=>⟨?_,?_⟩) (fun h=>?_)
 ·subst h
  refine az Tryz.func256 ?_
  exact .done ⟨[],.nil,rfl⟩
 ·subst h
  refine az Tryz.func256 ?_
  intro b
  refine AppendAt.more 0 b 0 0 [] _ rfl rfl (cD rfl) .ia (by decide) (by decide) (by decide) (fun b'=>?_)
  exact .done ⟨[(b',[])],.ae b' 0 [] rfl,rfl⟩
 ·refine az Tryz.func256 ?_
  refine aI.mk (mW.2 h) ?_
  intro b
  refine AppendAt.more 0 b 0 l.length [] _ rfl rfl (cD rfl) (.af (.int .u64) l rfl) (by omega) (by decide) (by decide) (fun b'=>?_)
  refine .done ⟨[(b',aO l)],?_,?_⟩
  ·rw[Nat.zero_add];exact .ae b' l.length _ (by simp[aO])
  ·show (b',[]++l.flatMap (Sh.cells (.int .u64)))::σ=_
   rw[kO];rfl
theorem agw(a:List Int)(l:List de)(σ:Hp)(ha:bc a)(la:a.length≤10000)(ll:l.length≤1000000)(hl:l.all (gx a.length)=true):ACalls Tryz.prog 302 [.af (.int .u64) a,.af jz l] σ (aE (.af (.int .u64) (ib a l)) σ):=by
 refine az Tryz.func302 ?_
 intro q
 refine aa 0 ?_
 refine .mk [] _ (TF a _ (by omega)) ?_
 rintro v σ' ⟨acc,b9,rfl⟩
 generalize hn:a.length=n at b9 la hl
 generalize kI:aO a=cs at b9
 cases b9 with
 |nil=>
  have h0:a=[]:=jv.1 hn
  subst h0
  cases l with
  |cons c l=>
   have:=Cd (fy.1 hl c (ck ..))
   exact absurd this (by omega)
  |nil=>
   refine ai 0 ?_
   refine cc (S:=Unit) (fun _=>[(2,.ptr q 0),(12,.int .i64 0),(13,.int .i64 0)]) (fun _=>(q,[.aj])::σ) (fun _=>True) (fun _=>0) () ⟨trivial,⟨rfl,rfl,rfl,trivial⟩,rfl⟩ ?_
   rintro _ _ _
   refine aa 0 ?_
   exact .drop 0 1 (.nil (.nil _) (.done ⟨rfl,rfl⟩))
 |ae b n cs h=>
 subst kI
 refine ai 1 ?_
 refine cc (S:=Nat) (fun s=>[(2,.ptr q 0),(5,.fn (.func 330) [] [.ptr q 0]),(11,.af jz l),(12,.int .i64 l.length),(13,.int .i64 s)]) (fun s=>(b,aO (ib a (l.take s)))::(q,[.ae b 0 n 1])::σ) (fun s=>s≤l.length) (fun s=>l.length-s) 0 ⟨bD _,⟨rfl,rfl,rfl,rfl,rfl,trivial⟩,rfl⟩ ?_
 intro s t nJ
 have hs:s≤l.length:=nJ
 clear nJ
 have hA:bc (ib a (l.take s)):=LM ha _
 have hlen:(ib a (l.take s)).length=n:=(FH a _).trans hn
 refine aq (fun ab=>?_) (fun au=>?_)
 ·have ab:s<l.length:=by have ab:(s:Int)<l.length:=ab;omega
  have hd:=Sf a (l.take s) l[s]
  rw[← fL ab]at hd
  have mm:=fy.1 hl l[s] (cj ab)
  obtain⟨c,hc⟩:∃c:de,l[s]=c:=⟨_,rfl⟩
  rw[hc]at hd mm
  have hv:=Cd mm
  have ho:=Gv mm
  refine aI.mk rfl (bL.mk c (by omega) ((get_some ab).trans (congrArg some hc)) ?_)
  clear hc mm
  generalize ib a (l.take s)=A at hA hlen hd
  intro dw
  refine ai 0 ?_
  refine aa 0 ?_
  refine aq (p:=c.2.1 = -1) (fun d5=>?_) (fun d5=>?_)
  ·refine aa 2 ?_
   refine aa 0 ?_
   refine aM ?_
   have ry:oo A c=1:=ah d5
   refine da 1 rfl (Av (i:=c.1.toNat) (by omega) _ (by omega)) ?_
   refine bj (s+1) (by show l.length-(s+1)<l.length-s;omega) ab ⟨rfl,rfl,rfl,rfl,aY (by omega),trivial⟩ (.drop 0 1 (aJ ?_))
   rw[hd,qX,ry]
   rfl
  ·have ho2:=ho.2 d5
   have ry:oo A c=jU c.2.1 (jQ A c.2.2.1) (jQ A c.2.2.2.1):=ag d5
   refine .sched [8,12,13] (upto [8,12,13] 16 0) (by kernel_rfl) ?_
   refine aa 2 ?_
   refine aa 0 ?_
   refine aa 0 ?_
   refine aa 0 ?_
   refine aL [2,1] (VK A n hlen c.2.2.1 q b _ ho2.1) ?_
   refine aa 0 ?_
   refine aL [2,1] (VK A n hlen c.2.2.2.1 q b _ ho2.2) ?_
   refine aL [] (agF _ _ _ _ (Gz hA _) (Gz hA _)) ?_
   refine aM ?_
   refine da 1 rfl (Av (i:=c.1.toNat) (by omega) _ (by omega)) ?_
   refine bj (s+1) (by show l.length-(s+1)<l.length-s;omega) ab ⟨rfl,rfl,rfl,rfl,aY (by omega),trivial⟩ (.drop 0 1 (aJ ?_))
   rw[hd,qX,ry]
   rfl
 ·have au:s=l.length:=by have au:¬(s:Int)<l.length:=au;omega
  subst au
  rw[gn]at hlen ⊢
  refine aa 1 ?_
  have gl:((aO (ib a l)).drop 0).take (n*1)=(ib a l).flatMap (Sh.cells (.int .u64)):=by
   rw[gM,← kO];exact eG (by rw[aO,cm];omega)
  exact .cJ 0 b 0 n 1 _ (.int .u64) (ib a l) rfl gl ⟨hlen,rfl,by decide⟩ .here (.drop 0 1 (.done ⟨rfl,rfl⟩))
theorem Sq(a:List Int)(n:Nat)(hn:a.length=n)(r:oH)(b:Nat)(σ:Hp)(hr:p9 n r=true):ACalls Tryz.prog 265 [.ae b 0 n 1,.agg (Dx r)] ((b,aO a)::σ) (aE (.int .u64 (jQ a r)) ((b,aO a)::σ)):=by
 refine az Tryz.func265 ?_
 intro aG
 refine aa 0 ?_
 refine aq (p:=r.1<0) (fun c2=>?_) (fun c2=>?_)
 ·have c3:r.1 = -1:=by
   by_cases h:r.1 = -1
   ·exact h
   ·have:=B7 hr h;omega
  have e:jQ a r=lr r.2.1.1 r.2.1.2.1:=ah c3
  refine aa 0 ?_
  refine ay [] (C8 _ _ _) ?_
  exact .drop 0 1 (.done ⟨aV e.symm,rfl⟩)
 ·have c3:¬r.1 = -1:=by omega
  have hv:=B7 hr c3
  have e:jQ a r=wd a r.1.toNat:=ag c3
  refine aa 0 ?_
  refine aI.mk ⟨rfl,hv.1,hv.2⟩ ?_
  refine aT 1 rfl (HE (i:=r.1.toNat) (by omega) (by omega)) ?_
  exact .drop 0 1 (.done ⟨aV e.symm,rfl⟩)
def gd(what:Int)(g k:List Int)(l:List de)(a:List Int):List Int:=
 if what=3 then (if (a.any fun z=>decide (0=z))=true then List.replicate a.length 0 else ib a l) else dx im (dx fB a k) g
theorem FL{what:Int}(h:¬what=3)(g k:List Int)(l:List de)(a:List Int):gd what g k l a=dx im (dx fB a k) g:=ag h
theorem Fy{what:Int}(h:what=3){a:List Int}(h0:(a.any fun z=>decide (0=z))=true)(g k:List Int)(l:List de):gd what g k l a=List.replicate a.length 0:=by unfold gd;rw[ah h,ah h0]
theorem Cg{what:Int}(h:what=3){a:List Int}(h0:(a.any fun z=>decide (0=z))=false)(g k:List Int)(l:List de):gd what g k l a=ib a l:=by unfold gd;rw[ah h,h0];rfl
theorem adh(what:Int)(g k:List Int)(l:List de)(a:List Int)(σ:Hp)(hg:bc g)(hk:bc k)(ha:bc a)(lg:g.length≤10000)(lk:k.length≤10000)(la:a.length≤10000)(ll:l.length≤1000000)(hl:what=3→l.all (gx a.length)=true):ACalls Tryz.prog 227 [.int .i64 what,.agg (A5 g k l),.af (.int .u64) a] σ (aE (.af (.int .u64) (gd what g k l a)) σ):=by
 refine az Tryz.func227 ?_
 intro q
 refine ew (fun c=>?_) (fun c=>?_)
 ·have c:¬(what=3):=by simpa using c
  rw[FL c]
  have hm:(dx fB a k).length≤10000:=by rw[pQ];omega
  refine .quiet (by kernel_rfl) ?_
  refine aa 0 ?_
  refine aL [] (adu a k _ ha hk la lk) ?_
  refine aa 0 ?_
  refine aL [] (adv (dx fB a k) g _ (zY a k) hg hm lg) ?_
  exact .drop 0 1 (.done ⟨rfl,rfl⟩)
 ·have c:what=3:=by simpa using c
  have hl:=hl c
  intro aG
  refine AppendAt.more 0 aG 0 a.length [] _ rfl rfl (cD rfl) (.af (.int .u64) a rfl) (by omega) (by decide) (by decide) (fun b=>?_)
  have kI:List.take (0*1) []++a.flatMap (Sh.cells (.int .u64))=aO a:=by rw[kO];rfl
  rw[kI,ef]
  refine cc (S:=Nat) (fun s=>[(2,.af (.int .u64) a),(4,.ptr q 0),(7,.ae b 0 a.length 1),(25,.af (.int .u64) a),(26,.int .i64 a.length),(27,.int .i64 s)]) (fun _=>(b,aO a)::(q,A5 g k l)::σ) (fun s=>s≤a.length∧((a.take s).any fun z=>decide (0=z))=false) (fun s=>a.length-s) 0 ⟨⟨bD _,rfl⟩,⟨rfl,rfl,rfl,rfl,rfl,rfl,trivial⟩,rfl⟩ ?_
  rintro s t ⟨nJ,iJ⟩
  have hs:s≤a.length:=nJ
  have hz:((a.take s).any fun z=>decide (0=z))=false:=iJ
  clear nJ iJ
  refine aq (fun ab=>?_) (fun au=>?_)
  ·have ab:s<a.length:=by have ab:(s:Int)<a.length:=ab;omega
   have iu:=rM ab fun z=>decide (0=z)
   rw[hz,pM]at iu
   refine aI.mk rfl (bL.mk a[s] (by omega) (get_some ab) ?_)
   refine aq (p:=a[s]=0) (fun e=>?_) (fun e=>?_)
   ·have h0:(a.any fun z=>decide (0=z))=true:=mV.2 ⟨a[s],cj ab,bu e.symm⟩
    rw[Fy c h0]
    have la2:(a.length:Int)≤1048576:=by omega
    refine aI.mk ⟨Jm _,kq _,la2,by decide⟩ ?_
    intro bz
    show Fin _ (.ae bz 0 a.length 1) ((bz,cM [.int .u64 0] a.length)::(b,aO a)::(q,A5 g k l)::σ)
    rw[wL]
    generalize hZ:List.replicate a.length (0:Int)=Z
    have gE:Z.length=a.length:=by rw[← hZ,fZ]
    refine .cJ 0 bz 0 _ 1 _ (.int .u64) Z rfl ?_ ⟨gE,rfl,by decide⟩ .here (.drop 0 2 (.done ⟨rfl,rfl⟩))
    rw[gM,← kO]
    exact eG (by rw[aO,cm,gE];omega)
   ·exact bj (s+1) (by show a.length-(s+1)<a.length-s;omega) ⟨ab,iu.trans (bZ fun h=>e h.symm)⟩ ⟨rfl,rfl,rfl,rfl,rfl,aY (by omega),trivial⟩ (.refl _)
  ·have au:s=a.length:=by have au:¬(s:Int)<a.length:=au;omega
   subst au
   rw[gn]at hz
   rw[Cg c hz]
   refine aa 1 ?_
   generalize hn:a.length=n at la hl
   refine cc (S:=Nat) (fun s=>[(7,.ae b 0 n 1),(38,.af jz l),(39,.int .i64 l.length),(40,.int .i64 s)]) (fun s=>(b,aO (ib a (l.take s)))::(q,A5 g k l)::σ) (fun s=>s≤l.length) (fun s=>l.length-s) 0 ⟨bD _,⟨rfl,rfl,rfl,rfl,trivial⟩,rfl⟩ ?_
   intro s t nJ
   have hs:s≤l.length:=nJ
   clear nJ
   have hA:bc (ib a (l.take s)):=LM ha _
   have hlen:(ib a (l.take s)).length=n:=(FH a _).trans hn
   refine aq (fun ab=>?_) (fun au=>?_)
   ·have ab:s<l.length:=by have ab:(s:Int)<l.length:=ab;omega
    have hd:=Sf a (l.take s) l[s]
    rw[← fL ab]at hd
    have mm:=fy.1 hl l[s] (cj ab)
    obtain⟨c,hc⟩:∃c:de,l[s]=c:=⟨_,rfl⟩
    rw[hc]at hd mm
    have hv:=Cd mm
    have ho:=Gv mm
    refine aI.mk rfl (bL.mk c (by omega) ((get_some ab).trans (congrArg some hc)) ?_)
    clear hc mm
    generalize ib a (l.take s)=A at hA hlen hd
    intro dw
    refine ai 0 ?_
    refine aa 0 ?_
    refine aq (p:=0≤c.2.1) (fun d5=>?_) (fun d5=>?_)
    ·refine .quiet (by kernel_rfl) ?_
     refine aa 0 ?_
     refine aa 0 ?_
     refine aL [1] (Sq A n hlen c.2.2.1 b _ (ho.2 (by omega)).1) ?_
     refine aa 0 ?_
     refine aL [1] (Sq A n hlen c.2.2.2.1 b _ (ho.2 (by omega)).2) ?_
     refine aL [] (aex _ _ _ _ (Gz hA _) (Gz hA _)) ?_
     refine aa 0 ?_
     refine aM ?_
     have ry:oo A c=jU c.2.1 (jQ A c.2.2.1) (jQ A c.2.2.2.1):=ag (by omega)
     refine da 1 rfl (Av (i:=c.1.toNat) (by omega) _ (by omega)) ?_
     refine bj (s+1) (by show l.length-(s+1)<l.length-s;omega) ab ⟨rfl,rfl,rfl,aY (by omega),trivial⟩ (.drop 0 1 (aJ ?_))
     rw[hd,qX,ry]
     rfl
    ·refine aa 0 ?_
     refine aM ?_
     have ry:oo A c=1:=ah (by omega)
     refine da 1 rfl (Av (i:=c.1.toNat) (by omega) _ (by omega)) ?_
     refine bj (s+1) (by show l.length-(s+1)<l.length-s;omega) ab ⟨rfl,rfl,rfl,aY (by omega),trivial⟩ (.drop 0 1 (aJ ?_))
     rw[hd,qX,ry]
     rfl
   ·have au:s=l.length:=by have au:¬(s:Int)<l.length:=au;omega
    subst au
    rw[gn]at hlen ⊢
    have gl:((aO (ib a l)).drop 0).take (n*1)=(ib a l).flatMap (Sh.cells (.int .u64)):=by
     rw[gM,← kO];exact eG (by rw[aO,cm];omega)
    exact .cJ 0 b 0 n 1 _ (.int .u64) (ib a l) rfl gl ⟨hlen,rfl,by decide⟩ .here (.drop 0 1 (.done ⟨rfl,rfl⟩))
def uV(what w:Int)(g k:List Int)(l:List de)(a:List Int):Int:=if fD what w g k l=0 then (if cY what w a=true then 0 else 2) else fD what w g k l
theorem aaN{what w:Int}{g k:List Int}{l:List de}{a:List Int}(h:¬fD what w g k l=0):uV what w g k l a=fD what w g k l:=ag h
theorem Lq{what w:Int}{g k:List Int}{l:List de}{a:List Int}(h:fD what w g k l=0)(hv:cY what w a=true):uV what w g k l a=0:=by unfold uV;rw[ah h,ah hv]
theorem aaM{what w:Int}{g k:List Int}{l:List de}{a:List Int}(h:fD what w g k l=0)(hv:cY what w a=false):uV what w g k l a=2:=by unfold uV;rw[ah h,hv];rfl
theorem KR{what w:Int}{g k:List Int}{l:List de}(h:fD what w g k l=0):cI what w=true∧yH what w g k l=true:=by
 unfold fD at h
 cases hi:cI what w with
 |false=>rw[hi]at h;exact absurd h (by simp)
 |true=>
  rw[hi,ah rfl]at h
  cases ht:yH what w g k l with
  |false=>rw[ht]at h;exact absurd h (by simp)
  |true=>exact⟨rfl,rfl⟩
theorem Qo{what w:Int}{a:List Int}(h:cY what w a=true)(h3:what=3):(a.length:Int)=w:=by
 have hl:=wH h
 have hi:cI what w=true:=by unfold cY at h;simp at h;exact h.1.1
 rw[hl];unfold eH;rw[ah hi,ah h3]
theorem aaY{what w:Int}{a:List Int}(h:cY what w a=true)(h3:what=3):gi what w=List.replicate a.length 0:=by
 unfold gi
 rw[ag (fun h=>by omega),← wH h,bM]
theorem ad5(what w:Int)(g k:List Int)(l:List de)(a:List Int)(σ:Hp)(hg:bc g)(hk:bc k)(ha:bc a)(lg:g.length≤10000)(lk:k.length≤10000)(la:a.length≤10000)(ll:l.length≤1000000):ACalls Tryz.prog 276 [.int .i64 what,.int .i64 w,.agg (A5 g k l),.af (.int .u64) a] σ (aE (.tup [.af (.int .u64) (sk (uV what w g k l a) (gd what g k l a)),.int .i64 (uV what w g k l a)]) σ):=by
 refine az Tryz.func276 ?_
 have hm:(dx fB a k).length≤10000:=by rw[pQ];omega
 intro aG
 refine aa 0 ?_
 refine ay [] (Lu what w g k l _ hg hk lg lk ll) ?_
 refine ew (fun c2=>?_) (fun c2=>?_)
 ·have c2:¬(fD what w g k l=0):=by simpa using c2
  rw[aaN c2,GL c2]
  exact .nil (cE (.nil _) (.refl _)) (.drop 0 1 (.done ⟨rfl,rfl⟩))
 ·have c2:fD what w g k l=0:=by simpa using c2
  refine eK [] (Ir what w a _ ha (by omega)) (fun cV=>?_) (fun cV=>?_)
  ·refine ew (fun c3=>?_) (fun c3=>?_)
   ·have c3:¬(what=3):=by simpa using c3
    refine .quiet (by kernel_rfl) ?_
    refine aa 0 ?_
    refine aL [] (Uv a k _ (by omega) (by omega)) ?_
    refine aa 0 ?_
    refine aL [] (aem (dx fB a k) g _ (by omega) (by omega)) ?_
    rw[Lq c2 cV,CG rfl,FL c3]
    exact .drop 0 1 (.done ⟨rfl,rfl⟩)
   ·have c3:what=3:=by simpa using c3
    refine eK [] (X7 a 0 _ (by omega)) (fun cZ=>?_) (fun cZ=>?_)
    ·refine ay [] (KV what w _) ?_
     rw[Lq c2 cV,CG rfl,Fy c3 cZ,← aaY cV c3]
     exact .drop 0 1 (.done ⟨rfl,rfl⟩)
    ·refine aa 0 ?_
     have NS:l.all (gx a.length)=true:=by
      have ht:=(KR c2).2
      rw[D8 c3,bR]at ht
      rw[Qo cV c3];exact ht.2
     rw[Lq c2 cV,CG rfl,Cg c3 cZ]
     refine ay [] (agw a l _ ha la ll NS) ?_
     exact .drop 0 1 (.done ⟨rfl,rfl⟩)
  ·rw[aaM c2 cV,GL (by decide)]
   exact .nil (cE (.nil _) (.refl _)) (.drop 0 1 (.done ⟨rfl,rfl⟩))
theorem ZH{x y:Int}(hx:bH x)(hy:bH y)(h:∀k,k<64→x.toNat.testBit k=y.toNat.testBit k):x=y:=by
 have e:x.toNat=y.toNat:=by
  refine BE fun k=>?_
  rcases vP k 64 with hk | hk
  ·exact h k hk
  ·rw[vS (rH (tv hx) (tY (by decide:0<2) hk)),vS (rH (tv hy) (tY (by decide:0<2) hk))]
 have h1:=yd hx
 have h2:=yd hy
 omega
def dW(a:List Int)(i k:Nat):Bool:=(wd a i).toNat.testBit k
theorem GD{a b:List Int}(ha:bc a)(hb:bc b)(hl:a.length=b.length)(h:∀i k,i<a.length→k<64→dW a i k=dW b i k):a=b:=
 yj hl fun i hi=>ZH (kW ha i) (kW hb i) fun k hk=>h i k hi hk
theorem Ge(k:Nat):(0:Int).toNat.testBit k=false:=Nat.zero_testBit k
theorem UL(a b:List Int):bc (dx im a b):=CV fun _ _=>TZ _ _
theorem TY{a b:List Int}(ha:bc a)(hb:bc b)(i k:Nat):dW (dx im a b) i k=(dW a i k||dW b i k):=by
 unfold dW
 rcases vP i (max a.length b.length) with h | h
 ·rw[yb _ _ _ h,Le (kW ha i) (kW hb i)]
 ·rw[yc (by rw[pQ];exact h),yc (a:=a) (by omega),yc (a:=b) (by omega),Ge];rfl
theorem Uo{a b:List Int}(ha:bc a)(hb:bc b)(i:Nat){k:Nat}(hk:k<64):dW (dx fB a b) i k=(dW a i k&&!dW b i k):=by
 unfold dW
 rcases vP i (max a.length b.length) with h | h
 ·rw[yb _ _ _ h,GY (kW ha i) (kW hb i) hk]
 ·rw[yc (by rw[pQ];exact h),yc (a:=a) (by omega),Ge];rfl
theorem nY{a:List Int}{w:Int}(h:gw a w=true):a.length=dV w:=by
 unfold gw at h;rw[bR]at h;exact fA h.1
theorem qR{a:List Int}{w:Int}(ha:bc a)(hl:a.length=dV w):gw a w=true↔∀i k,i<a.length→k<64→ej w≤64*i+k→dW a i k=false:=by
 rw[Y3 ha hl]
 unfold hasB dW
 constructor
 ·intro h i k hi hk hc
  have:=h (64*i+k) hc (by omega)
  rw[show (64*i+k) / 64=i by omega,show (64*i+k) % 64=k by omega]at this
  exact this
 ·intro h n h1 h2
  exact h (n / 64) (n % 64) (by omega) (by omega) (by omega)
theorem aca{a b:List Int}{w:Int}(ha:bc a)(hb:bc b)(fa:gw a w=true)(fb:gw b w=true):gw (dx im a b) w=true:=by
 have la:=nY fa
 have lb:=nY fb
 have hl:(dx im a b).length=dV w:=by rw[pQ];omega
 rw[qR (UL _ _) hl]
 intro i k hi hk hc
 rw[TY ha hb,(qR ha la).1 fa i k (by omega) hk hc,(qR hb lb).1 fb i k (by omega) hk hc];rfl
theorem acV{a b:List Int}{w:Int}(ha:bc a)(hb:bc b)(fa:gw a w=true)(lb:b.length≤dV w):gw (dx fB a b) w=true:=by
 have la:=nY fa
 have hl:(dx fB a b).length=dV w:=by rw[pQ];omega
 rw[qR (zY _ _) hl]
 intro i k hi hk hc
 rw[Uo ha hb i hk,(qR ha la).1 fa i k (by omega) hk hc];rfl
def NZ(a:List Int):Prop:=∀z∈a,aK z=z∧z≠0
theorem G3{a:List Int}{i:Nat}(h:i<a.length):wd a i∈a:=by rw[kS a h];exact cj h
theorem RQ(x y:Int):aK (lr x y)=lr x y∧lr x y≠0:=⟨norm_num (adV x y),by have:=adW x y;omega⟩
theorem Gy{a:List Int}(h:NZ a){r:oH}(hr:p9 a.length r=true):aK (jQ a r)=jQ a r∧jQ a r≠0:=by
 unfold jQ
 split
 ·exact RQ _ _
 ·rename_i h1
  have hv:=B7 hr h1
  exact h _ (G3 (by omega))
theorem RS:aK 1=1:=rfl
theorem abV(op a b:Int):aK (mJ op a b)=mJ op a b∧mJ op a b≠0:=by
 unfold mJ
 split
 ·exact RQ _ _
 ·exact⟨rfl,by decide⟩
theorem SS(op:Int){a b:Int}(ha:aK a≠0)(hb:aK b≠0):aK (fP op a b)=fP op a b∧fP op a b≠0:=by
 unfold fP
 rw[ag (by omega)]
 split
 ·exact⟨rfl,by decide⟩
 ·exact abV _ _ _
theorem adS(op:Int){a b:Int}(ha:aK a≠0)(hb:aK b≠0):aK (jU op a b)=jU op a b∧jU op a b≠0:=by
 unfold jU
 split
 ·exact SS _ ha (by rw[Cn];decide)
 ·exact SS _ ha hb
theorem acq{a:List Int}(h:NZ a){c:de}(hc:gx a.length c=true):aK (oo a c)=oo a c∧oo a c≠0:=by
 unfold oo
 split
 ·exact⟨rfl,by decide⟩
 ·rename_i h1
  have ho:=(Gv hc).2 h1
  have h1:=Gy h ho.1
  have h2:=Gy h ho.2
  exact adS _ (by rw[h1.1];exact h1.2) (by rw[h2.1];exact h2.2)
theorem Rt{a:List Int}(h:NZ a){c:de}(hc:gx a.length c=true):NZ (qX a c):=fun z hz=>by
 rcases qH hz with h' | rfl
 ·exact h z h'
 ·exact acq h hc
theorem KP(a:List Int)(c:de)(l:List de):ib a (c::l)=ib (qX a c) l:=rfl
theorem all_cons{α:Type}{p:α→Bool}{c:α}{l:List α}(h:(c::l).all p=true):p c=true∧l.all p=true:=by
 rw[List.all_cons,bR]at h;exact h
theorem Uk:∀{l:List de} {a:List Int},NZ a→l.all (gx a.length)=true→NZ (ib a l)
 | [],_,h,_=>h
 |c::l,a,h,hl=>by
  have hl:=all_cons hl
  rw[KP]
  exact Uk (Rt h hl.1) (by rw[zF];exact hl.2)
def y5(a b:List Int):Prop:=a.length=b.length∧∀i,i<a.length→wd a i=wd b i∨wd b i=1
theorem SE{a b:List Int}(h:y5 a b){r:oH}(hr:p9 a.length r=true):jQ a r=jQ b r∨jQ b r=1:=by
 unfold jQ
 by_cases h1:r.1 = -1
 ·rw[ah h1,ah h1];exact .inl rfl
 ·have hv:=B7 hr h1
  rw[ag h1,ag h1]
  exact h.2 _ (by omega)
theorem SR(op:Int){a b a' b':Int}(IZ:aK a'≠0)(xz:aK b'≠0)(h1:a=a'∨a'=1)(h2:b=b'∨b'=1):fP op a b=fP op a' b'∨fP op a' b'=1:=by
 by_cases c:aK a'=1∨aK b'=1
 ·exact .inr (by unfold fP;rw[ag (by omega),ah c])
 ·rcases h1 with rfl | rfl
  ·rcases h2 with rfl | rfl
   ·exact .inl rfl
   ·exact absurd (Or.inr RS) c
  ·exact absurd (Or.inl RS) c
theorem adR(op:Int){a b a' b':Int}(IZ:aK a'≠0)(xz:aK b'≠0)(h1:a=a'∨a'=1)(h2:b=b'∨b'=1):jU op a b=jU op a' b'∨jU op a' b'=1:=by
 unfold jU
 split
 ·exact SR op IZ (by rw[Cn];decide) h1 (.inl rfl)
 ·exact SR op IZ xz h1 h2
theorem acp{a b:List Int}(hb:NZ b)(h:y5 a b){c:de}(hc:gx a.length c=true):oo a c=oo b c∨oo b c=1:=by
 unfold oo
 by_cases h1:c.2.1 = -1
 ·rw[ah h1,ah h1];exact .inl rfl
 ·have ho:=(Gv hc).2 h1
  rw[ag h1,ag h1]
  have hl:(a.length:Int)=b.length:=by rw[h.1]
  have n1:=Gy hb (hl▸ho.1)
  have n2:=Gy hb (hl▸ho.2)
  exact adR _ (by rw[n1.1];exact n1.2) (by rw[n2.1];exact n2.2) (SE h ho.1) (SE h ho.2)
theorem TH{a:List Int}{i j:Nat}(h:i<a.length)(z:Int):wd (a.set i z) j=if i=j then z else wd a j:=by
 unfold wd
 split
 ·rename_i e;subst e;rw[List.getElem?_set_self h];rfl
 ·rename_i e;rw[List.getElem?_set_ne e]
theorem ZS{a b:List Int}(hb:NZ b)(h:y5 a b){c:de}(hc:gx a.length c=true):y5 (qX a c) (qX b c):=by
 have hv:=Cd hc
 have hl:=h.1
 refine⟨by rw[zF,zF];exact h.1,fun i hi=>?_⟩
 rw[zF]at hi
 unfold qX
 rw[TH (by omega),TH (by omega)]
 split
 ·exact acp hb h hc
 ·exact h.2 i hi
theorem Uj:∀{l:List de} {a b:List Int},NZ b→y5 a b→l.all (gx a.length)=true→y5 (ib a l) (ib b l)
 | [],_,_,_,h,_=>h
 |c::l,a,b,hb,h,hl=>by
  have hl:=all_cons hl
  rw[KP,KP]
  exact Uj (Rt hb (h.1▸hl.1)) (ZS hb h hl.1) (by rw[zF];exact hl.2)
theorem Lz{what w:Int}{g k:List Int}{l:List de}(h:fD what w g k l=0)(h3:¬what=3):gw g w=true∧gw k w=true∧l=[]:=by
 have h:=(KR h).2
 rw[vm h3,bR,bR]at h
 exact⟨h.1.2,h.2,jv.1 (fA h.1.1)⟩
theorem K1{what w:Int}{g k:List Int}{l:List de}(h:fD what w g k l=0)(h3:what=3):g=[]∧k=[]∧l.all (gx w)=true:=by
 have h:=(KR h).2
 rw[D8 h3,bR]at h
 have h0:=fA h.1
 exact⟨jv.1 (by omega),jv.1 (by omega),h.2⟩
theorem Qj{what w:Int}(hi:cI what w=true)(h3:¬what=3):eH what w=dV w:=by unfold eH;rw[ah hi,ag h3]
theorem Ps{what w:Int}(hi:cI what w=true)(h3:what=3):eH what w=w:=by unfold eH;rw[ah hi,ah h3]
theorem mC{what w:Int}{a:List Int}(h:cY what w a=true):cI what w=true:=by unfold cY at h;rw[bR,bR]at h;exact h.1.1
theorem pT{what w:Int}{a:List Int}(hi:cI what w=true)(h3:¬what=3):cY what w a=true↔gw a w=true:=by
 unfold cY
 rw[ag h3,hi,zn,bR,Qj hi h3]
 refine⟨fun h=>h.2,fun h=>⟨bu ?_,h⟩⟩
 rw[nY h]
theorem jO{what w:Int}{a:List Int}(hi:cI what w=true)(h3:what=3):cY what w a=true↔(a.length:Int)=w∧okW a=true:=by
 unfold cY
 rw[ah h3,hi,zn,bR,Ps hi h3,decide_eq_true_eq]
theorem ye{a:List Int}:okW a=true↔∀z∈a,aK z=z:=by unfold okW;rw[fy];exact forall₂_congr fun _ _=>decide_eq_true_iff
theorem any_zero{a:List Int}:(a.any fun z=>decide (0=z))=true↔0∈a:=by
 rw[mV]
 exact⟨fun ⟨z,hz,h⟩=>(fA h)▸hz,fun h=>⟨0,h,bu rfl⟩⟩
theorem UN{a:List Int}(h:okW a=true)(h0:(a.any fun z=>decide (0=z))=false):NZ a:=fun z hz=>⟨ye.1 h z hz,fun e=>by subst e;rw[any_zero.2 hz]at h0;exact Bool.noConfusion h0⟩
theorem aeT{a:List Int}(h:NZ a):(a.any fun z=>decide (0=z))=false:=by
 cases hb:a.any fun z=>decide (0=z) with
 |false=>rfl
 |true=>exact absurd rfl (h 0 (any_zero.1 hb)).2
theorem RO(n:Nat):okW (List.replicate n 0)=true:=ye.2 fun z hz=>by rw[(Oe.1 hz).2];rfl
theorem LA(n:Nat):bc (List.replicate n (0:Int)):=fun z hz=>by rw[(Oe.1 hz).2];exact⟨by omega,by omega⟩
theorem zR{what:Int}{g k:List Int}{l:List de}{a:List Int}(ha:bc a):bc (gd what g k l a):=by
 unfold gd
 split
 ·split
  ·exact LA _
  ·exact LM ha l
 ·exact UL _ _
theorem xQ{what w:Int}{g k:List Int}{l:List de}{a:List Int}(hc:fD what w g k l=0)(hv:cY what w a=true):(gd what g k l a).length=a.length:=by
 unfold gd
 split
 ·split
  ·exact fZ
  ·exact FH _ _
 ·rename_i h3
  have hf:=Lz hc h3
  have h1:=nY hf.1
  have h2:=nY hf.2.1
  have h3:=nY ((pT (mC hv) h3).1 hv)
  rw[pQ,pQ];omega
theorem Gc{what w:Int}{g k:List Int}{l:List de}{a:List Int}(hg:bc g)(hk:bc k)(ha:bc a)(hc:fD what w g k l=0)(hv:cY what w a=true):cY what w (gd what g k l a)=true:=by
 have hi:=mC hv
 by_cases h3:what=3
 ·have oL:=(jO hi h3).1 hv
  rw[jO hi h3,xQ hc hv]
  refine⟨oL.1,?_⟩
  have hl:=(K1 hc h3).2.2
  cases hz:a.any fun z=>decide (0=z) with
  |true=>rw[Fy h3 hz];exact RO _
  |false=>
   rw[Cg h3 hz]
   exact ye.2 fun z hm=>(Uk (UN oL.2 hz) (by rw[oL.1];exact hl) z hm).1
 ·have hf:=Lz hc h3
  have oL:=(pT hi h3).1 hv
  rw[pT hi h3,FL h3]
  exact aca (zY _ _) hg (acV ha hk oL (Bs (nY hf.2.1))) hf.1
def Ed(a b:List Int):Prop:=a.length=b.length∧∀i,i<a.length→wd a i=wd b i∨wd a i=0∨wd b i=1
theorem yg{what:Int}{a b:List Int}{i:Nat}(h:i<a.length)(h2:i<b.length):wd (dr what a b) i=cT what (wd a i) (wd b i):=by
 have hj:i<(dr what a b).length:=by unfold dr;rw[List.length_zipWith];omega
 rw[kS _ hj,kS _ h,kS _ h2]
 simp[dr]
theorem PW(a b:Int):aK (kx a b)=kx a b:=by
 have hn:∀w,aK (aK w)=aK w:=fun w=>by
  unfold aK
  by_cases h0:w=0
  ·simp[h0]
  ·by_cases h1:w=1
   ·simp[h1]
   ·cases hk:eA w with
    |true=>simp[h0,h1,hk]
    |false=>simp[h0,h1]
 unfold kx
 split
 ·exact hn _
 ·split
  ·exact hn _
  ·rfl
theorem qW(a b:Int):cT 3 a b=kx a b:=rfl
theorem iZ{what:Int}{a b:List Int}(h:a.length=b.length):(dr what a b).length=a.length:=by unfold dr;rw[List.length_zipWith];omega
theorem aat{a b:List Int}:okW (dr 3 a b)=true:=ye.2 fun z hz=>by
 obtain⟨i,hi,rfl⟩:=xI.1 hz
 simp only[dr,List.getElem_zipWith]
 exact PW _ _
theorem wM{a:List Int}(h:okW a=true){i:Nat}(hi:i<a.length):aK (wd a i)=wd a i:=ye.1 h _ (G3 hi)
theorem acy{a b:List Int}(ha:okW a=true)(hb:okW b=true)(hl:a.length=b.length):Ed a (dr 3 a b)∧Ed b (dr 3 a b):=by
 refine⟨⟨(iZ hl).symm,fun i hi=>?_⟩,⟨by rw[iZ hl];exact hl.symm,fun i hi=>?_⟩⟩
 ·rw[yg hi (by omega),qW]
  have h1:=wM ha hi
  unfold kx
  rw[h1]
  split
  ·exact .inl rfl
  ·split
   ·rename_i h;exact .inr (.inl h)
   ·exact .inr (.inr rfl)
 ·rw[yg (by omega) hi,qW]
  have h1:=wM ha (i:=i) (by omega)
  have h2:=wM hb hi
  unfold kx
  rw[h1,h2]
  split
  ·rename_i h
   rcases h with h | h
   ·exact .inl h.symm
   ·exact .inr (.inl h)
  ·split
   ·exact .inl rfl
   ·exact .inr (.inr rfl)
theorem R0{a b:List Int}(ha:okW a=true)(hb:okW b=true)(h:Ed a b):dr 3 a b=b:=by
 refine yj ((iZ h.1).trans h.1) fun i hi=>?_
 rw[iZ h.1]at hi
 have h1:=wM ha hi
 have h2:=wM hb (i:=i) (by have:=h.1;omega)
 rw[yg hi (by have:=h.1;omega),qW]
 unfold kx
 rw[h1,h2]
 rcases h.2 i hi with e | e | e
 ·rw[ah (.inl e),e]
 ·rw[e]
  by_cases hc:(0:Int)=wd b i∨wd b i=0
  ·rw[ah hc];omega
  ·rw[ag hc,ah rfl]
 ·rw[e]
  by_cases hc:wd a i=1∨(1:Int)=0
  ·rw[ah hc];omega
  ·rw[ag hc];split <;> rfl
theorem Rb{w:Int}{g k:List Int}{l:List de}{a b:List Int}(hc:fD 3 w g k l=0)(ha:cY 3 w a=true)(hb:cY 3 w b=true)(h:Ed a b):Ed (gd 3 g k l a) (gd 3 g k l b):=by
 have hi:=mC ha
 have va:=(jO hi rfl).1 ha
 have vb:=(jO hi rfl).1 hb
 refine⟨by rw[xQ hc ha,xQ hc hb];exact h.1,fun i ab=>?_⟩
 rw[xQ hc ha]at ab
 cases hz:a.any fun z=>decide (0=z) with
 |true=>
  rw[Fy rfl hz]
  refine .inr (.inl ?_)
  rw[kS _ (by rw[fZ];exact ab),Jy]
 |false=>
  have na:=UN va.2 hz
  have hl:=h.1
  have up:y5 a b:=⟨hl,fun j hj=>by
   rcases h.2 j hj with e | e | e
   ·exact .inl e
   ·exact absurd e (na _ (G3 hj)).2
   ·exact .inr e⟩
  have nb:NZ b:=fun z hz=>by
   refine⟨ye.1 vb.2 z hz,fun e=>?_⟩
   obtain⟨j,hj,rfl⟩:=xI.1 hz
   have e:wd b j=0:=by rw[kS _ hj];exact e
   rcases up.2 j (by omega) with e2 | e2
   ·exact (na _ (G3 (i:=j) (by omega))).2 (e2.trans e)
   ·rw[e2]at e;exact absurd e (by decide)
  rw[Cg rfl hz,Cg rfl (aeT nb)]
  have:=Uj nb up (by rw[va.1];exact (K1 hc rfl).2.2)
  rcases this.2 i (by rw[FH];exact ab) with e | e
  ·exact .inl e
  ·exact .inr (.inr e)
def jr(what:Int)(x y:Bool):Bool:=if what=1 then x||y else x&&y
theorem aek{x y:Int}(hx:bH x)(hy:bH y)(k:Nat):(bits .and .u64 x y).toNat.testBit k=(x.toNat.testBit k&&y.toNat.testBit k):=by
 have e:bits .and .u64 x y=((BitVec.ofInt 64 x &&& BitVec.ofInt 64 y).toNat:Int):=by
  show IntKind.u64.wrap _=_
  exact yi (BitVec.isLt _)
 rw[e,bM,BitVec.toNat_and,Je,toNat_ofInt hx,toNat_ofInt hy]
theorem Hc{what w:Int}(hi:cI what w=true)(h3:¬what=3):what=1∨what=2:=by
 unfold cI at hi;simp at hi;omega
theorem oZ{what:Int}(h:what=1∨what=2){a b:List Int}(ha:bc a)(hb:bc b)(hl:a.length=b.length)(i k:Nat)(hi:i<a.length):dW (dr what a b) i k=jr what (dW a i k) (dW b i k):=by
 unfold dW jr
 rw[yg hi (by omega)]
 rcases h with rfl | rfl
 ·rw[ah rfl]
  exact Le (kW ha i) (kW hb i) k
 ·rw[ag (by decide)]
  exact aek (kW ha i) (kW hb i) k
theorem aa8(what:Int)(x y g k:Bool):jr what ((x&&!k)||g) ((y&&!k)||g)=((jr what x y&&!k)||g):=by
 unfold jr;split <;> cases x <;> cases y <;> cases g <;> cases k <;> rfl
theorem LF(what:Int)(x y:Bool):jr what x (jr what x y)=jr what x y∧jr what y (jr what x y)=jr what x y∧jr what x x=x:=by
 unfold jr;split <;> cases x <;> cases y <;> exact⟨rfl,rfl,rfl⟩
theorem YV{what w:Int}(h:what=1∨what=2){a b:List Int}(ha:bc a)(hb:bc b)(fa:gw a w=true)(fb:gw b w=true):gw (dr what a b) w=true:=by
 have la:=nY fa
 have lb:=nY fb
 have hl:=iZ (what:=what) (la.trans lb.symm)
 rw[qR (wN ha hb) (hl.trans la)]
 intro i k hi hk hc
 rw[hl]at hi
 rw[oZ h ha hb (la.trans lb.symm) i k hi,(qR ha la).1 fa i k hi hk hc,(qR hb lb).1 fb i k (by omega) hk hc]
 unfold jr;split <;> rfl
theorem KL{what w:Int}{a b:List Int}(ha:bc a)(hb:bc b)(va:cY what w a=true)(vb:cY what w b=true):cY what w (dr what a b)=true:=by
 have hi:=mC va
 by_cases h3:what=3
 ·subst h3
  have v1:=(jO hi rfl).1 va
  have v2:=(jO hi rfl).1 vb
  rw[jO hi rfl,iZ (by omega)]
  exact⟨v1.1,aat⟩
 ·rw[pT hi h3]
  exact YV (Hc hi h3) ha hb ((pT hi h3).1 va) ((pT hi h3).1 vb)
theorem Ze{what w:Int}{a b:List Int}(va:cY what w a=true)(vb:cY what w b=true):C1 what w [a,b]=0:=by
 unfold C1
 rw[ah (mC va)]
 simp[va,vb]
theorem Cf{what w:Int}{a b:List Int}(va:cY what w a=true)(vb:cY what w b=true)(h:dr what a b=b):yr what w a b=true:=by
 unfold yr
 rw[Ze va vb,h];simp
theorem Zo{what w:Int}{a b:List Int}:yr what w a b=true↔cY what w a=true∧cY what w b=true∧dr what a b=b:=by
 constructor
 ·intro h
  unfold yr at h
  rw[bR]at h
  have hc:=Zd (fA h.1)
  exact⟨hc.1,hc.2,fA h.2⟩
 ·exact fun h=>Cf h.1 h.2.1 h.2.2
theorem aeR{what w:Int}{g k a b:List Int}{l:List de}(hg:bc g)(hk:bc k)(ha:bc a)(hb:bc b)(hc:fD what w g k l=0)(va:cY what w a=true)(vb:cY what w b=true):
  yr what w (gd what g k l a) (gd what g k l (dr what a b))=true∧yr what w (gd what g k l b) (gd what g k l (dr what a b))=true∧(¬what=3→dr what (gd what g k l a) (gd what g k l b)=gd what g k l (dr what a b)):=by
 have hi:=mC va
 have MK:bc (dr what a b):=wN ha hb
 have vj:=KL ha hb va vb
 have vx:=Gc hg hk ha hc va
 have vy:=Gc hg hk hb hc vb
 have vz:=Gc hg hk MK hc vj
 have pJ:a.length=b.length:=by have h1:=wH va;have h2:=wH vb;omega
 by_cases h3:what=3
 ·subst h3
  have v1:=(jO hi rfl).1 va
  have v2:=(jO hi rfl).1 vb
  have hu:=acy v1.2 v2.2 pJ
  have o:∀{x:List Int},cY 3 w x=true→okW x=true:=fun h=>((jO hi rfl).1 h).2
  exact⟨Cf vx vz (R0 (o vx) (o vz) (Rb hc va vj hu.1)),Cf vy vz (R0 (o vy) (o vz) (Rb hc vb vj hu.2)),fun h=>absurd rfl h⟩
 ·have hs:=Hc hi h3
  have hf:=Lz hc h3
  have lx:=xQ hc va
  have ly:=xQ hc vb
  have lz:=xQ hc vj
  have lj:=iZ (what:=what) pJ
  have Iw:bc (gd what g k l a):=zR ha
  have Iv:bc (gd what g k l b):=zR hb
  have z64:bc (gd what g k l (dr what a b)):=zR MK
  have bx:∀{c:List Int},bc c→∀i k',k'<64→dW (gd what g k l c) i k'=((dW c i k'&&!dW k i k')||dW g i k'):=fun hc i k' ec=>by
   rw[FL h3,TY (zY _ _) hg,Uo hc hk i ec]
  have hz:∀i k',i<a.length→k'<64→dW (gd what g k l (dr what a b)) i k'=jr what (dW (gd what g k l a) i k') (dW (gd what g k l b) i k'):=fun i k' eW ec=>by
   rw[bx MK i k' ec,bx ha i k' ec,bx hb i k' ec,oZ hs ha hb pJ i k' eW,aa8]
  refine⟨Cf vx vz ?_,Cf vy vz ?_,fun _=>?_⟩
  ·refine GD (wN Iw z64) z64 (by rw[iZ (by omega)];omega) fun i k' eW ec=>?_
   rw[iZ (by omega)]at eW
   rw[oZ hs Iw z64 (by omega) i k' eW,hz i k' (by omega) ec,(LF ..).1]
  ·refine GD (wN Iv z64) z64 (by rw[iZ (by omega)];omega) fun i k' eW ec=>?_
   rw[iZ (by omega)]at eW
   rw[oZ hs Iv z64 (by omega) i k' eW,hz i k' (by omega) ec,(LF ..).2.1]
  ·refine GD (wN Iw Iv) z64 (by rw[iZ (by omega)];omega) fun i k' eW ec=>?_
   rw[iZ (by omega)]at eW
   rw[oZ hs Iw Iv (by omega) i k' eW,hz i k' (by omega) ec]
theorem X2{f:FuncId}{xs:List AV}{σ:Hp}{R R':AV→Hp→Prop}(h:ACalls Tryz.prog f xs σ R)(hv:∀r σ',R r σ'→r.leaf=true∧R' (.via r) σ'):ACalls Tryz.prog f xs σ R':=
 ⟨h.1,fun F w vs bS aF=>(h.2 F w vs bS aF).mono fun _ _ ⟨r,v,σ',F',h1,h2,h3,h4,h5⟩=>⟨.via r,v,σ',F',h1,h2,h3,.via _ _ (hv r σ' h5).1 h4,(hv r σ' h5).2⟩⟩
theorem L4{n:Int}(h:bH n):bc [n]:=fun z hz=>by rw[bB.1 hz];exact h
theorem P9{f:FuncId}{xs ys:List AV}{σ:Hp}{R:AV→Hp→Prop}(h:eI 0 0 0 0 .bool [] (.tup xs) (.tup ys))(hc:ACalls Tryz.prog f ys σ R):ACalls Tryz.prog f xs σ R:=
 ⟨hc.1,fun F w vs bS aF=>hc.2 F w vs (by
  have:=xR (.refl F w) (fun v hv=>by
   obtain⟨a,cap,rfl,c,T,fz,m1,m2,m3,m4⟩:=hv.kY
   exact .af _ _ _ ⟨some a,cap,rfl,m2,m3,(fun e=>by cases e),fun aS=>absurd rfl aS⟩) h (.tuple vs) (.tup xs vs bS.1 bS.2)
  cases this with
  |tup _ _ h1 h2=>exact⟨h1,h2⟩) aF⟩
abbrev dB:Sh:=.field (.int .i64) (.field (.int .i64) .nil)
abbrev bE:Type:=Int×Int×Unit
abbrev mw:Type:=List Int×List Int×List de×Unit
abbrev UI:Sh:=.field (.int .i64) (.field (.int .i64) (.field (.int .i64) (.field (.slice dB) (.field (.slice (.int .i64)) (.field (.slice (.int .u64)) (.field (.slice kR) .nil))))))
structure Sy where
 what:Int
 w:Int
 n:Int
 aW:List bE
 entry:List Int
 init:List Int
 T:List mw
abbrev bU(s:Sy):List AV:=[.int .i64 s.what,.int .i64 s.w,.int .i64 s.n,.af dB s.aW,.af (.int .i64) s.entry,.af (.int .u64) s.init,.af kR s.T]
def afD(x:UI.T):Sy:=⟨x.1,x.2.1,x.2.2.1,x.2.2.2.1,x.2.2.2.2.1,x.2.2.2.2.2.1,x.2.2.2.2.2.2.1⟩
def okT(t:mw):Prop:=bc t.1∧bc t.2.1∧t.1.length≤10000∧t.2.1.length≤10000∧t.2.2.1.length≤100000
structure Fit(s:Sy):Prop where
 i64:bc s.init
 DH:s.init.length≤10000
 DW:s.aW.length≤100000
 AT:s.entry.length≤100000
 Mw:s.T.length≤100000
 ts:∀t∈s.T,okT t
def dH(n a:Int):Bool:=decide (0≤a)&&decide (a<n)
theorem HL(n a:Int)(σ:Hp):ACalls Tryz.prog 206 [.int .i64 n,.int .i64 a] σ (aE (.bool (dH n a)) σ):=by
 refine az Tryz.func206 ?_
 refine aq (fun c1=>?_) (fun c1=>?_)
 ·have c1:0≤a:=c1
  refine aq (fun c2=>?_) (fun c2=>?_)
  ·have c2:a<n:=c2
   exact .done ⟨dc (by unfold dH;simp;omega),rfl⟩
  ·have c2:¬(a<n):=c2
   exact .done ⟨dc (by unfold dH;simp;omega),rfl⟩
 ·have c1:¬(0≤a):=c1
  exact .done ⟨dc (by unfold dH;simp;omega),rfl⟩
def AG(e:bE):AV:=.agg [.int .i64 e.1,.int .i64 e.2.1]
theorem adb(n:Int)(e:bE)(q:Nat)(σ:Hp):ACalls Tryz.prog 205 [AG e,.ptr q 0] ((q,[.int .i64 n])::σ) (aE (.bool (!(dH n e.1&&dH n e.2.1))) ((q,[.int .i64 n])::σ)):=by
 refine az Tryz.func205 ?_
 unfold AG
 intro aG
 refine aa 1 ?_
 refine aa 0 ?_
 refine eK [] (HL n e.1 _) (fun c1=>?_) (fun c1=>?_)
 ·refine aa 1 ?_
  refine aa 0 ?_
  refine eK [] (HL n e.2.1 _) (fun c2=>?_) (fun c2=>?_)
  ·exact .drop 0 1 (.done ⟨dc (by rw[c1,c2];rfl),rfl⟩)
  ·exact .drop 0 1 (.done ⟨dc (by rw[c1,c2];rfl),rfl⟩)
 ·exact .drop 0 1 (.done ⟨dc (by rw[c1];rfl),rfl⟩)
theorem abl(g:Nat)(cap:List AV)(l:List (Sh.T dB))(p:Sh.T dB→Bool)(σ:Hp)(hl:l.length≤1000000)(hg:∀(i:Nat) (hi:i<l.length),ACalls Tryz.prog g (AG l[i]::cap) σ (aE (.bool (p l[i])) σ)):ACalls Tryz.prog 252 [.af dB l,.fn (.func g) [] cap] σ (fun r σ'=>∃n:Int,r=.int .i64 n∧σ'=σ∧decide (0≤n)=l.any p):=by
 refine az Tryz.func252 ?_
 refine cc (S:=Nat) (fun s=>[(0,.af dB l),(1,.fn (.func g) [] cap),(7,.int .i64 l.length),(8,.int .i64 s)]) (fun _=>σ) (fun s=>s≤l.length∧(l.take s).any p=false) (fun s=>l.length-s) 0 ⟨⟨bD _,rfl⟩,⟨rfl,rfl,rfl,rfl,trivial⟩,rfl⟩ ?_
 rintro k t ⟨aP,fY⟩
 have hk:k≤l.length:=aP
 have hn:(l.take k).any p=false:=fY
 clear aP fY
 refine aq (fun ab=>?_) (fun au=>?_)
 ·have ab:k<l.length:=by have ab:(k:Int)<l.length:=ab;omega
  have hs:=rM ab p
  rw[hn,pM]at hs
  refine aI.mk rfl (bL.mk l[k] (by omega) (get_some ab) ?_)
  refine eK [] (hg k ab) (fun c=>?_) (fun c=>?_)
  ·have hp:l.any p=true:=mV.2 ⟨l[k],cj ab,c⟩
   exact .done ⟨_,rfl,rfl,by rw[hp];exact bu (by omega)⟩
  ·exact bj (k+1) (by show l.length-(k+1)<l.length-k;omega) ⟨ab,hs.trans c⟩ ⟨rfl,rfl,rfl,aY (by omega),trivial⟩ (.refl _)
 ·have au:k=l.length:=by have au:¬(k:Int)<l.length:=au;omega
  subst au
  rw[gn]at hn
  exact .done ⟨_,rfl,rfl,by rw[hn];rfl⟩
theorem Pq(g:Nat)(cap:List AV)(l:List (Sh.T dB))(p:Sh.T dB→Bool)(σ:Hp)(hl:l.length≤1000000)(hg:∀(i:Nat) (hi:i<l.length),ACalls Tryz.prog g (AG l[i]::cap) σ (aE (.bool (p l[i])) σ)):ACalls Tryz.prog 204 [.af dB l,.fn (.func g) [] cap] σ (aE (.bool (l.any p)) σ):=by
 refine az Tryz.func204 ?_
 refine .mk [] _ (abl g cap l p _ hl hg) ?_
 rintro _ _ ⟨n,rfl,rfl,hn⟩
 rw[← hn]
 refine aq (fun c=>?_) (fun c=>?_)
 ·have c:0≤n:=c
  rw[bu c]
  exact .done ⟨rfl,rfl⟩
 ·have c:¬0≤n:=c
  rw[bZ c]
  exact .done ⟨rfl,rfl⟩
def fq(n:Int)(l:List bE):Bool:=decide (1≤n)&&decide (n≤256)&&decide (l.length≤1024)&&l.all fun e=>dH n e.1&&dH n e.2.1
theorem U5{n:Int}(l:List bE){b:Bool}(h:(l.any fun e=> !(dH n e.1&&dH n e.2.1))=b):(l.all fun e=>dH n e.1&&dH n e.2.1) = !b:=by rw[Tu,h]
theorem C2(n:Int)(l:List bE)(σ:Hp)(hl:l.length≤1000000):ACalls Tryz.prog 150 [.int .i64 n,.af dB l] σ (aE (.bool (fq n l)) σ):=by
 refine az Tryz.func150 ?_
 intro aG
 refine aa 0 ?_
 refine aq (fun c2=>?_) (fun c2=>?_)
 ·have c2:n<1:=c2
  exact .drop 0 1 (.done ⟨dc (by unfold fq;simp;omega),rfl⟩)
 ·have c2:¬(n<1):=c2
  refine aa 0 ?_
  refine aq (fun c3=>?_) (fun c3=>?_)
  ·have c3:256<n:=c3
   exact .drop 0 1 (.done ⟨dc (by unfold fq;simp;omega),rfl⟩)
  ·have c3:¬(256<n):=c3
   refine aq (fun c4=>?_) (fun c4=>?_)
   ·have c4:1024<(↑l.length:Int):=c4
    exact .drop 0 1 (.done ⟨dc (by unfold fq;simp;omega),rfl⟩)
   ·have c4:¬(1024<(↑l.length:Int)):=c4
    refine eK [] (Pq 205 [.ptr aG 0] l (fun e=> !(dH n e.1&&dH n e.2.1)) _ hl (fun i hi=>adb n l[i] aG _)) (fun cL=>?_) (fun cL=>?_)
    ·exact .drop 0 1 (.done ⟨dc (by unfold fq;rw[U5 l cL];simp),rfl⟩)
    ·exact .drop 0 1 (.done ⟨dc (by unfold fq;rw[U5 l cL];simp;omega),rfl⟩)
def gP(what w:Int):Int:=if cI what w=true then (if what=3 then 2*w else w) else 0
theorem abk(what w:Int)(σ:Hp):ACalls Tryz.prog 131 [.int .i64 what,.int .i64 w] σ (aE (.int .i64 (gP what w)) σ):=by
 refine az Tryz.func131 ?_
 refine eK [] (Iq what w _) (fun c0=>?_) (fun c0=>?_)
 ·refine aq (fun c1=>?_) (fun c1=>?_)
  ·have c1:what=3:=c1
   exact .done ⟨aV (by unfold cI at c0;simp at c0;unfold gP;rw[if_pos (pY (by omega)),if_pos c1,cy (by omega)]),rfl⟩
  ·have c1:¬(what=3):=c1
   exact .done ⟨aV (by unfold gP;rw[ah c0,ag c1]),rfl⟩
 ·exact .done ⟨aV (by unfold gP;rw[c0];rfl),rfl⟩
theorem Y0(w:Int):gw (eY w) w=true:=by
 unfold gw
 rw[bu (mZ w),zn,fy]
 intro i hi
 have hi:=gm.1 hi
 rw[mZ]at hi
 rw[decide_eq_true_eq,Ct w hi,bM]
 have:=Bw (min 64 (ej w-64*i))
 omega
theorem GX{what w:Int}(h:cI what w=true):cY what w (gi what w)=true:=by
 by_cases h3:what=3
 ·rw[jO h h3]
  unfold gi
  rw[ag (fun h=>by omega),Ps h h3]
  unfold cI at h;simp at h
  exact⟨by rw[fZ];omega,RO _⟩
 ·rw[pT h h3]
  unfold gi
  split
  ·exact Y0 w
  ·rw[Qj h h3,bM]
   refine (qR (LA _) fZ).2 fun i k hi _ _=>?_
   unfold dW
   rw[kS _ hi,Jy];exact Ge k
theorem Hj(what w:Int):bc (gi what w):=by
 unfold gi;split
 ·exact Sa w
 ·exact LA _
theorem acR(what w:Int):(gi what w).length≤1024:=by
 unfold gi;split
 ·rw[mZ];have:=zV w;omega
 ·rw[fZ];have:=zN what w;omega
def eX(s:Sy):Int:=if cI s.what s.w=true then (if fq s.n s.aW=true∧(s.T.length:Int)=s.n then (if (s.entry.any fun v=> !dH s.n v)=true then 1 else if cY s.what s.w s.init=true then (if (s.T.any fun t=> !decide (fD s.what s.w t.1 t.2.1 t.2.2.1=0))=true then 2 else 0) else 2) else 1) else 10
theorem aed{s:Sy}(h:cI s.what s.w=false):10=eX s:=by unfold eX;rw[h];rfl
theorem HH{s:Sy}(hi:cI s.what s.w=true)(h:¬(fq s.n s.aW=true∧(s.T.length:Int)=s.n)):1=eX s:=by unfold eX;rw[ah hi,ag h]
theorem Hg{s:Sy}(hi:cI s.what s.w=true)(h:fq s.n s.aW=true∧(s.T.length:Int)=s.n)(he:(s.entry.any fun v=> !dH s.n v)=true):1=eX s:=by unfold eX;rw[ah hi,ah h,ah he]
theorem U1{s:Sy}(hi:cI s.what s.w=true)(h:fq s.n s.aW=true∧(s.T.length:Int)=s.n)(he:(s.entry.any fun v=> !dH s.n v)=false)(hv:cY s.what s.w s.init=false):2=eX s:=by unfold eX;rw[ah hi,ah h,he,hv];rfl
theorem Ul{s:Sy}(hi:cI s.what s.w=true)(h:fq s.n s.aW=true∧(s.T.length:Int)=s.n)(he:(s.entry.any fun v=> !dH s.n v)=false)(hv:cY s.what s.w s.init=true)(ht:(s.T.any fun t=> !decide (fD s.what s.w t.1 t.2.1 t.2.2.1=0))=true):2=eX s:=by unfold eX;rw[ah hi,ah h,he,hv,ht];rfl
theorem Ml{s:Sy}(hi:cI s.what s.w=true)(h:fq s.n s.aW=true∧(s.T.length:Int)=s.n)(he:(s.entry.any fun v=> !dH s.n v)=false)(hv:cY s.what s.w s.init=true)(ht:(s.T.any fun t=> !decide (fD s.what s.w t.1 t.2.1 t.2.2.1=0))=false):0=eX s:=by unfold eX;rw[ah hi,ah h,he,hv,ht];rfl
theorem Rf(s:Sy)(σ:Hp)(hf:Fit s):ACalls Tryz.prog 84 [.agg (bU s)] σ (aE (.int .i64 (eX s)) σ):=by
 refine az Tryz.func84 ?_
 intro aG
 refine .quiet (by kernel_rfl) ?_
 refine aa 0 ?_
 refine aa 0 ?_
 refine aL [] (abk _ _ _) ?_
 refine aq (fun c1=>?_) (fun c1=>?_)
 ·have c1:gP s.what s.w=0:=c1
  refine aa 0 ?_
  refine aa 0 ?_
  refine aa 0 ?_
  refine aa 0 ?_
  refine aL [] (KV _ _ _) ?_
  refine Un [] (Ir s.what s.w (gi s.what s.w) _ (Hj _ _) (fx (acR _ _) (by decide))) (fun c2=>?_) (fun c2=>?_)
  ·have hi:=mC c2
   refine aa 0 ?_
   refine aa 0 ?_
   refine eK [] (C2 s.n s.aW _ (fx hf.DW (by decide))) (fun cr=>?_) (fun cr=>?_)
   ·refine aa 0 ?_
    refine aa 0 ?_
    refine ew (fun ct=>?_) (fun ct=>?_)
    ·have ct:(!decide ((s.T.length:Int)=s.n))=true:=ct
     have ct:¬(s.T.length:Int)=s.n:=by simpa using ct
     exact .fwd 1 (.drop 0 1 (.done ⟨aV (HH hi fun h=>ct h.2),rfl⟩))
    ·have ct:(!decide ((s.T.length:Int)=s.n))=false:=ct
     have ct:(s.T.length:Int)=s.n:=by simpa using ct
     have hr:fq s.n s.aW=true∧(s.T.length:Int)=s.n:=⟨cr,ct⟩
     refine aa 0 ?_
     refine cc (S:=Nat) (fun k=>[(1,.ptr aG 0),(3,.int .i64 1),(42,.af (.int .i64) s.entry),(43,.int .i64 s.entry.length),(44,.int .i64 k)]) (fun _=>(aG,bU s)::σ) (fun k=>k≤s.entry.length∧((s.entry.take k).any fun v=> !dH s.n v)=false) (fun k=>s.entry.length-k) 0 ⟨⟨bD _,rfl⟩,⟨rfl,rfl,rfl,rfl,rfl,trivial⟩,rfl⟩ ?_
     rintro k g ⟨aP,pK⟩
     have hk:k≤s.entry.length:=aP
     have ha:((s.entry.take k).any fun v=> !dH s.n v)=false:=pK
     clear aP pK
     refine aq (fun ab=>?_) (fun au=>?_)
     ·have ab:k<s.entry.length:=by have ab:(k:Int)<s.entry.length:=ab;omega
      have hs:=rM ab fun v=> !dH s.n v
      rw[ha,pM]at hs
      have DS:dH s.n s.entry[k]=false→(s.entry.any fun v=> !dH s.n v)=true:=fun h=>mV.2 ⟨s.entry[k],cj ab,by rw[h];rfl⟩
      refine aI.mk rfl (bL.mk s.entry[k] (by omega) (get_some ab) ?_)
      refine aq (p:=s.entry[k]<0) (fun d1=>?_) (fun d1=>?_)
      ·exact .fwd 1 (.drop 0 1 (.done ⟨aV (Hg hi hr (DS (by unfold dH;simp;omega))),rfl⟩))
      ·refine aa 0 ?_
       refine aq (p:=s.n≤s.entry[k]) (fun d2=>?_) (fun d2=>?_)
       ·exact .fwd 1 (.drop 0 1 (.done ⟨aV (Hg hi hr (DS (by unfold dH;simp;omega))),rfl⟩))
       ·exact bj (k+1) (by show s.entry.length-(k+1)<s.entry.length-k;omega) ⟨ab,hs.trans (by unfold dH;simp;omega)⟩ ⟨rfl,rfl,rfl,rfl,aY (by have:=hf.AT;omega),trivial⟩ (.refl _)
     ·have au:k=s.entry.length:=by have au:¬(k:Int)<s.entry.length:=au;omega
      subst au
      rw[gn]at ha
      refine aa 0 ?_
      refine aa 0 ?_
      refine aa 0 ?_
      refine eK [] (Ir s.what s.w s.init _ hf.i64 (fx hf.DH (by decide))) (fun cv=>?_) (fun cv=>?_)
      ·refine aa 0 ?_
       refine cc (S:=Nat) (fun k=>[(1,.ptr aG 0),(3,.int .i64 2),(66,.af kR s.T),(67,.int .i64 s.T.length),(68,.int .i64 k)]) (fun _=>(aG,bU s)::σ) (fun k=>k≤s.T.length∧((s.T.take k).any fun t=> !decide (fD s.what s.w t.1 t.2.1 t.2.2.1=0))=false) (fun k=>s.T.length-k) 0 ⟨⟨bD _,rfl⟩,⟨rfl,rfl,rfl,rfl,rfl,trivial⟩,rfl⟩ ?_
       rintro k g ⟨aP,lu⟩
       have hk:k≤s.T.length:=aP
       have ht:((s.T.take k).any fun t=> !decide (fD s.what s.w t.1 t.2.1 t.2.2.1=0))=false:=lu
       clear aP lu
       refine aq (fun ab=>?_) (fun au=>?_)
       ·have ab:k<s.T.length:=by have ab:(k:Int)<s.T.length:=ab;omega
        have hs:=rM ab fun t=> !decide (fD s.what s.w t.1 t.2.1 t.2.2.1=0)
        rw[ht,pM]at hs
        have ho:=hf.ts _ (cj ab)
        have hm:=cj ab
        obtain⟨t,fK⟩:∃t:mw,s.T[k]=t:=⟨_,rfl⟩
        rw[fK]at hs ho hm
        refine aI.mk rfl (bL.mk t (by omega) ((get_some ab).trans (congrArg some fK)) ?_)
        intro dw
        refine ai 0 ?_
        refine aa 1 ?_
        refine aa 1 ?_
        refine aa 0 ?_
        refine ay [] (Lu s.what s.w t.1 t.2.1 t.2.2.1 _ ho.1 ho.2.1 ho.2.2.1 ho.2.2.2.1 (fx ho.2.2.2.2 (by decide))) ?_
        refine ew (fun d1=>?_) (fun d1=>?_)
        ·exact .fwd 1 (.drop 0 2 (.done ⟨aV (Ul hi hr ha cv (mV.2 ⟨t,hm,d1⟩)),rfl⟩))
        ·exact bj (k+1) (by show s.T.length-(k+1)<s.T.length-k;omega) ⟨ab,hs.trans d1⟩ ⟨rfl,rfl,rfl,rfl,aY (by have:=hf.Mw;omega),trivial⟩ (.drop 0 1 (.refl _))
       ·have au:k=s.T.length:=by have au:¬(k:Int)<s.T.length:=au;omega
        subst au
        rw[gn]at ht
        exact .drop 0 1 (.done ⟨aV (Ml hi hr ha cv ht),rfl⟩)
      ·exact .fwd 1 (.drop 0 1 (.done ⟨aV (U1 hi hr ha cv),rfl⟩))
   ·exact .fwd 1 (.drop 0 1 (.done ⟨aV (HH hi fun h=>by rw[h.1]at cr;cases cr),rfl⟩))
  ·have hi:cI s.what s.w=false:=by
    cases h:cI s.what s.w with
    |false=>rfl
    |true=>rw[GX h]at c2;cases c2
   exact .fwd 1 (.drop 0 1 (.done ⟨aV (aed hi),rfl⟩))
 ·have c1:¬gP s.what s.w=0:=c1
  refine aa 0 ?_
  refine aa 0 ?_
  have hi:cI s.what s.w=true:=by
   cases h:cI s.what s.w with
   |true=>rfl
   |false=>exact absurd (by unfold gP;rw[h];rfl) c1
  refine eK [] (C2 s.n s.aW _ (fx hf.DW (by decide))) (fun cr=>?_) (fun cr=>?_)
  ·refine aa 0 ?_
   refine aa 0 ?_
   refine ew (fun ct=>?_) (fun ct=>?_)
   ·have ct:(!decide ((s.T.length:Int)=s.n))=true:=ct
    have ct:¬(s.T.length:Int)=s.n:=by simpa using ct
    exact .fwd 1 (.drop 0 1 (.done ⟨aV (HH hi fun h=>ct h.2),rfl⟩))
   ·have ct:(!decide ((s.T.length:Int)=s.n))=false:=ct
    have ct:(s.T.length:Int)=s.n:=by simpa using ct
    have hr:fq s.n s.aW=true∧(s.T.length:Int)=s.n:=⟨cr,ct⟩
    refine aa 0 ?_
    refine cc (S:=Nat) (fun k=>[(1,.ptr aG 0),(3,.int .i64 1),(42,.af (.int .i64) s.entry),(43,.int .i64 s.entry.length),(44,.int .i64 k)]) (fun _=>(aG,bU s)::σ) (fun k=>k≤s.entry.length∧((s.entry.take k).any fun v=> !dH s.n v)=false) (fun k=>s.entry.length-k) 0 ⟨⟨bD _,rfl⟩,⟨rfl,rfl,rfl,rfl,rfl,trivial⟩,rfl⟩ ?_
    rintro k g ⟨aP,pK⟩
    have hk:k≤s.entry.length:=aP
    have ha:((s.entry.take k).any fun v=> !dH s.n v)=false:=pK
    clear aP pK
    refine aq (fun ab=>?_) (fun au=>?_)
    ·have ab:k<s.entry.length:=by have ab:(k:Int)<s.entry.length:=ab;omega
     have hs:=rM ab fun v=> !dH s.n v
     rw[ha,pM]at hs
     have DS:dH s.n s.entry[k]=false→(s.entry.any fun v=> !dH s.n v)=true:=fun h=>mV.2 ⟨s.entry[k],cj ab,by rw[h];rfl⟩
     refine aI.mk rfl (bL.mk s.entry[k] (by omega) (get_some ab) ?_)
     refine aq (p:=s.entry[k]<0) (fun d1=>?_) (fun d1=>?_)
     ·exact .fwd 1 (.drop 0 1 (.done ⟨aV (Hg hi hr (DS (by unfold dH;simp;omega))),rfl⟩))
     ·refine aa 0 ?_
      refine aq (p:=s.n≤s.entry[k]) (fun d2=>?_) (fun d2=>?_)
      ·exact .fwd 1 (.drop 0 1 (.done ⟨aV (Hg hi hr (DS (by unfold dH;simp;omega))),rfl⟩))
      ·exact bj (k+1) (by show s.entry.length-(k+1)<s.entry.length-k;omega) ⟨ab,hs.trans (by unfold dH;simp;omega)⟩ ⟨rfl,rfl,rfl,rfl,aY (by have:=hf.AT;omega),trivial⟩ (.refl _)
    ·have au:k=s.entry.length:=by have au:¬(k:Int)<s.entry.length:=au;omega
     subst au
     rw[gn]at ha
     refine aa 0 ?_
     refine aa 0 ?_
     refine aa 0 ?_
     refine eK [] (Ir s.what s.w s.init _ hf.i64 (fx hf.DH (by decide))) (fun cv=>?_) (fun cv=>?_)
     ·refine aa 0 ?_
      refine cc (S:=Nat) (fun k=>[(1,.ptr aG 0),(3,.int .i64 2),(66,.af kR s.T),(67,.int .i64 s.T.length),(68,.int .i64 k)]) (fun _=>(aG,bU s)::σ) (fun k=>k≤s.T.length∧((s.T.take k).any fun t=> !decide (fD s.what s.w t.1 t.2.1 t.2.2.1=0))=false) (fun k=>s.T.length-k) 0 ⟨⟨bD _,rfl⟩,⟨rfl,rfl,rfl,rfl,rfl,trivial⟩,rfl⟩ ?_
      rintro k g ⟨aP,lu⟩
      have hk:k≤s.T.length:=aP
      have ht:((s.T.take k).any fun t=> !decide (fD s.what s.w t.1 t.2.1 t.2.2.1=0))=false:=lu
      clear aP lu
      refine aq (fun ab=>?_) (fun au=>?_)
      ·have ab:k<s.T.length:=by have ab:(k:Int)<s.T.length:=ab;omega
       have hs:=rM ab fun t=> !decide (fD s.what s.w t.1 t.2.1 t.2.2.1=0)
       rw[ht,pM]at hs
       have ho:=hf.ts _ (cj ab)
       have hm:=cj ab
       obtain⟨t,fK⟩:∃t:mw,s.T[k]=t:=⟨_,rfl⟩
       rw[fK]at hs ho hm
       refine aI.mk rfl (bL.mk t (by omega) ((get_some ab).trans (congrArg some fK)) ?_)
       intro dw
       refine ai 0 ?_
       refine aa 1 ?_
       refine aa 1 ?_
       refine aa 0 ?_
       refine ay [] (Lu s.what s.w t.1 t.2.1 t.2.2.1 _ ho.1 ho.2.1 ho.2.2.1 ho.2.2.2.1 (fx ho.2.2.2.2 (by decide))) ?_
       refine ew (fun d1=>?_) (fun d1=>?_)
       ·exact .fwd 1 (.drop 0 2 (.done ⟨aV (Ul hi hr ha cv (mV.2 ⟨t,hm,d1⟩)),rfl⟩))
       ·exact bj (k+1) (by show s.T.length-(k+1)<s.T.length-k;omega) ⟨ab,hs.trans d1⟩ ⟨rfl,rfl,rfl,rfl,aY (by have:=hf.Mw;omega),trivial⟩ (.drop 0 1 (.refl _))
      ·have au:k=s.T.length:=by have au:¬(k:Int)<s.T.length:=au;omega
       subst au
       rw[gn]at ht
       exact .drop 0 1 (.done ⟨aV (Ml hi hr ha cv ht),rfl⟩)
     ·exact .fwd 1 (.drop 0 1 (.done ⟨aV (U1 hi hr ha cv),rfl⟩))
  ·exact .fwd 1 (.drop 0 1 (.done ⟨aV (HH hi fun h=>by rw[h.1]at cr;cases cr),rfl⟩))
theorem adm(l:List Int)(x:Int)(σ:Hp)(hl:l.length≤1000000):ACalls Tryz.prog 287 [.af (.int .i64) l,.int .i64 x] σ (fun r σ'=>∃n:Int,r=.int .i64 n∧σ'=σ∧decide (0≤n)=l.any fun z=>decide (x=z)):=by
 refine az Tryz.func287 ?_
 refine cc (S:=Nat) (fun s=>[(0,.af (.int .i64) l),(1,.int .i64 x),(7,.int .i64 l.length),(8,.int .i64 s)]) (fun _=>σ) (fun s=>s≤l.length∧((l.take s).any fun z=>decide (x=z))=false) (fun s=>l.length-s) 0 ⟨⟨bD _,rfl⟩,⟨rfl,rfl,rfl,rfl,trivial⟩,rfl⟩ ?_
 rintro k t ⟨aP,fY⟩
 have hk:k≤l.length:=aP
 have hn:((l.take k).any fun z=>decide (x=z))=false:=fY
 clear aP fY
 refine aq (fun ab=>?_) (fun au=>?_)
 ·have ab:k<l.length:=by have ab:(k:Int)<l.length:=ab;omega
  have hs:=rM ab fun z=>decide (x=z)
  rw[hn,pM]at hs
  refine aI.mk rfl (bL.mk l[k] (by omega) (get_some ab) ?_)
  refine aq (fun c=>?_) (fun c=>?_)
  ·have c:x=l[k]:=c
   have hp:(l.any fun z=>decide (x=z))=true:=mV.2 ⟨l[k],cj ab,bu c⟩
   exact .done ⟨_,rfl,rfl,by rw[hp];exact bu (by omega)⟩
  ·have c:¬x=l[k]:=c
   exact bj (k+1) (by show l.length-(k+1)<l.length-k;omega) ⟨ab,hs.trans (bZ c)⟩ ⟨rfl,rfl,rfl,aY (by omega),trivial⟩ (.refl _)
 ·have au:k=l.length:=by have au:¬(k:Int)<l.length:=au;omega
  subst au
  rw[gn]at hn
  exact .done ⟨_,rfl,rfl,by rw[hn];rfl⟩
theorem X6(l:List Int)(x:Int)(σ:Hp)(hl:l.length≤1000000):ACalls Tryz.prog 255 [.af (.int .i64) l,.int .i64 x] σ (aE (.bool (l.any fun z=>decide (x=z))) σ):=by
 refine az Tryz.func255 ?_
 refine .mk [] _ (adm l x _ hl) ?_
 rintro _ _ ⟨n,rfl,rfl,hn⟩
 rw[← hn]
 refine aq (fun c=>?_) (fun c=>?_)
 ·have c:0≤n:=c
  rw[bu c]
  exact .done ⟨rfl,rfl⟩
 ·have c:¬0≤n:=c
  rw[bZ c]
  exact .done ⟨rfl,rfl⟩
theorem adr(l:List Int)(σ:Hp)(hl:l.length≤1000000):ACalls Tryz.prog 256 [.af (.int .u64) l] σ (aE (.af (.int .u64) l) σ):=by
 refine (TF l σ hl).fin ?_
 rintro v σ' ⟨acc,b9,rfl⟩
 exact qU (s:=.int .u64) [] b9 rfl (kO l) (by decide) (.done ⟨rfl,rfl⟩)
def gv(s:Sy)(v:Int):List Int:=if (s.entry.any fun z=>decide (v=z))=true then s.init else gi s.what s.w
theorem aeo(s:Sy)(v:Int)(σ:Hp)(hf:Fit s):ACalls Tryz.prog 212 [.agg (bU s),.int .i64 v] σ (aE (.af (.int .u64) (gv s v)) σ):=by
 refine az Tryz.func212 ?_
 intro aG
 refine aa 0 ?_
 refine eK [] (X6 s.entry v _ (fx hf.AT (by decide))) (fun c=>?_) (fun c=>?_)
 ·refine aa 0 ?_
  refine ay [] (adr s.init _ (fx hf.DH (by decide))) ?_
  exact .drop 0 1 (.done ⟨by unfold gv;rw[c];rfl,rfl⟩)
 ·refine aa 0 ?_
  refine aa 0 ?_
  refine ay [] (KV _ _ _) ?_
  exact .drop 0 1 (.done ⟨by unfold gv;rw[c];rfl,rfl⟩)
def yu(s:Sy)(a:List (List Int)):Bool:=decide ((a.length:Int)=s.n)&&a.all (cY s.what s.w)
def yO(a:List (List Int)):Prop:=a.length≤100000∧∀x∈a,bc x∧x.length≤10000
structure Good(s:Sy):Prop where
 sm:cI s.what s.w=true
 n1:1≤s.n
 n2:s.n≤256
 el:s.aW.length≤1024
 uX:∀e∈s.aW,(0≤e.1∧e.1<s.n)∧0≤e.2.1∧e.2.1<s.n
 tl:(s.T.length:Int)=s.n
 ent:∀v∈s.entry,0≤v∧v<s.n
 ini:cY s.what s.w s.init=true
 D7:∀t∈s.T,fD s.what s.w t.1 t.2.1 t.2.2.1=0
theorem kP{n a:Int}:dH n a=true↔0≤a∧a<n:=by unfold dH;simp
theorem Lp{s:Sy}(h:eX s=0):Good s:=by
 unfold eX at h
 split at h
 ·rename_i h1
  split at h
  ·rename_i h2
   split at h
   ·cases h
   ·rename_i h3
    split at h
    ·rename_i h4
     split at h
     ·cases h
     ·rename_i h5
      have h3:(s.entry.any fun v=> !dH s.n v)=false:=by simpa using h3
      have h5:(s.T.any fun t=> !decide (fD s.what s.w t.1 t.2.1 t.2.2.1=0))=false:=by simpa using h5
      have hr:=h2.1
      unfold fq at hr
      simp only[bR,decide_eq_true_eq]at hr
      refine⟨h1,hr.1.1.1,hr.1.1.2,hr.1.2,fun e he=>?_,h2.2,fun v hv=>?_,h4,fun t ht=>?_⟩
      ·have:=fy.1 hr.2 e he
       rw[bR,kP,kP]at this
       exact this
      ·have:=By.1 h3 v hv
       exact kP.1 (by simpa using this)
      ·have:=By.1 h5 t ht
       simpa using this
    ·cases h
  ·cases h
 ·cases h
theorem QS{s:Sy}(h:Good s):eX s=0:=by
 refine (Ml h.sm ⟨?_,h.tl⟩ (By.2 fun v hv=>?_) h.ini (By.2 fun t ht=>?_)).symm
 ·unfold fq
  simp only[bR,decide_eq_true_eq]
  refine⟨⟨⟨h.n1,h.n2⟩,h.el⟩,fy.2 fun e he=>?_⟩
  rw[bR,kP,kP];exact h.uX e he
 ·rw[kP.2 (h.ent v hv)];decide
 ·rw[h.D7 t ht];decide
def iF(s:Sy)(x:List Int)(v:Nat):List Int:=gd s.what (s.T.getD v ([],[],[],())).1 (s.T.getD v ([],[],[],())).2.1 (s.T.getD v ([],[],[],())).2.2.1 x
def uK(s:Sy)(a:List (List Int))(v:Nat)(x:List Int)(e:bE):List Int:=if e.2.1=v then dr s.what x (iF s (a.getD e.1.toNat []) e.1.toNat) else x
def jA(s:Sy)(a:List (List Int))(k v:Nat):List Int:=(s.aW.take k).foldl (uK s a v) (gv s v)
def C5(s:Sy)(a:List (List Int))(k:Nat):List (List Int):=(List.range s.n.toNat).map (jA s a k)
def gH(s:Sy)(a:List (List Int)):List (List Int):=C5 s a s.aW.length
theorem OY(s:Sy)(a:List (List Int))(k:Nat):(C5 s a k).length=s.n.toNat:=by unfold C5;simp
theorem xX(s:Sy)(a:List (List Int)){k:Nat}(h:k<s.aW.length)(v:Nat):jA s a (k+1) v=uK s a v (jA s a k v) s.aW[k]:=by
 unfold jA;rw[fL h,tV];rfl
theorem Cl{s:Sy}{a:List (List Int)}:yu s a=true↔(a.length:Int)=s.n∧∀x∈a,cY s.what s.w x=true:=by
 unfold yu;rw[bR,decide_eq_true_eq,fy]
theorem FQ{what w:Int}{x:List Int}(h:cY what w x=true):x.length≤1024:=by
 have h1:=wH h
 have:=zN what w;omega
theorem HP{s:Sy}(hg:Good s){v:Nat}(h:(v:Int)<s.n):∃h2:v<s.T.length,s.T.getD v ([],[],[],())=s.T[v]:=by
 have h2:v<s.T.length:=by have:=hg.tl;omega
 exact⟨h2,by rw[bg,bF h2];rfl⟩
theorem GG{s:Sy}(hf:Fit s)(hg:Good s){x:List Int}(lV:bc x)(hv:cY s.what s.w x=true){v:Nat}(h:(v:Int)<s.n):cY s.what s.w (iF s x v)=true∧bc (iF s x v):=by
 obtain⟨h2,e⟩:=HP hg h
 unfold iF
 rw[e]
 have ho:=hf.ts _ (cj h2)
 exact⟨Gc ho.1 ho.2.1 lV (hg.D7 _ (cj h2)) hv,zR lV⟩
theorem Kd{s:Sy}(hf:Fit s)(hg:Good s)(v:Int):cY s.what s.w (gv s v)=true∧bc (gv s v):=by
 unfold gv;split
 ·exact⟨hg.ini,hf.i64⟩
 ·exact⟨GX hg.sm,Hj _ _⟩
theorem FT{s:Sy}(hf:Fit s)(hg:Good s){a:List (List Int)}(ha:yO a)(hv:yu s a=true)(v:Nat):∀k,k≤s.aW.length→cY s.what s.w (jA s a k v)=true∧bc (jA s a k v)
 | 0,_=>by
  show cY s.what s.w (gv s v)=true∧bc (gv s v)
  exact Kd hf hg v
 |k+1,h=>by
  have ih:=FT hf hg ha hv v k (by omega)
  rw[xX s a (by omega)]
  unfold uK
  split
  ·have he:=hg.uX _ (cj (show k<s.aW.length by omega))
   have El:=Cl.1 hv
   generalize s.aW[k]=e at he
   have hl:e.1.toNat<a.length:=by omega
   have hm:a.getD e.1.toNat []∈a:=by rw[bg,bF hl];exact cj hl
   have ho:=GG hf hg (ha.2 _ hm).1 (El.2 _ hm) (v:=e.1.toNat) (by omega)
   exact⟨KL ih.2 ho.2 ih.1 ho.1,wN ih.2 ho.2⟩
  ·exact ih
theorem PC{s:Sy}(hf:Fit s)(hg:Good s){a:List (List Int)}(ha:yO a)(hv:yu s a=true):yu s (gH s a)=true∧yO (gH s a):=by
 have hx:∀x∈gH s a,cY s.what s.w x=true∧bc x:=fun x hx=>by
  obtain⟨v,_,rfl⟩:=dP.1 hx
  exact FT hf hg ha hv v _ (a8 _)
 have hn:=hg.n1
 have tJ:=hg.n2
 have hl:(gH s a).length=s.n.toNat:=OY _ _ _
 exact⟨Cl.2 ⟨by omega,fun x h=>(hx x h).1⟩,by omega,fun x h=>⟨(hx x h).2,by have:=FQ (hx x h).1;omega⟩⟩
def uC(x:List Int):AV:=.af (.int .u64) x
def vh(l:List (List Int)):List AV:=l.map uC
theorem Kx:∀l:List (List Int),vh l=l.flatMap (Sh.cells (.slice (.int .u64)))
 | []=>rfl
 |x::l=>congrArg (uC x :: ·) (Kx l)
theorem uA{i:TI}(hs:i.size=1){cs:List AV}{o:Nat}{v:AV}(hv:v.cells?=some [v])(ho:o<cs.length):kQ i cs o v=some (cs.set o v):=by
 unfold kQ
 rw[hv]
 simp only
 have e1:Nat.beq ([v]:List AV).length i.size=true:=by rw[hs];rfl
 have e2:Nat.ble (o+i.size) cs.length=true:=Oz (by omega)
 rw[e1,e2]
 rfl
theorem jc{i:TI}(hw:i.wide=false){cs:List AV}{o:Nat}{v:AV}(h:cs[o]?=some v):ey i cs o=some v:=by unfold ey;rw[hw];exact h
def nh(s:Sy):List (List Int):=List.replicate s.n.toNat (gi s.what s.w)
theorem OU(s:Sy):(nh s).length=s.n.toNat:=fZ
def bN(b:List Bool):List AV:=b.map .bool
theorem acU{b:List Bool}{k:Nat}(h:k<b.length){z:Int}(hz:z=k):(bN b)[0+z.toNat*1]?=some (.bool (b.getD k false)):=by
 subst hz
 rw[bM,dO,ef]
 unfold bN
 rw[fo,bF h,bg,bF h];rfl
theorem acS(b:List Bool)(k:Nat)(x:Bool){z:Int}(hz:z=k):(bN b).set (0+z.toNat*1) (.bool x)=bN (b.set k x):=by
 subst hz
 rw[bM,dO,ef]
 unfold bN
 rw[oS]
theorem CC(n:Nat):cM [.bool false] n=bN (List.replicate n false):=by
 induction n with
 |zero=>rfl
 |succ n ih=>show AV.bool false::cM [.bool false] n=_;rw[ih];rfl
def wZ(n:Int)(b:List Bool)(a:Int):List Bool:=if 0≤a∧a<n then b.set a.toNat true else b
def rF(n:Int)(b:List Bool)(e:bE):List Bool:=if (0≤e.1∧e.1<n)∧(0≤e.2.1∧e.2.1<n)∧b.getD e.1.toNat false=true then b.set e.2.1.toNat true else b
def o9(n:Int)(l:List bE)(b:List Bool):List Bool:=l.foldl (rF n) b
def uk(n:Int)(l:List bE):Nat→List Bool→List Bool
 | 0,b=>b
 |k+1,b=>uk n l k (o9 n l b)
def L8(b:List Bool)(k:Nat):List Int:=((List.range k).filter fun i=>b.getD i false).map fun i:Nat=>(i:Int)
def CY(n:Int)(l:List bE)(fr:List Int):List Bool:=uk n l n.toNat (fr.foldl (wZ n) (List.replicate n.toNat false))
def LB(n:Int)(l:List bE)(fr:List Int):List Int:=L8 (CY n l fr) n.toNat
theorem O4(n:Int)(b:List Bool)(a:Int):(wZ n b a).length=b.length:=by unfold wZ;split;exact cN;rfl
theorem PY(n:Int)(b:List Bool)(e:bE):(rF n b e).length=b.length:=by unfold rF;split;exact cN;rfl
theorem acT(b:List Bool):(bN b).length=b.length:=cm _
theorem rounds_succ(n:Int)(l:List bE)(k:Nat)(b:List Bool):uk n l (k+1) b=uk n l k (o9 n l b):=rfl
theorem x7{i:TI}(hs:i.size=1){b:List Bool}(x:Bool){a:Int}(h1:0≤a)(h2:a<b.length):kQ i (bN b) (0+a.toNat*1) (.bool x)=some (bN (b.set a.toNat x)):=by
 rw[uA hs rfl (by rw[acT];omega),acS b a.toNat x (by omega)]
theorem sT{i:TI}(hw:i.wide=false){b:List Bool}{a:Int}(h1:0≤a)(h2:a<b.length):ey i (bN b) (0+a.toNat*1)=some (.bool (b.getD a.toNat false)):=jc hw (acU (by omega) (by omega))
def sn(l:List Int)(x:Int):Bool:=l.any fun z=>decide (x=z)
theorem CK{l:List Int}{x:Int}:sn l x=true↔x∈l:=by unfold sn;simp
theorem Lm(l:List Int):(an l).length=l.length:=cm _
def A6(n:Int)(l:List bE)(a b:Int):Bool:=sn (LB n l [a]) b
def LC(n:Int)(l:List bE)(a:Int)(k:Nat):List Int:=((List.range k).filter fun b:Nat=>A6 n l a b&&A6 n l b a).map fun i:Nat=>(i:Int)
def qY(n:Int)(l:List bE)(a:Int):List Int:=LC n l a n.toNat
def Mj(l:List bE)(part told:List Int):Bool:=l.all fun e=> !(sn part e.2.1&&!sn part e.1&&!sn told e.1)
theorem J3{b:List Bool}{i j:Nat}{x:Bool}:(b.set i x).getD j false=if i=j∧j<b.length then x else b.getD j false:=by
 simp only[bg,e8]
 by_cases h:i=j
 ·subst h
  by_cases h2:i<b.length
  ·simp[h2]
  ·simp[h2]
 ·simp[h]
theorem YN{n:Nat}{l:List bE}{a z:Int}:z∈qY n l a↔∃i:Nat,i<n∧(A6 n l a i&&A6 n l i a)=true∧z=i:=by
 unfold qY LC
 rw[dP,bM]
 constructor
 ·rintro⟨i,hi,rfl⟩
  rw[nQ,gm]at hi
  exact⟨i,hi.1,hi.2,rfl⟩
 ·rintro⟨i,h1,h2,rfl⟩
  exact⟨i,by rw[nQ,gm];exact⟨h1,h2⟩,rfl⟩
def cC(ps:List (List Int)):List AV:=ps.map (.af (.int .i64))
theorem wC:∀ps:List (List Int),cC ps=ps.flatMap (Sh.cells (.slice (.int .i64)))
 | []=>rfl
 |p::ps=>congrArg (AV.af (.int .i64) p :: ·) (wC ps)
theorem S7{nx:List Int}(h:0<nx.length):nx[((0:Int)).toNat]?=some (nx.headD 0):=by
 cases nx with
 |nil=>simp at h
 |cons z nx=>rfl
end Go.Proofs.YtnikdflhefijbaaGreat
namespace Go.Proofs.YtnikdflhefijbaaGreat
open Go.Shelf
def WO:Go.Shelf.Ren:=⟨fun | 189=>312 | 125=>233 | 257=>338 | 128=>274 | 129=>275 | 294=>346 | 295=>347 | 296=>348 | 297=>349 | 298=>350 | 299=>351 | 216=>352 | 300=>353 | 301=>354 | 328=>360 | 329=>296 | 330=>297 | 331=>361 | 332=>362 | 215=>234 | 343=>365 | n=>n,fun | 28=>23 | 3=>3 | 46=>253 | 0=>0 | 51=>284 | 53=>56 | 4=>4 | 183=>308 | 182=>307 | 131=>312 | 5=>5 | 9=>9 | 218=>331 | 222=>335 | 228=>353 | 229=>50 | n=>n,fun | n=>n⟩
theorem Lh:Go.Proofs.Lays.n189 Tryz.prog WO:= {
 mixed:=by kernel_rfl
 f125:=Tryz.func233.trans (congrArg some (by kernel_rfl))
 f128:=Tryz.func274.trans (congrArg some (by kernel_rfl))
 f129:=Tryz.func275.trans (congrArg some (by kernel_rfl))
 f189:=Tryz.func312.trans (congrArg some (by kernel_rfl))
 f215:=Tryz.func234.trans (congrArg some (by kernel_rfl))
 f216:=Tryz.func352.trans (congrArg some (by kernel_rfl))
 f257:=Tryz.func338.trans (congrArg some (by kernel_rfl))
 f294:=Tryz.func346.trans (congrArg some (by kernel_rfl))
 f295:=Tryz.func347.trans (congrArg some (by kernel_rfl))
 f296:=Tryz.func348.trans (congrArg some (by kernel_rfl))
 f297:=Tryz.func349.trans (congrArg some (by kernel_rfl))
 f298:=Tryz.func350.trans (congrArg some (by kernel_rfl))
 f299:=Tryz.func351.trans (congrArg some (by kernel_rfl))
 f300:=Tryz.func353.trans (congrArg some (by kernel_rfl))
 f301:=Tryz.func354.trans (congrArg some (by kernel_rfl))
 f328:=Tryz.func360.trans (congrArg some (by kernel_rfl))
 f329:=Tryz.func296.trans (congrArg some (by kernel_rfl))
 f330:=Tryz.func297.trans (congrArg some (by kernel_rfl))
 f331:=Tryz.func361.trans (congrArg some (by kernel_rfl))
 f332:=Tryz.func362.trans (congrArg some (by kernel_rfl))
 f343:=Tryz.func365.trans (congrArg some (by kernel_rfl))
 t0:=Tryz.underlying0
 a0:=Tryz.isAgg0
 z0:=Tryz.sizeOf0
 v0:=Tryz.zeroValue0
 t3:=Tryz.underlying3
 a3:=Tryz.isAgg3
 z3:=Tryz.sizeOf3
 v3:=Tryz.zeroValue3
 t4:=Tryz.underlying4
 a4:=Tryz.isAgg4
 z4:=Tryz.sizeOf4
 v4:=Tryz.zeroValue4
 t5:=Tryz.underlying5
 a5:=Tryz.isAgg5
 z5:=Tryz.sizeOf5
 v5:=Tryz.zeroValue5
 t9:=Tryz.underlying9
 a9:=Tryz.isAgg9
 z9:=Tryz.sizeOf9
 v9:=Tryz.zeroValue9
 t28:=Tryz.underlying23
 a28:=Tryz.isAgg23
 z28:=Tryz.sizeOf23
 v28:=Tryz.zeroValue23
 t46:=Tryz.underlying253
 a46:=Tryz.isAgg253
 z46:=Tryz.sizeOf253
 v46:=Tryz.zeroValue253
 t51:=Tryz.underlying284
 a51:=Tryz.isAgg284
 z51:=Tryz.sizeOf284
 v51:=Tryz.zeroValue284
 t53:=Tryz.underlying56
 a53:=Tryz.isAgg56
 z53:=Tryz.sizeOf56
 v53:=Tryz.zeroValue56
 t131:=Tryz.underlying312
 a131:=Tryz.isAgg312
 z131:=Tryz.sizeOf312
 v131:=Tryz.zeroValue312
 t182:=Tryz.underlying307
 a182:=Tryz.isAgg307
 z182:=Tryz.sizeOf307
 v182:=Tryz.zeroValue307
 t183:=Tryz.underlying308
 a183:=Tryz.isAgg308
 z183:=Tryz.sizeOf308
 v183:=Tryz.zeroValue308
 t218:=Tryz.underlying331
 a218:=Tryz.isAgg331
 z218:=Tryz.sizeOf331
 v218:=Tryz.zeroValue331
 t222:=Tryz.underlying335
 a222:=Tryz.isAgg335
 z222:=Tryz.sizeOf335
 v222:=Tryz.zeroValue335
 t228:=Tryz.underlying353
 a228:=Tryz.isAgg353
 z228:=Tryz.sizeOf353
 v228:=Tryz.zeroValue353
 t229:=Tryz.underlying50
 a229:=Tryz.isAgg50
 z229:=Tryz.sizeOf50
 v229:=Tryz.zeroValue50 }
def WN:Go.Shelf.Ren:=⟨fun | 20=>313 | n=>n,fun | 22=>23 | 3=>3 | 4=>4 | 0=>0 | n=>n,fun | n=>n⟩
theorem Lg:Go.Proofs.Lays2.n20 Tryz.prog WN:= {
 mixed:=by kernel_rfl
 f20:=Tryz.func313.trans (congrArg some (by kernel_rfl))
 t0:=Tryz.underlying0
 a0:=Tryz.isAgg0
 z0:=Tryz.sizeOf0
 v0:=Tryz.zeroValue0
 t3:=Tryz.underlying3
 a3:=Tryz.isAgg3
 z3:=Tryz.sizeOf3
 v3:=Tryz.zeroValue3
 t4:=Tryz.underlying4
 a4:=Tryz.isAgg4
 z4:=Tryz.sizeOf4
 v4:=Tryz.zeroValue4
 t22:=Tryz.underlying23
 a22:=Tryz.isAgg23
 z22:=Tryz.sizeOf23
 v22:=Tryz.zeroValue23
 i3:=by kernel_rfl }
end Go.Proofs.YtnikdflhefijbaaGreat
