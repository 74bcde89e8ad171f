import Derived.Test.YtnikdflhefijbaaGreatBn17
namespace Go.Proofs.YtnikdflhefijbaaGreat
open Go.RowKit
set_option maxRecDepth 100000
def jE(a:List Int)(r:oo):Int:=if r.1 = -1 then kZ r.2.1.1 r.2.1.2.1 else wd a r.1.toNat
def nZ(a:List Int)(c:da):Int:=if c.2.1 = -1 then 1 else jJ c.2.1 (jE a c.2.2.1) (jE a c.2.2.2.1)
def qT(a:List Int)(c:da):List Int:=a.set c.1.toNat (nZ a c)
def gV(a:List Int)(l:List da):List Int:=l.foldl qT a
theorem zu(a:List Int)(c:da):(qT a c).length=a.length:=cM ..
theorem Fk(a:List Int)(l:List da):(gV a l).length=a.length:=by
 unfold gV
 induction l generalizing a with
 |nil=>rfl
 |cons c l ih=>exact (ih _).trans (zu a c)
theorem R9(a:List Int)(l:List da)(c:da):gV a (l++[c])=qT (gV a l) c:=by
 unfold gV;rw[tS];rfl
theorem TU(x y:Int):bD (kZ x y):=by
 have h1:=B1 x y
 have h2:=FR x y
 unfold bD kZ;omega
theorem Gg{a:List Int}(ha:aR a)(r:oo):bD (jE a r):=by
 unfold jE;split
 ·exact TU _ _
 ·exact kP ha _
theorem abZ(op a b:Int):bD (fH op a b):=by
 unfold fH mA
 split
 ·exact⟨by omega,by omega⟩
 ·split
  ·exact⟨by omega,by omega⟩
  ·split
   ·exact TU _ _
   ·exact⟨by omega,by omega⟩
theorem adF(op a b:Int):bD (jJ op a b):=by unfold jJ;split <;> exact abZ _ _ _
theorem acg(a:List Int)(c:da):bD (nZ a c):=by
 unfold nZ;split
 ·exact⟨by omega,by omega⟩
 ·exact adF _ _ _
theorem adp{a:List Int}(ha:aR a){i:Nat}{z:Int}(hz:bD z):aR (a.set i z):=fun x hx=>by
 rcases qD hx with h | rfl
 ·exact ha x h
 ·exact hz
theorem LC{a:List Int}(ha:aR a)(l:List da):aR (gV a l):=by
 unfold gV
 induction l generalizing a with
 |nil=>exact ha
 |cons c l ih=>exact ih (adp ha (acg a c))
theorem BW{w:Int}{c:da}(h:gl w c=true):0≤c.1∧c.1<w:=by
 unfold gl at h
 by_cases h1:c.1<0
 ·rw[ai h1]at h;exact absurd h (by decide)
 ·by_cases h2:w≤c.1
  ·rw[ah h1,ai h2]at h;exact absurd h (by decide)
  ·omega
theorem Gb{w:Int}{c:da}(h:gl w c=true): -1≤c.2.1∧(¬c.2.1 = -1→pX w c.2.2.1=true∧pX w c.2.2.2.1=true):=by
 have hv:=BW h
 unfold gl at h
 rw[ah (by omega),ah (by omega)]at h
 by_cases h1:c.2.1 < -1
 ·rw[ai h1]at h;exact absurd h (by decide)
 ·rw[ah h1]at h
  by_cases h2:4<c.2.1
  ·rw[ai h2]at h;exact absurd h (by decide)
  ·rw[ah h2]at h
   refine⟨by omega,fun h3=>?_⟩
   rw[ah h3]at h
   exact Bool.and_eq_true_iff.1 h
theorem BQ{w:Int}{r:oo}(h:pX w r=true)(h1:¬r.1 = -1):0≤r.1∧r.1<w:=by
 unfold pX at h
 rw[ah h1]at h
 simp at h
 exact h.1
theorem ags(a:List Int)(r:oo)(q b:Nat)(σ:Hp)(hr:pX a.length r=true):ACalls Tryz.prog 330 [.agg (Di r),.ptr q 0] ((q,[.ae b 0 a.length 1])::(b,aM a)::σ) (aE (.int .u64 (jE a r)) ((q,[.ae b 0 a.length 1])::(b,aM a)::σ)):=by
 refine ay Tryz.func330 ?_
 intro aD
 refine aa 0 ?_
 refine an (fun c2=>?_) (fun c2=>?_)
 ·have c2:r.fst = -1:=c2
  refine aa 0 ?_
  refine az [] (Hm _ _ _) ?_
  have e:jE a r=kZ r.2.1.1 r.2.1.2.1:=ai c2
  exact .drop 0 1 (.done ⟨aQ e.symm,rfl⟩)
 ·have c2:¬(r.fst = -1):=c2
  refine aa 1 ?_
  refine aa 0 ?_
  have hv:=BQ hr c2
  have e:jE a r=wd a r.1.toNat:=ah c2
  refine ag.mk ⟨rfl,hv.1,hv.2⟩ ?_
  refine aT 2 rfl (Hl (i:=r.1.toNat) (by omega) (by omega)) ?_
  exact .drop 0 1 (.done ⟨aQ e.symm,rfl⟩)
theorem VJ(a:List Int)(n:Nat)(hn:a.length=n)(r:oo)(q b:Nat)(σ:Hp)(hr:pX n r=true):ACalls Tryz.prog 330 [.agg (Di r),.ptr q 0] ((q,[.ae b 0 n 1])::(b,aM a)::σ) (aE (.int .u64 (jE a r)) ((q,[.ae b 0 n 1])::(b,aM a)::σ)):=by
 subst hn
 exact ags a r q b σ hr
theorem Tx(l:List Int)(σ:Hp)(hl:l.length≤1000000):ACalls Tryz.prog 256 [.af (.int .u64) l] σ (fun x σ'=>∃acc,Acc 1 l.length x acc (aM l)∧σ'=acc++σ):=by
 refine Fs (fun h=>⟨?_,?_⟩) (fun h=>?_)
 ·subst h
  refine ay Tryz.func256 ?_
  exact .done ⟨[],.nil,rfl⟩
 ·subst h
  refine ay Tryz.func256 ?_
  intro b
  refine AppendAt.more 0 b 0 0 [] _ rfl rfl (cH rfl) .gU (by decide) (by decide) (by decide) (fun b'=>?_)
  exact .done ⟨[(b',[])],.ae b' 0 [] rfl,rfl⟩
 ·refine ay Tryz.func256 ?_
  refine ag.mk (mM.2 h) ?_
  intro b
  refine AppendAt.more 0 b 0 l.length [] _ rfl rfl (cH rfl) (.af (.int .u64) l rfl) (by omega) (by decide) (by decide) (fun b'=>?_)
  refine .done ⟨[(b',aM l)],?_,?_⟩
  ·rw[Nat.zero_add];exact .ae b' l.length _ (by simp[aM])
  ·show (b',[]++l.flatMap (Sh.cells (.int .u64)))::σ=_
   rw[kH];rfl
theorem agk(a:List Int)(l:List da)(σ:Hp)(ha:aR a)(la:a.length≤10000)(ll:l.length≤1000000)(hl:l.all (gl a.length)=true):ACalls Tryz.prog 302 [.af (.int .u64) a,.af jd l] σ (aE (.af (.int .u64) (gV a l)) σ):=by
 refine ay Tryz.func302 ?_
 intro q
 refine aa 0 ?_
 refine .mk [] _ (Tx a _ (by omega)) ?_
 rintro v σ' ⟨acc,bY,rfl⟩
 generalize hn:a.length=n at bY la hl
 generalize kC:aM a=cs at bY
 cases bY with
 |nil=>
  have h0:a=[]:=jP.1 hn
  subst h0
  cases l with
  |cons c l=>
   have:=BW (fk.1 hl c (cm ..))
   exact absurd this (by omega)
  |nil=>
   refine ak 0 ?_
   refine bV (S:=Unit) (fun _=>[(2,.ptr q 0),(12,.int .i64 0),(13,.int .i64 0)]) (fun _=>(q,[.aj])::σ) (fun _=>True) (fun _=>0) () ⟨trivial,⟨rfl,rfl,rfl,trivial⟩,rfl⟩ ?_
   rintro _ _ _
   refine aa 0 ?_
   exact .drop 0 1 (.nil (.nil _) (.done ⟨rfl,rfl⟩))
 |ae b n cs h=>
 subst kC
 refine ak 1 ?_
 refine bV (S:=Nat) (fun s=>[(2,.ptr q 0),(5,.fn (.func 330) [] [.ptr q 0]),(11,.af jd l),(12,.int .i64 l.length),(13,.int .i64 s)]) (fun s=>(b,aM (gV a (l.take s)))::(q,[.ae b 0 n 1])::σ) (fun s=>s≤l.length) (fun s=>l.length-s) 0 ⟨bA _,⟨rfl,rfl,rfl,rfl,rfl,trivial⟩,rfl⟩ ?_
 intro s t nt
 have hs:s≤l.length:=nt
 clear nt
 have hA:aR (gV a (l.take s)):=LC ha _
 have hlen:(gV a (l.take s)).length=n:=(Fk a _).trans hn
 refine an (fun ab=>?_) (fun ar=>?_)
 ·have ab:s<l.length:=by have ab:(s:Int)<l.length:=ab;omega
  have hd:=R9 a (l.take s) l[s]
  rw[← fp ab]at hd
  have nz:=fk.1 hl l[s] (bX ab)
  obtain⟨c,hc⟩:∃c:da,l[s]=c:=⟨_,rfl⟩
  rw[hc]at hd nz
  have hv:=BW nz
  have ho:=Gb nz
  refine ag.mk rfl (bG.mk c (by omega) ((get_some ab).trans (congrArg some hc)) ?_)
  clear hc nz
  generalize gV a (l.take s)=A at hA hlen hd
  intro dH
  refine ak 0 ?_
  refine aa 0 ?_
  refine an (p:=c.2.1 = -1) (fun d5=>?_) (fun d5=>?_)
  ·refine aa 2 ?_
   refine aa 0 ?_
   refine ag.mk ⟨rfl,by omega,by omega⟩ ?_
   have rq:nZ A c=1:=ai d5
   refine cX 1 rfl (Ag (i:=c.1.toNat) (by omega) _ (by omega)) ?_
   refine a8 (s+1) (by show l.length-(s+1)<l.length-s;omega) ab ⟨rfl,rfl,rfl,rfl,aX (by omega),trivial⟩ (.drop 0 1 (aJ ?_))
   rw[hd,qT,rq]
   rfl
  ·have ho2:=ho.2 d5
   have rq:nZ A c=jJ c.2.1 (jE A c.2.2.1) (jE A c.2.2.2.1):=ah d5
   refine .sched [8,12,13] (upto [8,12,13] 16 0) (by kernel_rfl) ?_
   refine aa 2 ?_
   refine aa 0 ?_
   refine aa 0 ?_
   refine aa 0 ?_
   refine aH [2,1] (VJ A n hlen c.2.2.1 q b _ ho2.1) ?_
   refine aa 0 ?_
   refine aH [2,1] (VJ A n hlen c.2.2.2.1 q b _ ho2.2) ?_
   refine aH [] (agt _ _ _ _ (Gg hA _) (Gg hA _)) ?_
   refine ag.mk ⟨rfl,by omega,by omega⟩ ?_
   refine cX 1 rfl (Ag (i:=c.1.toNat) (by omega) _ (by omega)) ?_
   refine a8 (s+1) (by show l.length-(s+1)<l.length-s;omega) ab ⟨rfl,rfl,rfl,rfl,aX (by omega),trivial⟩ (.drop 0 1 (aJ ?_))
   rw[hd,qT,rq]
   rfl
 ·have ar:s=l.length:=by have ar:¬(s:Int)<l.length:=ar;omega
  subst ar
  rw[fj]at hlen ⊢
  refine aa 1 ?_
  have ga:((aM (gV a l)).drop 0).take (n*1)=(gV a l).flatMap (Sh.cells (.int .u64)):=by
   rw[gR,← kH];exact eI (by rw[aM,cd];omega)
  exact .cI 0 b 0 n 1 _ (.int .u64) (gV a l) rfl ga ⟨hlen,rfl,by decide⟩ .here (.drop 0 1 (.done ⟨rfl,rfl⟩))
theorem Sj(a:List Int)(n:Nat)(hn:a.length=n)(r:oo)(b:Nat)(σ:Hp)(hr:pX n r=true):ACalls Tryz.prog 265 [.ae b 0 n 1,.agg (Di r)] ((b,aM a)::σ) (aE (.int .u64 (jE a r)) ((b,aM a)::σ)):=by
 refine ay Tryz.func265 ?_
 intro aD
 refine aa 0 ?_
 refine an (p:=r.1<0) (fun c2=>?_) (fun c2=>?_)
 ·have c3:r.1 = -1:=by
   by_cases h:r.1 = -1
   ·exact h
   ·have:=BQ hr h;omega
  have e:jE a r=kZ r.2.1.1 r.2.1.2.1:=ai c3
  refine aa 0 ?_
  refine az [] (CU _ _ _) ?_
  exact .drop 0 1 (.done ⟨aQ e.symm,rfl⟩)
 ·have c3:¬r.1 = -1:=by omega
  have hv:=BQ hr c3
  have e:jE a r=wd a r.1.toNat:=ah c3
  refine aa 0 ?_
  refine ag.mk ⟨rfl,hv.1,hv.2⟩ ?_
  refine aT 1 rfl (Hl (i:=r.1.toNat) (by omega) (by omega)) ?_
  exact .drop 0 1 (.done ⟨aQ e.symm,rfl⟩)
def fU(what:Int)(g k:List Int)(l:List da)(a:List Int):List Int:=
 if what=3 then (if (a.any fun z=>decide (0=z))=true then List.replicate a.length 0 else gV a l) else dr hG (dr fq a k) g
theorem Fo{what:Int}(h:¬what=3)(g k:List Int)(l:List da)(a:List Int):fU what g k l a=dr hG (dr fq a k) g:=ah h
theorem Fb{what:Int}(h:what=3){a:List Int}(h0:(a.any fun z=>decide (0=z))=true)(g k:List Int)(l:List da):fU what g k l a=List.replicate a.length 0:=by unfold fU;rw[ai h,ai h0]
theorem BZ{what:Int}(h:what=3){a:List Int}(h0:(a.any fun z=>decide (0=z))=false)(g k:List Int)(l:List da):fU what g k l a=gV a l:=by unfold fU;rw[ai h,h0];rfl
theorem ad3(what:Int)(g k:List Int)(l:List da)(a:List Int)(σ:Hp)(hg:aR g)(hk:aR k)(ha:aR a)(lg:g.length≤10000)(lk:k.length≤10000)(la:a.length≤10000)(ll:l.length≤1000000)(hl:what=3→l.all (gl a.length)=true):ACalls Tryz.prog 227 [.int .i64 what,.agg (AM g k l),.af (.int .u64) a] σ (aE (.af (.int .u64) (fU what g k l a)) σ):=by
 refine ay Tryz.func227 ?_
 intro q
 refine dB (fun c=>?_) (fun c=>?_)
 ·have c:¬(what=3):=by simpa using c
  rw[Fo c]
  have hm:(dr fq a k).length≤10000:=by rw[pI];omega
  refine .quiet (by kernel_rfl) ?_
  refine aa 0 ?_
  refine aH [] (adi a k _ ha hk la lk) ?_
  refine aa 0 ?_
  refine aH [] (adj (dr fq a k) g _ (zM a k) hg hm lg) ?_
  exact .drop 0 1 (.done ⟨rfl,rfl⟩)
 ·have c:what=3:=by simpa using c
  have hl:=hl c
  intro aD
  refine AppendAt.more 0 aD 0 a.length [] _ rfl rfl (cH rfl) (.af (.int .u64) a rfl) (by omega) (by decide) (by decide) (fun b=>?_)
  have kC:List.take (0*1) []++a.flatMap (Sh.cells (.int .u64))=aM a:=by rw[kH];rfl
  rw[kC,eF]
  refine bV (S:=Nat) (fun s=>[(2,.af (.int .u64) a),(4,.ptr q 0),(7,.ae b 0 a.length 1),(25,.af (.int .u64) a),(26,.int .i64 a.length),(27,.int .i64 s)]) (fun _=>(b,aM a)::(q,AM g k l)::σ) (fun s=>s≤a.length∧((a.take s).any fun z=>decide (0=z))=false) (fun s=>a.length-s) 0 ⟨⟨bA _,rfl⟩,⟨rfl,rfl,rfl,rfl,rfl,rfl,trivial⟩,rfl⟩ ?_
  rintro s t ⟨nt,iw⟩
  have hs:s≤a.length:=nt
  have hz:((a.take s).any fun z=>decide (0=z))=false:=iw
  clear nt iw
  refine an (fun ab=>?_) (fun ar=>?_)
  ·have ab:s<a.length:=by have ab:(s:Int)<a.length:=ab;omega
   have gB:=qP ab fun z=>decide (0=z)
   rw[hz,oK]at gB
   refine ag.mk rfl (bG.mk a[s] (by omega) (get_some ab) ?_)
   refine an (p:=a[s]=0) (fun e=>?_) (fun e=>?_)
   ·have h0:(a.any fun z=>decide (0=z))=true:=mf.2 ⟨a[s],bX ab,aV e.symm⟩
    rw[Fb c h0]
    have la2:(a.length:Int)≤1048576:=by omega
    refine ag.mk ⟨EG _,ke _,la2,by decide⟩ ?_
    intro bz
    show Fin _ (.ae bz 0 a.length 1) ((bz,cE [.int .u64 0] a.length)::(b,aM a)::(q,AM g k l)::σ)
    rw[wD]
    generalize hZ:List.replicate a.length (0:Int)=Z
    have qs:Z.length=a.length:=by rw[← hZ,gb]
    refine .cI 0 bz 0 _ 1 _ (.int .u64) Z rfl ?_ ⟨qs,rfl,by decide⟩ .here (.drop 0 2 (.done ⟨rfl,rfl⟩))
    rw[gR,← kH]
    exact eI (by rw[aM,cd,qs];omega)
   ·exact a8 (s+1) (by show a.length-(s+1)<a.length-s;omega) ⟨ab,gB.trans (bR fun h=>e h.symm)⟩ ⟨rfl,rfl,rfl,rfl,rfl,aX (by omega),trivial⟩ (.refl _)
  ·have ar:s=a.length:=by have ar:¬(s:Int)<a.length:=ar;omega
   subst ar
   rw[fj]at hz
   rw[BZ c hz]
   refine aa 1 ?_
   generalize hn:a.length=n at la hl
   refine bV (S:=Nat) (fun s=>[(7,.ae b 0 n 1),(38,.af jd l),(39,.int .i64 l.length),(40,.int .i64 s)]) (fun s=>(b,aM (gV a (l.take s)))::(q,AM g k l)::σ) (fun s=>s≤l.length) (fun s=>l.length-s) 0 ⟨bA _,⟨rfl,rfl,rfl,rfl,trivial⟩,rfl⟩ ?_
   intro s t nt
   have hs:s≤l.length:=nt
   clear nt
   have hA:aR (gV a (l.take s)):=LC ha _
   have hlen:(gV a (l.take s)).length=n:=(Fk a _).trans hn
   refine an (fun ab=>?_) (fun ar=>?_)
   ·have ab:s<l.length:=by have ab:(s:Int)<l.length:=ab;omega
    have hd:=R9 a (l.take s) l[s]
    rw[← fp ab]at hd
    have nz:=fk.1 hl l[s] (bX ab)
    obtain⟨c,hc⟩:∃c:da,l[s]=c:=⟨_,rfl⟩
    rw[hc]at hd nz
    have hv:=BW nz
    have ho:=Gb nz
    refine ag.mk rfl (bG.mk c (by omega) ((get_some ab).trans (congrArg some hc)) ?_)
    clear hc nz
    generalize gV a (l.take s)=A at hA hlen hd
    intro dH
    refine ak 0 ?_
    refine aa 0 ?_
    refine an (p:=0≤c.2.1) (fun d5=>?_) (fun d5=>?_)
    ·refine .quiet (by kernel_rfl) ?_
     refine aa 0 ?_
     refine aa 0 ?_
     refine aH [1] (Sj A n hlen c.2.2.1 b _ (ho.2 (by omega)).1) ?_
     refine aa 0 ?_
     refine aH [1] (Sj A n hlen c.2.2.2.1 b _ (ho.2 (by omega)).2) ?_
     refine aH [] (aej _ _ _ _ (Gg hA _) (Gg hA _)) ?_
     refine aa 0 ?_
     refine ag.mk ⟨rfl,by omega,by omega⟩ ?_
     have rq:nZ A c=jJ c.2.1 (jE A c.2.2.1) (jE A c.2.2.2.1):=ah (by omega)
     refine cX 1 rfl (Ag (i:=c.1.toNat) (by omega) _ (by omega)) ?_
     refine a8 (s+1) (by show l.length-(s+1)<l.length-s;omega) ab ⟨rfl,rfl,rfl,aX (by omega),trivial⟩ (.drop 0 1 (aJ ?_))
     rw[hd,qT,rq]
     rfl
    ·refine aa 0 ?_
     refine ag.mk ⟨rfl,by omega,by omega⟩ ?_
     have rq:nZ A c=1:=ai (by omega)
     refine cX 1 rfl (Ag (i:=c.1.toNat) (by omega) _ (by omega)) ?_
     refine a8 (s+1) (by show l.length-(s+1)<l.length-s;omega) ab ⟨rfl,rfl,rfl,aX (by omega),trivial⟩ (.drop 0 1 (aJ ?_))
     rw[hd,qT,rq]
     rfl
   ·have ar:s=l.length:=by have ar:¬(s:Int)<l.length:=ar;omega
    subst ar
    rw[fj]at hlen ⊢
    have ga:((aM (gV a l)).drop 0).take (n*1)=(gV a l).flatMap (Sh.cells (.int .u64)):=by
     rw[gR,← kH];exact eI (by rw[aM,cd];omega)
    exact .cI 0 b 0 n 1 _ (.int .u64) (gV a l) rfl ga ⟨hlen,rfl,by decide⟩ .here (.drop 0 1 (.done ⟨rfl,rfl⟩))
def uT(what w:Int)(g k:List Int)(l:List da)(a:List Int):Int:=if ft what w g k l=0 then (if cC what w a=true then 0 else 2) else ft what w g k l
theorem aaI{what w:Int}{g k:List Int}{l:List da}{a:List Int}(h:¬ft what w g k l=0):uT what w g k l a=ft what w g k l:=ah h
theorem Lf{what w:Int}{g k:List Int}{l:List da}{a:List Int}(h:ft what w g k l=0)(hv:cC what w a=true):uT what w g k l a=0:=by unfold uT;rw[ai h,ai hv]
theorem aaH{what w:Int}{g k:List Int}{l:List da}{a:List Int}(h:ft what w g k l=0)(hv:cC what w a=false):uT what w g k l a=2:=by unfold uT;rw[ai h,hv];rfl
theorem KF{what w:Int}{g k:List Int}{l:List da}(h:ft what w g k l=0):cD what w=true∧yB what w g k l=true:=by
 unfold ft at h
 cases hi:cD what w with
 |false=>rw[hi]at h;exact absurd h (by simp)
 |true=>
  rw[hi,ai rfl]at h
  cases ht:yB what w g k l with
  |false=>rw[ht]at h;exact absurd h (by simp)
  |true=>exact⟨rfl,rfl⟩
theorem Qj{what w:Int}{a:List Int}(h:cC what w a=true)(h3:what=3):(a.length:Int)=w:=by
 have hl:=wx h
 have hi:cD what w=true:=by unfold cC at h;simp at h;exact h.1.1
 rw[hl];unfold dS;rw[ai hi,ai h3]
theorem aaR{what w:Int}{a:List Int}(h:cC what w a=true)(h3:what=3):fX what w=List.replicate a.length 0:=by
 unfold fX
 rw[ah (fun h=>by omega),← wx h,bM]
theorem acU(what w:Int)(g k:List Int)(l:List da)(a:List Int)(σ:Hp)(hg:aR g)(hk:aR k)(ha:aR a)(lg:g.length≤10000)(lk:k.length≤10000)(la:a.length≤10000)(ll:l.length≤1000000):ACalls Tryz.prog 276 [.int .i64 what,.int .i64 w,.agg (AM g k l),.af (.int .u64) a] σ (aE (.tup [.af (.int .u64) (sh (uT what w g k l a) (fU what g k l a)),.int .i64 (uT what w g k l a)]) σ):=by
 refine ay Tryz.func276 ?_
 have hm:(dr fq a k).length≤10000:=by rw[pI];omega
 intro aD
 refine aa 0 ?_
 refine az [] (Ll what w g k l _ hg hk lg lk ll) ?_
 refine dB (fun c2=>?_) (fun c2=>?_)
 ·have c2:¬(ft what w g k l=0):=by simpa using c2
  rw[aaI c2,Gt c2]
  exact .nil (cJ (.nil _) (.refl _)) (.drop 0 1 (.done ⟨rfl,rfl⟩))
 ·have c2:ft what w g k l=0:=by simpa using c2
  refine eb [] (H6 what w a _ ha (by omega)) (fun cV=>?_) (fun cV=>?_)
  ·refine dB (fun c3=>?_) (fun c3=>?_)
   ·have c3:¬(what=3):=by simpa using c3
    refine .quiet (by kernel_rfl) ?_
    refine aa 0 ?_
    refine aH [] (Um a k _ (by omega) (by omega)) ?_
    refine aa 0 ?_
    refine aH [] (ae8 (dr fq a k) g _ (by omega) (by omega)) ?_
    rw[Lf c2 cV,Cq rfl,Fo c3]
    exact .drop 0 1 (.done ⟨rfl,rfl⟩)
   ·have c3:what=3:=by simpa using c3
    refine eb [] (X6 a 0 _ (by omega)) (fun cZ=>?_) (fun cZ=>?_)
    ·refine az [] (KK what w _) ?_
     rw[Lf c2 cV,Cq rfl,Fb c3 cZ,← aaR cV c3]
     exact .drop 0 1 (.done ⟨rfl,rfl⟩)
    ·refine aa 0 ?_
     have NL:l.all (gl a.length)=true:=by
      have ht:=(KF c2).2
      rw[DR c3,bL]at ht
      rw[Qj cV c3];exact ht.2
     rw[Lf c2 cV,Cq rfl,BZ c3 cZ]
     refine az [] (agk a l _ ha la ll NL) ?_
     exact .drop 0 1 (.done ⟨rfl,rfl⟩)
  ·rw[aaH c2 cV,Gt (by decide)]
   exact .nil (cJ (.nil _) (.refl _)) (.drop 0 1 (.done ⟨rfl,rfl⟩))
end Go.Proofs.YtnikdflhefijbaaGreat
