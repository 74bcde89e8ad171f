import Derived.Test.YtnikdflhefijbaaGreatBn7
namespace Go.Proofs.YtnikdflhefijbaaGreat
open Go.RowKit
set_option maxRecDepth 100000
def jU(a:List Int)(r:oY):Int:=if r.1 = -1 then lE r.2.1.1 r.2.1.2.1 else wd a r.1.toNat
def oO(a:List Int)(c:dg):Int:=if c.2.1 = -1 then 1 else jY c.2.1 (jU a c.2.2.1) (jU a c.2.2.2.1)
def rN(a:List Int)(c:dg):List Int:=a.set c.1.toNat (oO a c)
def ir(a:List Int)(l:List dg):List Int:=l.foldl rN a
theorem AA(a:List Int)(c:dg):(rN a c).length=a.length:=cR ..
theorem GL(a:List Int)(l:List dg):(ir a l).length=a.length:=by
 unfold ir
 induction l generalizing a with
 |nil=>rfl
 |cons c l ih=>exact (ih _).trans (AA a c)
theorem TH(a:List Int)(l:List dg)(c:dg):ir a (l++[c])=rN (ir a l) c:=by
 unfold ir;rw[uJ];rfl
theorem Vu(x y:Int):bG (lE x y):=by
 have h1:=De x y
 have h2:=Hc x y
 unfold bG lE;omega
theorem Hx{a:List Int}(ha:aR a)(r:oY):bG (jU a r):=by
 unfold jU;split
 ·exact Vu _ _
 ·exact lp ha _
theorem ae6(op a b:Int):bG (fY op a b):=by
 unfold fY mS
 split
 ·exact⟨by omega,by omega⟩
 ·split
  ·exact⟨by omega,by omega⟩
  ·split
   ·exact Vu _ _
   ·exact⟨by omega,by omega⟩
theorem afW(op a b:Int):bG (jY op a b):=by unfold jY;split <;> exact ae6 _ _ _
theorem aek(a:List Int)(c:dg):bG (oO a c):=by
 unfold oO;split
 ·exact⟨by omega,by omega⟩
 ·exact afW _ _ _
theorem afF{a:List Int}(ha:aR a){i:Nat}{z:Int}(hz:bG z):aR (a.set i z):=fun x hx=>by
 rcases qh hx with h | rfl
 ·exact ha x h
 ·exact hz
theorem M1{a:List Int}(ha:aR a)(l:List dg):aR (ir a l):=by
 unfold ir
 induction l generalizing a with
 |nil=>exact ha
 |cons c l ih=>exact ih (afF ha (aek a c))
theorem C9{w:Int}{c:dg}(h:gF w c=true):0≤c.1∧c.1<w:=by
 unfold gF at h
 by_cases h1:c.1<0
 ·rw[ah h1]at h;exact absurd h (by decide)
 ·by_cases h2:w≤c.1
  ·rw[ag h1,ah h2]at h;exact absurd h (by decide)
  ·omega
theorem Hr{w:Int}{c:dg}(h:gF w c=true): -1≤c.2.1∧(¬c.2.1 = -1→qA w c.2.2.1=true∧qA w c.2.2.2.1=true):=by
 have hv:=C9 h
 unfold gF at h
 rw[ag (by omega),ag (by omega)]at h
 by_cases h1:c.2.1 < -1
 ·rw[ah h1]at h;exact absurd h (by decide)
 ·rw[ag h1]at h
  by_cases h2:4<c.2.1
  ·rw[ah h2]at h;exact absurd h (by decide)
  ·rw[ag h2]at h
   refine⟨by omega,fun h3=>?_⟩
   rw[ag h3]at h
   exact Bool.and_eq_true_iff.1 h
theorem C2{w:Int}{r:oY}(h:qA w r=true)(h1:¬r.1 = -1):0≤r.1∧r.1<w:=by
 unfold qA at h
 rw[ag h1]at h
 simp at h
 exact h.1
theorem aiW(a:List Int)(r:oY)(q b:Nat)(σ:Hp)(hr:qA a.length r=true):ACalls Tryz.prog 330 [.agg (Ez r),.ptr q 0] ((q,[.af b 0 a.length 1])::(b,aP a)::σ) (ay (.int .u64 (jU a r)) ((q,[.af b 0 a.length 1])::(b,aP a)::σ)):=by
 refine ar Tryz.func330 ?_
 intro aB
 refine aa 0 ?_
 refine ak (fun c2=>?_) (fun c2=>?_)
 ·have c2:r.fst = -1:=c2
  refine aa 0 ?_
  refine aw [] (IH _ _ _) ?_
  have e:jU a r=lE r.2.1.1 r.2.1.2.1:=ah c2
  exact .drop 0 1 (.done ⟨aQ e.symm,rfl⟩)
 ·have c2:¬(r.fst = -1):=c2
  refine aa 1 ?_
  refine aa 0 ?_
  have hv:=C2 hr c2
  have e:jU a r=wd a r.1.toNat:=ag c2
  refine aG.mk ⟨rfl,hv.1,hv.2⟩ ?_
  refine bf 2 rfl (IG (i:=r.1.toNat) (by omega) (by omega)) ?_
  exact .drop 0 1 (.done ⟨aQ e.symm,rfl⟩)
theorem Xs(a:List Int)(n:Nat)(hn:a.length=n)(r:oY)(q b:Nat)(σ:Hp)(hr:qA n r=true):ACalls Tryz.prog 330 [.agg (Ez r),.ptr q 0] ((q,[.af b 0 n 1])::(b,aP a)::σ) (ay (.int .u64 (jU a r)) ((q,[.af b 0 n 1])::(b,aP a)::σ)):=by
 subst hn
 exact aiW a r q b σ hr
theorem Va(l:List Int)(σ:Hp)(hl:l.length≤1000000):ACalls Tryz.prog 256 [.ae (.int .u64) l] σ (fun x σ'=>∃acc,Acc 1 l.length x acc (aP l)∧σ'=acc++σ):=by
 refine CV (fun h=>⟨?_,?_⟩) (fun h=>?_)
 ·subst h
  refine ar Tryz.func256 ?_
  exact .done ⟨[],.nil,rfl⟩
 ·subst h
  refine ar Tryz.func256 ?_
  intro b
  refine AppendAt.more 0 b 0 0 [] _ rfl rfl (cI rfl) .gQ (by decide) (by decide) (by decide) (fun b'=>?_)
  exact .done ⟨[(b',[])],.af b' 0 [] rfl,rfl⟩
 ·refine ar Tryz.func256 ?_
  refine aG.mk (mG.2 h) ?_
  intro b
  refine AppendAt.more 0 b 0 l.length [] _ rfl rfl (cI rfl) (.ae (.int .u64) l rfl) (by omega) (by decide) (by decide) (fun b'=>?_)
  refine .done ⟨[(b',aP l)],?_,?_⟩
  ·rw[Nat.zero_add];exact .af b' l.length _ (by simp[aP])
  ·show (b',[]++l.flatMap (Sh.cells (.int .u64)))::σ=_
   rw[kC];rfl
theorem aiM(a:List Int)(l:List dg)(σ:Hp)(ha:aR a)(la:a.length≤10000)(ll:l.length≤1000000)(hl:l.all (gF a.length)=true):ACalls Tryz.prog 302 [.ae (.int .u64) a,.ae jD l] σ (ay (.ae (.int .u64) (ir a l)) σ):=by
 refine ar Tryz.func302 ?_
 intro q
 refine aa 0 ?_
 refine .mk [] _ (Va a _ (by omega)) ?_
 rintro v σ' ⟨acc,bY,rfl⟩
 generalize hn:a.length=n at bY la hl
 generalize jB:aP a=cs at bY
 cases bY with
 |nil=>
  have h0:a=[]:=iE.1 hn
  subst h0
  cases l with
  |cons c l=>
   have:=C9 (fK.1 hl c (cj ..))
   exact absurd this (by omega)
  |nil=>
   refine aj 0 ?_
   refine bQ (S:=Unit) (fun _=>[(2,.ptr q 0),(12,.int .i64 0),(13,.int .i64 0)]) (fun _=>(q,[.ai])::σ) (fun _=>True) (fun _=>0) () ⟨trivial,⟨rfl,rfl,rfl,trivial⟩,rfl⟩ ?_
   rintro _ _ _
   refine aa 0 ?_
   exact .drop 0 1 (.nil (.nil _) (.done ⟨rfl,rfl⟩))
 |af b n cs h=>
 subst jB
 refine aj 1 ?_
 refine bQ (S:=Nat) (fun s=>[(2,.ptr q 0),(5,.fn (.func 330) [] [.ptr q 0]),(11,.ae jD l),(12,.int .i64 l.length),(13,.int .i64 s)]) (fun s=>(b,aP (ir a (l.take s)))::(q,[.af b 0 n 1])::σ) (fun s=>s≤l.length) (fun s=>l.length-s) 0 ⟨bA _,⟨rfl,rfl,rfl,rfl,rfl,trivial⟩,rfl⟩ ?_
 intro s t nV
 have hs:s≤l.length:=nV
 clear nV
 have hA:aR (ir a (l.take s)):=M1 ha _
 have hlen:(ir a (l.take s)).length=n:=(GL a _).trans hn
 refine ak (fun ab=>?_) (fun aq=>?_)
 ·have ab:s<l.length:=by have ab:(s:Int)<l.length:=ab;omega
  have hd:=TH a (l.take s) l[s]
  rw[← ff ab]at hd
  have l7:=fK.1 hl l[s] (bP ab)
  obtain⟨c,hc⟩:∃c:dg,l[s]=c:=⟨_,rfl⟩
  rw[hc]at hd l7
  have hv:=C9 l7
  have ho:=Hr l7
  refine aG.mk rfl (bE.mk c (by omega) ((get_some ab).trans (congrArg some hc)) ?_)
  clear hc l7
  generalize ir a (l.take s)=A at hA hlen hd
  intro dc
  refine aj 0 ?_
  refine aa 0 ?_
  refine ak (p:=c.2.1 = -1) (fun d5=>?_) (fun d5=>?_)
  ·refine aa 2 ?_
   refine aa 0 ?_
   refine aM ?_
   have sb:oO A c=1:=ah d5
   refine cT 1 rfl (Bo (i:=c.1.toNat) (by omega) _ (by omega)) ?_
   refine aY (s+1) (by show l.length-(s+1)<l.length-s;omega) ab ⟨rfl,rfl,rfl,rfl,aS (by omega),trivial⟩ (.drop 0 1 (aL ?_))
   rw[hd,rN,sb]
   rfl
  ·have ho2:=ho.2 d5
   have sb:oO A c=jY c.2.1 (jU A c.2.2.1) (jU A c.2.2.2.1):=ag d5
   refine .sched [8,12,13] (upto [8,12,13] 16 0) (by kernel_rfl) ?_
   refine aa 2 ?_
   refine aa 0 ?_
   refine aa 0 ?_
   refine aa 0 ?_
   refine aI [2,1] (Xs A n hlen c.2.2.1 q b _ ho2.1) ?_
   refine aa 0 ?_
   refine aI [2,1] (Xs A n hlen c.2.2.2.1 q b _ ho2.2) ?_
   refine aI [] (aiX _ _ _ _ (Hx hA _) (Hx hA _)) ?_
   refine aM ?_
   refine cT 1 rfl (Bo (i:=c.1.toNat) (by omega) _ (by omega)) ?_
   refine aY (s+1) (by show l.length-(s+1)<l.length-s;omega) ab ⟨rfl,rfl,rfl,rfl,aS (by omega),trivial⟩ (.drop 0 1 (aL ?_))
   rw[hd,rN,sb]
   rfl
 ·have aq:s=l.length:=by have aq:¬(s:Int)<l.length:=aq;omega
  subst aq
  rw[fA]at hlen ⊢
  refine aa 1 ?_
  have gx:((aP (ir a l)).drop 0).take (n*1)=(ir a l).flatMap (Sh.cells (.int .u64)):=by
   rw[gz,← kC];exact ek (by rw[aP,cg];omega)
  exact .cJ 0 b 0 n 1 _ (.int .u64) (ir a l) rfl gx ⟨hlen,rfl,by decide⟩ .here (.drop 0 1 (.done ⟨rfl,rfl⟩))
theorem TV(a:List Int)(n:Nat)(hn:a.length=n)(r:oY)(b:Nat)(σ:Hp)(hr:qA n r=true):ACalls Tryz.prog 265 [.af b 0 n 1,.agg (Ez r)] ((b,aP a)::σ) (ay (.int .u64 (jU a r)) ((b,aP a)::σ)):=by
 refine ar Tryz.func265 ?_
 intro aB
 refine aa 0 ?_
 refine ak (p:=r.1<0) (fun c2=>?_) (fun c2=>?_)
 ·have c3:r.1 = -1:=by
   by_cases h:r.1 = -1
   ·exact h
   ·have:=C2 hr h;omega
  have e:jU a r=lE r.2.1.1 r.2.1.2.1:=ah c3
  refine aa 0 ?_
  refine aw [] (D7 _ _ _) ?_
  exact .drop 0 1 (.done ⟨aQ e.symm,rfl⟩)
 ·have c3:¬r.1 = -1:=by omega
  have hv:=C2 hr c3
  have e:jU a r=wd a r.1.toNat:=ag c3
  refine aa 0 ?_
  refine aG.mk ⟨rfl,hv.1,hv.2⟩ ?_
  refine bf 1 rfl (IG (i:=r.1.toNat) (by omega) (by omega)) ?_
  exact .drop 0 1 (.done ⟨aQ e.symm,rfl⟩)
def fW(what:Int)(g k:List Int)(l:List dg)(a:List Int):List Int:=
 if what=3 then (if (a.any fun z=>decide (0=z))=true then List.replicate a.length 0 else ir a l) else dD iA (dD fL a k) g
theorem GO{what:Int}(h:¬what=3)(g k:List Int)(l:List dg)(a:List Int):fW what g k l a=dD iA (dD fL a k) g:=ag h
theorem GB{what:Int}(h:what=3){a:List Int}(h0:(a.any fun z=>decide (0=z))=true)(g k:List Int)(l:List dg):fW what g k l a=List.replicate a.length 0:=by unfold fW;rw[ah h,ah h0]
theorem Dc{what:Int}(h:what=3){a:List Int}(h0:(a.any fun z=>decide (0=z))=false)(g k:List Int)(l:List dg):fW what g k l a=ir a l:=by unfold fW;rw[ah h,h0];rfl
theorem afe(what:Int)(g k:List Int)(l:List dg)(a:List Int)(σ:Hp)(hg:aR g)(hk:aR k)(ha:aR a)(lg:g.length≤10000)(lk:k.length≤10000)(la:a.length≤10000)(ll:l.length≤1000000)(hl:what=3→l.all (gF a.length)=true):ACalls Tryz.prog 227 [.int .i64 what,.agg (zW g k l),.ae (.int .u64) a] σ (ay (.ae (.int .u64) (fW what g k l a)) σ):=by
 refine ar Tryz.func227 ?_
 intro q
 refine cX (fun c=>?_) (fun c=>?_)
 ·have c:¬(what=3):=by simpa using c
  rw[GO c]
  have hm:(dD fL a k).length≤10000:=by rw[ql];omega
  refine .quiet (by kernel_rfl) ?_
  refine aa 0 ?_
  refine aI [] (afx a k _ ha hk la lk) ?_
  refine aa 0 ?_
  refine aI [] (afy (dD fL a k) g _ (AX a k) hg hm lg) ?_
  exact .drop 0 1 (.done ⟨rfl,rfl⟩)
 ·have c:what=3:=by simpa using c
  have hl:=hl c
  intro aB
  refine AppendAt.more 0 aB 0 a.length [] _ rfl rfl (cI rfl) (.ae (.int .u64) a rfl) (by omega) (by decide) (by decide) (fun b=>?_)
  have jB:List.take (0*1) []++a.flatMap (Sh.cells (.int .u64))=aP a:=by rw[kC];rfl
  rw[jB,dR]
  refine bQ (S:=Nat) (fun s=>[(2,.ae (.int .u64) a),(4,.ptr q 0),(7,.af b 0 a.length 1),(25,.ae (.int .u64) a),(26,.int .i64 a.length),(27,.int .i64 s)]) (fun _=>(b,aP a)::(q,zW g k l)::σ) (fun s=>s≤a.length∧((a.take s).any fun z=>decide (0=z))=false) (fun s=>a.length-s) 0 ⟨⟨bA _,rfl⟩,⟨rfl,rfl,rfl,rfl,rfl,rfl,trivial⟩,rfl⟩ ?_
  rintro s t ⟨nV,gU⟩
  have hs:s≤a.length:=nV
  have hz:((a.take s).any fun z=>decide (0=z))=false:=gU
  clear nV gU
  refine ak (fun ab=>?_) (fun aq=>?_)
  ·have ab:s<a.length:=by have ab:(s:Int)<a.length:=ab;omega
   have gV:=rF ab fun z=>decide (0=z)
   rw[hz,po]at gV
   refine aG.mk rfl (bE.mk a[s] (by omega) (get_some ab) ?_)
   refine ak (p:=a[s]=0) (fun e=>?_) (fun e=>?_)
   ·have h0:(a.any fun z=>decide (0=z))=true:=mF.2 ⟨a[s],bP ab,aT e.symm⟩
    rw[GB c h0]
    have la2:(a.length:Int)≤1048576:=by omega
    refine aG.mk ⟨Kv _,jL _,la2,by decide⟩ ?_
    intro bz
    show Fin _ (.af bz 0 a.length 1) ((bz,cD [.int .u64 0] a.length)::(b,aP a)::(q,zW g k l)::σ)
    rw[xv]
    generalize hZ:List.replicate a.length (0:Int)=Z
    have pc:Z.length=a.length:=by rw[← hZ,gl]
    refine .cJ 0 bz 0 _ 1 _ (.int .u64) Z rfl ?_ ⟨pc,rfl,by decide⟩ .here (.drop 0 2 (.done ⟨rfl,rfl⟩))
    rw[gz,← kC]
    exact ek (by rw[aP,cg,pc];omega)
   ·exact aY (s+1) (by show a.length-(s+1)<a.length-s;omega) ⟨ab,gV.trans (bS fun h=>e h.symm)⟩ ⟨rfl,rfl,rfl,rfl,rfl,aS (by omega),trivial⟩ (.refl _)
  ·have aq:s=a.length:=by have aq:¬(s:Int)<a.length:=aq;omega
   subst aq
   rw[fA]at hz
   rw[Dc c hz]
   refine aa 1 ?_
   generalize hn:a.length=n at la hl
   refine bQ (S:=Nat) (fun s=>[(7,.af b 0 n 1),(38,.ae jD l),(39,.int .i64 l.length),(40,.int .i64 s)]) (fun s=>(b,aP (ir a (l.take s)))::(q,zW g k l)::σ) (fun s=>s≤l.length) (fun s=>l.length-s) 0 ⟨bA _,⟨rfl,rfl,rfl,rfl,trivial⟩,rfl⟩ ?_
   intro s t nV
   have hs:s≤l.length:=nV
   clear nV
   have hA:aR (ir a (l.take s)):=M1 ha _
   have hlen:(ir a (l.take s)).length=n:=(GL a _).trans hn
   refine ak (fun ab=>?_) (fun aq=>?_)
   ·have ab:s<l.length:=by have ab:(s:Int)<l.length:=ab;omega
    have hd:=TH a (l.take s) l[s]
    rw[← ff ab]at hd
    have l7:=fK.1 hl l[s] (bP ab)
    obtain⟨c,hc⟩:∃c:dg,l[s]=c:=⟨_,rfl⟩
    rw[hc]at hd l7
    have hv:=C9 l7
    have ho:=Hr l7
    refine aG.mk rfl (bE.mk c (by omega) ((get_some ab).trans (congrArg some hc)) ?_)
    clear hc l7
    generalize ir a (l.take s)=A at hA hlen hd
    intro dc
    refine aj 0 ?_
    refine aa 0 ?_
    refine ak (p:=0≤c.2.1) (fun d5=>?_) (fun d5=>?_)
    ·refine .quiet (by kernel_rfl) ?_
     refine aa 0 ?_
     refine aa 0 ?_
     refine aI [1] (TV A n hlen c.2.2.1 b _ (ho.2 (by omega)).1) ?_
     refine aa 0 ?_
     refine aI [1] (TV A n hlen c.2.2.2.1 b _ (ho.2 (by omega)).2) ?_
     refine aI [] (agF _ _ _ _ (Hx hA _) (Hx hA _)) ?_
     refine aa 0 ?_
     refine aM ?_
     have sb:oO A c=jY c.2.1 (jU A c.2.2.1) (jU A c.2.2.2.1):=ag (by omega)
     refine cT 1 rfl (Bo (i:=c.1.toNat) (by omega) _ (by omega)) ?_
     refine aY (s+1) (by show l.length-(s+1)<l.length-s;omega) ab ⟨rfl,rfl,rfl,aS (by omega),trivial⟩ (.drop 0 1 (aL ?_))
     rw[hd,rN,sb]
     rfl
    ·refine aa 0 ?_
     refine aM ?_
     have sb:oO A c=1:=ah (by omega)
     refine cT 1 rfl (Bo (i:=c.1.toNat) (by omega) _ (by omega)) ?_
     refine aY (s+1) (by show l.length-(s+1)<l.length-s;omega) ab ⟨rfl,rfl,rfl,aS (by omega),trivial⟩ (.drop 0 1 (aL ?_))
     rw[hd,rN,sb]
     rfl
   ·have aq:s=l.length:=by have aq:¬(s:Int)<l.length:=aq;omega
    subst aq
    rw[fA]at hlen ⊢
    have gx:((aP (ir a l)).drop 0).take (n*1)=(ir a l).flatMap (Sh.cells (.int .u64)):=by
     rw[gz,← kC];exact ek (by rw[aP,cg];omega)
    exact .cJ 0 b 0 n 1 _ (.int .u64) (ir a l) rfl gx ⟨hlen,rfl,by decide⟩ .here (.drop 0 1 (.done ⟨rfl,rfl⟩))
def vQ(what w:Int)(g k:List Int)(l:List dg)(a:List Int):Int:=if fH what w g k l=0 then (if cM what w a=true then 0 else 2) else fH what w g k l
theorem acD{what w:Int}{g k:List Int}{l:List dg}{a:List Int}(h:¬fH what w g k l=0):vQ what w g k l a=fH what w g k l:=ag h
theorem HQ{what w:Int}{g k:List Int}{l:List dg}{a:List Int}(h:fH what w g k l=0)(hv:cM what w a=true):vQ what w g k l a=0:=by unfold vQ;rw[ah h,ah hv]
theorem acC{what w:Int}{g k:List Int}{l:List dg}{a:List Int}(h:fH what w g k l=0)(hv:cM what w a=false):vQ what w g k l a=2:=by unfold vQ;rw[ah h,hv];rfl
theorem L8{what w:Int}{g k:List Int}{l:List dg}(h:fH what w g k l=0):cP what w=true∧zD what w g k l=true:=by
 unfold fH at h
 cases hi:cP what w with
 |false=>rw[hi]at h;exact absurd h (by simp)
 |true=>
  rw[hi,ah rfl]at h
  cases ht:zD what w g k l with
  |false=>rw[ht]at h;exact absurd h (by simp)
  |true=>exact⟨rfl,rfl⟩
theorem RB{what w:Int}{a:List Int}(h:cM what w a=true)(h3:what=3):(a.length:Int)=w:=by
 have hl:=tG h
 have hi:cP what w=true:=by unfold cM at h;simp at h;exact h.1.1
 rw[hl];unfold eN;rw[ah hi,ah h3]
theorem acM{what w:Int}{a:List Int}(h:cM what w a=true)(h3:what=3):fw what w=List.replicate a.length 0:=by
 unfold fw
 rw[ag (fun h=>by omega),← tG h,bC]
theorem U1(what w:Int)(g k:List Int)(l:List dg)(a:List Int)(σ:Hp)(hg:aR g)(hk:aR k)(ha:aR a)(lg:g.length≤10000)(lk:k.length≤10000)(la:a.length≤10000)(ll:l.length≤1000000):ACalls Tryz.prog 276 [.int .i64 what,.int .i64 w,.agg (zW g k l),.ae (.int .u64) a] σ (ay (.tup [.ae (.int .u64) (r8 (vQ what w g k l a) (fW what g k l a)),.int .i64 (vQ what w g k l a)]) σ):=by
 refine ar Tryz.func276 ?_
 have hm:(dD fL a k).length≤10000:=by rw[ql];omega
 intro aB
 refine aa 0 ?_
 refine aw [] (MJ what w g k l _ hg hk lg lk ll) ?_
 refine cX (fun c2=>?_) (fun c2=>?_)
 ·have c2:¬(fH what w g k l=0):=by simpa using c2
  rw[acD c2,DF c2]
  exact .nil (cd (.nil _) (.refl _)) (.drop 0 1 (.done ⟨rfl,rfl⟩))
 ·have c2:fH what w g k l=0:=by simpa using c2
  refine dC [] (BR what w a _ ha (by omega)) (fun cV=>?_) (fun cV=>?_)
  ·refine cX (fun c3=>?_) (fun c3=>?_)
   ·have c3:¬(what=3):=by simpa using c3
    refine .quiet (by kernel_rfl) ?_
    refine aa 0 ?_
    refine aI [] (VV a k _ (by omega) (by omega)) ?_
    refine aa 0 ?_
    refine aI [] (agv (dD fL a k) g _ (by omega) (by omega)) ?_
    rw[HQ c2 cV,ve rfl,GO c3]
    exact .drop 0 1 (.done ⟨rfl,rfl⟩)
   ·have c3:what=3:=by simpa using c3
    refine dC [] (ZL a 0 _ (by omega)) (fun cZ=>?_) (fun cZ=>?_)
    ·refine aw [] (Ht what w _) ?_
     rw[HQ c2 cV,ve rfl,GB c3 cZ,← acM cV c3]
     exact .drop 0 1 (.done ⟨rfl,rfl⟩)
    ·refine aa 0 ?_
     have O6:l.all (gF a.length)=true:=by
      have ht:=(L8 c2).2
      rw[E6 c3,bO]at ht
      rw[RB cV c3];exact ht.2
     rw[HQ c2 cV,ve rfl,Dc c3 cZ]
     refine aw [] (aiM a l _ ha la ll O6) ?_
     exact .drop 0 1 (.done ⟨rfl,rfl⟩)
  ·rw[acC c2 cV,DF (by decide)]
   exact .nil (cd (.nil _) (.refl _)) (.drop 0 1 (.done ⟨rfl,rfl⟩))
theorem abb{x y:Int}(hx:bG x)(hy:bG y)(h:∀k,k<64→x.toNat.testBit k=y.toNat.testBit k):x=y:=by
 have e:x.toNat=y.toNat:=by
  refine Cy fun k=>?_
  rcases wQ k 64 with hk | hk
  ·exact h k hk
  ·rw[wT (sl (uc hx) (uM (by decide:0<2) hk)),wT (sl (uc hy) (uM (by decide:0<2) hk))]
 have h1:=y4 hx
 have h2:=y4 hy
 omega
def eg(a:List Int)(i k:Nat):Bool:=(wd a i).toNat.testBit k
theorem HC{a b:List Int}(ha:aR a)(hb:aR b)(hl:a.length=b.length)(h:∀i k,i<a.length→k<64→eg a i k=eg b i k):a=b:=
 zc hl fun i hi=>abb (lp ha i) (lp hb i) fun k hk=>h i k hi hk
theorem Hb(k:Nat):(0:Int).toNat.testBit k=false:=Nat.zero_testBit k
theorem Wg(a b:List Int):aR (dD iA a b):=DU fun _ _=>Vs _ _
theorem Vr{a b:List Int}(ha:aR a)(hb:aR b)(i k:Nat):eg (dD iA a b) i k=(eg a i k||eg b i k):=by
 unfold eg
 rcases wQ i (max a.length b.length) with h | h
 ·rw[yY _ _ _ h,Mu (lp ha i) (lp hb i)]
 ·rw[yZ (by rw[ql];exact h),yZ (a:=a) (by omega),yZ (a:=b) (by omega),Hb];rfl
theorem VL{a b:List Int}(ha:aR a)(hb:aR b)(i:Nat){k:Nat}(hk:k<64):eg (dD fL a b) i k=(eg a i k&&!eg b i k):=by
 unfold eg
 rcases wQ i (max a.length b.length) with h | h
 ·rw[yY _ _ _ h,HX (lp ha i) (lp hb i) hk]
 ·rw[yZ (by rw[ql];exact h),yZ (a:=a) (by omega),Hb];rfl
theorem ou{a:List Int}{w:Int}(h:gE a w=true):a.length=ef w:=by
 unfold gE at h;rw[bO]at h;exact fk h.1
theorem rD{a:List Int}{w:Int}(ha:aR a)(hl:a.length=ef w):gE a w=true↔∀i k,i<a.length→k<64→eE w≤64*i+k→eg a i k=false:=by
 rw[aav ha hl]
 unfold hasB eg
 constructor
 ·intro h i k hi hk hc
  have:=h (64*i+k) hc (by omega)
  rw[show (64*i+k) / 64=i by omega,show (64*i+k) % 64=k by omega]at this
  exact this
 ·intro h n h1 h2
  exact h (n / 64) (n % 64) (by omega) (by omega) (by omega)
theorem ae5{a b:List Int}{w:Int}(ha:aR a)(hb:aR b)(fa:gE a w=true)(fb:gE b w=true):gE (dD iA a b) w=true:=by
 have la:=ou fa
 have lb:=ou fb
 have hl:(dD iA a b).length=ef w:=by rw[ql];omega
 rw[rD (Wg _ _) hl]
 intro i k hi hk hc
 rw[Vr ha hb,(rD ha la).1 fa i k (by omega) hk hc,(rD hb lb).1 fb i k (by omega) hk hc];rfl
theorem aeR{a b:List Int}{w:Int}(ha:aR a)(hb:aR b)(fa:gE a w=true)(lb:b.length≤ef w):gE (dD fL a b) w=true:=by
 have la:=ou fa
 have hl:(dD fL a b).length=ef w:=by rw[ql];omega
 rw[rD (AX _ _) hl]
 intro i k hi hk hc
 rw[VL ha hb i hk,(rD ha la).1 fa i k (by omega) hk hc];rfl
def NZ(a:List Int):Prop:=∀z∈a,aJ z=z∧z≠0
theorem H3{a:List Int}{i:Nat}(h:i<a.length):wd a i∈a:=by rw[kZ a h];exact bP h
theorem Tb(x y:Int):aJ (lE x y)=lE x y∧lE x y≠0:=⟨norm_num (afY x y),by have:=afZ x y;omega⟩
theorem Hw{a:List Int}(h:NZ a){r:oY}(hr:qA a.length r=true):aJ (jU a r)=jU a r∧jU a r≠0:=by
 unfold jU
 split
 ·exact Tb _ _
 ·rename_i h1
  have hv:=C2 hr h1
  exact h _ (H3 (by omega))
theorem Te:aJ 1=1:=rfl
theorem adR(op a b:Int):aJ (mS op a b)=mS op a b∧mS op a b≠0:=by
 unfold mS
 split
 ·exact Tb _ _
 ·exact⟨rfl,by decide⟩
theorem Ux(op:Int){a b:Int}(ha:aJ a≠0)(hb:aJ b≠0):aJ (fY op a b)=fY op a b∧fY op a b≠0:=by
 unfold fY
 rw[ag (by omega)]
 split
 ·exact⟨rfl,by decide⟩
 ·exact adR _ _ _
theorem afV(op:Int){a b:Int}(ha:aJ a≠0)(hb:aJ b≠0):aJ (jY op a b)=jY op a b∧jY op a b≠0:=by
 unfold jY
 split
 ·exact Ux _ ha (by rw[Dj];decide)
 ·exact Ux _ ha hb
theorem aej{a:List Int}(h:NZ a){c:dg}(hc:gF a.length c=true):aJ (oO a c)=oO a c∧oO a c≠0:=by
 unfold oO
 split
 ·exact⟨rfl,by decide⟩
 ·rename_i h1
  have ho:=(Hr hc).2 h1
  have h1:=Hw h ho.1
  have h2:=Hw h ho.2
  exact afV _ (by rw[h1.1];exact h1.2) (by rw[h2.1];exact h2.2)
theorem SK{a:List Int}(h:NZ a){c:dg}(hc:gF a.length c=true):NZ (rN a c):=fun z hz=>by
 rcases qh hz with h' | rfl
 ·exact h z h'
 ·exact aej h hc
theorem L6(a:List Int)(c:dg)(l:List dg):ir a (c::l)=ir (rN a c) l:=rfl
theorem all_cons{α:Type}{p:α→Bool}{c:α}{l:List α}(h:(c::l).all p=true):p c=true∧l.all p=true:=by
 rw[List.all_cons,bO]at h;exact h
theorem VH:∀{l:List dg} {a:List Int},NZ a→l.all (gF a.length)=true→NZ (ir a l)
 | [],_,h,_=>h
 |c::l,a,h,hl=>by
  have hl:=all_cons hl
  rw[L6]
  exact VH (SK h hl.1) (by rw[AA];exact hl.2)
def zV(a b:List Int):Prop:=a.length=b.length∧∀i,i<a.length→wd a i=wd b i∨wd b i=1
theorem Ug{a b:List Int}(h:zV a b){r:oY}(hr:qA a.length r=true):jU a r=jU b r∨jU b r=1:=by
 unfold jU
 by_cases h1:r.1 = -1
 ·rw[ah h1,ah h1];exact .inl rfl
 ·have hv:=C2 hr h1
  rw[ag h1,ag h1]
  exact h.2 _ (by omega)
theorem Uw(op:Int){a b a' b':Int}(J4:aJ a'≠0)(yl:aJ b'≠0)(h1:a=a'∨a'=1)(h2:b=b'∨b'=1):fY op a b=fY op a' b'∨fY op a' b'=1:=by
 by_cases c:aJ a'=1∨aJ b'=1
 ·exact .inr (by unfold fY;rw[ag (by omega),ah c])
 ·rcases h1 with rfl | rfl
  ·rcases h2 with rfl | rfl
   ·exact .inl rfl
   ·exact absurd (Or.inr Te) c
  ·exact absurd (Or.inl Te) c
theorem afU(op:Int){a b a' b':Int}(J4:aJ a'≠0)(yl:aJ b'≠0)(h1:a=a'∨a'=1)(h2:b=b'∨b'=1):jY op a b=jY op a' b'∨jY op a' b'=1:=by
 unfold jY
 split
 ·exact Uw op J4 (by rw[Dj];decide) h1 (.inl rfl)
 ·exact Uw op J4 yl h1 h2
theorem aei{a b:List Int}(hb:NZ b)(h:zV a b){c:dg}(hc:gF a.length c=true):oO a c=oO b c∨oO b c=1:=by
 unfold oO
 by_cases h1:c.2.1 = -1
 ·rw[ah h1,ah h1];exact .inl rfl
 ·have ho:=(Hr hc).2 h1
  rw[ag h1,ag h1]
  have hl:(a.length:Int)=b.length:=by rw[h.1]
  have n1:=Hw hb (hl▸ho.1)
  have n2:=Hw hb (hl▸ho.2)
  exact afU _ (by rw[n1.1];exact n1.2) (by rw[n2.1];exact n2.2) (Ug h ho.1) (Ug h ho.2)
theorem Vc{a:List Int}{i j:Nat}(h:i<a.length)(z:Int):wd (a.set i z) j=if i=j then z else wd a j:=by
 unfold wd
 split
 ·rename_i e;subst e;rw[List.getElem?_set_self h];rfl
 ·rename_i e;rw[List.getElem?_set_ne e]
theorem abm{a b:List Int}(hb:NZ b)(h:zV a b){c:dg}(hc:gF a.length c=true):zV (rN a c) (rN b c):=by
 have hv:=C9 hc
 have hl:=h.1
 refine⟨by rw[AA,AA];exact h.1,fun i hi=>?_⟩
 rw[AA]at hi
 unfold rN
 rw[Vc (by omega),Vc (by omega)]
 split
 ·exact aei hb h hc
 ·exact h.2 i hi
theorem VG:∀{l:List dg} {a b:List Int},NZ b→zV a b→l.all (gF a.length)=true→zV (ir a l) (ir b l)
 | [],_,_,_,h,_=>h
 |c::l,a,b,hb,h,hl=>by
  have hl:=all_cons hl
  rw[L6,L6]
  exact VG (SK hb (h.1▸hl.1)) (abm hb h hl.1) (by rw[AA];exact hl.2)
theorem MO{what w:Int}{g k:List Int}{l:List dg}(h:fH what w g k l=0)(h3:¬what=3):gE g w=true∧gE k w=true∧l=[]:=by
 have h:=(L8 h).2
 rw[v7 h3,bO,bO]at h
 exact⟨h.1.2,h.2,iE.1 (fk h.1.1)⟩
theorem Mk{what w:Int}{g k:List Int}{l:List dg}(h:fH what w g k l=0)(h3:what=3):g=[]∧k=[]∧l.all (gF w)=true:=by
 have h:=(L8 h).2
 rw[E6 h3,bO]at h
 have h0:=fk h.1
 exact⟨iE.1 (by omega),iE.1 (by omega),h.2⟩
theorem Ry{what w:Int}(hi:cP what w=true)(h3:¬what=3):eN what w=ef w:=by unfold eN;rw[ah hi,ag h3]
theorem QJ{what w:Int}(hi:cP what w=true)(h3:what=3):eN what w=w:=by unfold eN;rw[ah hi,ah h3]
theorem mN{what w:Int}{a:List Int}(h:cM what w a=true):cP what w=true:=by unfold cM at h;rw[bO,bO]at h;exact h.1.1
theorem qo{what w:Int}{a:List Int}(hi:cP what w=true)(h3:¬what=3):cM what w a=true↔gE a w=true:=by
 unfold cM
 rw[ag h3,hi,wR,bO,Ry hi h3]
 refine⟨fun h=>h.2,fun h=>⟨aT ?_,h⟩⟩
 rw[ou h]
theorem jR{what w:Int}{a:List Int}(hi:cP what w=true)(h3:what=3):cM what w a=true↔(a.length:Int)=w∧okW a=true:=by
 unfold cM
 rw[ah h3,hi,wR,bO,QJ hi h3,decide_eq_true_eq]
theorem y6{a:List Int}:okW a=true↔∀z∈a,aJ z=z:=by unfold okW;rw[fK];exact forall₂_congr fun _ _=>decide_eq_true_iff
theorem any_zero{a:List Int}:(a.any fun z=>decide (0=z))=true↔0∈a:=by
 rw[mF]
 exact⟨fun ⟨z,hz,h⟩=>(fk h)▸hz,fun h=>⟨0,h,aT rfl⟩⟩
theorem Wi{a:List Int}(h:okW a=true)(h0:(a.any fun z=>decide (0=z))=false):NZ a:=fun z hz=>⟨y6.1 h z hz,fun e=>by subst e;rw[any_zero.2 hz]at h0;exact Bool.noConfusion h0⟩
theorem ah1{a:List Int}(h:NZ a):(a.any fun z=>decide (0=z))=false:=by
 cases hb:a.any fun z=>decide (0=z) with
 |false=>rfl
 |true=>exact absurd rfl (h 0 (any_zero.1 hb)).2
theorem S9(n:Nat):okW (List.replicate n 0)=true:=y6.2 fun z hz=>by rw[(Pu.1 hz).2];rfl
theorem MP(n:Nat):aR (List.replicate n (0:Int)):=fun z hz=>by rw[(Pu.1 hz).2];exact⟨by omega,by omega⟩
theorem AO{what:Int}{g k:List Int}{l:List dg}{a:List Int}(ha:aR a):aR (fW what g k l a):=by
 unfold fW
 split
 ·split
  ·exact MP _
  ·exact M1 ha l
 ·exact Wg _ _
theorem yF{what w:Int}{g k:List Int}{l:List dg}{a:List Int}(hc:fH what w g k l=0)(hv:cM what w a=true):(fW what g k l a).length=a.length:=by
 unfold fW
 split
 ·split
  ·exact gl
  ·exact GL _ _
 ·rename_i h3
  have hf:=MO hc h3
  have h1:=ou hf.1
  have h2:=ou hf.2.1
  have h3:=ou ((qo (mN hv) h3).1 hv)
  rw[ql,ql];omega
theorem G9{what w:Int}{g k:List Int}{l:List dg}{a:List Int}(hg:aR g)(hk:aR k)(ha:aR a)(hc:fH what w g k l=0)(hv:cM what w a=true):cM what w (fW what g k l a)=true:=by
 have hi:=mN hv
 by_cases h3:what=3
 ·have o7:=(jR hi h3).1 hv
  rw[jR hi h3,yF hc hv]
  refine⟨o7.1,?_⟩
  have hl:=(Mk hc h3).2.2
  cases hz:a.any fun z=>decide (0=z) with
  |true=>rw[GB h3 hz];exact S9 _
  |false=>
   rw[Dc h3 hz]
   exact y6.2 fun z hm=>(VH (Wi o7.2 hz) (by rw[o7.1];exact hl) z hm).1
 ·have hf:=MO hc h3
  have o7:=(qo hi h3).1 hv
  rw[qo hi h3,GO h3]
  exact ae5 (AX _ _) hg (aeR ha hk o7 (wP (ou hf.2.1))) hf.1
def Fb(a b:List Int):Prop:=a.length=b.length∧∀i,i<a.length→wd a i=wd b i∨wd a i=0∨wd b i=1
theorem y8{what:Int}{a b:List Int}{i:Nat}(h:i<a.length)(h2:i<b.length):wd (cN what a b) i=de what (wd a i) (wd b i):=by
 have hj:i<(cN what a b).length:=by unfold cN;rw[F9];omega
 rw[kZ _ hj,kZ _ h,kZ _ h2]
 simp[cN]
theorem Q9(a b:Int):aJ (kF a b)=kF a b:=by
 have hn:∀w,aJ (aJ w)=aJ w:=fun w=>by
  unfold aJ
  by_cases h0:w=0
  ·simp[h0]
  ·by_cases h1:w=1
   ·simp[h1]
   ·cases hk:eJ w with
    |true=>simp[h0,h1,hk]
    |false=>simp[h0,h1]
 unfold kF
 split
 ·exact hn _
 ·split
  ·exact hn _
  ·rfl
theorem rL(a b:Int):de 3 a b=kF a b:=rfl
theorem jc{what:Int}{a b:List Int}(h:a.length=b.length):(cN what a b).length=a.length:=by unfold cN;rw[F9];omega
theorem acf{a b:List Int}:okW (cN 3 a b)=true:=y6.2 fun z hz=>by
 obtain⟨i,hi,rfl⟩:=uL.1 hz
 simp only[cN,Pz]
 exact Q9 _ _
theorem xw{a:List Int}(h:okW a=true){i:Nat}(hi:i<a.length):aJ (wd a i)=wd a i:=y6.1 h _ (H3 hi)
theorem aer{a b:List Int}(ha:okW a=true)(hb:okW b=true)(hl:a.length=b.length):Fb a (cN 3 a b)∧Fb b (cN 3 a b):=by
 refine⟨⟨(jc hl).symm,fun i hi=>?_⟩,⟨by rw[jc hl];exact hl.symm,fun i hi=>?_⟩⟩
 ·rw[y8 hi (by omega),rL]
  have h1:=xw ha hi
  unfold kF
  rw[h1]
  split
  ·exact .inl rfl
  ·split
   ·rename_i h;exact .inr (.inl h)
   ·exact .inr (.inr rfl)
 ·rw[y8 (by omega) hi,rL]
  have h1:=xw ha (i:=i) (by omega)
  have h2:=xw hb hi
  unfold kF
  rw[h1,h2]
  split
  ·rename_i h
   rcases h with h | h
   ·exact .inl h.symm
   ·exact .inr (.inl h)
  ·split
   ·exact .inl rfl
   ·exact .inr (.inr rfl)
theorem Tp{a b:List Int}(ha:okW a=true)(hb:okW b=true)(h:Fb a b):cN 3 a b=b:=by
 refine zc ((jc h.1).trans h.1) fun i hi=>?_
 rw[jc h.1]at hi
 have h1:=xw ha hi
 have h2:=xw hb (i:=i) (by have:=h.1;omega)
 rw[y8 hi (by have:=h.1;omega),rL]
 unfold kF
 rw[h1,h2]
 rcases h.2 i hi with e | e | e
 ·rw[ah (.inl e),e]
 ·rw[e]
  by_cases hc:(0:Int)=wd b i∨wd b i=0
  ·rw[ah hc];omega
  ·rw[ag hc,ah rfl]
 ·rw[e]
  by_cases hc:wd a i=1∨(1:Int)=0
  ·rw[ah hc];omega
  ·rw[ag hc];split <;> rfl
theorem Ss{w:Int}{g k:List Int}{l:List dg}{a b:List Int}(hc:fH 3 w g k l=0)(ha:cM 3 w a=true)(hb:cM 3 w b=true)(h:Fb a b):Fb (fW 3 g k l a) (fW 3 g k l b):=by
 have hi:=mN ha
 have va:=(jR hi rfl).1 ha
 have vb:=(jR hi rfl).1 hb
 refine⟨by rw[yF hc ha,yF hc hb];exact h.1,fun i ab=>?_⟩
 rw[yF hc ha]at ab
 cases hz:a.any fun z=>decide (0=z) with
 |true=>
  rw[GB rfl hz]
  refine .inr (.inl ?_)
  rw[kZ _ (by rw[gl];exact ab),KG]
 |false=>
  have na:=Wi va.2 hz
  have hl:=h.1
  have up:zV a b:=⟨hl,fun j hj=>by
   rcases h.2 j hj with e | e | e
   ·exact .inl e
   ·exact absurd e (na _ (H3 hj)).2
   ·exact .inr e⟩
  have nb:NZ b:=fun z hz=>by
   refine⟨y6.1 vb.2 z hz,fun e=>?_⟩
   obtain⟨j,hj,rfl⟩:=uL.1 hz
   have e:wd b j=0:=by rw[kZ _ hj];exact e
   rcases up.2 j (by omega) with e2 | e2
   ·exact (na _ (H3 (i:=j) (by omega))).2 (e2.trans e)
   ·rw[e2]at e;exact absurd e (by decide)
  rw[Dc rfl hz,Dc rfl (ah1 nb)]
  have:=VG nb up (by rw[va.1];exact (Mk hc rfl).2.2)
  rcases this.2 i (by rw[GL];exact ab) with e | e
  ·exact .inl e
  ·exact .inr (.inr e)
def jz(what:Int)(x y:Bool):Bool:=if what=1 then x||y else x&&y
theorem agt{x y:Int}(hx:bG x)(hy:bG y)(k:Nat):(bits .and .u64 x y).toNat.testBit k=(x.toNat.testBit k&&y.toNat.testBit k):=by
 have e:bits .and .u64 x y=((BitVec.ofInt 64 x &&& BitVec.ofInt 64 y).toNat:Int):=by
  show IntKind.u64.wrap _=_
  exact zb (BitVec.isLt _)
 rw[e,bC,BitVec.toNat_and,Km,toNat_ofInt hx,toNat_ofInt hy]
theorem Ic{what w:Int}(hi:cP what w=true)(h3:¬what=3):what=1∨what=2:=by
 unfold cP at hi;simp at hi;omega
theorem pA{what:Int}(h:what=1∨what=2){a b:List Int}(ha:aR a)(hb:aR b)(hl:a.length=b.length)(i k:Nat)(hi:i<a.length):eg (cN what a b) i k=jz what (eg a i k) (eg b i k):=by
 unfold eg jz
 rw[y8 hi (by omega)]
 rcases h with rfl | rfl
 ·rw[ah rfl]
  exact Mu (lp ha i) (lp hb i) k
 ·rw[ag (by decide)]
  exact agt (lp ha i) (lp hb i) k
theorem abR(what:Int)(x y g k:Bool):jz what ((x&&!k)||g) ((y&&!k)||g)=((jz what x y&&!k)||g):=by
 unfold jz;split <;> cases x <;> cases y <;> cases g <;> cases k <;> rfl
theorem MT(what:Int)(x y:Bool):jz what x (jz what x y)=jz what x y∧jz what y (jz what x y)=jz what x y∧jz what x x=x:=by
 unfold jz;split <;> cases x <;> cases y <;> exact⟨rfl,rfl,rfl⟩
theorem aan{what w:Int}(h:what=1∨what=2){a b:List Int}(ha:aR a)(hb:aR b)(fa:gE a w=true)(fb:gE b w=true):gE (cN what a b) w=true:=by
 have la:=ou fa
 have lb:=ou fb
 have hl:=jc (what:=what) (la.trans lb.symm)
 rw[rD (xz ha hb) (hl.trans la)]
 intro i k hi hk hc
 rw[hl]at hi
 rw[pA h ha hb (la.trans lb.symm) i k hi,(rD ha la).1 fa i k hi hk hc,(rD hb lb).1 fb i k (by omega) hk hc]
 unfold jz;split <;> rfl
theorem L2{what w:Int}{a b:List Int}(ha:aR a)(hb:aR b)(va:cM what w a=true)(vb:cM what w b=true):cM what w (cN what a b)=true:=by
 have hi:=mN va
 by_cases h3:what=3
 ·subst h3
  have v1:=(jR hi rfl).1 va
  have v2:=(jR hi rfl).1 vb
  rw[jR hi rfl,jc (by omega)]
  exact⟨v1.1,acf⟩
 ·rw[qo hi h3]
  exact aan (Ic hi h3) ha hb ((qo hi h3).1 va) ((qo hi h3).1 vb)
theorem Sl{what w:Int}{a b:List Int}(va:cM what w a=true)(vb:cM what w b=true):rJ what w [a,b]=0:=by
 unfold rJ
 rw[ah (mN va)]
 simp[va,vb]
theorem Db{what w:Int}{a b:List Int}(va:cM what w a=true)(vb:cM what w b=true)(h:cN what a b=b):rK what w a b=true:=by
 unfold rK
 rw[Sl va vb,h];simp
theorem aaQ{what w:Int}{a b:List Int}:rK what w a b=true↔cM what w a=true∧cM what w b=true∧cN what a b=b:=by
 constructor
 ·intro h
  unfold rK at h
  rw[bO]at h
  have hc:=Sk (fk h.1)
  exact⟨hc.1,hc.2,fk h.2⟩
 ·exact fun h=>Db h.1 h.2.1 h.2.2
theorem agZ{what w:Int}{g k a b:List Int}{l:List dg}(hg:aR g)(hk:aR k)(ha:aR a)(hb:aR b)(hc:fH what w g k l=0)(va:cM what w a=true)(vb:cM what w b=true):
  rK what w (fW what g k l a) (fW what g k l (cN what a b))=true∧rK what w (fW what g k l b) (fW what g k l (cN what a b))=true∧(¬what=3→cN what (fW what g k l a) (fW what g k l b)=fW what g k l (cN what a b)):=by
 have hi:=mN va
 have NY:aR (cN what a b):=xz ha hb
 have vj:=L2 ha hb va vb
 have vx:=G9 hg hk ha hc va
 have vy:=G9 hg hk hb hc vb
 have vz:=G9 hg hk NY hc vj
 have qa:a.length=b.length:=by have h1:=tG va;have h2:=tG vb;omega
 by_cases h3:what=3
 ·subst h3
  have v1:=(jR hi rfl).1 va
  have v2:=(jR hi rfl).1 vb
  have hu:=aer v1.2 v2.2 qa
  have o:∀{x:List Int},cM 3 w x=true→okW x=true:=fun h=>((jR hi rfl).1 h).2
  exact⟨Db vx vz (Tp (o vx) (o vz) (Ss hc va vj hu.1)),Db vy vz (Tp (o vy) (o vz) (Ss hc vb vj hu.2)),fun h=>absurd rfl h⟩
 ·have hs:=Ic hi h3
  have hf:=MO hc h3
  have lx:=yF hc va
  have ly:=yF hc vb
  have lz:=yF hc vj
  have lj:=jc (what:=what) qa
  have Jy:aR (fW what g k l a):=AO ha
  have Jx:aR (fW what g k l b):=AO hb
  have z64:aR (fW what g k l (cN what a b)):=AO NY
  have bx:∀{c:List Int},aR c→∀i k',k'<64→eg (fW what g k l c) i k'=((eg c i k'&&!eg k i k')||eg g i k'):=fun hc i k' dQ=>by
   rw[GO h3,Vr (AX _ _) hg,VL hc hk i dQ]
  have hz:∀i k',i<a.length→k'<64→eg (fW what g k l (cN what a b)) i k'=jz what (eg (fW what g k l a) i k') (eg (fW what g k l b) i k'):=fun i k' fe dQ=>by
   rw[bx NY i k' dQ,bx ha i k' dQ,bx hb i k' dQ,pA hs ha hb qa i k' fe,abR]
  refine⟨Db vx vz ?_,Db vy vz ?_,fun _=>?_⟩
  ·refine HC (xz Jy z64) z64 (by rw[jc (by omega)];omega) fun i k' fe dQ=>?_
   rw[jc (by omega)]at fe
   rw[pA hs Jy z64 (by omega) i k' fe,hz i k' (by omega) dQ,(MT ..).1]
  ·refine HC (xz Jx z64) z64 (by rw[jc (by omega)];omega) fun i k' fe dQ=>?_
   rw[jc (by omega)]at fe
   rw[pA hs Jx z64 (by omega) i k' fe,hz i k' (by omega) dQ,(MT ..).2.1]
  ·refine HC (xz Jy Jx) z64 (by rw[jc (by omega)];omega) fun i k' fe dQ=>?_
   rw[jc (by omega)]at fe
   rw[pA hs Jy Jx (by omega) i k' fe,hz i k' (by omega) dQ]
theorem ZE{f:FuncId}{xs:List AV}{σ:Hp}{R R':AV→Hp→Prop}(h:ACalls Tryz.prog f xs σ R)(hv:∀r σ',R r σ'→r.leaf=true∧R' (.via r) σ'):ACalls Tryz.prog f xs σ R':=
 ⟨h.1,fun F w vs bR aF=>(h.2 F w vs bR aF).mono fun _ _ ⟨r,v,σ',F',h1,h2,h3,h4,h5⟩=>⟨.via r,v,σ',F',h1,h2,h3,.via _ _ (hv r σ' h5).1 h4,(hv r σ' h5).2⟩⟩
theorem IA{n:Int}(h:bG n):aR [n]:=fun z hz=>by rw[bB.1 hz];exact h
theorem Rn{f:FuncId}{xs ys:List AV}{σ:Hp}{R:AV→Hp→Prop}(h:eO 0 0 0 0 .bool [] (.tup xs) (.tup ys))(hc:ACalls Tryz.prog f ys σ R):ACalls Tryz.prog f xs σ R:=
 ⟨hc.1,fun F w vs bR aF=>hc.2 F w vs (by
  have:=yG (.refl F w) (fun v hv=>by
   obtain⟨a,cap,rfl,c,T,fz,m1,m2,m3,m4⟩:=hv.lr
   exact .ae _ _ _ ⟨some a,cap,rfl,m2,m3,(fun e=>by cases e),fun aX=>absurd rfl aX⟩) h (.tuple vs) (.tup xs vs bR.1 bR.2)
  cases this with
  |tup _ _ h1 h2=>exact⟨h1,h2⟩) aF⟩
theorem aaZ(what w:Int)(g k:List Int)(l:List dg)(a:List Int)(σ:Hp)(hg:aR g)(hk:aR k)(ha:aR a)(lg:g.length≤10000)(lk:k.length≤10000)(la:a.length≤10000)(ll:l.length≤1000000)(hc:fH what w g k l=0)(hv:cM what w a=true):ACalls Tryz.prog 276 [.int .i64 what,.int .i64 w,.agg (zW g k l),.ae (.int .u64) a] σ (ay (.tup [.ae (.int .u64) (fW what g k l a),.int .i64 0]) σ):=by
 have h:=U1 what w g k l a σ hg hk ha lg lk la ll
 rw[HQ hc hv,ve rfl]at h
 exact h
theorem ad8(what w:Int)(xs ys:List Int)(σ:Hp)(hx:aR xs)(hy:aR ys)(lx:xs.length≤1000000)(ly:ys.length≤1000000)(vx:cM what w xs=true)(vy:cM what w ys=true):ACalls Tryz.prog 243 [.int .i64 what,.int .i64 w,.ae (.int .u64) xs,.ae (.int .u64) ys] σ (ay (.tup [.ae (.int .u64) (cN what xs ys),.int .i64 0]) σ):=by
 have h:=VY what w xs ys σ hx hy lx ly
 rw[Sl vx vy,ve rfl]at h
 exact h
abbrev dB:Sh:=.field (.int .i64) (.field (.int .i64) .nil)
abbrev bK:Type:=Int×Int×Unit
abbrev mI:Type:=List Int×List Int×List dg×Unit
abbrev Wd:Sh:=.field (.int .i64) (.field (.int .i64) (.field (.int .i64) (.field (.slice dB) (.field (.slice (.int .i64)) (.field (.slice (.int .u64)) (.field (.slice kY) .nil))))))
structure Sy where
 what:Int
 w:Int
 n:Int
 aO:List bK
 entry:List Int
 init:List Int
 T:List mI
abbrev aW(s:Sy):List AV:=[.int .i64 s.what,.int .i64 s.w,.int .i64 s.n,.ae dB s.aO,.ae (.int .i64) s.entry,.ae (.int .u64) s.init,.ae kY s.T]
def ahV(x:Wd.T):Sy:=⟨x.1,x.2.1,x.2.2.1,x.2.2.2.1,x.2.2.2.2.1,x.2.2.2.2.2.1,x.2.2.2.2.2.2.1⟩
def okT(t:mI):Prop:=aR t.1∧aR t.2.1∧t.1.length≤10000∧t.2.1.length≤10000∧t.2.2.1.length≤100000
structure Fit(s:Sy):Prop where
 i64:aR s.init
 EJ:s.init.length≤10000
 BN:s.aO.length≤100000
 BG:s.entry.length≤100000
 NK:s.T.length≤100000
 ts:∀t∈s.T,okT t
def dN(n a:Int):Bool:=decide (0≤a)&&decide (a<n)
theorem IP(n a:Int)(σ:Hp):ACalls Tryz.prog 206 [.int .i64 n,.int .i64 a] σ (ay (.bool (dN n a)) σ):=by
 refine ar Tryz.func206 ?_
 refine ak (fun c1=>?_) (fun c1=>?_)
 ·have c1:0≤a:=c1
  refine ak (fun c2=>?_) (fun c2=>?_)
  ·have c2:a<n:=c2
   exact .done ⟨cy (by unfold dN;simp;omega),rfl⟩
  ·have c2:¬(a<n):=c2
   exact .done ⟨cy (by unfold dN;simp;omega),rfl⟩
 ·have c1:¬(0≤a):=c1
  exact .done ⟨cy (by unfold dN;simp;omega),rfl⟩
def Bw(e:bK):AV:=.agg [.int .i64 e.1,.int .i64 e.2.1]
theorem afa(n:Int)(e:bK)(q:Nat)(σ:Hp):ACalls Tryz.prog 205 [Bw e,.ptr q 0] ((q,[.int .i64 n])::σ) (ay (.bool (!(dN n e.1&&dN n e.2.1))) ((q,[.int .i64 n])::σ)):=by
 refine ar Tryz.func205 ?_
 unfold Bw
 intro aB
 refine aa 1 ?_
 refine aa 0 ?_
 refine dC [] (IP n e.1 _) (fun c1=>?_) (fun c1=>?_)
 ·refine aa 1 ?_
  refine aa 0 ?_
  refine dC [] (IP n e.2.1 _) (fun c2=>?_) (fun c2=>?_)
  ·exact .drop 0 1 (.done ⟨cy (by rw[c1,c2];rfl),rfl⟩)
  ·exact .drop 0 1 (.done ⟨cy (by rw[c1,c2];rfl),rfl⟩)
 ·exact .drop 0 1 (.done ⟨cy (by rw[c1];rfl),rfl⟩)
theorem adb(g:Nat)(cap:List AV)(l:List (Sh.T dB))(p:Sh.T dB→Bool)(σ:Hp)(hl:l.length≤1000000)(hg:∀(i:Nat) (hi:i<l.length),ACalls Tryz.prog g (Bw l[i]::cap) σ (ay (.bool (p l[i])) σ)):ACalls Tryz.prog 252 [.ae dB l,.fn (.func g) [] cap] σ (fun r σ'=>∃n:Int,r=.int .i64 n∧σ'=σ∧decide (0≤n)=l.any p):=by
 refine ar Tryz.func252 ?_
 refine bQ (S:=Nat) (fun s=>[(0,.ae dB l),(1,.fn (.func g) [] cap),(7,.int .i64 l.length),(8,.int .i64 s)]) (fun _=>σ) (fun s=>s≤l.length∧(l.take s).any p=false) (fun s=>l.length-s) 0 ⟨⟨bA _,rfl⟩,⟨rfl,rfl,rfl,rfl,trivial⟩,rfl⟩ ?_
 rintro k t ⟨aK,fI⟩
 have hk:k≤l.length:=aK
 have hn:(l.take k).any p=false:=fI
 clear aK fI
 refine ak (fun ab=>?_) (fun aq=>?_)
 ·have ab:k<l.length:=by have ab:(k:Int)<l.length:=ab;omega
  have hs:=rF ab p
  rw[hn,po]at hs
  refine aG.mk rfl (bE.mk l[k] (by omega) (get_some ab) ?_)
  refine dC [] (hg k ab) (fun c=>?_) (fun c=>?_)
  ·have hp:l.any p=true:=mF.2 ⟨l[k],bP ab,c⟩
   exact .done ⟨_,rfl,rfl,by rw[hp];exact aT (by omega)⟩
  ·exact aY (k+1) (by show l.length-(k+1)<l.length-k;omega) ⟨ab,hs.trans c⟩ ⟨rfl,rfl,rfl,aS (by omega),trivial⟩ (.refl _)
 ·have aq:k=l.length:=by have aq:¬(k:Int)<l.length:=aq;omega
  subst aq
  rw[fA]at hn
  exact .done ⟨_,rfl,rfl,by rw[hn];rfl⟩
theorem QH(g:Nat)(cap:List AV)(l:List (Sh.T dB))(p:Sh.T dB→Bool)(σ:Hp)(hl:l.length≤1000000)(hg:∀(i:Nat) (hi:i<l.length),ACalls Tryz.prog g (Bw l[i]::cap) σ (ay (.bool (p l[i])) σ)):ACalls Tryz.prog 204 [.ae dB l,.fn (.func g) [] cap] σ (ay (.bool (l.any p)) σ):=by
 refine ar Tryz.func204 ?_
 refine .mk [] _ (adb g cap l p _ hl hg) ?_
 rintro _ _ ⟨n,rfl,rfl,hn⟩
 rw[← hn]
 refine ak (fun c=>?_) (fun c=>?_)
 ·have c:0≤n:=c
  rw[aT c]
  exact .done ⟨rfl,rfl⟩
 ·have c:¬0≤n:=c
  rw[bS c]
  exact .done ⟨rfl,rfl⟩
def fF(n:Int)(l:List bK):Bool:=decide (1≤n)&&decide (n≤256)&&decide (l.length≤1024)&&l.all fun e=>dN n e.1&&dN n e.2.1
theorem WD{n:Int}(l:List bK){b:Bool}(h:(l.any fun e=> !(dN n e.1&&dN n e.2.1))=b):(l.all fun e=>dN n e.1&&dN n e.2.1) = !b:=by rw[MG,h]
theorem D1(n:Int)(l:List bK)(σ:Hp)(hl:l.length≤1000000):ACalls Tryz.prog 150 [.int .i64 n,.ae dB l] σ (ay (.bool (fF n l)) σ):=by
 refine ar Tryz.func150 ?_
 intro aB
 refine aa 0 ?_
 refine ak (fun c2=>?_) (fun c2=>?_)
 ·have c2:n<1:=c2
  exact .drop 0 1 (.done ⟨cy (by unfold fF;simp;omega),rfl⟩)
 ·have c2:¬(n<1):=c2
  refine aa 0 ?_
  refine ak (fun c3=>?_) (fun c3=>?_)
  ·have c3:256<n:=c3
   exact .drop 0 1 (.done ⟨cy (by unfold fF;simp;omega),rfl⟩)
  ·have c3:¬(256<n):=c3
   refine ak (fun c4=>?_) (fun c4=>?_)
   ·have c4:1024<(↑l.length:Int):=c4
    exact .drop 0 1 (.done ⟨cy (by unfold fF;simp;omega),rfl⟩)
   ·have c4:¬(1024<(↑l.length:Int)):=c4
    refine dC [] (QH 205 [.ptr aB 0] l (fun e=> !(dN n e.1&&dN n e.2.1)) _ hl (fun i hi=>afa n l[i] aB _)) (fun cL=>?_) (fun cL=>?_)
    ·exact .drop 0 1 (.done ⟨cy (by unfold fF;rw[WD l cL];simp),rfl⟩)
    ·exact .drop 0 1 (.done ⟨cy (by unfold fF;rw[WD l cL];simp;omega),rfl⟩)
def fU(what w:Int):Int:=if cP what w=true then (if what=3 then 2*w else w) else 0
theorem Hs(what w:Int)(σ:Hp):ACalls Tryz.prog 131 [.int .i64 what,.int .i64 w] σ (ay (.int .i64 (fU what w)) σ):=by
 refine ar Tryz.func131 ?_
 refine dC [] (E0 what w _) (fun c0=>?_) (fun c0=>?_)
 ·refine ak (fun c1=>?_) (fun c1=>?_)
  ·have c1:what=3:=c1
   exact .done ⟨aQ (by unfold cP at c0;simp at c0;unfold fU;rw[if_pos (qv (by omega)),if_pos c1,cE (by omega)]),rfl⟩
  ·have c1:¬(what=3):=c1
   exact .done ⟨aQ (by unfold fU;rw[ah c0,ag c1]),rfl⟩
 ·exact .done ⟨aQ (by unfold fU;rw[c0];rfl),rfl⟩
theorem aas(w:Int):gE (fg w) w=true:=by
 unfold gE
 rw[aT (np w),wR,fK]
 intro i hi
 have hi:=gy.1 hi
 rw[np]at hi
 rw[decide_eq_true_eq,Dq w hi,bC]
 have:=Cq (min 64 (eE w-64*i))
 omega
theorem HW{what w:Int}(h:cP what w=true):cM what w (fw what w)=true:=by
 by_cases h3:what=3
 ·rw[jR h h3]
  unfold fw
  rw[ag (fun h=>by omega),QJ h h3]
  unfold cP at h;simp at h
  exact⟨by rw[gl];omega,S9 _⟩
 ·rw[qo h h3]
  unfold fw
  split
  ·exact aas w
  ·rw[Ry h h3,bC]
   refine (rD (MP _) gl).2 fun i k hi _ _=>?_
   unfold eg
   rw[kZ _ hi,KG];exact Hb k
theorem Io(what w:Int):aR (fw what w):=by
 unfold fw;split
 ·exact TA w
 ·exact MP _
theorem aeN(what w:Int):(fw what w).length≤1024:=by
 unfold fw;split
 ·rw[np];have:=AW w;omega
 ·rw[gl];have:=AI what w;omega
def cm(s:Sy):Int:=if cP s.what s.w=true then (if fF s.n s.aO=true∧(s.T.length:Int)=s.n then (if (s.entry.any fun v=> !dN s.n v)=true then 1 else if cM s.what s.w s.init=true then (if (s.T.any fun t=> !decide (fH s.what s.w t.1 t.2.1 t.2.2.1=0))=true then 2 else 0) else 2) else 1) else 10
theorem agk{s:Sy}(h:cP s.what s.w=false):10=cm s:=by unfold cm;rw[h];rfl
theorem IJ{s:Sy}(hi:cP s.what s.w=true)(h:¬(fF s.n s.aO=true∧(s.T.length:Int)=s.n)):1=cm s:=by unfold cm;rw[ah hi,ag h]
theorem Ij{s:Sy}(hi:cP s.what s.w=true)(h:fF s.n s.aO=true∧(s.T.length:Int)=s.n)(he:(s.entry.any fun v=> !dN s.n v)=true):1=cm s:=by unfold cm;rw[ah hi,ah h,ah he]
theorem Wx{s:Sy}(hi:cP s.what s.w=true)(h:fF s.n s.aO=true∧(s.T.length:Int)=s.n)(he:(s.entry.any fun v=> !dN s.n v)=false)(hv:cM s.what s.w s.init=false):2=cm s:=by unfold cm;rw[ah hi,ah h,he,hv];rfl
theorem VJ{s:Sy}(hi:cP s.what s.w=true)(h:fF s.n s.aO=true∧(s.T.length:Int)=s.n)(he:(s.entry.any fun v=> !dN s.n v)=false)(hv:cM s.what s.w s.init=true)(ht:(s.T.any fun t=> !decide (fH s.what s.w t.1 t.2.1 t.2.2.1=0))=true):2=cm s:=by unfold cm;rw[ah hi,ah h,he,hv,ht];rfl
theorem Ny{s:Sy}(hi:cP s.what s.w=true)(h:fF s.n s.aO=true∧(s.T.length:Int)=s.n)(he:(s.entry.any fun v=> !dN s.n v)=false)(hv:cM s.what s.w s.init=true)(ht:(s.T.any fun t=> !decide (fH s.what s.w t.1 t.2.1 t.2.2.1=0))=false):0=cm s:=by unfold cm;rw[ah hi,ah h,he,hv,ht];rfl
theorem yV(s:Sy)(σ:Hp)(hf:Fit s):ACalls Tryz.prog 84 [.agg (aW s)] σ (ay (.int .i64 (cm s)) σ):=by
 refine ar Tryz.func84 ?_
 intro aB
 refine .quiet (by kernel_rfl) ?_
 refine aa 0 ?_
 refine aa 0 ?_
 refine aI [] (Hs _ _ _) ?_
 refine ak (fun c1=>?_) (fun c1=>?_)
 ·have c1:fU s.what s.w=0:=c1
  refine aa 0 ?_
  refine aa 0 ?_
  refine aa 0 ?_
  refine aa 0 ?_
  refine aI [] (Ht _ _ _) ?_
  refine Il [] (BR s.what s.w (fw s.what s.w) _ (Io _ _) (eH (aeN _ _) (by decide))) (fun c2=>?_) (fun c2=>?_)
  ·have hi:=mN c2
   refine aa 0 ?_
   refine aa 0 ?_
   refine dC [] (D1 s.n s.aO _ (eH hf.BN (by decide))) (fun cr=>?_) (fun cr=>?_)
   ·refine aa 0 ?_
    refine aa 0 ?_
    refine cX (fun ct=>?_) (fun ct=>?_)
    ·have ct:(!decide ((s.T.length:Int)=s.n))=true:=ct
     have ct:¬(s.T.length:Int)=s.n:=by simpa using ct
     exact .fwd 1 (.drop 0 1 (.done ⟨aQ (IJ hi fun h=>ct h.2),rfl⟩))
    ·have ct:(!decide ((s.T.length:Int)=s.n))=false:=ct
     have ct:(s.T.length:Int)=s.n:=by simpa using ct
     have hr:fF s.n s.aO=true∧(s.T.length:Int)=s.n:=⟨cr,ct⟩
     refine aa 0 ?_
     refine bQ (S:=Nat) (fun k=>[(1,.ptr aB 0),(3,.int .i64 1),(42,.ae (.int .i64) s.entry),(43,.int .i64 s.entry.length),(44,.int .i64 k)]) (fun _=>(aB,aW s)::σ) (fun k=>k≤s.entry.length∧((s.entry.take k).any fun v=> !dN s.n v)=false) (fun k=>s.entry.length-k) 0 ⟨⟨bA _,rfl⟩,⟨rfl,rfl,rfl,rfl,rfl,trivial⟩,rfl⟩ ?_
     rintro k g ⟨aK,lG⟩
     have hk:k≤s.entry.length:=aK
     have ha:((s.entry.take k).any fun v=> !dN s.n v)=false:=lG
     clear aK lG
     refine ak (fun ab=>?_) (fun aq=>?_)
     ·have ab:k<s.entry.length:=by have ab:(k:Int)<s.entry.length:=ab;omega
      have hs:=rF ab fun v=> !dN s.n v
      rw[ha,po]at hs
      have ES:dN s.n s.entry[k]=false→(s.entry.any fun v=> !dN s.n v)=true:=fun h=>mF.2 ⟨s.entry[k],bP ab,by rw[h];rfl⟩
      refine aG.mk rfl (bE.mk s.entry[k] (by omega) (get_some ab) ?_)
      refine ak (p:=s.entry[k]<0) (fun d1=>?_) (fun d1=>?_)
      ·exact .fwd 1 (.drop 0 1 (.done ⟨aQ (Ij hi hr (ES (by unfold dN;simp;omega))),rfl⟩))
      ·refine aa 0 ?_
       refine ak (p:=s.n≤s.entry[k]) (fun d2=>?_) (fun d2=>?_)
       ·exact .fwd 1 (.drop 0 1 (.done ⟨aQ (Ij hi hr (ES (by unfold dN;simp;omega))),rfl⟩))
       ·exact aY (k+1) (by show s.entry.length-(k+1)<s.entry.length-k;omega) ⟨ab,hs.trans (by unfold dN;simp;omega)⟩ ⟨rfl,rfl,rfl,rfl,aS (by have:=hf.BG;omega),trivial⟩ (.refl _)
     ·have aq:k=s.entry.length:=by have aq:¬(k:Int)<s.entry.length:=aq;omega
      subst aq
      rw[fA]at ha
      refine aa 0 ?_
      refine aa 0 ?_
      refine aa 0 ?_
      refine dC [] (BR s.what s.w s.init _ hf.i64 (eH hf.EJ (by decide))) (fun cv=>?_) (fun cv=>?_)
      ·refine aa 0 ?_
       refine bQ (S:=Nat) (fun k=>[(1,.ptr aB 0),(3,.int .i64 2),(66,.ae kY s.T),(67,.int .i64 s.T.length),(68,.int .i64 k)]) (fun _=>(aB,aW s)::σ) (fun k=>k≤s.T.length∧((s.T.take k).any fun t=> !decide (fH s.what s.w t.1 t.2.1 t.2.2.1=0))=false) (fun k=>s.T.length-k) 0 ⟨⟨bA _,rfl⟩,⟨rfl,rfl,rfl,rfl,rfl,trivial⟩,rfl⟩ ?_
       rintro k g ⟨aK,j0⟩
       have hk:k≤s.T.length:=aK
       have ht:((s.T.take k).any fun t=> !decide (fH s.what s.w t.1 t.2.1 t.2.2.1=0))=false:=j0
       clear aK j0
       refine ak (fun ab=>?_) (fun aq=>?_)
       ·have ab:k<s.T.length:=by have ab:(k:Int)<s.T.length:=ab;omega
        have hs:=rF ab fun t=> !decide (fH s.what s.w t.1 t.2.1 t.2.2.1=0)
        rw[ht,po]at hs
        have ho:=hf.ts _ (bP ab)
        have hm:=bP ab
        obtain⟨t,fi⟩:∃t:mI,s.T[k]=t:=⟨_,rfl⟩
        rw[fi]at hs ho hm
        refine aG.mk rfl (bE.mk t (by omega) ((get_some ab).trans (congrArg some fi)) ?_)
        intro dc
        refine aj 0 ?_
        refine aa 1 ?_
        refine aa 1 ?_
        refine aa 0 ?_
        refine aw [] (MJ s.what s.w t.1 t.2.1 t.2.2.1 _ ho.1 ho.2.1 ho.2.2.1 ho.2.2.2.1 (eH ho.2.2.2.2 (by decide))) ?_
        refine cX (fun d1=>?_) (fun d1=>?_)
        ·exact .fwd 1 (.drop 0 2 (.done ⟨aQ (VJ hi hr ha cv (mF.2 ⟨t,hm,d1⟩)),rfl⟩))
        ·exact aY (k+1) (by show s.T.length-(k+1)<s.T.length-k;omega) ⟨ab,hs.trans d1⟩ ⟨rfl,rfl,rfl,rfl,aS (by have:=hf.NK;omega),trivial⟩ (.drop 0 1 (.refl _))
       ·have aq:k=s.T.length:=by have aq:¬(k:Int)<s.T.length:=aq;omega
        subst aq
        rw[fA]at ht
        exact .drop 0 1 (.done ⟨aQ (Ny hi hr ha cv ht),rfl⟩)
      ·exact .fwd 1 (.drop 0 1 (.done ⟨aQ (Wx hi hr ha cv),rfl⟩))
   ·exact .fwd 1 (.drop 0 1 (.done ⟨aQ (IJ hi fun h=>by rw[h.1]at cr;cases cr),rfl⟩))
  ·have hi:cP s.what s.w=false:=by
    cases h:cP s.what s.w with
    |false=>rfl
    |true=>rw[HW h]at c2;cases c2
   exact .fwd 1 (.drop 0 1 (.done ⟨aQ (agk hi),rfl⟩))
 ·have c1:¬fU s.what s.w=0:=c1
  refine aa 0 ?_
  refine aa 0 ?_
  have hi:cP s.what s.w=true:=by
   cases h:cP s.what s.w with
   |true=>rfl
   |false=>exact absurd (by unfold fU;rw[h];rfl) c1
  refine dC [] (D1 s.n s.aO _ (eH hf.BN (by decide))) (fun cr=>?_) (fun cr=>?_)
  ·refine aa 0 ?_
   refine aa 0 ?_
   refine cX (fun ct=>?_) (fun ct=>?_)
   ·have ct:(!decide ((s.T.length:Int)=s.n))=true:=ct
    have ct:¬(s.T.length:Int)=s.n:=by simpa using ct
    exact .fwd 1 (.drop 0 1 (.done ⟨aQ (IJ hi fun h=>ct h.2),rfl⟩))
   ·have ct:(!decide ((s.T.length:Int)=s.n))=false:=ct
    have ct:(s.T.length:Int)=s.n:=by simpa using ct
    have hr:fF s.n s.aO=true∧(s.T.length:Int)=s.n:=⟨cr,ct⟩
    refine aa 0 ?_
    refine bQ (S:=Nat) (fun k=>[(1,.ptr aB 0),(3,.int .i64 1),(42,.ae (.int .i64) s.entry),(43,.int .i64 s.entry.length),(44,.int .i64 k)]) (fun _=>(aB,aW s)::σ) (fun k=>k≤s.entry.length∧((s.entry.take k).any fun v=> !dN s.n v)=false) (fun k=>s.entry.length-k) 0 ⟨⟨bA _,rfl⟩,⟨rfl,rfl,rfl,rfl,rfl,trivial⟩,rfl⟩ ?_
    rintro k g ⟨aK,lG⟩
    have hk:k≤s.entry.length:=aK
    have ha:((s.entry.take k).any fun v=> !dN s.n v)=false:=lG
    clear aK lG
    refine ak (fun ab=>?_) (fun aq=>?_)
    ·have ab:k<s.entry.length:=by have ab:(k:Int)<s.entry.length:=ab;omega
     have hs:=rF ab fun v=> !dN s.n v
     rw[ha,po]at hs
     have ES:dN s.n s.entry[k]=false→(s.entry.any fun v=> !dN s.n v)=true:=fun h=>mF.2 ⟨s.entry[k],bP ab,by rw[h];rfl⟩
     refine aG.mk rfl (bE.mk s.entry[k] (by omega) (get_some ab) ?_)
     refine ak (p:=s.entry[k]<0) (fun d1=>?_) (fun d1=>?_)
     ·exact .fwd 1 (.drop 0 1 (.done ⟨aQ (Ij hi hr (ES (by unfold dN;simp;omega))),rfl⟩))
     ·refine aa 0 ?_
      refine ak (p:=s.n≤s.entry[k]) (fun d2=>?_) (fun d2=>?_)
      ·exact .fwd 1 (.drop 0 1 (.done ⟨aQ (Ij hi hr (ES (by unfold dN;simp;omega))),rfl⟩))
      ·exact aY (k+1) (by show s.entry.length-(k+1)<s.entry.length-k;omega) ⟨ab,hs.trans (by unfold dN;simp;omega)⟩ ⟨rfl,rfl,rfl,rfl,aS (by have:=hf.BG;omega),trivial⟩ (.refl _)
    ·have aq:k=s.entry.length:=by have aq:¬(k:Int)<s.entry.length:=aq;omega
     subst aq
     rw[fA]at ha
     refine aa 0 ?_
     refine aa 0 ?_
     refine aa 0 ?_
     refine dC [] (BR s.what s.w s.init _ hf.i64 (eH hf.EJ (by decide))) (fun cv=>?_) (fun cv=>?_)
     ·refine aa 0 ?_
      refine bQ (S:=Nat) (fun k=>[(1,.ptr aB 0),(3,.int .i64 2),(66,.ae kY s.T),(67,.int .i64 s.T.length),(68,.int .i64 k)]) (fun _=>(aB,aW s)::σ) (fun k=>k≤s.T.length∧((s.T.take k).any fun t=> !decide (fH s.what s.w t.1 t.2.1 t.2.2.1=0))=false) (fun k=>s.T.length-k) 0 ⟨⟨bA _,rfl⟩,⟨rfl,rfl,rfl,rfl,rfl,trivial⟩,rfl⟩ ?_
      rintro k g ⟨aK,j0⟩
      have hk:k≤s.T.length:=aK
      have ht:((s.T.take k).any fun t=> !decide (fH s.what s.w t.1 t.2.1 t.2.2.1=0))=false:=j0
      clear aK j0
      refine ak (fun ab=>?_) (fun aq=>?_)
      ·have ab:k<s.T.length:=by have ab:(k:Int)<s.T.length:=ab;omega
       have hs:=rF ab fun t=> !decide (fH s.what s.w t.1 t.2.1 t.2.2.1=0)
       rw[ht,po]at hs
       have ho:=hf.ts _ (bP ab)
       have hm:=bP ab
       obtain⟨t,fi⟩:∃t:mI,s.T[k]=t:=⟨_,rfl⟩
       rw[fi]at hs ho hm
       refine aG.mk rfl (bE.mk t (by omega) ((get_some ab).trans (congrArg some fi)) ?_)
       intro dc
       refine aj 0 ?_
       refine aa 1 ?_
       refine aa 1 ?_
       refine aa 0 ?_
       refine aw [] (MJ s.what s.w t.1 t.2.1 t.2.2.1 _ ho.1 ho.2.1 ho.2.2.1 ho.2.2.2.1 (eH ho.2.2.2.2 (by decide))) ?_
       refine cX (fun d1=>?_) (fun d1=>?_)
       ·exact .fwd 1 (.drop 0 2 (.done ⟨aQ (VJ hi hr ha cv (mF.2 ⟨t,hm,d1⟩)),rfl⟩))
       ·exact aY (k+1) (by show s.T.length-(k+1)<s.T.length-k;omega) ⟨ab,hs.trans d1⟩ ⟨rfl,rfl,rfl,rfl,aS (by have:=hf.NK;omega),trivial⟩ (.drop 0 1 (.refl _))
      ·have aq:k=s.T.length:=by have aq:¬(k:Int)<s.T.length:=aq;omega
       subst aq
       rw[fA]at ht
       exact .drop 0 1 (.done ⟨aQ (Ny hi hr ha cv ht),rfl⟩)
     ·exact .fwd 1 (.drop 0 1 (.done ⟨aQ (Wx hi hr ha cv),rfl⟩))
  ·exact .fwd 1 (.drop 0 1 (.done ⟨aQ (IJ hi fun h=>by rw[h.1]at cr;cases cr),rfl⟩))
theorem afm(l:List Int)(x:Int)(σ:Hp)(hl:l.length≤1000000):ACalls Tryz.prog 287 [.ae (.int .i64) l,.int .i64 x] σ (fun r σ'=>∃n:Int,r=.int .i64 n∧σ'=σ∧decide (0≤n)=l.any fun z=>decide (x=z)):=by
 refine ar Tryz.func287 ?_
 refine bQ (S:=Nat) (fun s=>[(0,.ae (.int .i64) l),(1,.int .i64 x),(7,.int .i64 l.length),(8,.int .i64 s)]) (fun _=>σ) (fun s=>s≤l.length∧((l.take s).any fun z=>decide (x=z))=false) (fun s=>l.length-s) 0 ⟨⟨bA _,rfl⟩,⟨rfl,rfl,rfl,rfl,trivial⟩,rfl⟩ ?_
 rintro k t ⟨aK,fI⟩
 have hk:k≤l.length:=aK
 have hn:((l.take k).any fun z=>decide (x=z))=false:=fI
 clear aK fI
 refine ak (fun ab=>?_) (fun aq=>?_)
 ·have ab:k<l.length:=by have ab:(k:Int)<l.length:=ab;omega
  have hs:=rF ab fun z=>decide (x=z)
  rw[hn,po]at hs
  refine aG.mk rfl (bE.mk l[k] (by omega) (get_some ab) ?_)
  refine ak (fun c=>?_) (fun c=>?_)
  ·have c:x=l[k]:=c
   have hp:(l.any fun z=>decide (x=z))=true:=mF.2 ⟨l[k],bP ab,aT c⟩
   exact .done ⟨_,rfl,rfl,by rw[hp];exact aT (by omega)⟩
  ·have c:¬x=l[k]:=c
   exact aY (k+1) (by show l.length-(k+1)<l.length-k;omega) ⟨ab,hs.trans (bS c)⟩ ⟨rfl,rfl,rfl,aS (by omega),trivial⟩ (.refl _)
 ·have aq:k=l.length:=by have aq:¬(k:Int)<l.length:=aq;omega
  subst aq
  rw[fA]at hn
  exact .done ⟨_,rfl,rfl,by rw[hn];rfl⟩
theorem ZK(l:List Int)(x:Int)(σ:Hp)(hl:l.length≤1000000):ACalls Tryz.prog 255 [.ae (.int .i64) l,.int .i64 x] σ (ay (.bool (l.any fun z=>decide (x=z))) σ):=by
 refine ar Tryz.func255 ?_
 refine .mk [] _ (afm l x _ hl) ?_
 rintro _ _ ⟨n,rfl,rfl,hn⟩
 rw[← hn]
 refine ak (fun c=>?_) (fun c=>?_)
 ·have c:0≤n:=c
  rw[aT c]
  exact .done ⟨rfl,rfl⟩
 ·have c:¬0≤n:=c
  rw[bS c]
  exact .done ⟨rfl,rfl⟩
theorem afs(l:List Int)(σ:Hp)(hl:l.length≤1000000):ACalls Tryz.prog 256 [.ae (.int .u64) l] σ (ay (.ae (.int .u64) l) σ):=by
 refine (Va l σ hl).fin ?_
 rintro v σ' ⟨acc,bY,rfl⟩
 exact qs (s:=.int .u64) [] bY rfl (kC l) (by decide) (.done ⟨rfl,rfl⟩)
def fp(s:Sy)(v:Int):List Int:=if (s.entry.any fun z=>decide (v=z))=true then s.init else fw s.what s.w
theorem VP(s:Sy)(v:Int)(σ:Hp)(hf:Fit s):ACalls Tryz.prog 212 [.agg (aW s),.int .i64 v] σ (ay (.ae (.int .u64) (fp s v)) σ):=by
 refine ar Tryz.func212 ?_
 intro aB
 refine aa 0 ?_
 refine dC [] (ZK s.entry v _ (eH hf.BG (by decide))) (fun c=>?_) (fun c=>?_)
 ·refine aa 0 ?_
  refine aw [] (afs s.init _ (eH hf.EJ (by decide))) ?_
  exact .drop 0 1 (.done ⟨by unfold fp;rw[c];rfl,rfl⟩)
 ·refine aa 0 ?_
  refine aa 0 ?_
  refine aw [] (Ht _ _ _) ?_
  exact .drop 0 1 (.done ⟨by unfold fp;rw[c];rfl,rfl⟩)
def pJ(s:Sy)(a:List (List Int)):Bool:=decide ((a.length:Int)=s.n)&&a.all (cM s.what s.w)
def ki(a:List (List Int)):Prop:=a.length≤100000∧∀x∈a,aR x∧x.length≤10000
theorem acX(s:Sy)(x:List Int)(q:Nat)(σ:Hp)(hx:aR x)(lx:x.length≤10000):ACalls Tryz.prog 242 [.ae (.int .u64) x,.ptr q 0] ((q,aW s)::σ) (ay (.bool (!cM s.what s.w x)) ((q,aW s)::σ)):=by
 refine ar Tryz.func242 ?_
 refine aa 0 ?_
 refine aa 0 ?_
 refine aw [] (BR s.what s.w x _ hx (eH lx (by decide))) ?_
 exact .done ⟨rfl,rfl⟩
theorem Wz{what w:Int}(l:List (List Int)){b:Bool}(h:(l.any fun x=> !cM what w x)=b):l.all (cM what w) = !b:=by rw[MG,h]
theorem MI(s:Sy)(a:List (List Int))(σ:Hp)(ha:ki a):ACalls Tryz.prog 191 [.agg (aW s),.ae (.slice (.int .u64)) a] σ (ay (.bool (pJ s a)) σ):=by
 refine ar Tryz.func191 ?_
 intro aB
 refine aa 0 ?_
 refine ak (fun c2=>?_) (fun c2=>?_)
 ·have c2:(a.length:Int)=s.n:=c2
  refine dC [] (QG 242 [.ptr aB 0] a (fun x=> !cM s.what s.w x) _ (eH ha.1 (by decide)) (fun i hi=>acX s a[i] aB _ (ha.2 _ (bP hi)).1 (ha.2 _ (bP hi)).2)) (fun cL=>?_) (fun cL=>?_)
  ·exact .drop 0 1 (.done ⟨cy (by unfold pJ;rw[Wz a cL];simp),rfl⟩)
  ·exact .drop 0 1 (.done ⟨cy (by unfold pJ;rw[Wz a cL,aT c2];rfl),rfl⟩)
 ·have c2:¬(a.length:Int)=s.n:=c2
  exact .drop 0 1 (.done ⟨cy (by unfold pJ;rw[bS c2];rfl),rfl⟩)
def qx(p:List Int→List Int→Bool)(a b:List (List Int)):Bool:=decide (a.length=b.length)&&(List.zipWith p a b).all id
theorem ZD{p:List Int→List Int→Bool}{a b:List (List Int)}(h:¬a.length=b.length):qx p a b=false:=by unfold qx;rw[bS h];rfl
theorem CU{p:List Int→List Int→Bool}{a b:List (List Int)}:qx p a b=true↔a.length=b.length∧∀i (h:i<a.length) (h2:i<b.length),p a[i] b[i]=true:=by
 unfold qx
 rw[bO,decide_eq_true_eq,fK]
 constructor
 ·rintro⟨h1,h2⟩
  refine⟨h1,fun i hi qY=>?_⟩
  exact h2 _ (uL.2 ⟨i,by rw[F9];omega,by rw[Pz]⟩)
 ·rintro⟨h1,h2⟩
  refine⟨h1,fun x hx=>?_⟩
  obtain⟨i,hi,rfl⟩:=uL.1 hx
  rw[F9]at hi
  rw[Pz]
  exact h2 i (by omega) (by omega)
theorem YK{p:List Int→List Int→Bool}{a b:List (List Int)}{k:Nat}(h1:k<a.length)(h2:k<b.length)(ht:qx p (a.take k) (b.take k)=true)(hc:p a[k] b[k]=true):qx p (a.take (k+1)) (b.take (k+1))=true:=by
 rw[CU]at ht ⊢
 obtain⟨_,q⟩:=ht
 refine⟨by simp;omega,fun i hi qY=>?_⟩
 rw[Kq,Kq]
 by_cases e:i=k
 ·subst e;exact hc
 ·have:=q i (by simp at hi ⊢;omega) (by simp at hi ⊢;omega)
  rw[Kq,Kq]at this
  exact this
theorem aaT{p:List Int→List Int→Bool}{a b:List (List Int)}{k:Nat}(h1:k<a.length)(h2:k<b.length)(hc:p a[k] b[k]=false):qx p a b=false:=by
 cases h:qx p a b with
 |false=>rfl
 |true=>rw[(CU.1 h).2 k h1 h2]at hc;cases hc
theorem TZ(g:Nat)(cap:List AV)(a b:List (List Int))(p:List Int→List Int→Bool)(σ:Hp)(hl:a.length≤1000000)(hg:∀x∈a,∀y∈b,ACalls Tryz.prog g ([.ae (.int .u64) x,.ae (.int .u64) y]++cap) σ (ay (.bool (p x y)) σ)):ACalls Tryz.prog 192 [.ae (.slice (.int .u64)) a,.ae (.slice (.int .u64)) b,.fn (.func g) [] cap] σ (ay (.bool (qx p a b)) σ):=by
 refine ar Tryz.func192 ?_
 refine cX (fun c1=>?_) (fun c1=>?_)
 ·have c1:(!decide ((a.length:Int)=(b.length:Int)))=true:=c1
  exact .done ⟨cy (ZD (by simp at c1;omega)).symm,rfl⟩
 ·have c1:(!decide ((a.length:Int)=(b.length:Int)))=false:=c1
  have hlen:a.length=b.length:=by simp at c1;omega
  refine bQ (S:=Nat) (fun k=>[(0,.ae (.slice (.int .u64)) a),(1,.ae (.slice (.int .u64)) b),(2,.fn (.func g) [] cap),(15,.ae (.slice (.int .u64)) a),(16,.int .i64 a.length),(17,.int .i64 k)]) (fun _=>σ) (fun k=>k≤a.length∧qx p (a.take k) (b.take k)=true) (fun k=>a.length-k) 0 ⟨⟨bA _,rfl⟩,⟨rfl,rfl,rfl,rfl,rfl,rfl,trivial⟩,rfl⟩ ?_
  rintro k t ⟨aK,j0⟩
  have hk:k≤a.length:=aK
  have ht:qx p (a.take k) (b.take k)=true:=j0
  clear aK j0
  refine ak (fun ab=>?_) (fun aq=>?_)
  ·have ab:k<a.length:=by have ab:(k:Int)<a.length:=ab;omega
   have dA:k<b.length:=by omega
   refine aG.mk rfl (bE.mk a[k] (by omega) (get_some ab) ?_)
   refine aG.mk rfl (bE.mk b[k] (by omega) (get_some dA) ?_)
   refine dC [] (hg a[k] (bP ab) b[k] (bP dA)) (fun c2=>?_) (fun c2=>?_)
   ·exact aY (k+1) (by show a.length-(k+1)<a.length-k;omega) ⟨ab,YK ab dA ht c2⟩ ⟨rfl,rfl,rfl,rfl,rfl,aS (by omega),trivial⟩ (.refl _)
   ·exact .done ⟨cy (aaT ab dA c2).symm,rfl⟩
  ·have aq:k=a.length:=by have aq:¬(k:Int)<a.length:=aq;omega
   subst aq
   rw[fA,hlen,fA]at ht
   exact .done ⟨cy ht.symm,rfl⟩
def tP(s:Sy)(a b:List (List Int)):Bool:=decide (cm s=0)&&pJ s a&&pJ s b&&qx (rK s.what s.w) a b
theorem afz(s:Sy)(x y:List Int)(q:Nat)(σ:Hp)(hx:aR x∧x.length≤10000)(hy:aR y∧y.length≤10000):ACalls Tryz.prog 193 [.ae (.int .u64) x,.ae (.int .u64) y,.ptr q 0] ((q,aW s)::σ) (ay (.bool (rK s.what s.w x y)) ((q,aW s)::σ)):=by
 refine ar Tryz.func193 ?_
 refine aa 0 ?_
 refine aa 0 ?_
 refine aw [] (afk s.what s.w x y _ hx.1 hy.1 (eH hx.2 (by decide)) (eH hy.2 (by decide))) ?_
 exact .done ⟨rfl,rfl⟩
theorem LL(s:Sy)(a b:List (List Int))(σ:Hp)(hf:Fit s)(ha:ki a)(hb:ki b):ACalls Tryz.prog 137 [.agg (aW s),.ae (.slice (.int .u64)) a,.ae (.slice (.int .u64)) b] σ (ay (.bool (tP s a b)) σ):=by
 refine ar Tryz.func137 ?_
 intro aB
 refine aa 0 ?_
 refine aw [] (yV s _ hf) ?_
 refine ak (fun c1=>?_) (fun c1=>?_)
 ·have c1:cm s=0:=c1
  refine aa 0 ?_
  refine dC [] (MI s a _ ha) (fun c2=>?_) (fun c2=>?_)
  ·refine aa 0 ?_
   refine dC [] (MI s b _ hb) (fun c3=>?_) (fun c3=>?_)
   ·refine aw [] (TZ 193 [.ptr aB 0] a b (rK s.what s.w) _ (eH ha.1 (by decide)) (fun x hx y hy=>afz s x y aB _ (ha.2 x hx) (hb.2 y hy))) ?_
    exact .drop 0 1 (.done ⟨cy (by unfold tP;rw[aT c1,c2,c3];rfl),rfl⟩)
   ·exact .drop 0 1 (.done ⟨cy (by unfold tP;rw[aT c1,c2,c3];rfl),rfl⟩)
  ·exact .drop 0 1 (.done ⟨cy (by unfold tP;rw[aT c1,c2];rfl),rfl⟩)
 ·have c1:¬cm s=0:=c1
  exact .drop 0 1 (.done ⟨cy (by unfold tP;rw[bS c1];rfl),rfl⟩)
end Go.Proofs.YtnikdflhefijbaaGreat
