import Derived.Test.YtnikdflhefijbaaGreatBr7
namespace Go.Proofs.YtnikdflhefijbaaGreat
open Go.RowKit
set_option maxRecDepth 100000
def lq(a:List Int)(r:n5):Int:=if r.1 = -1 then kS r.2.1.1 r.2.1.2.1 else wd a r.1.toNat
def rz(a:List Int)(c:dD):Int:=if c.2.1 = -1 then 1 else lA c.2.1 (lq a c.2.2.1) (lq a c.2.2.2.1)
def tK(a:List Int)(c:dD):List Int:=a.set c.1.toNat (rz a c)
def iF(a:List Int)(l:List dD):List Int:=l.foldl tK a
theorem My(a:List Int)(c:dD):(tK a c).length=a.length:=dV ..
theorem HE(a:List Int)(l:List dD):(iF a l).length=a.length:=by
 unfold iF
 induction l generalizing a with
 |nil=>rfl
 |cons c l ih=>exact (ih _).trans (My a c)
theorem PG(a:List Int)(l:List dD)(c:dD):iF a (l++[c])=tK (iF a l) c:=by
 unfold iF;rw[uQ];rfl
theorem Re(x y:Int):bP (kS x y):=by
 have h1:=A5 x y
 have h2:=Ei x y
 unfold bP kS;omega
theorem EB{a:List Int}(ha:bX a)(r:n5):bP (lq a r):=by
 unfold lq;split
 ·exact Re _ _
 ·exact lT ha _
theorem ZK(op a b:Int):bP (gK op a b):=by
 unfold gK mz
 split
 ·exact⟨by omega,by omega⟩
 ·split
  ·exact⟨by omega,by omega⟩
  ·split
   ·exact Re _ _
   ·exact⟨by omega,by omega⟩
theorem abo(op a b:Int):bP (lA op a b):=by unfold lA;split <;> exact ZK _ _ _
theorem ZX(a:List Int)(c:dD):bP (rz a c):=by
 unfold rz;split
 ·exact⟨by omega,by omega⟩
 ·exact abo _ _ _
theorem ab8{a:List Int}(ha:bX a){i:Nat}{z:Int}(hz:bP z):bX (a.set i z):=fun x hx=>by
 rcases Ay hx with h | rfl
 ·exact ha x h
 ·exact hz
theorem Jb{a:List Int}(ha:bX a)(l:List dD):bX (iF a l):=by
 unfold iF
 induction l generalizing a with
 |nil=>exact ha
 |cons c l ih=>exact ih (ab8 ha (ZX a c))
theorem Ed{w:Int}{c:dD}(h:ep w c=true):0≤c.1∧c.1<w:=by
 unfold ep at h
 by_cases h1:c.1<0
 ·rw[az h1]at h;exact absurd h (by decide)
 ·by_cases h2:w≤c.1
  ·rw[aA h1,az h2]at h;exact absurd h (by decide)
  ·omega
theorem It{w:Int}{c:dD}(h:ep w c=true): -1≤c.2.1∧(¬c.2.1 = -1→oM w c.2.2.1=true∧oM w c.2.2.2.1=true):=by
 have hv:=Ed h
 unfold ep at h
 rw[aA (by omega),aA (by omega)]at h
 by_cases h1:c.2.1 < -1
 ·rw[az h1]at h;exact absurd h (by decide)
 ·rw[aA h1]at h
  by_cases h2:4<c.2.1
  ·rw[az h2]at h;exact absurd h (by decide)
  ·rw[aA h2]at h
   refine⟨by omega,fun h3=>?_⟩
   rw[aA h3]at h
   exact Bool.and_eq_true_iff.1 h
theorem D5{w:Int}{r:n5}(h:oM w r=true)(h1:¬r.1 = -1):0≤r.1∧r.1<w:=by
 unfold oM at h
 rw[aA h1]at h
 simp at h
 exact h.1
theorem aeB(a:List Int)(r:n5)(q b:Nat)(σ:Hp)(hr:oM a.length r=true):ACalls Tryz.prog 330 [.agg (zy r),.ptr q 0] ((q,[.ah b 0 a.length 1])::(b,aP a)::σ) (aD (.int .u64 (lq a r)) ((q,[.ah b 0 a.length 1])::(b,aP a)::σ)):=by
 refine au Tryz.func330 ?_
 intro aB
 refine aa 0 ?_
 refine aj (fun c2=>?_) (fun c2=>?_)
 ·have c2:r.fst = -1:=c2
  refine aa 0 ?_
  refine ar [] (Fp _ _ _) ?_
  have e:lq a r=kS r.2.1.1 r.2.1.2.1:=az c2
  exact .drop 0 1 (.done ⟨aR e.symm,rfl⟩)
 ·have c2:¬(r.fst = -1):=c2
  refine aa 1 ?_
  refine aa 0 ?_
  have hv:=D5 hr c2
  have e:lq a r=wd a r.1.toNat:=aA c2
  refine aw.mk ⟨rfl,hv.1,hv.2⟩ ?_
  refine aW 2 rfl (zo (i:=r.1.toNat) (by omega) (by omega)) ?_
  exact .drop 0 1 (.done ⟨aR e.symm,rfl⟩)
theorem Th(a:List Int)(n:Nat)(hn:a.length=n)(r:n5)(q b:Nat)(σ:Hp)(hr:oM n r=true):ACalls Tryz.prog 330 [.agg (zy r),.ptr q 0] ((q,[.ah b 0 n 1])::(b,aP a)::σ) (aD (.int .u64 (lq a r)) ((q,[.ah b 0 n 1])::(b,aP a)::σ)):=by
 subst hn
 exact aeB a r q b σ hr
theorem QR(l:List Int)(σ:Hp)(hl:l.length≤1000000):ACalls Tryz.prog 256 [.af (.int .u64) l] σ (fun x σ'=>∃acc,Acc 1 l.length x acc (aP l)∧σ'=acc++σ):=by
 refine D2 (fun h=>⟨?_,?_⟩) (fun h=>?_)
 ·subst h
  refine au Tryz.func256 ?_
  exact .done ⟨[],.nil,rfl⟩
 ·subst h
  refine au Tryz.func256 ?_
  intro b
  refine AppendAt.more 0 b 0 0 [] _ rfl rfl (cp rfl) .gZ (by decide) (by decide) (by decide) (fun b'=>?_)
  exact .done ⟨[(b',[])],.ah b' 0 [] rfl,rfl⟩
 ·refine au Tryz.func256 ?_
  refine aw.mk (mK.2 h) ?_
  intro b
  refine AppendAt.more 0 b 0 l.length [] _ rfl rfl (cp rfl) (.af (.int .u64) l rfl) (by omega) (by decide) (by decide) (fun b'=>?_)
  refine .done ⟨[(b',aP l)],?_,?_⟩
  ·rw[Nat.zero_add];exact .ah b' l.length _ (by simp[aP])
  ·show (b',[]++l.flatMap (Sh.cells (.int .u64)))::σ=_
   rw[jK];rfl
theorem aeu(a:List Int)(l:List dD)(σ:Hp)(ha:bX a)(la:a.length≤10000)(ll:l.length≤1000000)(hl:l.all (ep a.length)=true):ACalls Tryz.prog 302 [.af (.int .u64) a,.af iU l] σ (aD (.af (.int .u64) (iF a l)) σ):=by
 refine au Tryz.func302 ?_
 intro q
 refine aa 0 ?_
 refine .mk [] _ (QR a _ (by omega)) ?_
 rintro v σ' ⟨acc,bS,rfl⟩
 generalize hn:a.length=n at bS la hl
 generalize fw:aP a=cs at bS
 cases bS with
 |nil=>
  have h0:a=[]:=jm.1 hn
  subst h0
  cases l with
  |cons c l=>
   have:=Ed (fN.1 hl c (cF ..))
   exact absurd this (by omega)
  |nil=>
   refine ag 0 ?_
   refine bh (S:=Unit) (fun _=>[(2,.ptr q 0),(12,.int .i64 0),(13,.int .i64 0)]) (fun _=>(q,[.ak])::σ) (fun _=>True) (fun _=>0) () ⟨trivial,⟨rfl,rfl,rfl,trivial⟩,rfl⟩ ?_
   rintro _ _ _
   refine aa 0 ?_
   exact .drop 0 1 (.nil (.nil _) (.done ⟨rfl,rfl⟩))
 |ah b n cs h=>
 subst fw
 refine ag 1 ?_
 refine bh (S:=Nat) (fun s=>[(2,.ptr q 0),(5,.fn (.func 330) [] [.ptr q 0]),(11,.af iU l),(12,.int .i64 l.length),(13,.int .i64 s)]) (fun s=>(b,aP (iF a (l.take s)))::(q,[.ah b 0 n 1])::σ) (fun s=>s≤l.length) (fun s=>l.length-s) 0 ⟨aY _,⟨rfl,rfl,rfl,rfl,rfl,trivial⟩,rfl⟩ ?_
 intro s t lE
 have hs:s≤l.length:=lE
 clear lE
 have hA:bX (iF a (l.take s)):=Jb ha _
 have hlen:(iF a (l.take s)).length=n:=(HE a _).trans hn
 refine aj (fun ab=>?_) (fun aq=>?_)
 ·have ab:s<l.length:=by have ab:(s:Int)<l.length:=ab;omega
  have hd:=PG a (l.take s) l[s]
  rw[← eT ab]at hd
  have np:=fN.1 hl l[s] (cq ab)
  obtain⟨c,hc⟩:∃c:dD,l[s]=c:=⟨_,rfl⟩
  rw[hc]at hd np
  have hv:=Ed np
  have ho:=It np
  refine aw.mk rfl (aX.mk c (by omega) ((get_some ab).trans (congrArg some hc)) ?_)
  clear hc np
  generalize iF a (l.take s)=A at hA hlen hd
  intro cE
  refine ag 0 ?_
  refine aa 0 ?_
  refine aj (p:=c.2.1 = -1) (fun d5=>?_) (fun d5=>?_)
  ·refine aa 2 ?_
   refine aa 0 ?_
   refine aQ ?_
   have qP:rz A c=1:=az d5
   refine cu 1 rfl (qx (i:=c.1.toNat) (by omega) _ (by omega)) ?_
   refine aM (s+1) (by show l.length-(s+1)<l.length-s;omega) ab ⟨rfl,rfl,rfl,rfl,aL (by omega),trivial⟩ (.drop 0 1 (aN ?_))
   rw[hd,tK,qP]
   rfl
  ·have ho2:=ho.2 d5
   have qP:rz A c=lA c.2.1 (lq A c.2.2.1) (lq A c.2.2.2.1):=aA d5
   refine .sched [8,12,13] (upto [8,12,13] 16 0) (by kernel_rfl) ?_
   refine aa 2 ?_
   refine aa 0 ?_
   refine aa 0 ?_
   refine aa 0 ?_
   refine aK [2,1] (Th A n hlen c.2.2.1 q b _ ho2.1) ?_
   refine aa 0 ?_
   refine aK [2,1] (Th A n hlen c.2.2.2.1 q b _ ho2.2) ?_
   refine aK [] (aeC _ _ _ _ (EB hA _) (EB hA _)) ?_
   refine aQ ?_
   refine cu 1 rfl (qx (i:=c.1.toNat) (by omega) _ (by omega)) ?_
   refine aM (s+1) (by show l.length-(s+1)<l.length-s;omega) ab ⟨rfl,rfl,rfl,rfl,aL (by omega),trivial⟩ (.drop 0 1 (aN ?_))
   rw[hd,tK,qP]
   rfl
 ·have aq:s=l.length:=by have aq:¬(s:Int)<l.length:=aq;omega
  subst aq
  rw[dW]at hlen ⊢
  refine aa 1 ?_
  have ik:((aP (iF a l)).drop 0).take (n*1)=(iF a l).flatMap (Sh.cells (.int .u64)):=by
   rw[fG,← jK];exact dN (by rw[aP,cm];omega)
  exact .cH 0 b 0 n 1 _ (.int .u64) (iF a l) rfl ik ⟨hlen,rfl,by decide⟩ .here (.drop 0 1 (.done ⟨rfl,rfl⟩))
theorem PM(a:List Int)(n:Nat)(hn:a.length=n)(r:n5)(b:Nat)(σ:Hp)(hr:oM n r=true):ACalls Tryz.prog 265 [.ah b 0 n 1,.agg (zy r)] ((b,aP a)::σ) (aD (.int .u64 (lq a r)) ((b,aP a)::σ)):=by
 refine au Tryz.func265 ?_
 intro aB
 refine aa 0 ?_
 refine aj (p:=r.1<0) (fun c2=>?_) (fun c2=>?_)
 ·have c3:r.1 = -1:=by
   by_cases h:r.1 = -1
   ·exact h
   ·have:=D5 hr h;omega
  have e:lq a r=kS r.2.1.1 r.2.1.2.1:=az c3
  refine aa 0 ?_
  refine ar [] (BJ _ _ _) ?_
  exact .drop 0 1 (.done ⟨aR e.symm,rfl⟩)
 ·have c3:¬r.1 = -1:=by omega
  have hv:=D5 hr c3
  have e:lq a r=wd a r.1.toNat:=aA c3
  refine aa 0 ?_
  refine aw.mk ⟨rfl,hv.1,hv.2⟩ ?_
  refine aW 1 rfl (zo (i:=r.1.toNat) (by omega) (by omega)) ?_
  exact .drop 0 1 (.done ⟨aR e.symm,rfl⟩)
def oJ(ai:Int)(g k:List Int)(l:List dD)(a:List Int):List Int:=
 if ai=3 then (if (a.any fun z=>decide (0=z))=true then List.replicate a.length 0 else iF a l) else dC ig (dC fH a k) g
theorem HJ{ai:Int}(h:¬ai=3)(g k:List Int)(l:List dD)(a:List Int):oJ ai g k l a=dC ig (dC fH a k) g:=aA h
theorem Hr{ai:Int}(h:ai=3){a:List Int}(h0:(a.any fun z=>decide (0=z))=true)(g k:List Int)(l:List dD):oJ ai g k l a=List.replicate a.length 0:=by unfold oJ;rw[az h,az h0]
theorem H7{ai:Int}(h:ai=3){a:List Int}(h0:(a.any fun z=>decide (0=z))=false)(g k:List Int)(l:List dD):oJ ai g k l a=iF a l:=by unfold oJ;rw[az h,h0];rfl
theorem aaN(ai:Int)(g k:List Int)(l:List dD)(a:List Int)(σ:Hp)(hg:bX g)(hk:bX k)(ha:bX a)(lg:g.length≤10000)(lk:k.length≤10000)(la:a.length≤10000)(ll:l.length≤1000000)(hl:ai=3→l.all (ep a.length)=true):ACalls Tryz.prog 227 [.int .i64 ai,.agg (we g k l),.af (.int .u64) a] σ (aD (.af (.int .u64) (oJ ai g k l a)) σ):=by
 refine au Tryz.func227 ?_
 intro q
 refine cQ (fun c=>?_) (fun c=>?_)
 ·have c:¬(ai=3):=by simpa using c
  rw[HJ c]
  have hm:(dC fH a k).length≤10000:=by rw[pj];omega
  refine .quiet (by kernel_rfl) ?_
  refine aa 0 ?_
  refine aK [] (ab1 a k _ ha hk la lk) ?_
  refine aa 0 ?_
  refine aK [] (ab2 (dC fH a k) g _ (Ba a k) hg hm lg) ?_
  exact .drop 0 1 (.done ⟨rfl,rfl⟩)
 ·have c:ai=3:=by simpa using c
  have hl:=hl c
  intro aB
  refine AppendAt.more 0 aB 0 a.length [] _ rfl rfl (cp rfl) (.af (.int .u64) a rfl) (by omega) (by decide) (by decide) (fun b=>?_)
  have fw:List.take (0*1) []++a.flatMap (Sh.cells (.int .u64))=aP a:=by rw[jK];rfl
  rw[fw,dU]
  refine bh (S:=Nat) (fun s=>[(2,.af (.int .u64) a),(4,.ptr q 0),(7,.ah b 0 a.length 1),(25,.af (.int .u64) a),(26,.int .i64 a.length),(27,.int .i64 s)]) (fun _=>(b,aP a)::(q,we g k l)::σ) (fun s=>s≤a.length∧((a.take s).any fun z=>decide (0=z))=false) (fun s=>a.length-s) 0 ⟨⟨aY _,rfl⟩,⟨rfl,rfl,rfl,rfl,rfl,rfl,trivial⟩,rfl⟩ ?_
  rintro s t ⟨lE,l9⟩
  have hs:s≤a.length:=lE
  have hz:((a.take s).any fun z=>decide (0=z))=false:=l9
  clear lE l9
  refine aj (fun ab=>?_) (fun aq=>?_)
  ·have ab:s<a.length:=by have ab:(s:Int)<a.length:=ab;omega
   have gd:=mQ ab fun z=>decide (0=z)
   rw[hz,mj]at gd
   refine aw.mk rfl (aX.mk a[s] (by omega) (get_some ab) ?_)
   refine aj (p:=a[s]=0) (fun e=>?_) (fun e=>?_)
   ·have h0:(a.any fun z=>decide (0=z))=true:=kv.2 ⟨a[s],cq ab,bj e.symm⟩
    rw[Hr c h0]
    have la2:(a.length:Int)≤1048576:=by omega
    refine aw.mk ⟨GR _,dA _,la2,by decide⟩ ?_
    intro bz
    show Fin _ (.ah bz 0 a.length 1) ((bz,cN [.int .u64 0] a.length)::(b,aP a)::(q,we g k l)::σ)
    rw[tw]
    generalize hZ:List.replicate a.length (0:Int)=Z
    have mc:Z.length=a.length:=by rw[← hZ,gY]
    refine .cH 0 bz 0 _ 1 _ (.int .u64) Z rfl ?_ ⟨mc,rfl,by decide⟩ .here (.drop 0 2 (.done ⟨rfl,rfl⟩))
    rw[fG,← jK]
    exact dN (by rw[aP,cm,mc];omega)
   ·exact aM (s+1) (by show a.length-(s+1)<a.length-s;omega) ⟨ab,gd.trans (cy fun h=>e h.symm)⟩ ⟨rfl,rfl,rfl,rfl,rfl,aL (by omega),trivial⟩ (.refl _)
  ·have aq:s=a.length:=by have aq:¬(s:Int)<a.length:=aq;omega
   subst aq
   rw[dW]at hz
   rw[H7 c hz]
   refine aa 1 ?_
   generalize hn:a.length=n at la hl
   refine bh (S:=Nat) (fun s=>[(7,.ah b 0 n 1),(38,.af iU l),(39,.int .i64 l.length),(40,.int .i64 s)]) (fun s=>(b,aP (iF a (l.take s)))::(q,we g k l)::σ) (fun s=>s≤l.length) (fun s=>l.length-s) 0 ⟨aY _,⟨rfl,rfl,rfl,rfl,trivial⟩,rfl⟩ ?_
   intro s t lE
   have hs:s≤l.length:=lE
   clear lE
   have hA:bX (iF a (l.take s)):=Jb ha _
   have hlen:(iF a (l.take s)).length=n:=(HE a _).trans hn
   refine aj (fun ab=>?_) (fun aq=>?_)
   ·have ab:s<l.length:=by have ab:(s:Int)<l.length:=ab;omega
    have hd:=PG a (l.take s) l[s]
    rw[← eT ab]at hd
    have np:=fN.1 hl l[s] (cq ab)
    obtain⟨c,hc⟩:∃c:dD,l[s]=c:=⟨_,rfl⟩
    rw[hc]at hd np
    have hv:=Ed np
    have ho:=It np
    refine aw.mk rfl (aX.mk c (by omega) ((get_some ab).trans (congrArg some hc)) ?_)
    clear hc np
    generalize iF a (l.take s)=A at hA hlen hd
    intro cE
    refine ag 0 ?_
    refine aa 0 ?_
    refine aj (p:=0≤c.2.1) (fun d5=>?_) (fun d5=>?_)
    ·refine .quiet (by kernel_rfl) ?_
     refine aa 0 ?_
     refine aa 0 ?_
     refine aK [1] (PM A n hlen c.2.2.1 b _ (ho.2 (by omega)).1) ?_
     refine aa 0 ?_
     refine aK [1] (PM A n hlen c.2.2.2.1 b _ (ho.2 (by omega)).2) ?_
     refine aK [] (ac0 _ _ _ _ (EB hA _) (EB hA _)) ?_
     refine aa 0 ?_
     refine aQ ?_
     have qP:rz A c=lA c.2.1 (lq A c.2.2.1) (lq A c.2.2.2.1):=aA (by omega)
     refine cu 1 rfl (qx (i:=c.1.toNat) (by omega) _ (by omega)) ?_
     refine aM (s+1) (by show l.length-(s+1)<l.length-s;omega) ab ⟨rfl,rfl,rfl,aL (by omega),trivial⟩ (.drop 0 1 (aN ?_))
     rw[hd,tK,qP]
     rfl
    ·refine aa 0 ?_
     refine aQ ?_
     have qP:rz A c=1:=az (by omega)
     refine cu 1 rfl (qx (i:=c.1.toNat) (by omega) _ (by omega)) ?_
     refine aM (s+1) (by show l.length-(s+1)<l.length-s;omega) ab ⟨rfl,rfl,rfl,aL (by omega),trivial⟩ (.drop 0 1 (aN ?_))
     rw[hd,tK,qP]
     rfl
   ·have aq:s=l.length:=by have aq:¬(s:Int)<l.length:=aq;omega
    subst aq
    rw[dW]at hlen ⊢
    have ik:((aP (iF a l)).drop 0).take (n*1)=(iF a l).flatMap (Sh.cells (.int .u64)):=by
     rw[fG,← jK];exact dN (by rw[aP,cm];omega)
    exact .cH 0 b 0 n 1 _ (.int .u64) (iF a l) rfl ik ⟨hlen,rfl,by decide⟩ .here (.drop 0 1 (.done ⟨rfl,rfl⟩))
def ua(ai w:Int)(g k:List Int)(l:List dD)(a:List Int):Int:=if fA ai w g k l=0 then (if fO ai w a=true then 0 else 2) else fA ai w g k l
theorem Yt{ai w:Int}{g k:List Int}{l:List dD}{a:List Int}(h:¬fA ai w g k l=0):ua ai w g k l a=fA ai w g k l:=aA h
theorem IT{ai w:Int}{g k:List Int}{l:List dD}{a:List Int}(h:fA ai w g k l=0)(hv:fO ai w a=true):ua ai w g k l a=0:=by unfold ua;rw[az h,az hv]
theorem Ys{ai w:Int}{g k:List Int}{l:List dD}{a:List Int}(h:fA ai w g k l=0)(hv:fO ai w a=false):ua ai w g k l a=2:=by unfold ua;rw[az h,hv];rfl
theorem Iu{ai w:Int}{g k:List Int}{l:List dD}(h:fA ai w g k l=0):dp ai w=true∧vO ai w g k l=true:=by
 unfold fA at h
 cases hi:dp ai w with
 |false=>rw[hi]at h;exact absurd h (by simp)
 |true=>
  rw[hi,az rfl]at h
  cases ht:vO ai w g k l with
  |false=>rw[ht]at h;exact absurd h (by simp)
  |true=>exact⟨rfl,rfl⟩
theorem NP{ai w:Int}{a:List Int}(h:fO ai w a=true)(h3:ai=3):(a.length:Int)=w:=by
 have hl:=EA h
 have hi:dp ai w=true:=by unfold fO at h;simp at h;exact h.1.1
 rw[hl];unfold ej;rw[az hi,az h3]
theorem YD{ai w:Int}{a:List Int}(h:fO ai w a=true)(h3:ai=3):kP ai w=List.replicate a.length 0:=by
 unfold kP
 rw[aA (fun h=>by omega),← EA h,bR]
theorem aam(ai w:Int)(g k:List Int)(l:List dD)(a:List Int)(σ:Hp)(hg:bX g)(hk:bX k)(ha:bX a)(lg:g.length≤10000)(lk:k.length≤10000)(la:a.length≤10000)(ll:l.length≤1000000):ACalls Tryz.prog 276 [.int .i64 ai,.int .i64 w,.agg (we g k l),.af (.int .u64) a] σ (aD (.tup [.af (.int .u64) (rN (ua ai w g k l a) (oJ ai g k l a)),.int .i64 (ua ai w g k l a)]) σ):=by
 refine au Tryz.func276 ?_
 have hm:(dC fH a k).length≤10000:=by rw[pj];omega
 intro aB
 refine aa 0 ?_
 refine ar [] (IZ ai w g k l _ hg hk lg lk ll) ?_
 refine cQ (fun c2=>?_) (fun c2=>?_)
 ·have c2:¬(fA ai w g k l=0):=by simpa using c2
  rw[Yt c2,EJ c2]
  exact .nil (cc (.nil _) (.refl _)) (.drop 0 1 (.done ⟨rfl,rfl⟩))
 ·have c2:fA ai w g k l=0:=by simpa using c2
  refine dr [] (Gb ai w a _ ha (by omega)) (fun cV=>?_) (fun cV=>?_)
  ·refine cQ (fun c3=>?_) (fun c3=>?_)
   ·have c3:¬(ai=3):=by simpa using c3
    refine .quiet (by kernel_rfl) ?_
    refine aa 0 ?_
    refine aK [] (RH a k _ (by omega) (by omega)) ?_
    refine aa 0 ?_
    refine aK [] (abO (dC fH a k) g _ (by omega) (by omega)) ?_
    rw[IT c2 cV,Bl rfl,HJ c3]
    exact .drop 0 1 (.done ⟨rfl,rfl⟩)
   ·have c3:ai=3:=by simpa using c3
    refine dr [] (VM a 0 _ (by omega)) (fun cZ=>?_) (fun cZ=>?_)
    ·refine ar [] (Iy ai w _) ?_
     rw[IT c2 cV,Bl rfl,Hr c3 cZ,← YD cV c3]
     exact .drop 0 1 (.done ⟨rfl,rfl⟩)
    ·refine aa 0 ?_
     have Lr:l.all (ep a.length)=true:=by
      have ht:=(Iu c2).2
      rw[uj c3,b9]at ht
      rw[NP cV c3];exact ht.2
     rw[IT c2 cV,Bl rfl,H7 c3 cZ]
     refine ar [] (aeu a l _ ha la ll Lr) ?_
     exact .drop 0 1 (.done ⟨rfl,rfl⟩)
  ·rw[Ys c2 cV,EJ (by decide)]
   exact .nil (cc (.nil _) (.refl _)) (.drop 0 1 (.done ⟨rfl,rfl⟩))
def rG(a:List Int)(i k:Nat):Bool:=(wd a i).toNat.testBit k
theorem Ib(k:Nat):(0:Int).toNat.testBit k=false:=Nat.zero_testBit k
theorem R2(a b:List Int):bX (dC ig a b):=Bv fun _ _=>Rc _ _
theorem abl{a b:List Int}(ha:bX a)(hb:bX b)(i k:Nat):rG (dC ig a b) i k=(rG a i k||rG b i k):=by
 unfold rG
 rcases s6 i (max a.length b.length) with h | h
 ·rw[xm _ _ _ h,Qj (lT ha i) (lT hb i)]
 ·rw[xo (by rw[pj];exact h),xo (a:=a) (by omega),xo (a:=b) (by omega),Ib];rfl
theorem abL{a b:List Int}(ha:bX a)(hb:bX b)(i:Nat){k:Nat}(hk:k<64):rG (dC fH a b) i k=(rG a i k&&!rG b i k):=by
 unfold rG
 rcases s6 i (max a.length b.length) with h | h
 ·rw[xm _ _ _ h,EP (lT ha i) (lT hb i) hk]
 ·rw[xo (by rw[pj];exact h),xo (a:=a) (by omega),Ib];rfl
theorem vw{a:List Int}{w:Int}(h:fW a w=true):a.length=dK w:=by
 unfold fW at h;rw[b9]at h;exact fk h.1
theorem yN{a:List Int}{w:Int}(ha:bX a)(hl:a.length=dK w):fW a w=true↔∀i k,i<a.length→k<64→eC w≤64*i+k→rG a i k=false:=by
 rw[H2 ha hl]
 unfold hasB rG
 constructor
 ·intro h i k hi hk hc
  have:=h (64*i+k) hc (by omega)
  rw[show (64*i+k) / 64=i by omega,show (64*i+k) % 64=k by omega]at this
  exact this
 ·intro h n h1 h2
  exact h (n / 64) (n % 64) (by omega) (by omega) (by omega)
theorem ZJ{a b:List Int}{w:Int}(ha:bX a)(hb:bX b)(fa:fW a w=true)(fb:fW b w=true):fW (dC ig a b) w=true:=by
 have la:=vw fa
 have lb:=vw fb
 have hl:(dC ig a b).length=dK w:=by rw[pj];omega
 rw[yN (R2 _ _) hl]
 intro i k hi hk hc
 rw[abl ha hb,(yN ha la).1 fa i k (by omega) hk hc,(yN hb lb).1 fb i k (by omega) hk hc];rfl
theorem aaa{a b:List Int}{w:Int}(ha:bX a)(hb:bX b)(fa:fW a w=true)(lb:b.length≤dK w):fW (dC fH a b) w=true:=by
 have la:=vw fa
 have hl:(dC fH a b).length=dK w:=by rw[pj];omega
 rw[yN (Ba _ _) hl]
 intro i k hi hk hc
 rw[abL ha hb i hk,(yN ha la).1 fa i k (by omega) hk hc];rfl
def NZ(a:List Int):Prop:=∀z∈a,aS z=z∧z≠0
theorem QU{a:List Int}{i:Nat}(h:i<a.length):wd a i∈a:=by rw[oE a h];exact cq h
theorem Pg(x y:Int):aS (kS x y)=kS x y∧kS x y≠0:=⟨norm_num (abq x y),by have:=abr x y;omega⟩
theorem P5{a:List Int}(h:NZ a){r:n5}(hr:oM a.length r=true):aS (lq a r)=lq a r∧lq a r≠0:=by
 unfold lq
 split
 ·exact Pg _ _
 ·rename_i h1
  have hv:=D5 hr h1
  exact h _ (QU (by omega))
theorem Zy(op a b:Int):aS (mz op a b)=mz op a b∧mz op a b≠0:=by
 unfold mz
 split
 ·exact Pg _ _
 ·exact⟨rfl,by decide⟩
theorem Ql(op:Int){a b:Int}(ha:aS a≠0)(hb:aS b≠0):aS (gK op a b)=gK op a b∧gK op a b≠0:=by
 unfold gK
 rw[aA (by omega)]
 split
 ·exact⟨rfl,by decide⟩
 ·exact Zy _ _ _
theorem abn(op:Int){a b:Int}(ha:aS a≠0)(hb:aS b≠0):aS (lA op a b)=lA op a b∧lA op a b≠0:=by
 unfold lA
 split
 ·exact Ql _ ha (by rw[En];decide)
 ·exact Ql _ ha hb
theorem ZW{a:List Int}(h:NZ a){c:dD}(hc:ep a.length c=true):aS (rz a c)=rz a c∧rz a c≠0:=by
 unfold rz
 split
 ·exact⟨rfl,by decide⟩
 ·rename_i h1
  have ho:=(It hc).2 h1
  have h1:=P5 h ho.1
  have h2:=P5 h ho.2
  exact abn _ (by rw[h1.1];exact h1.2) (by rw[h2.1];exact h2.2)
theorem Xx{a:List Int}(h:NZ a){c:dD}(hc:ep a.length c=true):NZ (tK a c):=fun z hz=>by
 rcases Ay hz with h' | rfl
 ·exact h z h'
 ·exact ZW h hc
theorem Yw(a:List Int)(c:dD)(l:List dD):iF a (c::l)=iF (tK a c) l:=rfl
theorem all_cons{α:Type}{p:α→Bool}{c:α}{l:List α}(h:(c::l).all p=true):p c=true∧l.all p=true:=by
 rw[List.all_cons,b9]at h;exact h
theorem Rr:∀{l:List dD} {a:List Int},NZ a→l.all (ep a.length)=true→NZ (iF a l)
 | [],_,h,_=>h
 |c::l,a,h,hl=>by
  have hl:=all_cons hl
  rw[Yw]
  exact Rr (Xx h hl.1) (by rw[My];exact hl.2)
theorem QW{ai w:Int}{g k:List Int}{l:List dD}(h:fA ai w g k l=0)(h3:¬ai=3):fW g w=true∧fW k w=true∧l=[]:=by
 have h:=(Iu h).2
 rw[pP h3,b9,b9]at h
 exact⟨h.1.2,h.2,jm.1 (fk h.1.1)⟩
theorem P8{ai w:Int}{g k:List Int}{l:List dD}(h:fA ai w g k l=0)(h3:ai=3):g=[]∧k=[]∧l.all (ep w)=true:=by
 have h:=(Iu h).2
 rw[uj h3,b9]at h
 have h0:=fk h.1
 exact⟨jm.1 (by omega),jm.1 (by omega),h.2⟩
theorem NN{ai w:Int}(hi:dp ai w=true)(h3:¬ai=3):ej ai w=dK w:=by unfold ej;rw[az hi,aA h3]
theorem M6{ai w:Int}(hi:dp ai w=true)(h3:ai=3):ej ai w=w:=by unfold ej;rw[az hi,az h3]
theorem I5{ai w:Int}{a:List Int}(h:fO ai w a=true):dp ai w=true:=by unfold fO at h;rw[b9,b9]at h;exact h.1.1
theorem yS{ai w:Int}{a:List Int}(hi:dp ai w=true)(h3:¬ai=3):fO ai w a=true↔fW a w=true:=by
 unfold fO
 rw[aA h3,hi,yj,b9,NN hi h3]
 refine⟨fun h=>h.2,fun h=>⟨bj ?_,h⟩⟩
 rw[vw h]
theorem A7{ai w:Int}{a:List Int}(hi:dp ai w=true)(h3:ai=3):fO ai w a=true↔(a.length:Int)=w∧okW a=true:=by
 unfold fO
 rw[az h3,hi,yj,b9,M6 hi h3,decide_eq_true_eq]
theorem Bk{a:List Int}:okW a=true↔∀z∈a,aS z=z:=by unfold okW;rw[fN];exact forall₂_congr fun _ _=>decide_eq_true_iff
theorem any_zero{a:List Int}:(a.any fun z=>decide (0=z))=true↔0∈a:=by
 rw[kv]
 exact⟨fun ⟨z,hz,h⟩=>(fk h)▸hz,fun h=>⟨0,h,bj rfl⟩⟩
theorem acy{a:List Int}(h:okW a=true)(h0:(a.any fun z=>decide (0=z))=false):NZ a:=fun z hz=>⟨Bk.1 h z hz,fun e=>by subst e;rw[any_zero.2 hz]at h0;exact Bool.noConfusion h0⟩
theorem Pe(n:Nat):okW (List.replicate n 0)=true:=Bk.2 fun z hz=>by rw[(List.mem_replicate.1 hz).2];rfl
theorem I6(n:Nat):bX (List.replicate n (0:Int)):=fun z hz=>by rw[(List.mem_replicate.1 hz).2];exact⟨by omega,by omega⟩
theorem W3{ai:Int}{g k:List Int}{l:List dD}{a:List Int}(ha:bX a):bX (oJ ai g k l a):=by
 unfold oJ
 split
 ·split
  ·exact I6 _
  ·exact Jb ha l
 ·exact R2 _ _
theorem TF{ai w:Int}{g k:List Int}{l:List dD}{a:List Int}(hc:fA ai w g k l=0)(hv:fO ai w a=true):(oJ ai g k l a).length=a.length:=by
 unfold oJ
 split
 ·split
  ·exact gY
  ·exact HE _ _
 ·rename_i h3
  have hf:=QW hc h3
  have h1:=vw hf.1
  have h2:=vw hf.2.1
  have h3:=vw ((yS (I5 hv) h3).1 hv)
  rw[pj,pj];omega
theorem W2{ai w:Int}{g k:List Int}{l:List dD}{a:List Int}(hg:bX g)(hk:bX k)(ha:bX a)(hc:fA ai w g k l=0)(hv:fO ai w a=true):fO ai w (oJ ai g k l a)=true:=by
 have hi:=I5 hv
 by_cases h3:ai=3
 ·have uB:=(A7 hi h3).1 hv
  rw[A7 hi h3,TF hc hv]
  refine⟨uB.1,?_⟩
  have hl:=(P8 hc h3).2.2
  cases hz:a.any fun z=>decide (0=z) with
  |true=>rw[Hr h3 hz];exact Pe _
  |false=>
   rw[H7 h3 hz]
   exact Bk.2 fun z hm=>(Rr (acy uB.2 hz) (by rw[uB.1];exact hl) z hm).1
 ·have hf:=QW hc h3
  have uB:=(yS hi h3).1 hv
  rw[yS hi h3,HJ h3]
  exact ZJ (Ba _ _) hg (aaa ha hk uB (Aj (vw hf.2.1))) hf.1
theorem Vk(a b:Int):aS (nJ a b)=nJ a b:=by
 have hn:∀w,aS (aS w)=aS w:=fun w=>by
  unfold aS
  by_cases h0:w=0
  ·simp[h0]
  ·by_cases h1:w=1
   ·simp[h1]
   ·cases hk:eA w with
    |true=>simp[h0,h1,hk]
    |false=>simp[h0,h1]
 unfold nJ
 split
 ·exact hn _
 ·split
  ·exact hn _
  ·rfl
theorem ZV{a:List Int}(h:okW a=true){i:Nat}(hi:i<a.length):aS (wd a i)=wd a i:=Bk.1 h _ (QU hi)
theorem VF{f:FuncId}{xs:List AV}{σ:Hp}{R R':AV→Hp→Prop}(h:ACalls Tryz.prog f xs σ R)(hv:∀r σ',R r σ'→r.leaf=true∧R' (.via r) σ'):ACalls Tryz.prog f xs σ R':=
 ⟨h.1,fun F w vs cg aJ=>(h.2 F w vs cg aJ).mono fun _ _ ⟨r,v,σ',F',h1,h2,h3,h4,h5⟩=>⟨.via r,v,σ',F',h1,h2,h3,.via _ _ (hv r σ' h5).1 h4,(hv r σ' h5).2⟩⟩
theorem Jy{n:Int}(h:bP n):bX [n]:=fun z hz=>by rw[bE.1 hz];exact h
theorem HK{f:FuncId}{xs ys:List AV}{σ:Hp}{R:AV→Hp→Prop}(h:eI 0 0 0 0 .bool [] (.tup xs) (.tup ys))(hc:ACalls Tryz.prog f ys σ R):ACalls Tryz.prog f xs σ R:=
 ⟨hc.1,fun F w vs cg aJ=>hc.2 F w vs (by
  have:=w8 (.refl F w) (fun v hv=>by
   obtain⟨a,cap,rfl,c,T,fz,m1,m2,m3,m4⟩:=hv.lh
   exact .af _ _ _ ⟨some a,cap,rfl,m2,m3,(fun e=>by cases e),fun bc=>absurd rfl bc⟩) h (.tuple vs) (.tup xs vs cg.1 cg.2)
  cases this with
  |tup _ _ h1 h2=>exact⟨h1,h2⟩) aJ⟩
abbrev cb:Sh:=.field (.int .i64) (.field (.int .i64) .nil)
abbrev aT:Type:=Int×Int×Unit
abbrev lM:Type:=List Int×List Int×List dD×Unit
abbrev RW:Sh:=.field (.int .i64) (.field (.int .i64) (.field (.int .i64) (.field (.slice cb) (.field (.slice (.int .i64)) (.field (.slice (.int .u64)) (.field (.slice jL) .nil))))))
structure Sy where
 ai:Int
 w:Int
 n:Int
 cI:List aT
 entry:List Int
 init:List Int
 T:List lM
abbrev a7(s:Sy):List AV:=[.int .i64 s.ai,.int .i64 s.w,.int .i64 s.n,.af cb s.cI,.af (.int .i64) s.entry,.af (.int .u64) s.init,.af jL s.T]
def adw(x:RW.T):Sy:=⟨x.1,x.2.1,x.2.2.1,x.2.2.2.1,x.2.2.2.2.1,x.2.2.2.2.2.1,x.2.2.2.2.2.2.1⟩
def okT(t:lM):Prop:=bX t.1∧bX t.2.1∧t.1.length≤10000∧t.2.1.length≤10000∧t.2.2.1.length≤100000
structure Fit(s:Sy):Prop where
 i64:bX s.init
 Cc:s.init.length≤10000
 ub:s.cI.length≤100000
 vQ:s.entry.length≤100000
 tS:s.T.length≤100000
 ts:∀t∈s.T,okT t
def cD(n a:Int):Bool:=decide (0≤a)&&decide (a<n)
theorem FB(n a:Int)(σ:Hp):ACalls Tryz.prog 206 [.int .i64 n,.int .i64 a] σ (aD (.bool (cD n a)) σ):=by
 refine au Tryz.func206 ?_
 refine aj (fun c1=>?_) (fun c1=>?_)
 ·have c1:0≤a:=c1
  refine aj (fun c2=>?_) (fun c2=>?_)
  ·have c2:a<n:=c2
   exact .done ⟨cd (by unfold cD;simp;omega),rfl⟩
  ·have c2:¬(a<n):=c2
   exact .done ⟨cd (by unfold cD;simp;omega),rfl⟩
 ·have c1:¬(0≤a):=c1
  exact .done ⟨cd (by unfold cD;simp;omega),rfl⟩
def zr(e:aT):AV:=.agg [.int .i64 e.1,.int .i64 e.2.1]
theorem aax(n:Int)(e:aT)(q:Nat)(σ:Hp):ACalls Tryz.prog 205 [zr e,.ptr q 0] ((q,[.int .i64 n])::σ) (aD (.bool (!(cD n e.1&&cD n e.2.1))) ((q,[.int .i64 n])::σ)):=by
 refine au Tryz.func205 ?_
 unfold zr
 intro aB
 refine aa 1 ?_
 refine aa 0 ?_
 refine dr [] (FB n e.1 _) (fun c1=>?_) (fun c1=>?_)
 ·refine aa 1 ?_
  refine aa 0 ?_
  refine dr [] (FB n e.2.1 _) (fun c2=>?_) (fun c2=>?_)
  ·exact .drop 0 1 (.done ⟨cd (by rw[c1,c2];rfl),rfl⟩)
  ·exact .drop 0 1 (.done ⟨cd (by rw[c1,c2];rfl),rfl⟩)
 ·exact .drop 0 1 (.done ⟨cd (by rw[c1];rfl),rfl⟩)
theorem Y6(g:Nat)(cap:List AV)(l:List (Sh.T cb))(p:Sh.T cb→Bool)(σ:Hp)(hl:l.length≤1000000)(hg:∀(i:Nat) (hi:i<l.length),ACalls Tryz.prog g (zr l[i]::cap) σ (aD (.bool (p l[i])) σ)):ACalls Tryz.prog 252 [.af cb l,.fn (.func g) [] cap] σ (fun r σ'=>∃n:Int,r=.int .i64 n∧σ'=σ∧decide (0≤n)=l.any p):=by
 refine au Tryz.func252 ?_
 refine bh (S:=Nat) (fun s=>[(0,.af cb l),(1,.fn (.func g) [] cap),(7,.int .i64 l.length),(8,.int .i64 s)]) (fun _=>σ) (fun s=>s≤l.length∧(l.take s).any p=false) (fun s=>l.length-s) 0 ⟨⟨aY _,rfl⟩,⟨rfl,rfl,rfl,rfl,trivial⟩,rfl⟩ ?_
 rintro k t ⟨aO,fF⟩
 have hk:k≤l.length:=aO
 have hn:(l.take k).any p=false:=fF
 clear aO fF
 refine aj (fun ab=>?_) (fun aq=>?_)
 ·have ab:k<l.length:=by have ab:(k:Int)<l.length:=ab;omega
  have hs:=mQ ab p
  rw[hn,mj]at hs
  refine aw.mk rfl (aX.mk l[k] (by omega) (get_some ab) ?_)
  refine dr [] (hg k ab) (fun c=>?_) (fun c=>?_)
  ·have hp:l.any p=true:=kv.2 ⟨l[k],cq ab,c⟩
   exact .done ⟨_,rfl,rfl,by rw[hp];exact bj (by omega)⟩
  ·exact aM (k+1) (by show l.length-(k+1)<l.length-k;omega) ⟨ab,hs.trans c⟩ ⟨rfl,rfl,rfl,aL (by omega),trivial⟩ (.refl _)
 ·have aq:k=l.length:=by have aq:¬(k:Int)<l.length:=aq;omega
  subst aq
  rw[dW]at hn
  exact .done ⟨_,rfl,rfl,by rw[hn];rfl⟩
theorem M4(g:Nat)(cap:List AV)(l:List (Sh.T cb))(p:Sh.T cb→Bool)(σ:Hp)(hl:l.length≤1000000)(hg:∀(i:Nat) (hi:i<l.length),ACalls Tryz.prog g (zr l[i]::cap) σ (aD (.bool (p l[i])) σ)):ACalls Tryz.prog 204 [.af cb l,.fn (.func g) [] cap] σ (aD (.bool (l.any p)) σ):=by
 refine au Tryz.func204 ?_
 refine .mk [] _ (Y6 g cap l p _ hl hg) ?_
 rintro _ _ ⟨n,rfl,rfl,hn⟩
 rw[← hn]
 refine aj (fun c=>?_) (fun c=>?_)
 ·have c:0≤n:=c
  rw[bj c]
  exact .done ⟨rfl,rfl⟩
 ·have c:¬0≤n:=c
  rw[cy c]
  exact .done ⟨rfl,rfl⟩
def ek(n:Int)(l:List aT):Bool:=decide (1≤n)&&decide (n≤256)&&decide (l.length≤1024)&&l.all fun e=>cD n e.1&&cD n e.2.1
theorem Sr{n:Int}(l:List aT){b:Bool}(h:(l.any fun e=> !(cD n e.1&&cD n e.2.1))=b):(l.all fun e=>cD n e.1&&cD n e.2.1) = !b:=by rw[ER,h]
theorem BC(n:Int)(l:List aT)(σ:Hp)(hl:l.length≤1000000):ACalls Tryz.prog 150 [.int .i64 n,.af cb l] σ (aD (.bool (ek n l)) σ):=by
 refine au Tryz.func150 ?_
 intro aB
 refine aa 0 ?_
 refine aj (fun c2=>?_) (fun c2=>?_)
 ·have c2:n<1:=c2
  exact .drop 0 1 (.done ⟨cd (by unfold ek;simp;omega),rfl⟩)
 ·have c2:¬(n<1):=c2
  refine aa 0 ?_
  refine aj (fun c3=>?_) (fun c3=>?_)
  ·have c3:256<n:=c3
   exact .drop 0 1 (.done ⟨cd (by unfold ek;simp;omega),rfl⟩)
  ·have c3:¬(256<n):=c3
   refine aj (fun c4=>?_) (fun c4=>?_)
   ·have c4:1024<(↑l.length:Int):=c4
    exact .drop 0 1 (.done ⟨cd (by unfold ek;simp;omega),rfl⟩)
   ·have c4:¬(1024<(↑l.length:Int)):=c4
    refine dr [] (M4 205 [.ptr aB 0] l (fun e=> !(cD n e.1&&cD n e.2.1)) _ hl (fun i hi=>aax n l[i] aB _)) (fun cL=>?_) (fun cL=>?_)
    ·exact .drop 0 1 (.done ⟨cd (by unfold ek;rw[Sr l cL];simp),rfl⟩)
    ·exact .drop 0 1 (.done ⟨cd (by unfold ek;rw[Sr l cL];simp;omega),rfl⟩)
def xp(ai w:Int):Int:=if dp ai w=true then (if ai=3 then 2*w else w) else 0
theorem Y5(ai w:Int)(σ:Hp):ACalls Tryz.prog 131 [.int .i64 ai,.int .i64 w] σ (aD (.int .i64 (xp ai w)) σ):=by
 refine au Tryz.func131 ?_
 refine dr [] (Ga ai w _) (fun c0=>?_) (fun c0=>?_)
 ·refine aj (fun c1=>?_) (fun c1=>?_)
  ·have c1:ai=3:=c1
   exact .done ⟨aR (by unfold dp at c0;simp at c0;unfold xp;rw[if_pos (qv (by omega)),if_pos c1,fP (by omega)]),rfl⟩
  ·have c1:¬(ai=3):=c1
   exact .done ⟨aR (by unfold xp;rw[az c0,aA c1]),rfl⟩
 ·exact .done ⟨aR (by unfold xp;rw[c0];rfl),rfl⟩
theorem WD(w:Int):fW (fC w) w=true:=by
 unfold fW
 rw[bj (nz w),yj,fN]
 intro i hi
 have hi:=gq.1 hi
 rw[nz]at hi
 rw[decide_eq_true_eq,Es w hi,bR]
 have:=Ao (min 64 (eC w-64*i))
 omega
theorem QE{ai w:Int}(h:dp ai w=true):fO ai w (kP ai w)=true:=by
 by_cases h3:ai=3
 ·rw[A7 h h3]
  unfold kP
  rw[aA (fun h=>by omega),M6 h h3]
  unfold dp at h;simp at h
  exact⟨by rw[gY];omega,Pe _⟩
 ·rw[yS h h3]
  unfold kP
  split
  ·exact WD w
  ·rw[NN h h3,bR]
   refine (yN (I6 _) gY).2 fun i k hi _ _=>?_
   unfold rG
   rw[oE _ hi,List.getElem_replicate];exact Ib k
theorem Rw(ai w:Int):bX (kP ai w):=by
 unfold kP;split
 ·exact PA w
 ·exact I6 _
theorem aa6(ai w:Int):(kP ai w).length≤1024:=by
 unfold kP;split
 ·rw[nz];have:=xj w;omega
 ·rw[gY];have:=xf ai w;omega
def eG(s:Sy):Int:=if dp s.ai s.w=true then (if ek s.n s.cI=true∧(s.T.length:Int)=s.n then (if (s.entry.any fun v=> !cD s.n v)=true then 1 else if fO s.ai s.w s.init=true then (if (s.T.any fun t=> !decide (fA s.ai s.w t.1 t.2.1 t.2.2.1=0))=true then 2 else 0) else 2) else 1) else 10
theorem Rt{s:Sy}(h:dp s.ai s.w=false):10=eG s:=by unfold eG;rw[h];rfl
theorem zt{s:Sy}(hi:dp s.ai s.w=true)(h:¬(ek s.n s.cI=true∧(s.T.length:Int)=s.n)):1=eG s:=by unfold eG;rw[az hi,aA h]
theorem zd{s:Sy}(hi:dp s.ai s.w=true)(h:ek s.n s.cI=true∧(s.T.length:Int)=s.n)(he:(s.entry.any fun v=> !cD s.n v)=true):1=eG s:=by unfold eG;rw[az hi,az h,az he]
theorem JL{s:Sy}(hi:dp s.ai s.w=true)(h:ek s.n s.cI=true∧(s.T.length:Int)=s.n)(he:(s.entry.any fun v=> !cD s.n v)=false)(hv:fO s.ai s.w s.init=false):2=eG s:=by unfold eG;rw[az hi,az h,he,hv];rfl
theorem Jc{s:Sy}(hi:dp s.ai s.w=true)(h:ek s.n s.cI=true∧(s.T.length:Int)=s.n)(he:(s.entry.any fun v=> !cD s.n v)=false)(hv:fO s.ai s.w s.init=true)(ht:(s.T.any fun t=> !decide (fA s.ai s.w t.1 t.2.1 t.2.2.1=0))=true):2=eG s:=by unfold eG;rw[az hi,az h,he,hv,ht];rfl
theorem Ft{s:Sy}(hi:dp s.ai s.w=true)(h:ek s.n s.cI=true∧(s.T.length:Int)=s.n)(he:(s.entry.any fun v=> !cD s.n v)=false)(hv:fO s.ai s.w s.init=true)(ht:(s.T.any fun t=> !decide (fA s.ai s.w t.1 t.2.1 t.2.2.1=0))=false):0=eG s:=by unfold eG;rw[az hi,az h,he,hv,ht];rfl
theorem OH(s:Sy)(σ:Hp)(hf:Fit s):ACalls Tryz.prog 84 [.agg (a7 s)] σ (aD (.int .i64 (eG s)) σ):=by
 refine au Tryz.func84 ?_
 intro aB
 refine .quiet (by kernel_rfl) ?_
 refine aa 0 ?_
 refine aa 0 ?_
 refine aK [] (Y5 _ _ _) ?_
 refine aj (fun c1=>?_) (fun c1=>?_)
 ·have c1:xp s.ai s.w=0:=c1
  refine aa 0 ?_
  refine aa 0 ?_
  refine aa 0 ?_
  refine aa 0 ?_
  refine aK [] (Iy _ _ _) ?_
  refine Rv [] (Gb s.ai s.w (kP s.ai s.w) _ (Rw _ _) (ey (aa6 _ _) (by decide))) (fun c2=>?_) (fun c2=>?_)
  ·have hi:=I5 c2
   refine aa 0 ?_
   refine aa 0 ?_
   refine dr [] (BC s.n s.cI _ (ey hf.ub (by decide))) (fun cr=>?_) (fun cr=>?_)
   ·refine aa 0 ?_
    refine aa 0 ?_
    refine cQ (fun ct=>?_) (fun ct=>?_)
    ·have ct:(!decide ((s.T.length:Int)=s.n))=true:=ct
     have ct:¬(s.T.length:Int)=s.n:=by simpa using ct
     exact .fwd 1 (.drop 0 1 (.done ⟨aR (zt hi fun h=>ct h.2),rfl⟩))
    ·have ct:(!decide ((s.T.length:Int)=s.n))=false:=ct
     have ct:(s.T.length:Int)=s.n:=by simpa using ct
     have hr:ek s.n s.cI=true∧(s.T.length:Int)=s.n:=⟨cr,ct⟩
     refine aa 0 ?_
     refine bh (S:=Nat) (fun k=>[(1,.ptr aB 0),(3,.int .i64 1),(42,.af (.int .i64) s.entry),(43,.int .i64 s.entry.length),(44,.int .i64 k)]) (fun _=>(aB,a7 s)::σ) (fun k=>k≤s.entry.length∧((s.entry.take k).any fun v=> !cD s.n v)=false) (fun k=>s.entry.length-k) 0 ⟨⟨aY _,rfl⟩,⟨rfl,rfl,rfl,rfl,rfl,trivial⟩,rfl⟩ ?_
     rintro k g ⟨aO,gp⟩
     have hk:k≤s.entry.length:=aO
     have ha:((s.entry.take k).any fun v=> !cD s.n v)=false:=gp
     clear aO gp
     refine aj (fun ab=>?_) (fun aq=>?_)
     ·have ab:k<s.entry.length:=by have ab:(k:Int)<s.entry.length:=ab;omega
      have hs:=mQ ab fun v=> !cD s.n v
      rw[ha,mj]at hs
      have ng:cD s.n s.entry[k]=false→(s.entry.any fun v=> !cD s.n v)=true:=fun h=>kv.2 ⟨s.entry[k],cq ab,by rw[h];rfl⟩
      refine aw.mk rfl (aX.mk s.entry[k] (by omega) (get_some ab) ?_)
      refine aj (p:=s.entry[k]<0) (fun d1=>?_) (fun d1=>?_)
      ·exact .fwd 1 (.drop 0 1 (.done ⟨aR (zd hi hr (ng (by unfold cD;simp;omega))),rfl⟩))
      ·refine aa 0 ?_
       refine aj (p:=s.n≤s.entry[k]) (fun d2=>?_) (fun d2=>?_)
       ·exact .fwd 1 (.drop 0 1 (.done ⟨aR (zd hi hr (ng (by unfold cD;simp;omega))),rfl⟩))
       ·exact aM (k+1) (by show s.entry.length-(k+1)<s.entry.length-k;omega) ⟨ab,hs.trans (by unfold cD;simp;omega)⟩ ⟨rfl,rfl,rfl,rfl,aL (by have:=hf.vQ;omega),trivial⟩ (.refl _)
     ·have aq:k=s.entry.length:=by have aq:¬(k:Int)<s.entry.length:=aq;omega
      subst aq
      rw[dW]at ha
      refine aa 0 ?_
      refine aa 0 ?_
      refine aa 0 ?_
      refine dr [] (Gb s.ai s.w s.init _ hf.i64 (ey hf.Cc (by decide))) (fun cv=>?_) (fun cv=>?_)
      ·refine aa 0 ?_
       refine bh (S:=Nat) (fun k=>[(1,.ptr aB 0),(3,.int .i64 2),(66,.af jL s.T),(67,.int .i64 s.T.length),(68,.int .i64 k)]) (fun _=>(aB,a7 s)::σ) (fun k=>k≤s.T.length∧((s.T.take k).any fun t=> !decide (fA s.ai s.w t.1 t.2.1 t.2.2.1=0))=false) (fun k=>s.T.length-k) 0 ⟨⟨aY _,rfl⟩,⟨rfl,rfl,rfl,rfl,rfl,trivial⟩,rfl⟩ ?_
       rintro k g ⟨aO,iM⟩
       have hk:k≤s.T.length:=aO
       have ht:((s.T.take k).any fun t=> !decide (fA s.ai s.w t.1 t.2.1 t.2.2.1=0))=false:=iM
       clear aO iM
       refine aj (fun ab=>?_) (fun aq=>?_)
       ·have ab:k<s.T.length:=by have ab:(k:Int)<s.T.length:=ab;omega
        have hs:=mQ ab fun t=> !decide (fA s.ai s.w t.1 t.2.1 t.2.2.1=0)
        rw[ht,mj]at hs
        have ho:=hf.ts _ (cq ab)
        have hm:=cq ab
        obtain⟨t,dR⟩:∃t:lM,s.T[k]=t:=⟨_,rfl⟩
        rw[dR]at hs ho hm
        refine aw.mk rfl (aX.mk t (by omega) ((get_some ab).trans (congrArg some dR)) ?_)
        intro cE
        refine ag 0 ?_
        refine aa 1 ?_
        refine aa 1 ?_
        refine aa 0 ?_
        refine ar [] (IZ s.ai s.w t.1 t.2.1 t.2.2.1 _ ho.1 ho.2.1 ho.2.2.1 ho.2.2.2.1 (ey ho.2.2.2.2 (by decide))) ?_
        refine cQ (fun d1=>?_) (fun d1=>?_)
        ·exact .fwd 1 (.drop 0 2 (.done ⟨aR (Jc hi hr ha cv (kv.2 ⟨t,hm,d1⟩)),rfl⟩))
        ·exact aM (k+1) (by show s.T.length-(k+1)<s.T.length-k;omega) ⟨ab,hs.trans d1⟩ ⟨rfl,rfl,rfl,rfl,aL (by have:=hf.tS;omega),trivial⟩ (.drop 0 1 (.refl _))
       ·have aq:k=s.T.length:=by have aq:¬(k:Int)<s.T.length:=aq;omega
        subst aq
        rw[dW]at ht
        exact .drop 0 1 (.done ⟨aR (Ft hi hr ha cv ht),rfl⟩)
      ·exact .fwd 1 (.drop 0 1 (.done ⟨aR (JL hi hr ha cv),rfl⟩))
   ·exact .fwd 1 (.drop 0 1 (.done ⟨aR (zt hi fun h=>by rw[h.1]at cr;cases cr),rfl⟩))
  ·have hi:dp s.ai s.w=false:=by
    cases h:dp s.ai s.w with
    |false=>rfl
    |true=>rw[QE h]at c2;cases c2
   exact .fwd 1 (.drop 0 1 (.done ⟨aR (Rt hi),rfl⟩))
 ·have c1:¬xp s.ai s.w=0:=c1
  refine aa 0 ?_
  refine aa 0 ?_
  have hi:dp s.ai s.w=true:=by
   cases h:dp s.ai s.w with
   |true=>rfl
   |false=>exact absurd (by unfold xp;rw[h];rfl) c1
  refine dr [] (BC s.n s.cI _ (ey hf.ub (by decide))) (fun cr=>?_) (fun cr=>?_)
  ·refine aa 0 ?_
   refine aa 0 ?_
   refine cQ (fun ct=>?_) (fun ct=>?_)
   ·have ct:(!decide ((s.T.length:Int)=s.n))=true:=ct
    have ct:¬(s.T.length:Int)=s.n:=by simpa using ct
    exact .fwd 1 (.drop 0 1 (.done ⟨aR (zt hi fun h=>ct h.2),rfl⟩))
   ·have ct:(!decide ((s.T.length:Int)=s.n))=false:=ct
    have ct:(s.T.length:Int)=s.n:=by simpa using ct
    have hr:ek s.n s.cI=true∧(s.T.length:Int)=s.n:=⟨cr,ct⟩
    refine aa 0 ?_
    refine bh (S:=Nat) (fun k=>[(1,.ptr aB 0),(3,.int .i64 1),(42,.af (.int .i64) s.entry),(43,.int .i64 s.entry.length),(44,.int .i64 k)]) (fun _=>(aB,a7 s)::σ) (fun k=>k≤s.entry.length∧((s.entry.take k).any fun v=> !cD s.n v)=false) (fun k=>s.entry.length-k) 0 ⟨⟨aY _,rfl⟩,⟨rfl,rfl,rfl,rfl,rfl,trivial⟩,rfl⟩ ?_
    rintro k g ⟨aO,gp⟩
    have hk:k≤s.entry.length:=aO
    have ha:((s.entry.take k).any fun v=> !cD s.n v)=false:=gp
    clear aO gp
    refine aj (fun ab=>?_) (fun aq=>?_)
    ·have ab:k<s.entry.length:=by have ab:(k:Int)<s.entry.length:=ab;omega
     have hs:=mQ ab fun v=> !cD s.n v
     rw[ha,mj]at hs
     have ng:cD s.n s.entry[k]=false→(s.entry.any fun v=> !cD s.n v)=true:=fun h=>kv.2 ⟨s.entry[k],cq ab,by rw[h];rfl⟩
     refine aw.mk rfl (aX.mk s.entry[k] (by omega) (get_some ab) ?_)
     refine aj (p:=s.entry[k]<0) (fun d1=>?_) (fun d1=>?_)
     ·exact .fwd 1 (.drop 0 1 (.done ⟨aR (zd hi hr (ng (by unfold cD;simp;omega))),rfl⟩))
     ·refine aa 0 ?_
      refine aj (p:=s.n≤s.entry[k]) (fun d2=>?_) (fun d2=>?_)
      ·exact .fwd 1 (.drop 0 1 (.done ⟨aR (zd hi hr (ng (by unfold cD;simp;omega))),rfl⟩))
      ·exact aM (k+1) (by show s.entry.length-(k+1)<s.entry.length-k;omega) ⟨ab,hs.trans (by unfold cD;simp;omega)⟩ ⟨rfl,rfl,rfl,rfl,aL (by have:=hf.vQ;omega),trivial⟩ (.refl _)
    ·have aq:k=s.entry.length:=by have aq:¬(k:Int)<s.entry.length:=aq;omega
     subst aq
     rw[dW]at ha
     refine aa 0 ?_
     refine aa 0 ?_
     refine aa 0 ?_
     refine dr [] (Gb s.ai s.w s.init _ hf.i64 (ey hf.Cc (by decide))) (fun cv=>?_) (fun cv=>?_)
     ·refine aa 0 ?_
      refine bh (S:=Nat) (fun k=>[(1,.ptr aB 0),(3,.int .i64 2),(66,.af jL s.T),(67,.int .i64 s.T.length),(68,.int .i64 k)]) (fun _=>(aB,a7 s)::σ) (fun k=>k≤s.T.length∧((s.T.take k).any fun t=> !decide (fA s.ai s.w t.1 t.2.1 t.2.2.1=0))=false) (fun k=>s.T.length-k) 0 ⟨⟨aY _,rfl⟩,⟨rfl,rfl,rfl,rfl,rfl,trivial⟩,rfl⟩ ?_
      rintro k g ⟨aO,iM⟩
      have hk:k≤s.T.length:=aO
      have ht:((s.T.take k).any fun t=> !decide (fA s.ai s.w t.1 t.2.1 t.2.2.1=0))=false:=iM
      clear aO iM
      refine aj (fun ab=>?_) (fun aq=>?_)
      ·have ab:k<s.T.length:=by have ab:(k:Int)<s.T.length:=ab;omega
       have hs:=mQ ab fun t=> !decide (fA s.ai s.w t.1 t.2.1 t.2.2.1=0)
       rw[ht,mj]at hs
       have ho:=hf.ts _ (cq ab)
       have hm:=cq ab
       obtain⟨t,dR⟩:∃t:lM,s.T[k]=t:=⟨_,rfl⟩
       rw[dR]at hs ho hm
       refine aw.mk rfl (aX.mk t (by omega) ((get_some ab).trans (congrArg some dR)) ?_)
       intro cE
       refine ag 0 ?_
       refine aa 1 ?_
       refine aa 1 ?_
       refine aa 0 ?_
       refine ar [] (IZ s.ai s.w t.1 t.2.1 t.2.2.1 _ ho.1 ho.2.1 ho.2.2.1 ho.2.2.2.1 (ey ho.2.2.2.2 (by decide))) ?_
       refine cQ (fun d1=>?_) (fun d1=>?_)
       ·exact .fwd 1 (.drop 0 2 (.done ⟨aR (Jc hi hr ha cv (kv.2 ⟨t,hm,d1⟩)),rfl⟩))
       ·exact aM (k+1) (by show s.T.length-(k+1)<s.T.length-k;omega) ⟨ab,hs.trans d1⟩ ⟨rfl,rfl,rfl,rfl,aL (by have:=hf.tS;omega),trivial⟩ (.drop 0 1 (.refl _))
      ·have aq:k=s.T.length:=by have aq:¬(k:Int)<s.T.length:=aq;omega
       subst aq
       rw[dW]at ht
       exact .drop 0 1 (.done ⟨aR (Ft hi hr ha cv ht),rfl⟩)
     ·exact .fwd 1 (.drop 0 1 (.done ⟨aR (JL hi hr ha cv),rfl⟩))
  ·exact .fwd 1 (.drop 0 1 (.done ⟨aR (zt hi fun h=>by rw[h.1]at cr;cases cr),rfl⟩))
end Go.Proofs.YtnikdflhefijbaaGreat
