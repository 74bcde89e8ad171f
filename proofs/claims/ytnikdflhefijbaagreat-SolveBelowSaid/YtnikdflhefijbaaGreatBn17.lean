import Derived.Test.YtnikdflhefijbaaGreatBn11
import Derived.Test.YtnikdflhefijbaaGreatBn12
import Derived.Test.YtnikdflhefijbaaGreatBn16
namespace Go.Proofs.YtnikdflhefijbaaGreat
open Go.RowKit
set_option maxRecDepth 100000
def cD(what width:Int):Bool:=decide (1≤what)&&decide (what≤3)&&decide (0≤width)&&decide (width≤1024)
theorem H3(what width:Int)(σ:Hp):ACalls Tryz.prog 112 [.int .i64 what,.int .i64 width] σ (aE (.bool (cD what width)) σ):=by
 refine ay Tryz.func112 ?_
 refine an (fun c1=>?_) (fun c1=>?_)
 ·have c1:1≤what:=c1
  refine an (fun c2=>?_) (fun c2=>?_)
  ·have c2:what≤3:=c2
   refine an (fun c3=>?_) (fun c3=>?_)
   ·have c3:0≤width:=c3
    refine an (fun c4=>?_) (fun c4=>?_)
    ·have c4:width≤1024:=c4
     exact .done ⟨cz (by first | (simp_all [cD];done) | (simp_all [cD];intros;omega)),rfl⟩
    ·have c4:¬(width≤1024):=c4
     exact .done ⟨cz (by first | (simp_all [cD];done) | (simp_all [cD];intros;omega)),rfl⟩
   ·have c3:¬(0≤width):=c3
    exact .done ⟨cz (by first | (simp_all [cD];done) | (simp_all [cD];intros;omega)),rfl⟩
  ·have c2:¬(what≤3):=c2
   exact .done ⟨cz (by first | (simp_all [cD];done) | (simp_all [cD];intros;omega)),rfl⟩
 ·have c1:¬(1≤what):=c1
  exact .done ⟨cz (by first | (simp_all [cD];done) | (simp_all [cD];intros;omega)),rfl⟩
def dg(what:Int)(xs ys:List Int):List Int:=List.zipWith (cT what) xs ys
theorem OW(what:Int)(xs ys:List Int)(h:xs.length=ys.length):(dg what xs ys).length=xs.length:=by simp[dg,h]
theorem Sl(what:Int)(xs ys:List Int)(σ:Hp)(hx:aR xs)(hy:aR ys)(h:xs.length=ys.length)(hl:xs.length≤1000000):ACalls Tryz.prog 127 [.int .i64 what,.af (.int .u64) xs,.af (.int .u64) ys] σ (aE (.af (.int .u64) (dg what xs ys)) σ):=by
 refine ay Tryz.func127 ?_
 refine .wrap 7 _ rfl rfl ?_
 refine bV (S:=Nat×AV×Hp) (fun s=>[(0,.int .i64 what),(1,.af (.int .u64) xs),(2,.af (.int .u64) ys),(7,.via s.2.1),(9,.af (.int .u64) xs),(10,.int .i64 xs.length),(11,.int .i64 s.1)]) (fun s=>s.2.2++σ) (fun s=>s.1≤xs.length∧Acc 1 s.1 s.2.1 s.2.2 (aM ((dg what xs ys).take s.1))) (fun s=>xs.length-s.1) (0,.aj,[]) ⟨⟨bA _,.nil⟩,⟨rfl,rfl,rfl,rfl,rfl,rfl,rfl,trivial⟩,rfl⟩ ?_
 rintro⟨k,v,acc⟩ g ⟨aL,gK⟩
 have hk:k≤xs.length:=aL
 have bY:Acc 1 k v acc (aM ((dg what xs ys).take k)):=gK
 clear aL gK
 have ic:=OW what xs ys h
 refine an (fun ab=>?_) (fun ar=>?_)
 ·have ab:k<xs.length:=by have ab:(k:Int)<xs.length:=ab;omega
  have dN:k<ys.length:=by omega
  have hz:=hx _ (bX ab)
  have fA:=hy _ (bX dN)
  have hje:(dg what xs ys)[k]'(by omega)=cT what xs[k] ys[k]:=by simp[dg]
  refine .sched [10] (upto [10] 14 0) (by kernel_rfl) ?_
  refine ag.mk rfl ?_
  refine bG.mk xs[k] (by omega) (get_some ab) ?_
  refine ag.mk rfl ?_
  refine bG.mk ys[k] (by omega) (get_some dN) ?_
  refine aH [] (aei what xs[k] ys[k] _ hz.1 fA.1 hz.2 fA.2) ?_
  intro aD
  refine jU [_] bY (.ae 0 aD 0 1 _ rfl (cH rfl)) rfl (by omega) (by decide) (by decide) (fun v' bu h'=>?_)
  refine a8 (k+1,v',bu) (by show xs.length-(k+1)<xs.length-k;omega) ⟨ab,?_⟩ ⟨rfl,rfl,rfl,rfl,rfl,rfl,aX (by omega),trivial⟩ (.drop 0 1 (aJ rfl))
  show Acc 1 (k+1) v' bu (aM ((dg what xs ys).take (k+1)))
  rw[fp (by omega),hje,aM,cS]
  exact h'
 ·have ar:k=xs.length:=by have ar:¬(k:Int)<xs.length:=ar;omega
  subst ar
  rw[eI (Ba ic)]at bY
  exact pO (s:=.int .u64) (l:=dg what xs ys) [] bY ic.symm (by rw[kH]) (by decide) (.done ⟨rfl,rfl⟩)
def CC(what:Int)(xs ys:List Int):Bool:=decide (xs.length=ys.length)&&decide (dg what xs ys=ys)
theorem Zy(what:Int)(xs ys:List Int)(σ:Hp)(hx:aR xs)(hy:aR ys)(hl:xs.length≤1000000):ACalls Tryz.prog 67 [.int .i64 what,.af (.int .u64) xs,.af (.int .u64) ys] σ (aE (.bool (CC what xs ys)) σ):=by
 refine ay Tryz.func67 ?_
 refine an (fun c=>?_) (fun c=>?_)
 ·have c:xs.length=ys.length:=by have c:(xs.length:Int)=ys.length:=c;omega
  refine az [] (Sl what xs ys _ hx hy c hl) ?_
  refine az [] (TG _ _ _ (by rw[OW _ _ _ c];exact hl)) ?_
  exact .done ⟨cz (by simp[CC,c]),rfl⟩
 ·have c:¬xs.length=ys.length:=fun h=>c (congrArg Int.ofNat h)
  exact .done ⟨cz (by simp[CC,c]),rfl⟩
theorem H5(what width:Int)(σ:Hp):ACalls Tryz.prog 152 [.int .i64 what,.int .i64 width] σ (aE (.bool (cD what width)) σ):=by
 refine ay Tryz.func152 ?_
 have hk:∀w:Int,(1≤w∧w≤3)↔(w=1∨w=2∨w=3):=fun w=>by omega
 have hI:cD what width=(decide (what=1∨what=2∨what=3)&&decide (0≤width)&&decide (width≤1024)):=by
  unfold cD
  rw[← Bool.decide_and,decide_eq_decide.2 (hk what)]
 rw[hI]
 refine an (fun c1=>?_) (fun c1=>?_)
 ·have c1:what=1:=c1
  have hw:(what=1∨what=2∨what=3):=.inl c1
  refine an (fun d1=>?_) (fun d1=>?_)
  ·have d1:0≤width:=d1
   refine an (fun d2=>?_) (fun d2=>?_)
   ·have d2:width≤1024:=d2
    rw[aV hw,aV d1,aV d2]
    exact .done ⟨rfl,rfl⟩
   ·have d2:¬width≤1024:=d2
    rw[aV hw,aV d1,bR d2]
    exact .done ⟨rfl,rfl⟩
  ·have d1:¬0≤width:=d1
   rw[aV hw,bR d1]
   exact .done ⟨rfl,rfl⟩
 ·have c1:¬what=1:=c1
  refine an (fun c2=>?_) (fun c2=>?_)
  ·have c2:what=2:=c2
   have hw:(what=1∨what=2∨what=3):=.inr (.inl c2)
   refine an (fun d1=>?_) (fun d1=>?_)
   ·have d1:0≤width:=d1
    refine an (fun d2=>?_) (fun d2=>?_)
    ·have d2:width≤1024:=d2
     rw[aV hw,aV d1,aV d2]
     exact .done ⟨rfl,rfl⟩
    ·have d2:¬width≤1024:=d2
     rw[aV hw,aV d1,bR d2]
     exact .done ⟨rfl,rfl⟩
   ·have d1:¬0≤width:=d1
    rw[aV hw,bR d1]
    exact .done ⟨rfl,rfl⟩
  ·have c2:¬what=2:=c2
   refine an (fun c3=>?_) (fun c3=>?_)
   ·have c3:what=3:=c3
    have hw:(what=1∨what=2∨what=3):=.inr (.inr c3)
    refine an (fun d1=>?_) (fun d1=>?_)
    ·have d1:0≤width:=d1
     refine an (fun d2=>?_) (fun d2=>?_)
     ·have d2:width≤1024:=d2
      rw[aV hw,aV d1,aV d2]
      exact .done ⟨rfl,rfl⟩
     ·have d2:¬width≤1024:=d2
      rw[aV hw,aV d1,bR d2]
      exact .done ⟨rfl,rfl⟩
    ·have d1:¬0≤width:=d1
     rw[aV hw,bR d1]
     exact .done ⟨rfl,rfl⟩
   ·have c3:¬what=3:=c3
    rw[bR (p:=what=1∨what=2∨what=3) (fun h=>h.elim c1 fun h=>h.elim c2 c3)]
    exact .done ⟨rfl,rfl⟩
def dS(what width:Int):Int:=if cD what width=true then (if what=3 then width else (dC width:Int)) else 0
theorem GH(what width:Int)(σ:Hp):ACalls Tryz.prog 85 [.int .i64 what,.int .i64 width] σ (aE (.int .i64 (dS what width)) σ):=by
 refine ay Tryz.func85 ?_
 unfold dS
 refine eb [] (H5 what width _) (fun hi=>?_) (fun hi=>?_)
 ·rw[ai hi]
  have h3:(what=1∨what=2∨what=3):=by unfold cD at hi;simp at hi;omega
  refine an (fun c1=>?_) (fun c1=>?_)
  ·have c1:what=1:=c1
   rw[ah (by omega)]
   refine az [] (GG width _) ?_
   exact .done ⟨rfl,rfl⟩
  ·have c1:¬what=1:=c1
   refine an (fun c2=>?_) (fun c2=>?_)
   ·have c2:what=2:=c2
    rw[ah (by omega)]
    refine az [] (GG width _) ?_
    exact .done ⟨rfl,rfl⟩
   ·have c2:¬what=2:=c2
    rw[ai (by omega)]
    exact .done ⟨rfl,rfl⟩
 ·rw[ah (by rw[hi];decide)]
  exact .done ⟨rfl,rfl⟩
theorem Q8(what width:Int)(σ:Hp):ACalls Tryz.prog 57 [.int .i64 what,.int .i64 width] σ (aE (.int .i64 (dS what width)) σ):=by
 refine ay Tryz.func57 ?_
 unfold dS
 refine eb [] (H3 what width _) (fun hi=>?_) (fun hi=>?_)
 ·rw[ai hi]
  refine an (fun c1=>?_) (fun c1=>?_)
  ·have c1:what=3:=c1
   rw[ai c1]
   exact .done ⟨rfl,rfl⟩
  ·have c1:¬what=3:=c1
   rw[ah c1]
   refine az [] (LJ width _) ?_
   exact .done ⟨rfl,rfl⟩
 ·rw[ah (by rw[hi];decide)]
  exact .done ⟨rfl,rfl⟩
theorem xV(what width:Int):0≤dS what width∧dS what width≤1024:=by
 unfold dS
 by_cases h:cD what width=true
 ·rw[ai h]
  have:=xY width
  unfold cD at h;simp at h
  split <;> omega
 ·rw[ah h];omega
def okW(a:List Int):Bool:=a.all fun z=>decide (aI z=z)
def cC(what w:Int)(a:List Int):Bool:=cD what w&&decide ((a.length:Int)=dS what w)&&(if what=3 then okW a else fg a w)
theorem acn(w:Int):(ek w||decide (w=0)||decide (w=1))=decide (aI w=w):=by
 unfold aI
 by_cases h0:w=0
 ·simp[h0]
 ·by_cases h1:w=1
  ·simp[h1]
  ·cases h2:ek w with
   |true=>simp[h0,h1]
   |false=>simp[h0,h1];exact fun h=>h1 h.symm
theorem agp(z:Int)(σ:Hp):ACalls Tryz.prog 201 [.int .u64 z] σ (aE (.bool (!decide (aI z=z))) σ):=by
 refine ay Tryz.func201 ?_
 refine az [] (aIs z _) ?_
 rw[acn]
 exact .done ⟨rfl,rfl⟩
theorem ac9(a:List Int):(!a.any fun z=> !decide (aI z=z))=okW a:=by
 unfold okW
 rw[List.all_eq_not_any_not]
theorem H6(what w:Int)(a:List Int)(σ:Hp)(ha:aR a)(hl:a.length≤1000000):ACalls Tryz.prog 148 [.int .i64 what,.int .i64 w,.af (.int .u64) a] σ (aE (.bool (cC what w a)) σ):=by
 refine ay Tryz.func148 ?_
 have vv:=xV what w
 unfold cC
 refine eb [] (H5 what w _) (fun hi=>?_) (fun hi=>?_)
 ·refine az [] (GH what w _) ?_
  refine dB (fun c=>?_) (fun c=>?_)
  ·have c:(!decide ((a.length:Int)=dS what w))=true:=c
   have c:¬((a.length:Int)=dS what w):=by simpa using c
   rw[hi,bR c]
   exact .done ⟨rfl,rfl⟩
  ·have c:(!decide ((a.length:Int)=dS what w))=false:=c
   have c:(a.length:Int)=dS what w:=by simpa using c
   rw[hi,aV c]
   refine dB (fun c3=>?_) (fun c3=>?_)
   ·have c3:¬(what=3):=by simpa using c3
    rw[ah c3]
    refine az [] (CE a w _ ha (by omega)) ?_
    exact .done ⟨rfl,rfl⟩
   ·have c3:what=3:=by simpa using c3
    rw[ai c3,← ac9]
    refine az [] (X4 201 [] a (fun z:Int=> !decide (aI z=z)) _ hl (fun i hi=>agp _ _)) ?_
    exact .done ⟨rfl,rfl⟩
 ·rw[hi]
  exact .done ⟨rfl,rfl⟩
theorem ab5(what w:Int)(a:List Int)(σ:Hp)(ha:aR a):ACalls Tryz.prog 68 [.int .i64 what,.int .i64 w,.af (.int .u64) a] σ (aE (.bool (cC what w a)) σ):=by
 refine ay Tryz.func68 ?_
 have vv:=xV what w
 unfold cC
 refine eb [] (H3 what w _) (fun hi=>?_) (fun hi=>?_)
 ·refine az [] (Q8 what w _) ?_
  refine dB (fun c=>?_) (fun c=>?_)
  ·have c:(!decide ((a.length:Int)=dS what w))=true:=c
   have c:¬((a.length:Int)=dS what w):=by simpa using c
   rw[hi,bR c]
   exact .done ⟨rfl,rfl⟩
  ·have c:(!decide ((a.length:Int)=dS what w))=false:=c
   have c:(a.length:Int)=dS what w:=by simpa using c
   rw[hi,aV c]
   refine dB (fun c3=>?_) (fun c3=>?_)
   ·have c3:¬(what=3):=by simpa using c3
    rw[ah c3]
    refine az [] (aes a w _ ha) ?_
    exact .done ⟨rfl,rfl⟩
   ·have c3:what=3:=by simpa using c3
    rw[ai c3]
    unfold okW
    refine bV (S:=Nat) (fun k=>[(26,.af (.int .u64) a),(27,.int .i64 a.length),(28,.int .i64 k)]) (fun _=>σ) (fun k=>k≤a.length∧((a.take k).all fun z=>decide (aI z=z))=true) (fun k=>a.length-k) 0 ⟨⟨bA _,rfl⟩,⟨rfl,rfl,rfl,trivial⟩,rfl⟩ ?_
    rintro k g ⟨aL,UT⟩
    have hk:k≤a.length:=aL
    have cg:((a.take k).all fun z=>decide (aI z=z))=true:=UT
    clear aL UT
    refine an (fun ab=>?_) (fun ar=>?_)
    ·have ab:k<a.length:=by have ab:(k:Int)<a.length:=ab;omega
     have hz:=ha _ (bX ab)
     refine ag.mk rfl (bG.mk a[k] (by omega) (get_some ab) ?_)
     refine az [] (CO _ _ hz.1 hz.2) ?_
     refine dB (fun c1=>?_) (fun c1=>?_)
     ·have c1:¬(aI a[k]=a[k]):=by simpa using c1
      have:(a.all fun z=>decide (aI z=z))=false:=by
       rw[List.all_eq_false]
       exact⟨a[k],List.getElem_mem ab,by simpa using c1⟩
      rw[this]
      exact .done ⟨rfl,rfl⟩
     ·have c1:aI a[k]=a[k]:=by simpa using c1
      refine a8 (k+1) (by show a.length-(k+1)<a.length-k;omega) ⟨ab,?_⟩ ⟨rfl,rfl,aX (by omega),trivial⟩ (aJ rfl)
      rw[fp ab,zf,cg]
      simp[c1]
    ·have ar:k=a.length:=by have ar:¬(k:Int)<a.length:=ar;omega
     rw[ar,fj]at cg
     rw[cg]
     exact .done ⟨rfl,rfl⟩
 ·rw[hi]
  exact .done ⟨rfl,rfl⟩
def CM(what w:Int)(l:List (List Int)):Int:=if cD what w then (if (l.any fun a=> !cC what w a) then 2 else 0) else 10
theorem Y8{what w:Int}{a b:List Int}(h:CM what w [a,b]=0):cC what w a=true∧cC what w b=true:=by
 unfold CM at h
 cases hi:cD what w with
 |false=>rw[hi]at h;exact absurd h (by simp)
 |true=>
  rw[hi,ai rfl]at h
  cases ha:cC what w a with
  |false=>simp[ha]at h
  |true=>
   cases hb:cC what w b with
   |false=>simp[ha,hb]at h
   |true=>exact⟨rfl,rfl⟩
theorem wx{what w:Int}{a:List Int}(h:cC what w a=true):(a.length:Int)=dS what w:=by
 unfold cC at h;simp at h;exact h.1.2
def sh(e:Int)(l:List Int):List Int:=if e=0 then l else []
theorem Cq{e:Int}{l:List Int}(h:e=0):sh e l=l:=ai h
theorem Gt{e:Int}{l:List Int}(h:¬e=0):sh e l=[]:=ah h
theorem wF{what:Int}:∀{xs ys:List Int},aR xs→aR ys→aR (dg what xs ys)
 | [],_,_,_=>fun z hz=>by simp[dg]at hz
 |_::_,[],_,_=>fun z hz=>by simp[dg]at hz
 |x::xs,y::ys,hx,hy=>fun z hz=>by
  rcases eG.1 (show z∈cT what x y::dg what xs ys from hz) with rfl | hz
  ·exact Sv (hx _ (cm ..)) (hy _ (cm ..))
  ·exact wF (fun a ha=>hx a (cY _ ha)) (fun a ha=>hy a (cY _ ha)) z hz
def pS(what w:Int)(xs ys:List Int):Bool:=decide (CM what w [xs,ys]=0)&&decide (dg what xs ys=ys)
def fX(what w:Int):List Int:=if what=2∧cD what w=true then eP w else List.replicate (dS what w).toNat 0
theorem KK(what w:Int)(σ:Hp):ACalls Tryz.prog 149 [.int .i64 what,.int .i64 w] σ (aE (.af (.int .u64) (fX what w)) σ):=by
 refine ay Tryz.func149 ?_
 have hw:=xV what w
 have hz:fX what w=List.replicate (dS what w).toNat 0→∀q,Fin (aE (.af (.int .u64) (fX what w)) σ) (.ae q 0 (dS what w).toNat 1) ((q,cE [.int .u64 0] (dS what w).toNat)::σ):=fun hb q=>by
  rw[wD,← hb]
  have hl:(fX what w).length=(dS what w).toNat:=by rw[hb,gb]
  generalize fX what w=Z at hl
  refine .cI 0 q 0 _ 1 _ (.int .u64) Z rfl ?_ ⟨hl,rfl,by decide⟩ .here (.done ⟨rfl,rfl⟩)
  rw[gR,← kH]
  exact eI (by rw[aM,cd,hl];omega)
 refine an (fun c=>?_) (fun c=>?_)
 ·have c:what=2:=c
  refine eb [] (H5 what w _) (fun hi=>?_) (fun hi=>?_)
  ·refine az [] (Vb w _) ?_
   have hb:fX what w=eP w:=ai ⟨c,hi⟩
   rw[hb]
   exact .done ⟨rfl,rfl⟩
  ·refine az [] (GH what w _) ?_
   refine ag.mk ⟨by omega,by omega,by omega,by decide⟩ ?_
   intro q
   exact hz (ah fun h=>Bool.noConfusion (hi.symm.trans h.2)) q
 ·have c:¬what=2:=c
  refine az [] (GH what w _) ?_
  refine ag.mk ⟨by omega,by omega,by omega,by decide⟩ ?_
  intro q
  exact hz (ah fun h=>c h.1) q
def isN(x y:Int):Bool:=decide (x=aC x)&&decide (y=aC y)
def pX(w:Int)(r:oo):Bool:=if r.1 = -1 then isN r.2.1.1 r.2.1.2.1 else decide (0≤r.1)&&decide (r.1<w)&&(decide (r.2.1.1=0)&&decide (r.2.1.2.1=0))
theorem eq2(x y:Int):gq (s7 (nC x y) (nC 0 0))=(decide (x=0)&&decide (y=0)):=by
 show (decide (x=0)&&(decide (y=0)&&true))=_
 rw[IL]
theorem U6(w:Int)(r:oo)(σ:Hp):ACalls Tryz.prog 254 [.int .i64 w,.agg (Di r)] σ (aE (.bool (pX w r)) σ):=by
 obtain⟨v,⟨x,y,u⟩,u2⟩:=r
 refine ay Tryz.func254 ?_
 unfold pX
 show uL Tryz.prog tt _ [.int .i64 w,.agg [.int .i64 v,.int .i64 x,.int .i64 y]] σ (aE (.bool (if v = -1 then isN x y else decide (0≤v)&&decide (v<w)&&(decide (x=0)&&decide (y=0)))) σ)
 intro aD
 refine aa 0 ?_
 refine an (fun c2=>?_) (fun c2=>?_)
 ·have c2:v = -1:=c2
  refine aa 0 ?_
  refine az [] (ag4 _ _ _) ?_
  exact .drop 0 1 (.done ⟨cz (by rw[ai c2];rfl),rfl⟩)
 ·have c2:¬(v = -1):=c2
  refine aa 0 ?_
  refine an (fun c3=>?_) (fun c3=>?_)
  ·have c3:0≤v:=c3
   refine aa 0 ?_
   refine an (fun c4=>?_) (fun c4=>?_)
   ·have c4:v<w:=c4
    refine aa 0 ?_
    refine EqAt.mk (by kernel_rfl) (by kernel_rfl) ?_
    refine dB (fun c5=>?_) (fun c5=>?_)
    ·have c5:=(eq2 x y).symm.trans c5
     exact .drop 0 1 (.done ⟨cz (by rw[ah c2,aV c3,aV c4,c5];rfl),rfl⟩)
    ·have c5:=(eq2 x y).symm.trans c5
     exact .drop 0 1 (.done ⟨cz (by rw[ah c2,aV c3,aV c4,c5];rfl),rfl⟩)
   ·have c4:¬(v<w):=c4
    exact .drop 0 1 (.done ⟨cz (by rw[ah c2,aV c3,bR c4];rfl),rfl⟩)
  ·have c3:¬(0≤v):=c3
   exact .drop 0 1 (.done ⟨cz (by rw[ah c2,bR c3];rfl),rfl⟩)
def Ms(r:oo):Bool:=decide (r.1=0)&&(decide (r.2.1.1=0)&&decide (r.2.1.2.1=0))
theorem Jl(r:oo):gq (s7 (Di r) [.int .i64 0,.int .i64 0,.int .i64 0])=Ms r:=by
 show (decide (r.1=0)&&(decide (r.2.1.1=0)&&(decide (r.2.1.2.1=0)&&true)))=_
 rw[IL];rfl
def gl(w:Int)(c:da):Bool:=if c.1<0 then false else if w≤c.1 then false else if c.2.1 < -1 then false else if 4<c.2.1 then false else if c.2.1 = -1 then Ms c.2.2.1&&Ms c.2.2.2.1 else pX w c.2.2.1&&pX w c.2.2.2.1
theorem ae9(w:Int)(c:da)(σ:Hp):ACalls Tryz.prog 209 [.int .i64 w,.agg (UX c)] σ (aE (.bool (gl w c)) σ):=by
 refine ay Tryz.func209 ?_
 intro aD
 refine aa 0 ?_
 refine an (fun c2=>?_) (fun c2=>?_)
 ·have c2:c.fst<0:=c2
  exact .drop 0 1 (.done ⟨cz (by simp[gl, *]),rfl⟩)
 ·have c2:¬(c.fst<0):=c2
  refine aa 0 ?_
  refine an (fun c3=>?_) (fun c3=>?_)
  ·have c3:w≤c.fst:=c3
   exact .drop 0 1 (.done ⟨cz (by simp[gl, *]),rfl⟩)
  ·have c3:¬(w≤c.fst):=c3
   refine aa 0 ?_
   refine an (fun c4=>?_) (fun c4=>?_)
   ·have c4:c.snd.fst < -1:=c4
    exact .drop 0 1 (.done ⟨cz (by simp[gl, *]),rfl⟩)
   ·have c4:¬(c.snd.fst < -1):=c4
    refine aa 0 ?_
    refine an (fun c5=>?_) (fun c5=>?_)
    ·have c5:4<c.snd.fst:=c5
     exact .drop 0 1 (.done ⟨cz (by simp[gl, *]),rfl⟩)
    ·have c5:¬(4<c.snd.fst):=c5
     refine aa 0 ?_
     refine an (fun c6=>?_) (fun c6=>?_)
     ·have c6:c.snd.fst = -1:=c6
      refine aa 0 ?_
      refine EqAt.mk (by kernel_rfl) (by kernel_rfl) ?_
      refine dB (fun c7=>?_) (fun c7=>?_)
      ·have c7:=(Jl c.2.2.1).symm.trans c7
       refine aa 0 ?_
       refine EqAt.mk (by kernel_rfl) (by kernel_rfl) ?_
       refine dB (fun c8=>?_) (fun c8=>?_)
       ·have c8:=(Jl c.2.2.2.1).symm.trans c8
        exact .drop 0 1 (.done ⟨cz (by simp[gl, *]),rfl⟩)
       ·have c8:=(Jl c.2.2.2.1).symm.trans c8
        exact .drop 0 1 (.done ⟨cz (by simp[gl, *]),rfl⟩)
      ·have c7:=(Jl c.2.2.1).symm.trans c7
       exact .drop 0 1 (.done ⟨cz (by simp[gl, *]),rfl⟩)
     ·have c6:¬(c.snd.fst = -1):=c6
      refine aa 0 ?_
      refine eb [] (U6 w c.2.2.1 _) (fun cA=>?_) (fun cA=>?_)
      ·refine aa 0 ?_
       refine eb [] (U6 w c.2.2.2.1 _) (fun cB=>?_) (fun cB=>?_)
       ·exact .drop 0 1 (.done ⟨cz (by simp[gl, *]),rfl⟩)
       ·exact .drop 0 1 (.done ⟨cz (by simp[gl, *]),rfl⟩)
      ·exact .drop 0 1 (.done ⟨cz (by simp[gl, *]),rfl⟩)
abbrev kK:Sh:=.field (.slice (.int .u64)) (.field (.slice (.int .u64)) (.field (.slice jd) .nil))
abbrev AM(g k:List Int)(l:List da):List AV:=[.af (.int .u64) g,.af (.int .u64) k,.af jd l]
theorem abk(w:Int)(c:da)(q:Nat)(σ:Hp):ACalls Tryz.prog 208 [Hn c,.ptr q 0] ((q,[.int .i64 w])::σ) (aE (.bool (!gl w c)) ((q,[.int .i64 w])::σ)):=by
 refine ay Tryz.func208 ?_
 unfold Hn
 intro aD
 refine aa 1 ?_
 refine aa 0 ?_
 refine az [] (ae9 w c _) ?_
 exact .drop 0 1 (.done ⟨rfl,rfl⟩)
def yB(what w:Int)(g k:List Int)(l:List da):Bool:=if what=3 then decide (g.length+k.length=0)&&(l.all (gl w)) else decide (l.length=0)&&fg g w&&fg k w
def ft(what w:Int)(g k:List Int)(l:List da):Int:=if cD what w=true then (if yB what w g k l=true then 0 else 2) else 10
theorem Li{α:Type}(l:List α){p:α→Bool}:l.all p = !l.any fun c=> !p c:=List.all_eq_not_any_not ..
theorem U3{w:Int}(l:List da){b:Bool}(h:(l.any fun c=> !gl w c)=b):l.all (gl w) = !b:=by rw[Li,h]
theorem MR{what w:Int}{g k:List Int}{l:List da}(hi:cD what w=true)(ht:yB what w g k l=true):0=ft what w g k l:=by unfold ft;rw[ai hi,ai ht]
theorem w9{what w:Int}{g k:List Int}{l:List da}(hi:cD what w=true)(ht:yB what w g k l=false):2=ft what w g k l:=by unfold ft;rw[ai hi,ht];rfl
theorem Mg{what w:Int}{g k:List Int}{l:List da}(hi:cD what w=false):10=ft what w g k l:=by unfold ft;rw[hi];rfl
theorem vf{what w:Int}{g k:List Int}{l:List da}(h:¬what=3):yB what w g k l=(decide (l.length=0)&&fg g w&&fg k w):=ah h
theorem DR{what w:Int}{g k:List Int}{l:List da}(h:what=3):yB what w g k l=(decide (g.length+k.length=0)&&(l.all (gl w))):=ai h
theorem pQ{what w:Int}(h:1≤what∧what≤3∧0≤w∧w≤1024):cD what w=true:=by unfold cD;simp;omega
theorem L5{what w:Int}(h:¬(1≤what∧what≤3∧0≤w∧w≤1024)):cD what w=false:=by unfold cD;simp;omega
theorem Ll(what w:Int)(g k:List Int)(l:List da)(σ:Hp)(hg:aR g)(hk:aR k)(lg:g.length≤10000)(lk:k.length≤10000)(ll:l.length≤1000000):ACalls Tryz.prog 151 [.int .i64 what,.int .i64 w,.agg (AM g k l)] σ (aE (.int .i64 (ft what w g k l)) σ):=by
 refine ay Tryz.func151 ?_
 intro aD
 intro dH
 refine aa 1 ?_
 refine an (fun c3=>?_) (fun c3=>?_)
 ·have c3:w<0:=c3
  exact .drop 0 2 (.done ⟨aQ (Mg (L5 (by omega))),rfl⟩)
 ·have c3:¬(w<0):=c3
  refine aa 1 ?_
  refine an (fun c4=>?_) (fun c4=>?_)
  ·have c4:1024<w:=c4
   exact .drop 0 2 (.done ⟨aQ (Mg (L5 (by omega))),rfl⟩)
  ·have c4:¬(1024<w):=c4
   refine an (fun c5=>?_) (fun c5=>?_)
   ·have c5:what=1:=c5
    refine aa 0 ?_
    refine aa 1 ?_
    refine eb [] (CE g w _ hg lg) (fun cG=>?_) (fun cG=>?_)
    ·refine aa 0 ?_
     refine aa 1 ?_
     refine eb [] (CE k w _ hk lk) (fun cK=>?_) (fun cK=>?_)
     ·refine aa 0 ?_
      refine an (fun c6=>?_) (fun c6=>?_)
      ·have c6:(↑l.length:Int)=0:=c6
       have ib:decide (l.length=0)=true:=aV (by have h0:(l.length:Int)=0:=c6;omega)
       exact .drop 0 2 (.done ⟨aQ (MR (pQ (by omega)) (by rw[vf (by omega),ib,cG,cK];rfl)),rfl⟩)
      ·have c6:¬((↑l.length:Int)=0):=c6
       have ib:decide (l.length=0)=false:=bR (by have h0:¬(l.length:Int)=0:=c6;omega)
       exact .drop 0 2 (.done ⟨aQ (w9 (pQ (by omega)) (by rw[vf (by omega),ib];rfl)),rfl⟩)
     ·exact .drop 0 2 (.done ⟨aQ (w9 (pQ (by omega)) (by rw[vf (by omega),cK];simp)),rfl⟩)
    ·exact .drop 0 2 (.done ⟨aQ (w9 (pQ (by omega)) (by rw[vf (by omega),cG];simp)),rfl⟩)
   ·have c5:¬(what=1):=c5
    refine an (fun c7=>?_) (fun c7=>?_)
    ·have c7:what=2:=c7
     refine aa 0 ?_
     refine aa 1 ?_
     refine eb [] (CE g w _ hg lg) (fun cG=>?_) (fun cG=>?_)
     ·refine aa 0 ?_
      refine aa 1 ?_
      refine eb [] (CE k w _ hk lk) (fun cK=>?_) (fun cK=>?_)
      ·refine aa 0 ?_
       refine an (fun c8=>?_) (fun c8=>?_)
       ·have c8:(↑l.length:Int)=0:=c8
        have ib:decide (l.length=0)=true:=aV (by have h0:(l.length:Int)=0:=c8;omega)
        exact .drop 0 2 (.done ⟨aQ (MR (pQ (by omega)) (by rw[vf (by omega),ib,cG,cK];rfl)),rfl⟩)
       ·have c8:¬((↑l.length:Int)=0):=c8
        have ib:decide (l.length=0)=false:=bR (by have h0:¬(l.length:Int)=0:=c8;omega)
        exact .drop 0 2 (.done ⟨aQ (w9 (pQ (by omega)) (by rw[vf (by omega),ib];rfl)),rfl⟩)
      ·exact .drop 0 2 (.done ⟨aQ (w9 (pQ (by omega)) (by rw[vf (by omega),cK];simp)),rfl⟩)
     ·exact .drop 0 2 (.done ⟨aQ (w9 (pQ (by omega)) (by rw[vf (by omega),cG];simp)),rfl⟩)
    ·have c7:¬(what=2):=c7
     refine an (fun c9=>?_) (fun c9=>?_)
     ·have c9:what=3:=c9
      refine aa 0 ?_
      refine aa 0 ?_
      refine an (fun jR=>?_) (fun jR=>?_)
      ·have jR:IntKind.i64.wrap ((↑g.length:Int)+(↑k.length:Int))=0:=jR
       refine aa 0 ?_
       rw[ca (by omega)]at jR
       refine eb [1] (X7 208 [.ptr aD 0] l (fun c=> !gl w c) _ ll (fun i hi=>abk w l[i] aD _)) (fun cL=>?_) (fun cL=>?_)
       ·exact .drop 0 2 (.done ⟨aQ (w9 (pQ (by omega)) (by rw[DR c9,U3 l cL];simp)),rfl⟩)
       ·exact .drop 0 2 (.done ⟨aQ (MR (pQ (by omega)) (by rw[DR c9,U3 l cL,aV (by omega)];rfl)),rfl⟩)
      ·have jR:¬(IntKind.i64.wrap ((↑g.length:Int)+(↑k.length:Int))=0):=jR
       exact .drop 0 2 (.done ⟨aQ (w9 (pQ (by omega)) (by rw[ca (by omega)]at jR;rw[DR c9,bR (by omega)];rfl)),rfl⟩)
     ·have c9:¬(what=3):=c9
      exact .drop 0 2 (.done ⟨aQ (Mg (L5 (by omega))),rfl⟩)
end Go.Proofs.YtnikdflhefijbaaGreat
