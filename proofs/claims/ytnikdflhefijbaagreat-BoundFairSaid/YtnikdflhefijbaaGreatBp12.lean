import Derived.Test.YtnikdflhefijbaaGreatBp7
import Derived.Test.YtnikdflhefijbaaGreatBp11
import Derived.Test.YtnikdflhefijbaaGreatBp10
namespace Go.Proofs.YtnikdflhefijbaaGreat
open Go.RowKit
set_option maxRecDepth 100000
set_option maxHeartbeats 4000000
def rm(n:Int):Nat:=(min (max n 1) 4096).toNat
theorem vJ(n:Int):1≤rm n∧rm n≤4096:=by unfold rm;omega
theorem afh(n:Int):(if (4096:Int)<(if n<1 then 1 else n) then (4096:Int) else (if n<1 then 1 else n))=((rm n:Nat):Int):=by
 unfold rm
 by_cases h:n<1
 ·simp only[ag h];omega
 ·simp only[ah h];split <;> omega
theorem Np(n:Int)(σ:Hp):ACalls Tryz.prog 154 [.int .i64 n] σ (aE (.int .i64 (rm n)) σ):=by
 refine aA Tryz.func154 ?_
 exact .done ⟨aW (afh n),rfl⟩
def gF(base:Int):Int:=wr (base+1)
def lA(base cap i:Int):Int:=wr (wr (base+2)+wr (i % (rm cap:Int)))
theorem vD(b c:Int)(σ:Hp):ACalls Tryz.prog 111 [.agg [.int .i64 b,.int .i64 c]] σ (aE (.int .i64 (gF b)) σ):=by
 refine aA Tryz.func111 ?_
 intro aG
 refine aa 0 ?_
 exact .drop 0 1 (.done ⟨rfl,rfl⟩)
theorem MP(b c i:Int)(σ:Hp)(h0:0≤i):ACalls Tryz.prog 402 [.agg [.int .i64 b,.int .i64 c],.int .u64 i] σ (aE (.int .i64 (lA b c i)) σ):=by
 have hr:=vJ c
 have e1:IntKind.u64.wrap (rm c:Int)=rm c:=by rw[IntKind.wrap_u64];omega
 have e2:i.tmod (IntKind.u64.wrap (rm c:Int))=i % (rm c:Int):=by rw[e1,Kc h0]
 refine aA Tryz.func402 ?_
 intro aG
 refine .quiet (by kernel_rfl) ?_
 refine aa 0 ?_
 refine aa 0 ?_
 refine aI [] (Np _ _) ?_
 refine aH.mk (by rw[e1];omega) ?_
 exact .drop 0 1 (.done ⟨aW (by rw[e2];rfl),rfl⟩)
structure DQ where
 base:Int
 cap:Int
 n:Int
 ok:Bool
 ended:Bool
 at_:Nat
 b:Int
 t:Int
 x:Int
def lU(q:DQ):List AV:=[.int .i64 q.base,.int .i64 q.cap,.int .u64 q.n,.bool q.ok,.bool q.ended,.int .i64 q.at_,.int .u64 q.b,.int .u64 q.t,.int .u64 q.x]
abbrev wu(n:Int):Int:=IntKind.u64.wrap n
def gn(O:j9)(q:DQ)(a:O.A):DQ×O.A×Bool:=
 if q.ended then (q,a,true)
 else if q.at_=0 then ({ q with at_:=q.at_+1,b:=(O.ld a (gF q.base)).1 },(O.ld a (gF q.base)).2,false)
 else if q.at_=1 then
  (if (rm q.cap:Int)≤wr (wu (q.b-(O.ld a q.base).1)) then ({ q with at_:=q.at_+1,t:=(O.ld a q.base).1,ended:=true },(O.ld a q.base).2,true)
  else ({ q with at_:=q.at_+1,t:=(O.ld a q.base).1 },(O.ld a q.base).2,false))
 else if q.at_=2 then ({ q with at_:=q.at_+1 },O.st a (lA q.base q.cap q.b) q.n,false)
 else ({ q with at_:=q.at_+1,ok:=true,ended:=true },O.st a (gF q.base) (wu (q.b+1)),true)
theorem kO{M:AMem}{σ:Hp}{X:Type}{B:X→List AV}{r:Nat}{res:X×M.O.A×Bool}{x:X}{a:M.O.A}{b:Bool}{m':M.S}{cs:List AV}(h:res=(x,a,b))(hm:M.abs m'=a)(hc:cs=B x):qs M σ B r res (.bool b) ((r,cs)::(M.B m'++σ)):=by
 subst hc
 exact j0 h hm
theorem Wj(M:AMem)(r:Nat)(q:DQ)(m:M.S)(d:Int)(σ:Hp)(hf:M.O.free (M.abs m))(dX:q.at_≤1000)(hb:0≤q.b):ACalls Tryz.prog 409 [.ptr r 0,M.v,.int .i64 d] ((r,lU q)::(M.B m++σ)) (qs M σ lU r (gn M.O q (M.abs m))):=by
 have hw:IntKind.i64.wrap ((q.at_:Int)+1)=((q.at_+1:Nat):Int):=by rw[IntKind.wrap_i64];omega
 refine aA Tryz.func409 ?_
 refine eO.kz 0 _ _ rfl rfl (fun h0=>?_) (fun h0=>?_)
 ·exact .done (j0 (x:=q) (by simp[gn,h0]) rfl)
 refine aB [] (dO _ _ _) ?_
 refine aa 0 ?_
 refine an 0 ?_
 refine aa 0 ?_
 refine aq (fun c1=>?_) (fun c1=>?_)
 ·have c1:IntKind.i64.wrap ((↑q.at_:Int)+1)=1:=c1
  refine .sched [6] (upto [6] 15 0) (by kernel_rfl) ?_
  refine aa 0 ?_
  refine aI [] (vD _ _ _) ?_
  refine fj.mk M.hL ?_
  refine M.aLoad [_] hf fun m' hm=>?_
  refine an 0 ?_
  exact .done (kO (x:= { q with at_:=q.at_+1,b:=(M.O.ld (M.abs m) (gF q.base)).1 }) (by simp[gn,h0,show q.at_=0 by omega]) hm (by rw[hw];rfl))
 ·have c1:¬(IntKind.i64.wrap ((↑q.at_:Int)+1)=1):=c1
  refine aq (fun c2=>?_) (fun c2=>?_)
  ·have c2:IntKind.i64.wrap ((↑q.at_:Int)+1)=2:=c2
   refine .sched [] (upto [] 15 0) (by kernel_rfl) ?_
   refine aa 0 ?_
   refine fj.mk M.hL ?_
   refine M.aLoad [_] hf fun m' hm=>?_
   refine an 0 ?_
   refine .quiet (by kernel_rfl) ?_
   refine aa 0 ?_
   refine aa 0 ?_
   refine aa 0 ?_
   refine aI [] (Np _ _) ?_
   refine aq (fun c3=>?_) (fun c3=>?_)
   ·have c3:(↑(rm q.cap):Int)≤IntKind.i64.wrap (IntKind.u64.wrap (q.b-(M.O.ld (M.abs m) q.base).fst)):=c3
    refine .fwd 1 ?_
    refine an 0 ?_
    exact .done (kO (x:= { q with at_:=q.at_+1,t:=(M.O.ld (M.abs m) q.base).1,ended:=true }) (by simp[gn,h0,show q.at_=1 by omega,c3]) hm (by rw[hw];rfl))
   ·have c3:¬((↑(rm q.cap):Int)≤IntKind.i64.wrap (IntKind.u64.wrap (q.b-(M.O.ld (M.abs m) q.base).fst))):=c3
    exact .done (kO (x:= { q with at_:=q.at_+1,t:=(M.O.ld (M.abs m) q.base).1 }) (by unfold gn wr wu;(repeat' split) <;> first | rfl | omega | simp_all) hm (by rw[hw];rfl))
  ·have c2:¬(IntKind.i64.wrap ((↑q.at_:Int)+1)=2):=c2
   refine aq (fun c4=>?_) (fun c4=>?_)
   ·have c4:IntKind.i64.wrap ((↑q.at_:Int)+1)=3:=c4
    refine .sched [10] (upto [10] 19 0) (by kernel_rfl) ?_
    refine aa 0 ?_
    refine aa 0 ?_
    refine aI [] (MP _ _ _ _ hb) ?_
    refine aa 0 ?_
    refine fj.mk M.hS ?_
    refine M.aStore [_] hf fun m' hm=>?_
    exact .done (kO (x:= { q with at_:=q.at_+1 }) (by simp[gn,h0,show q.at_=2 by omega]) hm (by rw[hw];rfl))
   ·have c4:¬(IntKind.i64.wrap ((↑q.at_:Int)+1)=3):=c4
    refine .sched [5] (upto [5] 16 0) (by kernel_rfl) ?_
    refine aa 0 ?_
    refine aI [] (vD _ _ _) ?_
    refine aa 0 ?_
    refine fj.mk M.hS ?_
    refine M.aStore [_] hf fun m' hm=>?_
    refine an 0 ?_
    refine .fwd 1 ?_
    refine an 0 ?_
    exact .done (kO (x:= { q with at_:=q.at_+1,ok:=true,ended:=true }) (by simp[gn,h0,show q.at_≠0 by omega,show q.at_≠1 by omega,show q.at_≠2 by omega]) hm (by rw[hw];rfl))
def fq(O:j9)(q:DQ)(a:O.A):DQ×O.A×Bool:=
 if q.ended then (q,a,true)
 else if q.at_=0 then ({ q with at_:=q.at_+1,b:=wu ((O.ld a (gF q.base)).1-1) },(O.ld a (gF q.base)).2,false)
 else if q.at_=1 then ({ q with at_:=q.at_+1 },O.st a (gF q.base) q.b,false)
 else if q.at_=2 then ({ q with at_:=q.at_+1,t:=(O.ld a q.base).1 },(O.ld a q.base).2,false)
 else if q.at_=3 then
  (if wr q.b<wr q.t then ({ q with at_:=q.at_+1,ended:=true },O.st a (gF q.base) (wu (q.b+1)),true)
  else if wr q.t<wr q.b then ({ q with at_:=q.at_+1,x:=(O.ld a (lA q.base q.cap q.b)).1,ok:=true,n:=(O.ld a (lA q.base q.cap q.b)).1,ended:=true },(O.ld a (lA q.base q.cap q.b)).2,true)
  else ({ q with at_:=q.at_+1,x:=(O.ld a (lA q.base q.cap q.b)).1 },(O.ld a (lA q.base q.cap q.b)).2,false))
 else if q.at_=4 then ({ q with at_:=q.at_+1,ok:=(O.cs a q.base q.t (wu (q.t+1))).1 },(O.cs a q.base q.t (wu (q.t+1))).2,false)
 else ({ q with at_:=q.at_+1,n:=if q.ok then q.x else q.n,ended:=true },O.st a (gF q.base) (wu (q.b+1)),true)
theorem IX(M:AMem)(r:Nat)(q:DQ)(m:M.S)(d:Int)(σ:Hp)(hf:M.O.free (M.abs m))(dX:q.at_≤1000)(hb:0≤q.b):ACalls Tryz.prog 401 [.ptr r 0,M.v,.int .i64 d] ((r,lU q)::(M.B m++σ)) (qs M σ lU r (fq M.O q (M.abs m))):=by
 have hw:IntKind.i64.wrap ((q.at_:Int)+1)=((q.at_+1:Nat):Int):=by rw[IntKind.wrap_i64];omega
 refine aA Tryz.func401 ?_
 refine eO.kz 0 _ _ rfl rfl (fun h0=>?_) (fun h0=>?_)
 ·exact .done (j0 (x:=q) (by simp[fq,h0]) rfl)
 refine aB [] (dO _ _ _) ?_
 refine aa 0 ?_
 refine an 0 ?_
 refine aa 0 ?_
 refine aq (fun c1=>?_) (fun c1=>?_)
 ·have c1:IntKind.i64.wrap ((↑q.at_:Int)+1)=1:=c1
  refine .sched [6] (upto [6] 16 0) (by kernel_rfl) ?_
  refine aa 0 ?_
  refine aI [] (vD _ _ _) ?_
  refine fj.mk M.hL ?_
  refine M.aLoad [_] hf fun m' hm=>?_
  refine an 0 ?_
  exact .done (kO (x:= { q with at_:=q.at_+1,b:=wu ((M.O.ld (M.abs m) (gF q.base)).1-1) }) (by unfold fq wr wu;(repeat' split) <;> first | rfl | omega | simp_all) hm (by rw[hw];rfl))
 ·have c1:¬(IntKind.i64.wrap ((↑q.at_:Int)+1)=1):=c1
  refine aq (fun c2=>?_) (fun c2=>?_)
  ·have c2:IntKind.i64.wrap ((↑q.at_:Int)+1)=2:=c2
   refine .sched [5] (upto [5] 15 0) (by kernel_rfl) ?_
   refine aa 0 ?_
   refine aI [] (vD _ _ _) ?_
   refine aa 0 ?_
   refine fj.mk M.hS ?_
   refine M.aStore [_] hf fun m' hm=>?_
   exact .done (kO (x:= { q with at_:=q.at_+1 }) (by unfold fq wr wu;(repeat' split) <;> first | rfl | omega | simp_all) hm (by rw[hw];rfl))
  ·have c2:¬(IntKind.i64.wrap ((↑q.at_:Int)+1)=2):=c2
   refine aq (fun c3=>?_) (fun c3=>?_)
   ·have c3:IntKind.i64.wrap ((↑q.at_:Int)+1)=3:=c3
    refine .sched [] (upto [] 15 0) (by kernel_rfl) ?_
    refine aa 0 ?_
    refine fj.mk M.hL ?_
    refine M.aLoad [_] hf fun m' hm=>?_
    refine an 0 ?_
    exact .done (kO (x:= { q with at_:=q.at_+1,t:=(M.O.ld (M.abs m) q.base).1 }) (by unfold fq wr wu;(repeat' split) <;> first | rfl | omega | simp_all) hm (by rw[hw];rfl))
   ·have c3:¬(IntKind.i64.wrap ((↑q.at_:Int)+1)=3):=c3
    refine aq (fun c4=>?_) (fun c4=>?_)
    ·have c4:IntKind.i64.wrap ((↑q.at_:Int)+1)=4:=c4
     refine .quiet (by kernel_rfl) ?_
     refine aa 0 ?_
     refine aa 0 ?_
     refine aq (fun c5=>?_) (fun c5=>?_)
     ·have c5:IntKind.i64.wrap q.b<IntKind.i64.wrap q.t:=c5
      refine .fwd 1 ?_
      refine .sched [5] (upto [5] 16 0) (by kernel_rfl) ?_
      refine aa 0 ?_
      refine aI [] (vD _ _ _) ?_
      refine aa 0 ?_
      refine fj.mk M.hS ?_
      refine M.aStore [_] hf fun m' hm=>?_
      refine an 0 ?_
      exact .done (kO (x:= { q with at_:=q.at_+1,ended:=true }) (by unfold fq wr wu;(repeat' split) <;> first | rfl | omega | simp_all) hm (by rw[hw];rfl))
     ·have c5:¬(IntKind.i64.wrap q.b<IntKind.i64.wrap q.t):=c5
      refine .sched [11] (upto [11] 20 0) (by kernel_rfl) ?_
      refine aa 0 ?_
      refine aa 0 ?_
      refine aI [] (MP _ _ _ _ hb) ?_
      refine fj.mk M.hL ?_
      refine M.aLoad [_] hf fun m' hm=>?_
      refine an 0 ?_
      refine .quiet (by kernel_rfl) ?_
      refine aa 0 ?_
      refine aa 0 ?_
      refine aq (fun c6=>?_) (fun c6=>?_)
      ·have c6:IntKind.i64.wrap q.t<IntKind.i64.wrap q.b:=c6
       refine aa 0 ?_
       refine an 0 ?_
       refine an 0 ?_
       refine .fwd 1 ?_
       refine an 0 ?_
       exact .done (kO (x:= { q with at_:=q.at_+1,x:=(M.O.ld (M.abs m) (lA q.base q.cap q.b)).1,ok:=true,n:=(M.O.ld (M.abs m) (lA q.base q.cap q.b)).1,ended:=true }) (by unfold fq wr wu;(repeat' split) <;> first | rfl | omega | simp_all) hm (by rw[hw];rfl))
      ·have c6:¬(IntKind.i64.wrap q.t<IntKind.i64.wrap q.b):=c6
       exact .done (kO (x:= { q with at_:=q.at_+1,x:=(M.O.ld (M.abs m) (lA q.base q.cap q.b)).1 }) (by unfold fq wr wu;(repeat' split) <;> first | rfl | omega | simp_all) hm (by rw[hw];rfl))
    ·have c4:¬(IntKind.i64.wrap ((↑q.at_:Int)+1)=4):=c4
     refine aq (fun c7=>?_) (fun c7=>?_)
     ·have c7:IntKind.i64.wrap ((↑q.at_:Int)+1)=5:=c7
      refine .sched [] (upto [] 25 0) (by kernel_rfl) ?_
      refine aa 0 ?_
      refine aa 0 ?_
      refine aa 0 ?_
      refine fj.mk M.hC ?_
      refine M.aCas [_] hf fun m' hm=>?_
      refine an 0 ?_
      exact .done (kO (x:= { q with at_:=q.at_+1,ok:=(M.O.cs (M.abs m) q.base q.t (wu (q.t+1))).1 }) (by unfold fq wr wu;(repeat' split) <;> first | rfl | omega | simp_all) hm (by rw[hw];rfl))
     ·have c7:¬(IntKind.i64.wrap ((↑q.at_:Int)+1)=5):=c7
      refine eO.kz 0 _ _ rfl rfl (fun c8=>?_) (fun c8=>?_)
      ·refine aa 0 ?_
       refine an 0 ?_
       refine .fwd 1 ?_
       refine .sched [5] (upto [5] 16 0) (by kernel_rfl) ?_
       refine aa 0 ?_
       refine aI [] (vD _ _ _) ?_
       refine aa 0 ?_
       refine fj.mk M.hS ?_
       refine M.aStore [_] hf fun m' hm=>?_
       refine an 0 ?_
       exact .done (kO (x:= { q with at_:=q.at_+1,n:=q.x,ended:=true }) (by unfold fq wr wu;(repeat' split) <;> first | rfl | omega | simp_all) hm (by rw[hw];rfl))
      ·refine .fwd 1 ?_
       refine .sched [5] (upto [5] 16 0) (by kernel_rfl) ?_
       refine aa 0 ?_
       refine aI [] (vD _ _ _) ?_
       refine aa 0 ?_
       refine fj.mk M.hS ?_
       refine M.aStore [_] hf fun m' hm=>?_
       refine an 0 ?_
       exact .done (kO (x:= { q with at_:=q.at_+1,ended:=true }) (by unfold fq wr wu;(repeat' split) <;> first | rfl | omega | simp_all) hm (by rw[hw];rfl))
def gA(O:j9)(q:DQ)(a:O.A):DQ×O.A×Bool:=
 if q.ended then (q,a,true)
 else if q.at_=0 then ({ q with at_:=q.at_+1,t:=(O.ld a q.base).1 },(O.ld a q.base).2,false)
 else if q.at_=1 then
  (if wr (O.ld a (gF q.base)).1≤wr q.t then ({ q with at_:=q.at_+1,b:=(O.ld a (gF q.base)).1,ended:=true },(O.ld a (gF q.base)).2,true)
  else ({ q with at_:=q.at_+1,b:=(O.ld a (gF q.base)).1 },(O.ld a (gF q.base)).2,false))
 else if q.at_=2 then ({ q with at_:=q.at_+1,x:=(O.ld a (lA q.base q.cap q.t)).1 },(O.ld a (lA q.base q.cap q.t)).2,false)
 else ({ q with at_:=q.at_+1,ok:=(O.cs a q.base q.t (wu (q.t+1))).1,n:=if (O.cs a q.base q.t (wu (q.t+1))).1 then q.x else q.n,ended:=true },(O.cs a q.base q.t (wu (q.t+1))).2,true)
theorem HX(M:AMem)(r:Nat)(q:DQ)(m:M.S)(d:Int)(σ:Hp)(hf:M.O.free (M.abs m))(dX:q.at_≤1000)(hb:0≤q.t):ACalls Tryz.prog 403 [.ptr r 0,M.v,.int .i64 d] ((r,lU q)::(M.B m++σ)) (qs M σ lU r (gA M.O q (M.abs m))):=by
 have hw:IntKind.i64.wrap ((q.at_:Int)+1)=((q.at_+1:Nat):Int):=by rw[IntKind.wrap_i64];omega
 refine aA Tryz.func403 ?_
 refine eO.kz 0 _ _ rfl rfl (fun h0=>?_) (fun h0=>?_)
 ·exact .done (j0 (x:=q) (by simp[gA,h0]) rfl)
 refine aB [] (dO _ _ _) ?_
 refine aa 0 ?_
 refine an 0 ?_
 refine aa 0 ?_
 refine aq (fun c1=>?_) (fun c1=>?_)
 ·have c1:IntKind.i64.wrap ((↑q.at_:Int)+1)=1:=c1
  refine .sched [] (upto [] 15 0) (by kernel_rfl) ?_
  refine aa 0 ?_
  refine fj.mk M.hL ?_
  refine M.aLoad [_] hf fun m' hm=>?_
  refine an 0 ?_
  exact .done (kO (x:= { q with at_:=q.at_+1,t:=(M.O.ld (M.abs m) q.base).1 }) (by unfold gA wr wu;(repeat' split) <;> first | rfl | omega | simp_all) hm (by rw[hw];rfl))
 ·have c1:¬(IntKind.i64.wrap ((↑q.at_:Int)+1)=1):=c1
  refine aq (fun c2=>?_) (fun c2=>?_)
  ·have c2:IntKind.i64.wrap ((↑q.at_:Int)+1)=2:=c2
   refine .sched [6] (upto [6] 15 0) (by kernel_rfl) ?_
   refine aa 0 ?_
   refine aI [] (vD _ _ _) ?_
   refine fj.mk M.hL ?_
   refine M.aLoad [_] hf fun m' hm=>?_
   refine an 0 ?_
   refine .quiet (by kernel_rfl) ?_
   refine aa 0 ?_
   refine aa 0 ?_
   refine aq (fun c3=>?_) (fun c3=>?_)
   ·have c3:IntKind.i64.wrap (M.O.ld (M.abs m) (gF q.base)).fst≤IntKind.i64.wrap q.t:=c3
    refine .fwd 1 ?_
    refine an 0 ?_
    exact .done (kO (x:= { q with at_:=q.at_+1,b:=(M.O.ld (M.abs m) (gF q.base)).1,ended:=true }) (by unfold gA wr wu;(repeat' split) <;> first | rfl | omega | simp_all) hm (by rw[hw];rfl))
   ·have c3:¬(IntKind.i64.wrap (M.O.ld (M.abs m) (gF q.base)).fst≤IntKind.i64.wrap q.t):=c3
    exact .done (kO (x:= { q with at_:=q.at_+1,b:=(M.O.ld (M.abs m) (gF q.base)).1 }) (by unfold gA wr wu;(repeat' split) <;> first | rfl | omega | simp_all) hm (by rw[hw];rfl))
  ·have c2:¬(IntKind.i64.wrap ((↑q.at_:Int)+1)=2):=c2
   refine aq (fun c4=>?_) (fun c4=>?_)
   ·have c4:IntKind.i64.wrap ((↑q.at_:Int)+1)=3:=c4
    refine .sched [11] (upto [11] 20 0) (by kernel_rfl) ?_
    refine aa 0 ?_
    refine aa 0 ?_
    refine aI [] (MP _ _ _ _ hb) ?_
    refine fj.mk M.hL ?_
    refine M.aLoad [_] hf fun m' hm=>?_
    refine an 0 ?_
    exact .done (kO (x:= { q with at_:=q.at_+1,x:=(M.O.ld (M.abs m) (lA q.base q.cap q.t)).1 }) (by unfold gA wr wu;(repeat' split) <;> first | rfl | omega | simp_all) hm (by rw[hw];rfl))
   ·have c4:¬(IntKind.i64.wrap ((↑q.at_:Int)+1)=3):=c4
    refine .sched [] (upto [] 25 0) (by kernel_rfl) ?_
    refine aa 0 ?_
    refine aa 0 ?_
    refine aa 0 ?_
    refine fj.mk M.hC ?_
    refine M.aCasB [_] hf (fun m' hm hb=>?_) (fun m' hm hb=>?_)
    ·refine an 0 ?_
     refine aa 0 ?_
     refine aa 0 ?_
     refine an 0 ?_
     refine .fwd 1 ?_
     refine an 0 ?_
     exact .done (kO (x:= { q with at_:=q.at_+1,ok:=true,n:=q.x,ended:=true }) (by unfold gA wr wu;(repeat' split) <;> first | rfl | omega | simp_all) hm (by rw[hw];rfl))
    ·refine an 0 ?_
     refine aa 0 ?_
     refine .fwd 1 ?_
     refine an 0 ?_
     exact .done (kO (x:= { q with at_:=q.at_+1,ok:=false,ended:=true }) (by unfold gA wr wu;(repeat' split) <;> first | rfl | omega | simp_all) hm (by rw[hw];rfl))
theorem aeP(p q:Nat)(ws:List Int)(b c:Int)(σ:Hp):ACalls Tryz.prog 161 [.agg [.int .i64 b,.int .i64 c],mK p] (ca p q ws σ) (aE (.tup []) (ca p q (gZ (gZ ws b 1) (gF b) 1) σ)):=by
 refine aA Tryz.func161 ?_
 intro aG
 refine aB [] (dO _ _ _) ?_
 refine aa 0 ?_
 refine⟨_,mStore_,?_⟩
 refine aB [2,2] (aStore p q _ _ _ _) ?_
 refine .sched [2] (upto [2] 7 0) (by kernel_rfl) ?_
 refine aa 2 ?_
 refine aI [] (vD _ _ _) ?_
 refine fj.mk hStore_ ?_
 refine⟨_,mStore_,?_⟩
 refine aB [] (aStore p q _ _ _ _) ?_
 exact .drop 2 1 (.done ⟨rfl,rfl⟩)
set_option maxHeartbeats 4000000
theorem Ht{ws:List Int}(h:bA ws)(a:Int):bM (gD ws a):=by
 unfold gD
 split
 ·exact⟨by decide,by decide⟩
 ·rw[aR]
  cases hq:ws[a.toNat]? with
  |none=>exact⟨by decide,by decide⟩
  |some x=>exact h x (bH hq)
theorem PG(a:List Int)(i:Nat)(σ:Hp):ACalls Tryz.prog 213 [.ai (.int .u64) a,.int .i64 i] σ (aE (.int .u64 (wd a i)) σ):=by
 refine aA Tryz.func213 ?_
 refine aq (fun h=>?_) (fun h=>?_)
 ·have h:(a.length:Int)≤i:=h
  exact .done ⟨aW (by simp[wd,List.getElem?_eq_none (show a.length≤i by omega)]),rfl⟩
 ·have h:¬(a.length:Int)≤i:=h
  have hi:i<a.length:=by omega
  refine aH.mk rfl (cg.mk a[i] (by omega) (get_some hi) ?_)
  exact .done ⟨aW (by simp[wd,hi]),rfl⟩
def cw(n:Int):Nat:=(min (max n 0) 1024).toNat
theorem Bj(n:Int):cw n≤1024:=by unfold cw;omega
theorem afR(n:Int):(if (1024:Int)<(if n<0 then 0 else n) then (1024:Int) else (if n<0 then 0 else n))=((cw n:Nat):Int):=by
 unfold cw
 by_cases h:n<0
 ·simp only[ag h];omega
 ·simp only[ah h];split <;> omega
theorem ob(b w n:Int)(σ:Hp):ACalls Tryz.prog 163 [.agg [.int .i64 b,.int .i64 w,.int .i64 n]] σ (aE (.int .i64 (cw n)) σ):=by
 refine aA Tryz.func163 ?_
 intro aG
 refine aa 0 ?_
 exact .drop 0 1 (.done ⟨aW (afR n),rfl⟩)
structure Jn where
 base:Int
 what:Int
 words:Int
 a:List Int
 changed:Bool
 ended:Bool
 tries:Int
 at_:Nat
 fv:Bool
 x:Int
def zQ(j:Jn):List AV:=[.int .i64 j.base,.int .i64 j.what,.int .i64 j.words,.ai (.int .u64) j.a,.bool j.changed,.bool j.ended,.int .i64 j.tries,.int .i64 j.at_,.bool j.fv,.int .u64 j.x]
def gL(j:Jn):Jn×Bool:=if j.at_+1<cw j.words then ({ j with at_:=j.at_+1 },false) else ({ j with at_:=j.at_+1,ended:=true },true)
def iq(O:j9)(j:Jn)(a:O.A):Jn×O.A×Bool:=
 if j.ended then (j,a,true)
 else if j.at_=cw j.words then ({ j with ended:=true },a,true)
 else if j.fv then
  (if (O.cs a (wr (j.base+j.at_)) j.x (dx j.what j.x (wd j.a j.at_))).1 then ((gL { j with fv:=false,changed:=true }).1,(O.cs a (wr (j.base+j.at_)) j.x (dx j.what j.x (wd j.a j.at_))).2,(gL { j with fv:=false,changed:=true }).2)
  else ({ j with fv:=false,tries:=wr (j.tries+1) },(O.cs a (wr (j.base+j.at_)) j.x (dx j.what j.x (wd j.a j.at_))).2,false))
 else if dx j.what (O.ld a (wr (j.base+j.at_))).1 (wd j.a j.at_)=(O.ld a (wr (j.base+j.at_))).1 then ((gL { j with x:=(O.ld a (wr (j.base+j.at_))).1 }).1,(O.ld a (wr (j.base+j.at_))).2,(gL { j with x:=(O.ld a (wr (j.base+j.at_))).1 }).2)
 else ({ j with x:=(O.ld a (wr (j.base+j.at_))).1,fv:=true },(O.ld a (wr (j.base+j.at_))).2,false)
theorem HO{M:AMem}{σ:Hp}{X:Type}{B:X→List AV}{r:Nat}{res:X×M.O.A×Bool}{x:X}{a:M.O.A}{b:Bool}{m':M.S}{cs:List AV}(h:res=(x,a,b))(hm:M.abs m'=a)(hc:cs=B x):qs M σ B r res (.bool b) ((r,cs)::(M.B m'++σ)):=by
 subst hc
 exact j0 h hm
theorem Im(M:AMem)(r:Nat)(j:Jn)(m:M.S)(d:Int)(σ:Hp)(hf:M.O.free (M.abs m))(dX:j.at_≤2000):ACalls Tryz.prog 407 [.ptr r 0,M.v,.int .i64 d] ((r,zQ j)::(M.B m++σ)) (qs M σ zQ r (iq M.O j (M.abs m))):=by
 refine aA Tryz.func407 ?_
 have hw:IntKind.i64.wrap ((j.at_:Int)+1)=((j.at_+1:Nat):Int):=by rw[IntKind.wrap_i64];omega
 refine eO.kz 0 _ _ rfl rfl (fun h0=>?_) (fun h0=>?_)
 ·exact .done (j0 (x:=j) (by simp[iq,h0]) rfl)
 refine aB [] (dO _ _ _) ?_
 refine .quiet (by kernel_rfl) ?_
 refine aa 0 ?_
 refine aa 0 ?_
 refine aI [] (ob _ _ _ _) ?_
 refine aq (fun c1=>?_) (fun c1=>?_)
 ·have c1:(j.at_:Int)=cw j.words:=c1
  have c1:j.at_=cw j.words:=by omega
  refine .fwd 1 ?_
  refine an 0 ?_
  exact .done (j0 (x:= { j with ended:=true }) (by simp[iq,h0,c1]) rfl)
 ·have c1:¬(j.at_:Int)=cw j.words:=c1
  have c1:¬j.at_=cw j.words:=by omega
  refine eO.kz 0 _ _ rfl rfl (fun c2=>?_) (fun c2=>?_)
  ·refine an 0 ?_
   refine .sched [36,37] (upto [36,37] 43 0) (by kernel_rfl) ?_
   refine aa 0 ?_
   refine aa 0 ?_
   refine aa 0 ?_
   refine aa 0 ?_
   refine aa 0 ?_
   refine aa 0 ?_
   refine aa 0 ?_
   refine aI [] (PG _ _ _) ?_
   refine aI [] (Wh _ _ _ _) ?_
   refine fj.mk M.hC ?_
   refine M.aCasB [_] hf (fun m' hm hb=>?_) (fun m' hm hb=>?_)
   ·refine an 0 ?_
    refine .fwd 1 ?_
    refine aa 0 ?_
    refine an 0 ?_
    refine .quiet (by kernel_rfl) ?_
    refine aa 0 ?_
    refine aa 0 ?_
    refine aI [] (ob _ _ _ _) ?_
    refine aq (fun c3=>?_) (fun c3=>?_)
    ·have c3:IntKind.i64.wrap (↑j.at_+1) < ↑(cw j.words):=c3
     exact .done (HO (x:= { j with fv:=false,changed:=true,at_:=j.at_+1 }) (by simp[iq,h0,c1,c2,hb,gL,show j.at_+1<cw j.words by omega]) hm (by rw[hw];rfl))
    ·have c3:¬(IntKind.i64.wrap (↑j.at_+1) < ↑(cw j.words)):=c3
     refine an 0 ?_
     exact .done (HO (x:= { j with fv:=false,changed:=true,at_:=j.at_+1,ended:=true }) (by simp[iq,h0,c1,c2,hb,gL,show ¬j.at_+1<cw j.words by omega]) hm (by rw[hw];rfl))
   ·refine aa 0 ?_
    refine an 0 ?_
    exact .done (j0 (x:= { j with fv:=false,tries:=wr (j.tries+1) }) (by simp[iq,h0,c1,c2,hb]) hm)
  ·refine .sched [] (upto [] 21 0) (by kernel_rfl) ?_
   refine aa 0 ?_
   refine aa 0 ?_
   refine fj.mk M.hL ?_
   refine M.aLoad [_] hf fun m' hm=>?_
   refine an 0 ?_
   refine .quiet (by kernel_rfl) ?_
   refine aa 0 ?_
   refine aa 0 ?_
   refine aa 0 ?_
   refine aa 0 ?_
   refine aI [] (PG _ _ _) ?_
   refine aI [] (Wh _ _ _ _) ?_
   refine aa 0 ?_
   refine eG (fun c4=>?_) (fun c4=>?_)
   ·have c4:¬(dx j.what (M.O.ld (M.abs m) (IntKind.i64.wrap (j.base + ↑j.at_))).fst (wd j.a j.at_)=(M.O.ld (M.abs m) (IntKind.i64.wrap (j.base + ↑j.at_))).fst):=by simpa using c4
    refine an 0 ?_
    exact .done (j0 (x:= { j with x:=(M.O.ld (M.abs m) (wr (j.base+j.at_))).1,fv:=true }) (by simp[iq,h0,c1,c2,c4]) hm)
   ·have c4:dx j.what (M.O.ld (M.abs m) (IntKind.i64.wrap (j.base + ↑j.at_))).fst (wd j.a j.at_)=(M.O.ld (M.abs m) (IntKind.i64.wrap (j.base + ↑j.at_))).fst:=by simpa using c4
    refine aa 0 ?_
    refine an 0 ?_
    refine .quiet (by kernel_rfl) ?_
    refine aa 0 ?_
    refine aa 0 ?_
    refine aI [] (ob _ _ _ _) ?_
    refine aq (fun c5=>?_) (fun c5=>?_)
    ·have c5:IntKind.i64.wrap (↑j.at_+1) < ↑(cw j.words):=c5
     exact .done (HO (x:= { j with x:=(M.O.ld (M.abs m) (wr (j.base+j.at_))).1,at_:=j.at_+1 }) (by simp[iq,h0,c1,c2,c4,gL,show j.at_+1<cw j.words by omega]) hm (by rw[hw];rfl))
    ·have c5:¬(IntKind.i64.wrap (↑j.at_+1) < ↑(cw j.words)):=c5
     refine an 0 ?_
     exact .done (HO (x:= { j with x:=(M.O.ld (M.abs m) (wr (j.base+j.at_))).1,at_:=j.at_+1,ended:=true }) (by simp[iq,h0,c1,c2,c4,gL,show ¬j.at_+1<cw j.words by omega]) hm (by rw[hw];rfl))
def Bt(base:Int)(a:List Int)(ws:List Int):Nat→List Int
 | 0=>ws
 |k+1=>gZ (Bt base a ws k) (wr (base+k)) (wd a k)
theorem aim(p q:Nat)(ws:List Int)(b w n:Int)(a:List Int)(σ:Hp):ACalls Tryz.prog 159 [.agg [.int .i64 b,.int .i64 w,.int .i64 n],mK p,.ai (.int .u64) a] (ca p q ws σ) (aE (.tup []) (ca p q (Bt b a ws (cw n)) σ)):=by
 have hc:=Bj n
 refine aA Tryz.func159 ?_
 intro aG
 refine aB [] (dO _ _ _) ?_
 refine aa 0 ?_
 refine aB [] (ob _ _ _ _) ?_
 refine cj (S:=Nat) (fun s=>[(1,mK p),(2,.ai (.int .u64) a),(3,.ptr aG 0),(10,.int .i64 (cw n)),(11,.int .i64 s)]) (fun s=>(aG,[.int .i64 b,.int .i64 w,.int .i64 n])::ca p q (Bt b a ws s) σ) (fun s=>s≤cw n) (fun s=>cw n-s) 0 ⟨bK _,⟨rfl,rfl,rfl,rfl,rfl,trivial⟩,rfl⟩ ?_
 intro k g hk
 refine aq (fun h=>?_) (fun h=>?_)
 ·have h:(k:Int)<cw n:=h
  refine .sched [7] (upto [7] 12 0) (by kernel_rfl) ?_
  refine aa 0 ?_
  refine aI [] (PG _ _ _) ?_
  refine fj.mk hStore_ ?_
  refine⟨_,mStore_,?_⟩
  refine aB [2,2] (aStore p q _ _ _ _) ?_
  refine aZ (k+1) ?_ ?_ ⟨rfl,rfl,rfl,rfl,bu (by omega),trivial⟩ (.pull [2] (aJ rfl))
  ·show cw n-(k+1)<cw n-k;omega
  ·show k+1≤cw n;omega
 ·have h:¬(k:Int)<cw n:=h
  obtain rfl:k=cw n:=by omega
  exact .drop 0 1 (.done ⟨rfl,rfl⟩)
def pP(base:Int)(ws:List Int)(k:Nat):List Int:=(List.range k).map fun i=>gD ws (wr (base+(i:Nat)))
theorem Ye(base:Int)(ws:List Int)(k:Nat):(pP base ws k).length=k:=by unfold pP;rw[cb,oY]
theorem aag(base:Int)(ws:List Int)(k:Nat):pP base ws (k+1)=pP base ws k++[gD ws (wr (base+k))]:=by unfold pP;rw[wU,cM];rfl
theorem air(p q:Nat)(ws:List Int)(b w n:Int)(σ:Hp):ACalls Tryz.prog 107 [.agg [.int .i64 b,.int .i64 w,.int .i64 n],mK p] (ca p q ws σ) (aE (.ai (.int .u64) (pP b ws (cw n))) (ca p q ws σ)):=by
 have hc:=Bj n
 refine aA Tryz.func107 ?_
 intro aG
 refine aB [] (dO _ _ _) ?_
 refine aa 0 ?_
 refine aB [] (ob _ _ _ _) ?_
 refine .wrap 5 _ rfl rfl ?_
 refine cj (S:=Nat×AV×Hp) (fun s=>[(1,mK p),(2,.ptr aG 0),(5,.via s.2.1),(10,.int .i64 (cw n)),(11,.int .i64 s.1)]) (fun s=>(aG,[.int .i64 b,.int .i64 w,.int .i64 n])::(s.2.2++ca p q ws σ)) (fun s=>s.1≤cw n∧Acc 1 s.1 s.2.1 s.2.2 (bB (pP b ws s.1))) (fun s=>cw n-s.1) (0,.aj,[]) ⟨⟨bK _,.nil⟩,⟨rfl,rfl,rfl,rfl,rfl,trivial⟩,rfl⟩ ?_
 rintro⟨k,v,acc⟩ g ⟨hk,cC⟩
 have hk:k≤cw n:=hk
 have cC:Acc 1 k v acc (bB (pP b ws k)):=cC
 refine aq (fun h=>?_) (fun h=>?_)
 ·have h:(k:Int)<cw n:=h
  refine aa 0 ?_
  refine⟨_,mLoad_,?_⟩
  refine .perm (σ2:=ca p q ws ((aG,[.int .i64 b,.int .i64 w,.int .i64 n])::(acc++σ))) _ ?_ (aLoad p q ws _ _) ?_
  ·exact fB ((aG,[.int .i64 b,.int .i64 w,.int .i64 n])::acc) [_,_] σ
  rintro _ _ ⟨rfl,rfl⟩
  refine⟨_,(fB ((aG,[.int .i64 b,.int .i64 w,.int .i64 n])::acc) [_,_] σ).symm,?_⟩
  intro eV
  refine my [_,_] cC (.ae 0 eV 0 1 _ rfl (cT rfl)) rfl (by omega) (by decide) (by decide) (fun v' bN h'=>?_)
  refine aZ (k+1,v',bN) ?_ ⟨?_,?_⟩ ⟨rfl,rfl,rfl,rfl,bu (by omega),trivial⟩ (.drop 0 1 (aJ rfl))
  ·show cw n-(k+1)<cw n-k;omega
  ·show k+1≤cw n;omega
  ·show Acc 1 (k+1) v' bN (bB (pP b ws (k+1)))
   rw[aag,bB,cM]
   exact h'
 ·have h:¬(k:Int)<cw n:=h
  obtain rfl:k=cw n:=by omega
  refine .drop 0 1 ?_
  exact xB (s:=.int .u64) (l:=pP b ws (cw n)) [] cC (Ye b ws _).symm (by rw[rb]) (by decide) (.done ⟨rfl,rfl⟩)
def kc(v:AV)(base what words:Int)(ended:Bool)(at_:Nat)(fv:Bool)(x:Int):List AV:=[.int .i64 base,.int .i64 what,.int .i64 words,v,.bool ended,.int .i64 at_,.bool fv,.int .u64 x]
inductive kL:AV→Hp→List Int→Prop where
 |nil:kL .aj [] []
 |ae (b:Nat) (l:List Int):kL (.ae b 0 l.length 1) [(b,bB l)] l
theorem kL.push(b:Nat)(l:List Int)(x:Int):kL (.ae b 0 (l.length+1) 1) [(b,(bB l).take (l.length*1)++[.int .u64 x])] (l++[x]):=by
 have h:=kL.ae b (l++[x])
 have e1:(l++[x]).length=l.length+1:=by simp
 have e2:bB (l++[x])=(bB l).take (l.length*1)++[.int .u64 x]:=by rw[List.take_of_length_le (by simp[bB])];simp[bB]
 rw[e1,e2]at h
 exact h
theorem aaV(σ:Hp):ACalls Tryz.prog 256 [.aj] σ (aE .aj σ):=by
 refine aA Tryz.func256 ?_
 exact .done ⟨rfl,rfl⟩
theorem CW(b k:Nat)(cs:List AV)(σ:Hp)(hm:(b,cs)∈σ)(h:cs.length=k*1)(hl:k≤1000000):ACalls Tryz.prog 256 [.ae b 0 k 1] σ (fun x σ'=>∃b',x=.ae b' 0 k 1∧σ'=(b',cs)::σ):=by
 refine aA Tryz.func256 ?_
 intro b2
 refine AppendAt.more 0 b2 0 k [] ((cs.drop 0).take (k*1)) rfl rfl (cT rfl) (.mem (cE _ hm) (by show 0+k*1≤cs.length;omega)) (by omega) (by decide) (by decide) (fun b'=>?_)
 refine .done ⟨b',by rw[dK];rfl,?_⟩
 show (b',List.take (0*1) []++(cs.drop 0).take (k*1))::σ=_
 rw[show (cs.drop 0).take (k*1)=cs by rw[iB,eZ (by omega)]];rfl
structure Lay where
 what:Int
 words:Int
 n:Int
 k:Int
def gP(l:Lay):List AV:=[.int .i64 l.what,.int .i64 l.words,.int .i64 l.n,.int .i64 l.k]
def cP(l:Lay):Int:=wr (l.n*l.words)
def dr(l:Lay):Int:=wr (cP l+l.n)
def eu(l:Lay):Int:=wr (l.n+1)
def iT(l:Lay)(w:Int):Int:=wr (wr (dr l+1)+wr (w*((2+rm (eu l):Nat):Int)))
def aS(l:Lay)(v:Int):Int:=wr (v*l.words)
def iI(s:Sy)(k:Int):Lay:=⟨kX (cx s k) s.what,kX (cx s k) (ft s.what s.w),kX (cx s k) s.n,kX (cx s k) k⟩
theorem aeA(n:Int)(σ:Hp):ACalls Tryz.prog 87 [.int .i64 n] σ (aE (.int .i64 ((2+rm n:Nat):Int)) σ):=by
 have h:=vJ n
 refine aA Tryz.func87 ?_
 refine aB [] (Np _ _) ?_
 exact .done ⟨aW (by rw[IntKind.wrap_i64];omega),rfl⟩
theorem VG(l:Lay)(σ:Hp):ACalls Tryz.prog 108 [.agg (gP l)] σ (aE (.int .i64 (cP l)) σ):=by
 refine aA Tryz.func108 ?_
 intro aG
 refine aa 0 ?_
 refine aa 0 ?_
 exact .drop 0 1 (.done ⟨rfl,rfl⟩)
theorem US(l:Lay)(σ:Hp):ACalls Tryz.prog 109 [.agg (gP l)] σ (aE (.int .i64 (dr l)) σ):=by
 refine aA Tryz.func109 ?_
 intro aG
 refine .quiet (by kernel_rfl) ?_
 refine aa 0 ?_
 refine aI [] (VG l _) ?_
 refine aa 0 ?_
 exact .drop 0 1 (.done ⟨rfl,rfl⟩)
theorem MS(l:Lay)(σ:Hp):ACalls Tryz.prog 88 [.agg (gP l)] σ (aE (.int .i64 (eu l)) σ):=by
 refine aA Tryz.func88 ?_
 intro aG
 refine aa 0 ?_
 exact .drop 0 1 (.done ⟨rfl,rfl⟩)
theorem DA(l:Lay)(w:Int)(σ:Hp):ACalls Tryz.prog 52 [.agg (gP l),.int .i64 w] σ (aE (.agg [.int .i64 (iT l w),.int .i64 (eu l)]) σ):=by
 refine aA Tryz.func52 ?_
 intro aG
 intro eV
 refine .sched [1,5,6,10] (upto [1,5,6,10] 13 0) (by kernel_rfl) ?_
 refine aa 1 ?_
 refine aI [] (US l _) ?_
 refine aa 1 ?_
 refine aI [] (MS l _) ?_
 refine aI [] (aeA _ _) ?_
 refine aa 1 ?_
 refine aI [] (MS l _) ?_
 refine an 0 ?_
 refine aa 0 ?_
 exact .drop 0 2 (.done ⟨rfl,rfl⟩)
theorem Ms(l:Lay)(σ:Hp):ACalls Tryz.prog 45 [.agg (gP l)] σ (aE (.agg [.int .i64 (cP l),.int .i64 (dr l)]) σ):=by
 refine aA Tryz.func45 ?_
 intro aG
 intro eV
 refine .sched [1,3] (upto [1,3] 6 0) (by kernel_rfl) ?_
 refine aa 1 ?_
 refine aI [] (VG l _) ?_
 refine aa 1 ?_
 refine aI [] (US l _) ?_
 refine an 0 ?_
 refine aa 0 ?_
 exact .drop 0 2 (.done ⟨rfl,rfl⟩)
theorem H0(l:Lay)(v:Int)(σ:Hp):ACalls Tryz.prog 106 [.agg (gP l),.int .i64 v] σ (aE (.agg [.int .i64 (aS l v),.int .i64 l.what,.int .i64 l.words]) σ):=by
 refine aA Tryz.func106 ?_
 intro aG
 intro eV
 refine aa 1 ?_
 refine aa 1 ?_
 refine aa 1 ?_
 refine an 0 ?_
 refine aa 0 ?_
 exact .drop 0 2 (.done ⟨rfl,rfl⟩)
theorem VD(l:Lay)(σ:Hp):ACalls Tryz.prog 96 [.agg (gP l)] σ (aE (.int .i64 (iT l l.k)) σ):=by
 refine aA Tryz.func96 ?_
 intro aG
 refine aa 0 ?_
 refine aa 0 ?_
 refine aB [] (DA l _ _) ?_
 exact .drop 0 1 (.done ⟨rfl,rfl⟩)
theorem MR(s:Sy)(k:Int)(σ:Hp)(hf:Fit s):ACalls Tryz.prog 37 [.agg (cd s),.int .i64 k] σ (aE (.tup [.agg (gP (iI s k)),.int .i64 (cx s k)]) σ):=by
 refine aA Tryz.func37 ?_
 intro aG
 intro eV
 refine aa 1 ?_
 refine aB [] (GX s _ hf) ?_
 refine eG (fun c3=>?_) (fun c3=>?_)
 ·have c3:¬(dH s=0):=by simpa using c3
  refine an 0 ?_
  refine aa 0 ?_
  exact .drop 0 2 (.done ⟨abS (by assumption),rfl⟩)
 ·have c3:dH s=0:=by simpa using c3
  refine aq (fun c4=>?_) (fun c4=>?_)
  ·have c4:k<1:=c4
   refine an 0 ?_
   refine aa 0 ?_
   exact .drop 0 2 (.done ⟨SQ (by assumption) (by omega),rfl⟩)
  ·have c4:¬(k<1):=c4
   refine aq (fun c5=>?_) (fun c5=>?_)
   ·have c5:64<k:=c5
    refine an 0 ?_
    refine aa 0 ?_
    exact .drop 0 2 (.done ⟨SQ (by assumption) (by omega),rfl⟩)
   ·have c5:¬(64<k):=c5
    refine .sched [6] (upto [6] 13 0) (by kernel_rfl) ?_
    refine aa 1 ?_
    refine aa 1 ?_
    refine aa 1 ?_
    refine aI [] (Dz _ _ _) ?_
    refine aa 1 ?_
    refine an 0 ?_
    refine aa 0 ?_
    exact .drop 0 2 (.done ⟨adY (by assumption) (by omega),rfl⟩)
inductive Nw where
 |none
 |pop (q:DQ)
 |cc (q:DQ)
 |quiet (t:Qk)
 |clear (t:Ck)
 |read (l:List Int)
 |join (j:Jn)
 |take (t:Tk)
 |push (q:DQ)
 |dA (t:Rk)
structure WS where
 ev:Int
 jo:Int
 en:Bool
 does:Int
 now:Nw
 node:Int
 has:Bool
 nx:List Int
 out:List Int
abbrev dT(s:Sy)(l:Lay)(who ev jo:Int)(en:Bool)(does:Int)(nv:AV)(node:Int)(has:Bool)(nx out:List Int):List AV:=
 [.int .i64 ev,.int .i64 jo,.bool en,.int .i64 s.what,.int .i64 s.w,.int .i64 s.n,.ai dG s.aL,.ai (.int .i64) s.entry,.ai (.int .u64) s.init,.ai lX s.T,.int .i64 l.what,.int .i64 l.words,.int .i64 l.n,.int .i64 l.k,.int .i64 who,.int .i64 does,nv,.int .i64 node,.bool has,.ai (.int .i64) nx,.ai (.int .u64) out,.bool true]
theorem MT(w:Nat)(s:Sy)(l:Lay)(who ev jo:Int)(en:Bool)(does:Int)(nv:AV)(node:Int)(has:Bool)(nx out:List Int)(σ:Hp):ACalls Tryz.prog 396 [.ptr w 0] ((w,dT s l who ev jo en does nv node has nx out)::σ) (aE (.bool (decide (l.k<2))) ((w,dT s l who ev jo en does nv node has nx out)::σ)):=by
 refine aA Tryz.func396 ?_
 refine aa 0 ?_
 refine aq (fun c1=>?_) (fun c1=>?_)
 ·have c1:l.k<2:=c1
  exact .done ⟨eb (aY (by assumption)).symm,rfl⟩
 ·have c1:¬(l.k<2):=c1
  exact .done ⟨eb (b9 (by assumption)).symm,rfl⟩
def nK(l:Lay):Int:=wr (l.k-1)
def De(l:Lay)(who d:Int):Int:=(wr (wr (who+1)+(wr (d.tmod (nK l)+nK l)).tmod (nK l))).tmod l.k
theorem aeF(w:Nat)(s:Sy)(l:Lay)(who ev jo:Int)(en:Bool)(does:Int)(nv:AV)(node:Int)(has:Bool)(nx out:List Int)(d:Int)(σ:Hp)(h1:nK l≠0)(h2:l.k≠0):ACalls Tryz.prog 393 [.ptr w 0,.int .i64 d] ((w,dT s l who ev jo en does nv node has nx out)::σ) (aE (.int .i64 (De l who d)) ((w,dT s l who ev jo en does nv node has nx out)::σ)):=by
 refine aA Tryz.func393 ?_
 refine aa 0 ?_
 refine .quiet (by kernel_rfl) ?_
 refine aa 0 ?_
 refine aH.mk h1 ?_
 refine aH.mk h1 ?_
 refine aa 0 ?_
 refine aH.mk h2 ?_
 exact .done ⟨rfl,rfl⟩
def pg(l:Lay)(n:Int):Int:=if wu l.n≤n then 0 else wr n
def rj(l:Lay)(n:Int):Int:=if wu l.n≤n then 8 else 3
theorem W5(w:Nat)(s:Sy)(l:Lay)(who ev jo:Int)(en:Bool)(does:Int)(nv:AV)(node:Int)(has:Bool)(nx out:List Int)(n:Int)(σ:Hp):ACalls Tryz.prog 394 [.ptr w 0,.int .u64 n] ((w,dT s l who ev jo en does nv node has nx out)::σ) (aE (.int .i64 (rj l n)) ((w,dT s l who ev jo en does nv (pg l n) true nx out)::σ)):=by
 refine aA Tryz.func394 ?_
 refine an 0 ?_
 refine an 0 ?_
 refine aa 0 ?_
 refine aq (fun c1=>?_) (fun c1=>?_)
 ·have c1:IntKind.u64.wrap l.n≤n:=c1
  exact .done ⟨aW (ag c1).symm,congrArg (fun z=>(w,dT s l who ev jo en does nv z true nx out)::σ) (show _=pg l n from (ag c1).symm)⟩
 ·have c1:¬(IntKind.u64.wrap l.n≤n):=c1
  refine an 0 ?_
  exact .done ⟨aW (ah c1).symm,congrArg (fun z=>(w,dT s l who ev jo en does nv z true nx out)::σ) (show _=pg l n from (ah c1).symm)⟩
def rf(l:Lay):Int:=if l.k<2 then 2 else 1
theorem agc(w:Nat)(s:Sy)(l:Lay)(who ev jo:Int)(en:Bool)(does:Int)(nv:AV)(node:Int)(has:Bool)(nx out:List Int)(σ:Hp):ACalls Tryz.prog 395 [.ptr w 0] ((w,dT s l who ev jo en does nv node has nx out)::σ) (aE (.int .i64 (rf l)) ((w,dT s l who ev jo en does nv node has nx out)::σ)):=by
 refine aA Tryz.func395 ?_
 refine fM [] (MT w s l who ev jo en does nv node has nx out _) (fun c=>?_) (fun c=>?_)
 ·exact .done ⟨aW (ag (fP c)).symm,rfl⟩
 ·exact .done ⟨aW (ah (sd c)).symm,rfl⟩
def ko(nx:List Int):Int:=if nx.tail.length=0 then 8 else 5
theorem Mt(w:Nat)(s:Sy)(l:Lay)(who ev jo:Int)(en:Bool)(does:Int)(nv:AV)(node:Int)(has:Bool)(nx out:List Int)(σ:Hp)(hx:0<nx.length):ACalls Tryz.prog 398 [.ptr w 0] ((w,dT s l who ev jo en does nv node has nx out)::σ) (aE (.int .i64 (ko nx)) ((w,dT s l who ev jo en does nv node has nx.tail out)::σ)):=by
 refine aA Tryz.func398 ?_
 cases nx with
 |nil=>simp at hx
 |cons z nx=>
  refine aa 0 ?_
  refine aH.mk ⟨by decide,Int.ofNat_le.2 (Nat.succ_le_succ (bK _)),lf _,rfl⟩ ?_
  have e:((z::nx).drop ((1:Int)).toNat).take ((((z::nx).length:Nat):Int).toNat-((1:Int)).toNat)=nx:=by simp
  refine an 0 ?_
  refine aa 0 ?_
  refine aq (fun c1=>?_) (fun c1=>?_)
  ·have c1:(↑(List.take ((↑(z::nx).length:Int).toNat-Int.toNat 1) (List.drop (Int.toNat 1) (z::nx))).length:Int)=0:=c1
   have c2:(nx.length:Int)=0:=(congrArg (fun z:List Int=>(z.length:Int)) e).symm.trans c1
   exact .done ⟨aW (ag (show nx.length=0 by omega)).symm,congrArg (fun z=>(w,dT s l who ev jo en does nv node has z out)::σ) e⟩
  ·have c1:¬((↑(List.take ((↑(z::nx).length:Int).toNat-Int.toNat 1) (List.drop (Int.toNat 1) (z::nx))).length:Int)=0):=c1
   have c2:¬(nx.length:Int)=0:=fun h=>c1 ((congrArg (fun z:List Int=>(z.length:Int)) e).trans h)
   exact .done ⟨aW (ah (show ¬nx.length=0 by omega)).symm,congrArg (fun z=>(w,dT s l who ev jo en does nv node has z out)::σ) e⟩
def vE(s:Sy)(node:Int):Int:=if (ar s.n s.aL node).length=0 then 8 else 5
theorem ag8(w:Nat)(s:Sy)(l:Lay)(who ev jo:Int)(en:Bool)(does:Int)(nv:AV)(node:Int)(has:Bool)(nx out x:List Int)(σ:Hp)(hf:Fit s)(hx:bA x)(lx:x.length≤10000):ACalls Tryz.prog 397 [.ptr w 0,.ai (.int .u64) x] ((w,dT s l who ev jo en does nv node has nx out)::σ) (aE (.int .i64 (vE s node)) ((w,dT s l who (wr (ev+1)) jo en does nv node has (ar s.n s.aL node) (sO (pI s node x) (jO s x node.toNat)))::σ)):=by
 refine aA Tryz.func397 ?_
 refine aa 0 ?_
 refine an 0 ?_
 refine .sched [10] (upto [10] 17 0) (by kernel_rfl) ?_
 refine aa 0 ?_
 refine aa 0 ?_
 refine aI [] (aeJ s node x _ hf hx lx) ?_
 refine an 0 ?_
 refine .sched [15] (upto [15] 19 0) (by kernel_rfl) ?_
 refine aa 0 ?_
 refine aa 0 ?_
 refine aa 0 ?_
 refine aI [] (Bo s.n s.aL node _ hf.x5) ?_
 refine an 0 ?_
 refine aa 0 ?_
 refine aq (fun c1=>?_) (fun c1=>?_)
 ·have c1:(↑(ar s.n s.aL node).length:Int)=0:=c1
  exact .done ⟨aW (ag (show (ar s.n s.aL node).length=0 by omega)).symm,rfl⟩
 ·have c1:¬((↑(ar s.n s.aL node).length:Int)=0):=c1
  exact .done ⟨aW (ah (show ¬(ar s.n s.aL node).length=0 by omega)).symm,rfl⟩
def Ja(r:Nat):Nw→AV
 |.none=>.nilif
 |.pop _=>.iface 399 (.ptr r 0)
 |.cc _=>.iface 404 (.ptr r 0)
 |.quiet _=>.iface 406 (.ptr r 0)
 |.clear _=>.iface 409 (.ptr r 0)
 |.read _=>.iface 412 (.ptr r 0)
 |.join _=>.iface 417 (.ptr r 0)
 |.take _=>.iface 420 (.ptr r 0)
 |.push _=>.iface 425 (.ptr r 0)
 |.dA _=>.iface 427 (.ptr r 0)
def Jb(l:Lay)(node:Int)(r:Nat)(c:AV)(acc:Hp):Nw→Hp
 |.none=>[]
 |.pop q=>[(r,lU q)]
 |.cc q=>[(r,lU q)]
 |.quiet t=>[(r,ES t)]
 |.clear t=>[(r,F6 t)]
 |.read x=>(r,kc c (aS l node) l.what l.words false x.length false 0)::acc
 |.join j=>[(r,zQ j)]
 |.take t=>[(r,zJ t)]
 |.push q=>[(r,lU q)]
 |.dA t=>[(r,EP t)]
def uV(base cap n:Int):DQ:=⟨base,cap,n,false,false,0,0,0,0⟩
def iN(l:Lay)(who does node:Int)(nx out:List Int)(d:Int):Nw:=
 if does=0 then .pop (uV (iT l who) (eu l) 0)
 else if does=1 then .cc (uV (iT l (De l who d)) (eu l) 0)
 else if does=2 then .quiet ⟨cP l,dr l,false,false⟩
 else if does=3 then .clear ⟨cP l,dr l,node,false⟩
 else if does=4 then .read []
 else if does=5 then .join ⟨aS l (nx.headD 0),l.what,l.words,out,false,false,0,0,false,0⟩
 else if does=6 then .take ⟨cP l,dr l,nx.headD 0,false,false,false⟩
 else if does=7 then .push (uV (iT l who) (eu l) (wu (nx.headD 0)))
 else .dA ⟨cP l,dr l,0,false⟩
theorem IW{l:Lay}{who does node d:Int}{nx out:List Int}(h:does=0):iN l who does node nx out d=.pop (uV (iT l who) (eu l) 0):=by subst h;rfl
theorem IV{l:Lay}{who does node d:Int}{nx out:List Int}(h:does=1):iN l who does node nx out d=.cc (uV (iT l (De l who d)) (eu l) 0):=by subst h;rfl
theorem IU{l:Lay}{who does node d:Int}{nx out:List Int}(h:does=2):iN l who does node nx out d=.quiet ⟨cP l,dr l,false,false⟩:=by subst h;rfl
theorem IT{l:Lay}{who does node d:Int}{nx out:List Int}(h:does=3):iN l who does node nx out d=.clear ⟨cP l,dr l,node,false⟩:=by subst h;rfl
theorem IS{l:Lay}{who does node d:Int}{nx out:List Int}(h:does=4):iN l who does node nx out d=.read []:=by subst h;rfl
theorem IQ{l:Lay}{who does node d:Int}{nx out:List Int}(h:does=5):iN l who does node nx out d=.join ⟨aS l (nx.headD 0),l.what,l.words,out,false,false,0,0,false,0⟩:=by subst h;rfl
theorem IP{l:Lay}{who does node d:Int}{nx out:List Int}(h:does=6):iN l who does node nx out d=.take ⟨cP l,dr l,nx.headD 0,false,false,false⟩:=by subst h;rfl
theorem IN{l:Lay}{who does node d:Int}{nx out:List Int}(h:does=7):iN l who does node nx out d=.push (uV (iT l who) (eu l) (wu (nx.headD 0))):=by subst h;rfl
theorem IM{l:Lay}{who does node d:Int}{nx out:List Int}(h0:¬does=0)(h1:¬does=1)(h2:¬does=2)(h3:¬does=3)(h4:¬does=4)(h5:¬does=5)(h6:¬does=6)(h7:¬does=7):iN l who does node nx out d=.dA ⟨cP l,dr l,0,false⟩:=by
 unfold iN;rw[ah h0,ah h1,ah h2,ah h3,ah h4,ah h5,ah h6,ah h7]
theorem La{nx:List Int}(h:0<nx.length):nx[((0:Int)).toNat]?=some (nx.headD 0):=by
 cases nx with
 |nil=>simp at h
 |cons z nx=>rfl
theorem ago(w:Nat)(s:Sy)(l:Lay)(who ev jo:Int)(en:Bool)(does:Int)(nv:AV)(node:Int)(has:Bool)(nx out:List Int)(d:Int)(σ:Hp)(hx:does=5∨does=6∨does=7→0<nx.length)(h1:does=1→nK l≠0∧l.k≠0):ACalls Tryz.prog 391 [.ptr w 0,.int .i64 d] ((w,dT s l who ev jo en does nv node has nx out)::σ) (fun x σ'=>∃r,x=Ja r (iN l who does node nx out d)∧σ'=Jb l node r .aj [] (iN l who does node nx out d)++((w,dT s l who ev jo en does nv node has nx out)::σ)):=by
 refine aA Tryz.func391 ?_
 refine aa 0 ?_
 refine aB [] (Ms l _) ?_
 intro aG
 refine an 0 ?_
 refine aa 1 ?_
 refine aq (fun c2=>?_) (fun c2=>?_)
 ·have c2:does=0:=c2
  refine .sched [8] (upto [8] 13 0) (by kernel_rfl) ?_
  refine aa 1 ?_
  refine aa 1 ?_
  refine aI [] (DA l _ _) ?_
  intro uW
  exact .drop 1 1 (.done ⟨_,by rw[IW (by assumption)];rfl,by rw[IW (by assumption)];rfl⟩)
 ·have c2:¬(does=0):=c2
  refine aq (fun c4=>?_) (fun c4=>?_)
  ·have c4:does=1:=c4
   refine .sched [6,7] (upto [6,7] 12 0) (by kernel_rfl) ?_
   refine aa 1 ?_
   refine aI [1] (aeF w s l who ev jo en does nv node has nx out d _ (h1 (by assumption)).1 (h1 (by assumption)).2) ?_
   refine aI [] (DA l _ _) ?_
   intro yD
   exact .drop 1 1 (.done ⟨_,by rw[IV (by assumption)];rfl,by rw[IV (by assumption)];rfl⟩)
  ·have c4:¬(does=1):=c4
   refine aq (fun c6=>?_) (fun c6=>?_)
   ·have c6:does=2:=c6
    refine aa 0 ?_
    intro bl7
    exact .drop 1 1 (.done ⟨_,by rw[IU (by assumption)];rfl,by rw[IU (by assumption)];rfl⟩)
   ·have c6:¬(does=2):=c6
    refine aq (fun c8=>?_) (fun c8=>?_)
    ·have c8:does=3:=c8
     refine .sched [] (upto [] 9 0) (by kernel_rfl) ?_
     refine aa 0 ?_
     refine aa 1 ?_
     intro bl9
     exact .drop 1 1 (.done ⟨_,by rw[IT (by assumption)];rfl,by rw[IT (by assumption)];rfl⟩)
    ·have c8:¬(does=3):=c8
     refine aq (fun jV=>?_) (fun jV=>?_)
     ·have jV:does=4:=jV
      refine .sched [8] (upto [8] 13 0) (by kernel_rfl) ?_
      refine aa 1 ?_
      refine aa 1 ?_
      refine aI [] (H0 l _ _) ?_
      intro bl11
      exact .drop 1 1 (.done ⟨_,by rw[IS (by assumption)];rfl,by rw[IS (by assumption)];rfl⟩)
     ·have jV:¬(does=4):=jV
      refine aq (fun w5=>?_) (fun w5=>?_)
      ·have w5:does=5:=w5
       refine .sched [10] (upto [10] 19 0) (by kernel_rfl) ?_
       refine aa 1 ?_
       refine aa 1 ?_
       refine aH.mk rfl ?_
       refine cg.mk (nx.headD 0) (by decide) (La (hx (by omega))) ?_
       refine aI [] (H0 l _ _) ?_
       refine aa 1 ?_
       intro bl13
       exact .drop 1 1 (.done ⟨_,by rw[IQ (by assumption)];rfl,by rw[IQ (by assumption)];rfl⟩)
      ·have w5:¬(does=5):=w5
       refine aq (fun te=>?_) (fun te=>?_)
       ·have te:does=6:=te
        refine .sched [] (upto [] 11 0) (by kernel_rfl) ?_
        refine aa 0 ?_
        refine aa 1 ?_
        refine aH.mk rfl ?_
        refine cg.mk (nx.headD 0) (by decide) (La (hx (by omega))) ?_
        intro bl15
        exact .drop 1 1 (.done ⟨_,by rw[IP (by assumption)];rfl,by rw[IP (by assumption)];rfl⟩)
       ·have te:¬(does=6):=te
        refine aq (fun wZ=>?_) (fun wZ=>?_)
        ·have wZ:does=7:=wZ
         refine .sched [8] (upto [8] 20 0) (by kernel_rfl) ?_
         refine aa 1 ?_
         refine aa 1 ?_
         refine aI [] (DA l _ _) ?_
         refine aa 1 ?_
         refine aH.mk rfl ?_
         refine cg.mk (nx.headD 0) (by decide) (La (hx (by omega))) ?_
         intro bl17
         exact .drop 1 1 (.done ⟨_,by rw[IN (by assumption)];rfl,by rw[IN (by assumption)];rfl⟩)
        ·have wZ:¬(does=7):=wZ
         refine aa 0 ?_
         intro bl18
         exact .drop 1 1 (.done ⟨_,by rw[IM (by assumption) (by assumption) (by assumption) (by assumption) (by assumption) (by assumption) (by assumption) (by assumption)];rfl,by rw[IM (by assumption) (by assumption) (by assumption) (by assumption) (by assumption) (by assumption) (by assumption) (by assumption)];rfl⟩)
theorem TE(w r:Nat)(s:Sy)(l:Lay)(who ev jo:Int)(en:Bool)(does:Int)(node:Int)(has:Bool)(nx out:List Int)(base cap n:Int)(gl:Bool)(at_:Nat)(b t x:Int)(σ:Hp):ACalls Tryz.prog 392 [.ptr w 0] ((w,dT s l who ev jo en does (.iface 399 (.ptr r 0)) node has nx out)::(r,lU ⟨base,cap,n,true,gl,at_,b,t,x⟩)::σ) (aE (.int .i64 (rj l n)) ((w,dT s l who ev jo en does (.iface 399 (.ptr r 0)) (pg l n) true nx out)::(r,lU ⟨base,cap,n,true,gl,at_,b,t,x⟩)::σ)):=by
 refine aA Tryz.func392 ?_
 refine aa 0 ?_
 refine aa 1 ?_
 refine aa 1 ?_
 refine aB [] (W5 w s l who ev jo en does (.iface 399 (.ptr r 0)) node has nx out n _) ?_
 exact .done ⟨rfl,rfl⟩
theorem TF(w r:Nat)(s:Sy)(l:Lay)(who ev jo:Int)(en:Bool)(does:Int)(node:Int)(has:Bool)(nx out:List Int)(base cap n:Int)(gl:Bool)(at_:Nat)(b t x:Int)(σ:Hp):ACalls Tryz.prog 392 [.ptr w 0] ((w,dT s l who ev jo en does (.iface 399 (.ptr r 0)) node has nx out)::(r,lU ⟨base,cap,n,false,gl,at_,b,t,x⟩)::σ) (aE (.int .i64 (rf l)) ((w,dT s l who ev jo en does (.iface 399 (.ptr r 0)) node has nx out)::(r,lU ⟨base,cap,n,false,gl,at_,b,t,x⟩)::σ)):=by
 refine aA Tryz.func392 ?_
 refine aa 0 ?_
 refine aa 1 ?_
 refine aB [] (agc w s l who ev jo en does (.iface 399 (.ptr r 0)) node has nx out _) ?_
 exact .done ⟨rfl,rfl⟩
theorem Q8(w r:Nat)(s:Sy)(l:Lay)(who ev jo:Int)(en:Bool)(does:Int)(node:Int)(has:Bool)(nx out:List Int)(base cap n:Int)(gl:Bool)(at_:Nat)(b t x:Int)(σ:Hp):ACalls Tryz.prog 392 [.ptr w 0] ((w,dT s l who ev jo en does (.iface 404 (.ptr r 0)) node has nx out)::(r,lU ⟨base,cap,n,true,gl,at_,b,t,x⟩)::σ) (aE (.int .i64 (rj l n)) ((w,dT s l who ev jo en does (.iface 404 (.ptr r 0)) (pg l n) true nx out)::(r,lU ⟨base,cap,n,true,gl,at_,b,t,x⟩)::σ)):=by
 refine aA Tryz.func392 ?_
 refine aa 0 ?_
 refine aa 1 ?_
 refine aa 1 ?_
 refine aB [] (W5 w s l who ev jo en does (.iface 404 (.ptr r 0)) node has nx out n _) ?_
 exact .done ⟨rfl,rfl⟩
theorem Q9(w r:Nat)(s:Sy)(l:Lay)(who ev jo:Int)(en:Bool)(does:Int)(node:Int)(has:Bool)(nx out:List Int)(base cap n:Int)(gl:Bool)(at_:Nat)(b t x:Int)(σ:Hp):ACalls Tryz.prog 392 [.ptr w 0] ((w,dT s l who ev jo en does (.iface 404 (.ptr r 0)) node has nx out)::(r,lU ⟨base,cap,n,false,gl,at_,b,t,x⟩)::σ) (aE (.int .i64 2) ((w,dT s l who ev jo en does (.iface 404 (.ptr r 0)) node has nx out)::(r,lU ⟨base,cap,n,false,gl,at_,b,t,x⟩)::σ)):=by
 refine aA Tryz.func392 ?_
 refine aa 0 ?_
 refine aa 1 ?_
 exact .done ⟨rfl,rfl⟩
def vu(l:Lay):Int:=if l.k<2 then 0 else 1
theorem GY(w r:Nat)(s:Sy)(l:Lay)(who ev jo:Int)(en:Bool)(does:Int)(node:Int)(has:Bool)(nx out:List Int)(f c0:Int)(is gl:Bool)(σ:Hp):ACalls Tryz.prog 392 [.ptr w 0] ((w,dT s l who ev jo en does (.iface 406 (.ptr r 0)) node has nx out)::(r,ES ⟨f,c0,is,gl⟩)::σ) (aE (.int .i64 (vu l)) ((w,dT s l who ev jo is does (.iface 406 (.ptr r 0)) node has nx out)::(r,ES ⟨f,c0,is,gl⟩)::σ)):=by
 refine aA Tryz.func392 ?_
 cases is with
 |true=>
  refine aa 0 ?_
  refine aa 1 ?_
  refine an 0 ?_
  refine fM [] (MT w s l who ev jo true does (.iface 406 (.ptr r 0)) node has nx out _) (fun c=>?_) (fun c=>?_)
  ·exact .done ⟨aW (ag (fP (by assumption))).symm,by subst_vars;rfl⟩
  ·exact .done ⟨aW (ah (sd (by assumption))).symm,by subst_vars;rfl⟩
 |false=>
  refine aa 0 ?_
  refine aa 1 ?_
  refine an 0 ?_
  refine fM [] (MT w s l who ev jo false does (.iface 406 (.ptr r 0)) node has nx out _) (fun c=>?_) (fun c=>?_)
  ·exact .done ⟨aW (ag (fP (by assumption))).symm,by subst_vars;rfl⟩
  ·exact .done ⟨aW (ah (sd (by assumption))).symm,by subst_vars;rfl⟩
theorem Sf(w r:Nat)(s:Sy)(l:Lay)(who ev jo:Int)(en:Bool)(does:Int)(node:Int)(has:Bool)(nx out:List Int)(f c0 v:Int)(gl:Bool)(σ:Hp):ACalls Tryz.prog 392 [.ptr w 0] ((w,dT s l who ev jo en does (.iface 409 (.ptr r 0)) node has nx out)::(r,F6 ⟨f,c0,v,gl⟩)::σ) (aE (.int .i64 4) ((w,dT s l who ev jo en does (.iface 409 (.ptr r 0)) node has nx out)::(r,F6 ⟨f,c0,v,gl⟩)::σ)):=by
 refine aA Tryz.func392 ?_
 refine aa 0 ?_
 exact .done ⟨rfl,rfl⟩
theorem Hc(w r:Nat)(s:Sy)(l:Lay)(who ev jo:Int)(en:Bool)(does:Int)(node:Int)(has:Bool)(nx out:List Int)(x:List Int)(base what words:Int)(gl:Bool)(at_:Nat)(ld:Bool)(z:Int)(σ:Hp)(hf:Fit s)(hx:bA x)(lx:x.length≤10000):ACalls Tryz.prog 392 [.ptr w 0] ((w,dT s l who ev jo en does (.iface 412 (.ptr r 0)) node has nx out)::(r,kc (.ai (.int .u64) x) base what words gl at_ ld z)::σ) (aE (.int .i64 (vE s node)) ((w,dT s l who (wr (ev+1)) jo en does (.iface 412 (.ptr r 0)) node has (ar s.n s.aL node) (sO (pI s node x) (jO s x node.toNat)))::(r,kc (.ai (.int .u64) x) base what words gl at_ ld z)::σ)):=by
 refine aA Tryz.func392 ?_
 refine aa 0 ?_
 refine aa 1 ?_
 refine aB [] (ag8 w s l who ev jo en does (.iface 412 (.ptr r 0)) node has nx out x _ hf hx lx) ?_
 exact .done ⟨rfl,rfl⟩
theorem Sd(w r:Nat)(s:Sy)(l:Lay)(who ev jo:Int)(en:Bool)(does:Int)(node:Int)(has:Bool)(nx out:List Int)(base what words:Int)(a:List Int)(gl:Bool)(tr:Int)(at_:Nat)(ld:Bool)(x:Int)(σ:Hp):ACalls Tryz.prog 392 [.ptr w 0] ((w,dT s l who ev jo en does (.iface 417 (.ptr r 0)) node has nx out)::(r,zQ ⟨base,what,words,a,true,gl,tr,at_,ld,x⟩)::σ) (aE (.int .i64 6) ((w,dT s l who ev (wr (jo+1)) en does (.iface 417 (.ptr r 0)) node has nx out)::(r,zQ ⟨base,what,words,a,true,gl,tr,at_,ld,x⟩)::σ)):=by
 refine aA Tryz.func392 ?_
 refine aa 0 ?_
 refine aa 1 ?_
 refine aa 0 ?_
 refine an 0 ?_
 exact .done ⟨rfl,rfl⟩
theorem Se(w r:Nat)(s:Sy)(l:Lay)(who ev jo:Int)(en:Bool)(does:Int)(node:Int)(has:Bool)(nx out:List Int)(base what words:Int)(a:List Int)(gl:Bool)(tr:Int)(at_:Nat)(ld:Bool)(x:Int)(σ:Hp)(hx:0<nx.length):ACalls Tryz.prog 392 [.ptr w 0] ((w,dT s l who ev jo en does (.iface 417 (.ptr r 0)) node has nx out)::(r,zQ ⟨base,what,words,a,false,gl,tr,at_,ld,x⟩)::σ) (aE (.int .i64 (ko nx)) ((w,dT s l who ev jo en does (.iface 417 (.ptr r 0)) node has nx.tail out)::(r,zQ ⟨base,what,words,a,false,gl,tr,at_,ld,x⟩)::σ)):=by
 refine aA Tryz.func392 ?_
 refine aa 0 ?_
 refine aa 1 ?_
 refine aB [] (Mt w s l who ev jo en does (.iface 417 (.ptr r 0)) node has nx out _ hx) ?_
 exact .done ⟨rfl,rfl⟩
theorem Sb(w r:Nat)(s:Sy)(l:Lay)(who ev jo:Int)(en:Bool)(does:Int)(node:Int)(has:Bool)(nx out:List Int)(f c0 v:Int)(gl jH:Bool)(σ:Hp):ACalls Tryz.prog 392 [.ptr w 0] ((w,dT s l who ev jo en does (.iface 420 (.ptr r 0)) node has nx out)::(r,zJ ⟨f,c0,v,true,gl,jH⟩)::σ) (aE (.int .i64 7) ((w,dT s l who ev jo en does (.iface 420 (.ptr r 0)) node has nx out)::(r,zJ ⟨f,c0,v,true,gl,jH⟩)::σ)):=by
 refine aA Tryz.func392 ?_
 refine aa 0 ?_
 refine aa 1 ?_
 exact .done ⟨rfl,rfl⟩
theorem Sc(w r:Nat)(s:Sy)(l:Lay)(who ev jo:Int)(en:Bool)(does:Int)(node:Int)(has:Bool)(nx out:List Int)(f c0 v:Int)(gl jH:Bool)(σ:Hp)(hx:0<nx.length):ACalls Tryz.prog 392 [.ptr w 0] ((w,dT s l who ev jo en does (.iface 420 (.ptr r 0)) node has nx out)::(r,zJ ⟨f,c0,v,false,gl,jH⟩)::σ) (aE (.int .i64 (ko nx)) ((w,dT s l who ev jo en does (.iface 420 (.ptr r 0)) node has nx.tail out)::(r,zJ ⟨f,c0,v,false,gl,jH⟩)::σ)):=by
 refine aA Tryz.func392 ?_
 refine aa 0 ?_
 refine aa 1 ?_
 refine aB [] (Mt w s l who ev jo en does (.iface 420 (.ptr r 0)) node has nx out _ hx) ?_
 exact .done ⟨rfl,rfl⟩
theorem TD(w r:Nat)(s:Sy)(l:Lay)(who ev jo:Int)(en:Bool)(does:Int)(node:Int)(has:Bool)(nx out:List Int)(q:DQ)(σ:Hp)(hx:0<nx.length):ACalls Tryz.prog 392 [.ptr w 0] ((w,dT s l who ev jo en does (.iface 425 (.ptr r 0)) node has nx out)::(r,lU q)::σ) (aE (.int .i64 (ko nx)) ((w,dT s l who ev jo en does (.iface 425 (.ptr r 0)) node has nx.tail out)::(r,lU q)::σ)):=by
 refine aA Tryz.func392 ?_
 refine aa 0 ?_
 refine aB [] (Mt w s l who ev jo en does (.iface 425 (.ptr r 0)) node has nx out _ hx) ?_
 exact .done ⟨rfl,rfl⟩
theorem Ra(w r:Nat)(s:Sy)(l:Lay)(who ev jo:Int)(en:Bool)(does:Int)(node:Int)(has:Bool)(nx out:List Int)(t:Rk)(σ:Hp):ACalls Tryz.prog 392 [.ptr w 0] ((w,dT s l who ev jo en does (.iface 427 (.ptr r 0)) node has nx out)::(r,EP t)::σ) (aE (.int .i64 0) ((w,dT s l who ev jo en does (.iface 427 (.ptr r 0)) node false nx out)::(r,EP t)::σ)):=by
 refine aA Tryz.func392 ?_
 refine aa 0 ?_
 refine an 0 ?_
 exact .done ⟨rfl,rfl⟩
set_option maxHeartbeats 4000000
theorem aeQ(M:AMem)(r:Nat)(m:M.S)(base what words x:Int)(at_:Nat)(fv:Bool)(l:List Int)(c:AV)(acc:Hp)(d:Int)(σ:Hp)(hf:M.O.free (M.abs m))(dX:at_<cw words)(hv:kL c acc l)(hl:l.length≤2000):
  ACalls Tryz.prog 406 [.ptr r 0,M.v,.int .i64 d] ((r,kc c base what words false at_ fv x)::(acc++(M.B m++σ))) (fun z σ'=>∃m' c' bN,kL c' bN (l++[(M.O.ld (M.abs m) (wr (base+at_))).1])∧M.abs m'=(M.O.ld (M.abs m) (wr (base+at_))).2∧z=.bool (decide (at_+1=cw words))∧σ'=(r,kc c' base what words (decide (at_+1=cw words)) (at_+1) fv x)::(bN++(M.B m'++σ))):=by
 have hc:=Bj words
 have hw:IntKind.i64.wrap ((at_:Int)+1)=((at_+1:Nat):Int):=by rw[IntKind.wrap_i64];omega
 have ab:decide ((at_:Int)<(cw words:Nat))=true:=aY (by omega)
 cases hv with
 |nil=>
  refine aA Tryz.func406 ?_
  refine aa 0 ?_
  refine .quiet (by kernel_rfl) ?_
  refine aa 0 ?_
  refine aa 0 ?_
  refine aI [] (ob _ _ _ _) ?_
  refine KP ab ?_
  refine .sched [5,7] (upto [5,7] 28 0) (by kernel_rfl) ?_
  refine aa 0 ?_
  refine aI [] (aaV _) ?_
  refine aI [] (dO _ _ _) ?_
  refine aa 0 ?_
  refine aa 0 ?_
  refine fj.mk M.hL ?_
  refine M.aLoad [_] hf fun m' hm=>?_
  intro aG
  refine AppendAt.fresh 1 _ (.inl rfl) (.ae 0 _ 0 1 _ rfl (cT rfl)) (by decide) (by decide) (by decide) (fun _ bn=>?_) (fun h=>absurd h (by decide))
  refine an 2 ?_
  refine aa 2 ?_
  refine an 2 ?_
  refine .sched [10] (upto [10] 15 0) (by kernel_rfl) ?_
  refine aa 2 ?_
  refine aa 2 ?_
  refine aI [] (ob _ _ _ _) ?_
  refine aq (fun c2=>?_) (fun c2=>?_)
  ·have c2:IntKind.i64.wrap ((↑at_:Int)+1)=(↑(cw words):Int):=c2
   refine an 2 ?_
   refine aa 2 ?_
   exact .drop 1 1 ((.pull [1] (.done ⟨m',_,_,.ae bn [_],hm,by rw[aY (show at_+1=cw words by omega)];rfl,by unfold kc;rw[aY (show at_+1=cw words by omega),← hw];rfl⟩)))
  ·have c2:¬(IntKind.i64.wrap ((↑at_:Int)+1)=(↑(cw words):Int)):=c2
   refine an 2 ?_
   refine aa 2 ?_
   exact .drop 1 1 ((.pull [1] (.done ⟨m',_,_,.ae bn [_],hm,by rw[b9 (show ¬at_+1=cw words by omega)];rfl,by unfold kc;rw[b9 (show ¬at_+1=cw words by omega),← hw];rfl⟩)))
 |ae b l=>
  have hlen:(bB l).length=l.length*1:=by simp[bB]
  refine aA Tryz.func406 ?_
  refine aa 0 ?_
  refine .quiet (by kernel_rfl) ?_
  refine aa 0 ?_
  refine aa 0 ?_
  refine aI [] (ob _ _ _ _) ?_
  refine KP ab ?_
  refine .sched [7] (.one 0 false (.one 1 false (.one 2 false (.one 3 false (.one 4 false (.one 6 false (.one 8 false (.one 9 false (.one 10 false (.one 11 false (.one 13 false (.one 14 false (.one 15 false (.one 16 false (.alt 5 (.one 7 true (.one 12 false (.one 17 false (.one 18 false (.one 19 false (.one 20 false (.one 21 false (.one 22 false (.one 23 false (.one 24 false (.one 25 false (.one 26 false (.one 27 false .stop))))))))))))) (.alt 12 (.alt 5 (.one 7 true (.one 17 false (.one 18 false (.one 19 false (.one 20 false (.one 21 false (.one 22 false (.one 23 false (.one 24 false (.one 25 false (.one 26 false (.one 27 false .stop)))))))))))) (.one 17 false (.one 18 false (.one 5 false (.one 7 true (.one 19 false (.one 20 false (.one 21 false (.one 22 false (.one 23 false (.one 24 false (.one 25 false (.one 26 false (.one 27 false .stop)))))))))))))) (.one 17 false (.alt 5 (.one 7 true (.one 12 false (.one 18 false (.one 19 false (.one 20 false (.one 21 false (.one 22 false (.one 23 false (.one 24 false (.one 25 false (.one 26 false (.one 27 false .stop)))))))))))) (.one 12 false (.one 18 false (.one 5 false (.one 7 true (.one 19 false (.one 20 false (.one 21 false (.one 22 false (.one 23 false (.one 24 false (.one 25 false (.one 26 false (.one 27 false .stop))))))))))))))))))))))))))))))) (by kernel_rfl) ?_
  refine aa 0 ?_
  refine And.intro ?_ ?_
  ·(refine .mk [] _ (CW b l.length (bB l) _ (cE _ (bV ..)) hlen (by omega)) ?_;rintro _ _ ⟨b',rfl,rfl⟩)
   refine aI [] (dO _ _ _) ?_
   refine aa 1 ?_
   refine aa 1 ?_
   refine fj.mk M.hL ?_
   refine M.aLoad [_,_,_] hf fun m' hm=>?_
   intro aG
   refine AppendAt.more 1 b' l.length 1 (bB l) _ rfl rfl (by show l.length*1≤(bB l).length;omega) (.ae 0 _ 0 1 _ rfl (cT rfl)) (by omega) (by decide) (by decide) (fun bn=>?_)
   refine an 2 ?_
   refine aa 2 ?_
   refine an 2 ?_
   refine .sched [10] (upto [10] 15 0) (by kernel_rfl) ?_
   refine aa 2 ?_
   refine aa 2 ?_
   refine aI [] (ob _ _ _ _) ?_
   refine aq (fun c2=>?_) (fun c2=>?_)
   ·have c2:IntKind.i64.wrap ((↑at_:Int)+1)=(↑(cw words):Int):=c2
    refine an 2 ?_
    refine aa 2 ?_
    exact .drop 1 1 (.drop 2 1 ((.pull [1] (.done ⟨m',_,_,kL.push bn l _,hm,by rw[aY (show at_+1=cw words by omega)];rfl,by unfold kc;rw[aY (show at_+1=cw words by omega),← hw];rfl⟩))))
   ·have c2:¬(IntKind.i64.wrap ((↑at_:Int)+1)=(↑(cw words):Int)):=c2
    refine an 2 ?_
    refine aa 2 ?_
    exact .drop 1 1 (.drop 2 1 ((.pull [1] (.done ⟨m',_,_,kL.push bn l _,hm,by rw[b9 (show ¬at_+1=cw words by omega)];rfl,by unfold kc;rw[b9 (show ¬at_+1=cw words by omega),← hw];rfl⟩))))
  ·refine And.intro ?_ ?_
   ·refine aa 0 ?_
    refine And.intro ?_ ?_
    ·(refine .mk [] _ (CW b l.length (bB l) _ (cE _ (bV ..)) hlen (by omega)) ?_;rintro _ _ ⟨b',rfl,rfl⟩)
     refine aI [] (dO _ _ _) ?_
     refine aa 1 ?_
     refine fj.mk M.hL ?_
     refine M.aLoad [_,_,_] hf fun m' hm=>?_
     intro uW
     refine AppendAt.more 1 b' l.length 1 (bB l) _ rfl rfl (by show l.length*1≤(bB l).length;omega) (.ae 0 _ 0 1 _ rfl (cT rfl)) (by omega) (by decide) (by decide) (fun bn=>?_)
     refine an 2 ?_
     refine aa 2 ?_
     refine an 2 ?_
     refine .sched [10] (upto [10] 15 0) (by kernel_rfl) ?_
     refine aa 2 ?_
     refine aa 2 ?_
     refine aI [] (ob _ _ _ _) ?_
     refine aq (fun c4=>?_) (fun c4=>?_)
     ·have c4:IntKind.i64.wrap ((↑at_:Int)+1)=(↑(cw words):Int):=c4
      refine an 2 ?_
      refine aa 2 ?_
      exact .drop 1 1 (.drop 2 1 ((.pull [1] (.done ⟨m',_,_,kL.push bn l _,hm,by rw[aY (show at_+1=cw words by omega)];rfl,by unfold kc;rw[aY (show at_+1=cw words by omega),← hw];rfl⟩))))
     ·have c4:¬(IntKind.i64.wrap ((↑at_:Int)+1)=(↑(cw words):Int)):=c4
      refine an 2 ?_
      refine aa 2 ?_
      exact .drop 1 1 (.drop 2 1 ((.pull [1] (.done ⟨m',_,_,kL.push bn l _,hm,by rw[b9 (show ¬at_+1=cw words by omega)];rfl,by unfold kc;rw[b9 (show ¬at_+1=cw words by omega),← hw];rfl⟩))))
    ·refine aa 0 ?_
     (refine .mk [] _ (CW b l.length (bB l) _ (cE _ (bV ..)) hlen (by omega)) ?_;rintro _ _ ⟨b',rfl,rfl⟩)
     refine aI [] (dO _ _ _) ?_
     refine fj.mk M.hL ?_
     refine M.aLoad [_,_,_] hf fun m' hm=>?_
     intro yD
     refine AppendAt.more 1 b' l.length 1 (bB l) _ rfl rfl (by show l.length*1≤(bB l).length;omega) (.ae 0 _ 0 1 _ rfl (cT rfl)) (by omega) (by decide) (by decide) (fun bn=>?_)
     refine an 2 ?_
     refine aa 2 ?_
     refine an 2 ?_
     refine .sched [10] (upto [10] 15 0) (by kernel_rfl) ?_
     refine aa 2 ?_
     refine aa 2 ?_
     refine aI [] (ob _ _ _ _) ?_
     refine aq (fun c6=>?_) (fun c6=>?_)
     ·have c6:IntKind.i64.wrap ((↑at_:Int)+1)=(↑(cw words):Int):=c6
      refine an 2 ?_
      refine aa 2 ?_
      exact .drop 1 1 (.drop 2 1 ((.pull [1] (.done ⟨m',_,_,kL.push bn l _,hm,by rw[aY (show at_+1=cw words by omega)];rfl,by unfold kc;rw[aY (show at_+1=cw words by omega),← hw];rfl⟩))))
     ·have c6:¬(IntKind.i64.wrap ((↑at_:Int)+1)=(↑(cw words):Int)):=c6
      refine an 2 ?_
      refine aa 2 ?_
      exact .drop 1 1 (.drop 2 1 ((.pull [1] (.done ⟨m',_,_,kL.push bn l _,hm,by rw[b9 (show ¬at_+1=cw words by omega)];rfl,by unfold kc;rw[b9 (show ¬at_+1=cw words by omega),← hw];rfl⟩))))
   ·refine aa 0 ?_
    refine And.intro ?_ ?_
    ·(refine .mk [] _ (CW b l.length (bB l) _ (cE _ (bV ..)) hlen (by omega)) ?_;rintro _ _ ⟨b',rfl,rfl⟩)
     refine aI [] (dO _ _ _) ?_
     refine aa 1 ?_
     refine fj.mk M.hL ?_
     refine M.aLoad [_,_,_] hf fun m' hm=>?_
     intro bl7
     refine AppendAt.more 1 b' l.length 1 (bB l) _ rfl rfl (by show l.length*1≤(bB l).length;omega) (.ae 0 _ 0 1 _ rfl (cT rfl)) (by omega) (by decide) (by decide) (fun bn=>?_)
     refine an 2 ?_
     refine aa 2 ?_
     refine an 2 ?_
     refine .sched [10] (upto [10] 15 0) (by kernel_rfl) ?_
     refine aa 2 ?_
     refine aa 2 ?_
     refine aI [] (ob _ _ _ _) ?_
     refine aq (fun c8=>?_) (fun c8=>?_)
     ·have c8:IntKind.i64.wrap ((↑at_:Int)+1)=(↑(cw words):Int):=c8
      refine an 2 ?_
      refine aa 2 ?_
      exact .drop 1 1 (.drop 2 1 ((.pull [1] (.done ⟨m',_,_,kL.push bn l _,hm,by rw[aY (show at_+1=cw words by omega)];rfl,by unfold kc;rw[aY (show at_+1=cw words by omega),← hw];rfl⟩))))
     ·have c8:¬(IntKind.i64.wrap ((↑at_:Int)+1)=(↑(cw words):Int)):=c8
      refine an 2 ?_
      refine aa 2 ?_
      exact .drop 1 1 (.drop 2 1 ((.pull [1] (.done ⟨m',_,_,kL.push bn l _,hm,by rw[b9 (show ¬at_+1=cw words by omega)];rfl,by unfold kc;rw[b9 (show ¬at_+1=cw words by omega),← hw];rfl⟩))))
    ·refine aa 0 ?_
     (refine .mk [] _ (CW b l.length (bB l) _ (cE _ (bV ..)) hlen (by omega)) ?_;rintro _ _ ⟨b',rfl,rfl⟩)
     refine aI [] (dO _ _ _) ?_
     refine fj.mk M.hL ?_
     refine M.aLoad [_,_,_] hf fun m' hm=>?_
     intro bl9
     refine AppendAt.more 1 b' l.length 1 (bB l) _ rfl rfl (by show l.length*1≤(bB l).length;omega) (.ae 0 _ 0 1 _ rfl (cT rfl)) (by omega) (by decide) (by decide) (fun bn=>?_)
     refine an 2 ?_
     refine aa 2 ?_
     refine an 2 ?_
     refine .sched [10] (upto [10] 15 0) (by kernel_rfl) ?_
     refine aa 2 ?_
     refine aa 2 ?_
     refine aI [] (ob _ _ _ _) ?_
     refine aq (fun jV=>?_) (fun jV=>?_)
     ·have jV:IntKind.i64.wrap ((↑at_:Int)+1)=(↑(cw words):Int):=jV
      refine an 2 ?_
      refine aa 2 ?_
      exact .drop 1 1 (.drop 2 1 ((.pull [1] (.done ⟨m',_,_,kL.push bn l _,hm,by rw[aY (show at_+1=cw words by omega)];rfl,by unfold kc;rw[aY (show at_+1=cw words by omega),← hw];rfl⟩))))
     ·have jV:¬(IntKind.i64.wrap ((↑at_:Int)+1)=(↑(cw words):Int)):=jV
      refine an 2 ?_
      refine aa 2 ?_
      exact .drop 1 1 (.drop 2 1 ((.pull [1] (.done ⟨m',_,_,kL.push bn l _,hm,by rw[b9 (show ¬at_+1=cw words by omega)];rfl,by unfold kc;rw[b9 (show ¬at_+1=cw words by omega),← hw];rfl⟩))))
theorem UP(M:AMem)(r:Nat)(base what words x:Int)(fv:Bool)(c:AV)(d:Int)(σ:Hp)(dX:cw words=0):
  ACalls Tryz.prog 406 [.ptr r 0,M.v,.int .i64 d] ((r,kc c base what words false 0 fv x)::σ) (aE (.bool true) ((r,kc c base what words true 0 fv x)::σ)):=by
 have ab:decide ((0:Int)<(cw words:Nat))=false:=b9 (by omega)
 have heq:decide ((0:Int)=(cw words:Nat))=true:=aY (by omega)
 refine aA Tryz.func406 ?_
 refine aa 0 ?_
 refine .quiet (by kernel_rfl) ?_
 refine aa 0 ?_
 refine aa 0 ?_
 refine aI [] (ob _ _ _ _) ?_
 refine Yp ab ?_
 refine .sched [10] (upto [10] 15 0) (by kernel_rfl) ?_
 refine aa 0 ?_
 refine aa 0 ?_
 refine aI [] (ob _ _ _ _) ?_
 refine KP heq ?_
 refine an 0 ?_
 refine aa 0 ?_
 exact .done ⟨rfl,rfl⟩
set_option maxHeartbeats 4000000
theorem wPop_ : Meth Tryz.prog 399 "Step" 401 := fun a w => by kernel_rfl
theorem wSteal_ : Meth Tryz.prog 404 "Step" 403 := fun a w => by kernel_rfl
theorem wPush_ : Meth Tryz.prog 425 "Step" 409 := fun a w => by kernel_rfl
theorem wQuiet_ : Meth Tryz.prog 406 "Step" 404 := fun a w => by kernel_rfl
theorem wClear_ : Meth Tryz.prog 409 "Step" 405 := fun a w => by kernel_rfl
theorem wTake_ : Meth Tryz.prog 420 "Step" 408 := fun a w => by kernel_rfl
theorem wRetire_ : Meth Tryz.prog 427 "Step" 410 := fun a w => by kernel_rfl
theorem wRead_ : Meth Tryz.prog 412 "Step" 406 := fun a w => by kernel_rfl
theorem wJoin_ : Meth Tryz.prog 417 "Step" 407 := fun a w => by kernel_rfl
theorem ah3{M:AMem}{f:FuncId}{xs:List AV}{X:Type}{B:X→List AV}{r:Nat}{cs:List AV}{res:X×M.O.A×Bool}{m:M.S}(fr:Hp){σ:Hp}{K:AV→Hp→Prop}(h:∀σ,ACalls Tryz.prog f xs ((r,cs)::(M.B m++σ)) (qs M σ B r res))
  (k1:∀m',M.abs m'=res.2.1→res.2.2=true→K (.bool true) (fr++((r,B res.1)::(M.B m'++σ)))) (k2:∀m',M.abs m'=res.2.1→res.2.2=false→K (.bool false) (fr++((r,B res.1)::(M.B m'++σ)))):CallAt Tryz.prog f K xs (fr++((r,cs)::(M.B m++σ))):=by
 have hp:∀(c:List AV) (b:Hp),((r,c)::(b++(fr++σ))).Perm (fr++((r,c)::(b++σ))):=fun c b=>fB fr ((r,c)::b) σ
 refine .perm _ (hp cs (M.B m)) (h (fr++σ)) ?_
 rintro x σ' ⟨m',h1,rfl,rfl⟩
 refine⟨_,(hp (B res.1) (M.B m')).symm,?_⟩
 cases hb:res.2.2 with
 |true=>exact k1 m' h1 hb
 |false=>exact k2 m' h1 hb
def mB(O:j9)(l:Lay)(base:Int)(x:List Int)(a:O.A):List Int×O.A×Bool:=
 if x.length<cw l.words then (x++[(O.ld a (wr (base+(x.length:Nat)))).1],(O.ld a (wr (base+(x.length:Nat)))).2,decide (x.length+1=cw l.words)) else (x,a,true)
def ga(O:j9)(l:Lay)(node:Int):Nw→O.A→Nw×O.A×Bool
 |.none,a=>(.none,a,false)
 |.pop q,a=>(.pop (fq O q a).1,(fq O q a).2)
 |.cc q,a=>(.cc (gA O q a).1,(gA O q a).2)
 |.quiet t,a=>(.quiet (so O t a).1,(so O t a).2)
 |.clear t,a=>(.clear (sq O t a).1,(sq O t a).2)
 |.read x,a=>(.read (mB O l (aS l node) x a).1,(mB O l (aS l node) x a).2)
 |.join j,a=>(.join (iq O j a).1,(iq O j a).2)
 |.take t,a=>(.take (kN O t a).1,(kN O t a).2)
 |.push q,a=>(.push (gn O q a).1,(gn O q a).2)
 |.dA t,a=>(.dA (tI O t a).1,(tI O t a).2)
def ew(s:Sy)(l:Lay)(x:WS):Nw→WS
 |.none=>x
 |.pop q=>if q.ok=true then ⟨x.ev,x.jo,x.en,rj l q.n,.none,pg l q.n,true,x.nx,x.out⟩ else ⟨x.ev,x.jo,x.en,rf l,.none,x.node,x.has,x.nx,x.out⟩
 |.cc q=>if q.ok=true then ⟨x.ev,x.jo,x.en,rj l q.n,.none,pg l q.n,true,x.nx,x.out⟩ else ⟨x.ev,x.jo,x.en,2,.none,x.node,x.has,x.nx,x.out⟩
 |.quiet t=>⟨x.ev,x.jo,t.is,vu l,.none,x.node,x.has,x.nx,x.out⟩
 |.clear _=>⟨x.ev,x.jo,x.en,4,.none,x.node,x.has,x.nx,x.out⟩
 |.read y=>⟨wr (x.ev+1),x.jo,x.en,vE s x.node,.none,x.node,x.has,ar s.n s.aL x.node,sO (pI s x.node y) (jO s y x.node.toNat)⟩
 |.join j=>if j.changed=true then ⟨x.ev,wr (x.jo+1),x.en,6,.none,x.node,x.has,x.nx,x.out⟩ else ⟨x.ev,x.jo,x.en,ko x.nx,.none,x.node,x.has,x.nx.tail,x.out⟩
 |.take t=>if t.new=true then ⟨x.ev,x.jo,x.en,7,.none,x.node,x.has,x.nx,x.out⟩ else ⟨x.ev,x.jo,x.en,ko x.nx,.none,x.node,x.has,x.nx.tail,x.out⟩
 |.push _=>⟨x.ev,x.jo,x.en,ko x.nx,.none,x.node,x.has,x.nx.tail,x.out⟩
 |.dA _=>⟨x.ev,x.jo,x.en,0,.none,x.node,false,x.nx,x.out⟩
def km(l:Lay)(who:Int)(x:WS)(d:Int):Nw:=match x.now with
 |.none=>iN l who x.does x.node x.nx x.out d
 |n=>n
def dv(O:j9)(s:Sy)(l:Lay)(who:Int)(x:WS)(d:Int)(a:O.A):WS×O.A×Bool:=
 if x.en=true then (x,a,true)
 else if (ga O l x.node (km l who x d) a).2.2=true then (ew s l x (ga O l x.node (km l who x d) a).1,(ga O l x.node (km l who x d) a).2.1,(ew s l x (ga O l x.node (km l who x d) a).1).en)
 else (⟨x.ev,x.jo,x.en,x.does,(ga O l x.node (km l who x d) a).1,x.node,x.has,x.nx,x.out⟩,(ga O l x.node (km l who x d) a).2.1,false)
def wz(l:Lay)(nx:List Int):Nw→Prop
 |.none=>True
 |.pop q=>q.at_≤5∧0≤q.b
 |.cc q=>q.at_≤3∧0≤q.t
 |.quiet _=>True
 |.clear _=>True
 |.read x=>(x.length<cw l.words∨(cw l.words=0∧x=[]))∧bA x
 |.join j=>j.at_≤1024∧0<nx.length
 |.take _=>0<nx.length
 |.push q=>(q.at_≤3∧0≤q.b)∧0<nx.length
 |.dA _=>True
def ND(l:Lay)(x:WS):Prop:=(x.does=5∨x.does=6∨x.does=7→0<x.nx.length)∧(x.does=1→nK l≠0∧l.k≠0)∧wz l x.nx x.now
def zw(c:AV)(acc:Hp):Nw→Prop
 |.read x=>kL c acc x∧(x=[]→c=.aj)
 |_=>True
def WB(s:Sy)(l:Lay)(who:Int)(w r:Nat)(c:AV)(acc:Hp)(x:WS):Hp:=(w,dT s l who x.ev x.jo x.en x.does (Ja r x.now) x.node x.has x.nx x.out)::Jb l x.node r c acc x.now
end Go.Proofs.YtnikdflhefijbaaGreat
