import Derived.Test.YtnikdflhefijbaaGreatBn7
import Derived.Test.YtnikdflhefijbaaGreatBn6
import Derived.Test.YtnikdflhefijbaaGreatBn11
namespace Go.Proofs.YtnikdflhefijbaaGreat
open Go.RowKit
set_option maxRecDepth 100000
set_option maxHeartbeats 4000000
def rm(n:Int):Nat:=(min (max n 1) 4096).toNat
theorem uJ(n:Int):1≤rm n∧rm n≤4096:=by unfold rm;omega
theorem adF(n:Int):(if (4096:Int)<(if n<1 then 1 else n) then (4096:Int) else (if n<1 then 1 else n))=((rm n:Nat):Int):=by
 unfold rm
 by_cases h:n<1
 ·simp only[ah h];omega
 ·simp only[ag h];split <;> omega
theorem Mq(n:Int)(σ:Hp):ACalls Tryz.prog 154 [.int .i64 n] σ (aE (.int .i64 (rm n)) σ):=by
 refine az Tryz.func154 ?_
 exact .done ⟨aV (adF n),rfl⟩
def gK(base:Int):Int:=wr (base+1)
def lE(base cap i:Int):Int:=wr (wr (base+2)+wr (i % (rm cap:Int)))
theorem uz(b c:Int)(σ:Hp):ACalls Tryz.prog 111 [.agg [.int .i64 b,.int .i64 c]] σ (aE (.int .i64 (gK b)) σ):=by
 refine az Tryz.func111 ?_
 intro aG
 refine aa 0 ?_
 exact .drop 0 1 (.done ⟨rfl,rfl⟩)
theorem LQ(b c i:Int)(σ:Hp)(h0:0≤i):ACalls Tryz.prog 402 [.agg [.int .i64 b,.int .i64 c],.int .u64 i] σ (aE (.int .i64 (lE b c i)) σ):=by
 have hr:=uJ c
 have e1:IntKind.u64.wrap (rm c:Int)=rm c:=by rw[IntKind.wrap_u64];omega
 have e2:i.tmod (IntKind.u64.wrap (rm c:Int))=i % (rm c:Int):=by rw[e1,sK h0]
 refine az Tryz.func402 ?_
 intro aG
 refine .quiet (by kernel_rfl) ?_
 refine aa 0 ?_
 refine aa 0 ?_
 refine aL [] (Mq _ _) ?_
 refine aI.mk (by rw[e1];omega) ?_
 exact .drop 0 1 (.done ⟨aV (by rw[e2];rfl),rfl⟩)
structure DQ where
 base:Int
 cap:Int
 n:Int
 ok:Bool
 ended:Bool
 at_:Nat
 b:Int
 t:Int
 x:Int
def l0(q:DQ):List AV:=[.int .i64 q.base,.int .i64 q.cap,.int .u64 q.n,.bool q.ok,.bool q.ended,.int .i64 q.at_,.int .u64 q.b,.int .u64 q.t,.int .u64 q.x]
abbrev wu(n:Int):Int:=IntKind.u64.wrap n
def gu(O:kg)(q:DQ)(a:O.A):DQ×O.A×Bool:=
 if q.ended then (q,a,true)
 else if q.at_=0 then ({ q with at_:=q.at_+1,b:=(O.ld a (gK q.base)).1 },(O.ld a (gK q.base)).2,false)
 else if q.at_=1 then
  (if (rm q.cap:Int)≤wr (wu (q.b-(O.ld a q.base).1)) then ({ q with at_:=q.at_+1,t:=(O.ld a q.base).1,ended:=true },(O.ld a q.base).2,true)
  else ({ q with at_:=q.at_+1,t:=(O.ld a q.base).1 },(O.ld a q.base).2,false))
 else if q.at_=2 then ({ q with at_:=q.at_+1 },O.st a (lE q.base q.cap q.b) q.n,false)
 else ({ q with at_:=q.at_+1,ok:=true,ended:=true },O.st a (gK q.base) (wu (q.b+1)),true)
theorem kU{M:AMem}{σ:Hp}{X:Type}{B:X→List AV}{r:Nat}{res:X×M.O.A×Bool}{x:X}{a:M.O.A}{b:Bool}{m':M.S}{cs:List AV}(h:res=(x,a,b))(hm:M.abs m'=a)(hc:cs=B x):qf M σ B r res (.bool b) ((r,cs)::(M.B m'++σ)):=by
 subst hc
 exact kb h hm
theorem U9(M:AMem)(r:Nat)(q:DQ)(m:M.S)(d:Int)(σ:Hp)(hf:M.O.free (M.abs m))(cx:q.at_≤1000)(hb:0≤q.b):ACalls Tryz.prog 409 [.ptr r 0,M.v,.int .i64 d] ((r,l0 q)::(M.B m++σ)) (qf M σ l0 r (gu M.O q (M.abs m))):=by
 have hw:IntKind.i64.wrap ((q.at_:Int)+1)=((q.at_+1:Nat):Int):=by rw[IntKind.wrap_i64];omega
 refine az Tryz.func409 ?_
 refine fE.kD 0 _ _ rfl rfl (fun h0=>?_) (fun h0=>?_)
 ·exact .done (kb (x:=q) (by simp[gu,h0]) rfl)
 refine ay [] (dK _ _ _) ?_
 refine aa 0 ?_
 refine ai 0 ?_
 refine aa 0 ?_
 refine aq (fun c1=>?_) (fun c1=>?_)
 ·have c1:IntKind.i64.wrap ((↑q.at_:Int)+1)=1:=c1
  refine .sched [6] (upto [6] 15 0) (by kernel_rfl) ?_
  refine aa 0 ?_
  refine aL [] (uz _ _ _) ?_
  refine fi.mk M.hL ?_
  refine M.aLoad [_] hf fun m' hm=>?_
  refine ai 0 ?_
  exact .done (kU (x:= { q with at_:=q.at_+1,b:=(M.O.ld (M.abs m) (gK q.base)).1 }) (by simp[gu,h0,show q.at_=0 by omega]) hm (by rw[hw];rfl))
 ·have c1:¬(IntKind.i64.wrap ((↑q.at_:Int)+1)=1):=c1
  refine aq (fun c2=>?_) (fun c2=>?_)
  ·have c2:IntKind.i64.wrap ((↑q.at_:Int)+1)=2:=c2
   refine .sched [] (upto [] 15 0) (by kernel_rfl) ?_
   refine aa 0 ?_
   refine fi.mk M.hL ?_
   refine M.aLoad [_] hf fun m' hm=>?_
   refine ai 0 ?_
   refine .quiet (by kernel_rfl) ?_
   refine aa 0 ?_
   refine aa 0 ?_
   refine aa 0 ?_
   refine aL [] (Mq _ _) ?_
   refine aq (fun c3=>?_) (fun c3=>?_)
   ·have c3:(↑(rm q.cap):Int)≤IntKind.i64.wrap (IntKind.u64.wrap (q.b-(M.O.ld (M.abs m) q.base).fst)):=c3
    refine .fwd 1 ?_
    refine ai 0 ?_
    exact .done (kU (x:= { q with at_:=q.at_+1,t:=(M.O.ld (M.abs m) q.base).1,ended:=true }) (by simp[gu,h0,show q.at_=1 by omega,c3]) hm (by rw[hw];rfl))
   ·have c3:¬((↑(rm q.cap):Int)≤IntKind.i64.wrap (IntKind.u64.wrap (q.b-(M.O.ld (M.abs m) q.base).fst))):=c3
    exact .done (kU (x:= { q with at_:=q.at_+1,t:=(M.O.ld (M.abs m) q.base).1 }) (by unfold gu wr wu;(repeat' split) <;> first | rfl | omega | simp_all) hm (by rw[hw];rfl))
  ·have c2:¬(IntKind.i64.wrap ((↑q.at_:Int)+1)=2):=c2
   refine aq (fun c4=>?_) (fun c4=>?_)
   ·have c4:IntKind.i64.wrap ((↑q.at_:Int)+1)=3:=c4
    refine .sched [10] (upto [10] 19 0) (by kernel_rfl) ?_
    refine aa 0 ?_
    refine aa 0 ?_
    refine aL [] (LQ _ _ _ _ hb) ?_
    refine aa 0 ?_
    refine fi.mk M.hS ?_
    refine M.aStore [_] hf fun m' hm=>?_
    exact .done (kU (x:= { q with at_:=q.at_+1 }) (by simp[gu,h0,show q.at_=2 by omega]) hm (by rw[hw];rfl))
   ·have c4:¬(IntKind.i64.wrap ((↑q.at_:Int)+1)=3):=c4
    refine .sched [5] (upto [5] 16 0) (by kernel_rfl) ?_
    refine aa 0 ?_
    refine aL [] (uz _ _ _) ?_
    refine aa 0 ?_
    refine fi.mk M.hS ?_
    refine M.aStore [_] hf fun m' hm=>?_
    refine ai 0 ?_
    refine .fwd 1 ?_
    refine ai 0 ?_
    exact .done (kU (x:= { q with at_:=q.at_+1,ok:=true,ended:=true }) (by simp[gu,h0,show q.at_≠0 by omega,show q.at_≠1 by omega,show q.at_≠2 by omega]) hm (by rw[hw];rfl))
def fp(O:kg)(q:DQ)(a:O.A):DQ×O.A×Bool:=
 if q.ended then (q,a,true)
 else if q.at_=0 then ({ q with at_:=q.at_+1,b:=wu ((O.ld a (gK q.base)).1-1) },(O.ld a (gK q.base)).2,false)
 else if q.at_=1 then ({ q with at_:=q.at_+1 },O.st a (gK q.base) q.b,false)
 else if q.at_=2 then ({ q with at_:=q.at_+1,t:=(O.ld a q.base).1 },(O.ld a q.base).2,false)
 else if q.at_=3 then
  (if wr q.b<wr q.t then ({ q with at_:=q.at_+1,ended:=true },O.st a (gK q.base) (wu (q.b+1)),true)
  else if wr q.t<wr q.b then ({ q with at_:=q.at_+1,x:=(O.ld a (lE q.base q.cap q.b)).1,ok:=true,n:=(O.ld a (lE q.base q.cap q.b)).1,ended:=true },(O.ld a (lE q.base q.cap q.b)).2,true)
  else ({ q with at_:=q.at_+1,x:=(O.ld a (lE q.base q.cap q.b)).1 },(O.ld a (lE q.base q.cap q.b)).2,false))
 else if q.at_=4 then ({ q with at_:=q.at_+1,ok:=(O.cs a q.base q.t (wu (q.t+1))).1 },(O.cs a q.base q.t (wu (q.t+1))).2,false)
 else ({ q with at_:=q.at_+1,n:=if q.ok then q.x else q.n,ended:=true },O.st a (gK q.base) (wu (q.b+1)),true)
theorem Ip(M:AMem)(r:Nat)(q:DQ)(m:M.S)(d:Int)(σ:Hp)(hf:M.O.free (M.abs m))(cx:q.at_≤1000)(hb:0≤q.b):ACalls Tryz.prog 401 [.ptr r 0,M.v,.int .i64 d] ((r,l0 q)::(M.B m++σ)) (qf M σ l0 r (fp M.O q (M.abs m))):=by
 have hw:IntKind.i64.wrap ((q.at_:Int)+1)=((q.at_+1:Nat):Int):=by rw[IntKind.wrap_i64];omega
 refine az Tryz.func401 ?_
 refine fE.kD 0 _ _ rfl rfl (fun h0=>?_) (fun h0=>?_)
 ·exact .done (kb (x:=q) (by simp[fp,h0]) rfl)
 refine ay [] (dK _ _ _) ?_
 refine aa 0 ?_
 refine ai 0 ?_
 refine aa 0 ?_
 refine aq (fun c1=>?_) (fun c1=>?_)
 ·have c1:IntKind.i64.wrap ((↑q.at_:Int)+1)=1:=c1
  refine .sched [6] (upto [6] 16 0) (by kernel_rfl) ?_
  refine aa 0 ?_
  refine aL [] (uz _ _ _) ?_
  refine fi.mk M.hL ?_
  refine M.aLoad [_] hf fun m' hm=>?_
  refine ai 0 ?_
  exact .done (kU (x:= { q with at_:=q.at_+1,b:=wu ((M.O.ld (M.abs m) (gK q.base)).1-1) }) (by unfold fp wr wu;(repeat' split) <;> first | rfl | omega | simp_all) hm (by rw[hw];rfl))
 ·have c1:¬(IntKind.i64.wrap ((↑q.at_:Int)+1)=1):=c1
  refine aq (fun c2=>?_) (fun c2=>?_)
  ·have c2:IntKind.i64.wrap ((↑q.at_:Int)+1)=2:=c2
   refine .sched [5] (upto [5] 15 0) (by kernel_rfl) ?_
   refine aa 0 ?_
   refine aL [] (uz _ _ _) ?_
   refine aa 0 ?_
   refine fi.mk M.hS ?_
   refine M.aStore [_] hf fun m' hm=>?_
   exact .done (kU (x:= { q with at_:=q.at_+1 }) (by unfold fp wr wu;(repeat' split) <;> first | rfl | omega | simp_all) hm (by rw[hw];rfl))
  ·have c2:¬(IntKind.i64.wrap ((↑q.at_:Int)+1)=2):=c2
   refine aq (fun c3=>?_) (fun c3=>?_)
   ·have c3:IntKind.i64.wrap ((↑q.at_:Int)+1)=3:=c3
    refine .sched [] (upto [] 15 0) (by kernel_rfl) ?_
    refine aa 0 ?_
    refine fi.mk M.hL ?_
    refine M.aLoad [_] hf fun m' hm=>?_
    refine ai 0 ?_
    exact .done (kU (x:= { q with at_:=q.at_+1,t:=(M.O.ld (M.abs m) q.base).1 }) (by unfold fp wr wu;(repeat' split) <;> first | rfl | omega | simp_all) hm (by rw[hw];rfl))
   ·have c3:¬(IntKind.i64.wrap ((↑q.at_:Int)+1)=3):=c3
    refine aq (fun c4=>?_) (fun c4=>?_)
    ·have c4:IntKind.i64.wrap ((↑q.at_:Int)+1)=4:=c4
     refine .quiet (by kernel_rfl) ?_
     refine aa 0 ?_
     refine aa 0 ?_
     refine aq (fun c5=>?_) (fun c5=>?_)
     ·have c5:IntKind.i64.wrap q.b<IntKind.i64.wrap q.t:=c5
      refine .fwd 1 ?_
      refine .sched [5] (upto [5] 16 0) (by kernel_rfl) ?_
      refine aa 0 ?_
      refine aL [] (uz _ _ _) ?_
      refine aa 0 ?_
      refine fi.mk M.hS ?_
      refine M.aStore [_] hf fun m' hm=>?_
      refine ai 0 ?_
      exact .done (kU (x:= { q with at_:=q.at_+1,ended:=true }) (by unfold fp wr wu;(repeat' split) <;> first | rfl | omega | simp_all) hm (by rw[hw];rfl))
     ·have c5:¬(IntKind.i64.wrap q.b<IntKind.i64.wrap q.t):=c5
      refine .sched [11] (upto [11] 20 0) (by kernel_rfl) ?_
      refine aa 0 ?_
      refine aa 0 ?_
      refine aL [] (LQ _ _ _ _ hb) ?_
      refine fi.mk M.hL ?_
      refine M.aLoad [_] hf fun m' hm=>?_
      refine ai 0 ?_
      refine .quiet (by kernel_rfl) ?_
      refine aa 0 ?_
      refine aa 0 ?_
      refine aq (fun c6=>?_) (fun c6=>?_)
      ·have c6:IntKind.i64.wrap q.t<IntKind.i64.wrap q.b:=c6
       refine aa 0 ?_
       refine ai 0 ?_
       refine ai 0 ?_
       refine .fwd 1 ?_
       refine ai 0 ?_
       exact .done (kU (x:= { q with at_:=q.at_+1,x:=(M.O.ld (M.abs m) (lE q.base q.cap q.b)).1,ok:=true,n:=(M.O.ld (M.abs m) (lE q.base q.cap q.b)).1,ended:=true }) (by unfold fp wr wu;(repeat' split) <;> first | rfl | omega | simp_all) hm (by rw[hw];rfl))
      ·have c6:¬(IntKind.i64.wrap q.t<IntKind.i64.wrap q.b):=c6
       exact .done (kU (x:= { q with at_:=q.at_+1,x:=(M.O.ld (M.abs m) (lE q.base q.cap q.b)).1 }) (by unfold fp wr wu;(repeat' split) <;> first | rfl | omega | simp_all) hm (by rw[hw];rfl))
    ·have c4:¬(IntKind.i64.wrap ((↑q.at_:Int)+1)=4):=c4
     refine aq (fun c7=>?_) (fun c7=>?_)
     ·have c7:IntKind.i64.wrap ((↑q.at_:Int)+1)=5:=c7
      refine .sched [] (upto [] 25 0) (by kernel_rfl) ?_
      refine aa 0 ?_
      refine aa 0 ?_
      refine aa 0 ?_
      refine fi.mk M.hC ?_
      refine M.aCas [_] hf fun m' hm=>?_
      refine ai 0 ?_
      exact .done (kU (x:= { q with at_:=q.at_+1,ok:=(M.O.cs (M.abs m) q.base q.t (wu (q.t+1))).1 }) (by unfold fp wr wu;(repeat' split) <;> first | rfl | omega | simp_all) hm (by rw[hw];rfl))
     ·have c7:¬(IntKind.i64.wrap ((↑q.at_:Int)+1)=5):=c7
      refine fE.kD 0 _ _ rfl rfl (fun c8=>?_) (fun c8=>?_)
      ·refine aa 0 ?_
       refine ai 0 ?_
       refine .fwd 1 ?_
       refine .sched [5] (upto [5] 16 0) (by kernel_rfl) ?_
       refine aa 0 ?_
       refine aL [] (uz _ _ _) ?_
       refine aa 0 ?_
       refine fi.mk M.hS ?_
       refine M.aStore [_] hf fun m' hm=>?_
       refine ai 0 ?_
       exact .done (kU (x:= { q with at_:=q.at_+1,n:=q.x,ended:=true }) (by unfold fp wr wu;(repeat' split) <;> first | rfl | omega | simp_all) hm (by rw[hw];rfl))
      ·refine .fwd 1 ?_
       refine .sched [5] (upto [5] 16 0) (by kernel_rfl) ?_
       refine aa 0 ?_
       refine aL [] (uz _ _ _) ?_
       refine aa 0 ?_
       refine fi.mk M.hS ?_
       refine M.aStore [_] hf fun m' hm=>?_
       refine ai 0 ?_
       exact .done (kU (x:= { q with at_:=q.at_+1,ended:=true }) (by unfold fp wr wu;(repeat' split) <;> first | rfl | omega | simp_all) hm (by rw[hw];rfl))
def gF(O:kg)(q:DQ)(a:O.A):DQ×O.A×Bool:=
 if q.ended then (q,a,true)
 else if q.at_=0 then ({ q with at_:=q.at_+1,t:=(O.ld a q.base).1 },(O.ld a q.base).2,false)
 else if q.at_=1 then
  (if wr (O.ld a (gK q.base)).1≤wr q.t then ({ q with at_:=q.at_+1,b:=(O.ld a (gK q.base)).1,ended:=true },(O.ld a (gK q.base)).2,true)
  else ({ q with at_:=q.at_+1,b:=(O.ld a (gK q.base)).1 },(O.ld a (gK q.base)).2,false))
 else if q.at_=2 then ({ q with at_:=q.at_+1,x:=(O.ld a (lE q.base q.cap q.t)).1 },(O.ld a (lE q.base q.cap q.t)).2,false)
 else ({ q with at_:=q.at_+1,ok:=(O.cs a q.base q.t (wu (q.t+1))).1,n:=if (O.cs a q.base q.t (wu (q.t+1))).1 then q.x else q.n,ended:=true },(O.cs a q.base q.t (wu (q.t+1))).2,true)
theorem Hl(M:AMem)(r:Nat)(q:DQ)(m:M.S)(d:Int)(σ:Hp)(hf:M.O.free (M.abs m))(cx:q.at_≤1000)(hb:0≤q.t):ACalls Tryz.prog 403 [.ptr r 0,M.v,.int .i64 d] ((r,l0 q)::(M.B m++σ)) (qf M σ l0 r (gF M.O q (M.abs m))):=by
 have hw:IntKind.i64.wrap ((q.at_:Int)+1)=((q.at_+1:Nat):Int):=by rw[IntKind.wrap_i64];omega
 refine az Tryz.func403 ?_
 refine fE.kD 0 _ _ rfl rfl (fun h0=>?_) (fun h0=>?_)
 ·exact .done (kb (x:=q) (by simp[gF,h0]) rfl)
 refine ay [] (dK _ _ _) ?_
 refine aa 0 ?_
 refine ai 0 ?_
 refine aa 0 ?_
 refine aq (fun c1=>?_) (fun c1=>?_)
 ·have c1:IntKind.i64.wrap ((↑q.at_:Int)+1)=1:=c1
  refine .sched [] (upto [] 15 0) (by kernel_rfl) ?_
  refine aa 0 ?_
  refine fi.mk M.hL ?_
  refine M.aLoad [_] hf fun m' hm=>?_
  refine ai 0 ?_
  exact .done (kU (x:= { q with at_:=q.at_+1,t:=(M.O.ld (M.abs m) q.base).1 }) (by unfold gF wr wu;(repeat' split) <;> first | rfl | omega | simp_all) hm (by rw[hw];rfl))
 ·have c1:¬(IntKind.i64.wrap ((↑q.at_:Int)+1)=1):=c1
  refine aq (fun c2=>?_) (fun c2=>?_)
  ·have c2:IntKind.i64.wrap ((↑q.at_:Int)+1)=2:=c2
   refine .sched [6] (upto [6] 15 0) (by kernel_rfl) ?_
   refine aa 0 ?_
   refine aL [] (uz _ _ _) ?_
   refine fi.mk M.hL ?_
   refine M.aLoad [_] hf fun m' hm=>?_
   refine ai 0 ?_
   refine .quiet (by kernel_rfl) ?_
   refine aa 0 ?_
   refine aa 0 ?_
   refine aq (fun c3=>?_) (fun c3=>?_)
   ·have c3:IntKind.i64.wrap (M.O.ld (M.abs m) (gK q.base)).fst≤IntKind.i64.wrap q.t:=c3
    refine .fwd 1 ?_
    refine ai 0 ?_
    exact .done (kU (x:= { q with at_:=q.at_+1,b:=(M.O.ld (M.abs m) (gK q.base)).1,ended:=true }) (by unfold gF wr wu;(repeat' split) <;> first | rfl | omega | simp_all) hm (by rw[hw];rfl))
   ·have c3:¬(IntKind.i64.wrap (M.O.ld (M.abs m) (gK q.base)).fst≤IntKind.i64.wrap q.t):=c3
    exact .done (kU (x:= { q with at_:=q.at_+1,b:=(M.O.ld (M.abs m) (gK q.base)).1 }) (by unfold gF wr wu;(repeat' split) <;> first | rfl | omega | simp_all) hm (by rw[hw];rfl))
  ·have c2:¬(IntKind.i64.wrap ((↑q.at_:Int)+1)=2):=c2
   refine aq (fun c4=>?_) (fun c4=>?_)
   ·have c4:IntKind.i64.wrap ((↑q.at_:Int)+1)=3:=c4
    refine .sched [11] (upto [11] 20 0) (by kernel_rfl) ?_
    refine aa 0 ?_
    refine aa 0 ?_
    refine aL [] (LQ _ _ _ _ hb) ?_
    refine fi.mk M.hL ?_
    refine M.aLoad [_] hf fun m' hm=>?_
    refine ai 0 ?_
    exact .done (kU (x:= { q with at_:=q.at_+1,x:=(M.O.ld (M.abs m) (lE q.base q.cap q.t)).1 }) (by unfold gF wr wu;(repeat' split) <;> first | rfl | omega | simp_all) hm (by rw[hw];rfl))
   ·have c4:¬(IntKind.i64.wrap ((↑q.at_:Int)+1)=3):=c4
    refine .sched [] (upto [] 25 0) (by kernel_rfl) ?_
    refine aa 0 ?_
    refine aa 0 ?_
    refine aa 0 ?_
    refine fi.mk M.hC ?_
    refine M.aCasB [_] hf (fun m' hm hb=>?_) (fun m' hm hb=>?_)
    ·refine ai 0 ?_
     refine aa 0 ?_
     refine aa 0 ?_
     refine ai 0 ?_
     refine .fwd 1 ?_
     refine ai 0 ?_
     exact .done (kU (x:= { q with at_:=q.at_+1,ok:=true,n:=q.x,ended:=true }) (by unfold gF wr wu;(repeat' split) <;> first | rfl | omega | simp_all) hm (by rw[hw];rfl))
    ·refine ai 0 ?_
     refine aa 0 ?_
     refine .fwd 1 ?_
     refine ai 0 ?_
     exact .done (kU (x:= { q with at_:=q.at_+1,ok:=false,ended:=true }) (by unfold gF wr wu;(repeat' split) <;> first | rfl | omega | simp_all) hm (by rw[hw];rfl))
theorem ade(p q:Nat)(ws:List Int)(b c:Int)(σ:Hp):ACalls Tryz.prog 161 [.agg [.int .i64 b,.int .i64 c],mL p] (cd p q ws σ) (aE (.tup []) (cd p q (ig (ig ws b 1) (gK b) 1) σ)):=by
 refine az Tryz.func161 ?_
 intro aG
 refine ay [] (dK _ _ _) ?_
 refine aa 0 ?_
 refine⟨_,mStore_,?_⟩
 refine ay [2,2] (aStore p q _ _ _ _) ?_
 refine .sched [2] (upto [2] 7 0) (by kernel_rfl) ?_
 refine aa 2 ?_
 refine aL [] (uz _ _ _) ?_
 refine fi.mk hStore_ ?_
 refine⟨_,mStore_,?_⟩
 refine ay [] (aStore p q _ _ _ _) ?_
 exact .drop 2 1 (.done ⟨rfl,rfl⟩)
set_option maxHeartbeats 4000000
theorem GO{ws:List Int}(h:bc ws)(a:Int):bH (gJ ws a):=by
 unfold gJ
 split
 ·exact⟨by decide,by decide⟩
 ·rw[bg]
  cases hq:ws[a.toNat]? with
  |none=>exact⟨by decide,by decide⟩
  |some x=>exact h x (cq hq)
theorem OP(a:List Int)(i:Nat)(σ:Hp):ACalls Tryz.prog 213 [.af (.int .u64) a,.int .i64 i] σ (aE (.int .u64 (wd a i)) σ):=by
 refine az Tryz.func213 ?_
 refine aq (fun h=>?_) (fun h=>?_)
 ·have h:(a.length:Int)≤i:=h
  exact .done ⟨aV (by simp[wd,List.getElem?_eq_none (show a.length≤i by omega)]),rfl⟩
 ·have h:¬(a.length:Int)≤i:=h
  have hi:i<a.length:=by omega
  refine aI.mk rfl (bL.mk a[i] (by omega) (get_some hi) ?_)
  exact .done ⟨aV (by simp[wd,hi]),rfl⟩
def cw(n:Int):Nat:=(min (max n 0) 1024).toNat
theorem AH(n:Int):cw n≤1024:=by unfold cw;omega
theorem aec(n:Int):(if (1024:Int)<(if n<0 then 0 else n) then (1024:Int) else (if n<0 then 0 else n))=((cw n:Nat):Int):=by
 unfold cw
 by_cases h:n<0
 ·simp only[ah h];omega
 ·simp only[ag h];split <;> omega
theorem n0(b w n:Int)(σ:Hp):ACalls Tryz.prog 163 [.agg [.int .i64 b,.int .i64 w,.int .i64 n]] σ (aE (.int .i64 (cw n)) σ):=by
 refine az Tryz.func163 ?_
 intro aG
 refine aa 0 ?_
 exact .drop 0 1 (.done ⟨aV (aec n),rfl⟩)
structure Jn where
 base:Int
 what:Int
 words:Int
 a:List Int
 changed:Bool
 ended:Bool
 tries:Int
 at_:Nat
 fu:Bool
 x:Int
def zb(j:Jn):List AV:=[.int .i64 j.base,.int .i64 j.what,.int .i64 j.words,.af (.int .u64) j.a,.bool j.changed,.bool j.ended,.int .i64 j.tries,.int .i64 j.at_,.bool j.fu,.int .u64 j.x]
def gQ(j:Jn):Jn×Bool:=if j.at_+1<cw j.words then ({ j with at_:=j.at_+1 },false) else ({ j with at_:=j.at_+1,ended:=true },true)
def iA(O:kg)(j:Jn)(a:O.A):Jn×O.A×Bool:=
 if j.ended then (j,a,true)
 else if j.at_=cw j.words then ({ j with ended:=true },a,true)
 else if j.fu then
  (if (O.cs a (wr (j.base+j.at_)) j.x (cT j.what j.x (wd j.a j.at_))).1 then ((gQ { j with fu:=false,changed:=true }).1,(O.cs a (wr (j.base+j.at_)) j.x (cT j.what j.x (wd j.a j.at_))).2,(gQ { j with fu:=false,changed:=true }).2)
  else ({ j with fu:=false,tries:=wr (j.tries+1) },(O.cs a (wr (j.base+j.at_)) j.x (cT j.what j.x (wd j.a j.at_))).2,false))
 else if cT j.what (O.ld a (wr (j.base+j.at_))).1 (wd j.a j.at_)=(O.ld a (wr (j.base+j.at_))).1 then ((gQ { j with x:=(O.ld a (wr (j.base+j.at_))).1 }).1,(O.ld a (wr (j.base+j.at_))).2,(gQ { j with x:=(O.ld a (wr (j.base+j.at_))).1 }).2)
 else ({ j with x:=(O.ld a (wr (j.base+j.at_))).1,fu:=true },(O.ld a (wr (j.base+j.at_))).2,false)
theorem Hb{M:AMem}{σ:Hp}{X:Type}{B:X→List AV}{r:Nat}{res:X×M.O.A×Bool}{x:X}{a:M.O.A}{b:Bool}{m':M.S}{cs:List AV}(h:res=(x,a,b))(hm:M.abs m'=a)(hc:cs=B x):qf M σ B r res (.bool b) ((r,cs)::(M.B m'++σ)):=by
 subst hc
 exact kb h hm
theorem HM(M:AMem)(r:Nat)(j:Jn)(m:M.S)(d:Int)(σ:Hp)(hf:M.O.free (M.abs m))(cx:j.at_≤2000):ACalls Tryz.prog 407 [.ptr r 0,M.v,.int .i64 d] ((r,zb j)::(M.B m++σ)) (qf M σ zb r (iA M.O j (M.abs m))):=by
 refine az Tryz.func407 ?_
 have hw:IntKind.i64.wrap ((j.at_:Int)+1)=((j.at_+1:Nat):Int):=by rw[IntKind.wrap_i64];omega
 refine fE.kD 0 _ _ rfl rfl (fun h0=>?_) (fun h0=>?_)
 ·exact .done (kb (x:=j) (by simp[iA,h0]) rfl)
 refine ay [] (dK _ _ _) ?_
 refine .quiet (by kernel_rfl) ?_
 refine aa 0 ?_
 refine aa 0 ?_
 refine aL [] (n0 _ _ _ _) ?_
 refine aq (fun c1=>?_) (fun c1=>?_)
 ·have c1:(j.at_:Int)=cw j.words:=c1
  have c1:j.at_=cw j.words:=by omega
  refine .fwd 1 ?_
  refine ai 0 ?_
  exact .done (kb (x:= { j with ended:=true }) (by simp[iA,h0,c1]) rfl)
 ·have c1:¬(j.at_:Int)=cw j.words:=c1
  have c1:¬j.at_=cw j.words:=by omega
  refine fE.kD 0 _ _ rfl rfl (fun c2=>?_) (fun c2=>?_)
  ·refine ai 0 ?_
   refine .sched [36,37] (upto [36,37] 43 0) (by kernel_rfl) ?_
   refine aa 0 ?_
   refine aa 0 ?_
   refine aa 0 ?_
   refine aa 0 ?_
   refine aa 0 ?_
   refine aa 0 ?_
   refine aa 0 ?_
   refine aL [] (OP _ _ _) ?_
   refine aL [] (U6 _ _ _ _) ?_
   refine fi.mk M.hC ?_
   refine M.aCasB [_] hf (fun m' hm hb=>?_) (fun m' hm hb=>?_)
   ·refine ai 0 ?_
    refine .fwd 1 ?_
    refine aa 0 ?_
    refine ai 0 ?_
    refine .quiet (by kernel_rfl) ?_
    refine aa 0 ?_
    refine aa 0 ?_
    refine aL [] (n0 _ _ _ _) ?_
    refine aq (fun c3=>?_) (fun c3=>?_)
    ·have c3:IntKind.i64.wrap (↑j.at_+1) < ↑(cw j.words):=c3
     exact .done (Hb (x:= { j with fu:=false,changed:=true,at_:=j.at_+1 }) (by simp[iA,h0,c1,c2,hb,gQ,show j.at_+1<cw j.words by omega]) hm (by rw[hw];rfl))
    ·have c3:¬(IntKind.i64.wrap (↑j.at_+1) < ↑(cw j.words)):=c3
     refine ai 0 ?_
     exact .done (Hb (x:= { j with fu:=false,changed:=true,at_:=j.at_+1,ended:=true }) (by simp[iA,h0,c1,c2,hb,gQ,show ¬j.at_+1<cw j.words by omega]) hm (by rw[hw];rfl))
   ·refine aa 0 ?_
    refine ai 0 ?_
    exact .done (kb (x:= { j with fu:=false,tries:=wr (j.tries+1) }) (by simp[iA,h0,c1,c2,hb]) hm)
  ·refine .sched [] (upto [] 21 0) (by kernel_rfl) ?_
   refine aa 0 ?_
   refine aa 0 ?_
   refine fi.mk M.hL ?_
   refine M.aLoad [_] hf fun m' hm=>?_
   refine ai 0 ?_
   refine .quiet (by kernel_rfl) ?_
   refine aa 0 ?_
   refine aa 0 ?_
   refine aa 0 ?_
   refine aa 0 ?_
   refine aL [] (OP _ _ _) ?_
   refine aL [] (U6 _ _ _ _) ?_
   refine aa 0 ?_
   refine ew (fun c4=>?_) (fun c4=>?_)
   ·have c4:¬(cT j.what (M.O.ld (M.abs m) (IntKind.i64.wrap (j.base + ↑j.at_))).fst (wd j.a j.at_)=(M.O.ld (M.abs m) (IntKind.i64.wrap (j.base + ↑j.at_))).fst):=by simpa using c4
    refine ai 0 ?_
    exact .done (kb (x:= { j with x:=(M.O.ld (M.abs m) (wr (j.base+j.at_))).1,fu:=true }) (by simp[iA,h0,c1,c2,c4]) hm)
   ·have c4:cT j.what (M.O.ld (M.abs m) (IntKind.i64.wrap (j.base + ↑j.at_))).fst (wd j.a j.at_)=(M.O.ld (M.abs m) (IntKind.i64.wrap (j.base + ↑j.at_))).fst:=by simpa using c4
    refine aa 0 ?_
    refine ai 0 ?_
    refine .quiet (by kernel_rfl) ?_
    refine aa 0 ?_
    refine aa 0 ?_
    refine aL [] (n0 _ _ _ _) ?_
    refine aq (fun c5=>?_) (fun c5=>?_)
    ·have c5:IntKind.i64.wrap (↑j.at_+1) < ↑(cw j.words):=c5
     exact .done (Hb (x:= { j with x:=(M.O.ld (M.abs m) (wr (j.base+j.at_))).1,at_:=j.at_+1 }) (by simp[iA,h0,c1,c2,c4,gQ,show j.at_+1<cw j.words by omega]) hm (by rw[hw];rfl))
    ·have c5:¬(IntKind.i64.wrap (↑j.at_+1) < ↑(cw j.words)):=c5
     refine ai 0 ?_
     exact .done (Hb (x:= { j with x:=(M.O.ld (M.abs m) (wr (j.base+j.at_))).1,at_:=j.at_+1,ended:=true }) (by simp[iA,h0,c1,c2,c4,gQ,show ¬j.at_+1<cw j.words by omega]) hm (by rw[hw];rfl))
def AQ(base:Int)(a:List Int)(ws:List Int):Nat→List Int
 | 0=>ws
 |k+1=>ig (AQ base a ws k) (wr (base+k)) (wd a k)
theorem agy(p q:Nat)(ws:List Int)(b w n:Int)(a:List Int)(σ:Hp):ACalls Tryz.prog 159 [.agg [.int .i64 b,.int .i64 w,.int .i64 n],mL p,.af (.int .u64) a] (cd p q ws σ) (aE (.tup []) (cd p q (AQ b a ws (cw n)) σ)):=by
 have hc:=AH n
 refine az Tryz.func159 ?_
 intro aG
 refine ay [] (dK _ _ _) ?_
 refine aa 0 ?_
 refine ay [] (n0 _ _ _ _) ?_
 refine cc (S:=Nat) (fun s=>[(1,mL p),(2,.af (.int .u64) a),(3,.ptr aG 0),(10,.int .i64 (cw n)),(11,.int .i64 s)]) (fun s=>(aG,[.int .i64 b,.int .i64 w,.int .i64 n])::cd p q (AQ b a ws s) σ) (fun s=>s≤cw n) (fun s=>cw n-s) 0 ⟨bD _,⟨rfl,rfl,rfl,rfl,rfl,trivial⟩,rfl⟩ ?_
 intro k g hk
 refine aq (fun h=>?_) (fun h=>?_)
 ·have h:(k:Int)<cw n:=h
  refine .sched [7] (upto [7] 12 0) (by kernel_rfl) ?_
  refine aa 0 ?_
  refine aL [] (OP _ _ _) ?_
  refine fi.mk hStore_ ?_
  refine⟨_,mStore_,?_⟩
  refine ay [2,2] (aStore p q _ _ _ _) ?_
  refine bj (k+1) ?_ ?_ ⟨rfl,rfl,rfl,rfl,aY (by omega),trivial⟩ (.pull [2] (aJ rfl))
  ·show cw n-(k+1)<cw n-k;omega
  ·show k+1≤cw n;omega
 ·have h:¬(k:Int)<cw n:=h
  obtain rfl:k=cw n:=by omega
  exact .drop 0 1 (.done ⟨rfl,rfl⟩)
def pA(base:Int)(ws:List Int)(k:Nat):List Int:=(List.range k).map fun i=>gJ ws (wr (base+(i:Nat)))
theorem WU(base:Int)(ws:List Int)(k:Nat):(pA base ws k).length=k:=by unfold pA;rw[cm,pN]
theorem YZ(base:Int)(ws:List Int)(k:Nat):pA base ws (k+1)=pA base ws k++[gJ ws (wr (base+k))]:=by unfold pA;rw[sH,cO];rfl
theorem agC(p q:Nat)(ws:List Int)(b w n:Int)(σ:Hp):ACalls Tryz.prog 107 [.agg [.int .i64 b,.int .i64 w,.int .i64 n],mL p] (cd p q ws σ) (aE (.af (.int .u64) (pA b ws (cw n))) (cd p q ws σ)):=by
 have hc:=AH n
 refine az Tryz.func107 ?_
 intro aG
 refine ay [] (dK _ _ _) ?_
 refine aa 0 ?_
 refine ay [] (n0 _ _ _ _) ?_
 refine .wrap 5 _ rfl rfl ?_
 refine cc (S:=Nat×AV×Hp) (fun s=>[(1,mL p),(2,.ptr aG 0),(5,.via s.2.1),(10,.int .i64 (cw n)),(11,.int .i64 s.1)]) (fun s=>(aG,[.int .i64 b,.int .i64 w,.int .i64 n])::(s.2.2++cd p q ws σ)) (fun s=>s.1≤cw n∧Acc 1 s.1 s.2.1 s.2.2 (aO (pA b ws s.1))) (fun s=>cw n-s.1) (0,.aj,[]) ⟨⟨bD _,.nil⟩,⟨rfl,rfl,rfl,rfl,rfl,trivial⟩,rfl⟩ ?_
 rintro⟨k,v,acc⟩ g ⟨hk,b9⟩
 have hk:k≤cw n:=hk
 have b9:Acc 1 k v acc (aO (pA b ws k)):=b9
 refine aq (fun h=>?_) (fun h=>?_)
 ·have h:(k:Int)<cw n:=h
  refine aa 0 ?_
  refine⟨_,mLoad_,?_⟩
  refine .perm (σ2:=cd p q ws ((aG,[.int .i64 b,.int .i64 w,.int .i64 n])::(acc++σ))) _ ?_ (aLoad p q ws _ _) ?_
  ·exact fC ((aG,[.int .i64 b,.int .i64 w,.int .i64 n])::acc) [_,_] σ
  rintro _ _ ⟨rfl,rfl⟩
  refine⟨_,(fC ((aG,[.int .i64 b,.int .i64 w,.int .i64 n])::acc) [_,_] σ).symm,?_⟩
  intro dw
  refine ic [_,_] b9 (.ae 0 dw 0 1 _ rfl (cD rfl)) rfl (by omega) (by decide) (by decide) (fun v' aU h'=>?_)
  refine bj (k+1,v',aU) ?_ ⟨?_,?_⟩ ⟨rfl,rfl,rfl,rfl,aY (by omega),trivial⟩ (.drop 0 1 (aJ rfl))
  ·show cw n-(k+1)<cw n-k;omega
  ·show k+1≤cw n;omega
  ·show Acc 1 (k+1) v' aU (aO (pA b ws (k+1)))
   rw[YZ,aO,cO]
   exact h'
 ·have h:¬(k:Int)<cw n:=h
  obtain rfl:k=cw n:=by omega
  refine .drop 0 1 ?_
  exact qU (s:=.int .u64) (l:=pA b ws (cw n)) [] b9 (WU b ws _).symm (by rw[kO]) (by decide) (.done ⟨rfl,rfl⟩)
def kj(v:AV)(base what words:Int)(ended:Bool)(at_:Nat)(fu:Bool)(x:Int):List AV:=[.int .i64 base,.int .i64 what,.int .i64 words,v,.bool ended,.int .i64 at_,.bool fu,.int .u64 x]
inductive kN:AV→Hp→List Int→Prop where
 |nil:kN .aj [] []
 |ae (b:Nat) (l:List Int):kN (.ae b 0 l.length 1) [(b,aO l)] l
theorem kN.push(b:Nat)(l:List Int)(x:Int):kN (.ae b 0 (l.length+1) 1) [(b,(aO l).take (l.length*1)++[.int .u64 x])] (l++[x]):=by
 have h:=kN.ae b (l++[x])
 have e1:(l++[x]).length=l.length+1:=by simp
 have e2:aO (l++[x])=(aO l).take (l.length*1)++[.int .u64 x]:=by rw[List.take_of_length_le (by simp[aO])];simp[aO]
 rw[e1,e2]at h
 exact h
theorem ZE(σ:Hp):ACalls Tryz.prog 256 [.aj] σ (aE .aj σ):=by
 refine az Tryz.func256 ?_
 exact .done ⟨rfl,rfl⟩
theorem Ch(b k:Nat)(cs:List AV)(σ:Hp)(hm:(b,cs)∈σ)(h:cs.length=k*1)(hl:k≤1000000):ACalls Tryz.prog 256 [.ae b 0 k 1] σ (fun x σ'=>∃b',x=.ae b' 0 k 1∧σ'=(b',cs)::σ):=by
 refine az Tryz.func256 ?_
 intro b2
 refine AppendAt.more 0 b2 0 k [] ((cs.drop 0).take (k*1)) rfl rfl (cD rfl) (.mem (cW _ hm) (by show 0+k*1≤cs.length;omega)) (by omega) (by decide) (by decide) (fun b'=>?_)
 refine .done ⟨b',by rw[ef];rfl,?_⟩
 show (b',List.take (0*1) []++(cs.drop 0).take (k*1))::σ=_
 rw[show (cs.drop 0).take (k*1)=cs by rw[gM,eG (by omega)]];rfl
structure Lay where
 what:Int
 words:Int
 n:Int
 k:Int
def gV(l:Lay):List AV:=[.int .i64 l.what,.int .i64 l.words,.int .i64 l.n,.int .i64 l.k]
def cX(l:Lay):Int:=wr (l.n*l.words)
def du(l:Lay):Int:=wr (cX l+l.n)
def eg(l:Lay):Int:=wr (l.n+1)
def iY(l:Lay)(w:Int):Int:=wr (wr (du l+1)+wr (w*((2+rm (eg l):Nat):Int)))
def aX(l:Lay)(v:Int):Int:=wr (v*l.words)
def iB(s:Sy)(k:Int):Lay:=⟨qs (dv s k) s.what,qs (dv s k) (eH s.what s.w),qs (dv s k) s.n,qs (dv s k) k⟩
theorem acY(n:Int)(σ:Hp):ACalls Tryz.prog 87 [.int .i64 n] σ (aE (.int .i64 ((2+rm n:Nat):Int)) σ):=by
 have h:=uJ n
 refine az Tryz.func87 ?_
 refine ay [] (Mq _ _) ?_
 exact .done ⟨aV (by rw[IntKind.wrap_i64];omega),rfl⟩
theorem Uy(l:Lay)(σ:Hp):ACalls Tryz.prog 108 [.agg (gV l)] σ (aE (.int .i64 (cX l)) σ):=by
 refine az Tryz.func108 ?_
 intro aG
 refine aa 0 ?_
 refine aa 0 ?_
 exact .drop 0 1 (.done ⟨rfl,rfl⟩)
theorem TD(l:Lay)(σ:Hp):ACalls Tryz.prog 109 [.agg (gV l)] σ (aE (.int .i64 (du l)) σ):=by
 refine az Tryz.func109 ?_
 intro aG
 refine .quiet (by kernel_rfl) ?_
 refine aa 0 ?_
 refine aL [] (Uy l _) ?_
 refine aa 0 ?_
 exact .drop 0 1 (.done ⟨rfl,rfl⟩)
theorem LU(l:Lay)(σ:Hp):ACalls Tryz.prog 88 [.agg (gV l)] σ (aE (.int .i64 (eg l)) σ):=by
 refine az Tryz.func88 ?_
 intro aG
 refine aa 0 ?_
 exact .drop 0 1 (.done ⟨rfl,rfl⟩)
theorem CS(l:Lay)(w:Int)(σ:Hp):ACalls Tryz.prog 52 [.agg (gV l),.int .i64 w] σ (aE (.agg [.int .i64 (iY l w),.int .i64 (eg l)]) σ):=by
 refine az Tryz.func52 ?_
 intro aG
 intro dw
 refine .sched [1,5,6,10] (upto [1,5,6,10] 13 0) (by kernel_rfl) ?_
 refine aa 1 ?_
 refine aL [] (TD l _) ?_
 refine aa 1 ?_
 refine aL [] (LU l _) ?_
 refine aL [] (acY _ _) ?_
 refine aa 1 ?_
 refine aL [] (LU l _) ?_
 refine ai 0 ?_
 refine aa 0 ?_
 exact .drop 0 2 (.done ⟨rfl,rfl⟩)
theorem Lv(l:Lay)(σ:Hp):ACalls Tryz.prog 45 [.agg (gV l)] σ (aE (.agg [.int .i64 (cX l),.int .i64 (du l)]) σ):=by
 refine az Tryz.func45 ?_
 intro aG
 intro dw
 refine .sched [1,3] (upto [1,3] 6 0) (by kernel_rfl) ?_
 refine aa 1 ?_
 refine aL [] (Uy l _) ?_
 refine aa 1 ?_
 refine aL [] (TD l _) ?_
 refine ai 0 ?_
 refine aa 0 ?_
 exact .drop 0 2 (.done ⟨rfl,rfl⟩)
theorem Hq(l:Lay)(v:Int)(σ:Hp):ACalls Tryz.prog 106 [.agg (gV l),.int .i64 v] σ (aE (.agg [.int .i64 (aX l v),.int .i64 l.what,.int .i64 l.words]) σ):=by
 refine az Tryz.func106 ?_
 intro aG
 intro dw
 refine aa 1 ?_
 refine aa 1 ?_
 refine aa 1 ?_
 refine ai 0 ?_
 refine aa 0 ?_
 exact .drop 0 2 (.done ⟨rfl,rfl⟩)
theorem Uw(l:Lay)(σ:Hp):ACalls Tryz.prog 96 [.agg (gV l)] σ (aE (.int .i64 (iY l l.k)) σ):=by
 refine az Tryz.func96 ?_
 intro aG
 refine aa 0 ?_
 refine aa 0 ?_
 refine ay [] (CS l _ _) ?_
 exact .drop 0 1 (.done ⟨rfl,rfl⟩)
theorem Ho(s:Sy)(k:Int)(σ:Hp)(hf:Fit s):ACalls Tryz.prog 37 [.agg (bU s),.int .i64 k] σ (aE (.tup [.agg (gV (iB s k)),.int .i64 (dv s k)]) σ):=by
 refine az Tryz.func37 ?_
 intro aG
 intro dw
 refine aa 1 ?_
 refine ay [] (Rf s _ hf) ?_
 refine ew (fun c3=>?_) (fun c3=>?_)
 ·have c3:¬(eX s=0):=by simpa using c3
  refine ai 0 ?_
  refine aa 0 ?_
  exact .drop 0 2 (.done ⟨aak (by assumption),rfl⟩)
 ·have c3:eX s=0:=by simpa using c3
  refine aq (fun c4=>?_) (fun c4=>?_)
  ·have c4:k<1:=c4
   refine ai 0 ?_
   refine aa 0 ?_
   exact .drop 0 2 (.done ⟨RR (by assumption) (by omega),rfl⟩)
  ·have c4:¬(k<1):=c4
   refine aq (fun c5=>?_) (fun c5=>?_)
   ·have c5:64<k:=c5
    refine ai 0 ?_
    refine aa 0 ?_
    exact .drop 0 2 (.done ⟨RR (by assumption) (by omega),rfl⟩)
   ·have c5:¬(64<k):=c5
    refine .sched [6] (upto [6] 13 0) (by kernel_rfl) ?_
    refine aa 1 ?_
    refine aa 1 ?_
    refine aa 1 ?_
    refine aL [] (G0 _ _ _) ?_
    refine aa 1 ?_
    refine ai 0 ?_
    refine aa 0 ?_
    exact .drop 0 2 (.done ⟨acn (by assumption) (by omega),rfl⟩)
inductive Nw where
 |none
 |pop (q:DQ)
 |cu (q:DQ)
 |quiet (t:Qk)
 |clear (t:Ck)
 |read (l:List Int)
 |join (j:Jn)
 |take (t:Tk)
 |push (q:DQ)
 |dU (t:Rk)
structure WS where
 ev:Int
 jo:Int
 en:Bool
 does:Int
 now:Nw
 node:Int
 has:Bool
 nx:List Int
 out:List Int
abbrev dR(s:Sy)(l:Lay)(who ev jo:Int)(en:Bool)(does:Int)(nv:AV)(node:Int)(has:Bool)(nx out:List Int):List AV:=
 [.int .i64 ev,.int .i64 jo,.bool en,.int .i64 s.what,.int .i64 s.w,.int .i64 s.n,.af dB s.aW,.af (.int .i64) s.entry,.af (.int .u64) s.init,.af kR s.T,.int .i64 l.what,.int .i64 l.words,.int .i64 l.n,.int .i64 l.k,.int .i64 who,.int .i64 does,nv,.int .i64 node,.bool has,.af (.int .i64) nx,.af (.int .u64) out,.bool true]
theorem LV(w:Nat)(s:Sy)(l:Lay)(who ev jo:Int)(en:Bool)(does:Int)(nv:AV)(node:Int)(has:Bool)(nx out:List Int)(σ:Hp):ACalls Tryz.prog 396 [.ptr w 0] ((w,dR s l who ev jo en does nv node has nx out)::σ) (aE (.bool (decide (l.k<2))) ((w,dR s l who ev jo en does nv node has nx out)::σ)):=by
 refine az Tryz.func396 ?_
 refine aa 0 ?_
 refine aq (fun c1=>?_) (fun c1=>?_)
 ·have c1:l.k<2:=c1
  exact .done ⟨dc (bu (by assumption)).symm,rfl⟩
 ·have c1:¬(l.k<2):=c1
  exact .done ⟨dc (bZ (by assumption)).symm,rfl⟩
def nK(l:Lay):Int:=wr (l.k-1)
def Cz(l:Lay)(who d:Int):Int:=(wr (wr (who+1)+(wr (d.tmod (nK l)+nK l)).tmod (nK l))).tmod l.k
theorem ad2(w:Nat)(s:Sy)(l:Lay)(who ev jo:Int)(en:Bool)(does:Int)(nv:AV)(node:Int)(has:Bool)(nx out:List Int)(d:Int)(σ:Hp)(h1:nK l≠0)(h2:l.k≠0):ACalls Tryz.prog 393 [.ptr w 0,.int .i64 d] ((w,dR s l who ev jo en does nv node has nx out)::σ) (aE (.int .i64 (Cz l who d)) ((w,dR s l who ev jo en does nv node has nx out)::σ)):=by
 refine az Tryz.func393 ?_
 refine aa 0 ?_
 refine .quiet (by kernel_rfl) ?_
 refine aa 0 ?_
 refine aI.mk h1 ?_
 refine aI.mk h1 ?_
 refine aa 0 ?_
 refine aI.mk h2 ?_
 exact .done ⟨rfl,rfl⟩
def o7(l:Lay)(n:Int):Int:=if wu l.n≤n then 0 else wr n
def qT(l:Lay)(n:Int):Int:=if wu l.n≤n then 8 else 3
theorem VJ(w:Nat)(s:Sy)(l:Lay)(who ev jo:Int)(en:Bool)(does:Int)(nv:AV)(node:Int)(has:Bool)(nx out:List Int)(n:Int)(σ:Hp):ACalls Tryz.prog 394 [.ptr w 0,.int .u64 n] ((w,dR s l who ev jo en does nv node has nx out)::σ) (aE (.int .i64 (qT l n)) ((w,dR s l who ev jo en does nv (o7 l n) true nx out)::σ)):=by
 refine az Tryz.func394 ?_
 refine ai 0 ?_
 refine ai 0 ?_
 refine aa 0 ?_
 refine aq (fun c1=>?_) (fun c1=>?_)
 ·have c1:IntKind.u64.wrap l.n≤n:=c1
  exact .done ⟨aV (ah c1).symm,congrArg (fun z=>(w,dR s l who ev jo en does nv z true nx out)::σ) (show _=o7 l n from (ah c1).symm)⟩
 ·have c1:¬(IntKind.u64.wrap l.n≤n):=c1
  refine ai 0 ?_
  exact .done ⟨aV (ag c1).symm,congrArg (fun z=>(w,dR s l who ev jo en does nv z true nx out)::σ) (show _=o7 l n from (ag c1).symm)⟩
def qQ(l:Lay):Int:=if l.k<2 then 2 else 1
theorem aeB(w:Nat)(s:Sy)(l:Lay)(who ev jo:Int)(en:Bool)(does:Int)(nv:AV)(node:Int)(has:Bool)(nx out:List Int)(σ:Hp):ACalls Tryz.prog 395 [.ptr w 0] ((w,dR s l who ev jo en does nv node has nx out)::σ) (aE (.int .i64 (qQ l)) ((w,dR s l who ev jo en does nv node has nx out)::σ)):=by
 refine az Tryz.func395 ?_
 refine eK [] (LV w s l who ev jo en does nv node has nx out _) (fun c=>?_) (fun c=>?_)
 ·exact .done ⟨aV (ah (fA c)).symm,rfl⟩
 ·exact .done ⟨aV (ag (pO c)).symm,rfl⟩
def kv(nx:List Int):Int:=if nx.tail.length=0 then 8 else 5
theorem Lw(w:Nat)(s:Sy)(l:Lay)(who ev jo:Int)(en:Bool)(does:Int)(nv:AV)(node:Int)(has:Bool)(nx out:List Int)(σ:Hp)(hx:0<nx.length):ACalls Tryz.prog 398 [.ptr w 0] ((w,dR s l who ev jo en does nv node has nx out)::σ) (aE (.int .i64 (kv nx)) ((w,dR s l who ev jo en does nv node has nx.tail out)::σ)):=by
 refine az Tryz.func398 ?_
 cases nx with
 |nil=>simp at hx
 |cons z nx=>
  refine aa 0 ?_
  refine aI.mk ⟨by decide,Int.ofNat_le.2 (Nat.succ_le_succ (bD _)),kq _,rfl⟩ ?_
  have e:((z::nx).drop ((1:Int)).toNat).take ((((z::nx).length:Nat):Int).toNat-((1:Int)).toNat)=nx:=by simp
  refine ai 0 ?_
  refine aa 0 ?_
  refine aq (fun c1=>?_) (fun c1=>?_)
  ·have c1:(↑(List.take ((↑(z::nx).length:Int).toNat-Int.toNat 1) (List.drop (Int.toNat 1) (z::nx))).length:Int)=0:=c1
   have c2:(nx.length:Int)=0:=(congrArg (fun z:List Int=>(z.length:Int)) e).symm.trans c1
   exact .done ⟨aV (ah (show nx.length=0 by omega)).symm,congrArg (fun z=>(w,dR s l who ev jo en does nv node has z out)::σ) e⟩
  ·have c1:¬((↑(List.take ((↑(z::nx).length:Int).toNat-Int.toNat 1) (List.drop (Int.toNat 1) (z::nx))).length:Int)=0):=c1
   have c2:¬(nx.length:Int)=0:=fun h=>c1 ((congrArg (fun z:List Int=>(z.length:Int)) e).trans h)
   exact .done ⟨aV (ag (show ¬nx.length=0 by omega)).symm,congrArg (fun z=>(w,dR s l who ev jo en does nv node has z out)::σ) e⟩
def uD(s:Sy)(node:Int):Int:=if (ar s.n s.aW node).length=0 then 8 else 5
theorem aeu(w:Nat)(s:Sy)(l:Lay)(who ev jo:Int)(en:Bool)(does:Int)(nv:AV)(node:Int)(has:Bool)(nx out x:List Int)(σ:Hp)(hf:Fit s)(hx:bc x)(lx:x.length≤10000):ACalls Tryz.prog 397 [.ptr w 0,.af (.int .u64) x] ((w,dR s l who ev jo en does nv node has nx out)::σ) (aE (.int .i64 (uD s node)) ((w,dR s l who (wr (ev+1)) jo en does nv node has (ar s.n s.aW node) (sk (pv s node x) (iF s x node.toNat)))::σ)):=by
 refine az Tryz.func397 ?_
 refine aa 0 ?_
 refine ai 0 ?_
 refine .sched [10] (upto [10] 17 0) (by kernel_rfl) ?_
 refine aa 0 ?_
 refine aa 0 ?_
 refine aL [] (ad6 s node x _ hf hx lx) ?_
 refine ai 0 ?_
 refine .sched [15] (upto [15] 19 0) (by kernel_rfl) ?_
 refine aa 0 ?_
 refine aa 0 ?_
 refine aa 0 ?_
 refine aL [] (AL s.n s.aW node _ hf.DW) ?_
 refine ai 0 ?_
 refine aa 0 ?_
 refine aq (fun c1=>?_) (fun c1=>?_)
 ·have c1:(↑(ar s.n s.aW node).length:Int)=0:=c1
  exact .done ⟨aV (ah (show (ar s.n s.aW node).length=0 by omega)).symm,rfl⟩
 ·have c1:¬((↑(ar s.n s.aW node).length:Int)=0):=c1
  exact .done ⟨aV (ag (show ¬(ar s.n s.aW node).length=0 by omega)).symm,rfl⟩
def IA(r:Nat):Nw→AV
 |.none=>.nilif
 |.pop _=>.iface 399 (.ptr r 0)
 |.cu _=>.iface 404 (.ptr r 0)
 |.quiet _=>.iface 406 (.ptr r 0)
 |.clear _=>.iface 409 (.ptr r 0)
 |.read _=>.iface 412 (.ptr r 0)
 |.join _=>.iface 417 (.ptr r 0)
 |.take _=>.iface 420 (.ptr r 0)
 |.push _=>.iface 425 (.ptr r 0)
 |.dU _=>.iface 427 (.ptr r 0)
def IB(l:Lay)(node:Int)(r:Nat)(c:AV)(acc:Hp):Nw→Hp
 |.none=>[]
 |.pop q=>[(r,l0 q)]
 |.cu q=>[(r,l0 q)]
 |.quiet t=>[(r,Eb t)]
 |.clear t=>[(r,Fg t)]
 |.read x=>(r,kj c (aX l node) l.what l.words false x.length false 0)::acc
 |.join j=>[(r,zb j)]
 |.take t=>[(r,y6 t)]
 |.push q=>[(r,l0 q)]
 |.dU t=>[(r,D9 t)]
def ua(base cap n:Int):DQ:=⟨base,cap,n,false,false,0,0,0,0⟩
def iT(l:Lay)(who does node:Int)(nx out:List Int)(d:Int):Nw:=
 if does=0 then .pop (ua (iY l who) (eg l) 0)
 else if does=1 then .cu (ua (iY l (Cz l who d)) (eg l) 0)
 else if does=2 then .quiet ⟨cX l,du l,false,false⟩
 else if does=3 then .clear ⟨cX l,du l,node,false⟩
 else if does=4 then .read []
 else if does=5 then .join ⟨aX l (nx.headD 0),l.what,l.words,out,false,false,0,0,false,0⟩
 else if does=6 then .take ⟨cX l,du l,nx.headD 0,false,false,false⟩
 else if does=7 then .push (ua (iY l who) (eg l) (wu (nx.headD 0)))
 else .dU ⟨cX l,du l,0,false⟩
theorem Io{l:Lay}{who does node d:Int}{nx out:List Int}(h:does=0):iT l who does node nx out d=.pop (ua (iY l who) (eg l) 0):=by subst h;rfl
theorem Im{l:Lay}{who does node d:Int}{nx out:List Int}(h:does=1):iT l who does node nx out d=.cu (ua (iY l (Cz l who d)) (eg l) 0):=by subst h;rfl
theorem Il{l:Lay}{who does node d:Int}{nx out:List Int}(h:does=2):iT l who does node nx out d=.quiet ⟨cX l,du l,false,false⟩:=by subst h;rfl
theorem Ik{l:Lay}{who does node d:Int}{nx out:List Int}(h:does=3):iT l who does node nx out d=.clear ⟨cX l,du l,node,false⟩:=by subst h;rfl
theorem Ij{l:Lay}{who does node d:Int}{nx out:List Int}(h:does=4):iT l who does node nx out d=.read []:=by subst h;rfl
theorem Ii{l:Lay}{who does node d:Int}{nx out:List Int}(h:does=5):iT l who does node nx out d=.join ⟨aX l (nx.headD 0),l.what,l.words,out,false,false,0,0,false,0⟩:=by subst h;rfl
theorem Ih{l:Lay}{who does node d:Int}{nx out:List Int}(h:does=6):iT l who does node nx out d=.take ⟨cX l,du l,nx.headD 0,false,false,false⟩:=by subst h;rfl
theorem Ig{l:Lay}{who does node d:Int}{nx out:List Int}(h:does=7):iT l who does node nx out d=.push (ua (iY l who) (eg l) (wu (nx.headD 0))):=by subst h;rfl
theorem Ie{l:Lay}{who does node d:Int}{nx out:List Int}(h0:¬does=0)(h1:¬does=1)(h2:¬does=2)(h3:¬does=3)(h4:¬does=4)(h5:¬does=5)(h6:¬does=6)(h7:¬does=7):iT l who does node nx out d=.dU ⟨cX l,du l,0,false⟩:=by
 unfold iT;rw[ag h0,ag h1,ag h2,ag h3,ag h4,ag h5,ag h6,ag h7]
theorem Kr{nx:List Int}(h:0<nx.length):nx[((0:Int)).toNat]?=some (nx.headD 0):=by
 cases nx with
 |nil=>simp at h
 |cons z nx=>rfl
theorem aeN(w:Nat)(s:Sy)(l:Lay)(who ev jo:Int)(en:Bool)(does:Int)(nv:AV)(node:Int)(has:Bool)(nx out:List Int)(d:Int)(σ:Hp)(hx:does=5∨does=6∨does=7→0<nx.length)(h1:does=1→nK l≠0∧l.k≠0):ACalls Tryz.prog 391 [.ptr w 0,.int .i64 d] ((w,dR s l who ev jo en does nv node has nx out)::σ) (fun x σ'=>∃r,x=IA r (iT l who does node nx out d)∧σ'=IB l node r .aj [] (iT l who does node nx out d)++((w,dR s l who ev jo en does nv node has nx out)::σ)):=by
 refine az Tryz.func391 ?_
 refine aa 0 ?_
 refine ay [] (Lv l _) ?_
 intro aG
 refine ai 0 ?_
 refine aa 1 ?_
 refine aq (fun c2=>?_) (fun c2=>?_)
 ·have c2:does=0:=c2
  refine .sched [8] (upto [8] 13 0) (by kernel_rfl) ?_
  refine aa 1 ?_
  refine aa 1 ?_
  refine aL [] (CS l _ _) ?_
  intro sN
  exact .drop 1 1 (.done ⟨_,by rw[Io (by assumption)];rfl,by rw[Io (by assumption)];rfl⟩)
 ·have c2:¬(does=0):=c2
  refine aq (fun c4=>?_) (fun c4=>?_)
  ·have c4:does=1:=c4
   refine .sched [6,7] (upto [6,7] 12 0) (by kernel_rfl) ?_
   refine aa 1 ?_
   refine aL [1] (ad2 w s l who ev jo en does nv node has nx out d _ (h1 (by assumption)).1 (h1 (by assumption)).2) ?_
   refine aL [] (CS l _ _) ?_
   intro BM
   exact .drop 1 1 (.done ⟨_,by rw[Im (by assumption)];rfl,by rw[Im (by assumption)];rfl⟩)
  ·have c4:¬(does=1):=c4
   refine aq (fun c6=>?_) (fun c6=>?_)
   ·have c6:does=2:=c6
    refine aa 0 ?_
    intro bl7
    exact .drop 1 1 (.done ⟨_,by rw[Il (by assumption)];rfl,by rw[Il (by assumption)];rfl⟩)
   ·have c6:¬(does=2):=c6
    refine aq (fun c8=>?_) (fun c8=>?_)
    ·have c8:does=3:=c8
     refine .sched [] (upto [] 9 0) (by kernel_rfl) ?_
     refine aa 0 ?_
     refine aa 1 ?_
     intro bl9
     exact .drop 1 1 (.done ⟨_,by rw[Ik (by assumption)];rfl,by rw[Ik (by assumption)];rfl⟩)
    ·have c8:¬(does=3):=c8
     refine aq (fun j0=>?_) (fun j0=>?_)
     ·have j0:does=4:=j0
      refine .sched [8] (upto [8] 13 0) (by kernel_rfl) ?_
      refine aa 1 ?_
      refine aa 1 ?_
      refine aL [] (Hq l _ _) ?_
      intro bl11
      exact .drop 1 1 (.done ⟨_,by rw[Ij (by assumption)];rfl,by rw[Ij (by assumption)];rfl⟩)
     ·have j0:¬(does=4):=j0
      refine aq (fun vW=>?_) (fun vW=>?_)
      ·have vW:does=5:=vW
       refine .sched [10] (upto [10] 19 0) (by kernel_rfl) ?_
       refine aa 1 ?_
       refine aa 1 ?_
       refine aI.mk rfl ?_
       refine bL.mk (nx.headD 0) (by decide) (Kr (hx (by omega))) ?_
       refine aL [] (Hq l _ _) ?_
       refine aa 1 ?_
       intro bl13
       exact .drop 1 1 (.done ⟨_,by rw[Ii (by assumption)];rfl,by rw[Ii (by assumption)];rfl⟩)
      ·have vW:¬(does=5):=vW
       refine aq (fun sM=>?_) (fun sM=>?_)
       ·have sM:does=6:=sM
        refine .sched [] (upto [] 11 0) (by kernel_rfl) ?_
        refine aa 0 ?_
        refine aa 1 ?_
        refine aI.mk rfl ?_
        refine bL.mk (nx.headD 0) (by decide) (Kr (hx (by omega))) ?_
        intro bl15
        exact .drop 1 1 (.done ⟨_,by rw[Ih (by assumption)];rfl,by rw[Ih (by assumption)];rfl⟩)
       ·have sM:¬(does=6):=sM
        refine aq (fun vV=>?_) (fun vV=>?_)
        ·have vV:does=7:=vV
         refine .sched [8] (upto [8] 20 0) (by kernel_rfl) ?_
         refine aa 1 ?_
         refine aa 1 ?_
         refine aL [] (CS l _ _) ?_
         refine aa 1 ?_
         refine aI.mk rfl ?_
         refine bL.mk (nx.headD 0) (by decide) (Kr (hx (by omega))) ?_
         intro bl17
         exact .drop 1 1 (.done ⟨_,by rw[Ig (by assumption)];rfl,by rw[Ig (by assumption)];rfl⟩)
        ·have vV:¬(does=7):=vV
         refine aa 0 ?_
         intro bl18
         exact .drop 1 1 (.done ⟨_,by rw[Ie (by assumption) (by assumption) (by assumption) (by assumption) (by assumption) (by assumption) (by assumption) (by assumption)];rfl,by rw[Ie (by assumption) (by assumption) (by assumption) (by assumption) (by assumption) (by assumption) (by assumption) (by assumption)];rfl⟩)
theorem Sw(w r:Nat)(s:Sy)(l:Lay)(who ev jo:Int)(en:Bool)(does:Int)(node:Int)(has:Bool)(nx out:List Int)(base cap n:Int)(gq:Bool)(at_:Nat)(b t x:Int)(σ:Hp):ACalls Tryz.prog 392 [.ptr w 0] ((w,dR s l who ev jo en does (.iface 399 (.ptr r 0)) node has nx out)::(r,l0 ⟨base,cap,n,true,gq,at_,b,t,x⟩)::σ) (aE (.int .i64 (qT l n)) ((w,dR s l who ev jo en does (.iface 399 (.ptr r 0)) (o7 l n) true nx out)::(r,l0 ⟨base,cap,n,true,gq,at_,b,t,x⟩)::σ)):=by
 refine az Tryz.func392 ?_
 refine aa 0 ?_
 refine aa 1 ?_
 refine aa 1 ?_
 refine ay [] (VJ w s l who ev jo en does (.iface 399 (.ptr r 0)) node has nx out n _) ?_
 exact .done ⟨rfl,rfl⟩
theorem Sx(w r:Nat)(s:Sy)(l:Lay)(who ev jo:Int)(en:Bool)(does:Int)(node:Int)(has:Bool)(nx out:List Int)(base cap n:Int)(gq:Bool)(at_:Nat)(b t x:Int)(σ:Hp):ACalls Tryz.prog 392 [.ptr w 0] ((w,dR s l who ev jo en does (.iface 399 (.ptr r 0)) node has nx out)::(r,l0 ⟨base,cap,n,false,gq,at_,b,t,x⟩)::σ) (aE (.int .i64 (qQ l)) ((w,dR s l who ev jo en does (.iface 399 (.ptr r 0)) node has nx out)::(r,l0 ⟨base,cap,n,false,gq,at_,b,t,x⟩)::σ)):=by
 refine az Tryz.func392 ?_
 refine aa 0 ?_
 refine aa 1 ?_
 refine ay [] (aeB w s l who ev jo en does (.iface 399 (.ptr r 0)) node has nx out _) ?_
 exact .done ⟨rfl,rfl⟩
theorem Qd(w r:Nat)(s:Sy)(l:Lay)(who ev jo:Int)(en:Bool)(does:Int)(node:Int)(has:Bool)(nx out:List Int)(base cap n:Int)(gq:Bool)(at_:Nat)(b t x:Int)(σ:Hp):ACalls Tryz.prog 392 [.ptr w 0] ((w,dR s l who ev jo en does (.iface 404 (.ptr r 0)) node has nx out)::(r,l0 ⟨base,cap,n,true,gq,at_,b,t,x⟩)::σ) (aE (.int .i64 (qT l n)) ((w,dR s l who ev jo en does (.iface 404 (.ptr r 0)) (o7 l n) true nx out)::(r,l0 ⟨base,cap,n,true,gq,at_,b,t,x⟩)::σ)):=by
 refine az Tryz.func392 ?_
 refine aa 0 ?_
 refine aa 1 ?_
 refine aa 1 ?_
 refine ay [] (VJ w s l who ev jo en does (.iface 404 (.ptr r 0)) node has nx out n _) ?_
 exact .done ⟨rfl,rfl⟩
theorem Qe(w r:Nat)(s:Sy)(l:Lay)(who ev jo:Int)(en:Bool)(does:Int)(node:Int)(has:Bool)(nx out:List Int)(base cap n:Int)(gq:Bool)(at_:Nat)(b t x:Int)(σ:Hp):ACalls Tryz.prog 392 [.ptr w 0] ((w,dR s l who ev jo en does (.iface 404 (.ptr r 0)) node has nx out)::(r,l0 ⟨base,cap,n,false,gq,at_,b,t,x⟩)::σ) (aE (.int .i64 2) ((w,dR s l who ev jo en does (.iface 404 (.ptr r 0)) node has nx out)::(r,l0 ⟨base,cap,n,false,gq,at_,b,t,x⟩)::σ)):=by
 refine az Tryz.func392 ?_
 refine aa 0 ?_
 refine aa 1 ?_
 exact .done ⟨rfl,rfl⟩
def um(l:Lay):Int:=if l.k<2 then 0 else 1
theorem Gd(w r:Nat)(s:Sy)(l:Lay)(who ev jo:Int)(en:Bool)(does:Int)(node:Int)(has:Bool)(nx out:List Int)(f c0:Int)(is gq:Bool)(σ:Hp):ACalls Tryz.prog 392 [.ptr w 0] ((w,dR s l who ev jo en does (.iface 406 (.ptr r 0)) node has nx out)::(r,Eb ⟨f,c0,is,gq⟩)::σ) (aE (.int .i64 (um l)) ((w,dR s l who ev jo is does (.iface 406 (.ptr r 0)) node has nx out)::(r,Eb ⟨f,c0,is,gq⟩)::σ)):=by
 refine az Tryz.func392 ?_
 cases is with
 |true=>
  refine aa 0 ?_
  refine aa 1 ?_
  refine ai 0 ?_
  refine eK [] (LV w s l who ev jo true does (.iface 406 (.ptr r 0)) node has nx out _) (fun c=>?_) (fun c=>?_)
  ·exact .done ⟨aV (ah (fA (by assumption))).symm,by subst_vars;rfl⟩
  ·exact .done ⟨aV (ag (pO (by assumption))).symm,by subst_vars;rfl⟩
 |false=>
  refine aa 0 ?_
  refine aa 1 ?_
  refine ai 0 ?_
  refine eK [] (LV w s l who ev jo false does (.iface 406 (.ptr r 0)) node has nx out _) (fun c=>?_) (fun c=>?_)
  ·exact .done ⟨aV (ah (fA (by assumption))).symm,by subst_vars;rfl⟩
  ·exact .done ⟨aV (ag (pO (by assumption))).symm,by subst_vars;rfl⟩
theorem Rm(w r:Nat)(s:Sy)(l:Lay)(who ev jo:Int)(en:Bool)(does:Int)(node:Int)(has:Bool)(nx out:List Int)(f c0 v:Int)(gq:Bool)(σ:Hp):ACalls Tryz.prog 392 [.ptr w 0] ((w,dR s l who ev jo en does (.iface 409 (.ptr r 0)) node has nx out)::(r,Fg ⟨f,c0,v,gq⟩)::σ) (aE (.int .i64 4) ((w,dR s l who ev jo en does (.iface 409 (.ptr r 0)) node has nx out)::(r,Fg ⟨f,c0,v,gq⟩)::σ)):=by
 refine az Tryz.func392 ?_
 refine aa 0 ?_
 exact .done ⟨rfl,rfl⟩
theorem Gw(w r:Nat)(s:Sy)(l:Lay)(who ev jo:Int)(en:Bool)(does:Int)(node:Int)(has:Bool)(nx out:List Int)(x:List Int)(base what words:Int)(gq:Bool)(at_:Nat)(ld:Bool)(z:Int)(σ:Hp)(hf:Fit s)(hx:bc x)(lx:x.length≤10000):ACalls Tryz.prog 392 [.ptr w 0] ((w,dR s l who ev jo en does (.iface 412 (.ptr r 0)) node has nx out)::(r,kj (.af (.int .u64) x) base what words gq at_ ld z)::σ) (aE (.int .i64 (uD s node)) ((w,dR s l who (wr (ev+1)) jo en does (.iface 412 (.ptr r 0)) node has (ar s.n s.aW node) (sk (pv s node x) (iF s x node.toNat)))::(r,kj (.af (.int .u64) x) base what words gq at_ ld z)::σ)):=by
 refine az Tryz.func392 ?_
 refine aa 0 ?_
 refine aa 1 ?_
 refine ay [] (aeu w s l who ev jo en does (.iface 412 (.ptr r 0)) node has nx out x _ hf hx lx) ?_
 exact .done ⟨rfl,rfl⟩
theorem Rj(w r:Nat)(s:Sy)(l:Lay)(who ev jo:Int)(en:Bool)(does:Int)(node:Int)(has:Bool)(nx out:List Int)(base what words:Int)(a:List Int)(gq:Bool)(tr:Int)(at_:Nat)(ld:Bool)(x:Int)(σ:Hp):ACalls Tryz.prog 392 [.ptr w 0] ((w,dR s l who ev jo en does (.iface 417 (.ptr r 0)) node has nx out)::(r,zb ⟨base,what,words,a,true,gq,tr,at_,ld,x⟩)::σ) (aE (.int .i64 6) ((w,dR s l who ev (wr (jo+1)) en does (.iface 417 (.ptr r 0)) node has nx out)::(r,zb ⟨base,what,words,a,true,gq,tr,at_,ld,x⟩)::σ)):=by
 refine az Tryz.func392 ?_
 refine aa 0 ?_
 refine aa 1 ?_
 refine aa 0 ?_
 refine ai 0 ?_
 exact .done ⟨rfl,rfl⟩
theorem Rl(w r:Nat)(s:Sy)(l:Lay)(who ev jo:Int)(en:Bool)(does:Int)(node:Int)(has:Bool)(nx out:List Int)(base what words:Int)(a:List Int)(gq:Bool)(tr:Int)(at_:Nat)(ld:Bool)(x:Int)(σ:Hp)(hx:0<nx.length):ACalls Tryz.prog 392 [.ptr w 0] ((w,dR s l who ev jo en does (.iface 417 (.ptr r 0)) node has nx out)::(r,zb ⟨base,what,words,a,false,gq,tr,at_,ld,x⟩)::σ) (aE (.int .i64 (kv nx)) ((w,dR s l who ev jo en does (.iface 417 (.ptr r 0)) node has nx.tail out)::(r,zb ⟨base,what,words,a,false,gq,tr,at_,ld,x⟩)::σ)):=by
 refine az Tryz.func392 ?_
 refine aa 0 ?_
 refine aa 1 ?_
 refine ay [] (Lw w s l who ev jo en does (.iface 417 (.ptr r 0)) node has nx out _ hx) ?_
 exact .done ⟨rfl,rfl⟩
theorem Rh(w r:Nat)(s:Sy)(l:Lay)(who ev jo:Int)(en:Bool)(does:Int)(node:Int)(has:Bool)(nx out:List Int)(f c0 v:Int)(gq jZ:Bool)(σ:Hp):ACalls Tryz.prog 392 [.ptr w 0] ((w,dR s l who ev jo en does (.iface 420 (.ptr r 0)) node has nx out)::(r,y6 ⟨f,c0,v,true,gq,jZ⟩)::σ) (aE (.int .i64 7) ((w,dR s l who ev jo en does (.iface 420 (.ptr r 0)) node has nx out)::(r,y6 ⟨f,c0,v,true,gq,jZ⟩)::σ)):=by
 refine az Tryz.func392 ?_
 refine aa 0 ?_
 refine aa 1 ?_
 exact .done ⟨rfl,rfl⟩
theorem Ri(w r:Nat)(s:Sy)(l:Lay)(who ev jo:Int)(en:Bool)(does:Int)(node:Int)(has:Bool)(nx out:List Int)(f c0 v:Int)(gq jZ:Bool)(σ:Hp)(hx:0<nx.length):ACalls Tryz.prog 392 [.ptr w 0] ((w,dR s l who ev jo en does (.iface 420 (.ptr r 0)) node has nx out)::(r,y6 ⟨f,c0,v,false,gq,jZ⟩)::σ) (aE (.int .i64 (kv nx)) ((w,dR s l who ev jo en does (.iface 420 (.ptr r 0)) node has nx.tail out)::(r,y6 ⟨f,c0,v,false,gq,jZ⟩)::σ)):=by
 refine az Tryz.func392 ?_
 refine aa 0 ?_
 refine aa 1 ?_
 refine ay [] (Lw w s l who ev jo en does (.iface 420 (.ptr r 0)) node has nx out _ hx) ?_
 exact .done ⟨rfl,rfl⟩
theorem Sv(w r:Nat)(s:Sy)(l:Lay)(who ev jo:Int)(en:Bool)(does:Int)(node:Int)(has:Bool)(nx out:List Int)(q:DQ)(σ:Hp)(hx:0<nx.length):ACalls Tryz.prog 392 [.ptr w 0] ((w,dR s l who ev jo en does (.iface 425 (.ptr r 0)) node has nx out)::(r,l0 q)::σ) (aE (.int .i64 (kv nx)) ((w,dR s l who ev jo en does (.iface 425 (.ptr r 0)) node has nx.tail out)::(r,l0 q)::σ)):=by
 refine az Tryz.func392 ?_
 refine aa 0 ?_
 refine ay [] (Lw w s l who ev jo en does (.iface 425 (.ptr r 0)) node has nx out _ hx) ?_
 exact .done ⟨rfl,rfl⟩
theorem Qf(w r:Nat)(s:Sy)(l:Lay)(who ev jo:Int)(en:Bool)(does:Int)(node:Int)(has:Bool)(nx out:List Int)(t:Rk)(σ:Hp):ACalls Tryz.prog 392 [.ptr w 0] ((w,dR s l who ev jo en does (.iface 427 (.ptr r 0)) node has nx out)::(r,D9 t)::σ) (aE (.int .i64 0) ((w,dR s l who ev jo en does (.iface 427 (.ptr r 0)) node false nx out)::(r,D9 t)::σ)):=by
 refine az Tryz.func392 ?_
 refine aa 0 ?_
 refine ai 0 ?_
 exact .done ⟨rfl,rfl⟩
set_option maxHeartbeats 4000000
theorem adf(M:AMem)(r:Nat)(m:M.S)(base what words x:Int)(at_:Nat)(fu:Bool)(l:List Int)(c:AV)(acc:Hp)(d:Int)(σ:Hp)(hf:M.O.free (M.abs m))(cx:at_<cw words)(hv:kN c acc l)(hl:l.length≤2000):
  ACalls Tryz.prog 406 [.ptr r 0,M.v,.int .i64 d] ((r,kj c base what words false at_ fu x)::(acc++(M.B m++σ))) (fun z σ'=>∃m' c' aU,kN c' aU (l++[(M.O.ld (M.abs m) (wr (base+at_))).1])∧M.abs m'=(M.O.ld (M.abs m) (wr (base+at_))).2∧z=.bool (decide (at_+1=cw words))∧σ'=(r,kj c' base what words (decide (at_+1=cw words)) (at_+1) fu x)::(aU++(M.B m'++σ))):=by
 have hc:=AH words
 have hw:IntKind.i64.wrap ((at_:Int)+1)=((at_+1:Nat):Int):=by rw[IntKind.wrap_i64];omega
 have ab:decide ((at_:Int)<(cw words:Nat))=true:=bu (by omega)
 cases hv with
 |nil=>
  refine az Tryz.func406 ?_
  refine aa 0 ?_
  refine .quiet (by kernel_rfl) ?_
  refine aa 0 ?_
  refine aa 0 ?_
  refine aL [] (n0 _ _ _ _) ?_
  refine J7 ab ?_
  refine .sched [5,7] (upto [5,7] 28 0) (by kernel_rfl) ?_
  refine aa 0 ?_
  refine aL [] (ZE _) ?_
  refine aL [] (dK _ _ _) ?_
  refine aa 0 ?_
  refine aa 0 ?_
  refine fi.mk M.hL ?_
  refine M.aLoad [_] hf fun m' hm=>?_
  intro aG
  refine AppendAt.fresh 1 _ (.inl rfl) (.ae 0 _ 0 1 _ rfl (cD rfl)) (by decide) (by decide) (by decide) (fun _ bn=>?_) (fun h=>absurd h (by decide))
  refine ai 2 ?_
  refine aa 2 ?_
  refine ai 2 ?_
  refine .sched [10] (upto [10] 15 0) (by kernel_rfl) ?_
  refine aa 2 ?_
  refine aa 2 ?_
  refine aL [] (n0 _ _ _ _) ?_
  refine aq (fun c2=>?_) (fun c2=>?_)
  ·have c2:IntKind.i64.wrap ((↑at_:Int)+1)=(↑(cw words):Int):=c2
   refine ai 2 ?_
   refine aa 2 ?_
   exact .drop 1 1 ((.pull [1] (.done ⟨m',_,_,.ae bn [_],hm,by rw[bu (show at_+1=cw words by omega)];rfl,by unfold kj;rw[bu (show at_+1=cw words by omega),← hw];rfl⟩)))
  ·have c2:¬(IntKind.i64.wrap ((↑at_:Int)+1)=(↑(cw words):Int)):=c2
   refine ai 2 ?_
   refine aa 2 ?_
   exact .drop 1 1 ((.pull [1] (.done ⟨m',_,_,.ae bn [_],hm,by rw[bZ (show ¬at_+1=cw words by omega)];rfl,by unfold kj;rw[bZ (show ¬at_+1=cw words by omega),← hw];rfl⟩)))
 |ae b l=>
  have hlen:(aO l).length=l.length*1:=by simp[aO]
  refine az Tryz.func406 ?_
  refine aa 0 ?_
  refine .quiet (by kernel_rfl) ?_
  refine aa 0 ?_
  refine aa 0 ?_
  refine aL [] (n0 _ _ _ _) ?_
  refine J7 ab ?_
  refine .sched [7] (.one 0 false (.one 1 false (.one 2 false (.one 3 false (.one 4 false (.one 6 false (.one 8 false (.one 9 false (.one 10 false (.one 11 false (.one 13 false (.one 14 false (.one 15 false (.one 16 false (.alt 5 (.one 7 true (.one 12 false (.one 17 false (.one 18 false (.one 19 false (.one 20 false (.one 21 false (.one 22 false (.one 23 false (.one 24 false (.one 25 false (.one 26 false (.one 27 false .stop))))))))))))) (.alt 12 (.alt 5 (.one 7 true (.one 17 false (.one 18 false (.one 19 false (.one 20 false (.one 21 false (.one 22 false (.one 23 false (.one 24 false (.one 25 false (.one 26 false (.one 27 false .stop)))))))))))) (.one 17 false (.one 18 false (.one 5 false (.one 7 true (.one 19 false (.one 20 false (.one 21 false (.one 22 false (.one 23 false (.one 24 false (.one 25 false (.one 26 false (.one 27 false .stop)))))))))))))) (.one 17 false (.alt 5 (.one 7 true (.one 12 false (.one 18 false (.one 19 false (.one 20 false (.one 21 false (.one 22 false (.one 23 false (.one 24 false (.one 25 false (.one 26 false (.one 27 false .stop)))))))))))) (.one 12 false (.one 18 false (.one 5 false (.one 7 true (.one 19 false (.one 20 false (.one 21 false (.one 22 false (.one 23 false (.one 24 false (.one 25 false (.one 26 false (.one 27 false .stop))))))))))))))))))))))))))))))) (by kernel_rfl) ?_
  refine aa 0 ?_
  refine And.intro ?_ ?_
  ·(refine .mk [] _ (Ch b l.length (aO l) _ (cW _ (ck ..)) hlen (by omega)) ?_;rintro _ _ ⟨b',rfl,rfl⟩)
   refine aL [] (dK _ _ _) ?_
   refine aa 1 ?_
   refine aa 1 ?_
   refine fi.mk M.hL ?_
   refine M.aLoad [_,_,_] hf fun m' hm=>?_
   intro aG
   refine AppendAt.more 1 b' l.length 1 (aO l) _ rfl rfl (by show l.length*1≤(aO l).length;omega) (.ae 0 _ 0 1 _ rfl (cD rfl)) (by omega) (by decide) (by decide) (fun bn=>?_)
   refine ai 2 ?_
   refine aa 2 ?_
   refine ai 2 ?_
   refine .sched [10] (upto [10] 15 0) (by kernel_rfl) ?_
   refine aa 2 ?_
   refine aa 2 ?_
   refine aL [] (n0 _ _ _ _) ?_
   refine aq (fun c2=>?_) (fun c2=>?_)
   ·have c2:IntKind.i64.wrap ((↑at_:Int)+1)=(↑(cw words):Int):=c2
    refine ai 2 ?_
    refine aa 2 ?_
    exact .drop 1 1 (.drop 2 1 ((.pull [1] (.done ⟨m',_,_,kN.push bn l _,hm,by rw[bu (show at_+1=cw words by omega)];rfl,by unfold kj;rw[bu (show at_+1=cw words by omega),← hw];rfl⟩))))
   ·have c2:¬(IntKind.i64.wrap ((↑at_:Int)+1)=(↑(cw words):Int)):=c2
    refine ai 2 ?_
    refine aa 2 ?_
    exact .drop 1 1 (.drop 2 1 ((.pull [1] (.done ⟨m',_,_,kN.push bn l _,hm,by rw[bZ (show ¬at_+1=cw words by omega)];rfl,by unfold kj;rw[bZ (show ¬at_+1=cw words by omega),← hw];rfl⟩))))
  ·refine And.intro ?_ ?_
   ·refine aa 0 ?_
    refine And.intro ?_ ?_
    ·(refine .mk [] _ (Ch b l.length (aO l) _ (cW _ (ck ..)) hlen (by omega)) ?_;rintro _ _ ⟨b',rfl,rfl⟩)
     refine aL [] (dK _ _ _) ?_
     refine aa 1 ?_
     refine fi.mk M.hL ?_
     refine M.aLoad [_,_,_] hf fun m' hm=>?_
     intro sN
     refine AppendAt.more 1 b' l.length 1 (aO l) _ rfl rfl (by show l.length*1≤(aO l).length;omega) (.ae 0 _ 0 1 _ rfl (cD rfl)) (by omega) (by decide) (by decide) (fun bn=>?_)
     refine ai 2 ?_
     refine aa 2 ?_
     refine ai 2 ?_
     refine .sched [10] (upto [10] 15 0) (by kernel_rfl) ?_
     refine aa 2 ?_
     refine aa 2 ?_
     refine aL [] (n0 _ _ _ _) ?_
     refine aq (fun c4=>?_) (fun c4=>?_)
     ·have c4:IntKind.i64.wrap ((↑at_:Int)+1)=(↑(cw words):Int):=c4
      refine ai 2 ?_
      refine aa 2 ?_
      exact .drop 1 1 (.drop 2 1 ((.pull [1] (.done ⟨m',_,_,kN.push bn l _,hm,by rw[bu (show at_+1=cw words by omega)];rfl,by unfold kj;rw[bu (show at_+1=cw words by omega),← hw];rfl⟩))))
     ·have c4:¬(IntKind.i64.wrap ((↑at_:Int)+1)=(↑(cw words):Int)):=c4
      refine ai 2 ?_
      refine aa 2 ?_
      exact .drop 1 1 (.drop 2 1 ((.pull [1] (.done ⟨m',_,_,kN.push bn l _,hm,by rw[bZ (show ¬at_+1=cw words by omega)];rfl,by unfold kj;rw[bZ (show ¬at_+1=cw words by omega),← hw];rfl⟩))))
    ·refine aa 0 ?_
     (refine .mk [] _ (Ch b l.length (aO l) _ (cW _ (ck ..)) hlen (by omega)) ?_;rintro _ _ ⟨b',rfl,rfl⟩)
     refine aL [] (dK _ _ _) ?_
     refine fi.mk M.hL ?_
     refine M.aLoad [_,_,_] hf fun m' hm=>?_
     intro BM
     refine AppendAt.more 1 b' l.length 1 (aO l) _ rfl rfl (by show l.length*1≤(aO l).length;omega) (.ae 0 _ 0 1 _ rfl (cD rfl)) (by omega) (by decide) (by decide) (fun bn=>?_)
     refine ai 2 ?_
     refine aa 2 ?_
     refine ai 2 ?_
     refine .sched [10] (upto [10] 15 0) (by kernel_rfl) ?_
     refine aa 2 ?_
     refine aa 2 ?_
     refine aL [] (n0 _ _ _ _) ?_
     refine aq (fun c6=>?_) (fun c6=>?_)
     ·have c6:IntKind.i64.wrap ((↑at_:Int)+1)=(↑(cw words):Int):=c6
      refine ai 2 ?_
      refine aa 2 ?_
      exact .drop 1 1 (.drop 2 1 ((.pull [1] (.done ⟨m',_,_,kN.push bn l _,hm,by rw[bu (show at_+1=cw words by omega)];rfl,by unfold kj;rw[bu (show at_+1=cw words by omega),← hw];rfl⟩))))
     ·have c6:¬(IntKind.i64.wrap ((↑at_:Int)+1)=(↑(cw words):Int)):=c6
      refine ai 2 ?_
      refine aa 2 ?_
      exact .drop 1 1 (.drop 2 1 ((.pull [1] (.done ⟨m',_,_,kN.push bn l _,hm,by rw[bZ (show ¬at_+1=cw words by omega)];rfl,by unfold kj;rw[bZ (show ¬at_+1=cw words by omega),← hw];rfl⟩))))
   ·refine aa 0 ?_
    refine And.intro ?_ ?_
    ·(refine .mk [] _ (Ch b l.length (aO l) _ (cW _ (ck ..)) hlen (by omega)) ?_;rintro _ _ ⟨b',rfl,rfl⟩)
     refine aL [] (dK _ _ _) ?_
     refine aa 1 ?_
     refine fi.mk M.hL ?_
     refine M.aLoad [_,_,_] hf fun m' hm=>?_
     intro bl7
     refine AppendAt.more 1 b' l.length 1 (aO l) _ rfl rfl (by show l.length*1≤(aO l).length;omega) (.ae 0 _ 0 1 _ rfl (cD rfl)) (by omega) (by decide) (by decide) (fun bn=>?_)
     refine ai 2 ?_
     refine aa 2 ?_
     refine ai 2 ?_
     refine .sched [10] (upto [10] 15 0) (by kernel_rfl) ?_
     refine aa 2 ?_
     refine aa 2 ?_
     refine aL [] (n0 _ _ _ _) ?_
     refine aq (fun c8=>?_) (fun c8=>?_)
     ·have c8:IntKind.i64.wrap ((↑at_:Int)+1)=(↑(cw words):Int):=c8
      refine ai 2 ?_
      refine aa 2 ?_
      exact .drop 1 1 (.drop 2 1 ((.pull [1] (.done ⟨m',_,_,kN.push bn l _,hm,by rw[bu (show at_+1=cw words by omega)];rfl,by unfold kj;rw[bu (show at_+1=cw words by omega),← hw];rfl⟩))))
     ·have c8:¬(IntKind.i64.wrap ((↑at_:Int)+1)=(↑(cw words):Int)):=c8
      refine ai 2 ?_
      refine aa 2 ?_
      exact .drop 1 1 (.drop 2 1 ((.pull [1] (.done ⟨m',_,_,kN.push bn l _,hm,by rw[bZ (show ¬at_+1=cw words by omega)];rfl,by unfold kj;rw[bZ (show ¬at_+1=cw words by omega),← hw];rfl⟩))))
    ·refine aa 0 ?_
     (refine .mk [] _ (Ch b l.length (aO l) _ (cW _ (ck ..)) hlen (by omega)) ?_;rintro _ _ ⟨b',rfl,rfl⟩)
     refine aL [] (dK _ _ _) ?_
     refine fi.mk M.hL ?_
     refine M.aLoad [_,_,_] hf fun m' hm=>?_
     intro bl9
     refine AppendAt.more 1 b' l.length 1 (aO l) _ rfl rfl (by show l.length*1≤(aO l).length;omega) (.ae 0 _ 0 1 _ rfl (cD rfl)) (by omega) (by decide) (by decide) (fun bn=>?_)
     refine ai 2 ?_
     refine aa 2 ?_
     refine ai 2 ?_
     refine .sched [10] (upto [10] 15 0) (by kernel_rfl) ?_
     refine aa 2 ?_
     refine aa 2 ?_
     refine aL [] (n0 _ _ _ _) ?_
     refine aq (fun j0=>?_) (fun j0=>?_)
     ·have j0:IntKind.i64.wrap ((↑at_:Int)+1)=(↑(cw words):Int):=j0
      refine ai 2 ?_
      refine aa 2 ?_
      exact .drop 1 1 (.drop 2 1 ((.pull [1] (.done ⟨m',_,_,kN.push bn l _,hm,by rw[bu (show at_+1=cw words by omega)];rfl,by unfold kj;rw[bu (show at_+1=cw words by omega),← hw];rfl⟩))))
     ·have j0:¬(IntKind.i64.wrap ((↑at_:Int)+1)=(↑(cw words):Int)):=j0
      refine ai 2 ?_
      refine aa 2 ?_
      exact .drop 1 1 (.drop 2 1 ((.pull [1] (.done ⟨m',_,_,kN.push bn l _,hm,by rw[bZ (show ¬at_+1=cw words by omega)];rfl,by unfold kj;rw[bZ (show ¬at_+1=cw words by omega),← hw];rfl⟩))))
theorem Tz(M:AMem)(r:Nat)(base what words x:Int)(fu:Bool)(c:AV)(d:Int)(σ:Hp)(cx:cw words=0):
  ACalls Tryz.prog 406 [.ptr r 0,M.v,.int .i64 d] ((r,kj c base what words false 0 fu x)::σ) (aE (.bool true) ((r,kj c base what words true 0 fu x)::σ)):=by
 have ab:decide ((0:Int)<(cw words:Nat))=false:=bZ (by omega)
 have heq:decide ((0:Int)=(cw words:Nat))=true:=bu (by omega)
 refine az Tryz.func406 ?_
 refine aa 0 ?_
 refine .quiet (by kernel_rfl) ?_
 refine aa 0 ?_
 refine aa 0 ?_
 refine aL [] (n0 _ _ _ _) ?_
 refine W8 ab ?_
 refine .sched [10] (upto [10] 15 0) (by kernel_rfl) ?_
 refine aa 0 ?_
 refine aa 0 ?_
 refine aL [] (n0 _ _ _ _) ?_
 refine J7 heq ?_
 refine ai 0 ?_
 refine aa 0 ?_
 exact .done ⟨rfl,rfl⟩
set_option maxHeartbeats 4000000
theorem wPop_ : Meth Tryz.prog 399 "Step" 401 := fun a w => by kernel_rfl
theorem wSteal_ : Meth Tryz.prog 404 "Step" 403 := fun a w => by kernel_rfl
theorem wPush_ : Meth Tryz.prog 425 "Step" 409 := fun a w => by kernel_rfl
theorem wQuiet_ : Meth Tryz.prog 406 "Step" 404 := fun a w => by kernel_rfl
theorem wClear_ : Meth Tryz.prog 409 "Step" 405 := fun a w => by kernel_rfl
theorem wTake_ : Meth Tryz.prog 420 "Step" 408 := fun a w => by kernel_rfl
theorem wRetire_ : Meth Tryz.prog 427 "Step" 410 := fun a w => by kernel_rfl
theorem wRead_ : Meth Tryz.prog 412 "Step" 406 := fun a w => by kernel_rfl
theorem wJoin_ : Meth Tryz.prog 417 "Step" 407 := fun a w => by kernel_rfl
theorem afh{M:AMem}{f:FuncId}{xs:List AV}{X:Type}{B:X→List AV}{r:Nat}{cs:List AV}{res:X×M.O.A×Bool}{m:M.S}(fr:Hp){σ:Hp}{K:AV→Hp→Prop}(h:∀σ,ACalls Tryz.prog f xs ((r,cs)::(M.B m++σ)) (qf M σ B r res))
  (k1:∀m',M.abs m'=res.2.1→res.2.2=true→K (.bool true) (fr++((r,B res.1)::(M.B m'++σ)))) (k2:∀m',M.abs m'=res.2.1→res.2.2=false→K (.bool false) (fr++((r,B res.1)::(M.B m'++σ)))):CallAt Tryz.prog f K xs (fr++((r,cs)::(M.B m++σ))):=by
 have hp:∀(c:List AV) (b:Hp),((r,c)::(b++(fr++σ))).Perm (fr++((r,c)::(b++σ))):=fun c b=>fC fr ((r,c)::b) σ
 refine .perm _ (hp cs (M.B m)) (h (fr++σ)) ?_
 rintro x σ' ⟨m',h1,rfl,rfl⟩
 refine⟨_,(hp (B res.1) (M.B m')).symm,?_⟩
 cases hb:res.2.2 with
 |true=>exact k1 m' h1 hb
 |false=>exact k2 m' h1 hb
def mB(O:kg)(l:Lay)(base:Int)(x:List Int)(a:O.A):List Int×O.A×Bool:=
 if x.length<cw l.words then (x++[(O.ld a (wr (base+(x.length:Nat)))).1],(O.ld a (wr (base+(x.length:Nat)))).2,decide (x.length+1=cw l.words)) else (x,a,true)
def gb(O:kg)(l:Lay)(node:Int):Nw→O.A→Nw×O.A×Bool
 |.none,a=>(.none,a,false)
 |.pop q,a=>(.pop (fp O q a).1,(fp O q a).2)
 |.cu q,a=>(.cu (gF O q a).1,(gF O q a).2)
 |.quiet t,a=>(.quiet (rQ O t a).1,(rQ O t a).2)
 |.clear t,a=>(.clear (rR O t a).1,(rR O t a).2)
 |.read x,a=>(.read (mB O l (aX l node) x a).1,(mB O l (aX l node) x a).2)
 |.join j,a=>(.join (iA O j a).1,(iA O j a).2)
 |.take t,a=>(.take (kT O t a).1,(kT O t a).2)
 |.push q,a=>(.push (gu O q a).1,(gu O q a).2)
 |.dU t,a=>(.dU (s5 O t a).1,(s5 O t a).2)
def ek(s:Sy)(l:Lay)(x:WS):Nw→WS
 |.none=>x
 |.pop q=>if q.ok=true then ⟨x.ev,x.jo,x.en,qT l q.n,.none,o7 l q.n,true,x.nx,x.out⟩ else ⟨x.ev,x.jo,x.en,qQ l,.none,x.node,x.has,x.nx,x.out⟩
 |.cu q=>if q.ok=true then ⟨x.ev,x.jo,x.en,qT l q.n,.none,o7 l q.n,true,x.nx,x.out⟩ else ⟨x.ev,x.jo,x.en,2,.none,x.node,x.has,x.nx,x.out⟩
 |.quiet t=>⟨x.ev,x.jo,t.is,um l,.none,x.node,x.has,x.nx,x.out⟩
 |.clear _=>⟨x.ev,x.jo,x.en,4,.none,x.node,x.has,x.nx,x.out⟩
 |.read y=>⟨wr (x.ev+1),x.jo,x.en,uD s x.node,.none,x.node,x.has,ar s.n s.aW x.node,sk (pv s x.node y) (iF s y x.node.toNat)⟩
 |.join j=>if j.changed=true then ⟨x.ev,wr (x.jo+1),x.en,6,.none,x.node,x.has,x.nx,x.out⟩ else ⟨x.ev,x.jo,x.en,kv x.nx,.none,x.node,x.has,x.nx.tail,x.out⟩
 |.take t=>if t.new=true then ⟨x.ev,x.jo,x.en,7,.none,x.node,x.has,x.nx,x.out⟩ else ⟨x.ev,x.jo,x.en,kv x.nx,.none,x.node,x.has,x.nx.tail,x.out⟩
 |.push _=>⟨x.ev,x.jo,x.en,kv x.nx,.none,x.node,x.has,x.nx.tail,x.out⟩
 |.dU _=>⟨x.ev,x.jo,x.en,0,.none,x.node,false,x.nx,x.out⟩
def ku(l:Lay)(who:Int)(x:WS)(d:Int):Nw:=match x.now with
 |.none=>iT l who x.does x.node x.nx x.out d
 |n=>n
def dC(O:kg)(s:Sy)(l:Lay)(who:Int)(x:WS)(d:Int)(a:O.A):WS×O.A×Bool:=
 if x.en=true then (x,a,true)
 else if (gb O l x.node (ku l who x d) a).2.2=true then (ek s l x (gb O l x.node (ku l who x d) a).1,(gb O l x.node (ku l who x d) a).2.1,(ek s l x (gb O l x.node (ku l who x d) a).1).en)
 else (⟨x.ev,x.jo,x.en,x.does,(gb O l x.node (ku l who x d) a).1,x.node,x.has,x.nx,x.out⟩,(gb O l x.node (ku l who x d) a).2.1,false)
def vv(l:Lay)(nx:List Int):Nw→Prop
 |.none=>True
 |.pop q=>q.at_≤5∧0≤q.b
 |.cu q=>q.at_≤3∧0≤q.t
 |.quiet _=>True
 |.clear _=>True
 |.read x=>(x.length<cw l.words∨(cw l.words=0∧x=[]))∧bc x
 |.join j=>j.at_≤1024∧0<nx.length
 |.take _=>0<nx.length
 |.push q=>(q.at_≤3∧0≤q.b)∧0<nx.length
 |.dU _=>True
def MB(l:Lay)(x:WS):Prop:=(x.does=5∨x.does=6∨x.does=7→0<x.nx.length)∧(x.does=1→nK l≠0∧l.k≠0)∧vv l x.nx x.now
def yN(c:AV)(acc:Hp):Nw→Prop
 |.read x=>kN c acc x∧(x=[]→c=.aj)
 |_=>True
def WB(s:Sy)(l:Lay)(who:Int)(w r:Nat)(c:AV)(acc:Hp)(x:WS):Hp:=(w,dR s l who x.ev x.jo x.en x.does (IA r x.now) x.node x.has x.nx x.out)::IB l x.node r c acc x.now
end Go.Proofs.YtnikdflhefijbaaGreat
