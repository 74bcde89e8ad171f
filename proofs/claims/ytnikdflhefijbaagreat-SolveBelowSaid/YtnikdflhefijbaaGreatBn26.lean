import Derived.Test.YtnikdflhefijbaaGreatBn12
namespace Go.Proofs.YtnikdflhefijbaaGreat
open Go.RowKit
set_option maxRecDepth 100000
set_option maxHeartbeats 4000000
def rm(n:Int):Nat:=(min (max n 1) 4096).toNat
theorem uH(n:Int):1≤rm n∧rm n≤4096:=by unfold rm;omega
theorem adr(n:Int):(if (4096:Int)<(if n<1 then 1 else n) then (4096:Int) else (if n<1 then 1 else n))=((rm n:Nat):Int):=by
 unfold rm
 by_cases h:n<1
 ·simp only[ai h];omega
 ·simp only[ah h];split <;> omega
theorem Mj(n:Int)(σ:Hp):ACalls Tryz.prog 154 [.int .i64 n] σ (aE (.int .i64 (rm n)) σ):=by
 refine ay Tryz.func154 ?_
 exact .done ⟨aQ (adr n),rfl⟩
def fI(base:Int):Int:=wr (base+1)
def lp(base cap i:Int):Int:=wr (wr (base+2)+wr (i % (rm cap:Int)))
theorem sW(b c:Int)(σ:Hp):ACalls Tryz.prog 111 [.agg [.int .i64 b,.int .i64 c]] σ (aE (.int .i64 (fI b)) σ):=by
 refine ay Tryz.func111 ?_
 intro aD
 refine aa 0 ?_
 exact .drop 0 1 (.done ⟨rfl,rfl⟩)
theorem LK(b c i:Int)(σ:Hp)(h0:0≤i):ACalls Tryz.prog 402 [.agg [.int .i64 b,.int .i64 c],.int .u64 i] σ (aE (.int .i64 (lp b c i)) σ):=by
 have hr:=uH c
 have e1:IntKind.u64.wrap (rm c:Int)=rm c:=by rw[IntKind.wrap_u64];omega
 have e2:i.tmod (IntKind.u64.wrap (rm c:Int))=i % (rm c:Int):=by rw[e1,sG h0]
 refine ay Tryz.func402 ?_
 intro aD
 refine .quiet (by kernel_rfl) ?_
 refine aa 0 ?_
 refine aa 0 ?_
 refine aH [] (Mj _ _) ?_
 refine ag.mk (by rw[e1];omega) ?_
 exact .drop 0 1 (.done ⟨aQ (by rw[e2];rfl),rfl⟩)
structure DQ where
 base:Int
 cap:Int
 n:Int
 ok:Bool
 ended:Bool
 at_:Nat
 b:Int
 t:Int
 x:Int
def lQ(q:DQ):List AV:=[.int .i64 q.base,.int .i64 q.cap,.int .u64 q.n,.bool q.ok,.bool q.ended,.int .i64 q.at_,.int .u64 q.b,.int .u64 q.t,.int .u64 q.x]
abbrev wu(n:Int):Int:=IntKind.u64.wrap n
def gj(O:j6)(q:DQ)(a:O.A):DQ×O.A×Bool:=
 if q.ended then (q,a,true)
 else if q.at_=0 then ({ q with at_:=q.at_+1,b:=(O.ld a (fI q.base)).1 },(O.ld a (fI q.base)).2,false)
 else if q.at_=1 then
  (if (rm q.cap:Int)≤wr (wu (q.b-(O.ld a q.base).1)) then ({ q with at_:=q.at_+1,t:=(O.ld a q.base).1,ended:=true },(O.ld a q.base).2,true)
  else ({ q with at_:=q.at_+1,t:=(O.ld a q.base).1 },(O.ld a q.base).2,false))
 else if q.at_=2 then ({ q with at_:=q.at_+1 },O.st a (lp q.base q.cap q.b) q.n,false)
 else ({ q with at_:=q.at_+1,ok:=true,ended:=true },O.st a (fI q.base) (wu (q.b+1)),true)
theorem kN{M:AMem}{σ:Hp}{X:Type}{B:X→List AV}{r:Nat}{res:X×M.O.A×Bool}{x:X}{a:M.O.A}{b:Bool}{m':M.S}{cs:List AV}(h:res=(x,a,b))(hm:M.abs m'=a)(hc:cs=B x):qa M σ B r res (.bool b) ((r,cs)::(M.B m'++σ)):=by
 subst hc
 exact jZ h hm
theorem U9(M:AMem)(r:Nat)(q:DQ)(m:M.S)(d:Int)(σ:Hp)(hf:M.O.free (M.abs m))(dR:q.at_≤1000)(hb:0≤q.b):ACalls Tryz.prog 409 [.ptr r 0,M.v,.int .i64 d] ((r,lQ q)::(M.B m++σ)) (qa M σ lQ r (gj M.O q (M.abs m))):=by
 have hw:IntKind.i64.wrap ((q.at_:Int)+1)=((q.at_+1:Nat):Int):=by rw[IntKind.wrap_i64];omega
 refine ay Tryz.func409 ?_
 refine fu.kv 0 _ _ rfl rfl (fun h0=>?_) (fun h0=>?_)
 ·exact .done (jZ (x:=q) (by simp[gj,h0]) rfl)
 refine az [] (du _ _ _) ?_
 refine aa 0 ?_
 refine ak 0 ?_
 refine aa 0 ?_
 refine an (fun c1=>?_) (fun c1=>?_)
 ·have c1:IntKind.i64.wrap ((↑q.at_:Int)+1)=1:=c1
  refine .sched [6] (upto [6] 15 0) (by kernel_rfl) ?_
  refine aa 0 ?_
  refine aH [] (sW _ _ _) ?_
  refine eS.mk M.hL ?_
  refine M.aLoad [_] hf fun m' hm=>?_
  refine ak 0 ?_
  exact .done (kN (x:= { q with at_:=q.at_+1,b:=(M.O.ld (M.abs m) (fI q.base)).1 }) (by simp[gj,h0,show q.at_=0 by omega]) hm (by rw[hw];rfl))
 ·have c1:¬(IntKind.i64.wrap ((↑q.at_:Int)+1)=1):=c1
  refine an (fun c2=>?_) (fun c2=>?_)
  ·have c2:IntKind.i64.wrap ((↑q.at_:Int)+1)=2:=c2
   refine .sched [] (upto [] 15 0) (by kernel_rfl) ?_
   refine aa 0 ?_
   refine eS.mk M.hL ?_
   refine M.aLoad [_] hf fun m' hm=>?_
   refine ak 0 ?_
   refine .quiet (by kernel_rfl) ?_
   refine aa 0 ?_
   refine aa 0 ?_
   refine aa 0 ?_
   refine aH [] (Mj _ _) ?_
   refine an (fun c3=>?_) (fun c3=>?_)
   ·have c3:(↑(rm q.cap):Int)≤IntKind.i64.wrap (IntKind.u64.wrap (q.b-(M.O.ld (M.abs m) q.base).fst)):=c3
    refine .fwd 1 ?_
    refine ak 0 ?_
    exact .done (kN (x:= { q with at_:=q.at_+1,t:=(M.O.ld (M.abs m) q.base).1,ended:=true }) (by simp[gj,h0,show q.at_=1 by omega,c3]) hm (by rw[hw];rfl))
   ·have c3:¬((↑(rm q.cap):Int)≤IntKind.i64.wrap (IntKind.u64.wrap (q.b-(M.O.ld (M.abs m) q.base).fst))):=c3
    exact .done (kN (x:= { q with at_:=q.at_+1,t:=(M.O.ld (M.abs m) q.base).1 }) (by unfold gj wr wu;(repeat' split) <;> first | rfl | omega | simp_all) hm (by rw[hw];rfl))
  ·have c2:¬(IntKind.i64.wrap ((↑q.at_:Int)+1)=2):=c2
   refine an (fun c4=>?_) (fun c4=>?_)
   ·have c4:IntKind.i64.wrap ((↑q.at_:Int)+1)=3:=c4
    refine .sched [10] (upto [10] 19 0) (by kernel_rfl) ?_
    refine aa 0 ?_
    refine aa 0 ?_
    refine aH [] (LK _ _ _ _ hb) ?_
    refine aa 0 ?_
    refine eS.mk M.hS ?_
    refine M.aStore [_] hf fun m' hm=>?_
    exact .done (kN (x:= { q with at_:=q.at_+1 }) (by simp[gj,h0,show q.at_=2 by omega]) hm (by rw[hw];rfl))
   ·have c4:¬(IntKind.i64.wrap ((↑q.at_:Int)+1)=3):=c4
    refine .sched [5] (upto [5] 16 0) (by kernel_rfl) ?_
    refine aa 0 ?_
    refine aH [] (sW _ _ _) ?_
    refine aa 0 ?_
    refine eS.mk M.hS ?_
    refine M.aStore [_] hf fun m' hm=>?_
    refine ak 0 ?_
    refine .fwd 1 ?_
    refine ak 0 ?_
    exact .done (kN (x:= { q with at_:=q.at_+1,ok:=true,ended:=true }) (by simp[gj,h0,show q.at_≠0 by omega,show q.at_≠1 by omega,show q.at_≠2 by omega]) hm (by rw[hw];rfl))
def e9(O:j6)(q:DQ)(a:O.A):DQ×O.A×Bool:=
 if q.ended then (q,a,true)
 else if q.at_=0 then ({ q with at_:=q.at_+1,b:=wu ((O.ld a (fI q.base)).1-1) },(O.ld a (fI q.base)).2,false)
 else if q.at_=1 then ({ q with at_:=q.at_+1 },O.st a (fI q.base) q.b,false)
 else if q.at_=2 then ({ q with at_:=q.at_+1,t:=(O.ld a q.base).1 },(O.ld a q.base).2,false)
 else if q.at_=3 then
  (if wr q.b<wr q.t then ({ q with at_:=q.at_+1,ended:=true },O.st a (fI q.base) (wu (q.b+1)),true)
  else if wr q.t<wr q.b then ({ q with at_:=q.at_+1,x:=(O.ld a (lp q.base q.cap q.b)).1,ok:=true,n:=(O.ld a (lp q.base q.cap q.b)).1,ended:=true },(O.ld a (lp q.base q.cap q.b)).2,true)
  else ({ q with at_:=q.at_+1,x:=(O.ld a (lp q.base q.cap q.b)).1 },(O.ld a (lp q.base q.cap q.b)).2,false))
 else if q.at_=4 then ({ q with at_:=q.at_+1,ok:=(O.cs a q.base q.t (wu (q.t+1))).1 },(O.cs a q.base q.t (wu (q.t+1))).2,false)
 else ({ q with at_:=q.at_+1,n:=if q.ok then q.x else q.n,ended:=true },O.st a (fI q.base) (wu (q.b+1)),true)
theorem H4(M:AMem)(r:Nat)(q:DQ)(m:M.S)(d:Int)(σ:Hp)(hf:M.O.free (M.abs m))(dR:q.at_≤1000)(hb:0≤q.b):ACalls Tryz.prog 401 [.ptr r 0,M.v,.int .i64 d] ((r,lQ q)::(M.B m++σ)) (qa M σ lQ r (e9 M.O q (M.abs m))):=by
 have hw:IntKind.i64.wrap ((q.at_:Int)+1)=((q.at_+1:Nat):Int):=by rw[IntKind.wrap_i64];omega
 refine ay Tryz.func401 ?_
 refine fu.kv 0 _ _ rfl rfl (fun h0=>?_) (fun h0=>?_)
 ·exact .done (jZ (x:=q) (by simp[e9,h0]) rfl)
 refine az [] (du _ _ _) ?_
 refine aa 0 ?_
 refine ak 0 ?_
 refine aa 0 ?_
 refine an (fun c1=>?_) (fun c1=>?_)
 ·have c1:IntKind.i64.wrap ((↑q.at_:Int)+1)=1:=c1
  refine .sched [6] (upto [6] 16 0) (by kernel_rfl) ?_
  refine aa 0 ?_
  refine aH [] (sW _ _ _) ?_
  refine eS.mk M.hL ?_
  refine M.aLoad [_] hf fun m' hm=>?_
  refine ak 0 ?_
  exact .done (kN (x:= { q with at_:=q.at_+1,b:=wu ((M.O.ld (M.abs m) (fI q.base)).1-1) }) (by unfold e9 wr wu;(repeat' split) <;> first | rfl | omega | simp_all) hm (by rw[hw];rfl))
 ·have c1:¬(IntKind.i64.wrap ((↑q.at_:Int)+1)=1):=c1
  refine an (fun c2=>?_) (fun c2=>?_)
  ·have c2:IntKind.i64.wrap ((↑q.at_:Int)+1)=2:=c2
   refine .sched [5] (upto [5] 15 0) (by kernel_rfl) ?_
   refine aa 0 ?_
   refine aH [] (sW _ _ _) ?_
   refine aa 0 ?_
   refine eS.mk M.hS ?_
   refine M.aStore [_] hf fun m' hm=>?_
   exact .done (kN (x:= { q with at_:=q.at_+1 }) (by unfold e9 wr wu;(repeat' split) <;> first | rfl | omega | simp_all) hm (by rw[hw];rfl))
  ·have c2:¬(IntKind.i64.wrap ((↑q.at_:Int)+1)=2):=c2
   refine an (fun c3=>?_) (fun c3=>?_)
   ·have c3:IntKind.i64.wrap ((↑q.at_:Int)+1)=3:=c3
    refine .sched [] (upto [] 15 0) (by kernel_rfl) ?_
    refine aa 0 ?_
    refine eS.mk M.hL ?_
    refine M.aLoad [_] hf fun m' hm=>?_
    refine ak 0 ?_
    exact .done (kN (x:= { q with at_:=q.at_+1,t:=(M.O.ld (M.abs m) q.base).1 }) (by unfold e9 wr wu;(repeat' split) <;> first | rfl | omega | simp_all) hm (by rw[hw];rfl))
   ·have c3:¬(IntKind.i64.wrap ((↑q.at_:Int)+1)=3):=c3
    refine an (fun c4=>?_) (fun c4=>?_)
    ·have c4:IntKind.i64.wrap ((↑q.at_:Int)+1)=4:=c4
     refine .quiet (by kernel_rfl) ?_
     refine aa 0 ?_
     refine aa 0 ?_
     refine an (fun c5=>?_) (fun c5=>?_)
     ·have c5:IntKind.i64.wrap q.b<IntKind.i64.wrap q.t:=c5
      refine .fwd 1 ?_
      refine .sched [5] (upto [5] 16 0) (by kernel_rfl) ?_
      refine aa 0 ?_
      refine aH [] (sW _ _ _) ?_
      refine aa 0 ?_
      refine eS.mk M.hS ?_
      refine M.aStore [_] hf fun m' hm=>?_
      refine ak 0 ?_
      exact .done (kN (x:= { q with at_:=q.at_+1,ended:=true }) (by unfold e9 wr wu;(repeat' split) <;> first | rfl | omega | simp_all) hm (by rw[hw];rfl))
     ·have c5:¬(IntKind.i64.wrap q.b<IntKind.i64.wrap q.t):=c5
      refine .sched [11] (upto [11] 20 0) (by kernel_rfl) ?_
      refine aa 0 ?_
      refine aa 0 ?_
      refine aH [] (LK _ _ _ _ hb) ?_
      refine eS.mk M.hL ?_
      refine M.aLoad [_] hf fun m' hm=>?_
      refine ak 0 ?_
      refine .quiet (by kernel_rfl) ?_
      refine aa 0 ?_
      refine aa 0 ?_
      refine an (fun c6=>?_) (fun c6=>?_)
      ·have c6:IntKind.i64.wrap q.t<IntKind.i64.wrap q.b:=c6
       refine aa 0 ?_
       refine ak 0 ?_
       refine ak 0 ?_
       refine .fwd 1 ?_
       refine ak 0 ?_
       exact .done (kN (x:= { q with at_:=q.at_+1,x:=(M.O.ld (M.abs m) (lp q.base q.cap q.b)).1,ok:=true,n:=(M.O.ld (M.abs m) (lp q.base q.cap q.b)).1,ended:=true }) (by unfold e9 wr wu;(repeat' split) <;> first | rfl | omega | simp_all) hm (by rw[hw];rfl))
      ·have c6:¬(IntKind.i64.wrap q.t<IntKind.i64.wrap q.b):=c6
       exact .done (kN (x:= { q with at_:=q.at_+1,x:=(M.O.ld (M.abs m) (lp q.base q.cap q.b)).1 }) (by unfold e9 wr wu;(repeat' split) <;> first | rfl | omega | simp_all) hm (by rw[hw];rfl))
    ·have c4:¬(IntKind.i64.wrap ((↑q.at_:Int)+1)=4):=c4
     refine an (fun c7=>?_) (fun c7=>?_)
     ·have c7:IntKind.i64.wrap ((↑q.at_:Int)+1)=5:=c7
      refine .sched [] (upto [] 25 0) (by kernel_rfl) ?_
      refine aa 0 ?_
      refine aa 0 ?_
      refine aa 0 ?_
      refine eS.mk M.hC ?_
      refine M.aCas [_] hf fun m' hm=>?_
      refine ak 0 ?_
      exact .done (kN (x:= { q with at_:=q.at_+1,ok:=(M.O.cs (M.abs m) q.base q.t (wu (q.t+1))).1 }) (by unfold e9 wr wu;(repeat' split) <;> first | rfl | omega | simp_all) hm (by rw[hw];rfl))
     ·have c7:¬(IntKind.i64.wrap ((↑q.at_:Int)+1)=5):=c7
      refine fu.kv 0 _ _ rfl rfl (fun c8=>?_) (fun c8=>?_)
      ·refine aa 0 ?_
       refine ak 0 ?_
       refine .fwd 1 ?_
       refine .sched [5] (upto [5] 16 0) (by kernel_rfl) ?_
       refine aa 0 ?_
       refine aH [] (sW _ _ _) ?_
       refine aa 0 ?_
       refine eS.mk M.hS ?_
       refine M.aStore [_] hf fun m' hm=>?_
       refine ak 0 ?_
       exact .done (kN (x:= { q with at_:=q.at_+1,n:=q.x,ended:=true }) (by unfold e9 wr wu;(repeat' split) <;> first | rfl | omega | simp_all) hm (by rw[hw];rfl))
      ·refine .fwd 1 ?_
       refine .sched [5] (upto [5] 16 0) (by kernel_rfl) ?_
       refine aa 0 ?_
       refine aH [] (sW _ _ _) ?_
       refine aa 0 ?_
       refine eS.mk M.hS ?_
       refine M.aStore [_] hf fun m' hm=>?_
       refine ak 0 ?_
       exact .done (kN (x:= { q with at_:=q.at_+1,ended:=true }) (by unfold e9 wr wu;(repeat' split) <;> first | rfl | omega | simp_all) hm (by rw[hw];rfl))
def gx(O:j6)(q:DQ)(a:O.A):DQ×O.A×Bool:=
 if q.ended then (q,a,true)
 else if q.at_=0 then ({ q with at_:=q.at_+1,t:=(O.ld a q.base).1 },(O.ld a q.base).2,false)
 else if q.at_=1 then
  (if wr (O.ld a (fI q.base)).1≤wr q.t then ({ q with at_:=q.at_+1,b:=(O.ld a (fI q.base)).1,ended:=true },(O.ld a (fI q.base)).2,true)
  else ({ q with at_:=q.at_+1,b:=(O.ld a (fI q.base)).1 },(O.ld a (fI q.base)).2,false))
 else if q.at_=2 then ({ q with at_:=q.at_+1,x:=(O.ld a (lp q.base q.cap q.t)).1 },(O.ld a (lp q.base q.cap q.t)).2,false)
 else ({ q with at_:=q.at_+1,ok:=(O.cs a q.base q.t (wu (q.t+1))).1,n:=if (O.cs a q.base q.t (wu (q.t+1))).1 then q.x else q.n,ended:=true },(O.cs a q.base q.t (wu (q.t+1))).2,true)
theorem G4(M:AMem)(r:Nat)(q:DQ)(m:M.S)(d:Int)(σ:Hp)(hf:M.O.free (M.abs m))(dR:q.at_≤1000)(hb:0≤q.t):ACalls Tryz.prog 403 [.ptr r 0,M.v,.int .i64 d] ((r,lQ q)::(M.B m++σ)) (qa M σ lQ r (gx M.O q (M.abs m))):=by
 have hw:IntKind.i64.wrap ((q.at_:Int)+1)=((q.at_+1:Nat):Int):=by rw[IntKind.wrap_i64];omega
 refine ay Tryz.func403 ?_
 refine fu.kv 0 _ _ rfl rfl (fun h0=>?_) (fun h0=>?_)
 ·exact .done (jZ (x:=q) (by simp[gx,h0]) rfl)
 refine az [] (du _ _ _) ?_
 refine aa 0 ?_
 refine ak 0 ?_
 refine aa 0 ?_
 refine an (fun c1=>?_) (fun c1=>?_)
 ·have c1:IntKind.i64.wrap ((↑q.at_:Int)+1)=1:=c1
  refine .sched [] (upto [] 15 0) (by kernel_rfl) ?_
  refine aa 0 ?_
  refine eS.mk M.hL ?_
  refine M.aLoad [_] hf fun m' hm=>?_
  refine ak 0 ?_
  exact .done (kN (x:= { q with at_:=q.at_+1,t:=(M.O.ld (M.abs m) q.base).1 }) (by unfold gx wr wu;(repeat' split) <;> first | rfl | omega | simp_all) hm (by rw[hw];rfl))
 ·have c1:¬(IntKind.i64.wrap ((↑q.at_:Int)+1)=1):=c1
  refine an (fun c2=>?_) (fun c2=>?_)
  ·have c2:IntKind.i64.wrap ((↑q.at_:Int)+1)=2:=c2
   refine .sched [6] (upto [6] 15 0) (by kernel_rfl) ?_
   refine aa 0 ?_
   refine aH [] (sW _ _ _) ?_
   refine eS.mk M.hL ?_
   refine M.aLoad [_] hf fun m' hm=>?_
   refine ak 0 ?_
   refine .quiet (by kernel_rfl) ?_
   refine aa 0 ?_
   refine aa 0 ?_
   refine an (fun c3=>?_) (fun c3=>?_)
   ·have c3:IntKind.i64.wrap (M.O.ld (M.abs m) (fI q.base)).fst≤IntKind.i64.wrap q.t:=c3
    refine .fwd 1 ?_
    refine ak 0 ?_
    exact .done (kN (x:= { q with at_:=q.at_+1,b:=(M.O.ld (M.abs m) (fI q.base)).1,ended:=true }) (by unfold gx wr wu;(repeat' split) <;> first | rfl | omega | simp_all) hm (by rw[hw];rfl))
   ·have c3:¬(IntKind.i64.wrap (M.O.ld (M.abs m) (fI q.base)).fst≤IntKind.i64.wrap q.t):=c3
    exact .done (kN (x:= { q with at_:=q.at_+1,b:=(M.O.ld (M.abs m) (fI q.base)).1 }) (by unfold gx wr wu;(repeat' split) <;> first | rfl | omega | simp_all) hm (by rw[hw];rfl))
  ·have c2:¬(IntKind.i64.wrap ((↑q.at_:Int)+1)=2):=c2
   refine an (fun c4=>?_) (fun c4=>?_)
   ·have c4:IntKind.i64.wrap ((↑q.at_:Int)+1)=3:=c4
    refine .sched [11] (upto [11] 20 0) (by kernel_rfl) ?_
    refine aa 0 ?_
    refine aa 0 ?_
    refine aH [] (LK _ _ _ _ hb) ?_
    refine eS.mk M.hL ?_
    refine M.aLoad [_] hf fun m' hm=>?_
    refine ak 0 ?_
    exact .done (kN (x:= { q with at_:=q.at_+1,x:=(M.O.ld (M.abs m) (lp q.base q.cap q.t)).1 }) (by unfold gx wr wu;(repeat' split) <;> first | rfl | omega | simp_all) hm (by rw[hw];rfl))
   ·have c4:¬(IntKind.i64.wrap ((↑q.at_:Int)+1)=3):=c4
    refine .sched [] (upto [] 25 0) (by kernel_rfl) ?_
    refine aa 0 ?_
    refine aa 0 ?_
    refine aa 0 ?_
    refine eS.mk M.hC ?_
    refine M.aCasB [_] hf (fun m' hm hb=>?_) (fun m' hm hb=>?_)
    ·refine ak 0 ?_
     refine aa 0 ?_
     refine aa 0 ?_
     refine ak 0 ?_
     refine .fwd 1 ?_
     refine ak 0 ?_
     exact .done (kN (x:= { q with at_:=q.at_+1,ok:=true,n:=q.x,ended:=true }) (by unfold gx wr wu;(repeat' split) <;> first | rfl | omega | simp_all) hm (by rw[hw];rfl))
    ·refine ak 0 ?_
     refine aa 0 ?_
     refine .fwd 1 ?_
     refine ak 0 ?_
     exact .done (kN (x:= { q with at_:=q.at_+1,ok:=false,ended:=true }) (by unfold gx wr wu;(repeat' split) <;> first | rfl | omega | simp_all) hm (by rw[hw];rfl))
theorem ad0(p q:Nat)(ws:List Int)(b c:Int)(σ:Hp):ACalls Tryz.prog 161 [.agg [.int .i64 b,.int .i64 c],ku p] (aZ p q ws σ) (aE (.tup []) (aZ p q (gX (gX ws b 1) (fI b) 1) σ)):=by
 refine ay Tryz.func161 ?_
 intro aD
 refine az [] (du _ _ _) ?_
 refine aa 0 ?_
 refine⟨_,mStore_,?_⟩
 refine az [2,2] (aStore p q _ _ _ _) ?_
 refine .sched [2] (upto [2] 7 0) (by kernel_rfl) ?_
 refine aa 2 ?_
 refine aH [] (sW _ _ _) ?_
 refine eS.mk hStore_ ?_
 refine⟨_,mStore_,?_⟩
 refine az [] (aStore p q _ _ _ _) ?_
 exact .drop 2 1 (.done ⟨rfl,rfl⟩)
end Go.Proofs.YtnikdflhefijbaaGreat
