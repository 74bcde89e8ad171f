import Derived.Test.YtnpidbjdilnhlaaGreatBn12
namespace Go.Proofs.YtnpidbjdilnhlaaGreat
open Go.RowKit
set_option maxRecDepth 100000
set_option maxHeartbeats 4000000
def rm(n:Int):Nat:=(min (max n 1) 4096).toNat
theorem sj(n:Int):1≤rm n∧rm n≤4096:=by unfold rm;omega
theorem ZL(n:Int):(if (4096:Int)<(if n<1 then 1 else n) then (4096:Int) else (if n<1 then 1 else n))=((rm n:Nat):Int):=by
 unfold rm
 by_cases h:n<1
 ·simp only[if_pos h];omega
 ·simp only[if_neg h];split <;> omega
theorem IH(n:Int)(σ:Hp):ACalls Tryz.prog 155 [.int .i64 n] σ (az (.int .i64 (rm n)) σ):=by
 refine okF Tryz.func155 (by kernel_rfl) ?_
 exact .done ⟨aN (ZL n),rfl⟩
def eJ(base:Int):Int:=wr (base+1)
def jL(base cap i:Int):Int:=wr (wr (base+2)+wr (i % (rm cap:Int)))
theorem qK(b c:Int)(σ:Hp):ACalls Tryz.prog 111 [.agg [.int .i64 b,.int .i64 c]] σ (az (.int .i64 (eJ b)) σ):=by
 refine okF Tryz.func111 (by kernel_rfl) ?_
 intro aC
 refine aa 0 ?_
 exact .drop 0 1 (.done ⟨rfl,rfl⟩)
theorem H9(b c i:Int)(σ:Hp)(h0:0≤i):ACalls Tryz.prog 369 [.agg [.int .i64 b,.int .i64 c],.int .u64 i] σ (az (.int .i64 (jL b c i)) σ):=by
 have hr:=sj c
 have e1:IntKind.u64.wrap (rm c:Int)=rm c:=by rw[IntKind.wrap_u64];omega
 have e2:i.tmod (IntKind.u64.wrap (rm c:Int))=i % (rm c:Int):=by rw[e1,Int.tmod_eq_emod_of_nonneg h0]
 refine okF Tryz.func369 (by kernel_rfl) ?_
 intro aC
 refine .quiet (by kernel_rfl) ?_
 refine aa 0 ?_
 refine aa 0 ?_
 refine aD [] (IH _ _) ?_
 refine ag.mk (by rw[e1];omega) ?_
 exact .drop 0 1 (.done ⟨aN (by rw[e2];rfl),rfl⟩)
structure DQ where
 base:Int
 cap:Int
 n:Int
 ok:Bool
 ended:Bool
 at_:Nat
 b:Int
 t:Int
 x:Int
def j0(q:DQ):List AV:=[.int .i64 q.base,.int .i64 q.cap,.int .u64 q.n,.bool q.ok,.bool q.ended,.int .i64 q.at_,.int .u64 q.b,.int .u64 q.t,.int .u64 q.x]
abbrev wu(n:Int):Int:=IntKind.u64.wrap n
def fg(O:iE)(q:DQ)(a:O.A):DQ×O.A×Bool:=
 if q.ended then (q,a,true)
 else if q.at_=0 then ({ q with at_:=q.at_+1,b:=(O.ld a (eJ q.base)).1 },(O.ld a (eJ q.base)).2,false)
 else if q.at_=1 then
  (if (rm q.cap:Int)≤wr (wu (q.b-(O.ld a q.base).1)) then ({ q with at_:=q.at_+1,t:=(O.ld a q.base).1,ended:=true },(O.ld a q.base).2,true)
  else ({ q with at_:=q.at_+1,t:=(O.ld a q.base).1 },(O.ld a q.base).2,false))
 else if q.at_=2 then ({ q with at_:=q.at_+1 },O.st a (jL q.base q.cap q.b) q.n,false)
 else ({ q with at_:=q.at_+1,ok:=true,ended:=true },O.st a (eJ q.base) (wu (q.b+1)),true)
theorem ju{M:AMem}{σ:Hp}{X:Type}{B:X→List AV}{r:Nat}{res:X×M.O.A×Bool}{x:X}{a:M.O.A}{b:Bool}{m':M.S}{cs:List AV}(h:res=(x,a,b))(hm:M.abs m'=a)(hc:cs=B x):nS M σ B r res (.bool b) ((r,cs)::(M.B m'++σ)):=by
 subst hc
 exact iz h hm
theorem Qz(M:AMem)(r:Nat)(q:DQ)(m:M.S)(d:Int)(σ:Hp)(hf:M.O.free (M.abs m))(cW:q.at_≤1000)(hb:0≤q.b):ACalls Tryz.prog 376 [.ptr r 0,M.v,.int .i64 d] ((r,j0 q)::(M.B m++σ)) (nS M σ j0 r (fg M.O q (M.abs m))):=by
 have hw:IntKind.i64.wrap ((q.at_:Int)+1)=((q.at_+1:Nat):Int):=by rw[IntKind.wrap_i64];omega
 refine okF Tryz.func376 (by kernel_rfl) ?_
 refine dJ.iZ 0 _ _ rfl rfl (fun h0 =>?_) (fun h0 =>?_)
 ·exact .done (iz (x:=q) (by simp[fg,h0]) rfl)
 refine ax [] (cy _ _ _) ?_
 refine aa 0 ?_
 refine ai 0 ?_
 refine aa 0 ?_
 refine ao (fun c1 =>?_) (fun c1 =>?_)
 ·have c1:IntKind.i64.wrap ((↑q.at_:Int)+1)=1:=c1
  refine .sched [6] (upto [6] 15 0) (by kernel_rfl) ?_
  refine aa 0 ?_
  refine aD [] (qK _ _ _) ?_
  refine dS.mk M.hL ?_
  refine M.aLoad [_] hf fun m' hm =>?_
  refine ai 0 ?_
  exact .done (ju (x:= { q with at_:=q.at_+1,b:=(M.O.ld (M.abs m) (eJ q.base)).1 }) (by simp[fg,h0,show q.at_=0 by omega]) hm (by rw[hw];rfl))
 ·have c1:¬(IntKind.i64.wrap ((↑q.at_:Int)+1)=1):=c1
  refine ao (fun c2 =>?_) (fun c2 =>?_)
  ·have c2:IntKind.i64.wrap ((↑q.at_:Int)+1)=2:=c2
   refine .sched [] (upto [] 15 0) (by kernel_rfl) ?_
   refine aa 0 ?_
   refine dS.mk M.hL ?_
   refine M.aLoad [_] hf fun m' hm =>?_
   refine ai 0 ?_
   refine .quiet (by kernel_rfl) ?_
   refine aa 0 ?_
   refine aa 0 ?_
   refine aa 0 ?_
   refine aD [] (IH _ _) ?_
   refine ao (fun c3 =>?_) (fun c3 =>?_)
   ·have c3:(↑(rm q.cap):Int)≤IntKind.i64.wrap (IntKind.u64.wrap (q.b-(M.O.ld (M.abs m) q.base).fst)):=c3
    refine .fwd 1 ?_
    refine ai 0 ?_
    exact .done (ju (x:= { q with at_:=q.at_+1,t:=(M.O.ld (M.abs m) q.base).1,ended:=true }) (by simp[fg,h0,show q.at_=1 by omega,c3]) hm (by rw[hw];rfl))
   ·have c3:¬((↑(rm q.cap):Int)≤IntKind.i64.wrap (IntKind.u64.wrap (q.b-(M.O.ld (M.abs m) q.base).fst))):=c3
    exact .done (ju (x:= { q with at_:=q.at_+1,t:=(M.O.ld (M.abs m) q.base).1 }) (by unfold fg wr wu;(repeat' split) <;> first | rfl | omega | simp_all) hm (by rw[hw];rfl))
  ·have c2:¬(IntKind.i64.wrap ((↑q.at_:Int)+1)=2):=c2
   refine ao (fun c4 =>?_) (fun c4 =>?_)
   ·have c4:IntKind.i64.wrap ((↑q.at_:Int)+1)=3:=c4
    refine .sched [10] (upto [10] 19 0) (by kernel_rfl) ?_
    refine aa 0 ?_
    refine aa 0 ?_
    refine aD [] (H9 _ _ _ _ hb) ?_
    refine aa 0 ?_
    refine dS.mk M.hS ?_
    refine M.aStore [_] hf fun m' hm =>?_
    exact .done (ju (x:= { q with at_:=q.at_+1 }) (by simp[fg,h0,show q.at_=2 by omega]) hm (by rw[hw];rfl))
   ·have c4:¬(IntKind.i64.wrap ((↑q.at_:Int)+1)=3):=c4
    refine .sched [5] (upto [5] 16 0) (by kernel_rfl) ?_
    refine aa 0 ?_
    refine aD [] (qK _ _ _) ?_
    refine aa 0 ?_
    refine dS.mk M.hS ?_
    refine M.aStore [_] hf fun m' hm =>?_
    refine ai 0 ?_
    refine .fwd 1 ?_
    refine ai 0 ?_
    exact .done (ju (x:= { q with at_:=q.at_+1,ok:=true,ended:=true }) (by simp[fg,h0,show q.at_≠0 by omega,show q.at_≠1 by omega,show q.at_≠2 by omega]) hm (by rw[hw];rfl))
def ei(O:iE)(q:DQ)(a:O.A):DQ×O.A×Bool:=
 if q.ended then (q,a,true)
 else if q.at_=0 then ({ q with at_:=q.at_+1,b:=wu ((O.ld a (eJ q.base)).1-1) },(O.ld a (eJ q.base)).2,false)
 else if q.at_=1 then ({ q with at_:=q.at_+1 },O.st a (eJ q.base) q.b,false)
 else if q.at_=2 then ({ q with at_:=q.at_+1,t:=(O.ld a q.base).1 },(O.ld a q.base).2,false)
 else if q.at_=3 then
  (if wr q.b<wr q.t then ({ q with at_:=q.at_+1,ended:=true },O.st a (eJ q.base) (wu (q.b+1)),true)
  else if wr q.t<wr q.b then ({ q with at_:=q.at_+1,x:=(O.ld a (jL q.base q.cap q.b)).1,ok:=true,n:=(O.ld a (jL q.base q.cap q.b)).1,ended:=true },(O.ld a (jL q.base q.cap q.b)).2,true)
  else ({ q with at_:=q.at_+1,x:=(O.ld a (jL q.base q.cap q.b)).1 },(O.ld a (jL q.base q.cap q.b)).2,false))
 else if q.at_=4 then ({ q with at_:=q.at_+1,ok:=(O.cs a q.base q.t (wu (q.t+1))).1 },(O.cs a q.base q.t (wu (q.t+1))).2,false)
 else ({ q with at_:=q.at_+1,n:=if q.ok then q.x else q.n,ended:=true },O.st a (eJ q.base) (wu (q.b+1)),true)
theorem EU(M:AMem)(r:Nat)(q:DQ)(m:M.S)(d:Int)(σ:Hp)(hf:M.O.free (M.abs m))(cW:q.at_≤1000)(hb:0≤q.b):ACalls Tryz.prog 368 [.ptr r 0,M.v,.int .i64 d] ((r,j0 q)::(M.B m++σ)) (nS M σ j0 r (ei M.O q (M.abs m))):=by
 have hw:IntKind.i64.wrap ((q.at_:Int)+1)=((q.at_+1:Nat):Int):=by rw[IntKind.wrap_i64];omega
 refine okF Tryz.func368 (by kernel_rfl) ?_
 refine dJ.iZ 0 _ _ rfl rfl (fun h0 =>?_) (fun h0 =>?_)
 ·exact .done (iz (x:=q) (by simp[ei,h0]) rfl)
 refine ax [] (cy _ _ _) ?_
 refine aa 0 ?_
 refine ai 0 ?_
 refine aa 0 ?_
 refine ao (fun c1 =>?_) (fun c1 =>?_)
 ·have c1:IntKind.i64.wrap ((↑q.at_:Int)+1)=1:=c1
  refine .sched [6] (upto [6] 16 0) (by kernel_rfl) ?_
  refine aa 0 ?_
  refine aD [] (qK _ _ _) ?_
  refine dS.mk M.hL ?_
  refine M.aLoad [_] hf fun m' hm =>?_
  refine ai 0 ?_
  exact .done (ju (x:= { q with at_:=q.at_+1,b:=wu ((M.O.ld (M.abs m) (eJ q.base)).1-1) }) (by unfold ei wr wu;(repeat' split) <;> first | rfl | omega | simp_all) hm (by rw[hw];rfl))
 ·have c1:¬(IntKind.i64.wrap ((↑q.at_:Int)+1)=1):=c1
  refine ao (fun c2 =>?_) (fun c2 =>?_)
  ·have c2:IntKind.i64.wrap ((↑q.at_:Int)+1)=2:=c2
   refine .sched [5] (upto [5] 15 0) (by kernel_rfl) ?_
   refine aa 0 ?_
   refine aD [] (qK _ _ _) ?_
   refine aa 0 ?_
   refine dS.mk M.hS ?_
   refine M.aStore [_] hf fun m' hm =>?_
   exact .done (ju (x:= { q with at_:=q.at_+1 }) (by unfold ei wr wu;(repeat' split) <;> first | rfl | omega | simp_all) hm (by rw[hw];rfl))
  ·have c2:¬(IntKind.i64.wrap ((↑q.at_:Int)+1)=2):=c2
   refine ao (fun c3 =>?_) (fun c3 =>?_)
   ·have c3:IntKind.i64.wrap ((↑q.at_:Int)+1)=3:=c3
    refine .sched [] (upto [] 15 0) (by kernel_rfl) ?_
    refine aa 0 ?_
    refine dS.mk M.hL ?_
    refine M.aLoad [_] hf fun m' hm =>?_
    refine ai 0 ?_
    exact .done (ju (x:= { q with at_:=q.at_+1,t:=(M.O.ld (M.abs m) q.base).1 }) (by unfold ei wr wu;(repeat' split) <;> first | rfl | omega | simp_all) hm (by rw[hw];rfl))
   ·have c3:¬(IntKind.i64.wrap ((↑q.at_:Int)+1)=3):=c3
    refine ao (fun c4 =>?_) (fun c4 =>?_)
    ·have c4:IntKind.i64.wrap ((↑q.at_:Int)+1)=4:=c4
     refine .quiet (by kernel_rfl) ?_
     refine aa 0 ?_
     refine aa 0 ?_
     refine ao (fun c5 =>?_) (fun c5 =>?_)
     ·have c5:IntKind.i64.wrap q.b<IntKind.i64.wrap q.t:=c5
      refine .fwd 1 ?_
      refine .sched [5] (upto [5] 16 0) (by kernel_rfl) ?_
      refine aa 0 ?_
      refine aD [] (qK _ _ _) ?_
      refine aa 0 ?_
      refine dS.mk M.hS ?_
      refine M.aStore [_] hf fun m' hm =>?_
      refine ai 0 ?_
      exact .done (ju (x:= { q with at_:=q.at_+1,ended:=true }) (by unfold ei wr wu;(repeat' split) <;> first | rfl | omega | simp_all) hm (by rw[hw];rfl))
     ·have c5:¬(IntKind.i64.wrap q.b<IntKind.i64.wrap q.t):=c5
      refine .sched [11] (upto [11] 20 0) (by kernel_rfl) ?_
      refine aa 0 ?_
      refine aa 0 ?_
      refine aD [] (H9 _ _ _ _ hb) ?_
      refine dS.mk M.hL ?_
      refine M.aLoad [_] hf fun m' hm =>?_
      refine ai 0 ?_
      refine .quiet (by kernel_rfl) ?_
      refine aa 0 ?_
      refine aa 0 ?_
      refine ao (fun c6 =>?_) (fun c6 =>?_)
      ·have c6:IntKind.i64.wrap q.t<IntKind.i64.wrap q.b:=c6
       refine aa 0 ?_
       refine ai 0 ?_
       refine ai 0 ?_
       refine .fwd 1 ?_
       refine ai 0 ?_
       exact .done (ju (x:= { q with at_:=q.at_+1,x:=(M.O.ld (M.abs m) (jL q.base q.cap q.b)).1,ok:=true,n:=(M.O.ld (M.abs m) (jL q.base q.cap q.b)).1,ended:=true }) (by unfold ei wr wu;(repeat' split) <;> first | rfl | omega | simp_all) hm (by rw[hw];rfl))
      ·have c6:¬(IntKind.i64.wrap q.t<IntKind.i64.wrap q.b):=c6
       exact .done (ju (x:= { q with at_:=q.at_+1,x:=(M.O.ld (M.abs m) (jL q.base q.cap q.b)).1 }) (by unfold ei wr wu;(repeat' split) <;> first | rfl | omega | simp_all) hm (by rw[hw];rfl))
    ·have c4:¬(IntKind.i64.wrap ((↑q.at_:Int)+1)=4):=c4
     refine ao (fun c7 =>?_) (fun c7 =>?_)
     ·have c7:IntKind.i64.wrap ((↑q.at_:Int)+1)=5:=c7
      refine .sched [] (upto [] 25 0) (by kernel_rfl) ?_
      refine aa 0 ?_
      refine aa 0 ?_
      refine aa 0 ?_
      refine dS.mk M.hC ?_
      refine M.aCas [_] hf fun m' hm =>?_
      refine ai 0 ?_
      exact .done (ju (x:= { q with at_:=q.at_+1,ok:=(M.O.cs (M.abs m) q.base q.t (wu (q.t+1))).1 }) (by unfold ei wr wu;(repeat' split) <;> first | rfl | omega | simp_all) hm (by rw[hw];rfl))
     ·have c7:¬(IntKind.i64.wrap ((↑q.at_:Int)+1)=5):=c7
      refine dJ.iZ 0 _ _ rfl rfl (fun c8 =>?_) (fun c8 =>?_)
      ·refine aa 0 ?_
       refine ai 0 ?_
       refine .fwd 1 ?_
       refine .sched [5] (upto [5] 16 0) (by kernel_rfl) ?_
       refine aa 0 ?_
       refine aD [] (qK _ _ _) ?_
       refine aa 0 ?_
       refine dS.mk M.hS ?_
       refine M.aStore [_] hf fun m' hm =>?_
       refine ai 0 ?_
       exact .done (ju (x:= { q with at_:=q.at_+1,n:=q.x,ended:=true }) (by unfold ei wr wu;(repeat' split) <;> first | rfl | omega | simp_all) hm (by rw[hw];rfl))
      ·refine .fwd 1 ?_
       refine .sched [5] (upto [5] 16 0) (by kernel_rfl) ?_
       refine aa 0 ?_
       refine aD [] (qK _ _ _) ?_
       refine aa 0 ?_
       refine dS.mk M.hS ?_
       refine M.aStore [_] hf fun m' hm =>?_
       refine ai 0 ?_
       exact .done (ju (x:= { q with at_:=q.at_+1,ended:=true }) (by unfold ei wr wu;(repeat' split) <;> first | rfl | omega | simp_all) hm (by rw[hw];rfl))
def fv(O:iE)(q:DQ)(a:O.A):DQ×O.A×Bool:=
 if q.ended then (q,a,true)
 else if q.at_=0 then ({ q with at_:=q.at_+1,t:=(O.ld a q.base).1 },(O.ld a q.base).2,false)
 else if q.at_=1 then
  (if wr (O.ld a (eJ q.base)).1≤wr q.t then ({ q with at_:=q.at_+1,b:=(O.ld a (eJ q.base)).1,ended:=true },(O.ld a (eJ q.base)).2,true)
  else ({ q with at_:=q.at_+1,b:=(O.ld a (eJ q.base)).1 },(O.ld a (eJ q.base)).2,false))
 else if q.at_=2 then ({ q with at_:=q.at_+1,x:=(O.ld a (jL q.base q.cap q.t)).1 },(O.ld a (jL q.base q.cap q.t)).2,false)
 else ({ q with at_:=q.at_+1,ok:=(O.cs a q.base q.t (wu (q.t+1))).1,n:=if (O.cs a q.base q.t (wu (q.t+1))).1 then q.x else q.n,ended:=true },(O.cs a q.base q.t (wu (q.t+1))).2,true)
theorem DS(M:AMem)(r:Nat)(q:DQ)(m:M.S)(d:Int)(σ:Hp)(hf:M.O.free (M.abs m))(cW:q.at_≤1000)(hb:0≤q.t):ACalls Tryz.prog 370 [.ptr r 0,M.v,.int .i64 d] ((r,j0 q)::(M.B m++σ)) (nS M σ j0 r (fv M.O q (M.abs m))):=by
 have hw:IntKind.i64.wrap ((q.at_:Int)+1)=((q.at_+1:Nat):Int):=by rw[IntKind.wrap_i64];omega
 refine okF Tryz.func370 (by kernel_rfl) ?_
 refine dJ.iZ 0 _ _ rfl rfl (fun h0 =>?_) (fun h0 =>?_)
 ·exact .done (iz (x:=q) (by simp[fv,h0]) rfl)
 refine ax [] (cy _ _ _) ?_
 refine aa 0 ?_
 refine ai 0 ?_
 refine aa 0 ?_
 refine ao (fun c1 =>?_) (fun c1 =>?_)
 ·have c1:IntKind.i64.wrap ((↑q.at_:Int)+1)=1:=c1
  refine .sched [] (upto [] 15 0) (by kernel_rfl) ?_
  refine aa 0 ?_
  refine dS.mk M.hL ?_
  refine M.aLoad [_] hf fun m' hm =>?_
  refine ai 0 ?_
  exact .done (ju (x:= { q with at_:=q.at_+1,t:=(M.O.ld (M.abs m) q.base).1 }) (by unfold fv wr wu;(repeat' split) <;> first | rfl | omega | simp_all) hm (by rw[hw];rfl))
 ·have c1:¬(IntKind.i64.wrap ((↑q.at_:Int)+1)=1):=c1
  refine ao (fun c2 =>?_) (fun c2 =>?_)
  ·have c2:IntKind.i64.wrap ((↑q.at_:Int)+1)=2:=c2
   refine .sched [6] (upto [6] 15 0) (by kernel_rfl) ?_
   refine aa 0 ?_
   refine aD [] (qK _ _ _) ?_
   refine dS.mk M.hL ?_
   refine M.aLoad [_] hf fun m' hm =>?_
   refine ai 0 ?_
   refine .quiet (by kernel_rfl) ?_
   refine aa 0 ?_
   refine aa 0 ?_
   refine ao (fun c3 =>?_) (fun c3 =>?_)
   ·have c3:IntKind.i64.wrap (M.O.ld (M.abs m) (eJ q.base)).fst≤IntKind.i64.wrap q.t:=c3
    refine .fwd 1 ?_
    refine ai 0 ?_
    exact .done (ju (x:= { q with at_:=q.at_+1,b:=(M.O.ld (M.abs m) (eJ q.base)).1,ended:=true }) (by unfold fv wr wu;(repeat' split) <;> first | rfl | omega | simp_all) hm (by rw[hw];rfl))
   ·have c3:¬(IntKind.i64.wrap (M.O.ld (M.abs m) (eJ q.base)).fst≤IntKind.i64.wrap q.t):=c3
    exact .done (ju (x:= { q with at_:=q.at_+1,b:=(M.O.ld (M.abs m) (eJ q.base)).1 }) (by unfold fv wr wu;(repeat' split) <;> first | rfl | omega | simp_all) hm (by rw[hw];rfl))
  ·have c2:¬(IntKind.i64.wrap ((↑q.at_:Int)+1)=2):=c2
   refine ao (fun c4 =>?_) (fun c4 =>?_)
   ·have c4:IntKind.i64.wrap ((↑q.at_:Int)+1)=3:=c4
    refine .sched [11] (upto [11] 20 0) (by kernel_rfl) ?_
    refine aa 0 ?_
    refine aa 0 ?_
    refine aD [] (H9 _ _ _ _ hb) ?_
    refine dS.mk M.hL ?_
    refine M.aLoad [_] hf fun m' hm =>?_
    refine ai 0 ?_
    exact .done (ju (x:= { q with at_:=q.at_+1,x:=(M.O.ld (M.abs m) (jL q.base q.cap q.t)).1 }) (by unfold fv wr wu;(repeat' split) <;> first | rfl | omega | simp_all) hm (by rw[hw];rfl))
   ·have c4:¬(IntKind.i64.wrap ((↑q.at_:Int)+1)=3):=c4
    refine .sched [] (upto [] 25 0) (by kernel_rfl) ?_
    refine aa 0 ?_
    refine aa 0 ?_
    refine aa 0 ?_
    refine dS.mk M.hC ?_
    refine M.aCasB [_] hf (fun m' hm hb =>?_) (fun m' hm hb =>?_)
    ·refine ai 0 ?_
     refine aa 0 ?_
     refine aa 0 ?_
     refine ai 0 ?_
     refine .fwd 1 ?_
     refine ai 0 ?_
     exact .done (ju (x:= { q with at_:=q.at_+1,ok:=true,n:=q.x,ended:=true }) (by unfold fv wr wu;(repeat' split) <;> first | rfl | omega | simp_all) hm (by rw[hw];rfl))
    ·refine ai 0 ?_
     refine aa 0 ?_
     refine .fwd 1 ?_
     refine ai 0 ?_
     exact .done (ju (x:= { q with at_:=q.at_+1,ok:=false,ended:=true }) (by unfold fv wr wu;(repeat' split) <;> first | rfl | omega | simp_all) hm (by rw[hw];rfl))
theorem Zl(p q:Nat)(ws:List Int)(b c:Int)(σ:Hp):ACalls Tryz.prog 53 [.agg [.int .i64 b,.int .i64 c],iY p] (aX p q ws σ) (az (.tup []) (aX p q (fN (fN ws b 1) (eJ b) 1) σ)):=by
 refine okF Tryz.func53 (by kernel_rfl) ?_
 intro aC
 refine ax [] (cy _ _ _) ?_
 refine aa 0 ?_
 refine⟨_,mStore_,?_⟩
 refine ax [2,2] (aStore p q _ _ _ _) ?_
 refine .sched [2] (upto [2] 7 0) (by kernel_rfl) ?_
 refine aa 2 ?_
 refine aD [] (qK _ _ _) ?_
 refine dS.mk hStore_ ?_
 refine⟨_,mStore_,?_⟩
 refine ax [] (aStore p q _ _ _ _) ?_
 exact .drop 2 1 (.done ⟨rfl,rfl⟩)
end Go.Proofs.YtnpidbjdilnhlaaGreat
