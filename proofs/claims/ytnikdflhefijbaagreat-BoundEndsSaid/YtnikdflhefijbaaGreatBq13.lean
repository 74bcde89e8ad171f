import Derived.Test.YtnikdflhefijbaaGreatBq7
import Derived.Test.YtnikdflhefijbaaGreatBq6
import Derived.Test.YtnikdflhefijbaaGreatBq12
import Derived.Test.YtnikdflhefijbaaGreatBq11
import Derived.Test.YtnikdflhefijbaaGreatBq10
namespace Go.Proofs.YtnikdflhefijbaaGreat
open Go.RowKit
set_option maxRecDepth 100000
set_option maxHeartbeats 4000000
def rm(n:Int):Nat:=(min (max n 1) 4096).toNat
theorem wC(n:Int):1≤rm n∧rm n≤4096:=by unfold rm;omega
theorem agL(n:Int):(if (4096:Int)<(if n<1 then 1 else n) then (4096:Int) else (if n<1 then 1 else n))=((rm n:Nat):Int):=by
 unfold rm
 by_cases h:n<1
 ·simp only[af h];omega
 ·simp only[ag h];split <;> omega
theorem Oi(n:Int)(σ:Hp):ACalls Tryz.prog 154 [.int .i64 n] σ (aC (.int .i64 (rm n)) σ):=by
 refine ay Tryz.func154 ?_;exact .done ⟨aT (agL n),rfl⟩
def hG(base:Int):Int:=wr (base+1)
def l0(base cap i:Int):Int:=wr (wr (base+2)+wr (i % (rm cap:Int)))
theorem wj(b c:Int)(σ:Hp):ACalls Tryz.prog 111 [.agg [.int .i64 b,.int .i64 c]] σ (aC (.int .i64 (hG b)) σ):=by
 refine ay Tryz.func111 ?_;intro aF;refine aa 0 ?_;exact .drop 0 1 (.done ⟨rfl,rfl⟩)
theorem NJ(b c i:Int)(σ:Hp)(h0:0≤i):ACalls Tryz.prog 402 [.agg [.int .i64 b,.int .i64 c],.int .u64 i] σ (aC (.int .i64 (l0 b c i)) σ):=by
 have hr:=wC c;have e1:IntKind.u64.wrap (rm c:Int)=rm c:=by rw[IntKind.wrap_u64];omega
 have e2:i.tmod (IntKind.u64.wrap (rm c:Int))=i % (rm c:Int):=by rw[e1,tR h0]
 refine ay Tryz.func402 ?_;intro aF;refine .quiet (by kernel_rfl) ?_;refine aa 0 ?_;refine aa 0 ?_;refine aK [] (Oi _ _) ?_;refine aJ.mk (by rw[e1];omega) ?_;exact .drop 0 1 (.done ⟨aT (by rw[e2];rfl),rfl⟩)
structure DQ where
 base:Int
 cap:Int
 n:Int
 ok:Bool
 ended:Bool
 at_:Nat
 b:Int
 t:Int
 x:Int
def mz(q:DQ):List AV:=[.int .i64 q.base,.int .i64 q.cap,.int .u64 q.n,.bool q.ok,.bool q.ended,.int .i64 q.at_,.int .u64 q.b,.int .u64 q.t,.int .u64 q.x]
abbrev wu(n:Int):Int:=IntKind.u64.wrap n
def gH(O:kC)(q:DQ)(a:O.A):DQ×O.A×Bool:=
 if q.ended then (q,a,true)
 else if q.at_=0 then ({ q with at_:=q.at_+1,b:=(O.ld a (hG q.base)).1 },(O.ld a (hG q.base)).2,false)
 else if q.at_=1 then
  (if (rm q.cap:Int)≤wr (wu (q.b-(O.ld a q.base).1)) then ({ q with at_:=q.at_+1,t:=(O.ld a q.base).1,ended:=true },(O.ld a q.base).2,true)
  else ({ q with at_:=q.at_+1,t:=(O.ld a q.base).1 },(O.ld a q.base).2,false))
 else if q.at_=2 then ({ q with at_:=q.at_+1 },O.st a (l0 q.base q.cap q.b) q.n,false)
 else ({ q with at_:=q.at_+1,ok:=true,ended:=true },O.st a (hG q.base) (wu (q.b+1)),true)
theorem lE{M:AMem}{σ:Hp}{X:Type}{B:X→List AV}{r:Nat}{res:X×M.O.A×Bool}{x:X}{a:M.O.A}{b:Bool}{m':M.S}{cs:List AV}(h:res=(x,a,b))(hm:M.abs m'=a)(hc:cs=B x):q9 M σ B r res (.bool b) ((r,cs)::(M.B m'++σ)):=by
 subst hc;exact kv h hm
theorem XA(M:AMem)(r:Nat)(q:DQ)(m:M.S)(d:Int)(σ:Hp)(hf:M.O.free (M.abs m))(ck:q.at_≤1000)(hb:0≤q.b):ACalls Tryz.prog 409 [.ptr r 0,M.v,.int .i64 d] ((r,mz q)::(M.B m++σ)) (q9 M σ mz r (gH M.O q (M.abs m))):=by
 have hw:IntKind.i64.wrap ((q.at_:Int)+1)=((q.at_+1:Nat):Int):=by rw[IntKind.wrap_i64];omega
 refine ay Tryz.func409 ?_;refine fg.kZ 0 _ _ rfl rfl (fun h0=>?_) (fun h0=>?_)
 ·exact .done (kv (x:=q) (by simp[gH,h0]) rfl)
 refine ax [] (ec _ _ _) ?_;refine aa 0 ?_;refine aj 0 ?_;refine aa 0 ?_;refine ao (fun c1=>?_) (fun c1=>?_)
 ·have c1:IntKind.i64.wrap ((↑q.at_:Int)+1)=1:=c1;refine .sched [6] (upto [6] 15 0) (by kernel_rfl) ?_;refine aa 0 ?_;refine aK [] (wj _ _ _) ?_;refine fH.mk M.hL ?_;refine M.aLoad [_] hf fun m' hm=>?_;refine aj 0 ?_;exact .done (lE (x:= { q with at_:=q.at_+1,b:=(M.O.ld (M.abs m) (hG q.base)).1 }) (by simp[gH,h0,show q.at_=0 by omega]) hm (by rw[hw];rfl))
 ·have c1:¬(IntKind.i64.wrap ((↑q.at_:Int)+1)=1):=c1;refine ao (fun c2=>?_) (fun c2=>?_)
  ·have c2:IntKind.i64.wrap ((↑q.at_:Int)+1)=2:=c2;refine .sched [] (upto [] 15 0) (by kernel_rfl) ?_;refine aa 0 ?_;refine fH.mk M.hL ?_;refine M.aLoad [_] hf fun m' hm=>?_;refine aj 0 ?_;refine .quiet (by kernel_rfl) ?_;refine aa 0 ?_;refine aa 0 ?_;refine aa 0 ?_;refine aK [] (Oi _ _) ?_;refine ao (fun c3=>?_) (fun c3=>?_)
   ·have c3:(↑(rm q.cap):Int)≤IntKind.i64.wrap (IntKind.u64.wrap (q.b-(M.O.ld (M.abs m) q.base).fst)):=c3;refine .fwd 1 ?_;refine aj 0 ?_;exact .done (lE (x:= { q with at_:=q.at_+1,t:=(M.O.ld (M.abs m) q.base).1,ended:=true }) (by simp[gH,h0,show q.at_=1 by omega,c3]) hm (by rw[hw];rfl))
   ·have c3:¬((↑(rm q.cap):Int)≤IntKind.i64.wrap (IntKind.u64.wrap (q.b-(M.O.ld (M.abs m) q.base).fst))):=c3;exact .done (lE (x:= { q with at_:=q.at_+1,t:=(M.O.ld (M.abs m) q.base).1 }) (by unfold gH wr wu;(repeat' split) <;> first | rfl | omega | simp_all) hm (by rw[hw];rfl))
  ·have c2:¬(IntKind.i64.wrap ((↑q.at_:Int)+1)=2):=c2;refine ao (fun c4=>?_) (fun c4=>?_)
   ·have c4:IntKind.i64.wrap ((↑q.at_:Int)+1)=3:=c4;refine .sched [10] (upto [10] 19 0) (by kernel_rfl) ?_;refine aa 0 ?_;refine aa 0 ?_;refine aK [] (NJ _ _ _ _ hb) ?_;refine aa 0 ?_;refine fH.mk M.hS ?_;refine M.aStore [_] hf fun m' hm=>?_;exact .done (lE (x:= { q with at_:=q.at_+1 }) (by simp[gH,h0,show q.at_=2 by omega]) hm (by rw[hw];rfl))
   ·have c4:¬(IntKind.i64.wrap ((↑q.at_:Int)+1)=3):=c4;refine .sched [5] (upto [5] 16 0) (by kernel_rfl) ?_;refine aa 0 ?_;refine aK [] (wj _ _ _) ?_;refine aa 0 ?_;refine fH.mk M.hS ?_;refine M.aStore [_] hf fun m' hm=>?_;refine aj 0 ?_;refine .fwd 1 ?_;refine aj 0 ?_;exact .done (lE (x:= { q with at_:=q.at_+1,ok:=true,ended:=true }) (by simp[gH,h0,show q.at_≠0 by omega,show q.at_≠1 by omega,show q.at_≠2 by omega]) hm (by rw[hw];rfl))
def fK(O:kC)(q:DQ)(a:O.A):DQ×O.A×Bool:=
 if q.ended then (q,a,true)
 else if q.at_=0 then ({ q with at_:=q.at_+1,b:=wu ((O.ld a (hG q.base)).1-1) },(O.ld a (hG q.base)).2,false)
 else if q.at_=1 then ({ q with at_:=q.at_+1 },O.st a (hG q.base) q.b,false)
 else if q.at_=2 then ({ q with at_:=q.at_+1,t:=(O.ld a q.base).1 },(O.ld a q.base).2,false)
 else if q.at_=3 then
  (if wr q.b<wr q.t then ({ q with at_:=q.at_+1,ended:=true },O.st a (hG q.base) (wu (q.b+1)),true)
  else if wr q.t<wr q.b then ({ q with at_:=q.at_+1,x:=(O.ld a (l0 q.base q.cap q.b)).1,ok:=true,n:=(O.ld a (l0 q.base q.cap q.b)).1,ended:=true },(O.ld a (l0 q.base q.cap q.b)).2,true)
  else ({ q with at_:=q.at_+1,x:=(O.ld a (l0 q.base q.cap q.b)).1 },(O.ld a (l0 q.base q.cap q.b)).2,false))
 else if q.at_=4 then ({ q with at_:=q.at_+1,ok:=(O.cs a q.base q.t (wu (q.t+1))).1 },(O.cs a q.base q.t (wu (q.t+1))).2,false)
 else ({ q with at_:=q.at_+1,n:=if q.ok then q.x else q.n,ended:=true },O.st a (hG q.base) (wu (q.b+1)),true)
theorem JY(M:AMem)(r:Nat)(q:DQ)(m:M.S)(d:Int)(σ:Hp)(hf:M.O.free (M.abs m))(ck:q.at_≤1000)(hb:0≤q.b):ACalls Tryz.prog 401 [.ptr r 0,M.v,.int .i64 d] ((r,mz q)::(M.B m++σ)) (q9 M σ mz r (fK M.O q (M.abs m))):=by
 have hw:IntKind.i64.wrap ((q.at_:Int)+1)=((q.at_+1:Nat):Int):=by rw[IntKind.wrap_i64];omega
 refine ay Tryz.func401 ?_;refine fg.kZ 0 _ _ rfl rfl (fun h0=>?_) (fun h0=>?_)
 ·exact .done (kv (x:=q) (by simp[fK,h0]) rfl)
 refine ax [] (ec _ _ _) ?_;refine aa 0 ?_;refine aj 0 ?_;refine aa 0 ?_;refine ao (fun c1=>?_) (fun c1=>?_)
 ·have c1:IntKind.i64.wrap ((↑q.at_:Int)+1)=1:=c1;refine .sched [6] (upto [6] 16 0) (by kernel_rfl) ?_;refine aa 0 ?_;refine aK [] (wj _ _ _) ?_;refine fH.mk M.hL ?_;refine M.aLoad [_] hf fun m' hm=>?_;refine aj 0 ?_;exact .done (lE (x:= { q with at_:=q.at_+1,b:=wu ((M.O.ld (M.abs m) (hG q.base)).1-1) }) (by unfold fK wr wu;(repeat' split) <;> first | rfl | omega | simp_all) hm (by rw[hw];rfl))
 ·have c1:¬(IntKind.i64.wrap ((↑q.at_:Int)+1)=1):=c1;refine ao (fun c2=>?_) (fun c2=>?_)
  ·have c2:IntKind.i64.wrap ((↑q.at_:Int)+1)=2:=c2;refine .sched [5] (upto [5] 15 0) (by kernel_rfl) ?_;refine aa 0 ?_;refine aK [] (wj _ _ _) ?_;refine aa 0 ?_;refine fH.mk M.hS ?_;refine M.aStore [_] hf fun m' hm=>?_;exact .done (lE (x:= { q with at_:=q.at_+1 }) (by unfold fK wr wu;(repeat' split) <;> first | rfl | omega | simp_all) hm (by rw[hw];rfl))
  ·have c2:¬(IntKind.i64.wrap ((↑q.at_:Int)+1)=2):=c2;refine ao (fun c3=>?_) (fun c3=>?_)
   ·have c3:IntKind.i64.wrap ((↑q.at_:Int)+1)=3:=c3;refine .sched [] (upto [] 15 0) (by kernel_rfl) ?_;refine aa 0 ?_;refine fH.mk M.hL ?_;refine M.aLoad [_] hf fun m' hm=>?_;refine aj 0 ?_;exact .done (lE (x:= { q with at_:=q.at_+1,t:=(M.O.ld (M.abs m) q.base).1 }) (by unfold fK wr wu;(repeat' split) <;> first | rfl | omega | simp_all) hm (by rw[hw];rfl))
   ·have c3:¬(IntKind.i64.wrap ((↑q.at_:Int)+1)=3):=c3;refine ao (fun c4=>?_) (fun c4=>?_)
    ·have c4:IntKind.i64.wrap ((↑q.at_:Int)+1)=4:=c4;refine .quiet (by kernel_rfl) ?_;refine aa 0 ?_;refine aa 0 ?_;refine ao (fun c5=>?_) (fun c5=>?_)
     ·have c5:IntKind.i64.wrap q.b<IntKind.i64.wrap q.t:=c5;refine .fwd 1 ?_;refine .sched [5] (upto [5] 16 0) (by kernel_rfl) ?_;refine aa 0 ?_;refine aK [] (wj _ _ _) ?_;refine aa 0 ?_;refine fH.mk M.hS ?_;refine M.aStore [_] hf fun m' hm=>?_;refine aj 0 ?_;exact .done (lE (x:= { q with at_:=q.at_+1,ended:=true }) (by unfold fK wr wu;(repeat' split) <;> first | rfl | omega | simp_all) hm (by rw[hw];rfl))
     ·have c5:¬(IntKind.i64.wrap q.b<IntKind.i64.wrap q.t):=c5;refine .sched [11] (upto [11] 20 0) (by kernel_rfl) ?_;refine aa 0 ?_;refine aa 0 ?_;refine aK [] (NJ _ _ _ _ hb) ?_;refine fH.mk M.hL ?_;refine M.aLoad [_] hf fun m' hm=>?_;refine aj 0 ?_;refine .quiet (by kernel_rfl) ?_;refine aa 0 ?_;refine aa 0 ?_;refine ao (fun c6=>?_) (fun c6=>?_)
      ·have c6:IntKind.i64.wrap q.t<IntKind.i64.wrap q.b:=c6;refine aa 0 ?_;refine aj 0 ?_;refine aj 0 ?_;refine .fwd 1 ?_;refine aj 0 ?_;exact .done (lE (x:= { q with at_:=q.at_+1,x:=(M.O.ld (M.abs m) (l0 q.base q.cap q.b)).1,ok:=true,n:=(M.O.ld (M.abs m) (l0 q.base q.cap q.b)).1,ended:=true }) (by unfold fK wr wu;(repeat' split) <;> first | rfl | omega | simp_all) hm (by rw[hw];rfl))
      ·have c6:¬(IntKind.i64.wrap q.t<IntKind.i64.wrap q.b):=c6;exact .done (lE (x:= { q with at_:=q.at_+1,x:=(M.O.ld (M.abs m) (l0 q.base q.cap q.b)).1 }) (by unfold fK wr wu;(repeat' split) <;> first | rfl | omega | simp_all) hm (by rw[hw];rfl))
    ·have c4:¬(IntKind.i64.wrap ((↑q.at_:Int)+1)=4):=c4;refine ao (fun c7=>?_) (fun c7=>?_)
     ·have c7:IntKind.i64.wrap ((↑q.at_:Int)+1)=5:=c7;refine .sched [] (upto [] 25 0) (by kernel_rfl) ?_;refine aa 0 ?_;refine aa 0 ?_;refine aa 0 ?_;refine fH.mk M.hC ?_;refine M.aCas [_] hf fun m' hm=>?_;refine aj 0 ?_;exact .done (lE (x:= { q with at_:=q.at_+1,ok:=(M.O.cs (M.abs m) q.base q.t (wu (q.t+1))).1 }) (by unfold fK wr wu;(repeat' split) <;> first | rfl | omega | simp_all) hm (by rw[hw];rfl))
     ·have c7:¬(IntKind.i64.wrap ((↑q.at_:Int)+1)=5):=c7;refine fg.kZ 0 _ _ rfl rfl (fun c8=>?_) (fun c8=>?_)
      ·refine aa 0 ?_;refine aj 0 ?_;refine .fwd 1 ?_;refine .sched [5] (upto [5] 16 0) (by kernel_rfl) ?_;refine aa 0 ?_;refine aK [] (wj _ _ _) ?_;refine aa 0 ?_;refine fH.mk M.hS ?_;refine M.aStore [_] hf fun m' hm=>?_;refine aj 0 ?_;exact .done (lE (x:= { q with at_:=q.at_+1,n:=q.x,ended:=true }) (by unfold fK wr wu;(repeat' split) <;> first | rfl | omega | simp_all) hm (by rw[hw];rfl))
      ·refine .fwd 1 ?_;refine .sched [5] (upto [5] 16 0) (by kernel_rfl) ?_;refine aa 0 ?_;refine aK [] (wj _ _ _) ?_;refine aa 0 ?_;refine fH.mk M.hS ?_;refine M.aStore [_] hf fun m' hm=>?_;refine aj 0 ?_;exact .done (lE (x:= { q with at_:=q.at_+1,ended:=true }) (by unfold fK wr wu;(repeat' split) <;> first | rfl | omega | simp_all) hm (by rw[hw];rfl))
def gU(O:kC)(q:DQ)(a:O.A):DQ×O.A×Bool:=
 if q.ended then (q,a,true)
 else if q.at_=0 then ({ q with at_:=q.at_+1,t:=(O.ld a q.base).1 },(O.ld a q.base).2,false)
 else if q.at_=1 then
  (if wr (O.ld a (hG q.base)).1≤wr q.t then ({ q with at_:=q.at_+1,b:=(O.ld a (hG q.base)).1,ended:=true },(O.ld a (hG q.base)).2,true)
  else ({ q with at_:=q.at_+1,b:=(O.ld a (hG q.base)).1 },(O.ld a (hG q.base)).2,false))
 else if q.at_=2 then ({ q with at_:=q.at_+1,x:=(O.ld a (l0 q.base q.cap q.t)).1 },(O.ld a (l0 q.base q.cap q.t)).2,false)
 else ({ q with at_:=q.at_+1,ok:=(O.cs a q.base q.t (wu (q.t+1))).1,n:=if (O.cs a q.base q.t (wu (q.t+1))).1 then q.x else q.n,ended:=true },(O.cs a q.base q.t (wu (q.t+1))).2,true)
theorem I1(M:AMem)(r:Nat)(q:DQ)(m:M.S)(d:Int)(σ:Hp)(hf:M.O.free (M.abs m))(ck:q.at_≤1000)(hb:0≤q.t):ACalls Tryz.prog 403 [.ptr r 0,M.v,.int .i64 d] ((r,mz q)::(M.B m++σ)) (q9 M σ mz r (gU M.O q (M.abs m))):=by
 have hw:IntKind.i64.wrap ((q.at_:Int)+1)=((q.at_+1:Nat):Int):=by rw[IntKind.wrap_i64];omega
 refine ay Tryz.func403 ?_;refine fg.kZ 0 _ _ rfl rfl (fun h0=>?_) (fun h0=>?_)
 ·exact .done (kv (x:=q) (by simp[gU,h0]) rfl)
 refine ax [] (ec _ _ _) ?_;refine aa 0 ?_;refine aj 0 ?_;refine aa 0 ?_;refine ao (fun c1=>?_) (fun c1=>?_)
 ·have c1:IntKind.i64.wrap ((↑q.at_:Int)+1)=1:=c1;refine .sched [] (upto [] 15 0) (by kernel_rfl) ?_;refine aa 0 ?_;refine fH.mk M.hL ?_;refine M.aLoad [_] hf fun m' hm=>?_;refine aj 0 ?_;exact .done (lE (x:= { q with at_:=q.at_+1,t:=(M.O.ld (M.abs m) q.base).1 }) (by unfold gU wr wu;(repeat' split) <;> first | rfl | omega | simp_all) hm (by rw[hw];rfl))
 ·have c1:¬(IntKind.i64.wrap ((↑q.at_:Int)+1)=1):=c1;refine ao (fun c2=>?_) (fun c2=>?_)
  ·have c2:IntKind.i64.wrap ((↑q.at_:Int)+1)=2:=c2;refine .sched [6] (upto [6] 15 0) (by kernel_rfl) ?_;refine aa 0 ?_;refine aK [] (wj _ _ _) ?_;refine fH.mk M.hL ?_;refine M.aLoad [_] hf fun m' hm=>?_;refine aj 0 ?_;refine .quiet (by kernel_rfl) ?_;refine aa 0 ?_;refine aa 0 ?_;refine ao (fun c3=>?_) (fun c3=>?_)
   ·have c3:IntKind.i64.wrap (M.O.ld (M.abs m) (hG q.base)).fst≤IntKind.i64.wrap q.t:=c3;refine .fwd 1 ?_;refine aj 0 ?_;exact .done (lE (x:= { q with at_:=q.at_+1,b:=(M.O.ld (M.abs m) (hG q.base)).1,ended:=true }) (by unfold gU wr wu;(repeat' split) <;> first | rfl | omega | simp_all) hm (by rw[hw];rfl))
   ·have c3:¬(IntKind.i64.wrap (M.O.ld (M.abs m) (hG q.base)).fst≤IntKind.i64.wrap q.t):=c3;exact .done (lE (x:= { q with at_:=q.at_+1,b:=(M.O.ld (M.abs m) (hG q.base)).1 }) (by unfold gU wr wu;(repeat' split) <;> first | rfl | omega | simp_all) hm (by rw[hw];rfl))
  ·have c2:¬(IntKind.i64.wrap ((↑q.at_:Int)+1)=2):=c2;refine ao (fun c4=>?_) (fun c4=>?_)
   ·have c4:IntKind.i64.wrap ((↑q.at_:Int)+1)=3:=c4;refine .sched [11] (upto [11] 20 0) (by kernel_rfl) ?_;refine aa 0 ?_;refine aa 0 ?_;refine aK [] (NJ _ _ _ _ hb) ?_;refine fH.mk M.hL ?_;refine M.aLoad [_] hf fun m' hm=>?_;refine aj 0 ?_;exact .done (lE (x:= { q with at_:=q.at_+1,x:=(M.O.ld (M.abs m) (l0 q.base q.cap q.t)).1 }) (by unfold gU wr wu;(repeat' split) <;> first | rfl | omega | simp_all) hm (by rw[hw];rfl))
   ·have c4:¬(IntKind.i64.wrap ((↑q.at_:Int)+1)=3):=c4;refine .sched [] (upto [] 25 0) (by kernel_rfl) ?_;refine aa 0 ?_;refine aa 0 ?_;refine aa 0 ?_;refine fH.mk M.hC ?_;refine M.aCasB [_] hf (fun m' hm hb=>?_) (fun m' hm hb=>?_)
    ·refine aj 0 ?_;refine aa 0 ?_;refine aa 0 ?_;refine aj 0 ?_;refine .fwd 1 ?_;refine aj 0 ?_;exact .done (lE (x:= { q with at_:=q.at_+1,ok:=true,n:=q.x,ended:=true }) (by unfold gU wr wu;(repeat' split) <;> first | rfl | omega | simp_all) hm (by rw[hw];rfl))
    ·refine aj 0 ?_;refine aa 0 ?_;refine .fwd 1 ?_;refine aj 0 ?_;exact .done (lE (x:= { q with at_:=q.at_+1,ok:=false,ended:=true }) (by unfold gU wr wu;(repeat' split) <;> first | rfl | omega | simp_all) hm (by rw[hw];rfl))
theorem agd(p q:Nat)(ws:List Int)(b c:Int)(σ:Hp):ACalls Tryz.prog 161 [.agg [.int .i64 b,.int .i64 c],ny p] (cm p q ws σ) (aC (.tup []) (cm p q (iE (iE ws b 1) (hG b) 1) σ)):=by
 refine ay Tryz.func161 ?_;intro aF;refine ax [] (ec _ _ _) ?_;refine aa 0 ?_;refine⟨_,mStore_,?_⟩;refine ax [2,2] (aStore p q _ _ _ _) ?_;refine .sched [2] (upto [2] 7 0) (by kernel_rfl) ?_;refine aa 2 ?_;refine aK [] (wj _ _ _) ?_;refine fH.mk hStore_ ?_;refine⟨_,mStore_,?_⟩;refine ax [] (aStore p q _ _ _ _) ?_;exact .drop 2 1 (.done ⟨rfl,rfl⟩)
set_option maxHeartbeats 4000000
theorem Is{ws:List Int}(h:bh ws)(a:Int):bK (gY ws a):=by
 unfold gY;split
 ·exact⟨by decide,by decide⟩
 ·rw[aZ];cases hq:ws[a.toNat]? with
  |none=>exact⟨by decide,by decide⟩
  |some x=>exact h x (bU hq)
theorem QI(a:List Int)(i:Nat)(σ:Hp):ACalls Tryz.prog 213 [.ah (.int .u64) a,.int .i64 i] σ (aC (.int .u64 (wd a i)) σ):=by
 refine ay Tryz.func213 ?_;refine ao (fun h=>?_) (fun h=>?_)
 ·have h:(a.length:Int)≤i:=h;exact .done ⟨aT (by simp[wd,List.getElem?_eq_none (show a.length≤i by omega)]),rfl⟩
 ·have h:¬(a.length:Int)≤i:=h;have hi:i<a.length:=by omega
  refine aJ.mk rfl (bO.mk a[i] (by omega) (get_some hi) ?_);exact .done ⟨aT (by simp[wd,hi]),rfl⟩
def cw(n:Int):Nat:=(min (max n 0) 1024).toNat
theorem BZ(n:Int):cw n≤1024:=by unfold cw;omega
theorem ahl(n:Int):(if (1024:Int)<(if n<0 then 0 else n) then (1024:Int) else (if n<0 then 0 else n))=((cw n:Nat):Int):=by
 unfold cw
 by_cases h:n<0
 ·simp only[af h];omega
 ·simp only[ag h];split <;> omega
theorem oV(b w n:Int)(σ:Hp):ACalls Tryz.prog 163 [.agg [.int .i64 b,.int .i64 w,.int .i64 n]] σ (aC (.int .i64 (cw n)) σ):=by
 refine ay Tryz.func163 ?_;intro aF;refine aa 0 ?_;exact .drop 0 1 (.done ⟨aT (ahl n),rfl⟩)
structure Jn where
 base:Int
 what:Int
 words:Int
 a:List Int
 changed:Bool
 ended:Bool
 tries:Int
 at_:Nat
 fM:Bool
 x:Int
def As(j:Jn):List AV:=[.int .i64 j.base,.int .i64 j.what,.int .i64 j.words,.ah (.int .u64) j.a,.bool j.changed,.bool j.ended,.int .i64 j.tries,.int .i64 j.at_,.bool j.fM,.int .u64 j.x]
def ic(j:Jn):Jn×Bool:=if j.at_+1<cw j.words then ({ j with at_:=j.at_+1 },false) else ({ j with at_:=j.at_+1,ended:=true },true)
def iO(O:kC)(j:Jn)(a:O.A):Jn×O.A×Bool:=
 if j.ended then (j,a,true)
 else if j.at_=cw j.words then ({ j with ended:=true },a,true)
 else if j.fM then
  (if (O.cs a (wr (j.base+j.at_)) j.x (da j.what j.x (wd j.a j.at_))).1 then ((ic { j with fM:=false,changed:=true }).1,(O.cs a (wr (j.base+j.at_)) j.x (da j.what j.x (wd j.a j.at_))).2,(ic { j with fM:=false,changed:=true }).2)
  else ({ j with fM:=false,tries:=wr (j.tries+1) },(O.cs a (wr (j.base+j.at_)) j.x (da j.what j.x (wd j.a j.at_))).2,false))
 else if da j.what (O.ld a (wr (j.base+j.at_))).1 (wd j.a j.at_)=(O.ld a (wr (j.base+j.at_))).1 then ((ic { j with x:=(O.ld a (wr (j.base+j.at_))).1 }).1,(O.ld a (wr (j.base+j.at_))).2,(ic { j with x:=(O.ld a (wr (j.base+j.at_))).1 }).2)
 else ({ j with x:=(O.ld a (wr (j.base+j.at_))).1,fM:=true },(O.ld a (wr (j.base+j.at_))).2,false)
theorem IP{M:AMem}{σ:Hp}{X:Type}{B:X→List AV}{r:Nat}{res:X×M.O.A×Bool}{x:X}{a:M.O.A}{b:Bool}{m':M.S}{cs:List AV}(h:res=(x,a,b))(hm:M.abs m'=a)(hc:cs=B x):q9 M σ B r res (.bool b) ((r,cs)::(M.B m'++σ)):=by
 subst hc;exact kv h hm
theorem Jo(M:AMem)(r:Nat)(j:Jn)(m:M.S)(d:Int)(σ:Hp)(hf:M.O.free (M.abs m))(ck:j.at_≤2000):ACalls Tryz.prog 407 [.ptr r 0,M.v,.int .i64 d] ((r,As j)::(M.B m++σ)) (q9 M σ As r (iO M.O j (M.abs m))):=by
 refine ay Tryz.func407 ?_;have hw:IntKind.i64.wrap ((j.at_:Int)+1)=((j.at_+1:Nat):Int):=by rw[IntKind.wrap_i64];omega
 refine fg.kZ 0 _ _ rfl rfl (fun h0=>?_) (fun h0=>?_)
 ·exact .done (kv (x:=j) (by simp[iO,h0]) rfl)
 refine ax [] (ec _ _ _) ?_;refine .quiet (by kernel_rfl) ?_;refine aa 0 ?_;refine aa 0 ?_;refine aK [] (oV _ _ _ _) ?_;refine ao (fun c1=>?_) (fun c1=>?_)
 ·have c1:(j.at_:Int)=cw j.words:=c1;have c1:j.at_=cw j.words:=by omega
  refine .fwd 1 ?_;refine aj 0 ?_;exact .done (kv (x:= { j with ended:=true }) (by simp[iO,h0,c1]) rfl)
 ·have c1:¬(j.at_:Int)=cw j.words:=c1;have c1:¬j.at_=cw j.words:=by omega
  refine fg.kZ 0 _ _ rfl rfl (fun c2=>?_) (fun c2=>?_)
  ·refine aj 0 ?_;refine .sched [36,37] (upto [36,37] 43 0) (by kernel_rfl) ?_;refine aa 0 ?_;refine aa 0 ?_;refine aa 0 ?_;refine aa 0 ?_;refine aa 0 ?_;refine aa 0 ?_;refine aa 0 ?_;refine aK [] (QI _ _ _) ?_;refine aK [] (Xy _ _ _ _) ?_;refine fH.mk M.hC ?_;refine M.aCasB [_] hf (fun m' hm hb=>?_) (fun m' hm hb=>?_)
   ·refine aj 0 ?_;refine .fwd 1 ?_;refine aa 0 ?_;refine aj 0 ?_;refine .quiet (by kernel_rfl) ?_;refine aa 0 ?_;refine aa 0 ?_;refine aK [] (oV _ _ _ _) ?_;refine ao (fun c3=>?_) (fun c3=>?_)
    ·have c3:IntKind.i64.wrap (↑j.at_+1) < ↑(cw j.words):=c3;exact .done (IP (x:= { j with fM:=false,changed:=true,at_:=j.at_+1 }) (by simp[iO,h0,c1,c2,hb,ic,show j.at_+1<cw j.words by omega]) hm (by rw[hw];rfl))
    ·have c3:¬(IntKind.i64.wrap (↑j.at_+1) < ↑(cw j.words)):=c3;refine aj 0 ?_;exact .done (IP (x:= { j with fM:=false,changed:=true,at_:=j.at_+1,ended:=true }) (by simp[iO,h0,c1,c2,hb,ic,show ¬j.at_+1<cw j.words by omega]) hm (by rw[hw];rfl))
   ·refine aa 0 ?_;refine aj 0 ?_;exact .done (kv (x:= { j with fM:=false,tries:=wr (j.tries+1) }) (by simp[iO,h0,c1,c2,hb]) hm)
  ·refine .sched [] (upto [] 21 0) (by kernel_rfl) ?_;refine aa 0 ?_;refine aa 0 ?_;refine fH.mk M.hL ?_;refine M.aLoad [_] hf fun m' hm=>?_;refine aj 0 ?_;refine .quiet (by kernel_rfl) ?_;refine aa 0 ?_;refine aa 0 ?_;refine aa 0 ?_;refine aa 0 ?_;refine aK [] (QI _ _ _) ?_;refine aK [] (Xy _ _ _ _) ?_;refine aa 0 ?_;refine dX (fun c4=>?_) (fun c4=>?_)
   ·have c4:¬(da j.what (M.O.ld (M.abs m) (IntKind.i64.wrap (j.base + ↑j.at_))).fst (wd j.a j.at_)=(M.O.ld (M.abs m) (IntKind.i64.wrap (j.base + ↑j.at_))).fst):=by simpa using c4
    refine aj 0 ?_;exact .done (kv (x:= { j with x:=(M.O.ld (M.abs m) (wr (j.base+j.at_))).1,fM:=true }) (by simp[iO,h0,c1,c2,c4]) hm)
   ·have c4:da j.what (M.O.ld (M.abs m) (IntKind.i64.wrap (j.base + ↑j.at_))).fst (wd j.a j.at_)=(M.O.ld (M.abs m) (IntKind.i64.wrap (j.base + ↑j.at_))).fst:=by simpa using c4
    refine aa 0 ?_;refine aj 0 ?_;refine .quiet (by kernel_rfl) ?_;refine aa 0 ?_;refine aa 0 ?_;refine aK [] (oV _ _ _ _) ?_;refine ao (fun c5=>?_) (fun c5=>?_)
    ·have c5:IntKind.i64.wrap (↑j.at_+1) < ↑(cw j.words):=c5;exact .done (IP (x:= { j with x:=(M.O.ld (M.abs m) (wr (j.base+j.at_))).1,at_:=j.at_+1 }) (by simp[iO,h0,c1,c2,c4,ic,show j.at_+1<cw j.words by omega]) hm (by rw[hw];rfl))
    ·have c5:¬(IntKind.i64.wrap (↑j.at_+1) < ↑(cw j.words)):=c5;refine aj 0 ?_;exact .done (IP (x:= { j with x:=(M.O.ld (M.abs m) (wr (j.base+j.at_))).1,at_:=j.at_+1,ended:=true }) (by simp[iO,h0,c1,c2,c4,ic,show ¬j.at_+1<cw j.words by omega]) hm (by rw[hw];rfl))
def Ca(base:Int)(a:List Int)(ws:List Int):Nat→List Int
 | 0=>ws
 |k+1=>iE (Ca base a ws k) (wr (base+k)) (wd a k)
theorem ajR(p q:Nat)(ws:List Int)(b w n:Int)(a:List Int)(σ:Hp):ACalls Tryz.prog 159 [.agg [.int .i64 b,.int .i64 w,.int .i64 n],ny p,.ah (.int .u64) a] (cm p q ws σ) (aC (.tup []) (cm p q (Ca b a ws (cw n)) σ)):=by
 have hc:=BZ n;refine ay Tryz.func159 ?_;intro aF;refine ax [] (ec _ _ _) ?_;refine aa 0 ?_;refine ax [] (oV _ _ _ _) ?_;refine ca (S:=Nat) (fun s=>[(1,ny p),(2,.ah (.int .u64) a),(3,.ptr aF 0),(10,.int .i64 (cw n)),(11,.int .i64 s)]) (fun s=>(aF,[.int .i64 b,.int .i64 w,.int .i64 n])::cm p q (Ca b a ws s) σ) (fun s=>s≤cw n) (fun s=>cw n-s) 0 ⟨bC _,⟨rfl,rfl,rfl,rfl,rfl,trivial⟩,rfl⟩ ?_;intro k g hk;refine ao (fun h=>?_) (fun h=>?_)
 ·have h:(k:Int)<cw n:=h;refine .sched [7] (upto [7] 12 0) (by kernel_rfl) ?_;refine aa 0 ?_;refine aK [] (QI _ _ _) ?_;refine fH.mk hStore_ ?_;refine⟨_,mStore_,?_⟩;refine ax [2,2] (aStore p q _ _ _ _) ?_;refine a8 (k+1) ?_ ?_ ⟨rfl,rfl,rfl,rfl,aX (by omega),trivial⟩ (.pull [2] (aL rfl))
  ·show cw n-(k+1)<cw n-k;omega
  ·show k+1≤cw n;omega
 ·have h:¬(k:Int)<cw n:=h;obtain rfl:k=cw n:=by omega
  exact .drop 0 1 (.done ⟨rfl,rfl⟩)
def qo(base:Int)(ws:List Int)(k:Nat):List Int:=(List.range k).map fun i=>gY ws (wr (base+(i:Nat)))
theorem Zn(base:Int)(ws:List Int)(k:Nat):(qo base ws k).length=k:=by unfold qo;rw[bX,oL]
theorem abu(base:Int)(ws:List Int)(k:Nat):qo base ws (k+1)=qo base ws k++[gY ws (wr (base+k))]:=by unfold qo;rw[sM,cF];rfl
theorem ajW(p q:Nat)(ws:List Int)(b w n:Int)(σ:Hp):ACalls Tryz.prog 107 [.agg [.int .i64 b,.int .i64 w,.int .i64 n],ny p] (cm p q ws σ) (aC (.ah (.int .u64) (qo b ws (cw n))) (cm p q ws σ)):=by
 have hc:=BZ n;refine ay Tryz.func107 ?_;intro aF;refine ax [] (ec _ _ _) ?_;refine aa 0 ?_;refine ax [] (oV _ _ _ _) ?_;refine .wrap 5 _ rfl rfl ?_;refine ca (S:=Nat×AV×Hp) (fun s=>[(1,ny p),(2,.ptr aF 0),(5,.via s.2.1),(10,.int .i64 (cw n)),(11,.int .i64 s.1)]) (fun s=>(aF,[.int .i64 b,.int .i64 w,.int .i64 n])::(s.2.2++cm p q ws σ)) (fun s=>s.1≤cw n∧Acc 1 s.1 s.2.1 s.2.2 (aR (qo b ws s.1))) (fun s=>cw n-s.1) (0,.an,[]) ⟨⟨bC _,.nil⟩,⟨rfl,rfl,rfl,rfl,rfl,trivial⟩,rfl⟩ ?_;rintro⟨k,v,acc⟩ g ⟨hk,cj⟩;have hk:k≤cw n:=hk;have cj:Acc 1 k v acc (aR (qo b ws k)):=cj;refine ao (fun h=>?_) (fun h=>?_)
 ·have h:(k:Int)<cw n:=h;refine aa 0 ?_;refine⟨_,mLoad_,?_⟩;refine .perm (σ2:=cm p q ws ((aF,[.int .i64 b,.int .i64 w,.int .i64 n])::(acc++σ))) _ ?_ (aLoad p q ws _ _) ?_
  ·exact fS ((aF,[.int .i64 b,.int .i64 w,.int .i64 n])::acc) [_,_] σ
  rintro _ _ ⟨rfl,rfl⟩;refine⟨_,(fS ((aF,[.int .i64 b,.int .i64 w,.int .i64 n])::acc) [_,_] σ).symm,?_⟩;intro dJ;refine iC [_,_] cj (.ae 0 dJ 0 1 _ rfl (cy rfl)) rfl (by omega) (by decide) (by decide) (fun v' aY h'=>?_);refine a8 (k+1,v',aY) ?_ ⟨?_,?_⟩ ⟨rfl,rfl,rfl,rfl,aX (by omega),trivial⟩ (.drop 0 1 (aL rfl))
  ·show cw n-(k+1)<cw n-k;omega
  ·show k+1≤cw n;omega
  ·show Acc 1 (k+1) v' aY (aR (qo b ws (k+1)));rw[abu,aR,cF];exact h'
 ·have h:¬(k:Int)<cw n:=h;obtain rfl:k=cw n:=by omega
  refine .drop 0 1 ?_;exact rX (s:=.int .u64) (l:=qo b ws (cw n)) [] cj (Zn b ws _).symm (by rw[lA]) (by decide) (.done ⟨rfl,rfl⟩)
def kF(v:AV)(base what words:Int)(ended:Bool)(at_:Nat)(fM:Bool)(x:Int):List AV:=[.int .i64 base,.int .i64 what,.int .i64 words,v,.bool ended,.int .i64 at_,.bool fM,.int .u64 x]
inductive lv:AV→Hp→List Int→Prop where
 |nil:lv .an [] []
 |ae (b:Nat) (l:List Int):lv (.ae b 0 l.length 1) [(b,aR l)] l
theorem lv.push(b:Nat)(l:List Int)(x:Int):lv (.ae b 0 (l.length+1) 1) [(b,(aR l).take (l.length*1)++[.int .u64 x])] (l++[x]):=by
 have h:=lv.ae b (l++[x]);have e1:(l++[x]).length=l.length+1:=by simp
 have e2:aR (l++[x])=(aR l).take (l.length*1)++[.int .u64 x]:=by rw[List.take_of_length_le (by simp[aR])];simp[aR]
 rw[e1,e2]at h;exact h
theorem acd(σ:Hp):ACalls Tryz.prog 256 [.an] σ (aC .an σ):=by
 refine ay Tryz.func256 ?_;exact .done ⟨rfl,rfl⟩
theorem DM(b k:Nat)(cs:List AV)(σ:Hp)(hm:(b,cs)∈σ)(h:cs.length=k*1)(hl:k≤1000000):ACalls Tryz.prog 256 [.ae b 0 k 1] σ (fun x σ'=>∃b',x=.ae b' 0 k 1∧σ'=(b',cs)::σ):=by
 refine ay Tryz.func256 ?_;intro b2;refine AppendAt.more 0 b2 0 k [] ((cs.drop 0).take (k*1)) rfl rfl (cy rfl) (.mem (cQ _ hm) (by show 0+k*1≤cs.length;omega)) (by omega) (by decide) (by decide) (fun b'=>?_);refine .done ⟨b',by rw[dI];rfl,?_⟩;show (b',List.take (0*1) []++(cs.drop 0).take (k*1))::σ=_;rw[show (cs.drop 0).take (k*1)=cs by rw[gR,eR (by omega)]];rfl
structure Lay where
 what:Int
 words:Int
 n:Int
 k:Int
def ik(l:Lay):List AV:=[.int .i64 l.what,.int .i64 l.words,.int .i64 l.n,.int .i64 l.k]
def de(l:Lay):Int:=wr (l.n*l.words)
def dA(l:Lay):Int:=wr (de l+l.n)
def eM(l:Lay):Int:=wr (l.n+1)
def jr(l:Lay)(w:Int):Int:=wr (wr (dA l+1)+wr (w*((2+rm (eM l):Nat):Int)))
def bc(l:Lay)(v:Int):Int:=wr (v*l.words)
def je(s:Sy)(k:Int):Lay:=⟨lP (cM s k) s.what,lP (cM s k) (eG s.what s.w),lP (cM s k) s.n,lP (cM s k) k⟩
theorem afY(n:Int)(σ:Hp):ACalls Tryz.prog 87 [.int .i64 n] σ (aC (.int .i64 ((2+rm n:Nat):Int)) σ):=by
 have h:=wC n;refine ay Tryz.func87 ?_;refine ax [] (Oi _ _) ?_;exact .done ⟨aT (by rw[IntKind.wrap_i64];omega),rfl⟩
theorem WX(l:Lay)(σ:Hp):ACalls Tryz.prog 108 [.agg (ik l)] σ (aC (.int .i64 (de l)) σ):=by
 refine ay Tryz.func108 ?_;intro aF;refine aa 0 ?_;refine aa 0 ?_;exact .drop 0 1 (.done ⟨rfl,rfl⟩)
theorem V1(l:Lay)(σ:Hp):ACalls Tryz.prog 109 [.agg (ik l)] σ (aC (.int .i64 (dA l)) σ):=by
 refine ay Tryz.func109 ?_;intro aF;refine .quiet (by kernel_rfl) ?_;refine aa 0 ?_;refine aK [] (WX l _) ?_;refine aa 0 ?_;exact .drop 0 1 (.done ⟨rfl,rfl⟩)
theorem NN(l:Lay)(σ:Hp):ACalls Tryz.prog 88 [.agg (ik l)] σ (aC (.int .i64 (eM l)) σ):=by
 refine ay Tryz.func88 ?_;intro aF;refine aa 0 ?_;exact .drop 0 1 (.done ⟨rfl,rfl⟩)
theorem Er(l:Lay)(w:Int)(σ:Hp):ACalls Tryz.prog 52 [.agg (ik l),.int .i64 w] σ (aC (.agg [.int .i64 (jr l w),.int .i64 (eM l)]) σ):=by
 refine ay Tryz.func52 ?_;intro aF;intro dJ;refine .sched [1,5,6,10] (upto [1,5,6,10] 13 0) (by kernel_rfl) ?_;refine aa 1 ?_;refine aK [] (V1 l _) ?_;refine aa 1 ?_;refine aK [] (NN l _) ?_;refine aK [] (afY _ _) ?_;refine aa 1 ?_;refine aK [] (NN l _) ?_;refine aj 0 ?_;refine aa 0 ?_;exact .drop 0 2 (.done ⟨rfl,rfl⟩)
theorem Nj(l:Lay)(σ:Hp):ACalls Tryz.prog 45 [.agg (ik l)] σ (aC (.agg [.int .i64 (de l),.int .i64 (dA l)]) σ):=by
 refine ay Tryz.func45 ?_;intro aF;intro dJ;refine .sched [1,3] (upto [1,3] 6 0) (by kernel_rfl) ?_;refine aa 1 ?_;refine aK [] (WX l _) ?_;refine aa 1 ?_;refine aK [] (V1 l _) ?_;refine aj 0 ?_;refine aa 0 ?_;exact .drop 0 2 (.done ⟨rfl,rfl⟩)
theorem I4(l:Lay)(v:Int)(σ:Hp):ACalls Tryz.prog 106 [.agg (ik l),.int .i64 v] σ (aC (.agg [.int .i64 (bc l v),.int .i64 l.what,.int .i64 l.words]) σ):=by
 refine ay Tryz.func106 ?_;intro aF;intro dJ;refine aa 1 ?_;refine aa 1 ?_;refine aa 1 ?_;refine aj 0 ?_;refine aa 0 ?_;exact .drop 0 2 (.done ⟨rfl,rfl⟩)
theorem WT(l:Lay)(σ:Hp):ACalls Tryz.prog 96 [.agg (ik l)] σ (aC (.int .i64 (jr l l.k)) σ):=by
 refine ay Tryz.func96 ?_;intro aF;refine aa 0 ?_;refine aa 0 ?_;refine ax [] (Er l _ _) ?_;exact .drop 0 1 (.done ⟨rfl,rfl⟩)
theorem NM(s:Sy)(k:Int)(σ:Hp)(hf:Fit s):ACalls Tryz.prog 37 [.agg (cc s),.int .i64 k] σ (aC (.tup [.agg (ik (je s k)),.int .i64 (cM s k)]) σ):=by
 refine ay Tryz.func37 ?_;intro aF;intro dJ;refine aa 1 ?_;refine ax [] (HL s _ hf) ?_;refine dX (fun c3=>?_) (fun c3=>?_)
 ·have c3:¬(dT s=0):=by simpa using c3
  refine aj 0 ?_;refine aa 0 ?_;exact .drop 0 2 (.done ⟨adh (by assumption),rfl⟩)
 ·have c3:dT s=0:=by simpa using c3
  refine ao (fun c4=>?_) (fun c4=>?_)
  ·have c4:k<1:=c4;refine aj 0 ?_;refine aa 0 ?_;exact .drop 0 2 (.done ⟨Uk (by assumption) (by omega),rfl⟩)
  ·have c4:¬(k<1):=c4;refine ao (fun c5=>?_) (fun c5=>?_)
   ·have c5:64<k:=c5;refine aj 0 ?_;refine aa 0 ?_;exact .drop 0 2 (.done ⟨Uk (by assumption) (by omega),rfl⟩)
   ·have c5:¬(64<k):=c5;refine .sched [6] (upto [6] 13 0) (by kernel_rfl) ?_;refine aa 1 ?_;refine aa 1 ?_;refine aa 1 ?_;refine aK [] (Ep _ _ _) ?_;refine aa 1 ?_;refine aj 0 ?_;refine aa 0 ?_;exact .drop 0 2 (.done ⟨afn (by assumption) (by omega),rfl⟩)
inductive Nw where
 |none
 |pop (q:DQ)
 |cu (q:DQ)
 |quiet (t:Qk)
 |clear (t:Ck)
 |read (l:List Int)
 |join (j:Jn)
 |take (t:Tk)
 |push (q:DQ)
 |dK (t:Rk)
structure WS where
 ev:Int
 jo:Int
 en:Bool
 does:Int
 now:Nw
 node:Int
 has:Bool
 nx:List Int
 out:List Int
abbrev er(s:Sy)(l:Lay)(who ev jo:Int)(en:Bool)(does:Int)(nv:AV)(node:Int)(has:Bool)(nx out:List Int):List AV:=
 [.int .i64 ev,.int .i64 jo,.bool en,.int .i64 s.what,.int .i64 s.w,.int .i64 s.n,.ah dO s.aN,.ah (.int .i64) s.entry,.ah (.int .u64) s.init,.ah mC s.T,.int .i64 l.what,.int .i64 l.words,.int .i64 l.n,.int .i64 l.k,.int .i64 who,.int .i64 does,nv,.int .i64 node,.bool has,.ah (.int .i64) nx,.ah (.int .u64) out,.bool true]
theorem NO(w:Nat)(s:Sy)(l:Lay)(who ev jo:Int)(en:Bool)(does:Int)(nv:AV)(node:Int)(has:Bool)(nx out:List Int)(σ:Hp):ACalls Tryz.prog 396 [.ptr w 0] ((w,er s l who ev jo en does nv node has nx out)::σ) (aC (.bool (decide (l.k<2))) ((w,er s l who ev jo en does nv node has nx out)::σ)):=by
 refine ay Tryz.func396 ?_;refine aa 0 ?_;refine ao (fun c1=>?_) (fun c1=>?_)
 ·have c1:l.k<2:=c1;exact .done ⟨cY (bu (by assumption)).symm,rfl⟩
 ·have c1:¬(l.k<2):=c1;exact .done ⟨cY (cf (by assumption)).symm,rfl⟩
def nK(l:Lay):Int:=wr (l.k-1)
def D7(l:Lay)(who d:Int):Int:=(wr (wr (who+1)+(wr (d.tmod (nK l)+nK l)).tmod (nK l))).tmod l.k
theorem ag3(w:Nat)(s:Sy)(l:Lay)(who ev jo:Int)(en:Bool)(does:Int)(nv:AV)(node:Int)(has:Bool)(nx out:List Int)(d:Int)(σ:Hp)(h1:nK l≠0)(h2:l.k≠0):ACalls Tryz.prog 393 [.ptr w 0,.int .i64 d] ((w,er s l who ev jo en does nv node has nx out)::σ) (aC (.int .i64 (D7 l who d)) ((w,er s l who ev jo en does nv node has nx out)::σ)):=by
 refine ay Tryz.func393 ?_;refine aa 0 ?_;refine .quiet (by kernel_rfl) ?_;refine aa 0 ?_;refine aJ.mk h1 ?_;refine aJ.mk h1 ?_;refine aa 0 ?_;refine aJ.mk h2 ?_;exact .done ⟨rfl,rfl⟩
def pV(l:Lay)(n:Int):Int:=if wu l.n≤n then 0 else wr n
def rW(l:Lay)(n:Int):Int:=if wu l.n≤n then 8 else 3
theorem Yf(w:Nat)(s:Sy)(l:Lay)(who ev jo:Int)(en:Bool)(does:Int)(nv:AV)(node:Int)(has:Bool)(nx out:List Int)(n:Int)(σ:Hp):ACalls Tryz.prog 394 [.ptr w 0,.int .u64 n] ((w,er s l who ev jo en does nv node has nx out)::σ) (aC (.int .i64 (rW l n)) ((w,er s l who ev jo en does nv (pV l n) true nx out)::σ)):=by
 refine ay Tryz.func394 ?_;refine aj 0 ?_;refine aj 0 ?_;refine aa 0 ?_;refine ao (fun c1=>?_) (fun c1=>?_)
 ·have c1:IntKind.u64.wrap l.n≤n:=c1;exact .done ⟨aT (af c1).symm,congrArg (fun z=>(w,er s l who ev jo en does nv z true nx out)::σ) (show _=pV l n from (af c1).symm)⟩
 ·have c1:¬(IntKind.u64.wrap l.n≤n):=c1;refine aj 0 ?_;exact .done ⟨aT (ag c1).symm,congrArg (fun z=>(w,er s l who ev jo en does nv z true nx out)::σ) (show _=pV l n from (ag c1).symm)⟩
def rT(l:Lay):Int:=if l.k<2 then 2 else 1
theorem ahK(w:Nat)(s:Sy)(l:Lay)(who ev jo:Int)(en:Bool)(does:Int)(nv:AV)(node:Int)(has:Bool)(nx out:List Int)(σ:Hp):ACalls Tryz.prog 395 [.ptr w 0] ((w,er s l who ev jo en does nv node has nx out)::σ) (aC (.int .i64 (rT l)) ((w,er s l who ev jo en does nv node has nx out)::σ)):=by
 refine ay Tryz.func395 ?_;refine eY [] (NO w s l who ev jo en does nv node has nx out _) (fun c=>?_) (fun c=>?_)
 ·exact .done ⟨aT (af (fP c)).symm,rfl⟩
 ·exact .done ⟨aT (ag (qE c)).symm,rfl⟩
def kP(nx:List Int):Int:=if nx.tail.length=0 then 8 else 5
theorem Nk(w:Nat)(s:Sy)(l:Lay)(who ev jo:Int)(en:Bool)(does:Int)(nv:AV)(node:Int)(has:Bool)(nx out:List Int)(σ:Hp)(hx:0<nx.length):ACalls Tryz.prog 398 [.ptr w 0] ((w,er s l who ev jo en does nv node has nx out)::σ) (aC (.int .i64 (kP nx)) ((w,er s l who ev jo en does nv node has nx.tail out)::σ)):=by
 refine ay Tryz.func398 ?_;cases nx with
 |nil=>simp at hx
 |cons z nx=>
  refine aa 0 ?_;refine aJ.mk ⟨by decide,Int.ofNat_le.2 (Nat.succ_le_succ (bC _)),kl _,rfl⟩ ?_;have e:((z::nx).drop ((1:Int)).toNat).take ((((z::nx).length:Nat):Int).toNat-((1:Int)).toNat)=nx:=by simp
  refine aj 0 ?_;refine aa 0 ?_;refine ao (fun c1=>?_) (fun c1=>?_)
  ·have c1:(↑(List.take ((↑(z::nx).length:Int).toNat-Int.toNat 1) (List.drop (Int.toNat 1) (z::nx))).length:Int)=0:=c1;have c2:(nx.length:Int)=0:=(congrArg (fun z:List Int=>(z.length:Int)) e).symm.trans c1;exact .done ⟨aT (af (show nx.length=0 by omega)).symm,congrArg (fun z=>(w,er s l who ev jo en does nv node has z out)::σ) e⟩
  ·have c1:¬((↑(List.take ((↑(z::nx).length:Int).toNat-Int.toNat 1) (List.drop (Int.toNat 1) (z::nx))).length:Int)=0):=c1;have c2:¬(nx.length:Int)=0:=fun h=>c1 ((congrArg (fun z:List Int=>(z.length:Int)) e).trans h);exact .done ⟨aT (ag (show ¬nx.length=0 by omega)).symm,congrArg (fun z=>(w,er s l who ev jo en does nv node has z out)::σ) e⟩
def wk(s:Sy)(node:Int):Int:=if (aw s.n s.aN node).length=0 then 8 else 5
theorem ahD(w:Nat)(s:Sy)(l:Lay)(who ev jo:Int)(en:Bool)(does:Int)(nv:AV)(node:Int)(has:Bool)(nx out x:List Int)(σ:Hp)(hf:Fit s)(hx:bh x)(lx:x.length≤10000):ACalls Tryz.prog 397 [.ptr w 0,.ah (.int .u64) x] ((w,er s l who ev jo en does nv node has nx out)::σ) (aC (.int .i64 (wk s node)) ((w,er s l who (wr (ev+1)) jo en does nv node has (aw s.n s.aN node) (tA (qj s node x) (iS s x node.toNat)))::σ)):=by
 refine ay Tryz.func397 ?_;refine aa 0 ?_;refine aj 0 ?_;refine .sched [10] (upto [10] 17 0) (by kernel_rfl) ?_;refine aa 0 ?_;refine aa 0 ?_;refine aK [] (ag7 s node x _ hf hx lx) ?_;refine aj 0 ?_;refine .sched [15] (upto [15] 19 0) (by kernel_rfl) ?_;refine aa 0 ?_;refine aa 0 ?_;refine aa 0 ?_;refine aK [] (B4 s.n s.aN node _ hf.yE) ?_;refine aj 0 ?_;refine aa 0 ?_;refine ao (fun c1=>?_) (fun c1=>?_)
 ·have c1:(↑(aw s.n s.aN node).length:Int)=0:=c1;exact .done ⟨aT (af (show (aw s.n s.aN node).length=0 by omega)).symm,rfl⟩
 ·have c1:¬((↑(aw s.n s.aN node).length:Int)=0):=c1;exact .done ⟨aT (ag (show ¬(aw s.n s.aN node).length=0 by omega)).symm,rfl⟩
def Kb(r:Nat):Nw→AV
 |.none=>.nilif
 |.pop _=>.iface 399 (.ptr r 0)
 |.cu _=>.iface 404 (.ptr r 0)
 |.quiet _=>.iface 406 (.ptr r 0)
 |.clear _=>.iface 409 (.ptr r 0)
 |.read _=>.iface 412 (.ptr r 0)
 |.join _=>.iface 417 (.ptr r 0)
 |.take _=>.iface 420 (.ptr r 0)
 |.push _=>.iface 425 (.ptr r 0)
 |.dK _=>.iface 427 (.ptr r 0)
def Kc(l:Lay)(node:Int)(r:Nat)(c:AV)(acc:Hp):Nw→Hp
 |.none=>[]
 |.pop q=>[(r,mz q)]
 |.cu q=>[(r,mz q)]
 |.quiet t=>[(r,FM t)]
 |.clear t=>[(r,GU t)]
 |.read x=>(r,kF c (bc l node) l.what l.words false x.length false 0)::acc
 |.join j=>[(r,As j)]
 |.take t=>[(r,Am t)]
 |.push q=>[(r,mz q)]
 |.dK t=>[(r,FK t)]
def vM(base cap n:Int):DQ:=⟨base,cap,n,false,false,0,0,0,0⟩
def ji(l:Lay)(who does node:Int)(nx out:List Int)(d:Int):Nw:=
 if does=0 then .pop (vM (jr l who) (eM l) 0)
 else if does=1 then .cu (vM (jr l (D7 l who d)) (eM l) 0)
 else if does=2 then .quiet ⟨de l,dA l,false,false⟩
 else if does=3 then .clear ⟨de l,dA l,node,false⟩
 else if does=4 then .read []
 else if does=5 then .join ⟨bc l (nx.headD 0),l.what,l.words,out,false,false,0,0,false,0⟩
 else if does=6 then .take ⟨de l,dA l,nx.headD 0,false,false,false⟩
 else if does=7 then .push (vM (jr l who) (eM l) (wu (nx.headD 0)))
 else .dK ⟨de l,dA l,0,false⟩
theorem JX{l:Lay}{who does node d:Int}{nx out:List Int}(h:does=0):ji l who does node nx out d=.pop (vM (jr l who) (eM l) 0):=by subst h;rfl
theorem JW{l:Lay}{who does node d:Int}{nx out:List Int}(h:does=1):ji l who does node nx out d=.cu (vM (jr l (D7 l who d)) (eM l) 0):=by subst h;rfl
theorem JV{l:Lay}{who does node d:Int}{nx out:List Int}(h:does=2):ji l who does node nx out d=.quiet ⟨de l,dA l,false,false⟩:=by subst h;rfl
theorem JU{l:Lay}{who does node d:Int}{nx out:List Int}(h:does=3):ji l who does node nx out d=.clear ⟨de l,dA l,node,false⟩:=by subst h;rfl
theorem JT{l:Lay}{who does node d:Int}{nx out:List Int}(h:does=4):ji l who does node nx out d=.read []:=by subst h;rfl
theorem JS{l:Lay}{who does node d:Int}{nx out:List Int}(h:does=5):ji l who does node nx out d=.join ⟨bc l (nx.headD 0),l.what,l.words,out,false,false,0,0,false,0⟩:=by subst h;rfl
theorem JR{l:Lay}{who does node d:Int}{nx out:List Int}(h:does=6):ji l who does node nx out d=.take ⟨de l,dA l,nx.headD 0,false,false,false⟩:=by subst h;rfl
theorem JQ{l:Lay}{who does node d:Int}{nx out:List Int}(h:does=7):ji l who does node nx out d=.push (vM (jr l who) (eM l) (wu (nx.headD 0))):=by subst h;rfl
theorem JP{l:Lay}{who does node d:Int}{nx out:List Int}(h0:¬does=0)(h1:¬does=1)(h2:¬does=2)(h3:¬does=3)(h4:¬does=4)(h5:¬does=5)(h6:¬does=6)(h7:¬does=7):ji l who does node nx out d=.dK ⟨de l,dA l,0,false⟩:=by
 unfold ji;rw[ag h0,ag h1,ag h2,ag h3,ag h4,ag h5,ag h6,ag h7]
theorem L5{nx:List Int}(h:0<nx.length):nx[((0:Int)).toNat]?=some (nx.headD 0):=by
 cases nx with
 |nil=>simp at h
 |cons z nx=>rfl
theorem ahU(w:Nat)(s:Sy)(l:Lay)(who ev jo:Int)(en:Bool)(does:Int)(nv:AV)(node:Int)(has:Bool)(nx out:List Int)(d:Int)(σ:Hp)(hx:does=5∨does=6∨does=7→0<nx.length)(h1:does=1→nK l≠0∧l.k≠0):ACalls Tryz.prog 391 [.ptr w 0,.int .i64 d] ((w,er s l who ev jo en does nv node has nx out)::σ) (fun x σ'=>∃r,x=Kb r (ji l who does node nx out d)∧σ'=Kc l node r .an [] (ji l who does node nx out d)++((w,er s l who ev jo en does nv node has nx out)::σ)):=by
 refine ay Tryz.func391 ?_;refine aa 0 ?_;refine ax [] (Nj l _) ?_;intro aF;refine aj 0 ?_;refine aa 1 ?_;refine ao (fun c2=>?_) (fun c2=>?_)
 ·have c2:does=0:=c2;refine .sched [8] (upto [8] 13 0) (by kernel_rfl) ?_;refine aa 1 ?_;refine aa 1 ?_;refine aK [] (Er l _ _) ?_;intro tU;exact .drop 1 1 (.done ⟨_,by rw[JX (by assumption)];rfl,by rw[JX (by assumption)];rfl⟩)
 ·have c2:¬(does=0):=c2;refine ao (fun c4=>?_) (fun c4=>?_)
  ·have c4:does=1:=c4;refine .sched [6,7] (upto [6,7] 12 0) (by kernel_rfl) ?_;refine aa 1 ?_;refine aK [1] (ag3 w s l who ev jo en does nv node has nx out d _ (h1 (by assumption)).1 (h1 (by assumption)).2) ?_;refine aK [] (Er l _ _) ?_;intro y9;exact .drop 1 1 (.done ⟨_,by rw[JW (by assumption)];rfl,by rw[JW (by assumption)];rfl⟩)
  ·have c4:¬(does=1):=c4;refine ao (fun c6=>?_) (fun c6=>?_)
   ·have c6:does=2:=c6;refine aa 0 ?_;intro bl7;exact .drop 1 1 (.done ⟨_,by rw[JV (by assumption)];rfl,by rw[JV (by assumption)];rfl⟩)
   ·have c6:¬(does=2):=c6;refine ao (fun c8=>?_) (fun c8=>?_)
    ·have c8:does=3:=c8;refine .sched [] (upto [] 9 0) (by kernel_rfl) ?_;refine aa 0 ?_;refine aa 1 ?_;intro bl9;exact .drop 1 1 (.done ⟨_,by rw[JU (by assumption)];rfl,by rw[JU (by assumption)];rfl⟩)
    ·have c8:¬(does=3):=c8;refine ao (fun km=>?_) (fun km=>?_)
     ·have km:does=4:=km;refine .sched [8] (upto [8] 13 0) (by kernel_rfl) ?_;refine aa 1 ?_;refine aa 1 ?_;refine aK [] (I4 l _ _) ?_;intro bl11;exact .drop 1 1 (.done ⟨_,by rw[JT (by assumption)];rfl,by rw[JT (by assumption)];rfl⟩)
     ·have km:¬(does=4):=km;refine ao (fun xE=>?_) (fun xE=>?_)
      ·have xE:does=5:=xE;refine .sched [10] (upto [10] 19 0) (by kernel_rfl) ?_;refine aa 1 ?_;refine aa 1 ?_;refine aJ.mk rfl ?_;refine bO.mk (nx.headD 0) (by decide) (L5 (hx (by omega))) ?_;refine aK [] (I4 l _ _) ?_;refine aa 1 ?_;intro bl13;exact .drop 1 1 (.done ⟨_,by rw[JS (by assumption)];rfl,by rw[JS (by assumption)];rfl⟩)
      ·have xE:¬(does=5):=xE;refine ao (fun tT=>?_) (fun tT=>?_)
       ·have tT:does=6:=tT;refine .sched [] (upto [] 11 0) (by kernel_rfl) ?_;refine aa 0 ?_;refine aa 1 ?_;refine aJ.mk rfl ?_;refine bO.mk (nx.headD 0) (by decide) (L5 (hx (by omega))) ?_;intro bl15;exact .drop 1 1 (.done ⟨_,by rw[JR (by assumption)];rfl,by rw[JR (by assumption)];rfl⟩)
       ·have tT:¬(does=6):=tT;refine ao (fun xD=>?_) (fun xD=>?_)
        ·have xD:does=7:=xD;refine .sched [8] (upto [8] 20 0) (by kernel_rfl) ?_;refine aa 1 ?_;refine aa 1 ?_;refine aK [] (Er l _ _) ?_;refine aa 1 ?_;refine aJ.mk rfl ?_;refine bO.mk (nx.headD 0) (by decide) (L5 (hx (by omega))) ?_;intro bl17;exact .drop 1 1 (.done ⟨_,by rw[JQ (by assumption)];rfl,by rw[JQ (by assumption)];rfl⟩)
        ·have xD:¬(does=7):=xD;refine aa 0 ?_;intro bl18;exact .drop 1 1 (.done ⟨_,by rw[JP (by assumption) (by assumption) (by assumption) (by assumption) (by assumption) (by assumption) (by assumption) (by assumption)];rfl,by rw[JP (by assumption) (by assumption) (by assumption) (by assumption) (by assumption) (by assumption) (by assumption) (by assumption)];rfl⟩)
theorem U2(w r:Nat)(s:Sy)(l:Lay)(who ev jo:Int)(en:Bool)(does:Int)(node:Int)(has:Bool)(nx out:List Int)(base cap n:Int)(gF:Bool)(at_:Nat)(b t x:Int)(σ:Hp):ACalls Tryz.prog 392 [.ptr w 0] ((w,er s l who ev jo en does (.iface 399 (.ptr r 0)) node has nx out)::(r,mz ⟨base,cap,n,true,gF,at_,b,t,x⟩)::σ) (aC (.int .i64 (rW l n)) ((w,er s l who ev jo en does (.iface 399 (.ptr r 0)) (pV l n) true nx out)::(r,mz ⟨base,cap,n,true,gF,at_,b,t,x⟩)::σ)):=by
 refine ay Tryz.func392 ?_;refine aa 0 ?_;refine aa 1 ?_;refine aa 1 ?_;refine ax [] (Yf w s l who ev jo en does (.iface 399 (.ptr r 0)) node has nx out n _) ?_;exact .done ⟨rfl,rfl⟩
theorem U3(w r:Nat)(s:Sy)(l:Lay)(who ev jo:Int)(en:Bool)(does:Int)(node:Int)(has:Bool)(nx out:List Int)(base cap n:Int)(gF:Bool)(at_:Nat)(b t x:Int)(σ:Hp):ACalls Tryz.prog 392 [.ptr w 0] ((w,er s l who ev jo en does (.iface 399 (.ptr r 0)) node has nx out)::(r,mz ⟨base,cap,n,false,gF,at_,b,t,x⟩)::σ) (aC (.int .i64 (rT l)) ((w,er s l who ev jo en does (.iface 399 (.ptr r 0)) node has nx out)::(r,mz ⟨base,cap,n,false,gF,at_,b,t,x⟩)::σ)):=by
 refine ay Tryz.func392 ?_;refine aa 0 ?_;refine aa 1 ?_;refine ax [] (ahK w s l who ev jo en does (.iface 399 (.ptr r 0)) node has nx out _) ?_;exact .done ⟨rfl,rfl⟩
theorem Sf(w r:Nat)(s:Sy)(l:Lay)(who ev jo:Int)(en:Bool)(does:Int)(node:Int)(has:Bool)(nx out:List Int)(base cap n:Int)(gF:Bool)(at_:Nat)(b t x:Int)(σ:Hp):ACalls Tryz.prog 392 [.ptr w 0] ((w,er s l who ev jo en does (.iface 404 (.ptr r 0)) node has nx out)::(r,mz ⟨base,cap,n,true,gF,at_,b,t,x⟩)::σ) (aC (.int .i64 (rW l n)) ((w,er s l who ev jo en does (.iface 404 (.ptr r 0)) (pV l n) true nx out)::(r,mz ⟨base,cap,n,true,gF,at_,b,t,x⟩)::σ)):=by
 refine ay Tryz.func392 ?_;refine aa 0 ?_;refine aa 1 ?_;refine aa 1 ?_;refine ax [] (Yf w s l who ev jo en does (.iface 404 (.ptr r 0)) node has nx out n _) ?_;exact .done ⟨rfl,rfl⟩
theorem Sg(w r:Nat)(s:Sy)(l:Lay)(who ev jo:Int)(en:Bool)(does:Int)(node:Int)(has:Bool)(nx out:List Int)(base cap n:Int)(gF:Bool)(at_:Nat)(b t x:Int)(σ:Hp):ACalls Tryz.prog 392 [.ptr w 0] ((w,er s l who ev jo en does (.iface 404 (.ptr r 0)) node has nx out)::(r,mz ⟨base,cap,n,false,gF,at_,b,t,x⟩)::σ) (aC (.int .i64 2) ((w,er s l who ev jo en does (.iface 404 (.ptr r 0)) node has nx out)::(r,mz ⟨base,cap,n,false,gF,at_,b,t,x⟩)::σ)):=by
 refine ay Tryz.func392 ?_;refine aa 0 ?_;refine aa 1 ?_;exact .done ⟨rfl,rfl⟩
def vZ(l:Lay):Int:=if l.k<2 then 0 else 1
theorem HM(w r:Nat)(s:Sy)(l:Lay)(who ev jo:Int)(en:Bool)(does:Int)(node:Int)(has:Bool)(nx out:List Int)(f c0:Int)(is gF:Bool)(σ:Hp):ACalls Tryz.prog 392 [.ptr w 0] ((w,er s l who ev jo en does (.iface 406 (.ptr r 0)) node has nx out)::(r,FM ⟨f,c0,is,gF⟩)::σ) (aC (.int .i64 (vZ l)) ((w,er s l who ev jo is does (.iface 406 (.ptr r 0)) node has nx out)::(r,FM ⟨f,c0,is,gF⟩)::σ)):=by
 refine ay Tryz.func392 ?_;cases is with
 |true=>
  refine aa 0 ?_;refine aa 1 ?_;refine aj 0 ?_;refine eY [] (NO w s l who ev jo true does (.iface 406 (.ptr r 0)) node has nx out _) (fun c=>?_) (fun c=>?_)
  ·exact .done ⟨aT (af (fP (by assumption))).symm,by subst_vars;rfl⟩
  ·exact .done ⟨aT (ag (qE (by assumption))).symm,by subst_vars;rfl⟩
 |false=>
  refine aa 0 ?_;refine aa 1 ?_;refine aj 0 ?_;refine eY [] (NO w s l who ev jo false does (.iface 406 (.ptr r 0)) node has nx out _) (fun c=>?_) (fun c=>?_)
  ·exact .done ⟨aT (af (fP (by assumption))).symm,by subst_vars;rfl⟩
  ·exact .done ⟨aT (ag (qE (by assumption))).symm,by subst_vars;rfl⟩
theorem TC(w r:Nat)(s:Sy)(l:Lay)(who ev jo:Int)(en:Bool)(does:Int)(node:Int)(has:Bool)(nx out:List Int)(f c0 v:Int)(gF:Bool)(σ:Hp):ACalls Tryz.prog 392 [.ptr w 0] ((w,er s l who ev jo en does (.iface 409 (.ptr r 0)) node has nx out)::(r,GU ⟨f,c0,v,gF⟩)::σ) (aC (.int .i64 4) ((w,er s l who ev jo en does (.iface 409 (.ptr r 0)) node has nx out)::(r,GU ⟨f,c0,v,gF⟩)::σ)):=by
 refine ay Tryz.func392 ?_;refine aa 0 ?_;exact .done ⟨rfl,rfl⟩
theorem H6(w r:Nat)(s:Sy)(l:Lay)(who ev jo:Int)(en:Bool)(does:Int)(node:Int)(has:Bool)(nx out:List Int)(x:List Int)(base what words:Int)(gF:Bool)(at_:Nat)(ld:Bool)(z:Int)(σ:Hp)(hf:Fit s)(hx:bh x)(lx:x.length≤10000):ACalls Tryz.prog 392 [.ptr w 0] ((w,er s l who ev jo en does (.iface 412 (.ptr r 0)) node has nx out)::(r,kF (.ah (.int .u64) x) base what words gF at_ ld z)::σ) (aC (.int .i64 (wk s node)) ((w,er s l who (wr (ev+1)) jo en does (.iface 412 (.ptr r 0)) node has (aw s.n s.aN node) (tA (qj s node x) (iS s x node.toNat)))::(r,kF (.ah (.int .u64) x) base what words gF at_ ld z)::σ)):=by
 refine ay Tryz.func392 ?_;refine aa 0 ?_;refine aa 1 ?_;refine ax [] (ahD w s l who ev jo en does (.iface 412 (.ptr r 0)) node has nx out x _ hf hx lx) ?_;exact .done ⟨rfl,rfl⟩
theorem TA(w r:Nat)(s:Sy)(l:Lay)(who ev jo:Int)(en:Bool)(does:Int)(node:Int)(has:Bool)(nx out:List Int)(base what words:Int)(a:List Int)(gF:Bool)(tr:Int)(at_:Nat)(ld:Bool)(x:Int)(σ:Hp):ACalls Tryz.prog 392 [.ptr w 0] ((w,er s l who ev jo en does (.iface 417 (.ptr r 0)) node has nx out)::(r,As ⟨base,what,words,a,true,gF,tr,at_,ld,x⟩)::σ) (aC (.int .i64 6) ((w,er s l who ev (wr (jo+1)) en does (.iface 417 (.ptr r 0)) node has nx out)::(r,As ⟨base,what,words,a,true,gF,tr,at_,ld,x⟩)::σ)):=by
 refine ay Tryz.func392 ?_;refine aa 0 ?_;refine aa 1 ?_;refine aa 0 ?_;refine aj 0 ?_;exact .done ⟨rfl,rfl⟩
theorem TB(w r:Nat)(s:Sy)(l:Lay)(who ev jo:Int)(en:Bool)(does:Int)(node:Int)(has:Bool)(nx out:List Int)(base what words:Int)(a:List Int)(gF:Bool)(tr:Int)(at_:Nat)(ld:Bool)(x:Int)(σ:Hp)(hx:0<nx.length):ACalls Tryz.prog 392 [.ptr w 0] ((w,er s l who ev jo en does (.iface 417 (.ptr r 0)) node has nx out)::(r,As ⟨base,what,words,a,false,gF,tr,at_,ld,x⟩)::σ) (aC (.int .i64 (kP nx)) ((w,er s l who ev jo en does (.iface 417 (.ptr r 0)) node has nx.tail out)::(r,As ⟨base,what,words,a,false,gF,tr,at_,ld,x⟩)::σ)):=by
 refine ay Tryz.func392 ?_;refine aa 0 ?_;refine aa 1 ?_;refine ax [] (Nk w s l who ev jo en does (.iface 417 (.ptr r 0)) node has nx out _ hx) ?_;exact .done ⟨rfl,rfl⟩
theorem Ty(w r:Nat)(s:Sy)(l:Lay)(who ev jo:Int)(en:Bool)(does:Int)(node:Int)(has:Bool)(nx out:List Int)(f c0 v:Int)(gF j7:Bool)(σ:Hp):ACalls Tryz.prog 392 [.ptr w 0] ((w,er s l who ev jo en does (.iface 420 (.ptr r 0)) node has nx out)::(r,Am ⟨f,c0,v,true,gF,j7⟩)::σ) (aC (.int .i64 7) ((w,er s l who ev jo en does (.iface 420 (.ptr r 0)) node has nx out)::(r,Am ⟨f,c0,v,true,gF,j7⟩)::σ)):=by
 refine ay Tryz.func392 ?_;refine aa 0 ?_;refine aa 1 ?_;exact .done ⟨rfl,rfl⟩
theorem Tz(w r:Nat)(s:Sy)(l:Lay)(who ev jo:Int)(en:Bool)(does:Int)(node:Int)(has:Bool)(nx out:List Int)(f c0 v:Int)(gF j7:Bool)(σ:Hp)(hx:0<nx.length):ACalls Tryz.prog 392 [.ptr w 0] ((w,er s l who ev jo en does (.iface 420 (.ptr r 0)) node has nx out)::(r,Am ⟨f,c0,v,false,gF,j7⟩)::σ) (aC (.int .i64 (kP nx)) ((w,er s l who ev jo en does (.iface 420 (.ptr r 0)) node has nx.tail out)::(r,Am ⟨f,c0,v,false,gF,j7⟩)::σ)):=by
 refine ay Tryz.func392 ?_;refine aa 0 ?_;refine aa 1 ?_;refine ax [] (Nk w s l who ev jo en does (.iface 420 (.ptr r 0)) node has nx out _ hx) ?_;exact .done ⟨rfl,rfl⟩
theorem U1(w r:Nat)(s:Sy)(l:Lay)(who ev jo:Int)(en:Bool)(does:Int)(node:Int)(has:Bool)(nx out:List Int)(q:DQ)(σ:Hp)(hx:0<nx.length):ACalls Tryz.prog 392 [.ptr w 0] ((w,er s l who ev jo en does (.iface 425 (.ptr r 0)) node has nx out)::(r,mz q)::σ) (aC (.int .i64 (kP nx)) ((w,er s l who ev jo en does (.iface 425 (.ptr r 0)) node has nx.tail out)::(r,mz q)::σ)):=by
 refine ay Tryz.func392 ?_;refine aa 0 ?_;refine ax [] (Nk w s l who ev jo en does (.iface 425 (.ptr r 0)) node has nx out _ hx) ?_;exact .done ⟨rfl,rfl⟩
theorem Si(w r:Nat)(s:Sy)(l:Lay)(who ev jo:Int)(en:Bool)(does:Int)(node:Int)(has:Bool)(nx out:List Int)(t:Rk)(σ:Hp):ACalls Tryz.prog 392 [.ptr w 0] ((w,er s l who ev jo en does (.iface 427 (.ptr r 0)) node has nx out)::(r,FK t)::σ) (aC (.int .i64 0) ((w,er s l who ev jo en does (.iface 427 (.ptr r 0)) node false nx out)::(r,FK t)::σ)):=by
 refine ay Tryz.func392 ?_;refine aa 0 ?_;refine aj 0 ?_;exact .done ⟨rfl,rfl⟩
set_option maxHeartbeats 4000000
theorem age(M:AMem)(r:Nat)(m:M.S)(base what words x:Int)(at_:Nat)(fM:Bool)(l:List Int)(c:AV)(acc:Hp)(d:Int)(σ:Hp)(hf:M.O.free (M.abs m))(ck:at_<cw words)(hv:lv c acc l)(hl:l.length≤2000):
  ACalls Tryz.prog 406 [.ptr r 0,M.v,.int .i64 d] ((r,kF c base what words false at_ fM x)::(acc++(M.B m++σ))) (fun z σ'=>∃m' c' aY,lv c' aY (l++[(M.O.ld (M.abs m) (wr (base+at_))).1])∧M.abs m'=(M.O.ld (M.abs m) (wr (base+at_))).2∧z=.bool (decide (at_+1=cw words))∧σ'=(r,kF c' base what words (decide (at_+1=cw words)) (at_+1) fM x)::(aY++(M.B m'++σ))):=by
 have hc:=BZ words;have hw:IntKind.i64.wrap ((at_:Int)+1)=((at_+1:Nat):Int):=by rw[IntKind.wrap_i64];omega
 have ab:decide ((at_:Int)<(cw words:Nat))=true:=bu (by omega);cases hv with
 |nil=>
  refine ay Tryz.func406 ?_;refine aa 0 ?_;refine .quiet (by kernel_rfl) ?_;refine aa 0 ?_;refine aa 0 ?_;refine aK [] (oV _ _ _ _) ?_;refine LM ab ?_;refine .sched [5,7] (upto [5,7] 28 0) (by kernel_rfl) ?_;refine aa 0 ?_;refine aK [] (acd _) ?_;refine aK [] (ec _ _ _) ?_;refine aa 0 ?_;refine aa 0 ?_;refine fH.mk M.hL ?_;refine M.aLoad [_] hf fun m' hm=>?_;intro aF;refine AppendAt.fresh 1 _ (.inl rfl) (.ae 0 _ 0 1 _ rfl (cy rfl)) (by decide) (by decide) (by decide) (fun _ bn=>?_) (fun h=>absurd h (by decide));refine aj 2 ?_;refine aa 2 ?_;refine aj 2 ?_;refine .sched [10] (upto [10] 15 0) (by kernel_rfl) ?_;refine aa 2 ?_;refine aa 2 ?_;refine aK [] (oV _ _ _ _) ?_;refine ao (fun c2=>?_) (fun c2=>?_)
  ·have c2:IntKind.i64.wrap ((↑at_:Int)+1)=(↑(cw words):Int):=c2;refine aj 2 ?_;refine aa 2 ?_;exact .drop 1 1 ((.pull [1] (.done ⟨m',_,_,.ae bn [_],hm,by rw[bu (show at_+1=cw words by omega)];rfl,by unfold kF;rw[bu (show at_+1=cw words by omega),← hw];rfl⟩)))
  ·have c2:¬(IntKind.i64.wrap ((↑at_:Int)+1)=(↑(cw words):Int)):=c2;refine aj 2 ?_;refine aa 2 ?_;exact .drop 1 1 ((.pull [1] (.done ⟨m',_,_,.ae bn [_],hm,by rw[cf (show ¬at_+1=cw words by omega)];rfl,by unfold kF;rw[cf (show ¬at_+1=cw words by omega),← hw];rfl⟩)))
 |ae b l=>
  have hlen:(aR l).length=l.length*1:=by simp[aR]
  refine ay Tryz.func406 ?_;refine aa 0 ?_;refine .quiet (by kernel_rfl) ?_;refine aa 0 ?_;refine aa 0 ?_;refine aK [] (oV _ _ _ _) ?_;refine LM ab ?_;refine .sched [7] (ru [0,1,2,3,4,6,8,9,10,11,13,14,15,16] (.alt 5 (.one 7 true (cJ [12,17,18,19,20,21,22,23,24,25,26,27])) (.alt 12 (.alt 5 (.one 7 true (cJ [17,18,19,20,21,22,23,24,25,26,27])) (ru [17,18,5] (.one 7 true (cJ [19,20,21,22,23,24,25,26,27])))) (.one 17 false (.alt 5 (.one 7 true (cJ [12,18,19,20,21,22,23,24,25,26,27])) (ru [12,18,5] (.one 7 true (cJ [19,20,21,22,23,24,25,26,27])))))))) (by kernel_rfl) ?_;refine aa 0 ?_;refine And.intro ?_ ?_
  ·(refine .mk [] _ (DM b l.length (aR l) _ (cQ _ (b9 ..)) hlen (by omega)) ?_;rintro _ _ ⟨b',rfl,rfl⟩)
   refine aK [] (ec _ _ _) ?_;refine aa 1 ?_;refine aa 1 ?_;refine fH.mk M.hL ?_;refine M.aLoad [_,_,_] hf fun m' hm=>?_;intro aF;refine AppendAt.more 1 b' l.length 1 (aR l) _ rfl rfl (by show l.length*1≤(aR l).length;omega) (.ae 0 _ 0 1 _ rfl (cy rfl)) (by omega) (by decide) (by decide) (fun bn=>?_);refine aj 2 ?_;refine aa 2 ?_;refine aj 2 ?_;refine .sched [10] (upto [10] 15 0) (by kernel_rfl) ?_;refine aa 2 ?_;refine aa 2 ?_;refine aK [] (oV _ _ _ _) ?_;refine ao (fun c2=>?_) (fun c2=>?_)
   ·have c2:IntKind.i64.wrap ((↑at_:Int)+1)=(↑(cw words):Int):=c2;refine aj 2 ?_;refine aa 2 ?_;exact .drop 1 1 (.drop 2 1 ((.pull [1] (.done ⟨m',_,_,lv.push bn l _,hm,by rw[bu (show at_+1=cw words by omega)];rfl,by unfold kF;rw[bu (show at_+1=cw words by omega),← hw];rfl⟩))))
   ·have c2:¬(IntKind.i64.wrap ((↑at_:Int)+1)=(↑(cw words):Int)):=c2;refine aj 2 ?_;refine aa 2 ?_;exact .drop 1 1 (.drop 2 1 ((.pull [1] (.done ⟨m',_,_,lv.push bn l _,hm,by rw[cf (show ¬at_+1=cw words by omega)];rfl,by unfold kF;rw[cf (show ¬at_+1=cw words by omega),← hw];rfl⟩))))
  ·refine And.intro ?_ ?_
   ·refine aa 0 ?_;refine And.intro ?_ ?_
    ·(refine .mk [] _ (DM b l.length (aR l) _ (cQ _ (b9 ..)) hlen (by omega)) ?_;rintro _ _ ⟨b',rfl,rfl⟩)
     refine aK [] (ec _ _ _) ?_;refine aa 1 ?_;refine fH.mk M.hL ?_;refine M.aLoad [_,_,_] hf fun m' hm=>?_;intro tU;refine AppendAt.more 1 b' l.length 1 (aR l) _ rfl rfl (by show l.length*1≤(aR l).length;omega) (.ae 0 _ 0 1 _ rfl (cy rfl)) (by omega) (by decide) (by decide) (fun bn=>?_);refine aj 2 ?_;refine aa 2 ?_;refine aj 2 ?_;refine .sched [10] (upto [10] 15 0) (by kernel_rfl) ?_;refine aa 2 ?_;refine aa 2 ?_;refine aK [] (oV _ _ _ _) ?_;refine ao (fun c4=>?_) (fun c4=>?_)
     ·have c4:IntKind.i64.wrap ((↑at_:Int)+1)=(↑(cw words):Int):=c4;refine aj 2 ?_;refine aa 2 ?_;exact .drop 1 1 (.drop 2 1 ((.pull [1] (.done ⟨m',_,_,lv.push bn l _,hm,by rw[bu (show at_+1=cw words by omega)];rfl,by unfold kF;rw[bu (show at_+1=cw words by omega),← hw];rfl⟩))))
     ·have c4:¬(IntKind.i64.wrap ((↑at_:Int)+1)=(↑(cw words):Int)):=c4;refine aj 2 ?_;refine aa 2 ?_;exact .drop 1 1 (.drop 2 1 ((.pull [1] (.done ⟨m',_,_,lv.push bn l _,hm,by rw[cf (show ¬at_+1=cw words by omega)];rfl,by unfold kF;rw[cf (show ¬at_+1=cw words by omega),← hw];rfl⟩))))
    ·refine aa 0 ?_
     (refine .mk [] _ (DM b l.length (aR l) _ (cQ _ (b9 ..)) hlen (by omega)) ?_;rintro _ _ ⟨b',rfl,rfl⟩)
     refine aK [] (ec _ _ _) ?_;refine fH.mk M.hL ?_;refine M.aLoad [_,_,_] hf fun m' hm=>?_;intro y9;refine AppendAt.more 1 b' l.length 1 (aR l) _ rfl rfl (by show l.length*1≤(aR l).length;omega) (.ae 0 _ 0 1 _ rfl (cy rfl)) (by omega) (by decide) (by decide) (fun bn=>?_);refine aj 2 ?_;refine aa 2 ?_;refine aj 2 ?_;refine .sched [10] (upto [10] 15 0) (by kernel_rfl) ?_;refine aa 2 ?_;refine aa 2 ?_;refine aK [] (oV _ _ _ _) ?_;refine ao (fun c6=>?_) (fun c6=>?_)
     ·have c6:IntKind.i64.wrap ((↑at_:Int)+1)=(↑(cw words):Int):=c6;refine aj 2 ?_;refine aa 2 ?_;exact .drop 1 1 (.drop 2 1 ((.pull [1] (.done ⟨m',_,_,lv.push bn l _,hm,by rw[bu (show at_+1=cw words by omega)];rfl,by unfold kF;rw[bu (show at_+1=cw words by omega),← hw];rfl⟩))))
     ·have c6:¬(IntKind.i64.wrap ((↑at_:Int)+1)=(↑(cw words):Int)):=c6;refine aj 2 ?_;refine aa 2 ?_;exact .drop 1 1 (.drop 2 1 ((.pull [1] (.done ⟨m',_,_,lv.push bn l _,hm,by rw[cf (show ¬at_+1=cw words by omega)];rfl,by unfold kF;rw[cf (show ¬at_+1=cw words by omega),← hw];rfl⟩))))
   ·refine aa 0 ?_;refine And.intro ?_ ?_
    ·(refine .mk [] _ (DM b l.length (aR l) _ (cQ _ (b9 ..)) hlen (by omega)) ?_;rintro _ _ ⟨b',rfl,rfl⟩)
     refine aK [] (ec _ _ _) ?_;refine aa 1 ?_;refine fH.mk M.hL ?_;refine M.aLoad [_,_,_] hf fun m' hm=>?_;intro bl7;refine AppendAt.more 1 b' l.length 1 (aR l) _ rfl rfl (by show l.length*1≤(aR l).length;omega) (.ae 0 _ 0 1 _ rfl (cy rfl)) (by omega) (by decide) (by decide) (fun bn=>?_);refine aj 2 ?_;refine aa 2 ?_;refine aj 2 ?_;refine .sched [10] (upto [10] 15 0) (by kernel_rfl) ?_;refine aa 2 ?_;refine aa 2 ?_;refine aK [] (oV _ _ _ _) ?_;refine ao (fun c8=>?_) (fun c8=>?_)
     ·have c8:IntKind.i64.wrap ((↑at_:Int)+1)=(↑(cw words):Int):=c8;refine aj 2 ?_;refine aa 2 ?_;exact .drop 1 1 (.drop 2 1 ((.pull [1] (.done ⟨m',_,_,lv.push bn l _,hm,by rw[bu (show at_+1=cw words by omega)];rfl,by unfold kF;rw[bu (show at_+1=cw words by omega),← hw];rfl⟩))))
     ·have c8:¬(IntKind.i64.wrap ((↑at_:Int)+1)=(↑(cw words):Int)):=c8;refine aj 2 ?_;refine aa 2 ?_;exact .drop 1 1 (.drop 2 1 ((.pull [1] (.done ⟨m',_,_,lv.push bn l _,hm,by rw[cf (show ¬at_+1=cw words by omega)];rfl,by unfold kF;rw[cf (show ¬at_+1=cw words by omega),← hw];rfl⟩))))
    ·refine aa 0 ?_
     (refine .mk [] _ (DM b l.length (aR l) _ (cQ _ (b9 ..)) hlen (by omega)) ?_;rintro _ _ ⟨b',rfl,rfl⟩)
     refine aK [] (ec _ _ _) ?_;refine fH.mk M.hL ?_;refine M.aLoad [_,_,_] hf fun m' hm=>?_;intro bl9;refine AppendAt.more 1 b' l.length 1 (aR l) _ rfl rfl (by show l.length*1≤(aR l).length;omega) (.ae 0 _ 0 1 _ rfl (cy rfl)) (by omega) (by decide) (by decide) (fun bn=>?_);refine aj 2 ?_;refine aa 2 ?_;refine aj 2 ?_;refine .sched [10] (upto [10] 15 0) (by kernel_rfl) ?_;refine aa 2 ?_;refine aa 2 ?_;refine aK [] (oV _ _ _ _) ?_;refine ao (fun km=>?_) (fun km=>?_)
     ·have km:IntKind.i64.wrap ((↑at_:Int)+1)=(↑(cw words):Int):=km;refine aj 2 ?_;refine aa 2 ?_;exact .drop 1 1 (.drop 2 1 ((.pull [1] (.done ⟨m',_,_,lv.push bn l _,hm,by rw[bu (show at_+1=cw words by omega)];rfl,by unfold kF;rw[bu (show at_+1=cw words by omega),← hw];rfl⟩))))
     ·have km:¬(IntKind.i64.wrap ((↑at_:Int)+1)=(↑(cw words):Int)):=km;refine aj 2 ?_;refine aa 2 ?_;exact .drop 1 1 (.drop 2 1 ((.pull [1] (.done ⟨m',_,_,lv.push bn l _,hm,by rw[cf (show ¬at_+1=cw words by omega)];rfl,by unfold kF;rw[cf (show ¬at_+1=cw words by omega),← hw];rfl⟩))))
theorem VX(M:AMem)(r:Nat)(base what words x:Int)(fM:Bool)(c:AV)(d:Int)(σ:Hp)(ck:cw words=0):
  ACalls Tryz.prog 406 [.ptr r 0,M.v,.int .i64 d] ((r,kF c base what words false 0 fM x)::σ) (aC (.bool true) ((r,kF c base what words true 0 fM x)::σ)):=by
 have ab:decide ((0:Int)<(cw words:Nat))=false:=cf (by omega);have heq:decide ((0:Int)=(cw words:Nat))=true:=bu (by omega);refine ay Tryz.func406 ?_;refine aa 0 ?_;refine .quiet (by kernel_rfl) ?_;refine aa 0 ?_;refine aa 0 ?_;refine aK [] (oV _ _ _ _) ?_;refine Zy ab ?_;refine .sched [10] (upto [10] 15 0) (by kernel_rfl) ?_;refine aa 0 ?_;refine aa 0 ?_;refine aK [] (oV _ _ _ _) ?_;refine LM heq ?_;refine aj 0 ?_;refine aa 0 ?_;exact .done ⟨rfl,rfl⟩
set_option maxHeartbeats 4000000
theorem wPop_ : Meth Tryz.prog 399 "Step" 401 := fun a w => by kernel_rfl
theorem wSteal_ : Meth Tryz.prog 404 "Step" 403 := fun a w => by kernel_rfl
theorem wPush_ : Meth Tryz.prog 425 "Step" 409 := fun a w => by kernel_rfl
theorem wQuiet_ : Meth Tryz.prog 406 "Step" 404 := fun a w => by kernel_rfl
theorem wClear_ : Meth Tryz.prog 409 "Step" 405 := fun a w => by kernel_rfl
theorem wTake_ : Meth Tryz.prog 420 "Step" 408 := fun a w => by kernel_rfl
theorem wRetire_ : Meth Tryz.prog 427 "Step" 410 := fun a w => by kernel_rfl
theorem wRead_ : Meth Tryz.prog 412 "Step" 406 := fun a w => by kernel_rfl
theorem wJoin_ : Meth Tryz.prog 417 "Step" 407 := fun a w => by kernel_rfl
theorem aiy{M:AMem}{f:FuncId}{xs:List AV}{X:Type}{B:X→List AV}{r:Nat}{cs:List AV}{res:X×M.O.A×Bool}{m:M.S}(fr:Hp){σ:Hp}{K:AV→Hp→Prop}(h:∀σ,ACalls Tryz.prog f xs ((r,cs)::(M.B m++σ)) (q9 M σ B r res))
  (k1:∀m',M.abs m'=res.2.1→res.2.2=true→K (.bool true) (fr++((r,B res.1)::(M.B m'++σ)))) (k2:∀m',M.abs m'=res.2.1→res.2.2=false→K (.bool false) (fr++((r,B res.1)::(M.B m'++σ)))):CallAt Tryz.prog f K xs (fr++((r,cs)::(M.B m++σ))):=by
 have hp:∀(c:List AV) (b:Hp),((r,c)::(b++(fr++σ))).Perm (fr++((r,c)::(b++σ))):=fun c b=>fS fr ((r,c)::b) σ;refine .perm _ (hp cs (M.B m)) (h (fr++σ)) ?_;rintro x σ' ⟨m',h1,rfl,rfl⟩;refine⟨_,(hp (B res.1) (M.B m')).symm,?_⟩;cases hb:res.2.2 with
 |true=>exact k1 m' h1 hb
 |false=>exact k2 m' h1 hb
def nj(O:kC)(l:Lay)(base:Int)(x:List Int)(a:O.A):List Int×O.A×Bool:=
 if x.length<cw l.words then (x++[(O.ld a (wr (base+(x.length:Nat)))).1],(O.ld a (wr (base+(x.length:Nat)))).2,decide (x.length+1=cw l.words)) else (x,a,true)
def gy(O:kC)(l:Lay)(node:Int):Nw→O.A→Nw×O.A×Bool
 |.none,a=>(.none,a,false)
 |.pop q,a=>(.pop (fK O q a).1,(fK O q a).2)
 |.cu q,a=>(.cu (gU O q a).1,(gU O q a).2)
 |.quiet t,a=>(.quiet (sX O t a).1,(sX O t a).2)
 |.clear t,a=>(.clear (sY O t a).1,(sY O t a).2)
 |.read x,a=>(.read (nj O l (bc l node) x a).1,(nj O l (bc l node) x a).2)
 |.join j,a=>(.join (iO O j a).1,(iO O j a).2)
 |.take t,a=>(.take (lD O t a).1,(lD O t a).2)
 |.push q,a=>(.push (gH O q a).1,(gH O q a).2)
 |.dK t,a=>(.dK (um O t a).1,(um O t a).2)
def eN(s:Sy)(l:Lay)(x:WS):Nw→WS
 |.none=>x
 |.pop q=>if q.ok=true then ⟨x.ev,x.jo,x.en,rW l q.n,.none,pV l q.n,true,x.nx,x.out⟩ else ⟨x.ev,x.jo,x.en,rT l,.none,x.node,x.has,x.nx,x.out⟩
 |.cu q=>if q.ok=true then ⟨x.ev,x.jo,x.en,rW l q.n,.none,pV l q.n,true,x.nx,x.out⟩ else ⟨x.ev,x.jo,x.en,2,.none,x.node,x.has,x.nx,x.out⟩
 |.quiet t=>⟨x.ev,x.jo,t.is,vZ l,.none,x.node,x.has,x.nx,x.out⟩
 |.clear _=>⟨x.ev,x.jo,x.en,4,.none,x.node,x.has,x.nx,x.out⟩
 |.read y=>⟨wr (x.ev+1),x.jo,x.en,wk s x.node,.none,x.node,x.has,aw s.n s.aN x.node,tA (qj s x.node y) (iS s y x.node.toNat)⟩
 |.join j=>if j.changed=true then ⟨x.ev,wr (x.jo+1),x.en,6,.none,x.node,x.has,x.nx,x.out⟩ else ⟨x.ev,x.jo,x.en,kP x.nx,.none,x.node,x.has,x.nx.tail,x.out⟩
 |.take t=>if t.new=true then ⟨x.ev,x.jo,x.en,7,.none,x.node,x.has,x.nx,x.out⟩ else ⟨x.ev,x.jo,x.en,kP x.nx,.none,x.node,x.has,x.nx.tail,x.out⟩
 |.push _=>⟨x.ev,x.jo,x.en,kP x.nx,.none,x.node,x.has,x.nx.tail,x.out⟩
 |.dK _=>⟨x.ev,x.jo,x.en,0,.none,x.node,false,x.nx,x.out⟩
def kN(l:Lay)(who:Int)(x:WS)(d:Int):Nw:=match x.now with
 |.none=>ji l who x.does x.node x.nx x.out d
 |n=>n
def dB(O:kC)(s:Sy)(l:Lay)(who:Int)(x:WS)(d:Int)(a:O.A):WS×O.A×Bool:=
 if x.en=true then (x,a,true)
 else if (gy O l x.node (kN l who x d) a).2.2=true then (eN s l x (gy O l x.node (kN l who x d) a).1,(gy O l x.node (kN l who x d) a).2.1,(eN s l x (gy O l x.node (kN l who x d) a).1).en)
 else (⟨x.ev,x.jo,x.en,x.does,(gy O l x.node (kN l who x d) a).1,x.node,x.has,x.nx,x.out⟩,(gy O l x.node (kN l who x d) a).2.1,false)
def xa(l:Lay)(nx:List Int):Nw→Prop
 |.none=>True
 |.pop q=>q.at_≤5∧0≤q.b
 |.cu q=>q.at_≤3∧0≤q.t
 |.quiet _=>True
 |.clear _=>True
 |.read x=>(x.length<cw l.words∨(cw l.words=0∧x=[]))∧bh x
 |.join j=>j.at_≤1024∧0<nx.length
 |.take _=>0<nx.length
 |.push q=>(q.at_≤3∧0≤q.b)∧0<nx.length
 |.dK _=>True
def Ox(l:Lay)(x:WS):Prop:=(x.does=5∨x.does=6∨x.does=7→0<x.nx.length)∧(x.does=1→nK l≠0∧l.k≠0)∧xa l x.nx x.now
def z7(c:AV)(acc:Hp):Nw→Prop
 |.read x=>lv c acc x∧(x=[]→c=.an)
 |_=>True
def WB(s:Sy)(l:Lay)(who:Int)(w r:Nat)(c:AV)(acc:Hp)(x:WS):Hp:=(w,er s l who x.ev x.jo x.en x.does (Kb r x.now) x.node x.has x.nx x.out)::Kc l x.node r c acc x.now
set_option maxHeartbeats 4000000
def qe(M:AMem)(s:Sy)(l:Lay)(who:Int)(w:Nat)(res:WS×M.O.A×Bool)(σ:Hp):AV→Hp→Prop:=fun z σ'=>∃m' r c acc,z7 c acc res.1.now∧M.abs m'=res.2.1∧z=.bool res.2.2∧σ'=WB s l who w r c acc res.1++(M.B m'++σ)
theorem acn{M:AMem}{s:Sy}{l:Lay}{who:Int}{w:Nat}{σ:Hp}{x:WS}{a:M.O.A}{d:Int}(h:x.en=true){m:M.S}(hm:M.abs m=a){r:Nat}{c:AV}{acc:Hp}(rd:z7 c acc x.now):qe M s l who w (dB M.O s l who x d a) σ (.bool true) (WB s l who w r c acc x++(M.B m++σ)):=by
 unfold dB;rw[af h];exact⟨m,r,c,acc,rd,hm,rfl,rfl⟩
theorem gV{M:AMem}{s:Sy}{l:Lay}{who:Int}{w:Nat}{σ:Hp}{x:WS}{a a':M.O.A}{d:Int}{n n':Nw}{b:Bool}{m':M.S}{y:WS}(he:x.en=false)(ck:kN l who x d=n)(hn:gy M.O l x.node n a=(n',a',b))(hb:b=true)(hm:M.abs m'=a')(hy:eN s l x n'=y)(h0:y.now=.none)(r:Nat):qe M s l who w (dB M.O s l who x d a) σ (.bool y.en) (WB s l who w r .an [] y++(M.B m'++σ)):=by
 unfold dB;rw[ag (by rw[he];decide),ck,hn];dsimp only;rw[af hb,hy];exact⟨m',r,.an,[],by rw[h0];trivial,hm,rfl,rfl⟩
theorem iD{M:AMem}{s:Sy}{l:Lay}{who:Int}{w:Nat}{σ:Hp}{x:WS}{a a':M.O.A}{d:Int}{n n':Nw}{b:Bool}{m':M.S}(he:x.en=false)(ck:kN l who x d=n)(hn:gy M.O l x.node n a=(n',a',b))(hb:b=false)(hm:M.abs m'=a')(r:Nat)(c:AV)(acc:Hp)(rd:z7 c acc n'):qe M s l who w (dB M.O s l who x d a) σ (.bool false) (WB s l who w r c acc ⟨x.ev,x.jo,x.en,x.does,n',x.node,x.has,x.nx,x.out⟩++(M.B m'++σ)):=by
 unfold dB;rw[ag (by rw[he];decide),ck,hn];dsimp only;rw[ag (by rw[hb];decide)];exact⟨m',r,c,acc,rd,hm,rfl,rfl⟩
theorem ja{M:AMem}{f:FuncId}{xs:List AV}{X:Type}{B:X→List AV}{r:Nat}{cs:List AV}{res:X×M.O.A×Bool}{x':X}{a':M.O.A}{b':Bool}{m:M.S}(fr:Hp){σ:Hp}{K:AV→Hp→Prop}(aq:res=(x',a',b'))(h:∀σ,ACalls Tryz.prog f xs ((r,cs)::(M.B m++σ)) (q9 M σ B r res))
  (k1:∀m',M.abs m'=a'→b'=true→K (.bool true) (fr++((r,B x')::(M.B m'++σ)))) (k2:∀m',M.abs m'=a'→b'=false→K (.bool false) (fr++((r,B x')::(M.B m'++σ)))):CallAt Tryz.prog f K xs (fr++((r,cs)::(M.B m++σ))):=by
 subst aq;exact aiy fr h k1 k2
theorem wm{O:kC}{l:Lay}{node:Int}{q q':DQ}{a a':O.A}{b:Bool}(h:fK O q a=(q',a',b)):gy O l node (.pop q) a=(.pop q',a',b):=by show (Nw.pop (fK O q a).1,(fK O q a).2)=_;rw[h]
theorem vV{O:kC}{l:Lay}{node:Int}{q q':DQ}{a a':O.A}{b:Bool}(h:gU O q a=(q',a',b)):gy O l node (.cu q) a=(.cu q',a',b):=by show (Nw.cu (gU O q a).1,(gU O q a).2)=_;rw[h]
theorem xU{O:kC}{l:Lay}{node:Int}{q q':Qk}{a a':O.A}{b:Bool}(h:sX O q a=(q',a',b)):gy O l node (.quiet q) a=(.quiet q',a',b):=by show (Nw.quiet (sX O q a).1,(sX O q a).2)=_;rw[h]
theorem HT{O:kC}{l:Lay}{node:Int}{q q':Ck}{a a':O.A}{b:Bool}(h:sY O q a=(q',a',b)):gy O l node (.clear q) a=(.clear q',a',b):=by show (Nw.clear (sY O q a).1,(sY O q a).2)=_;rw[h]
theorem v8{O:kC}{l:Lay}{node:Int}{q q':Tk}{a a':O.A}{b:Bool}(h:lD O q a=(q',a',b)):gy O l node (.take q) a=(.take q',a',b):=by show (Nw.take (lD O q a).1,(lD O q a).2)=_;rw[h]
theorem Ef{O:kC}{l:Lay}{node:Int}{q q':DQ}{a a':O.A}{b:Bool}(h:gH O q a=(q',a',b)):gy O l node (.push q) a=(.push q',a',b):=by show (Nw.push (gH O q a).1,(gH O q a).2)=_;rw[h]
theorem Hz{O:kC}{l:Lay}{node:Int}{q q':Rk}{a a':O.A}{b:Bool}(h:um O q a=(q',a',b)):gy O l node (.dK q) a=(.dK q',a',b):=by show (Nw.dK (um O q a).1,(um O q a).2)=_;rw[h]
theorem we{O:kC}{l:Lay}{node:Int}{q q':Jn}{a a':O.A}{b:Bool}(h:iO O q a=(q',a',b)):gy O l node (.join q) a=(.join q',a',b):=by show (Nw.join (iO O q a).1,(iO O q a).2)=_;rw[h]
theorem zC{O:kC}{l:Lay}{node:Int}{q q':List Int}{a a':O.A}{b:Bool}(h:nj O l (bc l node) q a=(q',a',b)):gy O l node (.read q) a=(.read q',a',b):=by show (Nw.read (nj O l (bc l node) q a).1,(nj O l (bc l node) q a).2)=_;rw[h]
theorem ae3(l:Lay)(who does node:Int)(nx out:List Int)(d:Int):ji l who does node nx out d≠.none:=by
 unfold ji;repeat' (first | split | (intro h;cases h))
theorem afm{l:Lay}{who does node:Int}{nx out:List Int}{d:Int}(h:does=5∨does=6∨does=7→0<nx.length):xa l nx (ji l who does node nx out d):=by
 unfold ji
 repeat' split
 ·exact⟨bC _,kl _⟩
 ·exact⟨bC _,kl _⟩
 ·trivial
 ·trivial
 ·refine⟨?_,fun _ h=>by cases h⟩
  rcases vG (cw l.words) with h | h
  ·exact .inr ⟨h,rfl⟩
  ·exact .inl h
 ·exact⟨bC _,h (by omega)⟩
 ·exact h (by omega)
 ·exact⟨⟨bC _,kl _⟩,h (by omega)⟩
 ·trivial
theorem WH{M:AMem}{r w:Nat}{wc:List AV}{m:M.S}{base what words x d:Int}{l:List Int}{c:AV}{acc σ:Hp}{K:AV→Hp→Prop}(hf:M.O.free (M.abs m))(ck:l.length<cw words)(hv:lv c acc l)
  (k1:∀m' b,M.abs m'=(M.O.ld (M.abs m) (wr (base+(l.length:Nat)))).2→l.length+1=cw words→K (.bool true) ((w,wc)::(r,kF (.ae b 0 (l++[(M.O.ld (M.abs m) (wr (base+(l.length:Nat)))).1]).length 1) base what words true (l++[(M.O.ld (M.abs m) (wr (base+(l.length:Nat)))).1]).length false x)::(b,aR (l++[(M.O.ld (M.abs m) (wr (base+(l.length:Nat)))).1]))::(M.B m'++σ)))
  (k2:∀m' b,M.abs m'=(M.O.ld (M.abs m) (wr (base+(l.length:Nat)))).2→¬l.length+1=cw words→K (.bool false) ((w,wc)::(r,kF (.ae b 0 (l++[(M.O.ld (M.abs m) (wr (base+(l.length:Nat)))).1]).length 1) base what words false (l++[(M.O.ld (M.abs m) (wr (base+(l.length:Nat)))).1]).length false x)::(b,aR (l++[(M.O.ld (M.abs m) (wr (base+(l.length:Nat)))).1]))::(M.B m'++σ))):CallAt Tryz.prog 406 K [.ptr r 0,M.v,.int .i64 d] ((w,wc)::(r,kF c base what words false l.length false x)::(acc++(M.B m++σ))):=by
 have PE:=BZ words
 have hp:∀(cs:List AV) (a b:Hp),((r,cs)::(a++(b++((w,wc)::σ)))).Perm ((w,wc)::(r,cs)::(a++(b++σ))):=fun cs a b=>by
  have:=fS [(w,wc)] ((r,cs)::(a++b)) σ;simpa using this
 refine .perm _ (hp _ acc (M.B m)) (age M r m base what words x l.length false l c acc d ((w,wc)::σ) hf ck hv (by omega)) ?_;rintro z σ' ⟨m',c',aY,h1,h2,rfl,rfl⟩;refine⟨_,(hp _ aY (M.B m')).symm,?_⟩;have hlen:(l++[(M.O.ld (M.abs m) (wr (base+(l.length:Nat)))).1]).length=l.length+1:=by simp
 generalize hg:l++[(M.O.ld (M.abs m) (wr (base+(l.length:Nat)))).1]=g at h1 k1 k2 hlen;rw[← hlen];rw[← hlen]at k1 k2;cases h1 with
 |nil=>simp at hlen
 |ae b g=>
  by_cases he:g.length=cw words
  ·rw[bu he];exact k1 m' b h2 he
  ·rw[cf he];exact k2 m' b h2 he
theorem ag1(M:AMem)(w r:Nat)(c:AV)(acc:Hp)(s:Sy)(l:Lay)(who:Int)(ev jo:Int)(does:Int)(q:DQ)(node:Int)(has:Bool)(nx out:List Int)(d:Int)(m:M.S)(σ:Hp)(hm:M.O.free (M.abs m))(o3:xa l nx (.pop q)):
  ACalls Tryz.prog 390 [.ptr w 0,M.v,.int .i64 d] (WB s l who w r c acc ⟨ev,jo,false,does,.pop q,node,has,nx,out⟩++(M.B m++σ)) (qe M s l who w (dB M.O s l who ⟨ev,jo,false,does,.pop q,node,has,nx,out⟩ d (M.abs m)) σ):=by
 refine ay Tryz.func390 ?_;refine aa 0 ?_;refine aa 0 ?_;refine aa 0 ?_;obtain⟨q',a',b',aq⟩:∃q' a' b',fK M.O q (M.abs m)=(q',a',b'):=⟨_,_,_,rfl⟩
 obtain⟨u1,u2,u3,u4,u5,u6,u7,u8,u9⟩:=q';cases u4 with
 |true=>
  refine .fwd 1 ?_;refine .sched [5] (upto [5] 11 0) (by kernel_rfl) ?_;refine aa 0 ?_;refine aK [] (ec _ _ _) ?_;refine⟨_,wPop_,?_⟩;refine ja [_] aq (fun σ=>JY M r q m d σ hm (by have:=o3.1;omega) o3.2) (fun m' aV hb=>?_) (fun m' aV hb=>?_)
  ·refine ax [] (U2 w r s l who ev jo false does node has nx out _ _ _ _ _ _ _ _ _) ?_;refine aj 0 ?_;refine aj 0 ?_;refine aa 0 ?_;exact .drop 1 1 (.done (gV (x:=⟨ev,jo,false,does,.pop q,node,has,nx,out⟩) (n:=.pop q) rfl rfl (wm aq) hb aV rfl rfl r))
  ·exact .done (iD (x:=⟨ev,jo,false,does,.pop q,node,has,nx,out⟩) (n:=.pop q) rfl rfl (wm aq) hb aV r .an [] trivial)
 |false=>
  refine .fwd 1 ?_;refine .sched [5] (upto [5] 11 0) (by kernel_rfl) ?_;refine aa 0 ?_;refine aK [] (ec _ _ _) ?_;refine⟨_,wPop_,?_⟩;refine ja [_] aq (fun σ=>JY M r q m d σ hm (by have:=o3.1;omega) o3.2) (fun m' aV hb=>?_) (fun m' aV hb=>?_)
  ·refine ax [] (U3 w r s l who ev jo false does node has nx out _ _ _ _ _ _ _ _ _) ?_;refine aj 0 ?_;refine aj 0 ?_;refine aa 0 ?_;exact .drop 1 1 (.done (gV (x:=⟨ev,jo,false,does,.pop q,node,has,nx,out⟩) (n:=.pop q) rfl rfl (wm aq) hb aV rfl rfl r))
  ·exact .done (iD (x:=⟨ev,jo,false,does,.pop q,node,has,nx,out⟩) (n:=.pop q) rfl rfl (wm aq) hb aV r .an [] trivial)
theorem abZ(M:AMem)(w r:Nat)(c:AV)(acc:Hp)(s:Sy)(l:Lay)(who:Int)(ev jo:Int)(does:Int)(q:DQ)(node:Int)(has:Bool)(nx out:List Int)(d:Int)(m:M.S)(σ:Hp)(hm:M.O.free (M.abs m))(o3:xa l nx (.cu q)):
  ACalls Tryz.prog 390 [.ptr w 0,M.v,.int .i64 d] (WB s l who w r c acc ⟨ev,jo,false,does,.cu q,node,has,nx,out⟩++(M.B m++σ)) (qe M s l who w (dB M.O s l who ⟨ev,jo,false,does,.cu q,node,has,nx,out⟩ d (M.abs m)) σ):=by
 refine ay Tryz.func390 ?_;refine aa 0 ?_;refine aa 0 ?_;refine aa 0 ?_;obtain⟨q',a',b',aq⟩:∃q' a' b',gU M.O q (M.abs m)=(q',a',b'):=⟨_,_,_,rfl⟩
 obtain⟨u1,u2,u3,u4,u5,u6,u7,u8,u9⟩:=q';cases u4 with
 |true=>
  refine .fwd 1 ?_;refine .sched [5] (upto [5] 11 0) (by kernel_rfl) ?_;refine aa 0 ?_;refine aK [] (ec _ _ _) ?_;refine⟨_,wSteal_,?_⟩;refine ja [_] aq (fun σ=>I1 M r q m d σ hm (by have:=o3.1;omega) o3.2) (fun m' aV hb=>?_) (fun m' aV hb=>?_)
  ·refine ax [] (Sf w r s l who ev jo false does node has nx out _ _ _ _ _ _ _ _ _) ?_;refine aj 0 ?_;refine aj 0 ?_;refine aa 0 ?_;exact .drop 1 1 (.done (gV (x:=⟨ev,jo,false,does,.cu q,node,has,nx,out⟩) (n:=.cu q) rfl rfl (vV aq) hb aV rfl rfl r))
  ·exact .done (iD (x:=⟨ev,jo,false,does,.cu q,node,has,nx,out⟩) (n:=.cu q) rfl rfl (vV aq) hb aV r .an [] trivial)
 |false=>
  refine .fwd 1 ?_;refine .sched [5] (upto [5] 11 0) (by kernel_rfl) ?_;refine aa 0 ?_;refine aK [] (ec _ _ _) ?_;refine⟨_,wSteal_,?_⟩;refine ja [_] aq (fun σ=>I1 M r q m d σ hm (by have:=o3.1;omega) o3.2) (fun m' aV hb=>?_) (fun m' aV hb=>?_)
  ·refine ax [] (Sg w r s l who ev jo false does node has nx out _ _ _ _ _ _ _ _ _) ?_;refine aj 0 ?_;refine aj 0 ?_;refine aa 0 ?_;exact .drop 1 1 (.done (gV (x:=⟨ev,jo,false,does,.cu q,node,has,nx,out⟩) (n:=.cu q) rfl rfl (vV aq) hb aV rfl rfl r))
  ·exact .done (iD (x:=⟨ev,jo,false,does,.cu q,node,has,nx,out⟩) (n:=.cu q) rfl rfl (vV aq) hb aV r .an [] trivial)
theorem ac0(M:AMem)(w r:Nat)(c:AV)(acc:Hp)(s:Sy)(l:Lay)(who:Int)(ev jo:Int)(does:Int)(q:Qk)(node:Int)(has:Bool)(nx out:List Int)(d:Int)(m:M.S)(σ:Hp)(hm:M.O.free (M.abs m)):
  ACalls Tryz.prog 390 [.ptr w 0,M.v,.int .i64 d] (WB s l who w r c acc ⟨ev,jo,false,does,.quiet q,node,has,nx,out⟩++(M.B m++σ)) (qe M s l who w (dB M.O s l who ⟨ev,jo,false,does,.quiet q,node,has,nx,out⟩ d (M.abs m)) σ):=by
 refine ay Tryz.func390 ?_;refine aa 0 ?_;refine aa 0 ?_;refine aa 0 ?_;obtain⟨q',a',b',aq⟩:∃q' a' b',sX M.O q (M.abs m)=(q',a',b'):=⟨_,_,_,rfl⟩
 obtain⟨u1,u2,u3,u4⟩:=q';cases u3 with
 |true=>
  refine .fwd 1 ?_;refine .sched [5] (upto [5] 11 0) (by kernel_rfl) ?_;refine aa 0 ?_;refine aK [] (ec _ _ _) ?_;refine⟨_,wQuiet_,?_⟩;refine ja [_] aq (fun σ=>I3 M r q m d σ hm) (fun m' aV hb=>?_) (fun m' aV hb=>?_)
  ·refine ax [] (HM w r s l who ev jo false does node has nx out _ _ _ _ _) ?_;refine aj 0 ?_;refine aj 0 ?_;refine aa 0 ?_;exact .drop 1 1 (.done (gV (x:=⟨ev,jo,false,does,.quiet q,node,has,nx,out⟩) (n:=.quiet q) rfl rfl (xU aq) hb aV rfl rfl r))
  ·exact .done (iD (x:=⟨ev,jo,false,does,.quiet q,node,has,nx,out⟩) (n:=.quiet q) rfl rfl (xU aq) hb aV r .an [] trivial)
 |false=>
  refine .fwd 1 ?_;refine .sched [5] (upto [5] 11 0) (by kernel_rfl) ?_;refine aa 0 ?_;refine aK [] (ec _ _ _) ?_;refine⟨_,wQuiet_,?_⟩;refine ja [_] aq (fun σ=>I3 M r q m d σ hm) (fun m' aV hb=>?_) (fun m' aV hb=>?_)
  ·refine ax [] (HM w r s l who ev jo false does node has nx out _ _ _ _ _) ?_;refine aj 0 ?_;refine aj 0 ?_;refine aa 0 ?_;exact .drop 1 1 (.done (gV (x:=⟨ev,jo,false,does,.quiet q,node,has,nx,out⟩) (n:=.quiet q) rfl rfl (xU aq) hb aV rfl rfl r))
  ·exact .done (iD (x:=⟨ev,jo,false,does,.quiet q,node,has,nx,out⟩) (n:=.quiet q) rfl rfl (xU aq) hb aV r .an [] trivial)
theorem ac3(M:AMem)(w r:Nat)(c:AV)(acc:Hp)(s:Sy)(l:Lay)(who:Int)(ev jo:Int)(does:Int)(q:Ck)(node:Int)(has:Bool)(nx out:List Int)(d:Int)(m:M.S)(σ:Hp)(hm:M.O.free (M.abs m)):
  ACalls Tryz.prog 390 [.ptr w 0,M.v,.int .i64 d] (WB s l who w r c acc ⟨ev,jo,false,does,.clear q,node,has,nx,out⟩++(M.B m++σ)) (qe M s l who w (dB M.O s l who ⟨ev,jo,false,does,.clear q,node,has,nx,out⟩ d (M.abs m)) σ):=by
 refine ay Tryz.func390 ?_;refine aa 0 ?_;refine aa 0 ?_;refine aa 0 ?_;obtain⟨q',a',b',aq⟩:∃q' a' b',sY M.O q (M.abs m)=(q',a',b'):=⟨_,_,_,rfl⟩
 obtain⟨u1,u2,u3,u4⟩:=q';refine .fwd 1 ?_;refine .sched [5] (upto [5] 11 0) (by kernel_rfl) ?_;refine aa 0 ?_;refine aK [] (ec _ _ _) ?_;refine⟨_,wClear_,?_⟩;refine ja [_] aq (fun σ=>W4 M r q m d σ hm) (fun m' aV hb=>?_) (fun m' aV hb=>?_)
 ·refine ax [] (TC w r s l who ev jo false does node has nx out _ _ _ _ _) ?_;refine aj 0 ?_;refine aj 0 ?_;refine aa 0 ?_;exact .drop 1 1 (.done (gV (x:=⟨ev,jo,false,does,.clear q,node,has,nx,out⟩) (n:=.clear q) rfl rfl (HT aq) hb aV rfl rfl r))
 ·exact .done (iD (x:=⟨ev,jo,false,does,.clear q,node,has,nx,out⟩) (n:=.clear q) rfl rfl (HT aq) hb aV r .an [] trivial)
theorem ae8(M:AMem)(w r:Nat)(c:AV)(acc:Hp)(s:Sy)(l:Lay)(who:Int)(ev jo:Int)(does:Int)(q:Tk)(node:Int)(has:Bool)(nx out:List Int)(d:Int)(m:M.S)(σ:Hp)(hm:M.O.free (M.abs m))(o3:xa l nx (.take q)):
  ACalls Tryz.prog 390 [.ptr w 0,M.v,.int .i64 d] (WB s l who w r c acc ⟨ev,jo,false,does,.take q,node,has,nx,out⟩++(M.B m++σ)) (qe M s l who w (dB M.O s l who ⟨ev,jo,false,does,.take q,node,has,nx,out⟩ d (M.abs m)) σ):=by
 refine ay Tryz.func390 ?_;refine aa 0 ?_;refine aa 0 ?_;refine aa 0 ?_;obtain⟨q',a',b',aq⟩:∃q' a' b',lD M.O q (M.abs m)=(q',a',b'):=⟨_,_,_,rfl⟩
 obtain⟨u1,u2,u3,u4,u5,u6⟩:=q';cases u4 with
 |true=>
  refine .fwd 1 ?_;refine .sched [5] (upto [5] 11 0) (by kernel_rfl) ?_;refine aa 0 ?_;refine aK [] (ec _ _ _) ?_;refine⟨_,wTake_,?_⟩;refine ja [_] aq (fun σ=>Jl M r q m d σ hm) (fun m' aV hb=>?_) (fun m' aV hb=>?_)
  ·refine ax [] (Ty w r s l who ev jo false does node has nx out _ _ _ _ _ _) ?_;refine aj 0 ?_;refine aj 0 ?_;refine aa 0 ?_;exact .drop 1 1 (.done (gV (x:=⟨ev,jo,false,does,.take q,node,has,nx,out⟩) (n:=.take q) rfl rfl (v8 aq) hb aV rfl rfl r))
  ·exact .done (iD (x:=⟨ev,jo,false,does,.take q,node,has,nx,out⟩) (n:=.take q) rfl rfl (v8 aq) hb aV r .an [] trivial)
 |false=>
  refine .fwd 1 ?_;refine .sched [5] (upto [5] 11 0) (by kernel_rfl) ?_;refine aa 0 ?_;refine aK [] (ec _ _ _) ?_;refine⟨_,wTake_,?_⟩;refine ja [_] aq (fun σ=>Jl M r q m d σ hm) (fun m' aV hb=>?_) (fun m' aV hb=>?_)
  ·refine ax [] (Tz w r s l who ev jo false does node has nx out _ _ _ _ _ _ o3) ?_;refine aj 0 ?_;refine aj 0 ?_;refine aa 0 ?_;exact .drop 1 1 (.done (gV (x:=⟨ev,jo,false,does,.take q,node,has,nx,out⟩) (n:=.take q) rfl rfl (v8 aq) hb aV rfl rfl r))
  ·exact .done (iD (x:=⟨ev,jo,false,does,.take q,node,has,nx,out⟩) (n:=.take q) rfl rfl (v8 aq) hb aV r .an [] trivial)
theorem aea(M:AMem)(w r:Nat)(c:AV)(acc:Hp)(s:Sy)(l:Lay)(who:Int)(ev jo:Int)(does:Int)(q:DQ)(node:Int)(has:Bool)(nx out:List Int)(d:Int)(m:M.S)(σ:Hp)(hm:M.O.free (M.abs m))(o3:xa l nx (.push q)):
  ACalls Tryz.prog 390 [.ptr w 0,M.v,.int .i64 d] (WB s l who w r c acc ⟨ev,jo,false,does,.push q,node,has,nx,out⟩++(M.B m++σ)) (qe M s l who w (dB M.O s l who ⟨ev,jo,false,does,.push q,node,has,nx,out⟩ d (M.abs m)) σ):=by
 refine ay Tryz.func390 ?_;refine aa 0 ?_;refine aa 0 ?_;refine aa 0 ?_;obtain⟨q',a',b',aq⟩:∃q' a' b',gH M.O q (M.abs m)=(q',a',b'):=⟨_,_,_,rfl⟩
 refine .fwd 1 ?_;refine .sched [5] (upto [5] 11 0) (by kernel_rfl) ?_;refine aa 0 ?_;refine aK [] (ec _ _ _) ?_;refine⟨_,wPush_,?_⟩;refine ja [_] aq (fun σ=>XA M r q m d σ hm (by have:=o3.1.1;omega) o3.1.2) (fun m' aV hb=>?_) (fun m' aV hb=>?_)
 ·refine ax [] (U1 w r s l who ev jo false does node has nx out _ _ o3.2) ?_;refine aj 0 ?_;refine aj 0 ?_;refine aa 0 ?_;exact .drop 1 1 (.done (gV (x:=⟨ev,jo,false,does,.push q,node,has,nx,out⟩) (n:=.push q) rfl rfl (Ef aq) hb aV rfl rfl r))
 ·exact .done (iD (x:=⟨ev,jo,false,does,.push q,node,has,nx,out⟩) (n:=.push q) rfl rfl (Ef aq) hb aV r .an [] trivial)
theorem aan(M:AMem)(w r:Nat)(c:AV)(acc:Hp)(s:Sy)(l:Lay)(who:Int)(ev jo:Int)(does:Int)(q:Rk)(node:Int)(has:Bool)(nx out:List Int)(d:Int)(m:M.S)(σ:Hp)(hm:M.O.free (M.abs m)):
  ACalls Tryz.prog 390 [.ptr w 0,M.v,.int .i64 d] (WB s l who w r c acc ⟨ev,jo,false,does,.dK q,node,has,nx,out⟩++(M.B m++σ)) (qe M s l who w (dB M.O s l who ⟨ev,jo,false,does,.dK q,node,has,nx,out⟩ d (M.abs m)) σ):=by
 refine ay Tryz.func390 ?_;refine aa 0 ?_;refine aa 0 ?_;refine aa 0 ?_;obtain⟨q',a',b',aq⟩:∃q' a' b',um M.O q (M.abs m)=(q',a',b'):=⟨_,_,_,rfl⟩
 refine .fwd 1 ?_;refine .sched [5] (upto [5] 11 0) (by kernel_rfl) ?_;refine aa 0 ?_;refine aK [] (ec _ _ _) ?_;refine⟨_,wRetire_,?_⟩;refine ja [_] aq (fun σ=>VW M r q m d σ hm) (fun m' aV hb=>?_) (fun m' aV hb=>?_)
 ·refine ax [] (Si w r s l who ev jo false does node has nx out _ _) ?_;refine aj 0 ?_;refine aj 0 ?_;refine aa 0 ?_;exact .drop 1 1 (.done (gV (x:=⟨ev,jo,false,does,.dK q,node,has,nx,out⟩) (n:=.dK q) rfl rfl (Hz aq) hb aV rfl rfl r))
 ·exact .done (iD (x:=⟨ev,jo,false,does,.dK q,node,has,nx,out⟩) (n:=.dK q) rfl rfl (Hz aq) hb aV r .an [] trivial)
theorem aec(M:AMem)(w r:Nat)(c:AV)(acc:Hp)(s:Sy)(l:Lay)(who:Int)(ev jo:Int)(does:Int)(q:Jn)(node:Int)(has:Bool)(nx out:List Int)(d:Int)(m:M.S)(σ:Hp)(hm:M.O.free (M.abs m))(o3:xa l nx (.join q)):
  ACalls Tryz.prog 390 [.ptr w 0,M.v,.int .i64 d] (WB s l who w r c acc ⟨ev,jo,false,does,.join q,node,has,nx,out⟩++(M.B m++σ)) (qe M s l who w (dB M.O s l who ⟨ev,jo,false,does,.join q,node,has,nx,out⟩ d (M.abs m)) σ):=by
 refine ay Tryz.func390 ?_;refine aa 0 ?_;refine aa 0 ?_;refine aa 0 ?_;obtain⟨q',a',b',aq⟩:∃q' a' b',iO M.O q (M.abs m)=(q',a',b'):=⟨_,_,_,rfl⟩
 obtain⟨u1,u2,u3,u4,u5,u6,u7,u8,u9,u10⟩:=q';cases u5 with
 |true=>
  refine .fwd 1 ?_;refine .sched [5] (upto [5] 11 0) (by kernel_rfl) ?_;refine aa 0 ?_;refine aK [] (ec _ _ _) ?_;refine⟨_,wJoin_,?_⟩;refine ja [_] aq (fun σ=>Jo M r q m d σ hm (by have:=o3.1;omega)) (fun m' aV hb=>?_) (fun m' aV hb=>?_)
  ·refine ax [] (TA w r s l who ev jo false does node has nx out _ _ _ _ _ _ _ _ _ _) ?_;refine aj 0 ?_;refine aj 0 ?_;refine aa 0 ?_;exact .drop 1 1 (.done (gV (x:=⟨ev,jo,false,does,.join q,node,has,nx,out⟩) (n:=.join q) rfl rfl (we aq) hb aV rfl rfl r))
  ·exact .done (iD (x:=⟨ev,jo,false,does,.join q,node,has,nx,out⟩) (n:=.join q) rfl rfl (we aq) hb aV r .an [] trivial)
 |false=>
  refine .fwd 1 ?_;refine .sched [5] (upto [5] 11 0) (by kernel_rfl) ?_;refine aa 0 ?_;refine aK [] (ec _ _ _) ?_;refine⟨_,wJoin_,?_⟩;refine ja [_] aq (fun σ=>Jo M r q m d σ hm (by have:=o3.1;omega)) (fun m' aV hb=>?_) (fun m' aV hb=>?_)
  ·refine ax [] (TB w r s l who ev jo false does node has nx out _ _ _ _ _ _ _ _ _ _ o3.2) ?_;refine aj 0 ?_;refine aj 0 ?_;refine aa 0 ?_;exact .drop 1 1 (.done (gV (x:=⟨ev,jo,false,does,.join q,node,has,nx,out⟩) (n:=.join q) rfl rfl (we aq) hb aV rfl rfl r))
  ·exact .done (iD (x:=⟨ev,jo,false,does,.join q,node,has,nx,out⟩) (n:=.join q) rfl rfl (we aq) hb aV r .an [] trivial)
theorem ae9(M:AMem)(w r:Nat)(c:AV)(acc:Hp)(s:Sy)(l:Lay)(who:Int)(ev jo:Int)(does:Int)(x:List Int)(node:Int)(has:Bool)(nx out:List Int)(d:Int)(m:M.S)(σ:Hp)(hm:M.O.free (M.abs m))(hf:Fit s)(hv:∀a,bK (M.O.ld (M.abs m) a).1)(o3:xa l nx (.read x))(OA:lv c acc x∧(x=[]→c=.an)):
  ACalls Tryz.prog 390 [.ptr w 0,M.v,.int .i64 d] (WB s l who w r c acc ⟨ev,jo,false,does,.read x,node,has,nx,out⟩++(M.B m++σ)) (qe M s l who w (dB M.O s l who ⟨ev,jo,false,does,.read x,node,has,nx,out⟩ d (M.abs m)) σ):=by
 refine ay Tryz.func390 ?_;refine aa 0 ?_;refine aa 0 ?_;refine aa 0 ?_;obtain⟨o4,o5⟩:=o3;obtain⟨oy,XX⟩:=OA
 by_cases ab:x.length<cw l.words
 ·have PE:=BZ l.words;have aq:nj M.O l (bc l node) x (M.abs m)=(x++[(M.O.ld (M.abs m) (wr (bc l node+(x.length:Nat)))).1],(M.O.ld (M.abs m) (wr (bc l node+(x.length:Nat)))).2,decide (x.length+1=cw l.words)):=af ab;have iJ:bh (x++[(M.O.ld (M.abs m) (wr (bc l node+(x.length:Nat)))).1]):=fun z hz=>by rcases bY.1 hz with h | h;exact o5 z h;rw[bD.1 h];exact hv _
  have hx3:(x++[(M.O.ld (M.abs m) (wr (bc l node+(x.length:Nat)))).1]).length=x.length+1:=by simp
  refine .fwd 1 ?_;refine .sched [5] (upto [5] 11 0) (by kernel_rfl) ?_;refine aa 0 ?_;refine aK [] (ec _ _ _) ?_;refine⟨_,wRead_,?_⟩;refine WH hm ab oy (fun m' b aV he=>?_) (fun m' b aV he=>?_)
  ·refine .kV 2 b 0 (x++[(M.O.ld (M.abs m) (wr (bc l node+(x.length:Nat)))).1]).length 1 _ (.int .u64) (x++[(M.O.ld (M.abs m) (wr (bc l node+(x.length:Nat)))).1]) rfl ?_ ⟨rfl,rfl,by decide⟩ 1 3 r _ rfl rfl ?_
   ·rw[List.drop_zero,← lA];exact List.take_of_length_le (by simp[aR])
   refine ax [] (H6 w r s l who ev jo false does node has nx out (x++[(M.O.ld (M.abs m) (wr (bc l node+(x.length:Nat)))).1]) _ _ _ _ _ _ _ _ hf iJ (by omega)) ?_;refine aj 0 ?_;refine aj 0 ?_;refine aa 0 ?_;exact .drop 1 1 (.done (gV (x:=⟨ev,jo,false,does,.read x,node,has,nx,out⟩) (n:=.read x) rfl rfl (zC aq) (bu he) aV rfl rfl r))
  ·exact .done (iD (x:=⟨ev,jo,false,does,.read x,node,has,nx,out⟩) (n:=.read x) rfl rfl (zC aq) (decide_eq_false he) aV r (.ae b 0 (x++[(M.O.ld (M.abs m) (wr (bc l node+(x.length:Nat)))).1]).length 1) [(b,aR (x++[(M.O.ld (M.abs m) (wr (bc l node+(x.length:Nat)))).1]))] ⟨.ae b (x++[(M.O.ld (M.abs m) (wr (bc l node+(x.length:Nat)))).1]),fun h=>absurd h (by simp)⟩)
 ·obtain⟨h0,rfl⟩:=o4.resolve_left ab;generalize hz:([]:List Int)=z0 at oy;cases oy with
  |ae b z=>exact absurd (XX rfl) (by simp)
  |nil=>
  have aq:nj M.O l (bc l node) [] (M.abs m)=([],M.abs m,true):=ag ab;refine .fwd 1 ?_;refine .sched [5] (upto [5] 11 0) (by kernel_rfl) ?_;refine aa 0 ?_;refine aK [] (ec _ _ _) ?_;refine⟨_,wRead_,?_⟩;refine ax [1] (VX M r _ _ _ _ _ _ d _ h0) ?_;refine Ng 0 3 r _ (.int .u64) rfl rfl ?_;refine ax [1] (H6 w r s l who ev jo false does node has nx out [] _ _ _ _ _ _ _ _ hf o5 (bC _)) ?_;refine aj 0 ?_;refine aj 0 ?_;refine aa 0 ?_;exact .drop 1 1 (.done (gV (x:=⟨ev,jo,false,does,.read [],node,has,nx,out⟩) (n:=.read []) rfl rfl (zC aq) rfl rfl rfl rfl r))
set_option maxHeartbeats 4000000
theorem ae4{l:Lay}{who does node:Int}{nx out:List Int}{d:Int}{x:List Int}(h:ji l who does node nx out d=.read x):x=[]:=by
 unfold ji at h
 repeat' (first | (cases h;rfl) | cases h | split at h)
theorem aeb(M:AMem)(w r0:Nat)(c:AV)(acc:Hp)(s:Sy)(l:Lay)(who:Int)(ev jo:Int)(does:Int)(node:Int)(has:Bool)(nx out:List Int)(d:Int)(m:M.S)(σ:Hp)(hm:M.O.free (M.abs m))(hf:Fit s)(hv:∀a,bK (M.O.ld (M.abs m) a).1)(o1:does=5∨does=6∨does=7→0<nx.length)(o2:does=1→nK l≠0∧l.k≠0):
  ACalls Tryz.prog 390 [.ptr w 0,M.v,.int .i64 d] (WB s l who w r0 c acc ⟨ev,jo,false,does,.none,node,has,nx,out⟩++(M.B m++σ)) (qe M s l who w (dB M.O s l who ⟨ev,jo,false,does,.none,node,has,nx,out⟩ d (M.abs m)) σ):=by
 refine ay Tryz.func390 ?_;refine aa 0 ?_;refine aa 0 ?_;refine aa 0 ?_;refine .mk [] _ (ahU w s l who ev jo false does .nilif node has nx out d _ o1 o2) ?_;rintro _ _ ⟨r,rfl,rfl⟩;have o3:xa l nx (ji l who does node nx out d):=afm o1;have h0:=ae3 l who does node nx out d;generalize hY:ji l who does node nx out d=n at o3 h0;cases n with
 |none=>exact absurd rfl h0
 |pop q=>
  obtain⟨q',a',b',aq⟩:∃q' a' b',fK M.O q (M.abs m)=(q',a',b'):=⟨_,_,_,rfl⟩
  obtain⟨u1,u2,u3,u4,u5,u6,u7,u8,u9⟩:=q';cases u4 with
  |true=>
   refine aj 1 ?_;refine gZ.eb (.pull [1] (.refl _)) ?_;refine .sched [5] (upto [5] 11 0) (by kernel_rfl) ?_;refine aa 0 ?_;refine aK [] (ec _ _ _) ?_;refine⟨_,wPop_,?_⟩;refine ja [_] aq (fun σ=>JY M r q m d σ hm (by have:=o3.1;omega) o3.2) (fun m' aV hb=>?_) (fun m' aV hb=>?_)
   ·refine ax [] (U2 w r s l who ev jo false does node has nx out _ _ _ _ _ _ _ _ _) ?_;refine aj 0 ?_;refine aj 0 ?_;refine aa 0 ?_;exact .drop 1 1 (.done (gV (x:=⟨ev,jo,false,does,.none,node,has,nx,out⟩) (n:=.pop q) rfl hY (wm aq) hb aV rfl rfl r))
   ·exact .done (iD (x:=⟨ev,jo,false,does,.none,node,has,nx,out⟩) (n:=.pop q) rfl hY (wm aq) hb aV r .an [] trivial)
  |false=>
   refine aj 1 ?_;refine gZ.eb (.pull [1] (.refl _)) ?_;refine .sched [5] (upto [5] 11 0) (by kernel_rfl) ?_;refine aa 0 ?_;refine aK [] (ec _ _ _) ?_;refine⟨_,wPop_,?_⟩;refine ja [_] aq (fun σ=>JY M r q m d σ hm (by have:=o3.1;omega) o3.2) (fun m' aV hb=>?_) (fun m' aV hb=>?_)
   ·refine ax [] (U3 w r s l who ev jo false does node has nx out _ _ _ _ _ _ _ _ _) ?_;refine aj 0 ?_;refine aj 0 ?_;refine aa 0 ?_;exact .drop 1 1 (.done (gV (x:=⟨ev,jo,false,does,.none,node,has,nx,out⟩) (n:=.pop q) rfl hY (wm aq) hb aV rfl rfl r))
   ·exact .done (iD (x:=⟨ev,jo,false,does,.none,node,has,nx,out⟩) (n:=.pop q) rfl hY (wm aq) hb aV r .an [] trivial)
 |cu q=>
  obtain⟨q',a',b',aq⟩:∃q' a' b',gU M.O q (M.abs m)=(q',a',b'):=⟨_,_,_,rfl⟩
  obtain⟨u1,u2,u3,u4,u5,u6,u7,u8,u9⟩:=q';cases u4 with
  |true=>
   refine aj 1 ?_;refine gZ.eb (.pull [1] (.refl _)) ?_;refine .sched [5] (upto [5] 11 0) (by kernel_rfl) ?_;refine aa 0 ?_;refine aK [] (ec _ _ _) ?_;refine⟨_,wSteal_,?_⟩;refine ja [_] aq (fun σ=>I1 M r q m d σ hm (by have:=o3.1;omega) o3.2) (fun m' aV hb=>?_) (fun m' aV hb=>?_)
   ·refine ax [] (Sf w r s l who ev jo false does node has nx out _ _ _ _ _ _ _ _ _) ?_;refine aj 0 ?_;refine aj 0 ?_;refine aa 0 ?_;exact .drop 1 1 (.done (gV (x:=⟨ev,jo,false,does,.none,node,has,nx,out⟩) (n:=.cu q) rfl hY (vV aq) hb aV rfl rfl r))
   ·exact .done (iD (x:=⟨ev,jo,false,does,.none,node,has,nx,out⟩) (n:=.cu q) rfl hY (vV aq) hb aV r .an [] trivial)
  |false=>
   refine aj 1 ?_;refine gZ.eb (.pull [1] (.refl _)) ?_;refine .sched [5] (upto [5] 11 0) (by kernel_rfl) ?_;refine aa 0 ?_;refine aK [] (ec _ _ _) ?_;refine⟨_,wSteal_,?_⟩;refine ja [_] aq (fun σ=>I1 M r q m d σ hm (by have:=o3.1;omega) o3.2) (fun m' aV hb=>?_) (fun m' aV hb=>?_)
   ·refine ax [] (Sg w r s l who ev jo false does node has nx out _ _ _ _ _ _ _ _ _) ?_;refine aj 0 ?_;refine aj 0 ?_;refine aa 0 ?_;exact .drop 1 1 (.done (gV (x:=⟨ev,jo,false,does,.none,node,has,nx,out⟩) (n:=.cu q) rfl hY (vV aq) hb aV rfl rfl r))
   ·exact .done (iD (x:=⟨ev,jo,false,does,.none,node,has,nx,out⟩) (n:=.cu q) rfl hY (vV aq) hb aV r .an [] trivial)
 |quiet q=>
  obtain⟨q',a',b',aq⟩:∃q' a' b',sX M.O q (M.abs m)=(q',a',b'):=⟨_,_,_,rfl⟩
  obtain⟨u1,u2,u3,u4⟩:=q';cases u3 with
  |true=>
   refine aj 1 ?_;refine gZ.eb (.pull [1] (.refl _)) ?_;refine .sched [5] (upto [5] 11 0) (by kernel_rfl) ?_;refine aa 0 ?_;refine aK [] (ec _ _ _) ?_;refine⟨_,wQuiet_,?_⟩;refine ja [_] aq (fun σ=>I3 M r q m d σ hm) (fun m' aV hb=>?_) (fun m' aV hb=>?_)
   ·refine ax [] (HM w r s l who ev jo false does node has nx out _ _ _ _ _) ?_;refine aj 0 ?_;refine aj 0 ?_;refine aa 0 ?_;exact .drop 1 1 (.done (gV (x:=⟨ev,jo,false,does,.none,node,has,nx,out⟩) (n:=.quiet q) rfl hY (xU aq) hb aV rfl rfl r))
   ·exact .done (iD (x:=⟨ev,jo,false,does,.none,node,has,nx,out⟩) (n:=.quiet q) rfl hY (xU aq) hb aV r .an [] trivial)
  |false=>
   refine aj 1 ?_;refine gZ.eb (.pull [1] (.refl _)) ?_;refine .sched [5] (upto [5] 11 0) (by kernel_rfl) ?_;refine aa 0 ?_;refine aK [] (ec _ _ _) ?_;refine⟨_,wQuiet_,?_⟩;refine ja [_] aq (fun σ=>I3 M r q m d σ hm) (fun m' aV hb=>?_) (fun m' aV hb=>?_)
   ·refine ax [] (HM w r s l who ev jo false does node has nx out _ _ _ _ _) ?_;refine aj 0 ?_;refine aj 0 ?_;refine aa 0 ?_;exact .drop 1 1 (.done (gV (x:=⟨ev,jo,false,does,.none,node,has,nx,out⟩) (n:=.quiet q) rfl hY (xU aq) hb aV rfl rfl r))
   ·exact .done (iD (x:=⟨ev,jo,false,does,.none,node,has,nx,out⟩) (n:=.quiet q) rfl hY (xU aq) hb aV r .an [] trivial)
 |clear q=>
  obtain⟨q',a',b',aq⟩:∃q' a' b',sY M.O q (M.abs m)=(q',a',b'):=⟨_,_,_,rfl⟩
  obtain⟨u1,u2,u3,u4⟩:=q';refine aj 1 ?_;refine gZ.eb (.pull [1] (.refl _)) ?_;refine .sched [5] (upto [5] 11 0) (by kernel_rfl) ?_;refine aa 0 ?_;refine aK [] (ec _ _ _) ?_;refine⟨_,wClear_,?_⟩;refine ja [_] aq (fun σ=>W4 M r q m d σ hm) (fun m' aV hb=>?_) (fun m' aV hb=>?_)
  ·refine ax [] (TC w r s l who ev jo false does node has nx out _ _ _ _ _) ?_;refine aj 0 ?_;refine aj 0 ?_;refine aa 0 ?_;exact .drop 1 1 (.done (gV (x:=⟨ev,jo,false,does,.none,node,has,nx,out⟩) (n:=.clear q) rfl hY (HT aq) hb aV rfl rfl r))
  ·exact .done (iD (x:=⟨ev,jo,false,does,.none,node,has,nx,out⟩) (n:=.clear q) rfl hY (HT aq) hb aV r .an [] trivial)
 |read x=>
  obtain rfl:x=[]:=ae4 hY;have OA:lv .an [] []∧(([]:List Int)=[]→AV.an=.an):=⟨.nil,fun _=>rfl⟩
  obtain⟨o4,o5⟩:=o3;obtain⟨oy,XX⟩:=OA
  by_cases ab:([]:List Int).length<cw l.words
  ·have PE:=BZ l.words;have aq:nj M.O l (bc l node) ([]:List Int) (M.abs m)=(([]:List Int)++[(M.O.ld (M.abs m) (wr (bc l node+(([]:List Int).length:Nat)))).1],(M.O.ld (M.abs m) (wr (bc l node+(([]:List Int).length:Nat)))).2,decide (([]:List Int).length+1=cw l.words)):=af ab;have iJ:bh (([]:List Int)++[(M.O.ld (M.abs m) (wr (bc l node+(([]:List Int).length:Nat)))).1]):=fun z hz=>by rcases bY.1 hz with h | h;exact o5 z h;rw[bD.1 h];exact hv _
   have hx3:(([]:List Int)++[(M.O.ld (M.abs m) (wr (bc l node+(([]:List Int).length:Nat)))).1]).length=([]:List Int).length+1:=by simp
   refine aj 1 ?_;refine gZ.eb (.pull [1] (.refl _)) ?_;refine .sched [5] (upto [5] 11 0) (by kernel_rfl) ?_;refine aa 0 ?_;refine aK [] (ec _ _ _) ?_;refine⟨_,wRead_,?_⟩;refine WH hm ab oy (fun m' b aV he=>?_) (fun m' b aV he=>?_)
   ·refine .kV 2 b 0 (([]:List Int)++[(M.O.ld (M.abs m) (wr (bc l node+(([]:List Int).length:Nat)))).1]).length 1 _ (.int .u64) (([]:List Int)++[(M.O.ld (M.abs m) (wr (bc l node+(([]:List Int).length:Nat)))).1]) rfl ?_ ⟨rfl,rfl,by decide⟩ 1 3 r _ rfl rfl ?_
    ·rw[List.drop_zero,← lA];exact List.take_of_length_le (by simp[aR])
    refine ax [] (H6 w r s l who ev jo false does node has nx out (([]:List Int)++[(M.O.ld (M.abs m) (wr (bc l node+(([]:List Int).length:Nat)))).1]) _ _ _ _ _ _ _ _ hf iJ (by omega)) ?_;refine aj 0 ?_;refine aj 0 ?_;refine aa 0 ?_;exact .drop 1 1 (.done (gV (x:=⟨ev,jo,false,does,.none,node,has,nx,out⟩) (n:=.read ([]:List Int)) rfl hY (zC aq) (bu he) aV rfl rfl r))
   ·exact .done (iD (x:=⟨ev,jo,false,does,.none,node,has,nx,out⟩) (n:=.read ([]:List Int)) rfl hY (zC aq) (decide_eq_false he) aV r (.ae b 0 (([]:List Int)++[(M.O.ld (M.abs m) (wr (bc l node+(([]:List Int).length:Nat)))).1]).length 1) [(b,aR (([]:List Int)++[(M.O.ld (M.abs m) (wr (bc l node+(([]:List Int).length:Nat)))).1]))] ⟨.ae b (([]:List Int)++[(M.O.ld (M.abs m) (wr (bc l node+(([]:List Int).length:Nat)))).1]),fun h=>absurd h (by simp)⟩)
  ·obtain⟨h0,-⟩:=o4.resolve_left ab;generalize hz:([]:List Int)=z0 at oy;cases oy with
   |nil=>
   have aq:nj M.O l (bc l node) [] (M.abs m)=([],M.abs m,true):=ag ab;refine aj 1 ?_;refine gZ.eb (.pull [1] (.refl _)) ?_;refine .sched [5] (upto [5] 11 0) (by kernel_rfl) ?_;refine aa 0 ?_;refine aK [] (ec _ _ _) ?_;refine⟨_,wRead_,?_⟩;refine ax [1] (VX M r _ _ _ _ _ _ d _ h0) ?_;refine Ng 0 3 r _ (.int .u64) rfl rfl ?_;refine ax [1] (H6 w r s l who ev jo false does node has nx out [] _ _ _ _ _ _ _ _ hf o5 (bC _)) ?_;refine aj 0 ?_;refine aj 0 ?_;refine aa 0 ?_;exact .drop 1 1 (.done (gV (x:=⟨ev,jo,false,does,.none,node,has,nx,out⟩) (n:=.read []) rfl hY (zC aq) rfl rfl rfl rfl r))
 |join q=>
  obtain⟨q',a',b',aq⟩:∃q' a' b',iO M.O q (M.abs m)=(q',a',b'):=⟨_,_,_,rfl⟩
  obtain⟨u1,u2,u3,u4,u5,u6,u7,u8,u9,u10⟩:=q';cases u5 with
  |true=>
   refine aj 1 ?_;refine gZ.eb (.pull [1] (.refl _)) ?_;refine .sched [5] (upto [5] 11 0) (by kernel_rfl) ?_;refine aa 0 ?_;refine aK [] (ec _ _ _) ?_;refine⟨_,wJoin_,?_⟩;refine ja [_] aq (fun σ=>Jo M r q m d σ hm (by have:=o3.1;omega)) (fun m' aV hb=>?_) (fun m' aV hb=>?_)
   ·refine ax [] (TA w r s l who ev jo false does node has nx out _ _ _ _ _ _ _ _ _ _) ?_;refine aj 0 ?_;refine aj 0 ?_;refine aa 0 ?_;exact .drop 1 1 (.done (gV (x:=⟨ev,jo,false,does,.none,node,has,nx,out⟩) (n:=.join q) rfl hY (we aq) hb aV rfl rfl r))
   ·exact .done (iD (x:=⟨ev,jo,false,does,.none,node,has,nx,out⟩) (n:=.join q) rfl hY (we aq) hb aV r .an [] trivial)
  |false=>
   refine aj 1 ?_;refine gZ.eb (.pull [1] (.refl _)) ?_;refine .sched [5] (upto [5] 11 0) (by kernel_rfl) ?_;refine aa 0 ?_;refine aK [] (ec _ _ _) ?_;refine⟨_,wJoin_,?_⟩;refine ja [_] aq (fun σ=>Jo M r q m d σ hm (by have:=o3.1;omega)) (fun m' aV hb=>?_) (fun m' aV hb=>?_)
   ·refine ax [] (TB w r s l who ev jo false does node has nx out _ _ _ _ _ _ _ _ _ _ o3.2) ?_;refine aj 0 ?_;refine aj 0 ?_;refine aa 0 ?_;exact .drop 1 1 (.done (gV (x:=⟨ev,jo,false,does,.none,node,has,nx,out⟩) (n:=.join q) rfl hY (we aq) hb aV rfl rfl r))
   ·exact .done (iD (x:=⟨ev,jo,false,does,.none,node,has,nx,out⟩) (n:=.join q) rfl hY (we aq) hb aV r .an [] trivial)
 |take q=>
  obtain⟨q',a',b',aq⟩:∃q' a' b',lD M.O q (M.abs m)=(q',a',b'):=⟨_,_,_,rfl⟩
  obtain⟨u1,u2,u3,u4,u5,u6⟩:=q';cases u4 with
  |true=>
   refine aj 1 ?_;refine gZ.eb (.pull [1] (.refl _)) ?_;refine .sched [5] (upto [5] 11 0) (by kernel_rfl) ?_;refine aa 0 ?_;refine aK [] (ec _ _ _) ?_;refine⟨_,wTake_,?_⟩;refine ja [_] aq (fun σ=>Jl M r q m d σ hm) (fun m' aV hb=>?_) (fun m' aV hb=>?_)
   ·refine ax [] (Ty w r s l who ev jo false does node has nx out _ _ _ _ _ _) ?_;refine aj 0 ?_;refine aj 0 ?_;refine aa 0 ?_;exact .drop 1 1 (.done (gV (x:=⟨ev,jo,false,does,.none,node,has,nx,out⟩) (n:=.take q) rfl hY (v8 aq) hb aV rfl rfl r))
   ·exact .done (iD (x:=⟨ev,jo,false,does,.none,node,has,nx,out⟩) (n:=.take q) rfl hY (v8 aq) hb aV r .an [] trivial)
  |false=>
   refine aj 1 ?_;refine gZ.eb (.pull [1] (.refl _)) ?_;refine .sched [5] (upto [5] 11 0) (by kernel_rfl) ?_;refine aa 0 ?_;refine aK [] (ec _ _ _) ?_;refine⟨_,wTake_,?_⟩;refine ja [_] aq (fun σ=>Jl M r q m d σ hm) (fun m' aV hb=>?_) (fun m' aV hb=>?_)
   ·refine ax [] (Tz w r s l who ev jo false does node has nx out _ _ _ _ _ _ o3) ?_;refine aj 0 ?_;refine aj 0 ?_;refine aa 0 ?_;exact .drop 1 1 (.done (gV (x:=⟨ev,jo,false,does,.none,node,has,nx,out⟩) (n:=.take q) rfl hY (v8 aq) hb aV rfl rfl r))
   ·exact .done (iD (x:=⟨ev,jo,false,does,.none,node,has,nx,out⟩) (n:=.take q) rfl hY (v8 aq) hb aV r .an [] trivial)
 |push q=>
  obtain⟨q',a',b',aq⟩:∃q' a' b',gH M.O q (M.abs m)=(q',a',b'):=⟨_,_,_,rfl⟩
  refine aj 1 ?_;refine gZ.eb (.pull [1] (.refl _)) ?_;refine .sched [5] (upto [5] 11 0) (by kernel_rfl) ?_;refine aa 0 ?_;refine aK [] (ec _ _ _) ?_;refine⟨_,wPush_,?_⟩;refine ja [_] aq (fun σ=>XA M r q m d σ hm (by have:=o3.1.1;omega) o3.1.2) (fun m' aV hb=>?_) (fun m' aV hb=>?_)
  ·refine ax [] (U1 w r s l who ev jo false does node has nx out _ _ o3.2) ?_;refine aj 0 ?_;refine aj 0 ?_;refine aa 0 ?_;exact .drop 1 1 (.done (gV (x:=⟨ev,jo,false,does,.none,node,has,nx,out⟩) (n:=.push q) rfl hY (Ef aq) hb aV rfl rfl r))
  ·exact .done (iD (x:=⟨ev,jo,false,does,.none,node,has,nx,out⟩) (n:=.push q) rfl hY (Ef aq) hb aV r .an [] trivial)
 |dK q=>
  obtain⟨q',a',b',aq⟩:∃q' a' b',um M.O q (M.abs m)=(q',a',b'):=⟨_,_,_,rfl⟩
  refine aj 1 ?_;refine gZ.eb (.pull [1] (.refl _)) ?_;refine .sched [5] (upto [5] 11 0) (by kernel_rfl) ?_;refine aa 0 ?_;refine aK [] (ec _ _ _) ?_;refine⟨_,wRetire_,?_⟩;refine ja [_] aq (fun σ=>VW M r q m d σ hm) (fun m' aV hb=>?_) (fun m' aV hb=>?_)
  ·refine ax [] (Si w r s l who ev jo false does node has nx out _ _) ?_;refine aj 0 ?_;refine aj 0 ?_;refine aa 0 ?_;exact .drop 1 1 (.done (gV (x:=⟨ev,jo,false,does,.none,node,has,nx,out⟩) (n:=.dK q) rfl hY (Hz aq) hb aV rfl rfl r))
  ·exact .done (iD (x:=⟨ev,jo,false,does,.none,node,has,nx,out⟩) (n:=.dK q) rfl hY (Hz aq) hb aV r .an [] trivial)
theorem ahu(M:AMem)(w r:Nat)(c:AV)(acc:Hp)(s:Sy)(l:Lay)(who:Int)(x:WS)(d:Int)(m:M.S)(σ:Hp)(hf:Fit s)(hm:M.O.free (M.abs m))(hv:∀a,bK (M.O.ld (M.abs m) a).1)(ok:Ox l x)(rd:z7 c acc x.now):
  ACalls Tryz.prog 390 [.ptr w 0,M.v,.int .i64 d] (WB s l who w r c acc x++(M.B m++σ)) (qe M s l who w (dB M.O s l who x d (M.abs m)) σ):=by
 obtain⟨ev,jo,en,does,n,node,has,nx,out⟩:=x;obtain⟨o1,o2,o3⟩:=ok;cases en with
 |true=>
  refine ay Tryz.func390 ?_;refine aa 0 ?_;refine aa 0 ?_;exact .done (acn rfl rfl rd)
 |false=>
  cases n with
  |none=>exact aeb M w r c acc s l who ev jo does node has nx out d m σ hm hf hv o1 o2
  |pop q=>exact ag1 M w r c acc s l who ev jo does q node has nx out d m σ hm o3
  |cu q=>exact abZ M w r c acc s l who ev jo does q node has nx out d m σ hm o3
  |quiet q=>exact ac0 M w r c acc s l who ev jo does q node has nx out d m σ hm
  |clear q=>exact ac3 M w r c acc s l who ev jo does q node has nx out d m σ hm
  |read q=>exact ae9 M w r c acc s l who ev jo does q node has nx out d m σ hm hf hv o3 rd
  |join q=>exact aec M w r c acc s l who ev jo does q node has nx out d m σ hm o3
  |take q=>exact ae8 M w r c acc s l who ev jo does q node has nx out d m σ hm o3
  |push q=>exact aea M w r c acc s l who ev jo does q node has nx out d m σ hm o3
  |dK q=>exact aan M w r c acc s l who ev jo does q node has nx out d m σ hm
end Go.Proofs.YtnikdflhefijbaaGreat
