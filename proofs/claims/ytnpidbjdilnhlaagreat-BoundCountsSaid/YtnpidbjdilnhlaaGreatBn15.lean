import Derived.Test.YtnpidbjdilnhlaaGreatBn14
namespace Go.Proofs.YtnpidbjdilnhlaaGreat
open Go.RowKit
set_option maxRecDepth 100000
def aJ(n:Int):Int:=(n+32768) % 65536-32768
theorem xg(n:Int): -32768≤aJ n:=by unfold aJ;omega
theorem xh(n:Int):aJ n≤32767:=by unfold aJ;omega
theorem SL(n:Int):(0≤n∧n.tmod 65536=n % 65536)∨(n<0∧n.tmod 65536 = -((-n) % 65536)):=by
 by_cases h:0≤n
 ·exact .inl ⟨h,Int.tmod_eq_emod_of_nonneg h⟩
 ·refine .inr ⟨by omega,?_⟩
  have:=Int.neg_tmod (-n) 65536
  rw[Int.neg_neg,Int.tmod_eq_emod_of_nonneg (a:= -n) (by omega)]at this
  exact this
theorem DK(n:Int)(σ:Hp):ACalls Tryz.prog 318 [.int .i64 n] σ (az (.int .i64 (aJ n)) σ):=by
 refine okF Tryz.func318 (by kernel_rfl) ?_
 have hc:=SL n
 refine ag.mk (by omega) ?_
 refine ao (fun h1 =>?_) (fun h1 =>?_)
 ·have h1:32767<n.tmod 65536:=h1
  exact .done ⟨aN (by rw[IntKind.wrap_i64];unfold aJ;omega),rfl⟩
 ·have h1:¬(32767<n.tmod 65536):=h1
  refine ao (fun h2 =>?_) (fun h2 =>?_)
  ·have h2:n.tmod 65536 < -32768:=h2
   exact .done ⟨aN (by rw[IntKind.wrap_i64];unfold aJ;omega),rfl⟩
  ·have h2:¬(n.tmod 65536 < -32768):=h2
   exact .done ⟨aN (by unfold aJ;omega),rfl⟩
abbrev nC(x y:Int):List AV:=[.int .i64 x,.int .i64 y]
theorem Be(a b:Int)(σ:Hp):ACalls Tryz.prog 295 [.int .i64 a,.int .i64 b] σ (az (.agg (nC (aJ a) (aJ b))) σ):=by
 refine okF Tryz.func295 (by kernel_rfl) ?_
 intro b1
 refine ax [] (DK _ _) ?_
 refine ax [] (DK _ _) ?_
 refine ai 0 ?_
 refine aa 0 ?_
 exact .drop 0 1 (.done ⟨rfl,rfl⟩)
theorem acn(x y:Int)(σ:Hp):ACalls Tryz.prog 266 [.agg (nC x y)] σ (az (.bool (decide (x=aJ x) && decide (y=aJ y))) σ):=by
 refine okF Tryz.func266 (by kernel_rfl) ?_
 intro aC
 refine .quiet (by kernel_rfl) ?_
 refine aa 0 ?_
 refine aa 0 ?_
 refine aa 0 ?_
 refine aD [] (Be _ _ _) ?_
 refine EqAt.mk (by kernel_rfl) (by kernel_rfl) ?_
 have e:eA (qV (nC x y) (nC (aJ x) (aJ y)))=(decide (x=aJ x) && decide (y=aJ y)):=by
  show (decide (x=aJ x) && (decide (y=aJ y) && true))=_
  rw[Bool.and_true]
 rw[← e]
 refine dx (fun c =>?_) (fun c =>?_)
 ·have c:eA (qV (nC x y) (nC (aJ x) (aJ y)))=true:=c
  rw[c]
  exact .drop 0 1 (.done ⟨rfl,rfl⟩)
 ·have c:eA (qV (nC x y) (nC (aJ x) (aJ y)))=false:=c
  rw[c]
  exact .drop 0 1 (.done ⟨rfl,rfl⟩)
theorem vq(x y:Int)(σ:Hp):ACalls Tryz.prog 339 [.agg (nC x y)] σ (az (.eM (aJ x) (aJ y)) σ):=by
 have h1:=xg x
 have h2:=xh x
 have h3:=xg y
 have h4:=xh y
 refine okF Tryz.func339 (by kernel_rfl) ?_
 intro aC
 refine aa 0 ?_
 refine aa 0 ?_
 refine ax [] (Be _ _ _) ?_
 refine ai 0 ?_
 refine aa 0 ?_
 refine .mk (by unfold fO;omega) ?_
 refine aa 0 ?_
 refine .mk (by unfold fO;omega) ?_
 exact .drop 0 1 (.done ⟨rfl,rfl⟩)
theorem Pu{x:Int}(h:fO x):IntKind.i64.min≤x∧x≤IntKind.i64.max:=by
 unfold fO at h
 have e1:IntKind.i64.min = -9223372036854775808:=by decide
 have e2:IntKind.i64.max=9223372036854775807:=by decide
 rw[e1,e2];omega
theorem DL(x y:Int)(σ:Hp)(hx:fO x)(hy:fO y):ACalls Tryz.prog 338 [.eM x y] σ (az (.agg (nC (aJ x) (aJ y))) σ):=by
 refine okF Tryz.func338 (by kernel_rfl) ?_
 intro aC
 refine .mk (Pu hx) ?_
 refine .mk (Pu hy) ?_
 refine ax [] (Be _ _ _) ?_
 refine ai 0 ?_
 refine aa 0 ?_
 exact .drop 0 1 (.done ⟨rfl,rfl⟩)
theorem CG{a b:Int}(ha : -32768≤a∧a≤32768)(hb : -32768≤b∧b≤32768): -1073741824≤a*b∧a*b≤1073741824:=by
 have h1:a.natAbs*b.natAbs≤32768*32768:=Nat.mul_le_mul (by omega) (by omega)
 rw[← Int.natAbs_mul]at h1
 omega
theorem DG(a b c d:Int):(-32768≤aJ a∧aJ a≤32767)∧(-32768≤aJ b∧aJ b≤32767)∧(-32768≤aJ c∧aJ c≤32767)∧-32768≤aJ d∧aJ d≤32767:=
 ⟨⟨xg a,xh a⟩,⟨xg b,xh b⟩,⟨xg c,xh c⟩,xg d,xh d⟩
theorem abM(a b c d:Int):(-1073741824≤aJ a*aJ c∧aJ a*aJ c≤1073741824)∧(-1073741824≤aJ b*aJ d∧aJ b*aJ d≤1073741824)∧(-1073741824≤aJ a*aJ d∧aJ a*aJ d≤1073741824)∧-1073741824≤aJ b*aJ c∧aJ b*aJ c≤1073741824:=by
 have h:=DG a b c d
 exact⟨CG (by omega) (by omega),CG (by omega) (by omega),CG (by omega) (by omega),CG (by omega) (by omega)⟩
theorem abf(a b c d:Int)(σ:Hp):ACalls Tryz.prog 334 [.agg (nC a b),.agg (nC c d)] σ (az (.agg (nC (aJ (aJ a+aJ c)) (aJ (aJ b+aJ d)))) σ):=by
 have hF:=DG a b c d
 refine okF Tryz.func334 (by kernel_rfl) ?_
 intro aC
 intro dI
 intro pB
 refine .sched [1,3,5] (upto [1,3,5] 7 0) (by kernel_rfl) ?_
 refine aa 2 ?_
 refine aD [] (vq _ _ _) ?_
 refine aa 1 ?_
 refine aD [] (vq _ _ _) ?_
 refine .mk (by unfold fO;omega) ?_
 refine aD [] (DL _ _ _ (by unfold fO;omega) (by unfold fO;omega)) ?_
 refine ai 0 ?_
 refine aa 0 ?_
 exact .drop 0 3 (.done ⟨rfl,rfl⟩)
theorem abd(a b c d:Int)(σ:Hp):ACalls Tryz.prog 335 [.agg (nC a b),.agg (nC c d)] σ (az (.agg (nC (aJ (aJ a-aJ c)) (aJ (aJ b-aJ d)))) σ):=by
 have hF:=DG a b c d
 refine okF Tryz.func335 (by kernel_rfl) ?_
 intro aC
 intro dI
 intro pB
 refine .sched [1,3,5] (upto [1,3,5] 7 0) (by kernel_rfl) ?_
 refine aa 2 ?_
 refine aD [] (vq _ _ _) ?_
 refine aa 1 ?_
 refine aD [] (vq _ _ _) ?_
 refine .mk (by unfold fO;omega) ?_
 refine aD [] (DL _ _ _ (by unfold fO;omega) (by unfold fO;omega)) ?_
 refine ai 0 ?_
 refine aa 0 ?_
 exact .drop 0 3 (.done ⟨rfl,rfl⟩)
theorem abe(a b c d:Int)(σ:Hp):ACalls Tryz.prog 336 [.agg (nC a b),.agg (nC c d)] σ (az (.agg (nC (aJ (aJ a*aJ c-aJ b*aJ d)) (aJ (aJ a*aJ d+aJ b*aJ c)))) σ):=by
 have hF:=abM a b c d
 refine okF Tryz.func336 (by kernel_rfl) ?_
 intro aC
 intro dI
 intro pB
 refine .sched [1,3,5] (upto [1,3,5] 7 0) (by kernel_rfl) ?_
 refine aa 2 ?_
 refine aD [] (vq _ _ _) ?_
 refine aa 1 ?_
 refine aD [] (vq _ _ _) ?_
 refine .mk (by unfold fO;omega) ?_
 refine aD [] (DL _ _ _ (by unfold fO;omega) (by unfold fO;omega)) ?_
 refine ai 0 ?_
 refine aa 0 ?_
 exact .drop 0 3 (.done ⟨rfl,rfl⟩)
theorem aa7(a b:Int)(σ:Hp):ACalls Tryz.prog 337 [.agg (nC a b)] σ (az (.agg (nC (aJ (aJ a)) (aJ (-aJ b)))) σ):=by
 have hF:=DG a b 0 0
 refine okF Tryz.func337 (by kernel_rfl) ?_
 intro aC
 intro dI
 refine aa 1 ?_
 refine ax [] (vq _ _ _) ?_
 refine ax [] (DL _ _ _ (by unfold fO;omega) (by unfold fO;omega)) ?_
 refine ai 0 ?_
 refine aa 0 ?_
 exact .drop 0 2 (.done ⟨rfl,rfl⟩)
def og(op a b c d:Int):Option (Int×Int):=
 if op=0 then some (aJ a,aJ b) else
 if op=1 then some (aJ (aJ a+aJ c),aJ (aJ b+aJ d)) else
 if op=2 then some (aJ (aJ a-aJ c),aJ (aJ b-aJ d)) else
 if op=3 then some (aJ (aJ a*aJ c-aJ b*aJ d),aJ (aJ a*aJ d+aJ b*aJ c)) else
 if op=4 then some (aJ (aJ a),aJ (-aJ b)) else none
def wH(r:Option (Int×Int))(ok err:AV):AV:=match r with | some (x,y)=>.tup [.agg (nC x y),ok] | none=>.tup [.agg (nC 0 0),err]
theorem I9(op a b c d:Int)(σ:Hp):ACalls Tryz.prog 332 [.int .i64 op,.agg (nC a b),.agg (nC c d)] σ (az (wH (og op a b c d) (.int .i64 0) (.int .i64 10)) σ):=by
 refine okF Tryz.func332 (by kernel_rfl) ?_
 intro aC
 intro dI
 intro pB
 intro bl4
 refine ao (fun c5 =>?_) (fun c5 =>?_)
 ·have c5:op=0:=c5
  refine aa 3 ?_
  refine aa 3 ?_
  refine ax [] (Be _ _ _) ?_
  refine ai 0 ?_
  refine .fwd 1 ?_
  refine aa 0 ?_
  refine ai 1 ?_
  refine aa 1 ?_
  exact .drop 0 4 (.done ⟨(by simp[og,wH, *];rfl),rfl⟩)
 ·have c5:¬(op=0):=c5
  refine ao (fun c6 =>?_) (fun c6 =>?_)
  ·have c6:op=1:=c6
   refine aa 3 ?_
   refine aa 2 ?_
   refine ax [] (abf _ _ _ _ _) ?_
   refine ai 0 ?_
   refine .fwd 1 ?_
   refine aa 0 ?_
   refine ai 1 ?_
   refine aa 1 ?_
   exact .drop 0 4 (.done ⟨(by simp[og,wH, *];rfl),rfl⟩)
  ·have c6:¬(op=1):=c6
   refine ao (fun c7 =>?_) (fun c7 =>?_)
   ·have c7:op=2:=c7
    refine aa 3 ?_
    refine aa 2 ?_
    refine ax [] (abd _ _ _ _ _) ?_
    refine ai 0 ?_
    refine .fwd 1 ?_
    refine aa 0 ?_
    refine ai 1 ?_
    refine aa 1 ?_
    exact .drop 0 4 (.done ⟨(by simp[og,wH, *];rfl),rfl⟩)
   ·have c7:¬(op=2):=c7
    refine ao (fun c8 =>?_) (fun c8 =>?_)
    ·have c8:op=3:=c8
     refine aa 3 ?_
     refine aa 2 ?_
     refine ax [] (abe _ _ _ _ _) ?_
     refine ai 0 ?_
     refine .fwd 1 ?_
     refine aa 0 ?_
     refine ai 1 ?_
     refine aa 1 ?_
     exact .drop 0 4 (.done ⟨(by simp[og,wH, *];rfl),rfl⟩)
    ·have c8:¬(op=3):=c8
     refine ao (fun c9 =>?_) (fun c9 =>?_)
     ·have c9:op=4:=c9
      refine aa 3 ?_
      refine ax [] (aa7 _ _ _) ?_
      refine ai 0 ?_
      refine .fwd 1 ?_
      refine aa 0 ?_
      refine ai 1 ?_
      refine aa 1 ?_
      exact .drop 0 4 (.done ⟨(by simp[og,wH, *];rfl),rfl⟩)
     ·have c9:¬(op=4):=c9
      refine ai 1 ?_
      refine aa 1 ?_
      exact .drop 0 4 (.done ⟨(by simp[og,wH, *];rfl),rfl⟩)
def qP(x y:Int):Int:=aJ x % 65536+65536*(aJ y % 65536)
theorem CT(x y:Int):0≤qP x y:=by unfold qP;omega
theorem GL(x y:Int):qP x y<4294967296:=by unfold qP;omega
theorem QF(n:Int):IntKind.u16.wrap n=n % 65536:=by simp[IntKind.wrap,IntKind.bits,IntKind.signed]
theorem Pp(k:Nat){a b:Nat}(ha:a<2 ^ k)(hb:2 ^ k*b<18446744073709551616)(hk:2 ^ k<18446744073709551616):bits .or .u64 (a:Int) ((2 ^ k*b:Nat):Int)=((2 ^ k*b+a:Nat):Int):=by
 rw[qB (by omega) hb,Nat.or_comm,Nat.two_pow_add_eq_or_of_lt ha b]
theorem XK(x y:Int):bits BinOp.or IntKind.u64 (IntKind.u64.wrap (IntKind.u16.wrap (aJ x))) (IntKind.u64.wrap (IntKind.u64.wrap (IntKind.u16.wrap (aJ y))*2 ^ min (Int.toNat 16) IntKind.u64.bits))=qP x y:=by
 have e:(2:Int) ^ min (Int.toNat 16) IntKind.u64.bits=65536:=by decide
 rw[e,QF,QF,IntKind.wrap_u64,IntKind.wrap_u64,IntKind.wrap_u64]
 unfold qP
 generalize aJ x=p
 generalize aJ y=q
 have h:=Pp 16 (a:=(p % 65536).toNat) (b:=(q % 65536).toNat) (by omega) (by omega) (by decide)
 have e1:(((p % 65536).toNat:Nat):Int)=p % 65536 % 18446744073709551616:=by omega
 have e2:((2 ^ 16*(q % 65536).toNat:Nat):Int)=q % 65536 % 18446744073709551616*65536 % 18446744073709551616:=by omega
 rw[e1,e2]at h
 rw[h];omega
theorem aa6(x y:Int)(σ:Hp):ACalls Tryz.prog 330 [.agg (nC x y)] σ (az (.int .u64 (qP x y)) σ):=by
 refine okF Tryz.func330 (by kernel_rfl) ?_
 intro aC
 refine .quiet (by kernel_rfl) ?_
 refine aa 0 ?_
 refine aD [] (DK _ _) ?_
 refine aa 0 ?_
 refine aD [] (DK _ _) ?_
 refine ag.mk (by omega) ?_
 exact .drop 0 1 (.done ⟨aN (XK x y),rfl⟩)
def mj(x y:Int):Int:=2+4*qP x y
theorem Eb(x y:Int)(σ:Hp):ACalls Tryz.prog 324 [.agg (nC x y)] σ (az (.int .u64 (mj x y)) σ):=by
 refine okF Tryz.func324 (by kernel_rfl) ?_
 intro aC
 refine aa 0 ?_
 refine ax [] (aa6 _ _ _) ?_
 refine ag.mk (by omega) ?_
 have e:bits BinOp.or IntKind.u64 2 (IntKind.u64.wrap (qP x y*2 ^ min (Int.toNat 2) IntKind.u64.bits))=mj x y:=by
  have e:(2:Int) ^ min (Int.toNat 2) IntKind.u64.bits=4:=by decide
  have h1:=CT x y
  have h2:=GL x y
  rw[e,IntKind.wrap_u64]
  unfold mj
  generalize qP x y=p at h1 h2 ⊢
  have h:=Pp 2 (a:=2) (b:=p.toNat) (by decide) (by omega) (by decide)
  have e2:((2 ^ 2*p.toNat:Nat):Int)=p*4 % 18446744073709551616:=by omega
  rw[e2]at h
  exact h.trans (by omega)
 exact .drop 0 1 (.done ⟨aN e,rfl⟩)
def mO(w:Int):Int:=if gj w then aJ (w / 4 % 65536) else 0
def mP(w:Int):Int:=if gj w then aJ (w / 4 / 65536) else 0
theorem WK(w:Int)(σ:Hp)(h:bf w):ACalls Tryz.prog 265 [.int .u64 w] σ (az (if w<4294967296 then .tup [.agg (nC (aJ (w % 65536)) (aJ (w / 65536))),.bool true] else .tup [.agg (nC 0 0),.bool false]) σ):=by
 have e:=zS (k:=32) (m:=32) (w:=w) (by decide)
 have e16:w.fdiv (2 ^ min (Int.toNat 16) IntKind.u64.bits)=w / 65536:=zS (k:=16) (m:=16) (w:=w) (by decide)
 have ea:bits .and .u64 w 65535=w % 65536:=by
  show IntKind.u64.wrap ((BitVec.ofInt 64 w &&& BitVec.ofInt 64 65535).toNat:Int)=_
  have h3:(BitVec.ofInt 64 65535:BitVec 64).toNat=2 ^ 16-1:=by decide
  rw[BitVec.toNat_and,h3,Nat.and_two_pow_sub_one_eq_mod,BitVec.toNat_ofInt,IntKind.wrap_u64]
  omega
 have h1:=h.1
 have h2:=h.2
 refine okF Tryz.func265 (by kernel_rfl) ?_
 intro b1
 refine ag.mk (by omega) ?_
 refine dx (fun h2 =>?_) (fun h2 =>?_)
 ·have h2:¬(w.fdiv (2 ^ min (Int.toNat 32) IntKind.u64.bits)=0):=by simpa using h2
  have hw:¬(w<4294967296):=fun h=>h2 (by rw[show w.fdiv (2 ^ min (Int.toNat 32) IntKind.u64.bits)=w / 2 ^ 32 from e];omega)
  refine ai 0 ?_
  refine aa 0 ?_
  rw[if_neg hw]
  exact .drop 0 1 (.done ⟨rfl,rfl⟩)
 ·have h2:w.fdiv (2 ^ min (Int.toNat 32) IntKind.u64.bits)=0:=by simpa using h2
  have hw:w<4294967296:=by rw[show w.fdiv (2 ^ min (Int.toNat 32) IntKind.u64.bits)=w / 2 ^ 32 from e]at h2;omega
  refine ag.mk (by omega) ?_
  refine ax [] (Be _ _ _) ?_
  refine ai 0 ?_
  refine aa 0 ?_
  rw[if_pos hw]
  have x1:IntKind.i64.wrap (bits .and .u64 w 65535)=w % 65536:=by rw[ea,IntKind.wrap_i64];omega
  have x2:IntKind.i64.wrap (w.fdiv (2 ^ min (Int.toNat 16) IntKind.u64.bits))=w / 65536:=by rw[e16,IntKind.wrap_i64];omega
  rw[← x1,← x2]
  exact .drop 0 1 (.done ⟨rfl,rfl⟩)
theorem xX(w:Int)(σ:Hp)(h:bf w):ACalls Tryz.prog 215 [.int .u64 w] σ (az (.tup [.agg (nC (mO w) (mP w)),.bool (gj w)]) σ):=by
 have e:=zS (k:=2) (m:=2) (w:=w) (by decide)
 have h0:=h.1
 have Kl:=h.2
 refine okF Tryz.func215 (by kernel_rfl) ?_
 intro b1
 refine dx (fun h2 =>?_) (fun h2 =>?_)
 ·have h2:¬(bits BinOp.and IntKind.u64 w 3=2):=by simpa using h2
  rw[Ef]at h2
  have hn:gj w=false:=by simp[gj,h2]
  refine ai 0 ?_
  refine aa 0 ?_
  unfold mO mP
  rw[hn]
  exact .drop 0 1 (.done ⟨rfl,rfl⟩)
 ·have h2:bits BinOp.and IntKind.u64 w 3=2:=by simpa using h2
  rw[Ef]at h2
  refine ag.mk (by omega) ?_
  have e':w.fdiv (2 ^ min (Int.toNat 2) IntKind.u64.bits)=w / 4:=e
  refine ax [] (WK _ _ ⟨by rw[e'];omega,by rw[e'];omega⟩) ?_
  unfold mO mP
  by_cases hw:w<17179869184
  ·have hn:gj w=true:=by simp[gj,h2];omega
   rw[if_pos (show w.fdiv (2 ^ min (Int.toNat 2) IntKind.u64.bits)<4294967296 by rw[e'];omega),hn]
   refine ai 0 ?_
   refine aa 0 ?_
   rw[e']
   exact .drop 0 1 (.done ⟨rfl,rfl⟩)
  ·have hn:gj w=false:=by simp[gj,h2];omega
   rw[if_neg (show ¬w.fdiv (2 ^ min (Int.toNat 2) IntKind.u64.bits)<4294967296 by rw[e'];omega),hn]
   refine ai 0 ?_
   refine aa 0 ?_
   exact .drop 0 1 (.done ⟨rfl,rfl⟩)
theorem ck{n:Int}(h : -4611686018427387904≤n∧n≤4611686018427387904):IntKind.i64.wrap n=n:=by rw[IntKind.wrap_i64];omega
set_option maxRecDepth 100000
def kY(l:List Int):Int:=if (l.any fun w=>decide (bj w=0)) then 0 else if (l.any fun w=>decide (bj w=1)) then 1 else 2
theorem Sd(l:List Int)(w:Int)(h:(l.any fun w=>decide (bj w=0))=false):kY (l++[w])=if bj w=0 then 0 else if bj w=1 then 1 else kY l:=by
 unfold kY
 rw[List.any_append,List.any_append,h]
 by_cases h0:bj w=0
 ·simp[h0]
 ·by_cases h1:bj w=1
  ·simp[h1]
  ·simp[h0,h1]
theorem Sc(l:List Int){w:Int}(hm:w∈l)(h:bj w=0):kY l=0:=by
 unfold kY
 rw[if_pos]
 exact List.any_eq_true.2 ⟨w,hm,decide_eq_true h⟩
theorem Ia(l:List Int)(σ:Hp)(hl:l.length≤100000):ACalls Tryz.prog 331 [.ah (.int .u64) l] σ (az (.int .u64 (kY l)) σ):=by
 refine okF Tryz.func331 (by kernel_rfl) ?_
 refine bO (S:=Nat) (fun s=>[(3,.int .u64 (kY (l.take s))),(6,.ah (.int .u64) l),(7,.int .i64 l.length),(8,.int .i64 s)]) (fun _=>σ) (fun s=>s≤l.length∧((l.take s).any fun w=>decide (bj w=0))=false) (fun s=>l.length-s) 0 ⟨⟨Nat.zero_le _,rfl⟩,⟨rfl,rfl,rfl,rfl,trivial⟩,rfl⟩ ?_
 rintro k g ⟨aZ,gp⟩
 have hk:k≤l.length:=aZ
 have hz:((l.take k).any fun w=>decide (bj w=0))=false:=gp
 clear aZ gp
 refine ao (fun ab =>?_) (fun au =>?_)
 ·have ab:k<l.length:=by have ab:(k:Int)<l.length:=ab;omega
  have hs:=Sd (l.take k) l[k] hz
  rw[← List.take_succ_eq_append_getElem ab]at hs
  have eX:((l.take (k+1)).any fun w=>decide (bj w=0))=decide (bj l[k]=0):=by
   rw[List.take_succ_eq_append_getElem ab,List.any_append,hz];simp
  refine ag.mk rfl (bH.mk l[k] (by omega) (get_some ab) ?_)
  refine ax [] (II l[k] _) ?_
  refine ao (fun c1 =>?_) (fun c1 =>?_)
  ·have c1:bj l[k]=0:=c1
   refine .fwd 1 ?_
   rw[Sc l (List.getElem_mem ab) c1]
   exact .done ⟨rfl,rfl⟩
  ·have c1:¬(bj l[k]=0):=c1
   refine ao (fun c2 =>?_) (fun c2 =>?_)
   ·have c2:bj l[k]=1:=c2
    refine bg (k+1) (by show l.length-(k+1)<l.length-k;omega) ⟨ab,by rw[eX];exact decide_eq_false c1⟩ ⟨?_,rfl,rfl,a8 (by omega),trivial⟩ (.refl _)
    rw[hs,if_neg c1,if_pos c2]
    rfl
   ·have c2:¬(bj l[k]=1):=c2
    refine bg (k+1) (by show l.length-(k+1)<l.length-k;omega) ⟨ab,by rw[eX];exact decide_eq_false c1⟩ ⟨?_,rfl,rfl,a8 (by omega),trivial⟩ (.refl _)
    rw[hs,if_neg c1,if_neg c2]
    rfl
 ·have au:k=l.length:=by have au:¬(k:Int)<l.length:=au;omega
  subst au
  rw[List.take_length]
  exact .done ⟨rfl,rfl⟩
theorem ZX{op:Int}(h:op=0∨op=4)(a b c d c2 d2:Int):og op a b c d=og op a b c2 d2:=by
 rcases h with rfl | rfl <;> rfl
def mX(op a b:Int):Int:=match og op (mO a) (mP a) (mO b) (mP b) with | some (x,y)=>mj x y | none=>1
def mZ(op a b:Int):Int:=if bj a=0∨bj b=0 then 0 else if bj a=1∨bj b=1 then 1 else mX op a b
def kK(op a b:Int):Int:=if op=0∨op=4 then mZ op a 2 else mZ op a b
theorem Z4(x y:Int):2≤mj x y:=by have:=CT x y;unfold mj;omega
theorem Z3(x y:Int):gj (mj x y)=true:=by
 have h1:=CT x y
 have h2:=GL x y
 unfold gj mj;simp;omega
theorem norm_num{w:Int}(h:gj w=true):bj w=w:=by
 have:=Nl h
 unfold bj
 rw[if_neg this.1,if_neg this.2,if_pos h]
theorem X8{op:Int}(h:op=0∨op=4)(a b c:Int):mX op a b=mX op a c:=by
 unfold mX
 rw[ZX h (mO a) (mP a) (mO b) (mP b) (mO c) (mP c)]
theorem GX:bj 2=2:=by decide
theorem Cq{op:Int}(a b:Int)(h:op=0∨op=4):kK op a b=if kY [a]=2 then mX op a b else kY [a]:=by
 unfold kK mZ kY
 rw[if_pos h,GX,X8 h a b 2]
 by_cases h0:bj a=0
 ·simp[h0]
 ·by_cases h1:bj a=1
  ·simp[h1]
  ·simp[h0,h1]
theorem Ly{op:Int}(a b:Int)(h:¬(op=0∨op=4)):kK op a b=if kY [a,b]=2 then mX op a b else kY [a,b]:=by
 unfold kK mZ kY
 rw[if_neg h]
 by_cases h0:bj a=0
 ·simp[h0]
 ·by_cases h1:bj a=1
  ·by_cases g0:bj b=0
   ·simp[g0]
   ·simp[h1,g0]
  ·by_cases g0:bj b=0
   ·simp[g0]
   ·by_cases g1:bj b=1
    ·simp[h0,g1]
    ·simp[h0,h1,g0,g1]
theorem acO(op a b:Int)(σ:Hp)(ha:bf a)(hb:bf b):ACalls Tryz.prog 325 [.int .i64 op,.int .u64 a,.int .u64 b] σ (az (.int .u64 (kK op a b)) σ):=by
 refine okF Tryz.func325 (by kernel_rfl) ?_
 intro aC
 refine .cb (args':=[.ah (.int .u64) [a,b]]) 0 aC 0 2 1 _ (.int .u64) [a,b] rfl rfl ⟨rfl,rfl,by decide⟩ (dK .here z7) (ax [] (Ia [a,b] _ (by show 2≤100000;omega)) ?_)
 refine ao (fun c1 =>?_) (fun c1 =>?_)
 ·have c1:op=0:=c1
  intro dI
  refine .cb (args':=[.ah (.int .u64) [a]]) 0 dI 0 1 1 _ (.int .u64) [a] rfl rfl ⟨rfl,rfl,by decide⟩ (dK .here z7) (ax [] (Ia [a] _ (by show 1≤100000;omega)) ?_)
  generalize hL:kY [a]=L
  refine dx (fun c5 =>?_) (fun c5 =>?_)
  ·have c5:¬(L=2):=by simpa using c5
   rw[Cq a b (.inl c1),if_neg (by rw[hL];exact c5),hL]
   exact .done ⟨rfl,rfl⟩
  ·have c5:L=2:=by simpa using c5
   rw[Cq a b (.inl c1),if_pos (by rw[hL];exact c5)]
   refine ax [] (xX a _ ha) ?_
   intro p1
   refine ai 0 ?_
   refine ax [] (xX b _ hb) ?_
   intro p2
   refine ai 0 ?_
   refine aa 1 ?_
   refine aa 0 ?_
   refine ax [] (I9 op _ _ _ _ _) ?_
   unfold mX
   cases hr:og op (mO a) (mP a) (mO b) (mP b) with
   | none =>
    intro p3
    refine ai 0 ?_
    exact .drop 0 3 (.done ⟨rfl,rfl⟩)
   | some xy =>
    obtain⟨x,y⟩:=xy
    intro p3
    refine ai 0 ?_
    refine aa 0 ?_
    refine ax [] (Eb x y _) ?_
    exact .drop 0 3 (.done ⟨rfl,rfl⟩)
 ·have c1:¬(op=0):=c1
  refine ao (fun c3 =>?_) (fun c3 =>?_)
  ·have c3:op=4:=c3
   intro bl4
   refine .cb (args':=[.ah (.int .u64) [a]]) 0 bl4 0 1 1 _ (.int .u64) [a] rfl rfl ⟨rfl,rfl,by decide⟩ (dK .here z7) (ax [] (Ia [a] _ (by show 1≤100000;omega)) ?_)
   generalize hL:kY [a]=L
   refine dx (fun c5 =>?_) (fun c5 =>?_)
   ·have c5:¬(L=2):=by simpa using c5
    rw[Cq a b (.inr c3),if_neg (by rw[hL];exact c5),hL]
    exact .done ⟨rfl,rfl⟩
   ·have c5:L=2:=by simpa using c5
    rw[Cq a b (.inr c3),if_pos (by rw[hL];exact c5)]
    refine ax [] (xX a _ ha) ?_
    intro p1
    refine ai 0 ?_
    refine ax [] (xX b _ hb) ?_
    intro p2
    refine ai 0 ?_
    refine aa 1 ?_
    refine aa 0 ?_
    refine ax [] (I9 op _ _ _ _ _) ?_
    unfold mX
    cases hr:og op (mO a) (mP a) (mO b) (mP b) with
    | none =>
     intro p3
     refine ai 0 ?_
     exact .drop 0 3 (.done ⟨rfl,rfl⟩)
    | some xy =>
     obtain⟨x,y⟩:=xy
     intro p3
     refine ai 0 ?_
     refine aa 0 ?_
     refine ax [] (Eb x y _) ?_
     exact .drop 0 3 (.done ⟨rfl,rfl⟩)
  ·have c3:¬(op=4):=c3
   generalize hL:kY [a,b]=L
   refine dx (fun c5 =>?_) (fun c5 =>?_)
   ·have c5:¬(L=2):=by simpa using c5
    rw[Ly a b (fun h=>h.elim c1 c3),if_neg (by rw[hL];exact c5),hL]
    exact .done ⟨rfl,rfl⟩
   ·have c5:L=2:=by simpa using c5
    rw[Ly a b (fun h=>h.elim c1 c3),if_pos (by rw[hL];exact c5)]
    refine ax [] (xX a _ ha) ?_
    intro p1
    refine ai 0 ?_
    refine ax [] (xX b _ hb) ?_
    intro p2
    refine ai 0 ?_
    refine aa 1 ?_
    refine aa 0 ?_
    refine ax [] (I9 op _ _ _ _ _) ?_
    unfold mX
    cases hr:og op (mO a) (mP a) (mO b) (mP b) with
    | none =>
     intro p3
     refine ai 0 ?_
     exact .drop 0 3 (.done ⟨rfl,rfl⟩)
    | some xy =>
     obtain⟨x,y⟩:=xy
     intro p3
     refine ai 0 ?_
     refine aa 0 ?_
     refine ax [] (Eb x y _) ?_
     exact .drop 0 3 (.done ⟨rfl,rfl⟩)
theorem Zr(g:Nat)(cap:List AV)(l:List (Sh.T (.int .u64)))(p:Sh.T (.int .u64)→Bool)(σ:Hp)(hl:l.length≤1000000)(hg:∀(i:Nat) (hi:i<l.length),ACalls Tryz.prog g (.int .u64 l[i]::cap) σ (az (.bool (p l[i])) σ)):ACalls Tryz.prog 214 [.ah (.int .u64) l,.fn (.func g) [] cap] σ (fun r σ'=>∃n:Int,r=.int .i64 n∧σ'=σ∧decide (0≤n)=l.any p):=by
 refine okF Tryz.func214 (by kernel_rfl) ?_
 refine bO (S:=Nat) (fun s=>[(0,.ah (.int .u64) l),(1,.fn (.func g) [] cap),(7,.int .i64 l.length),(8,.int .i64 s)]) (fun _=>σ) (fun s=>s≤l.length∧(l.take s).any p=false) (fun s=>l.length-s) 0 ⟨⟨Nat.zero_le _,rfl⟩,⟨rfl,rfl,rfl,rfl,trivial⟩,rfl⟩ ?_
 rintro k t ⟨aZ,eT⟩
 have hk:k≤l.length:=aZ
 have hn:(l.take k).any p=false:=eT
 clear aZ eT
 refine ao (fun ab =>?_) (fun au =>?_)
 ·have ab:k<l.length:=by have ab:(k:Int)<l.length:=ab;omega
  have hs:=rV ab p
  rw[hn,Bool.false_or]at hs
  refine ag.mk rfl (bH.mk l[k] (by omega) (get_some ab) ?_)
  refine eH [] (hg k ab) (fun c =>?_) (fun c =>?_)
  ·have hp:l.any p=true:=List.any_eq_true.2 ⟨l[k],List.getElem_mem ab,c⟩
   exact .done ⟨_,rfl,rfl,by rw[hp];exact decide_eq_true (by omega)⟩
  ·exact bg (k+1) (by show l.length-(k+1)<l.length-k;omega) ⟨ab,hs.trans c⟩ ⟨rfl,rfl,rfl,a8 (by omega),trivial⟩ (.refl _)
 ·have au:k=l.length:=by have au:¬(k:Int)<l.length:=au;omega
  subst au
  rw[List.take_length]at hn
  exact .done ⟨_,rfl,rfl,by rw[hn];rfl⟩
theorem TF(g:Nat)(cap:List AV)(l:List (Sh.T (.int .u64)))(p:Sh.T (.int .u64)→Bool)(σ:Hp)(hl:l.length≤1000000)(hg:∀(i:Nat) (hi:i<l.length),ACalls Tryz.prog g (.int .u64 l[i]::cap) σ (az (.bool (p l[i])) σ)):ACalls Tryz.prog 160 [.ah (.int .u64) l,.fn (.func g) [] cap] σ (az (.bool (l.any p)) σ):=by
 refine okF Tryz.func160 (by kernel_rfl) ?_
 refine .mk [] _ (Zr g cap l p _ hl hg) ?_
 rintro _ _ ⟨n,rfl,rfl,hn⟩
 rw[← hn]
 refine ao (fun c =>?_) (fun c =>?_)
 ·have c:0≤n:=c
  rw[decide_eq_true c]
  exact .done ⟨rfl,rfl⟩
 ·have c:¬0≤n:=c
  rw[decide_eq_false c]
  exact .done ⟨rfl,rfl⟩
abbrev aaU:Sh:=.field (.int .i64) (.field (.int .i64) .nil)
abbrev Qa:Sh:=.field (.int .i64) (.field aaU .nil)
abbrev hY:Sh:=.field (.int .i64) (.field (.int .i64) (.field Qa (.field Qa .nil)))
abbrev acR:Type:=Int×Int×Unit
abbrev nm:Type:=Int×acR×Unit
abbrev cg:Type:=Int×Int×nm×nm×Unit
abbrev Ep(r:nm):List AV:=[.int .i64 r.1,.int .i64 r.2.1.1,.int .i64 r.2.1.2.1]
abbrev Qr(c:cg):List AV:=[.int .i64 c.1,.int .i64 c.2.1,.int .i64 c.2.2.1.1,.int .i64 c.2.2.1.2.1.1,.int .i64 c.2.2.1.2.1.2.1,.int .i64 c.2.2.2.1.1,.int .i64 c.2.2.2.1.2.1.1,.int .i64 c.2.2.2.1.2.1.2.1]
def Ec(c:cg):AV:=.agg (Qr c)
theorem Zu(g:Nat)(cap:List AV)(l:List (Sh.T hY))(p:Sh.T hY→Bool)(σ:Hp)(hl:l.length≤1000000)(hg:∀(i:Nat) (hi:i<l.length),ACalls Tryz.prog g (Ec l[i]::cap) σ (az (.bool (p l[i])) σ)):ACalls Tryz.prog 217 [.ah hY l,.fn (.func g) [] cap] σ (fun r σ'=>∃n:Int,r=.int .i64 n∧σ'=σ∧decide (0≤n)=l.any p):=by
 refine okF Tryz.func217 (by kernel_rfl) ?_
 refine bO (S:=Nat) (fun s=>[(0,.ah hY l),(1,.fn (.func g) [] cap),(7,.int .i64 l.length),(8,.int .i64 s)]) (fun _=>σ) (fun s=>s≤l.length∧(l.take s).any p=false) (fun s=>l.length-s) 0 ⟨⟨Nat.zero_le _,rfl⟩,⟨rfl,rfl,rfl,rfl,trivial⟩,rfl⟩ ?_
 rintro k t ⟨aZ,eT⟩
 have hk:k≤l.length:=aZ
 have hn:(l.take k).any p=false:=eT
 clear aZ eT
 refine ao (fun ab =>?_) (fun au =>?_)
 ·have ab:k<l.length:=by have ab:(k:Int)<l.length:=ab;omega
  have hs:=rV ab p
  rw[hn,Bool.false_or]at hs
  refine ag.mk rfl (bH.mk l[k] (by omega) (get_some ab) ?_)
  refine eH [] (hg k ab) (fun c =>?_) (fun c =>?_)
  ·have hp:l.any p=true:=List.any_eq_true.2 ⟨l[k],List.getElem_mem ab,c⟩
   exact .done ⟨_,rfl,rfl,by rw[hp];exact decide_eq_true (by omega)⟩
  ·exact bg (k+1) (by show l.length-(k+1)<l.length-k;omega) ⟨ab,hs.trans c⟩ ⟨rfl,rfl,rfl,a8 (by omega),trivial⟩ (.refl _)
 ·have au:k=l.length:=by have au:¬(k:Int)<l.length:=au;omega
  subst au
  rw[List.take_length]at hn
  exact .done ⟨_,rfl,rfl,by rw[hn];rfl⟩
theorem TL(g:Nat)(cap:List AV)(l:List (Sh.T hY))(p:Sh.T hY→Bool)(σ:Hp)(hl:l.length≤1000000)(hg:∀(i:Nat) (hi:i<l.length),ACalls Tryz.prog g (Ec l[i]::cap) σ (az (.bool (p l[i])) σ)):ACalls Tryz.prog 167 [.ah hY l,.fn (.func g) [] cap] σ (az (.bool (l.any p)) σ):=by
 refine okF Tryz.func167 (by kernel_rfl) ?_
 refine .mk [] _ (Zu g cap l p _ hl hg) ?_
 rintro _ _ ⟨n,rfl,rfl,hn⟩
 rw[← hn]
 refine ao (fun c =>?_) (fun c =>?_)
 ·have c:0≤n:=c
  rw[decide_eq_true c]
  exact .done ⟨rfl,rfl⟩
 ·have c:¬0≤n:=c
  rw[decide_eq_false c]
  exact .done ⟨rfl,rfl⟩
theorem Zt(l:List Int)(x:Int)(σ:Hp)(hl:l.length≤1000000):ACalls Tryz.prog 322 [.ah (.int .u64) l,.int .u64 x] σ (fun r σ'=>∃n:Int,r=.int .i64 n∧σ'=σ∧decide (0≤n)=l.any fun z=>decide (x=z)):=by
 refine okF Tryz.func322 (by kernel_rfl) ?_
 refine bO (S:=Nat) (fun s=>[(0,.ah (.int .u64) l),(1,.int .u64 x),(7,.int .i64 l.length),(8,.int .i64 s)]) (fun _=>σ) (fun s=>s≤l.length∧((l.take s).any fun z=>decide (x=z))=false) (fun s=>l.length-s) 0 ⟨⟨Nat.zero_le _,rfl⟩,⟨rfl,rfl,rfl,rfl,trivial⟩,rfl⟩ ?_
 rintro k t ⟨aZ,eT⟩
 have hk:k≤l.length:=aZ
 have hn:((l.take k).any fun z=>decide (x=z))=false:=eT
 clear aZ eT
 refine ao (fun ab =>?_) (fun au =>?_)
 ·have ab:k<l.length:=by have ab:(k:Int)<l.length:=ab;omega
  have hs:=rV ab fun z=>decide (x=z)
  rw[hn,Bool.false_or]at hs
  refine ag.mk rfl (bH.mk l[k] (by omega) (get_some ab) ?_)
  refine ao (fun c =>?_) (fun c =>?_)
  ·have c:x=l[k]:=c
   have hp:(l.any fun z=>decide (x=z))=true:=List.any_eq_true.2 ⟨l[k],List.getElem_mem ab,decide_eq_true c⟩
   exact .done ⟨_,rfl,rfl,by rw[hp];exact decide_eq_true (by omega)⟩
  ·have c:¬x=l[k]:=c
   exact bg (k+1) (by show l.length-(k+1)<l.length-k;omega) ⟨ab,hs.trans (decide_eq_false c)⟩ ⟨rfl,rfl,rfl,a8 (by omega),trivial⟩ (.refl _)
 ·have au:k=l.length:=by have au:¬(k:Int)<l.length:=au;omega
  subst au
  rw[List.take_length]at hn
  exact .done ⟨_,rfl,rfl,by rw[hn];rfl⟩
theorem TH(l:List Int)(x:Int)(σ:Hp)(hl:l.length≤1000000):ACalls Tryz.prog 302 [.ah (.int .u64) l,.int .u64 x] σ (az (.bool (l.any fun z=>decide (x=z))) σ):=by
 refine okF Tryz.func302 (by kernel_rfl) ?_
 refine .mk [] _ (Zt l x _ hl) ?_
 rintro _ _ ⟨n,rfl,rfl,hn⟩
 rw[← hn]
 refine ao (fun c =>?_) (fun c =>?_)
 ·have c:0≤n:=c
  rw[decide_eq_true c]
  exact .done ⟨rfl,rfl⟩
 ·have c:¬0≤n:=c
  rw[decide_eq_false c]
  exact .done ⟨rfl,rfl⟩
end Go.Proofs.YtnpidbjdilnhlaaGreat
