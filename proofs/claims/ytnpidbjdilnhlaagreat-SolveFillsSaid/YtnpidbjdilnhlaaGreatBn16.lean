import Derived.Test.YtnpidbjdilnhlaaGreatBn15
namespace Go.Proofs.YtnpidbjdilnhlaaGreat
open Go.RowKit
set_option maxRecDepth 100000
def aO(n:Int):Int:=(n+32768) % 65536-32768
theorem uB(n:Int): -32768≤aO n:=by unfold aO;omega
theorem uC(n:Int):aO n≤32767:=by unfold aO;omega
theorem Hm(n:Int):(0≤n∧n.tmod 65536=n % 65536)∨(n<0∧n.tmod 65536 = -((-n) % 65536)):=by
 by_cases h:0≤n
 ·exact .inl ⟨h,Int.tmod_eq_emod_of_nonneg h⟩
 ·refine .inr ⟨by omega,?_⟩
  have:=Int.neg_tmod (-n) 65536
  rw[Int.neg_neg,Int.tmod_eq_emod_of_nonneg (a:= -n) (by omega)]at this
  exact this
theorem AO(n:Int)(σ:Hp):ACalls Tryz.prog 318 [.int .i64 n] σ (aB (.int .i64 (aO n)) σ):=by
 refine okF Tryz.func318 (by kernel_rfl) ?_
 have hc:=Hm n
 refine ah.mk (by omega) ?_
 refine an (fun h1 =>?_) (fun h1 =>?_)
 ·have h1:32767<n.tmod 65536:=h1
  exact .done ⟨aN (by rw[IntKind.wrap_i64];unfold aO;omega),rfl⟩
 ·have h1:¬(32767<n.tmod 65536):=h1
  refine an (fun h2 =>?_) (fun h2 =>?_)
  ·have h2:n.tmod 65536 < -32768:=h2
   exact .done ⟨aN (by rw[IntKind.wrap_i64];unfold aO;omega),rfl⟩
  ·have h2:¬(n.tmod 65536 < -32768):=h2
   exact .done ⟨aN (by unfold aO;omega),rfl⟩
theorem KW(n:Int)(σ:Hp):ACalls Tryz.prog 241 [.int .i64 n] σ (aB (.int .i64 (aO n)) σ):=by
 refine okF Tryz.func241 (by kernel_rfl) ?_
 have hc:=Hm n
 have e:IntKind.i64.wrap (n.tmod 65536+98304)=n.tmod 65536+98304:=by rw[IntKind.wrap_i64];omega
 have e2:(n.tmod 65536+98304).tmod 65536=(n.tmod 65536+98304) % 65536:=Int.tmod_eq_emod_of_nonneg (by omega)
 refine ah.mk (by omega) ?_
 refine ah.mk (by omega) ?_
 exact .done ⟨aN (by rw[e,e2,IntKind.wrap_i64];unfold aO;omega),rfl⟩
abbrev nC(x y:Int):List AV:=[.int .i64 x,.int .i64 y]
theorem x9(a b:Int)(σ:Hp):ACalls Tryz.prog 295 [.int .i64 a,.int .i64 b] σ (aB (.agg (nC (aO a) (aO b))) σ):=by
 refine okF Tryz.func295 (by kernel_rfl) ?_
 intro b1
 refine az [] (AO _ _) ?_
 refine az [] (AO _ _) ?_
 refine ai.mk 0 _ _ rfl rfl ?_
 refine aa.mk 0 _ _ rfl rfl ?_
 exact .drop 0 1 (.done ⟨rfl,rfl⟩)
theorem WQ(a b:Int)(σ:Hp):ACalls Tryz.prog 201 [.int .i64 a,.int .i64 b] σ (aB (.agg (nC (aO a) (aO b))) σ):=by
 refine okF Tryz.func201 (by kernel_rfl) ?_
 intro b1
 refine az [] (KW _ _) ?_
 refine az [] (KW _ _) ?_
 refine ai.mk 0 _ _ rfl rfl ?_
 refine aa.mk 0 _ _ rfl rfl ?_
 exact .drop 0 1 (.done ⟨rfl,rfl⟩)
theorem XH(x y:Int)(σ:Hp):ACalls Tryz.prog 266 [.agg (nC x y)] σ (aB (.bool (decide (x=aO x) && decide (y=aO y))) σ):=by
 refine okF Tryz.func266 (by kernel_rfl) ?_
 intro aC
 refine .quiet (by kernel_rfl) ?_
 refine aa.mk 0 _ _ rfl rfl ?_
 refine aa.mk 0 _ _ rfl rfl ?_
 refine aa.mk 0 _ _ rfl rfl ?_
 refine aJ [] (x9 _ _ _) ?_
 refine EqAt.mk (by kernel_rfl) (by kernel_rfl) ?_
 have e:ew (nY (nC x y) (nC (aO x) (aO y)))=(decide (x=aO x) && decide (y=aO y)):=by
  show (decide (x=aO x) && (decide (y=aO y) && true))=_
  rw[Bool.and_true]
 rw[← e]
 refine bS (fun c =>?_) (fun c =>?_)
 ·have c:ew (nY (nC x y) (nC (aO x) (aO y)))=true:=c
  rw[c]
  exact .drop 0 1 (.done ⟨rfl,rfl⟩)
 ·have c:ew (nY (nC x y) (nC (aO x) (aO y)))=false:=c
  rw[c]
  exact .drop 0 1 (.done ⟨rfl,rfl⟩)
theorem s7(x y:Int)(σ:Hp):ACalls Tryz.prog 339 [.agg (nC x y)] σ (aB (.ec (aO x) (aO y)) σ):=by
 have h1:=uB x
 have h2:=uC x
 have h3:=uB y
 have h4:=uC y
 refine okF Tryz.func339 (by kernel_rfl) ?_
 intro aC
 refine aa.mk 0 _ _ rfl rfl ?_
 refine aa.mk 0 _ _ rfl rfl ?_
 refine az [] (x9 _ _ _) ?_
 refine ai.mk 0 _ _ rfl rfl ?_
 refine aa.mk 0 _ _ rfl rfl ?_
 refine .mk (by unfold eZ;omega) ?_
 refine aa.mk 0 _ _ rfl rfl ?_
 refine .mk (by unfold eZ;omega) ?_
 exact .drop 0 1 (.done ⟨rfl,rfl⟩)
theorem K5{x:Int}(h:eZ x):IntKind.i64.min≤x∧x≤IntKind.i64.max:=by
 unfold eZ at h
 have e1:IntKind.i64.min = -9223372036854775808:=by decide
 have e2:IntKind.i64.max=9223372036854775807:=by decide
 rw[e1,e2];omega
theorem AP(x y:Int)(σ:Hp)(hx:eZ x)(hy:eZ y):ACalls Tryz.prog 338 [.ec x y] σ (aB (.agg (nC (aO x) (aO y))) σ):=by
 refine okF Tryz.func338 (by kernel_rfl) ?_
 intro aC
 refine .mk (K5 hx) ?_
 refine .mk (K5 hy) ?_
 refine az [] (x9 _ _ _) ?_
 refine ai.mk 0 _ _ rfl rfl ?_
 refine aa.mk 0 _ _ rfl rfl ?_
 exact .drop 0 1 (.done ⟨rfl,rfl⟩)
theorem zV{a b:Int}(ha : -32768≤a∧a≤32768)(hb : -32768≤b∧b≤32768): -1073741824≤a*b∧a*b≤1073741824:=by
 have h1:a.natAbs*b.natAbs≤32768*32768:=Nat.mul_le_mul (by omega) (by omega)
 rw[← Int.natAbs_mul]at h1
 omega
theorem AM(a b c d:Int):(-32768≤aO a∧aO a≤32767)∧(-32768≤aO b∧aO b≤32767)∧(-32768≤aO c∧aO c≤32767)∧-32768≤aO d∧aO d≤32767:=
 ⟨⟨uB a,uC a⟩,⟨uB b,uC b⟩,⟨uB c,uC c⟩,uB d,uC d⟩
theorem WY(a b c d:Int):(-1073741824≤aO a*aO c∧aO a*aO c≤1073741824)∧(-1073741824≤aO b*aO d∧aO b*aO d≤1073741824)∧(-1073741824≤aO a*aO d∧aO a*aO d≤1073741824)∧-1073741824≤aO b*aO c∧aO b*aO c≤1073741824:=by
 have h:=AM a b c d
 exact⟨zV (by omega) (by omega),zV (by omega) (by omega),zV (by omega) (by omega),zV (by omega) (by omega)⟩
theorem Wn(a b c d:Int)(σ:Hp):ACalls Tryz.prog 334 [.agg (nC a b),.agg (nC c d)] σ (aB (.agg (nC (aO (aO a+aO c)) (aO (aO b+aO d)))) σ):=by
 have hF:=AM a b c d
 refine okF Tryz.func334 (by kernel_rfl) ?_
 intro aC
 intro bM
 intro rq
 refine .sched [1,3,5] (upto [1,3,5] 7 0) (by kernel_rfl) ?_
 refine aa.mk 2 _ _ rfl rfl ?_
 refine aJ [] (s7 _ _ _) ?_
 refine aa.mk 1 _ _ rfl rfl ?_
 refine aJ [] (s7 _ _ _) ?_
 refine .mk (by unfold eZ;omega) ?_
 refine aJ [] (AP _ _ _ (by unfold eZ;omega) (by unfold eZ;omega)) ?_
 refine ai.mk 0 _ _ rfl rfl ?_
 refine aa.mk 0 _ _ rfl rfl ?_
 exact .drop 0 3 (.done ⟨rfl,rfl⟩)
theorem Wl(a b c d:Int)(σ:Hp):ACalls Tryz.prog 335 [.agg (nC a b),.agg (nC c d)] σ (aB (.agg (nC (aO (aO a-aO c)) (aO (aO b-aO d)))) σ):=by
 have hF:=AM a b c d
 refine okF Tryz.func335 (by kernel_rfl) ?_
 intro aC
 intro bM
 intro rq
 refine .sched [1,3,5] (upto [1,3,5] 7 0) (by kernel_rfl) ?_
 refine aa.mk 2 _ _ rfl rfl ?_
 refine aJ [] (s7 _ _ _) ?_
 refine aa.mk 1 _ _ rfl rfl ?_
 refine aJ [] (s7 _ _ _) ?_
 refine .mk (by unfold eZ;omega) ?_
 refine aJ [] (AP _ _ _ (by unfold eZ;omega) (by unfold eZ;omega)) ?_
 refine ai.mk 0 _ _ rfl rfl ?_
 refine aa.mk 0 _ _ rfl rfl ?_
 exact .drop 0 3 (.done ⟨rfl,rfl⟩)
theorem Wm(a b c d:Int)(σ:Hp):ACalls Tryz.prog 336 [.agg (nC a b),.agg (nC c d)] σ (aB (.agg (nC (aO (aO a*aO c-aO b*aO d)) (aO (aO a*aO d+aO b*aO c)))) σ):=by
 have hF:=WY a b c d
 refine okF Tryz.func336 (by kernel_rfl) ?_
 intro aC
 intro bM
 intro rq
 refine .sched [1,3,5] (upto [1,3,5] 7 0) (by kernel_rfl) ?_
 refine aa.mk 2 _ _ rfl rfl ?_
 refine aJ [] (s7 _ _ _) ?_
 refine aa.mk 1 _ _ rfl rfl ?_
 refine aJ [] (s7 _ _ _) ?_
 refine .mk (by unfold eZ;omega) ?_
 refine aJ [] (AP _ _ _ (by unfold eZ;omega) (by unfold eZ;omega)) ?_
 refine ai.mk 0 _ _ rfl rfl ?_
 refine aa.mk 0 _ _ rfl rfl ?_
 exact .drop 0 3 (.done ⟨rfl,rfl⟩)
theorem Vd(a b:Int)(σ:Hp):ACalls Tryz.prog 337 [.agg (nC a b)] σ (aB (.agg (nC (aO (aO a)) (aO (-aO b)))) σ):=by
 have hF:=AM a b 0 0
 refine okF Tryz.func337 (by kernel_rfl) ?_
 intro aC
 intro bM
 refine aa.mk 1 _ _ rfl rfl ?_
 refine az [] (s7 _ _ _) ?_
 refine az [] (AP _ _ _ (by unfold eZ;omega) (by unfold eZ;omega)) ?_
 refine ai.mk 0 _ _ rfl rfl ?_
 refine aa.mk 0 _ _ rfl rfl ?_
 exact .drop 0 2 (.done ⟨rfl,rfl⟩)
def my(op a b c d:Int):Option (Int×Int):=
 if op=0 then some (aO a,aO b) else
 if op=1 then some (aO (aO a+aO c),aO (aO b+aO d)) else
 if op=2 then some (aO (aO a-aO c),aO (aO b-aO d)) else
 if op=3 then some (aO (aO a*aO c-aO b*aO d),aO (aO a*aO d+aO b*aO c)) else
 if op=4 then some (aO (aO a),aO (-aO b)) else none
def tR(r:Option (Int×Int))(ok err:AV):AV:=match r with | some (x,y)=>.tup [.agg (nC x y),ok] | none=>.tup [.agg (nC 0 0),err]
theorem Fc(op a b c d:Int)(σ:Hp):ACalls Tryz.prog 332 [.int .i64 op,.agg (nC a b),.agg (nC c d)] σ (aB (tR (my op a b c d) (.int .i64 0) (.int .i64 10)) σ):=by
 refine okF Tryz.func332 (by kernel_rfl) ?_
 intro aC
 intro bM
 intro rq
 intro Cj
 refine an (fun c5 =>?_) (fun c5 =>?_)
 ·have c5:op=0:=c5
  refine aa.mk 3 _ _ rfl rfl ?_
  refine aa.mk 3 _ _ rfl rfl ?_
  refine az [] (x9 _ _ _) ?_
  refine ai.mk 0 _ _ rfl rfl ?_
  refine .fwd 1 ?_
  refine aa.mk 0 _ _ rfl rfl ?_
  refine ai.mk 1 _ _ rfl rfl ?_
  refine aa.mk 1 _ _ rfl rfl ?_
  exact .drop 0 4 (.done ⟨(by simp[my,tR, *];rfl),rfl⟩)
 ·have c5:¬(op=0):=c5
  refine an (fun c6 =>?_) (fun c6 =>?_)
  ·have c6:op=1:=c6
   refine aa.mk 3 _ _ rfl rfl ?_
   refine aa.mk 2 _ _ rfl rfl ?_
   refine az [] (Wn _ _ _ _ _) ?_
   refine ai.mk 0 _ _ rfl rfl ?_
   refine .fwd 1 ?_
   refine aa.mk 0 _ _ rfl rfl ?_
   refine ai.mk 1 _ _ rfl rfl ?_
   refine aa.mk 1 _ _ rfl rfl ?_
   exact .drop 0 4 (.done ⟨(by simp[my,tR, *];rfl),rfl⟩)
  ·have c6:¬(op=1):=c6
   refine an (fun c7 =>?_) (fun c7 =>?_)
   ·have c7:op=2:=c7
    refine aa.mk 3 _ _ rfl rfl ?_
    refine aa.mk 2 _ _ rfl rfl ?_
    refine az [] (Wl _ _ _ _ _) ?_
    refine ai.mk 0 _ _ rfl rfl ?_
    refine .fwd 1 ?_
    refine aa.mk 0 _ _ rfl rfl ?_
    refine ai.mk 1 _ _ rfl rfl ?_
    refine aa.mk 1 _ _ rfl rfl ?_
    exact .drop 0 4 (.done ⟨(by simp[my,tR, *];rfl),rfl⟩)
   ·have c7:¬(op=2):=c7
    refine an (fun c8 =>?_) (fun c8 =>?_)
    ·have c8:op=3:=c8
     refine aa.mk 3 _ _ rfl rfl ?_
     refine aa.mk 2 _ _ rfl rfl ?_
     refine az [] (Wm _ _ _ _ _) ?_
     refine ai.mk 0 _ _ rfl rfl ?_
     refine .fwd 1 ?_
     refine aa.mk 0 _ _ rfl rfl ?_
     refine ai.mk 1 _ _ rfl rfl ?_
     refine aa.mk 1 _ _ rfl rfl ?_
     exact .drop 0 4 (.done ⟨(by simp[my,tR, *];rfl),rfl⟩)
    ·have c8:¬(op=3):=c8
     refine an (fun c9 =>?_) (fun c9 =>?_)
     ·have c9:op=4:=c9
      refine aa.mk 3 _ _ rfl rfl ?_
      refine az [] (Vd _ _ _) ?_
      refine ai.mk 0 _ _ rfl rfl ?_
      refine .fwd 1 ?_
      refine aa.mk 0 _ _ rfl rfl ?_
      refine ai.mk 1 _ _ rfl rfl ?_
      refine aa.mk 1 _ _ rfl rfl ?_
      exact .drop 0 4 (.done ⟨(by simp[my,tR, *];rfl),rfl⟩)
     ·have c9:¬(op=4):=c9
      refine ai.mk 1 _ _ rfl rfl ?_
      refine aa.mk 1 _ _ rfl rfl ?_
      exact .drop 0 4 (.done ⟨(by simp[my,tR, *];rfl),rfl⟩)
def pc(x y:Int):Int:=aO x % 65536+65536*(aO y % 65536)
theorem z7(x y:Int):0≤pc x y:=by unfold pc;omega
theorem Df(x y:Int):pc x y<4294967296:=by unfold pc;omega
theorem Mc(n:Int):IntKind.u16.wrap n=n % 65536:=by simp[IntKind.wrap,IntKind.bits,IntKind.signed]
theorem K1(k:Nat){a b:Nat}(ha:a<2 ^ k)(hb:2 ^ k*b<18446744073709551616)(hk:2 ^ k<18446744073709551616):bits .or .u64 (a:Int) ((2 ^ k*b:Nat):Int)=((2 ^ k*b+a:Nat):Int):=by
 rw[Cu (by omega) hb,Nat.or_comm,Nat.two_pow_add_eq_or_of_lt ha b]
theorem SG(x y:Int):bits BinOp.or IntKind.u64 (IntKind.u64.wrap (IntKind.u16.wrap (aO x))) (IntKind.u64.wrap (IntKind.u64.wrap (IntKind.u16.wrap (aO y))*2 ^ min (Int.toNat 16) IntKind.u64.bits))=pc x y:=by
 have e:(2:Int) ^ min (Int.toNat 16) IntKind.u64.bits=65536:=by decide
 rw[e,Mc,Mc,IntKind.wrap_u64,IntKind.wrap_u64,IntKind.wrap_u64]
 unfold pc
 generalize aO x=p
 generalize aO y=q
 have h:=K1 16 (a:=(p % 65536).toNat) (b:=(q % 65536).toNat) (by omega) (by omega) (by decide)
 have e1:(((p % 65536).toNat:Nat):Int)=p % 65536 % 18446744073709551616:=by omega
 have e2:((2 ^ 16*(q % 65536).toNat:Nat):Int)=q % 65536 % 18446744073709551616*65536 % 18446744073709551616:=by omega
 rw[e1,e2]at h
 rw[h];omega
theorem Vc(x y:Int)(σ:Hp):ACalls Tryz.prog 330 [.agg (nC x y)] σ (aB (.int .u64 (pc x y)) σ):=by
 refine okF Tryz.func330 (by kernel_rfl) ?_
 intro aC
 refine .quiet (by kernel_rfl) ?_
 refine aa.mk 0 _ _ rfl rfl ?_
 refine aJ [] (AO _ _) ?_
 refine aa.mk 0 _ _ rfl rfl ?_
 refine aJ [] (AO _ _) ?_
 refine ah.mk (by omega) ?_
 exact .drop 0 1 (.done ⟨aN (SG x y),rfl⟩)
def kY(x y:Int):Int:=2+4*pc x y
theorem A8(x y:Int)(σ:Hp):ACalls Tryz.prog 324 [.agg (nC x y)] σ (aB (.int .u64 (kY x y)) σ):=by
 refine okF Tryz.func324 (by kernel_rfl) ?_
 intro aC
 refine aa.mk 0 _ _ rfl rfl ?_
 refine az [] (Vc _ _ _) ?_
 refine ah.mk (by omega) ?_
 have e:bits BinOp.or IntKind.u64 2 (IntKind.u64.wrap (pc x y*2 ^ min (Int.toNat 2) IntKind.u64.bits))=kY x y:=by
  have e:(2:Int) ^ min (Int.toNat 2) IntKind.u64.bits=4:=by decide
  have h1:=z7 x y
  have h2:=Df x y
  rw[e,IntKind.wrap_u64]
  unfold kY
  generalize pc x y=p at h1 h2 ⊢
  have h:=K1 2 (a:=2) (b:=p.toNat) (by decide) (by omega) (by decide)
  have e2:((2 ^ 2*p.toNat:Nat):Int)=p*4 % 18446744073709551616:=by omega
  rw[e2]at h
  exact h.trans (by omega)
 exact .drop 0 1 (.done ⟨aN e,rfl⟩)
def lD(w:Int):Int:=if dY w then aO (w / 4 % 65536) else 0
def lE(w:Int):Int:=if dY w then aO (w / 4 / 65536) else 0
theorem RE(w:Int)(σ:Hp)(h:bh w):ACalls Tryz.prog 265 [.int .u64 w] σ (aB (if w<4294967296 then .tup [.agg (nC (aO (w % 65536)) (aO (w / 65536))),.bool true] else .tup [.agg (nC 0 0),.bool false]) σ):=by
 have e:=w6 (k:=32) (m:=32) (w:=w) (by decide)
 have e16:w.fdiv (2 ^ min (Int.toNat 16) IntKind.u64.bits)=w / 65536:=w6 (k:=16) (m:=16) (w:=w) (by decide)
 have ea:bits .and .u64 w 65535=w % 65536:=by
  show IntKind.u64.wrap ((BitVec.ofInt 64 w &&& BitVec.ofInt 64 65535).toNat:Int)=_
  have h3:(BitVec.ofInt 64 65535:BitVec 64).toNat=2 ^ 16-1:=by decide
  rw[BitVec.toNat_and,h3,Nat.and_two_pow_sub_one_eq_mod,BitVec.toNat_ofInt,IntKind.wrap_u64]
  omega
 have h1:=h.1
 have h2:=h.2
 refine okF Tryz.func265 (by kernel_rfl) ?_
 intro b1
 refine ah.mk (by omega) ?_
 refine bS (fun h2 =>?_) (fun h2 =>?_)
 ·have h2:¬(w.fdiv (2 ^ min (Int.toNat 32) IntKind.u64.bits)=0):=by simpa using h2
  have hw:¬(w<4294967296):=fun h=>h2 (by rw[show w.fdiv (2 ^ min (Int.toNat 32) IntKind.u64.bits)=w / 2 ^ 32 from e];omega)
  refine ai.mk 0 _ _ rfl rfl ?_
  refine aa.mk 0 _ _ rfl rfl ?_
  rw[if_neg hw]
  exact .drop 0 1 (.done ⟨rfl,rfl⟩)
 ·have h2:w.fdiv (2 ^ min (Int.toNat 32) IntKind.u64.bits)=0:=by simpa using h2
  have hw:w<4294967296:=by rw[show w.fdiv (2 ^ min (Int.toNat 32) IntKind.u64.bits)=w / 2 ^ 32 from e]at h2;omega
  refine ah.mk (by omega) ?_
  refine az [] (x9 _ _ _) ?_
  refine ai.mk 0 _ _ rfl rfl ?_
  refine aa.mk 0 _ _ rfl rfl ?_
  rw[if_pos hw]
  have x1:IntKind.i64.wrap (bits .and .u64 w 65535)=w % 65536:=by rw[ea,IntKind.wrap_i64];omega
  have x2:IntKind.i64.wrap (w.fdiv (2 ^ min (Int.toNat 16) IntKind.u64.bits))=w / 65536:=by rw[e16,IntKind.wrap_i64];omega
  rw[← x1,← x2]
  exact .drop 0 1 (.done ⟨rfl,rfl⟩)
theorem vt(w:Int)(σ:Hp)(h:bh w):ACalls Tryz.prog 215 [.int .u64 w] σ (aB (.tup [.agg (nC (lD w) (lE w)),.bool (dY w)]) σ):=by
 have e:=w6 (k:=2) (m:=2) (w:=w) (by decide)
 have h0:=h.1
 have Gz:=h.2
 refine okF Tryz.func215 (by kernel_rfl) ?_
 intro b1
 refine bS (fun h2 =>?_) (fun h2 =>?_)
 ·have h2:¬(bits BinOp.and IntKind.u64 w 3=2):=by simpa using h2
  rw[Be]at h2
  have hn:dY w=false:=by simp[dY,h2]
  refine ai.mk 0 _ _ rfl rfl ?_
  refine aa.mk 0 _ _ rfl rfl ?_
  unfold lD lE
  rw[hn]
  exact .drop 0 1 (.done ⟨rfl,rfl⟩)
 ·have h2:bits BinOp.and IntKind.u64 w 3=2:=by simpa using h2
  rw[Be]at h2
  refine ah.mk (by omega) ?_
  have e':w.fdiv (2 ^ min (Int.toNat 2) IntKind.u64.bits)=w / 4:=e
  refine az [] (RE _ _ ⟨by rw[e'];omega,by rw[e'];omega⟩) ?_
  unfold lD lE
  by_cases hw:w<17179869184
  ·have hn:dY w=true:=by simp[dY,h2];omega
   rw[if_pos (show w.fdiv (2 ^ min (Int.toNat 2) IntKind.u64.bits)<4294967296 by rw[e'];omega),hn]
   refine ai.mk 0 _ _ rfl rfl ?_
   refine aa.mk 0 _ _ rfl rfl ?_
   rw[e']
   exact .drop 0 1 (.done ⟨rfl,rfl⟩)
  ·have hn:dY w=false:=by simp[dY,h2];omega
   rw[if_neg (show ¬w.fdiv (2 ^ min (Int.toNat 2) IntKind.u64.bits)<4294967296 by rw[e'];omega),hn]
   refine ai.mk 0 _ _ rfl rfl ?_
   refine aa.mk 0 _ _ rfl rfl ?_
   exact .drop 0 1 (.done ⟨rfl,rfl⟩)
theorem ic{n:Int}(h : -4611686018427387904≤n∧n≤4611686018427387904):IntKind.i64.wrap n=n:=by rw[IntKind.wrap_i64];omega
end Go.Proofs.YtnpidbjdilnhlaaGreat
