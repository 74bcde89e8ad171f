import Derived.Test.YtnikdflhefijbaaGreatBr6
namespace Go.Proofs.YtnikdflhefijbaaGreat
open Go.RowKit
set_option maxRecDepth 100000
def aI(n:Int):Int:=(n+32768) % 65536-32768
theorem vr(n:Int): -32768≤aI n:=by unfold aI;omega
theorem vt(n:Int):aI n≤32767:=by unfold aI;omega
theorem Nb(n:Int):(0≤n∧n.tmod 65536=n % 65536)∨(n<0∧n.tmod 65536 = -((-n) % 65536)):=by
 by_cases h:0≤n
 ·exact .inl ⟨h,sa h⟩
 ·refine .inr ⟨by omega,?_⟩
  have:=Int.neg_tmod (-n) 65536
  rw[Int.neg_neg,sa (a:= -n) (by omega)]at this
  exact this
theorem E2(n:Int)(σ:Hp):ACalls Tryz.prog 335 [.int .i64 n] σ (aD (.int .i64 (aI n)) σ):=by
 refine au Tryz.func335 ?_
 have hc:=Nb n
 refine dX ?_
 refine aj (fun h1=>?_) (fun h1=>?_)
 ·have h1:32767<n.tmod 65536:=h1
  exact .done ⟨aR (by rw[IntKind.wrap_i64];unfold aI;omega),rfl⟩
 ·have h1:¬(32767<n.tmod 65536):=h1
  refine aj (fun h2=>?_) (fun h2=>?_)
  ·have h2:n.tmod 65536 < -32768:=h2
   exact .done ⟨aR (by rw[IntKind.wrap_i64];unfold aI;omega),rfl⟩
  ·have h2:¬(n.tmod 65536 < -32768):=h2
   exact .done ⟨aR (by unfold aI;omega),rfl⟩
theorem Q7(n:Int)(σ:Hp):ACalls Tryz.prog 261 [.int .i64 n] σ (aD (.int .i64 (aI n)) σ):=by
 refine au Tryz.func261 ?_
 have hc:=Nb n
 have e:IntKind.i64.wrap (n.tmod 65536+98304)=n.tmod 65536+98304:=by rw[IntKind.wrap_i64];omega
 have e2:(n.tmod 65536+98304).tmod 65536=(n.tmod 65536+98304) % 65536:=sa (by omega)
 refine dX ?_
 refine dX ?_
 exact .done ⟨aR (by rw[e,e2,IntKind.wrap_i64];unfold aI;omega),rfl⟩
abbrev nC(x y:Int):List AV:=[.int .i64 x,.int .i64 y]
theorem Cl(a b:Int)(σ:Hp):ACalls Tryz.prog 309 [.int .i64 a,.int .i64 b] σ (aD (.agg (nC (aI a) (aI b))) σ):=by
 refine au Tryz.func309 ?_
 intro b1
 refine ar [] (E2 _ _) ?_
 refine ar [] (E2 _ _) ?_
 refine ag 0 ?_
 refine aa 0 ?_
 exact .drop 0 1 (.done ⟨rfl,rfl⟩)
theorem tV(a b:Int)(σ:Hp):ACalls Tryz.prog 223 [.int .i64 a,.int .i64 b] σ (aD (.agg (nC (aI a) (aI b))) σ):=by
 refine au Tryz.func223 ?_
 intro b1
 refine ar [] (Q7 _ _) ?_
 refine ar [] (Q7 _ _) ?_
 refine ag 0 ?_
 refine aa 0 ?_
 exact .drop 0 1 (.done ⟨rfl,rfl⟩)
theorem aef(x y:Int)(σ:Hp):ACalls Tryz.prog 286 [.agg (nC x y)] σ (aD (.bool (decide (x=aI x)&&decide (y=aI y))) σ):=by
 refine au Tryz.func286 ?_
 intro aB
 refine .quiet (by kernel_rfl) ?_
 refine aa 0 ?_
 refine aa 0 ?_
 refine aa 0 ?_
 refine aK [] (Cl _ _ _) ?_
 refine EqAt.mk (by kernel_rfl) (by kernel_rfl) ?_
 have e:gl (rn (nC x y) (nC (aI x) (aI y)))=(decide (x=aI x)&&decide (y=aI y)):=by
  show (decide (x=aI x)&&(decide (y=aI y)&&true))=_
  rw[Dm]
 rw[← e]
 refine cQ (fun c=>?_) (fun c=>?_)
 ·have c:gl (rn (nC x y) (nC (aI x) (aI y)))=true:=c
  rw[c]
  exact .drop 0 1 (.done ⟨rfl,rfl⟩)
 ·have c:gl (rn (nC x y) (nC (aI x) (aI y)))=false:=c
  rw[c]
  exact .drop 0 1 (.done ⟨rfl,rfl⟩)
theorem xl(x y:Int)(σ:Hp):ACalls Tryz.prog 364 [.agg (nC x y)] σ (aD (.fS (aI x) (aI y)) σ):=by
 have h1:=vr x
 have h2:=vt x
 have h3:=vr y
 have h4:=vt y
 refine au Tryz.func364 ?_
 intro aB
 refine aa 0 ?_
 refine aa 0 ?_
 refine ar [] (Cl _ _ _) ?_
 refine ag 0 ?_
 refine aa 0 ?_
 refine .mk (by unfold ib;omega) ?_
 refine aa 0 ?_
 refine .mk (by unfold ib;omega) ?_
 exact .drop 0 1 (.done ⟨rfl,rfl⟩)
theorem Rh{x:Int}(h:ib x):IntKind.i64.min≤x∧x≤IntKind.i64.max:=by
 unfold ib at h
 have e1:IntKind.i64.min = -9223372036854775808:=by decide
 have e2:IntKind.i64.max=9223372036854775807:=by decide
 rw[e1,e2];omega
theorem E3(x y:Int)(σ:Hp)(hx:ib x)(hy:ib y):ACalls Tryz.prog 363 [.fS x y] σ (aD (.agg (nC (aI x) (aI y))) σ):=by
 refine au Tryz.func363 ?_
 intro aB
 refine .mk (Rh hx) ?_
 refine .mk (Rh hy) ?_
 refine ar [] (Cl _ _ _) ?_
 refine ag 0 ?_
 refine aa 0 ?_
 exact .drop 0 1 (.done ⟨rfl,rfl⟩)
theorem D9{a b:Int}(ha : -32768≤a∧a≤32768)(hb : -32768≤b∧b≤32768): -1073741824≤a*b∧a*b≤1073741824:=by
 have h1:a.natAbs*b.natAbs≤32768*32768:=qa (by omega) (by omega)
 rw[← GG]at h1
 omega
theorem Bz(a b c d:Int):(-32768≤aI a∧aI a≤32767)∧(-32768≤aI b∧aI b≤32767)∧(-32768≤aI c∧aI c≤32767)∧-32768≤aI d∧aI d≤32767:=
 ⟨⟨vr a,vt a⟩,⟨vr b,vt b⟩,⟨vr c,vt c⟩,vr d,vt d⟩
theorem SH(a b c d:Int):(-1073741824≤aI a*aI c∧aI a*aI c≤1073741824)∧(-1073741824≤aI b*aI d∧aI b*aI d≤1073741824)∧(-1073741824≤aI a*aI d∧aI a*aI d≤1073741824)∧-1073741824≤aI b*aI c∧aI b*aI c≤1073741824:=by
 have h:=Bz a b c d
 exact⟨D9 (by omega) (by omega),D9 (by omega) (by omega),D9 (by omega) (by omega),D9 (by omega) (by omega)⟩
theorem acS(a b c d:Int)(σ:Hp):ACalls Tryz.prog 356 [.agg (nC a b),.agg (nC c d)] σ (aD (.agg (nC (aI (aI a+aI c)) (aI (aI b+aI d)))) σ):=by
 have hF:=Bz a b c d
 refine au Tryz.func356 ?_
 intro aB
 intro cE
 intro qg
 refine .sched [1,3,5] (upto [1,3,5] 7 0) (by kernel_rfl) ?_
 refine aa 2 ?_
 refine aK [] (xl _ _ _) ?_
 refine aa 1 ?_
 refine aK [] (xl _ _ _) ?_
 refine .mk (by unfold ib;omega) ?_
 refine aK [] (E3 _ _ _ (by unfold ib;omega) (by unfold ib;omega)) ?_
 refine ag 0 ?_
 refine aa 0 ?_
 exact .drop 0 3 (.done ⟨rfl,rfl⟩)
theorem acQ(a b c d:Int)(σ:Hp):ACalls Tryz.prog 357 [.agg (nC a b),.agg (nC c d)] σ (aD (.agg (nC (aI (aI a-aI c)) (aI (aI b-aI d)))) σ):=by
 have hF:=Bz a b c d
 refine au Tryz.func357 ?_
 intro aB
 intro cE
 intro qg
 refine .sched [1,3,5] (upto [1,3,5] 7 0) (by kernel_rfl) ?_
 refine aa 2 ?_
 refine aK [] (xl _ _ _) ?_
 refine aa 1 ?_
 refine aK [] (xl _ _ _) ?_
 refine .mk (by unfold ib;omega) ?_
 refine aK [] (E3 _ _ _ (by unfold ib;omega) (by unfold ib;omega)) ?_
 refine ag 0 ?_
 refine aa 0 ?_
 exact .drop 0 3 (.done ⟨rfl,rfl⟩)
theorem acR(a b c d:Int)(σ:Hp):ACalls Tryz.prog 358 [.agg (nC a b),.agg (nC c d)] σ (aD (.agg (nC (aI (aI a*aI c-aI b*aI d)) (aI (aI a*aI d+aI b*aI c)))) σ):=by
 have hF:=SH a b c d
 refine au Tryz.func358 ?_
 intro aB
 intro cE
 intro qg
 refine .sched [1,3,5] (upto [1,3,5] 7 0) (by kernel_rfl) ?_
 refine aa 2 ?_
 refine aK [] (xl _ _ _) ?_
 refine aa 1 ?_
 refine aK [] (xl _ _ _) ?_
 refine .mk (by unfold ib;omega) ?_
 refine aK [] (E3 _ _ _ (by unfold ib;omega) (by unfold ib;omega)) ?_
 refine ag 0 ?_
 refine aa 0 ?_
 exact .drop 0 3 (.done ⟨rfl,rfl⟩)
theorem abE(a b:Int)(σ:Hp):ACalls Tryz.prog 359 [.agg (nC a b)] σ (aD (.agg (nC (aI (aI a)) (aI (-aI b)))) σ):=by
 have hF:=Bz a b 0 0
 refine au Tryz.func359 ?_
 intro aB
 intro cE
 refine aa 1 ?_
 refine ar [] (xl _ _ _) ?_
 refine ar [] (E3 _ _ _ (by unfold ib;omega) (by unfold ib;omega)) ?_
 refine ag 0 ?_
 refine aa 0 ?_
 exact .drop 0 2 (.done ⟨rfl,rfl⟩)
def iC(op a b c d:Int):Option (Int×Int):=
 if op=0 then some (aI a,aI b) else
 if op=1 then some (aI (aI a+aI c),aI (aI b+aI d)) else
 if op=2 then some (aI (aI a-aI c),aI (aI b-aI d)) else
 if op=3 then some (aI (aI a*aI c-aI b*aI d),aI (aI a*aI d+aI b*aI c)) else
 if op=4 then some (aI (aI a),aI (-aI b)) else none
def sR(r:Option (Int×Int))(ok err:AV):AV:=match r with | some (x,y)=>.tup [.agg (nC x y),ok] | none=>.tup [.agg (nC 0 0),err]
theorem Ko(op a b c d:Int)(σ:Hp):ACalls Tryz.prog 344 [.int .i64 op,.agg (nC a b),.agg (nC c d)] σ (aD (sR (iC op a b c d) (.int .i64 0) (.int .i64 10)) σ):=by
 refine au Tryz.func344 ?_
 intro aB
 intro cE
 intro qg
 intro Hf
 refine aj (fun c5=>?_) (fun c5=>?_)
 ·have c5:op=0:=c5
  refine aa 3 ?_
  refine aa 3 ?_
  refine ar [] (Cl _ _ _) ?_
  refine ag 0 ?_
  refine .fwd 1 ?_
  refine aa 0 ?_
  refine ag 1 ?_
  refine aa 1 ?_
  exact .drop 0 4 (.done ⟨(by simp[iC,sR, *];rfl),rfl⟩)
 ·have c5:¬(op=0):=c5
  refine aj (fun c6=>?_) (fun c6=>?_)
  ·have c6:op=1:=c6
   refine aa 3 ?_
   refine aa 2 ?_
   refine ar [] (acS _ _ _ _ _) ?_
   refine ag 0 ?_
   refine .fwd 1 ?_
   refine aa 0 ?_
   refine ag 1 ?_
   refine aa 1 ?_
   exact .drop 0 4 (.done ⟨(by simp[iC,sR, *];rfl),rfl⟩)
  ·have c6:¬(op=1):=c6
   refine aj (fun c7=>?_) (fun c7=>?_)
   ·have c7:op=2:=c7
    refine aa 3 ?_
    refine aa 2 ?_
    refine ar [] (acQ _ _ _ _ _) ?_
    refine ag 0 ?_
    refine .fwd 1 ?_
    refine aa 0 ?_
    refine ag 1 ?_
    refine aa 1 ?_
    exact .drop 0 4 (.done ⟨(by simp[iC,sR, *];rfl),rfl⟩)
   ·have c7:¬(op=2):=c7
    refine aj (fun c8=>?_) (fun c8=>?_)
    ·have c8:op=3:=c8
     refine aa 3 ?_
     refine aa 2 ?_
     refine ar [] (acR _ _ _ _ _) ?_
     refine ag 0 ?_
     refine .fwd 1 ?_
     refine aa 0 ?_
     refine ag 1 ?_
     refine aa 1 ?_
     exact .drop 0 4 (.done ⟨(by simp[iC,sR, *];rfl),rfl⟩)
    ·have c8:¬(op=3):=c8
     refine aj (fun c9=>?_) (fun c9=>?_)
     ·have c9:op=4:=c9
      refine aa 3 ?_
      refine ar [] (abE _ _ _) ?_
      refine ag 0 ?_
      refine .fwd 1 ?_
      refine aa 0 ?_
      refine ag 1 ?_
      refine aa 1 ?_
      exact .drop 0 4 (.done ⟨(by simp[iC,sR, *];rfl),rfl⟩)
     ·have c9:¬(op=4):=c9
      refine ag 1 ?_
      refine aa 1 ?_
      exact .drop 0 4 (.done ⟨(by simp[iC,sR, *];rfl),rfl⟩)
def oL(x y:Int):Int:=aI x % 65536+65536*(aI y % 65536)
theorem A5(x y:Int):0≤oL x y:=by unfold oL;omega
theorem Ei(x y:Int):oL x y<4294967296:=by unfold oL;omega
theorem SE(n:Int):IntKind.u16.wrap n=n % 65536:=by simp[IntKind.wrap,IntKind.bits,IntKind.signed]
theorem Rb(k:Nat){a b:Nat}(ha:a<2 ^ k)(hb:2 ^ k*b<18446744073709551616)(hk:2 ^ k<18446744073709551616):bits .or .u64 (a:Int) ((2 ^ k*b:Nat):Int)=((2 ^ k*b+a:Nat):Int):=by
 rw[Hq (by omega) hb,Nat.or_comm,L2 ha b]
theorem Zh(x y:Int):bits BinOp.or IntKind.u64 (IntKind.u64.wrap (IntKind.u16.wrap (aI x))) (IntKind.u64.wrap (IntKind.u64.wrap (IntKind.u16.wrap (aI y))*2 ^ min (Int.toNat 16) IntKind.u64.bits))=oL x y:=by
 have e:(2:Int) ^ min (Int.toNat 16) IntKind.u64.bits=65536:=by decide
 rw[e,SE,SE,IntKind.wrap_u64,IntKind.wrap_u64,IntKind.wrap_u64]
 unfold oL
 generalize aI x=p
 generalize aI y=q
 have h:=Rb 16 (a:=(p % 65536).toNat) (b:=(q % 65536).toNat) (by omega) (by omega) (by decide)
 have e1:(((p % 65536).toNat:Nat):Int)=p % 65536 % 18446744073709551616:=by omega
 have e2:((2 ^ 16*(q % 65536).toNat:Nat):Int)=q % 65536 % 18446744073709551616*65536 % 18446744073709551616:=by omega
 rw[e1,e2]at h
 rw[h];omega
theorem Xp(x y:Int):IntKind.u64.wrap (IntKind.u64.wrap ((IntKind.i64.wrap (aI x+65536)).tmod 65536)+IntKind.u64.wrap (65536*IntKind.u64.wrap ((IntKind.i64.wrap (aI y+65536)).tmod 65536)))=oL x y:=by
 have h1:=vr x
 have h2:=vt x
 have h3:=vr y
 have h4:=vt y
 unfold oL
 rw[IntKind.wrap_i64,IntKind.wrap_i64,sa (by omega),sa (by omega),IntKind.wrap_u64,IntKind.wrap_u64,IntKind.wrap_u64,IntKind.wrap_u64]
 omega
theorem abD(x y:Int)(σ:Hp):ACalls Tryz.prog 342 [.agg (nC x y)] σ (aD (.int .u64 (oL x y)) σ):=by
 refine au Tryz.func342 ?_
 intro aB
 refine .quiet (by kernel_rfl) ?_
 refine aa 0 ?_
 refine aK [] (E2 _ _) ?_
 refine aa 0 ?_
 refine aK [] (E2 _ _) ?_
 refine dX ?_
 exact .drop 0 1 (.done ⟨aR (Zh x y),rfl⟩)
theorem abf(x y:Int)(σ:Hp):ACalls Tryz.prog 326 [.agg (nC x y)] σ (aD (.int .u64 (oL x y)) σ):=by
 refine au Tryz.func326 ?_
 intro aB
 refine aa 0 ?_
 refine aa 0 ?_
 refine ar [] (tV _ _ _) ?_
 refine ag 0 ?_
 refine aa 0 ?_
 refine dX ?_
 refine aa 0 ?_
 refine dX ?_
 exact .drop 0 1 (.done ⟨aR (Xp x y),rfl⟩)
def kS(x y:Int):Int:=2+4*oL x y
theorem Fp(x y:Int)(σ:Hp):ACalls Tryz.prog 331 [.agg (nC x y)] σ (aD (.int .u64 (kS x y)) σ):=by
 refine au Tryz.func331 ?_
 intro aB
 refine aa 0 ?_
 refine ar [] (abD _ _ _) ?_
 refine dX ?_
 have e:bits BinOp.or IntKind.u64 2 (IntKind.u64.wrap (oL x y*2 ^ min (Int.toNat 2) IntKind.u64.bits))=kS x y:=by
  have e:(2:Int) ^ min (Int.toNat 2) IntKind.u64.bits=4:=by decide
  have h1:=A5 x y
  have h2:=Ei x y
  rw[e,IntKind.wrap_u64]
  unfold kS
  generalize oL x y=p at h1 h2 ⊢
  have h:=Rb 2 (a:=2) (b:=p.toNat) (by decide) (by omega) (by decide)
  have e2:((2 ^ 2*p.toNat:Nat):Int)=p*4 % 18446744073709551616:=by omega
  rw[e2]at h
  exact h.trans (by omega)
 exact .drop 0 1 (.done ⟨aR e,rfl⟩)
theorem BJ(x y:Int)(σ:Hp):ACalls Tryz.prog 293 [.agg (nC x y)] σ (aD (.int .u64 (kS x y)) σ):=by
 refine au Tryz.func293 ?_
 intro aB
 refine aa 0 ?_
 refine ar [] (abf _ _ _) ?_
 have e:IntKind.u64.wrap (2+IntKind.u64.wrap (4*oL x y))=kS x y:=by
  have h1:=A5 x y
  have h2:=Ei x y
  unfold kS
  rw[IntKind.wrap_u64,IntKind.wrap_u64];omega
 exact .drop 0 1 (.done ⟨aR e,rfl⟩)
def j6(w:Int):Int:=if eA w then aI (w / 4 % 65536) else 0
def j7(w:Int):Int:=if eA w then aI (w / 4 / 65536) else 0
theorem Yf(w:Int)(σ:Hp)(h:bP w):ACalls Tryz.prog 285 [.int .u64 w] σ (aD (if w<4294967296 then .tup [.agg (nC (aI (w % 65536)) (aI (w / 65536))),.bool true] else .tup [.agg (nC 0 0),.bool false]) σ):=by
 have e:=Bi (k:=32) (m:=32) (w:=w) (by decide)
 have e16:w.fdiv (2 ^ min (Int.toNat 16) IntKind.u64.bits)=w / 65536:=Bi (k:=16) (m:=16) (w:=w) (by decide)
 have ea:bits .and .u64 w 65535=w % 65536:=by
  show IntKind.u64.wrap ((BitVec.ofInt 64 w &&& BitVec.ofInt 64 65535).toNat:Int)=_
  have h3:(BitVec.ofInt 64 65535:BitVec 64).toNat=2 ^ 16-1:=by decide
  rw[BitVec.toNat_and,h3,L5,BitVec.toNat_ofInt,IntKind.wrap_u64]
  omega
 have h1:=h.1
 have h2:=h.2
 refine au Tryz.func285 ?_
 intro b1
 refine dX ?_
 refine cQ (fun h2=>?_) (fun h2=>?_)
 ·have h2:¬(w.fdiv (2 ^ min (Int.toNat 32) IntKind.u64.bits)=0):=by simpa using h2
  have hw:¬(w<4294967296):=fun h=>h2 (by rw[show w.fdiv (2 ^ min (Int.toNat 32) IntKind.u64.bits)=w / 2 ^ 32 from e];omega)
  refine ag 0 ?_
  refine aa 0 ?_
  rw[aA hw]
  exact .drop 0 1 (.done ⟨rfl,rfl⟩)
 ·have h2:w.fdiv (2 ^ min (Int.toNat 32) IntKind.u64.bits)=0:=by simpa using h2
  have hw:w<4294967296:=by rw[show w.fdiv (2 ^ min (Int.toNat 32) IntKind.u64.bits)=w / 2 ^ 32 from e]at h2;omega
  refine dX ?_
  refine ar [] (Cl _ _ _) ?_
  refine ag 0 ?_
  refine aa 0 ?_
  rw[az hw]
  have x1:IntKind.i64.wrap (bits .and .u64 w 65535)=w % 65536:=by rw[ea,IntKind.wrap_i64];omega
  have x2:IntKind.i64.wrap (w.fdiv (2 ^ min (Int.toNat 16) IntKind.u64.bits))=w / 65536:=by rw[e16,IntKind.wrap_i64];omega
  rw[← x1,← x2]
  exact .drop 0 1 (.done ⟨rfl,rfl⟩)
theorem zp(w:Int)(σ:Hp)(h:bP w):ACalls Tryz.prog 251 [.int .u64 w] σ (aD (.tup [.agg (nC (j6 w) (j7 w)),.bool (eA w)]) σ):=by
 have e:=Bi (k:=2) (m:=2) (w:=w) (by decide)
 have h0:=h.1
 have LL:=h.2
 refine au Tryz.func251 ?_
 intro b1
 refine cQ (fun h2=>?_) (fun h2=>?_)
 ·have h2:¬(bits BinOp.and IntKind.u64 w 3=2):=by simpa using h2
  rw[Fw]at h2
  have hn:eA w=false:=by simp[eA,h2]
  refine ag 0 ?_
  refine aa 0 ?_
  unfold j6 j7
  rw[hn]
  exact .drop 0 1 (.done ⟨rfl,rfl⟩)
 ·have h2:bits BinOp.and IntKind.u64 w 3=2:=by simpa using h2
  rw[Fw]at h2
  refine dX ?_
  have e':w.fdiv (2 ^ min (Int.toNat 2) IntKind.u64.bits)=w / 4:=e
  refine ar [] (Yf _ _ ⟨by rw[e'];omega,by rw[e'];omega⟩) ?_
  unfold j6 j7
  by_cases hw:w<17179869184
  ·have hn:eA w=true:=by simp[eA,h2];omega
   rw[az (show w.fdiv (2 ^ min (Int.toNat 2) IntKind.u64.bits)<4294967296 by rw[e'];omega),hn]
   refine ag 0 ?_
   refine aa 0 ?_
   rw[e']
   exact .drop 0 1 (.done ⟨rfl,rfl⟩)
  ·have hn:eA w=false:=by simp[eA,h2];omega
   rw[aA (show ¬w.fdiv (2 ^ min (Int.toNat 2) IntKind.u64.bits)<4294967296 by rw[e'];omega),hn]
   refine ag 0 ?_
   refine aa 0 ?_
   exact .drop 0 1 (.done ⟨rfl,rfl⟩)
theorem zg(w:Int)(σ:Hp)(h:bP w):ACalls Tryz.prog 179 [.int .u64 w] σ (aD (.tup [.agg (nC (j6 w) (j7 w)),.bool (eA w)]) σ):=by
 have h0:=h.1
 have h2:=h.2
 have e1:w.tmod 4=w % 4:=sa h0
 have e2:IntKind.u64.wrap (w.tdiv 4)=w / 4:=by rw[AA h0,IntKind.wrap_u64];omega
 refine au Tryz.func179 ?_
 unfold j6 j7
 intro aB
 refine dX ?_
 refine cQ (fun c2=>?_) (fun c2=>?_)
 ·have c2:¬(w.tmod 4=2):=by simpa using c2
  have hn:eA w=false:=by unfold eA;simp;omega
  rw[hn]
  refine ag 0 ?_
  refine aa 0 ?_
  exact .drop 0 1 (.done ⟨rfl,rfl⟩)
 ·have c2:w.tmod 4=2:=by simpa using c2
  refine dX ?_
  refine aj (fun c3=>?_) (fun c3=>?_)
  ·have c3:4294967296≤IntKind.u64.wrap (w.tdiv 4):=c3
   have hn:eA w=false:=by unfold eA;simp;omega
   rw[hn]
   refine ag 0 ?_
   refine aa 0 ?_
   exact .drop 0 1 (.done ⟨rfl,rfl⟩)
  ·have c3:¬(4294967296≤IntKind.u64.wrap (w.tdiv 4)):=c3
   have hn:eA w=true:=by unfold eA;simp;omega
   have e3:IntKind.i64.wrap (IntKind.u64.wrap (w.tdiv 4))=w / 4:=by rw[e2,IntKind.wrap_i64];omega
   have e4:(w / 4).tmod 65536=w / 4 % 65536:=sa (by omega)
   have e5:IntKind.i64.wrap ((w / 4).tdiv 65536)=w / 4 / 65536:=by rw[AA (by omega),IntKind.wrap_i64];omega
   rw[hn,az rfl,az rfl,← e4,← e5,← e3]
   refine dX ?_
   refine dX ?_
   refine dX ?_
   refine ar [] (tV _ _ _) ?_
   refine ag 0 ?_
   refine aa 0 ?_
   exact .drop 0 1 (.done ⟨rfl,rfl⟩)
theorem fP{n:Int}(h : -4611686018427387904≤n∧n≤4611686018427387904):IntKind.i64.wrap n=n:=by rw[IntKind.wrap_i64];omega
theorem J0(op a b c d:Int)(σ:Hp):ACalls Tryz.prog 294 [.int .i64 op,.agg (nC a b),.agg (nC c d)] σ (aD (sR (iC op a b c d) (.bool true) (.bool false)) σ):=by
 have hF:=Bz a b c d
 have hM:=SH a b c d
 refine au Tryz.func294 ?_
 intro aB
 intro cE
 intro qg
 refine aa 2 ?_
 refine aa 2 ?_
 refine ar [] (tV _ _ _) ?_
 refine ag 2 ?_
 refine aa 1 ?_
 refine aa 1 ?_
 refine ar [] (tV _ _ _) ?_
 refine ag 1 ?_
 refine aj (fun c4=>?_) (fun c4=>?_)
 ·have c4:op=0:=c4
  refine aa 2 ?_
  refine ag 0 ?_
  refine aa 0 ?_
  exact .drop 0 3 (.done ⟨(by simp[iC,sR, *];rfl),rfl⟩)
 ·have c4:¬(op=0):=c4
  refine aj (fun c5=>?_) (fun c5=>?_)
  ·have c5:op=1:=c5
   refine aa 2 ?_
   refine aa 1 ?_
   refine aa 2 ?_
   refine aa 1 ?_
   refine ar [] (tV _ _ _) ?_
   refine ag 0 ?_
   refine aa 0 ?_
   have eo:iC op a b c d=some (aI (aI a+aI c),aI (aI b+aI d)):=by simp[iC, *]
   have ev:AV.tup [.agg (nC (aI (IntKind.i64.wrap (aI a+aI c))) (aI (IntKind.i64.wrap (aI b+aI d)))),.bool true]=AV.tup [.agg (nC (aI (aI a+aI c)) (aI (aI b+aI d))),.bool true]:=by rw[fP (n:=aI a+aI c) (by omega),fP (n:=aI b+aI d) (by omega)]
   rw[eo]
   exact .drop 0 3 (.done ⟨ev,rfl⟩)
  ·have c5:¬(op=1):=c5
   refine aj (fun c6=>?_) (fun c6=>?_)
   ·have c6:op=2:=c6
    refine aa 2 ?_
    refine aa 1 ?_
    refine aa 2 ?_
    refine aa 1 ?_
    refine ar [] (tV _ _ _) ?_
    refine ag 0 ?_
    refine aa 0 ?_
    have eo:iC op a b c d=some (aI (aI a-aI c),aI (aI b-aI d)):=by simp[iC, *]
    have ev:AV.tup [.agg (nC (aI (IntKind.i64.wrap (aI a-aI c))) (aI (IntKind.i64.wrap (aI b-aI d)))),.bool true]=AV.tup [.agg (nC (aI (aI a-aI c)) (aI (aI b-aI d))),.bool true]:=by rw[fP (n:=aI a-aI c) (by omega),fP (n:=aI b-aI d) (by omega)]
    rw[eo]
    exact .drop 0 3 (.done ⟨ev,rfl⟩)
   ·have c6:¬(op=2):=c6
    refine aj (fun c7=>?_) (fun c7=>?_)
    ·have c7:op=3:=c7
     refine aa 2 ?_
     refine aa 1 ?_
     refine aa 2 ?_
     refine aa 1 ?_
     refine aa 2 ?_
     refine aa 1 ?_
     refine aa 2 ?_
     refine aa 1 ?_
     refine ar [] (tV _ _ _) ?_
     refine ag 0 ?_
     refine aa 0 ?_
     have eo:iC op a b c d=some (aI (aI a*aI c-aI b*aI d),aI (aI a*aI d+aI b*aI c)):=by simp[iC, *]
     have ev:AV.tup [.agg (nC (aI (IntKind.i64.wrap (IntKind.i64.wrap (aI a*aI c)-IntKind.i64.wrap (aI b*aI d)))) (aI (IntKind.i64.wrap (IntKind.i64.wrap (aI a*aI d)+IntKind.i64.wrap (aI b*aI c))))),.bool true]=AV.tup [.agg (nC (aI (aI a*aI c-aI b*aI d)) (aI (aI a*aI d+aI b*aI c))),.bool true]:=by rw[fP (n:=aI a*aI c) (by omega),fP (n:=aI b*aI d) (by omega),fP (n:=aI a*aI d) (by omega),fP (n:=aI b*aI c) (by omega),fP (n:=aI a*aI c-aI b*aI d) (by omega),fP (n:=aI a*aI d+aI b*aI c) (by omega)]
     rw[eo]
     exact .drop 0 3 (.done ⟨ev,rfl⟩)
    ·have c7:¬(op=3):=c7
     refine aj (fun c8=>?_) (fun c8=>?_)
     ·have c8:op=4:=c8
      refine aa 2 ?_
      refine aa 2 ?_
      refine ar [] (tV _ _ _) ?_
      refine ag 0 ?_
      refine aa 0 ?_
      have eo:iC op a b c d=some (aI (aI a),aI (-aI b)):=by simp[iC, *]
      have ev:AV.tup [.agg (nC (aI (aI a)) (aI (IntKind.i64.wrap (0-aI b)))),.bool true]=AV.tup [.agg (nC (aI (aI a)) (aI (-aI b))),.bool true]:=by rw[fP (n:=0-aI b) (by omega),Int.zero_sub]
      rw[eo]
      exact .drop 0 3 (.done ⟨ev,rfl⟩)
     ·have c8:¬(op=4):=c8
      refine ag 0 ?_
      refine aa 0 ?_
      exact .drop 0 3 (.done ⟨(by simp[iC,sR, *];rfl),rfl⟩)
def mS(l:List Int):Int:=if (l.any fun w=>decide (aS w=0)) then 0 else if (l.any fun w=>decide (aS w=1)) then 1 else 2
theorem Ur(l:List Int)(w:Int)(h:(l.any fun w=>decide (aS w=0))=false):mS (l++[w])=if aS w=0 then 0 else if aS w=1 then 1 else mS l:=by
 unfold mS
 rw[gt0,gt0,h]
 by_cases h0:aS w=0
 ·simp[h0]
 ·by_cases h1:aS w=1
  ·simp[h1]
  ·simp[h0,h1]
theorem Uq(l:List Int){w:Int}(hm:w∈l)(h:aS w=0):mS l=0:=by
 unfold mS
 rw[az]
 exact kv.2 ⟨w,hm,bj h⟩
theorem Jk(l:List Int)(σ:Hp)(hl:l.length≤100000):ACalls Tryz.prog 343 [.af (.int .u64) l] σ (aD (.int .u64 (mS l)) σ):=by
 refine au Tryz.func343 ?_
 refine bh (S:=Nat) (fun s=>[(3,.int .u64 (mS (l.take s))),(6,.af (.int .u64) l),(7,.int .i64 l.length),(8,.int .i64 s)]) (fun _=>σ) (fun s=>s≤l.length∧((l.take s).any fun w=>decide (aS w=0))=false) (fun s=>l.length-s) 0 ⟨⟨aY _,rfl⟩,⟨rfl,rfl,rfl,rfl,trivial⟩,rfl⟩ ?_
 rintro k g ⟨aO,l9⟩
 have hk:k≤l.length:=aO
 have hz:((l.take k).any fun w=>decide (aS w=0))=false:=l9
 clear aO l9
 refine aj (fun ab=>?_) (fun aq=>?_)
 ·have ab:k<l.length:=by have ab:(k:Int)<l.length:=ab;omega
  have hs:=Ur (l.take k) l[k] hz
  rw[← eT ab]at hs
  have x5:((l.take (k+1)).any fun w=>decide (aS w=0))=decide (aS l[k]=0):=by
   rw[List.take_succ_eq_append_getElem ab,List.any_append,hz];simp
  refine aw.mk rfl (aX.mk l[k] (by omega) (get_some ab) ?_)
  refine ar [] (JR l[k] _) ?_
  refine aj (fun c1=>?_) (fun c1=>?_)
  ·have c1:aS l[k]=0:=c1
   refine .fwd 1 ?_
   rw[Uq l (cq ab) c1]
   exact .done ⟨rfl,rfl⟩
  ·have c1:¬(aS l[k]=0):=c1
   refine aj (fun c2=>?_) (fun c2=>?_)
   ·have c2:aS l[k]=1:=c2
    refine aM (k+1) (by show l.length-(k+1)<l.length-k;omega) ⟨ab,by rw[x5];exact cy c1⟩ ⟨?_,rfl,rfl,aL (by omega),trivial⟩ (.refl _)
    rw[hs,aA c1,az c2]
    rfl
   ·have c2:¬(aS l[k]=1):=c2
    refine aM (k+1) (by show l.length-(k+1)<l.length-k;omega) ⟨ab,by rw[x5];exact cy c1⟩ ⟨?_,rfl,rfl,aL (by omega),trivial⟩ (.refl _)
    rw[hs,aA c1,aA c2]
    rfl
 ·have aq:k=l.length:=by have aq:¬(k:Int)<l.length:=aq;omega
  subst aq
  rw[dW]
  exact .done ⟨rfl,rfl⟩
theorem Em{w:Int}(h0:aS w≠0)(h1:aS w≠1):eA w=true∧aS w=w:=by
 unfold aS at *
 by_cases a:w=0
 ·rw[az a]at h0;exact absurd rfl h0
 ·rw[aA a]at h0 h1 ⊢
  by_cases b:w=1
  ·rw[az b]at h1;exact absurd rfl h1
  ·rw[aA b]at h0 h1 ⊢
   cases c:eA w with
   |true=>exact⟨rfl,rfl⟩
   |false=>rw[c]at h1;exact absurd rfl h1
theorem abm{op:Int}(h:op=0∨op=4)(a b c d c2 d2:Int):iC op a b c d=iC op a b c2 d2:=by
 rcases h with rfl | rfl <;> rfl
def mz(op a b:Int):Int:=match iC op (j6 a) (j7 a) (j6 b) (j7 b) with | some (x,y)=>kS x y | none=>1
def gK(op a b:Int):Int:=if aS a=0∨aS b=0 then 0 else if aS a=1∨aS b=1 then 1 else mz op a b
def lA(op a b:Int):Int:=if op=0∨op=4 then gK op a 2 else gK op a b
theorem abr(x y:Int):2≤kS x y:=by have:=A5 x y;unfold kS;omega
theorem abq(x y:Int):eA (kS x y)=true:=by
 have h1:=A5 x y
 have h2:=Ei x y
 unfold eA kS;simp;omega
theorem norm_num{w:Int}(h:eA w=true):aS w=w:=by
 have:=Im h
 unfold aS
 rw[aA this.1,aA this.2,az h]
theorem Zz{op:Int}(h:op=0∨op=4)(a b c:Int):mz op a b=mz op a c:=by
 unfold mz
 rw[abm h (j6 a) (j7 a) (j6 b) (j7 b) (j6 c) (j7 c)]
theorem En:aS 2=2:=by decide
theorem DW{op:Int}(a b:Int)(h:op=0∨op=4):lA op a b=if mS [a]=2 then mz op a b else mS [a]:=by
 unfold lA gK mS
 rw[az h,En,Zz h a b 2]
 by_cases h0:aS a=0
 ·simp[h0]
 ·by_cases h1:aS a=1
  ·simp[h1]
  ·simp[h0,h1]
theorem Nq{op:Int}(a b:Int)(h:¬(op=0∨op=4)):lA op a b=if mS [a,b]=2 then mz op a b else mS [a,b]:=by
 unfold lA gK mS
 rw[aA h]
 by_cases h0:aS a=0
 ·simp[h0]
 ·by_cases h1:aS a=1
  ·by_cases g0:aS b=0
   ·simp[g0]
   ·simp[h1,g0]
  ·by_cases g0:aS b=0
   ·simp[g0]
   ·by_cases g1:aS b=1
    ·simp[h0,g1]
    ·simp[h0,h1,g0,g1]
theorem aeC(op a b:Int)(σ:Hp)(ha:bP a)(hb:bP b):ACalls Tryz.prog 332 [.int .i64 op,.int .u64 a,.int .u64 b] σ (aD (.int .u64 (lA op a b)) σ):=by
 refine au Tryz.func332 ?_
 intro aB
 refine .cH (args':=[.af (.int .u64) [a,b]]) 0 aB 0 2 1 _ (.int .u64) [a,b] rfl rfl ⟨rfl,rfl,by decide⟩ (cc .here qp) (ar [] (Jk [a,b] _ (by show 2≤100000;omega)) ?_)
 refine aj (fun c1=>?_) (fun c1=>?_)
 ·have c1:op=0:=c1
  intro cE
  refine .cH (args':=[.af (.int .u64) [a]]) 0 cE 0 1 1 _ (.int .u64) [a] rfl rfl ⟨rfl,rfl,by decide⟩ (cc .here qp) (ar [] (Jk [a] _ (by show 1≤100000;omega)) ?_)
  generalize hL:mS [a]=L
  refine cQ (fun c5=>?_) (fun c5=>?_)
  ·have c5:¬(L=2):=by simpa using c5
   rw[DW a b (.inl c1),aA (by rw[hL];exact c5),hL]
   exact .done ⟨rfl,rfl⟩
  ·have c5:L=2:=by simpa using c5
   rw[DW a b (.inl c1),az (by rw[hL];exact c5)]
   refine ar [] (zp a _ ha) ?_
   intro p1
   refine ag 0 ?_
   refine ar [] (zp b _ hb) ?_
   intro p2
   refine ag 0 ?_
   refine aa 1 ?_
   refine aa 0 ?_
   refine ar [] (Ko op _ _ _ _ _) ?_
   unfold mz
   cases hr:iC op (j6 a) (j7 a) (j6 b) (j7 b) with
   |none=>
    intro p3
    refine ag 0 ?_
    exact .drop 0 3 (.done ⟨rfl,rfl⟩)
   |some xy=>
    obtain⟨x,y⟩:=xy
    intro p3
    refine ag 0 ?_
    refine aa 0 ?_
    refine ar [] (Fp x y _) ?_
    exact .drop 0 3 (.done ⟨rfl,rfl⟩)
 ·have c1:¬(op=0):=c1
  refine aj (fun c3=>?_) (fun c3=>?_)
  ·have c3:op=4:=c3
   intro Hf
   refine .cH (args':=[.af (.int .u64) [a]]) 0 Hf 0 1 1 _ (.int .u64) [a] rfl rfl ⟨rfl,rfl,by decide⟩ (cc .here qp) (ar [] (Jk [a] _ (by show 1≤100000;omega)) ?_)
   generalize hL:mS [a]=L
   refine cQ (fun c5=>?_) (fun c5=>?_)
   ·have c5:¬(L=2):=by simpa using c5
    rw[DW a b (.inr c3),aA (by rw[hL];exact c5),hL]
    exact .done ⟨rfl,rfl⟩
   ·have c5:L=2:=by simpa using c5
    rw[DW a b (.inr c3),az (by rw[hL];exact c5)]
    refine ar [] (zp a _ ha) ?_
    intro p1
    refine ag 0 ?_
    refine ar [] (zp b _ hb) ?_
    intro p2
    refine ag 0 ?_
    refine aa 1 ?_
    refine aa 0 ?_
    refine ar [] (Ko op _ _ _ _ _) ?_
    unfold mz
    cases hr:iC op (j6 a) (j7 a) (j6 b) (j7 b) with
    |none=>
     intro p3
     refine ag 0 ?_
     exact .drop 0 3 (.done ⟨rfl,rfl⟩)
    |some xy=>
     obtain⟨x,y⟩:=xy
     intro p3
     refine ag 0 ?_
     refine aa 0 ?_
     refine ar [] (Fp x y _) ?_
     exact .drop 0 3 (.done ⟨rfl,rfl⟩)
  ·have c3:¬(op=4):=c3
   generalize hL:mS [a,b]=L
   refine cQ (fun c5=>?_) (fun c5=>?_)
   ·have c5:¬(L=2):=by simpa using c5
    rw[Nq a b (fun h=>h.elim c1 c3),aA (by rw[hL];exact c5),hL]
    exact .done ⟨rfl,rfl⟩
   ·have c5:L=2:=by simpa using c5
    rw[Nq a b (fun h=>h.elim c1 c3),az (by rw[hL];exact c5)]
    refine ar [] (zp a _ ha) ?_
    intro p1
    refine ag 0 ?_
    refine ar [] (zp b _ hb) ?_
    intro p2
    refine ag 0 ?_
    refine aa 1 ?_
    refine aa 0 ?_
    refine ar [] (Ko op _ _ _ _ _) ?_
    unfold mz
    cases hr:iC op (j6 a) (j7 a) (j6 b) (j7 b) with
    |none=>
     intro p3
     refine ag 0 ?_
     exact .drop 0 3 (.done ⟨rfl,rfl⟩)
    |some xy=>
     obtain⟨x,y⟩:=xy
     intro p3
     refine ag 0 ?_
     refine aa 0 ?_
     refine ar [] (Fp x y _) ?_
     exact .drop 0 3 (.done ⟨rfl,rfl⟩)
theorem jJ(w:Int):aS (aS w)=aS w:=by
 by_cases h0:aS w=0
 ·rw[h0];rfl
 ·by_cases h1:aS w=1
  ·rw[h1];rfl
  ·rw[(Em h0 h1).2];exact (Em h0 h1).2
theorem Oa(op a b:Int):gK op (aS a) (aS b)=gK op a b:=by
 unfold gK
 rw[jJ,jJ]
 by_cases h0:aS a=0∨aS b=0
 ·rw[az h0,az h0]
 ·by_cases h1:aS a=1∨aS b=1
  ·rw[aA h0,az h1,aA h0,az h1]
  ·rw[aA h0,aA h1,aA h0,aA h1]
   have ha:=(Em (w:=a) (fun h=>h0 (.inl h)) (fun h=>h1 (.inl h))).2
   have hb:=(Em (w:=b) (fun h=>h0 (.inr h)) (fun h=>h1 (.inr h))).2
   rw[ha,hb]
theorem X1:kS 0 0=2:=by decide
theorem ac0(op a b:Int)(σ:Hp)(ha:bP a)(hb:bP b):ACalls Tryz.prog 264 [.int .i64 op,.int .u64 a,.int .u64 b] σ (aD (.int .u64 (lA op a b)) σ):=by
 have na:=EK ha
 have nb:=EK hb
 obtain⟨B,hB⟩:∃B:Int,B=2:=⟨_,rfl⟩
 have wB:bP B:=by rw[hB];unfold bP;omega
 have nB:aS B=B:=by rw[hB];exact En
 have hOf:∀σ,ACalls Tryz.prog 293 [.agg (nC 0 0)] σ (aD (.int .u64 B) σ):=fun σ=>by rw[hB,← X1];exact BJ 0 0 σ
 have e04:(op=0∨op=4)→lA op a b=gK op (aS a) B:=fun h=>by unfold lA;rw[az h,← Oa,En,hB]
 clear hB
 refine au Tryz.func264 ?_
 refine ar [] (BD a _ ha.1 ha.2) ?_
 refine ar [] (BD b _ hb.1 hb.2) ?_
 refine aj (fun d1=>?_) (fun d1=>?_)
 ·have d1:op=0:=d1
  rw[e04 (.inl d1)]
  refine ar [] (hOf _) ?_
  refine aj (fun c1=>?_) (fun c1=>?_)
  ·have c1:aS a=0:=c1
   unfold gK
   rw[jJ,az (.inl c1)]
   exact .done ⟨rfl,rfl⟩
  ·have c1:¬aS a=0:=c1
   refine aj (fun c2=>?_) (fun c2=>?_)
   ·have c2:B=0:=c2
    unfold gK
    rw[jJ,az (.inr (nB.trans c2))]
    exact .done ⟨rfl,rfl⟩
   ·have c2:¬B=0:=c2
    refine aj (fun c3=>?_) (fun c3=>?_)
    ·have c3:aS a=1:=c3
     unfold gK
     rw[jJ,aA (fun h=>h.elim c1 fun h=>c2 (nB.symm.trans h)),az (.inl c3)]
     exact .done ⟨rfl,rfl⟩
    ·have c3:¬aS a=1:=c3
     refine aj (fun c4=>?_) (fun c4=>?_)
     ·have c4:B=1:=c4
      unfold gK
      rw[jJ,aA (fun h=>h.elim c1 fun h=>c2 (nB.symm.trans h)),az (.inr (nB.trans c4))]
      exact .done ⟨rfl,rfl⟩
     ·have c4:¬B=1:=c4
      unfold gK
      rw[jJ,aA (fun h=>h.elim c1 fun h=>c2 (nB.symm.trans h)),aA (fun h=>h.elim c3 fun h=>c4 (nB.symm.trans h))]
      unfold mz
      refine ar [] (zg (aS a) _ na) ?_
      intro p1
      refine ag 0 ?_
      refine ar [] (zg (B) _ wB) ?_
      intro p2
      refine ag 0 ?_
      refine aa 1 ?_
      refine aa 0 ?_
      refine ar [] (J0 op _ _ _ _ _) ?_
      cases hr:iC op (j6 (aS a)) (j7 (aS a)) (j6 (B)) (j7 (B)) with
      |none=>
       intro p3
       refine ag 0 ?_
       exact .drop 0 3 (.done ⟨rfl,rfl⟩)
      |some xy=>
       obtain⟨x,y⟩:=xy
       intro p3
       refine ag 0 ?_
       refine aa 0 ?_
       refine ar [] (BJ x y _) ?_
       exact .drop 0 3 (.done ⟨rfl,rfl⟩)
 ·have d1:¬op=0:=d1
  refine aj (fun d2=>?_) (fun d2=>?_)
  ·have d2:op=4:=d2
   rw[e04 (.inr d2)]
   refine ar [] (hOf _) ?_
   refine aj (fun c1=>?_) (fun c1=>?_)
   ·have c1:aS a=0:=c1
    unfold gK
    rw[jJ,az (.inl c1)]
    exact .done ⟨rfl,rfl⟩
   ·have c1:¬aS a=0:=c1
    refine aj (fun c2=>?_) (fun c2=>?_)
    ·have c2:B=0:=c2
     unfold gK
     rw[jJ,az (.inr (nB.trans c2))]
     exact .done ⟨rfl,rfl⟩
    ·have c2:¬B=0:=c2
     refine aj (fun c3=>?_) (fun c3=>?_)
     ·have c3:aS a=1:=c3
      unfold gK
      rw[jJ,aA (fun h=>h.elim c1 fun h=>c2 (nB.symm.trans h)),az (.inl c3)]
      exact .done ⟨rfl,rfl⟩
     ·have c3:¬aS a=1:=c3
      refine aj (fun c4=>?_) (fun c4=>?_)
      ·have c4:B=1:=c4
       unfold gK
       rw[jJ,aA (fun h=>h.elim c1 fun h=>c2 (nB.symm.trans h)),az (.inr (nB.trans c4))]
       exact .done ⟨rfl,rfl⟩
      ·have c4:¬B=1:=c4
       unfold gK
       rw[jJ,aA (fun h=>h.elim c1 fun h=>c2 (nB.symm.trans h)),aA (fun h=>h.elim c3 fun h=>c4 (nB.symm.trans h))]
       unfold mz
       refine ar [] (zg (aS a) _ na) ?_
       intro p1
       refine ag 0 ?_
       refine ar [] (zg (B) _ wB) ?_
       intro p2
       refine ag 0 ?_
       refine aa 1 ?_
       refine aa 0 ?_
       refine ar [] (J0 op _ _ _ _ _) ?_
       cases hr:iC op (j6 (aS a)) (j7 (aS a)) (j6 (B)) (j7 (B)) with
       |none=>
        intro p3
        refine ag 0 ?_
        exact .drop 0 3 (.done ⟨rfl,rfl⟩)
       |some xy=>
        obtain⟨x,y⟩:=xy
        intro p3
        refine ag 0 ?_
        refine aa 0 ?_
        refine ar [] (BJ x y _) ?_
        exact .drop 0 3 (.done ⟨rfl,rfl⟩)
  ·have d2:¬op=4:=d2
   rw[show lA op a b=gK op (aS a) (aS b) by unfold lA;rw[aA (fun h=>h.elim d1 d2),Oa]]
   refine aj (fun c1=>?_) (fun c1=>?_)
   ·have c1:aS a=0:=c1
    unfold gK
    rw[jJ,az (.inl c1)]
    exact .done ⟨rfl,rfl⟩
   ·have c1:¬aS a=0:=c1
    refine aj (fun c2=>?_) (fun c2=>?_)
    ·have c2:(aS b)=0:=c2
     unfold gK
     rw[jJ,az (.inr ((jJ b).trans c2))]
     exact .done ⟨rfl,rfl⟩
    ·have c2:¬(aS b)=0:=c2
     refine aj (fun c3=>?_) (fun c3=>?_)
     ·have c3:aS a=1:=c3
      unfold gK
      rw[jJ,aA (fun h=>h.elim c1 fun h=>c2 ((jJ b).symm.trans h)),az (.inl c3)]
      exact .done ⟨rfl,rfl⟩
     ·have c3:¬aS a=1:=c3
      refine aj (fun c4=>?_) (fun c4=>?_)
      ·have c4:(aS b)=1:=c4
       unfold gK
       rw[jJ,aA (fun h=>h.elim c1 fun h=>c2 ((jJ b).symm.trans h)),az (.inr ((jJ b).trans c4))]
       exact .done ⟨rfl,rfl⟩
      ·have c4:¬(aS b)=1:=c4
       unfold gK
       rw[jJ,aA (fun h=>h.elim c1 fun h=>c2 ((jJ b).symm.trans h)),aA (fun h=>h.elim c3 fun h=>c4 ((jJ b).symm.trans h))]
       unfold mz
       refine ar [] (zg (aS a) _ na) ?_
       intro p1
       refine ag 0 ?_
       refine ar [] (zg ((aS b)) _ nb) ?_
       intro p2
       refine ag 0 ?_
       refine aa 1 ?_
       refine aa 0 ?_
       refine ar [] (J0 op _ _ _ _ _) ?_
       cases hr:iC op (j6 (aS a)) (j7 (aS a)) (j6 ((aS b))) (j7 ((aS b))) with
       |none=>
        intro p3
        refine ag 0 ?_
        exact .drop 0 3 (.done ⟨rfl,rfl⟩)
       |some xy=>
        obtain⟨x,y⟩:=xy
        intro p3
        refine ag 0 ?_
        refine aa 0 ?_
        refine ar [] (BJ x y _) ?_
        exact .drop 0 3 (.done ⟨rfl,rfl⟩)
theorem aaT(g:Nat)(cap:List AV)(l:List (Sh.T (.int .u64)))(p:Sh.T (.int .u64)→Bool)(σ:Hp)(hl:l.length≤1000000)(hg:∀(i:Nat) (hi:i<l.length),ACalls Tryz.prog g (.int .u64 l[i]::cap) σ (aD (.bool (p l[i])) σ)):ACalls Tryz.prog 250 [.af (.int .u64) l,.fn (.func g) [] cap] σ (fun r σ'=>∃n:Int,r=.int .i64 n∧σ'=σ∧decide (0≤n)=l.any p):=by
 refine au Tryz.func250 ?_
 refine bh (S:=Nat) (fun s=>[(0,.af (.int .u64) l),(1,.fn (.func g) [] cap),(7,.int .i64 l.length),(8,.int .i64 s)]) (fun _=>σ) (fun s=>s≤l.length∧(l.take s).any p=false) (fun s=>l.length-s) 0 ⟨⟨aY _,rfl⟩,⟨rfl,rfl,rfl,rfl,trivial⟩,rfl⟩ ?_
 rintro k t ⟨aO,fF⟩
 have hk:k≤l.length:=aO
 have hn:(l.take k).any p=false:=fF
 clear aO fF
 refine aj (fun ab=>?_) (fun aq=>?_)
 ·have ab:k<l.length:=by have ab:(k:Int)<l.length:=ab;omega
  have hs:=mQ ab p
  rw[hn,mj]at hs
  refine aw.mk rfl (aX.mk l[k] (by omega) (get_some ab) ?_)
  refine dr [] (hg k ab) (fun c=>?_) (fun c=>?_)
  ·have hp:l.any p=true:=kv.2 ⟨l[k],cq ab,c⟩
   exact .done ⟨_,rfl,rfl,by rw[hp];exact bj (by omega)⟩
  ·exact aM (k+1) (by show l.length-(k+1)<l.length-k;omega) ⟨ab,hs.trans c⟩ ⟨rfl,rfl,rfl,aL (by omega),trivial⟩ (.refl _)
 ·have aq:k=l.length:=by have aq:¬(k:Int)<l.length:=aq;omega
  subst aq
  rw[dW]at hn
  exact .done ⟨_,rfl,rfl,by rw[hn];rfl⟩
theorem VK(g:Nat)(cap:List AV)(l:List (Sh.T (.int .u64)))(p:Sh.T (.int .u64)→Bool)(σ:Hp)(hl:l.length≤1000000)(hg:∀(i:Nat) (hi:i<l.length),ACalls Tryz.prog g (.int .u64 l[i]::cap) σ (aD (.bool (p l[i])) σ)):ACalls Tryz.prog 200 [.af (.int .u64) l,.fn (.func g) [] cap] σ (aD (.bool (l.any p)) σ):=by
 refine au Tryz.func200 ?_
 refine .mk [] _ (aaT g cap l p _ hl hg) ?_
 rintro _ _ ⟨n,rfl,rfl,hn⟩
 rw[← hn]
 refine aj (fun c=>?_) (fun c=>?_)
 ·have c:0≤n:=c
  rw[bj c]
  exact .done ⟨rfl,rfl⟩
 ·have c:¬0≤n:=c
  rw[cy c]
  exact .done ⟨rfl,rfl⟩
abbrev acz:Sh:=.field (.int .i64) (.field (.int .i64) .nil)
abbrev RY:Sh:=.field (.int .i64) (.field acz .nil)
abbrev iU:Sh:=.field (.int .i64) (.field (.int .i64) (.field RY (.field RY .nil)))
abbrev aeF:Type:=Int×Int×Unit
abbrev n5:Type:=Int×aeF×Unit
abbrev dD:Type:=Int×Int×n5×n5×Unit
abbrev zy(r:n5):List AV:=[.int .i64 r.1,.int .i64 r.2.1.1,.int .i64 r.2.1.2.1]
abbrev Sl(c:dD):List AV:=[.int .i64 c.1,.int .i64 c.2.1,.int .i64 c.2.2.1.1,.int .i64 c.2.2.1.2.1.1,.int .i64 c.2.2.1.2.1.2.1,.int .i64 c.2.2.2.1.1,.int .i64 c.2.2.2.1.2.1.1,.int .i64 c.2.2.2.1.2.1.2.1]
def Fs(c:dD):AV:=.agg (Sl c)
theorem aaW(g:Nat)(cap:List AV)(l:List (Sh.T iU))(p:Sh.T iU→Bool)(σ:Hp)(hl:l.length≤1000000)(hg:∀(i:Nat) (hi:i<l.length),ACalls Tryz.prog g (Fs l[i]::cap) σ (aD (.bool (p l[i])) σ)):ACalls Tryz.prog 253 [.af iU l,.fn (.func g) [] cap] σ (fun r σ'=>∃n:Int,r=.int .i64 n∧σ'=σ∧decide (0≤n)=l.any p):=by
 refine au Tryz.func253 ?_
 refine bh (S:=Nat) (fun s=>[(0,.af iU l),(1,.fn (.func g) [] cap),(7,.int .i64 l.length),(8,.int .i64 s)]) (fun _=>σ) (fun s=>s≤l.length∧(l.take s).any p=false) (fun s=>l.length-s) 0 ⟨⟨aY _,rfl⟩,⟨rfl,rfl,rfl,rfl,trivial⟩,rfl⟩ ?_
 rintro k t ⟨aO,fF⟩
 have hk:k≤l.length:=aO
 have hn:(l.take k).any p=false:=fF
 clear aO fF
 refine aj (fun ab=>?_) (fun aq=>?_)
 ·have ab:k<l.length:=by have ab:(k:Int)<l.length:=ab;omega
  have hs:=mQ ab p
  rw[hn,mj]at hs
  refine aw.mk rfl (aX.mk l[k] (by omega) (get_some ab) ?_)
  refine dr [] (hg k ab) (fun c=>?_) (fun c=>?_)
  ·have hp:l.any p=true:=kv.2 ⟨l[k],cq ab,c⟩
   exact .done ⟨_,rfl,rfl,by rw[hp];exact bj (by omega)⟩
  ·exact aM (k+1) (by show l.length-(k+1)<l.length-k;omega) ⟨ab,hs.trans c⟩ ⟨rfl,rfl,rfl,aL (by omega),trivial⟩ (.refl _)
 ·have aq:k=l.length:=by have aq:¬(k:Int)<l.length:=aq;omega
  subst aq
  rw[dW]at hn
  exact .done ⟨_,rfl,rfl,by rw[hn];rfl⟩
theorem VN(g:Nat)(cap:List AV)(l:List (Sh.T iU))(p:Sh.T iU→Bool)(σ:Hp)(hl:l.length≤1000000)(hg:∀(i:Nat) (hi:i<l.length),ACalls Tryz.prog g (Fs l[i]::cap) σ (aD (.bool (p l[i])) σ)):ACalls Tryz.prog 207 [.af iU l,.fn (.func g) [] cap] σ (aD (.bool (l.any p)) σ):=by
 refine au Tryz.func207 ?_
 refine .mk [] _ (aaW g cap l p _ hl hg) ?_
 rintro _ _ ⟨n,rfl,rfl,hn⟩
 rw[← hn]
 refine aj (fun c=>?_) (fun c=>?_)
 ·have c:0≤n:=c
  rw[bj c]
  exact .done ⟨rfl,rfl⟩
 ·have c:¬0≤n:=c
  rw[cy c]
  exact .done ⟨rfl,rfl⟩
theorem aaV(l:List Int)(x:Int)(σ:Hp)(hl:l.length≤1000000):ACalls Tryz.prog 329 [.af (.int .u64) l,.int .u64 x] σ (fun r σ'=>∃n:Int,r=.int .i64 n∧σ'=σ∧decide (0≤n)=l.any fun z=>decide (x=z)):=by
 refine au Tryz.func329 ?_
 refine bh (S:=Nat) (fun s=>[(0,.af (.int .u64) l),(1,.int .u64 x),(7,.int .i64 l.length),(8,.int .i64 s)]) (fun _=>σ) (fun s=>s≤l.length∧((l.take s).any fun z=>decide (x=z))=false) (fun s=>l.length-s) 0 ⟨⟨aY _,rfl⟩,⟨rfl,rfl,rfl,rfl,trivial⟩,rfl⟩ ?_
 rintro k t ⟨aO,fF⟩
 have hk:k≤l.length:=aO
 have hn:((l.take k).any fun z=>decide (x=z))=false:=fF
 clear aO fF
 refine aj (fun ab=>?_) (fun aq=>?_)
 ·have ab:k<l.length:=by have ab:(k:Int)<l.length:=ab;omega
  have hs:=mQ ab fun z=>decide (x=z)
  rw[hn,mj]at hs
  refine aw.mk rfl (aX.mk l[k] (by omega) (get_some ab) ?_)
  refine aj (fun c=>?_) (fun c=>?_)
  ·have c:x=l[k]:=c
   have hp:(l.any fun z=>decide (x=z))=true:=kv.2 ⟨l[k],cq ab,bj c⟩
   exact .done ⟨_,rfl,rfl,by rw[hp];exact bj (by omega)⟩
  ·have c:¬x=l[k]:=c
   exact aM (k+1) (by show l.length-(k+1)<l.length-k;omega) ⟨ab,hs.trans (cy c)⟩ ⟨rfl,rfl,rfl,aL (by omega),trivial⟩ (.refl _)
 ·have aq:k=l.length:=by have aq:¬(k:Int)<l.length:=aq;omega
  subst aq
  rw[dW]at hn
  exact .done ⟨_,rfl,rfl,by rw[hn];rfl⟩
theorem VM(l:List Int)(x:Int)(σ:Hp)(hl:l.length≤1000000):ACalls Tryz.prog 301 [.af (.int .u64) l,.int .u64 x] σ (aD (.bool (l.any fun z=>decide (x=z))) σ):=by
 refine au Tryz.func301 ?_
 refine .mk [] _ (aaV l x _ hl) ?_
 rintro _ _ ⟨n,rfl,rfl,hn⟩
 rw[← hn]
 refine aj (fun c=>?_) (fun c=>?_)
 ·have c:0≤n:=c
  rw[bj c]
  exact .done ⟨rfl,rfl⟩
 ·have c:¬0≤n:=c
  rw[cy c]
  exact .done ⟨rfl,rfl⟩
def dp(ai width:Int):Bool:=decide (1≤ai)&&decide (ai≤3)&&decide (0≤width)&&decide (width≤1024)
theorem Cu(ai width:Int)(σ:Hp):ACalls Tryz.prog 112 [.int .i64 ai,.int .i64 width] σ (aD (.bool (dp ai width)) σ):=by
 refine au Tryz.func112 ?_
 refine aj (fun c1=>?_) (fun c1=>?_)
 ·have c1:1≤ai:=c1
  refine aj (fun c2=>?_) (fun c2=>?_)
  ·have c2:ai≤3:=c2
   refine aj (fun c3=>?_) (fun c3=>?_)
   ·have c3:0≤width:=c3
    refine aj (fun c4=>?_) (fun c4=>?_)
    ·have c4:width≤1024:=c4
     exact .done ⟨cd (by first | (simp_all [dp];done) | (simp_all [dp];intros;omega)),rfl⟩
    ·have c4:¬(width≤1024):=c4
     exact .done ⟨cd (by first | (simp_all [dp];done) | (simp_all [dp];intros;omega)),rfl⟩
   ·have c3:¬(0≤width):=c3
    exact .done ⟨cd (by first | (simp_all [dp];done) | (simp_all [dp];intros;omega)),rfl⟩
  ·have c2:¬(ai≤3):=c2
   exact .done ⟨cd (by first | (simp_all [dp];done) | (simp_all [dp];intros;omega)),rfl⟩
 ·have c1:¬(1≤ai):=c1
  exact .done ⟨cd (by first | (simp_all [dp];done) | (simp_all [dp];intros;omega)),rfl⟩
theorem Ga(ai width:Int)(σ:Hp):ACalls Tryz.prog 152 [.int .i64 ai,.int .i64 width] σ (aD (.bool (dp ai width)) σ):=by
 refine au Tryz.func152 ?_
 have hk:∀w:Int,(1≤w∧w≤3)↔(w=1∨w=2∨w=3):=fun w=>by omega
 have hI:dp ai width=(decide (ai=1∨ai=2∨ai=3)&&decide (0≤width)&&decide (width≤1024)):=by
  unfold dp
  rw[← Bool.decide_and,decide_eq_decide.2 (hk ai)]
 rw[hI]
 refine aj (fun c1=>?_) (fun c1=>?_)
 ·have c1:ai=1:=c1
  have hw:(ai=1∨ai=2∨ai=3):=.inl c1
  refine aj (fun d1=>?_) (fun d1=>?_)
  ·have d1:0≤width:=d1
   refine aj (fun d2=>?_) (fun d2=>?_)
   ·have d2:width≤1024:=d2
    rw[bj hw,bj d1,bj d2]
    exact .done ⟨rfl,rfl⟩
   ·have d2:¬width≤1024:=d2
    rw[bj hw,bj d1,cy d2]
    exact .done ⟨rfl,rfl⟩
  ·have d1:¬0≤width:=d1
   rw[bj hw,cy d1]
   exact .done ⟨rfl,rfl⟩
 ·have c1:¬ai=1:=c1
  refine aj (fun c2=>?_) (fun c2=>?_)
  ·have c2:ai=2:=c2
   have hw:(ai=1∨ai=2∨ai=3):=.inr (.inl c2)
   refine aj (fun d1=>?_) (fun d1=>?_)
   ·have d1:0≤width:=d1
    refine aj (fun d2=>?_) (fun d2=>?_)
    ·have d2:width≤1024:=d2
     rw[bj hw,bj d1,bj d2]
     exact .done ⟨rfl,rfl⟩
    ·have d2:¬width≤1024:=d2
     rw[bj hw,bj d1,cy d2]
     exact .done ⟨rfl,rfl⟩
   ·have d1:¬0≤width:=d1
    rw[bj hw,cy d1]
    exact .done ⟨rfl,rfl⟩
  ·have c2:¬ai=2:=c2
   refine aj (fun c3=>?_) (fun c3=>?_)
   ·have c3:ai=3:=c3
    have hw:(ai=1∨ai=2∨ai=3):=.inr (.inr c3)
    refine aj (fun d1=>?_) (fun d1=>?_)
    ·have d1:0≤width:=d1
     refine aj (fun d2=>?_) (fun d2=>?_)
     ·have d2:width≤1024:=d2
      rw[bj hw,bj d1,bj d2]
      exact .done ⟨rfl,rfl⟩
     ·have d2:¬width≤1024:=d2
      rw[bj hw,bj d1,cy d2]
      exact .done ⟨rfl,rfl⟩
    ·have d1:¬0≤width:=d1
     rw[bj hw,cy d1]
     exact .done ⟨rfl,rfl⟩
   ·have c3:¬ai=3:=c3
    rw[cy (p:=ai=1∨ai=2∨ai=3) (fun h=>h.elim c1 fun h=>h.elim c2 c3)]
    exact .done ⟨rfl,rfl⟩
def ej(ai width:Int):Int:=if dp ai width=true then (if ai=3 then width else (dK width:Int)) else 0
theorem ET(ai width:Int)(σ:Hp):ACalls Tryz.prog 85 [.int .i64 ai,.int .i64 width] σ (aD (.int .i64 (ej ai width)) σ):=by
 refine au Tryz.func85 ?_
 unfold ej
 refine dr [] (Ga ai width _) (fun hi=>?_) (fun hi=>?_)
 ·rw[az hi]
  have h3:(ai=1∨ai=2∨ai=3):=by unfold dp at hi;simp at hi;omega
  refine aj (fun c1=>?_) (fun c1=>?_)
  ·have c1:ai=1:=c1
   rw[aA (by omega)]
   refine ar [] (ES width _) ?_
   exact .done ⟨rfl,rfl⟩
  ·have c1:¬ai=1:=c1
   refine aj (fun c2=>?_) (fun c2=>?_)
   ·have c2:ai=2:=c2
    rw[aA (by omega)]
    refine ar [] (ES width _) ?_
    exact .done ⟨rfl,rfl⟩
   ·have c2:¬ai=2:=c2
    rw[az (by omega)]
    exact .done ⟨rfl,rfl⟩
 ·rw[aA (by rw[hi];decide)]
  exact .done ⟨rfl,rfl⟩
theorem Ia(ai width:Int)(σ:Hp):ACalls Tryz.prog 57 [.int .i64 ai,.int .i64 width] σ (aD (.int .i64 (ej ai width)) σ):=by
 refine au Tryz.func57 ?_
 unfold ej
 refine dr [] (Cu ai width _) (fun hi=>?_) (fun hi=>?_)
 ·rw[az hi]
  refine aj (fun c1=>?_) (fun c1=>?_)
  ·have c1:ai=3:=c1
   rw[az c1]
   exact .done ⟨rfl,rfl⟩
  ·have c1:¬ai=3:=c1
   rw[aA c1]
   refine ar [] (Jg width _) ?_
   exact .done ⟨rfl,rfl⟩
 ·rw[aA (by rw[hi];decide)]
  exact .done ⟨rfl,rfl⟩
theorem xf(ai width:Int):0≤ej ai width∧ej ai width≤1024:=by
 unfold ej
 by_cases h:dp ai width=true
 ·rw[az h]
  have:=xj width
  unfold dp at h;simp at h
  split <;> omega
 ·rw[aA h];omega
def okW(a:List Int):Bool:=a.all fun z=>decide (aS z=z)
def fO(ai w:Int)(a:List Int):Bool:=dp ai w&&decide ((a.length:Int)=ej ai w)&&(if ai=3 then okW a else fW a w)
theorem Z0(w:Int):(eA w||decide (w=0)||decide (w=1))=decide (aS w=w):=by
 unfold aS
 by_cases h0:w=0
 ·simp[h0]
 ·by_cases h1:w=1
  ·simp[h1]
  ·cases h2:eA w with
   |true=>simp[h0,h1]
   |false=>simp[h0,h1];exact fun h=>h1 h.symm
theorem aey(z:Int)(σ:Hp):ACalls Tryz.prog 201 [.int .u64 z] σ (aD (.bool (!decide (aS z=z))) σ):=by
 refine au Tryz.func201 ?_
 refine ar [] (aIs z _) ?_
 rw[Z0]
 exact .done ⟨rfl,rfl⟩
theorem ZS(a:List Int):(!a.any fun z=> !decide (aS z=z))=okW a:=by
 unfold okW
 rw[List.all_eq_not_any_not]
theorem Gb(ai w:Int)(a:List Int)(σ:Hp)(ha:bX a)(hl:a.length≤1000000):ACalls Tryz.prog 148 [.int .i64 ai,.int .i64 w,.af (.int .u64) a] σ (aD (.bool (fO ai w a)) σ):=by
 refine au Tryz.func148 ?_
 have qL:=xf ai w
 unfold fO
 refine dr [] (Ga ai w _) (fun hi=>?_) (fun hi=>?_)
 ·refine ar [] (ET ai w _) ?_
  refine cQ (fun c=>?_) (fun c=>?_)
  ·have c:(!decide ((a.length:Int)=ej ai w))=true:=c
   have c:¬((a.length:Int)=ej ai w):=by simpa using c
   rw[hi,cy c]
   exact .done ⟨rfl,rfl⟩
  ·have c:(!decide ((a.length:Int)=ej ai w))=false:=c
   have c:(a.length:Int)=ej ai w:=by simpa using c
   rw[hi,bj c]
   refine cQ (fun c3=>?_) (fun c3=>?_)
   ·have c3:¬(ai=3):=by simpa using c3
    rw[aA c3]
    refine ar [] (Bt a w _ ha (by omega)) ?_
    exact .done ⟨rfl,rfl⟩
   ·have c3:ai=3:=by simpa using c3
    rw[az c3,← ZS]
    refine ar [] (VK 201 [] a (fun z:Int=> !decide (aS z=z)) _ hl (fun i hi=>aey _ _)) ?_
    exact .done ⟨rfl,rfl⟩
 ·rw[hi]
  exact .done ⟨rfl,rfl⟩
theorem YS(ai w:Int)(a:List Int)(σ:Hp)(ha:bX a):ACalls Tryz.prog 68 [.int .i64 ai,.int .i64 w,.af (.int .u64) a] σ (aD (.bool (fO ai w a)) σ):=by
 refine au Tryz.func68 ?_
 have qL:=xf ai w
 unfold fO
 refine dr [] (Cu ai w _) (fun hi=>?_) (fun hi=>?_)
 ·refine ar [] (Ia ai w _) ?_
  refine cQ (fun c=>?_) (fun c=>?_)
  ·have c:(!decide ((a.length:Int)=ej ai w))=true:=c
   have c:¬((a.length:Int)=ej ai w):=by simpa using c
   rw[hi,cy c]
   exact .done ⟨rfl,rfl⟩
  ·have c:(!decide ((a.length:Int)=ej ai w))=false:=c
   have c:(a.length:Int)=ej ai w:=by simpa using c
   rw[hi,bj c]
   refine cQ (fun c3=>?_) (fun c3=>?_)
   ·have c3:¬(ai=3):=by simpa using c3
    rw[aA c3]
    refine ar [] (Jm a w _ ha) ?_
    exact .done ⟨rfl,rfl⟩
   ·have c3:ai=3:=by simpa using c3
    rw[az c3]
    unfold okW
    refine bh (S:=Nat) (fun k=>[(26,.af (.int .u64) a),(27,.int .i64 a.length),(28,.int .i64 k)]) (fun _=>σ) (fun k=>k≤a.length∧((a.take k).all fun z=>decide (aS z=z))=true) (fun k=>a.length-k) 0 ⟨⟨aY _,rfl⟩,⟨rfl,rfl,rfl,trivial⟩,rfl⟩ ?_
    rintro k g ⟨aO,Si⟩
    have hk:k≤a.length:=aO
    have bQ:((a.take k).all fun z=>decide (aS z=z))=true:=Si
    clear aO Si
    refine aj (fun ab=>?_) (fun aq=>?_)
    ·have ab:k<a.length:=by have ab:(k:Int)<a.length:=ab;omega
     have hz:=ha _ (cq ab)
     refine aw.mk rfl (aX.mk a[k] (by omega) (get_some ab) ?_)
     refine ar [] (BD _ _ hz.1 hz.2) ?_
     refine cQ (fun c1=>?_) (fun c1=>?_)
     ·have c1:¬(aS a[k]=a[k]):=by simpa using c1
      have:(a.all fun z=>decide (aS z=z))=false:=by
       rw[List.all_eq_false]
       exact⟨a[k],List.getElem_mem ab,by simpa using c1⟩
      rw[this]
      exact .done ⟨rfl,rfl⟩
     ·have c1:aS a[k]=a[k]:=by simpa using c1
      refine aM (k+1) (by show a.length-(k+1)<a.length-k;omega) ⟨ab,?_⟩ ⟨rfl,rfl,aL (by omega),trivial⟩ (aN rfl)
      rw[eT ab,tb,bQ]
      simp[c1]
    ·have aq:k=a.length:=by have aq:¬(k:Int)<a.length:=aq;omega
     rw[aq,dW]at bQ
     rw[bQ]
     exact .done ⟨rfl,rfl⟩
 ·rw[hi]
  exact .done ⟨rfl,rfl⟩
theorem EA{ai w:Int}{a:List Int}(h:fO ai w a=true):(a.length:Int)=ej ai w:=by
 unfold fO at h;simp at h;exact h.1.2
def rN(e:Int)(l:List Int):List Int:=if e=0 then l else []
theorem Bl{e:Int}{l:List Int}(h:e=0):rN e l=l:=az h
theorem EJ{e:Int}{l:List Int}(h:¬e=0):rN e l=[]:=aA h
theorem Yn{R:AV→Hp→Prop}(fr:Hp){acc σ:Hp}{s:Sh}{k:Nat}{v y:AV}{cs:List AV}{l:List s.T}(h:Acc s.size k v acc cs)(hl:k=l.length)(hc:cs=l.flatMap s.cells)(hp:0<s.size)(go:Fin R (.tup [.af s l,y]) (fr++σ)):Fin R (.tup [v,y]) (fr++(acc++σ)):=by
 subst hl
 have hlen:=h.length
 refine .perm (ez fr acc σ) ?_
 generalize hk:l.length=k at h
 cases h with
 |nil=>
  obtain rfl:=jm.1 hk
  exact .nil (cc (.nil _) (.refl _)) go
 |ah b k cs h=>
  subst hk
  exact .cH 0 b 0 l.length s.size cs s l rfl (by rw[fG,dN (by omega)];exact hc) ⟨rfl,rfl,hp⟩ (cc .here (.refl _)) go
def kP(ai w:Int):List Int:=if ai=2∧dp ai w=true then fC w else List.replicate (ej ai w).toNat 0
theorem Iy(ai w:Int)(σ:Hp):ACalls Tryz.prog 149 [.int .i64 ai,.int .i64 w] σ (aD (.af (.int .u64) (kP ai w)) σ):=by
 refine au Tryz.func149 ?_
 have hw:=xf ai w
 have hz:kP ai w=List.replicate (ej ai w).toNat 0→∀q,Fin (aD (.af (.int .u64) (kP ai w)) σ) (.ah q 0 (ej ai w).toNat 1) ((q,cN [.int .u64 0] (ej ai w).toNat)::σ):=fun hb q=>by
  rw[tw,← hb]
  have hl:(kP ai w).length=(ej ai w).toNat:=by rw[hb,gY]
  generalize kP ai w=Z at hl
  refine .cH 0 q 0 _ 1 _ (.int .u64) Z rfl ?_ ⟨hl,rfl,by decide⟩ .here (.done ⟨rfl,rfl⟩)
  rw[fG,← jK]
  exact dN (by rw[aP,cm,hl];omega)
 refine aj (fun c=>?_) (fun c=>?_)
 ·have c:ai=2:=c
  refine dr [] (Ga ai w _) (fun hi=>?_) (fun hi=>?_)
  ·refine ar [] (SB w _) ?_
   have hb:kP ai w=fC w:=az ⟨c,hi⟩
   rw[hb]
   exact .done ⟨rfl,rfl⟩
  ·refine ar [] (ET ai w _) ?_
   refine bg ?_
   intro q
   exact hz (aA fun h=>Bool.noConfusion (hi.symm.trans h.2)) q
 ·have c:¬ai=2:=c
  refine ar [] (ET ai w _) ?_
  refine bg ?_
  intro q
  exact hz (aA fun h=>c h.1) q
def KR(x y:Int):Bool:=decide (x=aI x)&&decide (y=aI y)
def oM(w:Int)(r:n5):Bool:=if r.1 = -1 then KR r.2.1.1 r.2.1.2.1 else decide (0≤r.1)&&decide (r.1<w)&&(decide (r.2.1.1=0)&&decide (r.2.1.2.1=0))
theorem Hd(x y:Int):gl (rn (nC x y) (nC 0 0))=(decide (x=0)&&decide (y=0)):=by
 show (decide (x=0)&&(decide (y=0)&&true))=_
 rw[Dm]
theorem Sv(w:Int)(r:n5)(σ:Hp):ACalls Tryz.prog 254 [.int .i64 w,.agg (zy r)] σ (aD (.bool (oM w r)) σ):=by
 obtain⟨v,⟨x,y,u⟩,u2⟩:=r
 refine au Tryz.func254 ?_
 unfold oM
 show sB Tryz.prog tt _ [.int .i64 w,.agg [.int .i64 v,.int .i64 x,.int .i64 y]] σ (aD (.bool (if v = -1 then KR x y else decide (0≤v)&&decide (v<w)&&(decide (x=0)&&decide (y=0)))) σ)
 intro aB
 refine aa 0 ?_
 refine aj (fun c2=>?_) (fun c2=>?_)
 ·have c2:v = -1:=c2
  refine aa 0 ?_
  refine ar [] (aef _ _ _) ?_
  exact .drop 0 1 (.done ⟨cd (by rw[az c2];rfl),rfl⟩)
 ·have c2:¬(v = -1):=c2
  refine aa 0 ?_
  refine aj (fun c3=>?_) (fun c3=>?_)
  ·have c3:0≤v:=c3
   refine aa 0 ?_
   refine aj (fun c4=>?_) (fun c4=>?_)
   ·have c4:v<w:=c4
    refine aa 0 ?_
    refine EqAt.mk (by kernel_rfl) (by kernel_rfl) ?_
    refine cQ (fun c5=>?_) (fun c5=>?_)
    ·have c5:=(Hd x y).symm.trans c5
     exact .drop 0 1 (.done ⟨cd (by rw[aA c2,bj c3,bj c4,c5];rfl),rfl⟩)
    ·have c5:=(Hd x y).symm.trans c5
     exact .drop 0 1 (.done ⟨cd (by rw[aA c2,bj c3,bj c4,c5];rfl),rfl⟩)
   ·have c4:¬(v<w):=c4
    exact .drop 0 1 (.done ⟨cd (by rw[aA c2,bj c3,cy c4];rfl),rfl⟩)
  ·have c3:¬(0≤v):=c3
   exact .drop 0 1 (.done ⟨cd (by rw[aA c2,cy c3];rfl),rfl⟩)
theorem eqN(x y z w:Int):gl (rn (nC x y) (nC z w))=(decide (x=z)&&decide (y=w)):=by
 show (decide (x=z)&&(decide (y=w)&&true))=_
 rw[Dm]
theorem RA(w:Int)(r:n5)(σ:Hp):ACalls Tryz.prog 164 [.int .i64 w,.agg (zy r)] σ (aD (.bool (oM w r)) σ):=by
 obtain⟨v,⟨x,y,u⟩,u2⟩:=r
 refine au Tryz.func164 ?_
 unfold oM
 show sB Tryz.prog tt _ [.int .i64 w,.agg [.int .i64 v,.int .i64 x,.int .i64 y]] σ (aD (.bool (if v = -1 then KR x y else decide (0≤v)&&decide (v<w)&&(decide (x=0)&&decide (y=0)))) σ)
 intro aB
 refine aa 0 ?_
 refine aj (fun c2=>?_) (fun c2=>?_)
 ·have c2:v = -1:=c2
  refine .quiet (by kernel_rfl) ?_
  refine aa 0 ?_
  refine aa 0 ?_
  refine aa 0 ?_
  refine aK [] (tV _ _ _) ?_
  refine EqAt.mk (by kernel_rfl) (by kernel_rfl) ?_
  refine cQ (fun c3=>?_) (fun c3=>?_)
  ·have c3:=(eqN x y (aI x) (aI y)).symm.trans c3
   exact .drop 0 1 (.done ⟨cd (by rw[az c2];exact c3.symm),rfl⟩)
  ·have c3:=(eqN x y (aI x) (aI y)).symm.trans c3
   exact .drop 0 1 (.done ⟨cd (by rw[az c2];exact c3.symm),rfl⟩)
 ·have c2:¬(v = -1):=c2
  refine aa 0 ?_
  refine aj (fun c4=>?_) (fun c4=>?_)
  ·have c4:0≤v:=c4
   refine aa 0 ?_
   refine aj (fun c5=>?_) (fun c5=>?_)
   ·have c5:v<w:=c5
    refine aa 0 ?_
    refine EqAt.mk (by kernel_rfl) (by kernel_rfl) ?_
    refine cQ (fun c6=>?_) (fun c6=>?_)
    ·have c6:=(Hd x y).symm.trans c6
     exact .drop 0 1 (.done ⟨cd (by rw[aA c2,bj c4,bj c5,c6];rfl),rfl⟩)
    ·have c6:=(Hd x y).symm.trans c6
     exact .drop 0 1 (.done ⟨cd (by rw[aA c2,bj c4,bj c5,c6];rfl),rfl⟩)
   ·have c5:¬(v<w):=c5
    exact .drop 0 1 (.done ⟨cd (by rw[aA c2,bj c4,cy c5];rfl),rfl⟩)
  ·have c4:¬(0≤v):=c4
   exact .drop 0 1 (.done ⟨cd (by rw[aA c2,cy c4];rfl),rfl⟩)
def ry(r:n5):Bool:=decide (r.1=0)&&(decide (r.2.1.1=0)&&decide (r.2.1.2.1=0))
theorem wX(r:n5):gl (rn (zy r) [.int .i64 0,.int .i64 0,.int .i64 0])=ry r:=by
 show (decide (r.1=0)&&(decide (r.2.1.1=0)&&(decide (r.2.1.2.1=0)&&true)))=_
 rw[Dm];rfl
def ep(w:Int)(c:dD):Bool:=if c.1<0 then false else if w≤c.1 then false else if c.2.1 < -1 then false else if 4<c.2.1 then false else if c.2.1 = -1 then ry c.2.2.1&&ry c.2.2.2.1 else oM w c.2.2.1&&oM w c.2.2.2.1
theorem abP(w:Int)(c:dD)(σ:Hp):ACalls Tryz.prog 209 [.int .i64 w,.agg (Sl c)] σ (aD (.bool (ep w c)) σ):=by
 refine au Tryz.func209 ?_
 intro aB
 refine aa 0 ?_
 refine aj (fun c2=>?_) (fun c2=>?_)
 ·have c2:c.fst<0:=c2
  exact .drop 0 1 (.done ⟨cd (by simp[ep, *]),rfl⟩)
 ·have c2:¬(c.fst<0):=c2
  refine aa 0 ?_
  refine aj (fun c3=>?_) (fun c3=>?_)
  ·have c3:w≤c.fst:=c3
   exact .drop 0 1 (.done ⟨cd (by simp[ep, *]),rfl⟩)
  ·have c3:¬(w≤c.fst):=c3
   refine aa 0 ?_
   refine aj (fun c4=>?_) (fun c4=>?_)
   ·have c4:c.snd.fst < -1:=c4
    exact .drop 0 1 (.done ⟨cd (by simp[ep, *]),rfl⟩)
   ·have c4:¬(c.snd.fst < -1):=c4
    refine aa 0 ?_
    refine aj (fun c5=>?_) (fun c5=>?_)
    ·have c5:4<c.snd.fst:=c5
     exact .drop 0 1 (.done ⟨cd (by simp[ep, *]),rfl⟩)
    ·have c5:¬(4<c.snd.fst):=c5
     refine aa 0 ?_
     refine aj (fun c6=>?_) (fun c6=>?_)
     ·have c6:c.snd.fst = -1:=c6
      refine aa 0 ?_
      refine EqAt.mk (by kernel_rfl) (by kernel_rfl) ?_
      refine cQ (fun c7=>?_) (fun c7=>?_)
      ·have c7:=(wX c.2.2.1).symm.trans c7
       refine aa 0 ?_
       refine EqAt.mk (by kernel_rfl) (by kernel_rfl) ?_
       refine cQ (fun c8=>?_) (fun c8=>?_)
       ·have c8:=(wX c.2.2.2.1).symm.trans c8
        exact .drop 0 1 (.done ⟨cd (by simp[ep, *]),rfl⟩)
       ·have c8:=(wX c.2.2.2.1).symm.trans c8
        exact .drop 0 1 (.done ⟨cd (by simp[ep, *]),rfl⟩)
      ·have c7:=(wX c.2.2.1).symm.trans c7
       exact .drop 0 1 (.done ⟨cd (by simp[ep, *]),rfl⟩)
     ·have c6:¬(c.snd.fst = -1):=c6
      refine aa 0 ?_
      refine dr [] (Sv w c.2.2.1 _) (fun cA=>?_) (fun cA=>?_)
      ·refine aa 0 ?_
       refine dr [] (Sv w c.2.2.2.1 _) (fun cB=>?_) (fun cB=>?_)
       ·exact .drop 0 1 (.done ⟨cd (by simp[ep, *]),rfl⟩)
       ·exact .drop 0 1 (.done ⟨cd (by simp[ep, *]),rfl⟩)
      ·exact .drop 0 1 (.done ⟨cd (by simp[ep, *]),rfl⟩)
abbrev jL:Sh:=.field (.slice (.int .u64)) (.field (.slice (.int .u64)) (.field (.slice iU) .nil))
abbrev we(g k:List Int)(l:List dD):List AV:=[.af (.int .u64) g,.af (.int .u64) k,.af iU l]
theorem Ze(w:Int)(c:dD)(q:Nat)(σ:Hp):ACalls Tryz.prog 208 [Fs c,.ptr q 0] ((q,[.int .i64 w])::σ) (aD (.bool (!ep w c)) ((q,[.int .i64 w])::σ)):=by
 refine au Tryz.func208 ?_
 unfold Fs
 intro aB
 refine aa 1 ?_
 refine aa 0 ?_
 refine ar [] (abP w c _) ?_
 exact .drop 0 1 (.done ⟨rfl,rfl⟩)
def vO(ai w:Int)(g k:List Int)(l:List dD):Bool:=if ai=3 then decide (g.length+k.length=0)&&(l.all (ep w)) else decide (l.length=0)&&fW g w&&fW k w
def fA(ai w:Int)(g k:List Int)(l:List dD):Int:=if dp ai w=true then (if vO ai w g k l=true then 0 else 2) else 10
theorem ER{α:Type}(l:List α){p:α→Bool}:l.all p = !l.any fun c=> !p c:=List.all_eq_not_any_not ..
theorem Sq{w:Int}(l:List dD){b:Bool}(h:(l.any fun c=> !ep w c)=b):l.all (ep w) = !b:=by rw[ER,h]
theorem Cn{ai w:Int}{g k:List Int}{l:List dD}(hi:dp ai w=true)(ht:vO ai w g k l=true):0=fA ai w g k l:=by unfold fA;rw[az hi,az ht]
theorem kl{ai w:Int}{g k:List Int}{l:List dD}(hi:dp ai w=true)(ht:vO ai w g k l=false):2=fA ai w g k l:=by unfold fA;rw[az hi,ht];rfl
theorem Fu{ai w:Int}{g k:List Int}{l:List dD}(hi:dp ai w=false):10=fA ai w g k l:=by unfold fA;rw[hi];rfl
theorem pP{ai w:Int}{g k:List Int}{l:List dD}(h:¬ai=3):vO ai w g k l=(decide (l.length=0)&&fW g w&&fW k w):=aA h
theorem uj{ai w:Int}{g k:List Int}{l:List dD}(h:ai=3):vO ai w g k l=(decide (g.length+k.length=0)&&(l.all (ep w))):=az h
theorem qv{ai w:Int}(h:1≤ai∧ai≤3∧0≤w∧w≤1024):dp ai w=true:=by unfold dp;simp;omega
theorem JE{ai w:Int}(h:¬(1≤ai∧ai≤3∧0≤w∧w≤1024)):dp ai w=false:=by unfold dp;simp;omega
theorem IZ(ai w:Int)(g k:List Int)(l:List dD)(σ:Hp)(hg:bX g)(hk:bX k)(lg:g.length≤10000)(lk:k.length≤10000)(ll:l.length≤1000000):ACalls Tryz.prog 151 [.int .i64 ai,.int .i64 w,.agg (we g k l)] σ (aD (.int .i64 (fA ai w g k l)) σ):=by
 refine au Tryz.func151 ?_
 intro aB
 intro cE
 refine aa 1 ?_
 refine aj (fun c3=>?_) (fun c3=>?_)
 ·have c3:w<0:=c3
  exact .drop 0 2 (.done ⟨aR (Fu (JE (by omega))),rfl⟩)
 ·have c3:¬(w<0):=c3
  refine aa 1 ?_
  refine aj (fun c4=>?_) (fun c4=>?_)
  ·have c4:1024<w:=c4
   exact .drop 0 2 (.done ⟨aR (Fu (JE (by omega))),rfl⟩)
  ·have c4:¬(1024<w):=c4
   refine aj (fun c5=>?_) (fun c5=>?_)
   ·have c5:ai=1:=c5
    refine aa 0 ?_
    refine aa 1 ?_
    refine dr [] (Bt g w _ hg lg) (fun cG=>?_) (fun cG=>?_)
    ·refine aa 0 ?_
     refine aa 1 ?_
     refine dr [] (Bt k w _ hk lk) (fun cK=>?_) (fun cK=>?_)
     ·refine aa 0 ?_
      refine aj (fun c6=>?_) (fun c6=>?_)
      ·have c6:(↑l.length:Int)=0:=c6
       have gD:decide (l.length=0)=true:=bj (by have h0:(l.length:Int)=0:=c6;omega)
       exact .drop 0 2 (.done ⟨aR (Cn (qv (by omega)) (by rw[pP (by omega),gD,cG,cK];rfl)),rfl⟩)
      ·have c6:¬((↑l.length:Int)=0):=c6
       have gD:decide (l.length=0)=false:=cy (by have h0:¬(l.length:Int)=0:=c6;omega)
       exact .drop 0 2 (.done ⟨aR (kl (qv (by omega)) (by rw[pP (by omega),gD];rfl)),rfl⟩)
     ·exact .drop 0 2 (.done ⟨aR (kl (qv (by omega)) (by rw[pP (by omega),cK];simp)),rfl⟩)
    ·exact .drop 0 2 (.done ⟨aR (kl (qv (by omega)) (by rw[pP (by omega),cG];simp)),rfl⟩)
   ·have c5:¬(ai=1):=c5
    refine aj (fun c7=>?_) (fun c7=>?_)
    ·have c7:ai=2:=c7
     refine aa 0 ?_
     refine aa 1 ?_
     refine dr [] (Bt g w _ hg lg) (fun cG=>?_) (fun cG=>?_)
     ·refine aa 0 ?_
      refine aa 1 ?_
      refine dr [] (Bt k w _ hk lk) (fun cK=>?_) (fun cK=>?_)
      ·refine aa 0 ?_
       refine aj (fun c8=>?_) (fun c8=>?_)
       ·have c8:(↑l.length:Int)=0:=c8
        have gD:decide (l.length=0)=true:=bj (by have h0:(l.length:Int)=0:=c8;omega)
        exact .drop 0 2 (.done ⟨aR (Cn (qv (by omega)) (by rw[pP (by omega),gD,cG,cK];rfl)),rfl⟩)
       ·have c8:¬((↑l.length:Int)=0):=c8
        have gD:decide (l.length=0)=false:=cy (by have h0:¬(l.length:Int)=0:=c8;omega)
        exact .drop 0 2 (.done ⟨aR (kl (qv (by omega)) (by rw[pP (by omega),gD];rfl)),rfl⟩)
      ·exact .drop 0 2 (.done ⟨aR (kl (qv (by omega)) (by rw[pP (by omega),cK];simp)),rfl⟩)
     ·exact .drop 0 2 (.done ⟨aR (kl (qv (by omega)) (by rw[pP (by omega),cG];simp)),rfl⟩)
    ·have c7:¬(ai=2):=c7
     refine aj (fun c9=>?_) (fun c9=>?_)
     ·have c9:ai=3:=c9
      refine aa 0 ?_
      refine aa 0 ?_
      refine aj (fun jX=>?_) (fun jX=>?_)
      ·have jX:IntKind.i64.wrap ((↑g.length:Int)+(↑k.length:Int))=0:=jX
       refine aa 0 ?_
       rw[fP (by omega)]at jX
       refine dr [1] (VN 208 [.ptr aB 0] l (fun c=> !ep w c) _ ll (fun i hi=>Ze w l[i] aB _)) (fun cL=>?_) (fun cL=>?_)
       ·exact .drop 0 2 (.done ⟨aR (kl (qv (by omega)) (by rw[uj c9,Sq l cL];simp)),rfl⟩)
       ·exact .drop 0 2 (.done ⟨aR (Cn (qv (by omega)) (by rw[uj c9,Sq l cL,bj (by omega)];rfl)),rfl⟩)
      ·have jX:¬(IntKind.i64.wrap ((↑g.length:Int)+(↑k.length:Int))=0):=jX
       exact .drop 0 2 (.done ⟨aR (kl (qv (by omega)) (by rw[fP (by omega)]at jX;rw[uj c9,cy (by omega)];rfl)),rfl⟩)
     ·have c9:¬(ai=3):=c9
      exact .drop 0 2 (.done ⟨aR (Fu (JE (by omega))),rfl⟩)
theorem YN(ai w:Int)(g k:List Int)(l:List dD)(σ:Hp)(hg:bX g)(hk:bX k)(lg:g.length≤10000)(lk:k.length≤10000)(ll:l.length≤1000000):ACalls Tryz.prog 114 [.int .i64 ai,.int .i64 w,.agg (we g k l)] σ (aD (.int .i64 (fA ai w g k l)) σ):=by
 refine au Tryz.func114 ?_
 intro aB
 refine dr [] (Cu ai w _) (fun hi=>?_) (fun hi=>?_)
 ·refine cQ (fun c2=>?_) (fun c2=>?_)
  ·have c2:¬(ai=3):=by simpa using c2
   refine aa 0 ?_
   refine aj (fun c3=>?_) (fun c3=>?_)
   ·have c3:0<(↑l.length:Int):=c3
    exact .drop 0 1 (.done ⟨aR (kl hi (by rw[pP c2,cy (p:=l.length=0) (by have c3:0<(l.length:Int):=c3;omega)];rfl)),rfl⟩)
   ·have c3:¬(0<(↑l.length:Int)):=c3
    refine aa 0 ?_
    refine dr [] (Jm g w _ hg) (fun cG=>?_) (fun cG=>?_)
    ·refine aa 0 ?_
     refine dr [] (Jm k w _ hk) (fun cK=>?_) (fun cK=>?_)
     ·exact .drop 0 1 (.done ⟨aR (Cn hi (by rw[pP c2,cG,cK,bj (p:=l.length=0) (by have c3:¬0<(l.length:Int):=c3;omega)];rfl)),rfl⟩)
     ·exact .drop 0 1 (.done ⟨aR (kl hi (by rw[pP c2,cK];simp)),rfl⟩)
    ·exact .drop 0 1 (.done ⟨aR (kl hi (by rw[pP c2,cG];simp)),rfl⟩)
  ·have c2:ai=3:=by simpa using c2
   refine aa 0 ?_
   refine aj (fun c4=>?_) (fun c4=>?_)
   ·have c4:0<(↑g.length:Int):=c4
    exact .drop 0 1 (.done ⟨aR (kl hi (by rw[uj c2,cy (p:=g.length+k.length=0) (by have c4:0<(g.length:Int):=c4;omega)];rfl)),rfl⟩)
   ·have c4:¬(0<(↑g.length:Int)):=c4
    refine aa 0 ?_
    refine aj (fun c5=>?_) (fun c5=>?_)
    ·have c5:0<(↑k.length:Int):=c5
     exact .drop 0 1 (.done ⟨aR (kl hi (by rw[uj c2,cy (p:=g.length+k.length=0) (by have c5:0<(k.length:Int):=c5;omega)];rfl)),rfl⟩)
    ·have c5:¬(0<(↑k.length:Int)):=c5
     refine aa 0 ?_
     have hgk:g.length+k.length=0:=by
      have c4:¬0<(g.length:Int):=c4
      have c5:¬0<(k.length:Int):=c5
      omega
     refine bh (S:=Nat) (fun s=>[(1,.int .i64 w),(44,.af iU l),(45,.int .i64 l.length),(46,.int .i64 s)]) (fun _=>(aB,we g k l)::σ) (fun s=>s≤l.length∧(l.take s).all (ep w)=true) (fun s=>l.length-s) 0 ⟨⟨aY _,rfl⟩,⟨rfl,rfl,rfl,rfl,trivial⟩,rfl⟩ ?_
     rintro s t ⟨lE,fF⟩
     have hs:s≤l.length:=lE
     have hn:(l.take s).all (ep w)=true:=fF
     clear lE fF
     refine aj (fun ab=>?_) (fun aq=>?_)
     ·have ab:s<l.length:=by have ab:(s:Int)<l.length:=ab;omega
      have hb:ep w l[s]=false→vO ai w g k l=false:=fun h=>by
       rw[uj c2,show l.all (ep w)=false from List.all_eq_false.2 ⟨l[s],List.getElem_mem ab,by rw[h];decide⟩];simp
      have hy:ep w l[s]=true→(l.take (s+1)).all (ep w)=true:=fun h=>by
       rw[List.take_succ_eq_append_getElem ab,List.all_append,hn];simp[h]
      obtain⟨c,hc⟩:∃c:dD,l[s]=c:=⟨_,rfl⟩
      rw[hc]at hb hy
      refine aw.mk rfl (aX.mk c (by omega) ((get_some ab).trans (congrArg some hc)) ?_)
      clear hc
      intro cE
      refine ag 0 ?_
      refine aa 0 ?_
      refine aj (fun c1=>?_) (fun c1=>?_)
      ·have c1:c.fst<0:=c1
       exact .drop 0 2 (.done ⟨aR (kl hi (hb (by simp[ep, *]))),rfl⟩)
      ·have c1:¬(c.fst<0):=c1
       refine aa 0 ?_
       refine aj (fun c2=>?_) (fun c2=>?_)
       ·have c2:w≤c.fst:=c2
        exact .drop 0 2 (.done ⟨aR (kl hi (hb (by simp[ep, *]))),rfl⟩)
       ·have c2:¬(w≤c.fst):=c2
        refine aa 0 ?_
        refine aj (p:=c.2.1 < -1) (fun d3=>?_) (fun d3=>?_)
        ·exact .drop 0 2 (.done ⟨aR (kl hi (hb (by simp[ep, *]))),rfl⟩)
        refine aa 0 ?_
        refine aj (p:=4<c.2.1) (fun d4=>?_) (fun d4=>?_)
        ·exact .drop 0 2 (.done ⟨aR (kl hi (hb (by simp[ep, *]))),rfl⟩)
        refine aa 0 ?_
        refine aj (p:=c.2.1 = -1) (fun d5=>?_) (fun d5=>?_)
        ·refine aa 0 ?_
         refine EqAt.mk (by kernel_rfl) (by kernel_rfl) ?_
         refine cQ (fun e1=>?_) (fun e1=>?_)
         ·have e1:(!ry c.2.2.1)=true:=(congrArg (fun b=> !b) (wX c.2.2.1)).symm.trans e1
          have e1:ry c.2.2.1=false:=by simpa using e1
          exact .drop 0 2 (.done ⟨aR (kl hi (hb (by simp[ep, *]))),rfl⟩)
         ·have e1:(!ry c.2.2.1)=false:=(congrArg (fun b=> !b) (wX c.2.2.1)).symm.trans e1
          have e1:ry c.2.2.1=true:=by simpa using e1
          refine aa 0 ?_
          refine EqAt.mk (by kernel_rfl) (by kernel_rfl) ?_
          refine cQ (fun e2=>?_) (fun e2=>?_)
          ·have e2:(!ry c.2.2.2.1)=true:=(congrArg (fun b=> !b) (wX c.2.2.2.1)).symm.trans e2
           have e2:ry c.2.2.2.1=false:=by simpa using e2
           exact .drop 0 2 (.done ⟨aR (kl hi (hb (by simp[ep, *]))),rfl⟩)
          ·have e2:(!ry c.2.2.2.1)=false:=(congrArg (fun b=> !b) (wX c.2.2.2.1)).symm.trans e2
           have e2:ry c.2.2.2.1=true:=by simpa using e2
           refine aa 0 ?_
           refine aj (p:=0≤c.2.1) (fun d6=>?_) (fun d6=>?_)
           ·exact absurd d6 (by rw[d5];decide)
           ·exact aM (s+1) (by show l.length-(s+1)<l.length-s;omega) ⟨ab,hy (by first | (simp[ep, *];done) | omega)⟩ ⟨rfl,rfl,rfl,aL (by omega),trivial⟩ (.drop 0 1 (.refl _))
        ·refine aa 0 ?_
         refine aj (p:=0≤c.2.1) (fun d6=>?_) (fun d6=>?_)
         ·refine aa 0 ?_
          refine dr [] (RA w c.2.2.1 _) (fun cA=>?_) (fun cA=>?_)
          ·refine aa 0 ?_
           refine dr [] (RA w c.2.2.2.1 _) (fun cB=>?_) (fun cB=>?_)
           ·exact aM (s+1) (by show l.length-(s+1)<l.length-s;omega) ⟨ab,hy (by first | (simp[ep, *];done) | omega)⟩ ⟨rfl,rfl,rfl,aL (by omega),trivial⟩ (.drop 0 1 (.refl _))
           ·exact .drop 0 2 (.done ⟨aR (kl hi (hb (by simp[ep, *]))),rfl⟩)
          ·exact .drop 0 2 (.done ⟨aR (kl hi (hb (by simp[ep, *]))),rfl⟩)
         ·exact absurd d6 (by omega)
     ·have aq:s=l.length:=by have aq:¬(s:Int)<l.length:=aq;omega
      subst aq
      rw[dW]at hn
      exact .drop 0 1 (.done ⟨aR (Cn hi (by rw[uj c2,hn,bj hgk];rfl)),rfl⟩)
 ·exact .drop 0 1 (.done ⟨aR (Fu hi),rfl⟩)
end Go.Proofs.YtnikdflhefijbaaGreat
