import Derived.Test.YtnikdflhefijbaaGreatBn14
namespace Go.Proofs.YtnikdflhefijbaaGreat
open Go.RowKit
set_option maxRecDepth 100000
def aC(n:Int):Int:=(n+32768) % 65536-32768
theorem we(n:Int): -32768≤aC n:=by unfold aC;omega
theorem wg(n:Int):aC n≤32767:=by unfold aC;omega
theorem Pw(n:Int):(0≤n∧n.tmod 65536=n % 65536)∨(n<0∧n.tmod 65536 = -((-n) % 65536)):=by
 by_cases h:0≤n
 ·exact .inl ⟨h,sG h⟩
 ·refine .inr ⟨by omega,?_⟩
  have:=Int.neg_tmod (-n) 65536
  rw[Int.neg_neg,sG (a:= -n) (by omega)]at this
  exact this
theorem GW(n:Int)(σ:Hp):ACalls Tryz.prog 335 [.int .i64 n] σ (aE (.int .i64 (aC n)) σ):=by
 refine ay Tryz.func335 ?_
 have hc:=Pw n
 refine ag.mk (by omega) ?_
 refine an (fun h1=>?_) (fun h1=>?_)
 ·have h1:32767<n.tmod 65536:=h1
  exact .done ⟨aQ (by rw[IntKind.wrap_i64];unfold aC;omega),rfl⟩
 ·have h1:¬(32767<n.tmod 65536):=h1
  refine an (fun h2=>?_) (fun h2=>?_)
  ·have h2:n.tmod 65536 < -32768:=h2
   exact .done ⟨aQ (by rw[IntKind.wrap_i64];unfold aC;omega),rfl⟩
  ·have h2:¬(n.tmod 65536 < -32768):=h2
   exact .done ⟨aQ (by unfold aC;omega),rfl⟩
theorem TM(n:Int)(σ:Hp):ACalls Tryz.prog 261 [.int .i64 n] σ (aE (.int .i64 (aC n)) σ):=by
 refine ay Tryz.func261 ?_
 have hc:=Pw n
 have e:IntKind.i64.wrap (n.tmod 65536+98304)=n.tmod 65536+98304:=by rw[IntKind.wrap_i64];omega
 have e2:(n.tmod 65536+98304).tmod 65536=(n.tmod 65536+98304) % 65536:=sG (by omega)
 refine ag.mk (by omega) ?_
 refine ag.mk (by omega) ?_
 exact .done ⟨aQ (by rw[e,e2,IntKind.wrap_i64];unfold aC;omega),rfl⟩
abbrev nC(x y:Int):List AV:=[.int .i64 x,.int .i64 y]
theorem DC(a b:Int)(σ:Hp):ACalls Tryz.prog 309 [.int .i64 a,.int .i64 b] σ (aE (.agg (nC (aC a) (aC b))) σ):=by
 refine ay Tryz.func309 ?_
 intro b1
 refine az [] (GW _ _) ?_
 refine az [] (GW _ _) ?_
 refine ak 0 ?_
 refine aa 0 ?_
 exact .drop 0 1 (.done ⟨rfl,rfl⟩)
theorem wU(a b:Int)(σ:Hp):ACalls Tryz.prog 223 [.int .i64 a,.int .i64 b] σ (aE (.agg (nC (aC a) (aC b))) σ):=by
 refine ay Tryz.func223 ?_
 intro b1
 refine az [] (TM _ _) ?_
 refine az [] (TM _ _) ?_
 refine ak 0 ?_
 refine aa 0 ?_
 exact .drop 0 1 (.done ⟨rfl,rfl⟩)
theorem ag4(x y:Int)(σ:Hp):ACalls Tryz.prog 286 [.agg (nC x y)] σ (aE (.bool (decide (x=aC x)&&decide (y=aC y))) σ):=by
 refine ay Tryz.func286 ?_
 intro aD
 refine .quiet (by kernel_rfl) ?_
 refine aa 0 ?_
 refine aa 0 ?_
 refine aa 0 ?_
 refine aH [] (DC _ _ _) ?_
 refine EqAt.mk (by kernel_rfl) (by kernel_rfl) ?_
 have e:gq (s7 (nC x y) (nC (aC x) (aC y)))=(decide (x=aC x)&&decide (y=aC y)):=by
  show (decide (x=aC x)&&(decide (y=aC y)&&true))=_
  rw[IL]
 rw[← e]
 refine dB (fun c=>?_) (fun c=>?_)
 ·have c:gq (s7 (nC x y) (nC (aC x) (aC y)))=true:=c
  rw[c]
  exact .drop 0 1 (.done ⟨rfl,rfl⟩)
 ·have c:gq (s7 (nC x y) (nC (aC x) (aC y)))=false:=c
  rw[c]
  exact .drop 0 1 (.done ⟨rfl,rfl⟩)
theorem x4(x y:Int)(σ:Hp):ACalls Tryz.prog 364 [.agg (nC x y)] σ (aE (.fL (aC x) (aC y)) σ):=by
 have h1:=we x
 have h2:=wg x
 have h3:=we y
 have h4:=wg y
 refine ay Tryz.func364 ?_
 intro aD
 refine aa 0 ?_
 refine aa 0 ?_
 refine az [] (DC _ _ _) ?_
 refine ak 0 ?_
 refine aa 0 ?_
 refine .mk (by unfold gY;omega) ?_
 refine aa 0 ?_
 refine .mk (by unfold gY;omega) ?_
 exact .drop 0 1 (.done ⟨rfl,rfl⟩)
theorem TW{x:Int}(h:gY x):IntKind.i64.min≤x∧x≤IntKind.i64.max:=by
 unfold gY at h
 have e1:IntKind.i64.min = -9223372036854775808:=by decide
 have e2:IntKind.i64.max=9223372036854775807:=by decide
 rw[e1,e2];omega
theorem GX(x y:Int)(σ:Hp)(hx:gY x)(hy:gY y):ACalls Tryz.prog 363 [.fL x y] σ (aE (.agg (nC (aC x) (aC y))) σ):=by
 refine ay Tryz.func363 ?_
 intro aD
 refine .mk (TW hx) ?_
 refine .mk (TW hy) ?_
 refine az [] (DC _ _ _) ?_
 refine ak 0 ?_
 refine aa 0 ?_
 exact .drop 0 1 (.done ⟨rfl,rfl⟩)
theorem FF{a b:Int}(ha : -32768≤a∧a≤32768)(hb : -32768≤b∧b≤32768): -1073741824≤a*b∧a*b≤1073741824:=by
 have h1:a.natAbs*b.natAbs≤32768*32768:=tP (by omega) (by omega)
 rw[← IS]at h1
 omega
theorem CK(a b c d:Int):(-32768≤aC a∧aC a≤32767)∧(-32768≤aC b∧aC b≤32767)∧(-32768≤aC c∧aC c≤32767)∧-32768≤aC d∧aC d≤32767:=
 ⟨⟨we a,wg a⟩,⟨we b,wg b⟩,⟨we c,wg c⟩,we d,wg d⟩
theorem Vh(a b c d:Int):(-1073741824≤aC a*aC c∧aC a*aC c≤1073741824)∧(-1073741824≤aC b*aC d∧aC b*aC d≤1073741824)∧(-1073741824≤aC a*aC d∧aC a*aC d≤1073741824)∧-1073741824≤aC b*aC c∧aC b*aC c≤1073741824:=by
 have h:=CK a b c d
 exact⟨FF (by omega) (by omega),FF (by omega) (by omega),FF (by omega) (by omega),FF (by omega) (by omega)⟩
theorem af1(a b c d:Int)(σ:Hp):ACalls Tryz.prog 356 [.agg (nC a b),.agg (nC c d)] σ (aE (.agg (nC (aC (aC a+aC c)) (aC (aC b+aC d)))) σ):=by
 have hF:=CK a b c d
 refine ay Tryz.func356 ?_
 intro aD
 intro dH
 intro sJ
 refine .sched [1,3,5] (upto [1,3,5] 7 0) (by kernel_rfl) ?_
 refine aa 2 ?_
 refine aH [] (x4 _ _ _) ?_
 refine aa 1 ?_
 refine aH [] (x4 _ _ _) ?_
 refine .mk (by unfold gY;omega) ?_
 refine aH [] (GX _ _ _ (by unfold gY;omega) (by unfold gY;omega)) ?_
 refine ak 0 ?_
 refine aa 0 ?_
 exact .drop 0 3 (.done ⟨rfl,rfl⟩)
theorem aeZ(a b c d:Int)(σ:Hp):ACalls Tryz.prog 357 [.agg (nC a b),.agg (nC c d)] σ (aE (.agg (nC (aC (aC a-aC c)) (aC (aC b-aC d)))) σ):=by
 have hF:=CK a b c d
 refine ay Tryz.func357 ?_
 intro aD
 intro dH
 intro sJ
 refine .sched [1,3,5] (upto [1,3,5] 7 0) (by kernel_rfl) ?_
 refine aa 2 ?_
 refine aH [] (x4 _ _ _) ?_
 refine aa 1 ?_
 refine aH [] (x4 _ _ _) ?_
 refine .mk (by unfold gY;omega) ?_
 refine aH [] (GX _ _ _ (by unfold gY;omega) (by unfold gY;omega)) ?_
 refine ak 0 ?_
 refine aa 0 ?_
 exact .drop 0 3 (.done ⟨rfl,rfl⟩)
theorem af0(a b c d:Int)(σ:Hp):ACalls Tryz.prog 358 [.agg (nC a b),.agg (nC c d)] σ (aE (.agg (nC (aC (aC a*aC c-aC b*aC d)) (aC (aC a*aC d+aC b*aC c)))) σ):=by
 have hF:=Vh a b c d
 refine ay Tryz.func358 ?_
 intro aD
 intro dH
 intro sJ
 refine .sched [1,3,5] (upto [1,3,5] 7 0) (by kernel_rfl) ?_
 refine aa 2 ?_
 refine aH [] (x4 _ _ _) ?_
 refine aa 1 ?_
 refine aH [] (x4 _ _ _) ?_
 refine .mk (by unfold gY;omega) ?_
 refine aH [] (GX _ _ _ (by unfold gY;omega) (by unfold gY;omega)) ?_
 refine ak 0 ?_
 refine aa 0 ?_
 exact .drop 0 3 (.done ⟨rfl,rfl⟩)
theorem adU(a b:Int)(σ:Hp):ACalls Tryz.prog 359 [.agg (nC a b)] σ (aE (.agg (nC (aC (aC a)) (aC (-aC b)))) σ):=by
 have hF:=CK a b 0 0
 refine ay Tryz.func359 ?_
 intro aD
 intro dH
 refine aa 1 ?_
 refine az [] (x4 _ _ _) ?_
 refine az [] (GX _ _ _ (by unfold gY;omega) (by unfold gY;omega)) ?_
 refine ak 0 ?_
 refine aa 0 ?_
 exact .drop 0 2 (.done ⟨rfl,rfl⟩)
def iv(op a b c d:Int):Option (Int×Int):=
 if op=0 then some (aC a,aC b) else
 if op=1 then some (aC (aC a+aC c),aC (aC b+aC d)) else
 if op=2 then some (aC (aC a-aC c),aC (aC b-aC d)) else
 if op=3 then some (aC (aC a*aC c-aC b*aC d),aC (aC a*aC d+aC b*aC c)) else
 if op=4 then some (aC (aC a),aC (-aC b)) else none
def tD(r:Option (Int×Int))(ok err:AV):AV:=match r with | some (x,y)=>.tup [.agg (nC x y),ok] | none=>.tup [.agg (nC 0 0),err]
theorem MM(op a b c d:Int)(σ:Hp):ACalls Tryz.prog 344 [.int .i64 op,.agg (nC a b),.agg (nC c d)] σ (aE (tD (iv op a b c d) (.int .i64 0) (.int .i64 10)) σ):=by
 refine ay Tryz.func344 ?_
 intro aD
 intro dH
 intro sJ
 intro Jo
 refine an (fun c5=>?_) (fun c5=>?_)
 ·have c5:op=0:=c5
  refine aa 3 ?_
  refine aa 3 ?_
  refine az [] (DC _ _ _) ?_
  refine ak 0 ?_
  refine .fwd 1 ?_
  refine aa 0 ?_
  refine ak 1 ?_
  refine aa 1 ?_
  exact .drop 0 4 (.done ⟨(by simp[iv,tD, *];rfl),rfl⟩)
 ·have c5:¬(op=0):=c5
  refine an (fun c6=>?_) (fun c6=>?_)
  ·have c6:op=1:=c6
   refine aa 3 ?_
   refine aa 2 ?_
   refine az [] (af1 _ _ _ _ _) ?_
   refine ak 0 ?_
   refine .fwd 1 ?_
   refine aa 0 ?_
   refine ak 1 ?_
   refine aa 1 ?_
   exact .drop 0 4 (.done ⟨(by simp[iv,tD, *];rfl),rfl⟩)
  ·have c6:¬(op=1):=c6
   refine an (fun c7=>?_) (fun c7=>?_)
   ·have c7:op=2:=c7
    refine aa 3 ?_
    refine aa 2 ?_
    refine az [] (aeZ _ _ _ _ _) ?_
    refine ak 0 ?_
    refine .fwd 1 ?_
    refine aa 0 ?_
    refine ak 1 ?_
    refine aa 1 ?_
    exact .drop 0 4 (.done ⟨(by simp[iv,tD, *];rfl),rfl⟩)
   ·have c7:¬(op=2):=c7
    refine an (fun c8=>?_) (fun c8=>?_)
    ·have c8:op=3:=c8
     refine aa 3 ?_
     refine aa 2 ?_
     refine az [] (af0 _ _ _ _ _) ?_
     refine ak 0 ?_
     refine .fwd 1 ?_
     refine aa 0 ?_
     refine ak 1 ?_
     refine aa 1 ?_
     exact .drop 0 4 (.done ⟨(by simp[iv,tD, *];rfl),rfl⟩)
    ·have c8:¬(op=3):=c8
     refine an (fun c9=>?_) (fun c9=>?_)
     ·have c9:op=4:=c9
      refine aa 3 ?_
      refine az [] (adU _ _ _) ?_
      refine ak 0 ?_
      refine .fwd 1 ?_
      refine aa 0 ?_
      refine ak 1 ?_
      refine aa 1 ?_
      exact .drop 0 4 (.done ⟨(by simp[iv,tD, *];rfl),rfl⟩)
     ·have c9:¬(op=4):=c9
      refine ak 1 ?_
      refine aa 1 ?_
      exact .drop 0 4 (.done ⟨(by simp[iv,tD, *];rfl),rfl⟩)
def o9(x y:Int):Int:=aC x % 65536+65536*(aC y % 65536)
theorem B1(x y:Int):0≤o9 x y:=by unfold o9;omega
theorem FR(x y:Int):o9 x y<4294967296:=by unfold o9;omega
theorem Vf(n:Int):IntKind.u16.wrap n=n % 65536:=by simp[IntKind.wrap,IntKind.bits,IntKind.signed]
theorem TQ(k:Nat){a b:Nat}(ha:a<2 ^ k)(hb:2 ^ k*b<18446744073709551616)(hk:2 ^ k<18446744073709551616):bits .or .u64 (a:Int) ((2 ^ k*b:Nat):Int)=((2 ^ k*b+a:Nat):Int):=by
 rw[sM (by omega) hb,Nat.or_comm,On ha b]
theorem abp(x y:Int):bits BinOp.or IntKind.u64 (IntKind.u64.wrap (IntKind.u16.wrap (aC x))) (IntKind.u64.wrap (IntKind.u64.wrap (IntKind.u16.wrap (aC y))*2 ^ min (Int.toNat 16) IntKind.u64.bits))=o9 x y:=by
 have e:(2:Int) ^ min (Int.toNat 16) IntKind.u64.bits=65536:=by decide
 rw[e,Vf,Vf,IntKind.wrap_u64,IntKind.wrap_u64,IntKind.wrap_u64]
 unfold o9
 generalize aC x=p
 generalize aC y=q
 have h:=TQ 16 (a:=(p % 65536).toNat) (b:=(q % 65536).toNat) (by omega) (by omega) (by decide)
 have e1:(((p % 65536).toNat:Nat):Int)=p % 65536 % 18446744073709551616:=by omega
 have e2:((2 ^ 16*(q % 65536).toNat:Nat):Int)=q % 65536 % 18446744073709551616*65536 % 18446744073709551616:=by omega
 rw[e1,e2]at h
 rw[h];omega
theorem ZE(x y:Int):IntKind.u64.wrap (IntKind.u64.wrap ((IntKind.i64.wrap (aC x+65536)).tmod 65536)+IntKind.u64.wrap (65536*IntKind.u64.wrap ((IntKind.i64.wrap (aC y+65536)).tmod 65536)))=o9 x y:=by
 have h1:=we x
 have h2:=wg x
 have h3:=we y
 have h4:=wg y
 unfold o9
 rw[IntKind.wrap_i64,IntKind.wrap_i64,sG (by omega),sG (by omega),IntKind.wrap_u64,IntKind.wrap_u64,IntKind.wrap_u64,IntKind.wrap_u64]
 omega
theorem adT(x y:Int)(σ:Hp):ACalls Tryz.prog 342 [.agg (nC x y)] σ (aE (.int .u64 (o9 x y)) σ):=by
 refine ay Tryz.func342 ?_
 intro aD
 refine .quiet (by kernel_rfl) ?_
 refine aa 0 ?_
 refine aH [] (GW _ _) ?_
 refine aa 0 ?_
 refine aH [] (GW _ _) ?_
 refine ag.mk (by omega) ?_
 exact .drop 0 1 (.done ⟨aQ (abp x y),rfl⟩)
theorem adx(x y:Int)(σ:Hp):ACalls Tryz.prog 326 [.agg (nC x y)] σ (aE (.int .u64 (o9 x y)) σ):=by
 refine ay Tryz.func326 ?_
 intro aD
 refine aa 0 ?_
 refine aa 0 ?_
 refine az [] (wU _ _ _) ?_
 refine ak 0 ?_
 refine aa 0 ?_
 refine ag.mk (by omega) ?_
 refine aa 0 ?_
 refine ag.mk (by omega) ?_
 exact .drop 0 1 (.done ⟨aQ (ZE x y),rfl⟩)
def kZ(x y:Int):Int:=2+4*o9 x y
theorem Hm(x y:Int)(σ:Hp):ACalls Tryz.prog 331 [.agg (nC x y)] σ (aE (.int .u64 (kZ x y)) σ):=by
 refine ay Tryz.func331 ?_
 intro aD
 refine aa 0 ?_
 refine az [] (adT _ _ _) ?_
 refine ag.mk (by omega) ?_
 have e:bits BinOp.or IntKind.u64 2 (IntKind.u64.wrap (o9 x y*2 ^ min (Int.toNat 2) IntKind.u64.bits))=kZ x y:=by
  have e:(2:Int) ^ min (Int.toNat 2) IntKind.u64.bits=4:=by decide
  have h1:=B1 x y
  have h2:=FR x y
  rw[e,IntKind.wrap_u64]
  unfold kZ
  generalize o9 x y=p at h1 h2 ⊢
  have h:=TQ 2 (a:=2) (b:=p.toNat) (by decide) (by omega) (by decide)
  have e2:((2 ^ 2*p.toNat:Nat):Int)=p*4 % 18446744073709551616:=by omega
  rw[e2]at h
  exact h.trans (by omega)
 exact .drop 0 1 (.done ⟨aQ e,rfl⟩)
theorem CU(x y:Int)(σ:Hp):ACalls Tryz.prog 293 [.agg (nC x y)] σ (aE (.int .u64 (kZ x y)) σ):=by
 refine ay Tryz.func293 ?_
 intro aD
 refine aa 0 ?_
 refine az [] (adx _ _ _) ?_
 have e:IntKind.u64.wrap (2+IntKind.u64.wrap (4*o9 x y))=kZ x y:=by
  have h1:=B1 x y
  have h2:=FR x y
  unfold kZ
  rw[IntKind.wrap_u64,IntKind.wrap_u64];omega
 exact .drop 0 1 (.done ⟨aQ e,rfl⟩)
def jX(w:Int):Int:=if ek w then aC (w / 4 % 65536) else 0
def jY(w:Int):Int:=if ek w then aC (w / 4 / 65536) else 0
theorem aav(w:Int)(σ:Hp)(h:bD w):ACalls Tryz.prog 285 [.int .u64 w] σ (aE (if w<4294967296 then .tup [.agg (nC (aC (w % 65536)) (aC (w / 65536))),.bool true] else .tup [.agg (nC 0 0),.bool false]) σ):=by
 have e:=Cm (k:=32) (m:=32) (w:=w) (by decide)
 have e16:w.fdiv (2 ^ min (Int.toNat 16) IntKind.u64.bits)=w / 65536:=Cm (k:=16) (m:=16) (w:=w) (by decide)
 have ea:bits .and .u64 w 65535=w % 65536:=by
  show IntKind.u64.wrap ((BitVec.ofInt 64 w &&& BitVec.ofInt 64 65535).toNat:Int)=_
  have h3:(BitVec.ofInt 64 65535:BitVec 64).toNat=2 ^ 16-1:=by decide
  rw[BitVec.toNat_and,h3,Ot,BitVec.toNat_ofInt,IntKind.wrap_u64]
  omega
 have h1:=h.1
 have h2:=h.2
 refine ay Tryz.func285 ?_
 intro b1
 refine ag.mk (by omega) ?_
 refine dB (fun h2=>?_) (fun h2=>?_)
 ·have h2:¬(w.fdiv (2 ^ min (Int.toNat 32) IntKind.u64.bits)=0):=by simpa using h2
  have hw:¬(w<4294967296):=fun h=>h2 (by rw[show w.fdiv (2 ^ min (Int.toNat 32) IntKind.u64.bits)=w / 2 ^ 32 from e];omega)
  refine ak 0 ?_
  refine aa 0 ?_
  rw[ah hw]
  exact .drop 0 1 (.done ⟨rfl,rfl⟩)
 ·have h2:w.fdiv (2 ^ min (Int.toNat 32) IntKind.u64.bits)=0:=by simpa using h2
  have hw:w<4294967296:=by rw[show w.fdiv (2 ^ min (Int.toNat 32) IntKind.u64.bits)=w / 2 ^ 32 from e]at h2;omega
  refine ag.mk (by omega) ?_
  refine az [] (DC _ _ _) ?_
  refine ak 0 ?_
  refine aa 0 ?_
  rw[ai hw]
  have x1:IntKind.i64.wrap (bits .and .u64 w 65535)=w % 65536:=by rw[ea,IntKind.wrap_i64];omega
  have x2:IntKind.i64.wrap (w.fdiv (2 ^ min (Int.toNat 16) IntKind.u64.bits))=w / 65536:=by rw[e16,IntKind.wrap_i64];omega
  rw[← x1,← x2]
  exact .drop 0 1 (.done ⟨rfl,rfl⟩)
theorem Ao(w:Int)(σ:Hp)(h:bD w):ACalls Tryz.prog 251 [.int .u64 w] σ (aE (.tup [.agg (nC (jX w) (jY w)),.bool (ek w)]) σ):=by
 have e:=Cm (k:=2) (m:=2) (w:=w) (by decide)
 have h0:=h.1
 have N8:=h.2
 refine ay Tryz.func251 ?_
 intro b1
 refine dB (fun h2=>?_) (fun h2=>?_)
 ·have h2:¬(bits BinOp.and IntKind.u64 w 3=2):=by simpa using h2
  rw[Hr]at h2
  have hn:ek w=false:=by simp[ek,h2]
  refine ak 0 ?_
  refine aa 0 ?_
  unfold jX jY
  rw[hn]
  exact .drop 0 1 (.done ⟨rfl,rfl⟩)
 ·have h2:bits BinOp.and IntKind.u64 w 3=2:=by simpa using h2
  rw[Hr]at h2
  refine ag.mk (by omega) ?_
  have e':w.fdiv (2 ^ min (Int.toNat 2) IntKind.u64.bits)=w / 4:=e
  refine az [] (aav _ _ ⟨by rw[e'];omega,by rw[e'];omega⟩) ?_
  unfold jX jY
  by_cases hw:w<17179869184
  ·have hn:ek w=true:=by simp[ek,h2];omega
   rw[ai (show w.fdiv (2 ^ min (Int.toNat 2) IntKind.u64.bits)<4294967296 by rw[e'];omega),hn]
   refine ak 0 ?_
   refine aa 0 ?_
   rw[e']
   exact .drop 0 1 (.done ⟨rfl,rfl⟩)
  ·have hn:ek w=false:=by simp[ek,h2];omega
   rw[ah (show ¬w.fdiv (2 ^ min (Int.toNat 2) IntKind.u64.bits)<4294967296 by rw[e'];omega),hn]
   refine ak 0 ?_
   refine aa 0 ?_
   exact .drop 0 1 (.done ⟨rfl,rfl⟩)
theorem Af(w:Int)(σ:Hp)(h:bD w):ACalls Tryz.prog 179 [.int .u64 w] σ (aE (.tup [.agg (nC (jX w) (jY w)),.bool (ek w)]) σ):=by
 have h0:=h.1
 have h2:=h.2
 have e1:w.tmod 4=w % 4:=sG h0
 have e2:IntKind.u64.wrap (w.tdiv 4)=w / 4:=by rw[Bs h0,IntKind.wrap_u64];omega
 refine ay Tryz.func179 ?_
 unfold jX jY
 intro aD
 refine ag.mk (by omega) ?_
 refine dB (fun c2=>?_) (fun c2=>?_)
 ·have c2:¬(w.tmod 4=2):=by simpa using c2
  have hn:ek w=false:=by unfold ek;simp;omega
  rw[hn]
  refine ak 0 ?_
  refine aa 0 ?_
  exact .drop 0 1 (.done ⟨rfl,rfl⟩)
 ·have c2:w.tmod 4=2:=by simpa using c2
  refine ag.mk (by omega) ?_
  refine an (fun c3=>?_) (fun c3=>?_)
  ·have c3:4294967296≤IntKind.u64.wrap (w.tdiv 4):=c3
   have hn:ek w=false:=by unfold ek;simp;omega
   rw[hn]
   refine ak 0 ?_
   refine aa 0 ?_
   exact .drop 0 1 (.done ⟨rfl,rfl⟩)
  ·have c3:¬(4294967296≤IntKind.u64.wrap (w.tdiv 4)):=c3
   have hn:ek w=true:=by unfold ek;simp;omega
   have e3:IntKind.i64.wrap (IntKind.u64.wrap (w.tdiv 4))=w / 4:=by rw[e2,IntKind.wrap_i64];omega
   have e4:(w / 4).tmod 65536=w / 4 % 65536:=sG (by omega)
   have e5:IntKind.i64.wrap ((w / 4).tdiv 65536)=w / 4 / 65536:=by rw[Bs (by omega),IntKind.wrap_i64];omega
   rw[hn,ai rfl,ai rfl,← e4,← e5,← e3]
   refine ag.mk (by omega) ?_
   refine ag.mk (by omega) ?_
   refine ag.mk (by omega) ?_
   refine az [] (wU _ _ _) ?_
   refine ak 0 ?_
   refine aa 0 ?_
   exact .drop 0 1 (.done ⟨rfl,rfl⟩)
theorem ca{n:Int}(h : -4611686018427387904≤n∧n≤4611686018427387904):IntKind.i64.wrap n=n:=by rw[IntKind.wrap_i64];omega
theorem Mt(op a b c d:Int)(σ:Hp):ACalls Tryz.prog 294 [.int .i64 op,.agg (nC a b),.agg (nC c d)] σ (aE (tD (iv op a b c d) (.bool true) (.bool false)) σ):=by
 have hF:=CK a b c d
 have hM:=Vh a b c d
 refine ay Tryz.func294 ?_
 intro aD
 intro dH
 intro sJ
 refine aa 2 ?_
 refine aa 2 ?_
 refine az [] (wU _ _ _) ?_
 refine ak 2 ?_
 refine aa 1 ?_
 refine aa 1 ?_
 refine az [] (wU _ _ _) ?_
 refine ak 1 ?_
 refine an (fun c4=>?_) (fun c4=>?_)
 ·have c4:op=0:=c4
  refine aa 2 ?_
  refine ak 0 ?_
  refine aa 0 ?_
  exact .drop 0 3 (.done ⟨(by simp[iv,tD, *];rfl),rfl⟩)
 ·have c4:¬(op=0):=c4
  refine an (fun c5=>?_) (fun c5=>?_)
  ·have c5:op=1:=c5
   refine aa 2 ?_
   refine aa 1 ?_
   refine aa 2 ?_
   refine aa 1 ?_
   refine az [] (wU _ _ _) ?_
   refine ak 0 ?_
   refine aa 0 ?_
   have eo:iv op a b c d=some (aC (aC a+aC c),aC (aC b+aC d)):=by simp[iv, *]
   have ev:AV.tup [.agg (nC (aC (IntKind.i64.wrap (aC a+aC c))) (aC (IntKind.i64.wrap (aC b+aC d)))),.bool true]=AV.tup [.agg (nC (aC (aC a+aC c)) (aC (aC b+aC d))),.bool true]:=by rw[ca (n:=aC a+aC c) (by omega),ca (n:=aC b+aC d) (by omega)]
   rw[eo]
   exact .drop 0 3 (.done ⟨ev,rfl⟩)
  ·have c5:¬(op=1):=c5
   refine an (fun c6=>?_) (fun c6=>?_)
   ·have c6:op=2:=c6
    refine aa 2 ?_
    refine aa 1 ?_
    refine aa 2 ?_
    refine aa 1 ?_
    refine az [] (wU _ _ _) ?_
    refine ak 0 ?_
    refine aa 0 ?_
    have eo:iv op a b c d=some (aC (aC a-aC c),aC (aC b-aC d)):=by simp[iv, *]
    have ev:AV.tup [.agg (nC (aC (IntKind.i64.wrap (aC a-aC c))) (aC (IntKind.i64.wrap (aC b-aC d)))),.bool true]=AV.tup [.agg (nC (aC (aC a-aC c)) (aC (aC b-aC d))),.bool true]:=by rw[ca (n:=aC a-aC c) (by omega),ca (n:=aC b-aC d) (by omega)]
    rw[eo]
    exact .drop 0 3 (.done ⟨ev,rfl⟩)
   ·have c6:¬(op=2):=c6
    refine an (fun c7=>?_) (fun c7=>?_)
    ·have c7:op=3:=c7
     refine aa 2 ?_
     refine aa 1 ?_
     refine aa 2 ?_
     refine aa 1 ?_
     refine aa 2 ?_
     refine aa 1 ?_
     refine aa 2 ?_
     refine aa 1 ?_
     refine az [] (wU _ _ _) ?_
     refine ak 0 ?_
     refine aa 0 ?_
     have eo:iv op a b c d=some (aC (aC a*aC c-aC b*aC d),aC (aC a*aC d+aC b*aC c)):=by simp[iv, *]
     have ev:AV.tup [.agg (nC (aC (IntKind.i64.wrap (IntKind.i64.wrap (aC a*aC c)-IntKind.i64.wrap (aC b*aC d)))) (aC (IntKind.i64.wrap (IntKind.i64.wrap (aC a*aC d)+IntKind.i64.wrap (aC b*aC c))))),.bool true]=AV.tup [.agg (nC (aC (aC a*aC c-aC b*aC d)) (aC (aC a*aC d+aC b*aC c))),.bool true]:=by rw[ca (n:=aC a*aC c) (by omega),ca (n:=aC b*aC d) (by omega),ca (n:=aC a*aC d) (by omega),ca (n:=aC b*aC c) (by omega),ca (n:=aC a*aC c-aC b*aC d) (by omega),ca (n:=aC a*aC d+aC b*aC c) (by omega)]
     rw[eo]
     exact .drop 0 3 (.done ⟨ev,rfl⟩)
    ·have c7:¬(op=3):=c7
     refine an (fun c8=>?_) (fun c8=>?_)
     ·have c8:op=4:=c8
      refine aa 2 ?_
      refine aa 2 ?_
      refine az [] (wU _ _ _) ?_
      refine ak 0 ?_
      refine aa 0 ?_
      have eo:iv op a b c d=some (aC (aC a),aC (-aC b)):=by simp[iv, *]
      have ev:AV.tup [.agg (nC (aC (aC a)) (aC (IntKind.i64.wrap (0-aC b)))),.bool true]=AV.tup [.agg (nC (aC (aC a)) (aC (-aC b))),.bool true]:=by rw[ca (n:=0-aC b) (by omega),Int.zero_sub]
      rw[eo]
      exact .drop 0 3 (.done ⟨ev,rfl⟩)
     ·have c8:¬(op=4):=c8
      refine ak 0 ?_
      refine aa 0 ?_
      exact .drop 0 3 (.done ⟨(by simp[iv,tD, *];rfl),rfl⟩)
end Go.Proofs.YtnikdflhefijbaaGreat
