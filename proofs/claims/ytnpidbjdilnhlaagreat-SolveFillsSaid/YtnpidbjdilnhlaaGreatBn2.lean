import Derived.Laws.ComplexArith
import Derived.RangeFuncRecord
import Derived.Test.YtnpidbjdilnhlaaGreatBn1
namespace Go.Proofs.YtnpidbjdilnhlaaGreat
open Ieee
def kN(d:Datum)(N:Int):Prop:=∃s m p,d=.number s m p∧m*2 ^ p.toNat=N.natAbs*2 ^ (-p).toNat∧(N≠0→s=decide (N<0))
theorem uJ(m k:Nat):m <<< k=m*2 ^ k:=Nat.shiftLeft_eq m k
theorem On(s:Bool)(m u:Nat):(signed s m u).natAbs=m*2 ^ u:=by
 unfold signed
 rw[uJ]
 split
 ·rw[Int.natAbs_neg,Int.natAbs_natCast]
 ·rw[Int.natAbs_natCast]
theorem CQ{m A:Nat}{p base:Int}(h:m*2 ^ p.toNat=A*2 ^ (-p).toNat)(hb:base≤p):m*2 ^ (p-base).toNat*2 ^ base.toNat=A*2 ^ (-base).toNat:=by
 rcases Int.lt_or_le base 0 with h0 | h0
 ·rcases Int.lt_or_le p 0 with h1 | h1
  ·have e1:p.toNat=0:=by omega
   have e2:base.toNat=0:=by omega
   rw[e1,Nat.pow_zero,Nat.mul_one]at h
   rw[e2,Nat.pow_zero,Nat.mul_one,h,Nat.mul_assoc,← Nat.pow_add]
   congr 2;omega
  ·have e1:(-p).toNat=0:=by omega
   have e2:base.toNat=0:=by omega
   have e3:(p-base).toNat=p.toNat+(-base).toNat:=by omega
   rw[e1,Nat.pow_zero,Nat.mul_one]at h
   rw[e2,Nat.pow_zero,Nat.mul_one,e3,Nat.pow_add,← Nat.mul_assoc,h]
 ·have e1:(-p).toNat=0:=by omega
  have e2:(-base).toNat=0:=by omega
  rw[e1,Nat.pow_zero,Nat.mul_one]at h
  rw[e2,Nat.pow_zero,Nat.mul_one,Nat.mul_assoc,← Nat.pow_add,← h]
  congr 2;omega
theorem Cz{s:Bool}{m u:Nat}{N:Int}{A B:Nat}(h:m*2 ^ u*A=N.natAbs*B)(hs:N≠0→s=decide (N<0))(hA:0<A):signed s m u*(A:Int)=N*(B:Int):=by
 have h':((m*2 ^ u:Nat):Int)*(A:Int)=(N.natAbs:Int)*(B:Int):=by exact_mod_cast h
 by_cases h0:N=0
 ·subst h0
  have hm:m*2 ^ u=0:=by
   have:m*2 ^ u*A=0:=by rw[h];simp
   rcases Nat.mul_eq_zero.1 this with h1 | h1
   ·exact h1
   ·omega
  have:signed s m u=0:=Int.natAbs_eq_zero.1 (by rw[On,hm])
  rw[this];simp
 ·have hs:=hs h0
  subst hs
  unfold signed
  rw[uJ]
  by_cases hn:N<0
  ·rw[decide_eq_true hn,if_pos rfl,Int.neg_mul,h',← Int.neg_mul]
   congr 1;omega
  ·rw[decide_eq_false hn,if_neg (by decide),h']
   congr 1;omega
theorem lY(k:Nat):0<2 ^ k:=Nat.two_pow_pos k
theorem Is{d e:Datum}{N M:Int}(hd:kN d N)(he:kN e M):∃x,d.sum e=some x∧kN x (N+M):=by
 obtain⟨s,m,i,rfl,h1,h2⟩:=hd
 obtain⟨t,n,j,rfl,h3,h4⟩:=he
 refine⟨_,rfl,_,_,_,rfl,?_,?_⟩
 all_goals
  have e1:=Cz (CQ h1 (Int.min_le_left i j)) h2 (lY _)
  have e2:=Cz (CQ h3 (Int.min_le_right i j)) h4 (lY _)
  have e3:(signed s m (i-min i j).toNat+signed t n (j-min i j).toNat)*((2 ^ (min i j).toNat:Nat):Int)=(N+M)*((2 ^ (-(min i j)).toNat:Nat):Int):=by rw[Int.add_mul,e1,e2,Int.add_mul]
 ·have:=congrArg Int.natAbs e3
  rw[Int.natAbs_mul,Int.natAbs_mul,Int.natAbs_natCast,Int.natAbs_natCast]at this
  exact this
 ·intro aS
  generalize signed s m (i-min i j).toNat+signed t n (j-min i j).toNat=T at e3
  have hp:=lY (min i j).toNat
  have hq:=lY (-(min i j)).toNat
  generalize (2:Nat) ^ (min i j).toNat=P at e3 hp
  generalize (2:Nat) ^ (-(min i j)).toNat=Q at e3 hq
  have hT:T≠0:=by
   intro h0
   rw[h0,Int.zero_mul]at e3
   rcases Int.mul_eq_zero.1 e3.symm with h5 | h5
   ·exact aS h5
   ·omega
  rw[if_neg hT]
  refine decide_eq_decide.2 ⟨fun h =>?_,fun h =>?_⟩
  ·have:T*(P:Int)<0:=Int.mul_neg_of_neg_of_pos h (by omega)
   rw[e3]at this
   rcases Int.lt_or_le (N+M) 0 with h5 | h5
   ·exact h5
   ·have:=Int.mul_nonneg h5 (show (0:Int)≤Q by omega)
    omega
  ·have:(N+M)*(Q:Int)<0:=Int.mul_neg_of_neg_of_pos h (by omega)
   rw[← e3]at this
   rcases Int.lt_or_le T 0 with h5 | h5
   ·exact h5
   ·have:=Int.mul_nonneg h5 (show (0:Int)≤P by omega)
    omega
theorem It{d:Datum}{N:Int}(h:kN d N):kN d.opposite (-N):=by
 obtain⟨s,m,p,rfl,h1,h2⟩:=h
 refine⟨_,_,_,rfl,by rw[Int.natAbs_neg];exact h1,fun aS =>?_⟩
 rw[h2 (by omega)]
 by_cases hn:N<0
 ·rw[decide_eq_true hn,decide_eq_false (by omega)];rfl
 ·rw[decide_eq_false hn,decide_eq_true (by omega)];rfl
theorem OO{d e:Datum}{N M:Int}(hd:kN d N)(he:kN e M):∃x,d.product e=some x∧kN x (N*M):=by
 obtain⟨s,m,i,rfl,h1,h2⟩:=hd
 obtain⟨t,n,j,rfl,h3,h4⟩:=he
 refine⟨_,rfl,_,_,_,rfl,?_,fun aS =>?_⟩
 ·rw[Int.natAbs_mul]
  have h5:(m*2 ^ i.toNat)*(n*2 ^ j.toNat)=(N.natAbs*2 ^ (-i).toNat)*(M.natAbs*2 ^ (-j).toNat):=by rw[h1,h3]
  obtain⟨c,vY,re⟩:∃c,i.toNat+j.toNat=(i+j).toNat+c∧(-i).toNat+(-j).toNat=(-(i+j)).toNat+c:=⟨i.toNat+j.toNat-(i+j).toNat,by omega,by omega⟩
  have e1:(m*2 ^ i.toNat)*(n*2 ^ j.toNat)=(m*n*2 ^ (i+j).toNat)*2 ^ c:=by
   rw[Nat.mul_assoc (m*n),← Nat.pow_add,← vY,Nat.pow_add];ac_rfl
  have e2:(N.natAbs*2 ^ (-i).toNat)*(M.natAbs*2 ^ (-j).toNat)=(N.natAbs*M.natAbs*2 ^ (-(i+j)).toNat)*2 ^ c:=by
   rw[Nat.mul_assoc (N.natAbs*M.natAbs),← Nat.pow_add,← re,Nat.pow_add];ac_rfl
  rw[e1,e2]at h5
  exact Nat.eq_of_mul_eq_mul_right (lY c) h5
 ·have hN:N≠0:=fun h=>aS (by rw[h,Int.zero_mul])
  have hM:M≠0:=fun h=>aS (by rw[h,Int.mul_zero])
  rw[h2 hN,h4 hM]
  rcases Int.lt_or_gt_of_ne hN with a | a <;> rcases Int.lt_or_gt_of_ne hM with b | b
  ·have:=Int.mul_pos_of_neg_of_neg a b
   rw[decide_eq_true a,decide_eq_true b,decide_eq_false (by omega)];rfl
  ·have:=Int.mul_neg_of_neg_of_pos a b
   rw[decide_eq_true a,decide_eq_false (by omega),decide_eq_true this];rfl
  ·have:=Int.mul_neg_of_pos_of_neg a b
   rw[decide_eq_false (by omega),decide_eq_true b,decide_eq_true this];rfl
  ·have:=Int.mul_pos a b
   rw[decide_eq_false (by omega),decide_eq_false (by omega),decide_eq_false (by omega)];rfl
theorem Cq{A k:Nat}(h:A≠0):(A*2 ^ k).log2=A.log2+k:=by
 have aS:A*2 ^ k≠0:=Nat.mul_ne_zero h (Nat.pos_iff_ne_zero.1 (lY k))
 refine (Nat.log2_eq_iff aS).2 ⟨?_,?_⟩
 ·rw[Nat.pow_add];exact Nat.mul_le_mul_right _ ((Nat.log2_eq_iff h).1 rfl).1
 ·rw[show A.log2+k+1=A.log2+1+k by omega,Nat.pow_add]
  exact Nat.mul_lt_mul_of_pos_right ((Nat.log2_eq_iff h).1 rfl).2 (lY k)
theorem C6(eS:Toward)(neg:Bool){A k:Nat}(h:A≠0):eS.cut neg (A*2 ^ k) k=A:=by
 have gg:min k ((A*2 ^ k).log2+2)=k:=by rw[Cq h];omega
 unfold Toward.cut
 dsimp only
 rw[gg,uJ,Nat.one_mul,Nat.mul_div_cancel _ (lY k),Nat.mul_mod_left]
 cases eS
 ·have h1:¬2 ^ k<2*0:=by simp
  have h2:((2 ^ k:Nat) == 2*0)=false:=by
   have:=lY k
   simp
  simp[h2]
 ·cases neg <;> rfl
 ·cases neg <;> rfl
 ·rfl
theorem RX(eS:Toward)(neg:Bool)(k:Nat):eS.cut neg 0 k=0:=by
 unfold Toward.cut
 dsimp only
 have gg:1 <<< min k ((0:Nat).log2+2)≠0:=by rw[uJ,Nat.one_mul];exact Nat.pos_iff_ne_zero.1 (lY _)
 generalize (1:Nat) <<< min k ((0:Nat).log2+2)=g at gg
 rw[Nat.zero_div,Nat.zero_mod]
 cases eS
 ·have h2:(g == 2*0)=false:=by simpa using gg
  simp[h2]
 ·cases neg <;> rfl
 ·cases neg <;> rfl
 ·rfl
theorem NY{d:Datum}{N:Int}(h:kN d N):d.toInt .zero=some N:=by
 obtain⟨s,m,p,rfl,h1,h2⟩:=h
 have e:Toward.zero.cut s (m <<< p.toNat) (-p).toNat=N.natAbs:=by
  rw[uJ,h1]
  by_cases h0:N=0
  ·subst h0;rw[Int.natAbs_zero,Nat.zero_mul];exact RX _ _ _
  ·exact C6 _ _ (by omega)
 show some (signed s (Toward.zero.cut s (m <<< p.toNat) (-p).toNat) 0)=some N
 rw[e]
 congr 1
 have:=Cz (s:=s) (m:=N.natAbs) (u:=0) (N:=N) (A:=1) (B:=1) (by simp) h2 (by decide)
 simpa using this
theorem Pj(s:Bool){rung:Nat}(h:rung<2 ^ 63):(double.word s rung / double.signWeight % 2 == 1)=s∧double.word s rung % double.signWeight=rung:=by
 have hw:double.signWeight=9223372036854775808:=by decide
 have h':rung<9223372036854775808:=h
 unfold Format.word
 rw[hw]
 cases s
 ·rw[if_neg (by decide)]
  refine⟨?_,by omega⟩
  rw[show rung / 9223372036854775808=0 by omega];rfl
 ·rw[if_pos rfl]
  refine⟨?_,by omega⟩
  rw[show (9223372036854775808+rung) / 9223372036854775808=1 by omega];rfl
theorem H9(s:Bool):double.read (double.word s 0)=.number s 0 (-1074):=by
 cases s <;> decide
theorem NK(s:Bool){L kept:Nat}(hL:L≤52)(h1:4503599627370496≤kept)(h2:kept<9007199254740992):double.read (double.word s ((L+1022)*4503599627370496+kept))=.number s kept ((L:Int)-52):=by
 have hb:double.binade=4503599627370496:=by decide
 have hi:double.infRung=9218868437227405312:=by decide
 have hl:double.leastPlace = -1074:=by decide
 obtain⟨e1,e2⟩:=Pj s (rung:=(L+1022)*4503599627370496+kept) (by show _<9223372036854775808;omega)
 unfold Format.read
 dsimp only
 rw[e1,e2,hb,hi,hl,if_neg (by omega),if_pos (by omega)]
 congr 1
 ·omega
 ·have:((L+1022)*4503599627370496+kept) / 4503599627370496=L+1023:=by omega
  rw[this];omega
theorem NX{d:Datum}{N:Int}(h:kN d N)(hN:N.natAbs<9007199254740992):kN (double.read (double.write d)) N:=by
 obtain⟨s,m,p,rfl,h1,h2⟩:=h
 have hb:double.binade=4503599627370496:=by decide
 have hi:double.infRung=9218868437227405312:=by decide
 have hl:double.leastPlace = -1074:=by decide
 show kN (double.read (double.nearest s m p)) N
 by_cases h0:N=0
 ·subst h0
  have hm:m=0:=by
   rw[Int.natAbs_zero,Nat.zero_mul]at h1
   rcases Nat.mul_eq_zero.1 h1 with h | h
   ·exact h
   ·exact absurd h (Nat.pos_iff_ne_zero.1 (lY _))
  subst hm
  have:double.nearest s 0 p=double.word s 0:=rfl
  rw[this,H9]
  exact⟨s,0,-1074,rfl,by rw[Nat.zero_mul,Int.natAbs_zero,Nat.zero_mul],fun h=>absurd rfl h⟩
 ·obtain⟨A,hA⟩:∃A,A=N.natAbs:=⟨_,rfl⟩
  rw[← hA]at h1 hN
  have mL:A≠0:=by omega
  have B4:m≠0:=by
   intro h
   subst h
   rw[Nat.zero_mul]at h1
   rcases Nat.mul_eq_zero.1 h1.symm with h | h
   ·exact mL h
   ·exact absurd h (Nat.pos_iff_ne_zero.1 (lY _))
  have Xo:(p:Int)+m.log2=A.log2:=by
   have e:=congrArg Nat.log2 h1
   rw[Cq B4,Cq mL]at e
   omega
  obtain⟨L,hL⟩:∃L,L=A.log2:=⟨_,rfl⟩
  rw[← hL]at Xo
  have y7:=((Nat.log2_eq_iff mL).1 hL.symm).1
  have hA2:=((Nat.log2_eq_iff mL).1 hL.symm).2
  have XE:L≤52:=by
   refine Nat.le_of_not_lt fun h =>?_
   have:2 ^ 53≤2 ^ L:=Nat.pow_le_pow_right (by decide) h
   have:(2:Nat) ^ 53=9007199254740992:=by decide
   omega
  obtain⟨K,hK⟩:∃K,K=A*2 ^ (52-L):=⟨_,rfl⟩
  have hK1:4503599627370496≤K:=by
   have:2 ^ L*2 ^ (52-L)≤K:=by rw[hK];exact Nat.mul_le_mul_right _ y7
   rw[← Nat.pow_add,show L+(52-L)=52 by omega]at this
   exact this
  have hK2:K<9007199254740992:=by
   have:K<2 ^ (L+1)*2 ^ (52-L):=by rw[hK];exact Nat.mul_lt_mul_of_pos_right hA2 (lY _)
   rw[← Nat.pow_add,show L+1+(52-L)=53 by omega]at this
   exact this
  have hK0:K≠0:=by omega
  have Wf:max (p+(m.log2:Int)-52) (-1074)=(L:Int)-52:=by omega
  have e8:Toward.even.cut s (m <<< (p-((L:Int)-52)).toNat) (((L:Int)-52)-p).toNat=K:=by
   rw[uJ]
   rcases Int.lt_or_le p ((L:Int)-52) with h | h
   ·have e1:(p-((L:Int)-52)).toNat=0:=by omega
    have e2:p.toNat=0:=by omega
    rw[e2,Nat.pow_zero,Nat.mul_one]at h1
    rw[e1,Nat.pow_zero,Nat.mul_one,h1]
    have e3:(-p).toNat=(52-L)+(((L:Int)-52)-p).toNat:=by omega
    rw[e3,Nat.pow_add,← Nat.mul_assoc,← hK]
    exact C6 _ _ hK0
   ·have e1:(((L:Int)-52)-p).toNat=0:=by omega
    have e2:=CQ h1 h
    rw[show ((L:Int)-52).toNat=0 by omega,Nat.pow_zero,Nat.mul_one,show (-((L:Int)-52)).toNat=52-L by omega,← hK]at e2
    rw[e1,e2]
    have:=C6 .even s (A:=K) (k:=0) hK0
    rw[Nat.pow_zero,Nat.mul_one]at this
    exact this
  have hn:double.nearest s m p=double.word s ((L+1022)*4503599627370496+K):=by
   unfold Format.nearest
   rw[if_neg B4]
   dsimp only
   rw[hl,hb,hi]
   show double.word s (min ((max (p+(m.log2:Int)-52) (-1074) - -1074).toNat*4503599627370496+Toward.even.cut s (m <<< (p-max (p+(m.log2:Int)-52) (-1074)).toNat) (max (p+(m.log2:Int)-52) (-1074)-p).toNat) 9218868437227405312)=_
   rw[Wf,e8,show ((L:Int)-52 - -1074).toNat=L+1022 by omega]
   have gg:(L+1022)*4503599627370496+K≤9218868437227405312:=by omega
   exact congrArg (double.word s) (Nat.min_eq_left gg)
  have e:double.read (double.nearest s m p)=.number s K ((L:Int)-52):=(congrArg double.read hn).trans (NK s XE hK1 hK2)
  rw[e]
  refine⟨s,K,(L:Int)-52,rfl,?_,h2⟩
  rw[← hA,show ((L:Int)-52).toNat=0 by omega,Nat.pow_zero,Nat.mul_one,show (-((L:Int)-52)).toNat=52-L by omega]
  exact hK
structure fZ(b:Nat)(N:Int):Prop where
 lt:b<2 ^ 64
 isInt:kN (double.read b) N
theorem P7(N:Int):kN (.number (decide (N<0)) N.natAbs 0) N:=⟨_,_,_,rfl,by simp,fun _=>rfl⟩
theorem zW{d:Datum}{N:Int}(h:kN d N)(hN:N.natAbs<9007199254740992):fZ (double.write d) N:=⟨double.write_lt d,NX h hN⟩
theorem U5{N:Int}(hN:N.natAbs<9007199254740992):fZ (Go.FloatKind.nearest .f64 N) N:=zW (P7 N) hN
theorem DL{x y:Nat}{N M:Int}(hx:fZ x N)(hy:fZ y M)(h:(N+M).natAbs<9007199254740992):∃r,floatBits .add .f64 x y=some r∧fZ r (N+M):=by
 obtain⟨d,e1,e2⟩:=Is hx.isInt hy.isInt
 exact⟨double.write d,congrArg (Option.map double.write) e1,zW e2 h⟩
theorem DK{x y:Nat}{N M:Int}(hx:fZ x N)(hy:fZ y M)(h:(N-M).natAbs<9007199254740992):∃r,floatBits .sub .f64 x y=some r∧fZ r (N-M):=by
 obtain⟨d,e1,e2⟩:=Is hx.isInt (It hy.isInt)
 rw[← Int.sub_eq_add_neg]at e2
 exact⟨double.write d,congrArg (Option.map double.write) e1,zW e2 h⟩
theorem Az{x y:Nat}{N M:Int}(hx:fZ x N)(hy:fZ y M)(h:(N*M).natAbs<9007199254740992):∃r,floatBits .mul .f64 x y=some r∧fZ r (N*M):=by
 obtain⟨d,e1,e2⟩:=OO hx.isInt hy.isInt
 exact⟨double.write d,congrArg (Option.map double.write) e1,zW e2 h⟩
theorem TC{x:Nat}{N:Int}(hx:fZ x N)(k:IntKind)(h:k.min≤N∧N≤k.max):floatToIntVal .f64 x k=some N:=by
 unfold floatToIntVal
 have:(FloatKind.f64.decode x).toInt .zero=some N:=NY hx.isInt
 rw[this]
 exact if_pos h
theorem Dr:fZ 0 0:=⟨by decide,⟨false,0,-1074,H9 false,by rw[Nat.zero_mul,Int.natAbs_zero,Nat.zero_mul],fun h=>absurd rfl h⟩⟩
theorem JD{b:Nat}(h:b<2 ^ 64):b ^^^ 2 ^ 63=if b<2 ^ 63 then b+2 ^ 63 else b-2 ^ 63:=by
 have e:((BitVec.ofNat 64 b) ^^^ (BitVec.ofNat 64 (2 ^ 63))).toNat=b ^^^ 2 ^ 63:=by
  rw[BitVec.toNat_xor,BitVec.toNat_ofNat,BitVec.toNat_ofNat,Nat.mod_eq_of_lt h,Nat.mod_eq_of_lt (by decide)]
 by_cases hb:b<2 ^ 63
 ·rw[if_pos hb]
  have:=Nat.two_pow_add_eq_or_of_lt hb 1
  rw[Nat.mul_one]at this
  rw[Nat.add_comm,this]
  refine Nat.eq_of_testBit_eq fun i =>?_
  rw[Nat.testBit_xor,Nat.testBit_or,Nat.testBit_two_pow]
  by_cases hi:63=i
  ·subst hi
   rw[Nat.testBit_lt_two_pow hb];rfl
  ·rw[decide_eq_false hi];simp
 ·rw[if_neg hb]
  obtain⟨c,rfl⟩:∃c,b=2 ^ 63+c:=⟨b-2 ^ 63,by omega⟩
  have hc:c<2 ^ 63:=by
   have:(2:Nat) ^ 64=2 ^ 63+2 ^ 63:=by decide
   omega
  have:=Nat.two_pow_add_eq_or_of_lt hc 1
  rw[Nat.mul_one]at this
  rw[Nat.add_sub_cancel_left,this]
  refine Nat.eq_of_testBit_eq fun i =>?_
  rw[Nat.testBit_xor,Nat.testBit_or,Nat.testBit_two_pow]
  by_cases hi:63=i
  ·subst hi
   rw[Nat.testBit_lt_two_pow hc];rfl
  ·rw[decide_eq_false hi];simp
theorem TB{x:Nat}{N:Int}(hx:fZ x N):fZ (Go.Op.negFloat .f64 x) (-N):=by
 have e:Go.Op.negFloat .f64 x=x ^^^ 2 ^ 63:=rfl
 have ab:x<18446744073709551616:=hx.lt
 have hsw:double.signWeight=9223372036854775808:=by decide
 have Wd:double.read (x ^^^ 2 ^ 63)=(double.read x).opposite:=by
  rw[JD hx.lt]
  have Gx:(2:Nat) ^ 63=9223372036854775808:=by decide
  rw[Gx]
  unfold Format.read
  dsimp only
  rw[hsw]
  by_cases hb:x<9223372036854775808
  ·rw[if_pos hb,show (x+9223372036854775808) / 9223372036854775808 % 2=1 by omega,show (x+9223372036854775808) % 9223372036854775808=x by omega,show x / 9223372036854775808 % 2=0 by omega,show x % 9223372036854775808=x by omega]
   repeat' split
   all_goals rfl
  ·rw[if_neg hb,show (x-9223372036854775808) / 9223372036854775808 % 2=0 by omega,show (x-9223372036854775808) % 9223372036854775808=x-9223372036854775808 by omega,show x / 9223372036854775808 % 2=1 by omega,show x % 9223372036854775808=x-9223372036854775808 by omega]
   repeat' split
   all_goals rfl
 rw[e]
 refine⟨?_,by rw[Wd];exact It hx.isInt⟩
 rw[JD hx.lt]
 have Gx:(2:Nat) ^ 63=9223372036854775808:=by decide
 have gC:(2:Nat) ^ 64=18446744073709551616:=by decide
 rw[Gx,gC]
 split <;> omega
def kH(w:World)(b:Nat):Prop:=∃c T fz,w.heap[b]?=some (.cells c T fz)
def FC(F:Nat→Prop)(w:World)(b:Nat):Prop:=F b∧kH w b
def iA(F:Nat→Prop)(w:World):(s:Sh)→List Value→s.T→Prop
 | .int k,cs,(n:Int)=>cs=[.int k n]
 | .bool,cs,(b:Bool)=>cs=[.bool b]
 | .str,cs,(s:ByteArray)=>cs=[.string s]
 | .slice e,cs,(l:List e.T)=>∃(a:Option Addr) (c:Nat),cs=[.slice a l.length c]∧l.length≤c∧c≤maxLen∧(a=none→c=0)∧
   (l≠[]→∃b o,a=some ⟨b,o,none⟩∧FC F w b∧∀i,(h:i<l.length)→∃cs',cs'.length=e.size∧qN w b (o+i*e.size) cs'∧iA F w e cs' l[i])
 | .nil,cs,_=>cs=[]
 | .field f r,cs,(d:f.T×r.T)=>∃c1 c2,cs=c1++c2∧c1.length=f.size∧iA F w f c1 d.1∧iA F w r c2 d.2
def yh(w:World)(b off len e:Nat)(a:Addr)(cap:Nat):Prop:=
 ∃c T fz,w.heap[b]?=some (.cells c T fz)∧len≤cap∧cap≤maxLen∧((a=⟨b,off,none⟩∧off+cap*e≤c.size)∨(a.block=b∧a.spot=none∧len=0∧cap=0))
inductive aA(F:Nat→Prop)(w:World):AV→Value→Prop where
 | int (k:IntKind) (n:Int):aA F w (.int k n) (.int k n)
 | bool (b:Bool):aA F w (.bool b) (.bool b)
 | str (s:ByteArray):aA F w (.str s) (.string s)
 | af (e:Sh) (l:List e.T) (v:Value) (h:iA F w (.slice e) [v] l):aA F w (.af e l) v
 | ib (a:Option Addr):aA F w .ib (.slice a 0 0)
 | eX (a:Addr) (c:Nat) (h:c≤maxLen):aA F w .eX (.slice (some a) 0 c)
 | aj:aA F w .aj (.slice none 0 0)
 | ae (b off len e:Nat) (a:Addr) (cap:Nat) (h:yh w b off len e a cap):aA F w (.ae b off len e) (.slice (some a) len cap)
 | bu:aA F w .bu (.pointer none)
 | ptr (b off:Nat) (h:kH w b):aA F w (.ptr b off) (.pointer (some ⟨b,off,none⟩))
 | ej (cs:List AV) (b o:Nat) (f:Nat→Value) (hF:FC F w b) (h1:∀i x,cs[i]?=some x→w.cell? ⟨b,o+i,none⟩=some (f i)) (hl:∀(i:Nat) (x:AV),cs[i]?=some x→x.leaf=true) (h:∀i x,cs[i]?=some x→aA F w x (f i)):aA F w (.ej cs) (.pointer (some ⟨b,o,none⟩))
 | agg (cs:List AV) (vs:Array Value) (hs:cs.length=vs.size) (hl:∀(i:Nat) (x:AV),cs[i]?=some x→x.leaf=true) (h:∀i x,cs[i]?=some x→aA F w x (vs.getD i undef)):aA F w (.agg cs) (.agg vs)
 | tup (cs:List AV) (vs:Array Value) (hs:cs.length=vs.size) (h:∀i x,cs[i]?=some x→aA F w x (vs.getD i undef)):aA F w (.tup cs) (.tuple vs)
 | iface (t:TypeId) (a:AV) (v:Value) (h:aA F w a v):aA F w (.iface t a) (.iface t v)
 | nilif:aA F w .nilif .nilIface
 | fn (f:Fn) (c1 c2:List AV) (v1 v2:Array Value) (dR:c1.length=v1.size) (eW:c2.length=v2.size) (h1:∀i x,c1[i]?=some x→aA F w x (v1.getD i undef)) (h2:∀i x,c2[i]?=some x→aA F w x (v2.getD i undef)):aA F w (.fn f c1 c2) (.func f v1 v2)
 | ay:aA F w .ay .nilFunc
 | lM:aA F w .lM (.map none)
 | eB (n:Int) (b:Nat) (h:fZ b n):aA F w (.eB n) (.float .f64 b)
 | ec (n m:Int) (a b:Nat) (h1:fZ a n) (h2:fZ b m):aA F w (.ec n m) (.complex .f64 a b)
 | any (v:Value):aA F w .any v
 | via (x:AV) (v:Value) (hl:x.leaf=true) (h:aA F w x v):aA F w (.via x) v
 | km (b:Nat):aA F w (.km b) (.map (some b))
 | ky (b:Nat):aA F w (.ky b) (.pointer (some ⟨b,0,none⟩))
def fO(F:Nat→Prop)(w:World)(xs:List AV)(vs:Array Value):Prop:=xs.length=vs.size∧∀i x,xs[i]?=some x→aA F w x (vs.getD i undef)
def eu:Nat→List (Int×Int)→List MapEntry
 | _,[]=>[]
 | n,p::l => { key:=.int .i64 p.1,val:=.int .i64 p.2,born:=n }::eu (n+1) l
def sb:AV→Option Obj
 | .kQ l=>some (.map (eu 0 l).toArray l.length)
 | .oa m c s=>some (.mapIter (some m) c s.toArray c)
 | _=>none
def AY(F:Nat→Prop)(w:World)(b:Nat)(cs:List AV):Prop:=
 ∃c T,w.heap[b]?=some (.cells c T (0,0))∧cs.length≤c.size∧∀(i:Nat) (x:AV),cs[i]?=some x→x.leaf=true∧aA F w x (c.getD i undef)
def Holds(F:Nat→Prop)(w:World)(b:Nat)(cs:List AV):Prop:=
 ¬F b∧(AY F w b cs∨(∃x o,cs=[x]∧w.heap[b]?=some o∧sb x=some o)∨∃L t,cs=[.jU L t]∧w.heap[b]?=some (.loop L)∧∀i,aA F w (t i) (L.tmps.getD i undef))
structure aV(F:Nat→Prop)(w:World)(σ:Hp):Prop where
 nodup:(σ.map Prod.fst).Nodup
 holds:∀p∈σ,Holds F w p.1 p.2
 low:∀b,F b→b<w.heap.size
structure a6(F:Nat→Prop)(w:World)(F':Nat→Prop)(w':World):Prop where
 os:w'.os=w.os
 tape:w'.tape=w.tape
 output:w'.output=w.output
 size:w.heap.size≤w'.heap.size
 sub:∀b,F b→F' b
 fix:∀b,F b→w'.heap[b]?=w.heap[b]?
 rows:∀(b:Nat) (c:Array Value) (T:TypeId) (fz:Nat×Nat),w.heap[b]?=some (.cells c T fz)→∃(c':Array Value) (nG:Nat×Nat),w'.heap[b]?=some (.cells c' T nG)∧c'.size=c.size
 drawn:w.drawn≤w'.drawn
def Enters(P:Program)(f:FuncId):Prop:=∀(args:Array Value) (w:World),(callFunc f args).run P w=.ok (.enter f args) w
def ACalls(P:Program)(f:FuncId)(args:List AV)(σ:Hp)(R:AV→Hp→Prop):Prop:=
 Enters P f∧∀F w vs,fO F w args vs→aV F w σ→Calls P f vs w fun e w'=>∃r v σ' F',e=.returned v∧a6 F w F' w'∧aV F' w' σ'∧aA F' w' r v∧R r σ'
def pull(i:Nat)(σ:Hp):Hp:=match σ[i]? with | some p=>p::σ.eraseIdx i | none=>σ
def kK:List Nat→Hp→Hp
 | [],σ=>σ
 | i::r,σ=>pull i (kK r σ)
inductive fT:Hp→Hp→Prop where
 | refl (σ:Hp):fT σ σ
 | pull (js:List Nat) {σ σ2:Hp} (h:fT (kK js σ) σ2):fT σ σ2
 | drop (k n:Nat) {σ σ2:Hp} (h:fT (σ.take k++σ.drop (k+n)) σ2):fT σ σ2
 | perm {σ gN σ2:Hp} (hp:gN.Perm σ) (h:fT gN σ2):fT σ σ2
 | WW (i b':Nat) (cs iq:List AV) {σ σ2:Hp} (hi:σ[i]?=some (b',cs)) (hl:iq.length=cs.length) (hk:∀(k:Nat) (x y:AV),cs[k]?=some x→iq[k]?=some y→x=y∨(x=.aj∧∃e:Sh,y=.af e [])) (h:fT (σ.set i (b',iq)) σ2):fT σ σ2
inductive dp(b off len es:Nat)(e:Sh)(l:List e.T):AV→AV→Prop where
 | here:dp b off len es e l (.ae b off len es) (.af e l)
 | refl (x:AV):dp b off len es e l x x
 | tup (xs ys:List AV) (h:xs.length=ys.length) (hi:∀(i:Nat) (x y:AV),xs[i]?=some x→ys[i]?=some y→dp b off len es e l x y):dp b off len es e l (.tup xs) (.tup ys)
 | agg (xs ys:List AV) (h:xs.length=ys.length) (hl:∀(i:Nat) (y:AV),ys[i]?=some y→y.leaf=true) (hi:∀(i:Nat) (x y:AV),xs[i]?=some x→ys[i]?=some y→dp b off len es e l x y):dp b off len es e l (.agg xs) (.agg ys)
 | nil (e':Sh):dp b off len es e l .aj (.af e' [])
 | eX (e':Sh):dp b off len es e l .eX (.af e' [])
 | via {x y:AV} (h:dp b off len es e l x y):dp b off len es e l (.via x) y
inductive CallAt(P:Program)(f:FuncId)(K:AV→Hp→Prop):List AV→Hp→Prop where
 | mk {args:List AV} {σ:Hp} (js:List Nat) (R:AV→Hp→Prop) (call:ACalls P f args (kK js σ) R) (go:∀r σ',R r σ'→K r σ'):CallAt P f K args σ
 | perm {args:List AV} {σ σ2:Hp} (R:AV→Hp→Prop) (hp:σ2.Perm σ) (call:ACalls P f args σ2 R) (go:∀r σ',R r σ'→∃cR,cR.Perm σ'∧K r cR):CallAt P f K args σ
 | bO {args args':List AV} {σ:Hp} (j b off len es:Nat) (cs:List AV) (e:Sh) (l:List e.T) (h1:σ[j]?=some (b,cs)) (h2:(cs.drop off).take (len*es)=l.flatMap e.cells) (h3:l.length=len∧e.size=es∧0<es) (h4:dp b off len es e l (.tup args) (.tup args')) (h:CallAt P f K args' (σ.eraseIdx j)):CallAt P f K args σ
 | hY {args:List AV} {σ:Hp} (j b off len es:Nat) (cs:List AV) (e:Sh) (l:List e.T) (h1:σ[j]?=some (b,cs)) (h2:(cs.drop off).take (len*es)=l.flatMap e.cells) (h3:l.length=len∧e.size=es∧0<es) (i k b':Nat) (cs':List AV) (hi:(σ.eraseIdx j)[i]?=some (b',cs')) (hk:cs'[k]?=some (.ae b off len es)) (h:CallAt P f K args ((σ.eraseIdx j).set i (b',cs'.set k (.af e l)))):CallAt P f K args σ
inductive pv(P:Program)(f:FuncId)(args:List AV)(σ:Hp)(K:AV→Prop):Prop where
 | mk (js:List Nat) (r:AV) (call:ACalls P f args (kK js σ) (fun r' σ'=>r'=r∧σ'=kK js σ)) (go:K r):pv P f args σ K
 | perm {σ2:Hp} (hp:σ2.Perm σ) (r:AV) (call:ACalls P f args σ2 (fun r' σ'=>r'=r∧σ2.Perm σ')) (go:K r):pv P f args σ K
def AW(P:Program)(l:Nat)(args:List AV)(σ:Hp)(R:AV→Hp→Prop):Prop:=
 ∀F w vs,fO F w args vs→aV F w σ→∃f tmps assign body,(Instr.yield l vs).run P w=.ok (.round l f tmps assign body) w∧
  RoundIn Fence.wide 0 P l f tmps assign body w fun e w'=>∃r v σ' F',e=.returned v∧a6 F w F' w'∧aV F' w' σ'∧aA F' w' r v∧R r σ'
inductive rV(P:Program)(l:Nat)(K:AV→Hp→Prop):List AV→Hp→Prop where
 | mk {args:List AV} {σ:Hp} (js:List Nat) (R:AV→Hp→Prop) (call:AW P l args (kK js σ) R) (go:∀r σ',R r σ'→K r σ'):rV P l K args σ
 | perm {args:List AV} {σ σ2:Hp} (R:AV→Hp→Prop) (hp:σ2.Perm σ) (call:AW P l args σ2 R) (go:∀r σ',R r σ'→∃cR,cR.Perm σ'∧K r cR):rV P l K args σ
section
variable (P:Program) (TT:TypeId→Option TI)
def Meth(t:TypeId)(m:String)(g:FuncId):Prop:=
 ∀(a:Addr) (w:World),(method (P.types.size+Made.depth) t (.pointer (some a)) m).run P w=.ok (g,.pointer (some a)) w
inductive InvAt(t:TypeId)(m:String)(K:FuncId→Prop):Prop where
 | mk (g:FuncId) (h:Meth P t m g) (go:K g):InvAt t m K
def l5(c:Call)(ρ:Operand→AV)(K:FuncId→List AV→Prop)(KY:Nat→List AV→Prop):Prop:=
 match c.callee with
 | .value f=>match ρ f with
  | .fn (.func g) first cap=>K g (first++(c.args.toList.map fun x=>a8 (ρ x))++cap)
  | .fn (.yield l) [] []=>KY l (c.args.toList.map fun x=>a8 (ρ x))
  | _=>False
 | .invoke r m=>match ρ r with
  | .iface t (.ptr b o)=>InvAt P t m fun g=>K g (.ptr b o::c.args.toList.map fun x=>a8 (ρ x))
  | .iface t (.ej cs)=>InvAt P t m fun g=>K g (.ej cs::c.args.toList.map fun x=>a8 (ρ x))
  | _=>False
 | .builtin _=>False
inductive gd(σ:Hp)(es:Nat):AV→Nat→List AV→Prop where
 | aj:gd σ es .aj 0 []
 | ib:gd σ es .ib 0 []
 | eX:gd σ es .eX 0 []
 | af (s:Sh) (l:List s.T) (h:s.size=es):gd σ es (.af s l) l.length (l.flatMap s.cells)
 | ae (j b off len:Nat) (cs:List AV) (h1:σ[j]?=some (b,cs)) (h2:off+len*es≤cs.length):gd σ es (.ae b off len es) len ((cs.drop off).take (len*es))
inductive AG(i:TI)(σ:Hp)(s x:AV)(K:AV→Hp→Prop):Prop where
 | fresh (n:Nat) (new:List AV) (hs:s=.aj∨s=.ib) (hx:gd σ i.size x n new) (hn:n≤1048576) (hb:i.bytes≤1024) (h0:0<i.size) (go:n≠0→∀b,K (.ae b 0 n i.size) ((b,new)::σ)) (same:n=0→K s σ)
 | more (j b len n:Nat) (cs new:List AV) (hs:s=.ae b 0 len i.size) (h1:σ[j]?=some (b,cs)) (h2:len*i.size≤cs.length) (hx:gd σ i.size x n new) (hn:len+n≤1048576) (hb:i.bytes≤1024) (h0:0<i.size)
   (go:∀b',K (.ae b' 0 (len+n) i.size) ((b',cs.take (len*i.size)++new)::σ.eraseIdx j)):AG i σ s x K
 | vh (j b off len n:Nat) (cs new:List AV) (hs:s=.ae b off len i.size) (h1:σ[j]?=some (b,cs)) (h2:off+len*i.size≤cs.length) (hx:gd σ i.size x n new) (hn:len+n≤1048576) (hb:i.bytes≤1024) (h0:0<i.size)
   (sh:K (.ae b off (len+n) i.size) ((b,cs.take (off+len*i.size)++new)::σ.eraseIdx j))
   (go:∀b',K (.ae b' 0 (len+n) i.size) ((b',(cs.drop off).take (len*i.size)++new)::σ.eraseIdx j)):AG i σ s x K
inductive AppendAt(i:TI)(σ:Hp)(s x:AV)(K:AV→Hp→Prop):Prop where
 | fresh (n:Nat) (new:List AV) (hs:s=.aj∨s=.ib) (hx:gd σ i.size x n new) (hn:n≤1048576) (hb:i.bytes≤1024) (h0:0<i.size) (go:n≠0→∀b,K (.ae b 0 n i.size) ((b,new)::σ)) (same:n=0→K s σ)
 | more (j b len n:Nat) (cs new:List AV) (hs:s=.ae b 0 len i.size) (h1:σ[j]?=some (b,cs)) (h2:len*i.size≤cs.length) (hx:gd σ i.size x n new) (hn:len+n≤1048576) (hb:i.bytes≤1024) (h0:0<i.size)
   (go:∀b',K (.ae b' 0 (len+n) i.size) ((b',cs.take (len*i.size)++new)::σ.eraseIdx j)):AppendAt i σ s x K
 | vh (j b off len n:Nat) (cs new:List AV) (hs:s=.ae b off len i.size) (h1:σ[j]?=some (b,cs)) (h2:off+len*i.size≤cs.length) (hx:gd σ i.size x n new) (hn:len+n≤1048576) (hb:i.bytes≤1024) (h0:0<i.size)
   (sh:K (.ae b off (len+n) i.size) ((b,cs.take (off+len*i.size)++new)::σ.eraseIdx j))
   (go:∀b',K (.ae b' 0 (len+n) i.size) ((b',(cs.drop off).take (len*i.size)++new)::σ.eraseIdx j)):AppendAt i σ s x K
 | perm {σ2:Hp} (K2:AV→Hp→Prop) (hp:σ2.Perm σ) (h:AG i σ2 s x K2) (hk:∀v cR,K2 v cR→∃tM,tM.Perm cR∧(K v tM∨(v.leaf=true∧K (.via v) tM))):AppendAt i σ s x K
inductive xj(i:TI)(σ:Hp)(s x:AV)(K:AV→Hp→Prop):Prop where
 | aj (k:IntKind) (n:Int) (hs:s=.aj) (hx:x=.int k n) (hn:0≤n∧n≤1048576) (hb:i.bytes≤1024) (h0:0<i.size) (go:0<n→∀b,K (.ae b 0 n.toNat i.size) ((b,bN i.zero n.toNat)::σ)) (same:n=0→K .aj σ):xj i σ s x K
inductive KK(i:TI)(σ:Hp)(s:AV)(K:Hp→Prop):Prop where
 | none (hs:s=.aj∨s=.ib∨s=.eX) (go:K σ)
 | ae (j b off len:Nat) (cs:List AV) (hs:s=.ae b off len i.size) (h1:σ[j]?=some (b,cs)) (h2:off+len*i.size≤cs.length) (go:K (σ.set j (b,er cs off (bN i.zero len))))
inductive En(i:TI)(σ:Hp)(d x:AV)(K:AV→Hp→Prop):Prop where
 | ae (j b off len n:Nat) (cs new:List AV) (hd:d=.ae b off len i.size) (h1:σ[j]?=some (b,cs)) (h2:off+len*i.size≤cs.length) (hx:gd σ i.size x n new) (hn:n≤len) (go:K (.int .i64 n) (σ.set j (b,er cs off new)))
 | none (new:List AV) (hd:d=.aj∨d=.ib∨d=.eX) (hx:gd σ i.size x 0 new) (go:K (.int .i64 0) σ)
 | part (j b off len:Nat) (cs:List AV) (hd:d=.ae b off len i.size) (h1:σ[j]?=some (b,cs)) (h2:off+len*i.size≤cs.length) (j2 b2 kj n:Nat) (iq:List AV) (hx:x=.ae b2 kj n i.size) (h3:σ[j2]?=some (b2,iq)) (h4:kj+n*i.size≤iq.length) (hn:len≤n) (go:K (.int .i64 len) (σ.set j (b,er cs off ((iq.drop kj).take (len*i.size)))))
def uM(t:TypeId)(m k x:AV)(σ:Hp)(K:AV→Hp→Prop):Prop:=
 match vB TT t,k,x with
 | some _,.int .i64 n,.int .i64 v=>Bl σ m fun j b l=>K .any (σ.set j (b,[.kQ (nh l n v)]))
 | _,_,_=>False
def AK(t:TypeId)(m:AV)(σ:Hp)(K:AV→Hp→Prop):Prop:=
 match vB TT t with
 | some _=>Bl σ m fun _ b l=>∀r,K (.ky r) ((r,[.oa b l.length []])::σ)
 | none=>False
inductive El(σ:Hp)(x:AV)(K:AV→Hp→Prop):Prop where
 | mk (j j2 r b:Nat) (l:List (Int×Int)) (seen:List Nat) (hx:x=.ky r) (h1:σ[j]?=some (r,[.oa b l.length seen])) (h2:σ[j2]?=some (b,[.kQ l]))
   (stop:(∀i:Nat,i<l.length→i∈seen)→K (.tup [.bool false]) σ)
   (go:∀(i:Nat) (p:Int×Int),l[i]?=some p→i ∉ seen→K (.tup [.bool true,.int .i64 p.1,.int .i64 p.2]) (σ.set j (r,[.oa b l.length (seen++[i])]))):El σ x K
inductive DZ(σ:Hp)(x:AV)(K:AV→Hp→Prop):Prop where
 | mk (j j2 r b i:Nat) (l:List (Int×Int)) (p:Int×Int) (seen:List Nat) (hx:x=.ky r) (h1:σ[j]?=some (r,[.oa b l.length (seen++[i])])) (h2:σ[j2]?=some (b,[.kQ l])) (h3:l[i]?=some p)
   (go:K (.tup [.int .i64 p.1,.int .i64 p.2]) σ):DZ σ x K
def eT(o:Op)(ρ:Operand→AV)(σ:Hp)(K:AV→Hp→Prop):Prop:=
 match o with
 | .box _ x=>match (ρ x).cells? with | some cs=>∀b,K (.ptr b 0) ((b,cs)::σ) | none=>False
 | .alloc e=>match TT e with | some i=>∀b,K (.ptr b 0) ((b,i.zero)::σ) | none=>False
 | .buildSlice t len parts=>match TT t with
  | some ⟨.slice e,_,_,_⟩=>match TT e with
   | some i=>match nX ((List.range len).map fun j=>(j*i.size,i.size)) (bN i.zero len) (parts.toList.map fun p=>(p.1,ρ p.2)),Nat.ble (len*i.size) 16777216,Nat.ble 1 i.size with
    | some cs,true,true=>∀b,K (.ae b 0 len i.size) ((b,cs)::σ)
    | _,_,_=>False
   | none=>False
  | _=>False
 | .makeSlice t l c=>match TT t,ρ l,ρ c with
  | some ⟨.slice e,_,_,_⟩,.int _ n,.int _ m=>match TT e with
   | some i=>ah (0≤n∧n≤m∧m≤1048576∧i.bytes≤1024) (∀b,K (.ae b 0 n.toNat i.size) ((b,bN i.zero n.toNat)::σ))
   | none=>False
  | _,_,_=>False
 | .store t a x=>match TT t with
  | some i=>match ρ a with | .ptr b o=>ai i σ b o (ρ x) (fun σ'=>K .any σ') | _=>False
  | none=>False
 | .makeMap t none=>match vB TT t with | some _=>∀b,K (.km b) ((b,[.kQ []])::σ) | none=>False
 | .mapUpdate t m k x=>uM TT t (a8 (ρ m)) (a8 (ρ k)) (a8 (ρ x)) σ K
 | .insert t m k x=>uM TT t (a8 (ρ m)) (a8 (ρ k)) (a8 (ρ x)) σ K
 | .range t x=>AK TT t (a8 (ρ x)) σ K
 | .next x s=>match s with | false=>El σ (a8 (ρ x)) K | true=>False
 | .entry x=>DZ σ (a8 (ρ x)) K
 | .call ⟨.builtin .append,args,bK⟩=>match args.toList,bK.toList with
  | [s,x],[t,t']=>match TT t,TT t' with
   | some ⟨.slice e,_,_,_⟩,some ⟨.slice _,_,_,_⟩=>match TT e with | some i=>AppendAt i σ (a8 (ρ s)) (a8 (ρ x)) K | none=>False
   | some ⟨.slice e,_,_,_⟩,some ⟨.int _,_,_,_⟩=>match TT e with | some i=>xj i σ (a8 (ρ s)) (a8 (ρ x)) K | none=>False
   | _,_=>False
  | _,_=>False
 | .call ⟨.builtin .clear,args,bK⟩=>match args.toList,bK.toList with
  | [s],[t]=>match TT t with
   | some ⟨.slice e,_,_,_⟩=>match TT e with | some i=>KK i σ (a8 (ρ s)) (fun σ'=>K (.tup []) σ') | none=>False
   | _=>False
  | _,_=>False
 | .call ⟨.builtin .copy,args,bK⟩=>match args.toList,bK.toList with
  | [d,x],[t,t']=>match TT t,TT t' with
   | some ⟨.slice e,_,_,_⟩,some ⟨.slice _,_,_,_⟩=>match TT e with | some i=>En i σ (a8 (ρ d)) (a8 (ρ x)) K | none=>False
   | _,_=>False
  | _,_=>False
 | .call ⟨.builtin b,args,bK⟩=>dW P TT (.call ⟨.builtin b,args,bK⟩) ρ σ (fun v=>K v σ)
 | .call c=>l5 P c ρ (fun f xs=>CallAt P f K xs σ) (fun l xs=>rV P l K xs σ)
 | o=>dW P TT o ρ σ (fun v=>K v σ)
def lB(ops:List Oper)(o:Oper)(t:Tm)(A B:Prop):Prop:=
 match o.guard with
 | none=>A
 | some (j,want)=>match (ops[j]?).bind (·.dst) with
  | some d=>match t d with
   | .bool b=>(match want,b with | true,true=>A | true,false=>B | false,true=>B | false,false=>A)
   | .tup []=>B
   | _=>False
  | none=>False
def Md(ops:List Oper)(l:List Oper):Tm→Hp→(Tm→Hp→Prop)→Prop:=
 List.rec (motive:=fun _=>Tm→Hp→(Tm→Hp→Prop)→Prop) (fun t σ K=>K t σ)
  (fun o _ ih t σ K=>lB ops o t (eT P TT o.op (ev t) σ fun v σ'=>ih (put t o.dst v) σ' K) (ih (put t o.dst (.tup [])) σ K)) l
def qQ(o:Op)(ρ:Operand→AV)(σ:Hp)(K:AV→Prop):Prop:=
 match o with
 | .call ⟨.builtin b,args,bK⟩=>dW P TT (.call ⟨.builtin b,args,bK⟩) ρ σ K
 | .call c=>l5 P c ρ (fun f xs=>pv P f xs σ K) (fun _ _=>False)
 | o=>dW P TT o ρ σ K
def Bo(ops:List Oper)(l:List Oper):Tm→Hp→(Tm→Prop)→Prop:=
 List.rec (motive:=fun _=>Tm→Hp→(Tm→Prop)→Prop) (fun t _ K=>K t)
  (fun o _ ih t σ K=>lB ops o t (qQ P TT o.op (ev t) σ fun v=>ih (put t o.dst v) σ K) (ih (put t o.dst (.tup [])) σ K)) l
def blind:Op→Bool
 | .move _ | .assign _ | .pick .. | .build .. | .nilCheck _ | .binOp .. | .unOp .. | .convert .. | .makeInterface .. | .makeFunc .. | .slice .. | .fieldAddr .. | .field .. | .indexAddr .. | .extract .. | .typeAssert .. => true
 | .call ⟨.builtin .len,_,_⟩ | .call ⟨.builtin .min,_,_⟩ | .call ⟨.builtin .max,_,_⟩=>true
 | _=>false
def fI(ops:List Oper)(ax:List Bool):List Nat:=
 (List.range ops.length).filter fun i => !ax.getD i true && (match ops[i]? with | some o=>o.after.toList.all fun e => !Region.binds .any e || ax.getD e.on false | none=>false)
def vA(ops:List Oper)(i:Nat)(t:Tm)(σ:Hp)(K:Tm→Hp→Prop):Prop:=
 match ops[i]? with
 | some o=>lB ops o t (eT P TT o.op (ev t) σ fun v σ'=>K (put t o.dst v) σ') (K (put t o.dst (.tup [])) σ)
 | none=>False
def Fk(f:Nat→Prop)(l:List Nat):Prop:=
 List.rec (motive:=fun _=>Prop) True (fun i r ih=>match r with | []=>f i | _=>f i∧ih) l
def o9:Op→Bool
 | .load _ _=>true
 | _=>false
def kU(o:Op):Bool:= !(blind o || o9 o)
def l7(o:Oper)(j:Nat):Bool:=o.after.toList.any fun e=>Region.binds .any e && Nat.beq e.on j
def VW(ops:List Oper)(ax:List Bool)(i:Nat):Bool:=ops.zipIdx.all fun (o,j) => !kU o.op || ax.getD j false || l7 o i
def D6(ops:List Oper)(ax:List Bool)(i:Nat):Bool:=
 match ops[i]? with
 | some o=>blind o.op || (o9 o.op && VW ops ax i)
 | none=>false
def qI(ops:List Oper)(n:Nat):List Bool→Tm→Hp→(Tm→Hp→Prop)→Prop:=
 Nat.rec (motive:=fun _=>List Bool→Tm→Hp→(Tm→Hp→Prop)→Prop) (fun _ _ _ _=>False)
  (fun _ ih ax t σ K=>match fI ops ax with
   | []=>K t σ
   | i::r=>match (i::r).find? (D6 ops ax) with
    | some j=>vA P TT ops j t σ fun t' σ'=>ih (ax.set j true) t' σ' K
    | none=>Fk (fun j=>vA P TT ops j t σ fun t' σ'=>ih (ax.set j true) t' σ' K) (i::r)) n
theorem II{ops:List Oper}{n:Nat}{ax:List Bool}{t:Tm}{σ:Hp}{K:Tm→Hp→Prop}:qI P TT ops (n+1) ax t σ K=(match fI ops ax with
   | []=>K t σ
   | i::r=>match (i::r).find? (D6 ops ax) with
    | some j=>vA P TT ops j t σ fun t' σ'=>qI P TT ops n (ax.set j true) t' σ' K
    | none=>Fk (fun j=>vA P TT ops j t σ fun t' σ'=>qI P TT ops n (ax.set j true) t' σ' K) (i::r)):=rfl
def td(ops:List Oper)(o:Oper):List Tmp:=
 (o.op.operands.toList.filterMap fun | .tmp t=>some t | _=>none)++(match o.guard with | some (g,_)=>((ops[g]?).bind (·.dst)).toList | none=>[])
def Aq(ops:List Oper):Bool:=
 let z:=ops.zipIdx
 z.all fun (o,i) =>
  (o.after.toList.all fun e => !Region.binds .any e || Nat.blt e.on i) &&
  (z.all fun (p,j)=>match p.dst with
   | none=>true
   | some d=>(Nat.beq i j || match o.dst with | some d' => !Nat.beq d d' | none=>true) &&
    (!(td ops o).any (Nat.beq d) || Nat.beq i j || (Nat.blt j i && l7 o j) || (Nat.blt i j && l7 p i)))
def nQ(ops:List Oper):Bool:=
 let z:=ops.zipIdx
 z.all fun (o,i)=>(match o.op with | .select .. => false | _=>true) && z.all fun (p,j)=>Nat.beq i j || l7 o j || l7 p i || o.apart ops.toArray p
def jZ(g:Tm):List (Nat×AV)→Tm
 | []=>g
 | (i,v)::r=>fun j=>match Nat.beq j i with | true=>v | false=>jZ g r j
def agree(t:Tm):List (Nat×AV)→Prop
 | []=>True
 | (i,v)::r=>t i=v∧agree t r
theorem uE{t:Tm}{l:List (Nat×AV)}(h:agree t l):t=jZ t l:=by
 induction l with
 | nil=>rfl
 | cons p r ih =>
  obtain⟨i,v⟩:=p
  obtain⟨h1,h2⟩:=h
  funext j
  show t j=(match Nat.beq j i with | true=>v | false=>jZ t r j)
  cases hb:Nat.beq j i with
  | true=>rw[Nat.eq_of_beq_eq_true hb];exact h1
  | false=>exact congrFun (ih h2) j
inductive bV{S:Type}(L:S→List (Nat×AV))(H:S→Hp)(t':Tm)(σ':Hp):Prop where
 | mk (s:S) (h3:agree t' (L s)) (h4:fT σ' (H s)):bV L H t' σ'
def gv(ops:List Oper)(q:Bool)(i:Nat)(t:Tm)(σ:Hp)(K:Tm→Hp→Prop):Prop:=
 match ops[i]? with
 | some o=>match q with
  | true=>lB ops o t (qQ P TT o.op (ev t) σ fun v=>K (put t o.dst v) σ) (K (put t o.dst (.tup [])) σ)
  | false=>lB ops o t (eT P TT o.op (ev t) σ fun v σ'=>K (put t o.dst v) σ') (K (put t o.dst (.tup [])) σ)
 | none=>False
def dB(j:Nat)(l:List Nat):Bool:=l.any (Nat.beq j)
def mn(ops:List Oper)(Q:List Nat)(n:Nat):List Bool→Tm→Hp→(Tm→Hp→Prop)→Prop:=
 Nat.rec (motive:=fun _=>List Bool→Tm→Hp→(Tm→Hp→Prop)→Prop) (fun _ _ _ _=>False)
  (fun _ ih ax t σ K=>(fI ops ax=[]→K t σ)∧∀i∈fI ops ax,gv P TT ops (dB i Q) i t σ fun t' σ'=>ih (ax.set i true) t' σ' K) n
def EV(o:Oper)(acc:List (List Nat)):List Nat:=o.after.toList.flatMap fun e=>match Region.binds .any e with | true=>e.on::(acc[e.on]?).getD [] | false=>[]
def Eo:List Oper→List (List Nat)→List (List Nat)
 | [],acc=>acc
 | o::os,acc=>Eo os (acc++[(EV o acc).eraseDups])
def qF(ops:List Oper)(Q:List Nat)(k:Nat):Bool:=match ops[k]? with | some o=>kU o.op && !dB k Q | none=>false
def A3:Op→Bool
 | .alloc _ | .box _ _=>true
 | _=>false
def xP(ops:List Oper)(k:Nat):Bool:=match ops[k]? with | some o=>A3 o.op | none=>false
def uY(ops:List Oper)(rows:List (List Nat))(Q:List Nat)(ax:List Bool)(j:Nat):Bool:=
 match ops[j]? with
 | some o=>(blind o.op && !dB j Q) || ((o9 o.op || dB j Q) && (List.range ops.length).all fun k=>ax.getD k false || !qF ops Q k || dB j ((rows[k]?).getD []) || (o9 o.op && !dB j Q && xP ops k))
 | none=>false
inductive mP where
 | stop
 | one (j:Nat) (q:Bool) (s:mP)
 | alt (j:Nat) (s r:mP)
 | ML (j:Nat) (s r:mP)
def iR(ops:List Oper)(rows:List (List Nat))(Q:List Nat):mP→Nat→List Nat→List Bool→Bool
 | .stop,n,ki,ax=>match n,ki,fI ops ax with | _+1,[],[]=>true | _,_,_=>false
 | .one j q s,n,ki,ax=>match n,ki with
  | n+1,[]=>(dB j Q == q) && dB j (fI ops ax) && (uY ops rows Q ax j || (match fI ops ax with | [i]=>Nat.beq i j | _=>false)) && iR ops rows Q s n [] (ax.set j true)
  | n,[i]=>(dB j Q == q) && Nat.beq i j && iR ops rows Q s n [] (ax.set j true)
  | _,_=>false
 | .alt j s r,n,ki,ax=>match n,ki with
  | n+1,[]=>(match fI ops ax with
   | i::i2::l=>Nat.beq i j && !dB j Q && iR ops rows Q s n [] (ax.set j true) && iR ops rows Q r n (i2::l) ax
   | _=>false)
  | n,i::i2::l=>Nat.beq i j && !dB j Q && iR ops rows Q s n [] (ax.set j true) && iR ops rows Q r n (i2::l) ax
  | _,_=>false
 | .ML j s r,n,ki,ax=>match n,ki with
  | n+1,[]=>(match fI ops ax with
   | i::i2::l=>Nat.beq i j && dB j Q && iR ops rows Q s n [] (ax.set j true) && iR ops rows Q r n (i2::l) ax
   | _=>false)
  | n,i::i2::l=>Nat.beq i j && dB j Q && iR ops rows Q s n [] (ax.set j true) && iR ops rows Q r n (i2::l) ax
  | _,_=>false
def qA(ops:List Oper)(s:mP):Tm→Hp→(Tm→Hp→Prop)→Prop:=
 mP.rec (motive:=fun _=>Tm→Hp→(Tm→Hp→Prop)→Prop) (fun t σ K=>K t σ)
  (fun j q _ ih t σ K=>gv P TT ops q j t σ fun t' σ'=>ih t' σ' K)
  (fun j _ _ ih gz t σ K=>gv P TT ops false j t σ (fun t' σ'=>ih t' σ' K)∧gz t σ K)
  (fun j _ _ ih gz t σ K=>gv P TT ops true j t σ (fun t' σ'=>ih t' σ' K)∧gz t σ K) s
def Ws:Op→Bool
 | .call ⟨.builtin _,_,_⟩=>false
 | .call _=>true
 | _=>false
def AL(ops:List Oper)(Q:List Nat)(s:mP):Bool:=
 nQ ops && Q.all (fun j=>match ops[j]? with | some o=>Ws o.op | none=>false) && iR ops (Eo ops []) Q s (ops.length+1) [] (List.replicate ops.length false)
inductive eK(ops:List Oper)(K:Tm→Hp→Prop):Tm→Hp→Prop where
 | quiet {t:Tm} {σ:Hp} (h0:Aq ops=true) (h:Bo P TT ops ops t σ fun t'=>K t' σ):eK ops K t σ
 | each {t:Tm} {σ:Hp} (h0:nQ ops=true) (h:qI P TT ops (ops.length+1) (List.replicate ops.length false) t σ K):eK ops K t σ
 | sched {t:Tm} {σ:Hp} (Q:List Nat) (s:mP) (h0:AL ops Q s=true) (h:qA P TT ops s t σ K):eK ops K t σ
 | meet {t:Tm} {σ:Hp} {S:Type} (L:S→List (Nat×AV)) (H:S→Hp) (h0:nQ ops=true) (h:qI P TT ops (ops.length+1) (List.replicate ops.length false) t σ (bV L H)) (go:∀s g,K (jZ g (L s)) (H s)):eK ops K t σ
 | Ev {t:Tm} {σ:Hp} {S:Type} (Q:List Nat) (s:mP) (L:S→List (Nat×AV)) (H:S→Hp) (h0:AL ops Q s=true) (h:qA P TT ops s t σ (bV L H)) (go:∀s g,K (jZ g (L s)) (H s)):eK ops K t σ
 | bO {t t':Tm} {σ:Hp} (j b off len es:Nat) (cs:List AV) (e:Sh) (l:List e.T) (h1:σ[j]?=some (b,cs)) (h2:(cs.drop off).take (len*es)=l.flatMap e.cells) (h3:l.length=len∧e.size=es∧0<es) (h4:∀i,dp b off len es e l (t i) (t' i)) (h:eK ops K t' (σ.eraseIdx j)):eK ops K t σ
 | cz {t:Tm} {σ σ2:Hp} (h1:fT σ σ2) (h:eK ops K t σ2):eK ops K t σ
inductive Ex where
 | normal | exit (id:Nat) | goto (l:Nat) | ret
def Head{S:Type}(L:S→List (Nat×AV))(H:S→Hp)(p:S→Prop)(μ:S→Nat)(m:Nat)(t:Tm)(σ:Hp):Prop:=∃s g,m=μ s∧p s∧t=jZ g (L s)∧σ=H s
inductive lH{S:Type}(L:S→List (Nat×AV))(H:S→Hp)(p:S→Prop)(μ:S→Nat)(s:S):Tm→Hp→Prop where
 | mk {t':Tm} {σ':Hp} (s':S) (h1:μ s'<μ s) (h2:p s') (h3:agree t' (L s')) (h4:fT σ' (H s')):lH L H p μ s t' σ'
 | bO {t' t2:Tm} {σ':Hp} (j b off len es:Nat) (cs:List AV) (e:Sh) (l:List e.T) (h1:σ'[j]?=some (b,cs)) (h2:(cs.drop off).take (len*es)=l.flatMap e.cells) (h3:l.length=len∧e.size=es∧0<es) (h4:∀i,dp b off len es e l (t' i) (t2 i)) (h:lH L H p μ s t2 (σ'.eraseIdx j)):lH L H p μ s t' σ'
 | hY {t':Tm} {σ':Hp} (j b off len es:Nat) (cs:List AV) (e:Sh) (l:List e.T) (h1:σ'[j]?=some (b,cs)) (h2:(cs.drop off).take (len*es)=l.flatMap e.cells) (h3:l.length=len∧e.size=es∧0<es) (i k b':Nat) (cs':List AV) (hi:(σ'.eraseIdx j)[i]?=some (b',cs')) (hk:cs'[k]?=some (.ae b off len es)) (h:lH L H p μ s t' ((σ'.eraseIdx j).set i (b',cs'.set k (.af e l)))):lH L H p μ s t' σ'
 | cz {t':Tm} {σ' σ2:Hp} (h1:fT σ' σ2) (h:lH L H p μ s t' σ2):lH L H p μ s t' σ'
 | nil {t' t2:Tm} {σ':Hp} (h4:∀i,dp 0 0 0 0 .bool [] (t' i) (t2 i)) (h:lH L H p μ s t2 σ'):lH L H p μ s t' σ'
inductive jX(body:Tm→Hp→(Ex→Tm→Hp→Prop)→Prop)(Q:Ex→Tm→Hp→Prop):Tm→Hp→Prop where
 | mk {t:Tm} {σ:Hp} {S:Type} (L:S→List (Nat×AV)) (H:S→Hp) (p:S→Prop) (μ:S→Nat) (s0:S) (h0:p s0∧agree t (L s0)∧σ=H s0)
   (round:∀s g,p s→body (jZ g (L s)) (H s) (fun e t' σ'=>match e with | .normal=>lH L H p μ s t' σ' | e=>Q e t' σ')):jX body Q t σ
 | bO {t t':Tm} {σ:Hp} (j b off len es:Nat) (cs:List AV) (e:Sh) (l:List e.T) (h1:σ[j]?=some (b,cs)) (h2:(cs.drop off).take (len*es)=l.flatMap e.cells) (h3:l.length=len∧e.size=es∧0<es) (h4:∀i,dp b off len es e l (t i) (t' i)) (h:jX body Q t' (σ.eraseIdx j)):jX body Q t σ
 | cz {t:Tm} {σ σ2:Hp} (h1:fT σ σ2) (h:jX body Q t σ2):jX body Q t σ
 | wrap {t:Tm} {σ:Hp} (k:Nat) (v:AV) (h1:t k=v) (h2:v.leaf=true) (h:jX body Q (jZ t [(k,.via v)]) σ):jX body Q t σ
 | nil {t t':Tm} {σ:Hp} (h4:∀i,dp 0 0 0 0 .bool [] (t i) (t' i)) (h:jX body Q t' σ):jX body Q t σ
def LU(R:Nat→Tm→Hp→(Ex→Tm→Hp→Prop)→Prop)(k:Nat):Nat→Tm→Hp→(Ex→Tm→Hp→Prop)→Prop:=
 Nat.rec (motive:=fun _=>Nat→Tm→Hp→(Ex→Tm→Hp→Prop)→Prop) (fun _ _ _ _=>False)
  (fun _ ih l t σ Q=>R l t σ fun e t' σ'=>match e with | .goto l'=>ih l' t' σ' Q | e=>Q e t' σ') k
inductive nf{S:Type}(eo:S→Nat)(L:S→List (Nat×AV))(H:S→Hp)(p:S→Prop)(μ:S→Nat)(s:S)(l:Nat):Tm→Hp→Prop where
 | mk {t':Tm} {σ':Hp} (s':S) (h0:l=eo s') (h1:μ s'<μ s) (h2:p s') (h3:agree t' (L s')) (h4:fT σ' (H s')):nf eo L H p μ s l t' σ'
 | bO {t' t2:Tm} {σ':Hp} (j b off len es:Nat) (cs:List AV) (e:Sh) (d:List e.T) (h1:σ'[j]?=some (b,cs)) (h2:(cs.drop off).take (len*es)=d.flatMap e.cells) (h3:d.length=len∧e.size=es∧0<es) (h4:∀i,dp b off len es e d (t' i) (t2 i)) (h:nf eo L H p μ s l t2 (σ'.eraseIdx j)):nf eo L H p μ s l t' σ'
 | hY {t':Tm} {σ':Hp} (j b off len es:Nat) (cs:List AV) (e:Sh) (d:List e.T) (h1:σ'[j]?=some (b,cs)) (h2:(cs.drop off).take (len*es)=d.flatMap e.cells) (h3:d.length=len∧e.size=es∧0<es) (i k b':Nat) (cs':List AV) (hi:(σ'.eraseIdx j)[i]?=some (b',cs')) (hk:cs'[k]?=some (.ae b off len es)) (h:nf eo L H p μ s l t' ((σ'.eraseIdx j).set i (b',cs'.set k (.af e d)))):nf eo L H p μ s l t' σ'
 | cz {t':Tm} {σ' σ2:Hp} (h1:fT σ' σ2) (h:nf eo L H p μ s l t' σ2):nf eo L H p μ s l t' σ'
 | nil {t' t2:Tm} {σ':Hp} (h4:∀i,dp 0 0 0 0 .bool [] (t' i) (t2 i)) (h:nf eo L H p μ s l t2 σ'):nf eo L H p μ s l t' σ'
inductive ng(R:Nat→Tm→Hp→(Ex→Tm→Hp→Prop)→Prop)(l:Nat)(Q:Ex→Tm→Hp→Prop):Tm→Hp→Prop where
 | fwd {t:Tm} {σ:Hp} (k:Nat) (h:LU R k l t σ Q):ng R l Q t σ
 | loop {t:Tm} {σ:Hp} {S:Type} (eo:S→Nat) (L:S→List (Nat×AV)) (H:S→Hp) (p:S→Prop) (μ:S→Nat) (s0:S) (h0:l=eo s0∧p s0∧agree t (L s0)∧fT σ (H s0))
   (round:∀s g,p s→R (eo s) (jZ g (L s)) (H s) (fun e t' σ'=>match e with | .goto l'=>nf eo L H p μ s l' t' σ' | e=>Q e t' σ')):ng R l Q t σ
 | bO {t t':Tm} {σ:Hp} (j b off len es:Nat) (cs:List AV) (e:Sh) (d:List e.T) (h1:σ[j]?=some (b,cs)) (h2:(cs.drop off).take (len*es)=d.flatMap e.cells) (h3:d.length=len∧e.size=es∧0<es) (h4:∀i,dp b off len es e d (t i) (t' i)) (h:ng R l Q t' (σ.eraseIdx j)):ng R l Q t σ
 | cz {t:Tm} {σ σ2:Hp} (h1:fT σ σ2) (h:ng R l Q t σ2):ng R l Q t σ
 | wrap {t:Tm} {σ:Hp} (k:Nat) (v:AV) (h1:t k=v) (h2:v.leaf=true) (h:ng R l Q (jZ t [(k,.via v)]) σ):ng R l Q t σ
def ER(l:Nat)(rd:AV)(dn:Ex→AV)(R1:Ex→Hp→Prop)(r:AV)(σ':Hp):Prop:=
 (r=.bool true∧∃σ2,σ'=(l,[rd])::σ2∧R1 .normal σ2)∨(r=.bool false∧∃e σ2,e≠.normal∧σ'=(l,[dn e])::σ2∧R1 e σ2)
def VU(l:Nat)(rd:AV)(dn:Ex→AV)(K:Ex→Hp→Prop)(_:AV)(σ':Hp):Prop:=
 (∃σ2,σ'=(l,[rd])::σ2∧K .normal σ2)∨(∃e σ2,e≠.normal∧σ'=(l,[dn e])::σ2∧K e σ2)
inductive vd(P:Program)(gf:FuncId)(cap:List AV)(m:Nat)(B:List AV→Hp→(Ex→Hp→Prop)→Prop)(K:Ex→Hp→Prop):Hp→Prop where
 | mk {σ:Hp} (go:∀(l:Nat) (rd:AV) (dn:Ex→AV),(∀(xs:List AV) (gN:Hp) (R1:Ex→Hp→Prop),xs.length=m→B xs gN R1→AW P l xs ((l,[rd])::gN) (ER l rd dn R1))→
   ACalls P gf (.fn (.yield l) [] []::cap) ((l,[rd])::σ) (VU l rd dn K)):vd P gf cap m B K σ
 | cz {σ σ2:Hp} (h1:fT σ σ2) (h:vd P gf cap m B K σ2):vd P gf cap m B K σ
def vI:List Tmp→List AV→Tm→Tm
 | p::ps,x::xs,t=>vI ps xs (put t (some p) x)
 | _,_,t=>t
def codeF(rec:Code→Tm→Hp→(Ex→Tm→Hp→Prop)→Prop)(c:Code)(t:Tm)(σ:Hp)(Q:Ex→Tm→Hp→Prop):Prop:=
 match c with
 | .skip=>Q .normal t σ
 | .label _=>Q .normal t σ
 | .exit id=>Q (.exit id) t σ
 | .goto l=>Q (.goto l) t σ
 | .ret=>Q .ret t σ
 | .region _ ops draw=>match draw with
  | false=>Md P TT ops.toList ops.toList t σ (Q .normal)
  | true=>eK P TT ops.toList (Q .normal) t σ
 | .seq a b=>rec a t σ fun e t' σ'=>match e with | .normal=>rec b t' σ' Q | e=>Q e t' σ'
 | .cond c a b=>match ev t c with | .bool x=>(match x with | true=>rec a t σ Q | false=>rec b t σ Q) | _=>False
 | .block id c=>rec c t σ fun e t' σ'=>match e with
  | .exit i=>(match Nat.beq i id with | true=>Q .normal t' σ' | false=>Q (.exit i) t' σ')
  | e=>Q e t' σ'
 | .loop c=>jX (fun t σ Q=>rec c t σ Q) Q t σ
 | .scope c=>rec c t σ fun e t' σ'=>match e with
  | .goto l=>ng (fun l t σ Q=>match findLabel c l with | some r=>rec r t σ Q | none=>False) l Q t' σ'
  | e=>Q e t' σ'
 | .rangeFunc g ps assign body=>match ev t g with
  | .fn (.func gf) [] cap=>vd P gf cap ps.size (fun xs gN R1=>rec assign (vI ps.toList xs t) gN fun e t' σ'=>match e with | .normal=>rec body t' σ' (fun e _ gX=>R1 e gX) | _=>False) (fun e σ'=>Q e t σ') σ
  | _=>False
 | _=>False
def jW(n:Nat):Code→Tm→Hp→(Ex→Tm→Hp→Prop)→Prop:=
 Nat.rec (motive:=fun _=>Code→Tm→Hp→(Ex→Tm→Hp→Prop)→Prop) (fun _ _ _ _=>False) (fun _ ih=>codeF P TT ih) n
end
end Go.Proofs.YtnpidbjdilnhlaaGreat
