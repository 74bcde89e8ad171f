import Derived.Laws.ComplexArith
import Derived.RangeFuncRecord
import Derived.Test.YtnpidbjdilnhlaaGreatBn1
namespace Go.Proofs.YtnpidbjdilnhlaaGreat
open Ieee
def l6(d:Datum)(N:Int):Prop:=∃s m p,d=.number s m p∧m*2 ^ p.toNat=N.natAbs*2 ^ (-p).toNat∧(N≠0→s=decide (N<0))
theorem xp(m k:Nat):m <<< k=m*2 ^ k:=Nat.shiftLeft_eq m k
theorem SO(s:Bool)(m u:Nat):(signed s m u).natAbs=m*2 ^ u:=by
 unfold signed
 rw[xp]
 split
 ·rw[Int.natAbs_neg,Int.natAbs_natCast]
 ·rw[Int.natAbs_natCast]
theorem Gr{m A:Nat}{p base:Int}(h:m*2 ^ p.toNat=A*2 ^ (-p).toNat)(hb:base≤p):m*2 ^ (p-base).toNat*2 ^ base.toNat=A*2 ^ (-base).toNat:=by
 rcases Int.lt_or_le base 0 with h0 | h0
 ·rcases Int.lt_or_le p 0 with h1 | h1
  ·have e1:p.toNat=0:=by omega
   have e2:base.toNat=0:=by omega
   rw[e1,Nat.pow_zero,Nat.mul_one]at h
   rw[e2,Nat.pow_zero,Nat.mul_one,h,Nat.mul_assoc,← Nat.pow_add]
   congr 2;omega
  ·have e1:(-p).toNat=0:=by omega
   have e2:base.toNat=0:=by omega
   have e3:(p-base).toNat=p.toNat+(-base).toNat:=by omega
   rw[e1,Nat.pow_zero,Nat.mul_one]at h
   rw[e2,Nat.pow_zero,Nat.mul_one,e3,Nat.pow_add,← Nat.mul_assoc,h]
 ·have e1:(-p).toNat=0:=by omega
  have e2:(-base).toNat=0:=by omega
  rw[e1,Nat.pow_zero,Nat.mul_one]at h
  rw[e2,Nat.pow_zero,Nat.mul_one,Nat.mul_assoc,← Nat.pow_add,← h]
  congr 2;omega
theorem F4{s:Bool}{m u:Nat}{N:Int}{A B:Nat}(h:m*2 ^ u*A=N.natAbs*B)(hs:N≠0→s=decide (N<0))(hA:0<A):signed s m u*(A:Int)=N*(B:Int):=by
 have h':((m*2 ^ u:Nat):Int)*(A:Int)=(N.natAbs:Int)*(B:Int):=by exact_mod_cast h
 by_cases h0:N=0
 ·subst h0
  have hm:m*2 ^ u=0:=by
   have:m*2 ^ u*A=0:=by rw[h];simp
   rcases Nat.mul_eq_zero.1 this with h1 | h1
   ·exact h1
   ·omega
  have:signed s m u=0:=Int.natAbs_eq_zero.1 (by rw[SO,hm])
  rw[this];simp
 ·have hs:=hs h0
  subst hs
  unfold signed
  rw[xp]
  by_cases hn:N<0
  ·rw[decide_eq_true hn,if_pos rfl,Int.neg_mul,h',← Int.neg_mul]
   congr 1;omega
  ·rw[decide_eq_false hn,if_neg (by decide),h']
   congr 1;omega
theorem nB(k:Nat):0<2 ^ k:=Nat.two_pow_pos k
theorem Mp{d e:Datum}{N M:Int}(hd:l6 d N)(he:l6 e M):∃x,d.sum e=some x∧l6 x (N+M):=by
 obtain⟨s,m,i,rfl,h1,h2⟩:=hd
 obtain⟨t,n,j,rfl,h3,h4⟩:=he
 refine⟨_,rfl,_,_,_,rfl,?_,?_⟩
 all_goals
  have e1:=F4 (Gr h1 (Int.min_le_left i j)) h2 (nB _)
  have e2:=F4 (Gr h3 (Int.min_le_right i j)) h4 (nB _)
  have e3:(signed s m (i-min i j).toNat+signed t n (j-min i j).toNat)*((2 ^ (min i j).toNat:Nat):Int)=(N+M)*((2 ^ (-(min i j)).toNat:Nat):Int):=by rw[Int.add_mul,e1,e2,Int.add_mul]
 ·have:=congrArg Int.natAbs e3
  rw[Int.natAbs_mul,Int.natAbs_mul,Int.natAbs_natCast,Int.natAbs_natCast]at this
  exact this
 ·intro aI
  generalize signed s m (i-min i j).toNat+signed t n (j-min i j).toNat=T at e3
  have hp:=nB (min i j).toNat
  have hq:=nB (-(min i j)).toNat
  generalize (2:Nat) ^ (min i j).toNat=P at e3 hp
  generalize (2:Nat) ^ (-(min i j)).toNat=Q at e3 hq
  have hT:T≠0:=by
   intro h0
   rw[h0,Int.zero_mul]at e3
   rcases Int.mul_eq_zero.1 e3.symm with h5 | h5
   ·exact aI h5
   ·omega
  rw[if_neg hT]
  refine decide_eq_decide.2 ⟨fun h =>?_,fun h =>?_⟩
  ·have:T*(P:Int)<0:=Int.mul_neg_of_neg_of_pos h (by omega)
   rw[e3]at this
   rcases Int.lt_or_le (N+M) 0 with h5 | h5
   ·exact h5
   ·have:=Int.mul_nonneg h5 (show (0:Int)≤Q by omega)
    omega
  ·have:(N+M)*(Q:Int)<0:=Int.mul_neg_of_neg_of_pos h (by omega)
   rw[← e3]at this
   rcases Int.lt_or_le T 0 with h5 | h5
   ·exact h5
   ·have:=Int.mul_nonneg h5 (show (0:Int)≤P by omega)
    omega
theorem Mq{d:Datum}{N:Int}(h:l6 d N):l6 d.opposite (-N):=by
 obtain⟨s,m,p,rfl,h1,h2⟩:=h
 refine⟨_,_,_,rfl,by rw[Int.natAbs_neg];exact h1,fun aI =>?_⟩
 rw[h2 (by omega)]
 by_cases hn:N<0
 ·rw[decide_eq_true hn,decide_eq_false (by omega)];rfl
 ·rw[decide_eq_false hn,decide_eq_true (by omega)];rfl
theorem Tb{d e:Datum}{N M:Int}(hd:l6 d N)(he:l6 e M):∃x,d.product e=some x∧l6 x (N*M):=by
 obtain⟨s,m,i,rfl,h1,h2⟩:=hd
 obtain⟨t,n,j,rfl,h3,h4⟩:=he
 refine⟨_,rfl,_,_,_,rfl,?_,fun aI =>?_⟩
 ·rw[Int.natAbs_mul]
  have h5:(m*2 ^ i.toNat)*(n*2 ^ j.toNat)=(N.natAbs*2 ^ (-i).toNat)*(M.natAbs*2 ^ (-j).toNat):=by rw[h1,h3]
  obtain⟨c,km,lO⟩:∃c,i.toNat+j.toNat=(i+j).toNat+c∧(-i).toNat+(-j).toNat=(-(i+j)).toNat+c:=⟨i.toNat+j.toNat-(i+j).toNat,by omega,by omega⟩
  have e1:(m*2 ^ i.toNat)*(n*2 ^ j.toNat)=(m*n*2 ^ (i+j).toNat)*2 ^ c:=by
   rw[Nat.mul_assoc (m*n),← Nat.pow_add,← km,Nat.pow_add];ac_rfl
  have e2:(N.natAbs*2 ^ (-i).toNat)*(M.natAbs*2 ^ (-j).toNat)=(N.natAbs*M.natAbs*2 ^ (-(i+j)).toNat)*2 ^ c:=by
   rw[Nat.mul_assoc (N.natAbs*M.natAbs),← Nat.pow_add,← lO,Nat.pow_add];ac_rfl
  rw[e1,e2]at h5
  exact Nat.eq_of_mul_eq_mul_right (nB c) h5
 ·have hN:N≠0:=fun h=>aI (by rw[h,Int.zero_mul])
  have hM:M≠0:=fun h=>aI (by rw[h,Int.mul_zero])
  rw[h2 hN,h4 hM]
  rcases Int.lt_or_gt_of_ne hN with a | a <;> rcases Int.lt_or_gt_of_ne hM with b | b
  ·have:=Int.mul_pos_of_neg_of_neg a b
   rw[decide_eq_true a,decide_eq_true b,decide_eq_false (by omega)];rfl
  ·have:=Int.mul_neg_of_neg_of_pos a b
   rw[decide_eq_true a,decide_eq_false (by omega),decide_eq_true this];rfl
  ·have:=Int.mul_neg_of_pos_of_neg a b
   rw[decide_eq_false (by omega),decide_eq_true b,decide_eq_true this];rfl
  ·have:=Int.mul_pos a b
   rw[decide_eq_false (by omega),decide_eq_false (by omega),decide_eq_false (by omega)];rfl
theorem FP{A k:Nat}(h:A≠0):(A*2 ^ k).log2=A.log2+k:=by
 have aI:A*2 ^ k≠0:=Nat.mul_ne_zero h (Nat.pos_iff_ne_zero.1 (nB k))
 refine (Nat.log2_eq_iff aI).2 ⟨?_,?_⟩
 ·rw[Nat.pow_add];exact Nat.mul_le_mul_right _ ((Nat.log2_eq_iff h).1 rfl).1
 ·rw[show A.log2+k+1=A.log2+1+k by omega,Nat.pow_add]
  exact Nat.mul_lt_mul_of_pos_right ((Nat.log2_eq_iff h).1 rfl).2 (nB k)
theorem GG(fI:Toward)(neg:Bool){A k:Nat}(h:A≠0):fI.cut neg (A*2 ^ k) k=A:=by
 have gl:min k ((A*2 ^ k).log2+2)=k:=by rw[FP h];omega
 unfold Toward.cut
 dsimp only
 rw[gl,xp,Nat.one_mul,Nat.mul_div_cancel _ (nB k),Nat.mul_mod_left]
 cases fI
 ·have h1:¬2 ^ k<2*0:=by simp
  have h2:((2 ^ k:Nat) == 2*0)=false:=by
   have:=nB k
   simp
  simp[h2]
 ·cases neg <;> rfl
 ·cases neg <;> rfl
 ·rfl
theorem W9(fI:Toward)(neg:Bool)(k:Nat):fI.cut neg 0 k=0:=by
 unfold Toward.cut
 dsimp only
 have gl:1 <<< min k ((0:Nat).log2+2)≠0:=by rw[xp,Nat.one_mul];exact Nat.pos_iff_ne_zero.1 (nB _)
 generalize (1:Nat) <<< min k ((0:Nat).log2+2)=g at gl
 rw[Nat.zero_div,Nat.zero_mod]
 cases fI
 ·have h2:(g == 2*0)=false:=by simpa using gl
  simp[h2]
 ·cases neg <;> rfl
 ·cases neg <;> rfl
 ·rfl
theorem Sj{d:Datum}{N:Int}(h:l6 d N):d.toInt .zero=some N:=by
 obtain⟨s,m,p,rfl,h1,h2⟩:=h
 have e:Toward.zero.cut s (m <<< p.toNat) (-p).toNat=N.natAbs:=by
  rw[xp,h1]
  by_cases h0:N=0
  ·subst h0;rw[Int.natAbs_zero,Nat.zero_mul];exact W9 _ _ _
  ·exact GG _ _ (by omega)
 show some (signed s (Toward.zero.cut s (m <<< p.toNat) (-p).toNat) 0)=some N
 rw[e]
 congr 1
 have:=F4 (s:=s) (m:=N.natAbs) (u:=0) (N:=N) (A:=1) (B:=1) (by simp) h2 (by decide)
 simpa using this
theorem TP(s:Bool){rung:Nat}(h:rung<2 ^ 63):(double.word s rung / double.signWeight % 2 == 1)=s∧double.word s rung % double.signWeight=rung:=by
 have hw:double.signWeight=9223372036854775808:=by decide
 have h':rung<9223372036854775808:=h
 unfold Format.word
 rw[hw]
 cases s
 ·rw[if_neg (by decide)]
  refine⟨?_,by omega⟩
  rw[show rung / 9223372036854775808=0 by omega];rfl
 ·rw[if_pos rfl]
  refine⟨?_,by omega⟩
  rw[show (9223372036854775808+rung) / 9223372036854775808=1 by omega];rfl
theorem Mb(s:Bool):double.read (double.word s 0)=.number s 0 (-1074):=by
 cases s <;> decide
theorem R6(s:Bool){L kept:Nat}(hL:L≤52)(h1:4503599627370496≤kept)(h2:kept<9007199254740992):double.read (double.word s ((L+1022)*4503599627370496+kept))=.number s kept ((L:Int)-52):=by
 have hb:double.binade=4503599627370496:=by decide
 have hi:double.infRung=9218868437227405312:=by decide
 have hl:double.leastPlace = -1074:=by decide
 obtain⟨e1,e2⟩:=TP s (rung:=(L+1022)*4503599627370496+kept) (by show _<9223372036854775808;omega)
 unfold Format.read
 dsimp only
 rw[e1,e2,hb,hi,hl,if_neg (by omega),if_pos (by omega)]
 congr 1
 ·omega
 ·have:((L+1022)*4503599627370496+kept) / 4503599627370496=L+1023:=by omega
  rw[this];omega
theorem Si{d:Datum}{N:Int}(h:l6 d N)(hN:N.natAbs<9007199254740992):l6 (double.read (double.write d)) N:=by
 obtain⟨s,m,p,rfl,h1,h2⟩:=h
 have hb:double.binade=4503599627370496:=by decide
 have hi:double.infRung=9218868437227405312:=by decide
 have hl:double.leastPlace = -1074:=by decide
 show l6 (double.read (double.nearest s m p)) N
 by_cases h0:N=0
 ·subst h0
  have hm:m=0:=by
   rw[Int.natAbs_zero,Nat.zero_mul]at h1
   rcases Nat.mul_eq_zero.1 h1 with h | h
   ·exact h
   ·exact absurd h (Nat.pos_iff_ne_zero.1 (nB _))
  subst hm
  have:double.nearest s 0 p=double.word s 0:=rfl
  rw[this,Mb]
  exact⟨s,0,-1074,rfl,by rw[Nat.zero_mul,Int.natAbs_zero,Nat.zero_mul],fun h=>absurd rfl h⟩
 ·obtain⟨A,hA⟩:∃A,A=N.natAbs:=⟨_,rfl⟩
  rw[← hA]at h1 hN
  have oy:A≠0:=by omega
  have Fp:m≠0:=by
   intro h
   subst h
   rw[Nat.zero_mul]at h1
   rcases Nat.mul_eq_zero.1 h1.symm with h | h
   ·exact oy h
   ·exact absurd h (Nat.pos_iff_ne_zero.1 (nB _))
  have ac9:(p:Int)+m.log2=A.log2:=by
   have e:=congrArg Nat.log2 h1
   rw[FP Fp,FP oy]at e
   omega
  obtain⟨L,hL⟩:∃L,L=A.log2:=⟨_,rfl⟩
  rw[← hL]at ac9
  have B2:=((Nat.log2_eq_iff oy).1 hL.symm).1
  have hA2:=((Nat.log2_eq_iff oy).1 hL.symm).2
  have ack:L≤52:=by
   refine Nat.le_of_not_lt fun h =>?_
   have:2 ^ 53≤2 ^ L:=Nat.pow_le_pow_right (by decide) h
   have:(2:Nat) ^ 53=9007199254740992:=by decide
   omega
  obtain⟨K,hK⟩:∃K,K=A*2 ^ (52-L):=⟨_,rfl⟩
  have hK1:4503599627370496≤K:=by
   have:2 ^ L*2 ^ (52-L)≤K:=by rw[hK];exact Nat.mul_le_mul_right _ B2
   rw[← Nat.pow_add,show L+(52-L)=52 by omega]at this
   exact this
  have hK2:K<9007199254740992:=by
   have:K<2 ^ (L+1)*2 ^ (52-L):=by rw[hK];exact Nat.mul_lt_mul_of_pos_right hA2 (nB _)
   rw[← Nat.pow_add,show L+1+(52-L)=53 by omega]at this
   exact this
  have hK0:K≠0:=by omega
  have Iy:max (p+(m.log2:Int)-52) (-1074)=(L:Int)-52:=by omega
  have iS:Toward.even.cut s (m <<< (p-((L:Int)-52)).toNat) (((L:Int)-52)-p).toNat=K:=by
   rw[xp]
   rcases Int.lt_or_le p ((L:Int)-52) with h | h
   ·have e1:(p-((L:Int)-52)).toNat=0:=by omega
    have e2:p.toNat=0:=by omega
    rw[e2,Nat.pow_zero,Nat.mul_one]at h1
    rw[e1,Nat.pow_zero,Nat.mul_one,h1]
    have e3:(-p).toNat=(52-L)+(((L:Int)-52)-p).toNat:=by omega
    rw[e3,Nat.pow_add,← Nat.mul_assoc,← hK]
    exact GG _ _ hK0
   ·have e1:(((L:Int)-52)-p).toNat=0:=by omega
    have e2:=Gr h1 h
    rw[show ((L:Int)-52).toNat=0 by omega,Nat.pow_zero,Nat.mul_one,show (-((L:Int)-52)).toNat=52-L by omega,← hK]at e2
    rw[e1,e2]
    have:=GG .even s (A:=K) (k:=0) hK0
    rw[Nat.pow_zero,Nat.mul_one]at this
    exact this
  have hn:double.nearest s m p=double.word s ((L+1022)*4503599627370496+K):=by
   unfold Format.nearest
   rw[if_neg Fp]
   dsimp only
   rw[hl,hb,hi]
   show double.word s (min ((max (p+(m.log2:Int)-52) (-1074) - -1074).toNat*4503599627370496+Toward.even.cut s (m <<< (p-max (p+(m.log2:Int)-52) (-1074)).toNat) (max (p+(m.log2:Int)-52) (-1074)-p).toNat) 9218868437227405312)=_
   rw[Iy,iS,show ((L:Int)-52 - -1074).toNat=L+1022 by omega]
   have gl:(L+1022)*4503599627370496+K≤9218868437227405312:=by omega
   exact congrArg (double.word s) (Nat.min_eq_left gl)
  have e:double.read (double.nearest s m p)=.number s K ((L:Int)-52):=(congrArg double.read hn).trans (R6 s ack hK1 hK2)
  rw[e]
  refine⟨s,K,(L:Int)-52,rfl,?_,h2⟩
  rw[← hA,show ((L:Int)-52).toNat=0 by omega,Nat.pow_zero,Nat.mul_one,show (-((L:Int)-52)).toNat=52-L by omega]
  exact hK
structure gM(b:Nat)(N:Int):Prop where
 lt:b<2 ^ 64
 isInt:l6 (double.read b) N
theorem UM(N:Int):l6 (.number (decide (N<0)) N.natAbs 0) N:=⟨_,_,_,rfl,by simp,fun _=>rfl⟩
theorem CH{d:Datum}{N:Int}(h:l6 d N)(hN:N.natAbs<9007199254740992):gM (double.write d) N:=⟨double.write_lt d,Si h hN⟩
theorem aa0{N:Int}(hN:N.natAbs<9007199254740992):gM (Go.FloatKind.nearest .f64 N) N:=CH (UM N) hN
theorem Hz{x y:Nat}{N M:Int}(hx:gM x N)(hy:gM y M)(h:(N+M).natAbs<9007199254740992):∃r,floatBits .add .f64 x y=some r∧gM r (N+M):=by
 obtain⟨d,e1,e2⟩:=Mp hx.isInt hy.isInt
 exact⟨double.write d,congrArg (Option.map double.write) e1,CH e2 h⟩
theorem Hy{x y:Nat}{N M:Int}(hx:gM x N)(hy:gM y M)(h:(N-M).natAbs<9007199254740992):∃r,floatBits .sub .f64 x y=some r∧gM r (N-M):=by
 obtain⟨d,e1,e2⟩:=Mp hx.isInt (Mq hy.isInt)
 rw[← Int.sub_eq_add_neg]at e2
 exact⟨double.write d,congrArg (Option.map double.write) e1,CH e2 h⟩
theorem Dn{x y:Nat}{N M:Int}(hx:gM x N)(hy:gM y M)(h:(N*M).natAbs<9007199254740992):∃r,floatBits .mul .f64 x y=some r∧gM r (N*M):=by
 obtain⟨d,e1,e2⟩:=Tb hx.isInt hy.isInt
 exact⟨double.write d,congrArg (Option.map double.write) e1,CH e2 h⟩
theorem YK{x:Nat}{N:Int}(hx:gM x N)(k:IntKind)(h:k.min≤N∧N≤k.max):floatToIntVal .f64 x k=some N:=by
 unfold floatToIntVal
 have:(FloatKind.f64.decode x).toInt .zero=some N:=Sj hx.isInt
 rw[this]
 exact if_pos h
theorem G1:gM 0 0:=⟨by decide,⟨false,0,-1074,Mb false,by rw[Nat.zero_mul,Int.natAbs_zero,Nat.zero_mul],fun h=>absurd rfl h⟩⟩
theorem NN{b:Nat}(h:b<2 ^ 64):b ^^^ 2 ^ 63=if b<2 ^ 63 then b+2 ^ 63 else b-2 ^ 63:=by
 have e:((BitVec.ofNat 64 b) ^^^ (BitVec.ofNat 64 (2 ^ 63))).toNat=b ^^^ 2 ^ 63:=by
  rw[BitVec.toNat_xor,BitVec.toNat_ofNat,BitVec.toNat_ofNat,Nat.mod_eq_of_lt h,Nat.mod_eq_of_lt (by decide)]
 by_cases hb:b<2 ^ 63
 ·rw[if_pos hb]
  have:=Nat.two_pow_add_eq_or_of_lt hb 1
  rw[Nat.mul_one]at this
  rw[Nat.add_comm,this]
  refine Nat.eq_of_testBit_eq fun i =>?_
  rw[Nat.testBit_xor,Nat.testBit_or,Nat.testBit_two_pow]
  by_cases hi:63=i
  ·subst hi
   rw[Nat.testBit_lt_two_pow hb];rfl
  ·rw[decide_eq_false hi];simp
 ·rw[if_neg hb]
  obtain⟨c,rfl⟩:∃c,b=2 ^ 63+c:=⟨b-2 ^ 63,by omega⟩
  have hc:c<2 ^ 63:=by
   have:(2:Nat) ^ 64=2 ^ 63+2 ^ 63:=by decide
   omega
  have:=Nat.two_pow_add_eq_or_of_lt hc 1
  rw[Nat.mul_one]at this
  rw[Nat.add_sub_cancel_left,this]
  refine Nat.eq_of_testBit_eq fun i =>?_
  rw[Nat.testBit_xor,Nat.testBit_or,Nat.testBit_two_pow]
  by_cases hi:63=i
  ·subst hi
   rw[Nat.testBit_lt_two_pow hc];rfl
  ·rw[decide_eq_false hi];simp
theorem YJ{x:Nat}{N:Int}(hx:gM x N):gM (Go.Op.negFloat .f64 x) (-N):=by
 have e:Go.Op.negFloat .f64 x=x ^^^ 2 ^ 63:=rfl
 have ab:x<18446744073709551616:=hx.lt
 have hsw:double.signWeight=9223372036854775808:=by decide
 have ab5:double.read (x ^^^ 2 ^ 63)=(double.read x).opposite:=by
  rw[NN hx.lt]
  have Kk:(2:Nat) ^ 63=9223372036854775808:=by decide
  rw[Kk]
  unfold Format.read
  dsimp only
  rw[hsw]
  by_cases hb:x<9223372036854775808
  ·rw[if_pos hb,show (x+9223372036854775808) / 9223372036854775808 % 2=1 by omega,show (x+9223372036854775808) % 9223372036854775808=x by omega,show x / 9223372036854775808 % 2=0 by omega,show x % 9223372036854775808=x by omega]
   repeat' split
   all_goals rfl
  ·rw[if_neg hb,show (x-9223372036854775808) / 9223372036854775808 % 2=0 by omega,show (x-9223372036854775808) % 9223372036854775808=x-9223372036854775808 by omega,show x / 9223372036854775808 % 2=1 by omega,show x % 9223372036854775808=x-9223372036854775808 by omega]
   repeat' split
   all_goals rfl
 rw[e]
 refine⟨?_,by rw[ab5];exact Mq hx.isInt⟩
 rw[NN hx.lt]
 have Kk:(2:Nat) ^ 63=9223372036854775808:=by decide
 have kQ:(2:Nat) ^ 64=18446744073709551616:=by decide
 rw[Kk,kQ]
 split <;> omega
def lW(w:World)(b:Nat):Prop:=∃c T fz,w.heap[b]?=some (.cells c T fz)
def FC(F:Nat→Prop)(w:World)(b:Nat):Prop:=F b∧lW w b
def jv(F:Nat→Prop)(w:World):(s:Sh)→List Value→s.T→Prop
 | .int k,cs,(n:Int)=>cs=[.int k n]
 | .bool,cs,(b:Bool)=>cs=[.bool b]
 | .str,cs,(s:ByteArray)=>cs=[.string s]
 | .slice e,cs,(l:List e.T)=>∃(a:Option Addr) (c:Nat),cs=[.slice a l.length c]∧l.length≤c∧c≤maxLen∧(a=none→c=0)∧
   (l≠[]→∃b o,a=some ⟨b,o,none⟩∧FC F w b∧∀i,(h:i<l.length)→∃cs',cs'.length=e.size∧sI w b (o+i*e.size) cs'∧jv F w e cs' l[i])
 | .nil,cs,_=>cs=[]
 | .field f r,cs,(d:f.T×r.T)=>∃c1 c2,cs=c1++c2∧c1.length=f.size∧jv F w f c1 d.1∧jv F w r c2 d.2
def Bm(w:World)(b off len e:Nat)(a:Addr)(cap:Nat):Prop:=
 ∃c T fz,w.heap[b]?=some (.cells c T fz)∧len≤cap∧cap≤maxLen∧((a=⟨b,off,none⟩∧off+cap*e≤c.size)∨(a.block=b∧a.spot=none∧len=0∧cap=0))
inductive ar(F:Nat→Prop)(w:World):AV→Value→Prop where
 | int (k:IntKind) (n:Int):ar F w (.int k n) (.int k n)
 | bool (b:Bool):ar F w (.bool b) (.bool b)
 | str (s:ByteArray):ar F w (.str s) (.string s)
 | ah (e:Sh) (l:List e.T) (v:Value) (h:jv F w (.slice e) [v] l):ar F w (.ah e l) v
 | iV (a:Option Addr):ar F w .iV (.slice a 0 0)
 | ft (a:Addr) (c:Nat) (h:c≤maxLen):ar F w .ft (.slice (some a) 0 c)
 | af:ar F w .af (.slice none 0 0)
 | ae (b off len e:Nat) (a:Addr) (cap:Nat) (h:Bm w b off len e a cap):ar F w (.ae b off len e) (.slice (some a) len cap)
 | bX:ar F w .bX (.pointer none)
 | ptr (b off:Nat) (h:lW w b):ar F w (.ptr b off) (.pointer (some ⟨b,off,none⟩))
 | eQ (cs:List AV) (b o:Nat) (f:Nat→Value) (hF:FC F w b) (h1:∀i x,cs[i]?=some x→w.cell? ⟨b,o+i,none⟩=some (f i)) (hl:∀(i:Nat) (x:AV),cs[i]?=some x→x.leaf=true) (h:∀i x,cs[i]?=some x→ar F w x (f i)):ar F w (.eQ cs) (.pointer (some ⟨b,o,none⟩))
 | agg (cs:List AV) (vs:Array Value) (hs:cs.length=vs.size) (hl:∀(i:Nat) (x:AV),cs[i]?=some x→x.leaf=true) (h:∀i x,cs[i]?=some x→ar F w x (vs.getD i undef)):ar F w (.agg cs) (.agg vs)
 | tup (cs:List AV) (vs:Array Value) (hs:cs.length=vs.size) (h:∀i x,cs[i]?=some x→ar F w x (vs.getD i undef)):ar F w (.tup cs) (.tuple vs)
 | iface (t:TypeId) (a:AV) (v:Value) (h:ar F w a v):ar F w (.iface t a) (.iface t v)
 | nilif:ar F w .nilif .nilIface
 | fn (f:Fn) (c1 c2:List AV) (v1 v2:Array Value) (dX:c1.length=v1.size) (fq:c2.length=v2.size) (h1:∀i x,c1[i]?=some x→ar F w x (v1.getD i undef)) (h2:∀i x,c2[i]?=some x→ar F w x (v2.getD i undef)):ar F w (.fn f c1 c2) (.func f v1 v2)
 | gk:ar F w .gk .nilFunc
 | nf:ar F w .nf (.map none)
 | e8 (n:Int) (b:Nat) (h:gM b n):ar F w (.e8 n) (.float .f64 b)
 | eM (n m:Int) (a b:Nat) (h1:gM a n) (h2:gM b m):ar F w (.eM n m) (.complex .f64 a b)
 | any (v:Value):ar F w .any v
 | via (x:AV) (v:Value) (hl:x.leaf=true) (h:ar F w x v):ar F w (.via x) v
 | lA (b:Nat):ar F w (.lA b) (.map (some b))
 | lI (b:Nat):ar F w (.lI b) (.pointer (some ⟨b,0,none⟩))
def gz(F:Nat→Prop)(w:World)(xs:List AV)(vs:Array Value):Prop:=xs.length=vs.size∧∀i x,xs[i]?=some x→ar F w x (vs.getD i undef)
def eW:Nat→List (Int×Int)→List MapEntry
 | _,[]=>[]
 | n,p::l => { key:=.int .i64 p.1,val:=.int .i64 p.2,born:=n }::eW (n+1) l
def ud:AV→Option Obj
 | .l9 l=>some (.map (eW 0 l).toArray l.length)
 | .pS m c s=>some (.mapIter (some m) c s.toArray c)
 | _=>none
def Ap(F:Nat→Prop)(w:World)(b:Nat)(cs:List AV):Prop:=
 ∃c T,w.heap[b]?=some (.cells c T (0,0))∧cs.length≤c.size∧∀(i:Nat) (x:AV),cs[i]?=some x→x.leaf=true∧ar F w x (c.getD i undef)
def Holds(F:Nat→Prop)(w:World)(b:Nat)(cs:List AV):Prop:=
 ¬F b∧(Ap F w b cs∨(∃x o,cs=[x]∧w.heap[b]?=some o∧ud x=some o)∨∃L t,cs=[.kA L t]∧w.heap[b]?=some (.loop L)∧∀i,ar F w (t i) (L.tmps.getD i undef))
structure aM(F:Nat→Prop)(w:World)(σ:Hp):Prop where
 nodup:(σ.map Prod.fst).Nodup
 holds:∀p∈σ,Holds F w p.1 p.2
 low:∀b,F b→b<w.heap.size
structure aQ(F:Nat→Prop)(w:World)(F':Nat→Prop)(w':World):Prop where
 os:w'.os=w.os
 tape:w'.tape=w.tape
 output:w'.output=w.output
 size:w.heap.size≤w'.heap.size
 sub:∀b,F b→F' b
 fix:∀b,F b→w'.heap[b]?=w.heap[b]?
 rows:∀(b:Nat) (c:Array Value) (T:TypeId) (fz:Nat×Nat),w.heap[b]?=some (.cells c T fz)→∃(c':Array Value) (pA:Nat×Nat),w'.heap[b]?=some (.cells c' T pA)∧c'.size=c.size
 drawn:w.drawn≤w'.drawn
def Enters(P:Program)(f:FuncId):Prop:=∀(args:Array Value) (w:World),(callFunc f args).run P w=.ok (.enter f args) w
def ACalls(P:Program)(f:FuncId)(args:List AV)(σ:Hp)(R:AV→Hp→Prop):Prop:=
 Enters P f∧∀F w vs,gz F w args vs→aM F w σ→Calls P f vs w fun e w'=>∃r v σ' F',e=.returned v∧aQ F w F' w'∧aM F' w' σ'∧ar F' w' r v∧R r σ'
def pull(i:Nat)(σ:Hp):Hp:=match σ[i]? with | some p=>p::σ.eraseIdx i | none=>σ
def lZ:List Nat→Hp→Hp
 | [],σ=>σ
 | i::r,σ=>pull i (lZ r σ)
inductive gF:Hp→Hp→Prop where
 | refl (σ:Hp):gF σ σ
 | pull (js:List Nat) {σ σ2:Hp} (h:gF (lZ js σ) σ2):gF σ σ2
 | drop (k n:Nat) {σ σ2:Hp} (h:gF (σ.take k++σ.drop (k+n)) σ2):gF σ σ2
 | perm {σ iG σ2:Hp} (hp:iG.Perm σ) (h:gF iG σ2):gF σ σ2
 | abK (i b':Nat) (cs jh:List AV) {σ σ2:Hp} (hi:σ[i]?=some (b',cs)) (hl:jh.length=cs.length) (hk:∀(k:Nat) (x y:AV),cs[k]?=some x→jh[k]?=some y→x=y∨(x=.af∧∃e:Sh,y=.ah e [])) (h:gF (σ.set i (b',jh)) σ2):gF σ σ2
inductive dP(b off len es:Nat)(e:Sh)(l:List e.T):AV→AV→Prop where
 | here:dP b off len es e l (.ae b off len es) (.ah e l)
 | refl (x:AV):dP b off len es e l x x
 | tup (xs ys:List AV) (h:xs.length=ys.length) (hi:∀(i:Nat) (x y:AV),xs[i]?=some x→ys[i]?=some y→dP b off len es e l x y):dP b off len es e l (.tup xs) (.tup ys)
 | agg (xs ys:List AV) (h:xs.length=ys.length) (hl:∀(i:Nat) (y:AV),ys[i]?=some y→y.leaf=true) (hi:∀(i:Nat) (x y:AV),xs[i]?=some x→ys[i]?=some y→dP b off len es e l x y):dP b off len es e l (.agg xs) (.agg ys)
 | nil (e':Sh):dP b off len es e l .af (.ah e' [])
 | ft (e':Sh):dP b off len es e l .ft (.ah e' [])
 | via {x y:AV} (h:dP b off len es e l x y):dP b off len es e l (.via x) y
inductive CallAt(P:Program)(f:FuncId)(K:AV→Hp→Prop):List AV→Hp→Prop where
 | mk {args:List AV} {σ:Hp} (js:List Nat) (R:AV→Hp→Prop) (call:ACalls P f args (lZ js σ) R) (go:∀r σ',R r σ'→K r σ'):CallAt P f K args σ
 | perm {args:List AV} {σ σ2:Hp} (R:AV→Hp→Prop) (hp:σ2.Perm σ) (call:ACalls P f args σ2 R) (go:∀r σ',R r σ'→∃dh,dh.Perm σ'∧K r dh):CallAt P f K args σ
 | cb {args args':List AV} {σ:Hp} (j b off len es:Nat) (cs:List AV) (e:Sh) (l:List e.T) (h1:σ[j]?=some (b,cs)) (h2:(cs.drop off).take (len*es)=l.flatMap e.cells) (h3:l.length=len∧e.size=es∧0<es) (h4:dP b off len es e l (.tup args) (.tup args')) (h:CallAt P f K args' (σ.eraseIdx j)):CallAt P f K args σ
 | iU {args:List AV} {σ:Hp} (j b off len es:Nat) (cs:List AV) (e:Sh) (l:List e.T) (h1:σ[j]?=some (b,cs)) (h2:(cs.drop off).take (len*es)=l.flatMap e.cells) (h3:l.length=len∧e.size=es∧0<es) (i k b':Nat) (cs':List AV) (hi:(σ.eraseIdx j)[i]?=some (b',cs')) (hk:cs'[k]?=some (.ae b off len es)) (h:CallAt P f K args ((σ.eraseIdx j).set i (b',cs'.set k (.ah e l)))):CallAt P f K args σ
inductive qX(P:Program)(f:FuncId)(args:List AV)(σ:Hp)(K:AV→Prop):Prop where
 | mk (js:List Nat) (r:AV) (call:ACalls P f args (lZ js σ) (fun r' σ'=>r'=r∧σ'=lZ js σ)) (go:K r):qX P f args σ K
 | perm {σ2:Hp} (hp:σ2.Perm σ) (r:AV) (call:ACalls P f args σ2 (fun r' σ'=>r'=r∧σ2.Perm σ')) (go:K r):qX P f args σ K
def DW(P:Program)(l:Nat)(args:List AV)(σ:Hp)(R:AV→Hp→Prop):Prop:=
 ∀F w vs,gz F w args vs→aM F w σ→∃f tmps assign body,(Instr.yield l vs).run P w=.ok (.round l f tmps assign body) w∧
  RoundIn Fence.wide 0 P l f tmps assign body w fun e w'=>∃r v σ' F',e=.returned v∧aQ F w F' w'∧aM F' w' σ'∧ar F' w' r v∧R r σ'
inductive tO(P:Program)(l:Nat)(K:AV→Hp→Prop):List AV→Hp→Prop where
 | mk {args:List AV} {σ:Hp} (js:List Nat) (R:AV→Hp→Prop) (call:DW P l args (lZ js σ) R) (go:∀r σ',R r σ'→K r σ'):tO P l K args σ
 | perm {args:List AV} {σ σ2:Hp} (R:AV→Hp→Prop) (hp:σ2.Perm σ) (call:DW P l args σ2 R) (go:∀r σ',R r σ'→∃dh,dh.Perm σ'∧K r dh):tO P l K args σ
section
variable (P:Program) (TT:TypeId→Option TI)
def Meth(t:TypeId)(m:String)(g:FuncId):Prop:=
 ∀(a:Addr) (w:World),(method (P.types.size+Made.depth) t (.pointer (some a)) m).run P w=.ok (g,.pointer (some a)) w
inductive InvAt(t:TypeId)(m:String)(K:FuncId→Prop):Prop where
 | mk (g:FuncId) (h:Meth P t m g) (go:K g):InvAt t m K
def nG(c:Call)(ρ:Operand→AV)(K:FuncId→List AV→Prop)(KY:Nat→List AV→Prop):Prop:=
 match c.callee with
 | .value f=>match ρ f with
  | .fn (.func g) first cap=>K g (first++(c.args.toList.map fun x=>bc (ρ x))++cap)
  | .fn (.yield l) [] []=>KY l (c.args.toList.map fun x=>bc (ρ x))
  | _=>False
 | .invoke r m=>match ρ r with
  | .iface t (.ptr b o)=>InvAt P t m fun g=>K g (.ptr b o::c.args.toList.map fun x=>bc (ρ x))
  | .iface t (.eQ cs)=>InvAt P t m fun g=>K g (.eQ cs::c.args.toList.map fun x=>bc (ρ x))
  | _=>False
 | .builtin _=>False
inductive iA(σ:Hp)(es:Nat):AV→Nat→List AV→Prop where
 | af:iA σ es .af 0 []
 | iV:iA σ es .iV 0 []
 | ft:iA σ es .ft 0 []
 | ah (s:Sh) (l:List s.T) (h:s.size=es):iA σ es (.ah s l) l.length (l.flatMap s.cells)
 | ae (j b off len:Nat) (cs:List AV) (h1:σ[j]?=some (b,cs)) (h2:off+len*es≤cs.length):iA σ es (.ae b off len es) len ((cs.drop off).take (len*es))
inductive Dv(i:TI)(σ:Hp)(s x:AV)(K:AV→Hp→Prop):Prop where
 | fresh (n:Nat) (new:List AV) (hs:s=.af∨s=.iV) (hx:iA σ i.size x n new) (hn:n≤1048576) (hb:i.bytes≤1024) (h0:0<i.size) (go:n≠0→∀b,K (.ae b 0 n i.size) ((b,new)::σ)) (same:n=0→K s σ)
 | more (j b len n:Nat) (cs new:List AV) (hs:s=.ae b 0 len i.size) (h1:σ[j]?=some (b,cs)) (h2:len*i.size≤cs.length) (hx:iA σ i.size x n new) (hn:len+n≤1048576) (hb:i.bytes≤1024) (h0:0<i.size)
   (go:∀b',K (.ae b' 0 (len+n) i.size) ((b',cs.take (len*i.size)++new)::σ.eraseIdx j)):Dv i σ s x K
 | xR (j b off len n:Nat) (cs new:List AV) (hs:s=.ae b off len i.size) (h1:σ[j]?=some (b,cs)) (h2:off+len*i.size≤cs.length) (hx:iA σ i.size x n new) (hn:len+n≤1048576) (hb:i.bytes≤1024) (h0:0<i.size)
   (uk:K (.ae b off (len+n) i.size) ((b,cs.take (off+len*i.size)++new)::σ.eraseIdx j))
   (go:∀b',K (.ae b' 0 (len+n) i.size) ((b',(cs.drop off).take (len*i.size)++new)::σ.eraseIdx j)):Dv i σ s x K
inductive AppendAt(i:TI)(σ:Hp)(s x:AV)(K:AV→Hp→Prop):Prop where
 | fresh (n:Nat) (new:List AV) (hs:s=.af∨s=.iV) (hx:iA σ i.size x n new) (hn:n≤1048576) (hb:i.bytes≤1024) (h0:0<i.size) (go:n≠0→∀b,K (.ae b 0 n i.size) ((b,new)::σ)) (same:n=0→K s σ)
 | more (j b len n:Nat) (cs new:List AV) (hs:s=.ae b 0 len i.size) (h1:σ[j]?=some (b,cs)) (h2:len*i.size≤cs.length) (hx:iA σ i.size x n new) (hn:len+n≤1048576) (hb:i.bytes≤1024) (h0:0<i.size)
   (go:∀b',K (.ae b' 0 (len+n) i.size) ((b',cs.take (len*i.size)++new)::σ.eraseIdx j)):AppendAt i σ s x K
 | xR (j b off len n:Nat) (cs new:List AV) (hs:s=.ae b off len i.size) (h1:σ[j]?=some (b,cs)) (h2:off+len*i.size≤cs.length) (hx:iA σ i.size x n new) (hn:len+n≤1048576) (hb:i.bytes≤1024) (h0:0<i.size)
   (uk:K (.ae b off (len+n) i.size) ((b,cs.take (off+len*i.size)++new)::σ.eraseIdx j))
   (go:∀b',K (.ae b' 0 (len+n) i.size) ((b',(cs.drop off).take (len*i.size)++new)::σ.eraseIdx j)):AppendAt i σ s x K
 | perm {σ2:Hp} (K2:AV→Hp→Prop) (hp:σ2.Perm σ) (h:Dv i σ2 s x K2) (hk:∀v dh,K2 v dh→∃wx,wx.Perm dh∧(K v wx∨(v.leaf=true∧K (.via v) wx))):AppendAt i σ s x K
inductive Ah(i:TI)(σ:Hp)(s x:AV)(K:AV→Hp→Prop):Prop where
 | af (k:IntKind) (n:Int) (hs:s=.af) (hx:x=.int k n) (hn:0≤n∧n≤1048576) (hb:i.bytes≤1024) (h0:0<i.size) (go:0<n→∀b,K (.ae b 0 n.toNat i.size) ((b,bU i.zero n.toNat)::σ)) (same:n=0→K .af σ):Ah i σ s x K
inductive HP(i:TI)(σ:Hp)(s:AV)(K:Hp→Prop):Prop where
 | none (hs:s=.af∨s=.iV∨s=.ft) (go:K σ)
 | ae (j b off len:Nat) (cs:List AV) (hs:s=.ae b off len i.size) (h1:σ[j]?=some (b,cs)) (h2:off+len*i.size≤cs.length) (go:K (σ.set j (b,eF cs off (bU i.zero len))))
inductive Ih(i:TI)(σ:Hp)(d x:AV)(K:AV→Hp→Prop):Prop where
 | ae (j b off len n:Nat) (cs new:List AV) (hd:d=.ae b off len i.size) (h1:σ[j]?=some (b,cs)) (h2:off+len*i.size≤cs.length) (hx:iA σ i.size x n new) (hn:n≤len) (go:K (.int .i64 n) (σ.set j (b,eF cs off new)))
 | none (new:List AV) (hd:d=.af∨d=.iV∨d=.ft) (hx:iA σ i.size x 0 new) (go:K (.int .i64 0) σ)
 | part (j b off len:Nat) (cs:List AV) (hd:d=.ae b off len i.size) (h1:σ[j]?=some (b,cs)) (h2:off+len*i.size≤cs.length) (j2 b2 lu n:Nat) (jh:List AV) (hx:x=.ae b2 lu n i.size) (h3:σ[j2]?=some (b2,jh)) (h4:lu+n*i.size≤jh.length) (hn:len≤n) (go:K (.int .i64 len) (σ.set j (b,eF cs off ((jh.drop lu).take (len*i.size)))))
def xt(t:TypeId)(m k x:AV)(σ:Hp)(K:AV→Hp→Prop):Prop:=
 match yf TT t,k,x with
 | some _,.int .i64 n,.int .i64 v=>Em σ m fun j b l=>K .any (σ.set j (b,[.l9 (o7 l n v)]))
 | _,_,_=>False
def DC(t:TypeId)(m:AV)(σ:Hp)(K:AV→Hp→Prop):Prop:=
 match yf TT t with
 | some _=>Em σ m fun _ b l=>∀r,K (.lI r) ((r,[.pS b l.length []])::σ)
 | none=>False
inductive Ie(σ:Hp)(x:AV)(K:AV→Hp→Prop):Prop where
 | mk (j j2 r b:Nat) (l:List (Int×Int)) (seen:List Nat) (hx:x=.lI r) (h1:σ[j]?=some (r,[.pS b l.length seen])) (h2:σ[j2]?=some (b,[.l9 l]))
   (stop:(∀i:Nat,i<l.length→i∈seen)→K (.tup [.bool false]) σ)
   (go:∀(i:Nat) (p:Int×Int),l[i]?=some p→i ∉ seen→K (.tup [.bool true,.int .i64 p.1,.int .i64 p.2]) (σ.set j (r,[.pS b l.length (seen++[i])]))):Ie σ x K
inductive HO(σ:Hp)(x:AV)(K:AV→Hp→Prop):Prop where
 | mk (j j2 r b i:Nat) (l:List (Int×Int)) (p:Int×Int) (seen:List Nat) (hx:x=.lI r) (h1:σ[j]?=some (r,[.pS b l.length (seen++[i])])) (h2:σ[j2]?=some (b,[.l9 l])) (h3:l[i]?=some p)
   (go:K (.tup [.int .i64 p.1,.int .i64 p.2]) σ):HO σ x K
def fJ(o:Op)(ρ:Operand→AV)(σ:Hp)(K:AV→Hp→Prop):Prop:=
 match o with
 | .box _ x=>match (ρ x).cells? with | some cs=>∀b,K (.ptr b 0) ((b,cs)::σ) | none=>False
 | .alloc e=>match TT e with | some i=>∀b,K (.ptr b 0) ((b,i.zero)::σ) | none=>False
 | .buildSlice t len parts=>match TT t with
  | some ⟨.slice e,_,_,_⟩=>match TT e with
   | some i=>match pP ((List.range len).map fun j=>(j*i.size,i.size)) (bU i.zero len) (parts.toList.map fun p=>(p.1,ρ p.2)),Nat.ble (len*i.size) 16777216,Nat.ble 1 i.size with
    | some cs,true,true=>∀b,K (.ae b 0 len i.size) ((b,cs)::σ)
    | _,_,_=>False
   | none=>False
  | _=>False
 | .makeSlice t l c=>match TT t,ρ l,ρ c with
  | some ⟨.slice e,_,_,_⟩,.int _ n,.int _ m=>match TT e with
   | some i=>ag (0≤n∧n≤m∧m≤1048576∧i.bytes≤1024) (∀b,K (.ae b 0 n.toNat i.size) ((b,bU i.zero n.toNat)::σ))
   | none=>False
  | _,_,_=>False
 | .store t a x=>match TT t with
  | some i=>match ρ a with | .ptr b o=>Du i σ b o (ρ x) (fun σ'=>K .any σ') | _=>False
  | none=>False
 | .makeMap t none=>match yf TT t with | some _=>∀b,K (.lA b) ((b,[.l9 []])::σ) | none=>False
 | .mapUpdate t m k x=>xt TT t (bc (ρ m)) (bc (ρ k)) (bc (ρ x)) σ K
 | .insert t m k x=>xt TT t (bc (ρ m)) (bc (ρ k)) (bc (ρ x)) σ K
 | .range t x=>DC TT t (bc (ρ x)) σ K
 | .next x s=>match s with | false=>Ie σ (bc (ρ x)) K | true=>False
 | .entry x=>HO σ (bc (ρ x)) K
 | .call ⟨.builtin .append,args,bJ⟩=>match args.toList,bJ.toList with
  | [s,x],[t,t']=>match TT t,TT t' with
   | some ⟨.slice e,_,_,_⟩,some ⟨.slice _,_,_,_⟩=>match TT e with | some i=>AppendAt i σ (bc (ρ s)) (bc (ρ x)) K | none=>False
   | some ⟨.slice e,_,_,_⟩,some ⟨.int _,_,_,_⟩=>match TT e with | some i=>Ah i σ (bc (ρ s)) (bc (ρ x)) K | none=>False
   | _,_=>False
  | _,_=>False
 | .call ⟨.builtin .clear,args,bJ⟩=>match args.toList,bJ.toList with
  | [s],[t]=>match TT t with
   | some ⟨.slice e,_,_,_⟩=>match TT e with | some i=>HP i σ (bc (ρ s)) (fun σ'=>K (.tup []) σ') | none=>False
   | _=>False
  | _,_=>False
 | .call ⟨.builtin .copy,args,bJ⟩=>match args.toList,bJ.toList with
  | [d,x],[t,t']=>match TT t,TT t' with
   | some ⟨.slice e,_,_,_⟩,some ⟨.slice _,_,_,_⟩=>match TT e with | some i=>Ih i σ (bc (ρ d)) (bc (ρ x)) K | none=>False
   | _,_=>False
  | _,_=>False
 | .call ⟨.builtin b,args,bJ⟩=>eB P TT (.call ⟨.builtin b,args,bJ⟩) ρ σ (fun v=>K v σ)
 | .call c=>nG P c ρ (fun f xs=>CallAt P f K xs σ) (fun l xs=>tO P l K xs σ)
 | o=>eB P TT o ρ σ (fun v=>K v σ)
def mL(ops:List Oper)(o:Oper)(t:Tm)(A B:Prop):Prop:=
 match o.guard with
 | none=>A
 | some (j,want)=>match (ops[j]?).bind (·.dst) with
  | some d=>match t d with
   | .bool b=>(match want,b with | true,true=>A | true,false=>B | false,true=>B | false,false=>A)
   | .tup []=>B
   | _=>False
  | none=>False
def QG(ops:List Oper)(l:List Oper):Tm→Hp→(Tm→Hp→Prop)→Prop:=
 List.rec (motive:=fun _=>Tm→Hp→(Tm→Hp→Prop)→Prop) (fun t σ K=>K t σ)
  (fun o _ ih t σ K=>mL ops o t (fJ P TT o.op (ev t) σ fun v σ'=>ih (put t o.dst v) σ' K) (ih (put t o.dst (.tup [])) σ K)) l
def sL(o:Op)(ρ:Operand→AV)(σ:Hp)(K:AV→Prop):Prop:=
 match o with
 | .call ⟨.builtin b,args,bJ⟩=>eB P TT (.call ⟨.builtin b,args,bJ⟩) ρ σ K
 | .call c=>nG P c ρ (fun f xs=>qX P f xs σ K) (fun _ _=>False)
 | o=>eB P TT o ρ σ K
def Er(ops:List Oper)(l:List Oper):Tm→Hp→(Tm→Prop)→Prop:=
 List.rec (motive:=fun _=>Tm→Hp→(Tm→Prop)→Prop) (fun t _ K=>K t)
  (fun o _ ih t σ K=>mL ops o t (sL P TT o.op (ev t) σ fun v=>ih (put t o.dst v) σ K) (ih (put t o.dst (.tup [])) σ K)) l
def blind:Op→Bool
 | .move _ | .assign _ | .pick .. | .build .. | .nilCheck _ | .binOp .. | .unOp .. | .convert .. | .makeInterface .. | .makeFunc .. | .slice .. | .fieldAddr .. | .field .. | .indexAddr .. | .extract .. | .typeAssert .. => true
 | .call ⟨.builtin .len,_,_⟩ | .call ⟨.builtin .min,_,_⟩ | .call ⟨.builtin .max,_,_⟩=>true
 | _=>false
def gv(ops:List Oper)(aq:List Bool):List Nat:=
 (List.range ops.length).filter fun i => !aq.getD i true && (match ops[i]? with | some o=>o.after.toList.all fun e => !Region.binds .any e || aq.getD e.on false | none=>false)
def ye(ops:List Oper)(i:Nat)(t:Tm)(σ:Hp)(K:Tm→Hp→Prop):Prop:=
 match ops[i]? with
 | some o=>mL ops o t (fJ P TT o.op (ev t) σ fun v σ'=>K (put t o.dst v) σ') (K (put t o.dst (.tup [])) σ)
 | none=>False
def Jh(f:Nat→Prop)(l:List Nat):Prop:=
 List.rec (motive:=fun _=>Prop) True (fun i r ih=>match r with | []=>f i | _=>f i∧ih) l
def qN:Op→Bool
 | .load _ _=>true
 | _=>false
def mf(o:Op):Bool:= !(blind o || qN o)
def nH(o:Oper)(j:Nat):Bool:=o.after.toList.any fun e=>Region.binds .any e && Nat.beq e.on j
def aaL(ops:List Oper)(aq:List Bool)(i:Nat):Bool:=ops.zipIdx.all fun (o,j) => !mf o.op || aq.getD j false || nH o i
def H3(ops:List Oper)(aq:List Bool)(i:Nat):Bool:=
 match ops[i]? with
 | some o=>blind o.op || (qN o.op && aaL ops aq i)
 | none=>false
def sD(ops:List Oper)(n:Nat):List Bool→Tm→Hp→(Tm→Hp→Prop)→Prop:=
 Nat.rec (motive:=fun _=>List Bool→Tm→Hp→(Tm→Hp→Prop)→Prop) (fun _ _ _ _=>False)
  (fun _ ih aq t σ K=>match gv ops aq with
   | []=>K t σ
   | i::r=>match (i::r).find? (H3 ops aq) with
    | some j=>ye P TT ops j t σ fun t' σ'=>ih (aq.set j true) t' σ' K
    | none=>Jh (fun j=>ye P TT ops j t σ fun t' σ'=>ih (aq.set j true) t' σ' K) (i::r)) n
theorem MH{ops:List Oper}{n:Nat}{aq:List Bool}{t:Tm}{σ:Hp}{K:Tm→Hp→Prop}:sD P TT ops (n+1) aq t σ K=(match gv ops aq with
   | []=>K t σ
   | i::r=>match (i::r).find? (H3 ops aq) with
    | some j=>ye P TT ops j t σ fun t' σ'=>sD P TT ops n (aq.set j true) t' σ' K
    | none=>Jh (fun j=>ye P TT ops j t σ fun t' σ'=>sD P TT ops n (aq.set j true) t' σ' K) (i::r)):=rfl
def vF(ops:List Oper)(o:Oper):List Tmp:=
 (o.op.operands.toList.filterMap fun | .tmp t=>some t | _=>none)++(match o.guard with | some (g,_)=>((ops[g]?).bind (·.dst)).toList | none=>[])
def Dd(ops:List Oper):Bool:=
 let z:=ops.zipIdx
 z.all fun (o,i) =>
  (o.after.toList.all fun e => !Region.binds .any e || Nat.blt e.on i) &&
  (z.all fun (p,j)=>match p.dst with
   | none=>true
   | some d=>(Nat.beq i j || match o.dst with | some d' => !Nat.beq d d' | none=>true) &&
    (!(vF ops o).any (Nat.beq d) || Nat.beq i j || (Nat.blt j i && nH o j) || (Nat.blt i j && nH p i)))
def pH(ops:List Oper):Bool:=
 let z:=ops.zipIdx
 z.all fun (o,i)=>(match o.op with | .select .. => false | _=>true) && z.all fun (p,j)=>Nat.beq i j || nH o j || nH p i || o.apart ops.toArray p
def dF(g:Tm):List (Nat×AV)→Tm
 | []=>g
 | (i,v)::r=>fun j=>match Nat.beq j i with | true=>v | false=>dF g r j
def agree(t:Tm):List (Nat×AV)→Prop
 | []=>True
 | (i,v)::r=>t i=v∧agree t r
theorem xk{t:Tm}{l:List (Nat×AV)}(h:agree t l):t=dF t l:=by
 induction l with
 | nil=>rfl
 | cons p r ih =>
  obtain⟨i,v⟩:=p
  obtain⟨h1,h2⟩:=h
  funext j
  show t j=(match Nat.beq j i with | true=>v | false=>dF t r j)
  cases hb:Nat.beq j i with
  | true=>rw[Nat.eq_of_beq_eq_true hb];exact h1
  | false=>exact congrFun (ih h2) j
inductive ca{S:Type}(L:S→List (Nat×AV))(H:S→Hp)(t':Tm)(σ':Hp):Prop where
 | mk (s:S) (h3:agree t' (L s)) (h4:gF σ' (H s)):ca L H t' σ'
def ic(ops:List Oper)(q:Bool)(i:Nat)(t:Tm)(σ:Hp)(K:Tm→Hp→Prop):Prop:=
 match ops[i]? with
 | some o=>match q with
  | true=>mL ops o t (sL P TT o.op (ev t) σ fun v=>K (put t o.dst v) σ) (K (put t o.dst (.tup [])) σ)
  | false=>mL ops o t (fJ P TT o.op (ev t) σ fun v σ'=>K (put t o.dst v) σ') (K (put t o.dst (.tup [])) σ)
 | none=>False
def dQ(j:Nat)(l:List Nat):Bool:=l.any (Nat.beq j)
def n9(ops:List Oper)(Q:List Nat)(n:Nat):List Bool→Tm→Hp→(Tm→Hp→Prop)→Prop:=
 Nat.rec (motive:=fun _=>List Bool→Tm→Hp→(Tm→Hp→Prop)→Prop) (fun _ _ _ _=>False)
  (fun _ ih aq t σ K=>(gv ops aq=[]→K t σ)∧∀i∈gv ops aq,ic P TT ops (dQ i Q) i t σ fun t' σ'=>ih (aq.set i true) t' σ' K) n
def IQ(o:Oper)(acc:List (List Nat)):List Nat:=o.after.toList.flatMap fun e=>match Region.binds .any e with | true=>e.on::(acc[e.on]?).getD [] | false=>[]
def Ik:List Oper→List (List Nat)→List (List Nat)
 | [],acc=>acc
 | o::os,acc=>Ik os (acc++[(IQ o acc).eraseDups])
def sA(ops:List Oper)(Q:List Nat)(k:Nat):Bool:=match ops[k]? with | some o=>mf o.op && !dQ k Q | none=>false
def D6:Op→Bool
 | .alloc _ | .box _ _=>true
 | _=>false
def AZ(ops:List Oper)(k:Nat):Bool:=match ops[k]? with | some o=>D6 o.op | none=>false
def xL(ops:List Oper)(rows:List (List Nat))(Q:List Nat)(aq:List Bool)(j:Nat):Bool:=
 match ops[j]? with
 | some o=>(blind o.op && !dQ j Q) || ((qN o.op || dQ j Q) && (List.range ops.length).all fun k=>aq.getD k false || !sA ops Q k || dQ j ((rows[k]?).getD []) || (qN o.op && !dQ j Q && AZ ops k))
 | none=>false
inductive oE where
 | stop
 | one (j:Nat) (q:Bool) (s:oE)
 | alt (j:Nat) (s r:oE)
 | Bk (j:Nat) (s r:oE)
def jM(ops:List Oper)(rows:List (List Nat))(Q:List Nat):oE→Nat→List Nat→List Bool→Bool
 | .stop,n,lq,aq=>match n,lq,gv ops aq with | _+1,[],[]=>true | _,_,_=>false
 | .one j q s,n,lq,aq=>match n,lq with
  | n+1,[]=>(dQ j Q == q) && dQ j (gv ops aq) && (xL ops rows Q aq j || (match gv ops aq with | [i]=>Nat.beq i j | _=>false)) && jM ops rows Q s n [] (aq.set j true)
  | n,[i]=>(dQ j Q == q) && Nat.beq i j && jM ops rows Q s n [] (aq.set j true)
  | _,_=>false
 | .alt j s r,n,lq,aq=>match n,lq with
  | n+1,[]=>(match gv ops aq with
   | i::i2::l=>Nat.beq i j && !dQ j Q && jM ops rows Q s n [] (aq.set j true) && jM ops rows Q r n (i2::l) aq
   | _=>false)
  | n,i::i2::l=>Nat.beq i j && !dQ j Q && jM ops rows Q s n [] (aq.set j true) && jM ops rows Q r n (i2::l) aq
  | _,_=>false
 | .Bk j s r,n,lq,aq=>match n,lq with
  | n+1,[]=>(match gv ops aq with
   | i::i2::l=>Nat.beq i j && dQ j Q && jM ops rows Q s n [] (aq.set j true) && jM ops rows Q r n (i2::l) aq
   | _=>false)
  | n,i::i2::l=>Nat.beq i j && dQ j Q && jM ops rows Q s n [] (aq.set j true) && jM ops rows Q r n (i2::l) aq
  | _,_=>false
def su(ops:List Oper)(s:oE):Tm→Hp→(Tm→Hp→Prop)→Prop:=
 oE.rec (motive:=fun _=>Tm→Hp→(Tm→Hp→Prop)→Prop) (fun t σ K=>K t σ)
  (fun j q _ ih t σ K=>ic P TT ops q j t σ fun t' σ'=>ih t' σ' K)
  (fun j _ _ ih ij t σ K=>ic P TT ops false j t σ (fun t' σ'=>ih t' σ' K)∧ij t σ K)
  (fun j _ _ ih ij t σ K=>ic P TT ops true j t σ (fun t' σ'=>ih t' σ' K)∧ij t σ K) s
def abk:Op→Bool
 | .call ⟨.builtin _,_,_⟩=>false
 | .call _=>true
 | _=>false
def DD(ops:List Oper)(Q:List Nat)(s:oE):Bool:=
 pH ops && Q.all (fun j=>match ops[j]? with | some o=>abk o.op | none=>false) && jM ops (Ik ops []) Q s (ops.length+1) [] (List.replicate ops.length false)
inductive fy(ops:List Oper)(K:Tm→Hp→Prop):Tm→Hp→Prop where
 | quiet {t:Tm} {σ:Hp} (h0:Dd ops=true) (h:Er P TT ops ops t σ fun t'=>K t' σ):fy ops K t σ
 | each {t:Tm} {σ:Hp} (h0:pH ops=true) (h:sD P TT ops (ops.length+1) (List.replicate ops.length false) t σ K):fy ops K t σ
 | sched {t:Tm} {σ:Hp} (Q:List Nat) (s:oE) (h0:DD ops Q s=true) (h:su P TT ops s t σ K):fy ops K t σ
 | meet {t:Tm} {σ:Hp} {S:Type} (L:S→List (Nat×AV)) (H:S→Hp) (h0:pH ops=true) (h:sD P TT ops (ops.length+1) (List.replicate ops.length false) t σ (ca L H)) (go:∀s g,K (dF g (L s)) (H s)):fy ops K t σ
 | D4 {t:Tm} {σ:Hp} {S:Type} (Q:List Nat) (s:oE) (L:S→List (Nat×AV)) (H:S→Hp) (h0:DD ops Q s=true) (h:su P TT ops s t σ (ca L H)) (go:∀s g,K (dF g (L s)) (H s)):fy ops K t σ
 | cb {t t':Tm} {σ:Hp} (j b off len es:Nat) (cs:List AV) (e:Sh) (l:List e.T) (h1:σ[j]?=some (b,cs)) (h2:(cs.drop off).take (len*es)=l.flatMap e.cells) (h3:l.length=len∧e.size=es∧0<es) (h4:∀i,dP b off len es e l (t i) (t' i)) (h:fy ops K t' (σ.eraseIdx j)):fy ops K t σ
 | cO {t:Tm} {σ σ2:Hp} (h1:gF σ σ2) (h:fy ops K t σ2):fy ops K t σ
inductive Ex where
 | normal | exit (id:Nat) | goto (l:Nat) | ret
def Head{S:Type}(L:S→List (Nat×AV))(H:S→Hp)(p:S→Prop)(μ:S→Nat)(m:Nat)(t:Tm)(σ:Hp):Prop:=∃s g,m=μ s∧p s∧t=dF g (L s)∧σ=H s
inductive nR{S:Type}(L:S→List (Nat×AV))(H:S→Hp)(p:S→Prop)(μ:S→Nat)(s:S):Tm→Hp→Prop where
 | mk {t':Tm} {σ':Hp} (s':S) (h1:μ s'<μ s) (h2:p s') (h3:agree t' (L s')) (h4:gF σ' (H s')):nR L H p μ s t' σ'
 | cb {t' t2:Tm} {σ':Hp} (j b off len es:Nat) (cs:List AV) (e:Sh) (l:List e.T) (h1:σ'[j]?=some (b,cs)) (h2:(cs.drop off).take (len*es)=l.flatMap e.cells) (h3:l.length=len∧e.size=es∧0<es) (h4:∀i,dP b off len es e l (t' i) (t2 i)) (h:nR L H p μ s t2 (σ'.eraseIdx j)):nR L H p μ s t' σ'
 | iU {t':Tm} {σ':Hp} (j b off len es:Nat) (cs:List AV) (e:Sh) (l:List e.T) (h1:σ'[j]?=some (b,cs)) (h2:(cs.drop off).take (len*es)=l.flatMap e.cells) (h3:l.length=len∧e.size=es∧0<es) (i k b':Nat) (cs':List AV) (hi:(σ'.eraseIdx j)[i]?=some (b',cs')) (hk:cs'[k]?=some (.ae b off len es)) (h:nR L H p μ s t' ((σ'.eraseIdx j).set i (b',cs'.set k (.ah e l)))):nR L H p μ s t' σ'
 | cO {t':Tm} {σ' σ2:Hp} (h1:gF σ' σ2) (h:nR L H p μ s t' σ2):nR L H p μ s t' σ'
 | nil {t' t2:Tm} {σ':Hp} (h4:∀i,dP 0 0 0 0 .bool [] (t' i) (t2 i)) (h:nR L H p μ s t2 σ'):nR L H p μ s t' σ'
inductive kF(body:Tm→Hp→(Ex→Tm→Hp→Prop)→Prop)(Q:Ex→Tm→Hp→Prop):Tm→Hp→Prop where
 | mk {t:Tm} {σ:Hp} {S:Type} (L:S→List (Nat×AV)) (H:S→Hp) (p:S→Prop) (μ:S→Nat) (s0:S) (h0:p s0∧agree t (L s0)∧σ=H s0)
   (round:∀s g,p s→body (dF g (L s)) (H s) (fun e t' σ'=>match e with | .normal=>nR L H p μ s t' σ' | e=>Q e t' σ')):kF body Q t σ
 | cb {t t':Tm} {σ:Hp} (j b off len es:Nat) (cs:List AV) (e:Sh) (l:List e.T) (h1:σ[j]?=some (b,cs)) (h2:(cs.drop off).take (len*es)=l.flatMap e.cells) (h3:l.length=len∧e.size=es∧0<es) (h4:∀i,dP b off len es e l (t i) (t' i)) (h:kF body Q t' (σ.eraseIdx j)):kF body Q t σ
 | cO {t:Tm} {σ σ2:Hp} (h1:gF σ σ2) (h:kF body Q t σ2):kF body Q t σ
 | wrap {t:Tm} {σ:Hp} (k:Nat) (v:AV) (h1:t k=v) (h2:v.leaf=true) (h:kF body Q (dF t [(k,.via v)]) σ):kF body Q t σ
 | nil {t t':Tm} {σ:Hp} (h4:∀i,dP 0 0 0 0 .bool [] (t i) (t' i)) (h:kF body Q t' σ):kF body Q t σ
def Qp(R:Nat→Tm→Hp→(Ex→Tm→Hp→Prop)→Prop)(k:Nat):Nat→Tm→Hp→(Ex→Tm→Hp→Prop)→Prop:=
 Nat.rec (motive:=fun _=>Nat→Tm→Hp→(Ex→Tm→Hp→Prop)→Prop) (fun _ _ _ _=>False)
  (fun _ ih l t σ Q=>R l t σ fun e t' σ'=>match e with | .goto l'=>ih l' t' σ' Q | e=>Q e t' σ') k
inductive oZ{S:Type}(eS:S→Nat)(L:S→List (Nat×AV))(H:S→Hp)(p:S→Prop)(μ:S→Nat)(s:S)(l:Nat):Tm→Hp→Prop where
 | mk {t':Tm} {σ':Hp} (s':S) (h0:l=eS s') (h1:μ s'<μ s) (h2:p s') (h3:agree t' (L s')) (h4:gF σ' (H s')):oZ eS L H p μ s l t' σ'
 | cb {t' t2:Tm} {σ':Hp} (j b off len es:Nat) (cs:List AV) (e:Sh) (d:List e.T) (h1:σ'[j]?=some (b,cs)) (h2:(cs.drop off).take (len*es)=d.flatMap e.cells) (h3:d.length=len∧e.size=es∧0<es) (h4:∀i,dP b off len es e d (t' i) (t2 i)) (h:oZ eS L H p μ s l t2 (σ'.eraseIdx j)):oZ eS L H p μ s l t' σ'
 | iU {t':Tm} {σ':Hp} (j b off len es:Nat) (cs:List AV) (e:Sh) (d:List e.T) (h1:σ'[j]?=some (b,cs)) (h2:(cs.drop off).take (len*es)=d.flatMap e.cells) (h3:d.length=len∧e.size=es∧0<es) (i k b':Nat) (cs':List AV) (hi:(σ'.eraseIdx j)[i]?=some (b',cs')) (hk:cs'[k]?=some (.ae b off len es)) (h:oZ eS L H p μ s l t' ((σ'.eraseIdx j).set i (b',cs'.set k (.ah e d)))):oZ eS L H p μ s l t' σ'
 | cO {t':Tm} {σ' σ2:Hp} (h1:gF σ' σ2) (h:oZ eS L H p μ s l t' σ2):oZ eS L H p μ s l t' σ'
 | nil {t' t2:Tm} {σ':Hp} (h4:∀i,dP 0 0 0 0 .bool [] (t' i) (t2 i)) (h:oZ eS L H p μ s l t2 σ'):oZ eS L H p μ s l t' σ'
inductive o0(R:Nat→Tm→Hp→(Ex→Tm→Hp→Prop)→Prop)(l:Nat)(Q:Ex→Tm→Hp→Prop):Tm→Hp→Prop where
 | fwd {t:Tm} {σ:Hp} (k:Nat) (h:Qp R k l t σ Q):o0 R l Q t σ
 | loop {t:Tm} {σ:Hp} {S:Type} (eS:S→Nat) (L:S→List (Nat×AV)) (H:S→Hp) (p:S→Prop) (μ:S→Nat) (s0:S) (h0:l=eS s0∧p s0∧agree t (L s0)∧gF σ (H s0))
   (round:∀s g,p s→R (eS s) (dF g (L s)) (H s) (fun e t' σ'=>match e with | .goto l'=>oZ eS L H p μ s l' t' σ' | e=>Q e t' σ')):o0 R l Q t σ
 | cb {t t':Tm} {σ:Hp} (j b off len es:Nat) (cs:List AV) (e:Sh) (d:List e.T) (h1:σ[j]?=some (b,cs)) (h2:(cs.drop off).take (len*es)=d.flatMap e.cells) (h3:d.length=len∧e.size=es∧0<es) (h4:∀i,dP b off len es e d (t i) (t' i)) (h:o0 R l Q t' (σ.eraseIdx j)):o0 R l Q t σ
 | cO {t:Tm} {σ σ2:Hp} (h1:gF σ σ2) (h:o0 R l Q t σ2):o0 R l Q t σ
 | wrap {t:Tm} {σ:Hp} (k:Nat) (v:AV) (h1:t k=v) (h2:v.leaf=true) (h:o0 R l Q (dF t [(k,.via v)]) σ):o0 R l Q t σ
def IJ(l:Nat)(rd:AV)(dn:Ex→AV)(R1:Ex→Hp→Prop)(r:AV)(σ':Hp):Prop:=
 (r=.bool true∧∃σ2,σ'=(l,[rd])::σ2∧R1 .normal σ2)∨(r=.bool false∧∃e σ2,e≠.normal∧σ'=(l,[dn e])::σ2∧R1 e σ2)
def aaK(l:Nat)(rd:AV)(dn:Ex→AV)(K:Ex→Hp→Prop)(_:AV)(σ':Hp):Prop:=
 (∃σ2,σ'=(l,[rd])::σ2∧K .normal σ2)∨(∃e σ2,e≠.normal∧σ'=(l,[dn e])::σ2∧K e σ2)
inductive xO(P:Program)(gf:FuncId)(cap:List AV)(m:Nat)(B:List AV→Hp→(Ex→Hp→Prop)→Prop)(K:Ex→Hp→Prop):Hp→Prop where
 | mk {σ:Hp} (go:∀(l:Nat) (rd:AV) (dn:Ex→AV),(∀(xs:List AV) (iG:Hp) (R1:Ex→Hp→Prop),xs.length=m→B xs iG R1→DW P l xs ((l,[rd])::iG) (IJ l rd dn R1))→
   ACalls P gf (.fn (.yield l) [] []::cap) ((l,[rd])::σ) (aaK l rd dn K)):xO P gf cap m B K σ
 | cO {σ σ2:Hp} (h1:gF σ σ2) (h:xO P gf cap m B K σ2):xO P gf cap m B K σ
def yx:List Tmp→List AV→Tm→Tm
 | p::ps,x::xs,t=>yx ps xs (put t (some p) x)
 | _,_,t=>t
def codeF(rec:Code→Tm→Hp→(Ex→Tm→Hp→Prop)→Prop)(c:Code)(t:Tm)(σ:Hp)(Q:Ex→Tm→Hp→Prop):Prop:=
 match c with
 | .skip=>Q .normal t σ
 | .label _=>Q .normal t σ
 | .exit id=>Q (.exit id) t σ
 | .goto l=>Q (.goto l) t σ
 | .ret=>Q .ret t σ
 | .region _ ops draw=>match draw with
  | false=>QG P TT ops.toList ops.toList t σ (Q .normal)
  | true=>fy P TT ops.toList (Q .normal) t σ
 | .seq a b=>rec a t σ fun e t' σ'=>match e with | .normal=>rec b t' σ' Q | e=>Q e t' σ'
 | .cond c a b=>match ev t c with | .bool x=>(match x with | true=>rec a t σ Q | false=>rec b t σ Q) | _=>False
 | .block id c=>rec c t σ fun e t' σ'=>match e with
  | .exit i=>(match Nat.beq i id with | true=>Q .normal t' σ' | false=>Q (.exit i) t' σ')
  | e=>Q e t' σ'
 | .loop c=>kF (fun t σ Q=>rec c t σ Q) Q t σ
 | .scope c=>rec c t σ fun e t' σ'=>match e with
  | .goto l=>o0 (fun l t σ Q=>match findLabel c l with | some r=>rec r t σ Q | none=>False) l Q t' σ'
  | e=>Q e t' σ'
 | .rangeFunc g ps assign body=>match ev t g with
  | .fn (.func gf) [] cap=>xO P gf cap ps.size (fun xs iG R1=>rec assign (yx ps.toList xs t) iG fun e t' σ'=>match e with | .normal=>rec body t' σ' (fun e _ iR=>R1 e iR) | _=>False) (fun e σ'=>Q e t σ') σ
  | _=>False
 | _=>False
def kD(n:Nat):Code→Tm→Hp→(Ex→Tm→Hp→Prop)→Prop:=
 Nat.rec (motive:=fun _=>Code→Tm→Hp→(Ex→Tm→Hp→Prop)→Prop) (fun _ _ _ _=>False) (fun _ ih=>codeF P TT ih) n
end
end Go.Proofs.YtnpidbjdilnhlaaGreat
