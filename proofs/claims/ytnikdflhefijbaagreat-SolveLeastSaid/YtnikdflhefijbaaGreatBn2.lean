import Derived.Laws.ComplexArith
import Derived.RangeFuncRecord
import Derived.Test.YtnikdflhefijbaaGreatBn1
import Derived.MapFrom
namespace Go.Proofs.YtnikdflhefijbaaGreat
open Ieee
def oe(d:Datum)(N:Int):Prop:=∃s m p,d=.number s m p∧m*2 ^ p.toNat=N.natAbs*2 ^ (-p).toNat∧(N≠0→s=decide (N<0))
theorem z8(m k:Nat):m <<< k=m*2 ^ k:=Nat.shiftLeft_eq m k
theorem Xk(s:Bool)(m u:Nat):(signed s m u).natAbs=m*2 ^ u:=by
 unfold signed
 rw[z8]
 split
 ·rw[Int.natAbs_neg,Jl]
 ·rw[Jl]
theorem Ke{m A:Nat}{p base:Int}(h:m*2 ^ p.toNat=A*2 ^ (-p).toNat)(hb:base≤p):m*2 ^ (p-base).toNat*2 ^ base.toNat=A*2 ^ (-base).toNat:=by
 rcases ET base 0 with h0 | h0
 ·rcases ET p 0 with h1 | h1
  ·have e1:p.toNat=0:=by omega
   have e2:base.toNat=0:=by omega
   rw[e1,sG,dO]at h
   rw[e2,sG,dO,h,Bu,← rG]
   congr 2;omega
  ·have e1:(-p).toNat=0:=by omega
   have e2:base.toNat=0:=by omega
   have e3:(p-base).toNat=p.toNat+(-base).toNat:=by omega
   rw[e1,sG,dO]at h
   rw[e2,sG,dO,e3,rG,← Bu,h]
 ·have e1:(-p).toNat=0:=by omega
  have e2:(-base).toNat=0:=by omega
  rw[e1,sG,dO]at h
  rw[e2,sG,dO,Bu,← rG,← h]
  congr 2;omega
theorem JV{s:Bool}{m u:Nat}{N:Int}{A B:Nat}(h:m*2 ^ u*A=N.natAbs*B)(hs:N≠0→s=decide (N<0))(hA:0<A):signed s m u*(A:Int)=N*(B:Int):=by
 have h':((m*2 ^ u:Nat):Int)*(A:Int)=(N.natAbs:Int)*(B:Int):=by exact_mod_cast h
 by_cases h0:N=0
 ·subst h0
  have hm:m*2 ^ u=0:=by
   have:m*2 ^ u*A=0:=by rw[h];simp
   rcases Nat.mul_eq_zero.1 this with h1 | h1
   ·exact h1
   ·omega
  have:signed s m u=0:=Int.natAbs_eq_zero.1 (by rw[Xk,hm])
  rw[this];simp
 ·have hs:=hs h0
  subst hs
  unfold signed
  rw[z8]
  by_cases hn:N<0
  ·rw[bu hn,ah rfl,Int.neg_mul,h',← Int.neg_mul]
   congr 1;omega
  ·rw[bZ hn,ag (by decide),h']
   congr 1;omega
theorem pS(k:Nat):0<2 ^ k:=Bw k
theorem QN{d e:Datum}{N M:Int}(hd:oe d N)(he:oe e M):∃x,d.sum e=some x∧oe x (N+M):=by
 obtain⟨s,m,i,rfl,h1,h2⟩:=hd
 obtain⟨t,n,j,rfl,h3,h4⟩:=he
 refine⟨_,rfl,_,_,_,rfl,?_,?_⟩
 all_goals
  have e1:=JV (Ke h1 (Int.min_le_left i j)) h2 (pS _)
  have e2:=JV (Ke h3 (Int.min_le_right i j)) h4 (pS _)
  have e3:(signed s m (i-min i j).toNat+signed t n (j-min i j).toNat)*((2 ^ (min i j).toNat:Nat):Int)=(N+M)*((2 ^ (-(min i j)).toNat:Nat):Int):=by rw[Int.add_mul,e1,e2,Int.add_mul]
 ·have:=congrArg Int.natAbs e3
  rw[I8,I8,Jl,Jl]at this
  exact this
 ·intro aS
  generalize signed s m (i-min i j).toNat+signed t n (j-min i j).toNat=T at e3
  have hp:=pS (min i j).toNat
  have hq:=pS (-(min i j)).toNat
  generalize (2:Nat) ^ (min i j).toNat=P at e3 hp
  generalize (2:Nat) ^ (-(min i j)).toNat=Q at e3 hq
  have hT:T≠0:=by
   intro h0
   rw[h0,Int.zero_mul]at e3
   rcases Int.mul_eq_zero.1 e3.symm with h5 | h5
   ·exact aS h5
   ·omega
  rw[ag hT]
  refine decide_eq_decide.2 ⟨fun h=>?_,fun h=>?_⟩
  ·have:T*(P:Int)<0:=Om h (by omega)
   rw[e3]at this
   rcases ET (N+M) 0 with h5 | h5
   ·exact h5
   ·have:=Int.mul_nonneg h5 (show (0:Int)≤Q by omega)
    omega
  ·have:(N+M)*(Q:Int)<0:=Om h (by omega)
   rw[← e3]at this
   rcases ET T 0 with h5 | h5
   ·exact h5
   ·have:=Int.mul_nonneg h5 (show (0:Int)≤P by omega)
    omega
theorem QO{d:Datum}{N:Int}(h:oe d N):oe d.opposite (-N):=by
 obtain⟨s,m,p,rfl,h1,h2⟩:=h
 refine⟨_,_,_,rfl,by rw[Int.natAbs_neg];exact h1,fun aS=>?_⟩
 rw[h2 (by omega)]
 by_cases hn:N<0
 ·rw[bu hn,bZ (by omega)];rfl
 ·rw[bZ hn,bu (by omega)];rfl
theorem XB{d e:Datum}{N M:Int}(hd:oe d N)(he:oe e M):∃x,d.product e=some x∧oe x (N*M):=by
 obtain⟨s,m,i,rfl,h1,h2⟩:=hd
 obtain⟨t,n,j,rfl,h3,h4⟩:=he
 refine⟨_,rfl,_,_,_,rfl,?_,fun aS=>?_⟩
 ·rw[I8]
  have h5:(m*2 ^ i.toNat)*(n*2 ^ j.toNat)=(N.natAbs*2 ^ (-i).toNat)*(M.natAbs*2 ^ (-j).toNat):=by rw[h1,h3]
  obtain⟨c,mn,nP⟩:∃c,i.toNat+j.toNat=(i+j).toNat+c∧(-i).toNat+(-j).toNat=(-(i+j)).toNat+c:=⟨i.toNat+j.toNat-(i+j).toNat,by omega,by omega⟩
  have e1:(m*2 ^ i.toNat)*(n*2 ^ j.toNat)=(m*n*2 ^ (i+j).toNat)*2 ^ c:=by
   rw[Bu (m*n),← rG,← mn,rG];ac_rfl
  have e2:(N.natAbs*2 ^ (-i).toNat)*(M.natAbs*2 ^ (-j).toNat)=(N.natAbs*M.natAbs*2 ^ (-(i+j)).toNat)*2 ^ c:=by
   rw[Bu (N.natAbs*M.natAbs),← rG,← nP,rG];ac_rfl
  rw[e1,e2]at h5
  exact Nat.eq_of_mul_eq_mul_right (pS c) h5
 ·have hN:N≠0:=fun h=>aS (by rw[h,Int.zero_mul])
  have hM:M≠0:=fun h=>aS (by rw[h,Int.mul_zero])
  rw[h2 hN,h4 hM]
  rcases Int.lt_or_gt_of_ne hN with a | a <;> rcases Int.lt_or_gt_of_ne hM with b | b
  ·have:=Int.mul_pos_of_neg_of_neg a b
   rw[bu a,bu b,bZ (by omega)];rfl
  ·have:=Om a b
   rw[bu a,bZ (by omega),bu this];rfl
  ·have:=Int.mul_neg_of_pos_of_neg a b
   rw[bZ (by omega),bu b,bu this];rfl
  ·have:=Int.mul_pos a b
   rw[bZ (by omega),bZ (by omega),bZ (by omega)];rfl
theorem JM{A k:Nat}(h:A≠0):(A*2 ^ k).log2=A.log2+k:=by
 have aS:A*2 ^ k≠0:=Nat.mul_ne_zero h (Jq.1 (pS k))
 refine (EZ aS).2 ⟨?_,?_⟩
 ·rw[rG];exact lY _ ((EZ h).1 rfl).1
 ·rw[show A.log2+k+1=A.log2+1+k by omega,rG]
  exact Nat.mul_lt_mul_of_pos_right ((EZ h).1 rfl).2 (pS k)
theorem Ks(gW:Toward)(neg:Bool){A k:Nat}(h:A≠0):gW.cut neg (A*2 ^ k) k=A:=by
 have jE:min k ((A*2 ^ k).log2+2)=k:=by rw[JM h];omega
 unfold Toward.cut
 dsimp only
 rw[jE,z8,Nat.one_mul,Nat.mul_div_cancel _ (pS k),Nat.mul_mod_left]
 cases gW
 ·have h1:¬2 ^ k<2*0:=by simp
  have h2:((2 ^ k:Nat) == 2*0)=false:=by
   have:=pS k
   simp
  simp[h2]
 ·cases neg <;> rfl
 ·cases neg <;> rfl
 ·rfl
theorem aaR(gW:Toward)(neg:Bool)(k:Nat):gW.cut neg 0 k=0:=by
 unfold Toward.cut
 dsimp only
 have jE:1 <<< min k ((0:Nat).log2+2)≠0:=by rw[z8,Nat.one_mul];exact Jq.1 (pS _)
 generalize (1:Nat) <<< min k ((0:Nat).log2+2)=g at jE
 rw[Nat.zero_div,Nat.zero_mod]
 cases gW
 ·have h2:(g == 2*0)=false:=by simpa using jE
  simp[h2]
 ·cases neg <;> rfl
 ·cases neg <;> rfl
 ·rfl
theorem WR{d:Datum}{N:Int}(h:oe d N):d.toInt .zero=some N:=by
 obtain⟨s,m,p,rfl,h1,h2⟩:=h
 have e:Toward.zero.cut s (m <<< p.toNat) (-p).toNat=N.natAbs:=by
  rw[z8,h1]
  by_cases h0:N=0
  ·subst h0;rw[Jb,xG];exact aaR _ _ _
  ·exact Ks _ _ (by omega)
 show some (signed s (Toward.zero.cut s (m <<< p.toNat) (-p).toNat) 0)=some N
 rw[e]
 congr 1
 have:=JV (s:=s) (m:=N.natAbs) (u:=0) (N:=N) (A:=1) (B:=1) (by simp) h2 (by decide)
 simpa using this
theorem Ya(s:Bool){rung:Nat}(h:rung<2 ^ 63):(double.word s rung / double.signWeight % 2 == 1)=s∧double.word s rung % double.signWeight=rung:=by
 have hw:double.signWeight=9223372036854775808:=by decide
 have h':rung<9223372036854775808:=h
 unfold Format.word
 rw[hw]
 cases s
 ·rw[ag (by decide)]
  refine⟨?_,by omega⟩
  rw[show rung / 9223372036854775808=0 by omega];rfl
 ·rw[ah rfl]
  refine⟨?_,by omega⟩
  rw[show (9223372036854775808+rung) / 9223372036854775808=1 by omega];rfl
theorem Qz(s:Bool):double.read (double.word s 0)=.number s 0 (-1074):=by
 cases s <;> decide
theorem Wy(s:Bool){L kept:Nat}(hL:L≤52)(h1:4503599627370496≤kept)(h2:kept<9007199254740992):double.read (double.word s ((L+1022)*4503599627370496+kept))=.number s kept ((L:Int)-52):=by
 have hb:double.binade=4503599627370496:=by decide
 have hi:double.infRung=9218868437227405312:=by decide
 have hl:double.leastPlace = -1074:=by decide
 obtain⟨e1,e2⟩:=Ya s (rung:=(L+1022)*4503599627370496+kept) (by show _<9223372036854775808;omega)
 unfold Format.read
 dsimp only
 rw[e1,e2,hb,hi,hl,ag (by omega),ah (by omega)]
 congr 1
 ·omega
 ·have:((L+1022)*4503599627370496+kept) / 4503599627370496=L+1023:=by omega
  rw[this];omega
theorem WQ{d:Datum}{N:Int}(h:oe d N)(hN:N.natAbs<9007199254740992):oe (double.read (double.write d)) N:=by
 obtain⟨s,m,p,rfl,h1,h2⟩:=h
 have hb:double.binade=4503599627370496:=by decide
 have hi:double.infRung=9218868437227405312:=by decide
 have hl:double.leastPlace = -1074:=by decide
 show oe (double.read (double.nearest s m p)) N
 by_cases h0:N=0
 ·subst h0
  have hm:m=0:=by
   rw[Jb,xG]at h1
   rcases Nat.mul_eq_zero.1 h1 with h | h
   ·exact h
   ·exact absurd h (Jq.1 (pS _))
  subst hm
  have:double.nearest s 0 p=double.word s 0:=rfl
  rw[this,Qz]
  exact⟨s,0,-1074,rfl,by rw[xG,Jb,xG],fun h=>absurd rfl h⟩
 ·obtain⟨A,hA⟩:∃A,A=N.natAbs:=⟨_,rfl⟩
  rw[← hA]at h1 hN
  have lU:A≠0:=by omega
  have IS:m≠0:=by
   intro h
   subst h
   rw[xG]at h1
   rcases Nat.mul_eq_zero.1 h1.symm with h | h
   ·exact lU h
   ·exact absurd h (Jq.1 (pS _))
  have afZ:(p:Int)+m.log2=A.log2:=by
   have e:=congrArg Nat.log2 h1
   rw[JM IS,JM lU]at e
   omega
  obtain⟨L,hL⟩:∃L,L=A.log2:=⟨_,rfl⟩
  rw[← hL]at afZ
  have ES:=((EZ lU).1 hL.symm).1
  have hA2:=((EZ lU).1 hL.symm).2
  have agc:L≤52:=by
   refine Nat.le_of_not_lt fun h=>?_
   have:2 ^ 53≤2 ^ L:=tY (by decide) h
   have:(2:Nat) ^ 53=9007199254740992:=by decide
   omega
  obtain⟨K,hK⟩:∃K,K=A*2 ^ (52-L):=⟨_,rfl⟩
  have hK1:4503599627370496≤K:=by
   have:2 ^ L*2 ^ (52-L)≤K:=by rw[hK];exact lY _ ES
   rw[← rG,show L+(52-L)=52 by omega]at this
   exact this
  have hK2:K<9007199254740992:=by
   have:K<2 ^ (L+1)*2 ^ (52-L):=by rw[hK];exact Nat.mul_lt_mul_of_pos_right hA2 (pS _)
   rw[← rG,show L+1+(52-L)=53 by omega]at this
   exact this
  have hK0:K≠0:=by omega
  have Mf:max (p+(m.log2:Int)-52) (-1074)=(L:Int)-52:=by omega
  have iR:Toward.even.cut s (m <<< (p-((L:Int)-52)).toNat) (((L:Int)-52)-p).toNat=K:=by
   rw[z8]
   rcases ET p ((L:Int)-52) with h | h
   ·have e1:(p-((L:Int)-52)).toNat=0:=by omega
    have e2:p.toNat=0:=by omega
    rw[e2,sG,dO]at h1
    rw[e1,sG,dO,h1]
    have e3:(-p).toNat=(52-L)+(((L:Int)-52)-p).toNat:=by omega
    rw[e3,rG,← Bu,← hK]
    exact Ks _ _ hK0
   ·have e1:(((L:Int)-52)-p).toNat=0:=by omega
    have e2:=Ke h1 h
    rw[show ((L:Int)-52).toNat=0 by omega,sG,dO,show (-((L:Int)-52)).toNat=52-L by omega,← hK]at e2
    rw[e1,e2]
    have:=Ks .even s (A:=K) (k:=0) hK0
    rw[sG,dO]at this
    exact this
  have hn:double.nearest s m p=double.word s ((L+1022)*4503599627370496+K):=by
   unfold Format.nearest
   rw[ag IS]
   dsimp only
   rw[hl,hb,hi]
   show double.word s (min ((max (p+(m.log2:Int)-52) (-1074) - -1074).toNat*4503599627370496+Toward.even.cut s (m <<< (p-max (p+(m.log2:Int)-52) (-1074)).toNat) (max (p+(m.log2:Int)-52) (-1074)-p).toNat) 9218868437227405312)=_
   rw[Mf,iR,show ((L:Int)-52 - -1074).toNat=L+1022 by omega]
   have jE:(L+1022)*4503599627370496+K≤9218868437227405312:=by omega
   exact congrArg (double.word s) (Ol jE)
  have e:double.read (double.nearest s m p)=.number s K ((L:Int)-52):=(congrArg double.read hn).trans (Wy s agc hK1 hK2)
  rw[e]
  refine⟨s,K,(L:Int)-52,rfl,?_,h2⟩
  rw[← hA,show ((L:Int)-52).toNat=0 by omega,sG,dO,show (-((L:Int)-52)).toNat=52-L by omega]
  exact hK
structure jx(b:Nat)(N:Int):Prop where
 lt:b<2 ^ 64
 isInt:oe (double.read b) N
theorem YX(N:Int):oe (.number (decide (N<0)) N.natAbs 0) N:=⟨_,_,_,rfl,by simp,fun _=>rfl⟩
theorem F6{d:Datum}{N:Int}(h:oe d N)(hN:N.natAbs<9007199254740992):jx (double.write d) N:=⟨double.write_lt d,WQ h hN⟩
theorem ae2{N:Int}(hN:N.natAbs<9007199254740992):jx (Go.FloatKind.nearest .f64 N) N:=F6 (YX N) hN
theorem Lk{x y:Nat}{N M:Int}(hx:jx x N)(hy:jx y M)(h:(N+M).natAbs<9007199254740992):∃r,floatBits .add .f64 x y=some r∧jx r (N+M):=by
 obtain⟨d,e1,e2⟩:=QN hx.isInt hy.isInt
 exact⟨double.write d,congrArg (Option.map double.write) e1,F6 e2 h⟩
theorem Lj{x y:Nat}{N M:Int}(hx:jx x N)(hy:jx y M)(h:(N-M).natAbs<9007199254740992):∃r,floatBits .sub .f64 x y=some r∧jx r (N-M):=by
 obtain⟨d,e1,e2⟩:=QN hx.isInt (QO hy.isInt)
 rw[← Int.sub_eq_add_neg]at e2
 exact⟨double.write d,congrArg (Option.map double.write) e1,F6 e2 h⟩
theorem GR{x y:Nat}{N M:Int}(hx:jx x N)(hy:jx y M)(h:(N*M).natAbs<9007199254740992):∃r,floatBits .mul .f64 x y=some r∧jx r (N*M):=by
 obtain⟨d,e1,e2⟩:=XB hx.isInt hy.isInt
 exact⟨double.write d,congrArg (Option.map double.write) e1,F6 e2 h⟩
theorem acB{x:Nat}{N:Int}(hx:jx x N)(k:IntKind)(h:k.min≤N∧N≤k.max):floatToIntVal .f64 x k=some N:=by
 unfold floatToIntVal
 have:(FloatKind.f64.decode x).toInt .zero=some N:=WR hx.isInt
 rw[this]
 exact ah h
theorem KM:jx 0 0:=⟨by decide,⟨false,0,-1074,Qz false,by rw[xG,Jb,xG],fun h=>absurd rfl h⟩⟩
theorem Sb{b:Nat}(h:b<2 ^ 64):b ^^^ 2 ^ 63=if b<2 ^ 63 then b+2 ^ 63 else b-2 ^ 63:=by
 have e:((BitVec.ofNat 64 b) ^^^ (BitVec.ofNat 64 (2 ^ 63))).toNat=b ^^^ 2 ^ 63:=by
  rw[BitVec.toNat_xor,BitVec.toNat_ofNat,BitVec.toNat_ofNat,tU h,tU (by decide)]
 by_cases hb:b<2 ^ 63
 ·rw[ah hb]
  have:=Oq hb 1
  rw[dO]at this
  rw[Nat.add_comm,this]
  refine BE fun i=>?_
  rw[Nat.testBit_xor,I9,Og]
  by_cases hi:63=i
  ·subst hi
   rw[vS hb];rfl
  ·rw[decide_eq_false hi];simp
 ·rw[ag hb]
  obtain⟨c,rfl⟩:∃c,b=2 ^ 63+c:=⟨b-2 ^ 63,by omega⟩
  have hc:c<2 ^ 63:=by
   have:(2:Nat) ^ 64=2 ^ 63+2 ^ 63:=by decide
   omega
  have:=Oq hc 1
  rw[dO]at this
  rw[Ju,this]
  refine BE fun i=>?_
  rw[Nat.testBit_xor,I9,Og]
  by_cases hi:63=i
  ·subst hi
   rw[vS hc];rfl
  ·rw[decide_eq_false hi];simp
theorem acA{x:Nat}{N:Int}(hx:jx x N):jx (Go.Op.negFloat .f64 x) (-N):=by
 have e:Go.Op.negFloat .f64 x=x ^^^ 2 ^ 63:=rfl
 have ab:x<18446744073709551616:=hx.lt
 have hsw:double.signWeight=9223372036854775808:=by decide
 have af3:double.read (x ^^^ 2 ^ 63)=(double.read x).opposite:=by
  rw[Sb hx.lt]
  have Ob:(2:Nat) ^ 63=9223372036854775808:=by decide
  rw[Ob]
  unfold Format.read
  dsimp only
  rw[hsw]
  by_cases hb:x<9223372036854775808
  ·rw[ah hb,show (x+9223372036854775808) / 9223372036854775808 % 2=1 by omega,show (x+9223372036854775808) % 9223372036854775808=x by omega,show x / 9223372036854775808 % 2=0 by omega,show x % 9223372036854775808=x by omega]
   repeat' split
   all_goals rfl
  ·rw[ag hb,show (x-9223372036854775808) / 9223372036854775808 % 2=0 by omega,show (x-9223372036854775808) % 9223372036854775808=x-9223372036854775808 by omega,show x / 9223372036854775808 % 2=1 by omega,show x % 9223372036854775808=x-9223372036854775808 by omega]
   repeat' split
   all_goals rfl
 rw[e]
 refine⟨?_,by rw[af3];exact QO hx.isInt⟩
 rw[Sb hx.lt]
 have Ob:(2:Nat) ^ 63=9223372036854775808:=by decide
 have lV:(2:Nat) ^ 64=18446744073709551616:=by decide
 rw[Ob,lV]
 split <;> omega
def n5(w:World)(b:Nat):Prop:=∃c T fz,w.heap[b]?=some (.cells c T fz)
def FC(F:Nat→Prop)(w:World)(b:Nat):Prop:=F b∧n5 w b
def kV(F:Nat→Prop)(w:World):(s:Sh)→List Value→s.T→Prop
 |.int k,cs,(n:Int)=>cs=[.int k n]
 |.bool,cs,(b:Bool)=>cs=[.bool b]
 |.str,cs,(s:ByteArray)=>cs=[.string s]
 |.slice e,cs,(l:List e.T)=>∃(a:Option Addr) (c:Nat),cs=[.slice a l.length c]∧l.length≤c∧c≤maxLen∧(a=none→c=0)∧
   (l≠[]→∃b o,a=some ⟨b,o,none⟩∧FC F w b∧∀i,(h:i<l.length)→∃cs',cs'.length=e.size∧vf w b (o+i*e.size) cs'∧kV F w e cs' l[i])
 |.nil,cs,_=>cs=[]
 |.field f r,cs,(d:f.T×r.T)=>∃c1 c2,cs=c1++c2∧c1.length=f.size∧kV F w f c1 d.1∧kV F w r c2 d.2
def D3(w:World)(b off len e:Nat)(a:Addr)(cap:Nat):Prop:=
 ∃c T fz,w.heap[b]?=some (.cells c T fz)∧len≤cap∧cap≤maxLen∧((a=⟨b,off,none⟩∧off+cap*e≤c.size)∨(a.block=b∧a.spot=none∧len=0∧cap=0))
inductive aA(F:Nat→Prop)(w:World):AV→Value→Prop where
 |int (k:IntKind) (n:Int):aA F w (.int k n) (.int k n)
 |bool (b:Bool):aA F w (.bool b) (.bool b)
 |str (s:ByteArray):aA F w (.str s) (.string s)
 |af (e:Sh) (l:List e.T) (v:Value) (h:kV F w (.slice e) [v] l):aA F w (.af e l) v
 |kB (a:Option Addr):aA F w .kB (.slice a 0 0)
 |ia (a:Addr) (c:Nat) (h:c≤maxLen):aA F w .ia (.slice (some a) 0 c)
 |aj:aA F w .aj (.slice none 0 0)
 |ae (b off len e:Nat) (a:Addr) (cap:Nat) (h:D3 w b off len e a cap):aA F w (.ae b off len e) (.slice (some a) len cap)
 |cR:aA F w .cR (.pointer none)
 |ptr (b off:Nat) (h:n5 w b):aA F w (.ptr b off) (.pointer (some ⟨b,off,none⟩))
 |fV (cs:List AV) (b o:Nat) (f:Nat→Value) (hF:FC F w b) (h1:∀i x,cs[i]?=some x→w.cell? ⟨b,o+i,none⟩=some (f i)) (hl:∀(i:Nat) (x:AV),cs[i]?=some x→x.leaf=true) (h:∀i x,cs[i]?=some x→aA F w x (f i)):aA F w (.fV cs) (.pointer (some ⟨b,o,none⟩))
 |agg (cs:List AV) (vs:Array Value) (hs:cs.length=vs.size) (hl:∀(i:Nat) (x:AV),cs[i]?=some x→x.leaf=true) (h:∀i x,cs[i]?=some x→aA F w x (vs.getD i undef)):aA F w (.agg cs) (.agg vs)
 |tup (cs:List AV) (vs:Array Value) (hs:cs.length=vs.size) (h:∀i x,cs[i]?=some x→aA F w x (vs.getD i undef)):aA F w (.tup cs) (.tuple vs)
 |iface (t:TypeId) (a:AV) (v:Value) (h:aA F w a v):aA F w (.iface t a) (.iface t v)
 |nilif:aA F w .nilif .nilIface
 |fn (f:Fn) (c1 c2:List AV) (v1 v2:Array Value) (fv:c1.length=v1.size) (hG:c2.length=v2.size) (h1:∀i x,c1[i]?=some x→aA F w x (v1.getD i undef)) (h2:∀i x,c2[i]?=some x→aA F w x (v2.getD i undef)):aA F w (.fn f c1 c2) (.func f v1 v2)
 |iP:aA F w .iP .nilFunc
 |px:aA F w .px (.map none)
 |gp (n:Int) (b:Nat) (h:jx b n):aA F w (.gp n) (.float .f64 b)
 |fS (n m:Int) (a b:Nat) (h1:jx a n) (h2:jx b m):aA F w (.fS n m) (.complex .f64 a b)
 |any (v:Value):aA F w .any v
 |via (x:AV) (v:Value) (hl:x.leaf=true) (h:aA F w x v):aA F w (.via x) v
 |nA (b:Nat):aA F w (.nA b) (.map (some b))
 |nH (b:Nat):aA F w (.nH b) (.pointer (some ⟨b,0,none⟩))
def jf(F:Nat→Prop)(w:World)(xs:List AV)(vs:Array Value):Prop:=xs.length=vs.size∧∀i x,xs[i]?=some x→aA F w x (vs.getD i undef)
def gg:Nat→List (Int×Int)→List MapEntry
 |_,[]=>[]
 |n,p::l=> { key:=.int .i64 p.1,val:=.int .i64 p.2,born:=n }::gg (n+1) l
def w9:AV→Option Obj
 |.oq l=>some (.map (gg 0 l).toArray l.length)
 |.r8 m c s=>some (.mapIter (some m) c s.toArray c)
 |_=>none
def Ht(F:Nat→Prop)(w:World)(b:Nat)(cs:List AV):Prop:=
 ∃c T,w.heap[b]?=some (.cells c T (0,0))∧cs.length≤c.size∧∀(i:Nat) (x:AV),cs[i]?=some x→x.leaf=true∧aA F w x (c.getD i undef)
def Holds(F:Nat→Prop)(w:World)(b:Nat)(cs:List AV):Prop:=
 ¬F b∧(Ht F w b cs∨(∃x o,cs=[x]∧w.heap[b]?=some o∧w9 x=some o)∨∃L t,cs=[.mF L t]∧w.heap[b]?=some (.loop L)∧∀i,aA F w (t i) (L.tmps.getD i undef))
structure bA(F:Nat→Prop)(w:World)(σ:Hp):Prop where
 nodup:(σ.map Prod.fst).Nodup
 holds:∀p∈σ,Holds F w p.1 p.2
 low:∀b,F b→b<w.heap.size
structure bJ(F:Nat→Prop)(w:World)(F':Nat→Prop)(w':World):Prop where
 os:w'.os=w.os
 tape:w'.tape=w.tape
 output:w'.output=w.output
 size:w.heap.size≤w'.heap.size
 sub:∀b,F b→F' b
 fix:∀b,F b→w'.heap[b]?=w.heap[b]?
 rows:∀(b:Nat) (c:Array Value) (T:TypeId) (fz:Nat×Nat),w.heap[b]?=some (.cells c T fz)→∃(c':Array Value) (pP:Nat×Nat),w'.heap[b]?=some (.cells c' T pP)∧c'.size=c.size
 drawn:w.drawn≤w'.drawn
def Enters(P:Program)(f:FuncId):Prop:=∀(args:Array Value) (w:World),(callFunc f args).run P w=.ok (.enter f args) w
def ACalls(P:Program)(f:FuncId)(args:List AV)(σ:Hp)(R:AV→Hp→Prop):Prop:=
 Enters P f∧∀F w vs,jf F w args vs→bA F w σ→Calls P f vs w fun e w'=>∃r v σ' F',e=.returned v∧bJ F w F' w'∧bA F' w' σ'∧aA F' w' r v∧R r σ'
def pull(i:Nat)(σ:Hp):Hp:=match σ[i]? with | some p=>p::σ.eraseIdx i | none=>σ
def n9:List Nat→Hp→Hp
 | [],σ=>σ
 |i::r,σ=>pull i (n9 r σ)
inductive jm:Hp→Hp→Prop where
 |refl (σ:Hp):jm σ σ
 |pull (js:List Nat) {σ σ2:Hp} (h:jm (n9 js σ) σ2):jm σ σ2
 |drop (k n:Nat) {σ σ2:Hp} (h:jm (σ.take k++σ.drop (k+n)) σ2):jm σ σ2
 |perm {σ ki σ2:Hp} (hp:ki.Perm σ) (h:jm ki σ2):jm σ σ2
 |afB (i b':Nat) (cs kJ:List AV) {σ σ2:Hp} (hi:σ[i]?=some (b',cs)) (hl:kJ.length=cs.length) (hk:∀(k:Nat) (x y:AV),cs[k]?=some x→kJ[k]?=some y→x=y∨(x=.aj∧∃e:Sh,y=.af e [])) (h:jm (σ.set i (b',kJ)) σ2):jm σ σ2
inductive eI(b off len es:Nat)(e:Sh)(l:List e.T):AV→AV→Prop where
 |here:eI b off len es e l (.ae b off len es) (.af e l)
 |refl (x:AV):eI b off len es e l x x
 |tup (xs ys:List AV) (h:xs.length=ys.length) (hi:∀(i:Nat) (x y:AV),xs[i]?=some x→ys[i]?=some y→eI b off len es e l x y):eI b off len es e l (.tup xs) (.tup ys)
 |agg (xs ys:List AV) (h:xs.length=ys.length) (hl:∀(i:Nat) (y:AV),ys[i]?=some y→y.leaf=true) (hi:∀(i:Nat) (x y:AV),xs[i]?=some x→ys[i]?=some y→eI b off len es e l x y):eI b off len es e l (.agg xs) (.agg ys)
 |nil (e':Sh):eI b off len es e l .aj (.af e' [])
 |ia (e':Sh):eI b off len es e l .ia (.af e' [])
 |via {x y:AV} (h:eI b off len es e l x y):eI b off len es e l (.via x) y
inductive CallAt(P:Program)(f:FuncId)(K:AV→Hp→Prop):List AV→Hp→Prop where
 |mk {args:List AV} {σ:Hp} (js:List Nat) (R:AV→Hp→Prop) (call:ACalls P f args (n9 js σ) R) (go:∀r σ',R r σ'→K r σ'):CallAt P f K args σ
 |perm {args:List AV} {σ σ2:Hp} (R:AV→Hp→Prop) (hp:σ2.Perm σ) (call:ACalls P f args σ2 R) (go:∀r σ',R r σ'→∃eb,eb.Perm σ'∧K r eb):CallAt P f K args σ
 |cJ {args args':List AV} {σ:Hp} (j b off len es:Nat) (cs:List AV) (e:Sh) (l:List e.T) (h1:σ[j]?=some (b,cs)) (h2:(cs.drop off).take (len*es)=l.flatMap e.cells) (h3:l.length=len∧e.size=es∧0<es) (h4:eI b off len es e l (.tup args) (.tup args')) (h:CallAt P f K args' (σ.eraseIdx j)):CallAt P f K args σ
 |kz {args:List AV} {σ:Hp} (j b off len es:Nat) (cs:List AV) (e:Sh) (l:List e.T) (h1:σ[j]?=some (b,cs)) (h2:(cs.drop off).take (len*es)=l.flatMap e.cells) (h3:l.length=len∧e.size=es∧0<es) (i k b':Nat) (cs':List AV) (hi:(σ.eraseIdx j)[i]?=some (b',cs')) (hk:cs'[k]?=some (.ae b off len es)) (h:CallAt P f K args ((σ.eraseIdx j).set i (b',cs'.set k (.af e l)))):CallAt P f K args σ
inductive te(P:Program)(f:FuncId)(args:List AV)(σ:Hp)(K:AV→Prop):Prop where
 |mk (js:List Nat) (r:AV) (call:ACalls P f args (n9 js σ) (fun r' σ'=>r'=r∧σ'=n9 js σ)) (go:K r):te P f args σ K
 |perm {σ2:Hp} (hp:σ2.Perm σ) (r:AV) (call:ACalls P f args σ2 (fun r' σ'=>r'=r∧σ2.Perm σ')) (go:K r):te P f args σ K
def Hr(P:Program)(l:Nat)(args:List AV)(σ:Hp)(R:AV→Hp→Prop):Prop:=
 ∀F w vs,jf F w args vs→bA F w σ→∃f tmps assign body,(Instr.yield l vs).run P w=.ok (.round l f tmps assign body) w∧
  RoundIn Fence.wide 0 P l f tmps assign body w fun e w'=>∃r v σ' F',e=.returned v∧bJ F w F' w'∧bA F' w' σ'∧aA F' w' r v∧R r σ'
inductive wQ(P:Program)(l:Nat)(K:AV→Hp→Prop):List AV→Hp→Prop where
 |mk {args:List AV} {σ:Hp} (js:List Nat) (R:AV→Hp→Prop) (call:Hr P l args (n9 js σ) R) (go:∀r σ',R r σ'→K r σ'):wQ P l K args σ
 |perm {args:List AV} {σ σ2:Hp} (R:AV→Hp→Prop) (hp:σ2.Perm σ) (call:Hr P l args σ2 R) (go:∀r σ',R r σ'→∃eb,eb.Perm σ'∧K r eb):wQ P l K args σ
section
variable (P:Program) (TT:TypeId→Option TI)
def Meth(t:TypeId)(m:String)(g:FuncId):Prop:=
 ∀(a:Addr) (w:World),(method (P.types.size+Made.depth) t (.pointer (some a)) m).run P w=.ok (g,.pointer (some a)) w
inductive InvAt(t:TypeId)(m:String)(K:FuncId→Prop):Prop where
 |mk (g:FuncId) (h:Meth P t m g) (go:K g):InvAt t m K
def pX(c:Call)(ρ:Operand→AV)(K:FuncId→List AV→Prop)(KY:Nat→List AV→Prop):Prop:=
 match c.callee with
 |.value f=>match ρ f with
  |.fn (.func g) first cap=>K g (first++(c.args.toList.map fun x=>bQ (ρ x))++cap)
  |.fn (.yield l) [] []=>KY l (c.args.toList.map fun x=>bQ (ρ x))
  |_=>False
 |.invoke r m=>match ρ r with
  |.iface t (.ptr b o)=>InvAt P t m fun g=>K g (.ptr b o::c.args.toList.map fun x=>bQ (ρ x))
  |.iface t (.fV cs)=>InvAt P t m fun g=>K g (.fV cs::c.args.toList.map fun x=>bQ (ρ x))
  |_=>False
 |.builtin _=>False
inductive kc(σ:Hp)(es:Nat):AV→Nat→List AV→Prop where
 |aj:kc σ es .aj 0 []
 |kB:kc σ es .kB 0 []
 |ia:kc σ es .ia 0 []
 |af (s:Sh) (l:List s.T) (h:s.size=es):kc σ es (.af s l) l.length (l.flatMap s.cells)
 |ae (j b off len:Nat) (cs:List AV) (h1:σ[j]?=some (b,cs)) (h2:off+len*es≤cs.length):kc σ es (.ae b off len es) len ((cs.drop off).take (len*es))
inductive G2(i:TI)(σ:Hp)(s x:AV)(K:AV→Hp→Prop):Prop where
 |fresh (n:Nat) (new:List AV) (hs:s=.aj∨s=.kB) (hx:kc σ i.size x n new) (hn:n≤1048576) (hb:i.bytes≤1024) (h0:0<i.size) (go:n≠0→∀b,K (.ae b 0 n i.size) ((b,new)::σ)) (same:n=0→K s σ)
 |more (j b len n:Nat) (cs new:List AV) (hs:s=.ae b 0 len i.size) (h1:σ[j]?=some (b,cs)) (h2:len*i.size≤cs.length) (hx:kc σ i.size x n new) (hn:len+n≤1048576) (hb:i.bytes≤1024) (h0:0<i.size)
   (go:∀b',K (.ae b' 0 (len+n) i.size) ((b',cs.take (len*i.size)++new)::σ.eraseIdx j)):G2 i σ s x K
 |Ax (j b off len n:Nat) (cs new:List AV) (hs:s=.ae b off len i.size) (h1:σ[j]?=some (b,cs)) (h2:off+len*i.size≤cs.length) (hx:kc σ i.size x n new) (hn:len+n≤1048576) (hb:i.bytes≤1024) (h0:0<i.size)
   (xh:K (.ae b off (len+n) i.size) ((b,cs.take (off+len*i.size)++new)::σ.eraseIdx j))
   (go:∀b',K (.ae b' 0 (len+n) i.size) ((b',(cs.drop off).take (len*i.size)++new)::σ.eraseIdx j)):G2 i σ s x K
inductive AppendAt(i:TI)(σ:Hp)(s x:AV)(K:AV→Hp→Prop):Prop where
 |fresh (n:Nat) (new:List AV) (hs:s=.aj∨s=.kB) (hx:kc σ i.size x n new) (hn:n≤1048576) (hb:i.bytes≤1024) (h0:0<i.size) (go:n≠0→∀b,K (.ae b 0 n i.size) ((b,new)::σ)) (same:n=0→K s σ)
 |more (j b len n:Nat) (cs new:List AV) (hs:s=.ae b 0 len i.size) (h1:σ[j]?=some (b,cs)) (h2:len*i.size≤cs.length) (hx:kc σ i.size x n new) (hn:len+n≤1048576) (hb:i.bytes≤1024) (h0:0<i.size)
   (go:∀b',K (.ae b' 0 (len+n) i.size) ((b',cs.take (len*i.size)++new)::σ.eraseIdx j)):AppendAt i σ s x K
 |Ax (j b off len n:Nat) (cs new:List AV) (hs:s=.ae b off len i.size) (h1:σ[j]?=some (b,cs)) (h2:off+len*i.size≤cs.length) (hx:kc σ i.size x n new) (hn:len+n≤1048576) (hb:i.bytes≤1024) (h0:0<i.size)
   (xh:K (.ae b off (len+n) i.size) ((b,cs.take (off+len*i.size)++new)::σ.eraseIdx j))
   (go:∀b',K (.ae b' 0 (len+n) i.size) ((b',(cs.drop off).take (len*i.size)++new)::σ.eraseIdx j)):AppendAt i σ s x K
 |perm {σ2:Hp} (K2:AV→Hp→Prop) (hp:σ2.Perm σ) (h:G2 i σ2 s x K2) (hk:∀v eb,K2 v eb→∃yY,yY.Perm eb∧(K v yY∨(v.leaf=true∧K (.via v) yY))):AppendAt i σ s x K
inductive CU(i:TI)(σ:Hp)(s x:AV)(K:AV→Hp→Prop):Prop where
 |aj (k:IntKind) (n:Int) (hs:s=.aj) (hx:x=.int k n) (hn:0≤n∧n≤1048576) (hb:i.bytes≤1024) (h0:0<i.size) (go:0<n→∀b,K (.ae b 0 n.toNat i.size) ((b,cM i.zero n.toNat)::σ)) (same:n=0→K .aj σ):CU i σ s x K
inductive TG(i:TI)(σ:Hp)(s:AV)(K:Hp→Prop):Prop where
 |none (hs:s=.aj∨s=.kB∨s=.ia) (go:K σ)
 |ae (j b off len:Nat) (cs:List AV) (hs:s=.ae b off len i.size) (h1:σ[j]?=some (b,cs)) (h2:off+len*i.size≤cs.length) (go:K (σ.set j (b,ga cs off (cM i.zero len))))
inductive L1(i:TI)(σ:Hp)(d x:AV)(K:AV→Hp→Prop):Prop where
 |ae (j b off len n:Nat) (cs new:List AV) (hd:d=.ae b off len i.size) (h1:σ[j]?=some (b,cs)) (h2:off+len*i.size≤cs.length) (hx:kc σ i.size x n new) (hn:n≤len) (go:K (.int .i64 n) (σ.set j (b,ga cs off new)))
 |none (new:List AV) (hd:d=.aj∨d=.kB∨d=.ia) (hx:kc σ i.size x 0 new) (go:K (.int .i64 0) σ)
 |part (j b off len:Nat) (cs:List AV) (hd:d=.ae b off len i.size) (h1:σ[j]?=some (b,cs)) (h2:off+len*i.size≤cs.length) (j2 b2 ny n:Nat) (kJ:List AV) (hx:x=.ae b2 ny n i.size) (h3:σ[j2]?=some (b2,kJ)) (h4:ny+n*i.size≤kJ.length) (hn:len≤n) (go:K (.int .i64 len) (σ.set j (b,ga cs off ((kJ.drop ny).take (len*i.size)))))
def Ab(t:TypeId)(m k x:AV)(σ:Hp)(K:AV→Hp→Prop):Prop:=
 match AU TT t,k,x with
 |some _,.int .i64 n,.int .i64 v=>HR σ m fun j b l=>K .any (σ.set j (b,[.oq (rf l n v)]))
 |_,_,_=>False
def G7(t:TypeId)(m:AV)(σ:Hp)(K:AV→Hp→Prop):Prop:=
 match AU TT t with
 |some _=>HR σ m fun _ b l=>∀r,K (.nH r) ((r,[.r8 b l.length []])::σ)
 |none=>False
inductive LY(σ:Hp)(x:AV)(K:AV→Hp→Prop):Prop where
 |mk (j j2 r b:Nat) (l:List (Int×Int)) (seen:List Nat) (hx:x=.nH r) (h1:σ[j]?=some (r,[.r8 b l.length seen])) (h2:σ[j2]?=some (b,[.oq l]))
   (stop:(∀i:Nat,i<l.length→i∈seen)→K (.tup [.bool false]) σ)
   (go:∀(i:Nat) (p:Int×Int),l[i]?=some p→i ∉ seen→K (.tup [.bool true,.int .i64 p.1,.int .i64 p.2]) (σ.set j (r,[.r8 b l.length (seen++[i])]))):LY σ x K
inductive Lx(σ:Hp)(x:AV)(K:AV→Hp→Prop):Prop where
 |mk (j j2 r b i:Nat) (l:List (Int×Int)) (p:Int×Int) (seen:List Nat) (hx:x=.nH r) (h1:σ[j]?=some (r,[.r8 b l.length (seen++[i])])) (h2:σ[j2]?=some (b,[.oq l])) (h3:l[i]?=some p)
   (go:K (.tup [.int .i64 p.1,.int .i64 p.2]) σ):Lx σ x K
def gX(o:Op)(ρ:Operand→AV)(σ:Hp)(K:AV→Hp→Prop):Prop:=
 match o with
 |.box _ x=>match (ρ x).cells? with | some cs=>∀b,K (.ptr b 0) ((b,cs)::σ) | none=>False
 |.alloc e=>match TT e with | some i=>∀b,K (.ptr b 0) ((b,i.zero)::σ) | none=>False
 |.buildSlice t len parts=>match TT t with
  |some ⟨.slice e,_,_,_⟩=>match TT e with
   |some i=>match rY ((List.range len).map fun j=>(j*i.size,i.size)) (cM i.zero len) (parts.toList.map fun p=>(p.1,ρ p.2)),Nat.ble (len*i.size) 16777216,Nat.ble 1 i.size with
    |some cs,true,true=>∀b,K (.ae b 0 len i.size) ((b,cs)::σ)
    |_,_,_=>False
   |none=>False
  |_=>False
 |.makeSlice t l c=>match TT t,ρ l,ρ c with
  |some ⟨.slice e,_,_,_⟩,.int _ n,.int _ m=>match TT e with
   |some i=>aI (0≤n∧n≤m∧m≤1048576∧i.bytes≤1024) (∀b,K (.ae b 0 n.toNat i.size) ((b,cM i.zero n.toNat)::σ))
   |none=>False
  |_,_,_=>False
 |.store t a x=>match TT t with
  |some i=>match ρ a with | .ptr b o=>G1 i σ b o (ρ x) (fun σ'=>K .any σ') | _=>False
  |none=>False
 |.makeMap t none=>match AU TT t with | some _=>∀b,K (.nA b) ((b,[.oq []])::σ) | none=>False
 |.mapUpdate t m k x=>Ab TT t (bQ (ρ m)) (bQ (ρ k)) (bQ (ρ x)) σ K
 |.insert t m k x=>Ab TT t (bQ (ρ m)) (bQ (ρ k)) (bQ (ρ x)) σ K
 |.range t x=>G7 TT t (bQ (ρ x)) σ K
 |.next x s=>match s with | false=>LY σ (bQ (ρ x)) K | true=>False
 |.entry x=>Lx σ (bQ (ρ x)) K
 |.call ⟨.builtin .append,args,cz⟩=>match args.toList,cz.toList with
  | [s,x],[t,t']=>match TT t,TT t' with
   |some ⟨.slice e,_,_,_⟩,some ⟨.slice _,_,_,_⟩=>match TT e with | some i=>AppendAt i σ (bQ (ρ s)) (bQ (ρ x)) K | none=>False
   |some ⟨.slice e,_,_,_⟩,some ⟨.int _,_,_,_⟩=>match TT e with | some i=>CU i σ (bQ (ρ s)) (bQ (ρ x)) K | none=>False
   |_,_=>False
  |_,_=>False
 |.call ⟨.builtin .clear,args,cz⟩=>match args.toList,cz.toList with
  | [s],[t]=>match TT t with
   |some ⟨.slice e,_,_,_⟩=>match TT e with | some i=>TG i σ (bQ (ρ s)) (fun σ'=>K (.tup []) σ') | none=>False
   |_=>False
  |_,_=>False
 |.call ⟨.builtin .copy,args,cz⟩=>match args.toList,cz.toList with
  | [d,x],[t,t']=>match TT t,TT t' with
   |some ⟨.slice e,_,_,_⟩,some ⟨.slice _,_,_,_⟩=>match TT e with | some i=>L1 i σ (bQ (ρ d)) (bQ (ρ x)) K | none=>False
   |_,_=>False
  |_,_=>False
 |.call ⟨.builtin b,args,cz⟩=>fI P TT (.call ⟨.builtin b,args,cz⟩) ρ σ (fun v=>K v σ)
 |.call c=>pX P c ρ (fun f xs=>CallAt P f K xs σ) (fun l xs=>wQ P l K xs σ)
 |o=>fI P TT o ρ σ (fun v=>K v σ)
def pf(ops:List Oper)(o:Oper)(t:Tm)(A B:Prop):Prop:=
 match o.guard with
 |none=>A
 |some (j,want)=>match (ops[j]?).bind (·.dst) with
  |some d=>match t d with
   |.bool b=>(match want,b with | true,true=>A | true,false=>B | false,true=>B | false,false=>A)
   |.tup []=>B
   |_=>False
  |none=>False
def Vh(ops:List Oper)(l:List Oper):Tm→Hp→(Tm→Hp→Prop)→Prop:=
 List.rec (motive:=fun _=>Tm→Hp→(Tm→Hp→Prop)→Prop) (fun t σ K=>K t σ)
  (fun o _ ih t σ K=>pf ops o t (gX P TT o.op (ev t) σ fun v σ'=>ih (put t o.dst v) σ' K) (ih (put t o.dst (.tup [])) σ K)) l
def vr(o:Op)(ρ:Operand→AV)(σ:Hp)(K:AV→Prop):Prop:=
 match o with
 |.call ⟨.builtin b,args,cz⟩=>fI P TT (.call ⟨.builtin b,args,cz⟩) ρ σ K
 |.call c=>pX P c ρ (fun f xs=>te P f xs σ K) (fun _ _=>False)
 |o=>fI P TT o ρ σ K
def HV(ops:List Oper)(l:List Oper):Tm→Hp→(Tm→Prop)→Prop:=
 List.rec (motive:=fun _=>Tm→Hp→(Tm→Prop)→Prop) (fun t _ K=>K t)
  (fun o _ ih t σ K=>pf ops o t (vr P TT o.op (ev t) σ fun v=>ih (put t o.dst v) σ K) (ih (put t o.dst (.tup [])) σ K)) l
def blind:Op→Bool
 |.move _ | .assign _ | .pick .. | .build .. | .nilCheck _ | .binOp .. | .unOp .. | .convert .. | .makeInterface .. | .makeFunc .. | .slice .. | .fieldAddr .. | .field .. | .indexAddr .. | .extract .. | .typeAssert .. => true
 |.call ⟨.builtin .len,_,_⟩ | .call ⟨.builtin .min,_,_⟩ | .call ⟨.builtin .max,_,_⟩=>true
 |_=>false
def ja(ops:List Oper)(aw:List Bool):List Nat:=
 (List.range ops.length).filter fun i=> !aw.getD i true&&(match ops[i]? with | some o=>o.after.toList.all fun e=> !Region.binds .any e||aw.getD e.on false | none=>false)
def AR(ops:List Oper)(i:Nat)(t:Tm)(σ:Hp)(K:Tm→Hp→Prop):Prop:=
 match ops[i]? with
 |some o=>pf ops o t (gX P TT o.op (ev t) σ fun v σ'=>K (put t o.dst v) σ') (K (put t o.dst (.tup [])) σ)
 |none=>False
def M1(f:Nat→Prop)(l:List Nat):Prop:=
 List.rec (motive:=fun _=>Prop) True (fun i r ih=>match r with | []=>f i | _=>f i∧ih) l
def s6:Op→Bool
 |.load _ _=>true
 |_=>false
def oz(o:Op):Bool:= !(blind o||s6 o)
def pZ(o:Oper)(j:Nat):Bool:=o.after.toList.any fun e=>Region.binds .any e&&Nat.beq e.on j
def aeP(ops:List Oper)(aw:List Bool)(i:Nat):Bool:=ops.zipIdx.all fun (o,j)=> !oz o.op||aw.getD j false||pZ o i
def LJ(ops:List Oper)(aw:List Bool)(i:Nat):Bool:=
 match ops[i]? with
 |some o=>blind o.op||(s6 o.op&&aeP ops aw i)
 |none=>false
def uZ(ops:List Oper)(n:Nat):List Bool→Tm→Hp→(Tm→Hp→Prop)→Prop:=
 Nat.rec (motive:=fun _=>List Bool→Tm→Hp→(Tm→Hp→Prop)→Prop) (fun _ _ _ _=>False)
  (fun _ ih aw t σ K=>match ja ops aw with
   | []=>K t σ
   |i::r=>match (i::r).find? (LJ ops aw) with
    |some j=>AR P TT ops j t σ fun t' σ'=>ih (aw.set j true) t' σ' K
    |none=>M1 (fun j=>AR P TT ops j t σ fun t' σ'=>ih (aw.set j true) t' σ' K) (i::r)) n
theorem Rc{ops:List Oper}{n:Nat}{aw:List Bool}{t:Tm}{σ:Hp}{K:Tm→Hp→Prop}:uZ P TT ops (n+1) aw t σ K=(match ja ops aw with
   | []=>K t σ
   |i::r=>match (i::r).find? (LJ ops aw) with
    |some j=>AR P TT ops j t σ fun t' σ'=>uZ P TT ops n (aw.set j true) t' σ' K
    |none=>M1 (fun j=>AR P TT ops j t σ fun t' σ'=>uZ P TT ops n (aw.set j true) t' σ' K) (i::r)):=rfl
def yp(ops:List Oper)(o:Oper):List Tmp:=
 (o.op.operands.toList.filterMap fun | .tmp t=>some t | _=>none)++(match o.guard with | some (g,_)=>((ops[g]?).bind (·.dst)).toList | none=>[])
def GF(ops:List Oper):Bool:=
 let z:=ops.zipIdx
 z.all fun (o,i)=>
  (o.after.toList.all fun e=> !Region.binds .any e||Nat.blt e.on i) &&
  (z.all fun (p,j)=>match p.dst with
   |none=>true
   |some d=>(Nat.beq i j||match o.dst with | some d'=> !Nat.beq d d' | none=>true) &&
    (!(yp ops o).any (Nat.beq d)||Nat.beq i j||(Nat.blt j i&&pZ o j)||(Nat.blt i j&&pZ p i)))
def rO(ops:List Oper):Bool:=
 let z:=ops.zipIdx
 z.all fun (o,i)=>(match o.op with | .select .. => false | _=>true)&&z.all fun (p,j)=>Nat.beq i j||pZ o j||pZ p i||o.apart ops.toArray p
def eN(g:Tm):List (Nat×AV)→Tm
 | []=>g
 |(i,v)::r=>fun j=>match Nat.beq j i with | true=>v | false=>eN g r j
def agree(t:Tm):List (Nat×AV)→Prop
 | []=>True
 |(i,v)::r=>t i=v∧agree t r
theorem zT{t:Tm}{l:List (Nat×AV)}(h:agree t l):t=eN t l:=by
 induction l with
 |nil=>rfl
 |cons p r ih=>
  obtain⟨i,v⟩:=p
  obtain⟨h1,h2⟩:=h
  funext j
  show t j=(match Nat.beq j i with | true=>v | false=>eN t r j)
  cases hb:Nat.beq j i with
  |true=>rw[jK hb];exact h1
  |false=>exact congrFun (ih h2) j
inductive cS{S:Type}(L:S→List (Nat×AV))(H:S→Hp)(t':Tm)(σ':Hp):Prop where
 |mk (s:S) (h3:agree t' (L s)) (h4:jm σ' (H s)):cS L H t' σ'
def jR(ops:List Oper)(q:Bool)(i:Nat)(t:Tm)(σ:Hp)(K:Tm→Hp→Prop):Prop:=
 match ops[i]? with
 |some o=>match q with
  |true=>pf ops o t (vr P TT o.op (ev t) σ fun v=>K (put t o.dst v) σ) (K (put t o.dst (.tup [])) σ)
  |false=>pf ops o t (gX P TT o.op (ev t) σ fun v σ'=>K (put t o.dst v) σ') (K (put t o.dst (.tup [])) σ)
 |none=>False
def eZ(j:Nat)(l:List Nat):Bool:=l.any (Nat.beq j)
def ql(ops:List Oper)(Q:List Nat)(n:Nat):List Bool→Tm→Hp→(Tm→Hp→Prop)→Prop:=
 Nat.rec (motive:=fun _=>List Bool→Tm→Hp→(Tm→Hp→Prop)→Prop) (fun _ _ _ _=>False)
  (fun _ ih aw t σ K=>(ja ops aw=[]→K t σ)∧∀i∈ja ops aw,jR P TT ops (eZ i Q) i t σ fun t' σ'=>ih (aw.set i true) t' σ' K) n
def My(o:Oper)(acc:List (List Nat)):List Nat:=o.after.toList.flatMap fun e=>match Region.binds .any e with | true=>e.on::(acc[e.on]?).getD [] | false=>[]
def L2:List Oper→List (List Nat)→List (List Nat)
 | [],acc=>acc
 |o::os,acc=>L2 os (acc++[(My o acc).eraseDups])
def uW(ops:List Oper)(Q:List Nat)(k:Nat):Bool:=match ops[k]? with | some o=>oz o.op&&!eZ k Q | none=>false
def HA:Op→Bool
 |.alloc _ | .box _ _=>true
 |_=>false
def DA(ops:List Oper)(k:Nat):Bool:=match ops[k]? with | some o=>HA o.op | none=>false
def An(ops:List Oper)(rows:List (List Nat))(Q:List Nat)(aw:List Bool)(j:Nat):Bool:=
 match ops[j]? with
 |some o=>(blind o.op&&!eZ j Q)||((s6 o.op||eZ j Q)&&(List.range ops.length).all fun k=>aw.getD k false||!uW ops Q k||eZ j ((rows[k]?).getD [])||(s6 o.op&&!eZ j Q&&DA ops k))
 |none=>false
inductive qJ where
 |stop
 |one (j:Nat) (q:Bool) (s:qJ)
 |alt (j:Nat) (s r:qJ)
 |A2 (j:Nat) (s r:qJ)
def lF(ops:List Oper)(rows:List (List Nat))(Q:List Nat):qJ→Nat→List Nat→List Bool→Bool
 |.stop,n,nw,aw=>match n,nw,ja ops aw with | _+1,[],[]=>true | _,_,_=>false
 |.one j q s,n,nw,aw=>match n,nw with
  |n+1,[]=>(eZ j Q == q)&&eZ j (ja ops aw)&&(An ops rows Q aw j||(match ja ops aw with | [i]=>Nat.beq i j | _=>false))&&lF ops rows Q s n [] (aw.set j true)
  |n,[i]=>(eZ j Q == q)&&Nat.beq i j&&lF ops rows Q s n [] (aw.set j true)
  |_,_=>false
 |.alt j s r,n,nw,aw=>match n,nw with
  |n+1,[]=>(match ja ops aw with
   |i::i2::l=>Nat.beq i j&&!eZ j Q&&lF ops rows Q s n [] (aw.set j true)&&lF ops rows Q r n (i2::l) aw
   |_=>false)
  |n,i::i2::l=>Nat.beq i j&&!eZ j Q&&lF ops rows Q s n [] (aw.set j true)&&lF ops rows Q r n (i2::l) aw
  |_,_=>false
 |.A2 j s r,n,nw,aw=>match n,nw with
  |n+1,[]=>(match ja ops aw with
   |i::i2::l=>Nat.beq i j&&eZ j Q&&lF ops rows Q s n [] (aw.set j true)&&lF ops rows Q r n (i2::l) aw
   |_=>false)
  |n,i::i2::l=>Nat.beq i j&&eZ j Q&&lF ops rows Q s n [] (aw.set j true)&&lF ops rows Q r n (i2::l) aw
  |_,_=>false
def uS(ops:List Oper)(s:qJ):Tm→Hp→(Tm→Hp→Prop)→Prop:=
 qJ.rec (motive:=fun _=>Tm→Hp→(Tm→Hp→Prop)→Prop) (fun t σ K=>K t σ)
  (fun j q _ ih t σ K=>jR P TT ops q j t σ fun t' σ'=>ih t' σ' K)
  (fun j _ _ ih jV t σ K=>jR P TT ops false j t σ (fun t' σ'=>ih t' σ' K)∧jV t σ K)
  (fun j _ _ ih jV t σ K=>jR P TT ops true j t σ (fun t' σ'=>ih t' σ' K)∧jV t σ K) s
def afg:Op→Bool
 |.call ⟨.builtin _,_,_⟩=>false
 |.call _=>true
 |_=>false
def G8(ops:List Oper)(Q:List Nat)(s:qJ):Bool:=
 rO ops&&Q.all (fun j=>match ops[j]? with | some o=>afg o.op | none=>false)&&lF ops (L2 ops []) Q s (ops.length+1) [] (List.replicate ops.length false)
inductive gz(ops:List Oper)(K:Tm→Hp→Prop):Tm→Hp→Prop where
 |quiet {t:Tm} {σ:Hp} (h0:GF ops=true) (h:HV P TT ops ops t σ fun t'=>K t' σ):gz ops K t σ
 |each {t:Tm} {σ:Hp} (h0:rO ops=true) (h:uZ P TT ops (ops.length+1) (List.replicate ops.length false) t σ K):gz ops K t σ
 |sched {t:Tm} {σ:Hp} (Q:List Nat) (s:qJ) (h0:G8 ops Q s=true) (h:uS P TT ops s t σ K):gz ops K t σ
 |meet {t:Tm} {σ:Hp} {S:Type} (L:S→List (Nat×AV)) (H:S→Hp) (h0:rO ops=true) (h:uZ P TT ops (ops.length+1) (List.replicate ops.length false) t σ (cS L H)) (go:∀s g,K (eN g (L s)) (H s)):gz ops K t σ
 |Hz {t:Tm} {σ:Hp} {S:Type} (Q:List Nat) (s:qJ) (L:S→List (Nat×AV)) (H:S→Hp) (h0:G8 ops Q s=true) (h:uS P TT ops s t σ (cS L H)) (go:∀s g,K (eN g (L s)) (H s)):gz ops K t σ
 |cJ {t t':Tm} {σ:Hp} (j b off len es:Nat) (cs:List AV) (e:Sh) (l:List e.T) (h1:σ[j]?=some (b,cs)) (h2:(cs.drop off).take (len*es)=l.flatMap e.cells) (h3:l.length=len∧e.size=es∧0<es) (h4:∀i,eI b off len es e l (t i) (t' i)) (h:gz ops K t' (σ.eraseIdx j)):gz ops K t σ
 |dI {t:Tm} {σ σ2:Hp} (h1:jm σ σ2) (h:gz ops K t σ2):gz ops K t σ
inductive Ex where
 |normal | exit (id:Nat) | goto (l:Nat) | ret
def Head{S:Type}(L:S→List (Nat×AV))(H:S→Hp)(p:S→Prop)(μ:S→Nat)(m:Nat)(t:Tm)(σ:Hp):Prop:=∃s g,m=μ s∧p s∧t=eN g (L s)∧σ=H s
inductive pq{S:Type}(L:S→List (Nat×AV))(H:S→Hp)(p:S→Prop)(μ:S→Nat)(s:S):Tm→Hp→Prop where
 |mk {t':Tm} {σ':Hp} (s':S) (h1:μ s'<μ s) (h2:p s') (h3:agree t' (L s')) (h4:jm σ' (H s')):pq L H p μ s t' σ'
 |cJ {t' t2:Tm} {σ':Hp} (j b off len es:Nat) (cs:List AV) (e:Sh) (l:List e.T) (h1:σ'[j]?=some (b,cs)) (h2:(cs.drop off).take (len*es)=l.flatMap e.cells) (h3:l.length=len∧e.size=es∧0<es) (h4:∀i,eI b off len es e l (t' i) (t2 i)) (h:pq L H p μ s t2 (σ'.eraseIdx j)):pq L H p μ s t' σ'
 |kz {t':Tm} {σ':Hp} (j b off len es:Nat) (cs:List AV) (e:Sh) (l:List e.T) (h1:σ'[j]?=some (b,cs)) (h2:(cs.drop off).take (len*es)=l.flatMap e.cells) (h3:l.length=len∧e.size=es∧0<es) (i k b':Nat) (cs':List AV) (hi:(σ'.eraseIdx j)[i]?=some (b',cs')) (hk:cs'[k]?=some (.ae b off len es)) (h:pq L H p μ s t' ((σ'.eraseIdx j).set i (b',cs'.set k (.af e l)))):pq L H p μ s t' σ'
 |dI {t':Tm} {σ' σ2:Hp} (h1:jm σ' σ2) (h:pq L H p μ s t' σ2):pq L H p μ s t' σ'
 |nil {t' t2:Tm} {σ':Hp} (h4:∀i,eI 0 0 0 0 .bool [] (t' i) (t2 i)) (h:pq L H p μ s t2 σ'):pq L H p μ s t' σ'
inductive mH(body:Tm→Hp→(Ex→Tm→Hp→Prop)→Prop)(Q:Ex→Tm→Hp→Prop):Tm→Hp→Prop where
 |mk {t:Tm} {σ:Hp} {S:Type} (L:S→List (Nat×AV)) (H:S→Hp) (p:S→Prop) (μ:S→Nat) (s0:S) (h0:p s0∧agree t (L s0)∧σ=H s0)
   (round:∀s g,p s→body (eN g (L s)) (H s) (fun e t' σ'=>match e with | .normal=>pq L H p μ s t' σ' | e=>Q e t' σ')):mH body Q t σ
 |cJ {t t':Tm} {σ:Hp} (j b off len es:Nat) (cs:List AV) (e:Sh) (l:List e.T) (h1:σ[j]?=some (b,cs)) (h2:(cs.drop off).take (len*es)=l.flatMap e.cells) (h3:l.length=len∧e.size=es∧0<es) (h4:∀i,eI b off len es e l (t i) (t' i)) (h:mH body Q t' (σ.eraseIdx j)):mH body Q t σ
 |dI {t:Tm} {σ σ2:Hp} (h1:jm σ σ2) (h:mH body Q t σ2):mH body Q t σ
 |wrap {t:Tm} {σ:Hp} (k:Nat) (v:AV) (h1:t k=v) (h2:v.leaf=true) (h:mH body Q (eN t [(k,.via v)]) σ):mH body Q t σ
 |nil {t t':Tm} {σ:Hp} (h4:∀i,eI 0 0 0 0 .bool [] (t i) (t' i)) (h:mH body Q t' σ):mH body Q t σ
def UZ(R:Nat→Tm→Hp→(Ex→Tm→Hp→Prop)→Prop)(k:Nat):Nat→Tm→Hp→(Ex→Tm→Hp→Prop)→Prop:=
 Nat.rec (motive:=fun _=>Nat→Tm→Hp→(Ex→Tm→Hp→Prop)→Prop) (fun _ _ _ _=>False)
  (fun _ ih l t σ Q=>R l t σ fun e t' σ'=>match e with | .goto l'=>ih l' t' σ' Q | e=>Q e t' σ') k
inductive ra{S:Type}(fX:S→Nat)(L:S→List (Nat×AV))(H:S→Hp)(p:S→Prop)(μ:S→Nat)(s:S)(l:Nat):Tm→Hp→Prop where
 |mk {t':Tm} {σ':Hp} (s':S) (h0:l=fX s') (h1:μ s'<μ s) (h2:p s') (h3:agree t' (L s')) (h4:jm σ' (H s')):ra fX L H p μ s l t' σ'
 |cJ {t' t2:Tm} {σ':Hp} (j b off len es:Nat) (cs:List AV) (e:Sh) (d:List e.T) (h1:σ'[j]?=some (b,cs)) (h2:(cs.drop off).take (len*es)=d.flatMap e.cells) (h3:d.length=len∧e.size=es∧0<es) (h4:∀i,eI b off len es e d (t' i) (t2 i)) (h:ra fX L H p μ s l t2 (σ'.eraseIdx j)):ra fX L H p μ s l t' σ'
 |kz {t':Tm} {σ':Hp} (j b off len es:Nat) (cs:List AV) (e:Sh) (d:List e.T) (h1:σ'[j]?=some (b,cs)) (h2:(cs.drop off).take (len*es)=d.flatMap e.cells) (h3:d.length=len∧e.size=es∧0<es) (i k b':Nat) (cs':List AV) (hi:(σ'.eraseIdx j)[i]?=some (b',cs')) (hk:cs'[k]?=some (.ae b off len es)) (h:ra fX L H p μ s l t' ((σ'.eraseIdx j).set i (b',cs'.set k (.af e d)))):ra fX L H p μ s l t' σ'
 |dI {t':Tm} {σ' σ2:Hp} (h1:jm σ' σ2) (h:ra fX L H p μ s l t' σ2):ra fX L H p μ s l t' σ'
 |nil {t' t2:Tm} {σ':Hp} (h4:∀i,eI 0 0 0 0 .bool [] (t' i) (t2 i)) (h:ra fX L H p μ s l t2 σ'):ra fX L H p μ s l t' σ'
inductive rb(R:Nat→Tm→Hp→(Ex→Tm→Hp→Prop)→Prop)(l:Nat)(Q:Ex→Tm→Hp→Prop):Tm→Hp→Prop where
 |fwd {t:Tm} {σ:Hp} (k:Nat) (h:UZ R k l t σ Q):rb R l Q t σ
 |loop {t:Tm} {σ:Hp} {S:Type} (fX:S→Nat) (L:S→List (Nat×AV)) (H:S→Hp) (p:S→Prop) (μ:S→Nat) (s0:S) (h0:l=fX s0∧p s0∧agree t (L s0)∧jm σ (H s0))
   (round:∀s g,p s→R (fX s) (eN g (L s)) (H s) (fun e t' σ'=>match e with | .goto l'=>ra fX L H p μ s l' t' σ' | e=>Q e t' σ')):rb R l Q t σ
 |cJ {t t':Tm} {σ:Hp} (j b off len es:Nat) (cs:List AV) (e:Sh) (d:List e.T) (h1:σ[j]?=some (b,cs)) (h2:(cs.drop off).take (len*es)=d.flatMap e.cells) (h3:d.length=len∧e.size=es∧0<es) (h4:∀i,eI b off len es e d (t i) (t' i)) (h:rb R l Q t' (σ.eraseIdx j)):rb R l Q t σ
 |dI {t:Tm} {σ σ2:Hp} (h1:jm σ σ2) (h:rb R l Q t σ2):rb R l Q t σ
 |wrap {t:Tm} {σ:Hp} (k:Nat) (v:AV) (h1:t k=v) (h2:v.leaf=true) (h:rb R l Q (eN t [(k,.via v)]) σ):rb R l Q t σ
def Ms(l:Nat)(rd:AV)(dn:Ex→AV)(R1:Ex→Hp→Prop)(r:AV)(σ':Hp):Prop:=
 (r=.bool true∧∃σ2,σ'=(l,[rd])::σ2∧R1 .normal σ2)∨(r=.bool false∧∃e σ2,e≠.normal∧σ'=(l,[dn e])::σ2∧R1 e σ2)
def aeO(l:Nat)(rd:AV)(dn:Ex→AV)(K:Ex→Hp→Prop)(_:AV)(σ':Hp):Prop:=
 (∃σ2,σ'=(l,[rd])::σ2∧K .normal σ2)∨(∃e σ2,e≠.normal∧σ'=(l,[dn e])::σ2∧K e σ2)
inductive Aq(P:Program)(gf:FuncId)(cap:List AV)(m:Nat)(B:List AV→Hp→(Ex→Hp→Prop)→Prop)(K:Ex→Hp→Prop):Hp→Prop where
 |mk {σ:Hp} (go:∀(l:Nat) (rd:AV) (dn:Ex→AV),(∀(xs:List AV) (ki:Hp) (R1:Ex→Hp→Prop),xs.length=m→B xs ki R1→Hr P l xs ((l,[rd])::ki) (Ms l rd dn R1))→
   ACalls P gf (.fn (.yield l) [] []::cap) ((l,[rd])::σ) (aeO l rd dn K)):Aq P gf cap m B K σ
 |dI {σ σ2:Hp} (h1:jm σ σ2) (h:Aq P gf cap m B K σ2):Aq P gf cap m B K σ
def Ba:List Tmp→List AV→Tm→Tm
 |p::ps,x::xs,t=>Ba ps xs (put t (some p) x)
 |_,_,t=>t
def codeF(rec:Code→Tm→Hp→(Ex→Tm→Hp→Prop)→Prop)(c:Code)(t:Tm)(σ:Hp)(Q:Ex→Tm→Hp→Prop):Prop:=
 match c with
 |.skip=>Q .normal t σ
 |.label _=>Q .normal t σ
 |.exit id=>Q (.exit id) t σ
 |.goto l=>Q (.goto l) t σ
 |.ret=>Q .ret t σ
 |.region _ ops draw=>match draw with
  |false=>Vh P TT ops.toList ops.toList t σ (Q .normal)
  |true=>gz P TT ops.toList (Q .normal) t σ
 |.seq a b=>rec a t σ fun e t' σ'=>match e with | .normal=>rec b t' σ' Q | e=>Q e t' σ'
 |.cond c a b=>match ev t c with | .bool x=>(match x with | true=>rec a t σ Q | false=>rec b t σ Q) | _=>False
 |.block id c=>rec c t σ fun e t' σ'=>match e with
  |.exit i=>(match Nat.beq i id with | true=>Q .normal t' σ' | false=>Q (.exit i) t' σ')
  |e=>Q e t' σ'
 |.loop c=>mH (fun t σ Q=>rec c t σ Q) Q t σ
 |.scope c=>rec c t σ fun e t' σ'=>match e with
  |.goto l=>rb (fun l t σ Q=>match findLabel c l with | some r=>rec r t σ Q | none=>False) l Q t' σ'
  |e=>Q e t' σ'
 |.rangeFunc g ps assign body=>match ev t g with
  |.fn (.func gf) [] cap=>Aq P gf cap ps.size (fun xs ki R1=>rec assign (Ba ps.toList xs t) ki fun e t' σ'=>match e with | .normal=>rec body t' σ' (fun e _ ky=>R1 e ky) | _=>False) (fun e σ'=>Q e t σ') σ
  |_=>False
 |_=>False
def mG(n:Nat):Code→Tm→Hp→(Ex→Tm→Hp→Prop)→Prop:=
 Nat.rec (motive:=fun _=>Code→Tm→Hp→(Ex→Tm→Hp→Prop)→Prop) (fun _ _ _ _=>False) (fun _ ih=>codeF P TT ih) n
end
def tp:List (Int×Int)→Int→Nat
 | [],_=>0
 |p::l,n=>if p.1=n then 0 else tp l n+1
theorem KK:∀(l:List (Int×Int)) (m i:Nat),(gg m l)[i]?=(l[i]?).map fun p=> { key:=.int .i64 p.1,val:=.int .i64 p.2,born:=m+i }
 | [],_,_=>by simp[gg]
 |p::l,m,0=>by simp[gg]
 |p::l,m,i+1=>by
  simp only[gg,List.getElem?_cons_succ]
  rw[KK l (m+1) i]
  simp[Nat.add_assoc,Nat.add_comm 1 i]
theorem JN(n:Int):∀(l:List (Int×Int)) (m i:Nat),Instr.findNow (.int .i64) (.int .i64 n) (gg m l) i=some ((getM l n).map fun v=>(i+tp l n,.int .i64 v))
 | [],_,_=>rfl
 |p::l,m,i=>by
  have ih:=JN n l (m+1) (i+1)
  unfold gg Instr.findNow
  simp only[Instr.sameNow,if_true]
  by_cases h:p.1=n
  ·rw[show (n == p.1)=true by simp[h]]
   simp[getM,tp,h]
  ·rw[show (n == p.1)=false by simp;exact fun e=>h e.symm]
   simp only[ih,getM,tp,ag h]
   congr 1
   cases getM l n with
   |none=>rfl
   |some v=>simp[Nat.add_assoc,Nat.add_comm 1]
theorem pos_at:∀(l:List (Int×Int)) (n v:Int),getM l n=some v→l[tp l n]?=some (n,v)∧∀x,rf l n x=l.set (tp l n) (n,x)
 | [],_,_,h=>by cases h
 |p::l,n,v,h=>by
  by_cases hp:p.1=n
  ·simp only[getM,ah hp,Option.some.injEq]at h
   simp only[tp,ah hp,rf]
   refine⟨?_,fun x=>rfl⟩
   rw[← hp,← h];rfl
  ·simp only[getM,ag hp]at h
   obtain⟨h1,h2⟩:=pos_at l n v h
   simp only[tp,ag hp,rf]
   exact⟨h1,fun x=>by rw[h2];rfl⟩
theorem SO:∀(l:List (Int×Int)) (n x:Int),getM l n=none→rf l n x=l++[(n,x)]
 | [],_,_,_=>rfl
 |p::l,n,x,h=>by
  by_cases hp:p.1=n
  ·simp only[getM,ah hp]at h;cases h
  ·simp only[getM,ag hp]at h
   simp only[rf,ag hp,SO l n x h];rfl
theorem QJ:∀(l:List (Int×Int)) (m:Nat) (p:Int×Int),gg m (l++[p])=gg m l++[{ key:=.int .i64 p.1,val:=.int .i64 p.2,born:=m+l.length }]
 | [],_,_=>rfl
 |q::l,m,p=>by
  simp only[E0,gg,QJ l (m+1) p,iy]
  rw[show m+1+l.length=m+(l.length+1) by omega]
theorem RX:∀(l:List (Int×Int)) (m i:Nat) (p:Int×Int),gg m (l.set i p)=(gg m l).modify i fun e=> { e with key:=.int .i64 p.1,val:=.int .i64 p.2 }
 | [],_,_,_=>by simp[gg]
 |q::l,m,0,p=>by simp[gg]
 |q::l,m,i+1,p=>by simp[gg,RX l (m+1) i p]
section
variable {P:Program} {w:World} {t k e:TypeId} {b:Nat} {l:List (Int×Int)}
theorem Wu(ht:P.underlying t=some (.map k e))(hk:P.underlying k=some (.int .i64)){z:Int}(hz:(zeroValue e).run P w=.ok (.int .i64 z) w)(hb:w.heap[b]?=some (.map (gg 0 l).toArray l.length))(n:Int)(c:Bool):
  (Instr.lookup t (.map (some b)) (.int .i64 n) c).run P w=.ok (if c then .tuple #[.int .i64 ((getM l n).getD z),.bool (getM l n).isSome] else .int .i64 ((getM l n).getD z)) w:=by
 have hf:=JN n l 0 0
 have AX:MapKept.IsKey (.int .i64) (.int .i64 n):=by simp[MapKept.IsKey]
 cases h:getM l n with
 |none=>
  rw[h]at hf
  simp[Instr.lookup,run_underlying ht,MapKept.run_getObj_map hb,MapKept.run_checkKey hk AX,MapKept.run_findKey hk hf,hz,Result.andThen]
 |some v=>
  rw[h]at hf
  simp[Instr.lookup,run_underlying ht,MapKept.run_getObj_map hb,MapKept.run_checkKey hk AX,MapKept.run_findKey hk hf,Result.andThen]
theorem Wt(ht:P.underlying t=some (.map k e))(hk:P.underlying k=some (.int .i64))(hb:w.heap[b]?=some (.map (gg 0 l).toArray l.length))(n x:Int):
  (Instr.mapUpdate t (.map (some b)) (.int .i64 n) (.int .i64 x)).run P w=.ok () { w with heap:=w.heap.setIfInBounds b (.map (gg 0 (rf l n x)).toArray (rf l n x).length) }:=by
 have hf:=JN n l 0 0
 have AX:MapKept.IsKey (.int .i64) (.int .i64 n):=by simp[MapKept.IsKey]
 cases h:getM l n with
 |none=>
  rw[h]at hf
  rw[SO l n x h,QJ]
  simp[Instr.mapUpdate,run_underlying ht,MapKept.run_getObj_map hb,MapKept.run_checkKey hk AX,MapKept.run_findKey hk hf,MapKept.run_setObj_map _ hb,Result.andThen]
 |some v=>
  rw[h]at hf
  obtain⟨h1,h2⟩:=pos_at l n v h
  rw[h2,RX]
  have hg:(gg 0 l)[tp l n]?=some { key:=.int .i64 n,val:=.int .i64 v,born:=0+tp l n }:=by rw[KK,h1];rfl
  simp[Instr.mapUpdate,run_underlying ht,MapKept.run_getObj_map hb,MapKept.run_checkKey hk AX,MapKept.run_findKey hk hf,hg,MapKept.run_keyThatStays AX,MapKept.run_setObj_map _ hb,Result.andThen]
end
end Go.Proofs.YtnikdflhefijbaaGreat
