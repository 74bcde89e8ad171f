import Derived.Laws.ComplexArith
import Derived.RangeFuncRecord
import Derived.Test.YtnikdflhefijbaaGreatBn1
namespace Go.Proofs.YtnikdflhefijbaaGreat
open Ieee
def nV(d:Datum)(N:Int):Prop:=∃s m p,d=.number s m p∧m*2 ^ p.toNat=N.natAbs*2 ^ (-p).toNat∧(N≠0→s=decide (N<0))
theorem zO(m k:Nat):m <<< k=m*2 ^ k:=Nat.shiftLeft_eq m k
theorem Xm(s:Bool)(m u:Nat):(signed s m u).natAbs=m*2 ^ u:=by
 unfold signed
 rw[zO]
 split
 ·rw[Int.natAbs_neg,I5]
 ·rw[I5]
theorem JY{m A:Nat}{p base:Int}(h:m*2 ^ p.toNat=A*2 ^ (-p).toNat)(hb:base≤p):m*2 ^ (p-base).toNat*2 ^ base.toNat=A*2 ^ (-base).toNat:=by
 rcases Eu base 0 with h0 | h0
 ·rcases Eu p 0 with h1 | h1
  ·have e1:p.toNat=0:=by omega
   have e2:base.toNat=0:=by omega
   rw[e1,sD,eH]at h
   rw[e2,sD,eH,h,Bc,← rD]
   congr 2;omega
  ·have e1:(-p).toNat=0:=by omega
   have e2:base.toNat=0:=by omega
   have e3:(p-base).toNat=p.toNat+(-base).toNat:=by omega
   rw[e1,sD,eH]at h
   rw[e2,sD,eH,e3,rD,← Bc,h]
 ·have e1:(-p).toNat=0:=by omega
  have e2:(-base).toNat=0:=by omega
  rw[e1,sD,eH]at h
  rw[e2,sD,eH,Bc,← rD,← h]
  congr 2;omega
theorem JF{s:Bool}{m u:Nat}{N:Int}{A B:Nat}(h:m*2 ^ u*A=N.natAbs*B)(hs:N≠0→s=decide (N<0))(hA:0<A):signed s m u*(A:Int)=N*(B:Int):=by
 have h':((m*2 ^ u:Nat):Int)*(A:Int)=(N.natAbs:Int)*(B:Int):=by exact_mod_cast h
 by_cases h0:N=0
 ·subst h0
  have hm:m*2 ^ u=0:=by
   have:m*2 ^ u*A=0:=by rw[h];simp
   rcases Nat.mul_eq_zero.1 this with h1 | h1
   ·exact h1
   ·omega
  have:signed s m u=0:=Int.natAbs_eq_zero.1 (by rw[Xm,hm])
  rw[this];simp
 ·have hs:=hs h0
  subst hs
  unfold signed
  rw[zO]
  by_cases hn:N<0
  ·rw[aV hn,ai rfl,Int.neg_mul,h',← Int.neg_mul]
   congr 1;omega
  ·rw[bR hn,ah (by decide),h']
   congr 1;omega
theorem pK(k:Nat):0<2 ^ k:=Bd k
theorem QK{d e:Datum}{N M:Int}(hd:nV d N)(he:nV e M):∃x,d.sum e=some x∧nV x (N+M):=by
 obtain⟨s,m,i,rfl,h1,h2⟩:=hd
 obtain⟨t,n,j,rfl,h3,h4⟩:=he
 refine⟨_,rfl,_,_,_,rfl,?_,?_⟩
 all_goals
  have e1:=JF (JY h1 (Int.min_le_left i j)) h2 (pK _)
  have e2:=JF (JY h3 (Int.min_le_right i j)) h4 (pK _)
  have e3:(signed s m (i-min i j).toNat+signed t n (j-min i j).toNat)*((2 ^ (min i j).toNat:Nat):Int)=(N+M)*((2 ^ (-(min i j)).toNat:Nat):Int):=by rw[Int.add_mul,e1,e2,Int.add_mul]
 ·have:=congrArg Int.natAbs e3
  rw[IS,IS,I5,I5]at this
  exact this
 ·intro aP
  generalize signed s m (i-min i j).toNat+signed t n (j-min i j).toNat=T at e3
  have hp:=pK (min i j).toNat
  have hq:=pK (-(min i j)).toNat
  generalize (2:Nat) ^ (min i j).toNat=P at e3 hp
  generalize (2:Nat) ^ (-(min i j)).toNat=Q at e3 hq
  have hT:T≠0:=by
   intro h0
   rw[h0,Int.zero_mul]at e3
   rcases Int.mul_eq_zero.1 e3.symm with h5 | h5
   ·exact aP h5
   ·omega
  rw[ah hT]
  refine decide_eq_decide.2 ⟨fun h=>?_,fun h=>?_⟩
  ·have:T*(P:Int)<0:=Oj h (by omega)
   rw[e3]at this
   rcases Eu (N+M) 0 with h5 | h5
   ·exact h5
   ·have:=Int.mul_nonneg h5 (show (0:Int)≤Q by omega)
    omega
  ·have:(N+M)*(Q:Int)<0:=Oj h (by omega)
   rw[← e3]at this
   rcases Eu T 0 with h5 | h5
   ·exact h5
   ·have:=Int.mul_nonneg h5 (show (0:Int)≤P by omega)
    omega
theorem QL{d:Datum}{N:Int}(h:nV d N):nV d.opposite (-N):=by
 obtain⟨s,m,p,rfl,h1,h2⟩:=h
 refine⟨_,_,_,rfl,by rw[Int.natAbs_neg];exact h1,fun aP=>?_⟩
 rw[h2 (by omega)]
 by_cases hn:N<0
 ·rw[aV hn,bR (by omega)];rfl
 ·rw[bR hn,aV (by omega)];rfl
theorem XD{d e:Datum}{N M:Int}(hd:nV d N)(he:nV e M):∃x,d.product e=some x∧nV x (N*M):=by
 obtain⟨s,m,i,rfl,h1,h2⟩:=hd
 obtain⟨t,n,j,rfl,h3,h4⟩:=he
 refine⟨_,rfl,_,_,_,rfl,?_,fun aP=>?_⟩
 ·rw[IS]
  have h5:(m*2 ^ i.toNat)*(n*2 ^ j.toNat)=(N.natAbs*2 ^ (-i).toNat)*(M.natAbs*2 ^ (-j).toNat):=by rw[h1,h3]
  obtain⟨c,ma,mJ⟩:∃c,i.toNat+j.toNat=(i+j).toNat+c∧(-i).toNat+(-j).toNat=(-(i+j)).toNat+c:=⟨i.toNat+j.toNat-(i+j).toNat,by omega,by omega⟩
  have e1:(m*2 ^ i.toNat)*(n*2 ^ j.toNat)=(m*n*2 ^ (i+j).toNat)*2 ^ c:=by
   rw[Bc (m*n),← rD,← ma,rD];ac_rfl
  have e2:(N.natAbs*2 ^ (-i).toNat)*(M.natAbs*2 ^ (-j).toNat)=(N.natAbs*M.natAbs*2 ^ (-(i+j)).toNat)*2 ^ c:=by
   rw[Bc (N.natAbs*M.natAbs),← rD,← mJ,rD];ac_rfl
  rw[e1,e2]at h5
  exact Nat.eq_of_mul_eq_mul_right (pK c) h5
 ·have hN:N≠0:=fun h=>aP (by rw[h,Int.zero_mul])
  have hM:M≠0:=fun h=>aP (by rw[h,Int.mul_zero])
  rw[h2 hN,h4 hM]
  rcases Int.lt_or_gt_of_ne hN with a | a <;> rcases Int.lt_or_gt_of_ne hM with b | b
  ·have:=Int.mul_pos_of_neg_of_neg a b
   rw[aV a,aV b,bR (by omega)];rfl
  ·have:=Oj a b
   rw[aV a,bR (by omega),aV this];rfl
  ·have:=Int.mul_neg_of_pos_of_neg a b
   rw[bR (by omega),aV b,aV this];rfl
  ·have:=Int.mul_pos a b
   rw[bR (by omega),bR (by omega),bR (by omega)];rfl
theorem Jv{A k:Nat}(h:A≠0):(A*2 ^ k).log2=A.log2+k:=by
 have aP:A*2 ^ k≠0:=Nat.mul_ne_zero h (I9.1 (pK k))
 refine (EC aP).2 ⟨?_,?_⟩
 ·rw[rD];exact lO _ ((EC h).1 rfl).1
 ·rw[show A.log2+k+1=A.log2+1+k by omega,rD]
  exact Nat.mul_lt_mul_of_pos_right ((EC h).1 rfl).2 (pK k)
theorem Kf(gN:Toward)(neg:Bool){A k:Nat}(h:A≠0):gN.cut neg (A*2 ^ k) k=A:=by
 have jk:min k ((A*2 ^ k).log2+2)=k:=by rw[Jv h];omega
 unfold Toward.cut
 dsimp only
 rw[jk,zO,Nat.one_mul,Nat.mul_div_cancel _ (pK k),Nat.mul_mod_left]
 cases gN
 ·have h1:¬2 ^ k<2*0:=by simp
  have h2:((2 ^ k:Nat) == 2*0)=false:=by
   have:=pK k
   simp
  simp[h2]
 ·cases neg <;> rfl
 ·cases neg <;> rfl
 ·rfl
theorem aaM(gN:Toward)(neg:Bool)(k:Nat):gN.cut neg 0 k=0:=by
 unfold Toward.cut
 dsimp only
 have jk:1 <<< min k ((0:Nat).log2+2)≠0:=by rw[zO,Nat.one_mul];exact I9.1 (pK _)
 generalize (1:Nat) <<< min k ((0:Nat).log2+2)=g at jk
 rw[Nat.zero_div,Nat.zero_mod]
 cases gN
 ·have h2:(g == 2*0)=false:=by simpa using jk
  simp[h2]
 ·cases neg <;> rfl
 ·cases neg <;> rfl
 ·rfl
theorem WO{d:Datum}{N:Int}(h:nV d N):d.toInt .zero=some N:=by
 obtain⟨s,m,p,rfl,h1,h2⟩:=h
 have e:Toward.zero.cut s (m <<< p.toNat) (-p).toNat=N.natAbs:=by
  rw[zO,h1]
  by_cases h0:N=0
  ·subst h0;rw[IU,xA];exact aaM _ _ _
  ·exact Kf _ _ (by omega)
 show some (signed s (Toward.zero.cut s (m <<< p.toNat) (-p).toNat) 0)=some N
 rw[e]
 congr 1
 have:=JF (s:=s) (m:=N.natAbs) (u:=0) (N:=N) (A:=1) (B:=1) (by simp) h2 (by decide)
 simpa using this
theorem X9(s:Bool){rung:Nat}(h:rung<2 ^ 63):(double.word s rung / double.signWeight % 2 == 1)=s∧double.word s rung % double.signWeight=rung:=by
 have hw:double.signWeight=9223372036854775808:=by decide
 have h':rung<9223372036854775808:=h
 unfold Format.word
 rw[hw]
 cases s
 ·rw[ah (by decide)]
  refine⟨?_,by omega⟩
  rw[show rung / 9223372036854775808=0 by omega];rfl
 ·rw[ai rfl]
  refine⟨?_,by omega⟩
  rw[show (9223372036854775808+rung) / 9223372036854775808=1 by omega];rfl
theorem Qw(s:Bool):double.read (double.word s 0)=.number s 0 (-1074):=by
 cases s <;> decide
theorem Wx(s:Bool){L kept:Nat}(hL:L≤52)(h1:4503599627370496≤kept)(h2:kept<9007199254740992):double.read (double.word s ((L+1022)*4503599627370496+kept))=.number s kept ((L:Int)-52):=by
 have hb:double.binade=4503599627370496:=by decide
 have hi:double.infRung=9218868437227405312:=by decide
 have hl:double.leastPlace = -1074:=by decide
 obtain⟨e1,e2⟩:=X9 s (rung:=(L+1022)*4503599627370496+kept) (by show _<9223372036854775808;omega)
 unfold Format.read
 dsimp only
 rw[e1,e2,hb,hi,hl,ah (by omega),ai (by omega)]
 congr 1
 ·omega
 ·have:((L+1022)*4503599627370496+kept) / 4503599627370496=L+1023:=by omega
  rw[this];omega
theorem WN{d:Datum}{N:Int}(h:nV d N)(hN:N.natAbs<9007199254740992):nV (double.read (double.write d)) N:=by
 obtain⟨s,m,p,rfl,h1,h2⟩:=h
 have hb:double.binade=4503599627370496:=by decide
 have hi:double.infRung=9218868437227405312:=by decide
 have hl:double.leastPlace = -1074:=by decide
 show nV (double.read (double.nearest s m p)) N
 by_cases h0:N=0
 ·subst h0
  have hm:m=0:=by
   rw[IU,xA]at h1
   rcases Nat.mul_eq_zero.1 h1 with h | h
   ·exact h
   ·exact absurd h (I9.1 (pK _))
  subst hm
  have:double.nearest s 0 p=double.word s 0:=rfl
  rw[this,Qw]
  exact⟨s,0,-1074,rfl,by rw[xA,IU,xA],fun h=>absurd rfl h⟩
 ·obtain⟨A,hA⟩:∃A,A=N.natAbs:=⟨_,rfl⟩
  rw[← hA]at h1 hN
  have qx:A≠0:=by omega
  have IA:m≠0:=by
   intro h
   subst h
   rw[xA]at h1
   rcases Nat.mul_eq_zero.1 h1.symm with h | h
   ·exact qx h
   ·exact absurd h (I9.1 (pK _))
  have afQ:(p:Int)+m.log2=A.log2:=by
   have e:=congrArg Nat.log2 h1
   rw[Jv IA,Jv qx]at e
   omega
  obtain⟨L,hL⟩:∃L,L=A.log2:=⟨_,rfl⟩
  rw[← hL]at afQ
  have Et:=((EC qx).1 hL.symm).1
  have hA2:=((EC qx).1 hL.symm).2
  have ag2:L≤52:=by
   refine Nat.le_of_not_lt fun h=>?_
   have:2 ^ 53≤2 ^ L:=tX (by decide) h
   have:(2:Nat) ^ 53=9007199254740992:=by decide
   omega
  obtain⟨K,hK⟩:∃K,K=A*2 ^ (52-L):=⟨_,rfl⟩
  have hK1:4503599627370496≤K:=by
   have:2 ^ L*2 ^ (52-L)≤K:=by rw[hK];exact lO _ Et
   rw[← rD,show L+(52-L)=52 by omega]at this
   exact this
  have hK2:K<9007199254740992:=by
   have:K<2 ^ (L+1)*2 ^ (52-L):=by rw[hK];exact Nat.mul_lt_mul_of_pos_right hA2 (pK _)
   rw[← rD,show L+1+(52-L)=53 by omega]at this
   exact this
  have hK0:K≠0:=by omega
  have L9:max (p+(m.log2:Int)-52) (-1074)=(L:Int)-52:=by omega
  have iE:Toward.even.cut s (m <<< (p-((L:Int)-52)).toNat) (((L:Int)-52)-p).toNat=K:=by
   rw[zO]
   rcases Eu p ((L:Int)-52) with h | h
   ·have e1:(p-((L:Int)-52)).toNat=0:=by omega
    have e2:p.toNat=0:=by omega
    rw[e2,sD,eH]at h1
    rw[e1,sD,eH,h1]
    have e3:(-p).toNat=(52-L)+(((L:Int)-52)-p).toNat:=by omega
    rw[e3,rD,← Bc,← hK]
    exact Kf _ _ hK0
   ·have e1:(((L:Int)-52)-p).toNat=0:=by omega
    have e2:=JY h1 h
    rw[show ((L:Int)-52).toNat=0 by omega,sD,eH,show (-((L:Int)-52)).toNat=52-L by omega,← hK]at e2
    rw[e1,e2]
    have:=Kf .even s (A:=K) (k:=0) hK0
    rw[sD,eH]at this
    exact this
  have hn:double.nearest s m p=double.word s ((L+1022)*4503599627370496+K):=by
   unfold Format.nearest
   rw[ah IA]
   dsimp only
   rw[hl,hb,hi]
   show double.word s (min ((max (p+(m.log2:Int)-52) (-1074) - -1074).toNat*4503599627370496+Toward.even.cut s (m <<< (p-max (p+(m.log2:Int)-52) (-1074)).toNat) (max (p+(m.log2:Int)-52) (-1074)-p).toNat) 9218868437227405312)=_
   rw[L9,iE,show ((L:Int)-52 - -1074).toNat=L+1022 by omega]
   have jk:(L+1022)*4503599627370496+K≤9218868437227405312:=by omega
   exact congrArg (double.word s) (Oi jk)
  have e:double.read (double.nearest s m p)=.number s K ((L:Int)-52):=(congrArg double.read hn).trans (Wx s ag2 hK1 hK2)
  rw[e]
  refine⟨s,K,(L:Int)-52,rfl,?_,h2⟩
  rw[← hA,show ((L:Int)-52).toNat=0 by omega,sD,eH,show (-((L:Int)-52)).toNat=52-L by omega]
  exact hK
structure jc(b:Nat)(N:Int):Prop where
 lt:b<2 ^ 64
 isInt:nV (double.read b) N
theorem YU(N:Int):nV (.number (decide (N<0)) N.natAbs 0) N:=⟨_,_,_,rfl,by simp,fun _=>rfl⟩
theorem FG{d:Datum}{N:Int}(h:nV d N)(hN:N.natAbs<9007199254740992):jc (double.write d) N:=⟨double.write_lt d,WN h hN⟩
theorem adO{N:Int}(hN:N.natAbs<9007199254740992):jc (Go.FloatKind.nearest .f64 N) N:=FG (YU N) hN
theorem K9{x y:Nat}{N M:Int}(hx:jc x N)(hy:jc y M)(h:(N+M).natAbs<9007199254740992):∃r,floatBits .add .f64 x y=some r∧jc r (N+M):=by
 obtain⟨d,e1,e2⟩:=QK hx.isInt hy.isInt
 exact⟨double.write d,congrArg (Option.map double.write) e1,FG e2 h⟩
theorem K8{x y:Nat}{N M:Int}(hx:jc x N)(hy:jc y M)(h:(N-M).natAbs<9007199254740992):∃r,floatBits .sub .f64 x y=some r∧jc r (N-M):=by
 obtain⟨d,e1,e2⟩:=QK hx.isInt (QL hy.isInt)
 rw[← Int.sub_eq_add_neg]at e2
 exact⟨double.write d,congrArg (Option.map double.write) e1,FG e2 h⟩
theorem Gz{x y:Nat}{N M:Int}(hx:jc x N)(hy:jc y M)(h:(N*M).natAbs<9007199254740992):∃r,floatBits .mul .f64 x y=some r∧jc r (N*M):=by
 obtain⟨d,e1,e2⟩:=XD hx.isInt hy.isInt
 exact⟨double.write d,congrArg (Option.map double.write) e1,FG e2 h⟩
theorem acp{x:Nat}{N:Int}(hx:jc x N)(k:IntKind)(h:k.min≤N∧N≤k.max):floatToIntVal .f64 x k=some N:=by
 unfold floatToIntVal
 have:(FloatKind.f64.decode x).toInt .zero=some N:=WO hx.isInt
 rw[this]
 exact ai h
theorem KA:jc 0 0:=⟨by decide,⟨false,0,-1074,Qw false,by rw[xA,IU,xA],fun h=>absurd rfl h⟩⟩
theorem R5{b:Nat}(h:b<2 ^ 64):b ^^^ 2 ^ 63=if b<2 ^ 63 then b+2 ^ 63 else b-2 ^ 63:=by
 have e:((BitVec.ofNat 64 b) ^^^ (BitVec.ofNat 64 (2 ^ 63))).toNat=b ^^^ 2 ^ 63:=by
  rw[BitVec.toNat_xor,BitVec.toNat_ofNat,BitVec.toNat_ofNat,tR h,tR (by decide)]
 by_cases hb:b<2 ^ 63
 ·rw[ai hb]
  have:=On hb 1
  rw[eH]at this
  rw[Nat.add_comm,this]
  refine Bm fun i=>?_
  rw[Nat.testBit_xor,IT,Od]
  by_cases hi:63=i
  ·subst hi
   rw[vM hb];rfl
  ·rw[decide_eq_false hi];simp
 ·rw[ah hb]
  obtain⟨c,rfl⟩:∃c,b=2 ^ 63+c:=⟨b-2 ^ 63,by omega⟩
  have hc:c<2 ^ 63:=by
   have:(2:Nat) ^ 64=2 ^ 63+2 ^ 63:=by decide
   omega
  have:=On hc 1
  rw[eH]at this
  rw[Jc,this]
  refine Bm fun i=>?_
  rw[Nat.testBit_xor,IT,Od]
  by_cases hi:63=i
  ·subst hi
   rw[vM hc];rfl
  ·rw[decide_eq_false hi];simp
theorem aco{x:Nat}{N:Int}(hx:jc x N):jc (Go.Op.negFloat .f64 x) (-N):=by
 have e:Go.Op.negFloat .f64 x=x ^^^ 2 ^ 63:=rfl
 have ab:x<18446744073709551616:=hx.lt
 have hsw:double.signWeight=9223372036854775808:=by decide
 have aeR:double.read (x ^^^ 2 ^ 63)=(double.read x).opposite:=by
  rw[R5 hx.lt]
  have N7:(2:Nat) ^ 63=9223372036854775808:=by decide
  rw[N7]
  unfold Format.read
  dsimp only
  rw[hsw]
  by_cases hb:x<9223372036854775808
  ·rw[ai hb,show (x+9223372036854775808) / 9223372036854775808 % 2=1 by omega,show (x+9223372036854775808) % 9223372036854775808=x by omega,show x / 9223372036854775808 % 2=0 by omega,show x % 9223372036854775808=x by omega]
   repeat' split
   all_goals rfl
  ·rw[ah hb,show (x-9223372036854775808) / 9223372036854775808 % 2=0 by omega,show (x-9223372036854775808) % 9223372036854775808=x-9223372036854775808 by omega,show x / 9223372036854775808 % 2=1 by omega,show x % 9223372036854775808=x-9223372036854775808 by omega]
   repeat' split
   all_goals rfl
 rw[e]
 refine⟨?_,by rw[aeR];exact QL hx.isInt⟩
 rw[R5 hx.lt]
 have N7:(2:Nat) ^ 63=9223372036854775808:=by decide
 have jO:(2:Nat) ^ 64=18446744073709551616:=by decide
 rw[N7,jO]
 split <;> omega
def nP(w:World)(b:Nat):Prop:=∃c T fz,w.heap[b]?=some (.cells c T fz)
def FC(F:Nat→Prop)(w:World)(b:Nat):Prop:=F b∧nP w b
def kO(F:Nat→Prop)(w:World):(s:Sh)→List Value→s.T→Prop
 |.int k,cs,(n:Int)=>cs=[.int k n]
 |.bool,cs,(b:Bool)=>cs=[.bool b]
 |.str,cs,(s:ByteArray)=>cs=[.string s]
 |.slice e,cs,(l:List e.T)=>∃(a:Option Addr) (c:Nat),cs=[.slice a l.length c]∧l.length≤c∧c≤maxLen∧(a=none→c=0)∧
   (l≠[]→∃b o,a=some ⟨b,o,none⟩∧FC F w b∧∀i,(h:i<l.length)→∃cs',cs'.length=e.size∧vc w b (o+i*e.size) cs'∧kO F w e cs' l[i])
 |.nil,cs,_=>cs=[]
 |.field f r,cs,(d:f.T×r.T)=>∃c1 c2,cs=c1++c2∧c1.length=f.size∧kO F w f c1 d.1∧kO F w r c2 d.2
def DL(w:World)(b off len e:Nat)(a:Addr)(cap:Nat):Prop:=
 ∃c T fz,w.heap[b]?=some (.cells c T fz)∧len≤cap∧cap≤maxLen∧((a=⟨b,off,none⟩∧off+cap*e≤c.size)∨(a.block=b∧a.spot=none∧len=0∧cap=0))
inductive aA(F:Nat→Prop)(w:World):AV→Value→Prop where
 |int (k:IntKind) (n:Int):aA F w (.int k n) (.int k n)
 |bool (b:Bool):aA F w (.bool b) (.bool b)
 |str (s:ByteArray):aA F w (.str s) (.string s)
 |af (e:Sh) (l:List e.T) (v:Value) (h:kO F w (.slice e) [v] l):aA F w (.af e l) v
 |kq (a:Option Addr):aA F w .kq (.slice a 0 0)
 |gU (a:Addr) (c:Nat) (h:c≤maxLen):aA F w .gU (.slice (some a) 0 c)
 |aj:aA F w .aj (.slice none 0 0)
 |ae (b off len e:Nat) (a:Addr) (cap:Nat) (h:DL w b off len e a cap):aA F w (.ae b off len e) (.slice (some a) len cap)
 |cQ:aA F w .cQ (.pointer none)
 |ptr (b off:Nat) (h:nP w b):aA F w (.ptr b off) (.pointer (some ⟨b,off,none⟩))
 |fO (cs:List AV) (b o:Nat) (f:Nat→Value) (hF:FC F w b) (h1:∀i x,cs[i]?=some x→w.cell? ⟨b,o+i,none⟩=some (f i)) (hl:∀(i:Nat) (x:AV),cs[i]?=some x→x.leaf=true) (h:∀i x,cs[i]?=some x→aA F w x (f i)):aA F w (.fO cs) (.pointer (some ⟨b,o,none⟩))
 |agg (cs:List AV) (vs:Array Value) (hs:cs.length=vs.size) (hl:∀(i:Nat) (x:AV),cs[i]?=some x→x.leaf=true) (h:∀i x,cs[i]?=some x→aA F w x (vs.getD i undef)):aA F w (.agg cs) (.agg vs)
 |tup (cs:List AV) (vs:Array Value) (hs:cs.length=vs.size) (h:∀i x,cs[i]?=some x→aA F w x (vs.getD i undef)):aA F w (.tup cs) (.tuple vs)
 |iface (t:TypeId) (a:AV) (v:Value) (h:aA F w a v):aA F w (.iface t a) (.iface t v)
 |nilif:aA F w .nilif .nilIface
 |fn (f:Fn) (c1 c2:List AV) (v1 v2:Array Value) (fh:c1.length=v1.size) (gQ:c2.length=v2.size) (h1:∀i x,c1[i]?=some x→aA F w x (v1.getD i undef)) (h2:∀i x,c2[i]?=some x→aA F w x (v2.getD i undef)):aA F w (.fn f c1 c2) (.func f v1 v2)
 |iC:aA F w .iC .nilFunc
 |pt:aA F w .pt (.map none)
 |gd (n:Int) (b:Nat) (h:jc b n):aA F w (.gd n) (.float .f64 b)
 |fL (n m:Int) (a b:Nat) (h1:jc a n) (h2:jc b m):aA F w (.fL n m) (.complex .f64 a b)
 |any (v:Value):aA F w .any v
 |via (x:AV) (v:Value) (hl:x.leaf=true) (h:aA F w x v):aA F w (.via x) v
 |nj (b:Nat):aA F w (.nj b) (.map (some b))
 |nr (b:Nat):aA F w (.nr b) (.pointer (some ⟨b,0,none⟩))
def iQ(F:Nat→Prop)(w:World)(xs:List AV)(vs:Array Value):Prop:=xs.length=vs.size∧∀i x,xs[i]?=some x→aA F w x (vs.getD i undef)
def fV:Nat→List (Int×Int)→List MapEntry
 |_,[]=>[]
 |n,p::l=> { key:=.int .i64 p.1,val:=.int .i64 p.2,born:=n }::fV (n+1) l
def wV:AV→Option Obj
 |.n0 l=>some (.map (fV 0 l).toArray l.length)
 |.rZ m c s=>some (.mapIter (some m) c s.toArray c)
 |_=>none
def Ha(F:Nat→Prop)(w:World)(b:Nat)(cs:List AV):Prop:=
 ∃c T,w.heap[b]?=some (.cells c T (0,0))∧cs.length≤c.size∧∀(i:Nat) (x:AV),cs[i]?=some x→x.leaf=true∧aA F w x (c.getD i undef)
def Holds(F:Nat→Prop)(w:World)(b:Nat)(cs:List AV):Prop:=
 ¬F b∧(Ha F w b cs∨(∃x o,cs=[x]∧w.heap[b]?=some o∧wV x=some o)∨∃L t,cs=[.mr L t]∧w.heap[b]?=some (.loop L)∧∀i,aA F w (t i) (L.tmps.getD i undef))
structure bg(F:Nat→Prop)(w:World)(σ:Hp):Prop where
 nodup:(σ.map Prod.fst).Nodup
 holds:∀p∈σ,Holds F w p.1 p.2
 low:∀b,F b→b<w.heap.size
structure bE(F:Nat→Prop)(w:World)(F':Nat→Prop)(w':World):Prop where
 os:w'.os=w.os
 tape:w'.tape=w.tape
 output:w'.output=w.output
 size:w.heap.size≤w'.heap.size
 sub:∀b,F b→F' b
 fix:∀b,F b→w'.heap[b]?=w.heap[b]?
 rows:∀(b:Nat) (c:Array Value) (T:TypeId) (fz:Nat×Nat),w.heap[b]?=some (.cells c T fz)→∃(c':Array Value) (rG:Nat×Nat),w'.heap[b]?=some (.cells c' T rG)∧c'.size=c.size
 drawn:w.drawn≤w'.drawn
def Enters(P:Program)(f:FuncId):Prop:=∀(args:Array Value) (w:World),(callFunc f args).run P w=.ok (.enter f args) w
def ACalls(P:Program)(f:FuncId)(args:List AV)(σ:Hp)(R:AV→Hp→Prop):Prop:=
 Enters P f∧∀F w vs,iQ F w args vs→bg F w σ→Calls P f vs w fun e w'=>∃r v σ' F',e=.returned v∧bE F w F' w'∧bg F' w' σ'∧aA F' w' r v∧R r σ'
def pull(i:Nat)(σ:Hp):Hp:=match σ[i]? with | some p=>p::σ.eraseIdx i | none=>σ
def nR:List Nat→Hp→Hp
 | [],σ=>σ
 |i::r,σ=>pull i (nR r σ)
inductive iX:Hp→Hp→Prop where
 |refl (σ:Hp):iX σ σ
 |pull (js:List Nat) {σ σ2:Hp} (h:iX (nR js σ) σ2):iX σ σ2
 |drop (k n:Nat) {σ σ2:Hp} (h:iX (σ.take k++σ.drop (k+n)) σ2):iX σ σ2
 |perm {σ j8 σ2:Hp} (hp:j8.Perm σ) (h:iX j8 σ2):iX σ σ2
 |aft (i b':Nat) (cs kE:List AV) {σ σ2:Hp} (hi:σ[i]?=some (b',cs)) (hl:kE.length=cs.length) (hk:∀(k:Nat) (x y:AV),cs[k]?=some x→kE[k]?=some y→x=y∨(x=.aj∧∃e:Sh,y=.af e [])) (h:iX (σ.set i (b',kE)) σ2):iX σ σ2
inductive ew(b off len es:Nat)(e:Sh)(l:List e.T):AV→AV→Prop where
 |here:ew b off len es e l (.ae b off len es) (.af e l)
 |refl (x:AV):ew b off len es e l x x
 |tup (xs ys:List AV) (h:xs.length=ys.length) (hi:∀(i:Nat) (x y:AV),xs[i]?=some x→ys[i]?=some y→ew b off len es e l x y):ew b off len es e l (.tup xs) (.tup ys)
 |agg (xs ys:List AV) (h:xs.length=ys.length) (hl:∀(i:Nat) (y:AV),ys[i]?=some y→y.leaf=true) (hi:∀(i:Nat) (x y:AV),xs[i]?=some x→ys[i]?=some y→ew b off len es e l x y):ew b off len es e l (.agg xs) (.agg ys)
 |nil (e':Sh):ew b off len es e l .aj (.af e' [])
 |gU (e':Sh):ew b off len es e l .gU (.af e' [])
 |via {x y:AV} (h:ew b off len es e l x y):ew b off len es e l (.via x) y
inductive CallAt(P:Program)(f:FuncId)(K:AV→Hp→Prop):List AV→Hp→Prop where
 |mk {args:List AV} {σ:Hp} (js:List Nat) (R:AV→Hp→Prop) (call:ACalls P f args (nR js σ) R) (go:∀r σ',R r σ'→K r σ'):CallAt P f K args σ
 |perm {args:List AV} {σ σ2:Hp} (R:AV→Hp→Prop) (hp:σ2.Perm σ) (call:ACalls P f args σ2 R) (go:∀r σ',R r σ'→∃ec,ec.Perm σ'∧K r ec):CallAt P f K args σ
 |cI {args args':List AV} {σ:Hp} (j b off len es:Nat) (cs:List AV) (e:Sh) (l:List e.T) (h1:σ[j]?=some (b,cs)) (h2:(cs.drop off).take (len*es)=l.flatMap e.cells) (h3:l.length=len∧e.size=es∧0<es) (h4:ew b off len es e l (.tup args) (.tup args')) (h:CallAt P f K args' (σ.eraseIdx j)):CallAt P f K args σ
 |kp {args:List AV} {σ:Hp} (j b off len es:Nat) (cs:List AV) (e:Sh) (l:List e.T) (h1:σ[j]?=some (b,cs)) (h2:(cs.drop off).take (len*es)=l.flatMap e.cells) (h3:l.length=len∧e.size=es∧0<es) (i k b':Nat) (cs':List AV) (hi:(σ.eraseIdx j)[i]?=some (b',cs')) (hk:cs'[k]?=some (.ae b off len es)) (h:CallAt P f K args ((σ.eraseIdx j).set i (b',cs'.set k (.af e l)))):CallAt P f K args σ
inductive s9(P:Program)(f:FuncId)(args:List AV)(σ:Hp)(K:AV→Prop):Prop where
 |mk (js:List Nat) (r:AV) (call:ACalls P f args (nR js σ) (fun r' σ'=>r'=r∧σ'=nR js σ)) (go:K r):s9 P f args σ K
 |perm {σ2:Hp} (hp:σ2.Perm σ) (r:AV) (call:ACalls P f args σ2 (fun r' σ'=>r'=r∧σ2.Perm σ')) (go:K r):s9 P f args σ K
def G8(P:Program)(l:Nat)(args:List AV)(σ:Hp)(R:AV→Hp→Prop):Prop:=
 ∀F w vs,iQ F w args vs→bg F w σ→∃f tmps assign body,(Instr.yield l vs).run P w=.ok (.round l f tmps assign body) w∧
  RoundIn Fence.wide 0 P l f tmps assign body w fun e w'=>∃r v σ' F',e=.returned v∧bE F w F' w'∧bg F' w' σ'∧aA F' w' r v∧R r σ'
inductive wI(P:Program)(l:Nat)(K:AV→Hp→Prop):List AV→Hp→Prop where
 |mk {args:List AV} {σ:Hp} (js:List Nat) (R:AV→Hp→Prop) (call:G8 P l args (nR js σ) R) (go:∀r σ',R r σ'→K r σ'):wI P l K args σ
 |perm {args:List AV} {σ σ2:Hp} (R:AV→Hp→Prop) (hp:σ2.Perm σ) (call:G8 P l args σ2 R) (go:∀r σ',R r σ'→∃ec,ec.Perm σ'∧K r ec):wI P l K args σ
section
variable (P:Program) (TT:TypeId→Option TI)
def Meth(t:TypeId)(m:String)(g:FuncId):Prop:=
 ∀(a:Addr) (w:World),(method (P.types.size+Made.depth) t (.pointer (some a)) m).run P w=.ok (g,.pointer (some a)) w
inductive InvAt(t:TypeId)(m:String)(K:FuncId→Prop):Prop where
 |mk (g:FuncId) (h:Meth P t m g) (go:K g):InvAt t m K
def pP(c:Call)(ρ:Operand→AV)(K:FuncId→List AV→Prop)(KY:Nat→List AV→Prop):Prop:=
 match c.callee with
 |.value f=>match ρ f with
  |.fn (.func g) first cap=>K g (first++(c.args.toList.map fun x=>bN (ρ x))++cap)
  |.fn (.yield l) [] []=>KY l (c.args.toList.map fun x=>bN (ρ x))
  |_=>False
 |.invoke r m=>match ρ r with
  |.iface t (.ptr b o)=>InvAt P t m fun g=>K g (.ptr b o::c.args.toList.map fun x=>bN (ρ x))
  |.iface t (.fO cs)=>InvAt P t m fun g=>K g (.fO cs::c.args.toList.map fun x=>bN (ρ x))
  |_=>False
 |.builtin _=>False
inductive j0(σ:Hp)(es:Nat):AV→Nat→List AV→Prop where
 |aj:j0 σ es .aj 0 []
 |kq:j0 σ es .kq 0 []
 |gU:j0 σ es .gU 0 []
 |af (s:Sh) (l:List s.T) (h:s.size=es):j0 σ es (.af s l) l.length (l.flatMap s.cells)
 |ae (j b off len:Nat) (cs:List AV) (h1:σ[j]?=some (b,cs)) (h2:off+len*es≤cs.length):j0 σ es (.ae b off len es) len ((cs.drop off).take (len*es))
inductive GJ(i:TI)(σ:Hp)(s x:AV)(K:AV→Hp→Prop):Prop where
 |fresh (n:Nat) (new:List AV) (hs:s=.aj∨s=.kq) (hx:j0 σ i.size x n new) (hn:n≤1048576) (hb:i.bytes≤1024) (h0:0<i.size) (go:n≠0→∀b,K (.ae b 0 n i.size) ((b,new)::σ)) (same:n=0→K s σ)
 |more (j b len n:Nat) (cs new:List AV) (hs:s=.ae b 0 len i.size) (h1:σ[j]?=some (b,cs)) (h2:len*i.size≤cs.length) (hx:j0 σ i.size x n new) (hn:len+n≤1048576) (hb:i.bytes≤1024) (h0:0<i.size)
   (go:∀b',K (.ae b' 0 (len+n) i.size) ((b',cs.take (len*i.size)++new)::σ.eraseIdx j)):GJ i σ s x K
 |Ai (j b off len n:Nat) (cs new:List AV) (hs:s=.ae b off len i.size) (h1:σ[j]?=some (b,cs)) (h2:off+len*i.size≤cs.length) (hx:j0 σ i.size x n new) (hn:len+n≤1048576) (hb:i.bytes≤1024) (h0:0<i.size)
   (w7:K (.ae b off (len+n) i.size) ((b,cs.take (off+len*i.size)++new)::σ.eraseIdx j))
   (go:∀b',K (.ae b' 0 (len+n) i.size) ((b',(cs.drop off).take (len*i.size)++new)::σ.eraseIdx j)):GJ i σ s x K
inductive AppendAt(i:TI)(σ:Hp)(s x:AV)(K:AV→Hp→Prop):Prop where
 |fresh (n:Nat) (new:List AV) (hs:s=.aj∨s=.kq) (hx:j0 σ i.size x n new) (hn:n≤1048576) (hb:i.bytes≤1024) (h0:0<i.size) (go:n≠0→∀b,K (.ae b 0 n i.size) ((b,new)::σ)) (same:n=0→K s σ)
 |more (j b len n:Nat) (cs new:List AV) (hs:s=.ae b 0 len i.size) (h1:σ[j]?=some (b,cs)) (h2:len*i.size≤cs.length) (hx:j0 σ i.size x n new) (hn:len+n≤1048576) (hb:i.bytes≤1024) (h0:0<i.size)
   (go:∀b',K (.ae b' 0 (len+n) i.size) ((b',cs.take (len*i.size)++new)::σ.eraseIdx j)):AppendAt i σ s x K
 |Ai (j b off len n:Nat) (cs new:List AV) (hs:s=.ae b off len i.size) (h1:σ[j]?=some (b,cs)) (h2:off+len*i.size≤cs.length) (hx:j0 σ i.size x n new) (hn:len+n≤1048576) (hb:i.bytes≤1024) (h0:0<i.size)
   (w7:K (.ae b off (len+n) i.size) ((b,cs.take (off+len*i.size)++new)::σ.eraseIdx j))
   (go:∀b',K (.ae b' 0 (len+n) i.size) ((b',(cs.drop off).take (len*i.size)++new)::σ.eraseIdx j)):AppendAt i σ s x K
 |perm {σ2:Hp} (K2:AV→Hp→Prop) (hp:σ2.Perm σ) (h:GJ i σ2 s x K2) (hk:∀v ec,K2 v ec→∃yS,yS.Perm ec∧(K v yS∨(v.leaf=true∧K (.via v) yS))):AppendAt i σ s x K
inductive CF(i:TI)(σ:Hp)(s x:AV)(K:AV→Hp→Prop):Prop where
 |aj (k:IntKind) (n:Int) (hs:s=.aj) (hx:x=.int k n) (hn:0≤n∧n≤1048576) (hb:i.bytes≤1024) (h0:0<i.size) (go:0<n→∀b,K (.ae b 0 n.toNat i.size) ((b,cE i.zero n.toNat)::σ)) (same:n=0→K .aj σ):CF i σ s x K
inductive Ty(i:TI)(σ:Hp)(s:AV)(K:Hp→Prop):Prop where
 |none (hs:s=.aj∨s=.kq∨s=.gU) (go:K σ)
 |ae (j b off len:Nat) (cs:List AV) (hs:s=.ae b off len i.size) (h1:σ[j]?=some (b,cs)) (h2:off+len*i.size≤cs.length) (go:K (σ.set j (b,fS cs off (cE i.zero len))))
inductive LU(i:TI)(σ:Hp)(d x:AV)(K:AV→Hp→Prop):Prop where
 |ae (j b off len n:Nat) (cs new:List AV) (hd:d=.ae b off len i.size) (h1:σ[j]?=some (b,cs)) (h2:off+len*i.size≤cs.length) (hx:j0 σ i.size x n new) (hn:n≤len) (go:K (.int .i64 n) (σ.set j (b,fS cs off new)))
 |none (new:List AV) (hd:d=.aj∨d=.kq∨d=.gU) (hx:j0 σ i.size x 0 new) (go:K (.int .i64 0) σ)
 |part (j b off len:Nat) (cs:List AV) (hd:d=.ae b off len i.size) (h1:σ[j]?=some (b,cs)) (h2:off+len*i.size≤cs.length) (j2 b2 nh n:Nat) (kE:List AV) (hx:x=.ae b2 nh n i.size) (h3:σ[j2]?=some (b2,kE)) (h4:nh+n*i.size≤kE.length) (hn:len≤n) (go:K (.int .i64 len) (σ.set j (b,fS cs off ((kE.drop nh).take (len*i.size)))))
def zQ(t:TypeId)(m k x:AV)(σ:Hp)(K:AV→Hp→Prop):Prop:=
 match AD TT t,k,x with
 |some _,.int .i64 n,.int .i64 v=>Hz σ m fun j b l=>K .any (σ.set j (b,[.n0 (q9 l n v)]))
 |_,_,_=>False
def GP(t:TypeId)(m:AV)(σ:Hp)(K:AV→Hp→Prop):Prop:=
 match AD TT t with
 |some _=>Hz σ m fun _ b l=>∀r,K (.nr r) ((r,[.rZ b l.length []])::σ)
 |none=>False
inductive LQ(σ:Hp)(x:AV)(K:AV→Hp→Prop):Prop where
 |mk (j j2 r b:Nat) (l:List (Int×Int)) (seen:List Nat) (hx:x=.nr r) (h1:σ[j]?=some (r,[.rZ b l.length seen])) (h2:σ[j2]?=some (b,[.n0 l]))
   (stop:(∀i:Nat,i<l.length→i∈seen)→K (.tup [.bool false]) σ)
   (go:∀(i:Nat) (p:Int×Int),l[i]?=some p→i ∉ seen→K (.tup [.bool true,.int .i64 p.1,.int .i64 p.2]) (σ.set j (r,[.rZ b l.length (seen++[i])]))):LQ σ x K
inductive Ln(σ:Hp)(x:AV)(K:AV→Hp→Prop):Prop where
 |mk (j j2 r b i:Nat) (l:List (Int×Int)) (p:Int×Int) (seen:List Nat) (hx:x=.nr r) (h1:σ[j]?=some (r,[.rZ b l.length (seen++[i])])) (h2:σ[j2]?=some (b,[.n0 l])) (h3:l[i]?=some p)
   (go:K (.tup [.int .i64 p.1,.int .i64 p.2]) σ):Ln σ x K
def gO(o:Op)(ρ:Operand→AV)(σ:Hp)(K:AV→Hp→Prop):Prop:=
 match o with
 |.box _ x=>match (ρ x).cells? with | some cs=>∀b,K (.ptr b 0) ((b,cs)::σ) | none=>False
 |.alloc e=>match TT e with | some i=>∀b,K (.ptr b 0) ((b,i.zero)::σ) | none=>False
 |.buildSlice t len parts=>match TT t with
  |some ⟨.slice e,_,_,_⟩=>match TT e with
   |some i=>match rW ((List.range len).map fun j=>(j*i.size,i.size)) (cE i.zero len) (parts.toList.map fun p=>(p.1,ρ p.2)),Nat.ble (len*i.size) 16777216,Nat.ble 1 i.size with
    |some cs,true,true=>∀b,K (.ae b 0 len i.size) ((b,cs)::σ)
    |_,_,_=>False
   |none=>False
  |_=>False
 |.makeSlice t l c=>match TT t,ρ l,ρ c with
  |some ⟨.slice e,_,_,_⟩,.int _ n,.int _ m=>match TT e with
   |some i=>ag (0≤n∧n≤m∧m≤1048576∧i.bytes≤1024) (∀b,K (.ae b 0 n.toNat i.size) ((b,cE i.zero n.toNat)::σ))
   |none=>False
  |_,_,_=>False
 |.store t a x=>match TT t with
  |some i=>match ρ a with | .ptr b o=>GI i σ b o (ρ x) (fun σ'=>K .any σ') | _=>False
  |none=>False
 |.makeMap t none=>match AD TT t with | some _=>∀b,K (.nj b) ((b,[.n0 []])::σ) | none=>False
 |.mapUpdate t m k x=>zQ TT t (bN (ρ m)) (bN (ρ k)) (bN (ρ x)) σ K
 |.insert t m k x=>zQ TT t (bN (ρ m)) (bN (ρ k)) (bN (ρ x)) σ K
 |.range t x=>GP TT t (bN (ρ x)) σ K
 |.next x s=>match s with | false=>LQ σ (bN (ρ x)) K | true=>False
 |.entry x=>Ln σ (bN (ρ x)) K
 |.call ⟨.builtin .append,args,cx⟩=>match args.toList,cx.toList with
  | [s,x],[t,t']=>match TT t,TT t' with
   |some ⟨.slice e,_,_,_⟩,some ⟨.slice _,_,_,_⟩=>match TT e with | some i=>AppendAt i σ (bN (ρ s)) (bN (ρ x)) K | none=>False
   |some ⟨.slice e,_,_,_⟩,some ⟨.int _,_,_,_⟩=>match TT e with | some i=>CF i σ (bN (ρ s)) (bN (ρ x)) K | none=>False
   |_,_=>False
  |_,_=>False
 |.call ⟨.builtin .clear,args,cx⟩=>match args.toList,cx.toList with
  | [s],[t]=>match TT t with
   |some ⟨.slice e,_,_,_⟩=>match TT e with | some i=>Ty i σ (bN (ρ s)) (fun σ'=>K (.tup []) σ') | none=>False
   |_=>False
  |_,_=>False
 |.call ⟨.builtin .copy,args,cx⟩=>match args.toList,cx.toList with
  | [d,x],[t,t']=>match TT t,TT t' with
   |some ⟨.slice e,_,_,_⟩,some ⟨.slice _,_,_,_⟩=>match TT e with | some i=>LU i σ (bN (ρ d)) (bN (ρ x)) K | none=>False
   |_,_=>False
  |_,_=>False
 |.call ⟨.builtin b,args,cx⟩=>fy P TT (.call ⟨.builtin b,args,cx⟩) ρ σ (fun v=>K v σ)
 |.call c=>pP P c ρ (fun f xs=>CallAt P f K xs σ) (fun l xs=>wI P l K xs σ)
 |o=>fy P TT o ρ σ (fun v=>K v σ)
def o7(ops:List Oper)(o:Oper)(t:Tm)(A B:Prop):Prop:=
 match o.guard with
 |none=>A
 |some (j,want)=>match (ops[j]?).bind (·.dst) with
  |some d=>match t d with
   |.bool b=>(match want,b with | true,true=>A | true,false=>B | false,true=>B | false,false=>A)
   |.tup []=>B
   |_=>False
  |none=>False
def Vg(ops:List Oper)(l:List Oper):Tm→Hp→(Tm→Hp→Prop)→Prop:=
 List.rec (motive:=fun _=>Tm→Hp→(Tm→Hp→Prop)→Prop) (fun t σ K=>K t σ)
  (fun o _ ih t σ K=>o7 ops o t (gO P TT o.op (ev t) σ fun v σ'=>ih (put t o.dst v) σ' K) (ih (put t o.dst (.tup [])) σ K)) l
def vk(o:Op)(ρ:Operand→AV)(σ:Hp)(K:AV→Prop):Prop:=
 match o with
 |.call ⟨.builtin b,args,cx⟩=>fy P TT (.call ⟨.builtin b,args,cx⟩) ρ σ K
 |.call c=>pP P c ρ (fun f xs=>s9 P f xs σ K) (fun _ _=>False)
 |o=>fy P TT o ρ σ K
def HC(ops:List Oper)(l:List Oper):Tm→Hp→(Tm→Prop)→Prop:=
 List.rec (motive:=fun _=>Tm→Hp→(Tm→Prop)→Prop) (fun t _ K=>K t)
  (fun o _ ih t σ K=>o7 ops o t (vk P TT o.op (ev t) σ fun v=>ih (put t o.dst v) σ K) (ih (put t o.dst (.tup [])) σ K)) l
def blind:Op→Bool
 |.move _ | .assign _ | .pick .. | .build .. | .nilCheck _ | .binOp .. | .unOp .. | .convert .. | .makeInterface .. | .makeFunc .. | .slice .. | .fieldAddr .. | .field .. | .indexAddr .. | .extract .. | .typeAssert .. => true
 |.call ⟨.builtin .len,_,_⟩ | .call ⟨.builtin .min,_,_⟩ | .call ⟨.builtin .max,_,_⟩=>true
 |_=>false
def iL(ops:List Oper)(ax:List Bool):List Nat:=
 (List.range ops.length).filter fun i=> !ax.getD i true&&(match ops[i]? with | some o=>o.after.toList.all fun e=> !Region.binds .any e||ax.getD e.on false | none=>false)
def AA(ops:List Oper)(i:Nat)(t:Tm)(σ:Hp)(K:Tm→Hp→Prop):Prop:=
 match ops[i]? with
 |some o=>o7 ops o t (gO P TT o.op (ev t) σ fun v σ'=>K (put t o.dst v) σ') (K (put t o.dst (.tup [])) σ)
 |none=>False
def MT(f:Nat→Prop)(l:List Nat):Prop:=
 List.rec (motive:=fun _=>Prop) True (fun i r ih=>match r with | []=>f i | _=>f i∧ih) l
def sZ:Op→Bool
 |.load _ _=>true
 |_=>false
def oc(o:Op):Bool:= !(blind o||sZ o)
def pR(o:Oper)(j:Nat):Bool:=o.after.toList.any fun e=>Region.binds .any e&&Nat.beq e.on j
def aeC(ops:List Oper)(ax:List Bool)(i:Nat):Bool:=ops.zipIdx.all fun (o,j)=> !oc o.op||ax.getD j false||pR o i
def Lz(ops:List Oper)(ax:List Bool)(i:Nat):Bool:=
 match ops[i]? with
 |some o=>blind o.op||(sZ o.op&&aeC ops ax i)
 |none=>false
def uW(ops:List Oper)(n:Nat):List Bool→Tm→Hp→(Tm→Hp→Prop)→Prop:=
 Nat.rec (motive:=fun _=>List Bool→Tm→Hp→(Tm→Hp→Prop)→Prop) (fun _ _ _ _=>False)
  (fun _ ih ax t σ K=>match iL ops ax with
   | []=>K t σ
   |i::r=>match (i::r).find? (Lz ops ax) with
    |some j=>AA P TT ops j t σ fun t' σ'=>ih (ax.set j true) t' σ' K
    |none=>MT (fun j=>AA P TT ops j t σ fun t' σ'=>ih (ax.set j true) t' σ' K) (i::r)) n
theorem Q6{ops:List Oper}{n:Nat}{ax:List Bool}{t:Tm}{σ:Hp}{K:Tm→Hp→Prop}:uW P TT ops (n+1) ax t σ K=(match iL ops ax with
   | []=>K t σ
   |i::r=>match (i::r).find? (Lz ops ax) with
    |some j=>AA P TT ops j t σ fun t' σ'=>uW P TT ops n (ax.set j true) t' σ' K
    |none=>MT (fun j=>AA P TT ops j t σ fun t' σ'=>uW P TT ops n (ax.set j true) t' σ' K) (i::r)):=rfl
def yi(ops:List Oper)(o:Oper):List Tmp:=
 (o.op.operands.toList.filterMap fun | .tmp t=>some t | _=>none)++(match o.guard with | some (g,_)=>((ops[g]?).bind (·.dst)).toList | none=>[])
def Gl(ops:List Oper):Bool:=
 let z:=ops.zipIdx
 z.all fun (o,i)=>
  (o.after.toList.all fun e=> !Region.binds .any e||Nat.blt e.on i) &&
  (z.all fun (p,j)=>match p.dst with
   |none=>true
   |some d=>(Nat.beq i j||match o.dst with | some d'=> !Nat.beq d d' | none=>true) &&
    (!(yi ops o).any (Nat.beq d)||Nat.beq i j||(Nat.blt j i&&pR o j)||(Nat.blt i j&&pR p i)))
def rM(ops:List Oper):Bool:=
 let z:=ops.zipIdx
 z.all fun (o,i)=>(match o.op with | .select .. => false | _=>true)&&z.all fun (p,j)=>Nat.beq i j||pR o j||pR p i||o.apart ops.toArray p
def eC(g:Tm):List (Nat×AV)→Tm
 | []=>g
 |(i,v)::r=>fun j=>match Nat.beq j i with | true=>v | false=>eC g r j
def agree(t:Tm):List (Nat×AV)→Prop
 | []=>True
 |(i,v)::r=>t i=v∧agree t r
theorem zK{t:Tm}{l:List (Nat×AV)}(h:agree t l):t=eC t l:=by
 induction l with
 |nil=>rfl
 |cons p r ih=>
  obtain⟨i,v⟩:=p
  obtain⟨h1,h2⟩:=h
  funext j
  show t j=(match Nat.beq j i with | true=>v | false=>eC t r j)
  cases hb:Nat.beq j i with
  |true=>rw[jx hb];exact h1
  |false=>exact congrFun (ih h2) j
inductive cR{S:Type}(L:S→List (Nat×AV))(H:S→Hp)(t':Tm)(σ':Hp):Prop where
 |mk (s:S) (h3:agree t' (L s)) (h4:iX σ' (H s)):cR L H t' σ'
def jF(ops:List Oper)(q:Bool)(i:Nat)(t:Tm)(σ:Hp)(K:Tm→Hp→Prop):Prop:=
 match ops[i]? with
 |some o=>match q with
  |true=>o7 ops o t (vk P TT o.op (ev t) σ fun v=>K (put t o.dst v) σ) (K (put t o.dst (.tup [])) σ)
  |false=>o7 ops o t (gO P TT o.op (ev t) σ fun v σ'=>K (put t o.dst v) σ') (K (put t o.dst (.tup [])) σ)
 |none=>False
def eQ(j:Nat)(l:List Nat):Bool:=l.any (Nat.beq j)
def qg(ops:List Oper)(Q:List Nat)(n:Nat):List Bool→Tm→Hp→(Tm→Hp→Prop)→Prop:=
 Nat.rec (motive:=fun _=>List Bool→Tm→Hp→(Tm→Hp→Prop)→Prop) (fun _ _ _ _=>False)
  (fun _ ih ax t σ K=>(iL ops ax=[]→K t σ)∧∀i∈iL ops ax,jF P TT ops (eQ i Q) i t σ fun t' σ'=>ih (ax.set i true) t' σ' K) n
def Mr(o:Oper)(acc:List (List Nat)):List Nat:=o.after.toList.flatMap fun e=>match Region.binds .any e with | true=>e.on::(acc[e.on]?).getD [] | false=>[]
def LW:List Oper→List (List Nat)→List (List Nat)
 | [],acc=>acc
 |o::os,acc=>LW os (acc++[(Mr o acc).eraseDups])
def uU(ops:List Oper)(Q:List Nat)(k:Nat):Bool:=match ops[k]? with | some o=>oc o.op&&!eQ k Q | none=>false
def Hh:Op→Bool
 |.alloc _ | .box _ _=>true
 |_=>false
def Dl(ops:List Oper)(k:Nat):Bool:=match ops[k]? with | some o=>Hh o.op | none=>false
def Aa(ops:List Oper)(rows:List (List Nat))(Q:List Nat)(ax:List Bool)(j:Nat):Bool:=
 match ops[j]? with
 |some o=>(blind o.op&&!eQ j Q)||((sZ o.op||eQ j Q)&&(List.range ops.length).all fun k=>ax.getD k false||!uU ops Q k||eQ j ((rows[k]?).getD [])||(sZ o.op&&!eQ j Q&&Dl ops k))
 |none=>false
inductive qF where
 |stop
 |one (j:Nat) (q:Bool) (s:qF)
 |alt (j:Nat) (s r:qF)
 |AK (j:Nat) (s r:qF)
def lq(ops:List Oper)(rows:List (List Nat))(Q:List Nat):qF→Nat→List Nat→List Bool→Bool
 |.stop,n,ng,ax=>match n,ng,iL ops ax with | _+1,[],[]=>true | _,_,_=>false
 |.one j q s,n,ng,ax=>match n,ng with
  |n+1,[]=>(eQ j Q == q)&&eQ j (iL ops ax)&&(Aa ops rows Q ax j||(match iL ops ax with | [i]=>Nat.beq i j | _=>false))&&lq ops rows Q s n [] (ax.set j true)
  |n,[i]=>(eQ j Q == q)&&Nat.beq i j&&lq ops rows Q s n [] (ax.set j true)
  |_,_=>false
 |.alt j s r,n,ng,ax=>match n,ng with
  |n+1,[]=>(match iL ops ax with
   |i::i2::l=>Nat.beq i j&&!eQ j Q&&lq ops rows Q s n [] (ax.set j true)&&lq ops rows Q r n (i2::l) ax
   |_=>false)
  |n,i::i2::l=>Nat.beq i j&&!eQ j Q&&lq ops rows Q s n [] (ax.set j true)&&lq ops rows Q r n (i2::l) ax
  |_,_=>false
 |.AK j s r,n,ng,ax=>match n,ng with
  |n+1,[]=>(match iL ops ax with
   |i::i2::l=>Nat.beq i j&&eQ j Q&&lq ops rows Q s n [] (ax.set j true)&&lq ops rows Q r n (i2::l) ax
   |_=>false)
  |n,i::i2::l=>Nat.beq i j&&eQ j Q&&lq ops rows Q s n [] (ax.set j true)&&lq ops rows Q r n (i2::l) ax
  |_,_=>false
def uP(ops:List Oper)(s:qF):Tm→Hp→(Tm→Hp→Prop)→Prop:=
 qF.rec (motive:=fun _=>Tm→Hp→(Tm→Hp→Prop)→Prop) (fun t σ K=>K t σ)
  (fun j q _ ih t σ K=>jF P TT ops q j t σ fun t' σ'=>ih t' σ' K)
  (fun j _ _ ih jK t σ K=>jF P TT ops false j t σ (fun t' σ'=>ih t' σ' K)∧jK t σ K)
  (fun j _ _ ih jK t σ K=>jF P TT ops true j t σ (fun t' σ'=>ih t' σ' K)∧jK t σ K) s
def af4:Op→Bool
 |.call ⟨.builtin _,_,_⟩=>false
 |.call _=>true
 |_=>false
def GQ(ops:List Oper)(Q:List Nat)(s:qF):Bool:=
 rM ops&&Q.all (fun j=>match ops[j]? with | some o=>af4 o.op | none=>false)&&lq ops (LW ops []) Q s (ops.length+1) [] (List.replicate ops.length false)
inductive gn(ops:List Oper)(K:Tm→Hp→Prop):Tm→Hp→Prop where
 |quiet {t:Tm} {σ:Hp} (h0:Gl ops=true) (h:HC P TT ops ops t σ fun t'=>K t' σ):gn ops K t σ
 |each {t:Tm} {σ:Hp} (h0:rM ops=true) (h:uW P TT ops (ops.length+1) (List.replicate ops.length false) t σ K):gn ops K t σ
 |sched {t:Tm} {σ:Hp} (Q:List Nat) (s:qF) (h0:GQ ops Q s=true) (h:uP P TT ops s t σ K):gn ops K t σ
 |meet {t:Tm} {σ:Hp} {S:Type} (L:S→List (Nat×AV)) (H:S→Hp) (h0:rM ops=true) (h:uW P TT ops (ops.length+1) (List.replicate ops.length false) t σ (cR L H)) (go:∀s g,K (eC g (L s)) (H s)):gn ops K t σ
 |Hg {t:Tm} {σ:Hp} {S:Type} (Q:List Nat) (s:qF) (L:S→List (Nat×AV)) (H:S→Hp) (h0:GQ ops Q s=true) (h:uP P TT ops s t σ (cR L H)) (go:∀s g,K (eC g (L s)) (H s)):gn ops K t σ
 |cI {t t':Tm} {σ:Hp} (j b off len es:Nat) (cs:List AV) (e:Sh) (l:List e.T) (h1:σ[j]?=some (b,cs)) (h2:(cs.drop off).take (len*es)=l.flatMap e.cells) (h3:l.length=len∧e.size=es∧0<es) (h4:∀i,ew b off len es e l (t i) (t' i)) (h:gn ops K t' (σ.eraseIdx j)):gn ops K t σ
 |dJ {t:Tm} {σ σ2:Hp} (h1:iX σ σ2) (h:gn ops K t σ2):gn ops K t σ
inductive Ex where
 |normal | exit (id:Nat) | goto (l:Nat) | ret
def Head{S:Type}(L:S→List (Nat×AV))(H:S→Hp)(p:S→Prop)(μ:S→Nat)(m:Nat)(t:Tm)(σ:Hp):Prop:=∃s g,m=μ s∧p s∧t=eC g (L s)∧σ=H s
inductive pg{S:Type}(L:S→List (Nat×AV))(H:S→Hp)(p:S→Prop)(μ:S→Nat)(s:S):Tm→Hp→Prop where
 |mk {t':Tm} {σ':Hp} (s':S) (h1:μ s'<μ s) (h2:p s') (h3:agree t' (L s')) (h4:iX σ' (H s')):pg L H p μ s t' σ'
 |cI {t' t2:Tm} {σ':Hp} (j b off len es:Nat) (cs:List AV) (e:Sh) (l:List e.T) (h1:σ'[j]?=some (b,cs)) (h2:(cs.drop off).take (len*es)=l.flatMap e.cells) (h3:l.length=len∧e.size=es∧0<es) (h4:∀i,ew b off len es e l (t' i) (t2 i)) (h:pg L H p μ s t2 (σ'.eraseIdx j)):pg L H p μ s t' σ'
 |kp {t':Tm} {σ':Hp} (j b off len es:Nat) (cs:List AV) (e:Sh) (l:List e.T) (h1:σ'[j]?=some (b,cs)) (h2:(cs.drop off).take (len*es)=l.flatMap e.cells) (h3:l.length=len∧e.size=es∧0<es) (i k b':Nat) (cs':List AV) (hi:(σ'.eraseIdx j)[i]?=some (b',cs')) (hk:cs'[k]?=some (.ae b off len es)) (h:pg L H p μ s t' ((σ'.eraseIdx j).set i (b',cs'.set k (.af e l)))):pg L H p μ s t' σ'
 |dJ {t':Tm} {σ' σ2:Hp} (h1:iX σ' σ2) (h:pg L H p μ s t' σ2):pg L H p μ s t' σ'
 |nil {t' t2:Tm} {σ':Hp} (h4:∀i,ew 0 0 0 0 .bool [] (t' i) (t2 i)) (h:pg L H p μ s t2 σ'):pg L H p μ s t' σ'
inductive my(body:Tm→Hp→(Ex→Tm→Hp→Prop)→Prop)(Q:Ex→Tm→Hp→Prop):Tm→Hp→Prop where
 |mk {t:Tm} {σ:Hp} {S:Type} (L:S→List (Nat×AV)) (H:S→Hp) (p:S→Prop) (μ:S→Nat) (s0:S) (h0:p s0∧agree t (L s0)∧σ=H s0)
   (round:∀s g,p s→body (eC g (L s)) (H s) (fun e t' σ'=>match e with | .normal=>pg L H p μ s t' σ' | e=>Q e t' σ')):my body Q t σ
 |cI {t t':Tm} {σ:Hp} (j b off len es:Nat) (cs:List AV) (e:Sh) (l:List e.T) (h1:σ[j]?=some (b,cs)) (h2:(cs.drop off).take (len*es)=l.flatMap e.cells) (h3:l.length=len∧e.size=es∧0<es) (h4:∀i,ew b off len es e l (t i) (t' i)) (h:my body Q t' (σ.eraseIdx j)):my body Q t σ
 |dJ {t:Tm} {σ σ2:Hp} (h1:iX σ σ2) (h:my body Q t σ2):my body Q t σ
 |wrap {t:Tm} {σ:Hp} (k:Nat) (v:AV) (h1:t k=v) (h2:v.leaf=true) (h:my body Q (eC t [(k,.via v)]) σ):my body Q t σ
 |nil {t t':Tm} {σ:Hp} (h4:∀i,ew 0 0 0 0 .bool [] (t i) (t' i)) (h:my body Q t' σ):my body Q t σ
def UW(R:Nat→Tm→Hp→(Ex→Tm→Hp→Prop)→Prop)(k:Nat):Nat→Tm→Hp→(Ex→Tm→Hp→Prop)→Prop:=
 Nat.rec (motive:=fun _=>Nat→Tm→Hp→(Ex→Tm→Hp→Prop)→Prop) (fun _ _ _ _=>False)
  (fun _ ih l t σ Q=>R l t σ fun e t' σ'=>match e with | .goto l'=>ih l' t' σ' Q | e=>Q e t' σ') k
inductive qX{S:Type}(fQ:S→Nat)(L:S→List (Nat×AV))(H:S→Hp)(p:S→Prop)(μ:S→Nat)(s:S)(l:Nat):Tm→Hp→Prop where
 |mk {t':Tm} {σ':Hp} (s':S) (h0:l=fQ s') (h1:μ s'<μ s) (h2:p s') (h3:agree t' (L s')) (h4:iX σ' (H s')):qX fQ L H p μ s l t' σ'
 |cI {t' t2:Tm} {σ':Hp} (j b off len es:Nat) (cs:List AV) (e:Sh) (d:List e.T) (h1:σ'[j]?=some (b,cs)) (h2:(cs.drop off).take (len*es)=d.flatMap e.cells) (h3:d.length=len∧e.size=es∧0<es) (h4:∀i,ew b off len es e d (t' i) (t2 i)) (h:qX fQ L H p μ s l t2 (σ'.eraseIdx j)):qX fQ L H p μ s l t' σ'
 |kp {t':Tm} {σ':Hp} (j b off len es:Nat) (cs:List AV) (e:Sh) (d:List e.T) (h1:σ'[j]?=some (b,cs)) (h2:(cs.drop off).take (len*es)=d.flatMap e.cells) (h3:d.length=len∧e.size=es∧0<es) (i k b':Nat) (cs':List AV) (hi:(σ'.eraseIdx j)[i]?=some (b',cs')) (hk:cs'[k]?=some (.ae b off len es)) (h:qX fQ L H p μ s l t' ((σ'.eraseIdx j).set i (b',cs'.set k (.af e d)))):qX fQ L H p μ s l t' σ'
 |dJ {t':Tm} {σ' σ2:Hp} (h1:iX σ' σ2) (h:qX fQ L H p μ s l t' σ2):qX fQ L H p μ s l t' σ'
 |nil {t' t2:Tm} {σ':Hp} (h4:∀i,ew 0 0 0 0 .bool [] (t' i) (t2 i)) (h:qX fQ L H p μ s l t2 σ'):qX fQ L H p μ s l t' σ'
inductive qY(R:Nat→Tm→Hp→(Ex→Tm→Hp→Prop)→Prop)(l:Nat)(Q:Ex→Tm→Hp→Prop):Tm→Hp→Prop where
 |fwd {t:Tm} {σ:Hp} (k:Nat) (h:UW R k l t σ Q):qY R l Q t σ
 |loop {t:Tm} {σ:Hp} {S:Type} (fQ:S→Nat) (L:S→List (Nat×AV)) (H:S→Hp) (p:S→Prop) (μ:S→Nat) (s0:S) (h0:l=fQ s0∧p s0∧agree t (L s0)∧iX σ (H s0))
   (round:∀s g,p s→R (fQ s) (eC g (L s)) (H s) (fun e t' σ'=>match e with | .goto l'=>qX fQ L H p μ s l' t' σ' | e=>Q e t' σ')):qY R l Q t σ
 |cI {t t':Tm} {σ:Hp} (j b off len es:Nat) (cs:List AV) (e:Sh) (d:List e.T) (h1:σ[j]?=some (b,cs)) (h2:(cs.drop off).take (len*es)=d.flatMap e.cells) (h3:d.length=len∧e.size=es∧0<es) (h4:∀i,ew b off len es e d (t i) (t' i)) (h:qY R l Q t' (σ.eraseIdx j)):qY R l Q t σ
 |dJ {t:Tm} {σ σ2:Hp} (h1:iX σ σ2) (h:qY R l Q t σ2):qY R l Q t σ
 |wrap {t:Tm} {σ:Hp} (k:Nat) (v:AV) (h1:t k=v) (h2:v.leaf=true) (h:qY R l Q (eC t [(k,.via v)]) σ):qY R l Q t σ
def Ml(l:Nat)(rd:AV)(dn:Ex→AV)(R1:Ex→Hp→Prop)(r:AV)(σ':Hp):Prop:=
 (r=.bool true∧∃σ2,σ'=(l,[rd])::σ2∧R1 .normal σ2)∨(r=.bool false∧∃e σ2,e≠.normal∧σ'=(l,[dn e])::σ2∧R1 e σ2)
def aeB(l:Nat)(rd:AV)(dn:Ex→AV)(K:Ex→Hp→Prop)(_:AV)(σ':Hp):Prop:=
 (∃σ2,σ'=(l,[rd])::σ2∧K .normal σ2)∨(∃e σ2,e≠.normal∧σ'=(l,[dn e])::σ2∧K e σ2)
inductive Ad(P:Program)(gf:FuncId)(cap:List AV)(m:Nat)(B:List AV→Hp→(Ex→Hp→Prop)→Prop)(K:Ex→Hp→Prop):Hp→Prop where
 |mk {σ:Hp} (go:∀(l:Nat) (rd:AV) (dn:Ex→AV),(∀(xs:List AV) (j8:Hp) (R1:Ex→Hp→Prop),xs.length=m→B xs j8 R1→G8 P l xs ((l,[rd])::j8) (Ml l rd dn R1))→
   ACalls P gf (.fn (.yield l) [] []::cap) ((l,[rd])::σ) (aeB l rd dn K)):Ad P gf cap m B K σ
 |dJ {σ σ2:Hp} (h1:iX σ σ2) (h:Ad P gf cap m B K σ2):Ad P gf cap m B K σ
def AT:List Tmp→List AV→Tm→Tm
 |p::ps,x::xs,t=>AT ps xs (put t (some p) x)
 |_,_,t=>t
def codeF(rec:Code→Tm→Hp→(Ex→Tm→Hp→Prop)→Prop)(c:Code)(t:Tm)(σ:Hp)(Q:Ex→Tm→Hp→Prop):Prop:=
 match c with
 |.skip=>Q .normal t σ
 |.label _=>Q .normal t σ
 |.exit id=>Q (.exit id) t σ
 |.goto l=>Q (.goto l) t σ
 |.ret=>Q .ret t σ
 |.region _ ops draw=>match draw with
  |false=>Vg P TT ops.toList ops.toList t σ (Q .normal)
  |true=>gn P TT ops.toList (Q .normal) t σ
 |.seq a b=>rec a t σ fun e t' σ'=>match e with | .normal=>rec b t' σ' Q | e=>Q e t' σ'
 |.cond c a b=>match ev t c with | .bool x=>(match x with | true=>rec a t σ Q | false=>rec b t σ Q) | _=>False
 |.block id c=>rec c t σ fun e t' σ'=>match e with
  |.exit i=>(match Nat.beq i id with | true=>Q .normal t' σ' | false=>Q (.exit i) t' σ')
  |e=>Q e t' σ'
 |.loop c=>my (fun t σ Q=>rec c t σ Q) Q t σ
 |.scope c=>rec c t σ fun e t' σ'=>match e with
  |.goto l=>qY (fun l t σ Q=>match findLabel c l with | some r=>rec r t σ Q | none=>False) l Q t' σ'
  |e=>Q e t' σ'
 |.rangeFunc g ps assign body=>match ev t g with
  |.fn (.func gf) [] cap=>Ad P gf cap ps.size (fun xs j8 R1=>rec assign (AT ps.toList xs t) j8 fun e t' σ'=>match e with | .normal=>rec body t' σ' (fun e _ ko=>R1 e ko) | _=>False) (fun e σ'=>Q e t σ') σ
  |_=>False
 |_=>False
def mu(n:Nat):Code→Tm→Hp→(Ex→Tm→Hp→Prop)→Prop:=
 Nat.rec (motive:=fun _=>Code→Tm→Hp→(Ex→Tm→Hp→Prop)→Prop) (fun _ _ _ _=>False) (fun _ ih=>codeF P TT ih) n
end
end Go.Proofs.YtnikdflhefijbaaGreat
