import Derived.Test.YtnpidbjdilnhlaaGreatBn11
namespace Go.Proofs.YtnpidbjdilnhlaaGreat
def bj:List Nat→Nat
 | []=>0
 | b::l=>bj l*256+b
theorem wL(a b c d:Nat)(hb:b<256)(hd:d<256):(a*256+b) &&& (c*256+d)=(a &&& c)*256+(b &&& d):=by
 have uh:b &&& d<256:=Nat.lt_of_le_of_lt Nat.and_le_left hb
 refine Nat.eq_of_testBit_eq fun i =>?_
 rw[Nat.testBit_and,Nat.mul_comm a,Nat.mul_comm c,Nat.mul_comm (a &&& c),show (256:Nat)=2 ^ 8 by decide,Nat.testBit_two_pow_mul_add a hb,Nat.testBit_two_pow_mul_add c hd,Nat.testBit_two_pow_mul_add (a &&& c) uh]
 split
 ·rw[Nat.testBit_and]
 ·rw[Nat.testBit_and]
def g1(b:Nat):Nat:=(b / 2 &&& 85)+(b &&& 85)
def g2(b:Nat):Nat:=(b / 4 &&& 51)+(b &&& 51)
def g3(b:Nat):Nat:=(b / 16+b) &&& 15
theorem Ww:∀h<2,∀b<256,(h*128+b / 2) &&& 85=b / 2 &&& 85:=by decide +kernel
theorem Wv:∀h<4,∀b<256,(h*64+b / 4) &&& 51=b / 4 &&& 51:=by decide +kernel
theorem RG:∀b<256,g1 b≤170:=by decide +kernel
theorem RF:∀b<256,g2 (g1 b) % 16≤4∧g2 (g1 b) / 16≤4:=by decide +kernel
theorem Wu:∀h≤4,∀l≤4,∀k≤4,(k*16+((h*16+l) / 16+(h*16+l))) &&& 15=g3 (h*16+l)∧k*16+((h*16+l) / 16+(h*16+l))<256:=by decide +kernel
def qB(b:Nat):Nat:=g3 (g2 (g1 b))
theorem qc:∀b<256,qB b≤8:=by decide +kernel
theorem PI:∀b<256,qB b=0→b=0:=by decide +kernel
theorem KR:∀(l:List Nat),(∀b∈l,b<256)→(bj l / 2 &&& bj (l.map fun _=>85))+(bj l &&& bj (l.map fun _=>85))=bj (l.map g1)
 | [],_=>rfl
 | b::l,h=>by
  have hb:=h b (.head _)
  have ih:=KR l (fun x hx=>h x (.tail _ hx))
  show (((bj l*256+b) / 2) &&& (bj (l.map fun _=>85)*256+85))+((bj l*256+b) &&& (bj (l.map fun _=>85)*256+85))=bj (l.map g1)*256+g1 b
  have e:(bj l*256+b) / 2=bj l / 2*256+(bj l % 2*128+b / 2):=by omega
  rw[e,wL _ _ _ _ (by omega) (by decide),wL _ _ _ _ hb (by decide),Ww _ (Nat.mod_lt _ (by decide)) _ hb,← ih]
  show _=_*256+((b / 2 &&& 85)+(b &&& 85))
  generalize bj l / 2 &&& bj (l.map fun _=>85)=A
  generalize bj l &&& bj (l.map fun _=>85)=B
  generalize b / 2 &&& 85=C
  generalize b &&& 85=D
  omega
theorem KQ:∀(l:List Nat),(∀b∈l,b<256)→(bj l / 4 &&& bj (l.map fun _=>51))+(bj l &&& bj (l.map fun _=>51))=bj (l.map g2)
 | [],_=>rfl
 | b::l,h=>by
  have hb:=h b (.head _)
  have ih:=KQ l (fun x hx=>h x (.tail _ hx))
  show (((bj l*256+b) / 4) &&& (bj (l.map fun _=>51)*256+51))+((bj l*256+b) &&& (bj (l.map fun _=>51)*256+51))=bj (l.map g2)*256+g2 b
  have e:(bj l*256+b) / 4=bj l / 4*256+(bj l % 4*64+b / 4):=by omega
  rw[e,wL _ _ _ _ (by omega) (by decide),wL _ _ _ _ hb (by decide),Wv _ (Nat.mod_lt _ (by decide)) _ hb,← ih]
  show _=_*256+((b / 4 &&& 51)+(b &&& 51))
  generalize bj l / 4 &&& bj (l.map fun _=>51)=A
  generalize bj l &&& bj (l.map fun _=>51)=B
  generalize b / 4 &&& 51=C
  generalize b &&& 51=D
  omega
theorem QT:∀(l:List Nat),(∀b∈l,b % 16≤4∧b / 16≤4)→bj l % 16≤4
 | [],_=>by decide
 | b::l,h=>by
  have:=(h b (.head _)).1
  show (bj l*256+b) % 16≤4
  omega
theorem KP:∀(l:List Nat),(∀b∈l,b % 16≤4∧b / 16≤4)→((bj l / 16+bj l) &&& bj (l.map fun _=>15))=bj (l.map g3)
 | [],_=>rfl
 | b::l,h=>by
  obtain⟨h1,h2⟩:=h b (.head _)
  have ih:=KP l (fun x hx=>h x (.tail _ hx))
  have hm:=QT l (fun x hx=>h x (.tail _ hx))
  show (((bj l*256+b) / 16+(bj l*256+b)) &&& (bj (l.map fun _=>15)*256+15))=bj (l.map g3)*256+g3 b
  have oI:b=b / 16*16+b % 16:=by omega
  obtain⟨f1,f2⟩:=Wu _ h2 _ h1 _ hm
  rw[← oI]at f1 f2
  have e:(bj l*256+b) / 16+(bj l*256+b)=(bj l / 16+bj l)*256+(bj l % 16*16+(b / 16+b)):=by omega
  rw[e,wL _ _ _ _ f2 (by decide),f1,ih]
def qm(x:Nat):List Nat:=[x % 256,x / 256 % 256,x / 65536 % 256,x / 16777216 % 256,x / 4294967296 % 256,x / 1099511627776 % 256,x / 281474976710656 % 256,x / 72057594037927936 % 256]
theorem HM{x:Nat}(h:x<18446744073709551616):bj (qm x)=x:=by
 unfold qm bj bj bj bj bj bj bj bj bj
 omega
theorem C9(x:Nat):∀b∈qm x,b<256:=by
 intro b hb
 simp only[qm,List.mem_cons,List.not_mem_nil,or_false]at hb
 omega
def pz(x:Nat):Nat:=((qm x).map qB).sum
theorem Td(x:Nat):pz x≤64:=by
 have h:=C9 x
 unfold pz qm at *
 simp only[List.map_cons,List.map_nil,List.sum_cons,List.sum_nil,List.mem_cons,List.not_mem_nil,or_false,forall_eq_or_imp,forall_eq]at *
 obtain⟨h0,h1,h2,h3,h4,h5,h6,h7⟩:=h
 have:=qc _ h0
 have:=qc _ h1
 have:=qc _ h2
 have:=qc _ h3
 have:=qc _ h4
 have:=qc _ h5
 have:=qc _ h6
 have:=qc _ h7
 omega
theorem PH{x:Nat}(hx:x<18446744073709551616)(h:pz x=0):x=0:=by
 have hb:=C9 x
 have hv:=HM hx
 unfold pz at h
 generalize qm x=l at *
 have hz:∀b∈l,b=0:=by
  intro b hm
  refine PI b (hb b hm) ?_
  have hle:∀(l:List Nat),b∈l→qB b≤(l.map qB).sum:=by
   intro l
   induction l with
   | nil=>intro h;cases h
   | cons c l ih =>
    intro h
    rw[List.map_cons,List.sum_cons]
    rcases List.mem_cons.1 h with rfl | h
    ·omega
    ·have:=ih h;omega
  have:=hle l hm
  omega
 have:∀(l:List Nat),(∀b∈l,b=0)→bj l=0:=by
  intro l
  induction l with
  | nil=>intro _;rfl
  | cons b l ih =>
   intro h
   show bj l*256+b=0
   rw[ih (fun x hx=>h x (.tail _ hx)),h b (.head _)]
 rw[← hv,this l hz]
theorem Wo{e0 e1 e2 e3 e4 e5 e6 e7 x3 y1 y2 y3:Nat}(h:e0≤8∧e1≤8∧e2≤8∧e3≤8∧e4≤8∧e5≤8∧e6≤8∧e7≤8)(hx:x3=bj [e0,e1,e2,e3,e4,e5,e6,e7])(h1:y1=x3+x3 / 256)(h2:y2=y1+y1 / 65536)(h3:y3=y2+y2 / 4294967296):y3 % 128=e0+e1+e2+e3+e4+e5+e6+e7∧y3<9223372036854775808∧y2<18446744073709551616∧y1<18446744073709551616:=by
 obtain⟨k0,k1,k2,k3,k4,k5,k6,k7⟩:=h
 obtain⟨T1,Gq⟩:∃T,T=bj [e1,e2,e3,e4,e5,e6,e7]:=⟨_,rfl⟩
 obtain⟨T2,yR⟩:∃T,T=bj [e2,e3,e4,e5,e6,e7]:=⟨_,rfl⟩
 obtain⟨T3,Gp⟩:∃T,T=bj [e3,e4,e5,e6,e7]:=⟨_,rfl⟩
 obtain⟨T4,Gn⟩:∃T,T=bj [e4,e5,e6,e7]:=⟨_,rfl⟩
 obtain⟨T5,Gm⟩:∃T,T=bj [e5,e6,e7]:=⟨_,rfl⟩
 obtain⟨T6,Gl⟩:∃T,T=bj [e6,e7]:=⟨_,rfl⟩
 obtain⟨T7,Gk⟩:∃T,T=bj [e7]:=⟨_,rfl⟩
 have hx:x3=T1*256+e0:=by rw[hx,Gq];rfl
 have t1:T1=T2*256+e1:=by rw[Gq,yR];rfl
 have t2:T2=T3*256+e2:=by rw[yR,Gp];rfl
 have t3:T3=T4*256+e3:=by rw[Gp,Gn];rfl
 have t4:T4=T5*256+e4:=by rw[Gn,Gm];rfl
 have t5:T5=T6*256+e5:=by rw[Gm,Gl];rfl
 have t6:T6=T7*256+e6:=by rw[Gl,Gk];rfl
 have t7:T7=e7:=by rw[Gk];exact Nat.zero_add _
 clear Gq yR Gp Gn Gm Gl Gk
 have d1:x3 / 256=T1:=by clear h1 h2 h3 t1 t2 t3 t4 t5 t6 t7;omega
 have u1:y1=(T2+T3)*65536+(e1*256+e2*256+e0+e1):=by rw[h1,d1];clear h1 h2 h3 d1 t3 t4 t5 t6 t7;omega
 have d2:y1 / 65536=T2+T3:=by clear h1 h2 h3 t1 t2 t3 t4 t5 t6 t7 d1 hx;omega
 have u2:y2=(T4+T5+T6+T7)*4294967296+((e0+e1+e2+e3)+(e1+e2+e3+e4)*256+(e2+e3+e4+e5)*65536+(e3+e4+e5+e6)*16777216):=by rw[h2,d2,u1];clear h1 h2 h3 d1 d2 u1 hx t7;omega
 have d3:y2 / 4294967296=T4+T5+T6+T7:=by clear h1 h2 h3 t1 t2 t3 t4 t5 t6 t7 d1 d2 hx u1;omega
 have u3:y3=(T4+T5+T6+T7)*4294967296+((e0+e1+e2+e3)+(e1+e2+e3+e4)*256+(e2+e3+e4+e5)*65536+(e3+e4+e5+e6)*16777216)+(T4+T5+T6+T7):=by rw[h3,d3,u2]
 have b7:T7≤8:=by omega
 have b6:T6≤2056:=by clear u1 u2 u3 d1 d2 d3 h1 h2 h3 hx;omega
 have b5:T5≤526344:=by clear u1 u2 u3 d1 d2 d3 h1 h2 h3 hx;omega
 have b4:T4≤134744072:=by clear u1 u2 u3 d1 d2 d3 h1 h2 h3 hx;omega
 have b3:T3≤34494482440:=by clear u1 u2 u3 d1 d2 d3 h1 h2 h3 hx;omega
 have b2:T2≤8830587504648:=by clear u1 u2 u3 d1 d2 d3 h1 h2 h3 hx;omega
 refine⟨?_,?_,?_,?_⟩
 ·clear u1 u2 d1 d2 d3 h1 h2 h3 hx b2 b3 b4 b5 b6 b7 t1 t2 t3;omega
 ·clear u1 u2 d1 d2 d3 h1 h2 h3 hx t1 t2 t3 t4 t5 t6 t7;omega
 ·clear u1 u3 d1 d2 d3 h1 h2 h3 hx t1 t2 t3 t4 t5 t6 t7;omega
 ·clear u2 u3 d1 d2 d3 h1 h2 h3 hx t1 t2 t3 t4 t5 t6 t7;omega
end Go.Proofs.YtnpidbjdilnhlaaGreat
namespace Go.Proofs.YtnpidbjdilnhlaaGreat
open Go.RowKit
set_option maxRecDepth 100000
theorem Ao{z:Int}(h:bh z):(z.toNat:Int)=z:=by unfold bh at h;omega
theorem tB{z:Int}(h:bh z):z.toNat<18446744073709551616:=by unfold bh at h;omega
theorem SN{n:Nat}(h:n<18446744073709551616):bh (n:Int):=by unfold bh;omega
theorem wh{a b:Nat}(ha:a<18446744073709551616)(hb:b<18446744073709551616):bits .and .u64 (a:Int) (b:Int)=((a &&& b:Nat):Int):=by
 show IntKind.u64.wrap ((BitVec.ofInt 64 (a:Int) &&& BitVec.ofInt 64 (b:Int)).toNat:Int)=_
 rw[BitVec.toNat_and,BitVec.ofInt_natCast,BitVec.ofInt_natCast,BitVec.toNat_ofNat,BitVec.toNat_ofNat,Nat.mod_eq_of_lt ha,Nat.mod_eq_of_lt hb,IntKind.wrap_u64]
 have:a &&& b≤a:=Nat.and_le_left
 omega
theorem Cu{a b:Nat}(ha:a<18446744073709551616)(hb:b<18446744073709551616):bits .or .u64 (a:Int) (b:Int)=((a ||| b:Nat):Int):=by
 show IntKind.u64.wrap ((BitVec.ofInt 64 (a:Int) ||| BitVec.ofInt 64 (b:Int)).toNat:Int)=_
 rw[BitVec.toNat_or,BitVec.ofInt_natCast,BitVec.ofInt_natCast,BitVec.toNat_ofNat,BitVec.toNat_ofNat,Nat.mod_eq_of_lt ha,Nat.mod_eq_of_lt hb,IntKind.wrap_u64]
 have:a ||| b<2 ^ 64:=Nat.or_lt_two_pow ha hb
 have gC:(2:Nat) ^ 64=18446744073709551616:=by decide
 omega
theorem Ak(a:Nat)(k:Nat)(j:Int)(hj:min j.toNat IntKind.u64.bits=k):(a:Int).fdiv (2 ^ min j.toNat IntKind.u64.bits)=((a / 2 ^ k:Nat):Int):=by
 rw[hj,Int.fdiv_eq_ediv_of_nonneg _ (Int.pow_nonneg (by decide)),Int.natCast_ediv,Int.natCast_pow];rfl
theorem DA:∀(l:List Nat),(∀b∈l,b<256)→bj l<256 ^ l.length
 | [],_=>by decide
 | b::l,h=>by
  have:=DA l (fun x hx=>h x (.tail _ hx))
  have hb:=h b (.head _)
  show bj l*256+b<256 ^ (l.length+1)
  rw[Nat.pow_succ]
  omega
def oA(k m x:Int):Int:=IntKind.u64.wrap (bits .and .u64 (x.fdiv (2 ^ min k.toNat IntKind.u64.bits)) m+bits .and .u64 x m)
def oB(x:Int):Int:=bits .and .u64 (IntKind.u64.wrap (x.fdiv (2 ^ min (4:Int).toNat IntKind.u64.bits)+x)) 1085102592571150095
def oC(k x:Int):Int:=IntKind.u64.wrap (x+x.fdiv (2 ^ min k.toNat IntKind.u64.bits))
def oD(x:Int):Int:=bits .and .i64 (IntKind.i64.wrap x) 127
theorem uQ{n:Nat}(h:n<18446744073709551616):IntKind.u64.wrap (n:Int)=n:=by rw[IntKind.wrap_u64];omega
theorem Vk(n:Nat)(h:n<9223372036854775808):oD (n:Int)=((n % 128:Nat):Int):=by
 unfold oD
 rw[show IntKind.i64.wrap (n:Int)=n by rw[IntKind.wrap_i64];omega]
 show IntKind.i64.wrap ((BitVec.ofInt 64 (n:Int) &&& BitVec.ofInt 64 (127:Int)).toNat:Int)=_
 rw[BitVec.toNat_and,BitVec.ofInt_natCast,BitVec.toNat_ofNat,Nat.mod_eq_of_lt (show n<2 ^ 64 from Nat.lt_trans h (by decide)),show (BitVec.ofInt 64 (127:Int)).toNat=2 ^ 7-1 by decide,Nat.and_two_pow_sub_one_eq_mod,IntKind.wrap_i64]
 have:(2:Nat) ^ 7=128:=by decide
 omega
theorem Rg{n:Nat}(h:n<18446744073709551616):oD (oC 32 (oC 16 (oC 8 (oB (oA 2 3689348814741910323 (oA 1 6148914691236517205 (n:Int)))))))=(pz n:Int):=by
 have hb:=C9 n
 have hv:=HM h
 obtain⟨l,hl⟩:∃l,l=qm n:=⟨_,rfl⟩
 have hlen:l.length=8:=by rw[hl];rfl
 rw[← hl]at hb hv
 have Fb:(256:Nat) ^ 8=18446744073709551616:=by decide
 have jM:∀b∈l.map g1,b<256:=fun b hm=>by
  obtain⟨c,hc,rfl⟩:=List.mem_map.1 hm
  have:=RG c (hb c hc);omega
 have sA:∀b∈(l.map g1).map g2,b % 16≤4∧b / 16≤4:=fun b hm=>by
  obtain⟨c,hc,rfl⟩:=List.mem_map.1 hm
  obtain⟨d,hd,rfl⟩:=List.mem_map.1 hc
  exact RF d (hb d hd)
 have XC:∀b∈(l.map g1).map g2,b<256:=fun b hm=>by have:=sA b hm;omega
 have m1:bj (l.map fun _=>85)=6148914691236517205:=by rw[List.map_const',hlen];rfl
 have m2:bj ((l.map g1).map fun _=>51)=3689348814741910323:=by rw[List.map_const',List.length_map,hlen];rfl
 have m3:bj (((l.map g1).map g2).map fun _=>15)=1085102592571150095:=by rw[List.map_const',List.length_map,List.length_map,hlen];rfl
 have s1:=KR l hb
 have s2:=KQ (l.map g1) jM
 have s3:=KP ((l.map g1).map g2) sA
 rw[m1,hv]at s1
 rw[m2]at s2
 rw[m3]at s3
 have l1:=DA _ jM
 have l2:=DA _ XC
 rw[List.length_map,hlen,Fb]at l1
 rw[List.length_map,List.length_map,hlen,Fb]at l2
 have hA:∀(x m y k:Nat) (j:Int),min j.toNat IntKind.u64.bits=k→x<18446744073709551616→m<18446744073709551616→(x / 2 ^ k &&& m)+(x &&& m)=y→y<18446744073709551616→oA j (m:Int) (x:Int)=(y:Int):=by
  intro x m y k j hj hx hm hy hy2
  unfold oA
  rw[Ak x k j hj,wh (Nat.lt_of_le_of_lt (Nat.div_le_self _ _) hx) hm,wh hx hm,← Int.natCast_add,hy]
  exact uQ hy2
 have e1:=hA n 6148914691236517205 _ 1 1 rfl h (by decide) s1 l1
 have e2:=hA _ 3689348814741910323 _ 2 2 rfl l1 (by decide) s2 l2
 have nz:bj ((l.map g1).map g2) / 16+bj ((l.map g1).map g2)<18446744073709551616:=by
  have hz:∀(q:List Nat),(∀b∈q,b % 16≤4∧b / 16≤4)→bj q*2<256 ^ q.length∨q=[]:=by
   intro q
   induction q with
   | nil=>intro _;exact .inr rfl
   | cons b q ih =>
    intro h
    have hb:=h b (.head _)
    refine .inl ?_
    show (bj q*256+b)*2<256 ^ (q.length+1)
    rw[Nat.pow_succ]
    rcases ih (fun x hx=>h x (.tail _ hx)) with h1 | rfl
    ·omega
    ·show (0*256+b)*2<256 ^ 0*256
     omega
  rcases hz _ sA with h1 | h1
  ·rw[List.length_map,List.length_map,hlen,Fb]at h1
   omega
  ·have:=congrArg List.length h1
   rw[List.length_map,List.length_map,hlen]at this
   cases this
 have e3:oB (bj ((l.map g1).map g2):Int)=(bj (((l.map g1).map g2).map g3):Int):=by
  unfold oB
  rw[Ak _ 4 4 rfl,← Int.natCast_add,show (2:Nat) ^ 4=16 by decide,uQ nz]
  have:=wh (b:=1085102592571150095) nz (by decide)
  rw[s3]at this
  exact this
 have hC:∀(x k:Nat) (j:Int),min j.toNat IntKind.u64.bits=k→x+x / 2 ^ k<18446744073709551616→oC j (x:Int)=((x+x / 2 ^ k:Nat):Int):=by
  intro x k j hj hx
  unfold oC
  rw[Ak x k j hj,← Int.natCast_add]
  exact uQ hx
 have Xi:((l.map g1).map g2).map g3=l.map qB:=by simp[qB,Function.comp_def]
 rw[Xi]at e3
 obtain⟨e0,f1,f2,f3,f4,f5,f6,f7,hq,Xc,hle⟩:∃e0 e1 e2 e3 e4 e5 e6 e7,l.map qB=[e0,e1,e2,e3,e4,e5,e6,e7]∧pz n=e0+e1+e2+e3+e4+e5+e6+e7∧(e0≤8∧e1≤8∧e2≤8∧e3≤8∧e4≤8∧e5≤8∧e6≤8∧e7≤8):=by
  refine⟨_,_,_,_,_,_,_,_,by rw[hl];rfl,?_,?_⟩
  ·unfold pz qm
   simp only[List.map_cons,List.map_nil,List.sum_cons,List.sum_nil]
   omega
  ·refine⟨?_,?_,?_,?_,?_,?_,?_,?_⟩ <;> exact qc _ (Nat.mod_lt _ (by decide))
 obtain⟨X,hX⟩:∃X,X=bj (l.map qB):=⟨_,rfl⟩
 rw[← hX]at e3
 rw[hq]at hX
 obtain⟨g1',g2',g3',g4'⟩:=Wo hle hX rfl rfl rfl
 have e4:=hC X 8 8 rfl g4'
 have e5:=hC (X+X / 256) 16 16 rfl g3'
 have e6:=hC (X+X / 256+(X+X / 256) / 65536) 32 32 rfl (Nat.lt_trans g2' (by decide))
 have B3:oA 1 6148914691236517205 (n:Int)=_:=e1
 rw[B3]
 have ny:oA 2 3689348814741910323 (bj (l.map g1):Int)=_:=e2
 rw[ny,e3,e4]
 have e5:oC 16 ((X+X / 256:Nat):Int)=_:=e5
 have e6:oC 32 ((X+X / 256+(X+X / 256) / 65536:Nat):Int)=_:=e6
 rw[show ((X+X / 2 ^ 8:Nat):Int)=((X+X / 256:Nat):Int) from rfl,e5,show ((X+X / 256+(X+X / 256) / 2 ^ 16:Nat):Int)=((X+X / 256+(X+X / 256) / 65536:Nat):Int) from rfl,e6]
 rw[Vk _ g2',Xc,← g1']
theorem WI{x:Int}(h:bh x)(σ:Hp):ACalls Tryz.prog 292 [.int .u64 x] σ (aB (.int .i64 (pz x.toNat)) σ):=by
 refine okF Tryz.func292 (by kernel_rfl) ?_
 have hv:=Rg (tB h)
 rw[Ao h]at hv
 refine ah.mk (by decide) ?_
 refine ah.mk (by omega) ?_
 refine ah.mk (by omega) ?_
 refine ah.mk (by omega) ?_
 refine ah.mk (by omega) ?_
 refine ah.mk (by omega) ?_
 exact .done ⟨aN hv,rfl⟩
end Go.Proofs.YtnpidbjdilnhlaaGreat
namespace Go.Proofs.YtnpidbjdilnhlaaGreat
open Go.RowKit
def hasB(a:List Int)(n:Nat):Bool:=(wd a (n / 64)).toNat.testBit (n % 64)
def eg(f:Int→Int→Int)(a b:List Int):List Int:=(List.range (max a.length b.length)).map fun i=>f (wd a i) (wd b i)
theorem oT(f:Int→Int→Int)(a b:List Int):(eg f a b).length=max a.length b.length:=by simp[eg]
theorem wX(f:Int→Int→Int)(a b:List Int){i:Nat}(h:i<max a.length b.length):wd (eg f a b) i=f (wd a i) (wd b i):=by
 unfold eg wd
 rw[List.getElem?_map,List.getElem?_range h]
 rfl
theorem s8{a:List Int}{i:Nat}(h:a.length≤i):wd a i=0:=by unfold wd;rw[List.getElem?_eq_none h];rfl
theorem ly(b:List Int){i:Nat}(h:i<b.length):wd b i=b[i]:=by unfold wd;rw[List.getElem?_eq_getElem h];rfl
theorem KM{a b:List Int}(hl:a.length=b.length)(h:∀i,i<a.length→wd a i=wd b i):a=b:=by
 refine List.ext_getElem hl fun i h1 h2 =>?_
 have:=h i h1
 rw[ly a h1,ly b h2]at this
 exact this
theorem D0{n:Nat}{f:Nat→Int}(h:∀i,i<n→bh (f i)):bJ ((List.range n).map f):=fun z hz=>by
 obtain⟨i,hi,rfl⟩:=List.mem_map.1 hz
 exact h i (List.mem_range.1 hi)
abbrev jJ(x y:Int):Int:=bits .or .u64 x y
abbrev gm(x y:Int):Int:=bits .andNot .u64 x y
theorem UU(x y:Int):bh (jJ x y):=wY _
theorem Eb(x y:Int):bh (gm x y):=wY _
theorem toNat_ofInt{z:Int}(h:bh z):(BitVec.ofInt 64 z).toNat=z.toNat:=by
 have:=tB h
 rw[BitVec.toNat_ofInt]
 unfold bh at h
 omega
theorem Th{x y:Int}(hx:bh x)(hy:bh y)(k:Nat):(jJ x y).toNat.testBit k=(x.toNat.testBit k || y.toNat.testBit k):=by
 have e:jJ x y=((BitVec.ofInt 64 x ||| BitVec.ofInt 64 y).toNat:Int):=by
  show IntKind.u64.wrap _=_
  exact uQ (BitVec.isLt _)
 rw[e,Int.toNat_natCast,BitVec.toNat_or,Nat.testBit_or,toNat_ofInt hx,toNat_ofInt hy]
theorem DT{x y:Int}(hx:bh x)(hy:bh y){k:Nat}(hk:k<64):(gm x y).toNat.testBit k=(x.toNat.testBit k && !y.toNat.testBit k):=by
 have e:gm x y=((BitVec.ofInt 64 x &&& ~~~BitVec.ofInt 64 y).toNat:Int):=by
  show IntKind.u64.wrap _=_
  exact uQ (BitVec.isLt _)
 rw[e,Int.toNat_natCast,BitVec.testBit_toNat,BitVec.getLsbD_and,BitVec.getLsbD_not,decide_eq_true hk,Bool.true_and,← BitVec.testBit_toNat,← BitVec.testBit_toNat,toNat_ofInt hx,toNat_ofInt hy]
def fw(T:List Int)(n:Nat):List Int:=(List.range T.length).map fun i=>(((wd T i).toNat % 2 ^ min 64 (n-64*i):Nat):Int)
theorem pY(T:List Int)(n:Nat):(fw T n).length=T.length:=by simp[fw]
theorem uT(T:List Int)(n:Nat){i:Nat}(h:i<T.length):wd (fw T n) i=(((wd T i).toNat % 2 ^ min 64 (n-64*i):Nat):Int):=by
 unfold fw
 unfold wd
 rw[List.getElem?_map,List.getElem?_range h]
 rfl
theorem Jd(T:List Int):fw T 0=List.replicate T.length 0:=by
 refine List.ext_getElem (by simp[fw]) fun i h1 h2 =>?_
 rw[List.getElem_replicate,← ly _ h1,uT T 0 (by simpa [fw]using h1),Nat.zero_sub,Nat.min_zero,Nat.pow_zero,Nat.mod_one]
 rfl
theorem mod_succ(x k:Nat):x % 2 ^ (k+1)=if x.testBit k then x % 2 ^ k ||| 2 ^ k else x % 2 ^ k:=by
 refine Nat.eq_of_testBit_eq fun i =>?_
 cases hb:x.testBit k with
 | false =>
  rw[if_neg (by decide),Nat.testBit_mod_two_pow,Nat.testBit_mod_two_pow]
  by_cases h1:i<k
  ·rw[decide_eq_true (show i<k+1 by omega),decide_eq_true h1]
  ·by_cases h2:i=k
   ·subst h2;rw[hb];simp
   ·rw[decide_eq_false (show ¬i<k+1 by omega),decide_eq_false h1]
 | true =>
  rw[if_pos rfl,Nat.testBit_or,Nat.testBit_mod_two_pow,Nat.testBit_mod_two_pow,Nat.testBit_two_pow]
  by_cases h1:i<k
  ·rw[decide_eq_true (show i<k+1 by omega),decide_eq_true h1,decide_eq_false (show ¬k=i by omega)];simp
  ·by_cases h2:i=k
   ·subst h2;rw[hb];simp
   ·rw[decide_eq_false (show ¬i<k+1 by omega),decide_eq_false h1,decide_eq_false (show ¬k=i by omega)];rfl
theorem Ra{T:List Int}{n:Nat}(h:n<64*T.length):fw T (n+1)=if hasB T n then (fw T n).set (n / 64) (jJ (wd (fw T n) (n / 64)) ((2 ^ (n % 64):Nat):Int)) else fw T n:=by
 have hi:n / 64<T.length:=by omega
 have hk:n % 64<64:=Nat.mod_lt _ (by decide)
 have ab:∀m,(wd T (n / 64)).toNat % 2 ^ min 64 m<18446744073709551616:=fun m=>by
  have h1:(wd T (n / 64)).toNat % 2 ^ min 64 m<2 ^ min 64 m:=Nat.mod_lt _ (Nat.two_pow_pos _)
  have h2:2 ^ min 64 m≤2 ^ 64:=Nat.pow_le_pow_right (by decide) (Nat.min_le_left _ _)
  have h3:(2:Nat) ^ 64=18446744073709551616:=by decide
  omega
 have hp:2 ^ (n % 64)<18446744073709551616:=by
  have h2:2 ^ (n % 64)<2 ^ 64:=Nat.pow_lt_pow_right (by decide) hk
  exact h2
 have e1:min 64 (n-64*(n / 64))=n % 64:=by omega
 have e2:min 64 (n+1-64*(n / 64))=n % 64+1:=by omega
 have hm:=mod_succ (wd T (n / 64)).toNat (n % 64)
 have K6:∀i,i≠n / 64→min 64 (n+1-64*i)=min 64 (n-64*i):=fun i aS=>by omega
 unfold hasB
 refine KM ?_ fun i B6 =>?_
 ·rw[pY]
  split
  ·rw[List.length_set,pY]
  ·rw[pY]
 ·rw[pY]at B6
  rw[uT T _ B6]
  cases hb:(wd T (n / 64)).toNat.testBit (n % 64) with
  | true =>
   rw[hb,if_pos rfl]at hm
   rw[if_pos rfl]
   by_cases hc:i=n / 64
   ·subst hc
    have hs:wd ((fw T n).set (n / 64) (jJ (wd (fw T n) (n / 64)) ((2 ^ (n % 64):Nat):Int))) (n / 64)=jJ (wd (fw T n) (n / 64)) ((2 ^ (n % 64):Nat):Int):=by
     unfold wd
     rw[List.getElem?_set_self (by rw[pY];exact hi)];rfl
    have Xn:=ab (n-64*(n / 64))
    rw[hs,uT T n hi,show jJ _ _=_ from Cu Xn hp,e2,e1,hm]
   ·have hs:wd ((fw T n).set (n / 64) (jJ (wd (fw T n) (n / 64)) ((2 ^ (n % 64):Nat):Int))) i=wd (fw T n) i:=by
     unfold wd
     rw[List.getElem?_set_ne (fun h=>hc h.symm)]
    rw[hs,uT T n B6,K6 i hc]
  | false =>
   rw[hb,if_neg (by decide)]at hm
   rw[if_neg (by decide),uT T n B6]
   by_cases hc:i=n / 64
   ·subst hc
    rw[e2,e1,hm]
   ·rw[K6 i hc]
def df(w:Int):Nat:=(min (max w 0) 1024).toNat
def cx(w:Int):Nat:=(df w+63) / 64
theorem xf(w:Int):df w≤1024:=by unfold df;omega
theorem s5(w:Int):cx w≤16:=by have:=xf w;unfold cx;omega
theorem JJ(n:Int):(if (1024:Int)<(if n<0 then 0 else n) then (1024:Int) else (if n<0 then 0 else n))=((df n:Nat):Int):=by
 unfold df
 by_cases h:n<0
 ·simp only[if_pos h];omega
 ·simp only[if_neg h];split <;> omega
def dQ(w:Int):List Int:=(List.range (cx w)).map fun i=>((2 ^ min 64 (df w-64*i)-1:Nat):Int)
theorem kC(w:Int):(dQ w).length=cx w:=by simp[dQ]
theorem Ah(w:Int){i:Nat}(h:i<cx w):wd (dQ w) i=((2 ^ min 64 (df w-64*i)-1:Nat):Int):=by
 unfold dQ wd
 rw[List.getElem?_map,List.getElem?_range h]
 rfl
theorem V1(m:Nat):2 ^ min 64 m≤18446744073709551616:=Nat.pow_le_pow_right (by decide) (Nat.min_le_left _ _)
theorem JC(w:Int):bJ (dQ w):=D0 fun i _=>SN (by
 have:=V1 (df w-64*i)
 have:=Nat.two_pow_pos (min 64 (df w-64*i))
 omega)
def ef(a:List Int)(w:Int):Bool:=decide (a.length=cx w) && (List.range a.length).all fun i=>decide ((wd a i).toNat<2 ^ min 64 (df w-64*i))
theorem C5{a:List Int}{w:Int}(gC:bJ a)(hl:a.length=cx w):ef a w=true↔∀n,df w≤n→n<64*a.length→hasB a n=false:=by
 unfold ef hasB
 rw[decide_eq_true hl,Bool.true_and,List.all_eq_true]
 constructor
 ·intro h n h1 h2
  have hi:n / 64<a.length:=by omega
  have:=h (n / 64) (List.mem_range.2 hi)
  simp only[decide_eq_true_eq]at this
  refine Nat.testBit_lt_two_pow (Nat.lt_of_lt_of_le this (Nat.pow_le_pow_right (by decide) ?_))
  omega
 ·intro h i hi
  have hi:=List.mem_range.1 hi
  rw[decide_eq_true_eq]
  have MA:=tB (qn gC i)
  rcases Nat.lt_or_ge (df w-64*i) 64 with hc | hc
  ·rw[Nat.min_eq_right (by omega)]
   refine Nat.lt_pow_two_of_testBit _ fun k hk =>?_
   rcases Nat.lt_or_ge k 64 with cD | cD
   ·have:=h (64*i+k) (by omega) (by omega)
    rw[show (64*i+k) / 64=i by omega,show (64*i+k) % 64=k by omega]at this
    exact this
   ·refine Nat.testBit_lt_two_pow (Nat.lt_of_lt_of_le MA ?_)
    exact Nat.pow_le_pow_right (by decide:0<2) cD
  ·rw[Nat.min_eq_left hc]
   exact MA
theorem Qd{a:List Int}{w:Int}(gC:bJ a)(hl:a.length=cx w):ef a w=true↔∀i,i<a.length→gm (wd a i) (wd (dQ w) i)=0:=by
 unfold ef
 rw[decide_eq_true hl,Bool.true_and,List.all_eq_true]
 have hf:∀i,i<a.length→((wd a i).toNat<2 ^ min 64 (df w-64*i)↔gm (wd a i) (wd (dQ w) i)=0):=by
  intro i hi
  have ha:=qn gC i
  have hb:=qn (JC w) i
  have hn:(wd (dQ w) i).toNat=2 ^ min 64 (df w-64*i)-1:=by rw[Ah w (by omega),Int.toNat_natCast]
  constructor
  ·intro h
   have hz:(gm (wd a i) (wd (dQ w) i)).toNat=0:=by
    refine Nat.eq_of_testBit_eq fun k =>?_
    rw[Nat.zero_testBit]
    rcases Nat.lt_or_ge k 64 with hk | hk
    ·rw[DT ha hb hk,hn,Nat.testBit_two_pow_sub_one]
     by_cases cD:k<min 64 (df w-64*i)
     ·rw[decide_eq_true cD];simp
     ·rw[Nat.testBit_lt_two_pow (Nat.lt_of_lt_of_le h (Nat.pow_le_pow_right (by decide) (by omega)))];rfl
    ·exact Nat.testBit_lt_two_pow (Nat.lt_of_lt_of_le (tB (Eb _ _)) (Nat.pow_le_pow_right (by decide:0<2) hk))
   have:=Ao (Eb (wd a i) (wd (dQ w) i))
   omega
  ·intro h
   refine Nat.lt_pow_two_of_testBit _ fun k hk =>?_
   rcases Nat.lt_or_ge k 64 with cD | cD
   ·have hz:=DT ha hb cD
    rw[h,hn,Nat.testBit_two_pow_sub_one,decide_eq_false (by omega)]at hz
    have h0:(0:Int).toNat.testBit k=false:=Nat.zero_testBit k
    rw[h0]at hz
    simpa using hz.symm
   ·exact Nat.testBit_lt_two_pow (Nat.lt_of_lt_of_le (tB ha) (Nat.pow_le_pow_right (by decide:0<2) cD))
 constructor
 ·intro h i hi
  exact (hf i hi).1 (by simpa using h i (List.mem_range.2 hi))
 ·intro h i hi
  have hi:=List.mem_range.1 hi
  rw[decide_eq_true_eq]
  exact (hf i hi).2 (h i hi)
end Go.Proofs.YtnpidbjdilnhlaaGreat
