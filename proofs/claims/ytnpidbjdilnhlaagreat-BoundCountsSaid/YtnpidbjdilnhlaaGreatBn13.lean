import Derived.Test.YtnpidbjdilnhlaaGreatBn11
namespace Go.Proofs.YtnpidbjdilnhlaaGreat
def bu:List Nat→Nat
 | []=>0
 | b::l=>bu l*256+b
theorem zo(a b c d:Nat)(hb:b<256)(hd:d<256):(a*256+b) &&& (c*256+d)=(a &&& c)*256+(b &&& d):=by
 have wP:b &&& d<256:=Nat.lt_of_le_of_lt Nat.and_le_left hb
 refine Nat.eq_of_testBit_eq fun i =>?_
 rw[Nat.testBit_and,Nat.mul_comm a,Nat.mul_comm c,Nat.mul_comm (a &&& c),show (256:Nat)=2 ^ 8 by decide,Nat.testBit_two_pow_mul_add a hb,Nat.testBit_two_pow_mul_add c hd,Nat.testBit_two_pow_mul_add (a &&& c) wP]
 split
 ·rw[Nat.testBit_and]
 ·rw[Nat.testBit_and]
def g1(b:Nat):Nat:=(b / 2 &&& 85)+(b &&& 85)
def g2(b:Nat):Nat:=(b / 4 &&& 51)+(b &&& 51)
def g3(b:Nat):Nat:=(b / 16+b) &&& 15
theorem abo:∀h<2,∀b<256,(h*128+b / 2) &&& 85=b / 2 &&& 85:=by decide +kernel
theorem abn:∀h<4,∀b<256,(h*64+b / 4) &&& 51=b / 4 &&& 51:=by decide +kernel
theorem WM:∀b<256,g1 b≤170:=by decide +kernel
theorem WL:∀b<256,g2 (g1 b) % 16≤4∧g2 (g1 b) / 16≤4:=by decide +kernel
theorem abm:∀h≤4,∀l≤4,∀k≤4,(k*16+((h*16+l) / 16+(h*16+l))) &&& 15=g3 (h*16+l)∧k*16+((h*16+l) / 16+(h*16+l))<256:=by decide +kernel
def sw(b:Nat):Nat:=g3 (g2 (g1 b))
theorem rY:∀b<256,sw b≤8:=by decide +kernel
theorem Un:∀b<256,sw b=0→b=0:=by decide +kernel
theorem Pc:∀(l:List Nat),(∀b∈l,b<256)→(bu l / 2 &&& bu (l.map fun _=>85))+(bu l &&& bu (l.map fun _=>85))=bu (l.map g1)
 | [],_=>rfl
 | b::l,h=>by
  have hb:=h b (.head _)
  have ih:=Pc l (fun x hx=>h x (.tail _ hx))
  show (((bu l*256+b) / 2) &&& (bu (l.map fun _=>85)*256+85))+((bu l*256+b) &&& (bu (l.map fun _=>85)*256+85))=bu (l.map g1)*256+g1 b
  have e:(bu l*256+b) / 2=bu l / 2*256+(bu l % 2*128+b / 2):=by omega
  rw[e,zo _ _ _ _ (by omega) (by decide),zo _ _ _ _ hb (by decide),abo _ (Nat.mod_lt _ (by decide)) _ hb,← ih]
  show _=_*256+((b / 2 &&& 85)+(b &&& 85))
  generalize bu l / 2 &&& bu (l.map fun _=>85)=A
  generalize bu l &&& bu (l.map fun _=>85)=B
  generalize b / 2 &&& 85=C
  generalize b &&& 85=D
  omega
theorem Pb:∀(l:List Nat),(∀b∈l,b<256)→(bu l / 4 &&& bu (l.map fun _=>51))+(bu l &&& bu (l.map fun _=>51))=bu (l.map g2)
 | [],_=>rfl
 | b::l,h=>by
  have hb:=h b (.head _)
  have ih:=Pb l (fun x hx=>h x (.tail _ hx))
  show (((bu l*256+b) / 4) &&& (bu (l.map fun _=>51)*256+51))+((bu l*256+b) &&& (bu (l.map fun _=>51)*256+51))=bu (l.map g2)*256+g2 b
  have e:(bu l*256+b) / 4=bu l / 4*256+(bu l % 4*64+b / 4):=by omega
  rw[e,zo _ _ _ _ (by omega) (by decide),zo _ _ _ _ hb (by decide),abn _ (Nat.mod_lt _ (by decide)) _ hb,← ih]
  show _=_*256+((b / 4 &&& 51)+(b &&& 51))
  generalize bu l / 4 &&& bu (l.map fun _=>51)=A
  generalize bu l &&& bu (l.map fun _=>51)=B
  generalize b / 4 &&& 51=C
  generalize b &&& 51=D
  omega
theorem VF:∀(l:List Nat),(∀b∈l,b % 16≤4∧b / 16≤4)→bu l % 16≤4
 | [],_=>by decide
 | b::l,h=>by
  have:=(h b (.head _)).1
  show (bu l*256+b) % 16≤4
  omega
theorem Pa:∀(l:List Nat),(∀b∈l,b % 16≤4∧b / 16≤4)→((bu l / 16+bu l) &&& bu (l.map fun _=>15))=bu (l.map g3)
 | [],_=>rfl
 | b::l,h=>by
  obtain⟨h1,h2⟩:=h b (.head _)
  have ih:=Pa l (fun x hx=>h x (.tail _ hx))
  have hm:=VF l (fun x hx=>h x (.tail _ hx))
  show (((bu l*256+b) / 16+(bu l*256+b)) &&& (bu (l.map fun _=>15)*256+15))=bu (l.map g3)*256+g3 b
  have qs:b=b / 16*16+b % 16:=by omega
  obtain⟨f1,f2⟩:=abm _ h2 _ h1 _ hm
  rw[← qs]at f1 f2
  have e:(bu l*256+b) / 16+(bu l*256+b)=(bu l / 16+bu l)*256+(bu l % 16*16+(b / 16+b)):=by omega
  rw[e,zo _ _ _ _ f2 (by decide),f1,ih]
def sg(x:Nat):List Nat:=[x % 256,x / 256 % 256,x / 65536 % 256,x / 16777216 % 256,x / 4294967296 % 256,x / 1099511627776 % 256,x / 281474976710656 % 256,x / 72057594037927936 % 256]
theorem LN{x:Nat}(h:x<18446744073709551616):bu (sg x)=x:=by
 unfold sg bu bu bu bu bu bu bu bu bu
 omega
theorem GH(x:Nat):∀b∈sg x,b<256:=by
 intro b hb
 simp only[sg,List.mem_cons,List.not_mem_nil,or_false]at hb
 omega
def rb(x:Nat):Nat:=((sg x).map sw).sum
theorem Yj(x:Nat):rb x≤64:=by
 have h:=GH x
 unfold rb sg at *
 simp only[List.map_cons,List.map_nil,List.sum_cons,List.sum_nil,List.mem_cons,List.not_mem_nil,or_false,forall_eq_or_imp,forall_eq]at *
 obtain⟨h0,h1,h2,h3,h4,h5,h6,h7⟩:=h
 have:=rY _ h0
 have:=rY _ h1
 have:=rY _ h2
 have:=rY _ h3
 have:=rY _ h4
 have:=rY _ h5
 have:=rY _ h6
 have:=rY _ h7
 omega
theorem Um{x:Nat}(hx:x<18446744073709551616)(h:rb x=0):x=0:=by
 have hb:=GH x
 have hv:=LN hx
 unfold rb at h
 generalize sg x=l at *
 have hz:∀b∈l,b=0:=by
  intro b hm
  refine Un b (hb b hm) ?_
  have hle:∀(l:List Nat),b∈l→sw b≤(l.map sw).sum:=by
   intro l
   induction l with
   | nil=>intro h;cases h
   | cons c l ih =>
    intro h
    rw[List.map_cons,List.sum_cons]
    rcases List.mem_cons.1 h with rfl | h
    ·omega
    ·have:=ih h;omega
  have:=hle l hm
  omega
 have:∀(l:List Nat),(∀b∈l,b=0)→bu l=0:=by
  intro l
  induction l with
  | nil=>intro _;rfl
  | cons b l ih =>
   intro h
   show bu l*256+b=0
   rw[ih (fun x hx=>h x (.tail _ hx)),h b (.head _)]
 rw[← hv,this l hz]
theorem abg{e0 e1 e2 e3 e4 e5 e6 e7 x3 y1 y2 y3:Nat}(h:e0≤8∧e1≤8∧e2≤8∧e3≤8∧e4≤8∧e5≤8∧e6≤8∧e7≤8)(hx:x3=bu [e0,e1,e2,e3,e4,e5,e6,e7])(h1:y1=x3+x3 / 256)(h2:y2=y1+y1 / 65536)(h3:y3=y2+y2 / 4294967296):y3 % 128=e0+e1+e2+e3+e4+e5+e6+e7∧y3<9223372036854775808∧y2<18446744073709551616∧y1<18446744073709551616:=by
 obtain⟨k0,k1,k2,k3,k4,k5,k6,k7⟩:=h
 obtain⟨T1,Kb⟩:∃T,T=bu [e1,e2,e3,e4,e5,e6,e7]:=⟨_,rfl⟩
 obtain⟨T2,BW⟩:∃T,T=bu [e2,e3,e4,e5,e6,e7]:=⟨_,rfl⟩
 obtain⟨T3,Ka⟩:∃T,T=bu [e3,e4,e5,e6,e7]:=⟨_,rfl⟩
 obtain⟨T4,J9⟩:∃T,T=bu [e4,e5,e6,e7]:=⟨_,rfl⟩
 obtain⟨T5,J8⟩:∃T,T=bu [e5,e6,e7]:=⟨_,rfl⟩
 obtain⟨T6,J7⟩:∃T,T=bu [e6,e7]:=⟨_,rfl⟩
 obtain⟨T7,J6⟩:∃T,T=bu [e7]:=⟨_,rfl⟩
 have hx:x3=T1*256+e0:=by rw[hx,Kb];rfl
 have t1:T1=T2*256+e1:=by rw[Kb,BW];rfl
 have t2:T2=T3*256+e2:=by rw[BW,Ka];rfl
 have t3:T3=T4*256+e3:=by rw[Ka,J9];rfl
 have t4:T4=T5*256+e4:=by rw[J9,J8];rfl
 have t5:T5=T6*256+e5:=by rw[J8,J7];rfl
 have t6:T6=T7*256+e6:=by rw[J7,J6];rfl
 have t7:T7=e7:=by rw[J6];exact Nat.zero_add _
 clear Kb BW Ka J9 J8 J7 J6
 have d1:x3 / 256=T1:=by clear h1 h2 h3 t1 t2 t3 t4 t5 t6 t7;omega
 have u1:y1=(T2+T3)*65536+(e1*256+e2*256+e0+e1):=by rw[h1,d1];clear h1 h2 h3 d1 t3 t4 t5 t6 t7;omega
 have d2:y1 / 65536=T2+T3:=by clear h1 h2 h3 t1 t2 t3 t4 t5 t6 t7 d1 hx;omega
 have u2:y2=(T4+T5+T6+T7)*4294967296+((e0+e1+e2+e3)+(e1+e2+e3+e4)*256+(e2+e3+e4+e5)*65536+(e3+e4+e5+e6)*16777216):=by rw[h2,d2,u1];clear h1 h2 h3 d1 d2 u1 hx t7;omega
 have d3:y2 / 4294967296=T4+T5+T6+T7:=by clear h1 h2 h3 t1 t2 t3 t4 t5 t6 t7 d1 d2 hx u1;omega
 have u3:y3=(T4+T5+T6+T7)*4294967296+((e0+e1+e2+e3)+(e1+e2+e3+e4)*256+(e2+e3+e4+e5)*65536+(e3+e4+e5+e6)*16777216)+(T4+T5+T6+T7):=by rw[h3,d3,u2]
 have b7:T7≤8:=by omega
 have b6:T6≤2056:=by clear u1 u2 u3 d1 d2 d3 h1 h2 h3 hx;omega
 have b5:T5≤526344:=by clear u1 u2 u3 d1 d2 d3 h1 h2 h3 hx;omega
 have b4:T4≤134744072:=by clear u1 u2 u3 d1 d2 d3 h1 h2 h3 hx;omega
 have b3:T3≤34494482440:=by clear u1 u2 u3 d1 d2 d3 h1 h2 h3 hx;omega
 have b2:T2≤8830587504648:=by clear u1 u2 u3 d1 d2 d3 h1 h2 h3 hx;omega
 refine⟨?_,?_,?_,?_⟩
 ·clear u1 u2 d1 d2 d3 h1 h2 h3 hx b2 b3 b4 b5 b6 b7 t1 t2 t3;omega
 ·clear u1 u2 d1 d2 d3 h1 h2 h3 hx t1 t2 t3 t4 t5 t6 t7;omega
 ·clear u1 u3 d1 d2 d3 h1 h2 h3 hx t1 t2 t3 t4 t5 t6 t7;omega
 ·clear u2 u3 d1 d2 d3 h1 h2 h3 hx t1 t2 t3 t4 t5 t6 t7;omega
set_option maxRecDepth 100000
theorem zP{z:Int}(h:bf z):(z.toNat:Int)=z:=by unfold bf at h;omega
theorem uf{z:Int}(h:bf z):z.toNat<18446744073709551616:=by unfold bf at h;omega
theorem XQ{n:Nat}(h:n<18446744073709551616):bf (n:Int):=by unfold bf;omega
theorem pD{a b:Nat}(ha:a<18446744073709551616)(hb:b<18446744073709551616):bits .and .u64 (a:Int) (b:Int)=((a &&& b:Nat):Int):=by
 show IntKind.u64.wrap ((BitVec.ofInt 64 (a:Int) &&& BitVec.ofInt 64 (b:Int)).toNat:Int)=_
 rw[BitVec.toNat_and,BitVec.ofInt_natCast,BitVec.ofInt_natCast,BitVec.toNat_ofNat,BitVec.toNat_ofNat,Nat.mod_eq_of_lt ha,Nat.mod_eq_of_lt hb,IntKind.wrap_u64]
 have:a &&& b≤a:=Nat.and_le_left
 omega
theorem qB{a b:Nat}(ha:a<18446744073709551616)(hb:b<18446744073709551616):bits .or .u64 (a:Int) (b:Int)=((a ||| b:Nat):Int):=by
 show IntKind.u64.wrap ((BitVec.ofInt 64 (a:Int) ||| BitVec.ofInt 64 (b:Int)).toNat:Int)=_
 rw[BitVec.toNat_or,BitVec.ofInt_natCast,BitVec.ofInt_natCast,BitVec.toNat_ofNat,BitVec.toNat_ofNat,Nat.mod_eq_of_lt ha,Nat.mod_eq_of_lt hb,IntKind.wrap_u64]
 have:a ||| b<2 ^ 64:=Nat.or_lt_two_pow ha hb
 have kQ:(2:Nat) ^ 64=18446744073709551616:=by decide
 omega
theorem G6(a:Nat)(k:Nat)(j:Int)(hj:min j.toNat IntKind.u64.bits=k):(a:Int).fdiv (2 ^ min j.toNat IntKind.u64.bits)=((a / 2 ^ k:Nat):Int):=by
 rw[hj,Int.fdiv_eq_ediv_of_nonneg _ (Int.pow_nonneg (by decide)),Int.natCast_ediv,Int.natCast_pow];rfl
theorem Hh:∀(l:List Nat),(∀b∈l,b<256)→bu l<256 ^ l.length
 | [],_=>by decide
 | b::l,h=>by
  have:=Hh l (fun x hx=>h x (.tail _ hx))
  have hb:=h b (.head _)
  show bu l*256+b<256 ^ (l.length+1)
  rw[Nat.pow_succ]
  omega
def oA(k m x:Int):Int:=IntKind.u64.wrap (bits .and .u64 (x.fdiv (2 ^ min k.toNat IntKind.u64.bits)) m+bits .and .u64 x m)
def oB(x:Int):Int:=bits .and .u64 (IntKind.u64.wrap (x.fdiv (2 ^ min (4:Int).toNat IntKind.u64.bits)+x)) 1085102592571150095
def oC(k x:Int):Int:=IntKind.u64.wrap (x+x.fdiv (2 ^ min k.toNat IntKind.u64.bits))
def oD(x:Int):Int:=bits .and .i64 (IntKind.i64.wrap x) 127
theorem vC{n:Nat}(h:n<18446744073709551616):IntKind.u64.wrap (n:Int)=n:=by rw[IntKind.wrap_u64];omega
theorem aae(n:Nat)(h:n<9223372036854775808):oD (n:Int)=((n % 128:Nat):Int):=by
 unfold oD
 rw[show IntKind.i64.wrap (n:Int)=n by rw[IntKind.wrap_i64];omega]
 show IntKind.i64.wrap ((BitVec.ofInt 64 (n:Int) &&& BitVec.ofInt 64 (127:Int)).toNat:Int)=_
 rw[BitVec.toNat_and,BitVec.ofInt_natCast,BitVec.toNat_ofNat,Nat.mod_eq_of_lt (show n<2 ^ 64 from Nat.lt_trans h (by decide)),show (BitVec.ofInt 64 (127:Int)).toNat=2 ^ 7-1 by decide,Nat.and_two_pow_sub_one_eq_mod,IntKind.wrap_i64]
 have:(2:Nat) ^ 7=128:=by decide
 omega
theorem Wh{n:Nat}(h:n<18446744073709551616):oD (oC 32 (oC 16 (oC 8 (oB (oA 2 3689348814741910323 (oA 1 6148914691236517205 (n:Int)))))))=(rb n:Int):=by
 have hb:=GH n
 have hv:=LN h
 obtain⟨l,hl⟩:∃l,l=sg n:=⟨_,rfl⟩
 have hlen:l.length=8:=by rw[hl];rfl
 rw[← hl]at hb hv
 have I8:(256:Nat) ^ 8=18446744073709551616:=by decide
 have kn:∀b∈l.map g1,b<256:=fun b hm=>by
  obtain⟨c,hc,rfl⟩:=List.mem_map.1 hm
  have:=WM c (hb c hc);omega
 have ov:∀b∈(l.map g1).map g2,b % 16≤4∧b / 16≤4:=fun b hm=>by
  obtain⟨c,hc,rfl⟩:=List.mem_map.1 hm
  obtain⟨d,hd,rfl⟩:=List.mem_map.1 hc
  exact WL d (hb d hd)
 have aci:∀b∈(l.map g1).map g2,b<256:=fun b hm=>by have:=ov b hm;omega
 have m1:bu (l.map fun _=>85)=6148914691236517205:=by rw[List.map_const',hlen];rfl
 have m2:bu ((l.map g1).map fun _=>51)=3689348814741910323:=by rw[List.map_const',List.length_map,hlen];rfl
 have m3:bu (((l.map g1).map g2).map fun _=>15)=1085102592571150095:=by rw[List.map_const',List.length_map,List.length_map,hlen];rfl
 have s1:=Pc l hb
 have s2:=Pb (l.map g1) kn
 have s3:=Pa ((l.map g1).map g2) ov
 rw[m1,hv]at s1
 rw[m2]at s2
 rw[m3]at s3
 have l1:=Hh _ kn
 have l2:=Hh _ aci
 rw[List.length_map,hlen,I8]at l1
 rw[List.length_map,List.length_map,hlen,I8]at l2
 have hA:∀(x m y k:Nat) (j:Int),min j.toNat IntKind.u64.bits=k→x<18446744073709551616→m<18446744073709551616→(x / 2 ^ k &&& m)+(x &&& m)=y→y<18446744073709551616→oA j (m:Int) (x:Int)=(y:Int):=by
  intro x m y k j hj hx hm hy sQ
  unfold oA
  rw[G6 x k j hj,pD (Nat.lt_of_le_of_lt (Nat.div_le_self _ _) hx) hm,pD hx hm,← Int.natCast_add,hy]
  exact vC sQ
 have e1:=hA n 6148914691236517205 _ 1 1 rfl h (by decide) s1 l1
 have e2:=hA _ 3689348814741910323 _ 2 2 rfl l1 (by decide) s2 l2
 have pt:bu ((l.map g1).map g2) / 16+bu ((l.map g1).map g2)<18446744073709551616:=by
  have hz:∀(q:List Nat),(∀b∈q,b % 16≤4∧b / 16≤4)→bu q*2<256 ^ q.length∨q=[]:=by
   intro q
   induction q with
   | nil=>intro _;exact .inr rfl
   | cons b q ih =>
    intro h
    have hb:=h b (.head _)
    refine .inl ?_
    show (bu q*256+b)*2<256 ^ (q.length+1)
    rw[Nat.pow_succ]
    rcases ih (fun x hx=>h x (.tail _ hx)) with h1 | rfl
    ·omega
    ·show (0*256+b)*2<256 ^ 0*256
     omega
  rcases hz _ ov with h1 | h1
  ·rw[List.length_map,List.length_map,hlen,I8]at h1
   omega
  ·have:=congrArg List.length h1
   rw[List.length_map,List.length_map,hlen]at this
   cases this
 have e3:oB (bu ((l.map g1).map g2):Int)=(bu (((l.map g1).map g2).map g3):Int):=by
  unfold oB
  rw[G6 _ 4 4 rfl,← Int.natCast_add,show (2:Nat) ^ 4=16 by decide,vC pt]
  have:=pD (b:=1085102592571150095) pt (by decide)
  rw[s3]at this
  exact this
 have hC:∀(x k:Nat) (j:Int),min j.toNat IntKind.u64.bits=k→x+x / 2 ^ k<18446744073709551616→oC j (x:Int)=((x+x / 2 ^ k:Nat):Int):=by
  intro x k j hj hx
  unfold oC
  rw[G6 x k j hj,← Int.natCast_add]
  exact vC hx
 have abZ:((l.map g1).map g2).map g3=l.map sw:=by simp[sw,Function.comp_def]
 rw[abZ]at e3
 obtain⟨e0,f1,f2,f3,f4,f5,f6,f7,hq,abU,hle⟩:∃e0 e1 e2 e3 e4 e5 e6 e7,l.map sw=[e0,e1,e2,e3,e4,e5,e6,e7]∧rb n=e0+e1+e2+e3+e4+e5+e6+e7∧(e0≤8∧e1≤8∧e2≤8∧e3≤8∧e4≤8∧e5≤8∧e6≤8∧e7≤8):=by
  refine⟨_,_,_,_,_,_,_,_,by rw[hl];rfl,?_,?_⟩
  ·unfold rb sg
   simp only[List.map_cons,List.map_nil,List.sum_cons,List.sum_nil]
   omega
  ·refine⟨?_,?_,?_,?_,?_,?_,?_,?_⟩ <;> exact rY _ (Nat.mod_lt _ (by decide))
 obtain⟨X,hX⟩:∃X,X=bu (l.map sw):=⟨_,rfl⟩
 rw[← hX]at e3
 rw[hq]at hX
 obtain⟨g1',g2',g3',g4'⟩:=abg hle hX rfl rfl rfl
 have e4:=hC X 8 8 rfl g4'
 have e5:=hC (X+X / 256) 16 16 rfl g3'
 have e6:=hC (X+X / 256+(X+X / 256) / 65536) 32 32 rfl (Nat.lt_trans g2' (by decide))
 have JL:oA 1 6148914691236517205 (n:Int)=_:=e1
 rw[JL]
 have rD:oA 2 3689348814741910323 (bu (l.map g1):Int)=_:=e2
 rw[rD,e3,e4]
 have e5:oC 16 ((X+X / 256:Nat):Int)=_:=e5
 have e6:oC 32 ((X+X / 256+(X+X / 256) / 65536:Nat):Int)=_:=e6
 rw[show ((X+X / 2 ^ 8:Nat):Int)=((X+X / 256:Nat):Int) from rfl,e5,show ((X+X / 256+(X+X / 256) / 2 ^ 16:Nat):Int)=((X+X / 256+(X+X / 256) / 65536:Nat):Int) from rfl,e6]
 rw[aae _ g2',abU,← g1']
theorem abw{x:Int}(h:bf x)(σ:Hp):ACalls Tryz.prog 292 [.int .u64 x] σ (az (.int .i64 (rb x.toNat)) σ):=by
 refine okF Tryz.func292 (by kernel_rfl) ?_
 have hv:=Wh (uf h)
 rw[zP h]at hv
 refine ag.mk (by decide) ?_
 refine ag.mk (by omega) ?_
 refine ag.mk (by omega) ?_
 refine ag.mk (by omega) ?_
 refine ag.mk (by omega) ?_
 refine ag.mk (by omega) ?_
 exact .done ⟨aN hv,rfl⟩
end Go.Proofs.YtnpidbjdilnhlaaGreat
