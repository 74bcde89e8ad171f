import Derived.Test.YtnikdflhefijbaaGreatBn11
namespace Go.Proofs.YtnikdflhefijbaaGreat
open Go.RowKit
set_option maxRecDepth 100000
theorem agl(l:List Int)(x:Int)(σ:Hp)(hl:l.length≤1000000):ACalls Tryz.prog 144 [.af (.int .i64) l,.int .i64 x] σ (aE (.bool (l.any fun z=>decide (x=z))) σ):=by
 refine ay Tryz.func144 ?_
 refine bV (S:=Nat) (fun k=>[(1,.int .i64 x),(7,.af (.int .i64) l),(8,.int .i64 l.length),(9,.int .i64 k)]) (fun _=>σ) (fun k=>k≤l.length∧((l.take k).any fun z=>decide (x=z))=false) (fun k=>l.length-k) 0 ⟨⟨bA _,rfl⟩,⟨rfl,rfl,rfl,rfl,trivial⟩,rfl⟩ ?_
 rintro k g ⟨aL,mK⟩
 have hk:k≤l.length:=aL
 have ha:((l.take k).any fun z=>decide (x=z))=false:=mK
 clear aL mK
 refine an (fun ab=>?_) (fun ar=>?_)
 ·have ab:k<l.length:=by have ab:(k:Int)<l.length:=ab;omega
  have hs:=qP ab fun z:Int=>decide (x=z)
  rw[ha,oK]at hs
  refine ag.mk rfl (bG.mk l[k] (by omega) (get_some ab) ?_)
  refine an (p:=l[k]=x) (fun d1=>?_) (fun d1=>?_)
  ·exact .done ⟨cz (mf.2 ⟨l[k],bX ab,aV d1.symm⟩).symm,rfl⟩
  ·exact a8 (k+1) (by show l.length-(k+1)<l.length-k;omega) ⟨ab,hs.trans (bR fun h=>d1 h.symm)⟩ ⟨rfl,rfl,rfl,aX (by omega),trivial⟩ (.refl _)
 ·have ar:k=l.length:=by have ar:¬(k:Int)<l.length:=ar;omega
  subst ar
  rw[fj]at ha
  exact .done ⟨cz ha.symm,rfl⟩
end Go.Proofs.YtnikdflhefijbaaGreat
namespace Go.Proofs.YtnikdflhefijbaaGreat
def bP:List Nat→Nat
 | []=>0
 |b::l=>bP l*256+b
theorem BV(a b c d:Nat)(hb:b<256)(hd:d<256):(a*256+b) &&& (c*256+d)=(a &&& c)*256+(b &&& d):=by
 have zb:b &&& d<256:=zh EB hb
 refine Bm fun i=>?_
 rw[IX,Bb a,Bb c,Bb (a &&& c),show (256:Nat)=2 ^ 8 by decide,Om a hb,Om c hd,Om (a &&& c) zb]
 split
 ·rw[IX]
 ·rw[IX]
def g1(b:Nat):Nat:=(b / 2 &&& 85)+(b &&& 85)
def g2(b:Nat):Nat:=(b / 4 &&& 51)+(b &&& 51)
def g3(b:Nat):Nat:=(b / 16+b) &&& 15
theorem af8:∀h<2,∀b<256,(h*128+b / 2) &&& 85=b / 2 &&& 85:=by decide +kernel
theorem af7:∀h<4,∀b<256,(h*64+b / 4) &&& 51=b / 4 &&& 51:=by decide +kernel
theorem aax:∀b<256,g1 b≤170:=by decide +kernel
theorem aaw:∀b<256,g2 (g1 b) % 16≤4∧g2 (g1 b) / 16≤4:=by decide +kernel
theorem af6:∀h≤4,∀l≤4,∀k≤4,(k*16+((h*16+l) / 16+(h*16+l))) &&& 15=g3 (h*16+l)∧k*16+((h*16+l) / 16+(h*16+l))<256:=by decide +kernel
def uQ(b:Nat):Nat:=g3 (g2 (g1 b))
theorem uk:∀b<256,uQ b≤8:=by decide +kernel
theorem Yw:∀b<256,uQ b=0→b=0:=by decide +kernel
theorem TE:∀(l:List Nat),(∀b∈l,b<256)→(bP l / 2 &&& bP (l.map fun _=>85))+(bP l &&& bP (l.map fun _=>85))=bP (l.map g1)
 | [],_=>rfl
 |b::l,h=>by
  have hb:=h b (.head _)
  have ih:=TE l (fun x hx=>h x (.tail _ hx))
  show (((bP l*256+b) / 2) &&& (bP (l.map fun _=>85)*256+85))+((bP l*256+b) &&& (bP (l.map fun _=>85)*256+85))=bP (l.map g1)*256+g1 b
  have e:(bP l*256+b) / 2=bP l / 2*256+(bP l % 2*128+b / 2):=by omega
  rw[e,BV _ _ _ _ (by omega) (by decide),BV _ _ _ _ hb (by decide),af8 _ (nA _ (by decide)) _ hb,← ih]
  show _=_*256+((b / 2 &&& 85)+(b &&& 85))
  generalize bP l / 2 &&& bP (l.map fun _=>85)=A
  generalize bP l &&& bP (l.map fun _=>85)=B
  generalize b / 2 &&& 85=C
  generalize b &&& 85=D
  omega
theorem TD:∀(l:List Nat),(∀b∈l,b<256)→(bP l / 4 &&& bP (l.map fun _=>51))+(bP l &&& bP (l.map fun _=>51))=bP (l.map g2)
 | [],_=>rfl
 |b::l,h=>by
  have hb:=h b (.head _)
  have ih:=TD l (fun x hx=>h x (.tail _ hx))
  show (((bP l*256+b) / 4) &&& (bP (l.map fun _=>51)*256+51))+((bP l*256+b) &&& (bP (l.map fun _=>51)*256+51))=bP (l.map g2)*256+g2 b
  have e:(bP l*256+b) / 4=bP l / 4*256+(bP l % 4*64+b / 4):=by omega
  rw[e,BV _ _ _ _ (by omega) (by decide),BV _ _ _ _ hb (by decide),af7 _ (nA _ (by decide)) _ hb,← ih]
  show _=_*256+((b / 4 &&& 51)+(b &&& 51))
  generalize bP l / 4 &&& bP (l.map fun _=>51)=A
  generalize bP l &&& bP (l.map fun _=>51)=B
  generalize b / 4 &&& 51=C
  generalize b &&& 51=D
  omega
theorem ZJ:∀(l:List Nat),(∀b∈l,b % 16≤4∧b / 16≤4)→bP l % 16≤4
 | [],_=>by decide
 |b::l,h=>by
  have:=(h b (.head _)).1
  show (bP l*256+b) % 16≤4
  omega
theorem TC:∀(l:List Nat),(∀b∈l,b % 16≤4∧b / 16≤4)→((bP l / 16+bP l) &&& bP (l.map fun _=>15))=bP (l.map g3)
 | [],_=>rfl
 |b::l,h=>by
  obtain⟨h1,h2⟩:=h b (.head _)
  have ih:=TC l (fun x hx=>h x (.tail _ hx))
  have hm:=ZJ l (fun x hx=>h x (.tail _ hx))
  show (((bP l*256+b) / 16+(bP l*256+b)) &&& (bP (l.map fun _=>15)*256+15))=bP (l.map g3)*256+g3 b
  have sx:b=b / 16*16+b % 16:=by omega
  obtain⟨f1,f2⟩:=af6 _ h2 _ h1 _ hm
  rw[← sx]at f1 f2
  have e:(bP l*256+b) / 16+(bP l*256+b)=(bP l / 16+bP l)*256+(bP l % 16*16+(b / 16+b)):=by omega
  rw[e,BV _ _ _ _ f2 (by decide),f1,ih]
def uE(x:Nat):List Nat:=[x % 256,x / 256 % 256,x / 65536 % 256,x / 16777216 % 256,x / 4294967296 % 256,x / 1099511627776 % 256,x / 281474976710656 % 256,x / 72057594037927936 % 256]
theorem P4{x:Nat}(h:x<18446744073709551616):bP (uE x)=x:=by
 unfold uE bP bP bP bP bP bP bP bP bP
 omega
theorem Kg(x:Nat):∀b∈uE x,b<256:=by
 intro b hb
 simp only[uE,eG,Be,or_false]at hb
 omega
def te(x:Nat):Nat:=((uE x).map uQ).sum
theorem abW(x:Nat):te x≤64:=by
 have h:=Kg x
 unfold te uE at *
 simp only[oL,List.map_nil,IM,List.sum_nil,eG,Be,or_false,forall_eq_or_imp,forall_eq]at *
 obtain⟨h0,h1,h2,h3,h4,h5,h6,h7⟩:=h
 have:=uk _ h0
 have:=uk _ h1
 have:=uk _ h2
 have:=uk _ h3
 have:=uk _ h4
 have:=uk _ h5
 have:=uk _ h6
 have:=uk _ h7
 omega
theorem Yv{x:Nat}(hx:x<18446744073709551616)(h:te x=0):x=0:=by
 have hb:=Kg x
 have hv:=P4 hx
 unfold te at h
 generalize uE x=l at *
 have hz:∀b∈l,b=0:=by
  intro b hm
  refine Yw b (hb b hm) ?_
  have hle:∀(l:List Nat),b∈l→uQ b≤(l.map uQ).sum:=by
   intro l
   induction l with
   |nil=>intro h;cases h
   |cons c l ih=>
    intro h
    rw[oL,IM]
    rcases eG.1 h with rfl | h
    ·omega
    ·have:=ih h;omega
  have:=hle l hm
  omega
 have:∀(l:List Nat),(∀b∈l,b=0)→bP l=0:=by
  intro l
  induction l with
  |nil=>intro _;rfl
  |cons b l ih=>
   intro h
   show bP l*256+b=0
   rw[ih (fun x hx=>h x (.tail _ hx)),h b (.head _)]
 rw[← hv,this l hz]
theorem af2{e0 e1 e2 e3 e4 e5 e6 e7 x3 y1 y2 y3:Nat}(h:e0≤8∧e1≤8∧e2≤8∧e3≤8∧e4≤8∧e5≤8∧e6≤8∧e7≤8)(hx:x3=bP [e0,e1,e2,e3,e4,e5,e6,e7])(h1:y1=x3+x3 / 256)(h2:y2=y1+y1 / 65536)(h3:y3=y2+y2 / 4294967296):y3 % 128=e0+e1+e2+e3+e4+e5+e6+e7∧y3<9223372036854775808∧y2<18446744073709551616∧y1<18446744073709551616:=by
 obtain⟨k0,k1,k2,k3,k4,k5,k6,k7⟩:=h
 obtain⟨T1,NV⟩:∃T,T=bP [e1,e2,e3,e4,e5,e6,e7]:=⟨_,rfl⟩
 obtain⟨T2,Em⟩:∃T,T=bP [e2,e3,e4,e5,e6,e7]:=⟨_,rfl⟩
 obtain⟨T3,NU⟩:∃T,T=bP [e3,e4,e5,e6,e7]:=⟨_,rfl⟩
 obtain⟨T4,NT⟩:∃T,T=bP [e4,e5,e6,e7]:=⟨_,rfl⟩
 obtain⟨T5,NS⟩:∃T,T=bP [e5,e6,e7]:=⟨_,rfl⟩
 obtain⟨T6,NR⟩:∃T,T=bP [e6,e7]:=⟨_,rfl⟩
 obtain⟨T7,NQ⟩:∃T,T=bP [e7]:=⟨_,rfl⟩
 have hx:x3=T1*256+e0:=by rw[hx,NV];rfl
 have t1:T1=T2*256+e1:=by rw[NV,Em];rfl
 have t2:T2=T3*256+e2:=by rw[Em,NU];rfl
 have t3:T3=T4*256+e3:=by rw[NU,NT];rfl
 have t4:T4=T5*256+e4:=by rw[NT,NS];rfl
 have t5:T5=T6*256+e5:=by rw[NS,NR];rfl
 have t6:T6=T7*256+e6:=by rw[NR,NQ];rfl
 have t7:T7=e7:=by rw[NQ];exact eF _
 clear NV Em NU NT NS NR NQ
 have d1:x3 / 256=T1:=by clear h1 h2 h3 t1 t2 t3 t4 t5 t6 t7;omega
 have u1:y1=(T2+T3)*65536+(e1*256+e2*256+e0+e1):=by rw[h1,d1];clear h1 h2 h3 d1 t3 t4 t5 t6 t7;omega
 have d2:y1 / 65536=T2+T3:=by clear h1 h2 h3 t1 t2 t3 t4 t5 t6 t7 d1 hx;omega
 have u2:y2=(T4+T5+T6+T7)*4294967296+((e0+e1+e2+e3)+(e1+e2+e3+e4)*256+(e2+e3+e4+e5)*65536+(e3+e4+e5+e6)*16777216):=by rw[h2,d2,u1];clear h1 h2 h3 d1 d2 u1 hx t7;omega
 have d3:y2 / 4294967296=T4+T5+T6+T7:=by clear h1 h2 h3 t1 t2 t3 t4 t5 t6 t7 d1 d2 hx u1;omega
 have u3:y3=(T4+T5+T6+T7)*4294967296+((e0+e1+e2+e3)+(e1+e2+e3+e4)*256+(e2+e3+e4+e5)*65536+(e3+e4+e5+e6)*16777216)+(T4+T5+T6+T7):=by rw[h3,d3,u2]
 have b7:T7≤8:=by omega
 have b6:T6≤2056:=by clear u1 u2 u3 d1 d2 d3 h1 h2 h3 hx;omega
 have b5:T5≤526344:=by clear u1 u2 u3 d1 d2 d3 h1 h2 h3 hx;omega
 have b4:T4≤134744072:=by clear u1 u2 u3 d1 d2 d3 h1 h2 h3 hx;omega
 have b3:T3≤34494482440:=by clear u1 u2 u3 d1 d2 d3 h1 h2 h3 hx;omega
 have b2:T2≤8830587504648:=by clear u1 u2 u3 d1 d2 d3 h1 h2 h3 hx;omega
 refine⟨?_,?_,?_,?_⟩
 ·clear u1 u2 d1 d2 d3 h1 h2 h3 hx b2 b3 b4 b5 b6 b7 t1 t2 t3;omega
 ·clear u1 u2 d1 d2 d3 h1 h2 h3 hx t1 t2 t3 t4 t5 t6 t7;omega
 ·clear u1 u3 d1 d2 d3 h1 h2 h3 hx t1 t2 t3 t4 t5 t6 t7;omega
 ·clear u2 u3 d1 d2 d3 h1 h2 h3 hx t1 t2 t3 t4 t5 t6 t7;omega
set_option maxRecDepth 100000
theorem x7{z:Int}(h:bD z):(z.toNat:Int)=z:=by unfold bD at h;omega
theorem tf{z:Int}(h:bD z):z.toNat<18446744073709551616:=by unfold bD at h;omega
theorem abw{n:Nat}(h:n<18446744073709551616):bD (n:Int):=by unfold bD;omega
theorem qH{a b:Nat}(ha:a<18446744073709551616)(hb:b<18446744073709551616):bits .and .u64 (a:Int) (b:Int)=((a &&& b:Nat):Int):=by
 show IntKind.u64.wrap ((BitVec.ofInt 64 (a:Int) &&& BitVec.ofInt 64 (b:Int)).toNat:Int)=_
 rw[BitVec.toNat_and,BitVec.ofInt_natCast,BitVec.ofInt_natCast,BitVec.toNat_ofNat,BitVec.toNat_ofNat,tR ha,tR hb,IntKind.wrap_u64]
 have:a &&& b≤a:=EB
 omega
theorem sM{a b:Nat}(ha:a<18446744073709551616)(hb:b<18446744073709551616):bits .or .u64 (a:Int) (b:Int)=((a ||| b:Nat):Int):=by
 show IntKind.u64.wrap ((BitVec.ofInt 64 (a:Int) ||| BitVec.ofInt 64 (b:Int)).toNat:Int)=_
 rw[BitVec.toNat_or,BitVec.ofInt_natCast,BitVec.ofInt_natCast,BitVec.toNat_ofNat,BitVec.toNat_ofNat,tR ha,tR hb,IntKind.wrap_u64]
 have:a ||| b<2 ^ 64:=I3 ha hb
 have jO:(2:Nat) ^ 64=18446744073709551616:=by decide
 omega
theorem Ga(a:Nat)(k:Nat)(j:Int)(hj:min j.toNat IntKind.u64.bits=k):(a:Int).fdiv (2 ^ min j.toNat IntKind.u64.bits)=((a / 2 ^ k:Nat):Int):=by
 rw[hj,Int.fdiv_eq_ediv_of_nonneg _ (Int.pow_nonneg (by decide)),Int.natCast_ediv,Int.natCast_pow];rfl
theorem KO:∀(l:List Nat),(∀b∈l,b<256)→bP l<256 ^ l.length
 | [],_=>by decide
 |b::l,h=>by
  have:=KO l (fun x hx=>h x (.tail _ hx))
  have hb:=h b (.head _)
  show bP l*256+b<256 ^ (l.length+1)
  rw[Nat.pow_succ]
  omega
def oA(k m x:Int):Int:=IntKind.u64.wrap (bits .and .u64 (x.fdiv (2 ^ min k.toNat IntKind.u64.bits)) m+bits .and .u64 x m)
def oB(x:Int):Int:=bits .and .u64 (IntKind.u64.wrap (x.fdiv (2 ^ min (4:Int).toNat IntKind.u64.bits)+x)) 1085102592571150095
def oC(k x:Int):Int:=IntKind.u64.wrap (x+x.fdiv (2 ^ min k.toNat IntKind.u64.bits))
def oD(x:Int):Int:=bits .and .i64 (IntKind.i64.wrap x) 127
theorem yd{n:Nat}(h:n<18446744073709551616):IntKind.u64.wrap (n:Int)=n:=by rw[IntKind.wrap_u64];omega
theorem ae2(n:Nat)(h:n<9223372036854775808):oD (n:Int)=((n % 128:Nat):Int):=by
 unfold oD
 rw[show IntKind.i64.wrap (n:Int)=n by rw[IntKind.wrap_i64];omega]
 show IntKind.i64.wrap ((BitVec.ofInt 64 (n:Int) &&& BitVec.ofInt 64 (127:Int)).toNat:Int)=_
 rw[BitVec.toNat_and,BitVec.ofInt_natCast,BitVec.toNat_ofNat,tR (show n<2 ^ 64 from Ev h (by decide)),show (BitVec.ofInt 64 (127:Int)).toNat=2 ^ 7-1 by decide,Ot,IntKind.wrap_i64]
 have:(2:Nat) ^ 7=128:=by decide
 omega
theorem aa7{n:Nat}(h:n<18446744073709551616):oD (oC 32 (oC 16 (oC 8 (oB (oA 2 3689348814741910323 (oA 1 6148914691236517205 (n:Int)))))))=(te n:Int):=by
 have hb:=Kg n
 have hv:=P4 h
 obtain⟨l,hl⟩:∃l,l=uE n:=⟨_,rfl⟩
 have hlen:l.length=8:=by rw[hl];rfl
 rw[← hl]at hb hv
 have ML:(256:Nat) ^ 8=18446744073709551616:=by decide
 have mb:∀b∈l.map g1,b<256:=fun b hm=>by
  obtain⟨c,hc,rfl⟩:=dX.1 hm
  have:=aax c (hb c hc);omega
 have rz:∀b∈(l.map g1).map g2,b % 16≤4∧b / 16≤4:=fun b hm=>by
  obtain⟨c,hc,rfl⟩:=dX.1 hm
  obtain⟨d,hd,rfl⟩:=dX.1 hc
  exact aaw d (hb d hd)
 have ag0:∀b∈(l.map g1).map g2,b<256:=fun b hm=>by have:=rz b hm;omega
 have m1:bP (l.map fun _=>85)=6148914691236517205:=by rw[List.map_const',hlen];rfl
 have m2:bP ((l.map g1).map fun _=>51)=3689348814741910323:=by rw[List.map_const',cd,hlen];rfl
 have m3:bP (((l.map g1).map g2).map fun _=>15)=1085102592571150095:=by rw[List.map_const',cd,cd,hlen];rfl
 have s1:=TE l hb
 have s2:=TD (l.map g1) mb
 have s3:=TC ((l.map g1).map g2) rz
 rw[m1,hv]at s1
 rw[m2]at s2
 rw[m3]at s3
 have l1:=KO _ mb
 have l2:=KO _ ag0
 rw[cd,hlen,ML]at l1
 rw[cd,cd,hlen,ML]at l2
 have hA:∀(x m y k:Nat) (j:Int),min j.toNat IntKind.u64.bits=k→x<18446744073709551616→m<18446744073709551616→(x / 2 ^ k &&& m)+(x &&& m)=y→y<18446744073709551616→oA j (m:Int) (x:Int)=(y:Int):=by
  intro x m y k j hj hx hm hy vu
  unfold oA
  rw[Ga x k j hj,qH (zh (Nat.div_le_self _ _) hx) hm,qH hx hm,← tQ,hy]
  exact yd vu
 have e1:=hA n 6148914691236517205 _ 1 1 rfl h (by decide) s1 l1
 have e2:=hA _ 3689348814741910323 _ 2 2 rfl l1 (by decide) s2 l2
 have ru:bP ((l.map g1).map g2) / 16+bP ((l.map g1).map g2)<18446744073709551616:=by
  have hz:∀(q:List Nat),(∀b∈q,b % 16≤4∧b / 16≤4)→bP q*2<256 ^ q.length∨q=[]:=by
   intro q
   induction q with
   |nil=>intro _;exact .inr rfl
   |cons b q ih=>
    intro h
    have hb:=h b (.head _)
    refine .inl ?_
    show (bP q*256+b)*2<256 ^ (q.length+1)
    rw[Nat.pow_succ]
    rcases ih (fun x hx=>h x (.tail _ hx)) with h1 | rfl
    ·omega
    ·show (0*256+b)*2<256 ^ 0*256
     omega
  rcases hz _ rz with h1 | h1
  ·rw[cd,cd,hlen,ML]at h1
   omega
  ·have:=congrArg List.length h1
   rw[cd,cd,hlen]at this
   cases this
 have e3:oB (bP ((l.map g1).map g2):Int)=(bP (((l.map g1).map g2).map g3):Int):=by
  unfold oB
  rw[Ga _ 4 4 rfl,← tQ,show (2:Nat) ^ 4=16 by decide,yd ru]
  have:=qH (b:=1085102592571150095) ru (by decide)
  rw[s3]at this
  exact this
 have hC:∀(x k:Nat) (j:Int),min j.toNat IntKind.u64.bits=k→x+x / 2 ^ k<18446744073709551616→oC j (x:Int)=((x+x / 2 ^ k:Nat):Int):=by
  intro x k j hj hx
  unfold oC
  rw[Ga x k j hj,← tQ]
  exact yd hx
 have afI:((l.map g1).map g2).map g3=l.map uQ:=by simp[uQ,Function.comp_def]
 rw[afI]at e3
 obtain⟨e0,f1,f2,f3,f4,f5,f6,f7,hq,afC,hle⟩:∃e0 e1 e2 e3 e4 e5 e6 e7,l.map uQ=[e0,e1,e2,e3,e4,e5,e6,e7]∧te n=e0+e1+e2+e3+e4+e5+e6+e7∧(e0≤8∧e1≤8∧e2≤8∧e3≤8∧e4≤8∧e5≤8∧e6≤8∧e7≤8):=by
  refine⟨_,_,_,_,_,_,_,_,by rw[hl];rfl,?_,?_⟩
  ·unfold te uE
   simp only[oL,List.map_nil,IM,List.sum_nil]
   omega
  ·refine⟨?_,?_,?_,?_,?_,?_,?_,?_⟩ <;> exact uk _ (nA _ (by decide))
 obtain⟨X,hX⟩:∃X,X=bP (l.map uQ):=⟨_,rfl⟩
 rw[← hX]at e3
 rw[hq]at hX
 obtain⟨g1',g2',g3',g4'⟩:=af2 hle hX rfl rfl rfl
 have e4:=hC X 8 8 rfl g4'
 have e5:=hC (X+X / 256) 16 16 rfl g3'
 have e6:=hC (X+X / 256+(X+X / 256) / 65536) 32 32 rfl (Ev g2' (by decide))
 have Ns:oA 1 6148914691236517205 (n:Int)=_:=e1
 rw[Ns]
 have rr:oA 2 3689348814741910323 (bP (l.map g1):Int)=_:=e2
 rw[rr,e3,e4]
 have e5:oC 16 ((X+X / 256:Nat):Int)=_:=e5
 have e6:oC 32 ((X+X / 256+(X+X / 256) / 65536:Nat):Int)=_:=e6
 rw[show ((X+X / 2 ^ 8:Nat):Int)=((X+X / 256:Nat):Int) from rfl,e5,show ((X+X / 256+(X+X / 256) / 2 ^ 16:Nat):Int)=((X+X / 256+(X+X / 256) / 65536:Nat):Int) from rfl,e6]
 rw[ae2 _ g2',afC,← g1']
theorem afg{x:Int}(h:bD x)(σ:Hp):ACalls Tryz.prog 306 [.int .u64 x] σ (aE (.int .i64 (te x.toNat)) σ):=by
 refine ay Tryz.func306 ?_
 have hv:=aa7 (tf h)
 rw[x7 h]at hv
 refine ag.mk (by decide) ?_
 refine ag.mk (by omega) ?_
 refine ag.mk (by omega) ?_
 refine ag.mk (by omega) ?_
 refine ag.mk (by omega) ?_
 refine ag.mk (by omega) ?_
 exact .done ⟨aQ hv,rfl⟩
def hasB(a:List Int)(n:Nat):Bool:=(wd a (n / 64)).toNat.testBit (n % 64)
def dr(f:Int→Int→Int)(a b:List Int):List Int:=(List.range (max a.length b.length)).map fun i=>f (wd a i) (wd b i)
theorem pI(f:Int→Int→Int)(a b:List Int):(dr f a b).length=max a.length b.length:=by simp[dr]
theorem x5(f:Int→Int→Int)(a b:List Int){i:Nat}(h:i<max a.length b.length):wd (dr f a b) i=f (wd a i) (wd b i):=by
 unfold dr wd
 rw[fo,tU h]
 rfl
theorem x6{a:List Int}{i:Nat}(h:a.length≤i):wd a i=0:=by unfold wd;rw[tY h];rfl
theorem kL(b:List Int){i:Nat}(h:i<b.length):wd b i=b[i]:=by unfold wd;rw[bJ h];rfl
theorem ye{a b:List Int}(hl:a.length=b.length)(h:∀i,i<a.length→wd a i=wd b i):a=b:=by
 refine EO hl fun i h1 h2=>?_
 have:=h i h1
 rw[kL a h1,kL b h2]at this
 exact this
theorem CG{n:Nat}{f:Nat→Int}(h:∀i,i<n→bD (f i)):aR ((List.range n).map f):=fun z hz=>by
 obtain⟨i,hi,rfl⟩:=dX.1 hz
 exact h i (gw.1 hi)
abbrev hG(x y:Int):Int:=bits .or .u64 x y
abbrev fq(x y:Int):Int:=bits .andNot .u64 x y
theorem TS(x y:Int):bD (hG x y):=Cg _
theorem G3(x y:Int):bD (fq x y):=Cg _
theorem toNat_ofInt{z:Int}(h:bD z):(BitVec.ofInt 64 z).toNat=z.toNat:=by
 have:=tf h
 rw[BitVec.toNat_ofInt]
 unfold bD at h
 omega
theorem K3{x y:Int}(hx:bD x)(hy:bD y)(k:Nat):(hG x y).toNat.testBit k=(x.toNat.testBit k||y.toNat.testBit k):=by
 have e:hG x y=((BitVec.ofInt 64 x ||| BitVec.ofInt 64 y).toNat:Int):=by
  show IntKind.u64.wrap _=_
  exact yd (BitVec.isLt _)
 rw[e,bM,BitVec.toNat_or,IT,toNat_ofInt hx,toNat_ofInt hy]
theorem GF{x y:Int}(hx:bD x)(hy:bD y){k:Nat}(hk:k<64):(fq x y).toNat.testBit k=(x.toNat.testBit k&&!y.toNat.testBit k):=by
 have e:fq x y=((BitVec.ofInt 64 x &&& ~~~BitVec.ofInt 64 y).toNat:Int):=by
  show IntKind.u64.wrap _=_
  exact yd (BitVec.isLt _)
 rw[e,bM,BitVec.testBit_toNat,BitVec.getLsbD_and,BitVec.getLsbD_not,aV hk,tO,← BitVec.testBit_toNat,← BitVec.testBit_toNat,toNat_ofInt hx,toNat_ofInt hy]
def fJ(T:List Int)(n:Nat):List Int:=(List.range T.length).map fun i=>(((wd T i).toNat % 2 ^ min 64 (n-64*i):Nat):Int)
theorem pJ(T:List Int)(n:Nat):(fJ T n).length=T.length:=by simp[fJ]
theorem yh(T:List Int)(n:Nat){i:Nat}(h:i<T.length):wd (fJ T n) i=(((wd T i).toNat % 2 ^ min 64 (n-64*i):Nat):Int):=by
 unfold fJ
 unfold wd
 rw[fo,tU h]
 rfl
theorem FU(T:List Int):fJ T 0=List.replicate T.length 0:=by
 refine List.ext_getElem (by simp[fJ]) fun i h1 h2=>?_
 rw[List.getElem_replicate,← kL _ h1,yh T 0 (by simpa [fJ]using h1),Nat.zero_sub,Nat.min_zero,Nat.pow_zero,Nat.mod_one]
 rfl
theorem SL{T:List Int}(hT:aR T):fJ T (64*T.length)=T:=by
 refine ye (pJ _ _) fun i hi=>?_
 rw[pJ]at hi
 rw[yh T _ hi,show min 64 (64*T.length-64*i)=64 by omega]
 have h:=kP hT i
 rw[tR (tf h),x7 h]
theorem mod_succ(x k:Nat):x % 2 ^ (k+1)=if x.testBit k then x % 2 ^ k ||| 2 ^ k else x % 2 ^ k:=by
 refine Bm fun i=>?_
 cases hb:x.testBit k with
 |false=>
  rw[ah (by decide),Jd,Jd]
  by_cases h1:i<k
  ·rw[aV (show i<k+1 by omega),aV h1]
  ·by_cases h2:i=k
   ·subst h2;rw[hb];simp
   ·rw[bR (show ¬i<k+1 by omega),bR h1]
 |true=>
  rw[ai rfl,IT,Jd,Jd,Od]
  by_cases h1:i<k
  ·rw[decide_eq_true (show i<k+1 by omega),decide_eq_true h1,decide_eq_false (show ¬k=i by omega)];simp
  ·by_cases h2:i=k
   ·subst h2;rw[hb];simp
   ·rw[bR (show ¬i<k+1 by omega),bR h1,bR (show ¬k=i by omega)];rfl
theorem Kr{T:List Int}{n:Nat}(h:n<64*T.length):fJ T (n+1)=if hasB T n then (fJ T n).set (n / 64) (hG (wd (fJ T n) (n / 64)) ((2 ^ (n % 64):Nat):Int)) else fJ T n:=by
 have hi:n / 64<T.length:=by omega
 have hk:n % 64<64:=nA _ (by decide)
 have ab:∀m,(wd T (n / 64)).toNat % 2 ^ min 64 m<18446744073709551616:=fun m=>by
  have h1:(wd T (n / 64)).toNat % 2 ^ min 64 m<2 ^ min 64 m:=nA _ (Bd _)
  have h2:2 ^ min 64 m≤2 ^ 64:=tX (by decide) (Nat.min_le_left _ _)
  have h3:(2:Nat) ^ 64=18446744073709551616:=by decide
  omega
 have hp:2 ^ (n % 64)<18446744073709551616:=by
  have h2:2 ^ (n % 64)<2 ^ 64:=Nat.pow_lt_pow_right (by decide) hk
  exact h2
 have e1:min 64 (n-64*(n / 64))=n % 64:=by omega
 have e2:min 64 (n+1-64*(n / 64))=n % 64+1:=by omega
 have hm:=mod_succ (wd T (n / 64)).toNat (n % 64)
 have TX:∀i,i≠n / 64→min 64 (n+1-64*i)=min 64 (n-64*i):=fun i aP=>by omega
 unfold hasB
 refine ye ?_ fun i IC=>?_
 ·rw[pJ]
  split
  ·rw[cM,pJ]
  ·rw[pJ]
 ·rw[pJ]at IC
  rw[yh T _ IC]
  cases hb:(wd T (n / 64)).toNat.testBit (n % 64) with
  |true=>
   rw[hb,ai rfl]at hm
   rw[ai rfl]
   by_cases hc:i=n / 64
   ·subst hc
    have hs:wd ((fJ T n).set (n / 64) (hG (wd (fJ T n) (n / 64)) ((2 ^ (n % 64):Nat):Int))) (n / 64)=hG (wd (fJ T n) (n / 64)) ((2 ^ (n % 64):Nat):Int):=by
     unfold wd
     rw[List.getElem?_set_self (by rw[pJ];exact hi)];rfl
    have afP:=ab (n-64*(n / 64))
    rw[hs,yh T n hi,show hG _ _=_ from sM afP hp,e2,e1,hm]
   ·have hs:wd ((fJ T n).set (n / 64) (hG (wd (fJ T n) (n / 64)) ((2 ^ (n % 64):Nat):Int))) i=wd (fJ T n) i:=by
     unfold wd
     rw[List.getElem?_set_ne (fun h=>hc h.symm)]
    rw[hs,yh T n IC,TX i hc]
  |false=>
   rw[hb,ah (by decide)]at hm
   rw[ah (by decide),yh T n IC]
   by_cases hc:i=n / 64
   ·subst hc
    rw[e2,e1,hm]
   ·rw[TX i hc]
def dK(w:Int):Nat:=(min (max w 0) 1024).toNat
def dC(w:Int):Nat:=(dK w+63) / 64
theorem CB(w:Int):dK w≤1024:=by unfold dK;omega
theorem xY(w:Int):dC w≤16:=by have:=CB w;unfold dC;omega
theorem Sa(n:Int):(if (1024:Int)<(if n<0 then 0 else n) then (1024:Int) else (if n<0 then 0 else n))=((dK n:Nat):Int):=by
 unfold dK
 by_cases h:n<0
 ·simp only[ai h];omega
 ·simp only[ah h];split <;> omega
def eP(w:Int):List Int:=(List.range (dC w)).map fun i=>((2 ^ min 64 (dK w-64*i)-1:Nat):Int)
theorem mP(w:Int):(eP w).length=dC w:=by simp[eP]
theorem Cb(w:Int){i:Nat}(h:i<dC w):wd (eP w) i=((2 ^ min 64 (dK w-64*i)-1:Nat):Int):=by
 unfold eP wd
 rw[fo,tU h]
 rfl
theorem aeF(m:Nat):2 ^ min 64 m≤18446744073709551616:=tX (by decide) (Nat.min_le_left _ _)
theorem R4(w:Int):aR (eP w):=CG fun i _=>abw (by
 have:=aeF (dK w-64*i)
 have:=Bd (min 64 (dK w-64*i))
 omega)
def fg(a:List Int)(w:Int):Bool:=decide (a.length=dC w)&&(List.range a.length).all fun i=>decide ((wd a i).toNat<2 ^ min 64 (dK w-64*i))
theorem Kd{a:List Int}{w:Int}(jO:aR a)(hl:a.length=dC w):fg a w=true↔∀n,dK w≤n→n<64*a.length→hasB a n=false:=by
 unfold fg hasB
 rw[aV hl,tO,fk]
 constructor
 ·intro h n h1 h2
  have hi:n / 64<a.length:=by omega
  have:=h (n / 64) (gw.2 hi)
  simp only[decide_eq_true_eq]at this
  refine vM (rE this (tX (by decide) ?_))
  omega
 ·intro h i hi
  have hi:=gw.1 hi
  rw[decide_eq_true_eq]
  have VB:=tf (kP jO i)
  rcases tN (dK w-64*i) 64 with hc | hc
  ·rw[Nat.min_eq_right (by omega)]
   refine Nat.lt_pow_two_of_testBit _ fun k hk=>?_
   rcases tN k 64 with dF | dF
   ·have:=h (64*i+k) (by omega) (by omega)
    rw[show (64*i+k) / 64=i by omega,show (64*i+k) % 64=k by omega]at this
    exact this
   ·refine vM (rE VB ?_)
    exact tX (by decide:0<2) dF
  ·rw[Oi hc]
   exact VB
theorem YY{a:List Int}{w:Int}(jO:aR a)(hl:a.length=dC w):fg a w=true↔∀i,i<a.length→fq (wd a i) (wd (eP w) i)=0:=by
 unfold fg
 rw[aV hl,tO,fk]
 have hf:∀i,i<a.length→((wd a i).toNat<2 ^ min 64 (dK w-64*i)↔fq (wd a i) (wd (eP w) i)=0):=by
  intro i hi
  have ha:=kP jO i
  have hb:=kP (R4 w) i
  have hn:(wd (eP w) i).toNat=2 ^ min 64 (dK w-64*i)-1:=by rw[Cb w (by omega),bM]
  constructor
  ·intro h
   have hz:(fq (wd a i) (wd (eP w) i)).toNat=0:=by
    refine Bm fun k=>?_
    rw[Nat.zero_testBit]
    rcases tN k 64 with hk | hk
    ·rw[GF ha hb hk,hn,Je]
     by_cases dF:k<min 64 (dK w-64*i)
     ·rw[decide_eq_true dF];simp
     ·rw[vM (rE h (tX (by decide) (by omega)))];rfl
    ·exact vM (rE (tf (G3 _ _)) (tX (by decide:0<2) hk))
   have:=x7 (G3 (wd a i) (wd (eP w) i))
   omega
  ·intro h
   refine Nat.lt_pow_two_of_testBit _ fun k hk=>?_
   rcases tN k 64 with dF | dF
   ·have hz:=GF ha hb dF
    rw[h,hn,Je,bR (by omega)]at hz
    have h0:(0:Int).toNat.testBit k=false:=Nat.zero_testBit k
    rw[h0]at hz
    simpa using hz.symm
   ·exact vM (rE (tf ha) (tX (by decide:0<2) dF))
 constructor
 ·intro h i hi
  exact (hf i hi).1 (by simpa using h i (List.mem_range.2 hi))
 ·intro h i hi
  have hi:=gw.1 hi
  rw[decide_eq_true_eq]
  exact (hf i hi).2 (h i hi)
end Go.Proofs.YtnikdflhefijbaaGreat
