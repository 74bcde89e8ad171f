import Derived.Test.YtnikdflhefijbaaGreatBn6
import Derived.Test.YtnikdflhefijbaaGreatBn5
namespace Go.Proofs.YtnikdflhefijbaaGreat
open Go.RowKit
set_option maxRecDepth 100000
theorem UZ(a:List Int)(i:Nat)(σ:Hp):ACalls Tryz.prog 334 [.ae (.int .u64) a,.int .i64 i] σ (ay (.int .u64 (wd a i)) σ):=by
 refine ar Tryz.func334 ?_
 refine ak (fun c=>?_) (fun c=>?_)
 ·have c:(a.length:Int)≤(i:Int):=c
  exact .done ⟨aQ (yZ (by omega)).symm,rfl⟩
 ·have c:i<a.length:=by have c:¬(a.length:Int)≤(i:Int):=c;omega
  refine aG.mk rfl (bE.mk a[i] (by omega) (get_some c) ?_)
  exact .done ⟨aQ (kZ a c).symm,rfl⟩
theorem V4(n:Int)(σ:Hp):ACalls Tryz.prog 210 [.int .i64 n] σ (ay (.int .i64 (eE n)) σ):=by
 refine ar Tryz.func210 ?_
 exact .done ⟨aQ (TL n),rfl⟩
theorem abw(n:Int):(IntKind.i64.wrap (IntKind.i64.wrap ((eE n:Nat)+64)-1)).tdiv 64=((ef n:Nat):Int):=by
 have:=HT n
 rw[IntKind.wrap_i64,IntKind.wrap_i64]
 unfold ef
 rw[CD (by omega)]
 omega
theorem Rv(n:Int):IntKind.i64.wrap ((ef n:Nat):Int)=((ef n:Nat):Int):=by
 have:=AW n
 rw[IntKind.wrap_i64];omega
theorem HY(n:Int)(σ:Hp):ACalls Tryz.prog 153 [.int .i64 n] σ (ay (.int .i64 (ef n)) σ):=by
 refine ar Tryz.func153 ?_
 refine aw [] (V4 n _) ?_
 refine aG.mk (by decide) ?_
 exact .done ⟨aQ (by rw[abw,Rv]),rfl⟩
theorem V6(g:FuncId)(f:Int→Int→Int)(hg:∀(x y:Int) (σ:Hp),ACalls Tryz.prog g [.int .u64 x,.int .u64 y] σ (ay (.int .u64 (f x y)) σ))(a b:List Int)(σ:Hp)(ha:a.length≤100000)(hb:b.length≤100000):ACalls Tryz.prog 307 [.ae (.int .u64) a,.ae (.int .u64) b,.fn (.func g) [] []] σ (ay (.ae (.int .u64) (dD f a b)) σ):=by
 refine ar Tryz.func307 ?_
 obtain⟨n,hn⟩:∃n,n=max a.length b.length:=⟨_,rfl⟩
 have lU:(if (a.length:Int)<b.length then (b.length:Int) else a.length)=(n:Int):=by split <;> omega
 have nh:(dD f a b).length=n:=by rw[ql,hn]
 refine .wrap 7 _ rfl rfl ?_
 refine bQ (S:=Nat×AV×Hp) (fun s=>[(0,.ae (.int .u64) a),(1,.ae (.int .u64) b),(2,.fn (.func g) [] []),(7,.via s.2.1),(13,.int .i64 n),(14,.int .i64 s.1)]) (fun s=>s.2.2++σ) (fun s=>s.1≤n∧Acc 1 s.1 s.2.1 s.2.2 (aP ((dD f a b).take s.1))) (fun s=>n-s.1) (0,.ai,[]) ⟨⟨bA _,.nil⟩,⟨rfl,rfl,rfl,rfl,aQ lU,rfl,trivial⟩,rfl⟩ ?_
 rintro⟨k,v,acc⟩ s ⟨aK,gp⟩
 have hk:k≤n:=aK
 have bY:Acc 1 k v acc (aP ((dD f a b).take k)):=gp
 clear aK gp
 refine ak (fun ab=>?_) (fun aq=>?_)
 ·have ab:k<n:=by have ab:(k:Int)<n:=ab;omega
  have he:(dD f a b)[k]'(by omega)=f (wd a k) (wd b k):=by rw[← kZ,yY f a b (by omega)]
  refine aw [] (UZ a k _) ?_
  refine aw [] (UZ b k _) ?_
  refine aw [] (hg _ _ _) ?_
  intro aB
  refine jP [_] bY (.af 0 aB 0 1 _ rfl (cI rfl)) rfl (by omega) (by decide) (by decide) (fun v' bD h'=>?_)
  refine aY (k+1,v',bD) (by show n-(k+1)<n-k;omega) ⟨ab,?_⟩ ⟨rfl,rfl,rfl,rfl,rfl,aS (by omega),trivial⟩ (.drop 0 1 (aL rfl))
  show Acc 1 (k+1) v' bD (aP ((dD f a b).take (k+1)))
  rw[ff (by omega),he,aP,cW]
  exact h'
 ·have aq:k=n:=by have aq:¬(k:Int)<n:=aq;omega
  subst aq
  rw[ek (by omega)]at bY
  exact qs (s:=.int .u64) (l:=dD f a b) [] bY nh.symm (by rw[kC]) (by decide) (.done ⟨rfl,rfl⟩)
theorem af4(x y:Int)(σ:Hp):ACalls Tryz.prog 328 [.int .u64 x,.int .u64 y] σ (ay (.int .u64 (iA x y)) σ):=by
 refine ar Tryz.func328 ?_
 exact .done ⟨rfl,rfl⟩
theorem afi(x y:Int)(σ:Hp):ACalls Tryz.prog 308 [.int .u64 x,.int .u64 y] σ (ay (.int .u64 (fL x y)) σ):=by
 refine ar Tryz.func308 ?_
 exact .done ⟨rfl,rfl⟩
theorem agv(a b:List Int)(σ:Hp)(ha:a.length≤100000)(hb:b.length≤100000):ACalls Tryz.prog 300 [.ae (.int .u64) a,.ae (.int .u64) b] σ (ay (.ae (.int .u64) (dD iA a b)) σ):=by
 refine ar Tryz.func300 ?_
 refine aw [] (V6 _ _ af4 a b _ ha hb) ?_
 exact .done ⟨rfl,rfl⟩
theorem VV(a b:List Int)(σ:Hp)(ha:a.length≤100000)(hb:b.length≤100000):ACalls Tryz.prog 284 [.ae (.int .u64) a,.ae (.int .u64) b] σ (ay (.ae (.int .u64) (dD fL a b)) σ):=by
 refine ar Tryz.func284 ?_
 refine aw [] (V6 _ _ afi a b _ ha hb) ?_
 exact .done ⟨rfl,rfl⟩
theorem Nx(n:Nat)(h:n≤100000000):IntKind.i64.wrap ((n:Int).tdiv 64)=((n / 64:Nat):Int):=by
 rw[CD (by omega),IntKind.wrap_i64];omega
theorem Ng(n:Nat):(n:Int).tmod 64=((n % 64:Nat):Int):=by
 rw[uO (by omega)];omega
theorem We(k:Nat)(h:k<64):IntKind.u64.wrap (1*2 ^ min ((k:Nat):Int).toNat IntKind.u64.bits)=((2 ^ k:Nat):Int):=by
 have e:min ((k:Nat):Int).toNat IntKind.u64.bits=k:=by show min k 64=k;omega
 rw[e,Int.one_mul,show ((2:Int) ^ k)=((2 ^ k:Nat):Int) by rw[Int.natCast_pow];rfl]
 exact zb (sl (Nat.pow_lt_pow_right (by decide) h) (a8 _))
theorem Bo{l:List Int}{i:Nat}(h:i<l.length)(x:Int){z:Int}(hz:z=i):kX ⟨.int .u64,1,8,[.int .u64 0]⟩ (aP l) (0+z.toNat*1) (.int .u64 x)=some (aP (l.set i x)):=by
 subst hz
 have e:0+((i:Int)).toNat*1=i:=by omega
 rw[e]
 have h2:Nat.ble (i+1) (aP l).length=true:=Nat.ble_eq_true_of_le (by simp[aP];omega)
 show (match Nat.beq 1 1,Nat.ble (i+1) (aP l).length with | true,true=>some (fV (aP l) i [.int .u64 x]) | _,_=>none)=_
 rw[h2]
 show some ((aP l).set i (.int .u64 x))=_
 simp[aP,List.map_set]
theorem IG{l:List Int}{i:Nat}(h:i<l.length){z:Int}(hz:z=i):ep ⟨.int .u64,1,8,[.int .u64 0]⟩ (aP l) (0+z.toNat*1)=some (.int .u64 (wd l i)):=by
 subst hz
 have e:0+((i:Int)).toNat*1=i:=by omega
 rw[e]
 show (aP l)[i]?=_
 unfold aP wd
 rw[fm,bh h];rfl
theorem R9(w:Int){n:Nat}(h:n<eE w):fZ (fg w) (n+1)=(fZ (fg w) n).set (n / 64) (iA (wd (fZ (fg w) n) (n / 64)) ((2 ^ (n % 64):Nat):Int)):=by
 have hs:(fg w).length=ef w:=np w
 have hl:n<64*(fg w).length:=by rw[hs];unfold ef;omega
 have hb:hasB (fg w) n=true:=by
  unfold hasB
  rw[Dq w (by unfold ef;omega),bC,KF]
  exact aT (by omega)
 rw[LU hl,ah hb]
theorem Tz(w:Int):fZ (fg w) (eE w)=fg w:=by
 refine zc (qm _ _) fun i hi=>?_
 rw[qm]at hi
 rw[zf _ _ hi]
 rw[np]at hi
 rw[Dq w hi,bC,uI]
 have:=Cq (min 64 (eE w-64*i))
 omega
theorem WJ(w:Int)(σ:Hp):ACalls Tryz.prog 203 [.int .i64 w] σ (ay (.ae (.int .u64) (fg w)) σ):=by
 refine ar Tryz.func203 ?_
 have eF:=AW w
 have OY:=HT w
 refine aw [] (HY w _) ?_
 refine bc ?_
 intro q
 refine aw [] (V4 w _) ?_
 refine bQ (S:=Nat) (fun s=>[(3,.af q 0 (ef w) 1),(9,.int .i64 (eE w)),(10,.int .i64 s)]) (fun s=>(q,aP (fZ (fg w) s))::σ) (fun s=>s≤eE w) (fun s=>eE w-s) 0 ⟨bA _,⟨rfl,rfl,rfl,trivial⟩,?_⟩ ?_
 ·show (q,cD [.int .u64 0] (((ef w:Nat):Int)).toNat)::σ=(q,aP (fZ (fg w) 0))::σ
  rw[Hd,np,bC,xv]
 intro n g fI
 have hn:n≤eE w:=fI
 clear fI
 refine ak (fun ab=>?_) (fun aq=>?_)
 ·have ab:n<eE w:=by have ab:(n:Int)<eE w:=ab;omega
  have hi:n / 64<(fZ (fg w) n).length:=by rw[qm,np];unfold ef;omega
  have qY:n / 64<ef w:=by unfold ef;omega
  have hd:=Nx n (by omega)
  have hm:=Ng n
  refine .sched [] (upto [] 11 0) (by kernel_rfl) ?_
  refine eD ?_
  refine aM ?_
  refine bf 0 rfl (IG hi hd) ?_
  have Gj:=We (n % 64) (by omega)
  rw[← hm]at Gj
  refine eD ?_
  refine eD ?_
  refine aM ?_
  refine cT 0 rfl (Bo hi _ hd) ?_
  refine aY (n+1) (by show eE w-(n+1)<eE w-n;omega) ab ⟨rfl,rfl,aS (by omega),trivial⟩ (aL ?_)
  rw[R9 w ab,← Gj]
  rfl
 ·have aq:n=eE w:=by have aq:¬(n:Int)<eE w:=aq;omega
  subst aq
  rw[Tz]
  exact .cJ 0 q 0 (ef w) 1 _ (.int .u64) (fg w) rfl (by rw[List.drop_zero,← kC];exact List.take_of_length_le (by simp[aP,np])) ⟨np w,rfl,by decide⟩ .here (.done ⟨rfl,rfl⟩)
def oU(a:List Int):Nat:=(a.map fun z=>ub z.toNat).sum
theorem aeM(a:List Int):oU a≤64*a.length:=by
 unfold oU
 induction a with
 |nil=>simp
 |cons x a ih=>have:=ae3 x.toNat;simp only[pq,Kb,ik];omega
theorem aaF(a:List Int){k:Nat}(h:k<a.length):oU (a.take (k+1))=oU (a.take k)+ub (a[k]).toNat:=by
 unfold oU
 rw[List.take_succ_eq_append_getElem h,List.map_append,List.sum_append];simp
theorem aaE{a:List Int}(ha:aR a):oU a=0↔∀i,i<a.length→wd a i=0:=by
 unfold oU
 rw[List.sum_eq_zero_iff_forall_eq_nat]
 constructor
 ·intro h i hi
  have h1:=h _ (dT.2 ⟨a[i],bP hi,rfl⟩)
  have:=aa0 (uc (ha _ (bP hi))) h1
  have hw:=y4 (ha _ (bP hi))
  rw[kZ a hi,← hw,this];rfl
 ·intro h x hx
  obtain⟨z,hz,rfl⟩:=dT.1 hx
  obtain⟨i,hi,rfl⟩:=uL.1 hz
  have:=h i hi
  rw[kZ a hi]at this
  rw[this];rfl
theorem ahw{a b:Nat}(h:a+b<1000000000):IntKind.i64.wrap ((a:Int)+(b:Int))=((a+b:Nat):Int):=by rw[IntKind.wrap_i64];omega
theorem agL(a:List Int)(σ:Hp)(hl:a.length≤100000)(ha:aR a):ACalls Tryz.prog 283 [.ae (.int .u64) a] σ (ay (.int .i64 (oU a)) σ):=by
 refine ar Tryz.func283 ?_
 refine bQ (S:=Nat) (fun s=>[(3,.int .i64 (oU (a.take s))),(6,.ae (.int .u64) a),(7,.int .i64 a.length),(8,.int .i64 s)]) (fun _=>σ) (fun s=>s≤a.length) (fun s=>a.length-s) 0 ⟨bA _,⟨rfl,rfl,rfl,rfl,trivial⟩,rfl⟩ ?_
 intro k g aK
 have hk:k≤a.length:=aK
 clear aK
 refine ak (fun ab=>?_) (fun aq=>?_)
 ·have ab:k<a.length:=by have ab:(k:Int)<a.length:=ab;omega
  refine aG.mk rfl (bE.mk a[k] (by omega) (get_some ab) ?_)
  refine aw [] (ahD (ha _ (bP ab)) _) ?_
  have h1:=aeM (a.take (k+1))
  have h2:=aaF a ab
  rw[sk]at h1
  refine aY (k+1) (by show a.length-(k+1)<a.length-k;omega) ab ⟨aQ (by rw[h2];exact ahw (by omega)),rfl,rfl,aS (by omega),trivial⟩ (.refl _)
 ·have aq:k=a.length:=by have aq:¬(k:Int)<a.length:=aq;omega
  subst aq
  rw[fA]
  exact .done ⟨rfl,rfl⟩
theorem AX(a b:List Int):aR (dD fL a b):=DU fun _ _=>Ip _ _
theorem aeV(a b:List Int)(σ:Hp)(ha:a.length≤10000)(hb:b.length≤10000):ACalls Tryz.prog 249 [.ae (.int .u64) a,.ae (.int .u64) b] σ (ay (.bool (decide (oU (dD fL a b)=0))) σ):=by
 refine ar Tryz.func249 ?_
 refine aw [] (VV a b _ (by omega) (by omega)) ?_
 refine aw [] (agL _ _ (by rw[ql];omega) (AX a b)) ?_
 refine ak (fun c=>?_) (fun c=>?_)
 ·have c:oU (dD fL a b)=0:=by have c:((oU (dD fL a b):Nat):Int)=0:=c;omega
  exact .done ⟨cy (aT c).symm,rfl⟩
 ·have c:oU (dD fL a b)≠0:=by have c:¬((oU (dD fL a b):Nat):Int)=0:=c;omega
  exact .done ⟨cy (bS c).symm,rfl⟩
theorem X5{a:List Int}{w:Int}(l8:aR a)(hl:a.length=ef w):decide (oU (dD fL a (fg w))=0)=gE a w:=by
 rw[Bool.eq_iff_iff,decide_eq_true_eq,aaE (AX _ _),aau l8 hl,ql,np,hl,Nat.max_self]
 refine⟨fun h i hi=>?_,fun h i hi=>?_⟩
 ·rw[← yY fL a (fg w) (by rw[hl];omega)];exact h i hi
 ·rw[yY fL a (fg w) (by rw[hl];omega)];exact h i hi
theorem DS(a:List Int)(w:Int)(σ:Hp)(l8:aR a)(ha:a.length≤10000):ACalls Tryz.prog 199 [.ae (.int .u64) a,.int .i64 w] σ (ay (.bool (gE a w)) σ):=by
 refine ar Tryz.func199 ?_
 refine aw [] (HY w _) ?_
 have eF:=AW w
 refine ak (fun c=>?_) (fun c=>?_)
 ·have c:a.length=ef w:=by have c:(a.length:Int)=ef w:=c;omega
  refine aw [] (WJ w _) ?_
  refine aw [] (aeV a _ _ ha (by rw[np];omega)) ?_
  exact .done ⟨cy (X5 l8 c),rfl⟩
 ·have c:a.length≠ef w:=by have c:¬(a.length:Int)=ef w:=c;omega
  have hf:gE a w=false:=by unfold gE;rw[bS c];rfl
  rw[hf]
  exact .done ⟨rfl,rfl⟩
theorem U0(n:Int)(σ:Hp):ACalls Tryz.prog 165 [.int .i64 n] σ (ay (.int .i64 (eE n)) σ):=by
 refine ar Tryz.func165 ?_
 exact .done ⟨aQ (TL n),rfl⟩
theorem ZW(n:Int):(IntKind.i64.wrap ((eE n:Nat)+63)).tdiv 64=((ef n:Nat):Int):=by
 have:=HT n
 rw[IntKind.wrap_i64]
 unfold ef
 rw[CD (by omega)]
 omega
theorem VR(n:Int)(σ:Hp):ACalls Tryz.prog 115 [.int .i64 n] σ (ay (.int .i64 (ef n)) σ):=by
 refine ar Tryz.func115 ?_
 refine aw [] (U0 n _) ?_
 refine aG.mk (by decide) ?_
 exact .done ⟨aQ (by rw[ZW,Rv]),rfl⟩
theorem aew{x:Int}(ha:bG x){k:Nat}(h:k<64){z:Int}(hz:z=k):(bits .and .u64 (x.fdiv (2 ^ min z.toNat IntKind.u64.bits)) 1=1)↔x.toNat.testBit k=true:=by
 subst hz
 have e:min ((k:Int)).toNat IntKind.u64.bits=k:=by show min k 64=k;omega
 have hw:=y4 ha
 rw[← hw,Ho _ _ _ e]
 have ab:=uc ha
 rw[show (1:Int)=((1:Nat):Int) from rfl,rp (yx (Nat.div_le_self _ _) ab) (by decide)]
 rw[bC,Nat.and_one_is_mod,Nat.testBit_eq_decide_div_mod_eq,decide_eq_true_eq]
 omega
theorem IS(a:List Int)(n:Nat)(σ:Hp)(l8:aR a)(hn:n≤1000000):ACalls Tryz.prog 178 [.ae (.int .u64) a,.int .i64 n] σ (ay (.bool (hasB a n)) σ):=by
 refine ar Tryz.func178 ?_
 have hd:=Nx n (by omega)
 have hm:=Ng n
 refine eD ?_
 refine ak (fun c1=>?_) (fun c1=>?_)
 ·have c1:IntKind.i64.wrap ((↑n:Int).tdiv 64)<(↑a.length:Int):=c1
  refine eD ?_
  have hi:n / 64<a.length:=by omega
  refine aG.mk rfl (bE.mk a[n / 64] (by omega) (by rw[hd];exact get_some hi) ?_)
  have hq:=aew (ha:=l8 _ (bP hi)) (k:=n % 64) (by omega) hm
  have hb:hasB a n=a[n / 64].toNat.testBit (n % 64):=by unfold hasB;rw[kZ a hi]
  refine eD ?_
  refine eD ?_
  refine ak (fun c2=>.done ⟨cy ?_,rfl⟩) (fun c2=>.done ⟨cy ?_,rfl⟩)
  ·rw[hb];exact (hq.1 c2).symm
  ·rw[hb];exact (F7.2 fun h=>c2 (hq.2 h)).symm
 ·have c1:¬(IntKind.i64.wrap ((↑n:Int).tdiv 64)<(↑a.length:Int)):=c1
  have hb:hasB a n=false:=by unfold hasB;rw[yZ (by omega)];simp
  rw[hb]
  exact .done ⟨rfl,rfl⟩
theorem M4(l:List Int)(n q len:Nat)(σ:Hp)(hl:l.length=len)(hm:len≤10000)(hn:n / 64<len):ACalls Tryz.prog 280 [.af q 0 len 1,.int .i64 n] ((q,aP l)::σ) (fun r σ'=>∃b,r=.af b 0 len 1∧σ'=(b,aP (l.set (n / 64) (iA (wd l (n / 64)) ((2 ^ (n % 64):Nat):Int))))::(q,aP l)::σ):=by
 refine ar Tryz.func280 ?_
 have hd:=Nx n (by omega)
 have hm:=Ng n
 intro aB
 have aim:(aP l).length=len*1:=by simp[aP,hl]
 have hle:0+len*1≤(aP l).length:=by omega
 have iX:((aP l).drop 0).take (len*1)=aP l:=ek (by rw[gz];omega)
 refine jP [] (acc:=[(aB,[])]) (k:=0) (cs:=[]) (n:=len) (.af aB 0 [] rfl) (.af 1 q 0 len (aP l) rfl hle) (by rw[iX];exact aim) (by omega) (by decide) (by decide) (fun v' bD h'=>?_)
 rw[dR,iX,uH]at h'
 generalize jB:aP l=cs at h'
 cases h' with
 |nil=>omega
 |af b k cs h=>
 subst jB
 have hi:n / 64<l.length:=by omega
 refine .sched [] (upto [] 14 0) (by kernel_rfl) ?_
 refine eD ?_
 refine eD ?_
 refine aM ?_
 refine bf 0 rfl (IG hi hd) ?_
 have Gj:=We (n % 64) (by omega)
 rw[← hm]at Gj
 refine eD ?_
 refine eD ?_
 refine aM ?_
 refine cT 0 rfl (Bo hi _ hd) ?_
 rw[← Gj]
 exact .done ⟨_,rfl,rfl⟩
set_option maxHeartbeats 4000000 in
theorem afy(a b:List Int)(σ:Hp)(ha:aR a)(hb:aR b)(la:a.length≤10000)(lb:b.length≤10000):ACalls Tryz.prog 263 [.ae (.int .u64) a,.ae (.int .u64) b,.int .i64 1] σ (ay (.ae (.int .u64) (dD iA a b)) σ):=by
 refine ar Tryz.func263 ?_
 obtain⟨n,hn⟩:∃n,n=max a.length b.length:=⟨_,rfl⟩
 have lU:(if (a.length:Int)<b.length then (b.length:Int) else a.length)=(n:Int):=by split <;> omega
 have hT:(dD iA a b).length=n:=by rw[ql,hn]
 have N5:aR (dD iA a b):=DU fun _ _=>Vs _ _
 have N3:∀k,k<64*n→hasB (dD iA a b) k=((hasB a k).or (hasB b k)):=fun k hk=>by
  unfold hasB
  rw[yY iA a b (by omega)]
  exact Mu (lp ha _) (lp hb _) _
 have hM:(0:Int)≤(if (a.length:Int)<b.length then (b.length:Int) else a.length)∧(if (a.length:Int)<b.length then (b.length:Int) else a.length)≤1048576:=by rw[lU];omega
 refine aG.mk ⟨hM.1,jL _,hM.2,by decide⟩ ?_
 intro q
 refine bQ (S:=Nat×Nat) (fun s=>[(0,.ae (.int .u64) a),(1,.ae (.int .u64) b),(2,.int .i64 1),(7,.af s.2 0 n 1),(8,.int .i64 s.1)]) (fun s=>(s.2,aP (fZ (dD iA a b) s.1))::σ) (fun s=>s.1≤64*n) (fun s=>64*n-s.1) (0,q) ⟨bA _,⟨rfl,rfl,rfl,?_,rfl,trivial⟩,?_⟩ ?_
 ·show AV.af q 0 (if (a.length:Int)<b.length then (b.length:Int) else a.length).toNat 1=.af q 0 n 1
  rw[lU,bC]
 ·show (q,cD [.int .u64 0] (if (a.length:Int)<b.length then (b.length:Int) else a.length).toNat)::σ=(q,aP (fZ (dD iA a b) 0))::σ
  rw[lU,bC,Hd,hT,xv]
 rintro⟨k,p⟩ g aK
 have hk:k≤64*n:=aK
 clear aK
 have hlen:(fZ (dD iA a b) k).length=n:=by rw[qm,hT]
 refine ak (fun ab=>?_) (fun aq=>?_)
 ·have ab:k<64*n:=by
   have ab:(k:Int)<IntKind.i64.wrap (64*(n:Int)):=ab
   rw[IntKind.wrap_i64]at ab;omega
  have hs:=LU (T:=dD iA a b) (n:=k) (by omega)
  have p9:=N3 k ab
  refine dC [] (IS a k _ ha (by omega)) (fun cA=>?_) (fun cA=>?_) <;> refine dC [] (IS b k _ hb (by omega)) (fun cB=>?_) (fun cB=>?_) <;> rw[cA,cB]at p9 <;> rw[p9]at hs
  all_goals first
   |(refine .mk [] _ (M4 _ k _ _ _ hlen (by omega) (by omega)) ?_
     rintro r σ' ⟨b',rfl,rfl⟩
     refine aY (k+1,b') (by show 64*n-(k+1)<64*n-k;omega) ab ⟨rfl,rfl,rfl,rfl,aS (by omega),trivial⟩ (.drop 1 1 (aL ?_))
     rw[hs.trans (ah rfl)]
     rfl)
   |(refine aY (k+1,p) (by show 64*n-(k+1)<64*n-k;omega) ab ⟨rfl,rfl,rfl,rfl,aS (by omega),trivial⟩ (aL ?_)
     rw[hs.trans (ag (by decide))]
     rfl)
 ·have aq:k=64*n:=by
   have aq:¬(k:Int)<IntKind.i64.wrap (64*(n:Int)):=aq
   rw[IntKind.wrap_i64]at aq;omega
  subst aq
  rw[← hT,Ut N5]
  exact .cJ 0 p 0 _ 1 _ (.int .u64) (dD iA a b) rfl (by rw[List.drop_zero,← kC];exact List.take_of_length_le (by simp[aP];exact Nat.le_refl _)) ⟨rfl,rfl,by decide⟩ .here (.done ⟨rfl,rfl⟩)
set_option maxHeartbeats 4000000 in
theorem afx(a b:List Int)(σ:Hp)(ha:aR a)(hb:aR b)(la:a.length≤10000)(lb:b.length≤10000):ACalls Tryz.prog 263 [.ae (.int .u64) a,.ae (.int .u64) b,.int .i64 3] σ (ay (.ae (.int .u64) (dD fL a b)) σ):=by
 refine ar Tryz.func263 ?_
 obtain⟨n,hn⟩:∃n,n=max a.length b.length:=⟨_,rfl⟩
 have lU:(if (a.length:Int)<b.length then (b.length:Int) else a.length)=(n:Int):=by split <;> omega
 have hT:(dD fL a b).length=n:=by rw[ql,hn]
 have N5:aR (dD fL a b):=DU fun _ _=>Ip _ _
 have N3:∀k,k<64*n→hasB (dD fL a b) k=((hasB a k).and (!hasB b k)):=fun k hk=>by
  unfold hasB
  rw[yY fL a b (by omega)]
  exact HX (lp ha _) (lp hb _) (by omega)
 have hM:(0:Int)≤(if (a.length:Int)<b.length then (b.length:Int) else a.length)∧(if (a.length:Int)<b.length then (b.length:Int) else a.length)≤1048576:=by rw[lU];omega
 refine aG.mk ⟨hM.1,jL _,hM.2,by decide⟩ ?_
 intro q
 refine bQ (S:=Nat×Nat) (fun s=>[(0,.ae (.int .u64) a),(1,.ae (.int .u64) b),(2,.int .i64 3),(7,.af s.2 0 n 1),(8,.int .i64 s.1)]) (fun s=>(s.2,aP (fZ (dD fL a b) s.1))::σ) (fun s=>s.1≤64*n) (fun s=>64*n-s.1) (0,q) ⟨bA _,⟨rfl,rfl,rfl,?_,rfl,trivial⟩,?_⟩ ?_
 ·show AV.af q 0 (if (a.length:Int)<b.length then (b.length:Int) else a.length).toNat 1=.af q 0 n 1
  rw[lU,bC]
 ·show (q,cD [.int .u64 0] (if (a.length:Int)<b.length then (b.length:Int) else a.length).toNat)::σ=(q,aP (fZ (dD fL a b) 0))::σ
  rw[lU,bC,Hd,hT,xv]
 rintro⟨k,p⟩ g aK
 have hk:k≤64*n:=aK
 clear aK
 have hlen:(fZ (dD fL a b) k).length=n:=by rw[qm,hT]
 refine ak (fun ab=>?_) (fun aq=>?_)
 ·have ab:k<64*n:=by
   have ab:(k:Int)<IntKind.i64.wrap (64*(n:Int)):=ab
   rw[IntKind.wrap_i64]at ab;omega
  have hs:=LU (T:=dD fL a b) (n:=k) (by omega)
  have p9:=N3 k ab
  refine dC [] (IS a k _ ha (by omega)) (fun cA=>?_) (fun cA=>?_) <;> refine dC [] (IS b k _ hb (by omega)) (fun cB=>?_) (fun cB=>?_) <;> rw[cA,cB]at p9 <;> rw[p9]at hs
  all_goals first
   |(refine .mk [] _ (M4 _ k _ _ _ hlen (by omega) (by omega)) ?_
     rintro r σ' ⟨b',rfl,rfl⟩
     refine aY (k+1,b') (by show 64*n-(k+1)<64*n-k;omega) ab ⟨rfl,rfl,rfl,rfl,aS (by omega),trivial⟩ (.drop 1 1 (aL ?_))
     rw[hs.trans (ah rfl)]
     rfl)
   |(refine aY (k+1,p) (by show 64*n-(k+1)<64*n-k;omega) ab ⟨rfl,rfl,rfl,rfl,aS (by omega),trivial⟩ (aL ?_)
     rw[hs.trans (ag (by decide))]
     rfl)
 ·have aq:k=64*n:=by
   have aq:¬(k:Int)<IntKind.i64.wrap (64*(n:Int)):=aq
   rw[IntKind.wrap_i64]at aq;omega
  subst aq
  rw[← hT,Ut N5]
  exact .cJ 0 p 0 _ 1 _ (.int .u64) (dD fL a b) rfl (by rw[List.drop_zero,← kC];exact List.take_of_length_le (by simp[aP];exact Nat.le_refl _)) ⟨rfl,rfl,by decide⟩ .here (.done ⟨rfl,rfl⟩)
def aE(n:Int):Int:=(n+32768) % 65536-32768
theorem xj(n:Int): -32768≤aE n:=by unfold aE;omega
theorem xk(n:Int):aE n≤32767:=by unfold aE;omega
theorem QO(n:Int):(0≤n∧n.tmod 65536=n % 65536)∨(n<0∧n.tmod 65536 = -((-n) % 65536)):=by
 by_cases h:0≤n
 ·exact .inl ⟨h,uO h⟩
 ·refine .inr ⟨by omega,?_⟩
  have:=Int.neg_tmod (-n) 65536
  rw[Int.neg_neg,uO (a:= -n) (by omega)]at this
  exact this
theorem Ie(n:Int)(σ:Hp):ACalls Tryz.prog 335 [.int .i64 n] σ (ay (.int .i64 (aE n)) σ):=by
 refine ar Tryz.func335 ?_
 have hc:=QO n
 refine eD ?_
 refine ak (fun h1=>?_) (fun h1=>?_)
 ·have h1:32767<n.tmod 65536:=h1
  exact .done ⟨aQ (by rw[IntKind.wrap_i64];unfold aE;omega),rfl⟩
 ·have h1:¬(32767<n.tmod 65536):=h1
  refine ak (fun h2=>?_) (fun h2=>?_)
  ·have h2:n.tmod 65536 < -32768:=h2
   exact .done ⟨aQ (by rw[IntKind.wrap_i64];unfold aE;omega),rfl⟩
  ·have h2:¬(n.tmod 65536 < -32768):=h2
   exact .done ⟨aQ (by unfold aE;omega),rfl⟩
theorem Vl(n:Int)(σ:Hp):ACalls Tryz.prog 261 [.int .i64 n] σ (ay (.int .i64 (aE n)) σ):=by
 refine ar Tryz.func261 ?_
 have hc:=QO n
 have e:IntKind.i64.wrap (n.tmod 65536+98304)=n.tmod 65536+98304:=by rw[IntKind.wrap_i64];omega
 have e2:(n.tmod 65536+98304).tmod 65536=(n.tmod 65536+98304) % 65536:=uO (by omega)
 refine eD ?_
 refine eD ?_
 exact .done ⟨aQ (by rw[e,e2,IntKind.wrap_i64];unfold aE;omega),rfl⟩
abbrev nC(x y:Int):List AV:=[.int .i64 x,.int .i64 y]
theorem EU(a b:Int)(σ:Hp):ACalls Tryz.prog 309 [.int .i64 a,.int .i64 b] σ (ay (.agg (nC (aE a) (aE b))) σ):=by
 refine ar Tryz.func309 ?_
 intro b1
 refine aw [] (Ie _ _) ?_
 refine aw [] (Ie _ _) ?_
 refine aj 0 ?_
 refine aa 0 ?_
 exact .drop 0 1 (.done ⟨rfl,rfl⟩)
theorem xQ(a b:Int)(σ:Hp):ACalls Tryz.prog 223 [.int .i64 a,.int .i64 b] σ (ay (.agg (nC (aE a) (aE b))) σ):=by
 refine ar Tryz.func223 ?_
 intro b1
 refine aw [] (Vl _ _) ?_
 refine aw [] (Vl _ _) ?_
 refine aj 0 ?_
 refine aa 0 ?_
 exact .drop 0 1 (.done ⟨rfl,rfl⟩)
theorem aix(x y:Int)(σ:Hp):ACalls Tryz.prog 286 [.agg (nC x y)] σ (ay (.bool (decide (x=aE x)&&decide (y=aE y))) σ):=by
 refine ar Tryz.func286 ?_
 intro aB
 refine .quiet (by kernel_rfl) ?_
 refine aa 0 ?_
 refine aa 0 ?_
 refine aa 0 ?_
 refine aI [] (EU _ _ _) ?_
 refine EqAt.mk (by kernel_rfl) (by kernel_rfl) ?_
 have e:fP (tU (nC x y) (nC (aE x) (aE y)))=(decide (x=aE x)&&decide (y=aE y)):=by
  show (decide (x=aE x)&&(decide (y=aE y)&&true))=_
  rw[Ka]
 rw[← e]
 refine cX (fun c=>?_) (fun c=>?_)
 ·have c:fP (tU (nC x y) (nC (aE x) (aE y)))=true:=c
  rw[c]
  exact .drop 0 1 (.done ⟨rfl,rfl⟩)
 ·have c:fP (tU (nC x y) (nC (aE x) (aE y)))=false:=c
  rw[c]
  exact .drop 0 1 (.done ⟨rfl,rfl⟩)
theorem yX(x y:Int)(σ:Hp):ACalls Tryz.prog 364 [.agg (nC x y)] σ (ay (.gb (aE x) (aE y)) σ):=by
 have h1:=xj x
 have h2:=xk x
 have h3:=xj y
 have h4:=xk y
 refine ar Tryz.func364 ?_
 intro aB
 refine aa 0 ?_
 refine aa 0 ?_
 refine aw [] (EU _ _ _) ?_
 refine aj 0 ?_
 refine aa 0 ?_
 refine .mk (by unfold iw;omega) ?_
 refine aa 0 ?_
 refine .mk (by unfold iw;omega) ?_
 exact .drop 0 1 (.done ⟨rfl,rfl⟩)
theorem Vw{x:Int}(h:iw x):IntKind.i64.min≤x∧x≤IntKind.i64.max:=by
 unfold iw at h
 have e1:IntKind.i64.min = -9223372036854775808:=by decide
 have e2:IntKind.i64.max=9223372036854775807:=by decide
 rw[e1,e2];omega
theorem Ig(x y:Int)(σ:Hp)(hx:iw x)(hy:iw y):ACalls Tryz.prog 363 [.gb x y] σ (ay (.agg (nC (aE x) (aE y))) σ):=by
 refine ar Tryz.func363 ?_
 intro aB
 refine .mk (Vw hx) ?_
 refine .mk (Vw hy) ?_
 refine aw [] (EU _ _ _) ?_
 refine aj 0 ?_
 refine aa 0 ?_
 exact .drop 0 1 (.done ⟨rfl,rfl⟩)
theorem G0{a b:Int}(ha : -32768≤a∧a≤32768)(hb : -32768≤b∧b≤32768): -1073741824≤a*b∧a*b≤1073741824:=by
 have h1:a.natAbs*b.natAbs≤32768*32768:=uF (by omega) (by omega)
 rw[← Kf]at h1
 omega
theorem DY(a b c d:Int):(-32768≤aE a∧aE a≤32767)∧(-32768≤aE b∧aE b≤32767)∧(-32768≤aE c∧aE c≤32767)∧-32768≤aE d∧aE d≤32767:=
 ⟨⟨xj a,xk a⟩,⟨xj b,xk b⟩,⟨xj c,xk c⟩,xj d,xk d⟩
theorem WU(a b c d:Int):(-1073741824≤aE a*aE c∧aE a*aE c≤1073741824)∧(-1073741824≤aE b*aE d∧aE b*aE d≤1073741824)∧(-1073741824≤aE a*aE d∧aE a*aE d≤1073741824)∧-1073741824≤aE b*aE c∧aE b*aE c≤1073741824:=by
 have h:=DY a b c d
 exact⟨G0 (by omega) (by omega),G0 (by omega) (by omega),G0 (by omega) (by omega),G0 (by omega) (by omega)⟩
theorem ahm(a b c d:Int)(σ:Hp):ACalls Tryz.prog 356 [.agg (nC a b),.agg (nC c d)] σ (ay (.agg (nC (aE (aE a+aE c)) (aE (aE b+aE d)))) σ):=by
 have hF:=DY a b c d
 refine ar Tryz.func356 ?_
 intro aB
 intro dc
 intro qj
 refine .sched [1,3,5] (upto [1,3,5] 7 0) (by kernel_rfl) ?_
 refine aa 2 ?_
 refine aI [] (yX _ _ _) ?_
 refine aa 1 ?_
 refine aI [] (yX _ _ _) ?_
 refine .mk (by unfold iw;omega) ?_
 refine aI [] (Ig _ _ _ (by unfold iw;omega) (by unfold iw;omega)) ?_
 refine aj 0 ?_
 refine aa 0 ?_
 exact .drop 0 3 (.done ⟨rfl,rfl⟩)
theorem ahk(a b c d:Int)(σ:Hp):ACalls Tryz.prog 357 [.agg (nC a b),.agg (nC c d)] σ (ay (.agg (nC (aE (aE a-aE c)) (aE (aE b-aE d)))) σ):=by
 have hF:=DY a b c d
 refine ar Tryz.func357 ?_
 intro aB
 intro dc
 intro qj
 refine .sched [1,3,5] (upto [1,3,5] 7 0) (by kernel_rfl) ?_
 refine aa 2 ?_
 refine aI [] (yX _ _ _) ?_
 refine aa 1 ?_
 refine aI [] (yX _ _ _) ?_
 refine .mk (by unfold iw;omega) ?_
 refine aI [] (Ig _ _ _ (by unfold iw;omega) (by unfold iw;omega)) ?_
 refine aj 0 ?_
 refine aa 0 ?_
 exact .drop 0 3 (.done ⟨rfl,rfl⟩)
theorem ahl(a b c d:Int)(σ:Hp):ACalls Tryz.prog 358 [.agg (nC a b),.agg (nC c d)] σ (ay (.agg (nC (aE (aE a*aE c-aE b*aE d)) (aE (aE a*aE d+aE b*aE c)))) σ):=by
 have hF:=WU a b c d
 refine ar Tryz.func358 ?_
 intro aB
 intro dc
 intro qj
 refine .sched [1,3,5] (upto [1,3,5] 7 0) (by kernel_rfl) ?_
 refine aa 2 ?_
 refine aI [] (yX _ _ _) ?_
 refine aa 1 ?_
 refine aI [] (yX _ _ _) ?_
 refine .mk (by unfold iw;omega) ?_
 refine aI [] (Ig _ _ _ (by unfold iw;omega) (by unfold iw;omega)) ?_
 refine aj 0 ?_
 refine aa 0 ?_
 exact .drop 0 3 (.done ⟨rfl,rfl⟩)
theorem agc(a b:Int)(σ:Hp):ACalls Tryz.prog 359 [.agg (nC a b)] σ (ay (.agg (nC (aE (aE a)) (aE (-aE b)))) σ):=by
 have hF:=DY a b 0 0
 refine ar Tryz.func359 ?_
 intro aB
 intro dc
 refine aa 1 ?_
 refine aw [] (yX _ _ _) ?_
 refine aw [] (Ig _ _ _ (by unfold iw;omega) (by unfold iw;omega)) ?_
 refine aj 0 ?_
 refine aa 0 ?_
 exact .drop 0 2 (.done ⟨rfl,rfl⟩)
def iP(op a b c d:Int):Option (Int×Int):=
 if op=0 then some (aE a,aE b) else
 if op=1 then some (aE (aE a+aE c),aE (aE b+aE d)) else
 if op=2 then some (aE (aE a-aE c),aE (aE b-aE d)) else
 if op=3 then some (aE (aE a*aE c-aE b*aE d),aE (aE a*aE d+aE b*aE c)) else
 if op=4 then some (aE (aE a),aE (-aE b)) else none
def uq(r:Option (Int×Int))(ok err:AV):AV:=match r with | some (x,y)=>.tup [.agg (nC x y),ok] | none=>.tup [.agg (nC 0 0),err]
theorem N8(op a b c d:Int)(σ:Hp):ACalls Tryz.prog 344 [.int .i64 op,.agg (nC a b),.agg (nC c d)] σ (ay (uq (iP op a b c d) (.int .i64 0) (.int .i64 10)) σ):=by
 refine ar Tryz.func344 ?_
 intro aB
 intro dc
 intro qj
 intro KV
 refine ak (fun c5=>?_) (fun c5=>?_)
 ·have c5:op=0:=c5
  refine aa 3 ?_
  refine aa 3 ?_
  refine aw [] (EU _ _ _) ?_
  refine aj 0 ?_
  refine .fwd 1 ?_
  refine aa 0 ?_
  refine aj 1 ?_
  refine aa 1 ?_
  exact .drop 0 4 (.done ⟨(by simp[iP,uq, *];rfl),rfl⟩)
 ·have c5:¬(op=0):=c5
  refine ak (fun c6=>?_) (fun c6=>?_)
  ·have c6:op=1:=c6
   refine aa 3 ?_
   refine aa 2 ?_
   refine aw [] (ahm _ _ _ _ _) ?_
   refine aj 0 ?_
   refine .fwd 1 ?_
   refine aa 0 ?_
   refine aj 1 ?_
   refine aa 1 ?_
   exact .drop 0 4 (.done ⟨(by simp[iP,uq, *];rfl),rfl⟩)
  ·have c6:¬(op=1):=c6
   refine ak (fun c7=>?_) (fun c7=>?_)
   ·have c7:op=2:=c7
    refine aa 3 ?_
    refine aa 2 ?_
    refine aw [] (ahk _ _ _ _ _) ?_
    refine aj 0 ?_
    refine .fwd 1 ?_
    refine aa 0 ?_
    refine aj 1 ?_
    refine aa 1 ?_
    exact .drop 0 4 (.done ⟨(by simp[iP,uq, *];rfl),rfl⟩)
   ·have c7:¬(op=2):=c7
    refine ak (fun c8=>?_) (fun c8=>?_)
    ·have c8:op=3:=c8
     refine aa 3 ?_
     refine aa 2 ?_
     refine aw [] (ahl _ _ _ _ _) ?_
     refine aj 0 ?_
     refine .fwd 1 ?_
     refine aa 0 ?_
     refine aj 1 ?_
     refine aa 1 ?_
     exact .drop 0 4 (.done ⟨(by simp[iP,uq, *];rfl),rfl⟩)
    ·have c8:¬(op=3):=c8
     refine ak (fun c9=>?_) (fun c9=>?_)
     ·have c9:op=4:=c9
      refine aa 3 ?_
      refine aw [] (agc _ _ _) ?_
      refine aj 0 ?_
      refine .fwd 1 ?_
      refine aa 0 ?_
      refine aj 1 ?_
      refine aa 1 ?_
      exact .drop 0 4 (.done ⟨(by simp[iP,uq, *];rfl),rfl⟩)
     ·have c9:¬(op=4):=c9
      refine aj 1 ?_
      refine aa 1 ?_
      exact .drop 0 4 (.done ⟨(by simp[iP,uq, *];rfl),rfl⟩)
def pI(x y:Int):Int:=aE x % 65536+65536*(aE y % 65536)
theorem De(x y:Int):0≤pI x y:=by unfold pI;omega
theorem Hc(x y:Int):pI x y<4294967296:=by unfold pI;omega
theorem WO(n:Int):IntKind.u16.wrap n=n % 65536:=by simp[IntKind.wrap,IntKind.bits,IntKind.signed]
theorem Vq(k:Nat){a b:Nat}(ha:a<2 ^ k)(hb:2 ^ k*b<18446744073709551616)(hk:2 ^ k<18446744073709551616):bits .or .u64 (a:Int) ((2 ^ k*b:Nat):Int)=((2 ^ k*b+a:Nat):Int):=by
 rw[tB (by omega) hb,Nat.or_comm,PH ha b]
theorem adt(x y:Int):bits BinOp.or IntKind.u64 (IntKind.u64.wrap (IntKind.u16.wrap (aE x))) (IntKind.u64.wrap (IntKind.u64.wrap (IntKind.u16.wrap (aE y))*2 ^ min (Int.toNat 16) IntKind.u64.bits))=pI x y:=by
 have e:(2:Int) ^ min (Int.toNat 16) IntKind.u64.bits=65536:=by decide
 rw[e,WO,WO,IntKind.wrap_u64,IntKind.wrap_u64,IntKind.wrap_u64]
 unfold pI
 generalize aE x=p
 generalize aE y=q
 have h:=Vq 16 (a:=(p % 65536).toNat) (b:=(q % 65536).toNat) (by omega) (by omega) (by decide)
 have e1:(((p % 65536).toNat:Nat):Int)=p % 65536 % 18446744073709551616:=by omega
 have e2:((2 ^ 16*(q % 65536).toNat:Nat):Int)=q % 65536 % 18446744073709551616*65536 % 18446744073709551616:=by omega
 rw[e1,e2]at h
 rw[h];omega
theorem abc(x y:Int):IntKind.u64.wrap (IntKind.u64.wrap ((IntKind.i64.wrap (aE x+65536)).tmod 65536)+IntKind.u64.wrap (65536*IntKind.u64.wrap ((IntKind.i64.wrap (aE y+65536)).tmod 65536)))=pI x y:=by
 have h1:=xj x
 have h2:=xk x
 have h3:=xj y
 have h4:=xk y
 unfold pI
 rw[IntKind.wrap_i64,IntKind.wrap_i64,uO (by omega),uO (by omega),IntKind.wrap_u64,IntKind.wrap_u64,IntKind.wrap_u64,IntKind.wrap_u64]
 omega
theorem agb(x y:Int)(σ:Hp):ACalls Tryz.prog 342 [.agg (nC x y)] σ (ay (.int .u64 (pI x y)) σ):=by
 refine ar Tryz.func342 ?_
 intro aB
 refine .quiet (by kernel_rfl) ?_
 refine aa 0 ?_
 refine aI [] (Ie _ _) ?_
 refine aa 0 ?_
 refine aI [] (Ie _ _) ?_
 refine eD ?_
 exact .drop 0 1 (.done ⟨aQ (adt x y),rfl⟩)
theorem afO(x y:Int)(σ:Hp):ACalls Tryz.prog 326 [.agg (nC x y)] σ (ay (.int .u64 (pI x y)) σ):=by
 refine ar Tryz.func326 ?_
 intro aB
 refine aa 0 ?_
 refine aa 0 ?_
 refine aw [] (xQ _ _ _) ?_
 refine aj 0 ?_
 refine aa 0 ?_
 refine eD ?_
 refine aa 0 ?_
 refine eD ?_
 exact .drop 0 1 (.done ⟨aQ (abc x y),rfl⟩)
def lE(x y:Int):Int:=2+4*pI x y
theorem IH(x y:Int)(σ:Hp):ACalls Tryz.prog 331 [.agg (nC x y)] σ (ay (.int .u64 (lE x y)) σ):=by
 refine ar Tryz.func331 ?_
 intro aB
 refine aa 0 ?_
 refine aw [] (agb _ _ _) ?_
 refine eD ?_
 have e:bits BinOp.or IntKind.u64 2 (IntKind.u64.wrap (pI x y*2 ^ min (Int.toNat 2) IntKind.u64.bits))=lE x y:=by
  have e:(2:Int) ^ min (Int.toNat 2) IntKind.u64.bits=4:=by decide
  have h1:=De x y
  have h2:=Hc x y
  rw[e,IntKind.wrap_u64]
  unfold lE
  generalize pI x y=p at h1 h2 ⊢
  have h:=Vq 2 (a:=2) (b:=p.toNat) (by decide) (by omega) (by decide)
  have e2:((2 ^ 2*p.toNat:Nat):Int)=p*4 % 18446744073709551616:=by omega
  rw[e2]at h
  exact h.trans (by omega)
 exact .drop 0 1 (.done ⟨aQ e,rfl⟩)
theorem D7(x y:Int)(σ:Hp):ACalls Tryz.prog 293 [.agg (nC x y)] σ (ay (.int .u64 (lE x y)) σ):=by
 refine ar Tryz.func293 ?_
 intro aB
 refine aa 0 ?_
 refine aw [] (afO _ _ _) ?_
 have e:IntKind.u64.wrap (2+IntKind.u64.wrap (4*pI x y))=lE x y:=by
  have h1:=De x y
  have h2:=Hc x y
  unfold lE
  rw[IntKind.wrap_u64,IntKind.wrap_u64];omega
 exact .drop 0 1 (.done ⟨aQ e,rfl⟩)
def kc(w:Int):Int:=if eJ w then aE (w / 4 % 65536) else 0
def kd(w:Int):Int:=if eJ w then aE (w / 4 / 65536) else 0
theorem acm(w:Int)(σ:Hp)(h:bG w):ACalls Tryz.prog 285 [.int .u64 w] σ (ay (if w<4294967296 then .tup [.agg (nC (aE (w % 65536)) (aE (w / 65536))),.bool true] else .tup [.agg (nC 0 0),.bool false]) σ):=by
 have e:=Dz (k:=32) (m:=32) (w:=w) (by decide)
 have e16:w.fdiv (2 ^ min (Int.toNat 16) IntKind.u64.bits)=w / 65536:=Dz (k:=16) (m:=16) (w:=w) (by decide)
 have ea:bits .and .u64 w 65535=w % 65536:=by
  show IntKind.u64.wrap ((BitVec.ofInt 64 w &&& BitVec.ofInt 64 65535).toNat:Int)=_
  have h3:(BitVec.ofInt 64 65535:BitVec 64).toNat=2 ^ 16-1:=by decide
  rw[BitVec.toNat_and,h3,PK,BitVec.toNat_ofInt,IntKind.wrap_u64]
  omega
 have h1:=h.1
 have h2:=h.2
 refine ar Tryz.func285 ?_
 intro b1
 refine eD ?_
 refine cX (fun h2=>?_) (fun h2=>?_)
 ·have h2:¬(w.fdiv (2 ^ min (Int.toNat 32) IntKind.u64.bits)=0):=by simpa using h2
  have hw:¬(w<4294967296):=fun h=>h2 (by rw[show w.fdiv (2 ^ min (Int.toNat 32) IntKind.u64.bits)=w / 2 ^ 32 from e];omega)
  refine aj 0 ?_
  refine aa 0 ?_
  rw[ag hw]
  exact .drop 0 1 (.done ⟨rfl,rfl⟩)
 ·have h2:w.fdiv (2 ^ min (Int.toNat 32) IntKind.u64.bits)=0:=by simpa using h2
  have hw:w<4294967296:=by rw[show w.fdiv (2 ^ min (Int.toNat 32) IntKind.u64.bits)=w / 2 ^ 32 from e]at h2;omega
  refine eD ?_
  refine aw [] (EU _ _ _) ?_
  refine aj 0 ?_
  refine aa 0 ?_
  rw[ah hw]
  have x1:IntKind.i64.wrap (bits .and .u64 w 65535)=w % 65536:=by rw[ea,IntKind.wrap_i64];omega
  have x2:IntKind.i64.wrap (w.fdiv (2 ^ min (Int.toNat 16) IntKind.u64.bits))=w / 65536:=by rw[e16,IntKind.wrap_i64];omega
  rw[← x1,← x2]
  exact .drop 0 1 (.done ⟨rfl,rfl⟩)
theorem Bv(w:Int)(σ:Hp)(h:bG w):ACalls Tryz.prog 251 [.int .u64 w] σ (ay (.tup [.agg (nC (kc w) (kd w)),.bool (eJ w)]) σ):=by
 have e:=Dz (k:=2) (m:=2) (w:=w) (by decide)
 have h0:=h.1
 have Pt:=h.2
 refine ar Tryz.func251 ?_
 intro b1
 refine cX (fun h2=>?_) (fun h2=>?_)
 ·have h2:¬(bits BinOp.and IntKind.u64 w 3=2):=by simpa using h2
  rw[IL]at h2
  have hn:eJ w=false:=by simp[eJ,h2]
  refine aj 0 ?_
  refine aa 0 ?_
  unfold kc kd
  rw[hn]
  exact .drop 0 1 (.done ⟨rfl,rfl⟩)
 ·have h2:bits BinOp.and IntKind.u64 w 3=2:=by simpa using h2
  rw[IL]at h2
  refine eD ?_
  have e':w.fdiv (2 ^ min (Int.toNat 2) IntKind.u64.bits)=w / 4:=e
  refine aw [] (acm _ _ ⟨by rw[e'];omega,by rw[e'];omega⟩) ?_
  unfold kc kd
  by_cases hw:w<17179869184
  ·have hn:eJ w=true:=by simp[eJ,h2];omega
   rw[ah (show w.fdiv (2 ^ min (Int.toNat 2) IntKind.u64.bits)<4294967296 by rw[e'];omega),hn]
   refine aj 0 ?_
   refine aa 0 ?_
   rw[e']
   exact .drop 0 1 (.done ⟨rfl,rfl⟩)
  ·have hn:eJ w=false:=by simp[eJ,h2];omega
   rw[ag (show ¬w.fdiv (2 ^ min (Int.toNat 2) IntKind.u64.bits)<4294967296 by rw[e'];omega),hn]
   refine aj 0 ?_
   refine aa 0 ?_
   exact .drop 0 1 (.done ⟨rfl,rfl⟩)
theorem Bn(w:Int)(σ:Hp)(h:bG w):ACalls Tryz.prog 179 [.int .u64 w] σ (ay (.tup [.agg (nC (kc w) (kd w)),.bool (eJ w)]) σ):=by
 have h0:=h.1
 have h2:=h.2
 have e1:w.tmod 4=w % 4:=uO h0
 have e2:IntKind.u64.wrap (w.tdiv 4)=w / 4:=by rw[CD h0,IntKind.wrap_u64];omega
 refine ar Tryz.func179 ?_
 unfold kc kd
 intro aB
 refine eD ?_
 refine cX (fun c2=>?_) (fun c2=>?_)
 ·have c2:¬(w.tmod 4=2):=by simpa using c2
  have hn:eJ w=false:=by unfold eJ;simp;omega
  rw[hn]
  refine aj 0 ?_
  refine aa 0 ?_
  exact .drop 0 1 (.done ⟨rfl,rfl⟩)
 ·have c2:w.tmod 4=2:=by simpa using c2
  refine eD ?_
  refine ak (fun c3=>?_) (fun c3=>?_)
  ·have c3:4294967296≤IntKind.u64.wrap (w.tdiv 4):=c3
   have hn:eJ w=false:=by unfold eJ;simp;omega
   rw[hn]
   refine aj 0 ?_
   refine aa 0 ?_
   exact .drop 0 1 (.done ⟨rfl,rfl⟩)
  ·have c3:¬(4294967296≤IntKind.u64.wrap (w.tdiv 4)):=c3
   have hn:eJ w=true:=by unfold eJ;simp;omega
   have e3:IntKind.i64.wrap (IntKind.u64.wrap (w.tdiv 4))=w / 4:=by rw[e2,IntKind.wrap_i64];omega
   have e4:(w / 4).tmod 65536=w / 4 % 65536:=uO (by omega)
   have e5:IntKind.i64.wrap ((w / 4).tdiv 65536)=w / 4 / 65536:=by rw[CD (by omega),IntKind.wrap_i64];omega
   rw[hn,ah rfl,ah rfl,← e4,← e5,← e3]
   refine eD ?_
   refine eD ?_
   refine eD ?_
   refine aw [] (xQ _ _ _) ?_
   refine aj 0 ?_
   refine aa 0 ?_
   exact .drop 0 1 (.done ⟨rfl,rfl⟩)
theorem cE{n:Int}(h : -4611686018427387904≤n∧n≤4611686018427387904):IntKind.i64.wrap n=n:=by rw[IntKind.wrap_i64];omega
theorem NO(op a b c d:Int)(σ:Hp):ACalls Tryz.prog 294 [.int .i64 op,.agg (nC a b),.agg (nC c d)] σ (ay (uq (iP op a b c d) (.bool true) (.bool false)) σ):=by
 have hF:=DY a b c d
 have hM:=WU a b c d
 refine ar Tryz.func294 ?_
 intro aB
 intro dc
 intro qj
 refine aa 2 ?_
 refine aa 2 ?_
 refine aw [] (xQ _ _ _) ?_
 refine aj 2 ?_
 refine aa 1 ?_
 refine aa 1 ?_
 refine aw [] (xQ _ _ _) ?_
 refine aj 1 ?_
 refine ak (fun c4=>?_) (fun c4=>?_)
 ·have c4:op=0:=c4
  refine aa 2 ?_
  refine aj 0 ?_
  refine aa 0 ?_
  exact .drop 0 3 (.done ⟨(by simp[iP,uq, *];rfl),rfl⟩)
 ·have c4:¬(op=0):=c4
  refine ak (fun c5=>?_) (fun c5=>?_)
  ·have c5:op=1:=c5
   refine aa 2 ?_
   refine aa 1 ?_
   refine aa 2 ?_
   refine aa 1 ?_
   refine aw [] (xQ _ _ _) ?_
   refine aj 0 ?_
   refine aa 0 ?_
   have eo:iP op a b c d=some (aE (aE a+aE c),aE (aE b+aE d)):=by simp[iP, *]
   have ev:AV.tup [.agg (nC (aE (IntKind.i64.wrap (aE a+aE c))) (aE (IntKind.i64.wrap (aE b+aE d)))),.bool true]=AV.tup [.agg (nC (aE (aE a+aE c)) (aE (aE b+aE d))),.bool true]:=by rw[cE (n:=aE a+aE c) (by omega),cE (n:=aE b+aE d) (by omega)]
   rw[eo]
   exact .drop 0 3 (.done ⟨ev,rfl⟩)
  ·have c5:¬(op=1):=c5
   refine ak (fun c6=>?_) (fun c6=>?_)
   ·have c6:op=2:=c6
    refine aa 2 ?_
    refine aa 1 ?_
    refine aa 2 ?_
    refine aa 1 ?_
    refine aw [] (xQ _ _ _) ?_
    refine aj 0 ?_
    refine aa 0 ?_
    have eo:iP op a b c d=some (aE (aE a-aE c),aE (aE b-aE d)):=by simp[iP, *]
    have ev:AV.tup [.agg (nC (aE (IntKind.i64.wrap (aE a-aE c))) (aE (IntKind.i64.wrap (aE b-aE d)))),.bool true]=AV.tup [.agg (nC (aE (aE a-aE c)) (aE (aE b-aE d))),.bool true]:=by rw[cE (n:=aE a-aE c) (by omega),cE (n:=aE b-aE d) (by omega)]
    rw[eo]
    exact .drop 0 3 (.done ⟨ev,rfl⟩)
   ·have c6:¬(op=2):=c6
    refine ak (fun c7=>?_) (fun c7=>?_)
    ·have c7:op=3:=c7
     refine aa 2 ?_
     refine aa 1 ?_
     refine aa 2 ?_
     refine aa 1 ?_
     refine aa 2 ?_
     refine aa 1 ?_
     refine aa 2 ?_
     refine aa 1 ?_
     refine aw [] (xQ _ _ _) ?_
     refine aj 0 ?_
     refine aa 0 ?_
     have eo:iP op a b c d=some (aE (aE a*aE c-aE b*aE d),aE (aE a*aE d+aE b*aE c)):=by simp[iP, *]
     have ev:AV.tup [.agg (nC (aE (IntKind.i64.wrap (IntKind.i64.wrap (aE a*aE c)-IntKind.i64.wrap (aE b*aE d)))) (aE (IntKind.i64.wrap (IntKind.i64.wrap (aE a*aE d)+IntKind.i64.wrap (aE b*aE c))))),.bool true]=AV.tup [.agg (nC (aE (aE a*aE c-aE b*aE d)) (aE (aE a*aE d+aE b*aE c))),.bool true]:=by rw[cE (n:=aE a*aE c) (by omega),cE (n:=aE b*aE d) (by omega),cE (n:=aE a*aE d) (by omega),cE (n:=aE b*aE c) (by omega),cE (n:=aE a*aE c-aE b*aE d) (by omega),cE (n:=aE a*aE d+aE b*aE c) (by omega)]
     rw[eo]
     exact .drop 0 3 (.done ⟨ev,rfl⟩)
    ·have c7:¬(op=3):=c7
     refine ak (fun c8=>?_) (fun c8=>?_)
     ·have c8:op=4:=c8
      refine aa 2 ?_
      refine aa 2 ?_
      refine aw [] (xQ _ _ _) ?_
      refine aj 0 ?_
      refine aa 0 ?_
      have eo:iP op a b c d=some (aE (aE a),aE (-aE b)):=by simp[iP, *]
      have ev:AV.tup [.agg (nC (aE (aE a)) (aE (IntKind.i64.wrap (0-aE b)))),.bool true]=AV.tup [.agg (nC (aE (aE a)) (aE (-aE b))),.bool true]:=by rw[cE (n:=0-aE b) (by omega),Int.zero_sub]
      rw[eo]
      exact .drop 0 3 (.done ⟨ev,rfl⟩)
     ·have c8:¬(op=4):=c8
      refine aj 0 ?_
      refine aa 0 ?_
      exact .drop 0 3 (.done ⟨(by simp[iP,uq, *];rfl),rfl⟩)
def nt(l:List Int):Int:=if (l.any fun w=>decide (aJ w=0)) then 0 else if (l.any fun w=>decide (aJ w=1)) then 1 else 2
theorem Yq(l:List Int)(w:Int)(h:(l.any fun w=>decide (aJ w=0))=false):nt (l++[w])=if aJ w=0 then 0 else if aJ w=1 then 1 else nt l:=by
 unfold nt
 rw[gu3,gu3,h]
 by_cases h0:aJ w=0
 ·simp[h0]
 ·by_cases h1:aJ w=1
  ·simp[h1]
  ·simp[h0,h1]
theorem Yp(l:List Int){w:Int}(hm:w∈l)(h:aJ w=0):nt l=0:=by
 unfold nt
 rw[ah]
 exact mF.2 ⟨w,hm,aT h⟩
theorem M7(l:List Int)(σ:Hp)(hl:l.length≤100000):ACalls Tryz.prog 343 [.ae (.int .u64) l] σ (ay (.int .u64 (nt l)) σ):=by
 refine ar Tryz.func343 ?_
 refine bQ (S:=Nat) (fun s=>[(3,.int .u64 (nt (l.take s))),(6,.ae (.int .u64) l),(7,.int .i64 l.length),(8,.int .i64 s)]) (fun _=>σ) (fun s=>s≤l.length∧((l.take s).any fun w=>decide (aJ w=0))=false) (fun s=>l.length-s) 0 ⟨⟨bA _,rfl⟩,⟨rfl,rfl,rfl,rfl,trivial⟩,rfl⟩ ?_
 rintro k g ⟨aK,gU⟩
 have hk:k≤l.length:=aK
 have hz:((l.take k).any fun w=>decide (aJ w=0))=false:=gU
 clear aK gU
 refine ak (fun ab=>?_) (fun aq=>?_)
 ·have ab:k<l.length:=by have ab:(k:Int)<l.length:=ab;omega
  have hs:=Yq (l.take k) l[k] hz
  rw[← ff ab]at hs
  have fR:((l.take (k+1)).any fun w=>decide (aJ w=0))=decide (aJ l[k]=0):=by
   rw[List.take_succ_eq_append_getElem ab,List.any_append,hz];simp
  refine aG.mk rfl (bE.mk l[k] (by omega) (get_some ab) ?_)
  refine aw [] (NG l[k] _) ?_
  refine ak (fun c1=>?_) (fun c1=>?_)
  ·have c1:aJ l[k]=0:=c1
   refine .fwd 1 ?_
   rw[Yp l (bP ab) c1]
   exact .done ⟨rfl,rfl⟩
  ·have c1:¬(aJ l[k]=0):=c1
   refine ak (fun c2=>?_) (fun c2=>?_)
   ·have c2:aJ l[k]=1:=c2
    refine aY (k+1) (by show l.length-(k+1)<l.length-k;omega) ⟨ab,by rw[fR];exact bS c1⟩ ⟨?_,rfl,rfl,aS (by omega),trivial⟩ (.refl _)
    rw[hs,ag c1,ah c2]
    rfl
   ·have c2:¬(aJ l[k]=1):=c2
    refine aY (k+1) (by show l.length-(k+1)<l.length-k;omega) ⟨ab,by rw[fR];exact bS c1⟩ ⟨?_,rfl,rfl,aS (by omega),trivial⟩ (.refl _)
    rw[hs,ag c1,ag c2]
    rfl
 ·have aq:k=l.length:=by have aq:¬(k:Int)<l.length:=aq;omega
  subst aq
  rw[fA]
  exact .done ⟨rfl,rfl⟩
theorem Hh{w:Int}(h0:aJ w≠0)(h1:aJ w≠1):eJ w=true∧aJ w=w:=by
 unfold aJ at *
 by_cases a:w=0
 ·rw[ah a]at h0;exact absurd rfl h0
 ·rw[ag a]at h0 h1 ⊢
  by_cases b:w=1
  ·rw[ah b]at h1;exact absurd rfl h1
  ·rw[ag b]at h0 h1 ⊢
   cases c:eJ w with
   |true=>exact⟨rfl,rfl⟩
   |false=>rw[c]at h1;exact absurd rfl h1
theorem afT{op:Int}(h:op=0∨op=4)(a b c d c2 d2:Int):iP op a b c d=iP op a b c2 d2:=by
 rcases h with rfl | rfl <;> rfl
def mS(op a b:Int):Int:=match iP op (kc a) (kd a) (kc b) (kd b) with | some (x,y)=>lE x y | none=>1
def fY(op a b:Int):Int:=if aJ a=0∨aJ b=0 then 0 else if aJ a=1∨aJ b=1 then 1 else mS op a b
def jY(op a b:Int):Int:=if op=0∨op=4 then fY op a 2 else fY op a b
theorem afZ(x y:Int):2≤lE x y:=by have:=De x y;unfold lE;omega
theorem afY(x y:Int):eJ (lE x y)=true:=by
 have h1:=De x y
 have h2:=Hc x y
 unfold eJ lE;simp;omega
theorem norm_num{w:Int}(h:eJ w=true):aJ w=w:=by
 have:=LZ h
 unfold aJ
 rw[ag this.1,ag this.2,ah h]
theorem adS{op:Int}(h:op=0∨op=4)(a b c:Int):mS op a b=mS op a c:=by
 unfold mS
 rw[afT h (kc a) (kd a) (kc b) (kd b) (kc c) (kd c)]
theorem Dj:aJ 2=2:=by decide
theorem GI{op:Int}(a b:Int)(h:op=0∨op=4):jY op a b=if nt [a]=2 then mS op a b else nt [a]:=by
 unfold jY fY nt
 rw[ah h,Dj,adS h a b 2]
 by_cases h0:aJ a=0
 ·simp[h0]
 ·by_cases h1:aJ a=1
  ·simp[h1]
  ·simp[h0,h1]
theorem Q5{op:Int}(a b:Int)(h:¬(op=0∨op=4)):jY op a b=if nt [a,b]=2 then mS op a b else nt [a,b]:=by
 unfold jY fY nt
 rw[ag h]
 by_cases h0:aJ a=0
 ·simp[h0]
 ·by_cases h1:aJ a=1
  ·by_cases g0:aJ b=0
   ·simp[g0]
   ·simp[h1,g0]
  ·by_cases g0:aJ b=0
   ·simp[g0]
   ·by_cases g1:aJ b=1
    ·simp[h0,g1]
    ·simp[h0,h1,g0,g1]
theorem aiX(op a b:Int)(σ:Hp)(ha:bG a)(hb:bG b):ACalls Tryz.prog 332 [.int .i64 op,.int .u64 a,.int .u64 b] σ (ay (.int .u64 (jY op a b)) σ):=by
 refine ar Tryz.func332 ?_
 intro aB
 refine .cJ (args':=[.ae (.int .u64) [a,b]]) 0 aB 0 2 1 _ (.int .u64) [a,b] rfl rfl ⟨rfl,rfl,by decide⟩ (cd .here xC) (aw [] (M7 [a,b] _ (by show 2≤100000;omega)) ?_)
 refine ak (fun c1=>?_) (fun c1=>?_)
 ·have c1:op=0:=c1
  intro dc
  refine .cJ (args':=[.ae (.int .u64) [a]]) 0 dc 0 1 1 _ (.int .u64) [a] rfl rfl ⟨rfl,rfl,by decide⟩ (cd .here xC) (aw [] (M7 [a] _ (by show 1≤100000;omega)) ?_)
  generalize hL:nt [a]=L
  refine cX (fun c5=>?_) (fun c5=>?_)
  ·have c5:¬(L=2):=by simpa using c5
   rw[GI a b (.inl c1),ag (by rw[hL];exact c5),hL]
   exact .done ⟨rfl,rfl⟩
  ·have c5:L=2:=by simpa using c5
   rw[GI a b (.inl c1),ah (by rw[hL];exact c5)]
   refine aw [] (Bv a _ ha) ?_
   intro p1
   refine aj 0 ?_
   refine aw [] (Bv b _ hb) ?_
   intro p2
   refine aj 0 ?_
   refine aa 1 ?_
   refine aa 0 ?_
   refine aw [] (N8 op _ _ _ _ _) ?_
   unfold mS
   cases hr:iP op (kc a) (kd a) (kc b) (kd b) with
   |none=>
    intro p3
    refine aj 0 ?_
    exact .drop 0 3 (.done ⟨rfl,rfl⟩)
   |some xy=>
    obtain⟨x,y⟩:=xy
    intro p3
    refine aj 0 ?_
    refine aa 0 ?_
    refine aw [] (IH x y _) ?_
    exact .drop 0 3 (.done ⟨rfl,rfl⟩)
 ·have c1:¬(op=0):=c1
  refine ak (fun c3=>?_) (fun c3=>?_)
  ·have c3:op=4:=c3
   intro KV
   refine .cJ (args':=[.ae (.int .u64) [a]]) 0 KV 0 1 1 _ (.int .u64) [a] rfl rfl ⟨rfl,rfl,by decide⟩ (cd .here xC) (aw [] (M7 [a] _ (by show 1≤100000;omega)) ?_)
   generalize hL:nt [a]=L
   refine cX (fun c5=>?_) (fun c5=>?_)
   ·have c5:¬(L=2):=by simpa using c5
    rw[GI a b (.inr c3),ag (by rw[hL];exact c5),hL]
    exact .done ⟨rfl,rfl⟩
   ·have c5:L=2:=by simpa using c5
    rw[GI a b (.inr c3),ah (by rw[hL];exact c5)]
    refine aw [] (Bv a _ ha) ?_
    intro p1
    refine aj 0 ?_
    refine aw [] (Bv b _ hb) ?_
    intro p2
    refine aj 0 ?_
    refine aa 1 ?_
    refine aa 0 ?_
    refine aw [] (N8 op _ _ _ _ _) ?_
    unfold mS
    cases hr:iP op (kc a) (kd a) (kc b) (kd b) with
    |none=>
     intro p3
     refine aj 0 ?_
     exact .drop 0 3 (.done ⟨rfl,rfl⟩)
    |some xy=>
     obtain⟨x,y⟩:=xy
     intro p3
     refine aj 0 ?_
     refine aa 0 ?_
     refine aw [] (IH x y _) ?_
     exact .drop 0 3 (.done ⟨rfl,rfl⟩)
  ·have c3:¬(op=4):=c3
   generalize hL:nt [a,b]=L
   refine cX (fun c5=>?_) (fun c5=>?_)
   ·have c5:¬(L=2):=by simpa using c5
    rw[Q5 a b (fun h=>h.elim c1 c3),ag (by rw[hL];exact c5),hL]
    exact .done ⟨rfl,rfl⟩
   ·have c5:L=2:=by simpa using c5
    rw[Q5 a b (fun h=>h.elim c1 c3),ah (by rw[hL];exact c5)]
    refine aw [] (Bv a _ ha) ?_
    intro p1
    refine aj 0 ?_
    refine aw [] (Bv b _ hb) ?_
    intro p2
    refine aj 0 ?_
    refine aa 1 ?_
    refine aa 0 ?_
    refine aw [] (N8 op _ _ _ _ _) ?_
    unfold mS
    cases hr:iP op (kc a) (kd a) (kc b) (kd b) with
    |none=>
     intro p3
     refine aj 0 ?_
     exact .drop 0 3 (.done ⟨rfl,rfl⟩)
    |some xy=>
     obtain⟨x,y⟩:=xy
     intro p3
     refine aj 0 ?_
     refine aa 0 ?_
     refine aw [] (IH x y _) ?_
     exact .drop 0 3 (.done ⟨rfl,rfl⟩)
theorem jQ(w:Int):aJ (aJ w)=aJ w:=by
 by_cases h0:aJ w=0
 ·rw[h0];rfl
 ·by_cases h1:aJ w=1
  ·rw[h1];rfl
  ·rw[(Hh h0 h1).2];exact (Hh h0 h1).2
theorem RU(op a b:Int):fY op (aJ a) (aJ b)=fY op a b:=by
 unfold fY
 rw[jQ,jQ]
 by_cases h0:aJ a=0∨aJ b=0
 ·rw[ah h0,ah h0]
 ·by_cases h1:aJ a=1∨aJ b=1
  ·rw[ag h0,ah h1,ag h0,ah h1]
  ·rw[ag h0,ag h1,ag h0,ag h1]
   have ha:=(Hh (w:=a) (fun h=>h0 (.inl h)) (fun h=>h1 (.inl h))).2
   have hb:=(Hh (w:=b) (fun h=>h0 (.inr h)) (fun h=>h1 (.inr h))).2
   rw[ha,hb]
theorem ac4:lE 0 0=2:=by decide
theorem agF(op a b:Int)(σ:Hp)(ha:bG a)(hb:bG b):ACalls Tryz.prog 264 [.int .i64 op,.int .u64 a,.int .u64 b] σ (ay (.int .u64 (jY op a b)) σ):=by
 have na:=HJ ha
 have nb:=HJ hb
 obtain⟨B,hB⟩:∃B:Int,B=2:=⟨_,rfl⟩
 have wB:bG B:=by rw[hB];unfold bG;omega
 have nB:aJ B=B:=by rw[hB];exact Dj
 have hOf:∀σ,ACalls Tryz.prog 293 [.agg (nC 0 0)] σ (ay (.int .u64 B) σ):=fun σ=>by rw[hB,← ac4];exact D7 0 0 σ
 have e04:(op=0∨op=4)→jY op a b=fY op (aJ a) B:=fun h=>by unfold jY;rw[ah h,← RU,Dj,hB]
 clear hB
 refine ar Tryz.func264 ?_
 refine aw [] (Ir a _ ha.1 ha.2) ?_
 refine aw [] (Ir b _ hb.1 hb.2) ?_
 refine ak (fun d1=>?_) (fun d1=>?_)
 ·have d1:op=0:=d1
  rw[e04 (.inl d1)]
  refine aw [] (hOf _) ?_
  refine ak (fun c1=>?_) (fun c1=>?_)
  ·have c1:aJ a=0:=c1
   unfold fY
   rw[jQ,ah (.inl c1)]
   exact .done ⟨rfl,rfl⟩
  ·have c1:¬aJ a=0:=c1
   refine ak (fun c2=>?_) (fun c2=>?_)
   ·have c2:B=0:=c2
    unfold fY
    rw[jQ,ah (.inr (nB.trans c2))]
    exact .done ⟨rfl,rfl⟩
   ·have c2:¬B=0:=c2
    refine ak (fun c3=>?_) (fun c3=>?_)
    ·have c3:aJ a=1:=c3
     unfold fY
     rw[jQ,ag (fun h=>h.elim c1 fun h=>c2 (nB.symm.trans h)),ah (.inl c3)]
     exact .done ⟨rfl,rfl⟩
    ·have c3:¬aJ a=1:=c3
     refine ak (fun c4=>?_) (fun c4=>?_)
     ·have c4:B=1:=c4
      unfold fY
      rw[jQ,ag (fun h=>h.elim c1 fun h=>c2 (nB.symm.trans h)),ah (.inr (nB.trans c4))]
      exact .done ⟨rfl,rfl⟩
     ·have c4:¬B=1:=c4
      unfold fY
      rw[jQ,ag (fun h=>h.elim c1 fun h=>c2 (nB.symm.trans h)),ag (fun h=>h.elim c3 fun h=>c4 (nB.symm.trans h))]
      unfold mS
      refine aw [] (Bn (aJ a) _ na) ?_
      intro p1
      refine aj 0 ?_
      refine aw [] (Bn (B) _ wB) ?_
      intro p2
      refine aj 0 ?_
      refine aa 1 ?_
      refine aa 0 ?_
      refine aw [] (NO op _ _ _ _ _) ?_
      cases hr:iP op (kc (aJ a)) (kd (aJ a)) (kc (B)) (kd (B)) with
      |none=>
       intro p3
       refine aj 0 ?_
       exact .drop 0 3 (.done ⟨rfl,rfl⟩)
      |some xy=>
       obtain⟨x,y⟩:=xy
       intro p3
       refine aj 0 ?_
       refine aa 0 ?_
       refine aw [] (D7 x y _) ?_
       exact .drop 0 3 (.done ⟨rfl,rfl⟩)
 ·have d1:¬op=0:=d1
  refine ak (fun d2=>?_) (fun d2=>?_)
  ·have d2:op=4:=d2
   rw[e04 (.inr d2)]
   refine aw [] (hOf _) ?_
   refine ak (fun c1=>?_) (fun c1=>?_)
   ·have c1:aJ a=0:=c1
    unfold fY
    rw[jQ,ah (.inl c1)]
    exact .done ⟨rfl,rfl⟩
   ·have c1:¬aJ a=0:=c1
    refine ak (fun c2=>?_) (fun c2=>?_)
    ·have c2:B=0:=c2
     unfold fY
     rw[jQ,ah (.inr (nB.trans c2))]
     exact .done ⟨rfl,rfl⟩
    ·have c2:¬B=0:=c2
     refine ak (fun c3=>?_) (fun c3=>?_)
     ·have c3:aJ a=1:=c3
      unfold fY
      rw[jQ,ag (fun h=>h.elim c1 fun h=>c2 (nB.symm.trans h)),ah (.inl c3)]
      exact .done ⟨rfl,rfl⟩
     ·have c3:¬aJ a=1:=c3
      refine ak (fun c4=>?_) (fun c4=>?_)
      ·have c4:B=1:=c4
       unfold fY
       rw[jQ,ag (fun h=>h.elim c1 fun h=>c2 (nB.symm.trans h)),ah (.inr (nB.trans c4))]
       exact .done ⟨rfl,rfl⟩
      ·have c4:¬B=1:=c4
       unfold fY
       rw[jQ,ag (fun h=>h.elim c1 fun h=>c2 (nB.symm.trans h)),ag (fun h=>h.elim c3 fun h=>c4 (nB.symm.trans h))]
       unfold mS
       refine aw [] (Bn (aJ a) _ na) ?_
       intro p1
       refine aj 0 ?_
       refine aw [] (Bn (B) _ wB) ?_
       intro p2
       refine aj 0 ?_
       refine aa 1 ?_
       refine aa 0 ?_
       refine aw [] (NO op _ _ _ _ _) ?_
       cases hr:iP op (kc (aJ a)) (kd (aJ a)) (kc (B)) (kd (B)) with
       |none=>
        intro p3
        refine aj 0 ?_
        exact .drop 0 3 (.done ⟨rfl,rfl⟩)
       |some xy=>
        obtain⟨x,y⟩:=xy
        intro p3
        refine aj 0 ?_
        refine aa 0 ?_
        refine aw [] (D7 x y _) ?_
        exact .drop 0 3 (.done ⟨rfl,rfl⟩)
  ·have d2:¬op=4:=d2
   rw[show jY op a b=fY op (aJ a) (aJ b) by unfold jY;rw[ag (fun h=>h.elim d1 d2),RU]]
   refine ak (fun c1=>?_) (fun c1=>?_)
   ·have c1:aJ a=0:=c1
    unfold fY
    rw[jQ,ah (.inl c1)]
    exact .done ⟨rfl,rfl⟩
   ·have c1:¬aJ a=0:=c1
    refine ak (fun c2=>?_) (fun c2=>?_)
    ·have c2:(aJ b)=0:=c2
     unfold fY
     rw[jQ,ah (.inr ((jQ b).trans c2))]
     exact .done ⟨rfl,rfl⟩
    ·have c2:¬(aJ b)=0:=c2
     refine ak (fun c3=>?_) (fun c3=>?_)
     ·have c3:aJ a=1:=c3
      unfold fY
      rw[jQ,ag (fun h=>h.elim c1 fun h=>c2 ((jQ b).symm.trans h)),ah (.inl c3)]
      exact .done ⟨rfl,rfl⟩
     ·have c3:¬aJ a=1:=c3
      refine ak (fun c4=>?_) (fun c4=>?_)
      ·have c4:(aJ b)=1:=c4
       unfold fY
       rw[jQ,ag (fun h=>h.elim c1 fun h=>c2 ((jQ b).symm.trans h)),ah (.inr ((jQ b).trans c4))]
       exact .done ⟨rfl,rfl⟩
      ·have c4:¬(aJ b)=1:=c4
       unfold fY
       rw[jQ,ag (fun h=>h.elim c1 fun h=>c2 ((jQ b).symm.trans h)),ag (fun h=>h.elim c3 fun h=>c4 ((jQ b).symm.trans h))]
       unfold mS
       refine aw [] (Bn (aJ a) _ na) ?_
       intro p1
       refine aj 0 ?_
       refine aw [] (Bn ((aJ b)) _ nb) ?_
       intro p2
       refine aj 0 ?_
       refine aa 1 ?_
       refine aa 0 ?_
       refine aw [] (NO op _ _ _ _ _) ?_
       cases hr:iP op (kc (aJ a)) (kd (aJ a)) (kc ((aJ b))) (kd ((aJ b))) with
       |none=>
        intro p3
        refine aj 0 ?_
        exact .drop 0 3 (.done ⟨rfl,rfl⟩)
       |some xy=>
        obtain⟨x,y⟩:=xy
        intro p3
        refine aj 0 ?_
        refine aa 0 ?_
        refine aw [] (D7 x y _) ?_
        exact .drop 0 3 (.done ⟨rfl,rfl⟩)
theorem afl(g:Nat)(cap:List AV)(l:List (Sh.T (.int .u64)))(p:Sh.T (.int .u64)→Bool)(σ:Hp)(hl:l.length≤1000000)(hg:∀(i:Nat) (hi:i<l.length),ACalls Tryz.prog g (.int .u64 l[i]::cap) σ (ay (.bool (p l[i])) σ)):ACalls Tryz.prog 250 [.ae (.int .u64) l,.fn (.func g) [] cap] σ (fun r σ'=>∃n:Int,r=.int .i64 n∧σ'=σ∧decide (0≤n)=l.any p):=by
 refine ar Tryz.func250 ?_
 refine bQ (S:=Nat) (fun s=>[(0,.ae (.int .u64) l),(1,.fn (.func g) [] cap),(7,.int .i64 l.length),(8,.int .i64 s)]) (fun _=>σ) (fun s=>s≤l.length∧(l.take s).any p=false) (fun s=>l.length-s) 0 ⟨⟨bA _,rfl⟩,⟨rfl,rfl,rfl,rfl,trivial⟩,rfl⟩ ?_
 rintro k t ⟨aK,fI⟩
 have hk:k≤l.length:=aK
 have hn:(l.take k).any p=false:=fI
 clear aK fI
 refine ak (fun ab=>?_) (fun aq=>?_)
 ·have ab:k<l.length:=by have ab:(k:Int)<l.length:=ab;omega
  have hs:=rF ab p
  rw[hn,po]at hs
  refine aG.mk rfl (bE.mk l[k] (by omega) (get_some ab) ?_)
  refine dC [] (hg k ab) (fun c=>?_) (fun c=>?_)
  ·have hp:l.any p=true:=mF.2 ⟨l[k],bP ab,c⟩
   exact .done ⟨_,rfl,rfl,by rw[hp];exact aT (by omega)⟩
  ·exact aY (k+1) (by show l.length-(k+1)<l.length-k;omega) ⟨ab,hs.trans c⟩ ⟨rfl,rfl,rfl,aS (by omega),trivial⟩ (.refl _)
 ·have aq:k=l.length:=by have aq:¬(k:Int)<l.length:=aq;omega
  subst aq
  rw[fA]at hn
  exact .done ⟨_,rfl,rfl,by rw[hn];rfl⟩
theorem ZJ(g:Nat)(cap:List AV)(l:List (Sh.T (.int .u64)))(p:Sh.T (.int .u64)→Bool)(σ:Hp)(hl:l.length≤1000000)(hg:∀(i:Nat) (hi:i<l.length),ACalls Tryz.prog g (.int .u64 l[i]::cap) σ (ay (.bool (p l[i])) σ)):ACalls Tryz.prog 200 [.ae (.int .u64) l,.fn (.func g) [] cap] σ (ay (.bool (l.any p)) σ):=by
 refine ar Tryz.func200 ?_
 refine .mk [] _ (afl g cap l p _ hl hg) ?_
 rintro _ _ ⟨n,rfl,rfl,hn⟩
 rw[← hn]
 refine ak (fun c=>?_) (fun c=>?_)
 ·have c:0≤n:=c
  rw[aT c]
  exact .done ⟨rfl,rfl⟩
 ·have c:¬0≤n:=c
  rw[bS c]
  exact .done ⟨rfl,rfl⟩
abbrev ah2:Sh:=.field (.int .i64) (.field (.int .i64) .nil)
abbrev Wf:Sh:=.field (.int .i64) (.field ah2 .nil)
abbrev jD:Sh:=.field (.int .i64) (.field (.int .i64) (.field Wf (.field Wf .nil)))
abbrev aiZ:Type:=Int×Int×Unit
abbrev oY:Type:=Int×aiZ×Unit
abbrev dg:Type:=Int×Int×oY×oY×Unit
abbrev Ez(r:oY):List AV:=[.int .i64 r.1,.int .i64 r.2.1.1,.int .i64 r.2.1.2.1]
abbrev Ww(c:dg):List AV:=[.int .i64 c.1,.int .i64 c.2.1,.int .i64 c.2.2.1.1,.int .i64 c.2.2.1.2.1.1,.int .i64 c.2.2.1.2.1.2.1,.int .i64 c.2.2.2.1.1,.int .i64 c.2.2.2.1.2.1.1,.int .i64 c.2.2.2.1.2.1.2.1]
def II(c:dg):AV:=.agg (Ww c)
theorem afo(g:Nat)(cap:List AV)(l:List (Sh.T jD))(p:Sh.T jD→Bool)(σ:Hp)(hl:l.length≤1000000)(hg:∀(i:Nat) (hi:i<l.length),ACalls Tryz.prog g (II l[i]::cap) σ (ay (.bool (p l[i])) σ)):ACalls Tryz.prog 253 [.ae jD l,.fn (.func g) [] cap] σ (fun r σ'=>∃n:Int,r=.int .i64 n∧σ'=σ∧decide (0≤n)=l.any p):=by
 refine ar Tryz.func253 ?_
 refine bQ (S:=Nat) (fun s=>[(0,.ae jD l),(1,.fn (.func g) [] cap),(7,.int .i64 l.length),(8,.int .i64 s)]) (fun _=>σ) (fun s=>s≤l.length∧(l.take s).any p=false) (fun s=>l.length-s) 0 ⟨⟨bA _,rfl⟩,⟨rfl,rfl,rfl,rfl,trivial⟩,rfl⟩ ?_
 rintro k t ⟨aK,fI⟩
 have hk:k≤l.length:=aK
 have hn:(l.take k).any p=false:=fI
 clear aK fI
 refine ak (fun ab=>?_) (fun aq=>?_)
 ·have ab:k<l.length:=by have ab:(k:Int)<l.length:=ab;omega
  have hs:=rF ab p
  rw[hn,po]at hs
  refine aG.mk rfl (bE.mk l[k] (by omega) (get_some ab) ?_)
  refine dC [] (hg k ab) (fun c=>?_) (fun c=>?_)
  ·have hp:l.any p=true:=mF.2 ⟨l[k],bP ab,c⟩
   exact .done ⟨_,rfl,rfl,by rw[hp];exact aT (by omega)⟩
  ·exact aY (k+1) (by show l.length-(k+1)<l.length-k;omega) ⟨ab,hs.trans c⟩ ⟨rfl,rfl,rfl,aS (by omega),trivial⟩ (.refl _)
 ·have aq:k=l.length:=by have aq:¬(k:Int)<l.length:=aq;omega
  subst aq
  rw[fA]at hn
  exact .done ⟨_,rfl,rfl,by rw[hn];rfl⟩
theorem ZM(g:Nat)(cap:List AV)(l:List (Sh.T jD))(p:Sh.T jD→Bool)(σ:Hp)(hl:l.length≤1000000)(hg:∀(i:Nat) (hi:i<l.length),ACalls Tryz.prog g (II l[i]::cap) σ (ay (.bool (p l[i])) σ)):ACalls Tryz.prog 207 [.ae jD l,.fn (.func g) [] cap] σ (ay (.bool (l.any p)) σ):=by
 refine ar Tryz.func207 ?_
 refine .mk [] _ (afo g cap l p _ hl hg) ?_
 rintro _ _ ⟨n,rfl,rfl,hn⟩
 rw[← hn]
 refine ak (fun c=>?_) (fun c=>?_)
 ·have c:0≤n:=c
  rw[aT c]
  exact .done ⟨rfl,rfl⟩
 ·have c:¬0≤n:=c
  rw[bS c]
  exact .done ⟨rfl,rfl⟩
theorem ada(g:Nat)(cap:List AV)(l:List (Sh.T (.slice (.int .u64))))(p:Sh.T (.slice (.int .u64))→Bool)(σ:Hp)(hl:l.length≤1000000)(hg:∀(i:Nat) (hi:i<l.length),ACalls Tryz.prog g (.ae (.int .u64) l[i]::cap) σ (ay (.bool (p l[i])) σ)):ACalls Tryz.prog 277 [.ae (.slice (.int .u64)) l,.fn (.func g) [] cap] σ (fun r σ'=>∃n:Int,r=.int .i64 n∧σ'=σ∧decide (0≤n)=l.any p):=by
 refine ar Tryz.func277 ?_
 refine bQ (S:=Nat) (fun s=>[(0,.ae (.slice (.int .u64)) l),(1,.fn (.func g) [] cap),(7,.int .i64 l.length),(8,.int .i64 s)]) (fun _=>σ) (fun s=>s≤l.length∧(l.take s).any p=false) (fun s=>l.length-s) 0 ⟨⟨bA _,rfl⟩,⟨rfl,rfl,rfl,rfl,trivial⟩,rfl⟩ ?_
 rintro k t ⟨aK,fI⟩
 have hk:k≤l.length:=aK
 have hn:(l.take k).any p=false:=fI
 clear aK fI
 refine ak (fun ab=>?_) (fun aq=>?_)
 ·have ab:k<l.length:=by have ab:(k:Int)<l.length:=ab;omega
  have hs:=rF ab p
  rw[hn,po]at hs
  refine aG.mk rfl (bE.mk l[k] (by omega) (get_some ab) ?_)
  refine dC [] (hg k ab) (fun c=>?_) (fun c=>?_)
  ·have hp:l.any p=true:=mF.2 ⟨l[k],bP ab,c⟩
   exact .done ⟨_,rfl,rfl,by rw[hp];exact aT (by omega)⟩
  ·exact aY (k+1) (by show l.length-(k+1)<l.length-k;omega) ⟨ab,hs.trans c⟩ ⟨rfl,rfl,rfl,aS (by omega),trivial⟩ (.refl _)
 ·have aq:k=l.length:=by have aq:¬(k:Int)<l.length:=aq;omega
  subst aq
  rw[fA]at hn
  exact .done ⟨_,rfl,rfl,by rw[hn];rfl⟩
theorem QG(g:Nat)(cap:List AV)(l:List (Sh.T (.slice (.int .u64))))(p:Sh.T (.slice (.int .u64))→Bool)(σ:Hp)(hl:l.length≤1000000)(hg:∀(i:Nat) (hi:i<l.length),ACalls Tryz.prog g (.ae (.int .u64) l[i]::cap) σ (ay (.bool (p l[i])) σ)):ACalls Tryz.prog 241 [.ae (.slice (.int .u64)) l,.fn (.func g) [] cap] σ (ay (.bool (l.any p)) σ):=by
 refine ar Tryz.func241 ?_
 refine .mk [] _ (ada g cap l p _ hl hg) ?_
 rintro _ _ ⟨n,rfl,rfl,hn⟩
 rw[← hn]
 refine ak (fun c=>?_) (fun c=>?_)
 ·have c:0≤n:=c
  rw[aT c]
  exact .done ⟨rfl,rfl⟩
 ·have c:¬0≤n:=c
  rw[bS c]
  exact .done ⟨rfl,rfl⟩
theorem afn(l:List Int)(x:Int)(σ:Hp)(hl:l.length≤1000000):ACalls Tryz.prog 329 [.ae (.int .u64) l,.int .u64 x] σ (fun r σ'=>∃n:Int,r=.int .i64 n∧σ'=σ∧decide (0≤n)=l.any fun z=>decide (x=z)):=by
 refine ar Tryz.func329 ?_
 refine bQ (S:=Nat) (fun s=>[(0,.ae (.int .u64) l),(1,.int .u64 x),(7,.int .i64 l.length),(8,.int .i64 s)]) (fun _=>σ) (fun s=>s≤l.length∧((l.take s).any fun z=>decide (x=z))=false) (fun s=>l.length-s) 0 ⟨⟨bA _,rfl⟩,⟨rfl,rfl,rfl,rfl,trivial⟩,rfl⟩ ?_
 rintro k t ⟨aK,fI⟩
 have hk:k≤l.length:=aK
 have hn:((l.take k).any fun z=>decide (x=z))=false:=fI
 clear aK fI
 refine ak (fun ab=>?_) (fun aq=>?_)
 ·have ab:k<l.length:=by have ab:(k:Int)<l.length:=ab;omega
  have hs:=rF ab fun z=>decide (x=z)
  rw[hn,po]at hs
  refine aG.mk rfl (bE.mk l[k] (by omega) (get_some ab) ?_)
  refine ak (fun c=>?_) (fun c=>?_)
  ·have c:x=l[k]:=c
   have hp:(l.any fun z=>decide (x=z))=true:=mF.2 ⟨l[k],bP ab,aT c⟩
   exact .done ⟨_,rfl,rfl,by rw[hp];exact aT (by omega)⟩
  ·have c:¬x=l[k]:=c
   exact aY (k+1) (by show l.length-(k+1)<l.length-k;omega) ⟨ab,hs.trans (bS c)⟩ ⟨rfl,rfl,rfl,aS (by omega),trivial⟩ (.refl _)
 ·have aq:k=l.length:=by have aq:¬(k:Int)<l.length:=aq;omega
  subst aq
  rw[fA]at hn
  exact .done ⟨_,rfl,rfl,by rw[hn];rfl⟩
theorem ZL(l:List Int)(x:Int)(σ:Hp)(hl:l.length≤1000000):ACalls Tryz.prog 301 [.ae (.int .u64) l,.int .u64 x] σ (ay (.bool (l.any fun z=>decide (x=z))) σ):=by
 refine ar Tryz.func301 ?_
 refine .mk [] _ (afn l x _ hl) ?_
 rintro _ _ ⟨n,rfl,rfl,hn⟩
 rw[← hn]
 refine ak (fun c=>?_) (fun c=>?_)
 ·have c:0≤n:=c
  rw[aT c]
  exact .done ⟨rfl,rfl⟩
 ·have c:¬0≤n:=c
  rw[bS c]
  exact .done ⟨rfl,rfl⟩
theorem U7(xs ys:List Int)(σ:Hp)(h1:xs.length≤1000000):ACalls Tryz.prog 244 [.ae (.int .u64) xs,.ae (.int .u64) ys] σ (ay (.bool (decide (xs=ys))) σ):=by
 refine ar Tryz.func244 ?_
 refine cX (fun hl=>?_) (fun hl=>?_)
 ·have:xs≠ys:=by rintro rfl;simp at hl
  exact .done ⟨by simp[this];rfl,rfl⟩
 ·have hl:(!decide ((xs.length:Int)=(ys.length:Int)))=false:=hl
  have hlen:xs.length=ys.length:=by simp at hl;omega
  refine bQ (S:=Nat) (fun k=>[(0,.ae (.int .u64) xs),(1,.ae (.int .u64) ys),(12,.int .i64 xs.length),(13,.int .i64 k)]) (fun _=>σ) (fun k=>k≤xs.length∧xs.take k=ys.take k) (fun k=>xs.length-k) 0 ⟨⟨bA _,rfl⟩,⟨rfl,rfl,rfl,rfl,trivial⟩,rfl⟩ ?_
  rintro k g ⟨hk,fi⟩
  refine ak (fun ab=>?_) (fun aq=>?_)
  ·have dQ:k<xs.length:=by omega
   have xU:k<ys.length:=by omega
   refine gq.quiet (by kernel_rfl) ?_
   refine aG.mk rfl (bE.mk xs[k] (by omega) (get_some dQ) ?_)
   refine aG.mk rfl (bE.mk ys[k] (by omega) (get_some xU) ?_)
   refine cX (fun hx=>?_) (fun hx=>?_)
   ·have:xs≠ys:=by rintro rfl;simp at hx
    exact .done ⟨by simp[this];rfl,rfl⟩
   ·have jA:xs[k]=ys[k]:=by simpa using hx
    refine next (k+1) (Nat.sub_lt_sub_left dQ (PD k)) ⟨dQ,?_⟩ ⟨rfl,rfl,rfl,aS (by omega),trivial⟩ rfl
    rw[ff dQ,ff xU,fi,jA]
  ·obtain rfl:k=xs.length:=by omega
   have:xs=ys:=by
    rw[fA]at fi
    rw[fi,hlen,fA]
   exact .done ⟨by simp[this];rfl,rfl⟩
def cP(what width:Int):Bool:=decide (1≤what)&&decide (what≤3)&&decide (0≤width)&&decide (width≤1024)
theorem Oi(what width:Int)(σ:Hp):ACalls Tryz.prog 112 [.int .i64 what,.int .i64 width] σ (ay (.bool (cP what width)) σ):=by
 refine ar Tryz.func112 ?_
 refine ak (fun c1=>?_) (fun c1=>?_)
 ·have c1:1≤what:=c1
  refine ak (fun c2=>?_) (fun c2=>?_)
  ·have c2:what≤3:=c2
   refine ak (fun c3=>?_) (fun c3=>?_)
   ·have c3:0≤width:=c3
    refine ak (fun c4=>?_) (fun c4=>?_)
    ·have c4:width≤1024:=c4
     exact .done ⟨cy (by first | (simp_all [cP];done) | (simp_all [cP];intros;omega)),rfl⟩
    ·have c4:¬(width≤1024):=c4
     exact .done ⟨cy (by first | (simp_all [cP];done) | (simp_all [cP];intros;omega)),rfl⟩
   ·have c3:¬(0≤width):=c3
    exact .done ⟨cy (by first | (simp_all [cP];done) | (simp_all [cP];intros;omega)),rfl⟩
  ·have c2:¬(what≤3):=c2
   exact .done ⟨cy (by first | (simp_all [cP];done) | (simp_all [cP];intros;omega)),rfl⟩
 ·have c1:¬(1≤what):=c1
  exact .done ⟨cy (by first | (simp_all [cP];done) | (simp_all [cP];intros;omega)),rfl⟩
def cN(what:Int)(xs ys:List Int):List Int:=List.zipWith (de what) xs ys
theorem Qc(what:Int)(xs ys:List Int)(h:xs.length=ys.length):(cN what xs ys).length=xs.length:=by simp[cN,h]
theorem ad4(what:Int)(xs ys:List Int)(σ:Hp)(hx:aR xs)(hy:aR ys)(h:xs.length=ys.length)(hl:xs.length≤1000000):ACalls Tryz.prog 127 [.int .i64 what,.ae (.int .u64) xs,.ae (.int .u64) ys] σ (ay (.ae (.int .u64) (cN what xs ys)) σ):=by
 refine ar Tryz.func127 ?_
 refine .wrap 7 _ rfl rfl ?_
 refine bQ (S:=Nat×AV×Hp) (fun s=>[(0,.int .i64 what),(1,.ae (.int .u64) xs),(2,.ae (.int .u64) ys),(7,.via s.2.1),(9,.ae (.int .u64) xs),(10,.int .i64 xs.length),(11,.int .i64 s.1)]) (fun s=>s.2.2++σ) (fun s=>s.1≤xs.length∧Acc 1 s.1 s.2.1 s.2.2 (aP ((cN what xs ys).take s.1))) (fun s=>xs.length-s.1) (0,.ai,[]) ⟨⟨bA _,.nil⟩,⟨rfl,rfl,rfl,rfl,rfl,rfl,rfl,trivial⟩,rfl⟩ ?_
 rintro⟨k,v,acc⟩ g ⟨aK,gp⟩
 have hk:k≤xs.length:=aK
 have bY:Acc 1 k v acc (aP ((cN what xs ys).take k)):=gp
 clear aK gp
 have gP:=Qc what xs ys h
 refine ak (fun ab=>?_) (fun aq=>?_)
 ·have ab:k<xs.length:=by have ab:(k:Int)<xs.length:=ab;omega
  have dA:k<ys.length:=by omega
  have hz:=hx _ (bP ab)
  have fR:=hy _ (bP dA)
  have OS:(cN what xs ys)[k]'(by omega)=de what xs[k] ys[k]:=by simp[cN]
  refine .sched [10] (upto [10] 14 0) (by kernel_rfl) ?_
  refine aG.mk rfl ?_
  refine bE.mk xs[k] (by omega) (get_some ab) ?_
  refine aG.mk rfl ?_
  refine bE.mk ys[k] (by omega) (get_some dA) ?_
  refine aI [] (agE what xs[k] ys[k] _ hz.1 fR.1 hz.2 fR.2) ?_
  intro aB
  refine jP [_] bY (.af 0 aB 0 1 _ rfl (cI rfl)) rfl (by omega) (by decide) (by decide) (fun v' bD h'=>?_)
  refine aY (k+1,v',bD) (by show xs.length-(k+1)<xs.length-k;omega) ⟨ab,?_⟩ ⟨rfl,rfl,rfl,rfl,rfl,rfl,aS (by omega),trivial⟩ (.drop 0 1 (aL rfl))
  show Acc 1 (k+1) v' bD (aP ((cN what xs ys).take (k+1)))
  rw[ff (by omega),OS,aP,cW]
  exact h'
 ·have aq:k=xs.length:=by have aq:¬(k:Int)<xs.length:=aq;omega
  subst aq
  rw[ek (wP gP)]at bY
  exact qs (s:=.int .u64) (l:=cN what xs ys) [] bY gP.symm (by rw[kC]) (by decide) (.done ⟨rfl,rfl⟩)
theorem E0(what width:Int)(σ:Hp):ACalls Tryz.prog 152 [.int .i64 what,.int .i64 width] σ (ay (.bool (cP what width)) σ):=by
 refine ar Tryz.func152 ?_
 have hk:∀w:Int,(1≤w∧w≤3)↔(w=1∨w=2∨w=3):=fun w=>by omega
 have hI:cP what width=(decide (what=1∨what=2∨what=3)&&decide (0≤width)&&decide (width≤1024)):=by
  unfold cP
  rw[← Bool.decide_and,decide_eq_decide.2 (hk what)]
 rw[hI]
 refine ak (fun c1=>?_) (fun c1=>?_)
 ·have c1:what=1:=c1
  have hw:(what=1∨what=2∨what=3):=.inl c1
  refine ak (fun d1=>?_) (fun d1=>?_)
  ·have d1:0≤width:=d1
   refine ak (fun d2=>?_) (fun d2=>?_)
   ·have d2:width≤1024:=d2
    rw[aT hw,aT d1,aT d2]
    exact .done ⟨rfl,rfl⟩
   ·have d2:¬width≤1024:=d2
    rw[aT hw,aT d1,bS d2]
    exact .done ⟨rfl,rfl⟩
  ·have d1:¬0≤width:=d1
   rw[aT hw,bS d1]
   exact .done ⟨rfl,rfl⟩
 ·have c1:¬what=1:=c1
  refine ak (fun c2=>?_) (fun c2=>?_)
  ·have c2:what=2:=c2
   have hw:(what=1∨what=2∨what=3):=.inr (.inl c2)
   refine ak (fun d1=>?_) (fun d1=>?_)
   ·have d1:0≤width:=d1
    refine ak (fun d2=>?_) (fun d2=>?_)
    ·have d2:width≤1024:=d2
     rw[aT hw,aT d1,aT d2]
     exact .done ⟨rfl,rfl⟩
    ·have d2:¬width≤1024:=d2
     rw[aT hw,aT d1,bS d2]
     exact .done ⟨rfl,rfl⟩
   ·have d1:¬0≤width:=d1
    rw[aT hw,bS d1]
    exact .done ⟨rfl,rfl⟩
  ·have c2:¬what=2:=c2
   refine ak (fun c3=>?_) (fun c3=>?_)
   ·have c3:what=3:=c3
    have hw:(what=1∨what=2∨what=3):=.inr (.inr c3)
    refine ak (fun d1=>?_) (fun d1=>?_)
    ·have d1:0≤width:=d1
     refine ak (fun d2=>?_) (fun d2=>?_)
     ·have d2:width≤1024:=d2
      rw[aT hw,aT d1,aT d2]
      exact .done ⟨rfl,rfl⟩
     ·have d2:¬width≤1024:=d2
      rw[aT hw,aT d1,bS d2]
      exact .done ⟨rfl,rfl⟩
    ·have d1:¬0≤width:=d1
     rw[aT hw,bS d1]
     exact .done ⟨rfl,rfl⟩
   ·have c3:¬what=3:=c3
    rw[bS (p:=what=1∨what=2∨what=3) (fun h=>h.elim c1 fun h=>h.elim c2 c3)]
    exact .done ⟨rfl,rfl⟩
def eN(what width:Int):Int:=if cP what width=true then (if what=3 then width else (ef width:Int)) else 0
theorem HZ(what width:Int)(σ:Hp):ACalls Tryz.prog 85 [.int .i64 what,.int .i64 width] σ (ay (.int .i64 (eN what width)) σ):=by
 refine ar Tryz.func85 ?_
 unfold eN
 refine dC [] (E0 what width _) (fun hi=>?_) (fun hi=>?_)
 ·rw[ah hi]
  have h3:(what=1∨what=2∨what=3):=by unfold cP at hi;simp at hi;omega
  refine ak (fun c1=>?_) (fun c1=>?_)
  ·have c1:what=1:=c1
   rw[ag (by omega)]
   refine aw [] (HY width _) ?_
   exact .done ⟨rfl,rfl⟩
  ·have c1:¬what=1:=c1
   refine ak (fun c2=>?_) (fun c2=>?_)
   ·have c2:what=2:=c2
    rw[ag (by omega)]
    refine aw [] (HY width _) ?_
    exact .done ⟨rfl,rfl⟩
   ·have c2:¬what=2:=c2
    rw[ah (by omega)]
    exact .done ⟨rfl,rfl⟩
 ·rw[ag (by rw[hi];decide)]
  exact .done ⟨rfl,rfl⟩
theorem ab4(what width:Int)(σ:Hp):ACalls Tryz.prog 57 [.int .i64 what,.int .i64 width] σ (ay (.int .i64 (eN what width)) σ):=by
 refine ar Tryz.func57 ?_
 unfold eN
 refine dC [] (Oi what width _) (fun hi=>?_) (fun hi=>?_)
 ·rw[ah hi]
  refine ak (fun c1=>?_) (fun c1=>?_)
  ·have c1:what=3:=c1
   rw[ah c1]
   exact .done ⟨rfl,rfl⟩
  ·have c1:¬what=3:=c1
   rw[ag c1]
   refine aw [] (VR width _) ?_
   exact .done ⟨rfl,rfl⟩
 ·rw[ag (by rw[hi];decide)]
  exact .done ⟨rfl,rfl⟩
theorem AI(what width:Int):0≤eN what width∧eN what width≤1024:=by
 unfold eN
 by_cases h:cP what width=true
 ·rw[ah h]
  have:=AW width
  unfold cP at h;simp at h
  split <;> omega
 ·rw[ag h];omega
def okW(a:List Int):Bool:=a.all fun z=>decide (aJ z=z)
def cM(what w:Int)(a:List Int):Bool:=cP what w&&decide ((a.length:Int)=eN what w)&&(if what=3 then okW a else gE a w)
theorem aes(w:Int):(eJ w||decide (w=0)||decide (w=1))=decide (aJ w=w):=by
 unfold aJ
 by_cases h0:w=0
 ·simp[h0]
 ·by_cases h1:w=1
  ·simp[h1]
  ·cases h2:eJ w with
   |true=>simp[h0,h1]
   |false=>simp[h0,h1];exact fun h=>h1 h.symm
theorem aiS(z:Int)(σ:Hp):ACalls Tryz.prog 201 [.int .u64 z] σ (ay (.bool (!decide (aJ z=z))) σ):=by
 refine ar Tryz.func201 ?_
 refine aw [] (aIs z _) ?_
 rw[aes]
 exact .done ⟨rfl,rfl⟩
theorem aee(a:List Int):(!a.any fun z=> !decide (aJ z=z))=okW a:=by
 unfold okW
 rw[List.all_eq_not_any_not]
theorem BR(what w:Int)(a:List Int)(σ:Hp)(ha:aR a)(hl:a.length≤1000000):ACalls Tryz.prog 148 [.int .i64 what,.int .i64 w,.ae (.int .u64) a] σ (ay (.bool (cM what w a)) σ):=by
 refine ar Tryz.func148 ?_
 have wz:=AI what w
 unfold cM
 refine dC [] (E0 what w _) (fun hi=>?_) (fun hi=>?_)
 ·refine aw [] (HZ what w _) ?_
  refine cX (fun c=>?_) (fun c=>?_)
  ·have c:(!decide ((a.length:Int)=eN what w))=true:=c
   have c:¬((a.length:Int)=eN what w):=by simpa using c
   rw[hi,bS c]
   exact .done ⟨rfl,rfl⟩
  ·have c:(!decide ((a.length:Int)=eN what w))=false:=c
   have c:(a.length:Int)=eN what w:=by simpa using c
   rw[hi,aT c]
   refine cX (fun c3=>?_) (fun c3=>?_)
   ·have c3:¬(what=3):=by simpa using c3
    rw[ag c3]
    refine aw [] (DS a w _ ha (by omega)) ?_
    exact .done ⟨rfl,rfl⟩
   ·have c3:what=3:=by simpa using c3
    rw[ah c3,← aee]
    refine aw [] (ZJ 201 [] a (fun z:Int=> !decide (aJ z=z)) _ hl (fun i hi=>aiS _ _)) ?_
    exact .done ⟨rfl,rfl⟩
 ·rw[hi]
  exact .done ⟨rfl,rfl⟩
theorem afw(what w:Int)(a:List Int)(q1 q2:Nat)(σ:Hp)(ha:aR a)(hl:a.length≤1000000):ACalls Tryz.prog 303 [.ae (.int .u64) a,.ptr q1 0,.ptr q2 0] ((q2,[.int .i64 w])::(q1,[.int .i64 what])::σ) (ay (.bool (!cM what w a)) ((q2,[.int .i64 w])::(q1,[.int .i64 what])::σ)):=by
 refine ar Tryz.func303 ?_
 refine aa 1 ?_
 refine aa 0 ?_
 refine aw [] (BR what w a _ ha hl) ?_
 exact .done ⟨rfl,rfl⟩
def rJ(what w:Int)(l:List (List Int)):Int:=if cP what w then (if (l.any fun a=> !cM what w a) then 2 else 0) else 10
theorem afj(what w:Int)(l:List (List Int))(σ:Hp)(hl:l.length≤1000000)(ha:∀a∈l,aR a∧a.length≤1000000):ACalls Tryz.prog 278 [.int .i64 what,.int .i64 w,.ae (.slice (.int .u64)) l] σ (ay (.int .i64 (rJ what w l)) σ):=by
 refine ar Tryz.func278 ?_
 unfold rJ
 intro q1
 intro q2
 refine aa 1 ?_
 refine aa 0 ?_
 refine dC [] (E0 what w _) (fun hi=>?_) (fun hi=>?_)
 ·refine dC [] (QG 303 [.ptr q1 0,.ptr q2 0] l (fun a:List Int=> !cM what w a) _ hl (fun i hi=>afw what w l[i] q1 q2 _ (ha _ (bP hi)).1 (ha _ (bP hi)).2)) (fun hc=>?_) (fun hc=>?_)
  ·exact .drop 0 2 (.done ⟨aQ (by rw[ah hi];exact (ah hc).symm),rfl⟩)
  ·exact .drop 0 2 (.done ⟨aQ (by rw[ah hi];exact (ag (fun h=>Bool.noConfusion (hc.symm.trans h))).symm),rfl⟩)
 ·exact .drop 0 2 (.done ⟨aQ (ag (by rw[hi];decide)).symm,rfl⟩)
theorem Sk{what w:Int}{a b:List Int}(h:rJ what w [a,b]=0):cM what w a=true∧cM what w b=true:=by
 unfold rJ at h
 cases hi:cP what w with
 |false=>rw[hi]at h;exact absurd h (by simp)
 |true=>
  rw[hi,ah rfl]at h
  cases ha:cM what w a with
  |false=>simp[ha]at h
  |true=>
   cases hb:cM what w b with
   |false=>simp[ha,hb]at h
   |true=>exact⟨rfl,rfl⟩
theorem tG{what w:Int}{a:List Int}(h:cM what w a=true):(a.length:Int)=eN what w:=by
 unfold cM at h;simp at h;exact h.1.2
def r8(e:Int)(l:List Int):List Int:=if e=0 then l else []
theorem ve{e:Int}{l:List Int}(h:e=0):r8 e l=l:=ah h
theorem DF{e:Int}{l:List Int}(h:¬e=0):r8 e l=[]:=ag h
theorem acu{R:AV→Hp→Prop}(fr:Hp){acc σ:Hp}{s:Sh}{k:Nat}{v y:AV}{cs:List AV}{l:List s.T}(h:Acc s.size k v acc cs)(hl:k=l.length)(hc:cs=l.flatMap s.cells)(hp:0<s.size)(go:Fin R (.tup [.ae s l,y]) (fr++σ)):Fin R (.tup [v,y]) (fr++(acc++σ)):=by
 subst hl
 have hlen:=h.length
 refine .perm (eX fr acc σ) ?_
 generalize hk:l.length=k at h
 cases h with
 |nil=>
  obtain rfl:=iE.1 hk
  exact .nil (cd (.nil _) (.refl _)) go
 |af b k cs h=>
  subst hk
  exact .cJ 0 b 0 l.length s.size cs s l rfl (by rw[gz,ek (by omega)];exact hc) ⟨rfl,rfl,hp⟩ (cd .here (.refl _)) go
theorem VY(what w:Int)(xs ys:List Int)(σ:Hp)(hx:aR xs)(hy:aR ys)(lx:xs.length≤1000000)(ly:ys.length≤1000000):ACalls Tryz.prog 243 [.int .i64 what,.int .i64 w,.ae (.int .u64) xs,.ae (.int .u64) ys] σ (ay (.tup [.ae (.int .u64) (r8 (rJ what w [xs,ys]) (cN what xs ys)),.int .i64 (rJ what w [xs,ys])]) σ):=by
 refine ar Tryz.func243 ?_
 intro b1
 have pc:∀a∈[xs,ys],aR a∧a.length≤1000000:=by
  intro a ha
  rcases eB.1 ha with rfl | ha
  ·exact⟨hx,lx⟩
  ·rw[bB.1 ha];exact⟨hy,ly⟩
 refine .cJ (args':=[.int .i64 what,.int .i64 w,.ae (.slice (.int .u64)) [xs,ys]]) 0 b1 0 2 1 _ (.slice (.int .u64)) [xs,ys] rfl rfl ⟨rfl,rfl,by decide⟩ (cd (.refl _) (cd (.refl _) (cd .here xC))) (aw [] (afj what w [xs,ys] _ (by show 2≤1000000;omega) pc) ?_)
 have hL:=fun (h:rJ what w [xs,ys]=0)=>Sk h
 generalize rJ what w [xs,ys]=e at hL ⊢
 refine cX (fun c=>?_) (fun c=>?_)
 ·have c:¬(e=0):=by simpa using c
  exact .nil (cd (.nil _) (.refl _)) (.done ⟨by rw[DF c];rfl,rfl⟩)
 ·have c:e=0:=by simpa using c
  obtain⟨v1,v2⟩:=hL c
  have h:xs.length=ys.length:=by have h1:=tG v1;have h2:=tG v2;omega
  refine .wrap 11 _ rfl rfl ?_
  refine bQ (S:=Nat×AV×Hp) (fun s=>[(0,.int .i64 what),(2,.ae (.int .u64) xs),(3,.ae (.int .u64) ys),(11,.via s.2.1),(23,.int .i64 xs.length),(24,.int .i64 s.1)]) (fun s=>s.2.2++σ) (fun s=>s.1≤xs.length∧Acc 1 s.1 s.2.1 s.2.2 (aP ((cN what xs ys).take s.1))) (fun s=>xs.length-s.1) (0,.ai,[]) ⟨⟨bA _,.nil⟩,⟨rfl,rfl,rfl,rfl,rfl,rfl,trivial⟩,rfl⟩ ?_
  rintro⟨k,v,acc⟩ g ⟨aK,gp⟩
  have hk:k≤xs.length:=aK
  have bY:Acc 1 k v acc (aP ((cN what xs ys).take k)):=gp
  clear aK gp
  have gP:=Qc what xs ys h
  refine ak (fun ab=>?_) (fun aq=>?_)
  ·have ab:k<xs.length:=by have ab:(k:Int)<xs.length:=ab;omega
   have dA:k<ys.length:=by omega
   have OS:(cN what xs ys)[k]'(by omega)=de what xs[k] ys[k]:=by simp[cN]
   refine .sched [10] (upto [10] 14 0) (by kernel_rfl) ?_
   refine aG.mk rfl ?_
   refine bE.mk xs[k] (by omega) (get_some ab) ?_
   refine aG.mk rfl ?_
   refine bE.mk ys[k] (by omega) (get_some dA) ?_
   refine aI [] (ND what xs[k] ys[k] _) ?_
   intro aB
   refine jP [_] bY (.af 0 aB 0 1 _ rfl (cI rfl)) rfl (by omega) (by decide) (by decide) (fun v' bD h'=>?_)
   refine aY (k+1,v',bD) (by show xs.length-(k+1)<xs.length-k;omega) ⟨ab,?_⟩ ⟨rfl,rfl,rfl,rfl,rfl,aS (by omega),trivial⟩ (.drop 0 1 (aL rfl))
   show Acc 1 (k+1) v' bD (aP ((cN what xs ys).take (k+1)))
   rw[ff (by omega),OS,aP,cW]
   exact h'
  ·have aq:k=xs.length:=by have aq:¬(k:Int)<xs.length:=aq;omega
   subst aq
   rw[ek (wP gP)]at bY
   exact acu (s:=.int .u64) (l:=cN what xs ys) [] bY gP.symm (by rw[kC]) (by decide) (.done ⟨by rw[ve c,c];rfl,rfl⟩)
theorem xz{what:Int}:∀{xs ys:List Int},aR xs→aR ys→aR (cN what xs ys)
 | [],_,_,_=>fun z hz=>by simp[cN]at hz
 |_::_,[],_,_=>fun z hz=>by simp[cN]at hz
 |x::xs,y::ys,hx,hy=>fun z hz=>by
  rcases eB.1 (show z∈de what x y::cN what xs ys from hz) with rfl | hz
  ·exact Uc (hx _ (cj ..)) (hy _ (cj ..))
  ·exact xz (fun a ha=>hx a (dp _ ha)) (fun a ha=>hy a (dp _ ha)) z hz
def rK(what w:Int)(xs ys:List Int):Bool:=decide (rJ what w [xs,ys]=0)&&decide (cN what xs ys=ys)
theorem join_le(what:Int)(xs ys:List Int):(cN what xs ys).length≤xs.length:=by unfold cN;rw[F9];omega
theorem afk(what w:Int)(xs ys:List Int)(σ:Hp)(hx:aR xs)(hy:aR ys)(lx:xs.length≤1000000)(ly:ys.length≤1000000):ACalls Tryz.prog 194 [.int .i64 what,.int .i64 w,.ae (.int .u64) xs,.ae (.int .u64) ys] σ (ay (.bool (rK what w xs ys)) σ):=by
 refine ar Tryz.func194 ?_
 unfold rK
 have hj:=join_le what xs ys
 refine aw [] (VY what w xs ys _ hx hy lx ly) ?_
 generalize rJ what w [xs,ys]=e
 refine ak (fun c=>?_) (fun c=>?_)
 ·have c:e=0:=c
  rw[ve c,aT c]
  refine aw [] (U7 _ _ _ (by omega)) ?_
  exact .done ⟨rfl,rfl⟩
 ·have c:¬e=0:=c
  rw[bS c]
  exact .done ⟨rfl,rfl⟩
def fw(what w:Int):List Int:=if what=2∧cP what w=true then fg w else List.replicate (eN what w).toNat 0
theorem Ht(what w:Int)(σ:Hp):ACalls Tryz.prog 149 [.int .i64 what,.int .i64 w] σ (ay (.ae (.int .u64) (fw what w)) σ):=by
 refine ar Tryz.func149 ?_
 have hw:=AI what w
 have hz:fw what w=List.replicate (eN what w).toNat 0→∀q,Fin (ay (.ae (.int .u64) (fw what w)) σ) (.af q 0 (eN what w).toNat 1) ((q,cD [.int .u64 0] (eN what w).toNat)::σ):=fun hb q=>by
  rw[xv,← hb]
  have hl:(fw what w).length=(eN what w).toNat:=by rw[hb,gl]
  generalize fw what w=Z at hl
  refine .cJ 0 q 0 _ 1 _ (.int .u64) Z rfl ?_ ⟨hl,rfl,by decide⟩ .here (.done ⟨rfl,rfl⟩)
  rw[gz,← kC]
  exact ek (by rw[aP,cg,hl];omega)
 refine ak (fun c=>?_) (fun c=>?_)
 ·have c:what=2:=c
  refine dC [] (E0 what w _) (fun hi=>?_) (fun hi=>?_)
  ·refine aw [] (WJ w _) ?_
   have hb:fw what w=fg w:=ah ⟨c,hi⟩
   rw[hb]
   exact .done ⟨rfl,rfl⟩
  ·refine aw [] (HZ what w _) ?_
   refine bc ?_
   intro q
   exact hz (ag fun h=>Bool.noConfusion (hi.symm.trans h.2)) q
 ·have c:¬what=2:=c
  refine aw [] (HZ what w _) ?_
  refine bc ?_
  intro q
  exact hz (ag fun h=>c h.1) q
def isN(x y:Int):Bool:=decide (x=aE x)&&decide (y=aE y)
def qA(w:Int)(r:oY):Bool:=if r.1 = -1 then isN r.2.1.1 r.2.1.2.1 else decide (0≤r.1)&&decide (r.1<w)&&(decide (r.2.1.1=0)&&decide (r.2.1.2.1=0))
theorem eq2(x y:Int):fP (tU (nC x y) (nC 0 0))=(decide (x=0)&&decide (y=0)):=by
 show (decide (x=0)&&(decide (y=0)&&true))=_
 rw[Ka]
theorem WE(w:Int)(r:oY)(σ:Hp):ACalls Tryz.prog 254 [.int .i64 w,.agg (Ez r)] σ (ay (.bool (qA w r)) σ):=by
 obtain⟨v,⟨x,y,u⟩,u2⟩:=r
 refine ar Tryz.func254 ?_
 unfold qA
 show vJ Tryz.prog tt _ [.int .i64 w,.agg [.int .i64 v,.int .i64 x,.int .i64 y]] σ (ay (.bool (if v = -1 then isN x y else decide (0≤v)&&decide (v<w)&&(decide (x=0)&&decide (y=0)))) σ)
 intro aB
 refine aa 0 ?_
 refine ak (fun c2=>?_) (fun c2=>?_)
 ·have c2:v = -1:=c2
  refine aa 0 ?_
  refine aw [] (aix _ _ _) ?_
  exact .drop 0 1 (.done ⟨cy (by rw[ah c2];rfl),rfl⟩)
 ·have c2:¬(v = -1):=c2
  refine aa 0 ?_
  refine ak (fun c3=>?_) (fun c3=>?_)
  ·have c3:0≤v:=c3
   refine aa 0 ?_
   refine ak (fun c4=>?_) (fun c4=>?_)
   ·have c4:v<w:=c4
    refine aa 0 ?_
    refine EqAt.mk (by kernel_rfl) (by kernel_rfl) ?_
    refine cX (fun c5=>?_) (fun c5=>?_)
    ·have c5:=(eq2 x y).symm.trans c5
     exact .drop 0 1 (.done ⟨cy (by rw[ag c2,aT c3,aT c4,c5];rfl),rfl⟩)
    ·have c5:=(eq2 x y).symm.trans c5
     exact .drop 0 1 (.done ⟨cy (by rw[ag c2,aT c3,aT c4,c5];rfl),rfl⟩)
   ·have c4:¬(v<w):=c4
    exact .drop 0 1 (.done ⟨cy (by rw[ag c2,aT c3,bS c4];rfl),rfl⟩)
  ·have c3:¬(0≤v):=c3
   exact .drop 0 1 (.done ⟨cy (by rw[ag c2,bS c3];rfl),rfl⟩)
def NN(r:oY):Bool:=decide (r.1=0)&&(decide (r.2.1.1=0)&&decide (r.2.1.2.1=0))
theorem KS(r:oY):fP (tU (Ez r) [.int .i64 0,.int .i64 0,.int .i64 0])=NN r:=by
 show (decide (r.1=0)&&(decide (r.2.1.1=0)&&(decide (r.2.1.2.1=0)&&true)))=_
 rw[Ka];rfl
def gF(w:Int)(c:dg):Bool:=if c.1<0 then false else if w≤c.1 then false else if c.2.1 < -1 then false else if 4<c.2.1 then false else if c.2.1 = -1 then NN c.2.2.1&&NN c.2.2.2.1 else qA w c.2.2.1&&qA w c.2.2.2.1
theorem agw(w:Int)(c:dg)(σ:Hp):ACalls Tryz.prog 209 [.int .i64 w,.agg (Ww c)] σ (ay (.bool (gF w c)) σ):=by
 refine ar Tryz.func209 ?_
 intro aB
 refine aa 0 ?_
 refine ak (fun c2=>?_) (fun c2=>?_)
 ·have c2:c.fst<0:=c2
  exact .drop 0 1 (.done ⟨cy (by simp[gF, *]),rfl⟩)
 ·have c2:¬(c.fst<0):=c2
  refine aa 0 ?_
  refine ak (fun c3=>?_) (fun c3=>?_)
  ·have c3:w≤c.fst:=c3
   exact .drop 0 1 (.done ⟨cy (by simp[gF, *]),rfl⟩)
  ·have c3:¬(w≤c.fst):=c3
   refine aa 0 ?_
   refine ak (fun c4=>?_) (fun c4=>?_)
   ·have c4:c.snd.fst < -1:=c4
    exact .drop 0 1 (.done ⟨cy (by simp[gF, *]),rfl⟩)
   ·have c4:¬(c.snd.fst < -1):=c4
    refine aa 0 ?_
    refine ak (fun c5=>?_) (fun c5=>?_)
    ·have c5:4<c.snd.fst:=c5
     exact .drop 0 1 (.done ⟨cy (by simp[gF, *]),rfl⟩)
    ·have c5:¬(4<c.snd.fst):=c5
     refine aa 0 ?_
     refine ak (fun c6=>?_) (fun c6=>?_)
     ·have c6:c.snd.fst = -1:=c6
      refine aa 0 ?_
      refine EqAt.mk (by kernel_rfl) (by kernel_rfl) ?_
      refine cX (fun c7=>?_) (fun c7=>?_)
      ·have c7:=(KS c.2.2.1).symm.trans c7
       refine aa 0 ?_
       refine EqAt.mk (by kernel_rfl) (by kernel_rfl) ?_
       refine cX (fun c8=>?_) (fun c8=>?_)
       ·have c8:=(KS c.2.2.2.1).symm.trans c8
        exact .drop 0 1 (.done ⟨cy (by simp[gF, *]),rfl⟩)
       ·have c8:=(KS c.2.2.2.1).symm.trans c8
        exact .drop 0 1 (.done ⟨cy (by simp[gF, *]),rfl⟩)
      ·have c7:=(KS c.2.2.1).symm.trans c7
       exact .drop 0 1 (.done ⟨cy (by simp[gF, *]),rfl⟩)
     ·have c6:¬(c.snd.fst = -1):=c6
      refine aa 0 ?_
      refine dC [] (WE w c.2.2.1 _) (fun cA=>?_) (fun cA=>?_)
      ·refine aa 0 ?_
       refine dC [] (WE w c.2.2.2.1 _) (fun cB=>?_) (fun cB=>?_)
       ·exact .drop 0 1 (.done ⟨cy (by simp[gF, *]),rfl⟩)
       ·exact .drop 0 1 (.done ⟨cy (by simp[gF, *]),rfl⟩)
      ·exact .drop 0 1 (.done ⟨cy (by simp[gF, *]),rfl⟩)
abbrev kY:Sh:=.field (.slice (.int .u64)) (.field (.slice (.int .u64)) (.field (.slice jD) .nil))
abbrev zW(g k:List Int)(l:List dg):List AV:=[.ae (.int .u64) g,.ae (.int .u64) k,.ae jD l]
theorem ado(w:Int)(c:dg)(q:Nat)(σ:Hp):ACalls Tryz.prog 208 [II c,.ptr q 0] ((q,[.int .i64 w])::σ) (ay (.bool (!gF w c)) ((q,[.int .i64 w])::σ)):=by
 refine ar Tryz.func208 ?_
 unfold II
 intro aB
 refine aa 1 ?_
 refine aa 0 ?_
 refine aw [] (agw w c _) ?_
 exact .drop 0 1 (.done ⟨rfl,rfl⟩)
def zD(what w:Int)(g k:List Int)(l:List dg):Bool:=if what=3 then decide (g.length+k.length=0)&&(l.all (gF w)) else decide (l.length=0)&&gE g w&&gE k w
def fH(what w:Int)(g k:List Int)(l:List dg):Int:=if cP what w=true then (if zD what w g k l=true then 0 else 2) else 10
theorem MG{α:Type}(l:List α){p:α→Bool}:l.all p = !l.any fun c=> !p c:=List.all_eq_not_any_not ..
theorem WC{w:Int}(l:List dg){b:Bool}(h:(l.any fun c=> !gF w c)=b):l.all (gF w) = !b:=by rw[MG,h]
theorem Oe{what w:Int}{g k:List Int}{l:List dg}(hi:cP what w=true)(ht:zD what w g k l=true):0=fH what w g k l:=by unfold fH;rw[ah hi,ah ht]
theorem x5{what w:Int}{g k:List Int}{l:List dg}(hi:cP what w=true)(ht:zD what w g k l=false):2=fH what w g k l:=by unfold fH;rw[ah hi,ht];rfl
theorem Nz{what w:Int}{g k:List Int}{l:List dg}(hi:cP what w=false):10=fH what w g k l:=by unfold fH;rw[hi];rfl
theorem v7{what w:Int}{g k:List Int}{l:List dg}(h:¬what=3):zD what w g k l=(decide (l.length=0)&&gE g w&&gE k w):=ag h
theorem E6{what w:Int}{g k:List Int}{l:List dg}(h:what=3):zD what w g k l=(decide (g.length+k.length=0)&&(l.all (gF w))):=ah h
theorem qv{what w:Int}(h:1≤what∧what≤3∧0≤w∧w≤1024):cP what w=true:=by unfold cP;simp;omega
theorem Nn{what w:Int}(h:¬(1≤what∧what≤3∧0≤w∧w≤1024)):cP what w=false:=by unfold cP;simp;omega
theorem MJ(what w:Int)(g k:List Int)(l:List dg)(σ:Hp)(hg:aR g)(hk:aR k)(lg:g.length≤10000)(lk:k.length≤10000)(ll:l.length≤1000000):ACalls Tryz.prog 151 [.int .i64 what,.int .i64 w,.agg (zW g k l)] σ (ay (.int .i64 (fH what w g k l)) σ):=by
 refine ar Tryz.func151 ?_
 intro aB
 intro dc
 refine aa 1 ?_
 refine ak (fun c3=>?_) (fun c3=>?_)
 ·have c3:w<0:=c3
  exact .drop 0 2 (.done ⟨aQ (Nz (Nn (by omega))),rfl⟩)
 ·have c3:¬(w<0):=c3
  refine aa 1 ?_
  refine ak (fun c4=>?_) (fun c4=>?_)
  ·have c4:1024<w:=c4
   exact .drop 0 2 (.done ⟨aQ (Nz (Nn (by omega))),rfl⟩)
  ·have c4:¬(1024<w):=c4
   refine ak (fun c5=>?_) (fun c5=>?_)
   ·have c5:what=1:=c5
    refine aa 0 ?_
    refine aa 1 ?_
    refine dC [] (DS g w _ hg lg) (fun cG=>?_) (fun cG=>?_)
    ·refine aa 0 ?_
     refine aa 1 ?_
     refine dC [] (DS k w _ hk lk) (fun cK=>?_) (fun cK=>?_)
     ·refine aa 0 ?_
      refine ak (fun c6=>?_) (fun c6=>?_)
      ·have c6:(↑l.length:Int)=0:=c6
       have iD:decide (l.length=0)=true:=aT (by have h0:(l.length:Int)=0:=c6;omega)
       exact .drop 0 2 (.done ⟨aQ (Oe (qv (by omega)) (by rw[v7 (by omega),iD,cG,cK];rfl)),rfl⟩)
      ·have c6:¬((↑l.length:Int)=0):=c6
       have iD:decide (l.length=0)=false:=bS (by have h0:¬(l.length:Int)=0:=c6;omega)
       exact .drop 0 2 (.done ⟨aQ (x5 (qv (by omega)) (by rw[v7 (by omega),iD];rfl)),rfl⟩)
     ·exact .drop 0 2 (.done ⟨aQ (x5 (qv (by omega)) (by rw[v7 (by omega),cK];simp)),rfl⟩)
    ·exact .drop 0 2 (.done ⟨aQ (x5 (qv (by omega)) (by rw[v7 (by omega),cG];simp)),rfl⟩)
   ·have c5:¬(what=1):=c5
    refine ak (fun c7=>?_) (fun c7=>?_)
    ·have c7:what=2:=c7
     refine aa 0 ?_
     refine aa 1 ?_
     refine dC [] (DS g w _ hg lg) (fun cG=>?_) (fun cG=>?_)
     ·refine aa 0 ?_
      refine aa 1 ?_
      refine dC [] (DS k w _ hk lk) (fun cK=>?_) (fun cK=>?_)
      ·refine aa 0 ?_
       refine ak (fun c8=>?_) (fun c8=>?_)
       ·have c8:(↑l.length:Int)=0:=c8
        have iD:decide (l.length=0)=true:=aT (by have h0:(l.length:Int)=0:=c8;omega)
        exact .drop 0 2 (.done ⟨aQ (Oe (qv (by omega)) (by rw[v7 (by omega),iD,cG,cK];rfl)),rfl⟩)
       ·have c8:¬((↑l.length:Int)=0):=c8
        have iD:decide (l.length=0)=false:=bS (by have h0:¬(l.length:Int)=0:=c8;omega)
        exact .drop 0 2 (.done ⟨aQ (x5 (qv (by omega)) (by rw[v7 (by omega),iD];rfl)),rfl⟩)
      ·exact .drop 0 2 (.done ⟨aQ (x5 (qv (by omega)) (by rw[v7 (by omega),cK];simp)),rfl⟩)
     ·exact .drop 0 2 (.done ⟨aQ (x5 (qv (by omega)) (by rw[v7 (by omega),cG];simp)),rfl⟩)
    ·have c7:¬(what=2):=c7
     refine ak (fun c9=>?_) (fun c9=>?_)
     ·have c9:what=3:=c9
      refine aa 0 ?_
      refine aa 0 ?_
      refine ak (fun j7=>?_) (fun j7=>?_)
      ·have j7:IntKind.i64.wrap ((↑g.length:Int)+(↑k.length:Int))=0:=j7
       refine aa 0 ?_
       rw[cE (by omega)]at j7
       refine dC [1] (ZM 208 [.ptr aB 0] l (fun c=> !gF w c) _ ll (fun i hi=>ado w l[i] aB _)) (fun cL=>?_) (fun cL=>?_)
       ·exact .drop 0 2 (.done ⟨aQ (x5 (qv (by omega)) (by rw[E6 c9,WC l cL];simp)),rfl⟩)
       ·exact .drop 0 2 (.done ⟨aQ (Oe (qv (by omega)) (by rw[E6 c9,WC l cL,aT (by omega)];rfl)),rfl⟩)
      ·have j7:¬(IntKind.i64.wrap ((↑g.length:Int)+(↑k.length:Int))=0):=j7
       exact .drop 0 2 (.done ⟨aQ (x5 (qv (by omega)) (by rw[cE (by omega)]at j7;rw[E6 c9,bS (by omega)];rfl)),rfl⟩)
     ·have c9:¬(what=3):=c9
      exact .drop 0 2 (.done ⟨aQ (Nz (Nn (by omega))),rfl⟩)
end Go.Proofs.YtnikdflhefijbaaGreat
