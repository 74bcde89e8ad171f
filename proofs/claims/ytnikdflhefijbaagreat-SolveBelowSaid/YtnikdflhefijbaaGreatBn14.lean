import Derived.Test.YtnikdflhefijbaaGreatBn12
import Derived.Test.YtnikdflhefijbaaGreatBn13
namespace Go.Proofs.YtnikdflhefijbaaGreat
open Go.RowKit
set_option maxRecDepth 100000
theorem Tn(a:List Int)(i:Nat)(σ:Hp):ACalls Tryz.prog 334 [.af (.int .u64) a,.int .i64 i] σ (aE (.int .u64 (wd a i)) σ):=by
 refine ay Tryz.func334 ?_
 refine an (fun c=>?_) (fun c=>?_)
 ·have c:(a.length:Int)≤(i:Int):=c
  exact .done ⟨aQ (x6 (by omega)).symm,rfl⟩
 ·have c:i<a.length:=by have c:¬(a.length:Int)≤(i:Int):=c;omega
  refine ag.mk rfl (bG.mk a[i] (by omega) (get_some c) ?_)
  exact .done ⟨aQ (kL a c).symm,rfl⟩
theorem Ut(n:Int)(σ:Hp):ACalls Tryz.prog 210 [.int .i64 n] σ (aE (.int .i64 (dK n)) σ):=by
 refine ay Tryz.func210 ?_
 exact .done ⟨aQ (Sa n),rfl⟩
theorem ZX(n:Int):(IntKind.i64.wrap (IntKind.i64.wrap ((dK n:Nat)+64)-1)).tdiv 64=((dC n:Nat):Int):=by
 have:=CB n
 rw[IntKind.wrap_i64,IntKind.wrap_i64]
 unfold dC
 rw[Bs (by omega)]
 omega
theorem Qe(n:Int):IntKind.i64.wrap ((dC n:Nat):Int)=((dC n:Nat):Int):=by
 have:=xY n
 rw[IntKind.wrap_i64];omega
theorem GG(n:Int)(σ:Hp):ACalls Tryz.prog 153 [.int .i64 n] σ (aE (.int .i64 (dC n)) σ):=by
 refine ay Tryz.func153 ?_
 refine az [] (Ut n _) ?_
 refine ag.mk (by decide) ?_
 exact .done ⟨aQ (by rw[ZX,Qe]),rfl⟩
theorem Uv(g:FuncId)(f:Int→Int→Int)(hg:∀(x y:Int) (σ:Hp),ACalls Tryz.prog g [.int .u64 x,.int .u64 y] σ (aE (.int .u64 (f x y)) σ))(a b:List Int)(σ:Hp)(ha:a.length≤100000)(hb:b.length≤100000):ACalls Tryz.prog 307 [.af (.int .u64) a,.af (.int .u64) b,.fn (.func g) [] []] σ (aE (.af (.int .u64) (dr f a b)) σ):=by
 refine ay Tryz.func307 ?_
 obtain⟨n,hn⟩:∃n,n=max a.length b.length:=⟨_,rfl⟩
 have lE:(if (a.length:Int)<b.length then (b.length:Int) else a.length)=(n:Int):=by split <;> omega
 have oI:(dr f a b).length=n:=by rw[pI,hn]
 refine .wrap 7 _ rfl rfl ?_
 refine bV (S:=Nat×AV×Hp) (fun s=>[(0,.af (.int .u64) a),(1,.af (.int .u64) b),(2,.fn (.func g) [] []),(7,.via s.2.1),(13,.int .i64 n),(14,.int .i64 s.1)]) (fun s=>s.2.2++σ) (fun s=>s.1≤n∧Acc 1 s.1 s.2.1 s.2.2 (aM ((dr f a b).take s.1))) (fun s=>n-s.1) (0,.aj,[]) ⟨⟨bA _,.nil⟩,⟨rfl,rfl,rfl,rfl,aQ lE,rfl,trivial⟩,rfl⟩ ?_
 rintro⟨k,v,acc⟩ s ⟨aL,gK⟩
 have hk:k≤n:=aL
 have bY:Acc 1 k v acc (aM ((dr f a b).take k)):=gK
 clear aL gK
 refine an (fun ab=>?_) (fun ar=>?_)
 ·have ab:k<n:=by have ab:(k:Int)<n:=ab;omega
  have he:(dr f a b)[k]'(by omega)=f (wd a k) (wd b k):=by rw[← kL,x5 f a b (by omega)]
  refine az [] (Tn a k _) ?_
  refine az [] (Tn b k _) ?_
  refine az [] (hg _ _ _) ?_
  intro aD
  refine jU [_] bY (.ae 0 aD 0 1 _ rfl (cH rfl)) rfl (by omega) (by decide) (by decide) (fun v' bu h'=>?_)
  refine a8 (k+1,v',bu) (by show n-(k+1)<n-k;omega) ⟨ab,?_⟩ ⟨rfl,rfl,rfl,rfl,rfl,aX (by omega),trivial⟩ (.drop 0 1 (aJ rfl))
  show Acc 1 (k+1) v' bu (aM ((dr f a b).take (k+1)))
  rw[fp (by omega),he,aM,cS]
  exact h'
 ·have ar:k=n:=by have ar:¬(k:Int)<n:=ar;omega
  subst ar
  rw[eI (by omega)]at bY
  exact pO (s:=.int .u64) (l:=dr f a b) [] bY oI.symm (by rw[kH]) (by decide) (.done ⟨rfl,rfl⟩)
theorem acT(x y:Int)(σ:Hp):ACalls Tryz.prog 328 [.int .u64 x,.int .u64 y] σ (aE (.int .u64 (hG x y)) σ):=by
 refine ay Tryz.func328 ?_
 exact .done ⟨rfl,rfl⟩
theorem ad7(x y:Int)(σ:Hp):ACalls Tryz.prog 308 [.int .u64 x,.int .u64 y] σ (aE (.int .u64 (fq x y)) σ):=by
 refine ay Tryz.func308 ?_
 exact .done ⟨rfl,rfl⟩
theorem ae8(a b:List Int)(σ:Hp)(ha:a.length≤100000)(hb:b.length≤100000):ACalls Tryz.prog 300 [.af (.int .u64) a,.af (.int .u64) b] σ (aE (.af (.int .u64) (dr hG a b)) σ):=by
 refine ay Tryz.func300 ?_
 refine az [] (Uv _ _ acT a b _ ha hb) ?_
 exact .done ⟨rfl,rfl⟩
theorem Um(a b:List Int)(σ:Hp)(ha:a.length≤100000)(hb:b.length≤100000):ACalls Tryz.prog 284 [.af (.int .u64) a,.af (.int .u64) b] σ (aE (.af (.int .u64) (dr fq a b)) σ):=by
 refine ay Tryz.func284 ?_
 refine az [] (Uv _ _ ad7 a b _ ha hb) ?_
 exact .done ⟨rfl,rfl⟩
theorem Me(n:Nat)(h:n≤100000000):IntKind.i64.wrap ((n:Int).tdiv 64)=((n / 64:Nat):Int):=by
 rw[Bs (by omega),IntKind.wrap_i64];omega
theorem LZ(n:Nat):(n:Int).tmod 64=((n % 64:Nat):Int):=by
 rw[sG (by omega)];omega
theorem UF(k:Nat)(h:k<64):IntKind.u64.wrap (1*2 ^ min ((k:Nat):Int).toNat IntKind.u64.bits)=((2 ^ k:Nat):Int):=by
 have e:min ((k:Nat):Int).toNat IntKind.u64.bits=k:=by show min k 64=k;omega
 rw[e,Int.one_mul,show ((2:Int) ^ k)=((2 ^ k:Nat):Int) by rw[Int.natCast_pow];rfl]
 exact yd (rE (Nat.pow_lt_pow_right (by decide) h) (aU _))
theorem Ag{l:List Int}{i:Nat}(h:i<l.length)(x:Int){z:Int}(hz:z=i):kJ ⟨.int .u64,1,8,[.int .u64 0]⟩ (aM l) (0+z.toNat*1) (.int .u64 x)=some (aM (l.set i x)):=by
 subst hz
 have e:0+((i:Int)).toNat*1=i:=by omega
 rw[e]
 have h2:Nat.ble (i+1) (aM l).length=true:=Nat.ble_eq_true_of_le (by simp[aM];omega)
 show (match Nat.beq 1 1,Nat.ble (i+1) (aM l).length with | true,true=>some (fS (aM l) i [.int .u64 x]) | _,_=>none)=_
 rw[h2]
 show some ((aM l).set i (.int .u64 x))=_
 simp[aM,List.map_set]
theorem Hl{l:List Int}{i:Nat}(h:i<l.length){z:Int}(hz:z=i):eu ⟨.int .u64,1,8,[.int .u64 0]⟩ (aM l) (0+z.toNat*1)=some (.int .u64 (wd l i)):=by
 subst hz
 have e:0+((i:Int)).toNat*1=i:=by omega
 rw[e]
 show (aM l)[i]?=_
 unfold aM wd
 rw[fo,bJ h];rfl
theorem QQ(w:Int){n:Nat}(h:n<dK w):fJ (eP w) (n+1)=(fJ (eP w) n).set (n / 64) (hG (wd (fJ (eP w) n) (n / 64)) ((2 ^ (n % 64):Nat):Int)):=by
 have hs:(eP w).length=dC w:=mP w
 have hl:n<64*(eP w).length:=by rw[hs];unfold dC;omega
 have hb:hasB (eP w) n=true:=by
  unfold hasB
  rw[Cb w (by unfold dC;omega),bM,Je]
  exact aV (by omega)
 rw[Kr hl,ai hb]
theorem R3(w:Int):fJ (eP w) (dK w)=eP w:=by
 refine ye (pJ _ _) fun i hi=>?_
 rw[pJ]at hi
 rw[yh _ _ hi]
 rw[mP]at hi
 rw[Cb w hi,bM,tR]
 have:=Bd (min 64 (dK w-64*i))
 omega
theorem Vb(w:Int)(σ:Hp):ACalls Tryz.prog 203 [.int .i64 w] σ (aE (.af (.int .u64) (eP w)) σ):=by
 refine ay Tryz.func203 ?_
 have ei:=xY w
 have IE:=CB w
 refine az [] (GG w _) ?_
 refine ag.mk ⟨by omega,by omega,by omega,by decide⟩ ?_
 intro q
 refine az [] (Ut w _) ?_
 refine bV (S:=Nat) (fun s=>[(3,.ae q 0 (dC w) 1),(9,.int .i64 (dK w)),(10,.int .i64 s)]) (fun s=>(q,aM (fJ (eP w) s))::σ) (fun s=>s≤dK w) (fun s=>dK w-s) 0 ⟨bA _,⟨rfl,rfl,rfl,trivial⟩,?_⟩ ?_
 ·show (q,cE [.int .u64 0] (((dC w:Nat):Int)).toNat)::σ=(q,aM (fJ (eP w) 0))::σ
  rw[FU,mP,bM,wD]
 intro n g fR
 have hn:n≤dK w:=fR
 clear fR
 refine an (fun ab=>?_) (fun ar=>?_)
 ·have ab:n<dK w:=by have ab:(n:Int)<dK w:=ab;omega
  have hi:n / 64<(fJ (eP w) n).length:=by rw[pJ,mP];unfold dC;omega
  have su:n / 64<dC w:=by unfold dC;omega
  have hd:=Me n (by omega)
  have hm:=LZ n
  refine .sched [] (upto [] 11 0) (by kernel_rfl) ?_
  refine ag.mk (by omega) ?_
  refine ag.mk ⟨rfl,by omega,by omega⟩ ?_
  refine aT 0 rfl (Hl hi hd) ?_
  have EU:=UF (n % 64) (by omega)
  rw[← hm]at EU
  refine ag.mk (by omega) ?_
  refine ag.mk (by omega) ?_
  refine ag.mk ⟨rfl,by omega,by omega⟩ ?_
  refine cX 0 rfl (Ag hi _ hd) ?_
  refine a8 (n+1) (by show dK w-(n+1)<dK w-n;omega) ab ⟨rfl,rfl,aX (by omega),trivial⟩ (aJ ?_)
  rw[QQ w ab,← EU]
  rfl
 ·have ar:n=dK w:=by have ar:¬(n:Int)<dK w:=ar;omega
  subst ar
  rw[R3]
  exact .cI 0 q 0 (dC w) 1 _ (.int .u64) (eP w) rfl (by rw[List.drop_zero,← kH];exact List.take_of_length_le (by simp[aM,mP])) ⟨mP w,rfl,by decide⟩ .here (.done ⟨rfl,rfl⟩)
def oe(a:List Int):Nat:=(a.map fun z=>te z.toNat).sum
theorem acE(a:List Int):oe a≤64*a.length:=by
 unfold oe
 induction a with
 |nil=>simp
 |cons x a ih=>have:=abW x.toNat;simp only[oL,IM,ie];omega
theorem Y6(a:List Int){k:Nat}(h:k<a.length):oe (a.take (k+1))=oe (a.take k)+te (a[k]).toNat:=by
 unfold oe
 rw[List.take_succ_eq_append_getElem h,List.map_append,List.sum_append];simp
theorem Y5{a:List Int}(ha:aR a):oe a=0↔∀i,i<a.length→wd a i=0:=by
 unfold oe
 rw[List.sum_eq_zero_iff_forall_eq_nat]
 constructor
 ·intro h i hi
  have h1:=h _ (dX.2 ⟨a[i],bX hi,rfl⟩)
  have:=Yv (tf (ha _ (bX hi))) h1
  have hw:=x7 (ha _ (bX hi))
  rw[kL a hi,← hw,this];rfl
 ·intro h x hx
  obtain⟨z,hz,rfl⟩:=dX.1 hx
  obtain⟨i,hi,rfl⟩:=tW.1 hz
  have:=h i hi
  rw[kL a hi]at this
  rw[this];rfl
theorem af9{a b:Nat}(h:a+b<1000000000):IntKind.i64.wrap ((a:Int)+(b:Int))=((a+b:Nat):Int):=by rw[IntKind.wrap_i64];omega
theorem aep(a:List Int)(σ:Hp)(hl:a.length≤100000)(ha:aR a):ACalls Tryz.prog 283 [.af (.int .u64) a] σ (aE (.int .i64 (oe a)) σ):=by
 refine ay Tryz.func283 ?_
 refine bV (S:=Nat) (fun s=>[(3,.int .i64 (oe (a.take s))),(6,.af (.int .u64) a),(7,.int .i64 a.length),(8,.int .i64 s)]) (fun _=>σ) (fun s=>s≤a.length) (fun s=>a.length-s) 0 ⟨bA _,⟨rfl,rfl,rfl,rfl,trivial⟩,rfl⟩ ?_
 intro k g aL
 have hk:k≤a.length:=aL
 clear aL
 refine an (fun ab=>?_) (fun ar=>?_)
 ·have ab:k<a.length:=by have ab:(k:Int)<a.length:=ab;omega
  refine ag.mk rfl (bG.mk a[k] (by omega) (get_some ab) ?_)
  refine az [] (afg (ha _ (bX ab)) _) ?_
  have h1:=acE (a.take (k+1))
  have h2:=Y6 a ab
  rw[xC]at h1
  refine a8 (k+1) (by show a.length-(k+1)<a.length-k;omega) ab ⟨aQ (by rw[h2];exact af9 (by omega)),rfl,rfl,aX (by omega),trivial⟩ (.refl _)
 ·have ar:k=a.length:=by have ar:¬(k:Int)<a.length:=ar;omega
  subst ar
  rw[fj]
  exact .done ⟨rfl,rfl⟩
theorem zM(a b:List Int):aR (dr fq a b):=CG fun _ _=>G3 _ _
theorem acN(a b:List Int)(σ:Hp)(ha:a.length≤10000)(hb:b.length≤10000):ACalls Tryz.prog 249 [.af (.int .u64) a,.af (.int .u64) b] σ (aE (.bool (decide (oe (dr fq a b)=0))) σ):=by
 refine ay Tryz.func249 ?_
 refine az [] (Um a b _ (by omega) (by omega)) ?_
 refine az [] (aep _ _ (by rw[pI];omega) (zM a b)) ?_
 refine an (fun c=>?_) (fun c=>?_)
 ·have c:oe (dr fq a b)=0:=by have c:((oe (dr fq a b):Nat):Int)=0:=c;omega
  exact .done ⟨cz (aV c).symm,rfl⟩
 ·have c:oe (dr fq a b)≠0:=by have c:¬((oe (dr fq a b):Nat):Int)=0:=c;omega
  exact .done ⟨cz (bR c).symm,rfl⟩
theorem Wk{a:List Int}{w:Int}(jO:aR a)(hl:a.length=dC w):decide (oe (dr fq a (eP w))=0)=fg a w:=by
 rw[Bool.eq_iff_iff,decide_eq_true_eq,Y5 (zM _ _),YY jO hl,pI,mP,hl,Nat.max_self]
 refine⟨fun h i hi=>?_,fun h i hi=>?_⟩
 ·rw[← x5 fq a (eP w) (by rw[hl];omega)];exact h i hi
 ·rw[x5 fq a (eP w) (by rw[hl];omega)];exact h i hi
theorem CE(a:List Int)(w:Int)(σ:Hp)(jO:aR a)(ha:a.length≤10000):ACalls Tryz.prog 199 [.af (.int .u64) a,.int .i64 w] σ (aE (.bool (fg a w)) σ):=by
 refine ay Tryz.func199 ?_
 refine az [] (GG w _) ?_
 have ei:=xY w
 refine an (fun c=>?_) (fun c=>?_)
 ·have c:a.length=dC w:=by have c:(a.length:Int)=dC w:=c;omega
  refine az [] (Vb w _) ?_
  refine az [] (acN a _ _ ha (by rw[mP];omega)) ?_
  exact .done ⟨cz (Wk jO c),rfl⟩
 ·have c:a.length≠dC w:=by have c:¬(a.length:Int)=dC w:=c;omega
  have hf:fg a w=false:=by unfold fg;rw[bR c];rfl
  rw[hf]
  exact .done ⟨rfl,rfl⟩
theorem Lk(n:Int)(σ:Hp):ACalls Tryz.prog 165 [.int .i64 n] σ (aE (.int .i64 (dK n)) σ):=by
 refine ay Tryz.func165 ?_
 exact .done ⟨aQ (Sa n),rfl⟩
theorem Yg(n:Int):(IntKind.i64.wrap ((dK n:Nat)+63)).tdiv 64=((dC n:Nat):Int):=by
 have:=CB n
 rw[IntKind.wrap_i64]
 unfold dC
 rw[Bs (by omega)]
 omega
theorem LJ(n:Int)(σ:Hp):ACalls Tryz.prog 115 [.int .i64 n] σ (aE (.int .i64 (dC n)) σ):=by
 refine ay Tryz.func115 ?_
 refine az [] (Lk n _) ?_
 refine ag.mk (by decide) ?_
 exact .done ⟨aQ (by rw[Yg,Qe]),rfl⟩
theorem acr{x:Int}(ha:bD x){k:Nat}(h:k<64){z:Int}(hz:z=k):(bits .and .u64 (x.fdiv (2 ^ min z.toNat IntKind.u64.bits)) 1=1)↔x.toNat.testBit k=true:=by
 subst hz
 have e:min ((k:Int)).toNat IntKind.u64.bits=k:=by show min k 64=k;omega
 have hw:=x7 ha
 rw[← hw,Ga _ _ _ e]
 have ab:=tf ha
 rw[show (1:Int)=((1:Nat):Int) from rfl,qH (zh (Nat.div_le_self _ _) ab) (by decide)]
 rw[bM,Nat.and_one_is_mod,Nat.testBit_eq_decide_div_mod_eq,decide_eq_true_eq]
 omega
theorem Dd(a:List Int)(n:Nat)(σ:Hp)(jO:aR a)(hn:n≤1000000):ACalls Tryz.prog 178 [.af (.int .u64) a,.int .i64 n] σ (aE (.bool (hasB a n)) σ):=by
 refine ay Tryz.func178 ?_
 have hd:=Me n (by omega)
 have hm:=LZ n
 refine ag.mk (by omega) ?_
 refine an (fun c1=>?_) (fun c1=>?_)
 ·have c1:IntKind.i64.wrap ((↑n:Int).tdiv 64)<(↑a.length:Int):=c1
  refine ag.mk (by omega) ?_
  have hi:n / 64<a.length:=by omega
  refine ag.mk rfl (bG.mk a[n / 64] (by omega) (by rw[hd];exact get_some hi) ?_)
  have hq:=acr (ha:=jO _ (bX hi)) (k:=n % 64) (by omega) hm
  have hb:hasB a n=a[n / 64].toNat.testBit (n % 64):=by unfold hasB;rw[kL a hi]
  refine ag.mk (by omega) ?_
  refine ag.mk (by omega) ?_
  refine an (fun c2=>.done ⟨cz ?_,rfl⟩) (fun c2=>.done ⟨cz ?_,rfl⟩)
  ·rw[hb];exact (hq.1 c2).symm
  ·rw[hb];exact (Bf.2 fun h=>c2 (hq.2 h)).symm
 ·have c1:¬(IntKind.i64.wrap ((↑n:Int).tdiv 64)<(↑a.length:Int)):=c1
  have hb:hasB a n=false:=by unfold hasB;rw[x6 (by omega)];simp
  rw[hb]
  exact .done ⟨rfl,rfl⟩
theorem LH(l:List Int)(n q len:Nat)(σ:Hp)(hl:l.length=len)(hm:len≤10000)(hn:n / 64<len):ACalls Tryz.prog 280 [.ae q 0 len 1,.int .i64 n] ((q,aM l)::σ) (fun r σ'=>∃b,r=.ae b 0 len 1∧σ'=(b,aM (l.set (n / 64) (hG (wd l (n / 64)) ((2 ^ (n % 64):Nat):Int))))::(q,aM l)::σ):=by
 refine ay Tryz.func280 ?_
 have hd:=Me n (by omega)
 have hm:=LZ n
 intro aD
 have afT:(aM l).length=len*1:=by simp[aM,hl]
 have hle:0+len*1≤(aM l).length:=by omega
 have iE:((aM l).drop 0).take (len*1)=aM l:=eI (by rw[gR];omega)
 refine jU [] (acc:=[(aD,[])]) (k:=0) (cs:=[]) (n:=len) (.ae aD 0 [] rfl) (.ae 1 q 0 len (aM l) rfl hle) (by rw[iE];exact afT) (by omega) (by decide) (by decide) (fun v' bu h'=>?_)
 rw[eF,iE,vL]at h'
 generalize kC:aM l=cs at h'
 cases h' with
 |nil=>omega
 |ae b k cs h=>
 subst kC
 have hi:n / 64<l.length:=by omega
 refine .sched [] (upto [] 14 0) (by kernel_rfl) ?_
 refine ag.mk (by omega) ?_
 refine ag.mk (by omega) ?_
 refine ag.mk ⟨rfl,by omega,by omega⟩ ?_
 refine aT 0 rfl (Hl hi hd) ?_
 have EU:=UF (n % 64) (by omega)
 rw[← hm]at EU
 refine ag.mk (by omega) ?_
 refine ag.mk (by omega) ?_
 refine ag.mk ⟨rfl,by omega,by omega⟩ ?_
 refine cX 0 rfl (Ag hi _ hd) ?_
 rw[← EU]
 exact .done ⟨_,rfl,rfl⟩
set_option maxHeartbeats 4000000 in
theorem adj(a b:List Int)(σ:Hp)(ha:aR a)(hb:aR b)(la:a.length≤10000)(lb:b.length≤10000):ACalls Tryz.prog 263 [.af (.int .u64) a,.af (.int .u64) b,.int .i64 1] σ (aE (.af (.int .u64) (dr hG a b)) σ):=by
 refine ay Tryz.func263 ?_
 obtain⟨n,hn⟩:∃n,n=max a.length b.length:=⟨_,rfl⟩
 have lE:(if (a.length:Int)<b.length then (b.length:Int) else a.length)=(n:Int):=by split <;> omega
 have hT:(dr hG a b).length=n:=by rw[pI,hn]
 have MJ:aR (dr hG a b):=CG fun _ _=>TS _ _
 have MH:∀k,k<64*n→hasB (dr hG a b) k=((hasB a k).or (hasB b k)):=fun k hk=>by
  unfold hasB
  rw[x5 hG a b (by omega)]
  exact K3 (kP ha _) (kP hb _) _
 have hM:(0:Int)≤(if (a.length:Int)<b.length then (b.length:Int) else a.length)∧(if (a.length:Int)<b.length then (b.length:Int) else a.length)≤1048576:=by rw[lE];omega
 refine ag.mk ⟨hM.1,ke _,hM.2,by decide⟩ ?_
 intro q
 refine bV (S:=Nat×Nat) (fun s=>[(0,.af (.int .u64) a),(1,.af (.int .u64) b),(2,.int .i64 1),(7,.ae s.2 0 n 1),(8,.int .i64 s.1)]) (fun s=>(s.2,aM (fJ (dr hG a b) s.1))::σ) (fun s=>s.1≤64*n) (fun s=>64*n-s.1) (0,q) ⟨bA _,⟨rfl,rfl,rfl,?_,rfl,trivial⟩,?_⟩ ?_
 ·show AV.ae q 0 (if (a.length:Int)<b.length then (b.length:Int) else a.length).toNat 1=.ae q 0 n 1
  rw[lE,bM]
 ·show (q,cE [.int .u64 0] (if (a.length:Int)<b.length then (b.length:Int) else a.length).toNat)::σ=(q,aM (fJ (dr hG a b) 0))::σ
  rw[lE,bM,FU,hT,wD]
 rintro⟨k,p⟩ g aL
 have hk:k≤64*n:=aL
 clear aL
 have hlen:(fJ (dr hG a b) k).length=n:=by rw[pJ,hT]
 refine an (fun ab=>?_) (fun ar=>?_)
 ·have ab:k<64*n:=by
   have ab:(k:Int)<IntKind.i64.wrap (64*(n:Int)):=ab
   rw[IntKind.wrap_i64]at ab;omega
  have hs:=Kr (T:=dr hG a b) (n:=k) (by omega)
  have pE:=MH k ab
  refine eb [] (Dd a k _ ha (by omega)) (fun cA=>?_) (fun cA=>?_) <;> refine eb [] (Dd b k _ hb (by omega)) (fun cB=>?_) (fun cB=>?_) <;> rw[cA,cB]at pE <;> rw[pE]at hs
  all_goals first
   |(refine .mk [] _ (LH _ k _ _ _ hlen (by omega) (by omega)) ?_
     rintro r σ' ⟨b',rfl,rfl⟩
     refine a8 (k+1,b') (by show 64*n-(k+1)<64*n-k;omega) ab ⟨rfl,rfl,rfl,rfl,aX (by omega),trivial⟩ (.drop 1 1 (aJ ?_))
     rw[hs.trans (ai rfl)]
     rfl)
   |(refine a8 (k+1,p) (by show 64*n-(k+1)<64*n-k;omega) ab ⟨rfl,rfl,rfl,rfl,aX (by omega),trivial⟩ (aJ ?_)
     rw[hs.trans (ah (by decide))]
     rfl)
 ·have ar:k=64*n:=by
   have ar:¬(k:Int)<IntKind.i64.wrap (64*(n:Int)):=ar
   rw[IntKind.wrap_i64]at ar;omega
  subst ar
  rw[← hT,SL MJ]
  exact .cI 0 p 0 _ 1 _ (.int .u64) (dr hG a b) rfl (by rw[List.drop_zero,← kH];exact List.take_of_length_le (by simp[aM];exact Nat.le_refl _)) ⟨rfl,rfl,by decide⟩ .here (.done ⟨rfl,rfl⟩)
set_option maxHeartbeats 4000000 in
theorem adi(a b:List Int)(σ:Hp)(ha:aR a)(hb:aR b)(la:a.length≤10000)(lb:b.length≤10000):ACalls Tryz.prog 263 [.af (.int .u64) a,.af (.int .u64) b,.int .i64 3] σ (aE (.af (.int .u64) (dr fq a b)) σ):=by
 refine ay Tryz.func263 ?_
 obtain⟨n,hn⟩:∃n,n=max a.length b.length:=⟨_,rfl⟩
 have lE:(if (a.length:Int)<b.length then (b.length:Int) else a.length)=(n:Int):=by split <;> omega
 have hT:(dr fq a b).length=n:=by rw[pI,hn]
 have MJ:aR (dr fq a b):=CG fun _ _=>G3 _ _
 have MH:∀k,k<64*n→hasB (dr fq a b) k=((hasB a k).and (!hasB b k)):=fun k hk=>by
  unfold hasB
  rw[x5 fq a b (by omega)]
  exact GF (kP ha _) (kP hb _) (by omega)
 have hM:(0:Int)≤(if (a.length:Int)<b.length then (b.length:Int) else a.length)∧(if (a.length:Int)<b.length then (b.length:Int) else a.length)≤1048576:=by rw[lE];omega
 refine ag.mk ⟨hM.1,ke _,hM.2,by decide⟩ ?_
 intro q
 refine bV (S:=Nat×Nat) (fun s=>[(0,.af (.int .u64) a),(1,.af (.int .u64) b),(2,.int .i64 3),(7,.ae s.2 0 n 1),(8,.int .i64 s.1)]) (fun s=>(s.2,aM (fJ (dr fq a b) s.1))::σ) (fun s=>s.1≤64*n) (fun s=>64*n-s.1) (0,q) ⟨bA _,⟨rfl,rfl,rfl,?_,rfl,trivial⟩,?_⟩ ?_
 ·show AV.ae q 0 (if (a.length:Int)<b.length then (b.length:Int) else a.length).toNat 1=.ae q 0 n 1
  rw[lE,bM]
 ·show (q,cE [.int .u64 0] (if (a.length:Int)<b.length then (b.length:Int) else a.length).toNat)::σ=(q,aM (fJ (dr fq a b) 0))::σ
  rw[lE,bM,FU,hT,wD]
 rintro⟨k,p⟩ g aL
 have hk:k≤64*n:=aL
 clear aL
 have hlen:(fJ (dr fq a b) k).length=n:=by rw[pJ,hT]
 refine an (fun ab=>?_) (fun ar=>?_)
 ·have ab:k<64*n:=by
   have ab:(k:Int)<IntKind.i64.wrap (64*(n:Int)):=ab
   rw[IntKind.wrap_i64]at ab;omega
  have hs:=Kr (T:=dr fq a b) (n:=k) (by omega)
  have pE:=MH k ab
  refine eb [] (Dd a k _ ha (by omega)) (fun cA=>?_) (fun cA=>?_) <;> refine eb [] (Dd b k _ hb (by omega)) (fun cB=>?_) (fun cB=>?_) <;> rw[cA,cB]at pE <;> rw[pE]at hs
  all_goals first
   |(refine .mk [] _ (LH _ k _ _ _ hlen (by omega) (by omega)) ?_
     rintro r σ' ⟨b',rfl,rfl⟩
     refine a8 (k+1,b') (by show 64*n-(k+1)<64*n-k;omega) ab ⟨rfl,rfl,rfl,rfl,aX (by omega),trivial⟩ (.drop 1 1 (aJ ?_))
     rw[hs.trans (ai rfl)]
     rfl)
   |(refine a8 (k+1,p) (by show 64*n-(k+1)<64*n-k;omega) ab ⟨rfl,rfl,rfl,rfl,aX (by omega),trivial⟩ (aJ ?_)
     rw[hs.trans (ah (by decide))]
     rfl)
 ·have ar:k=64*n:=by
   have ar:¬(k:Int)<IntKind.i64.wrap (64*(n:Int)):=ar
   rw[IntKind.wrap_i64]at ar;omega
  subst ar
  rw[← hT,SL MJ]
  exact .cI 0 p 0 _ 1 _ (.int .u64) (dr fq a b) rfl (by rw[List.drop_zero,← kH];exact List.take_of_length_le (by simp[aM];exact Nat.le_refl _)) ⟨rfl,rfl,by decide⟩ .here (.done ⟨rfl,rfl⟩)
theorem aes(a:List Int)(w:Int)(σ:Hp)(jO:aR a):ACalls Tryz.prog 128 [.af (.int .u64) a,.int .i64 w] σ (aE (.bool (fg a w)) σ):=by
 refine ay Tryz.func128 ?_
 have ei:=xY w
 have IE:=CB w
 refine az [] (LJ w _) ?_
 refine dB (fun c=>?_) (fun c=>?_)
 ·have c:a.length≠dC w:=by have c:(!decide ((a.length:Int)=(dC w:Int)))=true:=c;simp at c;omega
  have hf:fg a w=false:=by unfold fg;rw[bR c];rfl
  rw[hf]
  exact .done ⟨rfl,rfl⟩
 ·have c:a.length=dC w:=by have c:(!decide ((a.length:Int)=(dC w:Int)))=false:=c;simp at c;omega
  refine az [] (Lk w _) ?_
  refine bV (S:=Nat) (fun s=>[(0,.af (.int .u64) a),(5,.int .i64 s)]) (fun _=>σ) (fun s=>dK w≤s∧s≤64*a.length∧∀n,dK w≤n→n<s→hasB a n=false) (fun s=>64*a.length-s) (dK w) ⟨⟨aU _,?_,fun n h1 h2=>by omega⟩,⟨rfl,rfl,trivial⟩,rfl⟩ ?_
  ·rw[c];unfold dC;omega
  intro k g aL
  obtain⟨l8,dF,hk3⟩:dK w≤k∧k≤64*a.length∧∀n,dK w≤n→n<k→hasB a n=false:=aL
  refine an (fun ab=>?_) (fun ar=>?_)
  ·have ab:k<64*a.length:=by
    have ab:(k:Int)<IntKind.i64.wrap (64*(a.length:Int)):=ab
    rw[IntKind.wrap_i64]at ab;omega
   refine eb [] (Dd a k _ jO (by omega)) (fun cA=>?_) (fun cA=>?_)
   ·have hf:fg a w=false:=Bf.2 fun h=>by
     have:=(Kd jO c).1 h k l8 ab
     rw[cA]at this;exact absurd this (by decide)
    rw[hf]
    exact .done ⟨rfl,rfl⟩
   ·refine a8 (k+1) (by show 64*a.length-(k+1)<64*a.length-k;omega) ⟨by omega,by omega,fun n h1 h2=>?_⟩ ⟨rfl,aX (by omega),trivial⟩ (.refl _)
    rcases tN n k with h3 | h3
    ·exact hk3 n h1 h3
    ·rw[show n=k by omega];exact cA
  ·have ar:k=64*a.length:=by
    have ar:¬(k:Int)<IntKind.i64.wrap (64*(a.length:Int)):=ar
    rw[IntKind.wrap_i64]at ar;omega
   have hf:fg a w=true:=(Kd jO c).2 fun n h1 h2=>hk3 n h1 (by omega)
   rw[hf]
   exact .done ⟨rfl,rfl⟩
end Go.Proofs.YtnikdflhefijbaaGreat
