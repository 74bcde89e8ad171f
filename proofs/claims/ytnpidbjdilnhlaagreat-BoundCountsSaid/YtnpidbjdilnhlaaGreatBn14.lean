import Derived.Test.YtnpidbjdilnhlaaGreatBn13
import Derived.Test.YtnpidbjdilnhlaaGreatBn11
namespace Go.Proofs.YtnpidbjdilnhlaaGreat
open Go.RowKit
def hasB(a:List Int)(n:Nat):Bool:=(wd a (n / 64)).toNat.testBit (n % 64)
def eO(f:Int→Int→Int)(a b:List Int):List Int:=(List.range (max a.length b.length)).map fun i=>f (wd a i) (wd b i)
theorem qA(f:Int→Int→Int)(a b:List Int):(eO f a b).length=max a.length b.length:=by simp[eO]
theorem zK(f:Int→Int→Int)(a b:List Int){i:Nat}(h:i<max a.length b.length):wd (eO f a b) i=f (wd a i) (wd b i):=by
 unfold eO wd
 rw[List.getElem?_map,List.getElem?_range h]
 rfl
theorem xn{a:List Int}{i:Nat}(h:a.length≤i):wd a i=0:=by unfold wd;rw[List.getElem?_eq_none h];rfl
theorem jK(b:List Int){i:Nat}(h:i<b.length):wd b i=b[i]:=by unfold wd;rw[List.getElem?_eq_getElem h];rfl
theorem xC{a b:List Int}(hl:a.length=b.length)(h:∀i,i<a.length→wd a i=wd b i):a=b:=by
 refine List.ext_getElem hl fun i h1 h2 =>?_
 have:=h i h1
 rw[jK a h1,jK b h2]at this
 exact this
theorem HQ{n:Nat}{f:Nat→Int}(h:∀i,i<n→bf (f i)):aS ((List.range n).map f):=fun z hz=>by
 obtain⟨i,hi,rfl⟩:=List.mem_map.1 hz
 exact h i (List.mem_range.1 hi)
abbrev kJ(x y:Int):Int:=bits .or .u64 x y
abbrev gZ(x y:Int):Int:=bits .andNot .u64 x y
theorem ZW(x y:Int):bf (kJ x y):=zM _
theorem H7(x y:Int):bf (gZ x y):=zM _
theorem toNat_ofInt{z:Int}(h:bf z):(BitVec.ofInt 64 z).toNat=z.toNat:=by
 have:=uf h
 rw[BitVec.toNat_ofInt]
 unfold bf at h
 omega
theorem Ou{x y:Int}(hx:bf x)(hy:bf y)(k:Nat):(kJ x y).toNat.testBit k=(x.toNat.testBit k || y.toNat.testBit k):=by
 have e:kJ x y=((BitVec.ofInt 64 x ||| BitVec.ofInt 64 y).toNat:Int):=by
  show IntKind.u64.wrap _=_
  exact vC (BitVec.isLt _)
 rw[e,Int.toNat_natCast,BitVec.toNat_or,Nat.testBit_or,toNat_ofInt hx,toNat_ofInt hy]
theorem HK{x y:Int}(hx:bf x)(hy:bf y){k:Nat}(hk:k<64):(gZ x y).toNat.testBit k=(x.toNat.testBit k && !y.toNat.testBit k):=by
 have e:gZ x y=((BitVec.ofInt 64 x &&& ~~~BitVec.ofInt 64 y).toNat:Int):=by
  show IntKind.u64.wrap _=_
  exact vC (BitVec.isLt _)
 rw[e,Int.toNat_natCast,BitVec.testBit_toNat,BitVec.getLsbD_and,BitVec.getLsbD_not,decide_eq_true hk,Bool.true_and,← BitVec.testBit_toNat,← BitVec.testBit_toNat,toNat_ofInt hx,toNat_ofInt hy]
def gT(T:List Int)(n:Nat):List Int:=(List.range T.length).map fun i=>(((wd T i).toNat % 2 ^ min 64 (n-64*i):Nat):Int)
theorem tc(T:List Int)(n:Nat):(gT T n).length=T.length:=by simp[gT]
theorem xF(T:List Int)(n:Nat){i:Nat}(h:i<T.length):wd (gT T n) i=(((wd T i).toNat % 2 ^ min 64 (n-64*i):Nat):Int):=by
 unfold gT
 unfold wd
 rw[List.getElem?_map,List.getElem?_range h]
 rfl
theorem V9(T:List Int):gT T 0=List.replicate T.length 0:=by
 refine List.ext_getElem (by simp[gT]) fun i h1 h2 =>?_
 rw[List.getElem_replicate,← jK _ h1,xF T 0 (by simpa [gT]using h1),Nat.zero_sub,Nat.min_zero,Nat.pow_zero,Nat.mod_one]
 rfl
theorem mod_succ(x k:Nat):x % 2 ^ (k+1)=if x.testBit k then x % 2 ^ k ||| 2 ^ k else x % 2 ^ k:=by
 refine Nat.eq_of_testBit_eq fun i =>?_
 cases hb:x.testBit k with
 | false =>
  rw[if_neg (by decide),Nat.testBit_mod_two_pow,Nat.testBit_mod_two_pow]
  by_cases h1:i<k
  ·rw[decide_eq_true (show i<k+1 by omega),decide_eq_true h1]
  ·by_cases h2:i=k
   ·subst h2;rw[hb];simp
   ·rw[decide_eq_false (show ¬i<k+1 by omega),decide_eq_false h1]
 | true =>
  rw[if_pos rfl,Nat.testBit_or,Nat.testBit_mod_two_pow,Nat.testBit_mod_two_pow,Nat.testBit_two_pow]
  by_cases h1:i<k
  ·rw[decide_eq_true (show i<k+1 by omega),decide_eq_true h1,decide_eq_false (show ¬k=i by omega)];simp
  ·by_cases h2:i=k
   ·subst h2;rw[hb];simp
   ·rw[decide_eq_false (show ¬i<k+1 by omega),decide_eq_false h1,decide_eq_false (show ¬k=i by omega)];rfl
theorem Wa{T:List Int}{n:Nat}(h:n<64*T.length):gT T (n+1)=if hasB T n then (gT T n).set (n / 64) (kJ (wd (gT T n) (n / 64)) ((2 ^ (n % 64):Nat):Int)) else gT T n:=by
 have hi:n / 64<T.length:=by omega
 have hk:n % 64<64:=Nat.mod_lt _ (by decide)
 have ab:∀m,(wd T (n / 64)).toNat % 2 ^ min 64 m<18446744073709551616:=fun m=>by
  have h1:(wd T (n / 64)).toNat % 2 ^ min 64 m<2 ^ min 64 m:=Nat.mod_lt _ (Nat.two_pow_pos _)
  have h2:2 ^ min 64 m≤2 ^ 64:=Nat.pow_le_pow_right (by decide) (Nat.min_le_left _ _)
  have h3:(2:Nat) ^ 64=18446744073709551616:=by decide
  omega
 have hp:2 ^ (n % 64)<18446744073709551616:=by
  have h2:2 ^ (n % 64)<2 ^ 64:=Nat.pow_lt_pow_right (by decide) hk
  exact h2
 have e1:min 64 (n-64*(n / 64))=n % 64:=by omega
 have e2:min 64 (n+1-64*(n / 64))=n % 64+1:=by omega
 have hm:=mod_succ (wd T (n / 64)).toNat (n % 64)
 have Pv:∀i,i≠n / 64→min 64 (n+1-64*i)=min 64 (n-64*i):=fun i aI=>by omega
 unfold hasB
 refine xC ?_ fun i Ft =>?_
 ·rw[tc]
  split
  ·rw[List.length_set,tc]
  ·rw[tc]
 ·rw[tc]at Ft
  rw[xF T _ Ft]
  cases hb:(wd T (n / 64)).toNat.testBit (n % 64) with
  | true =>
   rw[hb,if_pos rfl]at hm
   rw[if_pos rfl]
   by_cases hc:i=n / 64
   ·subst hc
    have hs:wd ((gT T n).set (n / 64) (kJ (wd (gT T n) (n / 64)) ((2 ^ (n % 64):Nat):Int))) (n / 64)=kJ (wd (gT T n) (n / 64)) ((2 ^ (n % 64):Nat):Int):=by
     unfold wd
     rw[List.getElem?_set_self (by rw[tc];exact hi)];rfl
    have ac8:=ab (n-64*(n / 64))
    rw[hs,xF T n hi,show kJ _ _=_ from qB ac8 hp,e2,e1,hm]
   ·have hs:wd ((gT T n).set (n / 64) (kJ (wd (gT T n) (n / 64)) ((2 ^ (n % 64):Nat):Int))) i=wd (gT T n) i:=by
     unfold wd
     rw[List.getElem?_set_ne (fun h=>hc h.symm)]
    rw[hs,xF T n Ft,Pv i hc]
  | false =>
   rw[hb,if_neg (by decide)]at hm
   rw[if_neg (by decide),xF T n Ft]
   by_cases hc:i=n / 64
   ·subst hc
    rw[e2,e1,hm]
   ·rw[Pv i hc]
def dR(w:Int):Nat:=(min (max w 0) 1024).toNat
def eb(w:Int):Nat:=(dR w+63) / 64
theorem HI(w:Int):dR w≤1024:=by unfold dR;omega
theorem zx(w:Int):eb w≤16:=by have:=HI w;unfold eb;omega
theorem Xa(n:Int):(if (1024:Int)<(if n<0 then 0 else n) then (1024:Int) else (if n<0 then 0 else n))=((dR n:Nat):Int):=by
 unfold dR
 by_cases h:n<0
 ·simp only[if_pos h];omega
 ·simp only[if_neg h];split <;> omega
def eV(w:Int):List Int:=(List.range (eb w)).map fun i=>((2 ^ min 64 (dR w-64*i)-1:Nat):Int)
theorem oH(w:Int):(eV w).length=eb w:=by simp[eV]
theorem zG(w:Int){i:Nat}(h:i<eb w):wd (eV w) i=((2 ^ min 64 (dR w-64*i)-1:Nat):Int):=by
 unfold eV wd
 rw[List.getElem?_map,List.getElem?_range h]
 rfl
theorem aaQ(m:Nat):2 ^ min 64 m≤18446744073709551616:=Nat.pow_le_pow_right (by decide) (Nat.min_le_left _ _)
theorem NM(w:Int):aS (eV w):=HQ fun i _=>XQ (by
 have:=aaQ (dR w-64*i)
 have:=Nat.two_pow_pos (min 64 (dR w-64*i))
 omega)
def fi(a:List Int)(w:Int):Bool:=decide (a.length=eb w) && (List.range a.length).all fun i=>decide ((wd a i).toNat<2 ^ min 64 (dR w-64*i))
theorem UU{a:List Int}{w:Int}(kQ:aS a)(hl:a.length=eb w):fi a w=true↔∀n,dR w≤n→n<64*a.length→hasB a n=false:=by
 unfold fi hasB
 rw[decide_eq_true hl,Bool.true_and,List.all_eq_true]
 constructor
 ·intro h n h1 h2
  have hi:n / 64<a.length:=by omega
  have:=h (n / 64) (List.mem_range.2 hi)
  simp only[decide_eq_true_eq]at this
  refine Nat.testBit_lt_two_pow (Nat.lt_of_lt_of_le this (Nat.pow_le_pow_right (by decide) ?_))
  omega
 ·intro h i hi
  have hi:=List.mem_range.1 hi
  rw[decide_eq_true_eq]
  have Q2:=uf (lX kQ i)
  rcases Nat.lt_or_ge (dR w-64*i) 64 with hc | hc
  ·rw[Nat.min_eq_right (by omega)]
   refine Nat.lt_pow_two_of_testBit _ fun k hk =>?_
   rcases Nat.lt_or_ge k 64 with dm | dm
   ·have:=h (64*i+k) (by omega) (by omega)
    rw[show (64*i+k) / 64=i by omega,show (64*i+k) % 64=k by omega]at this
    exact this
   ·refine Nat.testBit_lt_two_pow (Nat.lt_of_lt_of_le Q2 ?_)
    exact Nat.pow_le_pow_right (by decide:0<2) dm
  ·rw[Nat.min_eq_left hc]
   exact Q2
theorem UT{a:List Int}{w:Int}(kQ:aS a)(hl:a.length=eb w):fi a w=true↔∀i,i<a.length→gZ (wd a i) (wd (eV w) i)=0:=by
 unfold fi
 rw[decide_eq_true hl,Bool.true_and,List.all_eq_true]
 have hf:∀i,i<a.length→((wd a i).toNat<2 ^ min 64 (dR w-64*i)↔gZ (wd a i) (wd (eV w) i)=0):=by
  intro i hi
  have ha:=lX kQ i
  have hb:=lX (NM w) i
  have hn:(wd (eV w) i).toNat=2 ^ min 64 (dR w-64*i)-1:=by rw[zG w (by omega),Int.toNat_natCast]
  constructor
  ·intro h
   have hz:(gZ (wd a i) (wd (eV w) i)).toNat=0:=by
    refine Nat.eq_of_testBit_eq fun k =>?_
    rw[Nat.zero_testBit]
    rcases Nat.lt_or_ge k 64 with hk | hk
    ·rw[HK ha hb hk,hn,Nat.testBit_two_pow_sub_one]
     by_cases dm:k<min 64 (dR w-64*i)
     ·rw[decide_eq_true dm];simp
     ·rw[Nat.testBit_lt_two_pow (Nat.lt_of_lt_of_le h (Nat.pow_le_pow_right (by decide) (by omega)))];rfl
    ·exact Nat.testBit_lt_two_pow (Nat.lt_of_lt_of_le (uf (H7 _ _)) (Nat.pow_le_pow_right (by decide:0<2) hk))
   have:=zP (H7 (wd a i) (wd (eV w) i))
   omega
  ·intro h
   refine Nat.lt_pow_two_of_testBit _ fun k hk =>?_
   rcases Nat.lt_or_ge k 64 with dm | dm
   ·have hz:=HK ha hb dm
    rw[h,hn,Nat.testBit_two_pow_sub_one,decide_eq_false (by omega)]at hz
    have h0:(0:Int).toNat.testBit k=false:=Nat.zero_testBit k
    rw[h0]at hz
    simpa using hz.symm
   ·exact Nat.testBit_lt_two_pow (Nat.lt_of_lt_of_le (uf ha) (Nat.pow_le_pow_right (by decide:0<2) dm))
 constructor
 ·intro h i hi
  exact (hf i hi).1 (by simpa using h i (List.mem_range.2 hi))
 ·intro h i hi
  have hi:=List.mem_range.1 hi
  rw[decide_eq_true_eq]
  exact (hf i hi).2 (h i hi)
set_option maxRecDepth 100000
theorem OY(a:List Int)(i:Nat)(σ:Hp):ACalls Tryz.prog 317 [.ah (.int .u64) a,.int .i64 i] σ (az (.int .u64 (wd a i)) σ):=by
 refine okF Tryz.func317 (by kernel_rfl) ?_
 refine ao (fun c =>?_) (fun c =>?_)
 ·have c:(a.length:Int)≤(i:Int):=c
  exact .done ⟨aN (xn (by omega)).symm,rfl⟩
 ·have c:i<a.length:=by have c:¬(a.length:Int)≤(i:Int):=c;omega
  refine ag.mk rfl (bH.mk a[i] (by omega) (get_some c) ?_)
  exact .done ⟨aN (jK a c).symm,rfl⟩
theorem PX(n:Int)(σ:Hp):ACalls Tryz.prog 170 [.int .i64 n] σ (az (.int .i64 (dR n)) σ):=by
 refine okF Tryz.func170 (by kernel_rfl) ?_
 exact .done ⟨aN (Xa n),rfl⟩
theorem VT(n:Int):(IntKind.i64.wrap (IntKind.i64.wrap ((dR n:Nat)+64)-1)).tdiv 64=((eb n:Nat):Int):=by
 have:=HI n
 rw[IntKind.wrap_i64,IntKind.wrap_i64]
 unfold eb
 rw[Int.tdiv_eq_ediv_of_nonneg (by omega)]
 omega
theorem TN(n:Int):IntKind.i64.wrap ((eb n:Nat):Int)=((eb n:Nat):Int):=by
 have:=zx n
 rw[IntKind.wrap_i64];omega
theorem Dt(n:Int)(σ:Hp):ACalls Tryz.prog 122 [.int .i64 n] σ (az (.int .i64 (eb n)) σ):=by
 refine okF Tryz.func122 (by kernel_rfl) ?_
 refine ax [] (PX n _) ?_
 refine ag.mk (by decide) ?_
 exact .done ⟨aN (by rw[VT,TN]),rfl⟩
theorem PZ(g:FuncId)(f:Int→Int→Int)(hg:∀(x y:Int) (σ:Hp),ACalls Tryz.prog g [.int .u64 x,.int .u64 y] σ (az (.int .u64 (f x y)) σ))(a b:List Int)(σ:Hp)(ha:a.length≤100000)(hb:b.length≤100000):ACalls Tryz.prog 293 [.ah (.int .u64) a,.ah (.int .u64) b,.fn (.func g) [] []] σ (az (.ah (.int .u64) (eO f a b)) σ):=by
 refine okF Tryz.func293 (by kernel_rfl) ?_
 obtain⟨n,hn⟩:∃n,n=max a.length b.length:=⟨_,rfl⟩
 have pV:(if (a.length:Int)<b.length then (b.length:Int) else a.length)=(n:Int):=by split <;> omega
 have my:(eO f a b).length=n:=by rw[qA,hn]
 refine .wrap 7 _ rfl rfl ?_
 refine bO (S:=Nat×AV×Hp) (fun s=>[(0,.ah (.int .u64) a),(1,.ah (.int .u64) b),(2,.fn (.func g) [] []),(7,.via s.2.1),(13,.int .i64 n),(14,.int .i64 s.1)]) (fun s=>s.2.2++σ) (fun s=>s.1≤n∧Acc 1 s.1 s.2.1 s.2.2 (aU ((eO f a b).take s.1))) (fun s=>n-s.1) (0,.af,[]) ⟨⟨Nat.zero_le _,.nil⟩,⟨rfl,rfl,rfl,rfl,aN pV,rfl,trivial⟩,rfl⟩ ?_
 rintro⟨k,v,acc⟩ s ⟨aZ,kB⟩
 have hk:k≤n:=aZ
 have bP:Acc 1 k v acc (aU ((eO f a b).take k)):=kB
 clear aZ kB
 refine ao (fun ab =>?_) (fun au =>?_)
 ·have ab:k<n:=by have ab:(k:Int)<n:=ab;omega
  have he:(eO f a b)[k]'(by omega)=f (wd a k) (wd b k):=by rw[← jK,zK f a b (by omega)]
  refine ax [] (OY a k _) ?_
  refine ax [] (OY b k _) ?_
  refine ax [] (hg _ _ _) ?_
  intro aC
  refine kr [_] bP (.ae 0 aC 0 1 _ rfl (Nat.le_of_ble_eq_true rfl)) rfl (by omega) (by decide) (by decide) (fun v' bh h' =>?_)
  refine bg (k+1,v',bh) (by show n-(k+1)<n-k;omega) ⟨ab,?_⟩ ⟨rfl,rfl,rfl,rfl,rfl,a8 (by omega),trivial⟩ (.drop 0 1 (aF rfl))
  show Acc 1 (k+1) v' bh (aU ((eO f a b).take (k+1)))
  rw[List.take_succ_eq_append_getElem (by omega),he,aU,List.map_append]
  exact h'
 ·have au:k=n:=by have au:¬(k:Int)<n:=au;omega
  subst au
  rw[List.take_of_length_le (by omega)]at bP
  exact qG (s:=.int .u64) (l:=eO f a b) [] bP my.symm (by rw[oL]) (by decide) (.done ⟨rfl,rfl⟩)
theorem Zd(x y:Int)(σ:Hp):ACalls Tryz.prog 321 [.int .u64 x,.int .u64 y] σ (az (.int .u64 (kJ x y)) σ):=by
 refine okF Tryz.func321 (by kernel_rfl) ?_
 exact .done ⟨rfl,rfl⟩
theorem Zq(x y:Int)(σ:Hp):ACalls Tryz.prog 294 [.int .u64 x,.int .u64 y] σ (az (.int .u64 (gZ x y)) σ):=by
 refine okF Tryz.func294 (by kernel_rfl) ?_
 exact .done ⟨rfl,rfl⟩
theorem aal(a b:List Int)(σ:Hp)(ha:a.length≤100000)(hb:b.length≤100000):ACalls Tryz.prog 301 [.ah (.int .u64) a,.ah (.int .u64) b] σ (az (.ah (.int .u64) (eO kJ a b)) σ):=by
 refine okF Tryz.func301 (by kernel_rfl) ?_
 refine ax [] (PZ _ _ Zd a b _ ha hb) ?_
 exact .done ⟨rfl,rfl⟩
theorem PQ(a b:List Int)(σ:Hp)(ha:a.length≤100000)(hb:b.length≤100000):ACalls Tryz.prog 264 [.ah (.int .u64) a,.ah (.int .u64) b] σ (az (.ah (.int .u64) (eO gZ a b)) σ):=by
 refine okF Tryz.func264 (by kernel_rfl) ?_
 refine ax [] (PZ _ _ Zq a b _ ha hb) ?_
 exact .done ⟨rfl,rfl⟩
theorem abi(n:Nat)(h:n≤100000000):IntKind.i64.wrap ((n:Int).tdiv 64)=((n / 64:Nat):Int):=by
 rw[Int.tdiv_eq_ediv_of_nonneg (by omega),IntKind.wrap_i64];omega
theorem aaX(n:Nat):(n:Int).tmod 64=((n % 64:Nat):Int):=by
 rw[Int.tmod_eq_emod_of_nonneg (by omega)];omega
theorem aaO(k:Nat)(h:k<64):IntKind.u64.wrap (1*2 ^ min ((k:Nat):Int).toNat IntKind.u64.bits)=((2 ^ k:Nat):Int):=by
 have e:min ((k:Nat):Int).toNat IntKind.u64.bits=k:=by show min k 64=k;omega
 rw[e,Int.one_mul,show ((2:Int) ^ k)=((2 ^ k:Nat):Int) by rw[Int.natCast_pow];rfl]
 exact vC (Nat.lt_of_lt_of_le (Nat.pow_lt_pow_right (by decide) h) (Nat.le_refl _))
theorem Il{l:List Int}{i:Nat}(h:i<l.length)(x:Int){z:Int}(hz:z=i):jq ⟨.int .u64,1,8,[.int .u64 0]⟩ (aU l) (0+z.toNat*1) (.int .u64 x)=some (aU (l.set i x)):=by
 subst hz
 have e:0+((i:Int)).toNat*1=i:=by omega
 rw[e]
 have h2:Nat.ble (i+1) (aU l).length=true:=Nat.ble_eq_true_of_le (by simp[aU];omega)
 show (match Nat.beq 1 1,Nat.ble (i+1) (aU l).length with | true,true=>some (eF (aU l) i [.int .u64 x]) | _,_=>none)=_
 rw[h2]
 show some ((aU l).set i (.int .u64 x))=_
 simp[aU,List.map_set]
theorem Qq{l:List Int}{i:Nat}(h:i<l.length){z:Int}(hz:z=i):cY ⟨.int .u64,1,8,[.int .u64 0]⟩ (aU l) (0+z.toNat*1)=some (.int .u64 (wd l i)):=by
 subst hz
 have e:0+((i:Int)).toNat*1=i:=by omega
 rw[e]
 show (aU l)[i]?=_
 unfold aU wd
 rw[List.getElem?_map,List.getElem?_eq_getElem h];rfl
theorem UQ(w:Int){n:Nat}(h:n<dR w):gT (eV w) (n+1)=(gT (eV w) n).set (n / 64) (kJ (wd (gT (eV w) n) (n / 64)) ((2 ^ (n % 64):Nat):Int)):=by
 have hs:(eV w).length=eb w:=oH w
 have hl:n<64*(eV w).length:=by rw[hs];unfold eb;omega
 have hb:hasB (eV w) n=true:=by
  unfold hasB
  rw[zG w (by unfold eb;omega),Int.toNat_natCast,Nat.testBit_two_pow_sub_one]
  exact decide_eq_true (by omega)
 rw[Wa hl,if_pos hb]
theorem WN(w:Int):gT (eV w) (dR w)=eV w:=by
 refine xC (tc _ _) fun i hi =>?_
 rw[tc]at hi
 rw[xF _ _ hi]
 rw[oH]at hi
 rw[zG w hi,Int.toNat_natCast,Nat.mod_eq_of_lt]
 have:=Nat.two_pow_pos (min 64 (dR w-64*i))
 omega
theorem QB(w:Int)(σ:Hp):ACalls Tryz.prog 163 [.int .i64 w] σ (az (.ah (.int .u64) (eV w)) σ):=by
 refine okF Tryz.func163 (by kernel_rfl) ?_
 have dz:=zx w
 have JV:=HI w
 refine ax [] (Dt w _) ?_
 refine ag.mk ⟨by omega,by omega,by omega,by decide⟩ ?_
 intro q
 refine ax [] (PX w _) ?_
 refine bO (S:=Nat) (fun s=>[(3,.ae q 0 (eb w) 1),(9,.int .i64 (dR w)),(10,.int .i64 s)]) (fun s=>(q,aU (gT (eV w) s))::σ) (fun s=>s≤dR w) (fun s=>dR w-s) 0 ⟨Nat.zero_le _,⟨rfl,rfl,rfl,trivial⟩,?_⟩ ?_
 ·show (q,bU [.int .u64 0] (((eb w:Nat):Int)).toNat)::σ=(q,aU (gT (eV w) 0))::σ
  rw[V9,oH,Int.toNat_natCast,Hn]
 intro n g eT
 have hn:n≤dR w:=eT
 clear eT
 refine ao (fun ab =>?_) (fun au =>?_)
 ·have ab:n<dR w:=by have ab:(n:Int)<dR w:=ab;omega
  have hi:n / 64<(gT (eV w) n).length:=by rw[tc,oH];unfold eb;omega
  have yK:n / 64<eb w:=by unfold eb;omega
  have hd:=abi n (by omega)
  have hm:=aaX n
  refine .sched [] (upto [] 11 0) (by kernel_rfl) ?_
  refine ag.mk (by omega) ?_
  refine ag.mk ⟨rfl,by omega,by omega⟩ ?_
  refine aL 0 rfl (Qq hi hd) ?_
  have e64:=aaO (n % 64) (by omega)
  rw[← hm]at e64
  refine ag.mk (by omega) ?_
  refine ag.mk (by omega) ?_
  refine ag.mk ⟨rfl,by omega,by omega⟩ ?_
  refine cd 0 rfl (Il hi _ hd) ?_
  refine bg (n+1) (by show dR w-(n+1)<dR w-n;omega) ab ⟨rfl,rfl,a8 (by omega),trivial⟩ (aF ?_)
  rw[UQ w ab,← e64]
  rfl
 ·have au:n=dR w:=by have au:¬(n:Int)<dR w:=au;omega
  subst au
  rw[WN]
  exact .cb 0 q 0 (eb w) 1 _ (.int .u64) (eV w) rfl (by rw[List.drop_zero,← oL];exact List.take_of_length_le (by simp[aU,oH])) ⟨oH w,rfl,by decide⟩ .here (.done ⟨rfl,rfl⟩)
def mg(a:List Int):Nat:=(a.map fun z=>rb z.toNat).sum
theorem YY(a:List Int):mg a≤64*a.length:=by
 unfold mg
 induction a with
 | nil=>simp
 | cons x a ih=>have:=Yj x.toNat;simp only[List.map_cons,List.sum_cons,List.length_cons];omega
theorem U8(a:List Int){k:Nat}(h:k<a.length):mg (a.take (k+1))=mg (a.take k)+rb (a[k]).toNat:=by
 unfold mg
 rw[List.take_succ_eq_append_getElem h,List.map_append,List.sum_append];simp
theorem U7{a:List Int}(ha:aS a):mg a=0↔∀i,i<a.length→wd a i=0:=by
 unfold mg
 rw[List.sum_eq_zero_iff_forall_eq_nat]
 constructor
 ·intro h i hi
  have h1:=h _ (List.mem_map.2 ⟨a[i],List.getElem_mem hi,rfl⟩)
  have:=Um (uf (ha _ (List.getElem_mem hi))) h1
  have hw:=zP (ha _ (List.getElem_mem hi))
  rw[jK a hi,← hw,this];rfl
 ·intro h x hx
  obtain⟨z,hz,rfl⟩:=List.mem_map.1 hx
  obtain⟨i,hi,rfl⟩:=List.mem_iff_getElem.1 hz
  have:=h i hi
  rw[jK a hi]at this
  rw[this];rfl
theorem abp{a b:Nat}(h:a+b<1000000000):IntKind.i64.wrap ((a:Int)+(b:Int))=((a+b:Nat):Int):=by rw[IntKind.wrap_i64];omega
theorem aay(a:List Int)(σ:Hp)(hl:a.length≤100000)(ha:aS a):ACalls Tryz.prog 263 [.ah (.int .u64) a] σ (az (.int .i64 (mg a)) σ):=by
 refine okF Tryz.func263 (by kernel_rfl) ?_
 refine bO (S:=Nat) (fun s=>[(3,.int .i64 (mg (a.take s))),(6,.ah (.int .u64) a),(7,.int .i64 a.length),(8,.int .i64 s)]) (fun _=>σ) (fun s=>s≤a.length) (fun s=>a.length-s) 0 ⟨Nat.zero_le _,⟨rfl,rfl,rfl,rfl,trivial⟩,rfl⟩ ?_
 intro k g aZ
 have hk:k≤a.length:=aZ
 clear aZ
 refine ao (fun ab =>?_) (fun au =>?_)
 ·have ab:k<a.length:=by have ab:(k:Int)<a.length:=ab;omega
  refine ag.mk rfl (bH.mk a[k] (by omega) (get_some ab) ?_)
  refine ax [] (abw (ha _ (List.getElem_mem ab)) _) ?_
  have h1:=YY (a.take (k+1))
  have h2:=U8 a ab
  rw[List.length_take]at h1
  refine bg (k+1) (by show a.length-(k+1)<a.length-k;omega) ab ⟨aN (by rw[h2];exact abp (by omega)),rfl,rfl,a8 (by omega),trivial⟩ (.refl _)
 ·have au:k=a.length:=by have au:¬(k:Int)<a.length:=au;omega
  subst au
  rw[List.take_length]
  exact .done ⟨rfl,rfl⟩
theorem zA(a b:List Int):aS (eO gZ a b):=HQ fun _ _=>H7 _ _
theorem Y7(a b:List Int)(σ:Hp)(ha:a.length≤10000)(hb:b.length≤10000):ACalls Tryz.prog 213 [.ah (.int .u64) a,.ah (.int .u64) b] σ (az (.bool (decide (mg (eO gZ a b)=0))) σ):=by
 refine okF Tryz.func213 (by kernel_rfl) ?_
 refine ax [] (PQ a b _ (by omega) (by omega)) ?_
 refine ax [] (aay _ _ (by rw[qA];omega) (zA a b)) ?_
 refine ao (fun c =>?_) (fun c =>?_)
 ·have c:mg (eO gZ a b)=0:=by have c:((mg (eO gZ a b):Nat):Int)=0:=c;omega
  exact .done ⟨cM (decide_eq_true c).symm,rfl⟩
 ·have c:mg (eO gZ a b)≠0:=by have c:¬((mg (eO gZ a b):Nat):Int)=0:=c;omega
  exact .done ⟨cM (decide_eq_false c).symm,rfl⟩
theorem RR{a:List Int}{w:Int}(kQ:aS a)(hl:a.length=eb w):decide (mg (eO gZ a (eV w))=0)=fi a w:=by
 rw[Bool.eq_iff_iff,decide_eq_true_eq,U7 (zA _ _),UT kQ hl,qA,oH,hl,Nat.max_self]
 refine⟨fun h i hi =>?_,fun h i hi =>?_⟩
 ·rw[← zK gZ a (eV w) (by rw[hl];omega)];exact h i hi
 ·rw[zK gZ a (eV w) (by rw[hl];omega)];exact h i hi
theorem Ag(a:List Int)(w:Int)(σ:Hp)(kQ:aS a)(ha:a.length≤10000):ACalls Tryz.prog 159 [.ah (.int .u64) a,.int .i64 w] σ (az (.bool (fi a w)) σ):=by
 refine okF Tryz.func159 (by kernel_rfl) ?_
 refine ax [] (Dt w _) ?_
 have dz:=zx w
 refine ao (fun c =>?_) (fun c =>?_)
 ·have c:a.length=eb w:=by have c:(a.length:Int)=eb w:=c;omega
  refine ax [] (QB w _) ?_
  refine ax [] (Y7 a _ _ ha (by rw[oH];omega)) ?_
  exact .done ⟨cM (RR kQ c),rfl⟩
 ·have c:a.length≠eb w:=by have c:¬(a.length:Int)=eb w:=c;omega
  have hf:fi a w=false:=by unfold fi;rw[decide_eq_false c];rfl
  rw[hf]
  exact .done ⟨rfl,rfl⟩
end Go.Proofs.YtnpidbjdilnhlaaGreat
