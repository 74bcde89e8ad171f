import Derived.Test.YtnpidbjdilnhlaaGreatBn13
import Derived.Test.YtnpidbjdilnhlaaGreatBn14
namespace Go.Proofs.YtnpidbjdilnhlaaGreat
open Go.RowKit
set_option maxRecDepth 100000
theorem Kz(a:List Int)(i:Nat)(σ:Hp):ACalls Tryz.prog 317 [.af (.int .u64) a,.int .i64 i] σ (aB (.int .u64 (wd a i)) σ):=by
 refine okF Tryz.func317 (by kernel_rfl) ?_
 refine an (fun c =>?_) (fun c =>?_)
 ·have c:(a.length:Int)≤(i:Int):=c
  exact .done ⟨aN (s8 (by omega)).symm,rfl⟩
 ·have c:i<a.length:=by have c:¬(a.length:Int)≤(i:Int):=c;omega
  refine ah.mk rfl (aT.mk a[i] (by omega) (get_some c) ?_)
  exact .done ⟨aN (ly a c).symm,rfl⟩
theorem Lt(n:Int)(σ:Hp):ACalls Tryz.prog 170 [.int .i64 n] σ (aB (.int .i64 (df n)) σ):=by
 refine okF Tryz.func170 (by kernel_rfl) ?_
 exact .done ⟨aN (JJ n),rfl⟩
theorem Q1(n:Int):(IntKind.i64.wrap (IntKind.i64.wrap ((df n:Nat)+64)-1)).tdiv 64=((cx n:Nat):Int):=by
 have:=xf n
 rw[IntKind.wrap_i64,IntKind.wrap_i64]
 unfold cx
 rw[Int.tdiv_eq_ediv_of_nonneg (by omega)]
 omega
theorem HU(n:Int):IntKind.i64.wrap ((cx n:Nat):Int)=((cx n:Nat):Int):=by
 have:=s5 n
 rw[IntKind.wrap_i64];omega
theorem AE(n:Int)(σ:Hp):ACalls Tryz.prog 122 [.int .i64 n] σ (aB (.int .i64 (cx n)) σ):=by
 refine okF Tryz.func122 (by kernel_rfl) ?_
 refine az [] (Lt n _) ?_
 refine ah.mk (by decide) ?_
 exact .done ⟨aN (by rw[Q1,HU]),rfl⟩
theorem Lv(g:FuncId)(f:Int→Int→Int)(hg:∀(x y:Int) (σ:Hp),ACalls Tryz.prog g [.int .u64 x,.int .u64 y] σ (aB (.int .u64 (f x y)) σ))(a b:List Int)(σ:Hp)(ha:a.length≤100000)(hb:b.length≤100000):ACalls Tryz.prog 293 [.af (.int .u64) a,.af (.int .u64) b,.fn (.func g) [] []] σ (aB (.af (.int .u64) (eg f a b)) σ):=by
 refine okF Tryz.func293 (by kernel_rfl) ?_
 obtain⟨n,hn⟩:∃n,n=max a.length b.length:=⟨_,rfl⟩
 have oc:(if (a.length:Int)<b.length then (b.length:Int) else a.length)=(n:Int):=by split <;> omega
 have nE:(eg f a b).length=n:=by rw[oT,hn]
 refine .wrap 7 _ rfl rfl ?_
 refine aU (S:=Nat×AV×Hp) (fun s=>[(0,.af (.int .u64) a),(1,.af (.int .u64) b),(2,.fn (.func g) [] []),(7,.via s.2.1),(13,.int .i64 n),(14,.int .i64 s.1)]) (fun s=>s.2.2++σ) (fun s=>s.1≤n∧Acc 1 s.1 s.2.1 s.2.2 (aL ((eg f a b).take s.1))) (fun s=>n-s.1) (0,.aj,[]) ⟨⟨Nat.zero_le _,.nil⟩,⟨rfl,rfl,rfl,rfl,aN oc,rfl,trivial⟩,rfl⟩ ?_
 rintro⟨k,v,acc⟩ s ⟨aG,eR⟩
 have hk:k≤n:=aG
 have bc:Acc 1 k v acc (aL ((eg f a b).take k)):=eR
 clear aG eR
 refine an (fun ab =>?_) (fun aq =>?_)
 ·have ab:k<n:=by have ab:(k:Int)<n:=ab;omega
  have he:(eg f a b)[k]'(by omega)=f (wd a k) (wd b k):=by rw[← ly,wX f a b (by omega)]
  refine az [] (Kz a k _) ?_
  refine az [] (Kz b k _) ?_
  refine az [] (hg _ _ _) ?_
  intro aC
  refine dX [_] bc (.ae 0 aC 0 1 _ rfl (Nat.le_of_ble_eq_true rfl)) rfl (by omega) (by decide) (by decide) (fun v' aP h' =>?_)
  refine aH (k+1,v',aP) (by show n-(k+1)<n-k;omega) ⟨ab,?_⟩ ⟨rfl,rfl,rfl,rfl,rfl,aI (by omega),trivial⟩ (.drop 0 1 (aF rfl))
  show Acc 1 (k+1) v' aP (aL ((eg f a b).take (k+1)))
  rw[List.take_succ_eq_append_getElem (by omega),he,aL,List.map_append]
  exact h'
 ·have aq:k=n:=by have aq:¬(k:Int)<n:=aq;omega
  subst aq
  rw[List.take_of_length_le (by omega)]at bc
  exact jR (s:=.int .u64) (l:=eg f a b) [] bc nE.symm (by rw[ka]) (by decide) (.done ⟨rfl,rfl⟩)
theorem Ue(x y:Int)(σ:Hp):ACalls Tryz.prog 321 [.int .u64 x,.int .u64 y] σ (aB (.int .u64 (jJ x y)) σ):=by
 refine okF Tryz.func321 (by kernel_rfl) ?_
 exact .done ⟨rfl,rfl⟩
theorem Uv(x y:Int)(σ:Hp):ACalls Tryz.prog 294 [.int .u64 x,.int .u64 y] σ (aB (.int .u64 (gm x y)) σ):=by
 refine okF Tryz.func294 (by kernel_rfl) ?_
 exact .done ⟨rfl,rfl⟩
theorem Vo(a b:List Int)(σ:Hp)(ha:a.length≤100000)(hb:b.length≤100000):ACalls Tryz.prog 301 [.af (.int .u64) a,.af (.int .u64) b] σ (aB (.af (.int .u64) (eg jJ a b)) σ):=by
 refine okF Tryz.func301 (by kernel_rfl) ?_
 refine az [] (Lv _ _ Ue a b _ ha hb) ?_
 exact .done ⟨rfl,rfl⟩
theorem Lp(a b:List Int)(σ:Hp)(ha:a.length≤100000)(hb:b.length≤100000):ACalls Tryz.prog 264 [.af (.int .u64) a,.af (.int .u64) b] σ (aB (.af (.int .u64) (eg gm a b)) σ):=by
 refine okF Tryz.func264 (by kernel_rfl) ?_
 refine az [] (Lv _ _ Uv a b _ ha hb) ?_
 exact .done ⟨rfl,rfl⟩
theorem EJ(n:Nat)(h:n≤100000000):IntKind.i64.wrap ((n:Int).tdiv 64)=((n / 64:Nat):Int):=by
 rw[Int.tdiv_eq_ediv_of_nonneg (by omega),IntKind.wrap_i64];omega
theorem Eu(n:Nat):(n:Int).tmod 64=((n % 64:Nat):Int):=by
 rw[Int.tmod_eq_emod_of_nonneg (by omega)];omega
theorem LB(k:Nat)(h:k<64):IntKind.u64.wrap (1*2 ^ min ((k:Nat):Int).toNat IntKind.u64.bits)=((2 ^ k:Nat):Int):=by
 have e:min ((k:Nat):Int).toNat IntKind.u64.bits=k:=by show min k 64=k;omega
 rw[e,Int.one_mul,show ((2:Int) ^ k)=((2 ^ k:Nat):Int) by rw[Int.natCast_pow];rfl]
 exact uQ (Nat.lt_of_lt_of_le (Nat.pow_lt_pow_right (by decide) h) (Nat.le_refl _))
theorem pg{l:List Int}{i:Nat}(h:i<l.length)(x:Int){z:Int}(hz:z=i):ju ⟨.int .u64,1,8,[.int .u64 0]⟩ (aL l) (0+z.toNat*1) (.int .u64 x)=some (aL (l.set i x)):=by
 subst hz
 have e:0+((i:Int)).toNat*1=i:=by omega
 rw[e]
 have h2:Nat.ble (i+1) (aL l).length=true:=Nat.ble_eq_true_of_le (by simp[aL];omega)
 show (match Nat.beq 1 1,Nat.ble (i+1) (aL l).length with | true,true=>some (er (aL l) i [.int .u64 x]) | _,_=>none)=_
 rw[h2]
 show some ((aL l).set i (.int .u64 x))=_
 simp[aL,List.map_set]
theorem vr{l:List Int}{i:Nat}(h:i<l.length){z:Int}(hz:z=i):dy ⟨.int .u64,1,8,[.int .u64 0]⟩ (aL l) (0+z.toNat*1)=some (.int .u64 (wd l i)):=by
 subst hz
 have e:0+((i:Int)).toNat*1=i:=by omega
 rw[e]
 show (aL l)[i]?=_
 unfold aL wd
 rw[List.getElem?_map,List.getElem?_eq_getElem h];rfl
theorem Iy(w:Int){n:Nat}(h:n<df w):fw (dQ w) (n+1)=(fw (dQ w) n).set (n / 64) (jJ (wd (fw (dQ w) n) (n / 64)) ((2 ^ (n % 64):Nat):Int)):=by
 have hs:(dQ w).length=cx w:=kC w
 have hl:n<64*(dQ w).length:=by rw[hs];unfold cx;omega
 have hb:hasB (dQ w) n=true:=by
  unfold hasB
  rw[Ah w (by unfold cx;omega),Int.toNat_natCast,Nat.testBit_two_pow_sub_one]
  exact decide_eq_true (by omega)
 rw[Ra hl,if_pos hb]
theorem JB(w:Int):fw (dQ w) (df w)=dQ w:=by
 refine KM (pY _ _) fun i hi =>?_
 rw[pY]at hi
 rw[uT _ _ hi]
 rw[kC]at hi
 rw[Ah w hi,Int.toNat_natCast,Nat.mod_eq_of_lt]
 have:=Nat.two_pow_pos (min 64 (df w-64*i))
 omega
theorem L6(w:Int)(σ:Hp):ACalls Tryz.prog 163 [.int .i64 w] σ (aB (.af (.int .u64) (dQ w)) σ):=by
 refine okF Tryz.func163 (by kernel_rfl) ?_
 have cS:=s5 w
 have B9:=xf w
 refine az [] (AE w _) ?_
 refine ah.mk ⟨by omega,by omega,by omega,by decide⟩ ?_
 intro q
 refine az [] (Lt w _) ?_
 refine aU (S:=Nat) (fun s=>[(3,.ae q 0 (cx w) 1),(9,.int .i64 (df w)),(10,.int .i64 s)]) (fun s=>(q,aL (fw (dQ w) s))::σ) (fun s=>s≤df w) (fun s=>df w-s) 0 ⟨Nat.zero_le _,⟨rfl,rfl,rfl,trivial⟩,?_⟩ ?_
 ·show (q,bN [.int .u64 0] (((cx w:Nat):Int)).toNat)::σ=(q,aL (fw (dQ w) 0))::σ
  rw[Jd,kC,Int.toNat_natCast,uK]
 intro n g dS
 have hn:n≤df w:=dS
 clear dS
 refine an (fun ab =>?_) (fun aq =>?_)
 ·have ab:n<df w:=by have ab:(n:Int)<df w:=ab;omega
  have hi:n / 64<(fw (dQ w) n).length:=by rw[pY,kC];unfold cx;omega
  have vT:n / 64<cx w:=by unfold cx;omega
  have hd:=EJ n (by omega)
  have hm:=Eu n
  refine .sched [] (upto [] 11 0) (by kernel_rfl) ?_
  refine ah.mk (by omega) ?_
  refine ah.mk ⟨rfl,by omega,by omega⟩ ?_
  refine aa.mk 0 _ _ rfl (vr hi hd) ?_
  have y9:=LB (n % 64) (by omega)
  rw[← hm]at y9
  refine ah.mk (by omega) ?_
  refine ah.mk (by omega) ?_
  refine ah.mk ⟨rfl,by omega,by omega⟩ ?_
  refine ai.mk 0 _ _ rfl (pg hi _ hd) ?_
  refine aH (n+1) (by show df w-(n+1)<df w-n;omega) ab ⟨rfl,rfl,aI (by omega),trivial⟩ (aF ?_)
  rw[Iy w ab,← y9]
  rfl
 ·have aq:n=df w:=by have aq:¬(n:Int)<df w:=aq;omega
  subst aq
  rw[JB]
  exact .bO 0 q 0 (cx w) 1 _ (.int .u64) (dQ w) rfl (by rw[List.drop_zero,← ka];exact List.take_of_length_le (by simp[aL,kC])) ⟨kC w,rfl,by decide⟩ .here (.done ⟨rfl,rfl⟩)
def kV(a:List Int):Nat:=(a.map fun z=>pz z.toNat).sum
theorem TR(a:List Int):kV a≤64*a.length:=by
 unfold kV
 induction a with
 | nil=>simp
 | cons x a ih=>have:=Td x.toNat;simp only[List.map_cons,List.sum_cons,List.length_cons];omega
theorem Qo(a:List Int){k:Nat}(h:k<a.length):kV (a.take (k+1))=kV (a.take k)+pz (a[k]).toNat:=by
 unfold kV
 rw[List.take_succ_eq_append_getElem h,List.map_append,List.sum_append];simp
theorem Qn{a:List Int}(ha:bJ a):kV a=0↔∀i,i<a.length→wd a i=0:=by
 unfold kV
 rw[List.sum_eq_zero_iff_forall_eq_nat]
 constructor
 ·intro h i hi
  have h1:=h _ (List.mem_map.2 ⟨a[i],List.getElem_mem hi,rfl⟩)
  have:=PH (tB (ha _ (List.getElem_mem hi))) h1
  have hw:=Ao (ha _ (List.getElem_mem hi))
  rw[ly a hi,← hw,this];rfl
 ·intro h x hx
  obtain⟨z,hz,rfl⟩:=List.mem_map.1 hx
  obtain⟨i,hi,rfl⟩:=List.mem_iff_getElem.1 hz
  have:=h i hi
  rw[ly a hi]at this
  rw[this];rfl
theorem Wx{a b:Nat}(h:a+b<1000000000):IntKind.i64.wrap ((a:Int)+(b:Int))=((a+b:Nat):Int):=by rw[IntKind.wrap_i64];omega
theorem VK(a:List Int)(σ:Hp)(hl:a.length≤100000)(ha:bJ a):ACalls Tryz.prog 263 [.af (.int .u64) a] σ (aB (.int .i64 (kV a)) σ):=by
 refine okF Tryz.func263 (by kernel_rfl) ?_
 refine aU (S:=Nat) (fun s=>[(3,.int .i64 (kV (a.take s))),(6,.af (.int .u64) a),(7,.int .i64 a.length),(8,.int .i64 s)]) (fun _=>σ) (fun s=>s≤a.length) (fun s=>a.length-s) 0 ⟨Nat.zero_le _,⟨rfl,rfl,rfl,rfl,trivial⟩,rfl⟩ ?_
 intro k g aG
 have hk:k≤a.length:=aG
 clear aG
 refine an (fun ab =>?_) (fun aq =>?_)
 ·have ab:k<a.length:=by have ab:(k:Int)<a.length:=ab;omega
  refine ah.mk rfl (aT.mk a[k] (by omega) (get_some ab) ?_)
  refine az [] (WI (ha _ (List.getElem_mem ab)) _) ?_
  have h1:=TR (a.take (k+1))
  have h2:=Qo a ab
  rw[List.length_take]at h1
  refine aH (k+1) (by show a.length-(k+1)<a.length-k;omega) ab ⟨aN (by rw[h2];exact Wx (by omega)),rfl,rfl,aI (by omega),trivial⟩ (.refl _)
 ·have aq:k=a.length:=by have aq:¬(k:Int)<a.length:=aq;omega
  subst aq
  rw[List.take_length]
  exact .done ⟨rfl,rfl⟩
theorem Ad(a b:List Int):bJ (eg gm a b):=D0 fun _ _=>Eb _ _
theorem T9(a b:List Int)(σ:Hp)(ha:a.length≤10000)(hb:b.length≤10000):ACalls Tryz.prog 213 [.af (.int .u64) a,.af (.int .u64) b] σ (aB (.bool (decide (kV (eg gm a b)=0))) σ):=by
 refine okF Tryz.func213 (by kernel_rfl) ?_
 refine az [] (Lp a b _ (by omega) (by omega)) ?_
 refine az [] (VK _ _ (by rw[oT];omega) (Ad a b)) ?_
 refine an (fun c =>?_) (fun c =>?_)
 ·have c:kV (eg gm a b)=0:=by have c:((kV (eg gm a b):Nat):Int)=0:=c;omega
  exact .done ⟨bz (decide_eq_true c).symm,rfl⟩
 ·have c:kV (eg gm a b)≠0:=by have c:¬((kV (eg gm a b):Nat):Int)=0:=c;omega
  exact .done ⟨bz (decide_eq_false c).symm,rfl⟩
theorem Nv{a:List Int}{w:Int}(gC:bJ a)(hl:a.length=cx w):decide (kV (eg gm a (dQ w))=0)=ef a w:=by
 rw[Bool.eq_iff_iff,decide_eq_true_eq,Qn (Ad _ _),Qd gC hl,oT,kC,hl,Nat.max_self]
 refine⟨fun h i hi =>?_,fun h i hi =>?_⟩
 ·rw[← wX gm a (dQ w) (by rw[hl];omega)];exact h i hi
 ·rw[wX gm a (dQ w) (by rw[hl];omega)];exact h i hi
theorem xi(a:List Int)(w:Int)(σ:Hp)(gC:bJ a)(ha:a.length≤10000):ACalls Tryz.prog 159 [.af (.int .u64) a,.int .i64 w] σ (aB (.bool (ef a w)) σ):=by
 refine okF Tryz.func159 (by kernel_rfl) ?_
 refine az [] (AE w _) ?_
 have cS:=s5 w
 refine an (fun c =>?_) (fun c =>?_)
 ·have c:a.length=cx w:=by have c:(a.length:Int)=cx w:=c;omega
  refine az [] (L6 w _) ?_
  refine az [] (T9 a _ _ ha (by rw[kC];omega)) ?_
  exact .done ⟨bz (Nv gC c),rfl⟩
 ·have c:a.length≠cx w:=by have c:¬(a.length:Int)=cx w:=c;omega
  have hf:ef a w=false:=by unfold ef;rw[decide_eq_false c];rfl
  rw[hf]
  exact .done ⟨rfl,rfl⟩
set_option maxRecDepth 100000
theorem DV(n:Int)(σ:Hp):ACalls Tryz.prog 148 [.int .i64 n] σ (aB (.int .i64 (df n)) σ):=by
 refine okF Tryz.func148 (by kernel_rfl) ?_
 exact .done ⟨aN (JJ n),rfl⟩
theorem Pr(n:Int):(IntKind.i64.wrap ((df n:Nat)+63)).tdiv 64=((cx n:Nat):Int):=by
 have:=xf n
 rw[IntKind.wrap_i64]
 unfold cx
 rw[Int.tdiv_eq_ediv_of_nonneg (by omega)]
 omega
theorem Ed(n:Int)(σ:Hp):ACalls Tryz.prog 97 [.int .i64 n] σ (aB (.int .i64 (cx n)) σ):=by
 refine okF Tryz.func97 (by kernel_rfl) ?_
 refine az [] (DV n _) ?_
 refine ah.mk (by decide) ?_
 exact .done ⟨aN (by rw[Pr,HU]),rfl⟩
theorem TF{x:Int}(ha:bh x){k:Nat}(h:k<64){z:Int}(hz:z=k):(bits .and .u64 (x.fdiv (2 ^ min z.toNat IntKind.u64.bits)) 1=1)↔x.toNat.testBit k=true:=by
 subst hz
 have e:min ((k:Int)).toNat IntKind.u64.bits=k:=by show min k 64=k;omega
 have hw:=Ao ha
 rw[← hw,Ak _ _ _ e]
 have ab:=tB ha
 rw[show (1:Int)=((1:Nat):Int) from rfl,wh (Nat.lt_of_le_of_lt (Nat.div_le_self _ _) ab) (by decide)]
 rw[Int.toNat_natCast,Nat.and_one_is_mod,Nat.testBit_eq_decide_div_mod_eq,decide_eq_true_eq]
 omega
theorem WJ(a:List Int)(n:Nat)(σ:Hp)(gC:bJ a)(hn:n≤1000000):ACalls Tryz.prog 185 [.af (.int .u64) a,.int .i64 n] σ (aB (.bool (hasB a n)) σ):=by
 refine okF Tryz.func185 (by kernel_rfl) ?_
 have hd:=EJ n (by omega)
 have hm:=Eu n
 refine ah.mk (by omega) ?_
 refine an (fun c1 =>?_) (fun c1 =>?_)
 ·have c1:IntKind.i64.wrap ((↑n:Int).tdiv 64)<(↑a.length:Int):=c1
  refine ah.mk (by omega) ?_
  have hi:n / 64<a.length:=by omega
  refine ah.mk rfl (aT.mk a[n / 64] (by omega) (by rw[hd];exact get_some hi) ?_)
  have hq:=TF (ha:=gC _ (List.getElem_mem hi)) (k:=n % 64) (by omega) hm
  have hb:hasB a n=a[n / 64].toNat.testBit (n % 64):=by unfold hasB;rw[ly a hi]
  refine ah.mk (by omega) ?_
  refine ah.mk (by omega) ?_
  refine an (fun c2=>.done ⟨bz ?_,rfl⟩) (fun c2=>.done ⟨bz ?_,rfl⟩)
  ·rw[hb];exact (hq.1 c2).symm
  ·rw[hb];exact (Bool.eq_false_iff.2 fun h=>c2 (hq.2 h)).symm
 ·have c1:¬(IntKind.i64.wrap ((↑n:Int).tdiv 64)<(↑a.length:Int)):=c1
  have hb:hasB a n=false:=by unfold hasB;rw[s8 (by omega)];simp
  rw[hb]
  exact .done ⟨rfl,rfl⟩
theorem Vm(l:List Int)(n q len:Nat)(σ:Hp)(hl:l.length=len)(hm:len≤10000)(hn:n / 64<len):ACalls Tryz.prog 260 [.ae q 0 len 1,.int .i64 n] ((q,aL l)::σ) (fun r σ'=>∃b,r=.ae b 0 len 1∧σ'=(b,aL (l.set (n / 64) (jJ (wd l (n / 64)) ((2 ^ (n % 64):Nat):Int))))::(q,aL l)::σ):=by
 refine okF Tryz.func260 (by kernel_rfl) ?_
 have hd:=EJ n (by omega)
 have hm:=Eu n
 intro aC
 have Xr:(aL l).length=len*1:=by simp[aL,hl]
 have hle:0+len*1≤(aL l).length:=by omega
 have e8:((aL l).drop 0).take (len*1)=aL l:=List.take_of_length_le (by rw[List.drop_zero];omega)
 refine dX [] (acc:=[(aC,[])]) (k:=0) (cs:=[]) (n:=len) (.ae aC 0 [] rfl) (.ae 1 q 0 len (aL l) rfl hle) (by rw[e8];exact Xr) (by omega) (by decide) (by decide) (fun v' aP h' =>?_)
 rw[Nat.zero_add,e8,List.nil_append]at h'
 generalize fX:aL l=cs at h'
 cases h' with
 | nil=>omega
 | ae b k cs h =>
 subst fX
 have hi:n / 64<l.length:=by omega
 refine .sched [] (upto [] 14 0) (by kernel_rfl) ?_
 refine ah.mk (by omega) ?_
 refine ah.mk (by omega) ?_
 refine ah.mk ⟨rfl,by omega,by omega⟩ ?_
 refine aa.mk 0 _ _ rfl (vr hi hd) ?_
 have y9:=LB (n % 64) (by omega)
 rw[← hm]at y9
 refine ah.mk (by omega) ?_
 refine ah.mk (by omega) ?_
 refine ah.mk ⟨rfl,by omega,by omega⟩ ?_
 refine ai.mk 0 _ _ rfl (pg hi _ hd) ?_
 rw[← y9]
 exact .done ⟨_,rfl,rfl⟩
theorem Ei(a:List Int)(w:Int)(σ:Hp)(gC:bJ a):ACalls Tryz.prog 140 [.af (.int .u64) a,.int .i64 w] σ (aB (.bool (ef a w)) σ):=by
 refine okF Tryz.func140 (by kernel_rfl) ?_
 have cS:=s5 w
 have B9:=xf w
 refine az [] (Ed w _) ?_
 refine bS (fun c =>?_) (fun c =>?_)
 ·have c:a.length≠cx w:=by have c:(!decide ((a.length:Int)=(cx w:Int)))=true:=c;simp at c;omega
  have hf:ef a w=false:=by unfold ef;rw[decide_eq_false c];rfl
  rw[hf]
  exact .done ⟨rfl,rfl⟩
 ·have c:a.length=cx w:=by have c:(!decide ((a.length:Int)=(cx w:Int)))=false:=c;simp at c;omega
  refine az [] (DV w _) ?_
  refine aU (S:=Nat) (fun s=>[(0,.af (.int .u64) a),(5,.int .i64 s)]) (fun _=>σ) (fun s=>df w≤s∧s≤64*a.length∧∀n,df w≤n→n<s→hasB a n=false) (fun s=>64*a.length-s) (df w) ⟨⟨Nat.le_refl _,?_,fun n h1 h2=>by omega⟩,⟨rfl,rfl,trivial⟩,rfl⟩ ?_
  ·rw[c];unfold cx;omega
  intro k g aG
  obtain⟨im,cD,hk3⟩:df w≤k∧k≤64*a.length∧∀n,df w≤n→n<k→hasB a n=false:=aG
  refine an (fun ab =>?_) (fun aq =>?_)
  ·have ab:k<64*a.length:=by
    have ab:(k:Int)<IntKind.i64.wrap (64*(a.length:Int)):=ab
    rw[IntKind.wrap_i64]at ab;omega
   refine cm [] (WJ a k _ gC (by omega)) (fun cA =>?_) (fun cA =>?_)
   ·have hf:ef a w=false:=Bool.eq_false_iff.2 fun h=>by
     have:=(C5 gC c).1 h k im ab
     rw[cA]at this;exact absurd this (by decide)
    rw[hf]
    exact .done ⟨rfl,rfl⟩
   ·refine aH (k+1) (by show 64*a.length-(k+1)<64*a.length-k;omega) ⟨by omega,by omega,fun n h1 h2 =>?_⟩ ⟨rfl,aI (by omega),trivial⟩ (.refl _)
    rcases Nat.lt_or_ge n k with h3 | h3
    ·exact hk3 n h1 h3
    ·rw[show n=k by omega];exact cA
  ·have aq:k=64*a.length:=by
    have aq:¬(k:Int)<IntKind.i64.wrap (64*(a.length:Int)):=aq
    rw[IntKind.wrap_i64]at aq;omega
   have hf:ef a w=true:=(C5 gC c).2 fun n h1 h2=>hk3 n h1 (by omega)
   rw[hf]
   exact .done ⟨rfl,rfl⟩
end Go.Proofs.YtnpidbjdilnhlaaGreat
