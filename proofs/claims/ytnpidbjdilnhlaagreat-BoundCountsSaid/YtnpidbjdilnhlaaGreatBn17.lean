import Derived.Test.YtnpidbjdilnhlaaGreatBn16
namespace Go.Proofs.YtnpidbjdilnhlaaGreat
open Go.RowKit
theorem VA{x y:Int}(hx:bf x)(hy:bf y)(h:∀k,k<64→x.toNat.testBit k=y.toNat.testBit k):x=y:=by
 have e:x.toNat=y.toNat:=by
  refine Nat.eq_of_testBit_eq fun k =>?_
  rcases Nat.lt_or_ge k 64 with hk | hk
  ·exact h k hk
  ·rw[Nat.testBit_lt_two_pow (Nat.lt_of_lt_of_le (uf hx) (Nat.pow_le_pow_right (by decide:0<2) hk)),Nat.testBit_lt_two_pow (Nat.lt_of_lt_of_le (uf hy) (Nat.pow_le_pow_right (by decide:0<2) hk))]
 have h1:=zP hx
 have h2:=zP hy
 omega
def da(a:List Int)(i k:Nat):Bool:=(wd a i).toNat.testBit k
theorem Dc{a b:List Int}(ha:aS a)(hb:aS b)(hl:a.length=b.length)(h:∀i k,i<a.length→k<64→da a i k=da b i k):a=b:=
 xC hl fun i hi=>VA (lX ha i) (lX hb i) fun k hk=>h i k hi hk
theorem CS(k:Nat):(0:Int).toNat.testBit k=false:=Nat.zero_testBit k
theorem Qb(a b:List Int):aS (eO kJ a b):=HQ fun _ _=>ZW _ _
theorem Pq{a b:List Int}(ha:aS a)(hb:aS b)(i k:Nat):da (eO kJ a b) i k=(da a i k || da b i k):=by
 unfold da
 rcases Nat.lt_or_ge i (max a.length b.length) with h | h
 ·rw[zK _ _ _ h,Ou (lX ha i) (lX hb i)]
 ·rw[xn (by rw[qA];exact h),xn (a:=a) (by omega),xn (a:=b) (by omega),CS];rfl
theorem PJ{a b:List Int}(ha:aS a)(hb:aS b)(i:Nat){k:Nat}(hk:k<64):da (eO gZ a b) i k=(da a i k && !da b i k):=by
 unfold da
 rcases Nat.lt_or_ge i (max a.length b.length) with h | h
 ·rw[zK _ _ _ h,HK (lX ha i) (lX hb i) hk]
 ·rw[xn (by rw[qA];exact h),xn (a:=a) (by omega),CS];rfl
theorem lS{a:List Int}{w:Int}(h:fi a w=true):a.length=eb w:=by
 unfold fi at h;rw[Bool.and_eq_true]at h;exact of_decide_eq_true h.1
theorem oO{a:List Int}{w:Int}(ha:aS a)(hl:a.length=eb w):fi a w=true↔∀i k,i<a.length→k<64→dR w≤64*i+k→da a i k=false:=by
 rw[UU ha hl]
 unfold hasB da
 constructor
 ·intro h i k hi hk hc
  have:=h (64*i+k) hc (by omega)
  rw[show (64*i+k) / 64=i by omega,show (64*i+k) % 64=k by omega]at this
  exact this
 ·intro h n h1 h2
  exact h (n / 64) (n % 64) (by omega) (by omega) (by omega)
theorem Yl{a b:List Int}{w:Int}(ha:aS a)(hb:aS b)(fa:fi a w=true)(fb:fi b w=true):fi (eO kJ a b) w=true:=by
 have la:=lS fa
 have lb:=lS fb
 have hl:(eO kJ a b).length=eb w:=by rw[qA];omega
 rw[oO (Qb _ _) hl]
 intro i k hi hk hc
 rw[Pq ha hb,(oO ha la).1 fa i k (by omega) hk hc,(oO hb lb).1 fb i k (by omega) hk hc];rfl
theorem Y3{a b:List Int}{w:Int}(ha:aS a)(hb:aS b)(fa:fi a w=true)(lb:b.length≤eb w):fi (eO gZ a b) w=true:=by
 have la:=lS fa
 have hl:(eO gZ a b).length=eb w:=by rw[qA];omega
 rw[oO (zA _ _) hl]
 intro i k hi hk hc
 rw[PJ ha hb i hk,(oO ha la).1 fa i k (by omega) hk hc];rfl
def NZ(a:List Int):Prop:=∀z∈a,bj z=z∧z≠0
theorem Dw{a:List Int}{i:Nat}(h:i<a.length):wd a i∈a:=by rw[jK a h];exact List.getElem_mem h
theorem Nj(x y:Int):bj (mj x y)=mj x y∧mj x y≠0:=⟨norm_num (Z3 x y),by have:=Z4 x y;omega⟩
theorem C8{a:List Int}(h:NZ a){r:nm}(hr:oU a.length r=true):bj (kd a r)=kd a r∧kd a r≠0:=by
 unfold kd
 split
 ·exact Nj _ _
 ·rename_i h1
  have hv:=Gu hr h1
  exact h _ (Dw (by omega))
theorem No:bj 1=1:=rfl
theorem X7(op a b:Int):bj (mX op a b)=mX op a b∧mX op a b≠0:=by
 unfold mX
 split
 ·exact Nj _ _
 ·exact⟨rfl,by decide⟩
theorem Ow(op:Int){a b:Int}(ha:bj a≠0)(hb:bj b≠0):bj (mZ op a b)=mZ op a b∧mZ op a b≠0:=by
 unfold mZ
 rw[if_neg (by omega)]
 split
 ·exact⟨rfl,by decide⟩
 ·exact X7 _ _ _
theorem ZZ(op:Int){a b:Int}(ha:bj a≠0)(hb:bj b≠0):bj (kK op a b)=kK op a b∧kK op a b≠0:=by
 unfold kK
 split
 ·exact Ow _ ha (by rw[GX];decide)
 ·exact Ow _ ha hb
theorem Yz{a:List Int}(h:NZ a){c:cg}(hc:fx a.length c=true):bj (nV a c)=nV a c∧nV a c≠0:=by
 unfold nV
 split
 ·exact⟨rfl,by decide⟩
 ·rename_i h1
  have ho:=(G9 hc).2 h1
  have h1:=C8 h ho.1
  have h2:=C8 h ho.2
  exact ZZ _ (by rw[h1.1];exact h1.2) (by rw[h2.1];exact h2.2)
theorem MW{a:List Int}(h:NZ a){c:cg}(hc:fx a.length c=true):NZ (qQ a c):=fun z hz=>by
 rcases List.mem_or_eq_of_mem_set hz with h' | rfl
 ·exact h z h'
 ·exact Yz h hc
theorem G7(a:List Int)(c:cg)(l:List cg):iN a (c::l)=iN (qQ a c) l:=rfl
theorem all_cons{α:Type}{p:α→Bool}{c:α}{l:List α}(h:(c::l).all p=true):p c=true∧l.all p=true:=by
 rw[List.all_cons,Bool.and_eq_true]at h;exact h
theorem PF:∀{l:List cg} {a:List Int},NZ a→l.all (fx a.length)=true→NZ (iN a l)
 | [],_,h,_=>h
 | c::l,a,h,hl=>by
  have hl:=all_cons hl
  rw[G7]
  exact PF (MW h hl.1) (by rw[w5];exact hl.2)
def wC(a b:List Int):Prop:=a.length=b.length∧∀i,i<a.length→wd a i=wd b i∨wd b i=1
theorem Oa{a b:List Int}(h:wC a b){r:nm}(hr:oU a.length r=true):kd a r=kd b r∨kd b r=1:=by
 unfold kd
 by_cases h1:r.1 = -1
 ·rw[if_pos h1,if_pos h1];exact .inl rfl
 ·have hv:=Gu hr h1
  rw[if_neg h1,if_neg h1]
  exact h.2 _ (by omega)
theorem Ov(op:Int){a b a' b':Int}(Fy:bj a'≠0)(uI:bj b'≠0)(h1:a=a'∨a'=1)(h2:b=b'∨b'=1):mZ op a b=mZ op a' b'∨mZ op a' b'=1:=by
 by_cases c:bj a'=1∨bj b'=1
 ·exact .inr (by unfold mZ;rw[if_neg (by omega),if_pos c])
 ·rcases h1 with rfl | rfl
  ·rcases h2 with rfl | rfl
   ·exact .inl rfl
   ·exact absurd (Or.inr No) c
  ·exact absurd (Or.inl No) c
theorem ZY(op:Int){a b a' b':Int}(Fy:bj a'≠0)(uI:bj b'≠0)(h1:a=a'∨a'=1)(h2:b=b'∨b'=1):kK op a b=kK op a' b'∨kK op a' b'=1:=by
 unfold kK
 split
 ·exact Ov op Fy (by rw[GX];decide) h1 (.inl rfl)
 ·exact Ov op Fy uI h1 h2
theorem Yy{a b:List Int}(hb:NZ b)(h:wC a b){c:cg}(hc:fx a.length c=true):nV a c=nV b c∨nV b c=1:=by
 unfold nV
 by_cases h1:c.2.1 = -1
 ·rw[if_pos h1,if_pos h1];exact .inl rfl
 ·have ho:=(G9 hc).2 h1
  rw[if_neg h1,if_neg h1]
  have hl:(a.length:Int)=b.length:=by rw[h.1]
  have n1:=C8 hb (hl▸ho.1)
  have n2:=C8 hb (hl▸ho.2)
  exact ZY _ (by rw[n1.1];exact n1.2) (by rw[n2.1];exact n2.2) (Oa h ho.1) (Oa h ho.2)
theorem O7{a:List Int}{i j:Nat}(h:i<a.length)(z:Int):wd (a.set i z) j=if i=j then z else wd a j:=by
 unfold wd
 split
 ·rename_i e;subst e;rw[List.getElem?_set_self h];rfl
 ·rename_i e;rw[List.getElem?_set_ne e]
theorem VK{a b:List Int}(hb:NZ b)(h:wC a b){c:cg}(hc:fx a.length c=true):wC (qQ a c) (qQ b c):=by
 have hv:=CN hc
 have hl:=h.1
 refine⟨by rw[w5,w5];exact h.1,fun i hi =>?_⟩
 rw[w5]at hi
 unfold qQ
 rw[O7 (by omega),O7 (by omega)]
 split
 ·exact Yy hb h hc
 ·exact h.2 i hi
theorem PE:∀{l:List cg} {a b:List Int},NZ b→wC a b→l.all (fx a.length)=true→wC (iN a l) (iN b l)
 | [],_,_,_,h,_=>h
 | c::l,a,b,hb,h,hl=>by
  have hl:=all_cons hl
  rw[G7,G7]
  exact PE (MW hb (h.1▸hl.1)) (VK hb h hl.1) (by rw[w5];exact hl.2)
theorem HS{what w:Int}{g k:List Int}{l:List cg}(h:er what w g k l=0)(h3:¬what=3):fi g w=true∧fi k w=true∧l=[]:=by
 have h:=(Ha h).2
 rw[sJ h3,Bool.and_eq_true,Bool.and_eq_true]at h
 exact⟨h.1.2,h.2,List.length_eq_zero_iff.1 (of_decide_eq_true h.1.1)⟩
theorem Oe{what w:Int}{g k:List Int}{l:List cg}(h:er what w g k l=0)(h3:what=3):g=[]∧k=[]∧l.all (fx w)=true:=by
 have h:=(Ha h).2
 rw[Bq h3,Bool.and_eq_true]at h
 have h0:=of_decide_eq_true h.1
 exact⟨List.length_eq_zero_iff.1 (by omega),List.length_eq_zero_iff.1 (by omega),h.2⟩
theorem LX{what w:Int}(hi:cE what w=true)(h3:¬what=3):eE what w=eb w:=by unfold eE;rw[if_pos hi,if_neg h3]
theorem Lf{what w:Int}(hi:cE what w=true)(h3:what=3):eE what w=w:=by unfold eE;rw[if_pos hi,if_pos h3]
theorem ky{what w:Int}{a:List Int}(h:bZ what w a=true):cE what w=true:=by unfold bZ at h;rw[Bool.and_eq_true,Bool.and_eq_true]at h;exact h.1.1
theorem nD{what w:Int}{a:List Int}(hi:cE what w=true)(h3:¬what=3):bZ what w a=true↔fi a w=true:=by
 unfold bZ
 rw[if_neg h3,hi,Bool.true_and,Bool.and_eq_true,LX hi h3]
 refine⟨fun h=>h.2,fun h=>⟨decide_eq_true ?_,h⟩⟩
 rw[lS h]
theorem hG{what w:Int}{a:List Int}(hi:cE what w=true)(h3:what=3):bZ what w a=true↔(a.length:Int)=w∧okW a=true:=by
 unfold bZ
 rw[if_pos h3,hi,Bool.true_and,Bool.and_eq_true,Lf hi h3,decide_eq_true_eq]
theorem vr{a:List Int}:okW a=true↔∀z∈a,bj z=z:=by unfold okW;rw[List.all_eq_true];exact forall₂_congr fun _ _=>decide_eq_true_iff
theorem any_zero{a:List Int}:(a.any fun z=>decide (0=z))=true↔0∈a:=by
 rw[List.any_eq_true]
 exact⟨fun ⟨z,hz,h⟩=>(of_decide_eq_true h)▸hz,fun h=>⟨0,h,decide_eq_true rfl⟩⟩
theorem Qd{a:List Int}(h:okW a=true)(h0:(a.any fun z=>decide (0=z))=false):NZ a:=fun z hz=>⟨vr.1 h z hz,fun e=>by subst e;rw[any_zero.2 hz]at h0;exact Bool.noConfusion h0⟩
theorem aaT{a:List Int}(h:NZ a):(a.any fun z=>decide (0=z))=false:=by
 cases hb:a.any fun z=>decide (0=z) with
 | false=>rfl
 | true=>exact absurd rfl (h 0 (any_zero.1 hb)).2
theorem Nh(n:Nat):okW (List.replicate n 0)=true:=vr.2 fun z hz=>by rw[(List.mem_replicate.1 hz).2];rfl
theorem HT(n:Nat):aS (List.replicate n (0:Int)):=fun z hz=>by rw[(List.mem_replicate.1 hz).2];exact⟨by omega,by omega⟩
theorem xe{what:Int}{g k:List Int}{l:List cg}{a:List Int}(ha:aS a):aS (fh what g k l a):=by
 unfold fh
 split
 ·split
  ·exact HT _
  ·exact PG ha l
 ·exact Qb _ _
theorem uV{what w:Int}{g k:List Int}{l:List cg}{a:List Int}(hc:er what w g k l=0)(hv:bZ what w a=true):(fh what g k l a).length=a.length:=by
 unfold fh
 split
 ·split
  ·exact List.length_replicate
  ·exact Gc _ _
 ·rename_i h3
  have hf:=HS hc h3
  have h1:=lS hf.1
  have h2:=lS hf.2.1
  have h3:=lS ((nD (ky hv) h3).1 hv)
  rw[qA,qA];omega
theorem CP{what w:Int}{g k:List Int}{l:List cg}{a:List Int}(hg:aS g)(hk:aS k)(ha:aS a)(hc:er what w g k l=0)(hv:bZ what w a=true):bZ what w (fh what g k l a)=true:=by
 have hi:=ky hv
 by_cases h3:what=3
 ·have mn:=(hG hi h3).1 hv
  rw[hG hi h3,uV hc hv]
  refine⟨mn.1,?_⟩
  have hl:=(Oe hc h3).2.2
  cases hz:a.any fun z=>decide (0=z) with
  | true=>rw[FU h3 hz];exact Nh _
  | false =>
   rw[CQ h3 hz]
   exact vr.2 fun z hm=>(PF (Qd mn.2 hz) (by rw[mn.1];exact hl) z hm).1
 ·have hf:=HS hc h3
  have mn:=(nD hi h3).1 hv
  rw[nD hi h3,Gg h3]
  exact Yl (zA _ _) hg (Y3 ha hk mn (Nat.le_of_eq (lS hf.2.1))) hf.1
def Bx(a b:List Int):Prop:=a.length=b.length∧∀i,i<a.length→wd a i=wd b i∨wd a i=0∨wd b i=1
theorem vu{what:Int}{a b:List Int}{i:Nat}(h:i<a.length)(h2:i<b.length):wd (dr what a b) i=cu what (wd a i) (wd b i):=by
 have hj:i<(dr what a b).length:=by unfold dr;rw[List.length_zipWith];omega
 rw[jK _ hj,jK _ h,jK _ h2]
 simp[dr]
theorem LC(a b:Int):bj (k9 a b)=k9 a b:=by
 have hn:∀w,bj (bj w)=bj w:=fun w=>by
  unfold bj
  by_cases h0:w=0
  ·simp[h0]
  ·by_cases h1:w=1
   ·simp[h1]
   ·cases hk:gj w with
    | true=>simp[h0,h1,hk]
    | false=>simp[h0,h1]
 unfold k9
 split
 ·exact hn _
 ·split
  ·exact hn _
  ·rfl
theorem oT(a b:Int):cu 3 a b=k9 a b:=rfl
theorem gr{what:Int}{a b:List Int}(h:a.length=b.length):(dr what a b).length=a.length:=by unfold dr;rw[List.length_zipWith];omega
theorem Wy{a b:List Int}:okW (dr 3 a b)=true:=vr.2 fun z hz=>by
 obtain⟨i,hi,rfl⟩:=List.mem_iff_getElem.1 hz
 simp only[dr,List.getElem_zipWith]
 exact LC _ _
theorem tJ{a:List Int}(h:okW a=true){i:Nat}(hi:i<a.length):bj (wd a i)=wd a i:=vr.1 h _ (Dw hi)
theorem YH{a b:List Int}(ha:okW a=true)(hb:okW b=true)(hl:a.length=b.length):Bx a (dr 3 a b)∧Bx b (dr 3 a b):=by
 refine⟨⟨(gr hl).symm,fun i hi =>?_⟩,⟨by rw[gr hl];exact hl.symm,fun i hi =>?_⟩⟩
 ·rw[vu hi (by omega),oT]
  have h1:=tJ ha hi
  unfold k9
  rw[h1]
  split
  ·exact .inl rfl
  ·split
   ·rename_i h;exact .inr (.inl h)
   ·exact .inr (.inr rfl)
 ·rw[vu (by omega) hi,oT]
  have h1:=tJ ha (i:=i) (by omega)
  have h2:=tJ hb hi
  unfold k9
  rw[h1,h2]
  split
  ·rename_i h
   rcases h with h | h
   ·exact .inl h.symm
   ·exact .inr (.inl h)
  ·split
   ·exact .inl rfl
   ·exact .inr (.inr rfl)
theorem Nx{a b:List Int}(ha:okW a=true)(hb:okW b=true)(h:Bx a b):dr 3 a b=b:=by
 refine xC ((gr h.1).trans h.1) fun i hi =>?_
 rw[gr h.1]at hi
 have h1:=tJ ha hi
 have h2:=tJ hb (i:=i) (by have:=h.1;omega)
 rw[vu hi (by have:=h.1;omega),oT]
 unfold k9
 rw[h1,h2]
 rcases h.2 i hi with e | e | e
 ·rw[if_pos (.inl e),e]
 ·rw[e]
  by_cases hc:(0:Int)=wd b i∨wd b i=0
  ·rw[if_pos hc];omega
  ·rw[if_neg hc,if_pos rfl]
 ·rw[e]
  by_cases hc:wd a i=1∨(1:Int)=0
  ·rw[if_pos hc];omega
  ·rw[if_neg hc];split <;> rfl
theorem MG{w:Int}{g k:List Int}{l:List cg}{a b:List Int}(hc:er 3 w g k l=0)(ha:bZ 3 w a=true)(hb:bZ 3 w b=true)(h:Bx a b):Bx (fh 3 g k l a) (fh 3 g k l b):=by
 have hi:=ky ha
 have va:=(hG hi rfl).1 ha
 have vb:=(hG hi rfl).1 hb
 refine⟨by rw[uV hc ha,uV hc hb];exact h.1,fun i ab =>?_⟩
 rw[uV hc ha]at ab
 cases hz:a.any fun z=>decide (0=z) with
 | true =>
  rw[FU rfl hz]
  refine .inr (.inl ?_)
  rw[jK _ (by rw[List.length_replicate];exact ab),List.getElem_replicate]
 | false =>
  have na:=Qd va.2 hz
  have hl:=h.1
  have up:wC a b:=⟨hl,fun j hj=>by
   rcases h.2 j hj with e | e | e
   ·exact .inl e
   ·exact absurd e (na _ (Dw hj)).2
   ·exact .inr e⟩
  have nb:NZ b:=fun z hz=>by
   refine⟨vr.1 vb.2 z hz,fun e =>?_⟩
   obtain⟨j,hj,rfl⟩:=List.mem_iff_getElem.1 hz
   have e:wd b j=0:=by rw[jK _ hj];exact e
   rcases up.2 j (by omega) with e2 | e2
   ·exact (na _ (Dw (i:=j) (by omega))).2 (e2.trans e)
   ·rw[e2]at e;exact absurd e (by decide)
  rw[CQ rfl hz,CQ rfl (aaT nb)]
  have:=PE nb up (by rw[va.1];exact (Oe hc rfl).2.2)
  rcases this.2 i (by rw[Gc];exact ab) with e | e
  ·exact .inl e
  ·exact .inr (.inr e)
def gK(what:Int)(x y:Bool):Bool:=if what=1 then x || y else x && y
theorem aaj{x y:Int}(hx:bf x)(hy:bf y)(k:Nat):(bits .and .u64 x y).toNat.testBit k=(x.toNat.testBit k && y.toNat.testBit k):=by
 have e:bits .and .u64 x y=((BitVec.ofInt 64 x &&& BitVec.ofInt 64 y).toNat:Int):=by
  show IntKind.u64.wrap _=_
  exact vC (BitVec.isLt _)
 rw[e,Int.toNat_natCast,BitVec.toNat_and,Nat.testBit_and,toNat_ofInt hx,toNat_ofInt hy]
theorem DJ{what w:Int}(hi:cE what w=true)(h3:¬what=3):what=1∨what=2:=by
 unfold cE at hi;simp at hi;omega
theorem mE{what:Int}(h:what=1∨what=2){a b:List Int}(ha:aS a)(hb:aS b)(hl:a.length=b.length)(i k:Nat)(hi:i<a.length):da (dr what a b) i k=gK what (da a i k) (da b i k):=by
 unfold da gK
 rw[vu hi (by omega)]
 rcases h with rfl | rfl
 ·rw[if_pos rfl]
  exact Ou (lX ha i) (lX hb i) k
 ·rw[if_neg (by decide)]
  exact aaj (lX ha i) (lX hb i) k
theorem Wf(what:Int)(x y g k:Bool):gK what ((x && !k) || g) ((y && !k) || g)=((gK what x y && !k) || g):=by
 unfold gK;split <;> cases x <;> cases y <;> cases g <;> cases k <;> rfl
theorem HX(what:Int)(x y:Bool):gK what x (gK what x y)=gK what x y∧gK what y (gK what x y)=gK what x y∧gK what x x=x:=by
 unfold gK;split <;> cases x <;> cases y <;> exact⟨rfl,rfl,rfl⟩
theorem UK{what w:Int}(h:what=1∨what=2){a b:List Int}(ha:aS a)(hb:aS b)(fa:fi a w=true)(fb:fi b w=true):fi (dr what a b) w=true:=by
 have la:=lS fa
 have lb:=lS fb
 have hl:=gr (what:=what) (la.trans lb.symm)
 rw[oO (tL ha hb) (hl.trans la)]
 intro i k hi hk hc
 rw[hl]at hi
 rw[mE h ha hb (la.trans lb.symm) i k hi,(oO ha la).1 fa i k hi hk hc,(oO hb lb).1 fb i k (by omega) hk hc]
 unfold gK;split <;> rfl
theorem G0{what w:Int}{a b:List Int}(ha:aS a)(hb:aS b)(va:bZ what w a=true)(vb:bZ what w b=true):bZ what w (dr what a b)=true:=by
 have hi:=ky va
 by_cases h3:what=3
 ·subst h3
  have v1:=(hG hi rfl).1 va
  have v2:=(hG hi rfl).1 vb
  rw[hG hi rfl,gr (by omega)]
  exact⟨v1.1,Wy⟩
 ·rw[nD hi h3]
  exact UK (DJ hi h3) ha hb ((nD hi h3).1 va) ((nD hi h3).1 vb)
theorem Vb{what w:Int}{a b:List Int}(va:bZ what w a=true)(vb:bZ what w b=true):Am what w [a,b]=0:=by
 unfold Am
 rw[if_pos (ky va)]
 simp[va,vb]
theorem zq{what w:Int}{a b:List Int}(va:bZ what w a=true)(vb:bZ what w b=true)(h:dr what a b=b):vI what w a b=true:=by
 unfold vI
 rw[Vb va vb,h];simp
theorem Vl{what w:Int}{a b:List Int}:vI what w a b=true↔bZ what w a=true∧bZ what w b=true∧dr what a b=b:=by
 constructor
 ·intro h
  unfold vI at h
  rw[Bool.and_eq_true]at h
  have hc:=Va (of_decide_eq_true h.1)
  exact⟨hc.1,hc.2,of_decide_eq_true h.2⟩
 ·exact fun h=>zq h.1 h.2.1 h.2.2
theorem aaP{what w:Int}{g k a b:List Int}{l:List cg}(hg:aS g)(hk:aS k)(ha:aS a)(hb:aS b)(hc:er what w g k l=0)(va:bZ what w a=true)(vb:bZ what w b=true):
  vI what w (fh what g k l a) (fh what g k l (dr what a b))=true∧vI what w (fh what g k l b) (fh what g k l (dr what a b))=true∧(¬what=3→dr what (fh what g k l a) (fh what g k l b)=fh what g k l (dr what a b)):=by
 have hi:=ky va
 have I2:aS (dr what a b):=tL ha hb
 have vj:=G0 ha hb va vb
 have vx:=CP hg hk ha hc va
 have vy:=CP hg hk hb hc vb
 have vz:=CP hg hk I2 hc vj
 have nz:a.length=b.length:=by have h1:=tF va;have h2:=tF vb;omega
 by_cases h3:what=3
 ·subst h3
  have v1:=(hG hi rfl).1 va
  have v2:=(hG hi rfl).1 vb
  have hu:=YH v1.2 v2.2 nz
  have o:∀{x:List Int},bZ 3 w x=true→okW x=true:=fun h=>((hG hi rfl).1 h).2
  exact⟨zq vx vz (Nx (o vx) (o vz) (MG hc va vj hu.1)),zq vy vz (Nx (o vy) (o vz) (MG hc vb vj hu.2)),fun h=>absurd rfl h⟩
 ·have hs:=DJ hi h3
  have hf:=HS hc h3
  have lx:=uV hc va
  have ly:=uV hc vb
  have lz:=uV hc vj
  have lj:=gr (what:=what) nz
  have E1:aS (fh what g k l a):=xe ha
  have E0:aS (fh what g k l b):=xe hb
  have z64:aS (fh what g k l (dr what a b)):=xe I2
  have bx:∀{c:List Int},aS c→∀i k',k'<64→da (fh what g k l c) i k'=((da c i k' && !da k i k') || da g i k'):=fun hc i k' eL=>by
   rw[Gg h3,Pq (zA _ _) hg,PJ hc hk i eL]
  have hz:∀i k',i<a.length→k'<64→da (fh what g k l (dr what a b)) i k'=gK what (da (fh what g k l a) i k') (da (fh what g k l b) i k'):=fun i k' eg eL=>by
   rw[bx I2 i k' eL,bx ha i k' eL,bx hb i k' eL,mE hs ha hb nz i k' eg,Wf]
  refine⟨zq vx vz ?_,zq vy vz ?_,fun _ =>?_⟩
  ·refine Dc (tL E1 z64) z64 (by rw[gr (by omega)];omega) fun i k' eg eL =>?_
   rw[gr (by omega)]at eg
   rw[mE hs E1 z64 (by omega) i k' eg,hz i k' (by omega) eL,(HX ..).1]
  ·refine Dc (tL E0 z64) z64 (by rw[gr (by omega)];omega) fun i k' eg eL =>?_
   rw[gr (by omega)]at eg
   rw[mE hs E0 z64 (by omega) i k' eg,hz i k' (by omega) eL,(HX ..).2.1]
  ·refine Dc (tL E1 E0) z64 (by rw[gr (by omega)];omega) fun i k' eg eL =>?_
   rw[gr (by omega)]at eg
   rw[mE hs E1 E0 (by omega) i k' eg,hz i k' (by omega) eL]
end Go.Proofs.YtnpidbjdilnhlaaGreat
