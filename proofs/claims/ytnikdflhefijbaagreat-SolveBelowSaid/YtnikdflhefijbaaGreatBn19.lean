import Derived.Test.YtnikdflhefijbaaGreatBn18
namespace Go.Proofs.YtnikdflhefijbaaGreat
open Go.RowKit
theorem ZD{x y:Int}(hx:bD x)(hy:bD y)(h:∀k,k<64→x.toNat.testBit k=y.toNat.testBit k):x=y:=by
 have e:x.toNat=y.toNat:=by
  refine Bm fun k=>?_
  rcases tN k 64 with hk | hk
  ·exact h k hk
  ·rw[vM (rE (tf hx) (tX (by decide:0<2) hk)),vM (rE (tf hy) (tX (by decide:0<2) hk))]
 have h1:=x7 hx
 have h2:=x7 hy
 omega
def dU(a:List Int)(i k:Nat):Bool:=(wd a i).toNat.testBit k
theorem Gk{a b:List Int}(ha:aR a)(hb:aR b)(hl:a.length=b.length)(h:∀i k,i<a.length→k<64→dU a i k=dU b i k):a=b:=
 ye hl fun i hi=>ZD (kP ha i) (kP hb i) fun k hk=>h i k hi hk
theorem FQ(k:Nat):(0:Int).toNat.testBit k=false:=Nat.zero_testBit k
theorem UH(a b:List Int):aR (dr hG a b):=CG fun _ _=>TS _ _
theorem TR{a b:List Int}(ha:aR a)(hb:aR b)(i k:Nat):dU (dr hG a b) i k=(dU a i k||dU b i k):=by
 unfold dU
 rcases tN i (max a.length b.length) with h | h
 ·rw[x5 _ _ _ h,K3 (kP ha i) (kP hb i)]
 ·rw[x6 (by rw[pI];exact h),x6 (a:=a) (by omega),x6 (a:=b) (by omega),FQ];rfl
theorem Uh{a b:List Int}(ha:aR a)(hb:aR b)(i:Nat){k:Nat}(hk:k<64):dU (dr fq a b) i k=(dU a i k&&!dU b i k):=by
 unfold dU
 rcases tN i (max a.length b.length) with h | h
 ·rw[x5 _ _ _ h,GF (kP ha i) (kP hb i) hk]
 ·rw[x6 (by rw[pI];exact h),x6 (a:=a) (by omega),FQ];rfl
theorem nL{a:List Int}{w:Int}(h:fg a w=true):a.length=dC w:=by
 unfold fg at h;rw[bL]at h;exact fm h.1
theorem qN{a:List Int}{w:Int}(ha:aR a)(hl:a.length=dC w):fg a w=true↔∀i k,i<a.length→k<64→dK w≤64*i+k→dU a i k=false:=by
 rw[Kd ha hl]
 unfold hasB dU
 constructor
 ·intro h i k hi hk hc
  have:=h (64*i+k) hc (by omega)
  rw[show (64*i+k) / 64=i by omega,show (64*i+k) % 64=k by omega]at this
  exact this
 ·intro h n h1 h2
  exact h (n / 64) (n % 64) (by omega) (by omega) (by omega)
theorem abY{a b:List Int}{w:Int}(ha:aR a)(hb:aR b)(fa:fg a w=true)(fb:fg b w=true):fg (dr hG a b) w=true:=by
 have la:=nL fa
 have lb:=nL fb
 have hl:(dr hG a b).length=dC w:=by rw[pI];omega
 rw[qN (UH _ _) hl]
 intro i k hi hk hc
 rw[TR ha hb,(qN ha la).1 fa i k (by omega) hk hc,(qN hb lb).1 fb i k (by omega) hk hc];rfl
theorem acJ{a b:List Int}{w:Int}(ha:aR a)(hb:aR b)(fa:fg a w=true)(lb:b.length≤dC w):fg (dr fq a b) w=true:=by
 have la:=nL fa
 have hl:(dr fq a b).length=dC w:=by rw[pI];omega
 rw[qN (zM _ _) hl]
 intro i k hi hk hc
 rw[Uh ha hb i hk,(qN ha la).1 fa i k (by omega) hk hc];rfl
def NZ(a:List Int):Prop:=∀z∈a,aI z=z∧z≠0
theorem GK{a:List Int}{i:Nat}(h:i<a.length):wd a i∈a:=by rw[kL a h];exact bX h
theorem RI(x y:Int):aI (kZ x y)=kZ x y∧kZ x y≠0:=⟨norm_num (adH x y),by have:=adI x y;omega⟩
theorem Gf{a:List Int}(h:NZ a){r:oo}(hr:pX a.length r=true):aI (jE a r)=jE a r∧jE a r≠0:=by
 unfold jE
 split
 ·exact RI _ _
 ·rename_i h1
  have hv:=BQ hr h1
  exact h _ (GK (by omega))
theorem RL:aI 1=1:=rfl
theorem abL(op a b:Int):aI (mA op a b)=mA op a b∧mA op a b≠0:=by
 unfold mA
 split
 ·exact RI _ _
 ·exact⟨rfl,by decide⟩
theorem SN(op:Int){a b:Int}(ha:aI a≠0)(hb:aI b≠0):aI (fH op a b)=fH op a b∧fH op a b≠0:=by
 unfold fH
 rw[ah (by omega)]
 split
 ·exact⟨rfl,by decide⟩
 ·exact abL _ _ _
theorem adE(op:Int){a b:Int}(ha:aI a≠0)(hb:aI b≠0):aI (jJ op a b)=jJ op a b∧jJ op a b≠0:=by
 unfold jJ
 split
 ·exact SN _ ha (by rw[B5];decide)
 ·exact SN _ ha hb
theorem acf{a:List Int}(h:NZ a){c:da}(hc:gl a.length c=true):aI (nZ a c)=nZ a c∧nZ a c≠0:=by
 unfold nZ
 split
 ·exact⟨rfl,by decide⟩
 ·rename_i h1
  have ho:=(Gb hc).2 h1
  have h1:=Gf h ho.1
  have h2:=Gf h ho.2
  exact adE _ (by rw[h1.1];exact h1.2) (by rw[h2.1];exact h2.2)
theorem Rl{a:List Int}(h:NZ a){c:da}(hc:gl a.length c=true):NZ (qT a c):=fun z hz=>by
 rcases qD hz with h' | rfl
 ·exact h z h'
 ·exact acf h hc
theorem KD(a:List Int)(c:da)(l:List da):gV a (c::l)=gV (qT a c) l:=rfl
theorem all_cons{α:Type}{p:α→Bool}{c:α}{l:List α}(h:(c::l).all p=true):p c=true∧l.all p=true:=by
 rw[List.all_cons,bL]at h;exact h
theorem Ue:∀{l:List da} {a:List Int},NZ a→l.all (gl a.length)=true→NZ (gV a l)
 | [],_,h,_=>h
 |c::l,a,h,hl=>by
  have hl:=all_cons hl
  rw[KD]
  exact Ue (Rl h hl.1) (by rw[zu];exact hl.2)
def yV(a b:List Int):Prop:=a.length=b.length∧∀i,i<a.length→wd a i=wd b i∨wd b i=1
theorem Sz{a b:List Int}(h:yV a b){r:oo}(hr:pX a.length r=true):jE a r=jE b r∨jE b r=1:=by
 unfold jE
 by_cases h1:r.1 = -1
 ·rw[ai h1,ai h1];exact .inl rfl
 ·have hv:=BQ hr h1
  rw[ah h1,ah h1]
  exact h.2 _ (by omega)
theorem SM(op:Int){a b a' b':Int}(II:aI a'≠0)(xp:aI b'≠0)(h1:a=a'∨a'=1)(h2:b=b'∨b'=1):fH op a b=fH op a' b'∨fH op a' b'=1:=by
 by_cases c:aI a'=1∨aI b'=1
 ·exact .inr (by unfold fH;rw[ah (by omega),ai c])
 ·rcases h1 with rfl | rfl
  ·rcases h2 with rfl | rfl
   ·exact .inl rfl
   ·exact absurd (Or.inr RL) c
  ·exact absurd (Or.inl RL) c
theorem adD(op:Int){a b a' b':Int}(II:aI a'≠0)(xp:aI b'≠0)(h1:a=a'∨a'=1)(h2:b=b'∨b'=1):jJ op a b=jJ op a' b'∨jJ op a' b'=1:=by
 unfold jJ
 split
 ·exact SM op II (by rw[B5];decide) h1 (.inl rfl)
 ·exact SM op II xp h1 h2
theorem ace{a b:List Int}(hb:NZ b)(h:yV a b){c:da}(hc:gl a.length c=true):nZ a c=nZ b c∨nZ b c=1:=by
 unfold nZ
 by_cases h1:c.2.1 = -1
 ·rw[ai h1,ai h1];exact .inl rfl
 ·have ho:=(Gb hc).2 h1
  rw[ah h1,ah h1]
  have hl:(a.length:Int)=b.length:=by rw[h.1]
  have n1:=Gf hb (hl▸ho.1)
  have n2:=Gf hb (hl▸ho.2)
  exact adD _ (by rw[n1.1];exact n1.2) (by rw[n2.1];exact n2.2) (Sz h ho.1) (Sz h ho.2)
theorem Tz{a:List Int}{i j:Nat}(h:i<a.length)(z:Int):wd (a.set i z) j=if i=j then z else wd a j:=by
 unfold wd
 split
 ·rename_i e;subst e;rw[List.getElem?_set_self h];rfl
 ·rename_i e;rw[List.getElem?_set_ne e]
theorem ZO{a b:List Int}(hb:NZ b)(h:yV a b){c:da}(hc:gl a.length c=true):yV (qT a c) (qT b c):=by
 have hv:=BW hc
 have hl:=h.1
 refine⟨by rw[zu,zu];exact h.1,fun i hi=>?_⟩
 rw[zu]at hi
 unfold qT
 rw[Tz (by omega),Tz (by omega)]
 split
 ·exact ace hb h hc
 ·exact h.2 i hi
theorem Ud:∀{l:List da} {a b:List Int},NZ b→yV a b→l.all (gl a.length)=true→yV (gV a l) (gV b l)
 | [],_,_,_,h,_=>h
 |c::l,a,b,hb,h,hl=>by
  have hl:=all_cons hl
  rw[KD,KD]
  exact Ud (Rl hb (h.1▸hl.1)) (ZO hb h hl.1) (by rw[zu];exact hl.2)
theorem Lq{what w:Int}{g k:List Int}{l:List da}(h:ft what w g k l=0)(h3:¬what=3):fg g w=true∧fg k w=true∧l=[]:=by
 have h:=(KF h).2
 rw[vf h3,bL,bL]at h
 exact⟨h.1.2,h.2,jP.1 (fm h.1.1)⟩
theorem KQ{what w:Int}{g k:List Int}{l:List da}(h:ft what w g k l=0)(h3:what=3):g=[]∧k=[]∧l.all (gl w)=true:=by
 have h:=(KF h).2
 rw[DR h3,bL]at h
 have h0:=fm h.1
 exact⟨jP.1 (by omega),jP.1 (by omega),h.2⟩
theorem Qg{what w:Int}(hi:cD what w=true)(h3:¬what=3):dS what w=dC w:=by unfold dS;rw[ai hi,ah h3]
theorem Pr{what w:Int}(hi:cD what w=true)(h3:what=3):dS what w=w:=by unfold dS;rw[ai hi,ai h3]
theorem mn{what w:Int}{a:List Int}(h:cC what w a=true):cD what w=true:=by unfold cC at h;rw[bL,bL]at h;exact h.1.1
theorem pL{what w:Int}{a:List Int}(hi:cD what w=true)(h3:¬what=3):cC what w a=true↔fg a w=true:=by
 unfold cC
 rw[ah h3,hi,tO,bL,Qg hi h3]
 refine⟨fun h=>h.2,fun h=>⟨aV ?_,h⟩⟩
 rw[nL h]
theorem jB{what w:Int}{a:List Int}(hi:cD what w=true)(h3:what=3):cC what w a=true↔(a.length:Int)=w∧okW a=true:=by
 unfold cC
 rw[ai h3,hi,tO,bL,Pr hi h3,decide_eq_true_eq]
theorem x8{a:List Int}:okW a=true↔∀z∈a,aI z=z:=by unfold okW;rw[fk];exact forall₂_congr fun _ _=>decide_eq_true_iff
theorem any_zero{a:List Int}:(a.any fun z=>decide (0=z))=true↔0∈a:=by
 rw[mf]
 exact⟨fun ⟨z,hz,h⟩=>(fm h)▸hz,fun h=>⟨0,h,aV rfl⟩⟩
theorem UJ{a:List Int}(h:okW a=true)(h0:(a.any fun z=>decide (0=z))=false):NZ a:=fun z hz=>⟨x8.1 h z hz,fun e=>by subst e;rw[any_zero.2 hz]at h0;exact Bool.noConfusion h0⟩
theorem aeG{a:List Int}(h:NZ a):(a.any fun z=>decide (0=z))=false:=by
 cases hb:a.any fun z=>decide (0=z) with
 |false=>rfl
 |true=>exact absurd rfl (h 0 (any_zero.1 hb)).2
theorem RG(n:Nat):okW (List.replicate n 0)=true:=x8.2 fun z hz=>by rw[(Oa.1 hz).2];rfl
theorem Lr(n:Nat):aR (List.replicate n (0:Int)):=fun z hz=>by rw[(Oa.1 hz).2];exact⟨by omega,by omega⟩
theorem zH{what:Int}{g k:List Int}{l:List da}{a:List Int}(ha:aR a):aR (fU what g k l a):=by
 unfold fU
 split
 ·split
  ·exact Lr _
  ·exact LC ha l
 ·exact UH _ _
theorem xL{what w:Int}{g k:List Int}{l:List da}{a:List Int}(hc:ft what w g k l=0)(hv:cC what w a=true):(fU what g k l a).length=a.length:=by
 unfold fU
 split
 ·split
  ·exact gb
  ·exact Fk _ _
 ·rename_i h3
  have hf:=Lq hc h3
  have h1:=nL hf.1
  have h2:=nL hf.2.1
  have h3:=nL ((pL (mn hv) h3).1 hv)
  rw[pI,pI];omega
theorem FN{what w:Int}{g k:List Int}{l:List da}{a:List Int}(hg:aR g)(hk:aR k)(ha:aR a)(hc:ft what w g k l=0)(hv:cC what w a=true):cC what w (fU what g k l a)=true:=by
 have hi:=mn hv
 by_cases h3:what=3
 ·have ox:=(jB hi h3).1 hv
  rw[jB hi h3,xL hc hv]
  refine⟨ox.1,?_⟩
  have hl:=(KQ hc h3).2.2
  cases hz:a.any fun z=>decide (0=z) with
  |true=>rw[Fb h3 hz];exact RG _
  |false=>
   rw[BZ h3 hz]
   exact x8.2 fun z hm=>(Ue (UJ ox.2 hz) (by rw[ox.1];exact hl) z hm).1
 ·have hf:=Lq hc h3
  have ox:=(pL hi h3).1 hv
  rw[pL hi h3,Fo h3]
  exact abY (zM _ _) hg (acJ ha hk ox (Ba (nL hf.2.1))) hf.1
def DX(a b:List Int):Prop:=a.length=b.length∧∀i,i<a.length→wd a i=wd b i∨wd a i=0∨wd b i=1
theorem ya{what:Int}{a b:List Int}{i:Nat}(h:i<a.length)(h2:i<b.length):wd (dg what a b) i=cT what (wd a i) (wd b i):=by
 have hj:i<(dg what a b).length:=by unfold dg;rw[I8];omega
 rw[kL _ hj,kL _ h,kL _ h2]
 simp[dg]
theorem PT(a b:Int):aI (kn a b)=kn a b:=by
 have hn:∀w,aI (aI w)=aI w:=fun w=>by
  unfold aI
  by_cases h0:w=0
  ·simp[h0]
  ·by_cases h1:w=1
   ·simp[h1]
   ·cases hk:ek w with
    |true=>simp[h0,h1,hk]
    |false=>simp[h0,h1]
 unfold kn
 split
 ·exact hn _
 ·split
  ·exact hn _
  ·rfl
theorem qS(a b:Int):cT 3 a b=kn a b:=rfl
theorem iK{what:Int}{a b:List Int}(h:a.length=b.length):(dg what a b).length=a.length:=by unfold dg;rw[I8];omega
theorem aap{a b:List Int}:okW (dg 3 a b)=true:=x8.2 fun z hz=>by
 obtain⟨i,hi,rfl⟩:=tW.1 hz
 simp only[dg,Of]
 exact PT _ _
theorem wE{a:List Int}(h:okW a=true){i:Nat}(hi:i<a.length):aI (wd a i)=wd a i:=x8.1 h _ (GK hi)
theorem acm{a b:List Int}(ha:okW a=true)(hb:okW b=true)(hl:a.length=b.length):DX a (dg 3 a b)∧DX b (dg 3 a b):=by
 refine⟨⟨(iK hl).symm,fun i hi=>?_⟩,⟨by rw[iK hl];exact hl.symm,fun i hi=>?_⟩⟩
 ·rw[ya hi (by omega),qS]
  have h1:=wE ha hi
  unfold kn
  rw[h1]
  split
  ·exact .inl rfl
  ·split
   ·rename_i h;exact .inr (.inl h)
   ·exact .inr (.inr rfl)
 ·rw[ya (by omega) hi,qS]
  have h1:=wE ha (i:=i) (by omega)
  have h2:=wE hb hi
  unfold kn
  rw[h1,h2]
  split
  ·rename_i h
   rcases h with h | h
   ·exact .inl h.symm
   ·exact .inr (.inl h)
  ·split
   ·exact .inl rfl
   ·exact .inr (.inr rfl)
theorem RT{a b:List Int}(ha:okW a=true)(hb:okW b=true)(h:DX a b):dg 3 a b=b:=by
 refine ye ((iK h.1).trans h.1) fun i hi=>?_
 rw[iK h.1]at hi
 have h1:=wE ha hi
 have h2:=wE hb (i:=i) (by have:=h.1;omega)
 rw[ya hi (by have:=h.1;omega),qS]
 unfold kn
 rw[h1,h2]
 rcases h.2 i hi with e | e | e
 ·rw[ai (.inl e),e]
 ·rw[e]
  by_cases hc:(0:Int)=wd b i∨wd b i=0
  ·rw[ai hc];omega
  ·rw[ah hc,ai rfl]
 ·rw[e]
  by_cases hc:wd a i=1∨(1:Int)=0
  ·rw[ai hc];omega
  ·rw[ah hc];split <;> rfl
theorem Q5{w:Int}{g k:List Int}{l:List da}{a b:List Int}(hc:ft 3 w g k l=0)(ha:cC 3 w a=true)(hb:cC 3 w b=true)(h:DX a b):DX (fU 3 g k l a) (fU 3 g k l b):=by
 have hi:=mn ha
 have va:=(jB hi rfl).1 ha
 have vb:=(jB hi rfl).1 hb
 refine⟨by rw[xL hc ha,xL hc hb];exact h.1,fun i ab=>?_⟩
 rw[xL hc ha]at ab
 cases hz:a.any fun z=>decide (0=z) with
 |true=>
  rw[Fb rfl hz]
  refine .inr (.inl ?_)
  rw[kL _ (by rw[gb];exact ab),Jf]
 |false=>
  have na:=UJ va.2 hz
  have hl:=h.1
  have up:yV a b:=⟨hl,fun j hj=>by
   rcases h.2 j hj with e | e | e
   ·exact .inl e
   ·exact absurd e (na _ (GK hj)).2
   ·exact .inr e⟩
  have nb:NZ b:=fun z hz=>by
   refine⟨x8.1 vb.2 z hz,fun e=>?_⟩
   obtain⟨j,hj,rfl⟩:=tW.1 hz
   have e:wd b j=0:=by rw[kL _ hj];exact e
   rcases up.2 j (by omega) with e2 | e2
   ·exact (na _ (GK (i:=j) (by omega))).2 (e2.trans e)
   ·rw[e2]at e;exact absurd e (by decide)
  rw[BZ rfl hz,BZ rfl (aeG nb)]
  have:=Ud nb up (by rw[va.1];exact (KQ hc rfl).2.2)
  rcases this.2 i (by rw[Fk];exact ab) with e | e
  ·exact .inl e
  ·exact .inr (.inr e)
def ja(what:Int)(x y:Bool):Bool:=if what=1 then x||y else x&&y
theorem ae6{x y:Int}(hx:bD x)(hy:bD y)(k:Nat):(bits .and .u64 x y).toNat.testBit k=(x.toNat.testBit k&&y.toNat.testBit k):=by
 have e:bits .and .u64 x y=((BitVec.ofInt 64 x &&& BitVec.ofInt 64 y).toNat:Int):=by
  show IntKind.u64.wrap _=_
  exact yd (BitVec.isLt _)
 rw[e,bM,BitVec.toNat_and,IX,toNat_ofInt hx,toNat_ofInt hy]
theorem GV{what w:Int}(hi:cD what w=true)(h3:¬what=3):what=1∨what=2:=by
 unfold cD at hi;simp at hi;omega
theorem oV{what:Int}(h:what=1∨what=2){a b:List Int}(ha:aR a)(hb:aR b)(hl:a.length=b.length)(i k:Nat)(hi:i<a.length):dU (dg what a b) i k=ja what (dU a i k) (dU b i k):=by
 unfold dU ja
 rw[ya hi (by omega)]
 rcases h with rfl | rfl
 ·rw[ai rfl]
  exact K3 (kP ha i) (kP hb i) k
 ·rw[ah (by decide)]
  exact ae6 (kP ha i) (kP hb i) k
theorem aa5(what:Int)(x y g k:Bool):ja what ((x&&!k)||g) ((y&&!k)||g)=((ja what x y&&!k)||g):=by
 unfold ja;split <;> cases x <;> cases y <;> cases g <;> cases k <;> rfl
theorem Lv(what:Int)(x y:Bool):ja what x (ja what x y)=ja what x y∧ja what y (ja what x y)=ja what x y∧ja what x x=x:=by
 unfold ja;split <;> cases x <;> cases y <;> exact⟨rfl,rfl,rfl⟩
theorem YS{what w:Int}(h:what=1∨what=2){a b:List Int}(ha:aR a)(hb:aR b)(fa:fg a w=true)(fb:fg b w=true):fg (dg what a b) w=true:=by
 have la:=nL fa
 have lb:=nL fb
 have hl:=iK (what:=what) (la.trans lb.symm)
 rw[qN (wF ha hb) (hl.trans la)]
 intro i k hi hk hc
 rw[hl]at hi
 rw[oV h ha hb (la.trans lb.symm) i k hi,(qN ha la).1 fa i k hi hk hc,(qN hb lb).1 fb i k (by omega) hk hc]
 unfold ja;split <;> rfl
theorem Kz{what w:Int}{a b:List Int}(ha:aR a)(hb:aR b)(va:cC what w a=true)(vb:cC what w b=true):cC what w (dg what a b)=true:=by
 have hi:=mn va
 by_cases h3:what=3
 ·subst h3
  have v1:=(jB hi rfl).1 va
  have v2:=(jB hi rfl).1 vb
  rw[jB hi rfl,iK (by omega)]
  exact⟨v1.1,aap⟩
 ·rw[pL hi h3]
  exact YS (GV hi h3) ha hb ((pL hi h3).1 va) ((pL hi h3).1 vb)
theorem Y9{what w:Int}{a b:List Int}(va:cC what w a=true)(vb:cC what w b=true):CM what w [a,b]=0:=by
 unfold CM
 rw[ai (mn va)]
 simp[va,vb]
theorem BY{what w:Int}{a b:List Int}(va:cC what w a=true)(vb:cC what w b=true)(h:dg what a b=b):pS what w a b=true:=by
 unfold pS
 rw[Y9 va vb,h];simp
theorem Zk{what w:Int}{a b:List Int}:pS what w a b=true↔cC what w a=true∧cC what w b=true∧dg what a b=b:=by
 constructor
 ·intro h
  unfold pS at h
  rw[bL]at h
  have hc:=Y8 (fm h.1)
  exact⟨hc.1,hc.2,fm h.2⟩
 ·exact fun h=>BY h.1 h.2.1 h.2.2
theorem aeE{what w:Int}{g k a b:List Int}{l:List da}(hg:aR g)(hk:aR k)(ha:aR a)(hb:aR b)(hc:ft what w g k l=0)(va:cC what w a=true)(vb:cC what w b=true):
  pS what w (fU what g k l a) (fU what g k l (dg what a b))=true∧pS what w (fU what g k l b) (fU what g k l (dg what a b))=true∧(¬what=3→dg what (fU what g k l a) (fU what g k l b)=fU what g k l (dg what a b)):=by
 have hi:=mn va
 have MD:aR (dg what a b):=wF ha hb
 have vj:=Kz ha hb va vb
 have vx:=FN hg hk ha hc va
 have vy:=FN hg hk hb hc vb
 have vz:=FN hg hk MD hc vj
 have pF:a.length=b.length:=by have h1:=wx va;have h2:=wx vb;omega
 by_cases h3:what=3
 ·subst h3
  have v1:=(jB hi rfl).1 va
  have v2:=(jB hi rfl).1 vb
  have hu:=acm v1.2 v2.2 pF
  have o:∀{x:List Int},cC 3 w x=true→okW x=true:=fun h=>((jB hi rfl).1 h).2
  exact⟨BY vx vz (RT (o vx) (o vz) (Q5 hc va vj hu.1)),BY vy vz (RT (o vy) (o vz) (Q5 hc vb vj hu.2)),fun h=>absurd rfl h⟩
 ·have hs:=GV hi h3
  have hf:=Lq hc h3
  have lx:=xL hc va
  have ly:=xL hc vb
  have lz:=xL hc vj
  have lj:=iK (what:=what) pF
  have Ib:aR (fU what g k l a):=zH ha
  have Ia:aR (fU what g k l b):=zH hb
  have z64:aR (fU what g k l (dg what a b)):=zH MD
  have bx:∀{c:List Int},aR c→∀i k',k'<64→dU (fU what g k l c) i k'=((dU c i k'&&!dU k i k')||dU g i k'):=fun hc i k' dA=>by
   rw[Fo h3,TR (zM _ _) hg,Uh hc hk i dA]
  have hz:∀i k',i<a.length→k'<64→dU (fU what g k l (dg what a b)) i k'=ja what (dU (fU what g k l a) i k') (dU (fU what g k l b) i k'):=fun i k' eN dA=>by
   rw[bx MD i k' dA,bx ha i k' dA,bx hb i k' dA,oV hs ha hb pF i k' eN,aa5]
  refine⟨BY vx vz ?_,BY vy vz ?_,fun _=>?_⟩
  ·refine Gk (wF Ib z64) z64 (by rw[iK (by omega)];omega) fun i k' eN dA=>?_
   rw[iK (by omega)]at eN
   rw[oV hs Ib z64 (by omega) i k' eN,hz i k' (by omega) dA,(Lv ..).1]
  ·refine Gk (wF Ia z64) z64 (by rw[iK (by omega)];omega) fun i k' eN dA=>?_
   rw[iK (by omega)]at eN
   rw[oV hs Ia z64 (by omega) i k' eN,hz i k' (by omega) dA,(Lv ..).2.1]
  ·refine Gk (wF Ib Ia) z64 (by rw[iK (by omega)];omega) fun i k' eN dA=>?_
   rw[iK (by omega)]at eN
   rw[oV hs Ib Ia (by omega) i k' eN,hz i k' (by omega) dA]
end Go.Proofs.YtnikdflhefijbaaGreat
