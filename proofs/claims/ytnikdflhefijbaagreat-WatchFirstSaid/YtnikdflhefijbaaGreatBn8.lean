import Derived.Test.YtnikdflhefijbaaGreatBn7
namespace Go.Proofs.YtnikdflhefijbaaGreat
open Go.RowKit
theorem ab5{x y:Int}(hx:bK x)(hy:bK y)(h:∀k,k<64→x.toNat.testBit k=y.toNat.testBit k):x=y:=by
 have e:x.toNat=y.toNat:=by
  refine Cm fun k=>?_
  rcases uz k 64 with hk | hk
  ·exact h k hk
  ·rw[wK (sg (vD hx) (uE (by decide:0<2) hk)),wK (sg (vD hy) (uE (by decide:0<2) hk))]
 have h1:=AG hx
 have h2:=AG hy
 omega
def dZ(a:List Int)(i k:Nat):Bool:=(wd a i).toNat.testBit k
theorem He{a b:List Int}(ha:aU a)(hb:aU b)(hl:a.length=b.length)(h:∀i k,i<a.length→k<64→dZ a i k=dZ b i k):a=b:=
 AW hl fun i hi=>ab5 (oc ha i) (oc hb i) fun k hk=>h i k hi hk
theorem GQ(k:Nat):(0:Int).toNat.testBit k=false:=Nat.zero_testBit k
theorem V3(a b:List Int):aU (fU mS a b):=MB fun _ _=>afH _ _
theorem Vd{a b:List Int}(ha:aU a)(hb:aU b)(i k:Nat):dZ (fU mS a b) i k=(dZ a i k||dZ b i k):=by
 unfold dZ
 rcases uz i (max a.length b.length) with h | h
 ·rw[Dg _ _ _ h,Uc (oc ha i) (oc hb i)]
 ·rw[yL (by rw[tk];exact h),yL (a:=a) (by omega),yL (a:=b) (by omega),GQ];rfl
theorem Vw{a b:List Int}(ha:aU a)(hb:aU b)(i:Nat){k:Nat}(hk:k<64):dZ (fU jI a b) i k=(dZ a i k&&!dZ b i k):=by
 unfold dZ
 rcases uz i (max a.length b.length) with h | h
 ·rw[Dg _ _ _ h,Mu (oc ha i) (oc hb i) hk]
 ·rw[yL (by rw[tk];exact h),yL (a:=a) (by omega),GQ];rfl
theorem n0{a:List Int}{w:Int}(h:fA a w=true):a.length=ej w:=by
 unfold fA at h;rw[bL]at h;exact fv h.1
theorem ru{a:List Int}{w:Int}(ha:aU a)(hl:a.length=ej w):fA a w=true↔∀i k,i<a.length→k<64→dY w≤64*i+k→dZ a i k=false:=by
 rw[Lm ha hl]
 unfold hasB dZ
 constructor
 ·intro h i k hi hk hc
  have:=h (64*i+k) hc (by omega)
  rw[show (64*i+k) / 64=i by omega,show (64*i+k) % 64=k by omega]at this
  exact this
 ·intro h n h1 h2
  exact h (n / 64) (n % 64) (by omega) (by omega) (by omega)
theorem adZ{a b:List Int}{w:Int}(ha:aU a)(hb:aU b)(fa:fA a w=true)(fb:fA b w=true):fA (fU mS a b) w=true:=by
 have la:=n0 fa
 have lb:=n0 fb
 have hl:(fU mS a b).length=ej w:=by rw[tk];omega
 rw[ru (V3 _ _) hl]
 intro i k hi hk hc
 rw[Vd ha hb,(ru ha la).1 fa i k (by omega) hk hc,(ru hb lb).1 fb i k (by omega) hk hc];rfl
theorem aeK{a b:List Int}{w:Int}(ha:aU a)(hb:aU b)(fa:fA a w=true)(lb:b.length≤ej w):fA (fU jI a b) w=true:=by
 have la:=n0 fa
 have hl:(fU jI a b).length=ej w:=by rw[tk];omega
 rw[ru (C5 _ _) hl]
 intro i k hi hk hc
 rw[Vw ha hb i hk,(ru ha la).1 fa i k (by omega) hk hc];rfl
def NZ(a:List Int):Prop:=∀z∈a,bD z=z∧z≠0
theorem HC{a:List Int}{i:Nat}(h:i<a.length):wd a i∈a:=by rw[kQ a h];exact bX h
theorem SN(x y:Int):bD (oQ x y)=oQ x y∧oQ x y≠0:=⟨norm_num (afN x y),by have:=afO x y;omega⟩
theorem Ha{a:List Int}(h:NZ a){r:oN}(hr:pB a.length r=true):bD (mj a r)=mj a r∧mj a r≠0:=by
 unfold mj
 split
 ·exact SN _ _
 ·rename_i h1
  have hv:=Lb hr h1
  exact h _ (HC (by omega))
theorem SQ:bD 1=1:=rfl
theorem adL(op a b:Int):bD (pL op a b)=pL op a b∧pL op a b≠0:=by
 unfold pL
 split
 ·exact SN _ _
 ·exact⟨rfl,by decide⟩
theorem Ue(op:Int){a b:Int}(ha:bD a≠0)(hb:bD b≠0):bD (pN op a b)=pN op a b∧pN op a b≠0:=by
 unfold pN
 rw[ag (by omega)]
 split
 ·exact⟨rfl,by decide⟩
 ·exact adL _ _ _
theorem afK(op:Int){a b:Int}(ha:bD a≠0)(hb:bD b≠0):bD (mT op a b)=mT op a b∧mT op a b≠0:=by
 unfold mT
 split
 ·exact Ue _ ha (by rw[LJ];decide)
 ·exact Ue _ ha hb
theorem aec{a:List Int}(h:NZ a){c:df}(hc:dX a.length c=true):bD (qC a c)=qC a c∧qC a c≠0:=by
 unfold qC
 split
 ·exact⟨rfl,by decide⟩
 ·rename_i h1
  have ho:=(LV hc).2 h1
  have h1:=Ha h ho.1
  have h2:=Ha h ho.2
  exact afK _ (by rw[h1.1];exact h1.2) (by rw[h2.1];exact h2.2)
theorem Sq{a:List Int}(h:NZ a){c:df}(hc:dX a.length c=true):NZ (tO a c):=fun z hz=>by
 rcases q9 hz with h' | rfl
 ·exact h z h'
 ·exact aec h hc
theorem LR(a:List Int)(c:df)(l:List df):kj a (c::l)=kj (tO a c) l:=rfl
theorem all_cons{α:Type}{p:α→Bool}{c:α}{l:List α}(h:(c::l).all p=true):p c=true∧l.all p=true:=by
 rw[List.all_cons,bL]at h;exact h
theorem Vs:∀{l:List df} {a:List Int},NZ a→l.all (dX a.length)=true→NZ (kj a l)
 | [],_,h,_=>h
 |c::l,a,h,hl=>by
  have hl:=all_cons hl
  rw[LR]
  exact Vs (Sq h hl.1) (by rw[Af];exact hl.2)
def zD(a b:List Int):Prop:=a.length=b.length∧∀i,i<a.length→wd a i=wd b i∨wd b i=1
theorem TO{a b:List Int}(h:zD a b){r:oN}(hr:pB a.length r=true):mj a r=mj b r∨mj b r=1:=by
 unfold mj
 by_cases h1:r.1 = -1
 ·rw[ah h1,ah h1];exact .inl rfl
 ·have hv:=Lb hr h1
  rw[ag h1,ag h1]
  exact h.2 _ (by omega)
theorem Ud(op:Int){a b a' b':Int}(JB:bD a'≠0)(x5:bD b'≠0)(h1:a=a'∨a'=1)(h2:b=b'∨b'=1):pN op a b=pN op a' b'∨pN op a' b'=1:=by
 by_cases c:bD a'=1∨bD b'=1
 ·exact .inr (by unfold pN;rw[ag (by omega),ah c])
 ·rcases h1 with rfl | rfl
  ·rcases h2 with rfl | rfl
   ·exact .inl rfl
   ·exact absurd (Or.inr SQ) c
  ·exact absurd (Or.inl SQ) c
theorem afJ(op:Int){a b a' b':Int}(JB:bD a'≠0)(x5:bD b'≠0)(h1:a=a'∨a'=1)(h2:b=b'∨b'=1):mT op a b=mT op a' b'∨mT op a' b'=1:=by
 unfold mT
 split
 ·exact Ud op JB (by rw[LJ];decide) h1 (.inl rfl)
 ·exact Ud op JB x5 h1 h2
theorem aeb{a b:List Int}(hb:NZ b)(h:zD a b){c:df}(hc:dX a.length c=true):qC a c=qC b c∨qC b c=1:=by
 unfold qC
 by_cases h1:c.2.1 = -1
 ·rw[ah h1,ah h1];exact .inl rfl
 ·have ho:=(LV hc).2 h1
  rw[ag h1,ag h1]
  have hl:(a.length:Int)=b.length:=by rw[h.1]
  have n1:=Ha hb (hl▸ho.1)
  have n2:=Ha hb (hl▸ho.2)
  exact afJ _ (by rw[n1.1];exact n1.2) (by rw[n2.1];exact n2.2) (TO h ho.1) (TO h ho.2)
theorem UY{a:List Int}{i j:Nat}(h:i<a.length)(z:Int):wd (a.set i z) j=if i=j then z else wd a j:=by
 unfold wd
 split
 ·rename_i e;subst e;rw[List.getElem?_set_self h];rfl
 ·rename_i e;rw[List.getElem?_set_ne e]
theorem abe{a b:List Int}(hb:NZ b)(h:zD a b){c:df}(hc:dX a.length c=true):zD (tO a c) (tO b c):=by
 have hv:=GL hc
 have hl:=h.1
 refine⟨by rw[Af,Af];exact h.1,fun i hi=>?_⟩
 rw[Af]at hi
 unfold tO
 rw[UY (by omega),UY (by omega)]
 split
 ·exact aeb hb h hc
 ·exact h.2 i hi
theorem Vr:∀{l:List df} {a b:List Int},NZ b→zD a b→l.all (dX a.length)=true→zD (kj a l) (kj b l)
 | [],_,_,_,h,_=>h
 |c::l,a,b,hb,h,hl=>by
  have hl:=all_cons hl
  rw[LR,LR]
  exact Vr (Sq hb (h.1▸hl.1)) (abe hb h hl.1) (by rw[Af];exact hl.2)
theorem MD{what w:Int}{g k:List Int}{l:List df}(h:eT what w g k l=0)(h3:¬what=3):fA g w=true∧fA k w=true∧l=[]:=by
 have h:=(LX h).2
 rw[qK h3,bL,bL]at h
 exact⟨h.1.2,h.2,iR.1 (fv h.1.1)⟩
theorem TS{what w:Int}{g k:List Int}{l:List df}(h:eT what w g k l=0)(h3:what=3):g=[]∧k=[]∧l.all (dX w)=true:=by
 have h:=(LX h).2
 rw[vR h3,bL]at h
 have h0:=fv h.1
 exact⟨iR.1 (by omega),iR.1 (by omega),h.2⟩
theorem Rh{what w:Int}(hi:cO what w=true)(h3:¬what=3):eX what w=ej w:=by unfold eX;rw[ah hi,ag h3]
theorem Qx{what w:Int}(hi:cO what w=true)(h3:what=3):eX what w=w:=by unfold eX;rw[ah hi,ah h3]
theorem mH{what w:Int}{a:List Int}(h:cC what w a=true):cO what w=true:=by unfold cC at h;rw[bL,bL]at h;exact h.1.1
theorem qk{what w:Int}{a:List Int}(hi:cO what w=true)(h3:¬what=3):cC what w a=true↔fA a w=true:=by
 unfold cC
 rw[ag h3,hi,wF,bL,Rh hi h3]
 refine⟨fun h=>h.2,fun h=>⟨aL ?_,h⟩⟩
 rw[n0 h]
theorem jJ{what w:Int}{a:List Int}(hi:cO what w=true)(h3:what=3):cC what w a=true↔(a.length:Int)=w∧okW a=true:=by
 unfold cC
 rw[ah h3,hi,wF,bL,Qx hi h3,decide_eq_true_eq]
theorem yM{a:List Int}:okW a=true↔∀z∈a,bD z=z:=by unfold okW;rw[fI];exact forall₂_congr fun _ _=>decide_eq_true_iff
theorem any_zero{a:List Int}:(a.any fun z=>decide (0=z))=true↔0∈a:=by
 rw[lA]
 exact⟨fun ⟨z,hz,h⟩=>(fv h)▸hz,fun h=>⟨0,h,aL rfl⟩⟩
theorem V5{a:List Int}(h:okW a=true)(h0:(a.any fun z=>decide (0=z))=false):NZ a:=fun z hz=>⟨yM.1 h z hz,fun e=>by subst e;rw[any_zero.2 hz]at h0;exact Bool.noConfusion h0⟩
theorem agM{a:List Int}(h:NZ a):(a.any fun z=>decide (0=z))=false:=by
 cases hb:a.any fun z=>decide (0=z) with
 |false=>rfl
 |true=>exact absurd rfl (h 0 (any_zero.1 hb)).2
theorem SL(n:Nat):okW (List.replicate n 0)=true:=yM.2 fun z hz=>by rw[(Pg.1 hz).2];rfl
theorem MF(n:Nat):aU (List.replicate n (0:Int)):=fun z hz=>by rw[(Pg.1 hz).2];exact⟨by omega,by omega⟩
theorem Av{what:Int}{g k:List Int}{l:List df}{a:List Int}(ha:aU a):aU (fS what g k l a):=by
 unfold fS
 split
 ·split
  ·exact MF _
  ·exact Vt ha l
 ·exact V3 _ _
theorem yr{what w:Int}{g k:List Int}{l:List df}{a:List Int}(hc:eT what w g k l=0)(hv:cC what w a=true):(fS what g k l a).length=a.length:=by
 unfold fS
 split
 ·split
  ·exact gG
  ·exact KS _ _
 ·rename_i h3
  have hf:=MD hc h3
  have h1:=n0 hf.1
  have h2:=n0 hf.2.1
  have h3:=n0 ((qk (mH hv) h3).1 hv)
  rw[tk,tk];omega
theorem GN{what w:Int}{g k:List Int}{l:List df}{a:List Int}(hg:aU g)(hk:aU k)(ha:aU a)(hc:eT what w g k l=0)(hv:cC what w a=true):cC what w (fS what g k l a)=true:=by
 have hi:=mH hv
 by_cases h3:what=3
 ·have oS:=(jJ hi h3).1 hv
  rw[jJ hi h3,yr hc hv]
  refine⟨oS.1,?_⟩
  have hl:=(TS hc h3).2.2
  cases hz:a.any fun z=>decide (0=z) with
  |true=>rw[KF h3 hz];exact SL _
  |false=>
   rw[GO h3 hz]
   exact yM.2 fun z hm=>(Vs (V5 oS.2 hz) (by rw[oS.1];exact hl) z hm).1
 ·have hf:=MD hc h3
  have oS:=(qk hi h3).1 hv
  rw[qk hi h3,KW h3]
  exact adZ (C5 _ _) hg (aeK ha hk oS (yc (n0 hf.2.1))) hf.1
def EX(a b:List Int):Prop:=a.length=b.length∧∀i,i<a.length→wd a i=wd b i∨wd a i=0∨wd b i=1
theorem yO{what:Int}{a b:List Int}{i:Nat}(h:i<a.length)(h2:i<b.length):wd (de what a b) i=dD what (wd a i) (wd b i):=by
 have hj:i<(de what a b).length:=by unfold de;rw[FP];omega
 rw[kQ _ hj,kQ _ h,kQ _ h2]
 simp[de]
theorem QV(a b:Int):bD (ns a b)=ns a b:=by
 have hn:∀w,bD (bD w)=bD w:=fun w=>by
  unfold bD
  by_cases h0:w=0
  ·simp[h0]
  ·by_cases h1:w=1
   ·simp[h1]
   ·cases hk:fO w with
    |true=>simp[h0,h1,hk]
    |false=>simp[h0,h1]
 unfold ns
 split
 ·exact hn _
 ·split
  ·exact hn _
  ·rfl
theorem rH(a b:Int):dD 3 a b=ns a b:=rfl
theorem iS{what:Int}{a b:List Int}(h:a.length=b.length):(de what a b).length=a.length:=by unfold de;rw[FP];omega
theorem ac7{a b:List Int}:okW (de 3 a b)=true:=yM.2 fun z hz=>by
 obtain⟨i,hi,rfl⟩:=tc.1 hz
 simp only[de,Po]
 exact QV _ _
theorem xg{a:List Int}(h:okW a=true){i:Nat}(hi:i<a.length):bD (wd a i)=wd a i:=yM.1 h _ (HC hi)
theorem aek{a b:List Int}(ha:okW a=true)(hb:okW b=true)(hl:a.length=b.length):EX a (de 3 a b)∧EX b (de 3 a b):=by
 refine⟨⟨(iS hl).symm,fun i hi=>?_⟩,⟨by rw[iS hl];exact hl.symm,fun i hi=>?_⟩⟩
 ·rw[yO hi (by omega),rH]
  have h1:=xg ha hi
  unfold ns
  rw[h1]
  split
  ·exact .inl rfl
  ·split
   ·rename_i h;exact .inr (.inl h)
   ·exact .inr (.inr rfl)
 ·rw[yO (by omega) hi,rH]
  have h1:=xg ha (i:=i) (by omega)
  have h2:=xg hb hi
  unfold ns
  rw[h1,h2]
  split
  ·rename_i h
   rcases h with h | h
   ·exact .inl h.symm
   ·exact .inr (.inl h)
  ·split
   ·exact .inl rfl
   ·exact .inr (.inr rfl)
theorem S3{a b:List Int}(ha:okW a=true)(hb:okW b=true)(h:EX a b):de 3 a b=b:=by
 refine AW ((iS h.1).trans h.1) fun i hi=>?_
 rw[iS h.1]at hi
 have h1:=xg ha hi
 have h2:=xg hb (i:=i) (by have:=h.1;omega)
 rw[yO hi (by have:=h.1;omega),rH]
 unfold ns
 rw[h1,h2]
 rcases h.2 i hi with e | e | e
 ·rw[ah (.inl e),e]
 ·rw[e]
  by_cases hc:(0:Int)=wd b i∨wd b i=0
  ·rw[ah hc];omega
  ·rw[ag hc,ah rfl]
 ·rw[e]
  by_cases hc:wd a i=1∨(1:Int)=0
  ·rw[ah hc];omega
  ·rw[ag hc];split <;> rfl
theorem R6{w:Int}{g k:List Int}{l:List df}{a b:List Int}(hc:eT 3 w g k l=0)(ha:cC 3 w a=true)(hb:cC 3 w b=true)(h:EX a b):EX (fS 3 g k l a) (fS 3 g k l b):=by
 have hi:=mH ha
 have va:=(jJ hi rfl).1 ha
 have vb:=(jJ hi rfl).1 hb
 refine⟨by rw[yr hc ha,yr hc hb];exact h.1,fun i ab=>?_⟩
 rw[yr hc ha]at ab
 cases hz:a.any fun z=>decide (0=z) with
 |true=>
  rw[KF rfl hz]
  refine .inr (.inl ?_)
  rw[kQ _ (by rw[gG];exact ab),Kf]
 |false=>
  have na:=V5 va.2 hz
  have hl:=h.1
  have up:zD a b:=⟨hl,fun j hj=>by
   rcases h.2 j hj with e | e | e
   ·exact .inl e
   ·exact absurd e (na _ (HC hj)).2
   ·exact .inr e⟩
  have nb:NZ b:=fun z hz=>by
   refine⟨yM.1 vb.2 z hz,fun e=>?_⟩
   obtain⟨j,hj,rfl⟩:=tc.1 hz
   have e:wd b j=0:=by rw[kQ _ hj];exact e
   rcases up.2 j (by omega) with e2 | e2
   ·exact (na _ (HC (i:=j) (by omega))).2 (e2.trans e)
   ·rw[e2]at e;exact absurd e (by decide)
  rw[GO rfl hz,GO rfl (agM nb)]
  have:=Vr nb up (by rw[va.1];exact (TS hc rfl).2.2)
  rcases this.2 i (by rw[KS];exact ab) with e | e
  ·exact .inl e
  ·exact .inr (.inr e)
def jk(what:Int)(x y:Bool):Bool:=if what=1 then x||y else x&&y
theorem agf{x y:Int}(hx:bK x)(hy:bK y)(k:Nat):(bits .and .u64 x y).toNat.testBit k=(x.toNat.testBit k&&y.toNat.testBit k):=by
 have e:bits .and .u64 x y=((BitVec.ofInt 64 x &&& BitVec.ofInt 64 y).toNat:Int):=by
  show IntKind.u64.wrap _=_
  exact yS (BitVec.isLt _)
 rw[e,bO,BitVec.toNat_and,JS,toNat_ofInt hx,toNat_ofInt hy]
theorem HM{what w:Int}(hi:cO what w=true)(h3:¬what=3):what=1∨what=2:=by
 unfold cO at hi;simp at hi;omega
theorem pj{what:Int}(h:what=1∨what=2){a b:List Int}(ha:aU a)(hb:aU b)(hl:a.length=b.length)(i k:Nat)(hi:i<a.length):dZ (de what a b) i k=jk what (dZ a i k) (dZ b i k):=by
 unfold dZ jk
 rw[yO hi (by omega)]
 rcases h with rfl | rfl
 ·rw[ah rfl]
  exact Uc (oc ha i) (oc hb i) k
 ·rw[ag (by decide)]
  exact agf (oc ha i) (oc hb i) k
theorem abN(what:Int)(x y g k:Bool):jk what ((x&&!k)||g) ((y&&!k)||g)=((jk what x y&&!k)||g):=by
 unfold jk;split <;> cases x <;> cases y <;> cases g <;> cases k <;> rfl
theorem MJ(what:Int)(x y:Bool):jk what x (jk what x y)=jk what x y∧jk what y (jk what x y)=jk what x y∧jk what x x=x:=by
 unfold jk;split <;> cases x <;> cases y <;> exact⟨rfl,rfl,rfl⟩
theorem aag{what w:Int}(h:what=1∨what=2){a b:List Int}(ha:aU a)(hb:aU b)(fa:fA a w=true)(fb:fA b w=true):fA (de what a b) w=true:=by
 have la:=n0 fa
 have lb:=n0 fb
 have hl:=iS (what:=what) (la.trans lb.symm)
 rw[ru (xj ha hb) (hl.trans la)]
 intro i k hi hk hc
 rw[hl]at hi
 rw[pj h ha hb (la.trans lb.symm) i k hi,(ru ha la).1 fa i k hi hk hc,(ru hb lb).1 fb i k (by omega) hk hc]
 unfold jk;split <;> rfl
theorem LM{what w:Int}{a b:List Int}(ha:aU a)(hb:aU b)(va:cC what w a=true)(vb:cC what w b=true):cC what w (de what a b)=true:=by
 have hi:=mH va
 by_cases h3:what=3
 ·subst h3
  have v1:=(jJ hi rfl).1 va
  have v2:=(jJ hi rfl).1 vb
  rw[jJ hi rfl,iS (by omega)]
  exact⟨v1.1,ac7⟩
 ·rw[qk hi h3]
  exact aag (HM hi h3) ha hb ((qk hi h3).1 va) ((qk hi h3).1 vb)
theorem RZ{what w:Int}{a b:List Int}(va:cC what w a=true)(vb:cC what w b=true):rF what w [a,b]=0:=by
 unfold rF
 rw[ah (mH va)]
 simp[va,vb]
theorem C0{what w:Int}{a b:List Int}(va:cC what w a=true)(vb:cC what w b=true)(h:de what a b=b):rG what w a b=true:=by
 unfold rG
 rw[RZ va vb,h];simp
theorem aaM{what w:Int}{a b:List Int}:rG what w a b=true↔cC what w a=true∧cC what w b=true∧de what a b=b:=by
 constructor
 ·intro h
  unfold rG at h
  rw[bL]at h
  have hc:=RY (fv h.1)
  exact⟨hc.1,hc.2,fv h.2⟩
 ·exact fun h=>C0 h.1 h.2.1 h.2.2
theorem agK{what w:Int}{g k a b:List Int}{l:List df}(hg:aU g)(hk:aU k)(ha:aU a)(hb:aU b)(hc:eT what w g k l=0)(va:cC what w a=true)(vb:cC what w b=true):
  rG what w (fS what g k l a) (fS what g k l (de what a b))=true∧rG what w (fS what g k l b) (fS what g k l (de what a b))=true∧(¬what=3→de what (fS what g k l a) (fS what g k l b)=fS what g k l (de what a b)):=by
 have hi:=mH va
 have NN:aU (de what a b):=xj ha hb
 have vj:=LM ha hb va vb
 have vx:=GN hg hk ha hc va
 have vy:=GN hg hk hb hc vb
 have vz:=GN hg hk NN hc vj
 have p7:a.length=b.length:=by have h1:=tC va;have h2:=tC vb;omega
 by_cases h3:what=3
 ·subst h3
  have v1:=(jJ hi rfl).1 va
  have v2:=(jJ hi rfl).1 vb
  have hu:=aek v1.2 v2.2 p7
  have o:∀{x:List Int},cC 3 w x=true→okW x=true:=fun h=>((jJ hi rfl).1 h).2
  exact⟨C0 vx vz (S3 (o vx) (o vz) (R6 hc va vj hu.1)),C0 vy vz (S3 (o vy) (o vz) (R6 hc vb vj hu.2)),fun h=>absurd rfl h⟩
 ·have hs:=HM hi h3
  have hf:=MD hc h3
  have lx:=yr hc va
  have ly:=yr hc vb
  have lz:=yr hc vj
  have lj:=iS (what:=what) p7
  have I5:aU (fS what g k l a):=Av ha
  have I4:aU (fS what g k l b):=Av hb
  have z64:aU (fS what g k l (de what a b)):=Av NN
  have bx:∀{c:List Int},aU c→∀i k',k'<64→dZ (fS what g k l c) i k'=((dZ c i k'&&!dZ k i k')||dZ g i k'):=fun hc i k' eQ=>by
   rw[KW h3,Vd (C5 _ _) hg,Vw hc hk i eQ]
  have hz:∀i k',i<a.length→k'<64→dZ (fS what g k l (de what a b)) i k'=jk what (dZ (fS what g k l a) i k') (dZ (fS what g k l b) i k'):=fun i k' ft eQ=>by
   rw[bx NN i k' eQ,bx ha i k' eQ,bx hb i k' eQ,pj hs ha hb p7 i k' ft,abN]
  refine⟨C0 vx vz ?_,C0 vy vz ?_,fun _=>?_⟩
  ·refine He (xj I5 z64) z64 (by rw[iS (by omega)];omega) fun i k' ft eQ=>?_
   rw[iS (by omega)]at ft
   rw[pj hs I5 z64 (by omega) i k' ft,hz i k' (by omega) eQ,(MJ ..).1]
  ·refine He (xj I4 z64) z64 (by rw[iS (by omega)];omega) fun i k' ft eQ=>?_
   rw[iS (by omega)]at ft
   rw[pj hs I4 z64 (by omega) i k' ft,hz i k' (by omega) eQ,(MJ ..).2.1]
  ·refine He (xj I5 I4) z64 (by rw[iS (by omega)];omega) fun i k' ft eQ=>?_
   rw[iS (by omega)]at ft
   rw[pj hs I5 I4 (by omega) i k' ft,hz i k' (by omega) eQ]
set_option maxRecDepth 100000
theorem Zt{f:FuncId}{xs:List AV}{σ:Hp}{R R':AV→Hp→Prop}(h:ACalls Tryz.prog f xs σ R)(hv:∀r σ',R r σ'→r.leaf=true∧R' (.via r) σ'):ACalls Tryz.prog f xs σ R':=
 ⟨h.1,fun F w vs bN aE=>(h.2 F w vs bN aE).mono fun _ _ ⟨r,v,σ',F',h1,h2,h3,h4,h5⟩=>⟨.via r,v,σ',F',h1,h2,h3,.via _ _ (hv r σ' h5).1 h4,(hv r σ' h5).2⟩⟩
theorem H4{n:Int}(h:bK n):aU [n]:=fun z hz=>by rw[bh.1 hz];exact h
theorem Zu{f:FuncId}{xs ys:List AV}{σ:Hp}{R:AV→Hp→Prop}(h:eI 0 0 0 0 .bool [] (.tup xs) (.tup ys))(hc:ACalls Tryz.prog f ys σ R):ACalls Tryz.prog f xs σ R:=
 ⟨hc.1,fun F w vs bN aE=>hc.2 F w vs (by
  have:=yv (.refl F w) (fun v hv=>by
   obtain⟨a,cap,rfl,c,T,fz,m1,m2,m3,m4⟩:=hv.kV
   exact .ae _ _ _ ⟨some a,cap,rfl,m2,m3,(fun e=>by cases e),fun aQ=>absurd rfl aQ⟩) h (.tuple vs) (.tup xs vs bN.1 bN.2)
  cases this with
  |tup _ _ h1 h2=>exact⟨h1,h2⟩) aE⟩
theorem aaV(what w:Int)(g k:List Int)(l:List df)(a:List Int)(σ:Hp)(hg:aU g)(hk:aU k)(ha:aU a)(lg:g.length≤10000)(lk:k.length≤10000)(la:a.length≤10000)(ll:l.length≤1000000)(hc:eT what w g k l=0)(hv:cC what w a=true):ACalls Tryz.prog 276 [.int .i64 what,.int .i64 w,.agg (ER g k l),.ae (.int .u64) a] σ (aB (.tup [.ae (.int .u64) (fS what g k l a),.int .i64 0]) σ):=by
 have h:=UM what w g k l a σ hg hk ha lg lk la ll
 rw[Hs hc hv,uS rfl]at h
 exact h
theorem ad2(what w:Int)(xs ys:List Int)(σ:Hp)(hx:aU xs)(hy:aU ys)(lx:xs.length≤1000000)(ly:ys.length≤1000000)(vx:cC what w xs=true)(vy:cC what w ys=true):ACalls Tryz.prog 243 [.int .i64 what,.int .i64 w,.ae (.int .u64) xs,.ae (.int .u64) ys] σ (aB (.tup [.ae (.int .u64) (de what xs ys),.int .i64 0]) σ):=by
 have h:=VM what w xs ys σ hx hy lx ly
 rw[RZ vx vy,uS rfl]at h
 exact h
abbrev dC:Sh:=.field (.int .i64) (.field (.int .i64) .nil)
abbrev bA:Type:=Int×Int×Unit
abbrev l7:Type:=List Int×List Int×List df×Unit
abbrev V1:Sh:=.field (.int .i64) (.field (.int .i64) (.field (.int .i64) (.field (.slice dC) (.field (.slice (.int .i64)) (.field (.slice (.int .u64)) (.field (.slice kn) .nil))))))
structure Sy where
 what:Int
 w:Int
 n:Int
 aT:List bA
 entry:List Int
 init:List Int
 T:List l7
abbrev aV(s:Sy):List AV:=[.int .i64 s.what,.int .i64 s.w,.int .i64 s.n,.ae dC s.aT,.ae (.int .i64) s.entry,.ae (.int .u64) s.init,.ae kn s.T]
def ahI(x:V1.T):Sy:=⟨x.1,x.2.1,x.2.2.1,x.2.2.2.1,x.2.2.2.2.1,x.2.2.2.2.2.1,x.2.2.2.2.2.2.1⟩
def okT(t:l7):Prop:=aU t.1∧aU t.2.1∧t.1.length≤10000∧t.2.1.length≤10000∧t.2.2.1.length≤100000
structure Fit(s:Sy):Prop where
 i64:aU s.init
 IC:s.init.length≤10000
 xL:s.aT.length≤100000
 Bv:s.entry.length≤100000
 Iu:s.T.length≤100000
 ts:∀t∈s.T,okT t
def cm(n a:Int):Bool:=decide (0≤a)&&decide (a<n)
theorem Il(n a:Int)(σ:Hp):ACalls Tryz.prog 206 [.int .i64 n,.int .i64 a] σ (aB (.bool (cm n a)) σ):=by
 refine au Tryz.func206 ?_
 refine ak (fun c1=>?_) (fun c1=>?_)
 ·have c1:0≤a:=c1
  refine ak (fun c2=>?_) (fun c2=>?_)
  ·have c2:a<n:=c2
   exact .done ⟨bY (by unfold cm;simp;omega),rfl⟩
  ·have c2:¬(a<n):=c2
   exact .done ⟨bY (by unfold cm;simp;omega),rfl⟩
 ·have c1:¬(0≤a):=c1
  exact .done ⟨bY (by unfold cm;simp;omega),rfl⟩
def Bj(e:bA):AV:=.agg [.int .i64 e.1,.int .i64 e.2.1]
theorem af2(n:Int)(e:bA)(q:Nat)(σ:Hp):ACalls Tryz.prog 205 [Bj e,.ptr q 0] ((q,[.int .i64 n])::σ) (aB (.bool (!(cm n e.1&&cm n e.2.1))) ((q,[.int .i64 n])::σ)):=by
 refine au Tryz.func205 ?_
 unfold Bj
 intro aD
 refine aa 1 ?_
 refine aa 0 ?_
 refine dm [] (Il n e.1 _) (fun c1=>?_) (fun c1=>?_)
 ·refine aa 1 ?_
  refine aa 0 ?_
  refine dm [] (Il n e.2.1 _) (fun c2=>?_) (fun c2=>?_)
  ·exact .drop 0 1 (.done ⟨bY (by rw[c1,c2];rfl),rfl⟩)
  ·exact .drop 0 1 (.done ⟨bY (by rw[c1,c2];rfl),rfl⟩)
 ·exact .drop 0 1 (.done ⟨bY (by rw[c1];rfl),rfl⟩)
theorem ad5(g:Nat)(cap:List AV)(l:List (Sh.T dC))(p:Sh.T dC→Bool)(σ:Hp)(hl:l.length≤1000000)(hg:∀(i:Nat) (hi:i<l.length),ACalls Tryz.prog g (Bj l[i]::cap) σ (aB (.bool (p l[i])) σ)):ACalls Tryz.prog 252 [.ae dC l,.fn (.func g) [] cap] σ (fun r σ'=>∃n:Int,r=.int .i64 n∧σ'=σ∧decide (0≤n)=l.any p):=by
 refine au Tryz.func252 ?_
 refine cc (S:=Nat) (fun s=>[(0,.ae dC l),(1,.fn (.func g) [] cap),(7,.int .i64 l.length),(8,.int .i64 s)]) (fun _=>σ) (fun s=>s≤l.length∧(l.take s).any p=false) (fun s=>l.length-s) 0 ⟨⟨bE _,rfl⟩,⟨rfl,rfl,rfl,rfl,trivial⟩,rfl⟩ ?_
 rintro k t ⟨aP,e8⟩
 have hk:k≤l.length:=aP
 have hn:(l.take k).any p=false:=e8
 clear aP e8
 refine ak (fun ab=>?_) (fun aq=>?_)
 ·have ab:k<l.length:=by have ab:(k:Int)<l.length:=ab;omega
  have hs:=qj ab p
  rw[hn,mY]at hs
  refine aG.mk rfl (bM.mk l[k] (by omega) (get_some ab) ?_)
  refine dm [] (hg k ab) (fun c=>?_) (fun c=>?_)
  ·have hp:l.any p=true:=lA.2 ⟨l[k],bX ab,c⟩
   exact .done ⟨_,rfl,rfl,by rw[hp];exact aL (by omega)⟩
  ·exact bg (k+1) (by show l.length-(k+1)<l.length-k;omega) ⟨ab,hs.trans c⟩ ⟨rfl,rfl,rfl,a8 (by omega),trivial⟩ (.refl _)
 ·have aq:k=l.length:=by have aq:¬(k:Int)<l.length:=aq;omega
  subst aq
  rw[fu]at hn
  exact .done ⟨_,rfl,rfl,by rw[hn];rfl⟩
theorem Qv(g:Nat)(cap:List AV)(l:List (Sh.T dC))(p:Sh.T dC→Bool)(σ:Hp)(hl:l.length≤1000000)(hg:∀(i:Nat) (hi:i<l.length),ACalls Tryz.prog g (Bj l[i]::cap) σ (aB (.bool (p l[i])) σ)):ACalls Tryz.prog 204 [.ae dC l,.fn (.func g) [] cap] σ (aB (.bool (l.any p)) σ):=by
 refine au Tryz.func204 ?_
 refine .mk [] _ (ad5 g cap l p _ hl hg) ?_
 rintro _ _ ⟨n,rfl,rfl,hn⟩
 rw[← hn]
 refine ak (fun c=>?_) (fun c=>?_)
 ·have c:0≤n:=c
  rw[aL c]
  exact .done ⟨rfl,rfl⟩
 ·have c:¬0≤n:=c
  rw[bH c]
  exact .done ⟨rfl,rfl⟩
def ey(n:Int)(l:List bA):Bool:=decide (1≤n)&&decide (n≤256)&&decide (l.length≤1024)&&l.all fun e=>cm n e.1&&cm n e.2.1
theorem Wr{n:Int}(l:List bA){b:Bool}(h:(l.any fun e=> !(cm n e.1&&cm n e.2.1))=b):(l.all fun e=>cm n e.1&&cm n e.2.1) = !b:=by rw[DE,h]
theorem DN(n:Int)(l:List bA)(σ:Hp)(hl:l.length≤1000000):ACalls Tryz.prog 150 [.int .i64 n,.ae dC l] σ (aB (.bool (ey n l)) σ):=by
 refine au Tryz.func150 ?_
 intro aD
 refine aa 0 ?_
 refine ak (fun c2=>?_) (fun c2=>?_)
 ·have c2:n<1:=c2
  exact .drop 0 1 (.done ⟨bY (by unfold ey;simp;omega),rfl⟩)
 ·have c2:¬(n<1):=c2
  refine aa 0 ?_
  refine ak (fun c3=>?_) (fun c3=>?_)
  ·have c3:256<n:=c3
   exact .drop 0 1 (.done ⟨bY (by unfold ey;simp;omega),rfl⟩)
  ·have c3:¬(256<n):=c3
   refine ak (fun c4=>?_) (fun c4=>?_)
   ·have c4:1024<(↑l.length:Int):=c4
    exact .drop 0 1 (.done ⟨bY (by unfold ey;simp;omega),rfl⟩)
   ·have c4:¬(1024<(↑l.length:Int)):=c4
    refine dm [] (Qv 205 [.ptr aD 0] l (fun e=> !(cm n e.1&&cm n e.2.1)) _ hl (fun i hi=>af2 n l[i] aD _)) (fun cL=>?_) (fun cL=>?_)
    ·exact .drop 0 1 (.done ⟨bY (by unfold ey;rw[Wr l cL];simp),rfl⟩)
    ·exact .drop 0 1 (.done ⟨bY (by unfold ey;rw[Wr l cL];simp;omega),rfl⟩)
def dR(what w:Int):Int:=if cO what w=true then (if what=3 then 2*w else w) else 0
theorem G6(what w:Int)(σ:Hp):ACalls Tryz.prog 131 [.int .i64 what,.int .i64 w] σ (aB (.int .i64 (dR what w)) σ):=by
 refine au Tryz.func131 ?_
 refine dm [] (EJ what w _) (fun c0=>?_) (fun c0=>?_)
 ·refine ak (fun c1=>?_) (fun c1=>?_)
  ·have c1:what=3:=c1
   exact .done ⟨aJ (by unfold cO at c0;simp at c0;unfold dR;rw[if_pos (rE (by omega)),if_pos c1,dx (by omega)]),rfl⟩
  ·have c1:¬(what=3):=c1
   exact .done ⟨aJ (by unfold dR;rw[ah c0,ag c1]),rfl⟩
 ·exact .done ⟨aJ (by unfold dR;rw[c0];rfl),rfl⟩
theorem aan(w:Int):fA (gj w) w=true:=by
 unfold fA
 rw[aL (ri w),wF,fI]
 intro i hi
 have hi:=gb.1 hi
 rw[ri]at hi
 rw[decide_eq_true_eq,Db w hi,bO]
 have:=Cc (min 64 (dY w-64*i))
 omega
theorem Hx{what w:Int}(h:cO what w=true):cC what w (gl what w)=true:=by
 by_cases h3:what=3
 ·rw[jJ h h3]
  unfold gl
  rw[ag (fun h=>by omega),Qx h h3]
  unfold cO at h;simp at h
  exact⟨by rw[gG];omega,SL _⟩
 ·rw[qk h h3]
  unfold gl
  split
  ·exact aan w
  ·rw[Rh h h3,bO]
   refine (ru (MF _) gG).2 fun i k hi _ _=>?_
   unfold dZ
   rw[kQ _ hi,Kf];exact GQ k
theorem HT(what w:Int):aU (gl what w):=by
 unfold gl;split
 ·exact Tg w
 ·exact MF _
theorem aeG(what w:Int):(gl what w).length≤1024:=by
 unfold gl;split
 ·rw[ri];have:=AD w;omega
 ·rw[gG];have:=Ao what w;omega
def cb(s:Sy):Int:=if cO s.what s.w=true then (if ey s.n s.aT=true∧(s.T.length:Int)=s.n then (if (s.entry.any fun v=> !cm s.n v)=true then 1 else if cC s.what s.w s.init=true then (if (s.T.any fun t=> !decide (eT s.what s.w t.1 t.2.1 t.2.2.1=0))=true then 2 else 0) else 2) else 1) else 10
theorem Vu{s:Sy}(h:cO s.what s.w=false):10=cb s:=by unfold cb;rw[h];rfl
theorem Bl{s:Sy}(hi:cO s.what s.w=true)(h:¬(ey s.n s.aT=true∧(s.T.length:Int)=s.n)):1=cb s:=by unfold cb;rw[ah hi,ag h]
theorem A7{s:Sy}(hi:cO s.what s.w=true)(h:ey s.n s.aT=true∧(s.T.length:Int)=s.n)(he:(s.entry.any fun v=> !cm s.n v)=true):1=cb s:=by unfold cb;rw[ah hi,ah h,ah he]
theorem Np{s:Sy}(hi:cO s.what s.w=true)(h:ey s.n s.aT=true∧(s.T.length:Int)=s.n)(he:(s.entry.any fun v=> !cm s.n v)=false)(hv:cC s.what s.w s.init=false):2=cb s:=by unfold cb;rw[ah hi,ah h,he,hv];rfl
theorem MQ{s:Sy}(hi:cO s.what s.w=true)(h:ey s.n s.aT=true∧(s.T.length:Int)=s.n)(he:(s.entry.any fun v=> !cm s.n v)=false)(hv:cC s.what s.w s.init=true)(ht:(s.T.any fun t=> !decide (eT s.what s.w t.1 t.2.1 t.2.2.1=0))=true):2=cb s:=by unfold cb;rw[ah hi,ah h,he,hv,ht];rfl
theorem Ie{s:Sy}(hi:cO s.what s.w=true)(h:ey s.n s.aT=true∧(s.T.length:Int)=s.n)(he:(s.entry.any fun v=> !cm s.n v)=false)(hv:cC s.what s.w s.init=true)(ht:(s.T.any fun t=> !decide (eT s.what s.w t.1 t.2.1 t.2.2.1=0))=false):0=cb s:=by unfold cb;rw[ah hi,ah h,he,hv,ht];rfl
theorem yI(s:Sy)(σ:Hp)(hf:Fit s):ACalls Tryz.prog 84 [.agg (aV s)] σ (aB (.int .i64 (cb s)) σ):=by
 refine au Tryz.func84 ?_
 intro aD
 refine .quiet (by kernel_rfl) ?_
 refine aa 0 ?_
 refine aa 0 ?_
 refine aH [] (G6 _ _ _) ?_
 refine ak (fun c1=>?_) (fun c1=>?_)
 ·have c1:dR s.what s.w=0:=c1
  refine aa 0 ?_
  refine aa 0 ?_
  refine aa 0 ?_
  refine aa 0 ?_
  refine aH [] (G7 _ _ _) ?_
  refine MR [] (BG s.what s.w (gl s.what s.w) _ (HT _ _) (eu (aeG _ _) (by decide))) (fun c2=>?_) (fun c2=>?_)
  ·have hi:=mH c2
   refine aa 0 ?_
   refine aa 0 ?_
   refine dm [] (DN s.n s.aT _ (eu hf.xL (by decide))) (fun cr=>?_) (fun cr=>?_)
   ·refine aa 0 ?_
    refine aa 0 ?_
    refine cI (fun ct=>?_) (fun ct=>?_)
    ·have ct:(!decide ((s.T.length:Int)=s.n))=true:=ct
     have ct:¬(s.T.length:Int)=s.n:=by simpa using ct
     exact .fwd 1 (.drop 0 1 (.done ⟨aJ (Bl hi fun h=>ct h.2),rfl⟩))
    ·have ct:(!decide ((s.T.length:Int)=s.n))=false:=ct
     have ct:(s.T.length:Int)=s.n:=by simpa using ct
     have hr:ey s.n s.aT=true∧(s.T.length:Int)=s.n:=⟨cr,ct⟩
     refine aa 0 ?_
     refine cc (S:=Nat) (fun k=>[(1,.ptr aD 0),(3,.int .i64 1),(42,.ae (.int .i64) s.entry),(43,.int .i64 s.entry.length),(44,.int .i64 k)]) (fun _=>(aD,aV s)::σ) (fun k=>k≤s.entry.length∧((s.entry.take k).any fun v=> !cm s.n v)=false) (fun k=>s.entry.length-k) 0 ⟨⟨bE _,rfl⟩,⟨rfl,rfl,rfl,rfl,rfl,trivial⟩,rfl⟩ ?_
     rintro k g ⟨aP,lv⟩
     have hk:k≤s.entry.length:=aP
     have ha:((s.entry.take k).any fun v=> !cm s.n v)=false:=lv
     clear aP lv
     refine ak (fun ab=>?_) (fun aq=>?_)
     ·have ab:k<s.entry.length:=by have ab:(k:Int)<s.entry.length:=ab;omega
      have hs:=qj ab fun v=> !cm s.n v
      rw[ha,mY]at hs
      have qE:cm s.n s.entry[k]=false→(s.entry.any fun v=> !cm s.n v)=true:=fun h=>lA.2 ⟨s.entry[k],bX ab,by rw[h];rfl⟩
      refine aG.mk rfl (bM.mk s.entry[k] (by omega) (get_some ab) ?_)
      refine ak (p:=s.entry[k]<0) (fun d1=>?_) (fun d1=>?_)
      ·exact .fwd 1 (.drop 0 1 (.done ⟨aJ (A7 hi hr (qE (by unfold cm;simp;omega))),rfl⟩))
      ·refine aa 0 ?_
       refine ak (p:=s.n≤s.entry[k]) (fun d2=>?_) (fun d2=>?_)
       ·exact .fwd 1 (.drop 0 1 (.done ⟨aJ (A7 hi hr (qE (by unfold cm;simp;omega))),rfl⟩))
       ·exact bg (k+1) (by show s.entry.length-(k+1)<s.entry.length-k;omega) ⟨ab,hs.trans (by unfold cm;simp;omega)⟩ ⟨rfl,rfl,rfl,rfl,a8 (by have:=hf.Bv;omega),trivial⟩ (.refl _)
     ·have aq:k=s.entry.length:=by have aq:¬(k:Int)<s.entry.length:=aq;omega
      subst aq
      rw[fu]at ha
      refine aa 0 ?_
      refine aa 0 ?_
      refine aa 0 ?_
      refine dm [] (BG s.what s.w s.init _ hf.i64 (eu hf.IC (by decide))) (fun cv=>?_) (fun cv=>?_)
      ·refine aa 0 ?_
       refine cc (S:=Nat) (fun k=>[(1,.ptr aD 0),(3,.int .i64 2),(66,.ae kn s.T),(67,.int .i64 s.T.length),(68,.int .i64 k)]) (fun _=>(aD,aV s)::σ) (fun k=>k≤s.T.length∧((s.T.take k).any fun t=> !decide (eT s.what s.w t.1 t.2.1 t.2.2.1=0))=false) (fun k=>s.T.length-k) 0 ⟨⟨bE _,rfl⟩,⟨rfl,rfl,rfl,rfl,rfl,trivial⟩,rfl⟩ ?_
       rintro k g ⟨aP,iN⟩
       have hk:k≤s.T.length:=aP
       have ht:((s.T.take k).any fun t=> !decide (eT s.what s.w t.1 t.2.1 t.2.2.1=0))=false:=iN
       clear aP iN
       refine ak (fun ab=>?_) (fun aq=>?_)
       ·have ab:k<s.T.length:=by have ab:(k:Int)<s.T.length:=ab;omega
        have hs:=qj ab fun t=> !decide (eT s.what s.w t.1 t.2.1 t.2.2.1=0)
        rw[ht,mY]at hs
        have ho:=hf.ts _ (bX ab)
        have hm:=bX ab
        obtain⟨t,fQ⟩:∃t:l7,s.T[k]=t:=⟨_,rfl⟩
        rw[fQ]at hs ho hm
        refine aG.mk rfl (bM.mk t (by omega) ((get_some ab).trans (congrArg some fQ)) ?_)
        intro du
        refine aj 0 ?_
        refine aa 1 ?_
        refine aa 1 ?_
        refine aa 0 ?_
        refine az [] (Mx s.what s.w t.1 t.2.1 t.2.2.1 _ ho.1 ho.2.1 ho.2.2.1 ho.2.2.2.1 (eu ho.2.2.2.2 (by decide))) ?_
        refine cI (fun d1=>?_) (fun d1=>?_)
        ·exact .fwd 1 (.drop 0 2 (.done ⟨aJ (MQ hi hr ha cv (lA.2 ⟨t,hm,d1⟩)),rfl⟩))
        ·exact bg (k+1) (by show s.T.length-(k+1)<s.T.length-k;omega) ⟨ab,hs.trans d1⟩ ⟨rfl,rfl,rfl,rfl,a8 (by have:=hf.Iu;omega),trivial⟩ (.drop 0 1 (.refl _))
       ·have aq:k=s.T.length:=by have aq:¬(k:Int)<s.T.length:=aq;omega
        subst aq
        rw[fu]at ht
        exact .drop 0 1 (.done ⟨aJ (Ie hi hr ha cv ht),rfl⟩)
      ·exact .fwd 1 (.drop 0 1 (.done ⟨aJ (Np hi hr ha cv),rfl⟩))
   ·exact .fwd 1 (.drop 0 1 (.done ⟨aJ (Bl hi fun h=>by rw[h.1]at cr;cases cr),rfl⟩))
  ·have hi:cO s.what s.w=false:=by
    cases h:cO s.what s.w with
    |false=>rfl
    |true=>rw[Hx h]at c2;cases c2
   exact .fwd 1 (.drop 0 1 (.done ⟨aJ (Vu hi),rfl⟩))
 ·have c1:¬dR s.what s.w=0:=c1
  refine aa 0 ?_
  refine aa 0 ?_
  have hi:cO s.what s.w=true:=by
   cases h:cO s.what s.w with
   |true=>rfl
   |false=>exact absurd (by unfold dR;rw[h];rfl) c1
  refine dm [] (DN s.n s.aT _ (eu hf.xL (by decide))) (fun cr=>?_) (fun cr=>?_)
  ·refine aa 0 ?_
   refine aa 0 ?_
   refine cI (fun ct=>?_) (fun ct=>?_)
   ·have ct:(!decide ((s.T.length:Int)=s.n))=true:=ct
    have ct:¬(s.T.length:Int)=s.n:=by simpa using ct
    exact .fwd 1 (.drop 0 1 (.done ⟨aJ (Bl hi fun h=>ct h.2),rfl⟩))
   ·have ct:(!decide ((s.T.length:Int)=s.n))=false:=ct
    have ct:(s.T.length:Int)=s.n:=by simpa using ct
    have hr:ey s.n s.aT=true∧(s.T.length:Int)=s.n:=⟨cr,ct⟩
    refine aa 0 ?_
    refine cc (S:=Nat) (fun k=>[(1,.ptr aD 0),(3,.int .i64 1),(42,.ae (.int .i64) s.entry),(43,.int .i64 s.entry.length),(44,.int .i64 k)]) (fun _=>(aD,aV s)::σ) (fun k=>k≤s.entry.length∧((s.entry.take k).any fun v=> !cm s.n v)=false) (fun k=>s.entry.length-k) 0 ⟨⟨bE _,rfl⟩,⟨rfl,rfl,rfl,rfl,rfl,trivial⟩,rfl⟩ ?_
    rintro k g ⟨aP,lv⟩
    have hk:k≤s.entry.length:=aP
    have ha:((s.entry.take k).any fun v=> !cm s.n v)=false:=lv
    clear aP lv
    refine ak (fun ab=>?_) (fun aq=>?_)
    ·have ab:k<s.entry.length:=by have ab:(k:Int)<s.entry.length:=ab;omega
     have hs:=qj ab fun v=> !cm s.n v
     rw[ha,mY]at hs
     have qE:cm s.n s.entry[k]=false→(s.entry.any fun v=> !cm s.n v)=true:=fun h=>lA.2 ⟨s.entry[k],bX ab,by rw[h];rfl⟩
     refine aG.mk rfl (bM.mk s.entry[k] (by omega) (get_some ab) ?_)
     refine ak (p:=s.entry[k]<0) (fun d1=>?_) (fun d1=>?_)
     ·exact .fwd 1 (.drop 0 1 (.done ⟨aJ (A7 hi hr (qE (by unfold cm;simp;omega))),rfl⟩))
     ·refine aa 0 ?_
      refine ak (p:=s.n≤s.entry[k]) (fun d2=>?_) (fun d2=>?_)
      ·exact .fwd 1 (.drop 0 1 (.done ⟨aJ (A7 hi hr (qE (by unfold cm;simp;omega))),rfl⟩))
      ·exact bg (k+1) (by show s.entry.length-(k+1)<s.entry.length-k;omega) ⟨ab,hs.trans (by unfold cm;simp;omega)⟩ ⟨rfl,rfl,rfl,rfl,a8 (by have:=hf.Bv;omega),trivial⟩ (.refl _)
    ·have aq:k=s.entry.length:=by have aq:¬(k:Int)<s.entry.length:=aq;omega
     subst aq
     rw[fu]at ha
     refine aa 0 ?_
     refine aa 0 ?_
     refine aa 0 ?_
     refine dm [] (BG s.what s.w s.init _ hf.i64 (eu hf.IC (by decide))) (fun cv=>?_) (fun cv=>?_)
     ·refine aa 0 ?_
      refine cc (S:=Nat) (fun k=>[(1,.ptr aD 0),(3,.int .i64 2),(66,.ae kn s.T),(67,.int .i64 s.T.length),(68,.int .i64 k)]) (fun _=>(aD,aV s)::σ) (fun k=>k≤s.T.length∧((s.T.take k).any fun t=> !decide (eT s.what s.w t.1 t.2.1 t.2.2.1=0))=false) (fun k=>s.T.length-k) 0 ⟨⟨bE _,rfl⟩,⟨rfl,rfl,rfl,rfl,rfl,trivial⟩,rfl⟩ ?_
      rintro k g ⟨aP,iN⟩
      have hk:k≤s.T.length:=aP
      have ht:((s.T.take k).any fun t=> !decide (eT s.what s.w t.1 t.2.1 t.2.2.1=0))=false:=iN
      clear aP iN
      refine ak (fun ab=>?_) (fun aq=>?_)
      ·have ab:k<s.T.length:=by have ab:(k:Int)<s.T.length:=ab;omega
       have hs:=qj ab fun t=> !decide (eT s.what s.w t.1 t.2.1 t.2.2.1=0)
       rw[ht,mY]at hs
       have ho:=hf.ts _ (bX ab)
       have hm:=bX ab
       obtain⟨t,fQ⟩:∃t:l7,s.T[k]=t:=⟨_,rfl⟩
       rw[fQ]at hs ho hm
       refine aG.mk rfl (bM.mk t (by omega) ((get_some ab).trans (congrArg some fQ)) ?_)
       intro du
       refine aj 0 ?_
       refine aa 1 ?_
       refine aa 1 ?_
       refine aa 0 ?_
       refine az [] (Mx s.what s.w t.1 t.2.1 t.2.2.1 _ ho.1 ho.2.1 ho.2.2.1 ho.2.2.2.1 (eu ho.2.2.2.2 (by decide))) ?_
       refine cI (fun d1=>?_) (fun d1=>?_)
       ·exact .fwd 1 (.drop 0 2 (.done ⟨aJ (MQ hi hr ha cv (lA.2 ⟨t,hm,d1⟩)),rfl⟩))
       ·exact bg (k+1) (by show s.T.length-(k+1)<s.T.length-k;omega) ⟨ab,hs.trans d1⟩ ⟨rfl,rfl,rfl,rfl,a8 (by have:=hf.Iu;omega),trivial⟩ (.drop 0 1 (.refl _))
      ·have aq:k=s.T.length:=by have aq:¬(k:Int)<s.T.length:=aq;omega
       subst aq
       rw[fu]at ht
       exact .drop 0 1 (.done ⟨aJ (Ie hi hr ha cv ht),rfl⟩)
     ·exact .fwd 1 (.drop 0 1 (.done ⟨aJ (Np hi hr ha cv),rfl⟩))
  ·exact .fwd 1 (.drop 0 1 (.done ⟨aJ (Bl hi fun h=>by rw[h.1]at cr;cases cr),rfl⟩))
theorem afd(l:List Int)(x:Int)(σ:Hp)(hl:l.length≤1000000):ACalls Tryz.prog 287 [.ae (.int .i64) l,.int .i64 x] σ (fun r σ'=>∃n:Int,r=.int .i64 n∧σ'=σ∧decide (0≤n)=l.any fun z=>decide (x=z)):=by
 refine au Tryz.func287 ?_
 refine cc (S:=Nat) (fun s=>[(0,.ae (.int .i64) l),(1,.int .i64 x),(7,.int .i64 l.length),(8,.int .i64 s)]) (fun _=>σ) (fun s=>s≤l.length∧((l.take s).any fun z=>decide (x=z))=false) (fun s=>l.length-s) 0 ⟨⟨bE _,rfl⟩,⟨rfl,rfl,rfl,rfl,trivial⟩,rfl⟩ ?_
 rintro k t ⟨aP,e8⟩
 have hk:k≤l.length:=aP
 have hn:((l.take k).any fun z=>decide (x=z))=false:=e8
 clear aP e8
 refine ak (fun ab=>?_) (fun aq=>?_)
 ·have ab:k<l.length:=by have ab:(k:Int)<l.length:=ab;omega
  have hs:=qj ab fun z=>decide (x=z)
  rw[hn,mY]at hs
  refine aG.mk rfl (bM.mk l[k] (by omega) (get_some ab) ?_)
  refine ak (fun c=>?_) (fun c=>?_)
  ·have c:x=l[k]:=c
   have hp:(l.any fun z=>decide (x=z))=true:=lA.2 ⟨l[k],bX ab,aL c⟩
   exact .done ⟨_,rfl,rfl,by rw[hp];exact aL (by omega)⟩
  ·have c:¬x=l[k]:=c
   exact bg (k+1) (by show l.length-(k+1)<l.length-k;omega) ⟨ab,hs.trans (bH c)⟩ ⟨rfl,rfl,rfl,a8 (by omega),trivial⟩ (.refl _)
 ·have aq:k=l.length:=by have aq:¬(k:Int)<l.length:=aq;omega
  subst aq
  rw[fu]at hn
  exact .done ⟨_,rfl,rfl,by rw[hn];rfl⟩
theorem ZA(l:List Int)(x:Int)(σ:Hp)(hl:l.length≤1000000):ACalls Tryz.prog 255 [.ae (.int .i64) l,.int .i64 x] σ (aB (.bool (l.any fun z=>decide (x=z))) σ):=by
 refine au Tryz.func255 ?_
 refine .mk [] _ (afd l x _ hl) ?_
 rintro _ _ ⟨n,rfl,rfl,hn⟩
 rw[← hn]
 refine ak (fun c=>?_) (fun c=>?_)
 ·have c:0≤n:=c
  rw[aL c]
  exact .done ⟨rfl,rfl⟩
 ·have c:¬0≤n:=c
  rw[bH c]
  exact .done ⟨rfl,rfl⟩
theorem afj(l:List Int)(σ:Hp)(hl:l.length≤1000000):ACalls Tryz.prog 256 [.ae (.int .u64) l] σ (aB (.ae (.int .u64) l) σ):=by
 refine (UW l σ hl).fin ?_
 rintro v σ' ⟨acc,cH,rfl⟩
 exact tD (s:=.int .u64) [] cH rfl (qh l) (by decide) (.done ⟨rfl,rfl⟩)
def gh(s:Sy)(v:Int):List Int:=if (s.entry.any fun z=>decide (v=z))=true then s.init else gl s.what s.w
theorem VB(s:Sy)(v:Int)(σ:Hp)(hf:Fit s):ACalls Tryz.prog 212 [.agg (aV s),.int .i64 v] σ (aB (.ae (.int .u64) (gh s v)) σ):=by
 refine au Tryz.func212 ?_
 intro aD
 refine aa 0 ?_
 refine dm [] (ZA s.entry v _ (eu hf.Bv (by decide))) (fun c=>?_) (fun c=>?_)
 ·refine aa 0 ?_
  refine az [] (afj s.init _ (eu hf.IC (by decide))) ?_
  exact .drop 0 1 (.done ⟨by unfold gh;rw[c];rfl,rfl⟩)
 ·refine aa 0 ?_
  refine aa 0 ?_
  refine az [] (G7 _ _ _) ?_
  exact .drop 0 1 (.done ⟨by unfold gh;rw[c];rfl,rfl⟩)
def pA(s:Sy)(a:List (List Int)):Bool:=decide ((a.length:Int)=s.n)&&a.all (cC s.what s.w)
def k8(a:List (List Int)):Prop:=a.length≤100000∧∀x∈a,aU x∧x.length≤10000
theorem acV(s:Sy)(x:List Int)(q:Nat)(σ:Hp)(hx:aU x)(lx:x.length≤10000):ACalls Tryz.prog 242 [.ae (.int .u64) x,.ptr q 0] ((q,aV s)::σ) (aB (.bool (!cC s.what s.w x)) ((q,aV s)::σ)):=by
 refine au Tryz.func242 ?_
 refine aa 0 ?_
 refine aa 0 ?_
 refine az [] (BG s.what s.w x _ hx (eu lx (by decide))) ?_
 exact .done ⟨rfl,rfl⟩
theorem Wp{what w:Int}(l:List (List Int)){b:Bool}(h:(l.any fun x=> !cC what w x)=b):l.all (cC what w) = !b:=by rw[DE,h]
theorem Mw(s:Sy)(a:List (List Int))(σ:Hp)(ha:k8 a):ACalls Tryz.prog 191 [.agg (aV s),.ae (.slice (.int .u64)) a] σ (aB (.bool (pA s a)) σ):=by
 refine au Tryz.func191 ?_
 intro aD
 refine aa 0 ?_
 refine ak (fun c2=>?_) (fun c2=>?_)
 ·have c2:(a.length:Int)=s.n:=c2
  refine dm [] (Qu 242 [.ptr aD 0] a (fun x=> !cC s.what s.w x) _ (eu ha.1 (by decide)) (fun i hi=>acV s a[i] aD _ (ha.2 _ (bX hi)).1 (ha.2 _ (bX hi)).2)) (fun cL=>?_) (fun cL=>?_)
  ·exact .drop 0 1 (.done ⟨bY (by unfold pA;rw[Wp a cL];simp),rfl⟩)
  ·exact .drop 0 1 (.done ⟨bY (by unfold pA;rw[Wp a cL,aL c2];rfl),rfl⟩)
 ·have c2:¬(a.length:Int)=s.n:=c2
  exact .drop 0 1 (.done ⟨bY (by unfold pA;rw[bH c2];rfl),rfl⟩)
def qp(p:List Int→List Int→Bool)(a b:List (List Int)):Bool:=decide (a.length=b.length)&&(List.zipWith p a b).all id
theorem Zs{p:List Int→List Int→Bool}{a b:List (List Int)}(h:¬a.length=b.length):qp p a b=false:=by unfold qp;rw[bH h];rfl
theorem CM{p:List Int→List Int→Bool}{a b:List (List Int)}:qp p a b=true↔a.length=b.length∧∀i (h:i<a.length) (h2:i<b.length),p a[i] b[i]=true:=by
 unfold qp
 rw[bL,decide_eq_true_eq,fI]
 constructor
 ·rintro⟨h1,h2⟩
  refine⟨h1,fun i hi qV=>?_⟩
  exact h2 _ (tc.2 ⟨i,by rw[FP];omega,by rw[Po]⟩)
 ·rintro⟨h1,h2⟩
  refine⟨h1,fun x hx=>?_⟩
  obtain⟨i,hi,rfl⟩:=tc.1 hx
  rw[FP]at hi
  rw[Po]
  exact h2 i (by omega) (by omega)
theorem Yy{p:List Int→List Int→Bool}{a b:List (List Int)}{k:Nat}(h1:k<a.length)(h2:k<b.length)(ht:qp p (a.take k) (b.take k)=true)(hc:p a[k] b[k]=true):qp p (a.take (k+1)) (b.take (k+1))=true:=by
 rw[CM]at ht ⊢
 obtain⟨_,q⟩:=ht
 refine⟨by simp;omega,fun i hi qV=>?_⟩
 rw[JX,JX]
 by_cases e:i=k
 ·subst e;exact hc
 ·have:=q i (by simp at hi ⊢;omega) (by simp at hi ⊢;omega)
  rw[JX,JX]at this
  exact this
theorem aaP{p:List Int→List Int→Bool}{a b:List (List Int)}{k:Nat}(h1:k<a.length)(h2:k<b.length)(hc:p a[k] b[k]=false):qp p a b=false:=by
 cases h:qp p a b with
 |false=>rfl
 |true=>rw[(CM.1 h).2 k h1 h2]at hc;cases hc
theorem TB(g:Nat)(cap:List AV)(a b:List (List Int))(p:List Int→List Int→Bool)(σ:Hp)(hl:a.length≤1000000)(hg:∀x∈a,∀y∈b,ACalls Tryz.prog g ([.ae (.int .u64) x,.ae (.int .u64) y]++cap) σ (aB (.bool (p x y)) σ)):ACalls Tryz.prog 192 [.ae (.slice (.int .u64)) a,.ae (.slice (.int .u64)) b,.fn (.func g) [] cap] σ (aB (.bool (qp p a b)) σ):=by
 refine au Tryz.func192 ?_
 refine cI (fun c1=>?_) (fun c1=>?_)
 ·have c1:(!decide ((a.length:Int)=(b.length:Int)))=true:=c1
  exact .done ⟨bY (Zs (by simp at c1;omega)).symm,rfl⟩
 ·have c1:(!decide ((a.length:Int)=(b.length:Int)))=false:=c1
  have hlen:a.length=b.length:=by simp at c1;omega
  refine cc (S:=Nat) (fun k=>[(0,.ae (.slice (.int .u64)) a),(1,.ae (.slice (.int .u64)) b),(2,.fn (.func g) [] cap),(15,.ae (.slice (.int .u64)) a),(16,.int .i64 a.length),(17,.int .i64 k)]) (fun _=>σ) (fun k=>k≤a.length∧qp p (a.take k) (b.take k)=true) (fun k=>a.length-k) 0 ⟨⟨bE _,rfl⟩,⟨rfl,rfl,rfl,rfl,rfl,rfl,trivial⟩,rfl⟩ ?_
  rintro k t ⟨aP,iN⟩
  have hk:k≤a.length:=aP
  have ht:qp p (a.take k) (b.take k)=true:=iN
  clear aP iN
  refine ak (fun ab=>?_) (fun aq=>?_)
  ·have ab:k<a.length:=by have ab:(k:Int)<a.length:=ab;omega
   have eL:k<b.length:=by omega
   refine aG.mk rfl (bM.mk a[k] (by omega) (get_some ab) ?_)
   refine aG.mk rfl (bM.mk b[k] (by omega) (get_some eL) ?_)
   refine dm [] (hg a[k] (bX ab) b[k] (bX eL)) (fun c2=>?_) (fun c2=>?_)
   ·exact bg (k+1) (by show a.length-(k+1)<a.length-k;omega) ⟨ab,Yy ab eL ht c2⟩ ⟨rfl,rfl,rfl,rfl,rfl,a8 (by omega),trivial⟩ (.refl _)
   ·exact .done ⟨bY (aaP ab eL c2).symm,rfl⟩
  ·have aq:k=a.length:=by have aq:¬(k:Int)<a.length:=aq;omega
   subst aq
   rw[fu,hlen,fu]at ht
   exact .done ⟨bY ht.symm,rfl⟩
def tL(s:Sy)(a b:List (List Int)):Bool:=decide (cb s=0)&&pA s a&&pA s b&&qp (rG s.what s.w) a b
theorem afo(s:Sy)(x y:List Int)(q:Nat)(σ:Hp)(hx:aU x∧x.length≤10000)(hy:aU y∧y.length≤10000):ACalls Tryz.prog 193 [.ae (.int .u64) x,.ae (.int .u64) y,.ptr q 0] ((q,aV s)::σ) (aB (.bool (rG s.what s.w x y)) ((q,aV s)::σ)):=by
 refine au Tryz.func193 ?_
 refine aa 0 ?_
 refine aa 0 ?_
 refine az [] (afb s.what s.w x y _ hx.1 hy.1 (eu hx.2 (by decide)) (eu hy.2 (by decide))) ?_
 exact .done ⟨rfl,rfl⟩
theorem Lt(s:Sy)(a b:List (List Int))(σ:Hp)(hf:Fit s)(ha:k8 a)(hb:k8 b):ACalls Tryz.prog 137 [.agg (aV s),.ae (.slice (.int .u64)) a,.ae (.slice (.int .u64)) b] σ (aB (.bool (tL s a b)) σ):=by
 refine au Tryz.func137 ?_
 intro aD
 refine aa 0 ?_
 refine az [] (yI s _ hf) ?_
 refine ak (fun c1=>?_) (fun c1=>?_)
 ·have c1:cb s=0:=c1
  refine aa 0 ?_
  refine dm [] (Mw s a _ ha) (fun c2=>?_) (fun c2=>?_)
  ·refine aa 0 ?_
   refine dm [] (Mw s b _ hb) (fun c3=>?_) (fun c3=>?_)
   ·refine az [] (TB 193 [.ptr aD 0] a b (rG s.what s.w) _ (eu ha.1 (by decide)) (fun x hx y hy=>afo s x y aD _ (ha.2 x hx) (hb.2 y hy))) ?_
    exact .drop 0 1 (.done ⟨bY (by unfold tL;rw[aL c1,c2,c3];rfl),rfl⟩)
   ·exact .drop 0 1 (.done ⟨bY (by unfold tL;rw[aL c1,c2,c3];rfl),rfl⟩)
  ·exact .drop 0 1 (.done ⟨bY (by unfold tL;rw[aL c1,c2];rfl),rfl⟩)
 ·have c1:¬cb s=0:=c1
  exact .drop 0 1 (.done ⟨bY (by unfold tL;rw[bH c1];rfl),rfl⟩)
end Go.Proofs.YtnikdflhefijbaaGreat
