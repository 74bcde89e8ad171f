import Derived.Test.YtnikdflhefijbaaGreatBn23
import Derived.Test.YtnikdflhefijbaaGreatBn13
namespace Go.Proofs.YtnikdflhefijbaaGreat
open Go.RowKit
set_option maxRecDepth 100000
def mz(s:Sy):Nat→List (List Int)→Nat→List (List Int)×Nat
 | 0,a,k=>(a,k)
 |m+1,a,k=>if a=gz s a then (a,k) else mz s m (gz s a) (k+1)
theorem Qq{s:Sy}{a:List (List Int)}(m k:Nat)(h:a=gz s a):mz s m a k=(a,k):=by
 cases m with
 |zero=>rfl
 |succ m=>exact ai h
theorem SF{s:Sy}{a:List (List Int)}(m k:Nat)(h:¬a=gz s a):mz s (m+1) a k=mz s m (gz s a) (k+1):=ah h
theorem Jz{s:Sy}(hg:Good s):jH s (mS s):=by
 refine⟨by rw[OT];have:=hg.n1;omega,fun x hx=>?_⟩
 rw[(Oa.1 hx).2]
 exact⟨GD hg.sj,G2 _ _⟩
def sS(s:Sy):Int:=s.n*gF s.what s.w+1
theorem QN(what w:Int):0≤gF what w∧gF what w≤2048:=by
 unfold gF
 split
 ·rename_i h
  unfold cD at h;simp at h
  split <;> omega
 ·omega
theorem QZ{s:Sy}(hg:Good s):IntKind.i64.wrap (IntKind.i64.wrap (s.n*gF s.what s.w)+1)=sS s∧0≤sS s∧sS s≤1000000:=by
 have h1:=hg.n1
 have h2:=hg.n2
 have h3:=QN s.what s.w
 have h4:s.n*gF s.what s.w≤256*2048:=Int.mul_le_mul h2 h3.2 h3.1 (by decide)
 have h5:0≤s.n*gF s.what s.w:=Int.mul_nonneg (by omega) h3.1
 unfold sS
 rw[ca (n:=s.n*gF s.what s.w) (by omega),ca (by omega)]
 omega
def pq(s:Sy):List (List Int)×Nat:=mz s (sS s).toNat (mS s) 0
theorem ab8(what w:Int)(σ:Hp):ACalls Tryz.prog 126 [.int .i64 what,.int .i64 w] σ (aE (.int .i64 (gF what w)) σ):=by
 refine ay Tryz.func126 ?_
 refine eb [] (H3 what w _) (fun c0=>?_) (fun c0=>?_)
 ·refine an (fun c1=>?_) (fun c1=>?_)
  ·have c1:what=3:=c1
   exact .done ⟨aQ (by unfold cD at c0;simp at c0;unfold gF;rw[if_pos (pQ (by omega)),if_pos c1,ca (by omega)]),rfl⟩
  ·have c1:¬(what=3):=c1
   exact .done ⟨aQ (by unfold gF;rw[ai c0,ah c1]),rfl⟩
 ·exact .done ⟨aQ (by unfold gF;rw[c0];rfl),rfl⟩
def tb(n:Nat)(f:Nat→Nat):Nat:=((List.range n).map f).sum
theorem JU(n:Nat)(f:Nat→Nat):tb (n+1) f=tb n f+f n:=by unfold tb;rw[List.range_succ,List.map_append,List.sum_append];simp
theorem JV{f g:Nat→Nat}:∀n,(∀i,i<n→f i≤g i)→tb n f≤tb n g∧(tb n f=tb n g→∀i,i<n→f i=g i)
 | 0,_=>⟨aU _,fun _ i h=>absurd h (nE i)⟩
 |n+1,h=>by
  obtain⟨h1,h2⟩:=JV n fun i hi=>h i (by omega)
  have h3:=h n (by omega)
  rw[JU,JU]
  refine⟨by omega,fun e i hi=>?_⟩
  by_cases dW:i=n
  ·subst dW;omega
  ·exact h2 (by omega) i (by omega)
theorem Gj{f:Nat→Nat}{c:Nat}:∀n,(∀i,i<n→f i≤c)→tb n f≤n*c
 | 0,_=>bA _
 |n+1,h=>by
  have h1:=Gj n fun i hi=>h i (by omega)
  have h2:=h n (by omega)
  rw[JU,qz];omega
def DT(b:Bool):Nat:=if b=true then 1 else 0
def Ig(z:Int):Nat:=if z=0 then 0 else if z=1 then 2 else 1
def ql(what:Int)(x:List Int)(j:Nat):Nat:=if what=3 then Ig (wd x j) else if what=1 then DT (dU x (j / 64) (j % 64)) else DT (!dU x (j / 64) (j % 64))
def rS(what w:Int)(x:List Int):Nat:=tb w.toNat (ql what x)
theorem SZ{w:Int}{a b:List Int}(h:dV 3 w a b){i:Nat}(hi:i<a.length):wd a i=wd b i∨wd a i=0∨wd b i=1:=by
 have hl:=sO h.1.v h.2.1.v
 have va:=((jB (mn h.1.v) rfl).1 h.1.v).2
 have vb:=((jB (mn h.1.v) rfl).1 h.2.1.v).2
 have:=ud va vb hi (by omega)
 rw[h.2.2]at this
 unfold jn at this
 split at this
 ·exact .inl this.symm
 ·split at this
  ·rename_i h0;exact .inr (.inl h0)
  ·exact .inr (.inr this)
theorem acj{what w:Int}(hs:what=1∨what=2){a b:List Int}(h:dV what w a b){i k:Nat}(hi:i<a.length):ja what (dU a i k) (dU b i k)=dU b i k:=by
 have hl:=sO h.1.v h.2.1.v
 rw[← oV hs h.1.ca h.2.1.ca hl i k hi,h.2.2]
theorem ads{what w:Int}{a b:List Int}(h:dV what w a b){j:Nat}(hj:j<w.toNat):ql what a j≤ql what b j:=by
 have hi:=mn h.1.v
 by_cases h3:what=3
 ·subst h3
  have hl:=((jB hi rfl).1 h.1.v).1
  unfold ql Ig
  rw[ai rfl,ai rfl]
  rcases SZ h (i:=j) (by omega) with e | e | e
  ·rw[e];exact aU _
  ·rw[ai e];exact bA _
  ·rw[e]
   rw[ah (show ¬(1:Int)=0 by decide),ai rfl]
   split
   ·omega
   ·split <;> omega
 ·have hs:=GV hi h3
  have hla:=nL ((pL hi h3).1 h.1.v)
  have hw:dK w=w.toNat:=by unfold cD at hi;simp at hi;unfold dK;omega
  have ab:j / 64<a.length:=by rw[hla];unfold dC;omega
  have hb:=acj hs h (k:=j % 64) ab
  unfold ql DT
  rw[ah h3,ah h3]
  unfold ja at hb
  rcases hs with rfl | rfl
  ·rw[ai rfl,ai rfl]
   rw[ai rfl]at hb
   revert hb
   cases dU a (j / 64) (j % 64) <;> cases dU b (j / 64) (j % 64) <;> simp
  ·rw[ah (show ¬(2:Int)=1 by decide),ah (show ¬(2:Int)=1 by decide)]
   rw[ah (show ¬(2:Int)=1 by decide)]at hb
   revert hb
   cases dU a (j / 64) (j % 64) <;> cases dU b (j / 64) (j % 64) <;> simp
theorem adt{what w:Int}{a b:List Int}(h:dV what w a b)(he:∀j,j<w.toNat→ql what a j=ql what b j):a=b:=by
 have hi:=mn h.1.v
 have hl:=sO h.1.v h.2.1.v
 refine B8 h.1 h.2.1 (fun h3 i ab=>?_) (fun hs i k ab hk=>?_)
 ·subst h3
  have hw:=((jB hi rfl).1 h.1.v).1
  have:=he i (by omega)
  unfold ql Ig at this
  rw[ai rfl,ai rfl]at this
  rcases SZ h ab with e | e | e
  ·exact e
  ·rw[ai e]at this
   split at this
   ·omega
   ·split at this <;> omega
  ·rw[e,ah (show ¬(1:Int)=0 by decide),ai rfl]at this
   split at this
   ·omega
   ·split at this
    ·omega
    ·omega
 ·have h3:¬what=3:=by omega
  have fa:=(pL hi h3).1 h.1.v
  have fb:=(pL hi h3).1 h.2.1.v
  have hw:dK w=w.toNat:=by unfold cD at hi;simp at hi;unfold dK;omega
  by_cases hc:64*i+k<dK w
  ·have:=he (64*i+k) (by omega)
   unfold ql DT at this
   rw[ah h3,ah h3,show (64*i+k) / 64=i by omega,show (64*i+k) % 64=k by omega]at this
   revert this
   split <;> cases dU a i k <;> cases dU b i k <;> simp
  ·rw[(qN h.1.ca (nL fa)).1 fa i k ab hk (by omega),(qN h.2.1.ca (nL fb)).1 fb i k (by omega) hk (by omega)]
theorem Wy{what w:Int}(x:List Int)(hi:cD what w=true):(rS what w x:Int)≤gF what w:=by
 unfold gF rS
 rw[ai hi]
 unfold cD at hi;simp at hi
 by_cases h3:what=3
 ·rw[ai h3]
  have:=Gj (f:=ql what x) (c:=2) w.toNat fun i _=>by
   unfold ql Ig
   rw[ai h3]
   split
   ·omega
   ·split <;> omega
  omega
 ·rw[ah h3]
  have:=Gj (f:=ql what x) (c:=1) w.toNat fun i _=>by
   unfold ql DT
   rw[ah h3]
   split <;> split <;> omega
  omega
theorem KZ{what w:Int}{a b:List Int}(h:dV what w a b):rS what w a≤rS what w b∧(rS what w a=rS what w b→a=b):=by
 have:=JV w.toNat fun j hj=>ads h hj
 exact⟨this.1,fun e=>adt h (this.2 e)⟩
def ta(s:Sy)(a:List (List Int)):Nat:=tb s.n.toNat fun v=>rS s.what s.w (a.getD v [])
theorem abB{s:Sy}{a b:List (List Int)}(h:jl s a b):ta s a≤ta s b∧(ta s a=ta s b→a=b):=by
 have:=JV (f:=fun v=>rS s.what s.w (a.getD v [])) (g:=fun v=>rS s.what s.w (b.getD v [])) s.n.toNat fun v hv=>(KZ (h.2.2 v (by omega))).1
 refine⟨this.1,fun e=>?_⟩
 have la:=h.1.len
 have lb:=h.2.1.len
 refine EO (by omega) fun i h1 h2=>?_
 have hv:=(KZ (h.2.2 i (by omega))).2 (this.2 e i (by omega))
 rw[aW,aW,bJ h1,bJ h2]at hv
 exact hv
theorem Ql{s:Sy}(hg:Good s)(a:List (List Int)):(ta s a:Int)≤s.n*gF s.what s.w:=by
 have hh:=QN s.what s.w
 have:=Gj (f:=fun v=>rS s.what s.w (a.getD v [])) (c:=(gF s.what s.w).toNat) s.n.toNat fun v _=>by
  have:=Wy (a.getD v []) hg.sj
  omega
 have hn:=hg.n1
 have e:(s.n.toNat*(gF s.what s.w).toNat:Nat)=s.n*gF s.what s.w:=by
  rw[EA,lP (by omega),lP hh.1]
 unfold ta
 omega
theorem W5{s:Sy}{i:Nat}(h:(i:Int)<s.n):(mS s).getD i []=fX s.what s.w:=by
 unfold mS
 rw[aW,vN,ai (by omega)];rfl
theorem Q3{s:Sy}(hg:Good s){a:List (List Int)}(h:jH s a):jl s (mS s) a:=
 ⟨Jz hg,h,fun i hi=>by rw[W5 hi];exact bot_le (h.get hi)⟩
theorem PD{s:Sy}(hf:Fit s)(hg:Good s):∀(m:Nat) (a:List (List Int)) (k:Nat),jl s a (gz s a)→k≤ta s a→s.n*gF s.what s.w+1≤(k+m:Nat)→
  jH s (mz s m a k).1∧(mz s m a k).1=gz s (mz s m a k).1∧((mz s m a k).2:Int)≤s.n*gF s.what s.w∧∀y,jl s (gz s y) y→jl s a y→jl s (mz s m a k).1 y
 | 0,a,k,h,hk,hm=>by have:=Ql hg a;omega
 |m+1,a,k,h,hk,hm=>by
  by_cases e:a=gz s a
  ·rw[Qq _ _ e]
   have:=Ql hg a
   exact⟨h.1,e,by show ((k:Nat):Int)≤_;omega,fun y _ hy=>hy⟩
  ·rw[SF _ _ e]
   have h2:=Qm hf hg h
   have ab:k+1≤ta s (gz s a):=by
    have:=abB h
    by_cases e2:ta s a=ta s (gz s a)
    ·exact absurd (this.2 e2) e
    ·omega
   obtain⟨q1,q2,q3,q4⟩:=PD hf hg m (gz s a) (k+1) h2 ab (by omega)
   exact⟨q1,q2,q3,fun y hy hay=>q4 y hy ((Qm hf hg hay).trans hy)⟩
theorem Fz{s:Sy}(hf:Fit s)(hg:Good s):jH s (pq s).1∧(pq s).1=gz s (pq s).1∧((pq s).2:Int)≤s.n*gF s.what s.w∧∀y,jl s (gz s y) y→jl s (pq s).1 y:=by
 have hb:=Jz hg
 have he:=QZ hg
 obtain⟨q1,q2,q3,q4⟩:=PD hf hg (sS s).toNat (mS s) 0 (Q3 hg (Fw hf hg hb)) (bA _) (by unfold sS at he ⊢;omega)
 exact⟨q1,q2,q3,fun y hy=>q4 y hy (Q3 hg hy.2.1)⟩
theorem P7(s:Sy)(a:List (List Int))(σ:Hp)(ha:uR a):ACalls Tryz.prog 25 [.agg (bc s),.af (.slice (.int .u64)) a] σ (aE (.bool (pV s a)) σ):=by
 refine ay Tryz.func25 ?_
 intro aD
 refine aa 0 ?_
 refine dB (fun ct=>?_) (fun ct=>?_)
 ·have ct:(!decide ((a.length:Int)=s.n))=true:=ct
  exact .drop 0 1 (.done ⟨cz (by unfold pV;simp at ct;rw[decide_eq_false ct];rfl),rfl⟩)
 have ct:(!decide ((a.length:Int)=s.n))=false:=ct
 have ct:(a.length:Int)=s.n:=by simpa using ct
 have yx:pV s a=a.all (cC s.what s.w):=by unfold pV;rw[aV ct];rfl
 have hlen:=ha.1
 refine bV (S:=Nat) (fun k=>[(2,.ptr aD 0),(12,.af (.slice (.int .u64)) a),(13,.int .i64 a.length),(14,.int .i64 k)]) (fun _=>(aD,bc s)::σ) (fun k=>k≤a.length∧((a.take k).any fun x=> !cC s.what s.w x)=false) (fun k=>a.length-k) 0 ⟨⟨bA _,rfl⟩,⟨rfl,rfl,rfl,rfl,trivial⟩,rfl⟩ ?_
 rintro k g ⟨aL,mK⟩
 have hk:k≤a.length:=aL
 have ht:((a.take k).any fun x=> !cC s.what s.w x)=false:=mK
 clear aL mK
 refine an (fun ab=>?_) (fun ar=>?_)
 ·have ab:k<a.length:=by have ab:(k:Int)<a.length:=ab;omega
  have hs:=qP ab fun x=> !cC s.what s.w x
  rw[ht,oK]at hs
  refine ag.mk rfl (bG.mk a[k] (by omega) (get_some ab) ?_)
  refine aa 0 ?_
  refine aa 0 ?_
  refine eb [] (ab5 s.what s.w a[k] _ (ha.2 _ (bX ab)).1) (fun cv=>?_) (fun cv=>?_)
  ·exact a8 (k+1) (by show a.length-(k+1)<a.length-k;omega) ⟨ab,hs.trans (by rw[cv];rfl)⟩ ⟨rfl,rfl,rfl,aX (by omega),trivial⟩ (.refl _)
  ·refine .drop 0 1 (.done ⟨cz ?_,rfl⟩)
   have:(a.any fun x=> !cC s.what s.w x)=true:=mf.2 ⟨a[k],bX ab,by rw[cv];rfl⟩
   rw[yx,U2 a this];rfl
 ·have ar:k=a.length:=by have ar:¬(k:Int)<a.length:=ar;omega
  subst ar
  rw[fj]at ht
  exact .drop 0 1 (.done ⟨cz (by rw[yx,U2 a ht];rfl),rfl⟩)
theorem ab7(a b:List (List Int))(σ:Hp)(ha:uR a):ACalls Tryz.prog 19 [.af (.slice (.int .u64)) a,.af (.slice (.int .u64)) b] σ (aE (.bool (decide (a=b))) σ):=by
 refine ay Tryz.func19 ?_
 have NL:=ha.1
 refine dB (fun c1=>?_) (fun c1=>?_)
 ·have c1:(!decide ((a.length:Int)=(b.length:Int)))=true:=c1
  have:a≠b:=by rintro rfl;simp at c1
  exact .done ⟨cz (bR this).symm,rfl⟩
 ·have c1:(!decide ((a.length:Int)=(b.length:Int)))=false:=c1
  have hlen:a.length=b.length:=by simp at c1;omega
  refine bV (S:=Nat) (fun k=>[(0,.af (.slice (.int .u64)) a),(1,.af (.slice (.int .u64)) b),(12,.int .i64 a.length),(13,.int .i64 k)]) (fun _=>σ) (fun k=>k≤a.length∧a.take k=b.take k) (fun k=>a.length-k) 0 ⟨⟨bA _,rfl⟩,⟨rfl,rfl,rfl,rfl,trivial⟩,rfl⟩ ?_
  rintro k g ⟨aL,Vm⟩
  have hk:k≤a.length:=aL
  have fB:a.take k=b.take k:=Vm
  clear aL Vm
  refine an (fun ab=>?_) (fun ar=>?_)
  ·have dA:k<a.length:=by have ab:(k:Int)<a.length:=ab;omega
   have tp:k<b.length:=by omega
   refine .quiet (by kernel_rfl) ?_
   refine ag.mk rfl (bG.mk a[k] (by omega) (get_some dA) ?_)
   refine ag.mk rfl (bG.mk b[k] (by omega) (get_some tp) ?_)
   refine LD [] (TG a[k] b[k] _ (fD (ha.2 _ (bX dA)).2 (by decide))) (fun hx=>?_) (fun hx=>?_)
   ·have jL:a[k]=b[k]:=fm hx
    refine a8 (k+1) (by show a.length-(k+1)<a.length-k;omega) ⟨dA,?_⟩ ⟨rfl,rfl,rfl,aX (by omega),trivial⟩ (.refl _)
    rw[fp dA,fp tp,fB,jL]
   ·have:a≠b:=by rintro rfl;exact absurd rfl (pH hx)
    exact .done ⟨cz (bR this).symm,rfl⟩
  ·have ar:k=a.length:=by have ar:¬(k:Int)<a.length:=ar;omega
   subst ar
   have:a=b:=by
    rw[fj]at fB
    rw[fB,hlen,fj]
   exact .done ⟨cz (aV this).symm,rfl⟩
theorem W6{what w:Int}{x y:List Int}(hx:dY what w x)(hy:dY what w y):CC what x y=pS what w x y:=by
 rw[Bool.eq_iff_iff,Gc hx.ca hy.ca]
 unfold CC
 rw[aV (sO hx.v hy.v),tO,decide_eq_true_eq]
 exact⟨fun h=>⟨hx,hy,h⟩,fun h=>h.2.2⟩
theorem FO(s:Sy)(a b:List (List Int))(σ:Hp)(hg:Good s)(va:jH s a)(vb:jH s b):ACalls Tryz.prog 24 [.agg (bc s),.af (.slice (.int .u64)) a,.af (.slice (.int .u64)) b] σ (aE (.bool (rQ (pS s.what s.w) a b)) σ):=by
 refine ay Tryz.func24 ?_
 intro aD
 have la:=va.len
 have lb:=vb.len
 have hn:=hg.n2
 have hlen:a.length=b.length:=by omega
 refine bV (S:=Nat) (fun k=>[(1,.af (.slice (.int .u64)) a),(2,.af (.slice (.int .u64)) b),(3,.ptr aD 0),(9,.int .i64 a.length),(10,.int .i64 k)]) (fun _=>(aD,bc s)::σ) (fun k=>k≤a.length∧rQ (pS s.what s.w) (a.take k) (b.take k)=true) (fun k=>a.length-k) 0 ⟨⟨bA _,rfl⟩,⟨rfl,rfl,rfl,rfl,rfl,trivial⟩,rfl⟩ ?_
 rintro k g ⟨aL,jM⟩
 have hk:k≤a.length:=aL
 have ht:rQ (pS s.what s.w) (a.take k) (b.take k)=true:=jM
 clear aL jM
 refine an (fun ab=>?_) (fun ar=>?_)
 ·have dA:k<a.length:=by have ab:(k:Int)<a.length:=ab;omega
  have tp:k<b.length:=by omega
  have xa:=va.val _ (bX dA)
  have xb:=vb.val _ (bX tp)
  refine .quiet (by kernel_rfl) ?_
  refine aa 0 ?_
  refine ag.mk rfl (bG.mk a[k] (by omega) (get_some dA) ?_)
  refine ag.mk rfl (bG.mk b[k] (by omega) (get_some tp) ?_)
  refine LD [] (oT (Zy s.what a[k] b[k] _ xa.ca xb.ca (fD (BL xa.v) (by decide))) (cz (W6 xa xb))) (fun hx=>?_) (fun hx=>?_)
  ·exact a8 (k+1) (by show a.length-(k+1)<a.length-k;omega) ⟨dA,W9 dA tp ht hx⟩ ⟨rfl,rfl,rfl,rfl,aX (by omega),trivial⟩ (.refl _)
  ·exact .drop 0 1 (.done ⟨cz (Zn dA tp hx).symm,rfl⟩)
 ·have ar:k=a.length:=by have ar:¬(k:Int)<a.length:=ar;omega
  subst ar
  rw[fj,hlen,fj]at ht
  refine an (p:=(a.length:Int)=b.length) (fun d=>?_) (fun d=>?_)
  ·exact .drop 0 1 (.done ⟨cz ht.symm,rfl⟩)
  ·exact absurd (by omega) d
def qj(n:Nat):List Int:=(List.range n).map fun i:Nat=>(i:Int)
theorem Pv(n:Nat):(qj n).length=n:=by simp[qj]
theorem ZK(n:Nat):qj (n+1)=qj n++[(n:Int)]:=by unfold qj;rw[tV,cS];rfl
theorem abx{n k:Nat}(h:k<n):(qj n)[k]?=some (k:Int):=by unfold qj;rw[fo,tU h];rfl
theorem aek(n:Nat)(σ:Hp)(hn:n≤1024):ACalls Tryz.prog 245 [.int .i64 n,.af (.int .i64) (qj n)] σ (aE (.af (.int .u64) (eP n)) σ):=by
 have iE:dK n=n:=by unfold dK;omega
 have ei:=xY n
 refine ay Tryz.func245 ?_
 refine az [] (LJ n _) ?_
 refine ag.mk ⟨by omega,by omega,by omega,by decide⟩ ?_
 intro q
 refine bV (S:=Nat×Nat) (fun s=>[(0,.int .i64 n),(5,.ae s.2 0 (dC n) 1),(11,.af (.int .i64) (qj n)),(12,.int .i64 n),(13,.int .i64 s.1)]) (fun s=>(s.2,aM (fJ (eP n) s.1))::σ) (fun s=>s.1≤n) (fun s=>n-s.1) (0,q) ⟨bA _,⟨rfl,rfl,rfl,congrArg (fun m:Nat=>AV.int .i64 (m:Int)) (Pv n),rfl,trivial⟩,?_⟩ ?_
 ·show (q,cE [.int .u64 0] (((dC n:Nat):Int)).toNat)::σ=(q,aM (fJ (eP n) 0))::σ
  rw[FU,mP,bM,wD]
 rintro⟨k,b⟩ g aL
 have hk:k≤n:=aL
 clear aL
 refine an (fun ab=>?_) (fun ar=>?_)
 ·have ab:k<n:=by have ab:(k:Int)<n:=ab;omega
  refine ag.mk rfl (bG.mk (k:Int) (by omega) (by rw[bM];exact abx ab) ?_)
  refine az [] (Lk n _) ?_
  refine an (p:=(k:Int)<(dK n:Int)) (fun _=>?_) (fun h=>?_)
  rotate_left
  ·exact absurd (by omega) h
  have hi:k / 64<dC n:=by unfold dC;omega
  refine .mk [] _ (LH (fJ (eP n) k) k b (dC n) σ (by rw[pJ,mP]) (by omega) hi) ?_
  rintro _ _ ⟨b2,rfl,rfl⟩
  refine a8 (k+1,b2) (by show n-(k+1)<n-k;omega) ab ⟨rfl,rfl,rfl,rfl,aX (by omega),trivial⟩ (.drop 1 1 (aJ ?_))
  rw[QQ n (by omega)]
  rfl
 ·have ar:k=n:=by have ar:¬(k:Int)<n:=ar;omega
  subst ar
  have hc:=R3 k
  rw[iE]at hc
  rw[hc]
  exact .cI 0 b 0 (dC k) 1 _ (.int .u64) (eP k) rfl (by rw[List.drop_zero,← kH];exact List.take_of_length_le (by simp[aM,mP])) ⟨mP k,rfl,by decide⟩ .here (.done ⟨rfl,rfl⟩)
theorem ab9(n:Nat)(σ:Hp)(hn:n≤1024):ACalls Tryz.prog 196 [.int .i64 n] σ (aE (.af (.int .u64) (eP n)) σ):=by
 refine ay Tryz.func196 ?_
 refine .wrap 3 _ rfl rfl ?_
 refine bV (S:=Nat×AV×Hp) (fun s=>[(0,.int .i64 n),(3,.via s.2.1),(4,.int .i64 s.1)]) (fun s=>s.2.2++σ) (fun s=>s.1≤n∧Acc 1 s.1 s.2.1 s.2.2 (ao (qj s.1))) (fun s=>n-s.1) (0,.aj,[]) ⟨⟨bA _,.nil⟩,⟨rfl,rfl,rfl,trivial⟩,rfl⟩ ?_
 rintro⟨k,v,acc⟩ g ⟨aL,gK⟩
 have hk:k≤n:=aL
 have bY:Acc 1 k v acc (ao (qj k)):=gK
 clear aL gK
 refine an (fun ab=>?_) (fun ar=>?_)
 ·have ab:k<n:=by have ab:(k:Int)<n:=ab;omega
  intro aD
  refine jU [_] bY (.ae 0 aD 0 1 _ rfl (cH rfl)) rfl (by omega) (by decide) (by decide) (fun v' bu h'=>?_)
  refine a8 (k+1,v',bu) (by show n-(k+1)<n-k;omega) ⟨ab,?_⟩ ⟨rfl,rfl,aX (by omega),trivial⟩ (.drop 0 1 (aJ rfl))
  show Acc 1 (k+1) v' bu (ao (qj (k+1)))
  rw[ZK,ao,cS]
  exact h'
 ·have ar:k=n:=by have ar:¬(k:Int)<n:=ar;omega
  subst ar
  have hO:=fun σ=>aek k σ hn
  generalize hU:qj k=U at bY hO
  have hlU:U.length=k:=by rw[← hU];exact Pv k
  generalize hC:ao U=C at bY
  cases bY with
  |nil=>
   have hU0:U=[]:=jP.1 hlU
   rw[hU0]at hO
   refine az [] (P6 (cJ (.refl _) (cJ (.nil _) uu)) (hO _)) ?_
   exact .done ⟨rfl,rfl⟩
  |ae b k cs h=>
   refine .cI (args':=[.int .i64 k,.af (.int .i64) U]) 0 b 0 k 1 _ (.int .i64) U rfl (by rw[gR,← ug,hC];exact eI (by omega)) ⟨hlU,rfl,by decide⟩ (cJ (.refl _) (cJ .here uu)) (az [] (hO _) ?_)
   exact .done ⟨rfl,rfl⟩
theorem P8(what w:Int)(σ:Hp)(hi:cD what w=true):ACalls Tryz.prog 145 [.int .i64 what,.int .i64 w] σ (aE (.af (.int .u64) (fX what w)) σ):=by
 refine ay Tryz.func145 ?_
 have hw:=xV what w
 refine az [] (oT (H3 what w _) (cz hi)) ?_
 refine an (p:=what=2) (fun c=>?_) (fun c=>?_)
 ·have eN:=hi
  unfold cD at eN;simp at eN
  obtain⟨n,rfl⟩:∃n:Nat,w=n:=⟨w.toNat,by omega⟩
  refine az [] (ab9 n _ (by omega)) ?_
  exact .done ⟨by rw[show fX what (n:Int)=eP n from ai ⟨c,hi⟩];rfl,rfl⟩
 ·refine az [] (Q8 what w _) ?_
  refine ag.mk ⟨by omega,by omega,by omega,by decide⟩ ?_
  intro b
  have e:fX what w=List.replicate (dS what w).toNat 0:=ah fun h=>c h.1
  rw[e]
  show Fin _ (.ae b 0 (dS what w).toNat 1) ((b,cE [.int .u64 0] (dS what w).toNat)::σ)
  rw[wD]
  have hl:(List.replicate (dS what w).toNat (0:Int)).length=(dS what w).toNat:=gb
  generalize List.replicate (dS what w).toNat (0:Int)=Z at hl
  refine .cI 0 b 0 (dS what w).toNat 1 _ (.int .u64) Z rfl ?_ ⟨hl,rfl,by decide⟩ .here (.done ⟨rfl,rfl⟩)
  rw[gR,← kH]
  exact eI (by rw[aM,cd,hl];omega)
theorem Zw(s:Sy)(v:Int)(σ:Hp)(hf:Fit s)(hg:Good s):ACalls Tryz.prog 82 [.agg (bc s),.int .i64 v] σ (aE (.af (.int .u64) (gG s v)) σ):=by
 refine ay Tryz.func82 ?_
 intro aD
 refine aa 0 ?_
 refine eb [] (agl s.entry v _ (fD hf.AB (by decide))) (fun c=>?_) (fun c=>?_)
 ·intro dH
  have hle:=hf.Ds
  refine aa 1 ?_
  refine AppendAt.more 0 dH 0 s.init.length [] _ rfl rfl (cH rfl) (.af (.int .u64) s.init rfl) (by omega) (by decide) (by decide) (fun b=>?_)
  have e:gG s v=s.init:=by unfold gG;rw[c];rfl
  rw[e]
  refine .cI 0 b 0 (0+s.init.length) 1 _ (.int .u64) s.init rfl ?_ ⟨(eF _).symm,rfl,by decide⟩ .here (.drop 0 1 (.done ⟨rfl,rfl⟩))
  rw[gR]
  refine eI ?_
  have:=vT (fun d=>Sh.sL (.int .u64) d) s.init
  simp only[List.take_nil,vL]
  rw[this]
  show s.init.length*1≤(0+s.init.length)*1
  omega
 ·refine aa 0 ?_
  refine aa 0 ?_
  refine az [] (P8 s.what s.w _ hg.sj) ?_
  exact .drop 0 1 (.done ⟨by unfold gG;rw[c];rfl,rfl⟩)
theorem ad2(s:Sy)(v:Nat)(x:List Int)(σ:Hp)(hf:Fit s)(hg:Good s)(hv:(v:Int)<s.n)(hx:dY s.what s.w x):ACalls Tryz.prog 170 [.agg (bc s),.int .i64 v,.af (.int .u64) x] σ (aE (.af (.int .u64) (iD s x v)) σ):=by
 refine ay Tryz.func170 ?_
 intro aD
 obtain⟨hT,NP⟩:=Hx hg hv
 have ht:=hf.ts _ (bX hT)
 have hc:=hg.DP _ (bX hT)
 have hl:=BL hx.v
 refine .quiet (by kernel_rfl) ?_
 refine aa 0 ?_
 refine aa 0 ?_
 refine ag.mk rfl (bG.mk s.T[v] (by omega) (by rw[bM];exact bJ hT) ?_)
 refine aH [] (ad3 s.what s.T[v].1 s.T[v].2.1 s.T[v].2.2.1 x _ ht.1 ht.2.1 hx.ca ht.2.2.1 ht.2.2.2.1 (by omega) (fD ht.2.2.2.2 (by decide)) (fun h3=>by rw[Qj hx.v h3];exact (KQ hc h3).2.2)) ?_
 exact .drop 0 1 (.done ⟨by unfold iD;rw[NP];rfl,rfl⟩)
theorem X3(s:Sy)(σ:Hp)(hg:Good s):ACalls Tryz.prog 124 [.agg (bc s)] σ (aE (.af (.slice (.int .u64)) (mS s)) σ):=by
 refine ay Tryz.func124 ?_
 intro aD
 obtain⟨N,hN⟩:∃N:Nat,s.n=N:=⟨s.n.toNat,by have:=hg.n1;omega⟩
 have hN2:=hg.n2
 refine .wrap 3 _ rfl rfl ?_
 refine bV (S:=Nat×AV×Hp) (fun x=>[(1,.ptr aD 0),(3,.via x.2.1),(4,.int .i64 x.1)]) (fun x=>(aD,bc s)::(x.2.2++σ)) (fun x=>x.1≤N∧Acc 1 x.1 x.2.1 x.2.2 (ve (List.replicate x.1 (fX s.what s.w)))) (fun x=>N-x.1) (0,.aj,[]) ⟨⟨bA _,.nil⟩,⟨rfl,rfl,rfl,trivial⟩,rfl⟩ ?_
 rintro⟨k,v,acc⟩ g ⟨aL,gK⟩
 have hk:k≤N:=aL
 have bY:Acc 1 k v acc (ve (List.replicate k (fX s.what s.w))):=gK
 clear aL gK
 refine aa 0 ?_
 refine an (p:=(k:Int)<s.n) (fun ab=>?_) (fun ar=>?_)
 ·have ab:k<N:=by omega
  refine aa 0 ?_
  refine aa 0 ?_
  refine az [] (P8 s.what s.w _ hg.sj) ?_
  intro dH
  refine jU [_,_] bY (.ae 0 dH 0 1 _ rfl (cH rfl)) rfl (by omega) (by decide) (by decide) (fun v' bu h'=>?_)
  refine a8 (k+1,v',bu) (by show N-(k+1)<N-k;omega) ⟨ab,?_⟩ ⟨rfl,rfl,aX (by omega),trivial⟩ (.drop 0 1 (aJ rfl))
  show Acc 1 (k+1) v' bu (ve (List.replicate (k+1) (fX s.what s.w)))
  rw[List.replicate_succ',ve,cS]
  exact h'
 ·have ar:k=N:=by omega
  subst ar
  refine pO (s:=.slice (.int .u64)) (l:=mS s) [_] bY ?_ ?_ (by decide) (.drop 0 1 (.done ⟨rfl,rfl⟩))
  ·exact ((OT s).trans (by rw[hN];omega)).symm
  ·rw[← Kl];unfold mS;rw[hN,bM]
theorem ab6(s:Sy)(a:List (List Int))(σ:Hp)(hf:Fit s)(hg:Good s)(ha:jH s a):ACalls Tryz.prog 125 [.agg (bc s),.af (.slice (.int .u64)) a] σ (aE (.af (.slice (.int .u64)) (gz s a)) σ):=by
 refine ay Tryz.func125 ?_
 intro aD
 obtain⟨N,hN⟩:∃N:Nat,s.n=N:=⟨s.n.toNat,by have:=hg.n1;omega⟩
 have hN2:=hg.n2
 have hel:=hg.el
 have Ni:=ha.len
 refine .wrap 5 _ rfl rfl ?_
 refine bV (S:=Nat×AV×Hp) (fun x=>[(1,.af (.slice (.int .u64)) a),(2,.ptr aD 0),(5,.via x.2.1),(6,.int .i64 x.1)]) (fun x=>(aD,bc s)::(x.2.2++σ)) (fun x=>x.1≤N∧Acc 1 x.1 x.2.1 x.2.2 (ve ((List.range x.1).map (jD s a s.bf.length)))) (fun x=>N-x.1) (0,.aj,[]) ⟨⟨bA _,.nil⟩,⟨rfl,rfl,rfl,rfl,trivial⟩,rfl⟩ ?_
 rintro⟨v,av,acc⟩ g ⟨aL,gK⟩
 have hv:v≤N:=aL
 have bY:Acc 1 v av acc (ve ((List.range v).map (jD s a s.bf.length))):=gK
 clear aL gK
 refine aa 0 ?_
 refine an (p:=(v:Int)<s.n) (fun ab=>?_) (fun ar=>?_)
 ·have ab:v<N:=by omega
  refine aa 0 ?_
  refine az [] (Zw s v _ hf hg) ?_
  refine aa 0 ?_
  refine bV (S:=Nat) (fun k=>[(1,.af (.slice (.int .u64)) a),(2,.ptr aD 0),(5,.via av),(6,.int .i64 v),(7,.af (.int .u64) (jD s a k v)),(20,.af dv s.bf),(21,.int .i64 s.bf.length),(22,.int .i64 k)]) (fun _=>(aD,bc s)::(acc++σ)) (fun k=>k≤s.bf.length) (fun k=>s.bf.length-k) 0 ⟨bA _,⟨rfl,rfl,rfl,rfl,rfl,rfl,rfl,rfl,trivial⟩,rfl⟩ ?_
  intro k t aL
  have hk:k≤s.bf.length:=aL
  clear aL
  refine an (fun dN=>?_) (fun lF=>?_)
  ·have dN:k<s.bf.length:=by have dN:(k:Int)<s.bf.length:=dN;omega
   have he:=hg.yO _ (bX dN)
   have Nl:=zA s a dN v
   have hV:=Qn hf hg ha v k hk
   obtain⟨d,hd⟩:∃d:bC,s.bf[k]=d:=⟨_,rfl⟩
   rw[hd]at he Nl
   refine ag.mk rfl (bG.mk d (by omega) ((get_some dN).trans (congrArg some hd)) ?_)
   intro dH
   refine ak 0 ?_
   refine aa 0 ?_
   refine an (p:=d.2.1=(v:Int)) (fun d1=>?_) (fun d1=>?_)
   ·obtain⟨i,hi⟩:∃i:Nat,d.1=i:=⟨d.1.toNat,by omega⟩
    have qt:i<a.length:=by omega
    have hga:a.getD d.1.toNat []=a[i]:=by rw[hi,bM,aW,bJ qt];rfl
    have Nf:=ha.val _ (bX qt)
    have ho:=Gn hf hg Nf.ca Nf.v (v:=i) (by omega)
    have hO:=fun σ=>ad2 s i a[i] σ hf hg (by omega) Nf
    have y9:jD s a (k+1) v=dg s.what (jD s a k v) (iD s a[i] i):=by rw[Nl];unfold wQ;rw[ai d1,hga,hi,bM]
    rw[← hi]at hO
    generalize iD s a[i] i=o at ho hO y9
    refine .quiet (by kernel_rfl) ?_
    refine aa 1 ?_
    refine aa 1 ?_
    refine aa 0 ?_
    refine aa 0 ?_
    refine ag.mk rfl (bG.mk a[i] (by omega) (by rw[hi,bM];exact bJ qt) ?_)
    refine aH [] (hO _) ?_
    refine aH [] (Sl s.what (jD s a k v) o _ hV.ca ho.2 (sO hV.v ho.1) (fD (BL hV.v) (by decide))) ?_
    refine a8 (k+1) (by show s.bf.length-(k+1)<s.bf.length-k;omega) dN ⟨rfl,rfl,rfl,rfl,?_,rfl,rfl,aX (by omega),trivial⟩ (.drop 0 1 (.refl _))
    rw[y9];rfl
   ·have y9:jD s a (k+1) v=jD s a k v:=by rw[Nl];unfold wQ;rw[ah d1]
    refine a8 (k+1) (by show s.bf.length-(k+1)<s.bf.length-k;omega) dN ⟨rfl,rfl,rfl,rfl,?_,rfl,rfl,aX (by omega),trivial⟩ (.drop 0 1 (.refl _))
    rw[y9];rfl
  ·have lF:k=s.bf.length:=by have lF:¬(k:Int)<s.bf.length:=lF;omega
   subst lF
   intro dH
   refine jU [_,_] bY (.ae 0 dH 0 1 _ rfl (cH rfl)) rfl (by omega) (by decide) (by decide) (fun v' bu h'=>?_)
   refine a8 (v+1,v',bu) (by show N-(v+1)<N-v;omega) ⟨ab,?_⟩ ⟨rfl,rfl,rfl,aX (by omega),trivial⟩ (.drop 0 1 (aJ rfl))
   show Acc 1 (v+1) v' bu (ve ((List.range (v+1)).map (jD s a s.bf.length)))
   rw[tV,cS,ve,cS]
   exact h'
 ·have ar:v=N:=by omega
  subst ar
  refine pO (s:=.slice (.int .u64)) (l:=gz s a) [_] bY ?_ ?_ (by decide) (.drop 0 1 (.done ⟨rfl,rfl⟩))
  ·exact ((OX s a _).trans (by rw[hN];omega)).symm
  ·rw[← Kl];unfold gz CR;rw[hN,bM]
def iO(s:Sy)(v:Int):Int:=if eK s=0 then (if dI s.n v=true then 0 else 1) else eK s
theorem YF{s:Sy}{v:Int}(h:¬eK s=0):eK s=iO s v:=(ah h).symm
theorem RM{s:Sy}{v:Int}(h:eK s=0)(hv:¬(0≤v∧v<s.n)):1=iO s v:=by unfold iO;rw[ai h,ah];rw[kI];exact hv
theorem FE{s:Sy}{v:Int}(h:eK s=0)(hv:0≤v∧v<s.n):0=iO s v:=by unfold iO;rw[ai h,ai];rw[kI];exact hv
theorem Xx{s:Sy}{v:Int}(h:iO s v=0):Good s∧0≤v∧v<s.n:=by
 unfold iO at h
 split at h
 ·rename_i h1
  split at h
  ·rename_i h2;exact⟨Le h1,kI.1 h2⟩
  ·cases h
 ·rename_i h1;exact absurd h h1
theorem Sg(s:Sy)(v:Int)(σ:Hp)(hf:Fit s):ACalls Tryz.prog 211 [.agg (bc s),.int .i64 v] σ (aE (.int .i64 (iO s v)) σ):=by
 refine ay Tryz.func211 ?_
 intro aD
 refine aa 0 ?_
 refine az [] (Q7 s _ hf) ?_
 refine dB (fun c1=>?_) (fun c1=>?_)
 ·have c1:(!decide (eK s=0))=true:=c1
  have c1:¬eK s=0:=by simpa using c1
  exact .drop 0 1 (.done ⟨aQ (YF c1),rfl⟩)
 ·have c1:(!decide (eK s=0))=false:=c1
  have c1:eK s=0:=by simpa using c1
  refine an (p:=v<0) (fun c2=>?_) (fun c2=>?_)
  ·exact .drop 0 1 (.done ⟨aQ (RM c1 (by omega)),rfl⟩)
  ·refine aa 0 ?_
   refine an (p:=s.n≤v) (fun c3=>?_) (fun c3=>?_)
   ·exact .drop 0 1 (.done ⟨aQ (RM c1 (by omega)),rfl⟩)
   ·exact .drop 0 1 (.done ⟨aQ (FE c1 (by omega)),rfl⟩)
theorem Zs(s:Sy)(v:Int)(σ:Hp)(hf:Fit s):ACalls Tryz.prog 158 [.agg (bc s),.int .i64 v] σ (aE (.tup [.af (.int .u64) (sh (iO s v) (gG s v)),.int .i64 (iO s v)]) σ):=by
 refine ay Tryz.func158 ?_
 intro aD
 refine aa 0 ?_
 refine az [] (Sg s v _ hf) ?_
 refine dB (fun c1=>?_) (fun c1=>?_)
 ·have c1:(!decide (iO s v=0))=true:=c1
  have c1:¬iO s v=0:=by simpa using c1
  exact .nil (cJ (.nil _) (.refl _)) (.drop 0 1 (.done ⟨by rw[Gt c1];rfl,rfl⟩))
 ·have c1:(!decide (iO s v=0))=false:=c1
  have c1:iO s v=0:=by simpa using c1
  refine aa 0 ?_
  refine az [] (aea s v _ hf) ?_
  exact .drop 0 1 (.done ⟨by rw[Cq c1,c1];rfl,rfl⟩)
def pr(s:Sy)(v:Int)(x:List Int):Int:=if iO s v=0 then (if cC s.what s.w x=true then 0 else 2) else iO s v
theorem aa3{s:Sy}{v:Int}(x:List Int)(h:¬iO s v=0):pr s v x=iO s v:=ah h
theorem RD{s:Sy}{v:Int}{x:List Int}(h:iO s v=0)(hv:cC s.what s.w x=true):pr s v x=0:=by unfold pr;rw[ai h,ai hv]
theorem acV(s:Sy)(v:Int)(x:List Int)(σ:Hp)(hf:Fit s)(hx:aR x)(lx:x.length≤10000):ACalls Tryz.prog 399 [.agg (bc s),.int .i64 v,.af (.int .u64) x] σ (aE (.tup [.af (.int .u64) (sh (pr s v x) (iD s x v.toNat)),.int .i64 (pr s v x)]) σ):=by
 refine ay Tryz.func399 ?_
 intro aD
 refine aa 0 ?_
 refine az [] (Sg s v _ hf) ?_
 refine dB (fun c1=>?_) (fun c1=>?_)
 ·have c1:(!decide (iO s v=0))=true:=c1
  have c1:¬iO s v=0:=by simpa using c1
  have e:=aa3 x c1
  exact .nil (cJ (.nil _) (.refl _)) (.drop 0 1 (.done ⟨by rw[e,Gt c1];rfl,rfl⟩))
 ·have c1:(!decide (iO s v=0))=false:=c1
  have c1:iO s v=0:=by simpa using c1
  obtain⟨hg,rp,dm⟩:=Xx c1
  obtain⟨hT,NP⟩:=Hx hg (v:=v.toNat) (by omega)
  have ht:=hf.ts _ (bX hT)
  have hc:=hg.DP _ (bX hT)
  have hA:=fun σ=>acU s.what s.w s.T[v.toNat].1 s.T[v.toNat].2.1 s.T[v.toNat].2.2.1 x σ ht.1 ht.2.1 hx ht.2.2.1 ht.2.2.2.1 lx (fD ht.2.2.2.2 (by decide))
  have hoe:fU s.what s.T[v.toNat].1 s.T[v.toNat].2.1 s.T[v.toNat].2.2.1 x=iD s x v.toNat:=by unfold iD;rw[NP]
  have hE:uT s.what s.w s.T[v.toNat].1 s.T[v.toNat].2.1 s.T[v.toNat].2.2.1 x=pr s v x:=by unfold pr uT;rw[ai hc,ai c1]
  rw[hoe,hE]at hA
  refine .quiet (by kernel_rfl) ?_
  refine aa 0 ?_
  refine aa 0 ?_
  refine aa 0 ?_
  refine ag.mk rfl (bG.mk s.T[v.toNat] (by omega) (bJ hT) ?_)
  refine aH [] (hA _) ?_
  exact .drop 0 1 (.done ⟨rfl,rfl⟩)
theorem aba(s:Sy)(σ:Hp):ACalls Tryz.prog 66 [.agg (bc s)] σ (aE (.int .i64 (IntKind.i64.wrap (IntKind.i64.wrap (s.n*gF s.what s.w)+1))) σ):=by
 refine ay Tryz.func66 ?_
 intro aD
 refine .quiet (by kernel_rfl) ?_
 refine aa 0 ?_
 refine aa 0 ?_
 refine aa 0 ?_
 refine aH [] (ab8 _ _ _) ?_
 exact .drop 0 1 (.done ⟨rfl,rfl⟩)
theorem Zx(s:Sy)(lD:Nat)(σ:Hp)(hf:Fit s)(hg:Good s)(hm:lD≤1000000):ACalls Tryz.prog 65 [.agg (bc s),.int .i64 lD] σ (aE (.tup [.af (.slice (.int .u64)) (mz s lD (mS s) 0).1,.int .i64 (mz s lD (mS s) 0).2]) σ):=by
 refine ay Tryz.func65 ?_
 intro aD
 refine aa 0 ?_
 refine az [] (X3 s _ hg) ?_
 refine bV (S:=List (List Int)×Nat) (fun x=>[(1,.int .i64 lD),(2,.ptr aD 0),(6,.af (.slice (.int .u64)) x.1),(7,.int .i64 x.2)]) (fun _=>(aD,bc s)::σ) (fun x=>(jH s x.1∧x.2≤lD)∧mz s (lD-x.2) x.1 x.2=mz s lD (mS s) 0) (fun x=>lD-x.2) (mS s,0) ⟨⟨⟨Jz hg,bA _⟩,rfl⟩,⟨rfl,rfl,rfl,rfl,trivial⟩,rfl⟩ ?_
 rintro⟨a,k⟩ t ⟨⟨mK,aL⟩,hR0⟩
 have ha:jH s a:=mK
 have hk:k≤lD:=aL
 have hR:mz s (lD-k) a k=mz s lD (mS s) 0:=hR0
 clear mK aL hR0
 refine an (p:=(k:Int)<lD) (fun ab=>?_) (fun ar=>?_)
 ·have ab:k<lD:=by omega
  refine aa 0 ?_
  refine az [] (ab6 s a _ hf hg ha) ?_
  refine eb [] (ab7 a (gz s a) _ (ha.ok hg)) (fun d=>?_) (fun d=>?_)
  ·have d:a=gz s a:=fm d
   rw[Qq _ _ d]at hR
   exact .drop 0 1 (.done ⟨by rw[← hR];rfl,rfl⟩)
  ·have d:¬a=gz s a:=pH d
   rw[show lD-k=(lD-(k+1))+1 by omega,SF _ _ d]at hR
   exact a8 (gz s a,k+1) (by show lD-(k+1)<lD-k;omega) ⟨⟨Fw hf hg ha,ab⟩,hR⟩ ⟨rfl,rfl,rfl,aX (by omega),trivial⟩ (.refl _)
 ·have ar:k=lD:=by omega
  rw[ar,pG]at hR
  exact .drop 0 1 (.done ⟨by rw[← hR];rfl,rfl⟩)
end Go.Proofs.YtnikdflhefijbaaGreat
