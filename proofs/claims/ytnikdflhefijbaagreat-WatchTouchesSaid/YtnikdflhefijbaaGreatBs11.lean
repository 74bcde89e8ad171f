import Derived.Test.YtnikdflhefijbaaGreatBs10
import Derived.Test.YtnikdflhefijbaaGreatBs8
import Derived.Shelf.Slices.CompactI
import Derived.Shelf.Slices.In.SortNone
import Derived.Shelf.Sort.Plain
import Derived.Test.YtnikdflhefijbaaGreatBs6
namespace Go.Proofs.YtnikdflhefijbaaGreat
open Go.RowKit
set_option maxRecDepth 100000
theorem ad5(l:List Int)(x:Int)(σ:Hp)(hl:l.length≤1000000):ACalls Tryz.prog 287 [.ae (.int .i64) l,.int .i64 x] σ (fun r σ'=>∃n:Int,r=.int .i64 n∧σ'=σ∧decide (0≤n)=l.any fun z=>decide (x=z)):=by
 refine ao Tryz.func287 ?_;refine bc (S:=Nat) (fun s=>[(0,.ae (.int .i64) l),(1,.int .i64 x),(7,.int .i64 l.length),(8,.int .i64 s)]) (fun _=>σ) (fun s=>s≤l.length∧((l.take s).any fun z=>decide (x=z))=false) (fun s=>l.length-s) 0 ⟨⟨aV _,rfl⟩,⟨rfl,rfl,rfl,rfl,trivial⟩,rfl⟩ ?_;rintro k t ⟨aK,ep⟩;have hk:k≤l.length:=aK;have hn:((l.take k).any fun z=>decide (x=z))=false:=ep;clear aK ep;refine ai (fun ab=>?_) (fun ak=>?_)
 ·have ab:k<l.length:=by have ab:(k:Int)<l.length:=ab;omega
  have hs:=mH ab fun z=>decide (x=z);rw[hn,l8]at hs;refine aF.mk rfl (aY.mk l[k] (by omega) (get_some ab) ?_);refine ai (fun c=>?_) (fun c=>?_)
  ·have c:x=l[k]:=c;have hp:(l.any fun z=>decide (x=z))=true:=kr.2 ⟨l[k],bU ab,aX c⟩;exact .done ⟨_,rfl,rfl,by rw[hp];exact aX (by omega)⟩
  ·have c:¬x=l[k]:=c;exact aM (k+1) (by show l.length-(k+1)<l.length-k;omega) ⟨ab,hs.trans (cp c)⟩ ⟨rfl,rfl,rfl,aI (by omega),trivial⟩ (.refl _)
 ·have ak:k=l.length:=by have ak:¬(k:Int)<l.length:=ak;omega
  subst ak;rw[er]at hn;exact .done ⟨_,rfl,rfl,by rw[hn];rfl⟩
theorem Xx(l:List Int)(x:Int)(σ:Hp)(hl:l.length≤1000000):ACalls Tryz.prog 255 [.ae (.int .i64) l,.int .i64 x] σ (ay (.bool (l.any fun z=>decide (x=z))) σ):=by
 refine ao Tryz.func255 ?_;refine .mk [] _ (ad5 l x _ hl) ?_;rintro _ _ ⟨n,rfl,rfl,hn⟩;rw[← hn];refine ai (fun c=>?_) (fun c=>?_)
 ·have c:0≤n:=c;rw[aX c];exact .done ⟨rfl,rfl⟩
 ·have c:¬0≤n:=c;rw[cp c];exact .done ⟨rfl,rfl⟩
theorem adb(l:List Int)(σ:Hp)(hl:l.length≤1000000):ACalls Tryz.prog 256 [.ae (.int .u64) l] σ (ay (.ae (.int .u64) l) σ):=by
 refine (Sz l σ hl).fin ?_;rintro v σ' ⟨acc,bF,rfl⟩;exact lH (s:=.int .u64) [] bF rfl (nz l) (by decide) (.done ⟨rfl,rfl⟩)
def eN(s:Sy)(v:Int):List Int:=if (s.entry.any fun z=>decide (v=z))=true then s.init else iq s.what s.w
theorem Tf(s:Sy)(v:Int)(σ:Hp)(hf:Fit s):ACalls Tryz.prog 212 [.agg (aP s),.int .i64 v] σ (ay (.ae (.int .u64) (eN s v)) σ):=by
 refine ao Tryz.func212 ?_;intro ax;refine aa 0 ?_;refine dc [] (Xx s.entry v _ (dE hf.wK (by decide))) (fun c=>?_) (fun c=>?_)
 ·refine aa 0 ?_;refine aw [] (adb s.init _ (dE hf.CL (by decide))) ?_;exact .drop 0 1 (.done ⟨by unfold eN;rw[c];rfl,rfl⟩)
 ·refine aa 0 ?_;refine aa 0 ?_;refine aw [] (Fk _ _ _) ?_;exact .drop 0 1 (.done ⟨by unfold eN;rw[c];rfl,rfl⟩)
def oI(s:Sy)(a:List (List Int)):Bool:=decide ((a.length:Int)=s.n)&&a.all (dm s.what s.w)
def lT(a:List (List Int)):Prop:=a.length≤100000∧∀x∈a,bC x∧x.length≤10000
theorem aaC(s:Sy)(x:List Int)(q:Nat)(σ:Hp)(hx:bC x)(lx:x.length≤10000):ACalls Tryz.prog 242 [.ae (.int .u64) x,.ptr q 0] ((q,aP s)::σ) (ay (.bool (!dm s.what s.w x)) ((q,aP s)::σ)):=by
 refine ao Tryz.func242 ?_;refine aa 0 ?_;refine aa 0 ?_;refine aw [] (Ap s.what s.w x _ hx (dE lx (by decide))) ?_;exact .done ⟨rfl,rfl⟩
theorem T0{what w:Int}(l:List (List Int)){b:Bool}(h:(l.any fun x=> !dm what w x)=b):l.all (dm what w) = !b:=by rw[B0,h]
theorem J9(s:Sy)(a:List (List Int))(σ:Hp)(ha:lT a):ACalls Tryz.prog 191 [.agg (aP s),.ae (.slice (.int .u64)) a] σ (ay (.bool (oI s a)) σ):=by
 refine ao Tryz.func191 ?_;intro ax;refine aa 0 ?_;refine ai (fun c2=>?_) (fun c2=>?_)
 ·have c2:(a.length:Int)=s.n:=c2;refine dc [] (On 242 [.ptr ax 0] a (fun x=> !dm s.what s.w x) _ (dE ha.1 (by decide)) (fun i hi=>aaC s a[i] ax _ (ha.2 _ (bU hi)).1 (ha.2 _ (bU hi)).2)) (fun cL=>?_) (fun cL=>?_)
  ·exact .drop 0 1 (.done ⟨bJ (by unfold oI;rw[T0 a cL];simp),rfl⟩)
  ·exact .drop 0 1 (.done ⟨bJ (by unfold oI;rw[T0 a cL,aX c2];rfl),rfl⟩)
 ·have c2:¬(a.length:Int)=s.n:=c2;exact .drop 0 1 (.done ⟨bJ (by unfold oI;rw[cp c2];rfl),rfl⟩)
def pL(p:List Int→List Int→Bool)(a b:List (List Int)):Bool:=decide (a.length=b.length)&&(List.zipWith p a b).all id
theorem Xq{p:List Int→List Int→Bool}{a b:List (List Int)}(h:¬a.length=b.length):pL p a b=false:=by unfold pL;rw[cp h];rfl
theorem IQ{p:List Int→List Int→Bool}{a b:List (List Int)}:pL p a b=true↔a.length=b.length∧∀i (h:i<a.length) (h2:i<b.length),p a[i] b[i]=true:=by
 unfold pL;rw[bS,decide_eq_true_eq,fq];constructor
 ·rintro⟨h1,h2⟩;refine⟨h1,fun i hi xc=>?_⟩;exact h2 _ (vK.2 ⟨i,by rw[D6];omega,by rw[M3]⟩)
 ·rintro⟨h1,h2⟩;refine⟨h1,fun x hx=>?_⟩;obtain⟨i,hi,rfl⟩:=vK.1 hx;rw[D6]at hi;rw[M3];exact h2 i (by omega) (by omega)
theorem Wf{p:List Int→List Int→Bool}{a b:List (List Int)}{k:Nat}(h1:k<a.length)(h2:k<b.length)(ht:pL p (a.take k) (b.take k)=true)(hc:p a[k] b[k]=true):pL p (a.take (k+1)) (b.take (k+1))=true:=by
 rw[IQ]at ht ⊢;obtain⟨_,q⟩:=ht;refine⟨by simp;omega,fun i hi xc=>?_⟩;rw[HS,HS]
 by_cases e:i=k
 ·subst e;exact hc
 ·have:=q i (by simp at hi ⊢;omega) (by simp at hi ⊢;omega);rw[HS,HS]at this;exact this
theorem YS{p:List Int→List Int→Bool}{a b:List (List Int)}{k:Nat}(h1:k<a.length)(h2:k<b.length)(hc:p a[k] b[k]=false):pL p a b=false:=by
 cases h:pL p a b with
 |false=>rfl
 |true=>rw[(IQ.1 h).2 k h1 h2]at hc;cases hc
theorem Rv(g:Nat)(cap:List AV)(a b:List (List Int))(p:List Int→List Int→Bool)(σ:Hp)(hl:a.length≤1000000)(hg:∀x∈a,∀y∈b,ACalls Tryz.prog g ([.ae (.int .u64) x,.ae (.int .u64) y]++cap) σ (ay (.bool (p x y)) σ)):ACalls Tryz.prog 192 [.ae (.slice (.int .u64)) a,.ae (.slice (.int .u64)) b,.fn (.func g) [] cap] σ (ay (.bool (pL p a b)) σ):=by
 refine ao Tryz.func192 ?_;refine cO (fun c1=>?_) (fun c1=>?_)
 ·have c1:(!decide ((a.length:Int)=(b.length:Int)))=true:=c1;exact .done ⟨bJ (Xq (by simp at c1;omega)).symm,rfl⟩
 ·have c1:(!decide ((a.length:Int)=(b.length:Int)))=false:=c1;have hlen:a.length=b.length:=by simp at c1;omega
  refine bc (S:=Nat) (fun k=>[(0,.ae (.slice (.int .u64)) a),(1,.ae (.slice (.int .u64)) b),(2,.fn (.func g) [] cap),(15,.ae (.slice (.int .u64)) a),(16,.int .i64 a.length),(17,.int .i64 k)]) (fun _=>σ) (fun k=>k≤a.length∧pL p (a.take k) (b.take k)=true) (fun k=>a.length-k) 0 ⟨⟨aV _,rfl⟩,⟨rfl,rfl,rfl,rfl,rfl,rfl,trivial⟩,rfl⟩ ?_;rintro k t ⟨aK,gO⟩;have hk:k≤a.length:=aK;have ht:pL p (a.take k) (b.take k)=true:=gO;clear aK gO;refine ai (fun ab=>?_) (fun ak=>?_)
  ·have ab:k<a.length:=by have ab:(k:Int)<a.length:=ab;omega
   have da:k<b.length:=by omega
   refine aF.mk rfl (aY.mk a[k] (by omega) (get_some ab) ?_);refine aF.mk rfl (aY.mk b[k] (by omega) (get_some da) ?_);refine dc [] (hg a[k] (bU ab) b[k] (bU da)) (fun c2=>?_) (fun c2=>?_)
   ·exact aM (k+1) (by show a.length-(k+1)<a.length-k;omega) ⟨ab,Wf ab da ht c2⟩ ⟨rfl,rfl,rfl,rfl,rfl,aI (by omega),trivial⟩ (.refl _)
   ·exact .done ⟨bJ (YS ab da c2).symm,rfl⟩
  ·have ak:k=a.length:=by have ak:¬(k:Int)<a.length:=ak;omega
   subst ak;rw[er,hlen,er]at ht;exact .done ⟨bJ ht.symm,rfl⟩
def wo(s:Sy)(a b:List (List Int)):Bool:=decide (cx s=0)&&oI s a&&oI s b&&pL (Cc s.what s.w) a b
theorem adj(s:Sy)(x y:List Int)(q:Nat)(σ:Hp)(hx:bC x∧x.length≤10000)(hy:bC y∧y.length≤10000):ACalls Tryz.prog 193 [.ae (.int .u64) x,.ae (.int .u64) y,.ptr q 0] ((q,aP s)::σ) (ay (.bool (Cc s.what s.w x y)) ((q,aP s)::σ)):=by
 refine ao Tryz.func193 ?_;refine aa 0 ?_;refine aa 0 ?_;refine aw [] (ad3 s.what s.w x y _ hx.1 hy.1 (dE hx.2 (by decide)) (dE hy.2 (by decide))) ?_;exact .done ⟨rfl,rfl⟩
theorem Jh(s:Sy)(a b:List (List Int))(σ:Hp)(hf:Fit s)(ha:lT a)(hb:lT b):ACalls Tryz.prog 137 [.agg (aP s),.ae (.slice (.int .u64)) a,.ae (.slice (.int .u64)) b] σ (ay (.bool (wo s a b)) σ):=by
 refine ao Tryz.func137 ?_;intro ax;refine aa 0 ?_;refine aw [] (xT s _ hf) ?_;refine ai (fun c1=>?_) (fun c1=>?_)
 ·have c1:cx s=0:=c1;refine aa 0 ?_;refine dc [] (J9 s a _ ha) (fun c2=>?_) (fun c2=>?_)
  ·refine aa 0 ?_;refine dc [] (J9 s b _ hb) (fun c3=>?_) (fun c3=>?_)
   ·refine aw [] (Rv 193 [.ptr ax 0] a b (Cc s.what s.w) _ (dE ha.1 (by decide)) (fun x hx y hy=>adj s x y ax _ (ha.2 x hx) (hb.2 y hy))) ?_;exact .drop 0 1 (.done ⟨bJ (by unfold wo;rw[aX c1,c2,c3];rfl),rfl⟩)
   ·exact .drop 0 1 (.done ⟨bJ (by unfold wo;rw[aX c1,c2,c3];rfl),rfl⟩)
  ·exact .drop 0 1 (.done ⟨bJ (by unfold wo;rw[aX c1,c2];rfl),rfl⟩)
 ·have c1:¬cx s=0:=c1;exact .drop 0 1 (.done ⟨bJ (by unfold wo;rw[cp c1];rfl),rfl⟩)
structure Good(s:Sy):Prop where
 tA:df s.what s.w=true
 n1:1≤s.n
 n2:s.n≤256
 el:s.cd.length≤1024
 CX:∀e∈s.cd,(0≤e.1∧e.1<s.n)∧0≤e.2.1∧e.2.1<s.n
 tl:(s.T.length:Int)=s.n
 Nk:∀v∈s.entry,0≤v∧v<s.n
 ini:dm s.what s.w s.init=true
 Hc:∀t∈s.T,fm s.what s.w t.1 t.2.1 t.2.2.1=0
theorem kA{n a:Int}:cH n a=true↔0≤a∧a<n:=by unfold cH;simp
theorem wi{s:Sy}(h:cx s=0):Good s:=by
 unfold cx at h;split at h
 ·rename_i h1
  split at h
  ·rename_i h2
   split at h
   ·cases h
   ·rename_i h3
    split at h
    ·rename_i h4
     split at h
     ·cases h
     ·rename_i h5
      have h3:(s.entry.any fun v=> !cH s.n v)=false:=by simpa using h3
      have h5:(s.T.any fun t=> !decide (fm s.what s.w t.1 t.2.1 t.2.2.1=0))=false:=by simpa using h5
      have hr:=h2.1;unfold eA at hr;simp only[bS,decide_eq_true_eq]at hr;refine⟨h1,hr.1.1.1,hr.1.1.2,hr.1.2,fun e he=>?_,h2.2,fun v hv=>?_,h4,fun t ht=>?_⟩
      ·have:=fq.1 hr.2 e he;rw[bS,kA,kA]at this;exact this
      ·have:=AX.1 h3 v hv;exact kA.1 (by simpa using this)
      ·have:=AX.1 h5 t ht;simpa using this
    ·cases h
  ·cases h
 ·cases h
theorem I9{s:Sy}(h:Good s):cx s=0:=by
 refine (Gx h.tA ⟨?_,h.tl⟩ (AX.2 fun v hv=>?_) h.ini (AX.2 fun t ht=>?_)).symm
 ·unfold eA;simp only[bS,decide_eq_true_eq];refine⟨⟨⟨h.n1,h.n2⟩,h.el⟩,fq.2 fun e he=>?_⟩;rw[bS,kA,kA];exact h.CX e he
 ·rw[kA.2 (h.Nk v hv)];decide
 ·rw[h.Hc t ht];decide
def lf(s:Sy)(x:List Int)(v:Nat):List Int:=nF s.what (s.T.getD v ([],[],[],())).1 (s.T.getD v ([],[],[],())).2.1 (s.T.getD v ([],[],[],())).2.2.1 x
def Gn(s:Sy)(a:List (List Int))(v:Nat)(x:List Int)(e:aO):List Int:=if e.2.1=v then gl s.what x (lf s (a.getD e.1.toNat []) e.1.toNat) else x
def sZ(s:Sy)(a:List (List Int))(k v:Nat):List Int:=(s.cd.take k).foldl (Gn s a v) (eN s v)
def oJ(s:Sy)(a:List (List Int))(k:Nat):List (List Int):=(List.range s.n.toNat).map (sZ s a k)
def ke(s:Sy)(a:List (List Int)):List (List Int):=oJ s a s.cd.length
theorem xH(s:Sy)(a:List (List Int))(k:Nat):(oJ s a k).length=s.n.toNat:=by unfold oJ;simp
theorem OA(s:Sy)(a:List (List Int)){k:Nat}(h:k<s.cd.length)(v:Nat):sZ s a (k+1) v=Gn s a v (sZ s a k v) s.cd[k]:=by
 unfold sZ;rw[eM h,rE];rfl
theorem zl{s:Sy}{a:List (List Int)}:oI s a=true↔(a.length:Int)=s.n∧∀x∈a,dm s.what s.w x=true:=by
 unfold oI;rw[bS,decide_eq_true_eq,fq]
theorem EN{what w:Int}{x:List Int}(h:dm what w x=true):x.length≤1024:=by
 have h1:=zp h;have:=xQ what w;omega
theorem K6{s:Sy}(hg:Good s){v:Nat}(h:(v:Int)<s.n):∃h2:v<s.T.length,s.T.getD v ([],[],[],())=s.T[v]:=by
 have h2:v<s.T.length:=by have:=hg.tl;omega
 exact⟨h2,by rw[bK,bu h2];rfl⟩
theorem JS{s:Sy}(hf:Fit s)(hg:Good s){x:List Int}(jd:bC x)(hv:dm s.what s.w x=true){v:Nat}(h:(v:Int)<s.n):dm s.what s.w (lf s x v)=true∧bC (lf s x v):=by
 obtain⟨h2,e⟩:=K6 hg h;unfold lf;rw[e];have ho:=hf.ts _ (bU h2);exact⟨YP ho.1 ho.2.1 jd (hg.Hc _ (bU h2)) hv,YQ jd⟩
theorem EP{s:Sy}(hf:Fit s)(hg:Good s)(v:Int):dm s.what s.w (eN s v)=true∧bC (eN s v):=by
 unfold eN;split
 ·exact⟨hg.ini,hf.i64⟩
 ·exact⟨J4 hg.tA,Ks _ _⟩
theorem IV{s:Sy}(hf:Fit s)(hg:Good s){a:List (List Int)}(ha:lT a)(hv:oI s a=true)(v:Nat):∀k,k≤s.cd.length→dm s.what s.w (sZ s a k v)=true∧bC (sZ s a k v)
 | 0,_=>by
  show dm s.what s.w (eN s v)=true∧bC (eN s v);exact EP hf hg v
 |k+1,h=>by
  have ih:=IV hf hg ha hv v k (by omega);rw[OA s a (by omega)];unfold Gn;split
  ·have he:=hg.CX _ (bU (show k<s.cd.length by omega));have tD:=zl.1 hv;generalize s.cd[k]=e at he;have hl:e.1.toNat<a.length:=by omega
   have hm:a.getD e.1.toNat []∈a:=by rw[bK,bu hl];exact bU hl
   have ho:=JS hf hg (ha.2 _ hm).1 (tD.2 _ hm) (v:=e.1.toNat) (by omega);exact⟨Z3 ih.2 ho.2 ih.1 ho.1,JW ih.2 ho.2⟩
  ·exact ih
theorem OB{s:Sy}(hf:Fit s)(hg:Good s){a:List (List Int)}(ha:lT a)(hv:oI s a=true):oI s (ke s a)=true∧lT (ke s a):=by
 have hx:∀x∈ke s a,dm s.what s.w x=true∧bC x:=fun x hx=>by
  obtain⟨v,_,rfl⟩:=eW.1 hx;exact IV hf hg ha hv v _ (bg _)
 have hn:=hg.n1;have np:=hg.n2;have hl:(ke s a).length=s.n.toNat:=xH _ _ _;exact⟨zl.2 ⟨by omega,fun x h=>(hx x h).1⟩,by omega,fun x h=>⟨(hx x h).2,by have:=EN (hx x h).1;omega⟩⟩
def uC(x:List Int):AV:=.ae (.int .u64) x
def mq(l:List (List Int)):List AV:=l.map uC
theorem Jm:∀l:List (List Int),mq l=l.flatMap (Sh.cells (.slice (.int .u64)))
 | []=>rfl
 |x::l=>congrArg (uC x :: ·) (Jm l)
theorem EC(l:List (List Int)):(mq l).length=l.length:=by unfold mq;simp
theorem abl(l:List (List Int)){i:Nat}(h:i<l.length):(mq l)[i]?=some (uC l[i]):=by unfold mq;rw[fD,bu h];rfl
theorem mO{i:TI}(hs:i.size=1){cs:List AV}{o:Nat}{v:AV}(hv:v.cells?=some [v])(ho:o<cs.length):kC i cs o v=some (cs.set o v):=by
 unfold kC;rw[hv];simp only;have e1:Nat.beq ([v]:List AV).length i.size=true:=by rw[hs];rfl
 have e2:Nat.ble (o+i.size) cs.length=true:=Ed (by omega);rw[e1,e2];rfl
theorem gD{i:TI}(hw:i.wide=false){cs:List AV}{o:Nat}{v:AV}(h:cs[o]?=some v):ef i cs o=some v:=by unfold ef;rw[hw];exact h
theorem afQ(n:Nat):cP [.ag] n=List.replicate n AV.ag:=by
 induction n with
 |zero=>rfl
 |succ n ih=>simp[cP,ih,List.replicate_succ]
def lV(f:Nat→List Int)(n k:Nat):List AV:=mq ((List.range k).map f)++List.replicate (n-k) AV.ag
theorem PZ(f:Nat→List Int)(n:Nat):lV f n 0=cP [.ag] n:=by rw[afQ];rfl
theorem Ra(f:Nat→List Int)(n:Nat):lV f n n=mq ((List.range n).map f):=by unfold lV;simp
theorem Oe(f:Nat→List Int){n k:Nat}(h:k≤n):(lV f n k).length=n:=by unfold lV;simp[EC];omega
theorem Q9(f:Nat→List Int){n k:Nat}(h:k<n):(lV f n k).set k (uC (f k))=lV f n (k+1):=by
 unfold lV mq;rw[List.set_append_right _ _ (by simp)];have e:n-k=(n-(k+1))+1:=by omega
 rw[e,Ih];simp[List.range_succ]
theorem abk(l:List (List Int))(i:Nat)(x:List Int):(mq l).set i (uC x)=mq (l.set i x):=by unfold mq;rw[sB]
theorem Wt(s:Sy)(a:List (List Int)){k:Nat}(h:k<s.cd.length){to:Nat}(ht:s.cd[k].2.1=to):oJ s a (k+1)=(oJ s a k).set to (gl s.what (sZ s a k to) (lf s (a.getD s.cd[k].1.toNat []) s.cd[k].1.toNat)):=by
 refine List.ext_getElem (by simp[xH]) fun i h1 h2=>?_;rw[xH]at h1;rw[D2];simp only[oJ,D1,MU];rw[OA s a h];unfold Gn
 by_cases hi:to=i
 ·subst hi;rw[az rfl,az ht]
 ·rw[aB hi,aB (by omega)]
def vd(e:Int)(l:List (List Int)):List (List Int):=if e=0 then l else []
def uO(s:Sy)(a:List (List Int)):Int:=if cx s=0 then (if oI s a=true then 0 else 2) else cx s
theorem aaF(s:Sy)(a:List (List Int))(σ:Hp)(hf:Fit s)(ha:lT a):ACalls Tryz.prog 239 [.agg (aP s),.ae (.slice (.int .u64)) a] σ (ay (.tup [.ae (.slice (.int .u64)) (vd (uO s a) (ke s a)),.int .i64 (uO s a)]) σ):=by
 refine ao Tryz.func239 ?_;intro ax;refine aa 0 ?_;refine aw [] (xT s _ hf) ?_;refine cO (fun c1=>?_) (fun c1=>?_)
 ·have c1:(!decide (cx s=0))=true:=c1;have c1:¬cx s=0:=by simpa using c1
  have e:uO s a=cx s:=aB c1;exact .nil (bZ (.nil _) (.refl _)) (.drop 0 1 (.done ⟨by rw[e];unfold vd;rw[aB c1];rfl,rfl⟩))
 ·have c1:(!decide (cx s=0))=false:=c1;have c1:cx s=0:=by simpa using c1
  have hg:=wi c1;refine aa 0 ?_;refine dc [] (J9 s a _ ha) (fun c2=>?_) (fun c2=>?_)
  ·have e:uO s a=0:=by unfold uO;rw[az c1,az c2]
   obtain⟨N,hN⟩:∃N:Nat,s.n=N:=⟨s.n.toNat,by have:=hg.n1;omega⟩
   have hN1:=hg.n1;have tJ:=hg.n2;have tD:=zl.1 c2;refine aa 0 ?_;rw[hN];refine a8 ?_;intro bo;have Mv:(bo,cP [.ag] ((N:Int)).toNat)=(bo,lV (fun v=>eN s v) N 0):=by rw[PZ];rfl
   refine bc (S:=Nat) (fun k=>[(1,.ae (.slice (.int .u64)) a),(2,.ptr ax 0),(7,.af bo 0 N 1),(26,.int .i64 N),(27,.int .i64 k)]) (fun k=>(bo,lV (fun v=>eN s v) N k)::(ax,aP s)::σ) (fun k=>k≤N) (fun k=>N-k) 0 ⟨aV _,⟨rfl,rfl,rfl,rfl,rfl,trivial⟩,congrArg (· :: (ax,aP s)::σ) Mv⟩ ?_;intro k t aK;have hk:k≤N:=aK;clear aK;refine ai (fun ab=>?_) (fun ak=>?_)
   ·have ab:k<N:=by have ab:(k:Int)<N:=ab;omega
    refine aa 1 ?_;refine aw [] (Tf s k _ hf) ?_;refine aH ?_;refine bM 0 rfl ((mO rfl rfl (by rw[Oe _ hk];omega)).trans (congrArg some (show (lV (fun v=>eN s v) N k).set (0+((k:Int)).toNat*1) (uC (eN s k))=lV (fun v=>eN s v) N (k+1) by rw[dD,dH,bD];exact Q9 _ ab))) ?_;exact aM (k+1) (by show N-(k+1)<N-k;omega) ab ⟨rfl,rfl,rfl,rfl,aI (by omega),trivial⟩ (.refl _)
   ·have ak:k=N:=by have ak:¬(k:Int)<N:=ak;omega
    subst ak;refine aa 1 ?_
    have ry:(bo,lV (fun v=>eN s v) k k)=(bo,mq (oJ s a 0)):=by
     rw[Ra]
     have:oJ s a 0=(List.range k).map (fun v:Nat=>eN s v):=by
      unfold oJ;rw[hN,bD];rfl
     rw[this]
    have yP:=hg.el;refine bc (S:=Nat) (fun j=>[(1,.ae (.slice (.int .u64)) a),(2,.ptr ax 0),(7,.af bo 0 k 1),(38,.ae cg s.cd),(39,.int .i64 s.cd.length),(40,.int .i64 j)]) (fun j=>(bo,mq (oJ s a j))::(ax,aP s)::σ) (fun j=>j≤s.cd.length) (fun j=>s.cd.length-j) 0 ⟨aV _,⟨rfl,rfl,rfl,rfl,rfl,rfl,trivial⟩,congrArg (· :: (ax,aP s)::σ) ry⟩ ?_;intro j t gx;have hj:j≤s.cd.length:=gx;clear gx;refine ai (fun ab=>?_) (fun ak=>?_)
    ·have ab:j<s.cd.length:=by have ab:(j:Int)<s.cd.length:=ab;omega
     have he:=hg.CX _ (bU ab);have Ht:=fun {to:Nat} (h:s.cd[j].2.1=to)=>Wt s a ab h;obtain⟨d,hd⟩:∃d:aO,s.cd[j]=d:=⟨_,rfl⟩
     rw[hd]at he Ht;refine aF.mk rfl (aY.mk d (by omega) ((get_some ab).trans (congrArg some hd)) ?_);obtain⟨from_,iI⟩:∃i:Nat,d.1=i:=⟨d.1.toNat,by omega⟩
     obtain⟨to,w7⟩:∃i:Nat,d.2.1=i:=⟨d.2.1.toNat,by omega⟩
     have Ht:=Ht w7;obtain⟨hT,MB⟩:=K6 hg (v:=from_) (by omega);have hA:from_<a.length:=by omega
     have hAe:a.getD d.1.toNat []=a[from_]:=by rw[iI,bD,bK,bu hA];rfl
     have hv:=IV hf hg ha c2 to j hj;have L3:=ha.2 _ (bU hA);have Um:=tD.2 _ (bU hA);have ho:=JS hf hg L3.1 Um (v:=from_) (by omega);have w6:=hf.ts _ (bU hT);have htc:=hg.Hc _ (bU hT);intro bX;refine ah 0 ?_;refine .quiet (by kernel_rfl) ?_;refine aa 2 ?_;refine aa 2 ?_;refine aa 2 ?_;refine aa 0 ?_;refine aF.mk rfl ?_;refine aY.mk s.T[from_] (by omega) (by rw[iI,bD];exact bu hT) ?_;refine aa 0 ?_;refine aF.mk rfl ?_;refine aY.mk a[from_] (by omega) (by rw[iI,bD];exact bu hA) ?_
     have Mg:nF s.what s.T[from_].1 s.T[from_].2.1 s.T[from_].2.2.1 a[from_]=lf s (a.getD d.1.toNat []) d.1.toNat:=by
      unfold lf;rw[hAe,iI,bD,MB]
     have MI:lf s (a.getD d.1.toNat []) d.1.toNat=lf s a[from_] from_:=by rw[hAe,iI,bD]
     refine aN [] (mf (Y1 s.what s.w s.T[from_].1 s.T[from_].2.1 s.T[from_].2.2.1 a[from_] _ w6.1 w6.2.1 L3.1 w6.2.2.1 w6.2.2.2.1 L3.2 (dE w6.2.2.2.2 (by decide)) htc Um) (congrArg (fun x=>AV.tup [.ae (.int .u64) x,.int .i64 0]) (Mg.trans MI))) ?_;generalize lf s a[from_] from_=o at MI ho;refine .sched [13] (upto [13] 19 0) (by kernel_rfl) ?_;refine aa 0 ?_;refine aa 2 ?_;refine aa 2 ?_;refine aa 0 ?_;refine aH ?_
     have Mp:(mq (oJ s a j))[0+d.2.1.toNat*1]?=some (uC (sZ s a j to)):=by
      rw[w7,bD,dD,dH,abl _ (by rw[xH];omega)];simp[oJ]
     refine aS 1 rfl (gD rfl Mp) ?_;refine aN [] (aaR s.what s.w (sZ s a j to) o _ hv.2 ho.2 (dE (EN hv.1) (by decide)) (dE (EN ho.1) (by decide)) hv.1 ho.1) ?_;refine aH ?_
     have iV:(mq (oJ s a j)).set (0+d.2.1.toNat*1) (uC (gl s.what (sZ s a j to) o))=mq (oJ s a (j+1)):=by
      rw[Ht,MI,w7,bD,dD,dH,abk]
     refine bM 1 rfl ((mO rfl rfl (by rw[EC,xH];omega)).trans (congrArg some iV)) ?_;exact aM (j+1) (by show s.cd.length-(j+1)<s.cd.length-j;omega) ab ⟨rfl,rfl,rfl,rfl,rfl,aI (by omega),trivial⟩ (.drop 0 1 (.refl _))
    ·have ak:j=s.cd.length:=by have ak:¬(j:Int)<s.cd.length:=ak;omega
     subst ak;refine .cb 0 bo 0 k 1 _ (.slice (.int .u64)) (ke s a) rfl ?_ ⟨?_,rfl,by decide⟩ (bZ .here (.refl _)) (.drop 0 1 (.done ⟨?_,rfl⟩))
     ·rw[fy,← Jm];exact dZ (by rw[EC,xH,hN];omega)
     ·exact (xH _ _ _).trans (by rw[hN];omega)
     ·rw[e];rfl
  ·have e:uO s a=2:=by unfold uO;rw[az c1,c2];rfl
   exact .nil (bZ (.nil _) (.refl _)) (.drop 0 1 (.done ⟨by rw[e];rfl,rfl⟩))
theorem aaX(xs ys:List Int)(σ:Hp)(h1:xs.length≤1000000):ACalls Tryz.prog 244 ([.ae (.int .u64) xs,.ae (.int .u64) ys]++[]) σ (ay (.bool (decide (xs=ys))) σ):=Sv xs ys σ h1
theorem YT(a b:List (List Int)):pL (fun x y=>decide (x=y)) a b=decide (a=b):=by
 rw[DZ,IQ,decide_eq_true_eq];constructor
 ·rintro⟨h1,h2⟩;exact Ig h1 fun i q1 q2=>eX (h2 i q1 q2)
 ·rintro rfl;exact⟨rfl,fun i q1 q2=>aX rfl⟩
def jO(s:Sy):List (List Int):=List.replicate s.n.toNat (iq s.what s.w)
theorem NI(s:Sy):(jO s).length=s.n.toNat:=gh
theorem O5(s:Sy)(σ:Hp)(hf:Fit s):ACalls Tryz.prog 237 [.agg (aP s)] σ (ay (.tup [.ae (.slice (.int .u64)) (vd (cx s) (jO s)),.int .i64 (cx s)]) σ):=by
 refine ao Tryz.func237 ?_;intro ax;refine aa 0 ?_;refine aw [] (xT s _ hf) ?_;refine cO (fun c1=>?_) (fun c1=>?_)
 ·have c1:(!decide (cx s=0))=true:=c1;have c1:¬cx s=0:=by simpa using c1
  exact .nil (bZ (.nil _) (.refl _)) (.drop 0 1 (.done ⟨by unfold vd;rw[aB c1];rfl,rfl⟩))
 ·have c1:(!decide (cx s=0))=false:=c1;have c1:cx s=0:=by simpa using c1
  have hg:=wi c1;obtain⟨N,hN⟩:∃N:Nat,s.n=N:=⟨s.n.toNat,by have:=hg.n1;omega⟩
  have hN1:=hg.n1;have tJ:=hg.n2;refine aa 0 ?_;rw[hN];refine a8 ?_;intro bo;have Mv:(bo,cP [.ag] ((N:Int)).toNat)=(bo,lV (fun _=>iq s.what s.w) N 0):=by rw[PZ];rfl
  refine bc (S:=Nat) (fun k=>[(1,.ptr ax 0),(5,.af bo 0 N 1),(16,.int .i64 N),(17,.int .i64 k)]) (fun k=>(bo,lV (fun _=>iq s.what s.w) N k)::(ax,aP s)::σ) (fun k=>k≤N) (fun k=>N-k) 0 ⟨aV _,⟨rfl,rfl,rfl,rfl,trivial⟩,congrArg (· :: (ax,aP s)::σ) Mv⟩ ?_;intro k t aK;have hk:k≤N:=aK;clear aK;refine ai (fun ab=>?_) (fun ak=>?_)
  ·have ab:k<N:=by have ab:(k:Int)<N:=ab;omega
   refine aa 1 ?_;refine aa 1 ?_;refine aw [] (Fk _ _ _) ?_;refine aH ?_;refine bM 0 rfl ((mO rfl rfl (by rw[Oe _ hk];omega)).trans (congrArg some (show (lV (fun _=>iq s.what s.w) N k).set (0+((k:Int)).toNat*1) (uC (iq s.what s.w))=lV (fun _=>iq s.what s.w) N (k+1) by rw[dD,dH,bD];exact Q9 _ ab))) ?_;exact aM (k+1) (by show N-(k+1)<N-k;omega) ab ⟨rfl,rfl,rfl,aI (by omega),trivial⟩ (.refl _)
  ·have ak:k=N:=by have ak:¬(k:Int)<N:=ak;omega
   subst ak
   have agd:lV (fun _=>iq s.what s.w) k k=mq (jO s):=by
    rw[Ra];unfold jO;rw[hN,bD,HN,og]
   refine .cb 0 bo 0 k 1 _ (.slice (.int .u64)) (jO s) rfl ?_ ⟨?_,rfl,by decide⟩ (bZ .here (.refl _)) (.drop 0 1 (.done ⟨?_,rfl⟩))
   ·rw[fy,← Jm,agd];exact dZ (by rw[EC];unfold jO;rw[gh,hN];omega)
   ·exact (NI s).trans (by rw[hN];omega)
   ·unfold vd;rw[c1];rfl
def bG(b:List Bool):List AV:=b.map .bool
theorem acw{b:List Bool}{k:Nat}(h:k<b.length){z:Int}(hz:z=k):(bG b)[0+z.toNat*1]?=some (.bool (b.getD k false)):=by
 subst hz;rw[bD,dH,dD];unfold bG;rw[fD,bu h,bK,bu h];rfl
theorem acu(b:List Bool)(k:Nat)(x:Bool){z:Int}(hz:z=k):(bG b).set (0+z.toNat*1) (.bool x)=bG (b.set k x):=by
 subst hz;rw[bD,dH,dD];unfold bG;rw[sB]
theorem zu(n:Nat):cP [.bool false] n=bG (List.replicate n false):=by
 induction n with
 |zero=>rfl
 |succ n ih=>show AV.bool false::cP [.bool false] n=_;rw[ih];rfl
def kZ(n:Int)(b:List Bool)(a:Int):List Bool:=if 0≤a∧a<n then b.set a.toNat true else b
def kT(n:Int)(b:List Bool)(e:aO):List Bool:=if (0≤e.1∧e.1<n)∧(0≤e.2.1∧e.2.1<n)∧b.getD e.1.toNat false=true then b.set e.2.1.toNat true else b
def kG(n:Int)(l:List aO)(b:List Bool):List Bool:=l.foldl (kT n) b
def pG(n:Int)(l:List aO):Nat→List Bool→List Bool
 | 0,b=>b
 |k+1,b=>pG n l k (kG n l b)
def kf(b:List Bool)(k:Nat):List Int:=((List.range k).filter fun i=>b.getD i false).map fun i:Nat=>(i:Int)
def rP(n:Int)(l:List aO)(fr:List Int):List Bool:=pG n l n.toNat (fr.foldl (kZ n) (List.replicate n.toNat false))
def uu(n:Int)(l:List aO)(fr:List Int):List Int:=kf (rP n l fr) n.toNat
theorem NR(n:Int)(b:List Bool)(a:Int):(kZ n b a).length=b.length:=by unfold kZ;split;exact dY;rfl
theorem OP(n:Int)(b:List Bool)(e:aO):(kT n b e).length=b.length:=by unfold kT;split;exact dY;rfl
theorem drop_cons{α:Type}{l:List α}{k:Nat}(h:k<l.length):l.drop k=l[k]::l.drop (k+1):=tQ h
theorem WY(b:List Bool)(k:Nat):kf b (k+1)=kf b k++(if b.getD k false=true then [(k:Int)] else []):=by
 unfold kf;rw[pz,tP,cE]
 congr 1
 by_cases h:b.getD k false=true
 ·rw[az h,Ea (p:=fun i=>b.getD i false) h];rfl
 ·rw[aB h,Eb (p:=fun i=>b.getD i false) h];rfl
theorem QU{n:Int}{b:List Bool}{a:Int}(h:¬(0≤a∧a<n)):kZ n b a=b:=aB h
theorem acv(b:List Bool):(bG b).length=b.length:=cN _
theorem rounds_succ(n:Int)(l:List aO)(k:Nat)(b:List Bool):pG n l (k+1) b=pG n l k (kG n l b):=rfl
theorem acd{n:Int}{b:List Bool}{e:aO}(h1:0≤e.1∧e.1<n)(h2:0≤e.2.1∧e.2.1<n)(h3:b.getD e.1.toNat false=true):kT n b e=b.set e.2.1.toNat true:=az ⟨h1,h2,h3⟩
theorem ae0{n:Int}{b:List Bool}{e:aO}(h:¬((0≤e.1∧e.1<n)∧(0≤e.2.1∧e.2.1<n)∧b.getD e.1.toNat false=true)):kT n b e=b:=aB h
theorem tZ{i:TI}(hs:i.size=1){b:List Bool}(x:Bool){a:Int}(h1:0≤a)(h2:a<b.length):kC i (bG b) (0+a.toNat*1) (.bool x)=some (bG (b.set a.toNat x)):=by
 rw[mO hs rfl (by rw[acv];omega),acu b a.toNat x (by omega)]
theorem qF{i:TI}(hw:i.wide=false){b:List Bool}{a:Int}(h1:0≤a)(h2:a<b.length):ef i (bG b) (0+a.toNat*1)=some (.bool (b.getD a.toNat false)):=gD hw (acw (by omega) (by omega))
theorem Y8(n:Nat)(l:List aO)(fr:List Int)(σ:Hp)(hl:l.length≤100000)(hn:n≤100000)(hf:fr.length≤100000):ACalls Tryz.prog 305 [.int .i64 n,.ae cg l,.ae (.int .i64) fr] σ (ay (.ae (.int .i64) (uu n l fr)) σ):=by
 refine ao Tryz.func305 ?_;refine a8 ?_;intro bq;refine bc (S:=Nat×List Bool) (fun s=>[(0,.int .i64 n),(1,.ae cg l),(7,.af bq 0 n 1),(17,.ae (.int .i64) fr),(18,.int .i64 fr.length),(19,.int .i64 s.1)]) (fun s=>(bq,bG s.2)::σ) (fun s=>s.1≤fr.length∧s.2.length=n∧(fr.drop s.1).foldl (kZ n) s.2=fr.foldl (kZ n) (List.replicate n false)) (fun s=>fr.length-s.1) (0,List.replicate n false) ⟨⟨Nat.zero_le _,by simp,rfl⟩,⟨rfl,rfl,rfl,rfl,rfl,rfl,trivial⟩,by show _=(bq,bG (List.replicate n false))::σ;rw[← zu];rfl⟩ ?_;rintro⟨k,b⟩ g ⟨aK,ry,eR⟩;have hk:k≤fr.length:=aK;have hb:b.length=n:=ry;have ha:(fr.drop k).foldl (kZ n) b=fr.foldl (kZ n) (List.replicate n false):=eR;clear aK ry eR;refine ai (p:=(k:Int)<(fr.length:Int)) (fun ab=>?_) (fun ak=>?_)
 ·have ab:k<fr.length:=by omega
  obtain⟨a,hfa⟩:∃a,fr[k]=a:=⟨_,rfl⟩
  rw[drop_cons ab,hfa,AZ]at ha;refine aF.mk rfl (aY.mk a (by omega) ((get_some ab).trans (congrArg some hfa)) ?_);refine ai (fun c1=>?_) (fun c1=>?_)
  ·have c1:0≤a:=c1;refine ai (fun c2=>?_) (fun c2=>?_)
   ·have c2:a<(↑n:Int):=c2;refine aH ?_;have hm:kZ n b a=b.set a.toNat true:=az ⟨c1,c2⟩;refine bM 0 rfl (tZ (b:=b) rfl true c1 (by omega)) ?_;exact aM (k+1,b.set a.toNat true) (by show fr.length-(k+1)<fr.length-k;omega) ⟨ab,by rw[dY];exact hb,by rw[← hm];exact ha⟩ ⟨rfl,rfl,rfl,rfl,rfl,aI (by omega),trivial⟩ (.refl _)
   ·have c2:¬(a<(↑n:Int)):=c2;have hm:kZ n b a=b:=QU (by omega);exact aM (k+1,b) (by show fr.length-(k+1)<fr.length-k;omega) ⟨ab,hb,by rw[hm]at ha;exact ha⟩ ⟨rfl,rfl,rfl,rfl,rfl,aI (by omega),trivial⟩ (.refl _)
  ·have c1:¬(0≤a):=c1;have hm:kZ n b a=b:=QU (by omega);exact aM (k+1,b) (by show fr.length-(k+1)<fr.length-k;omega) ⟨ab,hb,by rw[hm]at ha;exact ha⟩ ⟨rfl,rfl,rfl,rfl,rfl,aI (by omega),trivial⟩ (.refl _)
 ·have ak:k=fr.length:=by omega
  subst ak;rw[HR]at ha;have nq:b=fr.foldl (kZ n) (List.replicate n false):=ha;clear ha;refine bc (S:=Nat×List Bool) (fun s=>[(0,.int .i64 n),(1,.ae cg l),(7,.af bq 0 n 1),(10,.int .i64 s.1)]) (fun s=>(bq,bG s.2)::σ) (fun s=>s.1≤n∧s.2.length=n∧pG n l (n-s.1) s.2=rP n l fr) (fun s=>n-s.1) (0,b) ⟨⟨aV _,hb,by unfold rP;rw[bD,← nq];rfl⟩,⟨rfl,rfl,rfl,rfl,trivial⟩,rfl⟩ ?_;clear nq hb b;rintro⟨k,b⟩ g ⟨aK,ry,eR⟩;have hk:k≤n:=aK;have hb:b.length=n:=ry;have ha:pG n l (n-k) b=rP n l fr:=eR;clear aK ry eR;refine ai (p:=(k:Int)<(n:Int)) (fun ab=>?_) (fun ak=>?_)
  ·have ab:k<n:=by omega
   rw[show n-k=(n-(k+1))+1 by omega,rounds_succ]at ha;refine bc (S:=Nat×List Bool) (fun s=>[(0,.int .i64 n),(1,.ae cg l),(7,.af bq 0 n 1),(10,.int .i64 k),(39,.ae cg l),(40,.int .i64 l.length),(41,.int .i64 s.1)]) (fun s=>(bq,bG s.2)::σ) (fun s=>s.1≤l.length∧s.2.length=n∧(l.drop s.1).foldl (kT n) s.2=kG n l b) (fun s=>l.length-s.1) (0,b) ⟨⟨aV _,hb,rfl⟩,⟨rfl,rfl,rfl,rfl,rfl,rfl,rfl,trivial⟩,rfl⟩ ?_;rintro⟨j,c⟩ g2 ⟨gx,rp,hd0⟩;have hj:j≤l.length:=gx;have hc:c.length=n:=rp;have hd:(l.drop j).foldl (kT n) c=kG n l b:=hd0;clear gx rp hd0;refine ai (p:=(j:Int)<(l.length:Int)) (fun da=>?_) (fun jl=>?_)
   ·have da:j<l.length:=by omega
    obtain⟨e,hle⟩:∃e:aO,l[j]=e:=⟨_,rfl⟩
    rw[drop_cons da,hle,AZ]at hd;refine aF.mk rfl (aY.mk e (by omega) ((get_some da).trans (congrArg some hle)) ?_);have sn:¬((0≤e.1∧e.1<n)∧(0≤e.2.1∧e.2.1<n)∧c.getD e.1.toNat false=true)→(l.drop (j+1)).foldl (kT n) c=kG n l b:=fun h=>by rw[ae0 h]at hd;exact hd
    have cz:¬((0≤e.1∧e.1<n)∧(0≤e.2.1∧e.2.1<n)∧c.getD e.1.toNat false=true)→(j+1≤l.length∧c.length=n∧(l.drop (j+1)).foldl (kT n) c=kG n l b):=fun h=>⟨da,hc,sn h⟩
    intro ax;refine ah 0 ?_;refine aa 0 ?_;refine ai (p:=0≤e.1) (fun c1=>?_) (fun c1=>?_);rotate_left
    ·exact aM (j+1,c) (by show l.length-(j+1)<l.length-j;omega) (cz (by omega)) ⟨rfl,rfl,rfl,rfl,rfl,rfl,aI (by omega),trivial⟩ (.drop 0 1 (.refl _))
    refine aa 0 ?_;refine ai (p:=e.1<(n:Int)) (fun c2=>?_) (fun c2=>?_);rotate_left
    ·exact aM (j+1,c) (by show l.length-(j+1)<l.length-j;omega) (cz (by omega)) ⟨rfl,rfl,rfl,rfl,rfl,rfl,aI (by omega),trivial⟩ (.drop 0 1 (.refl _))
    refine aa 0 ?_;refine ai (p:=0≤e.2.1) (fun c3=>?_) (fun c3=>?_);rotate_left
    ·exact aM (j+1,c) (by show l.length-(j+1)<l.length-j;omega) (cz (by omega)) ⟨rfl,rfl,rfl,rfl,rfl,rfl,aI (by omega),trivial⟩ (.drop 0 1 (.refl _))
    refine aa 0 ?_;refine ai (p:=e.2.1<(n:Int)) (fun c4=>?_) (fun c4=>?_);rotate_left
    ·exact aM (j+1,c) (by show l.length-(j+1)<l.length-j;omega) (cz (by omega)) ⟨rfl,rfl,rfl,rfl,rfl,rfl,aI (by omega),trivial⟩ (.drop 0 1 (.refl _))
    refine aa 0 ?_;refine aH ?_;refine ec.jG 1 _ _ rfl (qF (b:=c) rfl c1 (by omega)) (fun c5=>?_) (fun c5=>?_)
    ·refine aa 0 ?_;refine aH ?_;refine bM 1 rfl (tZ (b:=c) rfl true c3 (by omega)) ?_;rw[acd ⟨c1,c2⟩ ⟨c3,c4⟩ c5]at hd;exact aM (j+1,c.set e.2.1.toNat true) (by show l.length-(j+1)<l.length-j;omega) ⟨da,by rw[dY];exact hc,hd⟩ ⟨rfl,rfl,rfl,rfl,rfl,rfl,aI (by omega),trivial⟩ (.drop 0 1 (.refl _))
    ·exact aM (j+1,c) (by show l.length-(j+1)<l.length-j;omega) (cz (by rw[c5];simp)) ⟨rfl,rfl,rfl,rfl,rfl,rfl,aI (by omega),trivial⟩ (.drop 0 1 (.refl _))
   ·have jl:j=l.length:=by omega
    subst jl;rw[HR]at hd;have hd:c=kG n l b:=hd;exact aM (k+1,c) (by show n-(k+1)<n-k;omega) ⟨ab,hc,by show pG n l (n-(k+1)) c=_;rw[hd];exact ha⟩ ⟨rfl,rfl,rfl,aI (by omega),trivial⟩ (.refl _)
  ·have ak:k=n:=by omega
   subst ak;rw[l7]at ha;have ha:b=rP k l fr:=ha;have cQ:∀j,(kf b j).length≤j:=fun j=>by unfold kf;rw[List.length_map];exact Nat.le_trans (List.length_filter_le _ _) (by simp)
   refine .wrap 13 _ rfl rfl ?_;refine bc (S:=Nat×AV×Hp) (fun s=>[(0,.int .i64 k),(7,.af bq 0 k 1),(13,.via s.2.1),(14,.int .i64 s.1)]) (fun s=>(bq,bG b)::(s.2.2++σ)) (fun s=>s.1≤k∧Acc 1 (kf b s.1).length s.2.1 s.2.2 (aj (kf b s.1))) (fun s=>k-s.1) (0,.ag,[]) ⟨⟨aV _,.nil⟩,⟨rfl,rfl,rfl,rfl,trivial⟩,rfl⟩ ?_;rintro⟨j,v,acc⟩ g2 ⟨gx,fX⟩;have hj:j≤k:=gx;have bF:Acc 1 (kf b j).length v acc (aj (kf b j)):=fX;clear gx fX;have Gq:=WY b j;refine ai (p:=(j:Int)<(k:Int)) (fun ab=>?_) (fun ak=>?_)
   ·have ab:j<k:=by omega
    refine aH ?_;refine ec.jG 0 _ _ rfl (qF rfl (by omega) (by omega)) (fun c5=>?_) (fun c5=>?_)
    ·rw[bD]at c5;rw[c5,az rfl]at Gq;intro ax;refine eS [_,_] bF (.af 0 ax 0 1 _ rfl (cj rfl)) rfl (by have:=cQ j;omega) (by decide) (by decide) (fun v' aJ h'=>?_);refine aM (j+1,v',aJ) (by show k-(j+1)<k-j;omega) ⟨ab,?_⟩ ⟨rfl,rfl,rfl,aI (by omega),trivial⟩ (.drop 0 1 (aL rfl));show Acc 1 (kf b (j+1)).length v' aJ (aj (kf b (j+1)));rw[Gq,bB,aj,cE];exact h'
    ·rw[bD]at c5;rw[c5,aB Bool.false_ne_true,fC]at Gq;exact aM (j+1,v,acc) (by show k-(j+1)<k-j;omega) ⟨ab,by show Acc 1 (kf b (j+1)).length v acc (aj (kf b (j+1)));rw[Gq];exact bF⟩ ⟨rfl,rfl,rfl,aI (by omega),trivial⟩ (.refl _)
   ·have ak:j=k:=by omega
    subst ak;exact lH (s:=.int .i64) [_] bF rfl (ia _) (by decide) (.drop 0 1 (.done ⟨by rw[show kf b j=uu j l fr by unfold uu;rw[← ha,bD]],rfl⟩))
def iH(l:List Int)(x:Int):Bool:=l.any fun z=>decide (x=z)
theorem um{l:List Int}{x:Int}:iH l x=true↔x∈l:=by unfold iH;simp
theorem adU{l:List Int}{k:Nat}(h:k<l.length){z:Int}(hz:z=k):(aj l)[0+z.toNat*1]?=some (.int .i64 (l.getD k 0)):=by
 subst hz;rw[bD,dH,dD];unfold aj;rw[fD,bu h,bK,bu h];rfl
theorem rM(l:List Int):(aj l).length=l.length:=cN _
theorem Z8{l:List Int}{x:Int}{k:Nat}(h:k<l.length):iH (l.take (k+1)) x=(iH (l.take k) x||decide (x=l.getD k 0)):=by
 unfold iH;rw[mH h,bK,bu h];rfl
theorem GC{v:AV}{acc:Hp}(l:List Int)(x:Int)(σ:Hp)(hl:l.length≤1000000)(h:Acc 1 l.length v acc (aj l)):ACalls Tryz.prog 144 [v,.int .i64 x] (acc++σ) (ay (.bool (iH l x)) (acc++σ)):=by
 generalize hn:l.length=n at h;generalize hc:aj l=cs at h;cases h with
 |nil=>
  obtain rfl:=fE.1 hn;exact EL (bZ (.nil _) (bZ (.refl _) sU)) (LD [] x _ (by decide))
 |af b k cs h=>
  subst hn;subst hc;refine ao Tryz.func144 ?_;refine bc (S:=Nat) (fun k=>[(1,.int .i64 x),(7,.af b 0 l.length 1),(8,.int .i64 l.length),(9,.int .i64 k)]) (fun _=>(b,aj l)::σ) (fun k=>k≤l.length∧iH (l.take k) x=false) (fun k=>l.length-k) 0 ⟨⟨aV _,rfl⟩,⟨rfl,rfl,rfl,rfl,trivial⟩,rfl⟩ ?_;rintro k g ⟨aK,eR⟩;have hk:k≤l.length:=aK;have ha:iH (l.take k) x=false:=eR;clear aK eR;refine ai (p:=(k:Int)<(l.length:Int)) (fun ab=>?_) (fun ak=>?_)
  ·have ab:k<l.length:=by omega
   have hs:=Z8 (x:=x) ab;rw[ha,l8]at hs;refine aH ?_;refine aS 0 rfl (gD rfl (adU ab rfl)) ?_;refine ai (p:=l.getD k 0=x) (fun d1=>?_) (fun d1=>?_)
   ·refine .done ⟨bJ (um.2 ?_).symm,rfl⟩;rw[← d1,bK,bu ab];exact bU ab
   ·exact aM (k+1) (by show l.length-(k+1)<l.length-k;omega) ⟨ab,hs.trans (cp fun h=>d1 h.symm)⟩ ⟨rfl,rfl,rfl,aI (by omega),trivial⟩ (.refl _)
  ·have ak:k=l.length:=by omega
   subst ak;rw[er]at ha;exact .done ⟨bJ ha.symm,rfl⟩
theorem aea{P:Program}{f:FuncId}{xs:List AV}{σ:Hp}{K:AV→Hp→Prop}(fr:Hp){acc:Hp}{x:AV}(h:∀σ,ACalls P f xs (acc++σ) (ay x (acc++σ)))(k:K x (fr++(acc++σ))):CallAt P f K xs (fr++(acc++σ)):=
 .perm _ (we fr acc σ) (h (fr++σ)) fun _ _ ⟨h1,h2⟩=>⟨_,(we fr acc σ).symm.trans (h2▸.refl _),h1▸k⟩
theorem Cb{P:Program}{f:FuncId}{xs:List AV}{σ:Hp}{K:AV→Hp→Prop}(fr:Hp){acc:Hp}{b:Bool}(h:∀σ,ACalls P f xs (acc++σ) (ay (.bool b) (acc++σ)))(k1:b=true→K (.bool true) (fr++(acc++σ)))(k2:b=false→K (.bool false) (fr++(acc++σ))):CallAt P f K xs (fr++(acc++σ)):=
 aea fr h (by cases b;exact k2 rfl;exact k1 rfl)
theorem K3(l:List Int)(x:Int)(σ:Hp)(hl:l.length≤1000000):ACalls Tryz.prog 144 [.ae (.int .i64) l,.int .i64 x] σ (ay (.bool (iH l x)) σ):=LD l x σ hl
def ng(n:Int)(l:List aO)(a b:Int):Bool:=iH (uu n l [a]) b
theorem Vt(b:List Bool)(k:Nat):(kf b k).length≤k:=by unfold kf;rw[List.length_map];exact Nat.le_trans (List.length_filter_le _ _) (by simp)
theorem Vd(n:Nat)(l:List aO)(fr:List Int):(uu n l fr).length≤n:=by
 have:=Vt (rP n l fr) ((n:Int)).toNat;rw[bD]at this;exact this
theorem UR(n:Nat)(l:List aO)(a b:Int)(σ:Hp)(hl:l.length≤100000)(hn:n≤100000):ACalls Tryz.prog 281 [.int .i64 n,.ae cg l,.int .i64 a,.int .i64 b] σ (ay (.bool (ng n l a b)) σ):=by
 refine ao Tryz.func281 ?_;intro ax;refine .cb (args':=[.int .i64 n,.ae cg l,.ae (.int .i64) [a]]) 0 ax 0 1 1 _ (.int .i64) [a] rfl rfl ⟨rfl,rfl,by decide⟩ (bZ (.refl _) (bZ (.refl _) (bZ .here sU))) (aw [] (Y8 n l [a] _ hl hn (by show 1≤100000;omega)) ?_);refine aw [] (K3 _ _ _ (by have:=Vd n l [a];omega)) ?_;exact .done ⟨rfl,rfl⟩
def lK(n:Int)(l:List aO)(a:Int)(k:Nat):List Int:=((List.range k).filter fun b:Nat=>ng n l a b&&ng n l b a).map fun i:Nat=>(i:Int)
def eI(n:Int)(l:List aO)(a:Int):List Int:=lK n l a n.toNat
theorem VQ(n:Int)(l:List aO)(a:Int)(k:Nat):lK n l a (k+1)=lK n l a k++(if (ng n l a k&&ng n l k a)=true then [(k:Int)] else []):=by
 unfold lK;rw[pz,tP,cE]
 congr 1
 by_cases h:(ng n l a k&&ng n l k a)=true
 ·rw[az h,Ea (p:=fun b:Nat=>ng n l a b&&ng n l b a) h];rfl
 ·rw[aB h,Eb (p:=fun b:Nat=>ng n l a b&&ng n l b a) h];rfl
theorem NJ(n:Int)(l:List aO)(a:Int)(k:Nat):(lK n l a k).length≤k:=by unfold lK;rw[List.length_map];exact Nat.le_trans (List.length_filter_le _ _) (by simp)
theorem aeu(n:Nat)(l:List aO)(a:Int)(σ:Hp)(hl:l.length≤100000)(hn:n≤100000):ACalls Tryz.prog 246 [.int .i64 n,.ae cg l,.int .i64 a] σ (ay (.ae (.int .i64) (eI n l a)) σ):=by
 refine ao Tryz.func246 ?_;refine .wrap 7 _ rfl rfl ?_;refine bc (S:=Nat×AV×Hp) (fun s=>[(0,.int .i64 n),(1,.ae cg l),(2,.int .i64 a),(7,.via s.2.1),(8,.int .i64 s.1)]) (fun s=>s.2.2++σ) (fun s=>s.1≤n∧Acc 1 (lK n l a s.1).length s.2.1 s.2.2 (aj (lK n l a s.1))) (fun s=>n-s.1) (0,.ag,[]) ⟨⟨aV _,.nil⟩,⟨rfl,rfl,rfl,rfl,rfl,trivial⟩,rfl⟩ ?_;rintro⟨k,v,acc⟩ g ⟨aK,fX⟩;have hk:k≤n:=aK;have bF:Acc 1 (lK n l a k).length v acc (aj (lK n l a k)):=fX;clear aK fX;have cQ:=NJ n l a k;have hs:=VQ n l a k;refine ai (p:=(k:Int)<n) (fun ab=>?_) (fun ak=>?_);rotate_left
 ·have ak:k=n:=by omega
  subst ak;exact lH (s:=.int .i64) [] bF rfl (ia _) (by decide) (.done ⟨by unfold eI;rw[bD],rfl⟩)
 have ab:k<n:=by omega
 refine dc [] (UR n l a k _ hl hn) (fun c1=>?_) (fun c1=>?_)
 ·refine dc [] (UR n l k a _ hl hn) (fun c2=>?_) (fun c2=>?_)
  ·rw[c1,c2,az (by rfl)]at hs;intro bX;refine eS [_] bF (.af 0 bX 0 1 _ rfl (cj rfl)) rfl (by omega) (by decide) (by decide) (fun v' aJ h'=>?_);refine aM (k+1,v',aJ) (by show n-(k+1)<n-k;omega) ⟨ab,?_⟩ ⟨rfl,rfl,rfl,rfl,aI (by omega),trivial⟩ (.drop 0 1 (aL rfl));show Acc 1 (lK n l a (k+1)).length v' aJ (aj (lK n l a (k+1)));rw[hs,bB,aj,cE];exact h'
  ·rw[c2,DV,aB (by decide),fC]at hs;exact aM (k+1,v,acc) (by show n-(k+1)<n-k;omega) ⟨ab,by show Acc 1 (lK n l a (k+1)).length v acc (aj (lK n l a (k+1)));rw[hs];exact bF⟩ ⟨rfl,rfl,rfl,rfl,aI (by omega),trivial⟩ (.refl _)
 ·rw[c1,DW,aB (by decide),fC]at hs;exact aM (k+1,v,acc) (by show n-(k+1)<n-k;omega) ⟨ab,by show Acc 1 (lK n l a (k+1)).length v acc (aj (lK n l a (k+1)));rw[hs];exact bF⟩ ⟨rfl,rfl,rfl,rfl,aI (by omega),trivial⟩ (.refl _)
theorem YV{e k:Nat}{v:AV}{acc:Hp}{cs:List AV}(h:Acc e k v acc cs):v.leaf=true:=by cases h <;> rfl
def qM(l:List aO)(part told:List Int):Bool:=l.all fun e=> !(iH part e.2.1&&!iH part e.1&&!iH told e.1)
theorem aez(l:List aO)(part told:List Int){v:AV}{acc:Hp}(σ:Hp)(hl:l.length≤100000)(hp:part.length≤1000000)(ht:told.length≤1000000)(h:Acc 1 told.length v acc (aj told)):ACalls Tryz.prog 247 [.ae cg l,.ae (.int .i64) part,v] (acc++σ) (ay (.bool (qM l part told)) (acc++σ)):=by
 refine ao Tryz.func247 ?_;refine .wrap 2 v rfl (YV h) ?_;refine bc (S:=Nat) (fun k=>[(1,.ae (.int .i64) part),(2,.via v),(9,.ae cg l),(10,.int .i64 l.length),(11,.int .i64 k)]) (fun _=>acc++σ) (fun k=>k≤l.length∧qM (l.take k) part told=true) (fun k=>l.length-k) 0 ⟨⟨aV _,rfl⟩,⟨rfl,rfl,rfl,rfl,rfl,trivial⟩,rfl⟩ ?_;rintro k g ⟨aK,eR⟩;have hk:k≤l.length:=aK;have ha:qM (l.take k) part told=true:=eR;clear aK eR;refine ai (p:=(k:Int)<(l.length:Int)) (fun ab=>?_) (fun ak=>?_)
 ·have ab:k<l.length:=by omega
  obtain⟨e,hle⟩:∃e:aO,l[k]=e:=⟨_,rfl⟩
  refine aF.mk rfl (aY.mk e (by omega) ((get_some ab).trans (congrArg some hle)) ?_);intro ax;refine ah 0 ?_;refine aa 0 ?_
  have hs:qM (l.take (k+1)) part told = !(iH part e.2.1&&!iH part e.1&&!iH told e.1):=by
   unfold qM at ha ⊢;rw[List.take_add_one,xt,ha,bu ab,hle];simp
  have sn:(!(iH part e.2.1&&!iH part e.1&&!iH told e.1))=false→qM l part told=false:=fun h=>by
   rw[yV];intro h2;unfold qM at h2;rw[fq]at h2;have:=h2 e (hle▸bU ab);rw[h]at this;cases this
  refine dc [] (K3 part e.2.1 _ hp) (fun c1=>?_) (fun c1=>?_);rotate_left
  ·exact aM (k+1) (by show l.length-(k+1)<l.length-k;omega) ⟨ab,hs.trans (by rw[c1];rfl)⟩ ⟨rfl,rfl,rfl,rfl,aI (by omega),trivial⟩ (.drop 0 1 (.refl _))
  refine aa 0 ?_;refine dc [] (K3 part e.1 _ hp) (fun c2=>?_) (fun c2=>?_)
  ·exact aM (k+1) (by show l.length-(k+1)<l.length-k;omega) ⟨ab,hs.trans (by rw[c1,c2];rfl)⟩ ⟨rfl,rfl,rfl,rfl,aI (by omega),trivial⟩ (.drop 0 1 (.refl _))
  refine aa 0 ?_;refine Cb [_] (fun σ=>GC told e.1 σ ht h) (fun c3=>?_) (fun c3=>?_)
  ·exact aM (k+1) (by show l.length-(k+1)<l.length-k;omega) ⟨ab,hs.trans (by rw[c1,c2,c3];rfl)⟩ ⟨rfl,rfl,rfl,rfl,aI (by omega),trivial⟩ (.drop 0 1 (.refl _))
  ·exact .drop 0 1 (.done ⟨bJ (sn (by rw[c1,c2,c3];rfl)).symm,rfl⟩)
 ·have ak:k=l.length:=by omega
  subst ak;rw[er]at ha;exact .done ⟨bJ ha.symm,rfl⟩
theorem Bn{b:List Bool}{i j:Nat}{x:Bool}:(b.set i x).getD j false=if i=j∧j<b.length then x else b.getD j false:=by
 simp only[bK,gQ]
 by_cases h:i=j
 ·subst h
  by_cases h2:i<b.length
  ·simp[h2]
  ·simp[h2]
 ·simp[h]
theorem XO{b:List Bool}{i j:Nat}(h:b.getD j false=true):(b.set i true).getD j false=true:=by
 rw[Bn];split
 ·rfl
 ·exact h
theorem aa0{n:Int}{b:List Bool}{e:aO}{j:Nat}(h:b.getD j false=true):(kT n b e).getD j false=true:=by
 unfold kT;split
 ·exact XO h
 ·exact h
theorem N6{n:Int}:∀(l:List aO) {b:List Bool} {j:Nat},b.getD j false=true→(kG n l b).getD j false=true
 | [],_,_,h=>h
 |_::l,_,_,h=>N6 l (aa0 h)
theorem NP{n:Int}{l:List aO}:∀(k:Nat) {b:List Bool} {j:Nat},b.getD j false=true→(pG n l k b).getD j false=true
 | 0,_,_,h=>h
 |k+1,_,_,h=>NP k (N6 l h)
theorem WU{b:List Bool}{k:Nat}{z:Int}:z∈kf b k↔∃i:Nat,i<k∧b.getD i false=true∧z=i:=by
 unfold kf;rw[eW];constructor
 ·rintro⟨i,hi,rfl⟩;rw[jK,gP]at hi;exact⟨i,hi.1,hi.2,rfl⟩
 ·rintro⟨i,h1,h2,rfl⟩;exact⟨i,by rw[jK,gP];exact⟨h1,h2⟩,rfl⟩
theorem WJ{n:Nat}{l:List aO}{a:Nat}(h:a<n):(a:Int)∈uu n l [(a:Int)]:=by
 unfold uu;rw[WU];refine⟨a,by omega,?_,rfl⟩;unfold rP;refine NP _ ?_;show (kZ n (List.replicate ((n:Int)).toNat false) a).getD a false=true;unfold kZ;rw[if_pos (by omega),Int.toNat_natCast,Int.toNat_natCast,Bn,if_pos ⟨rfl,by simpa using h⟩]
theorem Zo{n:Nat}{l:List aO}{a:Nat}(h:a<n):ng n l a a=true:=um.2 (WJ h)
theorem I2{n:Nat}{l:List aO}{a z:Int}:z∈eI n l a↔∃i:Nat,i<n∧(ng n l a i&&ng n l i a)=true∧z=i:=by
 unfold eI lK;rw[eW,bD];constructor
 ·rintro⟨i,hi,rfl⟩;rw[jK,gP]at hi;exact⟨i,hi.1,hi.2,rfl⟩
 ·rintro⟨i,h1,h2,rfl⟩;exact⟨i,by rw[jK,gP];exact⟨h1,h2⟩,rfl⟩
theorem X2{n:Nat}{l:List aO}{a:Nat}(h:a<n):0<(eI n l a).length:=
 Ba (I2.2 ⟨a,h,by rw[Zo h];rfl,rfl⟩)
theorem abI{n:Nat}{l:List aO}{a z:Int}(h:z∈eI n l a):0≤z∧z<n:=by
 obtain⟨i,h1,-,rfl⟩:=I2.1 h;omega
theorem VP(n:Nat)(l:List aO)(a:Int):(eI n l a).length≤n:=by
 have:=NJ n l a ((n:Int)).toNat;rw[bD]at this;exact this
structure lD(n:Nat)(ps:List (List Int))(told:List Int):Prop where
 told:told=ps.flatten
 ne:∀p∈ps,0<p.length∧p.length≤n
 node:∀p∈ps,∀z∈p,0≤z∧z<n
 ahead:∀i,i<ps.length→(ps.take i).flatten.length<n
theorem lD.uH{n:Nat}{ps:List (List Int)}{told:List Int}(h:lD n ps told):told.length≤2*n:=by
 rw[h.told]
 rcases A4 ps with rfl | ⟨qs,q,rfl⟩
 ·simp
 ·rw[List.concat_eq_append];have h1:=h.ahead qs.length (by simp);have h2:=(h.ne q (by simp)).2;rw[List.concat_eq_append,List.take_left]at h1;rw[Ni,bB];simp only[xv,List.flatten_nil,fC];omega
theorem lD.Lc{n:Nat}{ps:List (List Int)}{told:List Int}(h:lD n ps told):ps.length≤2*n:=by
 refine dE ?_ h.uH;rw[h.told];have:=h.ne;clear h
 induction ps with
 |nil=>exact bg _
 |cons p ps ih=>
  have h1:=(this p (by simp)).1;have h2:=ih fun q hq=>this q (by simp[hq]);simp only[gH,xv,bB];omega
theorem lD.nil(n:Nat):lD n [] []:=⟨rfl,fun _ h=>(sC h).elim,fun _ h=>(sC h).elim,fun _ h=>(vH _ h).elim⟩
theorem lD.snoc{n:Nat}{ps:List (List Int)}{told p:List Int}(h:lD n ps told)(ht:told.length<n)(h1:0<p.length)(h2:p.length≤n)(h3:∀z∈p,0≤z∧z<n):lD n (ps++[p]) (told++p):=by
 refine⟨by rw[h.told,List.flatten_append];simp,fun q hq=>?_,fun q hq=>?_,fun i hi=>?_⟩
 ·rcases bQ.1 hq with hq | hq
  ·exact h.ne q hq
  ·rw[bj.1 hq];exact⟨h1,h2⟩
 ·rcases bQ.1 hq with hq | hq
  ·exact h.node q hq
  ·rw[bj.1 hq];exact h3
 ·rw[bB]at hi;rw[List.take_append]
  by_cases ab:i<ps.length
  ·rw[show i-ps.length=0 by omega,DY,fC];exact h.ahead i ab
  ·obtain rfl:i=ps.length:=by have:i<ps.length+1:=hi;omega
   rw[l7,DY,fC,er,← h.told];exact ht
def cD(ps:List (List Int)):List AV:=ps.map (.ae (.int .i64))
theorem ub:∀ps:List (List Int),cD ps=ps.flatMap (Sh.cells (.slice (.int .i64)))
 | []=>rfl
 |p::ps=>congrArg (AV.ae (.int .i64) p :: ·) (ub ps)
abbrev Eo:=List (List Int)×AV×Hp×List Int×AV×Hp
def G7(n:Nat)(s:Eo):Prop:=lD n s.1 s.2.2.2.1∧Acc 1 s.1.length s.2.1 s.2.2.1 (cD s.1)∧Acc 1 s.2.2.2.1.length s.2.2.2.2.1 s.2.2.2.2.2 (aj s.2.2.2.1)
abbrev LP(s:Eo)(σ:Hp):Hp:=s.2.2.1++(s.2.2.2.2.2++σ)
theorem J0{nx:List Int}(h:0<nx.length):nx[((0:Int)).toNat]?=some (nx.headD 0):=by
 cases nx with
 |nil=>simp at h
 |cons z nx=>rfl
theorem OV{R:AV→Hp→Prop}{r:AV}(a:Hp){σ:Hp}(h:Fin R r σ):Fin R r (a++σ):=.drop 0 a.length (by rw[DY,dD,List.drop_left];exact h)
theorem Wr{ps:List (List Int)}{i:Nat}(h:i<ps.length):(ps.take (i+1)).flatten.length=(ps.take i).flatten.length+ps[i].length:=by
 rw[List.take_add_one,bu h,Ni,bB];simp
end Go.Proofs.YtnikdflhefijbaaGreat
namespace Go.Proofs.YtnikdflhefijbaaGreat
open Go.Shelf
def VY:Go.Shelf.Ren:=⟨fun | 189=>312 | 125=>233 | 257=>338 | 128=>274 | 129=>275 | 294=>346 | 295=>347 | 296=>348 | 297=>349 | 298=>350 | 299=>351 | 216=>352 | 300=>353 | 301=>354 | 328=>360 | 329=>296 | 330=>297 | 331=>361 | 332=>362 | 215=>234 | 343=>365 | n=>n,fun | 28=>23 | 3=>3 | 46=>253 | 0=>0 | 51=>284 | 53=>56 | 4=>4 | 183=>308 | 182=>307 | 131=>312 | 5=>5 | 9=>9 | 218=>331 | 222=>335 | 228=>353 | 229=>50 | n=>n,fun | n=>n⟩
theorem JV:Go.Proofs.Lays.n189 Tryz.prog VY:= {
 mixed:=by kernel_rfl
 f125:=Tryz.func233.trans (congrArg some (by kernel_rfl))
 f128:=Tryz.func274.trans (congrArg some (by kernel_rfl))
 f129:=Tryz.func275.trans (congrArg some (by kernel_rfl))
 f189:=Tryz.func312.trans (congrArg some (by kernel_rfl))
 f215:=Tryz.func234.trans (congrArg some (by kernel_rfl))
 f216:=Tryz.func352.trans (congrArg some (by kernel_rfl))
 f257:=Tryz.func338.trans (congrArg some (by kernel_rfl))
 f294:=Tryz.func346.trans (congrArg some (by kernel_rfl))
 f295:=Tryz.func347.trans (congrArg some (by kernel_rfl))
 f296:=Tryz.func348.trans (congrArg some (by kernel_rfl))
 f297:=Tryz.func349.trans (congrArg some (by kernel_rfl))
 f298:=Tryz.func350.trans (congrArg some (by kernel_rfl))
 f299:=Tryz.func351.trans (congrArg some (by kernel_rfl))
 f300:=Tryz.func353.trans (congrArg some (by kernel_rfl))
 f301:=Tryz.func354.trans (congrArg some (by kernel_rfl))
 f328:=Tryz.func360.trans (congrArg some (by kernel_rfl))
 f329:=Tryz.func296.trans (congrArg some (by kernel_rfl))
 f330:=Tryz.func297.trans (congrArg some (by kernel_rfl))
 f331:=Tryz.func361.trans (congrArg some (by kernel_rfl))
 f332:=Tryz.func362.trans (congrArg some (by kernel_rfl))
 f343:=Tryz.func365.trans (congrArg some (by kernel_rfl))
 t0:=Tryz.underlying0
 a0:=Tryz.isAgg0
 z0:=Tryz.sizeOf0
 v0:=Tryz.zeroValue0
 t3:=Tryz.underlying3
 a3:=Tryz.isAgg3
 z3:=Tryz.sizeOf3
 v3:=Tryz.zeroValue3
 t4:=Tryz.underlying4
 a4:=Tryz.isAgg4
 z4:=Tryz.sizeOf4
 v4:=Tryz.zeroValue4
 t5:=Tryz.underlying5
 a5:=Tryz.isAgg5
 z5:=Tryz.sizeOf5
 v5:=Tryz.zeroValue5
 t9:=Tryz.underlying9
 a9:=Tryz.isAgg9
 z9:=Tryz.sizeOf9
 v9:=Tryz.zeroValue9
 t28:=Tryz.underlying23
 a28:=Tryz.isAgg23
 z28:=Tryz.sizeOf23
 v28:=Tryz.zeroValue23
 t46:=Tryz.underlying253
 a46:=Tryz.isAgg253
 z46:=Tryz.sizeOf253
 v46:=Tryz.zeroValue253
 t51:=Tryz.underlying284
 a51:=Tryz.isAgg284
 z51:=Tryz.sizeOf284
 v51:=Tryz.zeroValue284
 t53:=Tryz.underlying56
 a53:=Tryz.isAgg56
 z53:=Tryz.sizeOf56
 v53:=Tryz.zeroValue56
 t131:=Tryz.underlying312
 a131:=Tryz.isAgg312
 z131:=Tryz.sizeOf312
 v131:=Tryz.zeroValue312
 t182:=Tryz.underlying307
 a182:=Tryz.isAgg307
 z182:=Tryz.sizeOf307
 v182:=Tryz.zeroValue307
 t183:=Tryz.underlying308
 a183:=Tryz.isAgg308
 z183:=Tryz.sizeOf308
 v183:=Tryz.zeroValue308
 t218:=Tryz.underlying331
 a218:=Tryz.isAgg331
 z218:=Tryz.sizeOf331
 v218:=Tryz.zeroValue331
 t222:=Tryz.underlying335
 a222:=Tryz.isAgg335
 z222:=Tryz.sizeOf335
 v222:=Tryz.zeroValue335
 t228:=Tryz.underlying353
 a228:=Tryz.isAgg353
 z228:=Tryz.sizeOf353
 v228:=Tryz.zeroValue353
 t229:=Tryz.underlying50
 a229:=Tryz.isAgg50
 z229:=Tryz.sizeOf50
 v229:=Tryz.zeroValue50 }
def VX:Go.Shelf.Ren:=⟨fun | 20=>313 | n=>n,fun | 22=>23 | 3=>3 | 4=>4 | 0=>0 | n=>n,fun | n=>n⟩
theorem JU:Go.Proofs.Lays2.n20 Tryz.prog VX:= {
 mixed:=by kernel_rfl
 f20:=Tryz.func313.trans (congrArg some (by kernel_rfl))
 t0:=Tryz.underlying0
 a0:=Tryz.isAgg0
 z0:=Tryz.sizeOf0
 v0:=Tryz.zeroValue0
 t3:=Tryz.underlying3
 a3:=Tryz.isAgg3
 z3:=Tryz.sizeOf3
 v3:=Tryz.zeroValue3
 t4:=Tryz.underlying4
 a4:=Tryz.isAgg4
 z4:=Tryz.sizeOf4
 v4:=Tryz.zeroValue4
 t22:=Tryz.underlying23
 a22:=Tryz.isAgg23
 z22:=Tryz.sizeOf23
 v22:=Tryz.zeroValue23
 i3:=by kernel_rfl }
end Go.Proofs.YtnikdflhefijbaaGreat
