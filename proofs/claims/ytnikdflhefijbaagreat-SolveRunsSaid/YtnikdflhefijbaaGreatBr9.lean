import Derived.Test.YtnikdflhefijbaaGreatBr8
import Derived.Test.YtnikdflhefijbaaGreatBr6
import Derived.Shelf.Slices.CompactI
import Derived.Shelf.Slices.In.SortNone
import Derived.Shelf.Sort.Plain
import Derived.Test.YtnikdflhefijbaaGreatBr5
namespace Go.Proofs.YtnikdflhefijbaaGreat
open Go.RowKit
set_option maxRecDepth 100000
theorem aaU(l:List Int)(x:Int)(σ:Hp)(hl:l.length≤1000000):ACalls Tryz.prog 287 [.af (.int .i64) l,.int .i64 x] σ (fun r σ'=>∃n:Int,r=.int .i64 n∧σ'=σ∧decide (0≤n)=l.any fun z=>decide (x=z)):=by
 refine au Tryz.func287 ?_
 refine bh (S:=Nat) (fun s=>[(0,.af (.int .i64) l),(1,.int .i64 x),(7,.int .i64 l.length),(8,.int .i64 s)]) (fun _=>σ) (fun s=>s≤l.length∧((l.take s).any fun z=>decide (x=z))=false) (fun s=>l.length-s) 0 ⟨⟨aY _,rfl⟩,⟨rfl,rfl,rfl,rfl,trivial⟩,rfl⟩ ?_
 rintro k t ⟨aO,fF⟩
 have hk:k≤l.length:=aO
 have hn:((l.take k).any fun z=>decide (x=z))=false:=fF
 clear aO fF
 refine aj (fun ab=>?_) (fun aq=>?_)
 ·have ab:k<l.length:=by have ab:(k:Int)<l.length:=ab;omega
  have hs:=mQ ab fun z=>decide (x=z)
  rw[hn,mj]at hs
  refine aw.mk rfl (aX.mk l[k] (by omega) (get_some ab) ?_)
  refine aj (fun c=>?_) (fun c=>?_)
  ·have c:x=l[k]:=c
   have hp:(l.any fun z=>decide (x=z))=true:=kv.2 ⟨l[k],cq ab,bj c⟩
   exact .done ⟨_,rfl,rfl,by rw[hp];exact bj (by omega)⟩
  ·have c:¬x=l[k]:=c
   exact aM (k+1) (by show l.length-(k+1)<l.length-k;omega) ⟨ab,hs.trans (cy c)⟩ ⟨rfl,rfl,rfl,aL (by omega),trivial⟩ (.refl _)
 ·have aq:k=l.length:=by have aq:¬(k:Int)<l.length:=aq;omega
  subst aq
  rw[dW]at hn
  exact .done ⟨_,rfl,rfl,by rw[hn];rfl⟩
theorem VL(l:List Int)(x:Int)(σ:Hp)(hl:l.length≤1000000):ACalls Tryz.prog 255 [.af (.int .i64) l,.int .i64 x] σ (aD (.bool (l.any fun z=>decide (x=z))) σ):=by
 refine au Tryz.func255 ?_
 refine .mk [] _ (aaU l x _ hl) ?_
 rintro _ _ ⟨n,rfl,rfl,hn⟩
 rw[← hn]
 refine aj (fun c=>?_) (fun c=>?_)
 ·have c:0≤n:=c
  rw[bj c]
  exact .done ⟨rfl,rfl⟩
 ·have c:¬0≤n:=c
  rw[cy c]
  exact .done ⟨rfl,rfl⟩
theorem aaY(l:List Int)(σ:Hp)(hl:l.length≤1000000):ACalls Tryz.prog 256 [.af (.int .u64) l] σ (aD (.af (.int .u64) l) σ):=by
 refine (QR l σ hl).fin ?_
 rintro v σ' ⟨acc,bS,rfl⟩
 exact kZ (s:=.int .u64) [] bS rfl (jK l) (by decide) (.done ⟨rfl,rfl⟩)
def gx(s:Sy)(v:Int):List Int:=if (s.entry.any fun z=>decide (v=z))=true then s.init else kP s.ai s.w
theorem abQ(s:Sy)(v:Int)(σ:Hp)(hf:Fit s):ACalls Tryz.prog 212 [.agg (a7 s),.int .i64 v] σ (aD (.af (.int .u64) (gx s v)) σ):=by
 refine au Tryz.func212 ?_
 intro aB
 refine aa 0 ?_
 refine dr [] (VL s.entry v _ (ey hf.vQ (by decide))) (fun c=>?_) (fun c=>?_)
 ·refine aa 0 ?_
  refine ar [] (aaY s.init _ (ey hf.Cc (by decide))) ?_
  exact .drop 0 1 (.done ⟨by unfold gx;rw[c];rfl,rfl⟩)
 ·refine aa 0 ?_
  refine aa 0 ?_
  refine ar [] (Iy _ _ _) ?_
  exact .drop 0 1 (.done ⟨by unfold gx;rw[c];rfl,rfl⟩)
def J4(a:List (List Int)):Prop:=a.length≤100000∧∀x∈a,bX x∧x.length≤10000
structure Good(s:Sy):Prop where
 uv:dp s.ai s.w=true
 n1:1≤s.n
 n2:s.n≤256
 el:s.cI.length≤1024
 Kq:∀e∈s.cI,(0≤e.1∧e.1<s.n)∧0≤e.2.1∧e.2.1<s.n
 tl:(s.T.length:Int)=s.n
 Mc:∀v∈s.entry,0≤v∧v<s.n
 ini:fO s.ai s.w s.init=true
 Gg:∀t∈s.T,fA s.ai s.w t.1 t.2.1 t.2.2.1=0
theorem kB{n a:Int}:cD n a=true↔0≤a∧a<n:=by unfold cD;simp
theorem IQ{s:Sy}(h:eG s=0):Good s:=by
 unfold eG at h
 split at h
 ·rename_i h1
  split at h
  ·rename_i h2
   split at h
   ·cases h
   ·rename_i h3
    split at h
    ·rename_i h4
     split at h
     ·cases h
     ·rename_i h5
      have h3:(s.entry.any fun v=> !cD s.n v)=false:=by simpa using h3
      have h5:(s.T.any fun t=> !decide (fA s.ai s.w t.1 t.2.1 t.2.2.1=0))=false:=by simpa using h5
      have hr:=h2.1
      unfold ek at hr
      simp only[b9,decide_eq_true_eq]at hr
      refine⟨h1,hr.1.1.1,hr.1.1.2,hr.1.2,fun e he=>?_,h2.2,fun v hv=>?_,h4,fun t ht=>?_⟩
      ·have:=fN.1 hr.2 e he
       rw[b9,kB,kB]at this
       exact this
      ·have:=Ap.1 h3 v hv
       exact kB.1 (by simpa using this)
      ·have:=Ap.1 h5 t ht
       simpa using this
    ·cases h
  ·cases h
 ·cases h
theorem On{s:Sy}(h:Good s):eG s=0:=by
 refine (Ft h.uv ⟨?_,h.tl⟩ (Ap.2 fun v hv=>?_) h.ini (Ap.2 fun t ht=>?_)).symm
 ·unfold ek
  simp only[b9,decide_eq_true_eq]
  refine⟨⟨⟨h.n1,h.n2⟩,h.el⟩,fN.2 fun e he=>?_⟩
  rw[b9,kB,kB];exact h.Kq e he
 ·rw[kB.2 (h.Mc v hv)];decide
 ·rw[h.Gg t ht];decide
def kJ(s:Sy)(x:List Int)(v:Nat):List Int:=oJ s.ai (s.T.getD v ([],[],[],())).1 (s.T.getD v ([],[],[],())).2.1 (s.T.getD v ([],[],[],())).2.2.1 x
theorem NQ{ai w:Int}{x:List Int}(h:fO ai w x=true):x.length≤1024:=by
 have h1:=EA h
 have:=xf ai w;omega
theorem JT{s:Sy}(hg:Good s){v:Nat}(h:(v:Int)<s.n):∃h2:v<s.T.length,s.T.getD v ([],[],[],())=s.T[v]:=by
 have h2:v<s.T.length:=by have:=hg.tl;omega
 exact⟨h2,by rw[bO,bN h2];rfl⟩
theorem ZI{s:Sy}(hf:Fit s)(hg:Good s){x:List Int}(jV:bX x)(hv:fO s.ai s.w x=true){v:Nat}(h:(v:Int)<s.n):fO s.ai s.w (kJ s x v)=true∧bX (kJ s x v):=by
 obtain⟨h2,e⟩:=JT hg h
 unfold kJ
 rw[e]
 have ho:=hf.ts _ (cq h2)
 exact⟨W2 ho.1 ho.2.1 jV (hg.Gg _ (cq h2)) hv,W3 jV⟩
theorem HN{s:Sy}(hf:Fit s)(hg:Good s)(v:Int):fO s.ai s.w (gx s v)=true∧bX (gx s v):=by
 unfold gx;split
 ·exact⟨hg.ini,hf.i64⟩
 ·exact⟨QE hg.uv,Rw _ _⟩
theorem pz{i:TI}(hs:i.size=1){cs:List AV}{o:Nat}{v:AV}(hv:v.cells?=some [v])(ho:o<cs.length):kC i cs o v=some (cs.set o v):=by
 unfold kC
 rw[hv]
 simp only
 have e1:Nat.beq ([v]:List AV).length i.size=true:=by rw[hs];rfl
 have e2:Nat.ble (o+i.size) cs.length=true:=Ma (by omega)
 rw[e1,e2]
 rfl
theorem gy{i:TI}(hw:i.wide=false){cs:List AV}{o:Nat}{v:AV}(h:cs[o]?=some v):eF i cs o=some v:=by unfold eF;rw[hw];exact h
def bK(b:List Bool):List AV:=b.map .bool
theorem aa9{b:List Bool}{k:Nat}(h:k<b.length){z:Int}(hz:z=k):(bK b)[0+z.toNat*1]?=some (.bool (b.getD k false)):=by
 subst hz
 rw[bR,dB,dU]
 unfold bK
 rw[fm,bN h,bO,bN h];rfl
theorem aa7(b:List Bool)(k:Nat)(x:Bool){z:Int}(hz:z=k):(bK b).set (0+z.toNat*1) (.bool x)=bK (b.set k x):=by
 subst hz
 rw[bR,dB,dU]
 unfold bK
 rw[s8]
theorem yU(n:Nat):cN [.bool false] n=bK (List.replicate n false):=by
 induction n with
 |zero=>rfl
 |succ n ih=>show AV.bool false::cN [.bool false] n=_;rw[ih];rfl
def lj(n:Int)(b:List Bool)(a:Int):List Bool:=if 0≤a∧a<n then b.set a.toNat true else b
def kV(n:Int)(b:List Bool)(e:aT):List Bool:=if (0≤e.1∧e.1<n)∧(0≤e.2.1∧e.2.1<n)∧b.getD e.1.toNat false=true then b.set e.2.1.toNat true else b
def kE(n:Int)(l:List aT)(b:List Bool):List Bool:=l.foldl (kV n) b
def px(n:Int)(l:List aT):Nat→List Bool→List Bool
 | 0,b=>b
 |k+1,b=>px n l k (kE n l b)
def kg(b:List Bool)(k:Nat):List Int:=((List.range k).filter fun i=>b.getD i false).map fun i:Nat=>(i:Int)
def rf(n:Int)(l:List aT)(fr:List Int):List Bool:=px n l n.toNat (fr.foldl (lj n) (List.replicate n.toNat false))
def tG(n:Int)(l:List aT)(fr:List Int):List Int:=kg (rf n l fr) n.toNat
theorem ME(n:Int)(b:List Bool)(a:Int):(lj n b a).length=b.length:=by unfold lj;split;exact dV;rfl
theorem Nt(n:Int)(b:List Bool)(e:aT):(kV n b e).length=b.length:=by unfold kV;split;exact dV;rfl
theorem drop_cons{α:Type}{l:List α}{k:Nat}(h:k<l.length):l.drop k=l[k]::l.drop (k+1):=yu h
theorem Vi(b:List Bool)(k:Nat):kg b (k+1)=kg b k++(if b.getD k false=true then [(k:Int)] else []):=by
 unfold kg
 rw[qe,uU,cC]
 congr 1
 by_cases h:b.getD k false=true
 ·rw[az h,G3 (p:=fun i=>b.getD i false) h];rfl
 ·rw[aA h,G9 (p:=fun i=>b.getD i false) h];rfl
theorem Pr{n:Int}{b:List Bool}{a:Int}(h:¬(0≤a∧a<n)):lj n b a=b:=aA h
theorem aa8(b:List Bool):(bK b).length=b.length:=cm _
theorem rounds_succ(n:Int)(l:List aT)(k:Nat)(b:List Bool):px n l (k+1) b=px n l k (kE n l b):=rfl
theorem Z8{n:Int}{b:List Bool}{e:aT}(h1:0≤e.1∧e.1<n)(h2:0≤e.2.1∧e.2.1<n)(h3:b.getD e.1.toNat false=true):kV n b e=b.set e.2.1.toNat true:=az ⟨h1,h2,h3⟩
theorem abC{n:Int}{b:List Bool}{e:aT}(h:¬((0≤e.1∧e.1<n)∧(0≤e.2.1∧e.2.1<n)∧b.getD e.1.toNat false=true)):kV n b e=b:=aA h
theorem ti{i:TI}(hs:i.size=1){b:List Bool}(x:Bool){a:Int}(h1:0≤a)(h2:a<b.length):kC i (bK b) (0+a.toNat*1) (.bool x)=some (bK (b.set a.toNat x)):=by
 rw[pz hs rfl (by rw[aa8];omega),aa7 b a.toNat x (by omega)]
theorem qo{i:TI}(hw:i.wide=false){b:List Bool}{a:Int}(h1:0≤a)(h2:a<b.length):eF i (bK b) (0+a.toNat*1)=some (.bool (b.getD a.toNat false)):=gy hw (aa9 (by omega) (by omega))
theorem Xg(n:Nat)(l:List aT)(fr:List Int)(σ:Hp)(hl:l.length≤100000)(hn:n≤100000)(hf:fr.length≤100000):ACalls Tryz.prog 305 [.int .i64 n,.af cb l,.af (.int .i64) fr] σ (aD (.af (.int .i64) (tG n l fr)) σ):=by
 refine au Tryz.func305 ?_
 refine bg ?_
 intro bq
 refine bh (S:=Nat×List Bool) (fun s=>[(0,.int .i64 n),(1,.af cb l),(7,.ah bq 0 n 1),(17,.af (.int .i64) fr),(18,.int .i64 fr.length),(19,.int .i64 s.1)]) (fun s=>(bq,bK s.2)::σ) (fun s=>s.1≤fr.length∧s.2.length=n∧(fr.drop s.1).foldl (lj n) s.2=fr.foldl (lj n) (List.replicate n false)) (fun s=>fr.length-s.1) (0,List.replicate n false) ⟨⟨Nat.zero_le _,by simp,rfl⟩,⟨rfl,rfl,rfl,rfl,rfl,rfl,trivial⟩,by show _=(bq,bK (List.replicate n false))::σ;rw[← yU];rfl⟩ ?_
 rintro⟨k,b⟩ g ⟨aO,sY,gp⟩
 have hk:k≤fr.length:=aO
 have hb:b.length=n:=sY
 have ha:(fr.drop k).foldl (lj n) b=fr.foldl (lj n) (List.replicate n false):=gp
 clear aO sY gp
 refine aj (p:=(k:Int)<(fr.length:Int)) (fun ab=>?_) (fun aq=>?_)
 ·have ab:k<fr.length:=by omega
  obtain⟨a,hfa⟩:∃a,fr[k]=a:=⟨_,rfl⟩
  rw[drop_cons ab,hfa,An]at ha
  refine aw.mk rfl (aX.mk a (by omega) ((get_some ab).trans (congrArg some hfa)) ?_)
  refine aj (fun c1=>?_) (fun c1=>?_)
  ·have c1:0≤a:=c1
   refine aj (fun c2=>?_) (fun c2=>?_)
   ·have c2:a<(↑n:Int):=c2
    refine aQ ?_
    have hm:lj n b a=b.set a.toNat true:=az ⟨c1,c2⟩
    refine cu 0 rfl (ti (b:=b) rfl true c1 (by omega)) ?_
    exact aM (k+1,b.set a.toNat true) (by show fr.length-(k+1)<fr.length-k;omega) ⟨ab,by rw[dV];exact hb,by rw[← hm];exact ha⟩ ⟨rfl,rfl,rfl,rfl,rfl,aL (by omega),trivial⟩ (.refl _)
   ·have c2:¬(a<(↑n:Int)):=c2
    have hm:lj n b a=b:=Pr (by omega)
    exact aM (k+1,b) (by show fr.length-(k+1)<fr.length-k;omega) ⟨ab,hb,by rw[hm]at ha;exact ha⟩ ⟨rfl,rfl,rfl,rfl,rfl,aL (by omega),trivial⟩ (.refl _)
  ·have c1:¬(0≤a):=c1
   have hm:lj n b a=b:=Pr (by omega)
   exact aM (k+1,b) (by show fr.length-(k+1)<fr.length-k;omega) ⟨ab,hb,by rw[hm]at ha;exact ha⟩ ⟨rfl,rfl,rfl,rfl,rfl,aL (by omega),trivial⟩ (.refl _)
 ·have aq:k=fr.length:=by omega
  subst aq
  rw[GL]at ha
  have nr:b=fr.foldl (lj n) (List.replicate n false):=ha
  clear ha
  refine bh (S:=Nat×List Bool) (fun s=>[(0,.int .i64 n),(1,.af cb l),(7,.ah bq 0 n 1),(10,.int .i64 s.1)]) (fun s=>(bq,bK s.2)::σ) (fun s=>s.1≤n∧s.2.length=n∧px n l (n-s.1) s.2=rf n l fr) (fun s=>n-s.1) (0,b) ⟨⟨aY _,hb,by unfold rf;rw[bR,← nr];rfl⟩,⟨rfl,rfl,rfl,rfl,trivial⟩,rfl⟩ ?_
  clear nr hb b
  rintro⟨k,b⟩ g ⟨aO,sY,gp⟩
  have hk:k≤n:=aO
  have hb:b.length=n:=sY
  have ha:px n l (n-k) b=rf n l fr:=gp
  clear aO sY gp
  refine aj (p:=(k:Int)<(n:Int)) (fun ab=>?_) (fun aq=>?_)
  ·have ab:k<n:=by omega
   rw[show n-k=(n-(k+1))+1 by omega,rounds_succ]at ha
   refine bh (S:=Nat×List Bool) (fun s=>[(0,.int .i64 n),(1,.af cb l),(7,.ah bq 0 n 1),(10,.int .i64 k),(39,.af cb l),(40,.int .i64 l.length),(41,.int .i64 s.1)]) (fun s=>(bq,bK s.2)::σ) (fun s=>s.1≤l.length∧s.2.length=n∧(l.drop s.1).foldl (kV n) s.2=kE n l b) (fun s=>l.length-s.1) (0,b) ⟨⟨aY _,hb,rfl⟩,⟨rfl,rfl,rfl,rfl,rfl,rfl,rfl,trivial⟩,rfl⟩ ?_
   rintro⟨j,c⟩ g2 ⟨jk,sX,hd0⟩
   have hj:j≤l.length:=jk
   have hc:c.length=n:=sX
   have hd:(l.drop j).foldl (kV n) c=kE n l b:=hd0
   clear jk sX hd0
   refine aj (p:=(j:Int)<(l.length:Int)) (fun db=>?_) (fun jx=>?_)
   ·have db:j<l.length:=by omega
    obtain⟨e,hle⟩:∃e:aT,l[j]=e:=⟨_,rfl⟩
    rw[drop_cons db,hle,An]at hd
    refine aw.mk rfl (aX.mk e (by omega) ((get_some db).trans (congrArg some hle)) ?_)
    have og:¬((0≤e.1∧e.1<n)∧(0≤e.2.1∧e.2.1<n)∧c.getD e.1.toNat false=true)→(l.drop (j+1)).foldl (kV n) c=kE n l b:=fun h=>by rw[abC h]at hd;exact hd
    have cz:¬((0≤e.1∧e.1<n)∧(0≤e.2.1∧e.2.1<n)∧c.getD e.1.toNat false=true)→(j+1≤l.length∧c.length=n∧(l.drop (j+1)).foldl (kV n) c=kE n l b):=fun h=>⟨db,hc,og h⟩
    intro aB
    refine ag 0 ?_
    refine aa 0 ?_
    refine aj (p:=0≤e.1) (fun c1=>?_) (fun c1=>?_)
    rotate_left
    ·exact aM (j+1,c) (by show l.length-(j+1)<l.length-j;omega) (cz (by omega)) ⟨rfl,rfl,rfl,rfl,rfl,rfl,aL (by omega),trivial⟩ (.drop 0 1 (.refl _))
    refine aa 0 ?_
    refine aj (p:=e.1<(n:Int)) (fun c2=>?_) (fun c2=>?_)
    rotate_left
    ·exact aM (j+1,c) (by show l.length-(j+1)<l.length-j;omega) (cz (by omega)) ⟨rfl,rfl,rfl,rfl,rfl,rfl,aL (by omega),trivial⟩ (.drop 0 1 (.refl _))
    refine aa 0 ?_
    refine aj (p:=0≤e.2.1) (fun c3=>?_) (fun c3=>?_)
    rotate_left
    ·exact aM (j+1,c) (by show l.length-(j+1)<l.length-j;omega) (cz (by omega)) ⟨rfl,rfl,rfl,rfl,rfl,rfl,aL (by omega),trivial⟩ (.drop 0 1 (.refl _))
    refine aa 0 ?_
    refine aj (p:=e.2.1<(n:Int)) (fun c4=>?_) (fun c4=>?_)
    rotate_left
    ·exact aM (j+1,c) (by show l.length-(j+1)<l.length-j;omega) (cz (by omega)) ⟨rfl,rfl,rfl,rfl,rfl,rfl,aL (by omega),trivial⟩ (.drop 0 1 (.refl _))
    refine aa 0 ?_
    refine aQ ?_
    refine eH.ij 1 _ _ rfl (qo (b:=c) rfl c1 (by omega)) (fun c5=>?_) (fun c5=>?_)
    ·refine aa 0 ?_
     refine aQ ?_
     refine cu 1 rfl (ti (b:=c) rfl true c3 (by omega)) ?_
     rw[Z8 ⟨c1,c2⟩ ⟨c3,c4⟩ c5]at hd
     exact aM (j+1,c.set e.2.1.toNat true) (by show l.length-(j+1)<l.length-j;omega) ⟨db,by rw[dV];exact hc,hd⟩ ⟨rfl,rfl,rfl,rfl,rfl,rfl,aL (by omega),trivial⟩ (.drop 0 1 (.refl _))
    ·exact aM (j+1,c) (by show l.length-(j+1)<l.length-j;omega) (cz (by rw[c5];simp)) ⟨rfl,rfl,rfl,rfl,rfl,rfl,aL (by omega),trivial⟩ (.drop 0 1 (.refl _))
   ·have jx:j=l.length:=by omega
    subst jx
    rw[GL]at hd
    have hd:c=kE n l b:=hd
    exact aM (k+1,c) (by show n-(k+1)<n-k;omega) ⟨ab,hc,by show px n l (n-(k+1)) c=_;rw[hd];exact ha⟩ ⟨rfl,rfl,rfl,aL (by omega),trivial⟩ (.refl _)
  ·have aq:k=n:=by omega
   subst aq
   rw[nt]at ha
   have ha:b=rf k l fr:=ha
   have eu:∀j,(kg b j).length≤j:=fun j=>by unfold kg;rw[List.length_map];exact Nat.le_trans (List.length_filter_le _ _) (by simp)
   refine .wrap 13 _ rfl rfl ?_
   refine bh (S:=Nat×AV×Hp) (fun s=>[(0,.int .i64 k),(7,.ah bq 0 k 1),(13,.via s.2.1),(14,.int .i64 s.1)]) (fun s=>(bq,bK b)::(s.2.2++σ)) (fun s=>s.1≤k∧Acc 1 (kg b s.1).length s.2.1 s.2.2 (an (kg b s.1))) (fun s=>k-s.1) (0,.ak,[]) ⟨⟨aY _,.nil⟩,⟨rfl,rfl,rfl,rfl,trivial⟩,rfl⟩ ?_
   rintro⟨j,v,acc⟩ g2 ⟨jk,gQ⟩
   have hj:j≤k:=jk
   have bS:Acc 1 (kg b j).length v acc (an (kg b j)):=gQ
   clear jk gQ
   have vL:=Vi b j
   refine aj (p:=(j:Int)<(k:Int)) (fun ab=>?_) (fun aq=>?_)
   ·have ab:j<k:=by omega
    refine aQ ?_
    refine eH.ij 0 _ _ rfl (qo rfl (by omega) (by omega)) (fun c5=>?_) (fun c5=>?_)
    ·rw[bR]at c5
     rw[c5,az rfl]at vL
     intro aB
     refine eU [_,_] bS (.ah 0 aB 0 1 _ rfl (cp rfl)) rfl (by have:=eu j;omega) (by decide) (by decide) (fun v' aU h'=>?_)
     refine aM (j+1,v',aU) (by show k-(j+1)<k-j;omega) ⟨ab,?_⟩ ⟨rfl,rfl,rfl,aL (by omega),trivial⟩ (.drop 0 1 (aN rfl))
     show Acc 1 (kg b (j+1)).length v' aU (an (kg b (j+1)))
     rw[vL,bG,an,cC]
     exact h'
    ·rw[bR]at c5
     rw[c5,aA LM,gg]at vL
     exact aM (j+1,v,acc) (by show k-(j+1)<k-j;omega) ⟨ab,by show Acc 1 (kg b (j+1)).length v acc (an (kg b (j+1)));rw[vL];exact bS⟩ ⟨rfl,rfl,rfl,aL (by omega),trivial⟩ (.refl _)
   ·have aq:j=k:=by omega
    subst aq
    exact kZ (s:=.int .i64) [_] bS rfl (ir _) (by decide) (.drop 0 1 (.done ⟨by rw[show kg b j=tG j l fr by unfold tG;rw[← ha,bR]],rfl⟩))
def iL(l:List Int)(x:Int):Bool:=l.any fun z=>decide (x=z)
theorem tC{l:List Int}{x:Int}:iL l x=true↔x∈l:=by unfold iL;simp
theorem abx{l:List Int}{k:Nat}(h:k<l.length){z:Int}(hz:z=k):(an l)[0+z.toNat*1]?=some (.int .i64 (l.getD k 0)):=by
 subst hz
 rw[bR,dB,dU]
 unfold an
 rw[fm,bN h,bO,bN h];rfl
theorem q9(l:List Int):(an l).length=l.length:=cm _
theorem X9{l:List Int}{x:Int}{k:Nat}(h:k<l.length):iL (l.take (k+1)) x=(iL (l.take k) x||decide (x=l.getD k 0)):=by
 unfold iL
 rw[mQ h,bO,bN h];rfl
theorem Fz{v:AV}{acc:Hp}(l:List Int)(x:Int)(σ:Hp)(hl:l.length≤1000000)(h:Acc 1 l.length v acc (an l)):ACalls Tryz.prog 144 [v,.int .i64 x] (acc++σ) (aD (.bool (iL l x)) (acc++σ)):=by
 generalize hn:l.length=n at h
 generalize hc:an l=cs at h
 cases h with
 |nil=>
  obtain rfl:=jm.1 hn
  exact HK (cc (.nil _) (cc (.refl _) qp)) (Kz [] x _ (by decide))
 |ah b k cs h=>
  subst hn
  subst hc
  refine au Tryz.func144 ?_
  refine bh (S:=Nat) (fun k=>[(1,.int .i64 x),(7,.ah b 0 l.length 1),(8,.int .i64 l.length),(9,.int .i64 k)]) (fun _=>(b,an l)::σ) (fun k=>k≤l.length∧iL (l.take k) x=false) (fun k=>l.length-k) 0 ⟨⟨aY _,rfl⟩,⟨rfl,rfl,rfl,rfl,trivial⟩,rfl⟩ ?_
  rintro k g ⟨aO,gp⟩
  have hk:k≤l.length:=aO
  have ha:iL (l.take k) x=false:=gp
  clear aO gp
  refine aj (p:=(k:Int)<(l.length:Int)) (fun ab=>?_) (fun aq=>?_)
  ·have ab:k<l.length:=by omega
   have hs:=X9 (x:=x) ab
   rw[ha,mj]at hs
   refine aQ ?_
   refine aW 0 rfl (gy rfl (abx ab rfl)) ?_
   refine aj (p:=l.getD k 0=x) (fun d1=>?_) (fun d1=>?_)
   ·refine .done ⟨cd (tC.2 ?_).symm,rfl⟩
    rw[← d1,bO,bN ab];exact cq ab
   ·exact aM (k+1) (by show l.length-(k+1)<l.length-k;omega) ⟨ab,hs.trans (cy fun h=>d1 h.symm)⟩ ⟨rfl,rfl,rfl,aL (by omega),trivial⟩ (.refl _)
  ·have aq:k=l.length:=by omega
   subst aq
   rw[dW]at ha
   exact .done ⟨cd ha.symm,rfl⟩
theorem abI{P:Program}{f:FuncId}{xs:List AV}{σ:Hp}{K:AV→Hp→Prop}(fr:Hp){acc:Hp}{x:AV}(h:∀σ,ACalls P f xs (acc++σ) (aD x (acc++σ)))(k:K x (fr++(acc++σ))):CallAt P f K xs (fr++(acc++σ)):=
 .perm _ (vu fr acc σ) (h (fr++σ)) fun _ _ ⟨h1,h2⟩=>⟨_,(vu fr acc σ).symm.trans (h2▸.refl _),h1▸k⟩
theorem BB{P:Program}{f:FuncId}{xs:List AV}{σ:Hp}{K:AV→Hp→Prop}(fr:Hp){acc:Hp}{b:Bool}(h:∀σ,ACalls P f xs (acc++σ) (aD (.bool b) (acc++σ)))(k1:b=true→K (.bool true) (fr++(acc++σ)))(k2:b=false→K (.bool false) (fr++(acc++σ))):CallAt P f K xs (fr++(acc++σ)):=
 abI fr h (by cases b;exact k2 rfl;exact k1 rfl)
theorem JQ(l:List Int)(x:Int)(σ:Hp)(hl:l.length≤1000000):ACalls Tryz.prog 144 [.af (.int .i64) l,.int .i64 x] σ (aD (.bool (iL l x)) σ):=Kz l x σ hl
def nh(n:Int)(l:List aT)(a b:Int):Bool:=iL (tG n l [a]) b
theorem TP(b:List Bool)(k:Nat):(kg b k).length≤k:=by unfold kg;rw[List.length_map];exact Nat.le_trans (List.length_filter_le _ _) (by simp)
theorem Tx(n:Nat)(l:List aT)(fr:List Int):(tG n l fr).length≤n:=by
 have:=TP (rf n l fr) ((n:Int)).toNat
 rw[bR]at this
 exact this
theorem Td(n:Nat)(l:List aT)(a b:Int)(σ:Hp)(hl:l.length≤100000)(hn:n≤100000):ACalls Tryz.prog 281 [.int .i64 n,.af cb l,.int .i64 a,.int .i64 b] σ (aD (.bool (nh n l a b)) σ):=by
 refine au Tryz.func281 ?_
 intro aB
 refine .cH (args':=[.int .i64 n,.af cb l,.af (.int .i64) [a]]) 0 aB 0 1 1 _ (.int .i64) [a] rfl rfl ⟨rfl,rfl,by decide⟩ (cc (.refl _) (cc (.refl _) (cc .here qp))) (ar [] (Xg n l [a] _ hl hn (by show 1≤100000;omega)) ?_)
 refine ar [] (JQ _ _ _ (by have:=Tx n l [a];omega)) ?_
 exact .done ⟨rfl,rfl⟩
def lR(n:Int)(l:List aT)(a:Int)(k:Nat):List Int:=((List.range k).filter fun b:Nat=>nh n l a b&&nh n l b a).map fun i:Nat=>(i:Int)
def eJ(n:Int)(l:List aT)(a:Int):List Int:=lR n l a n.toNat
theorem Um(n:Int)(l:List aT)(a:Int)(k:Nat):lR n l a (k+1)=lR n l a k++(if (nh n l a k&&nh n l k a)=true then [(k:Int)] else []):=by
 unfold lR
 rw[qe,uU,cC]
 congr 1
 by_cases h:(nh n l a k&&nh n l k a)=true
 ·rw[az h,G3 (p:=fun b:Nat=>nh n l a b&&nh n l b a) h];rfl
 ·rw[aA h,G9 (p:=fun b:Nat=>nh n l a b&&nh n l b a) h];rfl
theorem Mw(n:Int)(l:List aT)(a:Int)(k:Nat):(lR n l a k).length≤k:=by unfold lR;rw[List.length_map];exact Nat.le_trans (List.length_filter_le _ _) (by simp)
theorem abZ(n:Nat)(l:List aT)(a:Int)(σ:Hp)(hl:l.length≤100000)(hn:n≤100000):ACalls Tryz.prog 246 [.int .i64 n,.af cb l,.int .i64 a] σ (aD (.af (.int .i64) (eJ n l a)) σ):=by
 refine au Tryz.func246 ?_
 refine .wrap 7 _ rfl rfl ?_
 refine bh (S:=Nat×AV×Hp) (fun s=>[(0,.int .i64 n),(1,.af cb l),(2,.int .i64 a),(7,.via s.2.1),(8,.int .i64 s.1)]) (fun s=>s.2.2++σ) (fun s=>s.1≤n∧Acc 1 (lR n l a s.1).length s.2.1 s.2.2 (an (lR n l a s.1))) (fun s=>n-s.1) (0,.ak,[]) ⟨⟨aY _,.nil⟩,⟨rfl,rfl,rfl,rfl,rfl,trivial⟩,rfl⟩ ?_
 rintro⟨k,v,acc⟩ g ⟨aO,gQ⟩
 have hk:k≤n:=aO
 have bS:Acc 1 (lR n l a k).length v acc (an (lR n l a k)):=gQ
 clear aO gQ
 have eu:=Mw n l a k
 have hs:=Um n l a k
 refine aj (p:=(k:Int)<n) (fun ab=>?_) (fun aq=>?_)
 rotate_left
 ·have aq:k=n:=by omega
  subst aq
  exact kZ (s:=.int .i64) [] bS rfl (ir _) (by decide) (.done ⟨by unfold eJ;rw[bR],rfl⟩)
 have ab:k<n:=by omega
 refine dr [] (Td n l a k _ hl hn) (fun c1=>?_) (fun c1=>?_)
 ·refine dr [] (Td n l k a _ hl hn) (fun c2=>?_) (fun c2=>?_)
  ·rw[c1,c2,az (by rfl)]at hs
   intro cE
   refine eU [_] bS (.ah 0 cE 0 1 _ rfl (cp rfl)) rfl (by omega) (by decide) (by decide) (fun v' aU h'=>?_)
   refine aM (k+1,v',aU) (by show n-(k+1)<n-k;omega) ⟨ab,?_⟩ ⟨rfl,rfl,rfl,rfl,aL (by omega),trivial⟩ (.drop 0 1 (aN rfl))
   show Acc 1 (lR n l a (k+1)).length v' aU (an (lR n l a (k+1)))
   rw[hs,bG,an,cC]
   exact h'
  ·rw[c2,Dp,aA (by decide),gg]at hs
   exact aM (k+1,v,acc) (by show n-(k+1)<n-k;omega) ⟨ab,by show Acc 1 (lR n l a (k+1)).length v acc (an (lR n l a (k+1)));rw[hs];exact bS⟩ ⟨rfl,rfl,rfl,rfl,aL (by omega),trivial⟩ (.refl _)
 ·rw[c1,Am,aA (by decide),gg]at hs
  exact aM (k+1,v,acc) (by show n-(k+1)<n-k;omega) ⟨ab,by show Acc 1 (lR n l a (k+1)).length v acc (an (lR n l a (k+1)));rw[hs];exact bS⟩ ⟨rfl,rfl,rfl,rfl,aL (by omega),trivial⟩ (.refl _)
theorem W6{e k:Nat}{v:AV}{acc:Hp}{cs:List AV}(h:Acc e k v acc cs):v.leaf=true:=by cases h <;> rfl
def qy(l:List aT)(part told:List Int):Bool:=l.all fun e=> !(iL part e.2.1&&!iL part e.1&&!iL told e.1)
theorem ac7(l:List aT)(part told:List Int){v:AV}{acc:Hp}(σ:Hp)(hl:l.length≤100000)(hp:part.length≤1000000)(ht:told.length≤1000000)(h:Acc 1 told.length v acc (an told)):ACalls Tryz.prog 247 [.af cb l,.af (.int .i64) part,v] (acc++σ) (aD (.bool (qy l part told)) (acc++σ)):=by
 refine au Tryz.func247 ?_
 refine .wrap 2 v rfl (W6 h) ?_
 refine bh (S:=Nat) (fun k=>[(1,.af (.int .i64) part),(2,.via v),(9,.af cb l),(10,.int .i64 l.length),(11,.int .i64 k)]) (fun _=>acc++σ) (fun k=>k≤l.length∧qy (l.take k) part told=true) (fun k=>l.length-k) 0 ⟨⟨aY _,rfl⟩,⟨rfl,rfl,rfl,rfl,rfl,trivial⟩,rfl⟩ ?_
 rintro k g ⟨aO,gp⟩
 have hk:k≤l.length:=aO
 have ha:qy (l.take k) part told=true:=gp
 clear aO gp
 refine aj (p:=(k:Int)<(l.length:Int)) (fun ab=>?_) (fun aq=>?_)
 ·have ab:k<l.length:=by omega
  obtain⟨e,hle⟩:∃e:aT,l[k]=e:=⟨_,rfl⟩
  refine aw.mk rfl (aX.mk e (by omega) ((get_some ab).trans (congrArg some hle)) ?_)
  intro aB
  refine ag 0 ?_
  refine aa 0 ?_
  have hs:qy (l.take (k+1)) part told = !(iL part e.2.1&&!iL part e.1&&!iL told e.1):=by
   unfold qy at ha ⊢
   rw[List.take_add_one,tb,ha,bN ab,hle]
   simp
  have og:(!(iL part e.2.1&&!iL part e.1&&!iL told e.1))=false→qy l part told=false:=fun h=>by
   rw[yl]
   intro h2
   unfold qy at h2
   rw[fN]at h2
   have:=h2 e (hle▸cq ab)
   rw[h]at this
   cases this
  refine dr [] (JQ part e.2.1 _ hp) (fun c1=>?_) (fun c1=>?_)
  rotate_left
  ·exact aM (k+1) (by show l.length-(k+1)<l.length-k;omega) ⟨ab,hs.trans (by rw[c1];rfl)⟩ ⟨rfl,rfl,rfl,rfl,aL (by omega),trivial⟩ (.drop 0 1 (.refl _))
  refine aa 0 ?_
  refine dr [] (JQ part e.1 _ hp) (fun c2=>?_) (fun c2=>?_)
  ·exact aM (k+1) (by show l.length-(k+1)<l.length-k;omega) ⟨ab,hs.trans (by rw[c1,c2];rfl)⟩ ⟨rfl,rfl,rfl,rfl,aL (by omega),trivial⟩ (.drop 0 1 (.refl _))
  refine aa 0 ?_
  refine BB [_] (fun σ=>Fz told e.1 σ ht h) (fun c3=>?_) (fun c3=>?_)
  ·exact aM (k+1) (by show l.length-(k+1)<l.length-k;omega) ⟨ab,hs.trans (by rw[c1,c2,c3];rfl)⟩ ⟨rfl,rfl,rfl,rfl,aL (by omega),trivial⟩ (.drop 0 1 (.refl _))
  ·exact .drop 0 1 (.done ⟨cd (og (by rw[c1,c2,c3];rfl)).symm,rfl⟩)
 ·have aq:k=l.length:=by omega
  subst aq
  rw[dW]at ha
  exact .done ⟨cd ha.symm,rfl⟩
theorem AQ{b:List Bool}{i j:Nat}{x:Bool}:(b.set i x).getD j false=if i=j∧j<b.length then x else b.getD j false:=by
 simp only[bO,gX]
 by_cases h:i=j
 ·subst h
  by_cases h2:i<b.length
  ·simp[h2]
  ·simp[h2]
 ·simp[h]
theorem VY{b:List Bool}{i j:Nat}(h:b.getD j false=true):(b.set i true).getD j false=true:=by
 rw[AQ];split
 ·rfl
 ·exact h
theorem Yd{n:Int}{b:List Bool}{e:aT}{j:Nat}(h:b.getD j false=true):(kV n b e).getD j false=true:=by
 unfold kV;split
 ·exact VY h
 ·exact h
theorem MQ{n:Int}:∀(l:List aT) {b:List Bool} {j:Nat},b.getD j false=true→(kE n l b).getD j false=true
 | [],_,_,h=>h
 |_::l,_,_,h=>MQ l (Yd h)
theorem MC{n:Int}{l:List aT}:∀(k:Nat) {b:List Bool} {j:Nat},b.getD j false=true→(px n l k b).getD j false=true
 | 0,_,_,h=>h
 |k+1,_,_,h=>MC k (MQ l h)
theorem Vf{b:List Bool}{k:Nat}{z:Int}:z∈kg b k↔∃i:Nat,i<k∧b.getD i false=true∧z=i:=by
 unfold kg
 rw[fi]
 constructor
 ·rintro⟨i,hi,rfl⟩
  rw[jW,gq]at hi
  exact⟨i,hi.1,hi.2,rfl⟩
 ·rintro⟨i,h1,h2,rfl⟩
  exact⟨i,by rw[jW,gq];exact⟨h1,h2⟩,rfl⟩
theorem U6{n:Nat}{l:List aT}{a:Nat}(h:a<n):(a:Int)∈tG n l [(a:Int)]:=by
 unfold tG
 rw[Vf]
 refine⟨a,by omega,?_,rfl⟩
 unfold rf
 refine MC _ ?_
 show (lj n (List.replicate ((n:Int)).toNat false) a).getD a false=true
 unfold lj
 rw[if_pos (by omega),Int.toNat_natCast,Int.toNat_natCast,AQ,if_pos ⟨rfl,by simpa using h⟩]
theorem Xw{n:Nat}{l:List aT}{a:Nat}(h:a<n):nh n l a a=true:=tC.2 (U6 h)
theorem HU{n:Nat}{l:List aT}{a z:Int}:z∈eJ n l a↔∃i:Nat,i<n∧(nh n l a i&&nh n l i a)=true∧z=i:=by
 unfold eJ lR
 rw[fi,bR]
 constructor
 ·rintro⟨i,hi,rfl⟩
  rw[jW,gq]at hi
  exact⟨i,hi.1,hi.2,rfl⟩
 ·rintro⟨i,h1,h2,rfl⟩
  exact⟨i,by rw[jW,gq];exact⟨h1,h2⟩,rfl⟩
theorem We{n:Nat}{l:List aT}{a:Nat}(h:a<n):0<(eJ n l a).length:=
 AB (HU.2 ⟨a,h,by rw[Xw h];rfl,rfl⟩)
theorem ZH{n:Nat}{l:List aT}{a z:Int}(h:z∈eJ n l a):0≤z∧z<n:=by
 obtain⟨i,h1,-,rfl⟩:=HU.1 h
 omega
theorem Ul(n:Nat)(l:List aT)(a:Int):(eJ n l a).length≤n:=by
 have:=Mw n l a ((n:Int)).toNat
 rw[bR]at this
 exact this
structure lN(n:Nat)(ps:List (List Int))(told:List Int):Prop where
 told:told=ps.flatten
 ne:∀p∈ps,0<p.length∧p.length≤n
 node:∀p∈ps,∀z∈p,0≤z∧z<n
 ahead:∀i,i<ps.length→(ps.take i).flatten.length<n
theorem lN.tS{n:Nat}{ps:List (List Int)}{told:List Int}(h:lN n ps told):told.length≤2*n:=by
 rw[h.told]
 rcases Aw ps with rfl | ⟨qs,q,rfl⟩
 ·simp
 ·rw[List.concat_eq_append]
  have h1:=h.ahead qs.length (by simp)
  have h2:=(h.ne q (by simp)).2
  rw[List.concat_eq_append,List.take_left]at h1
  rw[Mb,bG]
  simp only[wP,List.flatten_nil,gg]
  omega
theorem lN.J1{n:Nat}{ps:List (List Int)}{told:List Int}(h:lN n ps told):ps.length≤2*n:=by
 refine ey ?_ h.tS
 rw[h.told]
 have:=h.ne
 clear h
 induction ps with
 |nil=>exact bJ _
 |cons p ps ih=>
  have h1:=(this p (by simp)).1
  have h2:=ih fun q hq=>this q (by simp[hq])
  simp only[iE,wP,bG]
  omega
theorem lN.nil(n:Nat):lN n [] []:=⟨rfl,fun _ h=>(s9 h).elim,fun _ h=>(s9 h).elim,fun _ h=>(s7 _ h).elim⟩
theorem lN.snoc{n:Nat}{ps:List (List Int)}{told p:List Int}(h:lN n ps told)(ht:told.length<n)(h1:0<p.length)(h2:p.length≤n)(h3:∀z∈p,0≤z∧z<n):lN n (ps++[p]) (told++p):=by
 refine⟨by rw[h.told,List.flatten_append];simp,fun q hq=>?_,fun q hq=>?_,fun i hi=>?_⟩
 ·rcases bU.1 hq with hq | hq
  ·exact h.ne q hq
  ·rw[bE.1 hq];exact⟨h1,h2⟩
 ·rcases bU.1 hq with hq | hq
  ·exact h.node q hq
  ·rw[bE.1 hq];exact h3
 ·rw[bG]at hi
  rw[List.take_append]
  by_cases ab:i<ps.length
  ·rw[show i-ps.length=0 by omega,Dq,gg];exact h.ahead i ab
  ·obtain rfl:i=ps.length:=by have:i<ps.length+1:=hi;omega
   rw[nt,Dq,gg,dW,← h.told];exact ht
def cx(ps:List (List Int)):List AV:=ps.map (.af (.int .i64))
theorem tp:∀ps:List (List Int),cx ps=ps.flatMap (Sh.cells (.slice (.int .i64)))
 | []=>rfl
 |p::ps=>congrArg (AV.af (.int .i64) p :: ·) (tp ps)
abbrev DH:=List (List Int)×AV×Hp×List Int×AV×Hp
def Ge(n:Nat)(s:DH):Prop:=lN n s.1 s.2.2.2.1∧Acc 1 s.1.length s.2.1 s.2.2.1 (cx s.1)∧Acc 1 s.2.2.2.1.length s.2.2.2.2.1 s.2.2.2.2.2 (an s.2.2.2.1)
abbrev KN(s:DH)(σ:Hp):Hp:=s.2.2.1++(s.2.2.2.2.2++σ)
theorem IN{nx:List Int}(h:0<nx.length):nx[((0:Int)).toNat]?=some (nx.headD 0):=by
 cases nx with
 |nil=>simp at h
 |cons z nx=>rfl
theorem Ny{R:AV→Hp→Prop}{r:AV}(a:Hp){σ:Hp}(h:Fin R r σ):Fin R r (a++σ):=.drop 0 a.length (by rw[Dq,dU,List.drop_left];exact h)
theorem UU{ps:List (List Int)}{i:Nat}(h:i<ps.length):(ps.take (i+1)).flatten.length=(ps.take i).flatten.length+ps[i].length:=by
 rw[List.take_add_one,bN h,Mb,bG]
 simp
end Go.Proofs.YtnikdflhefijbaaGreat
namespace Go.Proofs.YtnikdflhefijbaaGreat
open Go.Shelf
def Uu:Go.Shelf.Ren:=⟨fun | 189=>312 | 125=>233 | 257=>338 | 128=>274 | 129=>275 | 294=>346 | 295=>347 | 296=>348 | 297=>349 | 298=>350 | 299=>351 | 216=>352 | 300=>353 | 301=>354 | 328=>360 | 329=>296 | 330=>297 | 331=>361 | 332=>362 | 215=>234 | 343=>365 | n=>n,fun | 28=>23 | 3=>3 | 46=>253 | 0=>0 | 51=>284 | 53=>56 | 4=>4 | 183=>308 | 182=>307 | 131=>312 | 5=>5 | 9=>9 | 218=>331 | 222=>335 | 228=>353 | 229=>50 | n=>n,fun | n=>n⟩
theorem IJ:Go.Proofs.Lays.n189 Tryz.prog Uu:= {
 mixed:=by kernel_rfl
 f125:=Tryz.func233.trans (congrArg some (by kernel_rfl))
 f128:=Tryz.func274.trans (congrArg some (by kernel_rfl))
 f129:=Tryz.func275.trans (congrArg some (by kernel_rfl))
 f189:=Tryz.func312.trans (congrArg some (by kernel_rfl))
 f215:=Tryz.func234.trans (congrArg some (by kernel_rfl))
 f216:=Tryz.func352.trans (congrArg some (by kernel_rfl))
 f257:=Tryz.func338.trans (congrArg some (by kernel_rfl))
 f294:=Tryz.func346.trans (congrArg some (by kernel_rfl))
 f295:=Tryz.func347.trans (congrArg some (by kernel_rfl))
 f296:=Tryz.func348.trans (congrArg some (by kernel_rfl))
 f297:=Tryz.func349.trans (congrArg some (by kernel_rfl))
 f298:=Tryz.func350.trans (congrArg some (by kernel_rfl))
 f299:=Tryz.func351.trans (congrArg some (by kernel_rfl))
 f300:=Tryz.func353.trans (congrArg some (by kernel_rfl))
 f301:=Tryz.func354.trans (congrArg some (by kernel_rfl))
 f328:=Tryz.func360.trans (congrArg some (by kernel_rfl))
 f329:=Tryz.func296.trans (congrArg some (by kernel_rfl))
 f330:=Tryz.func297.trans (congrArg some (by kernel_rfl))
 f331:=Tryz.func361.trans (congrArg some (by kernel_rfl))
 f332:=Tryz.func362.trans (congrArg some (by kernel_rfl))
 f343:=Tryz.func365.trans (congrArg some (by kernel_rfl))
 t0:=Tryz.underlying0
 a0:=Tryz.isAgg0
 z0:=Tryz.sizeOf0
 v0:=Tryz.zeroValue0
 t3:=Tryz.underlying3
 a3:=Tryz.isAgg3
 z3:=Tryz.sizeOf3
 v3:=Tryz.zeroValue3
 t4:=Tryz.underlying4
 a4:=Tryz.isAgg4
 z4:=Tryz.sizeOf4
 v4:=Tryz.zeroValue4
 t5:=Tryz.underlying5
 a5:=Tryz.isAgg5
 z5:=Tryz.sizeOf5
 v5:=Tryz.zeroValue5
 t9:=Tryz.underlying9
 a9:=Tryz.isAgg9
 z9:=Tryz.sizeOf9
 v9:=Tryz.zeroValue9
 t28:=Tryz.underlying23
 a28:=Tryz.isAgg23
 z28:=Tryz.sizeOf23
 v28:=Tryz.zeroValue23
 t46:=Tryz.underlying253
 a46:=Tryz.isAgg253
 z46:=Tryz.sizeOf253
 v46:=Tryz.zeroValue253
 t51:=Tryz.underlying284
 a51:=Tryz.isAgg284
 z51:=Tryz.sizeOf284
 v51:=Tryz.zeroValue284
 t53:=Tryz.underlying56
 a53:=Tryz.isAgg56
 z53:=Tryz.sizeOf56
 v53:=Tryz.zeroValue56
 t131:=Tryz.underlying312
 a131:=Tryz.isAgg312
 z131:=Tryz.sizeOf312
 v131:=Tryz.zeroValue312
 t182:=Tryz.underlying307
 a182:=Tryz.isAgg307
 z182:=Tryz.sizeOf307
 v182:=Tryz.zeroValue307
 t183:=Tryz.underlying308
 a183:=Tryz.isAgg308
 z183:=Tryz.sizeOf308
 v183:=Tryz.zeroValue308
 t218:=Tryz.underlying331
 a218:=Tryz.isAgg331
 z218:=Tryz.sizeOf331
 v218:=Tryz.zeroValue331
 t222:=Tryz.underlying335
 a222:=Tryz.isAgg335
 z222:=Tryz.sizeOf335
 v222:=Tryz.zeroValue335
 t228:=Tryz.underlying353
 a228:=Tryz.isAgg353
 z228:=Tryz.sizeOf353
 v228:=Tryz.zeroValue353
 t229:=Tryz.underlying50
 a229:=Tryz.isAgg50
 z229:=Tryz.sizeOf50
 v229:=Tryz.zeroValue50 }
def Ut:Go.Shelf.Ren:=⟨fun | 20=>313 | n=>n,fun | 22=>23 | 3=>3 | 4=>4 | 0=>0 | n=>n,fun | n=>n⟩
theorem II:Go.Proofs.Lays2.n20 Tryz.prog Ut:= {
 mixed:=by kernel_rfl
 f20:=Tryz.func313.trans (congrArg some (by kernel_rfl))
 t0:=Tryz.underlying0
 a0:=Tryz.isAgg0
 z0:=Tryz.sizeOf0
 v0:=Tryz.zeroValue0
 t3:=Tryz.underlying3
 a3:=Tryz.isAgg3
 z3:=Tryz.sizeOf3
 v3:=Tryz.zeroValue3
 t4:=Tryz.underlying4
 a4:=Tryz.isAgg4
 z4:=Tryz.sizeOf4
 v4:=Tryz.zeroValue4
 t22:=Tryz.underlying23
 a22:=Tryz.isAgg23
 z22:=Tryz.sizeOf23
 v22:=Tryz.zeroValue23
 i3:=by kernel_rfl }
set_option maxRecDepth 100000
section
variable {F:Nat→Prop} {w:World} {σ:Hp}
theorem Yb(h:bC F w σ)(os:Array Obj):bL F w F (Go.Sort.grow w os)∧bC F (Go.Sort.grow w os) σ:=by
 have eE:(Go.Sort.grow w os).heap.size=w.heap.size+os.size:=by simp[Go.Sort.grow]
 have aq:∀b,b<w.heap.size→(Go.Sort.grow w os).heap[b]?=w.heap[b]?:=fun b hb=>by
  show (w.heap++os)[b]?=_
  rw[L9 hb]
 have ao:bL F w F (Go.Sort.grow w os):=⟨rfl,rfl,rfl,by omega,fun _ h=>h,fun b hb=>aq b (h.low b hb),fun b c T fz hc=>⟨c,fz,by
  rw[aq b (Dx.1 hc).1];exact hc,rfl⟩,bJ _⟩
 exact⟨ao,h.nodup,fun p hp=>(h.holds p hp).mono ao (aq _ (h.holds p hp).lt) (h.holds p hp).1,fun b hb=>by have:=h.low b hb;omega⟩
theorem lO(zs:List Int):(an zs).length=zs.length:=by unfold an;simp
theorem Z3(zs:List Int){i:Nat}{x:AV}(h:(an zs)[i]?=some x):∃h2:i<zs.length,x=.int .i64 zs[i]:=by
 unfold an at h
 rw[fm]at h
 cases hz:zs[i]? with
 |none=>rw[hz]at h;cases h
 |some z=>
  rw[hz]at h
  obtain⟨h2,h3⟩:=cR.1 hz
  exact⟨h2,by cases h;rw[h3]⟩
theorem aa0(zs:List Int){i:Nat}(h:i<zs.length):(an zs)[i]?=some (.int .i64 zs[i]):=by unfold an;rw[fm,bN h];rfl
theorem Holds.IH{F:Nat→Prop}{w:World}{b:Nat}{cs:List AV}(h:Holds F w b cs)(hn:∀x∈cs,x.leaf=true):¬F b∧Fh F w b cs:=by
 obtain⟨hF,h | ⟨x,o,e,_,hx⟩ | ⟨L,t,e,_⟩⟩:=h
 ·exact⟨hF,h⟩
 ·subst e;have:=hn _ (cF ..);rw[HT hx]at this;cases this
 ·subst e;cases hn _ (cF ..)
theorem Pw(zs:List Int):∀x∈an zs,x.leaf=true:=fun x hx=>by
 obtain⟨z,_,rfl⟩:=fi.1 hx;rfl
theorem EE{b n:Nat}{zs zs':List Int}(h:bC F w ((b,an zs)::σ))(hl:zs'.length=zs.length)(os:Array Obj):
  bL F w F (Go.Sort.grow (Go.Sort.putRow (Value.int .i64) (Go.Sort.ahead w n) b 0 zs'.toArray) os)∧bC F (Go.Sort.grow (Go.Sort.putRow (Value.int .i64) (Go.Sort.ahead w n) b 0 zs'.toArray) os) ((b,an zs')::σ):=by
 obtain⟨hF,c,T,hc,hle,np⟩:=(h.holds _ (cF ..)).IH (Pw zs)
 have hle:(an zs).length≤c.size:=hle
 rw[lO]at hle
 have hc:w.heap[b]?=some (.cells c T (0,0)):=hc
 have J8:∀k,k<zs'.length→(Go.Sort.putCells (Value.int .i64) 0 zs'.toArray c).getD k undef=Value.int .i64 (zs'.getD k 0):=fun k hk=>by
  have CU:k<c.size:=by omega
  unfold Go.Sort.putCells
  rw[jG,Array.getElem?_mapIdx,wU CU]
  simp only[Option.map_some,Option.getD_some]
  rw[if_pos ⟨Nat.zero_le _,by simpa using hk⟩,Nat.sub_zero,List.getD_eq_getElem?_getD,List.getElem?_eq_getElem hk]
  simp[hk]
 have key:=AY (F:=F) (w:=w) (w':=Go.Sort.putRow (Value.int .i64) (Go.Sort.ahead w n) b 0 zs'.toArray) h (j:=0) (b:=b) (cs:=an zs) (cs':=an zs') rfl hc (c':=Go.Sort.putCells (Value.int .i64) 0 zs'.toArray c) (by simp[Go.Sort.putCells]) (by rw[lO];simp[Go.Sort.putCells];omega)
  (fun i x hx=>by
   obtain⟨h2,rfl⟩:=Z3 zs' hx
   refine⟨rfl,?_⟩
   rw[J8 i h2,bO,bN h2]
   exact .int _ _)
  (fun k hk=>by
   show (w.heap.modify b _)[k]?=_
   rw[Array.getElem?_modify,aA (fun e=>hk e.symm)])
  (by
   show (w.heap.modify b _)[b]?=_
   rw[Array.getElem?_modify,az rfl,hc];rfl)
  rfl rfl rfl (by simp[Go.Sort.ahead])
 obtain⟨k1,k2⟩:=key
 obtain⟨g1,g2⟩:=Yb k2 os
 exact⟨k1.trans g1,g2⟩
theorem Ir{b:Nat}{zs:List Int}(h:bC F w ((b,an zs)::σ)):Go.Sort.Holds (Value.int .i64) w b 0 zs.toArray∧b<w.heap.size:=by
 obtain⟨hF,c,T,hc,hle,np⟩:=(h.holds _ (cF ..)).IH (Pw zs)
 have hc:w.heap[b]?=some (.cells c T (0,0)):=hc
 have hle:(an zs).length≤c.size:=hle
 rw[lO]at hle
 refine⟨fun j hj=>?_,(Dx.1 hc).1⟩
 have hj:j<zs.length:=by simpa using hj
 have hr:=(np j _ (aa0 zs hj)).2.gM
 rw[dU]
 constructor
 ·rw[IV hc,wU (by omega)]
  rw[jG,wU (by omega)]at hr
  simp only[Option.getD_some]at hr
  rw[hr]
  simp[hj]
 ·unfold World.frozen?
  simp[hc]
end
theorem UA(l:List Int):(Go.Lib.compact l).length≤l.length:=by
 unfold Go.Lib.compact Go.Lib.compactUpTo
 rw[cm]
 exact Nat.le_trans (List.length_filter_le _ _) (by simp)
def fJ(zs:List Int):List Int:=zs.mergeSort fun x y=>decide (x≤y)
theorem yB(zs:List Int):(fJ zs).length=zs.length:=List.length_mergeSort ..
theorem IM:∀{l m:List Int},l.Pairwise (· < ·)→m.Pairwise (· < ·)→(∀x,x∈l↔x∈m)→l=m
 | [],[],_,_,_=>rfl
 | [],y::m,_,_,h=>absurd ((h y).2 (cF ..)) s9
 |x::l,[],_,_,h=>absurd ((h x).1 (cF ..)) s9
 |x::l,y::m,hl,hm,h=>by
  have h1:=wQ.1 hl
  have h2:=wQ.1 hm
  have a6:x=y:=by
   have a:=(h x).1 (cF ..)
   have b:=(h y).2 (cF ..)
   rcases ei.1 a with a | a
   ·exact a
   ·rcases ei.1 b with b | b
    ·exact b.symm
    ·have:=h1.1 y b;have:=h2.1 x a;omega
  subst a6
  refine congrArg (x :: ·) (IM h1.2 h2.2 fun z=>⟨fun hz=>?_,fun hz=>?_⟩)
  ·rcases ei.1 ((h z).1 (dy _ hz)) with e | e
   ·subst e;have:=h1.1 z hz;omega
   ·exact e
  ·rcases ei.1 ((h z).2 (dy _ hz)) with e | e
   ·subst e;have:=h2.1 z hz;omega
   ·exact e
theorem Mz(zs:List Int):(fJ zs).Pairwise (·≤·):=by
 have:=List.pairwise_mergeSort (le:=fun x y:Int=>decide (x≤y)) (fun a b c h1 h2=>by simp at *;omega) (fun a b=>by simp;omega) zs
 exact this.imp fun h=>by simpa using h
theorem NR(zs:List Int)(x:Int):x∈fJ zs↔x∈zs:=List.mem_mergeSort
theorem Ng{l:List Int}(h:l.Pairwise (·≤·)){i j:Nat}(mf:i≤j)(hj:j<l.length):l[i]'(by omega)≤l[j]:=by
 by_cases e:i=j
 ·subst e;exact dA _
 ·exact LY.1 h i j (by omega) hj (by omega)
def xG(zs:List Int):List Int:=Go.Lib.compact (fJ zs)
theorem UB{l:List Int}(h:l.Pairwise (·≤·)):(Go.Lib.compact l).Pairwise (· < ·):=by
 unfold Go.Lib.compact Go.Lib.compactUpTo
 rw[Aq]
 have hr:((List.range l.length).filter (Go.Lib.keeps l.toArray)).Pairwise fun i j=>i<j∧j<l.length∧Go.Lib.keeps l.toArray j=true:=by
  have h1:(List.range l.length).Pairwise fun i j=>i<j∧j<l.length:=by
   rw[LY]
   intro i j hi hj mf
   simp only[List.getElem_range]
   exact⟨mf,by simpa using hj⟩
  rw[List.pairwise_filter]
  exact h1.imp fun mf _ hk=>⟨mf.1,mf.2,hk⟩
 refine hr.imp fun {i j} ⟨h1,h2,h3⟩=>?_
 have hk:l.toArray[j]!≠l.toArray[j-1]!:=by
  unfold Go.Lib.keeps at h3
  simp only[decide_eq_true_eq]at h3
  rcases h3 with h3 | h3
  ·omega
  ·exact h3
 have e1:l.toArray[j]! = l[j]:=by simp[h2]
 have e2:l.toArray[j-1]! = l[j-1]'(by omega):=by simp[show j-1<l.length by omega]
 have e3:l.toArray[i]! = l[i]'(by omega):=by simp[show i<l.length by omega]
 rw[e1,e2]at hk
 rw[e1,e3]
 have q1:=Ng h (i:=i) (j:=j-1) (by omega) (by omega)
 have q2:=Ng h (i:=j-1) (j:=j) (by omega) h2
 omega
theorem M0{l:List Int}(x:Int):x∈Go.Lib.compact l↔x∈l:=by
 unfold Go.Lib.compact Go.Lib.compactUpTo
 constructor
 ·intro hx
  obtain⟨j,hj,rfl⟩:=fi.1 hx
  have hj:=gq.1 (jW.1 hj).1
  have e1:l.toArray[j]! = l[j]:=by simp[hj]
  rw[e1];exact cq hj
 ·intro hx
  have hex:∃j,∃h:j<l.length,l[j]=x:=by
   obtain⟨j,hj,e⟩:=Au.1 hx
   exact⟨j,hj,e⟩
  obtain⟨j,⟨hj,e⟩,jw⟩:∃j,(∃h:j<l.length,l[j]=x)∧∀k,k<j→¬∃h:k<l.length,l[k]=x:=by
   obtain⟨j,hj⟩:=hex
   induction j using Nat.strongRecOn with
   |ind j ih=>
    by_cases hk:∃k,k<j∧∃h:k<l.length,l[k]=x
    ·obtain⟨k,h1,h2⟩:=hk
     exact ih k h1 h2
    ·exact⟨j,hj,fun k h1 h2=>hk ⟨k,h1,h2⟩⟩
  refine List.mem_map.2 ⟨j,List.mem_filter.2 ⟨List.mem_range.2 hj,?_⟩,by simp[hj,e]⟩
  unfold Go.Lib.keeps
  rw[decide_eq_true_eq]
  by_cases h0:j=0
  ·exact .inl h0
  ·refine .inr fun h=>jw (j-1) (by omega) ⟨by omega,?_⟩
   have e1:l.toArray[j]! = l[j]:=by simp[hj]
   have e2:l.toArray[j-1]! = l[j-1]'(by omega):=by simp[show j-1<l.length by omega]
   rw[e1,e2]at h
   rw[← h];exact e
theorem Yz{zs:List Int}{n:Nat}(h:∀z∈zs,0≤z∧z<n):xG zs=((List.range n).map fun i:Nat=>(i:Int)).filter fun b=>decide (b∈zs):=by
 refine IM (UB (Mz zs)) ?_ fun x=>?_
 ·refine List.Pairwise.filter _ ?_
  rw[Aq,LY]
  intro i j hi hj mf
  simp only[List.getElem_range]
  omega
 ·unfold xG
  rw[M0,NR,jW,decide_eq_true_eq]
  refine⟨fun hx=>⟨?_,hx⟩,fun hx=>hx.2⟩
  have:=h x hx
  exact fi.2 ⟨x.toNat,gq.2 (by omega),by omega⟩
theorem MX:Enters Tryz.prog 312:=enters_of Tryz.func312 (by kernel_rfl)
theorem MY:Enters Tryz.prog 313:=enters_of Tryz.func313 (by kernel_rfl)
theorem EI{vs:Array Value}(h:1=vs.size):∃v,vs = #[v]:=by
 refine⟨vs.getD 0 undef,Array.ext ?_ fun i h2 h3=>?_⟩
 ·simp[← h]
 ·have:i=0:=by omega
  subst this
  simp[Array.getD,h2]
theorem IB{F:Nat→Prop}{w:World}:aF F w (.tup []) (.tuple #[]):=.tup [] #[] rfl fun i x h=>by simp at h
theorem abR(σ:Hp):ACalls Tryz.prog 312 [.ak] σ (aD (.tup []) σ):=by
 refine⟨MX,fun F w vs cg aJ =>?_⟩
 obtain⟨v,rfl⟩:=EI cg.1
 have hv:aF F w .ak v:=cg.2 0 _ rfl
 cases hv
 have h:Calls Tryz.prog 312 #[.slice none 0 0] w fun e w'=>e=.returned (.tuple #[])∧w'=w:=Any.slices_Sort_int_none IJ none 0 w
 refine h.mono ?_
 rintro e w' ⟨rfl,rfl⟩
 exact⟨.tup [],.tuple #[],σ,F,rfl,.refl _ _,aJ,IB,rfl,rfl⟩
theorem Jf(b:Nat)(zs:List Int)(n:Nat)(σ:Hp)(hz:zs.length=n)(hl:n≤1000000):ACalls Tryz.prog 312 [.ah b 0 n 1] ((b,an zs)::σ) (aD (.tup []) ((b,an (fJ zs))::σ)):=by
 subst hz
 refine⟨MX,fun F w vs cg aJ =>?_⟩
 obtain⟨v,rfl⟩:=EI cg.1
 have hv:aF F w (.ah b 0 zs.length 1) v:=cg.2 0 _ rfl
 obtain⟨a,cap,rfl,c,T,fz,m1,m2,m3,m4⟩:=hv.lh
 rcases m4 with ⟨rfl,_⟩ | ⟨_,_,h0,_⟩
 ·obtain⟨h1,h2⟩:=Ir aJ
  have h:Calls Tryz.prog 312 #[.slice (some ⟨b,0,none⟩) zs.length cap] w fun e w'=>e=.returned (.tuple #[])∧∃n os,w'=Go.Sort.grow (Go.Sort.putRow (Value.int .i64) (Go.Sort.ahead w n) b 0 (fJ zs).toArray) os:=Any.slices_Sort_int IJ b 0 cap zs w h1 h2 (by omega)
  refine h.mono ?_
  rintro e w' ⟨rfl,n,os,rfl⟩
  obtain⟨k1,k2⟩:=EE (n:=n) aJ (yB zs) os
  exact⟨.tup [],.tuple #[],_,F,rfl,k1,k2,IB,rfl,rfl⟩
 ·have hz:zs=[]:=jm.1 h0
  subst hz
  have h:Calls Tryz.prog 312 #[.slice (some a) 0 cap] w fun e w'=>e=.returned (.tuple #[])∧w'=w:=Any.slices_Sort_int_none IJ (some a) cap w
  have he:fJ []=[]:=jm.1 (yB [])
  rw[he]
  refine h.mono ?_
  rintro e w' ⟨rfl,rfl⟩
  exact⟨.tup [],.tuple #[],_,F,rfl,.refl _ _,aJ,IB,rfl,rfl⟩
theorem acj(σ:Hp):ACalls Tryz.prog 313 [.ak] σ (aD .ak σ):=by
 refine⟨MY,fun F w vs cg aJ =>?_⟩
 obtain⟨v,rfl⟩:=EI cg.1
 have hv:aF F w .ak v:=cg.2 0 _ rfl
 cases hv
 have h:Calls Tryz.prog 313 #[.slice none 0 0] w fun e w'=>e=.returned (.slice none 0 0)∧w'=w:=Any.slices_Compact_int_empty II none 0 w
 refine h.mono ?_
 rintro e w' ⟨rfl,rfl⟩
 exact⟨.ak,_,σ,F,rfl,.refl _ _,aJ,.ak,rfl,rfl⟩
theorem ack(b:Nat)(zs:List Int)(n:Nat)(σ:Hp)(hz:zs.length=n)(hl:n≤1000000):ACalls Tryz.prog 313 [.ah b 0 n 1] ((b,an zs)::σ) (aD (.ah b 0 (Go.Lib.compact zs).length 1) ((b,an (Go.Lib.compact zs++List.replicate (n-(Go.Lib.compact zs).length) 0))::σ)):=by
 subst hz
 have hle:=UA zs
 refine⟨MY,fun F w vs cg aJ =>?_⟩
 obtain⟨v,rfl⟩:=EI cg.1
 have hv:aF F w (.ah b 0 zs.length 1) v:=cg.2 0 _ rfl
 obtain⟨a,cap,rfl,c,T,fz,m1,m2,m3,m4⟩:=hv.lh
 rcases m4 with ⟨rfl,m5⟩ | ⟨m5,m6,h0,m7⟩
 ·obtain⟨h1,h2⟩:=Ir aJ
  have h:Calls Tryz.prog 313 #[.slice (some ⟨b,0,none⟩) zs.length cap] w fun e w'=>e=.returned (.slice (some ⟨b,0,none⟩) (Go.Lib.compact zs).length cap)∧∃q,w'=Go.Sort.putRow (Value.int .i64) (Go.Sort.ahead w q) b 0 (Go.Lib.compact zs++List.replicate (zs.length-(Go.Lib.compact zs).length) 0).toArray:=Any.slices_Compact_int II b 0 cap zs w h1 (by omega) m2
  refine h.mono ?_
  rintro e w' ⟨rfl,q,rfl⟩
  obtain⟨k1,k2⟩:=EE (n:=q) (zs':=Go.Lib.compact zs++List.replicate (zs.length-(Go.Lib.compact zs).length) 0) aJ (by rw[bG,gY];omega) #[]
  have hg:∀W:World,Go.Sort.grow W #[]=W:=fun W=>by unfold Go.Sort.grow;rw[Array.append_empty]
  rw[hg]at k1 k2
  obtain⟨c',qW,lI,dS⟩:=k1.rows b c T fz m1
  exact⟨.ah b 0 _ 1,_,_,F,rfl,k1,k2,.ah _ _ _ _ _ _ ⟨c',T,qW,lI,by omega,m3,.inl ⟨rfl,by omega⟩⟩,rfl,rfl⟩
 ·have hz:zs=[]:=jm.1 h0
  subst hz
  have h:Calls Tryz.prog 313 #[.slice (some a) 0 cap] w fun e w'=>e=.returned (.slice (some a) 0 cap)∧w'=w:=Any.slices_Compact_int_empty II (some a) cap w
  refine h.mono ?_
  rintro e w' ⟨rfl,rfl⟩
  exact⟨.ah b 0 0 1,_,_,F,rfl,.refl _ _,aJ,hv,rfl,rfl⟩
theorem WL:xG []=[]:=G4.2 fun x h=>by
 unfold xG at h
 rw[M0,NR]at h
 cases h
def iu(n:Int)(l:List aT)(a:Int):List Int:=(l.filter fun e=>decide (e.1=a)&&cD n a&&cD n e.2.1).map fun e=>e.2.1
def ax(n:Int)(l:List aT)(a:Int):List Int:=((List.range n.toNat).map fun i:Nat=>(i:Int)).filter fun b=>decide (b∈iu n l a)
theorem Wn(n:Int)(l:List aT)(a:Int):(iu n l a).length≤l.length:=by unfold iu;rw[cm];exact Dy _ _
theorem Oe{n:Int}{l:List aT}{a z:Int}(h:z∈iu n l a):0≤z∧z<n:=by
 unfold iu at h
 obtain⟨e,he,rfl⟩:=fi.1 h
 have h4:=(jW.1 he).2
 simp only[b9,decide_eq_true_eq,kB]at h4
 exact h4.2
theorem Vd(n:Int)(l:List aT)(a:Int){k:Nat}(h:k<l.length):iu n (l.take (k+1)) a=iu n (l.take k) a++(if (decide (l[k].1=a)&&cD n a&&cD n l[k].2.1)=true then [l[k].2.1] else []):=by
 unfold iu
 rw[eT h,uU,cC]
 congr 1
 by_cases hc:(decide (l[k].1=a)&&cD n a&&cD n l[k].2.1)=true
 ·rw[az hc];have e:=G3 (p:=fun e:aT=>decide (e.1=a)&&cD n a&&cD n e.2.1) (a:=l[k]) (l:=[]) hc;rw[e];rfl
 ·rw[aA hc];have e:=G9 (p:=fun e:aT=>decide (e.1=a)&&cD n a&&cD n e.2.1) (a:=l[k]) (l:=[]) hc;rw[e];rfl
theorem Xv(n:Int)(l:List aT)(a:Int):xG (iu n l a)=ax n l a:=by
 unfold ax
 exact Yz fun z hz=>by have:=Oe hz;omega
theorem zu(n:Int)(l:List aT)(a:Int)(σ:Hp)(hl:l.length≤100000):ACalls Tryz.prog 289 [.int .i64 n,.af cb l,.int .i64 a] σ (aD (.af (.int .i64) (ax n l a)) σ):=by
 refine au Tryz.func289 ?_
 refine .wrap 7 _ rfl rfl ?_
 refine bh (S:=Nat×AV×Hp) (fun s=>[(0,.int .i64 n),(2,.int .i64 a),(7,.via s.2.1),(10,.af cb l),(11,.int .i64 l.length),(12,.int .i64 s.1)]) (fun s=>s.2.2++σ) (fun s=>s.1≤l.length∧Acc 1 (iu n (l.take s.1) a).length s.2.1 s.2.2 (an (iu n (l.take s.1) a))) (fun s=>l.length-s.1) (0,.ak,[]) ⟨⟨aY _,.nil⟩,⟨rfl,rfl,rfl,rfl,rfl,rfl,trivial⟩,rfl⟩ ?_
 rintro⟨k,v,acc⟩ g ⟨aO,gQ⟩
 have hk:k≤l.length:=aO
 have bS:Acc 1 (iu n (l.take k) a).length v acc (an (iu n (l.take k) a)):=gQ
 clear aO gQ
 have oa:(iu n (l.take k) a).length≤k:=by have:=Wn n (l.take k) a;rw[uT]at this;omega
 refine aj (fun ab=>?_) (fun aq=>?_)
 ·have ab:k<l.length:=by have ab:(k:Int)<l.length:=ab;omega
  have hs:=Vd n l a ab
  obtain⟨d,hd⟩:∃d:aT,l[k]=d:=⟨_,rfl⟩
  rw[hd]at hs
  refine aw.mk rfl (aX.mk d (by omega) ((get_some ab).trans (congrArg some hd)) ?_)
  intro aB
  refine ag 0 ?_
  refine aa 0 ?_
  refine aj (p:=d.1=a) (fun c1=>?_) (fun c1=>?_)
  ·refine dr [] (FB n a _) (fun c2=>?_) (fun c2=>?_)
   ·refine aa 0 ?_
    refine dr [] (FB n d.2.1 _) (fun c3=>?_) (fun c3=>?_)
    ·rw[bj c1,c2,c3,az (show (true&&true&&true)=true from rfl)]at hs
     refine aa 0 ?_
     intro cE
     refine eU [_,_] bS (.ah 0 cE 0 1 _ rfl (cp rfl)) rfl (by omega) (by decide) (by decide) (fun v' aU h'=>?_)
     refine aM (k+1,v',aU) (by show l.length-(k+1)<l.length-k;omega) ⟨ab,?_⟩ ⟨rfl,rfl,rfl,rfl,rfl,aL (by omega),trivial⟩ (.drop 0 2 (aN rfl))
     show Acc 1 (iu n (l.take (k+1)) a).length v' aU (an (iu n (l.take (k+1)) a))
     rw[hs,bG,an,cC]
     exact h'
    ·rw[c3,Dp,aA (by decide),gg]at hs
     refine aM (k+1,v,acc) (by show l.length-(k+1)<l.length-k;omega) ⟨ab,by show Acc 1 (iu n (l.take (k+1)) a).length v acc (an (iu n (l.take (k+1)) a));rw[hs];exact bS⟩ ⟨rfl,rfl,rfl,rfl,rfl,aL (by omega),trivial⟩ (.drop 0 1 (aN rfl))
   ·rw[c2,Dp,Am,aA (by decide),gg]at hs
    refine aM (k+1,v,acc) (by show l.length-(k+1)<l.length-k;omega) ⟨ab,by show Acc 1 (iu n (l.take (k+1)) a).length v acc (an (iu n (l.take (k+1)) a));rw[hs];exact bS⟩ ⟨rfl,rfl,rfl,rfl,rfl,aL (by omega),trivial⟩ (.drop 0 1 (aN rfl))
  ·rw[cy c1,Am,Am,aA (by decide),gg]at hs
   refine aM (k+1,v,acc) (by show l.length-(k+1)<l.length-k;omega) ⟨ab,by show Acc 1 (iu n (l.take (k+1)) a).length v acc (an (iu n (l.take (k+1)) a));rw[hs];exact bS⟩ ⟨rfl,rfl,rfl,rfl,rfl,aL (by omega),trivial⟩ (.drop 0 1 (aN rfl))
 ·have aq:k=l.length:=by have aq:¬(k:Int)<l.length:=aq;omega
  subst aq
  rw[dW]at bS oa
  have JI:=Xv n l a
  generalize iu n l a=zs at bS oa JI
  generalize hC:an zs=C at bS
  generalize hm:zs.length=m at bS
  cases bS with
  |nil=>
   have hz:zs=[]:=jm.1 hm
   subst hz
   refine ar [] (abR _) ?_
   refine ar [] (acj _) ?_
   exact .nil (.nil (.int .i64)) (.done ⟨by rw[← JI,WL];rfl,rfl⟩)
  |ah b m cs h=>
   subst hC
   refine ar [] (Jf b zs m σ hm (by omega)) ?_
   refine ar [] (ack b (fJ zs) m σ ((yB zs).trans hm) (by omega)) ?_
   refine .cH 0 b 0 _ 1 _ (.int .i64) (xG zs) rfl ?_ ⟨rfl,rfl,by decide⟩ .here (.done ⟨by rw[JI],rfl⟩)
   rw[fG,← ir]
   unfold xG an
   rw[cC,dB,G2 (by rw[cm];exact bJ _)]
   exact dN (by rw[cm];exact bJ _)
structure mO(ai w:Int)(a:List Int):Prop where
 v:fO ai w a=true
 fP:bX a
structure KA(s:Sy)(a:List (List Int)):Prop where
 len:(a.length:Int)=s.n
 val:∀x∈a,mO s.ai s.w x
theorem KA.ok{s:Sy}{a:List (List Int)}(hg:Good s)(h:KA s a):J4 a:=by
 have h1:=h.len
 have h2:=hg.n2
 exact⟨by omega,fun x hx=>⟨(h.val x hx).fP,by have:=NQ (h.val x hx).v;omega⟩⟩
theorem VV{s:Sy}(hf:Fit s)(hg:Good s)(v:Int):mO s.ai s.w (gx s v):=⟨(HN hf hg v).1,(HN hf hg v).2⟩
def JU(p:Prop)(σ:Hp):AV→Hp→Prop:=fun r σ'=>∃b:Bool,r=.bool b∧σ'=σ∧(b=true→p)
theorem Sn{P:Program}{f:FuncId}{xs:List AV}{σ:Hp}{K:AV→Hp→Prop}(js:List Nat){p:Prop}{σ2:Hp}(h:ACalls P f xs (nI js σ) (JU p σ2))(k1:p→K (.bool true) σ2)(k2:K (.bool false) σ2):CallAt P f K xs σ:=
 .mk js _ h fun r σ' ⟨b,h1,h2,h3⟩=>by subst h1 h2;cases b;exact k2;exact k1 (h3 rfl)
structure Jp(s:Sy):Prop where
 tl:s.T.length≤8
 el:s.cI.length≤16
 nl:s.entry.length≤10
 il:s.init.length≤20
 ts:∀t∈s.T,t.1.length≤4∧t.2.1.length≤4∧t.2.2.1.length≤6
 sz:(s.n≤7∧s.w≤10)∨256<s.n∨1024<s.w
theorem YP(s:Sy)(σ:Hp):ACalls Tryz.prog 28 [.agg (a7 s)] σ (JU (Jp s) σ):=by
 refine au Tryz.func28 ?_
 intro aB
 refine aa 0 ?_
 refine aj (fun c2=>?_) (fun c2=>?_)
 ·have c2:7<s.n:=c2
  refine aa 0 ?_
  refine aj (fun c3=>?_) (fun c3=>?_)
  ·have c3:s.n≤256:=c3
   refine aa 0 ?_
   refine aj (fun c4=>?_) (fun c4=>?_)
   ·exact .drop 0 1 (.done ⟨false,rfl,rfl,fun h=>by cases h⟩)
   ·have c4:¬(s.w≤1024):=c4
    refine aa 0 ?_
    refine aj (fun c5=>?_) (fun c5=>?_)
    ·exact .drop 0 1 (.done ⟨false,rfl,rfl,fun h=>by cases h⟩)
    ·have c5:¬(8<(↑s.T.length:Int)):=c5
     refine aa 0 ?_
     refine aj (fun c6=>?_) (fun c6=>?_)
     ·exact .drop 0 1 (.done ⟨false,rfl,rfl,fun h=>by cases h⟩)
     ·have c6:¬(16<(↑s.cI.length:Int)):=c6
      refine aa 0 ?_
      refine aj (fun c7=>?_) (fun c7=>?_)
      ·exact .drop 0 1 (.done ⟨false,rfl,rfl,fun h=>by cases h⟩)
      ·have c7:¬(10<(↑s.entry.length:Int)):=c7
       refine aa 0 ?_
       refine aj (fun c8=>?_) (fun c8=>?_)
       ·exact .drop 0 1 (.done ⟨false,rfl,rfl,fun h=>by cases h⟩)
       ·have c8:¬(20<(↑s.init.length:Int)):=c8
        refine aa 0 ?_
        refine bh (S:=Nat) (fun k=>[(48,.af jL s.T),(49,.int .i64 s.T.length),(50,.int .i64 k)]) (fun _=>(aB,a7 s)::σ) (fun k=>k≤s.T.length∧∀t∈s.T.take k,t.1.length≤4∧t.2.1.length≤4∧t.2.2.1.length≤6) (fun k=>s.T.length-k) 0 ⟨⟨aY _,fun t h=>by cases h⟩,⟨rfl,rfl,rfl,trivial⟩,rfl⟩ ?_
        rintro k g ⟨aO,iM⟩
        have hk:k≤s.T.length:=aO
        have ht:∀t∈s.T.take k,t.1.length≤4∧t.2.1.length≤4∧t.2.2.1.length≤6:=iM
        clear aO iM
        refine aj (fun ab=>?_) (fun aq=>?_)
        ·have ab:k<s.T.length:=by have ab:(k:Int)<s.T.length:=ab;omega
         have gd:s.T.take (k+1)=s.T.take k++[s.T[k]]:=eT ab
         obtain⟨t,dR⟩:∃t:lM,s.T[k]=t:=⟨_,rfl⟩
         rw[dR]at gd
         refine aw.mk rfl (aX.mk t (by omega) ((get_some ab).trans (congrArg some dR)) ?_)
         intro cE
         refine ag 0 ?_
         refine aa 0 ?_
         refine aj (p:=4<(t.1.length:Int)) (fun d1=>?_) (fun d1=>?_)
         ·exact .drop 0 2 (.done ⟨false,rfl,rfl,fun h=>by cases h⟩)
         ·refine aa 0 ?_
          refine aj (p:=4<(t.2.1.length:Int)) (fun d2=>?_) (fun d2=>?_)
          ·exact .drop 0 2 (.done ⟨false,rfl,rfl,fun h=>by cases h⟩)
          ·refine aa 0 ?_
           refine aj (p:=6<(t.2.2.1.length:Int)) (fun d3=>?_) (fun d3=>?_)
           ·exact .drop 0 2 (.done ⟨false,rfl,rfl,fun h=>by cases h⟩)
           ·refine aM (k+1) (by show s.T.length-(k+1)<s.T.length-k;omega) ⟨ab,fun u hu=>?_⟩ ⟨rfl,rfl,aL (by omega),trivial⟩ (.drop 0 1 (.refl _))
            rw[gd]at hu
            rcases bU.1 hu with hu | hu
            ·exact ht u hu
            ·rw[bE.1 hu];omega
        ·have aq:k=s.T.length:=by have aq:¬(k:Int)<s.T.length:=aq;omega
         subst aq
         rw[dW]at ht
         exact .drop 0 1 (.done ⟨true,rfl,rfl,fun _=>⟨by omega,by omega,by omega,by omega,ht,by omega⟩⟩)
  ·have c3:¬(s.n≤256):=c3
   refine aa 0 ?_
   refine aj (fun c9=>?_) (fun c9=>?_)
   ·exact .drop 0 1 (.done ⟨false,rfl,rfl,fun h=>by cases h⟩)
   ·have c9:¬(8<(↑s.T.length:Int)):=c9
    refine aa 0 ?_
    refine aj (fun jX=>?_) (fun jX=>?_)
    ·exact .drop 0 1 (.done ⟨false,rfl,rfl,fun h=>by cases h⟩)
    ·have jX:¬(16<(↑s.cI.length:Int)):=jX
     refine aa 0 ?_
     refine aj (fun Mq=>?_) (fun Mq=>?_)
     ·exact .drop 0 1 (.done ⟨false,rfl,rfl,fun h=>by cases h⟩)
     ·have Mq:¬(10<(↑s.entry.length:Int)):=Mq
      refine aa 0 ?_
      refine aj (fun uW=>?_) (fun uW=>?_)
      ·exact .drop 0 1 (.done ⟨false,rfl,rfl,fun h=>by cases h⟩)
      ·have uW:¬(20<(↑s.init.length:Int)):=uW
       refine aa 0 ?_
       refine bh (S:=Nat) (fun k=>[(48,.af jL s.T),(49,.int .i64 s.T.length),(50,.int .i64 k)]) (fun _=>(aB,a7 s)::σ) (fun k=>k≤s.T.length∧∀t∈s.T.take k,t.1.length≤4∧t.2.1.length≤4∧t.2.2.1.length≤6) (fun k=>s.T.length-k) 0 ⟨⟨aY _,fun t h=>by cases h⟩,⟨rfl,rfl,rfl,trivial⟩,rfl⟩ ?_
       rintro k g ⟨aO,iM⟩
       have hk:k≤s.T.length:=aO
       have ht:∀t∈s.T.take k,t.1.length≤4∧t.2.1.length≤4∧t.2.2.1.length≤6:=iM
       clear aO iM
       refine aj (fun ab=>?_) (fun aq=>?_)
       ·have ab:k<s.T.length:=by have ab:(k:Int)<s.T.length:=ab;omega
        have gd:s.T.take (k+1)=s.T.take k++[s.T[k]]:=eT ab
        obtain⟨t,dR⟩:∃t:lM,s.T[k]=t:=⟨_,rfl⟩
        rw[dR]at gd
        refine aw.mk rfl (aX.mk t (by omega) ((get_some ab).trans (congrArg some dR)) ?_)
        intro cE
        refine ag 0 ?_
        refine aa 0 ?_
        refine aj (p:=4<(t.1.length:Int)) (fun d1=>?_) (fun d1=>?_)
        ·exact .drop 0 2 (.done ⟨false,rfl,rfl,fun h=>by cases h⟩)
        ·refine aa 0 ?_
         refine aj (p:=4<(t.2.1.length:Int)) (fun d2=>?_) (fun d2=>?_)
         ·exact .drop 0 2 (.done ⟨false,rfl,rfl,fun h=>by cases h⟩)
         ·refine aa 0 ?_
          refine aj (p:=6<(t.2.2.1.length:Int)) (fun d3=>?_) (fun d3=>?_)
          ·exact .drop 0 2 (.done ⟨false,rfl,rfl,fun h=>by cases h⟩)
          ·refine aM (k+1) (by show s.T.length-(k+1)<s.T.length-k;omega) ⟨ab,fun u hu=>?_⟩ ⟨rfl,rfl,aL (by omega),trivial⟩ (.drop 0 1 (.refl _))
           rw[gd]at hu
           rcases bU.1 hu with hu | hu
           ·exact ht u hu
           ·rw[bE.1 hu];omega
       ·have aq:k=s.T.length:=by have aq:¬(k:Int)<s.T.length:=aq;omega
        subst aq
        rw[dW]at ht
        exact .drop 0 1 (.done ⟨true,rfl,rfl,fun _=>⟨by omega,by omega,by omega,by omega,ht,by omega⟩⟩)
 ·have c2:¬(7<s.n):=c2
  refine aa 0 ?_
  refine aj (fun DC=>?_) (fun DC=>?_)
  ·have DC:10<s.w:=DC
   refine aa 0 ?_
   refine aj (fun sc=>?_) (fun sc=>?_)
   ·have sc:s.n≤256:=sc
    refine aa 0 ?_
    refine aj (fun Mp=>?_) (fun Mp=>?_)
    ·exact .drop 0 1 (.done ⟨false,rfl,rfl,fun h=>by cases h⟩)
    ·have Mp:¬(s.w≤1024):=Mp
     refine aa 0 ?_
     refine aj (fun uV=>?_) (fun uV=>?_)
     ·exact .drop 0 1 (.done ⟨false,rfl,rfl,fun h=>by cases h⟩)
     ·have uV:¬(8<(↑s.T.length:Int)):=uV
      refine aa 0 ?_
      refine aj (fun Mo=>?_) (fun Mo=>?_)
      ·exact .drop 0 1 (.done ⟨false,rfl,rfl,fun h=>by cases h⟩)
      ·have Mo:¬(16<(↑s.cI.length:Int)):=Mo
       refine aa 0 ?_
       refine aj (fun Mn=>?_) (fun Mn=>?_)
       ·exact .drop 0 1 (.done ⟨false,rfl,rfl,fun h=>by cases h⟩)
       ·have Mn:¬(10<(↑s.entry.length:Int)):=Mn
        refine aa 0 ?_
        refine aj (fun Mm=>?_) (fun Mm=>?_)
        ·exact .drop 0 1 (.done ⟨false,rfl,rfl,fun h=>by cases h⟩)
        ·have Mm:¬(20<(↑s.init.length:Int)):=Mm
         refine aa 0 ?_
         refine bh (S:=Nat) (fun k=>[(48,.af jL s.T),(49,.int .i64 s.T.length),(50,.int .i64 k)]) (fun _=>(aB,a7 s)::σ) (fun k=>k≤s.T.length∧∀t∈s.T.take k,t.1.length≤4∧t.2.1.length≤4∧t.2.2.1.length≤6) (fun k=>s.T.length-k) 0 ⟨⟨aY _,fun t h=>by cases h⟩,⟨rfl,rfl,rfl,trivial⟩,rfl⟩ ?_
         rintro k g ⟨aO,iM⟩
         have hk:k≤s.T.length:=aO
         have ht:∀t∈s.T.take k,t.1.length≤4∧t.2.1.length≤4∧t.2.2.1.length≤6:=iM
         clear aO iM
         refine aj (fun ab=>?_) (fun aq=>?_)
         ·have ab:k<s.T.length:=by have ab:(k:Int)<s.T.length:=ab;omega
          have gd:s.T.take (k+1)=s.T.take k++[s.T[k]]:=eT ab
          obtain⟨t,dR⟩:∃t:lM,s.T[k]=t:=⟨_,rfl⟩
          rw[dR]at gd
          refine aw.mk rfl (aX.mk t (by omega) ((get_some ab).trans (congrArg some dR)) ?_)
          intro cE
          refine ag 0 ?_
          refine aa 0 ?_
          refine aj (p:=4<(t.1.length:Int)) (fun d1=>?_) (fun d1=>?_)
          ·exact .drop 0 2 (.done ⟨false,rfl,rfl,fun h=>by cases h⟩)
          ·refine aa 0 ?_
           refine aj (p:=4<(t.2.1.length:Int)) (fun d2=>?_) (fun d2=>?_)
           ·exact .drop 0 2 (.done ⟨false,rfl,rfl,fun h=>by cases h⟩)
           ·refine aa 0 ?_
            refine aj (p:=6<(t.2.2.1.length:Int)) (fun d3=>?_) (fun d3=>?_)
            ·exact .drop 0 2 (.done ⟨false,rfl,rfl,fun h=>by cases h⟩)
            ·refine aM (k+1) (by show s.T.length-(k+1)<s.T.length-k;omega) ⟨ab,fun u hu=>?_⟩ ⟨rfl,rfl,aL (by omega),trivial⟩ (.drop 0 1 (.refl _))
             rw[gd]at hu
             rcases bU.1 hu with hu | hu
             ·exact ht u hu
             ·rw[bE.1 hu];omega
         ·have aq:k=s.T.length:=by have aq:¬(k:Int)<s.T.length:=aq;omega
          subst aq
          rw[dW]at ht
          exact .drop 0 1 (.done ⟨true,rfl,rfl,fun _=>⟨by omega,by omega,by omega,by omega,ht,by omega⟩⟩)
   ·have sc:¬(s.n≤256):=sc
    refine aa 0 ?_
    refine aj (fun Ml=>?_) (fun Ml=>?_)
    ·exact .drop 0 1 (.done ⟨false,rfl,rfl,fun h=>by cases h⟩)
    ·have Ml:¬(8<(↑s.T.length:Int)):=Ml
     refine aa 0 ?_
     refine aj (fun Mk=>?_) (fun Mk=>?_)
     ·exact .drop 0 1 (.done ⟨false,rfl,rfl,fun h=>by cases h⟩)
     ·have Mk:¬(16<(↑s.cI.length:Int)):=Mk
      refine aa 0 ?_
      refine aj (fun Mj=>?_) (fun Mj=>?_)
      ·exact .drop 0 1 (.done ⟨false,rfl,rfl,fun h=>by cases h⟩)
      ·have Mj:¬(10<(↑s.entry.length:Int)):=Mj
       refine aa 0 ?_
       refine aj (fun Mi=>?_) (fun Mi=>?_)
       ·exact .drop 0 1 (.done ⟨false,rfl,rfl,fun h=>by cases h⟩)
       ·have Mi:¬(20<(↑s.init.length:Int)):=Mi
        refine aa 0 ?_
        refine bh (S:=Nat) (fun k=>[(48,.af jL s.T),(49,.int .i64 s.T.length),(50,.int .i64 k)]) (fun _=>(aB,a7 s)::σ) (fun k=>k≤s.T.length∧∀t∈s.T.take k,t.1.length≤4∧t.2.1.length≤4∧t.2.2.1.length≤6) (fun k=>s.T.length-k) 0 ⟨⟨aY _,fun t h=>by cases h⟩,⟨rfl,rfl,rfl,trivial⟩,rfl⟩ ?_
        rintro k g ⟨aO,iM⟩
        have hk:k≤s.T.length:=aO
        have ht:∀t∈s.T.take k,t.1.length≤4∧t.2.1.length≤4∧t.2.2.1.length≤6:=iM
        clear aO iM
        refine aj (fun ab=>?_) (fun aq=>?_)
        ·have ab:k<s.T.length:=by have ab:(k:Int)<s.T.length:=ab;omega
         have gd:s.T.take (k+1)=s.T.take k++[s.T[k]]:=eT ab
         obtain⟨t,dR⟩:∃t:lM,s.T[k]=t:=⟨_,rfl⟩
         rw[dR]at gd
         refine aw.mk rfl (aX.mk t (by omega) ((get_some ab).trans (congrArg some dR)) ?_)
         intro cE
         refine ag 0 ?_
         refine aa 0 ?_
         refine aj (p:=4<(t.1.length:Int)) (fun d1=>?_) (fun d1=>?_)
         ·exact .drop 0 2 (.done ⟨false,rfl,rfl,fun h=>by cases h⟩)
         ·refine aa 0 ?_
          refine aj (p:=4<(t.2.1.length:Int)) (fun d2=>?_) (fun d2=>?_)
          ·exact .drop 0 2 (.done ⟨false,rfl,rfl,fun h=>by cases h⟩)
          ·refine aa 0 ?_
           refine aj (p:=6<(t.2.2.1.length:Int)) (fun d3=>?_) (fun d3=>?_)
           ·exact .drop 0 2 (.done ⟨false,rfl,rfl,fun h=>by cases h⟩)
           ·refine aM (k+1) (by show s.T.length-(k+1)<s.T.length-k;omega) ⟨ab,fun u hu=>?_⟩ ⟨rfl,rfl,aL (by omega),trivial⟩ (.drop 0 1 (.refl _))
            rw[gd]at hu
            rcases bU.1 hu with hu | hu
            ·exact ht u hu
            ·rw[bE.1 hu];omega
        ·have aq:k=s.T.length:=by have aq:¬(k:Int)<s.T.length:=aq;omega
         subst aq
         rw[dW]at ht
         exact .drop 0 1 (.done ⟨true,rfl,rfl,fun _=>⟨by omega,by omega,by omega,by omega,ht,by omega⟩⟩)
  ·have DC:¬(10<s.w):=DC
   refine aa 0 ?_
   refine aj (fun Mh=>?_) (fun Mh=>?_)
   ·exact .drop 0 1 (.done ⟨false,rfl,rfl,fun h=>by cases h⟩)
   ·have Mh:¬(8<(↑s.T.length:Int)):=Mh
    refine aa 0 ?_
    refine aj (fun Mg=>?_) (fun Mg=>?_)
    ·exact .drop 0 1 (.done ⟨false,rfl,rfl,fun h=>by cases h⟩)
    ·have Mg:¬(16<(↑s.cI.length:Int)):=Mg
     refine aa 0 ?_
     refine aj (fun Mf=>?_) (fun Mf=>?_)
     ·exact .drop 0 1 (.done ⟨false,rfl,rfl,fun h=>by cases h⟩)
     ·have Mf:¬(10<(↑s.entry.length:Int)):=Mf
      refine aa 0 ?_
      refine aj (fun Me=>?_) (fun Me=>?_)
      ·exact .drop 0 1 (.done ⟨false,rfl,rfl,fun h=>by cases h⟩)
      ·have Me:¬(20<(↑s.init.length:Int)):=Me
       refine aa 0 ?_
       refine bh (S:=Nat) (fun k=>[(48,.af jL s.T),(49,.int .i64 s.T.length),(50,.int .i64 k)]) (fun _=>(aB,a7 s)::σ) (fun k=>k≤s.T.length∧∀t∈s.T.take k,t.1.length≤4∧t.2.1.length≤4∧t.2.2.1.length≤6) (fun k=>s.T.length-k) 0 ⟨⟨aY _,fun t h=>by cases h⟩,⟨rfl,rfl,rfl,trivial⟩,rfl⟩ ?_
       rintro k g ⟨aO,iM⟩
       have hk:k≤s.T.length:=aO
       have ht:∀t∈s.T.take k,t.1.length≤4∧t.2.1.length≤4∧t.2.2.1.length≤6:=iM
       clear aO iM
       refine aj (fun ab=>?_) (fun aq=>?_)
       ·have ab:k<s.T.length:=by have ab:(k:Int)<s.T.length:=ab;omega
        have gd:s.T.take (k+1)=s.T.take k++[s.T[k]]:=eT ab
        obtain⟨t,dR⟩:∃t:lM,s.T[k]=t:=⟨_,rfl⟩
        rw[dR]at gd
        refine aw.mk rfl (aX.mk t (by omega) ((get_some ab).trans (congrArg some dR)) ?_)
        intro cE
        refine ag 0 ?_
        refine aa 0 ?_
        refine aj (p:=4<(t.1.length:Int)) (fun d1=>?_) (fun d1=>?_)
        ·exact .drop 0 2 (.done ⟨false,rfl,rfl,fun h=>by cases h⟩)
        ·refine aa 0 ?_
         refine aj (p:=4<(t.2.1.length:Int)) (fun d2=>?_) (fun d2=>?_)
         ·exact .drop 0 2 (.done ⟨false,rfl,rfl,fun h=>by cases h⟩)
         ·refine aa 0 ?_
          refine aj (p:=6<(t.2.2.1.length:Int)) (fun d3=>?_) (fun d3=>?_)
          ·exact .drop 0 2 (.done ⟨false,rfl,rfl,fun h=>by cases h⟩)
          ·refine aM (k+1) (by show s.T.length-(k+1)<s.T.length-k;omega) ⟨ab,fun u hu=>?_⟩ ⟨rfl,rfl,aL (by omega),trivial⟩ (.drop 0 1 (.refl _))
           rw[gd]at hu
           rcases bU.1 hu with hu | hu
           ·exact ht u hu
           ·rw[bE.1 hu];omega
       ·have aq:k=s.T.length:=by have aq:¬(k:Int)<s.T.length:=aq;omega
        subst aq
        rw[dW]at ht
        exact .drop 0 1 (.done ⟨true,rfl,rfl,fun _=>⟨by omega,by omega,by omega,by omega,ht,by omega⟩⟩)
theorem abF{s:Sy}(h:Jp s)(hi:bX s.init)(ht:∀t∈s.T,bX t.1∧bX t.2.1):Fit s:=by
 obtain⟨h1,h2,h3,h4,h5,_⟩:=h
 exact⟨hi,by omega,by omega,by omega,by omega,fun t hm=>⟨(ht t hm).1,(ht t hm).2,by have:=h5 t hm;omega,by have:=h5 t hm;omega,by have:=h5 t hm;omega⟩⟩
theorem Bq{f:FuncId}{xs:List AV}{σ:Hp}{K:AV→Hp→Prop}(i k b':Nat)(cs':List AV)(e:Sh)(hi:σ[i]?=some (b',cs'))(hk:cs'[k]?=some .ak)(h:CallAt Tryz.prog f K xs (σ.set i (b',cs'.set k (.af e [])))):CallAt Tryz.prog f K xs σ:=
 .mk [] K ⟨(ve h).1,fun F w vs cg aJ=>(ve h).2 F w vs cg (Qq aJ e hi hk)⟩ fun _ _ h=>h
theorem Bn{b off len es:Nat}{e:Sh}{l:List e.T}{xs ys:List AV}(h:eI b off len es e l (.tup xs) (.tup ys))(hl:ys.all AV.leaf=true):eI b off len es e l (.agg xs) (.agg ys):=by
 cases h with
 |refl=>exact .refl _
 |tup _ _ h1 h2=>exact .agg _ _ h1 (fun i y hy=>fN.1 hl y (dm hy)) h2
end Go.Proofs.YtnikdflhefijbaaGreat
