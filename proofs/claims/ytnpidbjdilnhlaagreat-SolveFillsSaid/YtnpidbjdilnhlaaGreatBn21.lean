import Derived.Test.YtnpidbjdilnhlaaGreatBn20
import Derived.Test.YtnpidbjdilnhlaaGreatBn13
namespace Go.Proofs.YtnpidbjdilnhlaaGreat
open Go.RowKit
set_option maxRecDepth 100000
theorem Ux(l:List Int)(x:Int)(σ:Hp)(hl:l.length≤1000000):ACalls Tryz.prog 202 [.af (.int .i64) l,.int .i64 x] σ (fun r σ'=>∃n:Int,r=.int .i64 n∧σ'=σ∧decide (0≤n)=l.any fun z=>decide (x=z)):=by
 refine okF Tryz.func202 (by kernel_rfl) ?_
 refine aU (S:=Nat) (fun s=>[(0,.af (.int .i64) l),(1,.int .i64 x),(7,.int .i64 l.length),(8,.int .i64 s)]) (fun _=>σ) (fun s=>s≤l.length∧((l.take s).any fun z=>decide (x=z))=false) (fun s=>l.length-s) 0 ⟨⟨Nat.zero_le _,rfl⟩,⟨rfl,rfl,rfl,rfl,trivial⟩,rfl⟩ ?_
 rintro k t ⟨aG,dS⟩
 have hk:k≤l.length:=aG
 have hn:((l.take k).any fun z=>decide (x=z))=false:=dS
 clear aG dS
 refine an (fun ab =>?_) (fun aq =>?_)
 ·have ab:k<l.length:=by have ab:(k:Int)<l.length:=ab;omega
  have hs:=kF ab fun z=>decide (x=z)
  rw[hn,Bool.false_or]at hs
  refine ah.mk rfl (aT.mk l[k] (by omega) (get_some ab) ?_)
  refine an (fun c =>?_) (fun c =>?_)
  ·have c:x=l[k]:=c
   have hp:(l.any fun z=>decide (x=z))=true:=List.any_eq_true.2 ⟨l[k],List.getElem_mem ab,decide_eq_true c⟩
   exact .done ⟨_,rfl,rfl,by rw[hp];exact decide_eq_true (by omega)⟩
  ·have c:¬x=l[k]:=c
   exact aH (k+1) (by show l.length-(k+1)<l.length-k;omega) ⟨ab,hs.trans (decide_eq_false c)⟩ ⟨rfl,rfl,rfl,aI (by omega),trivial⟩ (.refl _)
 ·have aq:k=l.length:=by have aq:¬(k:Int)<l.length:=aq;omega
  subst aq
  rw[List.take_length]at hn
  exact .done ⟨_,rfl,rfl,by rw[hn];rfl⟩
theorem Pe(l:List Int)(x:Int)(σ:Hp)(hl:l.length≤1000000):ACalls Tryz.prog 149 [.af (.int .i64) l,.int .i64 x] σ (aB (.bool (l.any fun z=>decide (x=z))) σ):=by
 refine okF Tryz.func149 (by kernel_rfl) ?_
 refine .mk [] _ (Ux l x _ hl) ?_
 rintro _ _ ⟨n,rfl,rfl,hn⟩
 rw[← hn]
 refine an (fun c =>?_) (fun c =>?_)
 ·have c:0≤n:=c
  rw[decide_eq_true c]
  exact .done ⟨rfl,rfl⟩
 ·have c:¬0≤n:=c
  rw[decide_eq_false c]
  exact .done ⟨rfl,rfl⟩
theorem UB(l:List Int)(σ:Hp)(hl:l.length≤1000000):ACalls Tryz.prog 150 [.af (.int .u64) l] σ (aB (.af (.int .u64) l) σ):=by
 refine (KJ l σ hl).fin ?_
 rintro v σ' ⟨acc,bc,rfl⟩
 exact jR (s:=.int .u64) [] bc rfl (ka l) (by decide) (.done ⟨rfl,rfl⟩)
def eE(s:Sy)(v:Int):List Int:=if (s.entry.any fun z=>decide (v=z))=true then s.init else iG s.ag s.w
theorem Vq(s:Sy)(v:Int)(σ:Hp)(hf:Fit s):ACalls Tryz.prog 99 [.agg (bg s),.int .i64 v] σ (aB (.af (.int .u64) (eE s v)) σ):=by
 refine okF Tryz.func99 (by kernel_rfl) ?_
 intro aC
 refine aa.mk 0 _ _ rfl rfl ?_
 refine cm [] (Pe s.entry v _ (Nat.le_trans hf.sc (by decide))) (fun c =>?_) (fun c =>?_)
 ·refine aa.mk 0 _ _ rfl rfl ?_
  refine az [] (UB s.init _ (Nat.le_trans hf.xU (by decide))) ?_
  exact .drop 0 1 (.done ⟨by unfold eE;rw[c];rfl,rfl⟩)
 ·refine aa.mk 0 _ _ rfl rfl ?_
  refine aa.mk 0 _ _ rfl rfl ?_
  refine az [] (Dy _ _ _) ?_
  exact .drop 0 1 (.done ⟨by unfold eE;rw[c];rfl,rfl⟩)
def Me(a:List (List Int)):Prop:=a.length≤100000∧∀x∈a,bJ x∧x.length≤10000
end Go.Proofs.YtnpidbjdilnhlaaGreat
namespace Go.Proofs.YtnpidbjdilnhlaaGreat
open Go.RowKit
set_option maxRecDepth 100000
structure Good(s:Sy):Prop where
 qV:bX s.ag s.w=true
 n1:1≤s.n
 n2:s.n≤256
 el:s.bQ.length≤1024
 Ff:∀e∈s.bQ,(0≤e.1∧e.1<s.n)∧0≤e.2.1∧e.2.1<s.n
 tl:(s.T.length:Int)=s.n
 GB:∀v∈s.entry,0≤v∧v<s.n
 ini:dZ s.ag s.w s.init=true
 Fq:∀t∈s.T,dP s.ag s.w t.1 t.2.1 t.2.2.1=0
theorem iu{n a:Int}:bG n a=true↔0≤a∧a<n:=by unfold bG;simp
theorem DP{s:Sy}(h:dm s=0):Good s:=by
 unfold dm at h
 split at h
 ·rename_i h1
  split at h
  ·rename_i h2
   split at h
   ·cases h
   ·rename_i h3
    split at h
    ·rename_i h4
     split at h
     ·cases h
     ·rename_i h5
      have h3:(s.entry.any fun v => !bG s.n v)=false:=by simpa using h3
      have h5:(s.T.any fun t => !decide (dP s.ag s.w t.1 t.2.1 t.2.2.1=0))=false:=by simpa using h5
      have hr:=h2.1
      unfold cU at hr
      simp only[Bool.and_eq_true,decide_eq_true_eq]at hr
      refine⟨h1,hr.1.1.1,hr.1.1.2,hr.1.2,fun e he =>?_,h2.2,fun v hv =>?_,h4,fun t ht =>?_⟩
      ·have:=List.all_eq_true.1 hr.2 e he
       rw[Bool.and_eq_true,iu,iu]at this
       exact this
      ·have:=List.any_eq_false.1 h3 v hv
       exact iu.1 (by simpa using this)
      ·have:=List.any_eq_false.1 h5 t ht
       simpa using this
    ·cases h
  ·cases h
 ·cases h
theorem P8{s:Sy}(h:Good s):dm s=0:=by
 refine (Bb h.qV ⟨?_,h.tl⟩ (List.any_eq_false.2 fun v hv =>?_) h.ini (List.any_eq_false.2 fun t ht =>?_)).symm
 ·unfold cU
  simp only[Bool.and_eq_true,decide_eq_true_eq]
  refine⟨⟨⟨h.n1,h.n2⟩,h.el⟩,List.all_eq_true.2 fun e he =>?_⟩
  rw[Bool.and_eq_true,iu,iu];exact h.Ff e he
 ·rw[iu.2 (h.GB v hv)];decide
 ·rw[h.Fq t ht];decide
def ni(s:Sy)(x:List Int)(v:Nat):List Int:=l8 s.ag (s.T.getD v ([],[],[],())).1 (s.T.getD v ([],[],[],())).2.1 (s.T.getD v ([],[],[],())).2.2.1 x
theorem Po{ag w:Int}{x:List Int}(h:dZ ag w x=true):x.length≤1024:=by
 have h1:=An h
 have:=sX ag w;omega
theorem L8{s:Sy}(hg:Good s){v:Nat}(h:(v:Int)<s.n):∃h2:v<s.T.length,s.T.getD v ([],[],[],())=s.T[v]:=by
 have h2:v<s.T.length:=by have:=hg.tl;omega
 exact⟨h2,by rw[List.getD_eq_getElem?_getD,List.getElem?_eq_getElem h2];rfl⟩
theorem Tf{s:Sy}(hf:Fit s)(hg:Good s){x:List Int}(gC:bJ x)(hv:dZ s.ag s.w x=true){v:Nat}(h:(v:Int)<s.n):dZ s.ag s.w (ni s x v)=true∧bJ (ni s x v):=by
 obtain⟨h2,e⟩:=L8 hg h
 unfold ni
 rw[e]
 have ho:=hf.ts _ (List.getElem_mem h2)
 exact⟨Qw ho.1 ho.2.1 gC (hg.Fq _ (List.getElem_mem h2)) hv,Qx gC⟩
theorem CP{s:Sy}(hf:Fit s)(hg:Good s)(v:Int):dZ s.ag s.w (eE s v)=true∧bJ (eE s v):=by
 unfold eE;split
 ·exact⟨hg.ini,hf.i64⟩
 ·exact⟨Ky hg.qV,Lj _ _⟩
theorem l6{i:TI}(hs:i.size=1){cs:List AV}{o:Nat}{v:AV}(hv:v.cells?=some [v])(ho:o<cs.length):ju i cs o v=some (cs.set o v):=by
 unfold ju
 rw[hv]
 simp only
 have e1:Nat.beq ([v]:List AV).length i.size=true:=by rw[hs];rfl
 have e2:Nat.ble (o+i.size) cs.length=true:=Nat.ble_eq_true_of_le (by omega)
 rw[e1,e2]
 rfl
theorem eO{i:TI}(hw:i.wide=false){cs:List AV}{o:Nat}{v:AV}(h:cs[o]?=some v):dy i cs o=some v:=by unfold dy;rw[hw];exact h
end Go.Proofs.YtnpidbjdilnhlaaGreat
namespace Go.Proofs.YtnpidbjdilnhlaaGreat
open Go.RowKit
set_option maxRecDepth 100000
def aZ(b:List Bool):List AV:=b.map .bool
theorem TW{b:List Bool}{k:Nat}(h:k<b.length){z:Int}(hz:z=k):(aZ b)[0+z.toNat*1]?=some (.bool (b.getD k false)):=by
 subst hz
 rw[Int.toNat_natCast,Nat.mul_one,Nat.zero_add]
 unfold aZ
 rw[List.getElem?_map,List.getElem?_eq_getElem h,List.getD_eq_getElem?_getD,List.getElem?_eq_getElem h];rfl
theorem TU(b:List Bool)(k:Nat)(x:Bool){z:Int}(hz:z=k):(aZ b).set (0+z.toNat*1) (.bool x)=aZ (b.set k x):=by
 subst hz
 rw[Int.toNat_natCast,Nat.mul_one,Nat.zero_add]
 unfold aZ
 rw[List.map_set]
theorem uL(n:Nat):bN [.bool false] n=aZ (List.replicate n false):=by
 induction n with
 | zero=>rfl
 | succ n ih=>show AV.bool false::bN [.bool false] n=_;rw[ih];rfl
def iT(n:Int)(b:List Bool)(a:Int):List Bool:=if 0≤a∧a<n then b.set a.toNat true else b
def iL(n:Int)(b:List Bool)(e:aK):List Bool:=if (0≤e.1∧e.1<n)∧(0≤e.2.1∧e.2.1<n)∧b.getD e.1.toNat false=true then b.set e.2.1.toNat true else b
def iw(n:Int)(l:List aK)(b:List Bool):List Bool:=l.foldl (iL n) b
def l4(n:Int)(l:List aK):Nat→List Bool→List Bool
 | 0,b=>b
 | k+1,b=>l4 n l k (iw n l b)
def gV(b:List Bool)(k:Nat):List Int:=((List.range k).filter fun i=>b.getD i false).map fun i:Nat=>(i:Int)
def nS(n:Int)(l:List aK)(fr:List Int):List Bool:=l4 n l n.toNat (fr.foldl (iT n) (List.replicate n.toNat false))
def qj(n:Int)(l:List aK)(fr:List Int):List Int:=gV (nS n l fr) n.toNat
theorem GR(n:Int)(b:List Bool)(a:Int):(iT n b a).length=b.length:=by unfold iT;split;exact List.length_set;rfl
theorem HC(n:Int)(b:List Bool)(e:aK):(iL n b e).length=b.length:=by unfold iL;split;exact List.length_set;rfl
theorem drop_cons{α:Type}{l:List α}{k:Nat}(h:k<l.length):l.drop k=l[k]::l.drop (k+1):=List.drop_eq_getElem_cons h
theorem OL(b:List Bool)(k:Nat):gV b (k+1)=gV b k++(if b.getD k false=true then [(k:Int)] else []):=by
 unfold gV
 rw[List.range_succ,List.filter_append,List.map_append]
 congr 1
 by_cases h:b.getD k false=true
 ·rw[if_pos h,List.filter_cons_of_pos (p:=fun i=>b.getD i false) h];rfl
 ·rw[if_neg h,List.filter_cons_of_neg (p:=fun i=>b.getD i false) h];rfl
theorem Ju{n:Int}{b:List Bool}{a:Int}(h:¬(0≤a∧a<n)):iT n b a=b:=if_neg h
theorem TV(b:List Bool):(aZ b).length=b.length:=List.length_map _
theorem rounds_succ(n:Int)(l:List aK)(k:Nat)(b:List Bool):l4 n l (k+1) b=l4 n l k (iw n l b):=rfl
theorem TL{n:Int}{b:List Bool}{e:aK}(h1:0≤e.1∧e.1<n)(h2:0≤e.2.1∧e.2.1<n)(h3:b.getD e.1.toNat false=true):iL n b e=b.set e.2.1.toNat true:=if_pos ⟨h1,h2,h3⟩
theorem Vb{n:Int}{b:List Bool}{e:aK}(h:¬((0≤e.1∧e.1<n)∧(0≤e.2.1∧e.2.1<n)∧b.getD e.1.toNat false=true)):iL n b e=b:=if_neg h
theorem p7{i:TI}(hs:i.size=1){b:List Bool}(x:Bool){a:Int}(h1:0≤a)(h2:a<b.length):ju i (aZ b) (0+a.toNat*1) (.bool x)=some (aZ (b.set a.toNat x)):=by
 rw[l6 hs rfl (by rw[TV];omega),TU b a.toNat x (by omega)]
theorem mV{i:TI}(hw:i.wide=false){b:List Bool}{a:Int}(h1:0≤a)(h2:a<b.length):dy i (aZ b) (0+a.toNat*1)=some (.bool (b.getD a.toNat false)):=eO hw (TW (by omega) (by omega))
theorem QJ(n:Nat)(l:List aK)(fr:List Int)(σ:Hp)(hl:l.length≤100000)(hn:n≤100000)(hf:fr.length≤100000):ACalls Tryz.prog 291 [.int .i64 n,.af bA l,.af (.int .i64) fr] σ (aB (.af (.int .i64) (qj n l fr)) σ):=by
 refine okF Tryz.func291 (by kernel_rfl) ?_
 refine ah.mk ⟨by omega,by omega,by omega,by decide⟩ ?_
 intro bq
 refine aU (S:=Nat×List Bool) (fun s=>[(0,.int .i64 n),(1,.af bA l),(7,.ae bq 0 n 1),(17,.af (.int .i64) fr),(18,.int .i64 fr.length),(19,.int .i64 s.1)]) (fun s=>(bq,aZ s.2)::σ) (fun s=>s.1≤fr.length∧s.2.length=n∧(fr.drop s.1).foldl (iT n) s.2=fr.foldl (iT n) (List.replicate n false)) (fun s=>fr.length-s.1) (0,List.replicate n false) ⟨⟨Nat.zero_le _,by simp,rfl⟩,⟨rfl,rfl,rfl,rfl,rfl,rfl,trivial⟩,by show _=(bq,aZ (List.replicate n false))::σ;rw[← uL];rfl⟩ ?_
 rintro⟨k,b⟩ g ⟨aG,pO,eA⟩
 have hk:k≤fr.length:=aG
 have hb:b.length=n:=pO
 have ha:(fr.drop k).foldl (iT n) b=fr.foldl (iT n) (List.replicate n false):=eA
 clear aG pO eA
 refine an (p:=(k:Int)<(fr.length:Int)) (fun ab =>?_) (fun aq =>?_)
 ·have ab:k<fr.length:=by omega
  obtain⟨a,hfa⟩:∃a,fr[k]=a:=⟨_,rfl⟩
  rw[drop_cons ab,hfa,List.foldl_cons]at ha
  refine ah.mk rfl (aT.mk a (by omega) ((get_some ab).trans (congrArg some hfa)) ?_)
  refine an (fun c1 =>?_) (fun c1 =>?_)
  ·have c1:0≤a:=c1
   refine an (fun c2 =>?_) (fun c2 =>?_)
   ·have c2:a<(↑n:Int):=c2
    refine ah.mk ⟨rfl,by omega,by omega⟩ ?_
    have hm:iT n b a=b.set a.toNat true:=if_pos ⟨c1,c2⟩
    refine ai.mk 0 _ _ rfl (p7 (b:=b) rfl true c1 (by omega)) ?_
    exact aH (k+1,b.set a.toNat true) (by show fr.length-(k+1)<fr.length-k;omega) ⟨ab,by rw[List.length_set];exact hb,by rw[← hm];exact ha⟩ ⟨rfl,rfl,rfl,rfl,rfl,aI (by omega),trivial⟩ (.refl _)
   ·have c2:¬(a<(↑n:Int)):=c2
    have hm:iT n b a=b:=Ju (by omega)
    exact aH (k+1,b) (by show fr.length-(k+1)<fr.length-k;omega) ⟨ab,hb,by rw[hm]at ha;exact ha⟩ ⟨rfl,rfl,rfl,rfl,rfl,aI (by omega),trivial⟩ (.refl _)
  ·have c1:¬(0≤a):=c1
   have hm:iT n b a=b:=Ju (by omega)
   exact aH (k+1,b) (by show fr.length-(k+1)<fr.length-k;omega) ⟨ab,hb,by rw[hm]at ha;exact ha⟩ ⟨rfl,rfl,rfl,rfl,rfl,aI (by omega),trivial⟩ (.refl _)
 ·have aq:k=fr.length:=by omega
  subst aq
  rw[List.drop_length]at ha
  have kA:b=fr.foldl (iT n) (List.replicate n false):=ha
  clear ha
  refine aU (S:=Nat×List Bool) (fun s=>[(0,.int .i64 n),(1,.af bA l),(7,.ae bq 0 n 1),(10,.int .i64 s.1)]) (fun s=>(bq,aZ s.2)::σ) (fun s=>s.1≤n∧s.2.length=n∧l4 n l (n-s.1) s.2=nS n l fr) (fun s=>n-s.1) (0,b) ⟨⟨Nat.zero_le _,hb,by unfold nS;rw[Int.toNat_natCast,← kA];rfl⟩,⟨rfl,rfl,rfl,rfl,trivial⟩,rfl⟩ ?_
  clear kA hb b
  rintro⟨k,b⟩ g ⟨aG,pO,eA⟩
  have hk:k≤n:=aG
  have hb:b.length=n:=pO
  have ha:l4 n l (n-k) b=nS n l fr:=eA
  clear aG pO eA
  refine an (p:=(k:Int)<(n:Int)) (fun ab =>?_) (fun aq =>?_)
  ·have ab:k<n:=by omega
   rw[show n-k=(n-(k+1))+1 by omega,rounds_succ]at ha
   refine aU (S:=Nat×List Bool) (fun s=>[(0,.int .i64 n),(1,.af bA l),(7,.ae bq 0 n 1),(10,.int .i64 k),(39,.af bA l),(40,.int .i64 l.length),(41,.int .i64 s.1)]) (fun s=>(bq,aZ s.2)::σ) (fun s=>s.1≤l.length∧s.2.length=n∧(l.drop s.1).foldl (iL n) s.2=iw n l b) (fun s=>l.length-s.1) (0,b) ⟨⟨Nat.zero_le _,hb,rfl⟩,⟨rfl,rfl,rfl,rfl,rfl,rfl,rfl,trivial⟩,rfl⟩ ?_
   rintro⟨j,c⟩ g2 ⟨fW,pN,Gb⟩
   have hj:j≤l.length:=fW
   have hc:c.length=n:=pN
   have hd:(l.drop j).foldl (iL n) c=iw n l b:=Gb
   clear fW pN Gb
   refine an (p:=(j:Int)<(l.length:Int)) (fun bY =>?_) (fun gh =>?_)
   ·have bY:j<l.length:=by omega
    obtain⟨e,hle⟩:∃e:aK,l[j]=e:=⟨_,rfl⟩
    rw[drop_cons bY,hle,List.foldl_cons]at hd
    refine ah.mk rfl (aT.mk e (by omega) ((get_some bY).trans (congrArg some hle)) ?_)
    have qY:¬((0≤e.1∧e.1<n)∧(0≤e.2.1∧e.2.1<n)∧c.getD e.1.toNat false=true)→(l.drop (j+1)).foldl (iL n) c=iw n l b:=fun h=>by rw[Vb h]at hd;exact hd
    have bF:¬((0≤e.1∧e.1<n)∧(0≤e.2.1∧e.2.1<n)∧c.getD e.1.toNat false=true)→(j+1≤l.length∧c.length=n∧(l.drop (j+1)).foldl (iL n) c=iw n l b):=fun h=>⟨bY,hc,qY h⟩
    intro aC
    refine ai.mk 0 _ _ rfl rfl ?_
    refine aa.mk 0 _ _ rfl rfl ?_
    refine an (p:=0≤e.1) (fun c1 =>?_) (fun c1 =>?_)
    rotate_left
    ·exact aH (j+1,c) (by show l.length-(j+1)<l.length-j;omega) (bF (by omega)) ⟨rfl,rfl,rfl,rfl,rfl,rfl,aI (by omega),trivial⟩ (.drop 0 1 (.refl _))
    refine aa.mk 0 _ _ rfl rfl ?_
    refine an (p:=e.1<(n:Int)) (fun c2 =>?_) (fun c2 =>?_)
    rotate_left
    ·exact aH (j+1,c) (by show l.length-(j+1)<l.length-j;omega) (bF (by omega)) ⟨rfl,rfl,rfl,rfl,rfl,rfl,aI (by omega),trivial⟩ (.drop 0 1 (.refl _))
    refine aa.mk 0 _ _ rfl rfl ?_
    refine an (p:=0≤e.2.1) (fun c3 =>?_) (fun c3 =>?_)
    rotate_left
    ·exact aH (j+1,c) (by show l.length-(j+1)<l.length-j;omega) (bF (by omega)) ⟨rfl,rfl,rfl,rfl,rfl,rfl,aI (by omega),trivial⟩ (.drop 0 1 (.refl _))
    refine aa.mk 0 _ _ rfl rfl ?_
    refine an (p:=e.2.1<(n:Int)) (fun c4 =>?_) (fun c4 =>?_)
    rotate_left
    ·exact aH (j+1,c) (by show l.length-(j+1)<l.length-j;omega) (bF (by omega)) ⟨rfl,rfl,rfl,rfl,rfl,rfl,aI (by omega),trivial⟩ (.drop 0 1 (.refl _))
    refine aa.mk 0 _ _ rfl rfl ?_
    refine ah.mk ⟨rfl,by omega,by omega⟩ ?_
    refine aa.gy 1 _ _ rfl (mV (b:=c) rfl c1 (by omega)) (fun c5 =>?_) (fun c5 =>?_)
    ·refine aa.mk 0 _ _ rfl rfl ?_
     refine ah.mk ⟨rfl,by omega,by omega⟩ ?_
     refine ai.mk 1 _ _ rfl (p7 (b:=c) rfl true c3 (by omega)) ?_
     rw[TL ⟨c1,c2⟩ ⟨c3,c4⟩ c5]at hd
     exact aH (j+1,c.set e.2.1.toNat true) (by show l.length-(j+1)<l.length-j;omega) ⟨bY,by rw[List.length_set];exact hc,hd⟩ ⟨rfl,rfl,rfl,rfl,rfl,rfl,aI (by omega),trivial⟩ (.drop 0 1 (.refl _))
    ·exact aH (j+1,c) (by show l.length-(j+1)<l.length-j;omega) (bF (by rw[c5];simp)) ⟨rfl,rfl,rfl,rfl,rfl,rfl,aI (by omega),trivial⟩ (.drop 0 1 (.refl _))
   ·have gh:j=l.length:=by omega
    subst gh
    rw[List.drop_length]at hd
    have hd:c=iw n l b:=hd
    exact aH (k+1,c) (by show n-(k+1)<n-k;omega) ⟨ab,hc,by show l4 n l (n-(k+1)) c=_;rw[hd];exact ha⟩ ⟨rfl,rfl,rfl,aI (by omega),trivial⟩ (.refl _)
  ·have aq:k=n:=by omega
   subst aq
   rw[Nat.sub_self]at ha
   have ha:b=nS k l fr:=ha
   have cO:∀j,(gV b j).length≤j:=fun j=>by unfold gV;rw[List.length_map];exact Nat.le_trans (List.length_filter_le _ _) (by simp)
   refine .wrap 13 _ rfl rfl ?_
   refine aU (S:=Nat×AV×Hp) (fun s=>[(0,.int .i64 k),(7,.ae bq 0 k 1),(13,.via s.2.1),(14,.int .i64 s.1)]) (fun s=>(bq,aZ b)::(s.2.2++σ)) (fun s=>s.1≤k∧Acc 1 (gV b s.1).length s.2.1 s.2.2 (ak (gV b s.1))) (fun s=>k-s.1) (0,.aj,[]) ⟨⟨Nat.zero_le _,.nil⟩,⟨rfl,rfl,rfl,rfl,trivial⟩,rfl⟩ ?_
   rintro⟨j,v,acc⟩ g2 ⟨fW,eR⟩
   have hj:j≤k:=fW
   have bc:Acc 1 (gV b j).length v acc (ak (gV b j)):=eR
   clear fW eR
   have A4:=OL b j
   refine an (p:=(j:Int)<(k:Int)) (fun ab =>?_) (fun aq =>?_)
   ·have ab:j<k:=by omega
    refine ah.mk ⟨rfl,by omega,by omega⟩ ?_
    refine aa.gy 0 _ _ rfl (mV rfl (by omega) (by omega)) (fun c5 =>?_) (fun c5 =>?_)
    ·rw[Int.toNat_natCast]at c5
     rw[c5,if_pos rfl]at A4
     intro aC
     refine dX [_,_] bc (.ae 0 aC 0 1 _ rfl (Nat.le_of_ble_eq_true rfl)) rfl (by have:=cO j;omega) (by decide) (by decide) (fun v' aP h' =>?_)
     refine aH (j+1,v',aP) (by show k-(j+1)<k-j;omega) ⟨ab,?_⟩ ⟨rfl,rfl,rfl,aI (by omega),trivial⟩ (.drop 0 1 (aF rfl))
     show Acc 1 (gV b (j+1)).length v' aP (ak (gV b (j+1)))
     rw[A4,List.length_append,ak,List.map_append]
     exact h'
    ·rw[Int.toNat_natCast]at c5
     rw[c5,if_neg Bool.false_ne_true,List.append_nil]at A4
     exact aH (j+1,v,acc) (by show k-(j+1)<k-j;omega) ⟨ab,by show Acc 1 (gV b (j+1)).length v acc (ak (gV b (j+1)));rw[A4];exact bc⟩ ⟨rfl,rfl,rfl,aI (by omega),trivial⟩ (.refl _)
   ·have aq:j=k:=by omega
    subst aq
    exact jR (s:=.int .i64) [_] bc rfl (fi _) (by decide) (.drop 0 1 (.done ⟨by rw[show gV b j=qj j l fr by unfold qj;rw[← ha,Int.toNat_natCast]],rfl⟩))
end Go.Proofs.YtnpidbjdilnhlaaGreat
