import Derived.Test.YtnikdflhefijbaaGreatBn8
import Derived.Test.YtnikdflhefijbaaGreatBn6
import Derived.Shelf.Slices.CompactI
import Derived.Shelf.Slices.In.SortNone
import Derived.Shelf.Sort.Plain
import Derived.Test.YtnikdflhefijbaaGreatBn5
namespace Go.Proofs.YtnikdflhefijbaaGreat
open Go.RowKit
set_option maxRecDepth 100000
structure Good(s:Sy):Prop where
 sW:cP s.what s.w=true
 n1:1≤s.n
 n2:s.n≤256
 el:s.aO.length≤1024
 ui:∀e∈s.aO,(0≤e.1∧e.1<s.n)∧0≤e.2.1∧e.2.1<s.n
 tl:(s.T.length:Int)=s.n
 ent:∀v∈s.entry,0≤v∧v<s.n
 ini:cM s.what s.w s.init=true
 BT:∀t∈s.T,fH s.what s.w t.1 t.2.1 t.2.2.1=0
theorem kW{n a:Int}:dN n a=true↔0≤a∧a<n:=by unfold dN;simp
theorem xB{s:Sy}(h:cm s=0):Good s:=by
 unfold cm at h
 split at h
 ·rename_i h1
  split at h
  ·rename_i h2
   split at h
   ·cases h
   ·rename_i h3
    split at h
    ·rename_i h4
     split at h
     ·cases h
     ·rename_i h5
      have h3:(s.entry.any fun v=> !dN s.n v)=false:=by simpa using h3
      have h5:(s.T.any fun t=> !decide (fH s.what s.w t.1 t.2.1 t.2.2.1=0))=false:=by simpa using h5
      have hr:=h2.1
      unfold fF at hr
      simp only[bO,decide_eq_true_eq]at hr
      refine⟨h1,hr.1.1.1,hr.1.1.2,hr.1.2,fun e he=>?_,h2.2,fun v hv=>?_,h4,fun t ht=>?_⟩
      ·have:=fK.1 hr.2 e he
       rw[bO,kW,kW]at this
       exact this
      ·have:=Cs.1 h3 v hv
       exact kW.1 (by simpa using this)
      ·have:=Cs.1 h5 t ht
       simpa using this
    ·cases h
  ·cases h
 ·cases h
theorem C8{s:Sy}(h:Good s):cm s=0:=by
 refine (Ny h.sW ⟨?_,h.tl⟩ (Cs.2 fun v hv=>?_) h.ini (Cs.2 fun t ht=>?_)).symm
 ·unfold fF
  simp only[bO,decide_eq_true_eq]
  refine⟨⟨⟨h.n1,h.n2⟩,h.el⟩,fK.2 fun e he=>?_⟩
  rw[bO,kW,kW];exact h.ui e he
 ·rw[kW.2 (h.ent v hv)];decide
 ·rw[h.BT t ht];decide
def gg(s:Sy)(x:List Int)(v:Nat):List Int:=fW s.what (s.T.getD v ([],[],[],())).1 (s.T.getD v ([],[],[],())).2.1 (s.T.getD v ([],[],[],())).2.2.1 x
def tS(s:Sy)(a:List (List Int))(v:Nat)(x:List Int)(e:bK):List Int:=if e.2.1=v then cN s.what x (gg s (a.getD e.1.toNat []) e.1.toNat) else x
def iy(s:Sy)(a:List (List Int))(k v:Nat):List Int:=(s.aO.take k).foldl (tS s a v) (fp s v)
def nz(s:Sy)(a:List (List Int))(k:Nat):List (List Int):=(List.range s.n.toNat).map (iy s a k)
def eW(s:Sy)(a:List (List Int)):List (List Int):=nz s a s.aO.length
theorem w5(s:Sy)(a:List (List Int))(k:Nat):(nz s a k).length=s.n.toNat:=by unfold nz;simp
theorem w9(s:Sy)(a:List (List Int)){k:Nat}(h:k<s.aO.length)(v:Nat):iy s a (k+1) v=tS s a v (iy s a k v) s.aO[k]:=by
 unfold iy;rw[ff h,uJ];rfl
theorem AR{s:Sy}{a:List (List Int)}:pJ s a=true↔(a.length:Int)=s.n∧∀x∈a,cM s.what s.w x=true:=by
 unfold pJ;rw[bO,decide_eq_true_eq,fK]
theorem AK{what w:Int}{x:List Int}(h:cM what w x=true):x.length≤1024:=by
 have h1:=tG h
 have:=AI what w;omega
theorem Et{s:Sy}(hg:Good s){v:Nat}(h:(v:Int)<s.n):∃h2:v<s.T.length,s.T.getD v ([],[],[],())=s.T[v]:=by
 have h2:v<s.T.length:=by have:=hg.tl;omega
 exact⟨h2,by rw[aZ,bh h2];rfl⟩
theorem DE{s:Sy}(hf:Fit s)(hg:Good s){x:List Int}(l8:aR x)(hv:cM s.what s.w x=true){v:Nat}(h:(v:Int)<s.n):cM s.what s.w (gg s x v)=true∧aR (gg s x v):=by
 obtain⟨h2,e⟩:=Et hg h
 unfold gg
 rw[e]
 have ho:=hf.ts _ (bP h2)
 exact⟨G9 ho.1 ho.2.1 l8 (hg.BT _ (bP h2)) hv,AO l8⟩
theorem Ls{s:Sy}(hf:Fit s)(hg:Good s)(v:Int):cM s.what s.w (fp s v)=true∧aR (fp s v):=by
 unfold fp;split
 ·exact⟨hg.ini,hf.i64⟩
 ·exact⟨HW hg.sW,Io _ _⟩
theorem CY{s:Sy}(hf:Fit s)(hg:Good s){a:List (List Int)}(ha:ki a)(hv:pJ s a=true)(v:Nat):∀k,k≤s.aO.length→cM s.what s.w (iy s a k v)=true∧aR (iy s a k v)
 | 0,_=>by
  show cM s.what s.w (fp s v)=true∧aR (fp s v)
  exact Ls hf hg v
 |k+1,h=>by
  have ih:=CY hf hg ha hv v k (by omega)
  rw[w9 s a (by omega)]
  unfold tS
  split
  ·have he:=hg.ui _ (bP (show k<s.aO.length by omega))
   have qU:=AR.1 hv
   generalize s.aO[k]=e at he
   have hl:e.1.toNat<a.length:=by omega
   have hm:a.getD e.1.toNat []∈a:=by rw[aZ,bh hl];exact bP hl
   have ho:=DE hf hg (ha.2 _ hm).1 (qU.2 _ hm) (v:=e.1.toNat) (by omega)
   exact⟨L2 ih.2 ho.2 ih.1 ho.1,xz ih.2 ho.2⟩
  ·exact ih
theorem QS{s:Sy}(hf:Fit s)(hg:Good s){a:List (List Int)}(ha:ki a)(hv:pJ s a=true):pJ s (eW s a)=true∧ki (eW s a):=by
 have hx:∀x∈eW s a,cM s.what s.w x=true∧aR x:=fun x hx=>by
  obtain⟨v,_,rfl⟩:=dT.1 hx
  exact CY hf hg ha hv v _ (a8 _)
 have hn:=hg.n1
 have o9:=hg.n2
 have hl:(eW s a).length=s.n.toNat:=w5 _ _ _
 exact⟨AR.2 ⟨by omega,fun x h=>(hx x h).1⟩,by omega,fun x h=>⟨(hx x h).2,by have:=AK (hx x h).1;omega⟩⟩
def uC(x:List Int):AV:=.ae (.int .u64) x
def jy(l:List (List Int)):List AV:=l.map uC
theorem Dg:∀l:List (List Int),jy l=l.flatMap (Sh.cells (.slice (.int .u64)))
 | []=>rfl
 |x::l=>congrArg (uC x :: ·) (Dg l)
theorem GD(l:List (List Int)):(jy l).length=l.length:=by unfold jy;simp
theorem adB(l:List (List Int)){i:Nat}(h:i<l.length):(jy l)[i]?=some (uC l[i]):=by unfold jy;rw[fm,bh h];rfl
theorem rH{i:TI}(hs:i.size=1){cs:List AV}{o:Nat}{v:AV}(hv:v.cells?=some [v])(ho:o<cs.length):kX i cs o v=some (cs.set o v):=by
 unfold kX
 rw[hv]
 simp only
 have e1:Nat.beq ([v]:List AV).length i.size=true:=by rw[hs];rfl
 have e2:Nat.ble (o+i.size) cs.length=true:=KO (by omega)
 rw[e1,e2]
 rfl
theorem jf{i:TI}(hw:i.wide=false){cs:List AV}{o:Nat}{v:AV}(h:cs[o]?=some v):ep i cs o=some v:=by unfold ep;rw[hw];exact h
theorem ahO(n:Nat):cD [.ai] n=List.replicate n AV.ai:=by
 induction n with
 |zero=>rfl
 |succ n ih=>simp[cD,ih,List.replicate_succ]
def mr(f:Nat→List Int)(n k:Nat):List AV:=jy ((List.range k).map f)++List.replicate (n-k) AV.ai
theorem Si(f:Nat→List Int)(n:Nat):mr f n 0=cD [.ai] n:=by rw[ahO];rfl
theorem TF(f:Nat→List Int)(n:Nat):mr f n n=jy ((List.range n).map f):=by unfold mr;simp
theorem QA(f:Nat→List Int){n k:Nat}(h:k≤n):(mr f n k).length=n:=by unfold mr;simp[GD];omega
theorem TE(f:Nat→List Int){n k:Nat}(h:k<n):(mr f n k).set k (uC (f k))=mr f n (k+1):=by
 unfold mr jy
 rw[List.set_append_right _ _ (by simp)]
 have e:n-k=(n-(k+1))+1:=by omega
 rw[e,KM]
 simp[List.range_succ]
theorem adA(l:List (List Int))(i:Nat)(x:List Int):(jy l).set i (uC x)=jy (l.set i x):=by unfold jy;rw[oc]
theorem YX(s:Sy)(a:List (List Int)){k:Nat}(h:k<s.aO.length){to:Nat}(ht:s.aO[k].2.1=to):nz s a (k+1)=(nz s a k).set to (cN s.what (iy s a k to) (gg s (a.getD s.aO[k].1.toNat []) s.aO[k].1.toNat)):=by
 refine List.ext_getElem (by simp[w5]) fun i h1 h2=>?_
 rw[w5]at h1
 rw[F5]
 simp only[nz,Cr,F8]
 rw[w9 s a h]
 unfold tS
 by_cases hi:to=i
 ·subst hi
  rw[ah rfl,ah ht]
 ·rw[ag hi,ag (by omega)]
def wk(e:Int)(l:List (List Int)):List (List Int):=if e=0 then l else []
def vP(s:Sy)(a:List (List Int)):Int:=if cm s=0 then (if pJ s a=true then 0 else 2) else cm s
theorem acY(s:Sy)(a:List (List Int))(σ:Hp)(hf:Fit s)(ha:ki a):ACalls Tryz.prog 239 [.agg (aW s),.ae (.slice (.int .u64)) a] σ (ay (.tup [.ae (.slice (.int .u64)) (wk (vP s a) (eW s a)),.int .i64 (vP s a)]) σ):=by
 refine ar Tryz.func239 ?_
 intro aB
 refine aa 0 ?_
 refine aw [] (yV s _ hf) ?_
 refine cX (fun c1=>?_) (fun c1=>?_)
 ·have c1:(!decide (cm s=0))=true:=c1
  have c1:¬cm s=0:=by simpa using c1
  have e:vP s a=cm s:=ag c1
  exact .nil (cd (.nil _) (.refl _)) (.drop 0 1 (.done ⟨by rw[e];unfold wk;rw[ag c1];rfl,rfl⟩))
 ·have c1:(!decide (cm s=0))=false:=c1
  have c1:cm s=0:=by simpa using c1
  have hg:=xB c1
  refine aa 0 ?_
  refine dC [] (MI s a _ ha) (fun c2=>?_) (fun c2=>?_)
  ·have e:vP s a=0:=by unfold vP;rw[ah c1,ah c2]
   obtain⟨N,hN⟩:∃N:Nat,s.n=N:=⟨s.n.toNat,by have:=hg.n1;omega⟩
   have hN1:=hg.n1
   have Pm:=hg.n2
   have qU:=AR.1 c2
   refine aa 0 ?_
   rw[hN]
   refine bc ?_
   intro bo
   have O3:(bo,cD [.ai] ((N:Int)).toNat)=(bo,mr (fun v=>fp s v) N 0):=by rw[Si];rfl
   refine bQ (S:=Nat) (fun k=>[(1,.ae (.slice (.int .u64)) a),(2,.ptr aB 0),(7,.af bo 0 N 1),(26,.int .i64 N),(27,.int .i64 k)]) (fun k=>(bo,mr (fun v=>fp s v) N k)::(aB,aW s)::σ) (fun k=>k≤N) (fun k=>N-k) 0 ⟨bA _,⟨rfl,rfl,rfl,rfl,rfl,trivial⟩,congrArg (· :: (aB,aW s)::σ) O3⟩ ?_
   intro k t aK
   have hk:k≤N:=aK
   clear aK
   refine ak (fun ab=>?_) (fun aq=>?_)
   ·have ab:k<N:=by have ab:(k:Int)<N:=ab;omega
    refine aa 1 ?_
    refine aw [] (VP s k _ hf) ?_
    refine aM ?_
    refine cT 0 rfl ((rH rfl rfl (by rw[QA _ hk];omega)).trans (congrArg some (show (mr (fun v=>fp s v) N k).set (0+((k:Int)).toNat*1) (uC (fp s k))=mr (fun v=>fp s v) N (k+1) by rw[dR,eA,bC];exact TE _ ab))) ?_
    exact aY (k+1) (by show N-(k+1)<N-k;omega) ab ⟨rfl,rfl,rfl,rfl,aS (by omega),trivial⟩ (.refl _)
   ·have aq:k=N:=by have aq:¬(k:Int)<N:=aq;omega
    subst aq
    refine aa 1 ?_
    have Ch:(bo,mr (fun v=>fp s v) k k)=(bo,jy (nz s a 0)):=by
     rw[TF]
     have:nz s a 0=(List.range k).map (fun v:Nat=>fp s v):=by
      unfold nz
      rw[hN,bC];rfl
     rw[this]
    have OV:=hg.el
    refine bQ (S:=Nat) (fun j=>[(1,.ae (.slice (.int .u64)) a),(2,.ptr aB 0),(7,.af bo 0 k 1),(38,.ae dB s.aO),(39,.int .i64 s.aO.length),(40,.int .i64 j)]) (fun j=>(bo,jy (nz s a j))::(aB,aW s)::σ) (fun j=>j≤s.aO.length) (fun j=>s.aO.length-j) 0 ⟨bA _,⟨rfl,rfl,rfl,rfl,rfl,rfl,trivial⟩,congrArg (· :: (aB,aW s)::σ) Ch⟩ ?_
    intro j t p8
    have hj:j≤s.aO.length:=p8
    clear p8
    refine ak (fun ab=>?_) (fun aq=>?_)
    ·have ab:j<s.aO.length:=by have ab:(j:Int)<s.aO.length:=ab;omega
     have he:=hg.ui _ (bP ab)
     have ye:=fun {to:Nat} (h:s.aO[j].2.1=to)=>YX s a ab h
     obtain⟨d,hd⟩:∃d:bK,s.aO[j]=d:=⟨_,rfl⟩
     rw[hd]at he ye
     refine aG.mk rfl (bE.mk d (by omega) ((get_some ab).trans (congrArg some hd)) ?_)
     obtain⟨from_,n5⟩:∃i:Nat,d.1=i:=⟨d.1.toNat,by omega⟩
     obtain⟨to,yd⟩:∃i:Nat,d.2.1=i:=⟨d.2.1.toNat,by omega⟩
     have ye:=ye yd
     obtain⟨hT,FF⟩:=Et hg (v:=from_) (by omega)
     have hA:from_<a.length:=by omega
     have hAe:a.getD d.1.toNat []=a[from_]:=by rw[n5,bC,aZ,bh hA];rfl
     have hv:=CY hf hg ha c2 to j hj
     have z8:=ha.2 _ (bP hA)
     have W2:=qU.2 _ (bP hA)
     have ho:=DE hf hg z8.1 W2 (v:=from_) (by omega)
     have mX:=hf.ts _ (bP hT)
     have htc:=hg.BT _ (bP hT)
     intro dc
     refine aj 0 ?_
     refine .quiet (by kernel_rfl) ?_
     refine aa 2 ?_
     refine aa 2 ?_
     refine aa 2 ?_
     refine aa 0 ?_
     refine aG.mk rfl ?_
     refine bE.mk s.T[from_] (by omega) (by rw[n5,bC];exact bh hT) ?_
     refine aa 0 ?_
     refine aG.mk rfl ?_
     refine bE.mk a[from_] (by omega) (by rw[n5,bC];exact bh hA) ?_
     have OL:fW s.what s.T[from_].1 s.T[from_].2.1 s.T[from_].2.2.1 a[from_]=gg s (a.getD d.1.toNat []) d.1.toNat:=by
      unfold gg
      rw[hAe,n5,bC,FF]
     have Pj:gg s (a.getD d.1.toNat []) d.1.toNat=gg s a[from_] from_:=by rw[hAe,n5,bC]
     refine aI [] (ot (aaZ s.what s.w s.T[from_].1 s.T[from_].2.1 s.T[from_].2.2.1 a[from_] _ mX.1 mX.2.1 z8.1 mX.2.2.1 mX.2.2.2.1 z8.2 (eH mX.2.2.2.2 (by decide)) htc W2) (congrArg (fun x=>AV.tup [.ae (.int .u64) x,.int .i64 0]) (OL.trans Pj))) ?_
     generalize gg s a[from_] from_=o at Pj ho
     refine .sched [13] (upto [13] 19 0) (by kernel_rfl) ?_
     refine aa 0 ?_
     refine aa 2 ?_
     refine aa 2 ?_
     refine aa 0 ?_
     refine aM ?_
     have hgk:(jy (nz s a j))[0+d.2.1.toNat*1]?=some (uC (iy s a j to)):=by
      rw[yd,bC,dR,eA,adB _ (by rw[w5];omega)]
      simp[nz]
     refine bf 1 rfl (jf rfl hgk) ?_
     refine aI [] (ad8 s.what s.w (iy s a j to) o _ hv.2 ho.2 (eH (AK hv.1) (by decide)) (eH (AK ho.1) (by decide)) hv.1 ho.1) ?_
     refine aM ?_
     have kj:(jy (nz s a j)).set (0+d.2.1.toNat*1) (uC (cN s.what (iy s a j to) o))=jy (nz s a (j+1)):=by
      rw[ye,Pj,yd,bC,dR,eA,adA]
     refine cT 1 rfl ((rH rfl rfl (by rw[GD,w5];omega)).trans (congrArg some kj)) ?_
     exact aY (j+1) (by show s.aO.length-(j+1)<s.aO.length-j;omega) ab ⟨rfl,rfl,rfl,rfl,rfl,aS (by omega),trivial⟩ (.drop 0 1 (.refl _))
    ·have aq:j=s.aO.length:=by have aq:¬(j:Int)<s.aO.length:=aq;omega
     subst aq
     refine .cJ 0 bo 0 k 1 _ (.slice (.int .u64)) (eW s a) rfl ?_ ⟨?_,rfl,by decide⟩ (cd .here (.refl _)) (.drop 0 1 (.done ⟨?_,rfl⟩))
     ·rw[gz,← Dg]
      exact ek (by rw[GD,w5,hN];omega)
     ·exact (w5 _ _ _).trans (by rw[hN];omega)
     ·rw[e];rfl
  ·have e:vP s a=2:=by unfold vP;rw[ah c1,c2];rfl
   exact .nil (cd (.nil _) (.refl _)) (.drop 0 1 (.done ⟨by rw[e];rfl,rfl⟩))
theorem ade(xs ys:List Int)(σ:Hp)(h1:xs.length≤1000000):ACalls Tryz.prog 244 ([.ae (.int .u64) xs,.ae (.int .u64) ys]++[]) σ (ay (.bool (decide (xs=ys))) σ):=U7 xs ys σ h1
theorem aaU(a b:List (List Int)):qx (fun x y=>decide (x=y)) a b=decide (a=b):=by
 rw[Bool.eq_iff_iff,CU,decide_eq_true_eq]
 constructor
 ·rintro⟨h1,h2⟩
  exact As h1 fun i q1 q2=>fk (h2 i q1 q2)
 ·rintro rfl
  exact⟨rfl,fun i q1 q2=>aT rfl⟩
def fM(s:Sy):List (List Int):=List.replicate s.n.toNat (fw s.what s.w)
theorem KZ(s:Sy):(fM s).length=s.n.toNat:=gl
theorem Ro(s:Sy)(σ:Hp)(hf:Fit s):ACalls Tryz.prog 237 [.agg (aW s)] σ (ay (.tup [.ae (.slice (.int .u64)) (wk (cm s) (fM s)),.int .i64 (cm s)]) σ):=by
 refine ar Tryz.func237 ?_
 intro aB
 refine aa 0 ?_
 refine aw [] (yV s _ hf) ?_
 refine cX (fun c1=>?_) (fun c1=>?_)
 ·have c1:(!decide (cm s=0))=true:=c1
  have c1:¬cm s=0:=by simpa using c1
  exact .nil (cd (.nil _) (.refl _)) (.drop 0 1 (.done ⟨by unfold wk;rw[ag c1];rfl,rfl⟩))
 ·have c1:(!decide (cm s=0))=false:=c1
  have c1:cm s=0:=by simpa using c1
  have hg:=xB c1
  obtain⟨N,hN⟩:∃N:Nat,s.n=N:=⟨s.n.toNat,by have:=hg.n1;omega⟩
  have hN1:=hg.n1
  have Pm:=hg.n2
  refine aa 0 ?_
  rw[hN]
  refine bc ?_
  intro bo
  have O3:(bo,cD [.ai] ((N:Int)).toNat)=(bo,mr (fun _=>fw s.what s.w) N 0):=by rw[Si];rfl
  refine bQ (S:=Nat) (fun k=>[(1,.ptr aB 0),(5,.af bo 0 N 1),(16,.int .i64 N),(17,.int .i64 k)]) (fun k=>(bo,mr (fun _=>fw s.what s.w) N k)::(aB,aW s)::σ) (fun k=>k≤N) (fun k=>N-k) 0 ⟨bA _,⟨rfl,rfl,rfl,rfl,trivial⟩,congrArg (· :: (aB,aW s)::σ) O3⟩ ?_
  intro k t aK
  have hk:k≤N:=aK
  clear aK
  refine ak (fun ab=>?_) (fun aq=>?_)
  ·have ab:k<N:=by have ab:(k:Int)<N:=ab;omega
   refine aa 1 ?_
   refine aa 1 ?_
   refine aw [] (Ht _ _ _) ?_
   refine aM ?_
   refine cT 0 rfl ((rH rfl rfl (by rw[QA _ hk];omega)).trans (congrArg some (show (mr (fun _=>fw s.what s.w) N k).set (0+((k:Int)).toNat*1) (uC (fw s.what s.w))=mr (fun _=>fw s.what s.w) N (k+1) by rw[dR,eA,bC];exact TE _ ab))) ?_
   exact aY (k+1) (by show N-(k+1)<N-k;omega) ab ⟨rfl,rfl,rfl,aS (by omega),trivial⟩ (.refl _)
  ·have aq:k=N:=by have aq:¬(k:Int)<N:=aq;omega
   subst aq
   have ai8:mr (fun _=>fw s.what s.w) k k=jy (fM s):=by
    rw[TF];unfold fM;rw[hN,bC,Kk,kS]
   refine .cJ 0 bo 0 k 1 _ (.slice (.int .u64)) (fM s) rfl ?_ ⟨?_,rfl,by decide⟩ (cd .here (.refl _)) (.drop 0 1 (.done ⟨?_,rfl⟩))
   ·rw[gz,← Dg,ai8]
    exact ek (by rw[GD];unfold fM;rw[gl,hN];omega)
   ·exact (KZ s).trans (by rw[hN];omega)
   ·unfold wk;rw[c1];rfl
def bN(b:List Bool):List AV:=b.map .bool
theorem aeQ{b:List Bool}{k:Nat}(h:k<b.length){z:Int}(hz:z=k):(bN b)[0+z.toNat*1]?=some (.bool (b.getD k false)):=by
 subst hz
 rw[bC,eA,dR]
 unfold bN
 rw[fm,bh h,aZ,bh h];rfl
theorem aeO(b:List Bool)(k:Nat)(x:Bool){z:Int}(hz:z=k):(bN b).set (0+z.toNat*1) (.bool x)=bN (b.set k x):=by
 subst hz
 rw[bC,eA,dR]
 unfold bN
 rw[oc]
theorem DA(n:Nat):cD [.bool false] n=bN (List.replicate n false):=by
 induction n with
 |zero=>rfl
 |succ n ih=>show AV.bool false::cD [.bool false] n=_;rw[ih];rfl
def xM(n:Int)(b:List Bool)(a:Int):List Bool:=if 0≤a∧a<n then b.set a.toNat true else b
def si(n:Int)(b:List Bool)(e:bK):List Bool:=if (0≤e.1∧e.1<n)∧(0≤e.2.1∧e.2.1<n)∧b.getD e.1.toNat false=true then b.set e.2.1.toNat true else b
def pF(n:Int)(l:List bK)(b:List Bool):List Bool:=l.foldl (si n) b
def u0(n:Int)(l:List bK):Nat→List Bool→List Bool
 | 0,b=>b
 |k+1,b=>u0 n l k (pF n l b)
def Nj(b:List Bool)(k:Nat):List Int:=((List.range k).filter fun i=>b.getD i false).map fun i:Nat=>(i:Int)
def DX(n:Int)(l:List bK)(fr:List Int):List Bool:=u0 n l n.toNat (fr.foldl (xM n) (List.replicate n.toNat false))
def MQ(n:Int)(l:List bK)(fr:List Int):List Int:=Nj (DX n l fr) n.toNat
theorem Qj(n:Int)(b:List Bool)(a:Int):(xM n b a).length=b.length:=by unfold xM;split;exact cR;rfl
theorem Rb(n:Int)(b:List Bool)(e:bK):(si n b e).length=b.length:=by unfold si;split;exact cR;rfl
theorem aeP(b:List Bool):(bN b).length=b.length:=cg _
theorem rounds_succ(n:Int)(l:List bK)(k:Nat)(b:List Bool):u0 n l (k+1) b=u0 n l k (pF n l b):=rfl
theorem yU{i:TI}(hs:i.size=1){b:List Bool}(x:Bool){a:Int}(h1:0≤a)(h2:a<b.length):kX i (bN b) (0+a.toNat*1) (.bool x)=some (bN (b.set a.toNat x)):=by
 rw[rH hs rfl (by rw[aeP];omega),aeO b a.toNat x (by omega)]
theorem tE{i:TI}(hw:i.wide=false){b:List Bool}{a:Int}(h1:0≤a)(h2:a<b.length):ep i (bN b) (0+a.toNat*1)=some (.bool (b.getD a.toNat false)):=jf hw (aeQ (by omega) (by omega))
def sX(l:List Int)(x:Int):Bool:=l.any fun z=>decide (x=z)
theorem DK{l:List Int}{x:Int}:sX l x=true↔x∈l:=by unfold sX;simp
theorem MD(l:List Int):(ao l).length=l.length:=cg _
def BU(n:Int)(l:List bK)(a b:Int):Bool:=sX (MQ n l [a]) b
def MR(n:Int)(l:List bK)(a:Int)(k:Nat):List Int:=((List.range k).filter fun b:Nat=>BU n l a b&&BU n l b a).map fun i:Nat=>(i:Int)
def rO(n:Int)(l:List bK)(a:Int):List Int:=MR n l a n.toNat
def Nv(l:List bK)(part told:List Int):Bool:=l.all fun e=> !(sX part e.2.1&&!sX part e.1&&!sX told e.1)
theorem Li{b:List Bool}{i j:Nat}{x:Bool}:(b.set i x).getD j false=if i=j∧j<b.length then x else b.getD j false:=by
 simp only[aZ,fj]
 by_cases h:i=j
 ·subst h
  by_cases h2:i<b.length
  ·simp[h2]
  ·simp[h2]
 ·simp[h]
theorem aag{n:Nat}{l:List bK}{a z:Int}:z∈rO n l a↔∃i:Nat,i<n∧(BU n l a i&&BU n l i a)=true∧z=i:=by
 unfold rO MR
 rw[dT,bC]
 constructor
 ·rintro⟨i,hi,rfl⟩
  rw[oe,gy]at hi
  exact⟨i,hi.1,hi.2,rfl⟩
 ·rintro⟨i,h1,h2,rfl⟩
  exact⟨i,by rw[oe,gy];exact⟨h1,h2⟩,rfl⟩
def cH(ps:List (List Int)):List AV:=ps.map (.ae (.int .i64))
theorem xl:∀ps:List (List Int),cH ps=ps.flatMap (Sh.cells (.slice (.int .i64)))
 | []=>rfl
 |p::ps=>congrArg (AV.ae (.int .i64) p :: ·) (xl ps)
theorem UH{nx:List Int}(h:0<nx.length):nx[((0:Int)).toNat]?=some (nx.headD 0):=by
 cases nx with
 |nil=>simp at h
 |cons z nx=>rfl
end Go.Proofs.YtnikdflhefijbaaGreat
namespace Go.Proofs.YtnikdflhefijbaaGreat
open Go.Shelf
def Yt:Go.Shelf.Ren:=⟨fun | 189=>312 | 125=>233 | 257=>338 | 128=>274 | 129=>275 | 294=>346 | 295=>347 | 296=>348 | 297=>349 | 298=>350 | 299=>351 | 216=>352 | 300=>353 | 301=>354 | 328=>360 | 329=>296 | 330=>297 | 331=>361 | 332=>362 | 215=>234 | 343=>365 | n=>n,fun | 28=>23 | 3=>3 | 46=>253 | 0=>0 | 51=>284 | 53=>56 | 4=>4 | 183=>308 | 182=>307 | 131=>312 | 5=>5 | 9=>9 | 218=>331 | 222=>335 | 228=>353 | 229=>50 | n=>n,fun | n=>n⟩
theorem My:Go.Proofs.Lays.n189 Tryz.prog Yt:= {
 mixed:=by kernel_rfl
 f125:=Tryz.func233.trans (congrArg some (by kernel_rfl))
 f128:=Tryz.func274.trans (congrArg some (by kernel_rfl))
 f129:=Tryz.func275.trans (congrArg some (by kernel_rfl))
 f189:=Tryz.func312.trans (congrArg some (by kernel_rfl))
 f215:=Tryz.func234.trans (congrArg some (by kernel_rfl))
 f216:=Tryz.func352.trans (congrArg some (by kernel_rfl))
 f257:=Tryz.func338.trans (congrArg some (by kernel_rfl))
 f294:=Tryz.func346.trans (congrArg some (by kernel_rfl))
 f295:=Tryz.func347.trans (congrArg some (by kernel_rfl))
 f296:=Tryz.func348.trans (congrArg some (by kernel_rfl))
 f297:=Tryz.func349.trans (congrArg some (by kernel_rfl))
 f298:=Tryz.func350.trans (congrArg some (by kernel_rfl))
 f299:=Tryz.func351.trans (congrArg some (by kernel_rfl))
 f300:=Tryz.func353.trans (congrArg some (by kernel_rfl))
 f301:=Tryz.func354.trans (congrArg some (by kernel_rfl))
 f328:=Tryz.func360.trans (congrArg some (by kernel_rfl))
 f329:=Tryz.func296.trans (congrArg some (by kernel_rfl))
 f330:=Tryz.func297.trans (congrArg some (by kernel_rfl))
 f331:=Tryz.func361.trans (congrArg some (by kernel_rfl))
 f332:=Tryz.func362.trans (congrArg some (by kernel_rfl))
 f343:=Tryz.func365.trans (congrArg some (by kernel_rfl))
 t0:=Tryz.underlying0
 a0:=Tryz.isAgg0
 z0:=Tryz.sizeOf0
 v0:=Tryz.zeroValue0
 t3:=Tryz.underlying3
 a3:=Tryz.isAgg3
 z3:=Tryz.sizeOf3
 v3:=Tryz.zeroValue3
 t4:=Tryz.underlying4
 a4:=Tryz.isAgg4
 z4:=Tryz.sizeOf4
 v4:=Tryz.zeroValue4
 t5:=Tryz.underlying5
 a5:=Tryz.isAgg5
 z5:=Tryz.sizeOf5
 v5:=Tryz.zeroValue5
 t9:=Tryz.underlying9
 a9:=Tryz.isAgg9
 z9:=Tryz.sizeOf9
 v9:=Tryz.zeroValue9
 t28:=Tryz.underlying23
 a28:=Tryz.isAgg23
 z28:=Tryz.sizeOf23
 v28:=Tryz.zeroValue23
 t46:=Tryz.underlying253
 a46:=Tryz.isAgg253
 z46:=Tryz.sizeOf253
 v46:=Tryz.zeroValue253
 t51:=Tryz.underlying284
 a51:=Tryz.isAgg284
 z51:=Tryz.sizeOf284
 v51:=Tryz.zeroValue284
 t53:=Tryz.underlying56
 a53:=Tryz.isAgg56
 z53:=Tryz.sizeOf56
 v53:=Tryz.zeroValue56
 t131:=Tryz.underlying312
 a131:=Tryz.isAgg312
 z131:=Tryz.sizeOf312
 v131:=Tryz.zeroValue312
 t182:=Tryz.underlying307
 a182:=Tryz.isAgg307
 z182:=Tryz.sizeOf307
 v182:=Tryz.zeroValue307
 t183:=Tryz.underlying308
 a183:=Tryz.isAgg308
 z183:=Tryz.sizeOf308
 v183:=Tryz.zeroValue308
 t218:=Tryz.underlying331
 a218:=Tryz.isAgg331
 z218:=Tryz.sizeOf331
 v218:=Tryz.zeroValue331
 t222:=Tryz.underlying335
 a222:=Tryz.isAgg335
 z222:=Tryz.sizeOf335
 v222:=Tryz.zeroValue335
 t228:=Tryz.underlying353
 a228:=Tryz.isAgg353
 z228:=Tryz.sizeOf353
 v228:=Tryz.zeroValue353
 t229:=Tryz.underlying50
 a229:=Tryz.isAgg50
 z229:=Tryz.sizeOf50
 v229:=Tryz.zeroValue50 }
def Ys:Go.Shelf.Ren:=⟨fun | 20=>313 | n=>n,fun | 22=>23 | 3=>3 | 4=>4 | 0=>0 | n=>n,fun | n=>n⟩
theorem Mx:Go.Proofs.Lays2.n20 Tryz.prog Ys:= {
 mixed:=by kernel_rfl
 f20:=Tryz.func313.trans (congrArg some (by kernel_rfl))
 t0:=Tryz.underlying0
 a0:=Tryz.isAgg0
 z0:=Tryz.sizeOf0
 v0:=Tryz.zeroValue0
 t3:=Tryz.underlying3
 a3:=Tryz.isAgg3
 z3:=Tryz.sizeOf3
 v3:=Tryz.zeroValue3
 t4:=Tryz.underlying4
 a4:=Tryz.isAgg4
 z4:=Tryz.sizeOf4
 v4:=Tryz.zeroValue4
 t22:=Tryz.underlying23
 a22:=Tryz.isAgg23
 z22:=Tryz.sizeOf23
 v22:=Tryz.zeroValue23
 i3:=by kernel_rfl }
set_option maxRecDepth 100000
section
variable {F:Nat→Prop} {w:World} {σ:Hp}
theorem acj(h:bu F w σ)(os:Array Obj):bH F w F (Go.Sort.grow w os)∧bu F (Go.Sort.grow w os) σ:=by
 have eF:(Go.Sort.grow w os).heap.size=w.heap.size+os.size:=by simp[Go.Sort.grow]
 have aq:∀b,b<w.heap.size→(Go.Sort.grow w os).heap[b]?=w.heap[b]?:=fun b hb=>by
  show (w.heap++os)[b]?=_
  rw[KN hb]
 have an:bH F w F (Go.Sort.grow w os):=⟨rfl,rfl,rfl,by omega,fun _ h=>h,fun b hb=>aq b (h.low b hb),fun b c T fz hc=>⟨c,fz,by
  rw[aq b (Aq.1 hc).1];exact hc,rfl⟩,a8 _⟩
 exact⟨an,h.nodup,fun p hp=>(h.holds p hp).mono an (aq _ (h.holds p hp).lt) (h.holds p hp).1,fun b hb=>by have:=h.low b hb;omega⟩
theorem nq(zs:List Int):(ao zs).length=zs.length:=by unfold ao;simp
theorem aev(zs:List Int){i:Nat}{x:AV}(h:(ao zs)[i]?=some x):∃h2:i<zs.length,x=.int .i64 zs[i]:=by
 unfold ao at h
 rw[fm]at h
 cases hz:zs[i]? with
 |none=>rw[hz]at h;cases h
 |some z=>
  rw[hz]at h
  obtain⟨h2,h3⟩:=ck.1 hz
  exact⟨h2,by cases h;rw[h3]⟩
theorem aez(zs:List Int){i:Nat}(h:i<zs.length):(ao zs)[i]?=some (.int .i64 zs[i]):=by unfold ao;rw[fm,bh h];rfl
theorem Holds.Mv{F:Nat→Prop}{w:World}{b:Nat}{cs:List AV}(h:Holds F w b cs)(hn:∀x∈cs,x.leaf=true):¬F b∧D3 F w b cs:=by
 obtain⟨hF,h | ⟨x,o,e,_,hx⟩ | ⟨L,t,e,_⟩⟩:=h
 ·exact⟨hF,h⟩
 ·subst e;have:=hn _ (cj ..);rw[GW hx]at this;cases this
 ·subst e;cases hn _ (cj ..)
theorem Tx(zs:List Int):∀x∈ao zs,x.leaf=true:=fun x hx=>by
 obtain⟨z,_,rfl⟩:=dT.1 hx;rfl
theorem HE{b n:Nat}{zs zs':List Int}(h:bu F w ((b,ao zs)::σ))(hl:zs'.length=zs.length)(os:Array Obj):
  bH F w F (Go.Sort.grow (Go.Sort.putRow (Value.int .i64) (Go.Sort.ahead w n) b 0 zs'.toArray) os)∧bu F (Go.Sort.grow (Go.Sort.putRow (Value.int .i64) (Go.Sort.ahead w n) b 0 zs'.toArray) os) ((b,ao zs')::σ):=by
 obtain⟨hF,c,T,hc,hle,l7⟩:=(h.holds _ (cj ..)).Mv (Tx zs)
 have hle:(ao zs).length≤c.size:=hle
 rw[nq]at hle
 have hc:w.heap[b]?=some (.cells c T (0,0)):=hc
 have ue:∀k,k<zs'.length→(Go.Sort.putCells (Value.int .i64) 0 zs'.toArray c).getD k undef=Value.int .i64 (zs'.getD k 0):=fun k hk=>by
  have Ab:k<c.size:=by omega
  unfold Go.Sort.putCells
  rw[im,Array.getElem?_mapIdx,qg Ab]
  simp only[Kn,F6]
  rw[if_pos ⟨Nat.zero_le _,by simpa using hk⟩,Nat.sub_zero,List.getD_eq_getElem?_getD,List.getElem?_eq_getElem hk]
  simp[hk]
 have key:=AL (F:=F) (w:=w) (w':=Go.Sort.putRow (Value.int .i64) (Go.Sort.ahead w n) b 0 zs'.toArray) h (j:=0) (b:=b) (cs:=ao zs) (cs':=ao zs') rfl hc (c':=Go.Sort.putCells (Value.int .i64) 0 zs'.toArray c) (by simp[Go.Sort.putCells]) (by rw[nq];simp[Go.Sort.putCells];omega)
  (fun i x hx=>by
   obtain⟨h2,rfl⟩:=aev zs' hx
   refine⟨rfl,?_⟩
   rw[ue i h2,aZ,bh h2]
   exact .int _ _)
  (fun k hk=>by
   show (w.heap.modify b _)[k]?=_
   rw[KB,ag (fun e=>hk e.symm)])
  (by
   show (w.heap.modify b _)[b]?=_
   rw[KB,ah rfl,hc];rfl)
  rfl rfl rfl (by simp[Go.Sort.ahead])
 obtain⟨k1,k2⟩:=key
 obtain⟨g1,g2⟩:=acj k2 os
 exact⟨k1.trans g1,g2⟩
theorem L4{b:Nat}{zs:List Int}(h:bu F w ((b,ao zs)::σ)):Go.Sort.Holds (Value.int .i64) w b 0 zs.toArray∧b<w.heap.size:=by
 obtain⟨hF,c,T,hc,hle,l7⟩:=(h.holds _ (cj ..)).Mv (Tx zs)
 have hc:w.heap[b]?=some (.cells c T (0,0)):=hc
 have hle:(ao zs).length≤c.size:=hle
 rw[nq]at hle
 refine⟨fun j hj=>?_,(Aq.1 hc).1⟩
 have hj:j<zs.length:=by simpa using hj
 have hr:=(l7 j _ (aez zs hj)).2.gJ
 rw[dR]
 constructor
 ·rw[HU hc,qg (by omega)]
  rw[im,qg (by omega)]at hr
  simp only[F6]at hr
  rw[hr]
  simp[hj]
 ·unfold World.frozen?
  simp[hc]
end
theorem YB(l:List Int):(Go.Lib.compact l).length≤l.length:=by
 unfold Go.Lib.compact Go.Lib.compactUpTo
 rw[cg]
 exact Nat.le_trans (List.length_filter_le _ _) (by simp)
def fN(zs:List Int):List Int:=zs.mergeSort fun x y=>decide (x≤y)
theorem AB(zs:List Int):(fN zs).length=zs.length:=PB ..
theorem MC:∀{l m:List Int},l.Pairwise (· < ·)→m.Pairwise (· < ·)→(∀x,x∈l↔x∈m)→l=m
 | [],[],_,_,_=>rfl
 | [],y::m,_,_,h=>absurd ((h y).2 (cj ..)) Al
 |x::l,[],_,_,h=>absurd ((h x).1 (cj ..)) Al
 |x::l,y::m,hl,hm,h=>by
  have h1:=Cw.1 hl
  have h2:=Cw.1 hm
  have aU:x=y:=by
   have a:=(h x).1 (cj ..)
   have b:=(h y).2 (cj ..)
   rcases eB.1 a with a | a
   ·exact a
   ·rcases eB.1 b with b | b
    ·exact b.symm
    ·have:=h1.1 y b;have:=h2.1 x a;omega
  subst aU
  refine congrArg (x :: ·) (MC h1.2 h2.2 fun z=>⟨fun hz=>?_,fun hz=>?_⟩)
  ·rcases eB.1 ((h z).1 (dp _ hz)) with e | e
   ·subst e;have:=h1.1 z hz;omega
   ·exact e
  ·rcases eB.1 ((h z).2 (dp _ hz)) with e | e
   ·subst e;have:=h2.1 z hz;omega
   ·exact e
theorem Qe(zs:List Int):(fN zs).Pairwise (·≤·):=by
 have:=List.pairwise_mergeSort (le:=fun x y:Int=>decide (x≤y)) (fun a b c h1 h2=>by simp at *;omega) (fun a b=>by simp;omega) zs
 exact this.imp fun h=>by simpa using h
theorem RG(zs:List Int)(x:Int):x∈fN zs↔x∈zs:=List.mem_mergeSort
theorem QU{l:List Int}(h:l.Pairwise (·≤·)){i j:Nat}(mA:i≤j)(hj:j<l.length):l[i]'(by omega)≤l[j]:=by
 by_cases e:i=j
 ·subst e;exact jL _
 ·exact PF.1 h i j (by omega) hj (by omega)
def zC(zs:List Int):List Int:=Go.Lib.compact (fN zs)
theorem YC{l:List Int}(h:l.Pairwise (·≤·)):(Go.Lib.compact l).Pairwise (· < ·):=by
 unfold Go.Lib.compact Go.Lib.compactUpTo
 rw[Ct]
 have hr:((List.range l.length).filter (Go.Lib.keeps l.toArray)).Pairwise fun i j=>i<j∧j<l.length∧Go.Lib.keeps l.toArray j=true:=by
  have h1:(List.range l.length).Pairwise fun i j=>i<j∧j<l.length:=by
   rw[PF]
   intro i j hi hj mA
   simp only[F8]
   exact⟨mA,by simpa using hj⟩
  rw[List.pairwise_filter]
  exact h1.imp fun mA _ hk=>⟨mA.1,mA.2,hk⟩
 refine hr.imp fun {i j} ⟨h1,h2,h3⟩=>?_
 have hk:l.toArray[j]!≠l.toArray[j-1]!:=by
  unfold Go.Lib.keeps at h3
  simp only[decide_eq_true_eq]at h3
  rcases h3 with h3 | h3
  ·omega
  ·exact h3
 have e1:l.toArray[j]! = l[j]:=by simp[h2]
 have e2:l.toArray[j-1]! = l[j-1]'(by omega):=by simp[show j-1<l.length by omega]
 have e3:l.toArray[i]! = l[i]'(by omega):=by simp[show i<l.length by omega]
 rw[e1,e2]at hk
 rw[e1,e3]
 have q1:=QU h (i:=i) (j:=j-1) (by omega) (by omega)
 have q2:=QU h (i:=j-1) (j:=j) (by omega) h2
 omega
theorem QE{l:List Int}(x:Int):x∈Go.Lib.compact l↔x∈l:=by
 unfold Go.Lib.compact Go.Lib.compactUpTo
 constructor
 ·intro hx
  obtain⟨j,hj,rfl⟩:=dT.1 hx
  have hj:=gy.1 (oe.1 hj).1
  have e1:l.toArray[j]! = l[j]:=by simp[hj]
  rw[e1];exact bP hj
 ·intro hx
  have hex:∃j,∃h:j<l.length,l[j]=x:=by
   obtain⟨j,hj,e⟩:=uL.1 hx
   exact⟨j,hj,e⟩
  obtain⟨j,⟨hj,e⟩,jH⟩:∃j,(∃h:j<l.length,l[j]=x)∧∀k,k<j→¬∃h:k<l.length,l[k]=x:=by
   obtain⟨j,hj⟩:=hex
   induction j using Nat.strongRecOn with
   |ind j ih=>
    by_cases hk:∃k,k<j∧∃h:k<l.length,l[k]=x
    ·obtain⟨k,h1,h2⟩:=hk
     exact ih k h1 h2
    ·exact⟨j,hj,fun k h1 h2=>hk ⟨k,h1,h2⟩⟩
  refine List.mem_map.2 ⟨j,List.mem_filter.2 ⟨List.mem_range.2 hj,?_⟩,by simp[hj,e]⟩
  unfold Go.Lib.keeps
  rw[decide_eq_true_eq]
  by_cases h0:j=0
  ·exact .inl h0
  ·refine .inr fun h=>jH (j-1) (by omega) ⟨by omega,?_⟩
   have e1:l.toArray[j]! = l[j]:=by simp[hj]
   have e2:l.toArray[j-1]! = l[j-1]'(by omega):=by simp[show j-1<l.length by omega]
   rw[e1,e2]at h
   rw[← h];exact e
theorem acI{zs:List Int}{n:Nat}(h:∀z∈zs,0≤z∧z<n):zC zs=((List.range n).map fun i:Nat=>(i:Int)).filter fun b=>decide (b∈zs):=by
 refine MC (YC (Qe zs)) ?_ fun x=>?_
 ·refine List.Pairwise.filter _ ?_
  rw[Ct,PF]
  intro i j hi hj mA
  simp only[F8]
  omega
 ·unfold zC
  rw[QE,RG,oe,decide_eq_true_eq]
  refine⟨fun hx=>⟨?_,hx⟩,fun hx=>hx.2⟩
  have:=h x hx
  exact dT.2 ⟨x.toNat,gy.2 (by omega),by omega⟩
theorem QB:Enters Tryz.prog 312:=enters_of Tryz.func312 (by kernel_rfl)
theorem QC:Enters Tryz.prog 313:=enters_of Tryz.func313 (by kernel_rfl)
theorem HI{vs:Array Value}(h:1=vs.size):∃v,vs = #[v]:=by
 refine⟨vs.getD 0 undef,Array.ext ?_ fun i h2 h3=>?_⟩
 ·simp[← h]
 ·have:i=0:=by omega
  subst this
  simp[Array.getD,h2]
theorem Mj{F:Nat→Prop}{w:World}:aA F w (.tup []) (.tuple #[]):=.tup [] #[] rfl fun i x h=>by simp at h
theorem agx(σ:Hp):ACalls Tryz.prog 312 [.ai] σ (ay (.tup []) σ):=by
 refine⟨QB,fun F w vs bR aF =>?_⟩
 obtain⟨v,rfl⟩:=HI bR.1
 have hv:aA F w .ai v:=bR.2 0 _ rfl
 cases hv
 have h:Calls Tryz.prog 312 #[.slice none 0 0] w fun e w'=>e=.returned (.tuple #[])∧w'=w:=Any.slices_Sort_int_none My none 0 w
 refine h.mono ?_
 rintro e w' ⟨rfl,rfl⟩
 exact⟨.tup [],.tuple #[],σ,F,rfl,.refl _ _,aF,Mj,rfl,rfl⟩
theorem M5(b:Nat)(zs:List Int)(n:Nat)(σ:Hp)(hz:zs.length=n)(hl:n≤1000000):ACalls Tryz.prog 312 [.af b 0 n 1] ((b,ao zs)::σ) (ay (.tup []) ((b,ao (fN zs))::σ)):=by
 subst hz
 refine⟨QB,fun F w vs bR aF =>?_⟩
 obtain⟨v,rfl⟩:=HI bR.1
 have hv:aA F w (.af b 0 zs.length 1) v:=bR.2 0 _ rfl
 obtain⟨a,cap,rfl,c,T,fz,m1,m2,m3,m4⟩:=hv.lr
 rcases m4 with ⟨rfl,_⟩ | ⟨_,_,h0,_⟩
 ·obtain⟨h1,h2⟩:=L4 aF
  have h:Calls Tryz.prog 312 #[.slice (some ⟨b,0,none⟩) zs.length cap] w fun e w'=>e=.returned (.tuple #[])∧∃n os,w'=Go.Sort.grow (Go.Sort.putRow (Value.int .i64) (Go.Sort.ahead w n) b 0 (fN zs).toArray) os:=Any.slices_Sort_int My b 0 cap zs w h1 h2 (by omega)
  refine h.mono ?_
  rintro e w' ⟨rfl,n,os,rfl⟩
  obtain⟨k1,k2⟩:=HE (n:=n) aF (AB zs) os
  exact⟨.tup [],.tuple #[],_,F,rfl,k1,k2,Mj,rfl,rfl⟩
 ·have hz:zs=[]:=iE.1 h0
  subst hz
  have h:Calls Tryz.prog 312 #[.slice (some a) 0 cap] w fun e w'=>e=.returned (.tuple #[])∧w'=w:=Any.slices_Sort_int_none My (some a) cap w
  have he:fN []=[]:=iE.1 (AB [])
  rw[he]
  refine h.mono ?_
  rintro e w' ⟨rfl,rfl⟩
  exact⟨.tup [],.tuple #[],_,F,rfl,.refl _ _,aF,Mj,rfl,rfl⟩
theorem agR(σ:Hp):ACalls Tryz.prog 313 [.ai] σ (ay .ai σ):=by
 refine⟨QC,fun F w vs bR aF =>?_⟩
 obtain⟨v,rfl⟩:=HI bR.1
 have hv:aA F w .ai v:=bR.2 0 _ rfl
 cases hv
 have h:Calls Tryz.prog 313 #[.slice none 0 0] w fun e w'=>e=.returned (.slice none 0 0)∧w'=w:=Any.slices_Compact_int_empty Mx none 0 w
 refine h.mono ?_
 rintro e w' ⟨rfl,rfl⟩
 exact⟨.ai,_,σ,F,rfl,.refl _ _,aF,.ai,rfl,rfl⟩
theorem agS(b:Nat)(zs:List Int)(n:Nat)(σ:Hp)(hz:zs.length=n)(hl:n≤1000000):ACalls Tryz.prog 313 [.af b 0 n 1] ((b,ao zs)::σ) (ay (.af b 0 (Go.Lib.compact zs).length 1) ((b,ao (Go.Lib.compact zs++List.replicate (n-(Go.Lib.compact zs).length) 0))::σ)):=by
 subst hz
 have hle:=YB zs
 refine⟨QC,fun F w vs bR aF =>?_⟩
 obtain⟨v,rfl⟩:=HI bR.1
 have hv:aA F w (.af b 0 zs.length 1) v:=bR.2 0 _ rfl
 obtain⟨a,cap,rfl,c,T,fz,m1,m2,m3,m4⟩:=hv.lr
 rcases m4 with ⟨rfl,m5⟩ | ⟨m5,m6,h0,m7⟩
 ·obtain⟨h1,h2⟩:=L4 aF
  have h:Calls Tryz.prog 313 #[.slice (some ⟨b,0,none⟩) zs.length cap] w fun e w'=>e=.returned (.slice (some ⟨b,0,none⟩) (Go.Lib.compact zs).length cap)∧∃q,w'=Go.Sort.putRow (Value.int .i64) (Go.Sort.ahead w q) b 0 (Go.Lib.compact zs++List.replicate (zs.length-(Go.Lib.compact zs).length) 0).toArray:=Any.slices_Compact_int Mx b 0 cap zs w h1 (by omega) m2
  refine h.mono ?_
  rintro e w' ⟨rfl,q,rfl⟩
  obtain⟨k1,k2⟩:=HE (n:=q) (zs':=Go.Lib.compact zs++List.replicate (zs.length-(Go.Lib.compact zs).length) 0) aF (by rw[bZ,gl];omega) #[]
  have hg:∀W:World,Go.Sort.grow W #[]=W:=fun W=>by unfold Go.Sort.grow;rw[Array.append_empty]
  rw[hg]at k1 k2
  obtain⟨c',sm,j5,dS⟩:=k1.rows b c T fz m1
  exact⟨.af b 0 _ 1,_,_,F,rfl,k1,k2,.af _ _ _ _ _ _ ⟨c',T,sm,j5,by omega,m3,.inl ⟨rfl,by omega⟩⟩,rfl,rfl⟩
 ·have hz:zs=[]:=iE.1 h0
  subst hz
  have h:Calls Tryz.prog 313 #[.slice (some a) 0 cap] w fun e w'=>e=.returned (.slice (some a) 0 cap)∧w'=w:=Any.slices_Compact_int_empty Mx (some a) cap w
  refine h.mono ?_
  rintro e w' ⟨rfl,rfl⟩
  exact⟨.af b 0 0 1,_,_,F,rfl,.refl _ _,aF,hv,rfl,rfl⟩
theorem aaD:zC []=[]:=KJ.2 fun x h=>by
 unfold zC at h
 rw[QE,RG]at h
 cases h
def jE(n:Int)(l:List bK)(a:Int):List Int:=(l.filter fun e=>decide (e.1=a)&&dN n a&&dN n e.2.1).map fun e=>e.2.1
def au(n:Int)(l:List bK)(a:Int):List Int:=((List.range n.toNat).map fun i:Nat=>(i:Int)).filter fun b=>decide (b∈jE n l a)
theorem aac(n:Int)(l:List bK)(a:Int):(jE n l a).length≤l.length:=by unfold jE;rw[cg];exact Gg _ _
theorem aab{n:Int}{l:List bK}{a z:Int}(h:z∈jE n l a):0≤z∧z<n:=by
 unfold jE at h
 obtain⟨e,he,rfl⟩:=dT.1 h
 have h4:=(oe.1 he).2
 simp only[bO,decide_eq_true_eq,kW]at h4
 exact h4.2
theorem Zb(n:Int)(l:List bK)(a:Int){k:Nat}(h:k<l.length):jE n (l.take (k+1)) a=jE n (l.take k) a++(if (decide (l[k].1=a)&&dN n a&&dN n l[k].2.1)=true then [l[k].2.1] else []):=by
 unfold jE
 rw[ff h,An,cW]
 congr 1
 by_cases hc:(decide (l[k].1=a)&&dN n a&&dN n l[k].2.1)=true
 ·rw[ah hc];have e:=gs9 (p:=fun e:bK=>decide (e.1=a)&&dN n a&&dN n e.2.1) (a:=l[k]) (l:=[]) hc;rw[e];rfl
 ·rw[ag hc];have e:=gp6 (p:=fun e:bK=>decide (e.1=a)&&dN n a&&dN n e.2.1) (a:=l[k]) (l:=[]) hc;rw[e];rfl
theorem abk(n:Int)(l:List bK)(a:Int):zC (jE n l a)=au n l a:=by
 unfold au
 exact acI fun z hz=>by have:=aab hz;omega
theorem BB(n:Int)(l:List bK)(a:Int)(σ:Hp)(hl:l.length≤100000):ACalls Tryz.prog 289 [.int .i64 n,.ae dB l,.int .i64 a] σ (ay (.ae (.int .i64) (au n l a)) σ):=by
 refine ar Tryz.func289 ?_
 refine .wrap 7 _ rfl rfl ?_
 refine bQ (S:=Nat×AV×Hp) (fun s=>[(0,.int .i64 n),(2,.int .i64 a),(7,.via s.2.1),(10,.ae dB l),(11,.int .i64 l.length),(12,.int .i64 s.1)]) (fun s=>s.2.2++σ) (fun s=>s.1≤l.length∧Acc 1 (jE n (l.take s.1) a).length s.2.1 s.2.2 (ao (jE n (l.take s.1) a))) (fun s=>l.length-s.1) (0,.ai,[]) ⟨⟨bA _,.nil⟩,⟨rfl,rfl,rfl,rfl,rfl,rfl,trivial⟩,rfl⟩ ?_
 rintro⟨k,v,acc⟩ g ⟨aK,gp⟩
 have hk:k≤l.length:=aK
 have bY:Acc 1 (jE n (l.take k) a).length v acc (ao (jE n (l.take k) a)):=gp
 clear aK gp
 have o0:(jE n (l.take k) a).length≤k:=by have:=aac n (l.take k) a;rw[sk]at this;omega
 refine ak (fun ab=>?_) (fun aq=>?_)
 ·have ab:k<l.length:=by have ab:(k:Int)<l.length:=ab;omega
  have hs:=Zb n l a ab
  obtain⟨d,hd⟩:∃d:bK,l[k]=d:=⟨_,rfl⟩
  rw[hd]at hs
  refine aG.mk rfl (bE.mk d (by omega) ((get_some ab).trans (congrArg some hd)) ?_)
  intro aB
  refine aj 0 ?_
  refine aa 0 ?_
  refine ak (p:=d.1=a) (fun c1=>?_) (fun c1=>?_)
  ·refine dC [] (IP n a _) (fun c2=>?_) (fun c2=>?_)
   ·refine aa 0 ?_
    refine dC [] (IP n d.2.1 _) (fun c3=>?_) (fun c3=>?_)
    ·rw[aT c1,c2,c3,ah (show (true&&true&&true)=true from rfl)]at hs
     refine aa 0 ?_
     intro dc
     refine jP [_,_] bY (.af 0 dc 0 1 _ rfl (cI rfl)) rfl (by omega) (by decide) (by decide) (fun v' bD h'=>?_)
     refine aY (k+1,v',bD) (by show l.length-(k+1)<l.length-k;omega) ⟨ab,?_⟩ ⟨rfl,rfl,rfl,rfl,rfl,aS (by omega),trivial⟩ (.drop 0 2 (aL rfl))
     show Acc 1 (jE n (l.take (k+1)) a).length v' bD (ao (jE n (l.take (k+1)) a))
     rw[hs,bZ,ao,cW]
     exact h'
    ·rw[c3,Kd,ag (by decide),ni]at hs
     refine aY (k+1,v,acc) (by show l.length-(k+1)<l.length-k;omega) ⟨ab,by show Acc 1 (jE n (l.take (k+1)) a).length v acc (ao (jE n (l.take (k+1)) a));rw[hs];exact bY⟩ ⟨rfl,rfl,rfl,rfl,rfl,aS (by omega),trivial⟩ (.drop 0 1 (aL rfl))
   ·rw[c2,Kd,Ke,ag (by decide),ni]at hs
    refine aY (k+1,v,acc) (by show l.length-(k+1)<l.length-k;omega) ⟨ab,by show Acc 1 (jE n (l.take (k+1)) a).length v acc (ao (jE n (l.take (k+1)) a));rw[hs];exact bY⟩ ⟨rfl,rfl,rfl,rfl,rfl,aS (by omega),trivial⟩ (.drop 0 1 (aL rfl))
  ·rw[bS c1,Ke,Ke,ag (by decide),ni]at hs
   refine aY (k+1,v,acc) (by show l.length-(k+1)<l.length-k;omega) ⟨ab,by show Acc 1 (jE n (l.take (k+1)) a).length v acc (ao (jE n (l.take (k+1)) a));rw[hs];exact bY⟩ ⟨rfl,rfl,rfl,rfl,rfl,aS (by omega),trivial⟩ (.drop 0 1 (aL rfl))
 ·have aq:k=l.length:=by have aq:¬(k:Int)<l.length:=aq;omega
  subst aq
  rw[fA]at bY o0
  have Nt:=abk n l a
  generalize jE n l a=zs at bY o0 Nt
  generalize hC:ao zs=C at bY
  generalize hm:zs.length=m at bY
  cases bY with
  |nil=>
   have hz:zs=[]:=iE.1 hm
   subst hz
   refine aw [] (agx _) ?_
   refine aw [] (agR _) ?_
   exact .nil (.nil (.int .i64)) (.done ⟨by rw[← Nt,aaD];rfl,rfl⟩)
  |af b m cs h=>
   subst hC
   refine aw [] (M5 b zs m σ hm (by omega)) ?_
   refine aw [] (agS b (fN zs) m σ ((AB zs).trans hm) (by omega)) ?_
   refine .cJ 0 b 0 _ 1 _ (.int .i64) (zC zs) rfl ?_ ⟨rfl,rfl,by decide⟩ .here (.done ⟨by rw[Nt],rfl⟩)
   rw[gz,← uY]
   unfold zC ao
   rw[cW,eA,KH (by rw[cg];exact a8 _)]
   exact ek (by rw[cg];exact a8 _)
def jn(a b:Int):Int:=if a=b∨b=0 then a else if a=0 then b else 1
theorem xn{a b:Int}(ha:aJ a=a)(hb:aJ b=b):kF a b=jn a b:=by unfold kF jn;rw[ha,hb]
theorem HN(a b:Int):jn a b=jn b a:=by
 unfold jn
 by_cases h1:a=b
 ·subst h1;rfl
 ·by_cases h2:a=0
  ·by_cases h3:b=0
   ·omega
   ·rw[ag (by omega),ah h2,ah (by omega)]
  ·by_cases h3:b=0
   ·rw[ah (by omega),ag (by omega),ah h3]
   ·rw[ag (by omega),ag h2,ag (by omega),ag h3]
theorem HM(a:Int):jn a 0=a:=by unfold jn;rw[ah (.inr rfl)]
theorem Du(a:Int):jn 0 a=a:=by rw[HN,HM]
theorem A4(a:Int):jn a a=a:=by unfold jn;rw[ah (.inl rfl)]
theorem Ec{a b:Int}(h:a≠b)(ha:a≠0)(hb:b≠0):jn a b=1:=by unfold jn;rw[ag (by omega),ag ha]
theorem MY(a:Int):jn a 1=1:=by
 by_cases h:a=1
 ·rw[h,A4]
 ·by_cases h0:a=0
  ·rw[h0,Du]
  ·exact Ec h h0 (by decide)
theorem Ts(a b c:Int):jn (jn a b) c=jn a (jn b c):=by
 by_cases ha:a=0
 ·rw[ha,Du,Du]
 by_cases hb:b=0
 ·rw[hb,HM,Du]
 by_cases hc:c=0
 ·rw[hc,HM,HM]
 by_cases h1:a=b
 ·subst h1
  by_cases h2:a=c
  ·subst h2;rw[A4]
  ·rw[A4,Ec h2 ha hc,MY]
 ·rw[Ec h1 ha hb,HN 1 c,MY]
  by_cases h2:b=c
  ·subst h2;rw[A4,Ec h1 ha hb]
  ·rw[Ec h2 hb hc,MY]
theorem uV{a b:List Int}(ha:okW a=true)(hb:okW b=true){i:Nat}(h:i<a.length)(h2:i<b.length):wd (cN 3 a b) i=jn (wd a i) (wd b i):=by
 rw[y8 h h2,rL,xn (xw ha h) (xw hb h2)]
theorem uU{what w:Int}{a b:List Int}(va:cM what w a=true)(vb:cM what w b=true):a.length=b.length:=by have h1:=tG va;have h2:=tG vb;omega
theorem abS(what:Int)(x y:Bool):jz what x y=jz what y x:=by unfold jz;split <;> cases x <;> cases y <;> rfl
theorem aa3(what:Int)(x y z:Bool):jz what (jz what x y) z=jz what x (jz what y z):=by unfold jz;split <;> cases x <;> cases y <;> cases z <;> rfl
structure eI(what w:Int)(a:List Int):Prop where
 v:cM what w a=true
 cE:aR a
theorem eI.join{what w:Int}{a b:List Int}(ha:eI what w a)(hb:eI what w b):eI what w (cN what a b):=⟨L2 ha.cE hb.cE ha.v hb.v,xz ha.cE hb.cE⟩
theorem Dm{what w:Int}{x y:List Int}(hx:eI what w x)(hy:eI what w y)(h3:what=3→∀i,i<x.length→wd x i=wd y i)(hs:what=1∨what=2→∀i k,i<x.length→k<64→eg x i k=eg y i k):x=y:=by
 have hl:=uU hx.v hy.v
 by_cases h:what=3
 ·exact zc hl (h3 h)
 ·exact HC hx.cE hy.cE hl (hs (Ic (mN hx.v) h))
theorem join_comm{what w:Int}{a b:List Int}(ha:eI what w a)(hb:eI what w b):cN what a b=cN what b a:=by
 have hl:=uU ha.v hb.v
 refine Dm (ha.join hb) (hb.join ha) (fun h3 i hi=>?_) (fun hs i k hi _=>?_)
 ·subst h3
  rw[jc hl]at hi
  have va:=((jR (mN ha.v) rfl).1 ha.v).2
  have vb:=((jR (mN hb.v) rfl).1 hb.v).2
  rw[uV va vb hi (by omega),uV vb va (by omega) hi,HN]
 ·rw[jc hl]at hi
  rw[pA hs ha.cE hb.cE hl i k hi,pA hs hb.cE ha.cE hl.symm i k (by omega),abS]
theorem join_assoc{what w:Int}{a b c:List Int}(ha:eI what w a)(hb:eI what w b)(hc:eI what w c):cN what (cN what a b) c=cN what a (cN what b c):=by
 have hl:=uU ha.v hb.v
 have pc:=uU hb.v hc.v
 have l1:=jc (what:=what) hl
 have l2:=jc (what:=what) pc
 refine Dm ((ha.join hb).join hc) (ha.join (hb.join hc)) (fun h3 i hi=>?_) (fun hs i k hi _=>?_)
 ·subst h3
  rw[jc (by omega),l1]at hi
  have o:∀{x:List Int},eI 3 w x→okW x=true:=fun h=>((jR (mN h.v) rfl).1 h.v).2
  rw[uV (o (ha.join hb)) (o hc) (by omega) (by omega),uV (o ha) (o hb) (by omega) (by omega),uV (o ha) (o (hb.join hc)) (by omega) (by omega),uV (o hb) (o hc) (by omega) (by omega),Ts]
 ·rw[jc (by omega),l1]at hi
  rw[pA hs (ha.join hb).cE hc.cE (by omega) i k (by omega),pA hs ha.cE hb.cE hl i k (by omega),pA hs ha.cE (hb.join hc).cE (by omega) i k (by omega),pA hs hb.cE hc.cE pc i k (by omega),aa3]
theorem join_self{what w:Int}{a:List Int}(ha:eI what w a):cN what a a=a:=by
 refine Dm (ha.join ha) ha (fun h3 i hi=>?_) (fun hs i k hi _=>?_)
 ·subst h3
  rw[jc rfl]at hi
  have va:=((jR (mN ha.v) rfl).1 ha.v).2
  rw[uV va va hi hi,A4]
 ·rw[jc rfl]at hi
  rw[pA hs ha.cE ha.cE rfl i k hi,(MT _ (eg a i k) (eg a i k)).2.2]
def dE(what w:Int)(a b:List Int):Prop:=eI what w a∧eI what w b∧cN what a b=b
theorem dE.refl{what w:Int}{a:List Int}(h:eI what w a):dE what w a a:=⟨h,h,join_self h⟩
theorem dE.trans{what w:Int}{a b c:List Int}(h1:dE what w a b)(h2:dE what w b c):dE what w a c:=by
 refine⟨h1.1,h2.2.1,?_⟩
 have:=join_assoc h1.1 h1.2.1 h2.2.1
 rw[h1.2.2,h2.2.2]at this
 exact this.symm
theorem dE.aiJ{what w:Int}{a b:List Int}(h1:dE what w a b)(h2:dE what w b a):a=b:=by
 rw[← h2.2.2,join_comm h2.1 h1.1];exact h1.2.2
theorem dE.left{what w:Int}{a b:List Int}(ha:eI what w a)(hb:eI what w b):dE what w a (cN what a b):=by
 refine⟨ha,ha.join hb,?_⟩
 rw[← join_assoc ha ha hb,join_self ha]
theorem dE.right{what w:Int}{a b:List Int}(ha:eI what w a)(hb:eI what w b):dE what w b (cN what a b):=by
 rw[join_comm ha hb];exact dE.left hb ha
theorem dE.join{what w:Int}{a b c:List Int}(h1:dE what w a c)(h2:dE what w b c):dE what w (cN what a b) c:=by
 refine⟨h1.1.join h2.1,h1.2.1,?_⟩
 rw[join_assoc h1.1 h2.1 h1.2.1,h2.2.2,h1.2.2]
theorem dE.mono{what w:Int}{a b c d:List Int}(h1:dE what w a c)(h2:dE what w b d):dE what w (cN what a b) (cN what c d):=
 dE.join (h1.trans (dE.left h1.2.1 h2.2.1)) (h2.trans (dE.right h1.2.1 h2.2.1))
theorem Md{what w:Int}{a b:List Int}(ha:aR a)(hb:aR b):rK what w a b=true↔dE what w a b:=by
 rw[aaQ]
 exact⟨fun h=>⟨⟨h.1,ha⟩,⟨h.2.1,hb⟩,h.2.2⟩,fun h=>⟨h.1.v,h.2.1.v,h.2.2⟩⟩
theorem bot_le{what w:Int}{a:List Int}(ha:eI what w a):dE what w (fw what w) a:=by
 have hi:=mN ha.v
 have hb:eI what w (fw what w):=⟨HW hi,Io _ _⟩
 have hl:=uU hb.v ha.v
 refine⟨hb,ha,Dm (hb.join ha) ha (fun h3 i fe=>?_) (fun hs i k fe hk=>?_)⟩
 ·subst h3
  rw[jc hl]at fe
  have va:=((jR hi rfl).1 ha.v).2
  have vb:=((jR hi rfl).1 hb.v).2
  rw[uV vb va fe (by omega)]
  have:wd (fw 3 w) i=0:=by
   have e:fw 3 w=List.replicate (eN 3 w).toNat 0:=ag (fun h=>absurd h.1 (by decide))
   rw[e]at fe ⊢
   rw[kZ _ fe,KG]
  rw[this,Du]
 ·rw[jc hl]at fe
  rw[pA hs hb.cE ha.cE hl i k fe]
  rcases hs with rfl | rfl
  ·have e:fw 1 w=List.replicate (eN 1 w).toNat 0:=ag (fun h=>absurd h.1 (by decide))
   have h0:eg (fw 1 w) i k=false:=by
    unfold eg
    rw[e]at fe ⊢
    rw[kZ _ fe,KG];exact Hb k
   rw[h0];exact po _
  ·have e:fw 2 w=fg w:=ah ⟨rfl,hi⟩
   have fa:=(qo hi (by decide)).1 ha.v
   rw[e]at fe ⊢
   rw[np]at fe
   show (eg (fg w) i k&&eg a i k)=eg a i k
   by_cases hc:64*i+k<eE w
   ·have h1:eg (fg w) i k=true:=by
     unfold eg
     rw[Dq w fe,bC,KF]
     exact aT (by omega)
    rw[h1,wR]
   ·have h2:=(rD ha.cE (ou fa)).1 fa i k (by rw[ou fa];exact fe) hk (by omega)
    rw[h2,Kd]
theorem ZB{what w:Int}{g k a b:List Int}{l:List dg}(hg:aR g)(hk:aR k)(hc:fH what w g k l=0)(h:dE what w a b):dE what w (fW what g k l a) (fW what g k l b):=by
 have:=(agZ hg hk h.1.cE h.2.1.cE hc h.1.v h.2.1.v).1
 rw[h.2.2,Md (AO h.1.cE) (AO h.2.1.cE)]at this
 exact this
structure ic(s:Sy)(a:List (List Int)):Prop where
 len:(a.length:Int)=s.n
 val:∀x∈a,eI s.what s.w x
theorem Mh{s:Sy}{a:List (List Int)}(h:pJ s a=true)(ha:ki a):ic s a:=
 ⟨(AR.1 h).1,fun x hx=>⟨(AR.1 h).2 x hx,(ha.2 x hx).1⟩⟩
theorem ic.cz{s:Sy}{a:List (List Int)}(h:ic s a):pJ s a=true:=AR.2 ⟨h.len,fun x hx=>(h.val x hx).v⟩
theorem ic.ok{s:Sy}{a:List (List Int)}(hg:Good s)(h:ic s a):ki a:=by
 have h1:=h.len
 have h2:=hg.n2
 exact⟨by omega,fun x hx=>⟨(h.val x hx).cE,by have:=AK (h.val x hx).v;omega⟩⟩
theorem ic.get{s:Sy}{a:List (List Int)}(h:ic s a){i:Nat}(hi:(i:Int)<s.n):eI s.what s.w (a.getD i []):=by
 have hl:=h.len
 have ab:i<a.length:=by omega
 rw[aZ,bh ab]
 exact h.val _ (bP ab)
def kN(s:Sy)(a b:List (List Int)):Prop:=ic s a∧ic s b∧∀i:Nat,(i:Int)<s.n→dE s.what s.w (a.getD i []) (b.getD i [])
theorem LW{s:Sy}(hf:Fit s)(hg:Good s){x y:List Int}(h:dE s.what s.w x y){v:Nat}(hv:(v:Int)<s.n):dE s.what s.w (gg s x v) (gg s y v):=by
 obtain⟨h2,e⟩:=Et hg hv
 unfold gg
 rw[e]
 have ho:=hf.ts _ (bP h2)
 exact ZB ho.1 ho.2.1 (hg.BT _ (bP h2)) h
theorem GS{s:Sy}(hf:Fit s)(hg:Good s)(v:Int):eI s.what s.w (fp s v):=⟨(Ls hf hg v).1,(Ls hf hg v).2⟩
theorem RE{s:Sy}(hf:Fit s)(hg:Good s){a:List (List Int)}(h:ic s a)(v k:Nat)(hk:k≤s.aO.length):eI s.what s.w (iy s a k v):=
 ⟨(CY hf hg (h.ok hg) h.cz v k hk).1,(CY hf hg (h.ok hg) h.cz v k hk).2⟩
theorem yT{s:Sy}(hf:Fit s)(hg:Good s){a:List (List Int)}(h:ic s a):ic s (eW s a):=Mh (QS hf hg (h.ok hg) h.cz).1 (QS hf hg (h.ok hg) h.cz).2
theorem CZ(s:Sy)(a:List (List Int)){i:Nat}(h:(i:Int)<s.n):(eW s a).getD i []=iy s a s.aO.length i:=by
 unfold eW nz
 rw[aZ,fm,tf (by omega)];rfl
theorem QR{s:Sy}(hf:Fit s)(hg:Good s){a b:List (List Int)}(h:kN s a b)(v:Nat):∀k,k≤s.aO.length→dE s.what s.w (iy s a k v) (iy s b k v)
 | 0,_=>dE.refl (GS hf hg v)
 |k+1,hk=>by
  have ih:=QR hf hg h v k (by omega)
  rw[w9 s a (by omega),w9 s b (by omega)]
  unfold tS
  have he:=hg.ui _ (bP (show k<s.aO.length by omega))
  split
  ·exact ih.mono (LW hf hg (h.2.2 _ (by omega)) (by omega))
  ·exact ih
theorem RD{s:Sy}(hf:Fit s)(hg:Good s){a b:List (List Int)}(h:kN s a b):kN s (eW s a) (eW s b):=
 ⟨yT hf hg h.1,yT hf hg h.2.1,fun i hi=>by
  rw[CZ s a hi,CZ s b hi]
  exact QR hf hg h i _ (a8 _)⟩
theorem kN.trans{s:Sy}{a b c:List (List Int)}(h1:kN s a b)(h2:kN s b c):kN s a c:=⟨h1.1,h2.2.1,fun i hi=>(h1.2.2 i hi).trans (h2.2.2 i hi)⟩
theorem Sr{s:Sy}(hf:Good s){a b:List (List Int)}(ha:ki a)(hb:ki b):tP s a b=true↔kN s a b:=by
 unfold tP
 rw[C8 hf]
 simp only[decide_true,wR,bO]
 constructor
 ·rintro⟨⟨h1,h2⟩,h3⟩
  have va:=Mh h1 ha
  have vb:=Mh h2 hb
  have h3:=CU.1 h3
  refine⟨va,vb,fun i hi=>?_⟩
  have la:=va.len
  have lb:=vb.len
  have:=h3.2 i (by omega) (by omega)
  rw[Md (ha.2 _ (bP _)).1 (hb.2 _ (bP _)).1]at this
  rw[aZ,aZ,bh (by omega),bh (by omega)]
  exact this
 ·rintro⟨va,vb,h⟩
  have la:=va.len
  have lb:=vb.len
  refine⟨⟨va.cz,vb.cz⟩,CU.2 ⟨by omega,fun i hi qY=>?_⟩⟩
  rw[Md (ha.2 _ (bP hi)).1 (hb.2 _ (bP qY)).1]
  have:=h i (by omega)
  rw[aZ,aZ,bh hi,bh qY]at this
  exact this
theorem aeF{s:Sy}(hg:Good s){a:List (List Int)}(h:ic s a):vP s a=0:=by unfold vP;rw[ah (C8 hg),ah h.cz]
end Go.Proofs.YtnikdflhefijbaaGreat
