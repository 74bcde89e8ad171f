import Derived.Test.YtnikdflhefijbaaGreatBn8
import Derived.Test.YtnikdflhefijbaaGreatBn5
import Derived.Shelf.Slices.CompactI
import Derived.Shelf.Slices.In.SortNone
import Derived.Shelf.Sort.Plain
namespace Go.Proofs.YtnikdflhefijbaaGreat
open Go.RowKit
set_option maxRecDepth 100000
structure Good(s:Sy):Prop where
 ug:cO s.what s.w=true
 n1:1≤s.n
 n2:s.n≤256
 el:s.aT.length≤1024
 zu:∀e∈s.aT,(0≤e.1∧e.1<s.n)∧0≤e.2.1∧e.2.1<s.n
 tl:(s.T.length:Int)=s.n
 ent:∀v∈s.entry,0≤v∧v<s.n
 ini:cC s.what s.w s.init=true
 EP:∀t∈s.T,eT s.what s.w t.1 t.2.1 t.2.2.1=0
theorem kO{n a:Int}:cm n a=true↔0≤a∧a<n:=by unfold cm;simp
theorem xl{s:Sy}(h:cb s=0):Good s:=by
 unfold cb at h
 split at h
 ·rename_i h1
  split at h
  ·rename_i h2
   split at h
   ·cases h
   ·rename_i h3
    split at h
    ·rename_i h4
     split at h
     ·cases h
     ·rename_i h5
      have h3:(s.entry.any fun v=> !cm s.n v)=false:=by simpa using h3
      have h5:(s.T.any fun t=> !decide (eT s.what s.w t.1 t.2.1 t.2.2.1=0))=false:=by simpa using h5
      have hr:=h2.1
      unfold ey at hr
      simp only[bL,decide_eq_true_eq]at hr
      refine⟨h1,hr.1.1.1,hr.1.1.2,hr.1.2,fun e he=>?_,h2.2,fun v hv=>?_,h4,fun t ht=>?_⟩
      ·have:=fI.1 hr.2 e he
       rw[bL,kO,kO]at this
       exact this
      ·have:=Cf.1 h3 v hv
       exact kO.1 (by simpa using this)
      ·have:=Cf.1 h5 t ht
       simpa using this
    ·cases h
  ·cases h
 ·cases h
theorem Au{s:Sy}(h:Good s):cb s=0:=by
 refine (Ie h.ug ⟨?_,h.tl⟩ (Cf.2 fun v hv=>?_) h.ini (Cf.2 fun t ht=>?_)).symm
 ·unfold ey
  simp only[bL,decide_eq_true_eq]
  refine⟨⟨⟨h.n1,h.n2⟩,h.el⟩,fI.2 fun e he=>?_⟩
  rw[bL,kO,kO];exact h.zu e he
 ·rw[kO.2 (h.ent v hv)];decide
 ·rw[h.EP t ht];decide
def ia(s:Sy)(x:List Int)(v:Nat):List Int:=fS s.what (s.T.getD v ([],[],[],())).1 (s.T.getD v ([],[],[],())).2.1 (s.T.getD v ([],[],[],())).2.2.1 x
def za(s:Sy)(a:List (List Int))(v:Nat)(x:List Int)(e:bA):List Int:=if e.2.1=v then de s.what x (ia s (a.getD e.1.toNat []) e.1.toNat) else x
def mf(s:Sy)(a:List (List Int))(k v:Nat):List Int:=(s.aT.take k).foldl (za s a v) (gh s v)
def og(s:Sy)(a:List (List Int))(k:Nat):List (List Int):=(List.range s.n.toNat).map (mf s a k)
def fN(s:Sy)(a:List (List Int)):List (List Int):=og s a s.aT.length
theorem yu(s:Sy)(a:List (List Int))(k:Nat):(og s a k).length=s.n.toNat:=by unfold og;simp
theorem Ak(s:Sy)(a:List (List Int)){k:Nat}(h:k<s.aT.length)(v:Nat):mf s a (k+1) v=za s a v (mf s a k v) s.aT[k]:=by
 unfold mf;rw[fw h,s9];rfl
theorem Az{s:Sy}{a:List (List Int)}:pA s a=true↔(a.length:Int)=s.n∧∀x∈a,cC s.what s.w x=true:=by
 unfold pA;rw[bL,decide_eq_true_eq,fI]
theorem Gv{what w:Int}{x:List Int}(h:cC what w x=true):x.length≤1024:=by
 have h1:=tC h
 have:=Ao what w;omega
theorem Ip{s:Sy}(hg:Good s){v:Nat}(h:(v:Int)<s.n):∃h2:v<s.T.length,s.T.getD v ([],[],[],())=s.T[v]:=by
 have h2:v<s.T.length:=by have:=hg.tl;omega
 exact⟨h2,by rw[aW,bj h2];rfl⟩
theorem Hh{s:Sy}(hf:Fit s)(hg:Good s){x:List Int}(jR:aU x)(hv:cC s.what s.w x=true){v:Nat}(h:(v:Int)<s.n):cC s.what s.w (ia s x v)=true∧aU (ia s x v):=by
 obtain⟨h2,e⟩:=Ip hg h
 unfold ia
 rw[e]
 have ho:=hf.ts _ (bX h2)
 exact⟨GN ho.1 ho.2.1 jR (hg.EP _ (bX h2)) hv,Av jR⟩
theorem K5{s:Sy}(hf:Fit s)(hg:Good s)(v:Int):cC s.what s.w (gh s v)=true∧aU (gh s v):=by
 unfold gh;split
 ·exact⟨hg.ini,hf.i64⟩
 ·exact⟨Hx hg.ug,HT _ _⟩
theorem CR{s:Sy}(hf:Fit s)(hg:Good s){a:List (List Int)}(ha:k8 a)(hv:pA s a=true)(v:Nat):∀k,k≤s.aT.length→cC s.what s.w (mf s a k v)=true∧aU (mf s a k v)
 | 0,_=>by
  show cC s.what s.w (gh s v)=true∧aU (gh s v)
  exact K5 hf hg v
 |k+1,h=>by
  have ih:=CR hf hg ha hv v k (by omega)
  rw[Ak s a (by omega)]
  unfold za
  split
  ·have he:=hg.zu _ (bX (show k<s.aT.length by omega))
   have uj:=Az.1 hv
   generalize s.aT[k]=e at he
   have hl:e.1.toNat<a.length:=by omega
   have hm:a.getD e.1.toNat []∈a:=by rw[aW,bj hl];exact bX hl
   have ho:=Hh hf hg (ha.2 _ hm).1 (uj.2 _ hm) (v:=e.1.toNat) (by omega)
   exact⟨LM ih.2 ho.2 ih.1 ho.1,xj ih.2 ho.2⟩
  ·exact ih
theorem QF{s:Sy}(hf:Fit s)(hg:Good s){a:List (List Int)}(ha:k8 a)(hv:pA s a=true):pA s (fN s a)=true∧k8 (fN s a):=by
 have hx:∀x∈fN s a,cC s.what s.w x=true∧aU x:=fun x hx=>by
  obtain⟨v,_,rfl⟩:=dL.1 hx
  exact CR hf hg ha hv v _ (aR _)
 have hn:=hg.n1
 have oU:=hg.n2
 have hl:(fN s a).length=s.n.toNat:=yu _ _ _
 exact⟨Az.2 ⟨by omega,fun x h=>(hx x h).1⟩,by omega,fun x h=>⟨(hx x h).2,by have:=Gv (hx x h).1;omega⟩⟩
def uC(x:List Int):AV:=.ae (.int .u64) x
def mQ(l:List (List Int)):List AV:=l.map uC
theorem Lv:∀l:List (List Int),mQ l=l.flatMap (Sh.cells (.slice (.int .u64)))
 | []=>rfl
 |x::l=>congrArg (uC x :: ·) (Lv l)
theorem Gj(l:List (List Int)):(mQ l).length=l.length:=by unfold mQ;simp
theorem adv(l:List (List Int)){i:Nat}(h:i<l.length):(mQ l)[i]?=some (uC l[i]):=by unfold mQ;rw[fm,bj h];rfl
theorem rC{i:TI}(hs:i.size=1){cs:List AV}{o:Nat}{v:AV}(hv:v.cells?=some [v])(ho:o<cs.length):kP i cs o v=some (cs.set o v):=by
 unfold kP
 rw[hv]
 simp only
 have e1:Nat.beq ([v]:List AV).length i.size=true:=by rw[hs];rfl
 have e2:Nat.ble (o+i.size) cs.length=true:=Kn (by omega)
 rw[e1,e2]
 rfl
theorem iV{i:TI}(hw:i.wide=false){cs:List AV}{o:Nat}{v:AV}(h:cs[o]?=some v):eg i cs o=some v:=by unfold eg;rw[hw];exact h
theorem ahy(n:Nat):cJ [.ai] n=List.replicate n AV.ai:=by
 induction n with
 |zero=>rfl
 |succ n ih=>simp[cJ,ih,List.replicate_succ]
def mr(f:Nat→List Int)(n k:Nat):List AV:=mQ ((List.range k).map f)++List.replicate (n-k) AV.ai
theorem RW(f:Nat→List Int)(n:Nat):mr f n 0=cJ [.ai] n:=by rw[ahy];rfl
theorem To(f:Nat→List Int)(n:Nat):mr f n n=mQ ((List.range n).map f):=by unfold mr;simp
theorem Qo(f:Nat→List Int){n k:Nat}(h:k≤n):(mr f n k).length=n:=by unfold mr;simp[Gj];omega
theorem Tn(f:Nat→List Int){n k:Nat}(h:k<n):(mr f n k).set k (uC (f k))=mr f n (k+1):=by
 unfold mr mQ
 rw[List.set_append_right _ _ (by simp)]
 have e:n-k=(n-(k+1))+1:=by omega
 rw[e,Kl]
 simp[List.range_succ]
theorem adu(l:List (List Int))(i:Nat)(x:List Int):(mQ l).set i (uC x)=mQ (l.set i x):=by unfold mQ;rw[nU]
theorem YM(s:Sy)(a:List (List Int)){k:Nat}(h:k<s.aT.length){to:Nat}(ht:s.aT[k].2.1=to):og s a (k+1)=(og s a k).set to (de s.what (mf s a k to) (ia s (a.getD s.aT[k].1.toNat []) s.aT[k].1.toNat)):=by
 refine List.ext_getElem (by simp[yu]) fun i h1 h2=>?_
 rw[yu]at h1
 rw[FM]
 simp only[og,FL,FO]
 rw[Ak s a h]
 unfold za
 by_cases hi:to=i
 ·subst hi
  rw[ah rfl,ah ht]
 ·rw[ag hi,ag (by omega)]
def vX(e:Int)(l:List (List Int)):List (List Int):=if e=0 then l else []
def vF(s:Sy)(a:List (List Int)):Int:=if cb s=0 then (if pA s a=true then 0 else 2) else cb s
theorem acX(s:Sy)(a:List (List Int))(σ:Hp)(hf:Fit s)(ha:k8 a):ACalls Tryz.prog 239 [.agg (aV s),.ae (.slice (.int .u64)) a] σ (aB (.tup [.ae (.slice (.int .u64)) (vX (vF s a) (fN s a)),.int .i64 (vF s a)]) σ):=by
 refine au Tryz.func239 ?_
 intro aD
 refine aa 0 ?_
 refine az [] (yI s _ hf) ?_
 refine cI (fun c1=>?_) (fun c1=>?_)
 ·have c1:(!decide (cb s=0))=true:=c1
  have c1:¬cb s=0:=by simpa using c1
  have e:vF s a=cb s:=ag c1
  exact .nil (cg (.nil _) (.refl _)) (.drop 0 1 (.done ⟨by rw[e];unfold vX;rw[ag c1];rfl,rfl⟩))
 ·have c1:(!decide (cb s=0))=false:=c1
  have c1:cb s=0:=by simpa using c1
  have hg:=xl c1
  refine aa 0 ?_
  refine dm [] (Mw s a _ ha) (fun c2=>?_) (fun c2=>?_)
  ·have e:vF s a=0:=by unfold vF;rw[ah c1,ah c2]
   obtain⟨N,hN⟩:∃N:Nat,s.n=N:=⟨s.n.toNat,by have:=hg.n1;omega⟩
   have hN1:=hg.n1
   have hN2:=hg.n2
   have uj:=Az.1 c2
   refine aa 0 ?_
   rw[hN]
   refine aY ?_
   intro bo
   have OR:(bo,cJ [.ai] ((N:Int)).toNat)=(bo,mr (fun v=>gh s v) N 0):=by rw[RW];rfl
   refine cc (S:=Nat) (fun k=>[(1,.ae (.slice (.int .u64)) a),(2,.ptr aD 0),(7,.af bo 0 N 1),(26,.int .i64 N),(27,.int .i64 k)]) (fun k=>(bo,mr (fun v=>gh s v) N k)::(aD,aV s)::σ) (fun k=>k≤N) (fun k=>N-k) 0 ⟨bE _,⟨rfl,rfl,rfl,rfl,rfl,trivial⟩,congrArg (· :: (aD,aV s)::σ) OR⟩ ?_
   intro k t aP
   have hk:k≤N:=aP
   clear aP
   refine ak (fun ab=>?_) (fun aq=>?_)
   ·have ab:k<N:=by have ab:(k:Int)<N:=ab;omega
    refine aa 1 ?_
    refine az [] (VB s k _ hf) ?_
    refine aK ?_
    refine da 0 rfl ((rC rfl rfl (by rw[Qo _ hk];omega)).trans (congrArg some (show (mr (fun v=>gh s v) N k).set (0+((k:Int)).toNat*1) (uC (gh s k))=mr (fun v=>gh s v) N (k+1) by rw[dM,er,bO];exact Tn _ ab))) ?_
    exact bg (k+1) (by show N-(k+1)<N-k;omega) ab ⟨rfl,rfl,rfl,rfl,a8 (by omega),trivial⟩ (.refl _)
   ·have aq:k=N:=by have aq:¬(k:Int)<N:=aq;omega
    subst aq
    refine aa 1 ?_
    have B4:(bo,mr (fun v=>gh s v) k k)=(bo,mQ (og s a 0)):=by
     rw[To]
     have:og s a 0=(List.range k).map (fun v:Nat=>gh s v):=by
      unfold og
      rw[hN,bO];rfl
     rw[this]
    have OK:=hg.el
    refine cc (S:=Nat) (fun j=>[(1,.ae (.slice (.int .u64)) a),(2,.ptr aD 0),(7,.af bo 0 k 1),(38,.ae dC s.aT),(39,.int .i64 s.aT.length),(40,.int .i64 j)]) (fun j=>(bo,mQ (og s a j))::(aD,aV s)::σ) (fun j=>j≤s.aT.length) (fun j=>s.aT.length-j) 0 ⟨bE _,⟨rfl,rfl,rfl,rfl,rfl,rfl,trivial⟩,congrArg (· :: (aD,aV s)::σ) B4⟩ ?_
    intro j t pY
    have hj:j≤s.aT.length:=pY
    clear pY
    refine ak (fun ab=>?_) (fun aq=>?_)
    ·have ab:j<s.aT.length:=by have ab:(j:Int)<s.aT.length:=ab;omega
     have he:=hg.zu _ (bX ab)
     have Jo:=fun {to:Nat} (h:s.aT[j].2.1=to)=>YM s a ab h
     obtain⟨d,hd⟩:∃d:bA,s.aT[j]=d:=⟨_,rfl⟩
     rw[hd]at he Jo
     refine aG.mk rfl (bM.mk d (by omega) ((get_some ab).trans (congrArg some hd)) ?_)
     obtain⟨from_,nR⟩:∃i:Nat,d.1=i:=⟨d.1.toNat,by omega⟩
     obtain⟨to,xU⟩:∃i:Nat,d.2.1=i:=⟨d.2.1.toNat,by omega⟩
     have Jo:=Jo xU
     obtain⟨hT,OX⟩:=Ip hg (v:=from_) (by omega)
     have hA:from_<a.length:=by omega
     have hAe:a.getD d.1.toNat []=a[from_]:=by rw[nR,bO,aW,bj hA];rfl
     have hv:=CR hf hg ha c2 to j hj
     have Oo:=ha.2 _ (bX hA)
     have WH:=uj.2 _ (bX hA)
     have ho:=Hh hf hg Oo.1 WH (v:=from_) (by omega)
     have lR:=hf.ts _ (bX hT)
     have htc:=hg.EP _ (bX hT)
     intro du
     refine aj 0 ?_
     refine .quiet (by kernel_rfl) ?_
     refine aa 2 ?_
     refine aa 2 ?_
     refine aa 2 ?_
     refine aa 0 ?_
     refine aG.mk rfl ?_
     refine bM.mk s.T[from_] (by omega) (by rw[nR,bO];exact bj hT) ?_
     refine aa 0 ?_
     refine aG.mk rfl ?_
     refine bM.mk a[from_] (by omega) (by rw[nR,bO];exact bj hA) ?_
     have Oz:fS s.what s.T[from_].1 s.T[from_].2.1 s.T[from_].2.2.1 a[from_]=ia s (a.getD d.1.toNat []) d.1.toNat:=by
      unfold ia
      rw[hAe,nR,bO,OX]
     have O4:ia s (a.getD d.1.toNat []) d.1.toNat=ia s a[from_] from_:=by rw[hAe,nR,bO]
     refine aH [] (qg (aaV s.what s.w s.T[from_].1 s.T[from_].2.1 s.T[from_].2.2.1 a[from_] _ lR.1 lR.2.1 Oo.1 lR.2.2.1 lR.2.2.2.1 Oo.2 (eu lR.2.2.2.2 (by decide)) htc WH) (congrArg (fun x=>AV.tup [.ae (.int .u64) x,.int .i64 0]) (Oz.trans O4))) ?_
     generalize ia s a[from_] from_=o at O4 ho
     refine .sched [13] (upto [13] 19 0) (by kernel_rfl) ?_
     refine aa 0 ?_
     refine aa 2 ?_
     refine aa 2 ?_
     refine aa 0 ?_
     refine aK ?_
     have OH:(mQ (og s a j))[0+d.2.1.toNat*1]?=some (uC (mf s a j to)):=by
      rw[xU,bO,dM,er,adv _ (by rw[yu];omega)]
      simp[og]
     refine aZ 1 rfl (iV rfl OH) ?_
     refine aH [] (ad2 s.what s.w (mf s a j to) o _ hv.2 ho.2 (eu (Gv hv.1) (by decide)) (eu (Gv ho.1) (by decide)) hv.1 ho.1) ?_
     refine aK ?_
     have j5:(mQ (og s a j)).set (0+d.2.1.toNat*1) (uC (de s.what (mf s a j to) o))=mQ (og s a (j+1)):=by
      rw[Jo,O4,xU,bO,dM,er,adu]
     refine da 1 rfl ((rC rfl rfl (by rw[Gj,yu];omega)).trans (congrArg some j5)) ?_
     exact bg (j+1) (by show s.aT.length-(j+1)<s.aT.length-j;omega) ab ⟨rfl,rfl,rfl,rfl,rfl,a8 (by omega),trivial⟩ (.drop 0 1 (.refl _))
    ·have aq:j=s.aT.length:=by have aq:¬(j:Int)<s.aT.length:=aq;omega
     subst aq
     refine .cX 0 bo 0 k 1 _ (.slice (.int .u64)) (fN s a) rfl ?_ ⟨?_,rfl,by decide⟩ (cg .here (.refl _)) (.drop 0 1 (.done ⟨?_,rfl⟩))
     ·rw[iP,← Lv]
      exact fe (by rw[Gj,yu,hN];omega)
     ·exact (yu _ _ _).trans (by rw[hN];omega)
     ·rw[e];rfl
  ·have e:vF s a=2:=by unfold vF;rw[ah c1,c2];rfl
   exact .nil (cg (.nil _) (.refl _)) (.drop 0 1 (.done ⟨by rw[e];rfl,rfl⟩))
theorem ad6(xs ys:List Int)(σ:Hp)(h1:xs.length≤1000000):ACalls Tryz.prog 244 ([.ae (.int .u64) xs,.ae (.int .u64) ys]++[]) σ (aB (.bool (decide (xs=ys))) σ):=US xs ys σ h1
theorem aaQ(a b:List (List Int)):qp (fun x y=>decide (x=y)) a b=decide (a=b):=by
 rw[Bool.eq_iff_iff,CM,decide_eq_true_eq]
 constructor
 ·rintro⟨h1,h2⟩
  exact Ct h1 fun i q1 q2=>fv (h2 i q1 q2)
 ·rintro rfl
  exact⟨rfl,fun i q1 q2=>aL rfl⟩
def iD(s:Sy):List (List Int):=List.replicate s.n.toNat (gl s.what s.w)
theorem PV(s:Sy):(iD s).length=s.n.toNat:=gG
theorem Q8(s:Sy)(σ:Hp)(hf:Fit s):ACalls Tryz.prog 237 [.agg (aV s)] σ (aB (.tup [.ae (.slice (.int .u64)) (vX (cb s) (iD s)),.int .i64 (cb s)]) σ):=by
 refine au Tryz.func237 ?_
 intro aD
 refine aa 0 ?_
 refine az [] (yI s _ hf) ?_
 refine cI (fun c1=>?_) (fun c1=>?_)
 ·have c1:(!decide (cb s=0))=true:=c1
  have c1:¬cb s=0:=by simpa using c1
  exact .nil (cg (.nil _) (.refl _)) (.drop 0 1 (.done ⟨by unfold vX;rw[ag c1];rfl,rfl⟩))
 ·have c1:(!decide (cb s=0))=false:=c1
  have c1:cb s=0:=by simpa using c1
  have hg:=xl c1
  obtain⟨N,hN⟩:∃N:Nat,s.n=N:=⟨s.n.toNat,by have:=hg.n1;omega⟩
  have hN1:=hg.n1
  have hN2:=hg.n2
  refine aa 0 ?_
  rw[hN]
  refine aY ?_
  intro bo
  have OR:(bo,cJ [.ai] ((N:Int)).toNat)=(bo,mr (fun _=>gl s.what s.w) N 0):=by rw[RW];rfl
  refine cc (S:=Nat) (fun k=>[(1,.ptr aD 0),(5,.af bo 0 N 1),(16,.int .i64 N),(17,.int .i64 k)]) (fun k=>(bo,mr (fun _=>gl s.what s.w) N k)::(aD,aV s)::σ) (fun k=>k≤N) (fun k=>N-k) 0 ⟨bE _,⟨rfl,rfl,rfl,rfl,trivial⟩,congrArg (· :: (aD,aV s)::σ) OR⟩ ?_
  intro k t aP
  have hk:k≤N:=aP
  clear aP
  refine ak (fun ab=>?_) (fun aq=>?_)
  ·have ab:k<N:=by have ab:(k:Int)<N:=ab;omega
   refine aa 1 ?_
   refine aa 1 ?_
   refine az [] (G7 _ _ _) ?_
   refine aK ?_
   refine da 0 rfl ((rC rfl rfl (by rw[Qo _ hk];omega)).trans (congrArg some (show (mr (fun _=>gl s.what s.w) N k).set (0+((k:Int)).toNat*1) (uC (gl s.what s.w))=mr (fun _=>gl s.what s.w) N (k+1) by rw[dM,er,bO];exact Tn _ ab))) ?_
   exact bg (k+1) (by show N-(k+1)<N-k;omega) ab ⟨rfl,rfl,rfl,a8 (by omega),trivial⟩ (.refl _)
  ·have aq:k=N:=by have aq:¬(k:Int)<N:=aq;omega
   subst aq
   have ahU:mr (fun _=>gl s.what s.w) k k=mQ (iD s):=by
    rw[To];unfold iD;rw[hN,bO,JR,l0]
   refine .cX 0 bo 0 k 1 _ (.slice (.int .u64)) (iD s) rfl ?_ ⟨?_,rfl,by decide⟩ (cg .here (.refl _)) (.drop 0 1 (.done ⟨?_,rfl⟩))
   ·rw[iP,← Lv,ahU]
    exact fe (by rw[Gj];unfold iD;rw[gG,hN];omega)
   ·exact (PV s).trans (by rw[hN];omega)
   ·unfold vX;rw[c1];rfl
def bJ(b:List Bool):List AV:=b.map .bool
theorem aeJ{b:List Bool}{k:Nat}(h:k<b.length){z:Int}(hz:z=k):(bJ b)[0+z.toNat*1]?=some (.bool (b.getD k false)):=by
 subst hz
 rw[bO,er,dM]
 unfold bJ
 rw[fm,bj h,aW,bj h];rfl
theorem aeH(b:List Bool)(k:Nat)(x:Bool){z:Int}(hz:z=k):(bJ b).set (0+z.toNat*1) (.bool x)=bJ (b.set k x):=by
 subst hz
 rw[bO,er,dM]
 unfold bJ
 rw[nU]
theorem Dn(n:Nat):cJ [.bool false] n=bJ (List.replicate n false):=by
 induction n with
 |zero=>rfl
 |succ n ih=>show AV.bool false::cJ [.bool false] n=_;rw[ih];rfl
def xz(n:Int)(b:List Bool)(a:Int):List Bool:=if 0≤a∧a<n then b.set a.toNat true else b
def se(n:Int)(b:List Bool)(e:bA):List Bool:=if (0≤e.1∧e.1<n)∧(0≤e.2.1∧e.2.1<n)∧b.getD e.1.toNat false=true then b.set e.2.1.toNat true else b
def pv(n:Int)(l:List bA)(b:List Bool):List Bool:=l.foldl (se n) b
def uP(n:Int)(l:List bA):Nat→List Bool→List Bool
 | 0,b=>b
 |k+1,b=>uP n l k (pv n l b)
def Nb(b:List Bool)(k:Nat):List Int:=((List.range k).filter fun i=>b.getD i false).map fun i:Nat=>(i:Int)
def DL(n:Int)(l:List bA)(fr:List Int):List Bool:=uP n l n.toNat (fr.foldl (xz n) (List.replicate n.toNat false))
def MG(n:Int)(l:List bA)(fr:List Int):List Int:=Nb (DL n l fr) n.toNat
theorem P5(n:Int)(b:List Bool)(a:Int):(xz n b a).length=b.length:=by unfold xz;split;exact cM;rfl
theorem QX(n:Int)(b:List Bool)(e:bA):(se n b e).length=b.length:=by unfold se;split;exact cM;rfl
theorem aeI(b:List Bool):(bJ b).length=b.length:=cj _
theorem rounds_succ(n:Int)(l:List bA)(k:Nat)(b:List Bool):uP n l (k+1) b=uP n l k (pv n l b):=rfl
theorem yH{i:TI}(hs:i.size=1){b:List Bool}(x:Bool){a:Int}(h1:0≤a)(h2:a<b.length):kP i (bJ b) (0+a.toNat*1) (.bool x)=some (bJ (b.set a.toNat x)):=by
 rw[rC hs rfl (by rw[aeI];omega),aeH b a.toNat x (by omega)]
theorem tA{i:TI}(hw:i.wide=false){b:List Bool}{a:Int}(h1:0≤a)(h2:a<b.length):eg i (bJ b) (0+a.toNat*1)=some (.bool (b.getD a.toNat false)):=iV hw (aeJ (by omega) (by omega))
def sR(l:List Int)(x:Int):Bool:=l.any fun z=>decide (x=z)
theorem Dv{l:List Int}{x:Int}:sR l x=true↔x∈l:=by unfold sR;simp
theorem Mq(l:List Int):(ao l).length=l.length:=cj _
def BI(n:Int)(l:List bA)(a b:Int):Bool:=sR (MG n l [a]) b
def MH(n:Int)(l:List bA)(a:Int)(k:Nat):List Int:=((List.range k).filter fun b:Nat=>BI n l a b&&BI n l b a).map fun i:Nat=>(i:Int)
def rI(n:Int)(l:List bA)(a:Int):List Int:=MH n l a n.toNat
def No(l:List bA)(part told:List Int):Bool:=l.all fun e=> !(sR part e.2.1&&!sR part e.1&&!sR told e.1)
theorem KQ{b:List Bool}{i j:Nat}{x:Bool}:(b.set i x).getD j false=if i=j∧j<b.length then x else b.getD j false:=by
 simp only[aW,e9]
 by_cases h:i=j
 ·subst h
  by_cases h2:i<b.length
  ·simp[h2]
  ·simp[h2]
 ·simp[h]
theorem aa9{n:Nat}{l:List bA}{a z:Int}:z∈rI n l a↔∃i:Nat,i<n∧(BI n l a i&&BI n l i a)=true∧z=i:=by
 unfold rI MH
 rw[dL,bO]
 constructor
 ·rintro⟨i,hi,rfl⟩
  rw[lZ,gb]at hi
  exact⟨i,hi.1,hi.2,rfl⟩
 ·rintro⟨i,h1,h2,rfl⟩
  exact⟨i,by rw[lZ,gb];exact⟨h1,h2⟩,rfl⟩
def cz(ps:List (List Int)):List AV:=ps.map (.ae (.int .i64))
theorem w6:∀ps:List (List Int),cz ps=ps.flatMap (Sh.cells (.slice (.int .i64)))
 | []=>rfl
 |p::ps=>congrArg (AV.ae (.int .i64) p :: ·) (w6 ps)
theorem Ur{nx:List Int}(h:0<nx.length):nx[((0:Int)).toNat]?=some (nx.headD 0):=by
 cases nx with
 |nil=>simp at h
 |cons z nx=>rfl
end Go.Proofs.YtnikdflhefijbaaGreat
namespace Go.Proofs.YtnikdflhefijbaaGreat
open Go.Shelf
def Yh:Go.Shelf.Ren:=⟨fun | 189=>312 | 125=>233 | 257=>338 | 128=>274 | 129=>275 | 294=>346 | 295=>347 | 296=>348 | 297=>349 | 298=>350 | 299=>351 | 216=>352 | 300=>353 | 301=>354 | 328=>360 | 329=>296 | 330=>297 | 331=>361 | 332=>362 | 215=>234 | 343=>365 | n=>n,fun | 28=>23 | 3=>3 | 46=>253 | 0=>0 | 51=>284 | 53=>56 | 4=>4 | 183=>308 | 182=>307 | 131=>312 | 5=>5 | 9=>9 | 218=>331 | 222=>335 | 228=>353 | 229=>50 | n=>n,fun | n=>n⟩
theorem Ml:Go.Proofs.Lays.n189 Tryz.prog Yh:= {
 mixed:=by kernel_rfl
 f125:=Tryz.func233.trans (congrArg some (by kernel_rfl))
 f128:=Tryz.func274.trans (congrArg some (by kernel_rfl))
 f129:=Tryz.func275.trans (congrArg some (by kernel_rfl))
 f189:=Tryz.func312.trans (congrArg some (by kernel_rfl))
 f215:=Tryz.func234.trans (congrArg some (by kernel_rfl))
 f216:=Tryz.func352.trans (congrArg some (by kernel_rfl))
 f257:=Tryz.func338.trans (congrArg some (by kernel_rfl))
 f294:=Tryz.func346.trans (congrArg some (by kernel_rfl))
 f295:=Tryz.func347.trans (congrArg some (by kernel_rfl))
 f296:=Tryz.func348.trans (congrArg some (by kernel_rfl))
 f297:=Tryz.func349.trans (congrArg some (by kernel_rfl))
 f298:=Tryz.func350.trans (congrArg some (by kernel_rfl))
 f299:=Tryz.func351.trans (congrArg some (by kernel_rfl))
 f300:=Tryz.func353.trans (congrArg some (by kernel_rfl))
 f301:=Tryz.func354.trans (congrArg some (by kernel_rfl))
 f328:=Tryz.func360.trans (congrArg some (by kernel_rfl))
 f329:=Tryz.func296.trans (congrArg some (by kernel_rfl))
 f330:=Tryz.func297.trans (congrArg some (by kernel_rfl))
 f331:=Tryz.func361.trans (congrArg some (by kernel_rfl))
 f332:=Tryz.func362.trans (congrArg some (by kernel_rfl))
 f343:=Tryz.func365.trans (congrArg some (by kernel_rfl))
 t0:=Tryz.underlying0
 a0:=Tryz.isAgg0
 z0:=Tryz.sizeOf0
 v0:=Tryz.zeroValue0
 t3:=Tryz.underlying3
 a3:=Tryz.isAgg3
 z3:=Tryz.sizeOf3
 v3:=Tryz.zeroValue3
 t4:=Tryz.underlying4
 a4:=Tryz.isAgg4
 z4:=Tryz.sizeOf4
 v4:=Tryz.zeroValue4
 t5:=Tryz.underlying5
 a5:=Tryz.isAgg5
 z5:=Tryz.sizeOf5
 v5:=Tryz.zeroValue5
 t9:=Tryz.underlying9
 a9:=Tryz.isAgg9
 z9:=Tryz.sizeOf9
 v9:=Tryz.zeroValue9
 t28:=Tryz.underlying23
 a28:=Tryz.isAgg23
 z28:=Tryz.sizeOf23
 v28:=Tryz.zeroValue23
 t46:=Tryz.underlying253
 a46:=Tryz.isAgg253
 z46:=Tryz.sizeOf253
 v46:=Tryz.zeroValue253
 t51:=Tryz.underlying284
 a51:=Tryz.isAgg284
 z51:=Tryz.sizeOf284
 v51:=Tryz.zeroValue284
 t53:=Tryz.underlying56
 a53:=Tryz.isAgg56
 z53:=Tryz.sizeOf56
 v53:=Tryz.zeroValue56
 t131:=Tryz.underlying312
 a131:=Tryz.isAgg312
 z131:=Tryz.sizeOf312
 v131:=Tryz.zeroValue312
 t182:=Tryz.underlying307
 a182:=Tryz.isAgg307
 z182:=Tryz.sizeOf307
 v182:=Tryz.zeroValue307
 t183:=Tryz.underlying308
 a183:=Tryz.isAgg308
 z183:=Tryz.sizeOf308
 v183:=Tryz.zeroValue308
 t218:=Tryz.underlying331
 a218:=Tryz.isAgg331
 z218:=Tryz.sizeOf331
 v218:=Tryz.zeroValue331
 t222:=Tryz.underlying335
 a222:=Tryz.isAgg335
 z222:=Tryz.sizeOf335
 v222:=Tryz.zeroValue335
 t228:=Tryz.underlying353
 a228:=Tryz.isAgg353
 z228:=Tryz.sizeOf353
 v228:=Tryz.zeroValue353
 t229:=Tryz.underlying50
 a229:=Tryz.isAgg50
 z229:=Tryz.sizeOf50
 v229:=Tryz.zeroValue50 }
def Yg:Go.Shelf.Ren:=⟨fun | 20=>313 | n=>n,fun | 22=>23 | 3=>3 | 4=>4 | 0=>0 | n=>n,fun | n=>n⟩
theorem Mk:Go.Proofs.Lays2.n20 Tryz.prog Yg:= {
 mixed:=by kernel_rfl
 f20:=Tryz.func313.trans (congrArg some (by kernel_rfl))
 t0:=Tryz.underlying0
 a0:=Tryz.isAgg0
 z0:=Tryz.sizeOf0
 v0:=Tryz.zeroValue0
 t3:=Tryz.underlying3
 a3:=Tryz.isAgg3
 z3:=Tryz.sizeOf3
 v3:=Tryz.zeroValue3
 t4:=Tryz.underlying4
 a4:=Tryz.isAgg4
 z4:=Tryz.sizeOf4
 v4:=Tryz.zeroValue4
 t22:=Tryz.underlying23
 a22:=Tryz.isAgg23
 z22:=Tryz.sizeOf23
 v22:=Tryz.zeroValue23
 i3:=by kernel_rfl }
set_option maxRecDepth 100000
section
variable {F:Nat→Prop} {w:World} {σ:Hp}
theorem acd(h:bf F w σ)(os:Array Obj):bB F w F (Go.Sort.grow w os)∧bf F (Go.Sort.grow w os) σ:=by
 have eC:(Go.Sort.grow w os).heap.size=w.heap.size+os.size:=by simp[Go.Sort.grow]
 have aq:∀b,b<w.heap.size→(Go.Sort.grow w os).heap[b]?=w.heap[b]?:=fun b hb=>by
  show (w.heap++os)[b]?=_
  rw[Km hb]
 have an:bB F w F (Go.Sort.grow w os):=⟨rfl,rfl,rfl,by omega,fun _ h=>h,fun b hb=>aq b (h.low b hb),fun b c T fz hc=>⟨c,fz,by
  rw[aq b (z6.1 hc).1];exact hc,rfl⟩,aR _⟩
 exact⟨an,h.nodup,fun p hp=>(h.holds p hp).mono an (aq _ (h.holds p hp).lt) (h.holds p hp).1,fun b hb=>by have:=h.low b hb;omega⟩
theorem nj(zs:List Int):(ao zs).length=zs.length:=by unfold ao;simp
theorem aeo(zs:List Int){i:Nat}{x:AV}(h:(ao zs)[i]?=some x):∃h2:i<zs.length,x=.int .i64 zs[i]:=by
 unfold ao at h
 rw[fm]at h
 cases hz:zs[i]? with
 |none=>rw[hz]at h;cases h
 |some z=>
  rw[hz]at h
  obtain⟨h2,h3⟩:=ck.1 hz
  exact⟨h2,by cases h;rw[h3]⟩
theorem aes(zs:List Int){i:Nat}(h:i<zs.length):(ao zs)[i]?=some (.int .i64 zs[i]):=by unfold ao;rw[fm,bj h];rfl
theorem Holds.Mi{F:Nat→Prop}{w:World}{b:Nat}{cs:List AV}(h:Holds F w b cs)(hn:∀x∈cs,x.leaf=true):¬F b∧DP F w b cs:=by
 obtain⟨hF,h | ⟨x,o,e,_,hx⟩ | ⟨L,t,e,_⟩⟩:=h
 ·exact⟨hF,h⟩
 ·subst e;have:=hn _ (bU ..);rw[Gz hx]at this;cases this
 ·subst e;cases hn _ (bU ..)
theorem Te(zs:List Int):∀x∈ao zs,x.leaf=true:=fun x hx=>by
 obtain⟨z,_,rfl⟩:=dL.1 hx;rfl
theorem Hg{b n:Nat}{zs zs':List Int}(h:bf F w ((b,ao zs)::σ))(hl:zs'.length=zs.length)(os:Array Obj):
  bB F w F (Go.Sort.grow (Go.Sort.putRow (Value.int .i64) (Go.Sort.ahead w n) b 0 zs'.toArray) os)∧bf F (Go.Sort.grow (Go.Sort.putRow (Value.int .i64) (Go.Sort.ahead w n) b 0 zs'.toArray) os) ((b,ao zs')::σ):=by
 obtain⟨hF,c,T,hc,hle,pZ⟩:=(h.holds _ (bU ..)).Mi (Te zs)
 have hle:(ao zs).length≤c.size:=hle
 rw[nj]at hle
 have hc:w.heap[b]?=some (.cells c T (0,0)):=hc
 have tZ:∀k,k<zs'.length→(Go.Sort.putCells (Value.int .i64) 0 zs'.toArray c).getD k undef=Value.int .i64 (zs'.getD k 0):=fun k hk=>by
  have zL:k<c.size:=by omega
  unfold Go.Sort.putCells
  rw[gW,Array.getElem?_mapIdx,qe zL]
  simp only[JT,FN]
  rw[if_pos ⟨Nat.zero_le _,by simpa using hk⟩,Nat.sub_zero,List.getD_eq_getElem?_getD,List.getElem?_eq_getElem hk]
  simp[hk]
 have key:=Aq (F:=F) (w:=w) (w':=Go.Sort.putRow (Value.int .i64) (Go.Sort.ahead w n) b 0 zs'.toArray) h (j:=0) (b:=b) (cs:=ao zs) (cs':=ao zs') rfl hc (c':=Go.Sort.putCells (Value.int .i64) 0 zs'.toArray c) (by simp[Go.Sort.putCells]) (by rw[nj];simp[Go.Sort.putCells];omega)
  (fun i x hx=>by
   obtain⟨h2,rfl⟩:=aeo zs' hx
   refine⟨rfl,?_⟩
   rw[tZ i h2,aW,bj h2]
   exact .int _ _)
  (fun k hk=>by
   show (w.heap.modify b _)[k]?=_
   rw[J9,ag (fun e=>hk e.symm)])
  (by
   show (w.heap.modify b _)[b]?=_
   rw[J9,ah rfl,hc];rfl)
  rfl rfl rfl (by simp[Go.Sort.ahead])
 obtain⟨k1,k2⟩:=key
 obtain⟨g1,g2⟩:=acd k2 os
 exact⟨k1.trans g1,g2⟩
theorem LP{b:Nat}{zs:List Int}(h:bf F w ((b,ao zs)::σ)):Go.Sort.Holds (Value.int .i64) w b 0 zs.toArray∧b<w.heap.size:=by
 obtain⟨hF,c,T,hc,hle,pZ⟩:=(h.holds _ (bU ..)).Mi (Te zs)
 have hc:w.heap[b]?=some (.cells c T (0,0)):=hc
 have hle:(ao zs).length≤c.size:=hle
 rw[nj]at hle
 refine⟨fun j hj=>?_,(z6.1 hc).1⟩
 have hj:j<zs.length:=by simpa using hj
 have hr:=(pZ j _ (aes zs hj)).2.gB
 rw[dM]
 constructor
 ·rw[Hv hc,qe (by omega)]
  rw[gW,qe (by omega)]at hr
  simp only[FN]at hr
  rw[hr]
  simp[hj]
 ·unfold World.frozen?
  simp[hc]
end
theorem Yp(l:List Int):(Go.Lib.compact l).length≤l.length:=by
 unfold Go.Lib.compact Go.Lib.compactUpTo
 rw[cj]
 exact Nat.le_trans (List.length_filter_le _ _) (by simp)
def fF(zs:List Int):List Int:=zs.mergeSort fun x y=>decide (x≤y)
theorem Ag(zs:List Int):(fF zs).length=zs.length:=Pp ..
theorem Mp:∀{l m:List Int},l.Pairwise (· < ·)→m.Pairwise (· < ·)→(∀x,x∈l↔x∈m)→l=m
 | [],[],_,_,_=>rfl
 | [],y::m,_,_,h=>absurd ((h y).2 (bU ..)) wG
 |x::l,[],_,_,h=>absurd ((h x).1 (bU ..)) wG
 |x::l,y::m,hl,hm,h=>by
  have h1:=ta.1 hl
  have h2:=ta.1 hm
  have aO:x=y:=by
   have a:=(h x).1 (bU ..)
   have b:=(h y).2 (bU ..)
   rcases dA.1 a with a | a
   ·exact a
   ·rcases dA.1 b with b | b
    ·exact b.symm
    ·have:=h1.1 y b;have:=h2.1 x a;omega
  subst aO
  refine congrArg (x :: ·) (Mp h1.2 h2.2 fun z=>⟨fun hz=>?_,fun hz=>?_⟩)
  ·rcases dA.1 ((h z).1 (cQ _ hz)) with e | e
   ·subst e;have:=h1.1 z hz;omega
   ·exact e
  ·rcases dA.1 ((h z).2 (cQ _ hz)) with e | e
   ·subst e;have:=h2.1 z hz;omega
   ·exact e
theorem PY(zs:List Int):(fF zs).Pairwise (·≤·):=by
 have:=List.pairwise_mergeSort (le:=fun x y:Int=>decide (x≤y)) (fun a b c h1 h2=>by simp at *;omega) (fun a b=>by simp;omega) zs
 exact this.imp fun h=>by simpa using h
theorem Ro(zs:List Int)(x:Int):x∈fF zs↔x∈zs:=List.mem_mergeSort
theorem QH{l:List Int}(h:l.Pairwise (·≤·)){i j:Nat}(jB:i≤j)(hj:j<l.length):l[i]'(by omega)≤l[j]:=by
 by_cases e:i=j
 ·subst e;exact jD _
 ·exact FV.1 h i j (by omega) hj (by omega)
def zh(zs:List Int):List Int:=Go.Lib.compact (fF zs)
theorem Yq{l:List Int}(h:l.Pairwise (·≤·)):(Go.Lib.compact l).Pairwise (· < ·):=by
 unfold Go.Lib.compact Go.Lib.compactUpTo
 rw[zV]
 have hr:((List.range l.length).filter (Go.Lib.keeps l.toArray)).Pairwise fun i j=>i<j∧j<l.length∧Go.Lib.keeps l.toArray j=true:=by
  have h1:(List.range l.length).Pairwise fun i j=>i<j∧j<l.length:=by
   rw[FV]
   intro i j hi hj jB
   simp only[FO]
   exact⟨jB,by simpa using hj⟩
  rw[List.pairwise_filter]
  exact h1.imp fun jB _ hk=>⟨jB.1,jB.2,hk⟩
 refine hr.imp fun {i j} ⟨h1,h2,h3⟩=>?_
 have hk:l.toArray[j]!≠l.toArray[j-1]!:=by
  unfold Go.Lib.keeps at h3
  simp only[decide_eq_true_eq]at h3
  rcases h3 with h3 | h3
  ·omega
  ·exact h3
 have e1:l.toArray[j]! = l[j]:=by simp[h2]
 have e2:l.toArray[j-1]! = l[j-1]'(by omega):=by simp[show j-1<l.length by omega]
 have e3:l.toArray[i]! = l[i]'(by omega):=by simp[show i<l.length by omega]
 rw[e1,e2]at hk
 rw[e1,e3]
 have q1:=QH h (i:=i) (j:=j-1) (by omega) (by omega)
 have q2:=QH h (i:=j-1) (j:=j) (by omega) h2
 omega
theorem Qs{l:List Int}(x:Int):x∈Go.Lib.compact l↔x∈l:=by
 unfold Go.Lib.compact Go.Lib.compactUpTo
 constructor
 ·intro hx
  obtain⟨j,hj,rfl⟩:=dL.1 hx
  have hj:=gb.1 (lZ.1 hj).1
  have e1:l.toArray[j]! = l[j]:=by simp[hj]
  rw[e1];exact bX hj
 ·intro hx
  have hex:∃j,∃h:j<l.length,l[j]=x:=by
   obtain⟨j,hj,e⟩:=tc.1 hx
   exact⟨j,hj,e⟩
  obtain⟨j,⟨hj,e⟩,iJ⟩:∃j,(∃h:j<l.length,l[j]=x)∧∀k,k<j→¬∃h:k<l.length,l[k]=x:=by
   obtain⟨j,hj⟩:=hex
   induction j using Nat.strongRecOn with
   |ind j ih=>
    by_cases hk:∃k,k<j∧∃h:k<l.length,l[k]=x
    ·obtain⟨k,h1,h2⟩:=hk
     exact ih k h1 h2
    ·exact⟨j,hj,fun k h1 h2=>hk ⟨k,h1,h2⟩⟩
  refine List.mem_map.2 ⟨j,List.mem_filter.2 ⟨List.mem_range.2 hj,?_⟩,by simp[hj,e]⟩
  unfold Go.Lib.keeps
  rw[decide_eq_true_eq]
  by_cases h0:j=0
  ·exact .inl h0
  ·refine .inr fun h=>iJ (j-1) (by omega) ⟨by omega,?_⟩
   have e1:l.toArray[j]! = l[j]:=by simp[hj]
   have e2:l.toArray[j-1]! = l[j-1]'(by omega):=by simp[show j-1<l.length by omega]
   rw[e1,e2]at h
   rw[← h];exact e
theorem acG{zs:List Int}{n:Nat}(h:∀z∈zs,0≤z∧z<n):zh zs=((List.range n).map fun i:Nat=>(i:Int)).filter fun b=>decide (b∈zs):=by
 refine Mp (Yq (PY zs)) ?_ fun x=>?_
 ·refine List.Pairwise.filter _ ?_
  rw[zV,FV]
  intro i j hi hj jB
  simp only[FO]
  omega
 ·unfold zh
  rw[Qs,Ro,lZ,decide_eq_true_eq]
  refine⟨fun hx=>⟨?_,hx⟩,fun hx=>hx.2⟩
  have:=h x hx
  exact dL.2 ⟨x.toNat,gb.2 (by omega),by omega⟩
theorem Qp:Enters Tryz.prog 312:=enters_of Tryz.func312 (by kernel_rfl)
theorem Qq:Enters Tryz.prog 313:=enters_of Tryz.func313 (by kernel_rfl)
theorem Hl{vs:Array Value}(h:1=vs.size):∃v,vs = #[v]:=by
 refine⟨vs.getD 0 undef,Array.ext ?_ fun i h2 h3=>?_⟩
 ·simp[← h]
 ·have:i=0:=by omega
  subst this
  simp[Array.getD,h2]
theorem L7{F:Nat→Prop}{w:World}:aA F w (.tup []) (.tuple #[]):=.tup [] #[] rfl fun i x h=>by simp at h
theorem agk(σ:Hp):ACalls Tryz.prog 312 [.ai] σ (aB (.tup []) σ):=by
 refine⟨Qp,fun F w vs bN aE =>?_⟩
 obtain⟨v,rfl⟩:=Hl bN.1
 have hv:aA F w .ai v:=bN.2 0 _ rfl
 cases hv
 have h:Calls Tryz.prog 312 #[.slice none 0 0] w fun e w'=>e=.returned (.tuple #[])∧w'=w:=Any.slices_Sort_int_none Ml none 0 w
 refine h.mono ?_
 rintro e w' ⟨rfl,rfl⟩
 exact⟨.tup [],.tuple #[],σ,F,rfl,.refl _ _,aE,L7,rfl,rfl⟩
theorem MU(b:Nat)(zs:List Int)(n:Nat)(σ:Hp)(hz:zs.length=n)(hl:n≤1000000):ACalls Tryz.prog 312 [.af b 0 n 1] ((b,ao zs)::σ) (aB (.tup []) ((b,ao (fF zs))::σ)):=by
 subst hz
 refine⟨Qp,fun F w vs bN aE =>?_⟩
 obtain⟨v,rfl⟩:=Hl bN.1
 have hv:aA F w (.af b 0 zs.length 1) v:=bN.2 0 _ rfl
 obtain⟨a,cap,rfl,c,T,fz,m1,m2,m3,m4⟩:=hv.kV
 rcases m4 with ⟨rfl,_⟩ | ⟨_,_,h0,_⟩
 ·obtain⟨h1,h2⟩:=LP aE
  have h:Calls Tryz.prog 312 #[.slice (some ⟨b,0,none⟩) zs.length cap] w fun e w'=>e=.returned (.tuple #[])∧∃n os,w'=Go.Sort.grow (Go.Sort.putRow (Value.int .i64) (Go.Sort.ahead w n) b 0 (fF zs).toArray) os:=Any.slices_Sort_int Ml b 0 cap zs w h1 h2 (by omega)
  refine h.mono ?_
  rintro e w' ⟨rfl,n,os,rfl⟩
  obtain⟨k1,k2⟩:=Hg (n:=n) aE (Ag zs) os
  exact⟨.tup [],.tuple #[],_,F,rfl,k1,k2,L7,rfl,rfl⟩
 ·have hz:zs=[]:=iR.1 h0
  subst hz
  have h:Calls Tryz.prog 312 #[.slice (some a) 0 cap] w fun e w'=>e=.returned (.tuple #[])∧w'=w:=Any.slices_Sort_int_none Ml (some a) cap w
  have he:fF []=[]:=iR.1 (Ag [])
  rw[he]
  refine h.mono ?_
  rintro e w' ⟨rfl,rfl⟩
  exact⟨.tup [],.tuple #[],_,F,rfl,.refl _ _,aE,L7,rfl,rfl⟩
theorem agB(σ:Hp):ACalls Tryz.prog 313 [.ai] σ (aB .ai σ):=by
 refine⟨Qq,fun F w vs bN aE =>?_⟩
 obtain⟨v,rfl⟩:=Hl bN.1
 have hv:aA F w .ai v:=bN.2 0 _ rfl
 cases hv
 have h:Calls Tryz.prog 313 #[.slice none 0 0] w fun e w'=>e=.returned (.slice none 0 0)∧w'=w:=Any.slices_Compact_int_empty Mk none 0 w
 refine h.mono ?_
 rintro e w' ⟨rfl,rfl⟩
 exact⟨.ai,_,σ,F,rfl,.refl _ _,aE,.ai,rfl,rfl⟩
theorem agC(b:Nat)(zs:List Int)(n:Nat)(σ:Hp)(hz:zs.length=n)(hl:n≤1000000):ACalls Tryz.prog 313 [.af b 0 n 1] ((b,ao zs)::σ) (aB (.af b 0 (Go.Lib.compact zs).length 1) ((b,ao (Go.Lib.compact zs++List.replicate (n-(Go.Lib.compact zs).length) 0))::σ)):=by
 subst hz
 have hle:=Yp zs
 refine⟨Qq,fun F w vs bN aE =>?_⟩
 obtain⟨v,rfl⟩:=Hl bN.1
 have hv:aA F w (.af b 0 zs.length 1) v:=bN.2 0 _ rfl
 obtain⟨a,cap,rfl,c,T,fz,m1,m2,m3,m4⟩:=hv.kV
 rcases m4 with ⟨rfl,m5⟩ | ⟨m5,m6,h0,m7⟩
 ·obtain⟨h1,h2⟩:=LP aE
  have h:Calls Tryz.prog 313 #[.slice (some ⟨b,0,none⟩) zs.length cap] w fun e w'=>e=.returned (.slice (some ⟨b,0,none⟩) (Go.Lib.compact zs).length cap)∧∃q,w'=Go.Sort.putRow (Value.int .i64) (Go.Sort.ahead w q) b 0 (Go.Lib.compact zs++List.replicate (zs.length-(Go.Lib.compact zs).length) 0).toArray:=Any.slices_Compact_int Mk b 0 cap zs w h1 (by omega) m2
  refine h.mono ?_
  rintro e w' ⟨rfl,q,rfl⟩
  obtain⟨k1,k2⟩:=Hg (n:=q) (zs':=Go.Lib.compact zs++List.replicate (zs.length-(Go.Lib.compact zs).length) 0) aE (by rw[bV,gG];omega) #[]
  have hg:∀W:World,Go.Sort.grow W #[]=W:=fun W=>by unfold Go.Sort.grow;rw[Array.append_empty]
  rw[hg]at k1 k2
  obtain⟨c',si,kL,dP⟩:=k1.rows b c T fz m1
  exact⟨.af b 0 _ 1,_,_,F,rfl,k1,k2,.af _ _ _ _ _ _ ⟨c',T,si,kL,by omega,m3,.inl ⟨rfl,by omega⟩⟩,rfl,rfl⟩
 ·have hz:zs=[]:=iR.1 h0
  subst hz
  have h:Calls Tryz.prog 313 #[.slice (some a) 0 cap] w fun e w'=>e=.returned (.slice (some a) 0 cap)∧w'=w:=Any.slices_Compact_int_empty Mk (some a) cap w
  refine h.mono ?_
  rintro e w' ⟨rfl,rfl⟩
  exact⟨.af b 0 0 1,_,_,F,rfl,.refl _ _,aE,hv,rfl,rfl⟩
theorem aaz:zh []=[]:=Ki.2 fun x h=>by
 unfold zh at h
 rw[Qs,Ro]at h
 cases h
def ju(n:Int)(l:List bA)(a:Int):List Int:=(l.filter fun e=>decide (e.1=a)&&cm n a&&cm n e.2.1).map fun e=>e.2.1
def ar(n:Int)(l:List bA)(a:Int):List Int:=((List.range n.toNat).map fun i:Nat=>(i:Int)).filter fun b=>decide (b∈ju n l a)
theorem aa5(n:Int)(l:List bA)(a:Int):(ju n l a).length≤l.length:=by unfold ju;rw[cj];exact Cu _ _
theorem aa4{n:Int}{l:List bA}{a z:Int}(h:z∈ju n l a):0≤z∧z<n:=by
 unfold ju at h
 obtain⟨e,he,rfl⟩:=dL.1 h
 have h4:=(lZ.1 he).2
 simp only[bL,decide_eq_true_eq,kO]at h4
 exact h4.2
theorem Y0(n:Int)(l:List bA)(a:Int){k:Nat}(h:k<l.length):ju n (l.take (k+1)) a=ju n (l.take k) a++(if (decide (l[k].1=a)&&cm n a&&cm n l[k].2.1)=true then [l[k].2.1] else []):=by
 unfold ju
 rw[fw h,zW,dr]
 congr 1
 by_cases hc:(decide (l[k].1=a)&&cm n a&&cm n l[k].2.1)=true
 ·rw[ah hc];have e:=gt4 (p:=fun e:bA=>decide (e.1=a)&&cm n a&&cm n e.2.1) (a:=l[k]) (l:=[]) hc;rw[e];rfl
 ·rw[ag hc];have e:=gp9 (p:=fun e:bA=>decide (e.1=a)&&cm n a&&cm n e.2.1) (a:=l[k]) (l:=[]) hc;rw[e];rfl
theorem abc(n:Int)(l:List bA)(a:Int):zh (ju n l a)=ar n l a:=by
 unfold ar
 exact acG fun z hz=>by have:=aa4 hz;omega
theorem Bq(n:Int)(l:List bA)(a:Int)(σ:Hp)(hl:l.length≤100000):ACalls Tryz.prog 289 [.int .i64 n,.ae dC l,.int .i64 a] σ (aB (.ae (.int .i64) (ar n l a)) σ):=by
 refine au Tryz.func289 ?_
 refine .wrap 7 _ rfl rfl ?_
 refine cc (S:=Nat×AV×Hp) (fun s=>[(0,.int .i64 n),(2,.int .i64 a),(7,.via s.2.1),(10,.ae dC l),(11,.int .i64 l.length),(12,.int .i64 s.1)]) (fun s=>s.2.2++σ) (fun s=>s.1≤l.length∧Acc 1 (ju n (l.take s.1) a).length s.2.1 s.2.2 (ao (ju n (l.take s.1) a))) (fun s=>l.length-s.1) (0,.ai,[]) ⟨⟨bE _,.nil⟩,⟨rfl,rfl,rfl,rfl,rfl,rfl,trivial⟩,rfl⟩ ?_
 rintro⟨k,v,acc⟩ g ⟨aP,kW⟩
 have hk:k≤l.length:=aP
 have cH:Acc 1 (ju n (l.take k) a).length v acc (ao (ju n (l.take k) a)):=kW
 clear aP kW
 have oR:(ju n (l.take k) a).length≤k:=by have:=aa5 n (l.take k) a;rw[qb]at this;omega
 refine ak (fun ab=>?_) (fun aq=>?_)
 ·have ab:k<l.length:=by have ab:(k:Int)<l.length:=ab;omega
  have hs:=Y0 n l a ab
  obtain⟨d,hd⟩:∃d:bA,l[k]=d:=⟨_,rfl⟩
  rw[hd]at hs
  refine aG.mk rfl (bM.mk d (by omega) ((get_some ab).trans (congrArg some hd)) ?_)
  intro aD
  refine aj 0 ?_
  refine aa 0 ?_
  refine ak (p:=d.1=a) (fun c1=>?_) (fun c1=>?_)
  ·refine dm [] (Il n a _) (fun c2=>?_) (fun c2=>?_)
   ·refine aa 0 ?_
    refine dm [] (Il n d.2.1 _) (fun c3=>?_) (fun c3=>?_)
    ·rw[aL c1,c2,c3,ah (show (true&&true&&true)=true from rfl)]at hs
     refine aa 0 ?_
     intro du
     refine l8 [_,_] cH (.af 0 du 0 1 _ rfl (cR rfl)) rfl (by omega) (by decide) (by decide) (fun v' bQ h'=>?_)
     refine bg (k+1,v',bQ) (by show l.length-(k+1)<l.length-k;omega) ⟨ab,?_⟩ ⟨rfl,rfl,rfl,rfl,rfl,a8 (by omega),trivial⟩ (.drop 0 2 (aN rfl))
     show Acc 1 (ju n (l.take (k+1)) a).length v' bQ (ao (ju n (l.take (k+1)) a))
     rw[hs,bV,ao,dr]
     exact h'
    ·rw[c3,JK,ag (by decide),mZ]at hs
     refine bg (k+1,v,acc) (by show l.length-(k+1)<l.length-k;omega) ⟨ab,by show Acc 1 (ju n (l.take (k+1)) a).length v acc (ao (ju n (l.take (k+1)) a));rw[hs];exact cH⟩ ⟨rfl,rfl,rfl,rfl,rfl,a8 (by omega),trivial⟩ (.drop 0 1 (aN rfl))
   ·rw[c2,JK,JL,ag (by decide),mZ]at hs
    refine bg (k+1,v,acc) (by show l.length-(k+1)<l.length-k;omega) ⟨ab,by show Acc 1 (ju n (l.take (k+1)) a).length v acc (ao (ju n (l.take (k+1)) a));rw[hs];exact cH⟩ ⟨rfl,rfl,rfl,rfl,rfl,a8 (by omega),trivial⟩ (.drop 0 1 (aN rfl))
  ·rw[bH c1,JL,JL,ag (by decide),mZ]at hs
   refine bg (k+1,v,acc) (by show l.length-(k+1)<l.length-k;omega) ⟨ab,by show Acc 1 (ju n (l.take (k+1)) a).length v acc (ao (ju n (l.take (k+1)) a));rw[hs];exact cH⟩ ⟨rfl,rfl,rfl,rfl,rfl,a8 (by omega),trivial⟩ (.drop 0 1 (aN rfl))
 ·have aq:k=l.length:=by have aq:¬(k:Int)<l.length:=aq;omega
  subst aq
  rw[fu]at cH oR
  have Nl:=abc n l a
  generalize ju n l a=zs at cH oR Nl
  generalize hC:ao zs=C at cH
  generalize hm:zs.length=m at cH
  cases cH with
  |nil=>
   have hz:zs=[]:=iR.1 hm
   subst hz
   refine az [] (agk _) ?_
   refine az [] (agB _) ?_
   exact .nil (.nil (.int .i64)) (.done ⟨by rw[← Nl,aaz];rfl,rfl⟩)
  |af b m cs h=>
   subst hC
   refine az [] (MU b zs m σ hm (by omega)) ?_
   refine az [] (agC b (fF zs) m σ ((Ag zs).trans hm) (by omega)) ?_
   refine .cX 0 b 0 _ 1 _ (.int .i64) (zh zs) rfl ?_ ⟨rfl,rfl,by decide⟩ .here (.done ⟨by rw[Nl],rfl⟩)
   rw[iP,← xa]
   unfold zh ao
   rw[dr,er,Kg (by rw[cj];exact aR _)]
   exact fe (by rw[cj];exact aR _)
def jn(a b:Int):Int:=if a=b∨b=0 then a else if a=0 then b else 1
theorem w8{a b:Int}(ha:bD a=a)(hb:bD b=b):ns a b=jn a b:=by unfold ns jn;rw[ha,hb]
theorem Ho(a b:Int):jn a b=jn b a:=by
 unfold jn
 by_cases h1:a=b
 ·subst h1;rfl
 ·by_cases h2:a=0
  ·by_cases h3:b=0
   ·omega
   ·rw[ag (by omega),ah h2,ah (by omega)]
  ·by_cases h3:b=0
   ·rw[ah (by omega),ag (by omega),ah h3]
   ·rw[ag (by omega),ag h2,ag (by omega),ag h3]
theorem Hn(a:Int):jn a 0=a:=by unfold jn;rw[ah (.inr rfl)]
theorem Dh(a:Int):jn 0 a=a:=by rw[Ho,Hn]
theorem AL(a:Int):jn a a=a:=by unfold jn;rw[ah (.inl rfl)]
theorem DY{a b:Int}(h:a≠b)(ha:a≠0)(hb:b≠0):jn a b=1:=by unfold jn;rw[ag (by omega),ag ha]
theorem MN(a:Int):jn a 1=1:=by
 by_cases h:a=1
 ·rw[h,AL]
 ·by_cases h0:a=0
  ·rw[h0,Dh]
  ·exact DY h h0 (by decide)
theorem S5(a b c:Int):jn (jn a b) c=jn a (jn b c):=by
 by_cases ha:a=0
 ·rw[ha,Dh,Dh]
 by_cases hb:b=0
 ·rw[hb,Hn,Dh]
 by_cases hc:c=0
 ·rw[hc,Hn,Hn]
 by_cases h1:a=b
 ·subst h1
  by_cases h2:a=c
  ·subst h2;rw[AL]
  ·rw[AL,DY h2 ha hc,MN]
 ·rw[DY h1 ha hb,Ho 1 c,MN]
  by_cases h2:b=c
  ·subst h2;rw[AL,DY h1 ha hb]
  ·rw[DY h2 hb hc,MN]
theorem uL{a b:List Int}(ha:okW a=true)(hb:okW b=true){i:Nat}(h:i<a.length)(h2:i<b.length):wd (de 3 a b) i=jn (wd a i) (wd b i):=by
 rw[yO h h2,rH,w8 (xg ha h) (xg hb h2)]
theorem wW{what w:Int}{a b:List Int}(va:cC what w a=true)(vb:cC what w b=true):a.length=b.length:=by have h1:=tC va;have h2:=tC vb;omega
theorem abO(what:Int)(x y:Bool):jk what x y=jk what y x:=by unfold jk;split <;> cases x <;> cases y <;> rfl
theorem Z6(what:Int)(x y z:Bool):jk what (jk what x y) z=jk what x (jk what y z):=by unfold jk;split <;> cases x <;> cases y <;> cases z <;> rfl
structure eH(what w:Int)(a:List Int):Prop where
 v:cC what w a=true
 dx:aU a
theorem eH.join{what w:Int}{a b:List Int}(ha:eH what w a)(hb:eH what w b):eH what w (de what a b):=⟨LM ha.dx hb.dx ha.v hb.v,xj ha.dx hb.dx⟩
theorem C8{what w:Int}{x y:List Int}(hx:eH what w x)(hy:eH what w y)(h3:what=3→∀i,i<x.length→wd x i=wd y i)(hs:what=1∨what=2→∀i k,i<x.length→k<64→dZ x i k=dZ y i k):x=y:=by
 have hl:=wW hx.v hy.v
 by_cases h:what=3
 ·exact AW hl (h3 h)
 ·exact He hx.dx hy.dx hl (hs (HM (mH hx.v) h))
theorem join_comm{what w:Int}{a b:List Int}(ha:eH what w a)(hb:eH what w b):de what a b=de what b a:=by
 have hl:=wW ha.v hb.v
 refine C8 (ha.join hb) (hb.join ha) (fun h3 i hi=>?_) (fun hs i k hi _=>?_)
 ·subst h3
  rw[iS hl]at hi
  have va:=((jJ (mH ha.v) rfl).1 ha.v).2
  have vb:=((jJ (mH hb.v) rfl).1 hb.v).2
  rw[uL va vb hi (by omega),uL vb va (by omega) hi,Ho]
 ·rw[iS hl]at hi
  rw[pj hs ha.dx hb.dx hl i k hi,pj hs hb.dx ha.dx hl.symm i k (by omega),abO]
theorem join_assoc{what w:Int}{a b c:List Int}(ha:eH what w a)(hb:eH what w b)(hc:eH what w c):de what (de what a b) c=de what a (de what b c):=by
 have hl:=wW ha.v hb.v
 have sa:=wW hb.v hc.v
 have l1:=iS (what:=what) hl
 have l2:=iS (what:=what) sa
 refine C8 ((ha.join hb).join hc) (ha.join (hb.join hc)) (fun h3 i hi=>?_) (fun hs i k hi _=>?_)
 ·subst h3
  rw[iS (by omega),l1]at hi
  have o:∀{x:List Int},eH 3 w x→okW x=true:=fun h=>((jJ (mH h.v) rfl).1 h.v).2
  rw[uL (o (ha.join hb)) (o hc) (by omega) (by omega),uL (o ha) (o hb) (by omega) (by omega),uL (o ha) (o (hb.join hc)) (by omega) (by omega),uL (o hb) (o hc) (by omega) (by omega),S5]
 ·rw[iS (by omega),l1]at hi
  rw[pj hs (ha.join hb).dx hc.dx (by omega) i k (by omega),pj hs ha.dx hb.dx hl i k (by omega),pj hs ha.dx (hb.join hc).dx (by omega) i k (by omega),pj hs hb.dx hc.dx sa i k (by omega),Z6]
theorem join_self{what w:Int}{a:List Int}(ha:eH what w a):de what a a=a:=by
 refine C8 (ha.join ha) ha (fun h3 i hi=>?_) (fun hs i k hi _=>?_)
 ·subst h3
  rw[iS rfl]at hi
  have va:=((jJ (mH ha.v) rfl).1 ha.v).2
  rw[uL va va hi hi,AL]
 ·rw[iS rfl]at hi
  rw[pj hs ha.dx ha.dx rfl i k hi,(MJ _ (dZ a i k) (dZ a i k)).2.2]
def eb(what w:Int)(a b:List Int):Prop:=eH what w a∧eH what w b∧de what a b=b
theorem eb.refl{what w:Int}{a:List Int}(h:eH what w a):eb what w a a:=⟨h,h,join_self h⟩
theorem eb.trans{what w:Int}{a b c:List Int}(h1:eb what w a b)(h2:eb what w b c):eb what w a c:=by
 refine⟨h1.1,h2.2.1,?_⟩
 have:=join_assoc h1.1 h1.2.1 h2.2.1
 rw[h1.2.2,h2.2.2]at this
 exact this.symm
theorem eb.left{what w:Int}{a b:List Int}(ha:eH what w a)(hb:eH what w b):eb what w a (de what a b):=by
 refine⟨ha,ha.join hb,?_⟩
 rw[← join_assoc ha ha hb,join_self ha]
theorem eb.right{what w:Int}{a b:List Int}(ha:eH what w a)(hb:eH what w b):eb what w b (de what a b):=by
 rw[join_comm ha hb];exact eb.left hb ha
theorem eb.join{what w:Int}{a b c:List Int}(h1:eb what w a c)(h2:eb what w b c):eb what w (de what a b) c:=by
 refine⟨h1.1.join h2.1,h1.2.1,?_⟩
 rw[join_assoc h1.1 h2.1 h1.2.1,h2.2.2,h1.2.2]
theorem eb.mono{what w:Int}{a b c d:List Int}(h1:eb what w a c)(h2:eb what w b d):eb what w (de what a b) (de what c d):=
 eb.join (h1.trans (eb.left h1.2.1 h2.2.1)) (h2.trans (eb.right h1.2.1 h2.2.1))
theorem L1{what w:Int}{a b:List Int}(ha:aU a)(hb:aU b):rG what w a b=true↔eb what w a b:=by
 rw[aaM]
 exact⟨fun h=>⟨⟨h.1,ha⟩,⟨h.2.1,hb⟩,h.2.2⟩,fun h=>⟨h.1.v,h.2.1.v,h.2.2⟩⟩
theorem bot_le{what w:Int}{a:List Int}(ha:eH what w a):eb what w (gl what w) a:=by
 have hi:=mH ha.v
 have hb:eH what w (gl what w):=⟨Hx hi,HT _ _⟩
 have hl:=wW hb.v ha.v
 refine⟨hb,ha,C8 (hb.join ha) ha (fun h3 i ft=>?_) (fun hs i k ft hk=>?_)⟩
 ·subst h3
  rw[iS hl]at ft
  have va:=((jJ hi rfl).1 ha.v).2
  have vb:=((jJ hi rfl).1 hb.v).2
  rw[uL vb va ft (by omega)]
  have:wd (gl 3 w) i=0:=by
   have e:gl 3 w=List.replicate (eX 3 w).toNat 0:=ag (fun h=>absurd h.1 (by decide))
   rw[e]at ft ⊢
   rw[kQ _ ft,Kf]
  rw[this,Dh]
 ·rw[iS hl]at ft
  rw[pj hs hb.dx ha.dx hl i k ft]
  rcases hs with rfl | rfl
  ·have e:gl 1 w=List.replicate (eX 1 w).toNat 0:=ag (fun h=>absurd h.1 (by decide))
   have h0:dZ (gl 1 w) i k=false:=by
    unfold dZ
    rw[e]at ft ⊢
    rw[kQ _ ft,Kf];exact GQ k
   rw[h0];exact mY _
  ·have e:gl 2 w=gj w:=ah ⟨rfl,hi⟩
   have fa:=(qk hi (by decide)).1 ha.v
   rw[e]at ft ⊢
   rw[ri]at ft
   show (dZ (gj w) i k&&dZ a i k)=dZ a i k
   by_cases hc:64*i+k<dY w
   ·have h1:dZ (gj w) i k=true:=by
     unfold dZ
     rw[Db w ft,bO,Ke]
     exact aL (by omega)
    rw[h1,wF]
   ·have h2:=(ru ha.dx (n0 fa)).1 fa i k (by rw[n0 fa];exact ft) hk (by omega)
    rw[h2,JK]
theorem Zq{what w:Int}{g k a b:List Int}{l:List df}(hg:aU g)(hk:aU k)(hc:eT what w g k l=0)(h:eb what w a b):eb what w (fS what g k l a) (fS what g k l b):=by
 have:=(agK hg hk h.1.dx h.2.1.dx hc h.1.v h.2.1.v).1
 rw[h.2.2,L1 (Av h.1.dx) (Av h.2.1.dx)]at this
 exact this
structure iL(s:Sy)(a:List (List Int)):Prop where
 len:(a.length:Int)=s.n
 val:∀x∈a,eH s.what s.w x
theorem L5{s:Sy}{a:List (List Int)}(h:pA s a=true)(ha:k8 a):iL s a:=
 ⟨(Az.1 h).1,fun x hx=>⟨(Az.1 h).2 x hx,(ha.2 x hx).1⟩⟩
theorem iL.cq{s:Sy}{a:List (List Int)}(h:iL s a):pA s a=true:=Az.2 ⟨h.len,fun x hx=>(h.val x hx).v⟩
theorem iL.ok{s:Sy}{a:List (List Int)}(hg:Good s)(h:iL s a):k8 a:=by
 have h1:=h.len
 have h2:=hg.n2
 exact⟨by omega,fun x hx=>⟨(h.val x hx).dx,by have:=Gv (h.val x hx).v;omega⟩⟩
theorem iL.get{s:Sy}{a:List (List Int)}(h:iL s a){i:Nat}(hi:(i:Int)<s.n):eH s.what s.w (a.getD i []):=by
 have hl:=h.len
 have ab:i<a.length:=by omega
 rw[aW,bj ab]
 exact h.val _ (bX ab)
def lO(s:Sy)(a b:List (List Int)):Prop:=iL s a∧iL s b∧∀i:Nat,(i:Int)<s.n→eb s.what s.w (a.getD i []) (b.getD i [])
theorem LF{s:Sy}(hf:Fit s)(hg:Good s){x y:List Int}(h:eb s.what s.w x y){v:Nat}(hv:(v:Int)<s.n):eb s.what s.w (ia s x v) (ia s y v):=by
 obtain⟨h2,e⟩:=Ip hg hv
 unfold ia
 rw[e]
 have ho:=hf.ts _ (bX h2)
 exact Zq ho.1 ho.2.1 (hg.EP _ (bX h2)) h
theorem K6{s:Sy}(hf:Fit s)(hg:Good s)(v:Int):eH s.what s.w (gh s v):=⟨(K5 hf hg v).1,(K5 hf hg v).2⟩
theorem ZL{s:Sy}(hf:Fit s)(hg:Good s){a:List (List Int)}(h:iL s a)(v k:Nat)(hk:k≤s.aT.length):eH s.what s.w (mf s a k v):=
 ⟨(CR hf hg (h.ok hg) h.cq v k hk).1,(CR hf hg (h.ok hg) h.cq v k hk).2⟩
theorem CQ{s:Sy}(hf:Fit s)(hg:Good s){a:List (List Int)}(h:iL s a):iL s (fN s a):=L5 (QF hf hg (h.ok hg) h.cq).1 (QF hf hg (h.ok hg) h.cq).2
theorem Gx(s:Sy)(a:List (List Int)){i:Nat}(h:(i:Int)<s.n):(fN s a).getD i []=mf s a s.aT.length i:=by
 unfold fN og
 rw[aW,fm,wI (by omega)];rfl
theorem QE{s:Sy}(hf:Fit s)(hg:Good s){a b:List (List Int)}(h:lO s a b)(v:Nat):∀k,k≤s.aT.length→eb s.what s.w (mf s a k v) (mf s b k v)
 | 0,_=>eb.refl (K6 hf hg v)
 |k+1,hk=>by
  have ih:=QE hf hg h v k (by omega)
  rw[Ak s a (by omega),Ak s b (by omega)]
  unfold za
  have he:=hg.zu _ (bX (show k<s.aT.length by omega))
  split
  ·exact ih.mono (LF hf hg (h.2.2 _ (by omega)) (by omega))
  ·exact ih
theorem Rm{s:Sy}(hf:Fit s)(hg:Good s){a b:List (List Int)}(h:lO s a b):lO s (fN s a) (fN s b):=
 ⟨CQ hf hg h.1,CQ hf hg h.2.1,fun i hi=>by
  rw[Gx s a hi,Gx s b hi]
  exact QE hf hg h i _ (aR _)⟩
theorem lO.trans{s:Sy}{a b c:List (List Int)}(h1:lO s a b)(h2:lO s b c):lO s a c:=⟨h1.1,h2.2.1,fun i hi=>(h1.2.2 i hi).trans (h2.2.2 i hi)⟩
theorem R5{s:Sy}(hf:Good s){a b:List (List Int)}(ha:k8 a)(hb:k8 b):tL s a b=true↔lO s a b:=by
 unfold tL
 rw[Au hf]
 simp only[decide_true,wF,bL]
 constructor
 ·rintro⟨⟨h1,h2⟩,h3⟩
  have va:=L5 h1 ha
  have vb:=L5 h2 hb
  have h3:=CM.1 h3
  refine⟨va,vb,fun i hi=>?_⟩
  have la:=va.len
  have lb:=vb.len
  have:=h3.2 i (by omega) (by omega)
  rw[L1 (ha.2 _ (bX _)).1 (hb.2 _ (bX _)).1]at this
  rw[aW,aW,bj (by omega),bj (by omega)]
  exact this
 ·rintro⟨va,vb,h⟩
  have la:=va.len
  have lb:=vb.len
  refine⟨⟨va.cq,vb.cq⟩,CM.2 ⟨by omega,fun i hi qV=>?_⟩⟩
  rw[L1 (ha.2 _ (bX hi)).1 (hb.2 _ (bX qV)).1]
  have:=h i (by omega)
  rw[aW,aW,bj hi,bj qV]at this
  exact this
theorem aey{s:Sy}(hg:Good s){a:List (List Int)}(h:iL s a):vF s a=0:=by unfold vF;rw[ah (Au hg),ah h.cq]
def Ww(p:Prop)(σ:Hp):AV→Hp→Prop:=fun r σ'=>∃b:Bool,r=.bool b∧σ'=σ∧(b=true→p)
theorem ah9{P:Program}{f:FuncId}{xs:List AV}{σ:Hp}{K:AV→Hp→Prop}(js:List Nat){p:Prop}{σ2:Hp}(h:ACalls P f xs (oh js σ) (Ww p σ2))(k1:p→K (.bool true) σ2)(k2:K (.bool false) σ2):CallAt P f K xs σ:=
 .mk js _ h fun r σ' ⟨b,h1,h2,h3⟩=>by subst h1 h2;cases b;exact k2;exact k1 (h3 rfl)
structure VV(s:Sy):Prop where
 tl:s.T.length≤8
 el:s.aT.length≤16
 nl:s.entry.length≤10
 il:s.init.length≤20
 ts:∀t∈s.T,t.1.length≤4∧t.2.1.length≤4∧t.2.2.1.length≤6
 sz:(s.n≤7∧s.w≤10)∨256<s.n∨1024<s.w
theorem acZ(s:Sy)(σ:Hp):ACalls Tryz.prog 28 [.agg (aV s)] σ (Ww (VV s) σ):=by
 refine au Tryz.func28 ?_
 intro aD
 refine aa 0 ?_
 refine ak (fun c2=>?_) (fun c2=>?_)
 ·have c2:7<s.n:=c2
  refine aa 0 ?_
  refine ak (fun c3=>?_) (fun c3=>?_)
  ·have c3:s.n≤256:=c3
   refine aa 0 ?_
   refine ak (fun c4=>?_) (fun c4=>?_)
   ·exact .drop 0 1 (.done ⟨false,rfl,rfl,fun h=>by cases h⟩)
   ·have c4:¬(s.w≤1024):=c4
    refine aa 0 ?_
    refine ak (fun c5=>?_) (fun c5=>?_)
    ·exact .drop 0 1 (.done ⟨false,rfl,rfl,fun h=>by cases h⟩)
    ·have c5:¬(8<(↑s.T.length:Int)):=c5
     refine aa 0 ?_
     refine ak (fun c6=>?_) (fun c6=>?_)
     ·exact .drop 0 1 (.done ⟨false,rfl,rfl,fun h=>by cases h⟩)
     ·have c6:¬(16<(↑s.aT.length:Int)):=c6
      refine aa 0 ?_
      refine ak (fun c7=>?_) (fun c7=>?_)
      ·exact .drop 0 1 (.done ⟨false,rfl,rfl,fun h=>by cases h⟩)
      ·have c7:¬(10<(↑s.entry.length:Int)):=c7
       refine aa 0 ?_
       refine ak (fun c8=>?_) (fun c8=>?_)
       ·exact .drop 0 1 (.done ⟨false,rfl,rfl,fun h=>by cases h⟩)
       ·have c8:¬(20<(↑s.init.length:Int)):=c8
        refine aa 0 ?_
        refine cc (S:=Nat) (fun k=>[(48,.ae kn s.T),(49,.int .i64 s.T.length),(50,.int .i64 k)]) (fun _=>(aD,aV s)::σ) (fun k=>k≤s.T.length∧∀t∈s.T.take k,t.1.length≤4∧t.2.1.length≤4∧t.2.2.1.length≤6) (fun k=>s.T.length-k) 0 ⟨⟨bE _,fun t h=>by cases h⟩,⟨rfl,rfl,rfl,trivial⟩,rfl⟩ ?_
        rintro k g ⟨aP,iN⟩
        have hk:k≤s.T.length:=aP
        have ht:∀t∈s.T.take k,t.1.length≤4∧t.2.1.length≤4∧t.2.2.1.length≤6:=iN
        clear aP iN
        refine ak (fun ab=>?_) (fun aq=>?_)
        ·have ab:k<s.T.length:=by have ab:(k:Int)<s.T.length:=ab;omega
         have iC:s.T.take (k+1)=s.T.take k++[s.T[k]]:=fw ab
         obtain⟨t,fQ⟩:∃t:l7,s.T[k]=t:=⟨_,rfl⟩
         rw[fQ]at iC
         refine aG.mk rfl (bM.mk t (by omega) ((get_some ab).trans (congrArg some fQ)) ?_)
         intro du
         refine aj 0 ?_
         refine aa 0 ?_
         refine ak (p:=4<(t.1.length:Int)) (fun d1=>?_) (fun d1=>?_)
         ·exact .drop 0 2 (.done ⟨false,rfl,rfl,fun h=>by cases h⟩)
         ·refine aa 0 ?_
          refine ak (p:=4<(t.2.1.length:Int)) (fun d2=>?_) (fun d2=>?_)
          ·exact .drop 0 2 (.done ⟨false,rfl,rfl,fun h=>by cases h⟩)
          ·refine aa 0 ?_
           refine ak (p:=6<(t.2.2.1.length:Int)) (fun d3=>?_) (fun d3=>?_)
           ·exact .drop 0 2 (.done ⟨false,rfl,rfl,fun h=>by cases h⟩)
           ·refine bg (k+1) (by show s.T.length-(k+1)<s.T.length-k;omega) ⟨ab,fun u hu=>?_⟩ ⟨rfl,rfl,a8 (by omega),trivial⟩ (.drop 0 1 (.refl _))
            rw[iC]at hu
            rcases bR.1 hu with hu | hu
            ·exact ht u hu
            ·rw[bh.1 hu];omega
        ·have aq:k=s.T.length:=by have aq:¬(k:Int)<s.T.length:=aq;omega
         subst aq
         rw[fu]at ht
         exact .drop 0 1 (.done ⟨true,rfl,rfl,fun _=>⟨by omega,by omega,by omega,by omega,ht,by omega⟩⟩)
  ·have c3:¬(s.n≤256):=c3
   refine aa 0 ?_
   refine ak (fun c9=>?_) (fun c9=>?_)
   ·exact .drop 0 1 (.done ⟨false,rfl,rfl,fun h=>by cases h⟩)
   ·have c9:¬(8<(↑s.T.length:Int)):=c9
    refine aa 0 ?_
    refine ak (fun jT=>?_) (fun jT=>?_)
    ·exact .drop 0 1 (.done ⟨false,rfl,rfl,fun h=>by cases h⟩)
    ·have jT:¬(16<(↑s.aT.length:Int)):=jT
     refine aa 0 ?_
     refine ak (fun PN=>?_) (fun PN=>?_)
     ·exact .drop 0 1 (.done ⟨false,rfl,rfl,fun h=>by cases h⟩)
     ·have PN:¬(10<(↑s.entry.length:Int)):=PN
      refine aa 0 ?_
      refine ak (fun wO=>?_) (fun wO=>?_)
      ·exact .drop 0 1 (.done ⟨false,rfl,rfl,fun h=>by cases h⟩)
      ·have wO:¬(20<(↑s.init.length:Int)):=wO
       refine aa 0 ?_
       refine cc (S:=Nat) (fun k=>[(48,.ae kn s.T),(49,.int .i64 s.T.length),(50,.int .i64 k)]) (fun _=>(aD,aV s)::σ) (fun k=>k≤s.T.length∧∀t∈s.T.take k,t.1.length≤4∧t.2.1.length≤4∧t.2.2.1.length≤6) (fun k=>s.T.length-k) 0 ⟨⟨bE _,fun t h=>by cases h⟩,⟨rfl,rfl,rfl,trivial⟩,rfl⟩ ?_
       rintro k g ⟨aP,iN⟩
       have hk:k≤s.T.length:=aP
       have ht:∀t∈s.T.take k,t.1.length≤4∧t.2.1.length≤4∧t.2.2.1.length≤6:=iN
       clear aP iN
       refine ak (fun ab=>?_) (fun aq=>?_)
       ·have ab:k<s.T.length:=by have ab:(k:Int)<s.T.length:=ab;omega
        have iC:s.T.take (k+1)=s.T.take k++[s.T[k]]:=fw ab
        obtain⟨t,fQ⟩:∃t:l7,s.T[k]=t:=⟨_,rfl⟩
        rw[fQ]at iC
        refine aG.mk rfl (bM.mk t (by omega) ((get_some ab).trans (congrArg some fQ)) ?_)
        intro du
        refine aj 0 ?_
        refine aa 0 ?_
        refine ak (p:=4<(t.1.length:Int)) (fun d1=>?_) (fun d1=>?_)
        ·exact .drop 0 2 (.done ⟨false,rfl,rfl,fun h=>by cases h⟩)
        ·refine aa 0 ?_
         refine ak (p:=4<(t.2.1.length:Int)) (fun d2=>?_) (fun d2=>?_)
         ·exact .drop 0 2 (.done ⟨false,rfl,rfl,fun h=>by cases h⟩)
         ·refine aa 0 ?_
          refine ak (p:=6<(t.2.2.1.length:Int)) (fun d3=>?_) (fun d3=>?_)
          ·exact .drop 0 2 (.done ⟨false,rfl,rfl,fun h=>by cases h⟩)
          ·refine bg (k+1) (by show s.T.length-(k+1)<s.T.length-k;omega) ⟨ab,fun u hu=>?_⟩ ⟨rfl,rfl,a8 (by omega),trivial⟩ (.drop 0 1 (.refl _))
           rw[iC]at hu
           rcases bR.1 hu with hu | hu
           ·exact ht u hu
           ·rw[bh.1 hu];omega
       ·have aq:k=s.T.length:=by have aq:¬(k:Int)<s.T.length:=aq;omega
        subst aq
        rw[fu]at ht
        exact .drop 0 1 (.done ⟨true,rfl,rfl,fun _=>⟨by omega,by omega,by omega,by omega,ht,by omega⟩⟩)
 ·have c2:¬(7<s.n):=c2
  refine aa 0 ?_
  refine ak (fun F4=>?_) (fun F4=>?_)
  ·have F4:10<s.w:=F4
   refine aa 0 ?_
   refine ak (fun tf=>?_) (fun tf=>?_)
   ·have tf:s.n≤256:=tf
    refine aa 0 ?_
    refine ak (fun PM=>?_) (fun PM=>?_)
    ·exact .drop 0 1 (.done ⟨false,rfl,rfl,fun h=>by cases h⟩)
    ·have PM:¬(s.w≤1024):=PM
     refine aa 0 ?_
     refine ak (fun wN=>?_) (fun wN=>?_)
     ·exact .drop 0 1 (.done ⟨false,rfl,rfl,fun h=>by cases h⟩)
     ·have wN:¬(8<(↑s.T.length:Int)):=wN
      refine aa 0 ?_
      refine ak (fun PL=>?_) (fun PL=>?_)
      ·exact .drop 0 1 (.done ⟨false,rfl,rfl,fun h=>by cases h⟩)
      ·have PL:¬(16<(↑s.aT.length:Int)):=PL
       refine aa 0 ?_
       refine ak (fun PK=>?_) (fun PK=>?_)
       ·exact .drop 0 1 (.done ⟨false,rfl,rfl,fun h=>by cases h⟩)
       ·have PK:¬(10<(↑s.entry.length:Int)):=PK
        refine aa 0 ?_
        refine ak (fun PJ=>?_) (fun PJ=>?_)
        ·exact .drop 0 1 (.done ⟨false,rfl,rfl,fun h=>by cases h⟩)
        ·have PJ:¬(20<(↑s.init.length:Int)):=PJ
         refine aa 0 ?_
         refine cc (S:=Nat) (fun k=>[(48,.ae kn s.T),(49,.int .i64 s.T.length),(50,.int .i64 k)]) (fun _=>(aD,aV s)::σ) (fun k=>k≤s.T.length∧∀t∈s.T.take k,t.1.length≤4∧t.2.1.length≤4∧t.2.2.1.length≤6) (fun k=>s.T.length-k) 0 ⟨⟨bE _,fun t h=>by cases h⟩,⟨rfl,rfl,rfl,trivial⟩,rfl⟩ ?_
         rintro k g ⟨aP,iN⟩
         have hk:k≤s.T.length:=aP
         have ht:∀t∈s.T.take k,t.1.length≤4∧t.2.1.length≤4∧t.2.2.1.length≤6:=iN
         clear aP iN
         refine ak (fun ab=>?_) (fun aq=>?_)
         ·have ab:k<s.T.length:=by have ab:(k:Int)<s.T.length:=ab;omega
          have iC:s.T.take (k+1)=s.T.take k++[s.T[k]]:=fw ab
          obtain⟨t,fQ⟩:∃t:l7,s.T[k]=t:=⟨_,rfl⟩
          rw[fQ]at iC
          refine aG.mk rfl (bM.mk t (by omega) ((get_some ab).trans (congrArg some fQ)) ?_)
          intro du
          refine aj 0 ?_
          refine aa 0 ?_
          refine ak (p:=4<(t.1.length:Int)) (fun d1=>?_) (fun d1=>?_)
          ·exact .drop 0 2 (.done ⟨false,rfl,rfl,fun h=>by cases h⟩)
          ·refine aa 0 ?_
           refine ak (p:=4<(t.2.1.length:Int)) (fun d2=>?_) (fun d2=>?_)
           ·exact .drop 0 2 (.done ⟨false,rfl,rfl,fun h=>by cases h⟩)
           ·refine aa 0 ?_
            refine ak (p:=6<(t.2.2.1.length:Int)) (fun d3=>?_) (fun d3=>?_)
            ·exact .drop 0 2 (.done ⟨false,rfl,rfl,fun h=>by cases h⟩)
            ·refine bg (k+1) (by show s.T.length-(k+1)<s.T.length-k;omega) ⟨ab,fun u hu=>?_⟩ ⟨rfl,rfl,a8 (by omega),trivial⟩ (.drop 0 1 (.refl _))
             rw[iC]at hu
             rcases bR.1 hu with hu | hu
             ·exact ht u hu
             ·rw[bh.1 hu];omega
         ·have aq:k=s.T.length:=by have aq:¬(k:Int)<s.T.length:=aq;omega
          subst aq
          rw[fu]at ht
          exact .drop 0 1 (.done ⟨true,rfl,rfl,fun _=>⟨by omega,by omega,by omega,by omega,ht,by omega⟩⟩)
   ·have tf:¬(s.n≤256):=tf
    refine aa 0 ?_
    refine ak (fun PI=>?_) (fun PI=>?_)
    ·exact .drop 0 1 (.done ⟨false,rfl,rfl,fun h=>by cases h⟩)
    ·have PI:¬(8<(↑s.T.length:Int)):=PI
     refine aa 0 ?_
     refine ak (fun PH=>?_) (fun PH=>?_)
     ·exact .drop 0 1 (.done ⟨false,rfl,rfl,fun h=>by cases h⟩)
     ·have PH:¬(16<(↑s.aT.length:Int)):=PH
      refine aa 0 ?_
      refine ak (fun PG=>?_) (fun PG=>?_)
      ·exact .drop 0 1 (.done ⟨false,rfl,rfl,fun h=>by cases h⟩)
      ·have PG:¬(10<(↑s.entry.length:Int)):=PG
       refine aa 0 ?_
       refine ak (fun PF=>?_) (fun PF=>?_)
       ·exact .drop 0 1 (.done ⟨false,rfl,rfl,fun h=>by cases h⟩)
       ·have PF:¬(20<(↑s.init.length:Int)):=PF
        refine aa 0 ?_
        refine cc (S:=Nat) (fun k=>[(48,.ae kn s.T),(49,.int .i64 s.T.length),(50,.int .i64 k)]) (fun _=>(aD,aV s)::σ) (fun k=>k≤s.T.length∧∀t∈s.T.take k,t.1.length≤4∧t.2.1.length≤4∧t.2.2.1.length≤6) (fun k=>s.T.length-k) 0 ⟨⟨bE _,fun t h=>by cases h⟩,⟨rfl,rfl,rfl,trivial⟩,rfl⟩ ?_
        rintro k g ⟨aP,iN⟩
        have hk:k≤s.T.length:=aP
        have ht:∀t∈s.T.take k,t.1.length≤4∧t.2.1.length≤4∧t.2.2.1.length≤6:=iN
        clear aP iN
        refine ak (fun ab=>?_) (fun aq=>?_)
        ·have ab:k<s.T.length:=by have ab:(k:Int)<s.T.length:=ab;omega
         have iC:s.T.take (k+1)=s.T.take k++[s.T[k]]:=fw ab
         obtain⟨t,fQ⟩:∃t:l7,s.T[k]=t:=⟨_,rfl⟩
         rw[fQ]at iC
         refine aG.mk rfl (bM.mk t (by omega) ((get_some ab).trans (congrArg some fQ)) ?_)
         intro du
         refine aj 0 ?_
         refine aa 0 ?_
         refine ak (p:=4<(t.1.length:Int)) (fun d1=>?_) (fun d1=>?_)
         ·exact .drop 0 2 (.done ⟨false,rfl,rfl,fun h=>by cases h⟩)
         ·refine aa 0 ?_
          refine ak (p:=4<(t.2.1.length:Int)) (fun d2=>?_) (fun d2=>?_)
          ·exact .drop 0 2 (.done ⟨false,rfl,rfl,fun h=>by cases h⟩)
          ·refine aa 0 ?_
           refine ak (p:=6<(t.2.2.1.length:Int)) (fun d3=>?_) (fun d3=>?_)
           ·exact .drop 0 2 (.done ⟨false,rfl,rfl,fun h=>by cases h⟩)
           ·refine bg (k+1) (by show s.T.length-(k+1)<s.T.length-k;omega) ⟨ab,fun u hu=>?_⟩ ⟨rfl,rfl,a8 (by omega),trivial⟩ (.drop 0 1 (.refl _))
            rw[iC]at hu
            rcases bR.1 hu with hu | hu
            ·exact ht u hu
            ·rw[bh.1 hu];omega
        ·have aq:k=s.T.length:=by have aq:¬(k:Int)<s.T.length:=aq;omega
         subst aq
         rw[fu]at ht
         exact .drop 0 1 (.done ⟨true,rfl,rfl,fun _=>⟨by omega,by omega,by omega,by omega,ht,by omega⟩⟩)
  ·have F4:¬(10<s.w):=F4
   refine aa 0 ?_
   refine ak (fun PE=>?_) (fun PE=>?_)
   ·exact .drop 0 1 (.done ⟨false,rfl,rfl,fun h=>by cases h⟩)
   ·have PE:¬(8<(↑s.T.length:Int)):=PE
    refine aa 0 ?_
    refine ak (fun PD=>?_) (fun PD=>?_)
    ·exact .drop 0 1 (.done ⟨false,rfl,rfl,fun h=>by cases h⟩)
    ·have PD:¬(16<(↑s.aT.length:Int)):=PD
     refine aa 0 ?_
     refine ak (fun PC=>?_) (fun PC=>?_)
     ·exact .drop 0 1 (.done ⟨false,rfl,rfl,fun h=>by cases h⟩)
     ·have PC:¬(10<(↑s.entry.length:Int)):=PC
      refine aa 0 ?_
      refine ak (fun PB=>?_) (fun PB=>?_)
      ·exact .drop 0 1 (.done ⟨false,rfl,rfl,fun h=>by cases h⟩)
      ·have PB:¬(20<(↑s.init.length:Int)):=PB
       refine aa 0 ?_
       refine cc (S:=Nat) (fun k=>[(48,.ae kn s.T),(49,.int .i64 s.T.length),(50,.int .i64 k)]) (fun _=>(aD,aV s)::σ) (fun k=>k≤s.T.length∧∀t∈s.T.take k,t.1.length≤4∧t.2.1.length≤4∧t.2.2.1.length≤6) (fun k=>s.T.length-k) 0 ⟨⟨bE _,fun t h=>by cases h⟩,⟨rfl,rfl,rfl,trivial⟩,rfl⟩ ?_
       rintro k g ⟨aP,iN⟩
       have hk:k≤s.T.length:=aP
       have ht:∀t∈s.T.take k,t.1.length≤4∧t.2.1.length≤4∧t.2.2.1.length≤6:=iN
       clear aP iN
       refine ak (fun ab=>?_) (fun aq=>?_)
       ·have ab:k<s.T.length:=by have ab:(k:Int)<s.T.length:=ab;omega
        have iC:s.T.take (k+1)=s.T.take k++[s.T[k]]:=fw ab
        obtain⟨t,fQ⟩:∃t:l7,s.T[k]=t:=⟨_,rfl⟩
        rw[fQ]at iC
        refine aG.mk rfl (bM.mk t (by omega) ((get_some ab).trans (congrArg some fQ)) ?_)
        intro du
        refine aj 0 ?_
        refine aa 0 ?_
        refine ak (p:=4<(t.1.length:Int)) (fun d1=>?_) (fun d1=>?_)
        ·exact .drop 0 2 (.done ⟨false,rfl,rfl,fun h=>by cases h⟩)
        ·refine aa 0 ?_
         refine ak (p:=4<(t.2.1.length:Int)) (fun d2=>?_) (fun d2=>?_)
         ·exact .drop 0 2 (.done ⟨false,rfl,rfl,fun h=>by cases h⟩)
         ·refine aa 0 ?_
          refine ak (p:=6<(t.2.2.1.length:Int)) (fun d3=>?_) (fun d3=>?_)
          ·exact .drop 0 2 (.done ⟨false,rfl,rfl,fun h=>by cases h⟩)
          ·refine bg (k+1) (by show s.T.length-(k+1)<s.T.length-k;omega) ⟨ab,fun u hu=>?_⟩ ⟨rfl,rfl,a8 (by omega),trivial⟩ (.drop 0 1 (.refl _))
           rw[iC]at hu
           rcases bR.1 hu with hu | hu
           ·exact ht u hu
           ·rw[bh.1 hu];omega
       ·have aq:k=s.T.length:=by have aq:¬(k:Int)<s.T.length:=aq;omega
        subst aq
        rw[fu]at ht
        exact .drop 0 1 (.done ⟨true,rfl,rfl,fun _=>⟨by omega,by omega,by omega,by omega,ht,by omega⟩⟩)
theorem ag2{s:Sy}(h:VV s)(hi:aU s.init)(ht:∀t∈s.T,aU t.1∧aU t.2.1):Fit s:=by
 obtain⟨h1,h2,h3,h4,h5,_⟩:=h
 exact⟨hi,by omega,by omega,by omega,by omega,fun t hm=>⟨(ht t hm).1,(ht t hm).2,by have:=h5 t hm;omega,by have:=h5 t hm;omega,by have:=h5 t hm;omega⟩⟩
theorem Hw{f:FuncId}{xs:List AV}{σ:Hp}{K:AV→Hp→Prop}(i k b':Nat)(cs':List AV)(e:Sh)(hi:σ[i]?=some (b',cs'))(hk:cs'[k]?=some .ai)(h:CallAt Tryz.prog f K xs (σ.set i (b',cs'.set k (.ae e [])))):CallAt Tryz.prog f K xs σ:=
 .mk [] K ⟨(yF h).1,fun F w vs bN aE=>(yF h).2 F w vs bN (Uo aE e hi hk)⟩ fun _ _ h=>h
theorem AO{b off len es:Nat}{e:Sh}{l:List e.T}{xs ys:List AV}(h:eI b off len es e l (.tup xs) (.tup ys))(hl:ys.all AV.leaf=true):eI b off len es e l (.agg xs) (.agg ys):=by
 cases h with
 |refl=>exact .refl _
 |tup _ _ h1 h2=>exact .agg _ _ h1 (fun i y hy=>fI.1 hl y (cu hy)) h2
def ml(s:Sy):Nat→List (List Int)→Nat→List (List Int)×Nat
 | 0,a,k=>(a,k)
 |m+1,a,k=>if a=fN s a then (a,k) else ml s m (fN s a) (k+1)
theorem K9{s:Sy}{a:List (List Int)}(m k:Nat)(h:a=fN s a):ml s m a k=(a,k):=by
 cases m with
 |zero=>rfl
 |succ m=>exact ah h
theorem Mc{s:Sy}{a:List (List Int)}(m k:Nat)(h:¬a=fN s a):ml s (m+1) a k=ml s m (fN s a) (k+1):=ag h
theorem VL(a b:List (List Int))(σ:Hp)(ha:k8 a):ACalls Tryz.prog 240 [.ae (.slice (.int .u64)) a,.ae (.slice (.int .u64)) b] σ (aB (.bool (decide (a=b))) σ):=by
 refine au Tryz.func240 ?_
 refine az [] (TB 244 [] a b (fun x y=>decide (x=y)) _ (eu ha.1 (by decide)) (fun x hx y _=>ad6 x y _ (eu (ha.2 x hx).2 (by decide)))) ?_
 exact .done ⟨bY (aaQ a b),rfl⟩
theorem R9(s:Sy)(a:List (List Int))(q r:Nat)(σ:Hp)(hf:Fit s)(hg:Good s)(ha:iL s a):ACalls Tryz.prog 238 [.ptr q 0,.ptr r 0] ((r,[.ae (.slice (.int .u64)) a])::(q,aV s)::σ) (aB (.ae (.slice (.int .u64)) (fN s a)) ((r,[.ae (.slice (.int .u64)) a])::(q,aV s)::σ)):=by
 refine au Tryz.func238 ?_
 refine aa 1 ?_
 refine aa 0 ?_
 refine az [] (qg (acX s a _ hf (ha.ok hg)) (by rw[aey hg ha])) ?_
 exact .done ⟨rfl,rfl⟩
theorem KE{s:Sy}(hg:Good s):iL s (iD s):=by
 refine⟨by rw[PV];have:=hg.n1;omega,fun x hx=>?_⟩
 rw[(Pg.1 hx).2]
 exact⟨Hx hg.ug,HT _ _⟩
theorem ad3(s:Sy)(y8:Int)(σ:Hp)(hf:Fit s)(hm:cb s=0→0≤y8∧y8≤1000000):ACalls Tryz.prog 189 [.agg (aV s),.int .i64 y8] σ (aB (.tup [.ae (.slice (.int .u64)) (vX (cb s) (ml s y8.toNat (iD s) 0).1),.int .i64 (if cb s=0 then ((ml s y8.toNat (iD s) 0).2:Int) else 0),.int .i64 (cb s)]) σ):=by
 refine au Tryz.func189 ?_
 intro aD
 refine aa 0 ?_
 by_cases c1:cb s=0
 ·have hg:=xl c1
  have hb:=KE hg
  have hm:=hm c1
  obtain⟨jc,rfl⟩:∃jc:Nat,y8=jc:=⟨y8.toNat,by omega⟩
  rw[bO]
  refine az [] (qg (Q8 s _ hf) (by rw[c1])) ?_
  intro br
  refine aj 0 ?_
  have hR:ml s (jc-0) (iD s) 0=ml s jc (iD s) 0:=rfl
  refine az [] (R9 s (iD s) aD br _ hf hg hb) ?_
  refine ak (p:=((0:Nat):Int)<(jc:Int)) (fun d1=>?_) (fun d1=>?_)
  rotate_left
  ·have d2:jc-0=0:=by omega
   refine aa 0 ?_
   rw[d2]at hR
   exact .drop 0 2 (.done ⟨by rw[← hR,c1];rfl,rfl⟩)
  refine aa 0 ?_
  refine dm [] (VL (iD s) (fN s (iD s)) _ ((hb).ok hg)) (fun d2=>?_) (fun d2=>?_)
  ·have d2:(iD s)=fN s (iD s):=fv d2
   refine aa 0 ?_
   rw[K9 _ _ d2]at hR
   exact .drop 0 2 (.done ⟨by rw[← hR,c1];rfl,rfl⟩)
  have d2:¬(iD s)=fN s (iD s):=qd d2
  refine aj 0 ?_
  rw[show jc-0=(jc-(0+1))+1 by omega,Mc _ _ d2]at hR
  refine .loop (S:=List (List Int)×Nat) (fun _=>0) (fun x=>[(1,.int .i64 jc),(2,.ptr aD 0),(7,.ptr br 0),(9,.int .i64 x.2),(10,.fn (.func 238) [] [.ptr aD 0,.ptr br 0])]) (fun x=>(br,[.ae (.slice (.int .u64)) x.1])::(aD,aV s)::σ) (fun x=>(iL s x.1∧x.2≤jc)∧ml s (jc-x.2) x.1 x.2=ml s jc (iD s) 0) (fun x=>jc-x.2) (fN s (iD s),1) ⟨rfl,⟨⟨CQ hf hg hb,by omega⟩,hR⟩,⟨rfl,rfl,rfl,rfl,rfl,trivial⟩,.refl _⟩ ?_
  rintro⟨a,k⟩ t ⟨⟨lv,aP⟩,hR0⟩
  have ha:iL s a:=lv
  have hk:k≤jc:=aP
  have hR:ml s (jc-k) a k=ml s jc (iD s) 0:=hR0
  clear lv aP hR0
  refine az [] (R9 s a aD br _ hf hg ha) ?_
  refine ak (p:=((k:Nat):Int)<(jc:Int)) (fun d1=>?_) (fun d1=>?_)
  rotate_left
  ·have d2:jc-k=0:=by omega
   refine aa 0 ?_
   rw[d2]at hR
   exact .drop 0 2 (.done ⟨by rw[← hR,c1];rfl,rfl⟩)
  refine aa 0 ?_
  refine dm [] (VL a (fN s a) _ ((ha).ok hg)) (fun d2=>?_) (fun d2=>?_)
  ·have d2:a=fN s a:=fv d2
   refine aa 0 ?_
   rw[K9 _ _ d2]at hR
   exact .drop 0 2 (.done ⟨by rw[← hR,c1];rfl,rfl⟩)
  have d2:¬a=fN s a:=qd d2
  refine aj 0 ?_
  rw[show jc-k=(jc-(k+1))+1 by omega,Mc _ _ d2]at hR
  exact .mk (fN s a,k+1) rfl (by show jc-(k+1)<jc-k;omega) ⟨⟨CQ hf hg ha,by show k+1≤jc;omega⟩,hR⟩ ⟨rfl,rfl,rfl,a8 (by omega),rfl,trivial⟩ (.refl _)
 ·refine az [] (Q8 s _ hf) ?_
  intro br
  refine aj 0 ?_
  refine cI (fun _=>?_) (fun c2=>?_)
  ·exact .nil (cg (.nil _) (.refl _)) (.drop 0 2 (.done ⟨by unfold vX;rw[ag c1,ag c1];rfl,rfl⟩))
  ·have c2:(!decide (cb s=0))=false:=c2
   exact absurd (by simpa using c2) c1
def yQ(s:Sy):Int:=s.n*dR s.what s.w+1
theorem GG(what w:Int):0≤dR what w∧dR what w≤2048:=by
 unfold dR
 split
 ·rename_i h
  unfold cO at h;simp at h
  split <;> omega
 ·omega
theorem afh(s:Sy)(σ:Hp):ACalls Tryz.prog 190 [.agg (aV s)] σ (aB (.int .i64 (IntKind.i64.wrap (IntKind.i64.wrap (s.n*dR s.what s.w)+1))) σ):=by
 refine au Tryz.func190 ?_
 intro aD
 refine .quiet (by kernel_rfl) ?_
 refine aa 0 ?_
 refine aa 0 ?_
 refine aa 0 ?_
 refine aH [] (G6 _ _ _) ?_
 exact .drop 0 1 (.done ⟨rfl,rfl⟩)
theorem Ln{s:Sy}(hg:Good s):IntKind.i64.wrap (IntKind.i64.wrap (s.n*dR s.what s.w)+1)=yQ s∧0≤yQ s∧yQ s≤1000000:=by
 have h1:=hg.n1
 have h2:=hg.n2
 have h3:=GG s.what s.w
 have h4:s.n*dR s.what s.w≤256*2048:=JM h2 h3.2 h3.1 (by decide)
 have h5:0≤s.n*dR s.what s.w:=FD (by omega) h3.1
 unfold yQ
 rw[dx (n:=s.n*dR s.what s.w) (by omega),dx (by omega)]
 omega
def kX(s:Sy):List (List Int)×Nat:=ml s (yQ s).toNat (iD s) 0
theorem agl(s:Sy)(σ:Hp)(hf:Fit s):ACalls Tryz.prog 136 [.agg (aV s)] σ (aB (.tup [.ae (.slice (.int .u64)) (vX (cb s) (kX s).1),.int .i64 (if cb s=0 then ((kX s).2:Int) else 0),.int .i64 (cb s)]) σ):=by
 refine au Tryz.func136 ?_
 intro aD
 refine .quiet (by kernel_rfl) ?_
 refine aa 0 ?_
 refine aa 0 ?_
 refine aH [] (afh s _) ?_
 refine aH [] (ad3 s _ _ hf (fun h=>?_)) ?_
 ·have:=Ln (xl h)
  rw[this.1];exact this.2
 ·refine .drop 0 1 (.done ⟨?_,rfl⟩)
  by_cases h:cb s=0
  ·unfold kX
   rw[(Ln (xl h)).1]
   rfl
  ·unfold vX
   rw[ag h,ag h,ag h,ag h]
   rfl
def tW(n:Nat)(f:Nat→Nat):Nat:=((List.range n).map f).sum
theorem K3(n:Nat)(f:Nat→Nat):tW (n+1) f=tW n f+f n:=by unfold tW;rw[List.range_succ,List.map_append,List.sum_append];simp
theorem K4{f g:Nat→Nat}:∀n,(∀i,i<n→f i≤g i)→tW n f≤tW n g∧(tW n f=tW n g→∀i,i<n→f i=g i)
 | 0,_=>⟨aR _,fun _ i h=>absurd h (nV i)⟩
 |n+1,h=>by
  obtain⟨h1,h2⟩:=K4 n fun i hi=>h i (by omega)
  have h3:=h n (by omega)
  rw[K3,K3]
  refine⟨by omega,fun e i hi=>?_⟩
  by_cases ee:i=n
  ·subst ee;omega
  ·exact h2 (by omega) i (by omega)
theorem Hd{f:Nat→Nat}{c:Nat}:∀n,(∀i,i<n→f i≤c)→tW n f≤n*c
 | 0,_=>bE _
 |n+1,h=>by
  have h1:=Hd n fun i hi=>h i (by omega)
  have h2:=h n (by omega)
  rw[K3,qa];omega
def ET(b:Bool):Nat:=if b=true then 1 else 0
def I9(z:Int):Nat:=if z=0 then 0 else if z=1 then 2 else 1
def qM(what:Int)(x:List Int)(j:Nat):Nat:=if what=3 then I9 (wd x j) else if what=1 then ET (dZ x (j / 64) (j % 64)) else ET (!dZ x (j / 64) (j % 64))
def su(what w:Int)(x:List Int):Nat:=tW w.toNat (qM what x)
theorem Up{w:Int}{a b:List Int}(h:eb 3 w a b){i:Nat}(hi:i<a.length):wd a i=wd b i∨wd a i=0∨wd b i=1:=by
 have hl:=wW h.1.v h.2.1.v
 have va:=((jJ (mH h.1.v) rfl).1 h.1.v).2
 have vb:=((jJ (mH h.1.v) rfl).1 h.2.1.v).2
 have:=uL va vb hi (by omega)
 rw[h.2.2]at this
 unfold jn at this
 split at this
 ·exact .inl this.symm
 ·split at this
  ·rename_i h0;exact .inr (.inl h0)
  ·exact .inr (.inr this)
theorem aeg{what w:Int}(hs:what=1∨what=2){a b:List Int}(h:eb what w a b){i k:Nat}(hi:i<a.length):jk what (dZ a i k) (dZ b i k)=dZ b i k:=by
 have hl:=wW h.1.v h.2.1.v
 rw[← pj hs h.1.dx h.2.1.dx hl i k hi,h.2.2]
theorem afy{what w:Int}{a b:List Int}(h:eb what w a b){j:Nat}(hj:j<w.toNat):qM what a j≤qM what b j:=by
 have hi:=mH h.1.v
 by_cases h3:what=3
 ·subst h3
  have hl:=((jJ hi rfl).1 h.1.v).1
  unfold qM I9
  rw[ah rfl,ah rfl]
  rcases Up h (i:=j) (by omega) with e | e | e
  ·rw[e];exact aR _
  ·rw[ah e];exact bE _
  ·rw[e]
   rw[ag (show ¬(1:Int)=0 by decide),ah rfl]
   split
   ·omega
   ·split <;> omega
 ·have hs:=HM hi h3
  have hla:=n0 ((qk hi h3).1 h.1.v)
  have hw:dY w=w.toNat:=by unfold cO at hi;simp at hi;unfold dY;omega
  have ab:j / 64<a.length:=by rw[hla];unfold ej;omega
  have hb:=aeg hs h (k:=j % 64) ab
  unfold qM ET
  rw[ag h3,ag h3]
  unfold jk at hb
  rcases hs with rfl | rfl
  ·rw[ah rfl,ah rfl]
   rw[ah rfl]at hb
   revert hb
   cases dZ a (j / 64) (j % 64) <;> cases dZ b (j / 64) (j % 64) <;> simp
  ·rw[ag (show ¬(2:Int)=1 by decide),ag (show ¬(2:Int)=1 by decide)]
   rw[ag (show ¬(2:Int)=1 by decide)]at hb
   revert hb
   cases dZ a (j / 64) (j % 64) <;> cases dZ b (j / 64) (j % 64) <;> simp
theorem afz{what w:Int}{a b:List Int}(h:eb what w a b)(he:∀j,j<w.toNat→qM what a j=qM what b j):a=b:=by
 have hi:=mH h.1.v
 have hl:=wW h.1.v h.2.1.v
 refine C8 h.1 h.2.1 (fun h3 i ab=>?_) (fun hs i k ab hk=>?_)
 ·subst h3
  have hw:=((jJ hi rfl).1 h.1.v).1
  have:=he i (by omega)
  unfold qM I9 at this
  rw[ah rfl,ah rfl]at this
  rcases Up h ab with e | e | e
  ·exact e
  ·rw[ah e]at this
   split at this
   ·omega
   ·split at this <;> omega
  ·rw[e,ag (show ¬(1:Int)=0 by decide),ah rfl]at this
   split at this
   ·omega
   ·split at this
    ·omega
    ·omega
 ·have h3:¬what=3:=by omega
  have fa:=(qk hi h3).1 h.1.v
  have fb:=(qk hi h3).1 h.2.1.v
  have hw:dY w=w.toNat:=by unfold cO at hi;simp at hi;unfold dY;omega
  by_cases hc:64*i+k<dY w
  ·have:=he (64*i+k) (by omega)
   unfold qM ET at this
   rw[ag h3,ag h3,show (64*i+k) / 64=i by omega,show (64*i+k) % 64=k by omega]at this
   revert this
   split <;> cases dZ a i k <;> cases dZ b i k <;> simp
  ·rw[(ru h.1.dx (n0 fa)).1 fa i k ab hk (by omega),(ru h.2.1.dx (n0 fb)).1 fb i k (by omega) hk (by omega)]
theorem Qi{what w:Int}(x:List Int)(hi:cO what w=true):(su what w x:Int)≤dR what w:=by
 unfold dR su
 rw[ah hi]
 unfold cO at hi;simp at hi
 by_cases h3:what=3
 ·rw[ah h3]
  have:=Hd (f:=qM what x) (c:=2) w.toNat fun i _=>by
   unfold qM I9
   rw[ah h3]
   split
   ·omega
   ·split <;> omega
  omega
 ·rw[ag h3]
  have:=Hd (f:=qM what x) (c:=1) w.toNat fun i _=>by
   unfold qM ET
   rw[ag h3]
   split <;> split <;> omega
  omega
theorem Mf{what w:Int}{a b:List Int}(h:eb what w a b):su what w a≤su what w b∧(su what w a=su what w b→a=b):=by
 have:=K4 w.toNat fun j hj=>afy h hj
 exact⟨this.1,fun e=>afz h (this.2 e)⟩
def tV(s:Sy)(a:List (List Int)):Nat:=tW s.n.toNat fun v=>su s.what s.w (a.getD v [])
theorem adz{s:Sy}{a b:List (List Int)}(h:lO s a b):tV s a≤tV s b∧(tV s a=tV s b→a=b):=by
 have:=K4 (f:=fun v=>su s.what s.w (a.getD v [])) (g:=fun v=>su s.what s.w (b.getD v [])) s.n.toNat fun v hv=>(Mf (h.2.2 v (by omega))).1
 refine⟨this.1,fun e=>?_⟩
 have la:=h.1.len
 have lb:=h.2.1.len
 refine Ct (by omega) fun i h1 h2=>?_
 have hv:=(Mf (h.2.2 i (by omega))).2 (this.2 e i (by omega))
 rw[aW,aW,bj h1,bj h2]at hv
 exact hv
theorem Rl{s:Sy}(hg:Good s)(a:List (List Int)):(tV s a:Int)≤s.n*dR s.what s.w:=by
 have hh:=GG s.what s.w
 have:=Hd (f:=fun v=>su s.what s.w (a.getD v [])) (c:=(dR s.what s.w).toNat) s.n.toNat fun v _=>by
  have:=Qi (a.getD v []) hg.ug
  omega
 have hn:=hg.n1
 have e:(s.n.toNat*(dR s.what s.w).toNat:Nat)=s.n*dR s.what s.w:=by
  rw[Cb,lB (by omega),lB hh.1]
 unfold tV
 omega
theorem Yv{s:Sy}{i:Nat}(h:(i:Int)<s.n):(iD s).getD i []=gl s.what s.w:=by
 unfold iD
 rw[aW,wM,ah (by omega)];rfl
theorem R3{s:Sy}(hg:Good s){a:List (List Int)}(h:iL s a):lO s (iD s) a:=
 ⟨KE hg,h,fun i hi=>by rw[Yv hi];exact bot_le (h.get hi)⟩
theorem QI{s:Sy}(hf:Fit s)(hg:Good s):∀(m:Nat) (a:List (List Int)) (k:Nat),lO s a (fN s a)→k≤tV s a→s.n*dR s.what s.w+1≤(k+m:Nat)→
  iL s (ml s m a k).1∧(ml s m a k).1=fN s (ml s m a k).1∧((ml s m a k).2:Int)≤s.n*dR s.what s.w∧∀y,lO s (fN s y) y→lO s a y→lO s (ml s m a k).1 y
 | 0,a,k,h,hk,hm=>by have:=Rl hg a;omega
 |m+1,a,k,h,hk,hm=>by
  by_cases e:a=fN s a
  ·rw[K9 _ _ e]
   have:=Rl hg a
   exact⟨h.1,e,by show ((k:Nat):Int)≤_;omega,fun y _ hy=>hy⟩
  ·rw[Mc _ _ e]
   have h2:=Rm hf hg h
   have ab:k+1≤tV s (fN s a):=by
    have:=adz h
    by_cases e2:tV s a=tV s (fN s a)
    ·exact absurd (this.2 e2) e
    ·omega
   obtain⟨q1,q2,q3,q4⟩:=QI hf hg m (fN s a) (k+1) h2 ab (by omega)
   exact⟨q1,q2,q3,fun y hy hay=>q4 y hy ((Rm hf hg hay).trans hy)⟩
theorem Ap{s:Sy}(hf:Fit s)(hg:Good s):iL s (kX s).1∧(kX s).1=fN s (kX s).1∧((kX s).2:Int)≤s.n*dR s.what s.w∧∀y,lO s (fN s y) y→lO s (kX s).1 y:=by
 have hb:=KE hg
 have he:=Ln hg
 obtain⟨q1,q2,q3,q4⟩:=QI hf hg (yQ s).toNat (iD s) 0 (R3 hg (CQ hf hg hb)) (bE _) (by unfold yQ at he ⊢;omega)
 exact⟨q1,q2,q3,fun y hy=>q4 y hy (R3 hg hy.2.1)⟩
theorem af5(n:Int)(l:List bA)(σ:Hp)(hl:l.length≤1000000):ACalls Tryz.prog 113 [.int .i64 n,.ae dC l] σ (aB (.bool (ey n l)) σ):=by
 refine au Tryz.func113 ?_
 refine ak (p:=n<1) (fun c1=>?_) (fun c1=>?_)
 ·exact .done ⟨bY (by unfold ey;simp;omega),rfl⟩
 refine ak (p:=256<n) (fun c2=>?_) (fun c2=>?_)
 ·exact .done ⟨bY (by unfold ey;simp;omega),rfl⟩
 refine ak (p:=1024<(l.length:Int)) (fun c3=>?_) (fun c3=>?_)
 ·exact .done ⟨bY (by unfold ey;simp;omega),rfl⟩
 have ze:ey n l=l.all fun e=>cm n e.1&&cm n e.2.1:=by
  unfold ey
  rw[decide_eq_true (by omega),decide_eq_true (by omega),decide_eq_true (by omega)];simp
 refine cc (S:=Nat) (fun k=>[(0,.int .i64 n),(18,.ae dC l),(19,.int .i64 l.length),(20,.int .i64 k)]) (fun _=>σ) (fun k=>k≤l.length∧((l.take k).any fun e=> !(cm n e.1&&cm n e.2.1))=false) (fun k=>l.length-k) 0 ⟨⟨bE _,rfl⟩,⟨rfl,rfl,rfl,rfl,trivial⟩,rfl⟩ ?_
 rintro k g ⟨aP,lv⟩
 have hk:k≤l.length:=aP
 have ha:((l.take k).any fun e=> !(cm n e.1&&cm n e.2.1))=false:=lv
 clear aP lv
 refine ak (fun ab=>?_) (fun aq=>?_)
 ·have ab:k<l.length:=by have ab:(k:Int)<l.length:=ab;omega
  have hs:=qj ab fun e:bA=> !(cm n e.1&&cm n e.2.1)
  rw[ha,mY]at hs
  have hm:=bX ab
  obtain⟨d,hd⟩:∃d:bA,l[k]=d:=⟨_,rfl⟩
  rw[hd]at hs hm
  have qE:(cm n d.1&&cm n d.2.1)=false→false=ey n l:=fun h=>by
   rw[ze,DE]
   have:(l.any fun e=> !(cm n e.1&&cm n e.2.1))=true:=lA.2 ⟨d,hm,by rw[h];rfl⟩
   rw[this];rfl
  refine aG.mk rfl (bM.mk d (by omega) ((get_some ab).trans (congrArg some hd)) ?_)
  intro du
  refine aj 0 ?_
  refine aa 0 ?_
  refine ak (p:=d.1<0) (fun d1=>?_) (fun d1=>?_)
  ·exact .drop 0 1 (.done ⟨bY (qE (by unfold cm;simp;omega)),rfl⟩)
  refine aa 0 ?_
  refine ak (p:=n≤d.1) (fun d2=>?_) (fun d2=>?_)
  ·exact .drop 0 1 (.done ⟨bY (qE (by unfold cm;simp;omega)),rfl⟩)
  refine aa 0 ?_
  refine ak (p:=d.2.1<0) (fun d3=>?_) (fun d3=>?_)
  ·exact .drop 0 1 (.done ⟨bY (qE (by unfold cm;simp;omega)),rfl⟩)
  refine aa 0 ?_
  refine ak (p:=n≤d.2.1) (fun d4=>?_) (fun d4=>?_)
  ·exact .drop 0 1 (.done ⟨bY (qE (by unfold cm;simp;omega)),rfl⟩)
  exact bg (k+1) (by show l.length-(k+1)<l.length-k;omega) ⟨ab,hs.trans (by unfold cm;simp;omega)⟩ ⟨rfl,rfl,rfl,a8 (by omega),trivial⟩ (.drop 0 1 (.refl _))
 ·have aq:k=l.length:=by have aq:¬(k:Int)<l.length:=aq;omega
  subst aq
  rw[fu]at ha
  exact .done ⟨bY (by rw[ze,DE,ha];rfl),rfl⟩
theorem ab0(s:Sy)(σ:Hp)(hf:Fit s):ACalls Tryz.prog 56 [.agg (aV s)] σ (aB (.int .i64 (cb s)) σ):=by
 refine au Tryz.func56 ?_
 intro aD
 refine aa 0 ?_
 refine aa 0 ?_
 refine dm [] (IZ s.what s.w _) (fun hi=>?_) (fun hi=>?_)
 rotate_left
 ·exact .drop 0 1 (.done ⟨aJ (Vu hi),rfl⟩)
 refine aa 0 ?_
 refine aa 0 ?_
 refine dm [] (af5 s.n s.aT _ (eu hf.xL (by decide))) (fun cr=>?_) (fun cr=>?_)
 rotate_left
 ·exact .drop 0 1 (.done ⟨aJ (Bl hi fun h=>by rw[h.1]at cr;cases cr),rfl⟩)
 refine aa 0 ?_
 refine aa 0 ?_
 refine cI (fun ct=>?_) (fun ct=>?_)
 ·have ct:(!decide ((s.T.length:Int)=s.n))=true:=ct
  have ct:¬(s.T.length:Int)=s.n:=by simpa using ct
  exact .drop 0 1 (.done ⟨aJ (Bl hi fun h=>ct h.2),rfl⟩)
 have ct:(!decide ((s.T.length:Int)=s.n))=false:=ct
 have ct:(s.T.length:Int)=s.n:=by simpa using ct
 have hr:ey s.n s.aT=true∧(s.T.length:Int)=s.n:=⟨cr,ct⟩
 refine aa 0 ?_
 refine cc (S:=Nat) (fun k=>[(1,.ptr aD 0),(28,.ae (.int .i64) s.entry),(29,.int .i64 s.entry.length),(30,.int .i64 k)]) (fun _=>(aD,aV s)::σ) (fun k=>k≤s.entry.length∧((s.entry.take k).any fun v=> !cm s.n v)=false) (fun k=>s.entry.length-k) 0 ⟨⟨bE _,rfl⟩,⟨rfl,rfl,rfl,rfl,trivial⟩,rfl⟩ ?_
 rintro k g ⟨aP,lv⟩
 have hk:k≤s.entry.length:=aP
 have ha:((s.entry.take k).any fun v=> !cm s.n v)=false:=lv
 clear aP lv
 refine ak (fun ab=>?_) (fun aq=>?_)
 ·have ab:k<s.entry.length:=by have ab:(k:Int)<s.entry.length:=ab;omega
  have hs:=qj ab fun v=> !cm s.n v
  rw[ha,mY]at hs
  have qE:cm s.n s.entry[k]=false→(s.entry.any fun v=> !cm s.n v)=true:=fun h=>lA.2 ⟨s.entry[k],bX ab,by rw[h];rfl⟩
  refine aG.mk rfl (bM.mk s.entry[k] (by omega) (get_some ab) ?_)
  refine ak (p:=s.entry[k]<0) (fun d1=>?_) (fun d1=>?_)
  ·exact .drop 0 1 (.done ⟨aJ (A7 hi hr (qE (by unfold cm;simp;omega))),rfl⟩)
  ·refine aa 0 ?_
   refine ak (p:=s.n≤s.entry[k]) (fun d2=>?_) (fun d2=>?_)
   ·exact .drop 0 1 (.done ⟨aJ (A7 hi hr (qE (by unfold cm;simp;omega))),rfl⟩)
   ·exact bg (k+1) (by show s.entry.length-(k+1)<s.entry.length-k;omega) ⟨ab,hs.trans (by unfold cm;simp;omega)⟩ ⟨rfl,rfl,rfl,a8 (by have:=hf.Bv;omega),trivial⟩ (.refl _)
 have aq:k=s.entry.length:=by have aq:¬(k:Int)<s.entry.length:=aq;omega
 subst aq
 rw[fu]at ha
 refine aa 0 ?_
 refine aa 0 ?_
 refine aa 0 ?_
 refine dm [] (ad1 s.what s.w s.init _ hf.i64) (fun cv=>?_) (fun cv=>?_)
 rotate_left
 ·exact .drop 0 1 (.done ⟨aJ (Np hi hr ha cv),rfl⟩)
 refine aa 0 ?_
 refine cc (S:=Nat) (fun k=>[(1,.ptr aD 0),(52,.ae kn s.T),(53,.int .i64 s.T.length),(54,.int .i64 k)]) (fun _=>(aD,aV s)::σ) (fun k=>k≤s.T.length∧((s.T.take k).any fun t=> !decide (eT s.what s.w t.1 t.2.1 t.2.2.1=0))=false) (fun k=>s.T.length-k) 0 ⟨⟨bE _,rfl⟩,⟨rfl,rfl,rfl,rfl,trivial⟩,rfl⟩ ?_
 rintro k g ⟨aP,iN⟩
 have hk:k≤s.T.length:=aP
 have ht:((s.T.take k).any fun t=> !decide (eT s.what s.w t.1 t.2.1 t.2.2.1=0))=false:=iN
 clear aP iN
 refine ak (fun ab=>?_) (fun aq=>?_)
 ·have ab:k<s.T.length:=by have ab:(k:Int)<s.T.length:=ab;omega
  have hs:=qj ab fun t=> !decide (eT s.what s.w t.1 t.2.1 t.2.2.1=0)
  rw[ht,mY]at hs
  have ho:=hf.ts _ (bX ab)
  have hm:=bX ab
  obtain⟨t,fQ⟩:∃t:l7,s.T[k]=t:=⟨_,rfl⟩
  rw[fQ]at hs ho hm
  refine aG.mk rfl (bM.mk t (by omega) ((get_some ab).trans (congrArg some fQ)) ?_)
  intro du
  refine aj 0 ?_
  refine aa 1 ?_
  refine aa 1 ?_
  refine aa 0 ?_
  refine az [] (acW s.what s.w t.1 t.2.1 t.2.2.1 _ ho.1 ho.2.1 ho.2.2.1 ho.2.2.2.1 (eu ho.2.2.2.2 (by decide))) ?_
  refine cI (fun d1=>?_) (fun d1=>?_)
  ·exact .drop 0 2 (.done ⟨aJ (MQ hi hr ha cv (lA.2 ⟨t,hm,d1⟩)),rfl⟩)
  ·exact bg (k+1) (by show s.T.length-(k+1)<s.T.length-k;omega) ⟨ab,hs.trans d1⟩ ⟨rfl,rfl,rfl,a8 (by have:=hf.Iu;omega),trivial⟩ (.drop 0 1 (.refl _))
 ·have aq:k=s.T.length:=by have aq:¬(k:Int)<s.T.length:=aq;omega
  subst aq
  rw[fu]at ht
  exact .drop 0 1 (.done ⟨aJ (Ie hi hr ha cv ht),rfl⟩)
def iX(s:Sy)(v:Int):Int:=if cb s=0 then (if cm s.n v=true then 0 else 1) else cb s
theorem aa3{s:Sy}{v:Int}(h:¬cb s=0):cb s=iX s v:=(ag h).symm
theorem SR{s:Sy}{v:Int}(h:cb s=0)(hv:¬(0≤v∧v<s.n)):1=iX s v:=by unfold iX;rw[ah h,ag];rw[kO];exact hv
theorem GC{s:Sy}{v:Int}(h:cb s=0)(hv:0≤v∧v<s.n):0=iX s v:=by unfold iX;rw[ah h,ah];rw[kO];exact hv
theorem YZ{s:Sy}{v:Int}(h:iX s v=0):Good s∧0≤v∧v<s.n:=by
 unfold iX at h
 split at h
 ·rename_i h1
  split at h
  ·rename_i h2;exact⟨xl h1,kO.1 h2⟩
  ·cases h
 ·rename_i h1;exact absurd h h1
theorem Tw(s:Sy)(v:Int)(σ:Hp)(hf:Fit s):ACalls Tryz.prog 211 [.agg (aV s),.int .i64 v] σ (aB (.int .i64 (iX s v)) σ):=by
 refine au Tryz.func211 ?_
 intro aD
 refine aa 0 ?_
 refine az [] (yI s _ hf) ?_
 refine cI (fun c1=>?_) (fun c1=>?_)
 ·have c1:(!decide (cb s=0))=true:=c1
  have c1:¬cb s=0:=by simpa using c1
  exact .drop 0 1 (.done ⟨aJ (aa3 c1),rfl⟩)
 ·have c1:(!decide (cb s=0))=false:=c1
  have c1:cb s=0:=by simpa using c1
  refine ak (p:=v<0) (fun c2=>?_) (fun c2=>?_)
  ·exact .drop 0 1 (.done ⟨aJ (SR c1 (by omega)),rfl⟩)
  ·refine aa 0 ?_
   refine ak (p:=s.n≤v) (fun c3=>?_) (fun c3=>?_)
   ·exact .drop 0 1 (.done ⟨aJ (SR c1 (by omega)),rfl⟩)
   ·exact .drop 0 1 (.done ⟨aJ (GC c1 (by omega)),rfl⟩)
theorem aaW(s:Sy)(v:Int)(σ:Hp)(hf:Fit s):ACalls Tryz.prog 158 [.agg (aV s),.int .i64 v] σ (aB (.tup [.ae (.int .u64) (rY (iX s v) (gh s v)),.int .i64 (iX s v)]) σ):=by
 refine au Tryz.func158 ?_
 intro aD
 refine aa 0 ?_
 refine az [] (Tw s v _ hf) ?_
 refine cI (fun c1=>?_) (fun c1=>?_)
 ·have c1:(!decide (iX s v=0))=true:=c1
  have c1:¬iX s v=0:=by simpa using c1
  exact .nil (cg (.nil _) (.refl _)) (.drop 0 1 (.done ⟨by rw[Dr c1];rfl,rfl⟩))
 ·have c1:(!decide (iX s v=0))=false:=c1
  have c1:iX s v=0:=by simpa using c1
  refine aa 0 ?_
  refine az [] (VB s v _ hf) ?_
  exact .drop 0 1 (.done ⟨by rw[uS c1,c1];rfl,rfl⟩)
def pM(s:Sy)(v:Int)(x:List Int):Int:=if iX s v=0 then (if cC s.what s.w x=true then 0 else 2) else iX s v
theorem abL{s:Sy}{v:Int}(x:List Int)(h:¬iX s v=0):pM s v x=iX s v:=ag h
theorem SI{s:Sy}{v:Int}{x:List Int}(h:iX s v=0)(hv:cC s.what s.w x=true):pM s v x=0:=by unfold pM;rw[ah h,ah hv]
theorem aeX(s:Sy)(v:Int)(x:List Int)(σ:Hp)(hf:Fit s)(hx:aU x)(lx:x.length≤10000):ACalls Tryz.prog 399 [.agg (aV s),.int .i64 v,.ae (.int .u64) x] σ (aB (.tup [.ae (.int .u64) (rY (pM s v x) (ia s x v.toNat)),.int .i64 (pM s v x)]) σ):=by
 refine au Tryz.func399 ?_
 intro aD
 refine aa 0 ?_
 refine az [] (Tw s v _ hf) ?_
 refine cI (fun c1=>?_) (fun c1=>?_)
 ·have c1:(!decide (iX s v=0))=true:=c1
  have c1:¬iX s v=0:=by simpa using c1
  have e:=abL x c1
  exact .nil (cg (.nil _) (.refl _)) (.drop 0 1 (.done ⟨by rw[e,Dr c1];rfl,rfl⟩))
 ·have c1:(!decide (iX s v=0))=false:=c1
  have c1:iX s v=0:=by simpa using c1
  obtain⟨hg,r8,dy⟩:=YZ c1
  obtain⟨hT,OX⟩:=Ip hg (v:=v.toNat) (by omega)
  have ht:=hf.ts _ (bX hT)
  have hc:=hg.EP _ (bX hT)
  have hA:=fun σ=>UM s.what s.w s.T[v.toNat].1 s.T[v.toNat].2.1 s.T[v.toNat].2.2.1 x σ ht.1 ht.2.1 hx ht.2.2.1 ht.2.2.2.1 lx (eu ht.2.2.2.2 (by decide))
  have Oz:fS s.what s.T[v.toNat].1 s.T[v.toNat].2.1 s.T[v.toNat].2.2.1 x=ia s x v.toNat:=by unfold ia;rw[OX]
  have hE:vG s.what s.w s.T[v.toNat].1 s.T[v.toNat].2.1 s.T[v.toNat].2.2.1 x=pM s v x:=by unfold pM vG;rw[ah hc,ah c1]
  rw[Oz,hE]at hA
  refine .quiet (by kernel_rfl) ?_
  refine aa 0 ?_
  refine aa 0 ?_
  refine aa 0 ?_
  refine aG.mk rfl (bM.mk s.T[v.toNat] (by omega) (bj hT) ?_)
  refine aH [] (hA _) ?_
  exact .drop 0 1 (.done ⟨rfl,rfl⟩)
theorem mb{n:Int}{l:List bA}{a b:Int}:b∈ar n l a↔(0≤b∧b<n)∧(0≤a∧a<n)∧∃e∈l,e.1=a∧e.2.1=b:=by
 unfold ar ju
 rw[lZ,decide_eq_true_eq,dL,dL]
 constructor
 ·rintro⟨⟨i,hi,rfl⟩,e,he,h2⟩
  have hi:=gb.1 hi
  obtain⟨h3,h4⟩:=lZ.1 he
  simp only[bL,decide_eq_true_eq,kO]at h4
  exact⟨by omega,h4.1.2,e,h3,h4.1.1,h2⟩
 ·rintro⟨h1,h2,e,h3,h4,h5⟩
  refine⟨⟨b.toNat,gb.2 (by omega),by omega⟩,e,lZ.2 ⟨h3,?_⟩,h5⟩
  simp only[bL,decide_eq_true_eq,kO]
  exact⟨⟨h4,h2⟩,by omega⟩
theorem yA(n:Int)(l:List bA)(a:Int):(ar n l a).length≤n.toNat:=by
 unfold ar
 exact Nat.le_trans (List.length_filter_le _ _) (by simp)
theorem KH{s:Sy}(hf:Fit s)(hg:Good s){a:List (List Int)}(ha:iL s a)(v:Nat):∀k,k≤s.aT.length→eb s.what s.w (gh s v) (mf s a k v)∧∀e∈s.aT.take k,e.2.1=v→eb s.what s.w (ia s (a.getD e.1.toNat []) e.1.toNat) (mf s a k v)
 | 0,_=>⟨eb.refl (K6 hf hg v),fun e he=>by cases he⟩
 |k+1,hk=>by
  obtain⟨h1,h2⟩:=KH hf hg ha v k (by omega)
  have ab:k<s.aT.length:=by omega
  have hv:=ZL hf hg ha v k (by omega)
  have he:=hg.zu _ (bX ab)
  have ho:eH s.what s.w (ia s (a.getD s.aT[k].1.toNat []) s.aT[k].1.toNat):=by
   have hx:=ha.get (i:=s.aT[k].1.toNat) (by omega)
   have:=Hh hf hg hx.dx hx.v (v:=s.aT[k].1.toNat) (by omega)
   exact⟨this.1,this.2⟩
  have my:eb s.what s.w (mf s a k v) (mf s a (k+1) v):=by
   rw[Ak s a ab]
   unfold za
   split
   ·exact eb.left hv ho
   ·exact eb.refl hv
  refine⟨h1.trans my,fun e hm ke=>?_⟩
  rw[fw ab]at hm
  rcases bR.1 hm with hm | hm
  ·exact (h2 e hm ke).trans my
  ·rw[bh.1 hm]at ke ⊢
   rw[Ak s a ab]
   unfold za
   rw[ah ke]
   exact eb.right hv ho
theorem Tx(s:Sy)(σ:Hp)(hf:Fit s)(hg:Good s):ACalls Tryz.prog 136 [.agg (aV s)] σ (aB (.tup [.ae (.slice (.int .u64)) (kX s).1,.int .i64 (kX s).2,.int .i64 0]) σ):=by
 refine qg (agl s σ hf) ?_
 rw[Au hg];rfl
end Go.Proofs.YtnikdflhefijbaaGreat
