import Derived.Test.YtnpidbjdilnhlaaGreatBn13
import Derived.Test.YtnpidbjdilnhlaaGreatBn24
namespace Go.Proofs.YtnpidbjdilnhlaaGreat
open Go.RowKit
set_option maxRecDepth 100000
theorem Uo(n:Int)(l:List aK)(σ:Hp)(hl:l.length≤1000000):ACalls Tryz.prog 95 [.int .i64 n,.af bA l] σ (aB (.bool (cU n l)) σ):=by
 refine okF Tryz.func95 (by kernel_rfl) ?_
 refine an (p:=n<1) (fun c1 =>?_) (fun c1 =>?_)
 ·exact .done ⟨bz (by unfold cU;simp;omega),rfl⟩
 refine an (p:=256<n) (fun c2 =>?_) (fun c2 =>?_)
 ·exact .done ⟨bz (by unfold cU;simp;omega),rfl⟩
 refine an (p:=1024<(l.length:Int)) (fun c3 =>?_) (fun c3 =>?_)
 ·exact .done ⟨bz (by unfold cU;simp;omega),rfl⟩
 have A6:cU n l=l.all fun e=>bG n e.1 && bG n e.2.1:=by
  unfold cU
  rw[decide_eq_true (by omega),decide_eq_true (by omega),decide_eq_true (by omega)];simp
 refine aU (S:=Nat) (fun k=>[(0,.int .i64 n),(18,.af bA l),(19,.int .i64 l.length),(20,.int .i64 k)]) (fun _=>σ) (fun k=>k≤l.length∧((l.take k).any fun e => !(bG n e.1 && bG n e.2.1))=false) (fun k=>l.length-k) 0 ⟨⟨Nat.zero_le _,rfl⟩,⟨rfl,rfl,rfl,rfl,trivial⟩,rfl⟩ ?_
 rintro k g ⟨aG,eA⟩
 have hk:k≤l.length:=aG
 have ha:((l.take k).any fun e => !(bG n e.1 && bG n e.2.1))=false:=eA
 clear aG eA
 refine an (fun ab =>?_) (fun aq =>?_)
 ·have ab:k<l.length:=by have ab:(k:Int)<l.length:=ab;omega
  have hs:=kF ab fun e:aK => !(bG n e.1 && bG n e.2.1)
  rw[ha,Bool.false_or]at hs
  have hm:=List.getElem_mem ab
  obtain⟨d,hd⟩:∃d:aK,l[k]=d:=⟨_,rfl⟩
  rw[hd]at hs hm
  have kq:(bG n d.1 && bG n d.2.1)=false→false=cU n l:=fun h=>by
   rw[A6,AD]
   have:(l.any fun e => !(bG n e.1 && bG n e.2.1))=true:=List.any_eq_true.2 ⟨d,hm,by rw[h];rfl⟩
   rw[this];rfl
  refine ah.mk rfl (aT.mk d (by omega) ((get_some ab).trans (congrArg some hd)) ?_)
  intro bM
  refine ai.mk 0 _ _ rfl rfl ?_
  refine aa.mk 0 _ _ rfl rfl ?_
  refine an (p:=d.1<0) (fun d1 =>?_) (fun d1 =>?_)
  ·exact .drop 0 1 (.done ⟨bz (kq (by unfold bG;simp;omega)),rfl⟩)
  refine aa.mk 0 _ _ rfl rfl ?_
  refine an (p:=n≤d.1) (fun d2 =>?_) (fun d2 =>?_)
  ·exact .drop 0 1 (.done ⟨bz (kq (by unfold bG;simp;omega)),rfl⟩)
  refine aa.mk 0 _ _ rfl rfl ?_
  refine an (p:=d.2.1<0) (fun d3 =>?_) (fun d3 =>?_)
  ·exact .drop 0 1 (.done ⟨bz (kq (by unfold bG;simp;omega)),rfl⟩)
  refine aa.mk 0 _ _ rfl rfl ?_
  refine an (p:=n≤d.2.1) (fun d4 =>?_) (fun d4 =>?_)
  ·exact .drop 0 1 (.done ⟨bz (kq (by unfold bG;simp;omega)),rfl⟩)
  exact aH (k+1) (by show l.length-(k+1)<l.length-k;omega) ⟨ab,hs.trans (by unfold bG;simp;omega)⟩ ⟨rfl,rfl,rfl,aI (by omega),trivial⟩ (.drop 0 1 (.refl _))
 ·have aq:k=l.length:=by have aq:¬(k:Int)<l.length:=aq;omega
  subst aq
  rw[List.take_length]at ha
  exact .done ⟨bz (by rw[A6,AD,ha];rfl),rfl⟩
theorem QL(s:Sy)(σ:Hp)(hf:Fit s):ACalls Tryz.prog 41 [.agg (bg s)] σ (aB (.int .i64 (dm s)) σ):=by
 refine okF Tryz.func41 (by kernel_rfl) ?_
 intro aC
 refine aa.mk 0 _ _ rfl rfl ?_
 refine aa.mk 0 _ _ rfl rfl ?_
 refine cm [] (yf s.ag s.w _) (fun hi =>?_) (fun hi =>?_)
 rotate_left
 ·exact .drop 0 1 (.done ⟨aN (Lg hi),rfl⟩)
 refine aa.mk 0 _ _ rfl rfl ?_
 refine aa.mk 0 _ _ rfl rfl ?_
 refine cm [] (Uo s.n s.bQ _ (Nat.le_trans hf.tH (by decide))) (fun cr =>?_) (fun cr =>?_)
 rotate_left
 ·exact .drop 0 1 (.done ⟨aN (vv hi fun h=>by rw[h.1]at cr;cases cr),rfl⟩)
 refine aa.mk 0 _ _ rfl rfl ?_
 refine aa.mk 0 _ _ rfl rfl ?_
 refine bS (fun ct =>?_) (fun ct =>?_)
 ·have ct:(!decide ((s.T.length:Int)=s.n))=true:=ct
  have ct:¬(s.T.length:Int)=s.n:=by simpa using ct
  exact .drop 0 1 (.done ⟨aN (vv hi fun h=>ct h.2),rfl⟩)
 have ct:(!decide ((s.T.length:Int)=s.n))=false:=ct
 have ct:(s.T.length:Int)=s.n:=by simpa using ct
 have hr:cU s.n s.bQ=true∧(s.T.length:Int)=s.n:=⟨cr,ct⟩
 refine aa.mk 0 _ _ rfl rfl ?_
 refine aU (S:=Nat) (fun k=>[(1,.ptr aC 0),(28,.af (.int .i64) s.entry),(29,.int .i64 s.entry.length),(30,.int .i64 k)]) (fun _=>(aC,bg s)::σ) (fun k=>k≤s.entry.length∧((s.entry.take k).any fun v => !bG s.n v)=false) (fun k=>s.entry.length-k) 0 ⟨⟨Nat.zero_le _,rfl⟩,⟨rfl,rfl,rfl,rfl,trivial⟩,rfl⟩ ?_
 rintro k g ⟨aG,eA⟩
 have hk:k≤s.entry.length:=aG
 have ha:((s.entry.take k).any fun v => !bG s.n v)=false:=eA
 clear aG eA
 refine an (fun ab =>?_) (fun aq =>?_)
 ·have ab:k<s.entry.length:=by have ab:(k:Int)<s.entry.length:=ab;omega
  have hs:=kF ab fun v => !bG s.n v
  rw[ha,Bool.false_or]at hs
  have kq:bG s.n s.entry[k]=false→(s.entry.any fun v => !bG s.n v)=true:=fun h=>List.any_eq_true.2 ⟨s.entry[k],List.getElem_mem ab,by rw[h];rfl⟩
  refine ah.mk rfl (aT.mk s.entry[k] (by omega) (get_some ab) ?_)
  refine an (p:=s.entry[k]<0) (fun d1 =>?_) (fun d1 =>?_)
  ·exact .drop 0 1 (.done ⟨aN (u0 hi hr (kq (by unfold bG;simp;omega))),rfl⟩)
  ·refine aa.mk 0 _ _ rfl rfl ?_
   refine an (p:=s.n≤s.entry[k]) (fun d2 =>?_) (fun d2 =>?_)
   ·exact .drop 0 1 (.done ⟨aN (u0 hi hr (kq (by unfold bG;simp;omega))),rfl⟩)
   ·exact aH (k+1) (by show s.entry.length-(k+1)<s.entry.length-k;omega) ⟨ab,hs.trans (by unfold bG;simp;omega)⟩ ⟨rfl,rfl,rfl,aI (by have:=hf.sc;omega),trivial⟩ (.refl _)
 have aq:k=s.entry.length:=by have aq:¬(k:Int)<s.entry.length:=aq;omega
 subst aq
 rw[List.take_length]at ha
 refine aa.mk 0 _ _ rfl rfl ?_
 refine aa.mk 0 _ _ rfl rfl ?_
 refine aa.mk 0 _ _ rfl rfl ?_
 refine cm [] (Si s.ag s.w s.init _ hf.i64) (fun cv =>?_) (fun cv =>?_)
 rotate_left
 ·exact .drop 0 1 (.done ⟨aN (EK hi hr ha cv),rfl⟩)
 refine aa.mk 0 _ _ rfl rfl ?_
 refine aU (S:=Nat) (fun k=>[(1,.ptr aC 0),(52,.af gR s.T),(53,.int .i64 s.T.length),(54,.int .i64 k)]) (fun _=>(aC,bg s)::σ) (fun k=>k≤s.T.length∧((s.T.take k).any fun t => !decide (dP s.ag s.w t.1 t.2.1 t.2.2.1=0))=false) (fun k=>s.T.length-k) 0 ⟨⟨Nat.zero_le _,rfl⟩,⟨rfl,rfl,rfl,rfl,trivial⟩,rfl⟩ ?_
 rintro k g ⟨aG,eV⟩
 have hk:k≤s.T.length:=aG
 have ht:((s.T.take k).any fun t => !decide (dP s.ag s.w t.1 t.2.1 t.2.2.1=0))=false:=eV
 clear aG eV
 refine an (fun ab =>?_) (fun aq =>?_)
 ·have ab:k<s.T.length:=by have ab:(k:Int)<s.T.length:=ab;omega
  have hs:=kF ab fun t => !decide (dP s.ag s.w t.1 t.2.1 t.2.2.1=0)
  rw[ht,Bool.false_or]at hs
  have ho:=hf.ts _ (List.getElem_mem ab)
  have hm:=List.getElem_mem ab
  obtain⟨t,dh⟩:∃t:jk,s.T[k]=t:=⟨_,rfl⟩
  rw[dh]at hs ho hm
  refine ah.mk rfl (aT.mk t (by omega) ((get_some ab).trans (congrArg some dh)) ?_)
  intro bM
  refine ai.mk 0 _ _ rfl rfl ?_
  refine aa.mk 1 _ _ rfl rfl ?_
  refine aa.mk 1 _ _ rfl rfl ?_
  refine aa.mk 0 _ _ rfl rfl ?_
  refine az [] (Sd s.ag s.w t.1 t.2.1 t.2.2.1 _ ho.1 ho.2.1 ho.2.2.1 ho.2.2.2.1 (Nat.le_trans ho.2.2.2.2 (by decide))) ?_
  refine bS (fun d1 =>?_) (fun d1 =>?_)
  ·exact .drop 0 2 (.done ⟨aN (D9 hi hr ha cv (List.any_eq_true.2 ⟨t,hm,d1⟩)),rfl⟩)
  ·exact aH (k+1) (by show s.T.length-(k+1)<s.T.length-k;omega) ⟨ab,hs.trans d1⟩ ⟨rfl,rfl,rfl,aI (by have:=hf.qy;omega),trivial⟩ (.drop 0 1 (.refl _))
 ·have aq:k=s.T.length:=by have aq:¬(k:Int)<s.T.length:=aq;omega
  subst aq
  rw[List.take_length]at ht
  exact .drop 0 1 (.done ⟨aN (Bb hi hr ha cv ht),rfl⟩)
theorem Sl(a b:List (List Int))(σ:Hp)(ha:Me a):ACalls Tryz.prog 21 [.af (.slice (.int .u64)) a,.af (.slice (.int .u64)) b] σ (aB (.bool (decide (a=b))) σ):=by
 refine okF Tryz.func21 (by kernel_rfl) ?_
 have Gf:=ha.1
 refine bS (fun c1 =>?_) (fun c1 =>?_)
 ·have c1:(!decide ((a.length:Int)=(b.length:Int)))=true:=c1
  have:a≠b:=by rintro rfl;simp at c1
  exact .done ⟨bz (decide_eq_false this).symm,rfl⟩
 ·have c1:(!decide ((a.length:Int)=(b.length:Int)))=false:=c1
  have hlen:a.length=b.length:=by simp at c1;omega
  refine aU (S:=Nat) (fun k=>[(0,.af (.slice (.int .u64)) a),(1,.af (.slice (.int .u64)) b),(12,.int .i64 a.length),(13,.int .i64 k)]) (fun _=>σ) (fun k=>k≤a.length∧a.take k=b.take k) (fun k=>a.length-k) 0 ⟨⟨Nat.zero_le _,rfl⟩,⟨rfl,rfl,rfl,rfl,trivial⟩,rfl⟩ ?_
  rintro k g ⟨aG,Mk⟩
  have hk:k≤a.length:=aG
  have dh:a.take k=b.take k:=Mk
  clear aG Mk
  refine an (fun ab =>?_) (fun aq =>?_)
  ·have dN:k<a.length:=by have ab:(k:Int)<a.length:=ab;omega
   have x5:k<b.length:=by omega
   refine .quiet (by kernel_rfl) ?_
   refine ah.mk rfl (aT.mk a[k] (by omega) (get_some dN) ?_)
   refine ah.mk rfl (aT.mk b[k] (by omega) (get_some x5) ?_)
   refine Li [] (UM a[k] b[k] _ (Nat.le_trans (ha.2 _ (List.getElem_mem dN)).2 (by decide))) (fun hx =>?_) (fun hx =>?_)
   ·have tX:a[k]=b[k]:=of_decide_eq_true hx
    refine aH (k+1) (by show a.length-(k+1)<a.length-k;omega) ⟨dN,?_⟩ ⟨rfl,rfl,rfl,aI (by omega),trivial⟩ (.refl _)
    rw[List.take_succ_eq_append_getElem dN,List.take_succ_eq_append_getElem x5,dh,tX]
   ·have:a≠b:=by rintro rfl;exact absurd rfl (of_decide_eq_false hx)
    exact .done ⟨bz (decide_eq_false this).symm,rfl⟩
  ·have aq:k=a.length:=by have aq:¬(k:Int)<a.length:=aq;omega
   subst aq
   have:a=b:=by
    rw[List.take_length]at dh
    rw[dh,hlen,List.take_length]
   exact .done ⟨bz (decide_eq_true this).symm,rfl⟩
end Go.Proofs.YtnpidbjdilnhlaaGreat
namespace Go.Proofs.YtnpidbjdilnhlaaGreat
open Go.RowKit
set_option maxRecDepth 100000
def mr(n:Nat):List Int:=(List.range n).map fun i:Nat=>(i:Int)
theorem Hl(n:Nat):(mr n).length=n:=by simp[mr]
theorem QU(n:Nat):mr (n+1)=mr n++[(n:Int)]:=by unfold mr;rw[List.range_succ,List.map_append];rfl
theorem SP{n k:Nat}(h:k<n):(mr n)[k]?=some (k:Int):=by unfold mr;rw[List.getElem?_map,List.getElem?_range h];rfl
theorem VA(n:Nat)(σ:Hp)(hn:n≤1024):ACalls Tryz.prog 209 [.int .i64 n,.af (.int .i64) (mr n)] σ (aB (.af (.int .u64) (dQ n)) σ):=by
 have e8:df n=n:=by unfold df;omega
 have cS:=s5 n
 refine okF Tryz.func209 (by kernel_rfl) ?_
 refine az [] (Ed n _) ?_
 refine ah.mk ⟨by omega,by omega,by omega,by decide⟩ ?_
 intro q
 refine aU (S:=Nat×Nat) (fun s=>[(0,.int .i64 n),(5,.ae s.2 0 (cx n) 1),(11,.af (.int .i64) (mr n)),(12,.int .i64 n),(13,.int .i64 s.1)]) (fun s=>(s.2,aL (fw (dQ n) s.1))::σ) (fun s=>s.1≤n) (fun s=>n-s.1) (0,q) ⟨Nat.zero_le _,⟨rfl,rfl,rfl,congrArg (fun m:Nat=>AV.int .i64 (m:Int)) (Hl n),rfl,trivial⟩,?_⟩ ?_
 ·show (q,bN [.int .u64 0] (((cx n:Nat):Int)).toNat)::σ=(q,aL (fw (dQ n) 0))::σ
  rw[Jd,kC,Int.toNat_natCast,uK]
 rintro⟨k,b⟩ g aG
 have hk:k≤n:=aG
 clear aG
 refine an (fun ab =>?_) (fun aq =>?_)
 ·have ab:k<n:=by have ab:(k:Int)<n:=ab;omega
  refine ah.mk rfl (aT.mk (k:Int) (by omega) (by rw[Int.toNat_natCast];exact SP ab) ?_)
  refine az [] (DV n _) ?_
  refine an (p:=(k:Int)<(df n:Int)) (fun _ =>?_) (fun h =>?_)
  rotate_left
  ·exact absurd (by omega) h
  have hi:k / 64<cx n:=by unfold cx;omega
  refine .mk [] _ (Vm (fw (dQ n) k) k b (cx n) σ (by rw[pY,kC]) (by omega) hi) ?_
  rintro _ _ ⟨b2,rfl,rfl⟩
  refine aH (k+1,b2) (by show n-(k+1)<n-k;omega) ab ⟨rfl,rfl,rfl,rfl,aI (by omega),trivial⟩ (.drop 1 1 (aF ?_))
  rw[Iy n (by omega)]
  rfl
 ·have aq:k=n:=by have aq:¬(k:Int)<n:=aq;omega
  subst aq
  have hc:=JB k
  rw[e8]at hc
  rw[hc]
  exact .bO 0 b 0 (cx k) 1 _ (.int .u64) (dQ k) rfl (by rw[List.drop_zero,← ka];exact List.take_of_length_le (by simp[aL,kC])) ⟨kC k,rfl,by decide⟩ .here (.done ⟨rfl,rfl⟩)
theorem Sn(n:Nat)(σ:Hp)(hn:n≤1024):ACalls Tryz.prog 156 [.int .i64 n] σ (aB (.af (.int .u64) (dQ n)) σ):=by
 refine okF Tryz.func156 (by kernel_rfl) ?_
 refine .wrap 3 _ rfl rfl ?_
 refine aU (S:=Nat×AV×Hp) (fun s=>[(0,.int .i64 n),(3,.via s.2.1),(4,.int .i64 s.1)]) (fun s=>s.2.2++σ) (fun s=>s.1≤n∧Acc 1 s.1 s.2.1 s.2.2 (ak (mr s.1))) (fun s=>n-s.1) (0,.aj,[]) ⟨⟨Nat.zero_le _,.nil⟩,⟨rfl,rfl,rfl,trivial⟩,rfl⟩ ?_
 rintro⟨k,v,acc⟩ g ⟨aG,eR⟩
 have hk:k≤n:=aG
 have bc:Acc 1 k v acc (ak (mr k)):=eR
 clear aG eR
 refine an (fun ab =>?_) (fun aq =>?_)
 ·have ab:k<n:=by have ab:(k:Int)<n:=ab;omega
  intro aC
  refine dX [_] bc (.ae 0 aC 0 1 _ rfl (Nat.le_of_ble_eq_true rfl)) rfl (by omega) (by decide) (by decide) (fun v' aP h' =>?_)
  refine aH (k+1,v',aP) (by show n-(k+1)<n-k;omega) ⟨ab,?_⟩ ⟨rfl,rfl,aI (by omega),trivial⟩ (.drop 0 1 (aF rfl))
  show Acc 1 (k+1) v' aP (ak (mr (k+1)))
  rw[QU,ak,List.map_append]
  exact h'
 ·have aq:k=n:=by have aq:¬(k:Int)<n:=aq;omega
  subst aq
  have hO:=fun σ=>VA k σ hn
  generalize hU:mr k=U at bc hO
  have hlU:U.length=k:=by rw[← hU];exact Hl k
  generalize hC:ak U=C at bc
  cases bc with
  | nil =>
   have hU0:U=[]:=List.length_eq_zero_iff.1 hlU
   rw[hU0]at hO
   refine az [] (CL (bL (.refl _) (bL (.nil _) nP)) (hO _)) ?_
   exact .done ⟨rfl,rfl⟩
  | ae b k cs h =>
   refine .bO (args':=[.int .i64 k,.af (.int .i64) U]) 0 b 0 k 1 _ (.int .i64) U rfl (by rw[List.drop_zero,← fi,hC];exact List.take_of_length_le (by omega)) ⟨hlU,rfl,by decide⟩ (bL (.refl _) (bL .here nP)) (az [] (hO _) ?_)
   exact .done ⟨rfl,rfl⟩
theorem Pc(ag w:Int)(σ:Hp)(hi:bX ag w=true):ACalls Tryz.prog 113 [.int .i64 ag,.int .i64 w] σ (aB (.af (.int .u64) (iG ag w)) σ):=by
 refine okF Tryz.func113 (by kernel_rfl) ?_
 have hw:=sX ag w
 refine az [] (s4 (yf ag w _) (bz hi)) ?_
 refine an (p:=ag=2) (fun c =>?_) (fun c =>?_)
 ·have lh:=hi
  unfold bX at lh;simp at lh
  obtain⟨n,rfl⟩:∃n:Nat,w=n:=⟨w.toNat,by omega⟩
  refine az [] (Sn n _ (by omega)) ?_
  exact .done ⟨by rw[show iG ag (n:Int)=dQ n from if_pos ⟨c,hi⟩];rfl,rfl⟩
 ·refine az [] (Dd ag w _) ?_
  refine ah.mk ⟨by omega,by omega,by omega,by decide⟩ ?_
  intro b
  have e:iG ag w=List.replicate (cT ag w).toNat 0:=if_neg fun h=>c h.1
  rw[e]
  show Fin _ (.ae b 0 (cT ag w).toNat 1) ((b,bN [.int .u64 0] (cT ag w).toNat)::σ)
  rw[uK]
  have hl:(List.replicate (cT ag w).toNat (0:Int)).length=(cT ag w).toNat:=List.length_replicate
  generalize List.replicate (cT ag w).toNat (0:Int)=Z at hl
  refine .bO 0 b 0 (cT ag w).toNat 1 _ (.int .u64) Z rfl ?_ ⟨hl,rfl,by decide⟩ .here (.done ⟨rfl,rfl⟩)
  rw[List.drop_zero,← ka]
  exact List.take_of_length_le (by rw[aL,List.length_map,hl];omega)
theorem QI(s:Sy)(v:Int)(σ:Hp)(hf:Fit s)(hg:Good s):ACalls Tryz.prog 56 [.agg (bg s),.int .i64 v] σ (aB (.af (.int .u64) (eE s v)) σ):=by
 refine okF Tryz.func56 (by kernel_rfl) ?_
 intro aC
 refine aa.mk 0 _ _ rfl rfl ?_
 refine cm [] (Fl s.entry v _ (Nat.le_trans hf.sc (by decide))) (fun c =>?_) (fun c =>?_)
 ·intro bM
  have hle:=hf.xU
  refine aa.mk 1 _ _ rfl rfl ?_
  refine AppendAt.more 0 bM 0 s.init.length [] _ rfl rfl (Nat.le_of_ble_eq_true rfl) (.af (.int .u64) s.init rfl) (by omega) (by decide) (by decide) (fun b =>?_)
  have e:eE s v=s.init:=by unfold eE;rw[c];rfl
  rw[e]
  refine .bO 0 b 0 (0+s.init.length) 1 _ (.int .u64) s.init rfl ?_ ⟨(Nat.zero_add _).symm,rfl,by decide⟩ .here (.drop 0 1 (.done ⟨rfl,rfl⟩))
  rw[List.drop_zero]
  refine List.take_of_length_le ?_
  have:=rz (fun d=>Sh.oS (.int .u64) d) s.init
  simp only[List.take_nil,List.nil_append]
  rw[this]
  show s.init.length*1≤(0+s.init.length)*1
  omega
 ·refine aa.mk 0 _ _ rfl rfl ?_
  refine aa.mk 0 _ _ rfl rfl ?_
  refine az [] (Pc s.ag s.w _ hg.qV) ?_
  exact .drop 0 1 (.done ⟨by unfold eE;rw[c];rfl,rfl⟩)
set_option maxRecDepth 100000
def gb(s:Sy)(v:Int):Int:=if dm s=0 then (if bG s.n v=true then 0 else 1) else dm s
theorem PU{s:Sy}{v:Int}(h:¬dm s=0):dm s=gb s v:=(if_neg h).symm
theorem Jp{s:Sy}{v:Int}(h:dm s=0)(hv:¬(0≤v∧v<s.n)):1=gb s v:=by unfold gb;rw[if_pos h,if_neg];rw[iu];exact hv
theorem CW{s:Sy}{v:Int}(h:dm s=0)(hv:0≤v∧v<s.n):0=gb s v:=by unfold gb;rw[if_pos h,if_pos];rw[iu];exact hv
theorem OE{s:Sy}{v:Int}(h:gb s v=0):Good s∧0≤v∧v<s.n:=by
 unfold gb at h
 split at h
 ·rename_i h1
  split at h
  ·rename_i h2;exact⟨DP h1,iu.1 h2⟩
  ·cases h
 ·rename_i h1;exact absurd h h1
theorem JN(s:Sy)(v:Int)(σ:Hp)(hf:Fit s):ACalls Tryz.prog 98 [.agg (bg s),.int .i64 v] σ (aB (.int .i64 (gb s v)) σ):=by
 refine okF Tryz.func98 (by kernel_rfl) ?_
 intro aC
 refine aa.mk 0 _ _ rfl rfl ?_
 refine az [] (IJ s _ hf) ?_
 refine bS (fun c1 =>?_) (fun c1 =>?_)
 ·have c1:(!decide (dm s=0))=true:=c1
  have c1:¬dm s=0:=by simpa using c1
  exact .drop 0 1 (.done ⟨aN (PU c1),rfl⟩)
 ·have c1:(!decide (dm s=0))=false:=c1
  have c1:dm s=0:=by simpa using c1
  refine an (p:=v<0) (fun c2 =>?_) (fun c2 =>?_)
  ·exact .drop 0 1 (.done ⟨aN (Jp c1 (by omega)),rfl⟩)
  ·refine aa.mk 0 _ _ rfl rfl ?_
   refine an (p:=s.n≤v) (fun c3 =>?_) (fun c3 =>?_)
   ·exact .drop 0 1 (.done ⟨aN (Jp c1 (by omega)),rfl⟩)
   ·exact .drop 0 1 (.done ⟨aN (CW c1 (by omega)),rfl⟩)
theorem QE(s:Sy)(v:Int)(σ:Hp)(hf:Fit s):ACalls Tryz.prog 47 [.agg (bg s),.int .i64 v] σ (aB (.tup [.af (.int .u64) (pI (gb s v) (eE s v)),.int .i64 (gb s v)]) σ):=by
 refine okF Tryz.func47 (by kernel_rfl) ?_
 intro aC
 refine aa.mk 0 _ _ rfl rfl ?_
 refine az [] (JN s v _ hf) ?_
 refine bS (fun c1 =>?_) (fun c1 =>?_)
 ·have c1:(!decide (gb s v=0))=true:=c1
  have c1:¬gb s v=0:=by simpa using c1
  exact .nil (bL (.nil _) (.refl _)) (.drop 0 1 (.done ⟨by rw[Ax c1];rfl,rfl⟩))
 ·have c1:(!decide (gb s v=0))=false:=c1
  have c1:gb s v=0:=by simpa using c1
  refine aa.mk 0 _ _ rfl rfl ?_
  refine az [] (Vq s v _ hf) ?_
  exact .drop 0 1 (.done ⟨by rw[xa c1,c1];rfl,rfl⟩)
def nj(s:Sy)(v:Int)(x:List Int):Int:=if gb s v=0 then (if dZ s.ag s.w x=true then 0 else 2) else gb s v
theorem Re{s:Sy}{v:Int}(x:List Int)(h:¬gb s v=0):nj s v x=gb s v:=if_neg h
theorem Rc{s:Sy}{v:Int}{x:List Int}(h:gb s v=0)(hv:dZ s.ag s.w x=true):nj s v x=0:=by unfold nj;rw[if_pos h,if_pos hv]
theorem Ug(s:Sy)(v:Int)(x:List Int)(σ:Hp)(hf:Fit s)(hx:bJ x)(lx:x.length≤10000):ACalls Tryz.prog 366 [.agg (bg s),.int .i64 v,.af (.int .u64) x] σ (aB (.tup [.af (.int .u64) (pI (nj s v x) (ni s x v.toNat)),.int .i64 (nj s v x)]) σ):=by
 refine okF Tryz.func366 (by kernel_rfl) ?_
 intro aC
 refine aa.mk 0 _ _ rfl rfl ?_
 refine az [] (JN s v _ hf) ?_
 refine bS (fun c1 =>?_) (fun c1 =>?_)
 ·have c1:(!decide (gb s v=0))=true:=c1
  have c1:¬gb s v=0:=by simpa using c1
  have e:=Re x c1
  exact .nil (bL (.nil _) (.refl _)) (.drop 0 1 (.done ⟨by rw[e,Ax c1];rfl,rfl⟩))
 ·have c1:(!decide (gb s v=0))=false:=c1
  have c1:gb s v=0:=by simpa using c1
  obtain⟨hg,k8,cW⟩:=OE c1
  obtain⟨hT,hTe⟩:=L8 hg (v:=v.toNat) (by omega)
  have ht:=hf.ts _ (List.getElem_mem hT)
  have hc:=hg.Fq _ (List.getElem_mem hT)
  have hA:=fun σ=>Uf s.ag s.w s.T[v.toNat].1 s.T[v.toNat].2.1 s.T[v.toNat].2.2.1 x σ ht.1 ht.2.1 hx ht.2.2.1 ht.2.2.2.1 lx (Nat.le_trans ht.2.2.2.2 (by decide))
  have hoe:l8 s.ag s.T[v.toNat].1 s.T[v.toNat].2.1 s.T[v.toNat].2.2.1 x=ni s x v.toNat:=by unfold ni;rw[hTe]
  have hE:qE s.ag s.w s.T[v.toNat].1 s.T[v.toNat].2.1 s.T[v.toNat].2.2.1 x=nj s v x:=by unfold nj qE;rw[if_pos hc,if_pos c1]
  rw[hoe,hE]at hA
  refine .quiet (by kernel_rfl) ?_
  refine aa.mk 0 _ _ rfl rfl ?_
  refine aa.mk 0 _ _ rfl rfl ?_
  refine aa.mk 0 _ _ rfl rfl ?_
  refine ah.mk rfl (aT.mk s.T[v.toNat] (by omega) (List.getElem?_eq_getElem hT) ?_)
  refine aJ [] (hA _) ?_
  exact .drop 0 1 (.done ⟨rfl,rfl⟩)
end Go.Proofs.YtnpidbjdilnhlaaGreat
