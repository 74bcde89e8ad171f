import Derived.Test.YtnikdflhefijbaaGreatBr6
import Derived.Test.YtnikdflhefijbaaGreatBr9
import Derived.Shelf.GgSortFunc.RowK
import Derived.Sort.Grow
import Derived.Test.YtnikdflhefijbaaGreatBr5
import Derived.Shelf.SlSortCmp.NoneTotal
import Derived.Test.YtnikdflhefijbaaGreatBr8
namespace Go.Proofs.YtnikdflhefijbaaGreat
open Go.RowKit
set_option maxRecDepth 100000
theorem aaC(n:Int)(l:List aT)(σ:Hp)(hl:l.length≤1000000):ACalls Tryz.prog 113 [.int .i64 n,.af cb l] σ (aD (.bool (ek n l)) σ):=by
 refine au Tryz.func113 ?_
 refine aj (p:=n<1) (fun c1=>?_) (fun c1=>?_)
 ·exact .done ⟨cd (by unfold ek;simp;omega),rfl⟩
 refine aj (p:=256<n) (fun c2=>?_) (fun c2=>?_)
 ·exact .done ⟨cd (by unfold ek;simp;omega),rfl⟩
 refine aj (p:=1024<(l.length:Int)) (fun c3=>?_) (fun c3=>?_)
 ·exact .done ⟨cd (by unfold ek;simp;omega),rfl⟩
 have Fo:ek n l=l.all fun e=>cD n e.1&&cD n e.2.1:=by
  unfold ek
  rw[decide_eq_true (by omega),decide_eq_true (by omega),decide_eq_true (by omega)];simp
 refine bh (S:=Nat) (fun k=>[(0,.int .i64 n),(18,.af cb l),(19,.int .i64 l.length),(20,.int .i64 k)]) (fun _=>σ) (fun k=>k≤l.length∧((l.take k).any fun e=> !(cD n e.1&&cD n e.2.1))=false) (fun k=>l.length-k) 0 ⟨⟨aY _,rfl⟩,⟨rfl,rfl,rfl,rfl,trivial⟩,rfl⟩ ?_
 rintro k g ⟨aO,gp⟩
 have hk:k≤l.length:=aO
 have ha:((l.take k).any fun e=> !(cD n e.1&&cD n e.2.1))=false:=gp
 clear aO gp
 refine aj (fun ab=>?_) (fun aq=>?_)
 ·have ab:k<l.length:=by have ab:(k:Int)<l.length:=ab;omega
  have hs:=mQ ab fun e:aT=> !(cD n e.1&&cD n e.2.1)
  rw[ha,mj]at hs
  have hm:=cq ab
  obtain⟨d,hd⟩:∃d:aT,l[k]=d:=⟨_,rfl⟩
  rw[hd]at hs hm
  have ng:(cD n d.1&&cD n d.2.1)=false→false=ek n l:=fun h=>by
   rw[Fo,ER]
   have:(l.any fun e=> !(cD n e.1&&cD n e.2.1))=true:=kv.2 ⟨d,hm,by rw[h];rfl⟩
   rw[this];rfl
  refine aw.mk rfl (aX.mk d (by omega) ((get_some ab).trans (congrArg some hd)) ?_)
  intro cE
  refine ag 0 ?_
  refine aa 0 ?_
  refine aj (p:=d.1<0) (fun d1=>?_) (fun d1=>?_)
  ·exact .drop 0 1 (.done ⟨cd (ng (by unfold cD;simp;omega)),rfl⟩)
  refine aa 0 ?_
  refine aj (p:=n≤d.1) (fun d2=>?_) (fun d2=>?_)
  ·exact .drop 0 1 (.done ⟨cd (ng (by unfold cD;simp;omega)),rfl⟩)
  refine aa 0 ?_
  refine aj (p:=d.2.1<0) (fun d3=>?_) (fun d3=>?_)
  ·exact .drop 0 1 (.done ⟨cd (ng (by unfold cD;simp;omega)),rfl⟩)
  refine aa 0 ?_
  refine aj (p:=n≤d.2.1) (fun d4=>?_) (fun d4=>?_)
  ·exact .drop 0 1 (.done ⟨cd (ng (by unfold cD;simp;omega)),rfl⟩)
  exact aM (k+1) (by show l.length-(k+1)<l.length-k;omega) ⟨ab,hs.trans (by unfold cD;simp;omega)⟩ ⟨rfl,rfl,rfl,aL (by omega),trivial⟩ (.drop 0 1 (.refl _))
 ·have aq:k=l.length:=by have aq:¬(k:Int)<l.length:=aq;omega
  subst aq
  rw[dW]at ha
  exact .done ⟨cd (by rw[Fo,ER,ha];rfl),rfl⟩
theorem Xi(s:Sy)(σ:Hp)(hf:Fit s):ACalls Tryz.prog 56 [.agg (a7 s)] σ (aD (.int .i64 (eG s)) σ):=by
 refine au Tryz.func56 ?_
 intro aB
 refine aa 0 ?_
 refine aa 0 ?_
 refine dr [] (Cu s.ai s.w _) (fun hi=>?_) (fun hi=>?_)
 rotate_left
 ·exact .drop 0 1 (.done ⟨aR (Rt hi),rfl⟩)
 refine aa 0 ?_
 refine aa 0 ?_
 refine dr [] (aaC s.n s.cI _ (ey hf.ub (by decide))) (fun cr=>?_) (fun cr=>?_)
 rotate_left
 ·exact .drop 0 1 (.done ⟨aR (zt hi fun h=>by rw[h.1]at cr;cases cr),rfl⟩)
 refine aa 0 ?_
 refine aa 0 ?_
 refine cQ (fun ct=>?_) (fun ct=>?_)
 ·have ct:(!decide ((s.T.length:Int)=s.n))=true:=ct
  have ct:¬(s.T.length:Int)=s.n:=by simpa using ct
  exact .drop 0 1 (.done ⟨aR (zt hi fun h=>ct h.2),rfl⟩)
 have ct:(!decide ((s.T.length:Int)=s.n))=false:=ct
 have ct:(s.T.length:Int)=s.n:=by simpa using ct
 have hr:ek s.n s.cI=true∧(s.T.length:Int)=s.n:=⟨cr,ct⟩
 refine aa 0 ?_
 refine bh (S:=Nat) (fun k=>[(1,.ptr aB 0),(28,.af (.int .i64) s.entry),(29,.int .i64 s.entry.length),(30,.int .i64 k)]) (fun _=>(aB,a7 s)::σ) (fun k=>k≤s.entry.length∧((s.entry.take k).any fun v=> !cD s.n v)=false) (fun k=>s.entry.length-k) 0 ⟨⟨aY _,rfl⟩,⟨rfl,rfl,rfl,rfl,trivial⟩,rfl⟩ ?_
 rintro k g ⟨aO,gp⟩
 have hk:k≤s.entry.length:=aO
 have ha:((s.entry.take k).any fun v=> !cD s.n v)=false:=gp
 clear aO gp
 refine aj (fun ab=>?_) (fun aq=>?_)
 ·have ab:k<s.entry.length:=by have ab:(k:Int)<s.entry.length:=ab;omega
  have hs:=mQ ab fun v=> !cD s.n v
  rw[ha,mj]at hs
  have ng:cD s.n s.entry[k]=false→(s.entry.any fun v=> !cD s.n v)=true:=fun h=>kv.2 ⟨s.entry[k],cq ab,by rw[h];rfl⟩
  refine aw.mk rfl (aX.mk s.entry[k] (by omega) (get_some ab) ?_)
  refine aj (p:=s.entry[k]<0) (fun d1=>?_) (fun d1=>?_)
  ·exact .drop 0 1 (.done ⟨aR (zd hi hr (ng (by unfold cD;simp;omega))),rfl⟩)
  ·refine aa 0 ?_
   refine aj (p:=s.n≤s.entry[k]) (fun d2=>?_) (fun d2=>?_)
   ·exact .drop 0 1 (.done ⟨aR (zd hi hr (ng (by unfold cD;simp;omega))),rfl⟩)
   ·exact aM (k+1) (by show s.entry.length-(k+1)<s.entry.length-k;omega) ⟨ab,hs.trans (by unfold cD;simp;omega)⟩ ⟨rfl,rfl,rfl,aL (by have:=hf.vQ;omega),trivial⟩ (.refl _)
 have aq:k=s.entry.length:=by have aq:¬(k:Int)<s.entry.length:=aq;omega
 subst aq
 rw[dW]at ha
 refine aa 0 ?_
 refine aa 0 ?_
 refine aa 0 ?_
 refine dr [] (YS s.ai s.w s.init _ hf.i64) (fun cv=>?_) (fun cv=>?_)
 rotate_left
 ·exact .drop 0 1 (.done ⟨aR (JL hi hr ha cv),rfl⟩)
 refine aa 0 ?_
 refine bh (S:=Nat) (fun k=>[(1,.ptr aB 0),(52,.af jL s.T),(53,.int .i64 s.T.length),(54,.int .i64 k)]) (fun _=>(aB,a7 s)::σ) (fun k=>k≤s.T.length∧((s.T.take k).any fun t=> !decide (fA s.ai s.w t.1 t.2.1 t.2.2.1=0))=false) (fun k=>s.T.length-k) 0 ⟨⟨aY _,rfl⟩,⟨rfl,rfl,rfl,rfl,trivial⟩,rfl⟩ ?_
 rintro k g ⟨aO,iM⟩
 have hk:k≤s.T.length:=aO
 have ht:((s.T.take k).any fun t=> !decide (fA s.ai s.w t.1 t.2.1 t.2.2.1=0))=false:=iM
 clear aO iM
 refine aj (fun ab=>?_) (fun aq=>?_)
 ·have ab:k<s.T.length:=by have ab:(k:Int)<s.T.length:=ab;omega
  have hs:=mQ ab fun t=> !decide (fA s.ai s.w t.1 t.2.1 t.2.2.1=0)
  rw[ht,mj]at hs
  have ho:=hf.ts _ (cq ab)
  have hm:=cq ab
  obtain⟨t,dR⟩:∃t:lM,s.T[k]=t:=⟨_,rfl⟩
  rw[dR]at hs ho hm
  refine aw.mk rfl (aX.mk t (by omega) ((get_some ab).trans (congrArg some dR)) ?_)
  intro cE
  refine ag 0 ?_
  refine aa 1 ?_
  refine aa 1 ?_
  refine aa 0 ?_
  refine ar [] (YN s.ai s.w t.1 t.2.1 t.2.2.1 _ ho.1 ho.2.1 ho.2.2.1 ho.2.2.2.1 (ey ho.2.2.2.2 (by decide))) ?_
  refine cQ (fun d1=>?_) (fun d1=>?_)
  ·exact .drop 0 2 (.done ⟨aR (Jc hi hr ha cv (kv.2 ⟨t,hm,d1⟩)),rfl⟩)
  ·exact aM (k+1) (by show s.T.length-(k+1)<s.T.length-k;omega) ⟨ab,hs.trans d1⟩ ⟨rfl,rfl,rfl,aL (by have:=hf.tS;omega),trivial⟩ (.drop 0 1 (.refl _))
 ·have aq:k=s.T.length:=by have aq:¬(k:Int)<s.T.length:=aq;omega
  subst aq
  rw[dW]at ht
  exact .drop 0 1 (.done ⟨aR (Ft hi hr ha cv ht),rfl⟩)
theorem PQ(a b:List (List Int))(σ:Hp)(ha:J4 a):ACalls Tryz.prog 19 [.af (.slice (.int .u64)) a,.af (.slice (.int .u64)) b] σ (aD (.bool (decide (a=b))) σ):=by
 refine au Tryz.func19 ?_
 have Lr:=ha.1
 refine cQ (fun c1=>?_) (fun c1=>?_)
 ·have c1:(!decide ((a.length:Int)=(b.length:Int)))=true:=c1
  have:a≠b:=by rintro rfl;simp at c1
  exact .done ⟨cd (cy this).symm,rfl⟩
 ·have c1:(!decide ((a.length:Int)=(b.length:Int)))=false:=c1
  have hlen:a.length=b.length:=by simp at c1;omega
  refine bh (S:=Nat) (fun k=>[(0,.af (.slice (.int .u64)) a),(1,.af (.slice (.int .u64)) b),(12,.int .i64 a.length),(13,.int .i64 k)]) (fun _=>σ) (fun k=>k≤a.length∧a.take k=b.take k) (fun k=>a.length-k) 0 ⟨⟨aY _,rfl⟩,⟨rfl,rfl,rfl,rfl,trivial⟩,rfl⟩ ?_
  rintro k g ⟨aO,SO⟩
  have hk:k≤a.length:=aO
  have dR:a.take k=b.take k:=SO
  clear aO SO
  refine aj (fun ab=>?_) (fun aq=>?_)
  ·have eO:k<a.length:=by have ab:(k:Int)<a.length:=ab;omega
   have vU:k<b.length:=by omega
   refine .quiet (by kernel_rfl) ?_
   refine aw.mk rfl (aX.mk a[k] (by omega) (get_some eO) ?_)
   refine aw.mk rfl (aX.mk b[k] (by omega) (get_some vU) ?_)
   refine Rv [] (abb a[k] b[k] _ (ey (ha.2 _ (cq eO)).2 (by decide))) (fun hx=>?_) (fun hx=>?_)
   ·have uw:a[k]=b[k]:=fk hx
    refine aM (k+1) (by show a.length-(k+1)<a.length-k;omega) ⟨eO,?_⟩ ⟨rfl,rfl,rfl,aL (by omega),trivial⟩ (.refl _)
    rw[eT eO,eT vU,dR,uw]
   ·have:a≠b:=by rintro rfl;exact absurd rfl (pc hx)
    exact .done ⟨cd (cy this).symm,rfl⟩
  ·have aq:k=a.length:=by have aq:¬(k:Int)<a.length:=aq;omega
   subst aq
   have:a=b:=by
    rw[dW]at dR
    rw[dR,hlen,dW]
   exact .done ⟨cd (bj this).symm,rfl⟩
def pO(n:Nat):List Int:=(List.range n).map fun i:Nat=>(i:Int)
theorem Na(n:Nat):(pO n).length=n:=by simp[pO]
theorem Xt(n:Nat):pO (n+1)=pO n++[(n:Int)]:=by unfold pO;rw[qe,cC];rfl
theorem Zo{n k:Nat}(h:k<n):(pO n)[k]?=some (k:Int):=by unfold pO;rw[fm,wR h];rfl
theorem ac3(n:Nat)(σ:Hp)(hn:n≤1024):ACalls Tryz.prog 245 [.int .i64 n,.af (.int .i64) (pO n)] σ (aD (.af (.int .u64) (fC n)) σ):=by
 have iK:eC n=n:=by unfold eC;omega
 have eE:=xj n
 refine au Tryz.func245 ?_
 refine ar [] (Jg n _) ?_
 refine bg ?_
 intro q
 refine bh (S:=Nat×Nat) (fun s=>[(0,.int .i64 n),(5,.ah s.2 0 (dK n) 1),(11,.af (.int .i64) (pO n)),(12,.int .i64 n),(13,.int .i64 s.1)]) (fun s=>(s.2,aP (fQ (fC n) s.1))::σ) (fun s=>s.1≤n) (fun s=>n-s.1) (0,q) ⟨aY _,⟨rfl,rfl,rfl,congrArg (fun m:Nat=>AV.int .i64 (m:Int)) (Na n),rfl,trivial⟩,?_⟩ ?_
 ·show (q,cN [.int .u64 0] (((dK n:Nat):Int)).toNat)::σ=(q,aP (fQ (fC n) 0))::σ
  rw[Ej,nz,bR,tw]
 rintro⟨k,b⟩ g aO
 have hk:k≤n:=aO
 clear aO
 refine aj (fun ab=>?_) (fun aq=>?_)
 ·have ab:k<n:=by have ab:(k:Int)<n:=ab;omega
  refine aw.mk rfl (aX.mk (k:Int) (by omega) (by rw[bR];exact Zo ab) ?_)
  refine ar [] (IY n _) ?_
  refine aj (p:=(k:Int)<(eC n:Int)) (fun _=>?_) (fun h=>?_)
  rotate_left
  ·exact absurd (by omega) h
  have hi:k / 64<dK n:=by unfold dK;omega
  refine .mk [] _ (Je (fQ (fC n) k) k b (dK n) σ (by rw[pn,nz]) (by omega) hi) ?_
  rintro _ _ ⟨b2,rfl,rfl⟩
  refine aM (k+1,b2) (by show n-(k+1)<n-k;omega) ab ⟨rfl,rfl,rfl,rfl,aL (by omega),trivial⟩ (.drop 1 1 (aN ?_))
  rw[Ou n (by omega)]
  rfl
 ·have aq:k=n:=by have aq:¬(k:Int)<n:=aq;omega
  subst aq
  have hc:=Pz k
  rw[iK]at hc
  rw[hc]
  exact .cH 0 b 0 (dK k) 1 _ (.int .u64) (fC k) rfl (by rw[List.drop_zero,← jK];exact List.take_of_length_le (by simp[aP,nz])) ⟨nz k,rfl,by decide⟩ .here (.done ⟨rfl,rfl⟩)
theorem YY(n:Nat)(σ:Hp)(hn:n≤1024):ACalls Tryz.prog 196 [.int .i64 n] σ (aD (.af (.int .u64) (fC n)) σ):=by
 refine au Tryz.func196 ?_
 refine .wrap 3 _ rfl rfl ?_
 refine bh (S:=Nat×AV×Hp) (fun s=>[(0,.int .i64 n),(3,.via s.2.1),(4,.int .i64 s.1)]) (fun s=>s.2.2++σ) (fun s=>s.1≤n∧Acc 1 s.1 s.2.1 s.2.2 (an (pO s.1))) (fun s=>n-s.1) (0,.ak,[]) ⟨⟨aY _,.nil⟩,⟨rfl,rfl,rfl,trivial⟩,rfl⟩ ?_
 rintro⟨k,v,acc⟩ g ⟨aO,gQ⟩
 have hk:k≤n:=aO
 have bS:Acc 1 k v acc (an (pO k)):=gQ
 clear aO gQ
 refine aj (fun ab=>?_) (fun aq=>?_)
 ·have ab:k<n:=by have ab:(k:Int)<n:=ab;omega
  intro aB
  refine eU [_] bS (.ah 0 aB 0 1 _ rfl (cp rfl)) rfl (by omega) (by decide) (by decide) (fun v' aU h'=>?_)
  refine aM (k+1,v',aU) (by show n-(k+1)<n-k;omega) ⟨ab,?_⟩ ⟨rfl,rfl,aL (by omega),trivial⟩ (.drop 0 1 (aN rfl))
  show Acc 1 (k+1) v' aU (an (pO (k+1)))
  rw[Xt,an,cC]
  exact h'
 ·have aq:k=n:=by have aq:¬(k:Int)<n:=aq;omega
  subst aq
  have hO:=fun σ=>ac3 k σ hn
  generalize hU:pO k=U at bS hO
  have hlU:U.length=k:=by rw[← hU];exact Na k
  generalize hC:an U=C at bS
  cases bS with
  |nil=>
   have hU0:U=[]:=jm.1 hlU
   rw[hU0]at hO
   refine ar [] (HK (cc (.refl _) (cc (.nil _) qp)) (hO _)) ?_
   exact .done ⟨rfl,rfl⟩
  |ah b k cs h=>
   refine .cH (args':=[.int .i64 k,.af (.int .i64) U]) 0 b 0 k 1 _ (.int .i64) U rfl (by rw[fG,← ir,hC];exact dN (by omega)) ⟨hlU,rfl,by decide⟩ (cc (.refl _) (cc .here qp)) (ar [] (hO _) ?_)
   exact .done ⟨rfl,rfl⟩
theorem VJ(ai w:Int)(σ:Hp)(hi:dp ai w=true):ACalls Tryz.prog 145 [.int .i64 ai,.int .i64 w] σ (aD (.af (.int .u64) (kP ai w)) σ):=by
 refine au Tryz.func145 ?_
 have hw:=xf ai w
 refine ar [] (qj (Cu ai w _) (cd hi)) ?_
 refine aj (p:=ai=2) (fun c=>?_) (fun c=>?_)
 ·have oh:=hi
  unfold dp at oh;simp at oh
  obtain⟨n,rfl⟩:∃n:Nat,w=n:=⟨w.toNat,by omega⟩
  refine ar [] (YY n _ (by omega)) ?_
  exact .done ⟨by rw[show kP ai (n:Int)=fC n from az ⟨c,hi⟩];rfl,rfl⟩
 ·refine ar [] (Ia ai w _) ?_
  refine bg ?_
  intro b
  have e:kP ai w=List.replicate (ej ai w).toNat 0:=aA fun h=>c h.1
  rw[e]
  show Fin _ (.ah b 0 (ej ai w).toNat 1) ((b,cN [.int .u64 0] (ej ai w).toNat)::σ)
  rw[tw]
  have hl:(List.replicate (ej ai w).toNat (0:Int)).length=(ej ai w).toNat:=gY
  generalize List.replicate (ej ai w).toNat (0:Int)=Z at hl
  refine .cH 0 b 0 (ej ai w).toNat 1 _ (.int .u64) Z rfl ?_ ⟨hl,rfl,by decide⟩ .here (.done ⟨rfl,rfl⟩)
  rw[fG,← jK]
  exact dN (by rw[aP,cm,hl];omega)
theorem Xf(s:Sy)(v:Int)(σ:Hp)(hf:Fit s)(hg:Good s):ACalls Tryz.prog 82 [.agg (a7 s),.int .i64 v] σ (aD (.af (.int .u64) (gx s v)) σ):=by
 refine au Tryz.func82 ?_
 intro aB
 refine aa 0 ?_
 refine dr [] (Kz s.entry v _ (ey hf.vQ (by decide))) (fun c=>?_) (fun c=>?_)
 ·intro cE
  have hle:=hf.Cc
  refine aa 1 ?_
  refine AppendAt.more 0 cE 0 s.init.length [] _ rfl rfl (cp rfl) (.af (.int .u64) s.init rfl) (by omega) (by decide) (by decide) (fun b=>?_)
  have e:gx s v=s.init:=by unfold gx;rw[c];rfl
  rw[e]
  refine .cH 0 b 0 (0+s.init.length) 1 _ (.int .u64) s.init rfl ?_ ⟨(dU _).symm,rfl,by decide⟩ .here (.drop 0 1 (.done ⟨rfl,rfl⟩))
  rw[fG]
  refine dN ?_
  have:=u0 (fun d=>Sh.sf (.int .u64) d) s.init
  simp only[List.take_nil,uP]
  rw[this]
  show s.init.length*1≤(0+s.init.length)*1
  omega
 ·refine aa 0 ?_
  refine aa 0 ?_
  refine ar [] (VJ s.ai s.w _ hg.uv) ?_
  exact .drop 0 1 (.done ⟨by unfold gx;rw[c];rfl,rfl⟩)
theorem QJ(s:Sy)(v:Nat)(x:List Int)(σ:Hp)(hf:Fit s)(hg:Good s)(hv:(v:Int)<s.n)(hx:mO s.ai s.w x):ACalls Tryz.prog 170 [.agg (a7 s),.int .i64 v,.af (.int .u64) x] σ (aD (.af (.int .u64) (kJ s x v)) σ):=by
 refine au Tryz.func170 ?_
 intro aB
 obtain⟨hT,Lw⟩:=JT hg hv
 have ht:=hf.ts _ (cq hT)
 have hc:=hg.Gg _ (cq hT)
 have hl:=NQ hx.v
 refine .quiet (by kernel_rfl) ?_
 refine aa 0 ?_
 refine aa 0 ?_
 refine aw.mk rfl (aX.mk s.T[v] (by omega) (by rw[bR];exact bN hT) ?_)
 refine aK [] (aaN s.ai s.T[v].1 s.T[v].2.1 s.T[v].2.2.1 x _ ht.1 ht.2.1 hx.fP ht.2.2.1 ht.2.2.2.1 (by omega) (ey ht.2.2.2.2 (by decide)) (fun h3=>by rw[NP hx.v h3];exact (P8 hc h3).2.2)) ?_
 exact .drop 0 1 (.done ⟨by unfold kJ;rw[Lw];rfl,rfl⟩)
def jv(s:Sy)(v:Int):Int:=if eG s=0 then (if cD s.n v=true then 0 else 1) else eG s
theorem Wm{s:Sy}{v:Int}(h:¬eG s=0):eG s=jv s v:=(aA h).symm
theorem Pm{s:Sy}{v:Int}(h:eG s=0)(hv:¬(0≤v∧v<s.n)):1=jv s v:=by unfold jv;rw[az h,aA];rw[kB];exact hv
theorem D8{s:Sy}{v:Int}(h:eG s=0)(hv:0≤v∧v<s.n):0=jv s v:=by unfold jv;rw[az h,az];rw[kB];exact hv
theorem Vc{s:Sy}{v:Int}(h:jv s v=0):Good s∧0≤v∧v<s.n:=by
 unfold jv at h
 split at h
 ·rename_i h1
  split at h
  ·rename_i h2;exact⟨IQ h1,kB.1 h2⟩
  ·cases h
 ·rename_i h1;exact absurd h h1
theorem PK(s:Sy)(v:Int)(σ:Hp)(hf:Fit s):ACalls Tryz.prog 211 [.agg (a7 s),.int .i64 v] σ (aD (.int .i64 (jv s v)) σ):=by
 refine au Tryz.func211 ?_
 intro aB
 refine aa 0 ?_
 refine ar [] (OH s _ hf) ?_
 refine cQ (fun c1=>?_) (fun c1=>?_)
 ·have c1:(!decide (eG s=0))=true:=c1
  have c1:¬eG s=0:=by simpa using c1
  exact .drop 0 1 (.done ⟨aR (Wm c1),rfl⟩)
 ·have c1:(!decide (eG s=0))=false:=c1
  have c1:eG s=0:=by simpa using c1
  refine aj (p:=v<0) (fun c2=>?_) (fun c2=>?_)
  ·exact .drop 0 1 (.done ⟨aR (Pm c1 (by omega)),rfl⟩)
  ·refine aa 0 ?_
   refine aj (p:=s.n≤v) (fun c3=>?_) (fun c3=>?_)
   ·exact .drop 0 1 (.done ⟨aR (Pm c1 (by omega)),rfl⟩)
   ·exact .drop 0 1 (.done ⟨aR (D8 c1 (by omega)),rfl⟩)
theorem Xb(s:Sy)(v:Int)(σ:Hp)(hf:Fit s):ACalls Tryz.prog 158 [.agg (a7 s),.int .i64 v] σ (aD (.tup [.af (.int .u64) (rN (jv s v) (gx s v)),.int .i64 (jv s v)]) σ):=by
 refine au Tryz.func158 ?_
 intro aB
 refine aa 0 ?_
 refine ar [] (PK s v _ hf) ?_
 refine cQ (fun c1=>?_) (fun c1=>?_)
 ·have c1:(!decide (jv s v=0))=true:=c1
  have c1:¬jv s v=0:=by simpa using c1
  exact .nil (cc (.nil _) (.refl _)) (.drop 0 1 (.done ⟨by rw[EJ c1];rfl,rfl⟩))
 ·have c1:(!decide (jv s v=0))=false:=c1
  have c1:jv s v=0:=by simpa using c1
  refine aa 0 ?_
  refine ar [] (abQ s v _ hf) ?_
  exact .drop 0 1 (.done ⟨by rw[Bl c1,c1];rfl,rfl⟩)
def nS(s:Sy)(v:Int)(x:List Int):Int:=if jv s v=0 then (if fO s.ai s.w x=true then 0 else 2) else jv s v
theorem XQ{s:Sy}{v:Int}(x:List Int)(h:¬jv s v=0):nS s v x=jv s v:=aA h
theorem Pb{s:Sy}{v:Int}{x:List Int}(h:jv s v=0)(hv:fO s.ai s.w x=true):nS s v x=0:=by unfold nS;rw[az h,az hv]
theorem aan(s:Sy)(v:Int)(x:List Int)(σ:Hp)(hf:Fit s)(hx:bX x)(lx:x.length≤10000):ACalls Tryz.prog 399 [.agg (a7 s),.int .i64 v,.af (.int .u64) x] σ (aD (.tup [.af (.int .u64) (rN (nS s v x) (kJ s x v.toNat)),.int .i64 (nS s v x)]) σ):=by
 refine au Tryz.func399 ?_
 intro aB
 refine aa 0 ?_
 refine ar [] (PK s v _ hf) ?_
 refine cQ (fun c1=>?_) (fun c1=>?_)
 ·have c1:(!decide (jv s v=0))=true:=c1
  have c1:¬jv s v=0:=by simpa using c1
  have e:=XQ x c1
  exact .nil (cc (.nil _) (.refl _)) (.drop 0 1 (.done ⟨by rw[e,EJ c1];rfl,rfl⟩))
 ·have c1:(!decide (jv s v=0))=false:=c1
  have c1:jv s v=0:=by simpa using c1
  obtain⟨hg,ma,er⟩:=Vc c1
  obtain⟨hT,Lw⟩:=JT hg (v:=v.toNat) (by omega)
  have ht:=hf.ts _ (cq hT)
  have hc:=hg.Gg _ (cq hT)
  have hA:=fun σ=>aam s.ai s.w s.T[v.toNat].1 s.T[v.toNat].2.1 s.T[v.toNat].2.2.1 x σ ht.1 ht.2.1 hx ht.2.2.1 ht.2.2.2.1 lx (ey ht.2.2.2.2 (by decide))
  have hoe:oJ s.ai s.T[v.toNat].1 s.T[v.toNat].2.1 s.T[v.toNat].2.2.1 x=kJ s x v.toNat:=by unfold kJ;rw[Lw]
  have hE:ua s.ai s.w s.T[v.toNat].1 s.T[v.toNat].2.1 s.T[v.toNat].2.2.1 x=nS s v x:=by unfold nS ua;rw[az hc,az c1]
  rw[hoe,hE]at hA
  refine .quiet (by kernel_rfl) ?_
  refine aa 0 ?_
  refine aa 0 ?_
  refine aa 0 ?_
  refine aw.mk rfl (aX.mk s.T[v.toNat] (by omega) (bN hT) ?_)
  refine aK [] (hA _) ?_
  exact .drop 0 1 (.done ⟨rfl,rfl⟩)
theorem kD{n:Int}{l:List aT}{a b:Int}:b∈ax n l a↔(0≤b∧b<n)∧(0≤a∧a<n)∧∃e∈l,e.1=a∧e.2.1=b:=by
 unfold ax iu
 rw[jW,decide_eq_true_eq,fi,fi]
 constructor
 ·rintro⟨⟨i,hi,rfl⟩,e,he,h2⟩
  have hi:=gq.1 hi
  obtain⟨h3,h4⟩:=jW.1 he
  simp only[b9,decide_eq_true_eq,kB]at h4
  exact⟨by omega,h4.1.2,e,h3,h4.1.1,h2⟩
 ·rintro⟨h1,h2,e,h3,h4,h5⟩
  refine⟨⟨b.toNat,gq.2 (by omega),by omega⟩,e,jW.2 ⟨h3,?_⟩,h5⟩
  simp only[b9,decide_eq_true_eq,kB]
  exact⟨⟨h4,h2⟩,by omega⟩
theorem vb(n:Int)(l:List aT)(a:Int):(ax n l a).length≤n.toNat:=by
 unfold ax
 exact Nat.le_trans (List.length_filter_le _ _) (by simp)
def sL(l:List aT)(a b:Int):Bool:=l.any fun e=>decide (e.1=a)&&decide (e.2.1=b)
theorem ac6(l:List aT)(a b:Int)(σ:Hp)(hl:l.length≤100000):ACalls Tryz.prog 228 [.af cb l,.int .i64 a,.int .i64 b] σ (aD (.bool (sL l a b)) σ):=by
 refine au Tryz.func228 ?_
 refine bh (S:=Nat) (fun k=>[(1,.int .i64 a),(2,.int .i64 b),(9,.af cb l),(10,.int .i64 l.length),(11,.int .i64 k)]) (fun _=>σ) (fun k=>k≤l.length∧sL (l.take k) a b=false) (fun k=>l.length-k) 0 ⟨⟨aY _,rfl⟩,⟨rfl,rfl,rfl,rfl,rfl,trivial⟩,rfl⟩ ?_
 rintro k g ⟨aO,gp⟩
 have hk:k≤l.length:=aO
 have ha:sL (l.take k) a b=false:=gp
 clear aO gp
 refine aj (fun ab=>?_) (fun aq=>?_)
 ·have ab:k<l.length:=by have ab:(k:Int)<l.length:=ab;omega
  have hs:sL (l.take (k+1)) a b=(decide (l[k].1=a)&&decide (l[k].2.1=b)):=by
   have:=mQ ab fun e:aT=>decide (e.1=a)&&decide (e.2.1=b)
   unfold sL at ha ⊢
   rw[this,ha,mj]
  have hm:=cq ab
  obtain⟨d,hd⟩:∃d:aT,l[k]=d:=⟨_,rfl⟩
  rw[hd]at hs hm
  refine aw.mk rfl (aX.mk d (by omega) ((get_some ab).trans (congrArg some hd)) ?_)
  intro aB
  refine ag 0 ?_
  refine aa 0 ?_
  refine aj (p:=d.1=a) (fun c1=>?_) (fun c1=>?_)
  ·refine aa 0 ?_
   refine aj (p:=d.2.1=b) (fun c2=>?_) (fun c2=>?_)
   ·exact .drop 0 1 (.done ⟨cd (kv.2 ⟨d,hm,by rw[bj c1,bj c2];rfl⟩).symm,rfl⟩)
   ·exact aM (k+1) (by show l.length-(k+1)<l.length-k;omega) ⟨ab,hs.trans (by rw[cy c2,Dp])⟩ ⟨rfl,rfl,rfl,rfl,aL (by omega),trivial⟩ (.drop 0 1 (.refl _))
  ·exact aM (k+1) (by show l.length-(k+1)<l.length-k;omega) ⟨ab,hs.trans (by rw[cy c1];rfl)⟩ ⟨rfl,rfl,rfl,rfl,aL (by omega),trivial⟩ (.drop 0 1 (.refl _))
 ·have aq:k=l.length:=by have aq:¬(k:Int)<l.length:=aq;omega
  subst aq
  rw[dW]at ha
  exact .done ⟨cd ha.symm,rfl⟩
theorem Z4{n:Int}{l:List aT}{a b:Int}(ha:0≤a∧a<n)(hb:0≤b∧b<n):sL l a b=decide (b∈ax n l a):=by
 rw[Bool.eq_iff_iff,decide_eq_true_eq,kD]
 unfold sL
 rw[kv]
 constructor
 ·rintro⟨e,he,h⟩
  simp only[b9,decide_eq_true_eq]at h
  exact⟨hb,ha,e,he,h.1,h.2⟩
 ·rintro⟨_,_,e,he,h1,h2⟩
  exact⟨e,he,by rw[bj h1,bj h2];rfl⟩
def lZ(n:Int)(l:List aT)(a:Int)(k:Nat):List Int:=((List.range k).map fun i:Nat=>(i:Int)).filter fun b=>decide (b∈iu n l a)
theorem Of{n:Int}{l:List aT}{a b:Int}(hb:0≤b∧b<n):b∈iu n l a↔b∈ax n l a:=by
 unfold ax
 rw[jW,decide_eq_true_eq]
 exact⟨fun h=>⟨fi.2 ⟨b.toNat,gq.2 (by omega),by omega⟩,h⟩,fun h=>h.2⟩
theorem RF(n:Nat)(l:List aT)(a:Int)(σ:Hp)(hl:l.length≤100000)(hn:n≤100000):ACalls Tryz.prog 171 [.int .i64 n,.af cb l,.int .i64 a] σ (aD (.af (.int .i64) (ax n l a)) σ):=by
 refine au Tryz.func171 ?_
 refine .wrap 7 _ rfl rfl ?_
 refine bh (S:=Nat×AV×Hp) (fun s=>[(0,.int .i64 n),(1,.af cb l),(2,.int .i64 a),(7,.via s.2.1),(8,.int .i64 s.1)]) (fun s=>s.2.2++σ) (fun s=>s.1≤n∧Acc 1 (lZ n l a s.1).length s.2.1 s.2.2 (an (lZ n l a s.1))) (fun s=>n-s.1) (0,.ak,[]) ⟨⟨aY _,.nil⟩,⟨rfl,rfl,rfl,rfl,rfl,trivial⟩,rfl⟩ ?_
 rintro⟨k,v,acc⟩ g ⟨aO,gQ⟩
 have hk:k≤n:=aO
 have bS:Acc 1 (lZ n l a k).length v acc (an (lZ n l a k)):=gQ
 clear aO gQ
 have eu:(lZ n l a k).length≤k:=by unfold lZ;exact Nat.le_trans (List.length_filter_le _ _) (by simp)
 have Se:lZ n l a n=ax n l a:=by unfold lZ ax;rw[bR]
 have ng:¬(0≤a∧a<n)→∀j,lZ n l a j=[]:=fun h j=>by
  unfold lZ
  refine List.filter_eq_nil_iff.2 fun b _ hb=>?_
  have hb:=fk hb
  have h1:=Oe hb
  exact h (kD.1 ((Of h1).1 hb)).2.1
 have lv:(¬(0≤a∧a<n)∨k=n)→Fin (aD (.af (.int .i64) (ax n l a)) σ) v (acc++σ):=fun h=>by
  have he:lZ n l a k=ax n l a:=by
   rcases h with h | h
   ·rw[ng h k,← Se,ng h n]
   ·rw[h,Se]
  rw[he]at bS
  exact kZ (s:=.int .i64) [] bS rfl (ir _) (by decide) (.done ⟨rfl,rfl⟩)
 refine aj (p:=(k:Int)<n) (fun ab=>?_) (fun aq=>?_)
 rotate_left
 ·exact lv (.inr (by omega))
 have ab:k<n:=by omega
 refine aj (p:=0≤a) (fun c1=>?_) (fun c1=>?_)
 rotate_left
 ·exact lv (.inl fun h=>c1 h.1)
 refine aj (p:=a<n) (fun c2=>?_) (fun c2=>?_)
 rotate_left
 ·exact lv (.inl fun h=>c2 h.2)
 have hs:lZ n l a (k+1)=lZ n l a k++(if sL l a k=true then [(k:Int)] else []):=by
  unfold lZ
  rw[qe,cC,uU]
  congr 1
  have S4:sL l a k=true↔(k:Int)∈iu n l a:=by
   rw[Z4 ⟨c1,c2⟩ (by omega),decide_eq_true_eq,Of (by omega)]
  by_cases hc:sL l a k=true
  ·rw[az hc];exact G3 (bj (S4.1 hc))
  ·rw[aA hc];exact G9 (by rw[decide_eq_true_eq];exact fun h=>hc (S4.2 h))
 refine dr [] (ac6 l a k _ hl) (fun c3=>?_) (fun c3=>?_)
 ·rw[az c3]at hs
  intro cE
  refine eU [_] bS (.ah 0 cE 0 1 _ rfl (cp rfl)) rfl (by omega) (by decide) (by decide) (fun v' aU h'=>?_)
  refine aM (k+1,v',aU) (by show n-(k+1)<n-k;omega) ⟨ab,?_⟩ ⟨rfl,rfl,rfl,rfl,aL (by omega),trivial⟩ (.drop 0 1 (aN rfl))
  show Acc 1 (lZ n l a (k+1)).length v' aU (an (lZ n l a (k+1)))
  rw[hs,bG,an,cC]
  exact h'
 ·rw[c3,aA (by decide),gg]at hs
  exact aM (k+1,v,acc) (by show n-(k+1)<n-k;omega) ⟨ab,by show Acc 1 (lZ n l a (k+1)).length v acc (an (lZ n l a (k+1)));rw[hs];exact bS⟩ ⟨rfl,rfl,rfl,rfl,aL (by omega),trivial⟩ (.refl _)
theorem Z6{F':Nat→Prop}{w w':World}(h:bL (fun b=>b<w.heap.size) w F' w'):∃q os,w'=Go.Sort.grow (w.drewN q) os:=by
 obtain⟨h1,h2,h3,h4,_,h6,_,h8⟩:=h
 have hh:w'.heap=w.heap++w'.heap.extract w.heap.size w'.heap.size:=by
  apply Array.ext
  ·simp only[Array.size_append,Array.size_extract];omega
  ·intro i hi z7
   by_cases ab:i<w.heap.size
   ·have e:=h6 i ab
    rw[wU hi,wU ab]at e
    rw[Array.getElem_append_left ab]
    exact Option.some.inj e
   ·rw[Array.getElem_append_right (by omega),Array.getElem_extract]
    congr 1;omega
 refine⟨w'.drawn-w.drawn,w'.heap.extract w.heap.size w'.heap.size,?_⟩
 have hd:w.drawn+(w'.drawn-w.drawn)=w'.drawn:=by omega
 unfold Go.Sort.grow World.drewN
 cases w' with
 |mk heap tape drawn os output=>
  simp only at h1 h2 h3 hh hd ⊢
  rw[h1,h2,h3,← hh,hd]
theorem VA{f:FuncId}{xs:List AV}{k:IntKind}{z:Int}(h:∀σ,ACalls Tryz.prog f xs σ (aD (.int k z) σ)){w:World}{vs:Array Value}(hv:ja (fun b=>b<w.heap.size) w xs vs):Calls Tryz.prog f vs w fun e w'=>e=.returned (.int k z)∧∃q os,w'=Go.Sort.grow (w.drewN q) os:=by
 refine ((h []).2 (fun b=>b<w.heap.size) w vs hv ⟨G1,fun p hp=>absurd hp s9,fun b hb=>hb⟩).mono ?_
 rintro e w' ⟨r,v,σ',F',rfl,ao,_,hr,rfl,_⟩
 refine⟨?_,Z6 ao⟩
 rw[hr.gM]
section
variable {F:Nat→Prop} {w:World} {σ:Hp}
end
variable {α:Type} {f:α→List AV} {n:Nat}
theorem Ni(hf:∀x,(f x).length=n)(l:List α):(l.flatMap f).length=l.length*n:=u0 hf l
theorem Hu:∀(vs A B C:List AV),B.length=vs.length→gi (A++(B++C)) A.length vs=A++(vs++C)
 | [],A,B,C,h=>by
  obtain rfl:=jm.1 h
  rfl
 |v::vs,A,b::B,C,h=>by
  show gi ((A++(b::(B++C))).set A.length v) (A.length+1) vs=_
  have e:(A++(b::(B++C))).set A.length v=(A++[v])++(B++C):=by
   rw[List.set_append_right _ _ (Nat.le_refl _),Nat.sub_self];simp
  rw[e,show A.length+1=(A++[v]).length by simp,Hu vs (A++[v]) B C (by simpa using h)]
  simp
theorem Zu(hf:∀x,(f x).length=n){l:List α}{k:Nat}(h:k<l.length)(d:α):gi (l.flatMap f) (k*n) (f d)=(l.set k d).flatMap f:=by
 have e:l=l.take k++([l[k]]++l.drop (k+1)):=by simp
 have e2:l.set k d=l.take k++([d]++l.drop (k+1)):=by
  rw[List.set_eq_take_append_cons_drop,az h];rfl
 have hk:((l.take k).flatMap f).length=k*n:=by rw[Ni hf,uT,LV (Nat.le_of_lt h)]
 rw[e2]
 conv=>lhs;rw[e]
 rw[wV,wV,wV,wV,List.flatMap_singleton,List.flatMap_singleton,← hk]
 exact Hu _ _ _ _ (by rw[hf,hf])
theorem V3{i:TI}(hs:i.size=n)(hf:∀x,(f x).length=n){l:List α}{k:Nat}(h:k<l.length)(d:α){z:Int}(hz:z=k):kC i (l.flatMap f) (0+z.toNat*n) (.agg (f d))=some ((l.set k d).flatMap f):=by
 subst hz
 have hl:=Ni hf l
 have hm:(k+1)*n≤l.length*n:=pf n h
 rw[qT,Nat.one_mul]at hm
 have hb:Nat.ble (0+k*n+n) (l.flatMap f).length=true:=Ma (by rw[hl];omega)
 have hq:Nat.beq (f d).length n=true:=by rw[hf];exact wM n
 unfold kC
 rw[hs]
 show (match Nat.beq (f d).length n,Nat.ble (0+k*n+n) (l.flatMap f).length with | true,true=>some (gi (l.flatMap f) (0+k*n) (f d)) | _,_=>none)=_
 rw[hb,hq]
 show some (gi (l.flatMap f) (0+k*n) (f d))=_
 rw[dU,Zu hf h]
abbrev sF:Sh:=.field (.int .i64) (.field (.int .i64) .nil)
theorem Z9{α:Type}(fr σ:List α)(x:α):(fr++(x::σ))[fr.length]?=some x:=by
 rw[iP (bJ _),nt];rfl
theorem ID{α:Type}(fr σ:List α)(x y:α):(fr++(x::σ)).set fr.length y=fr++(y::σ):=by
 rw[G7 _ _ (bJ _),nt];rfl
theorem Za(l:List (Sh.T sF))(σ:Hp)(hl:l.length≤1000000):ACalls Tryz.prog 180 [.af sF l] σ (fun x σ'=>∃acc,Acc 2 l.length x acc (l.flatMap (Sh.cells sF))∧σ'=acc++σ):=by
 refine D2 (fun h=>⟨?_,?_⟩) (fun h=>?_)
 ·subst h
  refine au Tryz.func180 ?_
  exact .done ⟨[],.nil,rfl⟩
 ·subst h
  refine au Tryz.func180 ?_
  intro b
  refine AppendAt.more 0 b 0 0 [] _ rfl rfl (cp rfl) .gZ (by decide) (by decide) (by decide) (fun b'=>?_)
  exact .done ⟨[(b',[])],.ah b' 0 [] rfl,rfl⟩
 ·refine au Tryz.func180 ?_
  refine aw.mk (mK.2 h) ?_
  intro b
  refine AppendAt.more 0 b 0 l.length [] _ rfl rfl (cp rfl) (.af sF l rfl) (by omega) (by decide) (by decide) (fun b'=>?_)
  refine .done ⟨[(b',l.flatMap (Sh.cells sF))],?_,rfl⟩
  rw[dU];exact .ah b' l.length _ (u0 (f:=Sh.cells sF) (es:=2) (fun _=>rfl) l)
theorem Y9(l:List (Sh.T sF))(σ:Hp)(hl:l.length≤1000000):ACalls Tryz.prog 180 [.af sF l] σ (aD (.af sF l) σ):=by
 refine (Za l σ hl).fin ?_
 rintro v σ' ⟨acc,bS,rfl⟩
 exact kZ (s:=sF) [] bS rfl rfl (by decide) (.done ⟨rfl,rfl⟩)
theorem Y8(l:List (Sh.T (.int .i64)))(σ:Hp)(hl:l.length≤1000000):ACalls Tryz.prog 220 [.af (.int .i64) l] σ (fun x σ'=>∃acc,Acc 1 l.length x acc (l.flatMap (Sh.cells (.int .i64)))∧σ'=acc++σ):=by
 refine D2 (fun h=>⟨?_,?_⟩) (fun h=>?_)
 ·subst h
  refine au Tryz.func220 ?_
  exact .done ⟨[],.nil,rfl⟩
 ·subst h
  refine au Tryz.func220 ?_
  intro b
  refine AppendAt.more 0 b 0 0 [] _ rfl rfl (cp rfl) .gZ (by decide) (by decide) (by decide) (fun b'=>?_)
  exact .done ⟨[(b',[])],.ah b' 0 [] rfl,rfl⟩
 ·refine au Tryz.func220 ?_
  refine aw.mk (mK.2 h) ?_
  intro b
  refine AppendAt.more 0 b 0 l.length [] _ rfl rfl (cp rfl) (.af (.int .i64) l rfl) (by omega) (by decide) (by decide) (fun b'=>?_)
  refine .done ⟨[(b',l.flatMap (Sh.cells (.int .i64)))],?_,rfl⟩
  rw[dU];exact .ah b' l.length _ (u0 (f:=Sh.cells (.int .i64)) (es:=1) (fun _=>rfl) l)
theorem Y7(l:List (Sh.T (.int .i64)))(σ:Hp)(hl:l.length≤1000000):ACalls Tryz.prog 220 [.af (.int .i64) l] σ (aD (.af (.int .i64) l) σ):=by
 refine (Y8 l σ hl).fin ?_
 rintro v σ' ⟨acc,bS,rfl⟩
 exact kZ (s:=(.int .i64)) [] bS rfl rfl (by decide) (.done ⟨rfl,rfl⟩)
theorem Zc(l:List (Sh.T iU))(σ:Hp)(hl:l.length≤1000000):ACalls Tryz.prog 222 [.af iU l] σ (fun x σ'=>∃acc,Acc 8 l.length x acc (l.flatMap (Sh.cells iU))∧σ'=acc++σ):=by
 refine D2 (fun h=>⟨?_,?_⟩) (fun h=>?_)
 ·subst h
  refine au Tryz.func222 ?_
  exact .done ⟨[],.nil,rfl⟩
 ·subst h
  refine au Tryz.func222 ?_
  intro b
  refine AppendAt.more 0 b 0 0 [] _ rfl rfl (cp rfl) .gZ (by decide) (by decide) (by decide) (fun b'=>?_)
  exact .done ⟨[(b',[])],.ah b' 0 [] rfl,rfl⟩
 ·refine au Tryz.func222 ?_
  refine aw.mk (mK.2 h) ?_
  intro b
  refine AppendAt.more 0 b 0 l.length [] _ rfl rfl (cp rfl) (.af iU l rfl) (by omega) (by decide) (by decide) (fun b'=>?_)
  refine .done ⟨[(b',l.flatMap (Sh.cells iU))],?_,rfl⟩
  rw[dU];exact .ah b' l.length _ (u0 (f:=Sh.cells iU) (es:=8) (fun _=>rfl) l)
theorem Zb(l:List (Sh.T iU))(σ:Hp)(hl:l.length≤1000000):ACalls Tryz.prog 222 [.af iU l] σ (aD (.af iU l) σ):=by
 refine (Zc l σ hl).fin ?_
 rintro v σ' ⟨acc,bS,rfl⟩
 exact kZ (s:=iU) [] bS rfl rfl (by decide) (.done ⟨rfl,rfl⟩)
theorem aad(l:List Int)(σ:Hp)(hl:l.length≤1000000):ACalls Tryz.prog 221 [.af (.int .u64) l] σ (fun x σ'=>∃b,x=.ah b 0 l.length 1∧σ'=(b,aP l)::σ):=by
 refine au Tryz.func221 ?_
 have hn:(l.length:Int)≤1048576:=by omega
 refine aw.mk ⟨GR _,dA _,hn,by decide⟩ ?_
 intro aB
 have hr:(cN [.int .u64 0] ((l.length:Int)).toNat).length=l.length:=by rw[bR,uY];exact dB _
 refine Ju.ah 0 aB 0 l.length l.length _ (l.flatMap (Sh.cells (.int .u64))) rfl rfl (by show 0+l.length*1≤(cN [.int .u64 0] ((l.length:Int)).toNat).length;rw[hr];omega) (.af (.int .u64) l rfl) (bJ _) ?_
 have he:gi (cN [.int .u64 0] ((l.length:Int)).toNat) 0 (l.flatMap (Sh.cells (.int .u64)))=aP l:=by
  rw[← jK]
  have h:=Hu (aP l) [] (cN [.int .u64 0] ((l.length:Int)).toNat) [] (by rw[hr];simp[aP])
  simpa using h
 exact .done ⟨aB,rfl,congrArg (fun cs=>(aB,cs)::σ) he⟩
theorem IX(l:List Int)(σ:Hp)(hl:l.length≤1000000):ACalls Tryz.prog 221 [.af (.int .u64) l] σ (aD (.af (.int .u64) l) σ):=by
 refine (aad l σ hl).fin ?_
 rintro v σ' ⟨b,rfl,rfl⟩
 exact .cH 0 b 0 l.length 1 _ (.int .u64) l rfl (by rw[List.drop_zero,← jK];exact List.take_of_length_le (by simp[aP])) ⟨rfl,rfl,by decide⟩ .here (.done ⟨rfl,rfl⟩)
def xC:Option lM→List AV
 |none=>[.ak,.ak,.ak]
 |some t=>[.af (.int .u64) t.1,.af (.int .u64) t.2.1,.af iU t.2.2.1]
theorem VT(t:Option lM):(xC t).length=3:=by cases t <;> rfl
def sM(T:List lM)(k:Nat):List (Option lM):=(T.take k).map some++List.replicate (T.length-k) none
theorem WJ(T:List lM):(sM T 0).flatMap xC=cN [.ak,.ak,.ak] T.length:=by
 show (List.replicate (T.length-0) none).flatMap xC=_
 rw[Nat.sub_zero]
 generalize T.length=n
 induction n with
 |zero=>rfl
 |succ n ih=>rw[L8,uS,ih];rfl
theorem Yp{T:List lM}{k:Nat}(h:k≤T.length):(sM T k).length=T.length:=by unfold sM;simp;omega
theorem Yo{T:List lM}{k:Nat}(h:k<T.length):(sM T k).set k (some T[k])=sM T (k+1):=by
 unfold sM
 rw[List.set_append_right _ _ (by simp;omega)]
 have e:T.length-k=(T.length-(k+1))+1:=by omega
 have e2:k-((T.take k).map some).length=0:=by simp;omega
 rw[e2,e,L8,eT h]
 simp only[cC,o8,List.map_nil,dh,go2,uP,List.set_cons_zero]
theorem Yq(T:List lM):(sM T T.length).flatMap xC=T.flatMap (Sh.cells jL):=by
 unfold sM
 rw[nt,dW,List.replicate_zero,gg,List.flatMap_map]
 rfl
theorem Xc(s:Sy)(σ:Hp)(hf:Fit s):ACalls Tryz.prog 162 [.agg (a7 s)] σ (aD (.agg (a7 s)) σ):=by
 refine au Tryz.func162 ?_
 intro aB
 intro cE
 refine .sched [2,5,8] (upto [2,5,8] 15 0) (by kernel_rfl) ?_
 refine aa 1 ?_
 refine aK [] (Y9 s.cI _ (ey hf.ub (by decide))) ?_
 refine aa 1 ?_
 refine aK [] (Y7 s.entry _ (ey hf.vQ (by decide))) ?_
 refine aa 1 ?_
 refine aK [] (IX s.init _ (ey hf.Cc (by decide))) ?_
 refine ag 1 ?_
 refine ag 1 ?_
 refine ag 1 ?_
 refine aa 1 ?_
 have hT:=hf.tS
 have C6:(s.T.length:Int)≤1048576:=by omega
 refine aw.mk ⟨GR _,dA _,C6,by decide⟩ ?_
 intro bt
 have sY:(bt,cN [AV.ak,AV.ak,AV.ak] ((s.T.length:Int)).toNat)=(bt,(sM s.T 0).flatMap xC):=by rw[WJ,bR]
 refine aa 2 ?_
 refine bh (S:=Nat) (fun k=>[(1,.ptr aB 0),(2,.ptr cE 0),(3,.ah bt 0 s.T.length 3),(23,.af jL s.T),(24,.int .i64 s.T.length),(25,.int .i64 k)]) (fun k=>(bt,(sM s.T k).flatMap xC)::(cE,[.int .i64 0,.int .i64 0,.int .i64 0,.ak,.ak,.ak,.ak])::(aB,a7 s)::σ) (fun k=>k≤s.T.length) (fun k=>s.T.length-k) 0 ⟨aY _,⟨rfl,rfl,rfl,rfl,rfl,rfl,trivial⟩,congrArg (· :: (cE,([.int .i64 0,.int .i64 0,.int .i64 0,.ak,.ak,.ak,.ak]:List AV))::(aB,a7 s)::σ) sY⟩ ?_
 rintro k g aO
 have hk:k≤s.T.length:=aO
 clear aO
 refine aj (fun ab=>?_) (fun aq=>?_)
 ·have ab:k<s.T.length:=by have ab:(k:Int)<s.T.length:=ab;omega
  have kM:=Yo ab
  have htr:=hf.ts _ (cq ab)
  obtain⟨t,ht⟩:∃t:lM,s.T[k]=t:=⟨_,rfl⟩
  rw[ht]at kM htr
  obtain⟨t1,t2,t3,tu⟩:=t
  obtain⟨_,_,l1,l2,l3⟩:=htr
  have l1:t1.length≤10000:=l1
  have l2:t2.length≤10000:=l2
  have l3:t3.length≤100000:=l3
  refine aw.mk rfl (aX.mk (t1,t2,t3,tu) (by omega) ((get_some ab).trans (congrArg some ht)) ?_)
  intro aB
  refine ag 0 ?_
  refine .sched [4,7,10] (upto [4,7,10] 14 0) (by kernel_rfl) ?_
  refine aa 0 ?_
  refine aK [] (IX t1 _ (ey l1 (by decide))) ?_
  refine aa 0 ?_
  refine aK [] (IX t2 _ (ey l2 (by decide))) ?_
  refine aa 0 ?_
  refine aK [] (Zb t3 _ (ey l3 (by decide))) ?_
  refine aQ ?_
  refine cu 1 rfl ((V3 rfl VT (by rw[Yp hk];exact ab) (some (t1,t2,t3,tu)) rfl).trans (congrArg (fun l=>some (List.flatMap xC l)) kM)) ?_
  exact aM (k+1) (by show s.T.length-(k+1)<s.T.length-k;omega) ab ⟨rfl,rfl,rfl,rfl,rfl,aL (by omega),trivial⟩ (.drop 0 1 (.refl _))
 ·have aq:k=s.T.length:=by have aq:¬(k:Int)<s.T.length:=aq;omega
  subst aq
  rw[Yq]
  refine ag 2 ?_
  refine aa 2 ?_
  refine ag 1 ?_
  refine aa 1 ?_
  refine .cH 0 bt 0 s.T.length 3 _ jL s.T rfl ?_ ⟨rfl,rfl,by decide⟩ (Bn (cc (.refl _) (cc (.refl _) (cc (.refl _) (cc (.refl _) (cc (.refl _) (cc (.refl _) (cc .here qp))))))) rfl) (.drop 0 2 (.done ⟨rfl,rfl⟩))
  rw[fG]
  exact dN (Aj (u0 (f:=Sh.cells jL) (es:=3) (fun _=>rfl) s.T))
theorem Pk:∀(n:Nat) (l:List Int),l.Nodup→(∀z∈l,0≤z∧z<n)→l.length≤n
 | 0,l,_,h=>by
  cases l with
  |nil=>exact bJ _
  |cons z l=>have:=h z (cF ..);omega
 |n+1,l,hn,h=>by
  have h1:=Pk n (l.erase (n:Int)) (hn.erase _) (fun z hz=>by
   rw[hn.mem_erase_iff]at hz
   have:=h z hz.2
   have:=hz.1
   omega)
  rw[List.length_erase]at h1
  split at h1 <;> omega
def jI(n:Nat)(l:List Int):Prop:=l.Nodup∧∀z∈l,0≤z∧z<n
theorem jI.len{n:Nat}{l:List Int}(h:jI n l):l.length≤n:=Pk n l h.1 h.2
theorem jI.nil(n:Nat):jI n []:=⟨G1,fun _ h=>(s9 h).elim⟩
theorem jI.snoc{n:Nat}{l:List Int}{a:Int}(h:jI n l)(ha:¬a∈l)(h2:0≤a∧a<n):jI n (l++[a]):=by
 refine⟨?_,fun z hz=>?_⟩
 ·rw[ml]
  refine⟨h.1,by simp,fun x hx y hy=>?_⟩
  rw[bE.1 hy]
  exact fun he=>ha (he▸hx)
 ·rcases bU.1 hz with hz | hz
  ·exact h.2 z hz
  ·rw[bE.1 hz];exact h2
theorem jI.perm{n:Nat}{l l2:List Int}(h:jI n l)(hp:l.Perm l2):jI n l2:=⟨hp.nodup_iff.1 h.1,fun z hz=>h.2 z (hp.mem_iff.2 hz)⟩
theorem jI.right{n:Nat}{l l2:List Int}(h:jI n (l++l2)):jI n l2:=⟨(ml.1 h.1).2.1,fun z hz=>h.2 z (bU.2 (.inr hz))⟩
theorem aac{k:Nat}{v:AV}{acc:Hp}{cs:List AV}(fr σ:Hp)(h:Acc 1 k v acc cs):jb (fr++(acc++σ)) 1 v k cs:=by
 have hl:=h.length
 cases h with
 |nil=>exact .ak
 |ah b k cs h=>
  have:=jb.ah (σ:=fr++([(b,cs)]++σ)) (es:=1) fr.length b 0 k cs (Z9 fr σ _) (by omega)
  rw[fG,dN (by omega)]at this
  exact this
abbrev KG(met:List Int)(a:Int):List AV:=(([]:List AV)++an met).take ((0+met.length)*1)++[.int .i64 a]
theorem aba(met:List Int)(a:Int):KG met a=an (met++[a]):=by
 show (an met).take ((0+met.length)*1)++[.int .i64 a]=_
 rw[dN (by rw[q9];omega)]
 unfold an
 rw[cC];rfl
theorem acv(met:List Int):(0+met.length)*1≤(([]:List AV)++an met).length:=by
 show (0+met.length)*1≤(an met).length
 rw[q9];omega
theorem ab9(met:List Int)(a:Int)(b:Nat):Acc 1 (met++[a]).length (.ah b 0 (0+met.length+1) 1) [(b,KG met a)] (an (met++[a])):=by
 rw[aba,show 0+met.length+1=(met++[a]).length by simp]
 exact .ah b _ _ (by rw[q9,dB])
abbrev ViS:=Nat×List Int×AV×Hp×AV×Hp
def aeE(n:Nat)(nx met:List Int)(a:Int)(s:ViS):Prop:=s.1≤nx.length∧jI n (met++[a]++s.2.1)∧Acc 1 (met++[a]++s.2.1).length s.2.2.1 s.2.2.2.1 (an (met++[a]++s.2.1))∧Acc 1 s.2.1.length s.2.2.2.2.1 s.2.2.2.2.2 (an s.2.1)
theorem Rn{l:List Int}{k:Nat}(h:k<l.length):l[k]?=some (l.getD k 0):=by
 rw[bO,bN h];rfl
abbrev Hh:=Nat×List Int×AV×Hp
def KB(n B:Nat)(s:Hh):Prop:=(s.2.1.length≤B∧∀z∈s.2.1,0≤z∧z<n)∧Acc 1 s.2.1.length s.2.2.1 s.2.2.2 (an s.2.1)
theorem EO{F:Nat→Prop}{w:World}{σ:Hp}(h:bC F w σ){i b' k:Nat}{cs':List AV}{c c':AV}(hl:c'.leaf=true)(fh:c.leaf=true)(hc:∀v,aF F w c v→aF F w c' v)(hi:σ[i]?=some (b',cs'))(hk:cs'[k]?=some c):bC F w (σ.set i (b',cs'.set k c')):=by
 refine⟨?_,fun p hp=>?_,h.low⟩
 ·have e1:(σ.set i (b',cs'.set k c')).map Prod.fst=σ.map Prod.fst:=by
   rw[s8]
   refine List.ext_getElem (by simp) fun j h1 h2=>?_
   rw[GN]
   split
   ·rename_i hj;subst hj
    obtain⟨q1,q2⟩:=cR.1 hi
    rw[GM,q2]
   ·rfl
  rw[e1];exact h.nodup
 ·rcases Ay hp with hp | rfl
  ·exact h.holds p hp
  ·obtain⟨h1,c0,T,h2,h3,h4⟩:=(h.holds _ (dm hi)).JD hk fh
   refine⟨h1,.inl ⟨c0,T,h2,by rw[dV];exact h3,fun j x hx=>?_⟩⟩
   rw[gX]at hx
   split at hx
   ·rename_i hj;subst hj
    split at hx
    ·cases hx
     exact⟨hl,hc _ (h4 k _ hk).2⟩
    ·cases hx
   ·exact h4 j x hx
abbrev jh:=AV×Hp×List Int
def ri(r:jh):Prop:=(r.1=.ak∧r.2.1=[]∧r.2.2=[])∨(∃v,r.1=.via v∧Acc 1 r.2.2.length v r.2.1 (an r.2.2))
def iX(rs:List jh):List AV:=rs.map (·.1)
def iY(rs:List jh):Hp:=rs.flatMap (·.2.1)
def iV(rs:List jh):List (List Int):=rs.map (·.2.2)
theorem IF:∀(A:List (List Int)) (l:List Int) (B:List AV),(cx A++.af (.int .i64) l::B)=cx (A++[l])++B
 | [],_,_=>rfl
 |a::A,l,B=>congrArg (AV.af (.int .i64) a :: ·) (IF A l B)
theorem ZF(A:List (List Int)):(cx A).length=A.length:=cm _
theorem IE{w:World}{bo:Nat}{σ:Hp}:∀(B:List jh) (A:List (List Int)) (F:Nat→Prop),(∀r∈B,ri r)→bC F w ((bo,cx A++iX B)::(iY B++σ))→∃F',bL F w F' w∧bC F' w ((bo,cx (A++iV B))::σ)
 | [],A,F,_,h=>⟨F,⟨rfl,rfl,rfl,bJ _,fun _ h=>h,fun _ _=>rfl,fun _ c _ fz h=>⟨c,fz,h,rfl⟩,bJ _⟩,by
  have h:bC F w ((bo,cx A++[])::σ):=h
  rw[gg]at h
  rw[show A++iV []=A from gg _]
  exact h⟩
 |(c,acc,l)::B,A,F,hB,h=>by
  have hB':∀r∈B,ri r:=fun r hr=>hB r (dy _ hr)
  have h:bC F w ((bo,cx A++c::iX B)::(acc++iY B++σ)):=h
  have hk:(cx A++c::iX B)[(cx A).length]?=some c:=by simp
  have oU:acc=[]→l=[]→c.leaf=true→(∀v,aF F w c v→aF F w (.af (.int .i64) []) v)→∃F',bL F w F' w∧bC F' w ((bo,cx (A++iV ((c,acc,l)::B)))::σ):=fun h1 h2 fh h3=>by
   subst h1;subst h2
   have this:bC F w ((bo,(cx A++c::iX B).set (cx A).length (.af (.int .i64) []))::(iY B++σ)):=EO h (c':=.af (.int .i64) []) rfl fh h3 (i:=0) rfl hk
   rw[ID]at this
   have this:bC F w ((bo,cx A++.af (.int .i64) []::iX B)::(iY B++σ)):=this
   have this:bC F w ((bo,cx (A++[[]])++iX B)::(iY B++σ)):=(IF A [] (iX B))▸this
   obtain⟨F',q1,q2⟩:=IE B (A++[[]]) F hB' this
   rw[dh]at q2
   exact⟨F',q1,q2⟩
  have fF:∀v,aF F w .ak v→aF F w (.af (.int .i64) []) v:=fun v hv=>by
   cases hv
   exact .af (.int .i64) [] _ ⟨none,0,rfl,bJ _,by unfold maxLen;omega,fun _=>rfl,fun bc=>absurd rfl bc⟩
  rcases hB _ (cF ..) with ⟨h1,h2,h3⟩ | ⟨v,h1,h2⟩
  ·have h1:c=.ak:=h1
   exact oU h2 h3 (by rw[h1];rfl) (by rw[h1];exact fF)
  ·have h1:c=.via v:=h1
   subst h1
   have h2:Acc 1 l.length v acc (an l):=h2
   generalize hn:l.length=n at h2
   generalize hc:an l=cs at h2
   cases h2 with
   |nil=>
    exact oU rfl (jm.1 hn) rfl (by
     intro v hv
     cases hv with
     |via _ _ _ hv=>exact fF _ hv)
   |ah b k cs hl=>
    subst hn
    subst hc
    have h5:bC F w ((bo,(cx A++.via (.ah b 0 l.length 1)::iX B).set (cx A).length (.ah b 0 l.length 1))::(b,an l)::(iY B++σ)):=EO h (c':=.ah b 0 l.length 1) rfl rfl (by
     intro v hv
     cases hv with
     |via _ _ _ hv=>exact hv) (i:=0) rfl hk
    rw[ID]at h5
    have h5:bC F w ((bo,cx A++.ah b 0 l.length 1::iX B)::(b,an l)::(iY B++σ)):=h5
    obtain⟨ao,aJ,hh⟩:=su h5 (j:=1) (b:=b) (off:=0) (len:=l.length) (es:=1) (cs:=an l) (e:=.int .i64) (l:=l) rfl (by rw[fG,← ir];exact dN (by rw[q9];omega)) ⟨rfl,rfl,by decide⟩
    have h6:bC _ w ((bo,(cx A++.ah b 0 l.length 1::iX B).set (cx A).length (.af (.int .i64) l))::(iY B++σ)):=yM aJ hh (i:=0) (k:=(cx A).length) (b':=bo) rfl (by simp)
    rw[ID]at h6
    have h6:bC _ w ((bo,cx A++.af (.int .i64) l::iX B)::(iY B++σ)):=h6
    rw[IF]at h6
    obtain⟨F',q1,q2⟩:=IE B (A++[l]) _ hB' h6
    rw[dh]at q2
    exact⟨F',ao.trans q1,q2⟩
theorem M1{f:FuncId}{xs:List AV}{σ0 σ:Hp}{Q:List (List Int)→Prop}(h:ACalls Tryz.prog f xs σ0 (fun r σ'=>∃bo rs,r=.ah bo 0 (rs:List jh).length 1∧σ'=(bo,iX rs)::(iY rs++σ)∧(∀r∈rs,ri r)∧Q (iV rs))):ACalls Tryz.prog f xs σ0 (fun r σ'=>∃ls:List (List Int),r=.af (.slice (.int .i64)) ls∧σ'=σ∧Q ls):=
 ⟨h.1,fun F w vs cg aJ=>(h.2 F w vs cg aJ).mono fun _ w' ⟨r,v,σ',F',h1,h2,h3,h4,h5⟩=>by
  obtain⟨bo,rs,rfl,rfl,q1,q2⟩:=h5
  obtain⟨F2,k1,k2⟩:=IE rs [] F' q1 h3
  have hl:(iV rs).length=rs.length:=cm _
  have k2:bC F2 w' ((bo,cx (iV rs))::σ):=k2
  obtain⟨m1,m2,m3⟩:=su k2 (j:=0) (b:=bo) (off:=0) (len:=rs.length) (es:=1) (cs:=cx (iV rs)) (e:=.slice (.int .i64)) (l:=iV rs) rfl (by rw[fG,← tp];exact dN (by rw[ZF,hl];omega)) ⟨hl,rfl,by decide⟩
  exact⟨.af (.slice (.int .i64)) (iV rs),v,σ,_,h1,(h2.trans k1).trans m1,m2,m3 v (h4.mono k1),iV rs,rfl,rfl,q2⟩⟩
theorem NV(rs:List jh):(iX rs).length=rs.length:=cm _
theorem OY(A:List jh)(r:jh)(B:List jh){z:Int}(hz:z=A.length):(iX (A++r::B))[0+z.toNat*1]?=some r.1:=by
 subst hz
 rw[bR,dB,dU]
 unfold iX
 rw[fm]
 simp
theorem NU(A:List jh)(r r2:jh)(B:List jh){z:Int}(hz:z=A.length):(iX (A++r::B)).set (0+z.toNat*1) r2.1=iX (A++r2::B):=by
 subst hz
 rw[bR,dB,dU]
 unfold iX
 simp
theorem O3(n:Nat):cN [.ak] n=iX (List.replicate n (.ak,[],[])):=by
 induction n with
 |zero=>rfl
 |succ n ih=>show AV.ak::cN [.ak] n=_;rw[ih];rfl
theorem NX(n:Nat):iY (List.replicate n (.ak,[],[]))=[]:=by
 induction n with
 |zero=>rfl
 |succ n ih=>exact ih
theorem vf(A:List jh)(r:jh)(B:List jh)(σ:Hp):iY (A++r::B)++σ=iY A++(r.2.1++(iY B++σ)):=by
 unfold iY
 simp
def cO(s:Sy)(k:Int):Int:=if eG s=0 then (if 1≤k∧k≤64 then 0 else 1) else eG s
theorem adt{s:Sy}{k:Int}(h:¬eG s=0):eG s=cO s k:=(aA h).symm
theorem ads{s:Sy}{k:Int}(h:eG s=0)(hk:¬(1≤k∧k≤64)):1=cO s k:=by unfold cO;rw[az h,aA hk]
theorem adr{s:Sy}{k:Int}(h:eG s=0)(hk:1≤k∧k≤64):0=cO s k:=by unfold cO;rw[az h,az hk]
def pR(e n:Int):Int:=if e=0 then n else 0
def vS(s:Sy)(k:Int):List AV:=[.int .i64 (pR (cO s k) s.ai),.int .i64 (pR (cO s k) (ej s.ai s.w)),.int .i64 (pR (cO s k) s.n),.int .i64 (pR (cO s k) k)]
theorem Ph{s:Sy}{k:Int}(h:¬eG s=0):AV.tup [.agg [.int .i64 0,.int .i64 0,.int .i64 0,.int .i64 0],.int .i64 (eG s)]=.tup [.agg (vS s k),.int .i64 (cO s k)]:=by unfold vS pR;rw[← adt h];simp only[aA h]
theorem El{s:Sy}{k:Int}(h:eG s=0)(hk:¬(1≤k∧k≤64)):AV.tup [.agg [.int .i64 0,.int .i64 0,.int .i64 0,.int .i64 0],.int .i64 1]=.tup [.agg (vS s k),.int .i64 (cO s k)]:=by unfold vS pR;rw[← ads h hk];rfl
theorem Qp{s:Sy}{k:Int}(h:eG s=0)(hk:1≤k∧k≤64):AV.tup [.agg [.int .i64 s.ai,.int .i64 (ej s.ai s.w),.int .i64 s.n,.int .i64 k],.int .i64 0]=.tup [.agg (vS s k),.int .i64 (cO s k)]:=by unfold vS pR;rw[← adr h hk];rfl
theorem ac4(s:Sy)(k:Int)(σ:Hp)(hf:Fit s):ACalls Tryz.prog 15 [.agg (a7 s),.int .i64 k] σ (aD (.tup [.agg (vS s k),.int .i64 (cO s k)]) σ):=by
 refine au Tryz.func15 ?_
 intro aB
 intro cE
 refine aa 1 ?_
 refine ar [] (Xi s _ hf) ?_
 refine cQ (fun c3=>?_) (fun c3=>?_)
 ·have c3:¬(eG s=0):=by simpa using c3
  refine ag 0 ?_
  refine aa 0 ?_
  exact .drop 0 2 (.done ⟨Ph (by assumption),rfl⟩)
 ·have c3:eG s=0:=by simpa using c3
  refine aj (fun c4=>?_) (fun c4=>?_)
  ·have c4:k<1:=c4
   refine ag 0 ?_
   refine aa 0 ?_
   exact .drop 0 2 (.done ⟨El (by assumption) (by omega),rfl⟩)
  ·have c4:¬(k<1):=c4
   refine aj (fun c5=>?_) (fun c5=>?_)
   ·have c5:64<k:=c5
    refine ag 0 ?_
    refine aa 0 ?_
    exact .drop 0 2 (.done ⟨El (by assumption) (by omega),rfl⟩)
   ·have c5:¬(64<k):=c5
    refine .sched [6] (upto [6] 13 0) (by kernel_rfl) ?_
    refine aa 1 ?_
    refine aa 1 ?_
    refine aa 1 ?_
    refine aK [] (Ia _ _ _) ?_
    refine aa 1 ?_
    refine ag 0 ?_
    refine aa 0 ?_
    exact .drop 0 2 (.done ⟨Qp (by assumption) (by omega),rfl⟩)
set_option maxHeartbeats 4000000
def rm(n:Int):Nat:=(min (max n 1) 4096).toNat
theorem Fk(n:Int):1≤rm n∧rm n≤4096:=by unfold rm;omega
theorem Q3(n:Int):(if (4096:Int)<(if n<1 then 1 else n) then (4096:Int) else (if n<1 then 1 else n))=((rm n:Nat):Int):=by
 unfold rm
 by_cases h:n<1
 ·simp only[az h];omega
 ·simp only[aA h];split <;> omega
theorem JP(n:Int)(σ:Hp):ACalls Tryz.prog 154 [.int .i64 n] σ (aD (.int .i64 (rm n)) σ):=by
 refine au Tryz.func154 ?_
 exact .done ⟨aR (Q3 n),rfl⟩
def bY(base:Int):Int:=wr (base+1)
def jN(base cap i:Int):Int:=wr (wr (base+2)+wr (i % (rm cap:Int)))
theorem sn(b c:Int)(σ:Hp):ACalls Tryz.prog 111 [.agg [.int .i64 b,.int .i64 c]] σ (aD (.int .i64 (bY b)) σ):=by
 refine au Tryz.func111 ?_
 intro aB
 refine aa 0 ?_
 exact .drop 0 1 (.done ⟨rfl,rfl⟩)
theorem Jj(b c i:Int)(σ:Hp)(h0:0≤i):ACalls Tryz.prog 402 [.agg [.int .i64 b,.int .i64 c],.int .u64 i] σ (aD (.int .i64 (jN b c i)) σ):=by
 have hr:=Fk c
 have e1:IntKind.u64.wrap (rm c:Int)=rm c:=by rw[IntKind.wrap_u64];omega
 have e2:i.tmod (IntKind.u64.wrap (rm c:Int))=i % (rm c:Int):=by rw[e1,sa h0]
 refine au Tryz.func402 ?_
 intro aB
 refine .quiet (by kernel_rfl) ?_
 refine aa 0 ?_
 refine aa 0 ?_
 refine aK [] (JP _ _) ?_
 refine aw.mk (by rw[e1];omega) ?_
 exact .drop 0 1 (.done ⟨aR (by rw[e2];rfl),rfl⟩)
structure DQ where
 base:Int
 cap:Int
 n:Int
 ok:Bool
 ended:Bool
 at_:Nat
 b:Int
 t:Int
 x:Int
def lK(q:DQ):List AV:=[.int .i64 q.base,.int .i64 q.cap,.int .u64 q.n,.bool q.ok,.bool q.ended,.int .i64 q.at_,.int .u64 q.b,.int .u64 q.t,.int .u64 q.x]
abbrev wu(n:Int):Int:=IntKind.u64.wrap n
def fT(O:jz)(q:DQ)(a:O.A):DQ×O.A×Bool:=
 if q.ended then (q,a,true)
 else if q.at_=0 then ({ q with at_:=q.at_+1,b:=(O.ld a (bY q.base)).1 },(O.ld a (bY q.base)).2,false)
 else if q.at_=1 then
  (if (rm q.cap:Int)≤wr (wu (q.b-(O.ld a q.base).1)) then ({ q with at_:=q.at_+1,t:=(O.ld a q.base).1,ended:=true },(O.ld a q.base).2,true)
  else ({ q with at_:=q.at_+1,t:=(O.ld a q.base).1 },(O.ld a q.base).2,false))
 else if q.at_=2 then ({ q with at_:=q.at_+1 },O.st a (jN q.base q.cap q.b) q.n,false)
 else ({ q with at_:=q.at_+1,ok:=true,ended:=true },O.st a (bY q.base) (wu (q.b+1)),true)
theorem kF{M:AMem}{σ:Hp}{X:Type}{B:X→List AV}{r:Nat}{res:X×M.O.A×Bool}{x:X}{a:M.O.A}{b:Bool}{m':M.S}{cs:List AV}(h:res=(x,a,b))(hm:M.abs m'=a)(hc:cs=B x):pF M σ B r res (.bool b) ((r,cs)::(M.B m'++σ)):=by
 subst hc
 exact j8 h hm
theorem Sz(M:AMem)(r:Nat)(q:DQ)(m:M.S)(d:Int)(σ:Hp)(hf:M.O.free (M.abs m))(eP:q.at_≤1000)(hb:0≤q.b):ACalls Tryz.prog 409 [.ptr r 0,M.v,.int .i64 d] ((r,lK q)::(M.B m++σ)) (pF M σ lK r (fT M.O q (M.abs m))):=by
 have hw:IntKind.i64.wrap ((q.at_:Int)+1)=((q.at_+1:Nat):Int):=by rw[IntKind.wrap_i64];omega
 refine au Tryz.func409 ?_
 refine eH.ij 0 _ _ rfl rfl (fun h0=>?_) (fun h0=>?_)
 ·exact .done (j8 (x:=q) (by simp[fT,h0]) rfl)
 refine ar [] (dF _ _ _) ?_
 refine aa 0 ?_
 refine ag 0 ?_
 refine aa 0 ?_
 refine aj (fun c1=>?_) (fun c1=>?_)
 ·have c1:IntKind.i64.wrap ((↑q.at_:Int)+1)=1:=c1
  refine .sched [6] (upto [6] 15 0) (by kernel_rfl) ?_
  refine aa 0 ?_
  refine aK [] (sn _ _ _) ?_
  refine eY.mk M.hL ?_
  refine M.aLoad [_] hf fun m' hm=>?_
  refine ag 0 ?_
  exact .done (kF (x:= { q with at_:=q.at_+1,b:=(M.O.ld (M.abs m) (bY q.base)).1 }) (by simp[fT,h0,show q.at_=0 by omega]) hm (by rw[hw];rfl))
 ·have c1:¬(IntKind.i64.wrap ((↑q.at_:Int)+1)=1):=c1
  refine aj (fun c2=>?_) (fun c2=>?_)
  ·have c2:IntKind.i64.wrap ((↑q.at_:Int)+1)=2:=c2
   refine .sched [] (upto [] 15 0) (by kernel_rfl) ?_
   refine aa 0 ?_
   refine eY.mk M.hL ?_
   refine M.aLoad [_] hf fun m' hm=>?_
   refine ag 0 ?_
   refine .quiet (by kernel_rfl) ?_
   refine aa 0 ?_
   refine aa 0 ?_
   refine aa 0 ?_
   refine aK [] (JP _ _) ?_
   refine aj (fun c3=>?_) (fun c3=>?_)
   ·have c3:(↑(rm q.cap):Int)≤IntKind.i64.wrap (IntKind.u64.wrap (q.b-(M.O.ld (M.abs m) q.base).fst)):=c3
    refine .fwd 1 ?_
    refine ag 0 ?_
    exact .done (kF (x:= { q with at_:=q.at_+1,t:=(M.O.ld (M.abs m) q.base).1,ended:=true }) (by simp[fT,h0,show q.at_=1 by omega,c3]) hm (by rw[hw];rfl))
   ·have c3:¬((↑(rm q.cap):Int)≤IntKind.i64.wrap (IntKind.u64.wrap (q.b-(M.O.ld (M.abs m) q.base).fst))):=c3
    exact .done (kF (x:= { q with at_:=q.at_+1,t:=(M.O.ld (M.abs m) q.base).1 }) (by unfold fT wr wu;(repeat' split) <;> first | rfl | omega | simp_all) hm (by rw[hw];rfl))
  ·have c2:¬(IntKind.i64.wrap ((↑q.at_:Int)+1)=2):=c2
   refine aj (fun c4=>?_) (fun c4=>?_)
   ·have c4:IntKind.i64.wrap ((↑q.at_:Int)+1)=3:=c4
    refine .sched [10] (upto [10] 19 0) (by kernel_rfl) ?_
    refine aa 0 ?_
    refine aa 0 ?_
    refine aK [] (Jj _ _ _ _ hb) ?_
    refine aa 0 ?_
    refine eY.mk M.hS ?_
    refine M.aStore [_] hf fun m' hm=>?_
    exact .done (kF (x:= { q with at_:=q.at_+1 }) (by simp[fT,h0,show q.at_=2 by omega]) hm (by rw[hw];rfl))
   ·have c4:¬(IntKind.i64.wrap ((↑q.at_:Int)+1)=3):=c4
    refine .sched [5] (upto [5] 16 0) (by kernel_rfl) ?_
    refine aa 0 ?_
    refine aK [] (sn _ _ _) ?_
    refine aa 0 ?_
    refine eY.mk M.hS ?_
    refine M.aStore [_] hf fun m' hm=>?_
    refine ag 0 ?_
    refine .fwd 1 ?_
    refine ag 0 ?_
    exact .done (kF (x:= { q with at_:=q.at_+1,ok:=true,ended:=true }) (by simp[fT,h0,show q.at_≠0 by omega,show q.at_≠1 by omega,show q.at_≠2 by omega]) hm (by rw[hw];rfl))
def dZ(O:jz)(q:DQ)(a:O.A):DQ×O.A×Bool:=
 if q.ended then (q,a,true)
 else if q.at_=0 then ({ q with at_:=q.at_+1,b:=wu ((O.ld a (bY q.base)).1-1) },(O.ld a (bY q.base)).2,false)
 else if q.at_=1 then ({ q with at_:=q.at_+1 },O.st a (bY q.base) q.b,false)
 else if q.at_=2 then ({ q with at_:=q.at_+1,t:=(O.ld a q.base).1 },(O.ld a q.base).2,false)
 else if q.at_=3 then
  (if wr q.b<wr q.t then ({ q with at_:=q.at_+1,ended:=true },O.st a (bY q.base) (wu (q.b+1)),true)
  else if wr q.t<wr q.b then ({ q with at_:=q.at_+1,x:=(O.ld a (jN q.base q.cap q.b)).1,ok:=true,n:=(O.ld a (jN q.base q.cap q.b)).1,ended:=true },(O.ld a (jN q.base q.cap q.b)).2,true)
  else ({ q with at_:=q.at_+1,x:=(O.ld a (jN q.base q.cap q.b)).1 },(O.ld a (jN q.base q.cap q.b)).2,false))
 else if q.at_=4 then ({ q with at_:=q.at_+1,ok:=(O.cs a q.base q.t (wu (q.t+1))).1 },(O.cs a q.base q.t (wu (q.t+1))).2,false)
 else ({ q with at_:=q.at_+1,n:=if q.ok then q.x else q.n,ended:=true },O.st a (bY q.base) (wu (q.b+1)),true)
theorem F9(M:AMem)(r:Nat)(q:DQ)(m:M.S)(d:Int)(σ:Hp)(hf:M.O.free (M.abs m))(eP:q.at_≤1000)(hb:0≤q.b):ACalls Tryz.prog 401 [.ptr r 0,M.v,.int .i64 d] ((r,lK q)::(M.B m++σ)) (pF M σ lK r (dZ M.O q (M.abs m))):=by
 have hw:IntKind.i64.wrap ((q.at_:Int)+1)=((q.at_+1:Nat):Int):=by rw[IntKind.wrap_i64];omega
 refine au Tryz.func401 ?_
 refine eH.ij 0 _ _ rfl rfl (fun h0=>?_) (fun h0=>?_)
 ·exact .done (j8 (x:=q) (by simp[dZ,h0]) rfl)
 refine ar [] (dF _ _ _) ?_
 refine aa 0 ?_
 refine ag 0 ?_
 refine aa 0 ?_
 refine aj (fun c1=>?_) (fun c1=>?_)
 ·have c1:IntKind.i64.wrap ((↑q.at_:Int)+1)=1:=c1
  refine .sched [6] (upto [6] 16 0) (by kernel_rfl) ?_
  refine aa 0 ?_
  refine aK [] (sn _ _ _) ?_
  refine eY.mk M.hL ?_
  refine M.aLoad [_] hf fun m' hm=>?_
  refine ag 0 ?_
  exact .done (kF (x:= { q with at_:=q.at_+1,b:=wu ((M.O.ld (M.abs m) (bY q.base)).1-1) }) (by unfold dZ wr wu;(repeat' split) <;> first | rfl | omega | simp_all) hm (by rw[hw];rfl))
 ·have c1:¬(IntKind.i64.wrap ((↑q.at_:Int)+1)=1):=c1
  refine aj (fun c2=>?_) (fun c2=>?_)
  ·have c2:IntKind.i64.wrap ((↑q.at_:Int)+1)=2:=c2
   refine .sched [5] (upto [5] 15 0) (by kernel_rfl) ?_
   refine aa 0 ?_
   refine aK [] (sn _ _ _) ?_
   refine aa 0 ?_
   refine eY.mk M.hS ?_
   refine M.aStore [_] hf fun m' hm=>?_
   exact .done (kF (x:= { q with at_:=q.at_+1 }) (by unfold dZ wr wu;(repeat' split) <;> first | rfl | omega | simp_all) hm (by rw[hw];rfl))
  ·have c2:¬(IntKind.i64.wrap ((↑q.at_:Int)+1)=2):=c2
   refine aj (fun c3=>?_) (fun c3=>?_)
   ·have c3:IntKind.i64.wrap ((↑q.at_:Int)+1)=3:=c3
    refine .sched [] (upto [] 15 0) (by kernel_rfl) ?_
    refine aa 0 ?_
    refine eY.mk M.hL ?_
    refine M.aLoad [_] hf fun m' hm=>?_
    refine ag 0 ?_
    exact .done (kF (x:= { q with at_:=q.at_+1,t:=(M.O.ld (M.abs m) q.base).1 }) (by unfold dZ wr wu;(repeat' split) <;> first | rfl | omega | simp_all) hm (by rw[hw];rfl))
   ·have c3:¬(IntKind.i64.wrap ((↑q.at_:Int)+1)=3):=c3
    refine aj (fun c4=>?_) (fun c4=>?_)
    ·have c4:IntKind.i64.wrap ((↑q.at_:Int)+1)=4:=c4
     refine .quiet (by kernel_rfl) ?_
     refine aa 0 ?_
     refine aa 0 ?_
     refine aj (fun c5=>?_) (fun c5=>?_)
     ·have c5:IntKind.i64.wrap q.b<IntKind.i64.wrap q.t:=c5
      refine .fwd 1 ?_
      refine .sched [5] (upto [5] 16 0) (by kernel_rfl) ?_
      refine aa 0 ?_
      refine aK [] (sn _ _ _) ?_
      refine aa 0 ?_
      refine eY.mk M.hS ?_
      refine M.aStore [_] hf fun m' hm=>?_
      refine ag 0 ?_
      exact .done (kF (x:= { q with at_:=q.at_+1,ended:=true }) (by unfold dZ wr wu;(repeat' split) <;> first | rfl | omega | simp_all) hm (by rw[hw];rfl))
     ·have c5:¬(IntKind.i64.wrap q.b<IntKind.i64.wrap q.t):=c5
      refine .sched [11] (upto [11] 20 0) (by kernel_rfl) ?_
      refine aa 0 ?_
      refine aa 0 ?_
      refine aK [] (Jj _ _ _ _ hb) ?_
      refine eY.mk M.hL ?_
      refine M.aLoad [_] hf fun m' hm=>?_
      refine ag 0 ?_
      refine .quiet (by kernel_rfl) ?_
      refine aa 0 ?_
      refine aa 0 ?_
      refine aj (fun c6=>?_) (fun c6=>?_)
      ·have c6:IntKind.i64.wrap q.t<IntKind.i64.wrap q.b:=c6
       refine aa 0 ?_
       refine ag 0 ?_
       refine ag 0 ?_
       refine .fwd 1 ?_
       refine ag 0 ?_
       exact .done (kF (x:= { q with at_:=q.at_+1,x:=(M.O.ld (M.abs m) (jN q.base q.cap q.b)).1,ok:=true,n:=(M.O.ld (M.abs m) (jN q.base q.cap q.b)).1,ended:=true }) (by unfold dZ wr wu;(repeat' split) <;> first | rfl | omega | simp_all) hm (by rw[hw];rfl))
      ·have c6:¬(IntKind.i64.wrap q.t<IntKind.i64.wrap q.b):=c6
       exact .done (kF (x:= { q with at_:=q.at_+1,x:=(M.O.ld (M.abs m) (jN q.base q.cap q.b)).1 }) (by unfold dZ wr wu;(repeat' split) <;> first | rfl | omega | simp_all) hm (by rw[hw];rfl))
    ·have c4:¬(IntKind.i64.wrap ((↑q.at_:Int)+1)=4):=c4
     refine aj (fun c7=>?_) (fun c7=>?_)
     ·have c7:IntKind.i64.wrap ((↑q.at_:Int)+1)=5:=c7
      refine .sched [] (upto [] 25 0) (by kernel_rfl) ?_
      refine aa 0 ?_
      refine aa 0 ?_
      refine aa 0 ?_
      refine eY.mk M.hC ?_
      refine M.aCas [_] hf fun m' hm=>?_
      refine ag 0 ?_
      exact .done (kF (x:= { q with at_:=q.at_+1,ok:=(M.O.cs (M.abs m) q.base q.t (wu (q.t+1))).1 }) (by unfold dZ wr wu;(repeat' split) <;> first | rfl | omega | simp_all) hm (by rw[hw];rfl))
     ·have c7:¬(IntKind.i64.wrap ((↑q.at_:Int)+1)=5):=c7
      refine eH.ij 0 _ _ rfl rfl (fun c8=>?_) (fun c8=>?_)
      ·refine aa 0 ?_
       refine ag 0 ?_
       refine .fwd 1 ?_
       refine .sched [5] (upto [5] 16 0) (by kernel_rfl) ?_
       refine aa 0 ?_
       refine aK [] (sn _ _ _) ?_
       refine aa 0 ?_
       refine eY.mk M.hS ?_
       refine M.aStore [_] hf fun m' hm=>?_
       refine ag 0 ?_
       exact .done (kF (x:= { q with at_:=q.at_+1,n:=q.x,ended:=true }) (by unfold dZ wr wu;(repeat' split) <;> first | rfl | omega | simp_all) hm (by rw[hw];rfl))
      ·refine .fwd 1 ?_
       refine .sched [5] (upto [5] 16 0) (by kernel_rfl) ?_
       refine aa 0 ?_
       refine aK [] (sn _ _ _) ?_
       refine aa 0 ?_
       refine eY.mk M.hS ?_
       refine M.aStore [_] hf fun m' hm=>?_
       refine ag 0 ?_
       exact .done (kF (x:= { q with at_:=q.at_+1,ended:=true }) (by unfold dZ wr wu;(repeat' split) <;> first | rfl | omega | simp_all) hm (by rw[hw];rfl))
def fx(O:jz)(q:DQ)(a:O.A):DQ×O.A×Bool:=
 if q.ended then (q,a,true)
 else if q.at_=0 then ({ q with at_:=q.at_+1,t:=(O.ld a q.base).1 },(O.ld a q.base).2,false)
 else if q.at_=1 then
  (if wr (O.ld a (bY q.base)).1≤wr q.t then ({ q with at_:=q.at_+1,b:=(O.ld a (bY q.base)).1,ended:=true },(O.ld a (bY q.base)).2,true)
  else ({ q with at_:=q.at_+1,b:=(O.ld a (bY q.base)).1 },(O.ld a (bY q.base)).2,false))
 else if q.at_=2 then ({ q with at_:=q.at_+1,x:=(O.ld a (jN q.base q.cap q.t)).1 },(O.ld a (jN q.base q.cap q.t)).2,false)
 else ({ q with at_:=q.at_+1,ok:=(O.cs a q.base q.t (wu (q.t+1))).1,n:=if (O.cs a q.base q.t (wu (q.t+1))).1 then q.x else q.n,ended:=true },(O.cs a q.base q.t (wu (q.t+1))).2,true)
theorem E8(M:AMem)(r:Nat)(q:DQ)(m:M.S)(d:Int)(σ:Hp)(hf:M.O.free (M.abs m))(eP:q.at_≤1000)(hb:0≤q.t):ACalls Tryz.prog 403 [.ptr r 0,M.v,.int .i64 d] ((r,lK q)::(M.B m++σ)) (pF M σ lK r (fx M.O q (M.abs m))):=by
 have hw:IntKind.i64.wrap ((q.at_:Int)+1)=((q.at_+1:Nat):Int):=by rw[IntKind.wrap_i64];omega
 refine au Tryz.func403 ?_
 refine eH.ij 0 _ _ rfl rfl (fun h0=>?_) (fun h0=>?_)
 ·exact .done (j8 (x:=q) (by simp[fx,h0]) rfl)
 refine ar [] (dF _ _ _) ?_
 refine aa 0 ?_
 refine ag 0 ?_
 refine aa 0 ?_
 refine aj (fun c1=>?_) (fun c1=>?_)
 ·have c1:IntKind.i64.wrap ((↑q.at_:Int)+1)=1:=c1
  refine .sched [] (upto [] 15 0) (by kernel_rfl) ?_
  refine aa 0 ?_
  refine eY.mk M.hL ?_
  refine M.aLoad [_] hf fun m' hm=>?_
  refine ag 0 ?_
  exact .done (kF (x:= { q with at_:=q.at_+1,t:=(M.O.ld (M.abs m) q.base).1 }) (by unfold fx wr wu;(repeat' split) <;> first | rfl | omega | simp_all) hm (by rw[hw];rfl))
 ·have c1:¬(IntKind.i64.wrap ((↑q.at_:Int)+1)=1):=c1
  refine aj (fun c2=>?_) (fun c2=>?_)
  ·have c2:IntKind.i64.wrap ((↑q.at_:Int)+1)=2:=c2
   refine .sched [6] (upto [6] 15 0) (by kernel_rfl) ?_
   refine aa 0 ?_
   refine aK [] (sn _ _ _) ?_
   refine eY.mk M.hL ?_
   refine M.aLoad [_] hf fun m' hm=>?_
   refine ag 0 ?_
   refine .quiet (by kernel_rfl) ?_
   refine aa 0 ?_
   refine aa 0 ?_
   refine aj (fun c3=>?_) (fun c3=>?_)
   ·have c3:IntKind.i64.wrap (M.O.ld (M.abs m) (bY q.base)).fst≤IntKind.i64.wrap q.t:=c3
    refine .fwd 1 ?_
    refine ag 0 ?_
    exact .done (kF (x:= { q with at_:=q.at_+1,b:=(M.O.ld (M.abs m) (bY q.base)).1,ended:=true }) (by unfold fx wr wu;(repeat' split) <;> first | rfl | omega | simp_all) hm (by rw[hw];rfl))
   ·have c3:¬(IntKind.i64.wrap (M.O.ld (M.abs m) (bY q.base)).fst≤IntKind.i64.wrap q.t):=c3
    exact .done (kF (x:= { q with at_:=q.at_+1,b:=(M.O.ld (M.abs m) (bY q.base)).1 }) (by unfold fx wr wu;(repeat' split) <;> first | rfl | omega | simp_all) hm (by rw[hw];rfl))
  ·have c2:¬(IntKind.i64.wrap ((↑q.at_:Int)+1)=2):=c2
   refine aj (fun c4=>?_) (fun c4=>?_)
   ·have c4:IntKind.i64.wrap ((↑q.at_:Int)+1)=3:=c4
    refine .sched [11] (upto [11] 20 0) (by kernel_rfl) ?_
    refine aa 0 ?_
    refine aa 0 ?_
    refine aK [] (Jj _ _ _ _ hb) ?_
    refine eY.mk M.hL ?_
    refine M.aLoad [_] hf fun m' hm=>?_
    refine ag 0 ?_
    exact .done (kF (x:= { q with at_:=q.at_+1,x:=(M.O.ld (M.abs m) (jN q.base q.cap q.t)).1 }) (by unfold fx wr wu;(repeat' split) <;> first | rfl | omega | simp_all) hm (by rw[hw];rfl))
   ·have c4:¬(IntKind.i64.wrap ((↑q.at_:Int)+1)=3):=c4
    refine .sched [] (upto [] 25 0) (by kernel_rfl) ?_
    refine aa 0 ?_
    refine aa 0 ?_
    refine aa 0 ?_
    refine eY.mk M.hC ?_
    refine M.aCasB [_] hf (fun m' hm hb=>?_) (fun m' hm hb=>?_)
    ·refine ag 0 ?_
     refine aa 0 ?_
     refine aa 0 ?_
     refine ag 0 ?_
     refine .fwd 1 ?_
     refine ag 0 ?_
     exact .done (kF (x:= { q with at_:=q.at_+1,ok:=true,n:=q.x,ended:=true }) (by unfold fx wr wu;(repeat' split) <;> first | rfl | omega | simp_all) hm (by rw[hw];rfl))
    ·refine ag 0 ?_
     refine aa 0 ?_
     refine .fwd 1 ?_
     refine ag 0 ?_
     exact .done (kF (x:= { q with at_:=q.at_+1,ok:=false,ended:=true }) (by unfold fx wr wu;(repeat' split) <;> first | rfl | omega | simp_all) hm (by rw[hw];rfl))
theorem aay(p q:Nat)(ws:List Int)(b c:Int)(σ:Hp):ACalls Tryz.prog 161 [.agg [.int .i64 b,.int .i64 c],kp p] (bD p q ws σ) (aD (.tup []) (bD p q (fy (fy ws b 1) (bY b) 1) σ)):=by
 refine au Tryz.func161 ?_
 intro aB
 refine ar [] (dF _ _ _) ?_
 refine aa 0 ?_
 refine InvAt.mk _ mStore_ ?_
 refine ar [2,2] (aStore p q _ _ _ _) ?_
 refine .sched [2] (upto [2] 7 0) (by kernel_rfl) ?_
 refine aa 2 ?_
 refine aK [] (sn _ _ _) ?_
 refine eY.mk hStore_ ?_
 refine InvAt.mk _ mStore_ ?_
 refine ar [] (aStore p q _ _ _ _) ?_
 exact .drop 2 1 (.done ⟨rfl,rfl⟩)
set_option maxHeartbeats 4000000
theorem yW{ws:List Int}(h:bX ws)(a:Int):bP (bV ws a):=by
 unfold bV
 split
 ·exact⟨by decide,by decide⟩
 ·rw[bO]
  cases hq:ws[a.toNat]? with
  |none=>exact⟨by decide,by decide⟩
  |some x=>exact h x (dm hq)
theorem Mr(a:List Int)(i:Nat)(σ:Hp):ACalls Tryz.prog 213 [.af (.int .u64) a,.int .i64 i] σ (aD (.int .u64 (wd a i)) σ):=by
 refine au Tryz.func213 ?_
 refine aj (fun h=>?_) (fun h=>?_)
 ·have h:(a.length:Int)≤i:=h
  exact .done ⟨aR (by simp[wd,List.getElem?_eq_none (show a.length≤i by omega)]),rfl⟩
 ·have h:¬(a.length:Int)≤i:=h
  have hi:i<a.length:=by omega
  refine aw.mk rfl (aX.mk a[i] (by omega) (get_some hi) ?_)
  exact .done ⟨aR (by simp[wd,hi]),rfl⟩
def cw(n:Int):Nat:=(min (max n 0) 1024).toNat
theorem vN(n:Int):cw n≤1024:=by unfold cw;omega
theorem Rs(n:Int):(if (1024:Int)<(if n<0 then 0 else n) then (1024:Int) else (if n<0 then 0 else n))=((cw n:Nat):Int):=by
 unfold cw
 by_cases h:n<0
 ·simp only[az h];omega
 ·simp only[aA h];split <;> omega
theorem nD(b w n:Int)(σ:Hp):ACalls Tryz.prog 163 [.agg [.int .i64 b,.int .i64 w,.int .i64 n]] σ (aD (.int .i64 (cw n)) σ):=by
 refine au Tryz.func163 ?_
 intro aB
 refine aa 0 ?_
 exact .drop 0 1 (.done ⟨aR (Rs n),rfl⟩)
structure Jn where
 base:Int
 ai:Int
 words:Int
 a:List Int
 changed:Bool
 ended:Bool
 tries:Int
 at_:Nat
 eV:Bool
 x:Int
def xZ(j:Jn):List AV:=[.int .i64 j.base,.int .i64 j.ai,.int .i64 j.words,.af (.int .u64) j.a,.bool j.changed,.bool j.ended,.int .i64 j.tries,.int .i64 j.at_,.bool j.eV,.int .u64 j.x]
def oG(j:Jn):Jn×Bool:=if j.at_+1<cw j.words then ({ j with at_:=j.at_+1 },false) else ({ j with at_:=j.at_+1,ended:=true },true)
def fo(O:jz)(j:Jn)(a:O.A):Jn×O.A×Bool:=
 if j.ended then (j,a,true)
 else if j.at_=cw j.words then ({ j with ended:=true },a,true)
 else if j.eV then
  (if (O.cs a (wr (j.base+j.at_)) j.x (eW j.ai j.x (wd j.a j.at_))).1 then ((oG { j with eV:=false,changed:=true }).1,(O.cs a (wr (j.base+j.at_)) j.x (eW j.ai j.x (wd j.a j.at_))).2,(oG { j with eV:=false,changed:=true }).2)
  else ({ j with eV:=false,tries:=wr (j.tries+1) },(O.cs a (wr (j.base+j.at_)) j.x (eW j.ai j.x (wd j.a j.at_))).2,false))
 else if eW j.ai (O.ld a (wr (j.base+j.at_))).1 (wd j.a j.at_)=(O.ld a (wr (j.base+j.at_))).1 then ((oG { j with x:=(O.ld a (wr (j.base+j.at_))).1 }).1,(O.ld a (wr (j.base+j.at_))).2,(oG { j with x:=(O.ld a (wr (j.base+j.at_))).1 }).2)
 else ({ j with x:=(O.ld a (wr (j.base+j.at_))).1,eV:=true },(O.ld a (wr (j.base+j.at_))).2,false)
theorem E1{M:AMem}{σ:Hp}{X:Type}{B:X→List AV}{r:Nat}{res:X×M.O.A×Bool}{x:X}{a:M.O.A}{b:Bool}{m':M.S}{cs:List AV}(h:res=(x,a,b))(hm:M.abs m'=a)(hc:cs=B x):pF M σ B r res (.bool b) ((r,cs)::(M.B m'++σ)):=by
 subst hc
 exact j8 h hm
theorem FD(M:AMem)(r:Nat)(j:Jn)(m:M.S)(d:Int)(σ:Hp)(hf:M.O.free (M.abs m))(eP:j.at_≤2000):ACalls Tryz.prog 407 [.ptr r 0,M.v,.int .i64 d] ((r,xZ j)::(M.B m++σ)) (pF M σ xZ r (fo M.O j (M.abs m))):=by
 refine au Tryz.func407 ?_
 have hw:IntKind.i64.wrap ((j.at_:Int)+1)=((j.at_+1:Nat):Int):=by rw[IntKind.wrap_i64];omega
 refine eH.ij 0 _ _ rfl rfl (fun h0=>?_) (fun h0=>?_)
 ·exact .done (j8 (x:=j) (by simp[fo,h0]) rfl)
 refine ar [] (dF _ _ _) ?_
 refine .quiet (by kernel_rfl) ?_
 refine aa 0 ?_
 refine aa 0 ?_
 refine aK [] (nD _ _ _ _) ?_
 refine aj (fun c1=>?_) (fun c1=>?_)
 ·have c1:(j.at_:Int)=cw j.words:=c1
  have c1:j.at_=cw j.words:=by omega
  refine .fwd 1 ?_
  refine ag 0 ?_
  exact .done (j8 (x:= { j with ended:=true }) (by simp[fo,h0,c1]) rfl)
 ·have c1:¬(j.at_:Int)=cw j.words:=c1
  have c1:¬j.at_=cw j.words:=by omega
  refine eH.ij 0 _ _ rfl rfl (fun c2=>?_) (fun c2=>?_)
  ·refine ag 0 ?_
   refine .sched [36,37] (upto [36,37] 43 0) (by kernel_rfl) ?_
   refine aa 0 ?_
   refine aa 0 ?_
   refine aa 0 ?_
   refine aa 0 ?_
   refine aa 0 ?_
   refine aa 0 ?_
   refine aa 0 ?_
   refine aK [] (Mr _ _ _) ?_
   refine aK [] (Su _ _ _ _) ?_
   refine eY.mk M.hC ?_
   refine M.aCasB [_] hf (fun m' hm hb=>?_) (fun m' hm hb=>?_)
   ·refine ag 0 ?_
    refine .fwd 1 ?_
    refine aa 0 ?_
    refine ag 0 ?_
    refine .quiet (by kernel_rfl) ?_
    refine aa 0 ?_
    refine aa 0 ?_
    refine aK [] (nD _ _ _ _) ?_
    refine aj (fun c3=>?_) (fun c3=>?_)
    ·have c3:IntKind.i64.wrap (↑j.at_+1) < ↑(cw j.words):=c3
     exact .done (E1 (x:= { j with eV:=false,changed:=true,at_:=j.at_+1 }) (by simp[fo,h0,c1,c2,hb,oG,show j.at_+1<cw j.words by omega]) hm (by rw[hw];rfl))
    ·have c3:¬(IntKind.i64.wrap (↑j.at_+1) < ↑(cw j.words)):=c3
     refine ag 0 ?_
     exact .done (E1 (x:= { j with eV:=false,changed:=true,at_:=j.at_+1,ended:=true }) (by simp[fo,h0,c1,c2,hb,oG,show ¬j.at_+1<cw j.words by omega]) hm (by rw[hw];rfl))
   ·refine aa 0 ?_
    refine ag 0 ?_
    exact .done (j8 (x:= { j with eV:=false,tries:=wr (j.tries+1) }) (by simp[fo,h0,c1,c2,hb]) hm)
  ·refine .sched [] (upto [] 21 0) (by kernel_rfl) ?_
   refine aa 0 ?_
   refine aa 0 ?_
   refine eY.mk M.hL ?_
   refine M.aLoad [_] hf fun m' hm=>?_
   refine ag 0 ?_
   refine .quiet (by kernel_rfl) ?_
   refine aa 0 ?_
   refine aa 0 ?_
   refine aa 0 ?_
   refine aa 0 ?_
   refine aK [] (Mr _ _ _) ?_
   refine aK [] (Su _ _ _ _) ?_
   refine aa 0 ?_
   refine cQ (fun c4=>?_) (fun c4=>?_)
   ·have c4:¬(eW j.ai (M.O.ld (M.abs m) (IntKind.i64.wrap (j.base + ↑j.at_))).fst (wd j.a j.at_)=(M.O.ld (M.abs m) (IntKind.i64.wrap (j.base + ↑j.at_))).fst):=by simpa using c4
    refine ag 0 ?_
    exact .done (j8 (x:= { j with x:=(M.O.ld (M.abs m) (wr (j.base+j.at_))).1,eV:=true }) (by simp[fo,h0,c1,c2,c4]) hm)
   ·have c4:eW j.ai (M.O.ld (M.abs m) (IntKind.i64.wrap (j.base + ↑j.at_))).fst (wd j.a j.at_)=(M.O.ld (M.abs m) (IntKind.i64.wrap (j.base + ↑j.at_))).fst:=by simpa using c4
    refine aa 0 ?_
    refine ag 0 ?_
    refine .quiet (by kernel_rfl) ?_
    refine aa 0 ?_
    refine aa 0 ?_
    refine aK [] (nD _ _ _ _) ?_
    refine aj (fun c5=>?_) (fun c5=>?_)
    ·have c5:IntKind.i64.wrap (↑j.at_+1) < ↑(cw j.words):=c5
     exact .done (E1 (x:= { j with x:=(M.O.ld (M.abs m) (wr (j.base+j.at_))).1,at_:=j.at_+1 }) (by simp[fo,h0,c1,c2,c4,oG,show j.at_+1<cw j.words by omega]) hm (by rw[hw];rfl))
    ·have c5:¬(IntKind.i64.wrap (↑j.at_+1) < ↑(cw j.words)):=c5
     refine ag 0 ?_
     exact .done (E1 (x:= { j with x:=(M.O.ld (M.abs m) (wr (j.base+j.at_))).1,at_:=j.at_+1,ended:=true }) (by simp[fo,h0,c1,c2,c4,oG,show ¬j.at_+1<cw j.words by omega]) hm (by rw[hw];rfl))
def zA(base:Int)(a:List Int)(ws:List Int):Nat→List Int
 | 0=>ws
 |k+1=>fy (zA base a ws k) (wr (base+k)) (wd a k)
theorem aev(p q:Nat)(ws:List Int)(b w n:Int)(a:List Int)(σ:Hp):ACalls Tryz.prog 159 [.agg [.int .i64 b,.int .i64 w,.int .i64 n],kp p,.af (.int .u64) a] (bD p q ws σ) (aD (.tup []) (bD p q (zA b a ws (cw n)) σ)):=by
 have hc:=vN n
 refine au Tryz.func159 ?_
 intro aB
 refine ar [] (dF _ _ _) ?_
 refine aa 0 ?_
 refine ar [] (nD _ _ _ _) ?_
 refine bh (S:=Nat) (fun s=>[(1,kp p),(2,.af (.int .u64) a),(3,.ptr aB 0),(10,.int .i64 (cw n)),(11,.int .i64 s)]) (fun s=>(aB,[.int .i64 b,.int .i64 w,.int .i64 n])::bD p q (zA b a ws s) σ) (fun s=>s≤cw n) (fun s=>cw n-s) 0 ⟨aY _,⟨rfl,rfl,rfl,rfl,rfl,trivial⟩,rfl⟩ ?_
 intro k g hk
 refine aj (fun h=>?_) (fun h=>?_)
 ·have h:(k:Int)<cw n:=h
  refine .sched [7] (upto [7] 12 0) (by kernel_rfl) ?_
  refine aa 0 ?_
  refine aK [] (Mr _ _ _) ?_
  refine eY.mk hStore_ ?_
  refine InvAt.mk _ mStore_ ?_
  refine ar [2,2] (aStore p q _ _ _ _) ?_
  refine aM (k+1) ?_ ?_ ⟨rfl,rfl,rfl,rfl,aL (by omega),trivial⟩ (.pull [2] (aN rfl))
  ·show cw n-(k+1)<cw n-k;omega
  ·show k+1≤cw n;omega
 ·have h:¬(k:Int)<cw n:=h
  obtain rfl:k=cw n:=by omega
  exact .drop 0 1 (.done ⟨rfl,rfl⟩)
def ki(base:Int)(ws:List Int)(k:Nat):List Int:=(List.range k).map fun i=>bV ws (wr (base+(i:Nat)))
theorem MW(base:Int)(ws:List Int)(k:Nat):(ki base ws k).length=k:=by unfold ki;rw[cm,kx]
theorem Oo(base:Int)(ws:List Int)(k:Nat):ki base ws (k+1)=ki base ws k++[bV ws (wr (base+k))]:=by unfold ki;rw[qe,cC];rfl
theorem aez(p q:Nat)(ws:List Int)(b w n:Int)(σ:Hp):ACalls Tryz.prog 107 [.agg [.int .i64 b,.int .i64 w,.int .i64 n],kp p] (bD p q ws σ) (aD (.af (.int .u64) (ki b ws (cw n))) (bD p q ws σ)):=by
 have hc:=vN n
 refine au Tryz.func107 ?_
 intro aB
 refine ar [] (dF _ _ _) ?_
 refine aa 0 ?_
 refine ar [] (nD _ _ _ _) ?_
 refine .wrap 5 _ rfl rfl ?_
 refine bh (S:=Nat×AV×Hp) (fun s=>[(1,kp p),(2,.ptr aB 0),(5,.via s.2.1),(10,.int .i64 (cw n)),(11,.int .i64 s.1)]) (fun s=>(aB,[.int .i64 b,.int .i64 w,.int .i64 n])::(s.2.2++bD p q ws σ)) (fun s=>s.1≤cw n∧Acc 1 s.1 s.2.1 s.2.2 (aP (ki b ws s.1))) (fun s=>cw n-s.1) (0,.ak,[]) ⟨⟨aY _,.nil⟩,⟨rfl,rfl,rfl,rfl,rfl,trivial⟩,rfl⟩ ?_
 rintro⟨k,v,acc⟩ g ⟨hk,bS⟩
 have hk:k≤cw n:=hk
 have bS:Acc 1 k v acc (aP (ki b ws k)):=bS
 refine aj (fun h=>?_) (fun h=>?_)
 ·have h:(k:Int)<cw n:=h
  refine aa 0 ?_
  refine InvAt.mk _ mLoad_ ?_
  refine .perm (σ2:=bD p q ws ((aB,[.int .i64 b,.int .i64 w,.int .i64 n])::(acc++σ))) _ ?_ (aLoad p q ws _ _) ?_
  ·exact ez ((aB,[.int .i64 b,.int .i64 w,.int .i64 n])::acc) [_,_] σ
  rintro _ _ ⟨rfl,rfl⟩
  refine⟨_,(ez ((aB,[.int .i64 b,.int .i64 w,.int .i64 n])::acc) [_,_] σ).symm,?_⟩
  intro cE
  refine eU [_,_] bS (.ah 0 cE 0 1 _ rfl (cp rfl)) rfl (by omega) (by decide) (by decide) (fun v' aU h'=>?_)
  refine aM (k+1,v',aU) ?_ ⟨?_,?_⟩ ⟨rfl,rfl,rfl,rfl,aL (by omega),trivial⟩ (.drop 0 1 (aN rfl))
  ·show cw n-(k+1)<cw n-k;omega
  ·show k+1≤cw n;omega
  ·show Acc 1 (k+1) v' aU (aP (ki b ws (k+1)))
   rw[Oo,aP,cC]
   exact h'
 ·have h:¬(k:Int)<cw n:=h
  obtain rfl:k=cw n:=by omega
  refine .drop 0 1 ?_
  exact kZ (s:=.int .u64) (l:=ki b ws (cw n)) [] bS (MW b ws _).symm (by rw[jK]) (by decide) (.done ⟨rfl,rfl⟩)
def kb(v:AV)(base ai words:Int)(ended:Bool)(at_:Nat)(eV:Bool)(x:Int):List AV:=[.int .i64 base,.int .i64 ai,.int .i64 words,v,.bool ended,.int .i64 at_,.bool eV,.int .u64 x]
inductive kA:AV→Hp→List Int→Prop where
 |nil:kA .ak [] []
 |ah (b:Nat) (l:List Int):kA (.ah b 0 l.length 1) [(b,aP l)] l
theorem kA.push(b:Nat)(l:List Int)(x:Int):kA (.ah b 0 (l.length+1) 1) [(b,(aP l).take (l.length*1)++[.int .u64 x])] (l++[x]):=by
 have h:=kA.ah b (l++[x])
 have e1:(l++[x]).length=l.length+1:=by simp
 have e2:aP (l++[x])=(aP l).take (l.length*1)++[.int .u64 x]:=by rw[List.take_of_length_le (by simp[aP])];simp[aP]
 rw[e1,e2]at h
 exact h
theorem Xm(σ:Hp):ACalls Tryz.prog 256 [.ak] σ (aD .ak σ):=by
 refine au Tryz.func256 ?_
 exact .done ⟨rfl,rfl⟩
theorem A4(b k:Nat)(cs:List AV)(σ:Hp)(hm:(b,cs)∈σ)(h:cs.length=k*1)(hl:k≤1000000):ACalls Tryz.prog 256 [.ah b 0 k 1] σ (fun x σ'=>∃b',x=.ah b' 0 k 1∧σ'=(b',cs)::σ):=by
 refine au Tryz.func256 ?_
 intro b2
 refine AppendAt.more 0 b2 0 k [] ((cs.drop 0).take (k*1)) rfl rfl (cp rfl) (.mem (dy _ hm) (by show 0+k*1≤cs.length;omega)) (by omega) (by decide) (by decide) (fun b'=>?_)
 refine .done ⟨b',by rw[dU];rfl,?_⟩
 show (b',List.take (0*1) []++(cs.drop 0).take (k*1))::σ=_
 rw[show (cs.drop 0).take (k*1)=cs by rw[fG,dN (by omega)]];rfl
structure Lay where
 ai:Int
 words:Int
 n:Int
 k:Int
def cU(l:Lay):List AV:=[.int .i64 l.ai,.int .i64 l.words,.int .i64 l.n,.int .i64 l.k]
def de(l:Lay):Int:=wr (l.n*l.words)
def da(l:Lay):Int:=wr (de l+l.n)
def fB(l:Lay):Int:=wr (l.n+1)
def dY(l:Lay)(w:Int):Int:=wr (wr (da l+1)+wr (w*((2+rm (fB l):Nat):Int)))
def df(l:Lay)(v:Int):Int:=wr (v*l.words)
def gH(s:Sy)(k:Int):Lay:=⟨pR (cO s k) s.ai,pR (cO s k) (ej s.ai s.w),pR (cO s k) s.n,pR (cO s k) k⟩
theorem aae(n:Int)(σ:Hp):ACalls Tryz.prog 87 [.int .i64 n] σ (aD (.int .i64 ((2+rm n:Nat):Int)) σ):=by
 have h:=Fk n
 refine au Tryz.func87 ?_
 refine ar [] (JP _ _) ?_
 exact .done ⟨aR (by rw[IntKind.wrap_i64];omega),rfl⟩
theorem RL(l:Lay)(σ:Hp):ACalls Tryz.prog 108 [.agg (cU l)] σ (aD (.int .i64 (de l)) σ):=by
 refine au Tryz.func108 ?_
 intro aB
 refine aa 0 ?_
 refine aa 0 ?_
 exact .drop 0 1 (.done ⟨rfl,rfl⟩)
theorem QP(l:Lay)(σ:Hp):ACalls Tryz.prog 109 [.agg (cU l)] σ (aD (.int .i64 (da l)) σ):=by
 refine au Tryz.func109 ?_
 intro aB
 refine .quiet (by kernel_rfl) ?_
 refine aa 0 ?_
 refine aK [] (RL l _) ?_
 refine aa 0 ?_
 exact .drop 0 1 (.done ⟨rfl,rfl⟩)
theorem Jl(l:Lay)(σ:Hp):ACalls Tryz.prog 88 [.agg (cU l)] σ (aD (.int .i64 (fB l)) σ):=by
 refine au Tryz.func88 ?_
 intro aB
 refine aa 0 ?_
 exact .drop 0 1 (.done ⟨rfl,rfl⟩)
theorem xr(l:Lay)(w:Int)(σ:Hp):ACalls Tryz.prog 52 [.agg (cU l),.int .i64 w] σ (aD (.agg [.int .i64 (dY l w),.int .i64 (fB l)]) σ):=by
 refine au Tryz.func52 ?_
 intro aB
 intro cE
 refine .sched [1,5,6,10] (upto [1,5,6,10] 13 0) (by kernel_rfl) ?_
 refine aa 1 ?_
 refine aK [] (QP l _) ?_
 refine aa 1 ?_
 refine aK [] (Jl l _) ?_
 refine aK [] (aae _ _) ?_
 refine aa 1 ?_
 refine aK [] (Jl l _) ?_
 refine ag 0 ?_
 refine aa 0 ?_
 exact .drop 0 2 (.done ⟨rfl,rfl⟩)
theorem yZ(l:Lay)(σ:Hp):ACalls Tryz.prog 45 [.agg (cU l)] σ (aD (.agg [.int .i64 (de l),.int .i64 (da l)]) σ):=by
 refine au Tryz.func45 ?_
 intro aB
 intro cE
 refine .sched [1,3] (upto [1,3] 6 0) (by kernel_rfl) ?_
 refine aa 1 ?_
 refine aK [] (RL l _) ?_
 refine aa 1 ?_
 refine aK [] (QP l _) ?_
 refine ag 0 ?_
 refine aa 0 ?_
 exact .drop 0 2 (.done ⟨rfl,rfl⟩)
theorem Fc(l:Lay)(v:Int)(σ:Hp):ACalls Tryz.prog 106 [.agg (cU l),.int .i64 v] σ (aD (.agg [.int .i64 (df l v),.int .i64 l.ai,.int .i64 l.words]) σ):=by
 refine au Tryz.func106 ?_
 intro aB
 intro cE
 refine aa 1 ?_
 refine aa 1 ?_
 refine aa 1 ?_
 refine ag 0 ?_
 refine aa 0 ?_
 exact .drop 0 2 (.done ⟨rfl,rfl⟩)
theorem RI(l:Lay)(σ:Hp):ACalls Tryz.prog 96 [.agg (cU l)] σ (aD (.int .i64 (dY l l.k)) σ):=by
 refine au Tryz.func96 ?_
 intro aB
 refine aa 0 ?_
 refine aa 0 ?_
 refine ar [] (xr l _ _) ?_
 exact .drop 0 1 (.done ⟨rfl,rfl⟩)
theorem Fb(s:Sy)(k:Int)(σ:Hp)(hf:Fit s):ACalls Tryz.prog 37 [.agg (a7 s),.int .i64 k] σ (aD (.tup [.agg (cU (gH s k)),.int .i64 (cO s k)]) σ):=by
 refine au Tryz.func37 ?_
 intro aB
 intro cE
 refine aa 1 ?_
 refine ar [] (OH s _ hf) ?_
 refine cQ (fun c3=>?_) (fun c3=>?_)
 ·have c3:¬(eG s=0):=by simpa using c3
  refine ag 0 ?_
  refine aa 0 ?_
  exact .drop 0 2 (.done ⟨Ph (by assumption),rfl⟩)
 ·have c3:eG s=0:=by simpa using c3
  refine aj (fun c4=>?_) (fun c4=>?_)
  ·have c4:k<1:=c4
   refine ag 0 ?_
   refine aa 0 ?_
   exact .drop 0 2 (.done ⟨El (by assumption) (by omega),rfl⟩)
  ·have c4:¬(k<1):=c4
   refine aj (fun c5=>?_) (fun c5=>?_)
   ·have c5:64<k:=c5
    refine ag 0 ?_
    refine aa 0 ?_
    exact .drop 0 2 (.done ⟨El (by assumption) (by omega),rfl⟩)
   ·have c5:¬(64<k):=c5
    refine .sched [6] (upto [6] 13 0) (by kernel_rfl) ?_
    refine aa 1 ?_
    refine aa 1 ?_
    refine aa 1 ?_
    refine aK [] (ET _ _ _) ?_
    refine aa 1 ?_
    refine ag 0 ?_
    refine aa 0 ?_
    exact .drop 0 2 (.done ⟨Qp (by assumption) (by omega),rfl⟩)
inductive Nw where
 |none
 |pop (q:DQ)
 |dO (q:DQ)
 |quiet (t:Qk)
 |clear (t:Ck)
 |read (l:List Int)
 |join (j:Jn)
 |take (t:Tk)
 |push (q:DQ)
 |fU (t:Rk)
structure WS where
 ev:Int
 jo:Int
 en:Bool
 ae:Int
 now:Nw
 node:Int
 has:Bool
 nx:List Int
 out:List Int
abbrev dP(s:Sy)(l:Lay)(who ev jo:Int)(en:Bool)(ae:Int)(nv:AV)(node:Int)(has:Bool)(nx out:List Int):List AV:=
 [.int .i64 ev,.int .i64 jo,.bool en,.int .i64 s.ai,.int .i64 s.w,.int .i64 s.n,.af cb s.cI,.af (.int .i64) s.entry,.af (.int .u64) s.init,.af jL s.T,.int .i64 l.ai,.int .i64 l.words,.int .i64 l.n,.int .i64 l.k,.int .i64 who,.int .i64 ae,nv,.int .i64 node,.bool has,.af (.int .i64) nx,.af (.int .u64) out,.bool true]
theorem Jo(w:Nat)(s:Sy)(l:Lay)(who ev jo:Int)(en:Bool)(ae:Int)(nv:AV)(node:Int)(has:Bool)(nx out:List Int)(σ:Hp):ACalls Tryz.prog 396 [.ptr w 0] ((w,dP s l who ev jo en ae nv node has nx out)::σ) (aD (.bool (decide (l.k<2))) ((w,dP s l who ev jo en ae nv node has nx out)::σ)):=by
 refine au Tryz.func396 ?_
 refine aa 0 ?_
 refine aj (fun c1=>?_) (fun c1=>?_)
 ·have c1:l.k<2:=c1
  exact .done ⟨cd (bj (by assumption)).symm,rfl⟩
 ·have c1:¬(l.k<2):=c1
  exact .done ⟨cd (cy (by assumption)).symm,rfl⟩
def nK(l:Lay):Int:=wr (l.k-1)
def vz(l:Lay)(who d:Int):Int:=(wr (wr (who+1)+(wr (d.tmod (nK l)+nK l)).tmod (nK l))).tmod l.k
theorem aaj(w:Nat)(s:Sy)(l:Lay)(who ev jo:Int)(en:Bool)(ae:Int)(nv:AV)(node:Int)(has:Bool)(nx out:List Int)(d:Int)(σ:Hp)(h1:nK l≠0)(h2:l.k≠0):ACalls Tryz.prog 393 [.ptr w 0,.int .i64 d] ((w,dP s l who ev jo en ae nv node has nx out)::σ) (aD (.int .i64 (vz l who d)) ((w,dP s l who ev jo en ae nv node has nx out)::σ)):=by
 refine au Tryz.func393 ?_
 refine aa 0 ?_
 refine .quiet (by kernel_rfl) ?_
 refine aa 0 ?_
 refine aw.mk h1 ?_
 refine aw.mk h1 ?_
 refine aa 0 ?_
 refine aw.mk h2 ?_
 exact .done ⟨rfl,rfl⟩
def iR(l:Lay)(n:Int):Int:=if wu l.n≤n then 0 else wr n
def jM(l:Lay)(n:Int):Int:=if wu l.n≤n then 8 else 3
theorem Tg(w:Nat)(s:Sy)(l:Lay)(who ev jo:Int)(en:Bool)(ae:Int)(nv:AV)(node:Int)(has:Bool)(nx out:List Int)(n:Int)(σ:Hp):ACalls Tryz.prog 394 [.ptr w 0,.int .u64 n] ((w,dP s l who ev jo en ae nv node has nx out)::σ) (aD (.int .i64 (jM l n)) ((w,dP s l who ev jo en ae nv (iR l n) true nx out)::σ)):=by
 refine au Tryz.func394 ?_
 refine ag 0 ?_
 refine ag 0 ?_
 refine aa 0 ?_
 refine aj (fun c1=>?_) (fun c1=>?_)
 ·have c1:IntKind.u64.wrap l.n≤n:=c1
  exact .done ⟨aR (az c1).symm,congrArg (fun z=>(w,dP s l who ev jo en ae nv z true nx out)::σ) (show _=iR l n from (az c1).symm)⟩
 ·have c1:¬(IntKind.u64.wrap l.n≤n):=c1
  refine ag 0 ?_
  exact .done ⟨aR (aA c1).symm,congrArg (fun z=>(w,dP s l who ev jo en ae nv z true nx out)::σ) (show _=iR l n from (aA c1).symm)⟩
def qm(l:Lay):Int:=if l.k<2 then 2 else 1
theorem ac9(w:Nat)(s:Sy)(l:Lay)(who ev jo:Int)(en:Bool)(ae:Int)(nv:AV)(node:Int)(has:Bool)(nx out:List Int)(σ:Hp):ACalls Tryz.prog 395 [.ptr w 0] ((w,dP s l who ev jo en ae nv node has nx out)::σ) (aD (.int .i64 (qm l)) ((w,dP s l who ev jo en ae nv node has nx out)::σ)):=by
 refine au Tryz.func395 ?_
 refine dr [] (Jo w s l who ev jo en ae nv node has nx out _) (fun c=>?_) (fun c=>?_)
 ·exact .done ⟨aR (az (fk c)).symm,rfl⟩
 ·exact .done ⟨aR (aA (pc c)).symm,rfl⟩
def jq(nx:List Int):Int:=if nx.tail.length=0 then 8 else 5
theorem I1(w:Nat)(s:Sy)(l:Lay)(who ev jo:Int)(en:Bool)(ae:Int)(nv:AV)(node:Int)(has:Bool)(nx out:List Int)(σ:Hp)(hx:0<nx.length):ACalls Tryz.prog 398 [.ptr w 0] ((w,dP s l who ev jo en ae nv node has nx out)::σ) (aD (.int .i64 (jq nx)) ((w,dP s l who ev jo en ae nv node has nx.tail out)::σ)):=by
 refine au Tryz.func398 ?_
 cases nx with
 |nil=>simp at hx
 |cons z nx=>
  refine aa 0 ?_
  refine aw.mk ⟨by decide,Int.ofNat_le.2 (Nat.succ_le_succ (aY _)),dA _,rfl⟩ ?_
  have e:((z::nx).drop ((1:Int)).toNat).take ((((z::nx).length:Nat):Int).toNat-((1:Int)).toNat)=nx:=by simp
  refine ag 0 ?_
  refine aa 0 ?_
  refine aj (fun c1=>?_) (fun c1=>?_)
  ·have c1:(↑(List.take ((↑(z::nx).length:Int).toNat-Int.toNat 1) (List.drop (Int.toNat 1) (z::nx))).length:Int)=0:=c1
   have c2:(nx.length:Int)=0:=(congrArg (fun z:List Int=>(z.length:Int)) e).symm.trans c1
   exact .done ⟨aR (az (show nx.length=0 by omega)).symm,congrArg (fun z=>(w,dP s l who ev jo en ae nv node has z out)::σ) e⟩
  ·have c1:¬((↑(List.take ((↑(z::nx).length:Int).toNat-Int.toNat 1) (List.drop (Int.toNat 1) (z::nx))).length:Int)=0):=c1
   have c2:¬(nx.length:Int)=0:=fun h=>c1 ((congrArg (fun z:List Int=>(z.length:Int)) e).trans h)
   exact .done ⟨aR (aA (show ¬nx.length=0 by omega)).symm,congrArg (fun z=>(w,dP s l who ev jo en ae nv node has z out)::σ) e⟩
def tH(s:Sy)(node:Int):Int:=if (ax s.n s.cI node).length=0 then 8 else 5
theorem abW(w:Nat)(s:Sy)(l:Lay)(who ev jo:Int)(en:Bool)(ae:Int)(nv:AV)(node:Int)(has:Bool)(nx out x:List Int)(σ:Hp)(hf:Fit s)(hx:bX x)(lx:x.length≤10000):ACalls Tryz.prog 397 [.ptr w 0,.af (.int .u64) x] ((w,dP s l who ev jo en ae nv node has nx out)::σ) (aD (.int .i64 (tH s node)) ((w,dP s l who (wr (ev+1)) jo en ae nv node has (ax s.n s.cI node) (rN (nS s node x) (kJ s x node.toNat)))::σ)):=by
 refine au Tryz.func397 ?_
 refine aa 0 ?_
 refine ag 0 ?_
 refine .sched [10] (upto [10] 17 0) (by kernel_rfl) ?_
 refine aa 0 ?_
 refine aa 0 ?_
 refine aK [] (aan s node x _ hf hx lx) ?_
 refine ag 0 ?_
 refine .sched [15] (upto [15] 19 0) (by kernel_rfl) ?_
 refine aa 0 ?_
 refine aa 0 ?_
 refine aa 0 ?_
 refine aK [] (zu s.n s.cI node _ hf.ub) ?_
 refine ag 0 ?_
 refine aa 0 ?_
 refine aj (fun c1=>?_) (fun c1=>?_)
 ·have c1:(↑(ax s.n s.cI node).length:Int)=0:=c1
  exact .done ⟨aR (az (show (ax s.n s.cI node).length=0 by omega)).symm,rfl⟩
 ·have c1:¬((↑(ax s.n s.cI node).length:Int)=0):=c1
  exact .done ⟨aR (aA (show ¬(ax s.n s.cI node).length=0 by omega)).symm,rfl⟩
end Go.Proofs.YtnikdflhefijbaaGreat
