import Derived.Test.YtnikdflhefijbaaGreatBp9
import Derived.Test.YtnikdflhefijbaaGreatBp7
namespace Go.Proofs.YtnikdflhefijbaaGreat
open Go.RowKit
set_option maxRecDepth 100000
section
variable {F:Nat→Prop} {w:World} {σ:Hp}
theorem aca(h:aX F w σ)(os:Array Obj):bh F w F (Go.Sort.grow w os)∧aX F (Go.Sort.grow w os) σ:=by
 have eD:(Go.Sort.grow w os).heap.size=w.heap.size+os.size:=by simp[Go.Sort.grow]
 have ay:∀b,b<w.heap.size→(Go.Sort.grow w os).heap[b]?=w.heap[b]?:=fun b hb=>by
  show (w.heap++os)[b]?=_
  rw[Kk hb]
 have ao:bh F w F (Go.Sort.grow w os):=⟨rfl,rfl,rfl,by omega,fun _ h=>h,fun b hb=>ay b (h.low b hb),fun b c T fz hc=>⟨c,fz,by
  rw[ay b (Ad.1 hc).1];exact hc,rfl⟩,aM _⟩
 exact⟨ao,h.nodup,fun p hp=>(h.holds p hp).mono ao (ay _ (h.holds p hp).lt) (h.holds p hp).1,fun b hb=>by have:=h.low b hb;omega⟩
theorem mw(zs:List Int):(ak zs).length=zs.length:=by unfold ak;simp
theorem aeb(zs:List Int){i:Nat}{x:AV}(h:(ak zs)[i]?=some x):∃h2:i<zs.length,x=.int .i64 zs[i]:=by
 unfold ak at h
 rw[eU]at h
 cases hz:zs[i]? with
 |none=>rw[hz]at h;cases h
 |some z=>
  rw[hz]at h
  obtain⟨h2,h3⟩:=bQ.1 hz
  exact⟨h2,by cases h;rw[h3]⟩
theorem aee(zs:List Int){i:Nat}(h:i<zs.length):(ak zs)[i]?=some (.int .i64 zs[i]):=by unfold ak;rw[eU,bc h];rfl
theorem Holds.L9{F:Nat→Prop}{w:World}{b:Nat}{cs:List AV}(h:Holds F w b cs)(hn:∀x∈cs,x.leaf=true):¬F b∧DM F w b cs:=by
 obtain⟨hF,h | ⟨x,o,e,_,hx⟩ | ⟨L,t,e,_⟩⟩:=h
 ·exact⟨hF,h⟩
 ·subst e;have:=hn _ (bV ..);rw[GH hx]at this;cases this
 ·subst e;cases hn _ (bV ..)
theorem Tj(zs:List Int):∀x∈ak zs,x.leaf=true:=fun x hx=>by
 obtain⟨z,_,rfl⟩:=cY.1 hx;rfl
theorem Hm{b n:Nat}{zs zs':List Int}(h:aX F w ((b,ak zs)::σ))(hl:zs'.length=zs.length)(os:Array Obj):
  bh F w F (Go.Sort.grow (Go.Sort.putRow (Value.int .i64) (Go.Sort.ahead w n) b 0 zs'.toArray) os)∧aX F (Go.Sort.grow (Go.Sort.putRow (Value.int .i64) (Go.Sort.ahead w n) b 0 zs'.toArray) os) ((b,ak zs')::σ):=by
 obtain⟨hF,c,T,hc,hle,pZ⟩:=(h.holds _ (bV ..)).L9 (Tj zs)
 have hle:(ak zs).length≤c.size:=hle
 rw[mw]at hle
 have hc:w.heap[b]?=some (.cells c T (0,0)):=hc
 have uh:∀k,k<zs'.length→(Go.Sort.putCells (Value.int .i64) 0 zs'.toArray c).getD k undef=Value.int .i64 (zs'.getD k 0):=fun k hk=>by
  have zT:k<c.size:=by omega
  unfold Go.Sort.putCells
  rw[gW,Array.getElem?_mapIdx,qa zT]
  simp only[JS,FO]
  rw[if_pos ⟨Nat.zero_le _,by simpa using hk⟩,Nat.sub_zero,List.getD_eq_getElem?_getD,List.getElem?_eq_getElem hk]
  simp[hk]
 have key:=Aw (F:=F) (w:=w) (w':=Go.Sort.putRow (Value.int .i64) (Go.Sort.ahead w n) b 0 zs'.toArray) h (j:=0) (b:=b) (cs:=ak zs) (cs':=ak zs') rfl hc (c':=Go.Sort.putCells (Value.int .i64) 0 zs'.toArray c) (by simp[Go.Sort.putCells]) (by rw[mw];simp[Go.Sort.putCells];omega)
  (fun i x hx=>by
   obtain⟨h2,rfl⟩:=aeb zs' hx
   refine⟨rfl,?_⟩
   rw[uh i h2,aR,bc h2]
   exact .int _ _)
  (fun k hk=>by
   show (w.heap.modify b _)[k]?=_
   rw[J8,ah (fun e=>hk e.symm)])
  (by
   show (w.heap.modify b _)[b]?=_
   rw[J8,ag rfl,hc];rfl)
  rfl rfl rfl (by simp[Go.Sort.ahead])
 obtain⟨k1,k2⟩:=key
 obtain⟨g1,g2⟩:=aca k2 os
 exact⟨k1.trans g1,g2⟩
theorem LF{b:Nat}{zs:List Int}(h:aX F w ((b,ak zs)::σ)):Go.Sort.Holds (Value.int .i64) w b 0 zs.toArray∧b<w.heap.size:=by
 obtain⟨hF,c,T,hc,hle,pZ⟩:=(h.holds _ (bV ..)).L9 (Tj zs)
 have hc:w.heap[b]?=some (.cells c T (0,0)):=hc
 have hle:(ak zs).length≤c.size:=hle
 rw[mw]at hle
 refine⟨fun j hj=>?_,(Ad.1 hc).1⟩
 have hj:j<zs.length:=by simpa using hj
 have hr:=(pZ j _ (aee zs hj)).2.gu
 rw[dK]
 constructor
 ·rw[HA hc,qa (by omega)]
  rw[gW,qa (by omega)]at hr
  simp only[FO]at hr
  rw[hr]
  simp[hj]
 ·unfold World.frozen?
  simp[hc]
end
theorem Yi(l:List Int):(Go.Lib.compact l).length≤l.length:=by
 unfold Go.Lib.compact Go.Lib.compactUpTo
 rw[cb]
 exact Nat.le_trans (List.length_filter_le _ _) (by simp)
def fD(zs:List Int):List Int:=zs.mergeSort fun x y=>decide (x≤y)
theorem Am(zs:List Int):(fD zs).length=zs.length:=Pe ..
theorem Mf:∀{l m:List Int},l.Pairwise (· < ·)→m.Pairwise (· < ·)→(∀x,x∈l↔x∈m)→l=m
 | [],[],_,_,_=>rfl
 | [],y::m,_,_,h=>absurd ((h y).2 (bV ..)) wQ
 |x::l,[],_,_,h=>absurd ((h x).1 (bV ..)) wQ
 |x::l,y::m,hl,hm,h=>by
  have h1:=ta.1 hl
  have h2:=ta.1 hm
  have aN:x=y:=by
   have a:=(h x).1 (bV ..)
   have b:=(h y).2 (bV ..)
   rcases da.1 a with a | a
   ·exact a
   ·rcases da.1 b with b | b
    ·exact b.symm
    ·have:=h1.1 y b;have:=h2.1 x a;omega
  subst aN
  refine congrArg (x :: ·) (Mf h1.2 h2.2 fun z=>⟨fun hz=>?_,fun hz=>?_⟩)
  ·rcases da.1 ((h z).1 (cE _ hz)) with e | e
   ·subst e;have:=h1.1 z hz;omega
   ·exact e
  ·rcases da.1 ((h z).2 (cE _ hz)) with e | e
   ·subst e;have:=h2.1 z hz;omega
   ·exact e
theorem PQ(zs:List Int):(fD zs).Pairwise (·≤·):=by
 have:=List.pairwise_mergeSort (le:=fun x y:Int=>decide (x≤y)) (fun a b c h1 h2=>by simp at *;omega) (fun a b=>by simp;omega) zs
 exact this.imp fun h=>by simpa using h
theorem Ro(zs:List Int)(x:Int):x∈fD zs↔x∈zs:=List.mem_mergeSort
theorem QB{l:List Int}(h:l.Pairwise (·≤·)){i j:Nat}(eQ:i≤j)(hj:j<l.length):l[i]'(by omega)≤l[j]:=by
 by_cases e:i=j
 ·subst e;exact lf _
 ·exact FZ.1 h i j (by omega) hj (by omega)
def zr(zs:List Int):List Int:=Go.Lib.compact (fD zs)
theorem Yj{l:List Int}(h:l.Pairwise (·≤·)):(Go.Lib.compact l).Pairwise (· < ·):=by
 unfold Go.Lib.compact Go.Lib.compactUpTo
 rw[uP]
 have hr:((List.range l.length).filter (Go.Lib.keeps l.toArray)).Pairwise fun i j=>i<j∧j<l.length∧Go.Lib.keeps l.toArray j=true:=by
  have h1:(List.range l.length).Pairwise fun i j=>i<j∧j<l.length:=by
   rw[FZ]
   intro i j hi hj eQ
   simp only[J4]
   exact⟨eQ,by simpa using hj⟩
  rw[List.pairwise_filter]
  exact h1.imp fun eQ _ hk=>⟨eQ.1,eQ.2,hk⟩
 refine hr.imp fun {i j} ⟨h1,h2,h3⟩=>?_
 have hk:l.toArray[j]!≠l.toArray[j-1]!:=by
  unfold Go.Lib.keeps at h3
  simp only[decide_eq_true_eq]at h3
  rcases h3 with h3 | h3
  ·omega
  ·exact h3
 have e1:l.toArray[j]! = l[j]:=by simp[h2]
 have e2:l.toArray[j-1]! = l[j-1]'(by omega):=by simp[show j-1<l.length by omega]
 have e3:l.toArray[i]! = l[i]'(by omega):=by simp[show i<l.length by omega]
 rw[e1,e2]at hk
 rw[e1,e3]
 have q1:=QB h (i:=i) (j:=j-1) (by omega) (by omega)
 have q2:=QB h (i:=j-1) (j:=j) (by omega) h2
 omega
theorem Qi{l:List Int}(x:Int):x∈Go.Lib.compact l↔x∈l:=by
 unfold Go.Lib.compact Go.Lib.compactUpTo
 constructor
 ·intro hx
  obtain⟨j,hj,rfl⟩:=cY.1 hx
  have hj:=fA.1 (ki.1 hj).1
  have e1:l.toArray[j]! = l[j]:=by simp[hj]
  rw[e1];exact cD hj
 ·intro hx
  have hex:∃j,∃h:j<l.length,l[j]=x:=by
   obtain⟨j,hj,e⟩:=wW.1 hx
   exact⟨j,hj,e⟩
  obtain⟨j,⟨hj,e⟩,iL⟩:∃j,(∃h:j<l.length,l[j]=x)∧∀k,k<j→¬∃h:k<l.length,l[k]=x:=by
   obtain⟨j,hj⟩:=hex
   induction j using Nat.strongRecOn with
   |ind j ih=>
    by_cases hk:∃k,k<j∧∃h:k<l.length,l[k]=x
    ·obtain⟨k,h1,h2⟩:=hk
     exact ih k h1 h2
    ·exact⟨j,hj,fun k h1 h2=>hk ⟨k,h1,h2⟩⟩
  refine List.mem_map.2 ⟨j,List.mem_filter.2 ⟨List.mem_range.2 hj,?_⟩,by simp[hj,e]⟩
  unfold Go.Lib.keeps
  rw[decide_eq_true_eq]
  by_cases h0:j=0
  ·exact .inl h0
  ·refine .inr fun h=>iL (j-1) (by omega) ⟨by omega,?_⟩
   have e1:l.toArray[j]! = l[j]:=by simp[hj]
   have e2:l.toArray[j-1]! = l[j-1]'(by omega):=by simp[show j-1<l.length by omega]
   rw[e1,e2]at h
   rw[← h];exact e
theorem acC{zs:List Int}{n:Nat}(h:∀z∈zs,0≤z∧z<n):zr zs=((List.range n).map fun i:Nat=>(i:Int)).filter fun b=>decide (b∈zs):=by
 refine Mf (Yj (PQ zs)) ?_ fun x=>?_
 ·refine List.Pairwise.filter _ ?_
  rw[uP,FZ]
  intro i j hi hj eQ
  simp only[J4]
  omega
 ·unfold zr
  rw[Qi,Ro,ki,decide_eq_true_eq]
  refine⟨fun hx=>⟨?_,hx⟩,fun hx=>hx.2⟩
  have:=h x hx
  exact cY.2 ⟨x.toNat,fA.2 (by omega),by omega⟩
theorem Qf:Enters Tryz.prog 312:=enters_of Tryz.func312 (by kernel_rfl)
theorem Qg:Enters Tryz.prog 313:=enters_of Tryz.func313 (by kernel_rfl)
theorem Hr{vs:Array Value}(h:1=vs.size):∃v,vs = #[v]:=by
 refine⟨vs.getD 0 undef,Array.ext ?_ fun i h2 h3=>?_⟩
 ·simp[← h]
 ·have:i=0:=by omega
  subst this
  simp[Array.getD,h2]
theorem LW{F:Nat→Prop}{w:World}:ax F w (.tup []) (.tuple #[]):=.tup [] #[] rfl fun i x h=>by simp at h
theorem ag3(σ:Hp):ACalls Tryz.prog 312 [.aj] σ (aE (.tup []) σ):=by
 refine⟨Qf,fun F w vs bX aC =>?_⟩
 obtain⟨v,rfl⟩:=Hr bX.1
 have hv:ax F w .aj v:=bX.2 0 _ rfl
 cases hv
 have h:Calls Tryz.prog 312 #[.slice none 0 0] w fun e w'=>e=.returned (.tuple #[])∧w'=w:=Any.slices_Sort_int_none Mc none 0 w
 refine h.mono ?_
 rintro e w' ⟨rfl,rfl⟩
 exact⟨.tup [],.tuple #[],σ,F,rfl,.refl _ _,aC,LW,rfl,rfl⟩
theorem MO(b:Nat)(zs:List Int)(n:Nat)(σ:Hp)(hz:zs.length=n)(hl:n≤1000000):ACalls Tryz.prog 312 [.ae b 0 n 1] ((b,ak zs)::σ) (aE (.tup []) ((b,ak (fD zs))::σ)):=by
 subst hz
 refine⟨Qf,fun F w vs bX aC =>?_⟩
 obtain⟨v,rfl⟩:=Hr bX.1
 have hv:ax F w (.ae b 0 zs.length 1) v:=bX.2 0 _ rfl
 obtain⟨a,cap,rfl,c,T,fz,m1,m2,m3,m4⟩:=hv.lD
 rcases m4 with ⟨rfl,_⟩ | ⟨_,_,h0,_⟩
 ·obtain⟨h1,h2⟩:=LF aC
  have h:Calls Tryz.prog 312 #[.slice (some ⟨b,0,none⟩) zs.length cap] w fun e w'=>e=.returned (.tuple #[])∧∃n os,w'=Go.Sort.grow (Go.Sort.putRow (Value.int .i64) (Go.Sort.ahead w n) b 0 (fD zs).toArray) os:=Any.slices_Sort_int Mc b 0 cap zs w h1 h2 (by omega)
  refine h.mono ?_
  rintro e w' ⟨rfl,n,os,rfl⟩
  obtain⟨k1,k2⟩:=Hm (n:=n) aC (Am zs) os
  exact⟨.tup [],.tuple #[],_,F,rfl,k1,k2,LW,rfl,rfl⟩
 ·have hz:zs=[]:=iS.1 h0
  subst hz
  have h:Calls Tryz.prog 312 #[.slice (some a) 0 cap] w fun e w'=>e=.returned (.tuple #[])∧w'=w:=Any.slices_Sort_int_none Mc (some a) cap w
  have he:fD []=[]:=iS.1 (Am [])
  rw[he]
  refine h.mono ?_
  rintro e w' ⟨rfl,rfl⟩
  exact⟨.tup [],.tuple #[],_,F,rfl,.refl _ _,aC,LW,rfl,rfl⟩
theorem agl(σ:Hp):ACalls Tryz.prog 313 [.aj] σ (aE .aj σ):=by
 refine⟨Qg,fun F w vs bX aC =>?_⟩
 obtain⟨v,rfl⟩:=Hr bX.1
 have hv:ax F w .aj v:=bX.2 0 _ rfl
 cases hv
 have h:Calls Tryz.prog 313 #[.slice none 0 0] w fun e w'=>e=.returned (.slice none 0 0)∧w'=w:=Any.slices_Compact_int_empty Mb none 0 w
 refine h.mono ?_
 rintro e w' ⟨rfl,rfl⟩
 exact⟨.aj,_,σ,F,rfl,.refl _ _,aC,.aj,rfl,rfl⟩
theorem agm(b:Nat)(zs:List Int)(n:Nat)(σ:Hp)(hz:zs.length=n)(hl:n≤1000000):ACalls Tryz.prog 313 [.ae b 0 n 1] ((b,ak zs)::σ) (aE (.ae b 0 (Go.Lib.compact zs).length 1) ((b,ak (Go.Lib.compact zs++List.replicate (n-(Go.Lib.compact zs).length) 0))::σ)):=by
 subst hz
 have hle:=Yi zs
 refine⟨Qg,fun F w vs bX aC =>?_⟩
 obtain⟨v,rfl⟩:=Hr bX.1
 have hv:ax F w (.ae b 0 zs.length 1) v:=bX.2 0 _ rfl
 obtain⟨a,cap,rfl,c,T,fz,m1,m2,m3,m4⟩:=hv.lD
 rcases m4 with ⟨rfl,m5⟩ | ⟨m5,m6,h0,m7⟩
 ·obtain⟨h1,h2⟩:=LF aC
  have h:Calls Tryz.prog 313 #[.slice (some ⟨b,0,none⟩) zs.length cap] w fun e w'=>e=.returned (.slice (some ⟨b,0,none⟩) (Go.Lib.compact zs).length cap)∧∃q,w'=Go.Sort.putRow (Value.int .i64) (Go.Sort.ahead w q) b 0 (Go.Lib.compact zs++List.replicate (zs.length-(Go.Lib.compact zs).length) 0).toArray:=Any.slices_Compact_int Mb b 0 cap zs w h1 (by omega) m2
  refine h.mono ?_
  rintro e w' ⟨rfl,q,rfl⟩
  obtain⟨k1,k2⟩:=Hm (n:=q) (zs':=Go.Lib.compact zs++List.replicate (zs.length-(Go.Lib.compact zs).length) 0) aC (by rw[bG,fZ];omega) #[]
  have hg:∀W:World,Go.Sort.grow W #[]=W:=fun W=>by unfold Go.Sort.grow;rw[Array.append_empty]
  rw[hg]at k1 k2
  obtain⟨c',sf,jU,dV⟩:=k1.rows b c T fz m1
  exact⟨.ae b 0 _ 1,_,_,F,rfl,k1,k2,.ae _ _ _ _ _ _ ⟨c',T,sf,jU,by omega,m3,.inl ⟨rfl,by omega⟩⟩,rfl,rfl⟩
 ·have hz:zs=[]:=iS.1 h0
  subst hz
  have h:Calls Tryz.prog 313 #[.slice (some a) 0 cap] w fun e w'=>e=.returned (.slice (some a) 0 cap)∧w'=w:=Any.slices_Compact_int_empty Mb (some a) cap w
  refine h.mono ?_
  rintro e w' ⟨rfl,rfl⟩
  exact⟨.ae b 0 0 1,_,_,F,rfl,.refl _ _,aC,hv,rfl,rfl⟩
theorem aav:zr []=[]:=Kg.2 fun x h=>by
 unfold zr at h
 rw[Qi,Ro]at h
 cases h
def jx(n:Int)(l:List bg)(a:Int):List Int:=(l.filter fun e=>decide (e.1=a)&&dL n a&&dL n e.2.1).map fun e=>e.2.1
def ar(n:Int)(l:List bg)(a:Int):List Int:=((List.range n.toNat).map fun i:Nat=>(i:Int)).filter fun b=>decide (b∈jx n l a)
theorem Z8(n:Int)(l:List bg)(a:Int):(jx n l a).length≤l.length:=by unfold jx;rw[cb];exact Cp _ _
theorem Z7{n:Int}{l:List bg}{a z:Int}(h:z∈jx n l a):0≤z∧z<n:=by
 unfold jx at h
 obtain⟨e,he,rfl⟩:=cY.1 h
 have h4:=(ki.1 he).2
 simp only[bL,decide_eq_true_eq,kM]at h4
 exact h4.2
theorem YP(n:Int)(l:List bg)(a:Int){k:Nat}(h:k<l.length):jx n (l.take (k+1)) a=jx n (l.take k) a++(if (decide (l[k].1=a)&&dL n a&&dL n l[k].2.1)=true then [l[k].2.1] else []):=by
 unfold jx
 rw[fQ h,Ab,cM]
 congr 1
 by_cases hc:(decide (l[k].1=a)&&dL n a&&dL n l[k].2.1)=true
 ·rw[ag hc];have e:=gs8 (p:=fun e:bg=>decide (e.1=a)&&dL n a&&dL n e.2.1) (a:=l[k]) (l:=[]) hc;rw[e];rfl
 ·rw[ah hc];have e:=gp8 (p:=fun e:bg=>decide (e.1=a)&&dL n a&&dL n e.2.1) (a:=l[k]) (l:=[]) hc;rw[e];rfl
theorem ab4(n:Int)(l:List bg)(a:Int):zr (jx n l a)=ar n l a:=by
 unfold ar
 exact acC fun z hz=>by have:=Z7 hz;omega
theorem Bo(n:Int)(l:List bg)(a:Int)(σ:Hp)(hl:l.length≤100000):ACalls Tryz.prog 289 [.int .i64 n,.ai dG l,.int .i64 a] σ (aE (.ai (.int .i64) (ar n l a)) σ):=by
 refine aA Tryz.func289 ?_
 refine .wrap 7 _ rfl rfl ?_
 refine cj (S:=Nat×AV×Hp) (fun s=>[(0,.int .i64 n),(2,.int .i64 a),(7,.via s.2.1),(10,.ai dG l),(11,.int .i64 l.length),(12,.int .i64 s.1)]) (fun s=>s.2.2++σ) (fun s=>s.1≤l.length∧Acc 1 (jx n (l.take s.1) a).length s.2.1 s.2.2 (ak (jx n (l.take s.1) a))) (fun s=>l.length-s.1) (0,.aj,[]) ⟨⟨bK _,.nil⟩,⟨rfl,rfl,rfl,rfl,rfl,rfl,trivial⟩,rfl⟩ ?_
 rintro⟨k,v,acc⟩ g ⟨bD,mE⟩
 have hk:k≤l.length:=bD
 have cC:Acc 1 (jx n (l.take k) a).length v acc (ak (jx n (l.take k) a)):=mE
 clear bD mE
 have oO:(jx n (l.take k) a).length≤k:=by have:=Z8 n (l.take k) a;rw[sb]at this;omega
 refine aq (fun ab=>?_) (fun ay=>?_)
 ·have ab:k<l.length:=by have ab:(k:Int)<l.length:=ab;omega
  have hs:=YP n l a ab
  obtain⟨d,hd⟩:∃d:bg,l[k]=d:=⟨_,rfl⟩
  rw[hd]at hs
  refine aH.mk rfl (cg.mk d (by omega) ((get_some ab).trans (congrArg some hd)) ?_)
  intro aG
  refine an 0 ?_
  refine aa 0 ?_
  refine aq (p:=d.1=a) (fun c1=>?_) (fun c1=>?_)
  ·refine fM [] (Il n a _) (fun c2=>?_) (fun c2=>?_)
   ·refine aa 0 ?_
    refine fM [] (Il n d.2.1 _) (fun c3=>?_) (fun c3=>?_)
    ·rw[aY c1,c2,c3,ag (show (true&&true&&true)=true from rfl)]at hs
     refine aa 0 ?_
     intro eV
     refine my [_,_] cC (.ae 0 eV 0 1 _ rfl (cT rfl)) rfl (by omega) (by decide) (by decide) (fun v' bN h'=>?_)
     refine aZ (k+1,v',bN) (by show l.length-(k+1)<l.length-k;omega) ⟨ab,?_⟩ ⟨rfl,rfl,rfl,rfl,rfl,bu (by omega),trivial⟩ (.drop 0 2 (aJ rfl))
     show Acc 1 (jx n (l.take (k+1)) a).length v' bN (ak (jx n (l.take (k+1)) a))
     rw[hs,bG,ak,cM]
     exact h'
    ·rw[c3,JK,ah (by decide),mX]at hs
     refine aZ (k+1,v,acc) (by show l.length-(k+1)<l.length-k;omega) ⟨ab,by show Acc 1 (jx n (l.take (k+1)) a).length v acc (ak (jx n (l.take (k+1)) a));rw[hs];exact cC⟩ ⟨rfl,rfl,rfl,rfl,rfl,bu (by omega),trivial⟩ (.drop 0 1 (aJ rfl))
   ·rw[c2,JK,JL,ah (by decide),mX]at hs
    refine aZ (k+1,v,acc) (by show l.length-(k+1)<l.length-k;omega) ⟨ab,by show Acc 1 (jx n (l.take (k+1)) a).length v acc (ak (jx n (l.take (k+1)) a));rw[hs];exact cC⟩ ⟨rfl,rfl,rfl,rfl,rfl,bu (by omega),trivial⟩ (.drop 0 1 (aJ rfl))
  ·rw[b9 c1,JL,JL,ah (by decide),mX]at hs
   refine aZ (k+1,v,acc) (by show l.length-(k+1)<l.length-k;omega) ⟨ab,by show Acc 1 (jx n (l.take (k+1)) a).length v acc (ak (jx n (l.take (k+1)) a));rw[hs];exact cC⟩ ⟨rfl,rfl,rfl,rfl,rfl,bu (by omega),trivial⟩ (.drop 0 1 (aJ rfl))
 ·have ay:k=l.length:=by have ay:¬(k:Int)<l.length:=ay;omega
  subst ay
  rw[ig]at cC oO
  have Nh:=ab4 n l a
  generalize jx n l a=zs at cC oO Nh
  generalize hC:ak zs=C at cC
  generalize hm:zs.length=m at cC
  cases cC with
  |nil=>
   have hz:zs=[]:=iS.1 hm
   subst hz
   refine aB [] (ag3 _) ?_
   refine aB [] (agl _) ?_
   exact .nil (.nil (.int .i64)) (.done ⟨by rw[← Nh,aav];rfl,rfl⟩)
  |ae b m cs h=>
   subst hC
   refine aB [] (MO b zs m σ hm (by omega)) ?_
   refine aB [] (agm b (fD zs) m σ ((Am zs).trans hm) (by omega)) ?_
   refine .cI 0 b 0 _ 1 _ (.int .i64) (zr zs) rfl ?_ ⟨rfl,rfl,by decide⟩ .here (.done ⟨by rw[Nh],rfl⟩)
   rw[iB,← xn]
   unfold zr ak
   rw[cM,eo,Kj (by rw[cb];exact aM _)]
   exact eZ (by rw[cb];exact aM _)
def jn(a b:Int):Int:=if a=b∨b=0 then a else if a=0 then b else 1
theorem xl{a b:Int}(ha:bR a=a)(hb:bR b=b):np a b=jn a b:=by unfold np jn;rw[ha,hb]
theorem Hw(a b:Int):jn a b=jn b a:=by
 unfold jn
 by_cases h1:a=b
 ·subst h1;rfl
 ·by_cases h2:a=0
  ·by_cases h3:b=0
   ·omega
   ·rw[ah (by omega),ag h2,ag (by omega)]
  ·by_cases h3:b=0
   ·rw[ag (by omega),ah (by omega),ag h3]
   ·rw[ah (by omega),ah h2,ah (by omega),ah h3]
theorem Hv(a:Int):jn a 0=a:=by unfold jn;rw[ag (.inr rfl)]
theorem Dc(a:Int):jn 0 a=a:=by rw[Hw,Hv]
theorem AM(a:Int):jn a a=a:=by unfold jn;rw[ag (.inl rfl)]
theorem DU{a b:Int}(h:a≠b)(ha:a≠0)(hb:b≠0):jn a b=1:=by unfold jn;rw[ah (by omega),ah ha]
theorem MH(a:Int):jn a 1=1:=by
 by_cases h:a=1
 ·rw[h,AM]
 ·by_cases h0:a=0
  ·rw[h0,Dc]
  ·exact DU h h0 (by decide)
theorem S9(a b c:Int):jn (jn a b) c=jn a (jn b c):=by
 by_cases ha:a=0
 ·rw[ha,Dc,Dc]
 by_cases hb:b=0
 ·rw[hb,Hv,Dc]
 by_cases hc:c=0
 ·rw[hc,Hv,Hv]
 by_cases h1:a=b
 ·subst h1
  by_cases h2:a=c
  ·subst h2;rw[AM]
  ·rw[AM,DU h2 ha hc,MH]
 ·rw[DU h1 ha hb,Hw 1 c,MH]
  by_cases h2:b=c
  ·subst h2;rw[AM,DU h1 ha hb]
  ·rw[DU h2 hb hc,MH]
theorem ve{a b:List Int}(ha:okW a=true)(hb:okW b=true){i:Nat}(h:i<a.length)(h2:i<b.length):wd (er 3 a b) i=jn (wd a i) (wd b i):=by
 rw[y7 h h2,rr,xl (xv ha h) (xv hb h2)]
theorem xd{what w:Int}{a b:List Int}(va:cR what w a=true)(vb:cR what w b=true):a.length=b.length:=by have h1:=xp va;have h2:=xp vb;omega
theorem abI(what:Int)(x y:Bool):ji what x y=ji what y x:=by unfold ji;split <;> cases x <;> cases y <;> rfl
theorem ZX(what:Int)(x y z:Bool):ji what (ji what x y) z=ji what x (ji what y z):=by unfold ji;split <;> cases x <;> cases y <;> cases z <;> rfl
structure eF(what w:Int)(a:List Int):Prop where
 v:cR what w a=true
 dh:bA a
theorem eF.join{what w:Int}{a b:List Int}(ha:eF what w a)(hb:eF what w b):eF what w (er what a b):=⟨LA ha.dh hb.dh ha.v hb.v,xz ha.dh hb.dh⟩
theorem C4{what w:Int}{x y:List Int}(hx:eF what w x)(hy:eF what w y)(h3:what=3→∀i,i<x.length→wd x i=wd y i)(hs:what=1∨what=2→∀i k,i<x.length→k<64→ee x i k=ee y i k):x=y:=by
 have hl:=xd hx.v hy.v
 by_cases h:what=3
 ·exact AR hl (h3 h)
 ·exact Hk hx.dh hy.dh hl (hs (HP (mC hx.v) h))
theorem join_comm{what w:Int}{a b:List Int}(ha:eF what w a)(hb:eF what w b):er what a b=er what b a:=by
 have hl:=xd ha.v hb.v
 refine C4 (ha.join hb) (hb.join ha) (fun h3 i hi=>?_) (fun hs i k hi _=>?_)
 ·subst h3
  rw[iU hl]at hi
  have va:=((jK (mC ha.v) rfl).1 ha.v).2
  have vb:=((jK (mC hb.v) rfl).1 hb.v).2
  rw[ve va vb hi (by omega),ve vb va (by omega) hi,Hw]
 ·rw[iU hl]at hi
  rw[o9 hs ha.dh hb.dh hl i k hi,o9 hs hb.dh ha.dh hl.symm i k (by omega),abI]
theorem join_assoc{what w:Int}{a b c:List Int}(ha:eF what w a)(hb:eF what w b)(hc:eF what w c):er what (er what a b) c=er what a (er what b c):=by
 have hl:=xd ha.v hb.v
 have uD:=xd hb.v hc.v
 have l1:=iU (what:=what) hl
 have l2:=iU (what:=what) uD
 refine C4 ((ha.join hb).join hc) (ha.join (hb.join hc)) (fun h3 i hi=>?_) (fun hs i k hi _=>?_)
 ·subst h3
  rw[iU (by omega),l1]at hi
  have o:∀{x:List Int},eF 3 w x→okW x=true:=fun h=>((jK (mC h.v) rfl).1 h.v).2
  rw[ve (o (ha.join hb)) (o hc) (by omega) (by omega),ve (o ha) (o hb) (by omega) (by omega),ve (o ha) (o (hb.join hc)) (by omega) (by omega),ve (o hb) (o hc) (by omega) (by omega),S9]
 ·rw[iU (by omega),l1]at hi
  rw[o9 hs (ha.join hb).dh hc.dh (by omega) i k (by omega),o9 hs ha.dh hb.dh hl i k (by omega),o9 hs ha.dh (hb.join hc).dh (by omega) i k (by omega),o9 hs hb.dh hc.dh uD i k (by omega),ZX]
theorem join_self{what w:Int}{a:List Int}(ha:eF what w a):er what a a=a:=by
 refine C4 (ha.join ha) ha (fun h3 i hi=>?_) (fun hs i k hi _=>?_)
 ·subst h3
  rw[iU rfl]at hi
  have va:=((jK (mC ha.v) rfl).1 ha.v).2
  rw[ve va va hi hi,AM]
 ·rw[iU rfl]at hi
  rw[o9 hs ha.dh ha.dh rfl i k hi,(MD _ (ee a i k) (ee a i k)).2.2]
def dy(what w:Int)(a b:List Int):Prop:=eF what w a∧eF what w b∧er what a b=b
theorem dy.refl{what w:Int}{a:List Int}(h:eF what w a):dy what w a a:=⟨h,h,join_self h⟩
theorem dy.trans{what w:Int}{a b c:List Int}(h1:dy what w a b)(h2:dy what w b c):dy what w a c:=by
 refine⟨h1.1,h2.2.1,?_⟩
 have:=join_assoc h1.1 h1.2.1 h2.2.1
 rw[h1.2.2,h2.2.2]at this
 exact this.symm
theorem dy.aif{what w:Int}{a b:List Int}(h1:dy what w a b)(h2:dy what w b a):a=b:=by
 rw[← h2.2.2,join_comm h2.1 h1.1];exact h1.2.2
theorem dy.left{what w:Int}{a b:List Int}(ha:eF what w a)(hb:eF what w b):dy what w a (er what a b):=by
 refine⟨ha,ha.join hb,?_⟩
 rw[← join_assoc ha ha hb,join_self ha]
theorem dy.right{what w:Int}{a b:List Int}(ha:eF what w a)(hb:eF what w b):dy what w b (er what a b):=by
 rw[join_comm ha hb];exact dy.left hb ha
theorem dy.join{what w:Int}{a b c:List Int}(h1:dy what w a c)(h2:dy what w b c):dy what w (er what a b) c:=by
 refine⟨h1.1.join h2.1,h1.2.1,?_⟩
 rw[join_assoc h1.1 h2.1 h1.2.1,h2.2.2,h1.2.2]
theorem dy.mono{what w:Int}{a b c d:List Int}(h1:dy what w a c)(h2:dy what w b d):dy what w (er what a b) (er what c d):=
 dy.join (h1.trans (dy.left h1.2.1 h2.2.1)) (h2.trans (dy.right h1.2.1 h2.2.1))
theorem acI{what w:Int}{a b:List Int}(ha:bA a)(hb:bA b):zg what w a b=true↔dy what w a b:=by
 rw[aaJ]
 exact⟨fun h=>⟨⟨h.1,ha⟩,⟨h.2.1,hb⟩,h.2.2⟩,fun h=>⟨h.1.v,h.2.1.v,h.2.2⟩⟩
theorem bot_le{what w:Int}{a:List Int}(ha:eF what w a):dy what w (iM what w) a:=by
 have hi:=mC ha.v
 have hb:eF what w (iM what w):=⟨HB hi,HW _ _⟩
 have hl:=xd hb.v ha.v
 refine⟨hb,ha,C4 (hb.join ha) ha (fun h3 i fo=>?_) (fun hs i k fo hk=>?_)⟩
 ·subst h3
  rw[iU hl]at fo
  have va:=((jK hi rfl).1 ha.v).2
  have vb:=((jK hi rfl).1 hb.v).2
  rw[ve vb va fo (by omega)]
  have:wd (iM 3 w) i=0:=by
   have e:iM 3 w=List.replicate (ft 3 w).toNat 0:=ah (fun h=>absurd h.1 (by decide))
   rw[e]at fo ⊢
   rw[lv _ fo,Ke]
  rw[this,Dc]
 ·rw[iU hl]at fo
  rw[o9 hs hb.dh ha.dh hl i k fo]
  rcases hs with rfl | rfl
  ·have e:iM 1 w=List.replicate (ft 1 w).toNat 0:=ah (fun h=>absurd h.1 (by decide))
   have h0:ee (iM 1 w) i k=false:=by
    unfold ee
    rw[e]at fo ⊢
    rw[lv _ fo,Ke];exact GZ k
   rw[h0];exact qS _
  ·have e:iM 2 w=gd w:=ag ⟨rfl,hi⟩
   have fa:=(qd hi (by decide)).1 ha.v
   rw[e]at fo ⊢
   rw[qZ]at fo
   show (ee (gd w) i k&&ee a i k)=ee a i k
   by_cases hc:64*i+k<eS w
   ·have h1:ee (gd w) i k=true:=by
     unfold ee
     rw[C7 w fo,bU,Kd]
     exact aY (by omega)
    rw[h1,z8]
   ·have h2:=(rh ha.dh (n9 fa)).1 fa i k (by rw[n9 fa];exact fo) hk (by omega)
    rw[h2,JK]
theorem Zg{what w:Int}{g k a b:List Int}{l:List de}(hg:bA g)(hk:bA k)(hc:fC what w g k l=0)(h:dy what w a b):dy what w (gp what g k l a) (gp what g k l b):=by
 have:=(agw hg hk h.1.dh h.2.1.dh hc h.1.v h.2.1.v).1
 rw[h.2.2,acI (Ay h.1.dh) (Ay h.2.1.dh)]at this
 exact this
structure mb(s:Sy)(a:List (List Int)):Prop where
 len:(a.length:Int)=s.n
 val:∀x∈a,eF s.what s.w x
theorem adj{s:Sy}{a:List (List Int)}(h:zi s a=true)(ha:Ej a):mb s a:=
 ⟨(CY.1 h).1,fun x hx=>⟨(CY.1 h).2 x hx,(ha.2 x hx).1⟩⟩
theorem mb.cu{s:Sy}{a:List (List Int)}(h:mb s a):zi s a=true:=CY.2 ⟨h.len,fun x hx=>(h.val x hx).v⟩
theorem mb.ok{s:Sy}{a:List (List Int)}(hg:Good s)(h:mb s a):Ej a:=by
 have h1:=h.len
 have h2:=hg.n2
 exact⟨by omega,fun x hx=>⟨(h.val x hx).dh,by have:=Rh (h.val x hx).v;omega⟩⟩
theorem mb.get{s:Sy}{a:List (List Int)}(h:mb s a){i:Nat}(hi:(i:Int)<s.n):eF s.what s.w (a.getD i []):=by
 have hl:=h.len
 have ab:i<a.length:=by omega
 rw[aR,bc ab]
 exact h.val _ (cD ab)
def mg(s:Sy)(a b:List (List Int)):Prop:=mb s a∧mb s b∧∀i:Nat,(i:Int)<s.n→dy s.what s.w (a.getD i []) (b.getD i [])
theorem Lu{s:Sy}(hf:Fit s)(hg:Good s){x y:List Int}(h:dy s.what s.w x y){v:Nat}(hv:(v:Int)<s.n):dy s.what s.w (jO s x v) (jO s y v):=by
 obtain⟨h2,e⟩:=Ns hg hv
 unfold jO
 rw[e]
 have ho:=hf.ts _ (cD h2)
 exact Zg ho.1 ho.2.1 (hg.I7 _ (cD h2)) h
theorem GD{s:Sy}(hf:Fit s)(hg:Good s)(v:Int):eF s.what s.w (ik s v):=⟨(KW hf hg v).1,(KW hf hg v).2⟩
theorem ZB{s:Sy}(hf:Fit s)(hg:Good s){a:List (List Int)}(h:mb s a)(v k:Nat)(hk:k≤s.aL.length):eF s.what s.w (og s a k v):=
 ⟨(GC hf hg (h.ok hg) h.cu v k hk).1,(GC hf hg (h.ok hg) h.cu v k hk).2⟩
theorem GB{s:Sy}(hf:Fit s)(hg:Good s){a:List (List Int)}(h:mb s a):mb s (jN s a):=adj (Qz hf hg (h.ok hg) h.cu).1 (Qz hf hg (h.ok hg) h.cu).2
theorem CK(s:Sy)(a:List (List Int)){i:Nat}(h:(i:Int)<s.n):(jN s a).getD i []=og s a s.aL.length i:=by
 unfold jN H5
 rw[aR,eU,wS (by omega)];rfl
theorem Qy{s:Sy}(hf:Fit s)(hg:Good s){a b:List (List Int)}(h:mg s a b)(v:Nat):∀k,k≤s.aL.length→dy s.what s.w (og s a k v) (og s b k v)
 | 0,_=>dy.refl (GD hf hg v)
 |k+1,hk=>by
  have ih:=Qy hf hg h v k (by omega)
  rw[Ap s a (by omega),Ap s b (by omega)]
  unfold zm
  have he:=hg.vW _ (cD (show k<s.aL.length by omega))
  split
  ·exact ih.mono (Lu hf hg (h.2.2 _ (by omega)) (by omega))
  ·exact ih
theorem Rl{s:Sy}(hf:Fit s)(hg:Good s){a b:List (List Int)}(h:mg s a b):mg s (jN s a) (jN s b):=
 ⟨GB hf hg h.1,GB hf hg h.2.1,fun i hi=>by
  rw[CK s a hi,CK s b hi]
  exact Qy hf hg h i _ (aM _)⟩
theorem mg.trans{s:Sy}{a b c:List (List Int)}(h1:mg s a b)(h2:mg s b c):mg s a c:=⟨h1.1,h2.2.1,fun i hi=>(h1.2.2 i hi).trans (h2.2.2 i hi)⟩
def Nt(p:Prop)(σ:Hp):AV→Hp→Prop:=fun r σ'=>∃b:Bool,r=.bool b∧σ'=σ∧(b=true→p)
theorem We{P:Program}{f:FuncId}{xs:List AV}{σ:Hp}{K:AV→Hp→Prop}(js:List Nat){p:Prop}{σ2:Hp}(h:ACalls P f xs (oh js σ) (Nt p σ2))(k1:p→K (.bool true) σ2)(k2:K (.bool false) σ2):CallAt P f K xs σ:=
 .mk js _ h fun r σ' ⟨b,h1,h2,h3⟩=>by subst h1 h2;cases b;exact k2;exact k1 (h3 rfl)
structure VN(s:Sy):Prop where
 tl:s.T.length≤8
 el:s.aL.length≤16
 nl:s.entry.length≤10
 il:s.init.length≤20
 ts:∀t∈s.T,t.1.length≤4∧t.2.1.length≤4∧t.2.2.1.length≤6
 sz:(s.n≤7∧s.w≤10)∨256<s.n∨1024<s.w
theorem acU(s:Sy)(σ:Hp):ACalls Tryz.prog 28 [.agg (cd s)] σ (Nt (VN s) σ):=by
 refine aA Tryz.func28 ?_
 intro aG
 refine aa 0 ?_
 refine aq (fun c2=>?_) (fun c2=>?_)
 ·have c2:7<s.n:=c2
  refine aa 0 ?_
  refine aq (fun c3=>?_) (fun c3=>?_)
  ·have c3:s.n≤256:=c3
   refine aa 0 ?_
   refine aq (fun c4=>?_) (fun c4=>?_)
   ·exact .drop 0 1 (.done ⟨false,rfl,rfl,fun h=>by cases h⟩)
   ·have c4:¬(s.w≤1024):=c4
    refine aa 0 ?_
    refine aq (fun c5=>?_) (fun c5=>?_)
    ·exact .drop 0 1 (.done ⟨false,rfl,rfl,fun h=>by cases h⟩)
    ·have c5:¬(8<(↑s.T.length:Int)):=c5
     refine aa 0 ?_
     refine aq (fun c6=>?_) (fun c6=>?_)
     ·exact .drop 0 1 (.done ⟨false,rfl,rfl,fun h=>by cases h⟩)
     ·have c6:¬(16<(↑s.aL.length:Int)):=c6
      refine aa 0 ?_
      refine aq (fun c7=>?_) (fun c7=>?_)
      ·exact .drop 0 1 (.done ⟨false,rfl,rfl,fun h=>by cases h⟩)
      ·have c7:¬(10<(↑s.entry.length:Int)):=c7
       refine aa 0 ?_
       refine aq (fun c8=>?_) (fun c8=>?_)
       ·exact .drop 0 1 (.done ⟨false,rfl,rfl,fun h=>by cases h⟩)
       ·have c8:¬(20<(↑s.init.length:Int)):=c8
        refine aa 0 ?_
        refine cj (S:=Nat) (fun k=>[(48,.ai lX s.T),(49,.int .i64 s.T.length),(50,.int .i64 k)]) (fun _=>(aG,cd s)::σ) (fun k=>k≤s.T.length∧∀t∈s.T.take k,t.1.length≤4∧t.2.1.length≤4∧t.2.2.1.length≤6) (fun k=>s.T.length-k) 0 ⟨⟨bK _,fun t h=>by cases h⟩,⟨rfl,rfl,rfl,trivial⟩,rfl⟩ ?_
        rintro k g ⟨bD,kY⟩
        have hk:k≤s.T.length:=bD
        have ht:∀t∈s.T.take k,t.1.length≤4∧t.2.1.length≤4∧t.2.2.1.length≤6:=kY
        clear bD kY
        refine aq (fun ab=>?_) (fun ay=>?_)
        ·have ab:k<s.T.length:=by have ab:(k:Int)<s.T.length:=ab;omega
         have jk:s.T.take (k+1)=s.T.take k++[s.T[k]]:=fQ ab
         obtain⟨t,iz⟩:∃t:mq,s.T[k]=t:=⟨_,rfl⟩
         rw[iz]at jk
         refine aH.mk rfl (cg.mk t (by omega) ((get_some ab).trans (congrArg some iz)) ?_)
         intro eV
         refine an 0 ?_
         refine aa 0 ?_
         refine aq (p:=4<(t.1.length:Int)) (fun d1=>?_) (fun d1=>?_)
         ·exact .drop 0 2 (.done ⟨false,rfl,rfl,fun h=>by cases h⟩)
         ·refine aa 0 ?_
          refine aq (p:=4<(t.2.1.length:Int)) (fun d2=>?_) (fun d2=>?_)
          ·exact .drop 0 2 (.done ⟨false,rfl,rfl,fun h=>by cases h⟩)
          ·refine aa 0 ?_
           refine aq (p:=6<(t.2.2.1.length:Int)) (fun d3=>?_) (fun d3=>?_)
           ·exact .drop 0 2 (.done ⟨false,rfl,rfl,fun h=>by cases h⟩)
           ·refine aZ (k+1) (by show s.T.length-(k+1)<s.T.length-k;omega) ⟨ab,fun u hu=>?_⟩ ⟨rfl,rfl,bu (by omega),trivial⟩ (.drop 0 1 (.refl _))
            rw[jk]at hu
            rcases bP.1 hu with hu | hu
            ·exact ht u hu
            ·rw[a8.1 hu];omega
        ·have ay:k=s.T.length:=by have ay:¬(k:Int)<s.T.length:=ay;omega
         subst ay
         rw[ig]at ht
         exact .drop 0 1 (.done ⟨true,rfl,rfl,fun _=>⟨by omega,by omega,by omega,by omega,ht,by omega⟩⟩)
  ·have c3:¬(s.n≤256):=c3
   refine aa 0 ?_
   refine aq (fun c9=>?_) (fun c9=>?_)
   ·exact .drop 0 1 (.done ⟨false,rfl,rfl,fun h=>by cases h⟩)
   ·have c9:¬(8<(↑s.T.length:Int)):=c9
    refine aa 0 ?_
    refine aq (fun jV=>?_) (fun jV=>?_)
    ·exact .drop 0 1 (.done ⟨false,rfl,rfl,fun h=>by cases h⟩)
    ·have jV:¬(16<(↑s.aL.length:Int)):=jV
     refine aa 0 ?_
     refine aq (fun PF=>?_) (fun PF=>?_)
     ·exact .drop 0 1 (.done ⟨false,rfl,rfl,fun h=>by cases h⟩)
     ·have PF:¬(10<(↑s.entry.length:Int)):=PF
      refine aa 0 ?_
      refine aq (fun w5=>?_) (fun w5=>?_)
      ·exact .drop 0 1 (.done ⟨false,rfl,rfl,fun h=>by cases h⟩)
      ·have w5:¬(20<(↑s.init.length:Int)):=w5
       refine aa 0 ?_
       refine cj (S:=Nat) (fun k=>[(48,.ai lX s.T),(49,.int .i64 s.T.length),(50,.int .i64 k)]) (fun _=>(aG,cd s)::σ) (fun k=>k≤s.T.length∧∀t∈s.T.take k,t.1.length≤4∧t.2.1.length≤4∧t.2.2.1.length≤6) (fun k=>s.T.length-k) 0 ⟨⟨bK _,fun t h=>by cases h⟩,⟨rfl,rfl,rfl,trivial⟩,rfl⟩ ?_
       rintro k g ⟨bD,kY⟩
       have hk:k≤s.T.length:=bD
       have ht:∀t∈s.T.take k,t.1.length≤4∧t.2.1.length≤4∧t.2.2.1.length≤6:=kY
       clear bD kY
       refine aq (fun ab=>?_) (fun ay=>?_)
       ·have ab:k<s.T.length:=by have ab:(k:Int)<s.T.length:=ab;omega
        have jk:s.T.take (k+1)=s.T.take k++[s.T[k]]:=fQ ab
        obtain⟨t,iz⟩:∃t:mq,s.T[k]=t:=⟨_,rfl⟩
        rw[iz]at jk
        refine aH.mk rfl (cg.mk t (by omega) ((get_some ab).trans (congrArg some iz)) ?_)
        intro eV
        refine an 0 ?_
        refine aa 0 ?_
        refine aq (p:=4<(t.1.length:Int)) (fun d1=>?_) (fun d1=>?_)
        ·exact .drop 0 2 (.done ⟨false,rfl,rfl,fun h=>by cases h⟩)
        ·refine aa 0 ?_
         refine aq (p:=4<(t.2.1.length:Int)) (fun d2=>?_) (fun d2=>?_)
         ·exact .drop 0 2 (.done ⟨false,rfl,rfl,fun h=>by cases h⟩)
         ·refine aa 0 ?_
          refine aq (p:=6<(t.2.2.1.length:Int)) (fun d3=>?_) (fun d3=>?_)
          ·exact .drop 0 2 (.done ⟨false,rfl,rfl,fun h=>by cases h⟩)
          ·refine aZ (k+1) (by show s.T.length-(k+1)<s.T.length-k;omega) ⟨ab,fun u hu=>?_⟩ ⟨rfl,rfl,bu (by omega),trivial⟩ (.drop 0 1 (.refl _))
           rw[jk]at hu
           rcases bP.1 hu with hu | hu
           ·exact ht u hu
           ·rw[a8.1 hu];omega
       ·have ay:k=s.T.length:=by have ay:¬(k:Int)<s.T.length:=ay;omega
        subst ay
        rw[ig]at ht
        exact .drop 0 1 (.done ⟨true,rfl,rfl,fun _=>⟨by omega,by omega,by omega,by omega,ht,by omega⟩⟩)
 ·have c2:¬(7<s.n):=c2
  refine aa 0 ?_
  refine aq (fun F7=>?_) (fun F7=>?_)
  ·have F7:10<s.w:=F7
   refine aa 0 ?_
   refine aq (fun te=>?_) (fun te=>?_)
   ·have te:s.n≤256:=te
    refine aa 0 ?_
    refine aq (fun PE=>?_) (fun PE=>?_)
    ·exact .drop 0 1 (.done ⟨false,rfl,rfl,fun h=>by cases h⟩)
    ·have PE:¬(s.w≤1024):=PE
     refine aa 0 ?_
     refine aq (fun wZ=>?_) (fun wZ=>?_)
     ·exact .drop 0 1 (.done ⟨false,rfl,rfl,fun h=>by cases h⟩)
     ·have wZ:¬(8<(↑s.T.length:Int)):=wZ
      refine aa 0 ?_
      refine aq (fun PD=>?_) (fun PD=>?_)
      ·exact .drop 0 1 (.done ⟨false,rfl,rfl,fun h=>by cases h⟩)
      ·have PD:¬(16<(↑s.aL.length:Int)):=PD
       refine aa 0 ?_
       refine aq (fun PC=>?_) (fun PC=>?_)
       ·exact .drop 0 1 (.done ⟨false,rfl,rfl,fun h=>by cases h⟩)
       ·have PC:¬(10<(↑s.entry.length:Int)):=PC
        refine aa 0 ?_
        refine aq (fun PB=>?_) (fun PB=>?_)
        ·exact .drop 0 1 (.done ⟨false,rfl,rfl,fun h=>by cases h⟩)
        ·have PB:¬(20<(↑s.init.length:Int)):=PB
         refine aa 0 ?_
         refine cj (S:=Nat) (fun k=>[(48,.ai lX s.T),(49,.int .i64 s.T.length),(50,.int .i64 k)]) (fun _=>(aG,cd s)::σ) (fun k=>k≤s.T.length∧∀t∈s.T.take k,t.1.length≤4∧t.2.1.length≤4∧t.2.2.1.length≤6) (fun k=>s.T.length-k) 0 ⟨⟨bK _,fun t h=>by cases h⟩,⟨rfl,rfl,rfl,trivial⟩,rfl⟩ ?_
         rintro k g ⟨bD,kY⟩
         have hk:k≤s.T.length:=bD
         have ht:∀t∈s.T.take k,t.1.length≤4∧t.2.1.length≤4∧t.2.2.1.length≤6:=kY
         clear bD kY
         refine aq (fun ab=>?_) (fun ay=>?_)
         ·have ab:k<s.T.length:=by have ab:(k:Int)<s.T.length:=ab;omega
          have jk:s.T.take (k+1)=s.T.take k++[s.T[k]]:=fQ ab
          obtain⟨t,iz⟩:∃t:mq,s.T[k]=t:=⟨_,rfl⟩
          rw[iz]at jk
          refine aH.mk rfl (cg.mk t (by omega) ((get_some ab).trans (congrArg some iz)) ?_)
          intro eV
          refine an 0 ?_
          refine aa 0 ?_
          refine aq (p:=4<(t.1.length:Int)) (fun d1=>?_) (fun d1=>?_)
          ·exact .drop 0 2 (.done ⟨false,rfl,rfl,fun h=>by cases h⟩)
          ·refine aa 0 ?_
           refine aq (p:=4<(t.2.1.length:Int)) (fun d2=>?_) (fun d2=>?_)
           ·exact .drop 0 2 (.done ⟨false,rfl,rfl,fun h=>by cases h⟩)
           ·refine aa 0 ?_
            refine aq (p:=6<(t.2.2.1.length:Int)) (fun d3=>?_) (fun d3=>?_)
            ·exact .drop 0 2 (.done ⟨false,rfl,rfl,fun h=>by cases h⟩)
            ·refine aZ (k+1) (by show s.T.length-(k+1)<s.T.length-k;omega) ⟨ab,fun u hu=>?_⟩ ⟨rfl,rfl,bu (by omega),trivial⟩ (.drop 0 1 (.refl _))
             rw[jk]at hu
             rcases bP.1 hu with hu | hu
             ·exact ht u hu
             ·rw[a8.1 hu];omega
         ·have ay:k=s.T.length:=by have ay:¬(k:Int)<s.T.length:=ay;omega
          subst ay
          rw[ig]at ht
          exact .drop 0 1 (.done ⟨true,rfl,rfl,fun _=>⟨by omega,by omega,by omega,by omega,ht,by omega⟩⟩)
   ·have te:¬(s.n≤256):=te
    refine aa 0 ?_
    refine aq (fun PA=>?_) (fun PA=>?_)
    ·exact .drop 0 1 (.done ⟨false,rfl,rfl,fun h=>by cases h⟩)
    ·have PA:¬(8<(↑s.T.length:Int)):=PA
     refine aa 0 ?_
     refine aq (fun Pz=>?_) (fun Pz=>?_)
     ·exact .drop 0 1 (.done ⟨false,rfl,rfl,fun h=>by cases h⟩)
     ·have Pz:¬(16<(↑s.aL.length:Int)):=Pz
      refine aa 0 ?_
      refine aq (fun Py=>?_) (fun Py=>?_)
      ·exact .drop 0 1 (.done ⟨false,rfl,rfl,fun h=>by cases h⟩)
      ·have Py:¬(10<(↑s.entry.length:Int)):=Py
       refine aa 0 ?_
       refine aq (fun Px=>?_) (fun Px=>?_)
       ·exact .drop 0 1 (.done ⟨false,rfl,rfl,fun h=>by cases h⟩)
       ·have Px:¬(20<(↑s.init.length:Int)):=Px
        refine aa 0 ?_
        refine cj (S:=Nat) (fun k=>[(48,.ai lX s.T),(49,.int .i64 s.T.length),(50,.int .i64 k)]) (fun _=>(aG,cd s)::σ) (fun k=>k≤s.T.length∧∀t∈s.T.take k,t.1.length≤4∧t.2.1.length≤4∧t.2.2.1.length≤6) (fun k=>s.T.length-k) 0 ⟨⟨bK _,fun t h=>by cases h⟩,⟨rfl,rfl,rfl,trivial⟩,rfl⟩ ?_
        rintro k g ⟨bD,kY⟩
        have hk:k≤s.T.length:=bD
        have ht:∀t∈s.T.take k,t.1.length≤4∧t.2.1.length≤4∧t.2.2.1.length≤6:=kY
        clear bD kY
        refine aq (fun ab=>?_) (fun ay=>?_)
        ·have ab:k<s.T.length:=by have ab:(k:Int)<s.T.length:=ab;omega
         have jk:s.T.take (k+1)=s.T.take k++[s.T[k]]:=fQ ab
         obtain⟨t,iz⟩:∃t:mq,s.T[k]=t:=⟨_,rfl⟩
         rw[iz]at jk
         refine aH.mk rfl (cg.mk t (by omega) ((get_some ab).trans (congrArg some iz)) ?_)
         intro eV
         refine an 0 ?_
         refine aa 0 ?_
         refine aq (p:=4<(t.1.length:Int)) (fun d1=>?_) (fun d1=>?_)
         ·exact .drop 0 2 (.done ⟨false,rfl,rfl,fun h=>by cases h⟩)
         ·refine aa 0 ?_
          refine aq (p:=4<(t.2.1.length:Int)) (fun d2=>?_) (fun d2=>?_)
          ·exact .drop 0 2 (.done ⟨false,rfl,rfl,fun h=>by cases h⟩)
          ·refine aa 0 ?_
           refine aq (p:=6<(t.2.2.1.length:Int)) (fun d3=>?_) (fun d3=>?_)
           ·exact .drop 0 2 (.done ⟨false,rfl,rfl,fun h=>by cases h⟩)
           ·refine aZ (k+1) (by show s.T.length-(k+1)<s.T.length-k;omega) ⟨ab,fun u hu=>?_⟩ ⟨rfl,rfl,bu (by omega),trivial⟩ (.drop 0 1 (.refl _))
            rw[jk]at hu
            rcases bP.1 hu with hu | hu
            ·exact ht u hu
            ·rw[a8.1 hu];omega
        ·have ay:k=s.T.length:=by have ay:¬(k:Int)<s.T.length:=ay;omega
         subst ay
         rw[ig]at ht
         exact .drop 0 1 (.done ⟨true,rfl,rfl,fun _=>⟨by omega,by omega,by omega,by omega,ht,by omega⟩⟩)
  ·have F7:¬(10<s.w):=F7
   refine aa 0 ?_
   refine aq (fun Pw=>?_) (fun Pw=>?_)
   ·exact .drop 0 1 (.done ⟨false,rfl,rfl,fun h=>by cases h⟩)
   ·have Pw:¬(8<(↑s.T.length:Int)):=Pw
    refine aa 0 ?_
    refine aq (fun Pv=>?_) (fun Pv=>?_)
    ·exact .drop 0 1 (.done ⟨false,rfl,rfl,fun h=>by cases h⟩)
    ·have Pv:¬(16<(↑s.aL.length:Int)):=Pv
     refine aa 0 ?_
     refine aq (fun Pu=>?_) (fun Pu=>?_)
     ·exact .drop 0 1 (.done ⟨false,rfl,rfl,fun h=>by cases h⟩)
     ·have Pu:¬(10<(↑s.entry.length:Int)):=Pu
      refine aa 0 ?_
      refine aq (fun Pt=>?_) (fun Pt=>?_)
      ·exact .drop 0 1 (.done ⟨false,rfl,rfl,fun h=>by cases h⟩)
      ·have Pt:¬(20<(↑s.init.length:Int)):=Pt
       refine aa 0 ?_
       refine cj (S:=Nat) (fun k=>[(48,.ai lX s.T),(49,.int .i64 s.T.length),(50,.int .i64 k)]) (fun _=>(aG,cd s)::σ) (fun k=>k≤s.T.length∧∀t∈s.T.take k,t.1.length≤4∧t.2.1.length≤4∧t.2.2.1.length≤6) (fun k=>s.T.length-k) 0 ⟨⟨bK _,fun t h=>by cases h⟩,⟨rfl,rfl,rfl,trivial⟩,rfl⟩ ?_
       rintro k g ⟨bD,kY⟩
       have hk:k≤s.T.length:=bD
       have ht:∀t∈s.T.take k,t.1.length≤4∧t.2.1.length≤4∧t.2.2.1.length≤6:=kY
       clear bD kY
       refine aq (fun ab=>?_) (fun ay=>?_)
       ·have ab:k<s.T.length:=by have ab:(k:Int)<s.T.length:=ab;omega
        have jk:s.T.take (k+1)=s.T.take k++[s.T[k]]:=fQ ab
        obtain⟨t,iz⟩:∃t:mq,s.T[k]=t:=⟨_,rfl⟩
        rw[iz]at jk
        refine aH.mk rfl (cg.mk t (by omega) ((get_some ab).trans (congrArg some iz)) ?_)
        intro eV
        refine an 0 ?_
        refine aa 0 ?_
        refine aq (p:=4<(t.1.length:Int)) (fun d1=>?_) (fun d1=>?_)
        ·exact .drop 0 2 (.done ⟨false,rfl,rfl,fun h=>by cases h⟩)
        ·refine aa 0 ?_
         refine aq (p:=4<(t.2.1.length:Int)) (fun d2=>?_) (fun d2=>?_)
         ·exact .drop 0 2 (.done ⟨false,rfl,rfl,fun h=>by cases h⟩)
         ·refine aa 0 ?_
          refine aq (p:=6<(t.2.2.1.length:Int)) (fun d3=>?_) (fun d3=>?_)
          ·exact .drop 0 2 (.done ⟨false,rfl,rfl,fun h=>by cases h⟩)
          ·refine aZ (k+1) (by show s.T.length-(k+1)<s.T.length-k;omega) ⟨ab,fun u hu=>?_⟩ ⟨rfl,rfl,bu (by omega),trivial⟩ (.drop 0 1 (.refl _))
           rw[jk]at hu
           rcases bP.1 hu with hu | hu
           ·exact ht u hu
           ·rw[a8.1 hu];omega
       ·have ay:k=s.T.length:=by have ay:¬(k:Int)<s.T.length:=ay;omega
        subst ay
        rw[ig]at ht
        exact .drop 0 1 (.done ⟨true,rfl,rfl,fun _=>⟨by omega,by omega,by omega,by omega,ht,by omega⟩⟩)
theorem afP{s:Sy}(h:VN s)(hi:bA s.init)(ht:∀t∈s.T,bA t.1∧bA t.2.1):Fit s:=by
 obtain⟨h1,h2,h3,h4,h5,_⟩:=h
 exact⟨hi,by omega,by omega,by omega,by omega,fun t hm=>⟨(ht t hm).1,(ht t hm).2,by have:=h5 t hm;omega,by have:=h5 t hm;omega,by have:=h5 t hm;omega⟩⟩
theorem Mo{f:FuncId}{xs:List AV}{σ:Hp}{K:AV→Hp→Prop}(i k b':Nat)(cs':List AV)(e:Sh)(hi:σ[i]?=some (b',cs'))(hk:cs'[k]?=some .aj)(h:CallAt Tryz.prog f K xs (σ.set i (b',cs'.set k (.ai e [])))):CallAt Tryz.prog f K xs σ:=
 .mk [] K ⟨(Gv h).1,fun F w vs bX aC=>(Gv h).2 F w vs bX (Ut aC e hi hk)⟩ fun _ _ h=>h
theorem Mk{b off len es:Nat}{e:Sh}{l:List e.T}{xs ys:List AV}(h:eI b off len es e l (.tup xs) (.tup ys))(hl:ys.all AV.leaf=true):eI b off len es e l (.agg xs) (.agg ys):=by
 cases h with
 |refl=>exact .refl _
 |tup _ _ h1 h2=>exact .agg _ _ h1 (fun i y hy=>fp.1 hl y (bH hy)) h2
def tZ(s:Sy):Nat→List (List Int)→Nat→List (List Int)×Nat
 | 0,a,k=>(a,k)
 |m+1,a,k=>if a=jN s a then (a,k) else tZ s m (jN s a) (k+1)
theorem ZI{s:Sy}{a:List (List Int)}(m k:Nat)(h:a=jN s a):tZ s m a k=(a,k):=by
 cases m with
 |zero=>rfl
 |succ m=>exact ag h
theorem adu{s:Sy}{a:List (List Int)}(m k:Nat)(h:¬a=jN s a):tZ s (m+1) a k=tZ s m (jN s a) (k+1):=ah h
theorem Qj{s:Sy}(hg:Good s):mb s (za s):=by
 refine⟨by rw[Xk];have:=hg.n1;omega,fun x hx=>?_⟩
 rw[(O8.1 hx).2]
 exact⟨HB hg.uu,HW _ _⟩
def y9(s:Sy):Int:=s.n*dZ s.what s.w+1
theorem GN(what w:Int):0≤dZ what w∧dZ what w≤2048:=by
 unfold dZ
 split
 ·rename_i h
  unfold dC at h;simp at h
  split <;> omega
 ·omega
theorem aar{s:Sy}(hg:Good s):IntKind.i64.wrap (IntKind.i64.wrap (s.n*dZ s.what s.w)+1)=y9 s∧0≤y9 s∧y9 s≤1000000:=by
 have h1:=hg.n1
 have h2:=hg.n2
 have h3:=GN s.what s.w
 have h4:s.n*dZ s.what s.w≤256*2048:=Int.mul_le_mul h2 h3.2 h3.1 (by decide)
 have h5:0≤s.n*dZ s.what s.w:=Int.mul_nonneg (by omega) h3.1
 unfold y9
 rw[dh (n:=s.n*dZ s.what s.w) (by omega),dh (by omega)]
 omega
def pF(s:Sy):List (List Int)×Nat:=tZ s (y9 s).toNat (za s) 0
def tY(n:Nat)(f:Nat→Nat):Nat:=((List.range n).map f).sum
theorem KU(n:Nat)(f:Nat→Nat):tY (n+1) f=tY n f+f n:=by unfold tY;rw[List.range_succ,List.map_append,List.sum_append];simp
theorem KV{f g:Nat→Nat}:∀n,(∀i,i<n→f i≤g i)→tY n f≤tY n g∧(tY n f=tY n g→∀i,i<n→f i=g i)
 | 0,_=>⟨aM _,fun _ i h=>absurd h (ml i)⟩
 |n+1,h=>by
  obtain⟨h1,h2⟩:=KV n fun i hi=>h i (by omega)
  have h3:=h n (by omega)
  rw[KU,KU]
  refine⟨by omega,fun e i hi=>?_⟩
  by_cases eg:i=n
  ·subst eg;omega
  ·exact h2 (by omega) i (by omega)
theorem Hj{f:Nat→Nat}{c:Nat}:∀n,(∀i,i<n→f i≤c)→tY n f≤n*c
 | 0,_=>bK _
 |n+1,h=>by
  have h1:=Hj n fun i hi=>h i (by omega)
  have h2:=h n (by omega)
  rw[KU,lR];omega
def ER(b:Bool):Nat:=if b=true then 1 else 0
def I8(z:Int):Nat:=if z=0 then 0 else if z=1 then 2 else 1
def qH(what:Int)(x:List Int)(j:Nat):Nat:=if what=3 then I8 (wd x j) else if what=1 then ER (ee x (j / 64) (j % 64)) else ER (!ee x (j / 64) (j % 64))
def sr(what w:Int)(x:List Int):Nat:=tY w.toNat (qH what x)
theorem Uu{w:Int}{a b:List Int}(h:dy 3 w a b){i:Nat}(hi:i<a.length):wd a i=wd b i∨wd a i=0∨wd b i=1:=by
 have hl:=xd h.1.v h.2.1.v
 have va:=((jK (mC h.1.v) rfl).1 h.1.v).2
 have vb:=((jK (mC h.1.v) rfl).1 h.2.1.v).2
 have:=ve va vb hi (by omega)
 rw[h.2.2]at this
 unfold jn at this
 split at this
 ·exact .inl this.symm
 ·split at this
  ·rename_i h0;exact .inr (.inl h0)
  ·exact .inr (.inr this)
theorem ae5{what w:Int}(hs:what=1∨what=2){a b:List Int}(h:dy what w a b){i k:Nat}(hi:i<a.length):ji what (ee a i k) (ee b i k)=ee b i k:=by
 have hl:=xd h.1.v h.2.1.v
 rw[← o9 hs h.1.dh h.2.1.dh hl i k hi,h.2.2]
theorem afi{what w:Int}{a b:List Int}(h:dy what w a b){j:Nat}(hj:j<w.toNat):qH what a j≤qH what b j:=by
 have hi:=mC h.1.v
 by_cases h3:what=3
 ·subst h3
  have hl:=((jK hi rfl).1 h.1.v).1
  unfold qH I8
  rw[ag rfl,ag rfl]
  rcases Uu h (i:=j) (by omega) with e | e | e
  ·rw[e];exact aM _
  ·rw[ag e];exact bK _
  ·rw[e]
   rw[ah (show ¬(1:Int)=0 by decide),ag rfl]
   split
   ·omega
   ·split <;> omega
 ·have hs:=HP hi h3
  have hla:=n9 ((qd hi h3).1 h.1.v)
  have hw:eS w=w.toNat:=by unfold dC at hi;simp at hi;unfold eS;omega
  have ab:j / 64<a.length:=by rw[hla];unfold eX;omega
  have hb:=ae5 hs h (k:=j % 64) ab
  unfold qH ER
  rw[ah h3,ah h3]
  unfold ji at hb
  rcases hs with rfl | rfl
  ·rw[ag rfl,ag rfl]
   rw[ag rfl]at hb
   revert hb
   cases ee a (j / 64) (j % 64) <;> cases ee b (j / 64) (j % 64) <;> simp
  ·rw[ah (show ¬(2:Int)=1 by decide),ah (show ¬(2:Int)=1 by decide)]
   rw[ah (show ¬(2:Int)=1 by decide)]at hb
   revert hb
   cases ee a (j / 64) (j % 64) <;> cases ee b (j / 64) (j % 64) <;> simp
theorem afj{what w:Int}{a b:List Int}(h:dy what w a b)(he:∀j,j<w.toNat→qH what a j=qH what b j):a=b:=by
 have hi:=mC h.1.v
 have hl:=xd h.1.v h.2.1.v
 refine C4 h.1 h.2.1 (fun h3 i ab=>?_) (fun hs i k ab hk=>?_)
 ·subst h3
  have hw:=((jK hi rfl).1 h.1.v).1
  have:=he i (by omega)
  unfold qH I8 at this
  rw[ag rfl,ag rfl]at this
  rcases Uu h ab with e | e | e
  ·exact e
  ·rw[ag e]at this
   split at this
   ·omega
   ·split at this <;> omega
  ·rw[e,ah (show ¬(1:Int)=0 by decide),ag rfl]at this
   split at this
   ·omega
   ·split at this
    ·omega
    ·omega
 ·have h3:¬what=3:=by omega
  have fa:=(qd hi h3).1 h.1.v
  have fb:=(qd hi h3).1 h.2.1.v
  have hw:eS w=w.toNat:=by unfold dC at hi;simp at hi;unfold eS;omega
  by_cases hc:64*i+k<eS w
  ·have:=he (64*i+k) (by omega)
   unfold qH ER at this
   rw[ah h3,ah h3,show (64*i+k) / 64=i by omega,show (64*i+k) % 64=k by omega]at this
   revert this
   split <;> cases ee a i k <;> cases ee b i k <;> simp
  ·rw[(rh h.1.dh (n9 fa)).1 fa i k ab hk (by omega),(rh h.2.1.dh (n9 fb)).1 fb i k (by omega) hk (by omega)]
theorem Qa{what w:Int}(x:List Int)(hi:dC what w=true):(sr what w x:Int)≤dZ what w:=by
 unfold dZ sr
 rw[ag hi]
 unfold dC at hi;simp at hi
 by_cases h3:what=3
 ·rw[ag h3]
  have:=Hj (f:=qH what x) (c:=2) w.toNat fun i _=>by
   unfold qH I8
   rw[ag h3]
   split
   ·omega
   ·split <;> omega
  omega
 ·rw[ah h3]
  have:=Hj (f:=qH what x) (c:=1) w.toNat fun i _=>by
   unfold qH ER
   rw[ah h3]
   split <;> split <;> omega
  omega
theorem L4{what w:Int}{a b:List Int}(h:dy what w a b):sr what w a≤sr what w b∧(sr what w a=sr what w b→a=b):=by
 have:=KV w.toNat fun j hj=>afi h hj
 exact⟨this.1,fun e=>afj h (this.2 e)⟩
def tX(s:Sy)(a:List (List Int)):Nat:=tY s.n.toNat fun v=>sr s.what s.w (a.getD v [])
theorem adn{s:Sy}{a b:List (List Int)}(h:mg s a b):tX s a≤tX s b∧(tX s a=tX s b→a=b):=by
 have:=KV (f:=fun v=>sr s.what s.w (a.getD v [])) (g:=fun v=>sr s.what s.w (b.getD v [])) s.n.toNat fun v hv=>(L4 (h.2.2 v (by omega))).1
 refine⟨this.1,fun e=>?_⟩
 have la:=h.1.len
 have lb:=h.2.1.len
 refine Cn (by omega) fun i h1 h2=>?_
 have hv:=(L4 (h.2.2 i (by omega))).2 (this.2 e i (by omega))
 rw[aR,aR,bc h1,bc h2]at hv
 exact hv
theorem Ri{s:Sy}(hg:Good s)(a:List (List Int)):(tX s a:Int)≤s.n*dZ s.what s.w:=by
 have hh:=GN s.what s.w
 have:=Hj (f:=fun v=>sr s.what s.w (a.getD v [])) (c:=(dZ s.what s.w).toNat) s.n.toNat fun v _=>by
  have:=Qa (a.getD v []) hg.uu
  omega
 have hn:=hg.n1
 have e:(s.n.toNat*(dZ s.what s.w).toNat:Nat)=s.n*dZ s.what s.w:=by
  rw[r8,lT (by omega),lT hh.1]
 unfold tX
 omega
theorem Yo{s:Sy}{i:Nat}(h:(i:Int)<s.n):(za s).getD i []=iM s.what s.w:=by
 unfold za
 rw[aR,uT,ag (by omega)];rfl
theorem R4{s:Sy}(hg:Good s){a:List (List Int)}(h:mb s a):mg s (za s) a:=
 ⟨Qj hg,h,fun i hi=>by rw[Yo hi];exact bot_le (h.get hi)⟩
theorem QC{s:Sy}(hf:Fit s)(hg:Good s):∀(m:Nat) (a:List (List Int)) (k:Nat),mg s a (jN s a)→k≤tX s a→s.n*dZ s.what s.w+1≤(k+m:Nat)→
  mb s (tZ s m a k).1∧(tZ s m a k).1=jN s (tZ s m a k).1∧((tZ s m a k).2:Int)≤s.n*dZ s.what s.w∧∀y,mg s (jN s y) y→mg s a y→mg s (tZ s m a k).1 y
 | 0,a,k,h,hk,hm=>by have:=Ri hg a;omega
 |m+1,a,k,h,hk,hm=>by
  by_cases e:a=jN s a
  ·rw[ZI _ _ e]
   have:=Ri hg a
   exact⟨h.1,e,by show ((k:Nat):Int)≤_;omega,fun y _ hy=>hy⟩
  ·rw[adu _ _ e]
   have h2:=Rl hf hg h
   have ab:k+1≤tX s (jN s a):=by
    have:=adn h
    by_cases e2:tX s a=tX s (jN s a)
    ·exact absurd (this.2 e2) e
    ·omega
   obtain⟨q1,q2,q3,q4⟩:=QC hf hg m (jN s a) (k+1) h2 ab (by omega)
   exact⟨q1,q2,q3,fun y hy hay=>q4 y hy ((Rl hf hg hay).trans hy)⟩
theorem CM{s:Sy}(hf:Fit s)(hg:Good s):mb s (pF s).1∧(pF s).1=jN s (pF s).1∧((pF s).2:Int)≤s.n*dZ s.what s.w∧∀y,mg s (jN s y) y→mg s (pF s).1 y:=by
 have hb:=Qj hg
 have he:=aar hg
 obtain⟨q1,q2,q3,q4⟩:=QC hf hg (y9 s).toNat (za s) 0 (R4 hg (GB hf hg hb)) (bK _) (by unfold y9 at he ⊢;omega)
 exact⟨q1,q2,q3,fun y hy=>q4 y hy (R4 hg hy.2.1)⟩
def iZ(s:Sy)(v:Int):Int:=if dH s=0 then (if dL s.n v=true then 0 else 1) else dH s
theorem Z6{s:Sy}{v:Int}(h:¬dH s=0):dH s=iZ s v:=(ah h).symm
theorem SV{s:Sy}{v:Int}(h:dH s=0)(hv:¬(0≤v∧v<s.n)):1=iZ s v:=by unfold iZ;rw[ag h,ah];rw[kM];exact hv
theorem GK{s:Sy}{v:Int}(h:dH s=0)(hv:0≤v∧v<s.n):0=iZ s v:=by unfold iZ;rw[ag h,ag];rw[kM];exact hv
theorem YO{s:Sy}{v:Int}(h:iZ s v=0):Good s∧0≤v∧v<s.n:=by
 unfold iZ at h
 split at h
 ·rename_i h1
  split at h
  ·rename_i h2;exact⟨Mj h1,kM.1 h2⟩
  ·cases h
 ·rename_i h1;exact absurd h h1
theorem Tz(s:Sy)(v:Int)(σ:Hp)(hf:Fit s):ACalls Tryz.prog 211 [.agg (cd s),.int .i64 v] σ (aE (.int .i64 (iZ s v)) σ):=by
 refine aA Tryz.func211 ?_
 intro aG
 refine aa 0 ?_
 refine aB [] (GX s _ hf) ?_
 refine eG (fun c1=>?_) (fun c1=>?_)
 ·have c1:(!decide (dH s=0))=true:=c1
  have c1:¬dH s=0:=by simpa using c1
  exact .drop 0 1 (.done ⟨aW (Z6 c1),rfl⟩)
 ·have c1:(!decide (dH s=0))=false:=c1
  have c1:dH s=0:=by simpa using c1
  refine aq (p:=v<0) (fun c2=>?_) (fun c2=>?_)
  ·exact .drop 0 1 (.done ⟨aW (SV c1 (by omega)),rfl⟩)
  ·refine aa 0 ?_
   refine aq (p:=s.n≤v) (fun c3=>?_) (fun c3=>?_)
   ·exact .drop 0 1 (.done ⟨aW (SV c1 (by omega)),rfl⟩)
   ·exact .drop 0 1 (.done ⟨aW (GK c1 (by omega)),rfl⟩)
theorem aaQ(s:Sy)(v:Int)(σ:Hp)(hf:Fit s):ACalls Tryz.prog 158 [.agg (cd s),.int .i64 v] σ (aE (.tup [.ai (.int .u64) (sO (iZ s v) (ik s v)),.int .i64 (iZ s v)]) σ):=by
 refine aA Tryz.func158 ?_
 intro aG
 refine aa 0 ?_
 refine aB [] (Tz s v _ hf) ?_
 refine eG (fun c1=>?_) (fun c1=>?_)
 ·have c1:(!decide (iZ s v=0))=true:=c1
  have c1:¬iZ s v=0:=by simpa using c1
  exact .nil (eH (.nil _) (.refl _)) (.drop 0 1 (.done ⟨by rw[Hs c1];rfl,rfl⟩))
 ·have c1:(!decide (iZ s v=0))=false:=c1
  have c1:iZ s v=0:=by simpa using c1
  refine aa 0 ?_
  refine aB [] (ag2 s v _ hf) ?_
  exact .drop 0 1 (.done ⟨by rw[Dm c1,c1];rfl,rfl⟩)
def pI(s:Sy)(v:Int)(x:List Int):Int:=if iZ s v=0 then (if cR s.what s.w x=true then 0 else 2) else iZ s v
theorem abF{s:Sy}{v:Int}(x:List Int)(h:¬iZ s v=0):pI s v x=iZ s v:=ah h
theorem SK{s:Sy}{v:Int}{x:List Int}(h:iZ s v=0)(hv:cR s.what s.w x=true):pI s v x=0:=by unfold pI;rw[ag h,ag hv]
theorem aeJ(s:Sy)(v:Int)(x:List Int)(σ:Hp)(hf:Fit s)(hx:bA x)(lx:x.length≤10000):ACalls Tryz.prog 399 [.agg (cd s),.int .i64 v,.ai (.int .u64) x] σ (aE (.tup [.ai (.int .u64) (sO (pI s v x) (jO s x v.toNat)),.int .i64 (pI s v x)]) σ):=by
 refine aA Tryz.func399 ?_
 intro aG
 refine aa 0 ?_
 refine aB [] (Tz s v _ hf) ?_
 refine eG (fun c1=>?_) (fun c1=>?_)
 ·have c1:(!decide (iZ s v=0))=true:=c1
  have c1:¬iZ s v=0:=by simpa using c1
  have e:=abF x c1
  exact .nil (eH (.nil _) (.refl _)) (.drop 0 1 (.done ⟨by rw[e,Hs c1];rfl,rfl⟩))
 ·have c1:(!decide (iZ s v=0))=false:=c1
  have c1:iZ s v=0:=by simpa using c1
  obtain⟨hg,oP,cX⟩:=YO c1
  obtain⟨hT,hTe⟩:=Ns hg (v:=v.toNat) (by omega)
  have ht:=hf.ts _ (cD hT)
  have hc:=hg.I7 _ (cD hT)
  have hA:=fun σ=>aeI s.what s.w s.T[v.toNat].1 s.T[v.toNat].2.1 s.T[v.toNat].2.2.1 x σ ht.1 ht.2.1 hx ht.2.2.1 ht.2.2.2.1 lx (fy ht.2.2.2.2 (by decide))
  have hoe:gp s.what s.T[v.toNat].1 s.T[v.toNat].2.1 s.T[v.toNat].2.2.1 x=jO s x v.toNat:=by unfold jO;rw[hTe]
  have hE:vU s.what s.w s.T[v.toNat].1 s.T[v.toNat].2.1 s.T[v.toNat].2.2.1 x=pI s v x:=by unfold pI vU;rw[ag hc,ag c1]
  rw[hoe,hE]at hA
  refine .quiet (by kernel_rfl) ?_
  refine aa 0 ?_
  refine aa 0 ?_
  refine aa 0 ?_
  refine aH.mk rfl (cg.mk s.T[v.toNat] (by omega) (bc hT) ?_)
  refine aI [] (hA _) ?_
  exact .drop 0 1 (.done ⟨rfl,rfl⟩)
theorem lu{n:Int}{l:List bg}{a b:Int}:b∈ar n l a↔(0≤b∧b<n)∧(0≤a∧a<n)∧∃e∈l,e.1=a∧e.2.1=b:=by
 unfold ar jx
 rw[ki,decide_eq_true_eq,cY,cY]
 constructor
 ·rintro⟨⟨i,hi,rfl⟩,e,he,h2⟩
  have hi:=fA.1 hi
  obtain⟨h3,h4⟩:=ki.1 he
  simp only[bL,decide_eq_true_eq,kM]at h4
  exact⟨by omega,h4.1.2,e,h3,h4.1.1,h2⟩
 ·rintro⟨h1,h2,e,h3,h4,h5⟩
  refine⟨⟨b.toNat,fA.2 (by omega),by omega⟩,e,ki.2 ⟨h3,?_⟩,h5⟩
  simp only[bL,decide_eq_true_eq,kM]
  exact⟨⟨h4,h2⟩,by omega⟩
theorem yO(n:Int)(l:List bg)(a:Int):(ar n l a).length≤n.toNat:=by
 unfold ar
 exact Nat.le_trans (List.length_filter_le _ _) (by simp)
theorem KB{s:Sy}(hf:Fit s)(hg:Good s){a:List (List Int)}(ha:mb s a)(v:Nat):∀k,k≤s.aL.length→dy s.what s.w (ik s v) (og s a k v)∧∀e∈s.aL.take k,e.2.1=v→dy s.what s.w (jO s (a.getD e.1.toNat []) e.1.toNat) (og s a k v)
 | 0,_=>⟨dy.refl (GD hf hg v),fun e he=>by cases he⟩
 |k+1,hk=>by
  obtain⟨h1,h2⟩:=KB hf hg ha v k (by omega)
  have ab:k<s.aL.length:=by omega
  have hv:=ZB hf hg ha v k (by omega)
  have he:=hg.vW _ (cD ab)
  have ho:eF s.what s.w (jO s (a.getD s.aL[k].1.toNat []) s.aL[k].1.toNat):=by
   have hx:=ha.get (i:=s.aL[k].1.toNat) (by omega)
   have:=L7 hf hg hx.dh hx.v (v:=s.aL[k].1.toNat) (by omega)
   exact⟨this.1,this.2⟩
  have lN:dy s.what s.w (og s a k v) (og s a (k+1) v):=by
   rw[Ap s a ab]
   unfold zm
   split
   ·exact dy.left hv ho
   ·exact dy.refl hv
  refine⟨h1.trans lN,fun e hm k8=>?_⟩
  rw[fQ ab]at hm
  rcases bP.1 hm with hm | hm
  ·exact (h2 e hm k8).trans lN
  ·rw[a8.1 hm]at k8 ⊢
   rw[Ap s a ab]
   unfold zm
   rw[ag k8]
   exact dy.right hv ho
end Go.Proofs.YtnikdflhefijbaaGreat
