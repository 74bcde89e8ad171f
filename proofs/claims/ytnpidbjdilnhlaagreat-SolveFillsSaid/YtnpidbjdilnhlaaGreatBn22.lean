import Derived.Test.YtnpidbjdilnhlaaGreatBn21
import Derived.Shelf.Slices.CompactI
import Derived.Shelf.Slices.In.SortNone
import Derived.Shelf.Sort.Plain
import Derived.Test.YtnpidbjdilnhlaaGreatBn11
namespace Go.Proofs.YtnpidbjdilnhlaaGreat
open Go.RowKit
set_option maxRecDepth 100000
def fG(l:List Int)(x:Int):Bool:=l.any fun z=>decide (x=z)
theorem qf{l:List Int}{x:Int}:fG l x=true↔x∈l:=by unfold fG;simp
theorem U6{l:List Int}{k:Nat}(h:k<l.length){z:Int}(hz:z=k):(ak l)[0+z.toNat*1]?=some (.int .i64 (l.getD k 0)):=by
 subst hz
 rw[Int.toNat_natCast,Nat.mul_one,Nat.zero_add]
 unfold ak
 rw[List.getElem?_map,List.getElem?_eq_getElem h,List.getD_eq_getElem?_getD,List.getElem?_eq_getElem h];rfl
theorem nO(l:List Int):(ak l).length=l.length:=List.length_map _
theorem Rz{l:List Int}{x:Int}{k:Nat}(h:k<l.length):fG (l.take (k+1)) x=(fG (l.take k) x || decide (x=l.getD k 0)):=by
 unfold fG
 rw[kF h,List.getD_eq_getElem?_getD,List.getElem?_eq_getElem h];rfl
theorem Bh{v:AV}{acc:Hp}(l:List Int)(x:Int)(σ:Hp)(hl:l.length≤1000000)(h:Acc 1 l.length v acc (ak l)):ACalls Tryz.prog 112 [v,.int .i64 x] (acc++σ) (aB (.bool (fG l x)) (acc++σ)):=by
 generalize hn:l.length=n at h
 generalize hc:ak l=cs at h
 cases h with
 | nil =>
  obtain rfl:=List.length_eq_zero_iff.1 hn
  exact CL (bL (.nil _) (bL (.refl _) nP)) (Fl [] x _ (by decide))
 | ae b k cs h =>
  subst hn
  subst hc
  refine okF Tryz.func112 (by kernel_rfl) ?_
  refine aU (S:=Nat) (fun k=>[(1,.int .i64 x),(7,.ae b 0 l.length 1),(8,.int .i64 l.length),(9,.int .i64 k)]) (fun _=>(b,ak l)::σ) (fun k=>k≤l.length∧fG (l.take k) x=false) (fun k=>l.length-k) 0 ⟨⟨Nat.zero_le _,rfl⟩,⟨rfl,rfl,rfl,rfl,trivial⟩,rfl⟩ ?_
  rintro k g ⟨aG,eA⟩
  have hk:k≤l.length:=aG
  have ha:fG (l.take k) x=false:=eA
  clear aG eA
  refine an (p:=(k:Int)<(l.length:Int)) (fun ab =>?_) (fun aq =>?_)
  ·have ab:k<l.length:=by omega
   have hs:=Rz (x:=x) ab
   rw[ha,Bool.false_or]at hs
   refine ah.mk ⟨rfl,by omega,by omega⟩ ?_
   refine aa.mk 0 _ _ rfl (eO rfl (U6 ab rfl)) ?_
   refine an (p:=l.getD k 0=x) (fun d1 =>?_) (fun d1 =>?_)
   ·refine .done ⟨bz (qf.2 ?_).symm,rfl⟩
    rw[← d1,List.getD_eq_getElem?_getD,List.getElem?_eq_getElem ab];exact List.getElem_mem ab
   ·exact aH (k+1) (by show l.length-(k+1)<l.length-k;omega) ⟨ab,hs.trans (decide_eq_false fun h=>d1 h.symm)⟩ ⟨rfl,rfl,rfl,aI (by omega),trivial⟩ (.refl _)
  ·have aq:k=l.length:=by omega
   subst aq
   rw[List.take_length]at ha
   exact .done ⟨bz ha.symm,rfl⟩
theorem Vi{P:Program}{f:FuncId}{xs:List AV}{σ:Hp}{K:AV→Hp→Prop}(fr:Hp){acc:Hp}{x:AV}(h:∀σ,ACalls P f xs (acc++σ) (aB x (acc++σ)))(k:K x (fr++(acc++σ))):CallAt P f K xs (fr++(acc++σ)):=
 .perm _ (rL fr acc σ) (h (fr++σ)) fun _ _ ⟨h1,h2⟩=>⟨_,(rL fr acc σ).symm.trans (h2▸.refl _),h1▸k⟩
theorem xn{P:Program}{f:FuncId}{xs:List AV}{σ:Hp}{K:AV→Hp→Prop}(fr:Hp){acc:Hp}{b:Bool}(h:∀σ,ACalls P f xs (acc++σ) (aB (.bool b) (acc++σ)))(k1:b=true→K (.bool true) (fr++(acc++σ)))(k2:b=false→K (.bool false) (fr++(acc++σ))):CallAt P f K xs (fr++(acc++σ)):=
 Vi fr h (by cases b;exact k2 rfl;exact k1 rfl)
theorem EO(l:List Int)(x:Int)(σ:Hp)(hl:l.length≤1000000):ACalls Tryz.prog 112 [.af (.int .i64) l,.int .i64 x] σ (aB (.bool (fG l x)) σ):=Fl l x σ hl
def ku(n:Int)(l:List aK)(a b:Int):Bool:=fG (qj n l [a]) b
theorem Np(b:List Bool)(k:Nat):(gV b k).length≤k:=by unfold gV;rw[List.length_map];exact Nat.le_trans (List.length_filter_le _ _) (by simp)
theorem M8(n:Nat)(l:List aK)(fr:List Int):(qj n l fr).length≤n:=by
 have:=Np (nS n l fr) ((n:Int)).toNat
 rw[Int.toNat_natCast]at this
 exact this
theorem MO(n:Nat)(l:List aK)(a b:Int)(σ:Hp)(hl:l.length≤100000)(hn:n≤100000):ACalls Tryz.prog 261 [.int .i64 n,.af bA l,.int .i64 a,.int .i64 b] σ (aB (.bool (ku n l a b)) σ):=by
 refine okF Tryz.func261 (by kernel_rfl) ?_
 intro aC
 refine .bO (args':=[.int .i64 n,.af bA l,.af (.int .i64) [a]]) 0 aC 0 1 1 _ (.int .i64) [a] rfl rfl ⟨rfl,rfl,by decide⟩ (bL (.refl _) (bL (.refl _) (bL .here nP))) (az [] (QJ n l [a] _ hl hn (by show 1≤100000;omega)) ?_)
 refine az [] (EO _ _ _ (by have:=M8 n l [a];omega)) ?_
 exact .done ⟨rfl,rfl⟩
def jv(n:Int)(l:List aK)(a:Int)(k:Nat):List Int:=((List.range k).filter fun b:Nat=>ku n l a b && ku n l b a).map fun i:Nat=>(i:Int)
def dr(n:Int)(l:List aK)(a:Int):List Int:=jv n l a n.toNat
theorem NO(n:Int)(l:List aK)(a:Int)(k:Nat):jv n l a (k+1)=jv n l a k++(if (ku n l a k && ku n l k a)=true then [(k:Int)] else []):=by
 unfold jv
 rw[List.range_succ,List.filter_append,List.map_append]
 congr 1
 by_cases h:(ku n l a k && ku n l k a)=true
 ·rw[if_pos h,List.filter_cons_of_pos (p:=fun b:Nat=>ku n l a b && ku n l b a) h];rfl
 ·rw[if_neg h,List.filter_cons_of_neg (p:=fun b:Nat=>ku n l a b && ku n l b a) h];rfl
theorem GJ(n:Int)(l:List aK)(a:Int)(k:Nat):(jv n l a k).length≤k:=by unfold jv;rw[List.length_map];exact Nat.le_trans (List.length_filter_le _ _) (by simp)
theorem Vz(n:Nat)(l:List aK)(a:Int)(σ:Hp)(hl:l.length≤100000)(hn:n≤100000):ACalls Tryz.prog 210 [.int .i64 n,.af bA l,.int .i64 a] σ (aB (.af (.int .i64) (dr n l a)) σ):=by
 refine okF Tryz.func210 (by kernel_rfl) ?_
 refine .wrap 7 _ rfl rfl ?_
 refine aU (S:=Nat×AV×Hp) (fun s=>[(0,.int .i64 n),(1,.af bA l),(2,.int .i64 a),(7,.via s.2.1),(8,.int .i64 s.1)]) (fun s=>s.2.2++σ) (fun s=>s.1≤n∧Acc 1 (jv n l a s.1).length s.2.1 s.2.2 (ak (jv n l a s.1))) (fun s=>n-s.1) (0,.aj,[]) ⟨⟨Nat.zero_le _,.nil⟩,⟨rfl,rfl,rfl,rfl,rfl,trivial⟩,rfl⟩ ?_
 rintro⟨k,v,acc⟩ g ⟨aG,eR⟩
 have hk:k≤n:=aG
 have bc:Acc 1 (jv n l a k).length v acc (ak (jv n l a k)):=eR
 clear aG eR
 have cO:=GJ n l a k
 have hs:=NO n l a k
 refine an (p:=(k:Int)<n) (fun ab =>?_) (fun aq =>?_)
 rotate_left
 ·have aq:k=n:=by omega
  subst aq
  exact jR (s:=.int .i64) [] bc rfl (fi _) (by decide) (.done ⟨by unfold dr;rw[Int.toNat_natCast],rfl⟩)
 have ab:k<n:=by omega
 refine cm [] (MO n l a k _ hl hn) (fun c1 =>?_) (fun c1 =>?_)
 ·refine cm [] (MO n l k a _ hl hn) (fun c2 =>?_) (fun c2 =>?_)
  ·rw[c1,c2,if_pos (by rfl)]at hs
   intro bM
   refine dX [_] bc (.ae 0 bM 0 1 _ rfl (Nat.le_of_ble_eq_true rfl)) rfl (by omega) (by decide) (by decide) (fun v' aP h' =>?_)
   refine aH (k+1,v',aP) (by show n-(k+1)<n-k;omega) ⟨ab,?_⟩ ⟨rfl,rfl,rfl,rfl,aI (by omega),trivial⟩ (.drop 0 1 (aF rfl))
   show Acc 1 (jv n l a (k+1)).length v' aP (ak (jv n l a (k+1)))
   rw[hs,List.length_append,ak,List.map_append]
   exact h'
  ·rw[c2,Bool.and_false,if_neg (by decide),List.append_nil]at hs
   exact aH (k+1,v,acc) (by show n-(k+1)<n-k;omega) ⟨ab,by show Acc 1 (jv n l a (k+1)).length v acc (ak (jv n l a (k+1)));rw[hs];exact bc⟩ ⟨rfl,rfl,rfl,rfl,aI (by omega),trivial⟩ (.refl _)
 ·rw[c1,Bool.false_and,if_neg (by decide),List.append_nil]at hs
  exact aH (k+1,v,acc) (by show n-(k+1)<n-k;omega) ⟨ab,by show Acc 1 (jv n l a (k+1)).length v acc (ak (jv n l a (k+1)));rw[hs];exact bc⟩ ⟨rfl,rfl,rfl,rfl,aI (by omega),trivial⟩ (.refl _)
theorem Qz{e k:Nat}{v:AV}{acc:Hp}{cs:List AV}(h:Acc e k v acc cs):v.leaf=true:=by cases h <;> rfl
def mZ(l:List aK)(part told:List Int):Bool:=l.all fun e => !(fG part e.2.1 && !fG part e.1 && !fG told e.1)
theorem VG(l:List aK)(part told:List Int){v:AV}{acc:Hp}(σ:Hp)(hl:l.length≤100000)(hp:part.length≤1000000)(ht:told.length≤1000000)(h:Acc 1 told.length v acc (ak told)):ACalls Tryz.prog 211 [.af bA l,.af (.int .i64) part,v] (acc++σ) (aB (.bool (mZ l part told)) (acc++σ)):=by
 refine okF Tryz.func211 (by kernel_rfl) ?_
 refine .wrap 2 v rfl (Qz h) ?_
 refine aU (S:=Nat) (fun k=>[(1,.af (.int .i64) part),(2,.via v),(9,.af bA l),(10,.int .i64 l.length),(11,.int .i64 k)]) (fun _=>acc++σ) (fun k=>k≤l.length∧mZ (l.take k) part told=true) (fun k=>l.length-k) 0 ⟨⟨Nat.zero_le _,rfl⟩,⟨rfl,rfl,rfl,rfl,rfl,trivial⟩,rfl⟩ ?_
 rintro k g ⟨aG,eA⟩
 have hk:k≤l.length:=aG
 have ha:mZ (l.take k) part told=true:=eA
 clear aG eA
 refine an (p:=(k:Int)<(l.length:Int)) (fun ab =>?_) (fun aq =>?_)
 ·have ab:k<l.length:=by omega
  obtain⟨e,hle⟩:∃e:aK,l[k]=e:=⟨_,rfl⟩
  refine ah.mk rfl (aT.mk e (by omega) ((get_some ab).trans (congrArg some hle)) ?_)
  intro aC
  refine ai.mk 0 _ _ rfl rfl ?_
  refine aa.mk 0 _ _ rfl rfl ?_
  have hs:mZ (l.take (k+1)) part told = !(fG part e.2.1 && !fG part e.1 && !fG told e.1):=by
   unfold mZ at ha ⊢
   rw[List.take_add_one,List.all_append,ha,List.getElem?_eq_getElem ab,hle]
   simp
  have qY:(!(fG part e.2.1 && !fG part e.1 && !fG told e.1))=false→mZ l part told=false:=fun h=>by
   rw[Bool.eq_false_iff]
   intro h2
   unfold mZ at h2
   rw[List.all_eq_true]at h2
   have:=h2 e (hle▸List.getElem_mem ab)
   rw[h]at this
   cases this
  refine cm [] (EO part e.2.1 _ hp) (fun c1 =>?_) (fun c1 =>?_)
  rotate_left
  ·exact aH (k+1) (by show l.length-(k+1)<l.length-k;omega) ⟨ab,hs.trans (by rw[c1];rfl)⟩ ⟨rfl,rfl,rfl,rfl,aI (by omega),trivial⟩ (.drop 0 1 (.refl _))
  refine aa.mk 0 _ _ rfl rfl ?_
  refine cm [] (EO part e.1 _ hp) (fun c2 =>?_) (fun c2 =>?_)
  ·exact aH (k+1) (by show l.length-(k+1)<l.length-k;omega) ⟨ab,hs.trans (by rw[c1,c2];rfl)⟩ ⟨rfl,rfl,rfl,rfl,aI (by omega),trivial⟩ (.drop 0 1 (.refl _))
  refine aa.mk 0 _ _ rfl rfl ?_
  refine xn [_] (fun σ=>Bh told e.1 σ ht h) (fun c3 =>?_) (fun c3 =>?_)
  ·exact aH (k+1) (by show l.length-(k+1)<l.length-k;omega) ⟨ab,hs.trans (by rw[c1,c2,c3];rfl)⟩ ⟨rfl,rfl,rfl,rfl,aI (by omega),trivial⟩ (.drop 0 1 (.refl _))
  ·exact .drop 0 1 (.done ⟨bz (qY (by rw[c1,c2,c3];rfl)).symm,rfl⟩)
 ·have aq:k=l.length:=by omega
  subst aq
  rw[List.take_length]at ha
  exact .done ⟨bz ha.symm,rfl⟩
end Go.Proofs.YtnpidbjdilnhlaaGreat
namespace Go.Proofs.YtnpidbjdilnhlaaGreat
open Go.RowKit
set_option maxRecDepth 100000
theorem wB{b:List Bool}{i j:Nat}{x:Bool}:(b.set i x).getD j false=if i=j∧j<b.length then x else b.getD j false:=by
 simp only[List.getD_eq_getElem?_getD,List.getElem?_set]
 by_cases h:i=j
 ·subst h
  by_cases h2:i<b.length
  ·simp[h2]
  ·simp[h2]
 ·simp[h]
theorem Pt{b:List Bool}{i j:Nat}(h:b.getD j false=true):(b.set i true).getD j false=true:=by
 rw[wB];split
 ·rfl
 ·exact h
theorem RC{n:Int}{b:List Bool}{e:aK}{j:Nat}(h:b.getD j false=true):(iL n b e).getD j false=true:=by
 unfold iL;split
 ·exact Pt h
 ·exact h
theorem G2{n:Int}:∀(l:List aK) {b:List Bool} {j:Nat},b.getD j false=true→(iw n l b).getD j false=true
 | [],_,_,h=>h
 | _::l,_,_,h=>G2 l (RC h)
theorem GP{n:Int}{l:List aK}:∀(k:Nat) {b:List Bool} {j:Nat},b.getD j false=true→(l4 n l k b).getD j false=true
 | 0,_,_,h=>h
 | k+1,_,_,h=>GP k (G2 l h)
theorem OH{b:List Bool}{k:Nat}{z:Int}:z∈gV b k↔∃i:Nat,i<k∧b.getD i false=true∧z=i:=by
 unfold gV
 rw[List.mem_map]
 constructor
 ·rintro⟨i,hi,rfl⟩
  rw[List.mem_filter,List.mem_range]at hi
  exact⟨i,hi.1,hi.2,rfl⟩
 ·rintro⟨i,h1,h2,rfl⟩
  exact⟨i,by rw[List.mem_filter,List.mem_range];exact⟨h1,h2⟩,rfl⟩
theorem Oy{n:Nat}{l:List aK}{a:Nat}(h:a<n):(a:Int)∈qj n l [(a:Int)]:=by
 unfold qj
 rw[OH]
 refine⟨a,by omega,?_,rfl⟩
 unfold nS
 refine GP _ ?_
 show (iT n (List.replicate ((n:Int)).toNat false) a).getD a false=true
 unfold iT
 rw[if_pos (by omega),Int.toNat_natCast,Int.toNat_natCast,wB,if_pos ⟨rfl,by simpa using h⟩]
theorem QX{n:Nat}{l:List aK}{a:Nat}(h:a<n):ku n l a a=true:=qf.2 (Oy h)
theorem CX{n:Nat}{l:List aK}{a z:Int}:z∈dr n l a↔∃i:Nat,i<n∧(ku n l a i && ku n l i a)=true∧z=i:=by
 unfold dr jv
 rw[List.mem_map,Int.toNat_natCast]
 constructor
 ·rintro⟨i,hi,rfl⟩
  rw[List.mem_filter,List.mem_range]at hi
  exact⟨i,hi.1,hi.2,rfl⟩
 ·rintro⟨i,h1,h2,rfl⟩
  exact⟨i,by rw[List.mem_filter,List.mem_range];exact⟨h1,h2⟩,rfl⟩
theorem PK{n:Nat}{l:List aK}{a:Nat}(h:a<n):0<(dr n l a).length:=
 List.length_pos_of_mem (CX.2 ⟨a,h,by rw[QX h];rfl,rfl⟩)
theorem Te{n:Nat}{l:List aK}{a z:Int}(h:z∈dr n l a):0≤z∧z<n:=by
 obtain⟨i,h1,-,rfl⟩:=CX.1 h
 omega
theorem NN(n:Nat)(l:List aK)(a:Int):(dr n l a).length≤n:=by
 have:=GJ n l a ((n:Int)).toNat
 rw[Int.toNat_natCast]at this
 exact this
structure jl(n:Nat)(ps:List (List Int))(told:List Int):Prop where
 told:told=ps.flatten
 ne:∀p∈ps,0<p.length∧p.length≤n
 node:∀p∈ps,∀z∈p,0≤z∧z<n
 ahead:∀i,i<ps.length→(ps.take i).flatten.length<n
theorem jl.qy{n:Nat}{ps:List (List Int)}{told:List Int}(h:jl n ps told):told.length≤2*n:=by
 rw[h.told]
 rcases List.eq_nil_or_concat ps with rfl | ⟨qs,q,rfl⟩
 ·simp
 ·rw[List.concat_eq_append]
  have h1:=h.ahead qs.length (by simp)
  have h2:=(h.ne q (by simp)).2
  rw[List.concat_eq_append,List.take_left]at h1
  rw[List.flatten_append,List.length_append]
  simp only[List.flatten_cons,List.flatten_nil,List.append_nil]
  omega
theorem jl.EW{n:Nat}{ps:List (List Int)}{told:List Int}(h:jl n ps told):ps.length≤2*n:=by
 refine Nat.le_trans ?_ h.qy
 rw[h.told]
 have:=h.ne
 clear h
 induction ps with
 | nil=>exact Nat.le_refl _
 | cons p ps ih =>
  have h1:=(this p (by simp)).1
  have h2:=ih fun q hq=>this q (by simp[hq])
  simp only[List.length_cons,List.flatten_cons,List.length_append]
  omega
theorem jl.nil(n:Nat):jl n [] []:=⟨rfl,fun _ h=>(List.not_mem_nil h).elim,fun _ h=>(List.not_mem_nil h).elim,fun _ h=>(Nat.not_lt_zero _ h).elim⟩
theorem jl.snoc{n:Nat}{ps:List (List Int)}{told p:List Int}(h:jl n ps told)(ht:told.length<n)(h1:0<p.length)(h2:p.length≤n)(h3:∀z∈p,0≤z∧z<n):jl n (ps++[p]) (told++p):=by
 refine⟨by rw[h.told,List.flatten_append];simp,fun q hq =>?_,fun q hq =>?_,fun i hi =>?_⟩
 ·rcases List.mem_append.1 hq with hq | hq
  ·exact h.ne q hq
  ·rw[List.mem_singleton.1 hq];exact⟨h1,h2⟩
 ·rcases List.mem_append.1 hq with hq | hq
  ·exact h.node q hq
  ·rw[List.mem_singleton.1 hq];exact h3
 ·rw[List.length_append]at hi
  rw[List.take_append]
  by_cases ab:i<ps.length
  ·rw[show i-ps.length=0 by omega,List.take_zero,List.append_nil];exact h.ahead i ab
  ·obtain rfl:i=ps.length:=by have:i<ps.length+1:=hi;omega
   rw[Nat.sub_self,List.take_zero,List.append_nil,List.take_length,← h.told];exact ht
def bE(ps:List (List Int)):List AV:=ps.map (.af (.int .i64))
theorem p9:∀ps:List (List Int),bE ps=ps.flatMap (Sh.cells (.slice (.int .i64)))
 | []=>rfl
 | p::ps=>congrArg (AV.af (.int .i64) p :: ·) (p9 ps)
abbrev zu:=List (List Int)×AV×Hp×List Int×AV×Hp
def BM(n:Nat)(s:zu):Prop:=jl n s.1 s.2.2.2.1∧Acc 1 s.1.length s.2.1 s.2.2.1 (bE s.1)∧Acc 1 s.2.2.2.1.length s.2.2.2.2.1 s.2.2.2.2.2 (ak s.2.2.2.1)
abbrev Fy(s:zu)(σ:Hp):Hp:=s.2.2.1++(s.2.2.2.2.2++σ)
theorem DN{nx:List Int}(h:0<nx.length):nx[((0:Int)).toNat]?=some (nx.headD 0):=by
 cases nx with
 | nil=>simp at h
 | cons z nx=>rfl
theorem HH{R:AV→Hp→Prop}{r:AV}(a:Hp){σ:Hp}(h:Fin R r σ):Fin R r (a++σ):=.drop 0 a.length (by rw[List.take_zero,Nat.zero_add,List.drop_left];exact h)
end Go.Proofs.YtnpidbjdilnhlaaGreat
namespace Go.Proofs.YtnpidbjdilnhlaaGreat
open Go.RowKit
set_option maxRecDepth 100000
theorem Oi{ps:List (List Int)}{i:Nat}(h:i<ps.length):(ps.take (i+1)).flatten.length=(ps.take i).flatten.length+ps[i].length:=by
 rw[List.take_add_one,List.getElem?_eq_getElem h,List.flatten_append,List.length_append]
 simp
end Go.Proofs.YtnpidbjdilnhlaaGreat
namespace Go.Proofs.YtnpidbjdilnhlaaGreat
open Go.Shelf
def NW:Go.Shelf.Ren:=⟨fun | 189=>244 | 125=>208 | 257=>285 | 128=>258 | 129=>259 | 294=>307 | 295=>308 | 296=>309 | 297=>310 | 298=>311 | 299=>312 | 216=>313 | 300=>314 | 301=>315 | 328=>327 | 329=>287 | 330=>288 | 331=>328 | 332=>329 | 215=>232 | 343=>333 | n=>n,fun | 28=>23 | 3=>3 | 46=>253 | 0=>0 | 51=>290 | 53=>38 | 4=>4 | 183=>283 | 182=>282 | 131=>287 | 5=>5 | 9=>9 | 218=>314 | 222=>318 | 228=>333 | 229=>70 | n=>n,fun | n=>n⟩
theorem DJ:Go.Proofs.Lays.n189 Tryz.prog NW:= {
 mixed:=by kernel_rfl
 f125:=Tryz.func208.trans (congrArg some (by kernel_rfl))
 f128:=Tryz.func258.trans (congrArg some (by kernel_rfl))
 f129:=Tryz.func259.trans (congrArg some (by kernel_rfl))
 f189:=Tryz.func244.trans (congrArg some (by kernel_rfl))
 f215:=Tryz.func232.trans (congrArg some (by kernel_rfl))
 f216:=Tryz.func313.trans (congrArg some (by kernel_rfl))
 f257:=Tryz.func285.trans (congrArg some (by kernel_rfl))
 f294:=Tryz.func307.trans (congrArg some (by kernel_rfl))
 f295:=Tryz.func308.trans (congrArg some (by kernel_rfl))
 f296:=Tryz.func309.trans (congrArg some (by kernel_rfl))
 f297:=Tryz.func310.trans (congrArg some (by kernel_rfl))
 f298:=Tryz.func311.trans (congrArg some (by kernel_rfl))
 f299:=Tryz.func312.trans (congrArg some (by kernel_rfl))
 f300:=Tryz.func314.trans (congrArg some (by kernel_rfl))
 f301:=Tryz.func315.trans (congrArg some (by kernel_rfl))
 f328:=Tryz.func327.trans (congrArg some (by kernel_rfl))
 f329:=Tryz.func287.trans (congrArg some (by kernel_rfl))
 f330:=Tryz.func288.trans (congrArg some (by kernel_rfl))
 f331:=Tryz.func328.trans (congrArg some (by kernel_rfl))
 f332:=Tryz.func329.trans (congrArg some (by kernel_rfl))
 f343:=Tryz.func333.trans (congrArg some (by kernel_rfl))
 t0:=Tryz.underlying0
 a0:=Tryz.isAgg0
 z0:=Tryz.sizeOf0
 v0:=Tryz.zeroValue0
 t3:=Tryz.underlying3
 a3:=Tryz.isAgg3
 z3:=Tryz.sizeOf3
 v3:=Tryz.zeroValue3
 t4:=Tryz.underlying4
 a4:=Tryz.isAgg4
 z4:=Tryz.sizeOf4
 v4:=Tryz.zeroValue4
 t5:=Tryz.underlying5
 a5:=Tryz.isAgg5
 z5:=Tryz.sizeOf5
 v5:=Tryz.zeroValue5
 t9:=Tryz.underlying9
 a9:=Tryz.isAgg9
 z9:=Tryz.sizeOf9
 v9:=Tryz.zeroValue9
 t28:=Tryz.underlying23
 a28:=Tryz.isAgg23
 z28:=Tryz.sizeOf23
 v28:=Tryz.zeroValue23
 t46:=Tryz.underlying253
 a46:=Tryz.isAgg253
 z46:=Tryz.sizeOf253
 v46:=Tryz.zeroValue253
 t51:=Tryz.underlying290
 a51:=Tryz.isAgg290
 z51:=Tryz.sizeOf290
 v51:=Tryz.zeroValue290
 t53:=Tryz.underlying38
 a53:=Tryz.isAgg38
 z53:=Tryz.sizeOf38
 v53:=Tryz.zeroValue38
 t131:=Tryz.underlying287
 a131:=Tryz.isAgg287
 z131:=Tryz.sizeOf287
 v131:=Tryz.zeroValue287
 t182:=Tryz.underlying282
 a182:=Tryz.isAgg282
 z182:=Tryz.sizeOf282
 v182:=Tryz.zeroValue282
 t183:=Tryz.underlying283
 a183:=Tryz.isAgg283
 z183:=Tryz.sizeOf283
 v183:=Tryz.zeroValue283
 t218:=Tryz.underlying314
 a218:=Tryz.isAgg314
 z218:=Tryz.sizeOf314
 v218:=Tryz.zeroValue314
 t222:=Tryz.underlying318
 a222:=Tryz.isAgg318
 z222:=Tryz.sizeOf318
 v222:=Tryz.zeroValue318
 t228:=Tryz.underlying333
 a228:=Tryz.isAgg333
 z228:=Tryz.sizeOf333
 v228:=Tryz.zeroValue333
 t229:=Tryz.underlying70
 a229:=Tryz.isAgg70
 z229:=Tryz.sizeOf70
 v229:=Tryz.zeroValue70 }
def NV:Go.Shelf.Ren:=⟨fun | 20=>245 | n=>n,fun | 22=>23 | 3=>3 | 4=>4 | 0=>0 | n=>n,fun | n=>n⟩
theorem DI:Go.Proofs.Lays2.n20 Tryz.prog NV:= {
 mixed:=by kernel_rfl
 f20:=Tryz.func245.trans (congrArg some (by kernel_rfl))
 t0:=Tryz.underlying0
 a0:=Tryz.isAgg0
 z0:=Tryz.sizeOf0
 v0:=Tryz.zeroValue0
 t3:=Tryz.underlying3
 a3:=Tryz.isAgg3
 z3:=Tryz.sizeOf3
 v3:=Tryz.zeroValue3
 t4:=Tryz.underlying4
 a4:=Tryz.isAgg4
 z4:=Tryz.sizeOf4
 v4:=Tryz.zeroValue4
 t22:=Tryz.underlying23
 a22:=Tryz.isAgg23
 z22:=Tryz.sizeOf23
 v22:=Tryz.zeroValue23
 i3:=by kernel_rfl }
end Go.Proofs.YtnpidbjdilnhlaaGreat
