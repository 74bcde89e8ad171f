import Derived.Test.YtnpidbjdilnhlaaGreatBn25
import Derived.Test.YtnpidbjdilnhlaaGreatBn23
import Derived.Test.YtnpidbjdilnhlaaGreatBn24
import Derived.Shelf.GgSortFunc.RowK
import Derived.Sort.Grow
import Derived.Test.YtnpidbjdilnhlaaGreatBn11
import Derived.Shelf.SlSortCmp.NoneTotal
import Derived.Test.YtnpidbjdilnhlaaGreatBn19
namespace Go.Proofs.YtnpidbjdilnhlaaGreat
open Go.RowKit
theorem iv{n:Int}{l:List aK}{a b:Int}:b∈au n l a↔(0≤b∧b<n)∧(0≤a∧a<n)∧∃e∈l,e.1=a∧e.2.1=b:=by
 unfold au fk
 rw[List.mem_filter,decide_eq_true_eq,List.mem_map,List.mem_map]
 constructor
 ·rintro⟨⟨i,hi,rfl⟩,e,he,h2⟩
  have hi:=List.mem_range.1 hi
  obtain⟨h3,h4⟩:=List.mem_filter.1 he
  simp only[Bool.and_eq_true,decide_eq_true_eq,iu]at h4
  exact⟨by omega,h4.1.2,e,h3,h4.1.1,h2⟩
 ·rintro⟨h1,h2,e,h3,h4,h5⟩
  refine⟨⟨b.toNat,List.mem_range.2 (by omega),by omega⟩,e,List.mem_filter.2 ⟨h3,?_⟩,h5⟩
  simp only[Bool.and_eq_true,decide_eq_true_eq,iu]
  exact⟨⟨h4,h2⟩,by omega⟩
theorem rC(n:Int)(l:List aK)(a:Int):(au n l a).length≤n.toNat:=by
 unfold au
 exact Nat.le_trans (List.length_filter_le _ _) (by simp)
end Go.Proofs.YtnpidbjdilnhlaaGreat
namespace Go.Proofs.YtnpidbjdilnhlaaGreat
open Go.RowKit
set_option maxRecDepth 100000
def pD(l:List aK)(a b:Int):Bool:=l.any fun e=>decide (e.1=a) && decide (e.2.1=b)
theorem VF(l:List aK)(a b:Int)(σ:Hp)(hl:l.length≤100000):ACalls Tryz.prog 226 [.af bA l,.int .i64 a,.int .i64 b] σ (aB (.bool (pD l a b)) σ):=by
 refine okF Tryz.func226 (by kernel_rfl) ?_
 refine aU (S:=Nat) (fun k=>[(1,.int .i64 a),(2,.int .i64 b),(9,.af bA l),(10,.int .i64 l.length),(11,.int .i64 k)]) (fun _=>σ) (fun k=>k≤l.length∧pD (l.take k) a b=false) (fun k=>l.length-k) 0 ⟨⟨Nat.zero_le _,rfl⟩,⟨rfl,rfl,rfl,rfl,rfl,trivial⟩,rfl⟩ ?_
 rintro k g ⟨aG,eA⟩
 have hk:k≤l.length:=aG
 have ha:pD (l.take k) a b=false:=eA
 clear aG eA
 refine an (fun ab =>?_) (fun aq =>?_)
 ·have ab:k<l.length:=by have ab:(k:Int)<l.length:=ab;omega
  have hs:pD (l.take (k+1)) a b=(decide (l[k].1=a) && decide (l[k].2.1=b)):=by
   have:=kF ab fun e:aK=>decide (e.1=a) && decide (e.2.1=b)
   unfold pD at ha ⊢
   rw[this,ha,Bool.false_or]
  have hm:=List.getElem_mem ab
  obtain⟨d,hd⟩:∃d:aK,l[k]=d:=⟨_,rfl⟩
  rw[hd]at hs hm
  refine ah.mk rfl (aT.mk d (by omega) ((get_some ab).trans (congrArg some hd)) ?_)
  intro aC
  refine ai.mk 0 _ _ rfl rfl ?_
  refine aa.mk 0 _ _ rfl rfl ?_
  refine an (p:=d.1=a) (fun c1 =>?_) (fun c1 =>?_)
  ·refine aa.mk 0 _ _ rfl rfl ?_
   refine an (p:=d.2.1=b) (fun c2 =>?_) (fun c2 =>?_)
   ·exact .drop 0 1 (.done ⟨bz (List.any_eq_true.2 ⟨d,hm,by rw[decide_eq_true c1,decide_eq_true c2];rfl⟩).symm,rfl⟩)
   ·exact aH (k+1) (by show l.length-(k+1)<l.length-k;omega) ⟨ab,hs.trans (by rw[decide_eq_false c2,Bool.and_false])⟩ ⟨rfl,rfl,rfl,rfl,aI (by omega),trivial⟩ (.drop 0 1 (.refl _))
  ·exact aH (k+1) (by show l.length-(k+1)<l.length-k;omega) ⟨ab,hs.trans (by rw[decide_eq_false c1];rfl)⟩ ⟨rfl,rfl,rfl,rfl,aI (by omega),trivial⟩ (.drop 0 1 (.refl _))
 ·have aq:k=l.length:=by have aq:¬(k:Int)<l.length:=aq;omega
  subst aq
  rw[List.take_length]at ha
  exact .done ⟨bz ha.symm,rfl⟩
theorem TE{n:Int}{l:List aK}{a b:Int}(ha:0≤a∧a<n)(hb:0≤b∧b<n):pD l a b=decide (b∈au n l a):=by
 rw[Bool.eq_iff_iff,decide_eq_true_eq,iv]
 unfold pD
 rw[List.any_eq_true]
 constructor
 ·rintro⟨e,he,h⟩
  simp only[Bool.and_eq_true,decide_eq_true_eq]at h
  exact⟨hb,ha,e,he,h.1,h.2⟩
 ·rintro⟨_,_,e,he,h1,h2⟩
  exact⟨e,he,by rw[decide_eq_true h1,decide_eq_true h2];rfl⟩
def jC(n:Int)(l:List aK)(a:Int)(k:Nat):List Int:=((List.range k).map fun i:Nat=>(i:Int)).filter fun b=>decide (b∈fk n l a)
theorem Im{n:Int}{l:List aK}{a b:Int}(hb:0≤b∧b<n):b∈fk n l a↔b∈au n l a:=by
 unfold au
 rw[List.mem_filter,decide_eq_true_eq]
 exact⟨fun h=>⟨List.mem_map.2 ⟨b.toNat,List.mem_range.2 (by omega),by omega⟩,h⟩,fun h=>h.2⟩
theorem VD(n:Nat)(l:List aK)(a:Int)(σ:Hp)(hl:l.length≤100000)(hn:n≤100000):ACalls Tryz.prog 178 [.int .i64 n,.af bA l,.int .i64 a] σ (aB (.af (.int .i64) (au n l a)) σ):=by
 refine okF Tryz.func178 (by kernel_rfl) ?_
 refine .wrap 7 _ rfl rfl ?_
 refine aU (S:=Nat×AV×Hp) (fun s=>[(0,.int .i64 n),(1,.af bA l),(2,.int .i64 a),(7,.via s.2.1),(8,.int .i64 s.1)]) (fun s=>s.2.2++σ) (fun s=>s.1≤n∧Acc 1 (jC n l a s.1).length s.2.1 s.2.2 (ak (jC n l a s.1))) (fun s=>n-s.1) (0,.aj,[]) ⟨⟨Nat.zero_le _,.nil⟩,⟨rfl,rfl,rfl,rfl,rfl,trivial⟩,rfl⟩ ?_
 rintro⟨k,v,acc⟩ g ⟨aG,eR⟩
 have hk:k≤n:=aG
 have bc:Acc 1 (jC n l a k).length v acc (ak (jC n l a k)):=eR
 clear aG eR
 have cO:(jC n l a k).length≤k:=by unfold jC;exact Nat.le_trans (List.length_filter_le _ _) (by simp)
 have LN:jC n l a n=au n l a:=by unfold jC au;rw[Int.toNat_natCast]
 have kq:¬(0≤a∧a<n)→∀j,jC n l a j=[]:=fun h j=>by
  unfold jC
  refine List.filter_eq_nil_iff.2 fun b _ hb =>?_
  have hb:=of_decide_eq_true hb
  have h1:=Il hb
  exact h (iv.1 ((Im h1).1 hb)).2.1
 have kp:(¬(0≤a∧a<n)∨k=n)→Fin (aB (.af (.int .i64) (au n l a)) σ) v (acc++σ):=fun h=>by
  have he:jC n l a k=au n l a:=by
   rcases h with h | h
   ·rw[kq h k,← LN,kq h n]
   ·rw[h,LN]
  rw[he]at bc
  exact jR (s:=.int .i64) [] bc rfl (fi _) (by decide) (.done ⟨rfl,rfl⟩)
 refine an (p:=(k:Int)<n) (fun ab =>?_) (fun aq =>?_)
 rotate_left
 ·exact kp (.inr (by omega))
 have ab:k<n:=by omega
 refine an (p:=0≤a) (fun c1 =>?_) (fun c1 =>?_)
 rotate_left
 ·exact kp (.inl fun h=>c1 h.1)
 refine an (p:=a<n) (fun c2 =>?_) (fun c2 =>?_)
 rotate_left
 ·exact kp (.inl fun h=>c2 h.2)
 have hs:jC n l a (k+1)=jC n l a k++(if pD l a k=true then [(k:Int)] else []):=by
  unfold jC
  rw[List.range_succ,List.map_append,List.filter_append]
  congr 1
  have Mx:pD l a k=true↔(k:Int)∈fk n l a:=by
   rw[TE ⟨c1,c2⟩ (by omega),decide_eq_true_eq,Im (by omega)]
  by_cases hc:pD l a k=true
  ·rw[if_pos hc];exact List.filter_cons_of_pos (decide_eq_true (Mx.1 hc))
  ·rw[if_neg hc];exact List.filter_cons_of_neg (by rw[decide_eq_true_eq];exact fun h=>hc (Mx.2 h))
 refine cm [] (VF l a k _ hl) (fun c3 =>?_) (fun c3 =>?_)
 ·rw[if_pos c3]at hs
  intro bM
  refine dX [_] bc (.ae 0 bM 0 1 _ rfl (Nat.le_of_ble_eq_true rfl)) rfl (by omega) (by decide) (by decide) (fun v' aP h' =>?_)
  refine aH (k+1,v',aP) (by show n-(k+1)<n-k;omega) ⟨ab,?_⟩ ⟨rfl,rfl,rfl,rfl,aI (by omega),trivial⟩ (.drop 0 1 (aF rfl))
  show Acc 1 (jC n l a (k+1)).length v' aP (ak (jC n l a (k+1)))
  rw[hs,List.length_append,ak,List.map_append]
  exact h'
 ·rw[c3,if_neg (by decide),List.append_nil]at hs
  exact aH (k+1,v,acc) (by show n-(k+1)<n-k;omega) ⟨ab,by show Acc 1 (jC n l a (k+1)).length v acc (ak (jC n l a (k+1)));rw[hs];exact bc⟩ ⟨rfl,rfl,rfl,rfl,aI (by omega),trivial⟩ (.refl _)
end Go.Proofs.YtnpidbjdilnhlaaGreat
namespace Go.Proofs.YtnpidbjdilnhlaaGreat
open Go.RowKit
theorem TG{F':Nat→Prop}{w w':World}(h:a6 (fun b=>b<w.heap.size) w F' w'):∃q os,w'=Go.Sort.grow (w.drewN q) os:=by
 obtain⟨h1,h2,h3,h4,_,h6,_,h8⟩:=h
 have hh:w'.heap=w.heap++w'.heap.extract w.heap.size w'.heap.size:=by
  apply Array.ext
  ·simp only[Array.size_append,Array.size_extract];omega
  ·intro i hi vT
   by_cases ab:i<w.heap.size
   ·have e:=h6 i ab
    rw[Array.getElem?_eq_getElem hi,Array.getElem?_eq_getElem ab]at e
    rw[Array.getElem_append_left ab]
    exact Option.some.inj e
   ·rw[Array.getElem_append_right (by omega),Array.getElem_extract]
    congr 1;omega
 refine⟨w'.drawn-w.drawn,w'.heap.extract w.heap.size w'.heap.size,?_⟩
 have hd:w.drawn+(w'.drawn-w.drawn)=w'.drawn:=by omega
 unfold Go.Sort.grow World.drewN
 cases w' with
 | mk heap tape drawn os output =>
  simp only at h1 h2 h3 hh hd ⊢
  rw[h1,h2,h3,← hh,hd]
theorem O5{f:FuncId}{xs:List AV}{k:IntKind}{z:Int}(h:∀σ,ACalls Tryz.prog f xs σ (aB (.int k z) σ)){w:World}{vs:Array Value}(hv:fO (fun b=>b<w.heap.size) w xs vs):Calls Tryz.prog f vs w fun e w'=>e=.returned (.int k z)∧∃q os,w'=Go.Sort.grow (w.drewN q) os:=by
 refine ((h []).2 (fun b=>b<w.heap.size) w vs hv ⟨List.nodup_nil,fun p hp=>absurd hp List.not_mem_nil,fun b hb=>hb⟩).mono ?_
 rintro e w' ⟨r,v,σ',F',rfl,ar,_,hr,rfl,_⟩
 refine⟨?_,TG ar⟩
 rw[hr.eL]
set_option maxRecDepth 100000
set_option maxRecDepth 100000
section
variable {F:Nat→Prop} {w:World} {σ:Hp}
end
variable {α:Type} {f:α→List AV} {n:Nat}
theorem Ht(hf:∀x,(f x).length=n)(l:List α):(l.flatMap f).length=l.length*n:=rz hf l
theorem Cx:∀(vs A B C:List AV),B.length=vs.length→er (A++(B++C)) A.length vs=A++(vs++C)
 | [],A,B,C,h=>by
  obtain rfl:=List.length_eq_zero_iff.1 h
  rfl
 | v::vs,A,b::B,C,h=>by
  show er ((A++(b::(B++C))).set A.length v) (A.length+1) vs=_
  have e:(A++(b::(B++C))).set A.length v=(A++[v])++(B++C):=by
   rw[List.set_append_right _ _ (Nat.le_refl _),Nat.sub_self];simp
  rw[e,show A.length+1=(A++[v]).length by simp,Cx vs (A++[v]) B C (by simpa using h)]
  simp
theorem SZ(hf:∀x,(f x).length=n){l:List α}{k:Nat}(h:k<l.length)(d:α):er (l.flatMap f) (k*n) (f d)=(l.set k d).flatMap f:=by
 have e:l=l.take k++([l[k]]++l.drop (k+1)):=by simp
 have e2:l.set k d=l.take k++([d]++l.drop (k+1)):=by
  rw[List.set_eq_take_append_cons_drop,if_pos h];rfl
 have hk:((l.take k).flatMap f).length=k*n:=by rw[Ht hf,List.length_take,Nat.min_eq_left (Nat.le_of_lt h)]
 rw[e2]
 conv=>lhs;rw[e]
 rw[List.flatMap_append,List.flatMap_append,List.flatMap_append,List.flatMap_append,List.flatMap_singleton,List.flatMap_singleton,← hk]
 exact Cx _ _ _ _ (by rw[hf,hf])
theorem Py{i:TI}(hs:i.size=n)(hf:∀x,(f x).length=n){l:List α}{k:Nat}(h:k<l.length)(d:α){z:Int}(hz:z=k):ju i (l.flatMap f) (0+z.toNat*n) (.agg (f d))=some ((l.set k d).flatMap f):=by
 subst hz
 have hl:=Ht hf l
 have hm:(k+1)*n≤l.length*n:=Nat.mul_le_mul_right n h
 rw[Nat.add_mul,Nat.one_mul]at hm
 have hb:Nat.ble (0+k*n+n) (l.flatMap f).length=true:=Nat.ble_eq_true_of_le (by rw[hl];omega)
 have hq:Nat.beq (f d).length n=true:=by rw[hf];exact Nat.beq_refl n
 unfold ju
 rw[hs]
 show (match Nat.beq (f d).length n,Nat.ble (0+k*n+n) (l.flatMap f).length with | true,true=>some (er (l.flatMap f) (0+k*n) (f d)) | _,_=>none)=_
 rw[hb,hq]
 show some (er (l.flatMap f) (0+k*n) (f d))=_
 rw[Nat.zero_add,SZ hf h]
set_option maxRecDepth 100000
end Go.Proofs.YtnpidbjdilnhlaaGreat
namespace Go.Proofs.YtnpidbjdilnhlaaGreat
open Go.RowKit
set_option maxRecDepth 100000
abbrev px:Sh:=.field (.int .i64) (.field (.int .i64) .nil)
set_option maxRecDepth 100000
set_option maxRecDepth 100000
end Go.Proofs.YtnpidbjdilnhlaaGreat
namespace Go.Proofs.YtnpidbjdilnhlaaGreat
open Go.RowKit
theorem TM{α:Type}(fr σ:List α)(x:α):(fr++(x::σ))[fr.length]?=some x:=by
 rw[List.getElem?_append_right (Nat.le_refl _),Nat.sub_self];rfl
theorem DD{α:Type}(fr σ:List α)(x y:α):(fr++(x::σ)).set fr.length y=fr++(y::σ):=by
 rw[List.set_append_right _ _ (Nat.le_refl _),Nat.sub_self];rfl
set_option maxRecDepth 100000
theorem Sz(l:List (Sh.T px))(σ:Hp)(hl:l.length≤1000000):ACalls Tryz.prog 188 [.af px l] σ (fun x σ'=>∃acc,Acc 2 l.length x acc (l.flatMap (Sh.cells px))∧σ'=acc++σ):=by
 refine zP (fun h=>⟨?_,?_⟩) (fun h =>?_)
 ·subst h
  refine okF Tryz.func188 (by kernel_rfl) ?_
  exact .done ⟨[],.nil,rfl⟩
 ·subst h
  refine okF Tryz.func188 (by kernel_rfl) ?_
  intro b
  refine AppendAt.more 0 b 0 0 [] _ rfl rfl (Nat.le_of_ble_eq_true rfl) .eX (by decide) (by decide) (by decide) (fun b' =>?_)
  exact .done ⟨[(b',[])],.ae b' 0 [] rfl,rfl⟩
 ·refine okF Tryz.func188 (by kernel_rfl) ?_
  refine ah.mk (List.length_pos_iff.2 h) ?_
  intro b
  refine AppendAt.more 0 b 0 l.length [] _ rfl rfl (Nat.le_of_ble_eq_true rfl) (.af px l rfl) (by omega) (by decide) (by decide) (fun b' =>?_)
  refine .done ⟨[(b',l.flatMap (Sh.cells px))],?_,rfl⟩
  rw[Nat.zero_add];exact .ae b' l.length _ (rz (f:=Sh.cells px) (es:=2) (fun _=>rfl) l)
theorem Sx(l:List (Sh.T px))(σ:Hp)(hl:l.length≤1000000):ACalls Tryz.prog 188 [.af px l] σ (aB (.af px l) σ):=by
 refine (Sz l σ hl).fin ?_
 rintro v σ' ⟨acc,bc,rfl⟩
 exact jR (s:=px) [] bc rfl rfl (by decide) (.done ⟨rfl,rfl⟩)
theorem Sw(l:List (Sh.T (.int .i64)))(σ:Hp)(hl:l.length≤1000000):ACalls Tryz.prog 219 [.af (.int .i64) l] σ (fun x σ'=>∃acc,Acc 1 l.length x acc (l.flatMap (Sh.cells (.int .i64)))∧σ'=acc++σ):=by
 refine zP (fun h=>⟨?_,?_⟩) (fun h =>?_)
 ·subst h
  refine okF Tryz.func219 (by kernel_rfl) ?_
  exact .done ⟨[],.nil,rfl⟩
 ·subst h
  refine okF Tryz.func219 (by kernel_rfl) ?_
  intro b
  refine AppendAt.more 0 b 0 0 [] _ rfl rfl (Nat.le_of_ble_eq_true rfl) .eX (by decide) (by decide) (by decide) (fun b' =>?_)
  exact .done ⟨[(b',[])],.ae b' 0 [] rfl,rfl⟩
 ·refine okF Tryz.func219 (by kernel_rfl) ?_
  refine ah.mk (List.length_pos_iff.2 h) ?_
  intro b
  refine AppendAt.more 0 b 0 l.length [] _ rfl rfl (Nat.le_of_ble_eq_true rfl) (.af (.int .i64) l rfl) (by omega) (by decide) (by decide) (fun b' =>?_)
  refine .done ⟨[(b',l.flatMap (Sh.cells (.int .i64)))],?_,rfl⟩
  rw[Nat.zero_add];exact .ae b' l.length _ (rz (f:=Sh.cells (.int .i64)) (es:=1) (fun _=>rfl) l)
theorem Sv(l:List (Sh.T (.int .i64)))(σ:Hp)(hl:l.length≤1000000):ACalls Tryz.prog 219 [.af (.int .i64) l] σ (aB (.af (.int .i64) l) σ):=by
 refine (Sw l σ hl).fin ?_
 rintro v σ' ⟨acc,bc,rfl⟩
 exact jR (s:=(.int .i64)) [] bc rfl rfl (by decide) (.done ⟨rfl,rfl⟩)
theorem SB(l:List (Sh.T ga))(σ:Hp)(hl:l.length≤1000000):ACalls Tryz.prog 221 [.af ga l] σ (fun x σ'=>∃acc,Acc 8 l.length x acc (l.flatMap (Sh.cells ga))∧σ'=acc++σ):=by
 refine zP (fun h=>⟨?_,?_⟩) (fun h =>?_)
 ·subst h
  refine okF Tryz.func221 (by kernel_rfl) ?_
  exact .done ⟨[],.nil,rfl⟩
 ·subst h
  refine okF Tryz.func221 (by kernel_rfl) ?_
  intro b
  refine AppendAt.more 0 b 0 0 [] _ rfl rfl (Nat.le_of_ble_eq_true rfl) .eX (by decide) (by decide) (by decide) (fun b' =>?_)
  exact .done ⟨[(b',[])],.ae b' 0 [] rfl,rfl⟩
 ·refine okF Tryz.func221 (by kernel_rfl) ?_
  refine ah.mk (List.length_pos_iff.2 h) ?_
  intro b
  refine AppendAt.more 0 b 0 l.length [] _ rfl rfl (Nat.le_of_ble_eq_true rfl) (.af ga l rfl) (by omega) (by decide) (by decide) (fun b' =>?_)
  refine .done ⟨[(b',l.flatMap (Sh.cells ga))],?_,rfl⟩
  rw[Nat.zero_add];exact .ae b' l.length _ (rz (f:=Sh.cells ga) (es:=8) (fun _=>rfl) l)
theorem SA(l:List (Sh.T ga))(σ:Hp)(hl:l.length≤1000000):ACalls Tryz.prog 221 [.af ga l] σ (aB (.af ga l) σ):=by
 refine (SB l σ hl).fin ?_
 rintro v σ' ⟨acc,bc,rfl⟩
 exact jR (s:=ga) [] bc rfl rfl (by decide) (.done ⟨rfl,rfl⟩)
theorem T0(l:List Int)(σ:Hp)(hl:l.length≤1000000):ACalls Tryz.prog 220 [.af (.int .u64) l] σ (fun x σ'=>∃b,x=.ae b 0 l.length 1∧σ'=(b,aL l)::σ):=by
 refine okF Tryz.func220 (by kernel_rfl) ?_
 have hn:(l.length:Int)≤1048576:=by omega
 refine ah.mk ⟨Int.natCast_nonneg _,Int.le_refl _,hn,by decide⟩ ?_
 intro aC
 have hr:(bN [.int .u64 0] ((l.length:Int)).toNat).length=l.length:=by rw[Int.toNat_natCast,ru];exact Nat.mul_one _
 refine En.ae 0 aC 0 l.length l.length _ (l.flatMap (Sh.cells (.int .u64))) rfl rfl (by show 0+l.length*1≤(bN [.int .u64 0] ((l.length:Int)).toNat).length;rw[hr];omega) (.af (.int .u64) l rfl) (Nat.le_refl _) ?_
 have he:er (bN [.int .u64 0] ((l.length:Int)).toNat) 0 (l.flatMap (Sh.cells (.int .u64)))=aL l:=by
  rw[← ka]
  have h:=Cx (aL l) [] (bN [.int .u64 0] ((l.length:Int)).toNat) [] (by rw[hr];simp[aL])
  simpa using h
 exact .done ⟨aC,rfl,congrArg (fun cs=>(aC,cs)::σ) he⟩
theorem DU(l:List Int)(σ:Hp)(hl:l.length≤1000000):ACalls Tryz.prog 220 [.af (.int .u64) l] σ (aB (.af (.int .u64) l) σ):=by
 refine (T0 l σ hl).fin ?_
 rintro v σ' ⟨b,rfl,rfl⟩
 exact .bO 0 b 0 l.length 1 _ (.int .u64) l rfl (by rw[List.drop_zero,← ka];exact List.take_of_length_le (by simp[aL])) ⟨rfl,rfl,by decide⟩ .here (.done ⟨rfl,rfl⟩)
def tg:Option jk→List AV
 | none=>[.aj,.aj,.aj]
 | some t=>[.af (.int .u64) t.1,.af (.int .u64) t.2.1,.af ga t.2.2.1]
theorem Pp(t:Option jk):(tg t).length=3:=by cases t <;> rfl
def pE(T:List jk)(k:Nat):List (Option jk):=(T.take k).map some++List.replicate (T.length-k) none
theorem Qj(T:List jk):(pE T 0).flatMap tg=bN [.aj,.aj,.aj] T.length:=by
 show (List.replicate (T.length-0) none).flatMap tg=_
 rw[Nat.sub_zero]
 generalize T.length=n
 induction n with
 | zero=>rfl
 | succ n ih=>rw[List.replicate_succ,List.flatMap_cons,ih];rfl
theorem RM{T:List jk}{k:Nat}(h:k≤T.length):(pE T k).length=T.length:=by unfold pE;simp;omega
theorem RL{T:List jk}{k:Nat}(h:k<T.length):(pE T k).set k (some T[k])=pE T (k+1):=by
 unfold pE
 rw[List.set_append_right _ _ (by simp;omega)]
 have e:T.length-k=(T.length-(k+1))+1:=by omega
 have e2:k-((T.take k).map some).length=0:=by simp;omega
 rw[e2,e,List.replicate_succ,List.take_succ_eq_append_getElem h]
 simp only[List.map_append,List.map_cons,List.map_nil,List.append_assoc,List.cons_append,List.nil_append,List.set_cons_zero]
theorem RN(T:List jk):(pE T T.length).flatMap tg=T.flatMap (Sh.cells gR):=by
 unfold pE
 rw[Nat.sub_self,List.take_length,List.replicate_zero,List.append_nil,List.flatMap_map]
 rfl
theorem QF(s:Sy)(σ:Hp)(hf:Fit s):ACalls Tryz.prog 171 [.agg (bg s)] σ (aB (.agg (bg s)) σ):=by
 refine okF Tryz.func171 (by kernel_rfl) ?_
 intro aC
 intro bM
 refine .sched [2,5,8] (upto [2,5,8] 15 0) (by kernel_rfl) ?_
 refine aa.mk 1 _ _ rfl rfl ?_
 refine aJ [] (Sx s.bQ _ (Nat.le_trans hf.tH (by decide))) ?_
 refine aa.mk 1 _ _ rfl rfl ?_
 refine aJ [] (Sv s.entry _ (Nat.le_trans hf.sc (by decide))) ?_
 refine aa.mk 1 _ _ rfl rfl ?_
 refine aJ [] (DU s.init _ (Nat.le_trans hf.xU (by decide))) ?_
 refine ai.mk 1 _ _ rfl rfl ?_
 refine ai.mk 1 _ _ rfl rfl ?_
 refine ai.mk 1 _ _ rfl rfl ?_
 refine aa.mk 1 _ _ rfl rfl ?_
 have hT:=hf.qy
 have yR:(s.T.length:Int)≤1048576:=by omega
 refine ah.mk ⟨Int.natCast_nonneg _,Int.le_refl _,yR,by decide⟩ ?_
 intro bt
 have pO:(bt,bN [AV.aj,AV.aj,AV.aj] ((s.T.length:Int)).toNat)=(bt,(pE s.T 0).flatMap tg):=by rw[Qj,Int.toNat_natCast]
 refine aa.mk 2 _ _ rfl rfl ?_
 refine aU (S:=Nat) (fun k=>[(1,.ptr aC 0),(2,.ptr bM 0),(3,.ae bt 0 s.T.length 3),(23,.af gR s.T),(24,.int .i64 s.T.length),(25,.int .i64 k)]) (fun k=>(bt,(pE s.T k).flatMap tg)::(bM,[.int .i64 0,.int .i64 0,.int .i64 0,.aj,.aj,.aj,.aj])::(aC,bg s)::σ) (fun k=>k≤s.T.length) (fun k=>s.T.length-k) 0 ⟨Nat.zero_le _,⟨rfl,rfl,rfl,rfl,rfl,rfl,trivial⟩,congrArg (· :: (bM,([.int .i64 0,.int .i64 0,.int .i64 0,.aj,.aj,.aj,.aj]:List AV))::(aC,bg s)::σ) pO⟩ ?_
 rintro k g aG
 have hk:k≤s.T.length:=aG
 clear aG
 refine an (fun ab =>?_) (fun aq =>?_)
 ·have ab:k<s.T.length:=by have ab:(k:Int)<s.T.length:=ab;omega
  have iF:=RL ab
  have htr:=hf.ts _ (List.getElem_mem ab)
  obtain⟨t,ht⟩:∃t:jk,s.T[k]=t:=⟨_,rfl⟩
  rw[ht]at iF htr
  obtain⟨t1,t2,t3,tu⟩:=t
  obtain⟨_,_,l1,l2,l3⟩:=htr
  have l1:t1.length≤10000:=l1
  have l2:t2.length≤10000:=l2
  have l3:t3.length≤100000:=l3
  refine ah.mk rfl (aT.mk (t1,t2,t3,tu) (by omega) ((get_some ab).trans (congrArg some ht)) ?_)
  intro aC
  refine ai.mk 0 _ _ rfl rfl ?_
  refine .sched [4,7,10] (upto [4,7,10] 14 0) (by kernel_rfl) ?_
  refine aa.mk 0 _ _ rfl rfl ?_
  refine aJ [] (DU t1 _ (Nat.le_trans l1 (by decide))) ?_
  refine aa.mk 0 _ _ rfl rfl ?_
  refine aJ [] (DU t2 _ (Nat.le_trans l2 (by decide))) ?_
  refine aa.mk 0 _ _ rfl rfl ?_
  refine aJ [] (SA t3 _ (Nat.le_trans l3 (by decide))) ?_
  refine ah.mk ⟨rfl,by omega,by omega⟩ ?_
  refine ai.mk 1 _ _ rfl ((Py rfl Pp (by rw[RM hk];exact ab) (some (t1,t2,t3,tu)) rfl).trans (congrArg (fun l=>some (List.flatMap tg l)) iF)) ?_
  exact aH (k+1) (by show s.T.length-(k+1)<s.T.length-k;omega) ab ⟨rfl,rfl,rfl,rfl,rfl,aI (by omega),trivial⟩ (.drop 0 1 (.refl _))
 ·have aq:k=s.T.length:=by have aq:¬(k:Int)<s.T.length:=aq;omega
  subst aq
  rw[RN]
  refine ai.mk 2 _ _ rfl rfl ?_
  refine aa.mk 2 _ _ rfl rfl ?_
  refine ai.mk 1 _ _ rfl rfl ?_
  refine aa.mk 1 _ _ rfl rfl ?_
  refine .bO 0 bt 0 s.T.length 3 _ gR s.T rfl ?_ ⟨rfl,rfl,by decide⟩ (xd (bL (.refl _) (bL (.refl _) (bL (.refl _) (bL (.refl _) (bL (.refl _) (bL (.refl _) (bL .here nP))))))) rfl) (.drop 0 2 (.done ⟨rfl,rfl⟩))
  rw[List.drop_zero]
  exact List.take_of_length_le (Nat.le_of_eq (rz (f:=Sh.cells gR) (es:=3) (fun _=>rfl) s.T))
end Go.Proofs.YtnpidbjdilnhlaaGreat
