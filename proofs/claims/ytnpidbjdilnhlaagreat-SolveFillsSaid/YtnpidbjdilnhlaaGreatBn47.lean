import Derived.Test.YtnpidbjdilnhlaaGreatBn46
import Derived.Test.YtnpidbjdilnhlaaGreatBn27
import Derived.Test.YtnpidbjdilnhlaaGreatBn33
namespace Go.Proofs.YtnpidbjdilnhlaaGreat
open Go.RowKit
set_option maxRecDepth 100000
set_option maxHeartbeats 4000000
def gF(k:Nat)(ow al:List Int):List (List Int):=(List.range k).map fun u:Nat=>al.filter fun x=>decide (ow.getD x.toNat 0=(u:Int))
theorem pU(k:Nat)(ow al:List Int):(gF k ow al).length=k:=by unfold gF;rw[List.length_map,List.length_range]
theorem sZ{k:Nat}{ow al:List Int}{u:Nat}(h:u<k):(gF k ow al)[u]?=some (al.filter fun x=>decide (ow.getD x.toNat 0=(u:Int))):=by
 unfold gF
 rw[List.getElem?_map,List.getElem?_range h];rfl
theorem GZ{k:Nat}{ow al:List Int}{z:Int}{w:Nat}{rl:List Int}(hz:ow.getD z.toNat 0=(w:Int))(hr:(gF k ow al)[w]?=some rl):gF k ow (al++[z])=(gF k ow al).set w (rl++[z]):=by
 have hw:w<k:=by
  have:=(List.getElem?_eq_some_iff.1 hr).1
  rw[pU]at this
  exact this
 refine List.ext_getElem? fun i =>?_
 rw[List.getElem?_set,pU]
 rcases Nat.lt_or_ge i k with hi | hi
 ·rw[sZ hi,sZ hi,List.filter_append]
  by_cases e:w=i
  ·subst e
   rw[if_pos rfl,if_pos hw]
   rw[sZ hw]at hr
   rw[← Option.some.inj hr,List.filter_cons,if_pos (by rw[hz];simp),List.filter_nil]
  ·rw[if_neg e,List.filter_cons,if_neg (by rw[hz];simp;omega),List.filter_nil,List.append_nil]
 ·rw[List.getElem?_eq_none (by rw[pU];exact hi),if_neg (by omega),List.getElem?_eq_none (by rw[pU];exact hi)]
theorem HZ(A:List fU)(r r2:fU)(B:List fU):fJ (A++r2::B)=(fJ (A++r::B)).set A.length r2.2.2:=by
 unfold fJ
 rw[List.map_append,List.map_append,List.set_append_right _ _ (by rw[List.length_map];exact Nat.le_refl _),List.length_map,Nat.sub_self]
 rfl
theorem I3(A:List fU)(r:fU)(B:List fU):(fJ (A++r::B))[A.length]?=some r.2.2:=by
 unfold fJ
 rw[List.map_append,List.getElem?_append_right (by rw[List.length_map];exact Nat.le_refl _),List.length_map,Nat.sub_self]
 rfl
theorem Lo(bx:Nat)(ow:List Int)(x w:Int)(σ:Hp)(hx:0≤x)(hw:ow[x.toNat]?=some w):ACalls Tryz.prog 109 [.int .i64 x,.ptr bx 0] ((bx,[.af (.int .i64) ow])::σ) (aB (.int .i64 w) ((bx,[.af (.int .i64) ow])::σ)):=by
 refine okF Tryz.func109 (by kernel_rfl) ?_
 refine aa.mk 0 _ _ rfl rfl ?_
 refine ah.mk rfl (aT.mk w hx hw ?_)
 exact .done ⟨rfl,rfl⟩
theorem VL(n k bx:Nat)(ow al:List Int)(σ:Hp)(im:1≤k)(cD:k≤64)(Gf:al.length≤100000)(hr:∀x∈al,0≤x∧x<(n:Int))(gj:ow.length=n)(gA:∀i:Nat,i<n→0≤ow.getD i 0∧ow.getD i 0<(k:Int)):ACalls Tryz.prog 108 [.af (.int .i64) al,.int .i64 k,.fn (.func 109) [] [.ptr bx 0]] ((bx,[.af (.int .i64) ow])::σ) (fun r σ'=>∃ls:List (List Int),r=.af (.slice (.int .i64)) ls∧σ'=(bx,[.af (.int .i64) ow])::σ∧ls=gF k ow al):=by
 refine Hd ?_
 refine okF Tryz.func108 (by kernel_rfl) ?_
 refine ah.mk ⟨by omega,by omega,by omega,by decide⟩ ?_
 intro bo
 refine .cz (.pull [1] (.refl _)) ?_
 refine aU (S:=Nat×List fU) (fun s=>[(2,.fn (.func 109) [] [.ptr bx 0]),(7,.ae bo 0 k 1),(12,.af (.int .i64) al),(13,.int .i64 al.length),(14,.int .i64 s.1)]) (fun s=>(bx,[.af (.int .i64) ow])::(bo,fK s.2)::(fL s.2++σ)) (fun s=>s.1≤al.length∧(∀r∈s.2,nV r)∧fJ s.2=gF k ow (al.take s.1)) (fun s=>al.length-s.1) (0,List.replicate k (.aj,[],[])) ⟨⟨Nat.zero_le _,fun r hr=>.inl (by rw[List.eq_of_mem_replicate hr];exact⟨rfl,rfl,rfl⟩),?_⟩,⟨rfl,rfl,rfl,rfl,rfl,trivial⟩,?_⟩ ?_
 ·refine List.ext_getElem? fun i =>?_
  show (fJ (List.replicate k (.aj,[],[])))[i]?=_
  unfold fJ
  rw[List.getElem?_map,List.getElem?_replicate]
  rcases Nat.lt_or_ge i k with hi | hi
  ·rw[if_pos hi,sZ hi];rfl
  ·rw[if_neg (by omega),List.getElem?_eq_none (by rw[pU];exact hi)];rfl
 ·show _=(bx,[AV.af (.int .i64) ow])::(bo,fK (List.replicate k (.aj,[],[])))::(fL (List.replicate k (.aj,[],[]))++σ)
  rw[← I8,H4];rfl
 rintro⟨j,rs⟩ g ⟨fW,yE,yZ⟩
 have hj:j≤al.length:=fW
 have ho:∀r∈rs,nV r:=yE
 have hL:fJ rs=gF k ow (al.take j):=yZ
 clear fW yE yZ
 have mG:rs.length=k:=by
  have:=congrArg List.length hL
  rw[pU]at this
  exact (List.length_map _).symm.trans this
 refine an (p:=(j:Int)<al.length) (fun ab =>?_) (fun aq =>?_)
 rotate_left
 ·have aq:¬(j:Int)<al.length:=aq
  rw[List.take_of_length_le (by omega)]at hL
  subst mG
  exact .perm ((List.Perm.cons _ List.perm_middle).trans (List.Perm.swap _ _ _)) (.done ⟨bo,rs,rfl,rfl,ho,hL⟩)
 have ab:j<al.length:=by omega
 obtain⟨z,hz⟩:∃z,al[j]=z:=⟨_,rfl⟩
 have dH:=hr z (hz▸List.getElem_mem ab)
 have yv:al[((j:Nat):Int).toNat]?=some z:=by rw[Int.toNat_natCast,List.getElem?_eq_getElem ab,hz]
 have dh:al.take (j+1)=al.take j++[z]:=by rw[List.take_succ_eq_append_getElem ab,hz]
 obtain⟨w,hw⟩:∃w:Nat,ow.getD z.toNat 0=(w:Int):=⟨(ow.getD z.toNat 0).toNat,by have:=gA z.toNat (by omega);omega⟩
 have pJ:w<k:=by have:=gA z.toNat (by omega);omega
 have vJ:ow[z.toNat]?=some (w:Int):=by rw[← hw,List.getD_eq_getElem?_getD,List.getElem?_eq_getElem (by omega)];rfl
 obtain⟨A,r,B,rfl,hA⟩:∃A r B,rs=A++r::B∧w=A.length:=⟨rs.take w,rs[w]'(by omega),rs.drop (w+1),by simp,by rw[List.length_take];omega⟩
 obtain⟨c,acc,rl⟩:=r
 have hAw:((w:Nat):Int)=A.length:=by rw[hA]
 rw[rF]
 have rb:=I4 A (c,acc,rl) B hAw
 have fX:=fun r2=>H0 A (c,acc,rl) r2 B hAw
 have tC:(gF k ow (al.take j))[w]?=some rl:=by rw[← hL,hA];exact I3 A (c,acc,rl) B
 have fe:=GZ hw tC
 rw[← dh]at fe
 generalize hC:fK (A++(c,acc,rl)::B)=C at rb fX
 have j0:nV (c,acc,rl):=ho _ (List.mem_append_right _ (List.mem_cons_self ..))
 have hCl:C.length=k:=by rw[← hC,H2];exact mG
 have hrb:rl.length≤100000:=by
  rw[sZ pJ]at tC
  rw[← Option.some.inj tC]
  exact Nat.le_trans (List.length_filter_le _ _) (by rw[List.length_take];omega)
 have ei:∀v' aP,Acc 1 (rl.length+1) v' aP (ak rl++[.int .i64 z])→j+1≤al.length∧(∀r∈A++(.via v',aP,rl++[z])::B,nV r)∧fJ (A++(.via v',aP,rl++[z])::B)=gF k ow (al.take (j+1)):=fun v' aP h'=>by
  have lf:(rl++[z]:List Int).length=rl.length+1:=List.length_append
  refine⟨ab,fun r hr =>?_,?_⟩
  ·rcases List.mem_append.1 hr with hr | hr
   ·exact ho r (List.mem_append_left _ hr)
   ·rcases List.mem_cons.1 hr with rfl | hr
    ·refine .inr ⟨v',rfl,?_⟩
     show Acc 1 (rl++[z]:List Int).length v' aP (ak (rl++[z]))
     rw[lf,show ak (rl++[z])=ak rl++[.int .i64 z] from List.map_append]
     exact h'
    ·exact ho r (List.mem_append_right _ (List.mem_cons_of_mem _ hr))
  ·rw[fe,← hL,hA];exact HZ A (c,acc,rl) (.via v',aP,rl++[z]) B
 refine ah.mk rfl (aT.mk z (by omega) yv ?_)
 refine az [] (Lo bx ow z w _ dH.1 vJ) ?_
 refine az [] (Lo bx ow z w _ dH.1 vJ) ?_
 refine ah.mk ⟨rfl,by omega,by omega⟩ ?_
 rcases j0 with ⟨q1,q2,q3⟩ | ⟨v,q1,q2⟩
 ·have q1:c=.aj:=q1
  have q2:acc=[]:=q2
  have q3:rl=[]:=q3
  subst q1
  subst q2
  subst q3
  refine aa.mk 1 _ _ rfl (eO rfl rb) ?_
  intro aC
  refine dX ((aC,[.int .i64 z])::(bx,[.af (.int .i64) ow])::(bo,C)::fL A) (Acc.nil (e:=1)) (.ae 0 aC 0 1 _ rfl (Nat.le_of_ble_eq_true rfl)) rfl (by omega) (by decide) (by decide) (fun v' aP h' =>?_)
  refine ah.mk ⟨rfl,by omega,by omega⟩ ?_
  refine ai.mk 2 _ _ rfl ((l6 rfl rfl (by omega)).trans (congrArg some (fX (.via v',aP,[]++[z])))) ?_
  exact aH (j+1,A++(.via v',aP,[]++[z])::B) (by show al.length-(j+1)<al.length-j;omega) (ei v' aP h') ⟨rfl,rfl,rfl,rfl,aI (by omega),trivial⟩ (.drop 0 1 (aF (by rw[rF];rfl)))
 ·have q1:c=.via v:=q1
  have q2:Acc 1 rl.length v acc (ak rl):=q2
  subst q1
  refine aa.mk 1 _ _ rfl (eO rfl rb) ?_
  intro aC
  refine dX (k:=rl.length) (n:=1) ((aC,[.int .i64 z])::(bx,[.af (.int .i64) ow])::(bo,C)::fL A) q2 (.ae 0 aC 0 1 _ rfl (Nat.le_of_ble_eq_true rfl)) rfl (by omega) (by decide) (by decide) (fun v' aP h' =>?_)
  refine ah.mk ⟨rfl,by omega,by omega⟩ ?_
  refine ai.mk 2 _ _ rfl ((l6 rfl rfl (by omega)).trans (congrArg some (fX (.via v',aP,rl++[z])))) ?_
  exact aH (j+1,A++(.via v',aP,rl++[z])::B) (by show al.length-(j+1)<al.length-j;omega) (ei v' aP h') ⟨rfl,rfl,rfl,rfl,aI (by omega),trivial⟩ (.drop 0 1 (aF (by rw[rF];rfl)))
theorem Ig{k:Nat}{x:Int}(hx:0≤x∧x<(k:Int)):∀(p o:List Int),(∀i:Nat,i<o.length→0≤o.getD i 0∧o.getD i 0<(k:Int))→∀i:Nat,i<o.length→0≤(lU x p o).getD i 0∧(lU x p o).getD i 0<(k:Int)
 | [],_,h=>h
 | a::p,o,h=>by
  have ih:=Ig hx p (o.set a.toNat x) fun i hi=>by
   rw[List.length_set]at hi
   rw[List.getD_eq_getElem?_getD,List.getElem?_set]
   by_cases e:a.toNat=i
   ·subst e;rw[if_pos rfl,if_pos hi];exact hx
   ·rw[if_neg e,← List.getD_eq_getElem?_getD];exact h i hi
  rw[List.length_set]at ih
  exact ih
theorem Ie{n k:Nat}{Q:List (List Int)}(hk:1≤k)(aS:∀p∈Q,p≠[])(fy:Q.flatten.length≤n):∀j,j≤Q.length→∀i:Nat,i<n→0≤(jI n k Q j).getD i 0∧(jI n k Q j).getD i 0<(k:Int)
 | 0,_,i,hi=>by
  show 0≤(List.replicate n (0:Int)).getD i 0∧(List.replicate n (0:Int)).getD i 0<(k:Int)
  rw[List.getD_eq_getElem?_getD,List.getElem?_replicate,if_pos hi]
  show (0:Int)≤0∧(0:Int)<k
  omega
 | j+1,hj,i,hi=>by
  have ih:=Ie hk aS fy j (by omega)
  have ab:j<Q.length:=hj
  have nw:=List.length_pos_iff.2 (aS _ (List.getElem_mem ab))
  have h1:=Cw Q (j+1)
  rw[List.take_succ_eq_append_getElem ab,List.flatten_append,List.length_append,show [Q[j]].flatten=Q[j] by simp]at h1
  have ha:(Q.take j).flatten.length<n:=by omega
  have hx:k*(Q.take j).flatten.length / n<k:=by
   refine Nat.div_lt_of_lt_mul ?_
   rw[Nat.mul_comm n k]
   exact Nat.mul_lt_mul_of_pos_left ha (by omega)
  have hl:=oV n k Q j
  refine Ig (k:=k) ⟨Int.natCast_nonneg _,Int.ofNat_lt.2 hx⟩ _ _ (fun i hi=>ih i (by omega)) i (by omega)
theorem OC{n k:Nat}{l:List aK}(hk:1≤k)(aS:∀p∈eI n l,p≠[])(fy:(eI n l).flatten.length≤n):∀i:Nat,i<n→0≤(gu n k l).getD i 0∧(gu n k l).getD i 0<(k:Int):=Ie hk aS fy _ (Nat.le_refl _)
def xK(n k:Nat)(l:List aK)(fr:List Int):List (List Int):=gF k (gu n k l) (nq n l fr).reverse
theorem Vs(n:Nat)(l:List aK)(fr:List Int)(k:Nat)(σ:Hp)(hl:l.length≤100000)(hf:fr.length≤100000)(cJ:cU n l=true)(jL:∀x∈fr,0≤x∧x<(n:Int))(h1:1≤k)(h2:k≤64):ACalls Tryz.prog 51 [.int .i64 n,.af bA l,.af (.int .i64) fr,.int .i64 k] σ (fun r σ'=>r=.tup [.af (.slice (.int .i64)) (xK n k l fr),.int .i64 0]∧σ'=σ∧ft n (nq n l fr)∧(∀i:Nat,i<n→0≤(gu n k l).getD i 0∧(gu n k l).getD i 0<(k:Int))∧ft n (eI n l).flatten∧ft n (gH n l fr)):=by
 have hn:1≤n∧n≤256:=by
  unfold cU at cJ
  simp only[Bool.and_eq_true,decide_eq_true_eq]at cJ
  omega
 refine okF Tryz.func51 (by kernel_rfl) ?_
 refine az [] (MQ k _ h1 h2) ?_
 refine .mk [] _ (Uu n l fr _ hl hf cJ jL) ?_
 rintro _ _ ⟨ba,rfl,rfl,hA,aS,fy,vP⟩
 have gA:=OC (k:=k) h1 aS (Nat.le_of_eq fy.len)
 refine az [] (Ut n l k _ hl cJ h1 h2) ?_
 intro bx
 refine ai.mk 0 _ _ rfl rfl ?_
 have hlen:=hA.len
 unfold xK
 have gj:(gu n k l).length=n:=oV n k _ _
 generalize gu n k l=ow at gA gj
 generalize nq n l fr=L at hA hlen
 refine az [1] (Sg ba L _ _ rfl (by omega)) ?_
 refine .bO (args':=[.af (.int .i64) L.reverse,.int .i64 k,.fn (.func 109) [] [.ptr bx 0]]) 0 ba 0 L.length 1 _ (.int .i64) L.reverse rfl (by rw[List.drop_zero,List.take_of_length_le (by rw[jm,List.length_reverse,Nat.mul_one];exact Nat.le_refl _)];exact fi _) ⟨List.length_reverse,rfl,by decide⟩ (bL .here (.refl _)) ?_
 refine .mk [] _ (VL n k bx ow L.reverse _ h1 h2 (by rw[List.length_reverse];omega) (fun x hx=>hA.rg x (List.mem_reverse.1 hx)) gj gA) ?_
 rintro _ _ ⟨ls,rfl,rfl,rfl⟩
 exact .drop 0 1 (.done ⟨rfl,rfl,hA,gA,fy,vP⟩)
end Go.Proofs.YtnpidbjdilnhlaaGreat
namespace Go.Proofs.YtnpidbjdilnhlaaGreat
open Go.RowKit
set_option maxRecDepth 100000
set_option maxHeartbeats 4000000
theorem Px(k:Nat)(ow al:List Int):fJ (List.replicate k ((.aj,[],[]):fU))=gF k ow (al.drop al.length).reverse:=by
 rw[List.drop_length,List.reverse_nil]
 refine List.ext_getElem? fun i =>?_
 unfold fJ
 rw[List.getElem?_map,List.getElem?_replicate]
 rcases Nat.lt_or_ge i k with hi | hi
 ·rw[if_pos hi,sZ hi];rfl
 ·rw[if_neg (by omega),List.getElem?_eq_none (by rw[pU];exact hi)];rfl
theorem Sj(n:Nat)(l:List aK)(fr:List Int)(k:Nat)(σ:Hp)(hl:l.length≤100000)(h1:1≤n)(hn:n≤256)(im:1≤k)(cD:k≤64)(hf:fr.length≤100000)(jL:∀z∈fr,0≤z∧z<n)(gA:∀i:Nat,i<n→0≤(gu n k l).getD i 0∧(gu n k l).getD i 0<(k:Int)):ACalls Tryz.prog 57 [.int .i64 n,.af bA l,.af (.int .i64) fr,.int .i64 k] σ (fun r σ'=>∃ls:List (List Int),r=.af (.slice (.int .i64)) ls∧σ'=σ∧ls=gF k (gu n k l) (rZ n l fr).reverse):=by
 refine Hd ?_
 refine okF Tryz.func57 (by kernel_rfl) ?_
 have gj:(gu n k l).length=n:=oV n k _ _
 have hOw:=fun τ=>QK n l k τ hl ⟨h1,hn⟩ im cD
 generalize gu n k l=ow at gA gj hOw
 refine az [] (hOw _) ?_
 refine .mk [] _ (Sp n l fr _ hl hn hf jL) ?_
 rintro r τ ⟨hr0,sm,bH,haz⟩
 subst τ
 generalize rZ n l fr=al at bH haz hr0
 subst hr0
 refine ah.mk ⟨by omega,by omega,by omega,by decide⟩ ?_
 intro bo
 refine aU (S:=Nat×List fU) (fun s=>[(9,.af (.int .i64) ow),(10,.af (.int .i64) al),(11,.ae bo 0 k 1),(12,.int .i64 ((s.1:Int)-1))]) (fun s=>(bo,fK s.2)::(fL s.2++σ)) (fun s=>s.1≤al.length∧(∀r∈s.2,nV r)∧fJ s.2=gF k ow (al.drop s.1).reverse) (fun s=>s.1) (al.length,List.replicate k (.aj,[],[])) ⟨⟨Nat.le_refl _,fun r hr=>.inl (by rw[List.eq_of_mem_replicate hr];exact⟨rfl,rfl,rfl⟩),Px k ow al⟩,⟨rfl,rfl,rfl,?_,trivial⟩,?_⟩ ?_
 ·show AV.int .i64 (IntKind.i64.wrap ((al.length:Int)-1))=.int .i64 ((al.length:Int)-1)
  rw[IntKind.wrap_i64,show ((al.length:Int)-1+9223372036854775808) % 18446744073709551616-9223372036854775808=(al.length:Int)-1 by omega]
 ·show _=(bo,fK (List.replicate k (.aj,[],[])))::(fL (List.replicate k (.aj,[],[]))++σ)
  rw[← I8,H4];rfl
 rintro⟨j,rs⟩ g ⟨fW,yE,yZ⟩
 have hj:j≤al.length:=fW
 have ho:∀r∈rs,nV r:=yE
 have hL:fJ rs=gF k ow (al.drop j).reverse:=yZ
 have mG:rs.length=k:=by
  have:=congrArg List.length hL
  rw[pU]at this
  exact (List.length_map _).symm.trans this
 clear fW yE yZ
 refine an (p:=0≤(j:Int)-1) (fun ab =>?_) (fun aq =>?_)
 rotate_left
 ·have fW:j=0:=by omega
  subst fW
  rw[List.drop_zero]at hL
  subst mG
  exact .done ⟨bo,rs,rfl,rfl,ho,hL⟩
 obtain⟨i,rfl⟩:∃i,j=i+1:=⟨j-1,by omega⟩
 have F5:i<al.length:=by omega
 have nA:(((i+1:Nat):Int)-1).toNat=i:=by omega
 obtain⟨z,hz⟩:∃z,al[i]=z:=⟨_,rfl⟩
 have dH:=haz z (hz▸List.getElem_mem F5)
 have yv:al[(((i+1:Nat):Int)-1).toNat]?=some z:=by rw[nA,List.getElem?_eq_getElem F5,hz]
 refine ah.mk rfl (aT.mk z (by omega) yv ?_)
 obtain⟨w,hw⟩:∃w,ow.getD z.toNat 0=w:=⟨_,rfl⟩
 have vJ:ow[z.toNat]?=some w:=by rw[← hw];exact La (by omega)
 have pJ:0≤w∧w<(k:Int):=by rw[← hw];exact gA z.toNat (by omega)
 refine ah.mk rfl (aT.mk w (by omega) vJ ?_)
 obtain⟨A,r,B,rfl,hA⟩:∃A r B,rs=A++r::B∧(w:Int)=A.length:=⟨rs.take w.toNat,rs[w.toNat]'(by omega),rs.drop (w.toNat+1),by simp,by rw[List.length_take];omega⟩
 obtain⟨c,acc,rl⟩:=r
 rw[rF]
 have rb:=I4 A (c,acc,rl) B hA
 have fX:=fun r2=>H0 A (c,acc,rl) r2 B hA
 generalize hC:fK (A++(c,acc,rl)::B)=C at rb fX
 have hr:nV (c,acc,rl):=ho _ (List.mem_append_right _ (List.mem_cons_self ..))
 have hCl:C.length=k:=by rw[← hC,H2];exact mG
 have hdr:(al.drop i).reverse=(al.drop (i+1)).reverse++[z]:=by rw[List.drop_eq_getElem_cons F5,List.reverse_cons,hz]
 have tC:(gF k ow (al.drop (i+1)).reverse)[A.length]?=some rl:=by rw[← hL];exact I3 A (c,acc,rl) B
 have fe:=GZ (w:=A.length) (hw.trans hA) tC
 rw[← hdr]at fe
 have hrb:rl.length≤al.length:=by
  rw[sZ (by omega)]at tC
  rw[← Option.some.inj tC]
  exact Nat.le_trans (List.length_filter_le _ _) (by rw[List.length_reverse,List.length_drop];omega)
 have ei:∀v' aP,Acc 1 (rl.length+1) v' aP (ak rl++[.int .i64 z])→i≤al.length∧(∀r∈A++(.via v',aP,rl++[z])::B,nV r)∧fJ (A++(.via v',aP,rl++[z])::B)=gF k ow (al.drop i).reverse:=fun v' aP h'=>by
  have lf:(rl++[z]:List Int).length=rl.length+1:=List.length_append
  refine⟨by omega,fun r hr =>?_,?_⟩
  ·rcases List.mem_append.1 hr with hr | hr
   ·exact ho r (List.mem_append_left _ hr)
   ·rcases List.mem_cons.1 hr with rfl | hr
    ·refine .inr ⟨v',rfl,?_⟩
     show Acc 1 (rl++[z]:List Int).length v' aP (ak (rl++[z]))
     rw[lf,show ak (rl++[z])=ak rl++[.int .i64 z] from List.map_append]
     exact h'
    ·exact ho r (List.mem_append_right _ (List.mem_cons_of_mem _ hr))
  ·rw[fe,← hL];exact HZ A (c,acc,rl) (.via v',aP,rl++[z]) B
 have By:AV.int .i64 (IntKind.i64.wrap (((i+1:Nat):Int)-1-1))=.int .i64 ((i:Int)-1):=by
  rw[IntKind.wrap_i64,show (((i+1:Nat):Int)-1-1+9223372036854775808) % 18446744073709551616-9223372036854775808=(i:Int)-1 by omega]
 rcases hr with ⟨q1,q2,q3⟩ | ⟨v,q1,q2⟩
 ·have q1:c=.aj:=q1
  have q2:acc=[]:=q2
  have q3:rl=[]:=q3
  subst q1
  subst q2
  subst q3
  refine .sched [] (.one 0 false (.one 1 false (.one 2 false (.one 3 false (.one 4 false (.one 6 false (.one 7 false (.one 8 false (.one 9 false (.alt 5 (.one 10 false (.one 11 false (.one 12 false (.one 13 false .stop)))) (.one 10 false (.one 5 false (.one 11 false (.one 12 false (.one 13 false .stop))))))))))))))) (by kernel_rfl) ?_
  refine ah.mk ⟨rfl,by omega,by omega⟩ ?_
  refine ah.mk rfl ?_
  refine aT.mk z (by omega) yv ?_
  refine And.intro ?_ ?_
  ·refine aa.mk 0 _ _ rfl (eO rfl rb) ?_
   intro aC
   refine dX ((aC,[.int .i64 z])::(bo,C)::fL A) (Acc.nil (e:=1)) (.ae 0 aC 0 1 _ rfl (Nat.le_of_ble_eq_true rfl)) rfl (by omega) (by decide) (by decide) (fun v' aP h' =>?_)
   refine ah.mk ⟨rfl,by omega,by omega⟩ ?_
   refine ai.mk 1 _ _ rfl ((l6 rfl rfl (by omega)).trans (congrArg some (fX (.via v',aP,[]++[z])))) ?_
   exact aH (i,A++(.via v',aP,[]++[z])::B) (Nat.lt_succ_self i) (ei v' aP h') ⟨rfl,rfl,rfl,By,trivial⟩ (.drop 0 1 (aF (by rw[rF];rfl)))
  ·intro bM
   refine aa.mk 1 _ _ rfl (eO rfl rb) ?_
   refine dX ((bM,[.int .i64 z])::(bo,C)::fL A) (Acc.nil (e:=1)) (.ae 0 bM 0 1 _ rfl (Nat.le_of_ble_eq_true rfl)) rfl (by omega) (by decide) (by decide) (fun v' aP h' =>?_)
   refine ah.mk ⟨rfl,by omega,by omega⟩ ?_
   refine ai.mk 1 _ _ rfl ((l6 rfl rfl (by omega)).trans (congrArg some (fX (.via v',aP,[]++[z])))) ?_
   exact aH (i,A++(.via v',aP,[]++[z])::B) (Nat.lt_succ_self i) (ei v' aP h') ⟨rfl,rfl,rfl,By,trivial⟩ (.drop 0 1 (aF (by rw[rF];rfl)))
 ·have q1:c=.via v:=q1
  have q2:Acc 1 rl.length v acc (ak rl):=q2
  subst q1
  refine .sched [] (.one 0 false (.one 1 false (.one 2 false (.one 3 false (.one 4 false (.one 6 false (.one 7 false (.one 8 false (.one 9 false (.alt 5 (.one 10 false (.one 11 false (.one 12 false (.one 13 false .stop)))) (.one 10 false (.one 5 false (.one 11 false (.one 12 false (.one 13 false .stop))))))))))))))) (by kernel_rfl) ?_
  refine ah.mk ⟨rfl,by omega,by omega⟩ ?_
  refine ah.mk rfl ?_
  refine aT.mk z (by omega) yv ?_
  refine And.intro ?_ ?_
  ·refine aa.mk 0 _ _ rfl (eO rfl rb) ?_
   intro aC
   refine dX ((aC,[.int .i64 z])::(bo,C)::fL A) q2 (.ae 0 aC 0 1 _ rfl (Nat.le_of_ble_eq_true rfl)) rfl (show rl.length+1≤1048576 by omega) (by decide) (by decide) (fun v' aP h' =>?_)
   refine ah.mk ⟨rfl,by omega,by omega⟩ ?_
   refine ai.mk 1 _ _ rfl ((l6 rfl rfl (by omega)).trans (congrArg some (fX (.via v',aP,rl++[z])))) ?_
   exact aH (i,A++(.via v',aP,rl++[z])::B) (Nat.lt_succ_self i) (ei v' aP h') ⟨rfl,rfl,rfl,By,trivial⟩ (.drop 0 1 (aF (by rw[rF];rfl)))
  ·intro bM
   refine aa.mk 1 _ _ rfl (eO rfl rb) ?_
   refine dX ((bM,[.int .i64 z])::(bo,C)::fL A) q2 (.ae 0 bM 0 1 _ rfl (Nat.le_of_ble_eq_true rfl)) rfl (show rl.length+1≤1048576 by omega) (by decide) (by decide) (fun v' aP h' =>?_)
   refine ah.mk ⟨rfl,by omega,by omega⟩ ?_
   refine ai.mk 1 _ _ rfl ((l6 rfl rfl (by omega)).trans (congrArg some (fX (.via v',aP,rl++[z])))) ?_
   exact aH (i,A++(.via v',aP,rl++[z])::B) (Nat.lt_succ_self i) (ei v' aP h') ⟨rfl,rfl,rfl,By,trivial⟩ (.drop 0 1 (aF (by rw[rF];rfl)))
end Go.Proofs.YtnpidbjdilnhlaaGreat
namespace Go.Proofs.YtnpidbjdilnhlaaGreat
open Go.RowKit
set_option maxRecDepth 100000
def jD(b:Nat)(a ws:List Int):Nat→List Int
 | 0=>ws
 | i+1=>(jD b a ws i).set (b+i) (wd a i)
theorem zB(b:Nat)(a ws:List Int)(k:Nat):(jD b a ws k).length=ws.length:=by
 induction k with
 | zero=>rfl
 | succ k ih=>rw[jD,List.length_set,ih]
theorem Ia{b:Nat}{a ws:List Int}:∀(k:Nat),b+k≤1000000000→vz (b:Int) a ws k=jD b a ws k
 | 0,_=>rfl
 | k+1,h=>by
  rw[vz,jD,Ia k (by omega),show wr ((b:Int)+(k:Int))=((b+k:Nat):Int) from (fh (by omega) (by omega)).trans (Int.natCast_add b k).symm]
  exact jn _
def gq(N W:Nat)(st:Nat→List Int)(ws:List Int):Nat→List Int
 | 0=>ws
 | v+1=>(jD (v*W) (st v) (gq N W st ws v) W).set (N*W+v) 1
theorem pV(N W:Nat)(st:Nat→List Int)(ws:List Int)(k:Nat):(gq N W st ws k).length=ws.length:=by
 induction k with
 | zero=>rfl
 | succ k ih=>rw[gq,List.length_set,zB,ih]
def fA(b r:Nat)(x ws:List Int):Nat→List Int
 | 0=>ws
 | i+1=>(fA b r x ws i).set (b+2+(1+i) % r) (x.getD i 0)
theorem HK(b r:Nat)(x ws:List Int)(k:Nat):(fA b r x ws k).length=ws.length:=by
 induction k with
 | zero=>rfl
 | succ k ih=>rw[fA,List.length_set,ih]
theorem Ks(b r:Nat)(x ws:List Int)(y:Int):∀k,fA b r x (ws.set (b+1) y) k=(fA b r x ws k).set (b+1) y
 | 0=>rfl
 | k+1=>by rw[fA,fA,Ks b r x ws y k,List.set_comm _ _ (by omega)]
def rp(b r:Nat)(x ws:List Int):List Int:=fA b r x ((ws.set b 1).set (b+1) ((1+x.length:Nat):Int)) x.length
theorem OZ(b r:Nat)(x ws:List Int):(rp b r x ws).length=ws.length:=by rw[rp,HK,List.length_set,List.length_set]
theorem RT(b r:Nat)(x ws:List Int):(fA b r x ((ws.set b 1).set (b+1) 1) x.length).set (b+1) ((1+x.length:Nat):Int)=rp b r x ws:=by
 rw[← Ks,List.set_set];rfl
def fS(b0 d r:Nat)(ls:List (List Int))(ws:List Int):Nat→List Int
 | 0=>ws
 | w+1=>rp (b0+w*d) r (ls.getD w []) (fS b0 d r ls ws w)
theorem Ha(b0 d r:Nat)(ls:List (List Int))(ws:List Int)(k:Nat):(fS b0 d r ls ws k).length=ws.length:=by
 induction k with
 | zero=>rfl
 | succ k ih=>rw[fS,OZ,ih]
def tp(N W:Nat)(st:Nat→List Int)(ls:List (List Int))(ws:List Int):List Int:=
 fS (N*W+N+1) (N+3) (N+1) ls ((gq N W st ws N).set (N*W+N) (N:Int)) ls.length
theorem GW(N W:Nat)(st:Nat→List Int)(ls:List (List Int))(ws:List Int):(tp N W st ls ws).length=ws.length:=by rw[tp,Ha,List.length_set,pV]
theorem uX(x:List Int)(i a:Nat)(z:Int)(hi:i<x.length):(x.set i z).getD a 0=if a=i then z else x.getD a 0:=by
 rw[List.getD_eq_getElem?_getD,List.getD_eq_getElem?_getD,List.getElem?_set]
 by_cases h:a=i
 ·subst h;rw[if_pos rfl,if_pos hi,if_pos rfl];rfl
 ·rw[if_neg (fun e=>h e.symm),if_neg h]
theorem kD(x:List Int)(i a:Nat)(z:Int)(h:a≠i):(x.set i z).getD a 0=x.getD a 0:=by
 rw[List.getD_eq_getElem?_getD,List.getD_eq_getElem?_getD,List.getElem?_set,if_neg (fun e=>h e.symm)]
theorem Kt{b r:Nat}{l ws:List Int}{a:Nat}(hr:0<r)(ha:b+2+r≤a):∀k,(fA b r l ws k).getD a 0=ws.getD a 0
 | 0=>rfl
 | k+1=>by
  have:=Nat.mod_lt (1+k) hr
  rw[fA,kD _ _ _ _ (by omega)];exact Kt hr ha k
theorem JI{b0 N:Nat}{ls:List (List Int)}{ws:List Int}{a:Nat}:∀k,b0+k*(N+3)≤a→(fS b0 (N+3) (N+1) ls ws k).getD a 0=ws.getD a 0
 | 0,_=>rfl
 | k+1,h=>by
  rw[Nat.succ_mul]at h
  rw[fS,rp,Kt (by omega) (by omega),kD _ _ _ _ (by omega),kD _ _ _ _ (by omega)]
  exact JI k (by omega)
theorem Dj{b:Nat}{l ws:List Int}{a:Nat}:∀k,b+k≤a→(jD b l ws k).getD a 0=ws.getD a 0
 | 0,_=>rfl
 | k+1,h=>by rw[jD,kD _ _ _ _ (by omega)];exact Dj k (by omega)
theorem CI{N W:Nat}{st:Nat→List Int}{ws:List Int}{a:Nat}(h:N*W+N≤a):∀k,k≤N→(gq N W st ws k).getD a 0=ws.getD a 0
 | 0,_=>rfl
 | k+1,hk=>by
  have h6:(k+1)*W≤N*W:=Nat.mul_le_mul_right _ hk
  rw[Nat.succ_mul]at h6
  rw[gq,kD _ _ _ _ (by omega),Dj W (by omega)]
  exact CI h k (by omega)
theorem Qi{N W:Nat}{st:Nat→List Int}{ls:List (List Int)}{ws:List Int}{a:Nat}(h:N*W+N+1+ls.length*(N+3)≤a):(tp N W st ls ws).getD a 0=ws.getD a 0:=by
 rw[tp,JI _ h,kD _ _ _ _ (by omega)]
 exact CI (by omega) N (Nat.le_refl _)
end Go.Proofs.YtnpidbjdilnhlaaGreat
