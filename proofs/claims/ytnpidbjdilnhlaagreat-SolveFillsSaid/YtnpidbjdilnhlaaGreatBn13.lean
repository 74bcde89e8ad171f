import Derived.Test.YtnpidbjdilnhlaaGreatBn12
import Derived.Test.YtnpidbjdilnhlaaGreatBn11
namespace Go.Proofs.YtnpidbjdilnhlaaGreat
open Go.RowKit
set_option maxRecDepth 100000
abbrev fF(m q:Nat)(ws:List Int)(σ:Hp):Hp:=(m,[AV.ae q 0 ws.length 1])::(q,aL ws)::σ
theorem WD(n:Int)(σ:Hp):ACalls Tryz.prog 55 [.int .i64 n] σ (fun r σ'=>∃m q,r=.ptr m 0∧σ'=fF m q (List.replicate (jG n) 0) σ):=by
 have hc:=Kw n
 have e:(if (1048576:Int)<(if n<0 then 0 else n) then 1048576 else (if n<0 then 0 else n))=((jG n:Nat):Int):=by
  unfold jG
  by_cases h:n<0
  ·simp only[if_pos h];omega
  ·simp only[if_neg h];split <;> omega
 refine okF Tryz.func55 (by kernel_rfl) ?_
 refine ah.mk ⟨by rw[e];omega,Int.le_refl _,by rw[e];omega,by decide⟩ ?_
 intro q m
 refine .done ⟨m,q,rfl,?_⟩
 show (m,[AV.ae q 0 (if (1048576:Int)<(if n<0 then 0 else n) then 1048576 else (if n<0 then 0 else n)).toNat 1])::(q,bN [AV.int .u64 0] (if (1048576:Int)<(if n<0 then 0 else n) then 1048576 else (if n<0 then 0 else n)).toNat)::σ=_
 rw[e,Int.toNat_natCast,uK]
 unfold fF
 rw[List.length_replicate]
theorem WE(m q:Nat)(ws:List Int)(a:Int)(σ:Hp):ACalls Tryz.prog 183 [.ptr m 0,.int .i64 a] (fF m q ws σ) (aB (.bool (decide (0≤a) && decide (a<ws.length))) (fF m q ws σ)):=by
 refine okF Tryz.func183 (by kernel_rfl) ?_
 refine an (fun h =>?_) (fun h =>?_)
 ·refine aa.mk 0 _ _ rfl rfl ?_
  refine an (fun h2 =>?_) (fun h2 =>?_)
  ·have h2:a<ws.length:=h2
   exact .done ⟨bz (by simp[h,h2]),rfl⟩
  ·have h2:¬a<ws.length:=h2
   exact .done ⟨bz (by simp[h2]),rfl⟩
 ·exact .done ⟨bz (by simp[h]),rfl⟩
theorem Er(m q:Nat)(ws:List Int)(i:Nat)(x:Int)(σ:Hp):(m,[AV.ae q 0 ws.length 1])::(q,aL (ws.set i x))::σ=fF m q (ws.set i x) σ:=by unfold fF;rw[List.length_set]
theorem aDo(m q:Nat)(ws:List Int)(k t a b:Int)(σ:Hp):ACalls Tryz.prog 135 [.ptr m 0,.agg [.int .i64 k,.int .i64 t,.int .u64 a,.int .u64 b]] (fF m q ws σ) (aB (.tup [.int .u64 (uo ws k t a),.bool (tJ ws k t a)]) (fF m q (tI ws k t a b) σ)):=by
 refine okF Tryz.func135 (by kernel_rfl) ?_
 intro c
 refine aa.mk 0 _ _ rfl rfl ?_
 refine az [2,2] (WE m q ws t ((c,[.int .i64 k,.int .i64 t,.int .u64 a,.int .u64 b])::σ)) ?_
 by_cases hh:0≤t∧t<(ws.length:Int)
 ·rw[wV t ws.length hh.1 hh.2]
  have hH:=C0 hh.1 hh.2
  obtain⟨i,rfl⟩:=Int.eq_ofNat_of_zero_le hh.1
  have hi:i<ws.length:=by omega
  refine aa.mk 2 _ _ rfl rfl ?_
  refine an (fun h1 =>?_) (fun h1 =>?_)
  ·refine .quiet (by kernel_rfl) ?_
   refine aa.mk 0 _ _ rfl rfl ?_
   refine aa.mk 2 _ _ rfl rfl ?_
   refine ah.mk ⟨rfl,hh.1,hh.2⟩ ?_
   refine aa.mk 1 _ _ rfl (rP hi) ?_
   refine .drop 2 1 (.done ⟨?_,?_⟩)
   ·show AV.tup [.int .u64 (ws.getD i 0),.bool false]=_
    simp[uo,tJ,h1,kE]
   ·simp[tI,h1]
  refine aa.mk 2 _ _ rfl rfl ?_
  refine an (fun h2 =>?_) (fun h2 =>?_)
  ·refine .each (by kernel_rfl) ?_
   refine aa.mk 0 _ _ rfl rfl ?_
   refine aa.mk 2 _ _ rfl rfl ?_
   refine aa.mk 2 _ _ rfl rfl ?_
   refine ah.mk ⟨rfl,hh.1,hh.2⟩ ?_
   refine ai.mk 1 _ _ rfl (uH a hi) ?_
   refine .drop 2 1 (.done ⟨?_,?_⟩)
   ·show AV.tup [.int .u64 0,.bool false]=_
    simp[uo,tJ,h2]
   ·refine (Er m q ws i a σ).trans ?_
    simp[tI,h2,jn]
  refine aa.mk 2 _ _ rfl rfl ?_
  refine an (fun h3 =>?_) (fun h3 =>?_)
  ·refine .quiet (by kernel_rfl) ?_
   refine aa.mk 0 _ _ rfl rfl ?_
   refine aa.mk 2 _ _ rfl rfl ?_
   refine ah.mk ⟨rfl,hh.1,hh.2⟩ ?_
   refine aa.mk 1 _ _ rfl (rP hi) ?_
   refine aa.mk 2 _ _ rfl rfl ?_
   refine an (fun he =>?_) (fun he =>?_)
   ·have e1:kn ws i a=true:=by unfold kn;rw[hH,kE,he];simp
    refine .each (by kernel_rfl) ?_
    refine aa.mk 0 _ _ rfl rfl ?_
    refine aa.mk 2 _ _ rfl rfl ?_
    refine aa.mk 2 _ _ rfl rfl ?_
    refine ah.mk ⟨rfl,hh.1,hh.2⟩ ?_
    refine ai.mk 1 _ _ rfl (uH b hi) ?_
    refine .drop 2 1 (.done ⟨?_,?_⟩)
    ·show AV.tup [.int .u64 0,.bool true]=_
     simp[uo,tJ,h3,e1]
    ·refine (Er m q ws i b σ).trans ?_
     simp[tI,h3,iP,e1,jn]
   ·have e1:kn ws i a=false:=by unfold kn;rw[hH,kE];simpa using he
    refine .drop 2 1 (.done ⟨?_,?_⟩)
    ·show AV.tup [.int .u64 0,.bool false]=_
     simp[uo,tJ,h3,e1]
    ·show fF m q ws σ=_
     simp[tI,h3,iP,e1]
  ·have e1:pB ws i a=IntKind.u64.wrap (ws.getD i 0+a):=by rw[IntKind.wrap_u64];simp only[pB,hH,if_true,kE]
   have e2:kJ ws i a=ws.set i (IntKind.u64.wrap (ws.getD i 0+a)):=by rw[IntKind.wrap_u64];simp only[kJ,hH,if_true,kE,jn]
   refine .each (by kernel_rfl) ?_
   refine aa.mk 0 _ _ rfl rfl ?_
   refine aa.mk 2 _ _ rfl rfl ?_
   refine aa.mk 0 _ _ rfl rfl ?_
   refine aa.mk 2 _ _ rfl rfl ?_
   refine ah.mk ⟨rfl,hh.1,hh.2⟩ ?_
   refine aa.mk 1 _ _ rfl (rP hi) ?_
   refine aa.mk 2 _ _ rfl rfl ?_
   refine ah.mk ⟨rfl,hh.1,hh.2⟩ ?_
   refine ai.mk 1 _ _ rfl (uH _ hi) ?_
   refine .quiet (by kernel_rfl) ?_
   refine aa.mk 0 _ _ rfl rfl ?_
   refine aa.mk 2 _ _ rfl rfl ?_
   refine ah.mk ⟨rfl,hh.1,hh.2⟩ ?_
   refine aa.mk 1 _ _ rfl (rP (ws:=ws.set i (IntKind.u64.wrap (ws.getD i 0+a))) (by rw[List.length_set];exact hi)) ?_
   refine .drop 2 1 (.done ⟨?_,?_⟩)
   ·show AV.tup [.int .u64 ((ws.set i (IntKind.u64.wrap (ws.getD i 0+a))).getD i 0),.bool false]=_
    simp[uo,tJ,h1,h2,h3,e1,hi]
   ·refine (Er m q ws i _ σ).trans ?_
    simp[tI,h1,h2,h3,e2]
 ·have hb:=wM t ws.length hh
  rw[hb]
  have e1:kn ws t a=false:=by simp only[kn,n9,hb,Bool.false_and]
  have e2:fM ws t=0:=Iq hh
  have e3:pB ws t a=0:=by unfold pB;unfold n9;rw[hb];rfl
  have e4:kJ ws t a=ws:=by unfold kJ n9;rw[hb];rfl
  refine .drop 2 1 (.done ⟨?_,?_⟩)
  ·show AV.tup [.int .u64 0,.bool false]=_
   simp[uo,tJ,e1,e2,e3]
  ·show fF m q ws σ=_
   simp[tI,Hn hh,iP,e1,e4]
end Go.Proofs.YtnpidbjdilnhlaaGreat
namespace Go.Proofs.YtnpidbjdilnhlaaGreat
set_option maxRecDepth 100000 in
theorem UM(xs ys:List Int)(σ:Hp)(h1:xs.length≤1000000):ACalls Tryz.prog 60 [.af (.int .u64) xs,.af (.int .u64) ys] σ (fun r σ'=>r=.bool (decide (xs=ys))∧σ'=σ):=by
 refine okF Tryz.func60 (by kernel_rfl) ?_
 refine bS (fun hl =>?_) (fun hl =>?_)
 ·have:xs≠ys:=by rintro rfl;simp at hl
  exact .done ⟨by simp[this];rfl,rfl⟩
 ·have hl:(!decide ((xs.length:Int)=(ys.length:Int)))=false:=hl
  have hlen:xs.length=ys.length:=by simp at hl;omega
  refine aU (S:=Nat) (fun k=>[(0,.af (.int .u64) xs),(1,.af (.int .u64) ys),(12,.int .i64 xs.length),(13,.int .i64 k)]) (fun _=>σ) (fun k=>k≤xs.length∧xs.take k=ys.take k) (fun k=>xs.length-k) 0 ⟨⟨Nat.zero_le _,rfl⟩,⟨rfl,rfl,rfl,rfl,trivial⟩,rfl⟩ ?_
  rintro k g ⟨hk,dh⟩
  refine an (fun ab =>?_) (fun aq =>?_)
  ·have dN:k<xs.length:=by omega
   have x5:k<ys.length:=by omega
   refine eK.quiet (by kernel_rfl) ?_
   refine ah.mk rfl (aT.mk xs[k] (by omega) (get_some dN) ?_)
   refine ah.mk rfl (aT.mk ys[k] (by omega) (get_some x5) ?_)
   refine bS (fun hx =>?_) (fun hx =>?_)
   ·have:xs≠ys:=by rintro rfl;simp at hx
    exact .done ⟨by simp[this];rfl,rfl⟩
   ·have tX:xs[k]=ys[k]:=by simpa using hx
    refine next (k+1) (Nat.sub_lt_sub_left dN (Nat.lt_succ_self k)) ⟨dN,?_⟩ ⟨rfl,rfl,rfl,aI (by omega),trivial⟩ rfl
    rw[List.take_succ_eq_append_getElem dN,List.take_succ_eq_append_getElem x5,dh,tX]
  ·obtain rfl:k=xs.length:=by omega
   have:xs=ys:=by
    rw[List.take_length]at dh
    rw[dh,hlen,List.take_length]
   exact .done ⟨by simp[this];rfl,rfl⟩
end Go.Proofs.YtnpidbjdilnhlaaGreat
namespace Go.Proofs.YtnpidbjdilnhlaaGreat
open Go.RowKit
set_option maxRecDepth 100000
theorem VE(m q:Nat)(ws:List Int)(a:Int)(σ:Hp):ACalls Tryz.prog 81 [.ptr m 0,.int .i64 a] (fF m q ws σ) (aB (.int .u64 (fM ws a)) (fF m q ws σ)):=by
 refine okF Tryz.func81 (by kernel_rfl) ?_
 refine az [] (aDo m q ws 1 a 0 0 σ) ?_
 exact .done ⟨rfl,rfl⟩
end Go.Proofs.YtnpidbjdilnhlaaGreat
namespace Go.Proofs.YtnpidbjdilnhlaaGreat
open Go.RowKit
set_option maxRecDepth 100000
theorem HD{α:Type}{f:α→Hp}{l:List α}{j:Nat}(h:j<l.length):(l.flatMap f).Perm (f l[j]++(l.eraseIdx j).flatMap f):=by
 induction l generalizing j with
 | nil=>simp at h
 | cons x l ih =>
  cases j with
  | zero=>exact List.Perm.refl _
  | succ j =>
   rw[List.flatMap_cons]
   have:=ih (j:=j) (by simpa using h)
   refine (List.Perm.append_left _ this).trans ?_
   simp only[List.getElem_cons_succ,List.eraseIdx_cons_succ,List.flatMap_cons,← List.append_assoc]
   exact List.Perm.append_right _ List.perm_append_comm
theorem Qc{α:Type}{f:α→Hp}{l:List α}{j:Nat}(h:j<l.length)(y:α):((l.set j y).flatMap f).Perm (f y++(l.eraseIdx j).flatMap f):=by
 have:=HD (f:=f) (l:=l.set j y) (j:=j) (by simpa using h)
 rw[List.getElem_set_self,List.eraseIdx_set_eq]at this
 exact this
end Go.Proofs.YtnpidbjdilnhlaaGreat
namespace Go.Proofs.YtnpidbjdilnhlaaGreat
open Go.RowKit
set_option maxRecDepth 100000
set_option maxHeartbeats 4000000
theorem Io{β:Type}(f:Nat→β)(c:β→AV)(i:Nat):((List.range (i+1)).map f).map c=((List.range i).map f).map c++[c (f i)]:=by
 rw[List.range_succ,List.map_append,List.map_append];rfl
theorem MN{e k:Nat}{v:AV}{acc:Hp}{cs cs':List AV}(h:cs=cs')(ha:Acc e k v acc cs'):Acc e k v acc cs:=h▸ha
theorem VN(g:FuncId)(cap:List AV)(St:List Nat→Hp→Prop)(S0 σ:Hp)(h0:St [] S0)(n:Nat)(hn:n≤100000)(yD:∀(L:List Nat) (S τ:Hp),L.length<n→St L S→ACalls Tryz.prog g (.int .i64 L.length::cap) (S++τ) (fun r σ'=>∃w S',r=.ptr w 0∧σ'=S'++τ∧St (L++[w]) S')):ACalls Tryz.prog 124 [.int .i64 n,.fn (.func g) [] cap] (S0++σ) (fun r σ'=>∃L S' acc,L.length=n∧St L S'∧Acc 1 n r acc (L.map fun w=>.ptr w 0)∧σ'=acc++(S'++σ)):=by
 refine okF Tryz.func124 (by kernel_rfl) ?_
 refine .wrap 5 .aj rfl rfl ?_
 refine aU (S:=List Nat×AV×Hp×{S:Hp // True}) (fun t=>[(1,.fn (.func g) [] cap),(5,.via t.2.1),(7,.int .i64 n),(8,.int .i64 t.1.length)]) (fun t=>t.2.2.1++(t.2.2.2.1++σ)) (fun t=>t.1.length≤n∧Acc 1 t.1.length t.2.1 t.2.2.1 (t.1.map (fun w=>AV.ptr w 0))∧St t.1 t.2.2.2.1) (fun t=>n-t.1.length) ([],.aj,[],⟨S0,trivial⟩) ⟨⟨Nat.zero_le _,.nil,h0⟩,⟨rfl,rfl,rfl,rfl,trivial⟩,rfl⟩ ?_
 rintro⟨L,v,acc,⟨S,_⟩⟩ g2 ⟨cY,h0,yU⟩
 have hi:L.length≤n:=cY
 have h:Acc 1 L.length v acc (L.map (fun w=>AV.ptr w 0)):=h0
 have hS:St L S:=yU
 clear cY h0 yU
 refine an (p:=(L.length:Int)<(n:Int)) (fun ab =>?_) (fun aq =>?_)
 rotate_left
 ·have aq:L.length=n:=by omega
  exact .done ⟨L,S,acc,aq,hS,aq▸h,rfl⟩
 have ab:L.length<n:=by omega
 refine .perm (σ2:=S++(acc++σ)) _ (dJ acc S σ) (yD L S (acc++σ) ab hS) ?_
 rintro _ _ ⟨w,S',rfl,rfl,v8⟩
 refine⟨_,(dJ acc S' σ).symm,?_⟩
 intro b1
 refine dX [_] h (.ae 0 b1 0 1 _ rfl (Nat.le_of_ble_eq_true rfl)) rfl (by omega) (by decide) (by decide) (fun v' aP h' =>?_)
 refine aH (L++[w],v',aP,⟨S',trivial⟩) (by show n-(L++[w]).length<n-L.length;rw[List.length_append];simp only[List.length_singleton];omega) ⟨by rw[List.length_append];exact ab,?_,v8⟩ ⟨rfl,rfl,rfl,?_,trivial⟩ (.drop 0 1 (.refl _))
 ·show Acc 1 (L++[w]).length v' aP ((L++[w]).map (fun w=>AV.ptr w 0))
  rw[List.length_append,List.map_append]
  exact h'
 ·rw[List.length_append]
  exact aI (show L.length<1000000000 by omega)
theorem Ls(g:FuncId)(cap:List AV)(St:List Nat→Hp→Prop)(S0 σ:Hp)(h0:St [] S0)(n:Nat)(hn:n≤100000)(yD:∀(L:List Nat) (S τ:Hp),L.length<n→St L S→ACalls Tryz.prog g (.int .i64 L.length::cap) (S++τ) (fun r σ'=>∃w S',r=.iface 173 (.ptr w 0)∧σ'=S'++τ∧St (L++[w]) S')):ACalls Tryz.prog 128 [.int .i64 n,.fn (.func g) [] cap] (S0++σ) (fun r σ'=>∃L S' acc,L.length=n∧St L S'∧Acc 1 n r acc (L.map fun w=>.iface 173 (.ptr w 0))∧σ'=acc++(S'++σ)):=by
 refine okF Tryz.func128 (by kernel_rfl) ?_
 refine .wrap 5 .aj rfl rfl ?_
 refine aU (S:=List Nat×AV×Hp×{S:Hp // True}) (fun t=>[(1,.fn (.func g) [] cap),(5,.via t.2.1),(7,.int .i64 n),(8,.int .i64 t.1.length)]) (fun t=>t.2.2.1++(t.2.2.2.1++σ)) (fun t=>t.1.length≤n∧Acc 1 t.1.length t.2.1 t.2.2.1 (t.1.map (fun w=>AV.iface 173 (.ptr w 0)))∧St t.1 t.2.2.2.1) (fun t=>n-t.1.length) ([],.aj,[],⟨S0,trivial⟩) ⟨⟨Nat.zero_le _,.nil,h0⟩,⟨rfl,rfl,rfl,rfl,trivial⟩,rfl⟩ ?_
 rintro⟨L,v,acc,⟨S,_⟩⟩ g2 ⟨cY,h0,yU⟩
 have hi:L.length≤n:=cY
 have h:Acc 1 L.length v acc (L.map (fun w=>AV.iface 173 (.ptr w 0))):=h0
 have hS:St L S:=yU
 clear cY h0 yU
 refine an (p:=(L.length:Int)<(n:Int)) (fun ab =>?_) (fun aq =>?_)
 rotate_left
 ·have aq:L.length=n:=by omega
  exact .done ⟨L,S,acc,aq,hS,aq▸h,rfl⟩
 have ab:L.length<n:=by omega
 refine .perm (σ2:=S++(acc++σ)) _ (dJ acc S σ) (yD L S (acc++σ) ab hS) ?_
 rintro _ _ ⟨w,S',rfl,rfl,v8⟩
 refine⟨_,(dJ acc S' σ).symm,?_⟩
 intro b1
 refine dX [_] h (.ae 0 b1 0 1 _ rfl (Nat.le_of_ble_eq_true rfl)) rfl (by omega) (by decide) (by decide) (fun v' aP h' =>?_)
 refine aH (L++[w],v',aP,⟨S',trivial⟩) (by show n-(L++[w]).length<n-L.length;rw[List.length_append];simp only[List.length_singleton];omega) ⟨by rw[List.length_append];exact ab,?_,v8⟩ ⟨rfl,rfl,rfl,?_,trivial⟩ (.drop 0 1 (.refl _))
 ·show Acc 1 (L++[w]).length v' aP ((L++[w]).map (fun w=>AV.iface 173 (.ptr w 0)))
  rw[List.length_append,List.map_append]
  exact h'
 ·rw[List.length_append]
  exact aI (show L.length<1000000000 by omega)
theorem VO(g:FuncId)(cap:List AV)(S σ:Hp)(f:Nat→List Int)(n:Nat)(hn:n≤100000)(yD:∀i:Nat,i<n→∀τ,ACalls Tryz.prog g (.int .i64 i::cap) (S++τ) (aB (.af (.int .u64) (f i)) (S++τ))):ACalls Tryz.prog 61 [.int .i64 n,.fn (.func g) [] cap] (S++σ) (aB (.af (.slice (.int .u64)) ((List.range n).map f)) (S++σ)):=by
 refine okF Tryz.func61 (by kernel_rfl) ?_
 refine .wrap 5 .aj rfl rfl ?_
 refine aU (S:=Nat×AV×Hp) (fun t=>[(1,.fn (.func g) [] cap),(5,.via t.2.1),(7,.int .i64 n),(8,.int .i64 t.1)]) (fun t=>t.2.2++(S++σ)) (fun t=>t.1≤n∧Acc 1 t.1 t.2.1 t.2.2 (((List.range t.1).map f).map (AV.af (.int .u64)))) (fun t=>n-t.1) (0,.aj,[]) ⟨⟨Nat.zero_le _,.nil⟩,⟨rfl,rfl,rfl,rfl,trivial⟩,rfl⟩ ?_
 rintro⟨i,v,acc⟩ g ⟨cY,h0⟩
 have hi:i≤n:=cY
 have h:Acc 1 i v acc (((List.range i).map f).map (AV.af (.int .u64))):=h0
 clear cY h0
 refine an (p:=(i:Int)<(n:Int)) (fun ab =>?_) (fun aq =>?_)
 rotate_left
 ·have aq:i=n:=by omega
  subst aq
  have hlen:((List.range i).map f).length=i:=by rw[List.length_map,List.length_range]
  exact jR [] (s:=(.slice (.int .u64))) h hlen.symm (List.map_eq_flatMap ..) Nat.one_pos (.done ⟨rfl,rfl⟩)
 have ab:i<n:=by omega
 refine .perm (σ2:=S++(acc++σ)) _ (dJ acc S σ) (yD i ab (acc++σ)) ?_
 rintro _ _ ⟨rfl,rfl⟩
 refine⟨_,(dJ acc S σ).symm,?_⟩
 intro b1
 refine dX [_] h (.ae 0 b1 0 1 _ rfl (Nat.le_of_ble_eq_true rfl)) rfl (by omega) (by decide) (by decide) (fun v' aP h' =>?_)
 refine aH (i+1,v',aP) (by show n-(i+1)<n-i;omega) ⟨ab,?_⟩ ⟨rfl,rfl,rfl,aI (by omega),trivial⟩ (.drop 0 1 (.refl _))
 show Acc 1 (i+1) v' aP (((List.range (i+1)).map f).map (AV.af (.int .u64)))
 exact MN (Io f (AV.af (.int .u64)) i) h'
end Go.Proofs.YtnpidbjdilnhlaaGreat
namespace Go.Proofs.YtnpidbjdilnhlaaGreat
open Go.RowKit
set_option maxRecDepth 100000
theorem Fl(l:List Int)(x:Int)(σ:Hp)(hl:l.length≤1000000):ACalls Tryz.prog 112 [.af (.int .i64) l,.int .i64 x] σ (aB (.bool (l.any fun z=>decide (x=z))) σ):=by
 refine okF Tryz.func112 (by kernel_rfl) ?_
 refine aU (S:=Nat) (fun k=>[(1,.int .i64 x),(7,.af (.int .i64) l),(8,.int .i64 l.length),(9,.int .i64 k)]) (fun _=>σ) (fun k=>k≤l.length∧((l.take k).any fun z=>decide (x=z))=false) (fun k=>l.length-k) 0 ⟨⟨Nat.zero_le _,rfl⟩,⟨rfl,rfl,rfl,rfl,trivial⟩,rfl⟩ ?_
 rintro k g ⟨aG,eA⟩
 have hk:k≤l.length:=aG
 have ha:((l.take k).any fun z=>decide (x=z))=false:=eA
 clear aG eA
 refine an (fun ab =>?_) (fun aq =>?_)
 ·have ab:k<l.length:=by have ab:(k:Int)<l.length:=ab;omega
  have hs:=kF ab fun z:Int=>decide (x=z)
  rw[ha,Bool.false_or]at hs
  refine ah.mk rfl (aT.mk l[k] (by omega) (get_some ab) ?_)
  refine an (p:=l[k]=x) (fun d1 =>?_) (fun d1 =>?_)
  ·exact .done ⟨bz (List.any_eq_true.2 ⟨l[k],List.getElem_mem ab,decide_eq_true d1.symm⟩).symm,rfl⟩
  ·exact aH (k+1) (by show l.length-(k+1)<l.length-k;omega) ⟨ab,hs.trans (decide_eq_false fun h=>d1 h.symm)⟩ ⟨rfl,rfl,rfl,aI (by omega),trivial⟩ (.refl _)
 ·have aq:k=l.length:=by have aq:¬(k:Int)<l.length:=aq;omega
  subst aq
  rw[List.take_length]at ha
  exact .done ⟨bz ha.symm,rfl⟩
end Go.Proofs.YtnpidbjdilnhlaaGreat
