import Derived.Test.YtnpidbjdilnhlaaGreatBn33
import Derived.Test.YtnpidbjdilnhlaaGreatBn21
import Derived.Test.YtnpidbjdilnhlaaGreatBn22
namespace Go.Proofs.YtnpidbjdilnhlaaGreat
open Go.RowKit
set_option maxRecDepth 100000
mutual
def dF(nx:Int→List Int):Nat→Int→List Int→List Int
 | 0,_,_=>[]
 | f+1,a,met=>if a∈met then [] else b9 nx f (nx a) (met++[a])++[a]
def b9(nx:Int→List Int):Nat→List Int→List Int→List Int
 | _,[],_=>[]
 | f,b::bs,met=>dF nx f b met++b9 nx f bs (met++dF nx f b met)
end
def iI(met:List Int)(n:Nat):Nat:=((List.range n).filter fun a:Nat=>decide ((a:Int) ∉ met)).length
theorem Dg{met met2:List Int}{n:Nat}(h:∀x∈met,x∈met2):iI met2 n≤iI met n:=by
 unfold iI
 induction n with
 | zero=>exact Nat.le_refl _
 | succ n ih =>
  rw[List.range_succ,List.filter_append,List.filter_append,List.length_append,List.length_append]
  refine Nat.add_le_add ih ?_
  rw[List.filter_cons,List.filter_cons,List.filter_nil]
  by_cases c:(n:Int)∈met
  ·rw[if_neg (by simp[h _ c]),if_neg (by simp[c])];exact Nat.le_refl _
  ·rw[if_pos (show decide ((n:Int) ∉ met)=true by simp[c])];split <;> simp
theorem J1{met met2:List Int}{n:Nat}{a:Nat}(h:∀x∈met,x∈met2)(ha:a<n)(h1:(a:Int) ∉ met)(h2:(a:Int)∈met2):iI met2 n<iI met n:=by
 induction n with
 | zero=>omega
 | succ n ih =>
  have e:∀m:List Int,iI m (n+1)=iI m n+if (n:Int)∈m then 0 else 1:=fun m=>by
   unfold iI
   rw[List.range_succ,List.filter_append,List.length_append,List.filter_cons,List.filter_nil]
   by_cases c:(n:Int)∈m <;> simp[c]
  rw[e,e]
  by_cases c:a=n
  ·subst c
   rw[if_pos h2,if_neg h1]
   have:=Dg (n:=a) h
   omega
  ·have:=ih (by omega)
   by_cases c2:(n:Int)∈met
   ·rw[if_pos c2,if_pos (h _ c2)];exact this
   ·rw[if_neg c2];split <;> omega
theorem SQ{met:List Int}{n:Nat}{a:Int}(ha:0≤a∧a<n)(h:a ∉ met):0<iI met n:=by
 unfold iI
 refine List.length_pos_of_mem (a:=a.toNat) (List.mem_filter.2 ⟨List.mem_range.2 (by omega),?_⟩)
 rw[Int.toNat_of_nonneg ha.1];simp[h]
theorem IV{n:Nat}{nx:Int→List Int}(bF:∀x,∀y∈nx x,0≤y∧y<(n:Int)):∀u,
  (∀(f f2:Nat) (a:Int) (met met2:List Int),0≤a∧a<(n:Int)→iI met n≤u→u≤f→u≤f2→(∀x,x∈met↔x∈met2)→dF nx f a met=dF nx f2 a met2)∧
  (∀(f f2:Nat) (bs:List Int) (met met2:List Int),(∀b∈bs,0≤b∧b<(n:Int))→iI met n≤u→u≤f→u≤f2→(∀x,x∈met↔x∈met2)→b9 nx f bs met=b9 nx f2 bs met2):=by
 intro u
 induction u with
 | zero =>
  have h0:∀(f:Nat) (a:Int) (met:List Int),0≤a∧a<(n:Int)→iI met n≤0→dF nx f a met=[]:=fun f a met ha hu=>by
   have hm:a∈met:=by
    by_cases c:a∈met
    ·exact c
    ·have:=SQ ha c;omega
   cases f with
   | zero=>unfold dF;rfl
   | succ f=>unfold dF;rw[if_pos hm]
  have h1:∀(f:Nat) (bs:List Int) (met:List Int),(∀b∈bs,0≤b∧b<(n:Int))→iI met n≤0→b9 nx f bs met=[]:=by
   intro f bs
   induction bs with
   | nil=>intro met _ _;unfold b9;rfl
   | cons b bs ih =>
    intro met hb hu
    unfold b9
    rw[h0 f b met (hb b (List.mem_cons_self ..)) hu,List.append_nil,ih met (fun c hc=>hb c (List.mem_cons_of_mem _ hc)) hu];rfl
  have hs:∀{met met2:List Int},iI met n≤0→(∀x,x∈met↔x∈met2)→iI met2 n≤0:=fun hu hm=>Nat.le_trans (Dg fun x hx=>(hm x).1 hx) hu
  exact⟨fun f f2 a met met2 ha hu _ _ hm=>by rw[h0 f a met ha hu,h0 f2 a met2 ha (hs hu hm)],fun f f2 bs met met2 hb hu _ _ hm=>by rw[h1 f bs met hb hu,h1 f2 bs met2 hb (hs hu hm)]⟩
 | succ u ih =>
  have hv:∀(f f2:Nat) (a:Int) (met met2:List Int),0≤a∧a<(n:Int)→iI met n≤u+1→u+1≤f→u+1≤f2→(∀x,x∈met↔x∈met2)→dF nx f a met=dF nx f2 a met2:=fun f f2 a met met2 ha hu hf q7 hm=>by
   obtain⟨f,rfl⟩:∃k,f=k+1:=⟨f-1,by omega⟩
   obtain⟨f2,rfl⟩:∃k,f2=k+1:=⟨f2-1,by omega⟩
   unfold dF
   by_cases c:a∈met
   ·rw[if_pos c,if_pos ((hm a).1 c)]
   ·rw[if_neg c,if_neg fun h=>c ((hm a).2 h)]
    congr 1
    refine ih.2 f f2 (nx a) _ _ (bF a) ?_ (by omega) (by omega) (fun x=>by rw[List.mem_append,List.mem_append,hm])
    have:=J1 (met:=met) (met2:=met++[a]) (n:=n) (a:=a.toNat) (fun x hx=>List.mem_append_left _ hx) (by omega) (by rw[Int.toNat_of_nonneg ha.1];exact c) (by rw[Int.toNat_of_nonneg ha.1];simp)
    omega
  refine⟨hv,fun f f2 bs =>?_⟩
  induction bs with
  | nil=>intro met met2 _ _ _ _ _;unfold b9;rfl
  | cons b bs FE =>
   intro met met2 hb hu hf q7 hm
   unfold b9
   have e:=hv f f2 b met met2 (hb b (List.mem_cons_self ..)) hu hf q7 hm
   rw[e]
   congr 1
   exact FE _ _ (fun c hc=>hb c (List.mem_cons_of_mem _ hc)) (Nat.le_trans (Dg fun x hx=>List.mem_append_left _ hx) hu) hf q7 (fun x=>by rw[List.mem_append,List.mem_append,hm])
theorem KN(met:List Int)(n:Nat):iI met n≤n:=by
 unfold iI
 exact Nat.le_trans (List.length_filter_le _ _) (by rw[List.length_range];exact Nat.le_refl _)
def iV(n:Nat)(nx:Int→List Int):List (Int×Nat)→List Int→List Int
 | [],_=>[]
 | (v,k)::w,seen=>b9 nx n ((nx v).drop k) seen++([v]++iV n nx w (seen++b9 nx n ((nx v).drop k) seen))
theorem Jx{n:Nat}{nx:Int→List Int}(bF:∀x,∀y∈nx x,0≤y∧y<(n:Int)){bs met met2:List Int}(hb:∀b∈bs,0≤b∧b<(n:Int))(hm:∀x,x∈met↔x∈met2):b9 nx n bs met=b9 nx n bs met2:=
 (IV bF n).2 n n bs met met2 hb (KN _ _) (Nat.le_refl _) (Nat.le_refl _) hm
theorem Ja{n:Nat}{nx:Int→List Int}(bF:∀x,∀y∈nx x,0≤y∧y<(n:Int)):∀(w:List (Int×Nat)) {seen seen2:List Int},(∀x,x∈seen↔x∈seen2)→iV n nx w seen=iV n nx w seen2
 | [],_,_,_=>rfl
 | (v,k)::w,seen,seen2,h=>by
  have e:=Jx bF (bs:=(nx v).drop k) (fun b hb=>bF v b (List.mem_of_mem_drop hb)) h
  unfold iV
  rw[e,Ja bF w (seen:=seen++b9 nx n ((nx v).drop k) seen2) (seen2:=seen2++b9 nx n ((nx v).drop k) seen2) fun x=>by rw[List.mem_append,List.mem_append,h]]
theorem Kr{L:List Int}{k:Nat}(h:k<L.length):L.drop k=L[k]::L.drop (k+1):=List.drop_eq_getElem_cons h
theorem Q7{n:Nat}{nx:Int→List Int}{v:Int}{k:Nat}{w:List (Int×Nat)}{seen:List Int}(hk:k<(nx v).length)(hb:(nx v)[k]∈seen):iV n nx ((v,k)::w) seen=iV n nx ((v,k+1)::w) seen:=by
 have e:dF nx n (nx v)[k] seen=[]:=by
  cases n with
  | zero=>unfold dF;rfl
  | succ n=>unfold dF;rw[if_pos hb]
 have e2:b9 nx n ((nx v).drop k) seen=b9 nx n ((nx v).drop (k+1)) seen:=by
  rw[Kr hk]
  conv=>lhs;unfold b9
  rw[e,List.append_nil,List.nil_append]
 unfold iV
 rw[e2]
theorem Q8{n:Nat}{nx:Int→List Int}(bF:∀x,∀y∈nx x,0≤y∧y<(n:Int)){v:Int}{k:Nat}{w:List (Int×Nat)}{seen:List Int}(hk:k<(nx v).length)(hb:(nx v)[k] ∉ seen):iV n nx ((v,k)::w) seen=iV n nx (((nx v)[k],0)::(v,k+1)::w) (seen++[(nx v)[k]]):=by
 obtain⟨b,oI⟩:∃b,(nx v)[k]=b:=⟨_,rfl⟩
 have cC:=bF v b (oI▸List.getElem_mem hk)
 rw[oI]at hb ⊢
 obtain⟨m,rfl⟩:∃m,n=m+1:=⟨n-1,by omega⟩
 have hu:iI (seen++[b]) (m+1)≤m:=by
  have:=J1 (met:=seen) (met2:=seen++[b]) (n:=m+1) (a:=b.toNat) (fun x hx=>List.mem_append_left _ hx) (by omega) (by rw[Int.toNat_of_nonneg cC.1];exact hb) (by rw[Int.toNat_of_nonneg cC.1];simp)
  have:=KN seen (m+1)
  omega
 have e:dF nx (m+1) b seen=b9 nx (m+1) (nx b) (seen++[b])++[b]:=by
  conv=>lhs;unfold dF
  rw[if_neg hb,(IV bF m).2 m (m+1) (nx b) (seen++[b]) (seen++[b]) (bF b) hu (Nat.le_refl _) (by omega) fun _=>Iff.rfl]
 have e2:b9 nx (m+1) ((nx v).drop k) seen=(b9 nx (m+1) (nx b) (seen++[b])++[b])++b9 nx (m+1) ((nx v).drop (k+1)) (seen++(b9 nx (m+1) (nx b) (seen++[b])++[b])):=by
  rw[Kr hk,oI]
  conv=>lhs;unfold b9
  rw[e]
 have e3:b9 nx (m+1) ((nx v).drop (k+1)) (seen++(b9 nx (m+1) (nx b) (seen++[b])++[b]))=b9 nx (m+1) ((nx v).drop (k+1)) (seen++[b]++b9 nx (m+1) (nx b) (seen++[b])):=
  Jx bF (fun c hc=>bF v c (List.mem_of_mem_drop hc)) fun x=>by simp only[List.mem_append];exact⟨fun h=>by rcases h with h | h | h <;> simp[h],fun h=>by rcases h with (h | h) | h <;> simp[h]⟩
 have hd:(nx b).drop 0=nx b:=List.drop_zero
 show b9 nx (m+1) ((nx v).drop k) seen++([v]++iV (m+1) nx w (seen++b9 nx (m+1) ((nx v).drop k) seen))=b9 nx (m+1) ((nx b).drop 0) (seen++[b])++([b]++(b9 nx (m+1) ((nx v).drop (k+1)) (seen++[b]++b9 nx (m+1) ((nx b).drop 0) (seen++[b]))++([v]++iV (m+1) nx w (seen++[b]++b9 nx (m+1) ((nx b).drop 0) (seen++[b])++b9 nx (m+1) ((nx v).drop (k+1)) (seen++[b]++b9 nx (m+1) ((nx b).drop 0) (seen++[b]))))))
 rw[hd,e2,e3]
 generalize b9 nx (m+1) (nx b) (seen++[b])=K
 generalize b9 nx (m+1) ((nx v).drop (k+1)) (seen++[b]++K)=K2
 rw[Ja bF w (seen:=seen++(K++[b]++K2)) (seen2:=seen++[b]++K++K2) fun x=>by simp only[List.mem_append];exact⟨fun h=>by rcases h with h | (h | h) | h <;> simp[h],fun h=>by rcases h with ((h | h) | h) | h <;> simp[h]⟩]
 simp only[List.append_assoc]
theorem Ta{n:Nat}{nx:Int→List Int}{v:Int}{k:Nat}{w:List (Int×Nat)}{seen:List Int}(hk:(nx v).length≤k):iV n nx ((v,k)::w) seen=v::iV n nx w seen:=by
 have e:b9 nx n ((nx v).drop k) seen=[]:=by rw[List.drop_of_length_le hk];unfold b9;rfl
 show b9 nx n ((nx v).drop k) seen++([v]++iV n nx w (seen++b9 nx n ((nx v).drop k) seen))=_
 rw[e,List.append_nil,List.nil_append];rfl
theorem S9{n:Nat}{nx:Int→List Int}{a:Int}{met:List Int}(ha:a ∉ met):dF nx (n+1) a met=iV n nx [(a,0)] (met++[a]):=by
 unfold dF iV iV
 rw[if_neg ha,List.drop_zero,List.append_nil]
def jy(n:Nat)(nx:Int→List Int)(l:List Int):List Int:=l.foldl (fun out a=>out++dF nx (n+1) a out) []
end Go.Proofs.YtnpidbjdilnhlaaGreat
namespace Go.Proofs.YtnpidbjdilnhlaaGreat
open Go.RowKit
set_option maxRecDepth 100000
inductive fu(e:Nat):Nat→AV→Hp→List AV→Prop
 | nil:fu e 0 .aj [] []
 | ae (b k:Nat) (cs J:List AV) (h:cs.length=k*e):fu e k (.ae b 0 k e) [(b,cs++J)] cs
theorem fu.sl{e k:Nat}{v:AV}{acc:Hp}{cs:List AV}(h:fu e k v acc cs):fu e k (a8 v) acc cs:=by
 cases h with
 | nil=>exact .nil
 | ae b k cs J h=>exact .ae b k cs J h
theorem fu.pos{e k:Nat}{v:AV}{acc:Hp}{cs:List AV}(h:fu e k v acc cs)(h0:0<k):∃b J,v=.ae b 0 k e∧acc=[(b,cs++J)]∧cs.length=k*e:=by
 cases h with
 | nil=>omega
 | ae b k cs J h=>exact⟨b,J,rfl,rfl,h⟩
theorem sR{i:TI}{K:AV→Hp→Prop}(fr:Hp){acc σ:Hp}{k n:Nat}{v x:AV}{cs new:List AV}(h:fu i.size k v acc cs)(hx:gd (fr++(acc++σ)) i.size x n new)(ei:new.length=n*i.size)(hn:k+n≤1048576)(hb:i.bytes≤1024)(h0:0<i.size)
  (go:∀v' aP,fu i.size (k+n) v' aP (cs++new)→K v' (fr++(aP++σ))):AppendAt i (fr++(acc++σ)) v x K:=by
 cases h with
 | nil =>
  refine .perm _ (dJ fr [] σ) (.fresh n new (.inl rfl) (hx.perm (dJ fr [] σ)) (by omega) hb h0 (K:=fun v cR=>(n=0∧v=.aj∧cR=[]++(fr++σ))∨(n≠0∧∃b,v=.ae b 0 n i.size∧cR=(b,new)::([]++(fr++σ)))) (fun aS b=>.inr ⟨aS,b,rfl,rfl⟩) (fun h0=>.inl ⟨h0,rfl,rfl⟩)) ?_
  rintro v cR (⟨hz,rfl,rfl⟩ | ⟨hz,b,rfl,rfl⟩)
  ·subst hz
   obtain rfl:new=[]:=List.length_eq_zero_iff.1 (by simpa using ei)
   exact⟨_,(dJ fr [] σ).symm,.inl (go _ _ .nil)⟩
  ·refine⟨_,(dJ fr [(b,new)] σ).symm,.inl (go _ _ ?_)⟩
   have:=fu.ae (e:=i.size) b (0+n) new [] (by rw[Nat.zero_add];exact ei)
   rw[List.append_nil,Nat.zero_add]at this
   rw[Nat.zero_add]
   exact this
 | ae b k cs J hl =>
  refine .perm _ (dJ fr [(b,cs++J)] σ) (.more 0 b k n (cs++J) new rfl rfl (by rw[List.length_append];omega) (hx.perm (dJ fr [(b,cs++J)] σ)) hn hb h0 (K:=fun v cR=>∃b',v=.ae b' 0 (k+n) i.size∧cR=(b',cs++new)::(fr++σ)) (fun b'=>⟨b',rfl,by rw[List.take_append_of_le_length (by omega),List.take_of_length_le (by omega)];rfl⟩)) ?_
  rintro v cR ⟨b',rfl,rfl⟩
  refine⟨_,(dJ fr [(b',cs++new)] σ).symm,.inl (go _ _ ?_)⟩
  have:=fu.ae (e:=i.size) b' (k+n) (cs++new) [] (by rw[List.length_append,hl,ei,Nat.add_mul])
  rw[List.append_nil]at this
  exact this
theorem jw{i:TI}(hs:i.size=1){l:List Int}(x:Int){a:Int}(h1:0≤a)(h2:a<l.length):ju i (ak l) (0+a.toNat*1) (.int .i64 x)=some (ak (l.set a.toNat x)):=by
 rw[l6 hs rfl (by rw[nO];omega),Nat.zero_add,Nat.mul_one]
 unfold ak;rw[List.map_set]
theorem dD{i:TI}(hw:i.wide=false){l:List Int}{a:Int}(h1:0≤a)(h2:a<l.length):dy i (ak l) (0+a.toNat*1)=some (.int .i64 (l.getD a.toNat 0)):=by
 refine eO hw ?_
 unfold ak
 rw[Nat.zero_add,Nat.mul_one,List.getElem?_map,List.getD_eq_getElem?_getD,List.getElem?_eq_getElem (by omega)];rfl
def bZ(N:List (List Int))(bi bl bo n:Nat)(vs:AV)(aM:Nat)(vp:AV):List AV:=[.af (.slice (.int .i64)) N,.ae bi 0 n 1,.ae bl 0 n 1,.ae bo 0 n 1,vs,.int .i64 aM,vp]
theorem vc(w bi bl bo n:Nat)(N:List (List Int))(ix lo st:List Int)(on:List Bool)(aM:Nat)(vs vp:AV)(acc:Hp)(a:Int)(σ:Hp)(h0:0≤a)(hn:a<n)(hi:ix.length=n)(hl:lo.length=n)(ho:on.length=n)(hs:fu 1 st.length vs acc (ak st))(cc:st.length≤10000)(hc:aM≤10000):
  ACalls Tryz.prog 246 [.ptr w 0,.int .i64 a] ((w,bZ N bi bl bo n vs aM vp)::(bi,ak ix)::(bl,ak lo)::(bo,aZ on)::(acc++σ))
   (fun r σ'=>r=.agg [.int .i64 a,.int .i64 0]∧∃dg aP,fu 1 (st++[a]).length dg aP (ak (st++[a]))∧σ'=(w,bZ N bi bl bo n dg (aM+1) vp)::(bi,ak (ix.set a.toNat ((aM+1:Nat):Int)))::(bl,ak (lo.set a.toNat ((aM+1:Nat):Int)))::(bo,aZ (on.set a.toNat true))::(aP++σ)):=by
 have hwr:IntKind.i64.wrap ((aM:Int)+1)=((aM+1:Nat):Int):=by rw[ic (by omega)];omega
 refine okF Tryz.func246 (by kernel_rfl) ?_
 intro aC
 refine aa.mk 1 _ _ rfl rfl ?_
 refine ai.mk 1 _ _ rfl rfl ?_
 refine .sched [] (upto [] 29 0) (by kernel_rfl) ?_
 refine aa.mk 1 _ _ rfl rfl ?_
 refine aa.mk 1 _ _ rfl rfl ?_
 refine aa.mk 1 _ _ rfl rfl ?_
 refine aa.mk 1 _ _ rfl rfl ?_
 refine aa.mk 1 _ _ rfl rfl ?_
 refine ah.mk ⟨rfl,by omega,by omega⟩ ?_
 refine ai.mk 2 _ _ rfl (jw rfl _ h0 (by omega)) ?_
 refine ah.mk ⟨rfl,by omega,by omega⟩ ?_
 refine ai.mk 3 _ _ rfl (jw rfl _ h0 (by omega)) ?_
 refine ah.mk ⟨rfl,by omega,by omega⟩ ?_
 refine ai.mk 4 _ _ rfl (p7 rfl true h0 (by omega)) ?_
 refine aa.mk 1 _ _ rfl rfl ?_
 intro aC
 refine sR [_,_,_,_,_,_] hs.sl (.ae 0 aC 0 1 _ rfl (Nat.le_of_ble_eq_true rfl)) rfl (by omega) (by decide) (by decide) (fun v' aP h' =>?_)
 obtain⟨bq,J,rfl,rfl,hq⟩:=h'.pos (by omega)
 refine ai.mk 2 _ _ rfl rfl ?_
 refine ai.mk 1 _ _ rfl rfl ?_
 refine aa.mk 1 _ _ rfl rfl ?_
 refine .drop 0 2 (.done ⟨rfl,.ae bq 0 (st.length+1) 1,[(bq,(ak st++[.int .i64 a])++J)],?_,?_⟩)
 ·rw[List.length_append,show ak (st++[a])=ak st++[.int .i64 a] from List.map_append];exact h'
 ·rw[hwr];rfl
end Go.Proofs.YtnpidbjdilnhlaaGreat
