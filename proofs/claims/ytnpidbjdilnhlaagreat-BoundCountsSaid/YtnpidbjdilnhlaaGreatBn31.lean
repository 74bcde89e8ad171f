import Derived.Test.YtnpidbjdilnhlaaGreatBn30
import Derived.Test.YtnpidbjdilnhlaaGreatBn18
namespace Go.Proofs.YtnpidbjdilnhlaaGreat
open Go.RowKit
set_option maxRecDepth 100000
mutual
def fG(nx:Int→List Int):Nat→Int→List Int→List Int
 | 0,_,_=>[]
 | f+1,a,met=>if a∈met then [] else dD nx f (nx a) (met++[a])++[a]
def dD(nx:Int→List Int):Nat→List Int→List Int→List Int
 | _,[],_=>[]
 | f,b::bs,met=>fG nx f b met++dD nx f bs (met++fG nx f b met)
end
def jE(met:List Int)(n:Nat):Nat:=((List.range n).filter fun a:Nat=>decide ((a:Int) ∉ met)).length
theorem GM{met met2:List Int}{n:Nat}(h:∀x∈met,x∈met2):jE met2 n≤jE met n:=by
 unfold jE
 induction n with
 | zero=>exact Nat.le_refl _
 | succ n ih =>
  rw[List.range_succ,List.filter_append,List.filter_append,List.length_append,List.length_append]
  refine Nat.add_le_add ih ?_
  rw[List.filter_cons,List.filter_cons,List.filter_nil]
  by_cases c:(n:Int)∈met
  ·rw[if_neg (by simp[h _ c]),if_neg (by simp[c])];exact Nat.le_refl _
  ·rw[if_pos (show decide ((n:Int) ∉ met)=true by simp[c])];split <;> simp
theorem Oc{met met2:List Int}{n:Nat}{a:Nat}(h:∀x∈met,x∈met2)(ha:a<n)(h1:(a:Int) ∉ met)(h2:(a:Int)∈met2):jE met2 n<jE met n:=by
 induction n with
 | zero=>omega
 | succ n ih =>
  have e:∀m:List Int,jE m (n+1)=jE m n+if (n:Int)∈m then 0 else 1:=fun m=>by
   unfold jE
   rw[List.range_succ,List.filter_append,List.length_append,List.filter_cons,List.filter_nil]
   by_cases c:(n:Int)∈m <;> simp[c]
  rw[e,e]
  by_cases c:a=n
  ·subst c
   rw[if_pos h2,if_neg h1]
   have:=GM (n:=a) h
   omega
  ·have:=ih (by omega)
   by_cases c2:(n:Int)∈met
   ·rw[if_pos c2,if_pos (h _ c2)];exact this
   ·rw[if_neg c2];split <;> omega
theorem XS{met:List Int}{n:Nat}{a:Int}(ha:0≤a∧a<n)(h:a ∉ met):0<jE met n:=by
 unfold jE
 refine List.length_pos_of_mem (a:=a.toNat) (List.mem_filter.2 ⟨List.mem_range.2 (by omega),?_⟩)
 rw[Int.toNat_of_nonneg ha.1];simp[h]
theorem MP{n:Nat}{nx:Int→List Int}(bY:∀x,∀y∈nx x,0≤y∧y<(n:Int)):∀u,
  (∀(f f2:Nat) (a:Int) (met met2:List Int),0≤a∧a<(n:Int)→jE met n≤u→u≤f→u≤f2→(∀x,x∈met↔x∈met2)→fG nx f a met=fG nx f2 a met2)∧
  (∀(f f2:Nat) (bs:List Int) (met met2:List Int),(∀b∈bs,0≤b∧b<(n:Int))→jE met n≤u→u≤f→u≤f2→(∀x,x∈met↔x∈met2)→dD nx f bs met=dD nx f2 bs met2):=by
 intro u
 induction u with
 | zero =>
  have h0:∀(f:Nat) (a:Int) (met:List Int),0≤a∧a<(n:Int)→jE met n≤0→fG nx f a met=[]:=fun f a met ha hu=>by
   have hm:a∈met:=by
    by_cases c:a∈met
    ·exact c
    ·have:=XS ha c;omega
   cases f with
   | zero=>unfold fG;rfl
   | succ f=>unfold fG;rw[if_pos hm]
  have h1:∀(f:Nat) (bs:List Int) (met:List Int),(∀b∈bs,0≤b∧b<(n:Int))→jE met n≤0→dD nx f bs met=[]:=by
   intro f bs
   induction bs with
   | nil=>intro met _ _;unfold dD;rfl
   | cons b bs ih =>
    intro met hb hu
    unfold dD
    rw[h0 f b met (hb b (List.mem_cons_self ..)) hu,List.append_nil,ih met (fun c hc=>hb c (List.mem_cons_of_mem _ hc)) hu];rfl
  have hs:∀{met met2:List Int},jE met n≤0→(∀x,x∈met↔x∈met2)→jE met2 n≤0:=fun hu hm=>Nat.le_trans (GM fun x hx=>(hm x).1 hx) hu
  exact⟨fun f f2 a met met2 ha hu _ _ hm=>by rw[h0 f a met ha hu,h0 f2 a met2 ha (hs hu hm)],fun f f2 bs met met2 hb hu _ _ hm=>by rw[h1 f bs met hb hu,h1 f2 bs met2 hb (hs hu hm)]⟩
 | succ u ih =>
  have hv:∀(f f2:Nat) (a:Int) (met met2:List Int),0≤a∧a<(n:Int)→jE met n≤u+1→u+1≤f→u+1≤f2→(∀x,x∈met↔x∈met2)→fG nx f a met=fG nx f2 a met2:=fun f f2 a met met2 ha hu hf sV hm=>by
   obtain⟨f,rfl⟩:∃k,f=k+1:=⟨f-1,by omega⟩
   obtain⟨f2,rfl⟩:∃k,f2=k+1:=⟨f2-1,by omega⟩
   unfold fG
   by_cases c:a∈met
   ·rw[if_pos c,if_pos ((hm a).1 c)]
   ·rw[if_neg c,if_neg fun h=>c ((hm a).2 h)]
    congr 1
    refine ih.2 f f2 (nx a) _ _ (bY a) ?_ (by omega) (by omega) (fun x=>by rw[List.mem_append,List.mem_append,hm])
    have:=Oc (met:=met) (met2:=met++[a]) (n:=n) (a:=a.toNat) (fun x hx=>List.mem_append_left _ hx) (by omega) (by rw[Int.toNat_of_nonneg ha.1];exact c) (by rw[Int.toNat_of_nonneg ha.1];simp)
    omega
  refine⟨hv,fun f f2 bs =>?_⟩
  induction bs with
  | nil=>intro met met2 _ _ _ _ _;unfold dD;rfl
  | cons b bs Jv =>
   intro met met2 hb hu hf sV hm
   unfold dD
   have e:=hv f f2 b met met2 (hb b (List.mem_cons_self ..)) hu hf sV hm
   rw[e]
   congr 1
   exact Jv _ _ (fun c hc=>hb c (List.mem_cons_of_mem _ hc)) (Nat.le_trans (GM fun x hx=>List.mem_append_left _ hx) hu) hf sV (fun x=>by rw[List.mem_append,List.mem_append,hm])
theorem O9(met:List Int)(n:Nat):jE met n≤n:=by
 unfold jE
 exact Nat.le_trans (List.length_filter_le _ _) (by rw[List.length_range];exact Nat.le_refl _)
def jQ(n:Nat)(nx:Int→List Int):List (Int×Nat)→List Int→List Int
 | [],_=>[]
 | (v,k)::w,seen=>dD nx n ((nx v).drop k) seen++([v]++jQ n nx w (seen++dD nx n ((nx v).drop k) seen))
theorem Ny{n:Nat}{nx:Int→List Int}(bY:∀x,∀y∈nx x,0≤y∧y<(n:Int)){bs met met2:List Int}(hb:∀b∈bs,0≤b∧b<(n:Int))(hm:∀x,x∈met↔x∈met2):dD nx n bs met=dD nx n bs met2:=
 (MP bY n).2 n n bs met met2 hb (O9 _ _) (Nat.le_refl _) (Nat.le_refl _) hm
theorem M8{n:Nat}{nx:Int→List Int}(bY:∀x,∀y∈nx x,0≤y∧y<(n:Int)):∀(w:List (Int×Nat)) {seen seen2:List Int},(∀x,x∈seen↔x∈seen2)→jQ n nx w seen=jQ n nx w seen2
 | [],_,_,_=>rfl
 | (v,k)::w,seen,seen2,h=>by
  have e:=Ny bY (bs:=(nx v).drop k) (fun b hb=>bY v b (List.mem_of_mem_drop hb)) h
  unfold jQ
  rw[e,M8 bY w (seen:=seen++dD nx n ((nx v).drop k) seen2) (seen2:=seen2++dD nx n ((nx v).drop k) seen2) fun x=>by rw[List.mem_append,List.mem_append,h]]
theorem OO{L:List Int}{k:Nat}(h:k<L.length):L.drop k=L[k]::L.drop (k+1):=List.drop_eq_getElem_cons h
theorem V4{n:Nat}{nx:Int→List Int}{v:Int}{k:Nat}{w:List (Int×Nat)}{seen:List Int}(hk:k<(nx v).length)(hb:(nx v)[k]∈seen):jQ n nx ((v,k)::w) seen=jQ n nx ((v,k+1)::w) seen:=by
 have e:fG nx n (nx v)[k] seen=[]:=by
  cases n with
  | zero=>unfold fG;rfl
  | succ n=>unfold fG;rw[if_pos hb]
 have e2:dD nx n ((nx v).drop k) seen=dD nx n ((nx v).drop (k+1)) seen:=by
  rw[OO hk]
  conv=>lhs;unfold dD
  rw[e,List.append_nil,List.nil_append]
 unfold jQ
 rw[e2]
theorem V5{n:Nat}{nx:Int→List Int}(bY:∀x,∀y∈nx x,0≤y∧y<(n:Int)){v:Int}{k:Nat}{w:List (Int×Nat)}{seen:List Int}(hk:k<(nx v).length)(hb:(nx v)[k] ∉ seen):jQ n nx ((v,k)::w) seen=jQ n nx (((nx v)[k],0)::(v,k+1)::w) (seen++[(nx v)[k]]):=by
 obtain⟨b,qs⟩:∃b,(nx v)[k]=b:=⟨_,rfl⟩
 have cJ:=bY v b (qs▸List.getElem_mem hk)
 rw[qs]at hb ⊢
 obtain⟨m,rfl⟩:∃m,n=m+1:=⟨n-1,by omega⟩
 have hu:jE (seen++[b]) (m+1)≤m:=by
  have:=Oc (met:=seen) (met2:=seen++[b]) (n:=m+1) (a:=b.toNat) (fun x hx=>List.mem_append_left _ hx) (by omega) (by rw[Int.toNat_of_nonneg cJ.1];exact hb) (by rw[Int.toNat_of_nonneg cJ.1];simp)
  have:=O9 seen (m+1)
  omega
 have e:fG nx (m+1) b seen=dD nx (m+1) (nx b) (seen++[b])++[b]:=by
  conv=>lhs;unfold fG
  rw[if_neg hb,(MP bY m).2 m (m+1) (nx b) (seen++[b]) (seen++[b]) (bY b) hu (Nat.le_refl _) (by omega) fun _=>Iff.rfl]
 have e2:dD nx (m+1) ((nx v).drop k) seen=(dD nx (m+1) (nx b) (seen++[b])++[b])++dD nx (m+1) ((nx v).drop (k+1)) (seen++(dD nx (m+1) (nx b) (seen++[b])++[b])):=by
  rw[OO hk,qs]
  conv=>lhs;unfold dD
  rw[e]
 have e3:dD nx (m+1) ((nx v).drop (k+1)) (seen++(dD nx (m+1) (nx b) (seen++[b])++[b]))=dD nx (m+1) ((nx v).drop (k+1)) (seen++[b]++dD nx (m+1) (nx b) (seen++[b])):=
  Ny bY (fun c hc=>bY v c (List.mem_of_mem_drop hc)) fun x=>by simp only[List.mem_append];exact⟨fun h=>by rcases h with h | h | h <;> simp[h],fun h=>by rcases h with (h | h) | h <;> simp[h]⟩
 have hd:(nx b).drop 0=nx b:=List.drop_zero
 show dD nx (m+1) ((nx v).drop k) seen++([v]++jQ (m+1) nx w (seen++dD nx (m+1) ((nx v).drop k) seen))=dD nx (m+1) ((nx b).drop 0) (seen++[b])++([b]++(dD nx (m+1) ((nx v).drop (k+1)) (seen++[b]++dD nx (m+1) ((nx b).drop 0) (seen++[b]))++([v]++jQ (m+1) nx w (seen++[b]++dD nx (m+1) ((nx b).drop 0) (seen++[b])++dD nx (m+1) ((nx v).drop (k+1)) (seen++[b]++dD nx (m+1) ((nx b).drop 0) (seen++[b]))))))
 rw[hd,e2,e3]
 generalize dD nx (m+1) (nx b) (seen++[b])=K
 generalize dD nx (m+1) ((nx v).drop (k+1)) (seen++[b]++K)=K2
 rw[M8 bY w (seen:=seen++(K++[b]++K2)) (seen2:=seen++[b]++K++K2) fun x=>by simp only[List.mem_append];exact⟨fun h=>by rcases h with h | (h | h) | h <;> simp[h],fun h=>by rcases h with ((h | h) | h) | h <;> simp[h]⟩]
 simp only[List.append_assoc]
theorem Yc{n:Nat}{nx:Int→List Int}{v:Int}{k:Nat}{w:List (Int×Nat)}{seen:List Int}(hk:(nx v).length≤k):jQ n nx ((v,k)::w) seen=v::jQ n nx w seen:=by
 have e:dD nx n ((nx v).drop k) seen=[]:=by rw[List.drop_of_length_le hk];unfold dD;rfl
 show dD nx n ((nx v).drop k) seen++([v]++jQ n nx w (seen++dD nx n ((nx v).drop k) seen))=_
 rw[e,List.append_nil,List.nil_append];rfl
theorem Yb{n:Nat}{nx:Int→List Int}{a:Int}{met:List Int}(ha:a ∉ met):fG nx (n+1) a met=jQ n nx [(a,0)] (met++[a]):=by
 unfold fG jQ jQ
 rw[if_neg ha,List.drop_zero,List.append_nil]
def pM(n:Nat)(nx:Int→List Int)(l:List Int):List Int:=l.foldl (fun out a=>out++fG nx (n+1) a out) []
set_option maxRecDepth 100000
inductive fZ(e:Nat):Nat→AV→Hp→List AV→Prop
 | nil:fZ e 0 .af [] []
 | ae (b k:Nat) (cs J:List AV) (h:cs.length=k*e):fZ e k (.ae b 0 k e) [(b,cs++J)] cs
theorem fZ.uw{e k:Nat}{v:AV}{acc:Hp}{cs:List AV}(h:fZ e k v acc cs):fZ e k (bc v) acc cs:=by
 cases h with
 | nil=>exact .nil
 | ae b k cs J h=>exact .ae b k cs J h
theorem fZ.pos{e k:Nat}{v:AV}{acc:Hp}{cs:List AV}(h:fZ e k v acc cs)(h0:0<k):∃b J,v=.ae b 0 k e∧acc=[(b,cs++J)]∧cs.length=k*e:=by
 cases h with
 | nil=>omega
 | ae b k cs J h=>exact⟨b,J,rfl,rfl,h⟩
theorem uY{i:TI}{K:AV→Hp→Prop}(fr:Hp){acc σ:Hp}{k n:Nat}{v x:AV}{cs new:List AV}(h:fZ i.size k v acc cs)(hx:iA (fr++(acc++σ)) i.size x n new)(fP:new.length=n*i.size)(hn:k+n≤1048576)(hb:i.bytes≤1024)(h0:0<i.size)
  (go:∀v' bh,fZ i.size (k+n) v' bh (cs++new)→K v' (fr++(bh++σ))):AppendAt i (fr++(acc++σ)) v x K:=by
 cases h with
 | nil =>
  refine .perm _ (dO fr [] σ) (.fresh n new (.inl rfl) (hx.perm (dO fr [] σ)) (by omega) hb h0 (K:=fun v dh=>(n=0∧v=.af∧dh=[]++(fr++σ))∨(n≠0∧∃b,v=.ae b 0 n i.size∧dh=(b,new)::([]++(fr++σ)))) (fun aI b=>.inr ⟨aI,b,rfl,rfl⟩) (fun h0=>.inl ⟨h0,rfl,rfl⟩)) ?_
  rintro v dh (⟨hz,rfl,rfl⟩ | ⟨hz,b,rfl,rfl⟩)
  ·subst hz
   obtain rfl:new=[]:=List.length_eq_zero_iff.1 (by simpa using fP)
   exact⟨_,(dO fr [] σ).symm,.inl (go _ _ .nil)⟩
  ·refine⟨_,(dO fr [(b,new)] σ).symm,.inl (go _ _ ?_)⟩
   have:=fZ.ae (e:=i.size) b (0+n) new [] (by rw[Nat.zero_add];exact fP)
   rw[List.append_nil,Nat.zero_add]at this
   rw[Nat.zero_add]
   exact this
 | ae b k cs J hl =>
  refine .perm _ (dO fr [(b,cs++J)] σ) (.more 0 b k n (cs++J) new rfl rfl (by rw[List.length_append];omega) (hx.perm (dO fr [(b,cs++J)] σ)) hn hb h0 (K:=fun v dh=>∃b',v=.ae b' 0 (k+n) i.size∧dh=(b',cs++new)::(fr++σ)) (fun b'=>⟨b',rfl,by rw[List.take_append_of_le_length (by omega),List.take_of_length_le (by omega)];rfl⟩)) ?_
  rintro v dh ⟨b',rfl,rfl⟩
  refine⟨_,(dO fr [(b',cs++new)] σ).symm,.inl (go _ _ ?_)⟩
  have:=fZ.ae (e:=i.size) b' (k+n) (cs++new) [] (by rw[List.length_append,hl,fP,Nat.add_mul])
  rw[List.append_nil]at this
  exact this
theorem kZ{i:TI}(hs:i.size=1){l:List Int}(x:Int){a:Int}(h1:0≤a)(h2:a<l.length):jq i (aj l) (0+a.toNat*1) (.int .i64 x)=some (aj (l.set a.toNat x)):=by
 rw[sa hs rfl (by rw[HB];omega),Nat.zero_add,Nat.mul_one]
 unfold aj;rw[List.map_set]
theorem dT{i:TI}(hw:i.wide=false){l:List Int}{a:Int}(h1:0≤a)(h2:a<l.length):cY i (aj l) (0+a.toNat*1)=some (.int .i64 (l.getD a.toNat 0)):=by
 refine gN hw ?_
 unfold aj
 rw[Nat.zero_add,Nat.mul_one,List.getElem?_map,List.getD_eq_getElem?_getD,List.getElem?_eq_getElem (by omega)];rfl
def cc(N:List (List Int))(bi bl bo n:Nat)(vs:AV)(aB:Nat)(vp:AV):List AV:=[.ah (.slice (.int .i64)) N,.ae bi 0 n 1,.ae bl 0 n 1,.ae bo 0 n 1,vs,.int .i64 aB,vp]
theorem xN(w bi bl bo n:Nat)(N:List (List Int))(ix lo st:List Int)(on:List Bool)(aB:Nat)(vs vp:AV)(acc:Hp)(a:Int)(σ:Hp)(h0:0≤a)(hn:a<n)(hi:ix.length=n)(hl:lo.length=n)(ho:on.length=n)(hs:fZ 1 st.length vs acc (aj st))(bV:st.length≤10000)(hc:aB≤10000):
  ACalls Tryz.prog 246 [.ptr w 0,.int .i64 a] ((w,cc N bi bl bo n vs aB vp)::(bi,aj ix)::(bl,aj lo)::(bo,aY on)::(acc++σ))
   (fun r σ'=>r=.agg [.int .i64 a,.int .i64 0]∧∃dy bh,fZ 1 (st++[a]).length dy bh (aj (st++[a]))∧σ'=(w,cc N bi bl bo n dy (aB+1) vp)::(bi,aj (ix.set a.toNat ((aB+1:Nat):Int)))::(bl,aj (lo.set a.toNat ((aB+1:Nat):Int)))::(bo,aY (on.set a.toNat true))::(bh++σ)):=by
 have hwr:IntKind.i64.wrap ((aB:Int)+1)=((aB+1:Nat):Int):=by rw[ck (by omega)];omega
 refine okF Tryz.func246 (by kernel_rfl) ?_
 intro aC
 refine aa 1 ?_
 refine ai 1 ?_
 refine .sched [] (upto [] 29 0) (by kernel_rfl) ?_
 refine aa 1 ?_
 refine aa 1 ?_
 refine aa 1 ?_
 refine aa 1 ?_
 refine aa 1 ?_
 refine ag.mk ⟨rfl,by omega,by omega⟩ ?_
 refine cd 2 rfl (kZ rfl _ h0 (by omega)) ?_
 refine ag.mk ⟨rfl,by omega,by omega⟩ ?_
 refine cd 3 rfl (kZ rfl _ h0 (by omega)) ?_
 refine ag.mk ⟨rfl,by omega,by omega⟩ ?_
 refine cd 4 rfl (vk rfl true h0 (by omega)) ?_
 refine aa 1 ?_
 intro aC
 refine uY [_,_,_,_,_,_] hs.uw (.ae 0 aC 0 1 _ rfl (Nat.le_of_ble_eq_true rfl)) rfl (by omega) (by decide) (by decide) (fun v' bh h' =>?_)
 obtain⟨bq,J,rfl,rfl,hq⟩:=h'.pos (by omega)
 refine ai 2 ?_
 refine ai 1 ?_
 refine aa 1 ?_
 refine .drop 0 2 (.done ⟨rfl,.ae bq 0 (st.length+1) 1,[(bq,(aj st++[.int .i64 a])++J)],?_,?_⟩)
 ·rw[List.length_append,show aj (st++[a])=aj st++[.int .i64 a] from List.map_append];exact h'
 ·rw[hwr];rfl
end Go.Proofs.YtnpidbjdilnhlaaGreat
