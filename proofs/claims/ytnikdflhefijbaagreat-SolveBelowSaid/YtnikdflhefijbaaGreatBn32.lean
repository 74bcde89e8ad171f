import Derived.Test.YtnikdflhefijbaaGreatBn31
import Derived.Test.YtnikdflhefijbaaGreatBn21
namespace Go.Proofs.YtnikdflhefijbaaGreat
open Go.RowKit
set_option maxRecDepth 100000
mutual
def gL(nx:Int→List Int):Nat→Int→List Int→List Int
 | 0,_,_=>[]
 |f+1,a,met=>if a∈met then [] else eA nx f (nx a) (met++[a])++[a]
def eA(nx:Int→List Int):Nat→List Int→List Int→List Int
 |_,[],_=>[]
 |f,b::bs,met=>gL nx f b met++eA nx f bs (met++gL nx f b met)
end
def kY(met:List Int)(n:Nat):Nat:=((List.range n).filter fun a:Nat=>decide ((a:Int) ∉ met)).length
theorem Km{met met2:List Int}{n:Nat}(h:∀x∈met,x∈met2):kY met2 n≤kY met n:=by
 unfold kY
 induction n with
 |zero=>exact aU _
 |succ n ih=>
  rw[tV,Bo,Bo,bQ,bQ]
  refine Nat.add_le_add ih ?_
  rw[Bp,Bp,gt2]
  by_cases c:(n:Int)∈met
  ·rw[if_neg (by simp[h _ c]),if_neg (by simp[c])];exact Nat.le_refl _
  ·rw[if_pos (show decide ((n:Int) ∉ met)=true by simp[c])];split <;> simp
theorem SA{met met2:List Int}{n:Nat}{a:Nat}(h:∀x∈met,x∈met2)(ha:a<n)(h1:(a:Int) ∉ met)(h2:(a:Int)∈met2):kY met2 n<kY met n:=by
 induction n with
 |zero=>omega
 |succ n ih=>
  have e:∀m:List Int,kY m (n+1)=kY m n+if (n:Int)∈m then 0 else 1:=fun m=>by
   unfold kY
   rw[tV,Bo,bQ,Bp,gt2]
   by_cases c:(n:Int)∈m <;> simp[c]
  rw[e,e]
  by_cases c:a=n
  ·subst c
   rw[ai h2,ah h1]
   have:=Km (n:=a) h
   omega
  ·have:=ih (by omega)
   by_cases c2:(n:Int)∈met
   ·rw[ai c2,ai (h _ c2)];exact this
   ·rw[ah c2];split <;> omega
theorem aby{met:List Int}{n:Nat}{a:Int}(ha:0≤a∧a<n)(h:a ∉ met):0<kY met n:=by
 unfold kY
 refine EN (a:=a.toNat) (nD.2 ⟨gw.2 (by omega),?_⟩)
 rw[Int.toNat_of_nonneg ha.1];simp[h]
theorem Rg{n:Nat}{nx:Int→List Int}(cU:∀x,∀y∈nx x,0≤y∧y<(n:Int)):∀u,
  (∀(f f2:Nat) (a:Int) (met met2:List Int),0≤a∧a<(n:Int)→kY met n≤u→u≤f→u≤f2→(∀x,x∈met↔x∈met2)→gL nx f a met=gL nx f2 a met2)∧
  (∀(f f2:Nat) (bs:List Int) (met met2:List Int),(∀b∈bs,0≤b∧b<(n:Int))→kY met n≤u→u≤f→u≤f2→(∀x,x∈met↔x∈met2)→eA nx f bs met=eA nx f2 bs met2):=by
 intro u
 induction u with
 |zero=>
  have h0:∀(f:Nat) (a:Int) (met:List Int),0≤a∧a<(n:Int)→kY met n≤0→gL nx f a met=[]:=fun f a met ha hu=>by
   have hm:a∈met:=by
    by_cases c:a∈met
    ·exact c
    ·have:=aby ha c;omega
   cases f with
   |zero=>unfold gL;rfl
   |succ f=>unfold gL;rw[ai hm]
  have h1:∀(f:Nat) (bs:List Int) (met:List Int),(∀b∈bs,0≤b∧b<(n:Int))→kY met n≤0→eA nx f bs met=[]:=by
   intro f bs
   induction bs with
   |nil=>intro met _ _;unfold eA;rfl
   |cons b bs ih=>
    intro met hb hu
    unfold eA
    rw[h0 f b met (hb b (cm ..)) hu,mL,ih met (fun c hc=>hb c (cY _ hc)) hu];rfl
  have hs:∀{met met2:List Int},kY met n≤0→(∀x,x∈met↔x∈met2)→kY met2 n≤0:=fun hu hm=>fD (Km fun x hx=>(hm x).1 hx) hu
  exact⟨fun f f2 a met met2 ha hu _ _ hm=>by rw[h0 f a met ha hu,h0 f2 a met2 ha (hs hu hm)],fun f f2 bs met met2 hb hu _ _ hm=>by rw[h1 f bs met hb hu,h1 f2 bs met2 hb (hs hu hm)]⟩
 |succ u ih=>
  have hv:∀(f f2:Nat) (a:Int) (met met2:List Int),0≤a∧a<(n:Int)→kY met n≤u+1→u+1≤f→u+1≤f2→(∀x,x∈met↔x∈met2)→gL nx f a met=gL nx f2 a met2:=fun f f2 a met met2 ha hu hf vC hm=>by
   obtain⟨f,rfl⟩:∃k,f=k+1:=⟨f-1,by omega⟩
   obtain⟨f2,rfl⟩:∃k,f2=k+1:=⟨f2-1,by omega⟩
   unfold gL
   by_cases c:a∈met
   ·rw[ai c,ai ((hm a).1 c)]
   ·rw[ah c,ah fun h=>c ((hm a).2 h)]
    congr 1
    refine ih.2 f f2 (nx a) _ _ (cU a) ?_ (by omega) (by omega) (fun x=>by rw[bO,bO,hm])
    have:=SA (met:=met) (met2:=met++[a]) (n:=n) (a:=a.toNat) (fun x hx=>List.mem_append_left _ hx) (by omega) (by rw[Int.toNat_of_nonneg ha.1];exact c) (by rw[Int.toNat_of_nonneg ha.1];simp)
    omega
  refine⟨hv,fun f f2 bs=>?_⟩
  induction bs with
  |nil=>intro met met2 _ _ _ _ _;unfold eA;rfl
  |cons b bs M7=>
   intro met met2 hb hu hf vC hm
   unfold eA
   have e:=hv f f2 b met met2 (hb b (cm ..)) hu hf vC hm
   rw[e]
   congr 1
   exact M7 _ _ (fun c hc=>hb c (cY _ hc)) (fD (Km fun x hx=>gD _ hx) hu) hf vC (fun x=>by rw[bO,bO,hm])
theorem TB(met:List Int)(n:Nat):kY met n≤n:=by
 unfold kY
 exact fD (EP _ _) (by rw[oO];exact aU _)
def lA(n:Nat)(nx:Int→List Int):List (Int×Nat)→List Int→List Int
 | [],_=>[]
 |(v,k)::w,seen=>eA nx n ((nx v).drop k) seen++([v]++lA n nx w (seen++eA nx n ((nx v).drop k) seen))
theorem RU{n:Nat}{nx:Int→List Int}(cU:∀x,∀y∈nx x,0≤y∧y<(n:Int)){bs met met2:List Int}(hb:∀b∈bs,0≤b∧b<(n:Int))(hm:∀x,x∈met↔x∈met2):eA nx n bs met=eA nx n bs met2:=
 (Rg cU n).2 n n bs met met2 hb (TB _ _) (aU _) (aU _) hm
theorem Ry{n:Nat}{nx:Int→List Int}(cU:∀x,∀y∈nx x,0≤y∧y<(n:Int)):∀(w:List (Int×Nat)) {seen seen2:List Int},(∀x,x∈seen↔x∈seen2)→lA n nx w seen=lA n nx w seen2
 | [],_,_,_=>rfl
 |(v,k)::w,seen,seen2,h=>by
  have e:=RU cU (bs:=(nx v).drop k) (fun b hb=>cU v b (List.mem_of_mem_drop hb)) h
  unfold lA
  rw[e,Ry cU w (seen:=seen++eA nx n ((nx v).drop k) seen2) (seen2:=seen2++eA nx n ((nx v).drop k) seen2) fun x=>by rw[bO,bO,h]]
theorem Tb{L:List Int}{k:Nat}(h:k<L.length):L.drop k=L[k]::L.drop (k+1):=go2 h
theorem Z7{n:Nat}{nx:Int→List Int}{v:Int}{k:Nat}{w:List (Int×Nat)}{seen:List Int}(hk:k<(nx v).length)(hb:(nx v)[k]∈seen):lA n nx ((v,k)::w) seen=lA n nx ((v,k+1)::w) seen:=by
 have e:gL nx n (nx v)[k] seen=[]:=by
  cases n with
  |zero=>unfold gL;rfl
  |succ n=>unfold gL;rw[ai hb]
 have e2:eA nx n ((nx v).drop k) seen=eA nx n ((nx v).drop (k+1)) seen:=by
  rw[Tb hk]
  conv=>lhs;unfold eA
  rw[e,mL,vL]
 unfold lA
 rw[e2]
theorem Z8{n:Nat}{nx:Int→List Int}(cU:∀x,∀y∈nx x,0≤y∧y<(n:Int)){v:Int}{k:Nat}{w:List (Int×Nat)}{seen:List Int}(hk:k<(nx v).length)(hb:(nx v)[k] ∉ seen):lA n nx ((v,k)::w) seen=lA n nx (((nx v)[k],0)::(v,k+1)::w) (seen++[(nx v)[k]]):=by
 obtain⟨b,sx⟩:∃b,(nx v)[k]=b:=⟨_,rfl⟩
 have dG:=cU v b (sx▸bX hk)
 rw[sx]at hb ⊢
 obtain⟨m,rfl⟩:∃m,n=m+1:=⟨n-1,by omega⟩
 have hu:kY (seen++[b]) (m+1)≤m:=by
  have:=SA (met:=seen) (met2:=seen++[b]) (n:=m+1) (a:=b.toNat) (fun x hx=>List.mem_append_left _ hx) (by omega) (by rw[Int.toNat_of_nonneg dG.1];exact hb) (by rw[Int.toNat_of_nonneg dG.1];simp)
  have:=TB seen (m+1)
  omega
 have e:gL nx (m+1) b seen=eA nx (m+1) (nx b) (seen++[b])++[b]:=by
  conv=>lhs;unfold gL
  rw[ah hb,(Rg cU m).2 m (m+1) (nx b) (seen++[b]) (seen++[b]) (cU b) hu (aU _) (by omega) fun _=>Iff.rfl]
 have e2:eA nx (m+1) ((nx v).drop k) seen=(eA nx (m+1) (nx b) (seen++[b])++[b])++eA nx (m+1) ((nx v).drop (k+1)) (seen++(eA nx (m+1) (nx b) (seen++[b])++[b])):=by
  rw[Tb hk,sx]
  conv=>lhs;unfold eA
  rw[e]
 have e3:eA nx (m+1) ((nx v).drop (k+1)) (seen++(eA nx (m+1) (nx b) (seen++[b])++[b]))=eA nx (m+1) ((nx v).drop (k+1)) (seen++[b]++eA nx (m+1) (nx b) (seen++[b])):=
  RU cU (fun c hc=>cU v c (List.mem_of_mem_drop hc)) fun x=>by simp only[List.mem_append];exact⟨fun h=>by rcases h with h | h | h <;> simp[h],fun h=>by rcases h with (h | h) | h <;> simp[h]⟩
 have hd:(nx b).drop 0=nx b:=gR
 show eA nx (m+1) ((nx v).drop k) seen++([v]++lA (m+1) nx w (seen++eA nx (m+1) ((nx v).drop k) seen))=eA nx (m+1) ((nx b).drop 0) (seen++[b])++([b]++(eA nx (m+1) ((nx v).drop (k+1)) (seen++[b]++eA nx (m+1) ((nx b).drop 0) (seen++[b]))++([v]++lA (m+1) nx w (seen++[b]++eA nx (m+1) ((nx b).drop 0) (seen++[b])++eA nx (m+1) ((nx v).drop (k+1)) (seen++[b]++eA nx (m+1) ((nx b).drop 0) (seen++[b]))))))
 rw[hd,e2,e3]
 generalize eA nx (m+1) (nx b) (seen++[b])=K
 generalize eA nx (m+1) ((nx v).drop (k+1)) (seen++[b]++K)=K2
 rw[Ry cU w (seen:=seen++(K++[b]++K2)) (seen2:=seen++[b]++K++K2) fun x=>by simp only[List.mem_append];exact⟨fun h=>by rcases h with h | (h | h) | h <;> simp[h],fun h=>by rcases h with ((h | h) | h) | h <;> simp[h]⟩]
 simp only[dM]
theorem abQ{n:Nat}{nx:Int→List Int}{v:Int}{k:Nat}{w:List (Int×Nat)}{seen:List Int}(hk:(nx v).length≤k):lA n nx ((v,k)::w) seen=v::lA n nx w seen:=by
 have e:eA nx n ((nx v).drop k) seen=[]:=by rw[Jb hk];unfold eA;rfl
 show eA nx n ((nx v).drop k) seen++([v]++lA n nx w (seen++eA nx n ((nx v).drop k) seen))=_
 rw[e,mL,vL];rfl
theorem abP{n:Nat}{nx:Int→List Int}{a:Int}{met:List Int}(ha:a ∉ met):gL nx (n+1) a met=lA n nx [(a,0)] (met++[a]):=by
 unfold gL lA lA
 rw[ah ha,gR,mL]
def rT(n:Nat)(nx:Int→List Int)(l:List Int):List Int:=l.foldl (fun out a=>out++gL nx (n+1) a out) []
inductive ir(e:Nat):Nat→AV→Hp→List AV→Prop
 |nil:ir e 0 .aj [] []
 |ae (b k:Nat) (cs J:List AV) (h:cs.length=k*e):ir e k (.ae b 0 k e) [(b,cs++J)] cs
theorem ir.xe{e k:Nat}{v:AV}{acc:Hp}{cs:List AV}(h:ir e k v acc cs):ir e k (bN v) acc cs:=by
 cases h with
 |nil=>exact .nil
 |ae b k cs J h=>exact .ae b k cs J h
theorem ir.pos{e k:Nat}{v:AV}{acc:Hp}{cs:List AV}(h:ir e k v acc cs)(h0:0<k):∃b J,v=.ae b 0 k e∧acc=[(b,cs++J)]∧cs.length=k*e:=by
 cases h with
 |nil=>omega
 |ae b k cs J h=>exact⟨b,J,rfl,rfl,h⟩
theorem xO{i:TI}{K:AV→Hp→Prop}(fr:Hp){acc σ:Hp}{k n:Nat}{v x:AV}{cs new:List AV}(h:ir i.size k v acc cs)(hx:j0 (fr++(acc++σ)) i.size x n new)(gZ:new.length=n*i.size)(hn:k+n≤1048576)(hb:i.bytes≤1024)(h0:0<i.size)
  (go:∀v' bu,ir i.size (k+n) v' bu (cs++new)→K v' (fr++(bu++σ))):AppendAt i (fr++(acc++σ)) v x K:=by
 cases h with
 |nil=>
  refine .perm _ (eO fr [] σ) (.fresh n new (.inl rfl) (hx.perm (eO fr [] σ)) (by omega) hb h0 (K:=fun v ec=>(n=0∧v=.aj∧ec=[]++(fr++σ))∨(n≠0∧∃b,v=.ae b 0 n i.size∧ec=(b,new)::([]++(fr++σ)))) (fun aP b=>.inr ⟨aP,b,rfl,rfl⟩) (fun h0=>.inl ⟨h0,rfl,rfl⟩)) ?_
  rintro v ec (⟨hz,rfl,rfl⟩ | ⟨hz,b,rfl,rfl⟩)
  ·subst hz
   obtain rfl:new=[]:=List.length_eq_zero_iff.1 (by simpa using gZ)
   exact⟨_,(eO fr [] σ).symm,.inl (go _ _ .nil)⟩
  ·refine⟨_,(eO fr [(b,new)] σ).symm,.inl (go _ _ ?_)⟩
   have:=ir.ae (e:=i.size) b (0+n) new [] (by rw[eF];exact gZ)
   rw[mL,eF]at this
   rw[eF]
   exact this
 |ae b k cs J hl=>
  refine .perm _ (eO fr [(b,cs++J)] σ) (.more 0 b k n (cs++J) new rfl rfl (by rw[bQ];omega) (hx.perm (eO fr [(b,cs++J)] σ)) hn hb h0 (K:=fun v ec=>∃b',v=.ae b' 0 (k+n) i.size∧ec=(b',cs++new)::(fr++σ)) (fun b'=>⟨b',rfl,by rw[Jg (by omega),eI (by omega)];rfl⟩)) ?_
  rintro v ec ⟨b',rfl,rfl⟩
  refine⟨_,(eO fr [(b',cs++new)] σ).symm,.inl (go _ _ ?_)⟩
  have:=ir.ae (e:=i.size) b' (k+n) (cs++new) [] (by rw[bQ,hl,gZ,qy])
  rw[mL]at this
  exact this
theorem mV{i:TI}(hs:i.size=1){l:List Int}(x:Int){a:Int}(h1:0≤a)(h2:a<l.length):kJ i (ao l) (0+a.toNat*1) (.int .i64 x)=some (ao (l.set a.toNat x)):=by
 rw[uv hs rfl (by rw[Lb];omega),eF,eH]
 unfold ao;rw[oM]
theorem eT{i:TI}(hw:i.wide=false){l:List Int}{a:Int}(h1:0≤a)(h2:a<l.length):eu i (ao l) (0+a.toNat*1)=some (.int .i64 (l.getD a.toNat 0)):=by
 refine je hw ?_
 unfold ao
 rw[eF,eH,fo,aW,bJ (by omega)];rfl
def dc(N:List (List Int))(bi bl bo n:Nat)(vs:AV)(aG:Nat)(vp:AV):List AV:=[.af (.slice (.int .i64)) N,.ae bi 0 n 1,.ae bl 0 n 1,.ae bo 0 n 1,vs,.int .i64 aG,vp]
theorem Ac(w bi bl bo n:Nat)(N:List (List Int))(ix lo st:List Int)(on:List Bool)(aG:Nat)(vs vp:AV)(acc:Hp)(a:Int)(σ:Hp)(h0:0≤a)(hn:a<n)(hi:ix.length=n)(hl:lo.length=n)(ho:on.length=n)(hs:ir 1 st.length vs acc (ao st))(de:st.length≤10000)(hc:aG≤10000):
  ACalls Tryz.prog 314 [.ptr w 0,.int .i64 a] ((w,dc N bi bl bo n vs aG vp)::(bi,ao ix)::(bl,ao lo)::(bo,bK on)::(acc++σ))
   (fun r σ'=>r=.agg [.int .i64 a,.int .i64 0]∧∃ep bu,ir 1 (st++[a]).length ep bu (ao (st++[a]))∧σ'=(w,dc N bi bl bo n ep (aG+1) vp)::(bi,ao (ix.set a.toNat ((aG+1:Nat):Int)))::(bl,ao (lo.set a.toNat ((aG+1:Nat):Int)))::(bo,bK (on.set a.toNat true))::(bu++σ)):=by
 have hwr:IntKind.i64.wrap ((aG:Int)+1)=((aG+1:Nat):Int):=by rw[ca (by omega)];omega
 refine ay Tryz.func314 ?_
 intro aD
 refine aa 1 ?_
 refine ak 1 ?_
 refine .sched [] (upto [] 29 0) (by kernel_rfl) ?_
 refine aa 1 ?_
 refine aa 1 ?_
 refine aa 1 ?_
 refine aa 1 ?_
 refine aa 1 ?_
 refine ag.mk ⟨rfl,by omega,by omega⟩ ?_
 refine cX 2 rfl (mV rfl _ h0 (by omega)) ?_
 refine ag.mk ⟨rfl,by omega,by omega⟩ ?_
 refine cX 3 rfl (mV rfl _ h0 (by omega)) ?_
 refine ag.mk ⟨rfl,by omega,by omega⟩ ?_
 refine cX 4 rfl (xX rfl true h0 (by omega)) ?_
 refine aa 1 ?_
 intro aD
 refine xO [_,_,_,_,_,_] hs.xe (.ae 0 aD 0 1 _ rfl (cH rfl)) rfl (by omega) (by decide) (by decide) (fun v' bu h'=>?_)
 obtain⟨bq,J,rfl,rfl,hq⟩:=h'.pos (by omega)
 refine ak 2 ?_
 refine ak 1 ?_
 refine aa 1 ?_
 refine .drop 0 2 (.done ⟨rfl,.ae bq 0 (st.length+1) 1,[(bq,(ao st++[.int .i64 a])++J)],?_,?_⟩)
 ·rw[bQ,show ao (st++[a])=ao st++[.int .i64 a] from cS];exact h'
 ·rw[hwr];rfl
end Go.Proofs.YtnikdflhefijbaaGreat
