import Derived.Test.YtnpidbjdilnhlaaGreatBn35
import Derived.Test.YtnpidbjdilnhlaaGreatBn18
import Derived.Test.YtnpidbjdilnhlaaGreatBn32
namespace Go.Proofs.YtnpidbjdilnhlaaGreat
open Go.RowKit
set_option maxRecDepth 100000
theorem tp{a:Int}:∀{P:List (List Int)},P.flatten.Nodup→∀{i j:Nat} {p q:List Int},P[i]?=some p→P[j]?=some q→a∈p→a∈q→i=j
 | [],_,i,_,_,_,h,_,_,_=>by simp at h
 | r::P,hd,i,j,p,q,hi,hj,hp,hq=>by
  rw[List.flatten_cons]at hd
  obtain⟨_,h2,h3⟩:=List.nodup_append.1 hd
  cases i with
  | zero =>
   cases j with
   | zero=>rfl
   | succ j =>
    obtain rfl:r=p:=by simpa using hi
    have hj:P[j]?=some q:=by simpa using hj
    exact absurd rfl (h3 a hp a (List.mem_flatten.2 ⟨q,List.mem_of_getElem? hj,hq⟩))
  | succ i =>
   have hi:P[i]?=some p:=by simpa using hi
   cases j with
   | zero =>
    obtain rfl:r=q:=by simpa using hj
    exact absurd rfl (h3 a hq a (List.mem_flatten.2 ⟨p,List.mem_of_getElem? hi,hp⟩))
   | succ j =>
    have hj:P[j]?=some q:=by simpa using hj
    exact congrArg (· + 1) (tp h2 hi hj hp hq)
theorem oG.le{n:Nat}{nx:Int→List Int}{P:List (List Int)}(h:oG n nx P){x y:Int}(hr:Rx nx x y){i:Nat}{p:List Int}(hi:P[i]?=some p)(hx:x∈p):∃(j:Nat) (q:List Int),j≤i∧P[j]?=some q∧y∈q:=by
 induction hr with
 | refl=>exact⟨i,p,Nat.le_refl _,hi,hx⟩
 | step _ hc ih =>
  obtain⟨j,q,h1,h2,h3⟩:=ih
  obtain⟨k,r,k1,k2,k3⟩:=h.FJ j q h2 _ h3 _ hc
  exact⟨k,r,Nat.le_trans k1 h1,k2,k3⟩
theorem ZQ{n:Int}{l:List aV}{a b:Int}:uQ n l [a] b↔(0≤a∧a<n)∧Rx (an n l) a b:=by
 constructor
 ·intro h
  induction h with
  | root hm h1=>rw[List.mem_singleton.1 hm]at h1 ⊢;exact⟨h1,.refl _⟩
  | step _ hb ih=>exact⟨ih.1,.step ih.2 hb⟩
 ·rintro⟨ha,h⟩
  induction h with
  | refl=>exact .root (List.mem_singleton.2 rfl) ha
  | step _ hc ih=>exact .step ih hc
theorem C9{n:Nat}{l:List aV}{a b:Int}:yr n l a b=true↔(0≤a∧a<n)∧Rx (an n l) a b:=by
 unfold yr
 rw[z6,S6,ZQ]
theorem Uo(n:Nat)(l:List aV)(a:Int):(oV n l a).Pairwise (· < ·):=by
 unfold oV HV
 rw[List.pairwise_map]
 refine List.Pairwise.filter _ ?_
 exact List.pairwise_lt_range.imp fun h=>by omega
theorem Hr{n:Nat}{l:List aV}{P:List (List Int)}(h:oG n (an n l) P){p:List Int}{a:Int}(hp:p∈P)(ha:a∈p):oV n l a=p:=by
 obtain⟨i,hi⟩:=List.getElem?_of_mem hp
 have qt:=h.node p hp a ha
 refine HA (Uo ..) (h.yu p hp) fun z =>?_
 rw[UD]
 constructor
 ·rintro⟨k,hk,hb,rfl⟩
  rw[Bool.and_eq_true,C9,C9]at hb
  obtain⟨j,q,j1,j2,j3⟩:=h.le hb.1.2 hi ha
  obtain⟨k2,r,k3,k4,k5⟩:=h.le hb.2.2 j2 j3
  have:=tp h.nd hi k4 ha k5
  have:i=j:=by omega
  subst this
  rw[hi]at j2
  rw[Option.some.inj j2];exact j3
 ·intro hz
  have fK:=h.node p hp z hz
  refine⟨z.toNat,by omega,?_,by omega⟩
  rw[Int.toNat_of_nonneg fK.1,Bool.and_eq_true,C9,C9]
  exact⟨⟨qt,h.Km p hp a ha z hz⟩,fK,h.Km p hp z hz a ha⟩
def jD(i:Int)(p:List Int)(w:List Int):List Int:=p.foldl (fun w a=>w.set a.toNat i) w
def kH(P:List (List Int)):Nat→List Int→List Int
 | 0,w=>w
 | k+1,w=>jD k (P.getD k []) (kH P k w)
def aO(n:Nat)(P:List (List Int)):List Int:=kH P P.length (List.replicate n 0)
theorem Cm(i:Int):∀(p w:List Int),(jD i p w).length=w.length
 | [],_=>rfl
 | a::p,w=>by
  show (jD i p (w.set a.toNat i)).length=_
  rw[Cm i p,List.length_set]
theorem y4(P:List (List Int)):∀(k:Nat) (w:List Int),(kH P k w).length=w.length
 | 0,_=>rfl
 | k+1,w=>by
  show (jD k (P.getD k []) (kH P k w)).length=_
  rw[Cm,y4 P k]
theorem Lh(n:Nat)(P:List (List Int)):(aO n P).length=n:=by unfold aO;rw[y4,List.length_replicate]
theorem N8(i:Int){a:Int}(ha:0≤a):∀(p w:List Int),(∀z∈p,0≤z)→a.toNat<w.length→(jD i p w).getD a.toNat 0=if a∈p then i else w.getD a.toNat 0
 | [],w,_,_=>by simp[jD]
 | z::p,w,hp,hw=>by
  show (jD i p (w.set z.toNat i)).getD a.toNat 0=_
  have hz:=hp z (List.mem_cons_self ..)
  rw[N8 i ha p _ (fun y hy=>hp y (List.mem_cons_of_mem _ hy)) (by rw[List.length_set];exact hw),ku]
  by_cases h1:a∈p
  ·rw[if_pos h1,if_pos (List.mem_cons_of_mem _ h1)]
  ·rw[if_neg h1]
   by_cases h2:a=z
   ·rw[if_pos ⟨by omega,hw⟩,if_pos (by rw[h2];exact List.mem_cons_self ..)]
   ·rw[if_neg (by omega),if_neg (by rw[List.mem_cons];exact fun h=>h.elim h2 h1)]
theorem r9{P:List (List Int)}{i:Nat}{p:List Int}(h:P[i]?=some p):P.getD i []=p:=by rw[List.getD_eq_getElem?_getD,h];rfl
theorem N7{n:Nat}{nx:Int→List Int}{P:List (List Int)}(h:oG n nx P){i:Nat}{p:List Int}(hi:P[i]?=some p){a:Int}(ha:a∈p):∀k,k≤P.length→i<k→(kH P k (List.replicate n 0)).getD a.toNat 0=i
 | 0,_,hk=>absurd hk (Nat.not_lt_zero _)
 | k+1,qm,hk=>by
  have qt:=h.node p (List.mem_of_getElem? hi) a ha
  obtain⟨q,hq⟩:∃q,P[k]?=some q:=⟨P[k],List.getElem?_eq_getElem (by omega)⟩
  show (jD k (P.getD k []) _).getD a.toNat 0=_
  rw[r9 hq,N8 k qt.1 _ _ (fun z hz=>(h.node q (List.mem_of_getElem? hq) z hz).1) (by rw[y4,List.length_replicate];omega)]
  by_cases hm:a∈q
  ·rw[if_pos hm,tp h.nd hi hq ha hm]
  ·rw[if_neg hm]
   have:i≠k:=fun e=>by subst e;rw[hi]at hq;exact hm (Option.some.inj hq▸ha)
   exact N7 h hi ha k (by omega) (by omega)
theorem XO{n:Nat}{nx:Int→List Int}{P:List (List Int)}(h:oG n nx P){i:Nat}{p:List Int}(hi:P[i]?=some p){a:Int}(ha:a∈p):(aO n P).getD a.toNat 0=i:=
 N7 h hi ha P.length (Nat.le_refl _) (List.getElem?_eq_some_iff.1 hi).1
def lh(l:List aV)(W:List Int)(T:List Bool)(i:Int):Bool:= !T.getD i.toNat false && !l.any fun x=>decide (W.getD x.2.1.toNat 0=i) && decide (W.getD x.1.toNat 0≠i) && !T.getD (W.getD x.1.toNat 0).toNat false
def fW(P:List (List Int))(i:Nat):Int:=(P.getD i []).headD 0
def ec(P:List (List Int))(l:List aV)(W:List Int)(T:List Bool):Nat→Int
 | 0 => -1
 | k+1=>if lh l W T k=true∧(ec P l W T k<0∨fW P k<fW P (ec P l W T k).toNat) then k else ec P l W T k
theorem Cv(P:List (List Int))(l:List aV)(W:List Int)(T:List Bool):∀k:Nat,(ec P l W T k = -1∧∀i:Nat,i<k→lh l W T i=false)∨∃b:Nat,ec P l W T k=b∧b<k∧lh l W T b=true∧∀i:Nat,i<k→lh l W T i=true→fW P b≤fW P i
 | 0=>.inl ⟨rfl,fun _ h=>absurd h (Nat.not_lt_zero _)⟩
 | k+1=>by
  have ih:=Cv P l W T k
  by_cases c:lh l W T k=true∧(ec P l W T k<0∨fW P k<fW P (ec P l W T k).toNat)
  ·have e:ec P l W T (k+1)=k:=if_pos c
   rw[e]
   refine .inr ⟨k,rfl,by omega,c.1,fun i hi hf =>?_⟩
   by_cases BP:i=k
   ·subst BP;exact Int.le_refl _
   ·rcases ih with ⟨h1,h2⟩ | ⟨b,h1,h2,h3,h4⟩
    ·rw[h2 i (by omega)]at hf;cases hf
    ·have:=h4 i (by omega) hf
     rw[h1,Int.toNat_natCast]at c
     rcases c.2 with c | c
     ·omega
     ·omega
  ·have e:ec P l W T (k+1)=ec P l W T k:=if_neg c
   rw[e]
   rcases ih with ⟨h1,h2⟩ | ⟨b,h1,h2,h3,h4⟩
   ·refine .inl ⟨h1,fun i hi =>?_⟩
    by_cases BP:i=k
    ·subst BP
     exact Bool.eq_false_iff.2 fun hf=>c ⟨hf,.inl (by omega)⟩
    ·exact h2 i (by omega)
   ·refine .inr ⟨b,h1,by omega,h3,fun i hi hf =>?_⟩
    by_cases BP:i=k
    ·subst BP
     rw[h1,Int.toNat_natCast]at c
     exact Int.not_lt.1 fun ab=>c ⟨hf,.inr ab⟩
    ·exact h4 i (by omega) hf
def cD(P:List (List Int))(l:List aV)(W:List Int):Nat→List Bool×List (List Int)
 | 0=>(List.replicate P.length false,[])
 | k+1=>((cD P l W k).1.set (ec P l W (cD P l W k).1 P.length).toNat true,(cD P l W k).2++[P.getD (ec P l W (cD P l W k).1 P.length).toNat []])
def Ee(n:Nat)(l:List aV)(told:List Int)(a:Nat):Bool:=decide ((oV n l a).headD 0=(a:Int)) && !qf told a && IC l (oV n l a) told
def AU(n:Nat)(l:List aV):Nat→List (List Int)×List Int→List (List Int)×List Int
 | 0,s=>s
 | f+1,s=>if s.2.length<n then (match (List.range n).find? (Ee n l s.2) with | none=>s | some a=>AU n l f (s.1++[oV n l a],s.2++oV n l a)) else s
def iI(n:Nat)(l:List aV):List (List Int):=(AU n l (n+1) ([],[])).1
theorem Ti{p:Nat→Bool}{n a:Nat}(ha:a<n)(hp:p a=true)(h:∀b,b<a→p b=false):(List.range n).find? p=some a:=by
 rw[List.find?_range_eq_some]
 exact⟨hp,List.mem_range.2 ha,fun b hb=>by rw[h b hb];rfl⟩
structure mi(n:Nat)(l:List aV)(P:List (List Int)):Prop where
 ok:oG n (an n l) P
 all:∀x:Int,0≤x→x<n→∃p∈P,x∈p
theorem mi.idx{n:Nat}{l:List aV}{P:List (List Int)}(h:mi n l P){x:Int}(hx:0≤x∧x<n):∃(i:Nat) (p:List Int),P[i]?=some p∧x∈p∧(aO n P).getD x.toNat 0=i:=by
 obtain⟨p,hp,po⟩:=h.all x hx.1 hx.2
 obtain⟨i,hi⟩:=List.getElem?_of_mem hp
 exact⟨i,p,hi,po,XO h.ok hi po⟩
theorem ve{P:List (List Int)}{i:Nat}{p:List Int}(h:P[i]?=some p):i<P.length:=(List.getElem?_eq_some_iff.1 h).1
structure OI(P:List (List Int))(k:Nat)(T:List Bool)(out:List (List Int)):Prop where
 tl:T.length=P.length
 ol:out.length=k
 aB:T.countP id=k
 mem:∀q,q∈out↔∃i:Nat,T.getD i false=true∧P[i]?=some q
 nd:out.flatten.Nodup
theorem Mu{n:Nat}{l:List aV}{P:List (List Int)}(h:mi n l P)(hr:∀e∈l,(0≤e.1∧e.1<(n:Int))∧0≤e.2.1∧e.2.1<(n:Int)){k:Nat}{T:List Bool}{out:List (List Int)}(hO:OI P k T out){i:Nat}{p:List Int}(hi:P[i]?=some p):lh l (aO n P) T i=true↔T.getD i false=false∧IC l p out.flatten=true:=by
 unfold lh IC
 rw[Int.toNat_natCast,Bool.and_eq_true,Bool.not_eq_true',Bool.not_eq_true',List.any_eq_false,List.all_eq_true]
 refine and_congr_right fun _ =>?_
 refine forall_congr' fun e =>?_
 refine forall_congr' fun he =>?_
 obtain⟨q1,q2⟩:=hr e he
 obtain⟨a,pa,ha,BK,wa⟩:=h.idx q1
 obtain⟨b,pb,hb,ot,wb⟩:=h.idx q2
 rw[wa,wb,Int.toNat_natCast]
 have de:∀{j:Nat} {r:List Int} {x:Int},P[j]?=some r→x∈r→(qf p x=true↔j=i):=fun {j r x} hj hx=>by
  rw[z6]
  exact⟨fun hm=>tp h.ok.nd hj hi hx hm,fun e=>by subst e;rw[hi]at hj;rw[Option.some.inj hj];exact hx⟩
 have ab0:qf out.flatten e.1=true↔T.getD a false=true:=by
  rw[z6,List.mem_flatten]
  constructor
  ·rintro⟨q,hq,hm⟩
   obtain⟨j,hj,ox⟩:=(hO.mem q).1 hq
   rw[tp h.ok.nd ha ox BK hm];exact hj
  ·intro ht
   exact⟨pa,(hO.mem pa).2 ⟨a,ht,ha⟩,BK⟩
 have h1:=de ha BK
 have h2:=de hb ot
 rw[Bool.and_eq_true,Bool.and_eq_true,decide_eq_true_eq,decide_eq_true_eq,Bool.not_eq_true',Bool.not_eq_true',Bool.and_eq_false_iff,Bool.and_eq_false_iff,Bool.not_eq_false',Bool.not_eq_false']
 have h3:qf p e.2.1=false↔b≠i:=by rw[← Bool.not_eq_true,h2]
 rw[ab0,h1,h3,← Bool.not_eq_true]
 constructor
 ·intro hn
  by_cases c1:b=i
  ·by_cases c2:a=i
   ·exact .inl (.inr c2)
   ·exact .inr (by
     by_cases c3:T.getD a false=true
     ·exact c3
     ·exact absurd ⟨⟨by omega,by omega⟩,c3⟩ hn)
  ·exact .inl (.inl c1)
 ·rintro ((c | c) | c) ⟨⟨d1,d2⟩,d3⟩
  ·exact c (by omega)
  ·exact d2 (by omega)
  ·exact d3 c
theorem count_set{T:List Bool}{i:Nat}(hi:i<T.length)(h:T.getD i false=false):(T.set i true).countP id=T.countP id+1:=by
 induction T generalizing i with
 | nil=>simp at hi
 | cons t T ih =>
  cases i with
  | zero =>
   have:t=false:=h
   subst this
   simp
  | succ i =>
   have:=ih (i:=i) (by simpa using hi) h
   rw[List.set_cons_succ,List.countP_cons,List.countP_cons,this];omega
theorem Tt:∀{T:List Bool},T.countP id<T.length→∃i,i<T.length∧T.getD i false=false∧∀j,i<j→j<T.length→T.getD j false=true:=by
 intro T
 induction T with
 | nil=>intro h;simp at h
 | cons t T ih =>
  intro h
  rw[List.countP_cons,List.length_cons]at h
  by_cases c:T.countP id<T.length
  ·obtain⟨i,h1,h2,h3⟩:=ih c
   refine⟨i+1,by rw[List.length_cons];omega,h2,fun j hj hl =>?_⟩
   cases j with
   | zero=>omega
   | succ j=>exact h3 j (by omega) (by rw[List.length_cons]at hl;omega)
  ·have ht:t=false:=by
    cases t with
    | false=>rfl
    | true=>simp at h;omega
   subst ht
   have bM:T.countP id=T.length:=by have:=List.countP_le_length (p:=id) (l:=T);omega
   refine⟨0,by simp,rfl,fun j hj hl =>?_⟩
   cases j with
   | zero=>omega
   | succ j =>
    have hl:j<T.length:=by rw[List.length_cons]at hl;omega
    have:=List.countP_eq_length.1 bM _ (List.getElem_mem hl)
    show T.getD j false=true
    rw[List.getD_eq_getElem?_getD,List.getElem?_eq_getElem hl];exact this
theorem zk{n:Nat}{nx:Int→List Int}{P:List (List Int)}(h:oG n nx P):P.length≤n∧P.flatten.length≤n:=by
 have h1:P.flatten.length≤n:=zm n _ h.nd fun z hz=>by
  obtain⟨p,hp,hz⟩:=List.mem_flatten.1 hz
  exact h.node p hp z hz
 refine⟨Nat.le_trans ?_ h1,h1⟩
 have:=h.ne
 clear h h1
 induction P with
 | nil=>exact Nat.le_refl _
 | cons p P ih =>
  have h1:=List.length_pos_iff.2 (this p (List.mem_cons_self ..))
  have h2:=ih fun q hq=>this q (List.mem_cons_of_mem _ hq)
  rw[List.flatten_cons,List.length_append,List.length_cons];omega
theorem GV{n:Nat}{l:List aV}{P:List (List Int)}(h:mi n l P)(hr:∀e∈l,(0≤e.1∧e.1<(n:Int))∧0≤e.2.1∧e.2.1<(n:Int)){k:Nat}(hk:k<P.length){T:List Bool}{out:List (List Int)}(hO:OI P k T out):
  ∃(b:Nat) (p:List Int),ec P l (aO n P) T P.length=b∧P[b]?=some p∧OI P (k+1) (T.set b true) (out++[p])∧out.flatten.length<n∧∃a:Nat,(List.range n).find? (Ee n l out.flatten)=some a∧oV n l a=p:=by
 obtain⟨i,JQ,yK,hi3⟩:=Tt (T:=T) (by rw[hO.aB,hO.tl];exact hk)
 rw[hO.tl]at JQ hi3
 obtain⟨pi,hpi⟩:∃p,P[i]?=some p:=⟨P[i],List.getElem?_eq_getElem JQ⟩
 have Qm:lh l (aO n P) T i=true:=by
  unfold lh
  rw[Int.toNat_natCast,yK,Bool.and_eq_true]
  refine⟨rfl,?_⟩
  rw[Bool.not_eq_true']
  refine List.any_eq_false.2 fun e he =>?_
  obtain⟨q1,q2⟩:=hr e he
  obtain⟨a,pa,ha,BK,wa⟩:=h.idx q1
  obtain⟨b,pb,hb,ot,wb⟩:=h.idx q2
  rw[wa,wb,Int.toNat_natCast,Bool.and_eq_true,Bool.and_eq_true,decide_eq_true_eq,decide_eq_true_eq,Bool.not_eq_true']
  rintro⟨⟨d1,d2⟩,d3⟩
  obtain⟨j,q,j1,j2,j3⟩:=h.ok.FJ a pa ha e.1 BK e.2.1 (j8.2 ⟨q2,q1,e,he,rfl,rfl⟩)
  have:=tp h.ok.nd hb j2 ot j3
  rw[hi3 a (by omega) (ve ha)]at d3
  cases d3
 rcases Cv P l (aO n P) T P.length with ⟨_,iK⟩ | ⟨b,hb,my,hbf,qq⟩
 ·rw[iK i JQ]at Qm;cases Qm
 obtain⟨p,hp⟩:∃p,P[b]?=some p:=⟨P[b],List.getElem?_eq_getElem my⟩
 have eY:=List.mem_of_getElem? hp
 obtain⟨sY,hbF⟩:=(Mu h hr hO hp).1 hbf
 have BJ:p ∉ out:=fun hm=>by
  obtain⟨j,hj,ox⟩:=(hO.mem p).1 hm
  obtain⟨z,hz⟩:=List.exists_mem_of_ne_nil _ (h.ok.ne p eY)
  rw[tp h.ok.nd hp ox hz hz,hj]at sY;cases sY
 have QZ:∀z∈p,z ∉ out.flatten:=fun z hz hm=>by
  obtain⟨q,hq,Jx⟩:=List.mem_flatten.1 hm
  obtain⟨j,hj,ox⟩:=(hO.mem q).1 hq
  rw[tp h.ok.nd hp ox hz Jx,hj]at sY;cases sY
 have bB:(out.flatten++p).Nodup:=List.nodup_append.2 ⟨hO.nd,(h.ok.yu p eY).imp fun h=>by omega,fun x hx y hy e=>QZ y hy (e▸hx)⟩
 have nP:∀z∈out.flatten++p,0≤z∧z<(n:Int):=fun z hz=>by
  rcases List.mem_append.1 hz with hz | hz
  ·obtain⟨q,hq,Jx⟩:=List.mem_flatten.1 hz
   obtain⟨j,_,ox⟩:=(hO.mem q).1 hq
   exact h.ok.node q (List.mem_of_getElem? ox) z Jx
  ·exact h.ok.node p eY z hz
 have hlen:=zm n _ bB nP
 rw[List.length_append]at hlen
 have rC:=List.length_pos_iff.2 (h.ok.ne p eY)
 refine⟨b,p,hb,hp,⟨by rw[List.length_set];exact hO.tl,by rw[List.length_append,hO.ol];rfl,by rw[count_set (by rw[hO.tl];exact my) sY,hO.aB],fun q =>?_,by rw[List.flatten_append];simpa using bB⟩,by omega,?_⟩
 ·rw[List.mem_append,List.mem_singleton,hO.mem]
  constructor
  ·rintro (⟨j,hj,ox⟩ | rfl)
   ·exact⟨j,by rw[Ga];split;rfl;exact hj,ox⟩
   ·exact⟨b,by rw[Ga,if_pos ⟨rfl,by rw[hO.tl];exact my⟩],hp⟩
  ·rintro⟨j,hj,ox⟩
   rw[Ga]at hj
   by_cases e:b=j
   ·subst e;rw[hp]at ox;exact .inr (Option.some.inj ox).symm
   ·rw[if_neg (fun h=>e h.1)]at hj
    exact .inl ⟨j,hj,ox⟩
 have Ql:∀{j:Nat} {q:List Int},P[j]?=some q→fW P j∈q∧fW P j=q.headD 0∧∀z∈q,fW P j≤z:=fun {j q} hj=>by
  have aI:=h.ok.ne q (List.mem_of_getElem? hj)
  have hs:=h.ok.yu q (List.mem_of_getElem? hj)
  unfold fW
  rw[r9 hj]
  cases q with
  | nil=>exact absurd rfl aI
  | cons z q =>
   refine⟨List.mem_cons_self ..,rfl,fun y hy =>?_⟩
   rcases List.mem_cons.1 hy with rfl | hy
   ·exact Int.le_refl _
   ·have:=(List.pairwise_cons.1 hs).1 y hy
    show z≤y
    omega
 obtain⟨m1,m2,_⟩:=Ql hp
 have hhn:=h.ok.node p eY _ m1
 refine⟨(fW P b).toNat,Ti (by omega) ?_ fun a' Fy=>Bool.eq_false_iff.2 fun hc =>?_,?_⟩
 ·unfold Ee
  rw[Int.toNat_of_nonneg hhn.1,Hr h.ok eY m1,hbF,Bool.and_true,Bool.and_eq_true,decide_eq_true_eq,Bool.not_eq_true']
  exact⟨m2.symm,Bool.eq_false_iff.2 fun hm=>QZ _ m1 (z6.1 hm)⟩
 ·unfold Ee at hc
  rw[Bool.and_eq_true,Bool.and_eq_true,decide_eq_true_eq,Bool.not_eq_true']at hc
  obtain⟨⟨c1,c2⟩,c3⟩:=hc
  obtain⟨j,q,hj,hq,_⟩:=h.idx (x:=(a':Int)) (by omega)
  rw[Hr h.ok (List.mem_of_getElem? hj) hq]at c1 c3
  obtain⟨_,m4,_⟩:=Ql hj
  have hjT:T.getD j false=false:=Bool.eq_false_iff.2 fun ht=>by
   have:qf out.flatten a'=true:=z6.2 (List.mem_flatten.2 ⟨q,(hO.mem q).2 ⟨j,ht,hj⟩,hq⟩)
   rw[this]at c2;cases c2
  have:=qq j (ve hj) ((Mu h hr hO hj).2 ⟨hjT,c3⟩)
  rw[m4,c1]at this
  omega
 ·rw[Int.toNat_of_nonneg hhn.1];exact Hr h.ok eY m1
theorem Df{n:Nat}{l:List aV}{P:List (List Int)}(h:mi n l P)(hr:∀e∈l,(0≤e.1∧e.1<(n:Int))∧0≤e.2.1∧e.2.1<(n:Int)):∀k,k≤P.length→OI P k (cD P l (aO n P) k).1 (cD P l (aO n P) k).2∧(k<P.length→∃b:Nat,ec P l (aO n P) (cD P l (aO n P) k).1 P.length=b∧b<P.length)∧∀f,AU n l (k+f) ([],[])=AU n l f ((cD P l (aO n P) k).2,(cD P l (aO n P) k).2.flatten):=by
 intro k
 induction k with
 | zero =>
  intro _
  have iK:∀i,¬((List.replicate P.length false).getD i false=true):=fun i h1=>by
   rw[List.getD_eq_getElem?_getD,List.getElem?_replicate]at h1
   split at h1 <;> cases h1
  have h0:OI P 0 (List.replicate P.length false) []:=⟨List.length_replicate,rfl,(by rw[List.countP_eq_zero];intro x hx;rw[List.eq_of_mem_replicate hx];simp),fun q=>⟨fun h=>absurd h (by simp),fun ⟨i,h1,_⟩=>absurd h1 (iK i)⟩,List.nodup_nil⟩
  refine⟨h0,fun hk =>?_,fun f=>by rw[Nat.zero_add];rfl⟩
  obtain⟨b,p,hb,hp,_⟩:=GV h hr hk h0
  exact⟨b,hb,ve hp⟩
 | succ k ih =>
  intro hk
  obtain⟨hO,_,hf⟩:=ih (by omega)
  obtain⟨b,p,hb,hp,uM,ab,a,ha,sZ⟩:=GV h hr (by omega) hO
  have e1:(cD P l (aO n P) (k+1)).1=(cD P l (aO n P) k).1.set b true:=by
   show (cD P l (aO n P) k).1.set (ec P l (aO n P) (cD P l (aO n P) k).1 P.length).toNat true=_
   rw[hb,Int.toNat_natCast]
  have e2:(cD P l (aO n P) (k+1)).2=(cD P l (aO n P) k).2++[p]:=by
   show (cD P l (aO n P) k).2++[P.getD (ec P l (aO n P) (cD P l (aO n P) k).1 P.length).toNat []]=_
   rw[hb,Int.toNat_natCast,r9 hp]
  rw[e1,e2]
  refine⟨uM,fun dm =>?_,fun f =>?_⟩
  ·obtain⟨b2,p2,ov,cx,_⟩:=GV h hr dm uM
   exact⟨b2,ov,ve cx⟩
  ·rw[show k+1+f=k+(f+1) by omega,hf]
   show (if _ then _ else _)=_
   rw[if_pos ab,ha]
   show AU n l f (_++[oV n l a],_++oV n l a)=_
   rw[sZ,List.flatten_append];simp
theorem HW{n:Nat}{l:List aV}{P:List (List Int)}(h:mi n l P)(hr:∀e∈l,(0≤e.1∧e.1<(n:Int))∧0≤e.2.1∧e.2.1<(n:Int)):(cD P l (aO n P) P.length).2=iI n l:=by
 obtain⟨hO,_,hf⟩:=Df h hr P.length (Nat.le_refl _)
 have hl:=(zk h.ok).1
 have hf:=hf (n+1-P.length)
 rw[show P.length+(n+1-P.length)=n+1 by omega]at hf
 unfold iI
 rw[hf]
 obtain⟨f,hfe⟩:∃f,n+1-P.length=f+1:=⟨n-P.length,by omega⟩
 rw[hfe]
 show _=(if _ then _ else _:List (List Int)×List Int).1
 have bM:∀i,i<P.length→(cD P l (aO n P) P.length).1.getD i false=true:=fun i hi=>by
  have hc:(cD P l (aO n P) P.length).1.countP id=(cD P l (aO n P) P.length).1.length:=by rw[hO.aB,hO.tl]
  have:=List.countP_eq_length.1 hc _ (List.getElem_mem (n:=i) (by rw[hO.tl];exact hi))
  rw[List.getD_eq_getElem?_getD,List.getElem?_eq_getElem (by rw[hO.tl];exact hi)];exact this
 have kf:∀x∈(List.range n).map (fun i:Nat=>(i:Int)),x∈(cD P l (aO n P) P.length).2.flatten:=fun x hx=>by
  obtain⟨i,hi,rfl⟩:=List.mem_map.1 hx
  have hi:=List.mem_range.1 hi
  obtain⟨j,p,hj,hp,_⟩:=h.idx (x:=(i:Int)) (by omega)
  exact List.mem_flatten.2 ⟨p,(hO.mem p).2 ⟨j,bM j (ve hj),hj⟩,hp⟩
 have au:=GN (l:=(List.range n).map (fun i:Nat=>(i:Int))) (by rw[List.nodup_iff_pairwise_ne,List.pairwise_map];exact List.pairwise_lt_range.imp fun h=>by omega) kf
 rw[List.length_map,List.length_range]at au
 rw[if_neg (by show ¬((cD P l (aO n P) P.length).2.flatten.length<n);omega)]
end Go.Proofs.YtnpidbjdilnhlaaGreat
