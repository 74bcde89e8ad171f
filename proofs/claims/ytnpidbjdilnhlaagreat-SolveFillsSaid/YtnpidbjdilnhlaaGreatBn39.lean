import Derived.Test.YtnpidbjdilnhlaaGreatBn38
import Derived.Test.YtnpidbjdilnhlaaGreatBn22
import Derived.Test.YtnpidbjdilnhlaaGreatBn35
namespace Go.Proofs.YtnpidbjdilnhlaaGreat
open Go.RowKit
set_option maxRecDepth 100000
theorem rH{a:Int}:∀{P:List (List Int)},P.flatten.Nodup→∀{i j:Nat} {p q:List Int},P[i]?=some p→P[j]?=some q→a∈p→a∈q→i=j
 | [],_,i,_,_,_,h,_,_,_=>by simp at h
 | r::P,hd,i,j,p,q,hi,hj,hp,hq=>by
  rw[List.flatten_cons]at hd
  obtain⟨_,h2,h3⟩:=List.nodup_append.1 hd
  cases i with
  | zero =>
   cases j with
   | zero=>rfl
   | succ j =>
    obtain rfl:r=p:=by simpa using hi
    have hj:P[j]?=some q:=by simpa using hj
    exact absurd rfl (h3 a hp a (List.mem_flatten.2 ⟨q,List.mem_of_getElem? hj,hq⟩))
  | succ i =>
   have hi:P[i]?=some p:=by simpa using hi
   cases j with
   | zero =>
    obtain rfl:r=q:=by simpa using hj
    exact absurd rfl (h3 a hq a (List.mem_flatten.2 ⟨p,List.mem_of_getElem? hi,hp⟩))
   | succ j =>
    have hj:P[j]?=some q:=by simpa using hj
    exact congrArg (· + 1) (rH h2 hi hj hp hq)
theorem mQ.le{n:Nat}{nx:Int→List Int}{P:List (List Int)}(h:mQ n nx P){x y:Int}(hr:Rx nx x y){i:Nat}{p:List Int}(hi:P[i]?=some p)(hx:x∈p):∃(j:Nat) (q:List Int),j≤i∧P[j]?=some q∧y∈q:=by
 induction hr with
 | refl=>exact⟨i,p,Nat.le_refl _,hi,hx⟩
 | step _ hc ih =>
  obtain⟨j,q,h1,h2,h3⟩:=ih
  obtain⟨k,r,k1,k2,k3⟩:=h.Ci j q h2 _ h3 _ hc
  exact⟨k,r,Nat.le_trans k1 h1,k2,k3⟩
theorem UO{n:Int}{l:List aK}{a b:Int}:sM n l [a] b↔(0≤a∧a<n)∧Rx (au n l) a b:=by
 constructor
 ·intro h
  induction h with
  | root hm h1=>rw[List.mem_singleton.1 hm]at h1 ⊢;exact⟨h1,.refl _⟩
  | step _ hb ih=>exact⟨ih.1,.step ih.2 hb⟩
 ·rintro⟨ha,h⟩
  induction h with
  | refl=>exact .root (List.mem_singleton.2 rfl) ha
  | step _ hc ih=>exact .step ih hc
theorem Ap{n:Nat}{l:List aK}{a b:Int}:ku n l a b=true↔(0≤a∧a<n)∧Rx (au n l) a b:=by
 unfold ku
 rw[qf,OG,UO]
theorem PL(n:Nat)(l:List aK)(a:Int):(dr n l a).Pairwise (· < ·):=by
 unfold dr jv
 rw[List.pairwise_map]
 refine List.Pairwise.filter _ ?_
 exact List.pairwise_lt_range.imp fun h=>by omega
theorem DG{n:Nat}{l:List aK}{P:List (List Int)}(h:mQ n (au n l) P){p:List Int}{a:Int}(hp:p∈P)(ha:a∈p):dr n l a=p:=by
 obtain⟨i,hi⟩:=List.getElem?_of_mem hp
 have oJ:=h.node p hp a ha
 refine DM (PL ..) (h.vG p hp) fun z =>?_
 rw[CX]
 constructor
 ·rintro⟨k,hk,hb,rfl⟩
  rw[Bool.and_eq_true,Ap,Ap]at hb
  obtain⟨j,q,j1,j2,j3⟩:=h.le hb.1.2 hi ha
  obtain⟨k2,r,k3,k4,k5⟩:=h.le hb.2.2 j2 j3
  have:=rH h.nd hi k4 ha k5
  have:i=j:=by omega
  subst this
  rw[hi]at j2
  rw[Option.some.inj j2];exact j3
 ·intro hz
  have dH:=h.node p hp z hz
  refine⟨z.toNat,by omega,?_,by omega⟩
  rw[Int.toNat_of_nonneg dH.1,Bool.and_eq_true,Ap,Ap]
  exact⟨⟨oJ,h.GC p hp a ha z hz⟩,dH,h.GC p hp z hz a ha⟩
def iH(i:Int)(p:List Int)(w:List Int):List Int:=p.foldl (fun w a=>w.set a.toNat i) w
def jY(P:List (List Int)):Nat→List Int→List Int
 | 0,w=>w
 | k+1,w=>iH k (P.getD k []) (jY P k w)
def aW(n:Nat)(P:List (List Int)):List Int:=jY P P.length (List.replicate n 0)
theorem zG(i:Int):∀(p w:List Int),(iH i p w).length=w.length
 | [],_=>rfl
 | a::p,w=>by
  show (iH i p (w.set a.toNat i)).length=_
  rw[zG i p,List.length_set]
theorem wo(P:List (List Int)):∀(k:Nat) (w:List Int),(jY P k w).length=w.length
 | 0,_=>rfl
 | k+1,w=>by
  show (iH k (P.getD k []) (jY P k w)).length=_
  rw[zG,wo P k]
theorem Hj(n:Nat)(P:List (List Int)):(aW n P).length=n:=by unfold aW;rw[wo,List.length_replicate]
theorem JY(i:Int){a:Int}(ha:0≤a):∀(p w:List Int),(∀z∈p,0≤z)→a.toNat<w.length→(iH i p w).getD a.toNat 0=if a∈p then i else w.getD a.toNat 0
 | [],w,_,_=>by simp[iH]
 | z::p,w,hp,hw=>by
  show (iH i p (w.set z.toNat i)).getD a.toNat 0=_
  have hz:=hp z (List.mem_cons_self ..)
  rw[JY i ha p _ (fun y hy=>hp y (List.mem_cons_of_mem _ hy)) (by rw[List.length_set];exact hw),jP]
  by_cases h1:a∈p
  ·rw[if_pos h1,if_pos (List.mem_cons_of_mem _ h1)]
  ·rw[if_neg h1]
   by_cases h2:a=z
   ·rw[if_pos ⟨by omega,hw⟩,if_pos (by rw[h2];exact List.mem_cons_self ..)]
   ·rw[if_neg (by omega),if_neg (by rw[List.mem_cons];exact fun h=>h.elim h2 h1)]
theorem qh{P:List (List Int)}{i:Nat}{p:List Int}(h:P[i]?=some p):P.getD i []=p:=by rw[List.getD_eq_getElem?_getD,h];rfl
theorem JX{n:Nat}{nx:Int→List Int}{P:List (List Int)}(h:mQ n nx P){i:Nat}{p:List Int}(hi:P[i]?=some p){a:Int}(ha:a∈p):∀k,k≤P.length→i<k→(jY P k (List.replicate n 0)).getD a.toNat 0=i
 | 0,_,hk=>absurd hk (Nat.not_lt_zero _)
 | k+1,j6,hk=>by
  have oJ:=h.node p (List.mem_of_getElem? hi) a ha
  obtain⟨q,hq⟩:∃q,P[k]?=some q:=⟨P[k],List.getElem?_eq_getElem (by omega)⟩
  show (iH k (P.getD k []) _).getD a.toNat 0=_
  rw[qh hq,JY k oJ.1 _ _ (fun z hz=>(h.node q (List.mem_of_getElem? hq) z hz).1) (by rw[wo,List.length_replicate];omega)]
  by_cases hm:a∈q
  ·rw[if_pos hm,rH h.nd hi hq ha hm]
  ·rw[if_neg hm]
   have:i≠k:=fun e=>by subst e;rw[hi]at hq;exact hm (Option.some.inj hq▸ha)
   exact JX h hi ha k (by omega) (by omega)
theorem SL{n:Nat}{nx:Int→List Int}{P:List (List Int)}(h:mQ n nx P){i:Nat}{p:List Int}(hi:P[i]?=some p){a:Int}(ha:a∈p):(aW n P).getD a.toNat 0=i:=
 JX h hi ha P.length (Nat.le_refl _) (List.getElem?_eq_some_iff.1 hi).1
def kf(l:List aK)(W:List Int)(T:List Bool)(i:Int):Bool:= !T.getD i.toNat false && !l.any fun x=>decide (W.getD x.2.1.toNat 0=i) && decide (W.getD x.1.toNat 0≠i) && !T.getD (W.getD x.1.toNat 0).toNat false
def fm(P:List (List Int))(i:Nat):Int:=(P.getD i []).headD 0
def dM(P:List (List Int))(l:List aK)(W:List Int)(T:List Bool):Nat→Int
 | 0 => -1
 | k+1=>if kf l W T k=true∧(dM P l W T k<0∨fm P k<fm P (dM P l W T k).toNat) then k else dM P l W T k
theorem zO(P:List (List Int))(l:List aK)(W:List Int)(T:List Bool):∀k:Nat,(dM P l W T k = -1∧∀i:Nat,i<k→kf l W T i=false)∨∃b:Nat,dM P l W T k=b∧b<k∧kf l W T b=true∧∀i:Nat,i<k→kf l W T i=true→fm P b≤fm P i
 | 0=>.inl ⟨rfl,fun _ h=>absurd h (Nat.not_lt_zero _)⟩
 | k+1=>by
  have ih:=zO P l W T k
  by_cases c:kf l W T k=true∧(dM P l W T k<0∨fm P k<fm P (dM P l W T k).toNat)
  ·have e:dM P l W T (k+1)=k:=if_pos c
   rw[e]
   refine .inr ⟨k,rfl,by omega,c.1,fun i hi hf =>?_⟩
   by_cases yJ:i=k
   ·subst yJ;exact Int.le_refl _
   ·rcases ih with ⟨h1,h2⟩ | ⟨b,h1,h2,h3,h4⟩
    ·rw[h2 i (by omega)]at hf;cases hf
    ·have:=h4 i (by omega) hf
     rw[h1,Int.toNat_natCast]at c
     rcases c.2 with c | c
     ·omega
     ·omega
  ·have e:dM P l W T (k+1)=dM P l W T k:=if_neg c
   rw[e]
   rcases ih with ⟨h1,h2⟩ | ⟨b,h1,h2,h3,h4⟩
   ·refine .inl ⟨h1,fun i hi =>?_⟩
    by_cases yJ:i=k
    ·subst yJ
     exact Bool.eq_false_iff.2 fun hf=>c ⟨hf,.inl (by omega)⟩
    ·exact h2 i (by omega)
   ·refine .inr ⟨b,h1,by omega,h3,fun i hi hf =>?_⟩
    by_cases yJ:i=k
    ·subst yJ
     rw[h1,Int.toNat_natCast]at c
     exact Int.not_lt.1 fun ab=>c ⟨hf,.inr ab⟩
    ·exact h4 i (by omega) hf
def cj(P:List (List Int))(l:List aK)(W:List Int):Nat→List Bool×List (List Int)
 | 0=>(List.replicate P.length false,[])
 | k+1=>((cj P l W k).1.set (dM P l W (cj P l W k).1 P.length).toNat true,(cj P l W k).2++[P.getD (dM P l W (cj P l W k).1 P.length).toNat []])
def iU(n:Nat)(l:List aK)(told:List Int)(a:Nat):Bool:=decide ((dr n l a).headD 0=(a:Int)) && !fG told a && mZ l (dr n l a) told
def kP(n:Nat)(l:List aK):Nat→List (List Int)×List Int→List (List Int)×List Int
 | 0,s=>s
 | f+1,s=>if s.2.length<n then (match (List.range n).find? (iU n l s.2) with | none=>s | some a=>kP n l f (s.1++[dr n l a],s.2++dr n l a)) else s
def eI(n:Nat)(l:List aK):List (List Int):=(kP n l (n+1) ([],[])).1
theorem HG{p:Nat→Bool}{n a:Nat}(ha:a<n)(hp:p a=true)(h:∀b,b<a→p b=false):(List.range n).find? p=some a:=by
 rw[List.find?_range_eq_some]
 exact⟨hp,List.mem_range.2 ha,fun b hb=>by rw[h b hb];rfl⟩
structure kX(n:Nat)(l:List aK)(P:List (List Int)):Prop where
 ok:mQ n (au n l) P
 all:∀x:Int,0≤x→x<n→∃p∈P,x∈p
theorem kX.idx{n:Nat}{l:List aK}{P:List (List Int)}(h:kX n l P){x:Int}(hx:0≤x∧x<n):∃(i:Nat) (p:List Int),P[i]?=some p∧x∈p∧(aW n P).getD x.toNat 0=i:=by
 obtain⟨p,hp,nt⟩:=h.all x hx.1 hx.2
 obtain⟨i,hi⟩:=List.getElem?_of_mem hp
 exact⟨i,p,hi,nt,SL h.ok hi nt⟩
theorem sU{P:List (List Int)}{i:Nat}{p:List Int}(h:P[i]?=some p):i<P.length:=(List.getElem?_eq_some_iff.1 h).1
structure OI(P:List (List Int))(k:Nat)(T:List Bool)(out:List (List Int)):Prop where
 tl:T.length=P.length
 ol:out.length=k
 aM:T.countP id=k
 mem:∀q,q∈out↔∃i:Nat,T.getD i false=true∧P[i]?=some q
 nd:out.flatten.Nodup
theorem Iz{n:Nat}{l:List aK}{P:List (List Int)}(h:kX n l P)(hr:∀e∈l,(0≤e.1∧e.1<(n:Int))∧0≤e.2.1∧e.2.1<(n:Int)){k:Nat}{T:List Bool}{out:List (List Int)}(hO:OI P k T out){i:Nat}{p:List Int}(hi:P[i]?=some p):kf l (aW n P) T i=true↔T.getD i false=false∧mZ l p out.flatten=true:=by
 unfold kf mZ
 rw[Int.toNat_natCast,Bool.and_eq_true,Bool.not_eq_true',Bool.not_eq_true',List.any_eq_false,List.all_eq_true]
 refine and_congr_right fun _ =>?_
 refine forall_congr' fun e =>?_
 refine forall_congr' fun he =>?_
 obtain⟨q1,q2⟩:=hr e he
 obtain⟨a,pa,ha,yC,wa⟩:=h.idx q1
 obtain⟨b,pb,hb,mI,wb⟩:=h.idx q2
 rw[wa,wb,Int.toNat_natCast]
 have cX:∀{j:Nat} {r:List Int} {x:Int},P[j]?=some r→x∈r→(fG p x=true↔j=i):=fun {j r x} hj hx=>by
  rw[qf]
  exact⟨fun hm=>rH h.ok.nd hj hi hx hm,fun e=>by subst e;rw[hi]at hj;rw[Option.some.inj hj];exact hx⟩
 have V8:fG out.flatten e.1=true↔T.getD a false=true:=by
  rw[qf,List.mem_flatten]
  constructor
  ·rintro⟨q,hq,hm⟩
   obtain⟨j,hj,mK⟩:=(hO.mem q).1 hq
   rw[rH h.ok.nd ha mK yC hm];exact hj
  ·intro ht
   exact⟨pa,(hO.mem pa).2 ⟨a,ht,ha⟩,yC⟩
 have h1:=cX ha yC
 have h2:=cX hb mI
 rw[Bool.and_eq_true,Bool.and_eq_true,decide_eq_true_eq,decide_eq_true_eq,Bool.not_eq_true',Bool.not_eq_true',Bool.and_eq_false_iff,Bool.and_eq_false_iff,Bool.not_eq_false',Bool.not_eq_false']
 have h3:fG p e.2.1=false↔b≠i:=by rw[← Bool.not_eq_true,h2]
 rw[V8,h1,h3,← Bool.not_eq_true]
 constructor
 ·intro hn
  by_cases c1:b=i
  ·by_cases c2:a=i
   ·exact .inl (.inr c2)
   ·exact .inr (by
     by_cases c3:T.getD a false=true
     ·exact c3
     ·exact absurd ⟨⟨by omega,by omega⟩,c3⟩ hn)
  ·exact .inl (.inl c1)
 ·rintro ((c | c) | c) ⟨⟨d1,d2⟩,d3⟩
  ·exact c (by omega)
  ·exact d2 (by omega)
  ·exact d3 c
theorem count_set{T:List Bool}{i:Nat}(hi:i<T.length)(h:T.getD i false=false):(T.set i true).countP id=T.countP id+1:=by
 induction T generalizing i with
 | nil=>simp at hi
 | cons t T ih =>
  cases i with
  | zero =>
   have:t=false:=h
   subst this
   simp
  | succ i =>
   have:=ih (i:=i) (by simpa using hi) h
   rw[List.set_cons_succ,List.countP_cons,List.countP_cons,this];omega
theorem O1:∀{T:List Bool},T.countP id<T.length→∃i,i<T.length∧T.getD i false=false∧∀j,i<j→j<T.length→T.getD j false=true:=by
 intro T
 induction T with
 | nil=>intro h;simp at h
 | cons t T ih =>
  intro h
  rw[List.countP_cons,List.length_cons]at h
  by_cases c:T.countP id<T.length
  ·obtain⟨i,h1,h2,h3⟩:=ih c
   refine⟨i+1,by rw[List.length_cons];omega,h2,fun j hj hl =>?_⟩
   cases j with
   | zero=>omega
   | succ j=>exact h3 j (by omega) (by rw[List.length_cons]at hl;omega)
  ·have ht:t=false:=by
    cases t with
    | false=>rfl
    | true=>simp at h;omega
   subst ht
   have bH:T.countP id=T.length:=by have:=List.countP_le_length (p:=id) (l:=T);omega
   refine⟨0,by simp,rfl,fun j hj hl =>?_⟩
   cases j with
   | zero=>omega
   | succ j =>
    have hl:j<T.length:=by rw[List.length_cons]at hl;omega
    have:=List.countP_eq_length.1 bH _ (List.getElem_mem hl)
    show T.getD j false=true
    rw[List.getD_eq_getElem?_getD,List.getElem?_eq_getElem hl];exact this
theorem wI{n:Nat}{nx:Int→List Int}{P:List (List Int)}(h:mQ n nx P):P.length≤n∧P.flatten.length≤n:=by
 have h1:P.flatten.length≤n:=wK n _ h.nd fun z hz=>by
  obtain⟨p,hp,hz⟩:=List.mem_flatten.1 hz
  exact h.node p hp z hz
 refine⟨Nat.le_trans ?_ h1,h1⟩
 have:=h.ne
 clear h h1
 induction P with
 | nil=>exact Nat.le_refl _
 | cons p P ih =>
  have h1:=List.length_pos_iff.2 (this p (List.mem_cons_self ..))
  have h2:=ih fun q hq=>this q (List.mem_cons_of_mem _ hq)
  rw[List.flatten_cons,List.length_append,List.length_cons];omega
theorem Dm{n:Nat}{l:List aK}{P:List (List Int)}(h:kX n l P)(hr:∀e∈l,(0≤e.1∧e.1<(n:Int))∧0≤e.2.1∧e.2.1<(n:Int)){k:Nat}(hk:k<P.length){T:List Bool}{out:List (List Int)}(hO:OI P k T out):
  ∃(b:Nat) (p:List Int),dM P l (aW n P) T P.length=b∧P[b]?=some p∧OI P (k+1) (T.set b true) (out++[p])∧out.flatten.length<n∧∃a:Nat,(List.range n).find? (iU n l out.flatten)=some a∧dr n l a=p:=by
 obtain⟨i,F6,vT,hi3⟩:=O1 (T:=T) (by rw[hO.aM,hO.tl];exact hk)
 rw[hO.tl]at F6 hi3
 obtain⟨pi,hpi⟩:∃p,P[i]?=some p:=⟨P[i],List.getElem?_eq_getElem F6⟩
 have LO:kf l (aW n P) T i=true:=by
  unfold kf
  rw[Int.toNat_natCast,vT,Bool.and_eq_true]
  refine⟨rfl,?_⟩
  rw[Bool.not_eq_true']
  refine List.any_eq_false.2 fun e he =>?_
  obtain⟨q1,q2⟩:=hr e he
  obtain⟨a,pa,ha,yC,wa⟩:=h.idx q1
  obtain⟨b,pb,hb,mI,wb⟩:=h.idx q2
  rw[wa,wb,Int.toNat_natCast,Bool.and_eq_true,Bool.and_eq_true,decide_eq_true_eq,decide_eq_true_eq,Bool.not_eq_true']
  rintro⟨⟨d1,d2⟩,d3⟩
  obtain⟨j,q,j1,j2,j3⟩:=h.ok.Ci a pa ha e.1 yC e.2.1 (iv.2 ⟨q2,q1,e,he,rfl,rfl⟩)
  have:=rH h.ok.nd hb j2 mI j3
  rw[hi3 a (by omega) (sU ha)]at d3
  cases d3
 rcases zO P l (aW n P) T P.length with ⟨_,qY⟩ | ⟨b,hb,nE,hbf,oH⟩
 ·rw[qY i F6]at LO;cases LO
 obtain⟨p,hp⟩:∃p,P[b]?=some p:=⟨P[b],List.getElem?_eq_getElem nE⟩
 have ey:=List.mem_of_getElem? hp
 obtain⟨rf,hbF⟩:=(Iz h hr hO hp).1 hbf
 have vP:p ∉ out:=fun hm=>by
  obtain⟨j,hj,mK⟩:=(hO.mem p).1 hm
  obtain⟨z,hz⟩:=List.exists_mem_of_ne_nil _ (h.ok.ne p ey)
  rw[rH h.ok.nd hp mK hz hz,hj]at rf;cases rf
 have My:∀z∈p,z ∉ out.flatten:=fun z hz hm=>by
  obtain⟨q,hq,FF⟩:=List.mem_flatten.1 hm
  obtain⟨j,hj,mK⟩:=(hO.mem q).1 hq
  rw[rH h.ok.nd hp mK hz FF,hj]at rf;cases rf
 have bC:(out.flatten++p).Nodup:=List.nodup_append.2 ⟨hO.nd,(h.ok.vG p ey).imp fun h=>by omega,fun x hx y hy e=>My y hy (e▸hx)⟩
 have qp:∀z∈out.flatten++p,0≤z∧z<(n:Int):=fun z hz=>by
  rcases List.mem_append.1 hz with hz | hz
  ·obtain⟨q,hq,FF⟩:=List.mem_flatten.1 hz
   obtain⟨j,_,mK⟩:=(hO.mem q).1 hq
   exact h.ok.node q (List.mem_of_getElem? mK) z FF
  ·exact h.ok.node p ey z hz
 have hlen:=wK n _ bC qp
 rw[List.length_append]at hlen
 have nw:=List.length_pos_iff.2 (h.ok.ne p ey)
 refine⟨b,p,hb,hp,⟨by rw[List.length_set];exact hO.tl,by rw[List.length_append,hO.ol];rfl,by rw[count_set (by rw[hO.tl];exact nE) rf,hO.aM],fun q =>?_,by rw[List.flatten_append];simpa using bC⟩,by omega,?_⟩
 ·rw[List.mem_append,List.mem_singleton,hO.mem]
  constructor
  ·rintro (⟨j,hj,mK⟩ | rfl)
   ·exact⟨j,by rw[wB];split;rfl;exact hj,mK⟩
   ·exact⟨b,by rw[wB,if_pos ⟨rfl,by rw[hO.tl];exact nE⟩],hp⟩
  ·rintro⟨j,hj,mK⟩
   rw[wB]at hj
   by_cases e:b=j
   ·subst e;rw[hp]at mK;exact .inr (Option.some.inj mK).symm
   ·rw[if_neg (fun h=>e h.1)]at hj
    exact .inl ⟨j,hj,mK⟩
 have LM:∀{j:Nat} {q:List Int},P[j]?=some q→fm P j∈q∧fm P j=q.headD 0∧∀z∈q,fm P j≤z:=fun {j q} hj=>by
  have aS:=h.ok.ne q (List.mem_of_getElem? hj)
  have hs:=h.ok.vG q (List.mem_of_getElem? hj)
  unfold fm
  rw[qh hj]
  cases q with
  | nil=>exact absurd rfl aS
  | cons z q =>
   refine⟨List.mem_cons_self ..,rfl,fun y hy =>?_⟩
   rcases List.mem_cons.1 hy with rfl | hy
   ·exact Int.le_refl _
   ·have:=(List.pairwise_cons.1 hs).1 y hy
    show z≤y
    omega
 obtain⟨m1,m2,_⟩:=LM hp
 have hhn:=h.ok.node p ey _ m1
 refine⟨(fm P b).toNat,HG (by omega) ?_ fun a' Ca=>Bool.eq_false_iff.2 fun hc =>?_,?_⟩
 ·unfold iU
  rw[Int.toNat_of_nonneg hhn.1,DG h.ok ey m1,hbF,Bool.and_true,Bool.and_eq_true,decide_eq_true_eq,Bool.not_eq_true']
  exact⟨m2.symm,Bool.eq_false_iff.2 fun hm=>My _ m1 (qf.1 hm)⟩
 ·unfold iU at hc
  rw[Bool.and_eq_true,Bool.and_eq_true,decide_eq_true_eq,Bool.not_eq_true']at hc
  obtain⟨⟨c1,c2⟩,c3⟩:=hc
  obtain⟨j,q,hj,hq,_⟩:=h.idx (x:=(a':Int)) (by omega)
  rw[DG h.ok (List.mem_of_getElem? hj) hq]at c1 c3
  obtain⟨_,m4,_⟩:=LM hj
  have hjT:T.getD j false=false:=Bool.eq_false_iff.2 fun ht=>by
   have:fG out.flatten a'=true:=qf.2 (List.mem_flatten.2 ⟨q,(hO.mem q).2 ⟨j,ht,hj⟩,hq⟩)
   rw[this]at c2;cases c2
  have:=oH j (sU hj) ((Iz h hr hO hj).2 ⟨hjT,c3⟩)
  rw[m4,c1]at this
  omega
 ·rw[Int.toNat_of_nonneg hhn.1];exact DG h.ok ey m1
theorem As{n:Nat}{l:List aK}{P:List (List Int)}(h:kX n l P)(hr:∀e∈l,(0≤e.1∧e.1<(n:Int))∧0≤e.2.1∧e.2.1<(n:Int)):∀k,k≤P.length→OI P k (cj P l (aW n P) k).1 (cj P l (aW n P) k).2∧(k<P.length→∃b:Nat,dM P l (aW n P) (cj P l (aW n P) k).1 P.length=b∧b<P.length)∧∀f,kP n l (k+f) ([],[])=kP n l f ((cj P l (aW n P) k).2,(cj P l (aW n P) k).2.flatten):=by
 intro k
 induction k with
 | zero =>
  intro _
  have qY:∀i,¬((List.replicate P.length false).getD i false=true):=fun i h1=>by
   rw[List.getD_eq_getElem?_getD,List.getElem?_replicate]at h1
   split at h1 <;> cases h1
  have h0:OI P 0 (List.replicate P.length false) []:=⟨List.length_replicate,rfl,(by rw[List.countP_eq_zero];intro x hx;rw[List.eq_of_mem_replicate hx];simp),fun q=>⟨fun h=>absurd h (by simp),fun ⟨i,h1,_⟩=>absurd h1 (qY i)⟩,List.nodup_nil⟩
  refine⟨h0,fun hk =>?_,fun f=>by rw[Nat.zero_add];rfl⟩
  obtain⟨b,p,hb,hp,_⟩:=Dm h hr hk h0
  exact⟨b,hb,sU hp⟩
 | succ k ih =>
  intro hk
  obtain⟨hO,_,hf⟩:=ih (by omega)
  obtain⟨b,p,hb,hp,sE,ab,a,ha,ri⟩:=Dm h hr (by omega) hO
  have e1:(cj P l (aW n P) (k+1)).1=(cj P l (aW n P) k).1.set b true:=by
   show (cj P l (aW n P) k).1.set (dM P l (aW n P) (cj P l (aW n P) k).1 P.length).toNat true=_
   rw[hb,Int.toNat_natCast]
  have e2:(cj P l (aW n P) (k+1)).2=(cj P l (aW n P) k).2++[p]:=by
   show (cj P l (aW n P) k).2++[P.getD (dM P l (aW n P) (cj P l (aW n P) k).1 P.length).toNat []]=_
   rw[hb,Int.toNat_natCast,qh hp]
  rw[e1,e2]
  refine⟨sE,fun cD =>?_,fun f =>?_⟩
  ·obtain⟨b2,p2,sA,cg,_⟩:=Dm h hr cD sE
   exact⟨b2,sA,sU cg⟩
  ·rw[show k+1+f=k+(f+1) by omega,hf]
   show (if _ then _ else _)=_
   rw[if_pos ab,ha]
   show kP n l f (_++[dr n l a],_++dr n l a)=_
   rw[ri,List.flatten_append];simp
theorem D4{n:Nat}{l:List aK}{P:List (List Int)}(h:kX n l P)(hr:∀e∈l,(0≤e.1∧e.1<(n:Int))∧0≤e.2.1∧e.2.1<(n:Int)):(cj P l (aW n P) P.length).2=eI n l:=by
 obtain⟨hO,_,hf⟩:=As h hr P.length (Nat.le_refl _)
 have hl:=(wI h.ok).1
 have hf:=hf (n+1-P.length)
 rw[show P.length+(n+1-P.length)=n+1 by omega]at hf
 unfold eI
 rw[hf]
 obtain⟨f,hfe⟩:∃f,n+1-P.length=f+1:=⟨n-P.length,by omega⟩
 rw[hfe]
 show _=(if _ then _ else _:List (List Int)×List Int).1
 have bH:∀i,i<P.length→(cj P l (aW n P) P.length).1.getD i false=true:=fun i hi=>by
  have hc:(cj P l (aW n P) P.length).1.countP id=(cj P l (aW n P) P.length).1.length:=by rw[hO.aM,hO.tl]
  have:=List.countP_eq_length.1 hc _ (List.getElem_mem (n:=i) (by rw[hO.tl];exact hi))
  rw[List.getD_eq_getElem?_getD,List.getElem?_eq_getElem (by rw[hO.tl];exact hi)];exact this
 have jE:∀x∈(List.range n).map (fun i:Nat=>(i:Int)),x∈(cj P l (aW n P) P.length).2.flatten:=fun x hx=>by
  obtain⟨i,hi,rfl⟩:=List.mem_map.1 hx
  have hi:=List.mem_range.1 hi
  obtain⟨j,p,hj,hp,_⟩:=h.idx (x:=(i:Int)) (by omega)
  exact List.mem_flatten.2 ⟨p,(hO.mem p).2 ⟨j,bH j (sU hj),hj⟩,hp⟩
 have aq:=Dh (l:=(List.range n).map (fun i:Nat=>(i:Int))) (by rw[List.nodup_iff_pairwise_ne,List.pairwise_map];exact List.pairwise_lt_range.imp fun h=>by omega) jE
 rw[List.length_map,List.length_range]at aq
 rw[if_neg (by show ¬((cj P l (aW n P) P.length).2.flatten.length<n);omega)]
end Go.Proofs.YtnpidbjdilnhlaaGreat
