import Derived.Test.YtnikdflhefijbaaGreatBn11
import Derived.Test.YtnikdflhefijbaaGreatBn35
import Derived.Test.YtnikdflhefijbaaGreatBn20
import Derived.Test.YtnikdflhefijbaaGreatBn33
import Derived.Test.YtnikdflhefijbaaGreatBn21
import Derived.Test.YtnikdflhefijbaaGreatBn24
import Derived.Test.YtnikdflhefijbaaGreatBn25
namespace Go.Proofs.YtnikdflhefijbaaGreat
open Go.RowKit
set_option maxRecDepth 100000
theorem ag7{t t':Tm}{b off len es:Nat}{e:Sh}{l:List e.T}(k:Nat)(h:t k=.via (.ae b off len es))(h':t'=eC t [(k,.af e l)])(i:Nat):ew b off len es e l (t i) (t' i):=by
 subst h'
 show ew b off len es e l (t i) (match Nat.beq i k with | true=>.af e l | false=>t i)
 cases hb:Nat.beq i k with
 |true=>rw[jx hb,h];exact .via .here
 |false=>exact .refl _
theorem afu{t t':Tm}(e:Sh)(k:Nat)(h:t k=.via .aj)(h':t'=eC t [(k,.af e [])])(i:Nat):ew 0 0 0 0 .bool [] (t i) (t' i):=by
 subst h'
 show ew 0 0 0 0 .bool [] (t i) (match Nat.beq i k with | true=>.af e [] | false=>t i)
 cases hb:Nat.beq i k with
 |true=>rw[jx hb,h];exact .via (.nil e)
 |false=>exact .refl _
theorem my.acc{body:Tm→Hp→(Ex→Tm→Hp→Prop)→Prop}{Q:Ex→Tm→Hp→Prop}{t:Tm}(j:Nat)(fr:Hp){acc σ:Hp}{s:Sh}{k:Nat}{v:AV}{cs:List AV}{l:List s.T}(h:Acc s.size k v acc cs)(ht:t j=.via v)(hl:k=l.length)(hc:cs=l.flatMap s.cells)(hp:0<s.size)
  (go:my body Q (eC t [(j,.af s l)]) (fr++σ)):my body Q t (fr++(acc++σ)):=by
 cases h with
 |nil=>
  have ib:l=[]:=jP.1 hl.symm
  subst ib
  exact .nil (afu s j ht rfl) go
 |ae b k cs h=>
  refine .dJ (.perm (zN fr [(b,cs)] σ) (.refl _)) ?_
  exact .cI 0 b 0 k s.size cs s l rfl (by rw[gR,eI (by omega)];exact hc) ⟨hl.symm,rfl,hp⟩ (ag7 j ht rfl) go
theorem aaB{R:AV→Hp→Prop}(fr:Hp){acc σ:Hp}{s:Sh}{k:Nat}{v x:AV}{cs:List AV}{l:List s.T}(h:Acc s.size k v acc cs)(hl:k=l.length)(hc:cs=l.flatMap s.cells)(hp:0<s.size)(go:Fin R (.tup [.af s l,x]) (fr++σ)):Fin R (.tup [v,x]) (fr++(acc++σ)):=by
 subst hl
 have hlen:=h.length
 refine .perm (zN fr acc σ) ?_
 generalize hk:l.length=k at h
 cases h with
 |nil=>
  obtain rfl:=jP.1 hk
  exact .nil (cJ (.nil _) (.refl _)) go
 |ae b k cs h=>
  subst hk
  exact .cI 0 b 0 l.length s.size cs s l rfl (by rw[gR,eI (by omega)];exact hc) ⟨rfl,rfl,hp⟩ (cJ .here (.refl _)) go
theorem XL{R:AV→Hp→Prop}{r:AV}(a:Hp){σ:Hp}(h:Fin R r σ):Fin R r (a++σ):=.drop 0 a.length (by rw[List.take_zero,eF,List.drop_left];exact h)
set_option maxHeartbeats 4000000
theorem Xa{P:Program}{f:FuncId}{a b:List AV}{v:AV}{σ:Hp}{R:AV→Hp→Prop}(hl:v.leaf=true)(h:ACalls P f (a++.via v::b) σ R):ACalls P f (a++v::b) σ R:=by
 refine⟨h.1,fun F w vs bU aF=>h.2 F w vs ⟨by rw[← bU.1];simp,fun i x hx=>?_⟩ aF⟩
 rcases Nat.lt_trichotomy i a.length with hi | hi | hi
 ·rw[kf hi]at hx
  exact bU.2 i x (by rw[kf hi];exact hx)
 ·subst hi
  rw[iJ (aU _),pG]at hx
  cases hx
  exact .via v _ hl (bU.2 a.length v (by rw[iJ (aU _),pG];rfl))
 ·obtain⟨j,rfl⟩:∃j,i=a.length+(j+1):=⟨i-a.length-1,by omega⟩
  rw[iJ (by omega),show a.length+(j+1)-a.length=j+1 by omega]at hx
  exact bU.2 _ x (by rw[iJ (by omega),show a.length+(j+1)-a.length=j+1 by omega];exact hx)
theorem Acc.leaf{e k:Nat}{v:AV}{acc:Hp}{cs:List AV}(h:Acc e k v acc cs):v.leaf=true:=by cases h <;> rfl
structure xH(n:Nat)(met:List Bool)(out:List Int):Prop where
 nq:sb n met out
 nd:out.Nodup
 rg:∀x∈out,0≤x∧x<(n:Int)
theorem Uk(n:Nat)(l:List bC)(a:Int)(met:List Bool)(out:List Int)(bm:Nat)(vo:AV)(uY σ:Hp)(hl:l.length≤100000)(hn:n≤1000)(ha:0≤a∧a<n)(h:xH n met out)(hO:Acc 1 out.length vo uY (ao out)):
  ACalls Tryz.prog 311 [.af (.slice (.int .i64)) (bS n l),.ae bm 0 n 1,.int .i64 a,vo] ((bm,bK met)::(uY++σ))
   (fun r σ'=>∃ra kS rf qW,kS=out++gL (au n l) (n+1) a out∧xH n ra kS∧Acc 1 kS.length rf qW (ao kS)∧r=.via rf∧σ'=(bm,bK ra)::(qW++σ)):=
 X1 (R:=fun r σ'=>∃ra kS rf qW,kS=out++gL (au n l) (n+1) a out∧xH n ra kS∧Acc 1 kS.length rf qW (ao kS)∧r=rf∧σ'=(bm,bK ra)::(qW++σ)) (Xa (a:=[_,_,_]) (b:=[]) hO.leaf ((acQ n l a met out bm vo uY σ hl hn ha h.nq h.nd h.rg hO).mono fun _ _ ⟨ra,kS,rf,qW,h1,h2,h3,h4,h5,h6,h7⟩=>⟨ra,kS,rf,qW,h1,⟨h2,h3,h4⟩,h5,h6,h7⟩)) fun r σ' ⟨ra,kS,rf,qW,h1,h2,h3,h4,h5⟩=>⟨h4▸h3.leaf,ra,kS,rf,qW,h1,h2,h3,by rw[h4],h5⟩
theorem afj(bn:Nat)(n:Nat)(x:Int)(σ:Hp):ACalls Tryz.prog 337 [.int .i64 x,.ptr bn 0] ((bn,[.int .i64 n])::σ) (aE (.bool (decide (x<0∨(n:Int)≤x))) ((bn,[.int .i64 n])::σ)):=by
 refine ay Tryz.func337 ?_
 refine an (fun c1=>?_) (fun c1=>?_)
 ·have c1:x<0:=c1
  exact .done ⟨congrArg AV.bool (aV (by omega)).symm,rfl⟩
 ·have c1:¬(x<0):=c1
  refine aa 0 ?_
  refine an (fun c2=>?_) (fun c2=>?_)
  ·have c2:(↑n:Int)≤x:=c2
   exact .done ⟨congrArg AV.bool (aV (by omega)).symm,rfl⟩
  ·have c2:¬((↑n:Int)≤x):=c2
   exact .done ⟨congrArg AV.bool (bR (by omega)).symm,rfl⟩
theorem adg(bn n:Nat)(L:List Int)(σ:Hp)(hl:L.length≤1000000)(hL:∀x∈L,0≤x∧x<(n:Int)):ACalls Tryz.prog 345 [.af (.int .i64) L,.fn (.func 337) [] [.ptr bn 0]] ((bn,[.int .i64 n])::σ) (aE (.int .i64 (-1)) ((bn,[.int .i64 n])::σ)):=by
 refine ay Tryz.func345 ?_
 refine bV (S:=Nat) (fun k=>[(0,.af (.int .i64) L),(1,.fn (.func 337) [] [.ptr bn 0]),(7,.int .i64 L.length),(8,.int .i64 k)]) (fun _=>(bn,[.int .i64 n])::σ) (fun k=>k≤L.length) (fun k=>L.length-k) 0 ⟨bA _,⟨rfl,rfl,rfl,rfl,trivial⟩,rfl⟩ ?_
 intro k g aL
 have hk:k≤L.length:=aL
 refine an (p:=(k:Int)<L.length) (fun ab=>?_) (fun ar=>?_)
 ·have ab:k<L.length:=by omega
  have hx:=hL _ (bX ab)
  refine ag.mk rfl (bG.mk L[k] (by omega) (get_some ab) ?_)
  refine eb [] (afj bn n L[k] σ) (fun c=>?_) (fun _=>?_)
  ·have c:=fm c;omega
  ·exact a8 (k+1) (by show L.length-(k+1)<L.length-k;omega) ab ⟨rfl,rfl,rfl,aX (by omega),trivial⟩ (.refl _)
 ·exact .done ⟨rfl,rfl⟩
theorem adh(bn n:Nat)(L:List Int)(σ:Hp)(hl:L.length≤1000000)(hL:∀x∈L,0≤x∧x<(n:Int)):ACalls Tryz.prog 336 [.af (.int .i64) L,.fn (.func 337) [] [.ptr bn 0]] ((bn,[.int .i64 n])::σ) (aE (.bool false) ((bn,[.int .i64 n])::σ)):=by
 refine ay Tryz.func336 ?_
 refine az [] (adg bn n L σ hl hL) ?_
 exact .done ⟨rfl,rfl⟩
theorem abj(n:Nat)(l:List bC)(fr:List Int)(σ:Hp)(hl:l.length≤100000)(hf:fr.length≤100000)(dQ:fe n l=true)(tI:∀x∈fr,0≤x∧x<(n:Int)):ACalls Tryz.prog 310 [.int .i64 n,.af dv l,.af (.int .i64) fr] σ (aE (.int .i64 0) σ):=by
 refine ay Tryz.func310 ?_
 intro aD
 refine aa 0 ?_
 refine eb [] (CN n l _ (by omega)) (fun _=>?_) (fun c=>absurd c (by rw[dQ];decide))
 refine az [] (adh aD n fr σ (by omega) tI) ?_
 exact .drop 0 1 (.done ⟨rfl,rfl⟩)
def pY(n:Nat)(l:List bC)(fr:List Int):List Int:=rT n (au n l) (fr++(List.range n).map fun a:Nat=>(a:Int))
theorem PK(n:Nat)(nx:Int→List Int)(L:List Int)(a:Int):rT n nx (L++[a])=rT n nx L++gL nx (n+1) a (rT n nx L):=by unfold rT;rw[tS];rfl
theorem aff(n:Nat)(l:List bC)(fr:List Int)(σ:Hp)(hl:l.length≤100000)(hf:fr.length≤100000)(dQ:fe n l=true)(tI:∀x∈fr,0≤x∧x<(n:Int)):ACalls Tryz.prog 288 [.int .i64 n,.af dv l,.af (.int .i64) fr] σ (fun r σ'=>r=.tup [.af (.int .i64) (pY n l fr),.int .i64 0]∧σ'=σ∧(∃met,xH n met (pY n l fr))):=by
 have hn:1≤n∧n≤256:=by
  unfold fe at dQ
  simp only[bL,decide_eq_true_eq]at dQ
  omega
 have fK:∀k,(cy ((List.range k).map fun a:Nat=>au n l a)).length=k:=fun k=>by rw[uc,cd,oO]
 refine ay Tryz.func288 ?_
 refine az [] (abj n l fr _ hl hf dQ tI) ?_
 refine .wrap 9 .aj rfl rfl ?_
 refine bV (S:=Nat×AV×Hp) (fun x=>[(0,.int .i64 n),(1,.af dv l),(2,.af (.int .i64) fr),(9,.via x.2.1),(23,.int .i64 n),(24,.int .i64 x.1)]) (fun x=>x.2.2++σ) (fun x=>x.1≤n∧Acc 1 x.1 x.2.1 x.2.2 (cy ((List.range x.1).map fun a:Nat=>au n l a))) (fun x=>n-x.1) (0,.aj,[]) ⟨⟨bA _,.nil⟩,⟨rfl,rfl,rfl,rfl,rfl,rfl,trivial⟩,rfl⟩ ?_
 rintro⟨k,v,acc⟩ g ⟨hk,bY⟩
 have hk:k≤n:=hk
 have bY:Acc 1 k v acc (cy ((List.range k).map fun a:Nat=>au n l a)):=bY
 refine an (p:=(k:Int)<n) (fun ab=>?_) (fun ar=>?_)
 ·have ab:k<n:=by omega
  refine az [] (Aw n l k _ hl) ?_
  intro bs
  refine jU [_] bY (.ae 0 bs 0 1 _ rfl (cH rfl)) rfl (by omega) (by decide) (by decide) (fun v' bu h'=>?_)
  refine a8 (k+1,v',bu) (by show n-(k+1)<n-k;omega) ⟨ab,?_⟩ ⟨rfl,rfl,rfl,rfl,rfl,aX (by omega),trivial⟩ (.drop 0 1 (.refl _))
  show Acc 1 (k+1) v' bu (cy ((List.range (k+1)).map fun a:Nat=>au n l a))
  rw[tV,cS,show cy (List.map (fun a:Nat=>au n l a) (List.range k)++List.map (fun a:Nat=>au n l a) [k])=cy (List.map (fun a:Nat=>au n l a) (List.range k))++[.af (.int .i64) (au n l k)] from cS]
  exact h'
 ·have ar:n=k:=by omega
  subst ar
  have hlx:∀(c:Nat) (L:List Int) (x:Int),(∀x∈L,0≤x∧x<(n:Int))→L[c]?=some x→0≤x∧x<(n:Int):=fun c L x h hx=>h x (cq hx)
  have hnT:((n:Nat):Int).toNat=n:=bM n
  refine ag.mk ⟨by omega,by omega,by omega,by decide⟩ ?_
  intro bm
  refine .wrap 12 .aj rfl rfl ?_
  refine my.acc 9 [_] (s:=.slice (.int .i64)) bY rfl ((fK n).symm.trans (uc _)) (wh _) (by decide) ?_
  refine bV (S:=Nat×(List Bool×List Int)×(AV×Hp)) (fun x=>[(0,.int .i64 n),(9,.af (.slice (.int .i64)) (bS n l)),(11,.ae bm 0 n 1),(12,.via x.2.2.1),(37,.af (.int .i64) fr),(38,.int .i64 fr.length),(39,.int .i64 x.1)]) (fun x=>(bm,bK x.2.1.1)::(x.2.2.2++σ)) (fun x=>x.1≤fr.length∧xH n x.2.1.1 x.2.1.2∧x.2.1.2=rT n (au n l) (fr.take x.1)∧Acc 1 x.2.1.2.length x.2.2.1 x.2.2.2 (ao x.2.1.2)) (fun x=>fr.length-x.1) (0,(List.replicate n false,[]),(.aj,[])) ⟨⟨Nat.zero_le _,⟨⟨by simp,fun u hu=>by rw[List.getD_eq_getElem?_getD,List.getElem?_replicate,if_pos hu];rfl⟩,List.nodup_nil,fun x hx=>absurd hx (by simp)⟩,rfl,.nil⟩,⟨rfl,rfl,rfl,rfl,rfl,rfl,rfl,trivial⟩,by rw[show bK (List.replicate n false)=cE [.bool false] n from (Cn n).symm];rfl⟩ ?_
  rintro⟨j,⟨met,out⟩,⟨vo,ac⟩⟩ g ⟨hj,hP,ho,hO⟩
  have hj:j≤fr.length:=hj
  have hP:xH n met out:=hP
  have ho:out=rT n (au n l) (fr.take j):=ho
  have hO:Acc 1 out.length vo ac (ao out):=hO
  refine an (p:=(j:Int)<fr.length) (fun ab=>?_) (fun ar=>?_)
  ·have ab:j<fr.length:=by omega
   have hz:=tI _ (bX ab)
   refine ag.mk rfl (bG.mk fr[j] (by omega) (get_some ab) ?_)
   refine .mk [] _ (Uk n l fr[j] met out bm vo ac σ hl (by omega) hz hP hO) ?_
   rintro _ _ ⟨met2,Dk,qi,mN,h1,h2,h3,rfl,rfl⟩
   refine a8 (j+1,(met2,Dk),(qi,mN)) (by show fr.length-(j+1)<fr.length-j;omega) ⟨ab,h2,?_,h3⟩ ⟨rfl,rfl,rfl,rfl,rfl,rfl,aX (by omega),trivial⟩ (.refl _)
   show Dk=rT n (au n l) (fr.take (j+1))
   rw[fp ab,PK,← ho];exact h1
  ·have ar:¬(j:Int)<fr.length:=ar
   rw[eI (by omega)]at ho
   refine bV (S:=Nat×(List Bool×List Int)×(AV×Hp)) (fun x=>[(9,.af (.slice (.int .i64)) (bS n l)),(11,.ae bm 0 n 1),(12,.via x.2.2.1),(49,.int .i64 n),(50,.int .i64 x.1)]) (fun x=>(bm,bK x.2.1.1)::(x.2.2.2++σ)) (fun x=>x.1≤n∧xH n x.2.1.1 x.2.1.2∧x.2.1.2=rT n (au n l) (fr++(List.range x.1).map fun a:Nat=>(a:Int))∧Acc 1 x.2.1.2.length x.2.2.1 x.2.2.2 (ao x.2.1.2)) (fun x=>n-x.1) (0,(met,out),(vo,ac)) ⟨⟨Nat.zero_le _,hP,by rw[ho];simp,hO⟩,⟨rfl,rfl,rfl,rfl,rfl,trivial⟩,rfl⟩ ?_
   clear hP ho hO hj ar
   rintro⟨j,⟨met,out⟩,⟨vo,ac⟩⟩ g ⟨hj,hP,ho,hO⟩
   have hj:j≤n:=hj
   have hP:xH n met out:=hP
   have ho:out=rT n (au n l) (fr++(List.range j).map fun a:Nat=>(a:Int)):=ho
   have hO:Acc 1 out.length vo ac (ao out):=hO
   refine an (p:=(j:Int)<n) (fun ab=>?_) (fun ar=>?_)
   ·have ab:j<n:=by omega
    refine .mk [] _ (Uk n l j met out bm vo ac σ hl (by omega) ⟨by omega,by omega⟩ hP hO) ?_
    rintro _ _ ⟨met2,Dk,qi,mN,h1,h2,h3,rfl,rfl⟩
    refine a8 (j+1,(met2,Dk),(qi,mN)) (by show n-(j+1)<n-j;omega) ⟨ab,h2,?_,h3⟩ ⟨rfl,rfl,rfl,rfl,aX (by omega),trivial⟩ (.refl _)
    show Dk=rT n (au n l) (fr++(List.range (j+1)).map fun a:Nat=>(a:Int))
    rw[tV,cS,← dM,show List.map (fun a:Nat=>(a:Int)) [j]=[(j:Int)] from rfl,PK,← ho];exact h1
   ·have ar:n=j:=by omega
    subst ar
    have ho:out=pY n l fr:=ho
    rw[← ho]
    exact aaB [_] (s:=.int .i64) hO rfl (ug _) (by decide) (.drop 0 1 (.done ⟨rfl,rfl,met,hP⟩))
inductive xG(n:Int)(l:List bC)(fr:List Int):Int→Prop where
 |root {a:Int} (h:a∈fr) (h1:0≤a∧a<n):xG n l fr a
 |step {a b:Int} (h:xG n l fr a) (hb:b∈au n l a):xG n l fr b
theorem xG.node{n:Int}{l:List bC}{fr:List Int}{a:Int}(h:xG n l fr a):0≤a∧a<n:=by
 cases h with
 |root h h1=>exact h1
 |step h hb=>exact (lU.1 hb).1
theorem BT:∀(n:Nat) (l:List Int),l.Nodup→(∀z∈l,0≤z∧z<n)→l.length≤n
 | 0,[],_,_=>aU _
 | 0,z::l,_,h=>by have:=h z (cm ..);omega
 |n+1,l,hd,h=>by
  have h1:=BT n (l.filter fun z=>decide (z≠n)) (hd.filter _) fun z hz=>by
   obtain⟨q1,q2⟩:=nD.1 hz
   have:=h z q1
   have q2:=fm q2
   omega
  have h2:l.length≤(l.filter fun z=>decide (z≠(n:Int))).length+1:=by
   clear h h1
   induction l with
   |nil=>simp
   |cons z l ih=>
    have kd:=mc.1 hd
    by_cases hz:z=n
    ·subst hz
     have e:(((n:Int)::l).filter fun z=>decide (z≠(n:Int)))=l:=by
      rw[List.filter_cons_of_neg (by simp)]
      exact gu7.2 fun y hy=>aV fun e=>kd.1 (e▸hy)
     rw[e];simp
    ·have:=ih kd.2
     rw[List.filter_cons_of_pos (by simp[hz])]
     simp only[ie];omega
  omega
theorem YM{b:List Bool}{k:Nat}{a:Int}:a∈L2 b k↔(0≤a∧a<k)∧b.getD a.toNat false=true:=by
 unfold L2
 rw[dX]
 constructor
 ·rintro⟨i,hi,rfl⟩
  obtain⟨h1,h2⟩:=nD.1 hi
  exact⟨by have:=gw.1 h1;omega,h2⟩
 ·rintro⟨h1,h2⟩
  exact⟨a.toNat,nD.2 ⟨gw.2 (by omega),h2⟩,by omega⟩
theorem FL(b:List Bool)(i j:Nat):(b.set i true).getD j false=true↔(i=j∧i<b.length)∨b.getD j false=true:=by
 rw[aW,eR,aW]
 by_cases h:i=j
 ·subst h
  rw[ai rfl]
  by_cases h2:i<b.length
  ·rw[if_pos h2];simp[h2]
  ·rw[if_neg h2];simp[h2]
 ·rw[if_neg h];simp[h]
theorem YO{n:Int}{b:List Bool}{a:Int}(hb:(b.length:Int)=n)(j:Nat):(wP n b a).getD j false=true↔(0≤a∧a<n∧(j:Int)=a)∨b.getD j false=true:=by
 unfold wP
 by_cases h:0≤a∧a<n
 ·rw[ai h,FL]
  constructor
  ·rintro (⟨e,_⟩ | e)
   ·exact .inl ⟨h.1,h.2,by omega⟩
   ·exact .inr e
  ·rintro (⟨_,_,e⟩ | e)
   ·exact .inl ⟨by omega,by omega⟩
   ·exact .inr e
 ·rw[ah h]
  exact⟨.inr,fun h2=>by rcases h2 with h2 | h2;exact absurd ⟨h2.1,h2.2.1⟩ h;exact h2⟩
theorem J6{n:Int}:∀(fr:List Int) {b:List Bool},(b.length:Int)=n→∀j:Nat,(fr.foldl (wP n) b).getD j false=true↔((j:Int)∈fr∧(j:Int)<n)∨b.getD j false=true
 | [],b,_,j=>by simp
 |a::fr,b,hb,j=>by
  rw[IV,J6 fr (by rw[O3];exact hb) j,YO hb j,eG]
  constructor
  ·rintro (⟨h1,h2⟩ | ⟨h1,h2,h3⟩ | h)
   ·exact .inl ⟨.inr h1,h2⟩
   ·exact .inl ⟨.inl h3,by omega⟩
   ·exact .inr h
  ·rintro (⟨h1 | h1,h2⟩ | h)
   ·exact .inr (.inl ⟨by omega,by omega,h1⟩)
   ·exact .inl ⟨h1,h2⟩
   ·exact .inr (.inr h)
theorem Ju(n:Int):∀(fr:List Int) (b:List Bool),(fr.foldl (wP n) b).length=b.length
 | [],_=>rfl
 |a::fr,b=>by rw[IV,Ju n fr,O3]
def okB(n:Int)(l:List bC)(fr:List Int)(b:List Bool):Prop:=(b.length:Int)=n∧∀j:Nat,b.getD j false=true→xG n l fr j
theorem adS{n:Int}{l:List bC}{fr:List Int}{b:List Bool}{e:bC}(he:e∈l)(h:okB n l fr b):okB n l fr (rC n b e):=by
 unfold rC
 by_cases c:(0≤e.1∧e.1<n)∧(0≤e.2.1∧e.2.1<n)∧b.getD e.1.toNat false=true
 ·rw[ai c]
  refine⟨by rw[cM];exact h.1,fun j hj=>?_⟩
  rcases (FL _ _ _).1 hj with ⟨e1,_⟩ | hj
  ·have:=h.2 _ c.2.2
   refine .step this (lU.2 ⟨by omega,by omega,e,he,by omega,by omega⟩)
  ·exact h.2 j hj
 ·rw[ah c];exact h
theorem Rt{n:Int}{l:List bC}{fr:List Int}:∀(L:List bC) {b:List Bool},(∀e∈L,e∈l)→okB n l fr b→okB n l fr (L.foldl (rC n) b)
 | [],_,_,h=>h
 |e::L,_,hL,h=>Rt L (fun x hx=>hL x (cY _ hx)) (adS (hL e (cm ..)) h)
theorem T0{n:Int}{b:List Bool}{e:bC}{j:Nat}(h:b.getD j false=true):(rC n b e).getD j false=true:=by
 unfold rC
 split
 ·exact (FL _ _ _).2 (.inr h)
 ·exact h
theorem B4{n:Int}:∀(L:List bC) {b:List Bool} {j:Nat},b.getD j false=true→(L.foldl (rC n) b).getD j false=true
 | [],_,_,h=>h
 |_::L,_,_,h=>B4 L (T0 h)
theorem Ru{n:Int}:∀(L:List bC) {b:List Bool} {e:bC},(b.length:Int)=n→e∈L→(0≤e.1∧e.1<n)→(0≤e.2.1∧e.2.1<n)→b.getD e.1.toNat false=true→(L.foldl (rC n) b).getD e.2.1.toNat false=true
 |x::L,b,e,hb,he,h1,h2,h3=>by
  rcases eG.1 he with rfl | he
  ·refine B4 L ?_
   unfold rC
   rw[ai ⟨h1,h2,h3⟩]
   exact (FL _ _ _).2 (.inl ⟨rfl,by omega⟩)
  ·exact Ru L (by rw[PV];exact hb) he h1 h2 (T0 h3)
def uV(b:List Bool):Nat:=b.countP id
theorem KE:∀{b c:List Bool},b.length=c.length→(∀j:Nat,b.getD j false=true→c.getD j false=true)→uV b≤uV c∧(uV b=uV c→b=c)
 | [],[],_,_=>⟨aU _,fun _=>rfl⟩
 |x::b,y::c,hl,h=>by
  obtain⟨h1,h2⟩:=KE (b:=b) (c:=c) (by simpa using hl) fun j hj=>h (j+1) hj
  have h0:=h 0
  unfold uV at h1 h2 ⊢
  simp only[IY]
  cases x <;> cases y <;> simp at h0 ⊢
  ·exact⟨h1,h2⟩
  ·omega
  ·exact⟨h1,h2⟩
theorem Jt(n:Int):∀(L:List bC) (b:List Bool),(L.foldl (rC n) b).length=b.length
 | [],_=>rfl
 |e::L,b=>by rw[IV,Jt n L,PV]
theorem PH{n:Int}{l:List bC}{b:List Bool}(h:o0 n l b=b):∀k,ui n l k b=b
 | 0=>rfl
 |k+1=>by rw[rounds_succ,h];exact PH h k
theorem Pb{n:Int}{l:List bC}:∀(k:Nat) {b:List Bool},(b.length:Int)=n→b.length≤uV b+k→o0 n l (ui n l k b)=ui n l k b
 | 0,b,hb,hc=>by
  have hl:(o0 n l b).length=b.length:=Jt n l b
  have hu:=KE (b:=b) (c:=o0 n l b) hl.symm fun j hj=>B4 l hj
  have h2:uV (o0 n l b)≤(o0 n l b).length:=List.countP_le_length
  show o0 n l b=b
  exact (hu.2 (by omega)).symm
 |k+1,b,hb,hc=>by
  have hl:(o0 n l b).length=b.length:=Jt n l b
  have hu:=KE (b:=b) (c:=o0 n l b) hl.symm fun j hj=>B4 l hj
  by_cases h:o0 n l b=b
  ·rw[PH h];exact h
  ·rw[rounds_succ]
   refine Pb k (by rw[hl];exact hb) ?_
   have:uV b≠uV (o0 n l b):=fun e=>h (hu.2 e).symm
   omega
theorem PG{n:Int}{l:List bC}{fr:List Int}:∀(k:Nat) {b:List Bool},okB n l fr b→okB n l fr (ui n l k b)
 | 0,_,h=>h
 |k+1,_,h=>by rw[rounds_succ];exact PG k (Rt l (fun _ h=>h) h)
theorem Qr{n:Int}{l:List bC}:∀(k:Nat) {b:List Bool} {j:Nat},b.getD j false=true→(ui n l k b).getD j false=true
 | 0,_,_,h=>h
 |k+1,_,_,h=>by rw[rounds_succ];exact Qr k (B4 l h)
theorem Xz{n:Nat}{l:List bC}{fr:List Int}(a:Int):a∈Ls n l fr↔xG n l fr a:=by
 have ib:(((List.replicate n false).length:Nat):Int)=n:=by rw[gb]
 have aq:okB n l fr (fr.foldl (wP n) (List.replicate n false)):=by
  refine⟨by rw[Ju];exact ib,fun j hj=>?_⟩
  rcases (J6 fr ib j).1 hj with ⟨h1,h2⟩ | h
  ·exact .root h1 ⟨by omega,h2⟩
  ·rw[aW,vN]at h
   split at h <;> cases h
 have bH:okB n l fr (CJ n l fr):=PG _ aq
 have Dy:o0 n l (CJ n l fr)=CJ n l fr:=by
  refine Pb _ aq.1 ?_
  rw[Ju,gb,bM];omega
 unfold Ls
 rw[bM,YM]
 constructor
 ·rintro⟨h1,h2⟩
  have:=bH.2 _ h2
  rwa [lP h1.1]at this
 ·intro h
  refine⟨h.node,?_⟩
  induction h with
  | @root x hf hn=>
   refine Qr _ ((J6 fr ib _).2 (.inl ⟨?_,?_⟩))
   ·rw[lP hn.1];exact hf
   ·omega
  | @step x y hx hy ih=>
   obtain⟨tE,rn,e,he,e1,e2⟩:=lU.1 hy
   rw[← Dy]
   have:=Ru l (b:=CJ n l fr) bH.1 he (by omega) (by omega) (by rw[e1];exact ih)
   rw[e2]at this
   exact this
end Go.Proofs.YtnikdflhefijbaaGreat
