import Derived.Test.YtnpidbjdilnhlaaGreatBn11
import Derived.Test.YtnpidbjdilnhlaaGreatBn37
import Derived.Test.YtnpidbjdilnhlaaGreatBn19
import Derived.Test.YtnpidbjdilnhlaaGreatBn35
import Derived.Test.YtnpidbjdilnhlaaGreatBn21
import Derived.Test.YtnpidbjdilnhlaaGreatBn26
namespace Go.Proofs.YtnpidbjdilnhlaaGreat
open Go.RowKit
set_option maxRecDepth 100000
theorem XK{t t':Tm}{b off len es:Nat}{e:Sh}{l:List e.T}(k:Nat)(h:t k=.via (.ae b off len es))(h':t'=jZ t [(k,.af e l)])(i:Nat):dp b off len es e l (t i) (t' i):=by
 subst h'
 show dp b off len es e l (t i) (match Nat.beq i k with | true=>.af e l | false=>t i)
 cases hb:Nat.beq i k with
 | true=>rw[Nat.eq_of_beq_eq_true hb,h];exact .via .here
 | false=>exact .refl _
theorem WX{t t':Tm}(e:Sh)(k:Nat)(h:t k=.via .aj)(h':t'=jZ t [(k,.af e [])])(i:Nat):dp 0 0 0 0 .bool [] (t i) (t' i):=by
 subst h'
 show dp 0 0 0 0 .bool [] (t i) (match Nat.beq i k with | true=>.af e [] | false=>t i)
 cases hb:Nat.beq i k with
 | true=>rw[Nat.eq_of_beq_eq_true hb,h];exact .via (.nil e)
 | false=>exact .refl _
theorem jX.acc{body:Tm→Hp→(Ex→Tm→Hp→Prop)→Prop}{Q:Ex→Tm→Hp→Prop}{t:Tm}(j:Nat)(fr:Hp){acc σ:Hp}{s:Sh}{k:Nat}{v:AV}{cs:List AV}{l:List s.T}(h:Acc s.size k v acc cs)(ht:t j=.via v)(hl:k=l.length)(hc:cs=l.flatMap s.cells)(hp:0<s.size)
  (go:jX body Q (jZ t [(j,.af s l)]) (fr++σ)):jX body Q t (fr++(acc++σ)):=by
 cases h with
 | nil =>
  have ff:l=[]:=List.length_eq_zero_iff.1 hl.symm
  subst ff
  exact .nil (WX s j ht rfl) go
 | ae b k cs h =>
  refine .cz (.perm (rL fr [(b,cs)] σ) (.refl _)) ?_
  exact .bO 0 b 0 k s.size cs s l rfl (by rw[List.drop_zero,List.take_of_length_le (by omega)];exact hc) ⟨hl.symm,rfl,hp⟩ (XK j ht rfl) go
theorem RK{R:AV→Hp→Prop}(fr:Hp){acc σ:Hp}{s:Sh}{k:Nat}{v x:AV}{cs:List AV}{l:List s.T}(h:Acc s.size k v acc cs)(hl:k=l.length)(hc:cs=l.flatMap s.cells)(hp:0<s.size)(go:Fin R (.tup [.af s l,x]) (fr++σ)):Fin R (.tup [v,x]) (fr++(acc++σ)):=by
 subst hl
 have hlen:=h.length
 refine .perm (rL fr acc σ) ?_
 generalize hk:l.length=k at h
 cases h with
 | nil =>
  obtain rfl:=List.length_eq_zero_iff.1 hk
  exact .nil (bL (.nil _) (.refl _)) go
 | ae b k cs h =>
  subst hk
  exact .bO 0 b 0 l.length s.size cs s l rfl (by rw[List.drop_zero,List.take_of_length_le (by omega)];exact hc) ⟨rfl,rfl,hp⟩ (bL .here (.refl _)) go
theorem OU{R:AV→Hp→Prop}{r:AV}(a:Hp){σ:Hp}(h:Fin R r σ):Fin R r (a++σ):=.drop 0 a.length (by rw[List.take_zero,Nat.zero_add,List.drop_left];exact h)
end Go.Proofs.YtnpidbjdilnhlaaGreat
namespace Go.Proofs.YtnpidbjdilnhlaaGreat
open Go.RowKit
set_option maxRecDepth 100000
set_option maxHeartbeats 4000000
theorem Ob{P:Program}{f:FuncId}{a b:List AV}{v:AV}{σ:Hp}{R:AV→Hp→Prop}(hl:v.leaf=true)(h:ACalls P f (a++.via v::b) σ R):ACalls P f (a++v::b) σ R:=by
 refine⟨h.1,fun F w vs bD aD=>h.2 F w vs ⟨by rw[← bD.1];simp,fun i x hx =>?_⟩ aD⟩
 rcases Nat.lt_trichotomy i a.length with hi | hi | hi
 ·rw[List.getElem?_append_left hi]at hx
  exact bD.2 i x (by rw[List.getElem?_append_left hi];exact hx)
 ·subst hi
  rw[List.getElem?_append_right (Nat.le_refl _),Nat.sub_self]at hx
  cases hx
  exact .via v _ hl (bD.2 a.length v (by rw[List.getElem?_append_right (Nat.le_refl _),Nat.sub_self];rfl))
 ·obtain⟨j,rfl⟩:∃j,i=a.length+(j+1):=⟨i-a.length-1,by omega⟩
  rw[List.getElem?_append_right (by omega),show a.length+(j+1)-a.length=j+1 by omega]at hx
  exact bD.2 _ x (by rw[List.getElem?_append_right (by omega),show a.length+(j+1)-a.length=j+1 by omega];exact hx)
theorem Acc.leaf{e k:Nat}{v:AV}{acc:Hp}{cs:List AV}(h:Acc e k v acc cs):v.leaf=true:=by cases h <;> rfl
structure sN(n:Nat)(met:List Bool)(out:List Int):Prop where
 kx:oq n met out
 nd:out.Nodup
 rg:∀x∈out,0≤x∧x<(n:Int)
theorem Lm(n:Nat)(l:List aK)(a:Int)(met:List Bool)(out:List Int)(bm:Nat)(vo:AV)(qK σ:Hp)(hl:l.length≤100000)(hn:n≤1000)(ha:0≤a∧a<n)(h:sN n met out)(hO:Acc 1 out.length vo qK (ak out)):
  ACalls Tryz.prog 243 [.af (.slice (.int .i64)) (bB n l),.ae bm 0 n 1,.int .i64 a,vo] ((bm,aZ met)::(qK++σ))
   (fun r σ'=>∃nk iE nr nb,iE=out++dF (au n l) (n+1) a out∧sN n nk iE∧Acc 1 iE.length nr nb (ak iE)∧r=.via nr∧σ'=(bm,aZ nk)::(nb++σ)):=
 Pa (R:=fun r σ'=>∃nk iE nr nb,iE=out++dF (au n l) (n+1) a out∧sN n nk iE∧Acc 1 iE.length nr nb (ak iE)∧r=nr∧σ'=(bm,aZ nk)::(nb++σ)) (Ob (a:=[_,_,_]) (b:=[]) hO.leaf ((Ub n l a met out bm vo qK σ hl hn ha h.kx h.nd h.rg hO).mono fun _ _ ⟨nk,iE,nr,nb,h1,h2,h3,h4,h5,h6,h7⟩=>⟨nk,iE,nr,nb,h1,⟨h2,h3,h4⟩,h5,h6,h7⟩)) fun r σ' ⟨nk,iE,nr,nb,h1,h2,h3,h4,h5⟩=>⟨h4▸h3.leaf,nk,iE,nr,nb,h1,h2,h3,by rw[h4],h5⟩
theorem WM(bn:Nat)(n:Nat)(x:Int)(σ:Hp):ACalls Tryz.prog 284 [.int .i64 x,.ptr bn 0] ((bn,[.int .i64 n])::σ) (aB (.bool (decide (x<0∨(n:Int)≤x))) ((bn,[.int .i64 n])::σ)):=by
 refine okF Tryz.func284 (by kernel_rfl) ?_
 refine an (fun c1 =>?_) (fun c1 =>?_)
 ·have c1:x<0:=c1
  exact .done ⟨congrArg AV.bool (decide_eq_true (by omega)).symm,rfl⟩
 ·have c1:¬(x<0):=c1
  refine aa.mk 0 _ _ rfl rfl ?_
  refine an (fun c2 =>?_) (fun c2 =>?_)
  ·have c2:(↑n:Int)≤x:=c2
   exact .done ⟨congrArg AV.bool (decide_eq_true (by omega)).symm,rfl⟩
  ·have c2:¬((↑n:Int)≤x):=c2
   exact .done ⟨congrArg AV.bool (decide_eq_false (by omega)).symm,rfl⟩
theorem UC(bn n:Nat)(L:List Int)(σ:Hp)(hl:L.length≤1000000)(hL:∀x∈L,0≤x∧x<(n:Int)):ACalls Tryz.prog 306 [.af (.int .i64) L,.fn (.func 284) [] [.ptr bn 0]] ((bn,[.int .i64 n])::σ) (aB (.int .i64 (-1)) ((bn,[.int .i64 n])::σ)):=by
 refine okF Tryz.func306 (by kernel_rfl) ?_
 refine aU (S:=Nat) (fun k=>[(0,.af (.int .i64) L),(1,.fn (.func 284) [] [.ptr bn 0]),(7,.int .i64 L.length),(8,.int .i64 k)]) (fun _=>(bn,[.int .i64 n])::σ) (fun k=>k≤L.length) (fun k=>L.length-k) 0 ⟨Nat.zero_le _,⟨rfl,rfl,rfl,rfl,trivial⟩,rfl⟩ ?_
 intro k g aG
 have hk:k≤L.length:=aG
 refine an (p:=(k:Int)<L.length) (fun ab =>?_) (fun aq =>?_)
 ·have ab:k<L.length:=by omega
  have hx:=hL _ (List.getElem_mem ab)
  refine ah.mk rfl (aT.mk L[k] (by omega) (get_some ab) ?_)
  refine cm [] (WM bn n L[k] σ) (fun c =>?_) (fun _ =>?_)
  ·have c:=of_decide_eq_true c;omega
  ·exact aH (k+1) (by show L.length-(k+1)<L.length-k;omega) ab ⟨rfl,rfl,rfl,aI (by omega),trivial⟩ (.refl _)
 ·exact .done ⟨rfl,rfl⟩
theorem UD(bn n:Nat)(L:List Int)(σ:Hp)(hl:L.length≤1000000)(hL:∀x∈L,0≤x∧x<(n:Int)):ACalls Tryz.prog 283 [.af (.int .i64) L,.fn (.func 284) [] [.ptr bn 0]] ((bn,[.int .i64 n])::σ) (aB (.bool false) ((bn,[.int .i64 n])::σ)):=by
 refine okF Tryz.func283 (by kernel_rfl) ?_
 refine az [] (UC bn n L σ hl hL) ?_
 exact .done ⟨rfl,rfl⟩
theorem SC(n:Nat)(l:List aK)(fr:List Int)(σ:Hp)(hl:l.length≤100000)(hf:fr.length≤100000)(cJ:cU n l=true)(jL:∀x∈fr,0≤x∧x<(n:Int)):ACalls Tryz.prog 242 [.int .i64 n,.af bA l,.af (.int .i64) fr] σ (aB (.int .i64 0) σ):=by
 refine okF Tryz.func242 (by kernel_rfl) ?_
 intro aC
 refine aa.mk 0 _ _ rfl rfl ?_
 refine cm [] (xo n l _ (by omega)) (fun _ =>?_) (fun c=>absurd c (by rw[cJ];decide))
 refine az [] (UD aC n fr σ (by omega) jL) ?_
 exact .drop 0 1 (.done ⟨rfl,rfl⟩)
def gH(n:Nat)(l:List aK)(fr:List Int):List Int:=jy n (au n l) (fr++(List.range n).map fun a:Nat=>(a:Int))
theorem zI(n:Nat)(nx:Int→List Int)(L:List Int)(a:Int):jy n nx (L++[a])=jy n nx L++dF nx (n+1) a (jy n nx L):=by unfold jy;rw[List.foldl_append];rfl
theorem WH(n:Nat)(l:List aK)(fr:List Int)(σ:Hp)(hl:l.length≤100000)(hf:fr.length≤100000)(cJ:cU n l=true)(jL:∀x∈fr,0≤x∧x<(n:Int)):ACalls Tryz.prog 203 [.int .i64 n,.af bA l,.af (.int .i64) fr] σ (fun r σ'=>r=.tup [.af (.int .i64) (gH n l fr),.int .i64 0]∧σ'=σ∧(∃met,sN n met (gH n l fr))):=by
 have hn:1≤n∧n≤256:=by
  unfold cU at cJ
  simp only[Bool.and_eq_true,decide_eq_true_eq]at cJ
  omega
 have cO:∀k,(bE ((List.range k).map fun a:Nat=>au n l a)).length=k:=fun k=>by rw[pZ,List.length_map,List.length_range]
 refine okF Tryz.func203 (by kernel_rfl) ?_
 refine az [] (SC n l fr _ hl hf cJ jL) ?_
 refine .wrap 9 .aj rfl rfl ?_
 refine aU (S:=Nat×AV×Hp) (fun x=>[(0,.int .i64 n),(1,.af bA l),(2,.af (.int .i64) fr),(9,.via x.2.1),(23,.int .i64 n),(24,.int .i64 x.1)]) (fun x=>x.2.2++σ) (fun x=>x.1≤n∧Acc 1 x.1 x.2.1 x.2.2 (bE ((List.range x.1).map fun a:Nat=>au n l a))) (fun x=>n-x.1) (0,.aj,[]) ⟨⟨Nat.zero_le _,.nil⟩,⟨rfl,rfl,rfl,rfl,rfl,rfl,trivial⟩,rfl⟩ ?_
 rintro⟨k,v,acc⟩ g ⟨hk,bc⟩
 have hk:k≤n:=hk
 have bc:Acc 1 k v acc (bE ((List.range k).map fun a:Nat=>au n l a)):=bc
 refine an (p:=(k:Int)<n) (fun ab =>?_) (fun aq =>?_)
 ·have ab:k<n:=by omega
  refine az [] (vw n l k _ hl) ?_
  intro bs
  refine dX [_] bc (.ae 0 bs 0 1 _ rfl (Nat.le_of_ble_eq_true rfl)) rfl (by omega) (by decide) (by decide) (fun v' aP h' =>?_)
  refine aH (k+1,v',aP) (by show n-(k+1)<n-k;omega) ⟨ab,?_⟩ ⟨rfl,rfl,rfl,rfl,rfl,aI (by omega),trivial⟩ (.drop 0 1 (.refl _))
  show Acc 1 (k+1) v' aP (bE ((List.range (k+1)).map fun a:Nat=>au n l a))
  rw[List.range_succ,List.map_append,show bE (List.map (fun a:Nat=>au n l a) (List.range k)++List.map (fun a:Nat=>au n l a) [k])=bE (List.map (fun a:Nat=>au n l a) (List.range k))++[.af (.int .i64) (au n l k)] from List.map_append]
  exact h'
 ·have aq:n=k:=by omega
  subst aq
  have hlx:∀(c:Nat) (L:List Int) (x:Int),(∀x∈L,0≤x∧x<(n:Int))→L[c]?=some x→0≤x∧x<(n:Int):=fun c L x h hx=>h x (List.mem_of_getElem? hx)
  have FU:((n:Nat):Int).toNat=n:=Int.toNat_natCast n
  refine ah.mk ⟨by omega,by omega,by omega,by decide⟩ ?_
  intro bm
  refine .wrap 12 .aj rfl rfl ?_
  refine jX.acc 9 [_] (s:=.slice (.int .i64)) bc rfl ((cO n).symm.trans (pZ _)) (p9 _) (by decide) ?_
  refine aU (S:=Nat×(List Bool×List Int)×(AV×Hp)) (fun x=>[(0,.int .i64 n),(9,.af (.slice (.int .i64)) (bB n l)),(11,.ae bm 0 n 1),(12,.via x.2.2.1),(37,.af (.int .i64) fr),(38,.int .i64 fr.length),(39,.int .i64 x.1)]) (fun x=>(bm,aZ x.2.1.1)::(x.2.2.2++σ)) (fun x=>x.1≤fr.length∧sN n x.2.1.1 x.2.1.2∧x.2.1.2=jy n (au n l) (fr.take x.1)∧Acc 1 x.2.1.2.length x.2.2.1 x.2.2.2 (ak x.2.1.2)) (fun x=>fr.length-x.1) (0,(List.replicate n false,[]),(.aj,[])) ⟨⟨Nat.zero_le _,⟨⟨by simp,fun u hu=>by rw[List.getD_eq_getElem?_getD,List.getElem?_replicate,if_pos hu];rfl⟩,List.nodup_nil,fun x hx=>absurd hx (by simp)⟩,rfl,.nil⟩,⟨rfl,rfl,rfl,rfl,rfl,rfl,rfl,trivial⟩,by rw[show aZ (List.replicate n false)=bN [.bool false] n from (uL n).symm];rfl⟩ ?_
  rintro⟨j,⟨met,out⟩,⟨vo,ac⟩⟩ g ⟨hj,hP,ho,hO⟩
  have hj:j≤fr.length:=hj
  have hP:sN n met out:=hP
  have ho:out=jy n (au n l) (fr.take j):=ho
  have hO:Acc 1 out.length vo ac (ak out):=hO
  refine an (p:=(j:Int)<fr.length) (fun ab =>?_) (fun aq =>?_)
  ·have ab:j<fr.length:=by omega
   have hz:=jL _ (List.getElem_mem ab)
   refine ah.mk rfl (aT.mk fr[j] (by omega) (get_some ab) ?_)
   refine .mk [] _ (Lm n l fr[j] met out bm vo ac σ hl (by omega) hz hP hO) ?_
   rintro _ _ ⟨met2,xN,mq,j7,h1,h2,h3,rfl,rfl⟩
   refine aH (j+1,(met2,xN),(mq,j7)) (by show fr.length-(j+1)<fr.length-j;omega) ⟨ab,h2,?_,h3⟩ ⟨rfl,rfl,rfl,rfl,rfl,rfl,aI (by omega),trivial⟩ (.refl _)
   show xN=jy n (au n l) (fr.take (j+1))
   rw[List.take_succ_eq_append_getElem ab,zI,← ho];exact h1
  ·have aq:¬(j:Int)<fr.length:=aq
   rw[List.take_of_length_le (by omega)]at ho
   refine aU (S:=Nat×(List Bool×List Int)×(AV×Hp)) (fun x=>[(9,.af (.slice (.int .i64)) (bB n l)),(11,.ae bm 0 n 1),(12,.via x.2.2.1),(49,.int .i64 n),(50,.int .i64 x.1)]) (fun x=>(bm,aZ x.2.1.1)::(x.2.2.2++σ)) (fun x=>x.1≤n∧sN n x.2.1.1 x.2.1.2∧x.2.1.2=jy n (au n l) (fr++(List.range x.1).map fun a:Nat=>(a:Int))∧Acc 1 x.2.1.2.length x.2.2.1 x.2.2.2 (ak x.2.1.2)) (fun x=>n-x.1) (0,(met,out),(vo,ac)) ⟨⟨Nat.zero_le _,hP,by rw[ho];simp,hO⟩,⟨rfl,rfl,rfl,rfl,rfl,trivial⟩,rfl⟩ ?_
   clear hP ho hO hj aq
   rintro⟨j,⟨met,out⟩,⟨vo,ac⟩⟩ g ⟨hj,hP,ho,hO⟩
   have hj:j≤n:=hj
   have hP:sN n met out:=hP
   have ho:out=jy n (au n l) (fr++(List.range j).map fun a:Nat=>(a:Int)):=ho
   have hO:Acc 1 out.length vo ac (ak out):=hO
   refine an (p:=(j:Int)<n) (fun ab =>?_) (fun aq =>?_)
   ·have ab:j<n:=by omega
    refine .mk [] _ (Lm n l j met out bm vo ac σ hl (by omega) ⟨by omega,by omega⟩ hP hO) ?_
    rintro _ _ ⟨met2,xN,mq,j7,h1,h2,h3,rfl,rfl⟩
    refine aH (j+1,(met2,xN),(mq,j7)) (by show n-(j+1)<n-j;omega) ⟨ab,h2,?_,h3⟩ ⟨rfl,rfl,rfl,rfl,aI (by omega),trivial⟩ (.refl _)
    show xN=jy n (au n l) (fr++(List.range (j+1)).map fun a:Nat=>(a:Int))
    rw[List.range_succ,List.map_append,← List.append_assoc,show List.map (fun a:Nat=>(a:Int)) [j]=[(j:Int)] from rfl,zI,← ho];exact h1
   ·have aq:n=j:=by omega
    subst aq
    have ho:out=gH n l fr:=ho
    rw[← ho]
    exact RK [_] (s:=.int .i64) hO rfl (fi _) (by decide) (.drop 0 1 (.done ⟨rfl,rfl,met,hP⟩))
end Go.Proofs.YtnpidbjdilnhlaaGreat
namespace Go.Proofs.YtnpidbjdilnhlaaGreat
open Go.RowKit
set_option maxRecDepth 100000
inductive sM(n:Int)(l:List aK)(fr:List Int):Int→Prop where
 | root {a:Int} (h:a∈fr) (h1:0≤a∧a<n):sM n l fr a
 | step {a b:Int} (h:sM n l fr a) (hb:b∈au n l a):sM n l fr b
theorem sM.node{n:Int}{l:List aK}{fr:List Int}{a:Int}(h:sM n l fr a):0≤a∧a<n:=by
 cases h with
 | root h h1=>exact h1
 | step h hb=>exact (iv.1 hb).1
theorem wK:∀(n:Nat) (l:List Int),l.Nodup→(∀z∈l,0≤z∧z<n)→l.length≤n
 | 0,[],_,_=>Nat.le_refl _
 | 0,z::l,_,h=>by have:=h z (List.mem_cons_self ..);omega
 | n+1,l,hd,h=>by
  have h1:=wK n (l.filter fun z=>decide (z≠n)) (hd.filter _) fun z hz=>by
   obtain⟨q1,q2⟩:=List.mem_filter.1 hz
   have:=h z q1
   have q2:=of_decide_eq_true q2
   omega
  have h2:l.length≤(l.filter fun z=>decide (z≠(n:Int))).length+1:=by
   clear h h1
   induction l with
   | nil=>simp
   | cons z l ih =>
    have gQ:=List.nodup_cons.1 hd
    by_cases hz:z=n
    ·subst hz
     have e:(((n:Int)::l).filter fun z=>decide (z≠(n:Int)))=l:=by
      rw[List.filter_cons_of_neg (by simp)]
      exact List.filter_eq_self.2 fun y hy=>decide_eq_true fun e=>gQ.1 (e▸hy)
     rw[e];simp
    ·have:=ih gQ.2
     rw[List.filter_cons_of_pos (by simp[hz])]
     simp only[List.length_cons];omega
  omega
theorem PZ{b:List Bool}{k:Nat}{a:Int}:a∈gV b k↔(0≤a∧a<k)∧b.getD a.toNat false=true:=by
 unfold gV
 rw[List.mem_map]
 constructor
 ·rintro⟨i,hi,rfl⟩
  obtain⟨h1,h2⟩:=List.mem_filter.1 hi
  exact⟨by have:=List.mem_range.1 h1;omega,h2⟩
 ·rintro⟨h1,h2⟩
  exact⟨a.toNat,List.mem_filter.2 ⟨List.mem_range.2 (by omega),h2⟩,by omega⟩
theorem zY(b:List Bool)(i j:Nat):(b.set i true).getD j false=true↔(i=j∧i<b.length)∨b.getD j false=true:=by
 rw[List.getD_eq_getElem?_getD,List.getElem?_set,List.getD_eq_getElem?_getD]
 by_cases h:i=j
 ·subst h
  rw[if_pos rfl]
  by_cases h2:i<b.length
  ·rw[if_pos h2];simp[h2]
  ·rw[if_neg h2];simp[h2]
 ·rw[if_neg h];simp[h]
theorem P3{n:Int}{b:List Bool}{a:Int}(hb:(b.length:Int)=n)(j:Nat):(iT n b a).getD j false=true↔(0≤a∧a<n∧(j:Int)=a)∨b.getD j false=true:=by
 unfold iT
 by_cases h:0≤a∧a<n
 ·rw[if_pos h,zY]
  constructor
  ·rintro (⟨e,_⟩ | e)
   ·exact .inl ⟨h.1,h.2,by omega⟩
   ·exact .inr e
  ·rintro (⟨_,_,e⟩ | e)
   ·exact .inl ⟨by omega,by omega⟩
   ·exact .inr e
 ·rw[if_neg h]
  exact⟨.inr,fun h2=>by rcases h2 with h2 | h2;exact absurd ⟨h2.1,h2.2.1⟩ h;exact h2⟩
theorem CY{n:Int}:∀(fr:List Int) {b:List Bool},(b.length:Int)=n→∀j:Nat,(fr.foldl (iT n) b).getD j false=true↔((j:Int)∈fr∧(j:Int)<n)∨b.getD j false=true
 | [],b,_,j=>by simp
 | a::fr,b,hb,j=>by
  rw[List.foldl_cons,CY fr (by rw[GR];exact hb) j,P3 hb j,List.mem_cons]
  constructor
  ·rintro (⟨h1,h2⟩ | ⟨h1,h2,h3⟩ | h)
   ·exact .inl ⟨.inr h1,h2⟩
   ·exact .inl ⟨.inl h3,by omega⟩
   ·exact .inr h
  ·rintro (⟨h1 | h1,h2⟩ | h)
   ·exact .inr (.inl ⟨by omega,by omega,h1⟩)
   ·exact .inl ⟨h1,h2⟩
   ·exact .inr (.inr h)
theorem Cp(n:Int):∀(fr:List Int) (b:List Bool),(fr.foldl (iT n) b).length=b.length
 | [],_=>rfl
 | a::fr,b=>by rw[List.foldl_cons,Cp n fr,GR]
def okB(n:Int)(l:List aK)(fr:List Int)(b:List Bool):Prop:=(b.length:Int)=n∧∀j:Nat,b.getD j false=true→sM n l fr j
theorem Va{n:Int}{l:List aK}{fr:List Int}{b:List Bool}{e:aK}(he:e∈l)(h:okB n l fr b):okB n l fr (iL n b e):=by
 unfold iL
 by_cases c:(0≤e.1∧e.1<n)∧(0≤e.2.1∧e.2.1<n)∧b.getD e.1.toNat false=true
 ·rw[if_pos c]
  refine⟨by rw[List.length_set];exact h.1,fun j hj =>?_⟩
  rcases (zY _ _ _).1 hj with ⟨e1,_⟩ | hj
  ·have:=h.2 _ c.2.2
   refine .step this (iv.2 ⟨by omega,by omega,e,he,by omega,by omega⟩)
  ·exact h.2 j hj
 ·rw[if_neg c];exact h
theorem I6{n:Int}{l:List aK}{fr:List Int}:∀(L:List aK) {b:List Bool},(∀e∈L,e∈l)→okB n l fr b→okB n l fr (L.foldl (iL n) b)
 | [],_,_,h=>h
 | e::L,_,hL,h=>I6 L (fun x hx=>hL x (List.mem_cons_of_mem _ hx)) (Va (hL e (List.mem_cons_self ..)) h)
theorem K9{n:Int}{b:List Bool}{e:aK}{j:Nat}(h:b.getD j false=true):(iL n b e).getD j false=true:=by
 unfold iL
 split
 ·exact (zY _ _ _).2 (.inr h)
 ·exact h
theorem wQ{n:Int}:∀(L:List aK) {b:List Bool} {j:Nat},b.getD j false=true→(L.foldl (iL n) b).getD j false=true
 | [],_,_,h=>h
 | _::L,_,_,h=>wQ L (K9 h)
theorem I7{n:Int}:∀(L:List aK) {b:List Bool} {e:aK},(b.length:Int)=n→e∈L→(0≤e.1∧e.1<n)→(0≤e.2.1∧e.2.1<n)→b.getD e.1.toNat false=true→(L.foldl (iL n) b).getD e.2.1.toNat false=true
 | x::L,b,e,hb,he,h1,h2,h3=>by
  rcases List.mem_cons.1 he with rfl | he
  ·refine wQ L ?_
   unfold iL
   rw[if_pos ⟨h1,h2,h3⟩]
   exact (zY _ _ _).2 (.inl ⟨rfl,by omega⟩)
  ·exact I7 L (by rw[HC];exact hb) he h1 h2 (K9 h3)
def qG(b:List Bool):Nat:=b.countP id
theorem Dt:∀{b c:List Bool},b.length=c.length→(∀j:Nat,b.getD j false=true→c.getD j false=true)→qG b≤qG c∧(qG b=qG c→b=c)
 | [],[],_,_=>⟨Nat.le_refl _,fun _=>rfl⟩
 | x::b,y::c,hl,h=>by
  obtain⟨h1,h2⟩:=Dt (b:=b) (c:=c) (by simpa using hl) fun j hj=>h (j+1) hj
  have h0:=h 0
  unfold qG at h1 h2 ⊢
  simp only[List.countP_cons]
  cases x <;> cases y <;> simp at h0 ⊢
  ·exact⟨h1,h2⟩
  ·omega
  ·exact⟨h1,h2⟩
theorem Co(n:Int):∀(L:List aK) (b:List Bool),(L.foldl (iL n) b).length=b.length
 | [],_=>rfl
 | e::L,b=>by rw[List.foldl_cons,Co n L,HC]
theorem Hv{n:Int}{l:List aK}{b:List Bool}(h:iw n l b=b):∀k,l4 n l k b=b
 | 0=>rfl
 | k+1=>by rw[rounds_succ,h];exact Hv h k
theorem G1{n:Int}{l:List aK}:∀(k:Nat) {b:List Bool},(b.length:Int)=n→b.length≤qG b+k→iw n l (l4 n l k b)=l4 n l k b
 | 0,b,hb,hc=>by
  have hl:(iw n l b).length=b.length:=Co n l b
  have hu:=Dt (b:=b) (c:=iw n l b) hl.symm fun j hj=>wQ l hj
  have h2:qG (iw n l b)≤(iw n l b).length:=List.countP_le_length
  show iw n l b=b
  exact (hu.2 (by omega)).symm
 | k+1,b,hb,hc=>by
  have hl:(iw n l b).length=b.length:=Co n l b
  have hu:=Dt (b:=b) (c:=iw n l b) hl.symm fun j hj=>wQ l hj
  by_cases h:iw n l b=b
  ·rw[Hv h];exact h
  ·rw[rounds_succ]
   refine G1 k (by rw[hl];exact hb) ?_
   have:qG b≠qG (iw n l b):=fun e=>h (hu.2 e).symm
   omega
theorem Hu{n:Int}{l:List aK}{fr:List Int}:∀(k:Nat) {b:List Bool},okB n l fr b→okB n l fr (l4 n l k b)
 | 0,_,h=>h
 | k+1,_,h=>by rw[rounds_succ];exact Hu k (I6 l (fun _ h=>h) h)
theorem H3{n:Int}{l:List aK}:∀(k:Nat) {b:List Bool} {j:Nat},b.getD j false=true→(l4 n l k b).getD j false=true
 | 0,_,_,h=>h
 | k+1,_,_,h=>by rw[rounds_succ];exact H3 k (wQ l h)
theorem OG{n:Nat}{l:List aK}{fr:List Int}(a:Int):a∈qj n l fr↔sM n l fr a:=by
 have ff:(((List.replicate n false).length:Nat):Int)=n:=by rw[List.length_replicate]
 have ar:okB n l fr (fr.foldl (iT n) (List.replicate n false)):=by
  refine⟨by rw[Cp];exact ff,fun j hj =>?_⟩
  rcases (CY fr ff j).1 hj with ⟨h1,h2⟩ | h
  ·exact .root h1 ⟨by omega,h2⟩
  ·rw[List.getD_eq_getElem?_getD,List.getElem?_replicate]at h
   split at h <;> cases h
 have bR:okB n l fr (nS n l fr):=Hu _ ar
 have Xx:iw n l (nS n l fr)=nS n l fr:=by
  refine G1 _ ar.1 ?_
  rw[Cp,List.length_replicate,Int.toNat_natCast];omega
 unfold qj
 rw[Int.toNat_natCast,PZ]
 constructor
 ·rintro⟨h1,h2⟩
  have:=bR.2 _ h2
  rwa [Int.toNat_of_nonneg h1.1]at this
 ·intro h
  refine⟨h.node,?_⟩
  induction h with
  | @root x hf hn =>
   refine H3 _ ((CY fr ff _).2 (.inl ⟨?_,?_⟩))
   ·rw[Int.toNat_of_nonneg hn.1];exact hf
   ·omega
  | @step x y hx hy ih =>
   obtain⟨BR,FM,e,he,e1,e2⟩:=iv.1 hy
   rw[← Xx]
   have:=I7 l (b:=nS n l fr) bR.1 he (by omega) (by omega) (by rw[e1];exact ih)
   rw[e2]at this
   exact this
end Go.Proofs.YtnpidbjdilnhlaaGreat
