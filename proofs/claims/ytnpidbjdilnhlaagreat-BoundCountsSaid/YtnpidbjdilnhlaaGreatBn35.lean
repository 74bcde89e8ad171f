import Derived.Test.YtnpidbjdilnhlaaGreatBn11
import Derived.Test.YtnpidbjdilnhlaaGreatBn34
import Derived.Test.YtnpidbjdilnhlaaGreatBn18
import Derived.Test.YtnpidbjdilnhlaaGreatBn32
import Derived.Test.YtnpidbjdilnhlaaGreatBn20
namespace Go.Proofs.YtnpidbjdilnhlaaGreat
open Go.RowKit
set_option maxRecDepth 100000
theorem acq{t t':Tm}{b off len es:Nat}{e:Sh}{l:List e.T}(k:Nat)(h:t k=.via (.ae b off len es))(h':t'=dF t [(k,.ah e l)])(i:Nat):dP b off len es e l (t i) (t' i):=by
 subst h'
 show dP b off len es e l (t i) (match Nat.beq i k with | true=>.ah e l | false=>t i)
 cases hb:Nat.beq i k with
 | true=>rw[Nat.eq_of_beq_eq_true hb,h];exact .via .here
 | false=>exact .refl _
theorem abL{t t':Tm}(e:Sh)(k:Nat)(h:t k=.via .af)(h':t'=dF t [(k,.ah e [])])(i:Nat):dP 0 0 0 0 .bool [] (t i) (t' i):=by
 subst h'
 show dP 0 0 0 0 .bool [] (t i) (match Nat.beq i k with | true=>.ah e [] | false=>t i)
 cases hb:Nat.beq i k with
 | true=>rw[Nat.eq_of_beq_eq_true hb,h];exact .via (.nil e)
 | false=>exact .refl _
theorem kF.acc{body:Tm→Hp→(Ex→Tm→Hp→Prop)→Prop}{Q:Ex→Tm→Hp→Prop}{t:Tm}(j:Nat)(fr:Hp){acc σ:Hp}{s:Sh}{k:Nat}{v:AV}{cs:List AV}{l:List s.T}(h:Acc s.size k v acc cs)(ht:t j=.via v)(hl:k=l.length)(hc:cs=l.flatMap s.cells)(hp:0<s.size)
  (go:kF body Q (dF t [(j,.ah s l)]) (fr++σ)):kF body Q t (fr++(acc++σ)):=by
 cases h with
 | nil =>
  have fS:l=[]:=List.length_eq_zero_iff.1 hl.symm
  subst fS
  exact .nil (abL s j ht rfl) go
 | ae b k cs h =>
  refine .cO (.perm (xm fr [(b,cs)] σ) (.refl _)) ?_
  exact .cb 0 b 0 k s.size cs s l rfl (by rw[List.drop_zero,List.take_of_length_le (by omega)];exact hc) ⟨hl.symm,rfl,hp⟩ (acq j ht rfl) go
theorem WU{R:AV→Hp→Prop}(fr:Hp){acc σ:Hp}{s:Sh}{k:Nat}{v x:AV}{cs:List AV}{l:List s.T}(h:Acc s.size k v acc cs)(hl:k=l.length)(hc:cs=l.flatMap s.cells)(hp:0<s.size)(go:Fin R (.tup [.ah s l,x]) (fr++σ)):Fin R (.tup [v,x]) (fr++(acc++σ)):=by
 subst hl
 have hlen:=h.length
 refine .perm (xm fr acc σ) ?_
 generalize hk:l.length=k at h
 cases h with
 | nil =>
  obtain rfl:=List.length_eq_zero_iff.1 hk
  exact .nil (dK (.nil _) (.refl _)) go
 | ae b k cs h =>
  subst hk
  exact .cb 0 b 0 l.length s.size cs s l rfl (by rw[List.drop_zero,List.take_of_length_le (by omega)];exact hc) ⟨rfl,rfl,hp⟩ (dK .here (.refl _)) go
theorem Tj{R:AV→Hp→Prop}{r:AV}(a:Hp){σ:Hp}(h:Fin R r σ):Fin R r (a++σ):=.drop 0 a.length (by rw[List.take_zero,Nat.zero_add,List.drop_left];exact h)
set_option maxRecDepth 100000
set_option maxHeartbeats 4000000
theorem SB{P:Program}{f:FuncId}{a b:List AV}{v:AV}{σ:Hp}{R:AV→Hp→Prop}(hl:v.leaf=true)(h:ACalls P f (a++.via v::b) σ R):ACalls P f (a++v::b) σ R:=by
 refine⟨h.1,fun F w vs bz ay=>h.2 F w vs ⟨by rw[← bz.1];simp,fun i x hx =>?_⟩ ay⟩
 rcases Nat.lt_trichotomy i a.length with hi | hi | hi
 ·rw[List.getElem?_append_left hi]at hx
  exact bz.2 i x (by rw[List.getElem?_append_left hi];exact hx)
 ·subst hi
  rw[List.getElem?_append_right (Nat.le_refl _),Nat.sub_self]at hx
  cases hx
  exact .via v _ hl (bz.2 a.length v (by rw[List.getElem?_append_right (Nat.le_refl _),Nat.sub_self];rfl))
 ·obtain⟨j,rfl⟩:∃j,i=a.length+(j+1):=⟨i-a.length-1,by omega⟩
  rw[List.getElem?_append_right (by omega),show a.length+(j+1)-a.length=j+1 by omega]at hx
  exact bz.2 _ x (by rw[List.getElem?_append_right (by omega),show a.length+(j+1)-a.length=j+1 by omega];exact hx)
theorem Acc.leaf{e k:Nat}{v:AV}{acc:Hp}{cs:List AV}(h:Acc e k v acc cs):v.leaf=true:=by cases h <;> rfl
structure uR(n:Nat)(met:List Bool)(out:List Int):Prop where
 lF:p7 n met out
 nd:out.Nodup
 rg:∀x∈out,0≤x∧x<(n:Int)
theorem PL(n:Nat)(l:List aV)(a:Int)(met:List Bool)(out:List Int)(bm:Nat)(vo:AV)(sF σ:Hp)(hl:l.length≤100000)(hn:n≤1000)(ha:0≤a∧a<n)(h:uR n met out)(hO:Acc 1 out.length vo sF (aj out)):
  ACalls Tryz.prog 243 [.ah (.slice (.int .i64)) (bA n l),.ae bm 0 n 1,.int .i64 a,vo] ((bm,aY met)::(sF++σ))
   (fun r σ'=>∃o8 jz pf oY,jz=out++fG (an n l) (n+1) a out∧uR n o8 jz∧Acc 1 jz.length pf oY (aj jz)∧r=.via pf∧σ'=(bm,aY o8)::(oY++σ)):=
 TB (R:=fun r σ'=>∃o8 jz pf oY,jz=out++fG (an n l) (n+1) a out∧uR n o8 jz∧Acc 1 jz.length pf oY (aj jz)∧r=pf∧σ'=(bm,aY o8)::(oY++σ)) (SB (a:=[_,_,_]) (b:=[]) hO.leaf ((Za n l a met out bm vo sF σ hl hn ha h.lF h.nd h.rg hO).mono fun _ _ ⟨o8,jz,pf,oY,h1,h2,h3,h4,h5,h6,h7⟩=>⟨o8,jz,pf,oY,h1,⟨h2,h3,h4⟩,h5,h6,h7⟩)) fun r σ' ⟨o8,jz,pf,oY,h1,h2,h3,h4,h5⟩=>⟨h4▸h3.leaf,o8,jz,pf,oY,h1,h2,h3,by rw[h4],h5⟩
theorem abA(bn:Nat)(n:Nat)(x:Int)(σ:Hp):ACalls Tryz.prog 284 [.int .i64 x,.ptr bn 0] ((bn,[.int .i64 n])::σ) (az (.bool (decide (x<0∨(n:Int)≤x))) ((bn,[.int .i64 n])::σ)):=by
 refine okF Tryz.func284 (by kernel_rfl) ?_
 refine ao (fun c1 =>?_) (fun c1 =>?_)
 ·have c1:x<0:=c1
  exact .done ⟨congrArg AV.bool (decide_eq_true (by omega)).symm,rfl⟩
 ·have c1:¬(x<0):=c1
  refine aa 0 ?_
  refine ao (fun c2 =>?_) (fun c2 =>?_)
  ·have c2:(↑n:Int)≤x:=c2
   exact .done ⟨congrArg AV.bool (decide_eq_true (by omega)).symm,rfl⟩
  ·have c2:¬((↑n:Int)≤x):=c2
   exact .done ⟨congrArg AV.bool (decide_eq_false (by omega)).symm,rfl⟩
theorem Zz(bn n:Nat)(L:List Int)(σ:Hp)(hl:L.length≤1000000)(hL:∀x∈L,0≤x∧x<(n:Int)):ACalls Tryz.prog 306 [.ah (.int .i64) L,.fn (.func 284) [] [.ptr bn 0]] ((bn,[.int .i64 n])::σ) (az (.int .i64 (-1)) ((bn,[.int .i64 n])::σ)):=by
 refine okF Tryz.func306 (by kernel_rfl) ?_
 refine bO (S:=Nat) (fun k=>[(0,.ah (.int .i64) L),(1,.fn (.func 284) [] [.ptr bn 0]),(7,.int .i64 L.length),(8,.int .i64 k)]) (fun _=>(bn,[.int .i64 n])::σ) (fun k=>k≤L.length) (fun k=>L.length-k) 0 ⟨Nat.zero_le _,⟨rfl,rfl,rfl,rfl,trivial⟩,rfl⟩ ?_
 intro k g aZ
 have hk:k≤L.length:=aZ
 refine ao (p:=(k:Int)<L.length) (fun ab =>?_) (fun au =>?_)
 ·have ab:k<L.length:=by omega
  have hx:=hL _ (List.getElem_mem ab)
  refine ag.mk rfl (bH.mk L[k] (by omega) (get_some ab) ?_)
  refine eH [] (abA bn n L[k] σ) (fun c =>?_) (fun _ =>?_)
  ·have c:=of_decide_eq_true c;omega
  ·exact bg (k+1) (by show L.length-(k+1)<L.length-k;omega) ab ⟨rfl,rfl,rfl,a8 (by omega),trivial⟩ (.refl _)
 ·exact .done ⟨rfl,rfl⟩
theorem ZA(bn n:Nat)(L:List Int)(σ:Hp)(hl:L.length≤1000000)(hL:∀x∈L,0≤x∧x<(n:Int)):ACalls Tryz.prog 283 [.ah (.int .i64) L,.fn (.func 284) [] [.ptr bn 0]] ((bn,[.int .i64 n])::σ) (az (.bool false) ((bn,[.int .i64 n])::σ)):=by
 refine okF Tryz.func283 (by kernel_rfl) ?_
 refine ax [] (Zz bn n L σ hl hL) ?_
 exact .done ⟨rfl,rfl⟩
theorem XD(n:Nat)(l:List aV)(fr:List Int)(σ:Hp)(hl:l.length≤100000)(hf:fr.length≤100000)(cU:ej n l=true)(rG:∀x∈fr,0≤x∧x<(n:Int)):ACalls Tryz.prog 242 [.int .i64 n,.ah cI l,.ah (.int .i64) fr] σ (az (.int .i64 0) σ):=by
 refine okF Tryz.func242 (by kernel_rfl) ?_
 intro aC
 refine aa 0 ?_
 refine eH [] (An n l _ (by omega)) (fun _ =>?_) (fun c=>absurd c (by rw[cU];decide))
 refine ax [] (ZA aC n fr σ (by omega) rG) ?_
 exact .drop 0 1 (.done ⟨rfl,rfl⟩)
def nM(n:Nat)(l:List aV)(fr:List Int):List Int:=pM n (an n l) (fr++(List.range n).map fun a:Nat=>(a:Int))
theorem Lv(n:Nat)(nx:Int→List Int)(L:List Int)(a:Int):pM n nx (L++[a])=pM n nx L++fG nx (n+1) a (pM n nx L):=by unfold pM;rw[List.foldl_append];rfl
theorem abv(n:Nat)(l:List aV)(fr:List Int)(σ:Hp)(hl:l.length≤100000)(hf:fr.length≤100000)(cU:ej n l=true)(rG:∀x∈fr,0≤x∧x<(n:Int)):ACalls Tryz.prog 203 [.int .i64 n,.ah cI l,.ah (.int .i64) fr] σ (fun r σ'=>r=.tup [.ah (.int .i64) (nM n l fr),.int .i64 0]∧σ'=σ∧(∃met,uR n met (nM n l fr))):=by
 have hn:1≤n∧n≤256:=by
  unfold ej at cU
  simp only[Bool.and_eq_true,decide_eq_true_eq]at cU
  omega
 have eK:∀k,(bK ((List.range k).map fun a:Nat=>an n l a)).length=k:=fun k=>by rw[rQ,List.length_map,List.length_range]
 refine okF Tryz.func203 (by kernel_rfl) ?_
 refine ax [] (XD n l fr _ hl hf cU rG) ?_
 refine .wrap 9 .af rfl rfl ?_
 refine bO (S:=Nat×AV×Hp) (fun x=>[(0,.int .i64 n),(1,.ah cI l),(2,.ah (.int .i64) fr),(9,.via x.2.1),(23,.int .i64 n),(24,.int .i64 x.1)]) (fun x=>x.2.2++σ) (fun x=>x.1≤n∧Acc 1 x.1 x.2.1 x.2.2 (bK ((List.range x.1).map fun a:Nat=>an n l a))) (fun x=>n-x.1) (0,.af,[]) ⟨⟨Nat.zero_le _,.nil⟩,⟨rfl,rfl,rfl,rfl,rfl,rfl,trivial⟩,rfl⟩ ?_
 rintro⟨k,v,acc⟩ g ⟨hk,bP⟩
 have hk:k≤n:=hk
 have bP:Acc 1 k v acc (bK ((List.range k).map fun a:Nat=>an n l a)):=bP
 refine ao (p:=(k:Int)<n) (fun ab =>?_) (fun au =>?_)
 ·have ab:k<n:=by omega
  refine ax [] (x8 n l k _ hl) ?_
  intro bs
  refine kr [_] bP (.ae 0 bs 0 1 _ rfl (Nat.le_of_ble_eq_true rfl)) rfl (by omega) (by decide) (by decide) (fun v' bh h' =>?_)
  refine bg (k+1,v',bh) (by show n-(k+1)<n-k;omega) ⟨ab,?_⟩ ⟨rfl,rfl,rfl,rfl,rfl,a8 (by omega),trivial⟩ (.drop 0 1 (.refl _))
  show Acc 1 (k+1) v' bh (bK ((List.range (k+1)).map fun a:Nat=>an n l a))
  rw[List.range_succ,List.map_append,show bK (List.map (fun a:Nat=>an n l a) (List.range k)++List.map (fun a:Nat=>an n l a) [k])=bK (List.map (fun a:Nat=>an n l a) (List.range k))++[.ah (.int .i64) (an n l k)] from List.map_append]
  exact h'
 ·have au:n=k:=by omega
  subst au
  have hlx:∀(c:Nat) (L:List Int) (x:Int),(∀x∈L,0≤x∧x<(n:Int))→L[c]?=some x→0≤x∧x<(n:Int):=fun c L x h hx=>h x (List.mem_of_getElem? hx)
  have hnT:((n:Nat):Int).toNat=n:=Int.toNat_natCast n
  refine ag.mk ⟨by omega,by omega,by omega,by decide⟩ ?_
  intro bm
  refine .wrap 12 .af rfl rfl ?_
  refine kF.acc 9 [_] (s:=.slice (.int .i64)) bP rfl ((eK n).symm.trans (rQ _)) (tz _) (by decide) ?_
  refine bO (S:=Nat×(List Bool×List Int)×(AV×Hp)) (fun x=>[(0,.int .i64 n),(9,.ah (.slice (.int .i64)) (bA n l)),(11,.ae bm 0 n 1),(12,.via x.2.2.1),(37,.ah (.int .i64) fr),(38,.int .i64 fr.length),(39,.int .i64 x.1)]) (fun x=>(bm,aY x.2.1.1)::(x.2.2.2++σ)) (fun x=>x.1≤fr.length∧uR n x.2.1.1 x.2.1.2∧x.2.1.2=pM n (an n l) (fr.take x.1)∧Acc 1 x.2.1.2.length x.2.2.1 x.2.2.2 (aj x.2.1.2)) (fun x=>fr.length-x.1) (0,(List.replicate n false,[]),(.af,[])) ⟨⟨Nat.zero_le _,⟨⟨by simp,fun u hu=>by rw[List.getD_eq_getElem?_getD,List.getElem?_replicate,if_pos hu];rfl⟩,List.nodup_nil,fun x hx=>absurd hx (by simp)⟩,rfl,.nil⟩,⟨rfl,rfl,rfl,rfl,rfl,rfl,rfl,trivial⟩,by rw[show aY (List.replicate n false)=bU [.bool false] n from (zT n).symm];rfl⟩ ?_
  rintro⟨j,⟨met,out⟩,⟨vo,ac⟩⟩ g ⟨hj,hP,ho,hO⟩
  have hj:j≤fr.length:=hj
  have hP:uR n met out:=hP
  have ho:out=pM n (an n l) (fr.take j):=ho
  have hO:Acc 1 out.length vo ac (aj out):=hO
  refine ao (p:=(j:Int)<fr.length) (fun ab =>?_) (fun au =>?_)
  ·have ab:j<fr.length:=by omega
   have hz:=rG _ (List.getElem_mem ab)
   refine ag.mk rfl (bH.mk fr[j] (by omega) (get_some ab) ?_)
   refine .mk [] _ (PL n l fr[j] met out bm vo ac σ hl (by omega) hz hP hO) ?_
   rintro _ _ ⟨met2,AW,ob,kS,h1,h2,h3,rfl,rfl⟩
   refine bg (j+1,(met2,AW),(ob,kS)) (by show fr.length-(j+1)<fr.length-j;omega) ⟨ab,h2,?_,h3⟩ ⟨rfl,rfl,rfl,rfl,rfl,rfl,a8 (by omega),trivial⟩ (.refl _)
   show AW=pM n (an n l) (fr.take (j+1))
   rw[List.take_succ_eq_append_getElem ab,Lv,← ho];exact h1
  ·have au:¬(j:Int)<fr.length:=au
   rw[List.take_of_length_le (by omega)]at ho
   refine bO (S:=Nat×(List Bool×List Int)×(AV×Hp)) (fun x=>[(9,.ah (.slice (.int .i64)) (bA n l)),(11,.ae bm 0 n 1),(12,.via x.2.2.1),(49,.int .i64 n),(50,.int .i64 x.1)]) (fun x=>(bm,aY x.2.1.1)::(x.2.2.2++σ)) (fun x=>x.1≤n∧uR n x.2.1.1 x.2.1.2∧x.2.1.2=pM n (an n l) (fr++(List.range x.1).map fun a:Nat=>(a:Int))∧Acc 1 x.2.1.2.length x.2.2.1 x.2.2.2 (aj x.2.1.2)) (fun x=>n-x.1) (0,(met,out),(vo,ac)) ⟨⟨Nat.zero_le _,hP,by rw[ho];simp,hO⟩,⟨rfl,rfl,rfl,rfl,rfl,trivial⟩,rfl⟩ ?_
   clear hP ho hO hj au
   rintro⟨j,⟨met,out⟩,⟨vo,ac⟩⟩ g ⟨hj,hP,ho,hO⟩
   have hj:j≤n:=hj
   have hP:uR n met out:=hP
   have ho:out=pM n (an n l) (fr++(List.range j).map fun a:Nat=>(a:Int)):=ho
   have hO:Acc 1 out.length vo ac (aj out):=hO
   refine ao (p:=(j:Int)<n) (fun ab =>?_) (fun au =>?_)
   ·have ab:j<n:=by omega
    refine .mk [] _ (PL n l j met out bm vo ac σ hl (by omega) ⟨by omega,by omega⟩ hP hO) ?_
    rintro _ _ ⟨met2,AW,ob,kS,h1,h2,h3,rfl,rfl⟩
    refine bg (j+1,(met2,AW),(ob,kS)) (by show n-(j+1)<n-j;omega) ⟨ab,h2,?_,h3⟩ ⟨rfl,rfl,rfl,rfl,a8 (by omega),trivial⟩ (.refl _)
    show AW=pM n (an n l) (fr++(List.range (j+1)).map fun a:Nat=>(a:Int))
    rw[List.range_succ,List.map_append,← List.append_assoc,show List.map (fun a:Nat=>(a:Int)) [j]=[(j:Int)] from rfl,Lv,← ho];exact h1
   ·have au:n=j:=by omega
    subst au
    have ho:out=nM n l fr:=ho
    rw[← ho]
    exact WU [_] (s:=.int .i64) hO rfl (tD _) (by decide) (.drop 0 1 (.done ⟨rfl,rfl,met,hP⟩))
set_option maxRecDepth 100000
inductive uQ(n:Int)(l:List aV)(fr:List Int):Int→Prop where
 | root {a:Int} (h:a∈fr) (h1:0≤a∧a<n):uQ n l fr a
 | step {a b:Int} (h:uQ n l fr a) (hb:b∈an n l a):uQ n l fr b
theorem uQ.node{n:Int}{l:List aV}{fr:List Int}{a:Int}(h:uQ n l fr a):0≤a∧a<n:=by
 cases h with
 | root h h1=>exact h1
 | step h hb=>exact (j8.1 hb).1
theorem zm:∀(n:Nat) (l:List Int),l.Nodup→(∀z∈l,0≤z∧z<n)→l.length≤n
 | 0,[],_,_=>Nat.le_refl _
 | 0,z::l,_,h=>by have:=h z (List.mem_cons_self ..);omega
 | n+1,l,hd,h=>by
  have h1:=zm n (l.filter fun z=>decide (z≠n)) (hd.filter _) fun z hz=>by
   obtain⟨q1,q2⟩:=List.mem_filter.1 hz
   have:=h z q1
   have q2:=of_decide_eq_true q2
   omega
  have h2:l.length≤(l.filter fun z=>decide (z≠(n:Int))).length+1:=by
   clear h h1
   induction l with
   | nil=>simp
   | cons z l ih =>
    have iL:=List.nodup_cons.1 hd
    by_cases hz:z=n
    ·subst hz
     have e:(((n:Int)::l).filter fun z=>decide (z≠(n:Int)))=l:=by
      rw[List.filter_cons_of_neg (by simp)]
      exact List.filter_eq_self.2 fun y hy=>decide_eq_true fun e=>iL.1 (e▸hy)
     rw[e];simp
    ·have:=ih iL.2
     rw[List.filter_cons_of_pos (by simp[hz])]
     simp only[List.length_cons];omega
  omega
theorem UE{b:List Bool}{k:Nat}{a:Int}:a∈Ir b k↔(0≤a∧a<k)∧b.getD a.toNat false=true:=by
 unfold Ir
 rw[List.mem_map]
 constructor
 ·rintro⟨i,hi,rfl⟩
  obtain⟨h1,h2⟩:=List.mem_filter.1 hi
  exact⟨by have:=List.mem_range.1 h1;omega,h2⟩
 ·rintro⟨h1,h2⟩
  exact⟨a.toNat,List.mem_filter.2 ⟨List.mem_range.2 (by omega),h2⟩,by omega⟩
theorem CM(b:List Bool)(i j:Nat):(b.set i true).getD j false=true↔(i=j∧i<b.length)∨b.getD j false=true:=by
 rw[List.getD_eq_getElem?_getD,List.getElem?_set,List.getD_eq_getElem?_getD]
 by_cases h:i=j
 ·subst h
  rw[if_pos rfl]
  by_cases h2:i<b.length
  ·rw[if_pos h2];simp[h2]
  ·rw[if_neg h2];simp[h2]
 ·rw[if_neg h];simp[h]
theorem UG{n:Int}{b:List Bool}{a:Int}(hb:(b.length:Int)=n)(j:Nat):(tX n b a).getD j false=true↔(0≤a∧a<n∧(j:Int)=a)∨b.getD j false=true:=by
 unfold tX
 by_cases h:0≤a∧a<n
 ·rw[if_pos h,CM]
  constructor
  ·rintro (⟨e,_⟩ | e)
   ·exact .inl ⟨h.1,h.2,by omega⟩
   ·exact .inr e
  ·rintro (⟨_,_,e⟩ | e)
   ·exact .inl ⟨by omega,by omega⟩
   ·exact .inr e
 ·rw[if_neg h]
  exact⟨.inr,fun h2=>by rcases h2 with h2 | h2;exact absurd ⟨h2.1,h2.2.1⟩ h;exact h2⟩
theorem Gy{n:Int}:∀(fr:List Int) {b:List Bool},(b.length:Int)=n→∀j:Nat,(fr.foldl (tX n) b).getD j false=true↔((j:Int)∈fr∧(j:Int)<n)∨b.getD j false=true
 | [],b,_,j=>by simp
 | a::fr,b,hb,j=>by
  rw[List.foldl_cons,Gy fr (by rw[KM];exact hb) j,UG hb j,List.mem_cons]
  constructor
  ·rintro (⟨h1,h2⟩ | ⟨h1,h2,h3⟩ | h)
   ·exact .inl ⟨.inr h1,h2⟩
   ·exact .inl ⟨.inl h3,by omega⟩
   ·exact .inr h
  ·rintro (⟨h1 | h1,h2⟩ | h)
   ·exact .inr (.inl ⟨by omega,by omega,h1⟩)
   ·exact .inl ⟨h1,h2⟩
   ·exact .inr (.inr h)
theorem FO(n:Int):∀(fr:List Int) (b:List Bool),(fr.foldl (tX n) b).length=b.length
 | [],_=>rfl
 | a::fr,b=>by rw[List.foldl_cons,FO n fr,KM]
def okB(n:Int)(l:List aV)(fr:List Int)(b:List Bool):Prop:=(b.length:Int)=n∧∀j:Nat,b.getD j false=true→uQ n l fr j
theorem aa5{n:Int}{l:List aV}{fr:List Int}{b:List Bool}{e:aV}(he:e∈l)(h:okB n l fr b):okB n l fr (pz n b e):=by
 unfold pz
 by_cases c:(0≤e.1∧e.1<n)∧(0≤e.2.1∧e.2.1<n)∧b.getD e.1.toNat false=true
 ·rw[if_pos c]
  refine⟨by rw[List.length_set];exact h.1,fun j hj =>?_⟩
  rcases (CM _ _ _).1 hj with ⟨e1,_⟩ | hj
  ·have:=h.2 _ c.2.2
   refine .step this (j8.2 ⟨by omega,by omega,e,he,by omega,by omega⟩)
  ·exact h.2 j hj
 ·rw[if_neg c];exact h
theorem M5{n:Int}{l:List aV}{fr:List Int}:∀(L:List aV) {b:List Bool},(∀e∈L,e∈l)→okB n l fr b→okB n l fr (L.foldl (pz n) b)
 | [],_,_,h=>h
 | e::L,_,hL,h=>M5 L (fun x hx=>hL x (List.mem_cons_of_mem _ hx)) (aa5 (hL e (List.mem_cons_self ..)) h)
theorem Py{n:Int}{b:List Bool}{e:aV}{j:Nat}(h:b.getD j false=true):(pz n b e).getD j false=true:=by
 unfold pz
 split
 ·exact (CM _ _ _).2 (.inr h)
 ·exact h
theorem zy{n:Int}:∀(L:List aV) {b:List Bool} {j:Nat},b.getD j false=true→(L.foldl (pz n) b).getD j false=true
 | [],_,_,h=>h
 | _::L,_,_,h=>zy L (Py h)
theorem M6{n:Int}:∀(L:List aV) {b:List Bool} {e:aV},(b.length:Int)=n→e∈L→(0≤e.1∧e.1<n)→(0≤e.2.1∧e.2.1<n)→b.getD e.1.toNat false=true→(L.foldl (pz n) b).getD e.2.1.toNat false=true
 | x::L,b,e,hb,he,h1,h2,h3=>by
  rcases List.mem_cons.1 he with rfl | he
  ·refine zy L ?_
   unfold pz
   rw[if_pos ⟨h1,h2,h3⟩]
   exact (CM _ _ _).2 (.inl ⟨rfl,by omega⟩)
  ·exact M6 L (by rw[LF];exact hb) he h1 h2 (Py h3)
def sB(b:List Bool):Nat:=b.countP id
theorem G8:∀{b c:List Bool},b.length=c.length→(∀j:Nat,b.getD j false=true→c.getD j false=true)→sB b≤sB c∧(sB b=sB c→b=c)
 | [],[],_,_=>⟨Nat.le_refl _,fun _=>rfl⟩
 | x::b,y::c,hl,h=>by
  obtain⟨h1,h2⟩:=G8 (b:=b) (c:=c) (by simpa using hl) fun j hj=>h (j+1) hj
  have h0:=h 0
  unfold sB at h1 h2 ⊢
  simp only[List.countP_cons]
  cases x <;> cases y <;> simp at h0 ⊢
  ·exact⟨h1,h2⟩
  ·omega
  ·exact⟨h1,h2⟩
theorem FN(n:Int):∀(L:List aV) (b:List Bool),(L.foldl (pz n) b).length=b.length
 | [],_=>rfl
 | e::L,b=>by rw[List.foldl_cons,FN n L,LF]
theorem Ls{n:Int}{l:List aV}{b:List Bool}(h:mJ n l b=b):∀k,rW n l k b=b
 | 0=>rfl
 | k+1=>by rw[rounds_succ,h];exact Ls h k
theorem KX{n:Int}{l:List aV}:∀(k:Nat) {b:List Bool},(b.length:Int)=n→b.length≤sB b+k→mJ n l (rW n l k b)=rW n l k b
 | 0,b,hb,hc=>by
  have hl:(mJ n l b).length=b.length:=FN n l b
  have hu:=G8 (b:=b) (c:=mJ n l b) hl.symm fun j hj=>zy l hj
  have h2:sB (mJ n l b)≤(mJ n l b).length:=List.countP_le_length
  show mJ n l b=b
  exact (hu.2 (by omega)).symm
 | k+1,b,hb,hc=>by
  have hl:(mJ n l b).length=b.length:=FN n l b
  have hu:=G8 (b:=b) (c:=mJ n l b) hl.symm fun j hj=>zy l hj
  by_cases h:mJ n l b=b
  ·rw[Ls h];exact h
  ·rw[rounds_succ]
   refine KX k (by rw[hl];exact hb) ?_
   have:sB b≠sB (mJ n l b):=fun e=>h (hu.2 e).symm
   omega
theorem Lr{n:Int}{l:List aV}{fr:List Int}:∀(k:Nat) {b:List Bool},okB n l fr b→okB n l fr (rW n l k b)
 | 0,_,h=>h
 | k+1,_,h=>by rw[rounds_succ];exact Lr k (M5 l (fun _ h=>h) h)
theorem L6{n:Int}{l:List aV}:∀(k:Nat) {b:List Bool} {j:Nat},b.getD j false=true→(rW n l k b).getD j false=true
 | 0,_,_,h=>h
 | k+1,_,_,h=>by rw[rounds_succ];exact L6 k (zy l h)
theorem S6{n:Nat}{l:List aV}{fr:List Int}(a:Int):a∈HU n l fr↔uQ n l fr a:=by
 have fS:(((List.replicate n false).length:Nat):Int)=n:=by rw[List.length_replicate]
 have ak:okB n l fr (fr.foldl (tX n) (List.replicate n false)):=by
  refine⟨by rw[FO];exact fS,fun j hj =>?_⟩
  rcases (Gy fr fS j).1 hj with ⟨h1,h2⟩ | h
  ·exact .root h1 ⟨by omega,h2⟩
  ·rw[List.getD_eq_getElem?_getD,List.getElem?_replicate]at h
   split at h <;> cases h
 have bL:okB n l fr (Ak n l fr):=Lr _ ak
 have Ba:mJ n l (Ak n l fr)=Ak n l fr:=by
  refine KX _ ak.1 ?_
  rw[FO,List.length_replicate,Int.toNat_natCast];omega
 unfold HU
 rw[Int.toNat_natCast,UE]
 constructor
 ·rintro⟨h1,h2⟩
  have:=bL.2 _ h2
  rwa [Int.toNat_of_nonneg h1.1]at this
 ·intro h
  refine⟨h.node,?_⟩
  induction h with
  | @root x hf hn =>
   refine L6 _ ((Gy fr fS _).2 (.inl ⟨?_,?_⟩))
   ·rw[Int.toNat_of_nonneg hn.1];exact hf
   ·omega
  | @step x y hx hy ih =>
   obtain⟨ru,pq,e,he,e1,e2⟩:=j8.1 hy
   rw[← Ba]
   have:=M6 l (b:=Ak n l fr) bL.1 he (by omega) (by omega) (by rw[e1];exact ih)
   rw[e2]at this
   exact this
end Go.Proofs.YtnpidbjdilnhlaaGreat
