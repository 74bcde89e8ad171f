import Derived.OrdersHeld
import Derived.Test.YtnikdflhefijbaaGreatBn4
namespace Go.Proofs.YtnikdflhefijbaaGreat
open Go.RowKit
section
variable {P:Program} {TT:TypeId→Option TI}
def Hu(P:Program)(ops:List Oper)(σ:Hp)(o:Oper)(t:Tm)(v:AV):Prop:=(uu ops o t true∧LZ P o (ev t) σ v)∨(uu ops o t false∧v=.tup [])
def pt:Tm→List Oper→List AV→Nat→Tm
 |t,o::l,v::vs,i+1=>pt (put t o.dst v) l vs i
 |t,_,_,_=>t
theorem RM(ok:dE P TT){ops:List Oper}{σ:Hp}{K:Tm→Prop}:∀(l:List Oper) (t:Tm),HV P TT ops l t σ K→∃cF:List AV,cF.length=l.length∧(∀(i:Nat) (o:Oper) (v:AV),l[i]?=some o→cF[i]?=some v→Hu P ops σ o (pt t l cF i) v)∧K (pt t l cF l.length)
 | [],t,h=>⟨[],rfl,fun i o v h=>by simp at h,h⟩
 |o::l,t,h=>by
  have go:∀v,Hu P ops σ o t v→HV P TT ops l (put t o.dst v) σ K→∃cF:List AV,cF.length=(o::l).length∧(∀(i:Nat) (o':Oper) (v:AV),(o::l)[i]?=some o'→cF[i]?=some v→Hu P ops σ o' (pt t (o::l) cF i) v)∧K (pt t (o::l) cF (o::l).length):=by
   intro v hv hk
   obtain⟨cF,h1,h2,h3⟩:=RM ok l _ hk
   refine⟨v::cF,by simp[h1],fun i o' v' ho oL=>?_,h3⟩
   cases i with
   |zero=>simp at ho oL;subst ho;subst oL;exact hv
   |succ i=>exact h2 i o' v' (by simpa using ho) (by simpa using oL)
  rcases x4 h with ⟨hg,h⟩ | ⟨hg,h⟩
  ·obtain⟨v,hk,hl⟩:=QG ok h
   exact go v (.inl ⟨hg,hl⟩) hk
  ·exact go (.tup []) (.inr ⟨hg,rfl⟩) h
theorem CA{x:Tmp}:∀(l:List Oper) (cF:List AV) (t:Tm) (i:Nat),(∀j,j<i→∀o,l[j]?=some o→o.dst≠some x)→pt t l cF i x=t x
 | [],_,_,i,_=>by cases i <;> rfl
 |_::_,[],_,i,_=>by cases i <;> rfl
 |o::l,v::cF,t,0,_=>rfl
 |o::l,v::cF,t,i+1,h=>by
  have h0:=h 0 (by omega) o rfl
  rw[pt,CA l cF _ i (fun j hj o' ho=>h (j+1) (by omega) o' (by simpa using ho))]
  cases hd:o.dst with
  |none=>rfl
  |some d=>
   have:Nat.beq x d=false:=by
    cases hb:Nat.beq x d with
    |false=>rfl
    |true=>exact absurd (by rw[hd,jK hb]) h0
   show (match Nat.beq x d with | true=>v | false=>t x)=t x
   rw[this]
theorem K3{x:Tmp}{v:AV}{p:Oper}:∀(l:List Oper) (cF:List AV) (t:Tm) (i j:Nat),j<i→l[j]?=some p→p.dst=some x→(∀k,k<i→k≠j→∀o,l[k]?=some o→o.dst≠some x)→cF[j]?=some v→pt t l cF i x=v
 | [],_,_,_,_,_,hp,_,_,_=>by simp at hp
 |_::_,[],_,_,_,_,_,_,_,hv=>by simp at hv
 |_::_,_::_,_,0,_,hj,_,_,_,_=>by omega
 |o::l,u::cF,t,i+1,0,_,hp,hx,hn,hv=>by
  simp at hp hv
  subst hp;subst hv
  rw[pt,CA l cF _ i (fun k hk o' ho=>hn (k+1) (by omega) (by omega) o' (by simpa using ho))]
  simp[put,hx]
 |o::l,u::cF,t,i+1,j+1,hj,hp,hx,hn,hv=>
  K3 l cF (put t o.dst u) i j (by omega) (by simpa using hp) hx (fun k hk aS o' ho=>hn (k+1) (by omega) (by omega) o' (by simpa using ho)) (by simpa using hv)
structure OS(ops:List Oper):Prop where
 back:∀(i:Nat) (o:Oper),ops[i]?=some o→∀e∈o.after,Region.binds .any e=true→e.on<i
 Ib:∀(i j:Nat) (o p:Oper) (d:Tmp),ops[i]?=some o→ops[j]?=some p→p.dst=some d→o.dst=some d→i=j
 look:∀(i j:Nat) (o p:Oper) (d:Tmp),ops[i]?=some o→ops[j]?=some p→p.dst=some d→d∈yp ops o→i=j∨(j<i∧pZ o j=true)∨(i<j∧pZ p i=true)
theorem adN{ops:List Oper}(h:GF ops=true):OS ops:=by
 unfold GF at h
 have hz:∀(i:Nat) (o:Oper),ops[i]?=some o→(o,i)∈ops.zipIdx:=fun i o ho=>by
  rw[Ot];exact ho
 have cH:=fun (i:Nat) (o:Oper) (ho:ops[i]?=some o)=>fy.1 h (o,i) (hz i o ho)
 refine⟨fun i o ho e he hb=>?_,fun i j o p d ho hp kG jH=>?_,fun i j o p d ho hp kG hd=>?_⟩
 ·have h1:=cH i o ho
  simp only[bR]at h1
  have h2:=List.all_eq_true.1 h1.1 e (by simpa using he)
  simp only[hb,EV,pM]at h2
  exact cD h2
 ·have h1:=cH i o ho
  simp only[bR]at h1
  have h2:=fy.1 h1.2 (p,j) (hz j p hp)
  simp only[kG,jH,bR,qD,xF,EV]at h2
  rcases h2.1 with h3 | h3
  ·exact jK h3
  ·cases h3
 ·have h1:=cH i o ho
  simp only[bR]at h1
  have h2:=fy.1 h1.2 (p,j) (hz j p hp)
  simp only[kG,bR,qD]at h2
  rcases h2.2 with ((h3 | h3) | h3) | h3
  ·exfalso
   have:(yp ops o).any (Nat.beq d)=true:=mV.2 ⟨d,hd,xF d⟩
   rw[this]at h3
   cases h3
  ·exact .inl (jK h3)
  ·exact .inr (.inl ⟨cD h3.1,h3.2⟩)
  ·exact .inr (.inr ⟨cD h3.1,h3.2⟩)
theorem zM{o:Oper}{j:Nat}(h:pZ o j=true):∃e∈o.after,Region.binds .any e=true∧e.on=j:=by
 obtain⟨e,h1,h2⟩:=mV.1 h
 simp only[bR]at h2
 exact⟨e,by simpa using h1,h2.1,Nat.eq_of_beq_eq_true h2.2⟩
def left(aw:Array Bool):Nat:=(aw.toList.filter (fun b=> !b)).length
theorem QK:∀(l:List Bool) (i:Nat),l[i]?=some false→((l.set i true).filter (fun b=> !b)).length+1=(l.filter (fun b=> !b)).length
 | [],i,h=>by simp at h
 |b::l,0,h=>by simp at h;subst h;simp
 |b::l,i+1,h=>by
  have:=QK l i (by simpa using h)
  cases b <;> simp at this ⊢ <;> omega
theorem Co{aw:Array Bool}{i:Nat}(h:aw.getD i true=false):left (aw.setIfInBounds i true)+1=left aw:=by
 unfold left
 rw[Array.toList_setIfInBounds]
 refine QK _ i ?_
 rw[BF]
 rw[jL]at h
 cases hq:aw[i]? with
 |none=>rw[hq]at h;simp at h
 |some b=>rw[hq]at h;simp at h;rw[h]
theorem Kp{aw:Array Bool}(h:left aw=0){i:Nat}:aw.getD i true=true:=by
 cases hb:aw.getD i true with
 |true=>rfl
 |false=>have:=Co hb;omega
structure It(P:Program)(ops:List Oper)(t0:Tm)(cF:List AV)(σ:Hp)(B n:Nat)(aw:Array Bool)(F:Nat→Prop)(w:World)(a:Act):Prop where
 hp:bA F w σ
 size:n≤a.tmps.size
 defers:Marks B F w a.defers
 L7:aw.size=ops.length
 closed:∀(j:Nat) (o:Oper),ops[j]?=some o→aw.getD j false=true→∀e∈o.after,Region.binds .any e=true→aw.getD e.on false=true
 Nd:∀(j:Nat) (o:Oper) (v:AV) (d:Tmp),ops[j]?=some o→o.dst=some d→cF[j]?=some v→aw.getD j false=true→aA F w v (a.tmps.getD d undef)
 out:∀d,(∀(j:Nat) (o:Oper),ops[j]?=some o→o.dst=some d→aw.getD j false=false)→aA F w (t0 d) (a.tmps.getD d undef)
theorem BN{aw:Array Bool}{i:Nat}(h:aw.getD i true=false):aw.getD i false=false:=by
 rw[jL]at h ⊢
 cases hq:aw[i]? with
 |none=>rw[hq]at h;simp at h
 |some b=>rw[hq]at h;simpa using h
theorem Wd{aw:Array Bool}{i:Nat}(hi:i<aw.size)(h:aw.getD i true=true):aw.getD i false=true:=by
 rw[jL]at h ⊢
 rw[xK hi]at h ⊢
 simpa using h
section
variable {ops:List Oper} {t0:Tm} {cF:List AV} {σ:Hp} {B n:Nat} {aw:Array Bool} {F:Nat→Prop} {w:World} {a:Act}
theorem It.look(hJ:It P ops t0 cF σ B n aw F w a)(ho:OS ops)(IF:cF.length=ops.length){i:Nat}{o:Oper}(hi:ops[i]?=some o)(fm:aw.getD i true=false)(qx:∀e∈o.after,Region.binds .any e=true→aw.getD e.on false=true){d:Tmp}(hd:d∈yp ops o):
  aA F w (pt t0 ops cF i d) (a.tmps.getD d undef):=by
 by_cases hw:∃(j:Nat) (p:Oper),ops[j]?=some p∧p.dst=some d
 ·obtain⟨j,p,hp,kG⟩:=hw
  have uniq:∀k,k≠j→∀o',ops[k]?=some o'→o'.dst≠some d:=fun k hk o' ep jH=>hk (ho.Ib k j o' p d ep hp kG jH)
  have out:aw.getD j false=false→(i≤j)→aA F w (pt t0 ops cF i d) (a.tmps.getD d undef):=fun hl ml=>by
   rw[CA ops cF t0 i (fun k hk o' ep=>uniq k (by omega) o' ep)]
   exact hJ.out d fun k o' ep jH=>by rw[ho.Ib k j o' p d ep hp kG jH];exact hl
  rcases ho.look i j o p d hi hp kG hd with e | ⟨h1,h2⟩ | ⟨h1,h2⟩
  ·subst e
   exact out (BN fm) (a8 _)
  ·obtain⟨e,he,hb,rfl⟩:=zM h2
   have hl:=qx e he hb
   have iw:e.on<ops.length:=(cg.1 hp).1
   have hv:cF[e.on]?=some cF[e.on]:=bF (by omega)
   rw[K3 ops cF t0 i e.on h1 hp kG (fun k _ aS=>uniq k aS) hv]
   exact hJ.Nd e.on p _ d hp kG hv hl
  ·obtain⟨e,he,hb,rfl⟩:=zM h2
   refine out ?_ (by omega)
   cases hl:aw.getD j false with
   |false=>rfl
   |true=>
    have:=hJ.closed j p hp hl e he hb
    rw[BN fm]at this
    cases this
 ·rw[CA ops cF t0 i (fun k _ o' ep jH=>hw ⟨k,o',ep,jH⟩)]
  exact hJ.out d fun j o' ep jH=>absurd ⟨j,o',ep,jH⟩ hw
theorem Yt(ho:OS ops)(IF:cF.length=ops.length)(hd:∀o∈ops,∀d,o.dst=some d→d<n)(hf:∀(i:Nat) (o:Oper) (v:AV),ops[i]?=some o→cF[i]?=some v→Hu P ops σ o (pt t0 ops cF i) v){Q:Exit→Act→World→Prop}{F0:Nat→Prop}{w0:World}
  (hq:∀F' w' a',bJ F0 w0 F' w'→dh B n F' w' (pt t0 ops cF ops.length) σ a'→Q .normal a' w') :
  ∀(fuel:Nat) (aw:Array Bool) (F:Nat→Prop) (w:World) (a:Act),left aw≤fuel→It P ops t0 cF σ B n aw F w a→bJ F0 w0 F w→wX P .any ops.toArray Q fuel aw a w:=by
 have fin:∀(aw:Array Bool) (F:Nat→Prop) (w:World) (a:Act),It P ops t0 cF σ B n aw F w a→bJ F0 w0 F w→Region.ready .any ops.toArray aw=[]→Q .normal a w:=by
  intro aw F w a hJ ao hr
  have all:∀j,j<ops.length→aw.getD j false=true:=by
   intro j
   induction j using Nat.strongRecOn with
   |_ j ih=>
    intro hj
    cases hl:aw.getD j true with
    |true=>exact Wd (by rw[hJ.L7];exact hj) hl
    |false=>
     exfalso
     have hm:j∈Region.ready .any ops.toArray aw:=by
      rw[mem_ready]
      refine⟨hl,ops[j],by simp[hj],fun e he hb=>?_⟩
      have:=ho.back j ops[j] (by simp[hj]) e he hb
      exact ih _ this (by omega)
     rw[hr]at hm
     cases hm
  refine hq F w a ao ⟨fun d=>?_,hJ.hp,hJ.size,hJ.defers⟩
  by_cases hw:∃(j:Nat) (p:Oper),ops[j]?=some p∧p.dst=some d
  ·obtain⟨j,p,hp,kG⟩:=hw
   have iw:j<ops.length:=(cg.1 hp).1
   have hv:cF[j]?=some cF[j]:=bF (by omega)
   rw[K3 ops cF t0 ops.length j iw hp kG (fun k _ aS o' ep jH=>aS (ho.Ib k j o' p d ep hp kG jH)) hv]
   exact hJ.Nd j p _ d hp kG hv (all j iw)
  ·rw[CA ops cF t0 ops.length (fun k _ o' ep jH=>hw ⟨k,o',ep,jH⟩)]
   exact hJ.out d fun j o' ep jH=>absurd ⟨j,o',ep,jH⟩ hw
 intro fuel
 induction fuel with
 |zero=>
  intro aw F w a hl hJ ao
  have hr:Region.ready .any ops.toArray aw=[]:=by
   rw[JA]
   intro j hj
   have:=(mem_ready.1 hj).1
   rw[Kp (by omega)]at this
   cases this
  exact⟨hr,fin aw F w a hJ ao hr⟩
 |succ fuel ih=>
  intro aw F w a hl hJ ao
  refine⟨fin aw F w a hJ ao,fun i hi=>?_⟩
  obtain⟨fm,o,kn,qx⟩:=mem_ready.1 hi
  have kn:ops[i]?=some o:=by simpa using kn
  have qz:i<ops.length:=(cg.1 kn).1
  have hvi:cF[i]?=some cF[i]:=bF (by omega)
  have AB:=fun {d:Tmp} (hd:d∈yp ops o)=>hJ.look ho IF kn fm qx hd
  have UP:∀{b:Bool},uu ops o (pt t0 ops cF i) b→Region.wanted o (yielded ops.toArray a.tmps)=b:=fun hg=>FN hg fun d ⟨j,want,h1,h2⟩=>⟨F,w,AB (d:=d) (by unfold yp;rw[h1];simp[h2])⟩
  have next:∀(F':Nat→Prop) (w':World) (u:Value),bJ F w F' w'→bA F' w' σ→aA F' w' cF[i] u→wX P .any ops.toArray Q fuel (aw.setIfInBounds i true) (a.put o.dst u) w':=by
   intro F' w' u h1 h2 h3
   have aS:∀j,j≠i→(aw.setIfInBounds i true).getD j false=aw.getD j false:=fun j hj=>getD_set_ne false (Ne.symm hj)
   have De:(aw.setIfInBounds i true).getD i false=true:=by simp[Array.getD,hJ.L7,qz]
   refine ih _ F' w' _ (by have:=Co fm;omega) ⟨h2,by rw[RG];exact hJ.size,by rw[SP];exact hJ.defers.mono h1,by simp[hJ.L7],fun j p hp hl e he hb=>?_,fun j p v d hp kG hv hl=>?_,fun d hn=>?_⟩ (ao.trans h1)
   ·refine getD_set_true ?_
    by_cases hj:j=i
    ·subst hj
     rw[kn]at hp
     cases hp
     exact qx e he hb
    ·rw[aS j hj]at hl
     exact hJ.closed j p hp hl e he hb
   ·by_cases hj:j=i
    ·subst hj
     rw[kn]at hp
     cases hp
     rw[hvi]at hv
     cases hv
     have ee:d<a.tmps.size:=rH (hd o (cq kn) d kG) hJ.size
     rw[kG]
     simpa [Act.put,Array.getD,ee]using h3
    ·rw[aS j hj]at hl
     have h4:=(hJ.Nd j p v d hp kG hv hl).mono h1
     have ca:o.dst≠some d:=fun jH=>hj (ho.Ib j i p o d hp kn jH kG)
     cases jH:o.dst with
     |none=>exact h4
     |some d'=>
      have vI:d'≠d:=fun e=>ca (by rw[jH,e])
      show aA F' w' v ((a.tmps.setIfInBounds d' u).getD d undef)
      rw[jL]at h4 ⊢
      rw[JB vI]
      exact h4
   ·have ca:o.dst≠some d:=fun jH=>by
     have:=hn i o kn jH
     rw[De]at this
     cases this
    have h4:=(hJ.out d fun j p hp kG=>by
     by_cases hj:j=i
     ·subst hj;rw[kn]at hp;cases hp;exact absurd kG ca
     ·rw[← aS j hj];exact hn j p hp kG).mono h1
    cases jH:o.dst with
    |none=>exact h4
    |some d'=>
     have vI:d'≠d:=fun e=>ca (by rw[jH,e])
     show aA F' w' (t0 d) ((a.tmps.setIfInBounds d' u).getD d undef)
     rw[jL]at h4 ⊢
     rw[JB vI]
     exact h4
  unfold og
  rw[show ops.toArray[i]?=some o by simpa using kn]
  rcases hf i o cF[i] kn hvi with ⟨hg,hl⟩ | ⟨hg,hv⟩
  ·simp only[UP hg,if_true]
   refine (hl a F w (fun x hx=>Se x fun d e=>?_) hJ.hp _ Q (fun u F' w' k1 k2 k3=>next F' w' u k1 k2 k3))
   subst e
   exact AB (by unfold yp;exact gN _ (List.mem_filterMap.2 ⟨.tmp d,hx,rfl⟩))
  ·simp only[UP hg,lX,if_false]
   exact next F w undef (.refl _ _) hJ.hp (by rw[hv];exact xV)
end
theorem WD(ok:dE P TT)(hm:P.follows .mixedOrders=true){r:Option Nat}{B n id:Nat}{ops:Array Oper}{t:Tm}{σ:Hp}{K:Tm→Prop}{F:Nat→Prop}{w:World}{a:Act}{Q:Exit→Act→World→Prop}(h0:GF ops.toList=true)(h:HV P TT ops.toList ops.toList t σ K)(hd:∀o∈ops.toList,∀d,o.dst=some d→d<n)(ca:∀o∈ops.toList,∀c,o.op≠.defer c)(hs:dh B n F w t σ a)
  (hq:∀t' F' w' a',bJ F w F' w'→dh B n F' w' t' σ a'→K t'→Q .normal a' w'):(Code.region id ops true).wpIn (FW r) 0 P Q a w:=by
 obtain⟨cF,h1,h2,h3⟩:=RM ok _ _ h
 have pj:bJ F w F { w with drawn:=w.drawn+1 }:=xS hs.hp.low rfl rfl rfl (a8 _) (fun _ _=>rfl)
 refine JX hm ca ?_
 have key:=Yt (P:=P) (Q:=Q) (t0:=t) (B:=B) (n:=n) (adN h0) h1 hd h2 (F0:=F) (w0:=w) (fun F' w' a' k1 k2=>hq _ F' w' a' k1 k2 h3) ops.size (Array.replicate ops.size false) F { w with drawn:=w.drawn+1 } a (by
   unfold left
   refine Nat.le_trans (List.length_filter_le _ _) (by simp)) ⟨hs.hp.same pj (fun _ _=>rfl),hs.size,hs.defers.mono pj,by simp,fun j o ho hl=>?_,fun j o v d ho jH hv hl=>?_,fun d _=>(hs.tm d).mono pj⟩ pj
 ·simpa using key
 ·by_cases hj:j<ops.size <;> simp[Array.getD,hj]at hl
 ·by_cases hj:j<ops.size <;> simp[Array.getD,hj]at hl
end
section
variable {P:Program} {TT:TypeId→Option TI}
def wY(Q:Exit→Act→World→Prop):Exit→Act→World→Prop
 |.panic _,_,_=>False
 |e,a,w=>Q e a w
theorem RU{Q:Exit→Act→World→Prop}:∀(e:Exit) (a:Act) (w:World),wY Q e a w→Q e a w:=fun e a w h=>by
 cases e <;> first | exact h | exact (h:False).elim
theorem rL(ops:List Oper)(aw:List Bool):Region.ready .any ops.toArray aw.toArray=ja ops aw:=by
 unfold Region.ready ja
 simp only[qE]
 apply List.filter_congr
 intro i hi
 have hi:=gm.1 hi
 have e:∀d,aw.toArray.getD i d=aw.getD i d:=fun d=>by simp[Array.getD_eq_getD_getElem?,List.getD_eq_getElem?_getD]
 rw[e]
 congr 1
 simp only[zu,bF hi,Option.map_some,Option.getD_some]
 rw[← Array.all_toList]
 congr 1
 funext x
 simp[Array.getD_eq_getD_getElem?,List.getD_eq_getElem?_getD]
theorem Kv{ops:List Oper}(h:rO ops=true):Region.noSelect ops.toArray=true∧∀(i j:Nat) (o p:Oper),ops[i]?=some o→ops[j]?=some p→i=j∨pZ o j=true∨pZ p i=true∨o.apart ops.toArray p=true:=by
 unfold rO at h
 have hz:∀(i:Nat) (o:Oper),ops[i]?=some o→(o,i)∈ops.zipIdx:=fun i o ho=>by
  rw[Ot];exact ho
 refine⟨?_,fun i j o p hi hj=>?_⟩
 ·unfold Region.noSelect
  rw[← Array.all_toList]
  refine fy.2 fun o ho=>?_
  obtain⟨i,hi⟩:=qG.1 ho
  have:=List.all_eq_true.1 h (o,i) (hz i o (by simpa using hi))
  simp only[bR]at this
  exact this.1
 ·have:=fy.1 h (o,i) (hz i o hi)
  simp only[bR]at this
  have:=fy.1 this.2 (p,j) (hz j p hj)
  simp only[qD]at this
  rcases this with ((h | h) | h) | h
  ·exact .inl (jK h)
  ·exact .inr (.inl h)
  ·exact .inr (.inr (.inl h))
  ·exact .inr (.inr (.inr h))
def Still(ops:List Oper)(i:Nat):Prop:=∀o,ops[i]?=some o→oz o.op=false
def rP(P:Program)(ops:List Oper)(Q:Exit→Act→World→Prop):Nat→Array Bool→Act→World→Prop
 | 0,aw,a,w=>Region.ready .any ops.toArray aw=[]∧Q .normal a w
 |fuel+1,aw,a,w=>(Region.ready .any ops.toArray aw=[]→Q .normal a w)∧
  ∀i∈Region.ready .any ops.toArray aw,og P ops.toArray Q i (fun a' w'=>(Still ops i→w'=w)∧rP P ops Q fuel (aw.setIfInBounds i true) a' w') a w
theorem Pr{ops:List Oper}{Q:Exit→Act→World→Prop}:∀(fuel:Nat) (aw:Array Bool) (a:Act) (w:World),rP P ops Q fuel aw a w→wX P .any ops.toArray Q fuel aw a w
 | 0,_,_,_,h=>h
 |fuel+1,_,_,_,h=>⟨h.1,fun i hi=>J8 (fun a' w' h'=>Pr fuel _ a' w' h'.2) (h.2 i hi)⟩
def C4(ops:List Oper)(aw:Array Bool):Prop:=∀(j:Nat) (o:Oper),ops[j]?=some o→aw.getD j false=true→∀e∈o.after,Region.binds .any e=true→aw.getD e.on false=true
theorem C4.set{ops:List Oper}{aw:Array Bool}(h:C4 ops aw){j:Nat}{o:Oper}(ho:ops[j]?=some o)(hr:∀e∈o.after,Region.binds .any e=true→aw.getD e.on false=true):C4 ops (aw.setIfInBounds j true):=by
 intro k p hp hk e he hb
 by_cases xv:k=j
 ·subst xv
  rw[ho]at hp;cases hp
  exact getD_set_true (hr e he hb)
 ·rw[getD_set_ne false (Ne.symm xv)]at hk
  exact getD_set_true (h k p hp hk e he hb)
theorem Wa{ops:List Oper}{Q:Exit→Act→World→Prop}(h0:rO ops=true){S:World→Prop}{i:Nat}{oi:Oper}{v:Value}(hi:ops[i]?=some oi):
  ∀(fuel:Nat) (aw:Array Bool) (a:Act) (w:World),aw.size=ops.length→C4 ops aw→(∀e∈oi.after,Region.binds .any e=true→aw.getD e.on false=true)→i∈Region.ready .any ops.toArray aw→YieldsIf P ops.toArray S oi v a→S w→((∀w,S w)∨∀(j:Nat) (o:Oper),ops[j]?=some o→oz o.op=true→aw.getD j false=false→pZ o i=true)→
   rP P ops Q fuel (aw.setIfInBounds i true) (a.put oi.dst v) w→rP P ops Q (fuel+1) aw a w:=by
 have eW:ops.toArray[i]?=some oi:=by simpa using hi
 have now:∀(fuel:Nat) (aw:Array Bool) (a:Act) (w:World),YieldsIf P ops.toArray S oi v a→S w→rP P ops Q fuel (aw.setIfInBounds i true) (a.put oi.dst v) w→og P ops.toArray Q i (fun a' w'=>(Still ops i→w'=w)∧rP P ops Q fuel (aw.setIfInBounds i true) a' w') a w:=
  fun fuel aw a w hy xA H=>Wj eW hy xA ⟨fun _=>rfl,H⟩
 intro fuel
 induction fuel with
 |zero=>
  intro aw a w eD hc qx hr hy xA EJ H
  refine⟨fun h=>(by rw[h]at hr;cases hr),fun j hj=>?_⟩
  by_cases tL:j=i
  ·subst tL;exact now 0 aw a w hy xA H
  ·have:=ready_mono hj tL
   rw[H.1]at this
   cases this
 |succ fuel ih=>
  intro aw a w eD hc qx hr hy xA EJ H
  refine⟨fun h=>(by rw[h]at hr;cases hr),fun j hj=>?_⟩
  by_cases tL:j=i
  ·subst tL;exact now (fuel+1) aw a w hy xA H
  ·have h1:=H.2 j (ready_mono hj tL)
   obtain⟨Vy,oj,Nx,cH⟩:=mem_ready.1 hj
   have ag4:=(mem_ready.1 hr).1
   have Vw:¬(pZ oj i=true):=fun hb=>by
    obtain⟨e,he,zj,e1⟩:=zM hb
    have:=cH e he zj
    rw[e1,BN ag4]at this
    cases this
   have DN:ops[j]?=some oj:=by simpa using Nx
   have vL:oi.apart ops.toArray oj=true:=by
    rcases (Kv h0).2 i j oi oj hi DN with e | e | e | e
    ·exact absurd e.symm tL
    ·obtain⟨ed,he,zj,e1⟩:=zM e
     have:=qx ed he zj
     rw[e1,BN Vy]at this
     cases this
    ·exact absurd e Vw
    ·exact e
   have Vo:=Region.noSelect_spec (Kv h0).1
   have h2:=X9 Nx vL (fun cs b=>Vo i oi cs b eW) (fun cs b=>Vo j oj cs b Nx) hy h1
   have af8:(aw.setIfInBounds i true).setIfInBounds j true=(aw.setIfInBounds j true).setIfInBounds i true:=by rw[Array.setIfInBounds_comm _ _ (Ne.symm tL)]
   refine J8 (fun a' w' h3=>?_) h2
   obtain⟨tH,hC',H'⟩:=h3
   have agb:S w':=by
    rcases EJ with hS | Ej
    ·exact hS w'
    ·cases he:oz oj.op with
     |true=>exact absurd (Ej j oj DN he (BN Vy)) Vw
     |false=>rw[hC' (fun o ho=>by rw[DN]at ho;cases ho;exact he)];exact xA
   refine⟨hC',ih (aw.setIfInBounds j true) a' w' (by simpa using eD) (hc.set DN cH) (fun e he hb=>getD_set_true (qx e he hb)) (ready_mono hr (Ne.symm tL)) tH agb ?_ ?_⟩
   ·rcases EJ with hS | Ej
    ·exact .inl hS
    ·refine .inr fun k o ho he hk=>?_
     by_cases xv:k=j
     ·subst xv
      have iw:k<aw.size:=by rw[eD];exact (cg.1 DN).1
      simp[Array.getD,iw]at hk
     ·rw[getD_set_ne false (Ne.symm xv)]at hk
      exact Ej k o ho he hk
   ·rw[← af8]
    exact H'
theorem Ra{o:Op}(h:blind o=true){ρ:Operand→AV}{σ:Hp}{K:AV→Hp→Prop}(hw:gX P TT o ρ σ K):fI P TT o ρ σ (fun v=>K v σ)∧LN o=true:=by
 unfold blind at h
 split at h <;> first | exact⟨hw,rfl⟩ | cases h
theorem Sl{f:Nat→Prop}:∀{l:List Nat},M1 f l→∀i∈l,f i
 | [],_,i,h=>by cases h
 | [x],h,i,hi=>by simp at hi;subst hi;exact h
 |x::y::r,h,i,hi=>by
  rcases eF.1 hi with rfl | hi
  ·exact h.1
  ·exact Sl (l:=y::r) h.2 i hi
theorem PU{o:Op}(h:oz o=false){ρ:Operand→AV}{σ:Hp}{K:AV→Hp→Prop}(hw:gX P TT o ρ σ K):fI P TT o ρ σ (fun v=>K v σ):=by
 unfold oz at h
 simp only[Jj,qD]at h
 rcases h with h | h
 ·exact (Ra h hw).1
 ·cases o <;> first | exact hw | cases h
theorem aaO(ok:dE P TT){B n:Nat}{ops:List Oper}(h0:rO ops=true)(hd:∀o∈ops,∀d,o.dst=some d→d<n){K:Tm→Hp→Prop}{Q:Exit→Act→World→Prop}{F0:Nat→Prop}{w0:World}(hq:∀t' σ' F' w' a',bJ F0 w0 F' w'→dh B n F' w' t' σ' a'→K t' σ'→Q .normal a' w'):
  ∀(m:Nat) (aw:List Bool) (t:Tm) (σ:Hp) (F:Nat→Prop) (w:World) (a:Act),left aw.toArray≤m→aw.length=ops.length→uZ P TT ops (m+1) aw t σ K→dh B n F w t σ a→bJ F0 w0 F w→C4 ops aw.toArray→rP P ops (wY Q) m aw.toArray a w:=by
 intro m
 induction m with
 |zero=>
  intro aw t σ F w a hl hlen h hs ao hC
  have hr:ja ops aw=[]:=by
   rw[← rL,JA]
   intro j hj
   have:=(mem_ready.1 hj).1
   rw[Kp (by omega)]at this
   cases this
  rw[Rc]at h
  rw[hr]at h
  exact⟨by rw[rL];exact hr,hq t σ F w a ao hs h⟩
 |succ m ih=>
  intro aw t σ F w a hl hlen h hs ao hC
  rw[Rc]at h
  split at h
  ·rename_i hr
   refine⟨fun _=>hq t σ F w a ao hs h,fun i hi=>?_⟩
   rw[rL,hr]at hi
   cases hi
  ·rename_i i0 r0 hr
   have guard:∀{o:Oper} {b:Bool},uu ops o t b→Region.wanted o (yielded ops.toArray a.tmps)=b:=fun hg=>FN hg fun d _=>⟨F,w,hs.tm d⟩
   have mem:∀j,j∈ja ops aw→∃o,ops[j]?=some o∧aw.toArray.getD j true=false∧∀e∈o.after,Region.binds .any e=true→aw.toArray.getD e.on false=true:=fun j hj=>by
    rw[← rL]at hj
    obtain⟨h1,o,h2,h3⟩:=mem_ready.1 hj
    exact⟨o,by simpa using h2,h1,h3⟩
   have k9:∀j,(aw.set j true).toArray=aw.toArray.setIfInBounds j true:=fun j=>by simp
   split at h
   ·rename_i j hj
    have NG:=List.mem_of_find?_eq_some hj
    have Bk:=List.find?_some hj
    rw[← hr]at NG
    obtain⟨o,ho,fm,qx⟩:=mem j NG
    unfold LJ at Bk
    rw[ho]at Bk
    have ab:left (aw.toArray.setIfInBounds j true)≤m:=by have:=Co fm;omega
    unfold AR at h
    rw[ho]at h
    have aS:oz o.op=false:=by
     unfold oz
     simp only[qD,bR]at Bk
     rcases Bk with hb | hb
     ·simp[hb]
     ·simp[hb.1]
    have hjr:j∈Region.ready .any ops.toArray aw.toArray:=by rw[rL];exact NG
    have take:∀(S:World→Prop) v,((∀w,S w)∨∀(k:Nat) (o:Oper),ops[k]?=some o→oz o.op=true→aw.toArray.getD k false=false→pZ o j=true)→S w→YieldsIf P ops.toArray S o v a→rP P ops (wY Q) m (aw.toArray.setIfInBounds j true) (a.put o.dst v) w→rP P ops (wY Q) (m+1) aw.toArray a w:=fun S v EJ xA hy hk=>
     Wa h0 ho m aw.toArray a w (by simpa using hlen) hC qx hjr hy xA EJ hk
    have qk:∀(x:AV) (u:Value),aA F w x u→uZ P TT ops (m+1) (aw.set j true) (put t o.dst x) σ K→rP P ops (wY Q) m (aw.toArray.setIfInBounds j true) (a.put o.dst u) w:=fun x u hx hk=>by
     rw[← k9]
     exact ih _ _ σ F w _ (by rw[k9];exact ab) (by simpa using hlen) hk (hs.put (.refl _ _) hs.hp hx (hd o (List.mem_of_getElem? ho))) ao (by rw[k9];exact hC.set ho qx)
    rcases x4 h with ⟨hg,h⟩ | ⟨hg,h⟩
    ·simp only[qD,bR]at Bk
     rcases Bk with hb | ⟨hb,Ej⟩
     ·obtain⟨h1,h2⟩:=Ra hb h
      obtain⟨v,k1,k2⟩:=QI ok h2 h1
      obtain⟨u,r1,r2⟩:=k2 a.eval F w o rfl (fun x _=>hs.tm.eval x)
      exact take (fun _=>True) u (.inl fun _=>trivial) trivial (.inl ⟨guard hg,fun w' _=>r1 w'⟩) (qk v u r2 k1)
     ·obtain⟨v,k1,k2⟩:=FX ok (PU aS h)
      obtain⟨u,r1,r2⟩:=k2 a.eval F w o rfl (fun x _=>hs.tm.eval x) hs.hp
      refine take (fun x=>x=w) u (.inr fun k p hp hk hl=>?_) rfl (.inl ⟨guard hg,fun w' e=>by subst e;exact r1⟩) (qk v u r2 k1)
      have:=fy.1 Ej (p,k) (by rw[Ot];exact hp)
      have ND:aw.getD k false=false:=by
       rw[jL,zu,← bg]at hl
       exact hl
      simpa only [hk,ND,EV,pM]using this
    ·exact take (fun _=>True) undef (.inl fun _=>trivial) trivial (.inr ⟨guard hg,rfl⟩) (qk (.tup []) undef xV h)
   ·refine⟨fun h1=>absurd h1 (by rw[rL,hr];simp),fun j hj=>?_⟩
    rw[rL]at hj
    obtain⟨o,ho,fm,qx⟩:=mem j hj
    have h:=Sl h j (by rw[← hr];exact hj)
    have qz:j<ops.length:=(cg.1 ho).1
    have ab:left (aw.toArray.setIfInBounds j true)≤m:=by have:=Co fm;omega
    unfold AR at h
    rw[ho]at h
    unfold og
    rw[show ops.toArray[j]?=some o by simpa using ho]
    have qk:∀(x:AV) (u:Value) (σ':Hp) (F':Nat→Prop) (w':World),bJ F w F' w'→bA F' w' σ'→aA F' w' x u→(Still ops j→w'=w)→uZ P TT ops (m+1) (aw.set j true) (put t o.dst x) σ' K→(Still ops j→w'=w)∧rP P ops (wY Q) m (aw.toArray.setIfInBounds j true) (a.put o.dst u) w':=fun x u σ' F' w' q1 q2 q3 q4 hk=>by
     refine⟨q4,?_⟩
     rw[← k9]
     exact ih _ _ σ' F' w' _ (by rw[k9];exact ab) (by simpa using hlen) hk (hs.put q1 q2 q3 (hd o (List.mem_of_getElem? ho))) (ao.trans q1) (by rw[k9];exact hC.set ho qx)
    cases he:oz o.op with
    |true=>
     have vac:Still ops j→False:=fun hn=>by
      have:=hn o ho
      rw[he]at this
      cases this
     rcases x4 h with ⟨hg,h⟩ | ⟨hg,h⟩
     ·simp only[guard hg,if_true]
      refine (Kj ok h a F w (fun x _=>hs.tm.eval x) hs.hp _ _ ?_)
      intro v av σ' F' w' q1 q2 q3 q4
      exact qk av v σ' F' w' q1 q2 q3 (fun hn=>(vac hn).elim) q4
     ·simp only[guard hg,lX,if_false]
      exact⟨fun _=>trivial,(qk (.tup []) undef σ F w (.refl _ _) hs.hp xV (fun _=>rfl) h).2⟩
    |false=>
     rcases x4 h with ⟨hg,h⟩ | ⟨hg,h⟩
     ·simp only[guard hg,if_true]
      obtain⟨v,k1,k2⟩:=FX ok (PU he h)
      obtain⟨u,r1,r2⟩:=k2 a.eval F w o rfl (fun x _=>hs.tm.eval x) hs.hp
      unfold wq
      rw[r1]
      exact qk v u σ F w (.refl _ _) hs.hp r2 (fun _=>rfl) k1
     ·simp only[guard hg,lX,if_false]
      exact⟨fun _=>trivial,(qk (.tup []) undef σ F w (.refl _ _) hs.hp xV (fun _=>rfl) h).2⟩
theorem P4(ok:dE P TT)(hm:P.follows .mixedOrders=true){r:Option Nat}{B n id:Nat}{ops:Array Oper}{t:Tm}{σ:Hp}{K:Tm→Hp→Prop}{F:Nat→Prop}{w:World}{a:Act}{Q:Exit→Act→World→Prop}(h0:rO ops.toList=true)(h:uZ P TT ops.toList (ops.toList.length+1) (List.replicate ops.toList.length false) t σ K)(hd:∀o∈ops.toList,∀d,o.dst=some d→d<n)(ca:∀o∈ops.toList,∀c,o.op≠.defer c)(hs:dh B n F w t σ a)
  (hq:∀t' σ' F' w' a',bJ F w F' w'→dh B n F' w' t' σ' a'→K t' σ'→Q .normal a' w'):(Code.region id ops true).wpIn (FW r) 0 P Q a w:=by
 have pj:bJ F w F { w with drawn:=w.drawn+1 }:=xS hs.hp.low rfl rfl rfl (a8 _) (fun _ _=>rfl)
 refine wpIn_mono (JX hm ca ?_) RU
 have key:=aaO (P:=P) (Q:=Q) ok h0 hd (F0:=F) (w0:=w) hq ops.toList.length (List.replicate ops.toList.length false) t σ F { w with drawn:=w.drawn+1 } a (by
   unfold left
   refine Nat.le_trans (List.length_filter_le _ _) (by simp)) (by simp) h ⟨hs.tm.mono pj,hs.hp.same pj (fun _ _=>rfl),hs.size,hs.defers.mono pj⟩ pj (fun j o ho hl=>by
    simp[Array.getD]at hl)
 simpa using Pr _ _ _ _ key
end
section
variable {P:Program} {TT:TypeId→Option TI}
def One(X:(AV→Prop)→Prop):Prop:=∀K,X K→∃v,K v∧∀K':AV→Prop,K' v→X K'
theorem fT{v:AV}:One (fun K=>K v):=fun _ h=>⟨v,h,fun _ h=>h⟩
theorem cP:One (fun _=>False):=fun _ h=>h.elim
theorem qP{p:Prop}{X:(AV→Prop)→Prop}(h:One X):One (fun K=>aI p (X K)):=fun K ⟨hp,h1⟩=>by
 obtain⟨v,h2,h3⟩:=h K h1
 exact⟨v,h2,fun K' hk=>⟨hp,h3 K' hk⟩⟩
theorem FF{v:AV}:One (fun K=>strict v K):=fun K h=>⟨v,(x6 v K)▸h,fun K' h=>by show strict v K';rw[x6];exact h⟩
theorem ach{α:Type}{l:List α}{n:Int}{f:α→AV}:One (fun K=>bL l n fun d=>K (f d)):=fun _ ⟨x,h0,h1,go⟩=>⟨f x,go,fun _ h=>⟨x,h0,h1,h⟩⟩
theorem GJ{b:Bool}:One (fun K=>oF b K):=fun K h=>⟨.bool b,by cases b <;> exact h,fun K' h=>by cases b <;> exact h⟩
theorem RN{t:TypeId}{xs ys:List AV}{f:Bool→Bool}:One (fun K=>EqAt P TT t xs ys fun b=>oF (f b) K):=fun K ⟨h1,h2,go⟩=>by
 obtain⟨v,k1,k2⟩:=GJ K go
 exact⟨v,k1,fun K' h=>⟨h1,h2,k2 K' h⟩⟩
theorem YF{t:TypeId}{m:String}{X:(AV→Prop)→Prop}(h:One X):One (fun K=>fi P t m (X K)):=fun K ⟨hp,h1⟩=>by
 obtain⟨v,h2,h3⟩:=h K h1
 exact⟨v,h2,fun K' hk=>⟨hp,h3 K' hk⟩⟩
theorem YD(k:TK)(want:Bool)(x y:AV):One (Aw k want x y):=by
 intro K h
 unfold Aw at h
 split at h
 all_goals first | exact⟨_,h,fun _ h=>h⟩ | exact h.elim | exact qP fT K h
theorem acg(op:BinOp)(k:IntKind)(a b:Int):One (HZ op k a b):=by
 cases op <;> first | exact GJ | exact qP fT | exact fT | exact cP
theorem YC(op:BinOp)(k:IntKind)(a b:Int):One (G4 op k a b):=by
 cases op <;> first | exact qP fT | exact cP
theorem B9{b:Bool}{X Y:(AV→Prop)→Prop}(h1:One X)(h2:One Y):One (fun K=>match b with | true=>X K | false=>Y K):=by cases b;exact h2;exact h1
set_option maxHeartbeats 1000000 in
theorem acj(op:BinOp)(t:TypeId)(y0:Operand)(x y:AV):One (DZ TT op t y0 x y):=by
 unfold DZ
 cases x <;> cases y
 case int.int k a k' b=>cases op <;> first | exact YC _ _ _ _ | exact B9 (acg _ _ _ _) cP
 case bool.bool a b=>
  rcases TT t with _ | ⟨k,s,qI,z⟩
  ·exact cP
  ·cases k <;> cases op <;> first | exact GJ | exact cP
 case str.str a b=>cases op <;> first | exact GJ | exact cP
 all_goals
  cases hc:SU y0 <;> cases ht:TT t <;> cases op <;> first | exact cP | exact YD _ _ _ _
theorem aah(op:BinOp)(t:TypeId)(y0:Operand)(x y:AV):One (D1 P TT op t y0 x y):=by
 unfold D1
 split
 ·cases op <;> first | exact RN (f:=fun b=>b) | exact RN (f:=fun b=> !b) | exact cP
 ·cases op <;> first | exact qP fT | exact cP
 ·exact acj _ _ _ _ _
theorem adU(op:UnOp)(x:AV):One (D6 op x):=by
 unfold D6
 split <;> first | exact fT | exact cP
theorem aag(s d:TypeId)(x:AV):One (Dp TT s d x):=by
 unfold Dp
 split <;> first | exact fT | exact qP fT | exact cP
theorem YB(t:TypeId)(x:AV)(lo hi mx:Option AV):One (Ah TT t x lo hi mx):=by
 unfold Ah
 split
 ·split
  ·split <;> first | exact qP fT | exact cP
  ·split <;> first | exact qP fT | exact cP
  ·split <;> first | exact qP fT | exact cP
  ·exact cP
 ·split
  ·split <;> first | exact qP fT | exact cP
  ·exact cP
 ·exact cP
theorem aae(t:TypeId)(x ix:AV):One (BW TT t x ix):=by
 unfold BW
 split
 ·split <;> first | exact qP ach | exact qP fT | exact cP
 ·split <;> first | exact qP fT | exact cP
 ·exact cP
theorem VZ(s:TypeId)(x:AV)(f:Nat):One (BZ TT s x f):=by
 unfold BZ
 split
 ·split
  ·split
   ·split <;> first | exact fT | exact cP
   ·exact cP
  ·exact cP
 ·exact cP
theorem YE(s:TypeId)(x:AV)(f:Nat):One (C0 TT s x f):=by
 unfold C0
 split
 ·split
  ·split
   ·split <;> first | exact fT | exact cP
   ·exact cP
  ·exact cP
 ·exact cP
theorem acf(k:TK)(x:AV):One (DG k x):=by
 unfold DG
 split <;> first | exact fT | exact cP
theorem aci(k:TK)(x:AV):One (DY k x):=by
 unfold DY
 split <;> first | exact fT | exact cP
theorem acd(xs:List AV):One (DC xs):=by
 unfold DC
 split
 ·exact B9 fT cP
 ·exact cP
theorem ace(xs:List AV):One (DD xs):=by
 unfold DD
 split
 ·exact B9 fT cP
 ·exact cP
theorem aaf(x y:AV):One (Dn x y):=by
 unfold Dn
 split <;> first | exact fT | exact cP
theorem aab(x:AV):One (C7 x):=by
 unfold C7
 split <;> first | exact fT | exact cP
theorem aad(x:AV):One (Dd x):=by
 unfold Dd
 split <;> first | exact fT | exact cP
theorem aac(i:TI)(a:AV)(σ:Hp):One (qc i a σ):=by
 unfold qc
 split
 ·split <;> first | exact fT | exact cP
 ·exact fun K ⟨j,cs,v,h1,h2,go⟩=>⟨v,go,fun K' h=>⟨j,cs,v,h1,h2,h⟩⟩
 ·exact cP
theorem Xu(t:TypeId)(m k:AV)(c:Bool)(σ:Hp):One (CJ TT t m k c σ):=by
 unfold CJ
 split
 ·intro K ⟨j,b,l,hm,h1,go⟩
  cases c with
  |true=>exact⟨_,go,fun K' h=>⟨j,b,l,hm,h1,h⟩⟩
  |false=>exact⟨_,go,fun K' h=>⟨j,b,l,hm,h1,h⟩⟩
 ·exact cP
theorem GI(o:Op)(ρ:Operand→AV)(σ:Hp):One (fI P TT o ρ σ):=by
 unfold fI
 split
 ·exact FF
 ·exact FF
 ·split
  ·exact B9 FF FF
  ·exact cP
 ·split <;> first | exact fT | exact cP
 ·split <;> first | exact aac _ _ _ | exact cP
 ·split <;> first | exact fT | exact YF fT | exact cP
 ·exact aah _ _ _ _ _
 ·exact adU _ _
 ·exact aag _ _ _
 ·split <;> first | exact fT | exact cP
 ·exact fT
 ·exact YB _ _ _ _ _
 ·exact VZ _ _ _
 ·exact YE _ _ _
 ·exact aae _ _ _
 ·split <;> first | exact B9 fT fT | exact fT | exact cP
 ·exact Xu _ _ _ _ _
 ·split
  ·split <;> first | exact fT | exact cP
  ·exact cP
 ·split
  ·split <;> first | exact acf _ _ | exact cP
  ·exact cP
 ·split <;> first | exact acd _ | exact cP
 ·split <;> first | exact ace _ | exact cP
 ·split <;> first | exact aaf _ _ | exact cP
 ·split <;> first | exact aab _ | exact cP
 ·split <;> first | exact aad _ | exact cP
 ·split
  ·split <;> first | exact aci _ _ | exact cP
  ·exact cP
 ·exact cP
theorem XY{o:Op}(hb:blind o=true){ρ:Operand→AV}{σ σ':Hp}{K:AV→Prop}(h:fI P TT o ρ σ K):fI P TT o ρ σ' K:=by
 cases o <;> first | exact h | cases hb | (rename_i c;obtain⟨f,args,cz⟩:=c;cases f <;> first | cases hb | (rename_i b;cases b <;> first | exact h | cases hb))
theorem WE(c:Call)(ρ:Operand→AV)(σ:Hp):One (fun K=>pX P c ρ (fun f xs=>te P f xs σ K) (fun _ _=>False)):=by
 have L3:∀(f:FuncId) (xs:List AV),One (te P f xs σ):=fun f xs K h=>by
  cases h with
  |mk js r call go=>exact⟨r,go,fun K' h=>.mk js r call h⟩
  |perm hp r call go=>exact⟨r,go,fun K' h=>.perm hp r call h⟩
 unfold pX
 split
 ·split <;> first | exact L3 _ _ | exact cP
 ·split
  ·exact fun K ⟨g,h,go⟩=>(L3 _ _ K go).imp fun v hv=>⟨hv.1,fun K' hk=>⟨g,h,hv.2 K' hk⟩⟩
  ·exact fun K ⟨g,h,go⟩=>(L3 _ _ K go).imp fun v hv=>⟨hv.1,fun K' hk=>⟨g,h,hv.2 K' hk⟩⟩
  ·exact cP
 ·exact cP
theorem SV(o:Op)(ρ:Operand→AV)(σ:Hp):One (vr P TT o ρ σ):=by
 unfold vr
 split
 ·exact GI _ _ _
 ·exact WE _ _ _
 ·exact GI _ _ _
theorem Xe{l:Nat}{K K':AV→Hp→Prop}(hk:∀v σ,K v σ→K' v σ){xs:List AV}{σ:Hp}(h:wQ P l K xs σ):wQ P l K' xs σ:=by
 cases h with
 |mk js R call go=>exact .mk js R call fun r σ' hr=>hk _ _ (go r σ' hr)
 |perm R hp call go=>exact .perm R hp call fun r σ' hr=>(go r σ' hr).imp fun eb h=>⟨h.1,hk _ _ h.2⟩
theorem W5{c:Call}{ρ:Operand→AV}{A B:FuncId→List AV→Prop}{Y Z:Nat→List AV→Prop}(pJ:∀f xs,A f xs→B f xs)(Eh:∀l xs,Y l xs→Z l xs)(h:pX P c ρ A Y):pX P c ρ B Z:=by
 unfold pX at h ⊢
 split at h
 ·split at h
  ·exact pJ _ _ h
  ·exact Eh _ _ h
  ·exact h.elim
 ·split at h
  ·obtain⟨g,h1,h2⟩:=h;exact⟨g,h1,pJ _ _ h2⟩
  ·obtain⟨g,h1,h2⟩:=h;exact⟨g,h1,pJ _ _ h2⟩
  ·exact h.elim
 ·exact h.elim
theorem Zi{f:FuncId}{K K':AV→Hp→Prop}(hk:∀v σ,K v σ→K' v σ){xs:List AV}{σ:Hp}(h:CallAt P f K xs σ):CallAt P f K' xs σ:=by
 induction h with
 |mk js R call go=>exact .mk js R call fun r σ' hr=>hk _ _ (go r σ' hr)
 |perm R hp call go=>exact .perm R hp call fun r σ' hr=>(go r σ' hr).imp fun eb h=>⟨h.1,hk _ _ h.2⟩
 |cJ j b off len es cs e l h1 h2 h3 h4 h ih=>exact .cJ j b off len es cs e l h1 h2 h3 h4 ih
 |kz j b off len es cs e l h1 h2 h3 i k b' cs' hi hk h ih=>exact .kz j b off len es cs e l h1 h2 h3 i k b' cs' hi hk ih
theorem Zq{i:TI}{σ:Hp}{s x:AV}{K K':AV→Hp→Prop}(hk:∀v σ,K v σ→K' v σ)(h:AppendAt i σ s x K):AppendAt i σ s x K':=by
 cases h with
 |fresh n new hs hx hn hb h0 go same=>exact .fresh n new hs hx hn hb h0 (fun h b=>hk _ _ (go h b)) (fun h=>hk _ _ (same h))
 |more j b len n cs new hs h1 h2 hx hn hb h0 go=>exact .more j b len n cs new hs h1 h2 hx hn hb h0 (fun b=>hk _ _ (go b))
 |Ax j b off len n cs new hs h1 h2 hx hn hb h0 xh go=>exact .Ax j b off len n cs new hs h1 h2 hx hn hb h0 (hk _ _ xh) (fun b=>hk _ _ (go b))
 |perm K2 hp h dX=>exact .perm K2 hp h fun v eb h=>(dX v eb h).imp fun yY h=>⟨h.1,h.2.imp (hk _ _) fun h=>⟨h.1,hk _ _ h.2⟩⟩
theorem Zp{i:TI}{σ:Hp}{s x:AV}{K K':AV→Hp→Prop}(hk:∀v σ,K v σ→K' v σ)(h:CU i σ s x K):CU i σ s x K':=by
 cases h with
 |aj k n hs hx hn hb h0 go same=>exact .aj k n hs hx hn hb h0 (fun h b=>hk _ _ (go h b)) (fun h=>hk _ _ (same h))
theorem aa7{o:Op}{ρ:Operand→AV}{σ:Hp}{K K':AV→Hp→Prop}(hk:∀v σ,K v σ→K' v σ)(h:gX P TT o ρ σ K):gX P TT o ρ σ K':=by
 have dd:∀{o:Op},fI P TT o ρ σ (fun v=>K v σ)→fI P TT o ρ σ (fun v=>K' v σ):=fun h=>by
  obtain⟨v,h1,h2⟩:=GI _ _ _ _ h
  exact h2 _ (hk _ _ h1)
 unfold gX at h ⊢
 split at h
 ·split at h
  ·exact fun b=>hk _ _ (h b)
  ·exact h.elim
 ·split at h
  ·exact fun b=>hk _ _ (h b)
  ·exact h.elim
 ·split at h
  ·split at h
   ·split at h
    ·exact fun b=>hk _ _ (h b)
    ·exact h.elim
   ·exact h.elim
  ·exact h.elim
 ·split at h
  ·split at h
   ·exact⟨h.fact,fun b=>hk _ _ (h.go b)⟩
   ·exact h.elim
  ·exact h.elim
 ·split at h
  ·split at h
   ·obtain⟨j,cs,cs',h1,h2,go⟩:=h;exact⟨j,cs,cs',h1,h2,hk _ _ go⟩
   ·exact h.elim
  ·exact h.elim
 ·split at h
  ·exact fun b=>hk _ _ (h b)
  ·exact h.elim
 ·unfold Ab at h ⊢
  split at h
  ·obtain⟨j,b,l,hm,h1,go⟩:=h;exact⟨j,b,l,hm,h1,hk _ _ go⟩
  ·exact h.elim
 ·unfold Ab at h ⊢
  split at h
  ·obtain⟨j,b,l,hm,h1,go⟩:=h;exact⟨j,b,l,hm,h1,hk _ _ go⟩
  ·exact h.elim
 ·unfold G7 at h ⊢
  split at h
  ·obtain⟨j,b,l,hm,h1,go⟩:=h;exact⟨j,b,l,hm,h1,fun r=>hk _ _ (go r)⟩
  ·exact h.elim
 ·split at h
  ·obtain⟨j,j2,r,b,l,seen,hx,h1,h2,stop,go⟩:=h;exact⟨j,j2,r,b,l,seen,hx,h1,h2,fun h=>hk _ _ (stop h),fun i p h3 h4=>hk _ _ (go i p h3 h4)⟩
  ·exact h.elim
 ·obtain⟨j,j2,r,b,i,l,p,seen,hx,h1,h2,h3,go⟩:=h;exact⟨j,j2,r,b,i,l,p,seen,hx,h1,h2,h3,hk _ _ go⟩
 ·split at h
  ·split at h
   ·split at h
    ·exact Zq hk h
    ·exact h.elim
   ·split at h
    ·exact Zp hk h
    ·exact h.elim
   ·exact h.elim
  ·exact h.elim
 ·split at h
  ·split at h
   ·split at h
    ·cases h with
     |none hs go=>exact .none hs (hk _ _ go)
     |ae j b off len cs hs h1 h2 go=>exact .ae j b off len cs hs h1 h2 (hk _ _ go)
    ·exact h.elim
   ·exact h.elim
  ·exact h.elim
 ·split at h
  ·split at h
   ·split at h
    ·cases h with
     |none new hd hx go=>exact .none new hd hx (hk _ _ go)
     |ae j b off len n cs new hd h1 h2 hx hn go=>exact .ae j b off len n cs new hd h1 h2 hx hn (hk _ _ go)
     |part j b off len cs hd h1 h2 j2 b2 ny n kJ hx h3 h4 hn go=>exact .part j b off len cs hd h1 h2 j2 b2 ny n kJ hx h3 h4 hn (hk _ _ go)
    ·exact h.elim
   ·exact h.elim
  ·exact h.elim
 ·exact dd h
 ·exact W5 (fun f xs h=>Zi hk h) (fun l xs h=>Xe hk h) h
 ·exact dd h
theorem map_eq{ρ iH:Operand→AV}{l:List Operand}(h:∀x∈l,ρ x=iH x):l.map ρ=l.map iH:=vR h
theorem JJ{c:Call}{ρ iH:Operand→AV}(h:∀x∈(Op.call c).operands.toList,ρ x=iH x):(∀f,c.callee=.value f→ρ f=iH f)∧(∀r m,c.callee=.invoke r m→ρ r=iH r)∧∀x∈c.args.toList,ρ x=iH x:=by
 obtain⟨f,args,cz⟩:=c
 simp only[Op.operands,Call.operands,BI,bV]at h
 refine⟨fun g e=>?_,fun r m e=>?_,fun x hx=>h x (.inr hx)⟩
 ·subst e;exact h g (.inl (by simp))
 ·subst e;exact h r (.inl (by simp))
theorem Ft{c:Call}{ρ iH:Operand→AV}{A:FuncId→List AV→Prop}{Y:Nat→List AV→Prop}(h:∀x∈(Op.call c).operands.toList,ρ x=iH x):pX P c ρ A Y=pX P c iH A Y:=by
 obtain⟨h1,h2,h3⟩:=JJ h
 have e:(c.args.toList.map fun x=>bQ (ρ x))=c.args.toList.map fun x=>bQ (iH x):=vR fun x hx=>by rw[h3 x hx]
 unfold pX
 rw[e]
 split
 ·rename_i f hf;rw[h1 f hf]
 ·rename_i r m hr;rw[h2 r m hr]
 ·rfl
theorem Kk{o:Op}{ρ iH:Operand→AV}{σ:Hp}{K:AV→Prop}(h:∀x∈o.operands.toList,ρ x=iH x):fI P TT o ρ σ K=fI P TT o iH σ K:=by
 cases o with
 |call c=>
  obtain⟨f,args,cz⟩:=c
  obtain⟨_,_,h3⟩:=JJ h
  cases f with
  |builtin b=>
   obtain⟨l⟩:=args
   have h3:∀x∈l,ρ x=iH x:=h3
   match l,h3 with
   | [],_=>cases b <;> rfl
   | [x],h3=>
    have hx:=h3 x (by simp)
    cases b <;> first | rfl | (obtain⟨cz⟩:=cz;rcases cz with _ | ⟨t,_ | ⟨t',_ | ⟨y7,r⟩⟩⟩ <;> first | rfl | simp only[fI,hx])
   | [x,y],h3=>
    have hx:=h3 x (by simp)
    have hy:=h3 y (by simp)
    cases b <;> first | rfl | (obtain⟨cz⟩:=cz;rcases cz with _ | ⟨t,_ | ⟨t',_ | ⟨y7,r⟩⟩⟩ <;> first | rfl | simp only[fI,hx,hy])
   |_::_::_::_,_=>cases b <;> rfl
  |_=>rfl
 |build t parts=>
  have e:(parts.toList.map fun p=>(p.1,ρ p.2))=parts.toList.map fun p=>(p.1,iH p.2):=vR fun p hp=>by rw[h p.2 (by simp only[Op.operands];exact dP.2 ⟨p,hp,rfl⟩)]
  show (match Hi TT t (parts.toList.map fun p=>(p.1,ρ p.2)) with | some v=>K v | none=>False)=_
  rw[e];rfl
 |makeFunc f first cap=>
  have e1:first.toList.map ρ=first.toList.map iH:=map_eq fun x hx=>h x (by simp only[Op.operands,BI,bV];exact .inl hx)
  have e2:cap.toList.map ρ=cap.toList.map iH:=map_eq fun x hx=>h x (by simp only[Op.operands,BI,bV];exact .inr hx)
  show K (.fn f (first.toList.map ρ) (cap.toList.map ρ))=_
  rw[e1,e2];rfl
 |slice t x lo hi mx=>
  have hx:=h x (by simp[Op.operands])
  have e:∀(o:Option Operand),(∀y,o=some y→y∈(Op.slice t x lo hi mx).operands.toList)→(o.map fun x=>bQ (ρ x))=o.map fun x=>bQ (iH x):=fun o ho=>by
   cases o with
   |none=>rfl
   |some y=>simp[h y (ho y rfl)]
  show Ah TT t (bQ (ρ x)) (lo.map fun x=>bQ (ρ x)) (hi.map fun x=>bQ (ρ x)) (mx.map fun x=>bQ (ρ x)) K=_
  rw[hx,e lo (fun y hy=>by subst hy;simp[Op.operands]),e hi (fun y hy=>by subst hy;simp[Op.operands]),e mx (fun y hy=>by subst hy;simp[Op.operands])];rfl
 |pick c a b=>simp only[fI,h c (by simp[Op.operands]),h a (by simp[Op.operands]),h b (by simp[Op.operands])]
 |binOp op t x y yt=>simp only[fI,h x (by simp[Op.operands]),h y (by simp[Op.operands])]
 |indexAddr t x y=>simp only[fI,h x (by simp[Op.operands]),h y (by simp[Op.operands])]
 |lookup t x y c=>simp only[fI,h x (by simp[Op.operands]),h y (by simp[Op.operands])]
 |_=>first | rfl | (rename_i x;simp only[fI,h x (by simp[Op.operands])]) | (rename_i x _;simp only[fI,h x (by simp[Op.operands])]) | (rename_i x _ _;simp only[fI,h x (by simp[Op.operands])]) | (rename_i x _ _ _;simp only[fI,h x (by simp[Op.operands])])
theorem QH{o:Op}{ρ iH:Operand→AV}{σ:Hp}{K:AV→Prop}(h:∀x∈o.operands.toList,ρ x=iH x):vr P TT o ρ σ K=vr P TT o iH σ K:=by
 have hd:=Kk (P:=P) (TT:=TT) (σ:=σ) (K:=K) h
 cases o with
 |call c=>
  obtain⟨f,args,cz⟩:=c
  cases f with
  |builtin b=>exact hd
  |value g=>exact Ft (P:=P) (A:=fun f xs=>te P f xs σ K) (Y:=fun _ _=>False) h
  |invoke r m=>exact Ft (P:=P) (A:=fun f xs=>te P f xs σ K) (Y:=fun _ _=>False) h
 |_=>exact hd
theorem QE{o:Op}{ρ iH:Operand→AV}{σ:Hp}{K:AV→Hp→Prop}(h:∀x∈o.operands.toList,ρ x=iH x):gX P TT o ρ σ K=gX P TT o iH σ K:=by
 have hd:=Kk (P:=P) (TT:=TT) (σ:=σ) (K:=fun v=>K v σ) h
 cases o with
 |call c=>
  obtain⟨f,args,cz⟩:=c
  obtain⟨_,_,h3⟩:=JJ h
  cases f with
  |builtin b=>
   obtain⟨l⟩:=args
   have h3:∀x∈l,ρ x=iH x:=h3
   match l,h3 with
   | [],_=>cases b <;> first | exact hd | rfl
   | [x],h3=>
    have hx:=h3 x (by simp)
    cases b <;> first | exact hd | rfl | (obtain⟨cz⟩:=cz;rcases cz with _ | ⟨t,_ | ⟨t',_ | ⟨y7,r⟩⟩⟩ <;> first | rfl | simp only[gX,hx])
   | [x,y],h3=>
    have hx:=h3 x (by simp)
    have hy:=h3 y (by simp)
    cases b <;> first | exact hd | rfl | (obtain⟨cz⟩:=cz;rcases cz with _ | ⟨t,_ | ⟨t',_ | ⟨y7,r⟩⟩⟩ <;> first | rfl | simp only[gX,hx,hy])
   |_::_::_::_,_=>cases b <;> first | exact hd | rfl
  |value g=>exact Ft (P:=P) (A:=fun f xs=>CallAt P f K xs σ) (Y:=fun l xs=>wQ P l K xs σ) h
  |invoke r m=>exact Ft (P:=P) (A:=fun f xs=>CallAt P f K xs σ) (Y:=fun l xs=>wQ P l K xs σ) h
 |box t x=>simp only[gX,h x (by simp[Op.operands])]
 |buildSlice t len parts=>
  have e:(parts.toList.map fun p=>(p.1,ρ p.2))=parts.toList.map fun p=>(p.1,iH p.2):=vR fun p hp=>by rw[h p.2 (by simp only[Op.operands];exact dP.2 ⟨p,hp,rfl⟩)]
  simp only[gX,e]
 |makeSlice t l c=>simp only[gX,h l (by simp[Op.operands]),h c (by simp[Op.operands])]
 |store t a x=>simp only[gX,h a (by simp[Op.operands]),h x (by simp[Op.operands])]
 |makeMap t r=>cases r with
  |none=>rfl
  |some r=>exact hd
 |mapUpdate t m k x=>simp only[gX,h m (by simp[Op.operands]),h k (by simp[Op.operands]),h x (by simp[Op.operands])]
 |insert t m k x=>simp only[gX,h m (by simp[Op.operands]),h k (by simp[Op.operands]),h x (by simp[Op.operands])]
 |range t x=>simp only[gX,h x (by simp[Op.operands])]
 |next x s=>simp only[gX,h x (by simp[Op.operands])]
 |entry x=>simp only[gX,h x (by simp[Op.operands])]
 |_=>first | exact hd | rfl
theorem wo{ops:List Oper}{Q:List Nat}{n:Nat}{aw:List Bool}{t:Tm}{σ:Hp}{K:Tm→Hp→Prop}:ql P TT ops Q (n+1) aw t σ K=((ja ops aw=[]→K t σ)∧∀i∈ja ops aw,jR P TT ops (eZ i Q) i t σ fun t' σ'=>ql P TT ops Q n (aw.set i true) t' σ' K):=rfl
def ub(_ops:List Oper)(aw:List Bool)(o:Oper):Prop:=∀e∈o.after.toList,Region.binds .any e=true→aw.getD e.on false=true
theorem wj{ops:List Oper}{aw:List Bool}{i:Nat}:i∈ja ops aw↔aw.getD i true=false∧∃o,ops[i]?=some o∧ub ops aw o:=by
 unfold ja ub
 simp only[nQ,gm,bR,lB]
 constructor
 ·rintro⟨h1,h2,h3⟩
  refine⟨h2,ops[i],by simp[h1],?_⟩
  rw[bF h1]at h3
  intro e he hb
  have:=fy.1 h3 e he
  simpa [hb]using this
 ·rintro⟨h2,o,h1,h3⟩
  refine⟨(cg.1 h1).1,h2,?_⟩
  rw[h1]
  refine fy.2 fun e he=>?_
  cases hb:Region.binds .any e with
  |false=>simp
  |true=>rw[h3 e he hb];simp
def Af(ops:List Oper)(aw:List Bool):Prop:=∀(j:Nat) (o:Oper),ops[j]?=some o→aw.getD j false=true→ub ops aw o
theorem OT{l:List Bool}{i k:Nat}(h:l.getD k false=true):(l.set i true).getD k false=true:=by
 rw[bg]at h ⊢
 rw[e8]
 split
 ·rename_i e;subst e
  split
  ·rfl
  ·rename_i hn;rw[tZ (by omega)]at h;cases h
 ·exact h
theorem O7{l:List Bool}{i k:Nat}(b:Bool)(h:k≠i):(l.set i true).getD k b=l.getD k b:=by
 rw[bg,bg,e8,ag (Ne.symm h)]
theorem GS{l:List Bool}{i:Nat}(h:l.getD i true=false):l.getD i false=false:=by
 rw[bg]at h ⊢
 cases hq:l[i]? with
 |none=>rw[hq]at h;cases h
 |some b=>rw[hq]at h;exact h
theorem ub.set{ops:List Oper}{aw:List Bool}{o:Oper}(h:ub ops aw o)(i:Nat):ub ops (aw.set i true) o:=fun e he hb=>OT (h e he hb)
theorem Af.set{ops:List Oper}{aw:List Bool}(h:Af ops aw){j:Nat}{o:Oper}(ho:ops[j]?=some o)(hr:ub ops aw o):Af ops (aw.set j true):=by
 intro k p hp hk
 by_cases xv:k=j
 ·subst xv
  rw[ho]at hp;cases hp
  exact hr.set k
 ·rw[O7 false xv]at hk
  exact (h k p hp hk).set j
theorem Qx{ops:List Oper}{aw:List Bool}{i j:Nat}(hi:i∈ja ops aw)(h:i≠j):i∈ja ops (aw.set j true):=by
 obtain⟨h1,o,h2,h3⟩:=wj.1 hi
 exact wj.2 ⟨by rw[O7 true h];exact h1,o,h2,h3.set j⟩
theorem RW{j:Nat}{l:List Nat}:eZ j l=true↔j∈l:=by
 unfold eZ
 rw[mV]
 exact⟨fun ⟨x,h1,h2⟩=>jK h2▸h1,fun h=>⟨j,h,xF j⟩⟩
def Dt(ops:List Oper)(k:Nat)(row:List Nat):Prop:=∀o,ops[k]?=some o→∀aw,Af ops aw→ub ops aw o→∀j∈row,aw.getD j false=true
theorem abT{ops:List Oper}{acc:List (List Nat)}(hlen:acc.length≤ops.length)(h:∀(k:Nat) (row:List Nat),acc[k]?=some row→Dt ops k row){k:Nat}{o:Oper}(ho:ops[k]?=some o):Dt ops k (My o acc):=by
 intro o' ep aw hc hr j hj
 rw[ho]at ep;cases ep
 unfold My at hj
 obtain⟨e,he,hj⟩:=List.mem_flatMap.1 hj
 split at hj
 ·rename_i hb
  have lT:=hr e he hb
  rcases eF.1 hj with rfl | hj
  ·exact lT
  ·cases hq:acc[e.on]? with
   |none=>rw[hq]at hj;simp at hj
   |some row=>
    rw[hq]at hj
    cases hp:ops[e.on]? with
    |some p=>exact h e.on row hq p hp aw hc (hc e.on p hp lT) j (by simpa using hj)
    |none=>
     have h1:=(cg.1 hq).1
     have h2:=List.getElem?_eq_none_iff.1 hp
     omega
 ·cases hj
theorem RA{ops:List Oper}:∀(os:List Oper) (acc:List (List Nat)) (pre:List Oper),ops=pre++os→acc.length=pre.length→(∀(k:Nat) (row:List Nat),acc[k]?=some row→Dt ops k row)→∀(k:Nat) (row:List Nat),(L2 os acc)[k]?=some row→Dt ops k row
 | [],acc,pre,_,_,h=>h
 |o::os,acc,pre,he,hl,h=>by
  refine RA os _ (pre++[o]) (by rw[he];simp) (by simp[hl]) ?_
  intro k row hk
  by_cases ab:k<acc.length
  ·rw[jY ab]at hk
   exact h k row hk
  ·have ec:=hk
   rw[iX (by omega)]at hk
   have hz:k-acc.length=0:=by
    have:=(cg.1 hk).1
    simp at this;omega
   rw[hz]at hk
   simp only[List.getElem?_cons_zero,Option.some.injEq]at hk
   subst hk
   have aP:k=pre.length:=by omega
   have ho:ops[k]?=some o:=by rw[he,aP];simp
   intro o' ep aw hc hr j hj
   exact abT (by rw[he,hl];simp) h ho o' ep aw hc hr j (List.mem_eraseDups.1 hj)
def agd(want:Bool)(x:AV)(A B:Prop):Prop:=
 match x with
 |.bool b=>(match want,b with | true,true=>A | true,false=>B | false,true=>B | false,false=>A)
 |.tup []=>B
 |_=>False
theorem BX{ops:List Oper}{o:Oper}{t:Tm}{A B:Prop}(h:pf ops o t A B):
  (A∧∀(t2:Tm),(∀d∈o.looksAt ops.toArray,t2 d=t d)→∀{A' B':Prop},A'→pf ops o t2 A' B')∨(B∧∀(t2:Tm),(∀d∈o.looksAt ops.toArray,t2 d=t d)→∀{A' B':Prop},B'→pf ops o t2 A' B'):=by
 unfold pf at h
 split at h
 ·rename_i hg
  refine .inl ⟨h,fun t2 _ A' B' ha=>?_⟩
  unfold pf;rw[hg];exact ha
 ·rename_i j want hg
  split at h
  ·rename_i d hd
   have yU:d∈o.looksAt ops.toArray:=by
    unfold Oper.looksAt
    rw[hg]
    simp only[zu,hd,Option.toList_some,bV,bB,or_true]
   have go:∀(t2:Tm),(∀d∈o.looksAt ops.toArray,t2 d=t d)→∀{A' B':Prop},agd want (t d) A' B'→pf ops o t2 A' B':=fun t2 h2 A' B' hx=>by
    unfold pf
    rw[hg]
    dsimp only
    rw[hd]
    dsimp only
    rw[h2 d yU]
    exact hx
   split at h
   ·rename_i b hb
    cases want <;> cases b
    ·exact .inl ⟨h,fun t2 h2 A' B' ha=>go t2 h2 (by rw[hb];exact ha)⟩
    ·exact .inr ⟨h,fun t2 h2 A' B' ha=>go t2 h2 (by rw[hb];exact ha)⟩
    ·exact .inr ⟨h,fun t2 h2 A' B' ha=>go t2 h2 (by rw[hb];exact ha)⟩
    ·exact .inl ⟨h,fun t2 h2 A' B' ha=>go t2 h2 (by rw[hb];exact ha)⟩
   ·rename_i hb
    exact .inr ⟨h,fun t2 h2 A' B' ha=>go t2 h2 (by rw[hb];exact ha)⟩
   ·exact h.elim
  ·exact h.elim
theorem CQ{ops:List Oper}{o:Oper}{t t2:Tm}(h:∀d∈o.looksAt ops.toArray,t2 d=t d):∀x∈o.op.operands.toList,ev t2 x=ev t x:=by
 intro x hx
 cases x with
 |tmp d=>
  refine h d ?_
  unfold Oper.looksAt
  refine gN _ (List.mem_filterMap.2 ⟨_,hx,rfl⟩)
 |_=>rfl
theorem aap{o:Op}(h:s6 o=true){ρ:Operand→AV}{σ:Hp}{K:AV→Hp→Prop}:gX P TT o ρ σ K=fI P TT o ρ σ (fun v=>K v σ):=by
 cases o <;> first | rfl | cases h
theorem Zk{o:Op}(h:blind o=true){ρ:Operand→AV}{σ:Hp}{K:AV→Hp→Prop}:gX P TT o ρ σ K=fI P TT o ρ σ (fun v=>K v σ):=by
 cases o <;> first | rfl | cases h | (rename_i c;obtain⟨f,args,cz⟩:=c;cases f <;> first | cases h | (rename_i b;cases b <;> first | rfl | cases h))
theorem YT{o:Op}(h:s6 o=true){ρ:Operand→AV}{σ:Hp}{K:AV→Prop}(c:Nat×List AV)(hd:fI P TT o ρ σ K):fI P TT o ρ (c::σ) K:=by
 have key:∀{i:TI} {a:AV},qc i a σ K→qc i a (c::σ) K:=fun {i a} h=>by
  unfold qc at h ⊢
  cases a <;> first | exact h | (cases h with | mk j cs v h1 h2 go=>exact .mk (j+1) cs v h1 h2 go)
 cases o <;> first | cases h | skip
 unfold fI at hd ⊢
 dsimp only at hd ⊢
 split at hd
 ·exact key hd
 ·exact hd
theorem aam{o:Op}(hn:HA o=true){ρ:Operand→AV}{σ:Hp}{K K2:AV→Hp→Prop}(hk:∀v c,K v (c::σ)→K2 v (c::σ))(h:gX P TT o ρ σ K):gX P TT o ρ σ K2:=by
 cases o <;> first | cases hn | skip
 all_goals
  unfold gX at h ⊢
  dsimp only at h ⊢
  split at h
  ·exact fun b=>hk _ _ (h b)
  ·exact h
theorem Ly{ops:List Oper}{Q:List Nat}{j:Nat}{o:Oper}(ho:ops[j]?=some o){t:Tm}{σ:Hp}{K:Tm→Hp→Prop}(hk:uW ops Q j=false)(h:jR P TT ops (eZ j Q) j t σ K):
  ∃v,K (put t o.dst v) σ∧∀(t2:Tm) (σ2:Hp),(∀d∈o.looksAt ops.toArray,t2 d=t d)→(σ2=σ∨(blind o.op=true∧eZ j Q=false)∨(s6 o.op=true∧eZ j Q=false∧∃c,σ2=c::σ))→∀(K2:Tm→Hp→Prop),K2 (put t2 o.dst v) σ2→jR P TT ops (eZ j Q) j t2 σ2 K2:=by
 unfold jR at h ⊢
 rw[ho]at h ⊢
 dsimp only at h ⊢
 cases hq:eZ j Q with
 |true=>
  rw[hq]at h
  dsimp only at h ⊢
  rcases BX h with ⟨h,g⟩ | ⟨h,g⟩
  ·obtain⟨v,h1,h2⟩:=SV _ _ _ _ h
   refine⟨v,h1,fun t2 σ2 ht aF K2 dX=>g t2 ht ?_⟩
   rcases aF with rfl | ⟨_,h⟩ | ⟨_,h,_⟩
   ·rw[QH (CQ ht)]
    exact h2 (fun v=>K2 (put t2 o.dst v) σ2) dX
   ·cases h
   ·cases h
  ·refine⟨.tup [],h,fun t2 σ2 ht aF K2 dX=>g t2 ht ?_⟩
   rcases aF with rfl | ⟨_,h⟩ | ⟨_,h,_⟩
   ·exact dX
   ·cases h
   ·cases h
 |false=>
  rw[hq]at h
  dsimp only at h ⊢
  have aS:oz o.op=false:=by
   unfold uW at hk
   rw[ho,hq]at hk
   simpa using hk
  have e:∀(ρ:Operand→AV) (σ:Hp) (K:AV→Hp→Prop),gX P TT o.op ρ σ K=fI P TT o.op ρ σ (fun v=>K v σ):=fun ρ σ K=>by
   unfold oz at aS
   simp only[Jj,qD]at aS
   rcases aS with h | h
   ·exact Zk h
   ·exact aap h
  rcases BX h with ⟨h,g⟩ | ⟨h,g⟩
  ·rw[e]at h
   obtain⟨v,h1,h2⟩:=GI _ _ _ _ h
   refine⟨v,h1,fun t2 σ2 ht aF K2 dX=>g t2 ht ?_⟩
   rw[e,Kk (CQ ht)]
   rcases aF with rfl | ⟨hb,_⟩ | ⟨hl,_,c,rfl⟩
   ·exact h2 (fun v=>K2 (put t2 o.dst v) σ2) dX
   ·exact XY hb (h2 (fun v=>K2 (put t2 o.dst v) σ2) dX)
   ·exact YT hl c (h2 (fun v=>K2 (put t2 o.dst v) (c::σ)) dX)
  ·exact⟨.tup [],h,fun t2 σ2 ht aF K2 dX=>g t2 ht dX⟩
theorem Gj{ops:List Oper}{q:Bool}{i:Nat}{o:Oper}(ho:ops[i]?=some o){t t2:Tm}{σ:Hp}{K K2:Tm→Hp→Prop}(ht:∀d∈o.looksAt ops.toArray,t2 d=t d)(hk:∀v σ',K (put t o.dst v) σ'→K2 (put t2 o.dst v) σ')(h:jR P TT ops q i t σ K):jR P TT ops q i t2 σ K2:=by
 unfold jR at h ⊢
 rw[ho]at h ⊢
 dsimp only at h ⊢
 cases q with
 |true=>
  dsimp only at h ⊢
  rcases BX h with ⟨h,g⟩ | ⟨h,g⟩
  ·obtain⟨v,h1,h2⟩:=SV _ _ _ _ h
   refine g t2 ht ?_
   rw[QH (CQ ht)]
   exact h2 _ (hk _ _ h1)
  ·exact g t2 ht (hk _ _ h)
 |false=>
  dsimp only at h ⊢
  rcases BX h with ⟨h,g⟩ | ⟨h,g⟩
  ·refine g t2 ht ?_
   rw[QE (CQ ht)]
   exact aa7 (fun v σ' h=>hk v σ' h) h
  ·exact g t2 ht (hk _ _ h)
theorem aai{ops:List Oper}{i:Nat}{o:Oper}(ho:ops[i]?=some o)(hn:HA o.op=true){t t2:Tm}{σ:Hp}{K K2:Tm→Hp→Prop}(ht:∀d∈o.looksAt ops.toArray,t2 d=t d)(hk:∀v c,K (put t o.dst v) (c::σ)→K2 (put t2 o.dst v) (c::σ))(hs:∀v,K (put t o.dst v) σ→K2 (put t2 o.dst v) σ)(h:jR P TT ops false i t σ K):jR P TT ops false i t2 σ K2:=by
 unfold jR at h ⊢
 rw[ho]at h ⊢
 dsimp only at h ⊢
 rcases BX h with ⟨h,g⟩ | ⟨h,g⟩
 ·refine g t2 ht ?_
  rw[QE (CQ ht)]
  exact aam hn (fun v c h=>hk v c h) h
 ·exact g t2 ht (hs _ h)
theorem ac4{t:Tm}{d d':Option Tmp}{v v':AV}(h:∀x,d=some x→d'≠some x):put (put t d v) d' v'=put (put t d' v') d v:=by
 cases d with
 |none=>rfl
 |some x=>cases d' with
  |none=>rfl
  |some y=>
   have aS:y≠x:=fun e=>h x rfl (by rw[e])
   funext i
   show (match Nat.beq i y with | true=>v' | false=>match Nat.beq i x with | true=>v | false=>t i)=(match Nat.beq i x with | true=>v | false=>match Nat.beq i y with | true=>v' | false=>t i)
   cases h1:Nat.beq i y <;> cases h2:Nat.beq i x <;> first | rfl | exact absurd ((jK h1).symm.trans (jK h2)) aS
theorem SN{t:Tm}{d:Option Tmp}{v:AV}{x:Tmp}(h:d≠some x):put t d v x=t x:=by
 cases d with
 |none=>rfl
 |some y=>
  show (match Nat.beq x y with | true=>v | false=>t x)=t x
  cases hb:Nat.beq x y with
  |false=>rfl
  |true=>exact absurd (by rw[jK hb]) h
def UD(ops:List Oper)(rows:List (List Nat)):Prop:=∀(k:Nat) (row:List Nat),rows[k]?=some row→Dt ops k row
theorem ab3{ops:List Oper}(h0:rO ops=true){aw:List Bool}{i j:Nat}{oi oj:Oper}(ml:i≠j)(hi:ops[i]?=some oi)(hj:ops[j]?=some oj)(IJ:aw.getD i true=false)(II:aw.getD j true=false)(dT:ub ops aw oi)(Nt:ub ops aw oj):oi.apart ops.toArray oj=true:=by
 rcases (Kv h0).2 i j oi oj hi hj with e | e | e | e
 ·exact absurd e ml
 ·obtain⟨ed,h1,h2,rfl⟩:=zM e
  have:=dT ed (by simpa using h1) h2
  rw[GS II]at this;cases this
 ·obtain⟨ed,h1,h2,rfl⟩:=zM e
  have:=Nt ed (by simpa using h1) h2
  rw[GS IJ]at this;cases this
 ·exact e
theorem aan{ops:List Oper}{k:Nat}(h:DA ops k=true):∃o,ops[k]?=some o∧HA o.op=true:=by
 unfold DA at h
 split at h
 ·rename_i o ho;exact⟨o,ho,h⟩
 ·cases h
theorem P3{ops:List Oper}{rows:List (List Nat)}{Q:List Nat}{aw:List Bool}{j:Nat}(h:An ops rows Q aw j=true):∃o,ops[j]?=some o∧uW ops Q j=false∧((blind o.op=true∧eZ j Q=false)∨∀k,k<ops.length→aw.getD k false=true∨uW ops Q k=false∨eZ j ((rows[k]?).getD [])=true∨(s6 o.op=true∧eZ j Q=false∧DA ops k=true)):=by
 unfold An at h
 split at h
 ·rename_i o ho
  refine⟨o,ho,?_⟩
  simp only[qD,bR,lB]at h
  rcases h with ⟨h1,h2⟩ | ⟨h1,h2⟩
  ·exact⟨by unfold uW oz;rw[ho];simp[h1],.inl ⟨h1,h2⟩⟩
  ·refine⟨?_,.inr fun k hk=>?_⟩
   ·unfold uW oz;rw[ho]
    rcases h1 with h1 | h1 <;> simp[h1]
   ·have:=fy.1 h2 k (gm.2 hk)
    simp only[qD,bR,lB]at this
    rcases this with ((h | h) | h) | ⟨⟨h3,h4⟩,h5⟩
    ·exact .inl h
    ·exact .inr (.inl h)
    ·exact .inr (.inr (.inl h))
    ·exact .inr (.inr (.inr ⟨h3,h4,h5⟩))
 ·cases h
theorem X1{ops:List Oper}{rows:List (List Nat)}{Q:List Nat}{K:Tm→Hp→Prop}(h0:rO ops=true)(hR:UD ops rows){j:Nat}:∀(n:Nat) (aw:List Bool) (t:Tm) (σ:Hp),Af ops aw→j∈ja ops aw→An ops rows Q aw j=true→
  jR P TT ops (eZ j Q) j t σ (fun t' σ'=>ql P TT ops Q n (aw.set j true) t' σ' K)→ql P TT ops Q (n+1) aw t σ K:=by
 intro n
 induction n with
 |zero=>
  intro aw t σ hc hj hf h
  obtain⟨oj,ho,he,_⟩:=P3 hf
  obtain⟨v,h1,_⟩:=Ly ho he h
  exact h1.elim
 |succ n ih=>
  intro aw t σ hc hj hf h
  obtain⟨oj,ho,he,ae5⟩:=P3 hf
  obtain⟨II,oj',ep,Nt⟩:=wj.1 hj
  rw[ho]at ep;cases ep
  obtain⟨v,h1,h2⟩:=Ly ho he h
  rw[wo]
  refine⟨fun hn=>by rw[hn]at hj;(cases hj),fun i hi=>?_⟩
  by_cases ml:i=j
  ·subst ml
   exact h2 t σ (fun _ _=>rfl) (.inl rfl) _ h1
  obtain⟨IJ,oi,kn,dT⟩:=wj.1 hi
  have vL:=Oper.apart_spec (ab3 h0 ml kn ho IJ II dT Nt)
  rw[wo]at h1
  have ox:=h1.2 i (Qx hi ml)
  have AB:∀d∈oi.looksAt ops.toArray,t d=put t oj.dst v d:=fun d hd=>(SN fun e=>vL.2.2 d e hd).symm
  have xd:∀u,put (put t oj.dst v) oi.dst u=put (put t oi.dst u) oj.dst v:=fun u=>ac4 fun x hx hi=>vL.2.1 x hi hx
  have k9:(aw.set j true).set i true=(aw.set i true).set j true:=List.set_comm _ _ (Ne.symm ml)
  have EE:=hc.set kn dT
  have tL:=Qx hj (Ne.symm ml)
  have hfi:An ops rows Q (aw.set i true) j=true:=by
   unfold An at hf ⊢
   rw[ho]at hf ⊢
   simp only[qD,bR,lB]at hf ⊢
   refine hf.imp id fun h=>⟨h.1,fy.2 fun k hk=>?_⟩
   have:=fy.1 h.2 k hk
   simp only[qD,lB]at this ⊢
   exact this.imp (fun h=>h.imp (fun h=>h.imp OT id) id) id
  have hlj:∀u,∀d∈oj.looksAt ops.toArray,put t oi.dst u d=t d:=fun u d hd=>SN fun e=>vL.1 d e hd
  have fin:∀u σ',(σ'=σ∨(blind oj.op=true∧eZ j Q=false)∨(s6 oj.op=true∧eZ j Q=false∧∃c,σ'=c::σ))→ql P TT ops Q n ((aw.set j true).set i true) (put (put t oj.dst v) oi.dst u) σ' K→ql P TT ops Q (n+1) (aw.set i true) (put t oi.dst u) σ' K:=fun u σ' aF hh=>by
   refine ih (aw.set i true) (put t oi.dst u) σ' EE tL hfi ?_
   refine h2 _ σ' (hlj u) aF _ ?_
   rw[k9,xd]at hh
   exact hh
  cases Bn:uW ops Q i with
  |true=>
   have hb:(blind oj.op=true∧eZ j Q=false)∨(s6 oj.op=true∧eZ j Q=false∧DA ops i=true):=by
    rcases ae5 with h | h
    ·exact .inl h
    ·have ab:i<ops.length:=(cg.1 kn).1
     rcases h i ab with h | h | h | h
     ·rw[GS IJ]at h;cases h
     ·rw[Bn]at h;cases h
     rotate_left
     ·exact .inr h
     ·cases hq:rows[i]? with
      |none=>rw[hq]at h;cases h
      |some row=>
       rw[hq]at h
       have:=hR i row hq oi kn aw hc dT j (RW.1 h)
       rw[GS II]at this;cases this
   rcases hb with hb | ⟨hl,hq,ik⟩
   ·exact Gj kn AB (fun u σ' hh=>fin u σ' (.inr (.inl hb)) hh) ox
   ·obtain⟨oi',Vu,hn⟩:=aan ik
    rw[kn]at Vu;cases Vu
    have hqi:eZ i Q=false:=by
     unfold uW at Bn
     rw[kn]at Bn
     simp only[bR,lB]at Bn
     exact Bn.2
    rw[hqi]at ox ⊢
    exact aai kn hn AB (fun u c hh=>fin u (c::σ) (.inr (.inr ⟨hl,hq,c,rfl⟩)) hh) (fun u hh=>fin u σ (.inl rfl) hh) ox
  |false=>
   obtain⟨u,k1,k2⟩:=Ly kn Bn ox
   exact k2 t σ AB (.inl rfl) _ (fin u σ (.inl rfl) k1)
theorem abP{ops:List Oper}{rows:List (List Nat)}{Q:List Nat}{K:Tm→Hp→Prop}(h0:rO ops=true)(hR:UD ops rows):∀(s:qJ) (n:Nat) (nw:List Nat) (aw:List Bool) (t:Tm) (σ:Hp),lF ops rows Q s n nw aw=true→Af ops aw→uS P TT ops s t σ K→
  (nw=[]→ql P TT ops Q n aw t σ K)∧((∀i∈nw,i∈ja ops aw)→∀i∈nw,jR P TT ops (eZ i Q) i t σ fun t' σ'=>ql P TT ops Q n (aw.set i true) t' σ' K):=by
 intro s
 induction s with
 |stop=>
  intro n nw aw t σ hs hc h
  unfold lF at hs
  split at hs
  ·rename_i n _ _ _ hr
   refine⟨fun _=>?_,fun _ i hi=>by cases hi⟩
   rw[wo,hr]
   exact⟨fun _=>h,fun i hi=>by cases hi⟩
  ·cases hs
 |one j q s ih=>
  intro n nw aw t σ hs hc h
  have step:∀m,eZ j Q=q→j∈ja ops aw→lF ops rows Q s m [] (aw.set j true)=true→jR P TT ops (eZ j Q) j t σ fun t' σ'=>ql P TT ops Q m (aw.set j true) t' σ' K:=fun m hq hj hs=>by
   obtain⟨_,o,ho,hr⟩:=wj.1 hj
   rw[hq]
   have h:jR P TT ops q j t σ fun t' σ'=>uS P TT ops s t' σ' K:=h
   exact Gj ho (fun _ _=>rfl) (fun v σ' hh=>(ih m [] _ _ σ' hs (hc.set ho hr) hh).1 rfl) h
  unfold lF at hs
  split at hs
  ·rename_i n
   simp only[bR,qD,beq_iff_eq]at hs
   obtain⟨⟨⟨h1,h2⟩,h3⟩,h4⟩:=hs
   have hj:=RW.1 h2
   refine⟨fun _=>?_,fun _ i hi=>by cases hi⟩
   have ao:=step n h1 hj h4
   rcases h3 with h3 | h3
   ·exact X1 h0 hR n aw t σ hc hj h3 ao
   ·split at h3
    ·rename_i i hr
     rw[wo,hr]
     refine⟨fun h=>(by cases h),fun k hk=>?_⟩
     obtain rfl:=bB.1 hk
     obtain rfl:=jK h3
     exact ao
    ·cases h3
  ·rename_i i
   simp only[bR,beq_iff_eq]at hs
   obtain⟨⟨h1,h2⟩,h4⟩:=hs
   refine⟨fun h=>(by cases h),fun hp k hk=>?_⟩
   obtain rfl:=jK h2
   obtain rfl:=bB.1 hk
   exact step _ h1 (hp k hk) h4
  ·cases hs
 |alt j s r ih jV=>
  intro n nw aw t σ hs hc h
  obtain⟨ha,hb⟩:jR P TT ops false j t σ (fun t' σ'=>uS P TT ops s t' σ' K)∧uS P TT ops r t σ K:=h
  have step:∀m,eZ j Q=false→j∈ja ops aw→lF ops rows Q s m [] (aw.set j true)=true→jR P TT ops (eZ j Q) j t σ fun t' σ'=>ql P TT ops Q m (aw.set j true) t' σ' K:=fun m hq hj hs=>by
   obtain⟨_,o,ho,hr⟩:=wj.1 hj
   rw[hq]
   exact Gj ho (fun _ _=>rfl) (fun v σ' hh=>(ih m [] _ _ σ' hs (hc.set ho hr) hh).1 rfl) ha
  unfold lF at hs
  split at hs
  ·rename_i n
   split at hs
   ·rename_i i i2 l hr
    simp only[bR,lB]at hs
    obtain⟨⟨⟨h1,h2⟩,h3⟩,h4⟩:=hs
    obtain rfl:=jK h1
    refine⟨fun _=>?_,fun _ i hi=>by cases hi⟩
    rw[wo,hr]
    refine⟨fun h=>(by cases h),fun k hk=>?_⟩
    rcases eF.1 hk with rfl | hk
    ·exact step n h2 (by rw[hr];exact ck ..) h3
    ·exact (jV n (i2::l) aw t σ h4 hc hb).2 (fun i hi=>by rw[hr];exact cW _ hi) k hk
   ·cases hs
  ·rename_i i i2 l
   simp only[bR,lB]at hs
   obtain⟨⟨⟨h1,h2⟩,h3⟩,h4⟩:=hs
   obtain rfl:=jK h1
   refine⟨fun h=>(by cases h),fun hp k hk=>?_⟩
   rcases eF.1 hk with rfl | hk
   ·exact step n h2 (hp _ (ck ..)) h3
   ·exact (jV n (i2::l) aw t σ h4 hc hb).2 (fun i hi=>hp i (cW _ hi)) k hk
  ·cases hs
 |A2 j s r ih jV=>
  intro n nw aw t σ hs hc h
  obtain⟨ha,hb⟩:jR P TT ops true j t σ (fun t' σ'=>uS P TT ops s t' σ' K)∧uS P TT ops r t σ K:=h
  have step:∀m,eZ j Q=true→j∈ja ops aw→lF ops rows Q s m [] (aw.set j true)=true→jR P TT ops (eZ j Q) j t σ fun t' σ'=>ql P TT ops Q m (aw.set j true) t' σ' K:=fun m hq hj hs=>by
   obtain⟨_,o,ho,hr⟩:=wj.1 hj
   rw[hq]
   exact Gj ho (fun _ _=>rfl) (fun v σ' hh=>(ih m [] _ _ σ' hs (hc.set ho hr) hh).1 rfl) ha
  unfold lF at hs
  split at hs
  ·rename_i n
   split at hs
   ·rename_i i i2 l hr
    simp only[bR]at hs
    obtain⟨⟨⟨h1,h2⟩,h3⟩,h4⟩:=hs
    obtain rfl:=jK h1
    refine⟨fun _=>?_,fun _ i hi=>by cases hi⟩
    rw[wo,hr]
    refine⟨fun h=>(by cases h),fun k hk=>?_⟩
    rcases eF.1 hk with rfl | hk
    ·exact step n h2 (by rw[hr];exact ck ..) h3
    ·exact (jV n (i2::l) aw t σ h4 hc hb).2 (fun i hi=>by rw[hr];exact cW _ hi) k hk
   ·cases hs
  ·rename_i i i2 l
   simp only[bR]at hs
   obtain⟨⟨⟨h1,h2⟩,h3⟩,h4⟩:=hs
   obtain rfl:=jK h1
   refine⟨fun h=>(by cases h),fun hp k hk=>?_⟩
   rcases eF.1 hk with rfl | hk
   ·exact step n h2 (hp _ (ck ..)) h3
   ·exact (jV n (i2::l) aw t σ h4 hc hb).2 (fun i hi=>hp i (cW _ hi)) k hk
  ·cases hs
theorem XX{o:Oper}{ρ:Operand→AV}{σ:Hp}{K:AV→Prop}(ok:dE P TT)(h:vr P TT o.op ρ σ K)(a:Act)(F:Nat→Prop)(w:World)(hx:∀x∈o.op.operands.toList,aA F w (ρ x) (a.eval x))(aF:bA F w σ)(next:Act→World→Prop)(Q:Exit→Act→World→Prop)(hn:∀v u F' w',bJ F w F' w'→bA F' w' σ→aA F' w' v u→K v→next (a.put o.dst u) w'):wq P o a w next Q:=by
 obtain⟨v,h1,h2⟩:=QG ok h
 exact h2 a F w hx aF next Q fun u F' w' k1 k2 k3=>hn v u F' w' k1 k2 k3 h1
theorem acW(ok:dE P TT){B n:Nat}{ops:List Oper}{Q:List Nat}(hd:∀o∈ops,∀d,o.dst=some d→d<n){K:Tm→Hp→Prop}{Q':Exit→Act→World→Prop}{F0:Nat→Prop}{w0:World}(hq:∀t' σ' F' w' a',bJ F0 w0 F' w'→dh B n F' w' t' σ' a'→K t' σ'→Q' .normal a' w'):
  ∀(m:Nat) (aw:List Bool) (t:Tm) (σ:Hp) (F:Nat→Prop) (w:World) (a:Act),left aw.toArray≤m→aw.length=ops.length→ql P TT ops Q (m+1) aw t σ K→dh B n F w t σ a→bJ F0 w0 F w→wX P .any ops.toArray (wY Q') m aw.toArray a w:=by
 intro m
 induction m with
 |zero=>
  intro aw t σ F w a hl hlen h hs ao
  have hr:ja ops aw=[]:=by
   rw[← rL,JA]
   intro j hj
   have:=(mem_ready.1 hj).1
   rw[Kp (by omega)]at this
   cases this
  rw[wo]at h
  exact⟨by rw[rL];exact hr,hq t σ F w a ao hs (h.1 hr)⟩
 |succ m ih=>
  intro aw t σ F w a hl hlen h hs ao
  rw[wo]at h
  refine⟨fun hr=>hq t σ F w a ao hs (h.1 (by rw[← rL];exact hr)),fun j hj=>?_⟩
  rw[rL]at hj
  have h:=h.2 j hj
  have guard:∀{o:Oper} {b:Bool},uu ops o t b→Region.wanted o (yielded ops.toArray a.tmps)=b:=fun hg=>FN hg fun d _=>⟨F,w,hs.tm d⟩
  obtain⟨fm,o,ho,_⟩:=wj.1 hj
  have k9:(aw.set j true).toArray=aw.toArray.setIfInBounds j true:=by simp
  have afI:aw.toArray.getD j true=false:=by
   rw[jL,zu,← bg];exact fm
  have ab:left (aw.toArray.setIfInBounds j true)≤m:=by have:=Co afI;omega
  have qk:∀(x:AV) (u:Value) (σ':Hp) (F':Nat→Prop) (w':World),bJ F w F' w'→bA F' w' σ'→aA F' w' x u→ql P TT ops Q (m+1) (aw.set j true) (put t o.dst x) σ' K→wX P .any ops.toArray (wY Q') m (aw.toArray.setIfInBounds j true) (a.put o.dst u) w':=fun x u σ' F' w' q1 q2 q3 hk=>by
   rw[← k9]
   exact ih _ _ σ' F' w' _ (by rw[k9];exact ab) (by simpa using hlen) hk (hs.put q1 q2 q3 (hd o (List.mem_of_getElem? ho))) (ao.trans q1)
  unfold jR at h
  rw[ho]at h
  dsimp only at h
  unfold og
  rw[show ops.toArray[j]?=some o by simpa using ho]
  cases hq':eZ j Q with
  |true=>
   rw[hq']at h
   dsimp only at h
   rcases x4 h with ⟨hg,h⟩ | ⟨hg,h⟩
   ·simp only[guard hg,if_true]
    exact (XX ok h a F w (fun x _=>hs.tm.eval x) hs.hp _ _ fun v u F' w' k1 k2 k3 k4=>qk v u σ F' w' k1 k2 k3 k4)
   ·simp only[guard hg,lX,if_false]
    exact qk (.tup []) undef σ F w (.refl _ _) hs.hp xV h
  |false=>
   rw[hq']at h
   dsimp only at h
   rcases x4 h with ⟨hg,h⟩ | ⟨hg,h⟩
   ·simp only[guard hg,if_true]
    refine (Kj ok h a F w (fun x _=>hs.tm.eval x) hs.hp _ _ ?_)
    intro v av σ' F' w' q1 q2 q3 q4
    exact qk av v σ' F' w' q1 q2 q3 q4
   ·simp only[guard hg,lX,if_false]
    exact qk (.tup []) undef σ F w (.refl _ _) hs.hp xV h
theorem Pb(ok:dE P TT)(hm:P.follows .mixedOrders=true){r:Option Nat}{B n id:Nat}{ops:Array Oper}{t:Tm}{σ:Hp}{K:Tm→Hp→Prop}{F:Nat→Prop}{w:World}{a:Act}{Q:Exit→Act→World→Prop}{Q0:List Nat}{s:qJ}(h0:G8 ops.toList Q0 s=true)(h:uS P TT ops.toList s t σ K)(hd:∀o∈ops.toList,∀d,o.dst=some d→d<n)(ca:∀o∈ops.toList,∀c,o.op≠.defer c)(hs:dh B n F w t σ a)
  (hq:∀t' σ' F' w' a',bJ F w F' w'→dh B n F' w' t' σ' a'→K t' σ'→Q .normal a' w'):(Code.region id ops true).wpIn (FW r) 0 P Q a w:=by
 have pj:bJ F w F { w with drawn:=w.drawn+1 }:=xS hs.hp.low rfl rfl rfl (a8 _) (fun _ _=>rfl)
 unfold G8 at h0
 simp only[bR]at h0
 obtain⟨⟨h1,h2⟩,h3⟩:=h0
 have cH:=(abP (K:=K) h1 (RA ops.toList [] [] rfl rfl (fun k row h=>by cases h)) s _ [] _ t σ h3 (fun j o ho hl=>by
  rw[bg,vU]at hl
  split at hl <;> cases hl) h).1 rfl
 refine wpIn_mono (JX hm ca ?_) RU
 have key:=acW (P:=P) (Q':=Q) ok hd (F0:=F) (w0:=w) hq ops.toList.length (List.replicate ops.toList.length false) t σ F { w with drawn:=w.drawn+1 } a (by
   unfold left
   refine Nat.le_trans (List.length_filter_le _ _) (by simp)) (by simp) cH ⟨hs.tm.mono pj,hs.hp.same pj (fun _ _=>rfl),hs.size,hs.defers.mono pj⟩ pj
 simpa using key
end
end Go.Proofs.YtnikdflhefijbaaGreat
