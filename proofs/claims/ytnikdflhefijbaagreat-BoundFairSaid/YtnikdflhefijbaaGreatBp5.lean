import Derived.OrdersHeld
import Derived.Test.YtnikdflhefijbaaGreatBp4
namespace Go.Proofs.YtnikdflhefijbaaGreat
open Go.RowKit
section
variable {P:Program} {TT:TypeId→Option TI}
def H4(P:Program)(ops:List Oper)(σ:Hp)(o:Oper)(t:Tm)(v:AV):Prop:=(vB ops o t true∧MW P o (ev t) σ v)∨(vB ops o t false∧v=.tup [])
def pE:Tm→List Oper→List AV→Nat→Tm
 |t,o::l,v::vs,i+1=>pE (put t o.dst v) l vs i
 |t,_,_,_=>t
theorem SL(ok:dD P TT){ops:List Oper}{σ:Hp}{K:Tm→Prop}:∀(l:List Oper) (t:Tm),Iv P TT ops l t σ K→∃cu:List AV,cu.length=l.length∧(∀(i:Nat) (o:Oper) (v:AV),l[i]?=some o→cu[i]?=some v→H4 P ops σ o (pE t l cu i) v)∧K (pE t l cu l.length)
 | [],t,h=>⟨[],rfl,fun i o v h=>by simp at h,h⟩
 |o::l,t,h=>by
  have go:∀v,H4 P ops σ o t v→Iv P TT ops l (put t o.dst v) σ K→∃cu:List AV,cu.length=(o::l).length∧(∀(i:Nat) (o':Oper) (v:AV),(o::l)[i]?=some o'→cu[i]?=some v→H4 P ops σ o' (pE t (o::l) cu i) v)∧K (pE t (o::l) cu (o::l).length):=by
   intro v hv hk
   obtain⟨cu,h1,h2,h3⟩:=SL ok l _ hk
   refine⟨v::cu,by simp[h1],fun i o' v' ho oQ=>?_,h3⟩
   cases i with
   |zero=>simp at ho oQ;subst ho;subst oQ;exact hv
   |succ i=>exact h2 i o' v' (by simpa using ho) (by simpa using oQ)
  rcases yS h with ⟨hg,h⟩ | ⟨hg,h⟩
  ·obtain⟨v,hk,hl⟩:=RC ok h
   exact go v (.inl ⟨hg,hl⟩) hk
  ·exact go (.tup []) (.inr ⟨hg,rfl⟩) h
theorem Dg{x:Tmp}:∀(l:List Oper) (cu:List AV) (t:Tm) (i:Nat),(∀j,j<i→∀o,l[j]?=some o→o.dst≠some x)→pE t l cu i x=t x
 | [],_,_,i,_=>by cases i <;> rfl
 |_::_,[],_,i,_=>by cases i <;> rfl
 |o::l,v::cu,t,0,_=>rfl
 |o::l,v::cu,t,i+1,h=>by
  have h0:=h 0 (by omega) o rfl
  rw[pE,Dg l cu _ i (fun j hj o' ho=>h (j+1) (by omega) o' (by simpa using ho))]
  cases hd:o.dst with
  |none=>rfl
  |some d=>
   have:Nat.beq x d=false:=by
    cases hb:Nat.beq x d with
    |false=>rfl
    |true=>exact absurd (by rw[hd,jr hb]) h0
   show (match Nat.beq x d with | true=>v | false=>t x)=t x
   rw[this]
theorem LX{x:Tmp}{v:AV}{p:Oper}:∀(l:List Oper) (cu:List AV) (t:Tm) (i j:Nat),j<i→l[j]?=some p→p.dst=some x→(∀k,k<i→k≠j→∀o,l[k]?=some o→o.dst≠some x)→cu[j]?=some v→pE t l cu i x=v
 | [],_,_,_,_,_,hp,_,_,_=>by simp at hp
 |_::_,[],_,_,_,_,_,_,_,hv=>by simp at hv
 |_::_,_::_,_,0,_,hj,_,_,_,_=>by omega
 |o::l,u::cu,t,i+1,0,_,hp,hx,hn,hv=>by
  simp at hp hv
  subst hp;subst hv
  rw[pE,Dg l cu _ i (fun k hk o' ho=>hn (k+1) (by omega) (by omega) o' (by simpa using ho))]
  simp[put,hx]
 |o::l,u::cu,t,i+1,j+1,hj,hp,hx,hn,hv=>
  LX l cu (put t o.dst u) i j (by omega) (by simpa using hp) hx (fun k hk aO o' ho=>hn (k+1) (by omega) (by omega) o' (by simpa using ho)) (by simpa using hv)
structure PJ(ops:List Oper):Prop where
 back:∀(i:Nat) (o:Oper),ops[i]?=some o→∀e∈o.after,Region.binds .any e=true→e.on<i
 IK:∀(i j:Nat) (o p:Oper) (d:Tmp),ops[i]?=some o→ops[j]?=some p→p.dst=some d→o.dst=some d→i=j
 look:∀(i j:Nat) (o p:Oper) (d:Tmp),ops[i]?=some o→ops[j]?=some p→p.dst=some d→d∈zd ops o→i=j∨(j<i∧qi o j=true)∨(i<j∧qi p i=true)
theorem afo{ops:List Oper}(h:Hl ops=true):PJ ops:=by
 unfold Hl at h
 have hz:∀(i:Nat) (o:Oper),ops[i]?=some o→(o,i)∈ops.zipIdx:=fun i o ho=>by
  rw[Pm];exact ho
 have cf:=fun (i:Nat) (o:Oper) (ho:ops[i]?=some o)=>fp.1 h (o,i) (hz i o ho)
 refine⟨fun i o ho e he hb=>?_,fun i j o p d ho hp kC jD=>?_,fun i j o p d ho hp kC hd=>?_⟩
 ·have h1:=cf i o ho
  simp only[bL]at h1
  have h2:=List.all_eq_true.1 h1.1 e (by simpa using he)
  simp only[hb,FH,qS]at h2
  exact cT h2
 ·have h1:=cf i o ho
  simp only[bL]at h1
  have h2:=fp.1 h1.2 (p,j) (hz j p hp)
  simp only[kC,jD,bL,oW,yx,FH]at h2
  rcases h2.1 with h3 | h3
  ·exact jr h3
  ·cases h3
 ·have h1:=cf i o ho
  simp only[bL]at h1
  have h2:=fp.1 h1.2 (p,j) (hz j p hp)
  simp only[kC,bL,oW]at h2
  rcases h2.2 with ((h3 | h3) | h3) | h3
  ·exfalso
   have:(zd ops o).any (Nat.beq d)=true:=nT.2 ⟨d,hd,yx d⟩
   rw[this]at h3
   cases h3
  ·exact .inl (jr h3)
  ·exact .inr (.inl ⟨cT h3.1,h3.2⟩)
  ·exact .inr (.inr ⟨cT h3.1,h3.2⟩)
theorem As{o:Oper}{j:Nat}(h:qi o j=true):∃e∈o.after,Region.binds .any e=true∧e.on=j:=by
 obtain⟨e,h1,h2⟩:=nT.1 h
 simp only[bL]at h2
 exact⟨e,by simpa using h1,h2.1,Nat.eq_of_beq_eq_true h2.2⟩
def left(au:Array Bool):Nat:=(au.toList.filter (fun b=> !b)).length
theorem RH:∀(l:List Bool) (i:Nat),l[i]?=some false→((l.set i true).filter (fun b=> !b)).length+1=(l.filter (fun b=> !b)).length
 | [],i,h=>by simp at h
 |b::l,0,h=>by simp at h;subst h;simp
 |b::l,i+1,h=>by
  have:=RH l i (by simpa using h)
  cases b <;> simp at this ⊢ <;> omega
theorem C2{au:Array Bool}{i:Nat}(h:au.getD i true=false):left (au.setIfInBounds i true)+1=left au:=by
 unfold left
 rw[Array.toList_setIfInBounds]
 refine RH _ i ?_
 rw[Cl]
 rw[gW]at h
 cases hq:au[i]? with
 |none=>rw[hq]at h;simp at h
 |some b=>rw[hq]at h;simp at h;rw[h]
theorem K8{au:Array Bool}(h:left au=0){i:Nat}:au.getD i true=true:=by
 cases hb:au.getD i true with
 |true=>rfl
 |false=>have:=C2 hb;omega
structure I2(P:Program)(ops:List Oper)(t0:Tm)(cu:List AV)(σ:Hp)(B n:Nat)(au:Array Bool)(F:Nat→Prop)(w:World)(a:Act):Prop where
 hp:aX F w σ
 size:n≤a.tmps.size
 defers:Marks B F w a.defers
 M6:au.size=ops.length
 closed:∀(j:Nat) (o:Oper),ops[j]?=some o→au.getD j false=true→∀e∈o.after,Region.binds .any e=true→au.getD e.on false=true
 Oe:∀(j:Nat) (o:Oper) (v:AV) (d:Tmp),ops[j]?=some o→o.dst=some d→cu[j]?=some v→au.getD j false=true→ax F w v (a.tmps.getD d undef)
 out:∀d,(∀(j:Nat) (o:Oper),ops[j]?=some o→o.dst=some d→au.getD j false=false)→ax F w (t0 d) (a.tmps.getD d undef)
theorem Cq{au:Array Bool}{i:Nat}(h:au.getD i true=false):au.getD i false=false:=by
 rw[gW]at h ⊢
 cases hq:au[i]? with
 |none=>rw[hq]at h;simp at h
 |some b=>rw[hq]at h;simpa using h
theorem XC{au:Array Bool}{i:Nat}(hi:i<au.size)(h:au.getD i true=true):au.getD i false=true:=by
 rw[gW]at h ⊢
 rw[qa hi]at h ⊢
 simpa using h
section
variable {ops:List Oper} {t0:Tm} {cu:List AV} {σ:Hp} {B n:Nat} {au:Array Bool} {F:Nat→Prop} {w:World} {a:Act}
theorem I2.look(hJ:I2 P ops t0 cu σ B n au F w a)(ho:PJ ops)(Jf:cu.length=ops.length){i:Nat}{o:Oper}(hi:ops[i]?=some o)(eP:au.getD i true=false)(qN:∀e∈o.after,Region.binds .any e=true→au.getD e.on false=true){d:Tmp}(hd:d∈zd ops o):
  ax F w (pE t0 ops cu i d) (a.tmps.getD d undef):=by
 by_cases hw:∃(j:Nat) (p:Oper),ops[j]?=some p∧p.dst=some d
 ·obtain⟨j,p,hp,kC⟩:=hw
  have uniq:∀k,k≠j→∀o',ops[k]?=some o'→o'.dst≠some d:=fun k hk o' gj jD=>hk (ho.IK k j o' p d gj hp kC jD)
  have out:au.getD j false=false→(i≤j)→ax F w (pE t0 ops cu i d) (a.tmps.getD d undef):=fun hl eQ=>by
   rw[Dg ops cu t0 i (fun k hk o' gj=>uniq k (by omega) o' gj)]
   exact hJ.out d fun k o' gj jD=>by rw[ho.IK k j o' p d gj hp kC jD];exact hl
  rcases ho.look i j o p d hi hp kC hd with e | ⟨h1,h2⟩ | ⟨h1,h2⟩
  ·subst e
   exact out (Cq eP) (aM _)
  ·obtain⟨e,he,hb,rfl⟩:=As h2
   have hl:=qN e he hb
   have jl:e.on<ops.length:=(bQ.1 hp).1
   have hv:cu[e.on]?=some cu[e.on]:=bc (by omega)
   rw[LX ops cu t0 i e.on h1 hp kC (fun k _ aO=>uniq k aO) hv]
   exact hJ.Oe e.on p _ d hp kC hv hl
  ·obtain⟨e,he,hb,rfl⟩:=As h2
   refine out ?_ (by omega)
   cases hl:au.getD j false with
   |false=>rfl
   |true=>
    have:=hJ.closed j p hp hl e he hb
    rw[Cq eP]at this
    cases this
 ·rw[Dg ops cu t0 i (fun k _ o' gj jD=>hw ⟨k,o',gj,jD⟩)]
  exact hJ.out d fun j o' gj jD=>absurd ⟨j,o',gj,jD⟩ hw
theorem ZO(ho:PJ ops)(Jf:cu.length=ops.length)(hd:∀o∈ops,∀d,o.dst=some d→d<n)(hf:∀(i:Nat) (o:Oper) (v:AV),ops[i]?=some o→cu[i]?=some v→H4 P ops σ o (pE t0 ops cu i) v){Q:Exit→Act→World→Prop}{F0:Nat→Prop}{w0:World}
  (hq:∀F' w' a',bh F0 w0 F' w'→dg B n F' w' (pE t0 ops cu ops.length) σ a'→Q .normal a' w') :
  ∀(fuel:Nat) (au:Array Bool) (F:Nat→Prop) (w:World) (a:Act),left au≤fuel→I2 P ops t0 cu σ B n au F w a→bh F0 w0 F w→xL P .any ops.toArray Q fuel au a w:=by
 have fin:∀(au:Array Bool) (F:Nat→Prop) (w:World) (a:Act),I2 P ops t0 cu σ B n au F w a→bh F0 w0 F w→Region.ready .any ops.toArray au=[]→Q .normal a w:=by
  intro au F w a hJ ao hr
  have all:∀j,j<ops.length→au.getD j false=true:=by
   intro j
   induction j using Nat.strongRecOn with
   |_ j ih=>
    intro hj
    cases hl:au.getD j true with
    |true=>exact XC (by rw[hJ.M6];exact hj) hl
    |false=>
     exfalso
     have hm:j∈Region.ready .any ops.toArray au:=by
      rw[mem_ready]
      refine⟨hl,ops[j],by simp[hj],fun e he hb=>?_⟩
      have:=ho.back j ops[j] (by simp[hj]) e he hb
      exact ih _ this (by omega)
     rw[hr]at hm
     cases hm
  refine hq F w a ao ⟨fun d=>?_,hJ.hp,hJ.size,hJ.defers⟩
  by_cases hw:∃(j:Nat) (p:Oper),ops[j]?=some p∧p.dst=some d
  ·obtain⟨j,p,hp,kC⟩:=hw
   have jl:j<ops.length:=(bQ.1 hp).1
   have hv:cu[j]?=some cu[j]:=bc (by omega)
   rw[LX ops cu t0 ops.length j jl hp kC (fun k _ aO o' gj jD=>aO (ho.IK k j o' p d gj hp kC jD)) hv]
   exact hJ.Oe j p _ d hp kC hv (all j jl)
  ·rw[Dg ops cu t0 ops.length (fun k _ o' gj jD=>hw ⟨k,o',gj,jD⟩)]
   exact hJ.out d fun j o' gj jD=>absurd ⟨j,o',gj,jD⟩ hw
 intro fuel
 induction fuel with
 |zero=>
  intro au F w a hl hJ ao
  have hr:Region.ready .any ops.toArray au=[]:=by
   rw[Kg]
   intro j hj
   have:=(mem_ready.1 hj).1
   rw[K8 (by omega)]at this
   cases this
  exact⟨hr,fin au F w a hJ ao hr⟩
 |succ fuel ih=>
  intro au F w a hl hJ ao
  refine⟨fin au F w a hJ ao,fun i hi=>?_⟩
  obtain⟨eP,o,kf,qN⟩:=mem_ready.1 hi
  have kf:ops[i]?=some o:=by simpa using kf
  have sY:i<ops.length:=(bQ.1 kf).1
  have hvi:cu[i]?=some cu[i]:=bc (by omega)
  have Bc:=fun {d:Tmp} (hd:d∈zd ops o)=>hJ.look ho Jf kf eP qN hd
  have VY:∀{b:Bool},vB ops o (pE t0 ops cu i) b→Region.wanted o (yielded ops.toArray a.tmps)=b:=fun hg=>Gx hg fun d ⟨j,want,h1,h2⟩=>⟨F,w,Bc (d:=d) (by unfold zd;rw[h1];simp[h2])⟩
  have next:∀(F':Nat→Prop) (w':World) (u:Value),bh F w F' w'→aX F' w' σ→ax F' w' cu[i] u→xL P .any ops.toArray Q fuel (au.setIfInBounds i true) (a.put o.dst u) w':=by
   intro F' w' u h1 h2 h3
   have aO:∀j,j≠i→(au.setIfInBounds i true).getD j false=au.getD j false:=fun j hj=>getD_set_ne false (Ne.symm hj)
   have DW:(au.setIfInBounds i true).getD i false=true:=by simp[Array.getD,hJ.M6,sY]
   refine ih _ F' w' _ (by have:=C2 eP;omega) ⟨h2,by rw[SG];exact hJ.size,by rw[Ud];exact hJ.defers.mono h1,by simp[hJ.M6],fun j p hp hl e he hb=>?_,fun j p v d hp kC hv hl=>?_,fun d hn=>?_⟩ (ao.trans h1)
   ·refine getD_set_true ?_
    by_cases hj:j=i
    ·subst hj
     rw[kf]at hp
     cases hp
     exact qN e he hb
    ·rw[aO j hj]at hl
     exact hJ.closed j p hp hl e he hb
   ·by_cases hj:j=i
    ·subst hj
     rw[kf]at hp
     cases hp
     rw[hvi]at hv
     cases hv
     have ek:d<a.tmps.size:=sc (hd o (bH kf) d kC) hJ.size
     rw[kC]
     simpa [Act.put,Array.getD,ek]using h3
    ·rw[aO j hj]at hl
     have h4:=(hJ.Oe j p v d hp kC hv hl).mono h1
     have bZ:o.dst≠some d:=fun jD=>hj (ho.IK j i p o d hp kf jD kC)
     cases jD:o.dst with
     |none=>exact h4
     |some d'=>
      have wJ:d'≠d:=fun e=>bZ (by rw[jD,e])
      show ax F' w' v ((a.tmps.setIfInBounds d' u).getD d undef)
      rw[gW]at h4 ⊢
      rw[Kh wJ]
      exact h4
   ·have bZ:o.dst≠some d:=fun jD=>by
     have:=hn i o kf jD
     rw[DW]at this
     cases this
    have h4:=(hJ.out d fun j p hp kC=>by
     by_cases hj:j=i
     ·subst hj;rw[kf]at hp;cases hp;exact absurd kC bZ
     ·rw[← aO j hj];exact hn j p hp kC).mono h1
    cases jD:o.dst with
    |none=>exact h4
    |some d'=>
     have wJ:d'≠d:=fun e=>bZ (by rw[jD,e])
     show ax F' w' (t0 d) ((a.tmps.setIfInBounds d' u).getD d undef)
     rw[gW]at h4 ⊢
     rw[Kh wJ]
     exact h4
  unfold ox
  rw[show ops.toArray[i]?=some o by simpa using kf]
  rcases hf i o cu[i] kf hvi with ⟨hg,hl⟩ | ⟨hg,hv⟩
  ·simp only[VY hg,if_true]
   refine (hl a F w (fun x hx=>Ts x fun d e=>?_) hJ.hp _ Q (fun u F' w' k1 k2 k3=>next F' w' u k1 k2 k3))
   subst e
   exact Bc (by unfold zd;exact gJ _ (List.mem_filterMap.2 ⟨.tmp d,hx,rfl⟩))
  ·simp only[VY hg,lS,if_false]
   exact next F w undef (.refl _ _) hJ.hp (by rw[hv];exact yN)
end
theorem X0(ok:dD P TT)(hm:P.follows .mixedOrders=true){r:Option Nat}{B n id:Nat}{ops:Array Oper}{t:Tm}{σ:Hp}{K:Tm→Prop}{F:Nat→Prop}{w:World}{a:Act}{Q:Exit→Act→World→Prop}(h0:Hl ops.toList=true)(h:Iv P TT ops.toList ops.toList t σ K)(hd:∀o∈ops.toList,∀d,o.dst=some d→d<n)(bZ:∀o∈ops.toList,∀c,o.op≠.defer c)(hs:dg B n F w t σ a)
  (hq:∀t' F' w' a',bh F w F' w'→dg B n F' w' t' σ a'→K t'→Q .normal a' w'):(Code.region id ops true).wpIn (FW r) 0 P Q a w:=by
 obtain⟨cu,h1,h2,h3⟩:=SL ok _ _ h
 have pA:bh F w F { w with drawn:=w.drawn+1 }:=yK hs.hp.low rfl rfl rfl (aM _) (fun _ _=>rfl)
 refine KF hm bZ ?_
 have key:=ZO (P:=P) (Q:=Q) (t0:=t) (B:=B) (n:=n) (afo h0) h1 hd h2 (F0:=F) (w0:=w) (fun F' w' a' k1 k2=>hq _ F' w' a' k1 k2 h3) ops.size (Array.replicate ops.size false) F { w with drawn:=w.drawn+1 } a (by
   unfold left
   refine Nat.le_trans (List.length_filter_le _ _) (by simp)) ⟨hs.hp.same pA (fun _ _=>rfl),hs.size,hs.defers.mono pA,by simp,fun j o ho hl=>?_,fun j o v d ho jD hv hl=>?_,fun d _=>(hs.tm d).mono pA⟩ pA
 ·simpa using key
 ·by_cases hj:j<ops.size <;> simp[Array.getD,hj]at hl
 ·by_cases hj:j<ops.size <;> simp[Array.getD,hj]at hl
end
section
variable {P:Program} {TT:TypeId→Option TI}
def xN(Q:Exit→Act→World→Prop):Exit→Act→World→Prop
 |.panic _,_,_=>False
 |e,a,w=>Q e a w
theorem SY{Q:Exit→Act→World→Prop}:∀(e:Exit) (a:Act) (w:World),xN Q e a w→Q e a w:=fun e a w h=>by
 cases e <;> first | exact h | exact (h:False).elim
theorem sl(ops:List Oper)(au:List Bool):Region.ready .any ops.toArray au.toArray=iV ops au:=by
 unfold Region.ready iV
 simp only[p9]
 apply List.filter_congr
 intro i hi
 have hi:=fA.1 hi
 have e:∀d,au.toArray.getD i d=au.getD i d:=fun d=>by simp[Array.getD_eq_getD_getElem?,List.getD_eq_getElem?_getD]
 rw[e]
 congr 1
 simp only[Ac,bc hi,JS,FO]
 rw[← Array.all_toList]
 congr 1
 funext x
 simp[Array.getD_eq_getD_getElem?,List.getD_eq_getElem?_getD]
theorem Lg{ops:List Oper}(h:sm ops=true):Region.noSelect ops.toArray=true∧∀(i j:Nat) (o p:Oper),ops[i]?=some o→ops[j]?=some p→i=j∨qi o j=true∨qi p i=true∨o.apart ops.toArray p=true:=by
 unfold sm at h
 have hz:∀(i:Nat) (o:Oper),ops[i]?=some o→(o,i)∈ops.zipIdx:=fun i o ho=>by
  rw[Pm];exact ho
 refine⟨?_,fun i j o p hi hj=>?_⟩
 ·unfold Region.noSelect
  rw[← Array.all_toList]
  refine fp.2 fun o ho=>?_
  obtain⟨i,hi⟩:=kI.1 ho
  have:=List.all_eq_true.1 h (o,i) (hz i o (by simpa using hi))
  simp only[bL]at this
  exact this.1
 ·have:=fp.1 h (o,i) (hz i o hi)
  simp only[bL]at this
  have:=fp.1 this.2 (p,j) (hz j p hj)
  simp only[oW]at this
  rcases this with ((h | h) | h) | h
  ·exact .inl (jr h)
  ·exact .inr (.inl h)
  ·exact .inr (.inr (.inl h))
  ·exact .inr (.inr (.inr h))
def Still(ops:List Oper)(i:Nat):Prop:=∀o,ops[i]?=some o→oI o.op=false
def sn(P:Program)(ops:List Oper)(Q:Exit→Act→World→Prop):Nat→Array Bool→Act→World→Prop
 | 0,au,a,w=>Region.ready .any ops.toArray au=[]∧Q .normal a w
 |fuel+1,au,a,w=>(Region.ready .any ops.toArray au=[]→Q .normal a w)∧
  ∀i∈Region.ready .any ops.toArray au,ox P ops.toArray Q i (fun a' w'=>(Still ops i→w'=w)∧sn P ops Q fuel (au.setIfInBounds i true) a' w') a w
theorem Qo{ops:List Oper}{Q:Exit→Act→World→Prop}:∀(fuel:Nat) (au:Array Bool) (a:Act) (w:World),sn P ops Q fuel au a w→xL P .any ops.toArray Q fuel au a w
 | 0,_,_,_,h=>h
 |fuel+1,_,_,_,h=>⟨h.1,fun i hi=>KR (fun a' w' h'=>Qo fuel _ a' w' h'.2) (h.2 i hi)⟩
def DN(ops:List Oper)(au:Array Bool):Prop:=∀(j:Nat) (o:Oper),ops[j]?=some o→au.getD j false=true→∀e∈o.after,Region.binds .any e=true→au.getD e.on false=true
theorem DN.set{ops:List Oper}{au:Array Bool}(h:DN ops au){j:Nat}{o:Oper}(ho:ops[j]?=some o)(hr:∀e∈o.after,Region.binds .any e=true→au.getD e.on false=true):DN ops (au.setIfInBounds j true):=by
 intro k p hp hk e he hb
 by_cases rV:k=j
 ·subst rV
  rw[ho]at hp;cases hp
  exact getD_set_true (hr e he hb)
 ·rw[getD_set_ne false (Ne.symm rV)]at hk
  exact getD_set_true (h k p hp hk e he hb)
theorem Xw{ops:List Oper}{Q:Exit→Act→World→Prop}(h0:sm ops=true){S:World→Prop}{i:Nat}{oi:Oper}{v:Value}(hi:ops[i]?=some oi):
  ∀(fuel:Nat) (au:Array Bool) (a:Act) (w:World),au.size=ops.length→DN ops au→(∀e∈oi.after,Region.binds .any e=true→au.getD e.on false=true)→i∈Region.ready .any ops.toArray au→YieldsIf P ops.toArray S oi v a→S w→((∀w,S w)∨∀(j:Nat) (o:Oper),ops[j]?=some o→oI o.op=true→au.getD j false=false→qi o i=true)→
   sn P ops Q fuel (au.setIfInBounds i true) (a.put oi.dst v) w→sn P ops Q (fuel+1) au a w:=by
 have fo:ops.toArray[i]?=some oi:=by simpa using hi
 have now:∀(fuel:Nat) (au:Array Bool) (a:Act) (w:World),YieldsIf P ops.toArray S oi v a→S w→sn P ops Q fuel (au.setIfInBounds i true) (a.put oi.dst v) w→ox P ops.toArray Q i (fun a' w'=>(Still ops i→w'=w)∧sn P ops Q fuel (au.setIfInBounds i true) a' w') a w:=
  fun fuel au a w hy yo H=>XH fo hy yo ⟨fun _=>rfl,H⟩
 intro fuel
 induction fuel with
 |zero=>
  intro au a w eD hc qN hr hy yo Fm H
  refine⟨fun h=>(by rw[h]at hr;cases hr),fun j hj=>?_⟩
  by_cases uE:j=i
  ·subst uE;exact now 0 au a w hy yo H
  ·have:=ready_mono hj uE
   rw[H.1]at this
   cases this
 |succ fuel ih=>
  intro au a w eD hc qN hr hy yo Fm H
  refine⟨fun h=>(by rw[h]at hr;cases hr),fun j hj=>?_⟩
  by_cases uE:j=i
  ·subst uE;exact now (fuel+1) au a w hy yo H
  ·have h1:=H.2 j (ready_mono hj uE)
   obtain⟨WO,oj,Ov,cf⟩:=mem_ready.1 hj
   have ahS:=(mem_ready.1 hr).1
   have WL:¬(qi oj i=true):=fun hb=>by
    obtain⟨e,he,zZ,e1⟩:=As hb
    have:=cf e he zZ
    rw[e1,Cq ahS]at this
    cases this
   have Ew:ops[j]?=some oj:=by simpa using Ov
   have wL:oi.apart ops.toArray oj=true:=by
    rcases (Lg h0).2 i j oi oj hi Ew with e | e | e | e
    ·exact absurd e.symm uE
    ·obtain⟨ed,he,zZ,e1⟩:=As e
     have:=qN ed he zZ
     rw[e1,Cq WO]at this
     cases this
    ·exact absurd e WL
    ·exact e
   have Wz:=Region.noSelect_spec (Lg h0).1
   have h2:=Zs Ov wL (fun cs b=>Wz i oi cs b fo) (fun cs b=>Wz j oj cs b Ov) hy h1
   have agT:(au.setIfInBounds i true).setIfInBounds j true=(au.setIfInBounds j true).setIfInBounds i true:=by rw[Array.setIfInBounds_comm _ _ (Ne.symm uE)]
   refine KR (fun a' w' h3=>?_) h2
   obtain⟨uw,hC',H'⟩:=h3
   have ahY:S w':=by
    rcases Fm with hS | EZ
    ·exact hS w'
    ·cases he:oI oj.op with
     |true=>exact absurd (EZ j oj Ew he (Cq WO)) WL
     |false=>rw[hC' (fun o ho=>by rw[Ew]at ho;cases ho;exact he)];exact yo
   refine⟨hC',ih (au.setIfInBounds j true) a' w' (by simpa using eD) (hc.set Ew cf) (fun e he hb=>getD_set_true (qN e he hb)) (ready_mono hr (Ne.symm uE)) uw ahY ?_ ?_⟩
   ·rcases Fm with hS | EZ
    ·exact .inl hS
    ·refine .inr fun k o ho he hk=>?_
     by_cases rV:k=j
     ·subst rV
      have jl:k<au.size:=by rw[eD];exact (bQ.1 Ew).1
      simp[Array.getD,jl]at hk
     ·rw[getD_set_ne false (Ne.symm rV)]at hk
      exact EZ k o ho he hk
   ·rw[← agT]
    exact H'
theorem R5{o:Op}(h:blind o=true){ρ:Operand→AV}{σ:Hp}{K:AV→Hp→Prop}(hw:gR P TT o ρ σ K):fI P TT o ρ σ (fun v=>K v σ)∧MM o=true:=by
 unfold blind at h
 split at h <;> first | exact⟨hw,rfl⟩ | cases h
theorem Tx{f:Nat→Prop}:∀{l:List Nat},N4 f l→∀i∈l,f i
 | [],_,i,h=>by cases h
 | [x],h,i,hi=>by simp at hi;subst hi;exact h
 |x::y::r,h,i,hi=>by
  rcases da.1 hi with rfl | hi
  ·exact h.1
  ·exact Tx (l:=y::r) h.2 i hi
theorem QO{o:Op}(h:oI o=false){ρ:Operand→AV}{σ:Hp}{K:AV→Hp→Prop}(hw:gR P TT o ρ σ K):fI P TT o ρ σ (fun v=>K v σ):=by
 unfold oI at h
 simp only[JZ,oW]at h
 rcases h with h | h
 ·exact (R5 h hw).1
 ·cases o <;> first | exact hw | cases h
theorem acv(ok:dD P TT){B n:Nat}{ops:List Oper}(h0:sm ops=true)(hd:∀o∈ops,∀d,o.dst=some d→d<n){K:Tm→Hp→Prop}{Q:Exit→Act→World→Prop}{F0:Nat→Prop}{w0:World}(hq:∀t' σ' F' w' a',bh F0 w0 F' w'→dg B n F' w' t' σ' a'→K t' σ'→Q .normal a' w'):
  ∀(m:Nat) (au:List Bool) (t:Tm) (σ:Hp) (F:Nat→Prop) (w:World) (a:Act),left au.toArray≤m→au.length=ops.length→vZ P TT ops (m+1) au t σ K→dg B n F w t σ a→bh F0 w0 F w→DN ops au.toArray→sn P ops (xN Q) m au.toArray a w:=by
 intro m
 induction m with
 |zero=>
  intro au t σ F w a hl hlen h hs ao hC
  have hr:iV ops au=[]:=by
   rw[← sl,Kg]
   intro j hj
   have:=(mem_ready.1 hj).1
   rw[K8 (by omega)]at this
   cases this
  rw[R8]at h
  rw[hr]at h
  exact⟨by rw[sl];exact hr,hq t σ F w a ao hs h⟩
 |succ m ih=>
  intro au t σ F w a hl hlen h hs ao hC
  rw[R8]at h
  split at h
  ·rename_i hr
   refine⟨fun _=>hq t σ F w a ao hs h,fun i hi=>?_⟩
   rw[sl,hr]at hi
   cases hi
  ·rename_i i0 r0 hr
   have guard:∀{o:Oper} {b:Bool},vB ops o t b→Region.wanted o (yielded ops.toArray a.tmps)=b:=fun hg=>Gx hg fun d _=>⟨F,w,hs.tm d⟩
   have mem:∀j,j∈iV ops au→∃o,ops[j]?=some o∧au.toArray.getD j true=false∧∀e∈o.after,Region.binds .any e=true→au.toArray.getD e.on false=true:=fun j hj=>by
    rw[← sl]at hj
    obtain⟨h1,o,h2,h3⟩:=mem_ready.1 hj
    exact⟨o,by simpa using h2,h1,h3⟩
   have j7:∀j,(au.set j true).toArray=au.toArray.setIfInBounds j true:=fun j=>by simp
   split at h
   ·rename_i j hj
    have OA:=List.mem_of_find?_eq_some hj
    have BY:=List.find?_some hj
    rw[← hr]at OA
    obtain⟨o,ho,eP,qN⟩:=mem j OA
    unfold MJ at BY
    rw[ho]at BY
    have ab:left (au.toArray.setIfInBounds j true)≤m:=by have:=C2 eP;omega
    unfold Bu at h
    rw[ho]at h
    have aO:oI o.op=false:=by
     unfold oI
     simp only[oW,bL]at BY
     rcases BY with hb | hb
     ·simp[hb]
     ·simp[hb.1]
    have hjr:j∈Region.ready .any ops.toArray au.toArray:=by rw[sl];exact OA
    have take:∀(S:World→Prop) v,((∀w,S w)∨∀(k:Nat) (o:Oper),ops[k]?=some o→oI o.op=true→au.toArray.getD k false=false→qi o j=true)→S w→YieldsIf P ops.toArray S o v a→sn P ops (xN Q) m (au.toArray.setIfInBounds j true) (a.put o.dst v) w→sn P ops (xN Q) (m+1) au.toArray a w:=fun S v Fm yo hy hk=>
     Xw h0 ho m au.toArray a w (by simpa using hlen) hC qN hjr hy yo Fm hk
    have qB:∀(x:AV) (u:Value),ax F w x u→vZ P TT ops (m+1) (au.set j true) (put t o.dst x) σ K→sn P ops (xN Q) m (au.toArray.setIfInBounds j true) (a.put o.dst u) w:=fun x u hx hk=>by
     rw[← j7]
     exact ih _ _ σ F w _ (by rw[j7];exact ab) (by simpa using hlen) hk (hs.put (.refl _ _) hs.hp hx (hd o (List.mem_of_getElem? ho))) ao (by rw[j7];exact hC.set ho qN)
    rcases yS h with ⟨hg,h⟩ | ⟨hg,h⟩
    ·simp only[oW,bL]at BY
     rcases BY with hb | ⟨hb,EZ⟩
     ·obtain⟨h1,h2⟩:=R5 hb h
      obtain⟨v,k1,k2⟩:=RE ok h2 h1
      obtain⟨u,r1,r2⟩:=k2 a.eval F w o rfl (fun x _=>hs.tm.eval x)
      exact take (fun _=>True) u (.inl fun _=>trivial) trivial (.inl ⟨guard hg,fun w' _=>r1 w'⟩) (qB v u r2 k1)
     ·obtain⟨v,k1,k2⟩:=GG ok (QO aO h)
      obtain⟨u,r1,r2⟩:=k2 a.eval F w o rfl (fun x _=>hs.tm.eval x) hs.hp
      refine take (fun x=>x=w) u (.inr fun k p hp hk hl=>?_) rfl (.inl ⟨guard hg,fun w' e=>by subst e;exact r1⟩) (qB v u r2 k1)
      have:=fp.1 EZ (p,k) (by rw[Pm];exact hp)
      have Oy:au.getD k false=false:=by
       rw[gW,Ac,← aR]at hl
       exact hl
      simpa only [hk,Oy,FH,qS]using this
    ·exact take (fun _=>True) undef (.inl fun _=>trivial) trivial (.inr ⟨guard hg,rfl⟩) (qB (.tup []) undef yN h)
   ·refine⟨fun h1=>absurd h1 (by rw[sl,hr];simp),fun j hj=>?_⟩
    rw[sl]at hj
    obtain⟨o,ho,eP,qN⟩:=mem j hj
    have h:=Tx h j (by rw[← hr];exact hj)
    have sY:j<ops.length:=(bQ.1 ho).1
    have ab:left (au.toArray.setIfInBounds j true)≤m:=by have:=C2 eP;omega
    unfold Bu at h
    rw[ho]at h
    unfold ox
    rw[show ops.toArray[j]?=some o by simpa using ho]
    have qB:∀(x:AV) (u:Value) (σ':Hp) (F':Nat→Prop) (w':World),bh F w F' w'→aX F' w' σ'→ax F' w' x u→(Still ops j→w'=w)→vZ P TT ops (m+1) (au.set j true) (put t o.dst x) σ' K→(Still ops j→w'=w)∧sn P ops (xN Q) m (au.toArray.setIfInBounds j true) (a.put o.dst u) w':=fun x u σ' F' w' q1 q2 q3 q4 hk=>by
     refine⟨q4,?_⟩
     rw[← j7]
     exact ih _ _ σ' F' w' _ (by rw[j7];exact ab) (by simpa using hlen) hk (hs.put q1 q2 q3 (hd o (List.mem_of_getElem? ho))) (ao.trans q1) (by rw[j7];exact hC.set ho qN)
    cases he:oI o.op with
    |true=>
     have vac:Still ops j→False:=fun hn=>by
      have:=hn o ho
      rw[he]at this
      cases this
     rcases yS h with ⟨hg,h⟩ | ⟨hg,h⟩
     ·simp only[guard hg,if_true]
      refine (K4 ok h a F w (fun x _=>hs.tm.eval x) hs.hp _ _ ?_)
      intro v av σ' F' w' q1 q2 q3 q4
      exact qB av v σ' F' w' q1 q2 q3 (fun hn=>(vac hn).elim) q4
     ·simp only[guard hg,lS,if_false]
      exact⟨fun _=>trivial,(qB (.tup []) undef σ F w (.refl _ _) hs.hp yN (fun _=>rfl) h).2⟩
    |false=>
     rcases yS h with ⟨hg,h⟩ | ⟨hg,h⟩
     ·simp only[guard hg,if_true]
      obtain⟨v,k1,k2⟩:=GG ok (QO he h)
      obtain⟨u,r1,r2⟩:=k2 a.eval F w o rfl (fun x _=>hs.tm.eval x) hs.hp
      unfold wq
      rw[r1]
      exact qB v u σ F w (.refl _ _) hs.hp r2 (fun _=>rfl) k1
     ·simp only[guard hg,lS,if_false]
      exact⟨fun _=>trivial,(qB (.tup []) undef σ F w (.refl _ _) hs.hp yN (fun _=>rfl) h).2⟩
theorem QY(ok:dD P TT)(hm:P.follows .mixedOrders=true){r:Option Nat}{B n id:Nat}{ops:Array Oper}{t:Tm}{σ:Hp}{K:Tm→Hp→Prop}{F:Nat→Prop}{w:World}{a:Act}{Q:Exit→Act→World→Prop}(h0:sm ops.toList=true)(h:vZ P TT ops.toList (ops.toList.length+1) (List.replicate ops.toList.length false) t σ K)(hd:∀o∈ops.toList,∀d,o.dst=some d→d<n)(bZ:∀o∈ops.toList,∀c,o.op≠.defer c)(hs:dg B n F w t σ a)
  (hq:∀t' σ' F' w' a',bh F w F' w'→dg B n F' w' t' σ' a'→K t' σ'→Q .normal a' w'):(Code.region id ops true).wpIn (FW r) 0 P Q a w:=by
 have pA:bh F w F { w with drawn:=w.drawn+1 }:=yK hs.hp.low rfl rfl rfl (aM _) (fun _ _=>rfl)
 refine wpIn_mono (KF hm bZ ?_) SY
 have key:=acv (P:=P) (Q:=Q) ok h0 hd (F0:=F) (w0:=w) hq ops.toList.length (List.replicate ops.toList.length false) t σ F { w with drawn:=w.drawn+1 } a (by
   unfold left
   refine Nat.le_trans (List.length_filter_le _ _) (by simp)) (by simp) h ⟨hs.tm.mono pA,hs.hp.same pA (fun _ _=>rfl),hs.size,hs.defers.mono pA⟩ pA (fun j o ho hl=>by
    simp[Array.getD]at hl)
 simpa using Qo _ _ _ _ key
end
section
variable {P:Program} {TT:TypeId→Option TI}
def One(X:(AV→Prop)→Prop):Prop:=∀K,X K→∃v,K v∧∀K':AV→Prop,K' v→X K'
theorem fT{v:AV}:One (fun K=>K v):=fun _ h=>⟨v,h,fun _ h=>h⟩
theorem cF:One (fun _=>False):=fun _ h=>h.elim
theorem re{p:Prop}{X:(AV→Prop)→Prop}(h:One X):One (fun K=>aH p (X K)):=fun K ⟨hp,h1⟩=>by
 obtain⟨v,h2,h3⟩:=h K h1
 exact⟨v,h2,fun K' hk=>⟨hp,h3 K' hk⟩⟩
theorem Gs{v:AV}:One (fun K=>strict v K):=fun K h=>⟨v,(yT v K)▸h,fun K' h=>by show strict v K';rw[yT];exact h⟩
theorem adT{α:Type}{l:List α}{n:Int}{f:α→AV}:One (fun K=>cg l n fun d=>K (f d)):=fun _ ⟨x,h0,h1,go⟩=>⟨f x,go,fun _ h=>⟨x,h0,h1,h⟩⟩
theorem Hq{b:Bool}:One (fun K=>oK b K):=fun K h=>⟨.bool b,by cases b <;> exact h,fun K' h=>by cases b <;> exact h⟩
theorem SM{t:TypeId}{xs ys:List AV}{f:Bool→Bool}:One (fun K=>EqAt P TT t xs ys fun b=>oK (f b) K):=fun K ⟨h1,h2,go⟩=>by
 obtain⟨v,k1,k2⟩:=Hq K go
 exact⟨v,k1,fun K' h=>⟨h1,h2,k2 K' h⟩⟩
theorem Z3{t:TypeId}{m:String}{X:(AV→Prop)→Prop}(h:One X):One (fun K=>fj P t m (X K)):=fun K ⟨hp,h1⟩=>by
 obtain⟨v,h2,h3⟩:=h K h1
 exact⟨v,h2,fun K' hk=>⟨hp,h3 K' hk⟩⟩
theorem Z1(k:TK)(want:Bool)(x y:AV):One (A7 k want x y):=by
 intro K h
 unfold A7 at h
 split at h
 all_goals first | exact⟨_,h,fun _ h=>h⟩ | exact h.elim | exact re fT K h
theorem adS(op:BinOp)(k:IntKind)(a b:Int):One (Iz op k a b):=by
 cases op <;> first | exact Hq | exact re fT | exact fT | exact cF
theorem Z0(op:BinOp)(k:IntKind)(a b:Int):One (HG op k a b):=by
 cases op <;> first | exact re fT | exact cF
theorem CP{b:Bool}{X Y:(AV→Prop)→Prop}(h1:One X)(h2:One Y):One (fun K=>match b with | true=>X K | false=>Y K):=by cases b;exact h2;exact h1
set_option maxHeartbeats 1000000 in
theorem adV(op:BinOp)(t:TypeId)(y0:Operand)(x y:AV):One (EG TT op t y0 x y):=by
 unfold EG
 cases x <;> cases y
 case int.int k a k' b=>cases op <;> first | exact Z0 _ _ _ _ | exact CP (adS _ _ _ _) cF
 case bool.bool a b=>
  rcases TT t with _ | ⟨k,s,qU,z⟩
  ·exact cF
  ·cases k <;> cases op <;> first | exact Hq | exact cF
 case str.str a b=>cases op <;> first | exact Hq | exact cF
 all_goals
  cases hc:Ul y0 <;> cases ht:TT t <;> cases op <;> first | exact cF | exact Z1 _ _ _ _
theorem abQ(op:BinOp)(t:TypeId)(y0:Operand)(x y:AV):One (EH P TT op t y0 x y):=by
 unfold EH
 split
 ·cases op <;> first | exact SM (f:=fun b=>b) | exact SM (f:=fun b=> !b) | exact cF
 ·cases op <;> first | exact re fT | exact cF
 ·exact adV _ _ _ _ _
theorem afx(op:UnOp)(x:AV):One (EN op x):=by
 unfold EN
 split <;> first | exact fT | exact cF
theorem abP(s d:TypeId)(x:AV):One (D9 TT s d x):=by
 unfold D9
 split <;> first | exact fT | exact re fT | exact cF
theorem ZZ(t:TypeId)(x:AV)(lo hi mx:Option AV):One (AU TT t x lo hi mx):=by
 unfold AU
 split
 ·split
  ·split <;> first | exact re fT | exact cF
  ·split <;> first | exact re fT | exact cF
  ·split <;> first | exact re fT | exact cF
  ·exact cF
 ·split
  ·split <;> first | exact re fT | exact cF
  ·exact cF
 ·exact cF
theorem abN(t:TypeId)(x ix:AV):One (CC TT t x ix):=by
 unfold CC
 split
 ·split <;> first | exact re adT | exact re fT | exact cF
 ·split <;> first | exact re fT | exact cF
 ·exact cF
theorem Xm(s:TypeId)(x:AV)(f:Nat):One (CF TT s x f):=by
 unfold CF
 split
 ·split
  ·split
   ·split <;> first | exact fT | exact cF
   ·exact cF
  ·exact cF
 ·exact cF
theorem Z2(s:TypeId)(x:AV)(f:Nat):One (DH TT s x f):=by
 unfold DH
 split
 ·split
  ·split
   ·split <;> first | exact fT | exact cF
   ·exact cF
  ·exact cF
 ·exact cF
theorem adR(k:TK)(x:AV):One (Er k x):=by
 unfold Er
 split <;> first | exact fT | exact cF
theorem adU(k:TK)(x:AV):One (EF k x):=by
 unfold EF
 split <;> first | exact fT | exact cF
theorem adP(xs:List AV):One (Em xs):=by
 unfold Em
 split
 ·exact CP fT cF
 ·exact cF
theorem adQ(xs:List AV):One (En xs):=by
 unfold En
 split
 ·exact CP fT cF
 ·exact cF
theorem abO(x y:AV):One (D8 x y):=by
 unfold D8
 split <;> first | exact fT | exact cF
theorem abK(x:AV):One (DP x):=by
 unfold DP
 split <;> first | exact fT | exact cF
theorem abM(x:AV):One (DV x):=by
 unfold DV
 split <;> first | exact fT | exact cF
theorem abL(i:TI)(a:AV)(σ:Hp):One (qo i a σ):=by
 unfold qo
 split
 ·split <;> first | exact fT | exact cF
 ·exact fun K ⟨j,cs,v,h1,h2,go⟩=>⟨v,go,fun K' h=>⟨j,cs,v,h1,h2,h⟩⟩
 ·exact cF
theorem YN(t:TypeId)(m k:AV)(c:Bool)(σ:Hp):One (Dq TT t m k c σ):=by
 unfold Dq
 split
 ·intro K ⟨j,b,l,hm,h1,go⟩
  cases c with
  |true=>exact⟨_,go,fun K' h=>⟨j,b,l,hm,h1,h⟩⟩
  |false=>exact⟨_,go,fun K' h=>⟨j,b,l,hm,h1,h⟩⟩
 ·exact cF
theorem Ho(o:Op)(ρ:Operand→AV)(σ:Hp):One (fI P TT o ρ σ):=by
 unfold fI
 split
 ·exact Gs
 ·exact Gs
 ·split
  ·exact CP Gs Gs
  ·exact cF
 ·split <;> first | exact fT | exact cF
 ·split <;> first | exact abL _ _ _ | exact cF
 ·split <;> first | exact fT | exact Z3 fT | exact cF
 ·exact abQ _ _ _ _ _
 ·exact afx _ _
 ·exact abP _ _ _
 ·split <;> first | exact fT | exact cF
 ·exact fT
 ·exact ZZ _ _ _ _ _
 ·exact Xm _ _ _
 ·exact Z2 _ _ _
 ·exact abN _ _ _
 ·split <;> first | exact CP fT fT | exact fT | exact cF
 ·exact YN _ _ _ _ _
 ·split
  ·split <;> first | exact fT | exact cF
  ·exact cF
 ·split
  ·split <;> first | exact adR _ _ | exact cF
  ·exact cF
 ·split <;> first | exact adP _ | exact cF
 ·split <;> first | exact adQ _ | exact cF
 ·split <;> first | exact abO _ _ | exact cF
 ·split <;> first | exact abK _ | exact cF
 ·split <;> first | exact abM _ | exact cF
 ·split
  ·split <;> first | exact adU _ _ | exact cF
  ·exact cF
 ·exact cF
theorem Ze{o:Op}(hb:blind o=true){ρ:Operand→AV}{σ σ':Hp}{K:AV→Prop}(h:fI P TT o ρ σ K):fI P TT o ρ σ' K:=by
 cases o <;> first | exact h | cases hb | (rename_i c;obtain⟨f,args,cm⟩:=c;cases f <;> first | cases hb | (rename_i b;cases b <;> first | exact h | cases hb))
theorem X3(c:Call)(ρ:Operand→AV)(σ:Hp):One (fun K=>qg P c ρ (fun f xs=>tW P f xs σ K) (fun _ _=>False)):=by
 have M1:∀(f:FuncId) (xs:List AV),One (tW P f xs σ):=fun f xs K h=>by
  cases h with
  |mk js r call go=>exact⟨r,go,fun K' h=>.mk js r call h⟩
  |perm hp r call go=>exact⟨r,go,fun K' h=>.perm hp r call h⟩
 unfold qg
 split
 ·split <;> first | exact M1 _ _ | exact cF
 ·split
  ·exact fun K ⟨g,h,go⟩=>(M1 _ _ K go).imp fun v hv=>⟨hv.1,fun K' hk=>⟨g,h,hv.2 K' hk⟩⟩
  ·exact fun K ⟨g,h,go⟩=>(M1 _ _ K go).imp fun v hv=>⟨hv.1,fun K' hk=>⟨g,h,hv.2 K' hk⟩⟩
  ·exact cF
 ·exact cF
theorem Um(o:Op)(ρ:Operand→AV)(σ:Hp):One (wm P TT o ρ σ):=by
 unfold wm
 split
 ·exact Ho _ _ _
 ·exact X3 _ _ _
 ·exact Ho _ _ _
theorem Yv{l:Nat}{K K':AV→Hp→Prop}(hk:∀v σ,K v σ→K' v σ){xs:List AV}{σ:Hp}(h:xD P l K xs σ):xD P l K' xs σ:=by
 cases h with
 |mk js R call go=>exact .mk js R call fun r σ' hr=>hk _ _ (go r σ' hr)
 |perm R hp call go=>exact .perm R hp call fun r σ' hr=>(go r σ' hr).imp fun ej h=>⟨h.1,hk _ _ h.2⟩
theorem Ym{c:Call}{ρ:Operand→AV}{A B:FuncId→List AV→Prop}{Y Z:Nat→List AV→Prop}(nQ:∀f xs,A f xs→B f xs)(EX:∀l xs,Y l xs→Z l xs)(h:qg P c ρ A Y):qg P c ρ B Z:=by
 unfold qg at h ⊢
 split at h
 ·split at h
  ·exact nQ _ _ h
  ·exact EX _ _ h
  ·exact h.elim
 ·split at h
  ·obtain⟨g,h1,h2⟩:=h;exact⟨g,h1,nQ _ _ h2⟩
  ·obtain⟨g,h1,h2⟩:=h;exact⟨g,h1,nQ _ _ h2⟩
  ·exact h.elim
 ·exact h.elim
theorem aaE{f:FuncId}{K K':AV→Hp→Prop}(hk:∀v σ,K v σ→K' v σ){xs:List AV}{σ:Hp}(h:CallAt P f K xs σ):CallAt P f K' xs σ:=by
 induction h with
 |mk js R call go=>exact .mk js R call fun r σ' hr=>hk _ _ (go r σ' hr)
 |perm R hp call go=>exact .perm R hp call fun r σ' hr=>(go r σ' hr).imp fun ej h=>⟨h.1,hk _ _ h.2⟩
 |cI j b off len es cs e l h1 h2 h3 h4 h ih=>exact .cI j b off len es cs e l h1 h2 h3 h4 ih
 |ku j b off len es cs e l h1 h2 h3 i k b' cs' hi hk h ih=>exact .ku j b off len es cs e l h1 h2 h3 i k b' cs' hi hk ih
theorem aaL{i:TI}{σ:Hp}{s x:AV}{K K':AV→Hp→Prop}(hk:∀v σ,K v σ→K' v σ)(h:AppendAt i σ s x K):AppendAt i σ s x K':=by
 cases h with
 |fresh n new hs hx hn hb h0 go same=>exact .fresh n new hs hx hn hb h0 (fun h b=>hk _ _ (go h b)) (fun h=>hk _ _ (same h))
 |more j b len n cs new hs h1 h2 hx hn hb h0 go=>exact .more j b len n cs new hs h1 h2 hx hn hb h0 (fun b=>hk _ _ (go b))
 |A8 j b off len n cs new hs h1 h2 hx hn hb h0 xZ go=>exact .A8 j b off len n cs new hs h1 h2 hx hn hb h0 (hk _ _ xZ) (fun b=>hk _ _ (go b))
 |perm K2 hp h ef=>exact .perm K2 hp h fun v ej h=>(ef v ej h).imp fun zF h=>⟨h.1,h.2.imp (hk _ _) fun h=>⟨h.1,hk _ _ h.2⟩⟩
theorem aaK{i:TI}{σ:Hp}{s x:AV}{K K':AV→Hp→Prop}(hk:∀v σ,K v σ→K' v σ)(h:DD i σ s x K):DD i σ s x K':=by
 cases h with
 |aj k n hs hx hn hb h0 go same=>exact .aj k n hs hx hn hb h0 (fun h b=>hk _ _ (go h b)) (fun h=>hk _ _ (same h))
theorem abG{o:Op}{ρ:Operand→AV}{σ:Hp}{K K':AV→Hp→Prop}(hk:∀v σ,K v σ→K' v σ)(h:gR P TT o ρ σ K):gR P TT o ρ σ K':=by
 have dd:∀{o:Op},fI P TT o ρ σ (fun v=>K v σ)→fI P TT o ρ σ (fun v=>K' v σ):=fun h=>by
  obtain⟨v,h1,h2⟩:=Ho _ _ _ _ h
  exact h2 _ (hk _ _ h1)
 unfold gR at h ⊢
 split at h
 ·split at h
  ·exact fun b=>hk _ _ (h b)
  ·exact h.elim
 ·split at h
  ·exact fun b=>hk _ _ (h b)
  ·exact h.elim
 ·split at h
  ·split at h
   ·split at h
    ·exact fun b=>hk _ _ (h b)
    ·exact h.elim
   ·exact h.elim
  ·exact h.elim
 ·split at h
  ·split at h
   ·exact⟨h.fact,fun b=>hk _ _ (h.go b)⟩
   ·exact h.elim
  ·exact h.elim
 ·split at h
  ·split at h
   ·obtain⟨j,cs,cs',h1,h2,go⟩:=h;exact⟨j,cs,cs',h1,h2,hk _ _ go⟩
   ·exact h.elim
  ·exact h.elim
 ·split at h
  ·exact fun b=>hk _ _ (h b)
  ·exact h.elim
 ·unfold AL at h ⊢
  split at h
  ·obtain⟨j,b,l,hm,h1,go⟩:=h;exact⟨j,b,l,hm,h1,hk _ _ go⟩
  ·exact h.elim
 ·unfold AL at h ⊢
  split at h
  ·obtain⟨j,b,l,hm,h1,go⟩:=h;exact⟨j,b,l,hm,h1,hk _ _ go⟩
  ·exact h.elim
 ·unfold HJ at h ⊢
  split at h
  ·obtain⟨j,b,l,hm,h1,go⟩:=h;exact⟨j,b,l,hm,h1,fun r=>hk _ _ (go r)⟩
  ·exact h.elim
 ·split at h
  ·obtain⟨j,j2,r,b,l,seen,hx,h1,h2,stop,go⟩:=h;exact⟨j,j2,r,b,l,seen,hx,h1,h2,fun h=>hk _ _ (stop h),fun i p h3 h4=>hk _ _ (go i p h3 h4)⟩
  ·exact h.elim
 ·obtain⟨j,j2,r,b,i,l,p,seen,hx,h1,h2,h3,go⟩:=h;exact⟨j,j2,r,b,i,l,p,seen,hx,h1,h2,h3,hk _ _ go⟩
 ·split at h
  ·split at h
   ·split at h
    ·exact aaL hk h
    ·exact h.elim
   ·split at h
    ·exact aaK hk h
    ·exact h.elim
   ·exact h.elim
  ·exact h.elim
 ·split at h
  ·split at h
   ·split at h
    ·cases h with
     |none hs go=>exact .none hs (hk _ _ go)
     |ae j b off len cs hs h1 h2 go=>exact .ae j b off len cs hs h1 h2 (hk _ _ go)
    ·exact h.elim
   ·exact h.elim
  ·exact h.elim
 ·split at h
  ·split at h
   ·split at h
    ·cases h with
     |none new hd hx go=>exact .none new hd hx (hk _ _ go)
     |ae j b off len n cs new hd h1 h2 hx hn go=>exact .ae j b off len n cs new hd h1 h2 hx hn (hk _ _ go)
     |part j b off len cs hd h1 h2 j2 b2 nw n kJ hx h3 h4 hn go=>exact .part j b off len cs hd h1 h2 j2 b2 nw n kJ hx h3 h4 hn (hk _ _ go)
    ·exact h.elim
   ·exact h.elim
  ·exact h.elim
 ·exact dd h
 ·exact Ym (fun f xs h=>aaE hk h) (fun l xs h=>Yv hk h) h
 ·exact dd h
theorem map_eq{ρ iy:Operand→AV}{l:List Operand}(h:∀x∈l,ρ x=iy x):l.map ρ=l.map iy:=wT h
theorem Ks{c:Call}{ρ iy:Operand→AV}(h:∀x∈(Op.call c).operands.toList,ρ x=iy x):(∀f,c.callee=.value f→ρ f=iy f)∧(∀r m,c.callee=.invoke r m→ρ r=iy r)∧∀x∈c.args.toList,ρ x=iy x:=by
 obtain⟨f,args,cm⟩:=c
 simp only[Op.operands,Call.operands,Cm,bP]at h
 refine⟨fun g e=>?_,fun r m e=>?_,fun x hx=>h x (.inr hx)⟩
 ·subst e;exact h g (.inl (by simp))
 ·subst e;exact h r (.inl (by simp))
theorem Gg{c:Call}{ρ iy:Operand→AV}{A:FuncId→List AV→Prop}{Y:Nat→List AV→Prop}(h:∀x∈(Op.call c).operands.toList,ρ x=iy x):qg P c ρ A Y=qg P c iy A Y:=by
 obtain⟨h1,h2,h3⟩:=Ks h
 have e:(c.args.toList.map fun x=>bJ (ρ x))=c.args.toList.map fun x=>bJ (iy x):=wT fun x hx=>by rw[h3 x hx]
 unfold qg
 rw[e]
 split
 ·rename_i f hf;rw[h1 f hf]
 ·rename_i r m hr;rw[h2 r m hr]
 ·rfl
theorem K5{o:Op}{ρ iy:Operand→AV}{σ:Hp}{K:AV→Prop}(h:∀x∈o.operands.toList,ρ x=iy x):fI P TT o ρ σ K=fI P TT o iy σ K:=by
 cases o with
 |call c=>
  obtain⟨f,args,cm⟩:=c
  obtain⟨_,_,h3⟩:=Ks h
  cases f with
  |builtin b=>
   obtain⟨l⟩:=args
   have h3:∀x∈l,ρ x=iy x:=h3
   match l,h3 with
   | [],_=>cases b <;> rfl
   | [x],h3=>
    have hx:=h3 x (by simp)
    cases b <;> first | rfl | (obtain⟨cm⟩:=cm;rcases cm with _ | ⟨t,_ | ⟨t',_ | ⟨zK,r⟩⟩⟩ <;> first | rfl | simp only[fI,hx])
   | [x,y],h3=>
    have hx:=h3 x (by simp)
    have hy:=h3 y (by simp)
    cases b <;> first | rfl | (obtain⟨cm⟩:=cm;rcases cm with _ | ⟨t,_ | ⟨t',_ | ⟨zK,r⟩⟩⟩ <;> first | rfl | simp only[fI,hx,hy])
   |_::_::_::_,_=>cases b <;> rfl
  |_=>rfl
 |build t parts=>
  have e:(parts.toList.map fun p=>(p.1,ρ p.2))=parts.toList.map fun p=>(p.1,iy p.2):=wT fun p hp=>by rw[h p.2 (by simp only[Op.operands];exact cY.2 ⟨p,hp,rfl⟩)]
  show (match HV TT t (parts.toList.map fun p=>(p.1,ρ p.2)) with | some v=>K v | none=>False)=_
  rw[e];rfl
 |makeFunc f first cap=>
  have e1:first.toList.map ρ=first.toList.map iy:=map_eq fun x hx=>h x (by simp only[Op.operands,Cm,bP];exact .inl hx)
  have e2:cap.toList.map ρ=cap.toList.map iy:=map_eq fun x hx=>h x (by simp only[Op.operands,Cm,bP];exact .inr hx)
  show K (.fn f (first.toList.map ρ) (cap.toList.map ρ))=_
  rw[e1,e2];rfl
 |slice t x lo hi mx=>
  have hx:=h x (by simp[Op.operands])
  have e:∀(o:Option Operand),(∀y,o=some y→y∈(Op.slice t x lo hi mx).operands.toList)→(o.map fun x=>bJ (ρ x))=o.map fun x=>bJ (iy x):=fun o ho=>by
   cases o with
   |none=>rfl
   |some y=>simp[h y (ho y rfl)]
  show AU TT t (bJ (ρ x)) (lo.map fun x=>bJ (ρ x)) (hi.map fun x=>bJ (ρ x)) (mx.map fun x=>bJ (ρ x)) K=_
  rw[hx,e lo (fun y hy=>by subst hy;simp[Op.operands]),e hi (fun y hy=>by subst hy;simp[Op.operands]),e mx (fun y hy=>by subst hy;simp[Op.operands])];rfl
 |pick c a b=>simp only[fI,h c (by simp[Op.operands]),h a (by simp[Op.operands]),h b (by simp[Op.operands])]
 |binOp op t x y yt=>simp only[fI,h x (by simp[Op.operands]),h y (by simp[Op.operands])]
 |indexAddr t x y=>simp only[fI,h x (by simp[Op.operands]),h y (by simp[Op.operands])]
 |lookup t x y c=>simp only[fI,h x (by simp[Op.operands]),h y (by simp[Op.operands])]
 |_=>first | rfl | (rename_i x;simp only[fI,h x (by simp[Op.operands])]) | (rename_i x _;simp only[fI,h x (by simp[Op.operands])]) | (rename_i x _ _;simp only[fI,h x (by simp[Op.operands])]) | (rename_i x _ _ _;simp only[fI,h x (by simp[Op.operands])])
theorem RD{o:Op}{ρ iy:Operand→AV}{σ:Hp}{K:AV→Prop}(h:∀x∈o.operands.toList,ρ x=iy x):wm P TT o ρ σ K=wm P TT o iy σ K:=by
 have hd:=K5 (P:=P) (TT:=TT) (σ:=σ) (K:=K) h
 cases o with
 |call c=>
  obtain⟨f,args,cm⟩:=c
  cases f with
  |builtin b=>exact hd
  |value g=>exact Gg (P:=P) (A:=fun f xs=>tW P f xs σ K) (Y:=fun _ _=>False) h
  |invoke r m=>exact Gg (P:=P) (A:=fun f xs=>tW P f xs σ K) (Y:=fun _ _=>False) h
 |_=>exact hd
theorem RB{o:Op}{ρ iy:Operand→AV}{σ:Hp}{K:AV→Hp→Prop}(h:∀x∈o.operands.toList,ρ x=iy x):gR P TT o ρ σ K=gR P TT o iy σ K:=by
 have hd:=K5 (P:=P) (TT:=TT) (σ:=σ) (K:=fun v=>K v σ) h
 cases o with
 |call c=>
  obtain⟨f,args,cm⟩:=c
  obtain⟨_,_,h3⟩:=Ks h
  cases f with
  |builtin b=>
   obtain⟨l⟩:=args
   have h3:∀x∈l,ρ x=iy x:=h3
   match l,h3 with
   | [],_=>cases b <;> first | exact hd | rfl
   | [x],h3=>
    have hx:=h3 x (by simp)
    cases b <;> first | exact hd | rfl | (obtain⟨cm⟩:=cm;rcases cm with _ | ⟨t,_ | ⟨t',_ | ⟨zK,r⟩⟩⟩ <;> first | rfl | simp only[gR,hx])
   | [x,y],h3=>
    have hx:=h3 x (by simp)
    have hy:=h3 y (by simp)
    cases b <;> first | exact hd | rfl | (obtain⟨cm⟩:=cm;rcases cm with _ | ⟨t,_ | ⟨t',_ | ⟨zK,r⟩⟩⟩ <;> first | rfl | simp only[gR,hx,hy])
   |_::_::_::_,_=>cases b <;> first | exact hd | rfl
  |value g=>exact Gg (P:=P) (A:=fun f xs=>CallAt P f K xs σ) (Y:=fun l xs=>xD P l K xs σ) h
  |invoke r m=>exact Gg (P:=P) (A:=fun f xs=>CallAt P f K xs σ) (Y:=fun l xs=>xD P l K xs σ) h
 |box t x=>simp only[gR,h x (by simp[Op.operands])]
 |buildSlice t len parts=>
  have e:(parts.toList.map fun p=>(p.1,ρ p.2))=parts.toList.map fun p=>(p.1,iy p.2):=wT fun p hp=>by rw[h p.2 (by simp only[Op.operands];exact cY.2 ⟨p,hp,rfl⟩)]
  simp only[gR,e]
 |makeSlice t l c=>simp only[gR,h l (by simp[Op.operands]),h c (by simp[Op.operands])]
 |store t a x=>simp only[gR,h a (by simp[Op.operands]),h x (by simp[Op.operands])]
 |makeMap t r=>cases r with
  |none=>rfl
  |some r=>exact hd
 |mapUpdate t m k x=>simp only[gR,h m (by simp[Op.operands]),h k (by simp[Op.operands]),h x (by simp[Op.operands])]
 |insert t m k x=>simp only[gR,h m (by simp[Op.operands]),h k (by simp[Op.operands]),h x (by simp[Op.operands])]
 |range t x=>simp only[gR,h x (by simp[Op.operands])]
 |next x s=>simp only[gR,h x (by simp[Op.operands])]
 |entry x=>simp only[gR,h x (by simp[Op.operands])]
 |_=>first | exact hd | rfl
theorem xh{ops:List Oper}{Q:List Nat}{n:Nat}{au:List Bool}{t:Tm}{σ:Hp}{K:Tm→Hp→Prop}:qC P TT ops Q (n+1) au t σ K=((iV ops au=[]→K t σ)∧∀i∈iV ops au,jP P TT ops (eY i Q) i t σ fun t' σ'=>qC P TT ops Q n (au.set i true) t' σ' K):=rfl
def uX(_ops:List Oper)(au:List Bool)(o:Oper):Prop:=∀e∈o.after.toList,Region.binds .any e=true→au.getD e.on false=true
theorem xc{ops:List Oper}{au:List Bool}{i:Nat}:i∈iV ops au↔au.getD i true=false∧∃o,ops[i]?=some o∧uX ops au o:=by
 unfold iV uX
 simp only[ki,fA,bL,jq]
 constructor
 ·rintro⟨h1,h2,h3⟩
  refine⟨h2,ops[i],by simp[h1],?_⟩
  rw[bc h1]at h3
  intro e he hb
  have:=fp.1 h3 e he
  simpa [hb]using this
 ·rintro⟨h2,o,h1,h3⟩
  refine⟨(bQ.1 h1).1,h2,?_⟩
  rw[h1]
  refine fp.2 fun e he=>?_
  cases hb:Region.binds .any e with
  |false=>simp
  |true=>rw[h3 e he hb];simp
def AQ(ops:List Oper)(au:List Bool):Prop:=∀(j:Nat) (o:Oper),ops[j]?=some o→au.getD j false=true→uX ops au o
theorem PK{l:List Bool}{i k:Nat}(h:l.getD k false=true):(l.set i true).getD k false=true:=by
 rw[aR]at h ⊢
 rw[dY]
 split
 ·rename_i e;subst e
  split
  ·rfl
  ·rename_i hn;rw[uS (by omega)]at h;cases h
 ·exact h
theorem PZ{l:List Bool}{i k:Nat}(b:Bool)(h:k≠i):(l.set i true).getD k b=l.getD k b:=by
 rw[aR,aR,dY,ah (Ne.symm h)]
theorem Hy{l:List Bool}{i:Nat}(h:l.getD i true=false):l.getD i false=false:=by
 rw[aR]at h ⊢
 cases hq:l[i]? with
 |none=>rw[hq]at h;cases h
 |some b=>rw[hq]at h;exact h
theorem uX.set{ops:List Oper}{au:List Bool}{o:Oper}(h:uX ops au o)(i:Nat):uX ops (au.set i true) o:=fun e he hb=>PK (h e he hb)
theorem AQ.set{ops:List Oper}{au:List Bool}(h:AQ ops au){j:Nat}{o:Oper}(ho:ops[j]?=some o)(hr:uX ops au o):AQ ops (au.set j true):=by
 intro k p hp hk
 by_cases rV:k=j
 ·subst rV
  rw[ho]at hp;cases hp
  exact hr.set k
 ·rw[PZ false rV]at hk
  exact (h k p hp hk).set j
theorem Rs{ops:List Oper}{au:List Bool}{i j:Nat}(hi:i∈iV ops au)(h:i≠j):i∈iV ops (au.set j true):=by
 obtain⟨h1,o,h2,h3⟩:=xc.1 hi
 exact xc.2 ⟨by rw[PZ true h];exact h1,o,h2,h3.set j⟩
theorem S3{j:Nat}{l:List Nat}:eY j l=true↔j∈l:=by
 unfold eY
 rw[nT]
 exact⟨fun ⟨x,h1,h2⟩=>jr h2▸h1,fun h=>⟨j,h,yx j⟩⟩
def Ed(ops:List Oper)(k:Nat)(row:List Nat):Prop:=∀o,ops[k]?=some o→∀au,AQ ops au→uX ops au o→∀j∈row,au.getD j false=true
theorem adx{ops:List Oper}{acc:List (List Nat)}(hlen:acc.length≤ops.length)(h:∀(k:Nat) (row:List Nat),acc[k]?=some row→Ed ops k row){k:Nat}{o:Oper}(ho:ops[k]?=some o):Ed ops k (NA o acc):=by
 intro o' gj au hc hr j hj
 rw[ho]at gj;cases gj
 unfold NA at hj
 obtain⟨e,he,hj⟩:=List.mem_flatMap.1 hj
 split at hj
 ·rename_i hb
  have lQ:=hr e he hb
  rcases da.1 hj with rfl | hj
  ·exact lQ
  ·cases hq:acc[e.on]? with
   |none=>rw[hq]at hj;simp at hj
   |some row=>
    rw[hq]at hj
    cases hp:ops[e.on]? with
    |some p=>exact h e.on row hq p hp au hc (hc e.on p hp lQ) j (by simpa using hj)
    |none=>
     have h1:=(bQ.1 hq).1
     have h2:=List.getElem?_eq_none_iff.1 hp
     omega
 ·cases hj
theorem Sz{ops:List Oper}:∀(os:List Oper) (acc:List (List Nat)) (pre:List Oper),ops=pre++os→acc.length=pre.length→(∀(k:Nat) (row:List Nat),acc[k]?=some row→Ed ops k row)→∀(k:Nat) (row:List Nat),(MZ os acc)[k]?=some row→Ed ops k row
 | [],acc,pre,_,_,h=>h
 |o::os,acc,pre,he,hl,h=>by
  refine Sz os _ (pre++[o]) (by rw[he];simp) (by simp[hl]) ?_
  intro k row hk
  by_cases ab:k<acc.length
  ·rw[jG ab]at hk
   exact h k row hk
  ·have eN:=hk
   rw[ij (by omega)]at hk
   have hz:k-acc.length=0:=by
    have:=(bQ.1 hk).1
    simp at this;omega
   rw[hz]at hk
   simp only[List.getElem?_cons_zero,Option.some.injEq]at hk
   subst hk
   have bD:k=pre.length:=by omega
   have ho:ops[k]?=some o:=by rw[he,bD];simp
   intro o' gj au hc hr j hj
   exact adx (by rw[he,hl];simp) h ho o' gj au hc hr j (List.mem_eraseDups.1 hj)
def ai0(want:Bool)(x:AV)(A B:Prop):Prop:=
 match x with
 |.bool b=>(match want,b with | true,true=>A | true,false=>B | false,true=>B | false,false=>A)
 |.tup []=>B
 |_=>False
theorem CD{ops:List Oper}{o:Oper}{t:Tm}{A B:Prop}(h:pr ops o t A B):
  (A∧∀(t2:Tm),(∀d∈o.looksAt ops.toArray,t2 d=t d)→∀{A' B':Prop},A'→pr ops o t2 A' B')∨(B∧∀(t2:Tm),(∀d∈o.looksAt ops.toArray,t2 d=t d)→∀{A' B':Prop},B'→pr ops o t2 A' B'):=by
 unfold pr at h
 split at h
 ·rename_i hg
  refine .inl ⟨h,fun t2 _ A' B' ha=>?_⟩
  unfold pr;rw[hg];exact ha
 ·rename_i j want hg
  split at h
  ·rename_i d hd
   have zB:d∈o.looksAt ops.toArray:=by
    unfold Oper.looksAt
    rw[hg]
    simp only[Ac,hd,Option.toList_some,bP,a8,or_true]
   have go:∀(t2:Tm),(∀d∈o.looksAt ops.toArray,t2 d=t d)→∀{A' B':Prop},ai0 want (t d) A' B'→pr ops o t2 A' B':=fun t2 h2 A' B' hx=>by
    unfold pr
    rw[hg]
    dsimp only
    rw[hd]
    dsimp only
    rw[h2 d zB]
    exact hx
   split at h
   ·rename_i b hb
    cases want <;> cases b
    ·exact .inl ⟨h,fun t2 h2 A' B' ha=>go t2 h2 (by rw[hb];exact ha)⟩
    ·exact .inr ⟨h,fun t2 h2 A' B' ha=>go t2 h2 (by rw[hb];exact ha)⟩
    ·exact .inr ⟨h,fun t2 h2 A' B' ha=>go t2 h2 (by rw[hb];exact ha)⟩
    ·exact .inl ⟨h,fun t2 h2 A' B' ha=>go t2 h2 (by rw[hb];exact ha)⟩
   ·rename_i hb
    exact .inr ⟨h,fun t2 h2 A' B' ha=>go t2 h2 (by rw[hb];exact ha)⟩
   ·exact h.elim
  ·exact h.elim
theorem Dx{ops:List Oper}{o:Oper}{t t2:Tm}(h:∀d∈o.looksAt ops.toArray,t2 d=t d):∀x∈o.op.operands.toList,ev t2 x=ev t x:=by
 intro x hx
 cases x with
 |tmp d=>
  refine h d ?_
  unfold Oper.looksAt
  refine gJ _ (List.mem_filterMap.2 ⟨_,hx,rfl⟩)
 |_=>rfl
theorem abX{o:Op}(h:tJ o=true){ρ:Operand→AV}{σ:Hp}{K:AV→Hp→Prop}:gR P TT o ρ σ K=fI P TT o ρ σ (fun v=>K v σ):=by
 cases o <;> first | rfl | cases h
theorem aaG{o:Op}(h:blind o=true){ρ:Operand→AV}{σ:Hp}{K:AV→Hp→Prop}:gR P TT o ρ σ K=fI P TT o ρ σ (fun v=>K v σ):=by
 cases o <;> first | rfl | cases h | (rename_i c;obtain⟨f,args,cm⟩:=c;cases f <;> first | cases h | (rename_i b;cases b <;> first | rfl | cases h))
theorem aa8{o:Op}(h:tJ o=true){ρ:Operand→AV}{σ:Hp}{K:AV→Prop}(c:Nat×List AV)(hd:fI P TT o ρ σ K):fI P TT o ρ (c::σ) K:=by
 have key:∀{i:TI} {a:AV},qo i a σ K→qo i a (c::σ) K:=fun {i a} h=>by
  unfold qo at h ⊢
  cases a <;> first | exact h | (cases h with | mk j cs v h1 h2 go=>exact .mk (j+1) cs v h1 h2 go)
 cases o <;> first | cases h | skip
 unfold fI at hd ⊢
 dsimp only at hd ⊢
 split at hd
 ·exact key hd
 ·exact hd
theorem abU{o:Op}(hn:H9 o=true){ρ:Operand→AV}{σ:Hp}{K K2:AV→Hp→Prop}(hk:∀v c,K v (c::σ)→K2 v (c::σ))(h:gR P TT o ρ σ K):gR P TT o ρ σ K2:=by
 cases o <;> first | cases hn | skip
 all_goals
  unfold gR at h ⊢
  dsimp only at h ⊢
  split at h
  ·exact fun b=>hk _ _ (h b)
  ·exact h
theorem Mx{ops:List Oper}{Q:List Nat}{j:Nat}{o:Oper}(ho:ops[j]?=some o){t:Tm}{σ:Hp}{K:Tm→Hp→Prop}(hk:vV ops Q j=false)(h:jP P TT ops (eY j Q) j t σ K):
  ∃v,K (put t o.dst v) σ∧∀(t2:Tm) (σ2:Hp),(∀d∈o.looksAt ops.toArray,t2 d=t d)→(σ2=σ∨(blind o.op=true∧eY j Q=false)∨(tJ o.op=true∧eY j Q=false∧∃c,σ2=c::σ))→∀(K2:Tm→Hp→Prop),K2 (put t2 o.dst v) σ2→jP P TT ops (eY j Q) j t2 σ2 K2:=by
 unfold jP at h ⊢
 rw[ho]at h ⊢
 dsimp only at h ⊢
 cases hq:eY j Q with
 |true=>
  rw[hq]at h
  dsimp only at h ⊢
  rcases CD h with ⟨h,g⟩ | ⟨h,g⟩
  ·obtain⟨v,h1,h2⟩:=Um _ _ _ _ h
   refine⟨v,h1,fun t2 σ2 ht aC K2 ef=>g t2 ht ?_⟩
   rcases aC with rfl | ⟨_,h⟩ | ⟨_,h,_⟩
   ·rw[RD (Dx ht)]
    exact h2 (fun v=>K2 (put t2 o.dst v) σ2) ef
   ·cases h
   ·cases h
  ·refine⟨.tup [],h,fun t2 σ2 ht aC K2 ef=>g t2 ht ?_⟩
   rcases aC with rfl | ⟨_,h⟩ | ⟨_,h,_⟩
   ·exact ef
   ·cases h
   ·cases h
 |false=>
  rw[hq]at h
  dsimp only at h ⊢
  have aO:oI o.op=false:=by
   unfold vV at hk
   rw[ho,hq]at hk
   simpa using hk
  have e:∀(ρ:Operand→AV) (σ:Hp) (K:AV→Hp→Prop),gR P TT o.op ρ σ K=fI P TT o.op ρ σ (fun v=>K v σ):=fun ρ σ K=>by
   unfold oI at aO
   simp only[JZ,oW]at aO
   rcases aO with h | h
   ·exact aaG h
   ·exact abX h
  rcases CD h with ⟨h,g⟩ | ⟨h,g⟩
  ·rw[e]at h
   obtain⟨v,h1,h2⟩:=Ho _ _ _ _ h
   refine⟨v,h1,fun t2 σ2 ht aC K2 ef=>g t2 ht ?_⟩
   rw[e,K5 (Dx ht)]
   rcases aC with rfl | ⟨hb,_⟩ | ⟨hl,_,c,rfl⟩
   ·exact h2 (fun v=>K2 (put t2 o.dst v) σ2) ef
   ·exact Ze hb (h2 (fun v=>K2 (put t2 o.dst v) σ2) ef)
   ·exact aa8 hl c (h2 (fun v=>K2 (put t2 o.dst v) (c::σ)) ef)
  ·exact⟨.tup [],h,fun t2 σ2 ht aC K2 ef=>g t2 ht ef⟩
theorem G3{ops:List Oper}{q:Bool}{i:Nat}{o:Oper}(ho:ops[i]?=some o){t t2:Tm}{σ:Hp}{K K2:Tm→Hp→Prop}(ht:∀d∈o.looksAt ops.toArray,t2 d=t d)(hk:∀v σ',K (put t o.dst v) σ'→K2 (put t2 o.dst v) σ')(h:jP P TT ops q i t σ K):jP P TT ops q i t2 σ K2:=by
 unfold jP at h ⊢
 rw[ho]at h ⊢
 dsimp only at h ⊢
 cases q with
 |true=>
  dsimp only at h ⊢
  rcases CD h with ⟨h,g⟩ | ⟨h,g⟩
  ·obtain⟨v,h1,h2⟩:=Um _ _ _ _ h
   refine g t2 ht ?_
   rw[RD (Dx ht)]
   exact h2 _ (hk _ _ h1)
  ·exact g t2 ht (hk _ _ h)
 |false=>
  dsimp only at h ⊢
  rcases CD h with ⟨h,g⟩ | ⟨h,g⟩
  ·refine g t2 ht ?_
   rw[RB (Dx ht)]
   exact abG (fun v σ' h=>hk v σ' h) h
  ·exact g t2 ht (hk _ _ h)
theorem abR{ops:List Oper}{i:Nat}{o:Oper}(ho:ops[i]?=some o)(hn:H9 o.op=true){t t2:Tm}{σ:Hp}{K K2:Tm→Hp→Prop}(ht:∀d∈o.looksAt ops.toArray,t2 d=t d)(hk:∀v c,K (put t o.dst v) (c::σ)→K2 (put t2 o.dst v) (c::σ))(hs:∀v,K (put t o.dst v) σ→K2 (put t2 o.dst v) σ)(h:jP P TT ops false i t σ K):jP P TT ops false i t2 σ K2:=by
 unfold jP at h ⊢
 rw[ho]at h ⊢
 dsimp only at h ⊢
 rcases CD h with ⟨h,g⟩ | ⟨h,g⟩
 ·refine g t2 ht ?_
  rw[RB (Dx ht)]
  exact abU hn (fun v c h=>hk v c h) h
 ·exact g t2 ht (hs _ h)
theorem adF{t:Tm}{d d':Option Tmp}{v v':AV}(h:∀x,d=some x→d'≠some x):put (put t d v) d' v'=put (put t d' v') d v:=by
 cases d with
 |none=>rfl
 |some x=>cases d' with
  |none=>rfl
  |some y=>
   have aO:y≠x:=fun e=>h x rfl (by rw[e])
   funext i
   show (match Nat.beq i y with | true=>v' | false=>match Nat.beq i x with | true=>v | false=>t i)=(match Nat.beq i x with | true=>v | false=>match Nat.beq i y with | true=>v' | false=>t i)
   cases h1:Nat.beq i y <;> cases h2:Nat.beq i x <;> first | rfl | exact absurd ((jr h1).symm.trans (jr h2)) aO
theorem Ub{t:Tm}{d:Option Tmp}{v:AV}{x:Tmp}(h:d≠some x):put t d v x=t x:=by
 cases d with
 |none=>rfl
 |some y=>
  show (match Nat.beq x y with | true=>v | false=>t x)=t x
  cases hb:Nat.beq x y with
  |false=>rfl
  |true=>exact absurd (by rw[jr hb]) h
def VO(ops:List Oper)(rows:List (List Nat)):Prop:=∀(k:Nat) (row:List Nat),rows[k]?=some row→Ed ops k row
theorem acM{ops:List Oper}(h0:sm ops=true){au:List Bool}{i j:Nat}{oi oj:Oper}(eQ:i≠j)(hi:ops[i]?=some oi)(hj:ops[j]?=some oj)(Jk:au.getD i true=false)(Jj:au.getD j true=false)(dW:uX ops au oi)(Ot:uX ops au oj):oi.apart ops.toArray oj=true:=by
 rcases (Lg h0).2 i j oi oj hi hj with e | e | e | e
 ·exact absurd e eQ
 ·obtain⟨ed,h1,h2,rfl⟩:=As e
  have:=dW ed (by simpa using h1) h2
  rw[Hy Jj]at this;cases this
 ·obtain⟨ed,h1,h2,rfl⟩:=As e
  have:=Ot ed (by simpa using h1) h2
  rw[Hy Jk]at this;cases this
 ·exact e
theorem abV{ops:List Oper}{k:Nat}(h:El ops k=true):∃o,ops[k]?=some o∧H9 o.op=true:=by
 unfold El at h
 split at h
 ·rename_i o ho;exact⟨o,ho,h⟩
 ·cases h
theorem QX{ops:List Oper}{rows:List (List Nat)}{Q:List Nat}{au:List Bool}{j:Nat}(h:A2 ops rows Q au j=true):∃o,ops[j]?=some o∧vV ops Q j=false∧((blind o.op=true∧eY j Q=false)∨∀k,k<ops.length→au.getD k false=true∨vV ops Q k=false∨eY j ((rows[k]?).getD [])=true∨(tJ o.op=true∧eY j Q=false∧El ops k=true)):=by
 unfold A2 at h
 split at h
 ·rename_i o ho
  refine⟨o,ho,?_⟩
  simp only[oW,bL,jq]at h
  rcases h with ⟨h1,h2⟩ | ⟨h1,h2⟩
  ·exact⟨by unfold vV oI;rw[ho];simp[h1],.inl ⟨h1,h2⟩⟩
  ·refine⟨?_,.inr fun k hk=>?_⟩
   ·unfold vV oI;rw[ho]
    rcases h1 with h1 | h1 <;> simp[h1]
   ·have:=fp.1 h2 k (fA.2 hk)
    simp only[oW,bL,jq]at this
    rcases this with ((h | h) | h) | ⟨⟨h3,h4⟩,h5⟩
    ·exact .inl h
    ·exact .inr (.inl h)
    ·exact .inr (.inr (.inl h))
    ·exact .inr (.inr (.inr ⟨h3,h4,h5⟩))
 ·cases h
theorem Zh{ops:List Oper}{rows:List (List Nat)}{Q:List Nat}{K:Tm→Hp→Prop}(h0:sm ops=true)(hR:VO ops rows){j:Nat}:∀(n:Nat) (au:List Bool) (t:Tm) (σ:Hp),AQ ops au→j∈iV ops au→A2 ops rows Q au j=true→
  jP P TT ops (eY j Q) j t σ (fun t' σ'=>qC P TT ops Q n (au.set j true) t' σ' K)→qC P TT ops Q (n+1) au t σ K:=by
 intro n
 induction n with
 |zero=>
  intro au t σ hc hj hf h
  obtain⟨oj,ho,he,_⟩:=QX hf
  obtain⟨v,h1,_⟩:=Mx ho he h
  exact h1.elim
 |succ n ih=>
  intro au t σ hc hj hf h
  obtain⟨oj,ho,he,afL⟩:=QX hf
  obtain⟨Jj,oj',gj,Ot⟩:=xc.1 hj
  rw[ho]at gj;cases gj
  obtain⟨v,h1,h2⟩:=Mx ho he h
  rw[xh]
  refine⟨fun hn=>by rw[hn]at hj;(cases hj),fun i hi=>?_⟩
  by_cases eQ:i=j
  ·subst eQ
   exact h2 t σ (fun _ _=>rfl) (.inl rfl) _ h1
  obtain⟨Jk,oi,kf,dW⟩:=xc.1 hi
  have wL:=Oper.apart_spec (acM h0 eQ kf ho Jk Jj dW Ot)
  rw[xh]at h1
  have lH:=h1.2 i (Rs hi eQ)
  have Bc:∀d∈oi.looksAt ops.toArray,t d=put t oj.dst v d:=fun d hd=>(Ub fun e=>wL.2.2 d e hd).symm
  have uh:∀u,put (put t oj.dst v) oi.dst u=put (put t oi.dst u) oj.dst v:=fun u=>adF fun x hx hi=>wL.2.1 x hi hx
  have j7:(au.set j true).set i true=(au.set i true).set j true:=List.set_comm _ _ (Ne.symm eQ)
  have Fj:=hc.set kf dW
  have uE:=Rs hj (Ne.symm eQ)
  have hfi:A2 ops rows Q (au.set i true) j=true:=by
   unfold A2 at hf ⊢
   rw[ho]at hf ⊢
   simp only[oW,bL,jq]at hf ⊢
   refine hf.imp id fun h=>⟨h.1,fp.2 fun k hk=>?_⟩
   have:=fp.1 h.2 k hk
   simp only[oW,jq]at this ⊢
   exact this.imp (fun h=>h.imp (fun h=>h.imp PK id) id) id
  have hlj:∀u,∀d∈oj.looksAt ops.toArray,put t oi.dst u d=t d:=fun u d hd=>Ub fun e=>wL.1 d e hd
  have fin:∀u σ',(σ'=σ∨(blind oj.op=true∧eY j Q=false)∨(tJ oj.op=true∧eY j Q=false∧∃c,σ'=c::σ))→qC P TT ops Q n ((au.set j true).set i true) (put (put t oj.dst v) oi.dst u) σ' K→qC P TT ops Q (n+1) (au.set i true) (put t oi.dst u) σ' K:=fun u σ' aC hh=>by
   refine ih (au.set i true) (put t oi.dst u) σ' Fj uE hfi ?_
   refine h2 _ σ' (hlj u) aC _ ?_
   rw[j7,uh]at hh
   exact hh
  cases B1:vV ops Q i with
  |true=>
   have hb:(blind oj.op=true∧eY j Q=false)∨(tJ oj.op=true∧eY j Q=false∧El ops i=true):=by
    rcases afL with h | h
    ·exact .inl h
    ·have ab:i<ops.length:=(bQ.1 kf).1
     rcases h i ab with h | h | h | h
     ·rw[Hy Jk]at h;cases h
     ·rw[B1]at h;cases h
     rotate_left
     ·exact .inr h
     ·cases hq:rows[i]? with
      |none=>rw[hq]at h;cases h
      |some row=>
       rw[hq]at h
       have:=hR i row hq oi kf au hc dW j (S3.1 h)
       rw[Hy Jj]at this;cases this
   rcases hb with hb | ⟨hl,hq,hY⟩
   ·exact G3 kf Bc (fun u σ' hh=>fin u σ' (.inr (.inl hb)) hh) lH
   ·obtain⟨oi',WJ,hn⟩:=abV hY
    rw[kf]at WJ;cases WJ
    have hqi:eY i Q=false:=by
     unfold vV at B1
     rw[kf]at B1
     simp only[bL,jq]at B1
     exact B1.2
    rw[hqi]at lH ⊢
    exact abR kf hn Bc (fun u c hh=>fin u (c::σ) (.inr (.inr ⟨hl,hq,c,rfl⟩)) hh) (fun u hh=>fin u σ (.inl rfl) hh) lH
  |false=>
   obtain⟨u,k1,k2⟩:=Mx kf B1 lH
   exact k2 t σ Bc (.inl rfl) _ (fin u σ (.inl rfl) k1)
theorem ads{ops:List Oper}{rows:List (List Nat)}{Q:List Nat}{K:Tm→Hp→Prop}(h0:sm ops=true)(hR:VO ops rows):∀(s:qV) (n:Nat) (nt:List Nat) (au:List Bool) (t:Tm) (σ:Hp),lB ops rows Q s n nt au=true→AQ ops au→vR P TT ops s t σ K→
  (nt=[]→qC P TT ops Q n au t σ K)∧((∀i∈nt,i∈iV ops au)→∀i∈nt,jP P TT ops (eY i Q) i t σ fun t' σ'=>qC P TT ops Q n (au.set i true) t' σ' K):=by
 intro s
 induction s with
 |stop=>
  intro n nt au t σ hs hc h
  unfold lB at hs
  split at hs
  ·rename_i n _ _ _ hr
   refine⟨fun _=>?_,fun _ i hi=>by cases hi⟩
   rw[xh,hr]
   exact⟨fun _=>h,fun i hi=>by cases hi⟩
  ·cases hs
 |one j q s ih=>
  intro n nt au t σ hs hc h
  have step:∀m,eY j Q=q→j∈iV ops au→lB ops rows Q s m [] (au.set j true)=true→jP P TT ops (eY j Q) j t σ fun t' σ'=>qC P TT ops Q m (au.set j true) t' σ' K:=fun m hq hj hs=>by
   obtain⟨_,o,ho,hr⟩:=xc.1 hj
   rw[hq]
   have h:jP P TT ops q j t σ fun t' σ'=>vR P TT ops s t' σ' K:=h
   exact G3 ho (fun _ _=>rfl) (fun v σ' hh=>(ih m [] _ _ σ' hs (hc.set ho hr) hh).1 rfl) h
  unfold lB at hs
  split at hs
  ·rename_i n
   simp only[bL,oW,beq_iff_eq]at hs
   obtain⟨⟨⟨h1,h2⟩,h3⟩,h4⟩:=hs
   have hj:=S3.1 h2
   refine⟨fun _=>?_,fun _ i hi=>by cases hi⟩
   have ao:=step n h1 hj h4
   rcases h3 with h3 | h3
   ·exact Zh h0 hR n au t σ hc hj h3 ao
   ·split at h3
    ·rename_i i hr
     rw[xh,hr]
     refine⟨fun h=>(by cases h),fun k hk=>?_⟩
     obtain rfl:=a8.1 hk
     obtain rfl:=jr h3
     exact ao
    ·cases h3
  ·rename_i i
   simp only[bL,beq_iff_eq]at hs
   obtain⟨⟨h1,h2⟩,h4⟩:=hs
   refine⟨fun h=>(by cases h),fun hp k hk=>?_⟩
   obtain rfl:=jr h2
   obtain rfl:=a8.1 hk
   exact step _ h1 (hp k hk) h4
  ·cases hs
 |alt j s r ih jS=>
  intro n nt au t σ hs hc h
  obtain⟨ha,hb⟩:jP P TT ops false j t σ (fun t' σ'=>vR P TT ops s t' σ' K)∧vR P TT ops r t σ K:=h
  have step:∀m,eY j Q=false→j∈iV ops au→lB ops rows Q s m [] (au.set j true)=true→jP P TT ops (eY j Q) j t σ fun t' σ'=>qC P TT ops Q m (au.set j true) t' σ' K:=fun m hq hj hs=>by
   obtain⟨_,o,ho,hr⟩:=xc.1 hj
   rw[hq]
   exact G3 ho (fun _ _=>rfl) (fun v σ' hh=>(ih m [] _ _ σ' hs (hc.set ho hr) hh).1 rfl) ha
  unfold lB at hs
  split at hs
  ·rename_i n
   split at hs
   ·rename_i i i2 l hr
    simp only[bL,jq]at hs
    obtain⟨⟨⟨h1,h2⟩,h3⟩,h4⟩:=hs
    obtain rfl:=jr h1
    refine⟨fun _=>?_,fun _ i hi=>by cases hi⟩
    rw[xh,hr]
    refine⟨fun h=>(by cases h),fun k hk=>?_⟩
    rcases da.1 hk with rfl | hk
    ·exact step n h2 (by rw[hr];exact bV ..) h3
    ·exact (jS n (i2::l) au t σ h4 hc hb).2 (fun i hi=>by rw[hr];exact cE _ hi) k hk
   ·cases hs
  ·rename_i i i2 l
   simp only[bL,jq]at hs
   obtain⟨⟨⟨h1,h2⟩,h3⟩,h4⟩:=hs
   obtain rfl:=jr h1
   refine⟨fun h=>(by cases h),fun hp k hk=>?_⟩
   rcases da.1 hk with rfl | hk
   ·exact step n h2 (hp _ (bV ..)) h3
   ·exact (jS n (i2::l) au t σ h4 hc hb).2 (fun i hi=>hp i (cE _ hi)) k hk
  ·cases hs
 |WY j s r ih jS=>
  intro n nt au t σ hs hc h
  obtain⟨ha,hb⟩:jP P TT ops true j t σ (fun t' σ'=>vR P TT ops s t' σ' K)∧vR P TT ops r t σ K:=h
  have step:∀m,eY j Q=true→j∈iV ops au→lB ops rows Q s m [] (au.set j true)=true→jP P TT ops (eY j Q) j t σ fun t' σ'=>qC P TT ops Q m (au.set j true) t' σ' K:=fun m hq hj hs=>by
   obtain⟨_,o,ho,hr⟩:=xc.1 hj
   rw[hq]
   exact G3 ho (fun _ _=>rfl) (fun v σ' hh=>(ih m [] _ _ σ' hs (hc.set ho hr) hh).1 rfl) ha
  unfold lB at hs
  split at hs
  ·rename_i n
   split at hs
   ·rename_i i i2 l hr
    simp only[bL]at hs
    obtain⟨⟨⟨h1,h2⟩,h3⟩,h4⟩:=hs
    obtain rfl:=jr h1
    refine⟨fun _=>?_,fun _ i hi=>by cases hi⟩
    rw[xh,hr]
    refine⟨fun h=>(by cases h),fun k hk=>?_⟩
    rcases da.1 hk with rfl | hk
    ·exact step n h2 (by rw[hr];exact bV ..) h3
    ·exact (jS n (i2::l) au t σ h4 hc hb).2 (fun i hi=>by rw[hr];exact cE _ hi) k hk
   ·cases hs
  ·rename_i i i2 l
   simp only[bL]at hs
   obtain⟨⟨⟨h1,h2⟩,h3⟩,h4⟩:=hs
   obtain rfl:=jr h1
   refine⟨fun h=>(by cases h),fun hp k hk=>?_⟩
   rcases da.1 hk with rfl | hk
   ·exact step n h2 (hp _ (bV ..)) h3
   ·exact (jS n (i2::l) au t σ h4 hc hb).2 (fun i hi=>hp i (cE _ hi)) k hk
  ·cases hs
theorem Zd{o:Oper}{ρ:Operand→AV}{σ:Hp}{K:AV→Prop}(ok:dD P TT)(h:wm P TT o.op ρ σ K)(a:Act)(F:Nat→Prop)(w:World)(hx:∀x∈o.op.operands.toList,ax F w (ρ x) (a.eval x))(aC:aX F w σ)(next:Act→World→Prop)(Q:Exit→Act→World→Prop)(hn:∀v u F' w',bh F w F' w'→aX F' w' σ→ax F' w' v u→K v→next (a.put o.dst u) w'):wq P o a w next Q:=by
 obtain⟨v,h1,h2⟩:=RC ok h
 exact h2 a F w hx aC next Q fun u F' w' k1 k2 k3=>hn v u F' w' k1 k2 k3 h1
theorem aey(ok:dD P TT){B n:Nat}{ops:List Oper}{Q:List Nat}(hd:∀o∈ops,∀d,o.dst=some d→d<n){K:Tm→Hp→Prop}{Q':Exit→Act→World→Prop}{F0:Nat→Prop}{w0:World}(hq:∀t' σ' F' w' a',bh F0 w0 F' w'→dg B n F' w' t' σ' a'→K t' σ'→Q' .normal a' w'):
  ∀(m:Nat) (au:List Bool) (t:Tm) (σ:Hp) (F:Nat→Prop) (w:World) (a:Act),left au.toArray≤m→au.length=ops.length→qC P TT ops Q (m+1) au t σ K→dg B n F w t σ a→bh F0 w0 F w→xL P .any ops.toArray (xN Q') m au.toArray a w:=by
 intro m
 induction m with
 |zero=>
  intro au t σ F w a hl hlen h hs ao
  have hr:iV ops au=[]:=by
   rw[← sl,Kg]
   intro j hj
   have:=(mem_ready.1 hj).1
   rw[K8 (by omega)]at this
   cases this
  rw[xh]at h
  exact⟨by rw[sl];exact hr,hq t σ F w a ao hs (h.1 hr)⟩
 |succ m ih=>
  intro au t σ F w a hl hlen h hs ao
  rw[xh]at h
  refine⟨fun hr=>hq t σ F w a ao hs (h.1 (by rw[← sl];exact hr)),fun j hj=>?_⟩
  rw[sl]at hj
  have h:=h.2 j hj
  have guard:∀{o:Oper} {b:Bool},vB ops o t b→Region.wanted o (yielded ops.toArray a.tmps)=b:=fun hg=>Gx hg fun d _=>⟨F,w,hs.tm d⟩
  obtain⟨eP,o,ho,_⟩:=xc.1 hj
  have j7:(au.set j true).toArray=au.toArray.setIfInBounds j true:=by simp
  have ahz:au.toArray.getD j true=false:=by
   rw[gW,Ac,← aR];exact eP
  have ab:left (au.toArray.setIfInBounds j true)≤m:=by have:=C2 ahz;omega
  have qB:∀(x:AV) (u:Value) (σ':Hp) (F':Nat→Prop) (w':World),bh F w F' w'→aX F' w' σ'→ax F' w' x u→qC P TT ops Q (m+1) (au.set j true) (put t o.dst x) σ' K→xL P .any ops.toArray (xN Q') m (au.toArray.setIfInBounds j true) (a.put o.dst u) w':=fun x u σ' F' w' q1 q2 q3 hk=>by
   rw[← j7]
   exact ih _ _ σ' F' w' _ (by rw[j7];exact ab) (by simpa using hlen) hk (hs.put q1 q2 q3 (hd o (List.mem_of_getElem? ho))) (ao.trans q1)
  unfold jP at h
  rw[ho]at h
  dsimp only at h
  unfold ox
  rw[show ops.toArray[j]?=some o by simpa using ho]
  cases hq':eY j Q with
  |true=>
   rw[hq']at h
   dsimp only at h
   rcases yS h with ⟨hg,h⟩ | ⟨hg,h⟩
   ·simp only[guard hg,if_true]
    exact (Zd ok h a F w (fun x _=>hs.tm.eval x) hs.hp _ _ fun v u F' w' k1 k2 k3 k4=>qB v u σ F' w' k1 k2 k3 k4)
   ·simp only[guard hg,lS,if_false]
    exact qB (.tup []) undef σ F w (.refl _ _) hs.hp yN h
  |false=>
   rw[hq']at h
   dsimp only at h
   rcases yS h with ⟨hg,h⟩ | ⟨hg,h⟩
   ·simp only[guard hg,if_true]
    refine (K4 ok h a F w (fun x _=>hs.tm.eval x) hs.hp _ _ ?_)
    intro v av σ' F' w' q1 q2 q3 q4
    exact qB av v σ' F' w' q1 q2 q3 q4
   ·simp only[guard hg,lS,if_false]
    exact qB (.tup []) undef σ F w (.refl _ _) hs.hp yN h
theorem P7(ok:dD P TT)(hm:P.follows .mixedOrders=true){r:Option Nat}{B n id:Nat}{ops:Array Oper}{t:Tm}{σ:Hp}{K:Tm→Hp→Prop}{F:Nat→Prop}{w:World}{a:Act}{Q:Exit→Act→World→Prop}{Q0:List Nat}{s:qV}(h0:HK ops.toList Q0 s=true)(h:vR P TT ops.toList s t σ K)(hd:∀o∈ops.toList,∀d,o.dst=some d→d<n)(bZ:∀o∈ops.toList,∀c,o.op≠.defer c)(hs:dg B n F w t σ a)
  (hq:∀t' σ' F' w' a',bh F w F' w'→dg B n F' w' t' σ' a'→K t' σ'→Q .normal a' w'):(Code.region id ops true).wpIn (FW r) 0 P Q a w:=by
 have pA:bh F w F { w with drawn:=w.drawn+1 }:=yK hs.hp.low rfl rfl rfl (aM _) (fun _ _=>rfl)
 unfold HK at h0
 simp only[bL]at h0
 obtain⟨⟨h1,h2⟩,h3⟩:=h0
 have cf:=(ads (K:=K) h1 (Sz ops.toList [] [] rfl rfl (fun k row h=>by cases h)) s _ [] _ t σ h3 (fun j o ho hl=>by
  rw[aR,uT]at hl
  split at hl <;> cases hl) h).1 rfl
 refine wpIn_mono (KF hm bZ ?_) SY
 have key:=aey (P:=P) (Q':=Q) ok hd (F0:=F) (w0:=w) hq ops.toList.length (List.replicate ops.toList.length false) t σ F { w with drawn:=w.drawn+1 } a (by
   unfold left
   refine Nat.le_trans (List.length_filter_le _ _) (by simp)) (by simp) cf ⟨hs.tm.mono pA,hs.hp.same pA (fun _ _=>rfl),hs.size,hs.defers.mono pA⟩ pA
 simpa using key
end
end Go.Proofs.YtnikdflhefijbaaGreat
