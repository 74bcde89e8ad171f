import Derived.OrdersHeld
import Derived.Test.YtnpidbjdilnhlaaGreatBn6
namespace Go.Proofs.YtnpidbjdilnhlaaGreat
open Go.RowKit
section
variable {P:Program} {TT:TypeId→Option TI}
def DY(P:Program)(ops:List Oper)(σ:Hp)(o:Oper)(t:Tm)(v:AV):Prop:=(r8 ops o t true∧Ig P o (ev t) σ v)∨(r8 ops o t false∧v=.tup [])
def mV:Tm→List Oper→List AV→Nat→Tm
 | t,o::l,v::vs,i+1=>mV (put t o.dst v) l vs i
 | t,_,_,_=>t
theorem Nf(ok:cF P TT){ops:List Oper}{σ:Hp}{K:Tm→Prop}:∀(l:List Oper) (t:Tm),Er P TT ops l t σ K→∃bG:List AV,bG.length=l.length∧(∀(i:Nat) (o:Oper) (v:AV),l[i]?=some o→bG[i]?=some v→DY P ops σ o (mV t l bG i) v)∧K (mV t l bG l.length)
 | [],t,h=>⟨[],rfl,fun i o v h=>by simp at h,h⟩
 | o::l,t,h=>by
  have go:∀v,DY P ops σ o t v→Er P TT ops l (put t o.dst v) σ K→∃bG:List AV,bG.length=(o::l).length∧(∀(i:Nat) (o':Oper) (v:AV),(o::l)[i]?=some o'→bG[i]?=some v→DY P ops σ o' (mV t (o::l) bG i) v)∧K (mV t (o::l) bG (o::l).length):=by
   intro v hv hk
   obtain⟨bG,h1,h2,h3⟩:=Nf ok l _ hk
   refine⟨v::bG,by simp[h1],fun i o' v' ho mn =>?_,h3⟩
   cases i with
   | zero=>simp at ho mn;subst ho;subst mn;exact hv
   | succ i=>exact h2 i o' v' (by simpa using ho) (by simpa using mn)
  rcases vf h with ⟨hg,h⟩ | ⟨hg,h⟩
  ·obtain⟨v,hk,hl⟩:=Mi ok h
   exact go v (.inl ⟨hg,hl⟩) hk
  ·exact go (.tup []) (.inr ⟨hg,rfl⟩) h
theorem zQ{x:Tmp}:∀(l:List Oper) (bG:List AV) (t:Tm) (i:Nat),(∀j,j<i→∀o,l[j]?=some o→o.dst≠some x)→mV t l bG i x=t x
 | [],_,_,i,_=>by cases i <;> rfl
 | _::_,[],_,i,_=>by cases i <;> rfl
 | o::l,v::bG,t,0,_=>rfl
 | o::l,v::bG,t,i+1,h=>by
  have h0:=h 0 (by omega) o rfl
  rw[mV,zQ l bG _ i (fun j hj o' ho=>h (j+1) (by omega) o' (by simpa using ho))]
  cases hd:o.dst with
  | none=>rfl
  | some d =>
   have:Nat.beq x d=false:=by
    cases hb:Nat.beq x d with
    | false=>rfl
    | true=>exact absurd (by rw[hd,Nat.eq_of_beq_eq_true hb]) h0
   show (match Nat.beq x d with | true=>v | false=>t x)=t x
   rw[this]
theorem Hj{x:Tmp}{v:AV}{p:Oper}:∀(l:List Oper) (bG:List AV) (t:Tm) (i j:Nat),j<i→l[j]?=some p→p.dst=some x→(∀k,k<i→k≠j→∀o,l[k]?=some o→o.dst≠some x)→bG[j]?=some v→mV t l bG i x=v
 | [],_,_,_,_,_,hp,_,_,_=>by simp at hp
 | _::_,[],_,_,_,_,_,_,_,hv=>by simp at hv
 | _::_,_::_,_,0,_,hj,_,_,_,_=>by omega
 | o::l,u::bG,t,i+1,0,_,hp,hx,hn,hv=>by
  simp at hp hv
  subst hp;subst hv
  rw[mV,zQ l bG _ i (fun k hk o' ho=>hn (k+1) (by omega) (by omega) o' (by simpa using ho))]
  simp[put,hx]
 | o::l,u::bG,t,i+1,j+1,hj,hp,hx,hn,hv =>
  Hj l bG (put t o.dst u) i j (by omega) (by simpa using hp) hx (fun k hk aI o' ho=>hn (k+1) (by omega) (by omega) o' (by simpa using ho)) (by simpa using hv)
structure KD(ops:List Oper):Prop where
 back:∀(i:Nat) (o:Oper),ops[i]?=some o→∀e∈o.after,Region.binds .any e=true→e.on<i
 EH:∀(i j:Nat) (o p:Oper) (d:Tmp),ops[i]?=some o→ops[j]?=some p→p.dst=some d→o.dst=some d→i=j
 look:∀(i j:Nat) (o p:Oper) (d:Tmp),ops[i]?=some o→ops[j]?=some p→p.dst=some d→d∈vF ops o→i=j∨(j<i∧nH o j=true)∨(i<j∧nH p i=true)
theorem ZS{ops:List Oper}(h:Dd ops=true):KD ops:=by
 unfold Dd at h
 have hz:∀(i:Nat) (o:Oper),ops[i]?=some o→(o,i)∈ops.zipIdx:=fun i o ho=>by
  rw[List.mem_zipIdx_iff_getElem?];exact ho
 have bM:=fun (i:Nat) (o:Oper) (ho:ops[i]?=some o)=>List.all_eq_true.1 h (o,i) (hz i o ho)
 refine⟨fun i o ho e he hb =>?_,fun i j o p d ho hp jc gW =>?_,fun i j o p d ho hp jc hd =>?_⟩
 ·have h1:=bM i o ho
  simp only[Bool.and_eq_true]at h1
  have h2:=List.all_eq_true.1 h1.1 e (by simpa using he)
  simp only[hb,Bool.not_true,Bool.false_or]at h2
  exact Nat.le_of_ble_eq_true h2
 ·have h1:=bM i o ho
  simp only[Bool.and_eq_true]at h1
  have h2:=List.all_eq_true.1 h1.2 (p,j) (hz j p hp)
  simp only[jc,gW,Bool.and_eq_true,Bool.or_eq_true,Nat.beq_refl,Bool.not_true]at h2
  rcases h2.1 with h3 | h3
  ·exact Nat.eq_of_beq_eq_true h3
  ·cases h3
 ·have h1:=bM i o ho
  simp only[Bool.and_eq_true]at h1
  have h2:=List.all_eq_true.1 h1.2 (p,j) (hz j p hp)
  simp only[jc,Bool.and_eq_true,Bool.or_eq_true]at h2
  rcases h2.2 with ((h3 | h3) | h3) | h3
  ·exfalso
   have:(vF ops o).any (Nat.beq d)=true:=List.any_eq_true.2 ⟨d,hd,Nat.beq_refl d⟩
   rw[this]at h3
   cases h3
  ·exact .inl (Nat.eq_of_beq_eq_true h3)
  ·exact .inr (.inl ⟨Nat.le_of_ble_eq_true h3.1,h3.2⟩)
  ·exact .inr (.inr ⟨Nat.le_of_ble_eq_true h3.1,h3.2⟩)
theorem xb{o:Oper}{j:Nat}(h:nH o j=true):∃e∈o.after,Region.binds .any e=true∧e.on=j:=by
 obtain⟨e,h1,h2⟩:=List.any_eq_true.1 h
 simp only[Bool.and_eq_true]at h2
 exact⟨e,by simpa using h1,h2.1,Nat.eq_of_beq_eq_true h2.2⟩
def left(aq:Array Bool):Nat:=(aq.toList.filter (fun b => !b)).length
theorem Mm:∀(l:List Bool) (i:Nat),l[i]?=some false→((l.set i true).filter (fun b => !b)).length+1=(l.filter (fun b => !b)).length
 | [],i,h=>by simp at h
 | b::l,0,h=>by simp at h;subst h;simp
 | b::l,i+1,h=>by
  have:=Mm l i (by simpa using h)
  cases b <;> simp at this ⊢ <;> omega
theorem zB{aq:Array Bool}{i:Nat}(h:aq.getD i true=false):left (aq.setIfInBounds i true)+1=left aq:=by
 unfold left
 rw[Array.toList_setIfInBounds]
 refine Mm _ i ?_
 rw[Array.getElem?_toList]
 rw[Array.getD_eq_getD_getElem?]at h
 cases hq:aq[i]? with
 | none=>rw[hq]at h;simp at h
 | some b=>rw[hq]at h;simp at h;rw[h]
theorem GB{aq:Array Bool}(h:left aq=0){i:Nat}:aq.getD i true=true:=by
 cases hb:aq.getD i true with
 | true=>rfl
 | false=>have:=zB hb;omega
structure EY(P:Program)(ops:List Oper)(t0:Tm)(bG:List AV)(σ:Hp)(B n:Nat)(aq:Array Bool)(F:Nat→Prop)(w:World)(a:Act):Prop where
 hp:aM F w σ
 size:n≤a.tmps.size
 defers:Marks B F w a.defers
 Iq:aq.size=ops.length
 closed:∀(j:Nat) (o:Oper),ops[j]?=some o→aq.getD j false=true→∀e∈o.after,Region.binds .any e=true→aq.getD e.on false=true
 Ju:∀(j:Nat) (o:Oper) (v:AV) (d:Tmp),ops[j]?=some o→o.dst=some d→bG[j]?=some v→aq.getD j false=true→ar F w v (a.tmps.getD d undef)
 out:∀d,(∀(j:Nat) (o:Oper),ops[j]?=some o→o.dst=some d→aq.getD j false=false)→ar F w (t0 d) (a.tmps.getD d undef)
theorem yS{aq:Array Bool}{i:Nat}(h:aq.getD i true=false):aq.getD i false=false:=by
 rw[Array.getD_eq_getD_getElem?]at h ⊢
 cases hq:aq[i]? with
 | none=>rw[hq]at h;simp at h
 | some b=>rw[hq]at h;simpa using h
theorem RI{aq:Array Bool}{i:Nat}(hi:i<aq.size)(h:aq.getD i true=true):aq.getD i false=true:=by
 rw[Array.getD_eq_getD_getElem?]at h ⊢
 rw[Array.getElem?_eq_getElem hi]at h ⊢
 simpa using h
section
variable {ops:List Oper} {t0:Tm} {bG:List AV} {σ:Hp} {B n:Nat} {aq:Array Bool} {F:Nat→Prop} {w:World} {a:Act}
theorem EY.look(hJ:EY P ops t0 bG σ B n aq F w a)(ho:KD ops)(Fc:bG.length=ops.length){i:Nat}{o:Oper}(hi:ops[i]?=some o)(ef:aq.getD i true=false)(oq:∀e∈o.after,Region.binds .any e=true→aq.getD e.on false=true){d:Tmp}(hd:d∈vF ops o):
  ar F w (mV t0 ops bG i d) (a.tmps.getD d undef):=by
 by_cases hw:∃(j:Nat) (p:Oper),ops[j]?=some p∧p.dst=some d
 ·obtain⟨j,p,hp,jc⟩:=hw
  have uniq:∀k,k≠j→∀o',ops[k]?=some o'→o'.dst≠some d:=fun k hk o' eZ gW=>hk (ho.EH k j o' p d eZ hp jc gW)
  have out:aq.getD j false=false→(i≤j)→ar F w (mV t0 ops bG i d) (a.tmps.getD d undef):=fun hl gX=>by
   rw[zQ ops bG t0 i (fun k hk o' eZ=>uniq k (by omega) o' eZ)]
   exact hJ.out d fun k o' eZ gW=>by rw[ho.EH k j o' p d eZ hp jc gW];exact hl
  rcases ho.look i j o p d hi hp jc hd with e | ⟨h1,h2⟩ | ⟨h1,h2⟩
  ·subst e
   exact out (yS ef) (Nat.le_refl _)
  ·obtain⟨e,he,hb,rfl⟩:=xb h2
   have hl:=oq e he hb
   have gL:e.on<ops.length:=(List.getElem?_eq_some_iff.1 hp).1
   have hv:bG[e.on]?=some bG[e.on]:=List.getElem?_eq_getElem (by omega)
   rw[Hj ops bG t0 i e.on h1 hp jc (fun k _ aI=>uniq k aI) hv]
   exact hJ.Ju e.on p _ d hp jc hv hl
  ·obtain⟨e,he,hb,rfl⟩:=xb h2
   refine out ?_ (by omega)
   cases hl:aq.getD j false with
   | false=>rfl
   | true =>
    have:=hJ.closed j p hp hl e he hb
    rw[yS ef]at this
    cases this
 ·rw[zQ ops bG t0 i (fun k _ o' eZ gW=>hw ⟨k,o',eZ,gW⟩)]
  exact hJ.out d fun j o' eZ gW=>absurd ⟨j,o',eZ,gW⟩ hw
theorem Ui(ho:KD ops)(Fc:bG.length=ops.length)(hd:∀o∈ops,∀d,o.dst=some d→d<n)(hf:∀(i:Nat) (o:Oper) (v:AV),ops[i]?=some o→bG[i]?=some v→DY P ops σ o (mV t0 ops bG i) v){Q:Exit→Act→World→Prop}{F0:Nat→Prop}{w0:World}
  (hq:∀F' w' a',aQ F0 w0 F' w'→cj B n F' w' (mV t0 ops bG ops.length) σ a'→Q .normal a' w') :
  ∀(fuel:Nat) (aq:Array Bool) (F:Nat→Prop) (w:World) (a:Act),left aq≤fuel→EY P ops t0 bG σ B n aq F w a→aQ F0 w0 F w→tU P .any ops.toArray Q fuel aq a w:=by
 have fin:∀(aq:Array Bool) (F:Nat→Prop) (w:World) (a:Act),EY P ops t0 bG σ B n aq F w a→aQ F0 w0 F w→Region.ready .any ops.toArray aq=[]→Q .normal a w:=by
  intro aq F w a hJ ak hr
  have all:∀j,j<ops.length→aq.getD j false=true:=by
   intro j
   induction j using Nat.strongRecOn with
   | _ j ih =>
    intro hj
    cases hl:aq.getD j true with
    | true=>exact RI (by rw[hJ.Iq];exact hj) hl
    | false =>
     exfalso
     have hm:j∈Region.ready .any ops.toArray aq:=by
      rw[mem_ready]
      refine⟨hl,ops[j],by simp[hj],fun e he hb =>?_⟩
      have:=ho.back j ops[j] (by simp[hj]) e he hb
      exact ih _ this (by omega)
     rw[hr]at hm
     cases hm
  refine hq F w a ak ⟨fun d =>?_,hJ.hp,hJ.size,hJ.defers⟩
  by_cases hw:∃(j:Nat) (p:Oper),ops[j]?=some p∧p.dst=some d
  ·obtain⟨j,p,hp,jc⟩:=hw
   have gL:j<ops.length:=(List.getElem?_eq_some_iff.1 hp).1
   have hv:bG[j]?=some bG[j]:=List.getElem?_eq_getElem (by omega)
   rw[Hj ops bG t0 ops.length j gL hp jc (fun k _ aI o' eZ gW=>aI (ho.EH k j o' p d eZ hp jc gW)) hv]
   exact hJ.Ju j p _ d hp jc hv (all j gL)
  ·rw[zQ ops bG t0 ops.length (fun k _ o' eZ gW=>hw ⟨k,o',eZ,gW⟩)]
   exact hJ.out d fun j o' eZ gW=>absurd ⟨j,o',eZ,gW⟩ hw
 intro fuel
 induction fuel with
 | zero =>
  intro aq F w a hl hJ ak
  have hr:Region.ready .any ops.toArray aq=[]:=by
   rw[List.eq_nil_iff_forall_not_mem]
   intro j hj
   have:=(mem_ready.1 hj).1
   rw[GB (by omega)]at this
   cases this
  exact⟨hr,fin aq F w a hJ ak hr⟩
 | succ fuel ih =>
  intro aq F w a hl hJ ak
  refine⟨fin aq F w a hJ ak,fun i hi =>?_⟩
  obtain⟨ef,o,iJ,oq⟩:=mem_ready.1 hi
  have iJ:ops[i]?=some o:=by simpa using iJ
  have qp:i<ops.length:=(List.getElem?_eq_some_iff.1 iJ).1
  have hvi:bG[i]?=some bG[i]:=List.getElem?_eq_getElem (by omega)
  have xV:=fun {d:Tmp} (hd:d∈vF ops o)=>hJ.look ho Fc iJ ef oq hd
  have Qf:∀{b:Bool},r8 ops o (mV t0 ops bG i) b→Region.wanted o (yielded ops.toArray a.tmps)=b:=fun hg=>Cw hg fun d ⟨j,want,h1,h2⟩=>⟨F,w,xV (d:=d) (by unfold vF;rw[h1];simp[h2])⟩
  have next:∀(F':Nat→Prop) (w':World) (u:Value),aQ F w F' w'→aM F' w' σ→ar F' w' bG[i] u→tU P .any ops.toArray Q fuel (aq.setIfInBounds i true) (a.put o.dst u) w':=by
   intro F' w' u h1 h2 h3
   have aI:∀j,j≠i→(aq.setIfInBounds i true).getD j false=aq.getD j false:=fun j hj=>getD_set_ne false (Ne.symm hj)
   have ab3:(aq.setIfInBounds i true).getD i false=true:=by simp[Array.getD,hJ.Iq,qp]
   refine ih _ F' w' _ (by have:=zB ef;omega) ⟨h2,by rw[M9];exact hJ.size,by rw[Oo];exact hJ.defers.mono h1,by simp[hJ.Iq],fun j p hp hl e he hb =>?_,fun j p v d hp jc hv hl =>?_,fun d hn =>?_⟩ (ak.trans h1)
   ·refine getD_set_true ?_
    by_cases hj:j=i
    ·subst hj
     rw[iJ]at hp
     cases hp
     exact oq e he hb
    ·rw[aI j hj]at hl
     exact hJ.closed j p hp hl e he hb
   ·by_cases hj:j=i
    ·subst hj
     rw[iJ]at hp
     cases hp
     rw[hvi]at hv
     cases hv
     have dA:d<a.tmps.size:=Nat.lt_of_lt_of_le (hd o (List.mem_of_getElem? iJ) d jc) hJ.size
     rw[jc]
     simpa [Act.put,Array.getD,dA]using h3
    ·rw[aI j hj]at hl
     have h4:=(hJ.Ju j p v d hp jc hv hl).mono h1
     have bB:o.dst≠some d:=fun gW=>hj (ho.EH j i p o d hp iJ gW jc)
     cases gW:o.dst with
     | none=>exact h4
     | some d' =>
      have sW:d'≠d:=fun e=>bB (by rw[gW,e])
      show ar F' w' v ((a.tmps.setIfInBounds d' u).getD d undef)
      rw[Array.getD_eq_getD_getElem?]at h4 ⊢
      rw[Array.getElem?_setIfInBounds_ne sW]
      exact h4
   ·have bB:o.dst≠some d:=fun gW=>by
     have:=hn i o iJ gW
     rw[ab3]at this
     cases this
    have h4:=(hJ.out d fun j p hp jc=>by
     by_cases hj:j=i
     ·subst hj;rw[iJ]at hp;cases hp;exact absurd jc bB
     ·rw[← aI j hj];exact hn j p hp jc).mono h1
    cases gW:o.dst with
    | none=>exact h4
    | some d' =>
     have sW:d'≠d:=fun e=>bB (by rw[gW,e])
     show ar F' w' (t0 d) ((a.tmps.setIfInBounds d' u).getD d undef)
     rw[Array.getD_eq_getD_getElem?]at h4 ⊢
     rw[Array.getElem?_setIfInBounds_ne sW]
     exact h4
  unfold l7
  rw[show ops.toArray[i]?=some o by simpa using iJ]
  rcases hf i o bG[i] iJ hvi with ⟨hg,hl⟩ | ⟨hg,hv⟩
  ·simp only[Qf hg,if_true]
   refine (hl a F w (fun x hx=>NQ x fun d e =>?_) hJ.hp _ Q (fun u F' w' k1 k2 k3=>next F' w' u k1 k2 k3))
   subst e
   exact xV (by unfold vF;exact List.mem_append_left _ (List.mem_filterMap.2 ⟨.tmp d,hx,rfl⟩))
  ·simp only[Qf hg,Bool.false_eq_true,if_false]
   exact next F w undef (.refl _ _) hJ.hp (by rw[hv];exact uZ)
end
theorem R8(ok:cF P TT)(hm:P.follows .mixedOrders=true){r:Option Nat}{B n id:Nat}{ops:Array Oper}{t:Tm}{σ:Hp}{K:Tm→Prop}{F:Nat→Prop}{w:World}{a:Act}{Q:Exit→Act→World→Prop}(h0:Dd ops.toList=true)(h:Er P TT ops.toList ops.toList t σ K)(hd:∀o∈ops.toList,∀d,o.dst=some d→d<n)(bB:∀o∈ops.toList,∀c,o.op≠.defer c)(hs:cj B n F w t σ a)
  (hq:∀t' F' w' a',aQ F w F' w'→cj B n F' w' t' σ a'→K t'→Q .normal a' w'):(Code.region id ops true).wpIn (FW r) 0 P Q a w:=by
 obtain⟨bG,h1,h2,h3⟩:=Nf ok _ _ h
 have mR:aQ F w F { w with drawn:=w.drawn+1 }:=uW hs.hp.low rfl rfl rfl (Nat.le_refl _) (fun _ _=>rfl)
 refine F6 hm bB ?_
 have key:=Ui (P:=P) (Q:=Q) (t0:=t) (B:=B) (n:=n) (ZS h0) h1 hd h2 (F0:=F) (w0:=w) (fun F' w' a' k1 k2=>hq _ F' w' a' k1 k2 h3) ops.size (Array.replicate ops.size false) F { w with drawn:=w.drawn+1 } a (by
   unfold left
   refine Nat.le_trans (List.length_filter_le _ _) (by simp)) ⟨hs.hp.same mR (fun _ _=>rfl),hs.size,hs.defers.mono mR,by simp,fun j o ho hl =>?_,fun j o v d ho gW hv hl =>?_,fun d _=>(hs.tm d).mono mR⟩ mR
 ·simpa using key
 ·by_cases hj:j<ops.size <;> simp[Array.getD,hj]at hl
 ·by_cases hj:j<ops.size <;> simp[Array.getD,hj]at hl
end
section
variable {P:Program} {TT:TypeId→Option TI}
def tW(Q:Exit→Act→World→Prop):Exit→Act→World→Prop
 | .panic _,_,_=>False
 | e,a,w=>Q e a w
theorem Nq{Q:Exit→Act→World→Prop}:∀(e:Exit) (a:Act) (w:World),tW Q e a w→Q e a w:=fun e a w h=>by
 cases e <;> first | exact h | exact (h:False).elim
theorem pG(ops:List Oper)(aq:List Bool):Region.ready .any ops.toArray aq.toArray=gv ops aq:=by
 unfold Region.ready gv
 simp only[List.size_toArray]
 apply List.filter_congr
 intro i hi
 have hi:=List.mem_range.1 hi
 have e:∀d,aq.toArray.getD i d=aq.getD i d:=fun d=>by simp[Array.getD_eq_getD_getElem?,List.getD_eq_getElem?_getD]
 rw[e]
 congr 1
 simp only[List.getElem?_toArray,List.getElem?_eq_getElem hi,Option.map_some,Option.getD_some]
 rw[← Array.all_toList]
 congr 1
 funext x
 simp[Array.getD_eq_getD_getElem?,List.getD_eq_getElem?_getD]
theorem GJ{ops:List Oper}(h:pH ops=true):Region.noSelect ops.toArray=true∧∀(i j:Nat) (o p:Oper),ops[i]?=some o→ops[j]?=some p→i=j∨nH o j=true∨nH p i=true∨o.apart ops.toArray p=true:=by
 unfold pH at h
 have hz:∀(i:Nat) (o:Oper),ops[i]?=some o→(o,i)∈ops.zipIdx:=fun i o ho=>by
  rw[List.mem_zipIdx_iff_getElem?];exact ho
 refine⟨?_,fun i j o p hi hj =>?_⟩
 ·unfold Region.noSelect
  rw[← Array.all_toList]
  refine List.all_eq_true.2 fun o ho =>?_
  obtain⟨i,hi⟩:=List.mem_iff_getElem?.1 ho
  have:=List.all_eq_true.1 h (o,i) (hz i o (by simpa using hi))
  simp only[Bool.and_eq_true]at this
  exact this.1
 ·have:=List.all_eq_true.1 h (o,i) (hz i o hi)
  simp only[Bool.and_eq_true]at this
  have:=List.all_eq_true.1 this.2 (p,j) (hz j p hj)
  simp only[Bool.or_eq_true]at this
  rcases this with ((h | h) | h) | h
  ·exact .inl (Nat.eq_of_beq_eq_true h)
  ·exact .inr (.inl h)
  ·exact .inr (.inr (.inl h))
  ·exact .inr (.inr (.inr h))
def Still(ops:List Oper)(i:Nat):Prop:=∀o,ops[i]?=some o→mf o.op=false
def pI(P:Program)(ops:List Oper)(Q:Exit→Act→World→Prop):Nat→Array Bool→Act→World→Prop
 | 0,aq,a,w=>Region.ready .any ops.toArray aq=[]∧Q .normal a w
 | fuel+1,aq,a,w=>(Region.ready .any ops.toArray aq=[]→Q .normal a w)∧
  ∀i∈Region.ready .any ops.toArray aq,l7 P ops.toArray Q i (fun a' w'=>(Still ops i→w'=w)∧pI P ops Q fuel (aq.setIfInBounds i true) a' w') a w
theorem Le{ops:List Oper}{Q:Exit→Act→World→Prop}:∀(fuel:Nat) (aq:Array Bool) (a:Act) (w:World),pI P ops Q fuel aq a w→tU P .any ops.toArray Q fuel aq a w
 | 0,_,_,_,h=>h
 | fuel+1,_,_,_,h=>⟨h.1,fun i hi=>Gi (fun a' w' h'=>Le fuel _ a' w' h'.2) (h.2 i hi)⟩
def Aq(ops:List Oper)(aq:Array Bool):Prop:=∀(j:Nat) (o:Oper),ops[j]?=some o→aq.getD j false=true→∀e∈o.after,Region.binds .any e=true→aq.getD e.on false=true
theorem Aq.set{ops:List Oper}{aq:Array Bool}(h:Aq ops aq){j:Nat}{o:Oper}(ho:ops[j]?=some o)(hr:∀e∈o.after,Region.binds .any e=true→aq.getD e.on false=true):Aq ops (aq.setIfInBounds j true):=by
 intro k p hp hk e he hb
 by_cases pv:k=j
 ·subst pv
  rw[ho]at hp;cases hp
  exact getD_set_true (hr e he hb)
 ·rw[getD_set_ne false (Ne.symm pv)]at hk
  exact getD_set_true (h k p hp hk e he hb)
theorem RD{ops:List Oper}{Q:Exit→Act→World→Prop}(h0:pH ops=true){S:World→Prop}{i:Nat}{oi:Oper}{v:Value}(hi:ops[i]?=some oi):
  ∀(fuel:Nat) (aq:Array Bool) (a:Act) (w:World),aq.size=ops.length→Aq ops aq→(∀e∈oi.after,Region.binds .any e=true→aq.getD e.on false=true)→i∈Region.ready .any ops.toArray aq→YieldsIf P ops.toArray S oi v a→S w→((∀w,S w)∨∀(j:Nat) (o:Oper),ops[j]?=some o→mf o.op=true→aq.getD j false=false→nH o i=true)→
   pI P ops Q fuel (aq.setIfInBounds i true) (a.put oi.dst v) w→pI P ops Q (fuel+1) aq a w:=by
 have eg:ops.toArray[i]?=some oi:=by simpa using hi
 have now:∀(fuel:Nat) (aq:Array Bool) (a:Act) (w:World),YieldsIf P ops.toArray S oi v a→S w→pI P ops Q fuel (aq.setIfInBounds i true) (a.put oi.dst v) w→l7 P ops.toArray Q i (fun a' w'=>(Still ops i→w'=w)∧pI P ops Q fuel (aq.setIfInBounds i true) a' w') a w:=
  fun fuel aq a w hy uJ H=>RP eg hy uJ ⟨fun _=>rfl,H⟩
 intro fuel
 induction fuel with
 | zero =>
  intro aq a w dz hc oq hr hy uJ BX H
  refine⟨fun h=>(by rw[h]at hr;cases hr),fun j hj =>?_⟩
  by_cases rF:j=i
  ·subst rF;exact now 0 aq a w hy uJ H
  ·have:=ready_mono hj rF
   rw[H.1]at this
   cases this
 | succ fuel ih =>
  intro aq a w dz hc oq hr hy uJ BX H
  refine⟨fun h=>(by rw[h]at hr;cases hr),fun j hj =>?_⟩
  by_cases rF:j=i
  ·subst rF;exact now (fuel+1) aq a w hy uJ H
  ·have h1:=H.2 j (ready_mono hj rF)
   obtain⟨QX,oj,JJ,bM⟩:=mem_ready.1 hj
   have ace:=(mem_ready.1 hr).1
   have QV:¬(nH oj i=true):=fun hb=>by
    obtain⟨e,he,wP,e1⟩:=xb hb
    have:=bM e he wP
    rw[e1,yS ace]at this
    cases this
   have A9:ops[j]?=some oj:=by simpa using JJ
   have sZ:oi.apart ops.toArray oj=true:=by
    rcases (GJ h0).2 i j oi oj hi A9 with e | e | e | e
    ·exact absurd e.symm rF
    ·obtain⟨ed,he,wP,e1⟩:=xb e
     have:=oq ed he wP
     rw[e1,yS QX]at this
     cases this
    ·exact absurd e QV
    ·exact e
   have QN:=Region.noSelect_spec (GJ h0).1
   have h2:=TO JJ sZ (fun cs b=>QN i oi cs b eg) (fun cs b=>QN j oj cs b JJ) hy h1
   have aba:(aq.setIfInBounds i true).setIfInBounds j true=(aq.setIfInBounds j true).setIfInBounds i true:=by rw[Array.setIfInBounds_comm _ _ (Ne.symm rF)]
   refine Gi (fun a' w' h3 =>?_) h2
   obtain⟨ry,hC',H'⟩:=h3
   have acj:S w':=by
    rcases BX with hS | BD
    ·exact hS w'
    ·cases he:mf oj.op with
     | true=>exact absurd (BD j oj A9 he (yS QX)) QV
     | false=>rw[hC' (fun o ho=>by rw[A9]at ho;cases ho;exact he)];exact uJ
   refine⟨hC',ih (aq.setIfInBounds j true) a' w' (by simpa using dz) (hc.set A9 bM) (fun e he hb=>getD_set_true (oq e he hb)) (ready_mono hr (Ne.symm rF)) ry acj ?_ ?_⟩
   ·rcases BX with hS | BD
    ·exact .inl hS
    ·refine .inr fun k o ho he hk =>?_
     by_cases pv:k=j
     ·subst pv
      have gL:k<aq.size:=by rw[dz];exact (List.getElem?_eq_some_iff.1 A9).1
      simp[Array.getD,gL]at hk
     ·rw[getD_set_ne false (Ne.symm pv)]at hk
      exact BD k o ho he hk
   ·rw[← aba]
    exact H'
theorem MF{o:Op}(h:blind o=true){ρ:Operand→AV}{σ:Hp}{K:AV→Hp→Prop}(hw:fJ P TT o ρ σ K):eB P TT o ρ σ (fun v=>K v σ)∧H6 o=true:=by
 unfold blind at h
 split at h <;> first | exact⟨hw,rfl⟩ | cases h
theorem NU{f:Nat→Prop}:∀{l:List Nat},Jh f l→∀i∈l,f i
 | [],_,i,h=>by cases h
 | [x],h,i,hi=>by simp at hi;subst hi;exact h
 | x::y::r,h,i,hi=>by
  rcases List.mem_cons.1 hi with rfl | hi
  ·exact h.1
  ·exact NU (l:=y::r) h.2 i hi
theorem LA{o:Op}(h:mf o=false){ρ:Operand→AV}{σ:Hp}{K:AV→Hp→Prop}(hw:fJ P TT o ρ σ K):eB P TT o ρ σ (fun v=>K v σ):=by
 unfold mf at h
 simp only[Bool.not_eq_false',Bool.or_eq_true]at h
 rcases h with h | h
 ·exact (MF h hw).1
 ·cases o <;> first | exact hw | cases h
theorem W5(ok:cF P TT){B n:Nat}{ops:List Oper}(h0:pH ops=true)(hd:∀o∈ops,∀d,o.dst=some d→d<n){K:Tm→Hp→Prop}{Q:Exit→Act→World→Prop}{F0:Nat→Prop}{w0:World}(hq:∀t' σ' F' w' a',aQ F0 w0 F' w'→cj B n F' w' t' σ' a'→K t' σ'→Q .normal a' w'):
  ∀(m:Nat) (aq:List Bool) (t:Tm) (σ:Hp) (F:Nat→Prop) (w:World) (a:Act),left aq.toArray≤m→aq.length=ops.length→sD P TT ops (m+1) aq t σ K→cj B n F w t σ a→aQ F0 w0 F w→Aq ops aq.toArray→pI P ops (tW Q) m aq.toArray a w:=by
 intro m
 induction m with
 | zero =>
  intro aq t σ F w a hl hlen h hs ak hC
  have hr:gv ops aq=[]:=by
   rw[← pG,List.eq_nil_iff_forall_not_mem]
   intro j hj
   have:=(mem_ready.1 hj).1
   rw[GB (by omega)]at this
   cases this
  rw[MH]at h
  rw[hr]at h
  exact⟨by rw[pG];exact hr,hq t σ F w a ak hs h⟩
 | succ m ih =>
  intro aq t σ F w a hl hlen h hs ak hC
  rw[MH]at h
  split at h
  ·rename_i hr
   refine⟨fun _=>hq t σ F w a ak hs h,fun i hi =>?_⟩
   rw[pG,hr]at hi
   cases hi
  ·rename_i i0 r0 hr
   have guard:∀{o:Oper} {b:Bool},r8 ops o t b→Region.wanted o (yielded ops.toArray a.tmps)=b:=fun hg=>Cw hg fun d _=>⟨F,w,hs.tm d⟩
   have mem:∀j,j∈gv ops aq→∃o,ops[j]?=some o∧aq.toArray.getD j true=false∧∀e∈o.after,Region.binds .any e=true→aq.toArray.getD e.on false=true:=fun j hj=>by
    rw[← pG]at hj
    obtain⟨h1,o,h2,h3⟩:=mem_ready.1 hj
    exact⟨o,by simpa using h2,h1,h3⟩
   have jA:∀j,(aq.set j true).toArray=aq.toArray.setIfInBounds j true:=fun j=>by simp
   split at h
   ·rename_i j hj
    have JP:=List.mem_of_find?_eq_some hj
    have yJ:=List.find?_some hj
    rw[← hr]at JP
    obtain⟨o,ho,ef,oq⟩:=mem j JP
    unfold H3 at yJ
    rw[ho]at yJ
    have ab:left (aq.toArray.setIfInBounds j true)≤m:=by have:=zB ef;omega
    unfold ye at h
    rw[ho]at h
    have aI:mf o.op=false:=by
     unfold mf
     simp only[Bool.or_eq_true,Bool.and_eq_true]at yJ
     rcases yJ with hb | hb
     ·simp[hb]
     ·simp[hb.1]
    have hjr:j∈Region.ready .any ops.toArray aq.toArray:=by rw[pG];exact JP
    have take:∀(S:World→Prop) v,((∀w,S w)∨∀(k:Nat) (o:Oper),ops[k]?=some o→mf o.op=true→aq.toArray.getD k false=false→nH o j=true)→S w→YieldsIf P ops.toArray S o v a→pI P ops (tW Q) m (aq.toArray.setIfInBounds j true) (a.put o.dst v) w→pI P ops (tW Q) (m+1) aq.toArray a w:=fun S v BX uJ hy hk =>
     RD h0 ho m aq.toArray a w (by simpa using hlen) hC oq hjr hy uJ BX hk
    have n0:∀(x:AV) (u:Value),ar F w x u→sD P TT ops (m+1) (aq.set j true) (put t o.dst x) σ K→pI P ops (tW Q) m (aq.toArray.setIfInBounds j true) (a.put o.dst u) w:=fun x u hx hk=>by
     rw[← jA]
     exact ih _ _ σ F w _ (by rw[jA];exact ab) (by simpa using hlen) hk (hs.put (.refl _ _) hs.hp hx (hd o (List.mem_of_getElem? ho))) ak (by rw[jA];exact hC.set ho oq)
    rcases vf h with ⟨hg,h⟩ | ⟨hg,h⟩
    ·simp only[Bool.or_eq_true,Bool.and_eq_true]at yJ
     rcases yJ with hb | ⟨hb,BD⟩
     ·obtain⟨h1,h2⟩:=MF hb h
      obtain⟨v,k1,k2⟩:=Mk ok h2 h1
      obtain⟨u,r1,r2⟩:=k2 a.eval F w o rfl (fun x _=>hs.tm.eval x)
      exact take (fun _=>True) u (.inl fun _=>trivial) trivial (.inl ⟨guard hg,fun w' _=>r1 w'⟩) (n0 v u r2 k1)
     ·obtain⟨v,k1,k2⟩:=CB ok (LA aI h)
      obtain⟨u,r1,r2⟩:=k2 a.eval F w o rfl (fun x _=>hs.tm.eval x) hs.hp
      refine take (fun x=>x=w) u (.inr fun k p hp hk hl =>?_) rfl (.inl ⟨guard hg,fun w' e=>by subst e;exact r1⟩) (n0 v u r2 k1)
      have:=List.all_eq_true.1 BD (p,k) (by rw[List.mem_zipIdx_iff_getElem?];exact hp)
      have JN:aq.getD k false=false:=by
       rw[Array.getD_eq_getD_getElem?,List.getElem?_toArray,← List.getD_eq_getElem?_getD]at hl
       exact hl
      simpa only [hk,JN,Bool.not_true,Bool.false_or]using this
    ·exact take (fun _=>True) undef (.inl fun _=>trivial) trivial (.inr ⟨guard hg,rfl⟩) (n0 (.tup []) undef uZ h)
   ·refine⟨fun h1=>absurd h1 (by rw[pG,hr];simp),fun j hj =>?_⟩
    rw[pG]at hj
    obtain⟨o,ho,ef,oq⟩:=mem j hj
    have h:=NU h j (by rw[← hr];exact hj)
    have qp:j<ops.length:=(List.getElem?_eq_some_iff.1 ho).1
    have ab:left (aq.toArray.setIfInBounds j true)≤m:=by have:=zB ef;omega
    unfold ye at h
    rw[ho]at h
    unfold l7
    rw[show ops.toArray[j]?=some o by simpa using ho]
    have n0:∀(x:AV) (u:Value) (σ':Hp) (F':Nat→Prop) (w':World),aQ F w F' w'→aM F' w' σ'→ar F' w' x u→(Still ops j→w'=w)→sD P TT ops (m+1) (aq.set j true) (put t o.dst x) σ' K→(Still ops j→w'=w)∧pI P ops (tW Q) m (aq.toArray.setIfInBounds j true) (a.put o.dst u) w':=fun x u σ' F' w' q1 q2 q3 q4 hk=>by
     refine⟨q4,?_⟩
     rw[← jA]
     exact ih _ _ σ' F' w' _ (by rw[jA];exact ab) (by simpa using hlen) hk (hs.put q1 q2 q3 (hd o (List.mem_of_getElem? ho))) (ak.trans q1) (by rw[jA];exact hC.set ho oq)
    cases he:mf o.op with
    | true =>
     have vac:Still ops j→False:=fun hn=>by
      have:=hn o ho
      rw[he]at this
      cases this
     rcases vf h with ⟨hg,h⟩ | ⟨hg,h⟩
     ·simp only[guard hg,if_true]
      refine (Gw ok h a F w (fun x _=>hs.tm.eval x) hs.hp _ _ ?_)
      intro v av σ' F' w' q1 q2 q3 q4
      exact n0 av v σ' F' w' q1 q2 q3 (fun hn=>(vac hn).elim) q4
     ·simp only[guard hg,Bool.false_eq_true,if_false]
      exact⟨fun _=>trivial,(n0 (.tup []) undef σ F w (.refl _ _) hs.hp uZ (fun _=>rfl) h).2⟩
    | false =>
     rcases vf h with ⟨hg,h⟩ | ⟨hg,h⟩
     ·simp only[guard hg,if_true]
      obtain⟨v,k1,k2⟩:=CB ok (LA he h)
      obtain⟨u,r1,r2⟩:=k2 a.eval F w o rfl (fun x _=>hs.tm.eval x) hs.hp
      unfold wq
      rw[r1]
      exact n0 v u σ F w (.refl _ _) hs.hp r2 (fun _=>rfl) k1
     ·simp only[guard hg,Bool.false_eq_true,if_false]
      exact⟨fun _=>trivial,(n0 (.tup []) undef σ F w (.refl _ _) hs.hp uZ (fun _=>rfl) h).2⟩
theorem LJ(ok:cF P TT)(hm:P.follows .mixedOrders=true){r:Option Nat}{B n id:Nat}{ops:Array Oper}{t:Tm}{σ:Hp}{K:Tm→Hp→Prop}{F:Nat→Prop}{w:World}{a:Act}{Q:Exit→Act→World→Prop}(h0:pH ops.toList=true)(h:sD P TT ops.toList (ops.toList.length+1) (List.replicate ops.toList.length false) t σ K)(hd:∀o∈ops.toList,∀d,o.dst=some d→d<n)(bB:∀o∈ops.toList,∀c,o.op≠.defer c)(hs:cj B n F w t σ a)
  (hq:∀t' σ' F' w' a',aQ F w F' w'→cj B n F' w' t' σ' a'→K t' σ'→Q .normal a' w'):(Code.region id ops true).wpIn (FW r) 0 P Q a w:=by
 have mR:aQ F w F { w with drawn:=w.drawn+1 }:=uW hs.hp.low rfl rfl rfl (Nat.le_refl _) (fun _ _=>rfl)
 refine wpIn_mono (F6 hm bB ?_) Nq
 have key:=W5 (P:=P) (Q:=Q) ok h0 hd (F0:=F) (w0:=w) hq ops.toList.length (List.replicate ops.toList.length false) t σ F { w with drawn:=w.drawn+1 } a (by
   unfold left
   refine Nat.le_trans (List.length_filter_le _ _) (by simp)) (by simp) h ⟨hs.tm.mono mR,hs.hp.same mR (fun _ _=>rfl),hs.size,hs.defers.mono mR⟩ mR (fun j o ho hl=>by
    simp[Array.getD]at hl)
 simpa using Le _ _ _ _ key
end
end Go.Proofs.YtnpidbjdilnhlaaGreat
