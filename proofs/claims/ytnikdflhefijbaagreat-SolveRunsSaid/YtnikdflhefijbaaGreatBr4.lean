import Derived.OrdersHeld
import Derived.Test.YtnikdflhefijbaaGreatBr3
namespace Go.Proofs.YtnikdflhefijbaaGreat
open Go.RowKit
section
variable {P:Program} {TT:TypeId→Option TI}
def Fi(P:Program)(ops:List Oper)(σ:Hp)(o:Oper)(t:Tm)(v:AV):Prop:=(tD ops o t true∧Jt P o (ev t) σ v)∨(tD ops o t false∧v=.tup [])
def oR:Tm→List Oper→List AV→Nat→Tm
 |t,o::l,v::vs,i+1=>oR (put t o.dst v) l vs i
 |t,_,_,_=>t
theorem Pc(ok:dH P TT){ops:List Oper}{σ:Hp}{K:Tm→Prop}:∀(l:List Oper) (t:Tm),FK P TT ops l t σ K→∃di:List AV,di.length=l.length∧(∀(i:Nat) (o:Oper) (v:AV),l[i]?=some o→di[i]?=some v→Fi P ops σ o (oR t l di i) v)∧K (oR t l di l.length)
 | [],t,h=>⟨[],rfl,fun i o v h=>by simp at h,h⟩
 |o::l,t,h=>by
  have go:∀v,Fi P ops σ o t v→FK P TT ops l (put t o.dst v) σ K→∃di:List AV,di.length=(o::l).length∧(∀(i:Nat) (o':Oper) (v:AV),(o::l)[i]?=some o'→di[i]?=some v→Fi P ops σ o' (oR t (o::l) di i) v)∧K (oR t (o::l) di (o::l).length):=by
   intro v hv hk
   obtain⟨di,h1,h2,h3⟩:=Pc ok l _ hk
   refine⟨v::di,by simp[h1],fun i o' v' ho uB=>?_,h3⟩
   cases i with
   |zero=>simp at ho uB;subst ho;subst uB;exact hv
   |succ i=>exact h2 i o' v' (by simpa using ho) (by simpa using uB)
  rcases xe h with ⟨hg,h⟩ | ⟨hg,h⟩
  ·obtain⟨v,hk,hl⟩:=Ob ok h
   exact go v (.inl ⟨hg,hl⟩) hk
  ·exact go (.tup []) (.inr ⟨hg,rfl⟩) h
theorem Bh{x:Tmp}:∀(l:List Oper) (di:List AV) (t:Tm) (i:Nat),(∀j,j<i→∀o,l[j]?=some o→o.dst≠some x)→oR t l di i x=t x
 | [],_,_,i,_=>by cases i <;> rfl
 |_::_,[],_,i,_=>by cases i <;> rfl
 |o::l,v::di,t,0,_=>rfl
 |o::l,v::di,t,i+1,h=>by
  have h0:=h 0 (by omega) o rfl
  rw[oR,Bh l di _ i (fun j hj o' ho=>h (j+1) (by omega) o' (by simpa using ho))]
  cases hd:o.dst with
  |none=>rfl
  |some d=>
   have:Nat.beq x d=false:=by
    cases hb:Nat.beq x d with
    |false=>rfl
    |true=>exact absurd (by rw[hd,jF hb]) h0
   show (match Nat.beq x d with | true=>v | false=>t x)=t x
   rw[this]
theorem IC{x:Tmp}{v:AV}{p:Oper}:∀(l:List Oper) (di:List AV) (t:Tm) (i j:Nat),j<i→l[j]?=some p→p.dst=some x→(∀k,k<i→k≠j→∀o,l[k]?=some o→o.dst≠some x)→di[j]?=some v→oR t l di i x=v
 | [],_,_,_,_,_,hp,_,_,_=>by simp at hp
 |_::_,[],_,_,_,_,_,_,_,hv=>by simp at hv
 |_::_,_::_,_,0,_,hj,_,_,_,_=>by omega
 |o::l,u::di,t,i+1,0,_,hp,hx,hn,hv=>by
  simp at hp hv
  subst hp;subst hv
  rw[oR,Bh l di _ i (fun k hk o' ho=>hn (k+1) (by omega) (by omega) o' (by simpa using ho))]
  simp[put,hx]
 |o::l,u::di,t,i+1,j+1,hj,hp,hx,hn,hv=>
  IC l di (put t o.dst u) i j (by omega) (by simpa using hp) hx (fun k hk bc o' ho=>hn (k+1) (by omega) (by omega) o' (by simpa using ho)) (by simpa using hv)
structure Mu(ops:List Oper):Prop where
 back:∀(i:Nat) (o:Oper),ops[i]?=some o→∀e∈o.after,Region.binds .any e=true→e.on<i
 F6:∀(i j:Nat) (o p:Oper) (d:Tmp),ops[i]?=some o→ops[j]?=some p→p.dst=some d→o.dst=some d→i=j
 look:∀(i j:Nat) (o p:Oper) (d:Tmp),ops[i]?=some o→ops[j]?=some p→p.dst=some d→d∈xv ops o→i=j∨(j<i∧pA o j=true)∨(i<j∧pA p i=true)
theorem abh{ops:List Oper}(h:ED ops=true):Mu ops:=by
 unfold ED at h
 have hz:∀(i:Nat) (o:Oper),ops[i]?=some o→(o,i)∈ops.zipIdx:=fun i o ho=>by
  rw[L3];exact ho
 have bQ:=fun (i:Nat) (o:Oper) (ho:ops[i]?=some o)=>fN.1 h (o,i) (hz i o ho)
 refine⟨fun i o ho e he hb=>?_,fun i j o p d ho hp ku jD=>?_,fun i j o p d ho hp ku hd=>?_⟩
 ·have h1:=bQ i o ho
  simp only[b9]at h1
  have h2:=List.all_eq_true.1 h1.1 e (by simpa using he)
  simp only[hb,Dn,mj]at h2
  exact cp h2
 ·have h1:=bQ i o ho
  simp only[b9]at h1
  have h2:=fN.1 h1.2 (p,j) (hz j p hp)
  simp only[ku,jD,b9,o9,wM,Dn]at h2
  rcases h2.1 with h3 | h3
  ·exact jF h3
  ·cases h3
 ·have h1:=bQ i o ho
  simp only[b9]at h1
  have h2:=fN.1 h1.2 (p,j) (hz j p hp)
  simp only[ku,b9,o9]at h2
  rcases h2.2 with ((h3 | h3) | h3) | h3
  ·exfalso
   have:(xv ops o).any (Nat.beq d)=true:=kv.2 ⟨d,hd,wM d⟩
   rw[this]at h3
   cases h3
  ·exact .inl (jF h3)
  ·exact .inr (.inl ⟨cp h3.1,h3.2⟩)
  ·exact .inr (.inr ⟨cp h3.1,h3.2⟩)
theorem yD{o:Oper}{j:Nat}(h:pA o j=true):∃e∈o.after,Region.binds .any e=true∧e.on=j:=by
 obtain⟨e,h1,h2⟩:=kv.1 h
 simp only[b9]at h2
 exact⟨e,by simpa using h1,h2.1,Nat.eq_of_beq_eq_true h2.2⟩
def left(aC:Array Bool):Nat:=(aC.toList.filter (fun b=> !b)).length
theorem Oi:∀(l:List Bool) (i:Nat),l[i]?=some false→((l.set i true).filter (fun b=> !b)).length+1=(l.filter (fun b=> !b)).length
 | [],i,h=>by simp at h
 |b::l,0,h=>by simp at h;subst h;simp
 |b::l,i+1,h=>by
  have:=Oi l i (by simpa using h)
  cases b <;> simp at this ⊢ <;> omega
theorem Bb{aC:Array Bool}{i:Nat}(h:aC.getD i true=false):left (aC.setIfInBounds i true)+1=left aC:=by
 unfold left
 rw[Array.toList_setIfInBounds]
 refine Oi _ i ?_
 rw[Av]
 rw[jG]at h
 cases hq:aC[i]? with
 |none=>rw[hq]at h;simp at h
 |some b=>rw[hq]at h;simp at h;rw[h]
theorem HY{aC:Array Bool}(h:left aC=0){i:Nat}:aC.getD i true=true:=by
 cases hb:aC.getD i true with
 |true=>rfl
 |false=>have:=Bb hb;omega
structure Gd(P:Program)(ops:List Oper)(t0:Tm)(di:List AV)(σ:Hp)(B n:Nat)(aC:Array Bool)(F:Nat→Prop)(w:World)(a:Act):Prop where
 hp:bC F w σ
 size:n≤a.tmps.size
 defers:Marks B F w a.defers
 JB:aC.size=ops.length
 closed:∀(j:Nat) (o:Oper),ops[j]?=some o→aC.getD j false=true→∀e∈o.after,Region.binds .any e=true→aC.getD e.on false=true
 KS:∀(j:Nat) (o:Oper) (v:AV) (d:Tmp),ops[j]?=some o→o.dst=some d→di[j]?=some v→aC.getD j false=true→aF F w v (a.tmps.getD d undef)
 out:∀d,(∀(j:Nat) (o:Oper),ops[j]?=some o→o.dst=some d→aC.getD j false=false)→aF F w (t0 d) (a.tmps.getD d undef)
theorem AG{aC:Array Bool}{i:Nat}(h:aC.getD i true=false):aC.getD i false=false:=by
 rw[jG]at h ⊢
 cases hq:aC[i]? with
 |none=>rw[hq]at h;simp at h
 |some b=>rw[hq]at h;simpa using h
theorem TQ{aC:Array Bool}{i:Nat}(hi:i<aC.size)(h:aC.getD i true=true):aC.getD i false=true:=by
 rw[jG]at h ⊢
 rw[wU hi]at h ⊢
 simpa using h
section
variable {ops:List Oper} {t0:Tm} {di:List AV} {σ:Hp} {B n:Nat} {aC:Array Bool} {F:Nat→Prop} {w:World} {a:Act}
theorem Gd.look(hJ:Gd P ops t0 di σ B n aC F w a)(ho:Mu ops)(uA:di.length=ops.length){i:Nat}{o:Oper}(hi:ops[i]?=some o)(fR:aC.getD i true=false)(pX:∀e∈o.after,Region.binds .any e=true→aC.getD e.on false=true){d:Tmp}(hd:d∈xv ops o):
  aF F w (oR t0 ops di i d) (a.tmps.getD d undef):=by
 by_cases hw:∃(j:Nat) (p:Oper),ops[j]?=some p∧p.dst=some d
 ·obtain⟨j,p,hp,ku⟩:=hw
  have uniq:∀k,k≠j→∀o',ops[k]?=some o'→o'.dst≠some d:=fun k hk o' gn jD=>hk (ho.F6 k j o' p d gn hp ku jD)
  have out:aC.getD j false=false→(i≤j)→aF F w (oR t0 ops di i d) (a.tmps.getD d undef):=fun hl mf=>by
   rw[Bh ops di t0 i (fun k hk o' gn=>uniq k (by omega) o' gn)]
   exact hJ.out d fun k o' gn jD=>by rw[ho.F6 k j o' p d gn hp ku jD];exact hl
  rcases ho.look i j o p d hi hp ku hd with e | ⟨h1,h2⟩ | ⟨h1,h2⟩
  ·subst e
   exact out (AG fR) (bJ _)
  ·obtain⟨e,he,hb,rfl⟩:=yD h2
   have hl:=pX e he hb
   have uD:e.on<ops.length:=(cR.1 hp).1
   have hv:di[e.on]?=some di[e.on]:=bN (by omega)
   rw[IC ops di t0 i e.on h1 hp ku (fun k _ bc=>uniq k bc) hv]
   exact hJ.KS e.on p _ d hp ku hv hl
  ·obtain⟨e,he,hb,rfl⟩:=yD h2
   refine out ?_ (by omega)
   cases hl:aC.getD j false with
   |false=>rfl
   |true=>
    have:=hJ.closed j p hp hl e he hb
    rw[AG fR]at this
    cases this
 ·rw[Bh ops di t0 i (fun k _ o' gn jD=>hw ⟨k,o',gn,jD⟩)]
  exact hJ.out d fun j o' gn jD=>absurd ⟨j,o',gn,jD⟩ hw
theorem V8(ho:Mu ops)(uA:di.length=ops.length)(hd:∀o∈ops,∀d,o.dst=some d→d<n)(hf:∀(i:Nat) (o:Oper) (v:AV),ops[i]?=some o→di[i]?=some v→Fi P ops σ o (oR t0 ops di i) v){Q:Exit→Act→World→Prop}{F0:Nat→Prop}{w0:World}
  (hq:∀F' w' a',bL F0 w0 F' w'→dw B n F' w' (oR t0 ops di ops.length) σ a'→Q .normal a' w') :
  ∀(fuel:Nat) (aC:Array Bool) (F:Nat→Prop) (w:World) (a:Act),left aC≤fuel→Gd P ops t0 di σ B n aC F w a→bL F0 w0 F w→vH P .any ops.toArray Q fuel aC a w:=by
 have fin:∀(aC:Array Bool) (F:Nat→Prop) (w:World) (a:Act),Gd P ops t0 di σ B n aC F w a→bL F0 w0 F w→Region.ready .any ops.toArray aC=[]→Q .normal a w:=by
  intro aC F w a hJ ao hr
  have all:∀j,j<ops.length→aC.getD j false=true:=by
   intro j
   induction j using Nat.strongRecOn with
   |_ j ih=>
    intro hj
    cases hl:aC.getD j true with
    |true=>exact TQ (by rw[hJ.JB];exact hj) hl
    |false=>
     exfalso
     have hm:j∈Region.ready .any ops.toArray aC:=by
      rw[mem_ready]
      refine⟨hl,ops[j],by simp[hj],fun e he hb=>?_⟩
      have:=ho.back j ops[j] (by simp[hj]) e he hb
      exact ih _ this (by omega)
     rw[hr]at hm
     cases hm
  refine hq F w a ao ⟨fun d=>?_,hJ.hp,hJ.size,hJ.defers⟩
  by_cases hw:∃(j:Nat) (p:Oper),ops[j]?=some p∧p.dst=some d
  ·obtain⟨j,p,hp,ku⟩:=hw
   have uD:j<ops.length:=(cR.1 hp).1
   have hv:di[j]?=some di[j]:=bN (by omega)
   rw[IC ops di t0 ops.length j uD hp ku (fun k _ bc o' gn jD=>bc (ho.F6 k j o' p d gn hp ku jD)) hv]
   exact hJ.KS j p _ d hp ku hv (all j uD)
  ·rw[Bh ops di t0 ops.length (fun k _ o' gn jD=>hw ⟨k,o',gn,jD⟩)]
   exact hJ.out d fun j o' gn jD=>absurd ⟨j,o',gn,jD⟩ hw
 intro fuel
 induction fuel with
 |zero=>
  intro aC F w a hl hJ ao
  have hr:Region.ready .any ops.toArray aC=[]:=by
   rw[G4]
   intro j hj
   have:=(mem_ready.1 hj).1
   rw[HY (by omega)]at this
   cases this
  exact⟨hr,fin aC F w a hJ ao hr⟩
 |succ fuel ih=>
  intro aC F w a hl hJ ao
  refine⟨fin aC F w a hJ ao,fun i hi=>?_⟩
  obtain⟨fR,o,kc,pX⟩:=mem_ready.1 hi
  have kc:ops[i]?=some o:=by simpa using kc
  have uE:i<ops.length:=(cR.1 kc).1
  have hvi:di[i]?=some di[i]:=bN (by omega)
  have zm:=fun {d:Tmp} (hd:d∈xv ops o)=>hJ.look ho uA kc fR pX hd
  have R8:∀{b:Bool},tD ops o (oR t0 ops di i) b→Region.wanted o (yielded ops.toArray a.tmps)=b:=fun hg=>D3 hg fun d ⟨j,want,h1,h2⟩=>⟨F,w,zm (d:=d) (by unfold xv;rw[h1];simp[h2])⟩
  have next:∀(F':Nat→Prop) (w':World) (u:Value),bL F w F' w'→bC F' w' σ→aF F' w' di[i] u→vH P .any ops.toArray Q fuel (aC.setIfInBounds i true) (a.put o.dst u) w':=by
   intro F' w' u h1 h2 h3
   have bc:∀j,j≠i→(aC.setIfInBounds i true).getD j false=aC.getD j false:=fun j hj=>getD_set_ne false (Ne.symm hj)
   have acG:(aC.setIfInBounds i true).getD i false=true:=by simp[Array.getD,hJ.JB,uE]
   refine ih _ F' w' _ (by have:=Bb fR;omega) ⟨h2,by rw[O7];exact hJ.size,by rw[Qg];exact hJ.defers.mono h1,by simp[hJ.JB],fun j p hp hl e he hb=>?_,fun j p v d hp ku hv hl=>?_,fun d hn=>?_⟩ (ao.trans h1)
   ·refine getD_set_true ?_
    by_cases hj:j=i
    ·subst hj
     rw[kc]at hp
     cases hp
     exact pX e he hb
    ·rw[bc j hj]at hl
     exact hJ.closed j p hp hl e he hb
   ·by_cases hj:j=i
    ·subst hj
     rw[kc]at hp
     cases hp
     rw[hvi]at hv
     cases hv
     have dI:d<a.tmps.size:=tc (hd o (dm kc) d ku) hJ.size
     rw[ku]
     simpa [Act.put,Array.getD,dI]using h3
    ·rw[bc j hj]at hl
     have h4:=(hJ.KS j p v d hp ku hv hl).mono h1
     have ck:o.dst≠some d:=fun jD=>hj (ho.F6 j i p o d hp kc jD ku)
     cases jD:o.dst with
     |none=>exact h4
     |some d'=>
      have sV:d'≠d:=fun e=>ck (by rw[jD,e])
      show aF F' w' v ((a.tmps.setIfInBounds d' u).getD d undef)
      rw[jG]at h4 ⊢
      rw[G5 sV]
      exact h4
   ·have ck:o.dst≠some d:=fun jD=>by
     have:=hn i o kc jD
     rw[acG]at this
     cases this
    have h4:=(hJ.out d fun j p hp ku=>by
     by_cases hj:j=i
     ·subst hj;rw[kc]at hp;cases hp;exact absurd ku ck
     ·rw[← bc j hj];exact hn j p hp ku).mono h1
    cases jD:o.dst with
    |none=>exact h4
    |some d'=>
     have sV:d'≠d:=fun e=>ck (by rw[jD,e])
     show aF F' w' (t0 d) ((a.tmps.setIfInBounds d' u).getD d undef)
     rw[jG]at h4 ⊢
     rw[G5 sV]
     exact h4
  unfold nP
  rw[show ops.toArray[i]?=some o by simpa using kc]
  rcases hf i o di[i] kc hvi with ⟨hg,hl⟩ | ⟨hg,hv⟩
  ·simp only[R8 hg,if_true]
   refine (hl a F w (fun x hx=>PE x fun d e=>?_) hJ.hp _ Q (fun u F' w' k1 k2 k3=>next F' w' u k1 k2 k3))
   subst e
   exact zm (by unfold xv;exact gF _ (List.mem_filterMap.2 ⟨.tmp d,hx,rfl⟩))
  ·simp only[R8 hg,uR,if_false]
   exact next F w undef (.refl _ _) hJ.hp (by rw[hv];exact xb)
end
theorem Uk(ok:dH P TT)(hm:P.follows .mixedOrders=true){r:Option Nat}{B n id:Nat}{ops:Array Oper}{t:Tm}{σ:Hp}{K:Tm→Prop}{F:Nat→Prop}{w:World}{a:Act}{Q:Exit→Act→World→Prop}(h0:ED ops.toList=true)(h:FK P TT ops.toList ops.toList t σ K)(hd:∀o∈ops.toList,∀d,o.dst=some d→d<n)(ck:∀o∈ops.toList,∀c,o.op≠.defer c)(hs:dw B n F w t σ a)
  (hq:∀t' F' w' a',bL F w F' w'→dw B n F' w' t' σ a'→K t'→Q .normal a' w'):(Code.region id ops true).wpIn (FW r) 0 P Q a w:=by
 obtain⟨di,h1,h2,h3⟩:=Pc ok _ _ h
 have oN:bL F w F { w with drawn:=w.drawn+1 }:=w9 hs.hp.low rfl rfl rfl (bJ _) (fun _ _=>rfl)
 refine Hy hm ck ?_
 have key:=V8 (P:=P) (Q:=Q) (t0:=t) (B:=B) (n:=n) (abh h0) h1 hd h2 (F0:=F) (w0:=w) (fun F' w' a' k1 k2=>hq _ F' w' a' k1 k2 h3) ops.size (Array.replicate ops.size false) F { w with drawn:=w.drawn+1 } a (by
   unfold left
   refine Nat.le_trans (List.length_filter_le _ _) (by simp)) ⟨hs.hp.same oN (fun _ _=>rfl),hs.size,hs.defers.mono oN,by simp,fun j o ho hl=>?_,fun j o v d ho jD hv hl=>?_,fun d _=>(hs.tm d).mono oN⟩ oN
 ·simpa using key
 ·by_cases hj:j<ops.size <;> simp[Array.getD,hj]at hl
 ·by_cases hj:j<ops.size <;> simp[Array.getD,hj]at hl
end
section
variable {P:Program} {TT:TypeId→Option TI}
def vJ(Q:Exit→Act→World→Prop):Exit→Act→World→Prop
 |.panic _,_,_=>False
 |e,a,w=>Q e a w
theorem Pn{Q:Exit→Act→World→Prop}:∀(e:Exit) (a:Act) (w:World),vJ Q e a w→Q e a w:=fun e a w h=>by
 cases e <;> first | exact h | exact (h:False).elim
theorem q7(ops:List Oper)(aC:List Bool):Region.ready .any ops.toArray aC.toArray=iT ops aC:=by
 unfold Region.ready iT
 simp only[qb]
 apply List.filter_congr
 intro i hi
 have hi:=gq.1 hi
 have e:∀d,aC.toArray.getD i d=aC.getD i d:=fun d=>by simp[Array.getD_eq_getD_getElem?,List.getD_eq_getElem?_getD]
 rw[e]
 congr 1
 simp only[yr,bN hi,Option.map_some,Option.getD_some]
 rw[← Array.all_toList]
 congr 1
 funext x
 simp[Array.getD_eq_getD_getElem?,List.getD_eq_getElem?_getD]
theorem H8{ops:List Oper}(h:rb ops=true):Region.noSelect ops.toArray=true∧∀(i j:Nat) (o p:Oper),ops[i]?=some o→ops[j]?=some p→i=j∨pA o j=true∨pA p i=true∨o.apart ops.toArray p=true:=by
 unfold rb at h
 have hz:∀(i:Nat) (o:Oper),ops[i]?=some o→(o,i)∈ops.zipIdx:=fun i o ho=>by
  rw[L3];exact ho
 refine⟨?_,fun i j o p hi hj=>?_⟩
 ·unfold Region.noSelect
  rw[← Array.all_toList]
  refine fN.2 fun o ho=>?_
  obtain⟨i,hi⟩:=yp.1 ho
  have:=List.all_eq_true.1 h (o,i) (hz i o (by simpa using hi))
  simp only[b9]at this
  exact this.1
 ·have:=fN.1 h (o,i) (hz i o hi)
  simp only[b9]at this
  have:=fN.1 this.2 (p,j) (hz j p hj)
  simp only[o9]at this
  rcases this with ((h | h) | h) | h
  ·exact .inl (jF h)
  ·exact .inr (.inl h)
  ·exact .inr (.inr (.inl h))
  ·exact .inr (.inr (.inr h))
def Still(ops:List Oper)(i:Nat):Prop:=∀o,ops[i]?=some o→nX o.op=false
def re(P:Program)(ops:List Oper)(Q:Exit→Act→World→Prop):Nat→Array Bool→Act→World→Prop
 | 0,aC,a,w=>Region.ready .any ops.toArray aC=[]∧Q .normal a w
 |fuel+1,aC,a,w=>(Region.ready .any ops.toArray aC=[]→Q .normal a w)∧
  ∀i∈Region.ready .any ops.toArray aC,nP P ops.toArray Q i (fun a' w'=>(Still ops i→w'=w)∧re P ops Q fuel (aC.setIfInBounds i true) a' w') a w
theorem M5{ops:List Oper}{Q:Exit→Act→World→Prop}:∀(fuel:Nat) (aC:Array Bool) (a:Act) (w:World),re P ops Q fuel aC a w→vH P .any ops.toArray Q fuel aC a w
 | 0,_,_,_,h=>h
 |fuel+1,_,_,_,h=>⟨h.1,fun i hi=>HL (fun a' w' h'=>M5 fuel _ a' w' h'.2) (h.2 i hi)⟩
def BF(ops:List Oper)(aC:Array Bool):Prop:=∀(j:Nat) (o:Oper),ops[j]?=some o→aC.getD j false=true→∀e∈o.after,Region.binds .any e=true→aC.getD e.on false=true
theorem BF.set{ops:List Oper}{aC:Array Bool}(h:BF ops aC){j:Nat}{o:Oper}(ho:ops[j]?=some o)(hr:∀e∈o.after,Region.binds .any e=true→aC.getD e.on false=true):BF ops (aC.setIfInBounds j true):=by
 intro k p hp hk e he hb
 by_cases wA:k=j
 ·subst wA
  rw[ho]at hp;cases hp
  exact getD_set_true (hr e he hb)
 ·rw[getD_set_ne false (Ne.symm wA)]at hk
  exact getD_set_true (h k p hp hk e he hb)
theorem TM{ops:List Oper}{Q:Exit→Act→World→Prop}(h0:rb ops=true){S:World→Prop}{i:Nat}{oi:Oper}{v:Value}(hi:ops[i]?=some oi):
  ∀(fuel:Nat) (aC:Array Bool) (a:Act) (w:World),aC.size=ops.length→BF ops aC→(∀e∈oi.after,Region.binds .any e=true→aC.getD e.on false=true)→i∈Region.ready .any ops.toArray aC→YieldsIf P ops.toArray S oi v a→S w→((∀w,S w)∨∀(j:Nat) (o:Oper),ops[j]?=some o→nX o.op=true→aC.getD j false=false→pA o i=true)→
   re P ops Q fuel (aC.setIfInBounds i true) (a.put oi.dst v) w→re P ops Q (fuel+1) aC a w:=by
 have oh:ops.toArray[i]?=some oi:=by simpa using hi
 have now:∀(fuel:Nat) (aC:Array Bool) (a:Act) (w:World),YieldsIf P ops.toArray S oi v a→S w→re P ops Q fuel (aC.setIfInBounds i true) (a.put oi.dst v) w→nP P ops.toArray Q i (fun a' w'=>(Still ops i→w'=w)∧re P ops Q fuel (aC.setIfInBounds i true) a' w') a w:=
  fun fuel aC a w hy wD H=>TY oh hy wD ⟨fun _=>rfl,H⟩
 intro fuel
 induction fuel with
 |zero=>
  intro aC a w eE hc pX hr hy wD C7 H
  refine⟨fun h=>(by rw[h]at hr;cases hr),fun j hj=>?_⟩
  by_cases qR:j=i
  ·subst qR;exact now 0 aC a w hy wD H
  ·have:=ready_mono hj qR
   rw[H.1]at this
   cases this
 |succ fuel ih=>
  intro aC a w eE hc pX hr hy wD C7 H
  refine⟨fun h=>(by rw[h]at hr;cases hr),fun j hj=>?_⟩
  by_cases qR:j=i
  ·subst qR;exact now (fuel+1) aC a w hy wD H
  ·have h1:=H.2 j (ready_mono hj qR)
   obtain⟨S1,oj,K9,bQ⟩:=mem_ready.1 hj
   have ae3:=(mem_ready.1 hr).1
   have SZ:¬(pA oj i=true):=fun hb=>by
    obtain⟨e,he,yh,e1⟩:=yD hb
    have:=bQ e he yh
    rw[e1,AG ae3]at this
    cases this
   have Ch:ops[j]?=some oj:=by simpa using K9
   have uK:oi.apart ops.toArray oj=true:=by
    rcases (H8 h0).2 i j oi oj hi Ch with e | e | e | e
    ·exact absurd e.symm qR
    ·obtain⟨ed,he,yh,e1⟩:=yD e
     have:=pX ed he yh
     rw[e1,AG S1]at this
     cases this
    ·exact absurd e SZ
    ·exact e
   have SQ:=Region.noSelect_spec (H8 h0).1
   have h2:=VO K9 uK (fun cs b=>SQ i oi cs b oh) (fun cs b=>SQ j oj cs b K9) hy h1
   have acM:(aC.setIfInBounds i true).setIfInBounds j true=(aC.setIfInBounds j true).setIfInBounds i true:=by rw[Array.setIfInBounds_comm _ _ (Ne.symm qR)]
   refine HL (fun a' w' h3=>?_) h2
   obtain⟨wj,hC',H'⟩:=h3
   have aec:S w':=by
    rcases C7 with hS | CM
    ·exact hS w'
    ·cases he:nX oj.op with
     |true=>exact absurd (CM j oj Ch he (AG S1)) SZ
     |false=>rw[hC' (fun o ho=>by rw[Ch]at ho;cases ho;exact he)];exact wD
   refine⟨hC',ih (aC.setIfInBounds j true) a' w' (by simpa using eE) (hc.set Ch bQ) (fun e he hb=>getD_set_true (pX e he hb)) (ready_mono hr (Ne.symm qR)) wj aec ?_ ?_⟩
   ·rcases C7 with hS | CM
    ·exact .inl hS
    ·refine .inr fun k o ho he hk=>?_
     by_cases wA:k=j
     ·subst wA
      have uD:k<aC.size:=by rw[eE];exact (cR.1 Ch).1
      simp[Array.getD,uD]at hk
     ·rw[getD_set_ne false (Ne.symm wA)]at hk
      exact CM k o ho he hk
   ·rw[← acM]
    exact H'
theorem OD{o:Op}(h:blind o=true){ρ:Operand→AV}{σ:Hp}{K:AV→Hp→Prop}(hw:gT P TT o ρ σ K):fM P TT o ρ σ (fun v=>K v σ)∧Jd o=true:=by
 unfold blind at h
 split at h <;> first | exact⟨hw,rfl⟩ | cases h
theorem PJ{f:Nat→Prop}:∀{l:List Nat},Kx f l→∀i∈l,f i
 | [],_,i,h=>by cases h
 | [x],h,i,hi=>by simp at hi;subst hi;exact h
 |x::y::r,h,i,hi=>by
  rcases ei.1 hi with rfl | hi
  ·exact h.1
  ·exact PJ (l:=y::r) h.2 i hi
theorem Ns{o:Op}(h:nX o=false){ρ:Operand→AV}{σ:Hp}{K:AV→Hp→Prop}(hw:gT P TT o ρ σ K):fM P TT o ρ σ (fun v=>K v σ):=by
 unfold nX at h
 simp only[GO,o9]at h
 rcases h with h | h
 ·exact (OD h hw).1
 ·cases o <;> first | exact hw | cases h
theorem Yu(ok:dH P TT){B n:Nat}{ops:List Oper}(h0:rb ops=true)(hd:∀o∈ops,∀d,o.dst=some d→d<n){K:Tm→Hp→Prop}{Q:Exit→Act→World→Prop}{F0:Nat→Prop}{w0:World}(hq:∀t' σ' F' w' a',bL F0 w0 F' w'→dw B n F' w' t' σ' a'→K t' σ'→Q .normal a' w'):
  ∀(m:Nat) (aC:List Bool) (t:Tm) (σ:Hp) (F:Nat→Prop) (w:World) (a:Act),left aC.toArray≤m→aC.length=ops.length→uf P TT ops (m+1) aC t σ K→dw B n F w t σ a→bL F0 w0 F w→BF ops aC.toArray→re P ops (vJ Q) m aC.toArray a w:=by
 intro m
 induction m with
 |zero=>
  intro aC t σ F w a hl hlen h hs ao hC
  have hr:iT ops aC=[]:=by
   rw[← q7,G4]
   intro j hj
   have:=(mem_ready.1 hj).1
   rw[HY (by omega)]at this
   cases this
  rw[OG]at h
  rw[hr]at h
  exact⟨by rw[q7];exact hr,hq t σ F w a ao hs h⟩
 |succ m ih=>
  intro aC t σ F w a hl hlen h hs ao hC
  rw[OG]at h
  split at h
  ·rename_i hr
   refine⟨fun _=>hq t σ F w a ao hs h,fun i hi=>?_⟩
   rw[q7,hr]at hi
   cases hi
  ·rename_i i0 r0 hr
   have guard:∀{o:Oper} {b:Bool},tD ops o t b→Region.wanted o (yielded ops.toArray a.tmps)=b:=fun hg=>D3 hg fun d _=>⟨F,w,hs.tm d⟩
   have mem:∀j,j∈iT ops aC→∃o,ops[j]?=some o∧aC.toArray.getD j true=false∧∀e∈o.after,Region.binds .any e=true→aC.toArray.getD e.on false=true:=fun j hj=>by
    rw[← q7]at hj
    obtain⟨h1,o,h2,h3⟩:=mem_ready.1 hj
    exact⟨o,by simpa using h2,h1,h3⟩
   have kM:∀j,(aC.set j true).toArray=aC.toArray.setIfInBounds j true:=fun j=>by simp
   split at h
   ·rename_i j hj
    have Lh:=List.mem_of_find?_eq_some hj
    have z6:=List.find?_some hj
    rw[← hr]at Lh
    obtain⟨o,ho,fR,pX⟩:=mem j Lh
    unfold I9 at z6
    rw[ho]at z6
    have ab:left (aC.toArray.setIfInBounds j true)≤m:=by have:=Bb fR;omega
    unfold zC at h
    rw[ho]at h
    have bc:nX o.op=false:=by
     unfold nX
     simp only[o9,b9]at z6
     rcases z6 with hb | hb
     ·simp[hb]
     ·simp[hb.1]
    have hjr:j∈Region.ready .any ops.toArray aC.toArray:=by rw[q7];exact Lh
    have take:∀(S:World→Prop) v,((∀w,S w)∨∀(k:Nat) (o:Oper),ops[k]?=some o→nX o.op=true→aC.toArray.getD k false=false→pA o j=true)→S w→YieldsIf P ops.toArray S o v a→re P ops (vJ Q) m (aC.toArray.setIfInBounds j true) (a.put o.dst v) w→re P ops (vJ Q) (m+1) aC.toArray a w:=fun S v C7 wD hy hk=>
     TM h0 ho m aC.toArray a w (by simpa using hlen) hC pX hjr hy wD C7 hk
    have pK:∀(x:AV) (u:Value),aF F w x u→uf P TT ops (m+1) (aC.set j true) (put t o.dst x) σ K→re P ops (vJ Q) m (aC.toArray.setIfInBounds j true) (a.put o.dst u) w:=fun x u hx hk=>by
     rw[← kM]
     exact ih _ _ σ F w _ (by rw[kM];exact ab) (by simpa using hlen) hk (hs.put (.refl _ _) hs.hp hx (hd o (List.mem_of_getElem? ho))) ao (by rw[kM];exact hC.set ho pX)
    rcases xe h with ⟨hg,h⟩ | ⟨hg,h⟩
    ·simp only[o9,b9]at z6
     rcases z6 with hb | ⟨hb,CM⟩
     ·obtain⟨h1,h2⟩:=OD hb h
      obtain⟨v,k1,k2⟩:=Od ok h2 h1
      obtain⟨u,r1,r2⟩:=k2 a.eval F w o rfl (fun x _=>hs.tm.eval x)
      exact take (fun _=>True) u (.inl fun _=>trivial) trivial (.inl ⟨guard hg,fun w' _=>r1 w'⟩) (pK v u r2 k1)
     ·obtain⟨v,k1,k2⟩:=D6 ok (Ns bc h)
      obtain⟨u,r1,r2⟩:=k2 a.eval F w o rfl (fun x _=>hs.tm.eval x) hs.hp
      refine take (fun x=>x=w) u (.inr fun k p hp hk hl=>?_) rfl (.inl ⟨guard hg,fun w' e=>by subst e;exact r1⟩) (pK v u r2 k1)
      have:=fN.1 CM (p,k) (by rw[L3];exact hp)
      have Le:aC.getD k false=false:=by
       rw[jG,yr,← bO]at hl
       exact hl
      simpa only [hk,Le,Dn,mj]using this
    ·exact take (fun _=>True) undef (.inl fun _=>trivial) trivial (.inr ⟨guard hg,rfl⟩) (pK (.tup []) undef xb h)
   ·refine⟨fun h1=>absurd h1 (by rw[q7,hr];simp),fun j hj=>?_⟩
    rw[q7]at hj
    obtain⟨o,ho,fR,pX⟩:=mem j hj
    have h:=PJ h j (by rw[← hr];exact hj)
    have uE:j<ops.length:=(cR.1 ho).1
    have ab:left (aC.toArray.setIfInBounds j true)≤m:=by have:=Bb fR;omega
    unfold zC at h
    rw[ho]at h
    unfold nP
    rw[show ops.toArray[j]?=some o by simpa using ho]
    have pK:∀(x:AV) (u:Value) (σ':Hp) (F':Nat→Prop) (w':World),bL F w F' w'→bC F' w' σ'→aF F' w' x u→(Still ops j→w'=w)→uf P TT ops (m+1) (aC.set j true) (put t o.dst x) σ' K→(Still ops j→w'=w)∧re P ops (vJ Q) m (aC.toArray.setIfInBounds j true) (a.put o.dst u) w':=fun x u σ' F' w' q1 q2 q3 q4 hk=>by
     refine⟨q4,?_⟩
     rw[← kM]
     exact ih _ _ σ' F' w' _ (by rw[kM];exact ab) (by simpa using hlen) hk (hs.put q1 q2 q3 (hd o (List.mem_of_getElem? ho))) (ao.trans q1) (by rw[kM];exact hC.set ho pX)
    cases he:nX o.op with
    |true=>
     have vac:Still ops j→False:=fun hn=>by
      have:=hn o ho
      rw[he]at this
      cases this
     rcases xe h with ⟨hg,h⟩ | ⟨hg,h⟩
     ·simp only[guard hg,if_true]
      refine (HR ok h a F w (fun x _=>hs.tm.eval x) hs.hp _ _ ?_)
      intro v av σ' F' w' q1 q2 q3 q4
      exact pK av v σ' F' w' q1 q2 q3 (fun hn=>(vac hn).elim) q4
     ·simp only[guard hg,uR,if_false]
      exact⟨fun _=>trivial,(pK (.tup []) undef σ F w (.refl _ _) hs.hp xb (fun _=>rfl) h).2⟩
    |false=>
     rcases xe h with ⟨hg,h⟩ | ⟨hg,h⟩
     ·simp only[guard hg,if_true]
      obtain⟨v,k1,k2⟩:=D6 ok (Ns he h)
      obtain⟨u,r1,r2⟩:=k2 a.eval F w o rfl (fun x _=>hs.tm.eval x) hs.hp
      unfold wq
      rw[r1]
      exact pK v u σ F w (.refl _ _) hs.hp r2 (fun _=>rfl) k1
     ·simp only[guard hg,uR,if_false]
      exact⟨fun _=>trivial,(pK (.tup []) undef σ F w (.refl _ _) hs.hp xb (fun _=>rfl) h).2⟩
theorem NA(ok:dH P TT)(hm:P.follows .mixedOrders=true){r:Option Nat}{B n id:Nat}{ops:Array Oper}{t:Tm}{σ:Hp}{K:Tm→Hp→Prop}{F:Nat→Prop}{w:World}{a:Act}{Q:Exit→Act→World→Prop}(h0:rb ops.toList=true)(h:uf P TT ops.toList (ops.toList.length+1) (List.replicate ops.toList.length false) t σ K)(hd:∀o∈ops.toList,∀d,o.dst=some d→d<n)(ck:∀o∈ops.toList,∀c,o.op≠.defer c)(hs:dw B n F w t σ a)
  (hq:∀t' σ' F' w' a',bL F w F' w'→dw B n F' w' t' σ' a'→K t' σ'→Q .normal a' w'):(Code.region id ops true).wpIn (FW r) 0 P Q a w:=by
 have oN:bL F w F { w with drawn:=w.drawn+1 }:=w9 hs.hp.low rfl rfl rfl (bJ _) (fun _ _=>rfl)
 refine wpIn_mono (Hy hm ck ?_) Pn
 have key:=Yu (P:=P) (Q:=Q) ok h0 hd (F0:=F) (w0:=w) hq ops.toList.length (List.replicate ops.toList.length false) t σ F { w with drawn:=w.drawn+1 } a (by
   unfold left
   refine Nat.le_trans (List.length_filter_le _ _) (by simp)) (by simp) h ⟨hs.tm.mono oN,hs.hp.same oN (fun _ _=>rfl),hs.size,hs.defers.mono oN⟩ oN (fun j o ho hl=>by
    simp[Array.getD]at hl)
 simpa using M5 _ _ _ _ key
end
section
variable {P:Program} {TT:TypeId→Option TI}
def One(X:(AV→Prop)→Prop):Prop:=∀K,X K→∃v,K v∧∀K':AV→Prop,K' v→X K'
theorem fV{v:AV}:One (fun K=>K v):=fun _ h=>⟨v,h,fun _ h=>h⟩
theorem cS:One (fun _=>False):=fun _ h=>h.elim
theorem qk{p:Prop}{X:(AV→Prop)→Prop}(h:One X):One (fun K=>aw p (X K)):=fun K ⟨hp,h1⟩=>by
 obtain⟨v,h2,h3⟩:=h K h1
 exact⟨v,h2,fun K' hk=>⟨hp,h3 K' hk⟩⟩
theorem DX{v:AV}:One (fun K=>strict v K):=fun K h=>⟨v,(xg v K)▸h,fun K' h=>by show strict v K';rw[xg];exact h⟩
theorem ZP{α:Type}{l:List α}{n:Int}{f:α→AV}:One (fun K=>aX l n fun d=>K (f d)):=fun _ ⟨x,h0,h1,go⟩=>⟨f x,go,fun _ h=>⟨x,h0,h1,h⟩⟩
theorem EH{b:Bool}:One (fun K=>n0 b K):=fun K h=>⟨.bool b,by cases b <;> exact h,fun K' h=>by cases b <;> exact h⟩
theorem Pd{t:TypeId}{xs ys:List AV}{f:Bool→Bool}:One (fun K=>EqAt P TT t xs ys fun b=>n0 (f b) K):=fun K ⟨h1,h2,go⟩=>by
 obtain⟨v,k1,k2⟩:=EH K go
 exact⟨v,k1,fun K' h=>⟨h1,h2,k2 K' h⟩⟩
theorem Wk{t:TypeId}{m:String}{x:AV}{X:(AV→Prop)→Prop}(h:One X):One (fun K=>eY P t m x (X K)):=fun K ⟨hp,h1⟩=>by
 obtain⟨v,h2,h3⟩:=h K h1
 exact⟨v,h2,fun K' hk=>⟨hp,h3 K' hk⟩⟩
theorem Wi(k:TK)(want:Bool)(x y:AV):One (zh k want x y):=by
 intro K h
 unfold zh at h
 split at h
 all_goals first | exact⟨_,h,fun _ h=>h⟩ | exact h.elim | exact qk fV K h
theorem ZO(op:BinOp)(k:IntKind)(a b:Int):One (FN op k a b):=by
 cases op <;> first | exact EH | exact qk fV | exact fV | exact cS
theorem Wh(op:BinOp)(k:IntKind)(a b:Int):One (EW op k a b):=by
 cases op <;> first | exact qk fV | exact cS
theorem A0{b:Bool}{X Y:(AV→Prop)→Prop}(h1:One X)(h2:One Y):One (fun K=>match b with | true=>X K | false=>Y K):=by cases b;exact h2;exact h1
set_option maxHeartbeats 1000000 in
theorem ZR(op:BinOp)(t:TypeId)(y0:Operand)(x y:AV):One (Cp TT op t y0 x y):=by
 unfold Cp
 cases x <;> cases y
 case int.int k a k' b=>cases op <;> first | exact Wh _ _ _ _ | exact A0 (ZO _ _ _ _) cS
 case bool.bool a b=>
  rcases TT t with _ | ⟨k,s,qf,z⟩
  ·exact cS
  ·cases k <;> cases op <;> first | exact EH | exact cS
 case str.str a b=>cases op <;> first | exact EH | exact cS
 all_goals
  cases hc:Qm y0 <;> cases ht:TT t <;> cases op <;> first | exact cS | exact Wi _ _ _ _
theorem XZ(op:BinOp)(t:TypeId)(y0:Operand)(x y:AV):One (Cq P TT op t y0 x y):=by
 unfold Cq
 split
 ·cases op <;> first | exact Pd (f:=fun b=>b) | exact Pd (f:=fun b=> !b) | exact cS
 ·cases op <;> first | exact qk fV | exact cS
 ·exact ZR _ _ _ _ _
theorem abp(op:UnOp)(x:AV):One (CA op x):=by
 unfold CA
 split <;> first | exact fV | exact cS
theorem XY(s d:TypeId)(x:AV):One (BX TT s d x):=by
 unfold BX
 split <;> first | exact fV | exact qk fV | exact cS
theorem Wg(t:TypeId)(x:AV)(lo hi mx:Option AV):One (y6 TT t x lo hi mx):=by
 unfold y6
 split
 ·split
  ·split <;> first | exact qk fV | exact cS
  ·split <;> first | exact qk fV | exact cS
  ·split <;> first | exact qk fV | exact cS
  ·exact cS
 ·split
  ·split <;> first | exact qk fV | exact cS
  ·exact cS
 ·exact cS
theorem XW(t:TypeId)(x ix:AV):One (AO TT t x ix):=by
 unfold AO
 split
 ·split <;> first | exact qk ZP | exact qk fV | exact cS
 ·split <;> first | exact qk fV | exact cS
 ·exact cS
theorem Ty(s:TypeId)(x:AV)(f:Nat):One (AR TT s x f):=by
 unfold AR
 split
 ·split
  ·split
   ·split <;> first | exact fV | exact cS
   ·exact cS
  ·exact cS
 ·exact cS
theorem Wj(s:TypeId)(x:AV)(f:Nat):One (BA TT s x f):=by
 unfold BA
 split
 ·split
  ·split
   ·split <;> first | exact fV | exact cS
   ·exact cS
  ·exact cS
 ·exact cS
theorem ZN(k:TK)(x:AV):One (Cb k x):=by
 unfold Cb
 split <;> first | exact fV | exact cS
theorem ZQ(k:TK)(x:AV):One (Co k x):=by
 unfold Co
 split <;> first | exact fV | exact cS
theorem ZL(xs:List AV):One (B8 xs):=by
 unfold B8
 split
 ·exact A0 fV cS
 ·exact cS
theorem ZM(xs:List AV):One (B9 xs):=by
 unfold B9
 split
 ·exact A0 fV cS
 ·exact cS
theorem XX(x y:AV):One (BW x y):=by
 unfold BW
 split <;> first | exact fV | exact cS
theorem XT(x:AV):One (BI x):=by
 unfold BI
 split <;> first | exact fV | exact cS
theorem XV(x:AV):One (BM x):=by
 unfold BM
 split <;> first | exact fV | exact cS
theorem XU(i:TI)(a:AV)(σ:Hp):One (pD i a σ):=by
 unfold pD
 split
 ·split <;> first | exact fV | exact cS
 ·exact fun K ⟨j,cs,v,h1,h2,go⟩=>⟨v,go,fun K' h=>⟨j,cs,v,h1,h2,h⟩⟩
 ·exact cS
theorem Vb(t:TypeId)(m k:AV)(c:Bool)(σ:Hp):One (Bm TT t m k c σ):=by
 unfold Bm
 split
 ·intro K ⟨j,b,l,hm,h1,go⟩
  cases c with
  |true=>exact⟨_,go,fun K' h=>⟨j,b,l,hm,h1,h⟩⟩
  |false=>exact⟨_,go,fun K' h=>⟨j,b,l,hm,h1,h⟩⟩
 ·exact cS
theorem EG(o:Op)(ρ:Operand→AV)(σ:Hp):One (fM P TT o ρ σ):=by
 unfold fM
 split
 ·exact DX
 ·exact DX
 ·split
  ·exact A0 DX DX
  ·exact cS
 ·split <;> first | exact fV | exact cS
 ·split <;> first | exact XU _ _ _ | exact cS
 ·split <;> first | exact fV | exact Wk fV | exact cS
 ·exact XZ _ _ _ _ _
 ·exact abp _ _
 ·exact XY _ _ _
 ·split <;> first | exact fV | exact cS
 ·exact fV
 ·exact Wg _ _ _ _ _
 ·exact Ty _ _ _
 ·exact Wj _ _ _
 ·exact XW _ _ _
 ·split <;> first | exact A0 fV fV | exact fV | exact cS
 ·exact Vb _ _ _ _ _
 ·split
  ·split <;> first | exact fV | exact cS
  ·exact cS
 ·split
  ·split <;> first | exact ZN _ _ | exact cS
  ·exact cS
 ·split <;> first | exact ZL _ | exact cS
 ·split <;> first | exact ZM _ | exact cS
 ·split <;> first | exact XX _ _ | exact cS
 ·split <;> first | exact XT _ | exact cS
 ·split <;> first | exact XV _ | exact cS
 ·split
  ·split <;> first | exact ZQ _ _ | exact cS
  ·exact cS
 ·exact cS
theorem VC{o:Op}(hb:blind o=true){ρ:Operand→AV}{σ σ':Hp}{K:AV→Prop}(h:fM P TT o ρ σ K):fM P TT o ρ σ' K:=by
 cases o <;> first | exact h | cases hb | (rename_i c;obtain⟨f,args,cJ⟩:=c;cases f <;> first | cases hb | (rename_i b;cases b <;> first | exact h | cases hb))
theorem Un(c:Call)(ρ:Operand→AV)(σ:Hp):One (fun K=>py P c ρ (fun f xs=>sE P f xs σ K) (fun _ _=>False)):=by
 have R3:∀(f:FuncId) (xs:List AV),One (sE P f xs σ):=fun f xs K h=>by
  cases h with
  |mk js r call go=>exact⟨r,go,fun K' h=>.mk js r call h⟩
  |perm hp r call go=>exact⟨r,go,fun K' h=>.perm hp r call h⟩
 unfold py
 split
 ·split <;> first | exact R3 _ _ | exact cS
 ·split
  ·exact fun K ⟨g,u,h,go⟩=>(R3 _ _ K go).imp fun v hv=>⟨hv.1,fun K' hk=>⟨g,u,h,hv.2 K' hk⟩⟩
  ·exact cS
 ·exact cS
theorem Qn(o:Op)(ρ:Operand→AV)(σ:Hp):One (um P TT o ρ σ):=by
 unfold um
 split
 ·exact EG _ _ _
 ·exact Un _ _ _
 ·exact EG _ _ _
theorem UQ{l:Nat}{K K':AV→Hp→Prop}(hk:∀v σ,K v σ→K' v σ){xs:List AV}{σ:Hp}(h:vE P l K xs σ):vE P l K' xs σ:=by
 cases h with
 |mk js R call go=>exact .mk js R call fun r σ' hr=>hk _ _ (go r σ' hr)
 |perm R hp call go=>exact .perm R hp call fun r σ' hr=>(go r σ' hr).imp fun ef h=>⟨h.1,hk _ _ h.2⟩
theorem UE{c:Call}{ρ:Operand→AV}{A B:FuncId→List AV→Prop}{Y Z:Nat→List AV→Prop}(C4:∀f xs,A f xs→B f xs)(hyz:∀l xs,Y l xs→Z l xs)(h:py P c ρ A Y):py P c ρ B Z:=by
 unfold py at h ⊢
 split at h
 ·split at h
  ·exact C4 _ _ h
  ·exact hyz _ _ h
  ·exact h.elim
 ·split at h
  ·obtain⟨g,u,h1,h2⟩:=h;exact⟨g,u,h1,C4 _ _ h2⟩
  ·exact h.elim
 ·exact h.elim
theorem WR{f:FuncId}{K K':AV→Hp→Prop}(hk:∀v σ,K v σ→K' v σ){xs:List AV}{σ:Hp}(h:CallAt P f K xs σ):CallAt P f K' xs σ:=by
 induction h with
 |mk js R call go=>exact .mk js R call fun r σ' hr=>hk _ _ (go r σ' hr)
 |perm R hp call go=>exact .perm R hp call fun r σ' hr=>(go r σ' hr).imp fun ef h=>⟨h.1,hk _ _ h.2⟩
 |cH j b off len es cs e l h1 h2 h3 h4 h ih=>exact .cH j b off len es cs e l h1 h2 h3 h4 ih
 |kj j b off len es cs e l h1 h2 h3 i k b' cs' hi hk h ih=>exact .kj j b off len es cs e l h1 h2 h3 i k b' cs' hi hk ih
theorem W4{i:TI}{σ:Hp}{s x:AV}{K K':AV→Hp→Prop}(hk:∀v σ,K v σ→K' v σ)(h:AppendAt i σ s x K):AppendAt i σ s x K':=by
 cases h with
 |fresh n new hs hx hn hb h0 go same=>exact .fresh n new hs hx hn hb h0 (fun h b=>hk _ _ (go h b)) (fun h=>hk _ _ (same h))
 |more j b len n cs new hs h1 h2 hx hn hb h0 go=>exact .more j b len n cs new hs h1 h2 hx hn hb h0 (fun b=>hk _ _ (go b))
 |zi j b off len n cs new hs h1 h2 hx hn hb h0 vX go=>exact .zi j b off len n cs new hs h1 h2 hx hn hb h0 (hk _ _ vX) (fun b=>hk _ _ (go b))
 |perm K2 hp h cY=>exact .perm K2 hp h fun v ef h=>(cY v ef h).imp fun xT h=>⟨h.1,h.2.imp (hk _ _) fun h=>⟨h.1,hk _ _ h.2⟩⟩
theorem WY{i:TI}{σ:Hp}{s x:AV}{K K':AV→Hp→Prop}(hk:∀v σ,K v σ→K' v σ)(h:Bu i σ s x K):Bu i σ s x K':=by
 cases h with
 |ak k n hs hx hn hb h0 go same=>exact .ak k n hs hx hn hb h0 (fun h b=>hk _ _ (go h b)) (fun h=>hk _ _ (same h))
theorem XR{o:Op}{ρ:Operand→AV}{σ:Hp}{K K':AV→Hp→Prop}(hk:∀v σ,K v σ→K' v σ)(h:gT P TT o ρ σ K):gT P TT o ρ σ K':=by
 have dd:∀{o:Op},fM P TT o ρ σ (fun v=>K v σ)→fM P TT o ρ σ (fun v=>K' v σ):=fun h=>by
  obtain⟨v,h1,h2⟩:=EG _ _ _ _ h
  exact h2 _ (hk _ _ h1)
 unfold gT at h ⊢
 split at h
 ·split at h
  ·exact fun b=>hk _ _ (h b)
  ·exact h.elim
 ·split at h
  ·exact fun b=>hk _ _ (h b)
  ·exact h.elim
 ·split at h
  ·split at h
   ·split at h
    ·exact fun b=>hk _ _ (h b)
    ·exact h.elim
   ·exact h.elim
  ·exact h.elim
 ·split at h
  ·split at h
   ·exact⟨h.fact,fun b=>hk _ _ (h.go b)⟩
   ·exact h.elim
  ·exact h.elim
 ·split at h
  ·split at h
   ·obtain⟨j,cs,cs',h1,h2,go⟩:=h;exact⟨j,cs,cs',h1,h2,hk _ _ go⟩
   ·exact h.elim
  ·exact h.elim
 ·split at h
  ·exact fun b=>hk _ _ (h b)
  ·exact h.elim
 ·unfold yV at h ⊢
  split at h
  ·obtain⟨j,b,l,hm,h1,go⟩:=h;exact⟨j,b,l,hm,h1,hk _ _ go⟩
  ·exact h.elim
 ·unfold yV at h ⊢
  split at h
  ·obtain⟨j,b,l,hm,h1,go⟩:=h;exact⟨j,b,l,hm,h1,hk _ _ go⟩
  ·exact h.elim
 ·unfold EZ at h ⊢
  split at h
  ·obtain⟨j,b,l,hm,h1,go⟩:=h;exact⟨j,b,l,hm,h1,fun r=>hk _ _ (go r)⟩
  ·exact h.elim
 ·split at h
  ·obtain⟨j,j2,r,b,l,seen,hx,h1,h2,stop,go⟩:=h;exact⟨j,j2,r,b,l,seen,hx,h1,h2,fun h=>hk _ _ (stop h),fun i p h3 h4=>hk _ _ (go i p h3 h4)⟩
  ·exact h.elim
 ·obtain⟨j,j2,r,b,i,l,p,seen,hx,h1,h2,h3,go⟩:=h;exact⟨j,j2,r,b,i,l,p,seen,hx,h1,h2,h3,hk _ _ go⟩
 ·split at h
  ·split at h
   ·split at h
    ·exact W4 hk h
    ·exact h.elim
   ·split at h
    ·exact WY hk h
    ·exact h.elim
   ·exact h.elim
  ·exact h.elim
 ·split at h
  ·split at h
   ·split at h
    ·cases h with
     |none hs go=>exact .none hs (hk _ _ go)
     |ah j b off len cs hs h1 h2 go=>exact .ah j b off len cs hs h1 h2 (hk _ _ go)
    ·exact h.elim
   ·exact h.elim
  ·exact h.elim
 ·split at h
  ·split at h
   ·split at h
    ·cases h with
     |none new hd hx go=>exact .none new hd hx (hk _ _ go)
     |ah j b off len n cs new hd h1 h2 hx hn go=>exact .ah j b off len n cs new hd h1 h2 hx hn (hk _ _ go)
     |part j b off len cs hd h1 h2 j2 b2 mY n kz hx h3 h4 hn go=>exact .part j b off len cs hd h1 h2 j2 b2 mY n kz hx h3 h4 hn (hk _ _ go)
    ·exact h.elim
   ·exact h.elim
  ·exact h.elim
 ·exact dd h
 ·exact UE (fun f xs h=>WR hk h) (fun l xs h=>UQ hk h) h
 ·exact dd h
theorem map_eq{ρ iB:Operand→AV}{l:List Operand}(h:∀x∈l,ρ x=iB x):l.map ρ=l.map iB:=Ar h
theorem Hj{c:Call}{ρ iB:Operand→AV}(h:∀x∈(Op.call c).operands.toList,ρ x=iB x):(∀f,c.callee=.value f→ρ f=iB f)∧(∀r m,c.callee=.invoke r m→ρ r=iB r)∧∀x∈c.args.toList,ρ x=iB x:=by
 obtain⟨f,args,cJ⟩:=c
 simp only[Op.operands,Call.operands,Az,bU]at h
 refine⟨fun g e=>?_,fun r m e=>?_,fun x hx=>h x (.inr hx)⟩
 ·subst e;exact h g (.inl (by simp))
 ·subst e;exact h r (.inl (by simp))
theorem DL{c:Call}{ρ iB:Operand→AV}{A:FuncId→List AV→Prop}{Y:Nat→List AV→Prop}(h:∀x∈(Op.call c).operands.toList,ρ x=iB x):py P c ρ A Y=py P c iB A Y:=by
 obtain⟨h1,h2,h3⟩:=Hj h
 have e:(c.args.toList.map fun x=>bZ (ρ x))=c.args.toList.map fun x=>bZ (iB x):=Ar fun x hx=>by rw[h3 x hx]
 unfold py
 rw[e]
 split
 ·rename_i f hf;rw[h1 f hf]
 ·rename_i r m hr;rw[h2 r m hr]
 ·rfl
theorem HS{o:Op}{ρ iB:Operand→AV}{σ:Hp}{K:AV→Prop}(h:∀x∈o.operands.toList,ρ x=iB x):fM P TT o ρ σ K=fM P TT o iB σ K:=by
 cases o with
 |call c=>
  obtain⟨f,args,cJ⟩:=c
  obtain⟨_,_,h3⟩:=Hj h
  cases f with
  |builtin b=>
   obtain⟨l⟩:=args
   have h3:∀x∈l,ρ x=iB x:=h3
   match l,h3 with
   | [],_=>cases b <;> rfl
   | [x],h3=>
    have hx:=h3 x (by simp)
    cases b <;> first | rfl | (obtain⟨cJ⟩:=cJ;rcases cJ with _ | ⟨t,_ | ⟨t',_ | ⟨xX,r⟩⟩⟩ <;> first | rfl | simp only[fM,hx])
   | [x,y],h3=>
    have hx:=h3 x (by simp)
    have hy:=h3 y (by simp)
    cases b <;> first | rfl | (obtain⟨cJ⟩:=cJ;rcases cJ with _ | ⟨t,_ | ⟨t',_ | ⟨xX,r⟩⟩⟩ <;> first | rfl | simp only[fM,hx,hy])
   |_::_::_::_,_=>cases b <;> rfl
  |_=>rfl
 |build t parts=>
  have e:(parts.toList.map fun p=>(p.1,ρ p.2))=parts.toList.map fun p=>(p.1,iB p.2):=Ar fun p hp=>by rw[h p.2 (by simp only[Op.operands];exact fi.2 ⟨p,hp,rfl⟩)]
  show (match E5 TT t (parts.toList.map fun p=>(p.1,ρ p.2)) with | some v=>K v | none=>False)=_
  rw[e];rfl
 |makeFunc f first cap=>
  have e1:first.toList.map ρ=first.toList.map iB:=map_eq fun x hx=>h x (by simp only[Op.operands,Az,bU];exact .inl hx)
  have e2:cap.toList.map ρ=cap.toList.map iB:=map_eq fun x hx=>h x (by simp only[Op.operands,Az,bU];exact .inr hx)
  show K (.fn f (first.toList.map ρ) (cap.toList.map ρ))=_
  rw[e1,e2];rfl
 |slice t x lo hi mx=>
  have hx:=h x (by simp[Op.operands])
  have e:∀(o:Option Operand),(∀y,o=some y→y∈(Op.slice t x lo hi mx).operands.toList)→(o.map fun x=>bZ (ρ x))=o.map fun x=>bZ (iB x):=fun o ho=>by
   cases o with
   |none=>rfl
   |some y=>simp[h y (ho y rfl)]
  show y6 TT t (bZ (ρ x)) (lo.map fun x=>bZ (ρ x)) (hi.map fun x=>bZ (ρ x)) (mx.map fun x=>bZ (ρ x)) K=_
  rw[hx,e lo (fun y hy=>by subst hy;simp[Op.operands]),e hi (fun y hy=>by subst hy;simp[Op.operands]),e mx (fun y hy=>by subst hy;simp[Op.operands])];rfl
 |pick c a b=>simp only[fM,h c (by simp[Op.operands]),h a (by simp[Op.operands]),h b (by simp[Op.operands])]
 |binOp op t x y yt=>simp only[fM,h x (by simp[Op.operands]),h y (by simp[Op.operands])]
 |indexAddr t x y=>simp only[fM,h x (by simp[Op.operands]),h y (by simp[Op.operands])]
 |lookup t x y c=>simp only[fM,h x (by simp[Op.operands]),h y (by simp[Op.operands])]
 |_=>first | rfl | (rename_i x;simp only[fM,h x (by simp[Op.operands])]) | (rename_i x _;simp only[fM,h x (by simp[Op.operands])]) | (rename_i x _ _;simp only[fM,h x (by simp[Op.operands])]) | (rename_i x _ _ _;simp only[fM,h x (by simp[Op.operands])])
theorem Oc{o:Op}{ρ iB:Operand→AV}{σ:Hp}{K:AV→Prop}(h:∀x∈o.operands.toList,ρ x=iB x):um P TT o ρ σ K=um P TT o iB σ K:=by
 have hd:=HS (P:=P) (TT:=TT) (σ:=σ) (K:=K) h
 cases o with
 |call c=>
  obtain⟨f,args,cJ⟩:=c
  cases f with
  |builtin b=>exact hd
  |value g=>exact DL (P:=P) (A:=fun f xs=>sE P f xs σ K) (Y:=fun _ _=>False) h
  |invoke r m=>exact DL (P:=P) (A:=fun f xs=>sE P f xs σ K) (Y:=fun _ _=>False) h
 |_=>exact hd
theorem N9{o:Op}{ρ iB:Operand→AV}{σ:Hp}{K:AV→Hp→Prop}(h:∀x∈o.operands.toList,ρ x=iB x):gT P TT o ρ σ K=gT P TT o iB σ K:=by
 have hd:=HS (P:=P) (TT:=TT) (σ:=σ) (K:=fun v=>K v σ) h
 cases o with
 |call c=>
  obtain⟨f,args,cJ⟩:=c
  obtain⟨_,_,h3⟩:=Hj h
  cases f with
  |builtin b=>
   obtain⟨l⟩:=args
   have h3:∀x∈l,ρ x=iB x:=h3
   match l,h3 with
   | [],_=>cases b <;> first | exact hd | rfl
   | [x],h3=>
    have hx:=h3 x (by simp)
    cases b <;> first | exact hd | rfl | (obtain⟨cJ⟩:=cJ;rcases cJ with _ | ⟨t,_ | ⟨t',_ | ⟨xX,r⟩⟩⟩ <;> first | rfl | simp only[gT,hx])
   | [x,y],h3=>
    have hx:=h3 x (by simp)
    have hy:=h3 y (by simp)
    cases b <;> first | exact hd | rfl | (obtain⟨cJ⟩:=cJ;rcases cJ with _ | ⟨t,_ | ⟨t',_ | ⟨xX,r⟩⟩⟩ <;> first | rfl | simp only[gT,hx,hy])
   |_::_::_::_,_=>cases b <;> first | exact hd | rfl
  |value g=>exact DL (P:=P) (A:=fun f xs=>CallAt P f K xs σ) (Y:=fun l xs=>vE P l K xs σ) h
  |invoke r m=>exact DL (P:=P) (A:=fun f xs=>CallAt P f K xs σ) (Y:=fun l xs=>vE P l K xs σ) h
 |box t x=>simp only[gT,h x (by simp[Op.operands])]
 |buildSlice t len parts=>
  have e:(parts.toList.map fun p=>(p.1,ρ p.2))=parts.toList.map fun p=>(p.1,iB p.2):=Ar fun p hp=>by rw[h p.2 (by simp only[Op.operands];exact fi.2 ⟨p,hp,rfl⟩)]
  simp only[gT,e]
 |makeSlice t l c=>simp only[gT,h l (by simp[Op.operands]),h c (by simp[Op.operands])]
 |store t a x=>simp only[gT,h a (by simp[Op.operands]),h x (by simp[Op.operands])]
 |makeMap t r=>cases r with
  |none=>rfl
  |some r=>exact hd
 |mapUpdate t m k x=>simp only[gT,h m (by simp[Op.operands]),h k (by simp[Op.operands]),h x (by simp[Op.operands])]
 |insert t m k x=>simp only[gT,h m (by simp[Op.operands]),h k (by simp[Op.operands]),h x (by simp[Op.operands])]
 |range t x=>simp only[gT,h x (by simp[Op.operands])]
 |next x s=>simp only[gT,h x (by simp[Op.operands])]
 |entry x=>simp only[gT,h x (by simp[Op.operands])]
 |_=>first | exact hd | rfl
theorem vk{ops:List Oper}{Q:List Nat}{n:Nat}{aC:List Bool}{t:Tm}{σ:Hp}{K:Tm→Hp→Prop}:pL P TT ops Q (n+1) aC t σ K=((iT ops aC=[]→K t σ)∧∀i∈iT ops aC,jR P TT ops (eX i Q) i t σ fun t' σ'=>pL P TT ops Q n (aC.set i true) t' σ' K):=rfl
def te(_ops:List Oper)(aC:List Bool)(o:Oper):Prop:=∀e∈o.after.toList,Region.binds .any e=true→aC.getD e.on false=true
theorem vd{ops:List Oper}{aC:List Bool}{i:Nat}:i∈iT ops aC↔aC.getD i true=false∧∃o,ops[i]?=some o∧te ops aC o:=by
 unfold iT te
 simp only[jW,gq,b9,ke]
 constructor
 ·rintro⟨h1,h2,h3⟩
  refine⟨h2,ops[i],by simp[h1],?_⟩
  rw[bN h1]at h3
  intro e he hb
  have:=fN.1 h3 e he
  simpa [hb]using this
 ·rintro⟨h2,o,h1,h3⟩
  refine⟨(cR.1 h1).1,h2,?_⟩
  rw[h1]
  refine fN.2 fun e he=>?_
  cases hb:Region.binds .any e with
  |false=>simp
  |true=>rw[h3 e he hb];simp
def y4(ops:List Oper)(aC:List Bool):Prop:=∀(j:Nat) (o:Oper),ops[j]?=some o→aC.getD j false=true→te ops aC o
theorem Mv{l:List Bool}{i k:Nat}(h:l.getD k false=true):(l.set i true).getD k false=true:=by
 rw[bO]at h ⊢
 rw[gX]
 split
 ·rename_i e;subst e
  split
  ·rfl
  ·rename_i hn;rw[r9 (by omega)]at h;cases h
 ·exact h
theorem MH{l:List Bool}{i k:Nat}(b:Bool)(h:k≠i):(l.set i true).getD k b=l.getD k b:=by
 rw[bO,bO,gX,aA (Ne.symm h)]
theorem EN{l:List Bool}{i:Nat}(h:l.getD i true=false):l.getD i false=false:=by
 rw[bO]at h ⊢
 cases hq:l[i]? with
 |none=>rw[hq]at h;cases h
 |some b=>rw[hq]at h;exact h
theorem te.set{ops:List Oper}{aC:List Bool}{o:Oper}(h:te ops aC o)(i:Nat):te ops (aC.set i true) o:=fun e he hb=>Mv (h e he hb)
theorem y4.set{ops:List Oper}{aC:List Bool}(h:y4 ops aC){j:Nat}{o:Oper}(ho:ops[j]?=some o)(hr:te ops aC o):y4 ops (aC.set j true):=by
 intro k p hp hk
 by_cases wA:k=j
 ·subst wA
  rw[ho]at hp;cases hp
  exact hr.set k
 ·rw[MH false wA]at hk
  exact (h k p hp hk).set j
theorem N0{ops:List Oper}{aC:List Bool}{i j:Nat}(hi:i∈iT ops aC)(h:i≠j):i∈iT ops (aC.set j true):=by
 obtain⟨h1,o,h2,h3⟩:=vd.1 hi
 exact vd.2 ⟨by rw[MH true h];exact h1,o,h2,h3.set j⟩
theorem Pq{j:Nat}{l:List Nat}:eX j l=true↔j∈l:=by
 unfold eX
 rw[kv]
 exact⟨fun ⟨x,h1,h2⟩=>jF h2▸h1,fun h=>⟨j,h,wM j⟩⟩
def B1(ops:List Oper)(k:Nat)(row:List Nat):Prop:=∀o,ops[k]?=some o→∀aC,y4 ops aC→te ops aC o→∀j∈row,aC.getD j false=true
theorem Zw{ops:List Oper}{acc:List (List Nat)}(hlen:acc.length≤ops.length)(h:∀(k:Nat) (row:List Nat),acc[k]?=some row→B1 ops k row){k:Nat}{o:Oper}(ho:ops[k]?=some o):B1 ops k (JZ o acc):=by
 intro o' gn aC hc hr j hj
 rw[ho]at gn;cases gn
 unfold JZ at hj
 obtain⟨e,he,hj⟩:=List.mem_flatMap.1 hj
 split at hj
 ·rename_i hb
  have o0:=hr e he hb
  rcases ei.1 hj with rfl | hj
  ·exact o0
  ·cases hq:acc[e.on]? with
   |none=>rw[hq]at hj;simp at hj
   |some row=>
    rw[hq]at hj
    cases hp:ops[e.on]? with
    |some p=>exact h e.on row hq p hp aC hc (hc e.on p hp o0) j (by simpa using hj)
    |none=>
     have h1:=(cR.1 hq).1
     have h2:=List.getElem?_eq_none_iff.1 hp
     omega
 ·cases hj
theorem OW{ops:List Oper}:∀(os:List Oper) (acc:List (List Nat)) (pre:List Oper),ops=pre++os→acc.length=pre.length→(∀(k:Nat) (row:List Nat),acc[k]?=some row→B1 ops k row)→∀(k:Nat) (row:List Nat),(Jv os acc)[k]?=some row→B1 ops k row
 | [],acc,pre,_,_,h=>h
 |o::os,acc,pre,he,hl,h=>by
  refine OW os _ (pre++[o]) (by rw[he];simp) (by simp[hl]) ?_
  intro k row hk
  by_cases ab:k<acc.length
  ·rw[ky ab]at hk
   exact h k row hk
  ·have eO:=hk
   rw[iP (by omega)]at hk
   have hz:k-acc.length=0:=by
    have:=(cR.1 hk).1
    simp at this;omega
   rw[hz]at hk
   simp only[List.getElem?_cons_zero,Option.some.injEq]at hk
   subst hk
   have aO:k=pre.length:=by omega
   have ho:ops[k]?=some o:=by rw[he,aO];simp
   intro o' gn aC hc hr j hj
   exact Zw (by rw[he,hl];simp) h ho o' gn aC hc hr j (List.mem_eraseDups.1 hj)
def aee(want:Bool)(x:AV)(A B:Prop):Prop:=
 match x with
 |.bool b=>(match want,b with | true,true=>A | true,false=>B | false,true=>B | false,false=>A)
 |.tup []=>B
 |_=>False
theorem AP{ops:List Oper}{o:Oper}{t:Tm}{A B:Prop}(h:oH ops o t A B):
  (A∧∀(t2:Tm),(∀d∈o.looksAt ops.toArray,t2 d=t d)→∀{A' B':Prop},A'→oH ops o t2 A' B')∨(B∧∀(t2:Tm),(∀d∈o.looksAt ops.toArray,t2 d=t d)→∀{A' B':Prop},B'→oH ops o t2 A' B'):=by
 unfold oH at h
 split at h
 ·rename_i hg
  refine .inl ⟨h,fun t2 _ A' B' ha=>?_⟩
  unfold oH;rw[hg];exact ha
 ·rename_i j want hg
  split at h
  ·rename_i d hd
   have adW:d∈o.looksAt ops.toArray:=by
    unfold Oper.looksAt
    rw[hg]
    simp only[yr,hd,Option.toList_some,bU,bE,or_true]
   have go:∀(t2:Tm),(∀d∈o.looksAt ops.toArray,t2 d=t d)→∀{A' B':Prop},aee want (t d) A' B'→oH ops o t2 A' B':=fun t2 h2 A' B' hx=>by
    unfold oH
    rw[hg]
    dsimp only
    rw[hd]
    dsimp only
    rw[h2 d adW]
    exact hx
   split at h
   ·rename_i b hb
    cases want <;> cases b
    ·exact .inl ⟨h,fun t2 h2 A' B' ha=>go t2 h2 (by rw[hb];exact ha)⟩
    ·exact .inr ⟨h,fun t2 h2 A' B' ha=>go t2 h2 (by rw[hb];exact ha)⟩
    ·exact .inr ⟨h,fun t2 h2 A' B' ha=>go t2 h2 (by rw[hb];exact ha)⟩
    ·exact .inl ⟨h,fun t2 h2 A' B' ha=>go t2 h2 (by rw[hb];exact ha)⟩
   ·rename_i hb
    exact .inr ⟨h,fun t2 h2 A' B' ha=>go t2 h2 (by rw[hb];exact ha)⟩
   ·exact h.elim
  ·exact h.elim
theorem Bo{ops:List Oper}{o:Oper}{t t2:Tm}(h:∀d∈o.looksAt ops.toArray,t2 d=t d):∀x∈o.op.operands.toList,ev t2 x=ev t x:=by
 intro x hx
 cases x with
 |tmp d=>
  refine h d ?_
  unfold Oper.looksAt
  refine gF _ (List.mem_filterMap.2 ⟨_,hx,rfl⟩)
 |_=>rfl
theorem X4{o:Op}(h:sr o=true){ρ:Operand→AV}{σ:Hp}{K:AV→Hp→Prop}:gT P TT o ρ σ K=fM P TT o ρ σ (fun v=>K v σ):=by
 cases o <;> first | rfl | cases h
theorem WW{o:Op}(h:blind o=true){ρ:Operand→AV}{σ:Hp}{K:AV→Hp→Prop}:gT P TT o ρ σ K=fM P TT o ρ σ (fun v=>K v σ):=by
 cases o <;> first | rfl | cases h | (rename_i c;obtain⟨f,args,cJ⟩:=c;cases f <;> first | cases h | (rename_i b;cases b <;> first | rfl | cases h))
theorem Wv{o:Op}(h:sr o=true){ρ:Operand→AV}{σ:Hp}{K:AV→Prop}(c:Nat×List AV)(hd:fM P TT o ρ σ K):fM P TT o ρ (c::σ) K:=by
 have key:∀{i:TI} {a:AV},pD i a σ K→pD i a (c::σ) K:=fun {i a} h=>by
  unfold pD at h ⊢
  cases a <;> first | exact h | (cases h with | mk j cs v h1 h2 go=>exact .mk (j+1) cs v h1 h2 go)
 cases o <;> first | cases h | skip
 unfold fM at hd ⊢
 dsimp only at hd ⊢
 split at hd
 ·exact key hd
 ·exact hd
theorem X2{o:Op}(hn:Fl o=true){ρ:Operand→AV}{σ:Hp}{K K2:AV→Hp→Prop}(hk:∀v c,K v (c::σ)→K2 v (c::σ))(h:gT P TT o ρ σ K):gT P TT o ρ σ K2:=by
 cases o <;> first | cases hn | skip
 all_goals
  unfold gT at h ⊢
  dsimp only at h ⊢
  split at h
  ·exact fun b=>hk _ _ (h b)
  ·exact h
theorem I3{ops:List Oper}{Q:List Nat}{j:Nat}{o:Oper}(ho:ops[j]?=some o){t:Tm}{σ:Hp}{K:Tm→Hp→Prop}(hk:uc ops Q j=false)(h:jR P TT ops (eX j Q) j t σ K):
  ∃v,K (put t o.dst v) σ∧∀(t2:Tm) (σ2:Hp),(∀d∈o.looksAt ops.toArray,t2 d=t d)→(σ2=σ∨(blind o.op=true∧eX j Q=false)∨(sr o.op=true∧eX j Q=false∧∃c,σ2=c::σ))→∀(K2:Tm→Hp→Prop),K2 (put t2 o.dst v) σ2→jR P TT ops (eX j Q) j t2 σ2 K2:=by
 unfold jR at h ⊢
 rw[ho]at h ⊢
 dsimp only at h ⊢
 cases hq:eX j Q with
 |true=>
  rw[hq]at h
  dsimp only at h ⊢
  rcases AP h with ⟨h,g⟩ | ⟨h,g⟩
  ·obtain⟨v,h1,h2⟩:=Qn _ _ _ _ h
   refine⟨v,h1,fun t2 σ2 ht aJ K2 cY=>g t2 ht ?_⟩
   rcases aJ with rfl | ⟨_,h⟩ | ⟨_,h,_⟩
   ·rw[Oc (Bo ht)]
    exact h2 (fun v=>K2 (put t2 o.dst v) σ2) cY
   ·cases h
   ·cases h
  ·refine⟨.tup [],h,fun t2 σ2 ht aJ K2 cY=>g t2 ht ?_⟩
   rcases aJ with rfl | ⟨_,h⟩ | ⟨_,h,_⟩
   ·exact cY
   ·cases h
   ·cases h
 |false=>
  rw[hq]at h
  dsimp only at h ⊢
  have bc:nX o.op=false:=by
   unfold uc at hk
   rw[ho,hq]at hk
   simpa using hk
  have e:∀(ρ:Operand→AV) (σ:Hp) (K:AV→Hp→Prop),gT P TT o.op ρ σ K=fM P TT o.op ρ σ (fun v=>K v σ):=fun ρ σ K=>by
   unfold nX at bc
   simp only[GO,o9]at bc
   rcases bc with h | h
   ·exact WW h
   ·exact X4 h
  rcases AP h with ⟨h,g⟩ | ⟨h,g⟩
  ·rw[e]at h
   obtain⟨v,h1,h2⟩:=EG _ _ _ _ h
   refine⟨v,h1,fun t2 σ2 ht aJ K2 cY=>g t2 ht ?_⟩
   rw[e,HS (Bo ht)]
   rcases aJ with rfl | ⟨hb,_⟩ | ⟨hl,_,c,rfl⟩
   ·exact h2 (fun v=>K2 (put t2 o.dst v) σ2) cY
   ·exact VC hb (h2 (fun v=>K2 (put t2 o.dst v) σ2) cY)
   ·exact Wv hl c (h2 (fun v=>K2 (put t2 o.dst v) (c::σ)) cY)
  ·exact⟨.tup [],h,fun t2 σ2 ht aJ K2 cY=>g t2 ht cY⟩
theorem Ek{ops:List Oper}{q:Bool}{i:Nat}{o:Oper}(ho:ops[i]?=some o){t t2:Tm}{σ:Hp}{K K2:Tm→Hp→Prop}(ht:∀d∈o.looksAt ops.toArray,t2 d=t d)(hk:∀v σ',K (put t o.dst v) σ'→K2 (put t2 o.dst v) σ')(h:jR P TT ops q i t σ K):jR P TT ops q i t2 σ K2:=by
 unfold jR at h ⊢
 rw[ho]at h ⊢
 dsimp only at h ⊢
 cases q with
 |true=>
  dsimp only at h ⊢
  rcases AP h with ⟨h,g⟩ | ⟨h,g⟩
  ·obtain⟨v,h1,h2⟩:=Qn _ _ _ _ h
   refine g t2 ht ?_
   rw[Oc (Bo ht)]
   exact h2 _ (hk _ _ h1)
  ·exact g t2 ht (hk _ _ h)
 |false=>
  dsimp only at h ⊢
  rcases AP h with ⟨h,g⟩ | ⟨h,g⟩
  ·refine g t2 ht ?_
   rw[N9 (Bo ht)]
   exact XR (fun v σ' h=>hk v σ' h) h
  ·exact g t2 ht (hk _ _ h)
theorem X0{ops:List Oper}{i:Nat}{o:Oper}(ho:ops[i]?=some o)(hn:Fl o.op=true){t t2:Tm}{σ:Hp}{K K2:Tm→Hp→Prop}(ht:∀d∈o.looksAt ops.toArray,t2 d=t d)(hk:∀v c,K (put t o.dst v) (c::σ)→K2 (put t2 o.dst v) (c::σ))(hs:∀v,K (put t o.dst v) σ→K2 (put t2 o.dst v) σ)(h:jR P TT ops false i t σ K):jR P TT ops false i t2 σ K2:=by
 unfold jR at h ⊢
 rw[ho]at h ⊢
 dsimp only at h ⊢
 rcases AP h with ⟨h,g⟩ | ⟨h,g⟩
 ·refine g t2 ht ?_
  rw[N9 (Bo ht)]
  exact X2 hn (fun v c h=>hk v c h) h
 ·exact g t2 ht (hs _ h)
theorem ZE{t:Tm}{d d':Option Tmp}{v v':AV}(h:∀x,d=some x→d'≠some x):put (put t d v) d' v'=put (put t d' v') d v:=by
 cases d with
 |none=>rfl
 |some x=>cases d' with
  |none=>rfl
  |some y=>
   have bc:y≠x:=fun e=>h x rfl (by rw[e])
   funext i
   show (match Nat.beq i y with | true=>v' | false=>match Nat.beq i x with | true=>v | false=>t i)=(match Nat.beq i x with | true=>v | false=>match Nat.beq i y with | true=>v' | false=>t i)
   cases h1:Nat.beq i y <;> cases h2:Nat.beq i x <;> first | rfl | exact absurd ((jF h1).symm.trans (jF h2)) bc
theorem Qe{t:Tm}{d:Option Tmp}{v:AV}{x:Tmp}(h:d≠some x):put t d v x=t x:=by
 cases d with
 |none=>rfl
 |some y=>
  show (match Nat.beq x y with | true=>v | false=>t x)=t x
  cases hb:Nat.beq x y with
  |false=>rfl
  |true=>exact absurd (by rw[jF hb]) h
def RR(ops:List Oper)(rows:List (List Nat)):Prop:=∀(k:Nat) (row:List Nat),rows[k]?=some row→B1 ops k row
theorem YH{ops:List Oper}(h0:rb ops=true){aC:List Bool}{i j:Nat}{oi oj:Oper}(mf:i≠j)(hi:ops[i]?=some oi)(hj:ops[j]?=some oj)(Gr:aC.getD i true=false)(Gq:aC.getD j true=false)(dT:te ops aC oi)(K6:te ops aC oj):oi.apart ops.toArray oj=true:=by
 rcases (H8 h0).2 i j oi oj hi hj with e | e | e | e
 ·exact absurd e mf
 ·obtain⟨ed,h1,h2,rfl⟩:=yD e
  have:=dT ed (by simpa using h1) h2
  rw[EN Gq]at this;cases this
 ·obtain⟨ed,h1,h2,rfl⟩:=yD e
  have:=K6 ed (by simpa using h1) h2
  rw[EN Gr]at this;cases this
 ·exact e
theorem X3{ops:List Oper}{k:Nat}(h:B7 ops k=true):∃o,ops[k]?=some o∧Fl o.op=true:=by
 unfold B7 at h
 split at h
 ·rename_i o ho;exact⟨o,ho,h⟩
 ·cases h
theorem Nv{ops:List Oper}{rows:List (List Nat)}{Q:List Nat}{aC:List Bool}{j:Nat}(h:za ops rows Q aC j=true):∃o,ops[j]?=some o∧uc ops Q j=false∧((blind o.op=true∧eX j Q=false)∨∀k,k<ops.length→aC.getD k false=true∨uc ops Q k=false∨eX j ((rows[k]?).getD [])=true∨(sr o.op=true∧eX j Q=false∧B7 ops k=true)):=by
 unfold za at h
 split at h
 ·rename_i o ho
  refine⟨o,ho,?_⟩
  simp only[o9,b9,ke]at h
  rcases h with ⟨h1,h2⟩ | ⟨h1,h2⟩
  ·exact⟨by unfold uc nX;rw[ho];simp[h1],.inl ⟨h1,h2⟩⟩
  ·refine⟨?_,.inr fun k hk=>?_⟩
   ·unfold uc nX;rw[ho]
    rcases h1 with h1 | h1 <;> simp[h1]
   ·have:=fN.1 h2 k (gq.2 hk)
    simp only[o9,b9,ke]at this
    rcases this with ((h | h) | h) | ⟨⟨h3,h4⟩,h5⟩
    ·exact .inl h
    ·exact .inr (.inl h)
    ·exact .inr (.inr (.inl h))
    ·exact .inr (.inr (.inr ⟨h3,h4,h5⟩))
 ·cases h
theorem VE{ops:List Oper}{rows:List (List Nat)}{Q:List Nat}{K:Tm→Hp→Prop}(h0:rb ops=true)(hR:RR ops rows){j:Nat}:∀(n:Nat) (aC:List Bool) (t:Tm) (σ:Hp),y4 ops aC→j∈iT ops aC→za ops rows Q aC j=true→
  jR P TT ops (eX j Q) j t σ (fun t' σ'=>pL P TT ops Q n (aC.set j true) t' σ' K)→pL P TT ops Q (n+1) aC t σ K:=by
 intro n
 induction n with
 |zero=>
  intro aC t σ hc hj hf h
  obtain⟨oj,ho,he,_⟩:=Nv hf
  obtain⟨v,h1,_⟩:=I3 ho he h
  exact h1.elim
 |succ n ih=>
  intro aC t σ hc hj hf h
  obtain⟨oj,ho,he,abA⟩:=Nv hf
  obtain⟨Gq,oj',gn,K6⟩:=vd.1 hj
  rw[ho]at gn;cases gn
  obtain⟨v,h1,h2⟩:=I3 ho he h
  rw[vk]
  refine⟨fun hn=>by rw[hn]at hj;(cases hj),fun i hi=>?_⟩
  by_cases mf:i=j
  ·subst mf
   exact h2 t σ (fun _ _=>rfl) (.inl rfl) _ h1
  obtain⟨Gr,oi,kc,dT⟩:=vd.1 hi
  have uK:=Oper.apart_spec (YH h0 mf kc ho Gr Gq dT K6)
  rw[vk]at h1
  have qG:=h1.2 i (N0 hi mf)
  have zm:∀d∈oi.looksAt ops.toArray,t d=put t oj.dst v d:=fun d hd=>(Qe fun e=>uK.2.2 d e hd).symm
  have J8:∀u,put (put t oj.dst v) oi.dst u=put (put t oi.dst u) oj.dst v:=fun u=>ZE fun x hx hi=>uK.2.1 x hi hx
  have kM:(aC.set j true).set i true=(aC.set i true).set j true:=List.set_comm _ _ (Ne.symm mf)
  have C3:=hc.set kc dT
  have qR:=N0 hj (Ne.symm mf)
  have hfi:za ops rows Q (aC.set i true) j=true:=by
   unfold za at hf ⊢
   rw[ho]at hf ⊢
   simp only[o9,b9,ke]at hf ⊢
   refine hf.imp id fun h=>⟨h.1,fN.2 fun k hk=>?_⟩
   have:=fN.1 h.2 k hk
   simp only[o9,ke]at this ⊢
   exact this.imp (fun h=>h.imp (fun h=>h.imp Mv id) id) id
  have hlj:∀u,∀d∈oj.looksAt ops.toArray,put t oi.dst u d=t d:=fun u d hd=>Qe fun e=>uK.1 d e hd
  have fin:∀u σ',(σ'=σ∨(blind oj.op=true∧eX j Q=false)∨(sr oj.op=true∧eX j Q=false∧∃c,σ'=c::σ))→pL P TT ops Q n ((aC.set j true).set i true) (put (put t oj.dst v) oi.dst u) σ' K→pL P TT ops Q (n+1) (aC.set i true) (put t oi.dst u) σ' K:=fun u σ' aJ hh=>by
   refine ih (aC.set i true) (put t oi.dst u) σ' C3 qR hfi ?_
   refine h2 _ σ' (hlj u) aJ _ ?_
   rw[kM,J8]at hh
   exact hh
  cases Ab:uc ops Q i with
  |true=>
   have hb:(blind oj.op=true∧eX j Q=false)∨(sr oj.op=true∧eX j Q=false∧B7 ops i=true):=by
    rcases abA with h | h
    ·exact .inl h
    ·have ab:i<ops.length:=(cR.1 kc).1
     rcases h i ab with h | h | h | h
     ·rw[EN Gr]at h;cases h
     ·rw[Ab]at h;cases h
     rotate_left
     ·exact .inr h
     ·cases hq:rows[i]? with
      |none=>rw[hq]at h;cases h
      |some row=>
       rw[hq]at h
       have:=hR i row hq oi kc aC hc dT j (Pq.1 h)
       rw[EN Gq]at this;cases this
   rcases hb with hb | ⟨hl,hq,fK⟩
   ·exact Ek kc zm (fun u σ' hh=>fin u σ' (.inr (.inl hb)) hh) qG
   ·obtain⟨oi',SX,hn⟩:=X3 fK
    rw[kc]at SX;cases SX
    have hqi:eX i Q=false:=by
     unfold uc at Ab
     rw[kc]at Ab
     simp only[b9,ke]at Ab
     exact Ab.2
    rw[hqi]at qG ⊢
    exact X0 kc hn zm (fun u c hh=>fin u (c::σ) (.inr (.inr ⟨hl,hq,c,rfl⟩)) hh) (fun u hh=>fin u σ (.inl rfl) hh) qG
  |false=>
   obtain⟨u,k1,k2⟩:=I3 kc Ab qG
   exact k2 t σ zm (.inl rfl) _ (fin u σ (.inl rfl) k1)
theorem Zt{ops:List Oper}{rows:List (List Nat)}{Q:List Nat}{K:Tm→Hp→Prop}(h0:rb ops=true)(hR:RR ops rows):∀(s:pg) (n:Nat) (mX:List Nat) (aC:List Bool) (t:Tm) (σ:Hp),lf ops rows Q s n mX aC=true→y4 ops aC→tU P TT ops s t σ K→
  (mX=[]→pL P TT ops Q n aC t σ K)∧((∀i∈mX,i∈iT ops aC)→∀i∈mX,jR P TT ops (eX i Q) i t σ fun t' σ'=>pL P TT ops Q n (aC.set i true) t' σ' K):=by
 intro s
 induction s with
 |stop=>
  intro n mX aC t σ hs hc h
  unfold lf at hs
  split at hs
  ·rename_i n _ _ _ hr
   refine⟨fun _=>?_,fun _ i hi=>by cases hi⟩
   rw[vk,hr]
   exact⟨fun _=>h,fun i hi=>by cases hi⟩
  ·cases hs
 |one j q s ih=>
  intro n mX aC t σ hs hc h
  have step:∀m,eX j Q=q→j∈iT ops aC→lf ops rows Q s m [] (aC.set j true)=true→jR P TT ops (eX j Q) j t σ fun t' σ'=>pL P TT ops Q m (aC.set j true) t' σ' K:=fun m hq hj hs=>by
   obtain⟨_,o,ho,hr⟩:=vd.1 hj
   rw[hq]
   have h:jR P TT ops q j t σ fun t' σ'=>tU P TT ops s t' σ' K:=h
   exact Ek ho (fun _ _=>rfl) (fun v σ' hh=>(ih m [] _ _ σ' hs (hc.set ho hr) hh).1 rfl) h
  unfold lf at hs
  split at hs
  ·rename_i n
   simp only[b9,o9,beq_iff_eq]at hs
   obtain⟨⟨⟨h1,h2⟩,h3⟩,h4⟩:=hs
   have hj:=Pq.1 h2
   refine⟨fun _=>?_,fun _ i hi=>by cases hi⟩
   have ao:=step n h1 hj h4
   rcases h3 with h3 | h3
   ·exact VE h0 hR n aC t σ hc hj h3 ao
   ·split at h3
    ·rename_i i hr
     rw[vk,hr]
     refine⟨fun h=>(by cases h),fun k hk=>?_⟩
     obtain rfl:=bE.1 hk
     obtain rfl:=jF h3
     exact ao
    ·cases h3
  ·rename_i i
   simp only[b9,beq_iff_eq]at hs
   obtain⟨⟨h1,h2⟩,h4⟩:=hs
   refine⟨fun h=>(by cases h),fun hp k hk=>?_⟩
   obtain rfl:=jF h2
   obtain rfl:=bE.1 hk
   exact step _ h1 (hp k hk) h4
  ·cases hs
 |alt j s r ih jS=>
  intro n mX aC t σ hs hc h
  obtain⟨ha,hb⟩:jR P TT ops false j t σ (fun t' σ'=>tU P TT ops s t' σ' K)∧tU P TT ops r t σ K:=h
  have step:∀m,eX j Q=false→j∈iT ops aC→lf ops rows Q s m [] (aC.set j true)=true→jR P TT ops (eX j Q) j t σ fun t' σ'=>pL P TT ops Q m (aC.set j true) t' σ' K:=fun m hq hj hs=>by
   obtain⟨_,o,ho,hr⟩:=vd.1 hj
   rw[hq]
   exact Ek ho (fun _ _=>rfl) (fun v σ' hh=>(ih m [] _ _ σ' hs (hc.set ho hr) hh).1 rfl) ha
  unfold lf at hs
  split at hs
  ·rename_i n
   split at hs
   ·rename_i i i2 l hr
    simp only[b9,ke]at hs
    obtain⟨⟨⟨h1,h2⟩,h3⟩,h4⟩:=hs
    obtain rfl:=jF h1
    refine⟨fun _=>?_,fun _ i hi=>by cases hi⟩
    rw[vk,hr]
    refine⟨fun h=>(by cases h),fun k hk=>?_⟩
    rcases ei.1 hk with rfl | hk
    ·exact step n h2 (by rw[hr];exact cF ..) h3
    ·exact (jS n (i2::l) aC t σ h4 hc hb).2 (fun i hi=>by rw[hr];exact dy _ hi) k hk
   ·cases hs
  ·rename_i i i2 l
   simp only[b9,ke]at hs
   obtain⟨⟨⟨h1,h2⟩,h3⟩,h4⟩:=hs
   obtain rfl:=jF h1
   refine⟨fun h=>(by cases h),fun hp k hk=>?_⟩
   rcases ei.1 hk with rfl | hk
   ·exact step n h2 (hp _ (cF ..)) h3
   ·exact (jS n (i2::l) aC t σ h4 hc hb).2 (fun i hi=>hp i (dy _ hi)) k hk
  ·cases hs
 |Ct j s r ih jS=>
  intro n mX aC t σ hs hc h
  obtain⟨ha,hb⟩:jR P TT ops true j t σ (fun t' σ'=>tU P TT ops s t' σ' K)∧tU P TT ops r t σ K:=h
  have step:∀m,eX j Q=true→j∈iT ops aC→lf ops rows Q s m [] (aC.set j true)=true→jR P TT ops (eX j Q) j t σ fun t' σ'=>pL P TT ops Q m (aC.set j true) t' σ' K:=fun m hq hj hs=>by
   obtain⟨_,o,ho,hr⟩:=vd.1 hj
   rw[hq]
   exact Ek ho (fun _ _=>rfl) (fun v σ' hh=>(ih m [] _ _ σ' hs (hc.set ho hr) hh).1 rfl) ha
  unfold lf at hs
  split at hs
  ·rename_i n
   split at hs
   ·rename_i i i2 l hr
    simp only[b9]at hs
    obtain⟨⟨⟨h1,h2⟩,h3⟩,h4⟩:=hs
    obtain rfl:=jF h1
    refine⟨fun _=>?_,fun _ i hi=>by cases hi⟩
    rw[vk,hr]
    refine⟨fun h=>(by cases h),fun k hk=>?_⟩
    rcases ei.1 hk with rfl | hk
    ·exact step n h2 (by rw[hr];exact cF ..) h3
    ·exact (jS n (i2::l) aC t σ h4 hc hb).2 (fun i hi=>by rw[hr];exact dy _ hi) k hk
   ·cases hs
  ·rename_i i i2 l
   simp only[b9]at hs
   obtain⟨⟨⟨h1,h2⟩,h3⟩,h4⟩:=hs
   obtain rfl:=jF h1
   refine⟨fun h=>(by cases h),fun hp k hk=>?_⟩
   rcases ei.1 hk with rfl | hk
   ·exact step n h2 (hp _ (cF ..)) h3
   ·exact (jS n (i2::l) aC t σ h4 hc hb).2 (fun i hi=>hp i (dy _ hi)) k hk
  ·cases hs
theorem VB{o:Oper}{ρ:Operand→AV}{σ:Hp}{K:AV→Prop}(ok:dH P TT)(h:um P TT o.op ρ σ K)(a:Act)(F:Nat→Prop)(w:World)(hx:∀x∈o.op.operands.toList,aF F w (ρ x) (a.eval x))(aJ:bC F w σ)(next:Act→World→Prop)(Q:Exit→Act→World→Prop)(hn:∀v u F' w',bL F w F' w'→bC F' w' σ→aF F' w' v u→K v→next (a.put o.dst u) w'):wq P o a w next Q:=by
 obtain⟨v,h1,h2⟩:=Ob ok h
 exact h2 a F w hx aJ next Q fun u F' w' k1 k2 k3=>hn v u F' w' k1 k2 k3 h1
theorem aab(ok:dH P TT){B n:Nat}{ops:List Oper}{Q:List Nat}(hd:∀o∈ops,∀d,o.dst=some d→d<n){K:Tm→Hp→Prop}{Q':Exit→Act→World→Prop}{F0:Nat→Prop}{w0:World}(hq:∀t' σ' F' w' a',bL F0 w0 F' w'→dw B n F' w' t' σ' a'→K t' σ'→Q' .normal a' w'):
  ∀(m:Nat) (aC:List Bool) (t:Tm) (σ:Hp) (F:Nat→Prop) (w:World) (a:Act),left aC.toArray≤m→aC.length=ops.length→pL P TT ops Q (m+1) aC t σ K→dw B n F w t σ a→bL F0 w0 F w→vH P .any ops.toArray (vJ Q') m aC.toArray a w:=by
 intro m
 induction m with
 |zero=>
  intro aC t σ F w a hl hlen h hs ao
  have hr:iT ops aC=[]:=by
   rw[← q7,G4]
   intro j hj
   have:=(mem_ready.1 hj).1
   rw[HY (by omega)]at this
   cases this
  rw[vk]at h
  exact⟨by rw[q7];exact hr,hq t σ F w a ao hs (h.1 hr)⟩
 |succ m ih=>
  intro aC t σ F w a hl hlen h hs ao
  rw[vk]at h
  refine⟨fun hr=>hq t σ F w a ao hs (h.1 (by rw[← q7];exact hr)),fun j hj=>?_⟩
  rw[q7]at hj
  have h:=h.2 j hj
  have guard:∀{o:Oper} {b:Bool},tD ops o t b→Region.wanted o (yielded ops.toArray a.tmps)=b:=fun hg=>D3 hg fun d _=>⟨F,w,hs.tm d⟩
  obtain⟨fR,o,ho,_⟩:=vd.1 hj
  have kM:(aC.set j true).toArray=aC.toArray.setIfInBounds j true:=by simp
  have adI:aC.toArray.getD j true=false:=by
   rw[jG,yr,← bO];exact fR
  have ab:left (aC.toArray.setIfInBounds j true)≤m:=by have:=Bb adI;omega
  have pK:∀(x:AV) (u:Value) (σ':Hp) (F':Nat→Prop) (w':World),bL F w F' w'→bC F' w' σ'→aF F' w' x u→pL P TT ops Q (m+1) (aC.set j true) (put t o.dst x) σ' K→vH P .any ops.toArray (vJ Q') m (aC.toArray.setIfInBounds j true) (a.put o.dst u) w':=fun x u σ' F' w' q1 q2 q3 hk=>by
   rw[← kM]
   exact ih _ _ σ' F' w' _ (by rw[kM];exact ab) (by simpa using hlen) hk (hs.put q1 q2 q3 (hd o (List.mem_of_getElem? ho))) (ao.trans q1)
  unfold jR at h
  rw[ho]at h
  dsimp only at h
  unfold nP
  rw[show ops.toArray[j]?=some o by simpa using ho]
  cases hq':eX j Q with
  |true=>
   rw[hq']at h
   dsimp only at h
   rcases xe h with ⟨hg,h⟩ | ⟨hg,h⟩
   ·simp only[guard hg,if_true]
    exact (VB ok h a F w (fun x _=>hs.tm.eval x) hs.hp _ _ fun v u F' w' k1 k2 k3 k4=>pK v u σ F' w' k1 k2 k3 k4)
   ·simp only[guard hg,uR,if_false]
    exact pK (.tup []) undef σ F w (.refl _ _) hs.hp xb h
  |false=>
   rw[hq']at h
   dsimp only at h
   rcases xe h with ⟨hg,h⟩ | ⟨hg,h⟩
   ·simp only[guard hg,if_true]
    refine (HR ok h a F w (fun x _=>hs.tm.eval x) hs.hp _ _ ?_)
    intro v av σ' F' w' q1 q2 q3 q4
    exact pK av v σ' F' w' q1 q2 q3 q4
   ·simp only[guard hg,uR,if_false]
    exact pK (.tup []) undef σ F w (.refl _ _) hs.hp xb h
theorem MO(ok:dH P TT)(hm:P.follows .mixedOrders=true){r:Option Nat}{B n id:Nat}{ops:Array Oper}{t:Tm}{σ:Hp}{K:Tm→Hp→Prop}{F:Nat→Prop}{w:World}{a:Act}{Q:Exit→Act→World→Prop}{Q0:List Nat}{s:pg}(h0:E0 ops.toList Q0 s=true)(h:tU P TT ops.toList s t σ K)(hd:∀o∈ops.toList,∀d,o.dst=some d→d<n)(ck:∀o∈ops.toList,∀c,o.op≠.defer c)(hs:dw B n F w t σ a)
  (hq:∀t' σ' F' w' a',bL F w F' w'→dw B n F' w' t' σ' a'→K t' σ'→Q .normal a' w'):(Code.region id ops true).wpIn (FW r) 0 P Q a w:=by
 have oN:bL F w F { w with drawn:=w.drawn+1 }:=w9 hs.hp.low rfl rfl rfl (bJ _) (fun _ _=>rfl)
 unfold E0 at h0
 simp only[b9]at h0
 obtain⟨⟨h1,h2⟩,h3⟩:=h0
 have bQ:=(Zt (K:=K) h1 (OW ops.toList [] [] rfl rfl (fun k row h=>by cases h)) s _ [] _ t σ h3 (fun j o ho hl=>by
  rw[bO,wW]at hl
  split at hl <;> cases hl) h).1 rfl
 refine wpIn_mono (Hy hm ck ?_) Pn
 have key:=aab (P:=P) (Q':=Q) ok hd (F0:=F) (w0:=w) hq ops.toList.length (List.replicate ops.toList.length false) t σ F { w with drawn:=w.drawn+1 } a (by
   unfold left
   refine Nat.le_trans (List.length_filter_le _ _) (by simp)) (by simp) bQ ⟨hs.tm.mono oN,hs.hp.same oN (fun _ _=>rfl),hs.size,hs.defers.mono oN⟩ oN
 simpa using key
end
end Go.Proofs.YtnikdflhefijbaaGreat
