import Derived.OrdersHeld
import Derived.Test.YtnikdflhefijbaaGreatBn3
namespace Go.Proofs.YtnikdflhefijbaaGreat
open Go.RowKit
section
variable {P:Program} {TT:TypeId→Option TI}
def H0(P:Program)(ops:List Oper)(σ:Hp)(o:Oper)(t:Tm)(v:AV):Prop:=(uV ops o t true∧M4 P o (ev t) σ v)∨(uV ops o t false∧v=.tup [])
def pK:Tm→List Oper→List AV→Nat→Tm
 |t,o::l,v::vs,i+1=>pK (put t o.dst v) l vs i
 |t,_,_,_=>t
theorem SJ(ok:dH P TT){ops:List Oper}{σ:Hp}{K:Tm→Prop}:∀(l:List Oper) (t:Tm),Ix P TT ops l t σ K→∃cq:List AV,cq.length=l.length∧(∀(i:Nat) (o:Oper) (v:AV),l[i]?=some o→cq[i]?=some v→H0 P ops σ o (pK t l cq i) v)∧K (pK t l cq l.length)
 | [],t,h=>⟨[],rfl,fun i o v h=>by simp at h,h⟩
 |o::l,t,h=>by
  have go:∀v,H0 P ops σ o t v→Ix P TT ops l (put t o.dst v) σ K→∃cq:List AV,cq.length=(o::l).length∧(∀(i:Nat) (o':Oper) (v:AV),(o::l)[i]?=some o'→cq[i]?=some v→H0 P ops σ o' (pK t (o::l) cq i) v)∧K (pK t (o::l) cq (o::l).length):=by
   intro v hv hk
   obtain⟨cq,h1,h2,h3⟩:=SJ ok l _ hk
   refine⟨v::cq,by simp[h1],fun i o' v' ho oS=>?_,h3⟩
   cases i with
   |zero=>simp at ho oS;subst ho;subst oS;exact hv
   |succ i=>exact h2 i o' v' (by simpa using ho) (by simpa using oS)
  rcases yE h with ⟨hg,h⟩ | ⟨hg,h⟩
  ·obtain⟨v,hk,hl⟩:=RC ok h
   exact go v (.inl ⟨hg,hl⟩) hk
  ·exact go (.tup []) (.inr ⟨hg,rfl⟩) h
theorem Dk{x:Tmp}:∀(l:List Oper) (cq:List AV) (t:Tm) (i:Nat),(∀j,j<i→∀o,l[j]?=some o→o.dst≠some x)→pK t l cq i x=t x
 | [],_,_,i,_=>by cases i <;> rfl
 |_::_,[],_,i,_=>by cases i <;> rfl
 |o::l,v::cq,t,0,_=>rfl
 |o::l,v::cq,t,i+1,h=>by
  have h0:=h 0 (by omega) o rfl
  rw[pK,Dk l cq _ i (fun j hj o' ho=>h (j+1) (by omega) o' (by simpa using ho))]
  cases hd:o.dst with
  |none=>rfl
  |some d=>
   have:Nat.beq x d=false:=by
    cases hb:Nat.beq x d with
    |false=>rfl
    |true=>exact absurd (by rw[hd,jF hb]) h0
   show (match Nat.beq x d with | true=>v | false=>t x)=t x
   rw[this]
theorem L8{x:Tmp}{v:AV}{p:Oper}:∀(l:List Oper) (cq:List AV) (t:Tm) (i j:Nat),j<i→l[j]?=some p→p.dst=some x→(∀k,k<i→k≠j→∀o,l[k]?=some o→o.dst≠some x)→cq[j]?=some v→pK t l cq i x=v
 | [],_,_,_,_,_,hp,_,_,_=>by simp at hp
 |_::_,[],_,_,_,_,_,_,_,hv=>by simp at hv
 |_::_,_::_,_,0,_,hj,_,_,_,_=>by omega
 |o::l,u::cq,t,i+1,0,_,hp,hx,hn,hv=>by
  simp at hp hv
  subst hp;subst hv
  rw[pK,Dk l cq _ i (fun k hk o' ho=>hn (k+1) (by omega) (by omega) o' (by simpa using ho))]
  simp[put,hx]
 |o::l,u::cq,t,i+1,j+1,hj,hp,hx,hn,hv=>
  L8 l cq (put t o.dst u) i j (by omega) (by simpa using hp) hx (fun k hk aQ o' ho=>hn (k+1) (by omega) (by omega) o' (by simpa using ho)) (by simpa using hv)
structure PT(ops:List Oper):Prop where
 back:∀(i:Nat) (o:Oper),ops[i]?=some o→∀e∈o.after,Region.binds .any e=true→e.on<i
 IM:∀(i j:Nat) (o p:Oper) (d:Tmp),ops[i]?=some o→ops[j]?=some p→p.dst=some d→o.dst=some d→i=j
 look:∀(i j:Nat) (o p:Oper) (d:Tmp),ops[i]?=some o→ops[j]?=some p→p.dst=some d→d∈yV ops o→i=j∨(j<i∧qo o j=true)∨(i<j∧qo p i=true)
theorem afE{ops:List Oper}(h:Hf ops=true):PT ops:=by
 unfold Hf at h
 have hz:∀(i:Nat) (o:Oper),ops[i]?=some o→(o,i)∈ops.zipIdx:=fun i o ho=>by
  rw[Pu];exact ho
 have cD:=fun (i:Nat) (o:Oper) (ho:ops[i]?=some o)=>fI.1 h (o,i) (hz i o ho)
 refine⟨fun i o ho e he hb=>?_,fun i j o p d ho hp kH jA=>?_,fun i j o p d ho hp kH hd=>?_⟩
 ·have h1:=cD i o ho
  simp only[bL]at h1
  have h2:=List.all_eq_true.1 h1.1 e (by simpa using he)
  simp only[hb,FB,mY]at h2
  exact cR h2
 ·have h1:=cD i o ho
  simp only[bL]at h1
  have h2:=fI.1 h1.2 (p,j) (hz j p hp)
  simp only[kH,jA,bL,o6,yb,FB]at h2
  rcases h2.1 with h3 | h3
  ·exact jF h3
  ·cases h3
 ·have h1:=cD i o ho
  simp only[bL]at h1
  have h2:=fI.1 h1.2 (p,j) (hz j p hp)
  simp only[kH,bL,o6]at h2
  rcases h2.2 with ((h3 | h3) | h3) | h3
  ·exfalso
   have:(yV ops o).any (Nat.beq d)=true:=lA.2 ⟨d,hd,yb d⟩
   rw[this]at h3
   cases h3
  ·exact .inl (jF h3)
  ·exact .inr (.inl ⟨cR h3.1,h3.2⟩)
  ·exact .inr (.inr ⟨cR h3.1,h3.2⟩)
theorem An{o:Oper}{j:Nat}(h:qo o j=true):∃e∈o.after,Region.binds .any e=true∧e.on=j:=by
 obtain⟨e,h1,h2⟩:=lA.1 h
 simp only[bL]at h2
 exact⟨e,by simpa using h1,h2.1,Nat.eq_of_beq_eq_true h2.2⟩
def left(ax:Array Bool):Nat:=(ax.toList.filter (fun b=> !b)).length
theorem RG:∀(l:List Bool) (i:Nat),l[i]?=some false→((l.set i true).filter (fun b=> !b)).length+1=(l.filter (fun b=> !b)).length
 | [],i,h=>by simp at h
 |b::l,0,h=>by simp at h;subst h;simp
 |b::l,i+1,h=>by
  have:=RG l i (by simpa using h)
  cases b <;> simp at this ⊢ <;> omega
theorem C6{ax:Array Bool}{i:Nat}(h:ax.getD i true=false):left (ax.setIfInBounds i true)+1=left ax:=by
 unfold left
 rw[Array.toList_setIfInBounds]
 refine RG _ i ?_
 rw[Cn]
 rw[gW]at h
 cases hq:ax[i]? with
 |none=>rw[hq]at h;simp at h
 |some b=>rw[hq]at h;simp at h;rw[h]
theorem Li{ax:Array Bool}(h:left ax=0){i:Nat}:ax.getD i true=true:=by
 cases hb:ax.getD i true with
 |true=>rfl
 |false=>have:=C6 hb;omega
structure I2(P:Program)(ops:List Oper)(t0:Tm)(cq:List AV)(σ:Hp)(B n:Nat)(ax:Array Bool)(F:Nat→Prop)(w:World)(a:Act):Prop where
 hp:bf F w σ
 size:n≤a.tmps.size
 defers:Marks B F w a.defers
 Na:ax.size=ops.length
 closed:∀(j:Nat) (o:Oper),ops[j]?=some o→ax.getD j false=true→∀e∈o.after,Region.binds .any e=true→ax.getD e.on false=true
 Of:∀(j:Nat) (o:Oper) (v:AV) (d:Tmp),ops[j]?=some o→o.dst=some d→cq[j]?=some v→ax.getD j false=true→aA F w v (a.tmps.getD d undef)
 out:∀d,(∀(j:Nat) (o:Oper),ops[j]?=some o→o.dst=some d→ax.getD j false=false)→aA F w (t0 d) (a.tmps.getD d undef)
theorem Cw{ax:Array Bool}{i:Nat}(h:ax.getD i true=false):ax.getD i false=false:=by
 rw[gW]at h ⊢
 cases hq:ax[i]? with
 |none=>rw[hq]at h;simp at h
 |some b=>rw[hq]at h;simpa using h
theorem XL{ax:Array Bool}{i:Nat}(hi:i<ax.size)(h:ax.getD i true=true):ax.getD i false=true:=by
 rw[gW]at h ⊢
 rw[qe hi]at h ⊢
 simpa using h
section
variable {ops:List Oper} {t0:Tm} {cq:List AV} {σ:Hp} {B n:Nat} {ax:Array Bool} {F:Nat→Prop} {w:World} {a:Act}
theorem I2.look(hJ:I2 P ops t0 cq σ B n ax F w a)(ho:PT ops)(Jh:cq.length=ops.length){i:Nat}{o:Oper}(hi:ops[i]?=some o)(fq:ax.getD i true=false)(qT:∀e∈o.after,Region.binds .any e=true→ax.getD e.on false=true){d:Tmp}(hd:d∈yV ops o):
  aA F w (pK t0 ops cq i d) (a.tmps.getD d undef):=by
 by_cases hw:∃(j:Nat) (p:Oper),ops[j]?=some p∧p.dst=some d
 ·obtain⟨j,p,hp,kH⟩:=hw
  have uniq:∀k,k≠j→∀o',ops[k]?=some o'→o'.dst≠some d:=fun k hk o' gp jA=>hk (ho.IM k j o' p d gp hp kH jA)
  have out:ax.getD j false=false→(i≤j)→aA F w (pK t0 ops cq i d) (a.tmps.getD d undef):=fun hl jB=>by
   rw[Dk ops cq t0 i (fun k hk o' gp=>uniq k (by omega) o' gp)]
   exact hJ.out d fun k o' gp jA=>by rw[ho.IM k j o' p d gp hp kH jA];exact hl
  rcases ho.look i j o p d hi hp kH hd with e | ⟨h1,h2⟩ | ⟨h1,h2⟩
  ·subst e
   exact out (Cw fq) (aR _)
  ·obtain⟨e,he,hb,rfl⟩:=An h2
   have hl:=qT e he hb
   have ij:e.on<ops.length:=(ck.1 hp).1
   have hv:cq[e.on]?=some cq[e.on]:=bj (by omega)
   rw[L8 ops cq t0 i e.on h1 hp kH (fun k _ aQ=>uniq k aQ) hv]
   exact hJ.Of e.on p _ d hp kH hv hl
  ·obtain⟨e,he,hb,rfl⟩:=An h2
   refine out ?_ (by omega)
   cases hl:ax.getD j false with
   |false=>rfl
   |true=>
    have:=hJ.closed j p hp hl e he hb
    rw[Cw fq]at this
    cases this
 ·rw[Dk ops cq t0 i (fun k _ o' gp jA=>hw ⟨k,o',gp,jA⟩)]
  exact hJ.out d fun j o' gp jA=>absurd ⟨j,o',gp,jA⟩ hw
theorem ZZ(ho:PT ops)(Jh:cq.length=ops.length)(hd:∀o∈ops,∀d,o.dst=some d→d<n)(hf:∀(i:Nat) (o:Oper) (v:AV),ops[i]?=some o→cq[i]?=some v→H0 P ops σ o (pK t0 ops cq i) v){Q:Exit→Act→World→Prop}{F0:Nat→Prop}{w0:World}
  (hq:∀F' w' a',bB F0 w0 F' w'→dw B n F' w' (pK t0 ops cq ops.length) σ a'→Q .normal a' w') :
  ∀(fuel:Nat) (ax:Array Bool) (F:Nat→Prop) (w:World) (a:Act),left ax≤fuel→I2 P ops t0 cq σ B n ax F w a→bB F0 w0 F w→xt P .any ops.toArray Q fuel ax a w:=by
 have fin:∀(ax:Array Bool) (F:Nat→Prop) (w:World) (a:Act),I2 P ops t0 cq σ B n ax F w a→bB F0 w0 F w→Region.ready .any ops.toArray ax=[]→Q .normal a w:=by
  intro ax F w a hJ an hr
  have all:∀j,j<ops.length→ax.getD j false=true:=by
   intro j
   induction j using Nat.strongRecOn with
   |_ j ih=>
    intro hj
    cases hl:ax.getD j true with
    |true=>exact XL (by rw[hJ.Na];exact hj) hl
    |false=>
     exfalso
     have hm:j∈Region.ready .any ops.toArray ax:=by
      rw[mem_ready]
      refine⟨hl,ops[j],by simp[hj],fun e he hb=>?_⟩
      have:=ho.back j ops[j] (by simp[hj]) e he hb
      exact ih _ this (by omega)
     rw[hr]at hm
     cases hm
  refine hq F w a an ⟨fun d=>?_,hJ.hp,hJ.size,hJ.defers⟩
  by_cases hw:∃(j:Nat) (p:Oper),ops[j]?=some p∧p.dst=some d
  ·obtain⟨j,p,hp,kH⟩:=hw
   have ij:j<ops.length:=(ck.1 hp).1
   have hv:cq[j]?=some cq[j]:=bj (by omega)
   rw[L8 ops cq t0 ops.length j ij hp kH (fun k _ aQ o' gp jA=>aQ (ho.IM k j o' p d gp hp kH jA)) hv]
   exact hJ.Of j p _ d hp kH hv (all j ij)
  ·rw[Dk ops cq t0 ops.length (fun k _ o' gp jA=>hw ⟨k,o',gp,jA⟩)]
   exact hJ.out d fun j o' gp jA=>absurd ⟨j,o',gp,jA⟩ hw
 intro fuel
 induction fuel with
 |zero=>
  intro ax F w a hl hJ an
  have hr:Region.ready .any ops.toArray ax=[]:=by
   rw[Ki]
   intro j hj
   have:=(mem_ready.1 hj).1
   rw[Li (by omega)]at this
   cases this
  exact⟨hr,fin ax F w a hJ an hr⟩
 |succ fuel ih=>
  intro ax F w a hl hJ an
  refine⟨fin ax F w a hJ an,fun i hi=>?_⟩
  obtain⟨fq,o,kc,qT⟩:=mem_ready.1 hi
  have kc:ops[i]?=some o:=by simpa using kc
  have sZ:i<ops.length:=(ck.1 kc).1
  have hvi:cq[i]?=some cq[i]:=bj (by omega)
  have Bf:=fun {d:Tmp} (hd:d∈yV ops o)=>hJ.look ho Jh kc fq qT hd
  have V8:∀{b:Bool},uV ops o (pK t0 ops cq i) b→Region.wanted o (yielded ops.toArray a.tmps)=b:=fun hg=>Gt hg fun d ⟨j,want,h1,h2⟩=>⟨F,w,Bf (d:=d) (by unfold yV;rw[h1];simp[h2])⟩
  have next:∀(F':Nat→Prop) (w':World) (u:Value),bB F w F' w'→bf F' w' σ→aA F' w' cq[i] u→xt P .any ops.toArray Q fuel (ax.setIfInBounds i true) (a.put o.dst u) w':=by
   intro F' w' u h1 h2 h3
   have aQ:∀j,j≠i→(ax.setIfInBounds i true).getD j false=ax.getD j false:=fun j hj=>getD_set_ne false (Ne.symm hj)
   have H8:(ax.setIfInBounds i true).getD i false=true:=by simp[Array.getD,hJ.Na,sZ]
   refine ih _ F' w' _ (by have:=C6 fq;omega) ⟨h2,by rw[SE];exact hJ.size,by rw[T9];exact hJ.defers.mono h1,by simp[hJ.Na],fun j p hp hl e he hb=>?_,fun j p v d hp kH hv hl=>?_,fun d hn=>?_⟩ (an.trans h1)
   ·refine getD_set_true ?_
    by_cases hj:j=i
    ·subst hj
     rw[kc]at hp
     cases hp
     exact qT e he hb
    ·rw[aQ j hj]at hl
     exact hJ.closed j p hp hl e he hb
   ·by_cases hj:j=i
    ·subst hj
     rw[kc]at hp
     cases hp
     rw[hvi]at hv
     cases hv
     have eF:d<a.tmps.size:=sg (hd o (cu kc) d kH) hJ.size
     rw[kH]
     simpa [Act.put,Array.getD,eF]using h3
    ·rw[aQ j hj]at hl
     have h4:=(hJ.Of j p v d hp kH hv hl).mono h1
     have cf:o.dst≠some d:=fun jA=>hj (ho.IM j i p o d hp kc jA kH)
     cases jA:o.dst with
     |none=>exact h4
     |some d'=>
      have wm:d'≠d:=fun e=>cf (by rw[jA,e])
      show aA F' w' v ((a.tmps.setIfInBounds d' u).getD d undef)
      rw[gW]at h4 ⊢
      rw[Kj wm]
      exact h4
   ·have cf:o.dst≠some d:=fun jA=>by
     have:=hn i o kc jA
     rw[H8]at this
     cases this
    have h4:=(hJ.out d fun j p hp kH=>by
     by_cases hj:j=i
     ·subst hj;rw[kc]at hp;cases hp;exact absurd kH cf
     ·rw[← aQ j hj];exact hn j p hp kH).mono h1
    cases jA:o.dst with
    |none=>exact h4
    |some d'=>
     have wm:d'≠d:=fun e=>cf (by rw[jA,e])
     show aA F' w' (t0 d) ((a.tmps.setIfInBounds d' u).getD d undef)
     rw[gW]at h4 ⊢
     rw[Kj wm]
     exact h4
  unfold ou
  rw[show ops.toArray[i]?=some o by simpa using kc]
  rcases hf i o cq[i] kc hvi with ⟨hg,hl⟩ | ⟨hg,hv⟩
  ·simp only[V8 hg,if_true]
   refine (hl a F w (fun x hx=>Tp x fun d e=>?_) hJ.hp _ Q (fun u F' w' k1 k2 k3=>next F' w' u k1 k2 k3))
   subst e
   exact Bf (by unfold yV;exact gN _ (List.mem_filterMap.2 ⟨.tmp d,hx,rfl⟩))
  ·simp only[V8 hg,l4,if_false]
   exact next F w undef (.refl _ _) hJ.hp (by rw[hv];exact yz)
end
theorem X9(ok:dH P TT)(hm:P.follows .mixedOrders=true){r:Option Nat}{B n id:Nat}{ops:Array Oper}{t:Tm}{σ:Hp}{K:Tm→Prop}{F:Nat→Prop}{w:World}{a:Act}{Q:Exit→Act→World→Prop}(h0:Hf ops.toList=true)(h:Ix P TT ops.toList ops.toList t σ K)(hd:∀o∈ops.toList,∀d,o.dst=some d→d<n)(cf:∀o∈ops.toList,∀c,o.op≠.defer c)(hs:dw B n F w t σ a)
  (hq:∀t' F' w' a',bB F w F' w'→dw B n F' w' t' σ a'→K t'→Q .normal a' w'):(Code.region id ops true).wpIn (FW r) 0 P Q a w:=by
 obtain⟨cq,h1,h2,h3⟩:=SJ ok _ _ h
 have pF:bB F w F { w with drawn:=w.drawn+1 }:=yw hs.hp.low rfl rfl rfl (aR _) (fun _ _=>rfl)
 refine KM hm cf ?_
 have key:=ZZ (P:=P) (Q:=Q) (t0:=t) (B:=B) (n:=n) (afE h0) h1 hd h2 (F0:=F) (w0:=w) (fun F' w' a' k1 k2=>hq _ F' w' a' k1 k2 h3) ops.size (Array.replicate ops.size false) F { w with drawn:=w.drawn+1 } a (by
   unfold left
   refine Nat.le_trans (List.length_filter_le _ _) (by simp)) ⟨hs.hp.same pF (fun _ _=>rfl),hs.size,hs.defers.mono pF,by simp,fun j o ho hl=>?_,fun j o v d ho jA hv hl=>?_,fun d _=>(hs.tm d).mono pF⟩ pF
 ·simpa using key
 ·by_cases hj:j<ops.size <;> simp[Array.getD,hj]at hl
 ·by_cases hj:j<ops.size <;> simp[Array.getD,hj]at hl
end
section
variable {P:Program} {TT:TypeId→Option TI}
def xw(Q:Exit→Act→World→Prop):Exit→Act→World→Prop
 |.panic _,_,_=>False
 |e,a,w=>Q e a w
theorem SS{Q:Exit→Act→World→Prop}:∀(e:Exit) (a:Act) (w:World),xw Q e a w→Q e a w:=fun e a w h=>by
 cases e <;> first | exact h | exact (h:False).elim
theorem sm(ops:List Oper)(ax:List Bool):Region.ready .any ops.toArray ax.toArray=iT ops ax:=by
 unfold Region.ready iT
 simp only[qc]
 apply List.filter_congr
 intro i hi
 have hi:=gb.1 hi
 have e:∀d,ax.toArray.getD i d=ax.getD i d:=fun d=>by simp[Array.getD_eq_getD_getElem?,List.getD_eq_getElem?_getD]
 rw[e]
 congr 1
 simp only[zY,bj hi,JT,FN]
 rw[← Array.all_toList]
 congr 1
 funext x
 simp[Array.getD_eq_getD_getElem?,List.getD_eq_getElem?_getD]
theorem Lr{ops:List Oper}(h:sn ops=true):Region.noSelect ops.toArray=true∧∀(i j:Nat) (o p:Oper),ops[i]?=some o→ops[j]?=some p→i=j∨qo o j=true∨qo p i=true∨o.apart ops.toArray p=true:=by
 unfold sn at h
 have hz:∀(i:Nat) (o:Oper),ops[i]?=some o→(o,i)∈ops.zipIdx:=fun i o ho=>by
  rw[Pu];exact ho
 refine⟨?_,fun i j o p hi hj=>?_⟩
 ·unfold Region.noSelect
  rw[← Array.all_toList]
  refine fI.2 fun o ho=>?_
  obtain⟨i,hi⟩:=sh.1 ho
  have:=List.all_eq_true.1 h (o,i) (hz i o (by simpa using hi))
  simp only[bL]at this
  exact this.1
 ·have:=fI.1 h (o,i) (hz i o hi)
  simp only[bL]at this
  have:=fI.1 this.2 (p,j) (hz j p hj)
  simp only[o6]at this
  rcases this with ((h | h) | h) | h
  ·exact .inl (jF h)
  ·exact .inr (.inl h)
  ·exact .inr (.inr (.inl h))
  ·exact .inr (.inr (.inr h))
def Still(ops:List Oper)(i:Nat):Prop:=∀o,ops[i]?=some o→oI o.op=false
def so(P:Program)(ops:List Oper)(Q:Exit→Act→World→Prop):Nat→Array Bool→Act→World→Prop
 | 0,ax,a,w=>Region.ready .any ops.toArray ax=[]∧Q .normal a w
 |fuel+1,ax,a,w=>(Region.ready .any ops.toArray ax=[]→Q .normal a w)∧
  ∀i∈Region.ready .any ops.toArray ax,ou P ops.toArray Q i (fun a' w'=>(Still ops i→w'=w)∧so P ops Q fuel (ax.setIfInBounds i true) a' w') a w
theorem Qw{ops:List Oper}{Q:Exit→Act→World→Prop}:∀(fuel:Nat) (ax:Array Bool) (a:Act) (w:World),so P ops Q fuel ax a w→xt P .any ops.toArray Q fuel ax a w
 | 0,_,_,_,h=>h
 |fuel+1,_,_,_,h=>⟨h.1,fun i hi=>KZ (fun a' w' h'=>Qw fuel _ a' w' h'.2) (h.2 i hi)⟩
def DR(ops:List Oper)(ax:Array Bool):Prop:=∀(j:Nat) (o:Oper),ops[j]?=some o→ax.getD j false=true→∀e∈o.after,Region.binds .any e=true→ax.getD e.on false=true
theorem DR.set{ops:List Oper}{ax:Array Bool}(h:DR ops ax){j:Nat}{o:Oper}(ho:ops[j]?=some o)(hr:∀e∈o.after,Region.binds .any e=true→ax.getD e.on false=true):DR ops (ax.setIfInBounds j true):=by
 intro k p hp hk e he hb
 by_cases sb:k=j
 ·subst sb
  rw[ho]at hp;cases hp
  exact getD_set_true (hr e he hb)
 ·rw[getD_set_ne false (Ne.symm sb)]at hk
  exact getD_set_true (h k p hp hk e he hb)
theorem XG{ops:List Oper}{Q:Exit→Act→World→Prop}(h0:sn ops=true){S:World→Prop}{i:Nat}{oi:Oper}{v:Value}(hi:ops[i]?=some oi):
  ∀(fuel:Nat) (ax:Array Bool) (a:Act) (w:World),ax.size=ops.length→DR ops ax→(∀e∈oi.after,Region.binds .any e=true→ax.getD e.on false=true)→i∈Region.ready .any ops.toArray ax→YieldsIf P ops.toArray S oi v a→S w→((∀w,S w)∨∀(j:Nat) (o:Oper),ops[j]?=some o→oI o.op=true→ax.getD j false=false→qo o i=true)→
   so P ops Q fuel (ax.setIfInBounds i true) (a.put oi.dst v) w→so P ops Q (fuel+1) ax a w:=by
 have ft:ops.toArray[i]?=some oi:=by simpa using hi
 have now:∀(fuel:Nat) (ax:Array Bool) (a:Act) (w:World),YieldsIf P ops.toArray S oi v a→S w→so P ops Q fuel (ax.setIfInBounds i true) (a.put oi.dst v) w→ou P ops.toArray Q i (fun a' w'=>(Still ops i→w'=w)∧so P ops Q fuel (ax.setIfInBounds i true) a' w') a w:=
  fun fuel ax a w hy x6 H=>XR ft hy x6 ⟨fun _=>rfl,H⟩
 intro fuel
 induction fuel with
 |zero=>
  intro ax a w eC hc qT hr hy x6 Fq H
  refine⟨fun h=>(by rw[h]at hr;cases hr),fun j hj=>?_⟩
  by_cases uo:j=i
  ·subst uo;exact now 0 ax a w hy x6 H
  ·have:=ready_mono hj uo
   rw[H.1]at this
   cases this
 |succ fuel ih=>
  intro ax a w eC hc qT hr hy x6 Fq H
  refine⟨fun h=>(by rw[h]at hr;cases hr),fun j hj=>?_⟩
  by_cases uo:j=i
  ·subst uo;exact now (fuel+1) ax a w hy x6 H
  ·have h1:=H.2 j (ready_mono hj uo)
   obtain⟨W3,oj,Oy,cD⟩:=mem_ready.1 hj
   have ai8:=(mem_ready.1 hr).1
   have WW:¬(qo oj i=true):=fun hb=>by
    obtain⟨e,he,zQ,e1⟩:=An hb
    have:=cD e he zQ
    rw[e1,Cw ai8]at this
    cases this
   have Ey:ops[j]?=some oj:=by simpa using Oy
   have wA:oi.apart ops.toArray oj=true:=by
    rcases (Lr h0).2 i j oi oj hi Ey with e | e | e | e
    ·exact absurd e.symm uo
    ·obtain⟨ed,he,zQ,e1⟩:=An e
     have:=qT ed he zQ
     rw[e1,Cw W3]at this
     cases this
    ·exact absurd e WW
    ·exact e
   have WK:=Region.noSelect_spec (Lr h0).1
   have h2:=ZE Oy wA (fun cs b=>WK i oi cs b ft) (fun cs b=>WK j oj cs b Oy) hy h1
   have ah1:(ax.setIfInBounds i true).setIfInBounds j true=(ax.setIfInBounds j true).setIfInBounds i true:=by rw[Array.setIfInBounds_comm _ _ (Ne.symm uo)]
   refine KZ (fun a' w' h3=>?_) h2
   obtain⟨ui,hC',H'⟩:=h3
   have aid:S w':=by
    rcases Fq with hS | E3
    ·exact hS w'
    ·cases he:oI oj.op with
     |true=>exact absurd (E3 j oj Ey he (Cw W3)) WW
     |false=>rw[hC' (fun o ho=>by rw[Ey]at ho;cases ho;exact he)];exact x6
   refine⟨hC',ih (ax.setIfInBounds j true) a' w' (by simpa using eC) (hc.set Ey cD) (fun e he hb=>getD_set_true (qT e he hb)) (ready_mono hr (Ne.symm uo)) ui aid ?_ ?_⟩
   ·rcases Fq with hS | E3
    ·exact .inl hS
    ·refine .inr fun k o ho he hk=>?_
     by_cases sb:k=j
     ·subst sb
      have ij:k<ax.size:=by rw[eC];exact (ck.1 Ey).1
      simp[Array.getD,ij]at hk
     ·rw[getD_set_ne false (Ne.symm sb)]at hk
      exact E3 k o ho he hk
   ·rw[← ah1]
    exact H'
theorem R4{o:Op}(h:blind o=true){ρ:Operand→AV}{σ:Hp}{K:AV→Hp→Prop}(hw:gU P TT o ρ σ K):fH P TT o ρ σ (fun v=>K v σ)∧MS o=true:=by
 unfold blind at h
 split at h <;> first | exact⟨hw,rfl⟩ | cases h
theorem Tu{f:Nat→Prop}:∀{l:List Nat},N2 f l→∀i∈l,f i
 | [],_,i,h=>by cases h
 | [x],h,i,hi=>by simp at hi;subst hi;exact h
 |x::y::r,h,i,hi=>by
  rcases dA.1 hi with rfl | hi
  ·exact h.1
  ·exact Tu (l:=y::r) h.2 i hi
theorem QT{o:Op}(h:oI o=false){ρ:Operand→AV}{σ:Hp}{K:AV→Hp→Prop}(hw:gU P TT o ρ σ K):fH P TT o ρ σ (fun v=>K v σ):=by
 unfold oI at h
 simp only[JZ,o6]at h
 rcases h with h | h
 ·exact (R4 h hw).1
 ·cases o <;> first | exact hw | cases h
theorem acB(ok:dH P TT){B n:Nat}{ops:List Oper}(h0:sn ops=true)(hd:∀o∈ops,∀d,o.dst=some d→d<n){K:Tm→Hp→Prop}{Q:Exit→Act→World→Prop}{F0:Nat→Prop}{w0:World}(hq:∀t' σ' F' w' a',bB F0 w0 F' w'→dw B n F' w' t' σ' a'→K t' σ'→Q .normal a' w'):
  ∀(m:Nat) (ax:List Bool) (t:Tm) (σ:Hp) (F:Nat→Prop) (w:World) (a:Act),left ax.toArray≤m→ax.length=ops.length→vK P TT ops (m+1) ax t σ K→dw B n F w t σ a→bB F0 w0 F w→DR ops ax.toArray→so P ops (xw Q) m ax.toArray a w:=by
 intro m
 induction m with
 |zero=>
  intro ax t σ F w a hl hlen h hs an hC
  have hr:iT ops ax=[]:=by
   rw[← sm,Ki]
   intro j hj
   have:=(mem_ready.1 hj).1
   rw[Li (by omega)]at this
   cases this
  rw[R7]at h
  rw[hr]at h
  exact⟨by rw[sm];exact hr,hq t σ F w a an hs h⟩
 |succ m ih=>
  intro ax t σ F w a hl hlen h hs an hC
  rw[R7]at h
  split at h
  ·rename_i hr
   refine⟨fun _=>hq t σ F w a an hs h,fun i hi=>?_⟩
   rw[sm,hr]at hi
   cases hi
  ·rename_i i0 r0 hr
   have guard:∀{o:Oper} {b:Bool},uV ops o t b→Region.wanted o (yielded ops.toArray a.tmps)=b:=fun hg=>Gt hg fun d _=>⟨F,w,hs.tm d⟩
   have mem:∀j,j∈iT ops ax→∃o,ops[j]?=some o∧ax.toArray.getD j true=false∧∀e∈o.after,Region.binds .any e=true→ax.toArray.getD e.on false=true:=fun j hj=>by
    rw[← sm]at hj
    obtain⟨h1,o,h2,h3⟩:=mem_ready.1 hj
    exact⟨o,by simpa using h2,h1,h3⟩
   have j5:∀j,(ax.set j true).toArray=ax.toArray.setIfInBounds j true:=fun j=>by simp
   split at h
   ·rename_i j hj
    have OF:=List.mem_of_find?_eq_some hj
    have BY:=List.find?_some hj
    rw[← hr]at OF
    obtain⟨o,ho,fq,qT⟩:=mem j OF
    unfold MO at BY
    rw[ho]at BY
    have ab:left (ax.toArray.setIfInBounds j true)≤m:=by have:=C6 fq;omega
    unfold Bu at h
    rw[ho]at h
    have aQ:oI o.op=false:=by
     unfold oI
     simp only[o6,bL]at BY
     rcases BY with hb | hb
     ·simp[hb]
     ·simp[hb.1]
    have hjr:j∈Region.ready .any ops.toArray ax.toArray:=by rw[sm];exact OF
    have take:∀(S:World→Prop) v,((∀w,S w)∨∀(k:Nat) (o:Oper),ops[k]?=some o→oI o.op=true→ax.toArray.getD k false=false→qo o j=true)→S w→YieldsIf P ops.toArray S o v a→so P ops (xw Q) m (ax.toArray.setIfInBounds j true) (a.put o.dst v) w→so P ops (xw Q) (m+1) ax.toArray a w:=fun S v Fq x6 hy hk=>
     XG h0 ho m ax.toArray a w (by simpa using hlen) hC qT hjr hy x6 Fq hk
    have qG:∀(x:AV) (u:Value),aA F w x u→vK P TT ops (m+1) (ax.set j true) (put t o.dst x) σ K→so P ops (xw Q) m (ax.toArray.setIfInBounds j true) (a.put o.dst u) w:=fun x u hx hk=>by
     rw[← j5]
     exact ih _ _ σ F w _ (by rw[j5];exact ab) (by simpa using hlen) hk (hs.put (.refl _ _) hs.hp hx (hd o (List.mem_of_getElem? ho))) an (by rw[j5];exact hC.set ho qT)
    rcases yE h with ⟨hg,h⟩ | ⟨hg,h⟩
    ·simp only[o6,bL]at BY
     rcases BY with hb | ⟨hb,E3⟩
     ·obtain⟨h1,h2⟩:=R4 hb h
      obtain⟨v,k1,k2⟩:=RE ok h2 h1
      obtain⟨u,r1,r2⟩:=k2 a.eval F w o rfl (fun x _=>hs.tm.eval x)
      exact take (fun _=>True) u (.inl fun _=>trivial) trivial (.inl ⟨guard hg,fun w' _=>r1 w'⟩) (qG v u r2 k1)
     ·obtain⟨v,k1,k2⟩:=Gy ok (QT aQ h)
      obtain⟨u,r1,r2⟩:=k2 a.eval F w o rfl (fun x _=>hs.tm.eval x) hs.hp
      refine take (fun x=>x=w) u (.inr fun k p hp hk hl=>?_) rfl (.inl ⟨guard hg,fun w' e=>by subst e;exact r1⟩) (qG v u r2 k1)
      have:=fI.1 E3 (p,k) (by rw[Pu];exact hp)
      have OD:ax.getD k false=false:=by
       rw[gW,zY,← aW]at hl
       exact hl
      simpa only [hk,OD,FB,mY]using this
    ·exact take (fun _=>True) undef (.inl fun _=>trivial) trivial (.inr ⟨guard hg,rfl⟩) (qG (.tup []) undef yz h)
   ·refine⟨fun h1=>absurd h1 (by rw[sm,hr];simp),fun j hj=>?_⟩
    rw[sm]at hj
    obtain⟨o,ho,fq,qT⟩:=mem j hj
    have h:=Tu h j (by rw[← hr];exact hj)
    have sZ:j<ops.length:=(ck.1 ho).1
    have ab:left (ax.toArray.setIfInBounds j true)≤m:=by have:=C6 fq;omega
    unfold Bu at h
    rw[ho]at h
    unfold ou
    rw[show ops.toArray[j]?=some o by simpa using ho]
    have qG:∀(x:AV) (u:Value) (σ':Hp) (F':Nat→Prop) (w':World),bB F w F' w'→bf F' w' σ'→aA F' w' x u→(Still ops j→w'=w)→vK P TT ops (m+1) (ax.set j true) (put t o.dst x) σ' K→(Still ops j→w'=w)∧so P ops (xw Q) m (ax.toArray.setIfInBounds j true) (a.put o.dst u) w':=fun x u σ' F' w' q1 q2 q3 q4 hk=>by
     refine⟨q4,?_⟩
     rw[← j5]
     exact ih _ _ σ' F' w' _ (by rw[j5];exact ab) (by simpa using hlen) hk (hs.put q1 q2 q3 (hd o (List.mem_of_getElem? ho))) (an.trans q1) (by rw[j5];exact hC.set ho qT)
    cases he:oI o.op with
    |true=>
     have vac:Still ops j→False:=fun hn=>by
      have:=hn o ho
      rw[he]at this
      cases this
     rcases yE h with ⟨hg,h⟩ | ⟨hg,h⟩
     ·simp only[guard hg,if_true]
      refine (Ld ok h a F w (fun x _=>hs.tm.eval x) hs.hp _ _ ?_)
      intro v av σ' F' w' q1 q2 q3 q4
      exact qG av v σ' F' w' q1 q2 q3 (fun hn=>(vac hn).elim) q4
     ·simp only[guard hg,l4,if_false]
      exact⟨fun _=>trivial,(qG (.tup []) undef σ F w (.refl _ _) hs.hp yz (fun _=>rfl) h).2⟩
    |false=>
     rcases yE h with ⟨hg,h⟩ | ⟨hg,h⟩
     ·simp only[guard hg,if_true]
      obtain⟨v,k1,k2⟩:=Gy ok (QT he h)
      obtain⟨u,r1,r2⟩:=k2 a.eval F w o rfl (fun x _=>hs.tm.eval x) hs.hp
      unfold wq
      rw[r1]
      exact qG v u σ F w (.refl _ _) hs.hp r2 (fun _=>rfl) k1
     ·simp only[guard hg,l4,if_false]
      exact⟨fun _=>trivial,(qG (.tup []) undef σ F w (.refl _ _) hs.hp yz (fun _=>rfl) h).2⟩
theorem Q2(ok:dH P TT)(hm:P.follows .mixedOrders=true){r:Option Nat}{B n id:Nat}{ops:Array Oper}{t:Tm}{σ:Hp}{K:Tm→Hp→Prop}{F:Nat→Prop}{w:World}{a:Act}{Q:Exit→Act→World→Prop}(h0:sn ops.toList=true)(h:vK P TT ops.toList (ops.toList.length+1) (List.replicate ops.toList.length false) t σ K)(hd:∀o∈ops.toList,∀d,o.dst=some d→d<n)(cf:∀o∈ops.toList,∀c,o.op≠.defer c)(hs:dw B n F w t σ a)
  (hq:∀t' σ' F' w' a',bB F w F' w'→dw B n F' w' t' σ' a'→K t' σ'→Q .normal a' w'):(Code.region id ops true).wpIn (FW r) 0 P Q a w:=by
 have pF:bB F w F { w with drawn:=w.drawn+1 }:=yw hs.hp.low rfl rfl rfl (aR _) (fun _ _=>rfl)
 refine wpIn_mono (KM hm cf ?_) SS
 have key:=acB (P:=P) (Q:=Q) ok h0 hd (F0:=F) (w0:=w) hq ops.toList.length (List.replicate ops.toList.length false) t σ F { w with drawn:=w.drawn+1 } a (by
   unfold left
   refine Nat.le_trans (List.length_filter_le _ _) (by simp)) (by simp) h ⟨hs.tm.mono pF,hs.hp.same pF (fun _ _=>rfl),hs.size,hs.defers.mono pF⟩ pF (fun j o ho hl=>by
    simp[Array.getD]at hl)
 simpa using Qw _ _ _ _ key
end
section
variable {P:Program} {TT:TypeId→Option TI}
def One(X:(AV→Prop)→Prop):Prop:=∀K,X K→∃v,K v∧∀K':AV→Prop,K' v→X K'
theorem fT{v:AV}:One (fun K=>K v):=fun _ h=>⟨v,h,fun _ h=>h⟩
theorem cS:One (fun _=>False):=fun _ h=>h.elim
theorem rq{p:Prop}{X:(AV→Prop)→Prop}(h:One X):One (fun K=>aG p (X K)):=fun K ⟨hp,h1⟩=>by
 obtain⟨v,h2,h3⟩:=h K h1
 exact⟨v,h2,fun K' hk=>⟨hp,h3 K' hk⟩⟩
theorem Gp{v:AV}:One (fun K=>strict v K):=fun K h=>⟨v,(yG v K)▸h,fun K' h=>by show strict v K';rw[yG];exact h⟩
theorem ae5{α:Type}{l:List α}{n:Int}{f:α→AV}:One (fun K=>bM l n fun d=>K (f d)):=fun _ ⟨x,h0,h1,go⟩=>⟨f x,go,fun _ h=>⟨x,h0,h1,h⟩⟩
theorem Hk{b:Bool}:One (fun K=>oK b K):=fun K h=>⟨.bool b,by cases b <;> exact h,fun K' h=>by cases b <;> exact h⟩
theorem SK{t:TypeId}{xs ys:List AV}{f:Bool→Bool}:One (fun K=>EqAt P TT t xs ys fun b=>oK (f b) K):=fun K ⟨h1,h2,go⟩=>by
 obtain⟨v,k1,k2⟩:=Hk K go
 exact⟨v,k1,fun K' h=>⟨h1,h2,k2 K' h⟩⟩
theorem aa1{t:TypeId}{m:String}{X:(AV→Prop)→Prop}(h:One X):One (fun K=>ff P t m (X K)):=fun K ⟨hp,h1⟩=>by
 obtain⟨v,h2,h3⟩:=h K h1
 exact⟨v,h2,fun K' hk=>⟨hp,h3 K' hk⟩⟩
theorem Z9(k:TK)(want:Bool)(x y:AV):One (Bb k want x y):=by
 intro K h
 unfold Bb at h
 split at h
 all_goals first | exact⟨_,h,fun _ h=>h⟩ | exact h.elim | exact rq fT K h
theorem ae4(op:BinOp)(k:IntKind)(a b:Int):One (IB op k a b):=by
 cases op <;> first | exact Hk | exact rq fT | exact fT | exact cS
theorem Z8(op:BinOp)(k:IntKind)(a b:Int):One (HD op k a b):=by
 cases op <;> first | exact rq fT | exact cS
theorem CV{b:Bool}{X Y:(AV→Prop)→Prop}(h1:One X)(h2:One Y):One (fun K=>match b with | true=>X K | false=>Y K):=by cases b;exact h2;exact h1
set_option maxHeartbeats 1000000 in
theorem ae7(op:BinOp)(t:TypeId)(y0:Operand)(x y:AV):One (EG TT op t y0 x y):=by
 unfold EG
 cases x <;> cases y
 case int.int k a k' b=>cases op <;> first | exact Z8 _ _ _ _ | exact CV (ae4 _ _ _ _) cS
 case bool.bool a b=>
  rcases TT t with _ | ⟨k,s,ra,z⟩
  ·exact cS
  ·cases k <;> cases op <;> first | exact Hk | exact cS
 case str.str a b=>cases op <;> first | exact Hk | exact cS
 all_goals
  cases hc:Uf y0 <;> cases ht:TT t <;> cases op <;> first | exact cS | exact Z9 _ _ _ _
theorem abW(op:BinOp)(t:TypeId)(y0:Operand)(x y:AV):One (EH P TT op t y0 x y):=by
 unfold EH
 split
 ·cases op <;> first | exact SK (f:=fun b=>b) | exact SK (f:=fun b=> !b) | exact cS
 ·cases op <;> first | exact rq fT | exact cS
 ·exact ae7 _ _ _ _ _
theorem afM(op:UnOp)(x:AV):One (EO op x):=by
 unfold EO
 split <;> first | exact fT | exact cS
theorem abV(s d:TypeId)(x:AV):One (Ea TT s d x):=by
 unfold Ea
 split <;> first | exact fT | exact rq fT | exact cS
theorem Z7(t:TypeId)(x:AV)(lo hi mx:Option AV):One (AY TT t x lo hi mx):=by
 unfold AY
 split
 ·split
  ·split <;> first | exact rq fT | exact cS
  ·split <;> first | exact rq fT | exact cS
  ·split <;> first | exact rq fT | exact cS
  ·exact cS
 ·split
  ·split <;> first | exact rq fT | exact cS
  ·exact cS
 ·exact cS
theorem abT(t:TypeId)(x ix:AV):One (CH TT t x ix):=by
 unfold CH
 split
 ·split <;> first | exact rq ae5 | exact rq fT | exact cS
 ·split <;> first | exact rq fT | exact cS
 ·exact cS
theorem Xv(s:TypeId)(x:AV)(f:Nat):One (CK TT s x f):=by
 unfold CK
 split
 ·split
  ·split
   ·split <;> first | exact fT | exact cS
   ·exact cS
  ·exact cS
 ·exact cS
theorem aa0(s:TypeId)(x:AV)(f:Nat):One (DM TT s x f):=by
 unfold DM
 split
 ·split
  ·split
   ·split <;> first | exact fT | exact cS
   ·exact cS
  ·exact cS
 ·exact cS
theorem ae3(k:TK)(x:AV):One (Es k x):=by
 unfold Es
 split <;> first | exact fT | exact cS
theorem ae6(k:TK)(x:AV):One (EF k x):=by
 unfold EF
 split <;> first | exact fT | exact cS
theorem ae1(xs:List AV):One (En xs):=by
 unfold En
 split
 ·exact CV fT cS
 ·exact cS
theorem ae2(xs:List AV):One (Eo xs):=by
 unfold Eo
 split
 ·exact CV fT cS
 ·exact cS
theorem abU(x y:AV):One (D9 x y):=by
 unfold D9
 split <;> first | exact fT | exact cS
theorem abQ(x:AV):One (DT x):=by
 unfold DT
 split <;> first | exact fT | exact cS
theorem abS(x:AV):One (DZ x):=by
 unfold DZ
 split <;> first | exact fT | exact cS
theorem abR(i:TI)(a:AV)(σ:Hp):One (qw i a σ):=by
 unfold qw
 split
 ·split <;> first | exact fT | exact cS
 ·exact fun K ⟨j,cs,v,h1,h2,go⟩=>⟨v,go,fun K' h=>⟨j,cs,v,h1,h2,h⟩⟩
 ·exact cS
theorem YY(t:TypeId)(m k:AV)(c:Bool)(σ:Hp):One (Du TT t m k c σ):=by
 unfold Du
 split
 ·intro K ⟨j,b,l,hm,h1,go⟩
  cases c with
  |true=>exact⟨_,go,fun K' h=>⟨j,b,l,hm,h1,h⟩⟩
  |false=>exact⟨_,go,fun K' h=>⟨j,b,l,hm,h1,h⟩⟩
 ·exact cS
theorem Hj(o:Op)(ρ:Operand→AV)(σ:Hp):One (fH P TT o ρ σ):=by
 unfold fH
 split
 ·exact Gp
 ·exact Gp
 ·split
  ·exact CV Gp Gp
  ·exact cS
 ·split <;> first | exact fT | exact cS
 ·split <;> first | exact abR _ _ _ | exact cS
 ·split <;> first | exact fT | exact aa1 fT | exact cS
 ·exact abW _ _ _ _ _
 ·exact afM _ _
 ·exact abV _ _ _
 ·split <;> first | exact fT | exact cS
 ·exact fT
 ·exact Z7 _ _ _ _ _
 ·exact Xv _ _ _
 ·exact aa0 _ _ _
 ·exact abT _ _ _
 ·split <;> first | exact CV fT fT | exact fT | exact cS
 ·exact YY _ _ _ _ _
 ·split
  ·split <;> first | exact fT | exact cS
  ·exact cS
 ·split
  ·split <;> first | exact ae3 _ _ | exact cS
  ·exact cS
 ·split <;> first | exact ae1 _ | exact cS
 ·split <;> first | exact ae2 _ | exact cS
 ·split <;> first | exact abU _ _ | exact cS
 ·split <;> first | exact abQ _ | exact cS
 ·split <;> first | exact abS _ | exact cS
 ·split
  ·split <;> first | exact ae6 _ _ | exact cS
  ·exact cS
 ·exact cS
theorem Zo{o:Op}(hb:blind o=true){ρ:Operand→AV}{σ σ':Hp}{K:AV→Prop}(h:fH P TT o ρ σ K):fH P TT o ρ σ' K:=by
 cases o <;> first | exact h | cases hb | (rename_i c;obtain⟨f,args,cy⟩:=c;cases f <;> first | cases hb | (rename_i b;cases b <;> first | exact h | cases hb))
theorem Ya(c:Call)(ρ:Operand→AV)(σ:Hp):One (fun K=>qn P c ρ (fun f xs=>tU P f xs σ K) (fun _ _=>False)):=by
 have M8:∀(f:FuncId) (xs:List AV),One (tU P f xs σ):=fun f xs K h=>by
  cases h with
  |mk js r call go=>exact⟨r,go,fun K' h=>.mk js r call h⟩
  |perm hp r call go=>exact⟨r,go,fun K' h=>.perm hp r call h⟩
 unfold qn
 split
 ·split <;> first | exact M8 _ _ | exact cS
 ·split
  ·exact fun K ⟨g,h,go⟩=>(M8 _ _ K go).imp fun v hv=>⟨hv.1,fun K' hk=>⟨g,h,hv.2 K' hk⟩⟩
  ·exact fun K ⟨g,h,go⟩=>(M8 _ _ K go).imp fun v hv=>⟨hv.1,fun K' hk=>⟨g,h,hv.2 K' hk⟩⟩
  ·exact cS
 ·exact cS
theorem Ug(o:Op)(ρ:Operand→AV)(σ:Hp):One (vT P TT o ρ σ):=by
 unfold vT
 split
 ·exact Hj _ _ _
 ·exact Ya _ _ _
 ·exact Hj _ _ _
theorem YH{l:Nat}{K K':AV→Hp→Prop}(hk:∀v σ,K v σ→K' v σ){xs:List AV}{σ:Hp}(h:xn P l K xs σ):xn P l K' xs σ:=by
 cases h with
 |mk js R call go=>exact .mk js R call fun r σ' hr=>hk _ _ (go r σ' hr)
 |perm R hp call go=>exact .perm R hp call fun r σ' hr=>(go r σ' hr).imp fun ep h=>⟨h.1,hk _ _ h.2⟩
theorem Yt{c:Call}{ρ:Operand→AV}{A B:FuncId→List AV→Prop}{Y Z:Nat→List AV→Prop}(p7:∀f xs,A f xs→B f xs)(E1:∀l xs,Y l xs→Z l xs)(h:qn P c ρ A Y):qn P c ρ B Z:=by
 unfold qn at h ⊢
 split at h
 ·split at h
  ·exact p7 _ _ h
  ·exact E1 _ _ h
  ·exact h.elim
 ·split at h
  ·obtain⟨g,h1,h2⟩:=h;exact⟨g,h1,p7 _ _ h2⟩
  ·obtain⟨g,h1,h2⟩:=h;exact⟨g,h1,p7 _ _ h2⟩
  ·exact h.elim
 ·exact h.elim
theorem aaG{f:FuncId}{K K':AV→Hp→Prop}(hk:∀v σ,K v σ→K' v σ){xs:List AV}{σ:Hp}(h:CallAt P f K xs σ):CallAt P f K' xs σ:=by
 induction h with
 |mk js R call go=>exact .mk js R call fun r σ' hr=>hk _ _ (go r σ' hr)
 |perm R hp call go=>exact .perm R hp call fun r σ' hr=>(go r σ' hr).imp fun ep h=>⟨h.1,hk _ _ h.2⟩
 |cX j b off len es cs e l h1 h2 h3 h4 h ih=>exact .cX j b off len es cs e l h1 h2 h3 h4 ih
 |j6 j b off len es cs e l h1 h2 h3 i k b' cs' hi hk h ih=>exact .j6 j b off len es cs e l h1 h2 h3 i k b' cs' hi hk ih
theorem aaO{i:TI}{σ:Hp}{s x:AV}{K K':AV→Hp→Prop}(hk:∀v σ,K v σ→K' v σ)(h:AppendAt i σ s x K):AppendAt i σ s x K':=by
 cases h with
 |fresh n new hs hx hn hb h0 go same=>exact .fresh n new hs hx hn hb h0 (fun h b=>hk _ _ (go h b)) (fun h=>hk _ _ (same h))
 |more j b len n cs new hs h1 h2 hx hn hb h0 go=>exact .more j b len n cs new hs h1 h2 hx hn hb h0 (fun b=>hk _ _ (go b))
 |Bc j b off len n cs new hs h1 h2 hx hn hb h0 xK go=>exact .Bc j b off len n cs new hs h1 h2 hx hn hb h0 (hk _ _ xK) (fun b=>hk _ _ (go b))
 |perm K2 hp h ec=>exact .perm K2 hp h fun v ep h=>(ec v ep h).imp fun zA h=>⟨h.1,h.2.imp (hk _ _) fun h=>⟨h.1,hk _ _ h.2⟩⟩
theorem aaN{i:TI}{σ:Hp}{s x:AV}{K K':AV→Hp→Prop}(hk:∀v σ,K v σ→K' v σ)(h:DG i σ s x K):DG i σ s x K':=by
 cases h with
 |ai k n hs hx hn hb h0 go same=>exact .ai k n hs hx hn hb h0 (fun h b=>hk _ _ (go h b)) (fun h=>hk _ _ (same h))
theorem abM{o:Op}{ρ:Operand→AV}{σ:Hp}{K K':AV→Hp→Prop}(hk:∀v σ,K v σ→K' v σ)(h:gU P TT o ρ σ K):gU P TT o ρ σ K':=by
 have dd:∀{o:Op},fH P TT o ρ σ (fun v=>K v σ)→fH P TT o ρ σ (fun v=>K' v σ):=fun h=>by
  obtain⟨v,h1,h2⟩:=Hj _ _ _ _ h
  exact h2 _ (hk _ _ h1)
 unfold gU at h ⊢
 split at h
 ·split at h
  ·exact fun b=>hk _ _ (h b)
  ·exact h.elim
 ·split at h
  ·exact fun b=>hk _ _ (h b)
  ·exact h.elim
 ·split at h
  ·split at h
   ·split at h
    ·exact fun b=>hk _ _ (h b)
    ·exact h.elim
   ·exact h.elim
  ·exact h.elim
 ·split at h
  ·split at h
   ·exact⟨h.fact,fun b=>hk _ _ (h.go b)⟩
   ·exact h.elim
  ·exact h.elim
 ·split at h
  ·split at h
   ·obtain⟨j,cs,cs',h1,h2,go⟩:=h;exact⟨j,cs,cs',h1,h2,hk _ _ go⟩
   ·exact h.elim
  ·exact h.elim
 ·split at h
  ·exact fun b=>hk _ _ (h b)
  ·exact h.elim
 ·unfold AK at h ⊢
  split at h
  ·obtain⟨j,b,l,hm,h1,go⟩:=h;exact⟨j,b,l,hm,h1,hk _ _ go⟩
  ·exact h.elim
 ·unfold AK at h ⊢
  split at h
  ·obtain⟨j,b,l,hm,h1,go⟩:=h;exact⟨j,b,l,hm,h1,hk _ _ go⟩
  ·exact h.elim
 ·unfold HG at h ⊢
  split at h
  ·obtain⟨j,b,l,hm,h1,go⟩:=h;exact⟨j,b,l,hm,h1,fun r=>hk _ _ (go r)⟩
  ·exact h.elim
 ·split at h
  ·obtain⟨j,j2,r,b,l,seen,hx,h1,h2,stop,go⟩:=h;exact⟨j,j2,r,b,l,seen,hx,h1,h2,fun h=>hk _ _ (stop h),fun i p h3 h4=>hk _ _ (go i p h3 h4)⟩
  ·exact h.elim
 ·obtain⟨j,j2,r,b,i,l,p,seen,hx,h1,h2,h3,go⟩:=h;exact⟨j,j2,r,b,i,l,p,seen,hx,h1,h2,h3,hk _ _ go⟩
 ·split at h
  ·split at h
   ·split at h
    ·exact aaO hk h
    ·exact h.elim
   ·split at h
    ·exact aaN hk h
    ·exact h.elim
   ·exact h.elim
  ·exact h.elim
 ·split at h
  ·split at h
   ·split at h
    ·cases h with
     |none hs go=>exact .none hs (hk _ _ go)
     |af j b off len cs hs h1 h2 go=>exact .af j b off len cs hs h1 h2 (hk _ _ go)
    ·exact h.elim
   ·exact h.elim
  ·exact h.elim
 ·split at h
  ·split at h
   ·split at h
    ·cases h with
     |none new hd hx go=>exact .none new hd hx (hk _ _ go)
     |af j b off len n cs new hd h1 h2 hx hn go=>exact .af j b off len n cs new hd h1 h2 hx hn (hk _ _ go)
     |part j b off len cs hd h1 h2 j2 b2 nA n kM hx h3 h4 hn go=>exact .part j b off len cs hd h1 h2 j2 b2 nA n kM hx h3 h4 hn (hk _ _ go)
    ·exact h.elim
   ·exact h.elim
  ·exact h.elim
 ·exact dd h
 ·exact Yt (fun f xs h=>aaG hk h) (fun l xs h=>YH hk h) h
 ·exact dd h
theorem map_eq{ρ iz:Operand→AV}{l:List Operand}(h:∀x∈l,ρ x=iz x):l.map ρ=l.map iz:=yi h
theorem Kx{c:Call}{ρ iz:Operand→AV}(h:∀x∈(Op.call c).operands.toList,ρ x=iz x):(∀f,c.callee=.value f→ρ f=iz f)∧(∀r m,c.callee=.invoke r m→ρ r=iz r)∧∀x∈c.args.toList,ρ x=iz x:=by
 obtain⟨f,args,cy⟩:=c
 simp only[Op.operands,Call.operands,Cp,bR]at h
 refine⟨fun g e=>?_,fun r m e=>?_,fun x hx=>h x (.inr hx)⟩
 ·subst e;exact h g (.inl (by simp))
 ·subst e;exact h r (.inl (by simp))
theorem Gd{c:Call}{ρ iz:Operand→AV}{A:FuncId→List AV→Prop}{Y:Nat→List AV→Prop}(h:∀x∈(Op.call c).operands.toList,ρ x=iz x):qn P c ρ A Y=qn P c iz A Y:=by
 obtain⟨h1,h2,h3⟩:=Kx h
 have e:(c.args.toList.map fun x=>bP (ρ x))=c.args.toList.map fun x=>bP (iz x):=yi fun x hx=>by rw[h3 x hx]
 unfold qn
 rw[e]
 split
 ·rename_i f hf;rw[h1 f hf]
 ·rename_i r m hr;rw[h2 r m hr]
 ·rfl
theorem Le{o:Op}{ρ iz:Operand→AV}{σ:Hp}{K:AV→Prop}(h:∀x∈o.operands.toList,ρ x=iz x):fH P TT o ρ σ K=fH P TT o iz σ K:=by
 cases o with
 |call c=>
  obtain⟨f,args,cy⟩:=c
  obtain⟨_,_,h3⟩:=Kx h
  cases f with
  |builtin b=>
   obtain⟨l⟩:=args
   have h3:∀x∈l,ρ x=iz x:=h3
   match l,h3 with
   | [],_=>cases b <;> rfl
   | [x],h3=>
    have hx:=h3 x (by simp)
    cases b <;> first | rfl | (obtain⟨cy⟩:=cy;rcases cy with _ | ⟨t,_ | ⟨t',_ | ⟨zF,r⟩⟩⟩ <;> first | rfl | simp only[fH,hx])
   | [x,y],h3=>
    have hx:=h3 x (by simp)
    have hy:=h3 y (by simp)
    cases b <;> first | rfl | (obtain⟨cy⟩:=cy;rcases cy with _ | ⟨t,_ | ⟨t',_ | ⟨zF,r⟩⟩⟩ <;> first | rfl | simp only[fH,hx,hy])
   |_::_::_::_,_=>cases b <;> rfl
  |_=>rfl
 |build t parts=>
  have e:(parts.toList.map fun p=>(p.1,ρ p.2))=parts.toList.map fun p=>(p.1,iz p.2):=yi fun p hp=>by rw[h p.2 (by simp only[Op.operands];exact dL.2 ⟨p,hp,rfl⟩)]
  show (match HS TT t (parts.toList.map fun p=>(p.1,ρ p.2)) with | some v=>K v | none=>False)=_
  rw[e];rfl
 |makeFunc f first cap=>
  have e1:first.toList.map ρ=first.toList.map iz:=map_eq fun x hx=>h x (by simp only[Op.operands,Cp,bR];exact .inl hx)
  have e2:cap.toList.map ρ=cap.toList.map iz:=map_eq fun x hx=>h x (by simp only[Op.operands,Cp,bR];exact .inr hx)
  show K (.fn f (first.toList.map ρ) (cap.toList.map ρ))=_
  rw[e1,e2];rfl
 |slice t x lo hi mx=>
  have hx:=h x (by simp[Op.operands])
  have e:∀(o:Option Operand),(∀y,o=some y→y∈(Op.slice t x lo hi mx).operands.toList)→(o.map fun x=>bP (ρ x))=o.map fun x=>bP (iz x):=fun o ho=>by
   cases o with
   |none=>rfl
   |some y=>simp[h y (ho y rfl)]
  show AY TT t (bP (ρ x)) (lo.map fun x=>bP (ρ x)) (hi.map fun x=>bP (ρ x)) (mx.map fun x=>bP (ρ x)) K=_
  rw[hx,e lo (fun y hy=>by subst hy;simp[Op.operands]),e hi (fun y hy=>by subst hy;simp[Op.operands]),e mx (fun y hy=>by subst hy;simp[Op.operands])];rfl
 |pick c a b=>simp only[fH,h c (by simp[Op.operands]),h a (by simp[Op.operands]),h b (by simp[Op.operands])]
 |binOp op t x y yt=>simp only[fH,h x (by simp[Op.operands]),h y (by simp[Op.operands])]
 |indexAddr t x y=>simp only[fH,h x (by simp[Op.operands]),h y (by simp[Op.operands])]
 |lookup t x y c=>simp only[fH,h x (by simp[Op.operands]),h y (by simp[Op.operands])]
 |_=>first | rfl | (rename_i x;simp only[fH,h x (by simp[Op.operands])]) | (rename_i x _;simp only[fH,h x (by simp[Op.operands])]) | (rename_i x _ _;simp only[fH,h x (by simp[Op.operands])]) | (rename_i x _ _ _;simp only[fH,h x (by simp[Op.operands])])
theorem RD{o:Op}{ρ iz:Operand→AV}{σ:Hp}{K:AV→Prop}(h:∀x∈o.operands.toList,ρ x=iz x):vT P TT o ρ σ K=vT P TT o iz σ K:=by
 have hd:=Le (P:=P) (TT:=TT) (σ:=σ) (K:=K) h
 cases o with
 |call c=>
  obtain⟨f,args,cy⟩:=c
  cases f with
  |builtin b=>exact hd
  |value g=>exact Gd (P:=P) (A:=fun f xs=>tU P f xs σ K) (Y:=fun _ _=>False) h
  |invoke r m=>exact Gd (P:=P) (A:=fun f xs=>tU P f xs σ K) (Y:=fun _ _=>False) h
 |_=>exact hd
theorem RB{o:Op}{ρ iz:Operand→AV}{σ:Hp}{K:AV→Hp→Prop}(h:∀x∈o.operands.toList,ρ x=iz x):gU P TT o ρ σ K=gU P TT o iz σ K:=by
 have hd:=Le (P:=P) (TT:=TT) (σ:=σ) (K:=fun v=>K v σ) h
 cases o with
 |call c=>
  obtain⟨f,args,cy⟩:=c
  obtain⟨_,_,h3⟩:=Kx h
  cases f with
  |builtin b=>
   obtain⟨l⟩:=args
   have h3:∀x∈l,ρ x=iz x:=h3
   match l,h3 with
   | [],_=>cases b <;> first | exact hd | rfl
   | [x],h3=>
    have hx:=h3 x (by simp)
    cases b <;> first | exact hd | rfl | (obtain⟨cy⟩:=cy;rcases cy with _ | ⟨t,_ | ⟨t',_ | ⟨zF,r⟩⟩⟩ <;> first | rfl | simp only[gU,hx])
   | [x,y],h3=>
    have hx:=h3 x (by simp)
    have hy:=h3 y (by simp)
    cases b <;> first | exact hd | rfl | (obtain⟨cy⟩:=cy;rcases cy with _ | ⟨t,_ | ⟨t',_ | ⟨zF,r⟩⟩⟩ <;> first | rfl | simp only[gU,hx,hy])
   |_::_::_::_,_=>cases b <;> first | exact hd | rfl
  |value g=>exact Gd (P:=P) (A:=fun f xs=>CallAt P f K xs σ) (Y:=fun l xs=>xn P l K xs σ) h
  |invoke r m=>exact Gd (P:=P) (A:=fun f xs=>CallAt P f K xs σ) (Y:=fun l xs=>xn P l K xs σ) h
 |box t x=>simp only[gU,h x (by simp[Op.operands])]
 |buildSlice t len parts=>
  have e:(parts.toList.map fun p=>(p.1,ρ p.2))=parts.toList.map fun p=>(p.1,iz p.2):=yi fun p hp=>by rw[h p.2 (by simp only[Op.operands];exact dL.2 ⟨p,hp,rfl⟩)]
  simp only[gU,e]
 |makeSlice t l c=>simp only[gU,h l (by simp[Op.operands]),h c (by simp[Op.operands])]
 |store t a x=>simp only[gU,h a (by simp[Op.operands]),h x (by simp[Op.operands])]
 |makeMap t r=>cases r with
  |none=>rfl
  |some r=>exact hd
 |mapUpdate t m k x=>simp only[gU,h m (by simp[Op.operands]),h k (by simp[Op.operands]),h x (by simp[Op.operands])]
 |insert t m k x=>simp only[gU,h m (by simp[Op.operands]),h k (by simp[Op.operands]),h x (by simp[Op.operands])]
 |range t x=>simp only[gU,h x (by simp[Op.operands])]
 |next x s=>simp only[gU,h x (by simp[Op.operands])]
 |entry x=>simp only[gU,h x (by simp[Op.operands])]
 |_=>first | exact hd | rfl
theorem wZ{ops:List Oper}{Q:List Nat}{n:Nat}{ax:List Bool}{t:Tm}{σ:Hp}{K:Tm→Hp→Prop}:qH P TT ops Q (n+1) ax t σ K=((iT ops ax=[]→K t σ)∧∀i∈iT ops ax,jM P TT ops (eY i Q) i t σ fun t' σ'=>qH P TT ops Q n (ax.set i true) t' σ' K):=rfl
def uH(_ops:List Oper)(ax:List Bool)(o:Oper):Prop:=∀e∈o.after.toList,Region.binds .any e=true→ax.getD e.on false=true
theorem wV{ops:List Oper}{ax:List Bool}{i:Nat}:i∈iT ops ax↔ax.getD i true=false∧∃o,ops[i]?=some o∧uH ops ax o:=by
 unfold iT uH
 simp only[lZ,gb,bL,jl]
 constructor
 ·rintro⟨h1,h2,h3⟩
  refine⟨h2,ops[i],by simp[h1],?_⟩
  rw[bj h1]at h3
  intro e he hb
  have:=fI.1 h3 e he
  simpa [hb]using this
 ·rintro⟨h2,o,h1,h3⟩
  refine⟨(ck.1 h1).1,h2,?_⟩
  rw[h1]
  refine fI.2 fun e he=>?_
  cases hb:Region.binds .any e with
  |false=>simp
  |true=>rw[h3 e he hb];simp
def AU(ops:List Oper)(ax:List Bool):Prop:=∀(j:Nat) (o:Oper),ops[j]?=some o→ax.getD j false=true→uH ops ax o
theorem PU{l:List Bool}{i k:Nat}(h:l.getD k false=true):(l.set i true).getD k false=true:=by
 rw[aW]at h ⊢
 rw[e9]
 split
 ·rename_i e;subst e
  split
  ·rfl
  ·rename_i hn;rw[uF (by omega)]at h;cases h
 ·exact h
theorem P8{l:List Bool}{i k:Nat}(b:Bool)(h:k≠i):(l.set i true).getD k b=l.getD k b:=by
 rw[aW,aW,e9,ag (Ne.symm h)]
theorem Hr{l:List Bool}{i:Nat}(h:l.getD i true=false):l.getD i false=false:=by
 rw[aW]at h ⊢
 cases hq:l[i]? with
 |none=>rw[hq]at h;cases h
 |some b=>rw[hq]at h;exact h
theorem uH.set{ops:List Oper}{ax:List Bool}{o:Oper}(h:uH ops ax o)(i:Nat):uH ops (ax.set i true) o:=fun e he hb=>PU (h e he hb)
theorem AU.set{ops:List Oper}{ax:List Bool}(h:AU ops ax){j:Nat}{o:Oper}(ho:ops[j]?=some o)(hr:uH ops ax o):AU ops (ax.set j true):=by
 intro k p hp hk
 by_cases sb:k=j
 ·subst sb
  rw[ho]at hp;cases hp
  exact hr.set k
 ·rw[P8 false sb]at hk
  exact (h k p hp hk).set j
theorem Rs{ops:List Oper}{ax:List Bool}{i j:Nat}(hi:i∈iT ops ax)(h:i≠j):i∈iT ops (ax.set j true):=by
 obtain⟨h1,o,h2,h3⟩:=wV.1 hi
 exact wV.2 ⟨by rw[P8 true h];exact h1,o,h2,h3.set j⟩
theorem SV{j:Nat}{l:List Nat}:eY j l=true↔j∈l:=by
 unfold eY
 rw[lA]
 exact⟨fun ⟨x,h1,h2⟩=>jF h2▸h1,fun h=>⟨j,h,yb j⟩⟩
def Ef(ops:List Oper)(k:Nat)(row:List Nat):Prop:=∀o,ops[k]?=some o→∀ax,AU ops ax→uH ops ax o→∀j∈row,ax.getD j false=true
theorem adI{ops:List Oper}{acc:List (List Nat)}(hlen:acc.length≤ops.length)(h:∀(k:Nat) (row:List Nat),acc[k]?=some row→Ef ops k row){k:Nat}{o:Oper}(ho:ops[k]?=some o):Ef ops k (NB o acc):=by
 intro o' gp ax hc hr j hj
 rw[ho]at gp;cases gp
 unfold NB at hj
 obtain⟨e,he,hj⟩:=List.mem_flatMap.1 hj
 split at hj
 ·rename_i hb
  have lU:=hr e he hb
  rcases dA.1 hj with rfl | hj
  ·exact lU
  ·cases hq:acc[e.on]? with
   |none=>rw[hq]at hj;simp at hj
   |some row=>
    rw[hq]at hj
    cases hp:ops[e.on]? with
    |some p=>exact h e.on row hq p hp ax hc (hc e.on p hp lU) j (by simpa using hj)
    |none=>
     have h1:=(ck.1 hq).1
     have h2:=List.getElem?_eq_none_iff.1 hp
     omega
 ·cases hj
theorem Sx{ops:List Oper}:∀(os:List Oper) (acc:List (List Nat)) (pre:List Oper),ops=pre++os→acc.length=pre.length→(∀(k:Nat) (row:List Nat),acc[k]?=some row→Ef ops k row)→∀(k:Nat) (row:List Nat),(M6 os acc)[k]?=some row→Ef ops k row
 | [],acc,pre,_,_,h=>h
 |o::os,acc,pre,he,hl,h=>by
  refine Sx os _ (pre++[o]) (by rw[he];simp) (by simp[hl]) ?_
  intro k row hk
  by_cases ab:k<acc.length
  ·rw[kh ab]at hk
   exact h k row hk
  ·have eQ:=hk
   rw[iQ (by omega)]at hk
   have hz:k-acc.length=0:=by
    have:=(ck.1 hk).1
    simp at this;omega
   rw[hz]at hk
   simp only[List.getElem?_cons_zero,Option.some.injEq]at hk
   subst hk
   have aP:k=pre.length:=by omega
   have ho:ops[k]?=some o:=by rw[he,aP];simp
   intro o' gp ax hc hr j hj
   exact adI (by rw[he,hl];simp) h ho o' gp ax hc hr j (List.mem_eraseDups.1 hj)
def aif(want:Bool)(x:AV)(A B:Prop):Prop:=
 match x with
 |.bool b=>(match want,b with | true,true=>A | true,false=>B | false,true=>B | false,false=>A)
 |.tup []=>B
 |_=>False
theorem CI{ops:List Oper}{o:Oper}{t:Tm}{A B:Prop}(h:py ops o t A B):
  (A∧∀(t2:Tm),(∀d∈o.looksAt ops.toArray,t2 d=t d)→∀{A' B':Prop},A'→py ops o t2 A' B')∨(B∧∀(t2:Tm),(∀d∈o.looksAt ops.toArray,t2 d=t d)→∀{A' B':Prop},B'→py ops o t2 A' B'):=by
 unfold py at h
 split at h
 ·rename_i hg
  refine .inl ⟨h,fun t2 _ A' B' ha=>?_⟩
  unfold py;rw[hg];exact ha
 ·rename_i j want hg
  split at h
  ·rename_i d hd
   have zt:d∈o.looksAt ops.toArray:=by
    unfold Oper.looksAt
    rw[hg]
    simp only[zY,hd,Option.toList_some,bR,bh,or_true]
   have go:∀(t2:Tm),(∀d∈o.looksAt ops.toArray,t2 d=t d)→∀{A' B':Prop},aif want (t d) A' B'→py ops o t2 A' B':=fun t2 h2 A' B' hx=>by
    unfold py
    rw[hg]
    dsimp only
    rw[hd]
    dsimp only
    rw[h2 d zt]
    exact hx
   split at h
   ·rename_i b hb
    cases want <;> cases b
    ·exact .inl ⟨h,fun t2 h2 A' B' ha=>go t2 h2 (by rw[hb];exact ha)⟩
    ·exact .inr ⟨h,fun t2 h2 A' B' ha=>go t2 h2 (by rw[hb];exact ha)⟩
    ·exact .inr ⟨h,fun t2 h2 A' B' ha=>go t2 h2 (by rw[hb];exact ha)⟩
    ·exact .inl ⟨h,fun t2 h2 A' B' ha=>go t2 h2 (by rw[hb];exact ha)⟩
   ·rename_i hb
    exact .inr ⟨h,fun t2 h2 A' B' ha=>go t2 h2 (by rw[hb];exact ha)⟩
   ·exact h.elim
  ·exact h.elim
theorem DA{ops:List Oper}{o:Oper}{t t2:Tm}(h:∀d∈o.looksAt ops.toArray,t2 d=t d):∀x∈o.op.operands.toList,ev t2 x=ev t x:=by
 intro x hx
 cases x with
 |tmp d=>
  refine h d ?_
  unfold Oper.looksAt
  refine gN _ (List.mem_filterMap.2 ⟨_,hx,rfl⟩)
 |_=>rfl
theorem ac4{o:Op}(h:tK o=true){ρ:Operand→AV}{σ:Hp}{K:AV→Hp→Prop}:gU P TT o ρ σ K=fH P TT o ρ σ (fun v=>K v σ):=by
 cases o <;> first | rfl | cases h
theorem aaI{o:Op}(h:blind o=true){ρ:Operand→AV}{σ:Hp}{K:AV→Hp→Prop}:gU P TT o ρ σ K=fH P TT o ρ σ (fun v=>K v σ):=by
 cases o <;> first | rfl | cases h | (rename_i c;obtain⟨f,args,cy⟩:=c;cases f <;> first | cases h | (rename_i b;cases b <;> first | rfl | cases h))
theorem aae{o:Op}(h:tK o=true){ρ:Operand→AV}{σ:Hp}{K:AV→Prop}(c:Nat×List AV)(hd:fH P TT o ρ σ K):fH P TT o ρ (c::σ) K:=by
 have key:∀{i:TI} {a:AV},qw i a σ K→qw i a (c::σ) K:=fun {i a} h=>by
  unfold qw at h ⊢
  cases a <;> first | exact h | (cases h with | mk j cs v h1 h2 go=>exact .mk (j+1) cs v h1 h2 go)
 cases o <;> first | cases h | skip
 unfold fH at hd ⊢
 dsimp only at hd ⊢
 split at hd
 ·exact key hd
 ·exact hd
theorem abZ{o:Op}(hn:H7 o=true){ρ:Operand→AV}{σ:Hp}{K K2:AV→Hp→Prop}(hk:∀v c,K v (c::σ)→K2 v (c::σ))(h:gU P TT o ρ σ K):gU P TT o ρ σ K2:=by
 cases o <;> first | cases hn | skip
 all_goals
  unfold gU at h ⊢
  dsimp only at h ⊢
  split at h
  ·exact fun b=>hk _ _ (h b)
  ·exact h
theorem MC{ops:List Oper}{Q:List Nat}{j:Nat}{o:Oper}(ho:ops[j]?=some o){t:Tm}{σ:Hp}{K:Tm→Hp→Prop}(hk:vH ops Q j=false)(h:jM P TT ops (eY j Q) j t σ K):
  ∃v,K (put t o.dst v) σ∧∀(t2:Tm) (σ2:Hp),(∀d∈o.looksAt ops.toArray,t2 d=t d)→(σ2=σ∨(blind o.op=true∧eY j Q=false)∨(tK o.op=true∧eY j Q=false∧∃c,σ2=c::σ))→∀(K2:Tm→Hp→Prop),K2 (put t2 o.dst v) σ2→jM P TT ops (eY j Q) j t2 σ2 K2:=by
 unfold jM at h ⊢
 rw[ho]at h ⊢
 dsimp only at h ⊢
 cases hq:eY j Q with
 |true=>
  rw[hq]at h
  dsimp only at h ⊢
  rcases CI h with ⟨h,g⟩ | ⟨h,g⟩
  ·obtain⟨v,h1,h2⟩:=Ug _ _ _ _ h
   refine⟨v,h1,fun t2 σ2 ht aE K2 ec=>g t2 ht ?_⟩
   rcases aE with rfl | ⟨_,h⟩ | ⟨_,h,_⟩
   ·rw[RD (DA ht)]
    exact h2 (fun v=>K2 (put t2 o.dst v) σ2) ec
   ·cases h
   ·cases h
  ·refine⟨.tup [],h,fun t2 σ2 ht aE K2 ec=>g t2 ht ?_⟩
   rcases aE with rfl | ⟨_,h⟩ | ⟨_,h,_⟩
   ·exact ec
   ·cases h
   ·cases h
 |false=>
  rw[hq]at h
  dsimp only at h ⊢
  have aQ:oI o.op=false:=by
   unfold vH at hk
   rw[ho,hq]at hk
   simpa using hk
  have e:∀(ρ:Operand→AV) (σ:Hp) (K:AV→Hp→Prop),gU P TT o.op ρ σ K=fH P TT o.op ρ σ (fun v=>K v σ):=fun ρ σ K=>by
   unfold oI at aQ
   simp only[JZ,o6]at aQ
   rcases aQ with h | h
   ·exact aaI h
   ·exact ac4 h
  rcases CI h with ⟨h,g⟩ | ⟨h,g⟩
  ·rw[e]at h
   obtain⟨v,h1,h2⟩:=Hj _ _ _ _ h
   refine⟨v,h1,fun t2 σ2 ht aE K2 ec=>g t2 ht ?_⟩
   rw[e,Le (DA ht)]
   rcases aE with rfl | ⟨hb,_⟩ | ⟨hl,_,c,rfl⟩
   ·exact h2 (fun v=>K2 (put t2 o.dst v) σ2) ec
   ·exact Zo hb (h2 (fun v=>K2 (put t2 o.dst v) σ2) ec)
   ·exact aae hl c (h2 (fun v=>K2 (put t2 o.dst v) (c::σ)) ec)
  ·exact⟨.tup [],h,fun t2 σ2 ht aE K2 ec=>g t2 ht ec⟩
theorem GU{ops:List Oper}{q:Bool}{i:Nat}{o:Oper}(ho:ops[i]?=some o){t t2:Tm}{σ:Hp}{K K2:Tm→Hp→Prop}(ht:∀d∈o.looksAt ops.toArray,t2 d=t d)(hk:∀v σ',K (put t o.dst v) σ'→K2 (put t2 o.dst v) σ')(h:jM P TT ops q i t σ K):jM P TT ops q i t2 σ K2:=by
 unfold jM at h ⊢
 rw[ho]at h ⊢
 dsimp only at h ⊢
 cases q with
 |true=>
  dsimp only at h ⊢
  rcases CI h with ⟨h,g⟩ | ⟨h,g⟩
  ·obtain⟨v,h1,h2⟩:=Ug _ _ _ _ h
   refine g t2 ht ?_
   rw[RD (DA ht)]
   exact h2 _ (hk _ _ h1)
  ·exact g t2 ht (hk _ _ h)
 |false=>
  dsimp only at h ⊢
  rcases CI h with ⟨h,g⟩ | ⟨h,g⟩
  ·refine g t2 ht ?_
   rw[RB (DA ht)]
   exact abM (fun v σ' h=>hk v σ' h) h
  ·exact g t2 ht (hk _ _ h)
theorem abX{ops:List Oper}{i:Nat}{o:Oper}(ho:ops[i]?=some o)(hn:H7 o.op=true){t t2:Tm}{σ:Hp}{K K2:Tm→Hp→Prop}(ht:∀d∈o.looksAt ops.toArray,t2 d=t d)(hk:∀v c,K (put t o.dst v) (c::σ)→K2 (put t2 o.dst v) (c::σ))(hs:∀v,K (put t o.dst v) σ→K2 (put t2 o.dst v) σ)(h:jM P TT ops false i t σ K):jM P TT ops false i t2 σ K2:=by
 unfold jM at h ⊢
 rw[ho]at h ⊢
 dsimp only at h ⊢
 rcases CI h with ⟨h,g⟩ | ⟨h,g⟩
 ·refine g t2 ht ?_
  rw[RB (DA ht)]
  exact abZ hn (fun v c h=>hk v c h) h
 ·exact g t2 ht (hs _ h)
theorem adS{t:Tm}{d d':Option Tmp}{v v':AV}(h:∀x,d=some x→d'≠some x):put (put t d v) d' v'=put (put t d' v') d v:=by
 cases d with
 |none=>rfl
 |some x=>cases d' with
  |none=>rfl
  |some y=>
   have aQ:y≠x:=fun e=>h x rfl (by rw[e])
   funext i
   show (match Nat.beq i y with | true=>v' | false=>match Nat.beq i x with | true=>v | false=>t i)=(match Nat.beq i x with | true=>v | false=>match Nat.beq i y with | true=>v' | false=>t i)
   cases h1:Nat.beq i y <;> cases h2:Nat.beq i x <;> first | rfl | exact absurd ((jF h1).symm.trans (jF h2)) aQ
theorem T0{t:Tm}{d:Option Tmp}{v:AV}{x:Tmp}(h:d≠some x):put t d v x=t x:=by
 cases d with
 |none=>rfl
 |some y=>
  show (match Nat.beq x y with | true=>v | false=>t x)=t x
  cases hb:Nat.beq x y with
  |false=>rfl
  |true=>exact absurd (by rw[jF hb]) h
def VW(ops:List Oper)(rows:List (List Nat)):Prop:=∀(k:Nat) (row:List Nat),rows[k]?=some row→Ef ops k row
theorem acO{ops:List Oper}(h0:sn ops=true){ax:List Bool}{i j:Nat}{oi oj:Oper}(jB:i≠j)(hi:ops[i]?=some oi)(hj:ops[j]?=some oj)(Jl:ax.getD i true=false)(Jk:ax.getD j true=false)(dU:uH ops ax oi)(Ov:uH ops ax oj):oi.apart ops.toArray oj=true:=by
 rcases (Lr h0).2 i j oi oj hi hj with e | e | e | e
 ·exact absurd e jB
 ·obtain⟨ed,h1,h2,rfl⟩:=An e
  have:=dU ed (by simpa using h1) h2
  rw[Hr Jk]at this;cases this
 ·obtain⟨ed,h1,h2,rfl⟩:=An e
  have:=Ov ed (by simpa using h1) h2
  rw[Hr Jl]at this;cases this
 ·exact e
theorem ac0{ops:List Oper}{k:Nat}(h:Em ops k=true):∃o,ops[k]?=some o∧H7 o.op=true:=by
 unfold Em at h
 split at h
 ·rename_i o ho;exact⟨o,ho,h⟩
 ·cases h
theorem Q1{ops:List Oper}{rows:List (List Nat)}{Q:List Nat}{ax:List Bool}{j:Nat}(h:A5 ops rows Q ax j=true):∃o,ops[j]?=some o∧vH ops Q j=false∧((blind o.op=true∧eY j Q=false)∨∀k,k<ops.length→ax.getD k false=true∨vH ops Q k=false∨eY j ((rows[k]?).getD [])=true∨(tK o.op=true∧eY j Q=false∧Em ops k=true)):=by
 unfold A5 at h
 split at h
 ·rename_i o ho
  refine⟨o,ho,?_⟩
  simp only[o6,bL,jl]at h
  rcases h with ⟨h1,h2⟩ | ⟨h1,h2⟩
  ·exact⟨by unfold vH oI;rw[ho];simp[h1],.inl ⟨h1,h2⟩⟩
  ·refine⟨?_,.inr fun k hk=>?_⟩
   ·unfold vH oI;rw[ho]
    rcases h1 with h1 | h1 <;> simp[h1]
   ·have:=fI.1 h2 k (gb.2 hk)
    simp only[o6,bL,jl]at this
    rcases this with ((h | h) | h) | ⟨⟨h3,h4⟩,h5⟩
    ·exact .inl h
    ·exact .inr (.inl h)
    ·exact .inr (.inr (.inl h))
    ·exact .inr (.inr (.inr ⟨h3,h4,h5⟩))
 ·cases h
theorem Zr{ops:List Oper}{rows:List (List Nat)}{Q:List Nat}{K:Tm→Hp→Prop}(h0:sn ops=true)(hR:VW ops rows){j:Nat}:∀(n:Nat) (ax:List Bool) (t:Tm) (σ:Hp),AU ops ax→j∈iT ops ax→A5 ops rows Q ax j=true→
  jM P TT ops (eY j Q) j t σ (fun t' σ'=>qH P TT ops Q n (ax.set j true) t' σ' K)→qH P TT ops Q (n+1) ax t σ K:=by
 intro n
 induction n with
 |zero=>
  intro ax t σ hc hj hf h
  obtain⟨oj,ho,he,_⟩:=Q1 hf
  obtain⟨v,h1,_⟩:=MC ho he h
  exact h1.elim
 |succ n ih=>
  intro ax t σ hc hj hf h
  obtain⟨oj,ho,he,afY⟩:=Q1 hf
  obtain⟨Jk,oj',gp,Ov⟩:=wV.1 hj
  rw[ho]at gp;cases gp
  obtain⟨v,h1,h2⟩:=MC ho he h
  rw[wZ]
  refine⟨fun hn=>by rw[hn]at hj;(cases hj),fun i hi=>?_⟩
  by_cases jB:i=j
  ·subst jB
   exact h2 t σ (fun _ _=>rfl) (.inl rfl) _ h1
  obtain⟨Jl,oi,kc,dU⟩:=wV.1 hi
  have wA:=Oper.apart_spec (acO h0 jB kc ho Jl Jk dU Ov)
  rw[wZ]at h1
  have oG:=h1.2 i (Rs hi jB)
  have Bf:∀d∈oi.looksAt ops.toArray,t d=put t oj.dst v d:=fun d hd=>(T0 fun e=>wA.2.2 d e hd).symm
  have tZ:∀u,put (put t oj.dst v) oi.dst u=put (put t oi.dst u) oj.dst v:=fun u=>adS fun x hx hi=>wA.2.1 x hi hx
  have j5:(ax.set j true).set i true=(ax.set i true).set j true:=List.set_comm _ _ (Ne.symm jB)
  have Fl:=hc.set kc dU
  have uo:=Rs hj (Ne.symm jB)
  have hfi:A5 ops rows Q (ax.set i true) j=true:=by
   unfold A5 at hf ⊢
   rw[ho]at hf ⊢
   simp only[o6,bL,jl]at hf ⊢
   refine hf.imp id fun h=>⟨h.1,fI.2 fun k hk=>?_⟩
   have:=fI.1 h.2 k hk
   simp only[o6,jl]at this ⊢
   exact this.imp (fun h=>h.imp (fun h=>h.imp PU id) id) id
  have hlj:∀u,∀d∈oj.looksAt ops.toArray,put t oi.dst u d=t d:=fun u d hd=>T0 fun e=>wA.1 d e hd
  have fin:∀u σ',(σ'=σ∨(blind oj.op=true∧eY j Q=false)∨(tK oj.op=true∧eY j Q=false∧∃c,σ'=c::σ))→qH P TT ops Q n ((ax.set j true).set i true) (put (put t oj.dst v) oi.dst u) σ' K→qH P TT ops Q (n+1) (ax.set i true) (put t oi.dst u) σ' K:=fun u σ' aE hh=>by
   refine ih (ax.set i true) (put t oi.dst u) σ' Fl uo hfi ?_
   refine h2 _ σ' (hlj u) aE _ ?_
   rw[j5,tZ]at hh
   exact hh
  cases B1:vH ops Q i with
  |true=>
   have hb:(blind oj.op=true∧eY j Q=false)∨(tK oj.op=true∧eY j Q=false∧Em ops i=true):=by
    rcases afY with h | h
    ·exact .inl h
    ·have ab:i<ops.length:=(ck.1 kc).1
     rcases h i ab with h | h | h | h
     ·rw[Hr Jl]at h;cases h
     ·rw[B1]at h;cases h
     rotate_left
     ·exact .inr h
     ·cases hq:rows[i]? with
      |none=>rw[hq]at h;cases h
      |some row=>
       rw[hq]at h
       have:=hR i row hq oi kc ax hc dU j (SV.1 h)
       rw[Hr Jk]at this;cases this
   rcases hb with hb | ⟨hl,hq,ib⟩
   ·exact GU kc Bf (fun u σ' hh=>fin u σ' (.inr (.inl hb)) hh) oG
   ·obtain⟨oi',WR,hn⟩:=ac0 ib
    rw[kc]at WR;cases WR
    have hqi:eY i Q=false:=by
     unfold vH at B1
     rw[kc]at B1
     simp only[bL,jl]at B1
     exact B1.2
    rw[hqi]at oG ⊢
    exact abX kc hn Bf (fun u c hh=>fin u (c::σ) (.inr (.inr ⟨hl,hq,c,rfl⟩)) hh) (fun u hh=>fin u σ (.inl rfl) hh) oG
  |false=>
   obtain⟨u,k1,k2⟩:=MC kc B1 oG
   exact k2 t σ Bf (.inl rfl) _ (fin u σ (.inl rfl) k1)
theorem adE{ops:List Oper}{rows:List (List Nat)}{Q:List Nat}{K:Tm→Hp→Prop}(h0:sn ops=true)(hR:VW ops rows):∀(s:re) (n:Nat) (nz:List Nat) (ax:List Bool) (t:Tm) (σ:Hp),lF ops rows Q s n nz ax=true→AU ops ax→vB P TT ops s t σ K→
  (nz=[]→qH P TT ops Q n ax t σ K)∧((∀i∈nz,i∈iT ops ax)→∀i∈nz,jM P TT ops (eY i Q) i t σ fun t' σ'=>qH P TT ops Q n (ax.set i true) t' σ' K):=by
 intro s
 induction s with
 |stop=>
  intro n nz ax t σ hs hc h
  unfold lF at hs
  split at hs
  ·rename_i n _ _ _ hr
   refine⟨fun _=>?_,fun _ i hi=>by cases hi⟩
   rw[wZ,hr]
   exact⟨fun _=>h,fun i hi=>by cases hi⟩
  ·cases hs
 |one j q s ih=>
  intro n nz ax t σ hs hc h
  have step:∀m,eY j Q=q→j∈iT ops ax→lF ops rows Q s m [] (ax.set j true)=true→jM P TT ops (eY j Q) j t σ fun t' σ'=>qH P TT ops Q m (ax.set j true) t' σ' K:=fun m hq hj hs=>by
   obtain⟨_,o,ho,hr⟩:=wV.1 hj
   rw[hq]
   have h:jM P TT ops q j t σ fun t' σ'=>vB P TT ops s t' σ' K:=h
   exact GU ho (fun _ _=>rfl) (fun v σ' hh=>(ih m [] _ _ σ' hs (hc.set ho hr) hh).1 rfl) h
  unfold lF at hs
  split at hs
  ·rename_i n
   simp only[bL,o6,beq_iff_eq]at hs
   obtain⟨⟨⟨h1,h2⟩,h3⟩,h4⟩:=hs
   have hj:=SV.1 h2
   refine⟨fun _=>?_,fun _ i hi=>by cases hi⟩
   have an:=step n h1 hj h4
   rcases h3 with h3 | h3
   ·exact Zr h0 hR n ax t σ hc hj h3 an
   ·split at h3
    ·rename_i i hr
     rw[wZ,hr]
     refine⟨fun h=>(by cases h),fun k hk=>?_⟩
     obtain rfl:=bh.1 hk
     obtain rfl:=jF h3
     exact an
    ·cases h3
  ·rename_i i
   simp only[bL,beq_iff_eq]at hs
   obtain⟨⟨h1,h2⟩,h4⟩:=hs
   refine⟨fun h=>(by cases h),fun hp k hk=>?_⟩
   obtain rfl:=jF h2
   obtain rfl:=bh.1 hk
   exact step _ h1 (hp k hk) h4
  ·cases hs
 |alt j s r ih jP=>
  intro n nz ax t σ hs hc h
  obtain⟨ha,hb⟩:jM P TT ops false j t σ (fun t' σ'=>vB P TT ops s t' σ' K)∧vB P TT ops r t σ K:=h
  have step:∀m,eY j Q=false→j∈iT ops ax→lF ops rows Q s m [] (ax.set j true)=true→jM P TT ops (eY j Q) j t σ fun t' σ'=>qH P TT ops Q m (ax.set j true) t' σ' K:=fun m hq hj hs=>by
   obtain⟨_,o,ho,hr⟩:=wV.1 hj
   rw[hq]
   exact GU ho (fun _ _=>rfl) (fun v σ' hh=>(ih m [] _ _ σ' hs (hc.set ho hr) hh).1 rfl) ha
  unfold lF at hs
  split at hs
  ·rename_i n
   split at hs
   ·rename_i i i2 l hr
    simp only[bL,jl]at hs
    obtain⟨⟨⟨h1,h2⟩,h3⟩,h4⟩:=hs
    obtain rfl:=jF h1
    refine⟨fun _=>?_,fun _ i hi=>by cases hi⟩
    rw[wZ,hr]
    refine⟨fun h=>(by cases h),fun k hk=>?_⟩
    rcases dA.1 hk with rfl | hk
    ·exact step n h2 (by rw[hr];exact bU ..) h3
    ·exact (jP n (i2::l) ax t σ h4 hc hb).2 (fun i hi=>by rw[hr];exact cQ _ hi) k hk
   ·cases hs
  ·rename_i i i2 l
   simp only[bL,jl]at hs
   obtain⟨⟨⟨h1,h2⟩,h3⟩,h4⟩:=hs
   obtain rfl:=jF h1
   refine⟨fun h=>(by cases h),fun hp k hk=>?_⟩
   rcases dA.1 hk with rfl | hk
   ·exact step n h2 (hp _ (bU ..)) h3
   ·exact (jP n (i2::l) ax t σ h4 hc hb).2 (fun i hi=>hp i (cQ _ hi)) k hk
  ·cases hs
 |BF j s r ih jP=>
  intro n nz ax t σ hs hc h
  obtain⟨ha,hb⟩:jM P TT ops true j t σ (fun t' σ'=>vB P TT ops s t' σ' K)∧vB P TT ops r t σ K:=h
  have step:∀m,eY j Q=true→j∈iT ops ax→lF ops rows Q s m [] (ax.set j true)=true→jM P TT ops (eY j Q) j t σ fun t' σ'=>qH P TT ops Q m (ax.set j true) t' σ' K:=fun m hq hj hs=>by
   obtain⟨_,o,ho,hr⟩:=wV.1 hj
   rw[hq]
   exact GU ho (fun _ _=>rfl) (fun v σ' hh=>(ih m [] _ _ σ' hs (hc.set ho hr) hh).1 rfl) ha
  unfold lF at hs
  split at hs
  ·rename_i n
   split at hs
   ·rename_i i i2 l hr
    simp only[bL]at hs
    obtain⟨⟨⟨h1,h2⟩,h3⟩,h4⟩:=hs
    obtain rfl:=jF h1
    refine⟨fun _=>?_,fun _ i hi=>by cases hi⟩
    rw[wZ,hr]
    refine⟨fun h=>(by cases h),fun k hk=>?_⟩
    rcases dA.1 hk with rfl | hk
    ·exact step n h2 (by rw[hr];exact bU ..) h3
    ·exact (jP n (i2::l) ax t σ h4 hc hb).2 (fun i hi=>by rw[hr];exact cQ _ hi) k hk
   ·cases hs
  ·rename_i i i2 l
   simp only[bL]at hs
   obtain⟨⟨⟨h1,h2⟩,h3⟩,h4⟩:=hs
   obtain rfl:=jF h1
   refine⟨fun h=>(by cases h),fun hp k hk=>?_⟩
   rcases dA.1 hk with rfl | hk
   ·exact step n h2 (hp _ (bU ..)) h3
   ·exact (jP n (i2::l) ax t σ h4 hc hb).2 (fun i hi=>hp i (cQ _ hi)) k hk
  ·cases hs
theorem Zn{o:Oper}{ρ:Operand→AV}{σ:Hp}{K:AV→Prop}(ok:dH P TT)(h:vT P TT o.op ρ σ K)(a:Act)(F:Nat→Prop)(w:World)(hx:∀x∈o.op.operands.toList,aA F w (ρ x) (a.eval x))(aE:bf F w σ)(next:Act→World→Prop)(Q:Exit→Act→World→Prop)(hn:∀v u F' w',bB F w F' w'→bf F' w' σ→aA F' w' v u→K v→next (a.put o.dst u) w'):wq P o a w next Q:=by
 obtain⟨v,h1,h2⟩:=RC ok h
 exact h2 a F w hx aE next Q fun u F' w' k1 k2 k3=>hn v u F' w' k1 k2 k3 h1
theorem aeL(ok:dH P TT){B n:Nat}{ops:List Oper}{Q:List Nat}(hd:∀o∈ops,∀d,o.dst=some d→d<n){K:Tm→Hp→Prop}{Q':Exit→Act→World→Prop}{F0:Nat→Prop}{w0:World}(hq:∀t' σ' F' w' a',bB F0 w0 F' w'→dw B n F' w' t' σ' a'→K t' σ'→Q' .normal a' w'):
  ∀(m:Nat) (ax:List Bool) (t:Tm) (σ:Hp) (F:Nat→Prop) (w:World) (a:Act),left ax.toArray≤m→ax.length=ops.length→qH P TT ops Q (m+1) ax t σ K→dw B n F w t σ a→bB F0 w0 F w→xt P .any ops.toArray (xw Q') m ax.toArray a w:=by
 intro m
 induction m with
 |zero=>
  intro ax t σ F w a hl hlen h hs an
  have hr:iT ops ax=[]:=by
   rw[← sm,Ki]
   intro j hj
   have:=(mem_ready.1 hj).1
   rw[Li (by omega)]at this
   cases this
  rw[wZ]at h
  exact⟨by rw[sm];exact hr,hq t σ F w a an hs (h.1 hr)⟩
 |succ m ih=>
  intro ax t σ F w a hl hlen h hs an
  rw[wZ]at h
  refine⟨fun hr=>hq t σ F w a an hs (h.1 (by rw[← sm];exact hr)),fun j hj=>?_⟩
  rw[sm]at hj
  have h:=h.2 j hj
  have guard:∀{o:Oper} {b:Bool},uV ops o t b→Region.wanted o (yielded ops.toArray a.tmps)=b:=fun hg=>Gt hg fun d _=>⟨F,w,hs.tm d⟩
  obtain⟨fq,o,ho,_⟩:=wV.1 hj
  have j5:(ax.set j true).toArray=ax.toArray.setIfInBounds j true:=by simp
  have ahO:ax.toArray.getD j true=false:=by
   rw[gW,zY,← aW];exact fq
  have ab:left (ax.toArray.setIfInBounds j true)≤m:=by have:=C6 ahO;omega
  have qG:∀(x:AV) (u:Value) (σ':Hp) (F':Nat→Prop) (w':World),bB F w F' w'→bf F' w' σ'→aA F' w' x u→qH P TT ops Q (m+1) (ax.set j true) (put t o.dst x) σ' K→xt P .any ops.toArray (xw Q') m (ax.toArray.setIfInBounds j true) (a.put o.dst u) w':=fun x u σ' F' w' q1 q2 q3 hk=>by
   rw[← j5]
   exact ih _ _ σ' F' w' _ (by rw[j5];exact ab) (by simpa using hlen) hk (hs.put q1 q2 q3 (hd o (List.mem_of_getElem? ho))) (an.trans q1)
  unfold jM at h
  rw[ho]at h
  dsimp only at h
  unfold ou
  rw[show ops.toArray[j]?=some o by simpa using ho]
  cases hq':eY j Q with
  |true=>
   rw[hq']at h
   dsimp only at h
   rcases yE h with ⟨hg,h⟩ | ⟨hg,h⟩
   ·simp only[guard hg,if_true]
    exact (Zn ok h a F w (fun x _=>hs.tm.eval x) hs.hp _ _ fun v u F' w' k1 k2 k3 k4=>qG v u σ F' w' k1 k2 k3 k4)
   ·simp only[guard hg,l4,if_false]
    exact qG (.tup []) undef σ F w (.refl _ _) hs.hp yz h
  |false=>
   rw[hq']at h
   dsimp only at h
   rcases yE h with ⟨hg,h⟩ | ⟨hg,h⟩
   ·simp only[guard hg,if_true]
    refine (Ld ok h a F w (fun x _=>hs.tm.eval x) hs.hp _ _ ?_)
    intro v av σ' F' w' q1 q2 q3 q4
    exact qG av v σ' F' w' q1 q2 q3 q4
   ·simp only[guard hg,l4,if_false]
    exact qG (.tup []) undef σ F w (.refl _ _) hs.hp yz h
theorem Qf(ok:dH P TT)(hm:P.follows .mixedOrders=true){r:Option Nat}{B n id:Nat}{ops:Array Oper}{t:Tm}{σ:Hp}{K:Tm→Hp→Prop}{F:Nat→Prop}{w:World}{a:Act}{Q:Exit→Act→World→Prop}{Q0:List Nat}{s:re}(h0:HH ops.toList Q0 s=true)(h:vB P TT ops.toList s t σ K)(hd:∀o∈ops.toList,∀d,o.dst=some d→d<n)(cf:∀o∈ops.toList,∀c,o.op≠.defer c)(hs:dw B n F w t σ a)
  (hq:∀t' σ' F' w' a',bB F w F' w'→dw B n F' w' t' σ' a'→K t' σ'→Q .normal a' w'):(Code.region id ops true).wpIn (FW r) 0 P Q a w:=by
 have pF:bB F w F { w with drawn:=w.drawn+1 }:=yw hs.hp.low rfl rfl rfl (aR _) (fun _ _=>rfl)
 unfold HH at h0
 simp only[bL]at h0
 obtain⟨⟨h1,h2⟩,h3⟩:=h0
 have cD:=(adE (K:=K) h1 (Sx ops.toList [] [] rfl rfl (fun k row h=>by cases h)) s _ [] _ t σ h3 (fun j o ho hl=>by
  rw[aW,wM]at hl
  split at hl <;> cases hl) h).1 rfl
 refine wpIn_mono (KM hm cf ?_) SS
 have key:=aeL (P:=P) (Q':=Q) ok hd (F0:=F) (w0:=w) hq ops.toList.length (List.replicate ops.toList.length false) t σ F { w with drawn:=w.drawn+1 } a (by
   unfold left
   refine Nat.le_trans (List.length_filter_le _ _) (by simp)) (by simp) cD ⟨hs.tm.mono pF,hs.hp.same pF (fun _ _=>rfl),hs.size,hs.defers.mono pF⟩ pF
 simpa using key
end
end Go.Proofs.YtnikdflhefijbaaGreat
