import Derived.OrdersHeld
import Derived.Test.YtnikdflhefijbaaGreatBn3
namespace Go.Proofs.YtnikdflhefijbaaGreat
open Go.RowKit
section
variable {P:Program} {TT:TypeId→Option TI}
def Ix(P:Program)(ops:List Oper)(σ:Hp)(o:Oper)(t:Tm)(v:AV):Prop:=(vk ops o t true∧Nb P o (ev t) σ v)∨(vk ops o t false∧v=.tup [])
def pP:Tm→List Oper→List AV→Nat→Tm
 |t,o::l,v::vs,i+1=>pP (put t o.dst v) l vs i
 |t,_,_,_=>t
theorem S7(ok:dI P TT){ops:List Oper}{σ:Hp}{K:Tm→Prop}:∀(l:List Oper) (t:Tm),I0 P TT ops l t σ K→∃cz:List AV,cz.length=l.length∧(∀(i:Nat) (o:Oper) (v:AV),l[i]?=some o→cz[i]?=some v→Ix P ops σ o (pP t l cz i) v)∧K (pP t l cz l.length)
 | [],t,h=>⟨[],rfl,fun i o v h=>by simp at h,h⟩
 |o::l,t,h=>by
  have go:∀v,Ix P ops σ o t v→I0 P TT ops l (put t o.dst v) σ K→∃cz:List AV,cz.length=(o::l).length∧(∀(i:Nat) (o':Oper) (v:AV),(o::l)[i]?=some o'→cz[i]?=some v→Ix P ops σ o' (pP t (o::l) cz i) v)∧K (pP t (o::l) cz (o::l).length):=by
   intro v hv hk
   obtain⟨cz,h1,h2,h3⟩:=S7 ok l _ hk
   refine⟨v::cz,by simp[h1],fun i o' v' ho o7=>?_,h3⟩
   cases i with
   |zero=>simp at ho o7;subst ho;subst o7;exact hv
   |succ i=>exact h2 i o' v' (by simpa using ho) (by simpa using o7)
  rcases yQ h with ⟨hg,h⟩ | ⟨hg,h⟩
  ·obtain⟨v,hk,hl⟩:=RV ok h
   exact go v (.inl ⟨hg,hl⟩) hk
  ·exact go (.tup []) (.inr ⟨hg,rfl⟩) h
theorem Dy{x:Tmp}:∀(l:List Oper) (cz:List AV) (t:Tm) (i:Nat),(∀j,j<i→∀o,l[j]?=some o→o.dst≠some x)→pP t l cz i x=t x
 | [],_,_,i,_=>by cases i <;> rfl
 |_::_,[],_,i,_=>by cases i <;> rfl
 |o::l,v::cz,t,0,_=>rfl
 |o::l,v::cz,t,i+1,h=>by
  have h0:=h 0 (by omega) o rfl
  rw[pP,Dy l cz _ i (fun j hj o' ho=>h (j+1) (by omega) o' (by simpa using ho))]
  cases hd:o.dst with
  |none=>rfl
  |some d=>
   have:Nat.beq x d=false:=by
    cases hb:Nat.beq x d with
    |false=>rfl
    |true=>exact absurd (by rw[hd,jN hb]) h0
   show (match Nat.beq x d with | true=>v | false=>t x)=t x
   rw[this]
theorem Ml{x:Tmp}{v:AV}{p:Oper}:∀(l:List Oper) (cz:List AV) (t:Tm) (i j:Nat),j<i→l[j]?=some p→p.dst=some x→(∀k,k<i→k≠j→∀o,l[k]?=some o→o.dst≠some x)→cz[j]?=some v→pP t l cz i x=v
 | [],_,_,_,_,_,hp,_,_,_=>by simp at hp
 |_::_,[],_,_,_,_,_,_,_,hv=>by simp at hv
 |_::_,_::_,_,0,_,hj,_,_,_,_=>by omega
 |o::l,u::cz,t,i+1,0,_,hp,hx,hn,hv=>by
  simp at hp hv
  subst hp;subst hv
  rw[pP,Dy l cz _ i (fun k hk o' ho=>hn (k+1) (by omega) (by omega) o' (by simpa using ho))]
  simp[put,hx]
 |o::l,u::cz,t,i+1,j+1,hj,hp,hx,hn,hv=>
  Ml l cz (put t o.dst u) i j (by omega) (by simpa using hp) hx (fun k hk aX o' ho=>hn (k+1) (by omega) (by omega) o' (by simpa using ho)) (by simpa using hv)
structure P8(ops:List Oper):Prop where
 back:∀(i:Nat) (o:Oper),ops[i]?=some o→∀e∈o.after,Region.binds .any e=true→e.on<i
 Jf:∀(i j:Nat) (o p:Oper) (d:Tmp),ops[i]?=some o→ops[j]?=some p→p.dst=some d→o.dst=some d→i=j
 look:∀(i j:Nat) (o p:Oper) (d:Tmp),ops[i]?=some o→ops[j]?=some p→p.dst=some d→d∈zg ops o→i=j∨(j<i∧qw o j=true)∨(i<j∧qw p i=true)
theorem afQ{ops:List Oper}(h:HD ops=true):P8 ops:=by
 unfold HD at h
 have hz:∀(i:Nat) (o:Oper),ops[i]?=some o→(o,i)∈ops.zipIdx:=fun i o ho=>by
  rw[PI];exact ho
 have cQ:=fun (i:Nat) (o:Oper) (ho:ops[i]?=some o)=>fK.1 h (o,i) (hz i o ho)
 refine⟨fun i o ho e he hb=>?_,fun i j o p d ho hp kP jK=>?_,fun i j o p d ho hp kP hd=>?_⟩
 ·have h1:=cQ i o ho
  simp only[bO]at h1
  have h2:=List.all_eq_true.1 h1.1 e (by simpa using he)
  simp only[hb,FR,po]at h2
  exact cI h2
 ·have h1:=cQ i o ho
  simp only[bO]at h1
  have h2:=fK.1 h1.2 (p,j) (hz j p hp)
  simp only[kP,jK,bO,ra,yu,FR]at h2
  rcases h2.1 with h3 | h3
  ·exact jN h3
  ·cases h3
 ·have h1:=cQ i o ho
  simp only[bO]at h1
  have h2:=fK.1 h1.2 (p,j) (hz j p hp)
  simp only[kP,bO,ra]at h2
  rcases h2.2 with ((h3 | h3) | h3) | h3
  ·exfalso
   have:(zg ops o).any (Nat.beq d)=true:=mF.2 ⟨d,hd,yu d⟩
   rw[this]at h3
   cases h3
  ·exact .inl (jN h3)
  ·exact .inr (.inl ⟨cI h3.1,h3.2⟩)
  ·exact .inr (.inr ⟨cI h3.1,h3.2⟩)
theorem AH{o:Oper}{j:Nat}(h:qw o j=true):∃e∈o.after,Region.binds .any e=true∧e.on=j:=by
 obtain⟨e,h1,h2⟩:=mF.1 h
 simp only[bO]at h2
 exact⟨e,by simpa using h1,h2.1,Nat.eq_of_beq_eq_true h2.2⟩
def left(ax:Array Bool):Nat:=(ax.toList.filter (fun b=> !b)).length
theorem RZ:∀(l:List Bool) (i:Nat),l[i]?=some false→((l.set i true).filter (fun b=> !b)).length+1=(l.filter (fun b=> !b)).length
 | [],i,h=>by simp at h
 |b::l,0,h=>by simp at h;subst h;simp
 |b::l,i+1,h=>by
  have:=RZ l i (by simpa using h)
  cases b <;> simp at this ⊢ <;> omega
theorem Dk{ax:Array Bool}{i:Nat}(h:ax.getD i true=false):left (ax.setIfInBounds i true)+1=left ax:=by
 unfold left
 rw[Array.toList_setIfInBounds]
 refine RZ _ i ?_
 rw[Cz]
 rw[im]at h
 cases hq:ax[i]? with
 |none=>rw[hq]at h;simp at h
 |some b=>rw[hq]at h;simp at h;rw[h]
theorem LC{ax:Array Bool}(h:left ax=0){i:Nat}:ax.getD i true=true:=by
 cases hb:ax.getD i true with
 |true=>rfl
 |false=>have:=Dk hb;omega
structure Jv(P:Program)(ops:List Oper)(t0:Tm)(cz:List AV)(σ:Hp)(B n:Nat)(ax:Array Bool)(F:Nat→Prop)(w:World)(a:Act):Prop where
 hp:bu F w σ
 size:n≤a.tmps.size
 defers:Marks B F w a.defers
 Ni:ax.size=ops.length
 closed:∀(j:Nat) (o:Oper),ops[j]?=some o→ax.getD j false=true→∀e∈o.after,Region.binds .any e=true→ax.getD e.on false=true
 Ov:∀(j:Nat) (o:Oper) (v:AV) (d:Tmp),ops[j]?=some o→o.dst=some d→cz[j]?=some v→ax.getD j false=true→aA F w v (a.tmps.getD d undef)
 out:∀d,(∀(j:Nat) (o:Oper),ops[j]?=some o→o.dst=some d→ax.getD j false=false)→aA F w (t0 d) (a.tmps.getD d undef)
theorem CF{ax:Array Bool}{i:Nat}(h:ax.getD i true=false):ax.getD i false=false:=by
 rw[im]at h ⊢
 cases hq:ax[i]? with
 |none=>rw[hq]at h;simp at h
 |some b=>rw[hq]at h;simpa using h
theorem XX{ax:Array Bool}{i:Nat}(hi:i<ax.size)(h:ax.getD i true=true):ax.getD i false=true:=by
 rw[im]at h ⊢
 rw[qg hi]at h ⊢
 simpa using h
section
variable {ops:List Oper} {t0:Tm} {cz:List AV} {σ:Hp} {B n:Nat} {ax:Array Bool} {F:Nat→Prop} {w:World} {a:Act}
theorem Jv.look(hJ:Jv P ops t0 cz σ B n ax F w a)(ho:P8 ops)(JL:cz.length=ops.length){i:Nat}{o:Oper}(hi:ops[i]?=some o)(fD:ax.getD i true=false)(qW:∀e∈o.after,Region.binds .any e=true→ax.getD e.on false=true){d:Tmp}(hd:d∈zg ops o):
  aA F w (pP t0 ops cz i d) (a.tmps.getD d undef):=by
 by_cases hw:∃(j:Nat) (p:Oper),ops[j]?=some p∧p.dst=some d
 ·obtain⟨j,p,hp,kP⟩:=hw
  have uniq:∀k,k≠j→∀o',ops[k]?=some o'→o'.dst≠some d:=fun k hk o' gw jK=>hk (ho.Jf k j o' p d gw hp kP jK)
  have out:ax.getD j false=false→(i≤j)→aA F w (pP t0 ops cz i d) (a.tmps.getD d undef):=fun hl mA=>by
   rw[Dy ops cz t0 i (fun k hk o' gw=>uniq k (by omega) o' gw)]
   exact hJ.out d fun k o' gw jK=>by rw[ho.Jf k j o' p d gw hp kP jK];exact hl
  rcases ho.look i j o p d hi hp kP hd with e | ⟨h1,h2⟩ | ⟨h1,h2⟩
  ·subst e
   exact out (CF fD) (a8 _)
  ·obtain⟨e,he,hb,rfl⟩:=AH h2
   have hl:=qW e he hb
   have gP:e.on<ops.length:=(ck.1 hp).1
   have hv:cz[e.on]?=some cz[e.on]:=bh (by omega)
   rw[Ml ops cz t0 i e.on h1 hp kP (fun k _ aX=>uniq k aX) hv]
   exact hJ.Ov e.on p _ d hp kP hv hl
  ·obtain⟨e,he,hb,rfl⟩:=AH h2
   refine out ?_ (by omega)
   cases hl:ax.getD j false with
   |false=>rfl
   |true=>
    have:=hJ.closed j p hp hl e he hb
    rw[CF fD]at this
    cases this
 ·rw[Dy ops cz t0 i (fun k _ o' gw jK=>hw ⟨k,o',gw,jK⟩)]
  exact hJ.out d fun j o' gw jK=>absurd ⟨j,o',gw,jK⟩ hw
theorem Z6(ho:P8 ops)(JL:cz.length=ops.length)(hd:∀o∈ops,∀d,o.dst=some d→d<n)(hf:∀(i:Nat) (o:Oper) (v:AV),ops[i]?=some o→cz[i]?=some v→Ix P ops σ o (pP t0 ops cz i) v){Q:Exit→Act→World→Prop}{F0:Nat→Prop}{w0:World}
  (hq:∀F' w' a',bH F0 w0 F' w'→dx B n F' w' (pP t0 ops cz ops.length) σ a'→Q .normal a' w') :
  ∀(fuel:Nat) (ax:Array Bool) (F:Nat→Prop) (w:World) (a:Act),left ax≤fuel→Jv P ops t0 cz σ B n ax F w a→bH F0 w0 F w→xJ P .any ops.toArray Q fuel ax a w:=by
 have fin:∀(ax:Array Bool) (F:Nat→Prop) (w:World) (a:Act),Jv P ops t0 cz σ B n ax F w a→bH F0 w0 F w→Region.ready .any ops.toArray ax=[]→Q .normal a w:=by
  intro ax F w a hJ an hr
  have all:∀j,j<ops.length→ax.getD j false=true:=by
   intro j
   induction j using Nat.strongRecOn with
   |_ j ih=>
    intro hj
    cases hl:ax.getD j true with
    |true=>exact XX (by rw[hJ.Ni];exact hj) hl
    |false=>
     exfalso
     have hm:j∈Region.ready .any ops.toArray ax:=by
      rw[mem_ready]
      refine⟨hl,ops[j],by simp[hj],fun e he hb=>?_⟩
      have:=ho.back j ops[j] (by simp[hj]) e he hb
      exact ih _ this (by omega)
     rw[hr]at hm
     cases hm
  refine hq F w a an ⟨fun d=>?_,hJ.hp,hJ.size,hJ.defers⟩
  by_cases hw:∃(j:Nat) (p:Oper),ops[j]?=some p∧p.dst=some d
  ·obtain⟨j,p,hp,kP⟩:=hw
   have gP:j<ops.length:=(ck.1 hp).1
   have hv:cz[j]?=some cz[j]:=bh (by omega)
   rw[Ml ops cz t0 ops.length j gP hp kP (fun k _ aX o' gw jK=>aX (ho.Jf k j o' p d gw hp kP jK)) hv]
   exact hJ.Ov j p _ d hp kP hv (all j gP)
  ·rw[Dy ops cz t0 ops.length (fun k _ o' gw jK=>hw ⟨k,o',gw,jK⟩)]
   exact hJ.out d fun j o' gw jK=>absurd ⟨j,o',gw,jK⟩ hw
 intro fuel
 induction fuel with
 |zero=>
  intro ax F w a hl hJ an
  have hr:Region.ready .any ops.toArray ax=[]:=by
   rw[KJ]
   intro j hj
   have:=(mem_ready.1 hj).1
   rw[LC (by omega)]at this
   cases this
  exact⟨hr,fin ax F w a hJ an hr⟩
 |succ fuel ih=>
  intro ax F w a hl hJ an
  refine⟨fin ax F w a hJ an,fun i hi=>?_⟩
  obtain⟨fD,o,kr,qW⟩:=mem_ready.1 hi
  have kr:ops[i]?=some o:=by simpa using kr
  have pf:i<ops.length:=(ck.1 kr).1
  have hvi:cz[i]?=some cz[i]:=bh (by omega)
  have Bt:=fun {d:Tmp} (hd:d∈zg ops o)=>hJ.look ho JL kr fD qW hd
  have Wk:∀{b:Bool},vk ops o (pP t0 ops cz i) b→Region.wanted o (yielded ops.toArray a.tmps)=b:=fun hg=>GP hg fun d ⟨j,want,h1,h2⟩=>⟨F,w,Bt (d:=d) (by unfold zg;rw[h1];simp[h2])⟩
  have next:∀(F':Nat→Prop) (w':World) (u:Value),bH F w F' w'→bu F' w' σ→aA F' w' cz[i] u→xJ P .any ops.toArray Q fuel (ax.setIfInBounds i true) (a.put o.dst u) w':=by
   intro F' w' u h1 h2 h3
   have aX:∀j,j≠i→(ax.setIfInBounds i true).getD j false=ax.getD j false:=fun j hj=>getD_set_ne false (Ne.symm hj)
   have Ee:(ax.setIfInBounds i true).getD i false=true:=by simp[Array.getD,hJ.Ni,pf]
   refine ih _ F' w' _ (by have:=Dk fD;omega) ⟨h2,by rw[S1];exact hJ.size,by rw[Ur];exact hJ.defers.mono h1,by simp[hJ.Ni],fun j p hp hl e he hb=>?_,fun j p v d hp kP hv hl=>?_,fun d hn=>?_⟩ (an.trans h1)
   ·refine getD_set_true ?_
    by_cases hj:j=i
    ·subst hj
     rw[kr]at hp
     cases hp
     exact qW e he hb
    ·rw[aX j hj]at hl
     exact hJ.closed j p hp hl e he hb
   ·by_cases hj:j=i
    ·subst hj
     rw[kr]at hp
     cases hp
     rw[hvi]at hv
     cases hv
     have ey:d<a.tmps.size:=sl (hd o (cx kr) d kP) hJ.size
     rw[kP]
     simpa [Act.put,Array.getD,ey]using h3
    ·rw[aX j hj]at hl
     have h4:=(hJ.Ov j p v d hp kP hv hl).mono h1
     have cf:o.dst≠some d:=fun jK=>hj (ho.Jf j i p o d hp kr jK kP)
     cases jK:o.dst with
     |none=>exact h4
     |some d'=>
      have wG:d'≠d:=fun e=>cf (by rw[jK,e])
      show aA F' w' v ((a.tmps.setIfInBounds d' u).getD d undef)
      rw[im]at h4 ⊢
      rw[KK wG]
      exact h4
   ·have cf:o.dst≠some d:=fun jK=>by
     have:=hn i o kr jK
     rw[Ee]at this
     cases this
    have h4:=(hJ.out d fun j p hp kP=>by
     by_cases hj:j=i
     ·subst hj;rw[kr]at hp;cases hp;exact absurd kP cf
     ·rw[← aX j hj];exact hn j p hp kP).mono h1
    cases jK:o.dst with
    |none=>exact h4
    |some d'=>
     have wG:d'≠d:=fun e=>cf (by rw[jK,e])
     show aA F' w' (t0 d) ((a.tmps.setIfInBounds d' u).getD d undef)
     rw[im]at h4 ⊢
     rw[KK wG]
     exact h4
  unfold oL
  rw[show ops.toArray[i]?=some o by simpa using kr]
  rcases hf i o cz[i] kr hvi with ⟨hg,hl⟩ | ⟨hg,hv⟩
  ·simp only[Wk hg,if_true]
   refine (hl a F w (fun x hx=>TG x fun d e=>?_) hJ.hp _ Q (fun u F' w' k1 k2 k3=>next F' w' u k1 k2 k3))
   subst e
   exact Bt (by unfold zg;exact gY _ (List.mem_filterMap.2 ⟨.tmp d,hx,rfl⟩))
  ·simp only[Wk hg,l9,if_false]
   exact next F w undef (.refl _ _) hJ.hp (by rw[hv];exact yK)
end
theorem Yl(ok:dI P TT)(hm:P.follows .mixedOrders=true){r:Option Nat}{B n id:Nat}{ops:Array Oper}{t:Tm}{σ:Hp}{K:Tm→Prop}{F:Nat→Prop}{w:World}{a:Act}{Q:Exit→Act→World→Prop}(h0:HD ops.toList=true)(h:I0 P TT ops.toList ops.toList t σ K)(hd:∀o∈ops.toList,∀d,o.dst=some d→d<n)(cf:∀o∈ops.toList,∀c,o.op≠.defer c)(hs:dx B n F w t σ a)
  (hq:∀t' F' w' a',bH F w F' w'→dx B n F' w' t' σ a'→K t'→Q .normal a' w'):(Code.region id ops true).wpIn (FW r) 0 P Q a w:=by
 obtain⟨cz,h1,h2,h3⟩:=S7 ok _ _ h
 have pL:bH F w F { w with drawn:=w.drawn+1 }:=yH hs.hp.low rfl rfl rfl (a8 _) (fun _ _=>rfl)
 refine Le hm cf ?_
 have key:=Z6 (P:=P) (Q:=Q) (t0:=t) (B:=B) (n:=n) (afQ h0) h1 hd h2 (F0:=F) (w0:=w) (fun F' w' a' k1 k2=>hq _ F' w' a' k1 k2 h3) ops.size (Array.replicate ops.size false) F { w with drawn:=w.drawn+1 } a (by
   unfold left
   refine Nat.le_trans (List.length_filter_le _ _) (by simp)) ⟨hs.hp.same pL (fun _ _=>rfl),hs.size,hs.defers.mono pL,by simp,fun j o ho hl=>?_,fun j o v d ho jK hv hl=>?_,fun d _=>(hs.tm d).mono pL⟩ pL
 ·simpa using key
 ·by_cases hj:j<ops.size <;> simp[Array.getD,hj]at hl
 ·by_cases hj:j<ops.size <;> simp[Array.getD,hj]at hl
end
section
variable {P:Program} {TT:TypeId→Option TI}
def xL(Q:Exit→Act→World→Prop):Exit→Act→World→Prop
 |.panic _,_,_=>False
 |e,a,w=>Q e a w
theorem Tg{Q:Exit→Act→World→Prop}:∀(e:Exit) (a:Act) (w:World),xL Q e a w→Q e a w:=fun e a w h=>by
 cases e <;> first | exact h | exact (h:False).elim
theorem sr(ops:List Oper)(ax:List Bool):Region.ready .any ops.toArray ax.toArray=jd ops ax:=by
 unfold Region.ready jd
 simp only[qf]
 apply List.filter_congr
 intro i hi
 have hi:=gy.1 hi
 have e:∀d,ax.toArray.getD i d=ax.getD i d:=fun d=>by simp[Array.getD_eq_getD_getElem?,List.getD_eq_getElem?_getD]
 rw[e]
 congr 1
 simp only[Ap,bh hi,Kn,F6]
 rw[← Array.all_toList]
 congr 1
 funext x
 simp[Array.getD_eq_getD_getElem?,List.getD_eq_getElem?_getD]
theorem LJ{ops:List Oper}(h:su ops=true):Region.noSelect ops.toArray=true∧∀(i j:Nat) (o p:Oper),ops[i]?=some o→ops[j]?=some p→i=j∨qw o j=true∨qw p i=true∨o.apart ops.toArray p=true:=by
 unfold su at h
 have hz:∀(i:Nat) (o:Oper),ops[i]?=some o→(o,i)∈ops.zipIdx:=fun i o ho=>by
  rw[PI];exact ho
 refine⟨?_,fun i j o p hi hj=>?_⟩
 ·unfold Region.noSelect
  rw[← Array.all_toList]
  refine fK.2 fun o ho=>?_
  obtain⟨i,hi⟩:=re.1 ho
  have:=List.all_eq_true.1 h (o,i) (hz i o (by simpa using hi))
  simp only[bO]at this
  exact this.1
 ·have:=fK.1 h (o,i) (hz i o hi)
  simp only[bO]at this
  have:=fK.1 this.2 (p,j) (hz j p hj)
  simp only[ra]at this
  rcases this with ((h | h) | h) | h
  ·exact .inl (jN h)
  ·exact .inr (.inl h)
  ·exact .inr (.inr (.inl h))
  ·exact .inr (.inr (.inr h))
def Still(ops:List Oper)(i:Nat):Prop:=∀o,ops[i]?=some o→oT o.op=false
def sw(P:Program)(ops:List Oper)(Q:Exit→Act→World→Prop):Nat→Array Bool→Act→World→Prop
 | 0,ax,a,w=>Region.ready .any ops.toArray ax=[]∧Q .normal a w
 |fuel+1,ax,a,w=>(Region.ready .any ops.toArray ax=[]→Q .normal a w)∧
  ∀i∈Region.ready .any ops.toArray ax,oL P ops.toArray Q i (fun a' w'=>(Still ops i→w'=w)∧sw P ops Q fuel (ax.setIfInBounds i true) a' w') a w
theorem QI{ops:List Oper}{Q:Exit→Act→World→Prop}:∀(fuel:Nat) (ax:Array Bool) (a:Act) (w:World),sw P ops Q fuel ax a w→xJ P .any ops.toArray Q fuel ax a w
 | 0,_,_,_,h=>h
 |fuel+1,_,_,_,h=>⟨h.1,fun i hi=>Lo (fun a' w' h'=>QI fuel _ a' w' h'.2) (h.2 i hi)⟩
def D4(ops:List Oper)(ax:Array Bool):Prop:=∀(j:Nat) (o:Oper),ops[j]?=some o→ax.getD j false=true→∀e∈o.after,Region.binds .any e=true→ax.getD e.on false=true
theorem D4.set{ops:List Oper}{ax:Array Bool}(h:D4 ops ax){j:Nat}{o:Oper}(ho:ops[j]?=some o)(hr:∀e∈o.after,Region.binds .any e=true→ax.getD e.on false=true):D4 ops (ax.setIfInBounds j true):=by
 intro k p hp hk e he hb
 by_cases sd:k=j
 ·subst sd
  rw[ho]at hp;cases hp
  exact getD_set_true (hr e he hb)
 ·rw[getD_set_ne false (Ne.symm sd)]at hk
  exact getD_set_true (h k p hp hk e he hb)
theorem XU{ops:List Oper}{Q:Exit→Act→World→Prop}(h0:su ops=true){S:World→Prop}{i:Nat}{oi:Oper}{v:Value}(hi:ops[i]?=some oi):
  ∀(fuel:Nat) (ax:Array Bool) (a:Act) (w:World),ax.size=ops.length→D4 ops ax→(∀e∈oi.after,Region.binds .any e=true→ax.getD e.on false=true)→i∈Region.ready .any ops.toArray ax→YieldsIf P ops.toArray S oi v a→S w→((∀w,S w)∨∀(j:Nat) (o:Oper),ops[j]?=some o→oT o.op=true→ax.getD j false=false→qw o i=true)→
   sw P ops Q fuel (ax.setIfInBounds i true) (a.put oi.dst v) w→sw P ops Q (fuel+1) ax a w:=by
 have fe:ops.toArray[i]?=some oi:=by simpa using hi
 have now:∀(fuel:Nat) (ax:Array Bool) (a:Act) (w:World),YieldsIf P ops.toArray S oi v a→S w→sw P ops Q fuel (ax.setIfInBounds i true) (a.put oi.dst v) w→oL P ops.toArray Q i (fun a' w'=>(Still ops i→w'=w)∧sw P ops Q fuel (ax.setIfInBounds i true) a' w') a w:=
  fun fuel ax a w hy ym H=>X3 fe hy ym ⟨fun _=>rfl,H⟩
 intro fuel
 induction fuel with
 |zero=>
  intro ax a w eF hc qW hr hy ym FH H
  refine⟨fun h=>(by rw[h]at hr;cases hr),fun j hj=>?_⟩
  by_cases uz:j=i
  ·subst uz;exact now 0 ax a w hy ym H
  ·have:=ready_mono hj uz
   rw[H.1]at this
   cases this
 |succ fuel ih=>
  intro ax a w eF hc qW hr hy ym FH H
  refine⟨fun h=>(by rw[h]at hr;cases hr),fun j hj=>?_⟩
  by_cases uz:j=i
  ·subst uz;exact now (fuel+1) ax a w hy ym H
  ·have h1:=H.2 j (ready_mono hj uz)
   obtain⟨Xg,oj,OK,cQ⟩:=mem_ready.1 hj
   have aio:=(mem_ready.1 hr).1
   have Xd:¬(qw oj i=true):=fun hb=>by
    obtain⟨e,he,Ah,e1⟩:=AH hb
    have:=cQ e he Ah
    rw[e1,CF aio]at this
    cases this
   have EO:ops[j]?=some oj:=by simpa using OK
   have wK:oi.apart ops.toArray oj=true:=by
    rcases (LJ h0).2 i j oi oj hi EO with e | e | e | e
    ·exact absurd e.symm uz
    ·obtain⟨ed,he,Ah,e1⟩:=AH e
     have:=qW ed he Ah
     rw[e1,CF Xg]at this
     cases this
    ·exact absurd e Xd
    ·exact e
   have W5:=Region.noSelect_spec (LJ h0).1
   have h2:=ZO OK wK (fun cs b=>W5 i oi cs b fe) (fun cs b=>W5 j oj cs b OK) hy h1
   have ahh:(ax.setIfInBounds i true).setIfInBounds j true=(ax.setIfInBounds j true).setIfInBounds i true:=by rw[Array.setIfInBounds_comm _ _ (Ne.symm uz)]
   refine Lo (fun a' w' h3=>?_) h2
   obtain⟨uu,hC',H'⟩:=h3
   have aiu:S w':=by
    rcases FH with hS | Fi
    ·exact hS w'
    ·cases he:oT oj.op with
     |true=>exact absurd (Fi j oj EO he (CF Xg)) Xd
     |false=>rw[hC' (fun o ho=>by rw[EO]at ho;cases ho;exact he)];exact ym
   refine⟨hC',ih (ax.setIfInBounds j true) a' w' (by simpa using eF) (hc.set EO cQ) (fun e he hb=>getD_set_true (qW e he hb)) (ready_mono hr (Ne.symm uz)) uu aiu ?_ ?_⟩
   ·rcases FH with hS | Fi
    ·exact .inl hS
    ·refine .inr fun k o ho he hk=>?_
     by_cases sd:k=j
     ·subst sd
      have gP:k<ax.size:=by rw[eF];exact (ck.1 EO).1
      simp[Array.getD,gP]at hk
     ·rw[getD_set_ne false (Ne.symm sd)]at hk
      exact Fi k o ho he hk
   ·rw[← ahh]
    exact H'
theorem Sq{o:Op}(h:blind o=true){ρ:Operand→AV}{σ:Hp}{K:AV→Hp→Prop}(hw:ig P TT o ρ σ K):fQ P TT o ρ σ (fun v=>K v σ)∧M3 o=true:=by
 unfold blind at h
 split at h <;> first | exact⟨hw,rfl⟩ | cases h
theorem TP{f:Nat→Prop}:∀{l:List Nat},Og f l→∀i∈l,f i
 | [],_,i,h=>by cases h
 | [x],h,i,hi=>by simp at hi;subst hi;exact h
 |x::y::r,h,i,hi=>by
  rcases eB.1 hi with rfl | hi
  ·exact h.1
  ·exact TP (l:=y::r) h.2 i hi
theorem Q7{o:Op}(h:oT o=false){ρ:Operand→AV}{σ:Hp}{K:AV→Hp→Prop}(hw:ig P TT o ρ σ K):fQ P TT o ρ σ (fun v=>K v σ):=by
 unfold oT at h
 simp only[Ks,ra]at h
 rcases h with h | h
 ·exact (Sq h hw).1
 ·cases o <;> first | exact hw | cases h
theorem acE(ok:dI P TT){B n:Nat}{ops:List Oper}(h0:su ops=true)(hd:∀o∈ops,∀d,o.dst=some d→d<n){K:Tm→Hp→Prop}{Q:Exit→Act→World→Prop}{F0:Nat→Prop}{w0:World}(hq:∀t' σ' F' w' a',bH F0 w0 F' w'→dx B n F' w' t' σ' a'→K t' σ'→Q .normal a' w'):
  ∀(m:Nat) (ax:List Bool) (t:Tm) (σ:Hp) (F:Nat→Prop) (w:World) (a:Act),left ax.toArray≤m→ax.length=ops.length→vT P TT ops (m+1) ax t σ K→dx B n F w t σ a→bH F0 w0 F w→D4 ops ax.toArray→sw P ops (xL Q) m ax.toArray a w:=by
 intro m
 induction m with
 |zero=>
  intro ax t σ F w a hl hlen h hs an hC
  have hr:jd ops ax=[]:=by
   rw[← sr,KJ]
   intro j hj
   have:=(mem_ready.1 hj).1
   rw[LC (by omega)]at this
   cases this
  rw[Su]at h
  rw[hr]at h
  exact⟨by rw[sr];exact hr,hq t σ F w a an hs h⟩
 |succ m ih=>
  intro ax t σ F w a hl hlen h hs an hC
  rw[Su]at h
  split at h
  ·rename_i hr
   refine⟨fun _=>hq t σ F w a an hs h,fun i hi=>?_⟩
   rw[sr,hr]at hi
   cases hi
  ·rename_i i0 r0 hr
   have guard:∀{o:Oper} {b:Bool},vk ops o t b→Region.wanted o (yielded ops.toArray a.tmps)=b:=fun hg=>GP hg fun d _=>⟨F,w,hs.tm d⟩
   have mem:∀j,j∈jd ops ax→∃o,ops[j]?=some o∧ax.toArray.getD j true=false∧∀e∈o.after,Region.binds .any e=true→ax.toArray.getD e.on false=true:=fun j hj=>by
    rw[← sr]at hj
    obtain⟨h1,o,h2,h3⟩:=mem_ready.1 hj
    exact⟨o,by simpa using h2,h1,h3⟩
   have kj:∀j,(ax.set j true).toArray=ax.toArray.setIfInBounds j true:=fun j=>by simp
   split at h
   ·rename_i j hj
    have OR:=List.mem_of_find?_eq_some hj
    have Cb:=List.find?_some hj
    rw[← hr]at OR
    obtain⟨o,ho,fD,qW⟩:=mem j OR
    unfold MZ at Cb
    rw[ho]at Cb
    have ab:left (ax.toArray.setIfInBounds j true)≤m:=by have:=Dk fD;omega
    unfold BF at h
    rw[ho]at h
    have aX:oT o.op=false:=by
     unfold oT
     simp only[ra,bO]at Cb
     rcases Cb with hb | hb
     ·simp[hb]
     ·simp[hb.1]
    have hjr:j∈Region.ready .any ops.toArray ax.toArray:=by rw[sr];exact OR
    have take:∀(S:World→Prop) v,((∀w,S w)∨∀(k:Nat) (o:Oper),ops[k]?=some o→oT o.op=true→ax.toArray.getD k false=false→qw o j=true)→S w→YieldsIf P ops.toArray S o v a→sw P ops (xL Q) m (ax.toArray.setIfInBounds j true) (a.put o.dst v) w→sw P ops (xL Q) (m+1) ax.toArray a w:=fun S v FH ym hy hk=>
     XU h0 ho m ax.toArray a w (by simpa using hlen) hC qW hjr hy ym FH hk
    have qK:∀(x:AV) (u:Value),aA F w x u→vT P TT ops (m+1) (ax.set j true) (put t o.dst x) σ K→sw P ops (xL Q) m (ax.toArray.setIfInBounds j true) (a.put o.dst u) w:=fun x u hx hk=>by
     rw[← kj]
     exact ih _ _ σ F w _ (by rw[kj];exact ab) (by simpa using hlen) hk (hs.put (.refl _ _) hs.hp hx (hd o (List.mem_of_getElem? ho))) an (by rw[kj];exact hC.set ho qW)
    rcases yQ h with ⟨hg,h⟩ | ⟨hg,h⟩
    ·simp only[ra,bO]at Cb
     rcases Cb with hb | ⟨hb,Fi⟩
     ·obtain⟨h1,h2⟩:=Sq hb h
      obtain⟨v,k1,k2⟩:=RX ok h2 h1
      obtain⟨u,r1,r2⟩:=k2 a.eval F w o rfl (fun x _=>hs.tm.eval x)
      exact take (fun _=>True) u (.inl fun _=>trivial) trivial (.inl ⟨guard hg,fun w' _=>r1 w'⟩) (qK v u r2 k1)
     ·obtain⟨v,k1,k2⟩:=GV ok (Q7 aX h)
      obtain⟨u,r1,r2⟩:=k2 a.eval F w o rfl (fun x _=>hs.tm.eval x) hs.hp
      refine take (fun x=>x=w) u (.inr fun k p hp hk hl=>?_) rfl (.inl ⟨guard hg,fun w' e=>by subst e;exact r1⟩) (qK v u r2 k1)
      have:=fK.1 Fi (p,k) (by rw[PI];exact hp)
      have OP:ax.getD k false=false:=by
       rw[im,Ap,← aZ]at hl
       exact hl
      simpa only [hk,OP,FR,po]using this
    ·exact take (fun _=>True) undef (.inl fun _=>trivial) trivial (.inr ⟨guard hg,rfl⟩) (qK (.tup []) undef yK h)
   ·refine⟨fun h1=>absurd h1 (by rw[sr,hr];simp),fun j hj=>?_⟩
    rw[sr]at hj
    obtain⟨o,ho,fD,qW⟩:=mem j hj
    have h:=TP h j (by rw[← hr];exact hj)
    have pf:j<ops.length:=(ck.1 ho).1
    have ab:left (ax.toArray.setIfInBounds j true)≤m:=by have:=Dk fD;omega
    unfold BF at h
    rw[ho]at h
    unfold oL
    rw[show ops.toArray[j]?=some o by simpa using ho]
    have qK:∀(x:AV) (u:Value) (σ':Hp) (F':Nat→Prop) (w':World),bH F w F' w'→bu F' w' σ'→aA F' w' x u→(Still ops j→w'=w)→vT P TT ops (m+1) (ax.set j true) (put t o.dst x) σ' K→(Still ops j→w'=w)∧sw P ops (xL Q) m (ax.toArray.setIfInBounds j true) (a.put o.dst u) w':=fun x u σ' F' w' q1 q2 q3 q4 hk=>by
     refine⟨q4,?_⟩
     rw[← kj]
     exact ih _ _ σ' F' w' _ (by rw[kj];exact ab) (by simpa using hlen) hk (hs.put q1 q2 q3 (hd o (List.mem_of_getElem? ho))) (an.trans q1) (by rw[kj];exact hC.set ho qW)
    cases he:oT o.op with
    |true=>
     have vac:Still ops j→False:=fun hn=>by
      have:=hn o ho
      rw[he]at this
      cases this
     rcases yQ h with ⟨hg,h⟩ | ⟨hg,h⟩
     ·simp only[guard hg,if_true]
      refine (Lx ok h a F w (fun x _=>hs.tm.eval x) hs.hp _ _ ?_)
      intro v av σ' F' w' q1 q2 q3 q4
      exact qK av v σ' F' w' q1 q2 q3 (fun hn=>(vac hn).elim) q4
     ·simp only[guard hg,l9,if_false]
      exact⟨fun _=>trivial,(qK (.tup []) undef σ F w (.refl _ _) hs.hp yK (fun _=>rfl) h).2⟩
    |false=>
     rcases yQ h with ⟨hg,h⟩ | ⟨hg,h⟩
     ·simp only[guard hg,if_true]
      obtain⟨v,k1,k2⟩:=GV ok (Q7 he h)
      obtain⟨u,r1,r2⟩:=k2 a.eval F w o rfl (fun x _=>hs.tm.eval x) hs.hp
      unfold wq
      rw[r1]
      exact qK v u σ F w (.refl _ _) hs.hp r2 (fun _=>rfl) k1
     ·simp only[guard hg,l9,if_false]
      exact⟨fun _=>trivial,(qK (.tup []) undef σ F w (.refl _ _) hs.hp yK (fun _=>rfl) h).2⟩
theorem Rg(ok:dI P TT)(hm:P.follows .mixedOrders=true){r:Option Nat}{B n id:Nat}{ops:Array Oper}{t:Tm}{σ:Hp}{K:Tm→Hp→Prop}{F:Nat→Prop}{w:World}{a:Act}{Q:Exit→Act→World→Prop}(h0:su ops.toList=true)(h:vT P TT ops.toList (ops.toList.length+1) (List.replicate ops.toList.length false) t σ K)(hd:∀o∈ops.toList,∀d,o.dst=some d→d<n)(cf:∀o∈ops.toList,∀c,o.op≠.defer c)(hs:dx B n F w t σ a)
  (hq:∀t' σ' F' w' a',bH F w F' w'→dx B n F' w' t' σ' a'→K t' σ'→Q .normal a' w'):(Code.region id ops true).wpIn (FW r) 0 P Q a w:=by
 have pL:bH F w F { w with drawn:=w.drawn+1 }:=yH hs.hp.low rfl rfl rfl (a8 _) (fun _ _=>rfl)
 refine wpIn_mono (Le hm cf ?_) Tg
 have key:=acE (P:=P) (Q:=Q) ok h0 hd (F0:=F) (w0:=w) hq ops.toList.length (List.replicate ops.toList.length false) t σ F { w with drawn:=w.drawn+1 } a (by
   unfold left
   refine Nat.le_trans (List.length_filter_le _ _) (by simp)) (by simp) h ⟨hs.tm.mono pL,hs.hp.same pL (fun _ _=>rfl),hs.size,hs.defers.mono pL⟩ pL (fun j o ho hl=>by
    simp[Array.getD]at hl)
 simpa using QI _ _ _ _ key
end
section
variable {P:Program} {TT:TypeId→Option TI}
def One(X:(AV→Prop)→Prop):Prop:=∀K,X K→∃v,K v∧∀K':AV→Prop,K' v→X K'
theorem gd{v:AV}:One (fun K=>K v):=fun _ h=>⟨v,h,fun _ h=>h⟩
theorem cS:One (fun _=>False):=fun _ h=>h.elim
theorem rz{p:Prop}{X:(AV→Prop)→Prop}(h:One X):One (fun K=>aG p (X K)):=fun K ⟨hp,h1⟩=>by
 obtain⟨v,h2,h3⟩:=h K h1
 exact⟨v,h2,fun K' hk=>⟨hp,h3 K' hk⟩⟩
theorem GJ{v:AV}:One (fun K=>strict v K):=fun K h=>⟨v,(yS v K)▸h,fun K' h=>by show strict v K';rw[yS];exact h⟩
theorem aeb{α:Type}{l:List α}{n:Int}{f:α→AV}:One (fun K=>bE l n fun d=>K (f d)):=fun _ ⟨x,h0,h1,go⟩=>⟨f x,go,fun _ h=>⟨x,h0,h1,h⟩⟩
theorem HH{b:Bool}:One (fun K=>oV b K):=fun K h=>⟨.bool b,by cases b <;> exact h,fun K' h=>by cases b <;> exact h⟩
theorem S8{t:TypeId}{xs ys:List AV}{f:Bool→Bool}:One (fun K=>EqAt P TT t xs ys fun b=>oV (f b) K):=fun K ⟨h1,h2,go⟩=>by
 obtain⟨v,k1,k2⟩:=HH K go
 exact⟨v,k1,fun K' h=>⟨h1,h2,k2 K' h⟩⟩
theorem aa8{t:TypeId}{m:String}{X:(AV→Prop)→Prop}(h:One X):One (fun K=>fo P t m (X K)):=fun K ⟨hp,h1⟩=>by
 obtain⟨v,h2,h3⟩:=h K h1
 exact⟨v,h2,fun K' hk=>⟨hp,h3 K' hk⟩⟩
theorem aa6(k:TK)(want:Bool)(x y:AV):One (Bp k want x y):=by
 intro K h
 unfold Bp at h
 split at h
 all_goals first | exact⟨_,h,fun _ h=>h⟩ | exact h.elim | exact rz gd K h
theorem aea(op:BinOp)(k:IntKind)(a b:Int):One (I4 op k a b):=by
 cases op <;> first | exact HH | exact rz gd | exact gd | exact cS
theorem aa5(op:BinOp)(k:IntKind)(a b:Int):One (H4 op k a b):=by
 cases op <;> first | exact rz gd | exact cS
theorem C4{b:Bool}{X Y:(AV→Prop)→Prop}(h1:One X)(h2:One Y):One (fun K=>match b with | true=>X K | false=>Y K):=by cases b;exact h2;exact h1
set_option maxHeartbeats 1000000 in
theorem aed(op:BinOp)(t:TypeId)(y0:Operand)(x y:AV):One (EY TT op t y0 x y):=by
 unfold EY
 cases x <;> cases y
 case int.int k a k' b=>cases op <;> first | exact aa5 _ _ _ _ | exact C4 (aea _ _ _ _) cS
 case bool.bool a b=>
  rcases TT t with _ | ⟨k,s,rf,z⟩
  ·exact cS
  ·cases k <;> cases op <;> first | exact HH | exact cS
 case str.str a b=>cases op <;> first | exact HH | exact cS
 all_goals
  cases hc:Uy y0 <;> cases ht:TT t <;> cases op <;> first | exact cS | exact aa6 _ _ _ _
theorem ac0(op:BinOp)(t:TypeId)(y0:Operand)(x y:AV):One (EZ P TT op t y0 x y):=by
 unfold EZ
 split
 ·cases op <;> first | exact S8 (f:=fun b=>b) | exact S8 (f:=fun b=> !b) | exact cS
 ·cases op <;> first | exact rz gd | exact cS
 ·exact aed _ _ _ _ _
theorem afX(op:UnOp)(x:AV):One (E5 op x):=by
 unfold E5
 split <;> first | exact gd | exact cS
theorem abZ(s d:TypeId)(x:AV):One (Eo TT s d x):=by
 unfold Eo
 split <;> first | exact gd | exact rz gd | exact cS
theorem aa4(t:TypeId)(x:AV)(lo hi mx:Option AV):One (Bc TT t x lo hi mx):=by
 unfold Bc
 split
 ·split
  ·split <;> first | exact rz gd | exact cS
  ·split <;> first | exact rz gd | exact cS
  ·split <;> first | exact rz gd | exact cS
  ·exact cS
 ·split
  ·split <;> first | exact rz gd | exact cS
  ·exact cS
 ·exact cS
theorem abX(t:TypeId)(x ix:AV):One (CP TT t x ix):=by
 unfold CP
 split
 ·split <;> first | exact rz aeb | exact rz gd | exact cS
 ·split <;> first | exact rz gd | exact cS
 ·exact cS
theorem XK(s:TypeId)(x:AV)(f:Nat):One (CS TT s x f):=by
 unfold CS
 split
 ·split
  ·split
   ·split <;> first | exact gd | exact cS
   ·exact cS
  ·exact cS
 ·exact cS
theorem aa7(s:TypeId)(x:AV)(f:Nat):One (DZ TT s x f):=by
 unfold DZ
 split
 ·split
  ·split
   ·split <;> first | exact gd | exact cS
   ·exact cS
  ·exact cS
 ·exact cS
theorem ae9(k:TK)(x:AV):One (EH k x):=by
 unfold EH
 split <;> first | exact gd | exact cS
theorem aec(k:TK)(x:AV):One (EX k x):=by
 unfold EX
 split <;> first | exact gd | exact cS
theorem ae7(xs:List AV):One (ED xs):=by
 unfold ED
 split
 ·exact C4 gd cS
 ·exact cS
theorem ae8(xs:List AV):One (EE xs):=by
 unfold EE
 split
 ·exact C4 gd cS
 ·exact cS
theorem abY(x y:AV):One (En x y):=by
 unfold En
 split <;> first | exact gd | exact cS
theorem abU(x:AV):One (D6 x):=by
 unfold D6
 split <;> first | exact gd | exact cS
theorem abW(x:AV):One (Ed x):=by
 unfold Ed
 split <;> first | exact gd | exact cS
theorem abV(i:TI)(a:AV)(σ:Hp):One (qC i a σ):=by
 unfold qC
 split
 ·split <;> first | exact gd | exact cS
 ·exact fun K ⟨j,cs,v,h1,h2,go⟩=>⟨v,go,fun K' h=>⟨j,cs,v,h1,h2,h⟩⟩
 ·exact cS
theorem Y9(t:TypeId)(m k:AV)(c:Bool)(σ:Hp):One (DJ TT t m k c σ):=by
 unfold DJ
 split
 ·intro K ⟨j,b,l,hm,h1,go⟩
  cases c with
  |true=>exact⟨_,go,fun K' h=>⟨j,b,l,hm,h1,h⟩⟩
  |false=>exact⟨_,go,fun K' h=>⟨j,b,l,hm,h1,h⟩⟩
 ·exact cS
theorem HG(o:Op)(ρ:Operand→AV)(σ:Hp):One (fQ P TT o ρ σ):=by
 unfold fQ
 split
 ·exact GJ
 ·exact GJ
 ·split
  ·exact C4 GJ GJ
  ·exact cS
 ·split <;> first | exact gd | exact cS
 ·split <;> first | exact abV _ _ _ | exact cS
 ·split <;> first | exact gd | exact aa8 gd | exact cS
 ·exact ac0 _ _ _ _ _
 ·exact afX _ _
 ·exact abZ _ _ _
 ·split <;> first | exact gd | exact cS
 ·exact gd
 ·exact aa4 _ _ _ _ _
 ·exact XK _ _ _
 ·exact aa7 _ _ _
 ·exact abX _ _ _
 ·split <;> first | exact C4 gd gd | exact gd | exact cS
 ·exact Y9 _ _ _ _ _
 ·split
  ·split <;> first | exact gd | exact cS
  ·exact cS
 ·split
  ·split <;> first | exact ae9 _ _ | exact cS
  ·exact cS
 ·split <;> first | exact ae7 _ | exact cS
 ·split <;> first | exact ae8 _ | exact cS
 ·split <;> first | exact abY _ _ | exact cS
 ·split <;> first | exact abU _ | exact cS
 ·split <;> first | exact abW _ | exact cS
 ·split
  ·split <;> first | exact aec _ _ | exact cS
  ·exact cS
 ·exact cS
theorem Zz{o:Op}(hb:blind o=true){ρ:Operand→AV}{σ σ':Hp}{K:AV→Prop}(h:fQ P TT o ρ σ K):fQ P TT o ρ σ' K:=by
 cases o <;> first | exact h | cases hb | (rename_i c;obtain⟨f,args,cF⟩:=c;cases f <;> first | cases hb | (rename_i b;cases b <;> first | exact h | cases hb))
theorem Ym(c:Call)(ρ:Operand→AV)(σ:Hp):One (fun K=>qt P c ρ (fun f xs=>tX P f xs σ K) (fun _ _=>False)):=by
 have Nf:∀(f:FuncId) (xs:List AV),One (tX P f xs σ):=fun f xs K h=>by
  cases h with
  |mk js r call go=>exact⟨r,go,fun K' h=>.mk js r call h⟩
  |perm hp r call go=>exact⟨r,go,fun K' h=>.perm hp r call h⟩
 unfold qt
 split
 ·split <;> first | exact Nf _ _ | exact cS
 ·split
  ·exact fun K ⟨g,h,go⟩=>(Nf _ _ K go).imp fun v hv=>⟨hv.1,fun K' hk=>⟨g,h,hv.2 K' hk⟩⟩
  ·exact fun K ⟨g,h,go⟩=>(Nf _ _ K go).imp fun v hv=>⟨hv.1,fun K' hk=>⟨g,h,hv.2 K' hk⟩⟩
  ·exact cS
 ·exact cS
theorem Uz(o:Op)(ρ:Operand→AV)(σ:Hp):One (we P TT o ρ σ):=by
 unfold we
 split
 ·exact HG _ _ _
 ·exact Ym _ _ _
 ·exact HG _ _ _
theorem YT{l:Nat}{K K':AV→Hp→Prop}(hk:∀v σ,K v σ→K' v σ){xs:List AV}{σ:Hp}(h:xE P l K xs σ):xE P l K' xs σ:=by
 cases h with
 |mk js R call go=>exact .mk js R call fun r σ' hr=>hk _ _ (go r σ' hr)
 |perm R hp call go=>exact .perm R hp call fun r σ' hr=>(go r σ' hr).imp fun ew h=>⟨h.1,hk _ _ h.2⟩
theorem YF{c:Call}{ρ:Operand→AV}{A B:FuncId→List AV→Prop}{Y Z:Nat→List AV→Prop}(qa:∀f xs,A f xs→B f xs)(Fg:∀l xs,Y l xs→Z l xs)(h:qt P c ρ A Y):qt P c ρ B Z:=by
 unfold qt at h ⊢
 split at h
 ·split at h
  ·exact qa _ _ h
  ·exact Fg _ _ h
  ·exact h.elim
 ·split at h
  ·obtain⟨g,h1,h2⟩:=h;exact⟨g,h1,qa _ _ h2⟩
  ·obtain⟨g,h1,h2⟩:=h;exact⟨g,h1,qa _ _ h2⟩
  ·exact h.elim
 ·exact h.elim
theorem aaK{f:FuncId}{K K':AV→Hp→Prop}(hk:∀v σ,K v σ→K' v σ){xs:List AV}{σ:Hp}(h:CallAt P f K xs σ):CallAt P f K' xs σ:=by
 induction h with
 |mk js R call go=>exact .mk js R call fun r σ' hr=>hk _ _ (go r σ' hr)
 |perm R hp call go=>exact .perm R hp call fun r σ' hr=>(go r σ' hr).imp fun ew h=>⟨h.1,hk _ _ h.2⟩
 |cJ j b off len es cs e l h1 h2 h3 h4 h ih=>exact .cJ j b off len es cs e l h1 h2 h3 h4 ih
 |kl j b off len es cs e l h1 h2 h3 i k b' cs' hi hk h ih=>exact .kl j b off len es cs e l h1 h2 h3 i k b' cs' hi hk ih
theorem aaS{i:TI}{σ:Hp}{s x:AV}{K K':AV→Hp→Prop}(hk:∀v σ,K v σ→K' v σ)(h:AppendAt i σ s x K):AppendAt i σ s x K':=by
 cases h with
 |fresh n new hs hx hn hb h0 go same=>exact .fresh n new hs hx hn hb h0 (fun h b=>hk _ _ (go h b)) (fun h=>hk _ _ (same h))
 |more j b len n cs new hs h1 h2 hx hn hb h0 go=>exact .more j b len n cs new hs h1 h2 hx hn hb h0 (fun b=>hk _ _ (go b))
 |Bq j b off len n cs new hs h1 h2 hx hn hb h0 xX go=>exact .Bq j b off len n cs new hs h1 h2 hx hn hb h0 (hk _ _ xX) (fun b=>hk _ _ (go b))
 |perm K2 hp h ei=>exact .perm K2 hp h fun v ew h=>(ei v ew h).imp fun zS h=>⟨h.1,h.2.imp (hk _ _) fun h=>⟨h.1,hk _ _ h.2⟩⟩
theorem aaR{i:TI}{σ:Hp}{s x:AV}{K K':AV→Hp→Prop}(hk:∀v σ,K v σ→K' v σ)(h:DT i σ s x K):DT i σ s x K':=by
 cases h with
 |ai k n hs hx hn hb h0 go same=>exact .ai k n hs hx hn hb h0 (fun h b=>hk _ _ (go h b)) (fun h=>hk _ _ (same h))
theorem abQ{o:Op}{ρ:Operand→AV}{σ:Hp}{K K':AV→Hp→Prop}(hk:∀v σ,K v σ→K' v σ)(h:ig P TT o ρ σ K):ig P TT o ρ σ K':=by
 have dd:∀{o:Op},fQ P TT o ρ σ (fun v=>K v σ)→fQ P TT o ρ σ (fun v=>K' v σ):=fun h=>by
  obtain⟨v,h1,h2⟩:=HG _ _ _ _ h
  exact h2 _ (hk _ _ h1)
 unfold ig at h ⊢
 split at h
 ·split at h
  ·exact fun b=>hk _ _ (h b)
  ·exact h.elim
 ·split at h
  ·exact fun b=>hk _ _ (h b)
  ·exact h.elim
 ·split at h
  ·split at h
   ·split at h
    ·exact fun b=>hk _ _ (h b)
    ·exact h.elim
   ·exact h.elim
  ·exact h.elim
 ·split at h
  ·split at h
   ·exact⟨h.fact,fun b=>hk _ _ (h.go b)⟩
   ·exact h.elim
  ·exact h.elim
 ·split at h
  ·split at h
   ·obtain⟨j,cs,cs',h1,h2,go⟩:=h;exact⟨j,cs,cs',h1,h2,hk _ _ go⟩
   ·exact h.elim
  ·exact h.elim
 ·split at h
  ·exact fun b=>hk _ _ (h b)
  ·exact h.elim
 ·unfold A3 at h ⊢
  split at h
  ·obtain⟨j,b,l,hm,h1,go⟩:=h;exact⟨j,b,l,hm,h1,hk _ _ go⟩
  ·exact h.elim
 ·unfold A3 at h ⊢
  split at h
  ·obtain⟨j,b,l,hm,h1,go⟩:=h;exact⟨j,b,l,hm,h1,hk _ _ go⟩
  ·exact h.elim
 ·unfold H7 at h ⊢
  split at h
  ·obtain⟨j,b,l,hm,h1,go⟩:=h;exact⟨j,b,l,hm,h1,fun r=>hk _ _ (go r)⟩
  ·exact h.elim
 ·split at h
  ·obtain⟨j,j2,r,b,l,seen,hx,h1,h2,stop,go⟩:=h;exact⟨j,j2,r,b,l,seen,hx,h1,h2,fun h=>hk _ _ (stop h),fun i p h3 h4=>hk _ _ (go i p h3 h4)⟩
  ·exact h.elim
 ·obtain⟨j,j2,r,b,i,l,p,seen,hx,h1,h2,h3,go⟩:=h;exact⟨j,j2,r,b,i,l,p,seen,hx,h1,h2,h3,hk _ _ go⟩
 ·split at h
  ·split at h
   ·split at h
    ·exact aaS hk h
    ·exact h.elim
   ·split at h
    ·exact aaR hk h
    ·exact h.elim
   ·exact h.elim
  ·exact h.elim
 ·split at h
  ·split at h
   ·split at h
    ·cases h with
     |none hs go=>exact .none hs (hk _ _ go)
     |af j b off len cs hs h1 h2 go=>exact .af j b off len cs hs h1 h2 (hk _ _ go)
    ·exact h.elim
   ·exact h.elim
  ·exact h.elim
 ·split at h
  ·split at h
   ·split at h
    ·cases h with
     |none new hd hx go=>exact .none new hd hx (hk _ _ go)
     |af j b off len n cs new hd h1 h2 hx hn go=>exact .af j b off len n cs new hd h1 h2 hx hn (hk _ _ go)
     |part j b off len cs hd h1 h2 j2 b2 nH n kT hx h3 h4 hn go=>exact .part j b off len cs hd h1 h2 j2 b2 nH n kT hx h3 h4 hn (hk _ _ go)
    ·exact h.elim
   ·exact h.elim
  ·exact h.elim
 ·exact dd h
 ·exact YF (fun f xs h=>aaK hk h) (fun l xs h=>YT hk h) h
 ·exact dd h
theorem map_eq{ρ iO:Operand→AV}{l:List Operand}(h:∀x∈l,ρ x=iO x):l.map ρ=l.map iO:=wS h
theorem K0{c:Call}{ρ iO:Operand→AV}(h:∀x∈(Op.call c).operands.toList,ρ x=iO x):(∀f,c.callee=.value f→ρ f=iO f)∧(∀r m,c.callee=.invoke r m→ρ r=iO r)∧∀x∈c.args.toList,ρ x=iO x:=by
 obtain⟨f,args,cF⟩:=c
 simp only[Op.operands,Call.operands,CC,bV]at h
 refine⟨fun g e=>?_,fun r m e=>?_,fun x hx=>h x (.inr hx)⟩
 ·subst e;exact h g (.inl (by simp))
 ·subst e;exact h r (.inl (by simp))
theorem Gv{c:Call}{ρ iO:Operand→AV}{A:FuncId→List AV→Prop}{Y:Nat→List AV→Prop}(h:∀x∈(Op.call c).operands.toList,ρ x=iO x):qt P c ρ A Y=qt P c iO A Y:=by
 obtain⟨h1,h2,h3⟩:=K0 h
 have e:(c.args.toList.map fun x=>bU (ρ x))=c.args.toList.map fun x=>bU (iO x):=wS fun x hx=>by rw[h3 x hx]
 unfold qt
 rw[e]
 split
 ·rename_i f hf;rw[h1 f hf]
 ·rename_i r m hr;rw[h2 r m hr]
 ·rfl
theorem Ly{o:Op}{ρ iO:Operand→AV}{σ:Hp}{K:AV→Prop}(h:∀x∈o.operands.toList,ρ x=iO x):fQ P TT o ρ σ K=fQ P TT o iO σ K:=by
 cases o with
 |call c=>
  obtain⟨f,args,cF⟩:=c
  obtain⟨_,_,h3⟩:=K0 h
  cases f with
  |builtin b=>
   obtain⟨l⟩:=args
   have h3:∀x∈l,ρ x=iO x:=h3
   match l,h3 with
   | [],_=>cases b <;> rfl
   | [x],h3=>
    have hx:=h3 x (by simp)
    cases b <;> first | rfl | (obtain⟨cF⟩:=cF;rcases cF with _ | ⟨t,_ | ⟨t',_ | ⟨zY,r⟩⟩⟩ <;> first | rfl | simp only[fQ,hx])
   | [x,y],h3=>
    have hx:=h3 x (by simp)
    have hy:=h3 y (by simp)
    cases b <;> first | rfl | (obtain⟨cF⟩:=cF;rcases cF with _ | ⟨t,_ | ⟨t',_ | ⟨zY,r⟩⟩⟩ <;> first | rfl | simp only[fQ,hx,hy])
   |_::_::_::_,_=>cases b <;> rfl
  |_=>rfl
 |build t parts=>
  have e:(parts.toList.map fun p=>(p.1,ρ p.2))=parts.toList.map fun p=>(p.1,iO p.2):=wS fun p hp=>by rw[h p.2 (by simp only[Op.operands];exact dT.2 ⟨p,hp,rfl⟩)]
  show (match Im TT t (parts.toList.map fun p=>(p.1,ρ p.2)) with | some v=>K v | none=>False)=_
  rw[e];rfl
 |makeFunc f first cap=>
  have e1:first.toList.map ρ=first.toList.map iO:=map_eq fun x hx=>h x (by simp only[Op.operands,CC,bV];exact .inl hx)
  have e2:cap.toList.map ρ=cap.toList.map iO:=map_eq fun x hx=>h x (by simp only[Op.operands,CC,bV];exact .inr hx)
  show K (.fn f (first.toList.map ρ) (cap.toList.map ρ))=_
  rw[e1,e2];rfl
 |slice t x lo hi mx=>
  have hx:=h x (by simp[Op.operands])
  have e:∀(o:Option Operand),(∀y,o=some y→y∈(Op.slice t x lo hi mx).operands.toList)→(o.map fun x=>bU (ρ x))=o.map fun x=>bU (iO x):=fun o ho=>by
   cases o with
   |none=>rfl
   |some y=>simp[h y (ho y rfl)]
  show Bc TT t (bU (ρ x)) (lo.map fun x=>bU (ρ x)) (hi.map fun x=>bU (ρ x)) (mx.map fun x=>bU (ρ x)) K=_
  rw[hx,e lo (fun y hy=>by subst hy;simp[Op.operands]),e hi (fun y hy=>by subst hy;simp[Op.operands]),e mx (fun y hy=>by subst hy;simp[Op.operands])];rfl
 |pick c a b=>simp only[fQ,h c (by simp[Op.operands]),h a (by simp[Op.operands]),h b (by simp[Op.operands])]
 |binOp op t x y yt=>simp only[fQ,h x (by simp[Op.operands]),h y (by simp[Op.operands])]
 |indexAddr t x y=>simp only[fQ,h x (by simp[Op.operands]),h y (by simp[Op.operands])]
 |lookup t x y c=>simp only[fQ,h x (by simp[Op.operands]),h y (by simp[Op.operands])]
 |_=>first | rfl | (rename_i x;simp only[fQ,h x (by simp[Op.operands])]) | (rename_i x _;simp only[fQ,h x (by simp[Op.operands])]) | (rename_i x _ _;simp only[fQ,h x (by simp[Op.operands])]) | (rename_i x _ _ _;simp only[fQ,h x (by simp[Op.operands])])
theorem RW{o:Op}{ρ iO:Operand→AV}{σ:Hp}{K:AV→Prop}(h:∀x∈o.operands.toList,ρ x=iO x):we P TT o ρ σ K=we P TT o iO σ K:=by
 have hd:=Ly (P:=P) (TT:=TT) (σ:=σ) (K:=K) h
 cases o with
 |call c=>
  obtain⟨f,args,cF⟩:=c
  cases f with
  |builtin b=>exact hd
  |value g=>exact Gv (P:=P) (A:=fun f xs=>tX P f xs σ K) (Y:=fun _ _=>False) h
  |invoke r m=>exact Gv (P:=P) (A:=fun f xs=>tX P f xs σ K) (Y:=fun _ _=>False) h
 |_=>exact hd
theorem RT{o:Op}{ρ iO:Operand→AV}{σ:Hp}{K:AV→Hp→Prop}(h:∀x∈o.operands.toList,ρ x=iO x):ig P TT o ρ σ K=ig P TT o iO σ K:=by
 have hd:=Ly (P:=P) (TT:=TT) (σ:=σ) (K:=fun v=>K v σ) h
 cases o with
 |call c=>
  obtain⟨f,args,cF⟩:=c
  obtain⟨_,_,h3⟩:=K0 h
  cases f with
  |builtin b=>
   obtain⟨l⟩:=args
   have h3:∀x∈l,ρ x=iO x:=h3
   match l,h3 with
   | [],_=>cases b <;> first | exact hd | rfl
   | [x],h3=>
    have hx:=h3 x (by simp)
    cases b <;> first | exact hd | rfl | (obtain⟨cF⟩:=cF;rcases cF with _ | ⟨t,_ | ⟨t',_ | ⟨zY,r⟩⟩⟩ <;> first | rfl | simp only[ig,hx])
   | [x,y],h3=>
    have hx:=h3 x (by simp)
    have hy:=h3 y (by simp)
    cases b <;> first | exact hd | rfl | (obtain⟨cF⟩:=cF;rcases cF with _ | ⟨t,_ | ⟨t',_ | ⟨zY,r⟩⟩⟩ <;> first | rfl | simp only[ig,hx,hy])
   |_::_::_::_,_=>cases b <;> first | exact hd | rfl
  |value g=>exact Gv (P:=P) (A:=fun f xs=>CallAt P f K xs σ) (Y:=fun l xs=>xE P l K xs σ) h
  |invoke r m=>exact Gv (P:=P) (A:=fun f xs=>CallAt P f K xs σ) (Y:=fun l xs=>xE P l K xs σ) h
 |box t x=>simp only[ig,h x (by simp[Op.operands])]
 |buildSlice t len parts=>
  have e:(parts.toList.map fun p=>(p.1,ρ p.2))=parts.toList.map fun p=>(p.1,iO p.2):=wS fun p hp=>by rw[h p.2 (by simp only[Op.operands];exact dT.2 ⟨p,hp,rfl⟩)]
  simp only[ig,e]
 |makeSlice t l c=>simp only[ig,h l (by simp[Op.operands]),h c (by simp[Op.operands])]
 |store t a x=>simp only[ig,h a (by simp[Op.operands]),h x (by simp[Op.operands])]
 |makeMap t r=>cases r with
  |none=>rfl
  |some r=>exact hd
 |mapUpdate t m k x=>simp only[ig,h m (by simp[Op.operands]),h k (by simp[Op.operands]),h x (by simp[Op.operands])]
 |insert t m k x=>simp only[ig,h m (by simp[Op.operands]),h k (by simp[Op.operands]),h x (by simp[Op.operands])]
 |range t x=>simp only[ig,h x (by simp[Op.operands])]
 |next x s=>simp only[ig,h x (by simp[Op.operands])]
 |entry x=>simp only[ig,h x (by simp[Op.operands])]
 |_=>first | exact hd | rfl
theorem xg{ops:List Oper}{Q:List Nat}{n:Nat}{ax:List Bool}{t:Tm}{σ:Hp}{K:Tm→Hp→Prop}:qL P TT ops Q (n+1) ax t σ K=((jd ops ax=[]→K t σ)∧∀i∈jd ops ax,jV P TT ops (fh i Q) i t σ fun t' σ'=>qL P TT ops Q n (ax.set i true) t' σ' K):=rfl
def uQ(_ops:List Oper)(ax:List Bool)(o:Oper):Prop:=∀e∈o.after.toList,Region.binds .any e=true→ax.getD e.on false=true
theorem xc{ops:List Oper}{ax:List Bool}{i:Nat}:i∈jd ops ax↔ax.getD i true=false∧∃o,ops[i]?=some o∧uQ ops ax o:=by
 unfold jd uQ
 simp only[oe,gy,bO,lH]
 constructor
 ·rintro⟨h1,h2,h3⟩
  refine⟨h2,ops[i],by simp[h1],?_⟩
  rw[bh h1]at h3
  intro e he hb
  have:=fK.1 h3 e he
  simpa [hb]using this
 ·rintro⟨h2,o,h1,h3⟩
  refine⟨(ck.1 h1).1,h2,?_⟩
  rw[h1]
  refine fK.2 fun e he=>?_
  cases hb:Region.binds .any e with
  |false=>simp
  |true=>rw[h3 e he hb];simp
def Ba(ops:List Oper)(ax:List Bool):Prop:=∀(j:Nat) (o:Oper),ops[j]?=some o→ax.getD j false=true→uQ ops ax o
theorem P9{l:List Bool}{i k:Nat}(h:l.getD k false=true):(l.set i true).getD k false=true:=by
 rw[aZ]at h ⊢
 rw[fj]
 split
 ·rename_i e;subst e
  split
  ·rfl
  ·rename_i hn;rw[uN (by omega)]at h;cases h
 ·exact h
theorem Qn{l:List Bool}{i k:Nat}(b:Bool)(h:k≠i):(l.set i true).getD k b=l.getD k b:=by
 rw[aZ,aZ,fj,ag (Ne.symm h)]
theorem HP{l:List Bool}{i:Nat}(h:l.getD i true=false):l.getD i false=false:=by
 rw[aZ]at h ⊢
 cases hq:l[i]? with
 |none=>rw[hq]at h;cases h
 |some b=>rw[hq]at h;exact h
theorem uQ.set{ops:List Oper}{ax:List Bool}{o:Oper}(h:uQ ops ax o)(i:Nat):uQ ops (ax.set i true) o:=fun e he hb=>P9 (h e he hb)
theorem Ba.set{ops:List Oper}{ax:List Bool}(h:Ba ops ax){j:Nat}{o:Oper}(ho:ops[j]?=some o)(hr:uQ ops ax o):Ba ops (ax.set j true):=by
 intro k p hp hk
 by_cases sd:k=j
 ·subst sd
  rw[ho]at hp;cases hp
  exact hr.set k
 ·rw[Qn false sd]at hk
  exact (h k p hp hk).set j
theorem RL{ops:List Oper}{ax:List Bool}{i j:Nat}(hi:i∈jd ops ax)(h:i≠j):i∈jd ops (ax.set j true):=by
 obtain⟨h1,o,h2,h3⟩:=xc.1 hi
 exact xc.2 ⟨by rw[Qn true h];exact h1,o,h2,h3.set j⟩
theorem Tj{j:Nat}{l:List Nat}:fh j l=true↔j∈l:=by
 unfold fh
 rw[mF]
 exact⟨fun ⟨x,h1,h2⟩=>jN h2▸h1,fun h=>⟨j,h,yu j⟩⟩
def Eu(ops:List Oper)(k:Nat)(row:List Nat):Prop:=∀o,ops[k]?=some o→∀ax,Ba ops ax→uQ ops ax o→∀j∈row,ax.getD j false=true
theorem adP{ops:List Oper}{acc:List (List Nat)}(hlen:acc.length≤ops.length)(h:∀(k:Nat) (row:List Nat),acc[k]?=some row→Eu ops k row){k:Nat}{o:Oper}(ho:ops[k]?=some o):Eu ops k (NM o acc):=by
 intro o' gw ax hc hr j hj
 rw[ho]at gw;cases gw
 unfold NM at hj
 obtain⟨e,he,hj⟩:=List.mem_flatMap.1 hj
 split at hj
 ·rename_i hb
  have l5:=hr e he hb
  rcases eB.1 hj with rfl | hj
  ·exact l5
  ·cases hq:acc[e.on]? with
   |none=>rw[hq]at hj;simp at hj
   |some row=>
    rw[hq]at hj
    cases hp:ops[e.on]? with
    |some p=>exact h e.on row hq p hp ax hc (hc e.on p hp l5) j (by simpa using hj)
    |none=>
     have h1:=(ck.1 hq).1
     have h2:=List.getElem?_eq_none_iff.1 hp
     omega
 ·cases hj
theorem SQ{ops:List Oper}:∀(os:List Oper) (acc:List (List Nat)) (pre:List Oper),ops=pre++os→acc.length=pre.length→(∀(k:Nat) (row:List Nat),acc[k]?=some row→Eu ops k row)→∀(k:Nat) (row:List Nat),(Nd os acc)[k]?=some row→Eu ops k row
 | [],acc,pre,_,_,h=>h
 |o::os,acc,pre,he,hl,h=>by
  refine SQ os _ (pre++[o]) (by rw[he];simp) (by simp[hl]) ?_
  intro k row hk
  by_cases ab:k<acc.length
  ·rw[ky ab]at hk
   exact h k row hk
  ·have dQ:=hk
   rw[jb (by omega)]at hk
   have hz:k-acc.length=0:=by
    have:=(ck.1 hk).1
    simp at this;omega
   rw[hz]at hk
   simp only[List.getElem?_cons_zero,Option.some.injEq]at hk
   subst hk
   have aK:k=pre.length:=by omega
   have ho:ops[k]?=some o:=by rw[he,aK];simp
   intro o' gw ax hc hr j hj
   exact adP (by rw[he,hl];simp) h ho o' gw ax hc hr j (List.mem_eraseDups.1 hj)
def aiw(want:Bool)(x:AV)(A B:Prop):Prop:=
 match x with
 |.bool b=>(match want,b with | true,true=>A | true,false=>B | false,true=>B | false,false=>A)
 |.tup []=>B
 |_=>False
theorem CQ{ops:List Oper}{o:Oper}{t:Tm}{A B:Prop}(h:pH ops o t A B):
  (A∧∀(t2:Tm),(∀d∈o.looksAt ops.toArray,t2 d=t d)→∀{A' B':Prop},A'→pH ops o t2 A' B')∨(B∧∀(t2:Tm),(∀d∈o.looksAt ops.toArray,t2 d=t d)→∀{A' B':Prop},B'→pH ops o t2 A' B'):=by
 unfold pH at h
 split at h
 ·rename_i hg
  refine .inl ⟨h,fun t2 _ A' B' ha=>?_⟩
  unfold pH;rw[hg];exact ha
 ·rename_i j want hg
  split at h
  ·rename_i d hd
   have zO:d∈o.looksAt ops.toArray:=by
    unfold Oper.looksAt
    rw[hg]
    simp only[Ap,hd,Option.toList_some,bV,bB,or_true]
   have go:∀(t2:Tm),(∀d∈o.looksAt ops.toArray,t2 d=t d)→∀{A' B':Prop},aiw want (t d) A' B'→pH ops o t2 A' B':=fun t2 h2 A' B' hx=>by
    unfold pH
    rw[hg]
    dsimp only
    rw[hd]
    dsimp only
    rw[h2 d zO]
    exact hx
   split at h
   ·rename_i b hb
    cases want <;> cases b
    ·exact .inl ⟨h,fun t2 h2 A' B' ha=>go t2 h2 (by rw[hb];exact ha)⟩
    ·exact .inr ⟨h,fun t2 h2 A' B' ha=>go t2 h2 (by rw[hb];exact ha)⟩
    ·exact .inr ⟨h,fun t2 h2 A' B' ha=>go t2 h2 (by rw[hb];exact ha)⟩
    ·exact .inl ⟨h,fun t2 h2 A' B' ha=>go t2 h2 (by rw[hb];exact ha)⟩
   ·rename_i hb
    exact .inr ⟨h,fun t2 h2 A' B' ha=>go t2 h2 (by rw[hb];exact ha)⟩
   ·exact h.elim
  ·exact h.elim
theorem DP{ops:List Oper}{o:Oper}{t t2:Tm}(h:∀d∈o.looksAt ops.toArray,t2 d=t d):∀x∈o.op.operands.toList,ev t2 x=ev t x:=by
 intro x hx
 cases x with
 |tmp d=>
  refine h d ?_
  unfold Oper.looksAt
  refine gY _ (List.mem_filterMap.2 ⟨_,hx,rfl⟩)
 |_=>rfl
theorem aca{o:Op}(h:tO o=true){ρ:Operand→AV}{σ:Hp}{K:AV→Hp→Prop}:ig P TT o ρ σ K=fQ P TT o ρ σ (fun v=>K v σ):=by
 cases o <;> first | rfl | cases h
theorem aaM{o:Op}(h:blind o=true){ρ:Operand→AV}{σ:Hp}{K:AV→Hp→Prop}:ig P TT o ρ σ K=fQ P TT o ρ σ (fun v=>K v σ):=by
 cases o <;> first | rfl | cases h | (rename_i c;obtain⟨f,args,cF⟩:=c;cases f <;> first | cases h | (rename_i b;cases b <;> first | rfl | cases h))
theorem aal{o:Op}(h:tO o=true){ρ:Operand→AV}{σ:Hp}{K:AV→Prop}(c:Nat×List AV)(hd:fQ P TT o ρ σ K):fQ P TT o ρ (c::σ) K:=by
 have key:∀{i:TI} {a:AV},qC i a σ K→qC i a (c::σ) K:=fun {i a} h=>by
  unfold qC at h ⊢
  cases a <;> first | exact h | (cases h with | mk j cs v h1 h2 go=>exact .mk (j+1) cs v h1 h2 go)
 cases o <;> first | cases h | skip
 unfold fQ at hd ⊢
 dsimp only at hd ⊢
 split at hd
 ·exact key hd
 ·exact hd
theorem ac7{o:Op}(hn:ID o=true){ρ:Operand→AV}{σ:Hp}{K K2:AV→Hp→Prop}(hk:∀v c,K v (c::σ)→K2 v (c::σ))(h:ig P TT o ρ σ K):ig P TT o ρ σ K2:=by
 cases o <;> first | cases hn | skip
 all_goals
  unfold ig at h ⊢
  dsimp only at h ⊢
  split at h
  ·exact fun b=>hk _ _ (h b)
  ·exact h
theorem MN{ops:List Oper}{Q:List Nat}{j:Nat}{o:Oper}(ho:ops[j]?=some o){t:Tm}{σ:Hp}{K:Tm→Hp→Prop}(hk:vR ops Q j=false)(h:jV P TT ops (fh j Q) j t σ K):
  ∃v,K (put t o.dst v) σ∧∀(t2:Tm) (σ2:Hp),(∀d∈o.looksAt ops.toArray,t2 d=t d)→(σ2=σ∨(blind o.op=true∧fh j Q=false)∨(tO o.op=true∧fh j Q=false∧∃c,σ2=c::σ))→∀(K2:Tm→Hp→Prop),K2 (put t2 o.dst v) σ2→jV P TT ops (fh j Q) j t2 σ2 K2:=by
 unfold jV at h ⊢
 rw[ho]at h ⊢
 dsimp only at h ⊢
 cases hq:fh j Q with
 |true=>
  rw[hq]at h
  dsimp only at h ⊢
  rcases CQ h with ⟨h,g⟩ | ⟨h,g⟩
  ·obtain⟨v,h1,h2⟩:=Uz _ _ _ _ h
   refine⟨v,h1,fun t2 σ2 ht aF K2 ei=>g t2 ht ?_⟩
   rcases aF with rfl | ⟨_,h⟩ | ⟨_,h,_⟩
   ·rw[RW (DP ht)]
    exact h2 (fun v=>K2 (put t2 o.dst v) σ2) ei
   ·cases h
   ·cases h
  ·refine⟨.tup [],h,fun t2 σ2 ht aF K2 ei=>g t2 ht ?_⟩
   rcases aF with rfl | ⟨_,h⟩ | ⟨_,h,_⟩
   ·exact ei
   ·cases h
   ·cases h
 |false=>
  rw[hq]at h
  dsimp only at h ⊢
  have aX:oT o.op=false:=by
   unfold vR at hk
   rw[ho,hq]at hk
   simpa using hk
  have e:∀(ρ:Operand→AV) (σ:Hp) (K:AV→Hp→Prop),ig P TT o.op ρ σ K=fQ P TT o.op ρ σ (fun v=>K v σ):=fun ρ σ K=>by
   unfold oT at aX
   simp only[Ks,ra]at aX
   rcases aX with h | h
   ·exact aaM h
   ·exact aca h
  rcases CQ h with ⟨h,g⟩ | ⟨h,g⟩
  ·rw[e]at h
   obtain⟨v,h1,h2⟩:=HG _ _ _ _ h
   refine⟨v,h1,fun t2 σ2 ht aF K2 ei=>g t2 ht ?_⟩
   rw[e,Ly (DP ht)]
   rcases aF with rfl | ⟨hb,_⟩ | ⟨hl,_,c,rfl⟩
   ·exact h2 (fun v=>K2 (put t2 o.dst v) σ2) ei
   ·exact Zz hb (h2 (fun v=>K2 (put t2 o.dst v) σ2) ei)
   ·exact aal hl c (h2 (fun v=>K2 (put t2 o.dst v) (c::σ)) ei)
  ·exact⟨.tup [],h,fun t2 σ2 ht aF K2 ei=>g t2 ht ei⟩
theorem Hf{ops:List Oper}{q:Bool}{i:Nat}{o:Oper}(ho:ops[i]?=some o){t t2:Tm}{σ:Hp}{K K2:Tm→Hp→Prop}(ht:∀d∈o.looksAt ops.toArray,t2 d=t d)(hk:∀v σ',K (put t o.dst v) σ'→K2 (put t2 o.dst v) σ')(h:jV P TT ops q i t σ K):jV P TT ops q i t2 σ K2:=by
 unfold jV at h ⊢
 rw[ho]at h ⊢
 dsimp only at h ⊢
 cases q with
 |true=>
  dsimp only at h ⊢
  rcases CQ h with ⟨h,g⟩ | ⟨h,g⟩
  ·obtain⟨v,h1,h2⟩:=Uz _ _ _ _ h
   refine g t2 ht ?_
   rw[RW (DP ht)]
   exact h2 _ (hk _ _ h1)
  ·exact g t2 ht (hk _ _ h)
 |false=>
  dsimp only at h ⊢
  rcases CQ h with ⟨h,g⟩ | ⟨h,g⟩
  ·refine g t2 ht ?_
   rw[RT (DP ht)]
   exact abQ (fun v σ' h=>hk v σ' h) h
  ·exact g t2 ht (hk _ _ h)
theorem ac3{ops:List Oper}{i:Nat}{o:Oper}(ho:ops[i]?=some o)(hn:ID o.op=true){t t2:Tm}{σ:Hp}{K K2:Tm→Hp→Prop}(ht:∀d∈o.looksAt ops.toArray,t2 d=t d)(hk:∀v c,K (put t o.dst v) (c::σ)→K2 (put t2 o.dst v) (c::σ))(hs:∀v,K (put t o.dst v) σ→K2 (put t2 o.dst v) σ)(h:jV P TT ops false i t σ K):jV P TT ops false i t2 σ K2:=by
 unfold jV at h ⊢
 rw[ho]at h ⊢
 dsimp only at h ⊢
 rcases CQ h with ⟨h,g⟩ | ⟨h,g⟩
 ·refine g t2 ht ?_
  rw[RT (DP ht)]
  exact ac7 hn (fun v c h=>hk v c h) h
 ·exact g t2 ht (hs _ h)
theorem adY{t:Tm}{d d':Option Tmp}{v v':AV}(h:∀x,d=some x→d'≠some x):put (put t d v) d' v'=put (put t d' v') d v:=by
 cases d with
 |none=>rfl
 |some x=>cases d' with
  |none=>rfl
  |some y=>
   have aX:y≠x:=fun e=>h x rfl (by rw[e])
   funext i
   show (match Nat.beq i y with | true=>v' | false=>match Nat.beq i x with | true=>v | false=>t i)=(match Nat.beq i x with | true=>v | false=>match Nat.beq i y with | true=>v' | false=>t i)
   cases h1:Nat.beq i y <;> cases h2:Nat.beq i x <;> first | rfl | exact absurd ((jN h1).symm.trans (jN h2)) aX
theorem Up{t:Tm}{d:Option Tmp}{v:AV}{x:Tmp}(h:d≠some x):put t d v x=t x:=by
 cases d with
 |none=>rfl
 |some y=>
  show (match Nat.beq x y with | true=>v | false=>t x)=t x
  cases hb:Nat.beq x y with
  |false=>rfl
  |true=>exact absurd (by rw[jN hb]) h
def V8(ops:List Oper)(rows:List (List Nat)):Prop:=∀(k:Nat) (row:List Nat),rows[k]?=some row→Eu ops k row
theorem acQ{ops:List Oper}(h0:su ops=true){ax:List Bool}{i j:Nat}{oi oj:Oper}(mA:i≠j)(hi:ops[i]?=some oi)(hj:ops[j]?=some oj)(JP:ax.getD i true=false)(JO:ax.getD j true=false)(dY:uQ ops ax oi)(OG:uQ ops ax oj):oi.apart ops.toArray oj=true:=by
 rcases (LJ h0).2 i j oi oj hi hj with e | e | e | e
 ·exact absurd e mA
 ·obtain⟨ed,h1,h2,rfl⟩:=AH e
  have:=dY ed (by simpa using h1) h2
  rw[HP JO]at this;cases this
 ·obtain⟨ed,h1,h2,rfl⟩:=AH e
  have:=OG ed (by simpa using h1) h2
  rw[HP JP]at this;cases this
 ·exact e
theorem ac8{ops:List Oper}{k:Nat}(h:EC ops k=true):∃o,ops[k]?=some o∧ID o.op=true:=by
 unfold EC at h
 split at h
 ·rename_i o ho;exact⟨o,ho,h⟩
 ·cases h
theorem Rf{ops:List Oper}{rows:List (List Nat)}{Q:List Nat}{ax:List Bool}{j:Nat}(h:Bi ops rows Q ax j=true):∃o,ops[j]?=some o∧vR ops Q j=false∧((blind o.op=true∧fh j Q=false)∨∀k,k<ops.length→ax.getD k false=true∨vR ops Q k=false∨fh j ((rows[k]?).getD [])=true∨(tO o.op=true∧fh j Q=false∧EC ops k=true)):=by
 unfold Bi at h
 split at h
 ·rename_i o ho
  refine⟨o,ho,?_⟩
  simp only[ra,bO,lH]at h
  rcases h with ⟨h1,h2⟩ | ⟨h1,h2⟩
  ·exact⟨by unfold vR oT;rw[ho];simp[h1],.inl ⟨h1,h2⟩⟩
  ·refine⟨?_,.inr fun k hk=>?_⟩
   ·unfold vR oT;rw[ho]
    rcases h1 with h1 | h1 <;> simp[h1]
   ·have:=fK.1 h2 k (gy.2 hk)
    simp only[ra,bO,lH]at this
    rcases this with ((h | h) | h) | ⟨⟨h3,h4⟩,h5⟩
    ·exact .inl h
    ·exact .inr (.inl h)
    ·exact .inr (.inr (.inl h))
    ·exact .inr (.inr (.inr ⟨h3,h4,h5⟩))
 ·cases h
theorem ZC{ops:List Oper}{rows:List (List Nat)}{Q:List Nat}{K:Tm→Hp→Prop}(h0:su ops=true)(hR:V8 ops rows){j:Nat}:∀(n:Nat) (ax:List Bool) (t:Tm) (σ:Hp),Ba ops ax→j∈jd ops ax→Bi ops rows Q ax j=true→
  jV P TT ops (fh j Q) j t σ (fun t' σ'=>qL P TT ops Q n (ax.set j true) t' σ' K)→qL P TT ops Q (n+1) ax t σ K:=by
 intro n
 induction n with
 |zero=>
  intro ax t σ hc hj hf h
  obtain⟨oj,ho,he,_⟩:=Rf hf
  obtain⟨v,h1,_⟩:=MN ho he h
  exact h1.elim
 |succ n ih=>
  intro ax t σ hc hj hf h
  obtain⟨oj,ho,he,ag9⟩:=Rf hf
  obtain⟨JO,oj',gw,OG⟩:=xc.1 hj
  rw[ho]at gw;cases gw
  obtain⟨v,h1,h2⟩:=MN ho he h
  rw[xg]
  refine⟨fun hn=>by rw[hn]at hj;(cases hj),fun i hi=>?_⟩
  by_cases mA:i=j
  ·subst mA
   exact h2 t σ (fun _ _=>rfl) (.inl rfl) _ h1
  obtain⟨JP,oi,kr,dY⟩:=xc.1 hi
  have wK:=Oper.apart_spec (acQ h0 mA kr ho JP JO dY OG)
  rw[xg]at h1
  have mU:=h1.2 i (RL hi mA)
  have Bt:∀d∈oi.looksAt ops.toArray,t d=put t oj.dst v d:=fun d hd=>(Up fun e=>wK.2.2 d e hd).symm
  have ue:∀u,put (put t oj.dst v) oi.dst u=put (put t oi.dst u) oj.dst v:=fun u=>adY fun x hx hi=>wK.2.1 x hi hx
  have kj:(ax.set j true).set i true=(ax.set i true).set j true:=List.set_comm _ _ (Ne.symm mA)
  have FA:=hc.set kr dY
  have uz:=RL hj (Ne.symm mA)
  have hfi:Bi ops rows Q (ax.set i true) j=true:=by
   unfold Bi at hf ⊢
   rw[ho]at hf ⊢
   simp only[ra,bO,lH]at hf ⊢
   refine hf.imp id fun h=>⟨h.1,fK.2 fun k hk=>?_⟩
   have:=fK.1 h.2 k hk
   simp only[ra,lH]at this ⊢
   exact this.imp (fun h=>h.imp (fun h=>h.imp P9 id) id) id
  have hlj:∀u,∀d∈oj.looksAt ops.toArray,put t oi.dst u d=t d:=fun u d hd=>Up fun e=>wK.1 d e hd
  have fin:∀u σ',(σ'=σ∨(blind oj.op=true∧fh j Q=false)∨(tO oj.op=true∧fh j Q=false∧∃c,σ'=c::σ))→qL P TT ops Q n ((ax.set j true).set i true) (put (put t oj.dst v) oi.dst u) σ' K→qL P TT ops Q (n+1) (ax.set i true) (put t oi.dst u) σ' K:=fun u σ' aF hh=>by
   refine ih (ax.set i true) (put t oi.dst u) σ' FA uz hfi ?_
   refine h2 _ σ' (hlj u) aF _ ?_
   rw[kj,ue]at hh
   exact hh
  cases Cf:vR ops Q i with
  |true=>
   have hb:(blind oj.op=true∧fh j Q=false)∨(tO oj.op=true∧fh j Q=false∧EC ops i=true):=by
    rcases ag9 with h | h
    ·exact .inl h
    ·have ab:i<ops.length:=(ck.1 kr).1
     rcases h i ab with h | h | h | h
     ·rw[HP JP]at h;cases h
     ·rw[Cf]at h;cases h
     rotate_left
     ·exact .inr h
     ·cases hq:rows[i]? with
      |none=>rw[hq]at h;cases h
      |some row=>
       rw[hq]at h
       have:=hR i row hq oi kr ax hc dY j (Tj.1 h)
       rw[HP JO]at this;cases this
   rcases hb with hb | ⟨hl,hq,iz⟩
   ·exact Hf kr Bt (fun u σ' hh=>fin u σ' (.inr (.inl hb)) hh) mU
   ·obtain⟨oi',Xb,hn⟩:=ac8 iz
    rw[kr]at Xb;cases Xb
    have hqi:fh i Q=false:=by
     unfold vR at Cf
     rw[kr]at Cf
     simp only[bO,lH]at Cf
     exact Cf.2
    rw[hqi]at mU ⊢
    exact ac3 kr hn Bt (fun u c hh=>fin u (c::σ) (.inr (.inr ⟨hl,hq,c,rfl⟩)) hh) (fun u hh=>fin u σ (.inl rfl) hh) mU
  |false=>
   obtain⟨u,k1,k2⟩:=MN kr Cf mU
   exact k2 t σ Bt (.inl rfl) _ (fin u σ (.inl rfl) k1)
theorem adM{ops:List Oper}{rows:List (List Nat)}{Q:List Nat}{K:Tm→Hp→Prop}(h0:su ops=true)(hR:V8 ops rows):∀(s:rh) (n:Nat) (nG:List Nat) (ax:List Bool) (t:Tm) (σ:Hp),lO ops rows Q s n nG ax=true→Ba ops ax→vM P TT ops s t σ K→
  (nG=[]→qL P TT ops Q n ax t σ K)∧((∀i∈nG,i∈jd ops ax)→∀i∈nG,jV P TT ops (fh i Q) i t σ fun t' σ'=>qL P TT ops Q n (ax.set i true) t' σ' K):=by
 intro s
 induction s with
 |stop=>
  intro n nG ax t σ hs hc h
  unfold lO at hs
  split at hs
  ·rename_i n _ _ _ hr
   refine⟨fun _=>?_,fun _ i hi=>by cases hi⟩
   rw[xg,hr]
   exact⟨fun _=>h,fun i hi=>by cases hi⟩
  ·cases hs
 |one j q s ih=>
  intro n nG ax t σ hs hc h
  have step:∀m,fh j Q=q→j∈jd ops ax→lO ops rows Q s m [] (ax.set j true)=true→jV P TT ops (fh j Q) j t σ fun t' σ'=>qL P TT ops Q m (ax.set j true) t' σ' K:=fun m hq hj hs=>by
   obtain⟨_,o,ho,hr⟩:=xc.1 hj
   rw[hq]
   have h:jV P TT ops q j t σ fun t' σ'=>vM P TT ops s t' σ' K:=h
   exact Hf ho (fun _ _=>rfl) (fun v σ' hh=>(ih m [] _ _ σ' hs (hc.set ho hr) hh).1 rfl) h
  unfold lO at hs
  split at hs
  ·rename_i n
   simp only[bO,ra,beq_iff_eq]at hs
   obtain⟨⟨⟨h1,h2⟩,h3⟩,h4⟩:=hs
   have hj:=Tj.1 h2
   refine⟨fun _=>?_,fun _ i hi=>by cases hi⟩
   have an:=step n h1 hj h4
   rcases h3 with h3 | h3
   ·exact ZC h0 hR n ax t σ hc hj h3 an
   ·split at h3
    ·rename_i i hr
     rw[xg,hr]
     refine⟨fun h=>(by cases h),fun k hk=>?_⟩
     obtain rfl:=bB.1 hk
     obtain rfl:=jN h3
     exact an
    ·cases h3
  ·rename_i i
   simp only[bO,beq_iff_eq]at hs
   obtain⟨⟨h1,h2⟩,h4⟩:=hs
   refine⟨fun h=>(by cases h),fun hp k hk=>?_⟩
   obtain rfl:=jN h2
   obtain rfl:=bB.1 hk
   exact step _ h1 (hp k hk) h4
  ·cases hs
 |alt j s r ih jZ=>
  intro n nG ax t σ hs hc h
  obtain⟨ha,hb⟩:jV P TT ops false j t σ (fun t' σ'=>vM P TT ops s t' σ' K)∧vM P TT ops r t σ K:=h
  have step:∀m,fh j Q=false→j∈jd ops ax→lO ops rows Q s m [] (ax.set j true)=true→jV P TT ops (fh j Q) j t σ fun t' σ'=>qL P TT ops Q m (ax.set j true) t' σ' K:=fun m hq hj hs=>by
   obtain⟨_,o,ho,hr⟩:=xc.1 hj
   rw[hq]
   exact Hf ho (fun _ _=>rfl) (fun v σ' hh=>(ih m [] _ _ σ' hs (hc.set ho hr) hh).1 rfl) ha
  unfold lO at hs
  split at hs
  ·rename_i n
   split at hs
   ·rename_i i i2 l hr
    simp only[bO,lH]at hs
    obtain⟨⟨⟨h1,h2⟩,h3⟩,h4⟩:=hs
    obtain rfl:=jN h1
    refine⟨fun _=>?_,fun _ i hi=>by cases hi⟩
    rw[xg,hr]
    refine⟨fun h=>(by cases h),fun k hk=>?_⟩
    rcases eB.1 hk with rfl | hk
    ·exact step n h2 (by rw[hr];exact cj ..) h3
    ·exact (jZ n (i2::l) ax t σ h4 hc hb).2 (fun i hi=>by rw[hr];exact dp _ hi) k hk
   ·cases hs
  ·rename_i i i2 l
   simp only[bO,lH]at hs
   obtain⟨⟨⟨h1,h2⟩,h3⟩,h4⟩:=hs
   obtain rfl:=jN h1
   refine⟨fun h=>(by cases h),fun hp k hk=>?_⟩
   rcases eB.1 hk with rfl | hk
   ·exact step n h2 (hp _ (cj ..)) h3
   ·exact (jZ n (i2::l) ax t σ h4 hc hb).2 (fun i hi=>hp i (dp _ hi)) k hk
  ·cases hs
 |BQ j s r ih jZ=>
  intro n nG ax t σ hs hc h
  obtain⟨ha,hb⟩:jV P TT ops true j t σ (fun t' σ'=>vM P TT ops s t' σ' K)∧vM P TT ops r t σ K:=h
  have step:∀m,fh j Q=true→j∈jd ops ax→lO ops rows Q s m [] (ax.set j true)=true→jV P TT ops (fh j Q) j t σ fun t' σ'=>qL P TT ops Q m (ax.set j true) t' σ' K:=fun m hq hj hs=>by
   obtain⟨_,o,ho,hr⟩:=xc.1 hj
   rw[hq]
   exact Hf ho (fun _ _=>rfl) (fun v σ' hh=>(ih m [] _ _ σ' hs (hc.set ho hr) hh).1 rfl) ha
  unfold lO at hs
  split at hs
  ·rename_i n
   split at hs
   ·rename_i i i2 l hr
    simp only[bO]at hs
    obtain⟨⟨⟨h1,h2⟩,h3⟩,h4⟩:=hs
    obtain rfl:=jN h1
    refine⟨fun _=>?_,fun _ i hi=>by cases hi⟩
    rw[xg,hr]
    refine⟨fun h=>(by cases h),fun k hk=>?_⟩
    rcases eB.1 hk with rfl | hk
    ·exact step n h2 (by rw[hr];exact cj ..) h3
    ·exact (jZ n (i2::l) ax t σ h4 hc hb).2 (fun i hi=>by rw[hr];exact dp _ hi) k hk
   ·cases hs
  ·rename_i i i2 l
   simp only[bO]at hs
   obtain⟨⟨⟨h1,h2⟩,h3⟩,h4⟩:=hs
   obtain rfl:=jN h1
   refine⟨fun h=>(by cases h),fun hp k hk=>?_⟩
   rcases eB.1 hk with rfl | hk
   ·exact step n h2 (hp _ (cj ..)) h3
   ·exact (jZ n (i2::l) ax t σ h4 hc hb).2 (fun i hi=>hp i (dp _ hi)) k hk
  ·cases hs
theorem Zy{o:Oper}{ρ:Operand→AV}{σ:Hp}{K:AV→Prop}(ok:dI P TT)(h:we P TT o.op ρ σ K)(a:Act)(F:Nat→Prop)(w:World)(hx:∀x∈o.op.operands.toList,aA F w (ρ x) (a.eval x))(aF:bu F w σ)(next:Act→World→Prop)(Q:Exit→Act→World→Prop)(hn:∀v u F' w',bH F w F' w'→bu F' w' σ→aA F' w' v u→K v→next (a.put o.dst u) w'):wq P o a w next Q:=by
 obtain⟨v,h1,h2⟩:=RV ok h
 exact h2 a F w hx aF next Q fun u F' w' k1 k2 k3=>hn v u F' w' k1 k2 k3 h1
theorem aeS(ok:dI P TT){B n:Nat}{ops:List Oper}{Q:List Nat}(hd:∀o∈ops,∀d,o.dst=some d→d<n){K:Tm→Hp→Prop}{Q':Exit→Act→World→Prop}{F0:Nat→Prop}{w0:World}(hq:∀t' σ' F' w' a',bH F0 w0 F' w'→dx B n F' w' t' σ' a'→K t' σ'→Q' .normal a' w'):
  ∀(m:Nat) (ax:List Bool) (t:Tm) (σ:Hp) (F:Nat→Prop) (w:World) (a:Act),left ax.toArray≤m→ax.length=ops.length→qL P TT ops Q (m+1) ax t σ K→dx B n F w t σ a→bH F0 w0 F w→xJ P .any ops.toArray (xL Q') m ax.toArray a w:=by
 intro m
 induction m with
 |zero=>
  intro ax t σ F w a hl hlen h hs an
  have hr:jd ops ax=[]:=by
   rw[← sr,KJ]
   intro j hj
   have:=(mem_ready.1 hj).1
   rw[LC (by omega)]at this
   cases this
  rw[xg]at h
  exact⟨by rw[sr];exact hr,hq t σ F w a an hs (h.1 hr)⟩
 |succ m ih=>
  intro ax t σ F w a hl hlen h hs an
  rw[xg]at h
  refine⟨fun hr=>hq t σ F w a an hs (h.1 (by rw[← sr];exact hr)),fun j hj=>?_⟩
  rw[sr]at hj
  have h:=h.2 j hj
  have guard:∀{o:Oper} {b:Bool},vk ops o t b→Region.wanted o (yielded ops.toArray a.tmps)=b:=fun hg=>GP hg fun d _=>⟨F,w,hs.tm d⟩
  obtain⟨fD,o,ho,_⟩:=xc.1 hj
  have kj:(ax.set j true).toArray=ax.toArray.setIfInBounds j true:=by simp
  have ai1:ax.toArray.getD j true=false:=by
   rw[im,Ap,← aZ];exact fD
  have ab:left (ax.toArray.setIfInBounds j true)≤m:=by have:=Dk ai1;omega
  have qK:∀(x:AV) (u:Value) (σ':Hp) (F':Nat→Prop) (w':World),bH F w F' w'→bu F' w' σ'→aA F' w' x u→qL P TT ops Q (m+1) (ax.set j true) (put t o.dst x) σ' K→xJ P .any ops.toArray (xL Q') m (ax.toArray.setIfInBounds j true) (a.put o.dst u) w':=fun x u σ' F' w' q1 q2 q3 hk=>by
   rw[← kj]
   exact ih _ _ σ' F' w' _ (by rw[kj];exact ab) (by simpa using hlen) hk (hs.put q1 q2 q3 (hd o (List.mem_of_getElem? ho))) (an.trans q1)
  unfold jV at h
  rw[ho]at h
  dsimp only at h
  unfold oL
  rw[show ops.toArray[j]?=some o by simpa using ho]
  cases hq':fh j Q with
  |true=>
   rw[hq']at h
   dsimp only at h
   rcases yQ h with ⟨hg,h⟩ | ⟨hg,h⟩
   ·simp only[guard hg,if_true]
    exact (Zy ok h a F w (fun x _=>hs.tm.eval x) hs.hp _ _ fun v u F' w' k1 k2 k3 k4=>qK v u σ F' w' k1 k2 k3 k4)
   ·simp only[guard hg,l9,if_false]
    exact qK (.tup []) undef σ F w (.refl _ _) hs.hp yK h
  |false=>
   rw[hq']at h
   dsimp only at h
   rcases yQ h with ⟨hg,h⟩ | ⟨hg,h⟩
   ·simp only[guard hg,if_true]
    refine (Lx ok h a F w (fun x _=>hs.tm.eval x) hs.hp _ _ ?_)
    intro v av σ' F' w' q1 q2 q3 q4
    exact qK av v σ' F' w' q1 q2 q3 q4
   ·simp only[guard hg,l9,if_false]
    exact qK (.tup []) undef σ F w (.refl _ _) hs.hp yK h
theorem Qt(ok:dI P TT)(hm:P.follows .mixedOrders=true){r:Option Nat}{B n id:Nat}{ops:Array Oper}{t:Tm}{σ:Hp}{K:Tm→Hp→Prop}{F:Nat→Prop}{w:World}{a:Act}{Q:Exit→Act→World→Prop}{Q0:List Nat}{s:rh}(h0:H8 ops.toList Q0 s=true)(h:vM P TT ops.toList s t σ K)(hd:∀o∈ops.toList,∀d,o.dst=some d→d<n)(cf:∀o∈ops.toList,∀c,o.op≠.defer c)(hs:dx B n F w t σ a)
  (hq:∀t' σ' F' w' a',bH F w F' w'→dx B n F' w' t' σ' a'→K t' σ'→Q .normal a' w'):(Code.region id ops true).wpIn (FW r) 0 P Q a w:=by
 have pL:bH F w F { w with drawn:=w.drawn+1 }:=yH hs.hp.low rfl rfl rfl (a8 _) (fun _ _=>rfl)
 unfold H8 at h0
 simp only[bO]at h0
 obtain⟨⟨h1,h2⟩,h3⟩:=h0
 have cQ:=(adM (K:=K) h1 (SQ ops.toList [] [] rfl rfl (fun k row h=>by cases h)) s _ [] _ t σ h3 (fun j o ho hl=>by
  rw[aZ,wV]at hl
  split at hl <;> cases hl) h).1 rfl
 refine wpIn_mono (Le hm cf ?_) Tg
 have key:=aeS (P:=P) (Q':=Q) ok hd (F0:=F) (w0:=w) hq ops.toList.length (List.replicate ops.toList.length false) t σ F { w with drawn:=w.drawn+1 } a (by
   unfold left
   refine Nat.le_trans (List.length_filter_le _ _) (by simp)) (by simp) cQ ⟨hs.tm.mono pL,hs.hp.same pL (fun _ _=>rfl),hs.size,hs.defers.mono pL⟩ pL
 simpa using key
end
end Go.Proofs.YtnikdflhefijbaaGreat
