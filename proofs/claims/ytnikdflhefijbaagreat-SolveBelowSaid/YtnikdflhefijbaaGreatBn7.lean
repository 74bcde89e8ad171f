import Derived.OrdersHeld
import Derived.Test.YtnikdflhefijbaaGreatBn6
namespace Go.Proofs.YtnikdflhefijbaaGreat
open Go.RowKit
section
variable {P:Program} {TT:TypeId→Option TI}
def Hb(P:Program)(ops:List Oper)(σ:Hp)(o:Oper)(t:Tm)(v:AV):Prop:=(uq ops o t true∧LR P o (ev t) σ v)∨(uq ops o t false∧v=.tup [])
def po:Tm→List Oper→List AV→Nat→Tm
 |t,o::l,v::vs,i+1=>po (put t o.dst v) l vs i
 |t,_,_,_=>t
theorem RE(ok:dz P TT){ops:List Oper}{σ:Hp}{K:Tm→Prop}:∀(l:List Oper) (t:Tm),HC P TT ops l t σ K→∃b9:List AV,b9.length=l.length∧(∀(i:Nat) (o:Oper) (v:AV),l[i]?=some o→b9[i]?=some v→Hb P ops σ o (po t l b9 i) v)∧K (po t l b9 l.length)
 | [],t,h=>⟨[],rfl,fun i o v h=>by simp at h,h⟩
 |o::l,t,h=>by
  have go:∀v,Hb P ops σ o t v→HC P TT ops l (put t o.dst v) σ K→∃b9:List AV,b9.length=(o::l).length∧(∀(i:Nat) (o':Oper) (v:AV),(o::l)[i]?=some o'→b9[i]?=some v→Hb P ops σ o' (po t (o::l) b9 i) v)∧K (po t (o::l) b9 (o::l).length):=by
   intro v hv hk
   obtain⟨b9,h1,h2,h3⟩:=RE ok l _ hk
   refine⟨v::b9,by simp[h1],fun i o' v' ho ox=>?_,h3⟩
   cases i with
   |zero=>simp at ho ox;subst ho;subst ox;exact hv
   |succ i=>exact h2 i o' v' (by simpa using ho) (by simpa using ox)
  rcases xT h with ⟨hg,h⟩ | ⟨hg,h⟩
  ·obtain⟨v,hk,hl⟩:=QD ok h
   exact go v (.inl ⟨hg,hl⟩) hk
  ·exact go (.tup []) (.inr ⟨hg,rfl⟩) h
theorem Cj{x:Tmp}:∀(l:List Oper) (b9:List AV) (t:Tm) (i:Nat),(∀j,j<i→∀o,l[j]?=some o→o.dst≠some x)→po t l b9 i x=t x
 | [],_,_,i,_=>by cases i <;> rfl
 |_::_,[],_,i,_=>by cases i <;> rfl
 |o::l,v::b9,t,0,_=>rfl
 |o::l,v::b9,t,i+1,h=>by
  have h0:=h 0 (by omega) o rfl
  rw[po,Cj l b9 _ i (fun j hj o' ho=>h (j+1) (by omega) o' (by simpa using ho))]
  cases hd:o.dst with
  |none=>rfl
  |some d=>
   have:Nat.beq x d=false:=by
    cases hb:Nat.beq x d with
    |false=>rfl
    |true=>exact absurd (by rw[hd,jx hb]) h0
   show (match Nat.beq x d with | true=>v | false=>t x)=t x
   rw[this]
theorem KR{x:Tmp}{v:AV}{p:Oper}:∀(l:List Oper) (b9:List AV) (t:Tm) (i j:Nat),j<i→l[j]?=some p→p.dst=some x→(∀k,k<i→k≠j→∀o,l[k]?=some o→o.dst≠some x)→b9[j]?=some v→po t l b9 i x=v
 | [],_,_,_,_,_,hp,_,_,_=>by simp at hp
 |_::_,[],_,_,_,_,_,_,_,hv=>by simp at hv
 |_::_,_::_,_,0,_,hj,_,_,_,_=>by omega
 |o::l,u::b9,t,i+1,0,_,hp,hx,hn,hv=>by
  simp at hp hv
  subst hp;subst hv
  rw[po,Cj l b9 _ i (fun k hk o' ho=>hn (k+1) (by omega) (by omega) o' (by simpa using ho))]
  simp[put,hx]
 |o::l,u::b9,t,i+1,j+1,hj,hp,hx,hn,hv=>
  KR l b9 (put t o.dst u) i j (by omega) (by simpa using hp) hx (fun k hk aP o' ho=>hn (k+1) (by omega) (by omega) o' (by simpa using ho)) (by simpa using hv)
structure OR(ops:List Oper):Prop where
 back:∀(i:Nat) (o:Oper),ops[i]?=some o→∀e∈o.after,Region.binds .any e=true→e.on<i
 HR:∀(i j:Nat) (o p:Oper) (d:Tmp),ops[i]?=some o→ops[j]?=some p→p.dst=some d→o.dst=some d→i=j
 look:∀(i j:Nat) (o p:Oper) (d:Tmp),ops[i]?=some o→ops[j]?=some p→p.dst=some d→d∈yi ops o→i=j∨(j<i∧pR o j=true)∨(i<j∧pR p i=true)
theorem adz{ops:List Oper}(h:Gl ops=true):OR ops:=by
 unfold Gl at h
 have hz:∀(i:Nat) (o:Oper),ops[i]?=some o→(o,i)∈ops.zipIdx:=fun i o ho=>by
  rw[Oo];exact ho
 have cg:=fun (i:Nat) (o:Oper) (ho:ops[i]?=some o)=>fk.1 h (o,i) (hz i o ho)
 refine⟨fun i o ho e he hb=>?_,fun i j o p d ho hp kz jr=>?_,fun i j o p d ho hp kz hd=>?_⟩
 ·have h1:=cg i o ho
  simp only[bL]at h1
  have h2:=List.all_eq_true.1 h1.1 e (by simpa using he)
  simp only[hb,Ew,oK]at h2
  exact cH h2
 ·have h1:=cg i o ho
  simp only[bL]at h1
  have h2:=fk.1 h1.2 (p,j) (hz j p hp)
  simp only[kz,jr,bL,qA,xz,Ew]at h2
  rcases h2.1 with h3 | h3
  ·exact jx h3
  ·cases h3
 ·have h1:=cg i o ho
  simp only[bL]at h1
  have h2:=fk.1 h1.2 (p,j) (hz j p hp)
  simp only[kz,bL,qA]at h2
  rcases h2.2 with ((h3 | h3) | h3) | h3
  ·exfalso
   have:(yi ops o).any (Nat.beq d)=true:=mf.2 ⟨d,hd,xz d⟩
   rw[this]at h3
   cases h3
  ·exact .inl (jx h3)
  ·exact .inr (.inl ⟨cH h3.1,h3.2⟩)
  ·exact .inr (.inr ⟨cH h3.1,h3.2⟩)
theorem zD{o:Oper}{j:Nat}(h:pR o j=true):∃e∈o.after,Region.binds .any e=true∧e.on=j:=by
 obtain⟨e,h1,h2⟩:=mf.1 h
 simp only[bL]at h2
 exact⟨e,by simpa using h1,h2.1,Nat.eq_of_beq_eq_true h2.2⟩
def left(ax:Array Bool):Nat:=(ax.toList.filter (fun b=> !b)).length
theorem QH:∀(l:List Bool) (i:Nat),l[i]?=some false→((l.set i true).filter (fun b=> !b)).length+1=(l.filter (fun b=> !b)).length
 | [],i,h=>by simp at h
 |b::l,0,h=>by simp at h;subst h;simp
 |b::l,i+1,h=>by
  have:=QH l i (by simpa using h)
  cases b <;> simp at this ⊢ <;> omega
theorem B6{ax:Array Bool}{i:Nat}(h:ax.getD i true=false):left (ax.setIfInBounds i true)+1=left ax:=by
 unfold left
 rw[Array.toList_setIfInBounds]
 refine QH _ i ?_
 rw[Bn]
 rw[jy]at h
 cases hq:ax[i]? with
 |none=>rw[hq]at h;simp at h
 |some b=>rw[hq]at h;simp at h;rw[h]
theorem J9{ax:Array Bool}(h:left ax=0){i:Nat}:ax.getD i true=true:=by
 cases hb:ax.getD i true with
 |true=>rfl
 |false=>have:=B6 hb;omega
structure H8(P:Program)(ops:List Oper)(t0:Tm)(b9:List AV)(σ:Hp)(B n:Nat)(ax:Array Bool)(F:Nat→Prop)(w:World)(a:Act):Prop where
 hp:bg F w σ
 size:n≤a.tmps.size
 defers:Marks B F w a.defers
 L1:ax.size=ops.length
 closed:∀(j:Nat) (o:Oper),ops[j]?=some o→ax.getD j false=true→∀e∈o.after,Region.binds .any e=true→ax.getD e.on false=true
 M6:∀(j:Nat) (o:Oper) (v:AV) (d:Tmp),ops[j]?=some o→o.dst=some d→b9[j]?=some v→ax.getD j false=true→aA F w v (a.tmps.getD d undef)
 out:∀d,(∀(j:Nat) (o:Oper),ops[j]?=some o→o.dst=some d→ax.getD j false=false)→aA F w (t0 d) (a.tmps.getD d undef)
theorem Bv{ax:Array Bool}{i:Nat}(h:ax.getD i true=false):ax.getD i false=false:=by
 rw[jy]at h ⊢
 cases hq:ax[i]? with
 |none=>rw[hq]at h;simp at h
 |some b=>rw[hq]at h;simpa using h
theorem Wc{ax:Array Bool}{i:Nat}(hi:i<ax.size)(h:ax.getD i true=true):ax.getD i false=true:=by
 rw[jy]at h ⊢
 rw[xF hi]at h ⊢
 simpa using h
section
variable {ops:List Oper} {t0:Tm} {b9:List AV} {σ:Hp} {B n:Nat} {ax:Array Bool} {F:Nat→Prop} {w:World} {a:Act}
theorem H8.look(hJ:H8 P ops t0 b9 σ B n ax F w a)(ho:OR ops)(Ip:b9.length=ops.length){i:Nat}{o:Oper}(hi:ops[i]?=some o)(e8:ax.getD i true=false)(qp:∀e∈o.after,Region.binds .any e=true→ax.getD e.on false=true){d:Tmp}(hd:d∈yi ops o):
  aA F w (po t0 ops b9 i d) (a.tmps.getD d undef):=by
 by_cases hw:∃(j:Nat) (p:Oper),ops[j]?=some p∧p.dst=some d
 ·obtain⟨j,p,hp,kz⟩:=hw
  have uniq:∀k,k≠j→∀o',ops[k]?=some o'→o'.dst≠some d:=fun k hk o' fZ jr=>hk (ho.HR k j o' p d fZ hp kz jr)
  have out:ax.getD j false=false→(i≤j)→aA F w (po t0 ops b9 i d) (a.tmps.getD d undef):=fun hl l9=>by
   rw[Cj ops b9 t0 i (fun k hk o' fZ=>uniq k (by omega) o' fZ)]
   exact hJ.out d fun k o' fZ jr=>by rw[ho.HR k j o' p d fZ hp kz jr];exact hl
  rcases ho.look i j o p d hi hp kz hd with e | ⟨h1,h2⟩ | ⟨h1,h2⟩
  ·subst e
   exact out (Bv e8) (aU _)
  ·obtain⟨e,he,hb,rfl⟩:=zD h2
   have hl:=qp e he hb
   have ic:e.on<ops.length:=(cf.1 hp).1
   have hv:b9[e.on]?=some b9[e.on]:=bJ (by omega)
   rw[KR ops b9 t0 i e.on h1 hp kz (fun k _ aP=>uniq k aP) hv]
   exact hJ.M6 e.on p _ d hp kz hv hl
  ·obtain⟨e,he,hb,rfl⟩:=zD h2
   refine out ?_ (by omega)
   cases hl:ax.getD j false with
   |false=>rfl
   |true=>
    have:=hJ.closed j p hp hl e he hb
    rw[Bv e8]at this
    cases this
 ·rw[Cj ops b9 t0 i (fun k _ o' fZ jr=>hw ⟨k,o',fZ,jr⟩)]
  exact hJ.out d fun j o' fZ jr=>absurd ⟨j,o',fZ,jr⟩ hw
theorem Yr(ho:OR ops)(Ip:b9.length=ops.length)(hd:∀o∈ops,∀d,o.dst=some d→d<n)(hf:∀(i:Nat) (o:Oper) (v:AV),ops[i]?=some o→b9[i]?=some v→Hb P ops σ o (po t0 ops b9 i) v){Q:Exit→Act→World→Prop}{F0:Nat→Prop}{w0:World}
  (hq:∀F' w' a',bE F0 w0 F' w'→dh B n F' w' (po t0 ops b9 ops.length) σ a'→Q .normal a' w') :
  ∀(fuel:Nat) (ax:Array Bool) (F:Nat→Prop) (w:World) (a:Act),left ax≤fuel→H8 P ops t0 b9 σ B n ax F w a→bE F0 w0 F w→wN P .any ops.toArray Q fuel ax a w:=by
 have fin:∀(ax:Array Bool) (F:Nat→Prop) (w:World) (a:Act),H8 P ops t0 b9 σ B n ax F w a→bE F0 w0 F w→Region.ready .any ops.toArray ax=[]→Q .normal a w:=by
  intro ax F w a hJ aq hr
  have all:∀j,j<ops.length→ax.getD j false=true:=by
   intro j
   induction j using Nat.strongRecOn with
   |_ j ih=>
    intro hj
    cases hl:ax.getD j true with
    |true=>exact Wc (by rw[hJ.L1];exact hj) hl
    |false=>
     exfalso
     have hm:j∈Region.ready .any ops.toArray ax:=by
      rw[mem_ready]
      refine⟨hl,ops[j],by simp[hj],fun e he hb=>?_⟩
      have:=ho.back j ops[j] (by simp[hj]) e he hb
      exact ih _ this (by omega)
     rw[hr]at hm
     cases hm
  refine hq F w a aq ⟨fun d=>?_,hJ.hp,hJ.size,hJ.defers⟩
  by_cases hw:∃(j:Nat) (p:Oper),ops[j]?=some p∧p.dst=some d
  ·obtain⟨j,p,hp,kz⟩:=hw
   have ic:j<ops.length:=(cf.1 hp).1
   have hv:b9[j]?=some b9[j]:=bJ (by omega)
   rw[KR ops b9 t0 ops.length j ic hp kz (fun k _ aP o' fZ jr=>aP (ho.HR k j o' p d fZ hp kz jr)) hv]
   exact hJ.M6 j p _ d hp kz hv (all j ic)
  ·rw[Cj ops b9 t0 ops.length (fun k _ o' fZ jr=>hw ⟨k,o',fZ,jr⟩)]
   exact hJ.out d fun j o' fZ jr=>absurd ⟨j,o',fZ,jr⟩ hw
 intro fuel
 induction fuel with
 |zero=>
  intro ax F w a hl hJ aq
  have hr:Region.ready .any ops.toArray ax=[]:=by
   rw[Jh]
   intro j hj
   have:=(mem_ready.1 hj).1
   rw[J9 (by omega)]at this
   cases this
  exact⟨hr,fin ax F w a hJ aq hr⟩
 |succ fuel ih=>
  intro ax F w a hl hJ aq
  refine⟨fin ax F w a hJ aq,fun i hi=>?_⟩
  obtain⟨e8,o,kb,qp⟩:=mem_ready.1 hi
  have kb:ops[i]?=some o:=by simpa using kb
  have qt:i<ops.length:=(cf.1 kb).1
  have hvi:b9[i]?=some b9[i]:=bJ (by omega)
  have Am:=fun {d:Tmp} (hd:d∈yi ops o)=>hJ.look ho Ip kb e8 qp hd
  have UL:∀{b:Bool},uq ops o (po t0 ops b9 i) b→Region.wanted o (yielded ops.toArray a.tmps)=b:=fun hg=>Ft hg fun d ⟨j,want,h1,h2⟩=>⟨F,w,Am (d:=d) (by unfold yi;rw[h1];simp[h2])⟩
  have next:∀(F':Nat→Prop) (w':World) (u:Value),bE F w F' w'→bg F' w' σ→aA F' w' b9[i] u→wN P .any ops.toArray Q fuel (ax.setIfInBounds i true) (a.put o.dst u) w':=by
   intro F' w' u h1 h2 h3
   have aP:∀j,j≠i→(ax.setIfInBounds i true).getD j false=ax.getD j false:=fun j hj=>getD_set_ne false (Ne.symm hj)
   have aeP:(ax.setIfInBounds i true).getD i false=true:=by simp[Array.getD,hJ.L1,qt]
   refine ih _ F' w' _ (by have:=B6 e8;omega) ⟨h2,by rw[Rz];exact hJ.size,by rw[SK];exact hJ.defers.mono h1,by simp[hJ.L1],fun j p hp hl e he hb=>?_,fun j p v d hp kz hv hl=>?_,fun d hn=>?_⟩ (aq.trans h1)
   ·refine getD_set_true ?_
    by_cases hj:j=i
    ·subst hj
     rw[kb]at hp
     cases hp
     exact qp e he hb
    ·rw[aP j hj]at hl
     exact hJ.closed j p hp hl e he hb
   ·by_cases hj:j=i
    ·subst hj
     rw[kb]at hp
     cases hp
     rw[hvi]at hv
     cases hv
     have ee:d<a.tmps.size:=rE (hd o (cq kb) d kz) hJ.size
     rw[kz]
     simpa [Act.put,Array.getD,ee]using h3
    ·rw[aP j hj]at hl
     have h4:=(hJ.M6 j p v d hp kz hv hl).mono h1
     have bZ:o.dst≠some d:=fun jr=>hj (ho.HR j i p o d hp kb jr kz)
     cases jr:o.dst with
     |none=>exact h4
     |some d'=>
      have vD:d'≠d:=fun e=>bZ (by rw[jr,e])
      show aA F' w' v ((a.tmps.setIfInBounds d' u).getD d undef)
      rw[jy]at h4 ⊢
      rw[Ji vD]
      exact h4
   ·have bZ:o.dst≠some d:=fun jr=>by
     have:=hn i o kb jr
     rw[aeP]at this
     cases this
    have h4:=(hJ.out d fun j p hp kz=>by
     by_cases hj:j=i
     ·subst hj;rw[kb]at hp;cases hp;exact absurd kz bZ
     ·rw[← aP j hj];exact hn j p hp kz).mono h1
    cases jr:o.dst with
    |none=>exact h4
    |some d'=>
     have vD:d'≠d:=fun e=>bZ (by rw[jr,e])
     show aA F' w' (t0 d) ((a.tmps.setIfInBounds d' u).getD d undef)
     rw[jy]at h4 ⊢
     rw[Ji vD]
     exact h4
  unfold nX
  rw[show ops.toArray[i]?=some o by simpa using kb]
  rcases hf i o b9[i] kb hvi with ⟨hg,hl⟩ | ⟨hg,hv⟩
  ·simp only[UL hg,if_true]
   refine (hl a F w (fun x hx=>R8 x fun d e=>?_) hJ.hp _ Q (fun u F' w' k1 k2 k3=>next F' w' u k1 k2 k3))
   subst e
   exact Am (by unfold yi;exact gD _ (List.mem_filterMap.2 ⟨.tmp d,hx,rfl⟩))
  ·simp only[UL hg,lN,if_false]
   exact next F w undef (.refl _ _) hJ.hp (by rw[hv];exact xP)
end
theorem WC(ok:dz P TT)(hm:P.follows .mixedOrders=true){r:Option Nat}{B n id:Nat}{ops:Array Oper}{t:Tm}{σ:Hp}{K:Tm→Prop}{F:Nat→Prop}{w:World}{a:Act}{Q:Exit→Act→World→Prop}(h0:Gl ops.toList=true)(h:HC P TT ops.toList ops.toList t σ K)(hd:∀o∈ops.toList,∀d,o.dst=some d→d<n)(bZ:∀o∈ops.toList,∀c,o.op≠.defer c)(hs:dh B n F w t σ a)
  (hq:∀t' F' w' a',bE F w F' w'→dh B n F' w' t' σ a'→K t'→Q .normal a' w'):(Code.region id ops true).wpIn (FW r) 0 P Q a w:=by
 obtain⟨b9,h1,h2,h3⟩:=RE ok _ _ h
 have pc:bE F w F { w with drawn:=w.drawn+1 }:=xN hs.hp.low rfl rfl rfl (aU _) (fun _ _=>rfl)
 refine JH hm bZ ?_
 have key:=Yr (P:=P) (Q:=Q) (t0:=t) (B:=B) (n:=n) (adz h0) h1 hd h2 (F0:=F) (w0:=w) (fun F' w' a' k1 k2=>hq _ F' w' a' k1 k2 h3) ops.size (Array.replicate ops.size false) F { w with drawn:=w.drawn+1 } a (by
   unfold left
   refine Nat.le_trans (List.length_filter_le _ _) (by simp)) ⟨hs.hp.same pc (fun _ _=>rfl),hs.size,hs.defers.mono pc,by simp,fun j o ho hl=>?_,fun j o v d ho jr hv hl=>?_,fun d _=>(hs.tm d).mono pc⟩ pc
 ·simpa using key
 ·by_cases hj:j<ops.size <;> simp[Array.getD,hj]at hl
 ·by_cases hj:j<ops.size <;> simp[Array.getD,hj]at hl
end
section
variable {P:Program} {TT:TypeId→Option TI}
def wO(Q:Exit→Act→World→Prop):Exit→Act→World→Prop
 |.panic _,_,_=>False
 |e,a,w=>Q e a w
theorem RN{Q:Exit→Act→World→Prop}:∀(e:Exit) (a:Act) (w:World),wO Q e a w→Q e a w:=fun e a w h=>by
 cases e <;> first | exact h | exact (h:False).elim
theorem rL(ops:List Oper)(ax:List Bool):Region.ready .any ops.toArray ax.toArray=iL ops ax:=by
 unfold Region.ready iL
 simp only[qB]
 apply List.filter_congr
 intro i hi
 have hi:=gw.1 hi
 have e:∀d,ax.toArray.getD i d=ax.getD i d:=fun d=>by simp[Array.getD_eq_getD_getElem?,List.getD_eq_getElem?_getD]
 rw[e]
 congr 1
 simp only[zk,bJ hi,Option.map_some,Option.getD_some]
 rw[← Array.all_toList]
 congr 1
 funext x
 simp[Array.getD_eq_getD_getElem?,List.getD_eq_getElem?_getD]
theorem Ki{ops:List Oper}(h:rM ops=true):Region.noSelect ops.toArray=true∧∀(i j:Nat) (o p:Oper),ops[i]?=some o→ops[j]?=some p→i=j∨pR o j=true∨pR p i=true∨o.apart ops.toArray p=true:=by
 unfold rM at h
 have hz:∀(i:Nat) (o:Oper),ops[i]?=some o→(o,i)∈ops.zipIdx:=fun i o ho=>by
  rw[Oo];exact ho
 refine⟨?_,fun i j o p hi hj=>?_⟩
 ·unfold Region.noSelect
  rw[← Array.all_toList]
  refine fk.2 fun o ho=>?_
  obtain⟨i,hi⟩:=rF.1 ho
  have:=List.all_eq_true.1 h (o,i) (hz i o (by simpa using hi))
  simp only[bL]at this
  exact this.1
 ·have:=fk.1 h (o,i) (hz i o hi)
  simp only[bL]at this
  have:=fk.1 this.2 (p,j) (hz j p hj)
  simp only[qA]at this
  rcases this with ((h | h) | h) | h
  ·exact .inl (jx h)
  ·exact .inr (.inl h)
  ·exact .inr (.inr (.inl h))
  ·exact .inr (.inr (.inr h))
def Still(ops:List Oper)(i:Nat):Prop:=∀o,ops[i]?=some o→oc o.op=false
def rN(P:Program)(ops:List Oper)(Q:Exit→Act→World→Prop):Nat→Array Bool→Act→World→Prop
 | 0,ax,a,w=>Region.ready .any ops.toArray ax=[]∧Q .normal a w
 |fuel+1,ax,a,w=>(Region.ready .any ops.toArray ax=[]→Q .normal a w)∧
  ∀i∈Region.ready .any ops.toArray ax,nX P ops.toArray Q i (fun a' w'=>(Still ops i→w'=w)∧rN P ops Q fuel (ax.setIfInBounds i true) a' w') a w
theorem Pq{ops:List Oper}{Q:Exit→Act→World→Prop}:∀(fuel:Nat) (ax:Array Bool) (a:Act) (w:World),rN P ops Q fuel ax a w→wN P .any ops.toArray Q fuel ax a w
 | 0,_,_,_,h=>h
 |fuel+1,_,_,_,h=>⟨h.1,fun i hi=>JR (fun a' w' h'=>Pq fuel _ a' w' h'.2) (h.2 i hi)⟩
def CQ(ops:List Oper)(ax:Array Bool):Prop:=∀(j:Nat) (o:Oper),ops[j]?=some o→ax.getD j false=true→∀e∈o.after,Region.binds .any e=true→ax.getD e.on false=true
theorem CQ.set{ops:List Oper}{ax:Array Bool}(h:CQ ops ax){j:Nat}{o:Oper}(ho:ops[j]?=some o)(hr:∀e∈o.after,Region.binds .any e=true→ax.getD e.on false=true):CQ ops (ax.setIfInBounds j true):=by
 intro k p hp hk e he hb
 by_cases xn:k=j
 ·subst xn
  rw[ho]at hp;cases hp
  exact getD_set_true (hr e he hb)
 ·rw[getD_set_ne false (Ne.symm xn)]at hk
  exact getD_set_true (h k p hp hk e he hb)
theorem V9{ops:List Oper}{Q:Exit→Act→World→Prop}(h0:rM ops=true){S:World→Prop}{i:Nat}{oi:Oper}{v:Value}(hi:ops[i]?=some oi):
  ∀(fuel:Nat) (ax:Array Bool) (a:Act) (w:World),ax.size=ops.length→CQ ops ax→(∀e∈oi.after,Region.binds .any e=true→ax.getD e.on false=true)→i∈Region.ready .any ops.toArray ax→YieldsIf P ops.toArray S oi v a→S w→((∀w,S w)∨∀(j:Nat) (o:Oper),ops[j]?=some o→oc o.op=true→ax.getD j false=false→pR o i=true)→
   rN P ops Q fuel (ax.setIfInBounds i true) (a.put oi.dst v) w→rN P ops Q (fuel+1) ax a w:=by
 have eN:ops.toArray[i]?=some oi:=by simpa using hi
 have now:∀(fuel:Nat) (ax:Array Bool) (a:Act) (w:World),YieldsIf P ops.toArray S oi v a→S w→rN P ops Q fuel (ax.setIfInBounds i true) (a.put oi.dst v) w→nX P ops.toArray Q i (fun a' w'=>(Still ops i→w'=w)∧rN P ops Q fuel (ax.setIfInBounds i true) a' w') a w:=
  fun fuel ax a w hy xq H=>Wi eN hy xq ⟨fun _=>rfl,H⟩
 intro fuel
 induction fuel with
 |zero=>
  intro ax a w ei hc qp hr hy xq En H
  refine⟨fun h=>(by rw[h]at hr;cases hr),fun j hj=>?_⟩
  by_cases tH:j=i
  ·subst tH;exact now 0 ax a w hy xq H
  ·have:=ready_mono hj tH
   rw[H.1]at this
   cases this
 |succ fuel ih=>
  intro ax a w ei hc qp hr hy xq En H
  refine⟨fun h=>(by rw[h]at hr;cases hr),fun j hj=>?_⟩
  by_cases tH:j=i
  ·subst tH;exact now (fuel+1) ax a w hy xq H
  ·have h1:=H.2 j (ready_mono hj tH)
   obtain⟨Vx,oj,Nq,cg⟩:=mem_ready.1 hj
   have afV:=(mem_ready.1 hr).1
   have Vv:¬(pR oj i=true):=fun hb=>by
    obtain⟨e,he,zb,e1⟩:=zD hb
    have:=cg e he zb
    rw[e1,Bv afV]at this
    cases this
   have Dx:ops[j]?=some oj:=by simpa using Nq
   have vG:oi.apart ops.toArray oj=true:=by
    rcases (Ki h0).2 i j oi oj hi Dx with e | e | e | e
    ·exact absurd e.symm tH
    ·obtain⟨ed,he,zb,e1⟩:=zD e
     have:=qp ed he zb
     rw[e1,Bv Vx]at this
     cases this
    ·exact absurd e Vv
    ·exact e
   have Vn:=Region.noSelect_spec (Ki h0).1
   have h2:=X8 Nq vG (fun cs b=>Vn i oi cs b eN) (fun cs b=>Vn j oj cs b Nq) hy h1
   have aeW:(ax.setIfInBounds i true).setIfInBounds j true=(ax.setIfInBounds j true).setIfInBounds i true:=by rw[Array.setIfInBounds_comm _ _ (Ne.symm tH)]
   refine JR (fun a' w' h3=>?_) h2
   obtain⟨tF,hC',H'⟩:=h3
   have ag1:S w':=by
    rcases En with hS | D4
    ·exact hS w'
    ·cases he:oc oj.op with
     |true=>exact absurd (D4 j oj Dx he (Bv Vx)) Vv
     |false=>rw[hC' (fun o ho=>by rw[Dx]at ho;cases ho;exact he)];exact xq
   refine⟨hC',ih (ax.setIfInBounds j true) a' w' (by simpa using ei) (hc.set Dx cg) (fun e he hb=>getD_set_true (qp e he hb)) (ready_mono hr (Ne.symm tH)) tF ag1 ?_ ?_⟩
   ·rcases En with hS | D4
    ·exact .inl hS
    ·refine .inr fun k o ho he hk=>?_
     by_cases xn:k=j
     ·subst xn
      have ic:k<ax.size:=by rw[ei];exact (cf.1 Dx).1
      simp[Array.getD,ic]at hk
     ·rw[getD_set_ne false (Ne.symm xn)]at hk
      exact D4 k o ho he hk
   ·rw[← aeW]
    exact H'
theorem Q4{o:Op}(h:blind o=true){ρ:Operand→AV}{σ:Hp}{K:AV→Hp→Prop}(hw:gO P TT o ρ σ K):fy P TT o ρ σ (fun v=>K v σ)∧LF o=true:=by
 unfold blind at h
 split at h <;> first | exact⟨hw,rfl⟩ | cases h
theorem Se{f:Nat→Prop}:∀{l:List Nat},MT f l→∀i∈l,f i
 | [],_,i,h=>by cases h
 | [x],h,i,hi=>by simp at hi;subst hi;exact h
 |x::y::r,h,i,hi=>by
  rcases eG.1 hi with rfl | hi
  ·exact h.1
  ·exact Se (l:=y::r) h.2 i hi
theorem PR{o:Op}(h:oc o=false){ρ:Operand→AV}{σ:Hp}{K:AV→Hp→Prop}(hw:gO P TT o ρ σ K):fy P TT o ρ σ (fun v=>K v σ):=by
 unfold oc at h
 simp only[I4,qA]at h
 rcases h with h | h
 ·exact (Q4 h hw).1
 ·cases o <;> first | exact hw | cases h
theorem aaJ(ok:dz P TT){B n:Nat}{ops:List Oper}(h0:rM ops=true)(hd:∀o∈ops,∀d,o.dst=some d→d<n){K:Tm→Hp→Prop}{Q:Exit→Act→World→Prop}{F0:Nat→Prop}{w0:World}(hq:∀t' σ' F' w' a',bE F0 w0 F' w'→dh B n F' w' t' σ' a'→K t' σ'→Q .normal a' w'):
  ∀(m:Nat) (ax:List Bool) (t:Tm) (σ:Hp) (F:Nat→Prop) (w:World) (a:Act),left ax.toArray≤m→ax.length=ops.length→uW P TT ops (m+1) ax t σ K→dh B n F w t σ a→bE F0 w0 F w→CQ ops ax.toArray→rN P ops (wO Q) m ax.toArray a w:=by
 intro m
 induction m with
 |zero=>
  intro ax t σ F w a hl hlen h hs aq hC
  have hr:iL ops ax=[]:=by
   rw[← rL,Jh]
   intro j hj
   have:=(mem_ready.1 hj).1
   rw[J9 (by omega)]at this
   cases this
  rw[Q6]at h
  rw[hr]at h
  exact⟨by rw[rL];exact hr,hq t σ F w a aq hs h⟩
 |succ m ih=>
  intro ax t σ F w a hl hlen h hs aq hC
  rw[Q6]at h
  split at h
  ·rename_i hr
   refine⟨fun _=>hq t σ F w a aq hs h,fun i hi=>?_⟩
   rw[rL,hr]at hi
   cases hi
  ·rename_i i0 r0 hr
   have guard:∀{o:Oper} {b:Bool},uq ops o t b→Region.wanted o (yielded ops.toArray a.tmps)=b:=fun hg=>Ft hg fun d _=>⟨F,w,hs.tm d⟩
   have mem:∀j,j∈iL ops ax→∃o,ops[j]?=some o∧ax.toArray.getD j true=false∧∀e∈o.after,Region.binds .any e=true→ax.toArray.getD e.on false=true:=fun j hj=>by
    rw[← rL]at hj
    obtain⟨h1,o,h2,h3⟩:=mem_ready.1 hj
    exact⟨o,by simpa using h2,h1,h3⟩
   have kT:∀j,(ax.set j true).toArray=ax.toArray.setIfInBounds j true:=fun j=>by simp
   split at h
   ·rename_i j hj
    have Nx:=List.mem_of_find?_eq_some hj
    have A2:=List.find?_some hj
    rw[← hr]at Nx
    obtain⟨o,ho,e8,qp⟩:=mem j Nx
    unfold Lz at A2
    rw[ho]at A2
    have ab:left (ax.toArray.setIfInBounds j true)≤m:=by have:=B6 e8;omega
    unfold AA at h
    rw[ho]at h
    have aP:oc o.op=false:=by
     unfold oc
     simp only[qA,bL]at A2
     rcases A2 with hb | hb
     ·simp[hb]
     ·simp[hb.1]
    have hjr:j∈Region.ready .any ops.toArray ax.toArray:=by rw[rL];exact Nx
    have take:∀(S:World→Prop) v,((∀w,S w)∨∀(k:Nat) (o:Oper),ops[k]?=some o→oc o.op=true→ax.toArray.getD k false=false→pR o j=true)→S w→YieldsIf P ops.toArray S o v a→rN P ops (wO Q) m (ax.toArray.setIfInBounds j true) (a.put o.dst v) w→rN P ops (wO Q) (m+1) ax.toArray a w:=fun S v En xq hy hk=>
     V9 h0 ho m ax.toArray a w (by simpa using hlen) hC qp hjr hy xq En hk
    have qf:∀(x:AV) (u:Value),aA F w x u→uW P TT ops (m+1) (ax.set j true) (put t o.dst x) σ K→rN P ops (wO Q) m (ax.toArray.setIfInBounds j true) (a.put o.dst u) w:=fun x u hx hk=>by
     rw[← kT]
     exact ih _ _ σ F w _ (by rw[kT];exact ab) (by simpa using hlen) hk (hs.put (.refl _ _) hs.hp hx (hd o (List.mem_of_getElem? ho))) aq (by rw[kT];exact hC.set ho qp)
    rcases xT h with ⟨hg,h⟩ | ⟨hg,h⟩
    ·simp only[qA,bL]at A2
     rcases A2 with hb | ⟨hb,D4⟩
     ·obtain⟨h1,h2⟩:=Q4 hb h
      obtain⟨v,k1,k2⟩:=QF ok h2 h1
      obtain⟨u,r1,r2⟩:=k2 a.eval F w o rfl (fun x _=>hs.tm.eval x)
      exact take (fun _=>True) u (.inl fun _=>trivial) trivial (.inl ⟨guard hg,fun w' _=>r1 w'⟩) (qf v u r2 k1)
     ·obtain⟨v,k1,k2⟩:=FA ok (PR aP h)
      obtain⟨u,r1,r2⟩:=k2 a.eval F w o rfl (fun x _=>hs.tm.eval x) hs.hp
      refine take (fun x=>x=w) u (.inr fun k p hp hk hl=>?_) rfl (.inl ⟨guard hg,fun w' e=>by subst e;exact r1⟩) (qf v u r2 k1)
      have:=fk.1 D4 (p,k) (by rw[Oo];exact hp)
      have Nu:ax.getD k false=false:=by
       rw[jy,zk,← aW]at hl
       exact hl
      simpa only [hk,Nu,Ew,oK]using this
    ·exact take (fun _=>True) undef (.inl fun _=>trivial) trivial (.inr ⟨guard hg,rfl⟩) (qf (.tup []) undef xP h)
   ·refine⟨fun h1=>absurd h1 (by rw[rL,hr];simp),fun j hj=>?_⟩
    rw[rL]at hj
    obtain⟨o,ho,e8,qp⟩:=mem j hj
    have h:=Se h j (by rw[← hr];exact hj)
    have qt:j<ops.length:=(cf.1 ho).1
    have ab:left (ax.toArray.setIfInBounds j true)≤m:=by have:=B6 e8;omega
    unfold AA at h
    rw[ho]at h
    unfold nX
    rw[show ops.toArray[j]?=some o by simpa using ho]
    have qf:∀(x:AV) (u:Value) (σ':Hp) (F':Nat→Prop) (w':World),bE F w F' w'→bg F' w' σ'→aA F' w' x u→(Still ops j→w'=w)→uW P TT ops (m+1) (ax.set j true) (put t o.dst x) σ' K→(Still ops j→w'=w)∧rN P ops (wO Q) m (ax.toArray.setIfInBounds j true) (a.put o.dst u) w':=fun x u σ' F' w' q1 q2 q3 q4 hk=>by
     refine⟨q4,?_⟩
     rw[← kT]
     exact ih _ _ σ' F' w' _ (by rw[kT];exact ab) (by simpa using hlen) hk (hs.put q1 q2 q3 (hd o (List.mem_of_getElem? ho))) (aq.trans q1) (by rw[kT];exact hC.set ho qp)
    cases he:oc o.op with
    |true=>
     have vac:Still ops j→False:=fun hn=>by
      have:=hn o ho
      rw[he]at this
      cases this
     rcases xT h with ⟨hg,h⟩ | ⟨hg,h⟩
     ·simp only[guard hg,if_true]
      refine (J3 ok h a F w (fun x _=>hs.tm.eval x) hs.hp _ _ ?_)
      intro v av σ' F' w' q1 q2 q3 q4
      exact qf av v σ' F' w' q1 q2 q3 (fun hn=>(vac hn).elim) q4
     ·simp only[guard hg,lN,if_false]
      exact⟨fun _=>trivial,(qf (.tup []) undef σ F w (.refl _ _) hs.hp xP (fun _=>rfl) h).2⟩
    |false=>
     rcases xT h with ⟨hg,h⟩ | ⟨hg,h⟩
     ·simp only[guard hg,if_true]
      obtain⟨v,k1,k2⟩:=FA ok (PR he h)
      obtain⟨u,r1,r2⟩:=k2 a.eval F w o rfl (fun x _=>hs.tm.eval x) hs.hp
      unfold wq
      rw[r1]
      exact qf v u σ F w (.refl _ _) hs.hp r2 (fun _=>rfl) k1
     ·simp only[guard hg,lN,if_false]
      exact⟨fun _=>trivial,(qf (.tup []) undef σ F w (.refl _ _) hs.hp xP (fun _=>rfl) h).2⟩
theorem PZ(ok:dz P TT)(hm:P.follows .mixedOrders=true){r:Option Nat}{B n id:Nat}{ops:Array Oper}{t:Tm}{σ:Hp}{K:Tm→Hp→Prop}{F:Nat→Prop}{w:World}{a:Act}{Q:Exit→Act→World→Prop}(h0:rM ops.toList=true)(h:uW P TT ops.toList (ops.toList.length+1) (List.replicate ops.toList.length false) t σ K)(hd:∀o∈ops.toList,∀d,o.dst=some d→d<n)(bZ:∀o∈ops.toList,∀c,o.op≠.defer c)(hs:dh B n F w t σ a)
  (hq:∀t' σ' F' w' a',bE F w F' w'→dh B n F' w' t' σ' a'→K t' σ'→Q .normal a' w'):(Code.region id ops true).wpIn (FW r) 0 P Q a w:=by
 have pc:bE F w F { w with drawn:=w.drawn+1 }:=xN hs.hp.low rfl rfl rfl (aU _) (fun _ _=>rfl)
 refine wpIn_mono (JH hm bZ ?_) RN
 have key:=aaJ (P:=P) (Q:=Q) ok h0 hd (F0:=F) (w0:=w) hq ops.toList.length (List.replicate ops.toList.length false) t σ F { w with drawn:=w.drawn+1 } a (by
   unfold left
   refine Nat.le_trans (List.length_filter_le _ _) (by simp)) (by simp) h ⟨hs.tm.mono pc,hs.hp.same pc (fun _ _=>rfl),hs.size,hs.defers.mono pc⟩ pc (fun j o ho hl=>by
    simp[Array.getD]at hl)
 simpa using Pq _ _ _ _ key
end
end Go.Proofs.YtnikdflhefijbaaGreat
