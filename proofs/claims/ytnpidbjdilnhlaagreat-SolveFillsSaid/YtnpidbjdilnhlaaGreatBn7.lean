import Derived.OrdersHeld
import Derived.Test.YtnpidbjdilnhlaaGreatBn6
namespace Go.Proofs.YtnpidbjdilnhlaaGreat
open Go.RowKit
section
variable {P:Program} {TT:TypeId→Option TI}
def AZ(P:Program)(ops:List Oper)(σ:Hp)(o:Oper)(t:Tm)(v:AV):Prop:=(qg ops o t true∧Em P o (ev t) σ v)∨(qg ops o t false∧v=.tup [])
def lK:Tm→List Oper→List AV→Nat→Tm
 | t,o::l,v::vs,i+1=>lK (put t o.dst v) l vs i
 | t,_,_,_=>t
theorem Jg(ok:ck P TT){ops:List Oper}{σ:Hp}{K:Tm→Prop}:∀(l:List Oper) (t:Tm),Bo P TT ops l t σ K→∃cf:List AV,cf.length=l.length∧(∀(i:Nat) (o:Oper) (v:AV),l[i]?=some o→cf[i]?=some v→AZ P ops σ o (lK t l cf i) v)∧K (lK t l cf l.length)
 | [],t,h=>⟨[],rfl,fun i o v h=>by simp at h,h⟩
 | o::l,t,h=>by
  have go:∀v,AZ P ops σ o t v→Bo P TT ops l (put t o.dst v) σ K→∃cf:List AV,cf.length=(o::l).length∧(∀(i:Nat) (o':Oper) (v:AV),(o::l)[i]?=some o'→cf[i]?=some v→AZ P ops σ o' (lK t (o::l) cf i) v)∧K (lK t (o::l) cf (o::l).length):=by
   intro v hv hk
   obtain⟨cf,h1,h2,h3⟩:=Jg ok l _ hk
   refine⟨v::cf,by simp[h1],fun i o' v' ho qX =>?_,h3⟩
   cases i with
   | zero=>simp at ho qX;subst ho;subst qX;exact hv
   | succ i=>exact h2 i o' v' (by simpa using ho) (by simpa using qX)
  rcases sV h with ⟨hg,h⟩ | ⟨hg,h⟩
  ·obtain⟨v,hk,hl⟩:=Ii ok h
   exact go v (.inl ⟨hg,hl⟩) hk
  ·exact go (.tup []) (.inr ⟨hg,rfl⟩) h
theorem w5{x:Tmp}:∀(l:List Oper) (cf:List AV) (t:Tm) (i:Nat),(∀j,j<i→∀o,l[j]?=some o→o.dst≠some x)→lK t l cf i x=t x
 | [],_,_,i,_=>by cases i <;> rfl
 | _::_,[],_,i,_=>by cases i <;> rfl
 | o::l,v::cf,t,0,_=>rfl
 | o::l,v::cf,t,i+1,h=>by
  have h0:=h 0 (by omega) o rfl
  rw[lK,w5 l cf _ i (fun j hj o' ho=>h (j+1) (by omega) o' (by simpa using ho))]
  cases hd:o.dst with
  | none=>rfl
  | some d =>
   have:Nat.beq x d=false:=by
    cases hb:Nat.beq x d with
    | false=>rfl
    | true=>exact absurd (by rw[hd,Nat.eq_of_beq_eq_true hb]) h0
   show (match Nat.beq x d with | true=>v | false=>t x)=t x
   rw[this]
theorem DC{x:Tmp}{v:AV}{p:Oper}:∀(l:List Oper) (cf:List AV) (t:Tm) (i j:Nat),j<i→l[j]?=some p→p.dst=some x→(∀k,k<i→k≠j→∀o,l[k]?=some o→o.dst≠some x)→cf[j]?=some v→lK t l cf i x=v
 | [],_,_,_,_,_,hp,_,_,_=>by simp at hp
 | _::_,[],_,_,_,_,_,_,_,hv=>by simp at hv
 | _::_,_::_,_,0,_,hj,_,_,_,_=>by omega
 | o::l,u::cf,t,i+1,0,_,hp,hx,hn,hv=>by
  simp at hp hv
  subst hp;subst hv
  rw[lK,w5 l cf _ i (fun k hk o' ho=>hn (k+1) (by omega) (by omega) o' (by simpa using ho))]
  simp[put,hx]
 | o::l,u::cf,t,i+1,j+1,hj,hp,hx,hn,hv =>
  DC l cf (put t o.dst u) i j (by omega) (by simpa using hp) hx (fun k hk aS o' ho=>hn (k+1) (by omega) (by omega) o' (by simpa using ho)) (by simpa using hv)
structure GH(ops:List Oper):Prop where
 back:∀(i:Nat) (o:Oper),ops[i]?=some o→∀e∈o.after,Region.binds .any e=true→e.on<i
 BF:∀(i j:Nat) (o p:Oper) (d:Tmp),ops[i]?=some o→ops[j]?=some p→p.dst=some d→o.dst=some d→i=j
 look:∀(i j:Nat) (o p:Oper) (d:Tmp),ops[i]?=some o→ops[j]?=some p→p.dst=some d→d∈td ops o→i=j∨(j<i∧l7 o j=true)∨(i<j∧l7 p i=true)
theorem UQ{ops:List Oper}(h:Aq ops=true):GH ops:=by
 unfold Aq at h
 have hz:∀(i:Nat) (o:Oper),ops[i]?=some o→(o,i)∈ops.zipIdx:=fun i o ho=>by
  rw[List.mem_zipIdx_iff_getElem?];exact ho
 have bH:=fun (i:Nat) (o:Oper) (ho:ops[i]?=some o)=>List.all_eq_true.1 h (o,i) (hz i o ho)
 refine⟨fun i o ho e he hb =>?_,fun i j o p d ho hp ik gk =>?_,fun i j o p d ho hp ik hd =>?_⟩
 ·have h1:=bH i o ho
  simp only[Bool.and_eq_true]at h1
  have h2:=List.all_eq_true.1 h1.1 e (by simpa using he)
  simp only[hb,Bool.not_true,Bool.false_or]at h2
  exact Nat.le_of_ble_eq_true h2
 ·have h1:=bH i o ho
  simp only[Bool.and_eq_true]at h1
  have h2:=List.all_eq_true.1 h1.2 (p,j) (hz j p hp)
  simp only[ik,gk,Bool.and_eq_true,Bool.or_eq_true,Nat.beq_refl,Bool.not_true]at h2
  rcases h2.1 with h3 | h3
  ·exact Nat.eq_of_beq_eq_true h3
  ·cases h3
 ·have h1:=bH i o ho
  simp only[Bool.and_eq_true]at h1
  have h2:=List.all_eq_true.1 h1.2 (p,j) (hz j p hp)
  simp only[ik,Bool.and_eq_true,Bool.or_eq_true]at h2
  rcases h2.2 with ((h3 | h3) | h3) | h3
  ·exfalso
   have:(td ops o).any (Nat.beq d)=true:=List.any_eq_true.2 ⟨d,hd,Nat.beq_refl d⟩
   rw[this]at h3
   cases h3
  ·exact .inl (Nat.eq_of_beq_eq_true h3)
  ·exact .inr (.inl ⟨Nat.le_of_ble_eq_true h3.1,h3.2⟩)
  ·exact .inr (.inr ⟨Nat.le_of_ble_eq_true h3.1,h3.2⟩)
theorem uz{o:Oper}{j:Nat}(h:l7 o j=true):∃e∈o.after,Region.binds .any e=true∧e.on=j:=by
 obtain⟨e,h1,h2⟩:=List.any_eq_true.1 h
 simp only[Bool.and_eq_true]at h2
 exact⟨e,by simpa using h1,h2.1,Nat.eq_of_beq_eq_true h2.2⟩
def left(ax:Array Bool):Nat:=(ax.toList.filter (fun b => !b)).length
theorem Ir:∀(l:List Bool) (i:Nat),l[i]?=some false→((l.set i true).filter (fun b => !b)).length+1=(l.filter (fun b => !b)).length
 | [],i,h=>by simp at h
 | b::l,0,h=>by simp at h;subst h;simp
 | b::l,i+1,h=>by
  have:=Ir l i (by simpa using h)
  cases b <;> simp at this ⊢ <;> omega
theorem wR{ax:Array Bool}{i:Nat}(h:ax.getD i true=false):left (ax.setIfInBounds i true)+1=left ax:=by
 unfold left
 rw[Array.toList_setIfInBounds]
 refine Ir _ i ?_
 rw[Array.getElem?_toList]
 rw[Array.getD_eq_getD_getElem?]at h
 cases hq:ax[i]? with
 | none=>rw[hq]at h;simp at h
 | some b=>rw[hq]at h;simp at h;rw[h]
theorem C1{ax:Array Bool}(h:left ax=0){i:Nat}:ax.getD i true=true:=by
 cases hb:ax.getD i true with
 | true=>rfl
 | false=>have:=wR hb;omega
structure BL(P:Program)(ops:List Oper)(t0:Tm)(cf:List AV)(σ:Hp)(B n:Nat)(ax:Array Bool)(F:Nat→Prop)(w:World)(a:Act):Prop where
 hp:aV F w σ
 size:n≤a.tmps.size
 defers:Marks B F w a.defers
 Ey:ax.size=ops.length
 closed:∀(j:Nat) (o:Oper),ops[j]?=some o→ax.getD j false=true→∀e∈o.after,Region.binds .any e=true→ax.getD e.on false=true
 FD:∀(j:Nat) (o:Oper) (v:AV) (d:Tmp),ops[j]?=some o→o.dst=some d→cf[j]?=some v→ax.getD j false=true→aA F w v (a.tmps.getD d undef)
 out:∀d,(∀(j:Nat) (o:Oper),ops[j]?=some o→o.dst=some d→ax.getD j false=false)→aA F w (t0 d) (a.tmps.getD d undef)
theorem wg{ax:Array Bool}{i:Nat}(h:ax.getD i true=false):ax.getD i false=false:=by
 rw[Array.getD_eq_getD_getElem?]at h ⊢
 cases hq:ax[i]? with
 | none=>rw[hq]at h;simp at h
 | some b=>rw[hq]at h;simpa using h
theorem Nq{ax:Array Bool}{i:Nat}(hi:i<ax.size)(h:ax.getD i true=true):ax.getD i false=true:=by
 rw[Array.getD_eq_getD_getElem?]at h ⊢
 rw[Array.getElem?_eq_getElem hi]at h ⊢
 simpa using h
section
variable {ops:List Oper} {t0:Tm} {cf:List AV} {σ:Hp} {B n:Nat} {ax:Array Bool} {F:Nat→Prop} {w:World} {a:Act}
theorem BL.look(hJ:BL P ops t0 cf σ B n ax F w a)(ho:GH ops)(tY:cf.length=ops.length){i:Nat}{o:Oper}(hi:ops[i]?=some o)(eb:ax.getD i true=false)(mH:∀e∈o.after,Region.binds .any e=true→ax.getD e.on false=true){d:Tmp}(hd:d∈td ops o):
  aA F w (lK t0 ops cf i d) (a.tmps.getD d undef):=by
 by_cases hw:∃(j:Nat) (p:Oper),ops[j]?=some p∧p.dst=some d
 ·obtain⟨j,p,hp,ik⟩:=hw
  have uniq:∀k,k≠j→∀o',ops[k]?=some o'→o'.dst≠some d:=fun k hk o' ez gk=>hk (ho.BF k j o' p d ez hp ik gk)
  have out:ax.getD j false=false→(i≤j)→aA F w (lK t0 ops cf i d) (a.tmps.getD d undef):=fun hl jK=>by
   rw[w5 ops cf t0 i (fun k hk o' ez=>uniq k (by omega) o' ez)]
   exact hJ.out d fun k o' ez gk=>by rw[ho.BF k j o' p d ez hp ik gk];exact hl
  rcases ho.look i j o p d hi hp ik hd with e | ⟨h1,h2⟩ | ⟨h1,h2⟩
  ·subst e
   exact out (wg eb) (Nat.le_refl _)
  ·obtain⟨e,he,hb,rfl⟩:=uz h2
   have hl:=mH e he hb
   have qZ:e.on<ops.length:=(List.getElem?_eq_some_iff.1 hp).1
   have hv:cf[e.on]?=some cf[e.on]:=List.getElem?_eq_getElem (by omega)
   rw[DC ops cf t0 i e.on h1 hp ik (fun k _ aS=>uniq k aS) hv]
   exact hJ.FD e.on p _ d hp ik hv hl
  ·obtain⟨e,he,hb,rfl⟩:=uz h2
   refine out ?_ (by omega)
   cases hl:ax.getD j false with
   | false=>rfl
   | true =>
    have:=hJ.closed j p hp hl e he hb
    rw[wg eb]at this
    cases this
 ·rw[w5 ops cf t0 i (fun k _ o' ez gk=>hw ⟨k,o',ez,gk⟩)]
  exact hJ.out d fun j o' ez gk=>absurd ⟨j,o',ez,gk⟩ hw
theorem PE(ho:GH ops)(tY:cf.length=ops.length)(hd:∀o∈ops,∀d,o.dst=some d→d<n)(hf:∀(i:Nat) (o:Oper) (v:AV),ops[i]?=some o→cf[i]?=some v→AZ P ops σ o (lK t0 ops cf i) v){Q:Exit→Act→World→Prop}{F0:Nat→Prop}{w0:World}
  (hq:∀F' w' a',a6 F0 w0 F' w'→ca B n F' w' (lK t0 ops cf ops.length) σ a'→Q .normal a' w') :
  ∀(fuel:Nat) (ax:Array Bool) (F:Nat→Prop) (w:World) (a:Act),left ax≤fuel→BL P ops t0 cf σ B n ax F w a→a6 F0 w0 F w→rY P .any ops.toArray Q fuel ax a w:=by
 have fin:∀(ax:Array Bool) (F:Nat→Prop) (w:World) (a:Act),BL P ops t0 cf σ B n ax F w a→a6 F0 w0 F w→Region.ready .any ops.toArray ax=[]→Q .normal a w:=by
  intro ax F w a hJ ar hr
  have all:∀j,j<ops.length→ax.getD j false=true:=by
   intro j
   induction j using Nat.strongRecOn with
   | _ j ih =>
    intro hj
    cases hl:ax.getD j true with
    | true=>exact Nq (by rw[hJ.Ey];exact hj) hl
    | false =>
     exfalso
     have hm:j∈Region.ready .any ops.toArray ax:=by
      rw[mem_ready]
      refine⟨hl,ops[j],by simp[hj],fun e he hb =>?_⟩
      have:=ho.back j ops[j] (by simp[hj]) e he hb
      exact ih _ this (by omega)
     rw[hr]at hm
     cases hm
  refine hq F w a ar ⟨fun d =>?_,hJ.hp,hJ.size,hJ.defers⟩
  by_cases hw:∃(j:Nat) (p:Oper),ops[j]?=some p∧p.dst=some d
  ·obtain⟨j,p,hp,ik⟩:=hw
   have qZ:j<ops.length:=(List.getElem?_eq_some_iff.1 hp).1
   have hv:cf[j]?=some cf[j]:=List.getElem?_eq_getElem (by omega)
   rw[DC ops cf t0 ops.length j qZ hp ik (fun k _ aS o' ez gk=>aS (ho.BF k j o' p d ez hp ik gk)) hv]
   exact hJ.FD j p _ d hp ik hv (all j qZ)
  ·rw[w5 ops cf t0 ops.length (fun k _ o' ez gk=>hw ⟨k,o',ez,gk⟩)]
   exact hJ.out d fun j o' ez gk=>absurd ⟨j,o',ez,gk⟩ hw
 intro fuel
 induction fuel with
 | zero =>
  intro ax F w a hl hJ ar
  have hr:Region.ready .any ops.toArray ax=[]:=by
   rw[List.eq_nil_iff_forall_not_mem]
   intro j hj
   have:=(mem_ready.1 hj).1
   rw[C1 (by omega)]at this
   cases this
  exact⟨hr,fin ax F w a hJ ar hr⟩
 | succ fuel ih =>
  intro ax F w a hl hJ ar
  refine⟨fin ax F w a hJ ar,fun i hi =>?_⟩
  obtain⟨eb,o,gP,mH⟩:=mem_ready.1 hi
  have gP:ops[i]?=some o:=by simpa using gP
  have mJ:i<ops.length:=(List.getElem?_eq_some_iff.1 gP).1
  have hvi:cf[i]?=some cf[i]:=List.getElem?_eq_getElem (by omega)
  have vm:=fun {d:Tmp} (hd:d∈td ops o)=>hJ.look ho tY gP eb mH hd
  have LI:∀{b:Bool},qg ops o (lK t0 ops cf i) b→Region.wanted o (yielded ops.toArray a.tmps)=b:=fun hg=>zQ hg fun d ⟨j,want,h1,h2⟩=>⟨F,w,vm (d:=d) (by unfold td;rw[h1];simp[h2])⟩
  have next:∀(F':Nat→Prop) (w':World) (u:Value),a6 F w F' w'→aV F' w' σ→aA F' w' cf[i] u→rY P .any ops.toArray Q fuel (ax.setIfInBounds i true) (a.put o.dst u) w':=by
   intro F' w' u h1 h2 h3
   have aS:∀j,j≠i→(ax.setIfInBounds i true).getD j false=ax.getD j false:=fun j hj=>getD_set_ne false (Ne.symm hj)
   have Wb:(ax.setIfInBounds i true).getD i false=true:=by simp[Array.getD,hJ.Ey,mJ]
   refine ih _ F' w' _ (by have:=wR eb;omega) ⟨h2,by rw[Jb];exact hJ.size,by rw[J8];exact hJ.defers.mono h1,by simp[hJ.Ey],fun j p hp hl e he hb =>?_,fun j p v d hp ik hv hl =>?_,fun d hn =>?_⟩ (ar.trans h1)
   ·refine getD_set_true ?_
    by_cases hj:j=i
    ·subst hj
     rw[gP]at hp
     cases hp
     exact mH e he hb
    ·rw[aS j hj]at hl
     exact hJ.closed j p hp hl e he hb
   ·by_cases hj:j=i
    ·subst hj
     rw[gP]at hp
     cases hp
     rw[hvi]at hv
     cases hv
     have di:d<a.tmps.size:=Nat.lt_of_lt_of_le (hd o (List.mem_of_getElem? gP) d ik) hJ.size
     rw[ik]
     simpa [Act.put,Array.getD,di]using h3
    ·rw[aS j hj]at hl
     have h4:=(hJ.FD j p v d hp ik hv hl).mono h1
     have bC:o.dst≠some d:=fun gk=>hj (ho.BF j i p o d hp gP gk ik)
     cases gk:o.dst with
     | none=>exact h4
     | some d' =>
      have q8:d'≠d:=fun e=>bC (by rw[gk,e])
      show aA F' w' v ((a.tmps.setIfInBounds d' u).getD d undef)
      rw[Array.getD_eq_getD_getElem?]at h4 ⊢
      rw[Array.getElem?_setIfInBounds_ne q8]
      exact h4
   ·have bC:o.dst≠some d:=fun gk=>by
     have:=hn i o gP gk
     rw[Wb]at this
     cases this
    have h4:=(hJ.out d fun j p hp ik=>by
     by_cases hj:j=i
     ·subst hj;rw[gP]at hp;cases hp;exact absurd ik bC
     ·rw[← aS j hj];exact hn j p hp ik).mono h1
    cases gk:o.dst with
    | none=>exact h4
    | some d' =>
     have q8:d'≠d:=fun e=>bC (by rw[gk,e])
     show aA F' w' (t0 d) ((a.tmps.setIfInBounds d' u).getD d undef)
     rw[Array.getD_eq_getD_getElem?]at h4 ⊢
     rw[Array.getElem?_setIfInBounds_ne q8]
     exact h4
  unfold kO
  rw[show ops.toArray[i]?=some o by simpa using gP]
  rcases hf i o cf[i] gP hvi with ⟨hg,hl⟩ | ⟨hg,hv⟩
  ·simp only[LI hg,if_true]
   refine (hl a F w (fun x hx=>JH x fun d e =>?_) hJ.hp _ Q (fun u F' w' k1 k2 k3=>next F' w' u k1 k2 k3))
   subst e
   exact vm (by unfold td;exact List.mem_append_left _ (List.mem_filterMap.2 ⟨.tmp d,hx,rfl⟩))
  ·simp only[LI hg,Bool.false_eq_true,if_false]
   exact next F w undef (.refl _ _) hJ.hp (by rw[hv];exact sS)
end
theorem NM(ok:ck P TT)(hm:P.follows .mixedOrders=true){r:Option Nat}{B n id:Nat}{ops:Array Oper}{t:Tm}{σ:Hp}{K:Tm→Prop}{F:Nat→Prop}{w:World}{a:Act}{Q:Exit→Act→World→Prop}(h0:Aq ops.toList=true)(h:Bo P TT ops.toList ops.toList t σ K)(hd:∀o∈ops.toList,∀d,o.dst=some d→d<n)(bC:∀o∈ops.toList,∀c,o.op≠.defer c)(hs:ca B n F w t σ a)
  (hq:∀t' F' w' a',a6 F w F' w'→ca B n F' w' t' σ a'→K t'→Q .normal a' w'):(Code.region id ops true).wpIn (FW r) 0 P Q a w:=by
 obtain⟨cf,h1,h2,h3⟩:=Jg ok _ _ h
 have lF:a6 F w F { w with drawn:=w.drawn+1 }:=sQ hs.hp.low rfl rfl rfl (Nat.le_refl _) (fun _ _=>rfl)
 refine CB hm bC ?_
 have key:=PE (P:=P) (Q:=Q) (t0:=t) (B:=B) (n:=n) (UQ h0) h1 hd h2 (F0:=F) (w0:=w) (fun F' w' a' k1 k2=>hq _ F' w' a' k1 k2 h3) ops.size (Array.replicate ops.size false) F { w with drawn:=w.drawn+1 } a (by
   unfold left
   refine Nat.le_trans (List.length_filter_le _ _) (by simp)) ⟨hs.hp.same lF (fun _ _=>rfl),hs.size,hs.defers.mono lF,by simp,fun j o ho hl =>?_,fun j o v d ho gk hv hl =>?_,fun d _=>(hs.tm d).mono lF⟩ lF
 ·simpa using key
 ·by_cases hj:j<ops.size <;> simp[Array.getD,hj]at hl
 ·by_cases hj:j<ops.size <;> simp[Array.getD,hj]at hl
end
section
variable {P:Program} {TT:TypeId→Option TI}
def r7(Q:Exit→Act→World→Prop):Exit→Act→World→Prop
 | .panic _,_,_=>False
 | e,a,w=>Q e a w
theorem Jq{Q:Exit→Act→World→Prop}:∀(e:Exit) (a:Act) (w:World),r7 Q e a w→Q e a w:=fun e a w h=>by
 cases e <;> first | exact h | exact (h:False).elim
theorem nM(ops:List Oper)(ax:List Bool):Region.ready .any ops.toArray ax.toArray=fI ops ax:=by
 unfold Region.ready fI
 simp only[List.size_toArray]
 apply List.filter_congr
 intro i hi
 have hi:=List.mem_range.1 hi
 have e:∀d,ax.toArray.getD i d=ax.getD i d:=fun d=>by simp[Array.getD_eq_getD_getElem?,List.getD_eq_getElem?_getD]
 rw[e]
 congr 1
 simp only[List.getElem?_toArray,List.getElem?_eq_getElem hi,Option.map_some,Option.getD_some]
 rw[← Array.all_toList]
 congr 1
 funext x
 simp[Array.getD_eq_getD_getElem?,List.getD_eq_getElem?_getD]
theorem Db{ops:List Oper}(h:nQ ops=true):Region.noSelect ops.toArray=true∧∀(i j:Nat) (o p:Oper),ops[i]?=some o→ops[j]?=some p→i=j∨l7 o j=true∨l7 p i=true∨o.apart ops.toArray p=true:=by
 unfold nQ at h
 have hz:∀(i:Nat) (o:Oper),ops[i]?=some o→(o,i)∈ops.zipIdx:=fun i o ho=>by
  rw[List.mem_zipIdx_iff_getElem?];exact ho
 refine⟨?_,fun i j o p hi hj =>?_⟩
 ·unfold Region.noSelect
  rw[← Array.all_toList]
  refine List.all_eq_true.2 fun o ho =>?_
  obtain⟨i,hi⟩:=List.mem_iff_getElem?.1 ho
  have:=List.all_eq_true.1 h (o,i) (hz i o (by simpa using hi))
  simp only[Bool.and_eq_true]at this
  exact this.1
 ·have:=List.all_eq_true.1 h (o,i) (hz i o hi)
  simp only[Bool.and_eq_true]at this
  have:=List.all_eq_true.1 this.2 (p,j) (hz j p hj)
  simp only[Bool.or_eq_true]at this
  rcases this with ((h | h) | h) | h
  ·exact .inl (Nat.eq_of_beq_eq_true h)
  ·exact .inr (.inl h)
  ·exact .inr (.inr (.inl h))
  ·exact .inr (.inr (.inr h))
def Still(ops:List Oper)(i:Nat):Prop:=∀o,ops[i]?=some o→kU o.op=false
def nR(P:Program)(ops:List Oper)(Q:Exit→Act→World→Prop):Nat→Array Bool→Act→World→Prop
 | 0,ax,a,w=>Region.ready .any ops.toArray ax=[]∧Q .normal a w
 | fuel+1,ax,a,w=>(Region.ready .any ops.toArray ax=[]→Q .normal a w)∧
  ∀i∈Region.ready .any ops.toArray ax,kO P ops.toArray Q i (fun a' w'=>(Still ops i→w'=w)∧nR P ops Q fuel (ax.setIfInBounds i true) a' w') a w
theorem Hg{ops:List Oper}{Q:Exit→Act→World→Prop}:∀(fuel:Nat) (ax:Array Bool) (a:Act) (w:World),nR P ops Q fuel ax a w→rY P .any ops.toArray Q fuel ax a w
 | 0,_,_,_,h=>h
 | fuel+1,_,_,_,h=>⟨h.1,fun i hi=>CN (fun a' w' h'=>Hg fuel _ a' w' h'.2) (h.2 i hi)⟩
def xq(ops:List Oper)(ax:Array Bool):Prop:=∀(j:Nat) (o:Oper),ops[j]?=some o→ax.getD j false=true→∀e∈o.after,Region.binds .any e=true→ax.getD e.on false=true
theorem xq.set{ops:List Oper}{ax:Array Bool}(h:xq ops ax){j:Nat}{o:Oper}(ho:ops[j]?=some o)(hr:∀e∈o.after,Region.binds .any e=true→ax.getD e.on false=true):xq ops (ax.setIfInBounds j true):=by
 intro k p hp hk e he hb
 by_cases sx:k=j
 ·subst sx
  rw[ho]at hp;cases hp
  exact getD_set_true (hr e he hb)
 ·rw[getD_set_ne false (Ne.symm sx)]at hk
  exact getD_set_true (h k p hp hk e he hb)
theorem Nl{ops:List Oper}{Q:Exit→Act→World→Prop}(h0:nQ ops=true){S:World→Prop}{i:Nat}{oi:Oper}{v:Value}(hi:ops[i]?=some oi):
  ∀(fuel:Nat) (ax:Array Bool) (a:Act) (w:World),ax.size=ops.length→xq ops ax→(∀e∈oi.after,Region.binds .any e=true→ax.getD e.on false=true)→i∈Region.ready .any ops.toArray ax→YieldsIf P ops.toArray S oi v a→S w→((∀w,S w)∨∀(j:Nat) (o:Oper),ops[j]?=some o→kU o.op=true→ax.getD j false=false→l7 o i=true)→
   nR P ops Q fuel (ax.setIfInBounds i true) (a.put oi.dst v) w→nR P ops Q (fuel+1) ax a w:=by
 have lh:ops.toArray[i]?=some oi:=by simpa using hi
 have now:∀(fuel:Nat) (ax:Array Bool) (a:Act) (w:World),YieldsIf P ops.toArray S oi v a→S w→nR P ops Q fuel (ax.setIfInBounds i true) (a.put oi.dst v) w→kO P ops.toArray Q i (fun a' w'=>(Still ops i→w'=w)∧nR P ops Q fuel (ax.setIfInBounds i true) a' w') a w:=
  fun fuel ax a w hy sB H=>Nu lh hy sB ⟨fun _=>rfl,H⟩
 intro fuel
 induction fuel with
 | zero =>
  intro ax a w cS hc mH hr hy sB yS H
  refine⟨fun h=>(by rw[h]at hr;cases hr),fun j hj =>?_⟩
  by_cases nA:j=i
  ·subst nA;exact now 0 ax a w hy sB H
  ·have:=ready_mono hj nA
   rw[H.1]at this
   cases this
 | succ fuel ih =>
  intro ax a w cS hc mH hr hy sB yS H
  refine⟨fun h=>(by rw[h]at hr;cases hr),fun j hj =>?_⟩
  by_cases nA:j=i
  ·subst nA;exact now (fuel+1) ax a w hy sB H
  ·have h1:=H.2 j (ready_mono hj nA)
   obtain⟨Mv,oj,FT,bH⟩:=mem_ready.1 hj
   have Xu:=(mem_ready.1 hr).1
   have Mu:¬(l7 oj i=true):=fun hb=>by
    obtain⟨e,he,uh,e1⟩:=uz hb
    have:=bH e he uh
    rw[e1,wg Xu]at this
    cases this
   have x4:ops[j]?=some oj:=by simpa using FT
   have ri:oi.apart ops.toArray oj=true:=by
    rcases (Db h0).2 i j oi oj hi x4 with e | e | e | e
    ·exact absurd e.symm nA
    ·obtain⟨ed,he,uh,e1⟩:=uz e
     have:=mH ed he uh
     rw[e1,wg Mv]at this
     cases this
    ·exact absurd e Mu
    ·exact e
   have Mn:=Region.noSelect_spec (Db h0).1
   have h2:=Ph FT ri (fun cs b=>Mn i oi cs b lh) (fun cs b=>Mn j oj cs b FT) hy h1
   have Wh:(ax.setIfInBounds i true).setIfInBounds j true=(ax.setIfInBounds j true).setIfInBounds i true:=by rw[Array.setIfInBounds_comm _ _ (Ne.symm nA)]
   refine CN (fun a' w' h3 =>?_) h2
   obtain⟨hy',hC',H'⟩:=h3
   have XD:S w':=by
    rcases yS with hS | yz
    ·exact hS w'
    ·cases he:kU oj.op with
     | true=>exact absurd (yz j oj x4 he (wg Mv)) Mu
     | false=>rw[hC' (fun o ho=>by rw[x4]at ho;cases ho;exact he)];exact sB
   refine⟨hC',ih (ax.setIfInBounds j true) a' w' (by simpa using cS) (hc.set x4 bH) (fun e he hb=>getD_set_true (mH e he hb)) (ready_mono hr (Ne.symm nA)) hy' XD ?_ ?_⟩
   ·rcases yS with hS | yz
    ·exact .inl hS
    ·refine .inr fun k o ho he hk =>?_
     by_cases sx:k=j
     ·subst sx
      have qZ:k<ax.size:=by rw[cS];exact (List.getElem?_eq_some_iff.1 x4).1
      simp[Array.getD,qZ]at hk
     ·rw[getD_set_ne false (Ne.symm sx)]at hk
      exact yz k o ho he hk
   ·rw[← Wh]
    exact H'
theorem IG{o:Op}(h:blind o=true){ρ:Operand→AV}{σ:Hp}{K:AV→Hp→Prop}(hw:eT P TT o ρ σ K):dW P TT o ρ σ (fun v=>K v σ)∧Ea o=true:=by
 unfold blind at h
 split at h <;> first | exact⟨hw,rfl⟩ | cases h
theorem JM{f:Nat→Prop}:∀{l:List Nat},Fk f l→∀i∈l,f i
 | [],_,i,h=>by cases h
 | [x],h,i,hi=>by simp at hi;subst hi;exact h
 | x::y::r,h,i,hi=>by
  rcases List.mem_cons.1 hi with rfl | hi
  ·exact h.1
  ·exact JM (l:=y::r) h.2 i hi
theorem HB{o:Op}(h:kU o=false){ρ:Operand→AV}{σ:Hp}{K:AV→Hp→Prop}(hw:eT P TT o ρ σ K):dW P TT o ρ σ (fun v=>K v σ):=by
 unfold kU at h
 simp only[Bool.not_eq_false',Bool.or_eq_true]at h
 rcases h with h | h
 ·exact (IG h hw).1
 ·cases o <;> first | exact hw | cases h
theorem RS(ok:ck P TT){B n:Nat}{ops:List Oper}(h0:nQ ops=true)(hd:∀o∈ops,∀d,o.dst=some d→d<n){K:Tm→Hp→Prop}{Q:Exit→Act→World→Prop}{F0:Nat→Prop}{w0:World}(hq:∀t' σ' F' w' a',a6 F0 w0 F' w'→ca B n F' w' t' σ' a'→K t' σ'→Q .normal a' w'):
  ∀(m:Nat) (ax:List Bool) (t:Tm) (σ:Hp) (F:Nat→Prop) (w:World) (a:Act),left ax.toArray≤m→ax.length=ops.length→qI P TT ops (m+1) ax t σ K→ca B n F w t σ a→a6 F0 w0 F w→xq ops ax.toArray→nR P ops (r7 Q) m ax.toArray a w:=by
 intro m
 induction m with
 | zero =>
  intro ax t σ F w a hl hlen h hs ar hC
  have hr:fI ops ax=[]:=by
   rw[← nM,List.eq_nil_iff_forall_not_mem]
   intro j hj
   have:=(mem_ready.1 hj).1
   rw[C1 (by omega)]at this
   cases this
  rw[II]at h
  rw[hr]at h
  exact⟨by rw[nM];exact hr,hq t σ F w a ar hs h⟩
 | succ m ih =>
  intro ax t σ F w a hl hlen h hs ar hC
  rw[II]at h
  split at h
  ·rename_i hr
   refine⟨fun _=>hq t σ F w a ar hs h,fun i hi =>?_⟩
   rw[nM,hr]at hi
   cases hi
  ·rename_i i0 r0 hr
   have guard:∀{o:Oper} {b:Bool},qg ops o t b→Region.wanted o (yielded ops.toArray a.tmps)=b:=fun hg=>zQ hg fun d _=>⟨F,w,hs.tm d⟩
   have mem:∀j,j∈fI ops ax→∃o,ops[j]?=some o∧ax.toArray.getD j true=false∧∀e∈o.after,Region.binds .any e=true→ax.toArray.getD e.on false=true:=fun j hj=>by
    rw[← nM]at hj
    obtain⟨h1,o,h2,h3⟩:=mem_ready.1 hj
    exact⟨o,by simpa using h2,h1,h3⟩
   have iF:∀j,(ax.set j true).toArray=ax.toArray.setIfInBounds j true:=fun j=>by simp
   split at h
   ·rename_i j hj
    have F4:=List.mem_of_find?_eq_some hj
    have vS:=List.find?_some hj
    rw[← hr]at F4
    obtain⟨o,ho,eb,mH⟩:=mem j F4
    unfold D6 at vS
    rw[ho]at vS
    have ab:left (ax.toArray.setIfInBounds j true)≤m:=by have:=wR eb;omega
    unfold vA at h
    rw[ho]at h
    have aS:kU o.op=false:=by
     unfold kU
     simp only[Bool.or_eq_true,Bool.and_eq_true]at vS
     rcases vS with hb | hb
     ·simp[hb]
     ·simp[hb.1]
    have hjr:j∈Region.ready .any ops.toArray ax.toArray:=by rw[nM];exact F4
    have take:∀(S:World→Prop) v,((∀w,S w)∨∀(k:Nat) (o:Oper),ops[k]?=some o→kU o.op=true→ax.toArray.getD k false=false→l7 o j=true)→S w→YieldsIf P ops.toArray S o v a→nR P ops (r7 Q) m (ax.toArray.setIfInBounds j true) (a.put o.dst v) w→nR P ops (r7 Q) (m+1) ax.toArray a w:=fun S v yS sB hy hk =>
     Nl h0 ho m ax.toArray a w (by simpa using hlen) hC mH hjr hy sB yS hk
    have mm:∀(x:AV) (u:Value),aA F w x u→qI P TT ops (m+1) (ax.set j true) (put t o.dst x) σ K→nR P ops (r7 Q) m (ax.toArray.setIfInBounds j true) (a.put o.dst u) w:=fun x u hx hk=>by
     rw[← iF]
     exact ih _ _ σ F w _ (by rw[iF];exact ab) (by simpa using hlen) hk (hs.put (.refl _ _) hs.hp hx (hd o (List.mem_of_getElem? ho))) ar (by rw[iF];exact hC.set ho mH)
    rcases sV h with ⟨hg,h⟩ | ⟨hg,h⟩
    ·simp only[Bool.or_eq_true,Bool.and_eq_true]at vS
     rcases vS with hb | ⟨hb,yz⟩
     ·obtain⟨h1,h2⟩:=IG hb h
      obtain⟨v,k1,k2⟩:=Ik ok h2 h1
      obtain⟨u,r1,r2⟩:=k2 a.eval F w o rfl (fun x _=>hs.tm.eval x)
      exact take (fun _=>True) u (.inl fun _=>trivial) trivial (.inl ⟨guard hg,fun w' _=>r1 w'⟩) (mm v u r2 k1)
     ·obtain⟨v,k1,k2⟩:=zS ok (HB aS h)
      obtain⟨u,r1,r2⟩:=k2 a.eval F w o rfl (fun x _=>hs.tm.eval x) hs.hp
      refine take (fun x=>x=w) u (.inr fun k p hp hk hl =>?_) rfl (.inl ⟨guard hg,fun w' e=>by subst e;exact r1⟩) (mm v u r2 k1)
      have:=List.all_eq_true.1 yz (p,k) (by rw[List.mem_zipIdx_iff_getElem?];exact hp)
      have FY:ax.getD k false=false:=by
       rw[Array.getD_eq_getD_getElem?,List.getElem?_toArray,← List.getD_eq_getElem?_getD]at hl
       exact hl
      simpa only [hk,FY,Bool.not_true,Bool.false_or]using this
    ·exact take (fun _=>True) undef (.inl fun _=>trivial) trivial (.inr ⟨guard hg,rfl⟩) (mm (.tup []) undef sS h)
   ·refine⟨fun h1=>absurd h1 (by rw[nM,hr];simp),fun j hj =>?_⟩
    rw[nM]at hj
    obtain⟨o,ho,eb,mH⟩:=mem j hj
    have h:=JM h j (by rw[← hr];exact hj)
    have mJ:j<ops.length:=(List.getElem?_eq_some_iff.1 ho).1
    have ab:left (ax.toArray.setIfInBounds j true)≤m:=by have:=wR eb;omega
    unfold vA at h
    rw[ho]at h
    unfold kO
    rw[show ops.toArray[j]?=some o by simpa using ho]
    have mm:∀(x:AV) (u:Value) (σ':Hp) (F':Nat→Prop) (w':World),a6 F w F' w'→aV F' w' σ'→aA F' w' x u→(Still ops j→w'=w)→qI P TT ops (m+1) (ax.set j true) (put t o.dst x) σ' K→(Still ops j→w'=w)∧nR P ops (r7 Q) m (ax.toArray.setIfInBounds j true) (a.put o.dst u) w':=fun x u σ' F' w' q1 q2 q3 q4 hk=>by
     refine⟨q4,?_⟩
     rw[← iF]
     exact ih _ _ σ' F' w' _ (by rw[iF];exact ab) (by simpa using hlen) hk (hs.put q1 q2 q3 (hd o (List.mem_of_getElem? ho))) (ar.trans q1) (by rw[iF];exact hC.set ho mH)
    cases he:kU o.op with
    | true =>
     have vac:Still ops j→False:=fun hn=>by
      have:=hn o ho
      rw[he]at this
      cases this
     rcases sV h with ⟨hg,h⟩ | ⟨hg,h⟩
     ·simp only[guard hg,if_true]
      refine (CT ok h a F w (fun x _=>hs.tm.eval x) hs.hp _ _ ?_)
      intro v av σ' F' w' q1 q2 q3 q4
      exact mm av v σ' F' w' q1 q2 q3 (fun hn=>(vac hn).elim) q4
     ·simp only[guard hg,Bool.false_eq_true,if_false]
      exact⟨fun _=>trivial,(mm (.tup []) undef σ F w (.refl _ _) hs.hp sS (fun _=>rfl) h).2⟩
    | false =>
     rcases sV h with ⟨hg,h⟩ | ⟨hg,h⟩
     ·simp only[guard hg,if_true]
      obtain⟨v,k1,k2⟩:=zS ok (HB he h)
      obtain⟨u,r1,r2⟩:=k2 a.eval F w o rfl (fun x _=>hs.tm.eval x) hs.hp
      unfold wq
      rw[r1]
      exact mm v u σ F w (.refl _ _) hs.hp r2 (fun _=>rfl) k1
     ·simp only[guard hg,Bool.false_eq_true,if_false]
      exact⟨fun _=>trivial,(mm (.tup []) undef σ F w (.refl _ _) hs.hp sS (fun _=>rfl) h).2⟩
theorem HJ(ok:ck P TT)(hm:P.follows .mixedOrders=true){r:Option Nat}{B n id:Nat}{ops:Array Oper}{t:Tm}{σ:Hp}{K:Tm→Hp→Prop}{F:Nat→Prop}{w:World}{a:Act}{Q:Exit→Act→World→Prop}(h0:nQ ops.toList=true)(h:qI P TT ops.toList (ops.toList.length+1) (List.replicate ops.toList.length false) t σ K)(hd:∀o∈ops.toList,∀d,o.dst=some d→d<n)(bC:∀o∈ops.toList,∀c,o.op≠.defer c)(hs:ca B n F w t σ a)
  (hq:∀t' σ' F' w' a',a6 F w F' w'→ca B n F' w' t' σ' a'→K t' σ'→Q .normal a' w'):(Code.region id ops true).wpIn (FW r) 0 P Q a w:=by
 have lF:a6 F w F { w with drawn:=w.drawn+1 }:=sQ hs.hp.low rfl rfl rfl (Nat.le_refl _) (fun _ _=>rfl)
 refine wpIn_mono (CB hm bC ?_) Jq
 have key:=RS (P:=P) (Q:=Q) ok h0 hd (F0:=F) (w0:=w) hq ops.toList.length (List.replicate ops.toList.length false) t σ F { w with drawn:=w.drawn+1 } a (by
   unfold left
   refine Nat.le_trans (List.length_filter_le _ _) (by simp)) (by simp) h ⟨hs.tm.mono lF,hs.hp.same lF (fun _ _=>rfl),hs.size,hs.defers.mono lF⟩ lF (fun j o ho hl=>by
    simp[Array.getD]at hl)
 simpa using Hg _ _ _ _ key
end
end Go.Proofs.YtnpidbjdilnhlaaGreat
