import Derived.OrdersHeld
import Derived.Test.YtnikdflhefijbaaGreatBq4
namespace Go.Proofs.YtnikdflhefijbaaGreat
open Go.RowKit
section
variable {P:Program} {TT:TypeId→Option TI}
def I7(P:Program)(ops:List Oper)(σ:Hp)(o:Oper)(t:Tm)(v:AV):Prop:=(wg ops o t true∧NQ P o (ev t) σ v)∨(wg ops o t false∧v=.tup [])
def qh:Tm→List Oper→List AV→Nat→Tm
 |t,o::l,v::vs,i+1=>qh (put t o.dst v) l vs i
 |t,_,_,_=>t
theorem Uf(ok:dM P TT){ops:List Oper}{σ:Hp}{K:Tm→Prop}:∀(l:List Oper) (t:Tm),Jy P TT ops l t σ K→∃cH:List AV,cH.length=l.length∧(∀(i:Nat) (o:Oper) (v:AV),l[i]?=some o→cH[i]?=some v→I7 P ops σ o (qh t l cH i) v)∧K (qh t l cH l.length)
 | [],t,h=>⟨[],rfl,fun i o v h=>by simp at h,h⟩
 |o::l,t,h=>by
  have go:∀v,I7 P ops σ o t v→Jy P TT ops l (put t o.dst v) σ K→∃cH:List AV,cH.length=(o::l).length∧(∀(i:Nat) (o':Oper) (v:AV),(o::l)[i]?=some o'→cH[i]?=some v→I7 P ops σ o' (qh t (o::l) cH i) v)∧K (qh t (o::l) cH (o::l).length):=by
   intro v hv hk;obtain⟨cH,h1,h2,h3⟩:=Uf ok l _ hk;refine⟨v::cH,by simp[h1],fun i o' v' ho pB=>?_,h3⟩;cases i with
   |zero=>simp at ho pB;subst ho;subst pB;exact hv
   |succ i=>exact h2 i o' v' (by simpa using ho) (by simpa using pB)
  rcases zo h with ⟨hg,h⟩ | ⟨hg,h⟩
  ·obtain⟨v,hk,hl⟩:=SP ok h;exact go v (.inl ⟨hg,hl⟩) hk
  ·exact go (.tup []) (.inr ⟨hg,rfl⟩) h
theorem D8{x:Tmp}:∀(l:List Oper) (cH:List AV) (t:Tm) (i:Nat),(∀j,j<i→∀o,l[j]?=some o→o.dst≠some x)→qh t l cH i x=t x
 | [],_,_,i,_=>by cases i <;> rfl
 |_::_,[],_,i,_=>by cases i <;> rfl
 |o::l,v::cH,t,0,_=>rfl
 |o::l,v::cH,t,i+1,h=>by
  have h0:=h 0 (by omega) o rfl;rw[qh,D8 l cH _ i (fun j hj o' ho=>h (j+1) (by omega) o' (by simpa using ho))];cases hd:o.dst with
  |none=>rfl
  |some d=>
   have:Nat.beq x d=false:=by
    cases hb:Nat.beq x d with
    |false=>rfl
    |true=>exact absurd (by rw[hd,j5 hb]) h0
   show (match Nat.beq x d with | true=>v | false=>t x)=t x;rw[this]
theorem MO{x:Tmp}{v:AV}{p:Oper}:∀(l:List Oper) (cH:List AV) (t:Tm) (i j:Nat),j<i→l[j]?=some p→p.dst=some x→(∀k,k<i→k≠j→∀o,l[k]?=some o→o.dst≠some x)→cH[j]?=some v→qh t l cH i x=v
 | [],_,_,_,_,_,hp,_,_,_=>by simp at hp
 |_::_,[],_,_,_,_,_,_,_,hv=>by simp at hv
 |_::_,_::_,_,0,_,hj,_,_,_,_=>by omega
 |o::l,u::cH,t,i+1,0,_,hp,hx,hn,hv=>by
  simp at hp hv;subst hp;subst hv;rw[qh,D8 l cH _ i (fun k hk o' ho=>hn (k+1) (by omega) (by omega) o' (by simpa using ho))];simp[put,hx]
 |o::l,u::cH,t,i+1,j+1,hj,hp,hx,hn,hv=>
  MO l cH (put t o.dst u) i j (by omega) (by simpa using hp) hx (fun k hk aS o' ho=>hn (k+1) (by omega) (by omega) o' (by simpa using ho)) (by simpa using hv)
structure QL(ops:List Oper):Prop where
 back:∀(i:Nat) (o:Oper),ops[i]?=some o→∀e∈o.after,Region.binds .any e=true→e.on<i
 JN:∀(i j:Nat) (o p:Oper) (d:Tmp),ops[i]?=some o→ops[j]?=some p→p.dst=some d→o.dst=some d→i=j
 look:∀(i j:Nat) (o p:Oper) (d:Tmp),ops[i]?=some o→ops[j]?=some p→p.dst=some d→d∈zK ops o→i=j∨(j<i∧qR o j=true)∨(i<j∧qR p i=true)
theorem agT{ops:List Oper}(h:Ii ops=true):QL ops:=by
 unfold Ii at h
 have hz:∀(i:Nat) (o:Oper),ops[i]?=some o→(o,i)∈ops.zipIdx:=fun i o ho=>by
  rw[Qp];exact ho
 have cx:=fun (i:Nat) (o:Oper) (ho:ops[i]?=some o)=>fG.1 h (o,i) (hz i o ho);refine⟨fun i o ho e he hb=>?_,fun i j o p d ho hp lf jZ=>?_,fun i j o p d ho hp lf hd=>?_⟩
 ·have h1:=cx i o ho;simp only[bS]at h1;have h2:=List.all_eq_true.1 h1.1 e (by simpa using he);simp only[hb,GA,pI]at h2;exact cy h2
 ·have h1:=cx i o ho;simp only[bS]at h1;have h2:=fG.1 h1.2 (p,j) (hz j p hp);simp only[lf,jZ,bS,pK,y4,GA]at h2
  rcases h2.1 with h3 | h3
  ·exact j5 h3
  ·cases h3
 ·have h1:=cx i o ho;simp only[bS]at h1;have h2:=fG.1 h1.2 (p,j) (hz j p hp);simp only[lf,bS,pK]at h2
  rcases h2.2 with ((h3 | h3) | h3) | h3
  ·exfalso;have:(zK ops o).any (Nat.beq d)=true:=mW.2 ⟨d,hd,y4 d⟩;rw[this]at h3;cases h3
  ·exact .inl (j5 h3)
  ·exact .inr (.inl ⟨cy h3.1,h3.2⟩)
  ·exact .inr (.inr ⟨cy h3.1,h3.2⟩)
theorem A9{o:Oper}{j:Nat}(h:qR o j=true):∃e∈o.after,Region.binds .any e=true∧e.on=j:=by
 obtain⟨e,h1,h2⟩:=mW.1 h;simp only[bS]at h2;exact⟨e,by simpa using h1,h2.1,Nat.eq_of_beq_eq_true h2.2⟩
def left(az:Array Bool):Nat:=(az.toList.filter (fun b=> !b)).length
theorem SU:∀(l:List Bool) (i:Nat),l[i]?=some false→((l.set i true).filter (fun b=> !b)).length+1=(l.filter (fun b=> !b)).length
 | [],i,h=>by simp at h
 |b::l,0,h=>by simp at h;subst h;simp
 |b::l,i+1,h=>by
  have:=SU l i (by simpa using h);cases b <;> simp at this ⊢ <;> omega
theorem DT{az:Array Bool}{i:Nat}(h:az.getD i true=false):left (az.setIfInBounds i true)+1=left az:=by
 unfold left;rw[Array.toList_setIfInBounds];refine SU _ i ?_;rw[C4];rw[iy]at h;cases hq:az[i]? with
 |none=>rw[hq]at h;simp at h
 |some b=>rw[hq]at h;simp at h;rw[h]
theorem L3{az:Array Bool}(h:left az=0){i:Nat}:az.getD i true=true:=by
 cases hb:az.getD i true with
 |true=>rfl
 |false=>have:=DT hb;omega
structure J4(P:Program)(ops:List Oper)(t0:Tm)(cH:List AV)(σ:Hp)(B n:Nat)(az:Array Bool)(F:Nat→Prop)(w:World)(a:Act):Prop where
 hp:bj F w σ
 size:n≤a.tmps.size
 defers:Marks B F w a.defers
 N0:az.size=ops.length
 closed:∀(j:Nat) (o:Oper),ops[j]?=some o→az.getD j false=true→∀e∈o.after,Region.binds .any e=true→az.getD e.on false=true
 Pb:∀(j:Nat) (o:Oper) (v:AV) (d:Tmp),ops[j]?=some o→o.dst=some d→cH[j]?=some v→az.getD j false=true→aB F w v (a.tmps.getD d undef)
 out:∀d,(∀(j:Nat) (o:Oper),ops[j]?=some o→o.dst=some d→az.getD j false=false)→aB F w (t0 d) (a.tmps.getD d undef)
theorem Db{az:Array Bool}{i:Nat}(h:az.getD i true=false):az.getD i false=false:=by
 rw[iy]at h ⊢;cases hq:az[i]? with
 |none=>rw[hq]at h;simp at h
 |some b=>rw[hq]at h;simpa using h
theorem YL{az:Array Bool}{i:Nat}(hi:i<az.size)(h:az.getD i true=true):az.getD i false=true:=by
 rw[iy]at h ⊢;rw[qF hi]at h ⊢;simpa using h
section
variable {ops:List Oper} {t0:Tm} {cH:List AV} {σ:Hp} {B n:Nat} {az:Array Bool} {F:Nat→Prop} {w:World} {a:Act}
theorem J4.look(hJ:J4 P ops t0 cH σ B n az F w a)(ho:QL ops)(Kf:cH.length=ops.length){i:Nat}{o:Oper}(hi:ops[i]?=some o)(fh:az.getD i true=false)(rI:∀e∈o.after,Region.binds .any e=true→az.getD e.on false=true){d:Tmp}(hd:d∈zK ops o):
  aB F w (qh t0 ops cH i d) (a.tmps.getD d undef):=by
 by_cases hw:∃(j:Nat) (p:Oper),ops[j]?=some p∧p.dst=some d
 ·obtain⟨j,p,hp,lf⟩:=hw;have uniq:∀k,k≠j→∀o',ops[k]?=some o'→o'.dst≠some d:=fun k hk o' eP jZ=>hk (ho.JN k j o' p d eP hp lf jZ)
  have out:az.getD j false=false→(i≤j)→aB F w (qh t0 ops cH i d) (a.tmps.getD d undef):=fun hl fj=>by
   rw[D8 ops cH t0 i (fun k hk o' eP=>uniq k (by omega) o' eP)];exact hJ.out d fun k o' eP jZ=>by rw[ho.JN k j o' p d eP hp lf jZ];exact hl
  rcases ho.look i j o p d hi hp lf hd with e | ⟨h1,h2⟩ | ⟨h1,h2⟩
  ·subst e;exact out (Db fh) (aQ _)
  ·obtain⟨e,he,hb,rfl⟩:=A9 h2;have hl:=rI e he hb;have iM:e.on<ops.length:=(bZ.1 hp).1;have hv:cH[e.on]?=some cH[e.on]:=bB (by omega);rw[MO ops cH t0 i e.on h1 hp lf (fun k _ aS=>uniq k aS) hv];exact hJ.Pb e.on p _ d hp lf hv hl
  ·obtain⟨e,he,hb,rfl⟩:=A9 h2;refine out ?_ (by omega);cases hl:az.getD j false with
   |false=>rfl
   |true=>
    have:=hJ.closed j p hp hl e he hb;rw[Db fh]at this;cases this
 ·rw[D8 ops cH t0 i (fun k _ o' eP jZ=>hw ⟨k,o',eP,jZ⟩)];exact hJ.out d fun j o' eP jZ=>absurd ⟨j,o',eP,jZ⟩ hw
theorem aaR(ho:QL ops)(Kf:cH.length=ops.length)(hd:∀o∈ops,∀d,o.dst=some d→d<n)(hf:∀(i:Nat) (o:Oper) (v:AV),ops[i]?=some o→cH[i]?=some v→I7 P ops σ o (qh t0 ops cH i) v){Q:Exit→Act→World→Prop}{F0:Nat→Prop}{w0:World}
  (hq:∀F' w' a',bH F0 w0 F' w'→dx B n F' w' (qh t0 ops cH ops.length) σ a'→Q .normal a' w') :
  ∀(fuel:Nat) (az:Array Bool) (F:Nat→Prop) (w:World) (a:Act),left az≤fuel→J4 P ops t0 cH σ B n az F w a→bH F0 w0 F w→ym P .any ops.toArray Q fuel az a w:=by
 have fin:∀(az:Array Bool) (F:Nat→Prop) (w:World) (a:Act),J4 P ops t0 cH σ B n az F w a→bH F0 w0 F w→Region.ready .any ops.toArray az=[]→Q .normal a w:=by
  intro az F w a hJ aq hr
  have all:∀j,j<ops.length→az.getD j false=true:=by
   intro j
   induction j using Nat.strongRecOn with
   |_ j ih=>
    intro hj;cases hl:az.getD j true with
    |true=>exact YL (by rw[hJ.N0];exact hj) hl
    |false=>
     exfalso
     have hm:j∈Region.ready .any ops.toArray az:=by
      rw[mem_ready];refine⟨hl,ops[j],by simp[hj],fun e he hb=>?_⟩;have:=ho.back j ops[j] (by simp[hj]) e he hb;exact ih _ this (by omega)
     rw[hr]at hm;cases hm
  refine hq F w a aq ⟨fun d=>?_,hJ.hp,hJ.size,hJ.defers⟩
  by_cases hw:∃(j:Nat) (p:Oper),ops[j]?=some p∧p.dst=some d
  ·obtain⟨j,p,hp,lf⟩:=hw;have iM:j<ops.length:=(bZ.1 hp).1;have hv:cH[j]?=some cH[j]:=bB (by omega);rw[MO ops cH t0 ops.length j iM hp lf (fun k _ aS o' eP jZ=>aS (ho.JN k j o' p d eP hp lf jZ)) hv];exact hJ.Pb j p _ d hp lf hv (all j iM)
  ·rw[D8 ops cH t0 ops.length (fun k _ o' eP jZ=>hw ⟨k,o',eP,jZ⟩)];exact hJ.out d fun j o' eP jZ=>absurd ⟨j,o',eP,jZ⟩ hw
 intro fuel
 induction fuel with
 |zero=>
  intro az F w a hl hJ aq
  have hr:Region.ready .any ops.toArray az=[]:=by
   rw[Lc];intro j hj;have:=(mem_ready.1 hj).1;rw[L3 (by omega)]at this;cases this
  exact⟨hr,fin az F w a hJ aq hr⟩
 |succ fuel ih=>
  intro az F w a hl hJ aq;refine⟨fin az F w a hJ aq,fun i hi=>?_⟩;obtain⟨fh,o,kI,rI⟩:=mem_ready.1 hi;have kI:ops[i]?=some o:=by simpa using kI
  have pE:i<ops.length:=(bZ.1 kI).1;have hvi:cH[i]?=some cH[i]:=bB (by omega);have BT:=fun {d:Tmp} (hd:d∈zK ops o)=>hJ.look ho Kf kI fh rI hd;have Xj:∀{b:Bool},wg ops o (qh t0 ops cH i) b→Region.wanted o (yielded ops.toArray a.tmps)=b:=fun hg=>Ho hg fun d ⟨j,want,h1,h2⟩=>⟨F,w,BT (d:=d) (by unfold zK;rw[h1];simp[h2])⟩
  have next:∀(F':Nat→Prop) (w':World) (u:Value),bH F w F' w'→bj F' w' σ→aB F' w' cH[i] u→ym P .any ops.toArray Q fuel (az.setIfInBounds i true) (a.put o.dst u) w':=by
   intro F' w' u h1 h2 h3;have aS:∀j,j≠i→(az.setIfInBounds i true).getD j false=az.getD j false:=fun j hj=>getD_set_ne false (Ne.symm hj);have ER:(az.setIfInBounds i true).getD i false=true:=by simp[Array.getD,hJ.N0,pE]
   refine ih _ F' w' _ (by have:=DT fh;omega) ⟨h2,by rw[T9];exact hJ.size,by rw[Vn];exact hJ.defers.mono h1,by simp[hJ.N0],fun j p hp hl e he hb=>?_,fun j p v d hp lf hv hl=>?_,fun d hn=>?_⟩ (aq.trans h1)
   ·refine getD_set_true ?_
    by_cases hj:j=i
    ·subst hj;rw[kI]at hp;cases hp;exact rI e he hb
    ·rw[aS j hj]at hl;exact hJ.closed j p hp hl e he hb
   ·by_cases hj:j=i
    ·subst hj;rw[kI]at hp;cases hp;rw[hvi]at hv;cases hv;have eK:d<a.tmps.size:=sL (hd o (bU kI) d lf) hJ.size;rw[lf];simpa [Act.put,Array.getD,eK]using h3
    ·rw[aS j hj]at hl;have h4:=(hJ.Pb j p v d hp lf hv hl).mono h1;have cg:o.dst≠some d:=fun jZ=>hj (ho.JN j i p o d hp kI jZ lf);cases jZ:o.dst with
     |none=>exact h4
     |some d'=>
      have xl:d'≠d:=fun e=>cg (by rw[jZ,e]);show aB F' w' v ((a.tmps.setIfInBounds d' u).getD d undef);rw[iy]at h4 ⊢;rw[Ld xl];exact h4
   ·have cg:o.dst≠some d:=fun jZ=>by
     have:=hn i o kI jZ;rw[ER]at this;cases this
    have h4:=(hJ.out d fun j p hp lf=>by
     by_cases hj:j=i
     ·subst hj;rw[kI]at hp;cases hp;exact absurd lf cg
     ·rw[← aS j hj];exact hn j p hp lf).mono h1
    cases jZ:o.dst with
    |none=>exact h4
    |some d'=>
     have xl:d'≠d:=fun e=>cg (by rw[jZ,e]);show aB F' w' (t0 d) ((a.tmps.setIfInBounds d' u).getD d undef);rw[iy]at h4 ⊢;rw[Ld xl];exact h4
  unfold o7;rw[show ops.toArray[i]?=some o by simpa using kI]
  rcases hf i o cH[i] kI hvi with ⟨hg,hl⟩ | ⟨hg,hv⟩
  ·simp only[Xj hg,if_true];refine (hl a F w (fun x hx=>UM x fun d e=>?_) hJ.hp _ Q (fun u F' w' k1 k2 k3=>next F' w' u k1 k2 k3));subst e;exact BT (by unfold zK;exact ia _ (List.mem_filterMap.2 ⟨.tmp d,hx,rfl⟩))
  ·simp only[Xj hg,my,if_false];exact next F w undef (.refl _ _) hJ.hp (by rw[hv];exact zi)
end
theorem Y8(ok:dM P TT)(hm:P.follows .mixedOrders=true){r:Option Nat}{B n id:Nat}{ops:Array Oper}{t:Tm}{σ:Hp}{K:Tm→Prop}{F:Nat→Prop}{w:World}{a:Act}{Q:Exit→Act→World→Prop}(h0:Ii ops.toList=true)(h:Jy P TT ops.toList ops.toList t σ K)(hd:∀o∈ops.toList,∀d,o.dst=some d→d<n)(cg:∀o∈ops.toList,∀c,o.op≠.defer c)(hs:dx B n F w t σ a)
  (hq:∀t' F' w' a',bH F w F' w'→dx B n F' w' t' σ a'→K t'→Q .normal a' w'):(Code.region id ops true).wpIn (FW r) 0 P Q a w:=by
 obtain⟨cH,h1,h2,h3⟩:=Uf ok _ _ h;have qc:bH F w F { w with drawn:=w.drawn+1 }:=zg hs.hp.low rfl rfl rfl (aQ _) (fun _ _=>rfl);refine LC hm cg ?_
 have key:=aaR (P:=P) (Q:=Q) (t0:=t) (B:=B) (n:=n) (agT h0) h1 hd h2 (F0:=F) (w0:=w) (fun F' w' a' k1 k2=>hq _ F' w' a' k1 k2 h3) ops.size (Array.replicate ops.size false) F { w with drawn:=w.drawn+1 } a (by
   unfold left
   refine Nat.le_trans (List.length_filter_le _ _) (by simp)) ⟨hs.hp.same qc (fun _ _=>rfl),hs.size,hs.defers.mono qc,by simp,fun j o ho hl=>?_,fun j o v d ho jZ hv hl=>?_,fun d _=>(hs.tm d).mono qc⟩ qc
 ·simpa using key
 ·by_cases hj:j<ops.size <;> simp[Array.getD,hj]at hl
 ·by_cases hj:j<ops.size <;> simp[Array.getD,hj]at hl
end
section
variable {P:Program} {TT:TypeId→Option TI}
def yo(Q:Exit→Act→World→Prop):Exit→Act→World→Prop
 |.panic _,_,_=>False
 |e,a,w=>Q e a w
theorem Uo{Q:Exit→Act→World→Prop}:∀(e:Exit) (a:Act) (w:World),yo Q e a w→Q e a w:=fun e a w h=>by
 cases e <;> first | exact h | exact (h:False).elim
theorem sT(ops:List Oper)(az:List Bool):Region.ready .any ops.toArray az.toArray=jx ops az:=by
 unfold Region.ready jx;simp only[qD];apply List.filter_congr;intro i hi;have hi:=fF.1 hi;have e:∀d,az.toArray.getD i d=az.getD i d:=fun d=>by simp[Array.getD_eq_getD_getElem?,List.getD_eq_getElem?_getD]
 rw[e]
 congr 1
 simp only[AO,bB hi,KO,GH];rw[← Array.all_toList]
 congr 1
 funext x
 simp[Array.getD_eq_getD_getElem?,List.getD_eq_getElem?_getD]
theorem Mb{ops:List Oper}(h:sV ops=true):Region.noSelect ops.toArray=true∧∀(i j:Nat) (o p:Oper),ops[i]?=some o→ops[j]?=some p→i=j∨qR o j=true∨qR p i=true∨o.apart ops.toArray p=true:=by
 unfold sV at h
 have hz:∀(i:Nat) (o:Oper),ops[i]?=some o→(o,i)∈ops.zipIdx:=fun i o ho=>by
  rw[Qp];exact ho
 refine⟨?_,fun i j o p hi hj=>?_⟩
 ·unfold Region.noSelect;rw[← Array.all_toList];refine fG.2 fun o ho=>?_;obtain⟨i,hi⟩:=lq.1 ho;have:=List.all_eq_true.1 h (o,i) (hz i o (by simpa using hi));simp only[bS]at this;exact this.1
 ·have:=fG.1 h (o,i) (hz i o hi);simp only[bS]at this;have:=fG.1 this.2 (p,j) (hz j p hj);simp only[pK]at this
  rcases this with ((h | h) | h) | h
  ·exact .inl (j5 h)
  ·exact .inr (.inl h)
  ·exact .inr (.inr (.inl h))
  ·exact .inr (.inr (.inr h))
def Still(ops:List Oper)(i:Nat):Prop:=∀o,ops[i]?=some o→pq o.op=false
def sW(P:Program)(ops:List Oper)(Q:Exit→Act→World→Prop):Nat→Array Bool→Act→World→Prop
 | 0,az,a,w=>Region.ready .any ops.toArray az=[]∧Q .normal a w
 |fuel+1,az,a,w=>(Region.ready .any ops.toArray az=[]→Q .normal a w)∧
  ∀i∈Region.ready .any ops.toArray az,o7 P ops.toArray Q i (fun a' w'=>(Still ops i→w'=w)∧sW P ops Q fuel (az.setIfInBounds i true) a' w') a w
theorem Rq{ops:List Oper}{Q:Exit→Act→World→Prop}:∀(fuel:Nat) (az:Array Bool) (a:Act) (w:World),sW P ops Q fuel az a w→ym P .any ops.toArray Q fuel az a w
 | 0,_,_,_,h=>h
 |fuel+1,_,_,_,h=>⟨h.1,fun i hi=>LN (fun a' w' h'=>Rq fuel _ a' w' h'.2) (h.2 i hi)⟩
def EF(ops:List Oper)(az:Array Bool):Prop:=∀(j:Nat) (o:Oper),ops[j]?=some o→az.getD j false=true→∀e∈o.after,Region.binds .any e=true→az.getD e.on false=true
theorem EF.set{ops:List Oper}{az:Array Bool}(h:EF ops az){j:Nat}{o:Oper}(ho:ops[j]?=some o)(hr:∀e∈o.after,Region.binds .any e=true→az.getD e.on false=true):EF ops (az.setIfInBounds j true):=by
 intro k p hp hk e he hb
 by_cases sC:k=j
 ·subst sC;rw[ho]at hp;cases hp;exact getD_set_true (hr e he hb)
 ·rw[getD_set_ne false (Ne.symm sC)]at hk;exact getD_set_true (h k p hp hk e he hb)
theorem YG{ops:List Oper}{Q:Exit→Act→World→Prop}(h0:sV ops=true){S:World→Prop}{i:Nat}{oi:Oper}{v:Value}(hi:ops[i]?=some oi):
  ∀(fuel:Nat) (az:Array Bool) (a:Act) (w:World),az.size=ops.length→EF ops az→(∀e∈oi.after,Region.binds .any e=true→az.getD e.on false=true)→i∈Region.ready .any ops.toArray az→YieldsIf P ops.toArray S oi v a→S w→((∀w,S w)∨∀(j:Nat) (o:Oper),ops[j]?=some o→pq o.op=true→az.getD j false=false→qR o i=true)→
   sW P ops Q fuel (az.setIfInBounds i true) (a.put oi.dst v) w→sW P ops Q (fuel+1) az a w:=by
 have fq:ops.toArray[i]?=some oi:=by simpa using hi
 have now:∀(fuel:Nat) (az:Array Bool) (a:Act) (w:World),YieldsIf P ops.toArray S oi v a→S w→sW P ops Q fuel (az.setIfInBounds i true) (a.put oi.dst v) w→o7 P ops.toArray Q i (fun a' w'=>(Still ops i→w'=w)∧sW P ops Q fuel (az.setIfInBounds i true) a' w') a w:=
  fun fuel az a w hy yU H=>YQ fq hy yU ⟨fun _=>rfl,H⟩
 intro fuel
 induction fuel with
 |zero=>
  intro az a w eO hc rI hr hy yU Gm H;refine⟨fun h=>(by rw[h]at hr;cases hr),fun j hj=>?_⟩
  by_cases vf:j=i
  ·subst vf;exact now 0 az a w hy yU H
  ·have:=ready_mono hj vf;rw[H.1]at this;cases this
 |succ fuel ih=>
  intro az a w eO hc rI hr hy yU Gm H;refine⟨fun h=>(by rw[h]at hr;cases hr),fun j hj=>?_⟩
  by_cases vf:j=i
  ·subst vf;exact now (fuel+1) az a w hy yU H
  ·have h1:=H.2 j (ready_mono hj vf);obtain⟨X4,oj,Pt,cx⟩:=mem_ready.1 hj;have ajo:=(mem_ready.1 hr).1
   have X2:¬(qR oj i=true):=fun hb=>by
    obtain⟨e,he,AE,e1⟩:=A9 hb;have:=cx e he AE;rw[e1,Db ajo]at this;cases this
   have Fo:ops[j]?=some oj:=by simpa using Pt
   have xn:oi.apart ops.toArray oj=true:=by
    rcases (Mb h0).2 i j oi oj hi Fo with e | e | e | e
    ·exact absurd e.symm vf
    ·obtain⟨ed,he,AE,e1⟩:=A9 e;have:=rI ed he AE;rw[e1,Db X4]at this;cases this
    ·exact absurd e X2
    ·exact e
   have XU:=Region.noSelect_spec (Mb h0).1;have h2:=aav Pt xn (fun cs b=>XU i oi cs b fq) (fun cs b=>XU j oj cs b Pt) hy h1;have aio:(az.setIfInBounds i true).setIfInBounds j true=(az.setIfInBounds j true).setIfInBounds i true:=by rw[Array.setIfInBounds_comm _ _ (Ne.symm vf)]
   refine LN (fun a' w' h3=>?_) h2;obtain⟨vc,hC',H'⟩:=h3
   have aju:S w':=by
    rcases Gm with hS | FU
    ·exact hS w'
    ·cases he:pq oj.op with
     |true=>exact absurd (FU j oj Fo he (Db X4)) X2
     |false=>rw[hC' (fun o ho=>by rw[Fo]at ho;cases ho;exact he)];exact yU
   refine⟨hC',ih (az.setIfInBounds j true) a' w' (by simpa using eO) (hc.set Fo cx) (fun e he hb=>getD_set_true (rI e he hb)) (ready_mono hr (Ne.symm vf)) vc aju ?_ ?_⟩
   ·rcases Gm with hS | FU
    ·exact .inl hS
    ·refine .inr fun k o ho he hk=>?_
     by_cases sC:k=j
     ·subst sC;have iM:k<az.size:=by rw[eO];exact (bZ.1 Fo).1
      simp[Array.getD,iM]at hk
     ·rw[getD_set_ne false (Ne.symm sC)]at hk;exact FU k o ho he hk
   ·rw[← aio];exact H'
theorem Tq{o:Op}(h:blind o=true){ρ:Operand→AV}{σ:Hp}{K:AV→Hp→Prop}(hw:ir P TT o ρ σ K):fX P TT o ρ σ (fun v=>K v σ)∧NG o=true:=by
 unfold blind at h;split at h <;> first | exact⟨hw,rfl⟩ | cases h
theorem US{f:Nat→Prop}:∀{l:List Nat},OZ f l→∀i∈l,f i
 | [],_,i,h=>by cases h
 | [x],h,i,hi=>by simp at hi;subst hi;exact h
 |x::y::r,h,i,hi=>by
  rcases dm.1 hi with rfl | hi
  ·exact h.1
  ·exact US (l:=y::r) h.2 i hi
theorem RU{o:Op}(h:pq o=false){ρ:Operand→AV}{σ:Hp}{K:AV→Hp→Prop}(hw:ir P TT o ρ σ K):fX P TT o ρ σ (fun v=>K v σ):=by
 unfold pq at h;simp only[KT,pK]at h
 rcases h with h | h
 ·exact (Tq h hw).1
 ·cases o <;> first | exact hw | cases h
theorem adP(ok:dM P TT){B n:Nat}{ops:List Oper}(h0:sV ops=true)(hd:∀o∈ops,∀d,o.dst=some d→d<n){K:Tm→Hp→Prop}{Q:Exit→Act→World→Prop}{F0:Nat→Prop}{w0:World}(hq:∀t' σ' F' w' a',bH F0 w0 F' w'→dx B n F' w' t' σ' a'→K t' σ'→Q .normal a' w'):
  ∀(m:Nat) (az:List Bool) (t:Tm) (σ:Hp) (F:Nat→Prop) (w:World) (a:Act),left az.toArray≤m→az.length=ops.length→wT P TT ops (m+1) az t σ K→dx B n F w t σ a→bH F0 w0 F w→EF ops az.toArray→sW P ops (yo Q) m az.toArray a w:=by
 intro m
 induction m with
 |zero=>
  intro az t σ F w a hl hlen h hs aq hC
  have hr:jx ops az=[]:=by
   rw[← sT,Lc];intro j hj;have:=(mem_ready.1 hj).1;rw[L3 (by omega)]at this;cases this
  rw[Tu]at h;rw[hr]at h;exact⟨by rw[sT];exact hr,hq t σ F w a aq hs h⟩
 |succ m ih=>
  intro az t σ F w a hl hlen h hs aq hC;rw[Tu]at h;split at h
  ·rename_i hr
   refine⟨fun _=>hq t σ F w a aq hs h,fun i hi=>?_⟩;rw[sT,hr]at hi;cases hi
  ·rename_i i0 r0 hr
   have guard:∀{o:Oper} {b:Bool},wg ops o t b→Region.wanted o (yielded ops.toArray a.tmps)=b:=fun hg=>Ho hg fun d _=>⟨F,w,hs.tm d⟩
   have mem:∀j,j∈jx ops az→∃o,ops[j]?=some o∧az.toArray.getD j true=false∧∀e∈o.after,Region.binds .any e=true→az.toArray.getD e.on false=true:=fun j hj=>by
    rw[← sT]at hj;obtain⟨h1,o,h2,h3⟩:=mem_ready.1 hj;exact⟨o,by simpa using h2,h1,h3⟩
   have kA:∀j,(az.set j true).toArray=az.toArray.setIfInBounds j true:=fun j=>by simp
   split at h
   ·rename_i j hj
    have PA:=List.mem_of_find?_eq_some hj;have CH:=List.find?_some hj;rw[← hr]at PA;obtain⟨o,ho,fh,rI⟩:=mem j PA;unfold NB at CH;rw[ho]at CH;have ab:left (az.toArray.setIfInBounds j true)≤m:=by have:=DT fh;omega
    unfold Cb at h;rw[ho]at h
    have aS:pq o.op=false:=by
     unfold pq;simp only[pK,bS]at CH
     rcases CH with hb | hb
     ·simp[hb]
     ·simp[hb.1]
    have hjr:j∈Region.ready .any ops.toArray az.toArray:=by rw[sT];exact PA
    have take:∀(S:World→Prop) v,((∀w,S w)∨∀(k:Nat) (o:Oper),ops[k]?=some o→pq o.op=true→az.toArray.getD k false=false→qR o j=true)→S w→YieldsIf P ops.toArray S o v a→sW P ops (yo Q) m (az.toArray.setIfInBounds j true) (a.put o.dst v) w→sW P ops (yo Q) (m+1) az.toArray a w:=fun S v Gm yU hy hk=>
     YG h0 ho m az.toArray a w (by simpa using hlen) hC rI hjr hy yU Gm hk
    have ri:∀(x:AV) (u:Value),aB F w x u→wT P TT ops (m+1) (az.set j true) (put t o.dst x) σ K→sW P ops (yo Q) m (az.toArray.setIfInBounds j true) (a.put o.dst u) w:=fun x u hx hk=>by
     rw[← kA];exact ih _ _ σ F w _ (by rw[kA];exact ab) (by simpa using hlen) hk (hs.put (.refl _ _) hs.hp hx (hd o (List.mem_of_getElem? ho))) aq (by rw[kA];exact hC.set ho rI)
    rcases zo h with ⟨hg,h⟩ | ⟨hg,h⟩
    ·simp only[pK,bS]at CH
     rcases CH with hb | ⟨hb,FU⟩
     ·obtain⟨h1,h2⟩:=Tq hb h;obtain⟨v,k1,k2⟩:=SR ok h2 h1;obtain⟨u,r1,r2⟩:=k2 a.eval F w o rfl (fun x _=>hs.tm.eval x);exact take (fun _=>True) u (.inl fun _=>trivial) trivial (.inl ⟨guard hg,fun w' _=>r1 w'⟩) (ri v u r2 k1)
     ·obtain⟨v,k1,k2⟩:=Hx ok (RU aS h);obtain⟨u,r1,r2⟩:=k2 a.eval F w o rfl (fun x _=>hs.tm.eval x) hs.hp;refine take (fun x=>x=w) u (.inr fun k p hp hk hl=>?_) rfl (.inl ⟨guard hg,fun w' e=>by subst e;exact r1⟩) (ri v u r2 k1);have:=fG.1 FU (p,k) (by rw[Qp];exact hp)
      have Py:az.getD k false=false:=by
       rw[iy,AO,← aZ]at hl;exact hl
      simpa only [hk,Py,GA,pI]using this
    ·exact take (fun _=>True) undef (.inl fun _=>trivial) trivial (.inr ⟨guard hg,rfl⟩) (ri (.tup []) undef zi h)
   ·refine⟨fun h1=>absurd h1 (by rw[sT,hr];simp),fun j hj=>?_⟩;rw[sT]at hj;obtain⟨o,ho,fh,rI⟩:=mem j hj;have h:=US h j (by rw[← hr];exact hj);have pE:j<ops.length:=(bZ.1 ho).1;have ab:left (az.toArray.setIfInBounds j true)≤m:=by have:=DT fh;omega
    unfold Cb at h;rw[ho]at h;unfold o7;rw[show ops.toArray[j]?=some o by simpa using ho]
    have ri:∀(x:AV) (u:Value) (σ':Hp) (F':Nat→Prop) (w':World),bH F w F' w'→bj F' w' σ'→aB F' w' x u→(Still ops j→w'=w)→wT P TT ops (m+1) (az.set j true) (put t o.dst x) σ' K→(Still ops j→w'=w)∧sW P ops (yo Q) m (az.toArray.setIfInBounds j true) (a.put o.dst u) w':=fun x u σ' F' w' q1 q2 q3 q4 hk=>by
     refine⟨q4,?_⟩;rw[← kA];exact ih _ _ σ' F' w' _ (by rw[kA];exact ab) (by simpa using hlen) hk (hs.put q1 q2 q3 (hd o (List.mem_of_getElem? ho))) (aq.trans q1) (by rw[kA];exact hC.set ho rI)
    cases he:pq o.op with
    |true=>
     have vac:Still ops j→False:=fun hn=>by
      have:=hn o ho;rw[he]at this;cases this
     rcases zo h with ⟨hg,h⟩ | ⟨hg,h⟩
     ·simp only[guard hg,if_true];refine (LZ ok h a F w (fun x _=>hs.tm.eval x) hs.hp _ _ ?_);intro v av σ' F' w' q1 q2 q3 q4;exact ri av v σ' F' w' q1 q2 q3 (fun hn=>(vac hn).elim) q4
     ·simp only[guard hg,my,if_false];exact⟨fun _=>trivial,(ri (.tup []) undef σ F w (.refl _ _) hs.hp zi (fun _=>rfl) h).2⟩
    |false=>
     rcases zo h with ⟨hg,h⟩ | ⟨hg,h⟩
     ·simp only[guard hg,if_true];obtain⟨v,k1,k2⟩:=Hx ok (RU he h);obtain⟨u,r1,r2⟩:=k2 a.eval F w o rfl (fun x _=>hs.tm.eval x) hs.hp;unfold wq;rw[r1];exact ri v u σ F w (.refl _ _) hs.hp r2 (fun _=>rfl) k1
     ·simp only[guard hg,my,if_false];exact⟨fun _=>trivial,(ri (.tup []) undef σ F w (.refl _ _) hs.hp zi (fun _=>rfl) h).2⟩
theorem R5(ok:dM P TT)(hm:P.follows .mixedOrders=true){r:Option Nat}{B n id:Nat}{ops:Array Oper}{t:Tm}{σ:Hp}{K:Tm→Hp→Prop}{F:Nat→Prop}{w:World}{a:Act}{Q:Exit→Act→World→Prop}(h0:sV ops.toList=true)(h:wT P TT ops.toList (ops.toList.length+1) (List.replicate ops.toList.length false) t σ K)(hd:∀o∈ops.toList,∀d,o.dst=some d→d<n)(cg:∀o∈ops.toList,∀c,o.op≠.defer c)(hs:dx B n F w t σ a)
  (hq:∀t' σ' F' w' a',bH F w F' w'→dx B n F' w' t' σ' a'→K t' σ'→Q .normal a' w'):(Code.region id ops true).wpIn (FW r) 0 P Q a w:=by
 have qc:bH F w F { w with drawn:=w.drawn+1 }:=zg hs.hp.low rfl rfl rfl (aQ _) (fun _ _=>rfl);refine wpIn_mono (LC hm cg ?_) Uo
 have key:=adP (P:=P) (Q:=Q) ok h0 hd (F0:=F) (w0:=w) hq ops.toList.length (List.replicate ops.toList.length false) t σ F { w with drawn:=w.drawn+1 } a (by
   unfold left
   refine Nat.le_trans (List.length_filter_le _ _) (by simp)) (by simp) h ⟨hs.tm.mono qc,hs.hp.same qc (fun _ _=>rfl),hs.size,hs.defers.mono qc⟩ qc (fun j o ho hl=>by
    simp[Array.getD]at hl)
 simpa using Rq _ _ _ _ key
end
section
variable {P:Program} {TT:TypeId→Option TI}
def One(X:(AV→Prop)→Prop):Prop:=∀K,X K→∃v,K v∧∀K':AV→Prop,K' v→X K'
theorem gn{v:AV}:One (fun K=>K v):=fun _ h=>⟨v,h,fun _ h=>h⟩
theorem cR:One (fun _=>False):=fun _ h=>h.elim
theorem rS{p:Prop}{X:(AV→Prop)→Prop}(h:One X):One (fun K=>aJ p (X K)):=fun K ⟨hp,h1⟩=>by
 obtain⟨v,h2,h3⟩:=h K h1;exact⟨v,h2,fun K' hk=>⟨hp,h3 K' hk⟩⟩
theorem Hg{v:AV}:One (fun K=>strict v K):=fun K h=>⟨v,(zp v K)▸h,fun K' h=>by show strict v K';rw[zp];exact h⟩
theorem afi{α:Type}{l:List α}{n:Int}{f:α→AV}:One (fun K=>bO l n fun d=>K (f d)):=fun _ ⟨x,h0,h1,go⟩=>⟨f x,go,fun _ h=>⟨x,h0,h1,h⟩⟩
theorem Im{b:Bool}:One (fun K=>pt b K):=fun K h=>⟨.bool b,by cases b <;> exact h,fun K' h=>by cases b <;> exact h⟩
theorem Ug{t:TypeId}{xs ys:List AV}{f:Bool→Bool}:One (fun K=>EqAt P TT t xs ys fun b=>pt (f b) K):=fun K ⟨h1,h2,go⟩=>by
 obtain⟨v,k1,k2⟩:=Im K go;exact⟨v,k1,fun K' h=>⟨h1,h2,k2 K' h⟩⟩
theorem ab6{t:TypeId}{m:String}{X:(AV→Prop)→Prop}(h:One X):One (fun K=>fH P t m (X K)):=fun K ⟨hp,h1⟩=>by
 obtain⟨v,h2,h3⟩:=h K h1;exact⟨v,h2,fun K' hk=>⟨hp,h3 K' hk⟩⟩
theorem ab4(k:TK)(want:Bool)(x y:AV):One (BP k want x y):=by
 intro K h;unfold BP at h;split at h
 all_goals first | exact⟨_,h,fun _ h=>h⟩ | exact h.elim | exact rS gn K h
theorem afh(op:BinOp)(k:IntKind)(a b:Int):One (JC op k a b):=by
 cases op <;> first | exact Im | exact rS gn | exact gn | exact cR
theorem ab3(op:BinOp)(k:IntKind)(a b:Int):One (IH op k a b):=by
 cases op <;> first | exact rS gn | exact cR
theorem DC{b:Bool}{X Y:(AV→Prop)→Prop}(h1:One X)(h2:One Y):One (fun K=>match b with | true=>X K | false=>Y K):=by cases b;exact h2;exact h1
set_option maxHeartbeats 1000000 in
theorem afk(op:BinOp)(t:TypeId)(y0:Operand)(x y:AV):One (Fz TT op t y0 x y):=by
 unfold Fz;cases x <;> cases y
 case int.int k a k' b=>cases op <;> first | exact ab3 _ _ _ _ | exact DC (afh _ _ _ _) cR
 case bool.bool a b=>
  rcases TT t with _ | ⟨k,s,rL,z⟩
  ·exact cR
  ·cases k <;> cases op <;> first | exact Im | exact cR
 case str.str a b=>cases op <;> first | exact Im | exact cR
 all_goals
  cases hc:Vt y0 <;> cases ht:TT t <;> cases op <;> first | exact cR | exact ab4 _ _ _ _
theorem ade(op:BinOp)(t:TypeId)(y0:Operand)(x y:AV):One (FA P TT op t y0 x y):=by
 unfold FA;split
 ·cases op <;> first | exact Ug (f:=fun b=>b) | exact Ug (f:=fun b=> !b) | exact cR
 ·cases op <;> first | exact rS gn | exact cR
 ·exact afk _ _ _ _ _
theorem ah1(op:UnOp)(x:AV):One (FG op x):=by
 unfold FG;split <;> first | exact gn | exact cR
theorem adb(s d:TypeId)(x:AV):One (E1 TT s d x):=by
 unfold E1;split <;> first | exact gn | exact rS gn | exact cR
theorem ab2(t:TypeId)(x:AV)(lo hi mx:Option AV):One (BC TT t x lo hi mx):=by
 unfold BC;split
 ·split
  ·split <;> first | exact rS gn | exact cR
  ·split <;> first | exact rS gn | exact cR
  ·split <;> first | exact rS gn | exact cR
  ·exact cR
 ·split
  ·split <;> first | exact rS gn | exact cR
  ·exact cR
 ·exact cR
theorem ad9(t:TypeId)(x ix:AV):One (Dm TT t x ix):=by
 unfold Dm;split
 ·split <;> first | exact rS afi | exact rS gn | exact cR
 ·split <;> first | exact rS gn | exact cR
 ·exact cR
theorem Yv(s:TypeId)(x:AV)(f:Nat):One (Dq TT s x f):=by
 unfold Dq;split
 ·split
  ·split
   ·split <;> first | exact gn | exact cR
   ·exact cR
  ·exact cR
 ·exact cR
theorem ab5(s:TypeId)(x:AV)(f:Nat):One (EA TT s x f):=by
 unfold EA;split
 ·split
  ·split
   ·split <;> first | exact gn | exact cR
   ·exact cR
  ·exact cR
 ·exact cR
theorem afg(k:TK)(x:AV):One (Fh k x):=by
 unfold Fh;split <;> first | exact gn | exact cR
theorem afj(k:TK)(x:AV):One (Fy k x):=by
 unfold Fy;split <;> first | exact gn | exact cR
theorem afe(xs:List AV):One (Fc xs):=by
 unfold Fc;split
 ·exact DC gn cR
 ·exact cR
theorem aff(xs:List AV):One (Fe xs):=by
 unfold Fe;split
 ·exact DC gn cR
 ·exact cR
theorem ada(x y:AV):One (E0 x y):=by
 unfold E0;split <;> first | exact gn | exact cR
theorem ad6(x:AV):One (EJ x):=by
 unfold EJ;split <;> first | exact gn | exact cR
theorem ad8(x:AV):One (EP x):=by
 unfold EP;split <;> first | exact gn | exact cR
theorem ad7(i:TI)(a:AV)(σ:Hp):One (qX i a σ):=by
 unfold qX;split
 ·split <;> first | exact gn | exact cR
 ·exact fun K ⟨j,cs,v,h1,h2,go⟩=>⟨v,go,fun K' h=>⟨j,cs,v,h1,h2,h⟩⟩
 ·exact cR
theorem ZW(t:TypeId)(m k:AV)(c:Bool)(σ:Hp):One (Eh TT t m k c σ):=by
 unfold Eh;split
 ·intro K ⟨j,b,l,hm,h1,go⟩;cases c with
  |true=>exact⟨_,go,fun K' h=>⟨j,b,l,hm,h1,h⟩⟩
  |false=>exact⟨_,go,fun K' h=>⟨j,b,l,hm,h1,h⟩⟩
 ·exact cR
theorem Il(o:Op)(ρ:Operand→AV)(σ:Hp):One (fX P TT o ρ σ):=by
 unfold fX;split
 ·exact Hg
 ·exact Hg
 ·split
  ·exact DC Hg Hg
  ·exact cR
 ·split <;> first | exact gn | exact cR
 ·split <;> first | exact ad7 _ _ _ | exact cR
 ·split <;> first | exact gn | exact ab6 gn | exact cR
 ·exact ade _ _ _ _ _
 ·exact ah1 _ _
 ·exact adb _ _ _
 ·split <;> first | exact gn | exact cR
 ·exact gn
 ·exact ab2 _ _ _ _ _
 ·exact Yv _ _ _
 ·exact ab5 _ _ _
 ·exact ad9 _ _ _
 ·split <;> first | exact DC gn gn | exact gn | exact cR
 ·exact ZW _ _ _ _ _
 ·split
  ·split <;> first | exact gn | exact cR
  ·exact cR
 ·split
  ·split <;> first | exact afg _ _ | exact cR
  ·exact cR
 ·split <;> first | exact afe _ | exact cR
 ·split <;> first | exact aff _ | exact cR
 ·split <;> first | exact ada _ _ | exact cR
 ·split <;> first | exact ad6 _ | exact cR
 ·split <;> first | exact ad8 _ | exact cR
 ·split
  ·split <;> first | exact afj _ _ | exact cR
  ·exact cR
 ·exact cR
theorem aah{o:Op}(hb:blind o=true){ρ:Operand→AV}{σ σ':Hp}{K:AV→Prop}(h:fX P TT o ρ σ K):fX P TT o ρ σ' K:=by
 cases o <;> first | exact h | cases hb | (rename_i c;obtain⟨f,args,cD⟩:=c;cases f <;> first | cases hb | (rename_i b;cases b <;> first | exact h | cases hb))
theorem Zb(c:Call)(ρ:Operand→AV)(σ:Hp):One (fun K=>qO P c ρ (fun f xs=>uF P f xs σ K) (fun _ _=>False)):=by
 have NU:∀(f:FuncId) (xs:List AV),One (uF P f xs σ):=fun f xs K h=>by
  cases h with
  |mk js r call go=>exact⟨r,go,fun K' h=>.mk js r call h⟩
  |perm hp r call go=>exact⟨r,go,fun K' h=>.perm hp r call h⟩
 unfold qO;split
 ·split <;> first | exact NU _ _ | exact cR
 ·split
  ·exact fun K ⟨g,h,go⟩=>(NU _ _ K go).imp fun v hv=>⟨hv.1,fun K' hk=>⟨g,h,hv.2 K' hk⟩⟩
  ·exact fun K ⟨g,h,go⟩=>(NU _ _ K go).imp fun v hv=>⟨hv.1,fun K' hk=>⟨g,h,hv.2 K' hk⟩⟩
  ·exact cR
 ·exact cR
theorem Vu(o:Op)(ρ:Operand→AV)(σ:Hp):One (w7 P TT o ρ σ):=by
 unfold w7;split
 ·exact Il _ _ _
 ·exact Zb _ _ _
 ·exact Il _ _ _
theorem ZE{l:Nat}{K K':AV→Hp→Prop}(hk:∀v σ,K v σ→K' v σ){xs:List AV}{σ:Hp}(h:yd P l K xs σ):yd P l K' xs σ:=by
 cases h with
 |mk js R call go=>exact .mk js R call fun r σ' hr=>hk _ _ (go r σ' hr)
 |perm R hp call go=>exact .perm R hp call fun r σ' hr=>(go r σ' hr).imp fun eJ h=>⟨h.1,hk _ _ h.2⟩
theorem Zv{c:Call}{ρ:Operand→AV}{A B:FuncId→List AV→Prop}{Y Z:Nat→List AV→Prop}(oF:∀f xs,A f xs→B f xs)(FR:∀l xs,Y l xs→Z l xs)(h:qO P c ρ A Y):qO P c ρ B Z:=by
 unfold qO at h ⊢;split at h
 ·split at h
  ·exact oF _ _ h
  ·exact FR _ _ h
  ·exact h.elim
 ·split at h
  ·obtain⟨g,h1,h2⟩:=h;exact⟨g,h1,oF _ _ h2⟩
  ·obtain⟨g,h1,h2⟩:=h;exact⟨g,h1,oF _ _ h2⟩
  ·exact h.elim
 ·exact h.elim
theorem abQ{f:FuncId}{K K':AV→Hp→Prop}(hk:∀v σ,K v σ→K' v σ){xs:List AV}{σ:Hp}(h:CallAt P f K xs σ):CallAt P f K' xs σ:=by
 induction h with
 |mk js R call go=>exact .mk js R call fun r σ' hr=>hk _ _ (go r σ' hr)
 |perm R hp call go=>exact .perm R hp call fun r σ' hr=>(go r σ' hr).imp fun eJ h=>⟨h.1,hk _ _ h.2⟩
 |cN j b off len es cs e l h1 h2 h3 h4 h ih=>exact .cN j b off len es cs e l h1 h2 h3 h4 ih
 |kV j b off len es cs e l h1 h2 h3 i k b' cs' hi hk h ih=>exact .kV j b off len es cs e l h1 h2 h3 i k b' cs' hi hk ih
theorem abX{i:TI}{σ:Hp}{s x:AV}{K K':AV→Hp→Prop}(hk:∀v σ,K v σ→K' v σ)(h:AppendAt i σ s x K):AppendAt i σ s x K':=by
 cases h with
 |fresh n new hs hx hn hb h0 go same=>exact .fresh n new hs hx hn hb h0 (fun h b=>hk _ _ (go h b)) (fun h=>hk _ _ (same h))
 |more j b len n cs new hs h1 h2 hx hn hb h0 go=>exact .more j b len n cs new hs h1 h2 hx hn hb h0 (fun b=>hk _ _ (go b))
 |BQ j b off len n cs new hs h1 h2 hx hn hb h0 yD go=>exact .BQ j b off len n cs new hs h1 h2 hx hn hb h0 (hk _ _ yD) (fun b=>hk _ _ (go b))
 |perm K2 hp h eD=>exact .perm K2 hp h fun v eJ h=>(eD v eJ h).imp fun Ai h=>⟨h.1,h.2.imp (hk _ _) fun h=>⟨h.1,hk _ _ h.2⟩⟩
theorem abW{i:TI}{σ:Hp}{s x:AV}{K K':AV→Hp→Prop}(hk:∀v σ,K v σ→K' v σ)(h:Et i σ s x K):Et i σ s x K':=by
 cases h with
 |an k n hs hx hn hb h0 go same=>exact .an k n hs hx hn hb h0 (fun h b=>hk _ _ (go h b)) (fun h=>hk _ _ (same h))
theorem ad2{o:Op}{ρ:Operand→AV}{σ:Hp}{K K':AV→Hp→Prop}(hk:∀v σ,K v σ→K' v σ)(h:ir P TT o ρ σ K):ir P TT o ρ σ K':=by
 have dd:∀{o:Op},fX P TT o ρ σ (fun v=>K v σ)→fX P TT o ρ σ (fun v=>K' v σ):=fun h=>by
  obtain⟨v,h1,h2⟩:=Il _ _ _ _ h;exact h2 _ (hk _ _ h1)
 unfold ir at h ⊢;split at h
 ·split at h
  ·exact fun b=>hk _ _ (h b)
  ·exact h.elim
 ·split at h
  ·exact fun b=>hk _ _ (h b)
  ·exact h.elim
 ·split at h
  ·split at h
   ·split at h
    ·exact fun b=>hk _ _ (h b)
    ·exact h.elim
   ·exact h.elim
  ·exact h.elim
 ·split at h
  ·split at h
   ·exact⟨h.fact,fun b=>hk _ _ (h.go b)⟩
   ·exact h.elim
  ·exact h.elim
 ·split at h
  ·split at h
   ·obtain⟨j,cs,cs',h1,h2,go⟩:=h;exact⟨j,cs,cs',h1,h2,hk _ _ go⟩
   ·exact h.elim
  ·exact h.elim
 ·split at h
  ·exact fun b=>hk _ _ (h b)
  ·exact h.elim
 ·unfold Bv at h ⊢;split at h
  ·obtain⟨j,b,l,hm,h1,go⟩:=h;exact⟨j,b,l,hm,h1,hk _ _ go⟩
  ·exact h.elim
 ·unfold Bv at h ⊢;split at h
  ·obtain⟨j,b,l,hm,h1,go⟩:=h;exact⟨j,b,l,hm,h1,hk _ _ go⟩
  ·exact h.elim
 ·unfold IK at h ⊢;split at h
  ·obtain⟨j,b,l,hm,h1,go⟩:=h;exact⟨j,b,l,hm,h1,fun r=>hk _ _ (go r)⟩
  ·exact h.elim
 ·split at h
  ·obtain⟨j,j2,r,b,l,seen,hx,h1,h2,stop,go⟩:=h;exact⟨j,j2,r,b,l,seen,hx,h1,h2,fun h=>hk _ _ (stop h),fun i p h3 h4=>hk _ _ (go i p h3 h4)⟩
  ·exact h.elim
 ·obtain⟨j,j2,r,b,i,l,p,seen,hx,h1,h2,h3,go⟩:=h;exact⟨j,j2,r,b,i,l,p,seen,hx,h1,h2,h3,hk _ _ go⟩
 ·split at h
  ·split at h
   ·split at h
    ·exact abX hk h
    ·exact h.elim
   ·split at h
    ·exact abW hk h
    ·exact h.elim
   ·exact h.elim
  ·exact h.elim
 ·split at h
  ·split at h
   ·split at h
    ·cases h with
     |none hs go=>exact .none hs (hk _ _ go)
     |ae j b off len cs hs h1 h2 go=>exact .ae j b off len cs hs h1 h2 (hk _ _ go)
    ·exact h.elim
   ·exact h.elim
  ·exact h.elim
 ·split at h
  ·split at h
   ·split at h
    ·cases h with
     |none new hd hx go=>exact .none new hd hx (hk _ _ go)
     |ae j b off len n cs new hd h1 h2 hx hn go=>exact .ae j b off len n cs new hd h1 h2 hx hn (hk _ _ go)
     |part j b off len cs hd h1 h2 j2 b2 n9 n lr hx h3 h4 hn go=>exact .part j b off len cs hd h1 h2 j2 b2 n9 n lr hx h3 h4 hn (hk _ _ go)
    ·exact h.elim
   ·exact h.elim
  ·exact h.elim
 ·exact dd h
 ·exact Zv (fun f xs h=>abQ hk h) (fun l xs h=>ZE hk h) h
 ·exact dd h
theorem map_eq{ρ iU:Operand→AV}{l:List Operand}(h:∀x∈l,ρ x=iU x):l.map ρ=l.map iU:=xv h
theorem Lo{c:Call}{ρ iU:Operand→AV}(h:∀x∈(Op.call c).operands.toList,ρ x=iU x):(∀f,c.callee=.value f→ρ f=iU f)∧(∀r m,c.callee=.invoke r m→ρ r=iU r)∧∀x∈c.args.toList,ρ x=iU x:=by
 obtain⟨f,args,cD⟩:=c;simp only[Op.operands,Call.operands,C6,bY]at h;refine⟨fun g e=>?_,fun r m e=>?_,fun x hx=>h x (.inr hx)⟩
 ·subst e;exact h g (.inl (by simp))
 ·subst e;exact h r (.inl (by simp))
theorem G4{c:Call}{ρ iU:Operand→AV}{A:FuncId→List AV→Prop}{Y:Nat→List AV→Prop}(h:∀x∈(Op.call c).operands.toList,ρ x=iU x):qO P c ρ A Y=qO P c iU A Y:=by
 obtain⟨h1,h2,h3⟩:=Lo h;have e:(c.args.toList.map fun x=>bR (ρ x))=c.args.toList.map fun x=>bR (iU x):=xv fun x hx=>by rw[h3 x hx]
 unfold qO;rw[e];split
 ·rename_i f hf;rw[h1 f hf]
 ·rename_i r m hr;rw[h2 r m hr]
 ·rfl
theorem L0{o:Op}{ρ iU:Operand→AV}{σ:Hp}{K:AV→Prop}(h:∀x∈o.operands.toList,ρ x=iU x):fX P TT o ρ σ K=fX P TT o iU σ K:=by
 cases o with
 |call c=>
  obtain⟨f,args,cD⟩:=c;obtain⟨_,_,h3⟩:=Lo h;cases f with
  |builtin b=>
   obtain⟨l⟩:=args;have h3:∀x∈l,ρ x=iU x:=h3
   match l,h3 with
   | [],_=>cases b <;> rfl
   | [x],h3=>
    have hx:=h3 x (by simp);cases b <;> first | rfl | (obtain⟨cD⟩:=cD;rcases cD with _ | ⟨t,_ | ⟨t',_ | ⟨An,r⟩⟩⟩ <;> first | rfl | simp only[fX,hx])
   | [x,y],h3=>
    have hx:=h3 x (by simp);have hy:=h3 y (by simp);cases b <;> first | rfl | (obtain⟨cD⟩:=cD;rcases cD with _ | ⟨t,_ | ⟨t',_ | ⟨An,r⟩⟩⟩ <;> first | rfl | simp only[fX,hx,hy])
   |_::_::_::_,_=>cases b <;> rfl
  |_=>rfl
 |build t parts=>
  have e:(parts.toList.map fun p=>(p.1,ρ p.2))=parts.toList.map fun p=>(p.1,iU p.2):=xv fun p hp=>by rw[h p.2 (by simp only[Op.operands];exact cX.2 ⟨p,hp,rfl⟩)]
  show (match IY TT t (parts.toList.map fun p=>(p.1,ρ p.2)) with | some v=>K v | none=>False)=_;rw[e];rfl
 |makeFunc f first cap=>
  have e1:first.toList.map ρ=first.toList.map iU:=map_eq fun x hx=>h x (by simp only[Op.operands,C6,bY];exact .inl hx);have e2:cap.toList.map ρ=cap.toList.map iU:=map_eq fun x hx=>h x (by simp only[Op.operands,C6,bY];exact .inr hx);show K (.fn f (first.toList.map ρ) (cap.toList.map ρ))=_;rw[e1,e2];rfl
 |slice t x lo hi mx=>
  have hx:=h x (by simp[Op.operands])
  have e:∀(o:Option Operand),(∀y,o=some y→y∈(Op.slice t x lo hi mx).operands.toList)→(o.map fun x=>bR (ρ x))=o.map fun x=>bR (iU x):=fun o ho=>by
   cases o with
   |none=>rfl
   |some y=>simp[h y (ho y rfl)]
  show BC TT t (bR (ρ x)) (lo.map fun x=>bR (ρ x)) (hi.map fun x=>bR (ρ x)) (mx.map fun x=>bR (ρ x)) K=_;rw[hx,e lo (fun y hy=>by subst hy;simp[Op.operands]),e hi (fun y hy=>by subst hy;simp[Op.operands]),e mx (fun y hy=>by subst hy;simp[Op.operands])];rfl
 |pick c a b=>simp only[fX,h c (by simp[Op.operands]),h a (by simp[Op.operands]),h b (by simp[Op.operands])]
 |binOp op t x y yt=>simp only[fX,h x (by simp[Op.operands]),h y (by simp[Op.operands])]
 |indexAddr t x y=>simp only[fX,h x (by simp[Op.operands]),h y (by simp[Op.operands])]
 |lookup t x y c=>simp only[fX,h x (by simp[Op.operands]),h y (by simp[Op.operands])]
 |_=>first | rfl | (rename_i x;simp only[fX,h x (by simp[Op.operands])]) | (rename_i x _;simp only[fX,h x (by simp[Op.operands])]) | (rename_i x _ _;simp only[fX,h x (by simp[Op.operands])]) | (rename_i x _ _ _;simp only[fX,h x (by simp[Op.operands])])
theorem SQ{o:Op}{ρ iU:Operand→AV}{σ:Hp}{K:AV→Prop}(h:∀x∈o.operands.toList,ρ x=iU x):w7 P TT o ρ σ K=w7 P TT o iU σ K:=by
 have hd:=L0 (P:=P) (TT:=TT) (σ:=σ) (K:=K) h;cases o with
 |call c=>
  obtain⟨f,args,cD⟩:=c;cases f with
  |builtin b=>exact hd
  |value g=>exact G4 (P:=P) (A:=fun f xs=>uF P f xs σ K) (Y:=fun _ _=>False) h
  |invoke r m=>exact G4 (P:=P) (A:=fun f xs=>uF P f xs σ K) (Y:=fun _ _=>False) h
 |_=>exact hd
theorem SN{o:Op}{ρ iU:Operand→AV}{σ:Hp}{K:AV→Hp→Prop}(h:∀x∈o.operands.toList,ρ x=iU x):ir P TT o ρ σ K=ir P TT o iU σ K:=by
 have hd:=L0 (P:=P) (TT:=TT) (σ:=σ) (K:=fun v=>K v σ) h;cases o with
 |call c=>
  obtain⟨f,args,cD⟩:=c;obtain⟨_,_,h3⟩:=Lo h;cases f with
  |builtin b=>
   obtain⟨l⟩:=args;have h3:∀x∈l,ρ x=iU x:=h3
   match l,h3 with
   | [],_=>cases b <;> first | exact hd | rfl
   | [x],h3=>
    have hx:=h3 x (by simp);cases b <;> first | exact hd | rfl | (obtain⟨cD⟩:=cD;rcases cD with _ | ⟨t,_ | ⟨t',_ | ⟨An,r⟩⟩⟩ <;> first | rfl | simp only[ir,hx])
   | [x,y],h3=>
    have hx:=h3 x (by simp);have hy:=h3 y (by simp);cases b <;> first | exact hd | rfl | (obtain⟨cD⟩:=cD;rcases cD with _ | ⟨t,_ | ⟨t',_ | ⟨An,r⟩⟩⟩ <;> first | rfl | simp only[ir,hx,hy])
   |_::_::_::_,_=>cases b <;> first | exact hd | rfl
  |value g=>exact G4 (P:=P) (A:=fun f xs=>CallAt P f K xs σ) (Y:=fun l xs=>yd P l K xs σ) h
  |invoke r m=>exact G4 (P:=P) (A:=fun f xs=>CallAt P f K xs σ) (Y:=fun l xs=>yd P l K xs σ) h
 |box t x=>simp only[ir,h x (by simp[Op.operands])]
 |buildSlice t len parts=>
  have e:(parts.toList.map fun p=>(p.1,ρ p.2))=parts.toList.map fun p=>(p.1,iU p.2):=xv fun p hp=>by rw[h p.2 (by simp only[Op.operands];exact cX.2 ⟨p,hp,rfl⟩)]
  simp only[ir,e]
 |makeSlice t l c=>simp only[ir,h l (by simp[Op.operands]),h c (by simp[Op.operands])]
 |store t a x=>simp only[ir,h a (by simp[Op.operands]),h x (by simp[Op.operands])]
 |makeMap t r=>cases r with
  |none=>rfl
  |some r=>exact hd
 |mapUpdate t m k x=>simp only[ir,h m (by simp[Op.operands]),h k (by simp[Op.operands]),h x (by simp[Op.operands])]
 |insert t m k x=>simp only[ir,h m (by simp[Op.operands]),h k (by simp[Op.operands]),h x (by simp[Op.operands])]
 |range t x=>simp only[ir,h x (by simp[Op.operands])]
 |next x s=>simp only[ir,h x (by simp[Op.operands])]
 |entry x=>simp only[ir,h x (by simp[Op.operands])]
 |_=>first | exact hd | rfl
theorem xP{ops:List Oper}{Q:List Nat}{n:Nat}{az:List Bool}{t:Tm}{σ:Hp}{K:Tm→Hp→Prop}:rj P TT ops Q (n+1) az t σ K=((jx ops az=[]→K t σ)∧∀i∈jx ops az,kd P TT ops (fw i Q) i t σ fun t' σ'=>rj P TT ops Q n (az.set i true) t' σ' K):=rfl
def vN(_ops:List Oper)(az:List Bool)(o:Oper):Prop:=∀e∈o.after.toList,Region.binds .any e=true→az.getD e.on false=true
theorem xL{ops:List Oper}{az:List Bool}{i:Nat}:i∈jx ops az↔az.getD i true=false∧∃o,ops[i]?=some o∧vN ops az o:=by
 unfold jx vN;simp only[kL,fF,bS,jO];constructor
 ·rintro⟨h1,h2,h3⟩;refine⟨h2,ops[i],by simp[h1],?_⟩;rw[bB h1]at h3;intro e he hb;have:=fG.1 h3 e he;simpa [hb]using this
 ·rintro⟨h2,o,h1,h3⟩;refine⟨(bZ.1 h1).1,h2,?_⟩;rw[h1];refine fG.2 fun e he=>?_;cases hb:Region.binds .any e with
  |false=>simp
  |true=>rw[h3 e he hb];simp
def BA(ops:List Oper)(az:List Bool):Prop:=∀(j:Nat) (o:Oper),ops[j]?=some o→az.getD j false=true→vN ops az o
theorem QM{l:List Bool}{i k:Nat}(h:l.getD k false=true):(l.set i true).getD k false=true:=by
 rw[aZ]at h ⊢;rw[eA];split
 ·rename_i e;subst e
  split
  ·rfl
  ·rename_i hn;rw[vJ (by omega)]at h;cases h
 ·exact h
theorem Q3{l:List Bool}{i k:Nat}(b:Bool)(h:k≠i):(l.set i true).getD k b=l.getD k b:=by
 rw[aZ,aZ,eA,ag (Ne.symm h)]
theorem Ix{l:List Bool}{i:Nat}(h:l.getD i true=false):l.getD i false=false:=by
 rw[aZ]at h ⊢;cases hq:l[i]? with
 |none=>rw[hq]at h;cases h
 |some b=>rw[hq]at h;exact h
theorem vN.set{ops:List Oper}{az:List Bool}{o:Oper}(h:vN ops az o)(i:Nat):vN ops (az.set i true) o:=fun e he hb=>QM (h e he hb)
theorem BA.set{ops:List Oper}{az:List Bool}(h:BA ops az){j:Nat}{o:Oper}(ho:ops[j]?=some o)(hr:vN ops az o):BA ops (az.set j true):=by
 intro k p hp hk
 by_cases sC:k=j
 ·subst sC;rw[ho]at hp;cases hp;exact hr.set k
 ·rw[Q3 false sC]at hk;exact (h k p hp hk).set j
theorem SF{ops:List Oper}{az:List Bool}{i j:Nat}(hi:i∈jx ops az)(h:i≠j):i∈jx ops (az.set j true):=by
 obtain⟨h1,o,h2,h3⟩:=xL.1 hi;exact xL.2 ⟨by rw[Q3 true h];exact h1,o,h2,h3.set j⟩
theorem Uq{j:Nat}{l:List Nat}:fw j l=true↔j∈l:=by
 unfold fw;rw[mW];exact⟨fun ⟨x,h1,h2⟩=>j5 h2▸h1,fun h=>⟨j,h,y4 j⟩⟩
def E4(ops:List Oper)(k:Nat)(row:List Nat):Prop:=∀o,ops[k]?=some o→∀az,BA ops az→vN ops az o→∀j∈row,az.getD j false=true
theorem aeW{ops:List Oper}{acc:List (List Nat)}(hlen:acc.length≤ops.length)(h:∀(k:Nat) (row:List Nat),acc[k]?=some row→E4 ops k row){k:Nat}{o:Oper}(ho:ops[k]?=some o):E4 ops k (Ou o acc):=by
 intro o' eP az hc hr j hj;rw[ho]at eP;cases eP;unfold Ou at hj;obtain⟨e,he,hj⟩:=List.mem_flatMap.1 hj;split at hj
 ·rename_i hb
  have mn:=hr e he hb
  rcases dm.1 hj with rfl | hj
  ·exact mn
  ·cases hq:acc[e.on]? with
   |none=>rw[hq]at hj;simp at hj
   |some row=>
    rw[hq]at hj;cases hp:ops[e.on]? with
    |some p=>exact h e.on row hq p hp az hc (hc e.on p hp mn) j (by simpa using hj)
    |none=>
     have h1:=(bZ.1 hq).1;have h2:=List.getElem?_eq_none_iff.1 hp;omega
 ·cases hj
theorem TV{ops:List Oper}:∀(os:List Oper) (acc:List (List Nat)) (pre:List Oper),ops=pre++os→acc.length=pre.length→(∀(k:Nat) (row:List Nat),acc[k]?=some row→E4 ops k row)→∀(k:Nat) (row:List Nat),(NT os acc)[k]?=some row→E4 ops k row
 | [],acc,pre,_,_,h=>h
 |o::os,acc,pre,he,hl,h=>by
  refine TV os _ (pre++[o]) (by rw[he];simp) (by simp[hl]) ?_;intro k row hk
  by_cases ab:k<acc.length
  ·rw[j6 ab]at hk;exact h k row hk
  ·have dR:=hk;rw[jq (by omega)]at hk
   have hz:k-acc.length=0:=by
    have:=(bZ.1 hk).1;simp at this;omega
   rw[hz]at hk;simp only[List.getElem?_cons_zero,Option.some.injEq]at hk;subst hk;have aP:k=pre.length:=by omega
   have ho:ops[k]?=some o:=by rw[he,aP];simp
   intro o' eP az hc hr j hj;exact aeW (by rw[he,hl];simp) h ho o' eP az hc hr j (List.mem_eraseDups.1 hj)
def ajw(want:Bool)(x:AV)(A B:Prop):Prop:=
 match x with
 |.bool b=>(match want,b with | true,true=>A | true,false=>B | false,true=>B | false,false=>A)
 |.tup []=>B
 |_=>False
theorem Dn{ops:List Oper}{o:Oper}{t:Tm}{A B:Prop}(h:p7 ops o t A B):
  (A∧∀(t2:Tm),(∀d∈o.looksAt ops.toArray,t2 d=t d)→∀{A' B':Prop},A'→p7 ops o t2 A' B')∨(B∧∀(t2:Tm),(∀d∈o.looksAt ops.toArray,t2 d=t d)→∀{A' B':Prop},B'→p7 ops o t2 A' B'):=by
 unfold p7 at h;split at h
 ·rename_i hg
  refine .inl ⟨h,fun t2 _ A' B' ha=>?_⟩;unfold p7;rw[hg];exact ha
 ·rename_i j want hg
  split at h
  ·rename_i d hd
   have Ae:d∈o.looksAt ops.toArray:=by
    unfold Oper.looksAt;rw[hg];simp only[AO,hd,Option.toList_some,bY,bD,or_true]
   have go:∀(t2:Tm),(∀d∈o.looksAt ops.toArray,t2 d=t d)→∀{A' B':Prop},ajw want (t d) A' B'→p7 ops o t2 A' B':=fun t2 h2 A' B' hx=>by
    unfold p7;rw[hg];dsimp only;rw[hd];dsimp only;rw[h2 d Ae];exact hx
   split at h
   ·rename_i b hb
    cases want <;> cases b
    ·exact .inl ⟨h,fun t2 h2 A' B' ha=>go t2 h2 (by rw[hb];exact ha)⟩
    ·exact .inr ⟨h,fun t2 h2 A' B' ha=>go t2 h2 (by rw[hb];exact ha)⟩
    ·exact .inr ⟨h,fun t2 h2 A' B' ha=>go t2 h2 (by rw[hb];exact ha)⟩
    ·exact .inl ⟨h,fun t2 h2 A' B' ha=>go t2 h2 (by rw[hb];exact ha)⟩
   ·rename_i hb
    exact .inr ⟨h,fun t2 h2 A' B' ha=>go t2 h2 (by rw[hb];exact ha)⟩
   ·exact h.elim
  ·exact h.elim
theorem En{ops:List Oper}{o:Oper}{t t2:Tm}(h:∀d∈o.looksAt ops.toArray,t2 d=t d):∀x∈o.op.operands.toList,ev t2 x=ev t x:=by
 intro x hx;cases x with
 |tmp d=>
  refine h d ?_;unfold Oper.looksAt;refine ia _ (List.mem_filterMap.2 ⟨_,hx,rfl⟩)
 |_=>rfl
theorem adn{o:Op}(h:uo o=true){ρ:Operand→AV}{σ:Hp}{K:AV→Hp→Prop}:ir P TT o ρ σ K=fX P TT o ρ σ (fun v=>K v σ):=by
 cases o <;> first | rfl | cases h
theorem abS{o:Op}(h:blind o=true){ρ:Operand→AV}{σ:Hp}{K:AV→Hp→Prop}:ir P TT o ρ σ K=fX P TT o ρ σ (fun v=>K v σ):=by
 cases o <;> first | rfl | cases h | (rename_i c;obtain⟨f,args,cD⟩:=c;cases f <;> first | cases h | (rename_i b;cases b <;> first | rfl | cases h))
theorem abl{o:Op}(h:uo o=true){ρ:Operand→AV}{σ:Hp}{K:AV→Prop}(c:Nat×List AV)(hd:fX P TT o ρ σ K):fX P TT o ρ (c::σ) K:=by
 have key:∀{i:TI} {a:AV},qX i a σ K→qX i a (c::σ) K:=fun {i a} h=>by
  unfold qX at h ⊢;cases a <;> first | exact h | (cases h with | mk j cs v h1 h2 go=>exact .mk (j+1) cs v h1 h2 go)
 cases o <;> first | cases h | skip
 unfold fX at hd ⊢;dsimp only at hd ⊢;split at hd
 ·exact key hd
 ·exact hd
theorem adj{o:Op}(hn:Jb o=true){ρ:Operand→AV}{σ:Hp}{K K2:AV→Hp→Prop}(hk:∀v c,K v (c::σ)→K2 v (c::σ))(h:ir P TT o ρ σ K):ir P TT o ρ σ K2:=by
 cases o <;> first | cases hn | skip
 all_goals
  unfold ir at h ⊢;dsimp only at h ⊢;split at h
  ·exact fun b=>hk _ _ (h b)
  ·exact h
theorem No{ops:List Oper}{Q:List Nat}{j:Nat}{o:Oper}(ho:ops[j]?=some o){t:Tm}{σ:Hp}{K:Tm→Hp→Prop}(hk:wQ ops Q j=false)(h:kd P TT ops (fw j Q) j t σ K):
  ∃v,K (put t o.dst v) σ∧∀(t2:Tm) (σ2:Hp),(∀d∈o.looksAt ops.toArray,t2 d=t d)→(σ2=σ∨(blind o.op=true∧fw j Q=false)∨(uo o.op=true∧fw j Q=false∧∃c,σ2=c::σ))→∀(K2:Tm→Hp→Prop),K2 (put t2 o.dst v) σ2→kd P TT ops (fw j Q) j t2 σ2 K2:=by
 unfold kd at h ⊢;rw[ho]at h ⊢;dsimp only at h ⊢;cases hq:fw j Q with
 |true=>
  rw[hq]at h;dsimp only at h ⊢
  rcases Dn h with ⟨h,g⟩ | ⟨h,g⟩
  ·obtain⟨v,h1,h2⟩:=Vu _ _ _ _ h;refine⟨v,h1,fun t2 σ2 ht aG K2 eD=>g t2 ht ?_⟩
   rcases aG with rfl | ⟨_,h⟩ | ⟨_,h,_⟩
   ·rw[SQ (En ht)];exact h2 (fun v=>K2 (put t2 o.dst v) σ2) eD
   ·cases h
   ·cases h
  ·refine⟨.tup [],h,fun t2 σ2 ht aG K2 eD=>g t2 ht ?_⟩
   rcases aG with rfl | ⟨_,h⟩ | ⟨_,h,_⟩
   ·exact eD
   ·cases h
   ·cases h
 |false=>
  rw[hq]at h;dsimp only at h ⊢
  have aS:pq o.op=false:=by
   unfold wQ at hk;rw[ho,hq]at hk;simpa using hk
  have e:∀(ρ:Operand→AV) (σ:Hp) (K:AV→Hp→Prop),ir P TT o.op ρ σ K=fX P TT o.op ρ σ (fun v=>K v σ):=fun ρ σ K=>by
   unfold pq at aS;simp only[KT,pK]at aS
   rcases aS with h | h
   ·exact abS h
   ·exact adn h
  rcases Dn h with ⟨h,g⟩ | ⟨h,g⟩
  ·rw[e]at h;obtain⟨v,h1,h2⟩:=Il _ _ _ _ h;refine⟨v,h1,fun t2 σ2 ht aG K2 eD=>g t2 ht ?_⟩;rw[e,L0 (En ht)]
   rcases aG with rfl | ⟨hb,_⟩ | ⟨hl,_,c,rfl⟩
   ·exact h2 (fun v=>K2 (put t2 o.dst v) σ2) eD
   ·exact aah hb (h2 (fun v=>K2 (put t2 o.dst v) σ2) eD)
   ·exact abl hl c (h2 (fun v=>K2 (put t2 o.dst v) (c::σ)) eD)
  ·exact⟨.tup [],h,fun t2 σ2 ht aG K2 eD=>g t2 ht eD⟩
theorem HS{ops:List Oper}{q:Bool}{i:Nat}{o:Oper}(ho:ops[i]?=some o){t t2:Tm}{σ:Hp}{K K2:Tm→Hp→Prop}(ht:∀d∈o.looksAt ops.toArray,t2 d=t d)(hk:∀v σ',K (put t o.dst v) σ'→K2 (put t2 o.dst v) σ')(h:kd P TT ops q i t σ K):kd P TT ops q i t2 σ K2:=by
 unfold kd at h ⊢;rw[ho]at h ⊢;dsimp only at h ⊢;cases q with
 |true=>
  dsimp only at h ⊢
  rcases Dn h with ⟨h,g⟩ | ⟨h,g⟩
  ·obtain⟨v,h1,h2⟩:=Vu _ _ _ _ h;refine g t2 ht ?_;rw[SQ (En ht)];exact h2 _ (hk _ _ h1)
  ·exact g t2 ht (hk _ _ h)
 |false=>
  dsimp only at h ⊢
  rcases Dn h with ⟨h,g⟩ | ⟨h,g⟩
  ·refine g t2 ht ?_;rw[SN (En ht)];exact ad2 (fun v σ' h=>hk v σ' h) h
  ·exact g t2 ht (hk _ _ h)
theorem adf{ops:List Oper}{i:Nat}{o:Oper}(ho:ops[i]?=some o)(hn:Jb o.op=true){t t2:Tm}{σ:Hp}{K K2:Tm→Hp→Prop}(ht:∀d∈o.looksAt ops.toArray,t2 d=t d)(hk:∀v c,K (put t o.dst v) (c::σ)→K2 (put t2 o.dst v) (c::σ))(hs:∀v,K (put t o.dst v) σ→K2 (put t2 o.dst v) σ)(h:kd P TT ops false i t σ K):kd P TT ops false i t2 σ K2:=by
 unfold kd at h ⊢;rw[ho]at h ⊢;dsimp only at h ⊢
 rcases Dn h with ⟨h,g⟩ | ⟨h,g⟩
 ·refine g t2 ht ?_;rw[SN (En ht)];exact adj hn (fun v c h=>hk v c h) h
 ·exact g t2 ht (hs _ h)
theorem af4{t:Tm}{d d':Option Tmp}{v v':AV}(h:∀x,d=some x→d'≠some x):put (put t d v) d' v'=put (put t d' v') d v:=by
 cases d with
 |none=>rfl
 |some x=>cases d' with
  |none=>rfl
  |some y=>
   have aS:y≠x:=fun e=>h x rfl (by rw[e])
   funext i
   show (match Nat.beq i y with | true=>v' | false=>match Nat.beq i x with | true=>v | false=>t i)=(match Nat.beq i x with | true=>v | false=>match Nat.beq i y with | true=>v' | false=>t i);cases h1:Nat.beq i y <;> cases h2:Nat.beq i x <;> first | rfl | exact absurd ((j5 h1).symm.trans (j5 h2)) aS
theorem Vl{t:Tm}{d:Option Tmp}{v:AV}{x:Tmp}(h:d≠some x):put t d v x=t x:=by
 cases d with
 |none=>rfl
 |some y=>
  show (match Nat.beq x y with | true=>v | false=>t x)=t x;cases hb:Nat.beq x y with
  |false=>rfl
  |true=>exact absurd (by rw[j5 hb]) h
def W8(ops:List Oper)(rows:List (List Nat)):Prop:=∀(k:Nat) (row:List Nat),rows[k]?=some row→E4 ops k row
theorem ae5{ops:List Oper}(h0:sV ops=true){az:List Bool}{i j:Nat}{oi oj:Oper}(fj:i≠j)(hi:ops[i]?=some oi)(hj:ops[j]?=some oj)(Kj:az.getD i true=false)(Ki:az.getD j true=false)(ey:vN ops az oi)(Pr:vN ops az oj):oi.apart ops.toArray oj=true:=by
 rcases (Mb h0).2 i j oi oj hi hj with e | e | e | e
 ·exact absurd e fj
 ·obtain⟨ed,h1,h2,rfl⟩:=A9 e;have:=ey ed (by simpa using h1) h2;rw[Ix Ki]at this;cases this
 ·obtain⟨ed,h1,h2,rfl⟩:=A9 e;have:=Pr ed (by simpa using h1) h2;rw[Ix Kj]at this;cases this
 ·exact e
theorem adk{ops:List Oper}{k:Nat}(h:Fb ops k=true):∃o,ops[k]?=some o∧Jb o.op=true:=by
 unfold Fb at h;split at h
 ·rename_i o ho;exact⟨o,ho,h⟩
 ·cases h
theorem R4{ops:List Oper}{rows:List (List Nat)}{Q:List Nat}{az:List Bool}{j:Nat}(h:BI ops rows Q az j=true):∃o,ops[j]?=some o∧wQ ops Q j=false∧((blind o.op=true∧fw j Q=false)∨∀k,k<ops.length→az.getD k false=true∨wQ ops Q k=false∨fw j ((rows[k]?).getD [])=true∨(uo o.op=true∧fw j Q=false∧Fb ops k=true)):=by
 unfold BI at h;split at h
 ·rename_i o ho
  refine⟨o,ho,?_⟩;simp only[pK,bS,jO]at h
  rcases h with ⟨h1,h2⟩ | ⟨h1,h2⟩
  ·exact⟨by unfold wQ pq;rw[ho];simp[h1],.inl ⟨h1,h2⟩⟩
  ·refine⟨?_,.inr fun k hk=>?_⟩
   ·unfold wQ pq;rw[ho]
    rcases h1 with h1 | h1 <;> simp[h1]
   ·have:=fG.1 h2 k (fF.2 hk);simp only[pK,bS,jO]at this
    rcases this with ((h | h) | h) | ⟨⟨h3,h4⟩,h5⟩
    ·exact .inl h
    ·exact .inr (.inl h)
    ·exact .inr (.inr (.inl h))
    ·exact .inr (.inr (.inr ⟨h3,h4,h5⟩))
 ·cases h
theorem aak{ops:List Oper}{rows:List (List Nat)}{Q:List Nat}{K:Tm→Hp→Prop}(h0:sV ops=true)(hR:W8 ops rows){j:Nat}:∀(n:Nat) (az:List Bool) (t:Tm) (σ:Hp),BA ops az→j∈jx ops az→BI ops rows Q az j=true→
  kd P TT ops (fw j Q) j t σ (fun t' σ'=>rj P TT ops Q n (az.set j true) t' σ' K)→rj P TT ops Q (n+1) az t σ K:=by
 intro n
 induction n with
 |zero=>
  intro az t σ hc hj hf h;obtain⟨oj,ho,he,_⟩:=R4 hf;obtain⟨v,h1,_⟩:=No ho he h;exact h1.elim
 |succ n ih=>
  intro az t σ hc hj hf h;obtain⟨oj,ho,he,ahf⟩:=R4 hf;obtain⟨Ki,oj',eP,Pr⟩:=xL.1 hj;rw[ho]at eP;cases eP;obtain⟨v,h1,h2⟩:=No ho he h;rw[xP];refine⟨fun hn=>by rw[hn]at hj;(cases hj),fun i hi=>?_⟩
  by_cases fj:i=j
  ·subst fj;exact h2 t σ (fun _ _=>rfl) (.inl rfl) _ h1
  obtain⟨Kj,oi,kI,ey⟩:=xL.1 hi;have xn:=Oper.apart_spec (ae5 h0 fj kI ho Kj Ki ey Pr);rw[xP]at h1;have mb:=h1.2 i (SF hi fj);have BT:∀d∈oi.looksAt ops.toArray,t d=put t oj.dst v d:=fun d hd=>(Vl fun e=>xn.2.2 d e hd).symm;have uQ:∀u,put (put t oj.dst v) oi.dst u=put (put t oi.dst u) oj.dst v:=fun u=>af4 fun x hx hi=>xn.2.1 x hi hx;have kA:(az.set j true).set i true=(az.set i true).set j true:=List.set_comm _ _ (Ne.symm fj);have Gj:=hc.set kI ey;have vf:=SF hj (Ne.symm fj)
  have hfi:BI ops rows Q (az.set i true) j=true:=by
   unfold BI at hf ⊢;rw[ho]at hf ⊢;simp only[pK,bS,jO]at hf ⊢;refine hf.imp id fun h=>⟨h.1,fG.2 fun k hk=>?_⟩
   have:=fG.1 h.2 k hk;simp only[pK,jO]at this ⊢;exact this.imp (fun h=>h.imp (fun h=>h.imp QM id) id) id
  have hlj:∀u,∀d∈oj.looksAt ops.toArray,put t oi.dst u d=t d:=fun u d hd=>Vl fun e=>xn.1 d e hd
  have fin:∀u σ',(σ'=σ∨(blind oj.op=true∧fw j Q=false)∨(uo oj.op=true∧fw j Q=false∧∃c,σ'=c::σ))→rj P TT ops Q n ((az.set j true).set i true) (put (put t oj.dst v) oi.dst u) σ' K→rj P TT ops Q (n+1) (az.set i true) (put t oi.dst u) σ' K:=fun u σ' aG hh=>by
   refine ih (az.set i true) (put t oi.dst u) σ' Gj vf hfi ?_;refine h2 _ σ' (hlj u) aG _ ?_;rw[kA,uQ]at hh;exact hh
  cases CK:wQ ops Q i with
  |true=>
   have hb:(blind oj.op=true∧fw j Q=false)∨(uo oj.op=true∧fw j Q=false∧Fb ops i=true):=by
    rcases ahf with h | h
    ·exact .inl h
    ·have ab:i<ops.length:=(bZ.1 kI).1
     rcases h i ab with h | h | h | h
     ·rw[Ix Kj]at h;cases h
     ·rw[CK]at h;cases h
     rotate_left
     ·exact .inr h
     ·cases hq:rows[i]? with
      |none=>rw[hq]at h;cases h
      |some row=>
       rw[hq]at h;have:=hR i row hq oi kI az hc ey j (Uq.1 h);rw[Ix Ki]at this;cases this
   rcases hb with hb | ⟨hl,hq,iG⟩
   ·exact HS kI BT (fun u σ' hh=>fin u σ' (.inr (.inl hb)) hh) mb
   ·obtain⟨oi',X0,hn⟩:=adk iG;rw[kI]at X0;cases X0
    have hqi:fw i Q=false:=by
     unfold wQ at CK;rw[kI]at CK;simp only[bS,jO]at CK;exact CK.2
    rw[hqi]at mb ⊢;exact adf kI hn BT (fun u c hh=>fin u (c::σ) (.inr (.inr ⟨hl,hq,c,rfl⟩)) hh) (fun u hh=>fin u σ (.inl rfl) hh) mb
  |false=>
   obtain⟨u,k1,k2⟩:=No kI CK mb;exact k2 t σ BT (.inl rfl) _ (fin u σ (.inl rfl) k1)
theorem aeS{ops:List Oper}{rows:List (List Nat)}{Q:List Nat}{K:Tm→Hp→Prop}(h0:sV ops=true)(hR:W8 ops rows):∀(s:oP) (n:Nat) (n0:List Nat) (az:List Bool) (t:Tm) (σ:Hp),l5 ops rows Q s n n0 az=true→BA ops az→wL P TT ops s t σ K→
  (n0=[]→rj P TT ops Q n az t σ K)∧((∀i∈n0,i∈jx ops az)→∀i∈n0,kd P TT ops (fw i Q) i t σ fun t' σ'=>rj P TT ops Q n (az.set i true) t' σ' K):=by
 intro s
 induction s with
 |stop=>
  intro n n0 az t σ hs hc h;unfold l5 at hs;split at hs
  ·rename_i n _ _ _ hr
   refine⟨fun _=>?_,fun _ i hi=>by cases hi⟩;rw[xP,hr];exact⟨fun _=>h,fun i hi=>by cases hi⟩
  ·cases hs
 |one j q s ih=>
  intro n n0 az t σ hs hc h
  have step:∀m,fw j Q=q→j∈jx ops az→l5 ops rows Q s m [] (az.set j true)=true→kd P TT ops (fw j Q) j t σ fun t' σ'=>rj P TT ops Q m (az.set j true) t' σ' K:=fun m hq hj hs=>by
   obtain⟨_,o,ho,hr⟩:=xL.1 hj;rw[hq];have h:kd P TT ops q j t σ fun t' σ'=>wL P TT ops s t' σ' K:=h;exact HS ho (fun _ _=>rfl) (fun v σ' hh=>(ih m [] _ _ σ' hs (hc.set ho hr) hh).1 rfl) h
  unfold l5 at hs;split at hs
  ·rename_i n
   simp only[bS,pK,beq_iff_eq]at hs;obtain⟨⟨⟨h1,h2⟩,h3⟩,h4⟩:=hs;have hj:=Uq.1 h2;refine⟨fun _=>?_,fun _ i hi=>by cases hi⟩;have aq:=step n h1 hj h4
   rcases h3 with h3 | h3
   ·exact aak h0 hR n az t σ hc hj h3 aq
   ·split at h3
    ·rename_i i hr
     rw[xP,hr];refine⟨fun h=>(by cases h),fun k hk=>?_⟩;obtain rfl:=bD.1 hk;obtain rfl:=j5 h3;exact aq
    ·cases h3
  ·rename_i i
   simp only[bS,beq_iff_eq]at hs;obtain⟨⟨h1,h2⟩,h4⟩:=hs;refine⟨fun h=>(by cases h),fun hp k hk=>?_⟩;obtain rfl:=j5 h2;obtain rfl:=bD.1 hk;exact step _ h1 (hp k hk) h4
  ·cases hs
 |alt j s r ih kh=>
  intro n n0 az t σ hs hc h;obtain⟨ha,hb⟩:kd P TT ops false j t σ (fun t' σ'=>wL P TT ops s t' σ' K)∧wL P TT ops r t σ K:=h
  have step:∀m,fw j Q=false→j∈jx ops az→l5 ops rows Q s m [] (az.set j true)=true→kd P TT ops (fw j Q) j t σ fun t' σ'=>rj P TT ops Q m (az.set j true) t' σ' K:=fun m hq hj hs=>by
   obtain⟨_,o,ho,hr⟩:=xL.1 hj;rw[hq];exact HS ho (fun _ _=>rfl) (fun v σ' hh=>(ih m [] _ _ σ' hs (hc.set ho hr) hh).1 rfl) ha
  unfold l5 at hs;split at hs
  ·rename_i n
   split at hs
   ·rename_i i i2 l hr
    simp only[bS,jO]at hs;obtain⟨⟨⟨h1,h2⟩,h3⟩,h4⟩:=hs;obtain rfl:=j5 h1;refine⟨fun _=>?_,fun _ i hi=>by cases hi⟩;rw[xP,hr];refine⟨fun h=>(by cases h),fun k hk=>?_⟩
    rcases dm.1 hk with rfl | hk
    ·exact step n h2 (by rw[hr];exact b9 ..) h3
    ·exact (kh n (i2::l) az t σ h4 hc hb).2 (fun i hi=>by rw[hr];exact cQ _ hi) k hk
   ·cases hs
  ·rename_i i i2 l
   simp only[bS,jO]at hs;obtain⟨⟨⟨h1,h2⟩,h3⟩,h4⟩:=hs;obtain rfl:=j5 h1;refine⟨fun h=>(by cases h),fun hp k hk=>?_⟩
   rcases dm.1 hk with rfl | hk
   ·exact step n h2 (hp _ (b9 ..)) h3
   ·exact (kh n (i2::l) az t σ h4 hc hb).2 (fun i hi=>hp i (cQ _ hi)) k hk
  ·cases hs
 |Yb j s r ih kh=>
  intro n n0 az t σ hs hc h;obtain⟨ha,hb⟩:kd P TT ops true j t σ (fun t' σ'=>wL P TT ops s t' σ' K)∧wL P TT ops r t σ K:=h
  have step:∀m,fw j Q=true→j∈jx ops az→l5 ops rows Q s m [] (az.set j true)=true→kd P TT ops (fw j Q) j t σ fun t' σ'=>rj P TT ops Q m (az.set j true) t' σ' K:=fun m hq hj hs=>by
   obtain⟨_,o,ho,hr⟩:=xL.1 hj;rw[hq];exact HS ho (fun _ _=>rfl) (fun v σ' hh=>(ih m [] _ _ σ' hs (hc.set ho hr) hh).1 rfl) ha
  unfold l5 at hs;split at hs
  ·rename_i n
   split at hs
   ·rename_i i i2 l hr
    simp only[bS]at hs;obtain⟨⟨⟨h1,h2⟩,h3⟩,h4⟩:=hs;obtain rfl:=j5 h1;refine⟨fun _=>?_,fun _ i hi=>by cases hi⟩;rw[xP,hr];refine⟨fun h=>(by cases h),fun k hk=>?_⟩
    rcases dm.1 hk with rfl | hk
    ·exact step n h2 (by rw[hr];exact b9 ..) h3
    ·exact (kh n (i2::l) az t σ h4 hc hb).2 (fun i hi=>by rw[hr];exact cQ _ hi) k hk
   ·cases hs
  ·rename_i i i2 l
   simp only[bS]at hs;obtain⟨⟨⟨h1,h2⟩,h3⟩,h4⟩:=hs;obtain rfl:=j5 h1;refine⟨fun h=>(by cases h),fun hp k hk=>?_⟩
   rcases dm.1 hk with rfl | hk
   ·exact step n h2 (hp _ (b9 ..)) h3
   ·exact (kh n (i2::l) az t σ h4 hc hb).2 (fun i hi=>hp i (cQ _ hi)) k hk
  ·cases hs
theorem aag{o:Oper}{ρ:Operand→AV}{σ:Hp}{K:AV→Prop}(ok:dM P TT)(h:w7 P TT o.op ρ σ K)(a:Act)(F:Nat→Prop)(w:World)(hx:∀x∈o.op.operands.toList,aB F w (ρ x) (a.eval x))(aG:bj F w σ)(next:Act→World→Prop)(Q:Exit→Act→World→Prop)(hn:∀v u F' w',bH F w F' w'→bj F' w' σ→aB F' w' v u→K v→next (a.put o.dst u) w'):wq P o a w next Q:=by
 obtain⟨v,h1,h2⟩:=SP ok h;exact h2 a F w hx aG next Q fun u F' w' k1 k2 k3=>hn v u F' w' k1 k2 k3 h1
theorem afW(ok:dM P TT){B n:Nat}{ops:List Oper}{Q:List Nat}(hd:∀o∈ops,∀d,o.dst=some d→d<n){K:Tm→Hp→Prop}{Q':Exit→Act→World→Prop}{F0:Nat→Prop}{w0:World}(hq:∀t' σ' F' w' a',bH F0 w0 F' w'→dx B n F' w' t' σ' a'→K t' σ'→Q' .normal a' w'):
  ∀(m:Nat) (az:List Bool) (t:Tm) (σ:Hp) (F:Nat→Prop) (w:World) (a:Act),left az.toArray≤m→az.length=ops.length→rj P TT ops Q (m+1) az t σ K→dx B n F w t σ a→bH F0 w0 F w→ym P .any ops.toArray (yo Q') m az.toArray a w:=by
 intro m
 induction m with
 |zero=>
  intro az t σ F w a hl hlen h hs aq
  have hr:jx ops az=[]:=by
   rw[← sT,Lc];intro j hj;have:=(mem_ready.1 hj).1;rw[L3 (by omega)]at this;cases this
  rw[xP]at h;exact⟨by rw[sT];exact hr,hq t σ F w a aq hs (h.1 hr)⟩
 |succ m ih=>
  intro az t σ F w a hl hlen h hs aq;rw[xP]at h;refine⟨fun hr=>hq t σ F w a aq hs (h.1 (by rw[← sT];exact hr)),fun j hj=>?_⟩;rw[sT]at hj;have h:=h.2 j hj;have guard:∀{o:Oper} {b:Bool},wg ops o t b→Region.wanted o (yielded ops.toArray a.tmps)=b:=fun hg=>Ho hg fun d _=>⟨F,w,hs.tm d⟩
  obtain⟨fh,o,ho,_⟩:=xL.1 hj;have kA:(az.set j true).toArray=az.toArray.setIfInBounds j true:=by simp
  have aj4:az.toArray.getD j true=false:=by
   rw[iy,AO,← aZ];exact fh
  have ab:left (az.toArray.setIfInBounds j true)≤m:=by have:=DT aj4;omega
  have ri:∀(x:AV) (u:Value) (σ':Hp) (F':Nat→Prop) (w':World),bH F w F' w'→bj F' w' σ'→aB F' w' x u→rj P TT ops Q (m+1) (az.set j true) (put t o.dst x) σ' K→ym P .any ops.toArray (yo Q') m (az.toArray.setIfInBounds j true) (a.put o.dst u) w':=fun x u σ' F' w' q1 q2 q3 hk=>by
   rw[← kA];exact ih _ _ σ' F' w' _ (by rw[kA];exact ab) (by simpa using hlen) hk (hs.put q1 q2 q3 (hd o (List.mem_of_getElem? ho))) (aq.trans q1)
  unfold kd at h;rw[ho]at h;dsimp only at h;unfold o7;rw[show ops.toArray[j]?=some o by simpa using ho];cases hq':fw j Q with
  |true=>
   rw[hq']at h;dsimp only at h
   rcases zo h with ⟨hg,h⟩ | ⟨hg,h⟩
   ·simp only[guard hg,if_true];exact (aag ok h a F w (fun x _=>hs.tm.eval x) hs.hp _ _ fun v u F' w' k1 k2 k3 k4=>ri v u σ F' w' k1 k2 k3 k4)
   ·simp only[guard hg,my,if_false];exact ri (.tup []) undef σ F w (.refl _ _) hs.hp zi h
  |false=>
   rw[hq']at h;dsimp only at h
   rcases zo h with ⟨hg,h⟩ | ⟨hg,h⟩
   ·simp only[guard hg,if_true];refine (LZ ok h a F w (fun x _=>hs.tm.eval x) hs.hp _ _ ?_);intro v av σ' F' w' q1 q2 q3 q4;exact ri av v σ' F' w' q1 q2 q3 q4
   ·simp only[guard hg,my,if_false];exact ri (.tup []) undef σ F w (.refl _ _) hs.hp zi h
theorem Q9(ok:dM P TT)(hm:P.follows .mixedOrders=true){r:Option Nat}{B n id:Nat}{ops:Array Oper}{t:Tm}{σ:Hp}{K:Tm→Hp→Prop}{F:Nat→Prop}{w:World}{a:Act}{Q:Exit→Act→World→Prop}{Q0:List Nat}{s:oP}(h0:IL ops.toList Q0 s=true)(h:wL P TT ops.toList s t σ K)(hd:∀o∈ops.toList,∀d,o.dst=some d→d<n)(cg:∀o∈ops.toList,∀c,o.op≠.defer c)(hs:dx B n F w t σ a)
  (hq:∀t' σ' F' w' a',bH F w F' w'→dx B n F' w' t' σ' a'→K t' σ'→Q .normal a' w'):(Code.region id ops true).wpIn (FW r) 0 P Q a w:=by
 have qc:bH F w F { w with drawn:=w.drawn+1 }:=zg hs.hp.low rfl rfl rfl (aQ _) (fun _ _=>rfl);unfold IL at h0;simp only[bS]at h0;obtain⟨⟨h1,h2⟩,h3⟩:=h0
 have cx:=(aeS (K:=K) h1 (TV ops.toList [] [] rfl rfl (fun k row h=>by cases h)) s _ [] _ t σ h3 (fun j o ho hl=>by
  rw[aZ,vK]at hl
  split at hl <;> cases hl) h).1 rfl
 refine wpIn_mono (LC hm cg ?_) Uo
 have key:=afW (P:=P) (Q':=Q) ok hd (F0:=F) (w0:=w) hq ops.toList.length (List.replicate ops.toList.length false) t σ F { w with drawn:=w.drawn+1 } a (by
   unfold left
   refine Nat.le_trans (List.length_filter_le _ _) (by simp)) (by simp) cx ⟨hs.tm.mono qc,hs.hp.same qc (fun _ _=>rfl),hs.size,hs.defers.mono qc⟩ qc
 simpa using key
end
end Go.Proofs.YtnikdflhefijbaaGreat
