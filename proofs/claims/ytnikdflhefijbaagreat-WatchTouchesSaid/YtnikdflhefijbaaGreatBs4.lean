import Derived.OrdersHeld
import Derived.Test.YtnikdflhefijbaaGreatBs3
namespace Go.Proofs.YtnikdflhefijbaaGreat
open Go.RowKit
section
variable {P:Program} {TT:TypeId→Option TI}
def Gf(P:Program)(ops:List Oper)(σ:Hp)(o:Oper)(t:Tm)(v:AV):Prop:=(uo ops o t true∧KD P o (ev t) σ v)∨(uo ops o t false∧v=.tup [])
def oU:Tm→List Oper→List AV→Nat→Tm
 |t,o::l,v::vs,i+1=>oU (put t o.dst v) l vs i
 |t,_,_,_=>t
theorem QH(ok:dP P TT){ops:List Oper}{σ:Hp}{K:Tm→Prop}:∀(l:List Oper) (t:Tm),GL P TT ops l t σ K→∃dh:List AV,dh.length=l.length∧(∀(i:Nat) (o:Oper) (v:AV),l[i]?=some o→dh[i]?=some v→Gf P ops σ o (oU t l dh i) v)∧K (oU t l dh l.length)
 | [],t,h=>⟨[],rfl,fun i o v h=>by simp at h,h⟩
 |o::l,t,h=>by
  have go:∀v,Gf P ops σ o t v→GL P TT ops l (put t o.dst v) σ K→∃dh:List AV,dh.length=(o::l).length∧(∀(i:Nat) (o':Oper) (v:AV),(o::l)[i]?=some o'→dh[i]?=some v→Gf P ops σ o' (oU t (o::l) dh i) v)∧K (oU t (o::l) dh (o::l).length):=by
   intro v hv hk;obtain⟨dh,h1,h2,h3⟩:=QH ok l _ hk;refine⟨v::dh,by simp[h1],fun i o' v' ho vk=>?_,h3⟩;cases i with
   |zero=>simp at ho vk;subst ho;subst vk;exact hv
   |succ i=>exact h2 i o' v' (by simpa using ho) (by simpa using vk)
  rcases xP h with ⟨hg,h⟩ | ⟨hg,h⟩
  ·obtain⟨v,hk,hl⟩:=PD ok h;exact go v (.inl ⟨hg,hl⟩) hk
  ·exact go (.tup []) (.inr ⟨hg,rfl⟩) h
theorem BK{x:Tmp}:∀(l:List Oper) (dh:List AV) (t:Tm) (i:Nat),(∀j,j<i→∀o,l[j]?=some o→o.dst≠some x)→oU t l dh i x=t x
 | [],_,_,i,_=>by cases i <;> rfl
 |_::_,[],_,i,_=>by cases i <;> rfl
 |o::l,v::dh,t,0,_=>rfl
 |o::l,v::dh,t,i+1,h=>by
  have h0:=h 0 (by omega) o rfl;rw[oU,BK l dh _ i (fun j hj o' ho=>h (j+1) (by omega) o' (by simpa using ho))];cases hd:o.dst with
  |none=>rfl
  |some d=>
   have:Nat.beq x d=false:=by
    cases hb:Nat.beq x d with
    |false=>rfl
    |true=>exact absurd (by rw[hd,ju hb]) h0
   show (match Nat.beq x d with | true=>v | false=>t x)=t x;rw[this]
theorem JN{x:Tmp}{v:AV}{p:Oper}:∀(l:List Oper) (dh:List AV) (t:Tm) (i j:Nat),j<i→l[j]?=some p→p.dst=some x→(∀k,k<i→k≠j→∀o,l[k]?=some o→o.dst≠some x)→dh[j]?=some v→oU t l dh i x=v
 | [],_,_,_,_,_,hp,_,_,_=>by simp at hp
 |_::_,[],_,_,_,_,_,_,_,hv=>by simp at hv
 |_::_,_::_,_,0,_,hj,_,_,_,_=>by omega
 |o::l,u::dh,t,i+1,0,_,hp,hx,hn,hv=>by
  simp at hp hv;subst hp;subst hv;rw[oU,BK l dh _ i (fun k hk o' ho=>hn (k+1) (by omega) (by omega) o' (by simpa using ho))];simp[put,hx]
 |o::l,u::dh,t,i+1,j+1,hj,hp,hx,hn,hv=>
  JN l dh (put t o.dst u) i j (by omega) (by simpa using hp) hx (fun k hk bf o' ho=>hn (k+1) (by omega) (by omega) o' (by simpa using ho)) (by simpa using hv)
structure NG(ops:List Oper):Prop where
 back:∀(i:Nat) (o:Oper),ops[i]?=some o→∀e∈o.after,Region.binds .any e=true→e.on<i
 G2:∀(i j:Nat) (o p:Oper) (d:Tmp),ops[i]?=some o→ops[j]?=some p→p.dst=some d→o.dst=some d→i=j
 look:∀(i j:Nat) (o p:Oper) (d:Tmp),ops[i]?=some o→ops[j]?=some p→p.dst=some d→d∈x8 ops o→i=j∨(j<i∧pK o j=true)∨(i<j∧pK p i=true)
theorem adz{ops:List Oper}(h:Fq ops=true):NG ops:=by
 unfold Fq at h
 have hz:∀(i:Nat) (o:Oper),ops[i]?=some o→(o,i)∈ops.zipIdx:=fun i o ho=>by
  rw[Nd];exact ho
 have bh:=fun (i:Nat) (o:Oper) (ho:ops[i]?=some o)=>fq.1 h (o,i) (hz i o ho);refine⟨fun i o ho e he hb=>?_,fun i j o p d ho hp kq jq=>?_,fun i j o p d ho hp kq hd=>?_⟩
 ·have h1:=bh i o ho;simp only[bS]at h1;have h2:=List.all_eq_true.1 h1.1 e (by simpa using he);simp only[hb,DU,l8]at h2;exact cj h2
 ·have h1:=bh i o ho;simp only[bS]at h1;have h2:=fq.1 h1.2 (p,j) (hz j p hp);simp only[kq,jq,bS,pq,xq,DU]at h2
  rcases h2.1 with h3 | h3
  ·exact ju h3
  ·cases h3
 ·have h1:=bh i o ho;simp only[bS]at h1;have h2:=fq.1 h1.2 (p,j) (hz j p hp);simp only[kq,bS,pq]at h2
  rcases h2.2 with ((h3 | h3) | h3) | h3
  ·exfalso;have:(x8 ops o).any (Nat.beq d)=true:=kr.2 ⟨d,hd,xq d⟩;rw[this]at h3;cases h3
  ·exact .inl (ju h3)
  ·exact .inr (.inl ⟨cj h3.1,h3.2⟩)
  ·exact .inr (.inr ⟨cj h3.1,h3.2⟩)
theorem zf{o:Oper}{j:Nat}(h:pK o j=true):∃e∈o.after,Region.binds .any e=true∧e.on=j:=by
 obtain⟨e,h1,h2⟩:=kr.1 h;simp only[bS]at h2;exact⟨e,by simpa using h1,h2.1,Nat.eq_of_beq_eq_true h2.2⟩
def left(aA:Array Bool):Nat:=(aA.toList.filter (fun b=> !b)).length
theorem PK:∀(l:List Bool) (i:Nat),l[i]?=some false→((l.set i true).filter (fun b=> !b)).length+1=(l.filter (fun b=> !b)).length
 | [],i,h=>by simp at h
 |b::l,0,h=>by simp at h;subst h;simp
 |b::l,i+1,h=>by
  have:=PK l i (by simpa using h);cases b <;> simp at this ⊢ <;> omega
theorem BD{aA:Array Bool}{i:Nat}(h:aA.getD i true=false):left (aA.setIfInBounds i true)+1=left aA:=by
 unfold left;rw[Array.toList_setIfInBounds];refine PK _ i ?_;rw[A3];rw[gR]at h;cases hq:aA[i]? with
 |none=>rw[hq]at h;simp at h
 |some b=>rw[hq]at h;simp at h;rw[h]
theorem I6{aA:Array Bool}(h:left aA=0){i:Nat}:aA.getD i true=true:=by
 cases hb:aA.getD i true with
 |true=>rfl
 |false=>have:=BD hb;omega
structure G6(P:Program)(ops:List Oper)(t0:Tm)(dh:List AV)(σ:Hp)(B n:Nat)(aA:Array Bool)(F:Nat→Prop)(w:World)(a:Act):Prop where
 hp:bA F w σ
 size:n≤a.tmps.size
 defers:Marks B F w a.defers
 KK:aA.size=ops.length
 closed:∀(j:Nat) (o:Oper),ops[j]?=some o→aA.getD j false=true→∀e∈o.after,Region.binds .any e=true→aA.getD e.on false=true
 LV:∀(j:Nat) (o:Oper) (v:AV) (d:Tmp),ops[j]?=some o→o.dst=some d→dh[j]?=some v→aA.getD j false=true→aD F w v (a.tmps.getD d undef)
 out:∀d,(∀(j:Nat) (o:Oper),ops[j]?=some o→o.dst=some d→aA.getD j false=false)→aD F w (t0 d) (a.tmps.getD d undef)
theorem Bc{aA:Array Bool}{i:Nat}(h:aA.getD i true=false):aA.getD i false=false:=by
 rw[gR]at h ⊢;cases hq:aA[i]? with
 |none=>rw[hq]at h;simp at h
 |some b=>rw[hq]at h;simpa using h
theorem Vu{aA:Array Bool}{i:Nat}(hi:i<aA.size)(h:aA.getD i true=true):aA.getD i false=true:=by
 rw[gR]at h ⊢;rw[pA hi]at h ⊢;simpa using h
section
variable {ops:List Oper} {t0:Tm} {dh:List AV} {σ:Hp} {B n:Nat} {aA:Array Bool} {F:Nat→Prop} {w:World} {a:Act}
theorem G6.look(hJ:G6 P ops t0 dh σ B n aA F w a)(ho:NG ops)(yG:dh.length=ops.length){i:Nat}{o:Oper}(hi:ops[i]?=some o)(fJ:aA.getD i true=false)(ql:∀e∈o.after,Region.binds .any e=true→aA.getD e.on false=true){d:Tmp}(hd:d∈x8 ops o):
  aD F w (oU t0 ops dh i d) (a.tmps.getD d undef):=by
 by_cases hw:∃(j:Nat) (p:Oper),ops[j]?=some p∧p.dst=some d
 ·obtain⟨j,p,hp,kq⟩:=hw;have uniq:∀k,k≠j→∀o',ops[k]?=some o'→o'.dst≠some d:=fun k hk o' gd jq=>hk (ho.G2 k j o' p d gd hp kq jq)
  have out:aA.getD j false=false→(i≤j)→aD F w (oU t0 ops dh i d) (a.tmps.getD d undef):=fun hl l4=>by
   rw[BK ops dh t0 i (fun k hk o' gd=>uniq k (by omega) o' gd)];exact hJ.out d fun k o' gd jq=>by rw[ho.G2 k j o' p d gd hp kq jq];exact hl
  rcases ho.look i j o p d hi hp kq hd with e | ⟨h1,h2⟩ | ⟨h1,h2⟩
  ·subst e;exact out (Bc fJ) (bg _)
  ·obtain⟨e,he,hb,rfl⟩:=zf h2;have hl:=ql e he hb;have rj:e.on<ops.length:=(cW.1 hp).1;have hv:dh[e.on]?=some dh[e.on]:=bu (by omega);rw[JN ops dh t0 i e.on h1 hp kq (fun k _ bf=>uniq k bf) hv];exact hJ.LV e.on p _ d hp kq hv hl
  ·obtain⟨e,he,hb,rfl⟩:=zf h2;refine out ?_ (by omega);cases hl:aA.getD j false with
   |false=>rfl
   |true=>
    have:=hJ.closed j p hp hl e he hb;rw[Bc fJ]at this;cases this
 ·rw[BK ops dh t0 i (fun k _ o' gd jq=>hw ⟨k,o',gd,jq⟩)];exact hJ.out d fun j o' gd jq=>absurd ⟨j,o',gd,jq⟩ hw
theorem XW(ho:NG ops)(yG:dh.length=ops.length)(hd:∀o∈ops,∀d,o.dst=some d→d<n)(hf:∀(i:Nat) (o:Oper) (v:AV),ops[i]?=some o→dh[i]?=some v→Gf P ops σ o (oU t0 ops dh i) v){Q:Exit→Act→World→Prop}{F0:Nat→Prop}{w0:World}
  (hq:∀F' w' a',bH F0 w0 F' w'→dC B n F' w' (oU t0 ops dh ops.length) σ a'→Q .normal a' w') :
  ∀(fuel:Nat) (aA:Array Bool) (F:Nat→Prop) (w:World) (a:Act),left aA≤fuel→G6 P ops t0 dh σ B n aA F w a→bH F0 w0 F w→wx P .any ops.toArray Q fuel aA a w:=by
 have fin:∀(aA:Array Bool) (F:Nat→Prop) (w:World) (a:Act),G6 P ops t0 dh σ B n aA F w a→bH F0 w0 F w→Region.ready .any ops.toArray aA=[]→Q .normal a w:=by
  intro aA F w a hJ aq hr
  have all:∀j,j<ops.length→aA.getD j false=true:=by
   intro j
   induction j using Nat.strongRecOn with
   |_ j ih=>
    intro hj;cases hl:aA.getD j true with
    |true=>exact Vu (by rw[hJ.KK];exact hj) hl
    |false=>
     exfalso
     have hm:j∈Region.ready .any ops.toArray aA:=by
      rw[mem_ready];refine⟨hl,ops[j],by simp[hj],fun e he hb=>?_⟩;have:=ho.back j ops[j] (by simp[hj]) e he hb;exact ih _ this (by omega)
     rw[hr]at hm;cases hm
  refine hq F w a aq ⟨fun d=>?_,hJ.hp,hJ.size,hJ.defers⟩
  by_cases hw:∃(j:Nat) (p:Oper),ops[j]?=some p∧p.dst=some d
  ·obtain⟨j,p,hp,kq⟩:=hw;have rj:j<ops.length:=(cW.1 hp).1;have hv:dh[j]?=some dh[j]:=bu (by omega);rw[JN ops dh t0 ops.length j rj hp kq (fun k _ bf o' gd jq=>bf (ho.G2 k j o' p d gd hp kq jq)) hv];exact hJ.LV j p _ d hp kq hv (all j rj)
  ·rw[BK ops dh t0 ops.length (fun k _ o' gd jq=>hw ⟨k,o',gd,jq⟩)];exact hJ.out d fun j o' gd jq=>absurd ⟨j,o',gd,jq⟩ hw
 intro fuel
 induction fuel with
 |zero=>
  intro aA F w a hl hJ aq
  have hr:Region.ready .any ops.toArray aA=[]:=by
   rw[Ia];intro j hj;have:=(mem_ready.1 hj).1;rw[I6 (by omega)]at this;cases this
  exact⟨hr,fin aA F w a hJ aq hr⟩
 |succ fuel ih=>
  intro aA F w a hl hJ aq;refine⟨fin aA F w a hJ aq,fun i hi=>?_⟩;obtain⟨fJ,o,j5,ql⟩:=mem_ready.1 hi;have j5:ops[i]?=some o:=by simpa using j5
  have pg:i<ops.length:=(cW.1 j5).1;have hvi:dh[i]?=some dh[i]:=bu (by omega);have zY:=fun {d:Tmp} (hd:d∈x8 ops o)=>hJ.look ho yG j5 fJ ql hd;have TM:∀{b:Bool},uo ops o (oU t0 ops dh i) b→Region.wanted o (yielded ops.toArray a.tmps)=b:=fun hg=>EM hg fun d ⟨j,want,h1,h2⟩=>⟨F,w,zY (d:=d) (by unfold x8;rw[h1];simp[h2])⟩
  have next:∀(F':Nat→Prop) (w':World) (u:Value),bH F w F' w'→bA F' w' σ→aD F' w' dh[i] u→wx P .any ops.toArray Q fuel (aA.setIfInBounds i true) (a.put o.dst u) w':=by
   intro F' w' u h1 h2 h3;have bf:∀j,j≠i→(aA.setIfInBounds i true).getD j false=aA.getD j false:=fun j hj=>getD_set_ne false (Ne.symm hj);have af5:(aA.setIfInBounds i true).getD i false=true:=by simp[Array.getD,hJ.KK,pg]
   refine ih _ F' w' _ (by have:=BD fJ;omega) ⟨h2,by rw[QC];exact hJ.size,by rw[RQ];exact hJ.defers.mono h1,by simp[hJ.KK],fun j p hp hl e he hb=>?_,fun j p v d hp kq hv hl=>?_,fun d hn=>?_⟩ (aq.trans h1)
   ·refine getD_set_true ?_
    by_cases hj:j=i
    ·subst hj;rw[j5]at hp;cases hp;exact ql e he hb
    ·rw[bf j hj]at hl;exact hJ.closed j p hp hl e he hb
   ·by_cases hj:j=i
    ·subst hj;rw[j5]at hp;cases hp;rw[hvi]at hv;cases hv;have cu:d<a.tmps.size:=tN (hd o (dz j5) d kq) hJ.size;rw[kq];simpa [Act.put,Array.getD,cu]using h3
    ·rw[bf j hj]at hl;have h4:=(hJ.LV j p v d hp kq hv hl).mono h1;have cm:o.dst≠some d:=fun jq=>hj (ho.G2 j i p o d hp j5 jq kq);cases jq:o.dst with
     |none=>exact h4
     |some d'=>
      have vt:d'≠d:=fun e=>cm (by rw[jq,e]);show aD F' w' v ((a.tmps.setIfInBounds d' u).getD d undef);rw[gR]at h4 ⊢;rw[Ib vt];exact h4
   ·have cm:o.dst≠some d:=fun jq=>by
     have:=hn i o j5 jq;rw[af5]at this;cases this
    have h4:=(hJ.out d fun j p hp kq=>by
     by_cases hj:j=i
     ·subst hj;rw[j5]at hp;cases hp;exact absurd kq cm
     ·rw[← bf j hj];exact hn j p hp kq).mono h1
    cases jq:o.dst with
    |none=>exact h4
    |some d'=>
     have vt:d'≠d:=fun e=>cm (by rw[jq,e]);show aD F' w' (t0 d) ((a.tmps.setIfInBounds d' u).getD d undef);rw[gR]at h4 ⊢;rw[Ib vt];exact h4
  unfold nL;rw[show ops.toArray[i]?=some o by simpa using j5]
  rcases hf i o dh[i] j5 hvi with ⟨hg,hl⟩ | ⟨hg,hv⟩
  ·simp only[TM hg,if_true];refine (hl a F w (fun x hx=>Rf x fun d e=>?_) hJ.hp _ Q (fun u F' w' k1 k2 k3=>next F' w' u k1 k2 k3));subst e;exact zY (by unfold x8;exact gg _ (List.mem_filterMap.2 ⟨.tmp d,hx,rfl⟩))
  ·simp only[TM hg,vJ,if_false];exact next F w undef (.refl _ _) hJ.hp (by rw[hv];exact xL)
end
theorem VO(ok:dP P TT)(hm:P.follows .mixedOrders=true){r:Option Nat}{B n id:Nat}{ops:Array Oper}{t:Tm}{σ:Hp}{K:Tm→Prop}{F:Nat→Prop}{w:World}{a:Act}{Q:Exit→Act→World→Prop}(h0:Fq ops.toList=true)(h:GL P TT ops.toList ops.toList t σ K)(hd:∀o∈ops.toList,∀d,o.dst=some d→d<n)(cm:∀o∈ops.toList,∀c,o.op≠.defer c)(hs:dC B n F w t σ a)
  (hq:∀t' F' w' a',bH F w F' w'→dC B n F' w' t' σ a'→K t'→Q .normal a' w'):(Code.region id ops true).wpIn (FW r) 0 P Q a w:=by
 obtain⟨dh,h1,h2,h3⟩:=QH ok _ _ h;have oO:bH F w F { w with drawn:=w.drawn+1 }:=xJ hs.hp.low rfl rfl rfl (bg _) (fun _ _=>rfl);refine II hm cm ?_
 have key:=XW (P:=P) (Q:=Q) (t0:=t) (B:=B) (n:=n) (adz h0) h1 hd h2 (F0:=F) (w0:=w) (fun F' w' a' k1 k2=>hq _ F' w' a' k1 k2 h3) ops.size (Array.replicate ops.size false) F { w with drawn:=w.drawn+1 } a (by
   unfold left
   refine Nat.le_trans (List.length_filter_le _ _) (by simp)) ⟨hs.hp.same oO (fun _ _=>rfl),hs.size,hs.defers.mono oO,by simp,fun j o ho hl=>?_,fun j o v d ho jq hv hl=>?_,fun d _=>(hs.tm d).mono oO⟩ oO
 ·simpa using key
 ·by_cases hj:j<ops.size <;> simp[Array.getD,hj]at hl
 ·by_cases hj:j<ops.size <;> simp[Array.getD,hj]at hl
end
section
variable {P:Program} {TT:TypeId→Option TI}
def wA(Q:Exit→Act→World→Prop):Exit→Act→World→Prop
 |.panic _,_,_=>False
 |e,a,w=>Q e a w
theorem QR{Q:Exit→Act→World→Prop}:∀(e:Exit) (a:Act) (w:World),wA Q e a w→Q e a w:=fun e a w h=>by
 cases e <;> first | exact h | exact (h:False).elim
theorem rL(ops:List Oper)(aA:List Bool):Region.ready .any ops.toArray aA.toArray=iN ops aA:=by
 unfold Region.ready iN;simp only[pr];apply List.filter_congr;intro i hi;have hi:=gP.1 hi;have e:∀d,aA.toArray.getD i d=aA.getD i d:=fun d=>by simp[Array.getD_eq_getD_getElem?,List.getD_eq_getElem?_getD]
 rw[e]
 congr 1
 simp only[y5,bu hi,HP,D4];rw[← Array.all_toList]
 congr 1
 funext x
 simp[Array.getD_eq_getD_getElem?,List.getD_eq_getElem?_getD]
theorem Jg{ops:List Oper}(h:rN ops=true):Region.noSelect ops.toArray=true∧∀(i j:Nat) (o p:Oper),ops[i]?=some o→ops[j]?=some p→i=j∨pK o j=true∨pK p i=true∨o.apart ops.toArray p=true:=by
 unfold rN at h
 have hz:∀(i:Nat) (o:Oper),ops[i]?=some o→(o,i)∈ops.zipIdx:=fun i o ho=>by
  rw[Nd];exact ho
 refine⟨?_,fun i j o p hi hj=>?_⟩
 ·unfold Region.noSelect;rw[← Array.all_toList];refine fq.2 fun o ho=>?_;obtain⟨i,hi⟩:=yZ.1 ho;have:=List.all_eq_true.1 h (o,i) (hz i o (by simpa using hi));simp only[bS]at this;exact this.1
 ·have:=fq.1 h (o,i) (hz i o hi);simp only[bS]at this;have:=fq.1 this.2 (p,j) (hz j p hj);simp only[pq]at this
  rcases this with ((h | h) | h) | h
  ·exact .inl (ju h)
  ·exact .inr (.inl h)
  ·exact .inr (.inr (.inl h))
  ·exact .inr (.inr (.inr h))
def Still(ops:List Oper)(i:Nat):Prop:=∀o,ops[i]?=some o→nU o.op=false
def rO(P:Program)(ops:List Oper)(Q:Exit→Act→World→Prop):Nat→Array Bool→Act→World→Prop
 | 0,aA,a,w=>Region.ready .any ops.toArray aA=[]∧Q .normal a w
 |fuel+1,aA,a,w=>(Region.ready .any ops.toArray aA=[]→Q .normal a w)∧
  ∀i∈Region.ready .any ops.toArray aA,nL P ops.toArray Q i (fun a' w'=>(Still ops i→w'=w)∧rO P ops Q fuel (aA.setIfInBounds i true) a' w') a w
theorem Oq{ops:List Oper}{Q:Exit→Act→World→Prop}:∀(fuel:Nat) (aA:Array Bool) (a:Act) (w:World),rO P ops Q fuel aA a w→wx P .any ops.toArray Q fuel aA a w
 | 0,_,_,_,h=>h
 |fuel+1,_,_,_,h=>⟨h.1,fun i hi=>IT (fun a' w' h'=>Oq fuel _ a' w' h'.2) (h.2 i hi)⟩
def Cg(ops:List Oper)(aA:Array Bool):Prop:=∀(j:Nat) (o:Oper),ops[j]?=some o→aA.getD j false=true→∀e∈o.after,Region.binds .any e=true→aA.getD e.on false=true
theorem Cg.set{ops:List Oper}{aA:Array Bool}(h:Cg ops aA){j:Nat}{o:Oper}(ho:ops[j]?=some o)(hr:∀e∈o.after,Region.binds .any e=true→aA.getD e.on false=true):Cg ops (aA.setIfInBounds j true):=by
 intro k p hp hk e he hb
 by_cases ri:k=j
 ·subst ri;rw[ho]at hp;cases hp;exact getD_set_true (hr e he hb)
 ·rw[getD_set_ne false (Ne.symm ri)]at hk;exact getD_set_true (h k p hp hk e he hb)
theorem Vq{ops:List Oper}{Q:Exit→Act→World→Prop}(h0:rN ops=true){S:World→Prop}{i:Nat}{oi:Oper}{v:Value}(hi:ops[i]?=some oi):
  ∀(fuel:Nat) (aA:Array Bool) (a:Act) (w:World),aA.size=ops.length→Cg ops aA→(∀e∈oi.after,Region.binds .any e=true→aA.getD e.on false=true)→i∈Region.ready .any ops.toArray aA→YieldsIf P ops.toArray S oi v a→S w→((∀w,S w)∨∀(j:Nat) (o:Oper),ops[j]?=some o→nU o.op=true→aA.getD j false=false→pK o i=true)→
   rO P ops Q fuel (aA.setIfInBounds i true) (a.put oi.dst v) w→rO P ops Q (fuel+1) aA a w:=by
 have kS:ops.toArray[i]?=some oi:=by simpa using hi
 have now:∀(fuel:Nat) (aA:Array Bool) (a:Act) (w:World),YieldsIf P ops.toArray S oi v a→S w→rO P ops Q fuel (aA.setIfInBounds i true) (a.put oi.dst v) w→nL P ops.toArray Q i (fun a' w'=>(Still ops i→w'=w)∧rO P ops Q fuel (aA.setIfInBounds i true) a' w') a w:=
  fun fuel aA a w hy xh H=>Vz kS hy xh ⟨fun _=>rfl,H⟩
 intro fuel
 induction fuel with
 |zero=>
  intro aA a w dG hc ql hr hy xh DG H;refine⟨fun h=>(by rw[h]at hr;cases hr),fun j hj=>?_⟩
  by_cases rn:j=i
  ·subst rn;exact now 0 aA a w hy xh H
  ·have:=ready_mono hj rn;rw[H.1]at this;cases this
 |succ fuel ih=>
  intro aA a w dG hc ql hr hy xh DG H;refine⟨fun h=>(by rw[h]at hr;cases hr),fun j hj=>?_⟩
  by_cases rn:j=i
  ·subst rn;exact now (fuel+1) aA a w hy xh H
  ·have h1:=H.2 j (ready_mono hj rn);obtain⟨UC,oj,Mf,bh⟩:=mem_ready.1 hj;have agt:=(mem_ready.1 hr).1
   have Uy:¬(pK oj i=true):=fun hb=>by
    obtain⟨e,he,yS,e1⟩:=zf hb;have:=bh e he yS;rw[e1,Bc agt]at this;cases this
   have CR:ops[j]?=some oj:=by simpa using Mf
   have vB:oi.apart ops.toArray oj=true:=by
    rcases (Jg h0).2 i j oi oj hi CR with e | e | e | e
    ·exact absurd e.symm rn
    ·obtain⟨ed,he,yS,e1⟩:=zf e;have:=ql ed he yS;rw[e1,Bc UC]at this;cases this
    ·exact absurd e Uy
    ·exact e
   have Uq:=Region.noSelect_spec (Jg h0).1;have h2:=XB Mf vB (fun cs b=>Uq i oi cs b kS) (fun cs b=>Uq j oj cs b Mf) hy h1;have afb:(aA.setIfInBounds i true).setIfInBounds j true=(aA.setIfInBounds j true).setIfInBounds i true:=by rw[Array.setIfInBounds_comm _ _ (Ne.symm rn)]
   refine IT (fun a' w' h3=>?_) h2;obtain⟨hy',hC',H'⟩:=h3
   have agC:S w':=by
    rcases DG with hS | Dk
    ·exact hS w'
    ·cases he:nU oj.op with
     |true=>exact absurd (Dk j oj CR he (Bc UC)) Uy
     |false=>rw[hC' (fun o ho=>by rw[CR]at ho;cases ho;exact he)];exact xh
   refine⟨hC',ih (aA.setIfInBounds j true) a' w' (by simpa using dG) (hc.set CR bh) (fun e he hb=>getD_set_true (ql e he hb)) (ready_mono hr (Ne.symm rn)) hy' agC ?_ ?_⟩
   ·rcases DG with hS | Dk
    ·exact .inl hS
    ·refine .inr fun k o ho he hk=>?_
     by_cases ri:k=j
     ·subst ri;have rj:k<aA.size:=by rw[dG];exact (cW.1 CR).1
      simp[Array.getD,rj]at hk
     ·rw[getD_set_ne false (Ne.symm ri)]at hk;exact Dk k o ho he hk
   ·rw[← afb];exact H'
theorem P5{o:Op}(h:blind o=true){ρ:Operand→AV}{σ:Hp}{K:AV→Hp→Prop}(hw:gM P TT o ρ σ K):fB P TT o ρ σ (fun v=>K v σ)∧Kt o=true:=by
 unfold blind at h;split at h <;> first | exact⟨hw,rfl⟩ | cases h
theorem Rl{f:Nat→Prop}:∀{l:List Nat},LA f l→∀i∈l,f i
 | [],_,i,h=>by cases h
 | [x],h,i,hi=>by simp at hi;subst hi;exact h
 |x::y::r,h,i,hi=>by
  rcases dW.1 hi with rfl | hi
  ·exact h.1
  ·exact Rl (l:=y::r) h.2 i hi
theorem ON{o:Op}(h:nU o=false){ρ:Operand→AV}{σ:Hp}{K:AV→Hp→Prop}(hw:gM P TT o ρ σ K):fB P TT o ρ σ (fun v=>K v σ):=by
 unfold nU at h;simp only[HT,pq]at h
 rcases h with h | h
 ·exact (P5 h hw).1
 ·cases o <;> first | exact hw | cases h
theorem aai(ok:dP P TT){B n:Nat}{ops:List Oper}(h0:rN ops=true)(hd:∀o∈ops,∀d,o.dst=some d→d<n){K:Tm→Hp→Prop}{Q:Exit→Act→World→Prop}{F0:Nat→Prop}{w0:World}(hq:∀t' σ' F' w' a',bH F0 w0 F' w'→dC B n F' w' t' σ' a'→K t' σ'→Q .normal a' w'):
  ∀(m:Nat) (aA:List Bool) (t:Tm) (σ:Hp) (F:Nat→Prop) (w:World) (a:Act),left aA.toArray≤m→aA.length=ops.length→uT P TT ops (m+1) aA t σ K→dC B n F w t σ a→bH F0 w0 F w→Cg ops aA.toArray→rO P ops (wA Q) m aA.toArray a w:=by
 intro m
 induction m with
 |zero=>
  intro aA t σ F w a hl hlen h hs aq hC
  have hr:iN ops aA=[]:=by
   rw[← rL,Ia];intro j hj;have:=(mem_ready.1 hj).1;rw[I6 (by omega)]at this;cases this
  rw[P8]at h;rw[hr]at h;exact⟨by rw[rL];exact hr,hq t σ F w a aq hs h⟩
 |succ m ih=>
  intro aA t σ F w a hl hlen h hs aq hC;rw[P8]at h;split at h
  ·rename_i hr
   refine⟨fun _=>hq t σ F w a aq hs h,fun i hi=>?_⟩;rw[rL,hr]at hi;cases hi
  ·rename_i i0 r0 hr
   have guard:∀{o:Oper} {b:Bool},uo ops o t b→Region.wanted o (yielded ops.toArray a.tmps)=b:=fun hg=>EM hg fun d _=>⟨F,w,hs.tm d⟩
   have mem:∀j,j∈iN ops aA→∃o,ops[j]?=some o∧aA.toArray.getD j true=false∧∀e∈o.after,Region.binds .any e=true→aA.toArray.getD e.on false=true:=fun j hj=>by
    rw[← rL]at hj;obtain⟨h1,o,h2,h3⟩:=mem_ready.1 hj;exact⟨o,by simpa using h2,h1,h3⟩
   have iV:∀j,(aA.set j true).toArray=aA.toArray.setIfInBounds j true:=fun j=>by simp
   split at h
   ·rename_i j hj
    have Mn:=List.mem_of_find?_eq_some hj;have AH:=List.find?_some hj;rw[← hr]at Mn;obtain⟨o,ho,fJ,ql⟩:=mem j Mn;unfold Km at AH;rw[ho]at AH;have ab:left (aA.toArray.setIfInBounds j true)≤m:=by have:=BD fJ;omega
    unfold Ag at h;rw[ho]at h
    have bf:nU o.op=false:=by
     unfold nU;simp only[pq,bS]at AH
     rcases AH with hb | hb
     ·simp[hb]
     ·simp[hb.1]
    have hjr:j∈Region.ready .any ops.toArray aA.toArray:=by rw[rL];exact Mn
    have take:∀(S:World→Prop) v,((∀w,S w)∨∀(k:Nat) (o:Oper),ops[k]?=some o→nU o.op=true→aA.toArray.getD k false=false→pK o j=true)→S w→YieldsIf P ops.toArray S o v a→rO P ops (wA Q) m (aA.toArray.setIfInBounds j true) (a.put o.dst v) w→rO P ops (wA Q) (m+1) aA.toArray a w:=fun S v DG xh hy hk=>
     Vq h0 ho m aA.toArray a w (by simpa using hlen) hC ql hjr hy xh DG hk
    have pX:∀(x:AV) (u:Value),aD F w x u→uT P TT ops (m+1) (aA.set j true) (put t o.dst x) σ K→rO P ops (wA Q) m (aA.toArray.setIfInBounds j true) (a.put o.dst u) w:=fun x u hx hk=>by
     rw[← iV];exact ih _ _ σ F w _ (by rw[iV];exact ab) (by simpa using hlen) hk (hs.put (.refl _ _) hs.hp hx (hd o (List.mem_of_getElem? ho))) aq (by rw[iV];exact hC.set ho ql)
    rcases xP h with ⟨hg,h⟩ | ⟨hg,h⟩
    ·simp only[pq,bS]at AH
     rcases AH with hb | ⟨hb,Dk⟩
     ·obtain⟨h1,h2⟩:=P5 hb h;obtain⟨v,k1,k2⟩:=PF ok h2 h1;obtain⟨u,r1,r2⟩:=k2 a.eval F w o rfl (fun x _=>hs.tm.eval x);exact take (fun _=>True) u (.inl fun _=>trivial) trivial (.inl ⟨guard hg,fun w' _=>r1 w'⟩) (pX v u r2 k1)
     ·obtain⟨v,k1,k2⟩:=ER ok (ON bf h);obtain⟨u,r1,r2⟩:=k2 a.eval F w o rfl (fun x _=>hs.tm.eval x) hs.hp;refine take (fun x=>x=w) u (.inr fun k p hp hk hl=>?_) rfl (.inl ⟨guard hg,fun w' e=>by subst e;exact r1⟩) (pX v u r2 k1);have:=fq.1 Dk (p,k) (by rw[Nd];exact hp)
      have Mk:aA.getD k false=false:=by
       rw[gR,y5,← bK]at hl;exact hl
      simpa only [hk,Mk,DU,l8]using this
    ·exact take (fun _=>True) undef (.inl fun _=>trivial) trivial (.inr ⟨guard hg,rfl⟩) (pX (.tup []) undef xL h)
   ·refine⟨fun h1=>absurd h1 (by rw[rL,hr];simp),fun j hj=>?_⟩;rw[rL]at hj;obtain⟨o,ho,fJ,ql⟩:=mem j hj;have h:=Rl h j (by rw[← hr];exact hj);have pg:j<ops.length:=(cW.1 ho).1;have ab:left (aA.toArray.setIfInBounds j true)≤m:=by have:=BD fJ;omega
    unfold Ag at h;rw[ho]at h;unfold nL;rw[show ops.toArray[j]?=some o by simpa using ho]
    have pX:∀(x:AV) (u:Value) (σ':Hp) (F':Nat→Prop) (w':World),bH F w F' w'→bA F' w' σ'→aD F' w' x u→(Still ops j→w'=w)→uT P TT ops (m+1) (aA.set j true) (put t o.dst x) σ' K→(Still ops j→w'=w)∧rO P ops (wA Q) m (aA.toArray.setIfInBounds j true) (a.put o.dst u) w':=fun x u σ' F' w' q1 q2 q3 q4 hk=>by
     refine⟨q4,?_⟩;rw[← iV];exact ih _ _ σ' F' w' _ (by rw[iV];exact ab) (by simpa using hlen) hk (hs.put q1 q2 q3 (hd o (List.mem_of_getElem? ho))) (aq.trans q1) (by rw[iV];exact hC.set ho ql)
    cases he:nU o.op with
    |true=>
     have vac:Still ops j→False:=fun hn=>by
      have:=hn o ho;rw[he]at this;cases this
     rcases xP h with ⟨hg,h⟩ | ⟨hg,h⟩
     ·simp only[guard hg,if_true];refine (IZ ok h a F w (fun x _=>hs.tm.eval x) hs.hp _ _ ?_);intro v av σ' F' w' q1 q2 q3 q4;exact pX av v σ' F' w' q1 q2 q3 (fun hn=>(vac hn).elim) q4
     ·simp only[guard hg,vJ,if_false];exact⟨fun _=>trivial,(pX (.tup []) undef σ F w (.refl _ _) hs.hp xL (fun _=>rfl) h).2⟩
    |false=>
     rcases xP h with ⟨hg,h⟩ | ⟨hg,h⟩
     ·simp only[guard hg,if_true];obtain⟨v,k1,k2⟩:=ER ok (ON he h);obtain⟨u,r1,r2⟩:=k2 a.eval F w o rfl (fun x _=>hs.tm.eval x) hs.hp;unfold wq;rw[r1];exact pX v u σ F w (.refl _ _) hs.hp r2 (fun _=>rfl) k1
     ·simp only[guard hg,vJ,if_false];exact⟨fun _=>trivial,(pX (.tup []) undef σ F w (.refl _ _) hs.hp xL (fun _=>rfl) h).2⟩
theorem OX(ok:dP P TT)(hm:P.follows .mixedOrders=true){r:Option Nat}{B n id:Nat}{ops:Array Oper}{t:Tm}{σ:Hp}{K:Tm→Hp→Prop}{F:Nat→Prop}{w:World}{a:Act}{Q:Exit→Act→World→Prop}(h0:rN ops.toList=true)(h:uT P TT ops.toList (ops.toList.length+1) (List.replicate ops.toList.length false) t σ K)(hd:∀o∈ops.toList,∀d,o.dst=some d→d<n)(cm:∀o∈ops.toList,∀c,o.op≠.defer c)(hs:dC B n F w t σ a)
  (hq:∀t' σ' F' w' a',bH F w F' w'→dC B n F' w' t' σ' a'→K t' σ'→Q .normal a' w'):(Code.region id ops true).wpIn (FW r) 0 P Q a w:=by
 have oO:bH F w F { w with drawn:=w.drawn+1 }:=xJ hs.hp.low rfl rfl rfl (bg _) (fun _ _=>rfl);refine wpIn_mono (II hm cm ?_) QR
 have key:=aai (P:=P) (Q:=Q) ok h0 hd (F0:=F) (w0:=w) hq ops.toList.length (List.replicate ops.toList.length false) t σ F { w with drawn:=w.drawn+1 } a (by
   unfold left
   refine Nat.le_trans (List.length_filter_le _ _) (by simp)) (by simp) h ⟨hs.tm.mono oO,hs.hp.same oO (fun _ _=>rfl),hs.size,hs.defers.mono oO⟩ oO (fun j o ho hl=>by
    simp[Array.getD]at hl)
 simpa using Oq _ _ _ _ key
end
section
variable {P:Program} {TT:TypeId→Option TI}
def One(X:(AV→Prop)→Prop):Prop:=∀K,X K→∃v,K v∧∀K':AV→Prop,K' v→X K'
theorem fM{v:AV}:One (fun K=>K v):=fun _ h=>⟨v,h,fun _ h=>h⟩
theorem db:One (fun _=>False):=fun _ h=>h.elim
theorem qD{p:Prop}{X:(AV→Prop)→Prop}(h:One X):One (fun K=>aF p (X K)):=fun K ⟨hp,h1⟩=>by
 obtain⟨v,h2,h3⟩:=h K h1;exact⟨v,h2,fun K' hk=>⟨hp,h3 K' hk⟩⟩
theorem EI{v:AV}:One (fun K=>strict v K):=fun K h=>⟨v,(xR v K)▸h,fun K' h=>by show strict v K';rw[xR];exact h⟩
theorem abP{α:Type}{l:List α}{n:Int}{f:α→AV}:One (fun K=>aY l n fun d=>K (f d)):=fun _ ⟨x,h0,h1,go⟩=>⟨f x,go,fun _ h=>⟨x,h0,h1,h⟩⟩
theorem Fv{b:Bool}:One (fun K=>nX b K):=fun K h=>⟨.bool b,by cases b <;> exact h,fun K' h=>by cases b <;> exact h⟩
theorem QI{t:TypeId}{xs ys:List AV}{f:Bool→Bool}:One (fun K=>EqAt P TT t xs ys fun b=>nX (f b) K):=fun K ⟨h1,h2,go⟩=>by
 obtain⟨v,k1,k2⟩:=Fv K go;exact⟨v,k1,fun K' h=>⟨h1,h2,k2 K' h⟩⟩
theorem X8{t:TypeId}{m:String}{x:AV}{X:(AV→Prop)→Prop}(h:One X):One (fun K=>eY P t m x (X K)):=fun K ⟨hp,h1⟩=>by
 obtain⟨v,h2,h3⟩:=h K h1;exact⟨v,h2,fun K' hk=>⟨hp,h3 K' hk⟩⟩
theorem X6(k:TK)(want:Bool)(x y:AV):One (zT k want x y):=by
 intro K h;unfold zT at h;split at h
 all_goals first | exact⟨_,h,fun _ h=>h⟩ | exact h.elim | exact qD fM K h
theorem abO(op:BinOp)(k:IntKind)(a b:Int):One (GO op k a b):=by
 cases op <;> first | exact Fv | exact qD fM | exact fM | exact db
theorem X5(op:BinOp)(k:IntKind)(a b:Int):One (FR op k a b):=by
 cases op <;> first | exact qD fM | exact db
theorem Bw{b:Bool}{X Y:(AV→Prop)→Prop}(h1:One X)(h2:One Y):One (fun K=>match b with | true=>X K | false=>Y K):=by cases b;exact h2;exact h1
set_option maxHeartbeats 1000000 in
theorem abR(op:BinOp)(t:TypeId)(y0:Operand)(x y:AV):One (C0 TT op t y0 x y):=by
 unfold C0;cases x <;> cases y
 case int.int k a k' b=>cases op <;> first | exact X5 _ _ _ _ | exact Bw (abO _ _ _ _) db
 case bool.bool a b=>
  rcases TT t with _ | ⟨k,s,qz,z⟩
  ·exact db
  ·cases k <;> cases op <;> first | exact Fv | exact db
 case str.str a b=>cases op <;> first | exact Fv | exact db
 all_goals
  cases hc:RW y0 <;> cases ht:TT t <;> cases op <;> first | exact db | exact X6 _ _ _ _
theorem ZU(op:BinOp)(t:TypeId)(y0:Operand)(x y:AV):One (C1 P TT op t y0 x y):=by
 unfold C1;split
 ·cases op <;> first | exact QI (f:=fun b=>b) | exact QI (f:=fun b=> !b) | exact db
 ·cases op <;> first | exact qD fM | exact db
 ·exact abR _ _ _ _ _
theorem adJ(op:UnOp)(x:AV):One (C9 op x):=by
 unfold C9;split <;> first | exact fM | exact db
theorem ZT(s d:TypeId)(x:AV):One (Cv TT s d x):=by
 unfold Cv;split <;> first | exact fM | exact qD fM | exact db
theorem X4(t:TypeId)(x:AV)(lo hi mx:Option AV):One (zE TT t x lo hi mx):=by
 unfold zE;split
 ·split
  ·split <;> first | exact qD fM | exact db
  ·split <;> first | exact qD fM | exact db
  ·split <;> first | exact qD fM | exact db
  ·exact db
 ·split
  ·split <;> first | exact qD fM | exact db
  ·exact db
 ·exact db
theorem ZR(t:TypeId)(x ix:AV):One (Bl TT t x ix):=by
 unfold Bl;split
 ·split <;> first | exact qD abP | exact qD fM | exact db
 ·split <;> first | exact qD fM | exact db
 ·exact db
theorem Ve(s:TypeId)(x:AV)(f:Nat):One (Bo TT s x f):=by
 unfold Bo;split
 ·split
  ·split
   ·split <;> first | exact fM | exact db
   ·exact db
  ·exact db
 ·exact db
theorem X7(s:TypeId)(x:AV)(f:Nat):One (Ca TT s x f):=by
 unfold Ca;split
 ·split
  ·split
   ·split <;> first | exact fM | exact db
   ·exact db
  ·exact db
 ·exact db
theorem abN(k:TK)(x:AV):One (CK k x):=by
 unfold CK;split <;> first | exact fM | exact db
theorem abQ(k:TK)(x:AV):One (CZ k x):=by
 unfold CZ;split <;> first | exact fM | exact db
theorem abL(xs:List AV):One (CH xs):=by
 unfold CH;split
 ·exact Bw fM db
 ·exact db
theorem abM(xs:List AV):One (CI xs):=by
 unfold CI;split
 ·exact Bw fM db
 ·exact db
theorem ZS(x y:AV):One (Cu x y):=by
 unfold Cu;split <;> first | exact fM | exact db
theorem ZO(x:AV):One (Ci x):=by
 unfold Ci;split <;> first | exact fM | exact db
theorem ZQ(x:AV):One (Cj x):=by
 unfold Cj;split <;> first | exact fM | exact db
theorem ZP(i:TI)(a:AV)(σ:Hp):One (pQ i a σ):=by
 unfold pQ;split
 ·split <;> first | exact fM | exact db
 ·exact fun K ⟨j,cs,v,h1,h2,go⟩=>⟨v,go,fun K' h=>⟨j,cs,v,h1,h2,h⟩⟩
 ·exact db
theorem WO(t:TypeId)(m k:AV)(c:Bool)(σ:Hp):One (BQ TT t m k c σ):=by
 unfold BQ;split
 ·intro K ⟨j,b,l,hm,h1,go⟩;cases c with
  |true=>exact⟨_,go,fun K' h=>⟨j,b,l,hm,h1,h⟩⟩
  |false=>exact⟨_,go,fun K' h=>⟨j,b,l,hm,h1,h⟩⟩
 ·exact db
theorem Fu(o:Op)(ρ:Operand→AV)(σ:Hp):One (fB P TT o ρ σ):=by
 unfold fB;split
 ·exact EI
 ·exact EI
 ·split
  ·exact Bw EI EI
  ·exact db
 ·split <;> first | exact fM | exact db
 ·split <;> first | exact ZP _ _ _ | exact db
 ·split <;> first | exact fM | exact X8 fM | exact db
 ·exact ZU _ _ _ _ _
 ·exact adJ _ _
 ·exact ZT _ _ _
 ·split <;> first | exact fM | exact db
 ·exact fM
 ·exact X4 _ _ _ _ _
 ·exact Ve _ _ _
 ·exact X7 _ _ _
 ·exact ZR _ _ _
 ·split <;> first | exact Bw fM fM | exact fM | exact db
 ·exact WO _ _ _ _ _
 ·split
  ·split <;> first | exact fM | exact db
  ·exact db
 ·split
  ·split <;> first | exact abN _ _ | exact db
  ·exact db
 ·split <;> first | exact abL _ | exact db
 ·split <;> first | exact abM _ | exact db
 ·split <;> first | exact ZS _ _ | exact db
 ·split <;> first | exact ZO _ | exact db
 ·split <;> first | exact ZQ _ | exact db
 ·split
  ·split <;> first | exact abQ _ _ | exact db
  ·exact db
 ·exact db
theorem Xn{o:Op}(hb:blind o=true){ρ:Operand→AV}{σ σ':Hp}{K:AV→Prop}(h:fB P TT o ρ σ K):fB P TT o ρ σ' K:=by
 cases o <;> first | exact h | cases hb | (rename_i c;obtain⟨f,args,cS⟩:=c;cases f <;> first | cases hb | (rename_i b;cases b <;> first | exact h | cases hb))
theorem VR(c:Call)(ρ:Operand→AV)(σ:Hp):One (fun K=>pI P c ρ (fun f xs=>tc P f xs σ K) (fun _ _=>False)):=by
 have TG:∀(f:FuncId) (xs:List AV),One (tc P f xs σ):=fun f xs K h=>by
  cases h with
  |mk js r call go=>exact⟨r,go,fun K' h=>.mk js r call h⟩
  |perm hp r call go=>exact⟨r,go,fun K' h=>.perm hp r call h⟩
 unfold pI;split
 ·split <;> first | exact TG _ _ | exact db
 ·split
  ·exact fun K ⟨g,u,h,go⟩=>(TG _ _ K go).imp fun v hv=>⟨hv.1,fun K' hk=>⟨g,u,h,hv.2 K' hk⟩⟩
  ·exact db
 ·exact db
theorem RX(o:Op)(ρ:Operand→AV)(σ:Hp):One (uY P TT o ρ σ):=by
 unfold uY;split
 ·exact Fu _ _ _
 ·exact VR _ _ _
 ·exact Fu _ _ _
theorem Wo{l:Nat}{K K':AV→Hp→Prop}(hk:∀v σ,K v σ→K' v σ){xs:List AV}{σ:Hp}(h:wj P l K xs σ):wj P l K' xs σ:=by
 cases h with
 |mk js R call go=>exact .mk js R call fun r σ' hr=>hk _ _ (go r σ' hr)
 |perm R hp call go=>exact .perm R hp call fun r σ' hr=>(go r σ' hr).imp fun ee h=>⟨h.1,hk _ _ h.2⟩
theorem Wa{c:Call}{ρ:Operand→AV}{A B:FuncId→List AV→Prop}{Y Z:Nat→List AV→Prop}(xg:∀f xs,A f xs→B f xs)(hyz:∀l xs,Y l xs→Z l xs)(h:pI P c ρ A Y):pI P c ρ B Z:=by
 unfold pI at h ⊢;split at h
 ·split at h
  ·exact xg _ _ h
  ·exact hyz _ _ h
  ·exact h.elim
 ·split at h
  ·obtain⟨g,u,h1,h2⟩:=h;exact⟨g,u,h1,xg _ _ h2⟩
  ·exact h.elim
 ·exact h.elim
theorem YK{f:FuncId}{K K':AV→Hp→Prop}(hk:∀v σ,K v σ→K' v σ){xs:List AV}{σ:Hp}(h:CallAt P f K xs σ):CallAt P f K' xs σ:=by
 induction h with
 |mk js R call go=>exact .mk js R call fun r σ' hr=>hk _ _ (go r σ' hr)
 |perm R hp call go=>exact .perm R hp call fun r σ' hr=>(go r σ' hr).imp fun ee h=>⟨h.1,hk _ _ h.2⟩
 |cb j b off len es cs e l h1 h2 h3 h4 h ih=>exact .cb j b off len es cs e l h1 h2 h3 h4 ih
 |jZ j b off len es cs e l h1 h2 h3 i k b' cs' hi hk h ih=>exact .jZ j b off len es cs e l h1 h2 h3 i k b' cs' hi hk ih
theorem YR{i:TI}{σ:Hp}{s x:AV}{K K':AV→Hp→Prop}(hk:∀v σ,K v σ→K' v σ)(h:AppendAt i σ s x K):AppendAt i σ s x K':=by
 cases h with
 |fresh n new hs hx hn hb h0 go same=>exact .fresh n new hs hx hn hb h0 (fun h b=>hk _ _ (go h b)) (fun h=>hk _ _ (same h))
 |more j b len n cs new hs h1 h2 hx hn hb h0 go=>exact .more j b len n cs new hs h1 h2 hx hn hb h0 (fun b=>hk _ _ (go b))
 |zU j b off len n cs new hs h1 h2 hx hn hb h0 wP go=>exact .zU j b off len n cs new hs h1 h2 hx hn hb h0 (hk _ _ wP) (fun b=>hk _ _ (go b))
 |perm K2 hp h dR=>exact .perm K2 hp h fun v ee h=>(dR v ee h).imp fun sf h=>⟨h.1,h.2.imp (hk _ _) fun h=>⟨h.1,hk _ _ h.2⟩⟩
theorem YO{i:TI}{σ:Hp}{s x:AV}{K K':AV→Hp→Prop}(hk:∀v σ,K v σ→K' v σ)(h:B2 i σ s x K):B2 i σ s x K':=by
 cases h with
 |ag k n hs hx hn hb h0 go same=>exact .ag k n hs hx hn hb h0 (fun h b=>hk _ _ (go h b)) (fun h=>hk _ _ (same h))
theorem ZM{o:Op}{ρ:Operand→AV}{σ:Hp}{K K':AV→Hp→Prop}(hk:∀v σ,K v σ→K' v σ)(h:gM P TT o ρ σ K):gM P TT o ρ σ K':=by
 have dd:∀{o:Op},fB P TT o ρ σ (fun v=>K v σ)→fB P TT o ρ σ (fun v=>K' v σ):=fun h=>by
  obtain⟨v,h1,h2⟩:=Fu _ _ _ _ h;exact h2 _ (hk _ _ h1)
 unfold gM at h ⊢;split at h
 ·split at h
  ·exact fun b=>hk _ _ (h b)
  ·exact h.elim
 ·split at h
  ·exact fun b=>hk _ _ (h b)
  ·exact h.elim
 ·split at h
  ·split at h
   ·split at h
    ·exact fun b=>hk _ _ (h b)
    ·exact h.elim
   ·exact h.elim
  ·exact h.elim
 ·split at h
  ·split at h
   ·exact⟨h.fact,fun b=>hk _ _ (h.go b)⟩
   ·exact h.elim
  ·exact h.elim
 ·split at h
  ·split at h
   ·obtain⟨j,cs,cs',h1,h2,go⟩:=h;exact⟨j,cs,cs',h1,h2,hk _ _ go⟩
   ·exact h.elim
  ·exact h.elim
 ·split at h
  ·exact fun b=>hk _ _ (h b)
  ·exact h.elim
 ·unfold zy at h ⊢;split at h
  ·obtain⟨j,b,l,hm,h1,go⟩:=h;exact⟨j,b,l,hm,h1,hk _ _ go⟩
  ·exact h.elim
 ·unfold zy at h ⊢;split at h
  ·obtain⟨j,b,l,hm,h1,go⟩:=h;exact⟨j,b,l,hm,h1,hk _ _ go⟩
  ·exact h.elim
 ·unfold FV at h ⊢;split at h
  ·obtain⟨j,b,l,hm,h1,go⟩:=h;exact⟨j,b,l,hm,h1,fun r=>hk _ _ (go r)⟩
  ·exact h.elim
 ·split at h
  ·obtain⟨j,j2,r,b,l,seen,hx,h1,h2,stop,go⟩:=h;exact⟨j,j2,r,b,l,seen,hx,h1,h2,fun h=>hk _ _ (stop h),fun i p h3 h4=>hk _ _ (go i p h3 h4)⟩
  ·exact h.elim
 ·obtain⟨j,j2,r,b,i,l,p,seen,hx,h1,h2,h3,go⟩:=h;exact⟨j,j2,r,b,i,l,p,seen,hx,h1,h2,h3,hk _ _ go⟩
 ·split at h
  ·split at h
   ·split at h
    ·exact YR hk h
    ·exact h.elim
   ·split at h
    ·exact YO hk h
    ·exact h.elim
   ·exact h.elim
  ·exact h.elim
 ·split at h
  ·split at h
   ·split at h
    ·cases h with
     |none hs go=>exact .none hs (hk _ _ go)
     |af j b off len cs hs h1 h2 go=>exact .af j b off len cs hs h1 h2 (hk _ _ go)
    ·exact h.elim
   ·exact h.elim
  ·exact h.elim
 ·split at h
  ·split at h
   ·split at h
    ·cases h with
     |none new hd hx go=>exact .none new hd hx (hk _ _ go)
     |af j b off len n cs new hd h1 h2 hx hn go=>exact .af j b off len n cs new hd h1 h2 hx hn (hk _ _ go)
     |part j b off len cs hd h1 h2 j2 b2 mV n kx hx h3 h4 hn go=>exact .part j b off len cs hd h1 h2 j2 b2 mV n kx hx h3 h4 hn (hk _ _ go)
    ·exact h.elim
   ·exact h.elim
  ·exact h.elim
 ·exact dd h
 ·exact Wa (fun f xs h=>YK hk h) (fun l xs h=>Wo hk h) h
 ·exact dd h
theorem map_eq{ρ iw:Operand→AV}{l:List Operand}(h:∀x∈l,ρ x=iw x):l.map ρ=l.map iw:=HZ h
theorem Iu{c:Call}{ρ iw:Operand→AV}(h:∀x∈(Op.call c).operands.toList,ρ x=iw x):(∀f,c.callee=.value f→ρ f=iw f)∧(∀r m,c.callee=.invoke r m→ρ r=iw r)∧∀x∈c.args.toList,ρ x=iw x:=by
 obtain⟨f,args,cS⟩:=c;simp only[Op.operands,Call.operands,A8,bQ]at h;refine⟨fun g e=>?_,fun r m e=>?_,fun x hx=>h x (.inr hx)⟩
 ·subst e;exact h g (.inl (by simp))
 ·subst e;exact h r (.inl (by simp))
theorem Eu{c:Call}{ρ iw:Operand→AV}{A:FuncId→List AV→Prop}{Y:Nat→List AV→Prop}(h:∀x∈(Op.call c).operands.toList,ρ x=iw x):pI P c ρ A Y=pI P c iw A Y:=by
 obtain⟨h1,h2,h3⟩:=Iu h;have e:(c.args.toList.map fun x=>bV (ρ x))=c.args.toList.map fun x=>bV (iw x):=HZ fun x hx=>by rw[h3 x hx]
 unfold pI;rw[e];split
 ·rename_i f hf;rw[h1 f hf]
 ·rename_i r m hr;rw[h2 r m hr]
 ·rfl
theorem I0{o:Op}{ρ iw:Operand→AV}{σ:Hp}{K:AV→Prop}(h:∀x∈o.operands.toList,ρ x=iw x):fB P TT o ρ σ K=fB P TT o iw σ K:=by
 cases o with
 |call c=>
  obtain⟨f,args,cS⟩:=c;obtain⟨_,_,h3⟩:=Iu h;cases f with
  |builtin b=>
   obtain⟨l⟩:=args;have h3:∀x∈l,ρ x=iw x:=h3
   match l,h3 with
   | [],_=>cases b <;> rfl
   | [x],h3=>
    have hx:=h3 x (by simp);cases b <;> first | rfl | (obtain⟨cS⟩:=cS;rcases cS with _ | ⟨t,_ | ⟨t',_ | ⟨yA,r⟩⟩⟩ <;> first | rfl | simp only[fB,hx])
   | [x,y],h3=>
    have hx:=h3 x (by simp);have hy:=h3 y (by simp);cases b <;> first | rfl | (obtain⟨cS⟩:=cS;rcases cS with _ | ⟨t,_ | ⟨t',_ | ⟨yA,r⟩⟩⟩ <;> first | rfl | simp only[fB,hx,hy])
   |_::_::_::_,_=>cases b <;> rfl
  |_=>rfl
 |build t parts=>
  have e:(parts.toList.map fun p=>(p.1,ρ p.2))=parts.toList.map fun p=>(p.1,iw p.2):=HZ fun p hp=>by rw[h p.2 (by simp only[Op.operands];exact eW.2 ⟨p,hp,rfl⟩)]
  show (match F8 TT t (parts.toList.map fun p=>(p.1,ρ p.2)) with | some v=>K v | none=>False)=_;rw[e];rfl
 |makeFunc f first cap=>
  have e1:first.toList.map ρ=first.toList.map iw:=map_eq fun x hx=>h x (by simp only[Op.operands,A8,bQ];exact .inl hx);have e2:cap.toList.map ρ=cap.toList.map iw:=map_eq fun x hx=>h x (by simp only[Op.operands,A8,bQ];exact .inr hx);show K (.fn f (first.toList.map ρ) (cap.toList.map ρ))=_;rw[e1,e2];rfl
 |slice t x lo hi mx=>
  have hx:=h x (by simp[Op.operands])
  have e:∀(o:Option Operand),(∀y,o=some y→y∈(Op.slice t x lo hi mx).operands.toList)→(o.map fun x=>bV (ρ x))=o.map fun x=>bV (iw x):=fun o ho=>by
   cases o with
   |none=>rfl
   |some y=>simp[h y (ho y rfl)]
  show zE TT t (bV (ρ x)) (lo.map fun x=>bV (ρ x)) (hi.map fun x=>bV (ρ x)) (mx.map fun x=>bV (ρ x)) K=_;rw[hx,e lo (fun y hy=>by subst hy;simp[Op.operands]),e hi (fun y hy=>by subst hy;simp[Op.operands]),e mx (fun y hy=>by subst hy;simp[Op.operands])];rfl
 |pick c a b=>simp only[fB,h c (by simp[Op.operands]),h a (by simp[Op.operands]),h b (by simp[Op.operands])]
 |binOp op t x y yt=>simp only[fB,h x (by simp[Op.operands]),h y (by simp[Op.operands])]
 |indexAddr t x y=>simp only[fB,h x (by simp[Op.operands]),h y (by simp[Op.operands])]
 |lookup t x y c=>simp only[fB,h x (by simp[Op.operands]),h y (by simp[Op.operands])]
 |_=>first | rfl | (rename_i x;simp only[fB,h x (by simp[Op.operands])]) | (rename_i x _;simp only[fB,h x (by simp[Op.operands])]) | (rename_i x _ _;simp only[fB,h x (by simp[Op.operands])]) | (rename_i x _ _ _;simp only[fB,h x (by simp[Op.operands])])
theorem PE{o:Op}{ρ iw:Operand→AV}{σ:Hp}{K:AV→Prop}(h:∀x∈o.operands.toList,ρ x=iw x):uY P TT o ρ σ K=uY P TT o iw σ K:=by
 have hd:=I0 (P:=P) (TT:=TT) (σ:=σ) (K:=K) h;cases o with
 |call c=>
  obtain⟨f,args,cS⟩:=c;cases f with
  |builtin b=>exact hd
  |value g=>exact Eu (P:=P) (A:=fun f xs=>tc P f xs σ K) (Y:=fun _ _=>False) h
  |invoke r m=>exact Eu (P:=P) (A:=fun f xs=>tc P f xs σ K) (Y:=fun _ _=>False) h
 |_=>exact hd
theorem PC{o:Op}{ρ iw:Operand→AV}{σ:Hp}{K:AV→Hp→Prop}(h:∀x∈o.operands.toList,ρ x=iw x):gM P TT o ρ σ K=gM P TT o iw σ K:=by
 have hd:=I0 (P:=P) (TT:=TT) (σ:=σ) (K:=fun v=>K v σ) h;cases o with
 |call c=>
  obtain⟨f,args,cS⟩:=c;obtain⟨_,_,h3⟩:=Iu h;cases f with
  |builtin b=>
   obtain⟨l⟩:=args;have h3:∀x∈l,ρ x=iw x:=h3
   match l,h3 with
   | [],_=>cases b <;> first | exact hd | rfl
   | [x],h3=>
    have hx:=h3 x (by simp);cases b <;> first | exact hd | rfl | (obtain⟨cS⟩:=cS;rcases cS with _ | ⟨t,_ | ⟨t',_ | ⟨yA,r⟩⟩⟩ <;> first | rfl | simp only[gM,hx])
   | [x,y],h3=>
    have hx:=h3 x (by simp);have hy:=h3 y (by simp);cases b <;> first | exact hd | rfl | (obtain⟨cS⟩:=cS;rcases cS with _ | ⟨t,_ | ⟨t',_ | ⟨yA,r⟩⟩⟩ <;> first | rfl | simp only[gM,hx,hy])
   |_::_::_::_,_=>cases b <;> first | exact hd | rfl
  |value g=>exact Eu (P:=P) (A:=fun f xs=>CallAt P f K xs σ) (Y:=fun l xs=>wj P l K xs σ) h
  |invoke r m=>exact Eu (P:=P) (A:=fun f xs=>CallAt P f K xs σ) (Y:=fun l xs=>wj P l K xs σ) h
 |box t x=>simp only[gM,h x (by simp[Op.operands])]
 |buildSlice t len parts=>
  have e:(parts.toList.map fun p=>(p.1,ρ p.2))=parts.toList.map fun p=>(p.1,iw p.2):=HZ fun p hp=>by rw[h p.2 (by simp only[Op.operands];exact eW.2 ⟨p,hp,rfl⟩)]
  simp only[gM,e]
 |makeSlice t l c=>simp only[gM,h l (by simp[Op.operands]),h c (by simp[Op.operands])]
 |store t a x=>simp only[gM,h a (by simp[Op.operands]),h x (by simp[Op.operands])]
 |makeMap t r=>cases r with
  |none=>rfl
  |some r=>exact hd
 |mapUpdate t m k x=>simp only[gM,h m (by simp[Op.operands]),h k (by simp[Op.operands]),h x (by simp[Op.operands])]
 |insert t m k x=>simp only[gM,h m (by simp[Op.operands]),h k (by simp[Op.operands]),h x (by simp[Op.operands])]
 |range t x=>simp only[gM,h x (by simp[Op.operands])]
 |next x s=>simp only[gM,h x (by simp[Op.operands])]
 |entry x=>simp only[gM,h x (by simp[Op.operands])]
 |_=>first | exact hd | rfl
theorem vY{ops:List Oper}{Q:List Nat}{n:Nat}{aA:List Bool}{t:Tm}{σ:Hp}{K:Tm→Hp→Prop}:pZ P TT ops Q (n+1) aA t σ K=((iN ops aA=[]→K t σ)∧∀i∈iN ops aA,jB P TT ops (eV i Q) i t σ fun t' σ'=>pZ P TT ops Q n (aA.set i true) t' σ' K):=rfl
def tT(_ops:List Oper)(aA:List Bool)(o:Oper):Prop:=∀e∈o.after.toList,Region.binds .any e=true→aA.getD e.on false=true
theorem vT{ops:List Oper}{aA:List Bool}{i:Nat}:i∈iN ops aA↔aA.getD i true=false∧∃o,ops[i]?=some o∧tT ops aA o:=by
 unfold iN tT;simp only[jK,gP,bS,j7];constructor
 ·rintro⟨h1,h2,h3⟩;refine⟨h2,ops[i],by simp[h1],?_⟩;rw[bu h1]at h3;intro e he hb;have:=fq.1 h3 e he;simpa [hb]using this
 ·rintro⟨h2,o,h1,h3⟩;refine⟨(cW.1 h1).1,h2,?_⟩;rw[h1];refine fq.2 fun e he=>?_;cases hb:Region.binds .any e with
  |false=>simp
  |true=>rw[h3 e he hb];simp
def zD(ops:List Oper)(aA:List Bool):Prop:=∀(j:Nat) (o:Oper),ops[j]?=some o→aA.getD j false=true→tT ops aA o
theorem NH{l:List Bool}{i k:Nat}(h:l.getD k false=true):(l.set i true).getD k false=true:=by
 rw[bK]at h ⊢;rw[gQ];split
 ·rename_i e;subst e
  split
  ·rfl
  ·rename_i hn;rw[sE (by omega)]at h;cases h
 ·exact h
theorem NU{l:List Bool}{i k:Nat}(b:Bool)(h:k≠i):(l.set i true).getD k b=l.getD k b:=by
 rw[bK,bK,gQ,aB (Ne.symm h)]
theorem FB{l:List Bool}{i:Nat}(h:l.getD i true=false):l.getD i false=false:=by
 rw[bK]at h ⊢;cases hq:l[i]? with
 |none=>rw[hq]at h;cases h
 |some b=>rw[hq]at h;exact h
theorem tT.set{ops:List Oper}{aA:List Bool}{o:Oper}(h:tT ops aA o)(i:Nat):tT ops (aA.set i true) o:=fun e he hb=>NH (h e he hb)
theorem zD.set{ops:List Oper}{aA:List Bool}(h:zD ops aA){j:Nat}{o:Oper}(ho:ops[j]?=some o)(hr:tT ops aA o):zD ops (aA.set j true):=by
 intro k p hp hk
 by_cases ri:k=j
 ·subst ri;rw[ho]at hp;cases hp;exact hr.set k
 ·rw[NU false ri]at hk;exact (h k p hp hk).set j
theorem Pt{ops:List Oper}{aA:List Bool}{i j:Nat}(hi:i∈iN ops aA)(h:i≠j):i∈iN ops (aA.set j true):=by
 obtain⟨h1,o,h2,h3⟩:=vT.1 hi;exact vT.2 ⟨by rw[NU true h];exact h1,o,h2,h3.set j⟩
theorem QT{j:Nat}{l:List Nat}:eV j l=true↔j∈l:=by
 unfold eV;rw[kr];exact⟨fun ⟨x,h1,h2⟩=>ju h2▸h1,fun h=>⟨j,h,xq j⟩⟩
def Cz(ops:List Oper)(k:Nat)(row:List Nat):Prop:=∀o,ops[k]?=some o→∀aA,zD ops aA→tT ops aA o→∀j∈row,aA.getD j false=true
theorem abx{ops:List Oper}{acc:List (List Nat)}(hlen:acc.length≤ops.length)(h:∀(k:Nat) (row:List Nat),acc[k]?=some row→Cz ops k row){k:Nat}{o:Oper}(ho:ops[k]?=some o):Cz ops k (Lb o acc):=by
 intro o' gd aA hc hr j hj;rw[ho]at gd;cases gd;unfold Lb at hj;obtain⟨e,he,hj⟩:=List.mem_flatMap.1 hj;split at hj
 ·rename_i hb
  have pf:=hr e he hb
  rcases dW.1 hj with rfl | hj
  ·exact pf
  ·cases hq:acc[e.on]? with
   |none=>rw[hq]at hj;simp at hj
   |some row=>
    rw[hq]at hj;cases hp:ops[e.on]? with
    |some p=>exact h e.on row hq p hp aA hc (hc e.on p hp pf) j (by simpa using hj)
    |none=>
     have h1:=(cW.1 hq).1;have h2:=List.getElem?_eq_none_iff.1 hp;omega
 ·cases hj
theorem Qt{ops:List Oper}:∀(os:List Oper) (acc:List (List Nat)) (pre:List Oper),ops=pre++os→acc.length=pre.length→(∀(k:Nat) (row:List Nat),acc[k]?=some row→Cz ops k row)→∀(k:Nat) (row:List Nat),(KG os acc)[k]?=some row→Cz ops k row
 | [],acc,pre,_,_,h=>h
 |o::os,acc,pre,he,hl,h=>by
  refine Qt os _ (pre++[o]) (by rw[he];simp) (by simp[hl]) ?_;intro k row hk
  by_cases ab:k<acc.length
  ·rw[ku ab]at hk;exact h k row hk
  ·have gw:=hk;rw[iL (by omega)]at hk
   have hz:k-acc.length=0:=by
    have:=(cW.1 hk).1;simp at this;omega
   rw[hz]at hk;simp only[List.getElem?_cons_zero,Option.some.injEq]at hk;subst hk;have aK:k=pre.length:=by omega
   have ho:ops[k]?=some o:=by rw[he,aK];simp
   intro o' gd aA hc hr j hj;exact abx (by rw[he,hl];simp) h ho o' gd aA hc hr j (List.mem_eraseDups.1 hj)
def agE(want:Bool)(x:AV)(A B:Prop):Prop:=
 match x with
 |.bool b=>(match want,b with | true,true=>A | true,false=>B | false,true=>B | false,false=>A)
 |.tup []=>B
 |_=>False
theorem Bm{ops:List Oper}{o:Oper}{t:Tm}{A B:Prop}(h:oF ops o t A B):
  (A∧∀(t2:Tm),(∀d∈o.looksAt ops.toArray,t2 d=t d)→∀{A' B':Prop},A'→oF ops o t2 A' B')∨(B∧∀(t2:Tm),(∀d∈o.looksAt ops.toArray,t2 d=t d)→∀{A' B':Prop},B'→oF ops o t2 A' B'):=by
 unfold oF at h;split at h
 ·rename_i hg
  refine .inl ⟨h,fun t2 _ A' B' ha=>?_⟩;unfold oF;rw[hg];exact ha
 ·rename_i j want hg
  split at h
  ·rename_i d hd
   have Lk:d∈o.looksAt ops.toArray:=by
    unfold Oper.looksAt;rw[hg];simp only[y5,hd,Option.toList_some,bQ,bj,or_true]
   have go:∀(t2:Tm),(∀d∈o.looksAt ops.toArray,t2 d=t d)→∀{A' B':Prop},agE want (t d) A' B'→oF ops o t2 A' B':=fun t2 h2 A' B' hx=>by
    unfold oF;rw[hg];dsimp only;rw[hd];dsimp only;rw[h2 d Lk];exact hx
   split at h
   ·rename_i b hb
    cases want <;> cases b
    ·exact .inl ⟨h,fun t2 h2 A' B' ha=>go t2 h2 (by rw[hb];exact ha)⟩
    ·exact .inr ⟨h,fun t2 h2 A' B' ha=>go t2 h2 (by rw[hb];exact ha)⟩
    ·exact .inr ⟨h,fun t2 h2 A' B' ha=>go t2 h2 (by rw[hb];exact ha)⟩
    ·exact .inl ⟨h,fun t2 h2 A' B' ha=>go t2 h2 (by rw[hb];exact ha)⟩
   ·rename_i hb
    exact .inr ⟨h,fun t2 h2 A' B' ha=>go t2 h2 (by rw[hb];exact ha)⟩
   ·exact h.elim
  ·exact h.elim
theorem BU{ops:List Oper}{o:Oper}{t t2:Tm}(h:∀d∈o.looksAt ops.toArray,t2 d=t d):∀x∈o.op.operands.toList,ev t2 x=ev t x:=by
 intro x hx;cases x with
 |tmp d=>
  refine h d ?_;unfold Oper.looksAt;refine gg _ (List.mem_filterMap.2 ⟨_,hx,rfl⟩)
 |_=>rfl
theorem ZZ{o:Op}(h:sX o=true){ρ:Operand→AV}{σ:Hp}{K:AV→Hp→Prop}:gM P TT o ρ σ K=fB P TT o ρ σ (fun v=>K v σ):=by
 cases o <;> first | rfl | cases h
theorem YM{o:Op}(h:blind o=true){ρ:Operand→AV}{σ:Hp}{K:AV→Hp→Prop}:gM P TT o ρ σ K=fB P TT o ρ σ (fun v=>K v σ):=by
 cases o <;> first | rfl | cases h | (rename_i c;obtain⟨f,args,cS⟩:=c;cases f <;> first | cases h | (rename_i b;cases b <;> first | rfl | cases h))
theorem Yk{o:Op}(h:sX o=true){ρ:Operand→AV}{σ:Hp}{K:AV→Prop}(c:Nat×List AV)(hd:fB P TT o ρ σ K):fB P TT o ρ (c::σ) K:=by
 have key:∀{i:TI} {a:AV},pQ i a σ K→pQ i a (c::σ) K:=fun {i a} h=>by
  unfold pQ at h ⊢;cases a <;> first | exact h | (cases h with | mk j cs v h1 h2 go=>exact .mk (j+1) cs v h1 h2 go)
 cases o <;> first | cases h | skip
 unfold fB at hd ⊢;dsimp only at hd ⊢;split at hd
 ·exact key hd
 ·exact hd
theorem ZX{o:Op}(hn:Gp o=true){ρ:Operand→AV}{σ:Hp}{K K2:AV→Hp→Prop}(hk:∀v c,K v (c::σ)→K2 v (c::σ))(h:gM P TT o ρ σ K):gM P TT o ρ σ K2:=by
 cases o <;> first | cases hn | skip
 all_goals
  unfold gM at h ⊢;dsimp only at h ⊢;split at h
  ·exact fun b=>hk _ _ (h b)
  ·exact h
theorem Kh{ops:List Oper}{Q:List Nat}{j:Nat}{o:Oper}(ho:ops[j]?=some o){t:Tm}{σ:Hp}{K:Tm→Hp→Prop}(hk:uQ ops Q j=false)(h:jB P TT ops (eV j Q) j t σ K):
  ∃v,K (put t o.dst v) σ∧∀(t2:Tm) (σ2:Hp),(∀d∈o.looksAt ops.toArray,t2 d=t d)→(σ2=σ∨(blind o.op=true∧eV j Q=false)∨(sX o.op=true∧eV j Q=false∧∃c,σ2=c::σ))→∀(K2:Tm→Hp→Prop),K2 (put t2 o.dst v) σ2→jB P TT ops (eV j Q) j t2 σ2 K2:=by
 unfold jB at h ⊢;rw[ho]at h ⊢;dsimp only at h ⊢;cases hq:eV j Q with
 |true=>
  rw[hq]at h;dsimp only at h ⊢
  rcases Bm h with ⟨h,g⟩ | ⟨h,g⟩
  ·obtain⟨v,h1,h2⟩:=RX _ _ _ _ h;refine⟨v,h1,fun t2 σ2 ht aG K2 dR=>g t2 ht ?_⟩
   rcases aG with rfl | ⟨_,h⟩ | ⟨_,h,_⟩
   ·rw[PE (BU ht)];exact h2 (fun v=>K2 (put t2 o.dst v) σ2) dR
   ·cases h
   ·cases h
  ·refine⟨.tup [],h,fun t2 σ2 ht aG K2 dR=>g t2 ht ?_⟩
   rcases aG with rfl | ⟨_,h⟩ | ⟨_,h,_⟩
   ·exact dR
   ·cases h
   ·cases h
 |false=>
  rw[hq]at h;dsimp only at h ⊢
  have bf:nU o.op=false:=by
   unfold uQ at hk;rw[ho,hq]at hk;simpa using hk
  have e:∀(ρ:Operand→AV) (σ:Hp) (K:AV→Hp→Prop),gM P TT o.op ρ σ K=fB P TT o.op ρ σ (fun v=>K v σ):=fun ρ σ K=>by
   unfold nU at bf;simp only[HT,pq]at bf
   rcases bf with h | h
   ·exact YM h
   ·exact ZZ h
  rcases Bm h with ⟨h,g⟩ | ⟨h,g⟩
  ·rw[e]at h;obtain⟨v,h1,h2⟩:=Fu _ _ _ _ h;refine⟨v,h1,fun t2 σ2 ht aG K2 dR=>g t2 ht ?_⟩;rw[e,I0 (BU ht)]
   rcases aG with rfl | ⟨hb,_⟩ | ⟨hl,_,c,rfl⟩
   ·exact h2 (fun v=>K2 (put t2 o.dst v) σ2) dR
   ·exact Xn hb (h2 (fun v=>K2 (put t2 o.dst v) σ2) dR)
   ·exact Yk hl c (h2 (fun v=>K2 (put t2 o.dst v) (c::σ)) dR)
  ·exact⟨.tup [],h,fun t2 σ2 ht aG K2 dR=>g t2 ht dR⟩
theorem E4{ops:List Oper}{q:Bool}{i:Nat}{o:Oper}(ho:ops[i]?=some o){t t2:Tm}{σ:Hp}{K K2:Tm→Hp→Prop}(ht:∀d∈o.looksAt ops.toArray,t2 d=t d)(hk:∀v σ',K (put t o.dst v) σ'→K2 (put t2 o.dst v) σ')(h:jB P TT ops q i t σ K):jB P TT ops q i t2 σ K2:=by
 unfold jB at h ⊢;rw[ho]at h ⊢;dsimp only at h ⊢;cases q with
 |true=>
  dsimp only at h ⊢
  rcases Bm h with ⟨h,g⟩ | ⟨h,g⟩
  ·obtain⟨v,h1,h2⟩:=RX _ _ _ _ h;refine g t2 ht ?_;rw[PE (BU ht)];exact h2 _ (hk _ _ h1)
  ·exact g t2 ht (hk _ _ h)
 |false=>
  dsimp only at h ⊢
  rcases Bm h with ⟨h,g⟩ | ⟨h,g⟩
  ·refine g t2 ht ?_;rw[PC (BU ht)];exact ZM (fun v σ' h=>hk v σ' h) h
  ·exact g t2 ht (hk _ _ h)
theorem ZV{ops:List Oper}{i:Nat}{o:Oper}(ho:ops[i]?=some o)(hn:Gp o.op=true){t t2:Tm}{σ:Hp}{K K2:Tm→Hp→Prop}(ht:∀d∈o.looksAt ops.toArray,t2 d=t d)(hk:∀v c,K (put t o.dst v) (c::σ)→K2 (put t2 o.dst v) (c::σ))(hs:∀v,K (put t o.dst v) σ→K2 (put t2 o.dst v) σ)(h:jB P TT ops false i t σ K):jB P TT ops false i t2 σ K2:=by
 unfold jB at h ⊢;rw[ho]at h ⊢;dsimp only at h ⊢
 rcases Bm h with ⟨h,g⟩ | ⟨h,g⟩
 ·refine g t2 ht ?_;rw[PC (BU ht)];exact ZX hn (fun v c h=>hk v c h) h
 ·exact g t2 ht (hs _ h)
theorem abD{t:Tm}{d d':Option Tmp}{v v':AV}(h:∀x,d=some x→d'≠some x):put (put t d v) d' v'=put (put t d' v') d v:=by
 cases d with
 |none=>rfl
 |some x=>cases d' with
  |none=>rfl
  |some y=>
   have bf:y≠x:=fun e=>h x rfl (by rw[e])
   funext i
   show (match Nat.beq i y with | true=>v' | false=>match Nat.beq i x with | true=>v | false=>t i)=(match Nat.beq i x with | true=>v | false=>match Nat.beq i y with | true=>v' | false=>t i);cases h1:Nat.beq i y <;> cases h2:Nat.beq i x <;> first | rfl | exact absurd ((ju h1).symm.trans (ju h2)) bf
theorem RO{t:Tm}{d:Option Tmp}{v:AV}{x:Tmp}(h:d≠some x):put t d v x=t x:=by
 cases d with
 |none=>rfl
 |some y=>
  show (match Nat.beq x y with | true=>v | false=>t x)=t x;cases hb:Nat.beq x y with
  |false=>rfl
  |true=>exact absurd (by rw[ju hb]) h
def Ty(ops:List Oper)(rows:List (List Nat)):Prop:=∀(k:Nat) (row:List Nat),rows[k]?=some row→Cz ops k row
theorem aav{ops:List Oper}(h0:rN ops=true){aA:List Bool}{i j:Nat}{oi oj:Oper}(l4:i≠j)(hi:ops[i]?=some oi)(hj:ops[j]?=some oj)(Hr:aA.getD i true=false)(Hq:aA.getD j true=false)(ek:tT ops aA oi)(Mb:tT ops aA oj):oi.apart ops.toArray oj=true:=by
 rcases (Jg h0).2 i j oi oj hi hj with e | e | e | e
 ·exact absurd e l4
 ·obtain⟨ed,h1,h2,rfl⟩:=zf e;have:=ek ed (by simpa using h1) h2;rw[FB Hq]at this;cases this
 ·obtain⟨ed,h1,h2,rfl⟩:=zf e;have:=Mb ed (by simpa using h1) h2;rw[FB Hr]at this;cases this
 ·exact e
theorem ZY{ops:List Oper}{k:Nat}(h:CG ops k=true):∃o,ops[k]?=some o∧Gp o.op=true:=by
 unfold CG at h;split at h
 ·rename_i o ho;exact⟨o,ho,h⟩
 ·cases h
theorem OS{ops:List Oper}{rows:List (List Nat)}{Q:List Nat}{aA:List Bool}{j:Nat}(h:zL ops rows Q aA j=true):∃o,ops[j]?=some o∧uQ ops Q j=false∧((blind o.op=true∧eV j Q=false)∨∀k,k<ops.length→aA.getD k false=true∨uQ ops Q k=false∨eV j ((rows[k]?).getD [])=true∨(sX o.op=true∧eV j Q=false∧CG ops k=true)):=by
 unfold zL at h;split at h
 ·rename_i o ho
  refine⟨o,ho,?_⟩;simp only[pq,bS,j7]at h
  rcases h with ⟨h1,h2⟩ | ⟨h1,h2⟩
  ·exact⟨by unfold uQ nU;rw[ho];simp[h1],.inl ⟨h1,h2⟩⟩
  ·refine⟨?_,.inr fun k hk=>?_⟩
   ·unfold uQ nU;rw[ho]
    rcases h1 with h1 | h1 <;> simp[h1]
   ·have:=fq.1 h2 k (gP.2 hk);simp only[pq,bS,j7]at this
    rcases this with ((h | h) | h) | ⟨⟨h3,h4⟩,h5⟩
    ·exact .inl h
    ·exact .inr (.inl h)
    ·exact .inr (.inr (.inl h))
    ·exact .inr (.inr (.inr ⟨h3,h4,h5⟩))
 ·cases h
theorem Xp{ops:List Oper}{rows:List (List Nat)}{Q:List Nat}{K:Tm→Hp→Prop}(h0:rN ops=true)(hR:Ty ops rows){j:Nat}:∀(n:Nat) (aA:List Bool) (t:Tm) (σ:Hp),zD ops aA→j∈iN ops aA→zL ops rows Q aA j=true→
  jB P TT ops (eV j Q) j t σ (fun t' σ'=>pZ P TT ops Q n (aA.set j true) t' σ' K)→pZ P TT ops Q (n+1) aA t σ K:=by
 intro n
 induction n with
 |zero=>
  intro aA t σ hc hj hf h;obtain⟨oj,ho,he,_⟩:=OS hf;obtain⟨v,h1,_⟩:=Kh ho he h;exact h1.elim
 |succ n ih=>
  intro aA t σ hc hj hf h;obtain⟨oj,ho,he,adY⟩:=OS hf;obtain⟨Hq,oj',gd,Mb⟩:=vT.1 hj;rw[ho]at gd;cases gd;obtain⟨v,h1,h2⟩:=Kh ho he h;rw[vY];refine⟨fun hn=>by rw[hn]at hj;(cases hj),fun i hi=>?_⟩
  by_cases l4:i=j
  ·subst l4;exact h2 t σ (fun _ _=>rfl) (.inl rfl) _ h1
  obtain⟨Hr,oi,j5,ek⟩:=vT.1 hi;have vB:=Oper.apart_spec (aav h0 l4 j5 ho Hr Hq ek Mb);rw[vY]at h1;have qY:=h1.2 i (Pt hi l4);have zY:∀d∈oi.looksAt ops.toArray,t d=put t oj.dst v d:=fun d hd=>(RO fun e=>vB.2.2 d e hd).symm;have CO:∀u,put (put t oj.dst v) oi.dst u=put (put t oi.dst u) oj.dst v:=fun u=>abD fun x hx hi=>vB.2.1 x hi hx;have iV:(aA.set j true).set i true=(aA.set i true).set j true:=List.set_comm _ _ (Ne.symm l4);have DD:=hc.set j5 ek;have rn:=Pt hj (Ne.symm l4)
  have hfi:zL ops rows Q (aA.set i true) j=true:=by
   unfold zL at hf ⊢;rw[ho]at hf ⊢;simp only[pq,bS,j7]at hf ⊢;refine hf.imp id fun h=>⟨h.1,fq.2 fun k hk=>?_⟩
   have:=fq.1 h.2 k hk;simp only[pq,j7]at this ⊢;exact this.imp (fun h=>h.imp (fun h=>h.imp NH id) id) id
  have hlj:∀u,∀d∈oj.looksAt ops.toArray,put t oi.dst u d=t d:=fun u d hd=>RO fun e=>vB.1 d e hd
  have fin:∀u σ',(σ'=σ∨(blind oj.op=true∧eV j Q=false)∨(sX oj.op=true∧eV j Q=false∧∃c,σ'=c::σ))→pZ P TT ops Q n ((aA.set j true).set i true) (put (put t oj.dst v) oi.dst u) σ' K→pZ P TT ops Q (n+1) (aA.set i true) (put t oi.dst u) σ' K:=fun u σ' aG hh=>by
   refine ih (aA.set i true) (put t oi.dst u) σ' DD rn hfi ?_;refine h2 _ σ' (hlj u) aG _ ?_;rw[iV,CO]at hh;exact hh
  cases AL:uQ ops Q i with
  |true=>
   have hb:(blind oj.op=true∧eV j Q=false)∨(sX oj.op=true∧eV j Q=false∧CG ops i=true):=by
    rcases adY with h | h
    ·exact .inl h
    ·have ab:i<ops.length:=(cW.1 j5).1
     rcases h i ab with h | h | h | h
     ·rw[FB Hr]at h;cases h
     ·rw[AL]at h;cases h
     rotate_left
     ·exact .inr h
     ·cases hq:rows[i]? with
      |none=>rw[hq]at h;cases h
      |some row=>
       rw[hq]at h;have:=hR i row hq oi j5 aA hc ek j (QT.1 h);rw[FB Hq]at this;cases this
   rcases hb with hb | ⟨hl,hq,fP⟩
   ·exact E4 j5 zY (fun u σ' hh=>fin u σ' (.inr (.inl hb)) hh) qY
   ·obtain⟨oi',Uv,hn⟩:=ZY fP;rw[j5]at Uv;cases Uv
    have hqi:eV i Q=false:=by
     unfold uQ at AL;rw[j5]at AL;simp only[bS,j7]at AL;exact AL.2
    rw[hqi]at qY ⊢;exact ZV j5 hn zY (fun u c hh=>fin u (c::σ) (.inr (.inr ⟨hl,hq,c,rfl⟩)) hh) (fun u hh=>fin u σ (.inl rfl) hh) qY
  |false=>
   obtain⟨u,k1,k2⟩:=Kh j5 AL qY;exact k2 t σ zY (.inl rfl) _ (fin u σ (.inl rfl) k1)
theorem abt{ops:List Oper}{rows:List (List Nat)}{Q:List Nat}{K:Tm→Hp→Prop}(h0:rN ops=true)(hR:Ty ops rows):∀(s:nu) (n:Nat) (mU:List Nat) (aA:List Bool) (t:Tm) (σ:Hp),kY ops rows Q s n mU aA=true→zD ops aA→uI P TT ops s t σ K→
  (mU=[]→pZ P TT ops Q n aA t σ K)∧((∀i∈mU,i∈iN ops aA)→∀i∈mU,jB P TT ops (eV i Q) i t σ fun t' σ'=>pZ P TT ops Q n (aA.set i true) t' σ' K):=by
 intro s
 induction s with
 |stop=>
  intro n mU aA t σ hs hc h;unfold kY at hs;split at hs
  ·rename_i n _ _ _ hr
   refine⟨fun _=>?_,fun _ i hi=>by cases hi⟩;rw[vY,hr];exact⟨fun _=>h,fun i hi=>by cases hi⟩
  ·cases hs
 |one j q s ih=>
  intro n mU aA t σ hs hc h
  have step:∀m,eV j Q=q→j∈iN ops aA→kY ops rows Q s m [] (aA.set j true)=true→jB P TT ops (eV j Q) j t σ fun t' σ'=>pZ P TT ops Q m (aA.set j true) t' σ' K:=fun m hq hj hs=>by
   obtain⟨_,o,ho,hr⟩:=vT.1 hj;rw[hq];have h:jB P TT ops q j t σ fun t' σ'=>uI P TT ops s t' σ' K:=h;exact E4 ho (fun _ _=>rfl) (fun v σ' hh=>(ih m [] _ _ σ' hs (hc.set ho hr) hh).1 rfl) h
  unfold kY at hs;split at hs
  ·rename_i n
   simp only[bS,pq,beq_iff_eq]at hs;obtain⟨⟨⟨h1,h2⟩,h3⟩,h4⟩:=hs;have hj:=QT.1 h2;refine⟨fun _=>?_,fun _ i hi=>by cases hi⟩;have aq:=step n h1 hj h4
   rcases h3 with h3 | h3
   ·exact Xp h0 hR n aA t σ hc hj h3 aq
   ·split at h3
    ·rename_i i hr
     rw[vY,hr];refine⟨fun h=>(by cases h),fun k hk=>?_⟩;obtain rfl:=bj.1 hk;obtain rfl:=ju h3;exact aq
    ·cases h3
  ·rename_i i
   simp only[bS,beq_iff_eq]at hs;obtain⟨⟨h1,h2⟩,h4⟩:=hs;refine⟨fun h=>(by cases h),fun hp k hk=>?_⟩;obtain rfl:=ju h2;obtain rfl:=bj.1 hk;exact step _ h1 (hp k hk) h4
  ·cases hs
 |alt j s r ih jH=>
  intro n mU aA t σ hs hc h;obtain⟨ha,hb⟩:jB P TT ops false j t σ (fun t' σ'=>uI P TT ops s t' σ' K)∧uI P TT ops r t σ K:=h
  have step:∀m,eV j Q=false→j∈iN ops aA→kY ops rows Q s m [] (aA.set j true)=true→jB P TT ops (eV j Q) j t σ fun t' σ'=>pZ P TT ops Q m (aA.set j true) t' σ' K:=fun m hq hj hs=>by
   obtain⟨_,o,ho,hr⟩:=vT.1 hj;rw[hq];exact E4 ho (fun _ _=>rfl) (fun v σ' hh=>(ih m [] _ _ σ' hs (hc.set ho hr) hh).1 rfl) ha
  unfold kY at hs;split at hs
  ·rename_i n
   split at hs
   ·rename_i i i2 l hr
    simp only[bS,j7]at hs;obtain⟨⟨⟨h1,h2⟩,h3⟩,h4⟩:=hs;obtain rfl:=ju h1;refine⟨fun _=>?_,fun _ i hi=>by cases hi⟩;rw[vY,hr];refine⟨fun h=>(by cases h),fun k hk=>?_⟩
    rcases dW.1 hk with rfl | hk
    ·exact step n h2 (by rw[hr];exact cF ..) h3
    ·exact (jH n (i2::l) aA t σ h4 hc hb).2 (fun i hi=>by rw[hr];exact dq _ hi) k hk
   ·cases hs
  ·rename_i i i2 l
   simp only[bS,j7]at hs;obtain⟨⟨⟨h1,h2⟩,h3⟩,h4⟩:=hs;obtain rfl:=ju h1;refine⟨fun h=>(by cases h),fun hp k hk=>?_⟩
   rcases dW.1 hk with rfl | hk
   ·exact step n h2 (hp _ (cF ..)) h3
   ·exact (jH n (i2::l) aA t σ h4 hc hb).2 (fun i hi=>hp i (dq _ hi)) k hk
  ·cases hs
 |Ao j s r ih jH=>
  intro n mU aA t σ hs hc h;obtain⟨ha,hb⟩:jB P TT ops true j t σ (fun t' σ'=>uI P TT ops s t' σ' K)∧uI P TT ops r t σ K:=h
  have step:∀m,eV j Q=true→j∈iN ops aA→kY ops rows Q s m [] (aA.set j true)=true→jB P TT ops (eV j Q) j t σ fun t' σ'=>pZ P TT ops Q m (aA.set j true) t' σ' K:=fun m hq hj hs=>by
   obtain⟨_,o,ho,hr⟩:=vT.1 hj;rw[hq];exact E4 ho (fun _ _=>rfl) (fun v σ' hh=>(ih m [] _ _ σ' hs (hc.set ho hr) hh).1 rfl) ha
  unfold kY at hs;split at hs
  ·rename_i n
   split at hs
   ·rename_i i i2 l hr
    simp only[bS]at hs;obtain⟨⟨⟨h1,h2⟩,h3⟩,h4⟩:=hs;obtain rfl:=ju h1;refine⟨fun _=>?_,fun _ i hi=>by cases hi⟩;rw[vY,hr];refine⟨fun h=>(by cases h),fun k hk=>?_⟩
    rcases dW.1 hk with rfl | hk
    ·exact step n h2 (by rw[hr];exact cF ..) h3
    ·exact (jH n (i2::l) aA t σ h4 hc hb).2 (fun i hi=>by rw[hr];exact dq _ hi) k hk
   ·cases hs
  ·rename_i i i2 l
   simp only[bS]at hs;obtain⟨⟨⟨h1,h2⟩,h3⟩,h4⟩:=hs;obtain rfl:=ju h1;refine⟨fun h=>(by cases h),fun hp k hk=>?_⟩
   rcases dW.1 hk with rfl | hk
   ·exact step n h2 (hp _ (cF ..)) h3
   ·exact (jH n (i2::l) aA t σ h4 hc hb).2 (fun i hi=>hp i (dq _ hi)) k hk
  ·cases hs
theorem Xm{o:Oper}{ρ:Operand→AV}{σ:Hp}{K:AV→Prop}(ok:dP P TT)(h:uY P TT o.op ρ σ K)(a:Act)(F:Nat→Prop)(w:World)(hx:∀x∈o.op.operands.toList,aD F w (ρ x) (a.eval x))(aG:bA F w σ)(next:Act→World→Prop)(Q:Exit→Act→World→Prop)(hn:∀v u F' w',bH F w F' w'→bA F' w' σ→aD F' w' v u→K v→next (a.put o.dst u) w'):wq P o a w next Q:=by
 obtain⟨v,h1,h2⟩:=PD ok h;exact h2 a F w hx aG next Q fun u F' w' k1 k2 k3=>hn v u F' w' k1 k2 k3 h1
theorem acy(ok:dP P TT){B n:Nat}{ops:List Oper}{Q:List Nat}(hd:∀o∈ops,∀d,o.dst=some d→d<n){K:Tm→Hp→Prop}{Q':Exit→Act→World→Prop}{F0:Nat→Prop}{w0:World}(hq:∀t' σ' F' w' a',bH F0 w0 F' w'→dC B n F' w' t' σ' a'→K t' σ'→Q' .normal a' w'):
  ∀(m:Nat) (aA:List Bool) (t:Tm) (σ:Hp) (F:Nat→Prop) (w:World) (a:Act),left aA.toArray≤m→aA.length=ops.length→pZ P TT ops Q (m+1) aA t σ K→dC B n F w t σ a→bH F0 w0 F w→wx P .any ops.toArray (wA Q') m aA.toArray a w:=by
 intro m
 induction m with
 |zero=>
  intro aA t σ F w a hl hlen h hs aq
  have hr:iN ops aA=[]:=by
   rw[← rL,Ia];intro j hj;have:=(mem_ready.1 hj).1;rw[I6 (by omega)]at this;cases this
  rw[vY]at h;exact⟨by rw[rL];exact hr,hq t σ F w a aq hs (h.1 hr)⟩
 |succ m ih=>
  intro aA t σ F w a hl hlen h hs aq;rw[vY]at h;refine⟨fun hr=>hq t σ F w a aq hs (h.1 (by rw[← rL];exact hr)),fun j hj=>?_⟩;rw[rL]at hj;have h:=h.2 j hj;have guard:∀{o:Oper} {b:Bool},uo ops o t b→Region.wanted o (yielded ops.toArray a.tmps)=b:=fun hg=>EM hg fun d _=>⟨F,w,hs.tm d⟩
  obtain⟨fJ,o,ho,_⟩:=vT.1 hj;have iV:(aA.set j true).toArray=aA.toArray.setIfInBounds j true:=by simp
  have ag4:aA.toArray.getD j true=false:=by
   rw[gR,y5,← bK];exact fJ
  have ab:left (aA.toArray.setIfInBounds j true)≤m:=by have:=BD ag4;omega
  have pX:∀(x:AV) (u:Value) (σ':Hp) (F':Nat→Prop) (w':World),bH F w F' w'→bA F' w' σ'→aD F' w' x u→pZ P TT ops Q (m+1) (aA.set j true) (put t o.dst x) σ' K→wx P .any ops.toArray (wA Q') m (aA.toArray.setIfInBounds j true) (a.put o.dst u) w':=fun x u σ' F' w' q1 q2 q3 hk=>by
   rw[← iV];exact ih _ _ σ' F' w' _ (by rw[iV];exact ab) (by simpa using hlen) hk (hs.put q1 q2 q3 (hd o (List.mem_of_getElem? ho))) (aq.trans q1)
  unfold jB at h;rw[ho]at h;dsimp only at h;unfold nL;rw[show ops.toArray[j]?=some o by simpa using ho];cases hq':eV j Q with
  |true=>
   rw[hq']at h;dsimp only at h
   rcases xP h with ⟨hg,h⟩ | ⟨hg,h⟩
   ·simp only[guard hg,if_true];exact (Xm ok h a F w (fun x _=>hs.tm.eval x) hs.hp _ _ fun v u F' w' k1 k2 k3 k4=>pX v u σ F' w' k1 k2 k3 k4)
   ·simp only[guard hg,vJ,if_false];exact pX (.tup []) undef σ F w (.refl _ _) hs.hp xL h
  |false=>
   rw[hq']at h;dsimp only at h
   rcases xP h with ⟨hg,h⟩ | ⟨hg,h⟩
   ·simp only[guard hg,if_true];refine (IZ ok h a F w (fun x _=>hs.tm.eval x) hs.hp _ _ ?_);intro v av σ' F' w' q1 q2 q3 q4;exact pX av v σ' F' w' q1 q2 q3 q4
   ·simp only[guard hg,vJ,if_false];exact pX (.tup []) undef σ F w (.refl _ _) hs.hp xL h
theorem N4(ok:dP P TT)(hm:P.follows .mixedOrders=true){r:Option Nat}{B n id:Nat}{ops:Array Oper}{t:Tm}{σ:Hp}{K:Tm→Hp→Prop}{F:Nat→Prop}{w:World}{a:Act}{Q:Exit→Act→World→Prop}{Q0:List Nat}{s:nu}(h0:FX ops.toList Q0 s=true)(h:uI P TT ops.toList s t σ K)(hd:∀o∈ops.toList,∀d,o.dst=some d→d<n)(cm:∀o∈ops.toList,∀c,o.op≠.defer c)(hs:dC B n F w t σ a)
  (hq:∀t' σ' F' w' a',bH F w F' w'→dC B n F' w' t' σ' a'→K t' σ'→Q .normal a' w'):(Code.region id ops true).wpIn (FW r) 0 P Q a w:=by
 have oO:bH F w F { w with drawn:=w.drawn+1 }:=xJ hs.hp.low rfl rfl rfl (bg _) (fun _ _=>rfl);unfold FX at h0;simp only[bS]at h0;obtain⟨⟨h1,h2⟩,h3⟩:=h0
 have bh:=(abt (K:=K) h1 (Qt ops.toList [] [] rfl rfl (fun k row h=>by cases h)) s _ [] _ t σ h3 (fun j o ho hl=>by
  rw[bK,xA]at hl
  split at hl <;> cases hl) h).1 rfl
 refine wpIn_mono (II hm cm ?_) QR
 have key:=acy (P:=P) (Q':=Q) ok hd (F0:=F) (w0:=w) hq ops.toList.length (List.replicate ops.toList.length false) t σ F { w with drawn:=w.drawn+1 } a (by
   unfold left
   refine Nat.le_trans (List.length_filter_le _ _) (by simp)) (by simp) bh ⟨hs.tm.mono oO,hs.hp.same oO (fun _ _=>rfl),hs.size,hs.defers.mono oO⟩ oO
 simpa using key
end
end Go.Proofs.YtnikdflhefijbaaGreat
