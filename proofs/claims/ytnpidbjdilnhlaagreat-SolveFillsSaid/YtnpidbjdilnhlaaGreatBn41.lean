import Derived.Test.YtnpidbjdilnhlaaGreatBn40
namespace Go.Proofs.YtnpidbjdilnhlaaGreat
open Go.RowKit
set_option maxRecDepth 100000
set_option maxHeartbeats 4000000
def dG(rw:List (Nat×List Int)):List AV:=rw.map fun r=>.ae r.1 0 r.2.length 1
def dw(rw:List (Nat×List Int)):Hp:=rw.map fun r=>(r.1,ak r.2)
theorem Ot(rw:List (Nat×List Int)):(dG rw).length=rw.length:=List.length_map _
def PO(P:List (List Int))(v:AV)(acc:Hp):Prop:=∃(ac:Hp) (rw:List (Nat×List Int)),acc=ac++dw rw∧Acc 1 rw.length v ac (dG rw)∧rw.map Prod.snd=P
theorem KE(w bi bl bo n:Nat)(N:List (List Int))(ix lo A B:List Int)(on:List Bool)(P:List (List Int))(aM:Nat)(vs vp:AV)(iX du:Hp)(a:Int)(σ:Hp)(h0:0≤a)(hn:a<n)(hi:ix.length=n)(hl:lo.length=n)(ho:on.length=n)(he:lo.getD a.toNat 0=ix.getD a.toNat 0)(Gi:a ∉ A)(hB:∀x∈a::B,0≤x∧x<n)(cc:(A++a::B).length≤10000)(jd:P.length≤10000)
  (hs:fu 1 (A++a::B).length vs iX (ak (A++a::B))) (hp:PO P vp du) :
  ACalls Tryz.prog 247 [.ptr w 0,.int .i64 a] ((w,bZ N bi bl bo n vs aM vp)::(bi,ak ix)::(bl,ak lo)::(bo,aZ on)::(iX++(du++σ)))
   (fun r σ'=>r=.tup []∧∃dg fN eH eF,fu 1 A.length dg fN (ak A)∧PO (P++[dU (a::B)]) eH eF∧σ'=(w,bZ N bi bl bo n dg aM eH)::(bi,ak ix)::(bl,ak lo)::(bo,aZ (dz (a::B) on))::(fN++(eF++σ))):=by
 obtain⟨ac,rw,rfl,hp,j4⟩:=hp
 have jd:rw.length≤10000:=by rw[← j4,List.length_map]at jd;exact jd
 rw[List.append_assoc]
 obtain⟨K,hK⟩:∃K,(A++a::B).length=K:=⟨_,rfl⟩
 obtain⟨L,hL⟩:∃L:List Int,a::B=L:=⟨_,rfl⟩
 obtain⟨q,hq⟩:∃q,L.length=q:=⟨_,rfl⟩
 have hKA:K=A.length+q:=by rw[← hK,List.length_append,hL,hq]
 have hq0:0<q:=by rw[← hq,← hL,List.length_cons];omega
 rw[hK]at hs cc
 obtain⟨bs,J,rfl,rfl,Gs⟩:=hs.pos (by omega)
 have e8:((ak (A++a::B)++J).drop A.length).take (q*1)=ak L:=by
  rw[hL]
  unfold ak
  rw[List.map_append,List.append_assoc,List.drop_append_of_le_length (by rw[List.length_map];exact Nat.le_refl _),List.drop_of_length_le (by rw[List.length_map];exact Nat.le_refl _),List.nil_append,List.take_append_of_le_length (by rw[List.length_map];omega),List.take_of_length_le (by rw[List.length_map];omega)]
 have dI:A.length+q*1≤(ak (A++a::B)++J).length:=by rw[List.length_append,Gs];omega
 refine okF Tryz.func247 (by kernel_rfl) ?_
 refine .quiet (by kernel_rfl) ?_
 refine aa.mk 0 _ _ rfl rfl ?_
 refine ah.mk ⟨rfl,by omega,by omega⟩ ?_
 refine aa.mk 2 _ _ rfl (dD rfl h0 (by omega)) ?_
 refine aa.mk 0 _ _ rfl rfl ?_
 refine ah.mk ⟨rfl,by omega,by omega⟩ ?_
 refine aa.mk 1 _ _ rfl (dD rfl h0 (by omega)) ?_
 refine bS (fun c =>?_) (fun c =>?_)
 ·exact absurd he (by simpa using c)
 clear c
 refine aa.mk 0 _ _ rfl rfl ?_
 refine az [4] (KF bs K A B J a _ hK Gi (by omega)) ?_
 refine aa.mk 1 _ _ rfl rfl ?_
 refine ah.mk ⟨by omega,by omega,by omega,rfl⟩ ?_
 have hC:∀σ,ACalls Tryz.prog 219 [.ae bs (0+((A.length:Nat):Int).toNat*1) (((K:Nat):Int).toNat-((A.length:Nat):Int).toNat) 1] ((bs,ak (A++a::B)++J)::σ) (fun x σ'=>∃b',x=.ae b' 0 q 1∧σ'=(b',ak L)::(bs,ak (A++a::B)++J)::σ):=fun σ=>by
  rw[show 0+((A.length:Nat):Int).toNat*1=A.length by omega,show ((K:Nat):Int).toNat-((A.length:Nat):Int).toNat=q by omega]
  exact KI bs A.length q _ _ σ e8 dI (by omega)
 refine .mk [0] _ (hC _) ?_
 rintro _ _ ⟨bp,rfl,rfl⟩
 refine aa.mk 2 _ _ rfl rfl ?_
 refine ah.mk ⟨by omega,by omega,by omega,by omega,rfl⟩ ?_
 refine ai.mk 2 _ _ rfl rfl ?_
 refine aU (S:=Nat) (fun i=>[(0,.ptr w 0),(5,.ae bp 0 q 1),(46,.ae bp 0 q 1),(47,.int .i64 q),(48,.int .i64 i)]) (fun i=>(bp,ak L)::(bs,ak (A++a::B)++J)::(w,bZ N bi bl bo n (.ae bs 0 A.length 1) aM vp)::(bi,ak ix)::(bl,ak lo)::(bo,aZ (dz (L.take i) on))::(ac++(dw rw++σ))) (fun i=>i≤q) (fun i=>q-i) 0 ⟨Nat.zero_le _,⟨rfl,rfl,rfl,rfl,rfl,trivial⟩,rfl⟩ ?_
 rintro i g cY
 have hiq:i≤q:=cY
 clear cY
 refine an (p:=(i:Int)<q) (fun ab =>?_) (fun aq =>?_)
 ·have ab:i<L.length:=by omega
  obtain⟨x,hx⟩:∃x,L[i]=x:=⟨_,rfl⟩
  have sn:=hB x (by rw[hL,← hx];exact List.getElem_mem ab)
  have gj:=zD (L.take i) on
  have E2:(dz (L.take i) on).set x.toNat false=dz (L.take (i+1)) on:=by unfold dz;rw[List.take_succ_eq_append_getElem ab,hx,List.foldl_append];rfl
  have lV:dy ⟨.int .i64,1,8,[.int .i64 0]⟩ (ak L) (0+((i:Nat):Int).toNat*1)=some (.int .i64 x):=by
   rw[dD rfl (by omega) (by omega),Int.toNat_natCast,List.getD_eq_getElem?_getD,List.getElem?_eq_getElem ab,hx];rfl
  refine ah.mk ⟨rfl,by omega,by omega⟩ ?_
  refine aa.mk 0 _ _ rfl lV ?_
  refine aa.mk 2 _ _ rfl rfl ?_
  refine ah.mk ⟨rfl,by omega,by omega⟩ ?_
  refine ai.mk 5 _ _ rfl (p7 rfl false sn.1 (by omega)) ?_
  exact aH (i+1) (by show q-(i+1)<q-i;omega) (by show i+1≤q;omega) ⟨rfl,rfl,rfl,rfl,aI (by omega),trivial⟩ (aF (by rw[E2];rfl))
 ·have aq:i=q:=by omega
  subst aq
  refine az [0] (Ec bp L i _ hq (by omega)) ?_
  refine aa.mk 2 _ _ rfl rfl ?_
  intro bM
  refine uw [_,_,_,_,_,_,_] hp.sl (.ae 0 bM 0 1 _ rfl (Nat.le_of_ble_eq_true rfl)) rfl (by omega) (by decide) (by decide) (fun v' aP h' =>?_)
  obtain⟨b5,rfl,rfl⟩:=oY (by omega) h'
  refine ai.mk 3 _ _ rfl rfl ?_
  have ey:((w,bZ N bi bl bo n (.ae bs 0 A.length 1) aM (.ae b5 0 (rw.length+1) 1))::(bi,ak ix)::(bl,ak lo)::(bo,aZ (dz (L.take i) on))::(bs,ak (A++a::B)++J)::([(b5,dG rw++[.ae bp 0 i 1])]++((dw rw++[(bp,ak (dU L))])++σ))).Perm ((bp,ak (dU L))::(bs,ak (A++a::B)++J)::(w,bZ N bi bl bo n (.ae bs 0 A.length 1) aM (.ae b5 0 (rw.length+1) 1))::(bi,ak ix)::(bl,ak lo)::(bo,aZ (dz (L.take i) on))::([(b5,dG rw++[.ae bp 0 i 1])]++(dw rw++σ))):=by
   have h1:∀(X:Hp) (x y:Nat×List AV),(X++(x::([(b5,dG rw++[.ae bp 0 i 1])]++((dw rw++[y])++σ)))).Perm (y::x::(X++([(b5,dG rw++[.ae bp 0 i 1])]++(dw rw++σ)))):=fun X x y=>by
    refine List.perm_middle.trans ?_
    refine (List.Perm.cons x ?_).trans (List.Perm.swap _ _ _)
    rw[List.append_assoc]
    have h2:([(b5,dG rw++[AV.ae bp 0 i 1])]++(dw rw++([y]++σ))).Perm (y::([(b5,dG rw++[.ae bp 0 i 1])]++(dw rw++σ))):=by
     have h3:=List.perm_middle (l₁:=[(b5,dG rw++[AV.ae bp 0 i 1])]++dw rw) (a:=y) (l₂:=σ)
     rw[List.append_assoc,List.append_assoc]at h3
     exact h3
    exact (List.Perm.append_left X h2).trans List.perm_middle
   exact h1 [_,_,_,_] _ _
  refine .drop 0 1 (.perm ey (.done ⟨rfl,.ae bs 0 A.length 1,[(bs,ak A++(ak L++J))],.ae b5 0 (rw.length+1) 1,[(b5,dG rw++[.ae bp 0 i 1])]++dw (rw++[(bp,dU L)]),.ae bs A.length (ak A) (ak L++J) (by rw[jm,Nat.mul_one]),⟨_,rw++[(bp,dU L)],rfl,?_,?_⟩,?_⟩))
  ·rw[List.length_append]
   have e:dG (rw++[(bp,dU L)])=dG rw++[.ae bp 0 i 1]:=by
    unfold dG
    rw[List.map_append]
    show _++[AV.ae bp 0 (dU L).length 1]=_
    rw[uv,hq]
   rw[e]
   exact .ae b5 (rw.length+1) _ (by rw[List.length_append,Ot,Nat.mul_one];rfl)
  ·rw[List.map_append,j4];subst hL;rfl
  ·rw[List.take_of_length_le (Nat.le_of_eq hq)]
   subst hL
   have e1:ak (A++a::B)++J=ak A++(ak (a::B)++J):=by unfold ak;rw[List.map_append,List.append_assoc]
   have e3:dw (rw++[(bp,dU (a::B))])=dw rw++[(bp,ak (dU (a::B)))]:=List.map_append
   rw[e1,e3]
   simp only[List.append_assoc,List.cons_append,List.nil_append]
theorem VM(n w bi bl bo:Nat)(l:List aK)(iZ qU:List Int)(qS:List Bool)(cq:Nat)(P0:List (List Int))(pH ek:AV)(qx fo:Hp)(a:Int)(σ:Hp)(hn:n≤1000)(h:FI n (au n l) iZ qU qS [] cq P0 [])(ha:0≤a∧a<n)(hf:iZ.getD a.toNat 0=0)(hs:fu 1 0 pH qx [])(hp:PO P0 ek fo):
  ACalls Tryz.prog 205 [.ptr w 0,.int .i64 a] ((w,bZ (bB n l) bi bl bo n pH cq ek)::(bi,ak iZ)::(bl,ak qU)::(bo,aZ qS)::(qx++(fo++σ)))
   (fun r σ'=>r=.tup []∧∃ix lo on aM P vs iX vp du,FI n (au n l) ix lo on [] aM P []∧fu 1 0 vs iX []∧PO P vp du∧ix.getD a.toNat 0≠0∧(∀b:Nat,iZ.getD b 0≠0→ix.getD b 0≠0)∧σ'=(w,bZ (bB n l) bi bl bo n vs aM vp)::(bi,ak ix)::(bl,ak lo)::(bo,aZ on)::(iX++(du++σ))):=by
 have hle:=h.uZ
 refine okF Tryz.func205 (by kernel_rfl) ?_
 refine Hi (S:=FrS) rfl (fun _=>0)
  (fun x=>[(0,.ptr w 0),(4,.ae x.2.2.2.1 0 (x.2.2.1.1.length+1) 2)])
  (fun x=>(w,bZ (bB n l) bi bl bo n (.ae x.2.1.1 0 x.1.2.2.2.1.length 1) x.1.2.2.2.2.1 x.2.1.2.2.1)::(bi,ak x.1.1)::(bl,ak x.1.2.1)::(bo,aZ x.1.2.2.1)::(x.2.1.1,ak x.1.2.2.2.1++x.2.1.2.1)::(x.2.2.2.1,a7 (x.2.2.1.1++[(x.2.2.1.2.1,x.2.2.1.2.2)])++x.2.2.2.2)::(x.2.1.2.2.2++σ))
  (fun x=>(FI n (au n l) x.1.1 x.1.2.1 x.1.2.2.1 x.1.2.2.2.1 x.1.2.2.2.2.1 x.1.2.2.2.2.2 (x.2.2.1.1++[(x.2.2.1.2.1,x.2.2.1.2.2)])∧PO x.1.2.2.2.2.2 x.2.1.2.2.1 x.2.1.2.2.2)∧x.1.1.getD a.toNat 0≠0∧∀b:Nat,iZ.getD b 0≠0→x.1.1.getD b 0≠0)
  (fun x=>fQ (au n l) (x.2.2.1.1++[(x.2.2.1.2.1,x.2.2.1.2.2)])+fp (au n l) x.1.1 n) ?_ ?_
 ·rintro⟨⟨ix,lo,on,st,aM,P⟩,⟨bs,Js,vp,du⟩,⟨wy,v,k⟩,⟨bw,J⟩⟩ g ⟨⟨oK,pQ⟩,mL,yX⟩
  have hF:FI n (au n l) ix lo on st aM P (wy++[(v,k)]):=oK
  have hP:PO P vp du:=pQ
  have hA:ix.getD a.toNat 0≠0:=mL
  have hM:∀b:Nat,iZ.getD b 0≠0→ix.getD b 0≠0:=yX
  clear oK pQ mL yX
  have hle:=hF.uZ
  have bD:=hF.mem
  have cW:=hF.tj.node v bD
  have vN:k≤(au n l v).length:=hF.tn (v,k) (List.mem_append_right _ (List.mem_singleton.2 rfl))
  have iJ:=rC n l v
  have oy:wy.length+1≤st.length:=by
   have:=hF.tj.sub.length_le
   rw[List.length_map,List.length_append]at this
   exact this
  have ko:IntKind.i64.wrap (((wy.length+1:Nat):Int)-1)=((wy.length:Nat):Int):=by rw[ic (by omega)];omega
  have hX:0+(IntKind.i64.wrap (((wy.length+1:Nat):Int)-1)).toNat*2=wy.length*2:=by rw[ko];omega
  have j5:dy ⟨.int .i64,1,8,[.int .i64 0]⟩ (a7 (wy++[(v,k)])++J) (0+(IntKind.i64.wrap (((wy.length+1:Nat):Int)-1)).toNat*2+0)=some (.int .i64 v):=eO rfl (by rw[hX];exact nJ rfl)
  have jc:dy ⟨.int .i64,1,8,[.int .i64 0]⟩ (a7 (wy++[(v,k)])++J) (0+(IntKind.i64.wrap (((wy.length+1:Nat):Int)-1)).toNat*2+1)=some (.int .i64 k):=eO rfl (by rw[hX];exact wD rfl)
  have dI:(a7 (wy++[(v,k)])++J).length=wy.length*2+2+J.length:=by rw[List.length_append,jO,List.length_append];show (wy.length+1)*2+_=_;omega
  have im:IntKind.i64.wrap ((k:Int)+1)=((k+1:Nat):Int):=by rw[ic (by omega)];omega
  have qW:ju ⟨.int .i64,1,8,[.int .i64 0]⟩ (a7 (wy++[(v,k)])++J) (0+(IntKind.i64.wrap (((wy.length+1:Nat):Int)-1)).toNat*2+1) (.int .i64 (IntKind.i64.wrap ((k:Int)+1)))=some (a7 (wy++[(v,k+1)])++J):=by
   rw[l6 rfl rfl (by rw[hX,dI];omega),hX,im,wO rfl]
  have qo:2=2∧0≤IntKind.i64.wrap (((wy.length+1:Nat):Int)-1)∧IntKind.i64.wrap (((wy.length+1:Nat):Int)-1)<((wy.length+1:Nat):Int):=⟨rfl,by omega,by omega⟩
  refine ah.mk qo ?_
  refine .quiet (by kernel_rfl) ?_
  refine aa.mk 5 _ _ rfl jc ?_
  refine aa.mk 0 _ _ rfl rfl ?_
  refine aa.mk 5 _ _ rfl j5 ?_
  refine ah.mk rfl ?_
  refine aT.mk (au n l v) (by omega) (lA cW) ?_
  refine an (p:=(k:Int)<(au n l v).length) (fun ab =>?_) (fun aq =>?_)
  ·have ab:k<(au n l v).length:=by omega
   obtain⟨b,hb⟩:∃b,(au n l v)[k]=b:=⟨_,rfl⟩
   have oH:b∈au n l v:=hb▸List.getElem_mem ab
   have cC:=(iv.1 oH).1
   refine .quiet (by kernel_rfl) ?_
   refine aa.mk 0 _ _ rfl rfl ?_
   refine aa.mk 5 _ _ rfl j5 ?_
   refine ah.mk rfl ?_
   refine aT.mk (au n l v) (by omega) (lA cW) ?_
   refine aa.mk 5 _ _ rfl jc ?_
   refine ah.mk rfl ?_
   refine aT.mk b (by omega) ((get_some ab).trans (congrArg some hb)) ?_
   refine aa.mk 5 _ _ rfl jc ?_
   refine ai.mk 5 _ _ rfl qW ?_
   refine aa.mk 0 _ _ rfl rfl ?_
   refine ah.mk ⟨rfl,by omega,by omega⟩ ?_
   refine aa.mk 1 _ _ rfl (dD rfl cC.1 (by rw[hF.li];omega)) ?_
   refine an (p:=ix.getD b.toNat 0=0) (fun c1 =>?_) (fun c1 =>?_)
   ·have hN:=hF.new ab hb cC c1
    have cX:(ak st).length=st.length*1:=by rw[jm,Nat.mul_one]
    refine .mk [] _ (vc w bi bl bo n (bB n l) ix lo st on aM _ vp _ b ((bw,a7 (wy++[(v,k+1)])++J)::(du++σ)) cC.1 cC.2 hF.li hF.ll hF.ig (.ae bs st.length (ak st) Js cX) (by omega) (by omega)) ?_
    rintro _ _ ⟨rfl,vF,xH,dR,rfl⟩
    obtain⟨ji,lp,rfl,rfl,_⟩:=dR.pos (by rw[List.length_append];show 0<_+1;omega)
    intro aC
    have Bt:(a7 (wy++[(v,k+1)])).length=(wy.length+1)*2:=by rw[jO,List.length_append];rfl
    refine sR (k:=wy.length+1) (n:=1) [_,_,_,_,_,_] (.ae bw (wy.length+1) (a7 (wy++[(v,k+1)])) J Bt) (.ae 0 aC 0 1 _ rfl (Nat.le_of_ble_eq_true rfl)) rfl (by omega) (by decide) (by decide) (fun v' aP h' =>?_)
    obtain⟨lj,J2,rfl,rfl,_⟩:=h'.pos (by omega)
    have FV:(wy++[(v,k+1)]).length+1=wy.length+1+1:=by rw[List.length_append];rfl
    have rf:(b.toNat:Int)=b:=Int.toNat_of_nonneg cC.1
    have oz:=Dl (nx:=au n l) (ix:=ix) (b:=b.toNat) (v:=((aM+1:Nat):Int)) (by omega) c1 (by rw[hF.li];omega) n
    rw[if_pos (by omega),rf]at oz
    refine .mk ((ix.set b.toNat ((aM+1:Nat):Int),lo.set b.toNat ((aM+1:Nat):Int),on.set b.toNat true,st++[b],aM+1,P),(ji,lp,vp,du),(wy++[(v,k+1)],b,0),(lj,J2)) rfl ?_ ⟨⟨hN,hP⟩,?_,?_⟩ ⟨rfl,by rw[FV];rfl,trivial⟩ (.drop 0 1 (aF (by rw[lr (wy++[(v,k+1)])];rfl)))
    ·show fQ (au n l) ((wy++[(v,k+1)])++[(b,0)])+fp (au n l) (ix.set b.toNat ((aM+1:Nat):Int)) n<fQ (au n l) (wy++[(v,k)])+fp (au n l) ix n
     rw[jr,jr,jr];omega
    ·show (ix.set b.toNat ((aM+1:Nat):Int)).getD a.toNat 0≠0
     rw[jP];split
     ·omega
     ·exact hA
    ·intro z hz
     show (ix.set b.toNat ((aM+1:Nat):Int)).getD z 0≠0
     rw[jP];split
     ·omega
     ·exact hM z hz
   ·have c1:¬(ix.getD b.toNat 0=0):=c1
    refine aa.mk 0 _ _ rfl rfl ?_
    refine ah.mk ⟨rfl,by omega,by omega⟩ ?_
    have lW:=hF.qR b cC.1 cC.2
    have xX:dy ⟨.int .i64,1,8,[.int .i64 0]⟩ (a7 (wy++[(v,k+1)])++J) (0+(IntKind.i64.wrap (((wy.length+1:Nat):Int)-1)).toNat*2+0)=some (.int .i64 v):=eO rfl (by rw[hX];exact nJ rfl)
    refine aa.gy 3 _ _ rfl (mV rfl cC.1 (by rw[hF.ig];omega)) (fun c2 =>?_) (fun c2 =>?_)
    ·rw[lW]at c2
     have hO:=hF.Bp ab hb (of_decide_eq_true c2)
     refine .sched [] (upto [] 28 0) (by kernel_rfl) ?_
     refine aa.mk 0 _ _ rfl rfl ?_
     refine aa.mk 5 _ _ rfl xX ?_
     refine aa.mk 0 _ _ rfl rfl ?_
     refine aa.mk 5 _ _ rfl xX ?_
     refine ah.mk ⟨rfl,by omega,by omega⟩ ?_
     refine aa.mk 2 _ _ rfl (dD rfl cW.1 (by rw[hF.ll];omega)) ?_
     refine aa.mk 0 _ _ rfl rfl ?_
     refine ah.mk ⟨rfl,by omega,by omega⟩ ?_
     refine aa.mk 1 _ _ rfl (dD rfl cC.1 (by rw[hF.li];omega)) ?_
     refine ah.mk ⟨rfl,by omega,by omega⟩ ?_
     refine ai.mk 2 _ _ rfl (jw rfl _ cW.1 (by rw[hF.ll];omega)) ?_
     have gg:(if ix.getD b.toNat 0<lo.getD v.toNat 0 then ix.getD b.toNat 0 else lo.getD v.toNat 0)=min (lo.getD v.toNat 0) (ix.getD b.toNat 0):=by split <;> omega
     refine .mk ((ix,lo.set v.toNat (min (lo.getD v.toNat 0) (ix.getD b.toNat 0)),on,st,aM,P),(bs,Js,vp,du),(wy,v,k+1),(bw,J)) rfl ?_ ⟨⟨hO,hP⟩,hA,hM⟩ ⟨rfl,rfl,trivial⟩ (aF (by rw[← gg];rfl))
     show fQ (au n l) (wy++[(v,k+1)])+fp (au n l) ix n<fQ (au n l) (wy++[(v,k)])+fp (au n l) ix n
     rw[jr,jr];omega
    ·rw[lW]at c2
     have hO:=hF.off ab hb cC.1 c1 (of_decide_eq_false c2)
     refine .mk ((ix,lo,on,st,aM,P),(bs,Js,vp,du),(wy,v,k+1),(bw,J)) rfl ?_ ⟨⟨hO,hP⟩,hA,hM⟩ ⟨rfl,rfl,trivial⟩ (.refl _)
     show fQ (au n l) (wy++[(v,k+1)])+fp (au n l) ix n<fQ (au n l) (wy++[(v,k)])+fp (au n l) ix n
     rw[jr,jr];omega
  ·have aq:k=(au n l v).length:=by omega
   have j4:dy ⟨.aX [(0,3),(1,3)],2,16,[.int .i64 0,.int .i64 0]⟩ (a7 (wy++[(v,k)])++J) (0+(IntKind.i64.wrap (((wy.length+1:Nat):Int)-1)).toNat*2)=some (.agg [.int .i64 v,.int .i64 k]):=J5 rfl (by rw[hX,dI];show wy.length*2+2≤_;omega) (by rw[hX];exact Hk rfl)
   refine aa.mk 5 _ _ rfl j4 ?_
   intro bt
   refine ai.mk 0 _ _ rfl rfl ?_
   refine aa.mk 0 _ _ rfl rfl ?_
   have mf:(IntKind.i64.wrap (((wy.length+1:Nat):Int)-1)).toNat-Int.toNat 0=wy.length:=by rw[ko];omega
   have cc:0≤(0:Int)∧(0:Int)≤IntKind.i64.wrap (((wy.length+1:Nat):Int)-1)∧IntKind.i64.wrap (((wy.length+1:Nat):Int)-1)≤((wy.length+1:Nat):Int)∧2=2:=⟨by omega,by omega,by omega,rfl⟩
   by_cases he:lo.getD v.toNat 0=ix.getD v.toNat 0
   ·obtain⟨A,B,ar,y7,hB1⟩:=Iu hF.tj.inc bD
    have FO:v ∉ A:=fun hm=>by have:=y7 v hm;omega
    have FN:∀x∈v::B,0≤x∧x<(n:Int):=fun x hx=>hF.tj.node x (by rw[ar];exact List.mem_append_right _ hx)
    have bC:=pX hF.tj.inc
    rw[ar]at bC
    have hT:=hF.tell (by omega) ar he (fun x y hy=>(iv.1 hy).1) (wj (v::B)) (zy (List.nodup_append.1 bC).2.1)
    have yV:=zJ hF.tj.prt
    subst ar
    have cX:(ak (A++v::B)).length=(A++v::B).length*1:=by rw[jm,Nat.mul_one]
    refine .perm _ (rD [_,_,_,_,_] du σ _ _) (KE w bi bl bo n (bB n l) ix lo A B on P aM _ vp _ du v _ cW.1 cW.2 hF.li hF.ll hF.ig he FO FN (by omega) (by omega) (.ae bs (A++v::B).length (ak (A++v::B)) Js cX) hP) ?_
    rintro _ _ ⟨rfl,dg,fN,eH,eF,cI,oE,rfl⟩
    have ey:((bt,[AV.int .i64 v,.int .i64 k])::(w,bZ (bB n l) bi bl bo n dg aM eH)::(bi,ak ix)::(bl,ak lo)::(bo,aZ (dz (v::B) on))::(bw,a7 (wy++[(v,k)])++J)::(fN++(eF++σ))).Perm ((w,bZ (bB n l) bi bl bo n dg aM eH)::(bi,ak ix)::(bl,ak lo)::(bo,aZ (dz (v::B) on))::(fN++(eF++((bt,[AV.int .i64 v,.int .i64 k])::(bw,a7 (wy++[(v,k)])++J)::σ)))):=by
     have h1:=(rD [(w,bZ (bB n l) bi bl bo n dg aM eH),(bi,ak ix),(bl,ak lo),(bo,aZ (dz (v::B) on))] (fN++eF) σ (bt,[AV.int .i64 v,.int .i64 k]) (bw,a7 (wy++[(v,k)])++J)).symm
     rw[List.append_assoc,List.append_assoc]at h1
     exact h1
    refine⟨_,ey,?_⟩
    refine ah.mk cc ?_
    rcases List.eq_nil_or_concat wy with cH | ⟨w',⟨u,i⟩,cH⟩
    ·have mh:wy.length=0:=by rw[cH];rfl
     rw[cH]at hT
     obtain rfl:A=[]:=hT.KS
     refine an (p:=(0:Int)<(((IntKind.i64.wrap (((wy.length+1:Nat):Int)-1)).toNat-Int.toNat 0:Nat):Int)) (fun c3 =>?_) (fun c3 =>?_)
     ·rw[mf,mh]at c3;exact absurd c3 (by decide)
     ·refine .drop 0 1 (.drop 4 1 (.done ⟨rfl,ix,lo,dz (v::B) on,aM,P++[dU (v::B)],dg,fN,eH,eF,hT,cI,oE,hA,hM,rfl⟩))
    ·have cH:wy=w'++[(u,i)]:=by simpa using cH
     have mh:wy.length=w'.length+1:=by rw[cH,List.length_append];rfl
     have fR:(IntKind.i64.wrap (((wy.length+1:Nat):Int)-1)).toNat-Int.toNat 0=w'.length+1:=mf.trans mh
     have kM:IntKind.i64.wrap ((((IntKind.i64.wrap (((wy.length+1:Nat):Int)-1)).toNat-Int.toNat 0:Nat):Int)-1)=((w'.length:Nat):Int):=by rw[fR,ic (by omega)];omega
     have ui:(0+Int.toNat 0*2)+(IntKind.i64.wrap ((((IntKind.i64.wrap (((wy.length+1:Nat):Int)-1)).toNat-Int.toNat 0:Nat):Int)-1)).toNat*2+0=w'.length*2:=by rw[kM,Int.toNat_natCast];show 0+0*2+_+0=_;omega
     have kS:a7 (wy++[(v,k)])++J=a7 (w'++[(u,i)])++([.int .i64 v,.int .i64 k]++J):=by rw[cH,lr,List.append_assoc];rfl
     have oz:dy ⟨.int .i64,1,8,[.int .i64 0]⟩ (a7 (wy++[(v,k)])++J) ((0+Int.toNat 0*2)+(IntKind.i64.wrap ((((IntKind.i64.wrap (((wy.length+1:Nat):Int)-1)).toNat-Int.toNat 0:Nat):Int)-1)).toNat*2+0)=some (.int .i64 u):=eO rfl (by rw[ui,kS];exact nJ rfl)
     have eb:0≤u∧u<(n:Int):=hF.tj.node u (hF.tj.sub.subset (by rw[cH];simp))
     have e8:AV.ae bw (0+Int.toNat 0*2) ((IntKind.i64.wrap (((wy.length+1:Nat):Int)-1)).toNat-Int.toNat 0) 2=.ae bw 0 (w'.length+1) 2:=by rw[fR];rfl
     have EG:AV.ae bw 0 (w'.length+1) 2=AV.ae bw (0+Int.toNat 0*2) ((IntKind.i64.wrap (((wy.length+1:Nat):Int)-1)).toNat-Int.toNat 0) 2:=e8.symm
     refine an (p:=(0:Int)<(((IntKind.i64.wrap (((wy.length+1:Nat):Int)-1)).toNat-Int.toNat 0:Nat):Int)) (fun c3 =>?_) (fun c3 =>?_)
     rotate_left
     ·rw[fR]at c3;omega
     have te:2=2∧0≤IntKind.i64.wrap ((((IntKind.i64.wrap (((wy.length+1:Nat):Int)-1)).toNat-Int.toNat 0:Nat):Int)-1)∧IntKind.i64.wrap ((((IntKind.i64.wrap (((wy.length+1:Nat):Int)-1)).toNat-Int.toNat 0:Nat):Int)-1)<(((IntKind.i64.wrap (((wy.length+1:Nat):Int)-1)).toNat-Int.toNat 0:Nat):Int):=⟨rfl,by rw[kM];omega,by rw[kM,fR];omega⟩
     refine ah.mk te ?_
     refine aa.mk 5 _ _ rfl oz ?_
     refine .sched [] (upto [] 23 0) (by kernel_rfl) ?_
     refine aa.mk 1 _ _ rfl rfl ?_
     refine aa.mk 1 _ _ rfl rfl ?_
     refine ah.mk ⟨rfl,by omega,by omega⟩ ?_
     refine aa.mk 3 _ _ rfl (dD rfl eb.1 (by rw[hF.ll];omega)) ?_
     refine aa.mk 1 _ _ rfl rfl ?_
     refine aa.mk 0 _ _ rfl rfl ?_
     refine ah.mk ⟨rfl,by omega,by omega⟩ ?_
     refine aa.mk 3 _ _ rfl (dD rfl cW.1 (by rw[hF.ll];omega)) ?_
     refine ah.mk ⟨rfl,by omega,by omega⟩ ?_
     refine ai.mk 3 _ _ rfl (jw rfl _ eb.1 (by rw[hF.ll];omega)) ?_
     have gg:(if lo.getD v.toNat 0<lo.getD u.toNat 0 then lo.getD v.toNat 0 else lo.getD u.toNat 0)=min (lo.getD u.toNat 0) (lo.getD v.toNat 0):=by split <;> omega
     have y5:0<A.length:=List.length_pos_of_mem (a:=u) (hT.tj.sub.subset (by rw[cH];simp))
     obtain⟨ji,lp,rfl,rfl,_⟩:=cI.pos y5
     have vl:=FI.same (cH▸hF) he
     rw[cH]at hT
     have hE:(w,bZ (bB n l) bi bl bo n (.ae ji 0 A.length 1) aM eH)::(bi,ak ix)::(bl,ak (lo.set u.toNat (if lo.getD v.toNat 0<lo.getD u.toNat 0 then lo.getD v.toNat 0 else lo.getD u.toNat 0)))::(bo,aZ (dz (v::B) on))::(ji,ak A++lp)::(bw,a7 (wy++[(v,k)])++J)::(eF++σ)=(w,bZ (bB n l) bi bl bo n (.ae ji 0 A.length 1) aM eH)::(bi,ak ix)::(bl,ak (lo))::(bo,aZ (dz (v::B) on))::(ji,ak A++lp)::(bw,a7 (w'++[(u,i)])++([.int .i64 v,.int .i64 k]++J))::(eF++σ):=by rw[gg,vl,kS]
     refine .mk ((ix,lo,dz (v::B) on,A,aM,P++[dU (v::B)]),(ji,lp,eH,eF),(w',u,i),(bw,[AV.int .i64 v,.int .i64 k]++J)) rfl ?_ ⟨⟨hT,oE⟩,hA,hM⟩ ⟨rfl,e8,trivial⟩ (.drop 0 1 (.pull [4,4,4,4,5] (aF hE)))
     show fQ (au n l) (w'++[(u,i)])+fp (au n l) ix n<fQ (au n l) (wy++[(v,k)])+fp (au n l) ix n
     rw[cH,jr (au n l) (w'++[(u,i)])];omega
   ·have Gr:=fun ρ=>JR w bi bl bo n (bB n l) ix lo on aM (.ae bs 0 st.length 1) vp v ρ cW.1 cW.2 hF.li hF.ll he
    refine az [4,4,4,4] (Gr _) ?_
    refine ah.mk cc ?_
    rcases List.eq_nil_or_concat wy with cH | ⟨w',⟨u,i⟩,cH⟩
    ·have mh:wy.length=0:=by rw[cH];rfl
     rw[cH]at hF
     exact absurd hF.one he
    ·have cH:wy=w'++[(u,i)]:=by simpa using cH
     have mh:wy.length=w'.length+1:=by rw[cH,List.length_append];rfl
     have fR:(IntKind.i64.wrap (((wy.length+1:Nat):Int)-1)).toNat-Int.toNat 0=w'.length+1:=mf.trans mh
     have kM:IntKind.i64.wrap ((((IntKind.i64.wrap (((wy.length+1:Nat):Int)-1)).toNat-Int.toNat 0:Nat):Int)-1)=((w'.length:Nat):Int):=by rw[fR,ic (by omega)];omega
     have ui:(0+Int.toNat 0*2)+(IntKind.i64.wrap ((((IntKind.i64.wrap (((wy.length+1:Nat):Int)-1)).toNat-Int.toNat 0:Nat):Int)-1)).toNat*2+0=w'.length*2:=by rw[kM,Int.toNat_natCast];show 0+0*2+_+0=_;omega
     have kS:a7 (wy++[(v,k)])++J=a7 (w'++[(u,i)])++([.int .i64 v,.int .i64 k]++J):=by rw[cH,lr,List.append_assoc];rfl
     have oz:dy ⟨.int .i64,1,8,[.int .i64 0]⟩ (a7 (wy++[(v,k)])++J) ((0+Int.toNat 0*2)+(IntKind.i64.wrap ((((IntKind.i64.wrap (((wy.length+1:Nat):Int)-1)).toNat-Int.toNat 0:Nat):Int)-1)).toNat*2+0)=some (.int .i64 u):=eO rfl (by rw[ui,kS];exact nJ rfl)
     have eb:0≤u∧u<(n:Int):=hF.tj.node u (hF.tj.sub.subset (by rw[cH];simp))
     have e8:AV.ae bw (0+Int.toNat 0*2) ((IntKind.i64.wrap (((wy.length+1:Nat):Int)-1)).toNat-Int.toNat 0) 2=.ae bw 0 (w'.length+1) 2:=by rw[fR];rfl
     have EG:AV.ae bw 0 (w'.length+1) 2=AV.ae bw (0+Int.toNat 0*2) ((IntKind.i64.wrap (((wy.length+1:Nat):Int)-1)).toNat-Int.toNat 0) 2:=e8.symm
     refine an (p:=(0:Int)<(((IntKind.i64.wrap (((wy.length+1:Nat):Int)-1)).toNat-Int.toNat 0:Nat):Int)) (fun c3 =>?_) (fun c3 =>?_)
     rotate_left
     ·rw[fR]at c3;omega
     have te:2=2∧0≤IntKind.i64.wrap ((((IntKind.i64.wrap (((wy.length+1:Nat):Int)-1)).toNat-Int.toNat 0:Nat):Int)-1)∧IntKind.i64.wrap ((((IntKind.i64.wrap (((wy.length+1:Nat):Int)-1)).toNat-Int.toNat 0:Nat):Int)-1)<(((IntKind.i64.wrap (((wy.length+1:Nat):Int)-1)).toNat-Int.toNat 0:Nat):Int):=⟨rfl,by rw[kM];omega,by rw[kM,fR];omega⟩
     refine ah.mk te ?_
     refine aa.mk 6 _ _ rfl oz ?_
     refine .sched [] (upto [] 23 0) (by kernel_rfl) ?_
     refine aa.mk 0 _ _ rfl rfl ?_
     refine aa.mk 0 _ _ rfl rfl ?_
     refine ah.mk ⟨rfl,by omega,by omega⟩ ?_
     refine aa.mk 2 _ _ rfl (dD rfl eb.1 (by rw[hF.ll];omega)) ?_
     refine aa.mk 0 _ _ rfl rfl ?_
     refine aa.mk 4 _ _ rfl rfl ?_
     refine ah.mk ⟨rfl,by omega,by omega⟩ ?_
     refine aa.mk 2 _ _ rfl (dD rfl cW.1 (by rw[hF.ll];omega)) ?_
     refine ah.mk ⟨rfl,by omega,by omega⟩ ?_
     refine ai.mk 2 _ _ rfl (jw rfl _ eb.1 (by rw[hF.ll];omega)) ?_
     have gg:(if lo.getD v.toNat 0<lo.getD u.toNat 0 then lo.getD v.toNat 0 else lo.getD u.toNat 0)=min (lo.getD u.toNat 0) (lo.getD v.toNat 0):=by split <;> omega
     have hU:=FI.up (cH▸hF) (by omega) he
     have hE:(w,bZ (bB n l) bi bl bo n (.ae bs 0 st.length 1) aM vp)::(bi,ak ix)::(bl,ak (lo.set u.toNat (if lo.getD v.toNat 0<lo.getD u.toNat 0 then lo.getD v.toNat 0 else lo.getD u.toNat 0)))::(bo,aZ (on))::(bs,ak st++Js)::(bw,a7 (wy++[(v,k)])++J)::(du++σ)=(w,bZ (bB n l) bi bl bo n (.ae bs 0 st.length 1) aM vp)::(bi,ak ix)::(bl,ak (lo.set u.toNat (min (lo.getD u.toNat 0) (lo.getD v.toNat 0))))::(bo,aZ (on))::(bs,ak st++Js)::(bw,a7 (w'++[(u,i)])++([.int .i64 v,.int .i64 k]++J))::(du++σ):=by rw[gg,kS]
     refine .mk ((ix,lo.set u.toNat (min (lo.getD u.toNat 0) (lo.getD v.toNat 0)),on,st,aM,P),(bs,Js,vp,du),(w',u,i),(bw,[AV.int .i64 v,.int .i64 k]++J)) rfl ?_ ⟨⟨hU,hP⟩,hA,hM⟩ ⟨rfl,e8,trivial⟩ (.drop 4 1 (aF hE))
     show fQ (au n l) (w'++[(u,i)])+fp (au n l) ix n<fQ (au n l) (wy++[(v,k)])+fp (au n l) ix n
     rw[cH,jr (au n l) (w'++[(u,i)])];omega
 ·intro hr
  obtain⟨ix,lo,on,hF,hA,hM,heq,Gv⟩:∃ix lo on,FI n (au n l) ix lo on [a] (cq+1) P0 [(a,0)]∧ix.getD a.toNat 0≠0∧(∀b:Nat,iZ.getD b 0≠0→ix.getD b 0≠0)∧lo.getD a.toNat 0=ix.getD a.toNat 0∧∀ρ,ACalls Tryz.prog 246 [.ptr w 0,.int .i64 a] ((w,bZ (bB n l) bi bl bo n pH cq ek)::(bi,ak iZ)::(bl,ak qU)::(bo,aZ qS)::(qx++ρ))
    (fun r σ'=>r=.agg [.int .i64 a,.int .i64 0]∧∃bs Js,σ'=(w,bZ (bB n l) bi bl bo n (.ae bs 0 [a].length 1) (cq+1) ek)::(bi,ak ix)::(bl,ak lo)::(bo,aZ on)::(bs,ak [a]++Js)::ρ):=by
   have h1:=h.enter (way2:=[]) ha hf (fun v hv=>by cases hv) rfl (fun t ht=>by cases ht) (fun t ht=>by cases ht)
   refine⟨_,_,_,h1,?_,?_,?_,fun ρ=>(vc w bi bl bo n (bB n l) iZ qU [] qS cq pH ek qx a ρ ha.1 ha.2 h.li h.ll h.ig hs (Nat.zero_le _) (by omega)).mono ?_⟩
   ·rw[jP,if_pos ⟨rfl,by rw[h.li];omega⟩];omega
   ·intro z hz
    rw[jP];split
    ·omega
    ·exact hz
   ·rw[jP,jP,if_pos ⟨rfl,by rw[h.ll];omega⟩,if_pos ⟨rfl,by rw[h.li];omega⟩]
   ·rintro _ _ ⟨rfl,vF,xH,dR,rfl⟩
    obtain⟨bs,Js,rfl,rfl,_⟩:=dR.pos (by show 0<1;decide)
    exact⟨rfl,bs,Js,rfl⟩
  clear hf hs h
  have hle:=hF.uZ
  have vN:=rC n l a
  refine .mk [] _ (Gv (fo++σ)) ?_
  rintro _ _ ⟨rfl,bs,Js,rfl⟩
  intro bw
  refine ah.mk ⟨rfl,by decide,by decide⟩ ?_
  refine .quiet (by kernel_rfl) ?_
  refine aa.mk 0 _ _ rfl rfl ?_
  refine aa.mk 1 _ _ rfl rfl ?_
  refine aa.mk 0 _ _ rfl rfl ?_
  refine ah.mk rfl ?_
  refine aT.mk (au n l a) (by omega) (lA ha) ?_
  refine an (p:=(0:Int)<(au n l a).length) (fun ab =>?_) (fun aq =>?_)
  ·have ab:0<(au n l a).length:=by omega
   obtain⟨b,hb⟩:∃b,(au n l a)[0]=b:=⟨_,rfl⟩
   have oH:b∈au n l a:=hb▸List.getElem_mem ab
   have cC:=(iv.1 oH).1
   refine .quiet (by kernel_rfl) ?_
   refine aa.mk 1 _ _ rfl rfl ?_
   refine aa.mk 0 _ _ rfl rfl ?_
   refine ah.mk rfl ?_
   refine aT.mk (au n l a) (by omega) (lA ha) ?_
   refine aa.mk 0 _ _ rfl rfl ?_
   refine ah.mk rfl ?_
   refine aT.mk b (by decide) ((get_some ab).trans (congrArg some hb)) ?_
   refine aa.mk 0 _ _ rfl rfl ?_
   refine ai.mk 0 _ _ rfl rfl ?_
   refine aa.mk 1 _ _ rfl rfl ?_
   refine ah.mk ⟨rfl,by omega,by omega⟩ ?_
   refine aa.mk 2 _ _ rfl (dD rfl cC.1 (by rw[hF.li];omega)) ?_
   refine an (p:=ix.getD b.toNat 0=0) (fun c1 =>?_) (fun c1 =>?_)
   ·have hN:=FI.new (w:=[]) hF ab hb cC c1
    refine .mk [5,5,5,5,5] _ (vc w bi bl bo n (bB n l) ix lo [a] on (cq+1) _ ek _ b ((bw,[.int .i64 a,.int .i64 1])::(fo++σ)) cC.1 cC.2 hF.li hF.ll hF.ig (.ae bs 1 (ak [a]) Js rfl) (by show 1≤10000;decide) (by omega)) ?_
    rintro _ _ ⟨rfl,vF,xH,dR,rfl⟩
    obtain⟨ji,lp,rfl,rfl,_⟩:=dR.pos (by show 0<2;decide)
    intro aC
    refine sR (k:=1) (n:=1) [_,_,_,_,_,_] (.ae bw 1 (a7 [(a,1)]) [] rfl) (.ae 0 aC 0 1 _ rfl (Nat.le_of_ble_eq_true rfl)) rfl (by decide) (by decide) (by decide) (fun v' aP h' =>?_)
    obtain⟨lj,J2,rfl,rfl,_⟩:=h'.pos (by decide)
    refine rG hr ((ix.set b.toNat ((cq+1+1:Nat):Int),lo.set b.toNat ((cq+1+1:Nat):Int),on.set b.toNat true,[a]++[b],cq+1+1,P0),(ji,lp,ek,fo),([(a,1)],b,0),(lj,J2)) ⟨rfl,⟨⟨hN,hp⟩,?_,?_⟩,⟨rfl,rfl,trivial⟩,.drop 0 1 (aF rfl)⟩
    ·show (ix.set b.toNat ((cq+1+1:Nat):Int)).getD a.toNat 0≠0
     rw[jP];split
     ·omega
     ·exact hA
    ·intro z hz
     show (ix.set b.toNat ((cq+1+1:Nat):Int)).getD z 0≠0
     rw[jP];split
     ·omega
     ·exact hM z hz
   ·have c1:¬(ix.getD b.toNat 0=0):=c1
    have lW:=hF.qR b cC.1 cC.2
    refine aa.mk 1 _ _ rfl rfl ?_
    refine ah.mk ⟨rfl,by omega,by omega⟩ ?_
    refine aa.gy 4 _ _ rfl (mV rfl cC.1 (by rw[hF.ig];omega)) (fun c2 =>?_) (fun c2 =>?_)
    ·rw[lW]at c2
     have hO:=FI.Bp (w:=[]) hF ab hb (of_decide_eq_true c2)
     refine .sched [] (upto [] 28 0) (by kernel_rfl) ?_
     refine aa.mk 1 _ _ rfl rfl ?_
     refine aa.mk 0 _ _ rfl rfl ?_
     refine aa.mk 1 _ _ rfl rfl ?_
     refine aa.mk 0 _ _ rfl rfl ?_
     refine ah.mk ⟨rfl,by omega,by omega⟩ ?_
     refine aa.mk 3 _ _ rfl (dD rfl ha.1 (by rw[hF.ll];omega)) ?_
     refine aa.mk 1 _ _ rfl rfl ?_
     refine ah.mk ⟨rfl,by omega,by omega⟩ ?_
     refine aa.mk 2 _ _ rfl (dD rfl cC.1 (by rw[hF.li];omega)) ?_
     refine ah.mk ⟨rfl,by omega,by omega⟩ ?_
     refine ai.mk 3 _ _ rfl (jw rfl _ ha.1 (by rw[hF.ll];omega)) ?_
     have gg:(if ix.getD b.toNat 0<lo.getD a.toNat 0 then ix.getD b.toNat 0 else lo.getD a.toNat 0)=min (lo.getD a.toNat 0) (ix.getD b.toNat 0):=by split <;> omega
     have hE:(w,bZ (bB n l) bi bl bo n (.ae bs 0 [a].length 1) (cq+1) ek)::(bi,ak ix)::(bl,ak (lo.set a.toNat (if ix.getD b.toNat 0<lo.getD a.toNat 0 then ix.getD b.toNat 0 else lo.getD a.toNat 0)))::(bo,aZ on)::(bs,ak [a]++Js)::(bw,a7 [(a,1)]++[])::(fo++σ)=(w,bZ (bB n l) bi bl bo n (.ae bs 0 [a].length 1) (cq+1) ek)::(bi,ak ix)::(bl,ak (lo.set a.toNat (min (lo.getD a.toNat 0) (ix.getD b.toNat 0))))::(bo,aZ on)::(bs,ak [a]++Js)::(bw,a7 [(a,1)]++[])::(fo++σ):=by rw[gg]
     exact rG hr ((ix,lo.set a.toNat (min (lo.getD a.toNat 0) (ix.getD b.toNat 0)),on,[a],cq+1,P0),(bs,Js,ek,fo),([],a,1),(bw,[])) ⟨rfl,⟨⟨hO,hp⟩,hA,hM⟩,⟨rfl,rfl,trivial⟩,.pull [5,5,5,5,5] (aF hE)⟩
    ·rw[lW]at c2
     have hO:=FI.off (w:=[]) hF ab hb cC.1 c1 (of_decide_eq_false c2)
     exact rG hr ((ix,lo,on,[a],cq+1,P0),(bs,Js,ek,fo),([],a,1),(bw,[])) ⟨rfl,⟨⟨hO,hp⟩,hA,hM⟩,⟨rfl,rfl,trivial⟩,.pull [5,5,5,5,5] (aF rfl)⟩
  ·have aq:(au n l a).length=0:=by omega
   refine aa.mk 0 _ _ rfl rfl ?_
   intro aC
   refine ai.mk 0 _ _ rfl rfl ?_
   refine aa.mk 0 _ _ rfl rfl ?_
   have hT:=FI.tell (w:=[]) (A:=[]) (B:=[]) (part:=dU [a]) hF (by omega) rfl heq (fun x y hy=>(iv.1 hy).1) (wj [a]) (zy (by simp))
   have yV:=zJ hF.tj.prt
   have E1:((w,bZ (bB n l) bi bl bo n (.ae bs 0 [a].length 1) (cq+1) ek)::(bi,ak ix)::(bl,ak lo)::(bo,aZ on)::(bs,ak [a]++Js)::(fo++((aC,[AV.int .i64 a,.int .i64 0])::(bw,[AV.int .i64 a,.int .i64 0])::σ))).Perm ((aC,[AV.int .i64 a,.int .i64 0])::(bw,[AV.int .i64 a,.int .i64 0])::(w,bZ (bB n l) bi bl bo n (.ae bs 0 [a].length 1) (cq+1) ek)::(bi,ak ix)::(bl,ak lo)::(bo,aZ on)::(bs,ak [a]++Js)::(fo++σ)):=by
    have h1:=rD [(w,bZ (bB n l) bi bl bo n (.ae bs 0 [a].length 1) (cq+1) ek),(bi,ak ix),(bl,ak lo),(bo,aZ on),(bs,ak [a]++Js)] fo σ (aC,[AV.int .i64 a,.int .i64 0]) (bw,[AV.int .i64 a,.int .i64 0])
    exact h1.trans (List.Perm.cons _ (List.perm_middle (l₁:=[(w,bZ (bB n l) bi bl bo n (.ae bs 0 [a].length 1) (cq+1) ek),(bi,ak ix),(bl,ak lo),(bo,aZ on),(bs,ak [a]++Js)])))
   refine .perm _ E1 (KE w bi bl bo n (bB n l) ix lo [] [] on P0 (cq+1) _ ek _ fo a _ ha.1 ha.2 hF.li hF.ll hF.ig heq (by simp) (fun x hx=>by rw[List.mem_singleton.1 hx];exact ha) (by show 1≤10000;decide) (by omega) (.ae bs 1 (ak [a]) Js rfl) hp) ?_
   rintro _ _ ⟨rfl,dg,fN,eH,eF,cI,oE,rfl⟩
   have ey:((aC,[AV.int .i64 a,.int .i64 0])::(w,bZ (bB n l) bi bl bo n dg (cq+1) eH)::(bi,ak ix)::(bl,ak lo)::(bo,aZ (dz [a] on))::(bw,[AV.int .i64 a,.int .i64 0])::(fN++(eF++σ))).Perm ((w,bZ (bB n l) bi bl bo n dg (cq+1) eH)::(bi,ak ix)::(bl,ak lo)::(bo,aZ (dz [a] on))::(fN++(eF++((aC,[AV.int .i64 a,.int .i64 0])::(bw,[AV.int .i64 a,.int .i64 0])::σ)))):=by
    have h1:=(rD [(w,bZ (bB n l) bi bl bo n dg (cq+1) eH),(bi,ak ix),(bl,ak lo),(bo,aZ (dz [a] on))] (fN++eF) σ (aC,[AV.int .i64 a,.int .i64 0]) (bw,[AV.int .i64 a,.int .i64 0])).symm
    rw[List.append_assoc,List.append_assoc]at h1
    exact h1
   refine⟨_,ey,?_⟩
   refine ah.mk (by decide) ?_
   exact .drop 0 1 (.drop 4 1 (.done ⟨rfl,ix,lo,dz [a] on,cq+1,P0++[dU [a]],dg,fN,eH,eF,hT,cI,oE,hA,hM,rfl⟩))
end Go.Proofs.YtnpidbjdilnhlaaGreat
