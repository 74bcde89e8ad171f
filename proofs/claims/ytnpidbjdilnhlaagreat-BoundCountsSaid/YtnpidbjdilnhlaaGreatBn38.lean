import Derived.Test.YtnpidbjdilnhlaaGreatBn37
namespace Go.Proofs.YtnpidbjdilnhlaaGreat
open Go.RowKit
set_option maxRecDepth 100000
set_option maxHeartbeats 4000000
def dW(rw:List (Nat×List Int)):List AV:=rw.map fun r=>.ae r.1 0 r.2.length 1
def dH(rw:List (Nat×List Int)):Hp:=rw.map fun r=>(r.1,aj r.2)
theorem SQ(rw:List (Nat×List Int)):(dW rw).length=rw.length:=List.length_map _
def PO(P:List (List Int))(v:AV)(acc:Hp):Prop:=∃(ac:Hp) (rw:List (Nat×List Int)),acc=ac++dH rw∧Acc 1 rw.length v ac (dW rw)∧rw.map Prod.snd=P
theorem O1(w bi bl bo n:Nat)(N:List (List Int))(ix lo A B:List Int)(on:List Bool)(P:List (List Int))(aB:Nat)(vs vp:AV)(jS dE:Hp)(a:Int)(σ:Hp)(h0:0≤a)(hn:a<n)(hi:ix.length=n)(hl:lo.length=n)(ho:on.length=n)(he:lo.getD a.toNat 0=ix.getD a.toNat 0)(J4:a ∉ A)(hB:∀x∈a::B,0≤x∧x<n)(bV:(A++a::B).length≤10000)(ql:P.length≤10000)
  (hs:fZ 1 (A++a::B).length vs jS (aj (A++a::B))) (hp:PO P vp dE) :
  ACalls Tryz.prog 247 [.ptr w 0,.int .i64 a] ((w,cc N bi bl bo n vs aB vp)::(bi,aj ix)::(bl,aj lo)::(bo,aY on)::(jS++(dE++σ)))
   (fun r σ'=>r=.tup []∧∃dy gy fo fj,fZ 1 A.length dy gy (aj A)∧PO (P++[eu (a::B)]) fo fj∧σ'=(w,cc N bi bl bo n dy aB fo)::(bi,aj ix)::(bl,aj lo)::(bo,aY (dM (a::B) on))::(gy++(fj++σ))):=by
 obtain⟨ac,rw,rfl,hp,kM⟩:=hp
 have ql:rw.length≤10000:=by rw[← kM,List.length_map]at ql;exact ql
 rw[List.append_assoc]
 obtain⟨K,hK⟩:∃K,(A++a::B).length=K:=⟨_,rfl⟩
 obtain⟨L,hL⟩:∃L:List Int,a::B=L:=⟨_,rfl⟩
 obtain⟨q,hq⟩:∃q,L.length=q:=⟨_,rfl⟩
 have hKA:K=A.length+q:=by rw[← hK,List.length_append,hL,hq]
 have hq0:0<q:=by rw[← hq,← hL,List.length_cons];omega
 rw[hK]at hs bV
 obtain⟨bs,J,rfl,rfl,Kf⟩:=hs.pos (by omega)
 have iS:((aj (A++a::B)++J).drop A.length).take (q*1)=aj L:=by
  rw[hL]
  unfold aj
  rw[List.map_append,List.append_assoc,List.drop_append_of_le_length (by rw[List.length_map];exact Nat.le_refl _),List.drop_of_length_le (by rw[List.length_map];exact Nat.le_refl _),List.nil_append,List.take_append_of_le_length (by rw[List.length_map];omega),List.take_of_length_le (by rw[List.length_map];omega)]
 have dw:A.length+q*1≤(aj (A++a::B)++J).length:=by rw[List.length_append,Kf];omega
 refine okF Tryz.func247 (by kernel_rfl) ?_
 refine .quiet (by kernel_rfl) ?_
 refine aa 0 ?_
 refine ag.mk ⟨rfl,by omega,by omega⟩ ?_
 refine aL 2 rfl (dT rfl h0 (by omega)) ?_
 refine aa 0 ?_
 refine ag.mk ⟨rfl,by omega,by omega⟩ ?_
 refine aL 1 rfl (dT rfl h0 (by omega)) ?_
 refine dx (fun c =>?_) (fun c =>?_)
 ·exact absurd he (by simpa using c)
 clear c
 refine aa 0 ?_
 refine ax [4] (O2 bs K A B J a _ hK J4 (by omega)) ?_
 refine aa 1 ?_
 refine ag.mk ⟨by omega,by omega,by omega,rfl⟩ ?_
 have hC:∀σ,ACalls Tryz.prog 219 [.ae bs (0+((A.length:Nat):Int).toNat*1) (((K:Nat):Int).toNat-((A.length:Nat):Int).toNat) 1] ((bs,aj (A++a::B)++J)::σ) (fun x σ'=>∃b',x=.ae b' 0 q 1∧σ'=(b',aj L)::(bs,aj (A++a::B)++J)::σ):=fun σ=>by
  rw[show 0+((A.length:Nat):Int).toNat*1=A.length by omega,show ((K:Nat):Int).toNat-((A.length:Nat):Int).toNat=q by omega]
  exact O4 bs A.length q _ _ σ iS dw (by omega)
 refine .mk [0] _ (hC _) ?_
 rintro _ _ ⟨bp,rfl,rfl⟩
 refine aa 2 ?_
 refine ag.mk ⟨by omega,by omega,by omega,by omega,rfl⟩ ?_
 refine ai 2 ?_
 refine bO (S:=Nat) (fun i=>[(0,.ptr w 0),(5,.ae bp 0 q 1),(46,.ae bp 0 q 1),(47,.int .i64 q),(48,.int .i64 i)]) (fun i=>(bp,aj L)::(bs,aj (A++a::B)++J)::(w,cc N bi bl bo n (.ae bs 0 A.length 1) aB vp)::(bi,aj ix)::(bl,aj lo)::(bo,aY (dM (L.take i) on))::(ac++(dH rw++σ))) (fun i=>i≤q) (fun i=>q-i) 0 ⟨Nat.zero_le _,⟨rfl,rfl,rfl,rfl,rfl,trivial⟩,rfl⟩ ?_
 rintro i g dY
 have hiq:i≤q:=dY
 clear dY
 refine ao (p:=(i:Int)<q) (fun ab =>?_) (fun au =>?_)
 ·have ab:i<L.length:=by omega
  obtain⟨x,hx⟩:∃x,L[i]=x:=⟨_,rfl⟩
  have BC:=hB x (by rw[hL,← hx];exact List.getElem_mem ab)
  have lM:=Ch (L.take i) on
  have IY:(dM (L.take i) on).set x.toNat false=dM (L.take (i+1)) on:=by unfold dM;rw[List.take_succ_eq_append_getElem ab,hx,List.foldl_append];rfl
  have lK:cY ⟨.int .i64,1,8,[.int .i64 0]⟩ (aj L) (0+((i:Nat):Int).toNat*1)=some (.int .i64 x):=by
   rw[dT rfl (by omega) (by omega),Int.toNat_natCast,List.getD_eq_getElem?_getD,List.getElem?_eq_getElem ab,hx];rfl
  refine ag.mk ⟨rfl,by omega,by omega⟩ ?_
  refine aL 0 rfl lK ?_
  refine aa 2 ?_
  refine ag.mk ⟨rfl,by omega,by omega⟩ ?_
  refine cd 5 rfl (vk rfl false BC.1 (by omega)) ?_
  exact bg (i+1) (by show q-(i+1)<q-i;omega) (by show i+1≤q;omega) ⟨rfl,rfl,rfl,rfl,a8 (by omega),trivial⟩ (aF (by rw[IY];rfl))
 ·have au:i=q:=by omega
  subst au
  refine ax [0] (H8 bp L i _ hq (by omega)) ?_
  refine aa 2 ?_
  intro dI
  refine w8 [_,_,_,_,_,_,_] hp.uw (.ae 0 dI 0 1 _ rfl (Nat.le_of_ble_eq_true rfl)) rfl (by omega) (by decide) (by decide) (fun v' bh h' =>?_)
  obtain⟨b5,rfl,rfl⟩:=qF (by omega) h'
  refine ai 3 ?_
  have eY:((w,cc N bi bl bo n (.ae bs 0 A.length 1) aB (.ae b5 0 (rw.length+1) 1))::(bi,aj ix)::(bl,aj lo)::(bo,aY (dM (L.take i) on))::(bs,aj (A++a::B)++J)::([(b5,dW rw++[.ae bp 0 i 1])]++((dH rw++[(bp,aj (eu L))])++σ))).Perm ((bp,aj (eu L))::(bs,aj (A++a::B)++J)::(w,cc N bi bl bo n (.ae bs 0 A.length 1) aB (.ae b5 0 (rw.length+1) 1))::(bi,aj ix)::(bl,aj lo)::(bo,aY (dM (L.take i) on))::([(b5,dW rw++[.ae bp 0 i 1])]++(dH rw++σ))):=by
   have h1:∀(X:Hp) (x y:Nat×List AV),(X++(x::([(b5,dW rw++[.ae bp 0 i 1])]++((dH rw++[y])++σ)))).Perm (y::x::(X++([(b5,dW rw++[.ae bp 0 i 1])]++(dH rw++σ)))):=fun X x y=>by
    refine List.perm_middle.trans ?_
    refine (List.Perm.cons x ?_).trans (List.Perm.swap _ _ _)
    rw[List.append_assoc]
    have h2:([(b5,dW rw++[AV.ae bp 0 i 1])]++(dH rw++([y]++σ))).Perm (y::([(b5,dW rw++[.ae bp 0 i 1])]++(dH rw++σ))):=by
     have h3:=List.perm_middle (l₁:=[(b5,dW rw++[AV.ae bp 0 i 1])]++dH rw) (a:=y) (l₂:=σ)
     rw[List.append_assoc,List.append_assoc]at h3
     exact h3
    exact (List.Perm.append_left X h2).trans List.perm_middle
   exact h1 [_,_,_,_] _ _
  refine .drop 0 1 (.perm eY (.done ⟨rfl,.ae bs 0 A.length 1,[(bs,aj A++(aj L++J))],.ae b5 0 (rw.length+1) 1,[(b5,dW rw++[.ae bp 0 i 1])]++dH (rw++[(bp,eu L)]),.ae bs A.length (aj A) (aj L++J) (by rw[kU,Nat.mul_one]),⟨_,rw++[(bp,eu L)],rfl,?_,?_⟩,?_⟩))
  ·rw[List.length_append]
   have e:dW (rw++[(bp,eu L)])=dW rw++[.ae bp 0 i 1]:=by
    unfold dW
    rw[List.map_append]
    show _++[AV.ae bp 0 (eu L).length 1]=_
    rw[w6,hq]
   rw[e]
   exact .ae b5 (rw.length+1) _ (by rw[List.length_append,SQ,Nat.mul_one];rfl)
  ·rw[List.map_append,kM];subst hL;rfl
  ·rw[List.take_of_length_le (Nat.le_of_eq hq)]
   subst hL
   have e1:aj (A++a::B)++J=aj A++(aj (a::B)++J):=by unfold aj;rw[List.map_append,List.append_assoc]
   have e3:dH (rw++[(bp,eu (a::B))])=dH rw++[(bp,aj (eu (a::B)))]:=List.map_append
   rw[e1,e3]
   simp only[List.append_assoc,List.cons_append,List.nil_append]
theorem aaA(n w bi bl bo:Nat)(l:List aV)(jU sP:List Int)(sN:List Bool)(cH:Nat)(P0:List (List Int))(rp eR:AV)(sq fX:Hp)(a:Int)(σ:Hp)(hn:n≤1000)(h:FI n (an n l) jU sP sN [] cH P0 [])(ha:0≤a∧a<n)(hf:jU.getD a.toNat 0=0)(hs:fZ 1 0 rp sq [])(hp:PO P0 eR fX):
  ACalls Tryz.prog 205 [.ptr w 0,.int .i64 a] ((w,cc (bA n l) bi bl bo n rp cH eR)::(bi,aj jU)::(bl,aj sP)::(bo,aY sN)::(sq++(fX++σ)))
   (fun r σ'=>r=.tup []∧∃ix lo on aB P vs jS vp dE,FI n (an n l) ix lo on [] aB P []∧fZ 1 0 vs jS []∧PO P vp dE∧ix.getD a.toNat 0≠0∧(∀b:Nat,jU.getD b 0≠0→ix.getD b 0≠0)∧σ'=(w,cc (bA n l) bi bl bo n vs aB vp)::(bi,aj ix)::(bl,aj lo)::(bo,aY on)::(jS++(dE++σ))):=by
 have hle:=h.xM
 refine okF Tryz.func205 (by kernel_rfl) ?_
 refine Lg (S:=FrS) rfl (fun _=>0)
  (fun x=>[(0,.ptr w 0),(4,.ae x.2.2.2.1 0 (x.2.2.1.1.length+1) 2)])
  (fun x=>(w,cc (bA n l) bi bl bo n (.ae x.2.1.1 0 x.1.2.2.2.1.length 1) x.1.2.2.2.2.1 x.2.1.2.2.1)::(bi,aj x.1.1)::(bl,aj x.1.2.1)::(bo,aY x.1.2.2.1)::(x.2.1.1,aj x.1.2.2.2.1++x.2.1.2.1)::(x.2.2.2.1,aW (x.2.2.1.1++[(x.2.2.1.2.1,x.2.2.1.2.2)])++x.2.2.2.2)::(x.2.1.2.2.2++σ))
  (fun x=>(FI n (an n l) x.1.1 x.1.2.1 x.1.2.2.1 x.1.2.2.2.1 x.1.2.2.2.2.1 x.1.2.2.2.2.2 (x.2.2.1.1++[(x.2.2.1.2.1,x.2.2.1.2.2)])∧PO x.1.2.2.2.2.2 x.2.1.2.2.1 x.2.1.2.2.2)∧x.1.1.getD a.toNat 0≠0∧∀b:Nat,jU.getD b 0≠0→x.1.1.getD b 0≠0)
  (fun x=>gB (an n l) (x.2.2.1.1++[(x.2.2.1.2.1,x.2.2.1.2.2)])+fY (an n l) x.1.1 n) ?_ ?_
 ·rintro⟨⟨ix,lo,on,st,aB,P⟩,⟨bs,Js,vp,dE⟩,⟨wy,v,k⟩,⟨bw,J⟩⟩ g ⟨⟨nA,rJ⟩,oy,uO⟩
  have hF:FI n (an n l) ix lo on st aB P (wy++[(v,k)]):=nA
  have hP:PO P vp dE:=rJ
  have hA:ix.getD a.toNat 0≠0:=oy
  have hM:∀b:Nat,jU.getD b 0≠0→ix.getD b 0≠0:=uO
  clear nA rJ oy uO
  have hle:=hF.xM
  have bz:=hF.mem
  have cm:=hF.tj.node v bz
  have yF:k≤(an n l v).length:=hF.tn (v,k) (List.mem_append_right _ (List.mem_singleton.2 rfl))
  have kl:=u0 n l v
  have uA:wy.length+1≤st.length:=by
   have:=hF.tj.sub.length_le
   rw[List.length_map,List.length_append]at this
   exact this
  have lC:IntKind.i64.wrap (((wy.length+1:Nat):Int)-1)=((wy.length:Nat):Int):=by rw[ck (by omega)];omega
  have hX:0+(IntKind.i64.wrap (((wy.length+1:Nat):Int)-1)).toNat*2=wy.length*2:=by rw[lC];omega
  have kN:cY ⟨.int .i64,1,8,[.int .i64 0]⟩ (aW (wy++[(v,k)])++J) (0+(IntKind.i64.wrap (((wy.length+1:Nat):Int)-1)).toNat*2+0)=some (.int .i64 v):=gN rfl (by rw[hX];exact pE rfl)
  have jX:cY ⟨.int .i64,1,8,[.int .i64 0]⟩ (aW (wy++[(v,k)])++J) (0+(IntKind.i64.wrap (((wy.length+1:Nat):Int)-1)).toNat*2+1)=some (.int .i64 k):=gN rfl (by rw[hX];exact zg rfl)
  have dw:(aW (wy++[(v,k)])++J).length=wy.length*2+2+J.length:=by rw[List.length_append,kq,List.length_append];show (wy.length+1)*2+_=_;omega
  have lN:IntKind.i64.wrap ((k:Int)+1)=((k+1:Nat):Int):=by rw[ck (by omega)];omega
  have sR:jq ⟨.int .i64,1,8,[.int .i64 0]⟩ (aW (wy++[(v,k)])++J) (0+(IntKind.i64.wrap (((wy.length+1:Nat):Int)-1)).toNat*2+1) (.int .i64 (IntKind.i64.wrap ((k:Int)+1)))=some (aW (wy++[(v,k+1)])++J):=by
   rw[sa rfl rfl (by rw[hX,dw];omega),hX,lN,zu rfl]
  have sm:2=2∧0≤IntKind.i64.wrap (((wy.length+1:Nat):Int)-1)∧IntKind.i64.wrap (((wy.length+1:Nat):Int)-1)<((wy.length+1:Nat):Int):=⟨rfl,by omega,by omega⟩
  refine ag.mk sm ?_
  refine .quiet (by kernel_rfl) ?_
  refine aL 5 rfl jX ?_
  refine aa 0 ?_
  refine aL 5 rfl kN ?_
  refine ag.mk rfl ?_
  refine bH.mk (an n l v) (by omega) (mK cm) ?_
  refine ao (p:=(k:Int)<(an n l v).length) (fun ab =>?_) (fun au =>?_)
  ·have ab:k<(an n l v).length:=by omega
   obtain⟨b,hb⟩:∃b,(an n l v)[k]=b:=⟨_,rfl⟩
   have qq:b∈an n l v:=hb▸List.getElem_mem ab
   have cJ:=(j8.1 qq).1
   refine .quiet (by kernel_rfl) ?_
   refine aa 0 ?_
   refine aL 5 rfl kN ?_
   refine ag.mk rfl ?_
   refine bH.mk (an n l v) (by omega) (mK cm) ?_
   refine aL 5 rfl jX ?_
   refine ag.mk rfl ?_
   refine bH.mk b (by omega) ((get_some ab).trans (congrArg some hb)) ?_
   refine aL 5 rfl jX ?_
   refine cd 5 rfl sR ?_
   refine aa 0 ?_
   refine ag.mk ⟨rfl,by omega,by omega⟩ ?_
   refine aL 1 rfl (dT rfl cJ.1 (by rw[hF.li];omega)) ?_
   refine ao (p:=ix.getD b.toNat 0=0) (fun c1 =>?_) (fun c1 =>?_)
   ·have hN:=hF.new ab hb cJ c1
    have de:(aj st).length=st.length*1:=by rw[kU,Nat.mul_one]
    refine .mk [] _ (xN w bi bl bo n (bA n l) ix lo st on aB _ vp _ b ((bw,aW (wy++[(v,k+1)])++J)::(dE++σ)) cJ.1 cJ.2 hF.li hF.ll hF.ja (.ae bs st.length (aj st) Js de) (by omega) (by omega)) ?_
    rintro _ _ ⟨rfl,yq,AN,dX,rfl⟩
    obtain⟨j4,mA,rfl,rfl,_⟩:=dX.pos (by rw[List.length_append];show 0<_+1;omega)
    intro aC
    have Ey:(aW (wy++[(v,k+1)])).length=(wy.length+1)*2:=by rw[kq,List.length_append];rfl
    refine uY (k:=wy.length+1) (n:=1) [_,_,_,_,_,_] (.ae bw (wy.length+1) (aW (wy++[(v,k+1)])) J Ey) (.ae 0 aC 0 1 _ rfl (Nat.le_of_ble_eq_true rfl)) rfl (by omega) (by decide) (by decide) (fun v' bh h' =>?_)
    obtain⟨mz,J2,rfl,rfl,_⟩:=h'.pos (by omega)
    have JM:(wy++[(v,k+1)]).length+1=wy.length+1+1:=by rw[List.length_append];rfl
    have sY:(b.toNat:Int)=b:=Int.toNat_of_nonneg cJ.1
    have qj:=GR (nx:=an n l) (ix:=ix) (b:=b.toNat) (v:=((aB+1:Nat):Int)) (by omega) c1 (by rw[hF.li];omega) n
    rw[if_pos (by omega),sY]at qj
    refine .mk ((ix.set b.toNat ((aB+1:Nat):Int),lo.set b.toNat ((aB+1:Nat):Int),on.set b.toNat true,st++[b],aB+1,P),(j4,mA,vp,dE),(wy++[(v,k+1)],b,0),(mz,J2)) rfl ?_ ⟨⟨hN,hP⟩,?_,?_⟩ ⟨rfl,by rw[JM];rfl,trivial⟩ (.drop 0 1 (aF (by rw[mC (wy++[(v,k+1)])];rfl)))
    ·show gB (an n l) ((wy++[(v,k+1)])++[(b,0)])+fY (an n l) (ix.set b.toNat ((aB+1:Nat):Int)) n<gB (an n l) (wy++[(v,k)])+fY (an n l) ix n
     rw[j6,j6,j6];omega
    ·show (ix.set b.toNat ((aB+1:Nat):Int)).getD a.toNat 0≠0
     rw[ku];split
     ·omega
     ·exact hA
    ·intro z hz
     show (ix.set b.toNat ((aB+1:Nat):Int)).getD z 0≠0
     rw[ku];split
     ·omega
     ·exact hM z hz
   ·have c1:¬(ix.getD b.toNat 0=0):=c1
    refine aa 0 ?_
    refine ag.mk ⟨rfl,by omega,by omega⟩ ?_
    have jZ:=hF.sM b cJ.1 cJ.2
    have A6:cY ⟨.int .i64,1,8,[.int .i64 0]⟩ (aW (wy++[(v,k+1)])++J) (0+(IntKind.i64.wrap (((wy.length+1:Nat):Int)-1)).toNat*2+0)=some (.int .i64 v):=gN rfl (by rw[hX];exact pE rfl)
    refine dJ.iZ 3 _ _ rfl (qE rfl cJ.1 (by rw[hF.ja];omega)) (fun c2 =>?_) (fun c2 =>?_)
    ·rw[jZ]at c2
     have hO:=hF.Es ab hb (of_decide_eq_true c2)
     refine .sched [] (upto [] 28 0) (by kernel_rfl) ?_
     refine aa 0 ?_
     refine aL 5 rfl A6 ?_
     refine aa 0 ?_
     refine aL 5 rfl A6 ?_
     refine ag.mk ⟨rfl,by omega,by omega⟩ ?_
     refine aL 2 rfl (dT rfl cm.1 (by rw[hF.ll];omega)) ?_
     refine aa 0 ?_
     refine ag.mk ⟨rfl,by omega,by omega⟩ ?_
     refine aL 1 rfl (dT rfl cJ.1 (by rw[hF.li];omega)) ?_
     refine ag.mk ⟨rfl,by omega,by omega⟩ ?_
     refine cd 2 rfl (kZ rfl _ cm.1 (by rw[hF.ll];omega)) ?_
     have gl:(if ix.getD b.toNat 0<lo.getD v.toNat 0 then ix.getD b.toNat 0 else lo.getD v.toNat 0)=min (lo.getD v.toNat 0) (ix.getD b.toNat 0):=by split <;> omega
     refine .mk ((ix,lo.set v.toNat (min (lo.getD v.toNat 0) (ix.getD b.toNat 0)),on,st,aB,P),(bs,Js,vp,dE),(wy,v,k+1),(bw,J)) rfl ?_ ⟨⟨hO,hP⟩,hA,hM⟩ ⟨rfl,rfl,trivial⟩ (aF (by rw[← gl];rfl))
     show gB (an n l) (wy++[(v,k+1)])+fY (an n l) ix n<gB (an n l) (wy++[(v,k)])+fY (an n l) ix n
     rw[j6,j6];omega
    ·rw[jZ]at c2
     have hO:=hF.off ab hb cJ.1 c1 (of_decide_eq_false c2)
     refine .mk ((ix,lo,on,st,aB,P),(bs,Js,vp,dE),(wy,v,k+1),(bw,J)) rfl ?_ ⟨⟨hO,hP⟩,hA,hM⟩ ⟨rfl,rfl,trivial⟩ (.refl _)
     show gB (an n l) (wy++[(v,k+1)])+fY (an n l) ix n<gB (an n l) (wy++[(v,k)])+fY (an n l) ix n
     rw[j6,j6];omega
  ·have au:k=(an n l v).length:=by omega
   have kM:cY ⟨.aP [(0,3),(1,3)],2,16,[.int .i64 0,.int .i64 0]⟩ (aW (wy++[(v,k)])++J) (0+(IntKind.i64.wrap (((wy.length+1:Nat):Int)-1)).toNat*2)=some (.agg [.int .i64 v,.int .i64 k]):=Ol rfl (by rw[hX,dw];show wy.length*2+2≤_;omega) (by rw[hX];exact Li rfl)
   refine aL 5 rfl kM ?_
   intro bt
   refine ai 0 ?_
   refine aa 0 ?_
   have nQ:(IntKind.i64.wrap (((wy.length+1:Nat):Int)-1)).toNat-Int.toNat 0=wy.length:=by rw[lC];omega
   have bV:0≤(0:Int)∧(0:Int)≤IntKind.i64.wrap (((wy.length+1:Nat):Int)-1)∧IntKind.i64.wrap (((wy.length+1:Nat):Int)-1)≤((wy.length+1:Nat):Int)∧2=2:=⟨by omega,by omega,by omega,rfl⟩
   by_cases he:lo.getD v.toNat 0=ix.getD v.toNat 0
   ·obtain⟨A,B,ak,B2,hB1⟩:=Mr hF.tj.inc bz
    have JE:v ∉ A:=fun hm=>by have:=B2 v hm;omega
    have JD:∀x∈v::B,0≤x∧x<(n:Int):=fun x hx=>hF.tj.node x (by rw[ak];exact List.mem_append_right _ hx)
    have bB:=rO hF.tj.inc
    rw[ak]at bB
    have hT:=hF.tell (by omega) ak he (fun x y hy=>(j8.1 hy).1) (yV (v::B)) (Ce (List.nodup_append.1 bB).2.1)
    have B0:=Cp hF.tj.prt
    subst ak
    have de:(aj (A++v::B)).length=(A++v::B).length*1:=by rw[kU,Nat.mul_one]
    refine .perm _ (td [_,_,_,_,_] dE σ _ _) (O1 w bi bl bo n (bA n l) ix lo A B on P aB _ vp _ dE v _ cm.1 cm.2 hF.li hF.ll hF.ja he JE JD (by omega) (by omega) (.ae bs (A++v::B).length (aj (A++v::B)) Js de) hP) ?_
    rintro _ _ ⟨rfl,dy,gy,fo,fj,cT,lL,rfl⟩
    have eY:((bt,[AV.int .i64 v,.int .i64 k])::(w,cc (bA n l) bi bl bo n dy aB fo)::(bi,aj ix)::(bl,aj lo)::(bo,aY (dM (v::B) on))::(bw,aW (wy++[(v,k)])++J)::(gy++(fj++σ))).Perm ((w,cc (bA n l) bi bl bo n dy aB fo)::(bi,aj ix)::(bl,aj lo)::(bo,aY (dM (v::B) on))::(gy++(fj++((bt,[AV.int .i64 v,.int .i64 k])::(bw,aW (wy++[(v,k)])++J)::σ)))):=by
     have h1:=(td [(w,cc (bA n l) bi bl bo n dy aB fo),(bi,aj ix),(bl,aj lo),(bo,aY (dM (v::B) on))] (gy++fj) σ (bt,[AV.int .i64 v,.int .i64 k]) (bw,aW (wy++[(v,k)])++J)).symm
     rw[List.append_assoc,List.append_assoc]at h1
     exact h1
    refine⟨_,eY,?_⟩
    refine ag.mk bV ?_
    rcases List.eq_nil_or_concat wy with cS | ⟨w',⟨u,i⟩,cS⟩
    ·have nY:wy.length=0:=by rw[cS];rfl
     rw[cS]at hT
     obtain rfl:A=[]:=hT.Pd
     refine ao (p:=(0:Int)<(((IntKind.i64.wrap (((wy.length+1:Nat):Int)-1)).toNat-Int.toNat 0:Nat):Int)) (fun c3 =>?_) (fun c3 =>?_)
     ·rw[nQ,nY]at c3;exact absurd c3 (by decide)
     ·refine .drop 0 1 (.drop 4 1 (.done ⟨rfl,ix,lo,dM (v::B) on,aB,P++[eu (v::B)],dy,gy,fo,fj,hT,cT,lL,hA,hM,rfl⟩))
    ·have cS:wy=w'++[(u,i)]:=by simpa using cS
     have nY:wy.length=w'.length+1:=by rw[cS,List.length_append];rfl
     have gC:(IntKind.i64.wrap (((wy.length+1:Nat):Int)-1)).toNat-Int.toNat 0=w'.length+1:=nQ.trans nY
     have l5:IntKind.i64.wrap ((((IntKind.i64.wrap (((wy.length+1:Nat):Int)-1)).toNat-Int.toNat 0:Nat):Int)-1)=((w'.length:Nat):Int):=by rw[gC,ck (by omega)];omega
     have wQ:(0+Int.toNat 0*2)+(IntKind.i64.wrap ((((IntKind.i64.wrap (((wy.length+1:Nat):Int)-1)).toNat-Int.toNat 0:Nat):Int)-1)).toNat*2+0=w'.length*2:=by rw[l5,Int.toNat_natCast];show 0+0*2+_+0=_;omega
     have ma:aW (wy++[(v,k)])++J=aW (w'++[(u,i)])++([.int .i64 v,.int .i64 k]++J):=by rw[cS,mC,List.append_assoc];rfl
     have qj:cY ⟨.int .i64,1,8,[.int .i64 0]⟩ (aW (wy++[(v,k)])++J) ((0+Int.toNat 0*2)+(IntKind.i64.wrap ((((IntKind.i64.wrap (((wy.length+1:Nat):Int)-1)).toNat-Int.toNat 0:Nat):Int)-1)).toNat*2+0)=some (.int .i64 u):=gN rfl (by rw[wQ,ma];exact pE rfl)
     have ef:0≤u∧u<(n:Int):=hF.tj.node u (hF.tj.sub.subset (by rw[cS];simp))
     have iS:AV.ae bw (0+Int.toNat 0*2) ((IntKind.i64.wrap (((wy.length+1:Nat):Int)-1)).toNat-Int.toNat 0) 2=.ae bw 0 (w'.length+1) 2:=by rw[gC];rfl
     have Iz:AV.ae bw 0 (w'.length+1) 2=AV.ae bw (0+Int.toNat 0*2) ((IntKind.i64.wrap (((wy.length+1:Nat):Int)-1)).toNat-Int.toNat 0) 2:=iS.symm
     refine ao (p:=(0:Int)<(((IntKind.i64.wrap (((wy.length+1:Nat):Int)-1)).toNat-Int.toNat 0:Nat):Int)) (fun c3 =>?_) (fun c3 =>?_)
     rotate_left
     ·rw[gC]at c3;omega
     have vH:2=2∧0≤IntKind.i64.wrap ((((IntKind.i64.wrap (((wy.length+1:Nat):Int)-1)).toNat-Int.toNat 0:Nat):Int)-1)∧IntKind.i64.wrap ((((IntKind.i64.wrap (((wy.length+1:Nat):Int)-1)).toNat-Int.toNat 0:Nat):Int)-1)<(((IntKind.i64.wrap (((wy.length+1:Nat):Int)-1)).toNat-Int.toNat 0:Nat):Int):=⟨rfl,by rw[l5];omega,by rw[l5,gC];omega⟩
     refine ag.mk vH ?_
     refine aL 5 rfl qj ?_
     refine .sched [] (upto [] 23 0) (by kernel_rfl) ?_
     refine aa 1 ?_
     refine aa 1 ?_
     refine ag.mk ⟨rfl,by omega,by omega⟩ ?_
     refine aL 3 rfl (dT rfl ef.1 (by rw[hF.ll];omega)) ?_
     refine aa 1 ?_
     refine aa 0 ?_
     refine ag.mk ⟨rfl,by omega,by omega⟩ ?_
     refine aL 3 rfl (dT rfl cm.1 (by rw[hF.ll];omega)) ?_
     refine ag.mk ⟨rfl,by omega,by omega⟩ ?_
     refine cd 3 rfl (kZ rfl _ ef.1 (by rw[hF.ll];omega)) ?_
     have gl:(if lo.getD v.toNat 0<lo.getD u.toNat 0 then lo.getD v.toNat 0 else lo.getD u.toNat 0)=min (lo.getD u.toNat 0) (lo.getD v.toNat 0):=by split <;> omega
     have Kj:0<A.length:=List.length_pos_of_mem (a:=u) (hT.tj.sub.subset (by rw[cS];simp))
     obtain⟨j4,mA,rfl,rfl,_⟩:=cT.pos Kj
     have Iv:=FI.same (cS▸hF) he
     rw[cS]at hT
     have hE:(w,cc (bA n l) bi bl bo n (.ae j4 0 A.length 1) aB fo)::(bi,aj ix)::(bl,aj (lo.set u.toNat (if lo.getD v.toNat 0<lo.getD u.toNat 0 then lo.getD v.toNat 0 else lo.getD u.toNat 0)))::(bo,aY (dM (v::B) on))::(j4,aj A++mA)::(bw,aW (wy++[(v,k)])++J)::(fj++σ)=(w,cc (bA n l) bi bl bo n (.ae j4 0 A.length 1) aB fo)::(bi,aj ix)::(bl,aj (lo))::(bo,aY (dM (v::B) on))::(j4,aj A++mA)::(bw,aW (w'++[(u,i)])++([.int .i64 v,.int .i64 k]++J))::(fj++σ):=by rw[gl,Iv,ma]
     refine .mk ((ix,lo,dM (v::B) on,A,aB,P++[eu (v::B)]),(j4,mA,fo,fj),(w',u,i),(bw,[AV.int .i64 v,.int .i64 k]++J)) rfl ?_ ⟨⟨hT,lL⟩,hA,hM⟩ ⟨rfl,iS,trivial⟩ (.drop 0 1 (.pull [4,4,4,4,5] (aF hE)))
     show gB (an n l) (w'++[(u,i)])+fY (an n l) ix n<gB (an n l) (wy++[(v,k)])+fY (an n l) ix n
     rw[cS,j6 (an n l) (w'++[(u,i)])];omega
   ·have Kd:=fun ρ=>N0 w bi bl bo n (bA n l) ix lo on aB (.ae bs 0 st.length 1) vp v ρ cm.1 cm.2 hF.li hF.ll he
    refine ax [4,4,4,4] (Kd _) ?_
    refine ag.mk bV ?_
    rcases List.eq_nil_or_concat wy with cS | ⟨w',⟨u,i⟩,cS⟩
    ·have nY:wy.length=0:=by rw[cS];rfl
     rw[cS]at hF
     exact absurd hF.one he
    ·have cS:wy=w'++[(u,i)]:=by simpa using cS
     have nY:wy.length=w'.length+1:=by rw[cS,List.length_append];rfl
     have gC:(IntKind.i64.wrap (((wy.length+1:Nat):Int)-1)).toNat-Int.toNat 0=w'.length+1:=nQ.trans nY
     have l5:IntKind.i64.wrap ((((IntKind.i64.wrap (((wy.length+1:Nat):Int)-1)).toNat-Int.toNat 0:Nat):Int)-1)=((w'.length:Nat):Int):=by rw[gC,ck (by omega)];omega
     have wQ:(0+Int.toNat 0*2)+(IntKind.i64.wrap ((((IntKind.i64.wrap (((wy.length+1:Nat):Int)-1)).toNat-Int.toNat 0:Nat):Int)-1)).toNat*2+0=w'.length*2:=by rw[l5,Int.toNat_natCast];show 0+0*2+_+0=_;omega
     have ma:aW (wy++[(v,k)])++J=aW (w'++[(u,i)])++([.int .i64 v,.int .i64 k]++J):=by rw[cS,mC,List.append_assoc];rfl
     have qj:cY ⟨.int .i64,1,8,[.int .i64 0]⟩ (aW (wy++[(v,k)])++J) ((0+Int.toNat 0*2)+(IntKind.i64.wrap ((((IntKind.i64.wrap (((wy.length+1:Nat):Int)-1)).toNat-Int.toNat 0:Nat):Int)-1)).toNat*2+0)=some (.int .i64 u):=gN rfl (by rw[wQ,ma];exact pE rfl)
     have ef:0≤u∧u<(n:Int):=hF.tj.node u (hF.tj.sub.subset (by rw[cS];simp))
     have iS:AV.ae bw (0+Int.toNat 0*2) ((IntKind.i64.wrap (((wy.length+1:Nat):Int)-1)).toNat-Int.toNat 0) 2=.ae bw 0 (w'.length+1) 2:=by rw[gC];rfl
     have Iz:AV.ae bw 0 (w'.length+1) 2=AV.ae bw (0+Int.toNat 0*2) ((IntKind.i64.wrap (((wy.length+1:Nat):Int)-1)).toNat-Int.toNat 0) 2:=iS.symm
     refine ao (p:=(0:Int)<(((IntKind.i64.wrap (((wy.length+1:Nat):Int)-1)).toNat-Int.toNat 0:Nat):Int)) (fun c3 =>?_) (fun c3 =>?_)
     rotate_left
     ·rw[gC]at c3;omega
     have vH:2=2∧0≤IntKind.i64.wrap ((((IntKind.i64.wrap (((wy.length+1:Nat):Int)-1)).toNat-Int.toNat 0:Nat):Int)-1)∧IntKind.i64.wrap ((((IntKind.i64.wrap (((wy.length+1:Nat):Int)-1)).toNat-Int.toNat 0:Nat):Int)-1)<(((IntKind.i64.wrap (((wy.length+1:Nat):Int)-1)).toNat-Int.toNat 0:Nat):Int):=⟨rfl,by rw[l5];omega,by rw[l5,gC];omega⟩
     refine ag.mk vH ?_
     refine aL 6 rfl qj ?_
     refine .sched [] (upto [] 23 0) (by kernel_rfl) ?_
     refine aa 0 ?_
     refine aa 0 ?_
     refine ag.mk ⟨rfl,by omega,by omega⟩ ?_
     refine aL 2 rfl (dT rfl ef.1 (by rw[hF.ll];omega)) ?_
     refine aa 0 ?_
     refine aa 4 ?_
     refine ag.mk ⟨rfl,by omega,by omega⟩ ?_
     refine aL 2 rfl (dT rfl cm.1 (by rw[hF.ll];omega)) ?_
     refine ag.mk ⟨rfl,by omega,by omega⟩ ?_
     refine cd 2 rfl (kZ rfl _ ef.1 (by rw[hF.ll];omega)) ?_
     have gl:(if lo.getD v.toNat 0<lo.getD u.toNat 0 then lo.getD v.toNat 0 else lo.getD u.toNat 0)=min (lo.getD u.toNat 0) (lo.getD v.toNat 0):=by split <;> omega
     have hU:=FI.up (cS▸hF) (by omega) he
     have hE:(w,cc (bA n l) bi bl bo n (.ae bs 0 st.length 1) aB vp)::(bi,aj ix)::(bl,aj (lo.set u.toNat (if lo.getD v.toNat 0<lo.getD u.toNat 0 then lo.getD v.toNat 0 else lo.getD u.toNat 0)))::(bo,aY (on))::(bs,aj st++Js)::(bw,aW (wy++[(v,k)])++J)::(dE++σ)=(w,cc (bA n l) bi bl bo n (.ae bs 0 st.length 1) aB vp)::(bi,aj ix)::(bl,aj (lo.set u.toNat (min (lo.getD u.toNat 0) (lo.getD v.toNat 0))))::(bo,aY (on))::(bs,aj st++Js)::(bw,aW (w'++[(u,i)])++([.int .i64 v,.int .i64 k]++J))::(dE++σ):=by rw[gl,ma]
     refine .mk ((ix,lo.set u.toNat (min (lo.getD u.toNat 0) (lo.getD v.toNat 0)),on,st,aB,P),(bs,Js,vp,dE),(w',u,i),(bw,[AV.int .i64 v,.int .i64 k]++J)) rfl ?_ ⟨⟨hU,hP⟩,hA,hM⟩ ⟨rfl,iS,trivial⟩ (.drop 4 1 (aF hE))
     show gB (an n l) (w'++[(u,i)])+fY (an n l) ix n<gB (an n l) (wy++[(v,k)])+fY (an n l) ix n
     rw[cS,j6 (an n l) (w'++[(u,i)])];omega
 ·intro hr
  obtain⟨ix,lo,on,hF,hA,hM,heq,Ki⟩:∃ix lo on,FI n (an n l) ix lo on [a] (cH+1) P0 [(a,0)]∧ix.getD a.toNat 0≠0∧(∀b:Nat,jU.getD b 0≠0→ix.getD b 0≠0)∧lo.getD a.toNat 0=ix.getD a.toNat 0∧∀ρ,ACalls Tryz.prog 246 [.ptr w 0,.int .i64 a] ((w,cc (bA n l) bi bl bo n rp cH eR)::(bi,aj jU)::(bl,aj sP)::(bo,aY sN)::(sq++ρ))
    (fun r σ'=>r=.agg [.int .i64 a,.int .i64 0]∧∃bs Js,σ'=(w,cc (bA n l) bi bl bo n (.ae bs 0 [a].length 1) (cH+1) eR)::(bi,aj ix)::(bl,aj lo)::(bo,aY on)::(bs,aj [a]++Js)::ρ):=by
   have h1:=h.enter (way2:=[]) ha hf (fun v hv=>by cases hv) rfl (fun t ht=>by cases ht) (fun t ht=>by cases ht)
   refine⟨_,_,_,h1,?_,?_,?_,fun ρ=>(xN w bi bl bo n (bA n l) jU sP [] sN cH rp eR sq a ρ ha.1 ha.2 h.li h.ll h.ja hs (Nat.zero_le _) (by omega)).mono ?_⟩
   ·rw[ku,if_pos ⟨rfl,by rw[h.li];omega⟩];omega
   ·intro z hz
    rw[ku];split
    ·omega
    ·exact hz
   ·rw[ku,ku,if_pos ⟨rfl,by rw[h.ll];omega⟩,if_pos ⟨rfl,by rw[h.li];omega⟩]
   ·rintro _ _ ⟨rfl,yq,AN,dX,rfl⟩
    obtain⟨bs,Js,rfl,rfl,_⟩:=dX.pos (by show 0<1;decide)
    exact⟨rfl,bs,Js,rfl⟩
  clear hf hs h
  have hle:=hF.xM
  have yF:=u0 n l a
  refine .mk [] _ (Ki (fX++σ)) ?_
  rintro _ _ ⟨rfl,bs,Js,rfl⟩
  intro bw
  refine ag.mk ⟨rfl,by decide,by decide⟩ ?_
  refine .quiet (by kernel_rfl) ?_
  refine aa 0 ?_
  refine aa 1 ?_
  refine aa 0 ?_
  refine ag.mk rfl ?_
  refine bH.mk (an n l a) (by omega) (mK ha) ?_
  refine ao (p:=(0:Int)<(an n l a).length) (fun ab =>?_) (fun au =>?_)
  ·have ab:0<(an n l a).length:=by omega
   obtain⟨b,hb⟩:∃b,(an n l a)[0]=b:=⟨_,rfl⟩
   have qq:b∈an n l a:=hb▸List.getElem_mem ab
   have cJ:=(j8.1 qq).1
   refine .quiet (by kernel_rfl) ?_
   refine aa 1 ?_
   refine aa 0 ?_
   refine ag.mk rfl ?_
   refine bH.mk (an n l a) (by omega) (mK ha) ?_
   refine aa 0 ?_
   refine ag.mk rfl ?_
   refine bH.mk b (by decide) ((get_some ab).trans (congrArg some hb)) ?_
   refine aa 0 ?_
   refine ai 0 ?_
   refine aa 1 ?_
   refine ag.mk ⟨rfl,by omega,by omega⟩ ?_
   refine aL 2 rfl (dT rfl cJ.1 (by rw[hF.li];omega)) ?_
   refine ao (p:=ix.getD b.toNat 0=0) (fun c1 =>?_) (fun c1 =>?_)
   ·have hN:=FI.new (w:=[]) hF ab hb cJ c1
    refine .mk [5,5,5,5,5] _ (xN w bi bl bo n (bA n l) ix lo [a] on (cH+1) _ eR _ b ((bw,[.int .i64 a,.int .i64 1])::(fX++σ)) cJ.1 cJ.2 hF.li hF.ll hF.ja (.ae bs 1 (aj [a]) Js rfl) (by show 1≤10000;decide) (by omega)) ?_
    rintro _ _ ⟨rfl,yq,AN,dX,rfl⟩
    obtain⟨j4,mA,rfl,rfl,_⟩:=dX.pos (by show 0<2;decide)
    intro aC
    refine uY (k:=1) (n:=1) [_,_,_,_,_,_] (.ae bw 1 (aW [(a,1)]) [] rfl) (.ae 0 aC 0 1 _ rfl (Nat.le_of_ble_eq_true rfl)) rfl (by decide) (by decide) (by decide) (fun v' bh h' =>?_)
    obtain⟨mz,J2,rfl,rfl,_⟩:=h'.pos (by decide)
    refine tk hr ((ix.set b.toNat ((cH+1+1:Nat):Int),lo.set b.toNat ((cH+1+1:Nat):Int),on.set b.toNat true,[a]++[b],cH+1+1,P0),(j4,mA,eR,fX),([(a,1)],b,0),(mz,J2)) ⟨rfl,⟨⟨hN,hp⟩,?_,?_⟩,⟨rfl,rfl,trivial⟩,.drop 0 1 (aF rfl)⟩
    ·show (ix.set b.toNat ((cH+1+1:Nat):Int)).getD a.toNat 0≠0
     rw[ku];split
     ·omega
     ·exact hA
    ·intro z hz
     show (ix.set b.toNat ((cH+1+1:Nat):Int)).getD z 0≠0
     rw[ku];split
     ·omega
     ·exact hM z hz
   ·have c1:¬(ix.getD b.toNat 0=0):=c1
    have jZ:=hF.sM b cJ.1 cJ.2
    refine aa 1 ?_
    refine ag.mk ⟨rfl,by omega,by omega⟩ ?_
    refine dJ.iZ 4 _ _ rfl (qE rfl cJ.1 (by rw[hF.ja];omega)) (fun c2 =>?_) (fun c2 =>?_)
    ·rw[jZ]at c2
     have hO:=FI.Es (w:=[]) hF ab hb (of_decide_eq_true c2)
     refine .sched [] (upto [] 28 0) (by kernel_rfl) ?_
     refine aa 1 ?_
     refine aa 0 ?_
     refine aa 1 ?_
     refine aa 0 ?_
     refine ag.mk ⟨rfl,by omega,by omega⟩ ?_
     refine aL 3 rfl (dT rfl ha.1 (by rw[hF.ll];omega)) ?_
     refine aa 1 ?_
     refine ag.mk ⟨rfl,by omega,by omega⟩ ?_
     refine aL 2 rfl (dT rfl cJ.1 (by rw[hF.li];omega)) ?_
     refine ag.mk ⟨rfl,by omega,by omega⟩ ?_
     refine cd 3 rfl (kZ rfl _ ha.1 (by rw[hF.ll];omega)) ?_
     have gl:(if ix.getD b.toNat 0<lo.getD a.toNat 0 then ix.getD b.toNat 0 else lo.getD a.toNat 0)=min (lo.getD a.toNat 0) (ix.getD b.toNat 0):=by split <;> omega
     have hE:(w,cc (bA n l) bi bl bo n (.ae bs 0 [a].length 1) (cH+1) eR)::(bi,aj ix)::(bl,aj (lo.set a.toNat (if ix.getD b.toNat 0<lo.getD a.toNat 0 then ix.getD b.toNat 0 else lo.getD a.toNat 0)))::(bo,aY on)::(bs,aj [a]++Js)::(bw,aW [(a,1)]++[])::(fX++σ)=(w,cc (bA n l) bi bl bo n (.ae bs 0 [a].length 1) (cH+1) eR)::(bi,aj ix)::(bl,aj (lo.set a.toNat (min (lo.getD a.toNat 0) (ix.getD b.toNat 0))))::(bo,aY on)::(bs,aj [a]++Js)::(bw,aW [(a,1)]++[])::(fX++σ):=by rw[gl]
     exact tk hr ((ix,lo.set a.toNat (min (lo.getD a.toNat 0) (ix.getD b.toNat 0)),on,[a],cH+1,P0),(bs,Js,eR,fX),([],a,1),(bw,[])) ⟨rfl,⟨⟨hO,hp⟩,hA,hM⟩,⟨rfl,rfl,trivial⟩,.pull [5,5,5,5,5] (aF hE)⟩
    ·rw[jZ]at c2
     have hO:=FI.off (w:=[]) hF ab hb cJ.1 c1 (of_decide_eq_false c2)
     exact tk hr ((ix,lo,on,[a],cH+1,P0),(bs,Js,eR,fX),([],a,1),(bw,[])) ⟨rfl,⟨⟨hO,hp⟩,hA,hM⟩,⟨rfl,rfl,trivial⟩,.pull [5,5,5,5,5] (aF rfl)⟩
  ·have au:(an n l a).length=0:=by omega
   refine aa 0 ?_
   intro aC
   refine ai 0 ?_
   refine aa 0 ?_
   have hT:=FI.tell (w:=[]) (A:=[]) (B:=[]) (part:=eu [a]) hF (by omega) rfl heq (fun x y hy=>(j8.1 hy).1) (yV [a]) (Ce (by simp))
   have B0:=Cp hF.tj.prt
   have IX:((w,cc (bA n l) bi bl bo n (.ae bs 0 [a].length 1) (cH+1) eR)::(bi,aj ix)::(bl,aj lo)::(bo,aY on)::(bs,aj [a]++Js)::(fX++((aC,[AV.int .i64 a,.int .i64 0])::(bw,[AV.int .i64 a,.int .i64 0])::σ))).Perm ((aC,[AV.int .i64 a,.int .i64 0])::(bw,[AV.int .i64 a,.int .i64 0])::(w,cc (bA n l) bi bl bo n (.ae bs 0 [a].length 1) (cH+1) eR)::(bi,aj ix)::(bl,aj lo)::(bo,aY on)::(bs,aj [a]++Js)::(fX++σ)):=by
    have h1:=td [(w,cc (bA n l) bi bl bo n (.ae bs 0 [a].length 1) (cH+1) eR),(bi,aj ix),(bl,aj lo),(bo,aY on),(bs,aj [a]++Js)] fX σ (aC,[AV.int .i64 a,.int .i64 0]) (bw,[AV.int .i64 a,.int .i64 0])
    exact h1.trans (List.Perm.cons _ (List.perm_middle (l₁:=[(w,cc (bA n l) bi bl bo n (.ae bs 0 [a].length 1) (cH+1) eR),(bi,aj ix),(bl,aj lo),(bo,aY on),(bs,aj [a]++Js)])))
   refine .perm _ IX (O1 w bi bl bo n (bA n l) ix lo [] [] on P0 (cH+1) _ eR _ fX a _ ha.1 ha.2 hF.li hF.ll hF.ja heq (by simp) (fun x hx=>by rw[List.mem_singleton.1 hx];exact ha) (by show 1≤10000;decide) (by omega) (.ae bs 1 (aj [a]) Js rfl) hp) ?_
   rintro _ _ ⟨rfl,dy,gy,fo,fj,cT,lL,rfl⟩
   have eY:((aC,[AV.int .i64 a,.int .i64 0])::(w,cc (bA n l) bi bl bo n dy (cH+1) fo)::(bi,aj ix)::(bl,aj lo)::(bo,aY (dM [a] on))::(bw,[AV.int .i64 a,.int .i64 0])::(gy++(fj++σ))).Perm ((w,cc (bA n l) bi bl bo n dy (cH+1) fo)::(bi,aj ix)::(bl,aj lo)::(bo,aY (dM [a] on))::(gy++(fj++((aC,[AV.int .i64 a,.int .i64 0])::(bw,[AV.int .i64 a,.int .i64 0])::σ)))):=by
    have h1:=(td [(w,cc (bA n l) bi bl bo n dy (cH+1) fo),(bi,aj ix),(bl,aj lo),(bo,aY (dM [a] on))] (gy++fj) σ (aC,[AV.int .i64 a,.int .i64 0]) (bw,[AV.int .i64 a,.int .i64 0])).symm
    rw[List.append_assoc,List.append_assoc]at h1
    exact h1
   refine⟨_,eY,?_⟩
   refine ag.mk (by decide) ?_
   exact .drop 0 1 (.drop 4 1 (.done ⟨rfl,ix,lo,dM [a] on,cH+1,P0++[eu [a]],dy,gy,fo,fj,hT,cT,lL,hA,hM,rfl⟩))
end Go.Proofs.YtnpidbjdilnhlaaGreat
