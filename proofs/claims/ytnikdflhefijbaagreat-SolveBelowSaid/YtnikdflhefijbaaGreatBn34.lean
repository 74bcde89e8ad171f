import Derived.Test.YtnikdflhefijbaaGreatBn33
import Derived.Test.YtnikdflhefijbaaGreatBn24
import Derived.Test.YtnikdflhefijbaaGreatBn25
namespace Go.Proofs.YtnikdflhefijbaaGreat
open Go.RowKit
set_option maxRecDepth 100000
def bF(l:List (Int×Nat)):List AV:=l.flatMap fun t=>[.int .i64 t.1,.int .i64 t.2]
theorem mi:∀l:List (Int×Nat),(bF l).length=l.length*2
 | []=>rfl
 |t::l=>by
  show ([AV.int .i64 t.1,.int .i64 t.2]++bF l).length=_
  rw[bQ,mi l,ie]
  show 2+l.length*2=(l.length+1)*2
  omega
theorem oU(l m:List (Int×Nat)):bF (l++m)=bF l++bF m:=zl
theorem rJ{w:List (Int×Nat)}{v:Int}{k:Nat}{J:List AV}{m:Nat}(hm:m=w.length):(bF (w++[(v,k)])++J)[m*2]?=some (.int .i64 v):=by
 subst hm
 rw[oU,dM,iJ (by rw[mi];omega),mi,pG];rfl
theorem BK{w:List (Int×Nat)}{v:Int}{k:Nat}{J:List AV}{m:Nat}(hm:m=w.length):(bF (w++[(v,k)])++J)[m*2+1]?=some (.int .i64 k):=by
 subst hm
 rw[oU,dM,iJ (by rw[mi];omega),mi,Jc];rfl
theorem B2{w:List (Int×Nat)}{v:Int}{k:Nat}{J:List AV}{m:Nat}(hm:m=w.length):(bF (w++[(v,k)])++J).set (m*2+1) (.int .i64 ((k+1:Nat):Int))=bF (w++[(v,k+1)])++J:=by
 subst hm
 rw[oU,oU,dM,dM,Jj _ _ (by rw[mi];omega),mi,Jc];rfl
def bS(n:Nat)(l:List bC):List (List Int):=(List.range n).map fun a:Nat=>au n l a
theorem o6{n:Nat}{l:List bC}{a:Int}(h:0≤a∧a<n):(bS n l)[a.toNat]?=some (au n l a):=by
 unfold bS
 rw[fo,tU (by omega)]
 show some (au n l (a.toNat:Int))=_
 rw[lP h.1]
theorem Bx(zs:List Int):(fv zs).Perm zs:=List.mergeSort_perm _ _
theorem E5{zs:List Int}(h:zs.Nodup):(fv zs).Pairwise (· < ·):=((OY zs).and ((Bx zs).nodup_iff.2 h)).imp fun h=>by omega
theorem Fg{n:Nat}{nx:Int→List Int}{P:List (List Int)}(h:qG n nx P):P.length≤P.flatten.length:=by
 have:=h.ne
 clear h
 induction P with
 |nil=>exact aU _
 |cons p P ih=>
  have h1:=mM.2 (this p (cm ..))
  have h2:=ih fun q hq=>this q (cY _ hq)
  rw[Bh,bQ,ie];omega
theorem SH{i:TI}(hw:i.wide=true){cs v:List AV}{off:Nat}(h:off+i.size≤cs.length)(hv:(cs.drop off).take i.size=v):eu i cs off=some (.agg v):=by
 unfold eu
 rw[hw]
 show (match Nat.ble (off+i.size) cs.length with | true=>some (AV.agg ((cs.drop off).take i.size)) | false=>none)=_
 rw[Oy h,hv]
theorem Pu{w:List (Int×Nat)}{v:Int}{k:Nat}{J:List AV}{m:Nat}(hm:m=w.length):((bF (w++[(v,k)])++J).drop (m*2)).take 2=[.int .i64 v,.int .i64 k]:=by
 subst hm
 rw[oU,dM,Oq (by rw[mi];exact aU _),Jb (by rw[mi];exact aU _)];rfl
theorem vV(X a σ:Hp)(x y:Nat×List AV):(X++(a++(x::y::σ))).Perm (x::(X++(y::(a++σ)))):=by
 have h1:(a++(x::y::σ)).Perm (x::y::(a++σ)):=nF.trans (List.Perm.cons _ nF)
 exact (List.Perm.append_left X h1).trans nF
def CP(rec:Go.Code→Tm→Hp→(Ex→Tm→Hp→Prop)→Prop)(c:Go.Code){S:Type}(fQ:S→Nat)(L:S→List (Nat×AV))(H:S→Hp)(p:S→Prop)(μ:S→Nat)(Q:Ex→Tm→Hp→Prop):Prop:=
 ∀s g,p s→(match findLabel c (fQ s) with | some r=>rec r (eC g (L s)) (H s) (fun e t' σ'=>match e with | .goto l'=>qX fQ L H p μ s l' t' σ' | e=>Q e t' σ') | none=>False)
theorem Ps{P:Program}{TT:TypeId→Option TI}{fn:Go.Func}{c:Go.Code}{xs:List AV}{σ:Hp}{R:AV→Hp→Prop}{S:Type}(hb:fn.body=some (.scope c))(fQ:S→Nat)(L:S→List (Nat×AV))(H:S→Hp)(p:S→Prop)(μ:S→Nat)
  (hr:CP (mu P TT 999) c fQ L H p μ (uK TT fn.results.toList R))
  (h:CP (mu P TT 999) c fQ L H p μ (uK TT fn.results.toList R)→codeF P TT (mu P TT 999) (.scope c) (t0 xs) σ (uK TT fn.results.toList R)):uL P TT fn xs σ R:=by
 have h1:mu P TT 1000 (.scope c) (t0 xs) σ (uK TT fn.results.toList R):=h hr
 unfold uL
 rw[hb]
 exact h1
theorem vY{rec:Go.Code→Tm→Hp→(Ex→Tm→Hp→Prop)→Prop}{c:Go.Code}{S:Type}{fQ:S→Nat}{L:S→List (Nat×AV)}{H:S→Hp}{p:S→Prop}{μ:S→Nat}{Q:Ex→Tm→Hp→Prop}{t:Tm}{σ:Hp}{l:Nat}(hr:CP rec c fQ L H p μ Q)(s0:S)(h0:l=fQ s0∧p s0∧agree t (L s0)∧iX σ (H s0)):
  qY (fun l t σ Q=>match findLabel c l with | some r=>rec r t σ Q | none=>False) l Q t σ:=.loop fQ L H p μ s0 h0 hr
abbrev FrS:=(List Int×List Int×List Bool×List Int×Nat×List (List Int))×(Nat×List AV×AV×Hp)×(List (Int×Nat)×Int×Nat)×(Nat×List AV)
theorem afh(n w bi bl bo:Nat)(l:List bC)(lI vt:List Int)(vq:List Bool)(dD:Nat)(P0:List (List Int))(tB fP:AV)(uM im:Hp)(a:Int)(σ:Hp)(hn:n≤1000)(h:FI n (au n l) lI vt vq [] dD P0 [])(ha:0≤a∧a<n)(hf:lI.getD a.toNat 0=0)(hs:ir 1 0 tB uM [])(hp:Acc 1 P0.length fP im (cy P0)):
  ACalls Tryz.prog 290 [.ptr w 0,.int .i64 a] ((w,dc (bS n l) bi bl bo n tB dD fP)::(bi,ao lI)::(bl,ao vt)::(bo,bK vq)::(uM++(im++σ)))
   (fun r σ'=>r=.tup []∧∃ix lo on aG P vs lG vp eB,FI n (au n l) ix lo on [] aG P []∧ir 1 0 vs lG []∧Acc 1 P.length vp eB (cy P)∧ix.getD a.toNat 0≠0∧(∀b:Nat,lI.getD b 0≠0→ix.getD b 0≠0)∧σ'=(w,dc (bS n l) bi bl bo n vs aG vp)::(bi,ao ix)::(bl,ao lo)::(bo,bK on)::(lG++(eB++σ))):=by
 have hle:=h.Ab
 refine ay Tryz.func290 ?_
 refine Ps (S:=FrS) rfl (fun _=>0)
  (fun x=>[(0,.ptr w 0),(4,.ae x.2.2.2.1 0 (x.2.2.1.1.length+1) 2)])
  (fun x=>(w,dc (bS n l) bi bl bo n (.ae x.2.1.1 0 x.1.2.2.2.1.length 1) x.1.2.2.2.2.1 x.2.1.2.2.1)::(bi,ao x.1.1)::(bl,ao x.1.2.1)::(bo,bK x.1.2.2.1)::(x.2.1.1,ao x.1.2.2.2.1++x.2.1.2.1)::(x.2.2.2.1,bF (x.2.2.1.1++[(x.2.2.1.2.1,x.2.2.1.2.2)])++x.2.2.2.2)::(x.2.1.2.2.2++σ))
  (fun x=>(FI n (au n l) x.1.1 x.1.2.1 x.1.2.2.1 x.1.2.2.2.1 x.1.2.2.2.2.1 x.1.2.2.2.2.2 (x.2.2.1.1++[(x.2.2.1.2.1,x.2.2.1.2.2)])∧Acc 1 x.1.2.2.2.2.2.length x.2.1.2.2.1 x.2.1.2.2.2 (cy x.1.2.2.2.2.2))∧x.1.1.getD a.toNat 0≠0∧∀b:Nat,lI.getD b 0≠0→x.1.1.getD b 0≠0)
  (fun x=>iS (au n l) (x.2.2.1.1++[(x.2.2.1.2.1,x.2.2.1.2.2)])+iq (au n l) x.1.1 n) ?_ ?_
 ·rintro⟨⟨ix,lo,on,st,aG,P⟩,⟨bs,Js,vp,eB⟩,⟨wy,v,k⟩,⟨bw,J⟩⟩ g ⟨⟨sB,tL⟩,qx,Er⟩
  have hF:FI n (au n l) ix lo on st aG P (wy++[(v,k)]):=sB
  have hP:Acc 1 P.length vp eB (cy P):=tL
  have hA:ix.getD a.toNat 0≠0:=qx
  have hM:∀b:Nat,lI.getD b 0≠0→ix.getD b 0≠0:=Er
  clear sB tL qx Er
  have hle:=hF.Ab
  have bU:=hF.mem
  have dm:=hF.tj.node v bU
  have AY:k≤(au n l v).length:=hF.tn (v,k) (jv _ (bh.2 rfl))
  have l7:=xQ n l v
  have vv:wy.length+1≤st.length:=by
   have:=hF.tj.sub.length_le
   rw[cd,bQ]at this
   exact this
  have nm:IntKind.i64.wrap (((wy.length+1:Nat):Int)-1)=((wy.length:Nat):Int):=by rw[ca (by omega)];omega
  have hX:0+(IntKind.i64.wrap (((wy.length+1:Nat):Int)-1)).toNat*2=wy.length*2:=by rw[nm];omega
  have mE:eu ⟨.int .i64,1,8,[.int .i64 0]⟩ (bF (wy++[(v,k)])++J) (0+(IntKind.i64.wrap (((wy.length+1:Nat):Int)-1)).toNat*2+0)=some (.int .i64 v):=je rfl (by rw[hX];exact rJ rfl)
  have lK:eu ⟨.int .i64,1,8,[.int .i64 0]⟩ (bF (wy++[(v,k)])++J) (0+(IntKind.i64.wrap (((wy.length+1:Nat):Int)-1)).toNat*2+1)=some (.int .i64 k):=je rfl (by rw[hX];exact BK rfl)
  have ej:(bF (wy++[(v,k)])++J).length=wy.length*2+2+J.length:=by rw[bQ,mi,bQ];show (wy.length+1)*2+_=_;omega
  have l8:IntKind.i64.wrap ((k:Int)+1)=((k+1:Nat):Int):=by rw[ca (by omega)];omega
  have vw:kJ ⟨.int .i64,1,8,[.int .i64 0]⟩ (bF (wy++[(v,k)])++J) (0+(IntKind.i64.wrap (((wy.length+1:Nat):Int)-1)).toNat*2+1) (.int .i64 (IntKind.i64.wrap ((k:Int)+1)))=some (bF (wy++[(v,k+1)])++J):=by
   rw[uv rfl rfl (by rw[hX,ej];omega),hX,l8,B2 rfl]
  have uI:2=2∧0≤IntKind.i64.wrap (((wy.length+1:Nat):Int)-1)∧IntKind.i64.wrap (((wy.length+1:Nat):Int)-1)<((wy.length+1:Nat):Int):=⟨rfl,by omega,by omega⟩
  refine ag.mk uI ?_
  refine .quiet (by kernel_rfl) ?_
  refine aT 5 rfl lK ?_
  refine aa 0 ?_
  refine aT 5 rfl mE ?_
  refine ag.mk rfl ?_
  refine bG.mk (au n l v) (by omega) (o6 dm) ?_
  refine an (p:=(k:Int)<(au n l v).length) (fun ab=>?_) (fun ar=>?_)
  ·have ab:k<(au n l v).length:=by omega
   obtain⟨b,hb⟩:∃b,(au n l v)[k]=b:=⟨_,rfl⟩
   have sw:b∈au n l v:=hb▸bX ab
   have dG:=(lU.1 sw).1
   refine .quiet (by kernel_rfl) ?_
   refine aa 0 ?_
   refine aT 5 rfl mE ?_
   refine ag.mk rfl ?_
   refine bG.mk (au n l v) (by omega) (o6 dm) ?_
   refine aT 5 rfl lK ?_
   refine ag.mk rfl ?_
   refine bG.mk b (by omega) ((get_some ab).trans (congrArg some hb)) ?_
   refine aT 5 rfl lK ?_
   refine cX 5 rfl vw ?_
   refine aa 0 ?_
   refine ag.mk ⟨rfl,by omega,by omega⟩ ?_
   refine aT 1 rfl (eT rfl dG.1 (by rw[hF.li];omega)) ?_
   refine an (p:=ix.getD b.toNat 0=0) (fun c1=>?_) (fun c1=>?_)
   ·have hN:=hF.new ab hb dG c1
    have dW:(ao st).length=st.length*1:=by rw[mQ,eH]
    refine .mk [] _ (Ac w bi bl bo n (bS n l) ix lo st on aG _ vp _ b ((bw,bF (wy++[(v,k+1)])++J)::(eB++σ)) dG.1 dG.2 hF.li hF.ll hF.kx (.ae bs st.length (ao st) Js dW) (by omega) (by omega)) ?_
    rintro _ _ ⟨rfl,AL,Dc,fh,rfl⟩
    obtain⟨lR,oR,rfl,rfl,_⟩:=fh.pos (by rw[bQ];show 0<_+1;omega)
    intro aD
    have HH:(bF (wy++[(v,k+1)])).length=(wy.length+1)*2:=by rw[mi,bQ];rfl
    refine xO (k:=wy.length+1) (n:=1) [_,_,_,_,_,_] (.ae bw (wy.length+1) (bF (wy++[(v,k+1)])) J HH) (.ae 0 aD 0 1 _ rfl (cH rfl)) rfl (by omega) (by decide) (by decide) (fun v' bu h'=>?_)
    obtain⟨oQ,J2,rfl,rfl,_⟩:=h'.pos (by omega)
    have Nt:(wy++[(v,k+1)]).length+1=wy.length+1+1:=by rw[bQ];rfl
    have vF:(b.toNat:Int)=b:=lP dG.1
    have so:=Kq (nx:=au n l) (ix:=ix) (b:=b.toNat) (v:=((aG+1:Nat):Int)) (by omega) c1 (by rw[hF.li];omega) n
    rw[ai (by omega),vF]at so
    refine .mk ((ix.set b.toNat ((aG+1:Nat):Int),lo.set b.toNat ((aG+1:Nat):Int),on.set b.toNat true,st++[b],aG+1,P),(lR,oR,vp,eB),(wy++[(v,k+1)],b,0),(oQ,J2)) rfl ?_ ⟨⟨hN,hP⟩,?_,?_⟩ ⟨rfl,by rw[Nt];rfl,trivial⟩ (.drop 0 1 (aJ (by rw[oU (wy++[(v,k+1)])];rfl)))
    ·show iS (au n l) ((wy++[(v,k+1)])++[(b,0)])+iq (au n l) (ix.set b.toNat ((aG+1:Nat):Int)) n<iS (au n l) (wy++[(v,k)])+iq (au n l) ix n
     rw[lT,lT,lT];omega
    ·show (ix.set b.toNat ((aG+1:Nat):Int)).getD a.toNat 0≠0
     rw[mj];split
     ·omega
     ·exact hA
    ·intro z hz
     show (ix.set b.toNat ((aG+1:Nat):Int)).getD z 0≠0
     rw[mj];split
     ·omega
     ·exact hM z hz
   ·have c1:¬(ix.getD b.toNat 0=0):=c1
    refine aa 0 ?_
    refine ag.mk ⟨rfl,by omega,by omega⟩ ?_
    have lM:=hF.vm b dG.1 dG.2
    have Du:eu ⟨.int .i64,1,8,[.int .i64 0]⟩ (bF (wy++[(v,k+1)])++J) (0+(IntKind.i64.wrap (((wy.length+1:Nat):Int)-1)).toNat*2+0)=some (.int .i64 v):=je rfl (by rw[hX];exact rJ rfl)
    refine fu.kv 3 _ _ rfl (sQ rfl dG.1 (by rw[hF.kx];omega)) (fun c2=>?_) (fun c2=>?_)
    ·rw[lM]at c2
     have hO:=hF.HD ab hb (fm c2)
     refine .sched [] (upto [] 28 0) (by kernel_rfl) ?_
     refine aa 0 ?_
     refine aT 5 rfl Du ?_
     refine aa 0 ?_
     refine aT 5 rfl Du ?_
     refine ag.mk ⟨rfl,by omega,by omega⟩ ?_
     refine aT 2 rfl (eT rfl dm.1 (by rw[hF.ll];omega)) ?_
     refine aa 0 ?_
     refine ag.mk ⟨rfl,by omega,by omega⟩ ?_
     refine aT 1 rfl (eT rfl dG.1 (by rw[hF.li];omega)) ?_
     refine ag.mk ⟨rfl,by omega,by omega⟩ ?_
     refine cX 2 rfl (mV rfl _ dm.1 (by rw[hF.ll];omega)) ?_
     have jk:(if ix.getD b.toNat 0<lo.getD v.toNat 0 then ix.getD b.toNat 0 else lo.getD v.toNat 0)=min (lo.getD v.toNat 0) (ix.getD b.toNat 0):=by split <;> omega
     refine .mk ((ix,lo.set v.toNat (min (lo.getD v.toNat 0) (ix.getD b.toNat 0)),on,st,aG,P),(bs,Js,vp,eB),(wy,v,k+1),(bw,J)) rfl ?_ ⟨⟨hO,hP⟩,hA,hM⟩ ⟨rfl,rfl,trivial⟩ (aJ (by rw[← jk];rfl))
     show iS (au n l) (wy++[(v,k+1)])+iq (au n l) ix n<iS (au n l) (wy++[(v,k)])+iq (au n l) ix n
     rw[lT,lT];omega
    ·rw[lM]at c2
     have hO:=hF.off ab hb dG.1 c1 (pH c2)
     refine .mk ((ix,lo,on,st,aG,P),(bs,Js,vp,eB),(wy,v,k+1),(bw,J)) rfl ?_ ⟨⟨hO,hP⟩,hA,hM⟩ ⟨rfl,rfl,trivial⟩ (.refl _)
     show iS (au n l) (wy++[(v,k+1)])+iq (au n l) ix n<iS (au n l) (wy++[(v,k)])+iq (au n l) ix n
     rw[lT,lT];omega
  ·have ar:k=(au n l v).length:=by omega
   have mD:eu ⟨.aY [(0,3),(1,3)],2,16,[.int .i64 0,.int .i64 0]⟩ (bF (wy++[(v,k)])++J) (0+(IntKind.i64.wrap (((wy.length+1:Nat):Int)-1)).toNat*2)=some (.agg [.int .i64 v,.int .i64 k]):=SH rfl (by rw[hX,ej];show wy.length*2+2≤_;omega) (by rw[hX];exact Pu rfl)
   refine aT 5 rfl mD ?_
   intro bt
   refine ak 0 ?_
   refine aa 0 ?_
   have p9:(IntKind.i64.wrap (((wy.length+1:Nat):Int)-1)).toNat-Int.toNat 0=wy.length:=by rw[nm];omega
   have de:0≤(0:Int)∧(0:Int)≤IntKind.i64.wrap (((wy.length+1:Nat):Int)-1)∧IntKind.i64.wrap (((wy.length+1:Nat):Int)-1)≤((wy.length+1:Nat):Int)∧2=2:=⟨by omega,by omega,by omega,rfl⟩
   by_cases he:lo.getD v.toNat 0=ix.getD v.toNat 0
   ·obtain⟨A,B,aq,Et,hB1⟩:=QM hF.tj.inc bU
    have Nk:v ∉ A:=fun hm=>by have:=Et v hm;omega
    have Nj:∀x∈v::B,0≤x∧x<(n:Int):=fun x hx=>hF.tj.node x (by rw[aq];exact jv _ hx)
    have bZ:=ub hF.tj.inc
    rw[aq]at bZ
    have hT:=hF.tell (by omega) aq he (fun x y hy=>(lU.1 hy).1) (Bx (v::B)) (E5 (oP.1 bZ).2.1)
    have Ep:=Fg hF.tj.prt
    subst aq
    have dW:(ao (A++v::B)).length=(A++v::B).length*1:=by rw[mQ,eH]
    refine .perm _ (vV [_,_,_,_,_] eB σ _ _) (P9 w bi bl bo n (bS n l) ix lo A B on P aG _ vp _ eB v _ dm.1 dm.2 hF.li hF.ll hF.kx he Nk Nj (by omega) (by omega) (.ae bs (A++v::B).length (ao (A++v::B)) Js dW) hP) ?_
    rintro _ _ ⟨rfl,ep,iP,gr,gm,dE,nw,rfl⟩
    have fY:((bt,[AV.int .i64 v,.int .i64 k])::(w,dc (bS n l) bi bl bo n ep aG gr)::(bi,ao ix)::(bl,ao lo)::(bo,bK (eL (v::B) on))::(bw,bF (wy++[(v,k)])++J)::(iP++(gm++σ))).Perm ((w,dc (bS n l) bi bl bo n ep aG gr)::(bi,ao ix)::(bl,ao lo)::(bo,bK (eL (v::B) on))::(iP++(gm++((bt,[AV.int .i64 v,.int .i64 k])::(bw,bF (wy++[(v,k)])++J)::σ)))):=by
     have h1:=(vV [(w,dc (bS n l) bi bl bo n ep aG gr),(bi,ao ix),(bl,ao lo),(bo,bK (eL (v::B) on))] (iP++gm) σ (bt,[AV.int .i64 v,.int .i64 k]) (bw,bF (wy++[(v,k)])++J)).symm
     rw[dM,dM]at h1
     exact h1
    refine⟨_,fY,?_⟩
    refine ag.mk de ?_
    rcases EK wy with dP | ⟨w',⟨u,i⟩,dP⟩
    ·have qd:wy.length=0:=by rw[dP];rfl
     rw[dP]at hT
     obtain rfl:A=[]:=hT.TF
     refine an (p:=(0:Int)<(((IntKind.i64.wrap (((wy.length+1:Nat):Int)-1)).toNat-Int.toNat 0:Nat):Int)) (fun c3=>?_) (fun c3=>?_)
     ·rw[p9,qd]at c3;exact absurd c3 (by decide)
     ·refine .drop 0 1 (.drop 4 1 (.done ⟨rfl,ix,lo,eL (v::B) on,aG,P++[fv (v::B)],ep,iP,gr,gm,hT,dE,nw,hA,hM,rfl⟩))
    ·have dP:wy=w'++[(u,i)]:=by simpa using dP
     have qd:wy.length=w'.length+1:=by rw[dP,bQ];rfl
     have iT:(IntKind.i64.wrap (((wy.length+1:Nat):Int)-1)).toNat-Int.toNat 0=w'.length+1:=p9.trans qd
     have nU:IntKind.i64.wrap ((((IntKind.i64.wrap (((wy.length+1:Nat):Int)-1)).toNat-Int.toNat 0:Nat):Int)-1)=((w'.length:Nat):Int):=by rw[iT,ca (by omega)];omega
     have zc:(0+Int.toNat 0*2)+(IntKind.i64.wrap ((((IntKind.i64.wrap (((wy.length+1:Nat):Int)-1)).toNat-Int.toNat 0:Nat):Int)-1)).toNat*2+0=w'.length*2:=by rw[nU,bM];show 0+0*2+_+0=_;omega
     have n9:bF (wy++[(v,k)])++J=bF (w'++[(u,i)])++([.int .i64 v,.int .i64 k]++J):=by rw[dP,oU,dM];rfl
     have so:eu ⟨.int .i64,1,8,[.int .i64 0]⟩ (bF (wy++[(v,k)])++J) ((0+Int.toNat 0*2)+(IntKind.i64.wrap ((((IntKind.i64.wrap (((wy.length+1:Nat):Int)-1)).toNat-Int.toNat 0:Nat):Int)-1)).toNat*2+0)=some (.int .i64 u):=je rfl (by rw[zc,n9];exact rJ rfl)
     have e8:0≤u∧u<(n:Int):=hF.tj.node u (hF.tj.sub.subset (by rw[dP];simp))
     have iE:AV.ae bw (0+Int.toNat 0*2) ((IntKind.i64.wrap (((wy.length+1:Nat):Int)-1)).toNat-Int.toNat 0) 2=.ae bw 0 (w'.length+1) 2:=by rw[iT];rfl
     have Ma:AV.ae bw 0 (w'.length+1) 2=AV.ae bw (0+Int.toNat 0*2) ((IntKind.i64.wrap (((wy.length+1:Nat):Int)-1)).toNat-Int.toNat 0) 2:=iE.symm
     refine an (p:=(0:Int)<(((IntKind.i64.wrap (((wy.length+1:Nat):Int)-1)).toNat-Int.toNat 0:Nat):Int)) (fun c3=>?_) (fun c3=>?_)
     rotate_left
     ·rw[iT]at c3;omega
     have yj:2=2∧0≤IntKind.i64.wrap ((((IntKind.i64.wrap (((wy.length+1:Nat):Int)-1)).toNat-Int.toNat 0:Nat):Int)-1)∧IntKind.i64.wrap ((((IntKind.i64.wrap (((wy.length+1:Nat):Int)-1)).toNat-Int.toNat 0:Nat):Int)-1)<(((IntKind.i64.wrap (((wy.length+1:Nat):Int)-1)).toNat-Int.toNat 0:Nat):Int):=⟨rfl,by rw[nU];omega,by rw[nU,iT];omega⟩
     refine ag.mk yj ?_
     refine aT 5 rfl so ?_
     refine .sched [] (upto [] 23 0) (by kernel_rfl) ?_
     refine aa 1 ?_
     refine aa 1 ?_
     refine ag.mk ⟨rfl,by omega,by omega⟩ ?_
     refine aT 3 rfl (eT rfl e8.1 (by rw[hF.ll];omega)) ?_
     refine aa 1 ?_
     refine aa 0 ?_
     refine ag.mk ⟨rfl,by omega,by omega⟩ ?_
     refine aT 3 rfl (eT rfl dm.1 (by rw[hF.ll];omega)) ?_
     refine ag.mk ⟨rfl,by omega,by omega⟩ ?_
     refine cX 3 rfl (mV rfl _ e8.1 (by rw[hF.ll];omega)) ?_
     have jk:(if lo.getD v.toNat 0<lo.getD u.toNat 0 then lo.getD v.toNat 0 else lo.getD u.toNat 0)=min (lo.getD u.toNat 0) (lo.getD v.toNat 0):=by split <;> omega
     have N6:0<A.length:=List.length_pos_of_mem (a:=u) (hT.tj.sub.subset (by rw[dP];simp))
     obtain⟨lR,oR,rfl,rfl,_⟩:=dE.pos N6
     have L6:=FI.same (dP▸hF) he
     rw[dP]at hT
     have hE:(w,dc (bS n l) bi bl bo n (.ae lR 0 A.length 1) aG gr)::(bi,ao ix)::(bl,ao (lo.set u.toNat (if lo.getD v.toNat 0<lo.getD u.toNat 0 then lo.getD v.toNat 0 else lo.getD u.toNat 0)))::(bo,bK (eL (v::B) on))::(lR,ao A++oR)::(bw,bF (wy++[(v,k)])++J)::(gm++σ)=(w,dc (bS n l) bi bl bo n (.ae lR 0 A.length 1) aG gr)::(bi,ao ix)::(bl,ao (lo))::(bo,bK (eL (v::B) on))::(lR,ao A++oR)::(bw,bF (w'++[(u,i)])++([.int .i64 v,.int .i64 k]++J))::(gm++σ):=by rw[jk,L6,n9]
     refine .mk ((ix,lo,eL (v::B) on,A,aG,P++[fv (v::B)]),(lR,oR,gr,gm),(w',u,i),(bw,[AV.int .i64 v,.int .i64 k]++J)) rfl ?_ ⟨⟨hT,nw⟩,hA,hM⟩ ⟨rfl,iE,trivial⟩ (.drop 0 1 (.pull [4,4,4,4,5] (aJ hE)))
     show iS (au n l) (w'++[(u,i)])+iq (au n l) ix n<iS (au n l) (wy++[(v,k)])+iq (au n l) ix n
     rw[dP,lT (au n l) (w'++[(u,i)])];omega
   ·have N1:=fun ρ=>Sn w bi bl bo n (bS n l) ix lo on aG (.ae bs 0 st.length 1) vp v ρ dm.1 dm.2 hF.li hF.ll he
    refine az [4,4,4,4] (N1 _) ?_
    refine ag.mk de ?_
    rcases EK wy with dP | ⟨w',⟨u,i⟩,dP⟩
    ·have qd:wy.length=0:=by rw[dP];rfl
     rw[dP]at hF
     exact absurd hF.one he
    ·have dP:wy=w'++[(u,i)]:=by simpa using dP
     have qd:wy.length=w'.length+1:=by rw[dP,bQ];rfl
     have iT:(IntKind.i64.wrap (((wy.length+1:Nat):Int)-1)).toNat-Int.toNat 0=w'.length+1:=p9.trans qd
     have nU:IntKind.i64.wrap ((((IntKind.i64.wrap (((wy.length+1:Nat):Int)-1)).toNat-Int.toNat 0:Nat):Int)-1)=((w'.length:Nat):Int):=by rw[iT,ca (by omega)];omega
     have zc:(0+Int.toNat 0*2)+(IntKind.i64.wrap ((((IntKind.i64.wrap (((wy.length+1:Nat):Int)-1)).toNat-Int.toNat 0:Nat):Int)-1)).toNat*2+0=w'.length*2:=by rw[nU,bM];show 0+0*2+_+0=_;omega
     have n9:bF (wy++[(v,k)])++J=bF (w'++[(u,i)])++([.int .i64 v,.int .i64 k]++J):=by rw[dP,oU,dM];rfl
     have so:eu ⟨.int .i64,1,8,[.int .i64 0]⟩ (bF (wy++[(v,k)])++J) ((0+Int.toNat 0*2)+(IntKind.i64.wrap ((((IntKind.i64.wrap (((wy.length+1:Nat):Int)-1)).toNat-Int.toNat 0:Nat):Int)-1)).toNat*2+0)=some (.int .i64 u):=je rfl (by rw[zc,n9];exact rJ rfl)
     have e8:0≤u∧u<(n:Int):=hF.tj.node u (hF.tj.sub.subset (by rw[dP];simp))
     have iE:AV.ae bw (0+Int.toNat 0*2) ((IntKind.i64.wrap (((wy.length+1:Nat):Int)-1)).toNat-Int.toNat 0) 2=.ae bw 0 (w'.length+1) 2:=by rw[iT];rfl
     have Ma:AV.ae bw 0 (w'.length+1) 2=AV.ae bw (0+Int.toNat 0*2) ((IntKind.i64.wrap (((wy.length+1:Nat):Int)-1)).toNat-Int.toNat 0) 2:=iE.symm
     refine an (p:=(0:Int)<(((IntKind.i64.wrap (((wy.length+1:Nat):Int)-1)).toNat-Int.toNat 0:Nat):Int)) (fun c3=>?_) (fun c3=>?_)
     rotate_left
     ·rw[iT]at c3;omega
     have yj:2=2∧0≤IntKind.i64.wrap ((((IntKind.i64.wrap (((wy.length+1:Nat):Int)-1)).toNat-Int.toNat 0:Nat):Int)-1)∧IntKind.i64.wrap ((((IntKind.i64.wrap (((wy.length+1:Nat):Int)-1)).toNat-Int.toNat 0:Nat):Int)-1)<(((IntKind.i64.wrap (((wy.length+1:Nat):Int)-1)).toNat-Int.toNat 0:Nat):Int):=⟨rfl,by rw[nU];omega,by rw[nU,iT];omega⟩
     refine ag.mk yj ?_
     refine aT 6 rfl so ?_
     refine .sched [] (upto [] 23 0) (by kernel_rfl) ?_
     refine aa 0 ?_
     refine aa 0 ?_
     refine ag.mk ⟨rfl,by omega,by omega⟩ ?_
     refine aT 2 rfl (eT rfl e8.1 (by rw[hF.ll];omega)) ?_
     refine aa 0 ?_
     refine aa 4 ?_
     refine ag.mk ⟨rfl,by omega,by omega⟩ ?_
     refine aT 2 rfl (eT rfl dm.1 (by rw[hF.ll];omega)) ?_
     refine ag.mk ⟨rfl,by omega,by omega⟩ ?_
     refine cX 2 rfl (mV rfl _ e8.1 (by rw[hF.ll];omega)) ?_
     have jk:(if lo.getD v.toNat 0<lo.getD u.toNat 0 then lo.getD v.toNat 0 else lo.getD u.toNat 0)=min (lo.getD u.toNat 0) (lo.getD v.toNat 0):=by split <;> omega
     have hU:=FI.up (dP▸hF) (by omega) he
     have hE:(w,dc (bS n l) bi bl bo n (.ae bs 0 st.length 1) aG vp)::(bi,ao ix)::(bl,ao (lo.set u.toNat (if lo.getD v.toNat 0<lo.getD u.toNat 0 then lo.getD v.toNat 0 else lo.getD u.toNat 0)))::(bo,bK (on))::(bs,ao st++Js)::(bw,bF (wy++[(v,k)])++J)::(eB++σ)=(w,dc (bS n l) bi bl bo n (.ae bs 0 st.length 1) aG vp)::(bi,ao ix)::(bl,ao (lo.set u.toNat (min (lo.getD u.toNat 0) (lo.getD v.toNat 0))))::(bo,bK (on))::(bs,ao st++Js)::(bw,bF (w'++[(u,i)])++([.int .i64 v,.int .i64 k]++J))::(eB++σ):=by rw[jk,n9]
     refine .mk ((ix,lo.set u.toNat (min (lo.getD u.toNat 0) (lo.getD v.toNat 0)),on,st,aG,P),(bs,Js,vp,eB),(w',u,i),(bw,[AV.int .i64 v,.int .i64 k]++J)) rfl ?_ ⟨⟨hU,hP⟩,hA,hM⟩ ⟨rfl,iE,trivial⟩ (.drop 4 1 (aJ hE))
     show iS (au n l) (w'++[(u,i)])+iq (au n l) ix n<iS (au n l) (wy++[(v,k)])+iq (au n l) ix n
     rw[dP,lT (au n l) (w'++[(u,i)])];omega
 ·intro hr
  obtain⟨ix,lo,on,hF,hA,hM,heq,N5⟩:∃ix lo on,FI n (au n l) ix lo on [a] (dD+1) P0 [(a,0)]∧ix.getD a.toNat 0≠0∧(∀b:Nat,lI.getD b 0≠0→ix.getD b 0≠0)∧lo.getD a.toNat 0=ix.getD a.toNat 0∧∀ρ,ACalls Tryz.prog 314 [.ptr w 0,.int .i64 a] ((w,dc (bS n l) bi bl bo n tB dD fP)::(bi,ao lI)::(bl,ao vt)::(bo,bK vq)::(uM++ρ))
    (fun r σ'=>r=.agg [.int .i64 a,.int .i64 0]∧∃bs Js,σ'=(w,dc (bS n l) bi bl bo n (.ae bs 0 [a].length 1) (dD+1) fP)::(bi,ao ix)::(bl,ao lo)::(bo,bK on)::(bs,ao [a]++Js)::ρ):=by
   have h1:=h.enter (way2:=[]) ha hf (fun v hv=>by cases hv) rfl (fun t ht=>by cases ht) (fun t ht=>by cases ht)
   refine⟨_,_,_,h1,?_,?_,?_,fun ρ=>(Ac w bi bl bo n (bS n l) lI vt [] vq dD tB fP uM a ρ ha.1 ha.2 h.li h.ll h.kx hs (bA _) (by omega)).mono ?_⟩
   ·rw[mj,ai ⟨rfl,by rw[h.li];omega⟩];omega
   ·intro z hz
    rw[mj];split
    ·omega
    ·exact hz
   ·rw[mj,mj,ai ⟨rfl,by rw[h.ll];omega⟩,ai ⟨rfl,by rw[h.li];omega⟩]
   ·rintro _ _ ⟨rfl,AL,Dc,fh,rfl⟩
    obtain⟨bs,Js,rfl,rfl,_⟩:=fh.pos (by show 0<1;decide)
    exact⟨rfl,bs,Js,rfl⟩
  clear hf hs h
  have hle:=hF.Ab
  have AY:=xQ n l a
  refine .mk [] _ (N5 (im++σ)) ?_
  rintro _ _ ⟨rfl,bs,Js,rfl⟩
  intro bw
  refine ag.mk ⟨rfl,by decide,by decide⟩ ?_
  refine .quiet (by kernel_rfl) ?_
  refine aa 0 ?_
  refine aa 1 ?_
  refine aa 0 ?_
  refine ag.mk rfl ?_
  refine bG.mk (au n l a) (by omega) (o6 ha) ?_
  refine an (p:=(0:Int)<(au n l a).length) (fun ab=>?_) (fun ar=>?_)
  ·have ab:0<(au n l a).length:=by omega
   obtain⟨b,hb⟩:∃b,(au n l a)[0]=b:=⟨_,rfl⟩
   have sw:b∈au n l a:=hb▸bX ab
   have dG:=(lU.1 sw).1
   refine .quiet (by kernel_rfl) ?_
   refine aa 1 ?_
   refine aa 0 ?_
   refine ag.mk rfl ?_
   refine bG.mk (au n l a) (by omega) (o6 ha) ?_
   refine aa 0 ?_
   refine ag.mk rfl ?_
   refine bG.mk b (by decide) ((get_some ab).trans (congrArg some hb)) ?_
   refine aa 0 ?_
   refine ak 0 ?_
   refine aa 1 ?_
   refine ag.mk ⟨rfl,by omega,by omega⟩ ?_
   refine aT 2 rfl (eT rfl dG.1 (by rw[hF.li];omega)) ?_
   refine an (p:=ix.getD b.toNat 0=0) (fun c1=>?_) (fun c1=>?_)
   ·have hN:=FI.new (w:=[]) hF ab hb dG c1
    refine .mk [5,5,5,5,5] _ (Ac w bi bl bo n (bS n l) ix lo [a] on (dD+1) _ fP _ b ((bw,[.int .i64 a,.int .i64 1])::(im++σ)) dG.1 dG.2 hF.li hF.ll hF.kx (.ae bs 1 (ao [a]) Js rfl) (by show 1≤10000;decide) (by omega)) ?_
    rintro _ _ ⟨rfl,AL,Dc,fh,rfl⟩
    obtain⟨lR,oR,rfl,rfl,_⟩:=fh.pos (by show 0<2;decide)
    intro aD
    refine xO (k:=1) (n:=1) [_,_,_,_,_,_] (.ae bw 1 (bF [(a,1)]) [] rfl) (.ae 0 aD 0 1 _ rfl (cH rfl)) rfl (by decide) (by decide) (by decide) (fun v' bu h'=>?_)
    obtain⟨oQ,J2,rfl,rfl,_⟩:=h'.pos (by decide)
    refine vY hr ((ix.set b.toNat ((dD+1+1:Nat):Int),lo.set b.toNat ((dD+1+1:Nat):Int),on.set b.toNat true,[a]++[b],dD+1+1,P0),(lR,oR,fP,im),([(a,1)],b,0),(oQ,J2)) ⟨rfl,⟨⟨hN,hp⟩,?_,?_⟩,⟨rfl,rfl,trivial⟩,.drop 0 1 (aJ rfl)⟩
    ·show (ix.set b.toNat ((dD+1+1:Nat):Int)).getD a.toNat 0≠0
     rw[mj];split
     ·omega
     ·exact hA
    ·intro z hz
     show (ix.set b.toNat ((dD+1+1:Nat):Int)).getD z 0≠0
     rw[mj];split
     ·omega
     ·exact hM z hz
   ·have c1:¬(ix.getD b.toNat 0=0):=c1
    have lM:=hF.vm b dG.1 dG.2
    refine aa 1 ?_
    refine ag.mk ⟨rfl,by omega,by omega⟩ ?_
    refine fu.kv 4 _ _ rfl (sQ rfl dG.1 (by rw[hF.kx];omega)) (fun c2=>?_) (fun c2=>?_)
    ·rw[lM]at c2
     have hO:=FI.HD (w:=[]) hF ab hb (fm c2)
     refine .sched [] (upto [] 28 0) (by kernel_rfl) ?_
     refine aa 1 ?_
     refine aa 0 ?_
     refine aa 1 ?_
     refine aa 0 ?_
     refine ag.mk ⟨rfl,by omega,by omega⟩ ?_
     refine aT 3 rfl (eT rfl ha.1 (by rw[hF.ll];omega)) ?_
     refine aa 1 ?_
     refine ag.mk ⟨rfl,by omega,by omega⟩ ?_
     refine aT 2 rfl (eT rfl dG.1 (by rw[hF.li];omega)) ?_
     refine ag.mk ⟨rfl,by omega,by omega⟩ ?_
     refine cX 3 rfl (mV rfl _ ha.1 (by rw[hF.ll];omega)) ?_
     have jk:(if ix.getD b.toNat 0<lo.getD a.toNat 0 then ix.getD b.toNat 0 else lo.getD a.toNat 0)=min (lo.getD a.toNat 0) (ix.getD b.toNat 0):=by split <;> omega
     have hE:(w,dc (bS n l) bi bl bo n (.ae bs 0 [a].length 1) (dD+1) fP)::(bi,ao ix)::(bl,ao (lo.set a.toNat (if ix.getD b.toNat 0<lo.getD a.toNat 0 then ix.getD b.toNat 0 else lo.getD a.toNat 0)))::(bo,bK on)::(bs,ao [a]++Js)::(bw,bF [(a,1)]++[])::(im++σ)=(w,dc (bS n l) bi bl bo n (.ae bs 0 [a].length 1) (dD+1) fP)::(bi,ao ix)::(bl,ao (lo.set a.toNat (min (lo.getD a.toNat 0) (ix.getD b.toNat 0))))::(bo,bK on)::(bs,ao [a]++Js)::(bw,bF [(a,1)]++[])::(im++σ):=by rw[jk]
     exact vY hr ((ix,lo.set a.toNat (min (lo.getD a.toNat 0) (ix.getD b.toNat 0)),on,[a],dD+1,P0),(bs,Js,fP,im),([],a,1),(bw,[])) ⟨rfl,⟨⟨hO,hp⟩,hA,hM⟩,⟨rfl,rfl,trivial⟩,.pull [5,5,5,5,5] (aJ hE)⟩
    ·rw[lM]at c2
     have hO:=FI.off (w:=[]) hF ab hb dG.1 c1 (pH c2)
     exact vY hr ((ix,lo,on,[a],dD+1,P0),(bs,Js,fP,im),([],a,1),(bw,[])) ⟨rfl,⟨⟨hO,hp⟩,hA,hM⟩,⟨rfl,rfl,trivial⟩,.pull [5,5,5,5,5] (aJ rfl)⟩
  ·have ar:(au n l a).length=0:=by omega
   refine aa 0 ?_
   intro aD
   refine ak 0 ?_
   refine aa 0 ?_
   have hT:=FI.tell (w:=[]) (A:=[]) (B:=[]) (part:=fv [a]) hF (by omega) rfl heq (fun x y hy=>(lU.1 hy).1) (Bx [a]) (E5 (by simp))
   have Ep:=Fg hF.tj.prt
   have My:((w,dc (bS n l) bi bl bo n (.ae bs 0 [a].length 1) (dD+1) fP)::(bi,ao ix)::(bl,ao lo)::(bo,bK on)::(bs,ao [a]++Js)::(im++((aD,[AV.int .i64 a,.int .i64 0])::(bw,[AV.int .i64 a,.int .i64 0])::σ))).Perm ((aD,[AV.int .i64 a,.int .i64 0])::(bw,[AV.int .i64 a,.int .i64 0])::(w,dc (bS n l) bi bl bo n (.ae bs 0 [a].length 1) (dD+1) fP)::(bi,ao ix)::(bl,ao lo)::(bo,bK on)::(bs,ao [a]++Js)::(im++σ)):=by
    have h1:=vV [(w,dc (bS n l) bi bl bo n (.ae bs 0 [a].length 1) (dD+1) fP),(bi,ao ix),(bl,ao lo),(bo,bK on),(bs,ao [a]++Js)] im σ (aD,[AV.int .i64 a,.int .i64 0]) (bw,[AV.int .i64 a,.int .i64 0])
    exact h1.trans (List.Perm.cons _ (nF (l₁:=[(w,dc (bS n l) bi bl bo n (.ae bs 0 [a].length 1) (dD+1) fP),(bi,ao ix),(bl,ao lo),(bo,bK on),(bs,ao [a]++Js)])))
   refine .perm _ My (P9 w bi bl bo n (bS n l) ix lo [] [] on P0 (dD+1) _ fP _ im a _ ha.1 ha.2 hF.li hF.ll hF.kx heq (by simp) (fun x hx=>by rw[List.mem_singleton.1 hx];exact ha) (by show 1≤10000;decide) (by omega) (.ae bs 1 (ao [a]) Js rfl) hp) ?_
   rintro _ _ ⟨rfl,ep,iP,gr,gm,dE,nw,rfl⟩
   have fY:((aD,[AV.int .i64 a,.int .i64 0])::(w,dc (bS n l) bi bl bo n ep (dD+1) gr)::(bi,ao ix)::(bl,ao lo)::(bo,bK (eL [a] on))::(bw,[AV.int .i64 a,.int .i64 0])::(iP++(gm++σ))).Perm ((w,dc (bS n l) bi bl bo n ep (dD+1) gr)::(bi,ao ix)::(bl,ao lo)::(bo,bK (eL [a] on))::(iP++(gm++((aD,[AV.int .i64 a,.int .i64 0])::(bw,[AV.int .i64 a,.int .i64 0])::σ)))):=by
    have h1:=(vV [(w,dc (bS n l) bi bl bo n ep (dD+1) gr),(bi,ao ix),(bl,ao lo),(bo,bK (eL [a] on))] (iP++gm) σ (aD,[AV.int .i64 a,.int .i64 0]) (bw,[AV.int .i64 a,.int .i64 0])).symm
    rw[dM,dM]at h1
    exact h1
   refine⟨_,fY,?_⟩
   refine ag.mk (by decide) ?_
   exact .drop 0 1 (.drop 4 1 (.done ⟨rfl,ix,lo,eL [a] on,dD+1,P0++[fv [a]],ep,iP,gr,gm,hT,dE,nw,hA,hM,rfl⟩))
end Go.Proofs.YtnikdflhefijbaaGreat
