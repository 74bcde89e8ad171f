import Derived.Test.YtnikdflhefijbaaGreatBn12
import Derived.Test.YtnikdflhefijbaaGreatBn30
import Derived.Test.YtnikdflhefijbaaGreatBn26
import Derived.Test.YtnikdflhefijbaaGreatBn25
import Derived.Test.YtnikdflhefijbaaGreatBn11
namespace Go.Proofs.YtnikdflhefijbaaGreat
open Go.RowKit
set_option maxRecDepth 100000
set_option maxHeartbeats 4000000
theorem adv{l:Lay}{base:Int}{y ws:List Int}(h:y.length<cw l.words){x:Int}(hx:dx ws (wr (base+(y.length:Nat)))=x):mm bB l base y ws=(y++[x],ws,decide (y.length+1=cw l.words)):=by
 subst hx
 exact ai h
theorem aaS{s:Sy}{l:Lay}{x:WS}{y:List Int}(h:pr s x.node y=0):eg s l x (.read y)=⟨wr (x.ev+1),x.jo,x.en,uz s x.node,.none,x.node,x.has,au s.n s.bf x.node,iD s y x.node.toNat⟩:=by
 show (⟨wr (x.ev+1),x.jo,x.en,uz s x.node,.none,x.node,x.has,au s.n s.bf x.node,sh (pr s x.node y) (iD s y x.node.toNat)⟩:WS)=_
 rw[h];rfl
set_option maxHeartbeats 4000000
theorem ZG{s:Sy}{l:Lay}{who:Int}{x:WS}{d:Int}{ws:List Int}(he:x.en=false):(dw bB s l who x d ws).2.2=(dw bB s l who x d ws).1.en:=by
 unfold dw
 rw[ah (by rw[he];decide)]
 split
 ·rfl
 ·exact he.symm
theorem Kv{s:Sy}{k:Int}(h:ck s k=0):eK s=0∧1≤k∧k≤64:=by
 unfold ck at h
 split at h
 ·split at h
  ·exact⟨by assumption,by assumption⟩
  ·cases h
 ·exact absurd h (by assumption)
theorem Aj{s:Sy}{k:Int}(hf:Fit s)(h:ck s k=0):LS s (gk s k)∧(gk s k).k=k:=by
 obtain⟨h1,h2⟩:=Kv h
 have e:∀z,qm (ck s k) z=z:=fun z=>ai h
 exact⟨⟨hf,Le h1,e _,e _,e _,by rw[show (gk s k).k=k from e _];exact h2.1,by rw[show (gk s k).k=k from e _];exact h2.2⟩,e _⟩
def np(l:Lay):Nat:=(gh l l.k).toNat
section
variable {s:Sy} {l:Lay} (hs:LS s l)
include hs
theorem LS.kk:∃k:Nat,l.k=k∧1≤k∧k≤64:=⟨l.k.toNat,by have:=hs.k1;have:=hs.k2;omega⟩
theorem LS.size:gh l l.k=(np l:Int)∧np l≤1000000∧re (gh l l.k)=np l:=by
 obtain⟨k,hk,l8,dF⟩:=hs.kk
 have hd:=hs.wT dF
 have h1:=hs.nn
 have h2:=hs.ww
 have h3:=rV h1.2.2 h2.2
 have h4:k*(nN s+3)≤64*259:=tP dF (by omega)
 unfold np re
 rw[hk,hd]
 omega
theorem LS.low:nN s*nW l+nN s<np l:=by
 obtain⟨m,hm,Ns,rr⟩:=hs.kk
 have mI:=hs.wT rr
 unfold np
 rw[hm,mI]
 omega
end
theorem MV.ado{s:Sy}{l:Lay}{ws:List Int}(h:MV s l ws){a:Nat}{x:Int}(ha:nN s*nW l≤a)(hx:bD x):MV s l (ws.set a x):=by
 rw[← lh]
 exact h.zL (by omega) hx
theorem MV.Z0{s:Sy}{l:Lay}{ws:List Int}(h:MV s l ws){u j:Nat}{x:Int}(hj:j<nW l)(hx:fG s.what s.w j x):MV s l (ws.set (u*nW l+j) x):=by
 rw[← lh]
 exact h.Py hj hx
theorem ach(s:Sy)(l:Lay)(n:Nat):MV s l (List.replicate n 0):=⟨fun z hz=>by rw[Bt hz];exact zJ,fun v i _ _=>by
 have:(List.replicate n (0:Int)).getD (v*nW l+i) 0=0:=by
  rw[aW,vN];split <;> rfl
 rw[this];exact Xj _ _ _⟩
def pz(s:Sy)(l:Lay)(ws:List Int):Prop:=ws.length=np l∧MV s l ws
theorem pz.hi{s:Sy}{l:Lay}{ws:List Int}(h:pz s l ws){a:Nat}{x:Int}(ha:nN s*nW l≤a)(hx:bD x):pz s l (ws.set a x):=⟨by rw[cM];exact h.1,h.2.ado ha hx⟩
theorem Kn:∀{l m:List Int},l.Nodup→(∀x∈l,x∈m)→l.length≤m.length
 | [],_,_,_=>bA _
 |a::l,m,hd,h=>by
  have hd:=mc.1 hd
  have ha:=h a (cm ..)
  have h1:=Kn (l:=l) (m:=m.erase a) hd.2 fun x hx=>(Og (fun e:x=a=>hd.1 (by rw[← e];exact hx))).2 (h x (cY _ hx))
  rw[List.length_erase_of_mem ha]at h1
  have:=EN ha
  rw[ie];omega
inductive Rx(nx:Int→List Int):Int→Int→Prop where
 |refl (a:Int):Rx nx a a
 |step {a b c:Int} (h:Rx nx a b) (hc:c∈nx b):Rx nx a c
theorem Rx.trans{nx:Int→List Int}{a b c:Int}(h1:Rx nx a b)(h2:Rx nx b c):Rx nx a c:=by
 induction h2 with
 |refl=>exact h1
 |step _ hc ih=>exact .step ih hc
theorem Rx.one{nx:Int→List Int}{a b:Int}(h:b∈nx a):Rx nx a b:=.step (.refl a) h
def pj(f:Int→Int)(a v:Int):Int→Int:=fun y=>if y=a then v else f y
theorem pM{f:Int→Int}{a v y:Int}(h:y≠a):pj f a v y=f y:=ah h
theorem pN{f:Int→Int}{a v:Int}:pj f a v a=v:=ai rfl
structure qG(n:Nat)(nx:Int→List Int)(P:List (List Int)):Prop where
 ne:∀p∈P,p≠[]
 node:∀p∈P,∀x∈p,0≤x∧x<(n:Int)
 nd:P.flatten.Nodup
 AO:∀p∈P,p.Pairwise (· < ·)
 Oz:∀p∈P,∀x∈p,∀y∈p,Rx nx x y
 Jm:∀(i:Nat) (p:List Int),P[i]?=some p→∀x∈p,∀y∈nx x,∃(j:Nat) (q:List Int),j≤i∧P[j]?=some q∧y∈q
theorem qG.nil(n:Nat)(nx:Int→List Int):qG n nx []:=⟨fun _ h=>(by cases h),fun _ h=>(by cases h),List.nodup_nil,fun _ h=>(by cases h),fun _ h=>(by cases h),fun i p h=>by simp at h⟩
theorem qG.reach{n:Nat}{nx:Int→List Int}{P:List (List Int)}(h:qG n nx P){x y:Int}(hr:Rx nx x y)(hx:∃p∈P,x∈p):∃p∈P,y∈p:=by
 induction hr with
 |refl=>exact hx
 |step _ hc ih=>
  obtain⟨p,hp,hb⟩:=ih
  obtain⟨i,hi⟩:=EH hp
  obtain⟨j,q,_,hq,hy⟩:=h.Jm i p hi _ hb _ hc
  exact⟨q,cq hq,hy⟩
structure TJ(n:Nat)(nx:Int→List Int)(f L:Int→Int)(st:List Int)(aG:Nat)(P:List (List Int))(W:List Int):Prop where
 node:∀x∈st,0≤x∧x<(n:Int)
 inc:st.Pairwise fun x y=>f x<f y
 sd:∀x∈st,1≤f x∧f x≤aG
 xd:∀x:Int,0≤x→x<n→(f x≠0↔x∈st∨∃p∈P,x∈p)
 zn:∀p∈P,∀x∈p,x ∉ st
 len:aG=st.length+P.flatten.length
 sub:W.Sublist st
 top:∀x∈st,∃v∈W,f v≤f x
 yZ:∀v∈W,∀x∈st,f v≤f x→Rx nx v x
 fin:∀x∈st,x ∉ W→(∀y∈nx x,f y≠0)∧∃y∈st,f y<f x∧Rx nx x y
 low:∀v∈W,L v≤f v∧∃y∈st,f y=L v∧Rx nx v y
 AQ:∀v∈W,∀x∈st,x ∉ W→f v<f x→(∀u∈W,f u≤f x→f u≤f v)→∀y∈nx x,y∈st→L v≤f y
 prt:qG n nx P
def Prc(nx:Int→List Int)(f L:Int→Int)(st:List Int)(gN:List (Int×Nat)):Prop:=∀t∈gN,∀y∈(nx t.1).take t.2,f y≠0∧(y∈st→L t.1≤f y)
theorem JL{f:Int→Int}:∀{st:List Int},st.Pairwise (fun x y=>f x<f y)→∀{x y:Int},x∈st→y∈st→f x=f y→x=y
 | [],_,_,_,hx,_,_=>by cases hx
 |a::st,h,x,y,hx,hy,e=>by
  obtain⟨h1,h2⟩:=Bk.1 h
  rcases eG.1 hx with e1 | rn
  ·rcases eG.1 hy with e2 | tE
   ·rw[e1,e2]
   ·have:=h1 y tE;rw[e1]at e;omega
  ·rcases eG.1 hy with e2 | tE
   ·have:=h1 x rn;rw[e2]at e;omega
   ·exact JL h2 rn tE e
theorem ub{f:Int→Int}{st:List Int}(h:st.Pairwise (fun x y=>f x<f y)):st.Nodup:=h.imp fun aN e=>by subst e;omega
theorem B7{f:Int→Int}{st w:List Int}{v:Int}(h:st.Pairwise (fun x y=>f x<f y))(hs:(w++[v]).Sublist st):∀u∈w,f u<f v:=by
 have:=h.sublist hs
 intro u hu
 exact (Ja.1 this).2.2 u hu v (bh.2 rfl)
variable {n:Nat} {nx:Int→List Int} {f L:Int→Int} {st:List Int} {aG:Nat} {P:List (List Int)}
theorem TJ.start(h:∀x,f x=0):TJ n nx f L [] 0 [] []:=
 ⟨fun _ h=>(by cases h),.nil,fun _ h=>(by cases h),fun x _ _=>by simp[h],fun _ h=>(by cases h),rfl,.slnil,fun _ h=>(by cases h),fun _ h=>(by cases h),fun _ h=>(by cases h),fun _ h=>(by cases h),fun _ h=>(by cases h),.nil n nx⟩
theorem TJ.enter{W:List Int}{b:Int}(h:TJ n nx f L st aG P W)(hb:0≤b∧b<n)(hf:f b=0)(hW:∀v∈W,Rx nx v b):TJ n nx (pj f b (aG+1)) (pj L b (aG+1)) (st++[b]) (aG+1) P (W++[b]):=by
 have er:b ∉ st:=fun hm=>by have:=h.sd b hm;omega
 have hbW:b ∉ W:=fun hm=>er (h.sub.subset hm)
 have iH:∀x∈st,pj f b (aG+1) x=f x:=fun x hx=>pM fun e=>er (e▸hx)
 have hL1:∀x∈W,pj L b (aG+1) x=L x:=fun x hx=>pM fun e=>hbW (e▸hx)
 have A4:pj f b (aG+1) b=(aG+1:Nat):=by rw[pN];rfl
 have A7:=h.sub.subset
 refine⟨fun x hx=>?_,?_,fun x hx=>?_,fun x h0 h1=>?_,fun p hp x hx=>?_,by have:=h.len;rw[bQ,sF];omega,h.sub.append (.refl _),fun x hx=>?_,fun v hv x hx hle=>?_,fun x hx lJ=>?_,fun v hv=>?_,fun v hv x hx lJ ab jq y hy ky=>?_,h.prt⟩
 ·rcases bO.1 hx with hx | hx
  ·exact h.node x hx
  ·rw[bh.1 hx];exact hb
 ·refine Ja.2 ⟨h.inc.imp_of_mem fun {x y} hx hy aN=>?_,List.pairwise_singleton ..,fun x hx y hy=>?_⟩
  ·rw[iH x hx,iH y hy];exact aN
  ·rw[bh.1 hy,iH x hx,A4]
   have:=(h.sd x hx).2;omega
 ·rcases bO.1 hx with hx | hx
  ·rw[iH x hx];have:=h.sd x hx;omega
  ·rw[bh.1 hx,A4];omega
 ·by_cases e:x=b
  ·subst e
   exact⟨fun _=>.inl (jv _ (bh.2 rfl)),fun _=>by rw[A4];omega⟩
  ·rw[pM e,h.xd x h0 h1,bO,bh]
   exact or_congr_left ⟨.inl,fun h=>h.resolve_right e⟩
 ·rw[bO,bh]
  rintro (hm | rfl)
  ·exact h.zn p hp x hx hm
  ·exact ((h.xd x hb.1 hb.2).2 (.inr ⟨p,hp,hx⟩)) hf
 ·rcases bO.1 hx with hx | hx
  ·obtain⟨v,hv,hle⟩:=h.top x hx
   exact⟨v,gD _ hv,by rw[iH v (A7 hv),iH x hx];exact hle⟩
  ·rw[bh.1 hx]
   exact⟨b,jv _ (bh.2 rfl),ke _⟩
 ·rcases bO.1 hv with hv | hv
  ·rcases bO.1 hx with hx | hx
   ·rw[iH v (A7 hv),iH x hx]at hle
    exact h.yZ v hv x hx hle
   ·rw[bh.1 hx];exact hW v hv
  ·rw[bh.1 hv]at hle ⊢
   rcases bO.1 hx with hx | hx
   ·rw[A4,iH x hx]at hle
    have:=(h.sd x hx).2;omega
   ·rw[bh.1 hx];exact .refl _
 ·rw[bO,bh]at lJ
  have hx:x∈st:=by
   rcases bO.1 hx with hx | hx
   ·exact hx
   ·exact absurd (.inr (bh.1 hx)) lJ
  obtain⟨h1,y,hy,h2,h3⟩:=h.fin x hx fun hm=>lJ (.inl hm)
  refine⟨fun y hy=>?_,y,gD _ hy,by rw[iH y hy,iH x hx];exact h2,h3⟩
  by_cases e:y=b
  ·subst e;rw[A4];omega
  ·rw[pM e];exact h1 y hy
 ·rcases bO.1 hv with hv | hv
  ·obtain⟨h1,y,hy,h2,h3⟩:=h.low v hv
   rw[hL1 v hv,iH v (A7 hv)]
   exact⟨h1,y,gD _ hy,by rw[iH y hy];exact h2,h3⟩
  ·rw[bh.1 hv,pN,pN]
   exact⟨ke _,b,jv _ (bh.2 rfl),pN,.refl _⟩
 ·rw[bO,bh]at lJ
  have hx:x∈st:=by
   rcases bO.1 hx with hx | hx
   ·exact hx
   ·exact absurd (.inr (bh.1 hx)) lJ
  rcases bO.1 hv with hv | hv
  ·rw[hL1 v hv]
   rw[iH v (A7 hv),iH x hx]at ab
   have hyb:y≠b:=fun e=>(h.fin x hx fun hm=>lJ (.inl hm)).1 y hy (e▸hf)
   have ky:y∈st:=by
    rcases bO.1 ky with ky | ky
    ·exact ky
    ·exact absurd (bh.1 ky) hyb
   rw[iH y ky]
   refine h.AQ v hv x hx (fun hm=>lJ (.inl hm)) ab (fun u hu hle=>?_) y hy ky
   have:=jq u (gD _ hu)
   rw[iH u (A7 hu),iH x hx,iH v (A7 hv)]at this
   exact this hle
  ·rw[bh.1 hv,A4,iH x hx]at ab
   have:=(h.sd x hx).2;omega
theorem TJ.lower{w:List Int}{v z:Int}(h:TJ n nx f L st aG P (w++[v]))(hz:z∈st)(hr:Rx nx v z):TJ n nx f (pj L v (min (L v) (f z))) st aG P (w++[v]):=by
 have hd:(w++[v]).Nodup:=(ub h.inc).sublist h.sub
 have hvw:v ∉ w:=fun hm=>(oP.1 hd).2.2 v hm v (bh.2 rfl) rfl
 refine⟨h.node,h.inc,h.sd,h.xd,h.zn,h.len,h.sub,h.top,h.yZ,h.fin,fun u hu=>?_,fun u hu x hx lJ ab jq y hy ky=>?_,h.prt⟩
 ·by_cases e:u=v
  ·subst e
   rw[pN]
   obtain⟨h1,y,hy,h2,h3⟩:=h.low u hu
   refine⟨by omega,?_⟩
   by_cases c:L u≤f z
   ·exact⟨y,hy,by rw[h2];omega,h3⟩
   ·exact⟨z,hz,by omega,hr⟩
  ·rw[pM e];exact h.low u hu
 ·have:=h.AQ u hu x hx lJ ab jq y hy ky
  by_cases e:u=v
  ·subst e;rw[pN];omega
  ·rw[pM e];exact this
theorem TJ.up{w:List Int}{u v:Int}(h:TJ n nx f L st aG P (w++[u]++[v]))(ab:L v<f v)(cg:∀y∈nx v,f y≠0∧(y∈st→L v≤f y)):TJ n nx f (pj L u (min (L u) (L v))) st aG P (w++[u]):=by
 have hd:(w++[u]++[v]).Nodup:=(ub h.inc).sublist h.sub
 have hvw:v ∉ w++[u]:=fun hm=>(oP.1 hd).2.2 v hm v (bh.2 rfl) rfl
 have e8:u ∉ w:=fun hm=>(oP.1 (oP.1 hd).1).2.2 u hm u (bh.2 rfl) rfl
 have huv:u≠v:=fun e=>hvw (e▸jv _ (bh.2 rfl))
 have lE:=B7 h.inc h.sub
 have aeT:=B7 h.inc ((List.sublist_append_left _ _).trans h.sub)
 have Ir:u∈w++[u]:=jv _ (bh.2 rfl)
 have AX:v∈w++[u]++[v]:=jv _ (bh.2 rfl)
 have bU:v∈st:=h.sub.subset AX
 have hfuv:f u<f v:=lE u Ir
 obtain⟨xm,z,hz,ov,hzr⟩:=h.low v AX
 refine⟨h.node,h.inc,h.sd,h.xd,h.zn,h.len,(List.sublist_append_left _ _).trans h.sub,fun x hx=>?_,fun a ha=>h.yZ a (gD _ ha),fun x hx lJ=>?_,fun a ha=>?_,fun a ha x hx lJ dN jq y hy ky=>?_,h.prt⟩
 ·obtain⟨a,ha,hle⟩:=h.top x hx
  rcases bO.1 ha with ha | ha
  ·exact⟨a,ha,hle⟩
  ·rw[bh.1 ha]at hle
   exact⟨u,Ir,by omega⟩
 ·by_cases e:x=v
  ·subst e
   exact⟨fun y hy=>(cg y hy).1,z,hz,by omega,hzr⟩
  ·exact h.fin x hx fun hm=>by
    rcases bO.1 hm with hm | hm
    ·exact lJ hm
    ·exact e (bh.1 hm)
 ·obtain⟨h1,y,hy,h2,h3⟩:=h.low a (gD _ ha)
  by_cases e:a=u
  ·subst e
   rw[pN]
   refine⟨by omega,?_⟩
   by_cases c:L a≤L v
   ·exact⟨y,hy,by omega,h3⟩
   ·exact⟨z,hz,by omega,(h.yZ a (gD _ Ir) v bU (by omega)).trans hzr⟩
  ·rw[pM e];exact⟨h1,y,hy,h2,h3⟩
 ·have Ni:∀c,f a≤c→f u≤f a→pj L u (min (L u) (L v)) a≤L a:=fun c _ _=>by
   by_cases e:a=u
   ·subst e;rw[pN];omega
   ·rw[pM e];exact ke _
  have hle:pj L u (min (L u) (L v)) a≤L a:=by
   by_cases e:a=u
   ·subst e;rw[pN];omega
   ·rw[pM e];exact ke _
  by_cases AU:f v≤f x
  ·have hau:a=u:=by
    have h1:=jq u Ir (by omega)
    by_cases e:a=u
    ·exact e
    ·have:a∈w:=by
      rcases bO.1 ha with ha | ha
      ·exact ha
      ·exact absurd (bh.1 ha) e
     have:=aeT a this
     omega
   subst hau
   rw[pN]
   by_cases e:x=v
   ·subst e
    have:=(cg y hy).2 ky
    omega
   ·have aP:f v≠f x:=fun e2=>e (JL h.inc hx bU e2.symm)
    have:=h.AQ v AX x hx (fun hm=>by
     rcases bO.1 hm with hm | hm
     ·exact lJ hm
     ·exact e (bh.1 hm)) (by omega) (fun c hc _=>by
      rcases bO.1 hc with hc | hc
      ·have:=lE c hc;omega
      ·rw[bh.1 hc];exact ke _) y hy ky
    omega
  ·have afy:x≠v:=fun e=>by subst e;omega
   have:=h.AQ a (gD _ ha) x hx (fun hm=>by
    rcases bO.1 hm with hm | hm
    ·exact lJ hm
    ·exact afy (bh.1 hm)) dN (fun c hc ry=>by
     rcases bO.1 hc with hc | hc
     ·exact jq c hc ry
     ·rw[bh.1 hc]at ry;omega) y hy ky
   omega
theorem QM{v:Int}:∀{st:List Int},st.Pairwise (fun x y=>f x<f y)→v∈st→∃A B,st=A++v::B∧(∀x∈A,f x<f v)∧∀x∈B,f v<f x:=by
 intro st h hv
 obtain⟨A,B,rfl⟩:=List.append_of_mem hv
 obtain⟨h1,h2,h3⟩:=Ja.1 h
 exact⟨A,B,rfl,fun x hx=>h3 x hx v (cm ..),fun x hx=>(Bk.1 h2).1 x hx⟩
theorem TJ.tell{w A B part:List Int}{v:Int}(h:TJ n nx f L st aG P (w++[v]))(aq:st=A++v::B)(heq:L v=f v)(cg:∀y∈nx v,f y≠0∧(y∈st→L v≤f y))(cU:∀x y,y∈nx x→0≤y∧y<n)(hp:part.Perm (v::B))(hs:part.Pairwise (· < ·)):TJ n nx f L A aG (P++[part]) w:=by
 have bZ:=ub h.inc
 have lE:=B7 h.inc h.sub
 have AX:v∈w++[v]:=jv _ (bh.2 rfl)
 have l0:=h.inc
 rw[aq]at l0
 obtain⟨i1,i2,i3⟩:=Ja.1 l0
 have w6:∀x∈A,f x<f v:=fun x hx=>i3 x hx v (cm ..)
 have HM:∀x∈B,f v<f x:=(Bk.1 i2).1
 have tM:∀x∈A,x∈st:=fun x hx=>by rw[aq];exact gD _ hx
 have xr:∀x∈v::B,x∈st:=fun x hx=>by rw[aq];exact jv _ hx
 have AH:∀x∈v::B,f v≤f x:=fun x hx=>by
  rcases eG.1 hx with rfl | hx
  ·exact ke _
  ·have:=HM x hx;omega
 have ar:∀x∈st,f v≤f x→x∈v::B:=fun x hx hle=>by
  rw[aq]at hx
  rcases bO.1 hx with hx | hx
  ·have:=w6 x hx;omega
  ·exact hx
 have L8:∀x∈B,x ∉ w++[v]:=fun x hx hm=>by
  have:=HM x hx
  rcases bO.1 hm with hm | hm
  ·have:=lE x hm;omega
  ·rw[bh.1 hm]at this;omega
 have HI:∀x∈v::B,∀y∈nx x,y∈v::B∨∃p∈P,y∈p:=fun x hx y hy=>by
  have hv2:f y≠0∧(y∈st→f v≤f y):=by
   rcases eG.1 hx with rfl | AW
   ·rw[← heq];exact cg y hy
   ·refine⟨(h.fin x (xr x hx) (L8 x AW)).1 y hy,fun ky=>?_⟩
    rw[← heq]
    refine h.AQ v AX x (xr x hx) (L8 x AW) (HM x AW) (fun u hu _=>?_) y hy ky
    rcases bO.1 hu with hu | hu
    ·have:=lE u hu;omega
    ·rw[bh.1 hu];exact ke _
  obtain⟨q1,q2⟩:=cU x y hy
  rcases (h.xd y q1 q2).1 hv2.1 with ky | hyp
  ·exact .inl (ar y ky (hv2.2 ky))
  ·exact .inr hyp
 have adQ:∀{x y:Int},Rx nx x y→x∈v::B→y∈v::B∨∃p∈P,y∈p:=by
  intro x y hr hx
  induction hr with
  |refl=>exact .inl hx
  |step _ hc ih=>
   rcases ih with ih | ih
   ·exact HI _ ih _ hc
   ·exact .inr (h.prt.reach (.one hc) ih)
 have C5:∀(k:Nat) (x:Int),x∈v::B→(f x-f v).toNat≤k→Rx nx x v:=by
  intro k
  induction k with
  |zero=>
   intro x hx hk
   have:=AH x hx
   rw[JL h.inc (xr x hx) (xr v (cm ..)) (by omega)]
   exact .refl _
  |succ k ih=>
   intro x hx hk
   rcases eG.1 hx with rfl | AW
   ·exact .refl _
   ·obtain⟨_,y,hy,ab,hr⟩:=h.fin x (xr x hx) (L8 x AW)
    rcases adQ hr hx with Nb | ⟨p,hp,hyp⟩
    ·have:=HM x AW
     exact hr.trans (ih y Nb (by omega))
    ·exact absurd hy (h.zn p hp y hyp)
 have afZ:∀x∈v::B,∀y∈v::B,Rx nx x y:=fun x hx y hy=>(C5 _ x hx (aU _)).trans (h.yZ v AX y (xr y hy) (AH y hy))
 have fY:∀x,x∈part↔x∈v::B:=fun x=>hp.mem_iff
 have hwA:w.Sublist A:=by
  have h1:(w++[v]).Sublist (A++v::B):=aq▸h.sub
  have h2:=h1.filter (fun x=>decide (f x<f v))
  have e1:(w++[v]).filter (fun x=>decide (f x<f v))=w:=by
   rw[List.filter_append,List.filter_eq_self.2 fun x hx=>decide_eq_true (lE x hx),List.filter_cons_of_neg (by simp)]
   simp
  have e2:(A++v::B).filter (fun x=>decide (f x<f v))=A:=by
   rw[Bo,gu7.2 fun x hx=>aV (w6 x hx),List.filter_eq_nil_iff.2 fun x hx=>by
    have:=AH x hx
    rw[decide_eq_true_eq];omega]
   simp
  rw[e1,e2]at h2
  exact h2
 have US:(P++[part]).flatten=P.flatten++part:=by rw[List.flatten_append];simp
 refine⟨fun x hx=>h.node x (tM x hx),i1,fun x hx=>h.sd x (tM x hx),fun x h0 h1=>?_,fun p df x hx hxA=>?_,?_,hwA,fun x hx=>?_,fun a ha x hx=>h.yZ a (gD _ ha) x (tM x hx),fun x hx lJ=>?_,fun a ha=>?_,fun a ha x hx lJ ab jq y hy ky=>?_,⟨fun p df=>?_,fun p df x hx=>?_,?_,fun p df=>?_,fun p df x hx y hy=>?_,fun i p hi x hx y hy=>?_⟩⟩
 ·rw[h.xd x h0 h1,aq,bO]
  constructor
  ·rintro ((hx | hx) | ⟨p,df,hx⟩)
   ·exact .inl hx
   ·exact .inr ⟨part,jv _ (bh.2 rfl),(fY x).2 hx⟩
   ·exact .inr ⟨p,gD _ df,hx⟩
  ·rintro (hx | ⟨p,df,hx⟩)
   ·exact .inl (.inl hx)
   ·rcases bO.1 df with df | df
    ·exact .inr ⟨p,df,hx⟩
    ·rw[bh.1 df]at hx
     exact .inl (.inr ((fY x).1 hx))
 ·rcases bO.1 df with df | df
  ·exact h.zn p df x hx (tM x hxA)
  ·rw[bh.1 df]at hx
   have:=AH x ((fY x).1 hx)
   have:=w6 x hxA
   omega
 ·have h1:=h.len
  have h2:=hp.length_eq
  have h3:=congrArg List.length aq
  rw[bQ]at h3
  rw[US,bQ];omega
 ·obtain⟨a,ha,hle⟩:=h.top x (tM x hx)
  rcases bO.1 ha with ha | ha
  ·exact⟨a,ha,hle⟩
  ·rw[bh.1 ha]at hle
   have:=w6 x hx;omega
 ·have AU:x ∉ w++[v]:=fun hm=>by
   rcases bO.1 hm with hm | hm
   ·exact lJ hm
   ·have:=w6 x hx
    rw[bh.1 hm]at this;omega
  obtain⟨h1,y,hy,h2,h3⟩:=h.fin x (tM x hx) AU
  refine⟨h1,y,?_,h2,h3⟩
  have:=w6 x hx
  rw[aq]at hy
  rcases bO.1 hy with hy | hy
  ·exact hy
  ·have:=AH y hy;omega
 ·obtain⟨h1,y,hy,h2,h3⟩:=h.low a (gD _ ha)
  refine⟨h1,y,?_,h2,h3⟩
  have:=lE a ha
  rw[aq]at hy
  rcases bO.1 hy with hy | hy
  ·exact hy
  ·have:=AH y hy;omega
 ·have AU:x ∉ w++[v]:=fun hm=>by
   rcases bO.1 hm with hm | hm
   ·exact lJ hm
   ·have:=w6 x hx
    rw[bh.1 hm]at this;omega
  refine h.AQ a (gD _ ha) x (tM x hx) AU ab (fun u hu hle=>?_) y hy (tM y ky)
  rcases bO.1 hu with hu | hu
  ·exact jq u hu hle
  ·rw[bh.1 hu]at hle
   have:=w6 x hx;omega
 ·rcases bO.1 df with df | df
  ·exact h.prt.ne p df
  ·rw[bh.1 df]
   exact List.ne_nil_of_mem ((fY v).2 (cm ..))
 ·rcases bO.1 df with df | df
  ·exact h.prt.node p df x hx
  ·rw[bh.1 df]at hx
   exact h.node x (xr x ((fY x).1 hx))
 ·rw[US]
  refine oP.2 ⟨h.prt.nd,hs.imp fun h=>by omega,fun x hx y hy e=>?_⟩
  subst e
  obtain⟨p,df,rj⟩:=oN.1 hx
  exact h.zn p df x rj (xr x ((fY x).1 hy))
 ·rcases bO.1 df with df | df
  ·exact h.prt.AO p df
  ·rw[bh.1 df];exact hs
 ·rcases bO.1 df with df | df
  ·exact h.prt.Oz p df x hx y hy
  ·rw[bh.1 df]at hx hy
   exact afZ x ((fY x).1 hx) y ((fY y).1 hy)
 ·by_cases ab:i<P.length
  ·rw[kf ab]at hi
   obtain⟨j,q,h1,h2,h3⟩:=h.prt.Jm i p hi x hx y hy
   exact⟨j,q,h1,by rw[kf (by omega)];exact h2,h3⟩
  ·have hip:i=P.length∧p=part:=by
    rw[iJ (by omega)]at hi
    by_cases e:i-P.length=0
    ·rw[e]at hi
     exact⟨by omega,(Option.some.inj hi).symm⟩
    ·rw[tY (by rw[sF];omega)]at hi;cases hi
   obtain⟨rfl,rfl⟩:=hip
   rcases HI x ((fY x).1 hx) y hy with Nb | ⟨q,hq,hyq⟩
   ·exact⟨P.length,p,aU _,by rw[iJ (aU _),pG];rfl,(fY y).2 Nb⟩
   ·obtain⟨j,hj⟩:=EH hq
    have ic:j<P.length:=(cf.1 hj).1
    exact⟨j,q,by omega,by rw[kf ic];exact hj,hyq⟩
theorem TJ.empty(h:TJ n nx f L st aG P []):st=[]:=by
 cases st with
 |nil=>rfl
 |cons x st=>
  obtain⟨v,hv,_⟩:=h.top x (cm ..)
  cases hv
theorem TJ.first{v:Int}(h:TJ n nx f L st aG P [v]):L v=f v:=by
 obtain⟨h1,y,hy,h2,_⟩:=h.low v (bh.2 rfl)
 obtain⟨u,hu,h3⟩:=h.top y hy
 rw[bh.1 hu]at h3
 omega
end Go.Proofs.YtnikdflhefijbaaGreat
