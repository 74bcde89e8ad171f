import Derived.Test.YtnpidbjdilnhlaaGreatBn11
import Derived.Test.YtnpidbjdilnhlaaGreatBn28
import Derived.Test.YtnpidbjdilnhlaaGreatBn24
import Derived.Test.YtnpidbjdilnhlaaGreatBn29
import Derived.Test.YtnpidbjdilnhlaaGreatBn12
import Derived.Test.YtnpidbjdilnhlaaGreatBn23
namespace Go.Proofs.YtnpidbjdilnhlaaGreat
open Go.RowKit
set_option maxRecDepth 100000
set_option maxHeartbeats 4000000
theorem ZP{l:Lay}{base:Int}{y ws:List Int}(h:y.length<cw l.words){x:Int}(hx:cC ws (wr (base+(y.length:Nat)))=x):kx aT l base y ws=(y++[x],ws,decide (y.length+1=cw l.words)):=by
 subst hx
 exact if_pos h
theorem Xh{s:Sy}{l:Lay}{x:WS}{y:List Int}(h:mY s x.node y=0):dv s l x (.read y)=⟨wr (x.ev+1),x.jo,x.en,sc s x.node,.none,x.node,x.has,an s.n s.aR x.node,iD s y x.node.toNat⟩:=by
 show (⟨wr (x.ev+1),x.jo,x.en,sc s x.node,.none,x.node,x.has,an s.n s.aR x.node,qd (mY s x.node y) (iD s y x.node.toNat)⟩:WS)=_
 rw[h];rfl
set_option maxRecDepth 100000
set_option maxHeartbeats 4000000
theorem VC{s:Sy}{l:Lay}{who:Int}{x:WS}{d:Int}{ws:List Int}(he:x.en=false):(cz aT s l who x d ws).2.2=(cz aT s l who x d ws).1.en:=by
 unfold cz
 rw[if_neg (by rw[he];decide)]
 split
 ·rfl
 ·exact he.symm
set_option maxRecDepth 100000
theorem GW{s:Sy}{k:Int}(h:bF s k=0):cf s=0∧1≤k∧k≤64:=by
 unfold bF at h
 split at h
 ·split at h
  ·exact⟨by assumption,by assumption⟩
  ·cases h
 ·exact absurd h (by assumption)
theorem D5{s:Sy}{k:Int}(hf:Fit s)(h:bF s k=0):LS s (gP s k)∧(gP s k).k=k:=by
 obtain⟨h1,h2⟩:=GW h
 have e:∀z,jF (bF s k) z=z:=fun z=>if_pos h
 exact⟨⟨hf,HE h1,e _,e _,e _,by rw[show (gP s k).k=k from e _];exact h2.1,by rw[show (gP s k).k=k from e _];exact h2.2⟩,e _⟩
def lD(l:Lay):Nat:=(fe l l.k).toNat
section
variable {s:Sy} {l:Lay} (hs:LS s l)
include hs
theorem LS.kk:∃k:Nat,l.k=k∧1≤k∧k≤64:=⟨l.k.toNat,by have:=hs.k1;have:=hs.k2;omega⟩
theorem LS.size:fe l l.k=(lD l:Int)∧lD l≤1000000∧pc (fe l l.k)=lD l:=by
 obtain⟨k,hk,lN,dm⟩:=hs.kk
 have hd:=hs.ua dm
 have h1:=hs.nn
 have h2:=hs.ww
 have h3:=pO h1.2.2 h2.2
 have h4:k*(nN s+3)≤64*259:=Nat.mul_le_mul dm (by omega)
 unfold lD pc
 rw[hk,hd]
 omega
theorem LS.low:nN s*nW l+nN s<lD l:=by
 obtain⟨m,hm,JL,rD⟩:=hs.kk
 have ou:=hs.ua rD
 unfold lD
 rw[hm,ou]
 omega
end
theorem MV.ZI{s:Sy}{l:Lay}{ws:List Int}(h:MV s l ws){a:Nat}{x:Int}(ha:nN s*nW l≤a)(hx:bf x):MV s l (ws.set a x):=by
 rw[← jJ]
 exact h.xl (by omega) hx
theorem MV.VW{s:Sy}{l:Lay}{ws:List Int}(h:MV s l ws){u j:Nat}{x:Int}(hj:j<nW l)(hx:eG s.what s.w j x):MV s l (ws.set (u*nW l+j) x):=by
 rw[← jJ]
 exact h.Lk hj hx
theorem YB(s:Sy)(l:Lay)(n:Nat):MV s l (List.replicate n 0):=⟨fun z hz=>by rw[List.eq_of_mem_replicate hz];exact xj,fun v i _ _=>by
 have:(List.replicate n (0:Int)).getD (v*nW l+i) 0=0:=by
  rw[List.getD_eq_getElem?_getD,List.getElem?_replicate];split <;> rfl
 rw[this];exact SK _ _ _⟩
def np(s:Sy)(l:Lay)(ws:List Int):Prop:=ws.length=lD l∧MV s l ws
theorem np.hi{s:Sy}{l:Lay}{ws:List Int}(h:np s l ws){a:Nat}{x:Int}(ha:nN s*nW l≤a)(hx:bf x):np s l (ws.set a x):=⟨by rw[List.length_set];exact h.1,h.2.ZI ha hx⟩
theorem GN:∀{l m:List Int},l.Nodup→(∀x∈l,x∈m)→l.length≤m.length
 | [],_,_,_=>Nat.zero_le _
 | a::l,m,hd,h=>by
  have hd:=List.nodup_cons.1 hd
  have ha:=h a (List.mem_cons_self ..)
  have h1:=GN (l:=l) (m:=m.erase a) hd.2 fun x hx=>(List.mem_erase_of_ne (fun e:x=a=>hd.1 (by rw[← e];exact hx))).2 (h x (List.mem_cons_of_mem _ hx))
  rw[List.length_erase_of_mem ha]at h1
  have:=List.length_pos_of_mem ha
  rw[List.length_cons];omega
inductive Rx(nx:Int→List Int):Int→Int→Prop where
 | refl (a:Int):Rx nx a a
 | step {a b c:Int} (h:Rx nx a b) (hc:c∈nx b):Rx nx a c
theorem Rx.trans{nx:Int→List Int}{a b c:Int}(h1:Rx nx a b)(h2:Rx nx b c):Rx nx a c:=by
 induction h2 with
 | refl=>exact h1
 | step _ hc ih=>exact .step ih hc
theorem Rx.one{nx:Int→List Int}{a b:Int}(h:b∈nx a):Rx nx a b:=.step (.refl a) h
def mU(f:Int→Int)(a v:Int):Int→Int:=fun y=>if y=a then v else f y
theorem nE{f:Int→Int}{a v y:Int}(h:y≠a):mU f a v y=f y:=if_neg h
theorem nF{f:Int→Int}{a v:Int}:mU f a v a=v:=if_pos rfl
structure oG(n:Nat)(nx:Int→List Int)(P:List (List Int)):Prop where
 ne:∀p∈P,p≠[]
 node:∀p∈P,∀x∈p,0≤x∧x<(n:Int)
 nd:P.flatten.Nodup
 yu:∀p∈P,p.Pairwise (· < ·)
 Km:∀p∈P,∀x∈p,∀y∈p,Rx nx x y
 FJ:∀(i:Nat) (p:List Int),P[i]?=some p→∀x∈p,∀y∈nx x,∃(j:Nat) (q:List Int),j≤i∧P[j]?=some q∧y∈q
theorem oG.nil(n:Nat)(nx:Int→List Int):oG n nx []:=⟨fun _ h=>(by cases h),fun _ h=>(by cases h),List.nodup_nil,fun _ h=>(by cases h),fun _ h=>(by cases h),fun i p h=>by simp at h⟩
theorem oG.reach{n:Nat}{nx:Int→List Int}{P:List (List Int)}(h:oG n nx P){x y:Int}(hr:Rx nx x y)(hx:∃p∈P,x∈p):∃p∈P,y∈p:=by
 induction hr with
 | refl=>exact hx
 | step _ hc ih =>
  obtain⟨p,hp,hb⟩:=ih
  obtain⟨i,hi⟩:=List.getElem?_of_mem hp
  obtain⟨j,q,_,hq,hy⟩:=h.FJ i p hi _ hb _ hc
  exact⟨q,List.mem_of_getElem? hq,hy⟩
structure TJ(n:Nat)(nx:Int→List Int)(f L:Int→Int)(st:List Int)(aB:Nat)(P:List (List Int))(W:List Int):Prop where
 node:∀x∈st,0≤x∧x<(n:Int)
 inc:st.Pairwise fun x y=>f x<f y
 p9:∀x∈st,1≤f x∧f x≤aB
 uv:∀x:Int,0≤x→x<n→(f x≠0↔x∈st∨∃p∈P,x∈p)
 wU:∀p∈P,∀x∈p,x ∉ st
 len:aB=st.length+P.flatten.length
 sub:W.Sublist st
 top:∀x∈st,∃v∈W,f v≤f x
 wG:∀v∈W,∀x∈st,f v≤f x→Rx nx v x
 fin:∀x∈st,x ∉ W→(∀y∈nx x,f y≠0)∧∃y∈st,f y<f x∧Rx nx x y
 low:∀v∈W,L v≤f v∧∃y∈st,f y=L v∧Rx nx v y
 yv:∀v∈W,∀x∈st,x ∉ W→f v<f x→(∀u∈W,f u≤f x→f u≤f v)→∀y∈nx x,y∈st→L v≤f y
 prt:oG n nx P
def Prc(nx:Int→List Int)(f L:Int→Int)(st:List Int)(fI:List (Int×Nat)):Prop:=∀t∈fI,∀y∈(nx t.1).take t.2,f y≠0∧(y∈st→L t.1≤f y)
theorem F9{f:Int→Int}:∀{st:List Int},st.Pairwise (fun x y=>f x<f y)→∀{x y:Int},x∈st→y∈st→f x=f y→x=y
 | [],_,_,_,hx,_,_=>by cases hx
 | a::st,h,x,y,hx,hy,e=>by
  obtain⟨h1,h2⟩:=List.pairwise_cons.1 h
  rcases List.mem_cons.1 hx with e1 | pq
  ·rcases List.mem_cons.1 hy with e2 | ru
   ·rw[e1,e2]
   ·have:=h1 y ru;rw[e1]at e;omega
  ·rcases List.mem_cons.1 hy with e2 | ru
   ·have:=h1 x pq;rw[e2]at e;omega
   ·exact F9 h2 pq ru e
theorem rO{f:Int→Int}{st:List Int}(h:st.Pairwise (fun x y=>f x<f y)):st.Nodup:=h.imp fun aG e=>by subst e;omega
theorem zC{f:Int→Int}{st w:List Int}{v:Int}(h:st.Pairwise (fun x y=>f x<f y))(hs:(w++[v]).Sublist st):∀u∈w,f u<f v:=by
 have:=h.sublist hs
 intro u hu
 exact (List.pairwise_append.1 this).2.2 u hu v (List.mem_singleton.2 rfl)
variable {n:Nat} {nx:Int→List Int} {f L:Int→Int} {st:List Int} {aB:Nat} {P:List (List Int)}
theorem TJ.start(h:∀x,f x=0):TJ n nx f L [] 0 [] []:=
 ⟨fun _ h=>(by cases h),.nil,fun _ h=>(by cases h),fun x _ _=>by simp[h],fun _ h=>(by cases h),rfl,.slnil,fun _ h=>(by cases h),fun _ h=>(by cases h),fun _ h=>(by cases h),fun _ h=>(by cases h),fun _ h=>(by cases h),.nil n nx⟩
theorem TJ.enter{W:List Int}{b:Int}(h:TJ n nx f L st aB P W)(hb:0≤b∧b<n)(hf:f b=0)(hW:∀v∈W,Rx nx v b):TJ n nx (mU f b (aB+1)) (mU L b (aB+1)) (st++[b]) (aB+1) P (W++[b]):=by
 have dB:b ∉ st:=fun hm=>by have:=h.p9 b hm;omega
 have hbW:b ∉ W:=fun hm=>dB (h.sub.subset hm)
 have gq:∀x∈st,mU f b (aB+1) x=f x:=fun x hx=>nE fun e=>dB (e▸hx)
 have hL1:∀x∈W,mU L b (aB+1) x=L x:=fun x hx=>nE fun e=>hbW (e▸hx)
 have yM:mU f b (aB+1) b=(aB+1:Nat):=by rw[nF];rfl
 have yQ:=h.sub.subset
 refine⟨fun x hx =>?_,?_,fun x hx =>?_,fun x h0 h1 =>?_,fun p hp x hx =>?_,by have:=h.len;rw[List.length_append,List.length_singleton];omega,h.sub.append (.refl _),fun x hx =>?_,fun v hv x hx hle =>?_,fun x hx jV =>?_,fun v hv =>?_,fun v hv x hx jV ab gV y hy jb =>?_,h.prt⟩
 ·rcases List.mem_append.1 hx with hx | hx
  ·exact h.node x hx
  ·rw[List.mem_singleton.1 hx];exact hb
 ·refine List.pairwise_append.2 ⟨h.inc.imp_of_mem fun {x y} hx hy aG =>?_,List.pairwise_singleton ..,fun x hx y hy =>?_⟩
  ·rw[gq x hx,gq y hy];exact aG
  ·rw[List.mem_singleton.1 hy,gq x hx,yM]
   have:=(h.p9 x hx).2;omega
 ·rcases List.mem_append.1 hx with hx | hx
  ·rw[gq x hx];have:=h.p9 x hx;omega
  ·rw[List.mem_singleton.1 hx,yM];omega
 ·by_cases e:x=b
  ·subst e
   exact⟨fun _=>.inl (List.mem_append_right _ (List.mem_singleton.2 rfl)),fun _=>by rw[yM];omega⟩
  ·rw[nE e,h.uv x h0 h1,List.mem_append,List.mem_singleton]
   exact or_congr_left ⟨.inl,fun h=>h.resolve_right e⟩
 ·rw[List.mem_append,List.mem_singleton]
  rintro (hm | rfl)
  ·exact h.wU p hp x hx hm
  ·exact ((h.uv x hb.1 hb.2).2 (.inr ⟨p,hp,hx⟩)) hf
 ·rcases List.mem_append.1 hx with hx | hx
  ·obtain⟨v,hv,hle⟩:=h.top x hx
   exact⟨v,List.mem_append_left _ hv,by rw[gq v (yQ hv),gq x hx];exact hle⟩
  ·rw[List.mem_singleton.1 hx]
   exact⟨b,List.mem_append_right _ (List.mem_singleton.2 rfl),Int.le_refl _⟩
 ·rcases List.mem_append.1 hv with hv | hv
  ·rcases List.mem_append.1 hx with hx | hx
   ·rw[gq v (yQ hv),gq x hx]at hle
    exact h.wG v hv x hx hle
   ·rw[List.mem_singleton.1 hx];exact hW v hv
  ·rw[List.mem_singleton.1 hv]at hle ⊢
   rcases List.mem_append.1 hx with hx | hx
   ·rw[yM,gq x hx]at hle
    have:=(h.p9 x hx).2;omega
   ·rw[List.mem_singleton.1 hx];exact .refl _
 ·rw[List.mem_append,List.mem_singleton]at jV
  have hx:x∈st:=by
   rcases List.mem_append.1 hx with hx | hx
   ·exact hx
   ·exact absurd (.inr (List.mem_singleton.1 hx)) jV
  obtain⟨h1,y,hy,h2,h3⟩:=h.fin x hx fun hm=>jV (.inl hm)
  refine⟨fun y hy =>?_,y,List.mem_append_left _ hy,by rw[gq y hy,gq x hx];exact h2,h3⟩
  by_cases e:y=b
  ·subst e;rw[yM];omega
  ·rw[nE e];exact h1 y hy
 ·rcases List.mem_append.1 hv with hv | hv
  ·obtain⟨h1,y,hy,h2,h3⟩:=h.low v hv
   rw[hL1 v hv,gq v (yQ hv)]
   exact⟨h1,y,List.mem_append_left _ hy,by rw[gq y hy];exact h2,h3⟩
  ·rw[List.mem_singleton.1 hv,nF,nF]
   exact⟨Int.le_refl _,b,List.mem_append_right _ (List.mem_singleton.2 rfl),nF,.refl _⟩
 ·rw[List.mem_append,List.mem_singleton]at jV
  have hx:x∈st:=by
   rcases List.mem_append.1 hx with hx | hx
   ·exact hx
   ·exact absurd (.inr (List.mem_singleton.1 hx)) jV
  rcases List.mem_append.1 hv with hv | hv
  ·rw[hL1 v hv]
   rw[gq v (yQ hv),gq x hx]at ab
   have hyb:y≠b:=fun e=>(h.fin x hx fun hm=>jV (.inl hm)).1 y hy (e▸hf)
   have jb:y∈st:=by
    rcases List.mem_append.1 jb with jb | jb
    ·exact jb
    ·exact absurd (List.mem_singleton.1 jb) hyb
   rw[gq y jb]
   refine h.yv v hv x hx (fun hm=>jV (.inl hm)) ab (fun u hu hle =>?_) y hy jb
   have:=gV u (List.mem_append_left _ hu)
   rw[gq u (yQ hu),gq x hx,gq v (yQ hv)]at this
   exact this hle
  ·rw[List.mem_singleton.1 hv,yM,gq x hx]at ab
   have:=(h.p9 x hx).2;omega
theorem TJ.lower{w:List Int}{v z:Int}(h:TJ n nx f L st aB P (w++[v]))(hz:z∈st)(hr:Rx nx v z):TJ n nx f (mU L v (min (L v) (f z))) st aB P (w++[v]):=by
 have hd:(w++[v]).Nodup:=(rO h.inc).sublist h.sub
 have hvw:v ∉ w:=fun hm=>(List.nodup_append.1 hd).2.2 v hm v (List.mem_singleton.2 rfl) rfl
 refine⟨h.node,h.inc,h.p9,h.uv,h.wU,h.len,h.sub,h.top,h.wG,h.fin,fun u hu =>?_,fun u hu x hx jV ab gV y hy jb =>?_,h.prt⟩
 ·by_cases e:u=v
  ·subst e
   rw[nF]
   obtain⟨h1,y,hy,h2,h3⟩:=h.low u hu
   refine⟨by omega,?_⟩
   by_cases c:L u≤f z
   ·exact⟨y,hy,by rw[h2];omega,h3⟩
   ·exact⟨z,hz,by omega,hr⟩
  ·rw[nE e];exact h.low u hu
 ·have:=h.yv u hu x hx jV ab gV y hy jb
  by_cases e:u=v
  ·subst e;rw[nF];omega
  ·rw[nE e];exact this
theorem TJ.up{w:List Int}{u v:Int}(h:TJ n nx f L st aB P (w++[u]++[v]))(ab:L v<f v)(bM:∀y∈nx v,f y≠0∧(y∈st→L v≤f y)):TJ n nx f (mU L u (min (L u) (L v))) st aB P (w++[u]):=by
 have hd:(w++[u]++[v]).Nodup:=(rO h.inc).sublist h.sub
 have hvw:v ∉ w++[u]:=fun hm=>(List.nodup_append.1 hd).2.2 v hm v (List.mem_singleton.2 rfl) rfl
 have ef:u ∉ w:=fun hm=>(List.nodup_append.1 (List.nodup_append.1 hd).1).2.2 u hm u (List.mem_singleton.2 rfl) rfl
 have huv:u≠v:=fun e=>hvw (e▸List.mem_append_right _ (List.mem_singleton.2 rfl))
 have pV:=zC h.inc h.sub
 have ab7:=zC h.inc ((List.sublist_append_left _ _).trans h.sub)
 have Ff:u∈w++[u]:=List.mem_append_right _ (List.mem_singleton.2 rfl)
 have yE:v∈w++[u]++[v]:=List.mem_append_right _ (List.mem_singleton.2 rfl)
 have bz:v∈st:=h.sub.subset yE
 have hfuv:f u<f v:=pV u Ff
 obtain⟨uG,z,hz,mm,hzr⟩:=h.low v yE
 refine⟨h.node,h.inc,h.p9,h.uv,h.wU,h.len,(List.sublist_append_left _ _).trans h.sub,fun x hx =>?_,fun a ha=>h.wG a (List.mem_append_left _ ha),fun x hx jV =>?_,fun a ha =>?_,fun a ha x hx jV ey gV y hy jb =>?_,h.prt⟩
 ·obtain⟨a,ha,hle⟩:=h.top x hx
  rcases List.mem_append.1 ha with ha | ha
  ·exact⟨a,ha,hle⟩
  ·rw[List.mem_singleton.1 ha]at hle
   exact⟨u,Ff,by omega⟩
 ·by_cases e:x=v
  ·subst e
   exact⟨fun y hy=>(bM y hy).1,z,hz,by omega,hzr⟩
  ·exact h.fin x hx fun hm=>by
    rcases List.mem_append.1 hm with hm | hm
    ·exact jV hm
    ·exact e (List.mem_singleton.1 hm)
 ·obtain⟨h1,y,hy,h2,h3⟩:=h.low a (List.mem_append_left _ ha)
  by_cases e:a=u
  ·subst e
   rw[nF]
   refine⟨by omega,?_⟩
   by_cases c:L a≤L v
   ·exact⟨y,hy,by omega,h3⟩
   ·exact⟨z,hz,by omega,(h.wG a (List.mem_append_left _ Ff) v bz (by omega)).trans hzr⟩
  ·rw[nE e];exact⟨h1,y,hy,h2,h3⟩
 ·have hva:∀c,f a≤c→f u≤f a→mU L u (min (L u) (L v)) a≤L a:=fun c _ _=>by
   by_cases e:a=u
   ·subst e;rw[nF];omega
   ·rw[nE e];exact Int.le_refl _
  have hle:mU L u (min (L u) (L v)) a≤L a:=by
   by_cases e:a=u
   ·subst e;rw[nF];omega
   ·rw[nE e];exact Int.le_refl _
  by_cases yB:f v≤f x
  ·have hau:a=u:=by
    have h1:=gV u Ff (by omega)
    by_cases e:a=u
    ·exact e
    ·have:a∈w:=by
      rcases List.mem_append.1 ha with ha | ha
      ·exact ha
      ·exact absurd (List.mem_singleton.1 ha) e
     have:=ab7 a this
     omega
   subst hau
   rw[nF]
   by_cases e:x=v
   ·subst e
    have:=(bM y hy).2 jb
    omega
   ·have aI:f v≠f x:=fun e2=>e (F9 h.inc hx bz e2.symm)
    have:=h.yv v yE x hx (fun hm=>by
     rcases List.mem_append.1 hm with hm | hm
     ·exact jV hm
     ·exact e (List.mem_singleton.1 hm)) (by omega) (fun c hc _=>by
      rcases List.mem_append.1 hc with hc | hc
      ·have:=pV c hc;omega
      ·rw[List.mem_singleton.1 hc];exact Int.le_refl _) y hy jb
    omega
  ·have abQ:x≠v:=fun e=>by subst e;omega
   have:=h.yv a (List.mem_append_left _ ha) x hx (fun hm=>by
    rcases List.mem_append.1 hm with hm | hm
    ·exact jV hm
    ·exact abQ (List.mem_singleton.1 hm)) ey (fun c hc px=>by
     rcases List.mem_append.1 hc with hc | hc
     ·exact gV c hc px
     ·rw[List.mem_singleton.1 hc]at px;omega) y hy jb
   omega
theorem Mr{v:Int}:∀{st:List Int},st.Pairwise (fun x y=>f x<f y)→v∈st→∃A B,st=A++v::B∧(∀x∈A,f x<f v)∧∀x∈B,f v<f x:=by
 intro st h hv
 obtain⟨A,B,rfl⟩:=List.append_of_mem hv
 obtain⟨h1,h2,h3⟩:=List.pairwise_append.1 h
 exact⟨A,B,rfl,fun x hx=>h3 x hx v (List.mem_cons_self ..),fun x hx=>(List.pairwise_cons.1 h2).1 x hx⟩
theorem TJ.tell{w A B part:List Int}{v:Int}(h:TJ n nx f L st aB P (w++[v]))(ak:st=A++v::B)(heq:L v=f v)(bM:∀y∈nx v,f y≠0∧(y∈st→L v≤f y))(bY:∀x y,y∈nx x→0≤y∧y<n)(hp:part.Perm (v::B))(hs:part.Pairwise (· < ·)):TJ n nx f L A aB (P++[part]) w:=by
 have bB:=rO h.inc
 have pV:=zC h.inc h.sub
 have yE:v∈w++[v]:=List.mem_append_right _ (List.mem_singleton.2 rfl)
 have kg:=h.inc
 rw[ak]at kg
 obtain⟨i1,i2,i3⟩:=List.pairwise_append.1 kg
 have uj:∀x∈A,f x<f v:=fun x hx=>i3 x hx v (List.mem_cons_self ..)
 have ED:∀x∈B,f v<f x:=(List.pairwise_cons.1 i2).1
 have rK:∀x∈A,x∈st:=fun x hx=>by rw[ak];exact List.mem_append_left _ hx
 have uK:∀x∈v::B,x∈st:=fun x hx=>by rw[ak];exact List.mem_append_right _ hx
 have ym:∀x∈v::B,f v≤f x:=fun x hx=>by
  rcases List.mem_cons.1 hx with rfl | hx
  ·exact Int.le_refl _
  ·have:=ED x hx;omega
 have au:∀x∈st,f v≤f x→x∈v::B:=fun x hx hle=>by
  rw[ak]at hx
  rcases List.mem_append.1 hx with hx | hx
  ·have:=uj x hx;omega
  ·exact hx
 have Ix:∀x∈B,x ∉ w++[v]:=fun x hx hm=>by
  have:=ED x hx
  rcases List.mem_append.1 hm with hm | hm
  ·have:=pV x hm;omega
  ·rw[List.mem_singleton.1 hm]at this;omega
 have Ez:∀x∈v::B,∀y∈nx x,y∈v::B∨∃p∈P,y∈p:=fun x hx y hy=>by
  have hv2:f y≠0∧(y∈st→f v≤f y):=by
   rcases List.mem_cons.1 hx with rfl | yC
   ·rw[← heq];exact bM y hy
   ·refine⟨(h.fin x (uK x hx) (Ix x yC)).1 y hy,fun jb =>?_⟩
    rw[← heq]
    refine h.yv v yE x (uK x hx) (Ix x yC) (ED x yC) (fun u hu _ =>?_) y hy jb
    rcases List.mem_append.1 hu with hu | hu
    ·have:=pV u hu;omega
    ·rw[List.mem_singleton.1 hu];exact Int.le_refl _
  obtain⟨q1,q2⟩:=bY x y hy
  rcases (h.uv y q1 q2).1 hv2.1 with jb | hyp
  ·exact .inl (au y jb (hv2.2 jb))
  ·exact .inr hyp
 have aa2:∀{x y:Int},Rx nx x y→x∈v::B→y∈v::B∨∃p∈P,y∈p:=by
  intro x y hr hx
  induction hr with
  | refl=>exact .inl hx
  | step _ hc ih =>
   rcases ih with ih | ih
   ·exact Ez _ ih _ hc
   ·exact .inr (h.prt.reach (.one hc) ih)
 have AF:∀(k:Nat) (x:Int),x∈v::B→(f x-f v).toNat≤k→Rx nx x v:=by
  intro k
  induction k with
  | zero =>
   intro x hx hk
   have:=ym x hx
   rw[F9 h.inc (uK x hx) (uK v (List.mem_cons_self ..)) (by omega)]
   exact .refl _
  | succ k ih =>
   intro x hx hk
   rcases List.mem_cons.1 hx with rfl | yC
   ·exact .refl _
   ·obtain⟨_,y,hy,ab,hr⟩:=h.fin x (uK x hx) (Ix x yC)
    rcases aa2 hr hx with Jz | ⟨p,hp,hyp⟩
    ·have:=ED x yC
     exact hr.trans (ih y Jz (by omega))
    ·exact absurd hy (h.wU p hp y hyp)
 have ach:∀x∈v::B,∀y∈v::B,Rx nx x y:=fun x hx y hy=>(AF _ x hx (Nat.le_refl _)).trans (h.wG v yE y (uK y hy) (ym y hy))
 have eY:∀x,x∈part↔x∈v::B:=fun x=>hp.mem_iff
 have hwA:w.Sublist A:=by
  have h1:(w++[v]).Sublist (A++v::B):=ak▸h.sub
  have h2:=h1.filter (fun x=>decide (f x<f v))
  have e1:(w++[v]).filter (fun x=>decide (f x<f v))=w:=by
   rw[List.filter_append,List.filter_eq_self.2 fun x hx=>decide_eq_true (pV x hx),List.filter_cons_of_neg (by simp)]
   simp
  have e2:(A++v::B).filter (fun x=>decide (f x<f v))=A:=by
   rw[List.filter_append,List.filter_eq_self.2 fun x hx=>decide_eq_true (uj x hx),List.filter_eq_nil_iff.2 fun x hx=>by
    have:=ym x hx
    rw[decide_eq_true_eq];omega]
   simp
  rw[e1,e2]at h2
  exact h2
 have Qn:(P++[part]).flatten=P.flatten++part:=by rw[List.flatten_append];simp
 refine⟨fun x hx=>h.node x (rK x hx),i1,fun x hx=>h.p9 x (rK x hx),fun x h0 h1 =>?_,fun p cx x hx hxA =>?_,?_,hwA,fun x hx =>?_,fun a ha x hx=>h.wG a (List.mem_append_left _ ha) x (rK x hx),fun x hx jV =>?_,fun a ha =>?_,fun a ha x hx jV ab gV y hy jb =>?_,⟨fun p cx =>?_,fun p cx x hx =>?_,?_,fun p cx =>?_,fun p cx x hx y hy =>?_,fun i p hi x hx y hy =>?_⟩⟩
 ·rw[h.uv x h0 h1,ak,List.mem_append]
  constructor
  ·rintro ((hx | hx) | ⟨p,cx,hx⟩)
   ·exact .inl hx
   ·exact .inr ⟨part,List.mem_append_right _ (List.mem_singleton.2 rfl),(eY x).2 hx⟩
   ·exact .inr ⟨p,List.mem_append_left _ cx,hx⟩
  ·rintro (hx | ⟨p,cx,hx⟩)
   ·exact .inl (.inl hx)
   ·rcases List.mem_append.1 cx with cx | cx
    ·exact .inr ⟨p,cx,hx⟩
    ·rw[List.mem_singleton.1 cx]at hx
     exact .inl (.inr ((eY x).1 hx))
 ·rcases List.mem_append.1 cx with cx | cx
  ·exact h.wU p cx x hx (rK x hxA)
  ·rw[List.mem_singleton.1 cx]at hx
   have:=ym x ((eY x).1 hx)
   have:=uj x hxA
   omega
 ·have h1:=h.len
  have h2:=hp.length_eq
  have h3:=congrArg List.length ak
  rw[List.length_append]at h3
  rw[Qn,List.length_append];omega
 ·obtain⟨a,ha,hle⟩:=h.top x (rK x hx)
  rcases List.mem_append.1 ha with ha | ha
  ·exact⟨a,ha,hle⟩
  ·rw[List.mem_singleton.1 ha]at hle
   have:=uj x hx;omega
 ·have yB:x ∉ w++[v]:=fun hm=>by
   rcases List.mem_append.1 hm with hm | hm
   ·exact jV hm
   ·have:=uj x hx
    rw[List.mem_singleton.1 hm]at this;omega
  obtain⟨h1,y,hy,h2,h3⟩:=h.fin x (rK x hx) yB
  refine⟨h1,y,?_,h2,h3⟩
  have:=uj x hx
  rw[ak]at hy
  rcases List.mem_append.1 hy with hy | hy
  ·exact hy
  ·have:=ym y hy;omega
 ·obtain⟨h1,y,hy,h2,h3⟩:=h.low a (List.mem_append_left _ ha)
  refine⟨h1,y,?_,h2,h3⟩
  have:=pV a ha
  rw[ak]at hy
  rcases List.mem_append.1 hy with hy | hy
  ·exact hy
  ·have:=ym y hy;omega
 ·have yB:x ∉ w++[v]:=fun hm=>by
   rcases List.mem_append.1 hm with hm | hm
   ·exact jV hm
   ·have:=uj x hx
    rw[List.mem_singleton.1 hm]at this;omega
  refine h.yv a (List.mem_append_left _ ha) x (rK x hx) yB ab (fun u hu hle =>?_) y hy (rK y jb)
  rcases List.mem_append.1 hu with hu | hu
  ·exact gV u hu hle
  ·rw[List.mem_singleton.1 hu]at hle
   have:=uj x hx;omega
 ·rcases List.mem_append.1 cx with cx | cx
  ·exact h.prt.ne p cx
  ·rw[List.mem_singleton.1 cx]
   exact List.ne_nil_of_mem ((eY v).2 (List.mem_cons_self ..))
 ·rcases List.mem_append.1 cx with cx | cx
  ·exact h.prt.node p cx x hx
  ·rw[List.mem_singleton.1 cx]at hx
   exact h.node x (uK x ((eY x).1 hx))
 ·rw[Qn]
  refine List.nodup_append.2 ⟨h.prt.nd,hs.imp fun h=>by omega,fun x hx y hy e =>?_⟩
  subst e
  obtain⟨p,cx,po⟩:=List.mem_flatten.1 hx
  exact h.wU p cx x po (uK x ((eY x).1 hy))
 ·rcases List.mem_append.1 cx with cx | cx
  ·exact h.prt.yu p cx
  ·rw[List.mem_singleton.1 cx];exact hs
 ·rcases List.mem_append.1 cx with cx | cx
  ·exact h.prt.Km p cx x hx y hy
  ·rw[List.mem_singleton.1 cx]at hx hy
   exact ach x ((eY x).1 hx) y ((eY y).1 hy)
 ·by_cases ab:i<P.length
  ·rw[List.getElem?_append_left ab]at hi
   obtain⟨j,q,h1,h2,h3⟩:=h.prt.FJ i p hi x hx y hy
   exact⟨j,q,h1,by rw[List.getElem?_append_left (by omega)];exact h2,h3⟩
  ·have hip:i=P.length∧p=part:=by
    rw[List.getElem?_append_right (by omega)]at hi
    by_cases e:i-P.length=0
    ·rw[e]at hi
     exact⟨by omega,(Option.some.inj hi).symm⟩
    ·rw[List.getElem?_eq_none (by rw[List.length_singleton];omega)]at hi;cases hi
   obtain⟨rfl,rfl⟩:=hip
   rcases Ez x ((eY x).1 hx) y hy with Jz | ⟨q,hq,hyq⟩
   ·exact⟨P.length,p,Nat.le_refl _,by rw[List.getElem?_append_right (Nat.le_refl _),Nat.sub_self];rfl,(eY y).2 Jz⟩
   ·obtain⟨j,hj⟩:=List.getElem?_of_mem hq
    have gL:j<P.length:=(List.getElem?_eq_some_iff.1 hj).1
    exact⟨j,q,by omega,by rw[List.getElem?_append_left gL];exact hj,hyq⟩
theorem TJ.empty(h:TJ n nx f L st aB P []):st=[]:=by
 cases st with
 | nil=>rfl
 | cons x st =>
  obtain⟨v,hv,_⟩:=h.top x (List.mem_cons_self ..)
  cases hv
theorem TJ.first{v:Int}(h:TJ n nx f L st aB P [v]):L v=f v:=by
 obtain⟨h1,y,hy,h2,_⟩:=h.low v (List.mem_singleton.2 rfl)
 obtain⟨u,hu,h3⟩:=h.top y hy
 rw[List.mem_singleton.1 hu]at h3
 omega
end Go.Proofs.YtnpidbjdilnhlaaGreat
