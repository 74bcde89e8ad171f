import Derived.Test.YtnpidbjdilnhlaaGreatBn27
import Derived.Test.YtnpidbjdilnhlaaGreatBn13
import Derived.Test.YtnpidbjdilnhlaaGreatBn31
import Derived.Test.YtnpidbjdilnhlaaGreatBn32
import Derived.Test.YtnpidbjdilnhlaaGreatBn11
namespace Go.Proofs.YtnpidbjdilnhlaaGreat
open Go.RowKit
set_option maxRecDepth 100000
set_option maxHeartbeats 4000000
theorem Vy(n:Int)(σ:Hp):ACalls Tryz.prog 65 [.int .i64 n] σ (aB (.int .i64 (rm n)) σ):=by
 refine okF Tryz.func65 (by kernel_rfl) ?_
 exact .done ⟨aN (KT n),rfl⟩
end Go.Proofs.YtnpidbjdilnhlaaGreat
namespace Go.Proofs.YtnpidbjdilnhlaaGreat
open Go.RowKit
set_option maxRecDepth 100000
set_option maxHeartbeats 4000000
theorem Dx(l:Lay)(w:Int)(σ:Hp):ACalls Tryz.prog 24 [.agg (de l),.int .i64 w] σ (aB (.int .i64 (dC l w)) σ):=by
 refine okF Tryz.func24 (by kernel_rfl) ?_
 intro aC
 refine .quiet (by kernel_rfl) ?_
 refine aa.mk 0 _ _ rfl rfl ?_
 refine aa.mk 0 _ _ rfl rfl ?_
 refine aa.mk 0 _ _ rfl rfl ?_
 refine aa.mk 0 _ _ rfl rfl ?_
 refine aJ [] (Vy _ _) ?_
 exact .drop 0 1 (.done ⟨aN (by rw[show IntKind.i64.wrap (2+((rm (IntKind.i64.wrap (l.n+1)):Nat):Int))=((2+rm (fE l):Nat):Int) from (fh (z:=2+((rm (fE l):Nat):Int)) (by omega) (by have:=Ep (fE l);omega)).trans (by omega)];rfl),rfl⟩)
end Go.Proofs.YtnpidbjdilnhlaaGreat
namespace Go.Proofs.YtnpidbjdilnhlaaGreat
open Go.RowKit
set_option maxRecDepth 100000
theorem KC(l:Lay)(σ:Hp):ACalls Tryz.prog 17 [.agg (de l)] σ (aB (.int .i64 (dC l l.k)) σ):=by
 refine okF Tryz.func17 (by kernel_rfl) ?_
 intro aC
 refine aa.mk 0 _ _ rfl rfl ?_
 refine aa.mk 0 _ _ rfl rfl ?_
 refine az [] (Dx l _ _) ?_
 exact .drop 0 1 (.done ⟨rfl,rfl⟩)
theorem Aa{s:Sy}{k:Int}(h:cb s k=0):dm s=0∧1≤k∧k≤64:=by
 unfold cb at h
 split at h
 ·split at h
  ·exact⟨by assumption,by assumption⟩
  ·cases h
 ·exact absurd h (by assumption)
theorem A2{s:Sy}{k:Int}(hf:Fit s)(h:cb s k=0):LS s (eP s k)∧(eP s k).k=k:=by
 obtain⟨h1,h2⟩:=Aa h
 have e:∀z,mA (cb s k) z=z:=fun z=>if_pos h
 exact⟨⟨hf,DP h1,e _,e _,e _,by rw[show (eP s k).k=k from e _];exact h2.1,by rw[show (eP s k).k=k from e _];exact h2.2⟩,e _⟩
def cN(l:Lay):Nat:=(dC l l.k).toNat
section
variable {s:Sy} {l:Lay} (hs:LS s l)
include hs
theorem LS.kk:∃k:Nat,l.k=k∧1≤k∧k≤64:=⟨l.k.toNat,by have:=hs.k1;have:=hs.k2;omega⟩
theorem LS.size:dC l l.k=(cN l:Int)∧cN l≤1000000∧jG (dC l l.k)=cN l:=by
 obtain⟨k,hk,im,cD⟩:=hs.kk
 have hd:=hs.qv cD
 have h1:=hs.nn
 have h2:=hs.ww
 have h3:=pj h1.2.2 h2.2
 have h4:k*(nN s+3)≤64*259:=Nat.mul_le_mul cD (by omega)
 unfold cN jG
 rw[hk,hd]
 omega
theorem LS.Wp{k:Nat}(hk:(k:Int)<l.k):∃a:Nat,dC l k=(a:Int)∧nN s*nW l+nN s<a∧a+nN s+3≤cN l:=by
 obtain⟨m,hm,B3,ny⟩:=hs.kk
 have hd:=hs.qv (k:=k) (by omega)
 have nD:=hs.qv ny
 have h5:(k+1)*(nN s+3)≤m*(nN s+3):=Nat.mul_le_mul_right _ (by omega)
 rw[Nat.succ_mul]at h5
 refine⟨_,hd,by omega,?_⟩
 unfold cN
 rw[hm,nD]
 omega
theorem LS.low:nN s*nW l+nN s<cN l:=by
 obtain⟨m,hm,B3,ny⟩:=hs.kk
 have nD:=hs.qv ny
 unfold cN
 rw[hm,nD]
 omega
end
theorem MV.UI{s:Sy}{l:Lay}{ws:List Int}(h:MV s l ws){a:Nat}{x:Int}(ha:nN s*nW l≤a)(hx:bh x):MV s l (ws.set a x):=by
 rw[← jn]
 exact h.uF (by omega) hx
theorem MV.Q4{s:Sy}{l:Lay}{ws:List Int}(h:MV s l ws){u j:Nat}{x:Int}(hj:j<nW l)(hx:gr s.ag s.w j x):MV s l (ws.set (u*nW l+j) x):=by
 rw[← jn]
 exact h.Ho hj hx
theorem Ty(s:Sy)(l:Lay)(n:Nat):MV s l (List.replicate n 0):=⟨fun z hz=>by rw[List.eq_of_mem_replicate hz];exact uD,fun v i _ _=>by
 have:(List.replicate n (0:Int)).getD (v*nW l+i) 0=0:=by
  rw[List.getD_eq_getElem?_getD,List.getElem?_replicate];split <;> rfl
 rw[this];exact Of _ _ _⟩
def lQ(s:Sy)(l:Lay)(ws:List Int):Prop:=ws.length=cN l∧MV s l ws
theorem lQ.hi{s:Sy}{l:Lay}{ws:List Int}(h:lQ s l ws){a:Nat}{x:Int}(ha:nN s*nW l≤a)(hx:bh x):lQ s l (ws.set a x):=⟨by rw[List.length_set];exact h.1,h.2.UI ha hx⟩
end Go.Proofs.YtnpidbjdilnhlaaGreat
namespace Go.Proofs.YtnpidbjdilnhlaaGreat
open Go.RowKit
theorem Dh:∀{l m:List Int},l.Nodup→(∀x∈l,x∈m)→l.length≤m.length
 | [],_,_,_=>Nat.zero_le _
 | a::l,m,hd,h=>by
  have hd:=List.nodup_cons.1 hd
  have ha:=h a (List.mem_cons_self ..)
  have h1:=Dh (l:=l) (m:=m.erase a) hd.2 fun x hx=>(List.mem_erase_of_ne (fun e:x=a=>hd.1 (by rw[← e];exact hx))).2 (h x (List.mem_cons_of_mem _ hx))
  rw[List.length_erase_of_mem ha]at h1
  have:=List.length_pos_of_mem ha
  rw[List.length_cons];omega
inductive Rx(nx:Int→List Int):Int→Int→Prop where
 | refl (a:Int):Rx nx a a
 | step {a b c:Int} (h:Rx nx a b) (hc:c∈nx b):Rx nx a c
theorem Rx.trans{nx:Int→List Int}{a b c:Int}(h1:Rx nx a b)(h2:Rx nx b c):Rx nx a c:=by
 induction h2 with
 | refl=>exact h1
 | step _ hc ih=>exact .step ih hc
theorem Rx.one{nx:Int→List Int}{a b:Int}(h:b∈nx a):Rx nx a b:=.step (.refl a) h
def lJ(f:Int→Int)(a v:Int):Int→Int:=fun y=>if y=a then v else f y
theorem lZ{f:Int→Int}{a v y:Int}(h:y≠a):lJ f a v y=f y:=if_neg h
theorem l0{f:Int→Int}{a v:Int}:lJ f a v a=v:=if_pos rfl
structure mQ(n:Nat)(nx:Int→List Int)(P:List (List Int)):Prop where
 ne:∀p∈P,p≠[]
 node:∀p∈P,∀x∈p,0≤x∧x<(n:Int)
 nd:P.flatten.Nodup
 vG:∀p∈P,p.Pairwise (· < ·)
 GC:∀p∈P,∀x∈p,∀y∈p,Rx nx x y
 Ci:∀(i:Nat) (p:List Int),P[i]?=some p→∀x∈p,∀y∈nx x,∃(j:Nat) (q:List Int),j≤i∧P[j]?=some q∧y∈q
theorem mQ.nil(n:Nat)(nx:Int→List Int):mQ n nx []:=⟨fun _ h=>(by cases h),fun _ h=>(by cases h),List.nodup_nil,fun _ h=>(by cases h),fun _ h=>(by cases h),fun i p h=>by simp at h⟩
theorem mQ.reach{n:Nat}{nx:Int→List Int}{P:List (List Int)}(h:mQ n nx P){x y:Int}(hr:Rx nx x y)(hx:∃p∈P,x∈p):∃p∈P,y∈p:=by
 induction hr with
 | refl=>exact hx
 | step _ hc ih =>
  obtain⟨p,hp,hb⟩:=ih
  obtain⟨i,hi⟩:=List.getElem?_of_mem hp
  obtain⟨j,q,_,hq,hy⟩:=h.Ci i p hi _ hb _ hc
  exact⟨q,List.mem_of_getElem? hq,hy⟩
structure TJ(n:Nat)(nx:Int→List Int)(f L:Int→Int)(st:List Int)(aM:Nat)(P:List (List Int))(W:List Int):Prop where
 node:∀x∈st,0≤x∧x<(n:Int)
 inc:st.Pairwise fun x y=>f x<f y
 ov:∀x∈st,1≤f x∧f x≤aM
 sj:∀x:Int,0≤x→x<n→(f x≠0↔x∈st∨∃p∈P,x∈p)
 uq:∀p∈P,∀x∈p,x ∉ st
 len:aM=st.length+P.flatten.length
 sub:W.Sublist st
 top:∀x∈st,∃v∈W,f v≤f x
 tQ:∀v∈W,∀x∈st,f v≤f x→Rx nx v x
 fin:∀x∈st,x ∉ W→(∀y∈nx x,f y≠0)∧∃y∈st,f y<f x∧Rx nx x y
 low:∀v∈W,L v≤f v∧∃y∈st,f y=L v∧Rx nx v y
 vH:∀v∈W,∀x∈st,x ∉ W→f v<f x→(∀u∈W,f u≤f x→f u≤f v)→∀y∈nx x,y∈st→L v≤f y
 prt:mQ n nx P
def Prc(nx:Int→List Int)(f L:Int→Int)(st:List Int)(eS:List (Int×Nat)):Prop:=∀t∈eS,∀y∈(nx t.1).take t.2,f y≠0∧(y∈st→L t.1≤f y)
theorem CE{f:Int→Int}:∀{st:List Int},st.Pairwise (fun x y=>f x<f y)→∀{x y:Int},x∈st→y∈st→f x=f y→x=y
 | [],_,_,_,hx,_,_=>by cases hx
 | a::st,h,x,y,hx,hy,e=>by
  obtain⟨h1,h2⟩:=List.pairwise_cons.1 h
  rcases List.mem_cons.1 hx with e1 | FM
  ·rcases List.mem_cons.1 hy with e2 | BR
   ·rw[e1,e2]
   ·have:=h1 y BR;rw[e1]at e;omega
  ·rcases List.mem_cons.1 hy with e2 | BR
   ·have:=h1 x FM;rw[e2]at e;omega
   ·exact CE h2 FM BR e
theorem pX{f:Int→Int}{st:List Int}(h:st.Pairwise (fun x y=>f x<f y)):st.Nodup:=h.imp fun aR e=>by subst e;omega
theorem wS{f:Int→Int}{st w:List Int}{v:Int}(h:st.Pairwise (fun x y=>f x<f y))(hs:(w++[v]).Sublist st):∀u∈w,f u<f v:=by
 have:=h.sublist hs
 intro u hu
 exact (List.pairwise_append.1 this).2.2 u hu v (List.mem_singleton.2 rfl)
variable {n:Nat} {nx:Int→List Int} {f L:Int→Int} {st:List Int} {aM:Nat} {P:List (List Int)}
theorem TJ.start(h:∀x,f x=0):TJ n nx f L [] 0 [] []:=
 ⟨fun _ h=>(by cases h),.nil,fun _ h=>(by cases h),fun x _ _=>by simp[h],fun _ h=>(by cases h),rfl,.slnil,fun _ h=>(by cases h),fun _ h=>(by cases h),fun _ h=>(by cases h),fun _ h=>(by cases h),fun _ h=>(by cases h),.nil n nx⟩
theorem TJ.enter{W:List Int}{b:Int}(h:TJ n nx f L st aM P W)(hb:0≤b∧b<n)(hf:f b=0)(hW:∀v∈W,Rx nx v b):TJ n nx (lJ f b (aM+1)) (lJ L b (aM+1)) (st++[b]) (aM+1) P (W++[b]):=by
 have fg:b ∉ st:=fun hm=>by have:=h.ov b hm;omega
 have hbW:b ∉ W:=fun hm=>fg (h.sub.subset hm)
 have fH:∀x∈st,lJ f b (aM+1) x=f x:=fun x hx=>lZ fun e=>fg (e▸hx)
 have hL1:∀x∈W,lJ L b (aM+1) x=L x:=fun x hx=>lZ fun e=>hbW (e▸hx)
 have vV:lJ f b (aM+1) b=(aM+1:Nat):=by rw[l0];rfl
 have v7:=h.sub.subset
 refine⟨fun x hx =>?_,?_,fun x hx =>?_,fun x h0 h1 =>?_,fun p hp x hx =>?_,by have:=h.len;rw[List.length_append,List.length_singleton];omega,h.sub.append (.refl _),fun x hx =>?_,fun v hv x hx hle =>?_,fun x hx jb =>?_,fun v hv =>?_,fun v hv x hx jb ab gA y hy ij =>?_,h.prt⟩
 ·rcases List.mem_append.1 hx with hx | hx
  ·exact h.node x hx
  ·rw[List.mem_singleton.1 hx];exact hb
 ·refine List.pairwise_append.2 ⟨h.inc.imp_of_mem fun {x y} hx hy aR =>?_,List.pairwise_singleton ..,fun x hx y hy =>?_⟩
  ·rw[fH x hx,fH y hy];exact aR
  ·rw[List.mem_singleton.1 hy,fH x hx,vV]
   have:=(h.ov x hx).2;omega
 ·rcases List.mem_append.1 hx with hx | hx
  ·rw[fH x hx];have:=h.ov x hx;omega
  ·rw[List.mem_singleton.1 hx,vV];omega
 ·by_cases e:x=b
  ·subst e
   exact⟨fun _=>.inl (List.mem_append_right _ (List.mem_singleton.2 rfl)),fun _=>by rw[vV];omega⟩
  ·rw[lZ e,h.sj x h0 h1,List.mem_append,List.mem_singleton]
   exact or_congr_left ⟨.inl,fun h=>h.resolve_right e⟩
 ·rw[List.mem_append,List.mem_singleton]
  rintro (hm | rfl)
  ·exact h.uq p hp x hx hm
  ·exact ((h.sj x hb.1 hb.2).2 (.inr ⟨p,hp,hx⟩)) hf
 ·rcases List.mem_append.1 hx with hx | hx
  ·obtain⟨v,hv,hle⟩:=h.top x hx
   exact⟨v,List.mem_append_left _ hv,by rw[fH v (v7 hv),fH x hx];exact hle⟩
  ·rw[List.mem_singleton.1 hx]
   exact⟨b,List.mem_append_right _ (List.mem_singleton.2 rfl),Int.le_refl _⟩
 ·rcases List.mem_append.1 hv with hv | hv
  ·rcases List.mem_append.1 hx with hx | hx
   ·rw[fH v (v7 hv),fH x hx]at hle
    exact h.tQ v hv x hx hle
   ·rw[List.mem_singleton.1 hx];exact hW v hv
  ·rw[List.mem_singleton.1 hv]at hle ⊢
   rcases List.mem_append.1 hx with hx | hx
   ·rw[vV,fH x hx]at hle
    have:=(h.ov x hx).2;omega
   ·rw[List.mem_singleton.1 hx];exact .refl _
 ·rw[List.mem_append,List.mem_singleton]at jb
  have hx:x∈st:=by
   rcases List.mem_append.1 hx with hx | hx
   ·exact hx
   ·exact absurd (.inr (List.mem_singleton.1 hx)) jb
  obtain⟨h1,y,hy,h2,h3⟩:=h.fin x hx fun hm=>jb (.inl hm)
  refine⟨fun y hy =>?_,y,List.mem_append_left _ hy,by rw[fH y hy,fH x hx];exact h2,h3⟩
  by_cases e:y=b
  ·subst e;rw[vV];omega
  ·rw[lZ e];exact h1 y hy
 ·rcases List.mem_append.1 hv with hv | hv
  ·obtain⟨h1,y,hy,h2,h3⟩:=h.low v hv
   rw[hL1 v hv,fH v (v7 hv)]
   exact⟨h1,y,List.mem_append_left _ hy,by rw[fH y hy];exact h2,h3⟩
  ·rw[List.mem_singleton.1 hv,l0,l0]
   exact⟨Int.le_refl _,b,List.mem_append_right _ (List.mem_singleton.2 rfl),l0,.refl _⟩
 ·rw[List.mem_append,List.mem_singleton]at jb
  have hx:x∈st:=by
   rcases List.mem_append.1 hx with hx | hx
   ·exact hx
   ·exact absurd (.inr (List.mem_singleton.1 hx)) jb
  rcases List.mem_append.1 hv with hv | hv
  ·rw[hL1 v hv]
   rw[fH v (v7 hv),fH x hx]at ab
   have hyb:y≠b:=fun e=>(h.fin x hx fun hm=>jb (.inl hm)).1 y hy (e▸hf)
   have ij:y∈st:=by
    rcases List.mem_append.1 ij with ij | ij
    ·exact ij
    ·exact absurd (List.mem_singleton.1 ij) hyb
   rw[fH y ij]
   refine h.vH v hv x hx (fun hm=>jb (.inl hm)) ab (fun u hu hle =>?_) y hy ij
   have:=gA u (List.mem_append_left _ hu)
   rw[fH u (v7 hu),fH x hx,fH v (v7 hv)]at this
   exact this hle
  ·rw[List.mem_singleton.1 hv,vV,fH x hx]at ab
   have:=(h.ov x hx).2;omega
theorem TJ.lower{w:List Int}{v z:Int}(h:TJ n nx f L st aM P (w++[v]))(hz:z∈st)(hr:Rx nx v z):TJ n nx f (lJ L v (min (L v) (f z))) st aM P (w++[v]):=by
 have hd:(w++[v]).Nodup:=(pX h.inc).sublist h.sub
 have hvw:v ∉ w:=fun hm=>(List.nodup_append.1 hd).2.2 v hm v (List.mem_singleton.2 rfl) rfl
 refine⟨h.node,h.inc,h.ov,h.sj,h.uq,h.len,h.sub,h.top,h.tQ,h.fin,fun u hu =>?_,fun u hu x hx jb ab gA y hy ij =>?_,h.prt⟩
 ·by_cases e:u=v
  ·subst e
   rw[l0]
   obtain⟨h1,y,hy,h2,h3⟩:=h.low u hu
   refine⟨by omega,?_⟩
   by_cases c:L u≤f z
   ·exact⟨y,hy,by rw[h2];omega,h3⟩
   ·exact⟨z,hz,by omega,hr⟩
  ·rw[lZ e];exact h.low u hu
 ·have:=h.vH u hu x hx jb ab gA y hy ij
  by_cases e:u=v
  ·subst e;rw[l0];omega
  ·rw[lZ e];exact this
theorem TJ.up{w:List Int}{u v:Int}(h:TJ n nx f L st aM P (w++[u]++[v]))(ab:L v<f v)(bH:∀y∈nx v,f y≠0∧(y∈st→L v≤f y)):TJ n nx f (lJ L u (min (L u) (L v))) st aM P (w++[u]):=by
 have hd:(w++[u]++[v]).Nodup:=(pX h.inc).sublist h.sub
 have hvw:v ∉ w++[u]:=fun hm=>(List.nodup_append.1 hd).2.2 v hm v (List.mem_singleton.2 rfl) rfl
 have eb:u ∉ w:=fun hm=>(List.nodup_append.1 (List.nodup_append.1 hd).1).2.2 u hm u (List.mem_singleton.2 rfl) rfl
 have huv:u≠v:=fun e=>hvw (e▸List.mem_append_right _ (List.mem_singleton.2 rfl))
 have oc:=wS h.inc h.sub
 have We:=wS h.inc ((List.sublist_append_left _ _).trans h.sub)
 have BW:u∈w++[u]:=List.mem_append_right _ (List.mem_singleton.2 rfl)
 have vM:v∈w++[u]++[v]:=List.mem_append_right _ (List.mem_singleton.2 rfl)
 have bD:v∈st:=h.sub.subset vM
 have hfuv:f u<f v:=oc u BW
 obtain⟨sw,z,hz,kZ,hzr⟩:=h.low v vM
 refine⟨h.node,h.inc,h.ov,h.sj,h.uq,h.len,(List.sublist_append_left _ _).trans h.sub,fun x hx =>?_,fun a ha=>h.tQ a (List.mem_append_left _ ha),fun x hx jb =>?_,fun a ha =>?_,fun a ha x hx jb bY gA y hy ij =>?_,h.prt⟩
 ·obtain⟨a,ha,hle⟩:=h.top x hx
  rcases List.mem_append.1 ha with ha | ha
  ·exact⟨a,ha,hle⟩
  ·rw[List.mem_singleton.1 ha]at hle
   exact⟨u,BW,by omega⟩
 ·by_cases e:x=v
  ·subst e
   exact⟨fun y hy=>(bH y hy).1,z,hz,by omega,hzr⟩
  ·exact h.fin x hx fun hm=>by
    rcases List.mem_append.1 hm with hm | hm
    ·exact jb hm
    ·exact e (List.mem_singleton.1 hm)
 ·obtain⟨h1,y,hy,h2,h3⟩:=h.low a (List.mem_append_left _ ha)
  by_cases e:a=u
  ·subst e
   rw[l0]
   refine⟨by omega,?_⟩
   by_cases c:L a≤L v
   ·exact⟨y,hy,by omega,h3⟩
   ·exact⟨z,hz,by omega,(h.tQ a (List.mem_append_left _ BW) v bD (by omega)).trans hzr⟩
  ·rw[lZ e];exact⟨h1,y,hy,h2,h3⟩
 ·have hva:∀c,f a≤c→f u≤f a→lJ L u (min (L u) (L v)) a≤L a:=fun c _ _=>by
   by_cases e:a=u
   ·subst e;rw[l0];omega
   ·rw[lZ e];exact Int.le_refl _
  have hle:lJ L u (min (L u) (L v)) a≤L a:=by
   by_cases e:a=u
   ·subst e;rw[l0];omega
   ·rw[lZ e];exact Int.le_refl _
  by_cases vK:f v≤f x
  ·have hau:a=u:=by
    have h1:=gA u BW (by omega)
    by_cases e:a=u
    ·exact e
    ·have:a∈w:=by
      rcases List.mem_append.1 ha with ha | ha
      ·exact ha
      ·exact absurd (List.mem_singleton.1 ha) e
     have:=We a this
     omega
   subst hau
   rw[l0]
   by_cases e:x=v
   ·subst e
    have:=(bH y hy).2 ij
    omega
   ·have aS:f v≠f x:=fun e2=>e (CE h.inc hx bD e2.symm)
    have:=h.vH v vM x hx (fun hm=>by
     rcases List.mem_append.1 hm with hm | hm
     ·exact jb hm
     ·exact e (List.mem_singleton.1 hm)) (by omega) (fun c hc _=>by
      rcases List.mem_append.1 hc with hc | hc
      ·have:=oc c hc;omega
      ·rw[List.mem_singleton.1 hc];exact Int.le_refl _) y hy ij
    omega
  ·have W5:x≠v:=fun e=>by subst e;omega
   have:=h.vH a (List.mem_append_left _ ha) x hx (fun hm=>by
    rcases List.mem_append.1 hm with hm | hm
    ·exact jb hm
    ·exact W5 (List.mem_singleton.1 hm)) bY (fun c hc hcx=>by
     rcases List.mem_append.1 hc with hc | hc
     ·exact gA c hc hcx
     ·rw[List.mem_singleton.1 hc]at hcx;omega) y hy ij
   omega
theorem Iu{v:Int}:∀{st:List Int},st.Pairwise (fun x y=>f x<f y)→v∈st→∃A B,st=A++v::B∧(∀x∈A,f x<f v)∧∀x∈B,f v<f x:=by
 intro st h hv
 obtain⟨A,B,rfl⟩:=List.append_of_mem hv
 obtain⟨h1,h2,h3⟩:=List.pairwise_append.1 h
 exact⟨A,B,rfl,fun x hx=>h3 x hx v (List.mem_cons_self ..),fun x hx=>(List.pairwise_cons.1 h2).1 x hx⟩
theorem TJ.tell{w A B part:List Int}{v:Int}(h:TJ n nx f L st aM P (w++[v]))(ar:st=A++v::B)(heq:L v=f v)(bH:∀y∈nx v,f y≠0∧(y∈st→L v≤f y))(bF:∀x y,y∈nx x→0≤y∧y<n)(hp:part.Perm (v::B))(hs:part.Pairwise (· < ·)):TJ n nx f L A aM (P++[part]) w:=by
 have bC:=pX h.inc
 have oc:=wS h.inc h.sub
 have vM:v∈w++[v]:=List.mem_append_right _ (List.mem_singleton.2 rfl)
 have jF:=h.inc
 rw[ar]at jF
 obtain⟨i1,i2,i3⟩:=List.pairwise_append.1 jF
 have sg:∀x∈A,f x<f v:=fun x hx=>i3 x hx v (List.mem_cons_self ..)
 have BA:∀x∈B,f v<f x:=(List.pairwise_cons.1 i2).1
 have pR:∀x∈A,x∈st:=fun x hx=>by rw[ar];exact List.mem_append_left _ hx
 have sC:∀x∈v::B,x∈st:=fun x hx=>by rw[ar];exact List.mem_append_right _ hx
 have vD:∀x∈v::B,f v≤f x:=fun x hx=>by
  rcases List.mem_cons.1 hx with rfl | hx
  ·exact Int.le_refl _
  ·have:=BA x hx;omega
 have aq:∀x∈st,f v≤f x→x∈v::B:=fun x hx hle=>by
  rw[ar]at hx
  rcases List.mem_append.1 hx with hx | hx
  ·have:=sg x hx;omega
  ·exact hx
 have EE:∀x∈B,x ∉ w++[v]:=fun x hx hm=>by
  have:=BA x hx
  rcases List.mem_append.1 hm with hm | hm
  ·have:=oc x hm;omega
  ·rw[List.mem_singleton.1 hm]at this;omega
 have Bw:∀x∈v::B,∀y∈nx x,y∈v::B∨∃p∈P,y∈p:=fun x hx y hy=>by
  have hv2:f y≠0∧(y∈st→f v≤f y):=by
   rcases List.mem_cons.1 hx with rfl | vL
   ·rw[← heq];exact bH y hy
   ·refine⟨(h.fin x (sC x hx) (EE x vL)).1 y hy,fun ij =>?_⟩
    rw[← heq]
    refine h.vH v vM x (sC x hx) (EE x vL) (BA x vL) (fun u hu _ =>?_) y hy ij
    rcases List.mem_append.1 hu with hu | hu
    ·have:=oc u hu;omega
    ·rw[List.mem_singleton.1 hu];exact Int.le_refl _
  obtain⟨q1,q2⟩:=bF x y hy
  rcases (h.sj y q1 q2).1 hv2.1 with ij | hyp
  ·exact .inl (aq y ij (hv2.2 ij))
  ·exact .inr hyp
 have U8:∀{x y:Int},Rx nx x y→x∈v::B→y∈v::B∨∃p∈P,y∈p:=by
  intro x y hr hx
  induction hr with
  | refl=>exact .inl hx
  | step _ hc ih =>
   rcases ih with ih | ih
   ·exact Bw _ ih _ hc
   ·exact .inr (h.prt.reach (.one hc) ih)
 have Wj:∀(k:Nat) (x:Int),x∈v::B→(f x-f v).toNat≤k→Rx nx x v:=by
  intro k
  induction k with
  | zero =>
   intro x hx hk
   have:=vD x hx
   rw[CE h.inc (sC x hx) (sC v (List.mem_cons_self ..)) (by omega)]
   exact .refl _
  | succ k ih =>
   intro x hx hk
   rcases List.mem_cons.1 hx with rfl | vL
   ·exact .refl _
   ·obtain⟨_,y,hy,ab,hr⟩:=h.fin x (sC x hx) (EE x vL)
    rcases U8 hr hx with FJ | ⟨p,hp,hyp⟩
    ·have:=BA x vL
     exact hr.trans (ih y FJ (by omega))
    ·exact absurd hy (h.uq p hp y hyp)
 have XA:∀x∈v::B,∀y∈v::B,Rx nx x y:=fun x hx y hy=>(Wj _ x hx (Nat.le_refl _)).trans (h.tQ v vM y (sC y hy) (vD y hy))
 have ey:∀x,x∈part↔x∈v::B:=fun x=>hp.mem_iff
 have hwA:w.Sublist A:=by
  have h1:(w++[v]).Sublist (A++v::B):=ar▸h.sub
  have h2:=h1.filter (fun x=>decide (f x<f v))
  have e1:(w++[v]).filter (fun x=>decide (f x<f v))=w:=by
   rw[List.filter_append,List.filter_eq_self.2 fun x hx=>decide_eq_true (oc x hx),List.filter_cons_of_neg (by simp)]
   simp
  have e2:(A++v::B).filter (fun x=>decide (f x<f v))=A:=by
   rw[List.filter_append,List.filter_eq_self.2 fun x hx=>decide_eq_true (sg x hx),List.filter_eq_nil_iff.2 fun x hx=>by
    have:=vD x hx
    rw[decide_eq_true_eq];omega]
   simp
  rw[e1,e2]at h2
  exact h2
 have LP:(P++[part]).flatten=P.flatten++part:=by rw[List.flatten_append];simp
 refine⟨fun x hx=>h.node x (pR x hx),i1,fun x hx=>h.ov x (pR x hx),fun x h0 h1 =>?_,fun p cg x hx hxA =>?_,?_,hwA,fun x hx =>?_,fun a ha x hx=>h.tQ a (List.mem_append_left _ ha) x (pR x hx),fun x hx jb =>?_,fun a ha =>?_,fun a ha x hx jb ab gA y hy ij =>?_,⟨fun p cg =>?_,fun p cg x hx =>?_,?_,fun p cg =>?_,fun p cg x hx y hy =>?_,fun i p hi x hx y hy =>?_⟩⟩
 ·rw[h.sj x h0 h1,ar,List.mem_append]
  constructor
  ·rintro ((hx | hx) | ⟨p,cg,hx⟩)
   ·exact .inl hx
   ·exact .inr ⟨part,List.mem_append_right _ (List.mem_singleton.2 rfl),(ey x).2 hx⟩
   ·exact .inr ⟨p,List.mem_append_left _ cg,hx⟩
  ·rintro (hx | ⟨p,cg,hx⟩)
   ·exact .inl (.inl hx)
   ·rcases List.mem_append.1 cg with cg | cg
    ·exact .inr ⟨p,cg,hx⟩
    ·rw[List.mem_singleton.1 cg]at hx
     exact .inl (.inr ((ey x).1 hx))
 ·rcases List.mem_append.1 cg with cg | cg
  ·exact h.uq p cg x hx (pR x hxA)
  ·rw[List.mem_singleton.1 cg]at hx
   have:=vD x ((ey x).1 hx)
   have:=sg x hxA
   omega
 ·have h1:=h.len
  have h2:=hp.length_eq
  have h3:=congrArg List.length ar
  rw[List.length_append]at h3
  rw[LP,List.length_append];omega
 ·obtain⟨a,ha,hle⟩:=h.top x (pR x hx)
  rcases List.mem_append.1 ha with ha | ha
  ·exact⟨a,ha,hle⟩
  ·rw[List.mem_singleton.1 ha]at hle
   have:=sg x hx;omega
 ·have vK:x ∉ w++[v]:=fun hm=>by
   rcases List.mem_append.1 hm with hm | hm
   ·exact jb hm
   ·have:=sg x hx
    rw[List.mem_singleton.1 hm]at this;omega
  obtain⟨h1,y,hy,h2,h3⟩:=h.fin x (pR x hx) vK
  refine⟨h1,y,?_,h2,h3⟩
  have:=sg x hx
  rw[ar]at hy
  rcases List.mem_append.1 hy with hy | hy
  ·exact hy
  ·have:=vD y hy;omega
 ·obtain⟨h1,y,hy,h2,h3⟩:=h.low a (List.mem_append_left _ ha)
  refine⟨h1,y,?_,h2,h3⟩
  have:=oc a ha
  rw[ar]at hy
  rcases List.mem_append.1 hy with hy | hy
  ·exact hy
  ·have:=vD y hy;omega
 ·have vK:x ∉ w++[v]:=fun hm=>by
   rcases List.mem_append.1 hm with hm | hm
   ·exact jb hm
   ·have:=sg x hx
    rw[List.mem_singleton.1 hm]at this;omega
  refine h.vH a (List.mem_append_left _ ha) x (pR x hx) vK ab (fun u hu hle =>?_) y hy (pR y ij)
  rcases List.mem_append.1 hu with hu | hu
  ·exact gA u hu hle
  ·rw[List.mem_singleton.1 hu]at hle
   have:=sg x hx;omega
 ·rcases List.mem_append.1 cg with cg | cg
  ·exact h.prt.ne p cg
  ·rw[List.mem_singleton.1 cg]
   exact List.ne_nil_of_mem ((ey v).2 (List.mem_cons_self ..))
 ·rcases List.mem_append.1 cg with cg | cg
  ·exact h.prt.node p cg x hx
  ·rw[List.mem_singleton.1 cg]at hx
   exact h.node x (sC x ((ey x).1 hx))
 ·rw[LP]
  refine List.nodup_append.2 ⟨h.prt.nd,hs.imp fun h=>by omega,fun x hx y hy e =>?_⟩
  subst e
  obtain⟨p,cg,nt⟩:=List.mem_flatten.1 hx
  exact h.uq p cg x nt (sC x ((ey x).1 hy))
 ·rcases List.mem_append.1 cg with cg | cg
  ·exact h.prt.vG p cg
  ·rw[List.mem_singleton.1 cg];exact hs
 ·rcases List.mem_append.1 cg with cg | cg
  ·exact h.prt.GC p cg x hx y hy
  ·rw[List.mem_singleton.1 cg]at hx hy
   exact XA x ((ey x).1 hx) y ((ey y).1 hy)
 ·by_cases ab:i<P.length
  ·rw[List.getElem?_append_left ab]at hi
   obtain⟨j,q,h1,h2,h3⟩:=h.prt.Ci i p hi x hx y hy
   exact⟨j,q,h1,by rw[List.getElem?_append_left (by omega)];exact h2,h3⟩
  ·have hip:i=P.length∧p=part:=by
    rw[List.getElem?_append_right (by omega)]at hi
    by_cases e:i-P.length=0
    ·rw[e]at hi
     exact⟨by omega,(Option.some.inj hi).symm⟩
    ·rw[List.getElem?_eq_none (by rw[List.length_singleton];omega)]at hi;cases hi
   obtain⟨rfl,rfl⟩:=hip
   rcases Bw x ((ey x).1 hx) y hy with FJ | ⟨q,hq,hyq⟩
   ·exact⟨P.length,p,Nat.le_refl _,by rw[List.getElem?_append_right (Nat.le_refl _),Nat.sub_self];rfl,(ey y).2 FJ⟩
   ·obtain⟨j,hj⟩:=List.getElem?_of_mem hq
    have qZ:j<P.length:=(List.getElem?_eq_some_iff.1 hj).1
    exact⟨j,q,by omega,by rw[List.getElem?_append_left qZ];exact hj,hyq⟩
theorem TJ.empty(h:TJ n nx f L st aM P []):st=[]:=by
 cases st with
 | nil=>rfl
 | cons x st =>
  obtain⟨v,hv,_⟩:=h.top x (List.mem_cons_self ..)
  cases hv
theorem TJ.first{v:Int}(h:TJ n nx f L st aM P [v]):L v=f v:=by
 obtain⟨h1,y,hy,h2,_⟩:=h.low v (List.mem_singleton.2 rfl)
 obtain⟨u,hu,h3⟩:=h.top y hy
 rw[List.mem_singleton.1 hu]at h3
 omega
end Go.Proofs.YtnpidbjdilnhlaaGreat
