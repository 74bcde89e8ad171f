import Derived.Test.YtnpidbjdilnhlaaGreatBn52
import Derived.Below
import Derived.ChangeOld
import Derived.OpenShut
import Derived.ProofKit
import Derived.Test.YtnpidbjdilnhlaaGreatRows
import Derived.WalkKit
import Derived.Test.YtnpidbjdilnhlaaGreatBn11
namespace Go.Proofs.YtnpidbjdilnhlaaGreat
open Go.RowKit
set_option maxRecDepth 100000
set_option maxHeartbeats 4000000
def mO(h n:Nat)(x y:List Int):Prop:=n≤x.length∧n≤y.length∧∀a,a<n→x.getD a 0=y.getD a 0∨h≤a∧y.getD a 0=0
theorem mO.set{h n:Nat}{x y:List Int}(H:mO h n x y)(i:Nat)(z:Int):mO h n (x.set i z) (y.set i z):=by
 obtain⟨h1,h2,h3⟩:=H
 refine⟨by rw[List.length_set];exact h1,by rw[List.length_set];exact h2,fun a ha =>?_⟩
 by_cases e:a=i
 ·subst e
  left
  rw[uX _ _ _ _ (by omega),uX _ _ _ _ (by omega),if_pos rfl,if_pos rfl]
 ·rw[kD _ _ _ _ e,kD _ _ _ _ e];exact h3 a ha
theorem mO.fA{h n:Nat}{x y:List Int}(H:mO h n x y)(b r:Nat)(l:List Int):∀k,mO h n (fA b r l x k) (fA b r l y k)
 | 0=>H
 | k+1=>(mO.fA H b r l k).set _ _
theorem mO.fS{h n:Nat}{x y:List Int}(H:mO h n x y)(b0 d r:Nat)(ls:List (List Int)):∀k,mO h n (fS b0 d r ls x k) (fS b0 d r ls y k)
 | 0=>H
 | k+1=>(((mO.fS H b0 d r ls k).set _ _).set _ _).fA _ _ _ _
theorem R6{N W:Nat}{st:Nat→List Int}{x y:List Int}(hx:N*W+N<x.length)(hy:N*W+N<y.length){a:Nat}(ha:a<N*W+N+1):((gq N W st x N).set (N*W+N) (N:Int)).getD a 0=((gq N W st y N).set (N*W+N) (N:Int)).getD a 0:=by
 by_cases e:a=N*W+N
 ·subst e
  rw[uX _ _ _ _ (by rw[pV];exact hx),uX _ _ _ _ (by rw[pV];exact hy),if_pos rfl,if_pos rfl]
 rw[kD _ _ _ _ e,kD _ _ _ _ e]
 by_cases e2:N*W≤a
 ·obtain⟨v,rfl⟩:∃v,a=N*W+v:=⟨a-N*W,by omega⟩
  rw[CH _ (Nat.le_refl _) (by omega) (by omega),CH _ (Nat.le_refl _) (by omega) (by omega)]
 ·have hW:0<W:=by
   rcases Nat.eq_zero_or_pos W with h | h
   ·rw[h,Nat.mul_zero]at e2;omega
   ·exact h
  have h1:a / W*W+a % W=a:=by rw[Nat.mul_comm];exact Nat.div_add_mod a W
  have h2:=Nat.mod_lt a hW
  have h3:a / W<N:=(Nat.div_lt_iff_lt_mul hW).2 (by omega)
  rw[← h1,C8 h2 _ (Nat.le_refl _) h3 (by omega),C8 h2 _ (Nat.le_refl _) h3 (by omega)]
section
variable {s:Sy} {l:Lay} (hs:LS s l)
include hs
theorem JG{n:Nat}(hn:cN l≤n):mO (nN s*nW l+nN s+1) (cN l) (jV s l (List.replicate n 77)) (cP s l):=by
 have pC:=hs.low
 unfold cP jV tp
 refine mO.fS ⟨by rw[List.length_set,pV,List.length_replicate];exact hn,by rw[List.length_set,pV,List.length_replicate];exact Nat.le_refl _,fun a ha =>?_⟩ _ _ _ _ _
 by_cases e:a<nN s*nW l+nN s+1
 ·exact .inl (R6 (by rw[List.length_replicate];omega) (by rw[List.length_replicate];omega) e)
 ·refine .inr ⟨by omega,?_⟩
  rw[kD _ _ _ _ (by omega),CI (by omega) _ (Nat.le_refl _),List.getD_eq_getElem?_getD,List.getElem?_replicate]
  split <;> rfl
theorem Qe{n a:Nat}(ha:cN l≤a)(hn:a<n):(jV s l (List.replicate n 77)).getD a 0=77:=by
 obtain⟨m,hm,B3,ny⟩:=hs.kk
 have nD:=hs.qv ny
 have h1:cN l=nN s*nW l+nN s+1+m*(nN s+3):=by unfold cN;rw[hm,nD];omega
 unfold jV
 rw[Qi (by rw[Ct,hm];show _+(m:Int).toNat*_≤a;rw[Int.toNat_natCast];omega),List.getD_eq_getElem?_getD,List.getElem?_replicate,if_pos hn];rfl
theorem C4(ws:List Int):gW l ws (nN s)=A0 s l ws:=by
 unfold gW A0 gZ
 refine List.map_congr_left fun v hv=>List.map_congr_left fun i hi =>?_
 rw[hs.Bd (List.mem_range.1 hv) (List.mem_range.1 hi),kE]
theorem OV{n:Nat}(hn:cN l≤n):gW l (jV s l (List.replicate n 77)) (nN s)=gW l (cP s l) (nN s):=by
 rw[C4 hs,C4 hs]
 have pC:=hs.low
 have hso:=JG hs hn
 refine List.map_congr_left fun v hv=>List.map_congr_left fun i hi =>?_
 have:=uO (List.mem_range.1 hv) (List.mem_range.1 hi)
 rcases hso.2.2 (v*nW l+i) (by omega) with h | h
 ·exact h
 ·omega
end
theorem VY{α:Type}(fr σ:List α)(x y:α):(fr++x::σ).set fr.length y=fr++y::σ:=by simp
theorem V0(n t:Nat)(h:t<n):(List.replicate t (77:Int)++List.replicate (n-t) 0).set t 77=List.replicate (t+1) 77++List.replicate (n-(t+1)) 0:=by
 rw[show n-t=(n-(t+1))+1 by omega,List.replicate_succ]
 have:(List.replicate t (77:Int)++0::List.replicate (n-(t+1)) 0).set (List.replicate t (77:Int)).length 77=List.replicate t 77++77::List.replicate (n-(t+1)) 0:=VY _ _ _ _
 rw[List.length_replicate]at this
 rw[this,List.replicate_succ',List.append_assoc];rfl
theorem V6{k:Int}{s:Sy}(h:cb s k=0):∃n:Nat,k=n∧1≤n∧n≤64:=by
 have:=(Aa h).2
 exact⟨k.toNat,by omega,by omega,by omega⟩
theorem MY(s:Sy)(k size:Int)(hi:bJ s.init)(ht:∀t∈s.T,bJ t.1∧bJ t.2.1):ACalls Tryz.prog 3 [.agg (bg s),.int .i64 k,.int .i64 size] [] (fun r _=>r=.bool true):=by
 refine okF Tryz.func3 (by kernel_rfl) ?_
 intro b3
 refine az [] (SE _) ?_
 refine aa.mk 0 _ _ rfl rfl ?_
 refine Wr [] (Sf s _) (fun mE =>?_) ?_
 rotate_left
 ·exact .done rfl
 have hf:=Vf mE hi ht
 refine an (p:=1000<size) (fun h1 =>?_) (fun h1 =>?_)
 ·exact .done rfl
 obtain⟨k',dN⟩:∃x,x=(if 6<k then 6 else k):=⟨_,rfl⟩
 refine aa.mk 0 _ _ rfl rfl ?_
 have hO:=fun σ=>VB s k' σ hf
 have Cc:=fun (he:¬cb s k'=0) p q ws σ=>Su s k' p q ws σ hf he
 have hFf:=fun (he:cb s k'=0) p q ws σ hl=>Ss s k' p q ws σ hf he hl
 rw[dN]at hO
 refine az [] (hO _) ?_
 intro b7
 refine ai.mk 0 _ _ rfl rfl ?_
 (refine .mk [] _ (MP _ _) ?_;rintro _ _ ⟨p,q,rfl,rfl⟩)
 have e8:jG size≤1000:=by unfold jG;omega
 generalize jG size=n0 at e8
 obtain⟨us,ep⟩:∃us,List.replicate n0 (0:Int)=us:=⟨_,rfl⟩
 have cO:us.length=n0:=by rw[← ep];exact List.length_replicate
 rw[ep,← cO]
 refine az [] (qL p q us _) ?_
 have ar:∀t,t≤n0→(List.replicate t (77:Int)++List.replicate (n0-t) 0).length=n0:=fun t ht=>by rw[List.length_append,List.length_replicate,List.length_replicate];omega
 refine aU (S:=Nat) (fun t=>[(1,.int .i64 (if 6<k then 6 else k)),(3,.ptr b3 0),(7,.ptr b7 0),(8,.int .i64 (cb s (if 6<k then 6 else k))),(9,.ptr p 0),(39,.int .i64 us.length),(40,.int .i64 t)])
  (fun t=>aY p q (List.replicate t (77:Int)++List.replicate (n0-t) 0) ((b7,lO s (if 6<k then 6 else k))::(b3,bg s)::[])) (fun t=>t≤n0) (fun t=>n0-t) 0 ⟨Nat.zero_le _,⟨rfl,rfl,rfl,rfl,rfl,rfl,rfl,trivial⟩,by
   show (p,ns q us.length)::(q,aL us)::_=(p,ns q (List.replicate 0 (77:Int)++List.replicate (n0-0) 0).length)::(q,aL (List.replicate 0 (77:Int)++List.replicate (n0-0) 0))::_
   rw[show List.replicate 0 (77:Int)++List.replicate (n0-0) 0=us by rw[Nat.sub_zero,ep];rfl];rfl⟩ ?_
 intro t g eV
 have ht1:t≤n0:=eV
 clear eV
 refine an (p:=(t:Int)<(us.length:Int)) (fun ab =>?_) (fun aq =>?_)
 ·have ab:t<n0:=by omega
  refine az [] (aStore p q _ _ _ _) ?_
  exact aH (t+1) (by show n0-(t+1)<n0-t;omega) ab ⟨rfl,rfl,rfl,rfl,rfl,rfl,aI (by omega),trivial⟩ (aF (congrArg (fun z=>aY p q z _) ((jn _).trans (V0 n0 t ab))))
 have aq:t=n0:=by omega
 subst aq
 obtain⟨ws,hws⟩:∃ws,List.replicate t (77:Int)++List.replicate (t-t) 0=ws:=⟨_,rfl⟩
 have Bs:ws=List.replicate t 77:=by rw[← hws,Nat.sub_self];exact List.append_nil _
 have oy:ws.length=t:=by rw[Bs];exact List.length_replicate
 rw[hws]
 refine aa.mk 3 _ _ rfl rfl ?_
 have h77:¬(ws.length:Int)=0→fM ws 0=77:=fun h=>by
  have e:fM ws ((0:Nat):Int)=ws.getD 0 0:=kE
  refine Eq.trans e ?_
  rw[Bs,List.getD_eq_getElem?_getD,List.getElem?_replicate,if_pos (by omega)];rfl
 by_cases he:cb s k'=0
 rotate_left
 ·have Cc:=Cc he
  rw[dN]at Cc he
  refine az [] (Cc p q ws _) ?_
  refine bS (fun c1 =>?_) (fun c1=>absurd (by simpa using c1) he)
  refine an (fun _ =>?_) (fun c=>absurd rfl c)
  refine az [] (qL p q ws _) ?_
  refine an (p:=(ws.length:Int)=0) (fun c2 =>?_) (fun c2 =>?_)
  ·exact .done rfl
  ·refine az [] (aLoad p q ws 0 _) ?_
   refine an (p:=fM ws 0=77) (fun c3 =>?_) (fun c3=>absurd (h77 c2) c3)
   exact .done rfl
 obtain⟨n,hn,su,pK⟩:=V6 he
 have B8:=he
 rw[hn]at B8
 obtain⟨hs,yY⟩:=A2 hf B8
 obtain⟨l,hl⟩:∃l,eP s n=l:=⟨_,rfl⟩
 have B5:lO s (if 6<k then 6 else k)=de l:=by rw[← dN,hn,← hl];rfl
 obtain⟨z0,ja⟩:∃z:Int,0=z:=⟨0,rfl⟩
 obtain⟨z6,hz6⟩:∃z:Int,6=z:=⟨6,rfl⟩
 have hOk:cN l≤ws.length→∀σ,ACalls Tryz.prog 15 [gx p,.agg (bg s),.int .i64 (if 6<k then 6 else k)] (aY p q ws σ) (fun r σ'=>r=.int .i64 z0∧σ'=aY p q (jV s l ws) σ∧iz s l):=fun h σ=>by
  have:=KG s n p q ws σ hf B8 (by rw[hl];exact h)
  rw[hl,ja]at this
  rw[← dN,hn]
  exact this
 have XF:(ws.length:Int)<dC l l.k→∀σ,ACalls Tryz.prog 15 [gx p,.agg (bg s),.int .i64 (if 6<k then 6 else k)] (aY p q ws σ) (aB (.int .i64 z6) (aY p q ws σ)):=fun h σ=>by
  have:=hFf he p q ws σ (by rw[hn,hl];exact h)
  rw[hz6,dN]at this
  exact this
 have hS:∀σ,ACalls Tryz.prog 17 [.agg (lO s (if 6<k then 6 else k))] σ (aB (.int .i64 (dC l l.k)) σ):=fun σ=>by rw[B5];exact KC l σ
 rw[hl]at hs
 obtain⟨Xb,Xa,Ml⟩:=hs.size
 have yM:cb s (if 6<k then 6 else k)=0:=by rw[← dN];exact he
 by_cases cS:cN l≤ws.length
 rotate_left
 ·refine az [] (XF (by omega) _) ?_
  refine bS (fun c1=>absurd yM (by simpa using c1)) (fun _ =>?_)
  refine .quiet (by kernel_rfl) ?_
  refine aJ [] (qL p q ws _) ?_
  refine aa.mk 2 _ _ rfl rfl ?_
  refine aJ [] (hS _) ?_
  refine an (p:=(ws.length:Int)<dC l l.k) (fun _ =>?_) (fun c=>absurd (by omega) c)
  refine an (p:=z6=6) (fun _ =>?_) (fun c=>absurd hz6.symm c)
  refine az [] (qL p q ws _) ?_
  refine an (p:=(ws.length:Int)=0) (fun c2 =>?_) (fun c2 =>?_)
  ·exact .done rfl
  ·refine az [] (aLoad p q ws 0 _) ?_
   refine an (p:=fM ws 0=77) (fun c3 =>?_) (fun c3=>absurd (h77 c2) c3)
   exact .done rfl
 (refine .mk [] _ (hOk cS _) ?_;rintro _ _ ⟨rfl,rfl,bR⟩)
 have fy:(jV s l ws).length=ws.length:=GW _ _ _ _ _
 have Mz:∀a,a<ws.length→(a<cN l→(jV s l ws).getD a 0=(cP s l).getD a 0∨nN s*nW l+nN s+1≤a∧(cP s l).getD a 0=0)∧(cN l≤a→(jV s l ws).getD a 0=77):=fun a ha=>by
  rw[Bs]
  exact⟨fun h=>(JG hs (by omega)).2.2 a h,fun h=>Qe hs h (by omega)⟩
 have EC:gW l (jV s l ws) (nN s)=gW l (cP s l) (nN s):=by rw[Bs];exact OV hs (by omega)
 generalize jV s l ws=fs at fy Mz EC
 refine bS (fun c1=>absurd yM (by simpa using c1)) (fun _ =>?_)
 refine .quiet (by kernel_rfl) ?_
 refine aJ [] (qL p q fs _) ?_
 refine aa.mk 2 _ _ rfl rfl ?_
 refine aJ [] (hS _) ?_
 refine an (p:=(fs.length:Int)<dC l l.k) (fun c=>absurd c (by omega)) (fun _ =>?_)
 have hRF:∀σ,ACalls Tryz.prog 18 [.agg (bg s),.agg (lO s (if 6<k then 6 else k))] σ (fun r σ'=>∃m q,r=.ptr m 0∧σ'=fF m q (cP s l) σ∧(cP s l).length=cN l):=fun σ=>by rw[B5];exact Us s l σ hs bR
 refine aa.mk 3 _ _ rfl rfl ?_
 refine aa.mk 2 _ _ rfl rfl ?_
 (refine .mk [] _ (hRF _) ?_;rintro _ _ ⟨m,q2,rfl,rfl,mG⟩)
 refine az [3,3] (X3 p q fs _ (by omega)) ?_
 refine aa.mk 5 _ _ rfl rfl ?_
 have hnn:=hs.nn
 have vR:l.n=(nN s:Int):=by have:=hs.n;omega
 have hLO:∀σ,ACalls Tryz.prog 20 [.agg (bg s),.int .i64 (if 6<k then 6 else k)] σ (aB (.tup [.agg (de l),.int .i64 z0]) σ):=fun σ=>by
  have:=vb s n σ hf
  rw[hl,B8,ja]at this
  rw[← dN,hn]
  exact this
 have hG:∀σ,ACalls Tryz.prog 23 [.ptr m 0,.agg (lO s (if 6<k then 6 else k))] (fF m q2 (cP s l) σ) (aB (.af (.slice (.int .u64)) (gW l (cP s l) (nN s))) (fF m q2 (cP s l) σ)):=fun σ=>by rw[B5];exact Uq m q2 (nN s) l _ σ vR (by omega)
 have hD:∀σ,ACalls Tryz.prog 24 [.agg (lO s (if 6<k then 6 else k)),.int .i64 0] σ (aB (.int .i64 (dC l 0)) σ):=fun σ=>by rw[B5];exact Dx l 0 σ
 have Gb:dC l 0=((nN s*nW l+nN s+1:Nat):Int):=by have:=hs.qv (k:=0) (by omega);rw[Nat.zero_mul]at this;exact this
 have hvv:=(Oh hs (Kn hs bR).2).ok hs.kr
 rw[← C4 hs,← EC]at hvv
 refine az [] (hLO _) ?_
 intro b14
 refine ai.mk 0 _ _ rfl rfl ?_
 refine .quiet (by kernel_rfl) ?_
 refine bS (fun c=>absurd ja.symm (by simpa using c)) (fun _ =>?_)
 refine aa.mk 0 _ _ rfl rfl ?_
 refine aJ [2,2] (CM p q l (nN s) fs _ vR (by omega)) ?_
 refine aa.mk 5 _ _ rfl rfl ?_
 refine aJ [4,4] (hG _) ?_
 refine aJ [] (s4 (Sl _ _ _ hvv) (bz (decide_eq_true EC))) ?_
 refine aU (S:=Nat) (fun i=>[(7,.ptr b7 0),(12,.ptr m 0),(109,.af (.int .u64) fs),(110,.int .i64 fs.length),(111,.int .i64 i)]) (fun _=>(b14,de l)::aY p q fs (fF m q2 (cP s l) [(b7,lO s (if 6<k then 6 else k)),(b3,bg s)])) (fun i=>i≤fs.length) (fun i=>fs.length-i) 0 ⟨Nat.zero_le _,⟨rfl,rfl,rfl,rfl,rfl,trivial⟩,rfl⟩ ?_
 intro i g2 cY
 have hi:i≤fs.length:=cY
 clear cY
 refine an (p:=(i:Int)<(fs.length:Int)) (fun ab =>?_) (fun aq =>?_)
 rotate_left
 ·exact .done rfl
 have ab:i<fs.length:=by omega
 obtain⟨x,hx⟩:∃x,fs[i]=x:=⟨_,rfl⟩
 have yy:fs.getD i 0=x:=by rw[List.getD_eq_getElem?_getD,List.getElem?_eq_getElem ab,hx];rfl
 obtain⟨c1,c2⟩:=Mz i (by omega)
 rw[yy]at c1 c2
 refine ah.mk rfl (aT.mk x (by omega) ((get_some ab).trans (congrArg some hx)) ?_)
 refine aa.mk 5 _ _ rfl rfl ?_
 refine az [] (hS _) ?_
 refine an (p:=dC l l.k≤(i:Int)) (fun Xy =>?_) (fun EF =>?_)
 ·have W6:x=77:=c2 (by omega)
  refine aa.mk 5 _ _ rfl rfl ?_
  refine az [] (hS _) ?_
  refine an (p:=dC l l.k≤(i:Int)) (fun _ =>?_) (fun c=>absurd Xy c)
  refine bS (fun c=>absurd W6 (by simpa using c)) (fun _ =>?_)
  exact aH (i+1) (by show fs.length-(i+1)<fs.length-i;omega) ab ⟨rfl,rfl,rfl,rfl,aI (by omega),trivial⟩ (.refl _)
 ·have c1:=c1 (by omega)
  rw[A7 (cP s l)]at c1
  have mJ:i<(cP s l).length:=by omega
  refine aa.mk 5 _ _ rfl rfl ?_
  refine az [] (hD _) ?_
  refine an (p:=dC l 0≤(i:Int)) (fun ue =>?_) (fun ue =>?_)
  ·refine aa.mk 3 _ _ rfl rfl ?_
   refine ah.mk ⟨rfl,by omega,by omega⟩ ?_
   refine aa.mk 4 _ _ rfl (vr mJ rfl) ?_
   refine an (p:=wd (cP s l) i=0) (fun yA =>?_) (fun yA =>?_)
   ·refine aa.mk 5 _ _ rfl rfl ?_
    refine az [] (hS _) ?_
    refine an (p:=dC l l.k≤(i:Int)) (fun c=>absurd c EF) (fun _ =>?_)
    exact aH (i+1) (by show fs.length-(i+1)<fs.length-i;omega) ab ⟨rfl,rfl,rfl,rfl,aI (by omega),trivial⟩ (.refl _)
   ·have FK:x=wd (cP s l) i:=c1.resolve_right fun h=>yA h.2
    refine aa.mk 3 _ _ rfl rfl ?_
    refine ah.mk ⟨rfl,by omega,by omega⟩ ?_
    refine aa.mk 4 _ _ rfl (vr mJ rfl) ?_
    refine bS (fun c=>absurd FK (by simpa using c)) (fun _ =>?_)
    refine aa.mk 5 _ _ rfl rfl ?_
    refine az [] (hS _) ?_
    refine an (p:=dC l l.k≤(i:Int)) (fun c=>absurd c EF) (fun _ =>?_)
    exact aH (i+1) (by show fs.length-(i+1)<fs.length-i;omega) ab ⟨rfl,rfl,rfl,rfl,aI (by omega),trivial⟩ (.refl _)
  ·have FK:x=wd (cP s l) i:=c1.resolve_right fun h=>by omega
   refine aa.mk 3 _ _ rfl rfl ?_
   refine ah.mk ⟨rfl,by omega,by omega⟩ ?_
   refine aa.mk 4 _ _ rfl (vr mJ rfl) ?_
   refine bS (fun c=>absurd FK (by simpa using c)) (fun _ =>?_)
   refine aa.mk 5 _ _ rfl rfl ?_
   refine az [] (hS _) ?_
   refine an (p:=dC l l.k≤(i:Int)) (fun c=>absurd c EF) (fun _ =>?_)
   exact aH (i+1) (by show fs.length-(i+1)<fs.length-i;omega) ab ⟨rfl,rfl,rfl,rfl,aI (by omega),trivial⟩ (.refl _)
end Go.Proofs.YtnpidbjdilnhlaaGreat
namespace Go.Proofs.YtnpidbjdilnhlaaGreat
open Go.ChangeShapes Go.WideShapes Go.ChangeAt Go.RowKit
theorem eG{a b:Bool}(ha:a=true)(hb:b=true):(a && b)=true:=by rw[ha,hb];rfl
theorem Cg:laidOutB Tryz.prog=true:=by kernel_rfl
theorem fk3:mapsRowed Tryz.prog=true:=by kernel_rfl
theorem fk7:(Tryz.prog.stops == [])=true:=by kernel_rfl
theorem fk9:(Tryz.prog.stopKnobs == [])=true:=by kernel_rfl
theorem XR:(Rows.solveFillsRow.plainKeys == Tryz.prog.plainKeys)=true:=by kernel_rfl
theorem XQ:Tryz.prog.stopsHeard=true:=by kernel_rfl
theorem XP:Tryz.prog.mayEnter=true:=by kernel_rfl
theorem XO:(Rows.solveFillsRow.lifted == Tryz.prog.liftsFinal)=true:=by kernel_rfl
theorem XN:(Tryz.prog.make == some Rows.solveFillsRow.make)=true:=by kernel_rfl
theorem XL:ownKnob Tryz.prog.godebug=none:=by kernel_rfl
end Go.Proofs.YtnpidbjdilnhlaaGreat
namespace Go.Proofs.YtnpidbjdilnhlaaGreat
open Go.RowKit
theorem va{F:Nat→Prop}{w:World}{x:AV}{xs:List AV}{v:Value}{vs:List Value}(h:aA F w x v)(t:fO F w xs vs.toArray):fO F w (x::xs) (v::vs).toArray:=by
 refine⟨by have:=t.1;simp at this ⊢;exact this,fun i y hy =>?_⟩
 cases i with
 | zero=>simp at hy;subst hy;simpa [Array.getD]using h
 | succ i =>
  have:=t.2 i y (by simpa using hy)
  rw[Array.getD_eq_getD_getElem?]at this ⊢
  simpa using this
theorem vn{F:Nat→Prop}{w:World}:fO F w [] ([]:List Value).toArray:=⟨rfl,fun i y hy=>by simp at hy⟩
theorem vi{F:Nat→Prop}{w:World}{k:IntKind}{n:Int}:aA F w (.int k n) (.int k n):=.int k n
theorem vg{w:World}{s:Sh}{cs:Array Value}{d:s.T}(hp:s.pos=true)(h:Reads w s (Value.agg cs).cells.toList d):aA (fun b=>b<w.heap.size) w (.agg (s.cells d)) (.agg cs):=by
 obtain⟨h1,h2⟩:=iA.cells s _ d (Qb s _ d hp h)
 refine .agg _ _ (by rw[h1];rfl) (fun i x hx=>(h2 i x hx).1) (fun i x hx =>?_)
 have:=(h2 i x hx).2
 rw[List.getD_eq_getElem?_getD,Array.getElem?_toList,← Array.getD_eq_getD_getElem?]at this
 exact this
theorem Hx{w:World}{e:Sh}{cs:List Value}{l:List e.T}(h:Reads w (.slice e) cs l):∀x∈l,∃cs',Reads w e cs' x:=by
 obtain⟨a,c,_,_,_,_,h3⟩:=h
 intro x hx
 obtain⟨i,hi,rfl⟩:=List.mem_iff_getElem.1 hx
 obtain⟨b,o,_,h4⟩:=h3 (List.ne_nil_of_mem hx)
 obtain⟨cs',_,_,h5⟩:=h4 i hi
 exact⟨cs',h5⟩
theorem CS{w:World}{cs:List Value}{l:List Int}(h:Reads w (.slice (.int .u64)) cs l):∀z∈l,0≤z∧z<18446744073709551616:=fun z hz=>by
 obtain⟨cs',h1,h2⟩:=Hx h z hz
 exact wf_u64 h2
theorem NJ{w:World}{e:Sh}{cs:List Value}{x:List Int×List Int×e.T×Unit}(h:Reads w (.field (.slice (.int .u64)) (.field (.slice (.int .u64)) (.field e .nil))) cs x):(∀z∈x.1,0≤z∧z<18446744073709551616)∧(∀z∈x.2.1,0≤z∧z<18446744073709551616):=by
 obtain⟨c1,c2,_,_,h1,d1,d2,_,_,h2,_⟩:=h
 exact⟨CS h1,CS h2⟩
theorem H8{w:World}{c1 e1:Sh}{cs:List Value}{x:Int×Int×Int×c1.slice.T×List Int×List Int×List (List Int×List Int×e1.T×Unit)×Unit}(h:Reads w (.field (.int .i64) (.field (.int .i64) (.field (.int .i64) (.field (.slice c1) (.field (.slice (.int .i64)) (.field (.slice (.int .u64)) (.field (.slice (.field (.slice (.int .u64)) (.field (.slice (.int .u64)) (.field e1 .nil)))) .nil))))))) cs x):(∀z∈x.2.2.2.2.2.1,0≤z∧z<18446744073709551616)∧∀t∈x.2.2.2.2.2.2.1,(∀z∈t.1,0≤z∧z<18446744073709551616)∧(∀z∈t.2.1,0≤z∧z<18446744073709551616):=by
 obtain⟨_,_,_,_,_,_,_,_,_,_,_,_,_,_,_,_,_,_,_,_,_,_,_,_,_,_,_,_,_,h6,_,_,_,_,h7,_⟩:=h
 refine⟨CS h6,fun t ht =>?_⟩
 obtain⟨cs',h1⟩:=Hx h7 t ht
 exact NJ h1
end Go.Proofs.YtnpidbjdilnhlaaGreat
