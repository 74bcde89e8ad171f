import Derived.Test.YtnikdflhefijbaaGreatBs7
import Derived.Test.YtnikdflhefijbaaGreatBs20
import Derived.Test.YtnikdflhefijbaaGreatBs15
import Derived.Test.YtnikdflhefijbaaGreatBs12
import Derived.Test.YtnikdflhefijbaaGreatBs13
import Derived.Below
import Derived.ChangeOld
import Derived.OpenShut
import Derived.ProofKit
import Derived.Test.YtnikdflhefijbaaGreatRows
import Derived.WalkKit
import Derived.Test.YtnikdflhefijbaaGreatBs6
namespace Go.Proofs.YtnikdflhefijbaaGreat
open Go.RowKit
set_option maxRecDepth 100000
set_option maxHeartbeats 4000000
theorem AWorld.qQ(W:AWorld)(fr:Hp){n:Nat}{s:W.S}{σ:Hp}{K:AV→Hp→Prop}{k:Nat}{g0:FuncId}{cap:List AV}
  (kN:∀(n:Nat) (s:W.S) (k:Nat) (σ:Hp),n≤100000→W.free n (W.abs s)→ACalls Tryz.prog g0 (.int .i64 k::cap) (W.B s++σ) (fun x σ'=>∃s',W.abs s'=W.tell (W.abs s) k∧x=.tup []∧σ'=W.B s'++σ))
  (hn:n≤100000) (hf:W.free n (W.abs s)) (go:∀s',W.abs s'=W.tell (W.abs s) k→K (.tup []) (fr++(W.B s'++σ))):CallAt Tryz.prog g0 K (.int .i64 k::cap) (fr++(W.B s++σ)):=by
 refine .perm _ (ot fr (W.B s) σ) (kN n s k (fr++σ) hn hf) ?_;rintro r σ' ⟨s',h3,rfl,rfl⟩;exact⟨_,(ot fr (W.B s') σ).symm,go s' h3⟩
theorem EX{W:AWorld}{ar:List (Int×Int×Unit)}{a0:W.A}{s s':W.S}{st:List Int}{dn:List Bool}{us i:Nat}{pw pd:Int}{pu:Unit}(h:mm W ar a0 (s,st,dn,us))(bh:dn.all id=false)(cQ:us<ar.length)(cY:(pw,pd,pu)=ar[us])(hi:i=gE pw W.L.length)(cq:i<dn.length)(hd:dn[i]=true)(cC:W.abs s'=W.tell (W.abs s) (us+1)):mm W ar a0 (s',st,dn,us+1):=by
 obtain⟨h1,h2,h3,h4,h5,hg⟩:=h;refine⟨cQ,h2,h3,h4,?_,?_⟩
 ·show W.free (us+1) (W.abs s');rw[cC];exact W.told _ _ _ (W.more _ _ h5)
 rw[← hg];show iB _ _ _ (ar.drop (us+1)) _=iB _ _ _ (ar.drop us) _;rw[tQ cQ,← cY,Fe _ _ bh];unfold kJ;dsimp only;rw[← hi,az (FD cq hd),cC]
theorem vW{W:AWorld}{ar:List (Int×Int×Unit)}{a0:W.A}{s s':W.S}{st:List Int}{dn:List Bool}{us i:Nat}{pw pd:Int}{pu:Unit}(h:mm W ar a0 (s,st,dn,us))(bh:dn.all id=false)(cQ:us<ar.length)(L8:us<100000)(cY:(pw,pd,pu)=ar[us])(hi:i=gE pw W.L.length)(cq:i<W.L.length){CS:i<dn.length}(hd:dn[i]=false)(cC:W.abs s'=W.tell (W.step (W.abs s) i pd).1 (us+1)):
  mm W ar a0 (s',st.set i (wr (st.getD i 0+1)),dn.set i (W.step (W.abs s) i pd).2,us+1):=by
 obtain⟨h1,h2,h3,h4,h5,hg⟩:=h;refine⟨cQ,(dY ..).trans h2,(dY ..).trans h3,?_,?_,?_⟩
 ·intro k hk hm;have:=h4 k hk hm;show (dn.set i _)[k]?=some true;rw[gQ];split
  ·rename_i he
   subst he;rw[bu CS,hd]at this;cases this
  ·exact this
 ·show W.free (us+1) (W.abs s');rw[cC];exact W.told _ _ _ (W.keeps _ _ _ _ L8 h5 cq)
 ·rw[← hg];show iB _ _ _ (ar.drop (us+1)) _=iB _ _ _ (ar.drop us) _;rw[tQ cQ,← cY,Fe _ _ bh];unfold kJ;dsimp only;rw[← hi,aB (by rw[FD CS hd];decide),← cC]
theorem aeF(W:AWorld)(lb:Nat)(ar:List (Int×Int×Unit))(s0:W.S)(σ:Hp)(hn:W.L.length≤100000)(hs:ar.length≤100000)(hf:W.free 0 (W.abs s0))(g0:FuncId)(cap:List AV)
  (kN:∀(n:Nat) (s:W.S) (k:Nat) (σ:Hp),n≤100000→W.free n (W.abs s)→ACalls Tryz.prog g0 (.int .i64 k::cap) (W.B s++σ) (fun x σ'=>∃s',W.abs s'=W.tell (W.abs s) k∧x=.tup []∧σ'=W.B s'++σ)) :
  ACalls Tryz.prog 140 [W.mv,.af lb 0 W.L.length 1,.ae (.field (.int .i64) (.field (.int .i64) .nil)) ar,.fn (.func g0) [] cap] ((lb,W.L)::(W.B s0++σ)) (BH W ar (W.abs s0) [(lb,W.L)] σ):=by
 obtain⟨a0,eR⟩:∃a0,a0=W.abs s0:=⟨_,rfl⟩
 rw[← eR];obtain⟨z,oc⟩:∃z,z=s0:=⟨_,rfl⟩
 subst oc;refine ao Tryz.func140 ?_;intro ax
 refine .meet (S:=Nat×Nat×Nat) (fun s=>[(0,W.mv),(1,.af lb 0 W.L.length 1),(2,.ae (.field (.int .i64) (.field (.int .i64) .nil)) ar),(3,.fn (.func g0) [] cap),(8,.ptr ax 0),(9,.ptr s.1 0)])
  (fun s=>(s.1,[.af s.2.1 0 W.L.length 1,.af s.2.2 0 W.L.length 1,.int .i64 0])::(s.2.1,cP [.int .i64 0] W.L.length)::(s.2.2,cP [.bool false] W.L.length)::(ax,[.ag,.ag,.int .i64 0])::(lb,W.L)::(W.B z++σ)) (by kernel_rfl) ?_ ?_
 ·repeat' first
   |exact cX.mk (_,_,_) ⟨rfl,rfl,rfl,rfl,rfl,rfl,trivial⟩ (aL rfl)
   |exact cX.mk (_,_,_) ⟨rfl,rfl,rfl,rfl,rfl,rfl,trivial⟩ (.pull [2,2,1] (aL rfl))
   |exact cX.mk (_,_,_) ⟨rfl,rfl,rfl,rfl,rfl,rfl,trivial⟩ (.pull [2,1,2] (aL rfl))
   |exact cX.mk (_,_,_) ⟨rfl,rfl,rfl,rfl,rfl,rfl,trivial⟩ (.pull [2,2,0] (aL rfl))
   |exact cX.mk (_,_,_) ⟨rfl,rfl,rfl,rfl,rfl,rfl,trivial⟩ (.pull [2,1,1] (aL rfl))
   |exact cX.mk (_,_,_) ⟨rfl,rfl,rfl,rfl,rfl,rfl,trivial⟩ (.pull [2,1,0] (aL rfl))
   |refine And.intro ?_ ?_
   |refine a8 ?_
   |refine ah 0 ?_
   |refine ah 1 ?_
   |refine ah 2 ?_
   |intro b
 rintro⟨br,ba,bd⟩ g;refine aw [] (dI _ _ _) ?_;obtain⟨us,dU⟩:∃us:Nat,us=0:=⟨_,rfl⟩
 obtain⟨st,aq⟩:∃st,st=(List.replicate W.L.length 0:List Int):=⟨_,rfl⟩
 refine bc (S:=Nat) (fun s=>[(0,W.mv),(1,.af lb 0 W.L.length 1),(2,.ae (.field (.int .i64) (.field (.int .i64) .nil)) ar),(3,.fn (.func g0) [] cap),(8,.ptr ax 0),(9,.ptr br 0),(23,.af lb 0 W.L.length 1),(24,.int .i64 W.L.length),(25,.int .i64 s)])
  (fun s=>(br,[.af ba 0 W.L.length 1,.af bd 0 W.L.length 1,.int .i64 us])::(ba,jb st)::(bd,hY (qy W.L s))::(ax,[.ag,.ag,.int .i64 0])::(lb,W.L)::(W.B z++σ)) (fun s=>s≤W.L.length) (fun s=>W.L.length-s) 0 ⟨aV _,⟨rfl,rfl,rfl,rfl,rfl,rfl,rfl,rfl,rfl,trivial⟩,by rw[Rg,← RM,aq,← RL,dU];rfl⟩ ?_
 intro k g hk;have hk:k≤W.L.length:=hk;refine ai (fun ab=>?_) (fun ak=>?_)
 ·have ab:(k:Int)<W.L.length:=ab;have ab:k<W.L.length:=by omega
  refine aH ?_
  rcases W.mach k ab with hm | ⟨t,r,hm,_⟩
  ·refine ec.mk 4 _ (AV.nilif) rfl (qL ab hm) ?_;refine .sched [] (upto [] 7 0) (by kernel_rfl) ?_;refine aa 0 ?_;refine aH ?_;refine bM 2 rfl (kF _ (by rw[ze _ _ hk];omega)) ?_;refine aM (k+1) ?_ ab ⟨rfl,rfl,rfl,rfl,rfl,rfl,rfl,rfl,aI (by omega),trivial⟩ (aL ?_)
   ·show W.L.length-(k+1)<W.L.length-k;omega
   ·rw[← FF _ _ ab,hm];rfl
  ·refine ec.mk 4 _ (AV.iface t (.ptr r 0)) rfl (qL ab hm) ?_;refine .sched [] (upto [] 7 0) (by kernel_rfl) ?_;refine aa 0 ?_;refine aH ?_;refine bM 2 rfl (kF _ (by rw[ze _ _ hk];omega)) ?_;refine aM (k+1) ?_ ab ⟨rfl,rfl,rfl,rfl,rfl,rfl,rfl,rfl,aI (by omega),trivial⟩ (aL ?_)
   ·show W.L.length-(k+1)<W.L.length-k;omega
   ·rw[← FF _ _ ab,hm];rfl
 ·have ak:¬(k:Int)<W.L.length:=ak;obtain rfl:k=W.L.length:=by omega
  obtain⟨dn,mC⟩:∃dn,dn=qy W.L W.L.length:=⟨_,rfl⟩
  rw[← mC];have cu:dn.length=W.L.length:=by rw[mC];exact ze _ _ (bg _)
  have bP:st.length=W.L.length:=by rw[aq,gh]
  have jY:∀i (h:i<W.L.length),W.L[i]=.nilif→dn[i]?=some true:=by
   intro i h hm;rw[mC,FG,fD,bu h,hm];rfl
  obtain⟨s,dG⟩:∃s,s=z:=⟨_,rfl⟩
  subst dG
  have hI:mm W ar a0 (s,st,dn,us):=by
   exact⟨by show us≤_;omega,bP,cu,jY,dU▸hf,by rw[dU,mC,FG,aq,eR];rfl⟩
  have ⟨dU,bP,cu,jY,hf,yM⟩:=hI;have dU:us≤ar.length:=dU;have bP:st.length=W.L.length:=bP;have cu:dn.length=W.L.length:=cu;have hF:=fun σ=>wG (.af ba 0 W.L.length 1) us bd dn σ (by omega);rw[cu]at hF;refine aa 0 ?_;refine ai (fun c1=>?_) (fun c1=>?_)
  ·have c1:(↑us:Int)=(↑ar.length:Int):=c1;have hE:=mM hI (.inl (by show us=_;omega));refine aa 0 ?_;refine ah 3 ?_;refine aa 3 ?_;refine .cb 1 ba 0 W.L.length 1 _ (.int .i64) st rfl (mK bP) ⟨bP,rfl,by decide⟩ (fY .here (.refl _) (.refl _) rfl rfl rfl) ?_;refine .cb 1 bd 0 W.L.length 1 _ .bool dn rfl (mN cu) ⟨cu,rfl,by decide⟩ (fY (.refl _) .here (.refl _) rfl rfl rfl) ?_;exact .drop 0 2 (.done ⟨s,by rw[hE],by rw[hE],rfl⟩)
  ·have c1:¬((↑us:Int)=(↑ar.length:Int)):=c1;refine aa 0 ?_;refine aw [2] (hF _) ?_;cases bh:dn.all id with
   |true=>
    have hE:=mM hI (.inr bh);refine aa 1 ?_;refine ah 3 ?_;refine aa 3 ?_;refine .cb 2 ba 0 W.L.length 1 _ (.int .i64) st rfl (mK bP) ⟨bP,rfl,by decide⟩ (fY .here (.refl _) (.refl _) rfl rfl rfl) ?_;refine .cb 0 bd 0 W.L.length 1 _ .bool dn rfl (mN cu) ⟨cu,rfl,by decide⟩ (fY (.refl _) .here (.refl _) rfl rfl rfl) ?_;exact .drop 0 2 (.done ⟨s,by rw[hE],by rw[hE],rfl⟩)
   |false=>
    refine aa 1 ?_;refine aF.mk rfl ?_;have cQ:us<ar.length:=by omega
    have eu:AV.int .i64 (IntKind.i64.wrap ((us:Int)+1))=AV.int .i64 ((us+1:Nat):Int):=aI (by omega);obtain⟨pk,cY⟩:∃pk,pk=ar[us]:=⟨_,rfl⟩
    obtain⟨pw,pd,pu⟩:=pk
    have ep:0<W.L.length:=by
     rcases px W.L.length with h0 | h0
     ·rw[fE.1 (cu.trans h0)]at bh;cases bh
     ·exact h0
    refine aY.mk (pw,pd,pu) (by omega) ((get_some cQ).trans (congrArg some cY.symm)) ?_;obtain⟨i,hi⟩:∃i,i=gE pw W.L.length:=⟨_,rfl⟩
    have cq:i<W.L.length:=by rw[hi];exact uf ep
    have jD:=fun σ=>wF pw pd W.L.length σ (by omega);rw[← hi]at jD;intro bp;refine ah 0 ?_;refine aa 0 ?_;refine aw [] (jD _) ?_;refine aa 2 ?_;refine aH ?_;cases hd:dn[i] with
    |true=>
     refine aS 1 rfl (lI (by omega) hd) ?_;refine aa 2 ?_;refine ah 2 ?_;refine aa 2 ?_;rw[eu];refine W.qQ [_,_,_,_,_,_] kN (n:=us) (by omega) hf fun s2 dw=>?_;refine .loop (S:=W.S×List Int×List Bool×Nat) (fun _=>0) (fun _=>[(0,W.mv),(1,.af lb 0 W.L.length 1),(2,.ae (.field (.int .i64) (.field (.int .i64) .nil)) ar),(3,.fn (.func g0) [] cap),(8,.ptr ax 0),(9,.ptr br 0)]) (fun x=>(br,[.af ba 0 W.L.length 1,.af bd 0 W.L.length 1,.int .i64 x.2.2.2])::(ba,jb x.2.1)::(bd,hY x.2.2.1)::(ax,[.ag,.ag,.int .i64 0])::(lb,W.L)::(W.B x.1++σ)) (mm W ar a0) (fun x=>ar.length-x.2.2.2) (s2,st,dn,us+1) ⟨rfl,(EX hI bh cQ cY hi (by omega) hd dw),⟨rfl,rfl,rfl,rfl,rfl,rfl,trivial⟩,.drop 0 1 (.pull [2,2,0] (aL ?_))⟩ ?_
     ·show _=(br,[AV.af ba 0 W.L.length 1,AV.af bd 0 W.L.length 1,AV.int .i64 ((us+1:Nat):Int)])::_;rw[← eu];rfl
     rintro⟨s,st,dn,us⟩ g hI;have ⟨dU,bP,cu,jY,hf,yM⟩:=hI;have dU:us≤ar.length:=dU;have bP:st.length=W.L.length:=bP;have cu:dn.length=W.L.length:=cu;have hF:=fun σ=>wG (.af ba 0 W.L.length 1) us bd dn σ (by omega);rw[cu]at hF;refine aa 0 ?_;refine ai (fun c1=>?_) (fun c1=>?_)
     ·have c1:(↑us:Int)=(↑ar.length:Int):=c1;have hE:=mM hI (.inl (by show us=_;omega));refine aa 0 ?_;refine ah 3 ?_;refine aa 3 ?_;refine .cb 1 ba 0 W.L.length 1 _ (.int .i64) st rfl (mK bP) ⟨bP,rfl,by decide⟩ (fY .here (.refl _) (.refl _) rfl rfl rfl) ?_;refine .cb 1 bd 0 W.L.length 1 _ .bool dn rfl (mN cu) ⟨cu,rfl,by decide⟩ (fY (.refl _) .here (.refl _) rfl rfl rfl) ?_;exact .drop 0 2 (.done ⟨s,by rw[hE],by rw[hE],rfl⟩)
     ·have c1:¬((↑us:Int)=(↑ar.length:Int)):=c1;refine aa 0 ?_;refine aw [2] (hF _) ?_;cases bh:dn.all id with
      |true=>
       have hE:=mM hI (.inr bh);refine aa 1 ?_;refine ah 3 ?_;refine aa 3 ?_;refine .cb 2 ba 0 W.L.length 1 _ (.int .i64) st rfl (mK bP) ⟨bP,rfl,by decide⟩ (fY .here (.refl _) (.refl _) rfl rfl rfl) ?_;refine .cb 0 bd 0 W.L.length 1 _ .bool dn rfl (mN cu) ⟨cu,rfl,by decide⟩ (fY (.refl _) .here (.refl _) rfl rfl rfl) ?_;exact .drop 0 2 (.done ⟨s,by rw[hE],by rw[hE],rfl⟩)
      |false=>
       refine aa 1 ?_;refine aF.mk rfl ?_;have cQ:us<ar.length:=by omega
       have eu:AV.int .i64 (IntKind.i64.wrap ((us:Int)+1))=AV.int .i64 ((us+1:Nat):Int):=aI (by omega);obtain⟨pk,cY⟩:∃pk,pk=ar[us]:=⟨_,rfl⟩
       obtain⟨pw,pd,pu⟩:=pk
       have ep:0<W.L.length:=by
        rcases px W.L.length with h0 | h0
        ·rw[fE.1 (cu.trans h0)]at bh;cases bh
        ·exact h0
       refine aY.mk (pw,pd,pu) (by omega) ((get_some cQ).trans (congrArg some cY.symm)) ?_;obtain⟨i,hi⟩:∃i,i=gE pw W.L.length:=⟨_,rfl⟩
       have cq:i<W.L.length:=by rw[hi];exact uf ep
       have jD:=fun σ=>wF pw pd W.L.length σ (by omega);rw[← hi]at jD;intro bp;refine ah 0 ?_;refine aa 0 ?_;refine aw [] (jD _) ?_;refine aa 2 ?_;refine aH ?_;cases hd:dn[i] with
       |true=>
        refine aS 1 rfl (lI (by omega) hd) ?_;refine aa 2 ?_;refine ah 2 ?_;refine aa 2 ?_;rw[eu];refine W.qQ [_,_,_,_,_,_] kN (n:=us) (by omega) hf fun s2 dw=>?_;refine .mk (s2,st,dn,us+1) rfl (by show ar.length-(us+1)<ar.length-us;omega) (EX hI bh cQ cY hi (by omega) hd dw) ⟨rfl,rfl,rfl,rfl,rfl,rfl,trivial⟩ (.drop 0 1 (.pull [2,2,0] (aL ?_)));show _=(br,[AV.af ba 0 W.L.length 1,AV.af bd 0 W.L.length 1,AV.int .i64 ((us+1:Nat):Int)])::_;rw[← eu];rfl
       |false=>
        refine aS 1 rfl (lI (by omega) hd) ?_
        rcases W.mach i cq with hm | ⟨t,r,hm,gS,hMe,eO⟩
        ·have:=jY i cq hm;rw[bu (by show i<dn.length;omega)]at this;exact absurd (hd.symm.trans (Option.some.inj this)) (by decide)
        refine .sched [] (kl [0,2,3,4,5,6,7,8,9] (.alt 1 (ca [10,11,12]) (ca [10,1,11,12]))) (by kernel_rfl) ?_;refine aH ?_;refine ec.mk 5 _ (AV.iface t (.ptr r 0)) rfl (qL cq hm) ?_;refine aa 0 ?_;refine And.intro ?_ ?_
        ·refine aa 2 ?_;refine W.aStep [_,_,_,_,_,_] hMe eO (n:=us) (by omega) hf fun s' cC=>?_;refine aH ?_;refine bM 1 rfl (kF _ (by omega)) ?_;refine aa 2 ?_;refine aH ?_;refine aS 3 rfl (mJ (by omega)) ?_;refine aH ?_;refine bM 3 rfl (mI _ (by omega)) ?_;refine aa 2 ?_;refine ah 2 ?_;refine aa 2 ?_;rw[eu];refine W.qQ [_,_,_,_,_,_] kN (n:=us+1) (by omega) (by rw[cC];exact W.keeps _ _ _ _ (by omega) hf cq) fun s2 dw=>?_;refine .mk (s2,(st.set i (wr (st.getD i 0+1))),(dn.set i (W.step (W.abs s) i pd).2),us+1) rfl (by show ar.length-(us+1)<ar.length-us;omega) (vW hI bh cQ (by omega) cY hi cq hd (by rw[dw,cC])) ⟨rfl,rfl,rfl,rfl,rfl,rfl,trivial⟩ (.drop 0 1 (.pull [2,2,0] (aL ?_)));show _=(br,[AV.af ba 0 W.L.length 1,AV.af bd 0 W.L.length 1,AV.int .i64 ((us+1:Nat):Int)])::_;rw[← eu];rfl
        ·refine W.aStep [_,_,_,_,_,_] hMe eO (n:=us) (by omega) hf fun s' cC=>?_;refine aa 2 ?_;refine aH ?_;refine bM 1 rfl (kF _ (by omega)) ?_;refine aa 2 ?_;refine aH ?_;refine aS 3 rfl (mJ (by omega)) ?_;refine aH ?_;refine bM 3 rfl (mI _ (by omega)) ?_;refine aa 2 ?_;refine ah 2 ?_;refine aa 2 ?_;rw[eu];refine W.qQ [_,_,_,_,_,_] kN (n:=us+1) (by omega) (by rw[cC];exact W.keeps _ _ _ _ (by omega) hf cq) fun s2 dw=>?_;refine .mk (s2,(st.set i (wr (st.getD i 0+1))),(dn.set i (W.step (W.abs s) i pd).2),us+1) rfl (by show ar.length-(us+1)<ar.length-us;omega) (vW hI bh cQ (by omega) cY hi cq hd (by rw[dw,cC])) ⟨rfl,rfl,rfl,rfl,rfl,rfl,trivial⟩ (.drop 0 1 (.pull [2,2,0] (aL ?_)));show _=(br,[AV.af ba 0 W.L.length 1,AV.af bd 0 W.L.length 1,AV.int .i64 ((us+1:Nat):Int)])::_;rw[← eu];rfl
    |false=>
     refine aS 1 rfl (lI (by omega) hd) ?_
     rcases W.mach i cq with hm | ⟨t,r,hm,gS,hMe,eO⟩
     ·have:=jY i cq hm;rw[bu (by show i<dn.length;omega)]at this;exact absurd (hd.symm.trans (Option.some.inj this)) (by decide)
     refine .sched [] (kl [0,2,3,4,5,6,7,8,9] (.alt 1 (ca [10,11,12]) (ca [10,1,11,12]))) (by kernel_rfl) ?_;refine aH ?_;refine ec.mk 5 _ (AV.iface t (.ptr r 0)) rfl (qL cq hm) ?_;refine aa 0 ?_;refine And.intro ?_ ?_
     ·refine aa 2 ?_;refine W.aStep [_,_,_,_,_,_] hMe eO (n:=us) (by omega) hf fun s' cC=>?_;refine aH ?_;refine bM 1 rfl (kF _ (by omega)) ?_;refine aa 2 ?_;refine aH ?_;refine aS 3 rfl (mJ (by omega)) ?_;refine aH ?_;refine bM 3 rfl (mI _ (by omega)) ?_;refine aa 2 ?_;refine ah 2 ?_;refine aa 2 ?_;rw[eu];refine W.qQ [_,_,_,_,_,_] kN (n:=us+1) (by omega) (by rw[cC];exact W.keeps _ _ _ _ (by omega) hf cq) fun s2 dw=>?_;refine .loop (S:=W.S×List Int×List Bool×Nat) (fun _=>0) (fun _=>[(0,W.mv),(1,.af lb 0 W.L.length 1),(2,.ae (.field (.int .i64) (.field (.int .i64) .nil)) ar),(3,.fn (.func g0) [] cap),(8,.ptr ax 0),(9,.ptr br 0)]) (fun x=>(br,[.af ba 0 W.L.length 1,.af bd 0 W.L.length 1,.int .i64 x.2.2.2])::(ba,jb x.2.1)::(bd,hY x.2.2.1)::(ax,[.ag,.ag,.int .i64 0])::(lb,W.L)::(W.B x.1++σ)) (mm W ar a0) (fun x=>ar.length-x.2.2.2) (s2,(st.set i (wr (st.getD i 0+1))),(dn.set i (W.step (W.abs s) i pd).2),us+1) ⟨rfl,(vW hI bh cQ (by omega) cY hi cq hd (by rw[dw,cC])),⟨rfl,rfl,rfl,rfl,rfl,rfl,trivial⟩,.drop 0 1 (.pull [2,2,0] (aL ?_))⟩ ?_
      ·show _=(br,[AV.af ba 0 W.L.length 1,AV.af bd 0 W.L.length 1,AV.int .i64 ((us+1:Nat):Int)])::_;rw[← eu];rfl
      rintro⟨s,st,dn,us⟩ g hI;have ⟨dU,bP,cu,jY,hf,yM⟩:=hI;have dU:us≤ar.length:=dU;have bP:st.length=W.L.length:=bP;have cu:dn.length=W.L.length:=cu;have hF:=fun σ=>wG (.af ba 0 W.L.length 1) us bd dn σ (by omega);rw[cu]at hF;refine aa 0 ?_;refine ai (fun c1=>?_) (fun c1=>?_)
      ·have c1:(↑us:Int)=(↑ar.length:Int):=c1;have hE:=mM hI (.inl (by show us=_;omega));refine aa 0 ?_;refine ah 3 ?_;refine aa 3 ?_;refine .cb 1 ba 0 W.L.length 1 _ (.int .i64) st rfl (mK bP) ⟨bP,rfl,by decide⟩ (fY .here (.refl _) (.refl _) rfl rfl rfl) ?_;refine .cb 1 bd 0 W.L.length 1 _ .bool dn rfl (mN cu) ⟨cu,rfl,by decide⟩ (fY (.refl _) .here (.refl _) rfl rfl rfl) ?_;exact .drop 0 2 (.done ⟨s,by rw[hE],by rw[hE],rfl⟩)
      ·have c1:¬((↑us:Int)=(↑ar.length:Int)):=c1;refine aa 0 ?_;refine aw [2] (hF _) ?_;cases bh:dn.all id with
       |true=>
        have hE:=mM hI (.inr bh);refine aa 1 ?_;refine ah 3 ?_;refine aa 3 ?_;refine .cb 2 ba 0 W.L.length 1 _ (.int .i64) st rfl (mK bP) ⟨bP,rfl,by decide⟩ (fY .here (.refl _) (.refl _) rfl rfl rfl) ?_;refine .cb 0 bd 0 W.L.length 1 _ .bool dn rfl (mN cu) ⟨cu,rfl,by decide⟩ (fY (.refl _) .here (.refl _) rfl rfl rfl) ?_;exact .drop 0 2 (.done ⟨s,by rw[hE],by rw[hE],rfl⟩)
       |false=>
        refine aa 1 ?_;refine aF.mk rfl ?_;have cQ:us<ar.length:=by omega
        have eu:AV.int .i64 (IntKind.i64.wrap ((us:Int)+1))=AV.int .i64 ((us+1:Nat):Int):=aI (by omega);obtain⟨pk,cY⟩:∃pk,pk=ar[us]:=⟨_,rfl⟩
        obtain⟨pw,pd,pu⟩:=pk
        have ep:0<W.L.length:=by
         rcases px W.L.length with h0 | h0
         ·rw[fE.1 (cu.trans h0)]at bh;cases bh
         ·exact h0
        refine aY.mk (pw,pd,pu) (by omega) ((get_some cQ).trans (congrArg some cY.symm)) ?_;obtain⟨i,hi⟩:∃i,i=gE pw W.L.length:=⟨_,rfl⟩
        have cq:i<W.L.length:=by rw[hi];exact uf ep
        have jD:=fun σ=>wF pw pd W.L.length σ (by omega);rw[← hi]at jD;intro bp;refine ah 0 ?_;refine aa 0 ?_;refine aw [] (jD _) ?_;refine aa 2 ?_;refine aH ?_;cases hd:dn[i] with
        |true=>
         refine aS 1 rfl (lI (by omega) hd) ?_;refine aa 2 ?_;refine ah 2 ?_;refine aa 2 ?_;rw[eu];refine W.qQ [_,_,_,_,_,_] kN (n:=us) (by omega) hf fun s2 dw=>?_;refine .mk (s2,st,dn,us+1) rfl (by show ar.length-(us+1)<ar.length-us;omega) (EX hI bh cQ cY hi (by omega) hd dw) ⟨rfl,rfl,rfl,rfl,rfl,rfl,trivial⟩ (.drop 0 1 (.pull [2,2,0] (aL ?_)));show _=(br,[AV.af ba 0 W.L.length 1,AV.af bd 0 W.L.length 1,AV.int .i64 ((us+1:Nat):Int)])::_;rw[← eu];rfl
        |false=>
         refine aS 1 rfl (lI (by omega) hd) ?_
         rcases W.mach i cq with hm | ⟨t,r,hm,gS,hMe,eO⟩
         ·have:=jY i cq hm;rw[bu (by show i<dn.length;omega)]at this;exact absurd (hd.symm.trans (Option.some.inj this)) (by decide)
         refine .sched [] (kl [0,2,3,4,5,6,7,8,9] (.alt 1 (ca [10,11,12]) (ca [10,1,11,12]))) (by kernel_rfl) ?_;refine aH ?_;refine ec.mk 5 _ (AV.iface t (.ptr r 0)) rfl (qL cq hm) ?_;refine aa 0 ?_;refine And.intro ?_ ?_
         ·refine aa 2 ?_;refine W.aStep [_,_,_,_,_,_] hMe eO (n:=us) (by omega) hf fun s' cC=>?_;refine aH ?_;refine bM 1 rfl (kF _ (by omega)) ?_;refine aa 2 ?_;refine aH ?_;refine aS 3 rfl (mJ (by omega)) ?_;refine aH ?_;refine bM 3 rfl (mI _ (by omega)) ?_;refine aa 2 ?_;refine ah 2 ?_;refine aa 2 ?_;rw[eu];refine W.qQ [_,_,_,_,_,_] kN (n:=us+1) (by omega) (by rw[cC];exact W.keeps _ _ _ _ (by omega) hf cq) fun s2 dw=>?_;refine .mk (s2,(st.set i (wr (st.getD i 0+1))),(dn.set i (W.step (W.abs s) i pd).2),us+1) rfl (by show ar.length-(us+1)<ar.length-us;omega) (vW hI bh cQ (by omega) cY hi cq hd (by rw[dw,cC])) ⟨rfl,rfl,rfl,rfl,rfl,rfl,trivial⟩ (.drop 0 1 (.pull [2,2,0] (aL ?_)));show _=(br,[AV.af ba 0 W.L.length 1,AV.af bd 0 W.L.length 1,AV.int .i64 ((us+1:Nat):Int)])::_;rw[← eu];rfl
         ·refine W.aStep [_,_,_,_,_,_] hMe eO (n:=us) (by omega) hf fun s' cC=>?_;refine aa 2 ?_;refine aH ?_;refine bM 1 rfl (kF _ (by omega)) ?_;refine aa 2 ?_;refine aH ?_;refine aS 3 rfl (mJ (by omega)) ?_;refine aH ?_;refine bM 3 rfl (mI _ (by omega)) ?_;refine aa 2 ?_;refine ah 2 ?_;refine aa 2 ?_;rw[eu];refine W.qQ [_,_,_,_,_,_] kN (n:=us+1) (by omega) (by rw[cC];exact W.keeps _ _ _ _ (by omega) hf cq) fun s2 dw=>?_;refine .mk (s2,(st.set i (wr (st.getD i 0+1))),(dn.set i (W.step (W.abs s) i pd).2),us+1) rfl (by show ar.length-(us+1)<ar.length-us;omega) (vW hI bh cQ (by omega) cY hi cq hd (by rw[dw,cC])) ⟨rfl,rfl,rfl,rfl,rfl,rfl,trivial⟩ (.drop 0 1 (.pull [2,2,0] (aL ?_)));show _=(br,[AV.af ba 0 W.L.length 1,AV.af bd 0 W.L.length 1,AV.int .i64 ((us+1:Nat):Int)])::_;rw[← eu];rfl
     ·refine W.aStep [_,_,_,_,_,_] hMe eO (n:=us) (by omega) hf fun s' cC=>?_;refine aa 2 ?_;refine aH ?_;refine bM 1 rfl (kF _ (by omega)) ?_;refine aa 2 ?_;refine aH ?_;refine aS 3 rfl (mJ (by omega)) ?_;refine aH ?_;refine bM 3 rfl (mI _ (by omega)) ?_;refine aa 2 ?_;refine ah 2 ?_;refine aa 2 ?_;rw[eu];refine W.qQ [_,_,_,_,_,_] kN (n:=us+1) (by omega) (by rw[cC];exact W.keeps _ _ _ _ (by omega) hf cq) fun s2 dw=>?_;refine .loop (S:=W.S×List Int×List Bool×Nat) (fun _=>0) (fun _=>[(0,W.mv),(1,.af lb 0 W.L.length 1),(2,.ae (.field (.int .i64) (.field (.int .i64) .nil)) ar),(3,.fn (.func g0) [] cap),(8,.ptr ax 0),(9,.ptr br 0)]) (fun x=>(br,[.af ba 0 W.L.length 1,.af bd 0 W.L.length 1,.int .i64 x.2.2.2])::(ba,jb x.2.1)::(bd,hY x.2.2.1)::(ax,[.ag,.ag,.int .i64 0])::(lb,W.L)::(W.B x.1++σ)) (mm W ar a0) (fun x=>ar.length-x.2.2.2) (s2,(st.set i (wr (st.getD i 0+1))),(dn.set i (W.step (W.abs s) i pd).2),us+1) ⟨rfl,(vW hI bh cQ (by omega) cY hi cq hd (by rw[dw,cC])),⟨rfl,rfl,rfl,rfl,rfl,rfl,trivial⟩,.drop 0 1 (.pull [2,2,0] (aL ?_))⟩ ?_
      ·show _=(br,[AV.af ba 0 W.L.length 1,AV.af bd 0 W.L.length 1,AV.int .i64 ((us+1:Nat):Int)])::_;rw[← eu];rfl
      rintro⟨s,st,dn,us⟩ g hI;have ⟨dU,bP,cu,jY,hf,yM⟩:=hI;have dU:us≤ar.length:=dU;have bP:st.length=W.L.length:=bP;have cu:dn.length=W.L.length:=cu;have hF:=fun σ=>wG (.af ba 0 W.L.length 1) us bd dn σ (by omega);rw[cu]at hF;refine aa 0 ?_;refine ai (fun c1=>?_) (fun c1=>?_)
      ·have c1:(↑us:Int)=(↑ar.length:Int):=c1;have hE:=mM hI (.inl (by show us=_;omega));refine aa 0 ?_;refine ah 3 ?_;refine aa 3 ?_;refine .cb 1 ba 0 W.L.length 1 _ (.int .i64) st rfl (mK bP) ⟨bP,rfl,by decide⟩ (fY .here (.refl _) (.refl _) rfl rfl rfl) ?_;refine .cb 1 bd 0 W.L.length 1 _ .bool dn rfl (mN cu) ⟨cu,rfl,by decide⟩ (fY (.refl _) .here (.refl _) rfl rfl rfl) ?_;exact .drop 0 2 (.done ⟨s,by rw[hE],by rw[hE],rfl⟩)
      ·have c1:¬((↑us:Int)=(↑ar.length:Int)):=c1;refine aa 0 ?_;refine aw [2] (hF _) ?_;cases bh:dn.all id with
       |true=>
        have hE:=mM hI (.inr bh);refine aa 1 ?_;refine ah 3 ?_;refine aa 3 ?_;refine .cb 2 ba 0 W.L.length 1 _ (.int .i64) st rfl (mK bP) ⟨bP,rfl,by decide⟩ (fY .here (.refl _) (.refl _) rfl rfl rfl) ?_;refine .cb 0 bd 0 W.L.length 1 _ .bool dn rfl (mN cu) ⟨cu,rfl,by decide⟩ (fY (.refl _) .here (.refl _) rfl rfl rfl) ?_;exact .drop 0 2 (.done ⟨s,by rw[hE],by rw[hE],rfl⟩)
       |false=>
        refine aa 1 ?_;refine aF.mk rfl ?_;have cQ:us<ar.length:=by omega
        have eu:AV.int .i64 (IntKind.i64.wrap ((us:Int)+1))=AV.int .i64 ((us+1:Nat):Int):=aI (by omega);obtain⟨pk,cY⟩:∃pk,pk=ar[us]:=⟨_,rfl⟩
        obtain⟨pw,pd,pu⟩:=pk
        have ep:0<W.L.length:=by
         rcases px W.L.length with h0 | h0
         ·rw[fE.1 (cu.trans h0)]at bh;cases bh
         ·exact h0
        refine aY.mk (pw,pd,pu) (by omega) ((get_some cQ).trans (congrArg some cY.symm)) ?_;obtain⟨i,hi⟩:∃i,i=gE pw W.L.length:=⟨_,rfl⟩
        have cq:i<W.L.length:=by rw[hi];exact uf ep
        have jD:=fun σ=>wF pw pd W.L.length σ (by omega);rw[← hi]at jD;intro bp;refine ah 0 ?_;refine aa 0 ?_;refine aw [] (jD _) ?_;refine aa 2 ?_;refine aH ?_;cases hd:dn[i] with
        |true=>
         refine aS 1 rfl (lI (by omega) hd) ?_;refine aa 2 ?_;refine ah 2 ?_;refine aa 2 ?_;rw[eu];refine W.qQ [_,_,_,_,_,_] kN (n:=us) (by omega) hf fun s2 dw=>?_;refine .mk (s2,st,dn,us+1) rfl (by show ar.length-(us+1)<ar.length-us;omega) (EX hI bh cQ cY hi (by omega) hd dw) ⟨rfl,rfl,rfl,rfl,rfl,rfl,trivial⟩ (.drop 0 1 (.pull [2,2,0] (aL ?_)));show _=(br,[AV.af ba 0 W.L.length 1,AV.af bd 0 W.L.length 1,AV.int .i64 ((us+1:Nat):Int)])::_;rw[← eu];rfl
        |false=>
         refine aS 1 rfl (lI (by omega) hd) ?_
         rcases W.mach i cq with hm | ⟨t,r,hm,gS,hMe,eO⟩
         ·have:=jY i cq hm;rw[bu (by show i<dn.length;omega)]at this;exact absurd (hd.symm.trans (Option.some.inj this)) (by decide)
         refine .sched [] (kl [0,2,3,4,5,6,7,8,9] (.alt 1 (ca [10,11,12]) (ca [10,1,11,12]))) (by kernel_rfl) ?_;refine aH ?_;refine ec.mk 5 _ (AV.iface t (.ptr r 0)) rfl (qL cq hm) ?_;refine aa 0 ?_;refine And.intro ?_ ?_
         ·refine aa 2 ?_;refine W.aStep [_,_,_,_,_,_] hMe eO (n:=us) (by omega) hf fun s' cC=>?_;refine aH ?_;refine bM 1 rfl (kF _ (by omega)) ?_;refine aa 2 ?_;refine aH ?_;refine aS 3 rfl (mJ (by omega)) ?_;refine aH ?_;refine bM 3 rfl (mI _ (by omega)) ?_;refine aa 2 ?_;refine ah 2 ?_;refine aa 2 ?_;rw[eu];refine W.qQ [_,_,_,_,_,_] kN (n:=us+1) (by omega) (by rw[cC];exact W.keeps _ _ _ _ (by omega) hf cq) fun s2 dw=>?_;refine .mk (s2,(st.set i (wr (st.getD i 0+1))),(dn.set i (W.step (W.abs s) i pd).2),us+1) rfl (by show ar.length-(us+1)<ar.length-us;omega) (vW hI bh cQ (by omega) cY hi cq hd (by rw[dw,cC])) ⟨rfl,rfl,rfl,rfl,rfl,rfl,trivial⟩ (.drop 0 1 (.pull [2,2,0] (aL ?_)));show _=(br,[AV.af ba 0 W.L.length 1,AV.af bd 0 W.L.length 1,AV.int .i64 ((us+1:Nat):Int)])::_;rw[← eu];rfl
         ·refine W.aStep [_,_,_,_,_,_] hMe eO (n:=us) (by omega) hf fun s' cC=>?_;refine aa 2 ?_;refine aH ?_;refine bM 1 rfl (kF _ (by omega)) ?_;refine aa 2 ?_;refine aH ?_;refine aS 3 rfl (mJ (by omega)) ?_;refine aH ?_;refine bM 3 rfl (mI _ (by omega)) ?_;refine aa 2 ?_;refine ah 2 ?_;refine aa 2 ?_;rw[eu];refine W.qQ [_,_,_,_,_,_] kN (n:=us+1) (by omega) (by rw[cC];exact W.keeps _ _ _ _ (by omega) hf cq) fun s2 dw=>?_;refine .mk (s2,(st.set i (wr (st.getD i 0+1))),(dn.set i (W.step (W.abs s) i pd).2),us+1) rfl (by show ar.length-(us+1)<ar.length-us;omega) (vW hI bh cQ (by omega) cY hi cq hd (by rw[dw,cC])) ⟨rfl,rfl,rfl,rfl,rfl,rfl,trivial⟩ (.drop 0 1 (.pull [2,2,0] (aL ?_)));show _=(br,[AV.af ba 0 W.L.length 1,AV.af bd 0 W.L.length 1,AV.int .i64 ((us+1:Nat):Int)])::_;rw[← eu];rfl
set_option maxHeartbeats 4000000
theorem ACalls.SQ{P:Program}{f:FuncId}{xs:List AV}{σ σ2 ee sf:Hp}{x:AV}(h:ACalls P f xs σ2 (ay x ee))(hp:σ2.Perm σ)(hq:sf.Perm ee):ACalls P f xs σ (ay x sf):=
 tY (.perm _ hp h fun _ _ h'=>⟨sf,h'.2▸hq,h'.1,rfl⟩)
theorem Zd(M:AMem)(r:Nat)(s:jm M)(fr σ:Hp)(hl:s.es.length≤1000000):ACalls Tryz.prog 195 [.ptr r 0] (fr++((ym M r).B s++σ)) (ay (.int .i64 s.es.length) (fr++((ym M r).B s++σ))):=by
 have h:=aeJ M r s (M.B s.m++(fr++σ)) hl
 have e:(r,[M.v,s.c])::(s.acc++(M.B s.m++(fr++σ)))=(ym M r).B s++(fr++σ):=by
  show _=((r,[M.v,s.c])::(s.acc++M.B s.m))++(fr++σ);simp
 rw[e]at h;exact h.SQ (ew fr _ σ) (ew fr _ σ).symm
theorem eLen_ : MethE Tryz.prog 143 "Len" 388 := fun a w => by kernel_rfl
theorem eLoad_ : MethE Tryz.prog 143 "Load" 91 := fun a w => by kernel_rfl
theorem eStore_ : MethE Tryz.prog 143 "Store" 92 := fun a w => by kernel_rfl
theorem eCAS_ : MethE Tryz.prog 143 "CAS" 93 := fun a w => by kernel_rfl
theorem eAdd_ : MethE Tryz.prog 143 "Add" 94 := fun a w => by kernel_rfl
theorem oStore_ {b o : Nat} : AheadOk Tryz.prog 143 "Store" (.agg [.ptr b o]) := fun a w => by kernel_rfl
theorem oCAS_ {b o : Nat} : AheadOk Tryz.prog 143 "CAS" (.agg [.ptr b o]) := fun a w => by kernel_rfl
theorem oAdd_ {b o : Nat} : AheadOk Tryz.prog 143 "Add" (.agg [.ptr b o]) := fun a w => by kernel_rfl
theorem oLoad_ {b o : Nat} : AheadOk Tryz.prog 143 "Load" (.agg [.ptr b o]) := fun a w => by kernel_rfl
def jQ(M:AMem)(r:Nat):AMem where
 O:=fW M.O
 S:=jm M
 abs s:=(M.abs s.m,s.es)
 B s:=(r,[M.v,s.c])::(s.acc++M.B s.m)
 t:=143
 x0:=.agg [.ptr r 0]
 p:=r
 load:=⟨_,⟨eLoad_,rfl⟩,fun s a σ hf=>by
  have:=JI M r s a σ hf.1 hf.2;rw[← cU]at this;refine this.mono ?_;rintro _ _ ⟨s',h1,h2,rfl,rfl⟩
  exact⟨s',Prod.ext h1 h2,rfl,by simp⟩⟩
 store:=⟨_,⟨eStore_,rfl⟩,fun s a x σ hf=>by
  have:=Jj M r s a x σ hf.1 hf.2;rw[← cU]at this;refine this.mono ?_;rintro _ _ ⟨s',h1,h2,rfl,rfl⟩
  exact⟨s',Prod.ext h1 h2,rfl,by simp⟩⟩
 cas:=⟨_,⟨eCAS_,rfl⟩,fun s a x y σ hf=>by
  have:=Kb M r s a x y σ hf.1 hf.2;rw[← cU]at this;refine this.mono ?_;rintro _ _ ⟨s',h1,h2,rfl,rfl⟩
  exact⟨s',Prod.ext h1 h2,rfl,by simp⟩⟩
 add:=⟨_,⟨eAdd_,rfl⟩,fun s a d σ hf=>by
  have:=Kc M r s a d σ hf.1 hf.2;rw[← cU]at this;refine this.mono ?_;rintro _ _ ⟨s',h1,h2,rfl,rfl⟩
  exact⟨s',Prod.ext h1 h2,rfl,by simp⟩⟩
 hL:=oLoad_
 hS:=oStore_
 hC:=oCAS_
 hA:=oAdd_
 len:=⟨_,⟨eLen_,rfl⟩,fun s σ=>by
  have:=Sp M r s σ;rw[← cU]at this;refine this.mono ?_;rintro _ _ ⟨s',h1,h2,rfl,rfl⟩
  exact⟨s',Prod.ext h1 h2,rfl,by simp⟩⟩
theorem ad0(M:AMem)(r:Nat)(s:jm M)(fr σ:Hp)(hl:s.es.length≤1000000):ACalls Tryz.prog 142 [.agg [.ptr r 0]] (fr++((jQ M r).B s++σ)) (ay (.int .i64 s.es.length) (fr++((jQ M r).B s++σ))):=by
 refine ao Tryz.func142 ?_;intro b;refine aa 0 ?_;refine aw [] (Zd M r s ((b,[.ptr r 0])::fr) σ hl) ?_;exact .drop 0 1 (.done ⟨rfl,rfl⟩)
structure WL where
 W:List WS
 ws:List Int
 es:List Ev
def rS(s:Sy)(l:Lay)(a:WL)(i:Nat)(d:Int):WL×Bool:=match a.W[i]? with
 |some x=>(⟨a.W.set i (de (fW bR) s l i x d (a.ws,a.es)).1,(de (fW bR) s l i x d (a.ws,a.es)).2.1.1,(de (fW bR) s l i x d (a.ws,a.es)).2.1.2⟩,(de (fW bR) s l i x d (a.ws,a.es)).2.2)
 |none=>(a,true)
theorem Qp{s:Sy}{l:Lay}{a:WL}{i:Nat}{d:Int}{x:WS}(h:a.W[i]?=some x):rS s l a i d=(⟨a.W.set i (de (fW bR) s l i x d (a.ws,a.es)).1,(de (fW bR) s l i x d (a.ws,a.es)).2.1.1,(de (fW bR) s l i x d (a.ws,a.es)).2.1.2⟩,(de (fW bR) s l i x d (a.ws,a.es)).2.2):=by
 unfold rS;rw[h]
theorem Pg{s:Sy}{l:Lay}(hs:LS s l){a:WL}(hF:qT s l ⟨a.W,a.ws⟩)(i:Nat)(d:Int):∃iM,rS s l a i d=(⟨(gC s l ⟨a.W,a.ws⟩ i d).1.W,(gC s l ⟨a.W,a.ws⟩ i d).1.ws,iM⟩,(gC s l ⟨a.W,a.ws⟩ i d).2)∧tw s l a.ws a.es iM (gC s l ⟨a.W,a.ws⟩ i d).1.ws:=by
 cases hx:a.W[i]? with
 |none=>
  refine⟨a.es,?_,?_⟩
  ·unfold rS gC;dsimp only;rw[hx]
  ·unfold gC;dsimp only;rw[hx];exact pH
 |some x=>
  have hi:=(cW.1 hx).1;have hl:(a.W.length:Int)=l.k:=hF.len;obtain⟨iM,h1,h2⟩:=XD (ws:=a.ws) (es:=a.es) (d:=d) hs ⟨show (0:Int)≤(i:Nat) by omega,by omega⟩ (hF.wv i x hx);refine⟨iM,?_,?_⟩
  ·rw[Qp hx,BB (a:=⟨a.W,a.ws⟩) hx,h1]
  ·rw[BB (a:=⟨a.W,a.ws⟩) hx];exact h2
theorem Re{s:Sy}{l:Lay}{ws ws':List Int}{es iM:List Ev}(h:tw s l ws es iM ws'):iM.length≤es.length+1:=by
 rcases h with ⟨rfl,_⟩ | ⟨k,t,x,y,_,rfl,_,_⟩
 ·omega
 ·rw[bB];exact bg _
structure tS(X:Type) where
 a:WL
 x:X
structure gA(p q:Nat)(X:Type) where
 Z:List WZ
 lm:jm (cT p q)
 x:X
def gA.abs{p q:Nat}{X:Type}(t:gA p q X):tS X:=⟨⟨t.Z.map (·.x),t.lm.m,t.lm.es⟩,t.x⟩
def gA.B{X:Type}(s:Sy)(l:Lay)(p q r b7 fV:Nat)(fv:AV)(BX:X→Hp)(I:List (Nat×Nat))(t:gA p q X):Hp:=(b7,[fv])::(fV,[.ptr r 0])::((jQ (cT p q) r).B t.lm++(di s l I t.Z++BX t.x))
structure CA(s:Sy)(l:Lay)(n:Nat)(a:WL):Prop where
 free:qT s l ⟨a.W,a.ws⟩
 es:a.es.length≤n
section
variable {s:Sy} {l:Lay} {p q r b7 fV:Nat} {X:Type} {BX:X→Hp} {fv:AV} {I:List (Nat×Nat)}
theorem afD{t:gA p q X}{i:Nat}{d:Int}{n:Nat}(σ:Hp)(hs:LS s l)(hi:i<I.length)(hI:I[i].1=i)(hk:(I.length:Int)=l.k)(hn:n<100000)(hf:CA s l n t.abs.a):ACalls Tryz.prog 390 [.ptr I[i].2 0,(jQ (cT p q) r).v,.int .i64 d] (gA.B s l p q r b7 fV fv BX I t++σ) (fun z σ'=>∃t':gA p q X,t'.abs=⟨(rS s l t.abs.a i d).1,t.abs.x⟩∧z=.bool (rS s l t.abs.a i d).2∧σ'=gA.B s l p q r b7 fV fv BX I t'++σ):=by
 have hz:i<t.Z.length:=by
  have h1:=hf.free.len;have h2:((t.Z.map (·.x)).length:Int)=l.k:=h1;rw[cN]at h2;omega
 have hW:t.abs.a.W[i]?=some t.Z[i].x:=by
  show (t.Z.map (·.x))[i]?=_;rw[fD,bu hz];rfl
 have hB:=JJ (s:=s) (l:=l) hi hz;have iV:=fun (y:WZ)=>Qi (s:=s) (l:=l) hi hz y;have L5:=hf.free.wv i _ hW;rw[hI]at hB iV;have aq:=Qp (s:=s) (l:=l) (d:=d) hW;have agk:∀(y:WZ),(t.Z.set i y).map (·.x)=t.abs.a.W.set i y.x:=fun y=>by show _=(t.Z.map (·.x)).set i y.x;rw[sB]
 rw[aq]
 have key:∀(lm:jm (cT p q)) (B Y Z:Hp),Z.Perm (B++Y)→((b7,[fv])::(fV,[AV.ptr r 0])::((jQ (cT p q) r).B lm++(Z++BX t.x))++σ).Perm (B++((jQ (cT p q) r).B lm++([(b7,[fv]),(fV,[.ptr r 0])]++(Y++(BX t.x++σ))))):=fun lm B Y Z h=>by
  have h1:((b7,[fv])::(fV,[AV.ptr r 0])::((jQ (cT p q) r).B lm++(Z++BX t.x))++σ).Perm ((b7,[fv])::(fV,[AV.ptr r 0])::((jQ (cT p q) r).B lm++((B++Y)++BX t.x))++σ):=List.Perm.append_right σ (List.Perm.cons _ (List.Perm.cons _ (List.Perm.append_left _ (List.Perm.append_right _ h))));refine h1.trans ?_;have h2:=kB [[(b7,[fv]),(fV,[AV.ptr r 0])],(jQ (cT p q) r).B lm,B,Y,BX t.x] σ (a:=[0,1,2,3,4]) (b:=[2,1,0,3,4]) (by decide);simpa [List.append_assoc]using h2
 have iI:(jQ (cT p q) r).O.free ((jQ (cT p q) r).abs t.lm):=⟨trivial,by have:=hf.es;show t.lm.es.length<1000000;have h3:t.lm.es.length≤n:=this;omega⟩
 have jd:bC t.lm.m:=hf.free.fl.2.a64;refine (Tc (jQ (cT p q) r) I[i].2 t.Z[i].r t.Z[i].c t.Z[i].acc s l i t.Z[i].x d t.lm _ hs.fit iI (fun a=>BR jd a) (L5.ok hs) t.Z[i].rd).K8 (key t.lm _ _ _ hB).symm ?_;rintro _ _ ⟨m',r',c',aJ,my,hm,rfl,rfl⟩;have Dq:m'.m=(de (fW bR) s l i t.Z[i].x d (t.abs.a.ws,t.abs.a.es)).2.1.1:=congrArg Prod.fst hm;have rf:m'.es=(de (fW bR) s l i t.Z[i].x d (t.abs.a.ws,t.abs.a.es)).2.1.2:=congrArg Prod.snd hm;refine⟨_,key m' _ _ _ (iV ⟨r',c',aJ,_,my⟩),⟨t.Z.set i ⟨r',c',aJ,_,my⟩,m',t.x⟩,?_,rfl,rfl⟩;show tS.mk (WL.mk ((t.Z.set i _).map (·.x)) m'.m m'.es) t.x=_;rw[agk,Dq,rf];rfl
end
def B9(s:Sy)(l:Lay)(hs:LS s l)(p q r b7 fV:Nat)(X:Type)(BX:X→Hp)(tl:Nat→X→X)(fv:AV)(I:List (Nat×Nat))(hI:∀i (h:i<I.length),I[i].1=i)(hk:(I.length:Int)=l.k):AWorld where
 A:=tS X
 S:=gA p q X
 abs:=gA.abs
 B:=gA.B s l p q r b7 fV fv BX I
 L:=I.map fun y=>.iface 168 (.ptr y.2 0)
 mt:=143
 mx:=.agg [.ptr r 0]
 step a i d:=(⟨(rS s l a.a i d).1,a.x⟩,(rS s l a.a i d).2)
 tell a _:=⟨a.a,tl a.a.es.length a.x⟩
 free n a:=CA s l n a.a
 keeps n a i d _ h _:=by
  obtain⟨iM,h1,h2⟩:=Pg hs h.free i d;show CA s l (n+1) (rS s l a.a i d).1;rw[h1];exact⟨h.free.step hs i d,dE (Re h2) (D3 h.es)⟩
 told _ _ _ h:=h
 more _ _ h:=⟨h.free,Nat.le_succ_of_le h.es⟩
 mach i h:=by
  have hi:i<I.length:=by simpa using h
  refine .inr ⟨168,I[i].2,by simp,_,mWorker_,fun n t d σ hn hf=>?_⟩;exact afD (t:=t) (d:=d) σ hs hi (hI i hi) hk hn hf
theorem afu{s:Sy}{l:Lay}{p q r b7 fV:Nat}{X:Type}{BX:X→Hp}{tl:Nat→X→X}{gs:FuncId}{cap:List AV}{I:List (Nat×Nat)}(kN:∀(n:Nat) (x:X) (σ:Hp),ACalls Tryz.prog gs (.int .i64 n::cap) (BX x++σ) (ay (.tup []) (BX (tl n x)++σ)))
  (t:gA p q X) (k:Int) (σ:Hp) (hl:t.lm.es.length≤1000000):ACalls Tryz.prog 141 [.int .i64 k,.ptr b7 0,.ptr fV 0] (gA.B s l p q r b7 fV (.fn (.func gs) [] cap) BX I t++σ) (fun x σ'=>∃t':gA p q X,t'.abs=⟨t.abs.a,tl t.abs.a.es.length t.abs.x⟩∧x=.tup []∧σ'=gA.B s l p q r b7 fV (.fn (.func gs) [] cap) BX I t'++σ):=by
 have hN:=fun (fr σ:Hp)=>ad0 (cT p q) r t.lm fr σ hl;have e:gA.B s l p q r b7 fV (.fn (.func gs) [] cap) BX I t++σ=[(b7,[.fn (.func gs) [] cap]),(fV,[.ptr r 0])]++((jQ (cT p q) r).B t.lm++((di s l I t.Z++BX t.x)++σ)):=by simp[gA.B]
 rw[e];refine ao Tryz.func141 ?_;refine .sched [2] (upto [2] 4 0) (by kernel_rfl) ?_;refine aa 0 ?_;refine aa 1 ?_;refine .mk [] _ (hN [(b7,[.fn (.func gs) [] cap]),(fV,[.ptr r 0])] ((di s l I t.Z++BX t.x)++σ)) ?_
 have hp:∀Y:Hp,(Y++([(b7,[AV.fn (.func gs) [] cap]),(fV,[AV.ptr r 0])]++((jQ (cT p q) r).B t.lm++(di s l I t.Z++σ)))).Perm ([(b7,[AV.fn (.func gs) [] cap]),(fV,[AV.ptr r 0])]++((jQ (cT p q) r).B t.lm++((di s l I t.Z++Y)++σ))):=fun Y=>by
  have h:=kB [[(b7,[AV.fn (.func gs) [] cap]),(fV,[AV.ptr r 0])],(jQ (cT p q) r).B t.lm,di s l I t.Z,Y] σ (a:=[3,0,1,2]) (b:=[0,1,2,3]) (by decide);simpa [List.append_assoc]using h
 refine .perm _ (hp (BX t.x)) (kN t.lm.es.length t.x _) ?_;rintro _ _ ⟨rfl,rfl⟩;refine⟨_,(hp _).symm,.done ⟨⟨t.Z,t.lm,tl t.lm.es.length t.x⟩,rfl,rfl,?_⟩⟩;simp[gA.B]
set_option maxHeartbeats 4000000
def FQ{X:Type}(s:Sy)(l:Lay)(a:tS X)(i:Nat)(d:Int):tS X×Bool:=(⟨(rS s l a.a i d).1,a.x⟩,(rS s l a.a i d).2)
def FP{X:Type}(tl:Nat→X→X)(a:tS X)(_:Nat):tS X:=⟨a.a,tl a.a.es.length a.x⟩
def runN{X:Type}(s:Sy)(l:Lay)(tl:Nat→X→X)(x0:X)(ar:List (Int×Int×Unit)):jw (tS X):=iB (FQ s l) (FP tl) l.k.toNat ar ⟨⟨⟨W0 l,dM s l,[]⟩,x0⟩,List.replicate l.k.toNat 0,List.replicate l.k.toNat false,0⟩
theorem Q2{A:Type}{step:A→Nat→Int→A×Bool}{tell:A→Nat→A}{n:Nat}(P:Nat→A→Prop)(h1:∀us a k,P us a→P (us+1) (tell a k))(h2:∀us a i d k,P us a→P (us+1) (tell (step a i d).1 k)):∀(ar:List (Int×Int×Unit)) (x:jw A),P x.us x.a→P (iB step tell n ar x).us (iB step tell n ar x).a∧(iB step tell n ar x).us≤x.us+ar.length
 | [],x,h=>⟨h,bg _⟩
 |p::ps,x,h=>by
  rw[iB];split
  ·exact⟨h,by omega⟩
  ·have hu:(kJ step tell n x p).us=x.us+1:=by unfold kJ;split <;> rfl
   have hp:P (kJ step tell n x p).us (kJ step tell n x p).a:=by
    rw[hu];unfold kJ;split
    ·exact h1 _ _ _ h
    ·exact h2 _ _ _ _ _ h
   obtain⟨a,b⟩:=Q2 P h1 h2 ps _ hp;refine⟨a,?_⟩;rw[hu]at b;rw[gH];omega
theorem acm{s:Sy}{l:Lay}{ws ws':List Int}{es iM:List Ev}(h:tw s l ws es iM ws'):es.length≤iM.length:=by
 rcases h with ⟨rfl,_⟩ | ⟨k,t,x,y,_,rfl,_,_⟩
 ·exact bg _
 ·rw[bB];omega
structure U1{X:Type}(G:Nat→X→Prop)(s:Sy)(l:Lay)(us:Nat)(a:tS X):Prop where
 free:qT s l ⟨a.a.W,a.a.ws⟩
 Nj:wH s l (dM s l) a.a.es a.a.ws
 es:a.a.es.length≤us
 g:G a.a.es.length a.x
theorem Qs{X:Type}{G:Nat→X→Prop}{tl:Nat→X→X}(hG:∀n m x,G n x→n≤m→m≤n+1→G m (tl m x)){s:Sy}{l:Lay}(hs:LS s l)(cM:ic s l){x0:X}(h0:G 0 x0)(ar:List (Int×Int×Unit)):U1 G s l (runN s l tl x0 ar).us (runN s l tl x0 ar).a∧(runN s l tl x0 ar).us≤ar.length:=by
 have h:=Q2 (n:=l.k.toNat) (step:=FQ s l) (tell:=FP tl) (U1 G s l)
  (fun us a k h=>⟨h.free,h.Nj,Nat.le_succ_of_le h.es,hG _ _ _ h.g (bg _) (Nat.le_succ _)⟩)
  (fun us a i d k h=>by
   obtain⟨iM,h1,h2⟩:=Pg hs h.free i d;have hl:=Re h2
   have e:FP tl (FQ s l a i d).1 k=⟨⟨(gC s l ⟨a.a.W,a.a.ws⟩ i d).1.W,(gC s l ⟨a.a.W,a.a.ws⟩ i d).1.ws,iM⟩,tl iM.length a.x⟩:=by
    unfold FP FQ;rw[h1]
   rw[e]
   exact⟨h.free.step hs i d,.snoc h.Nj h2,dE hl (D3 h.es),hG _ _ _ h.g (acm h2) hl⟩)
  ar ⟨⟨⟨W0 l,dM s l,[]⟩,x0⟩,List.replicate l.k.toNat 0,List.replicate l.k.toNat false,0⟩ ⟨F6 cM hs,.nil,bg _,h0⟩
 exact⟨h.1,dE h.2 (by show 0+ar.length≤_;omega)⟩
theorem Rn(s:Sy)(k:Int)(ar:List (Int×Int×Unit))(gs:FuncId)(cap:List AV)(σ:Hp)(hf:Fit s)(he:¬cI s k=0):ACalls Tryz.prog 77 [.agg (aP s),.int .i64 k,.ae gV ar,.fn (.func gs) [] cap] σ (ay (.tup [.agg [.cR],.int .i64 (cI s k)]) σ):=by
 refine ao Tryz.func77 ?_;intro ax;intro bX;intro kX;refine aa 2 ?_;refine aw [] (zP s k _ hf) ?_;intro El;refine ah 0 ?_;refine cO (fun c5=>?_) (fun c5=>?_)
 ·have c5:¬(cI s k=0):=by simpa using c5
  refine ah 1 ?_;refine aa 1 ?_;exact .drop 0 4 (.done ⟨rfl,rfl⟩)
 ·have c5:cI s k=0:=by simpa using c5
  refine aa 0 ?_;exact absurd c5 he
theorem aej(s:Sy)(l:Lay)(hs:LS s l)(cM:ic s l)(p q r b7 fV lb k:Nat)(L:List Nat)(ar:List (Int×Int×Unit)){X:Type}(BX:X→Hp)(tl:Nat→X→X)(gs:FuncId)(cap:List AV)(kN:∀(n:Nat) (x:X) (σ:Hp),ACalls Tryz.prog gs (.int .i64 n::cap) (BX x++σ) (ay (.tup []) (BX (tl n x)++σ)))(x0:X)(σ:Hp)(hL:L.length=k)(hk:l.k=k)(dR:k≤64)(kh:ar.length≤100000):
  ACalls Tryz.prog 140 [(jQ (cT p q) r).v,.af lb 0 k 1,.ae gV ar,.fn (.func 141) [] [.ptr b7 0,.ptr fV 0]] ((lb,L.map iW)::(gA.B s l p q r b7 fV (.fn (.func gs) [] cap) BX (cy L) ⟨List.replicate L.length fg,⟨dM s l,[],.ag,[],.nil⟩,x0⟩++σ)) (fun _z σ'=>∃t':gA p q X,t'.abs=(runN s l tl x0 ar).a∧σ'=(lb,L.map iW)::(gA.B s l p q r b7 fV (.fn (.func gs) [] cap) BX (cy L) t'++σ)):=by
 have hI:((cy L).length:Int)=l.k:=by rw[xW];omega
 have xg:gA.abs (⟨List.replicate L.length fg,⟨dM s l,[],.ag,[],.nil⟩,x0⟩:gA p q X)=⟨⟨W0 l,dM s l,[]⟩,x0⟩:=by
  show tS.mk (WL.mk ((List.replicate L.length fg).map (·.x)) (dM s l) []) x0=_;rw[MW];unfold W0;rw[show l.k.toNat=L.length by omega];rfl
 have hl:(B9 s l hs p q r b7 fV X BX tl (.fn (.func gs) [] cap) (cy L) (sQ L) hI).L.length=k:=by
  show ((cy L).map _).length=_;rw[cN,xW];exact hL
 have DL:(B9 s l hs p q r b7 fV X BX tl (.fn (.func gs) [] cap) (cy L) (sQ L) hI).L=L.map iW:=Q1 L
 have hE:=aeF (B9 s l hs p q r b7 fV X BX tl (.fn (.func gs) [] cap) (cy L) (sQ L) hI) lb ar (⟨List.replicate L.length fg,⟨dM s l,[],.ag,[],.nil⟩,x0⟩:gA p q X) σ (by omega) kh (by
  show CA s l 0 (gA.abs (⟨List.replicate L.length fg,⟨dM s l,[],.ag,[],.nil⟩,x0⟩:gA p q X)).a
  rw[xg];exact⟨F6 cM hs,bg _⟩) 141 [.ptr b7 0,.ptr fV 0] (fun n t k σ hn hf=>afu kN t k σ (by have h:t.lm.es.length≤n:=CA.es hf;omega))
 have fp:(B9 s l hs p q r b7 fV X BX tl (.fn (.func gs) [] cap) (cy L) (sQ L) hI).run ar (gA.abs (⟨List.replicate L.length fg,⟨dM s l,[],.ag,[],.nil⟩,x0⟩:gA p q X))=runN s l tl x0 ar:=by
  unfold AWorld.run AWorld.init;rw[hl,DL,xg]
  have e1:(L.map iW).map isNil=List.replicate k false:=by
   rw[← hL,List.map_map];exact List.map_eq_replicate_iff.2 fun _ _=>rfl
  rw[e1];unfold runN;rw[show l.k.toNat=k by omega];rfl
 have vE:ACalls Tryz.prog 140 [(jQ (cT p q) r).v,.af lb 0 k 1,.ae gV ar,.fn (.func 141) [] [.ptr b7 0,.ptr fV 0]] ((lb,L.map iW)::(gA.B s l p q r b7 fV (.fn (.func gs) [] cap) BX (cy L) ⟨List.replicate L.length fg,⟨dM s l,[],.ag,[],.nil⟩,x0⟩++σ)) (BH (B9 s l hs p q r b7 fV X BX tl (.fn (.func gs) [] cap) (cy L) (sQ L) hI) ar (gA.abs (⟨List.replicate L.length fg,⟨dM s l,[],.ag,[],.nil⟩,x0⟩:gA p q X)) [(lb,L.map iW)] σ):=by
  rw[hl,DL]at hE;exact hE
 refine vE.mono ?_;rintro _ _ ⟨t',h1,_,rfl⟩;exact⟨t',Eq.trans h1 (congrArg jw.a fp),rfl⟩
def ab9{X:Type}(s:Sy)(l:Lay)(tl:Nat→X→X)(BX:X→Hp)(x0:X)(ar:List (Int×Int×Unit))(σ:Hp):AV→Hp→Prop:=fun r σ'=>∃(p q rr:Nat) (lm:jm (cT p q)) (G:Hp),r=.tup [.agg [.ptr rr 0],.int .i64 0]∧lm.es=(runN s l tl x0 ar).a.a.es∧σ'=BX (runN s l tl x0 ar).a.x++((jQ (cT p q) rr).B lm++(G++σ))∧ic s l
theorem Ua(s:Sy)(k:Nat)(l:Lay)(hl:fN s k=l)(ar:List (Int×Int×Unit)){X:Type}(BX:X→Hp)(tl:Nat→X→X)(gs:FuncId)(cap:List AV)(kN:∀(n:Nat) (x:X) (σ:Hp),ACalls Tryz.prog gs (.int .i64 n::cap) (BX x++σ) (ay (.tup []) (BX (tl n x)++σ)))(x0:X)(σ:Hp)(hf:Fit s)(he:cI s k=0)(kh:ar.length≤100000):
  ACalls Tryz.prog 77 [.agg (aP s),.int .i64 k,.ae gV ar,.fn (.func gs) [] cap] (BX x0++σ) (ab9 s l tl BX x0 ar σ):=by
 obtain⟨hs,AQ⟩:=ye hf he;obtain⟨yE,vf,tB⟩:=hs.size;obtain⟨jr,dR⟩:=(E5 he).2;have Cr:=fun p q ws σ (dG:cJ (fN s k)≤ws.length)=>Ss s k p q ws σ hf he dG;have hk:l.k=k:=by rw[← hl];exact Fy he
 have e1:AV.tup [.agg (dp (fN s k)),.int .i64 (cI s k)]=.tup [.agg (dp l),.int .i64 (cI s k)]:=by rw[hl]
 have vE:cI s l.k=0:=by rw[hk];exact he
 have ML:fN s l.k=l:=by rw[hk];exact hl
 rw[hl]at hs yE vf tB Cr;refine ao Tryz.func77 ?_;generalize hE:cI s k=E at e1 he;intro bs;intro b7;intro br;refine aa 2 ?_;refine aw [] (mf (zP s k _ hf) (hE▸e1)) ?_;intro bl;refine ah 0 ?_;refine cO (fun c1=>?_) (fun c1=>?_)
 ·have c1:¬(cI s (↑k:Int)=0):=by simpa using c1
  refine ah 1 ?_;refine aa 1 ?_;exact absurd (hE.trans he) c1
 refine aa 0 ?_;refine aw [] (Kz l _) ?_
 (refine .mk [] _ (LF _ _) ?_;rintro _ _ ⟨p,q,rfl,rfl⟩)
 rw[tB];obtain⟨us,dU⟩:∃us,List.replicate (cJ l) (0:Int)=us:=⟨_,rfl⟩
 have cQ:us.length=cJ l:=by rw[← dU];exact gh
 rw[dU,← cQ];refine aa 5 ?_;refine .mk [] _ (Cr p q us _ (by omega)) ?_;rintro _ _ ⟨rfl,rfl,cM⟩;have yo:yh s l us=dM s l:=by rw[← dU];rfl
 rw[yo];refine .mk [] _ (Sn (cT p q) _) ?_;rintro _ _ ⟨r,rfl,rfl⟩;intro ax;refine ah 0 ?_;refine .wrap 14 _ rfl rfl ?_;refine bc (S:=List Nat×AV×Hp) (fun S=>[(1,.int .i64 k),(2,.ae gV ar),(4,.ptr bs 0),(7,.ptr b7 0),(8,.ptr br 0),(10,.ptr bl 0),(13,.ptr ax 0),(14,.via S.2.1),(40,.int .i64 k),(41,.int .i64 S.1.length)]) (fun S=>(ax,[.ptr r 0])::(r,[(cT p q).v,.ag])::(p,o7 q (dM s l).length)::(q,aU (dM s l))::(bl,dp l)::(br,[.cR])::(b7,[.fn (.func gs) [] cap])::(bs,aP s)::(S.2.2++(di s l (cy S.1) (List.replicate S.1.length fg)++(BX x0++σ)))) (fun S=>S.1.length≤k∧Acc 1 S.1.length S.2.1 S.2.2 (S.1.map iW)) (fun S=>k-S.1.length) ([],.ag,[]) ⟨⟨aV _,.nil⟩,⟨rfl,rfl,rfl,rfl,rfl,rfl,rfl,rfl,rfl,rfl,trivial⟩,rfl⟩ ?_;rintro⟨L,v,acc⟩ g ⟨hLl,bF⟩;have hLl:L.length≤k:=hLl;have bF:Acc 1 L.length v acc (L.map iW):=bF;refine ai (fun c1=>?_) (fun c1=>?_)
 ·have c1:(↑L.length:Int)<(↑k:Int):=c1;refine aa 7 ?_;refine aa 4 ?_;refine .perm _ (.refl _) (Tj s l L.length _ hf vE ML (by omega) (by omega)) ?_;rintro _ _ ⟨w,rfl,rfl⟩
  have hp:(WB s l L.length w 0 .ag [] q8++((ax,[AV.ptr r 0])::(r,[(cT p q).v,.ag])::(p,o7 q (dM s l).length)::(q,aU (dM s l))::(bl,dp l)::(br,[.cR])::(b7,[.fn (.func gs) [] cap])::(bs,aP s)::(acc++(di s l (cy L) (List.replicate L.length fg)++(BX x0++σ))))).Perm ((ax,[AV.ptr r 0])::(r,[(cT p q).v,.ag])::(p,o7 q (dM s l).length)::(q,aU (dM s l))::(bl,dp l)::(br,[.cR])::(b7,[.fn (.func gs) [] cap])::(bs,aP s)::(acc++(di s l (cy (L++[w])) (List.replicate (L++[w]).length fg)++(BX x0++σ)))):=by
   rw[Qh];have h:=kB [[(ax,[AV.ptr r 0]),(r,[(cT p q).v,.ag]),(p,o7 q (dM s l).length),(q,aU (dM s l)),(bl,dp l),(br,[.cR]),(b7,[.fn (.func gs) [] cap]),(bs,aP s)],acc,di s l (cy L) (List.replicate L.length fg),WB s l L.length w 0 .ag [] q8] (BX x0++σ) (a:=[3,0,1,2]) (b:=[0,1,2,3]) (by decide);simpa [List.append_assoc]using h
  refine⟨_,hp.symm,?_⟩;intro b5;refine eS [_,_,_,_,_,_,_,_,_] bF (.af 0 b5 0 1 _ rfl (cj rfl)) rfl (by omega) (by decide) (by decide) (fun v' aJ h'=>?_);have fT:(L++[w]).length=L.length+1:=by rw[bB];rfl
  exact aM (L++[w],v',aJ) (by show k-(L++[w]).length<k-L.length;omega) ⟨by show (L++[w]).length≤k;omega,by show Acc 1 (L++[w]).length v' aJ ((L++[w]).map iW);rw[fT,cE];exact h'⟩ ⟨rfl,rfl,rfl,rfl,rfl,rfl,rfl,rfl,rfl,by show AV.int .i64 _=.int .i64 ((L++[w]).length:Nat);rw[fT];exact aI (by omega),trivial⟩ (.drop 0 1 (.refl _))
 ·have c1:¬((↑L.length:Int)<(↑k:Int)):=c1;have hLk2:L.length=k:=by omega
  obtain⟨lb,rfl,rfl⟩:=E1 bF (by omega);refine aa 0 ?_
  have hp:∀(A B C:Hp),([(lb,L.map iW)]++([(b7,[AV.fn (.func gs) [] cap]),(ax,[AV.ptr r 0])]++(A++(B++C))++([(bl,dp l),(br,[.cR]),(bs,aP s)]++σ))).Perm ((ax,[AV.ptr r 0])::(A++([(bl,dp l),(br,[AV.cR]),(b7,[.fn (.func gs) [] cap]),(bs,aP s),(lb,L.map iW)]++(B++(C++σ))))):=fun A B C=>by
   have h:=kB [[(lb,L.map iW)],[(b7,[AV.fn (.func gs) [] cap])],[(ax,[AV.ptr r 0])],A,B,C,[(bl,dp l),(br,[.cR])],[(bs,aP s)]] σ (a:=[0,1,2,3,4,5,6,7]) (b:=[2,3,6,1,7,0,4,5]) (by decide);simpa [List.append_assoc]using h
  have hq:∀(A B C:Hp),([(lb,L.map iW)]++([(b7,[AV.fn (.func gs) [] cap]),(ax,[AV.ptr r 0])]++(A++(B++C))++([(bl,dp l),(br,[.cR]),(bs,aP s)]++σ))).Perm ((ax,[AV.ptr r 0])::(br,[AV.cR])::(C++(A++(([(bl,dp l),(b7,[.fn (.func gs) [] cap]),(bs,aP s),(lb,L.map iW)]++B)++σ)))):=fun A B C=>by
   have h:=kB [[(lb,L.map iW)],[(b7,[AV.fn (.func gs) [] cap])],[(ax,[AV.ptr r 0])],A,B,C,[(bl,dp l)],[(br,[.cR])],[(bs,aP s)]] σ (a:=[0,1,2,3,4,5,6,7,8]) (b:=[2,7,5,3,6,1,8,0,4]) (by decide);simpa [List.append_assoc]using h
  refine .perm _ (hp ((jQ (cT p q) r).B ⟨dM s l,[],.ag,[],.nil⟩) (di s l (cy L) (List.replicate L.length fg)) (BX x0)) (aej s l hs cM p q r b7 ax lb L.length L ar BX tl gs cap kN x0 _ rfl (by omega) (by omega) kh) ?_;rintro _ _ ⟨t',h1,rfl⟩;refine⟨_,(hq ((jQ (cT p q) r).B t'.lm) (di s l (cy L) t'.Z) (BX t'.x)).symm,?_⟩;refine aa 0 ?_;refine ah 1 ?_;refine aa 1 ?_;refine .drop 0 2 (.done ⟨p,q,r,t'.lm,[(bl,dp l),(b7,[.fn (.func gs) [] cap]),(bs,aP s),(lb,L.map iW)]++di s l (cy L) t'.Z,rfl,?_,?_,cM⟩)
  ·rw[← h1];rfl
  ·rw[← h1];rfl
set_option maxHeartbeats 4000000
theorem Y0(n:Nat)(σ:Hp):ACalls Tryz.prog 78 [.int .i64 n] σ (ay (.tup []) σ):=by
 refine ao Tryz.func78 ?_;exact .done ⟨rfl,rfl⟩
def xB(s:Sy)(l:Lay)(ar:List (Int×Int×Unit)):List Ev:=(runN s l (fun _ (x:Unit)=>x) () ar).a.a.es
theorem aaV(M:AMem)(r:Nat)(s:jm M)(fr σ:Hp)(hl:s.es.length≤1000000):ACalls Tryz.prog 79 [.ptr r 0] (fr++((ym M r).B s++σ)) (ay (.ae ga (s.es.map Ev.d)) (fr++((ym M r).B s++σ))):=by
 have h:=aaW M r s (M.B s.m++(fr++σ)) hl
 have e:(r,[M.v,s.c])::(s.acc++(M.B s.m++(fr++σ)))=(ym M r).B s++(fr++σ):=by
  show _=((r,[M.v,s.c])::(s.acc++M.B s.m))++(fr++σ);simp
 rw[e]at h;exact h.SQ (ew fr _ σ) (ew fr _ σ).symm
theorem Sa{s:Sy}{l:Lay}(hs:LS s l)(cM:ic s l)(ar:List (Int×Int×Unit)):(xB s l ar).length≤ar.length∧∃ws,wH s l (dM s l) (xB s l ar) ws:=by
 have h:=Qs (G:=fun _ (_:Unit)=>True) (tl:=fun _ x=>x) (fun _ _ _ _ _ _=>trivial) hs cM (x0:=()) trivial ar;exact⟨dE h.1.es h.2,_,h.1.Nj⟩
theorem aaD(s:Sy)(k:Nat)(l:Lay)(hl:fN s k=l)(hs:LS s l)(ar:List (Int×Int×Unit))(σ:Hp)(hf:Fit s)(he:cI s k=0)(kh:ar.length≤100000):ACalls Tryz.prog 34 [.agg (aP s),.int .i64 k,.ae gV ar] σ (fun r σ'=>r=.tup [.ae ga ((xB s l ar).map Ev.d),.int .i64 0]∧σ'=σ∧ic s l):=by
 refine ao Tryz.func34 ?_;intro ax;refine aa 0 ?_;refine .mk [] _ (Ua s k l hl ar (fun _:Unit=>[]) (fun _ x=>x) 78 [] (fun n _ σ=>Y0 n σ) () _ hf he kh) ?_;rintro _ _ ⟨p,q,r,lm,G,rfl,vq,rfl,cM⟩;have vq:lm.es=xB s l ar:=vq;have yO:=(Sa hs cM ar).1;intro b9;refine ah 0 ?_;refine aa 0 ?_;have hE:=aaV (cT p q) r lm [(b9,[.ptr r 0])] (G++((ax,aP s)::σ)) (by rw[vq];omega);rw[vq]at hE;refine aw [] hE ?_;have h:=Jb (R:=fun r σ'=>r=.tup [.ae ga ((xB s l ar).map Ev.d),.int .i64 0]∧σ'=σ∧ic s l) (x:=.tup [.ae ga ((xB s l ar).map Ev.d),.int .i64 0]) ([(b9,[.ptr r 0])]++((ym (cT p q) r).B lm++(G++[(ax,aP s)]))) (.done ⟨rfl,rfl,cM⟩);simp only[cU]at h;exact h
theorem Wi(s:Sy)(k:Int)(ar:List (Int×Int×Unit))(σ:Hp)(hf:Fit s)(he:¬cI s k=0):ACalls Tryz.prog 34 [.agg (aP s),.int .i64 k,.ae gV ar] σ (ay (.tup [.ag,.int .i64 (cI s k)]) σ):=by
 refine ao Tryz.func34 ?_;intro ax;refine aa 0 ?_;refine aw [] (Rn s k ar 78 [] _ hf he) ?_;intro bX;refine ah 0 ?_;refine cO (fun c3=>?_) (fun c3=>?_)
 ·have c3:¬(cI s k=0):=by simpa using c3
  exact .drop 0 2 (.done ⟨rfl,rfl⟩)
 ·have c3:cI s k=0:=by simpa using c3
  exact absurd c3 he
def Ae(n:Nat)(x:Int×Bool):Int×Bool:=(n,x.2&&decide ((n:Int)≤wr (x.1+1)))
def Ly(b8 b9:Nat)(x:Int×Bool):Hp:=[(b9,[.bool x.2]),(b8,[.int .i64 x.1])]
theorem Zc(b8 b9 n:Nat)(w:Int)(o:Bool)(σ:Hp):ACalls Tryz.prog 80 [.int .i64 n,.ptr b9 0,.ptr b8 0] ((b9,[.bool o])::(b8,[.int .i64 w])::σ) (ay (.tup []) ((b9,[.bool (o&&decide ((n:Int)≤wr (w+1)))])::(b8,[.int .i64 n])::σ)):=by
 refine ao Tryz.func80 ?_;cases o with
 |true=>
  refine aa 0 ?_;refine aa 1 ?_;refine ai (fun c1=>?_) (fun c1=>?_)
  ·have c1:(↑n:Int)≤IntKind.i64.wrap (w+1):=c1;refine ah 0 ?_;refine ah 1 ?_;exact .done ⟨rfl,by rw[show wr (w+1)=IntKind.i64.wrap (w+1) from rfl,aX c1];rfl⟩
  ·have c1:¬((↑n:Int)≤IntKind.i64.wrap (w+1)):=c1;refine ah 0 ?_;refine ah 1 ?_;exact .done ⟨rfl,by rw[show wr (w+1)=IntKind.i64.wrap (w+1) from rfl,cp c1];rfl⟩
 |false=>
  refine aa 0 ?_;refine ah 0 ?_;refine ah 1 ?_;exact .done ⟨rfl,rfl⟩
theorem aaP(b8 b9 n:Nat)(x:Int×Bool)(σ:Hp):ACalls Tryz.prog 80 [.int .i64 n,.ptr b9 0,.ptr b8 0] (Ly b8 b9 x++σ) (ay (.tup []) (Ly b8 b9 (Ae n x)++σ)):=Zc b8 b9 n x.1 x.2 σ
theorem aaQ(s:Sy)(k:Int)(ar:List (Int×Int×Unit))(σ:Hp)(hf:Fit s)(he:¬cI s k=0):ACalls Tryz.prog 35 [.agg (aP s),.int .i64 k,.ae gV ar] σ (ay (.tup [.bool false,.int .i64 (cI s k)]) σ):=by
 refine ao Tryz.func35 ?_;intro ax;intro bX;intro kX;refine ah 1 ?_;refine ah 0 ?_;refine aa 2 ?_;refine aw [] (Rn s k ar 80 [.ptr kX 0,.ptr bX 0] _ hf he) ?_;intro ax;refine ah 0 ?_;refine aa 1 ?_;refine ai (fun c2=>?_) (fun c2=>?_)
 ·have c2:cI s k=0:=c2;exact absurd c2 he
 ·exact .drop 0 4 (.done ⟨rfl,rfl⟩)
theorem ZW(s:Sy)(l:Lay)(hs:LS s l)(cM:ic s l)(ar:List (Int×Int×Unit))(kh:ar.length≤100000):(runN s l Ae (0,true) ar).a.x.2=true:=by
 have h:=Qs (G:=fun n (x:Int×Bool)=>n≤100000→x=((n:Int),true)) (tl:=Ae) (fun n m x h h1 h2 hm=>by
  have h:=h (by omega);rw[h];unfold Ae;have e:((m:Int)≤wr ((n:Int)+1)):=by rw[gT (by omega) (by omega)];omega
  rw[aX e];rfl) hs cM (x0:=(0,true)) (fun _=>rfl) ar
 rw[h.1.g (by have:=h.1.es;have:=h.2;omega)]
theorem afC(s:Sy)(k:Nat)(l:Lay)(hl:fN s k=l)(hs:LS s l)(ar:List (Int×Int×Unit))(σ:Hp)(hf:Fit s)(he:cI s k=0)(kh:ar.length≤100000):ACalls Tryz.prog 35 [.agg (aP s),.int .i64 k,.ae gV ar] σ (ay (.tup [.bool true,.int .i64 0]) σ):=by
 refine ao Tryz.func35 ?_;intro ax;intro bX;intro kX;refine ah 1 ?_;refine ah 0 ?_;refine aa 2 ?_;refine .mk [] _ (Ua s k l hl ar (Ly bX kX) Ae 80 [.ptr kX 0,.ptr bX 0] (fun n x σ=>aaP bX kX n x σ) (0,true) _ hf he kh) ?_;rintro _ _ ⟨p,q,r,lm,G,rfl,vq,rfl,cM⟩;have h1:=ZW s l hs cM ar kh;obtain⟨x,hx⟩:∃x,x=(runN s l Ae (0,true) ar).a.x:=⟨_,rfl⟩
 rw[← hx]at h1 ⊢;obtain⟨w,o⟩:=x;obtain rfl:o=true:=h1;intro b9;refine ah 0 ?_;refine aa 1 ?_;have h:=Jb (R:=ay (.tup [.bool true,.int .i64 0]) σ) (x:=.tup [.bool true,.int .i64 0]) ([(b9,[.ptr r 0]),(kX,[.bool true]),(bX,[.int .i64 w])]++((jQ (cT p q) r).B lm++(G++[(ax,aP s)]))) (.done ⟨rfl,rfl⟩);simp only[cU]at h;exact h
set_option maxHeartbeats 4000000
def zV(l:Lay)(pt:Int):Int:=if pt=1∨pt=2 then l.n else if pt=3 then 1 else l.k
def wB(l:Lay)(pt:Int):Int:=if pt=1 then l.words else if pt=2∨pt=3 then 1 else ((2+rm (fH l):Nat):Int)
theorem afE(b:Nat)(l:Lay)(pt:Int)(σ:Hp):ACalls Tryz.prog 86 [.int .i64 pt,.ptr b 0] ((b,dp l)::σ) (ay (.tup [.int .i64 (zV l pt),.int .i64 (wB l pt)]) ((b,dp l)::σ)):=by
 refine ao Tryz.func86 ?_;refine ai (fun c1=>?_) (fun c1=>?_)
 ·have c1:pt=1:=c1;refine .quiet (by kernel_rfl) ?_;refine aa 0 ?_;refine aa 0 ?_;subst c1;exact .done ⟨rfl,rfl⟩
 ·have c1:¬(pt=1):=c1;refine ai (fun c2=>?_) (fun c2=>?_)
  ·have c2:pt=2:=c2;refine aa 0 ?_;subst c2;exact .done ⟨rfl,rfl⟩
  ·have c2:¬(pt=2):=c2;refine ai (fun c3=>?_) (fun c3=>?_)
   ·have c3:pt=3:=c3;subst c3;exact .done ⟨rfl,rfl⟩
   ·have c3:¬(pt=3):=c3;refine .quiet (by kernel_rfl) ?_;refine aa 0 ?_;refine aa 0 ?_;refine .mk [] _ (Gb l _) ?_;refine .mk [] _ (Sg (fH l) _) ?_;have e1:zV l pt=l.k:=by unfold zV;rw[aB (by omega),aB c3]
    have e2:wB l pt=((2+rm (fH l):Nat):Int):=by unfold wB;rw[aB c1,aB (by omega)]
    rw[e1,e2];exact .done ⟨rfl,rfl⟩
def Av(s:Sy)(l:Lay)(pt:Nat):Nat:=if pt=1 then nN s*nW l else if pt=2 then nN s else if pt=3 then 1 else l.k.toNat*(nN s+3)
def Ah(s:Sy)(l:Lay)(pt:Nat):Nat:=if pt=1 then 0 else if pt=2 then nN s*nW l else if pt=3 then nN s*nW l+nN s else nN s*nW l+nN s+1
theorem B3{z:Int}(n:Nat)(h:z=n)(hn:n<9000000000000000000):IntKind.i64.wrap z=(n:Int):=by rw[h,IntKind.wrap_i64];omega
theorem ZJ{s:Sy}{l:Lay}(hs:LS s l){pt:Nat}(h1:1≤pt)(h4:pt≤4):IntKind.i64.wrap (zV l pt*wB l pt)=(Av s l pt:Int)∧0≤wB l pt:=by
 have hn:=hs.nn;have hw:=hs.ww;have jr:=hs.k1;have dR:=hs.k2;have dG:=hs.Db;have dw:=hs.size.2.1;have Ds:=hs.n;have hr:=hs.room.2;have hkt:l.k=(l.k.toNat:Int):=by omega
 obtain rfl | rfl | rfl | rfl:pt=1∨pt=2∨pt=3∨pt=4:=by omega
 ·refine⟨B3 (nN s*nW l) ?_ (by omega),by show 0≤l.words;omega⟩;show l.n*l.words=_;rw[Ds,hn.1,hw.1];rfl
 ·refine⟨B3 (nN s) ?_ (by omega),by show (0:Int)≤1;omega⟩;show l.n*1=_;omega
 ·exact⟨B3 1 rfl (by omega),by show (0:Int)≤1;omega⟩
 ·refine⟨B3 (l.k.toNat*(nN s+3)) ?_ (by omega),by show (0:Int)≤((2+rm (fH l):Nat):Int);omega⟩;show l.k*((2+rm (fH l):Nat):Int)=_;rw[hr,hkt,show 2+(nN s+1)=nN s+3 by omega];rfl
theorem ZI{s:Sy}{l:Lay}(hs:LS s l){pt:Nat}(h1:1≤pt)(h4:pt≤4):(pt<4→Ah s l (pt+1)=Ah s l pt+Av s l pt)∧(pt=4→Ah s l pt+Av s l pt=cJ l):=by
 have dG:=hs.Db;obtain rfl | rfl | rfl | rfl:pt=1∨pt=2∨pt=3∨pt=4:=by omega
 ·exact⟨fun _=>(dD _).symm,fun h=>absurd h (by decide)⟩
 ·exact⟨fun _=>rfl,fun h=>absurd h (by decide)⟩
 ·exact⟨fun _=>rfl,fun h=>absurd h (by decide)⟩
 ·exact⟨fun h=>absurd h (by decide),fun _=>dG.symm⟩
theorem afA(s:Sy)(l:Lay)(hs:LS s l)(a:Nat)(ha:a<cJ l)(σ:Hp):ACalls Tryz.prog 38 [.agg (dp l),.int .i64 a] σ (fun r σ'=>∃pt q:Int,r=.tup [.int .i64 pt,.int .i64 q]∧σ'=σ∧pt≠0∧(pt=1→a<nN s*nW l)):=by
 have dw:=hs.size.2.1;refine ao Tryz.func38 ?_;intro ax;refine bc (S:=Nat×Nat) (fun S=>[(1,.int .i64 S.2),(6,.fn (.func 86) [] [.ptr ax 0]),(7,.int .i64 S.1)]) (fun _=>(ax,dp l)::σ) (fun S=>1≤S.1∧S.1≤4∧a=S.2+Ah s l S.1) (fun S=>5-S.1) (1,a) ⟨⟨bg 1,by show 1≤4;decide,rfl⟩,⟨rfl,rfl,rfl,trivial⟩,rfl⟩ ?_;rintro⟨pt,x⟩ g ⟨h1,h4,hx⟩;have h1:1≤pt:=h1;have h4:pt≤4:=h4;have hx:a=x+Ah s l pt:=hx;obtain⟨hm,hw⟩:=ZJ hs h1 h4;obtain⟨ho1,Hv⟩:=ZI hs h1 h4;refine ai (fun c1=>?_) (fun c1=>?_)
 ·have c1:(↑pt:Int)≤4:=c1;refine aw [] (afE ax l pt _) ?_;refine ai (fun c2=>?_) (fun c2=>?_)
  ·have c2:IntKind.i64.wrap (zV l (↑pt:Int)*wB l (↑pt:Int))≤(↑x:Int):=c2;rw[hm]at c2
   have hp4:pt<4:=by
    rcases sx pt 4 with h | h
    ·exact h
    ·have:=Hv (by omega);omega
   have ho:=ho1 hp4;exact aM (pt+1,x-Av s l pt) (by show 5-(pt+1)<5-pt;omega) ⟨by show 1≤pt+1;omega,hp4,by show a=x-Av s l pt+Ah s l (pt+1);omega⟩ ⟨by show AV.int .i64 _=.int .i64 ((x-Av s l pt:Nat):Int);rw[hm];exact congrArg (AV.int .i64) (B3 _ (by omega) (by omega)),rfl,aI (by omega),trivial⟩ (.refl _)
  ·have c2:¬(IntKind.i64.wrap (zV l (↑pt:Int)*wB l (↑pt:Int))≤(↑x:Int)):=c2;refine .quiet (by kernel_rfl) ?_;have Hm:wB l (pt:Int)≠0:=fun h=>c2 (by rw[h,Int.mul_zero];show IntKind.i64.wrap 0≤_;rw[IntKind.wrap_i64];omega);refine aF.mk Hm ?_;rw[hm]at c2;refine .drop 0 1 (.done ⟨pt,_,rfl,rfl,by omega,fun h=>?_⟩);obtain rfl:pt=1:=by omega
   have hx:a=x:=hx;have c2:¬((nN s*nW l:Nat):Int)≤x:=c2;omega
 ·have c1:¬((↑pt:Int)≤4):=c1;exact absurd c1 (by omega)
def dL:Sy:=⟨1,2,1,[],[0],[1],[([0],[0],[],())]⟩
theorem Kn:cI dL (1:Nat)=0:=by decide +kernel
theorem BS:Fit dL:=⟨Gl (by unfold bO;omega),by decide,by decide,by decide,by decide,fun t ht=>by
 rw[bj.1 ht];exact⟨Gl (by unfold bO;omega),Gl (by unfold bO;omega),by decide,by decide,by decide⟩⟩
theorem ack:fN dL (1:Nat)=ml:=by
 unfold fN;rw[Kn,show ez dL.what dL.w=1 by decide +kernel];rfl
theorem ach(cM:ic dL ml):mS dL ml=[[0]]:=by
 have hA:=cM.all;have hO:=cM.own 0 (by decide);have hl:(qZ (nN dL) dL.cd dL.entry).length=1:=hA.len;obtain⟨z,hz⟩:=List.length_eq_one_iff.1 hl;have l0:=hA.rg z (by rw[hz];exact bj.2 rfl);have yE:z=0:=by have:(nN dL:Int)=1:=(by decide +kernel);omega
 unfold mS CC jP;rw[hz,yE];have hk:ml.k.toNat=1:=rfl;rw[hk]at hO ⊢;have h0:(jA (nN dL) 1 dL.cd).getD 0 0=0:=by omega
 show [List.filter (fun x:Int=>decide ((jA (nN dL) 1 dL.cd).getD x.toNat 0=((0:Nat):Int))) [0]]=[[0]];rw[Ie,az (by show decide ((jA (nN dL) 1 dL.cd).getD 0 0=((0:Nat):Int))=true;rw[h0];rfl)];rfl
theorem aae(cM:ic dL ml):dM dL ml=Uj:=by
 unfold dM yh;rw[ach cM]
 decide +kernel
theorem aci(cM:ic dL ml):fx dL ml []=wT:=by
 unfold fx D5 G8;rw[aae cM];rfl
theorem aad(cM:ic dL ml):KF dL ml 1 (fx dL ml [])=rR [[1]] [true] 1 0 0 0 [1] [2] [false]:=by
 rw[aci cM];unfold KF;rw[show rX ml wT.a.ws (nN dL)=[[1]] by decide +kernel,show B4 ml wT.a.ws (nN dL)=[true] by decide +kernel,show wr (eT wT.a.ws (fL ml))=1 by decide +kernel,show sG wT.a.W=0 by decide +kernel,show sk wT.a.W=0 by decide +kernel,show Gg ml wT.a.ws 1=[1] by decide +kernel,show KW ml wT.a.ws 1=[2] by decide +kernel];rfl
theorem Rc:Good dL:=(ye BS Kn).1.nf
theorem B8(x:Int)(h:bO x):lT [[x]]:=⟨cj rfl,fun y hy=>by rw[bj.1 hy];exact⟨Gl h,cj rfl⟩⟩
structure AtF(s:Sy)(k:Nat)(l:Lay)(x:jw WA):Prop where
 ok:ic s l
 lk:l.k=(k:Int)
 lay:fN s k=l
 free:qT s l x.a
 dl:x.dn.length=k
 wl:x.a.W.length=k
theorem ah3(s:Sy)(k:Nat)(ar:List (Int×Int×Unit))(σ:Hp)(hf:Fit s)(he:cI s k=0)(kh:ar.length≤100000):ACalls Tryz.prog 14 [.agg (aP s),.int .i64 k,.ae gV ar] σ (fun r σ'=>∃(l:Lay) (_:LS s l),AtF s k l (fx s l ar)∧r=.tup [.agg (KF s l k (fx s l ar)),.int .i64 0]∧σ'=σ):=by
 obtain⟨hs,AQ⟩:=ye hf he;obtain⟨l,hl⟩:∃l,fN s k=l:=⟨_,rfl⟩
 have hk:l.k=k:=by rw[← hl];exact Fy he
 rw[hl]at hs;have dR:=hs.k2;have hnn:=hs.nn;have hn:=hs.n;obtain⟨xd,qo⟩:=abu s l ar;have e:l.k.toNat=k:=by omega
 rw[e]at xd qo;refine (afK s k l hl ar σ hf he kh (by omega) (by omega) (by omega) (by omega) qo).mono ?_;rintro _ _ ⟨rfl,rfl,cM⟩;exact⟨l,hs,⟨cM,hk,hl,(adl hs cM ar).free,xd,qo⟩,rfl,rfl⟩
theorem J3(σ:Hp):ACalls Tryz.prog 14 [.agg (aP dL),.int .i64 1,.ae gV []] σ (ay (.tup [.agg (rR [[1]] [true] 1 0 0 0 [1] [2] [false]),.int .i64 0]) σ):=by
 refine (ah3 dL 1 [] σ BS Kn (by decide)).mono ?_;rintro _ _ ⟨l,hs,hX,rfl,rfl⟩;obtain rfl:l=ml:=hX.lay.symm.trans ack;rw[aad hX.ok];exact⟨rfl,rfl⟩
theorem Rb:lT (r7 dL).1:=by
 rw[show (r7 dL).1=[[1]] by decide +kernel];exact B8 1 (by unfold bO;omega)
theorem JB(σ:Hp):ACalls Tryz.prog 75 [.agg (aP dL),.agg (rR [[1]] [true] 1 0 0 0 [1] [2] [false])] σ (ay (.bool true) σ):=
 aei dL _ _ _ _ _ _ _ _ _ σ BS Rc (B8 1 (by unfold bO;omega)) Rb (by decide) (by decide +kernel) (by decide +kernel) rfl (by decide +kernel) (by decide +kernel) fun i hi=>by
  obtain rfl:i=0:=Nat.le_zero.1 (Nat.le_of_lt_succ hi)
  decide +kernel
theorem acj(σ:Hp):ACalls Tryz.prog 75 [.agg (aP dL),.agg (rR [[3]] [true] 1 0 0 0 [1] [2] [false])] σ (ay (.bool false) σ):=
 acE dL _ _ _ _ _ _ _ _ _ σ BS Rc (B8 3 (by unfold bO;omega)) Rb (by decide +kernel)
theorem P1(σ:Hp):ACalls Tryz.prog 76 [.agg (aP dL),.agg (rR [[1]] [true] 1 0 0 0 [1] [2] [false]),.agg (rR [[1]] [true] 1 0 0 0 [1] [2] [false])] σ (ay (.bool true) σ):=
 mf (acG dL _ _ _ _ _ _ _ _ _ _ _ _ _ _ _ _ _ _ σ BS (B8 1 (by unfold bO;omega)) (B8 1 (by unfold bO;omega))) (bJ (by decide +kernel))
theorem Xe(σ:Hp):ACalls Tryz.prog 33 [.agg (aP dL),.int .i64 1,.ae gV []] σ (ay (.tup [.int .i64 0,.bool false,.int .i64 0]) σ):=by
 have hA:∀(i:Nat) (σ:Hp),ACalls Tryz.prog 14 [.agg (aP dL),.int .i64 1,.ae gV (([]:List (Int×Int×Unit)).take i)] σ (ay (.tup [.agg (rR [[1]] [true] 1 0 0 0 [1] [2] [false]),.int .i64 0]) σ):=fun i σ=>by cases i <;> exact J3 σ
 refine ao Tryz.func33 ?_;intro b3;refine aa 0 ?_;refine JG (ys:=[.agg (aP dL),.int .i64 1,.ae gV []]) (bZ (.refl _) (bZ (.refl _) (bZ (.nil gV) (.refl _)))) ?_;refine aw [] (J3 _) ?_;intro b9;refine ah 0 ?_;refine bc (S:=Nat) (fun i=>[(1,.int .i64 1),(2,.ae gV []),(3,.ptr b3 0),(9,.ptr b9 0),(25,.int .i64 1),(26,.int .i64 i)]) (fun _=>(b9,rR [[1]] [true] 1 0 0 0 [1] [2] [false])::(b3,aP dL)::σ) (fun i=>i≤0+1) (fun i=>0+1-i) 0 ⟨aV _,⟨rfl,rfl,rfl,rfl,rfl,rfl,trivial⟩,by rfl⟩ ?_;intro i g dK;have Dx:i≤0+1:=dK;clear dK;refine ai (p:=(i:Int)<1) (fun ab=>?_) (fun ak=>?_)
 ·have ab:i≤0:=by omega
  refine .sched [5] (kl [0,1,2,3,4] (.Ao 5 (ca [6,7,8,9,10,11]) (.one 9 false (.one 5 true (ca [6,7,8,10,11]))))) (by kernel_rfl) ?_;refine aa 1 ?_;refine aF.mk ⟨by decide,by omega,Int.ofNat_le.2 ab,rfl⟩ ?_;refine And.intro ?_ ?_
  ·refine aN [] (hA i _) ?_;intro ax;refine ah 0 ?_;refine aa 2 ?_;refine aa 0 ?_;refine aw [] (JB _) ?_;refine aa 2 ?_;refine aa 1 ?_;refine aa 0 ?_;refine aw [] (P1 _) ?_;refine aa 0 ?_;refine ah 1 ?_;exact aM (i+1) (by show 0+1-(i+1)<0+1-i;omega) (D3 ab) ⟨rfl,rfl,rfl,rfl,rfl,aI (by omega),trivial⟩ (.drop 0 1 (.refl _))
  ·intro ax;refine aN [] (hA i _) ?_;refine ah 0 ?_;refine aa 2 ?_;refine aa 0 ?_;refine aw [] (JB _) ?_;refine aa 2 ?_;refine aa 1 ?_;refine aa 0 ?_;refine aw [] (P1 _) ?_;refine aa 0 ?_;refine ah 1 ?_;exact aM (i+1) (by show 0+1-(i+1)<0+1-i;omega) (D3 ab) ⟨rfl,rfl,rfl,rfl,rfl,aI (by omega),trivial⟩ (.drop 0 1 (.refl _))
 exact .drop 0 2 (.done ⟨rfl,rfl⟩)
theorem Zf(σ:Hp):ACalls Tryz.prog 32 [] σ (ay (.bool true) σ):=by
 refine ao Tryz.func32 ?_;intro ax;intro bX;intro kX;intro El;intro tR;intro Iq;refine ah 0 ?_;refine aa 0 ?_;refine .jZ 3 kX 0 1 1 _ (.int .u64) ([0]:List Int) rfl rfl ⟨rfl,rfl,by decide⟩ 1 0 tR _ rfl rfl ?_;refine .jZ 2 El 0 1 1 _ (.int .u64) ([0]:List Int) rfl rfl ⟨rfl,rfl,by decide⟩ 1 1 tR _ rfl rfl ?_;refine FK 1 2 tR _ jg rfl rfl ?_;refine JF (ys:=[.agg [.int .i64 1,.int .i64 2,.int .i64 1,.ag,.af ax 0 1 1,.af bX 0 1 1,.ae j9 dL.T],.int .i64 1,.ag]) 1 tR 0 1 3 _ j9 dL.T rfl rfl ⟨rfl,rfl,by decide⟩ 0 6 Iq _ rfl rfl (bZ (zB (bZ (.refl _) (bZ (.refl _) (bZ (.refl _) (bZ (.refl _) (bZ (.refl _) (bZ (.refl _) (bZ .here sU))))))) rfl) (.refl _)) ?_;refine JF (ys:=[.agg [.int .i64 1,.int .i64 2,.int .i64 1,.ag,.af ax 0 1 1,.ae (.int .u64) dL.init,.ae j9 dL.T],.int .i64 1,.ag]) 1 bX 0 1 1 _ (.int .u64) dL.init rfl rfl ⟨rfl,rfl,by decide⟩ 0 5 Iq _ rfl rfl (bZ (zB (bZ (.refl _) (bZ (.refl _) (bZ (.refl _) (bZ (.refl _) (bZ (.refl _) (bZ .here (.refl _))))))) rfl) (.refl _)) ?_;refine JF (ys:=[.agg [.int .i64 1,.int .i64 2,.int .i64 1,.ag,.ae (.int .i64) dL.entry,.ae (.int .u64) dL.init,.ae j9 dL.T],.int .i64 1,.ag]) 1 ax 0 1 1 _ (.int .i64) dL.entry rfl rfl ⟨rfl,rfl,by decide⟩ 0 4 Iq _ rfl rfl (bZ (zB (bZ (.refl _) (bZ (.refl _) (bZ (.refl _) (bZ (.refl _) (bZ .here (.refl _)))))) rfl) (.refl _)) ?_;refine FK 0 3 Iq _ cg rfl rfl ?_;refine JG (ys:=[.agg (aP dL),.int .i64 1,.ae gV []]) (bZ (zB (bZ (.refl _) (bZ (.refl _) (bZ (.refl _) (bZ (.nil cg) (.refl _))))) rfl) (bZ (.refl _) (bZ (.nil gV) (.refl _)))) ?_;refine aw [] (Xe _) ?_;refine aa 0 ?_;refine JG (ys:=[.agg (aP dL),.int .i64 1,.ae gV []]) (bZ (.refl _) (bZ (.refl _) (bZ (.nil gV) (.refl _)))) ?_;refine aw [] (J3 _) ?_;intro ax;refine ah 0 ?_;refine aa 1 ?_;refine aa 0 ?_;refine aw [] (JB _) ?_;intro ax;intro bX;refine ah 2 ?_;refine aa 3 ?_;refine aa 2 ?_;refine .jZ 1 ax 0 1 1 _ (.int .u64) ([3]:List Int) rfl rfl ⟨rfl,rfl,by decide⟩ 0 0 bX _ rfl rfl ?_;refine .cb (args':=[.agg (aP dL),.agg (rR [[3]] [true] 1 0 0 0 [1] [2] [false])]) 0 bX 0 1 1 _ (.slice (.int .u64)) ([[3]]:List (List Int)) rfl rfl ⟨rfl,rfl,by decide⟩ (bZ (.refl _) (bZ (zB (bZ .here (.refl _)) rfl) (.refl _))) ?_;refine aw [] (acj _) ?_;exact .drop 0 2 (.done ⟨rfl,rfl⟩)
set_option maxHeartbeats 4000000
theorem aeT{s:Sy}{l:Lay}(hs:LS s l):cJ l≤300000:=by
 have h:=hs.Db;have hn:=hs.nn;have hw:=hs.ww;have h1:nN s*nW l≤256*1024:=oe hn.2.2 hw.2;have h2:l.k.toNat*(nN s+3)≤64*259:=oe (by have:=hs.k2;omega) (by omega);omega
theorem ae4(es:List Ev):((es.map Ev.d).flatMap (fun d:lE=>ga.cells d)).length=(es.map Ev.d).length*6:=by
 rw[← BV es,sM (f:=gy) (es:=6) (fun _=>rfl) es,cN]
theorem S6(ws:List Int)(es:List Ev):ws.length+es.length=((kb 0 ws++es).map Ev.d).length:=by rw[cN,bB,OT]
theorem ae5(a es:List Ev):a.flatMap gy++(es.map Ev.d).flatMap (fun d:lE=>ga.cells d)=((a++es).map Ev.d).flatMap (fun d:lE=>ga.cells d):=by
 rw[← BV es,← BV (a++es),sF]
theorem aaw{e k k':Nat}{v:AV}{acc:Hp}{cs cs':List AV}(h:Acc e k v acc cs)(hk:k=k')(hc:cs=cs'):Acc e k' v acc cs':=by subst hk;subst hc;exact h
theorem U2(s:Sy)(w:Int)(ar:List (Int×Int×Unit))(hi:bC s.init)(ht:∀t∈s.T,bC t.1∧bC t.2.1):ACalls Tryz.prog 10 [.agg (aP s),.int .i64 w,.ae gV ar] [] (fun r _=>r=.bool true):=by
 refine ao Tryz.func10 ?_;intro b3;refine aw [] (Zf _) ?_;obtain⟨k',gw⟩:∃x,x=(if 4<w then 4 else w):=⟨_,rfl⟩
 refine aa 0 ?_;refine afl [] (aaH s _) (fun qj=>?_) ?_;rotate_left
 ·exact .done rfl
 have hf:=ae3 qj hi ht;refine ai (p:=300<(ar.length:Int)) (fun h1=>?_) (fun h1=>?_)
 ·exact .done rfl
 have kh:ar.length≤100000:=by omega
 refine aa 0 ?_;have hO:=fun σ=>Ti s k' σ hf;rw[gw]at hO
 by_cases he:cI s k'=0
 rotate_left
 ·have hA:=fun σ=>Wi s k' ar σ hf he;have hB:=fun σ=>aaQ s k' ar σ hf he;rw[gw]at hA hB he;refine aw [] (hA _) ?_;refine aa 0 ?_;refine aw [] (hB _) ?_;refine aa 0 ?_;refine aw [] (hO _) ?_;intro ax;refine ah 0 ?_;refine cO (fun c2=>?_) (fun c2=>?_)
  ·have c2:¬(cI s (if 4<w then 4 else w)=0):=by simpa using c2
   refine ai (fun c3=>?_) (fun c3=>?_)
   ·refine ai (fun c4=>?_) (fun c4=>?_)
    ·exact .done rfl
    ·have c4:¬(cI s (if 4<w then 4 else w)=cI s (if 4<w then 4 else w)):=c4;exact absurd rfl c4
   ·have c3:¬(cI s (if 4<w then 4 else w)=cI s (if 4<w then 4 else w)):=c3;exact absurd rfl c3
  ·have c2:cI s (if 4<w then 4 else w)=0:=by simpa using c2
   refine cO (fun c5=>?_) (fun c5=>?_)
   ·have c5:¬(cI s (if 4<w then 4 else w)=0):=by simpa using c5
    exact absurd c2 he
   ·have c5:cI s (if 4<w then 4 else w)=0:=by simpa using c5
    refine cO (fun c6=>?_) (fun c6=>?_)
    ·have c6:¬(cI s (if 4<w then 4 else w)=0):=by simpa using c6
     exact absurd c2 he
    ·have c6:cI s (if 4<w then 4 else w)=0:=by simpa using c6
     exact absurd c2 he
 obtain⟨n,hn,xa,np⟩:=af0 hf he;obtain⟨l,hl⟩:∃l,fN s k'=l:=⟨_,rfl⟩
 have bP:=ye hf he;rw[hl]at bP;obtain⟨hs,AQ⟩:=bP;obtain⟨z,hz⟩:∃z:Int,z=0:=⟨0,rfl⟩
 have hA:∀σ,ACalls Tryz.prog 34 [.agg (aP s),.int .i64 (if 4<w then 4 else w),.ae gV ar] σ (fun r σ'=>r=.tup [.ae ga ((xB s l ar).map Ev.d),.int .i64 z]∧σ'=σ∧ic s l):=fun σ=>by
  rw[← gw,hn,hz];exact aaD s n l (hn▸hl) hs ar σ hf (hn▸he) kh
 have hB:∀σ,ACalls Tryz.prog 35 [.agg (aP s),.int .i64 (if 4<w then 4 else w),.ae gV ar] σ (ay (.tup [.bool true,.int .i64 z]) σ):=fun σ=>by
  rw[← gw,hn,hz];exact afC s n l (hn▸hl) hs ar σ hf (hn▸he) kh
 have tI:∀σ,ACalls Tryz.prog 15 [.agg (aP s),.int .i64 (if 4<w then 4 else w)] σ (ay (.tup [.agg (dp l),.int .i64 z]) σ):=fun σ=>by
  rw[← gw,hz,← hl];exact mf (Ti s k' σ hf) (by rw[he];rfl)
 have hL:∀σ,ACalls Tryz.prog 37 [.agg (aP s),.int .i64 (if 4<w then 4 else w)] σ (ay (.tup [.agg (dp l),.int .i64 z]) σ):=fun σ=>by
  rw[← gw,hz,← hl];exact mf (zP s k' σ hf) (by rw[he])
 clear hO;refine .mk [] _ (hA _) ?_;rintro _ _ ⟨rfl,rfl,cM⟩;obtain⟨yO,wse,GV⟩:=Sa hs cM ar;generalize xB s l ar=es at yO GV ⊢;clear hA;refine aa 0 ?_;refine aw [] (hB _) ?_;refine aa 0 ?_;refine aw [] (tI _) ?_;intro ax;refine ah 0 ?_;refine cO (fun c2=>?_) (fun c2=>?_)
 ·have c2:¬(z=0):=by simpa using c2
  refine ai (fun c3=>?_) (fun c3=>?_)
  ·refine ai (fun c4=>?_) (fun c4=>?_)
   ·exact absurd hz c2
   ·exact absurd hz c2
  ·exact absurd hz c2
 ·have c2:z=0:=by simpa using c2
  refine cO (fun c5=>?_) (fun c5=>?_)
  ·have c5:¬(z=0):=by simpa using c5
   exact absurd hz c5
  ·have c5:z=0:=by simpa using c5
   refine cO (fun c6=>?_) (fun c6=>?_)
   ·have c6:¬(z=0):=by simpa using c6
    exact absurd hz c6
   ·have c6:z=0:=by simpa using c6
    refine ai (fun c7=>?_) (fun c7=>?_)
    ·have c7:(↑ar.length:Int)<(↑(List.map Ev.d es).length:Int):=c7;rw[cN]at c7;omega
    ·have c7:¬((↑ar.length:Int)<(↑(List.map Ev.d es).length:Int)):=c7;refine aa 1 ?_;refine aa 0 ?_;refine .mk [] _ (acW s l _ hs cM) ?_;rintro _ _ ⟨m,q,rfl,rfl,qh⟩;generalize hws:dM s l=ws at qh GV ⊢;refine aa 0 ?_;refine .wrap 13 _ rfl rfl ?_;refine bc (S:=Nat×AV×Hp) (fun S=>[(1,.int .i64 (if 4<w then 4 else w)),(3,.ptr b3 0),(7,.ae ga (es.map Ev.d)),(11,.ptr ax 0),(13,.via S.2.1),(95,.af q 0 ws.length 1),(96,.int .i64 ws.length),(97,.int .i64 S.1)]) (fun S=>(m,[.af q 0 ws.length 1])::(q,aU ws)::(ax,dp l)::(b3,aP s)::(S.2.2++[])) (fun S=>S.1≤ws.length∧Acc 6 S.1 S.2.1 S.2.2 ((kb 0 (ws.take S.1)).flatMap gy)) (fun S=>ws.length-S.1) (0,.ag,[]) ⟨⟨aV _,.nil⟩,⟨rfl,rfl,rfl,rfl,rfl,rfl,rfl,rfl,trivial⟩,rfl⟩ ?_;rintro⟨i,v,acc⟩ g ⟨pg,bF⟩;have pg:i≤ws.length:=pg;have bF:Acc 6 i v acc ((kb 0 (ws.take i)).flatMap gy):=bF;refine ai (fun c1=>?_) (fun c1=>?_)
     ·have c1:(↑i:Int)<(↑ws.length:Int):=c1;refine aH ?_;have kS:i<ws.length:=by omega
      refine aS 1 rfl (Gt kS rfl) ?_;intro b5;refine eS [_,_,_,_,_] bF (.af 0 b5 0 1 _ rfl (cj rfl)) rfl (by have:=hs.size.2.1;omega) (by decide) (by decide) (fun v' aJ h'=>?_);refine aM (i+1,v',aJ) (by show ws.length-(i+1)<ws.length-i;omega) ⟨kS,?_⟩ ⟨rfl,rfl,rfl,rfl,rfl,rfl,rfl,aI (by have:=hs.size.2.1;omega),trivial⟩ (.drop 0 1 (.refl _));show Acc 6 (i+1) v' aJ ((kb 0 (ws.take (i+1))).flatMap gy);rw[eM kS,IA,dD,oh,yX (by omega),sF];have Hk:wd ws i=ws[i]:=by unfold wd;rw[bu kS];rfl
      rw[Hk]at h';exact h'
     ·have c1:¬((↑i:Int)<(↑ws.length:Int)):=c1;refine aa 3 ?_;refine aw [] (hL _) ?_;intro bX;refine ah 0 ?_;obtain rfl:i=ws.length:=by omega
      rw[er]at bF;refine bc (S:=Nat) (fun S=>[(7,.ae ga (es.map Ev.d)),(11,.ptr ax 0),(13,.via v),(16,.ptr bX 0),(115,.ae ga (es.map Ev.d)),(116,.int .i64 (es.map Ev.d).length),(117,.int .i64 S)]) (fun S=>(bX,dp l)::(m,[.af q 0 ws.length 1])::(q,aU ws)::(ax,dp l)::(b3,aP s)::(acc++[])) (fun S=>S≤es.length) (fun S=>es.length-S) 0 ⟨aV _,⟨rfl,rfl,rfl,rfl,rfl,rfl,rfl,trivial⟩,rfl⟩ ?_;intro j g hj;have hj:j≤es.length:=hj;have vq:(es.map Ev.d).length=es.length:=cN _;refine ai (fun c1=>?_) (fun c1=>?_)
      ·have c1:(↑j:Int)<(↑(List.map Ev.d es).length:Int):=c1;refine aF.mk rfl ?_;have iA:j<es.length:=by omega
       obtain⟨e,he⟩:∃e,es[j]=e:=⟨_,rfl⟩
       have Lk:e∈es:=he▸bU iA;obtain⟨⟨a,eQ,agB,oX⟩,-⟩:=R9 GV e Lk;obtain⟨kd,at_,ea,eb,eg,eo⟩:=e;have eQ:at_=a:=eQ;subst eQ;have oX:a<nN s*nW l→kd=1∨kd=3:=oX;have hjd:(es.map Ev.d)[((j:Nat):Int).toNat]?=some (kd,(a:Int),ea,eb,eg,eo,()):=by rw[bD,fD,bu iA,he];rfl
       refine aY.mk _ (by omega) hjd ?_;intro b9;refine ah 0 ?_;refine aa 1 ?_;refine aa 0 ?_;refine .mk [] _ (afA s l hs a agB _) ?_;rintro _ _ ⟨pt,qq,rfl,rfl,pc,Me⟩;refine ai (fun c1=>?_) (fun c1=>?_)
       ·have c1:pt=0:=c1;exact absurd c1 pc
       ·have c1:¬(pt=0):=c1;refine ai (fun c2=>?_) (fun c2=>?_)
        ·have c2:pt=1:=c2;refine aa 0 ?_;refine ai (fun c3=>?_) (fun c3=>?_)
         ·have c3:kd=4:=c3;have:=oX (Me (by assumption));omega
         ·have c3:¬(kd=4):=c3;refine ai (fun c4=>?_) (fun c4=>?_)
          ·have c4:pt=1:=c4;refine aa 0 ?_;refine ai (fun c5=>?_) (fun c5=>?_)
           ·have c5:kd=2:=c5;have:=oX (Me (by assumption));omega
           ·have c5:¬(kd=2):=c5;exact aM (j+1) (by show es.length-(j+1)<es.length-j;omega) iA ⟨rfl,rfl,rfl,rfl,rfl,rfl,aI (by omega),trivial⟩ (.drop 0 1 (.refl _))
          ·have c4:¬(pt=1):=c4;exact aM (j+1) (by show es.length-(j+1)<es.length-j;omega) iA ⟨rfl,rfl,rfl,rfl,rfl,rfl,aI (by omega),trivial⟩ (.drop 0 1 (.refl _))
        ·have c2:¬(pt=1):=c2;refine ai (fun c6=>?_) (fun c6=>?_)
         ·have c6:pt=1:=c6;refine aa 0 ?_;refine ai (fun c7=>?_) (fun c7=>?_)
          ·have c7:kd=2:=c7;have:=oX (Me (by assumption));omega
          ·have c7:¬(kd=2):=c7;exact aM (j+1) (by show es.length-(j+1)<es.length-j;omega) iA ⟨rfl,rfl,rfl,rfl,rfl,rfl,aI (by omega),trivial⟩ (.drop 0 1 (.refl _))
         ·have c6:¬(pt=1):=c6;exact aM (j+1) (by show es.length-(j+1)<es.length-j;omega) iA ⟨rfl,rfl,rfl,rfl,rfl,rfl,aI (by omega),trivial⟩ (.drop 0 1 (.refl _))
      ·have c1:¬((↑j:Int)<(↑(List.map Ev.d es).length:Int)):=c1;refine aa 3 ?_;refine aw [] (Sl l _) ?_;rw[hs.size.1];have dG:=aeT hs;refine eS [_,_,_,_,_] bF (.ae ga (es.map Ev.d) rfl) (ae4 es) (show ws.length+(es.map Ev.d).length≤1048576 by rw[vq];omega) (by decide) (by decide) (fun v' aJ h'=>?_);have h2:Acc ga.size (ws.length+es.length) v' aJ (((kb 0 ws++es).map Ev.d).flatMap ga.cells):=aaw h' (congrArg (ws.length + ·) vq) (ae5 (kb 0 ws) es);refine aar (l:=(kb 0 ws++es).map Ev.d) [_,_,_,_,_] h2 (S6 ws es) rfl (by decide) (fun h=>bZ (.refl _) (bZ h (.refl _))) ?_;refine aw [] (acQ (cJ l) _ _ (show ((kb 0 ws++es).map Ev.d).length≤999000 by rw[← S6 ws es];omega)) ?_;have hrt:ur (cJ l) ((kb 0 ws++es).map Ev.d)=true:=YA (s:=s) (l:=l) (ws:=wse) qh.symm (by omega) GV;exact .done (bJ hrt)
end Go.Proofs.YtnikdflhefijbaaGreat
namespace Go.Proofs.YtnikdflhefijbaaGreat
open Go.ChangeShapes Go.WideShapes Go.ChangeAt Go.RowKit
theorem gr{a b:Bool}(ha:a=true)(hb:b=true):(a&&b)=true:=by rw[ha,hb];rfl
theorem Il:laidOutB Tryz.prog=true:=by kernel_rfl
theorem fk3:mapsRowed Tryz.prog=true:=by kernel_rfl
theorem fk7:(Tryz.prog.stops == [])=true:=by kernel_rfl
theorem fk9:(Tryz.prog.stopKnobs == [])=true:=by kernel_rfl
theorem agP:(Rows.solveRunsRow.plainKeys == Tryz.prog.plainKeys)=true:=by kernel_rfl
theorem agO:Tryz.prog.stopsHeard=true:=by kernel_rfl
theorem agN:Tryz.prog.mayEnter=true:=by kernel_rfl
theorem agM:(Rows.solveRunsRow.lifted == Tryz.prog.liftsFinal)=true:=by kernel_rfl
theorem agL:(Tryz.prog.make == some Rows.solveRunsRow.make)=true:=by kernel_rfl
theorem agJ:ownKnob Tryz.prog.godebug=none:=by kernel_rfl
theorem va{F:Nat→Prop}{w:World}{x:AV}{xs:List AV}{v:Value}{vs:List Value}(h:aD F w x v)(t:iS F w xs vs.toArray):iS F w (x::xs) (v::vs).toArray:=by
 refine⟨by have:=t.1;simp at this ⊢;exact this,fun i y hy=>?_⟩;cases i with
 |zero=>simp at hy;subst hy;simpa [Array.getD]using h
 |succ i=>
  have:=t.2 i y (by simpa using hy);rw[gR]at this ⊢;simpa using this
theorem vn{F:Nat→Prop}{w:World}:iS F w [] ([]:List Value).toArray:=⟨rfl,fun i y hy=>by simp at hy⟩
theorem vi{F:Nat→Prop}{w:World}{k:IntKind}{n:Int}:aD F w (.int k n) (.int k n):=.int k n
theorem vl{w:World}{e:Sh}{a:Option Addr}{n c:Nat}{l:List e.T}(hp:(Sh.slice e).pos=true)(h:Reads w (.slice e) (Value.slice a n c).cells.toList l):aD (fun b=>b<w.heap.size) w (.ae e l) (.slice a n c):=
 .ae e l _ (PU (.slice e) _ l hp h)
theorem vg{w:World}{s:Sh}{cs:Array Value}{d:s.T}(hp:s.pos=true)(h:Reads w s (Value.agg cs).cells.toList d):aD (fun b=>b<w.heap.size) w (.agg (s.cells d)) (.agg cs):=by
 obtain⟨h1,h2⟩:=kI.cells s _ d (PU s _ d hp h);refine .agg _ _ (by rw[h1];rfl) (fun i x hx=>(h2 i x hx).1) (fun i x hx=>?_);have:=(h2 i x hx).2;rw[bK,A3,← gR]at this;exact this
theorem OJ{w:World}{e:Sh}{cs:List Value}{l:List e.T}(h:Reads w (.slice e) cs l):∀x∈l,∃cs',Reads w e cs' x:=by
 obtain⟨a,c,_,_,_,_,h3⟩:=h;intro x hx;obtain⟨i,hi,rfl⟩:=vK.1 hx;obtain⟨b,o,_,h4⟩:=h3 (List.ne_nil_of_mem hx);obtain⟨cs',_,_,h5⟩:=h4 i hi;exact⟨cs',h5⟩
theorem IY{w:World}{cs:List Value}{l:List Int}(h:Reads w (.slice (.int .u64)) cs l):∀z∈l,0≤z∧z<18446744073709551616:=fun z hz=>by
 obtain⟨cs',h1,h2⟩:=OJ h z hz;exact wf_u64 h2
theorem VL{w:World}{e:Sh}{cs:List Value}{x:List Int×List Int×e.T×Unit}(h:Reads w (.field (.slice (.int .u64)) (.field (.slice (.int .u64)) (.field e .nil))) cs x):(∀z∈x.1,0≤z∧z<18446744073709551616)∧(∀z∈x.2.1,0≤z∧z<18446744073709551616):=by
 obtain⟨c1,c2,_,_,h1,d1,d2,_,_,h2,_⟩:=h;exact⟨IY h1,IY h2⟩
theorem Pu{w:World}{c1 e1:Sh}{cs:List Value}{x:Int×Int×Int×c1.slice.T×List Int×List Int×List (List Int×List Int×e1.T×Unit)×Unit}(h:Reads w (.field (.int .i64) (.field (.int .i64) (.field (.int .i64) (.field (.slice c1) (.field (.slice (.int .i64)) (.field (.slice (.int .u64)) (.field (.slice (.field (.slice (.int .u64)) (.field (.slice (.int .u64)) (.field e1 .nil)))) .nil))))))) cs x):(∀z∈x.2.2.2.2.2.1,0≤z∧z<18446744073709551616)∧∀t∈x.2.2.2.2.2.2.1,(∀z∈t.1,0≤z∧z<18446744073709551616)∧(∀z∈t.2.1,0≤z∧z<18446744073709551616):=by
 obtain⟨_,_,_,_,_,_,_,_,_,_,_,_,_,_,_,_,_,_,_,_,_,_,_,_,_,_,_,_,_,h6,_,_,_,_,h7,_⟩:=h;refine⟨IY h6,fun t ht=>?_⟩;obtain⟨cs',h1⟩:=OJ h7 t ht;exact VL h1
end Go.Proofs.YtnikdflhefijbaaGreat
