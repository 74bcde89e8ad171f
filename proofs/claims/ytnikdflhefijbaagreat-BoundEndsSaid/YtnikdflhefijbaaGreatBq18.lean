import Derived.Test.YtnikdflhefijbaaGreatBq17
import Derived.Shelf.SlSortCmp.NoneTotal
import Derived.Test.YtnikdflhefijbaaGreatBq6
import Derived.Test.YtnikdflhefijbaaGreatBq10
import Derived.Test.YtnikdflhefijbaaGreatBq12
import Derived.Test.YtnikdflhefijbaaGreatBq16
namespace Go.Proofs.YtnikdflhefijbaaGreat
open Go.RowKit
set_option maxRecDepth 100000
set_option maxHeartbeats 4000000
theorem EH{P:List (List Int)}{rw:List (Nat×List Int)}{i:Nat}{p:List Int}(h:rw.map Prod.snd=P)(hp:P[i]?=some p):∃b,rw[i]?=some (b,p):=by
 rw[← h,fk]at hp;cases hr:rw[i]? with
 |none=>rw[hr]at hp;cases hp
 |some r=>rw[hr]at hp;cases hp;exact⟨r.1,rfl⟩
theorem Ew{i:TI}(hw:i.wide=false){rw:List (Nat×List Int)}{z:Int}{b:Nat}{p:List Int}(_hz:0≤z)(h:rw[z.toNat]?=some (b,p)):ei i (fC rw) (0+z.toNat*1)=some (.ae b 0 p.length 1):=
 jz hw (by rw[dI,dS];unfold fC;rw[fk,h];rfl)
theorem II{rw:List (Nat×List Int)}{i b:Nat}{p:List Int}{σ:Hp}(h:rw[i]?=some (b,p)):(fe rw++σ)[i]?=some (b,ai p):=by
 have hi:i<(fe rw).length:=by unfold fe;rw[bX];exact (bZ.1 h).1
 rw[j6 hi];unfold fe;rw[fk,h];rfl
theorem S8{p:List Int}{x:Int}(h:p[((0:Int)).toNat]?=some x):p.getD ((0:Int)).toNat 0=x:=by rw[aZ,h];rfl
theorem RH:∀{ro:List (Nat×List Int)},(ro.map Prod.snd).flatten.Nodup→(∀r∈ro,r.2≠[])→ro.Nodup
 | [],_,_=>Qr
 |r::ro,h,aS=>by
  have h:(r.2++(ro.map Prod.snd).flatten).Nodup:=h;have h:=pM.1 h;refine lV.2 ⟨fun hm=>?_,RH h.2.1 fun q hq=>aS q (cQ _ hq)⟩;obtain⟨x,hx⟩:=List.exists_mem_of_ne_nil _ (aS r (b9 ..));exact h.2.2 x hx x (pL.2 ⟨r.2,cX.2 ⟨r,hm,rfl⟩,hx⟩) rfl
theorem Re{α:Type}[DecidableEq α]:∀{A B:List α},A.Nodup→(∀x∈A,x∈B)→B.length≤A.length→A.Perm B
 | [],B,_,_,h=>by rw[iz.1 (Nat.le_zero.1 h)]
 |a::A,B,hn,hs,hl=>by
  have hn:=lV.1 hn;have ha:=hs a (b9 ..);have hp:=List.perm_cons_erase ha;have hle:=hp.length_eq;refine (List.Perm.cons a (Re hn.2 (fun x hx=>?_) ?_)).trans hp.symm
  ·exact (GL (fun e:x=a=>hn.1 (e▸hx))).2 (hs x (cQ _ hx))
  ·rw[gj]at hle hl;omega
theorem acb(n:Nat)(l:List bE)(P:List (List Int))(rw:List (Nat×List Int))(bq:Nat)(σ:Hp)(h:px n l P)(nA:rw.map Prod.snd=P)(vt:0<P.length)(hl:l.length≤100000)(hn:n≤1000)(hr:∀e∈l,(0≤e.1∧e.1<(n:Int))∧0≤e.2.1∧e.2.1<(n:Int)):
  ACalls Tryz.prog 291 [.int .i64 n,.ah dO l,.ae bq 0 P.length 1] ((bq,fC rw)::(fe rw++σ)) (fun r σ'=>∃bo e9,r=.ae bo 0 e9.length 1∧e9.map Prod.snd=kG n l∧σ'=(bo,fC e9)::(fe e9++σ)∧(kG n l).Perm P):=by
 have xh:rw.length=P.length:=by rw[← nA,bX]
 obtain⟨tG,hpf⟩:=DA h.ok;have hNt:((n:Nat):Int).toNat=n:=bG n;refine ay Tryz.func291 ?_;intro bl;refine bf ?_;intro bw;intro bW;refine aj 0 ?_;refine ca (S:=Nat) (fun k=>[(2,.ae bq 0 P.length 1),(4,.ptr bl 0),(7,.ptr bW 0),(20,.ae bq 0 P.length 1),(21,.int .i64 P.length),(22,.int .i64 k)]) (fun k=>(bW,[.ae bw 0 n 1])::(bw,ai (nu P k (List.replicate n 0)))::(bl,[.ah dO l])::(bq,fC rw)::(fe rw++σ)) (fun k=>k≤P.length) (fun k=>P.length-k) 0 ⟨bC _,⟨rfl,rfl,rfl,rfl,rfl,rfl,trivial⟩,by rw[show ai (nu P 0 (List.replicate n 0))=cI [.int .i64 0] n from (zt n).symm];rfl⟩ ?_;intro k g aP;have hk:k≤P.length:=aP;clear aP;refine ao (p:=(k:Int)<P.length) (fun ab=>?_) (fun au=>?_)
 ·have ab:k<P.length:=by omega
  obtain⟨p,hp⟩:∃p,P[k]=p:=⟨_,rfl⟩
  have fp:P[k]?=some p:=(bB ab).trans (congrArg some hp);have tF:=h.ok.node p (bU fp);have aje:p.length≤n:=DD n p ((h.ok.Cq p (bU fp)).imp fun h=>by omega) tF;have sG:=Di P k (List.replicate n 0);rw[fQ]at sG;have sx:nu P (k+1) (List.replicate n 0)=lN k p (nu P k (List.replicate n 0)):=by show lN k (P.getD k []) _=_;rw[wh fp]
  generalize nu P k (List.replicate n 0)=W at sG sx;obtain⟨bk,qA⟩:=EH nA fp;refine aO ?_;refine aW 3 rfl (Ew rfl (by omega) (by rw[bG];exact qA)) ?_;refine ca (S:=Nat) (fun j=>[(2,.ae bq 0 P.length 1),(4,.ptr bl 0),(7,.ptr bW 0),(8,.int .i64 k),(20,.ae bq 0 P.length 1),(21,.int .i64 P.length),(22,.int .i64 k),(27,.ae bk 0 p.length 1),(28,.int .i64 p.length),(29,.int .i64 j)]) (fun j=>(bW,[.ae bw 0 n 1])::(bw,ai (lN k (p.take j) W))::(bl,[.ah dO l])::(bq,fC rw)::(fe rw++σ)) (fun j=>j≤p.length) (fun j=>p.length-j) 0 ⟨bC _,⟨rfl,rfl,rfl,rfl,rfl,rfl,rfl,rfl,rfl,rfl,trivial⟩,rfl⟩ ?_;intro j g2 qy;have hj:j≤p.length:=qy;clear qy;refine ao (p:=(j:Int)<p.length) (fun dE=>?_) (fun jF=>?_)
  ·have dE:j<p.length:=by omega
   obtain⟨a,ha⟩:∃a,p[j]=a:=⟨_,rfl⟩
   have tK:=tF a (ha▸cq dE);have aq:(lN k (p.take j) W).set a.toNat k=lN k (p.take (j+1)) W:=by unfold lN;rw[ft dE,ha,sK];rfl
   have pA:=Hb k (p.take j) W;refine aO ?_;refine fg.mk (k+4) _ _ (II qA) (fy rfl (by omega) (by omega)) ?_;rw[bG,show p.getD j 0=a by rw[aZ,bB dE,ha];rfl];refine aa 0 ?_;refine aO ?_;refine cU 1 rfl (nU rfl _ tK.1 (by omega)) ?_;exact a8 (j+1) (by show p.length-(j+1)<p.length-j;omega) dE ⟨rfl,rfl,rfl,rfl,rfl,rfl,rfl,rfl,rfl,aX (by omega),trivial⟩ (aL (by rw[← aq];rfl))
  ·have jF:j=p.length:=by omega
   subst jF;exact a8 (k+1) (by show P.length-(k+1)<P.length-k;omega) ab ⟨rfl,rfl,rfl,rfl,rfl,aX (by omega),trivial⟩ (aL (by rw[ga,sx]))
 ·have au:k=P.length:=by omega
  subst au
  have PQ:∀j:Nat,j<n→0≤(bF n P).getD j 0∧(bF n P).getD j 0<(P.length:Int):=fun j hj=>by
   obtain⟨i,p,hi,_,hw⟩:=h.idx (x:=(j:Int)) (by omega);rw[bG]at hw;have:=zn hi;rw[hw];omega
  have sG:=Rt n P;have Fm:=fun k hk=>(Ik h hr k hk)
  have yB:=Nt h hr
  have aS:∀(i:Nat) (p:List Int),P[i]?=some p→p[((0:Int)).toNat]?=some (iP P i):=fun i p hi=>by
   unfold iP;rw[wh hi];exact VC (mX.2 (h.ok.ne p (bU hi)))
  rw[show nu P P.length (List.replicate n 0)=bF n P from rfl];refine aJ.mk ⟨by omega,by omega,by show ((P.length:Nat):Int)≤1048576;omega,by decide⟩ ?_;intro bt;intro bT;refine aj 0 ?_;obtain⟨m,hm⟩:∃m,P.length=m:=⟨_,rfl⟩
  refine .wrap 14 _ rfl rfl ?_;refine .eb (.pull [0,2,3,3] (.refl _)) ?_;refine ca (S:=Nat×(AV×Hp)×List (Nat×List Int)) (fun x=>[(2,.ae bq 0 P.length 1),(12,.ptr bT 0),(13,.fn (.func 316) [] [.ptr bT 0,.ptr bl 0,.ptr bW 0]),(14,.via x.2.1.1),(44,.int .i64 P.length),(45,.int .i64 x.1)]) (fun x=>(bT,[.ae bt 0 P.length 1])::(bW,[.ae bw 0 n 1])::(bw,ai (bF n P))::(bt,bN (dL P l (bF n P) x.1).1)::(bl,[.ah dO l])::(bq,fC rw)::(fe rw++(x.2.1.2++σ))) (fun x=>x.1≤P.length∧Acc 1 x.1 x.2.1.1 x.2.1.2 (fC x.2.2)∧x.2.2.map Prod.snd=(dL P l (bF n P) x.1).2∧∀r∈x.2.2,r∈rw) (fun x=>P.length-x.1) (0,(.an,[]),[]) ⟨⟨Nat.zero_le _,.nil,rfl,fun r hr=>absurd hr (by simp)⟩,⟨rfl,rfl,rfl,rfl,rfl,rfl,trivial⟩,by rw[show bN (dL P l (bF n P) 0).1=cI [.bool false] P.length from (Ea P.length).symm];rfl⟩ ?_;rintro⟨k,⟨v,acc⟩,ro⟩ g2 ⟨aP,ig,XV,Xl⟩;have hk:k≤P.length:=aP;have cj:Acc 1 k v acc (fC ro):=ig;have nz:ro.map Prod.snd=(dL P l (bF n P) k).2:=XV;have mL:∀r∈ro,r∈rw:=Xl;clear aP ig XV Xl;refine ao (p:=(k:Int)<P.length) (fun ab=>?_) (fun au=>?_)
  ·have ab:k<P.length:=by omega
   obtain⟨hO,zW,_⟩:=Fm k hk;obtain⟨b,hb,pF⟩:=zW ab;have Gk:=hO.tl
   have fD:(dL P l (bF n P) (k+1)).1=(dL P l (bF n P) k).1.set b true:=by
    show (dL P l (bF n P) k).1.set (fI P l (bF n P) (dL P l (bF n P) k).1 P.length).toNat true=_;rw[hb,bG]
   have gQ:(dL P l (bF n P) (k+1)).2=(dL P l (bF n P) k).2++[P.getD b []]:=by
    show (dL P l (bF n P) k).2++[P.getD (fI P l (bF n P) (dL P l (bF n P) k).1 P.length).toNat []]=_;rw[hb,bG]
   generalize (dL P l (bF n P) k).1=T at hb Gk fD;rw[← nz]at gQ;clear hO zW;have OL:=Hm P l (bF n P) T;refine ca (S:=Nat) (fun i=>[(2,.ae bq 0 P.length 1),(12,.ptr bT 0),(13,.fn (.func 316) [] [.ptr bT 0,.ptr bl 0,.ptr bW 0]),(14,.via v),(15,.int .i64 (fI P l (bF n P) T i)),(44,.int .i64 P.length),(45,.int .i64 k),(47,.ae bq 0 P.length 1),(48,.int .i64 P.length),(49,.int .i64 i)]) (fun _=>(bT,[.ae bt 0 P.length 1])::(bW,[.ae bw 0 n 1])::(bw,ai (bF n P))::(bt,bN T)::(bl,[.ah dO l])::(bq,fC rw)::(fe rw++(acc++σ))) (fun i=>i≤P.length) (fun i=>P.length-i) 0 ⟨bC _,⟨rfl,rfl,rfl,rfl,rfl,rfl,rfl,rfl,rfl,rfl,trivial⟩,rfl⟩ ?_;intro i g3 fE;have hi:i≤P.length:=fE;clear fE;refine ao (p:=(i:Int)<P.length) (fun dE=>?_) (fun jF=>?_)
   ·have dE:i<P.length:=by omega
    obtain⟨p,hp⟩:∃p,P[i]=p:=⟨_,rfl⟩
    have fp:P[i]?=some p:=(bB dE).trans (congrArg some hp);have xo:=fun ρ=>XB bW bw bl bT bt n P.length l (bF n P) T i ρ hl (by omega) hr sG Gk PQ;have eX:fI P l (bF n P) T (i+1)=if nY l (bF n P) T i=true∧(fI P l (bF n P) T i<0∨iP P i<iP P (fI P l (bF n P) T i).toNat) then (i:Int) else fI P l (bF n P) T i:=rfl
    have Gj:=OL i;obtain⟨bi,hbi⟩:=EH nA fp;have ve:0<p.length:=mX.2 (h.ok.ne p (bU fp));refine aO ?_;refine aW 5 rfl (Ew rfl (by omega) (by rw[bG];exact hbi)) ?_;cases hf:nY l (bF n P) T i with
    |false=>
     rw[hf]at xo eX;rw[ag (fun h=>by cases h.1)]at eX;refine .quiet (by kernel_rfl) ?_;refine aK [] (xo _) ?_;exact a8 (i+1) (by show P.length-(i+1)<P.length-i;omega) dE ⟨rfl,rfl,rfl,rfl,by rw[eX];rfl,rfl,rfl,rfl,rfl,aX (by omega),trivial⟩ (.refl _)
    |true=>
     rw[hf]at xo eX;refine .quiet (by kernel_rfl) ?_;refine aK [] (xo _) ?_;refine ao (p:=fI P l (bF n P) T i<0) (fun c1=>?_) (fun c1=>?_)
     ·rw[af ⟨rfl,.inl c1⟩]at eX;exact a8 (i+1) (by show P.length-(i+1)<P.length-i;omega) dE ⟨rfl,rfl,rfl,rfl,by rw[eX];rfl,rfl,rfl,rfl,rfl,aX (by omega),trivial⟩ (.refl _)
     ·obtain⟨b2,e2,l2,_⟩:=Gj.resolve_left fun h=>c1 (by rw[h.1];decide);obtain⟨p2,dH⟩:∃p,P[b2]?=some p:=⟨P[b2],bB (by omega)⟩
      have XZ:P[(fI P l (bF n P) T i).toNat]?=some p2:=by rw[e2,bG];exact dH
      have Kv:0≤fI P l (bF n P) T i:=by omega
      rw[e2,bG,← e2]at eX;obtain⟨bb,tJ⟩:=EH nA dH;have hp20:0<p2.length:=mX.2 (h.ok.ne p2 (bU dH));refine aJ.mk ⟨rfl,by decide,by omega⟩ ?_;refine fg.mk (i+6) _ _ (II hbi) (fy rfl (by decide) (by omega)) ?_;refine aO ?_;refine aW 5 rfl (Ew rfl (by omega) (by rw[e2,bG];exact tJ)) ?_;refine aJ.mk ⟨rfl,by decide,by omega⟩ ?_;refine fg.mk (b2+6) _ _ (II tJ) (fy rfl (by decide) (by omega)) ?_;rw[show p.getD (0:Int).toNat 0=iP P i from S8 (aS i p fp),show p2.getD (0:Int).toNat 0=iP P b2 from S8 (aS b2 p2 dH)];refine ao (p:=iP P i<iP P b2) (fun c2=>?_) (fun c2=>?_)
      ·rw[af ⟨rfl,.inr c2⟩]at eX;exact a8 (i+1) (by show P.length-(i+1)<P.length-i;omega) dE ⟨rfl,rfl,rfl,rfl,by rw[eX];rfl,rfl,rfl,rfl,rfl,aX (by omega),trivial⟩ (.refl _)
      ·rw[ag (fun h=>h.2.elim c1 c2)]at eX;exact a8 (i+1) (by show P.length-(i+1)<P.length-i;omega) dE ⟨rfl,rfl,rfl,rfl,by rw[eX];rfl,rfl,rfl,rfl,rfl,aX (by omega),trivial⟩ (.refl _)
   ·have jF:i=P.length:=by omega
    subst jF;refine aa 0 ?_;refine aO ?_;refine cU 3 rfl (zr rfl true (by omega) (by omega)) ?_;obtain⟨pb,rJ⟩:∃p,P[b]?=some p:=⟨P[b],bB pF⟩
    obtain⟨bb,tJ⟩:=EH nA rJ;rw[wh rJ]at gQ;refine aO ?_;refine aW 5 rfl (Ew rfl (by omega) (by rw[hb,bG];exact tJ)) ?_;intro bs;refine iC (_::_::_::_::_::_::_::fe rw) cj (.ae 0 bs 0 1 _ rfl (cy rfl)) rfl (by omega) (by decide) (by decide) (fun v' aY h'=>?_);refine a8 (k+1,(v',aY),ro++[(bb,pb)]) (by show P.length-(k+1)<P.length-k;omega) ⟨ab,?_,?_,fun r hr=>?_⟩ ⟨rfl,rfl,rfl,rfl,rfl,aX (by omega),trivial⟩ (.drop 0 1 (aL (by rw[fD,hb,bG];rfl)))
    ·show Acc 1 (k+1) v' aY (fC (ro++[(bb,pb)]));rw[show fC (ro++[(bb,pb)])=fC ro++[.ae bb 0 pb.length 1] from cF];exact h'
    ·show (ro++[(bb,pb)]).map Prod.snd=(dL P l (bF n P) (k+1)).2;rw[gQ,cF];rfl
    ·rcases bY.1 hr with hr | hr
     ·exact mL r hr
     ·rw[bD.1 hr];exact bU tJ
  ·have au:k=P.length:=by omega
   subst au;have hOI:=(Fm P.length (aQ _)).1;have oE:=hOI.ol;have cg:=hOI.nd;rw[← nz]at oE cg;rw[yB]at nz;rw[bX]at oE;have ajg:∀r∈ro,r.2≠[]:=fun r hr=>h.ok.ne r.2 (by rw[← nA];exact cX.2 ⟨r,mL r hr,rfl⟩);have aih:ro.Nodup:=RH cg ajg;have oZ:ro.Perm rw:=Re aih mL (by omega);obtain⟨bo,rfl,rfl⟩:=ub (by omega) cj
   have hH:((bo,fC ro)::(fe ro++σ)).Perm (fe rw++([(bo,fC ro)]++σ)):=by
    refine (List.Perm.cons _ (List.Perm.append_right σ (List.Perm.map _ oZ))).trans oK.symm
   exact .drop 0 6 (.perm hH (.done ⟨bo,ro,by rw[oE];rfl,nz,rfl,by rw[← nz,← nA];exact List.Perm.map _ oZ⟩))
set_option maxHeartbeats 4000000
theorem agb(n:Nat)(l:List bE)(σ:Hp)(hl:l.length≤100000)(ey:fL n l=true):ACalls Tryz.prog 258 [.int .i64 n,.ah dO l] σ (fun r σ'=>∃bo e9,r=.tup [.ae bo 0 e9.length 1,.int .i64 0]∧e9.map Prod.snd=kG n l∧σ'=(bo,fC e9)::(fe e9++σ)∧∃P,px n l P∧(kG n l).Perm P):=by
 have hn:1≤n∧n≤256:=by
  unfold fL at ey;simp only[bS,decide_eq_true_eq]at ey;omega
 have CL:∀e∈l,(0≤e.1∧e.1<(n:Int))∧0≤e.2.1∧e.2.1<(n:Int):=fun e he=>by
  unfold fL at ey;simp only[bS,fG]at ey;have:=ey.2 e he;exact⟨lB.1 this.1,lB.1 this.2⟩
 refine ay Tryz.func258 ?_;refine eY [] (EC n l _ (by omega)) (fun _=>?_) (fun c=>absurd c (by rw[ey];decide));refine gZ.NX (S:=Nat×Nat×Nat×Nat) [] (ru [0,2,4] (.alt 1 (.alt 3 (.alt 5 (cJ [6,7,8]) (cJ [7,5,6,8])) (.alt 5 (.alt 3 (cJ [6,7,8]) (cJ [7,3,6,8])) (.one 7 false (.alt 3 (cJ [5,6,8]) (cJ [5,3,6,8]))))) (.alt 3 (.alt 1 (.alt 5 (cJ [6,7,8]) (cJ [7,5,6,8])) (.alt 5 (.alt 1 (cJ [6,7,8]) (cJ [7,1,6,8])) (.one 7 false (.alt 1 (cJ [5,6,8]) (cJ [5,1,6,8]))))) (.alt 5 (.alt 1 (.alt 3 (cJ [6,7,8]) (cJ [7,3,6,8])) (.alt 3 (.alt 1 (cJ [6,7,8]) (cJ [7,1,6,8])) (.one 7 false (.alt 1 (cJ [3,6,8]) (cJ [3,1,6,8]))))) (.one 7 false (.alt 1 (.alt 3 (cJ [5,6,8]) (cJ [5,3,6,8])) (.alt 3 (.alt 1 (cJ [5,6,8]) (cJ [5,1,6,8])) (.one 5 false (.alt 1 (cJ [3,6,8]) (cJ [3,1,6,8])))))))))) (fun x=>[(0,.int .i64 n),(1,.ah dO l),(6,.ptr x.1 0)]) (fun x=>(x.1,[.an,.ae x.2.1 0 n 1,.ae x.2.2.1 0 n 1,.ae x.2.2.2 0 n 1,.an,.int .i64 0,.an])::(x.2.1,cI [.int .i64 0] n)::(x.2.2.1,cI [.int .i64 0] n)::(x.2.2.2,cI [.bool false] n)::σ) (by kernel_rfl) ?_ ?_
 ·refine And.intro ?_ ?_
  ·refine bf ?_;intro bi;refine And.intro ?_ ?_
   ·refine bf ?_;intro bl;refine And.intro ?_ ?_
    ·refine bf ?_;intro bo;intro w;refine aj 0 ?_;exact dh.mk (w,bi,bl,bo) ⟨rfl,rfl,rfl,trivial⟩ (.pull [3,3,2,1] (aL rfl))
    ·intro w;refine bf ?_;intro bo;refine aj 1 ?_;exact dh.mk (w,bi,bl,bo) ⟨rfl,rfl,rfl,trivial⟩ (.pull [3,3,2,0] (aL rfl))
   ·refine And.intro ?_ ?_
    ·refine bf ?_;intro bo;refine And.intro ?_ ?_
     ·refine bf ?_;intro bl;intro w;refine aj 0 ?_;exact dh.mk (w,bi,bl,bo) ⟨rfl,rfl,rfl,trivial⟩ (.pull [3,3,2,2] (aL rfl))
     ·intro w;refine bf ?_;intro bl;refine aj 1 ?_;exact dh.mk (w,bi,bl,bo) ⟨rfl,rfl,rfl,trivial⟩ (.pull [3,3,1,2] (aL rfl))
    ·intro w;refine And.intro ?_ ?_
     ·refine bf ?_;intro bl;refine bf ?_;intro bo;refine aj 2 ?_;exact dh.mk (w,bi,bl,bo) ⟨rfl,rfl,rfl,trivial⟩ (.pull [3,3,1,0] (aL rfl))
     ·refine bf ?_;intro bo;refine bf ?_;intro bl;refine aj 2 ?_;exact dh.mk (w,bi,bl,bo) ⟨rfl,rfl,rfl,trivial⟩ (.pull [3,3,1,1] (aL rfl))
  ·refine And.intro ?_ ?_
   ·refine bf ?_;intro bl;refine And.intro ?_ ?_
    ·refine bf ?_;intro bi;refine And.intro ?_ ?_
     ·refine bf ?_;intro bo;intro w;refine aj 0 ?_;exact dh.mk (w,bi,bl,bo) ⟨rfl,rfl,rfl,trivial⟩ (.pull [3,3,3,1] (aL rfl))
     ·intro w;refine bf ?_;intro bo;refine aj 1 ?_;exact dh.mk (w,bi,bl,bo) ⟨rfl,rfl,rfl,trivial⟩ (.pull [3,3,3,0] (aL rfl))
    ·refine And.intro ?_ ?_
     ·refine bf ?_;intro bo;refine And.intro ?_ ?_
      ·refine bf ?_;intro bi;intro w;refine aj 0 ?_;exact dh.mk (w,bi,bl,bo) ⟨rfl,rfl,rfl,trivial⟩ (.pull [3,3,3,2] (aL rfl))
      ·intro w;refine bf ?_;intro bi;refine aj 1 ?_;exact dh.mk (w,bi,bl,bo) ⟨rfl,rfl,rfl,trivial⟩ (.pull [3,2,3,2] (aL rfl))
     ·intro w;refine And.intro ?_ ?_
      ·refine bf ?_;intro bi;refine bf ?_;intro bo;refine aj 2 ?_;exact dh.mk (w,bi,bl,bo) ⟨rfl,rfl,rfl,trivial⟩ (.pull [3,2,3,0] (aL rfl))
      ·refine bf ?_;intro bo;refine bf ?_;intro bi;refine aj 2 ?_;exact dh.mk (w,bi,bl,bo) ⟨rfl,rfl,rfl,trivial⟩ (.pull [3,2,3,1] (aL rfl))
   ·refine And.intro ?_ ?_
    ·refine bf ?_;intro bo;refine And.intro ?_ ?_
     ·refine bf ?_;intro bi;refine And.intro ?_ ?_
      ·refine bf ?_;intro bl;intro w;refine aj 0 ?_;exact dh.mk (w,bi,bl,bo) ⟨rfl,rfl,rfl,trivial⟩ (.pull [3,3,2,3] (aL rfl))
      ·intro w;refine bf ?_;intro bl;refine aj 1 ?_;exact dh.mk (w,bi,bl,bo) ⟨rfl,rfl,rfl,trivial⟩ (.pull [3,3,1,3] (aL rfl))
     ·refine And.intro ?_ ?_
      ·refine bf ?_;intro bl;refine And.intro ?_ ?_
       ·refine bf ?_;intro bi;intro w;refine aj 0 ?_;exact dh.mk (w,bi,bl,bo) ⟨rfl,rfl,rfl,trivial⟩ (.pull [3,3,3,3] (aL rfl))
       ·intro w;refine bf ?_;intro bi;refine aj 1 ?_;exact dh.mk (w,bi,bl,bo) ⟨rfl,rfl,rfl,trivial⟩ (.pull [3,2,3,3] (aL rfl))
      ·intro w;refine And.intro ?_ ?_
       ·refine bf ?_;intro bi;refine bf ?_;intro bl;refine aj 2 ?_;exact dh.mk (w,bi,bl,bo) ⟨rfl,rfl,rfl,trivial⟩ (.pull [3,2,1,3] (aL rfl))
       ·refine bf ?_;intro bl;refine bf ?_;intro bi;refine aj 2 ?_;exact dh.mk (w,bi,bl,bo) ⟨rfl,rfl,rfl,trivial⟩ (.pull [3,2,2,3] (aL rfl))
    ·intro w;refine And.intro ?_ ?_
     ·refine bf ?_;intro bi;refine And.intro ?_ ?_
      ·refine bf ?_;intro bl;refine bf ?_;intro bo;refine aj 3 ?_;exact dh.mk (w,bi,bl,bo) ⟨rfl,rfl,rfl,trivial⟩ (.pull [3,2,1,0] (aL rfl))
      ·refine bf ?_;intro bo;refine bf ?_;intro bl;refine aj 3 ?_;exact dh.mk (w,bi,bl,bo) ⟨rfl,rfl,rfl,trivial⟩ (.pull [3,2,1,1] (aL rfl))
     ·refine And.intro ?_ ?_
      ·refine bf ?_;intro bl;refine And.intro ?_ ?_
       ·refine bf ?_;intro bi;refine bf ?_;intro bo;refine aj 3 ?_;exact dh.mk (w,bi,bl,bo) ⟨rfl,rfl,rfl,trivial⟩ (.pull [3,2,2,0] (aL rfl))
       ·refine bf ?_;intro bo;refine bf ?_;intro bi;refine aj 3 ?_;exact dh.mk (w,bi,bl,bo) ⟨rfl,rfl,rfl,trivial⟩ (.pull [3,2,2,1] (aL rfl))
      ·refine bf ?_;intro bo;refine And.intro ?_ ?_
       ·refine bf ?_;intro bi;refine bf ?_;intro bl;refine aj 3 ?_;exact dh.mk (w,bi,bl,bo) ⟨rfl,rfl,rfl,trivial⟩ (.pull [3,2,1,2] (aL rfl))
       ·refine bf ?_;intro bl;refine bf ?_;intro bi;refine aj 3 ?_;exact dh.mk (w,bi,bl,bo) ⟨rfl,rfl,rfl,trivial⟩ (.pull [3,2,2,2] (aL rfl))
 rintro⟨w,bi,bl,bo⟩ g;have cP:∀(a:Nat) (σ:Hp),ACalls Tryz.prog 289 [.int .i64 n,.ah dO l,.int .i64 a] σ (aC (.ah (.int .i64) (aw n l a)) σ):=fun a σ=>B4 n l a σ hl;have mj:∀k,cE ((List.range (k+1)).map fun a:Nat=>aw n l a)=cE ((List.range k).map fun a:Nat=>aw n l a)++[.ah (.int .i64) (aw n l k)]:=fun k=>by rw[sM,cF];exact cF
 have gi:∀k,(cE ((List.range k).map fun a:Nat=>aw n l a)).length=k:=fun k=>by rw[vR,bX,oL]
 refine ca (S:=Nat×AV×Hp) (fun x=>[(0,.int .i64 n),(1,.ah dO l),(6,.ptr w 0),(20,.int .i64 n),(21,.int .i64 x.1)]) (fun x=>(w,[x.2.1,.ae bi 0 n 1,.ae bl 0 n 1,.ae bo 0 n 1,.an,.int .i64 0,.an])::(bi,cI [.int .i64 0] n)::(bl,cI [.int .i64 0] n)::(bo,cI [.bool false] n)::(x.2.2++σ)) (fun x=>x.1≤n∧(x.1<n→Acc 1 x.1 x.2.1 x.2.2 (cE ((List.range x.1).map fun a:Nat=>aw n l a)))∧(x.1=n→x.2.1=.ah (.slice (.int .i64)) (cd n l)∧x.2.2=[])) (fun x=>n-x.1) (0,.an,[]) ⟨⟨bC _,fun _=>.nil,fun h=>by have h:0=n:=h;omega⟩,⟨rfl,rfl,rfl,rfl,rfl,trivial⟩,rfl⟩ ?_;rintro⟨k,v,acc⟩ g ⟨aP,ig,EU⟩;have hk:k≤n:=aP;have cj:k<n→Acc 1 k v acc (cE ((List.range k).map fun a:Nat=>aw n l a)):=ig;have kB:k=n→v=.ah (.slice (.int .i64)) (cd n l)∧acc=[]:=EU;clear aP ig EU;refine ao (p:=(k:Int)<n) (fun ab=>?_) (fun au=>?_)
 ·have ab:k<n:=by omega
  have cj:=cj ab;clear kB;have mR:(cd n l).length=n:=by unfold cd;rw[bX,oL]
  have CI:∀k,k+1=n→((cE ((List.range k).map fun a:Nat=>aw n l a)++[AV.ah (.int .i64) (aw n l k)]).drop 0).take ((k+1)*1)=(cd n l).flatMap (Sh.cells (.slice (.int .i64))):=fun k hk=>by
   rw[← mj,gR,eR (by rw[gi,dS];exact aQ _),hk];exact xT _
  refine .sched [5] (ru [0,2,3,4] (.one 5 true (.alt 1 (cJ [6,7,8,9]) (cJ [6,1,7,8,9])))) (by kernel_rfl) ?_;refine aK [] (B4 n l _ _ hl) ?_;refine And.intro ?_ ?_
  ·refine aa 0 ?_;intro aF;refine A5 [_,_,_,_,_] cj.yK (.ae 0 aF 0 1 _ rfl (cy rfl)) rfl (by omega) (by decide) (by decide) (fun v' aY h'=>?_);obtain⟨b5,rfl,rfl⟩:=ub (by omega) h';refine aj 1 ?_
   by_cases j0:k+1=n
   ·refine .kV 5 b5 0 (k+1) 1 _ (.slice (.int .i64)) (cd n l) rfl (CI k j0) ⟨(mR.trans j0.symm),rfl,by decide⟩ 1 0 w _ rfl rfl ?_;exact a8 (k+1,.ah (.slice (.int .i64)) (cd n l),[]) (by show n-(k+1)<n-k;omega) ⟨ab,fun h=>absurd j0 (by have h:k+1<n:=h;omega),fun _=>⟨rfl,rfl⟩⟩ ⟨rfl,rfl,rfl,rfl,aX (by omega),trivial⟩ (.drop 0 1 (aL rfl))
   ·exact a8 (k+1,.ae b5 0 (k+1) 1,[(b5,cE ((List.range k).map fun a:Nat=>aw n l a)++[.ah (.int .i64) (aw n l k)])]) (by show n-(k+1)<n-k;omega) ⟨ab,fun _=>by show Acc 1 (k+1) _ _ (cE ((List.range (k+1)).map fun a:Nat=>aw n l a));rw[mj];exact h',fun h=>absurd h j0⟩ ⟨rfl,rfl,rfl,rfl,aX (by omega),trivial⟩ (.drop 0 1 (aL rfl))
  ·intro dJ;refine aa 1 ?_;refine A5 [_,_,_,_,_] cj.yK (.ae 0 dJ 0 1 _ rfl (cy rfl)) rfl (by omega) (by decide) (by decide) (fun v' aY h'=>?_);obtain⟨b5,rfl,rfl⟩:=ub (by omega) h';refine aj 1 ?_
   by_cases j0:k+1=n
   ·refine .kV 5 b5 0 (k+1) 1 _ (.slice (.int .i64)) (cd n l) rfl (CI k j0) ⟨(mR.trans j0.symm),rfl,by decide⟩ 1 0 w _ rfl rfl ?_;exact a8 (k+1,.ah (.slice (.int .i64)) (cd n l),[]) (by show n-(k+1)<n-k;omega) ⟨ab,fun h=>absurd j0 (by have h:k+1<n:=h;omega),fun _=>⟨rfl,rfl⟩⟩ ⟨rfl,rfl,rfl,rfl,aX (by omega),trivial⟩ (.drop 0 1 (aL rfl))
   ·exact a8 (k+1,.ae b5 0 (k+1) 1,[(b5,cE ((List.range k).map fun a:Nat=>aw n l a)++[.ah (.int .i64) (aw n l k)])]) (by show n-(k+1)<n-k;omega) ⟨ab,fun _=>by show Acc 1 (k+1) _ _ (cE ((List.range (k+1)).map fun a:Nat=>aw n l a));rw[mj];exact h',fun h=>absurd h j0⟩ ⟨rfl,rfl,rfl,rfl,aX (by omega),trivial⟩ (.drop 0 1 (aL rfl))
 ·have au:k=n:=by omega
  obtain⟨rfl,rfl⟩:=kB au;clear cj kB;refine ca (S:=Nat×(List Int×List Int×List Bool×Nat×List (List Int))×(AV×Hp×AV×Hp)) (fun x=>[(0,.int .i64 n),(1,.ah dO l),(6,.ptr w 0),(34,.int .i64 n),(35,.int .i64 x.1)]) (fun x=>(w,dw (cd n l) bi bl bo n x.2.2.1 x.2.1.2.2.2.1 x.2.2.2.2.1)::(bi,ai x.2.1.1)::(bl,ai x.2.1.2.1)::(bo,bN x.2.1.2.2.1)::(x.2.2.2.1++(x.2.2.2.2.2++σ))) (fun x=>x.1≤n∧FI n (aw n l) x.2.1.1 x.2.1.2.1 x.2.1.2.2.1 [] x.2.1.2.2.2.1 x.2.1.2.2.2.2 []∧iT 1 0 x.2.2.1 x.2.2.2.1 []∧PO x.2.1.2.2.2.2 x.2.2.2.2.1 x.2.2.2.2.2∧∀b:Nat,b<x.1→x.2.1.1.getD b 0≠0) (fun x=>n-x.1) (0,(List.replicate n 0,List.replicate n 0,List.replicate n false,0,[]),(.an,[],.an,[])) ⟨⟨bC _,.start n (aw n l),.nil,⟨[],[],rfl,.nil,rfl⟩,fun _ h=>absurd h (oJ _)⟩,⟨rfl,rfl,rfl,rfl,rfl,trivial⟩,by rw[zt,Ea];rfl⟩ ?_;clear au;rintro⟨k,⟨ix,lo,on,aH,P⟩,⟨vs,mf,vp,e8⟩⟩ g2 ⟨aP,pG,ox,ve,sy⟩;have hk:k≤n:=aP;have hF:FI n (aw n l) ix lo on [] aH P []:=pG;have hs:iT 1 0 vs mf []:=ox;have hp:PO P vp e8:=ve;have hv:∀b:Nat,b<k→ix.getD b 0≠0:=sy;clear aP pG ox ve sy;have Gd:((k:Nat):Int).toNat=k:=bG k;refine ao (p:=(k:Int)<n) (fun ab=>?_) (fun au=>?_)
  ·have ab:k<n:=by omega
   refine aa 0 ?_;refine aO ?_;refine aW 1 rfl (fy rfl (by omega) (by rw[hF.li];omega)) ?_;refine ao (p:=ix.getD ((k:Nat):Int).toNat 0=0) (fun c1=>?_) (fun c1=>?_)
   ·refine .mk [] _ (ahO n w bi bl bo l ix lo on aH P vs vp mf e8 k σ (by omega) hF (by omega) c1 hs hp) ?_;rintro _ _ ⟨rfl,Pa,O9,O7,OV,P2,J8,Og,O3,Oh,P5,gQ,dH,tL,sA,rfl⟩;rw[Gd]at tL;refine a8 (k+1,(Pa,O9,O7,OV,P2),(J8,Og,O3,Oh)) (by show n-(k+1)<n-k;omega) ⟨ab,P5,gQ,dH,fun b hb=>?_⟩ ⟨rfl,rfl,rfl,rfl,aX (by omega),trivial⟩ (.refl _);have hb:b<k+1:=hb
    by_cases e:b=k
    ·subst e;exact tL
    ·exact sA b (hv b (by omega))
   ·rw[Gd]at c1;refine a8 (k+1,(ix,lo,on,aH,P),(vs,mf,vp,e8)) (by show n-(k+1)<n-k;omega) ⟨ab,hF,hs,hp,fun b hb=>?_⟩ ⟨rfl,rfl,rfl,rfl,aX (by omega),trivial⟩ (.refl _);have hb:b<k+1:=hb
    by_cases e:b=k
    ·subst e;exact c1
    ·exact hv b (by omega)
  ·have au:k=n:=by omega
   subst au
   have cx:px k l P:=⟨hF.tj.prt,fun x h0 h1=>by
    have h2:=hv x.toNat (by omega);have h3:=(hF.tj.yJ x h0 h1).1 (by rw[mH h0];exact h2)
    exact h3.resolve_left (by simp)⟩
   have Gr:=DA hF.tj.prt;refine aa 0 ?_;obtain⟨x,hx,_⟩:=cx.all 0 (by omega) (by omega);have vt:=C9 hx;obtain⟨ac,rw,rfl,hac,nA⟩:=hp;have xh:rw.length=P.length:=by rw[← nA,bX]
   obtain⟨b5,rfl,rfl⟩:=ub (by omega) hac;have hO:=fun τ=>acb k l P rw b5 τ cx nA vt hl (by omega) CL;rw[← xh]at hO
   rcases hs.zero with ⟨rfl,rfl⟩ | ⟨bs,J,rfl,rfl⟩
   ·refine .perm _ (Bq [_,_,_,_] ((b5,fC rw)::fe rw) σ) (hO _) ?_;rintro _ _ ⟨GW,e9,rfl,nz,rfl,F6⟩;exact⟨_,(Bq [_,_,_,_] ((GW,fC e9)::fe e9) σ).symm,.drop 0 4 (.done ⟨GW,e9,rfl,nz,rfl,P,cx,F6⟩)⟩
   ·refine .perm _ (Bq [_,_,_,_,_] ((b5,fC rw)::fe rw) σ) (hO _) ?_;rintro _ _ ⟨GW,e9,rfl,nz,rfl,F6⟩;exact⟨_,(Bq [_,_,_,_,_] ((GW,fC e9)::fe e9) σ).symm,.drop 0 5 (.done ⟨GW,e9,rfl,nz,rfl,P,cx,F6⟩)⟩
end Go.Proofs.YtnikdflhefijbaaGreat
namespace Go.Proofs.YtnikdflhefijbaaGreat
open Go.Shelf
def Zg:Go.Shelf.Ren:=⟨fun | 6=>259 | 15=>233 | 14=>292 | 28=>274 | 29=>275 | 20=>318 | 21=>319 | 22=>320 | 23=>321 | 24=>322 | 25=>323 | 26=>324 | 27=>325 | 46=>339 | 47=>296 | 48=>297 | 49=>340 | 50=>341 | 57=>355 | n=>n,fun | 22=>23 | 24=>3 | 25=>118 | 3=>3 | 39=>253 | 0=>0 | 53=>284 | 55=>56 | 4=>4 | 46=>308 | 45=>307 | 50=>312 | 5=>5 | 9=>9 | 66=>331 | 70=>335 | 76=>353 | 77=>50 | n=>n,fun | n=>n⟩
theorem afv:Go.Proofs.SlLaysF.n6 Tryz.prog Zg:= {
 mixed:=by kernel_rfl
 f6 := ⟨"slices.SortFunc[[]int,int]", by decide, Tryz.func259.trans (congrArg some (by kernel_rfl))⟩
 f14 := ⟨"slices.pdqsortCmpFunc[int]", by decide, Tryz.func292.trans (congrArg some (by kernel_rfl))⟩
 f15:=Tryz.func233.trans (congrArg some (by kernel_rfl))
 f20 := ⟨"slices.insertionSortCmpFunc[int]", by decide, Tryz.func318.trans (congrArg some (by kernel_rfl))⟩
 f21 := ⟨"slices.heapSortCmpFunc[int]", by decide, Tryz.func319.trans (congrArg some (by kernel_rfl))⟩
 f22 := ⟨"slices.breakPatternsCmpFunc[int]", by decide, Tryz.func320.trans (congrArg some (by kernel_rfl))⟩
 f23 := ⟨"slices.choosePivotCmpFunc[int]", by decide, Tryz.func321.trans (congrArg some (by kernel_rfl))⟩
 f24 := ⟨"slices.reverseRangeCmpFunc[int]", by decide, Tryz.func322.trans (congrArg some (by kernel_rfl))⟩
 f25 := ⟨"slices.partialInsertionSortCmpFunc[int]", by decide, Tryz.func323.trans (congrArg some (by kernel_rfl))⟩
 f26 := ⟨"slices.partitionEqualCmpFunc[int]", by decide, Tryz.func324.trans (congrArg some (by kernel_rfl))⟩
 f27 := ⟨"slices.partitionCmpFunc[int]", by decide, Tryz.func325.trans (congrArg some (by kernel_rfl))⟩
 f28:=Tryz.func274.trans (congrArg some (by kernel_rfl))
 f29:=Tryz.func275.trans (congrArg some (by kernel_rfl))
 f46 := ⟨"slices.siftDownCmpFunc[int]", by decide, Tryz.func339.trans (congrArg some (by kernel_rfl))⟩
 f47:=Tryz.func296.trans (congrArg some (by kernel_rfl))
 f48:=Tryz.func297.trans (congrArg some (by kernel_rfl))
 f49 := ⟨"slices.medianAdjacentCmpFunc[int]", by decide, Tryz.func340.trans (congrArg some (by kernel_rfl))⟩
 f50 := ⟨"slices.medianCmpFunc[int]", by decide, Tryz.func341.trans (congrArg some (by kernel_rfl))⟩
 f57 := ⟨"slices.order2CmpFunc[int]", by decide, Tryz.func355.trans (congrArg some (by kernel_rfl))⟩
 t0:=Tryz.underlying0
 a0:=Tryz.isAgg0
 z0:=Tryz.sizeOf0
 v0:=Tryz.zeroValue0
 t3:=Tryz.underlying3
 a3:=Tryz.isAgg3
 z3:=Tryz.sizeOf3
 v3:=Tryz.zeroValue3
 t4:=Tryz.underlying4
 a4:=Tryz.isAgg4
 z4:=Tryz.sizeOf4
 v4:=Tryz.zeroValue4
 t5:=Tryz.underlying5
 a5:=Tryz.isAgg5
 z5:=Tryz.sizeOf5
 v5:=Tryz.zeroValue5
 t9:=Tryz.underlying9
 a9:=Tryz.isAgg9
 z9:=Tryz.sizeOf9
 v9:=Tryz.zeroValue9
 t22:=Tryz.underlying23
 a22:=Tryz.isAgg23
 z22:=Tryz.sizeOf23
 v22:=Tryz.zeroValue23
 a24:=Tryz.isAgg3
 z24:=Tryz.sizeOf3
 t25:=Tryz.underlying118
 a25:=Tryz.isAgg118
 z25:=Tryz.sizeOf118
 v25:=Tryz.zeroValue118
 t39:=Tryz.underlying253
 a39:=Tryz.isAgg253
 z39:=Tryz.sizeOf253
 v39:=Tryz.zeroValue253
 t45:=Tryz.underlying307
 a45:=Tryz.isAgg307
 z45:=Tryz.sizeOf307
 v45:=Tryz.zeroValue307
 t46:=Tryz.underlying308
 a46:=Tryz.isAgg308
 z46:=Tryz.sizeOf308
 v46:=Tryz.zeroValue308
 t50:=Tryz.underlying312
 a50:=Tryz.isAgg312
 z50:=Tryz.sizeOf312
 v50:=Tryz.zeroValue312
 t53:=Tryz.underlying284
 a53:=Tryz.isAgg284
 z53:=Tryz.sizeOf284
 v53:=Tryz.zeroValue284
 t55:=Tryz.underlying56
 a55:=Tryz.isAgg56
 z55:=Tryz.sizeOf56
 v55:=Tryz.zeroValue56
 t66:=Tryz.underlying331
 a66:=Tryz.isAgg331
 z66:=Tryz.sizeOf331
 v66:=Tryz.zeroValue331
 t70:=Tryz.underlying335
 a70:=Tryz.isAgg335
 z70:=Tryz.sizeOf335
 v70:=Tryz.zeroValue335
 t76:=Tryz.underlying353
 a76:=Tryz.isAgg353
 z76:=Tryz.sizeOf353
 v76:=Tryz.zeroValue353
 t77:=Tryz.underlying50
 a77:=Tryz.isAgg50
 z77:=Tryz.sizeOf50
 v77:=Tryz.zeroValue50 }
end Go.Proofs.YtnikdflhefijbaaGreat
namespace Go.Proofs.YtnikdflhefijbaaGreat
open Go.RowKit Go.Lib
set_option maxRecDepth 100000
theorem agA(n:Nat)(rk:List Int)(x y:Int)(σ:Hp)(hr:rk.length=n)(hx:0≤x∧x<n)(hy:0≤y∧y<n):ACalls Tryz.prog 260 [.int .i64 x,.int .i64 y,.gq [.ah (.int .i64) rk]] σ (aC (.int .i64 (IntKind.i64.wrap (rk.getD x.toNat 0-rk.getD y.toNat 0))) σ):=by
 have h1:rk[x.toNat]?=some (rk.getD x.toNat 0):=by rw[aZ,bB (by omega)];rfl
 have h2:rk[y.toNat]?=some (rk.getD y.toNat 0):=by rw[aZ,bB (by omega)];rfl
 refine ay Tryz.func260 ?_;refine .quiet (by kernel_rfl) ?_;refine aJ.mk rfl ?_;refine bO.mk _ hx.1 h1 ?_;refine aJ.mk rfl ?_;refine bO.mk _ hy.1 h2 ?_;exact .done ⟨rfl,rfl⟩
abbrev nL(n:Nat):Type:= { x:Int // 0≤x∧x<(n:Int) }
def yF{n:Nat}(rk:List Int)(x y:nL n):Int:=IntKind.i64.wrap (rk.getD x.1.toNat 0-rk.getD y.1.toNat 0)
def tf{n:Nat}(x:nL n):Value:=.int .i64 x.1
structure uV(n:Nat)(rk:List Int):Prop where
 len:rk.length=n
 big:∀i:Nat,i<n→0≤rk.getD i 0∧rk.getD i 0<1000000
 inj:∀i j:Nat,i<n→j<n→rk.getD i 0=rk.getD j 0→i=j
theorem uV.lt{n:Nat}{rk:List Int}(h:uV n rk)(x y:nL n):ltOf (yF rk) x y=decide (rk.getD x.1.toNat 0<rk.getD y.1.toNat 0):=by
 unfold ltOf;rw[decide_eq_decide];have h1:=h.big x.1.toNat (by have:=x.2;omega);have h2:=h.big y.1.toNat (by have:=y.2;omega);unfold yF;rw[IntKind.wrap_i64];omega
theorem uV.swo{n:Nat}{rk:List Int}(h:uV n rk):Go.Sort.SWO (ltOf (yF (n:=n) rk)) where
 irrefl x:=by rw[h.lt];simp
 trans x y z h1 h2:=by rw[h.lt]at *;simp only[decide_eq_true_eq]at *;omega
 ntrans x y z h1 h2:=by rw[h.lt]at *;simp only[decide_eq_false_iff_not]at *;omega
theorem uV.tot{n:Nat}{rk:List Int}(h:uV n rk)(x y:nL n)(h1:ltOf (yF rk) x y=false)(h2:ltOf (yF rk) y x=false):x=y:=by
 rw[h.lt]at h1 h2;simp only[decide_eq_false_iff_not]at h1 h2;have hx:=x.2;have hy:=y.2;have:=h.inj x.1.toNat y.1.toNat (by omega) (by omega) (by omega);exact Subtype.ext (by omega)
def wA{n:Nat}(rk:List Int)(L:List (nL n)):List (nL n):=L.mergeSort fun x y=> !(ltOf (yF rk)) y x
theorem YH{n:Nat}(rk:List Int)(L:List (nL n)):(wA rk L).length=L.length:=Qi ..
def jW{n:Nat}(L:List (nL n)):List Int:=L.map (·.1)
theorem Ua{n:Nat}[Inhabited (nL n)](w:World)(b:Nat)(d:List (nL n)):Go.Sort.putRow tf w b 0 d.toArray=Go.Sort.putRow (Value.int .i64) w b 0 (jW d).toArray:=by
 have e:Go.Sort.putCells tf 0 d.toArray=Go.Sort.putCells (Value.int .i64) 0 (jW d).toArray:=by
  funext c
  unfold Go.Sort.putCells;refine Array.ext (by simp) fun i h1 h2=>?_;have hs:(jW d).toArray.size=d.toArray.size:=by simp[jW]
  simp only[Array.getElem_mapIdx,hs]
  by_cases hi:0≤i∧i<0+d.toArray.size
  ·rw[af hi,af hi];have qz:i<d.length:=by have:=hi.2;simp at this;omega
   have e1:d.toArray[i-0]! = d[i]'qz:=by simp[qz]
   have e2:(jW d).toArray[i-0]! = (d[i]'qz).1:=by simp[jW,qz]
   rw[e1,e2];rfl
  ·rw[ag hi,ag hi]
 unfold Go.Sort.putRow;rw[e]
theorem Dc{n:Nat}(L:List (nL n)):(jW L).length=L.length:=bX _
theorem YN:Enters Tryz.prog 259:=enters_of Tryz.func259 (by kernel_rfl)
theorem Zq:Enters Tryz.prog 260:=enters_of Tryz.func260 (by kernel_rfl)
theorem ajC{F:Nat→Prop}{w:World}{f:Fn}{bk:Nat}{v:Value}(h:aB F w (.fn f [] [.ptr bk 0]) v):v=.func f #[] #[.pointer (some ⟨bk,0,none⟩)]:=by
 cases h with
 |fn _ _ _ v1 v2 fD gQ h1 h2=>
  have e1:v1 = #[]:=Lb fD.symm
  obtain⟨z,rfl⟩:∃z,v2 = #[z]:=by
   obtain⟨l2⟩:=v2
   match l2,gQ with
   | [z],_=>exact⟨z,rfl⟩
  subst e1;have h3:=h2 0 _ rfl;cases h3;rfl
theorem abK{F:Nat→Prop}{w:World}{σ:Hp}{n:Nat}[Inhabited (nL n)]{rk:List Int}{b bk:Nat}{L:List (nL n)}(hr:uV n rk)(aG:bj F w ((b,ai (jW L))::(bk,[.ah (.int .i64) rk])::σ)):CmpLays1 Tryz.prog 260 #[.pointer (some ⟨bk,0,none⟩)] tf (yF (n:=n) rk) b 0 L.length w:=fun m os dk hdk x y=>by
 have hd:(jW dk.toList).length=(jW L).length:=by
  rw[Dc,Dc,Qs,hdk]
 obtain⟨s1,s2⟩:=Eb (n:=m) (zs':=jW dk.toList) aG hd os
 have hW:sortWorld tf w b 0 m dk os=Go.Sort.grow (Go.Sort.putRow (Value.int .i64) (Go.Sort.ahead w m) b 0 (jW dk.toList).toArray) os:=by
  have:=Ua (Go.Sort.ahead w m) b dk.toList;show Go.Sort.grow (Go.Sort.putRow tf (Go.Sort.ahead w m) b 0 dk) os=_;rw[← this]
 rw[← hW]at s1 s2;generalize sortWorld tf w b 0 m dk os=W at s1 s2;obtain⟨hF,c,T,h1,h2,h3⟩:=(s2.holds (bk,[.ah (.int .i64) rk]) (cQ _ (b9 ..))).Iq (fun x hx=>by rw[bD.1 hx];rfl);have aq:bH F W (fun k=>k<W.heap.size) W:=⟨rfl,rfl,rfl,aQ _,fun k hk=>s2.low k hk,fun _ _=>rfl,fun k c T fz h=>⟨c,fz,h,rfl⟩,aQ _⟩
 have qA:bk<W.heap.size:=(AQ.1 h1).1;have iw:0<c.size:=h2
 have hv:aB (fun k=>k<W.heap.size) W (.gq [.ah (.int .i64) rk]) (.pointer (some ⟨bk,0,none⟩)):=by
  refine .gq _ bk 0 (fun i=>c.getD i undef) ⟨qA,c,T,(0,0),h1⟩ (fun i x hx=>?_) (fun i x hx=>?_) (fun i x hx=>?_)
  ·match i,hx with
   | 0,hx=>rw[IA h1,iy,qF (by omega)];rfl
   |i+1,hx=>simp at hx
  ·exact (h3 i x hx).1
  ·exact (h3 i x hx).2.mono aq
 have h:=R9 (fun σ=>agA n rk x.1 y.1 σ hr.len x.2 y.2) (w:=W) (vs:= #[.int .i64 x.1,.int .i64 y.1,.pointer (some ⟨bk,0,none⟩)]) ⟨rfl,fun i a h=>by
  match i,h with
  | 0,h=>cases h;exact .int _ _
  | 1,h=>cases h;exact .int _ _
  | 2,h=>cases h;exact hv⟩
 exact h
theorem ac6(n:Nat)[Inhabited (nL n)](rk:List Int)(b bk:Nat)(L:List (nL n))(q:Nat)(σ:Hp)(hr:uV n rk)(hz:L.length=q)(h0:0<q)(hl:q≤1000000):ACalls Tryz.prog 259 [.ae b 0 q 1,.fn (.func 260) [] [.ptr bk 0]] ((b,ai (jW L))::(bk,[.ah (.int .i64) rk])::σ) (aC (.tup []) ((b,ai (jW (wA rk L)))::(bk,[.ah (.int .i64) rk])::σ)):=by
 subst hz;refine⟨YN,fun F w vs bP aG =>?_⟩
 obtain⟨v,u,rfl⟩:∃v u,vs = #[v,u]:=by
  obtain⟨l2⟩:=vs
  match l2,bP.1 with
  | [v,u],_=>exact⟨v,u,rfl⟩
 have hv:aB F w (.ae b 0 L.length 1) v:=bP.2 0 _ rfl;obtain rfl:=ajC (show aB F w (.fn (.func 260) [] [.ptr bk 0]) u from bP.2 1 _ rfl);obtain⟨a,cap,rfl,c,T,fz,m1,m2,m3,m4⟩:=hv.kR
 rcases m4 with ⟨rfl,_⟩ | ⟨_,_,h9,_⟩
 ·obtain⟨h1,h2⟩:=HY aG
  have h1:Go.Sort.Holds (tf (n:=n)) w b 0 L.toArray:=fun j hj=>by
   have xi:j<L.length:=by simpa using hj
   have hh:=h1 j (by simp[jW];exact xi);rw[show (jW L).toArray[j]! = (L.toArray[j]!).1 by simp[jW,xi]]at hh;exact hh
  have h:Calls Tryz.prog 259 #[.slice (some ⟨b,0,none⟩) L.length cap,.func (.func 260) #[] #[.pointer (some ⟨bk,0,none⟩)]] w fun e w'=>e=.returned (.tuple #[])∧∃n os,w'=sortWorld tf w b 0 n (wA rk L).toArray os:=Any.slices_SortFunc_total afv tf (fun _=>rfl) (yF rk) hr.swo 260 #[.pointer (some ⟨bk,0,none⟩)] b 0 cap L.toArray w Zq (by have:=abK hr aG;simpa using this) h1 h2 (by show L.length<_;omega) hr.tot;refine h.mono ?_;rintro e w' ⟨rfl,m,os,rfl⟩;obtain⟨k1,k2⟩:=Eb (n:=m) (zs':=jW (wA rk L)) aG (by rw[Dc,Dc,YH]) os
  have hW:sortWorld tf w b 0 m (wA rk L).toArray os=Go.Sort.grow (Go.Sort.putRow (Value.int .i64) (Go.Sort.ahead w m) b 0 (jW (wA rk L)).toArray) os:=by
   show Go.Sort.grow (Go.Sort.putRow tf (Go.Sort.ahead w m) b 0 (wA rk L).toArray) os=_;rw[Ua]
  rw[hW];exact⟨.tup [],.tuple #[],_,F,rfl,k1,k2,.tup [] #[] rfl fun i x h=>by simp at h,rfl,rfl⟩
 ·omega
set_option maxHeartbeats 4000000
def tv(n:Nat)(p:List Int):Nat→List Int
 | 0=>List.replicate n 0
 |k+1=>(tv n p k).set (p.getD k 0).toNat ((n:Int)-1-(k:Int))
theorem A7(n:Nat)(p:List Int):∀k,(tv n p k).length=n
 | 0=>fQ
 |k+1=>by unfold tv;rw[cz];exact A7 n p k
theorem aco{nx:Int→List Int}{n:Nat}{a:Int}{out:List Int}:a∈out++ij nx (n+1) a out:=by
 by_cases h:a∈out
 ·exact ia _ h
 ·refine jP _ ?_;unfold ij;rw[ag h];simp
theorem Ub{nx:Int→List Int}{n:Nat}:∀(L out:List Int) (a:Int),a∈out∨a∈L→a∈L.foldl (fun out a=>out++ij nx (n+1) a out) out
 | [],out,a,h=>h.elim id fun h=>by cases h
 |b::L,out,a,h=>by
  refine Ub L _ a ?_
  rcases h with h | h
  ·exact .inl (ia _ h)
  ·rcases dm.1 h with rfl | h
   ·exact .inl aco
   ·exact .inr h
theorem aaT{n:Nat}{l:List bE}{fr:List Int}{a:Int}(h:0≤a∧a<n):a∈qW n l fr:=by
 refine Ub _ _ a (.inr (jP _ (cX.2 ⟨a.toNat,fF.2 (by omega),?_⟩)));omega
structure kD(n:Nat)(p:List Int):Prop where
 nd:p.Nodup
 rg:∀x∈p,0≤x∧x<(n:Int)
 all:∀x:Int,0≤x∧x<(n:Int)→x∈p
theorem kD.len{n:Nat}{p:List Int}(h:kD n p):p.length=n:=by
 have h1:=HA n p h.nd h.rg;have h2:((List.range n).map fun a:Nat=>(a:Int)).Nodup:=vF.2 (List.Pairwise.imp (fun h e=>h (Int.ofNat.inj e)) CY)
 have h3:∀(A B:List Int),A.Nodup→(∀x∈A,x∈B)→A.length≤B.length:=by
  intro A
  induction A with
  |nil=>intro B _ _;exact bC _
  |cons a A ih=>
   intro B hn hs;have hn:=lV.1 hn;have ha:=hs a (b9 ..);have:=ih (B.erase a) hn.2 fun x hx=>(GL (fun e:x=a=>hn.1 (e▸hx))).2 (hs x (cQ _ hx));rw[List.length_erase_of_mem ha]at this;have:=C9 ha;rw[gj];omega
 have h4:=h3 _ p h2 fun x hx=>by
  obtain⟨a,ha,rfl⟩:=cX.1 hx;exact h.all _ ⟨by omega,by have:=fF.1 ha;omega⟩
 rw[bX,oL]at h4;omega
theorem We{n:Nat}{p:List Int}(h:kD n p):∀k,k≤n→∀i,i<k→(tv n p k).getD (p.getD i 0).toNat 0=(n:Int)-1-(i:Int)
 | 0,_,i,hi=>absurd hi (oJ _)
 |k+1,hk,i,hi=>by
  have hl:=h.len;have Pz:k<p.length:=by omega
  have e:∀j,j<p.length→p.getD j 0∈p∧p[j]?=some (p.getD j 0):=fun j hj=>by
   have:p[j]?=some (p.getD j 0):=by rw[aZ,bB hj];rfl
   exact⟨bU this,this⟩
  have hr:=h.rg _ (e k Pz).1;unfold tv;rw[aZ,eA]
  by_cases he:i=k
  ·subst he;rw[af rfl,af (by rw[A7];omega)];rfl
  ·have ey:=h.rg _ (e i (by omega)).1
   have aS:¬(p.getD k 0).toNat=(p.getD i 0).toNat:=fun e2=>by
    have e3:p.getD k 0=p.getD i 0:=by omega
    have:=(List.getElem?_inj (i:=k) (j:=i) Pz h.nd).1 ((e k Pz).2.trans ((congrArg some e3).trans (e i (by omega)).2.symm));omega
   rw[ag aS,← aZ];exact We h k (by omega) i (by omega)
def Ao(n:Nat)(p:List Int):List Int:=tv n p n
theorem agO{n:Nat}{p:List Int}(h:kD n p){i:Nat}{x:Int}(hi:p[i]?=some x):(Ao n p).getD x.toNat 0=(n:Int)-1-(i:Int):=by
 have hl:=(bZ.1 hi).1;rw[h.len]at hl;have:=We h n (aQ _) i hl;rw[show p.getD i 0=x by rw[aZ,hi];rfl]at this;exact this
theorem ahE(n:Nat)(l:List bE)(fr:List Int)(σ:Hp)(hl:l.length≤100000)(hf:fr.length≤100000)(ey:fL n l=true)(vh:∀x∈fr,0≤x∧x<(n:Int)):ACalls Tryz.prog 257 [.int .i64 n,.ah dO l,.ah (.int .i64) fr] σ (fun r σ'=>r=.tup [.ah (.int .i64) (Ao n (qW n l fr)),.int .i64 0]∧σ'=σ∧kD n (qW n l fr)):=by
 have hn:1≤n∧n≤256:=by
  unfold fL at ey;simp only[bS,decide_eq_true_eq]at ey;omega
 refine ay Tryz.func257 ?_;refine .mk [] _ (aiK n l fr _ hl hf ey vh) ?_;rintro _ τ ⟨rfl,Pd,met,hP⟩;subst τ;have hA:kD n (qW n l fr):=⟨hP.nd,hP.rg,fun x hx=>aaT hx⟩
 have hlen:=hA.len;generalize qW n l fr=p at hP hA hlen;have hnT:((n:Nat):Int).toNat=n:=bG n;refine bf ?_;intro bo;refine ca (S:=Nat) (fun x=>[(0,.int .i64 n),(10,.ae bo 0 n 1),(25,.ah (.int .i64) p),(26,.int .i64 p.length),(27,.int .i64 x)]) (fun x=>(bo,ai (tv n p x))::σ) (fun x=>x≤p.length) (fun x=>p.length-x) 0 ⟨bC _,⟨rfl,rfl,rfl,rfl,rfl,trivial⟩,by rw[show ai (tv n p 0)=cI [.int .i64 0] n from (zt n).symm];rfl⟩ ?_;intro k g hk;have hk:k≤p.length:=hk;refine ao (p:=(k:Int)<p.length) (fun ab=>?_) (fun au=>?_)
 ·have ab:k<p.length:=by omega
  have hx:=hA.rg _ (cq ab);have hlk:=A7 n p k;refine aJ.mk rfl (bO.mk p[k] (by omega) (get_some ab) ?_);refine aO ?_;have hv:IntKind.i64.wrap (IntKind.i64.wrap ((n:Int)-1)-(k:Int))=(n:Int)-1-(k:Int):=by rw[IntKind.wrap_i64,IntKind.wrap_i64];omega
  have kA:tv n p (k+1)=(tv n p k).set p[k].toNat ((n:Int)-1-(k:Int)):=by
   show (tv n p k).set (p.getD k 0).toNat _=_;rw[aZ,bB ab];rfl
  refine cU 0 rfl (nU rfl _ hx.1 (by omega)) ?_;exact a8 (k+1) (by show p.length-(k+1)<p.length-k;omega) ab ⟨rfl,rfl,rfl,rfl,aX (by omega),trivial⟩ (aL (by rw[hv,← kA];rfl))
 ·have au:k=p.length:=by omega
  subst au;refine .cN 0 bo 0 n 1 _ (.int .i64) (Ao n p) rfl (by rw[gR,eR (by rw[ju,A7,dS];exact aQ _),hlen];exact vW _) ⟨A7 n p n,rfl,by decide⟩ (eF .here (.refl _)) (.done ⟨rfl,rfl,hA⟩)
set_option maxHeartbeats 4000000
theorem RP:∀{Q:List (List Int)},(∀p∈Q,0<p.length)→Q.length≤Q.flatten.length
 | [],_=>aQ _
 |p::Q,h=>by
  have ih:=RP (Q:=Q) fun q hq=>h q (cQ _ hq);have:=h p (b9 ..);rw[C0,bQ,gj];omega
set_option maxHeartbeats 4000000
theorem kD.rk{n:Nat}{p:List Int}(h:kD n p)(hn:n≤1000):uV n (Ao n p):=by
 have hl:=h.len
 have key:∀i:Nat,i<n→∃j:Nat,p[j]?=some (i:Int)∧j<n∧(Ao n p).getD i 0=(n:Int)-1-(j:Int):=fun i hi=>by
  obtain⟨j,hj⟩:=GK (h.all i ⟨by omega,by omega⟩);have iM:=(bZ.1 hj).1;have:=agO h hj;rw[bG]at this;exact⟨j,hj,by omega,this⟩
 refine⟨A7 n p n,fun i hi=>?_,fun i j hi hj e=>?_⟩
 ·obtain⟨k,_,hk,e⟩:=key i hi;omega
 ·obtain⟨k,h1,_,e1⟩:=key i hi;obtain⟨m,h2,_,e2⟩:=key j hj;have:k=m:=by omega
  subst this;rw[h1]at h2;have:=Option.some.inj h2;omega
def zT(n:Nat)(p:List Int):List (nL n):=p.filterMap fun x=>if h:0≤x∧x<(n:Int) then some ⟨x,h⟩ else none
theorem Ht{n:Nat}:∀{p:List Int},(∀x∈p,0≤x∧x<(n:Int))→jW (zT n p)=p
 | [],_=>rfl
 |x::p,h=>by
  have hx:=h x (b9 ..);have ih:=Ht (p:=p) fun y hy=>h y (cQ _ hy);unfold zT at ih ⊢;rw[List.filterMap_cons,dif_pos hx];show x::jW _=_;rw[ih]
def fJ(n:Nat)(rk:List Int)(p:List Int):List Int:=jW (wA rk (zT n p))
theorem Sz{n:Nat}{rk p:List Int}(h:∀x∈p,0≤x∧x<(n:Int)):(fJ n rk p).Perm p:=by
 have h1:(jW (wA rk (zT n p))).Perm (jW (zT n p)):=List.Perm.map _ (List.mergeSort_perm _ _);rw[Ht h]at h1;exact h1
theorem YW{n:Nat}{rk p:List Int}(h:∀x∈p,0≤x∧x<(n:Int)):(fJ n rk p).length=p.length:=(Sz h).length_eq
def og(n:Nat)(l:List bE)(fr:List Int):List Int:=(kG n l).flatMap (fJ n (Ao n (qW n l fr)))
def ry(n:Nat)(rk:List Int)(rw:List (Nat×List Int))(k:Nat):List (Nat×List Int):=(rw.take k).map (fun r=>(r.1,fJ n rk r.2))++rw.drop k
theorem aed(n:Nat)(rk:List Int)(b bk:Nat)(p:List Int)(σ:Hp)(hr:uV n rk)(hp:∀x∈p,0≤x∧x<(n:Int))(h0:0<p.length)(hl:p.length≤1000000):ACalls Tryz.prog 259 [.ae b 0 p.length 1,.fn (.func 260) [] [.ptr bk 0]] ((b,ai p)::(bk,[.ah (.int .i64) rk])::σ) (aC (.tup []) ((b,ai (fJ n rk p))::(bk,[.ah (.int .i64) rk])::σ)):=by
 obtain⟨x,hx⟩:∃x,x∈p:=by
  match p,h0 with
  |x::_,_=>exact⟨x,b9 ..⟩
 haveI:Inhabited (nL n):=⟨⟨x,hp x hx⟩⟩
 have e:(zT n p).length=p.length:=by
  have:=congrArg List.length (Ht hp);rw[Dc]at this;exact this
 have h:=ac6 n rk b bk (zT n p) p.length σ hr e h0 hl;rw[Ht hp]at h;exact h
theorem agK{n:Nat}{rk:List Int}{rw:List (Nat×List Int)}{k b:Nat}{p:List Int}(h:rw[k]?=some (b,p)):(ry n rk rw k)[k]?=some (b,p)∧(ry n rk rw (k+1))[k]?=some (b,fJ n rk p):=by
 have hk:=(bZ.1 h).1;have hg:rw[k]=(b,p):=(bZ.1 h).2;have hl:((rw.take k).map (fun r=>(r.1,fJ n rk r.2))).length=k:=by rw[bX,tO];omega
 refine⟨?_,?_⟩
 ·unfold ry;rw[jq (by omega),hl,qB,xw,vA];exact h
 ·unfold ry;rw[ft hk,cF,hg,dW,jq (by omega),hl,qB];rfl
theorem aaK{n:Nat}{rk:List Int}{rw:List (Nat×List Int)}{k b:Nat}{p:List Int}(h:rw[k]?=some (b,p)):ry n rk rw k=(rw.take k).map (fun r=>(r.1,fJ n rk r.2))++(b,p)::rw.drop (k+1)∧ry n rk rw (k+1)=(rw.take k).map (fun r=>(r.1,fJ n rk r.2))++(b,fJ n rk p)::rw.drop (k+1):=by
 have hk:=(bZ.1 h).1;have hg:rw[k]=(b,p):=(bZ.1 h).2;refine⟨?_,?_⟩
 ·unfold ry;rw[K7 hk,hg]
 ·unfold ry;rw[ft hk,cF,hg,dW];rfl
theorem TW(A B:List (Nat×List Int))(b:Nat)(p:List Int)(x:Nat×List AV)(X σ:Hp):((b,ai p)::x::(X++(fe A++(fe B++σ)))).Perm (x::(X++(fe (A++(b,p)::B)++σ))):=by
 have e:fe (A++(b,p)::B)++σ=fe A++((b,ai p)::(fe B++σ)):=by
  unfold fe;rw[cF,dW];rfl
 rw[e];refine (List.Perm.swap _ _ _).trans (List.Perm.cons _ ?_);exact (oK.symm).trans (List.Perm.append_left X oK.symm)
theorem kD.perm{n:Nat}{p q:List Int}(h:kD n p)(hp:q.Perm p):kD n q:=⟨hp.nodup_iff.2 h.nd,fun x hx=>h.rg x (hp.mem_iff.1 hx),fun x hx=>hp.mem_iff.2 (h.all x hx)⟩
theorem Td{n:Nat}{rk:List Int}:∀{Q:List (List Int)},(∀p∈Q,∀x∈p,0≤x∧x<(n:Int))→(Q.flatMap (fJ n rk)).Perm Q.flatten
 | [],_=>List.Perm.nil
 |p::Q,h=>by
  rw[y6,C0];exact (Sz (h p (b9 ..))).append (Td fun q hq=>h q (cQ _ hq))
theorem px.flat{n:Nat}{l:List bE}{P Q:List (List Int)}(h:px n l P)(hp:Q.Perm P):(∀p∈Q,p≠[])∧(∀p∈Q,∀x∈p,0≤x∧x<(n:Int))∧kD n Q.flatten:=by
 have hn:∀p∈Q,∀x∈p,0≤x∧x<(n:Int):=fun p hq=>h.ok.node p (hp.mem_iff.1 hq);refine⟨fun p hq=>h.ok.ne p (hp.mem_iff.1 hq),hn,(hp.flatten).nodup_iff.2 h.ok.nd,fun x hx=>?_,fun x hx=>?_⟩
 ·obtain⟨p,hq,su⟩:=pL.1 hx;exact hn p hq x su
 ·obtain⟨p,hq,su⟩:=h.all x hx.1 hx.2;exact pL.2 ⟨p,hp.mem_iff.2 hq,su⟩
theorem RQ:∀{Q:List (List Int)},(∀p∈Q,p≠[])→Q.length≤Q.flatten.length
 | [],_=>aQ _
 |p::Q,h=>by
  have ih:=RQ (Q:=Q) fun q hq=>h q (cQ _ hq);have:=mX.2 (h p (b9 ..));rw[C0,bQ,gj];omega
theorem agj(n:Nat)(l:List bE)(fr:List Int)(σ:Hp)(hl:l.length≤100000)(hf:fr.length≤100000)(ey:fL n l=true)(vh:∀x∈fr,0≤x∧x<(n:Int)):ACalls Tryz.prog 215 [.int .i64 n,.ah dO l,.ah (.int .i64) fr] σ (fun r σ'=>∃bo,r=.tup [.ae bo 0 (og n l fr).length 1,.int .i64 0]∧σ'=(bo,ai (og n l fr))::σ∧kD n (og n l fr)∧(∀p∈kG n l,p≠[])∧kD n (kG n l).flatten∧kD n (qW n l fr)):=by
 have hn:1≤n∧n≤256:=by
  unfold fL at ey;simp only[bS,decide_eq_true_eq]at ey;omega
 refine ay Tryz.func215 ?_;refine .mk [] _ (ahE n l fr _ hl hf ey vh) ?_;rintro _ τ ⟨rfl,Pd,hA⟩;subst τ;have hR:=hA.rk (by omega);intro b8;refine aj 0 ?_;refine .mk [] _ (agb n l _ hl ey) ?_;rintro _ _ ⟨bo,e9,rfl,nz,rfl,P,cx,F6⟩;obtain⟨aS,qY,gD⟩:=cx.flat F6;have Gv:kD n (og n l fr):=gD.perm (Td qY);unfold og at Gv ⊢;generalize Ao n (qW n l fr)=rk at hR Gv;generalize kG n l=Q at nz aS qY Gv gD;have hQl:e9.length=Q.length:=by rw[← nz,bX]
 have hlen:=Gv.len
 have ajd:∀p∈Q,p.length≤n:=fun p hp=>by
  have h1:p.Sublist Q.flatten:=List.sublist_flatten_of_mem hp;have:=h1.length_le;have:=gD.len;omega
 have Xm:e9.length≤n:=by
  have:=RQ aS;have:=gD.len;omega
 have h0:ry n rk e9 0=e9:=by simp[ry]
 have hH:((b8,[AV.ah (.int .i64) rk])::(bo,fC e9)::(fe e9++([]++σ))).Perm ((bo,fC e9)::(fe e9++((b8,[AV.ah (.int .i64) rk])::σ))):=
  (List.Perm.swap _ _ _).trans (List.Perm.cons _ oK.symm)
 refine .wrap 11 .an rfl rfl ?_;refine .eb (.perm hH (.refl _)) ?_;refine ca (S:=Nat×AV×Hp) (fun x=>[(8,.ptr b8 0),(9,.int .i64 0),(11,.via x.2.1),(30,.ae bo 0 e9.length 1),(31,.int .i64 e9.length),(32,.int .i64 x.1)]) (fun x=>(b8,[.ah (.int .i64) rk])::(bo,fC e9)::(fe (ry n rk e9 x.1)++(x.2.2++σ))) (fun x=>x.1≤e9.length∧Acc 1 ((Q.take x.1).flatMap (fJ n rk)).length x.2.1 x.2.2 (ai ((Q.take x.1).flatMap (fJ n rk)))) (fun x=>e9.length-x.1) (0,.an,[]) ⟨⟨bC _,.nil⟩,⟨rfl,rfl,rfl,rfl,rfl,rfl,trivial⟩,by rw[h0]⟩ ?_;rintro⟨k,v,acc⟩ g ⟨hk,cj⟩;have hk:k≤e9.length:=hk;have cj:Acc 1 ((Q.take k).flatMap (fJ n rk)).length v acc (ai ((Q.take k).flatMap (fJ n rk))):=cj;refine ao (p:=(k:Int)<e9.length) (fun ab=>?_) (fun au=>?_)
 ·have ab:k<e9.length:=by omega
  obtain⟨p,hp⟩:∃p,Q[k]?=some p:=⟨Q[k]'(by omega),bB (by omega)⟩
  obtain⟨bk,qA⟩:=EH nz hp;have fN:=bU hp;have Ko:=qY p fN;have ve:=mX.2 (aS p fN);have tG:=ajd p fN;have cT:=YW (rk:=rk) Ko;obtain⟨s1,s2⟩:=aaK (n:=n) (rk:=rk) qA
  have fZ:Q.take (k+1)=Q.take k++[p]:=by
   rw[ft (by omega)];rw[bB (by omega)]at hp;rw[Option.some.inj hp]
  have oE:((Q.take k).flatMap (fJ n rk)).length+p.length≤n:=by
   have e:Q.flatMap (fJ n rk)=(Q.take (k+1)).flatMap (fJ n rk)++(Q.drop (k+1)).flatMap (fJ n rk):=by rw[← xC,y7]
   have:=congrArg List.length e;rw[fZ,List.flatMap_append,List.length_append,List.length_append,show [p].flatMap (fJ n rk)=fJ n rk p by simp]at this;omega
  refine aO ?_;refine aW 1 rfl (Ew rfl (by omega) (by rw[bG];exact qA)) ?_;rw[s1];refine .perm _ (TW _ _ bk p (b8,[.ah (.int .i64) rk]) [(bo,fC e9)] (acc++σ)) (aed n rk bk b8 p _ hR Ko ve (by omega)) ?_;rintro _ _ ⟨rfl,rfl⟩;refine⟨_,(TW _ _ bk (fJ n rk p) (b8,[.ah (.int .i64) rk]) [(bo,fC e9)] (acc++σ)).symm,?_⟩;rw[← s2];have ck:=(agK (n:=n) (rk:=rk) qA).2;refine iC (_::_::fe (ry n rk e9 (k+1))) cj (.ae (k+2) bk 0 p.length (ai (fJ n rk p)) (II ck) (by rw[ju,cT];show 0+p.length*1≤_;omega)) ?_ (by omega) (by decide) (by decide) (fun v' aY h'=>?_)
  ·show (List.take (p.length*1) (List.drop 0 (ai (fJ n rk p)))).length=p.length*1;rw[tO,CX,ju,cT];omega
  ·refine a8 (k+1,v',aY) (by show e9.length-(k+1)<e9.length-k;omega) ⟨ab,?_⟩ ⟨rfl,rfl,rfl,rfl,rfl,aX (by omega),trivial⟩ (.refl _);have e:List.take (p.length*1) (List.drop 0 (ai (fJ n rk p)))=ai (fJ n rk p):=by rw[gR,eR (by rw[ju,cT];omega)]
   have h2:Acc 1 (((Q.take k).flatMap (fJ n rk)).length+p.length) v' aY (ai ((Q.take k).flatMap (fJ n rk))++List.take (p.length*1) (List.drop 0 (ai (fJ n rk p)))):=h';rw[e,← cT,← bQ,show ai ((Q.take k).flatMap (fJ n rk))++ai (fJ n rk p)=ai ((Q.take k).flatMap (fJ n rk)++fJ n rk p) by unfold ai;rw[cF]]at h2;show Acc 1 ((Q.take (k+1)).flatMap (fJ n rk)).length v' aY (ai ((Q.take (k+1)).flatMap (fJ n rk)));rw[fZ,List.flatMap_append,show [p].flatMap (fJ n rk)=fJ n rk p by simp];exact h2
 ·have au:¬(k:Int)<e9.length:=au;rw[eR (by omega)]at cj;obtain⟨b,rfl,rfl⟩:=ub (by omega) cj;exact .drop 0 2 (aa4 (fe (ry n rk e9 k)) (.done ⟨b,rfl,rfl,Gv,aS,gD,hA⟩))
end Go.Proofs.YtnikdflhefijbaaGreat
