import Derived.Test.YtnikdflhefijbaaGreatBq9
import Derived.Test.YtnikdflhefijbaaGreatBq8
import Derived.Shelf.Slices.CompactI
import Derived.Shelf.Slices.In.SortNone
import Derived.Shelf.Sort.Plain
import Derived.Test.YtnikdflhefijbaaGreatBq6
namespace Go.Proofs.YtnikdflhefijbaaGreat
open Go.RowKit
set_option maxRecDepth 100000
theorem aal{f:FuncId}{xs:List AV}{σ:Hp}{R R':AV→Hp→Prop}(h:ACalls Tryz.prog f xs σ R)(hv:∀r σ',R r σ'→r.leaf=true∧R' (.via r) σ'):ACalls Tryz.prog f xs σ R':=
 ⟨h.1,fun F w vs bP aG=>(h.2 F w vs bP aG).mono fun _ _ ⟨r,v,σ',F',h1,h2,h3,h4,h5⟩=>⟨.via r,v,σ',F',h1,h2,h3,.via _ _ (hv r σ' h5).1 h4,(hv r σ' h5).2⟩⟩
theorem NV{n:Int}(h:bK n):bh [n]:=fun z hz=>by rw[bD.1 hz];exact h
theorem aam{f:FuncId}{xs ys:List AV}{σ:Hp}{R:AV→Hp→Prop}(h:fm 0 0 0 0 .bool [] (.tup xs) (.tup ys))(hc:ACalls Tryz.prog f ys σ R):ACalls Tryz.prog f xs σ R:=
 ⟨hc.1,fun F w vs bP aG=>hc.2 F w vs (by
  have:=A3 (.refl F w) (fun v hv=>by
   obtain⟨a,cap,rfl,c,T,fz,m1,m2,m3,m4⟩:=hv.kR
   exact .ah _ _ _ ⟨some a,cap,rfl,m2,m3,(fun e=>by cases e),fun aS=>absurd rfl aS⟩) h (.tuple vs) (.tup xs vs bP.1 bP.2)
  cases this with
  |tup _ _ h1 h2=>exact⟨h1,h2⟩) aG⟩
abbrev dO:Sh:=.field (.int .i64) (.field (.int .i64) .nil)
abbrev bE:Type:=Int×Int×Unit
abbrev mZ:Type:=List Int×List Int×List dp×Unit
abbrev Xc:Sh:=.field (.int .i64) (.field (.int .i64) (.field (.int .i64) (.field (.slice dO) (.field (.slice (.int .i64)) (.field (.slice (.int .u64)) (.field (.slice mC) .nil))))))
structure Sy where
 what:Int
 w:Int
 n:Int
 aN:List bE
 entry:List Int
 init:List Int
 T:List mZ
abbrev cc(s:Sy):List AV:=[.int .i64 s.what,.int .i64 s.w,.int .i64 s.n,.ah dO s.aN,.ah (.int .i64) s.entry,.ah (.int .u64) s.init,.ah mC s.T]
def aiZ(x:Xc.T):Sy:=⟨x.1,x.2.1,x.2.2.1,x.2.2.2.1,x.2.2.2.2.1,x.2.2.2.2.2.1,x.2.2.2.2.2.2.1⟩
def okT(t:mZ):Prop:=bh t.1∧bh t.2.1∧t.1.length≤10000∧t.2.1.length≤10000∧t.2.2.1.length≤100000
structure Fit(s:Sy):Prop where
 i64:bh s.init
 Fi:s.init.length≤10000
 yE:s.aN.length≤100000
 Cc:s.entry.length≤100000
 Oq:s.T.length≤100000
 ts:∀t∈s.T,okT t
def dY(n a:Int):Bool:=decide (0≤a)&&decide (a<n)
theorem Jm(n a:Int)(σ:Hp):ACalls Tryz.prog 206 [.int .i64 n,.int .i64 a] σ (aC (.bool (dY n a)) σ):=by
 refine ay Tryz.func206 ?_;refine ao (fun c1=>?_) (fun c1=>?_)
 ·have c1:0≤a:=c1;refine ao (fun c2=>?_) (fun c2=>?_)
  ·have c2:a<n:=c2;exact .done ⟨cY (by unfold dY;simp;omega),rfl⟩
  ·have c2:¬(a<n):=c2;exact .done ⟨cY (by unfold dY;simp;omega),rfl⟩
 ·have c1:¬(0≤a):=c1;exact .done ⟨cY (by unfold dY;simp;omega),rfl⟩
def BY(e:bE):AV:=.agg [.int .i64 e.1,.int .i64 e.2.1]
theorem agc(n:Int)(e:bE)(q:Nat)(σ:Hp):ACalls Tryz.prog 205 [BY e,.ptr q 0] ((q,[.int .i64 n])::σ) (aC (.bool (!(dY n e.1&&dY n e.2.1))) ((q,[.int .i64 n])::σ)):=by
 refine ay Tryz.func205 ?_;unfold BY;intro aF;refine aa 1 ?_;refine aa 0 ?_;refine eY [] (Jm n e.1 _) (fun c1=>?_) (fun c1=>?_)
 ·refine aa 1 ?_;refine aa 0 ?_;refine eY [] (Jm n e.2.1 _) (fun c2=>?_) (fun c2=>?_)
  ·exact .drop 0 1 (.done ⟨cY (by rw[c1,c2];rfl),rfl⟩)
  ·exact .drop 0 1 (.done ⟨cY (by rw[c1,c2];rfl),rfl⟩)
 ·exact .drop 0 1 (.done ⟨cY (by rw[c1];rfl),rfl⟩)
theorem aen(g:Nat)(cap:List AV)(l:List (Sh.T dO))(p:Sh.T dO→Bool)(σ:Hp)(hl:l.length≤1000000)(hg:∀(i:Nat) (hi:i<l.length),ACalls Tryz.prog g (BY l[i]::cap) σ (aC (.bool (p l[i])) σ)):ACalls Tryz.prog 252 [.ah dO l,.fn (.func g) [] cap] σ (fun r σ'=>∃n:Int,r=.int .i64 n∧σ'=σ∧decide (0≤n)=l.any p):=by
 refine ay Tryz.func252 ?_;refine ca (S:=Nat) (fun s=>[(0,.ah dO l),(1,.fn (.func g) [] cap),(7,.int .i64 l.length),(8,.int .i64 s)]) (fun _=>σ) (fun s=>s≤l.length∧(l.take s).any p=false) (fun s=>l.length-s) 0 ⟨⟨bC _,rfl⟩,⟨rfl,rfl,rfl,rfl,trivial⟩,rfl⟩ ?_;rintro k t ⟨aP,gw⟩;have hk:k≤l.length:=aP;have hn:(l.take k).any p=false:=gw;clear aP gw;refine ao (fun ab=>?_) (fun au=>?_)
 ·have ab:k<l.length:=by have ab:(k:Int)<l.length:=ab;omega
  have hs:=sU ab p;rw[hn,pI]at hs;refine aJ.mk rfl (bO.mk l[k] (by omega) (get_some ab) ?_);refine eY [] (hg k ab) (fun c=>?_) (fun c=>?_)
  ·have hp:l.any p=true:=mW.2 ⟨l[k],cq ab,c⟩;exact .done ⟨_,rfl,rfl,by rw[hp];exact bu (by omega)⟩
  ·exact a8 (k+1) (by show l.length-(k+1)<l.length-k;omega) ⟨ab,hs.trans c⟩ ⟨rfl,rfl,rfl,aX (by omega),trivial⟩ (.refl _)
 ·have au:k=l.length:=by have au:¬(k:Int)<l.length:=au;omega
  subst au;rw[ga]at hn;exact .done ⟨_,rfl,rfl,by rw[hn];rfl⟩
theorem Rp(g:Nat)(cap:List AV)(l:List (Sh.T dO))(p:Sh.T dO→Bool)(σ:Hp)(hl:l.length≤1000000)(hg:∀(i:Nat) (hi:i<l.length),ACalls Tryz.prog g (BY l[i]::cap) σ (aC (.bool (p l[i])) σ)):ACalls Tryz.prog 204 [.ah dO l,.fn (.func g) [] cap] σ (aC (.bool (l.any p)) σ):=by
 refine ay Tryz.func204 ?_;refine .mk [] _ (aen g cap l p _ hl hg) ?_;rintro _ _ ⟨n,rfl,rfl,hn⟩;rw[← hn];refine ao (fun c=>?_) (fun c=>?_)
 ·have c:0≤n:=c;rw[bu c];exact .done ⟨rfl,rfl⟩
 ·have c:¬0≤n:=c;rw[cf c];exact .done ⟨rfl,rfl⟩
def fL(n:Int)(l:List bE):Bool:=decide (1≤n)&&decide (n≤256)&&decide (l.length≤1024)&&l.all fun e=>dY n e.1&&dY n e.2.1
theorem Xx{n:Int}(l:List bE){b:Bool}(h:(l.any fun e=> !(dY n e.1&&dY n e.2.1))=b):(l.all fun e=>dY n e.1&&dY n e.2.1) = !b:=by rw[VS,h]
theorem EC(n:Int)(l:List bE)(σ:Hp)(hl:l.length≤1000000):ACalls Tryz.prog 150 [.int .i64 n,.ah dO l] σ (aC (.bool (fL n l)) σ):=by
 refine ay Tryz.func150 ?_;intro aF;refine aa 0 ?_;refine ao (fun c2=>?_) (fun c2=>?_)
 ·have c2:n<1:=c2;exact .drop 0 1 (.done ⟨cY (by unfold fL;simp;omega),rfl⟩)
 ·have c2:¬(n<1):=c2;refine aa 0 ?_;refine ao (fun c3=>?_) (fun c3=>?_)
  ·have c3:256<n:=c3;exact .drop 0 1 (.done ⟨cY (by unfold fL;simp;omega),rfl⟩)
  ·have c3:¬(256<n):=c3;refine ao (fun c4=>?_) (fun c4=>?_)
   ·have c4:1024<(↑l.length:Int):=c4;exact .drop 0 1 (.done ⟨cY (by unfold fL;simp;omega),rfl⟩)
   ·have c4:¬(1024<(↑l.length:Int)):=c4;refine eY [] (Rp 205 [.ptr aF 0] l (fun e=> !(dY n e.1&&dY n e.2.1)) _ hl (fun i hi=>agc n l[i] aF _)) (fun cL=>?_) (fun cL=>?_)
    ·exact .drop 0 1 (.done ⟨cY (by unfold fL;rw[Xx l cL];simp),rfl⟩)
    ·exact .drop 0 1 (.done ⟨cY (by unfold fL;rw[Xx l cL];simp;omega),rfl⟩)
def dN(what w:Int):Int:=if cO what w=true then (if what=3 then 2*w else w) else 0
theorem MH(what w:Int)(σ:Hp):ACalls Tryz.prog 131 [.int .i64 what,.int .i64 w] σ (aC (.int .i64 (dN what w)) σ):=by
 refine ay Tryz.func131 ?_;refine eY [] (JZ what w _) (fun c0=>?_) (fun c0=>?_)
 ·refine ao (fun c1=>?_) (fun c1=>?_)
  ·have c1:what=3:=c1;exact .done ⟨aT (by unfold cO at c0;simp at c0;unfold dN;rw[if_pos (qP (by omega)),if_pos c1,cC (by omega)]),rfl⟩
  ·have c1:¬(what=3):=c1;exact .done ⟨aT (by unfold dN;rw[af c0,ag c1]),rfl⟩
 ·exact .done ⟨aT (by unfold dN;rw[c0];rfl),rfl⟩
theorem abv(w:Int):gK (fv w) w=true:=by
 unfold gK;rw[bu (nM w),AJ,fG];intro i hi;have hi:=fF.1 hi;rw[nM]at hi;rw[decide_eq_true_eq,DY w hi,bG];have:=CV (min 64 (eI w-64*i));omega
theorem IB{what w:Int}(h:cO what w=true):dg what w (gC what w)=true:=by
 by_cases h3:what=3
 ·rw[ka h h3];unfold gC;rw[ag (fun h=>by omega),Rr h h3];unfold cO at h;simp at h;exact⟨by rw[fQ];omega,Uh _⟩
 ·rw[qL h h3];unfold gC;split
  ·exact abv w
  ·rw[Sm h h3,bG];refine (rU (Nq _) fQ).2 fun i k hi _ _=>?_;unfold eC;rw[lC _ hi,K9];exact HN k
theorem IZ(what w:Int):bh (gC what w):=by
 unfold gC;split
 ·exact UI w
 ·exact Nq _
theorem afR(what w:Int):(gC what w).length≤1024:=by
 unfold gC;split
 ·rw[nM];have:=Bn w;omega
 ·rw[fQ];have:=Ba what w;omega
def dT(s:Sy):Int:=if cO s.what s.w=true then (if fL s.n s.aN=true∧(s.T.length:Int)=s.n then (if (s.entry.any fun v=> !dY s.n v)=true then 1 else if dg s.what s.w s.init=true then (if (s.T.any fun t=> !decide (fT s.what s.w t.1 t.2.1 t.2.2.1=0))=true then 2 else 0) else 2) else 1) else 10
theorem ahm{s:Sy}(h:cO s.what s.w=false):10=dT s:=by unfold dT;rw[h];rfl
theorem Ji{s:Sy}(hi:cO s.what s.w=true)(h:¬(fL s.n s.aN=true∧(s.T.length:Int)=s.n)):1=dT s:=by unfold dT;rw[af hi,ag h]
theorem IV{s:Sy}(hi:cO s.what s.w=true)(h:fL s.n s.aN=true∧(s.T.length:Int)=s.n)(he:(s.entry.any fun v=> !dY s.n v)=true):1=dT s:=by unfold dT;rw[af hi,af h,af he]
theorem Xu{s:Sy}(hi:cO s.what s.w=true)(h:fL s.n s.aN=true∧(s.T.length:Int)=s.n)(he:(s.entry.any fun v=> !dY s.n v)=false)(hv:dg s.what s.w s.init=false):2=dT s:=by unfold dT;rw[af hi,af h,he,hv];rfl
theorem WG{s:Sy}(hi:cO s.what s.w=true)(h:fL s.n s.aN=true∧(s.T.length:Int)=s.n)(he:(s.entry.any fun v=> !dY s.n v)=false)(hv:dg s.what s.w s.init=true)(ht:(s.T.any fun t=> !decide (fT s.what s.w t.1 t.2.1 t.2.2.1=0))=true):2=dT s:=by unfold dT;rw[af hi,af h,he,hv,ht];rfl
theorem Oe{s:Sy}(hi:cO s.what s.w=true)(h:fL s.n s.aN=true∧(s.T.length:Int)=s.n)(he:(s.entry.any fun v=> !dY s.n v)=false)(hv:dg s.what s.w s.init=true)(ht:(s.T.any fun t=> !decide (fT s.what s.w t.1 t.2.1 t.2.2.1=0))=false):0=dT s:=by unfold dT;rw[af hi,af h,he,hv,ht];rfl
theorem HL(s:Sy)(σ:Hp)(hf:Fit s):ACalls Tryz.prog 84 [.agg (cc s)] σ (aC (.int .i64 (dT s)) σ):=by
 refine ay Tryz.func84 ?_;intro aF;refine .quiet (by kernel_rfl) ?_;refine aa 0 ?_;refine aa 0 ?_;refine aK [] (MH _ _ _) ?_;refine ao (fun c1=>?_) (fun c1=>?_)
 ·have c1:dN s.what s.w=0:=c1;refine aa 0 ?_;refine aa 0 ?_;refine aa 0 ?_;refine aa 0 ?_;refine aK [] (MI _ _ _) ?_;refine IX [] (J0 s.what s.w (gC s.what s.w) _ (IZ _ _) (ff (afR _ _) (by decide))) (fun c2=>?_) (fun c2=>?_)
  ·have hi:=nk c2;refine aa 0 ?_;refine aa 0 ?_;refine eY [] (EC s.n s.aN _ (ff hf.yE (by decide))) (fun cr=>?_) (fun cr=>?_)
   ·refine aa 0 ?_;refine aa 0 ?_;refine dX (fun ct=>?_) (fun ct=>?_)
    ·have ct:(!decide ((s.T.length:Int)=s.n))=true:=ct;have ct:¬(s.T.length:Int)=s.n:=by simpa using ct
     exact .fwd 1 (.drop 0 1 (.done ⟨aT (Ji hi fun h=>ct h.2),rfl⟩))
    ·have ct:(!decide ((s.T.length:Int)=s.n))=false:=ct;have ct:(s.T.length:Int)=s.n:=by simpa using ct
     have hr:fL s.n s.aN=true∧(s.T.length:Int)=s.n:=⟨cr,ct⟩
     refine aa 0 ?_;refine ca (S:=Nat) (fun k=>[(1,.ptr aF 0),(3,.int .i64 1),(42,.ah (.int .i64) s.entry),(43,.int .i64 s.entry.length),(44,.int .i64 k)]) (fun _=>(aF,cc s)::σ) (fun k=>k≤s.entry.length∧((s.entry.take k).any fun v=> !dY s.n v)=false) (fun k=>s.entry.length-k) 0 ⟨⟨bC _,rfl⟩,⟨rfl,rfl,rfl,rfl,rfl,trivial⟩,rfl⟩ ?_;rintro k g ⟨aP,nI⟩;have hk:k≤s.entry.length:=aP;have ha:((s.entry.take k).any fun v=> !dY s.n v)=false:=nI;clear aP nI;refine ao (fun ab=>?_) (fun au=>?_)
     ·have ab:k<s.entry.length:=by have ab:(k:Int)<s.entry.length:=ab;omega
      have hs:=sU ab fun v=> !dY s.n v;rw[ha,pI]at hs;have Ft:dY s.n s.entry[k]=false→(s.entry.any fun v=> !dY s.n v)=true:=fun h=>mW.2 ⟨s.entry[k],cq ab,by rw[h];rfl⟩;refine aJ.mk rfl (bO.mk s.entry[k] (by omega) (get_some ab) ?_);refine ao (p:=s.entry[k]<0) (fun d1=>?_) (fun d1=>?_)
      ·exact .fwd 1 (.drop 0 1 (.done ⟨aT (IV hi hr (Ft (by unfold dY;simp;omega))),rfl⟩))
      ·refine aa 0 ?_;refine ao (p:=s.n≤s.entry[k]) (fun d2=>?_) (fun d2=>?_)
       ·exact .fwd 1 (.drop 0 1 (.done ⟨aT (IV hi hr (Ft (by unfold dY;simp;omega))),rfl⟩))
       ·exact a8 (k+1) (by show s.entry.length-(k+1)<s.entry.length-k;omega) ⟨ab,hs.trans (by unfold dY;simp;omega)⟩ ⟨rfl,rfl,rfl,rfl,aX (by have:=hf.Cc;omega),trivial⟩ (.refl _)
     ·have au:k=s.entry.length:=by have au:¬(k:Int)<s.entry.length:=au;omega
      subst au;rw[ga]at ha;refine aa 0 ?_;refine aa 0 ?_;refine aa 0 ?_;refine eY [] (J0 s.what s.w s.init _ hf.i64 (ff hf.Fi (by decide))) (fun cv=>?_) (fun cv=>?_)
      ·refine aa 0 ?_;refine ca (S:=Nat) (fun k=>[(1,.ptr aF 0),(3,.int .i64 2),(66,.ah mC s.T),(67,.int .i64 s.T.length),(68,.int .i64 k)]) (fun _=>(aF,cc s)::σ) (fun k=>k≤s.T.length∧((s.T.take k).any fun t=> !decide (fT s.what s.w t.1 t.2.1 t.2.2.1=0))=false) (fun k=>s.T.length-k) 0 ⟨⟨bC _,rfl⟩,⟨rfl,rfl,rfl,rfl,rfl,trivial⟩,rfl⟩ ?_;rintro k g ⟨aP,lR⟩;have hk:k≤s.T.length:=aP;have ht:((s.T.take k).any fun t=> !decide (fT s.what s.w t.1 t.2.1 t.2.2.1=0))=false:=lR;clear aP lR;refine ao (fun ab=>?_) (fun au=>?_)
       ·have ab:k<s.T.length:=by have ab:(k:Int)<s.T.length:=ab;omega
        have hs:=sU ab fun t=> !decide (fT s.what s.w t.1 t.2.1 t.2.2.1=0);rw[ht,pI]at hs;have ho:=hf.ts _ (cq ab);have hm:=cq ab;obtain⟨t,fZ⟩:∃t:mZ,s.T[k]=t:=⟨_,rfl⟩
        rw[fZ]at hs ho hm;refine aJ.mk rfl (bO.mk t (by omega) ((get_some ab).trans (congrArg some fZ)) ?_);intro dJ;refine aj 0 ?_;refine aa 1 ?_;refine aa 1 ?_;refine aa 0 ?_;refine ax [] (Ni s.what s.w t.1 t.2.1 t.2.2.1 _ ho.1 ho.2.1 ho.2.2.1 ho.2.2.2.1 (ff ho.2.2.2.2 (by decide))) ?_;refine dX (fun d1=>?_) (fun d1=>?_)
        ·exact .fwd 1 (.drop 0 2 (.done ⟨aT (WG hi hr ha cv (mW.2 ⟨t,hm,d1⟩)),rfl⟩))
        ·exact a8 (k+1) (by show s.T.length-(k+1)<s.T.length-k;omega) ⟨ab,hs.trans d1⟩ ⟨rfl,rfl,rfl,rfl,aX (by have:=hf.Oq;omega),trivial⟩ (.drop 0 1 (.refl _))
       ·have au:k=s.T.length:=by have au:¬(k:Int)<s.T.length:=au;omega
        subst au;rw[ga]at ht;exact .drop 0 1 (.done ⟨aT (Oe hi hr ha cv ht),rfl⟩)
      ·exact .fwd 1 (.drop 0 1 (.done ⟨aT (Xu hi hr ha cv),rfl⟩))
   ·exact .fwd 1 (.drop 0 1 (.done ⟨aT (Ji hi fun h=>by rw[h.1]at cr;cases cr),rfl⟩))
  ·have hi:cO s.what s.w=false:=by
    cases h:cO s.what s.w with
    |false=>rfl
    |true=>rw[IB h]at c2;cases c2
   exact .fwd 1 (.drop 0 1 (.done ⟨aT (ahm hi),rfl⟩))
 ·have c1:¬dN s.what s.w=0:=c1;refine aa 0 ?_;refine aa 0 ?_
  have hi:cO s.what s.w=true:=by
   cases h:cO s.what s.w with
   |true=>rfl
   |false=>exact absurd (by unfold dN;rw[h];rfl) c1
  refine eY [] (EC s.n s.aN _ (ff hf.yE (by decide))) (fun cr=>?_) (fun cr=>?_)
  ·refine aa 0 ?_;refine aa 0 ?_;refine dX (fun ct=>?_) (fun ct=>?_)
   ·have ct:(!decide ((s.T.length:Int)=s.n))=true:=ct;have ct:¬(s.T.length:Int)=s.n:=by simpa using ct
    exact .fwd 1 (.drop 0 1 (.done ⟨aT (Ji hi fun h=>ct h.2),rfl⟩))
   ·have ct:(!decide ((s.T.length:Int)=s.n))=false:=ct;have ct:(s.T.length:Int)=s.n:=by simpa using ct
    have hr:fL s.n s.aN=true∧(s.T.length:Int)=s.n:=⟨cr,ct⟩
    refine aa 0 ?_;refine ca (S:=Nat) (fun k=>[(1,.ptr aF 0),(3,.int .i64 1),(42,.ah (.int .i64) s.entry),(43,.int .i64 s.entry.length),(44,.int .i64 k)]) (fun _=>(aF,cc s)::σ) (fun k=>k≤s.entry.length∧((s.entry.take k).any fun v=> !dY s.n v)=false) (fun k=>s.entry.length-k) 0 ⟨⟨bC _,rfl⟩,⟨rfl,rfl,rfl,rfl,rfl,trivial⟩,rfl⟩ ?_;rintro k g ⟨aP,nI⟩;have hk:k≤s.entry.length:=aP;have ha:((s.entry.take k).any fun v=> !dY s.n v)=false:=nI;clear aP nI;refine ao (fun ab=>?_) (fun au=>?_)
    ·have ab:k<s.entry.length:=by have ab:(k:Int)<s.entry.length:=ab;omega
     have hs:=sU ab fun v=> !dY s.n v;rw[ha,pI]at hs;have Ft:dY s.n s.entry[k]=false→(s.entry.any fun v=> !dY s.n v)=true:=fun h=>mW.2 ⟨s.entry[k],cq ab,by rw[h];rfl⟩;refine aJ.mk rfl (bO.mk s.entry[k] (by omega) (get_some ab) ?_);refine ao (p:=s.entry[k]<0) (fun d1=>?_) (fun d1=>?_)
     ·exact .fwd 1 (.drop 0 1 (.done ⟨aT (IV hi hr (Ft (by unfold dY;simp;omega))),rfl⟩))
     ·refine aa 0 ?_;refine ao (p:=s.n≤s.entry[k]) (fun d2=>?_) (fun d2=>?_)
      ·exact .fwd 1 (.drop 0 1 (.done ⟨aT (IV hi hr (Ft (by unfold dY;simp;omega))),rfl⟩))
      ·exact a8 (k+1) (by show s.entry.length-(k+1)<s.entry.length-k;omega) ⟨ab,hs.trans (by unfold dY;simp;omega)⟩ ⟨rfl,rfl,rfl,rfl,aX (by have:=hf.Cc;omega),trivial⟩ (.refl _)
    ·have au:k=s.entry.length:=by have au:¬(k:Int)<s.entry.length:=au;omega
     subst au;rw[ga]at ha;refine aa 0 ?_;refine aa 0 ?_;refine aa 0 ?_;refine eY [] (J0 s.what s.w s.init _ hf.i64 (ff hf.Fi (by decide))) (fun cv=>?_) (fun cv=>?_)
     ·refine aa 0 ?_;refine ca (S:=Nat) (fun k=>[(1,.ptr aF 0),(3,.int .i64 2),(66,.ah mC s.T),(67,.int .i64 s.T.length),(68,.int .i64 k)]) (fun _=>(aF,cc s)::σ) (fun k=>k≤s.T.length∧((s.T.take k).any fun t=> !decide (fT s.what s.w t.1 t.2.1 t.2.2.1=0))=false) (fun k=>s.T.length-k) 0 ⟨⟨bC _,rfl⟩,⟨rfl,rfl,rfl,rfl,rfl,trivial⟩,rfl⟩ ?_;rintro k g ⟨aP,lR⟩;have hk:k≤s.T.length:=aP;have ht:((s.T.take k).any fun t=> !decide (fT s.what s.w t.1 t.2.1 t.2.2.1=0))=false:=lR;clear aP lR;refine ao (fun ab=>?_) (fun au=>?_)
      ·have ab:k<s.T.length:=by have ab:(k:Int)<s.T.length:=ab;omega
       have hs:=sU ab fun t=> !decide (fT s.what s.w t.1 t.2.1 t.2.2.1=0);rw[ht,pI]at hs;have ho:=hf.ts _ (cq ab);have hm:=cq ab;obtain⟨t,fZ⟩:∃t:mZ,s.T[k]=t:=⟨_,rfl⟩
       rw[fZ]at hs ho hm;refine aJ.mk rfl (bO.mk t (by omega) ((get_some ab).trans (congrArg some fZ)) ?_);intro dJ;refine aj 0 ?_;refine aa 1 ?_;refine aa 1 ?_;refine aa 0 ?_;refine ax [] (Ni s.what s.w t.1 t.2.1 t.2.2.1 _ ho.1 ho.2.1 ho.2.2.1 ho.2.2.2.1 (ff ho.2.2.2.2 (by decide))) ?_;refine dX (fun d1=>?_) (fun d1=>?_)
       ·exact .fwd 1 (.drop 0 2 (.done ⟨aT (WG hi hr ha cv (mW.2 ⟨t,hm,d1⟩)),rfl⟩))
       ·exact a8 (k+1) (by show s.T.length-(k+1)<s.T.length-k;omega) ⟨ab,hs.trans d1⟩ ⟨rfl,rfl,rfl,rfl,aX (by have:=hf.Oq;omega),trivial⟩ (.drop 0 1 (.refl _))
      ·have au:k=s.T.length:=by have au:¬(k:Int)<s.T.length:=au;omega
       subst au;rw[ga]at ht;exact .drop 0 1 (.done ⟨aT (Oe hi hr ha cv ht),rfl⟩)
     ·exact .fwd 1 (.drop 0 1 (.done ⟨aT (Xu hi hr ha cv),rfl⟩))
  ·exact .fwd 1 (.drop 0 1 (.done ⟨aT (Ji hi fun h=>by rw[h.1]at cr;cases cr),rfl⟩))
theorem agn(l:List Int)(x:Int)(σ:Hp)(hl:l.length≤1000000):ACalls Tryz.prog 287 [.ah (.int .i64) l,.int .i64 x] σ (fun r σ'=>∃n:Int,r=.int .i64 n∧σ'=σ∧decide (0≤n)=l.any fun z=>decide (x=z)):=by
 refine ay Tryz.func287 ?_;refine ca (S:=Nat) (fun s=>[(0,.ah (.int .i64) l),(1,.int .i64 x),(7,.int .i64 l.length),(8,.int .i64 s)]) (fun _=>σ) (fun s=>s≤l.length∧((l.take s).any fun z=>decide (x=z))=false) (fun s=>l.length-s) 0 ⟨⟨bC _,rfl⟩,⟨rfl,rfl,rfl,rfl,trivial⟩,rfl⟩ ?_;rintro k t ⟨aP,gw⟩;have hk:k≤l.length:=aP;have hn:((l.take k).any fun z=>decide (x=z))=false:=gw;clear aP gw;refine ao (fun ab=>?_) (fun au=>?_)
 ·have ab:k<l.length:=by have ab:(k:Int)<l.length:=ab;omega
  have hs:=sU ab fun z=>decide (x=z);rw[hn,pI]at hs;refine aJ.mk rfl (bO.mk l[k] (by omega) (get_some ab) ?_);refine ao (fun c=>?_) (fun c=>?_)
  ·have c:x=l[k]:=c;have hp:(l.any fun z=>decide (x=z))=true:=mW.2 ⟨l[k],cq ab,bu c⟩;exact .done ⟨_,rfl,rfl,by rw[hp];exact bu (by omega)⟩
  ·have c:¬x=l[k]:=c;exact a8 (k+1) (by show l.length-(k+1)<l.length-k;omega) ⟨ab,hs.trans (cf c)⟩ ⟨rfl,rfl,rfl,aX (by omega),trivial⟩ (.refl _)
 ·have au:k=l.length:=by have au:¬(k:Int)<l.length:=au;omega
  subst au;rw[ga]at hn;exact .done ⟨_,rfl,rfl,by rw[hn];rfl⟩
theorem aar(l:List Int)(x:Int)(σ:Hp)(hl:l.length≤1000000):ACalls Tryz.prog 255 [.ah (.int .i64) l,.int .i64 x] σ (aC (.bool (l.any fun z=>decide (x=z))) σ):=by
 refine ay Tryz.func255 ?_;refine .mk [] _ (agn l x _ hl) ?_;rintro _ _ ⟨n,rfl,rfl,hn⟩;rw[← hn];refine ao (fun c=>?_) (fun c=>?_)
 ·have c:0≤n:=c;rw[bu c];exact .done ⟨rfl,rfl⟩
 ·have c:¬0≤n:=c;rw[cf c];exact .done ⟨rfl,rfl⟩
theorem agt(l:List Int)(σ:Hp)(hl:l.length≤1000000):ACalls Tryz.prog 256 [.ah (.int .u64) l] σ (aC (.ah (.int .u64) l) σ):=by
 refine (V3 l σ hl).fin ?_;rintro v σ' ⟨acc,cj,rfl⟩;exact rX (s:=.int .u64) [] cj rfl (lA l) (by decide) (.done ⟨rfl,rfl⟩)
def gJ(s:Sy)(v:Int):List Int:=if (s.entry.any fun z=>decide (v=z))=true then s.init else gC s.what s.w
theorem ahx(s:Sy)(v:Int)(σ:Hp)(hf:Fit s):ACalls Tryz.prog 212 [.agg (cc s),.int .i64 v] σ (aC (.ah (.int .u64) (gJ s v)) σ):=by
 refine ay Tryz.func212 ?_;intro aF;refine aa 0 ?_;refine eY [] (aar s.entry v _ (ff hf.Cc (by decide))) (fun c=>?_) (fun c=>?_)
 ·refine aa 0 ?_;refine ax [] (agt s.init _ (ff hf.Fi (by decide))) ?_;exact .drop 0 1 (.done ⟨by unfold gJ;rw[c];rfl,rfl⟩)
 ·refine aa 0 ?_;refine aa 0 ?_;refine ax [] (MI _ _ _) ?_;exact .drop 0 1 (.done ⟨by unfold gJ;rw[c];rfl,rfl⟩)
def zP(s:Sy)(a:List (List Int)):Bool:=decide ((a.length:Int)=s.n)&&a.all (dg s.what s.w)
def z8(a:List (List Int)):Prop:=a.length≤100000∧∀x∈a,bh x∧x.length≤10000
structure Good(s:Sy):Prop where
 sr:cO s.what s.w=true
 n1:1≤s.n
 n2:s.n≤256
 el:s.aN.length≤1024
 uT:∀e∈s.aN,(0≤e.1∧e.1<s.n)∧0≤e.2.1∧e.2.1<s.n
 tl:(s.T.length:Int)=s.n
 ent:∀v∈s.entry,0≤v∧v<s.n
 ini:dg s.what s.w s.init=true
 FH:∀t∈s.T,fT s.what s.w t.1 t.2.1 t.2.2.1=0
theorem lB{n a:Int}:dY n a=true↔0≤a∧a<n:=by unfold dY;simp
theorem Nb{s:Sy}(h:dT s=0):Good s:=by
 unfold dT at h;split at h
 ·rename_i h1
  split at h
  ·rename_i h2
   split at h
   ·cases h
   ·rename_i h3
    split at h
    ·rename_i h4
     split at h
     ·cases h
     ·rename_i h5
      have h3:(s.entry.any fun v=> !dY s.n v)=false:=by simpa using h3
      have h5:(s.T.any fun t=> !decide (fT s.what s.w t.1 t.2.1 t.2.2.1=0))=false:=by simpa using h5
      have hr:=h2.1;unfold fL at hr;simp only[bS,decide_eq_true_eq]at hr;refine⟨h1,hr.1.1.1,hr.1.1.2,hr.1.2,fun e he=>?_,h2.2,fun v hv=>?_,h4,fun t ht=>?_⟩
      ·have:=fG.1 hr.2 e he;rw[bS,lB,lB]at this;exact this
      ·have:=CZ.1 h3 v hv;exact lB.1 (by simpa using this)
      ·have:=CZ.1 h5 t ht;simpa using this
    ·cases h
  ·cases h
 ·cases h
theorem L6{s:Sy}(h:Good s):dT s=0:=by
 refine (Oe h.sr ⟨?_,h.tl⟩ (CZ.2 fun v hv=>?_) h.ini (CZ.2 fun t ht=>?_)).symm
 ·unfold fL;simp only[bS,decide_eq_true_eq];refine⟨⟨⟨h.n1,h.n2⟩,h.el⟩,fG.2 fun e he=>?_⟩;rw[bS,lB,lB];exact h.uT e he
 ·rw[lB.2 (h.ent v hv)];decide
 ·rw[h.FH t ht];decide
def iS(s:Sy)(x:List Int)(v:Nat):List Int:=gz s.what (s.T.getD v ([],[],[],())).1 (s.T.getD v ([],[],[],())).2.1 (s.T.getD v ([],[],[],())).2.2.1 x
def wD(s:Sy)(a:List (List Int))(v:Nat)(x:List Int)(e:bE):List Int:=if e.2.1=v then dz s.what x (iS s (a.getD e.1.toNat []) e.1.toNat) else x
def jT(s:Sy)(a:List (List Int))(k v:Nat):List Int:=(s.aN.take k).foldl (wD s a v) (gJ s v)
def EG(s:Sy)(a:List (List Int))(k:Nat):List (List Int):=(List.range s.n.toNat).map (jT s a k)
def gW(s:Sy)(a:List (List Int)):List (List Int):=EG s a s.aN.length
theorem QS(s:Sy)(a:List (List Int))(k:Nat):(EG s a k).length=s.n.toNat:=by unfold EG;simp
theorem zk(s:Sy)(a:List (List Int)){k:Nat}(h:k<s.aN.length)(v:Nat):jT s a (k+1) v=wD s a v (jT s a k v) s.aN[k]:=by
 unfold jT;rw[ft h,sK];rfl
theorem DP{s:Sy}{a:List (List Int)}:zP s a=true↔(a.length:Int)=s.n∧∀x∈a,dg s.what s.w x=true:=by
 unfold zP;rw[bS,decide_eq_true_eq,fG]
theorem Hs{what w:Int}{x:List Int}(h:dg what w x=true):x.length≤1024:=by
 have h1:=xY h;have:=Ba what w;omega
theorem Jr{s:Sy}(hg:Good s){v:Nat}(h:(v:Int)<s.n):∃h2:v<s.T.length,s.T.getD v ([],[],[],())=s.T[v]:=by
 have h2:v<s.T.length:=by have:=hg.tl;omega
 exact⟨h2,by rw[aZ,bB h2];rfl⟩
theorem Ij{s:Sy}(hf:Fit s)(hg:Good s){x:List Int}(mw:bh x)(hv:dg s.what s.w x=true){v:Nat}(h:(v:Int)<s.n):dg s.what s.w (iS s x v)=true∧bh (iS s x v):=by
 obtain⟨h2,e⟩:=Jr hg h;unfold iS;rw[e];have ho:=hf.ts _ (cq h2);exact⟨HK ho.1 ho.2.1 mw (hg.FH _ (cq h2)) hv,Bi mw⟩
theorem LU{s:Sy}(hf:Fit s)(hg:Good s)(v:Int):dg s.what s.w (gJ s v)=true∧bh (gJ s v):=by
 unfold gJ;split
 ·exact⟨hg.ini,hf.i64⟩
 ·exact⟨IB hg.sr,IZ _ _⟩
theorem Hu{s:Sy}(hf:Fit s)(hg:Good s){a:List (List Int)}(ha:z8 a)(hv:zP s a=true)(v:Nat):∀k,k≤s.aN.length→dg s.what s.w (jT s a k v)=true∧bh (jT s a k v)
 | 0,_=>by
  show dg s.what s.w (gJ s v)=true∧bh (gJ s v);exact LU hf hg v
 |k+1,h=>by
  have ih:=Hu hf hg ha hv v k (by omega);rw[zk s a (by omega)];unfold wD;split
  ·have he:=hg.uT _ (cq (show k<s.aN.length by omega));have FX:=DP.1 hv;generalize s.aN[k]=e at he;have hl:e.1.toNat<a.length:=by omega
   have hm:a.getD e.1.toNat []∈a:=by rw[aZ,bB hl];exact cq hl
   have ho:=Ij hf hg (ha.2 _ hm).1 (FX.2 _ hm) (v:=e.1.toNat) (by omega);exact⟨Mw ih.2 ho.2 ih.1 ho.1,ya ih.2 ho.2⟩
  ·exact ih
theorem RD{s:Sy}(hf:Fit s)(hg:Good s){a:List (List Int)}(ha:z8 a)(hv:zP s a=true):zP s (gW s a)=true∧z8 (gW s a):=by
 have hx:∀x∈gW s a,dg s.what s.w x=true∧bh x:=fun x hx=>by
  obtain⟨v,_,rfl⟩:=cX.1 hx;exact Hu hf hg ha hv v _ (aQ _)
 have hn:=hg.n1;have mq:=hg.n2;have hl:(gW s a).length=s.n.toNat:=QS _ _ _;exact⟨DP.2 ⟨by omega,fun x h=>(hx x h).1⟩,by omega,fun x h=>⟨(hx x h).2,by have:=Hs (hx x h).1;omega⟩⟩
def uC(x:List Int):AV:=.ah (.int .u64) x
def wZ(l:List (List Int)):List AV:=l.map uC
theorem Md:∀l:List (List Int),wZ l=l.flatMap (Sh.cells (.slice (.int .u64)))
 | []=>rfl
 |x::l=>congrArg (uC x :: ·) (Md l)
theorem ug{i:TI}(hs:i.size=1){cs:List AV}{o:Nat}{v:AV}(hv:v.cells?=some [v])(ho:o<cs.length):kO i cs o v=some (cs.set o v):=by
 unfold kO;rw[hv];simp only;have e1:Nat.beq ([v]:List AV).length i.size=true:=by rw[hs];rfl
 have e2:Nat.ble (o+i.size) cs.length=true:=Lh (by omega);rw[e1,e2];rfl
theorem jz{i:TI}(hw:i.wide=false){cs:List AV}{o:Nat}{v:AV}(h:cs[o]?=some v):ei i cs o=some v:=by unfold ei;rw[hw];exact h
def nQ(s:Sy):List (List Int):=List.replicate s.n.toNat (gC s.what s.w)
theorem QO(s:Sy):(nQ s).length=s.n.toNat:=fQ
def bN(b:List Bool):List AV:=b.map .bool
theorem afU{b:List Bool}{k:Nat}(h:k<b.length){z:Int}(hz:z=k):(bN b)[0+z.toNat*1]?=some (.bool (b.getD k false)):=by
 subst hz;rw[bG,dS,dI];unfold bN;rw[fk,bB h,aZ,bB h];rfl
theorem afS(b:List Bool)(k:Nat)(x:Bool){z:Int}(hz:z=k):(bN b).set (0+z.toNat*1) (.bool x)=bN (b.set k x):=by
 subst hz;rw[bG,dS,dI];unfold bN;rw[oI]
theorem Ea(n:Nat):cI [.bool false] n=bN (List.replicate n false):=by
 induction n with
 |zero=>rfl
 |succ n ih=>show AV.bool false::cI [.bool false] n=_;rw[ih];rfl
def yp(n:Int)(b:List Bool)(a:Int):List Bool:=if 0≤a∧a<n then b.set a.toNat true else b
def sH(n:Int)(b:List Bool)(e:bE):List Bool:=if (0≤e.1∧e.1<n)∧(0≤e.2.1∧e.2.1<n)∧b.getD e.1.toNat false=true then b.set e.2.1.toNat true else b
def pY(n:Int)(l:List bE)(b:List Bool):List Bool:=l.foldl (sH n) b
def vY(n:Int)(l:List bE):Nat→List Bool→List Bool
 | 0,b=>b
 |k+1,b=>vY n l k (pY n l b)
def N1(b:List Bool)(k:Nat):List Int:=((List.range k).filter fun i=>b.getD i false).map fun i:Nat=>(i:Int)
def Ey(n:Int)(l:List bE)(fr:List Int):List Bool:=vY n l n.toNat (fr.foldl (yp n) (List.replicate n.toNat false))
def Nr(n:Int)(l:List bE)(fr:List Int):List Int:=N1 (Ey n l fr) n.toNat
theorem QZ(n:Int)(b:List Bool)(a:Int):(yp n b a).length=b.length:=by unfold yp;split;exact cz;rfl
theorem R0(n:Int)(b:List Bool)(e:bE):(sH n b e).length=b.length:=by unfold sH;split;exact cz;rfl
theorem afT(b:List Bool):(bN b).length=b.length:=bX _
theorem rounds_succ(n:Int)(l:List bE)(k:Nat)(b:List Bool):vY n l (k+1) b=vY n l k (pY n l b):=rfl
theorem zr{i:TI}(hs:i.size=1){b:List Bool}(x:Bool){a:Int}(h1:0≤a)(h2:a<b.length):kO i (bN b) (0+a.toNat*1) (.bool x)=some (bN (b.set a.toNat x)):=by
 rw[ug hs rfl (by rw[afT];omega),afS b a.toNat x (by omega)]
theorem ua{i:TI}(hw:i.wide=false){b:List Bool}{a:Int}(h1:0≤a)(h2:a<b.length):ei i (bN b) (0+a.toNat*1)=some (.bool (b.getD a.toNat false)):=jz hw (afU (by omega) (by omega))
def tC(l:List Int)(x:Int):Bool:=l.any fun z=>decide (x=z)
theorem Ei{l:List Int}{x:Int}:tC l x=true↔x∈l:=by unfold tC;simp
theorem M8(l:List Int):(ai l).length=l.length:=bX _
def Cp(n:Int)(l:List bE)(a b:Int):Bool:=tC (Nr n l [a]) b
def Ns(n:Int)(l:List bE)(a:Int)(k:Nat):List Int:=((List.range k).filter fun b:Nat=>Cp n l a b&&Cp n l b a).map fun i:Nat=>(i:Int)
def sb(n:Int)(l:List bE)(a:Int):List Int:=Ns n l a n.toNat
def Oc(l:List bE)(part told:List Int):Bool:=l.all fun e=> !(tC part e.2.1&&!tC part e.1&&!tC told e.1)
theorem LI{b:List Bool}{i j:Nat}{x:Bool}:(b.set i x).getD j false=if i=j∧j<b.length then x else b.getD j false:=by
 simp only[aZ,eA]
 by_cases h:i=j
 ·subst h
  by_cases h2:i<b.length
  ·simp[h2]
  ·simp[h2]
 ·simp[h]
theorem abf{n:Nat}{l:List bE}{a z:Int}:z∈sb n l a↔∃i:Nat,i<n∧(Cp n l a i&&Cp n l i a)=true∧z=i:=by
 unfold sb Ns;rw[cX,bG];constructor
 ·rintro⟨i,hi,rfl⟩;rw[kL,fF]at hi;exact⟨i,hi.1,hi.2,rfl⟩
 ·rintro⟨i,h1,h2,rfl⟩;exact⟨i,by rw[kL,fF];exact⟨h1,h2⟩,rfl⟩
def cE(ps:List (List Int)):List AV:=ps.map (.ah (.int .i64))
theorem xT:∀ps:List (List Int),cE ps=ps.flatMap (Sh.cells (.slice (.int .i64)))
 | []=>rfl
 |p::ps=>congrArg (AV.ah (.int .i64) p :: ·) (xT ps)
theorem VC{nx:List Int}(h:0<nx.length):nx[((0:Int)).toNat]?=some (nx.headD 0):=by
 cases nx with
 |nil=>simp at h
 |cons z nx=>rfl
end Go.Proofs.YtnikdflhefijbaaGreat
namespace Go.Proofs.YtnikdflhefijbaaGreat
open Go.Shelf
def Zj:Go.Shelf.Ren:=⟨fun | 189=>312 | 125=>233 | 257=>338 | 128=>274 | 129=>275 | 294=>346 | 295=>347 | 296=>348 | 297=>349 | 298=>350 | 299=>351 | 216=>352 | 300=>353 | 301=>354 | 328=>360 | 329=>296 | 330=>297 | 331=>361 | 332=>362 | 215=>234 | 343=>365 | n=>n,fun | 28=>23 | 3=>3 | 46=>253 | 0=>0 | 51=>284 | 53=>56 | 4=>4 | 183=>308 | 182=>307 | 131=>312 | 5=>5 | 9=>9 | 218=>331 | 222=>335 | 228=>353 | 229=>50 | n=>n,fun | n=>n⟩
theorem M4:Go.Proofs.Lays.n189 Tryz.prog Zj:= {
 mixed:=by kernel_rfl
 f125:=Tryz.func233.trans (congrArg some (by kernel_rfl))
 f128:=Tryz.func274.trans (congrArg some (by kernel_rfl))
 f129:=Tryz.func275.trans (congrArg some (by kernel_rfl))
 f189:=Tryz.func312.trans (congrArg some (by kernel_rfl))
 f215:=Tryz.func234.trans (congrArg some (by kernel_rfl))
 f216:=Tryz.func352.trans (congrArg some (by kernel_rfl))
 f257:=Tryz.func338.trans (congrArg some (by kernel_rfl))
 f294:=Tryz.func346.trans (congrArg some (by kernel_rfl))
 f295:=Tryz.func347.trans (congrArg some (by kernel_rfl))
 f296:=Tryz.func348.trans (congrArg some (by kernel_rfl))
 f297:=Tryz.func349.trans (congrArg some (by kernel_rfl))
 f298:=Tryz.func350.trans (congrArg some (by kernel_rfl))
 f299:=Tryz.func351.trans (congrArg some (by kernel_rfl))
 f300:=Tryz.func353.trans (congrArg some (by kernel_rfl))
 f301:=Tryz.func354.trans (congrArg some (by kernel_rfl))
 f328:=Tryz.func360.trans (congrArg some (by kernel_rfl))
 f329:=Tryz.func296.trans (congrArg some (by kernel_rfl))
 f330:=Tryz.func297.trans (congrArg some (by kernel_rfl))
 f331:=Tryz.func361.trans (congrArg some (by kernel_rfl))
 f332:=Tryz.func362.trans (congrArg some (by kernel_rfl))
 f343:=Tryz.func365.trans (congrArg some (by kernel_rfl))
 t0:=Tryz.underlying0
 a0:=Tryz.isAgg0
 z0:=Tryz.sizeOf0
 v0:=Tryz.zeroValue0
 t3:=Tryz.underlying3
 a3:=Tryz.isAgg3
 z3:=Tryz.sizeOf3
 v3:=Tryz.zeroValue3
 t4:=Tryz.underlying4
 a4:=Tryz.isAgg4
 z4:=Tryz.sizeOf4
 v4:=Tryz.zeroValue4
 t5:=Tryz.underlying5
 a5:=Tryz.isAgg5
 z5:=Tryz.sizeOf5
 v5:=Tryz.zeroValue5
 t9:=Tryz.underlying9
 a9:=Tryz.isAgg9
 z9:=Tryz.sizeOf9
 v9:=Tryz.zeroValue9
 t28:=Tryz.underlying23
 a28:=Tryz.isAgg23
 z28:=Tryz.sizeOf23
 v28:=Tryz.zeroValue23
 t46:=Tryz.underlying253
 a46:=Tryz.isAgg253
 z46:=Tryz.sizeOf253
 v46:=Tryz.zeroValue253
 t51:=Tryz.underlying284
 a51:=Tryz.isAgg284
 z51:=Tryz.sizeOf284
 v51:=Tryz.zeroValue284
 t53:=Tryz.underlying56
 a53:=Tryz.isAgg56
 z53:=Tryz.sizeOf56
 v53:=Tryz.zeroValue56
 t131:=Tryz.underlying312
 a131:=Tryz.isAgg312
 z131:=Tryz.sizeOf312
 v131:=Tryz.zeroValue312
 t182:=Tryz.underlying307
 a182:=Tryz.isAgg307
 z182:=Tryz.sizeOf307
 v182:=Tryz.zeroValue307
 t183:=Tryz.underlying308
 a183:=Tryz.isAgg308
 z183:=Tryz.sizeOf308
 v183:=Tryz.zeroValue308
 t218:=Tryz.underlying331
 a218:=Tryz.isAgg331
 z218:=Tryz.sizeOf331
 v218:=Tryz.zeroValue331
 t222:=Tryz.underlying335
 a222:=Tryz.isAgg335
 z222:=Tryz.sizeOf335
 v222:=Tryz.zeroValue335
 t228:=Tryz.underlying353
 a228:=Tryz.isAgg353
 z228:=Tryz.sizeOf353
 v228:=Tryz.zeroValue353
 t229:=Tryz.underlying50
 a229:=Tryz.isAgg50
 z229:=Tryz.sizeOf50
 v229:=Tryz.zeroValue50 }
def Zi:Go.Shelf.Ren:=⟨fun | 20=>313 | n=>n,fun | 22=>23 | 3=>3 | 4=>4 | 0=>0 | n=>n,fun | n=>n⟩
theorem M3:Go.Proofs.Lays2.n20 Tryz.prog Zi:= {
 mixed:=by kernel_rfl
 f20:=Tryz.func313.trans (congrArg some (by kernel_rfl))
 t0:=Tryz.underlying0
 a0:=Tryz.isAgg0
 z0:=Tryz.sizeOf0
 v0:=Tryz.zeroValue0
 t3:=Tryz.underlying3
 a3:=Tryz.isAgg3
 z3:=Tryz.sizeOf3
 v3:=Tryz.zeroValue3
 t4:=Tryz.underlying4
 a4:=Tryz.isAgg4
 z4:=Tryz.sizeOf4
 v4:=Tryz.zeroValue4
 t22:=Tryz.underlying23
 a22:=Tryz.isAgg23
 z22:=Tryz.sizeOf23
 v22:=Tryz.zeroValue23
 i3:=by kernel_rfl }
set_option maxRecDepth 100000
section
variable {F:Nat→Prop} {w:World} {σ:Hp}
theorem ady(h:bj F w σ)(os:Array Obj):bH F w F (Go.Sort.grow w os)∧bj F (Go.Sort.grow w os) σ:=by
 have eO:(Go.Sort.grow w os).heap.size=w.heap.size+os.size:=by simp[Go.Sort.grow]
 have au:∀b,b<w.heap.size→(Go.Sort.grow w os).heap[b]?=w.heap[b]?:=fun b hb=>by
  show (w.heap++os)[b]?=_;rw[Lg hb]
 have aq:bH F w F (Go.Sort.grow w os):=⟨rfl,rfl,rfl,by omega,fun _ h=>h,fun b hb=>au b (h.low b hb),fun b c T fz hc=>⟨c,fz,by
  rw[au b (AQ.1 hc).1];exact hc,rfl⟩,aQ _⟩
 exact⟨aq,h.nodup,fun p hp=>(h.holds p hp).mono aq (au _ (h.holds p hp).lt) (h.holds p hp).1,fun b hb=>by have:=h.low b hb;omega⟩
theorem ju(zs:List Int):(ai zs).length=zs.length:=by unfold ai;simp
theorem afB(zs:List Int){i:Nat}{x:AV}(h:(ai zs)[i]?=some x):∃h2:i<zs.length,x=.int .i64 zs[i]:=by
 unfold ai at h;rw[fk]at h;cases hz:zs[i]? with
 |none=>rw[hz]at h;cases h
 |some z=>
  rw[hz]at h;obtain⟨h2,h3⟩:=bZ.1 hz;exact⟨h2,by cases h;rw[h3]⟩
theorem afF(zs:List Int){i:Nat}(h:i<zs.length):(ai zs)[i]?=some (.int .i64 zs[i]):=by unfold ai;rw[fk,bB h];rfl
theorem Holds.Iq{F:Nat→Prop}{w:World}{b:Nat}{cs:List AV}(h:Holds F w b cs)(hn:∀x∈cs,x.leaf=true):¬F b∧EE F w b cs:=by
 obtain⟨hF,h | ⟨x,o,e,_,hx⟩ | ⟨L,t,e,_⟩⟩:=h
 ·exact⟨hF,h⟩
 ·subst e;have:=hn _ (b9 ..);rw[Hy hx]at this;cases this
 ·subst e;cases hn _ (b9 ..)
theorem MA(zs:List Int):∀x∈ai zs,x.leaf=true:=fun x hx=>by
 obtain⟨z,_,rfl⟩:=cX.1 hx;rfl
theorem Eb{b n:Nat}{zs zs':List Int}(h:bj F w ((b,ai zs)::σ))(hl:zs'.length=zs.length)(os:Array Obj):
  bH F w F (Go.Sort.grow (Go.Sort.putRow (Value.int .i64) (Go.Sort.ahead w n) b 0 zs'.toArray) os)∧bj F (Go.Sort.grow (Go.Sort.putRow (Value.int .i64) (Go.Sort.ahead w n) b 0 zs'.toArray) os) ((b,ai zs')::σ):=by
 obtain⟨hF,c,T,hc,hle,lp⟩:=(h.holds _ (b9 ..)).Iq (MA zs);have hle:(ai zs).length≤c.size:=hle;rw[ju]at hle;have hc:w.heap[b]?=some (.cells c T (0,0)):=hc
 have uQ:∀k,k<zs'.length→(Go.Sort.putCells (Value.int .i64) 0 zs'.toArray c).getD k undef=Value.int .i64 (zs'.getD k 0):=fun k hk=>by
  have Aw:k<c.size:=by omega
  unfold Go.Sort.putCells;rw[iy,Array.getElem?_mapIdx,qF Aw];simp only[KO,GH];rw[if_pos ⟨Nat.zero_le _,by simpa using hk⟩,Nat.sub_zero,List.getD_eq_getElem?_getD,List.getElem?_eq_getElem hk];simp[hk]
 have key:=Bf (F:=F) (w:=w) (w':=Go.Sort.putRow (Value.int .i64) (Go.Sort.ahead w n) b 0 zs'.toArray) h (j:=0) (b:=b) (cs:=ai zs) (cs':=ai zs') rfl hc (c':=Go.Sort.putCells (Value.int .i64) 0 zs'.toArray c) (by simp[Go.Sort.putCells]) (by rw[ju];simp[Go.Sort.putCells];omega)
  (fun i x hx=>by
   obtain⟨h2,rfl⟩:=afB zs' hx;refine⟨rfl,?_⟩;rw[uQ i h2,aZ,bB h2]
   exact .int _ _)
  (fun k hk=>by
   show (w.heap.modify b _)[k]?=_
   rw[K3,ag (fun e=>hk e.symm)])
  (by
   show (w.heap.modify b _)[b]?=_
   rw[K3,af rfl,hc];rfl)
  rfl rfl rfl (by simp[Go.Sort.ahead])
 obtain⟨k1,k2⟩:=key;obtain⟨g1,g2⟩:=ady k2 os;exact⟨k1.trans g1,g2⟩
theorem HY{b:Nat}{zs:List Int}(h:bj F w ((b,ai zs)::σ)):Go.Sort.Holds (Value.int .i64) w b 0 zs.toArray∧b<w.heap.size:=by
 obtain⟨hF,c,T,hc,hle,lp⟩:=(h.holds _ (b9 ..)).Iq (MA zs);have hc:w.heap[b]?=some (.cells c T (0,0)):=hc;have hle:(ai zs).length≤c.size:=hle;rw[ju]at hle;refine⟨fun j hj=>?_,(AQ.1 hc).1⟩;have hj:j<zs.length:=by simpa using hj
 have hr:=(lp j _ (afF zs hj)).2.gp;rw[dI];constructor
 ·rw[IA hc,qF (by omega)];rw[iy,qF (by omega)]at hr;simp only[GH]at hr;rw[hr];simp[hj]
 ·unfold World.frozen?;simp[hc]
end
theorem Zr(l:List Int):(Go.Lib.compact l).length≤l.length:=by
 unfold Go.Lib.compact Go.Lib.compactUpTo;rw[bX];exact Nat.le_trans (List.length_filter_le _ _) (by simp)
def fU(zs:List Int):List Int:=zs.mergeSort fun x y=>decide (x≤y)
theorem A2(zs:List Int):(fU zs).length=zs.length:=Qi ..
theorem M7:∀{l m:List Int},l.Pairwise (· < ·)→m.Pairwise (· < ·)→(∀x,x∈l↔x∈m)→l=m
 | [],[],_,_,_=>rfl
 | [],y::m,_,_,h=>absurd ((h y).2 (b9 ..)) xt
 |x::l,[],_,_,h=>absurd ((h x).1 (b9 ..)) xt
 |x::l,y::m,hl,hm,h=>by
  have h1:=tP.1 hl;have h2:=tP.1 hm
  have aU:x=y:=by
   have a:=(h x).1 (b9 ..);have b:=(h y).2 (b9 ..)
   rcases dm.1 a with a | a
   ·exact a
   ·rcases dm.1 b with b | b
    ·exact b.symm
    ·have:=h1.1 y b;have:=h2.1 x a;omega
  subst aU;refine congrArg (x :: ·) (M7 h1.2 h2.2 fun z=>⟨fun hz=>?_,fun hz=>?_⟩)
  ·rcases dm.1 ((h z).1 (cQ _ hz)) with e | e
   ·subst e;have:=h1.1 z hz;omega
   ·exact e
  ·rcases dm.1 ((h z).2 (cQ _ hz)) with e | e
   ·subst e;have:=h2.1 z hz;omega
   ·exact e
theorem QT(zs:List Int):(fU zs).Pairwise (·≤·):=by
 have:=List.pairwise_mergeSort (le:=fun x y:Int=>decide (x≤y)) (fun a b c h1 h2=>by simp at *;omega) (fun a b=>by simp;omega) zs;exact this.imp fun h=>by simpa using h
theorem SA(zs:List Int)(x:Int):x∈fU zs↔x∈zs:=List.mem_mergeSort
theorem RF{l:List Int}(h:l.Pairwise (·≤·)){i j:Nat}(fj:i≤j)(hj:j<l.length):l[i]'(by omega)≤l[j]:=by
 by_cases e:i=j
 ·subst e;exact kl _
 ·exact GP.1 h i j (by omega) hj (by omega)
def zY(zs:List Int):List Int:=Go.Lib.compact (fU zs)
theorem Zs{l:List Int}(h:l.Pairwise (·≤·)):(Go.Lib.compact l).Pairwise (· < ·):=by
 unfold Go.Lib.compact Go.Lib.compactUpTo;rw[vF]
 have hr:((List.range l.length).filter (Go.Lib.keeps l.toArray)).Pairwise fun i j=>i<j∧j<l.length∧Go.Lib.keeps l.toArray j=true:=by
  have h1:(List.range l.length).Pairwise fun i j=>i<j∧j<l.length:=by
   rw[GP];intro i j hi hj fj;simp only[KX];exact⟨fj,by simpa using hj⟩
  rw[List.pairwise_filter];exact h1.imp fun fj _ hk=>⟨fj.1,fj.2,hk⟩
 refine hr.imp fun {i j} ⟨h1,h2,h3⟩=>?_
 have hk:l.toArray[j]!≠l.toArray[j-1]!:=by
  unfold Go.Lib.keeps at h3;simp only[decide_eq_true_eq]at h3
  rcases h3 with h3 | h3
  ·omega
  ·exact h3
 have e1:l.toArray[j]! = l[j]:=by simp[h2]
 have e2:l.toArray[j-1]! = l[j-1]'(by omega):=by simp[show j-1<l.length by omega]
 have e3:l.toArray[i]! = l[i]'(by omega):=by simp[show i<l.length by omega]
 rw[e1,e2]at hk;rw[e1,e3];have q1:=RF h (i:=i) (j:=j-1) (by omega) (by omega);have q2:=RF h (i:=j-1) (j:=j) (by omega) h2;omega
theorem Rm{l:List Int}(x:Int):x∈Go.Lib.compact l↔x∈l:=by
 unfold Go.Lib.compact Go.Lib.compactUpTo;constructor
 ·intro hx;obtain⟨j,hj,rfl⟩:=cX.1 hx;have hj:=fF.1 (kL.1 hj).1;have e1:l.toArray[j]! = l[j]:=by simp[hj]
  rw[e1];exact cq hj
 ·intro hx
  have hex:∃j,∃h:j<l.length,l[j]=x:=by
   obtain⟨j,hj,e⟩:=xz.1 hx;exact⟨j,hj,e⟩
  obtain⟨j,⟨hj,e⟩,jg⟩:∃j,(∃h:j<l.length,l[j]=x)∧∀k,k<j→¬∃h:k<l.length,l[k]=x:=by
   obtain⟨j,hj⟩:=hex
   induction j using Nat.strongRecOn with
   |ind j ih=>
    by_cases hk:∃k,k<j∧∃h:k<l.length,l[k]=x
    ·obtain⟨k,h1,h2⟩:=hk;exact ih k h1 h2
    ·exact⟨j,hj,fun k h1 h2=>hk ⟨k,h1,h2⟩⟩
  refine List.mem_map.2 ⟨j,List.mem_filter.2 ⟨List.mem_range.2 hj,?_⟩,by simp[hj,e]⟩;unfold Go.Lib.keeps;rw[decide_eq_true_eq]
  by_cases h0:j=0
  ·exact .inl h0
  ·refine .inr fun h=>jg (j-1) (by omega) ⟨by omega,?_⟩;have e1:l.toArray[j]! = l[j]:=by simp[hj]
   have e2:l.toArray[j-1]! = l[j-1]'(by omega):=by simp[show j-1<l.length by omega]
   rw[e1,e2]at h;rw[← h];exact e
theorem adU{zs:List Int}{n:Nat}(h:∀z∈zs,0≤z∧z<n):zY zs=((List.range n).map fun i:Nat=>(i:Int)).filter fun b=>decide (b∈zs):=by
 refine M7 (Zs (QT zs)) ?_ fun x=>?_
 ·refine List.Pairwise.filter _ ?_;rw[vF,GP];intro i j hi hj fj;simp only[KX];omega
 ·unfold zY;rw[Rm,SA,kL,decide_eq_true_eq];refine⟨fun hx=>⟨?_,hx⟩,fun hx=>hx.2⟩;have:=h x hx;exact cX.2 ⟨x.toNat,fF.2 (by omega),by omega⟩
theorem Ri:Enters Tryz.prog 312:=enters_of Tryz.func312 (by kernel_rfl)
theorem Rj:Enters Tryz.prog 313:=enters_of Tryz.func313 (by kernel_rfl)
theorem Io{vs:Array Value}(h:1=vs.size):∃v,vs = #[v]:=by
 refine⟨vs.getD 0 undef,Array.ext ?_ fun i h2 h3=>?_⟩
 ·simp[← h]
 ·have:i=0:=by omega
  subst this;simp[Array.getD,h2]
theorem MM{F:Nat→Prop}{w:World}:aB F w (.tup []) (.tuple #[]):=.tup [] #[] rfl fun i x h=>by simp at h
theorem ahy(σ:Hp):ACalls Tryz.prog 312 [.an] σ (aC (.tup []) σ):=by
 refine⟨Ri,fun F w vs bP aG =>?_⟩;obtain⟨v,rfl⟩:=Io bP.1;have hv:aB F w .an v:=bP.2 0 _ rfl;cases hv;have h:Calls Tryz.prog 312 #[.slice none 0 0] w fun e w'=>e=.returned (.tuple #[])∧w'=w:=Any.slices_Sort_int_none M4 none 0 w;refine h.mono ?_;rintro e w' ⟨rfl,rfl⟩;exact⟨.tup [],.tuple #[],σ,F,rfl,.refl _ _,aG,MM,rfl,rfl⟩
theorem NI(b:Nat)(zs:List Int)(n:Nat)(σ:Hp)(hz:zs.length=n)(hl:n≤1000000):ACalls Tryz.prog 312 [.ae b 0 n 1] ((b,ai zs)::σ) (aC (.tup []) ((b,ai (fU zs))::σ)):=by
 subst hz;refine⟨Ri,fun F w vs bP aG =>?_⟩;obtain⟨v,rfl⟩:=Io bP.1;have hv:aB F w (.ae b 0 zs.length 1) v:=bP.2 0 _ rfl;obtain⟨a,cap,rfl,c,T,fz,m1,m2,m3,m4⟩:=hv.kR
 rcases m4 with ⟨rfl,_⟩ | ⟨_,_,h0,_⟩
 ·obtain⟨h1,h2⟩:=HY aG;have h:Calls Tryz.prog 312 #[.slice (some ⟨b,0,none⟩) zs.length cap] w fun e w'=>e=.returned (.tuple #[])∧∃n os,w'=Go.Sort.grow (Go.Sort.putRow (Value.int .i64) (Go.Sort.ahead w n) b 0 (fU zs).toArray) os:=Any.slices_Sort_int M4 b 0 cap zs w h1 h2 (by omega);refine h.mono ?_;rintro e w' ⟨rfl,n,os,rfl⟩;obtain⟨k1,k2⟩:=Eb (n:=n) aG (A2 zs) os;exact⟨.tup [],.tuple #[],_,F,rfl,k1,k2,MM,rfl,rfl⟩
 ·have hz:zs=[]:=iz.1 h0;subst hz;have h:Calls Tryz.prog 312 #[.slice (some a) 0 cap] w fun e w'=>e=.returned (.tuple #[])∧w'=w:=Any.slices_Sort_int_none M4 (some a) cap w;have he:fU []=[]:=iz.1 (A2 []);rw[he];refine h.mono ?_;rintro e w' ⟨rfl,rfl⟩;exact⟨.tup [],.tuple #[],_,F,rfl,.refl _ _,aG,MM,rfl,rfl⟩
theorem ahR(σ:Hp):ACalls Tryz.prog 313 [.an] σ (aC .an σ):=by
 refine⟨Rj,fun F w vs bP aG =>?_⟩;obtain⟨v,rfl⟩:=Io bP.1;have hv:aB F w .an v:=bP.2 0 _ rfl;cases hv;have h:Calls Tryz.prog 313 #[.slice none 0 0] w fun e w'=>e=.returned (.slice none 0 0)∧w'=w:=Any.slices_Compact_int_empty M3 none 0 w;refine h.mono ?_;rintro e w' ⟨rfl,rfl⟩;exact⟨.an,_,σ,F,rfl,.refl _ _,aG,.an,rfl,rfl⟩
theorem ahS(b:Nat)(zs:List Int)(n:Nat)(σ:Hp)(hz:zs.length=n)(hl:n≤1000000):ACalls Tryz.prog 313 [.ae b 0 n 1] ((b,ai zs)::σ) (aC (.ae b 0 (Go.Lib.compact zs).length 1) ((b,ai (Go.Lib.compact zs++List.replicate (n-(Go.Lib.compact zs).length) 0))::σ)):=by
 subst hz;have hle:=Zr zs;refine⟨Rj,fun F w vs bP aG =>?_⟩;obtain⟨v,rfl⟩:=Io bP.1;have hv:aB F w (.ae b 0 zs.length 1) v:=bP.2 0 _ rfl;obtain⟨a,cap,rfl,c,T,fz,m1,m2,m3,m4⟩:=hv.kR
 rcases m4 with ⟨rfl,m5⟩ | ⟨m5,m6,h0,m7⟩
 ·obtain⟨h1,h2⟩:=HY aG;have h:Calls Tryz.prog 313 #[.slice (some ⟨b,0,none⟩) zs.length cap] w fun e w'=>e=.returned (.slice (some ⟨b,0,none⟩) (Go.Lib.compact zs).length cap)∧∃q,w'=Go.Sort.putRow (Value.int .i64) (Go.Sort.ahead w q) b 0 (Go.Lib.compact zs++List.replicate (zs.length-(Go.Lib.compact zs).length) 0).toArray:=Any.slices_Compact_int M3 b 0 cap zs w h1 (by omega) m2;refine h.mono ?_;rintro e w' ⟨rfl,q,rfl⟩;obtain⟨k1,k2⟩:=Eb (n:=q) (zs':=Go.Lib.compact zs++List.replicate (zs.length-(Go.Lib.compact zs).length) 0) aG (by rw[bQ,fQ];omega) #[];have hg:∀W:World,Go.Sort.grow W #[]=W:=fun W=>by unfold Go.Sort.grow;rw[Array.append_empty]
  rw[hg]at k1 k2;obtain⟨c',qH,jM,eg⟩:=k1.rows b c T fz m1;exact⟨.ae b 0 _ 1,_,_,F,rfl,k1,k2,.ae _ _ _ _ _ _ ⟨c',T,qH,jM,by omega,m3,.inl ⟨rfl,by omega⟩⟩,rfl,rfl⟩
 ·have hz:zs=[]:=iz.1 h0;subst hz;have h:Calls Tryz.prog 313 #[.slice (some a) 0 cap] w fun e w'=>e=.returned (.slice (some a) 0 cap)∧w'=w:=Any.slices_Compact_int_empty M3 (some a) cap w;refine h.mono ?_;rintro e w' ⟨rfl,rfl⟩;exact⟨.ae b 0 0 1,_,_,F,rfl,.refl _ _,aG,hv,rfl,rfl⟩
theorem abH:zY []=[]:=Lc.2 fun x h=>by
 unfold zY at h;rw[Rm,SA]at h;cases h
def jU(n:Int)(l:List bE)(a:Int):List Int:=(l.filter fun e=>decide (e.1=a)&&dY n a&&dY n e.2.1).map fun e=>e.2.1
def aw(n:Int)(l:List bE)(a:Int):List Int:=((List.range n.toNat).map fun i:Nat=>(i:Int)).filter fun b=>decide (b∈jU n l a)
theorem abb(n:Int)(l:List bE)(a:Int):(jU n l a).length≤l.length:=by unfold jU;rw[bX];exact Da _ _
theorem aba{n:Int}{l:List bE}{a z:Int}(h:z∈jU n l a):0≤z∧z<n:=by
 unfold jU at h;obtain⟨e,he,rfl⟩:=cX.1 h;have h4:=(kL.1 he).2;simp only[bS,decide_eq_true_eq,lB]at h4;exact h4.2
theorem ZY(n:Int)(l:List bE)(a:Int){k:Nat}(h:k<l.length):jU n (l.take (k+1)) a=jU n (l.take k) a++(if (decide (l[k].1=a)&&dY n a&&dY n l[k].2.1)=true then [l[k].2.1] else []):=by
 unfold jU;rw[ft h,AN,cF]
 congr 1
 by_cases hc:(decide (l[k].1=a)&&dY n a&&dY n l[k].2.1)=true
 ·rw[af hc];have e:=gt2 (p:=fun e:bE=>decide (e.1=a)&&dY n a&&dY n e.2.1) (a:=l[k]) (l:=[]) hc;rw[e];rfl
 ·rw[ag hc];have e:=gq3 (p:=fun e:bE=>decide (e.1=a)&&dY n a&&dY n e.2.1) (a:=l[k]) (l:=[]) hc;rw[e];rfl
theorem acs(n:Int)(l:List bE)(a:Int):zY (jU n l a)=aw n l a:=by
 unfold aw;exact adU fun z hz=>by have:=aba hz;omega
theorem B4(n:Int)(l:List bE)(a:Int)(σ:Hp)(hl:l.length≤100000):ACalls Tryz.prog 289 [.int .i64 n,.ah dO l,.int .i64 a] σ (aC (.ah (.int .i64) (aw n l a)) σ):=by
 refine ay Tryz.func289 ?_;refine .wrap 7 _ rfl rfl ?_;refine ca (S:=Nat×AV×Hp) (fun s=>[(0,.int .i64 n),(2,.int .i64 a),(7,.via s.2.1),(10,.ah dO l),(11,.int .i64 l.length),(12,.int .i64 s.1)]) (fun s=>s.2.2++σ) (fun s=>s.1≤l.length∧Acc 1 (jU n (l.take s.1) a).length s.2.1 s.2.2 (ai (jU n (l.take s.1) a))) (fun s=>l.length-s.1) (0,.an,[]) ⟨⟨bC _,.nil⟩,⟨rfl,rfl,rfl,rfl,rfl,rfl,trivial⟩,rfl⟩ ?_;rintro⟨k,v,acc⟩ g ⟨aP,ig⟩;have hk:k≤l.length:=aP;have cj:Acc 1 (jU n (l.take k) a).length v acc (ai (jU n (l.take k) a)):=ig;clear aP ig;have pz:(jU n (l.take k) a).length≤k:=by have:=abb n (l.take k) a;rw[tO]at this;omega
 refine ao (fun ab=>?_) (fun au=>?_)
 ·have ab:k<l.length:=by have ab:(k:Int)<l.length:=ab;omega
  have hs:=ZY n l a ab;obtain⟨d,hd⟩:∃d:bE,l[k]=d:=⟨_,rfl⟩
  rw[hd]at hs;refine aJ.mk rfl (bO.mk d (by omega) ((get_some ab).trans (congrArg some hd)) ?_);intro aF;refine aj 0 ?_;refine aa 0 ?_;refine ao (p:=d.1=a) (fun c1=>?_) (fun c1=>?_)
  ·refine eY [] (Jm n a _) (fun c2=>?_) (fun c2=>?_)
   ·refine aa 0 ?_;refine eY [] (Jm n d.2.1 _) (fun c3=>?_) (fun c3=>?_)
    ·rw[bu c1,c2,c3,af (show (true&&true&&true)=true from rfl)]at hs;refine aa 0 ?_;intro dJ;refine iC [_,_] cj (.ae 0 dJ 0 1 _ rfl (cy rfl)) rfl (by omega) (by decide) (by decide) (fun v' aY h'=>?_);refine a8 (k+1,v',aY) (by show l.length-(k+1)<l.length-k;omega) ⟨ab,?_⟩ ⟨rfl,rfl,rfl,rfl,rfl,aX (by omega),trivial⟩ (.drop 0 2 (aL rfl));show Acc 1 (jU n (l.take (k+1)) a).length v' aY (ai (jU n (l.take (k+1)) a));rw[hs,bQ,ai,cF];exact h'
    ·rw[c3,KG,ag (by decide),mV]at hs;refine a8 (k+1,v,acc) (by show l.length-(k+1)<l.length-k;omega) ⟨ab,by show Acc 1 (jU n (l.take (k+1)) a).length v acc (ai (jU n (l.take (k+1)) a));rw[hs];exact cj⟩ ⟨rfl,rfl,rfl,rfl,rfl,aX (by omega),trivial⟩ (.drop 0 1 (aL rfl))
   ·rw[c2,KG,KH,ag (by decide),mV]at hs;refine a8 (k+1,v,acc) (by show l.length-(k+1)<l.length-k;omega) ⟨ab,by show Acc 1 (jU n (l.take (k+1)) a).length v acc (ai (jU n (l.take (k+1)) a));rw[hs];exact cj⟩ ⟨rfl,rfl,rfl,rfl,rfl,aX (by omega),trivial⟩ (.drop 0 1 (aL rfl))
  ·rw[cf c1,KH,KH,ag (by decide),mV]at hs;refine a8 (k+1,v,acc) (by show l.length-(k+1)<l.length-k;omega) ⟨ab,by show Acc 1 (jU n (l.take (k+1)) a).length v acc (ai (jU n (l.take (k+1)) a));rw[hs];exact cj⟩ ⟨rfl,rfl,rfl,rfl,rfl,aX (by omega),trivial⟩ (.drop 0 1 (aL rfl))
 ·have au:k=l.length:=by have au:¬(k:Int)<l.length:=au;omega
  subst au;rw[ga]at cj pz;have Oa:=acs n l a;generalize jU n l a=zs at cj pz Oa;generalize hC:ai zs=C at cj;generalize hm:zs.length=m at cj;cases cj with
  |nil=>
   have hz:zs=[]:=iz.1 hm;subst hz;refine ax [] (ahy _) ?_;refine ax [] (ahR _) ?_;exact .nil (.nil (.int .i64)) (.done ⟨by rw[← Oa,abH];rfl,rfl⟩)
  |ae b m cs h=>
   subst hC;refine ax [] (NI b zs m σ hm (by omega)) ?_;refine ax [] (ahS b (fU zs) m σ ((A2 zs).trans hm) (by omega)) ?_;refine .cN 0 b 0 _ 1 _ (.int .i64) (zY zs) rfl ?_ ⟨rfl,rfl,by decide⟩ .here (.done ⟨by rw[Oa],rfl⟩);rw[gR,← vW];unfold zY ai;rw[cF,dS,Lf (by rw[bX];exact aQ _)];exact eR (by rw[bX];exact aQ _)
def jn(a b:Int):Int:=if a=b∨b=0 then a else if a=0 then b else 1
theorem xV{a b:Int}(ha:aM a=a)(hb:aM b=b):kS a b=jn a b:=by unfold kS jn;rw[ha,hb]
theorem Iv(a b:Int):jn a b=jn b a:=by
 unfold jn
 by_cases h1:a=b
 ·subst h1;rfl
 ·by_cases h2:a=0
  ·by_cases h3:b=0
   ·omega
   ·rw[ag (by omega),af h2,af (by omega)]
  ·by_cases h3:b=0
   ·rw[af (by omega),ag (by omega),af h3]
   ·rw[ag (by omega),ag h2,ag (by omega),ag h3]
theorem Iu(a:Int):jn a 0=a:=by unfold jn;rw[af (.inr rfl)]
theorem D5(a:Int):jn 0 a=a:=by rw[Iv,Iu]
theorem Bw(a:Int):jn a a=a:=by unfold jn;rw[af (.inl rfl)]
theorem EO{a b:Int}(h:a≠b)(ha:a≠0)(hb:b≠0):jn a b=1:=by unfold jn;rw[ag (by omega),ag ha]
theorem Nz(a:Int):jn a 1=1:=by
 by_cases h:a=1
 ·rw[h,Bw]
 ·by_cases h0:a=0
  ·rw[h0,D5]
  ·exact EO h h0 (by decide)
theorem Ux(a b c:Int):jn (jn a b) c=jn a (jn b c):=by
 by_cases ha:a=0
 ·rw[ha,D5,D5]
 by_cases hb:b=0
 ·rw[hb,Iu,D5]
 by_cases hc:c=0
 ·rw[hc,Iu,Iu]
 by_cases h1:a=b
 ·subst h1
  by_cases h2:a=c
  ·subst h2;rw[Bw]
  ·rw[Bw,EO h2 ha hc,Nz]
 ·rw[EO h1 ha hb,Iv 1 c,Nz]
  by_cases h2:b=c
  ·subst h2;rw[Bw,EO h1 ha hb]
  ·rw[EO h2 hb hc,Nz]
theorem vT{a b:List Int}(ha:okW a=true)(hb:okW b=true){i:Nat}(h:i<a.length)(h2:i<b.length):wd (dz 3 a b) i=jn (wd a i) (wd b i):=by
 rw[zD h h2,r7,xV (x8 ha h) (x8 hb h2)]
theorem vS{what w:Int}{a b:List Int}(va:dg what w a=true)(vb:dg what w b=true):a.length=b.length:=by have h1:=xY va;have h2:=xY vb;omega
theorem ad4(what:Int)(x y:Bool):jK what x y=jK what y x:=by unfold jK;split <;> cases x <;> cases y <;> rfl
theorem ab0(what:Int)(x y z:Bool):jK what (jK what x y) z=jK what x (jK what y z):=by unfold jK;split <;> cases x <;> cases y <;> cases z <;> rfl
structure eS(what w:Int)(a:List Int):Prop where
 v:dg what w a=true
 cC:bh a
theorem eS.join{what w:Int}{a b:List Int}(ha:eS what w a)(hb:eS what w b):eS what w (dz what a b):=⟨Mw ha.cC hb.cC ha.v hb.v,ya ha.cC hb.cC⟩
theorem DV{what w:Int}{x y:List Int}(hx:eS what w x)(hy:eS what w y)(h3:what=3→∀i,i<x.length→wd x i=wd y i)(hs:what=1∨what=2→∀i k,i<x.length→k<64→eC x i k=eC y i k):x=y:=by
 have hl:=vS hx.v hy.v
 by_cases h:what=3
 ·exact zH hl (h3 h)
 ·exact Ih hx.cC hy.cC hl (hs (IQ (nk hx.v) h))
theorem join_comm{what w:Int}{a b:List Int}(ha:eS what w a)(hb:eS what w b):dz what a b=dz what b a:=by
 have hl:=vS ha.v hb.v;refine DV (ha.join hb) (hb.join ha) (fun h3 i hi=>?_) (fun hs i k hi _=>?_)
 ·subst h3;rw[jv hl]at hi;have va:=((ka (nk ha.v) rfl).1 ha.v).2;have vb:=((ka (nk hb.v) rfl).1 hb.v).2;rw[vT va vb hi (by omega),vT vb va (by omega) hi,Iv]
 ·rw[jv hl]at hi;rw[pR hs ha.cC hb.cC hl i k hi,pR hs hb.cC ha.cC hl.symm i k (by omega),ad4]
theorem join_assoc{what w:Int}{a b c:List Int}(ha:eS what w a)(hb:eS what w b)(hc:eS what w c):dz what (dz what a b) c=dz what a (dz what b c):=by
 have hl:=vS ha.v hb.v;have gx:=vS hb.v hc.v;have l1:=jv (what:=what) hl;have l2:=jv (what:=what) gx;refine DV ((ha.join hb).join hc) (ha.join (hb.join hc)) (fun h3 i hi=>?_) (fun hs i k hi _=>?_)
 ·subst h3;rw[jv (by omega),l1]at hi;have o:∀{x:List Int},eS 3 w x→okW x=true:=fun h=>((ka (nk h.v) rfl).1 h.v).2;rw[vT (o (ha.join hb)) (o hc) (by omega) (by omega),vT (o ha) (o hb) (by omega) (by omega),vT (o ha) (o (hb.join hc)) (by omega) (by omega),vT (o hb) (o hc) (by omega) (by omega),Ux]
 ·rw[jv (by omega),l1]at hi;rw[pR hs (ha.join hb).cC hc.cC (by omega) i k (by omega),pR hs ha.cC hb.cC hl i k (by omega),pR hs ha.cC (hb.join hc).cC (by omega) i k (by omega),pR hs hb.cC hc.cC gx i k (by omega),ab0]
theorem join_self{what w:Int}{a:List Int}(ha:eS what w a):dz what a a=a:=by
 refine DV (ha.join ha) ha (fun h3 i hi=>?_) (fun hs i k hi _=>?_)
 ·subst h3;rw[jv rfl]at hi;have va:=((ka (nk ha.v) rfl).1 ha.v).2;rw[vT va va hi hi,Bw]
 ·rw[jv rfl]at hi;rw[pR hs ha.cC ha.cC rfl i k hi,(Nu _ (eC a i k) (eC a i k)).2.2]
def dG(what w:Int)(a b:List Int):Prop:=eS what w a∧eS what w b∧dz what a b=b
theorem dG.refl{what w:Int}{a:List Int}(h:eS what w a):dG what w a a:=⟨h,h,join_self h⟩
theorem dG.trans{what w:Int}{a b c:List Int}(h1:dG what w a b)(h2:dG what w b c):dG what w a c:=by
 refine⟨h1.1,h2.2.1,?_⟩;have:=join_assoc h1.1 h1.2.1 h2.2.1;rw[h1.2.2,h2.2.2]at this;exact this.symm
theorem dG.ajK{what w:Int}{a b:List Int}(h1:dG what w a b)(h2:dG what w b a):a=b:=by
 rw[← h2.2.2,join_comm h2.1 h1.1];exact h1.2.2
theorem dG.left{what w:Int}{a b:List Int}(ha:eS what w a)(hb:eS what w b):dG what w a (dz what a b):=by
 refine⟨ha,ha.join hb,?_⟩;rw[← join_assoc ha ha hb,join_self ha]
theorem dG.right{what w:Int}{a b:List Int}(ha:eS what w a)(hb:eS what w b):dG what w b (dz what a b):=by
 rw[join_comm ha hb];exact dG.left hb ha
theorem dG.join{what w:Int}{a b c:List Int}(h1:dG what w a c)(h2:dG what w b c):dG what w (dz what a b) c:=by
 refine⟨h1.1.join h2.1,h1.2.1,?_⟩;rw[join_assoc h1.1 h2.1 h1.2.1,h2.2.2,h1.2.2]
theorem dG.mono{what w:Int}{a b c d:List Int}(h1:dG what w a c)(h2:dG what w b d):dG what w (dz what a b) (dz what c d):=
 dG.join (h1.trans (dG.left h1.2.1 h2.2.1)) (h2.trans (dG.right h1.2.1 h2.2.1))
theorem ae1{what w:Int}{a b:List Int}(ha:bh a)(hb:bh b):zN what w a b=true↔dG what w a b:=by
 rw[abV];exact⟨fun h=>⟨⟨h.1,ha⟩,⟨h.2.1,hb⟩,h.2.2⟩,fun h=>⟨h.1.v,h.2.1.v,h.2.2⟩⟩
theorem bot_le{what w:Int}{a:List Int}(ha:eS what w a):dG what w (gC what w) a:=by
 have hi:=nk ha.v;have hb:eS what w (gC what w):=⟨IB hi,IZ _ _⟩
 have hl:=vS hb.v ha.v;refine⟨hb,ha,DV (hb.join ha) ha (fun h3 i fq=>?_) (fun hs i k fq hk=>?_)⟩
 ·subst h3;rw[jv hl]at fq;have va:=((ka hi rfl).1 ha.v).2;have vb:=((ka hi rfl).1 hb.v).2;rw[vT vb va fq (by omega)]
  have:wd (gC 3 w) i=0:=by
   have e:gC 3 w=List.replicate (eG 3 w).toNat 0:=ag (fun h=>absurd h.1 (by decide));rw[e]at fq ⊢;rw[lC _ fq,K9]
  rw[this,D5]
 ·rw[jv hl]at fq;rw[pR hs hb.cC ha.cC hl i k fq]
  rcases hs with rfl | rfl
  ·have e:gC 1 w=List.replicate (eG 1 w).toNat 0:=ag (fun h=>absurd h.1 (by decide))
   have h0:eC (gC 1 w) i k=false:=by
    unfold eC;rw[e]at fq ⊢;rw[lC _ fq,K9];exact HN k
   rw[h0];exact pI _
  ·have e:gC 2 w=fv w:=af ⟨rfl,hi⟩;have fa:=(qL hi (by decide)).1 ha.v;rw[e]at fq ⊢;rw[nM]at fq;show (eC (fv w) i k&&eC a i k)=eC a i k
   by_cases hc:64*i+k<eI w
   ·have h1:eC (fv w) i k=true:=by
     unfold eC;rw[DY w fq,bG,K8];exact bu (by omega)
    rw[h1,AJ]
   ·have h2:=(rU ha.cC (oT fa)).1 fa i k (by rw[oT fa];exact fq) hk (by omega);rw[h2,KG]
theorem aaj{what w:Int}{g k a b:List Int}{l:List dp}(hg:bh g)(hk:bh k)(hc:fT what w g k l=0)(h:dG what w a b):dG what w (gz what g k l a) (gz what g k l b):=by
 have:=(ai1 hg hk h.1.cC h.2.1.cC hc h.1.v h.2.1.v).1;rw[h.2.2,ae1 (Bi h.1.cC) (Bi h.2.1.cC)]at this;exact this
structure kW(s:Sy)(a:List (List Int)):Prop where
 len:(a.length:Int)=s.n
 val:∀x∈a,eS s.what s.w x
theorem aeI{s:Sy}{a:List (List Int)}(h:zP s a=true)(ha:z8 a):kW s a:=
 ⟨(DP.1 h).1,fun x hx=>⟨(DP.1 h).2 x hx,(ha.2 x hx).1⟩⟩
theorem kW.cH{s:Sy}{a:List (List Int)}(h:kW s a):zP s a=true:=DP.2 ⟨h.len,fun x hx=>(h.val x hx).v⟩
theorem kW.ok{s:Sy}{a:List (List Int)}(hg:Good s)(h:kW s a):z8 a:=by
 have h1:=h.len;have h2:=hg.n2;exact⟨by omega,fun x hx=>⟨(h.val x hx).cC,by have:=Hs (h.val x hx).v;omega⟩⟩
theorem kW.get{s:Sy}{a:List (List Int)}(h:kW s a){i:Nat}(hi:(i:Int)<s.n):eS s.what s.w (a.getD i []):=by
 have hl:=h.len;have ab:i<a.length:=by omega
 rw[aZ,bB ab];exact h.val _ (cq ab)
def mP(s:Sy)(a b:List (List Int)):Prop:=kW s a∧kW s b∧∀i:Nat,(i:Int)<s.n→dG s.what s.w (a.getD i []) (b.getD i [])
theorem Mq{s:Sy}(hf:Fit s)(hg:Good s){x y:List Int}(h:dG s.what s.w x y){v:Nat}(hv:(v:Int)<s.n):dG s.what s.w (iS s x v) (iS s y v):=by
 obtain⟨h2,e⟩:=Jr hg hv;unfold iS;rw[e];have ho:=hf.ts _ (cq h2);exact aaj ho.1 ho.2.1 (hg.FH _ (cq h2)) h
theorem Hv{s:Sy}(hf:Fit s)(hg:Good s)(v:Int):eS s.what s.w (gJ s v):=⟨(LU hf hg v).1,(LU hf hg v).2⟩
theorem Sw{s:Sy}(hf:Fit s)(hg:Good s){a:List (List Int)}(h:kW s a)(v k:Nat)(hk:k≤s.aN.length):eS s.what s.w (jT s a k v):=
 ⟨(Hu hf hg (h.ok hg) h.cH v k hk).1,(Hu hf hg (h.ok hg) h.cH v k hk).2⟩
theorem Dv{s:Sy}(hf:Fit s)(hg:Good s){a:List (List Int)}(h:kW s a):kW s (gW s a):=aeI (RD hf hg (h.ok hg) h.cH).1 (RD hf hg (h.ok hg) h.cH).2
theorem Dw(s:Sy)(a:List (List Int)){i:Nat}(h:(i:Int)<s.n):(gW s a).getD i []=jT s a s.aN.length i:=by
 unfold gW EG;rw[aZ,fk,vH (by omega)];rfl
theorem RC{s:Sy}(hf:Fit s)(hg:Good s){a b:List (List Int)}(h:mP s a b)(v:Nat):∀k,k≤s.aN.length→dG s.what s.w (jT s a k v) (jT s b k v)
 | 0,_=>dG.refl (Hv hf hg v)
 |k+1,hk=>by
  have ih:=RC hf hg h v k (by omega);rw[zk s a (by omega),zk s b (by omega)];unfold wD;have he:=hg.uT _ (cq (show k<s.aN.length by omega));split
  ·exact ih.mono (Mq hf hg (h.2.2 _ (by omega)) (by omega))
  ·exact ih
theorem Sv{s:Sy}(hf:Fit s)(hg:Good s){a b:List (List Int)}(h:mP s a b):mP s (gW s a) (gW s b):=
 ⟨Dv hf hg h.1,Dv hf hg h.2.1,fun i hi=>by
  rw[Dw s a hi,Dw s b hi]
  exact RC hf hg h i _ (aQ _)⟩
theorem mP.trans{s:Sy}{a b c:List (List Int)}(h1:mP s a b)(h2:mP s b c):mP s a c:=⟨h1.1,h2.2.1,fun i hi=>(h1.2.2 i hi).trans (h2.2.2 i hi)⟩
end Go.Proofs.YtnikdflhefijbaaGreat
