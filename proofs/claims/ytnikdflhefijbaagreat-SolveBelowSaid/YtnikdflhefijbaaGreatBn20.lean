import Derived.Test.YtnikdflhefijbaaGreatBn19
namespace Go.Proofs.YtnikdflhefijbaaGreat
open Go.RowKit
set_option maxRecDepth 100000
theorem X1{f:FuncId}{xs:List AV}{σ:Hp}{R R':AV→Hp→Prop}(h:ACalls Tryz.prog f xs σ R)(hv:∀r σ',R r σ'→r.leaf=true∧R' (.via r) σ'):ACalls Tryz.prog f xs σ R':=
 ⟨h.1,fun F w vs bU aF=>(h.2 F w vs bU aF).mono fun _ _ ⟨r,v,σ',F',h1,h2,h3,h4,h5⟩=>⟨.via r,v,σ',F',h1,h2,h3,.via _ _ (hv r σ' h5).1 h4,(hv r σ' h5).2⟩⟩
theorem LY{n:Int}(h:bD n):aR [n]:=fun z hz=>by rw[bh.1 hz];exact h
theorem P6{f:FuncId}{xs ys:List AV}{σ:Hp}{R:AV→Hp→Prop}(h:ew 0 0 0 0 .bool [] (.tup xs) (.tup ys))(hc:ACalls Tryz.prog f ys σ R):ACalls Tryz.prog f xs σ R:=
 ⟨hc.1,fun F w vs bU aF=>hc.2 F w vs (by
  have:=xM (.refl F w) (fun v hv=>by
   obtain⟨a,cap,rfl,c,T,fz,m1,m2,m3,m4⟩:=hv.lu
   exact .af _ _ _ ⟨some a,cap,rfl,m2,m3,(fun e=>by cases e),fun aP=>absurd rfl aP⟩) h (.tuple vs) (.tup xs vs bU.1 bU.2)
  cases this with
  |tup _ _ h1 h2=>exact⟨h1,h2⟩) aF⟩
abbrev dv:Sh:=.field (.int .i64) (.field (.int .i64) .nil)
abbrev bC:Type:=Int×Int×Unit
abbrev mh:Type:=List Int×List Int×List da×Unit
abbrev UE:Sh:=.field (.int .i64) (.field (.int .i64) (.field (.int .i64) (.field (.slice dv) (.field (.slice (.int .i64)) (.field (.slice (.int .u64)) (.field (.slice kK) .nil))))))
structure Sy where
 what:Int
 w:Int
 n:Int
 bf:List bC
 entry:List Int
 init:List Int
 T:List mh
abbrev bc(s:Sy):List AV:=[.int .i64 s.what,.int .i64 s.w,.int .i64 s.n,.af dv s.bf,.af (.int .i64) s.entry,.af (.int .u64) s.init,.af kK s.T]
def afv(x:UE.T):Sy:=⟨x.1,x.2.1,x.2.2.1,x.2.2.2.1,x.2.2.2.2.1,x.2.2.2.2.2.1,x.2.2.2.2.2.2.1⟩
def okT(t:mh):Prop:=aR t.1∧aR t.2.1∧t.1.length≤10000∧t.2.1.length≤10000∧t.2.2.1.length≤100000
structure Fit(s:Sy):Prop where
 i64:aR s.init
 Ds:s.init.length≤10000
 DE:s.bf.length≤100000
 AB:s.entry.length≤100000
 Mp:s.T.length≤100000
 ts:∀t∈s.T,okT t
def dI(n a:Int):Bool:=decide (0≤a)&&decide (a<n)
theorem Hu(n a:Int)(σ:Hp):ACalls Tryz.prog 206 [.int .i64 n,.int .i64 a] σ (aE (.bool (dI n a)) σ):=by
 refine ay Tryz.func206 ?_
 refine an (fun c1=>?_) (fun c1=>?_)
 ·have c1:0≤a:=c1
  refine an (fun c2=>?_) (fun c2=>?_)
  ·have c2:a<n:=c2
   exact .done ⟨cz (by unfold dI;simp;omega),rfl⟩
  ·have c2:¬(a<n):=c2
   exact .done ⟨cz (by unfold dI;simp;omega),rfl⟩
 ·have c1:¬(0≤a):=c1
  exact .done ⟨cz (by unfold dI;simp;omega),rfl⟩
def Aq(e:bC):AV:=.agg [.int .i64 e.1,.int .i64 e.2.1]
theorem acZ(n:Int)(e:bC)(q:Nat)(σ:Hp):ACalls Tryz.prog 205 [Aq e,.ptr q 0] ((q,[.int .i64 n])::σ) (aE (.bool (!(dI n e.1&&dI n e.2.1))) ((q,[.int .i64 n])::σ)):=by
 refine ay Tryz.func205 ?_
 unfold Aq
 intro aD
 refine aa 1 ?_
 refine aa 0 ?_
 refine eb [] (Hu n e.1 _) (fun c1=>?_) (fun c1=>?_)
 ·refine aa 1 ?_
  refine aa 0 ?_
  refine eb [] (Hu n e.2.1 _) (fun c2=>?_) (fun c2=>?_)
  ·exact .drop 0 1 (.done ⟨cz (by rw[c1,c2];rfl),rfl⟩)
  ·exact .drop 0 1 (.done ⟨cz (by rw[c1,c2];rfl),rfl⟩)
 ·exact .drop 0 1 (.done ⟨cz (by rw[c1];rfl),rfl⟩)
theorem abc(g:Nat)(cap:List AV)(l:List (Sh.T dv))(p:Sh.T dv→Bool)(σ:Hp)(hl:l.length≤1000000)(hg:∀(i:Nat) (hi:i<l.length),ACalls Tryz.prog g (Aq l[i]::cap) σ (aE (.bool (p l[i])) σ)):ACalls Tryz.prog 252 [.af dv l,.fn (.func g) [] cap] σ (fun r σ'=>∃n:Int,r=.int .i64 n∧σ'=σ∧decide (0≤n)=l.any p):=by
 refine ay Tryz.func252 ?_
 refine bV (S:=Nat) (fun s=>[(0,.af dv l),(1,.fn (.func g) [] cap),(7,.int .i64 l.length),(8,.int .i64 s)]) (fun _=>σ) (fun s=>s≤l.length∧(l.take s).any p=false) (fun s=>l.length-s) 0 ⟨⟨bA _,rfl⟩,⟨rfl,rfl,rfl,rfl,trivial⟩,rfl⟩ ?_
 rintro k t ⟨aL,fR⟩
 have hk:k≤l.length:=aL
 have hn:(l.take k).any p=false:=fR
 clear aL fR
 refine an (fun ab=>?_) (fun ar=>?_)
 ·have ab:k<l.length:=by have ab:(k:Int)<l.length:=ab;omega
  have hs:=qP ab p
  rw[hn,oK]at hs
  refine ag.mk rfl (bG.mk l[k] (by omega) (get_some ab) ?_)
  refine eb [] (hg k ab) (fun c=>?_) (fun c=>?_)
  ·have hp:l.any p=true:=mf.2 ⟨l[k],bX ab,c⟩
   exact .done ⟨_,rfl,rfl,by rw[hp];exact aV (by omega)⟩
  ·exact a8 (k+1) (by show l.length-(k+1)<l.length-k;omega) ⟨ab,hs.trans c⟩ ⟨rfl,rfl,rfl,aX (by omega),trivial⟩ (.refl _)
 ·have ar:k=l.length:=by have ar:¬(k:Int)<l.length:=ar;omega
  subst ar
  rw[fj]at hn
  exact .done ⟨_,rfl,rfl,by rw[hn];rfl⟩
theorem Pp(g:Nat)(cap:List AV)(l:List (Sh.T dv))(p:Sh.T dv→Bool)(σ:Hp)(hl:l.length≤1000000)(hg:∀(i:Nat) (hi:i<l.length),ACalls Tryz.prog g (Aq l[i]::cap) σ (aE (.bool (p l[i])) σ)):ACalls Tryz.prog 204 [.af dv l,.fn (.func g) [] cap] σ (aE (.bool (l.any p)) σ):=by
 refine ay Tryz.func204 ?_
 refine .mk [] _ (abc g cap l p _ hl hg) ?_
 rintro _ _ ⟨n,rfl,rfl,hn⟩
 rw[← hn]
 refine an (fun c=>?_) (fun c=>?_)
 ·have c:0≤n:=c
  rw[aV c]
  exact .done ⟨rfl,rfl⟩
 ·have c:¬0≤n:=c
  rw[bR c]
  exact .done ⟨rfl,rfl⟩
def fe(n:Int)(l:List bC):Bool:=decide (1≤n)&&decide (n≤256)&&decide (l.length≤1024)&&l.all fun e=>dI n e.1&&dI n e.2.1
theorem U4{n:Int}(l:List bC){b:Bool}(h:(l.any fun e=> !(dI n e.1&&dI n e.2.1))=b):(l.all fun e=>dI n e.1&&dI n e.2.1) = !b:=by rw[Li,h]
theorem CN(n:Int)(l:List bC)(σ:Hp)(hl:l.length≤1000000):ACalls Tryz.prog 150 [.int .i64 n,.af dv l] σ (aE (.bool (fe n l)) σ):=by
 refine ay Tryz.func150 ?_
 intro aD
 refine aa 0 ?_
 refine an (fun c2=>?_) (fun c2=>?_)
 ·have c2:n<1:=c2
  exact .drop 0 1 (.done ⟨cz (by unfold fe;simp;omega),rfl⟩)
 ·have c2:¬(n<1):=c2
  refine aa 0 ?_
  refine an (fun c3=>?_) (fun c3=>?_)
  ·have c3:256<n:=c3
   exact .drop 0 1 (.done ⟨cz (by unfold fe;simp;omega),rfl⟩)
  ·have c3:¬(256<n):=c3
   refine an (fun c4=>?_) (fun c4=>?_)
   ·have c4:1024<(↑l.length:Int):=c4
    exact .drop 0 1 (.done ⟨cz (by unfold fe;simp;omega),rfl⟩)
   ·have c4:¬(1024<(↑l.length:Int)):=c4
    refine eb [] (Pp 205 [.ptr aD 0] l (fun e=> !(dI n e.1&&dI n e.2.1)) _ hl (fun i hi=>acZ n l[i] aD _)) (fun cL=>?_) (fun cL=>?_)
    ·exact .drop 0 1 (.done ⟨cz (by unfold fe;rw[U4 l cL];simp),rfl⟩)
    ·exact .drop 0 1 (.done ⟨cz (by unfold fe;rw[U4 l cL];simp;omega),rfl⟩)
def gF(what w:Int):Int:=if cD what w=true then (if what=3 then 2*w else w) else 0
theorem abb(what w:Int)(σ:Hp):ACalls Tryz.prog 131 [.int .i64 what,.int .i64 w] σ (aE (.int .i64 (gF what w)) σ):=by
 refine ay Tryz.func131 ?_
 refine eb [] (H5 what w _) (fun c0=>?_) (fun c0=>?_)
 ·refine an (fun c1=>?_) (fun c1=>?_)
  ·have c1:what=3:=c1
   exact .done ⟨aQ (by unfold cD at c0;simp at c0;unfold gF;rw[if_pos (pQ (by omega)),if_pos c1,ca (by omega)]),rfl⟩
  ·have c1:¬(what=3):=c1
   exact .done ⟨aQ (by unfold gF;rw[ai c0,ah c1]),rfl⟩
 ·exact .done ⟨aQ (by unfold gF;rw[c0];rfl),rfl⟩
theorem YW(w:Int):fg (eP w) w=true:=by
 unfold fg
 rw[aV (mP w),tO,fk]
 intro i hi
 have hi:=gw.1 hi
 rw[mP]at hi
 rw[decide_eq_true_eq,Cb w hi,bM]
 have:=Bd (min 64 (dK w-64*i))
 omega
theorem GD{what w:Int}(h:cD what w=true):cC what w (fX what w)=true:=by
 by_cases h3:what=3
 ·rw[jB h h3]
  unfold fX
  rw[ah (fun h=>by omega),Pr h h3]
  unfold cD at h;simp at h
  exact⟨by rw[gb];omega,RG _⟩
 ·rw[pL h h3]
  unfold fX
  split
  ·exact YW w
  ·rw[Qg h h3,bM]
   refine (qN (Lr _) gb).2 fun i k hi _ _=>?_
   unfold dU
   rw[kL _ hi,Jf];exact FQ k
theorem G2(what w:Int):aR (fX what w):=by
 unfold fX;split
 ·exact R4 w
 ·exact Lr _
theorem acF(what w:Int):(fX what w).length≤1024:=by
 unfold fX;split
 ·rw[mP];have:=xY w;omega
 ·rw[gb];have:=xV what w;omega
def eK(s:Sy):Int:=if cD s.what s.w=true then (if fe s.n s.bf=true∧(s.T.length:Int)=s.n then (if (s.entry.any fun v=> !dI s.n v)=true then 1 else if cC s.what s.w s.init=true then (if (s.T.any fun t=> !decide (ft s.what s.w t.1 t.2.1 t.2.2.1=0))=true then 2 else 0) else 2) else 1) else 10
theorem adZ{s:Sy}(h:cD s.what s.w=false):10=eK s:=by unfold eK;rw[h];rfl
theorem Ho{s:Sy}(hi:cD s.what s.w=true)(h:¬(fe s.n s.bf=true∧(s.T.length:Int)=s.n)):1=eK s:=by unfold eK;rw[ai hi,ah h]
theorem GZ{s:Sy}(hi:cD s.what s.w=true)(h:fe s.n s.bf=true∧(s.T.length:Int)=s.n)(he:(s.entry.any fun v=> !dI s.n v)=true):1=eK s:=by unfold eK;rw[ai hi,ai h,ai he]
theorem UY{s:Sy}(hi:cD s.what s.w=true)(h:fe s.n s.bf=true∧(s.T.length:Int)=s.n)(he:(s.entry.any fun v=> !dI s.n v)=false)(hv:cC s.what s.w s.init=false):2=eK s:=by unfold eK;rw[ai hi,ai h,he,hv];rfl
theorem Uf{s:Sy}(hi:cD s.what s.w=true)(h:fe s.n s.bf=true∧(s.T.length:Int)=s.n)(he:(s.entry.any fun v=> !dI s.n v)=false)(hv:cC s.what s.w s.init=true)(ht:(s.T.any fun t=> !decide (ft s.what s.w t.1 t.2.1 t.2.2.1=0))=true):2=eK s:=by unfold eK;rw[ai hi,ai h,he,hv,ht];rfl
theorem Mf{s:Sy}(hi:cD s.what s.w=true)(h:fe s.n s.bf=true∧(s.T.length:Int)=s.n)(he:(s.entry.any fun v=> !dI s.n v)=false)(hv:cC s.what s.w s.init=true)(ht:(s.T.any fun t=> !decide (ft s.what s.w t.1 t.2.1 t.2.2.1=0))=false):0=eK s:=by unfold eK;rw[ai hi,ai h,he,hv,ht];rfl
theorem Q7(s:Sy)(σ:Hp)(hf:Fit s):ACalls Tryz.prog 84 [.agg (bc s)] σ (aE (.int .i64 (eK s)) σ):=by
 refine ay Tryz.func84 ?_
 intro aD
 refine .quiet (by kernel_rfl) ?_
 refine aa 0 ?_
 refine aa 0 ?_
 refine aH [] (abb _ _ _) ?_
 refine an (fun c1=>?_) (fun c1=>?_)
 ·have c1:gF s.what s.w=0:=c1
  refine aa 0 ?_
  refine aa 0 ?_
  refine aa 0 ?_
  refine aa 0 ?_
  refine aH [] (KK _ _ _) ?_
  refine LD [] (H6 s.what s.w (fX s.what s.w) _ (G2 _ _) (fD (acF _ _) (by decide))) (fun c2=>?_) (fun c2=>?_)
  ·have hi:=mn c2
   refine aa 0 ?_
   refine aa 0 ?_
   refine eb [] (CN s.n s.bf _ (fD hf.DE (by decide))) (fun cr=>?_) (fun cr=>?_)
   ·refine aa 0 ?_
    refine aa 0 ?_
    refine dB (fun ct=>?_) (fun ct=>?_)
    ·have ct:(!decide ((s.T.length:Int)=s.n))=true:=ct
     have ct:¬(s.T.length:Int)=s.n:=by simpa using ct
     exact .fwd 1 (.drop 0 1 (.done ⟨aQ (Ho hi fun h=>ct h.2),rfl⟩))
    ·have ct:(!decide ((s.T.length:Int)=s.n))=false:=ct
     have ct:(s.T.length:Int)=s.n:=by simpa using ct
     have hr:fe s.n s.bf=true∧(s.T.length:Int)=s.n:=⟨cr,ct⟩
     refine aa 0 ?_
     refine bV (S:=Nat) (fun k=>[(1,.ptr aD 0),(3,.int .i64 1),(42,.af (.int .i64) s.entry),(43,.int .i64 s.entry.length),(44,.int .i64 k)]) (fun _=>(aD,bc s)::σ) (fun k=>k≤s.entry.length∧((s.entry.take k).any fun v=> !dI s.n v)=false) (fun k=>s.entry.length-k) 0 ⟨⟨bA _,rfl⟩,⟨rfl,rfl,rfl,rfl,rfl,trivial⟩,rfl⟩ ?_
     rintro k g ⟨aL,mK⟩
     have hk:k≤s.entry.length:=aL
     have ha:((s.entry.take k).any fun v=> !dI s.n v)=false:=mK
     clear aL mK
     refine an (fun ab=>?_) (fun ar=>?_)
     ·have ab:k<s.entry.length:=by have ab:(k:Int)<s.entry.length:=ab;omega
      have hs:=qP ab fun v=> !dI s.n v
      rw[ha,oK]at hs
      have DA:dI s.n s.entry[k]=false→(s.entry.any fun v=> !dI s.n v)=true:=fun h=>mf.2 ⟨s.entry[k],bX ab,by rw[h];rfl⟩
      refine ag.mk rfl (bG.mk s.entry[k] (by omega) (get_some ab) ?_)
      refine an (p:=s.entry[k]<0) (fun d1=>?_) (fun d1=>?_)
      ·exact .fwd 1 (.drop 0 1 (.done ⟨aQ (GZ hi hr (DA (by unfold dI;simp;omega))),rfl⟩))
      ·refine aa 0 ?_
       refine an (p:=s.n≤s.entry[k]) (fun d2=>?_) (fun d2=>?_)
       ·exact .fwd 1 (.drop 0 1 (.done ⟨aQ (GZ hi hr (DA (by unfold dI;simp;omega))),rfl⟩))
       ·exact a8 (k+1) (by show s.entry.length-(k+1)<s.entry.length-k;omega) ⟨ab,hs.trans (by unfold dI;simp;omega)⟩ ⟨rfl,rfl,rfl,rfl,aX (by have:=hf.AB;omega),trivial⟩ (.refl _)
     ·have ar:k=s.entry.length:=by have ar:¬(k:Int)<s.entry.length:=ar;omega
      subst ar
      rw[fj]at ha
      refine aa 0 ?_
      refine aa 0 ?_
      refine aa 0 ?_
      refine eb [] (H6 s.what s.w s.init _ hf.i64 (fD hf.Ds (by decide))) (fun cv=>?_) (fun cv=>?_)
      ·refine aa 0 ?_
       refine bV (S:=Nat) (fun k=>[(1,.ptr aD 0),(3,.int .i64 2),(66,.af kK s.T),(67,.int .i64 s.T.length),(68,.int .i64 k)]) (fun _=>(aD,bc s)::σ) (fun k=>k≤s.T.length∧((s.T.take k).any fun t=> !decide (ft s.what s.w t.1 t.2.1 t.2.2.1=0))=false) (fun k=>s.T.length-k) 0 ⟨⟨bA _,rfl⟩,⟨rfl,rfl,rfl,rfl,rfl,trivial⟩,rfl⟩ ?_
       rintro k g ⟨aL,jM⟩
       have hk:k≤s.T.length:=aL
       have ht:((s.T.take k).any fun t=> !decide (ft s.what s.w t.1 t.2.1 t.2.2.1=0))=false:=jM
       clear aL jM
       refine an (fun ab=>?_) (fun ar=>?_)
       ·have ab:k<s.T.length:=by have ab:(k:Int)<s.T.length:=ab;omega
        have hs:=qP ab fun t=> !decide (ft s.what s.w t.1 t.2.1 t.2.2.1=0)
        rw[ht,oK]at hs
        have ho:=hf.ts _ (bX ab)
        have hm:=bX ab
        obtain⟨t,fB⟩:∃t:mh,s.T[k]=t:=⟨_,rfl⟩
        rw[fB]at hs ho hm
        refine ag.mk rfl (bG.mk t (by omega) ((get_some ab).trans (congrArg some fB)) ?_)
        intro dH
        refine ak 0 ?_
        refine aa 1 ?_
        refine aa 1 ?_
        refine aa 0 ?_
        refine az [] (Ll s.what s.w t.1 t.2.1 t.2.2.1 _ ho.1 ho.2.1 ho.2.2.1 ho.2.2.2.1 (fD ho.2.2.2.2 (by decide))) ?_
        refine dB (fun d1=>?_) (fun d1=>?_)
        ·exact .fwd 1 (.drop 0 2 (.done ⟨aQ (Uf hi hr ha cv (mf.2 ⟨t,hm,d1⟩)),rfl⟩))
        ·exact a8 (k+1) (by show s.T.length-(k+1)<s.T.length-k;omega) ⟨ab,hs.trans d1⟩ ⟨rfl,rfl,rfl,rfl,aX (by have:=hf.Mp;omega),trivial⟩ (.drop 0 1 (.refl _))
       ·have ar:k=s.T.length:=by have ar:¬(k:Int)<s.T.length:=ar;omega
        subst ar
        rw[fj]at ht
        exact .drop 0 1 (.done ⟨aQ (Mf hi hr ha cv ht),rfl⟩)
      ·exact .fwd 1 (.drop 0 1 (.done ⟨aQ (UY hi hr ha cv),rfl⟩))
   ·exact .fwd 1 (.drop 0 1 (.done ⟨aQ (Ho hi fun h=>by rw[h.1]at cr;cases cr),rfl⟩))
  ·have hi:cD s.what s.w=false:=by
    cases h:cD s.what s.w with
    |false=>rfl
    |true=>rw[GD h]at c2;cases c2
   exact .fwd 1 (.drop 0 1 (.done ⟨aQ (adZ hi),rfl⟩))
 ·have c1:¬gF s.what s.w=0:=c1
  refine aa 0 ?_
  refine aa 0 ?_
  have hi:cD s.what s.w=true:=by
   cases h:cD s.what s.w with
   |true=>rfl
   |false=>exact absurd (by unfold gF;rw[h];rfl) c1
  refine eb [] (CN s.n s.bf _ (fD hf.DE (by decide))) (fun cr=>?_) (fun cr=>?_)
  ·refine aa 0 ?_
   refine aa 0 ?_
   refine dB (fun ct=>?_) (fun ct=>?_)
   ·have ct:(!decide ((s.T.length:Int)=s.n))=true:=ct
    have ct:¬(s.T.length:Int)=s.n:=by simpa using ct
    exact .fwd 1 (.drop 0 1 (.done ⟨aQ (Ho hi fun h=>ct h.2),rfl⟩))
   ·have ct:(!decide ((s.T.length:Int)=s.n))=false:=ct
    have ct:(s.T.length:Int)=s.n:=by simpa using ct
    have hr:fe s.n s.bf=true∧(s.T.length:Int)=s.n:=⟨cr,ct⟩
    refine aa 0 ?_
    refine bV (S:=Nat) (fun k=>[(1,.ptr aD 0),(3,.int .i64 1),(42,.af (.int .i64) s.entry),(43,.int .i64 s.entry.length),(44,.int .i64 k)]) (fun _=>(aD,bc s)::σ) (fun k=>k≤s.entry.length∧((s.entry.take k).any fun v=> !dI s.n v)=false) (fun k=>s.entry.length-k) 0 ⟨⟨bA _,rfl⟩,⟨rfl,rfl,rfl,rfl,rfl,trivial⟩,rfl⟩ ?_
    rintro k g ⟨aL,mK⟩
    have hk:k≤s.entry.length:=aL
    have ha:((s.entry.take k).any fun v=> !dI s.n v)=false:=mK
    clear aL mK
    refine an (fun ab=>?_) (fun ar=>?_)
    ·have ab:k<s.entry.length:=by have ab:(k:Int)<s.entry.length:=ab;omega
     have hs:=qP ab fun v=> !dI s.n v
     rw[ha,oK]at hs
     have DA:dI s.n s.entry[k]=false→(s.entry.any fun v=> !dI s.n v)=true:=fun h=>mf.2 ⟨s.entry[k],bX ab,by rw[h];rfl⟩
     refine ag.mk rfl (bG.mk s.entry[k] (by omega) (get_some ab) ?_)
     refine an (p:=s.entry[k]<0) (fun d1=>?_) (fun d1=>?_)
     ·exact .fwd 1 (.drop 0 1 (.done ⟨aQ (GZ hi hr (DA (by unfold dI;simp;omega))),rfl⟩))
     ·refine aa 0 ?_
      refine an (p:=s.n≤s.entry[k]) (fun d2=>?_) (fun d2=>?_)
      ·exact .fwd 1 (.drop 0 1 (.done ⟨aQ (GZ hi hr (DA (by unfold dI;simp;omega))),rfl⟩))
      ·exact a8 (k+1) (by show s.entry.length-(k+1)<s.entry.length-k;omega) ⟨ab,hs.trans (by unfold dI;simp;omega)⟩ ⟨rfl,rfl,rfl,rfl,aX (by have:=hf.AB;omega),trivial⟩ (.refl _)
    ·have ar:k=s.entry.length:=by have ar:¬(k:Int)<s.entry.length:=ar;omega
     subst ar
     rw[fj]at ha
     refine aa 0 ?_
     refine aa 0 ?_
     refine aa 0 ?_
     refine eb [] (H6 s.what s.w s.init _ hf.i64 (fD hf.Ds (by decide))) (fun cv=>?_) (fun cv=>?_)
     ·refine aa 0 ?_
      refine bV (S:=Nat) (fun k=>[(1,.ptr aD 0),(3,.int .i64 2),(66,.af kK s.T),(67,.int .i64 s.T.length),(68,.int .i64 k)]) (fun _=>(aD,bc s)::σ) (fun k=>k≤s.T.length∧((s.T.take k).any fun t=> !decide (ft s.what s.w t.1 t.2.1 t.2.2.1=0))=false) (fun k=>s.T.length-k) 0 ⟨⟨bA _,rfl⟩,⟨rfl,rfl,rfl,rfl,rfl,trivial⟩,rfl⟩ ?_
      rintro k g ⟨aL,jM⟩
      have hk:k≤s.T.length:=aL
      have ht:((s.T.take k).any fun t=> !decide (ft s.what s.w t.1 t.2.1 t.2.2.1=0))=false:=jM
      clear aL jM
      refine an (fun ab=>?_) (fun ar=>?_)
      ·have ab:k<s.T.length:=by have ab:(k:Int)<s.T.length:=ab;omega
       have hs:=qP ab fun t=> !decide (ft s.what s.w t.1 t.2.1 t.2.2.1=0)
       rw[ht,oK]at hs
       have ho:=hf.ts _ (bX ab)
       have hm:=bX ab
       obtain⟨t,fB⟩:∃t:mh,s.T[k]=t:=⟨_,rfl⟩
       rw[fB]at hs ho hm
       refine ag.mk rfl (bG.mk t (by omega) ((get_some ab).trans (congrArg some fB)) ?_)
       intro dH
       refine ak 0 ?_
       refine aa 1 ?_
       refine aa 1 ?_
       refine aa 0 ?_
       refine az [] (Ll s.what s.w t.1 t.2.1 t.2.2.1 _ ho.1 ho.2.1 ho.2.2.1 ho.2.2.2.1 (fD ho.2.2.2.2 (by decide))) ?_
       refine dB (fun d1=>?_) (fun d1=>?_)
       ·exact .fwd 1 (.drop 0 2 (.done ⟨aQ (Uf hi hr ha cv (mf.2 ⟨t,hm,d1⟩)),rfl⟩))
       ·exact a8 (k+1) (by show s.T.length-(k+1)<s.T.length-k;omega) ⟨ab,hs.trans d1⟩ ⟨rfl,rfl,rfl,rfl,aX (by have:=hf.Mp;omega),trivial⟩ (.drop 0 1 (.refl _))
      ·have ar:k=s.T.length:=by have ar:¬(k:Int)<s.T.length:=ar;omega
       subst ar
       rw[fj]at ht
       exact .drop 0 1 (.done ⟨aQ (Mf hi hr ha cv ht),rfl⟩)
     ·exact .fwd 1 (.drop 0 1 (.done ⟨aQ (UY hi hr ha cv),rfl⟩))
  ·exact .fwd 1 (.drop 0 1 (.done ⟨aQ (Ho hi fun h=>by rw[h.1]at cr;cases cr),rfl⟩))
end Go.Proofs.YtnikdflhefijbaaGreat
