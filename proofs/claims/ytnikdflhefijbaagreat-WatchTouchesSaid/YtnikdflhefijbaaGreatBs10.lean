import Derived.Test.YtnikdflhefijbaaGreatBs9
namespace Go.Proofs.YtnikdflhefijbaaGreat
open Go.RowKit
set_option maxRecDepth 100000
def oS(a:List Int)(r:oY):Int:=if r.1 = -1 then n5 r.2.1.1 r.2.1.2.1 else wd a r.1.toNat
def uL(a:List Int)(c:dN):Int:=if c.2.1 = -1 then 1 else qd c.2.1 (oS a c.2.2.1) (oS a c.2.2.2.1)
def yc(a:List Int)(c:dN):List Int:=a.set c.1.toNat (uL a c)
def kW(a:List Int)(l:List dN):List Int:=l.foldl yc a
theorem NL(a:List Int)(c:dN):(yc a c).length=a.length:=dY ..
theorem OZ(a:List Int)(l:List dN):(kW a l).length=a.length:=by
 unfold kW
 induction l generalizing a with
 |nil=>rfl
 |cons c l ih=>exact (ih _).trans (NL a c)
theorem aak(a:List Int)(l:List dN)(c:dN):kW a (l++[c])=yc (kW a l) c:=by
 unfold kW;rw[rE];rfl
theorem SS(x y:Int):bO (n5 x y):=by
 have h1:=E3 x y;have h2:=Jl x y;unfold bO n5;omega
theorem RG{a:List Int}(ha:bC a)(r:oY):bO (oS a r):=by
 unfold oS;split
 ·exact SS _ _
 ·exact pO ha _
theorem abK(op a b:Int):bO (tf op a b):=by
 unfold tf oV;split
 ·exact⟨by omega,by omega⟩
 ·split
  ·exact⟨by omega,by omega⟩
  ·split
   ·exact SS _ _
   ·exact⟨by omega,by omega⟩
theorem adI(op a b:Int):bO (qd op a b):=by unfold qd;split <;> exact abK _ _ _
theorem abW(a:List Int)(c:dN):bO (uL a c):=by
 unfold uL;split
 ·exact⟨by omega,by omega⟩
 ·exact adI _ _ _
theorem adr{a:List Int}(ha:bC a){i:Nat}{z:Int}(hz:bO z):bC (a.set i z):=fun x hx=>by
 rcases A7 hx with h | rfl
 ·exact ha x h
 ·exact hz
theorem S8{a:List Int}(ha:bC a)(l:List dN):bC (kW a l):=by
 unfold kW
 induction l generalizing a with
 |nil=>exact ha
 |cons c l ih=>exact ih (adr ha (abW a c))
theorem Jd{w:Int}{c:dN}(h:eD w c=true):0≤c.1∧c.1<w:=by
 unfold eD at h
 by_cases h1:c.1<0
 ·rw[az h1]at h;exact absurd h (by decide)
 ·by_cases h2:w≤c.1
  ·rw[aB h1,az h2]at h;exact absurd h (by decide)
  ·omega
theorem Ri{w:Int}{c:dN}(h:eD w c=true): -1≤c.2.1∧(¬c.2.1 = -1→pP w c.2.2.1=true∧pP w c.2.2.2.1=true):=by
 have hv:=Jd h;unfold eD at h;rw[aB (by omega),aB (by omega)]at h
 by_cases h1:c.2.1 < -1
 ·rw[az h1]at h;exact absurd h (by decide)
 ·rw[aB h1]at h
  by_cases h2:4<c.2.1
  ·rw[az h2]at h;exact absurd h (by decide)
  ·rw[aB h2]at h;refine⟨by omega,fun h3=>?_⟩;rw[aB h3]at h;exact Bool.and_eq_true_iff.1 h
theorem Ps{w:Int}{r:oY}(h:pP w r=true)(h1:¬r.1 = -1):0≤r.1∧r.1<w:=by
 unfold pP at h;rw[aB h1]at h;simp at h;exact h.1
theorem ah1(a:List Int)(r:oY)(q b:Nat)(σ:Hp)(hr:pP a.length r=true):ACalls Tryz.prog 330 [.agg (CE r),.ptr q 0] ((q,[.af b 0 a.length 1])::(b,aU a)::σ) (ay (.int .u64 (oS a r)) ((q,[.af b 0 a.length 1])::(b,aU a)::σ)):=by
 refine ao Tryz.func330 ?_;intro ax;refine aa 0 ?_;refine ai (fun c2=>?_) (fun c2=>?_)
 ·have c2:r.fst = -1:=c2;refine aa 0 ?_;refine aw [] (Gu _ _ _) ?_;have e:oS a r=n5 r.2.1.1 r.2.1.2.1:=az c2;exact .drop 0 1 (.done ⟨aQ e.symm,rfl⟩)
 ·have c2:¬(r.fst = -1):=c2;refine aa 1 ?_;refine aa 0 ?_;have hv:=Ps hr c2;have e:oS a r=wd a r.1.toNat:=aB c2;refine aF.mk ⟨rfl,hv.1,hv.2⟩ ?_;refine aS 2 rfl (Gt (i:=r.1.toNat) (by omega) (by omega)) ?_;exact .drop 0 1 (.done ⟨aQ e.symm,rfl⟩)
theorem UW(a:List Int)(n:Nat)(hn:a.length=n)(r:oY)(q b:Nat)(σ:Hp)(hr:pP n r=true):ACalls Tryz.prog 330 [.agg (CE r),.ptr q 0] ((q,[.af b 0 n 1])::(b,aU a)::σ) (ay (.int .u64 (oS a r)) ((q,[.af b 0 n 1])::(b,aU a)::σ)):=by
 subst hn;exact ah1 a r q b σ hr
theorem Sz(l:List Int)(σ:Hp)(hl:l.length≤1000000):ACalls Tryz.prog 256 [.ae (.int .u64) l] σ (fun x σ'=>∃acc,Acc 1 l.length x acc (aU l)∧σ'=acc++σ):=by
 refine Bq (fun h=>⟨?_,?_⟩) (fun h=>?_)
 ·subst h;refine ao Tryz.func256 ?_;exact .done ⟨[],.nil,rfl⟩
 ·subst h;refine ao Tryz.func256 ?_;intro b;refine AppendAt.more 0 b 0 0 [] _ rfl rfl (cj rfl) .gz (by decide) (by decide) (by decide) (fun b'=>?_);exact .done ⟨[(b',[])],.af b' 0 [] rfl,rfl⟩
 ·refine ao Tryz.func256 ?_;refine aF.mk (l9.2 h) ?_;intro b;refine AppendAt.more 0 b 0 l.length [] _ rfl rfl (cj rfl) (.ae (.int .u64) l rfl) (by omega) (by decide) (by decide) (fun b'=>?_);refine .done ⟨[(b',aU l)],?_,?_⟩
  ·rw[Nat.zero_add];exact .af b' l.length _ (by simp[aU])
  ·show (b',[]++l.flatMap (Sh.cells (.int .u64)))::σ=_;rw[nz];rfl
theorem agT(a:List Int)(l:List dN)(σ:Hp)(ha:bC a)(la:a.length≤10000)(ll:l.length≤1000000)(hl:l.all (eD a.length)=true):ACalls Tryz.prog 302 [.ae (.int .u64) a,.ae jg l] σ (ay (.ae (.int .u64) (kW a l)) σ):=by
 refine ao Tryz.func302 ?_;intro q;refine aa 0 ?_;refine .mk [] _ (Sz a _ (by omega)) ?_;rintro v σ' ⟨acc,bF,rfl⟩;generalize hn:a.length=n at bF la hl;generalize fU:aU a=cs at bF;cases bF with
 |nil=>
  have h0:a=[]:=fE.1 hn;subst h0;cases l with
  |cons c l=>
   have:=Jd (fq.1 hl c (cF ..));exact absurd this (by omega)
  |nil=>
   refine ah 0 ?_;refine bc (S:=Unit) (fun _=>[(2,.ptr q 0),(12,.int .i64 0),(13,.int .i64 0)]) (fun _=>(q,[.ag])::σ) (fun _=>True) (fun _=>0) () ⟨trivial,⟨rfl,rfl,rfl,trivial⟩,rfl⟩ ?_;rintro _ _ _;refine aa 0 ?_;exact .drop 0 1 (.nil (.nil _) (.done ⟨rfl,rfl⟩))
 |af b n cs h=>
 subst fU;refine ah 1 ?_;refine bc (S:=Nat) (fun s=>[(2,.ptr q 0),(5,.fn (.func 330) [] [.ptr q 0]),(11,.ae jg l),(12,.int .i64 l.length),(13,.int .i64 s)]) (fun s=>(b,aU (kW a (l.take s)))::(q,[.af b 0 n 1])::σ) (fun s=>s≤l.length) (fun s=>l.length-s) 0 ⟨aV _,⟨rfl,rfl,rfl,rfl,rfl,trivial⟩,rfl⟩ ?_;intro s t oc;have hs:s≤l.length:=oc;clear oc;have hA:bC (kW a (l.take s)):=S8 ha _;have hlen:(kW a (l.take s)).length=n:=(OZ a _).trans hn;refine ai (fun ab=>?_) (fun ak=>?_)
 ·have ab:s<l.length:=by have ab:(s:Int)<l.length:=ab;omega
  have hd:=aak a (l.take s) l[s];rw[← eM ab]at hd;have ph:=fq.1 hl l[s] (bU ab);obtain⟨c,hc⟩:∃c:dN,l[s]=c:=⟨_,rfl⟩
  rw[hc]at hd ph;have hv:=Jd ph;have ho:=Ri ph;refine aF.mk rfl (aY.mk c (by omega) ((get_some ab).trans (congrArg some hc)) ?_);clear hc ph;generalize kW a (l.take s)=A at hA hlen hd;intro bX;refine ah 0 ?_;refine aa 0 ?_;refine ai (p:=c.2.1 = -1) (fun d5=>?_) (fun d5=>?_)
  ·refine aa 2 ?_;refine aa 0 ?_;refine aH ?_;have xa:uL A c=1:=az d5;refine bM 1 rfl (s5 (i:=c.1.toNat) (by omega) _ (by omega)) ?_;refine aM (s+1) (by show l.length-(s+1)<l.length-s;omega) ab ⟨rfl,rfl,rfl,rfl,aI (by omega),trivial⟩ (.drop 0 1 (aL ?_));rw[hd,yc,xa];rfl
  ·have Hv:=ho.2 d5;have xa:uL A c=qd c.2.1 (oS A c.2.2.1) (oS A c.2.2.2.1):=aB d5;refine .sched [8,12,13] (upto [8,12,13] 16 0) (by kernel_rfl) ?_;refine aa 2 ?_;refine aa 0 ?_;refine aa 0 ?_;refine aa 0 ?_;refine aN [2,1] (UW A n hlen c.2.2.1 q b _ Hv.1) ?_;refine aa 0 ?_;refine aN [2,1] (UW A n hlen c.2.2.2.1 q b _ Hv.2) ?_;refine aN [] (ah2 _ _ _ _ (RG hA _) (RG hA _)) ?_;refine aH ?_;refine bM 1 rfl (s5 (i:=c.1.toNat) (by omega) _ (by omega)) ?_;refine aM (s+1) (by show l.length-(s+1)<l.length-s;omega) ab ⟨rfl,rfl,rfl,rfl,aI (by omega),trivial⟩ (.drop 0 1 (aL ?_));rw[hd,yc,xa];rfl
 ·have ak:s=l.length:=by have ak:¬(s:Int)<l.length:=ak;omega
  subst ak;rw[er]at hlen ⊢;refine aa 1 ?_
  have jc:((aU (kW a l)).drop 0).take (n*1)=(kW a l).flatMap (Sh.cells (.int .u64)):=by
   rw[fy,← nz];exact dZ (by rw[aU,cN];omega)
  exact .cb 0 b 0 n 1 _ (.int .u64) (kW a l) rfl jc ⟨hlen,rfl,by decide⟩ .here (.drop 0 1 (.done ⟨rfl,rfl⟩))
def nF(what:Int)(g k:List Int)(l:List dN)(a:List Int):List Int:=
 if what=3 then (if (a.any fun z=>decide (0=z))=true then List.replicate a.length 0 else kW a l) else fO lZ (fO jv a k) g
theorem O4{what:Int}(h:¬what=3)(g k:List Int)(l:List dN)(a:List Int):nF what g k l a=fO lZ (fO jv a k) g:=aB h
theorem Oj{what:Int}(h:what=3){a:List Int}(h0:(a.any fun z=>decide (0=z))=true)(g k:List Int)(l:List dN):nF what g k l a=List.replicate a.length 0:=by unfold nF;rw[az h,az h0]
theorem P7{what:Int}(h:what=3){a:List Int}(h0:(a.any fun z=>decide (0=z))=false)(g k:List Int)(l:List dN):nF what g k l a=kW a l:=by unfold nF;rw[az h,h0];rfl
def uP(what w:Int)(g k:List Int)(l:List dN)(a:List Int):Int:=if fm what w g k l=0 then (if dm what w a=true then 0 else 2) else fm what w g k l
theorem aah{what w:Int}{g k:List Int}{l:List dN}{a:List Int}(h:¬fm what w g k l=0):uP what w g k l a=fm what w g k l:=aB h
theorem FE{what w:Int}{g k:List Int}{l:List dN}{a:List Int}(h:fm what w g k l=0)(hv:dm what w a=true):uP what w g k l a=0:=by unfold uP;rw[az h,az hv]
theorem aag{what w:Int}{g k:List Int}{l:List dN}{a:List Int}(h:fm what w g k l=0)(hv:dm what w a=false):uP what w g k l a=2:=by unfold uP;rw[az h,hv];rfl
theorem JD{what w:Int}{g k:List Int}{l:List dN}(h:fm what w g k l=0):df what w=true∧wI what w g k l=true:=by
 unfold fm at h;cases hi:df what w with
 |false=>rw[hi]at h;exact absurd h (by simp)
 |true=>
  rw[hi,az rfl]at h;cases ht:wI what w g k l with
  |false=>rw[ht]at h;exact absurd h (by simp)
  |true=>exact⟨rfl,rfl⟩
theorem XH{what w:Int}{a:List Int}(h:dm what w a=true)(h3:what=3):(a.length:Int)=w:=by
 have hl:=zp h;have hi:df what w=true:=by unfold dm at h;simp at h;exact h.1.1
 rw[hl];unfold ez;rw[az hi,az h3]
theorem aas{what w:Int}{a:List Int}(h:dm what w a=true)(h3:what=3):iq what w=List.replicate a.length 0:=by
 unfold iq;rw[aB (fun h=>by omega),← zp h,bD]
theorem Si(what w:Int)(g k:List Int)(l:List dN)(a:List Int)(σ:Hp)(hg:bC g)(hk:bC k)(ha:bC a)(lg:g.length≤10000)(lk:k.length≤10000)(la:a.length≤10000)(ll:l.length≤1000000):ACalls Tryz.prog 276 [.int .i64 what,.int .i64 w,.agg (Da g k l),.ae (.int .u64) a] σ (ay (.tup [.ae (.int .u64) (sj (uP what w g k l a) (nF what g k l a)),.int .i64 (uP what w g k l a)]) σ):=by
 refine ao Tryz.func276 ?_;have hm:(fO jv a k).length≤10000:=by rw[sL];omega
 intro ax;refine aa 0 ?_;refine aw [] (Ka what w g k l _ hg hk lg lk ll) ?_;refine cO (fun c2=>?_) (fun c2=>?_)
 ·have c2:¬(fm what w g k l=0):=by simpa using c2
  rw[aah c2,BO c2];exact .nil (bZ (.nil _) (.refl _)) (.drop 0 1 (.done ⟨rfl,rfl⟩))
 ·have c2:fm what w g k l=0:=by simpa using c2
  refine dc [] (Ap what w a _ ha (by omega)) (fun cV=>?_) (fun cV=>?_)
  ·refine cO (fun c3=>?_) (fun c3=>?_)
   ·have c3:¬(what=3):=by simpa using c3
    refine .quiet (by kernel_rfl) ?_;refine aa 0 ?_;refine aN [] (Tl a k _ (by omega) (by omega)) ?_;refine aa 0 ?_;refine aN [] (aek (fO jv a k) g _ (by omega) (by omega)) ?_;rw[FE c2 cV,ui rfl,O4 c3];exact .drop 0 1 (.done ⟨rfl,rfl⟩)
   ·have c3:what=3:=by simpa using c3
    refine dc [] (Xy a 0 _ (by omega)) (fun cZ=>?_) (fun cZ=>?_)
    ·refine aw [] (Fk what w _) ?_;rw[FE c2 cV,ui rfl,Oj c3 cZ,← aas cV c3];exact .drop 0 1 (.done ⟨rfl,rfl⟩)
    ·refine aa 0 ?_
     have hal:l.all (eD a.length)=true:=by
      have ht:=(JD c2).2;rw[uW c3,bS]at ht;rw[XH cV c3];exact ht.2
     rw[FE c2 cV,ui rfl,P7 c3 cZ];refine aw [] (agT a l _ ha la ll hal) ?_;exact .drop 0 1 (.done ⟨rfl,rfl⟩)
  ·rw[aag c2 cV,BO (by decide)];exact .nil (bZ (.nil _) (.refl _)) (.drop 0 1 (.done ⟨rfl,rfl⟩))
def nZ(a:List Int)(i k:Nat):Bool:=(wd a i).toNat.testBit k
theorem Jk(k:Nat):(0:Int).toNat.testBit k=false:=Nat.zero_testBit k
theorem TF(a b:List Int):bC (fO lZ a b):=Kg fun _ _=>adF _ _
theorem adE{a b:List Int}(ha:bC a)(hb:bC b)(i k:Nat):nZ (fO lZ a b) i k=(nZ a i k||nZ b i k):=by
 unfold nZ
 rcases sx i (max a.length b.length) with h | h
 ·rw[BG _ _ _ h,RU (pO ha i) (pO hb i)]
 ·rw[xY (by rw[sL];exact h),xY (a:=a) (by omega),xY (a:=b) (by omega),Jk];rfl
theorem aed{a b:List Int}(ha:bC a)(hb:bC b)(i:Nat){k:Nat}(hk:k<64):nZ (fO jv a b) i k=(nZ a i k&&!nZ b i k):=by
 unfold nZ
 rcases sx i (max a.length b.length) with h | h
 ·rw[BG _ _ _ h,J5 (pO ha i) (pO hb i) hk]
 ·rw[xY (by rw[sL];exact h),xY (a:=a) (by omega),Jk];rfl
theorem sR{a:List Int}{w:Int}(h:fw a w=true):a.length=dS w:=by
 unfold fw at h;rw[bS]at h;exact eX h.1
theorem ud{a:List Int}{w:Int}(ha:bC a)(hl:a.length=dS w):fw a w=true↔∀i k,i<a.length→k<64→eF w≤64*i+k→nZ a i k=false:=by
 rw[Ja ha hl];unfold hasB nZ;constructor
 ·intro h i k hi hk hc;have:=h (64*i+k) hc (by omega);rw[show (64*i+k) / 64=i by omega,show (64*i+k) % 64=k by omega]at this;exact this
 ·intro h n h1 h2;exact h (n / 64) (n % 64) (by omega) (by omega) (by omega)
theorem abJ{a b:List Int}{w:Int}(ha:bC a)(hb:bC b)(fa:fw a w=true)(fb:fw b w=true):fw (fO lZ a b) w=true:=by
 have la:=sR fa;have lb:=sR fb;have hl:(fO lZ a b).length=dS w:=by rw[sL];omega
 rw[ud (TF _ _) hl];intro i k hi hk hc;rw[adE ha hb,(ud ha la).1 fa i k (by omega) hk hc,(ud hb lb).1 fb i k (by omega) hk hc];rfl
theorem acx{a b:List Int}{w:Int}(ha:bC a)(hb:bC b)(fa:fw a w=true)(lb:b.length≤dS w):fw (fO jv a b) w=true:=by
 have la:=sR fa;have hl:(fO jv a b).length=dS w:=by rw[sL];omega
 rw[ud (E8 _ _) hl];intro i k hi hk hc;rw[aed ha hb i hk,(ud ha la).1 fa i k (by omega) hk hc];rfl
def NZ(a:List Int):Prop:=∀z∈a,cc z=z∧z≠0
theorem SA{a:List Int}{i:Nat}(h:i<a.length):wd a i∈a:=by rw[mg a h];exact bU h
theorem QL(x y:Int):cc (n5 x y)=n5 x y∧n5 x y≠0:=⟨norm_num (adK x y),by have:=adL x y;omega⟩
theorem RF{a:List Int}(h:NZ a){r:oY}(hr:pP a.length r=true):cc (oS a r)=oS a r∧oS a r≠0:=by
 unfold oS;split
 ·exact QL _ _
 ·rename_i h1
  have hv:=Ps hr h1;exact h _ (SA (by omega))
theorem abz(op a b:Int):cc (oV op a b)=oV op a b∧oV op a b≠0:=by
 unfold oV;split
 ·exact QL _ _
 ·exact⟨rfl,by decide⟩
theorem RV(op:Int){a b:Int}(ha:cc a≠0)(hb:cc b≠0):cc (tf op a b)=tf op a b∧tf op a b≠0:=by
 unfold tf;rw[aB (by omega)];split
 ·exact⟨rfl,by decide⟩
 ·exact abz _ _ _
theorem adH(op:Int){a b:Int}(ha:cc a≠0)(hb:cc b≠0):cc (qd op a b)=qd op a b∧qd op a b≠0:=by
 unfold qd;split
 ·exact RV _ ha (by rw[QO];decide)
 ·exact RV _ ha hb
theorem abV{a:List Int}(h:NZ a){c:dN}(hc:eD a.length c=true):cc (uL a c)=uL a c∧uL a c≠0:=by
 unfold uL;split
 ·exact⟨rfl,by decide⟩
 ·rename_i h1
  have ho:=(Ri hc).2 h1;have h1:=RF h ho.1;have h2:=RF h ho.2;exact adH _ (by rw[h1.1];exact h1.2) (by rw[h2.1];exact h2.2)
theorem Zp{a:List Int}(h:NZ a){c:dN}(hc:eD a.length c=true):NZ (yc a c):=fun z hz=>by
 rcases A7 hz with h' | rfl
 ·exact h z h'
 ·exact abV h hc
theorem aal(a:List Int)(c:dN)(l:List dN):kW a (c::l)=kW (yc a c) l:=rfl
theorem all_cons{α:Type}{p:α→Bool}{c:α}{l:List α}(h:(c::l).all p=true):p c=true∧l.all p=true:=by
 rw[List.all_cons,bS]at h;exact h
theorem S7:∀{l:List dN} {a:List Int},NZ a→l.all (eD a.length)=true→NZ (kW a l)
 | [],_,h,_=>h
 |c::l,a,h,hl=>by
  have hl:=all_cons hl;rw[aal];exact S7 (Zp h hl.1) (by rw[NL];exact hl.2)
theorem SD{what w:Int}{g k:List Int}{l:List dN}(h:fm what w g k l=0)(h3:¬what=3):fw g w=true∧fw k w=true∧l=[]:=by
 have h:=(JD h).2;rw[qa h3,bS,bS]at h;exact⟨h.1.2,h.2,fE.1 (eX h.1.1)⟩
theorem abq{what w:Int}{g k:List Int}{l:List dN}(h:fm what w g k l=0)(h3:what=3):g=[]∧k=[]∧l.all (eD w)=true:=by
 have h:=(JD h).2;rw[uW h3,bS]at h;have h0:=eX h.1;exact⟨fE.1 (by omega),fE.1 (by omega),h.2⟩
theorem Pd{what w:Int}(hi:df what w=true)(h3:¬what=3):ez what w=dS w:=by unfold ez;rw[az hi,aB h3]
theorem Ot{what w:Int}(hi:df what w=true)(h3:what=3):ez what w=w:=by unfold ez;rw[az hi,az h3]
theorem B5{what w:Int}{a:List Int}(h:dm what w a=true):df what w=true:=by unfold dm at h;rw[bS,bS]at h;exact h.1.1
theorem ug{what w:Int}{a:List Int}(hi:df what w=true)(h3:¬what=3):dm what w a=true↔fw a w=true:=by
 unfold dm;rw[aB h3,hi,yU,bS,Pd hi h3];refine⟨fun h=>h.2,fun h=>⟨aX ?_,h⟩⟩;rw[sR h]
theorem v7{what w:Int}{a:List Int}(hi:df what w=true)(h3:what=3):dm what w a=true↔(a.length:Int)=w∧okW a=true:=by
 unfold dm;rw[az h3,hi,yU,bS,Ot hi h3,decide_eq_true_eq]
theorem zx{a:List Int}:okW a=true↔∀z∈a,cc z=z:=by unfold okW;rw[fq];exact forall₂_congr fun _ _=>decide_eq_true_iff
theorem any_zero{a:List Int}:(a.any fun z=>decide (0=z))=true↔0∈a:=by
 rw[kr];exact⟨fun ⟨z,hz,h⟩=>(eX h)▸hz,fun h=>⟨0,h,aX rfl⟩⟩
theorem aeW{a:List Int}(h:okW a=true)(h0:(a.any fun z=>decide (0=z))=false):NZ a:=fun z hz=>⟨zx.1 h z hz,fun e=>by subst e;rw[any_zero.2 hz]at h0;exact Bool.noConfusion h0⟩
theorem QJ(n:Nat):okW (List.replicate n 0)=true:=zx.2 fun z hz=>by rw[(MX.1 hz).2];rfl
theorem Ki(n:Nat):bC (List.replicate n (0:Int)):=fun z hz=>by rw[(MX.1 hz).2];exact⟨by omega,by omega⟩
theorem YQ{what:Int}{g k:List Int}{l:List dN}{a:List Int}(ha:bC a):bC (nF what g k l a):=by
 unfold nF;split
 ·split
  ·exact Ki _
  ·exact S8 ha l
 ·exact TF _ _
theorem Vm{what w:Int}{g k:List Int}{l:List dN}{a:List Int}(hc:fm what w g k l=0)(hv:dm what w a=true):(nF what g k l a).length=a.length:=by
 unfold nF;split
 ·split
  ·exact gh
  ·exact OZ _ _
 ·rename_i h3
  have hf:=SD hc h3;have h1:=sR hf.1;have h2:=sR hf.2.1;have h3:=sR ((ug (B5 hv) h3).1 hv);rw[sL,sL];omega
theorem YP{what w:Int}{g k:List Int}{l:List dN}{a:List Int}(hg:bC g)(hk:bC k)(ha:bC a)(hc:fm what w g k l=0)(hv:dm what w a=true):dm what w (nF what g k l a)=true:=by
 have hi:=B5 hv
 by_cases h3:what=3
 ·have vk:=(v7 hi h3).1 hv;rw[v7 hi h3,Vm hc hv];refine⟨vk.1,?_⟩;have hl:=(abq hc h3).2.2;cases hz:a.any fun z=>decide (0=z) with
  |true=>rw[Oj h3 hz];exact QJ _
  |false=>
   rw[P7 h3 hz];exact zx.2 fun z hm=>(S7 (aeW vk.2 hz) (by rw[vk.1];exact hl) z hm).1
 ·have hf:=SD hc h3;have vk:=(ug hi h3).1 hv;rw[ug hi h3,O4 h3];exact abJ (E8 _ _) hg (acx ha hk vk (vG (sR hf.2.1))) hf.1
theorem ac3{what:Int}{a b:List Int}{i:Nat}(h:i<a.length)(h2:i<b.length):wd (gl what a b) i=kc what (wd a i) (wd b i):=by
 have hj:i<(gl what a b).length:=by unfold gl;rw[D6];omega
 rw[mg _ hj,mg _ h,mg _ h2];simp[gl]
theorem OO(a b:Int):cc (s8 a b)=s8 a b:=by
 have hn:∀w,cc (cc w)=cc w:=fun w=>by
  unfold cc
  by_cases h0:w=0
  ·simp[h0]
  ·by_cases h1:w=1
   ·simp[h1]
   ·cases hk:fI w with
    |true=>simp[h0,h1,hk]
    |false=>simp[h0,h1]
 unfold s8;split
 ·exact hn _
 ·split
  ·exact hn _
  ·rfl
theorem QY{what:Int}{a b:List Int}(h:a.length=b.length):(gl what a b).length=a.length:=by unfold gl;rw[D6];omega
theorem Z4{a b:List Int}:okW (gl 3 a b)=true:=zx.2 fun z hz=>by
 obtain⟨i,hi,rfl⟩:=vK.1 hz;simp only[gl,M3];exact OO _ _
theorem abU{a:List Int}(h:okW a=true){i:Nat}(hi:i<a.length):cc (wd a i)=wd a i:=zx.1 h _ (SA hi)
def LN(what:Int)(x y:Bool):Bool:=if what=1 then x||y else x&&y
theorem aeh{x y:Int}(hx:bO x)(hy:bO y)(k:Nat):(bits .and .u64 x y).toNat.testBit k=(x.toNat.testBit k&&y.toNat.testBit k):=by
 have e:bits .and .u64 x y=((BitVec.ofInt 64 x &&& BitVec.ofInt 64 y).toNat:Int):=by
  show IntKind.u64.wrap _=_;exact x7 (BitVec.isLt _)
 rw[e,bD,BitVec.toNat_and,HO,toNat_ofInt hx,toNat_ofInt hy]
theorem adS{what w:Int}(hi:df what w=true)(h3:¬what=3):what=1∨what=2:=by
 unfold df at hi;simp at hi;omega
theorem Z5{what:Int}(h:what=1∨what=2){a b:List Int}(ha:bC a)(hb:bC b)(hl:a.length=b.length)(i k:Nat)(hi:i<a.length):nZ (gl what a b) i k=LN what (nZ a i k) (nZ b i k):=by
 unfold nZ LN;rw[ac3 hi (by omega)]
 rcases h with rfl | rfl
 ·rw[az rfl];exact RU (pO ha i) (pO hb i) k
 ·rw[aB (by decide)];exact aeh (pO ha i) (pO hb i) k
theorem Ym{what w:Int}(h:what=1∨what=2){a b:List Int}(ha:bC a)(hb:bC b)(fa:fw a w=true)(fb:fw b w=true):fw (gl what a b) w=true:=by
 have la:=sR fa;have lb:=sR fb;have hl:=QY (what:=what) (la.trans lb.symm);rw[ud (JW ha hb) (hl.trans la)];intro i k hi hk hc;rw[hl]at hi;rw[Z5 h ha hb (la.trans lb.symm) i k hi,(ud ha la).1 fa i k hi hk hc,(ud hb lb).1 fb i k (by omega) hk hc];unfold LN;split <;> rfl
theorem Z3{what w:Int}{a b:List Int}(ha:bC a)(hb:bC b)(va:dm what w a=true)(vb:dm what w b=true):dm what w (gl what a b)=true:=by
 have hi:=B5 va
 by_cases h3:what=3
 ·subst h3;have v1:=(v7 hi rfl).1 va;have v2:=(v7 hi rfl).1 vb;rw[v7 hi rfl,QY (by omega)];exact⟨v1.1,Z4⟩
 ·rw[ug hi h3];exact Ym (adS hi h3) ha hb ((ug hi h3).1 va) ((ug hi h3).1 vb)
theorem YI{what w:Int}{a b:List Int}(va:dm what w a=true)(vb:dm what w b=true):qK what w [a,b]=0:=by
 unfold qK;rw[az (B5 va)];simp[va,vb]
theorem Xr{f:FuncId}{xs:List AV}{σ:Hp}{R R':AV→Hp→Prop}(h:ACalls Tryz.prog f xs σ R)(hv:∀r σ',R r σ'→r.leaf=true∧R' (.via r) σ'):ACalls Tryz.prog f xs σ R':=
 ⟨h.1,fun F w vs bY aG=>(h.2 F w vs bY aG).mono fun _ _ ⟨r,v,σ',F',h1,h2,h3,h4,h5⟩=>⟨.via r,v,σ',F',h1,h2,h3,.via _ _ (hv r σ' h5).1 h4,(hv r σ' h5).2⟩⟩
theorem Gl{n:Int}(h:bO n):bC [n]:=fun z hz=>by rw[bj.1 hz];exact h
theorem EL{f:FuncId}{xs ys:List AV}{σ:Hp}{R:AV→Hp→Prop}(h:eB 0 0 0 0 .bool [] (.tup xs) (.tup ys))(hc:ACalls Tryz.prog f ys σ R):ACalls Tryz.prog f xs σ R:=
 ⟨hc.1,fun F w vs bY aG=>hc.2 F w vs (by
  have:=xI (.refl F w) (fun v hv=>by
   obtain⟨a,cap,rfl,c,T,fz,m1,m2,m3,m4⟩:=hv.kK
   exact .ae _ _ _ ⟨some a,cap,rfl,m2,m3,(fun e=>by cases e),fun bf=>absurd rfl bf⟩) h (.tuple vs) (.tup xs vs bY.1 bY.2)
  cases this with
  |tup _ _ h1 h2=>exact⟨h1,h2⟩) aG⟩
theorem Y1(what w:Int)(g k:List Int)(l:List dN)(a:List Int)(σ:Hp)(hg:bC g)(hk:bC k)(ha:bC a)(lg:g.length≤10000)(lk:k.length≤10000)(la:a.length≤10000)(ll:l.length≤1000000)(hc:fm what w g k l=0)(hv:dm what w a=true):ACalls Tryz.prog 276 [.int .i64 what,.int .i64 w,.agg (Da g k l),.ae (.int .u64) a] σ (ay (.tup [.ae (.int .u64) (nF what g k l a),.int .i64 0]) σ):=by
 have h:=Si what w g k l a σ hg hk ha lg lk la ll;rw[FE hc hv,ui rfl]at h;exact h
theorem aaR(what w:Int)(xs ys:List Int)(σ:Hp)(hx:bC xs)(hy:bC ys)(lx:xs.length≤1000000)(ly:ys.length≤1000000)(vx:dm what w xs=true)(vy:dm what w ys=true):ACalls Tryz.prog 243 [.int .i64 what,.int .i64 w,.ae (.int .u64) xs,.ae (.int .u64) ys] σ (ay (.tup [.ae (.int .u64) (gl what xs ys),.int .i64 0]) σ):=by
 have h:=To what w xs ys σ hx hy lx ly;rw[YI vx vy,ui rfl]at h;exact h
abbrev cg:Sh:=.field (.int .i64) (.field (.int .i64) .nil)
abbrev aO:Type:=Int×Int×Unit
abbrev lC:Type:=List Int×List Int×List dN×Unit
abbrev TB:Sh:=.field (.int .i64) (.field (.int .i64) (.field (.int .i64) (.field (.slice cg) (.field (.slice (.int .i64)) (.field (.slice (.int .u64)) (.field (.slice j9) .nil))))))
structure Sy where
 what:Int
 w:Int
 n:Int
 cd:List aO
 entry:List Int
 init:List Int
 T:List lC
abbrev aP(s:Sy):List AV:=[.int .i64 s.what,.int .i64 s.w,.int .i64 s.n,.ae cg s.cd,.ae (.int .i64) s.entry,.ae (.int .u64) s.init,.ae j9 s.T]
def afZ(x:TB.T):Sy:=⟨x.1,x.2.1,x.2.2.1,x.2.2.2.1,x.2.2.2.2.1,x.2.2.2.2.2.1,x.2.2.2.2.2.2.1⟩
def okT(t:lC):Prop:=bC t.1∧bC t.2.1∧t.1.length≤10000∧t.2.1.length≤10000∧t.2.2.1.length≤100000
structure Fit(s:Sy):Prop where
 i64:bC s.init
 CL:s.init.length≤10000
 wQ:s.cd.length≤100000
 wK:s.entry.length≤100000
 uH:s.T.length≤100000
 ts:∀t∈s.T,okT t
def cH(n a:Int):Bool:=decide (0≤a)&&decide (a<n)
theorem GF(n a:Int)(σ:Hp):ACalls Tryz.prog 206 [.int .i64 n,.int .i64 a] σ (ay (.bool (cH n a)) σ):=by
 refine ao Tryz.func206 ?_;refine ai (fun c1=>?_) (fun c1=>?_)
 ·have c1:0≤a:=c1;refine ai (fun c2=>?_) (fun c2=>?_)
  ·have c2:a<n:=c2;exact .done ⟨bJ (by unfold cH;simp;omega),rfl⟩
  ·have c2:¬(a<n):=c2;exact .done ⟨bJ (by unfold cH;simp;omega),rfl⟩
 ·have c1:¬(0≤a):=c1;exact .done ⟨bJ (by unfold cH;simp;omega),rfl⟩
def z7(e:aO):AV:=.agg [.int .i64 e.1,.int .i64 e.2.1]
theorem acR(n:Int)(e:aO)(q:Nat)(σ:Hp):ACalls Tryz.prog 205 [z7 e,.ptr q 0] ((q,[.int .i64 n])::σ) (ay (.bool (!(cH n e.1&&cH n e.2.1))) ((q,[.int .i64 n])::σ)):=by
 refine ao Tryz.func205 ?_;unfold z7;intro ax;refine aa 1 ?_;refine aa 0 ?_;refine dc [] (GF n e.1 _) (fun c1=>?_) (fun c1=>?_)
 ·refine aa 1 ?_;refine aa 0 ?_;refine dc [] (GF n e.2.1 _) (fun c2=>?_) (fun c2=>?_)
  ·exact .drop 0 1 (.done ⟨bJ (by rw[c1,c2];rfl),rfl⟩)
  ·exact .drop 0 1 (.done ⟨bJ (by rw[c1,c2];rfl),rfl⟩)
 ·exact .drop 0 1 (.done ⟨bJ (by rw[c1];rfl),rfl⟩)
theorem aaU(g:Nat)(cap:List AV)(l:List (Sh.T cg))(p:Sh.T cg→Bool)(σ:Hp)(hl:l.length≤1000000)(hg:∀(i:Nat) (hi:i<l.length),ACalls Tryz.prog g (z7 l[i]::cap) σ (ay (.bool (p l[i])) σ)):ACalls Tryz.prog 252 [.ae cg l,.fn (.func g) [] cap] σ (fun r σ'=>∃n:Int,r=.int .i64 n∧σ'=σ∧decide (0≤n)=l.any p):=by
 refine ao Tryz.func252 ?_;refine bc (S:=Nat) (fun s=>[(0,.ae cg l),(1,.fn (.func g) [] cap),(7,.int .i64 l.length),(8,.int .i64 s)]) (fun _=>σ) (fun s=>s≤l.length∧(l.take s).any p=false) (fun s=>l.length-s) 0 ⟨⟨aV _,rfl⟩,⟨rfl,rfl,rfl,rfl,trivial⟩,rfl⟩ ?_;rintro k t ⟨aK,ep⟩;have hk:k≤l.length:=aK;have hn:(l.take k).any p=false:=ep;clear aK ep;refine ai (fun ab=>?_) (fun ak=>?_)
 ·have ab:k<l.length:=by have ab:(k:Int)<l.length:=ab;omega
  have hs:=mH ab p;rw[hn,l8]at hs;refine aF.mk rfl (aY.mk l[k] (by omega) (get_some ab) ?_);refine dc [] (hg k ab) (fun c=>?_) (fun c=>?_)
  ·have hp:l.any p=true:=kr.2 ⟨l[k],bU ab,c⟩;exact .done ⟨_,rfl,rfl,by rw[hp];exact aX (by omega)⟩
  ·exact aM (k+1) (by show l.length-(k+1)<l.length-k;omega) ⟨ab,hs.trans c⟩ ⟨rfl,rfl,rfl,aI (by omega),trivial⟩ (.refl _)
 ·have ak:k=l.length:=by have ak:¬(k:Int)<l.length:=ak;omega
  subst ak;rw[er]at hn;exact .done ⟨_,rfl,rfl,by rw[hn];rfl⟩
theorem Oo(g:Nat)(cap:List AV)(l:List (Sh.T cg))(p:Sh.T cg→Bool)(σ:Hp)(hl:l.length≤1000000)(hg:∀(i:Nat) (hi:i<l.length),ACalls Tryz.prog g (z7 l[i]::cap) σ (ay (.bool (p l[i])) σ)):ACalls Tryz.prog 204 [.ae cg l,.fn (.func g) [] cap] σ (ay (.bool (l.any p)) σ):=by
 refine ao Tryz.func204 ?_;refine .mk [] _ (aaU g cap l p _ hl hg) ?_;rintro _ _ ⟨n,rfl,rfl,hn⟩;rw[← hn];refine ai (fun c=>?_) (fun c=>?_)
 ·have c:0≤n:=c;rw[aX c];exact .done ⟨rfl,rfl⟩
 ·have c:¬0≤n:=c;rw[cp c];exact .done ⟨rfl,rfl⟩
def eA(n:Int)(l:List aO):Bool:=decide (1≤n)&&decide (n≤256)&&decide (l.length≤1024)&&l.all fun e=>cH n e.1&&cH n e.2.1
theorem T9{n:Int}(l:List aO){b:Bool}(h:(l.any fun e=> !(cH n e.1&&cH n e.2.1))=b):(l.all fun e=>cH n e.1&&cH n e.2.1) = !b:=by rw[B0,h]
theorem Cd(n:Int)(l:List aO)(σ:Hp)(hl:l.length≤1000000):ACalls Tryz.prog 150 [.int .i64 n,.ae cg l] σ (ay (.bool (eA n l)) σ):=by
 refine ao Tryz.func150 ?_;intro ax;refine aa 0 ?_;refine ai (fun c2=>?_) (fun c2=>?_)
 ·have c2:n<1:=c2;exact .drop 0 1 (.done ⟨bJ (by unfold eA;simp;omega),rfl⟩)
 ·have c2:¬(n<1):=c2;refine aa 0 ?_;refine ai (fun c3=>?_) (fun c3=>?_)
  ·have c3:256<n:=c3;exact .drop 0 1 (.done ⟨bJ (by unfold eA;simp;omega),rfl⟩)
  ·have c3:¬(256<n):=c3;refine ai (fun c4=>?_) (fun c4=>?_)
   ·have c4:1024<(↑l.length:Int):=c4;exact .drop 0 1 (.done ⟨bJ (by unfold eA;simp;omega),rfl⟩)
   ·have c4:¬(1024<(↑l.length:Int)):=c4;refine dc [] (Oo 205 [.ptr ax 0] l (fun e=> !(cH n e.1&&cH n e.2.1)) _ hl (fun i hi=>acR n l[i] ax _)) (fun cL=>?_) (fun cL=>?_)
    ·exact .drop 0 1 (.done ⟨bJ (by unfold eA;rw[T9 l cL];simp),rfl⟩)
    ·exact .drop 0 1 (.done ⟨bJ (by unfold eA;rw[T9 l cL];simp;omega),rfl⟩)
def kE(what w:Int):Int:=if df what w=true then (if what=3 then 2*w else w) else 0
theorem Fj(what w:Int)(σ:Hp):ACalls Tryz.prog 131 [.int .i64 what,.int .i64 w] σ (ay (.int .i64 (kE what w)) σ):=by
 refine ao Tryz.func131 ?_;refine dc [] (C3 what w _) (fun c0=>?_) (fun c0=>?_)
 ·refine ai (fun c1=>?_) (fun c1=>?_)
  ·have c1:what=3:=c1;exact .done ⟨aQ (by unfold df at c0;simp at c0;unfold kE;rw[if_pos (qJ (by omega)),if_pos c1,jF (by omega)]),rfl⟩
  ·have c1:¬(what=3):=c1;exact .done ⟨aQ (by unfold kE;rw[az c0,aB c1]),rfl⟩
 ·exact .done ⟨aQ (by unfold kE;rw[c0];rfl),rfl⟩
theorem Ys(w:Int):fw (fu w) w=true:=by
 unfold fw;rw[aX (ny w),yU,fq];intro i hi;have hi:=gP.1 hi;rw[ny]at hi;rw[decide_eq_true_eq,Ff w hi,bD];have:=AU (min 64 (eF w-64*i));omega
theorem J4{what w:Int}(h:df what w=true):dm what w (iq what w)=true:=by
 by_cases h3:what=3
 ·rw[v7 h h3];unfold iq;rw[aB (fun h=>by omega),Ot h h3];unfold df at h;simp at h;exact⟨by rw[gh];omega,QJ _⟩
 ·rw[ug h h3];unfold iq;split
  ·exact Ys w
  ·rw[Pd h h3,bD];refine (ud (Ki _) gh).2 fun i k hi _ _=>?_;unfold nZ;rw[mg _ hi,List.getElem_replicate];exact Jk k
theorem Ks(what w:Int):bC (iq what w):=by
 unfold iq;split
 ·exact Q5 w
 ·exact Ki _
theorem acs(what w:Int):(iq what w).length≤1024:=by
 unfold iq;split
 ·rw[ny];have:=xU w;omega
 ·rw[gh];have:=xQ what w;omega
def cx(s:Sy):Int:=if df s.what s.w=true then (if eA s.n s.cd=true∧(s.T.length:Int)=s.n then (if (s.entry.any fun v=> !cH s.n v)=true then 1 else if dm s.what s.w s.init=true then (if (s.T.any fun t=> !decide (fm s.what s.w t.1 t.2.1 t.2.2.1=0))=true then 2 else 0) else 2) else 1) else 10
theorem S9{s:Sy}(h:df s.what s.w=false):10=cx s:=by unfold cx;rw[h];rfl
theorem Aa{s:Sy}(hi:df s.what s.w=true)(h:¬(eA s.n s.cd=true∧(s.T.length:Int)=s.n)):1=cx s:=by unfold cx;rw[az hi,aB h]
theorem zO{s:Sy}(hi:df s.what s.w=true)(h:eA s.n s.cd=true∧(s.T.length:Int)=s.n)(he:(s.entry.any fun v=> !cH s.n v)=true):1=cx s:=by unfold cx;rw[az hi,az h,az he]
theorem KV{s:Sy}(hi:df s.what s.w=true)(h:eA s.n s.cd=true∧(s.T.length:Int)=s.n)(he:(s.entry.any fun v=> !cH s.n v)=false)(hv:dm s.what s.w s.init=false):2=cx s:=by unfold cx;rw[az hi,az h,he,hv];rfl
theorem Kq{s:Sy}(hi:df s.what s.w=true)(h:eA s.n s.cd=true∧(s.T.length:Int)=s.n)(he:(s.entry.any fun v=> !cH s.n v)=false)(hv:dm s.what s.w s.init=true)(ht:(s.T.any fun t=> !decide (fm s.what s.w t.1 t.2.1 t.2.2.1=0))=true):2=cx s:=by unfold cx;rw[az hi,az h,he,hv,ht];rfl
theorem Gx{s:Sy}(hi:df s.what s.w=true)(h:eA s.n s.cd=true∧(s.T.length:Int)=s.n)(he:(s.entry.any fun v=> !cH s.n v)=false)(hv:dm s.what s.w s.init=true)(ht:(s.T.any fun t=> !decide (fm s.what s.w t.1 t.2.1 t.2.2.1=0))=false):0=cx s:=by unfold cx;rw[az hi,az h,he,hv,ht];rfl
theorem xT(s:Sy)(σ:Hp)(hf:Fit s):ACalls Tryz.prog 84 [.agg (aP s)] σ (ay (.int .i64 (cx s)) σ):=by
 refine ao Tryz.func84 ?_;intro ax;refine .quiet (by kernel_rfl) ?_;refine aa 0 ?_;refine aa 0 ?_;refine aN [] (Fj _ _ _) ?_;refine ai (fun c1=>?_) (fun c1=>?_)
 ·have c1:kE s.what s.w=0:=c1;refine aa 0 ?_;refine aa 0 ?_;refine aa 0 ?_;refine aa 0 ?_;refine aN [] (Fk _ _ _) ?_;refine Kr [] (Ap s.what s.w (iq s.what s.w) _ (Ks _ _) (dE (acs _ _) (by decide))) (fun c2=>?_) (fun c2=>?_)
  ·have hi:=B5 c2;refine aa 0 ?_;refine aa 0 ?_;refine dc [] (Cd s.n s.cd _ (dE hf.wQ (by decide))) (fun cr=>?_) (fun cr=>?_)
   ·refine aa 0 ?_;refine aa 0 ?_;refine cO (fun ct=>?_) (fun ct=>?_)
    ·have ct:(!decide ((s.T.length:Int)=s.n))=true:=ct;have ct:¬(s.T.length:Int)=s.n:=by simpa using ct
     exact .fwd 1 (.drop 0 1 (.done ⟨aQ (Aa hi fun h=>ct h.2),rfl⟩))
    ·have ct:(!decide ((s.T.length:Int)=s.n))=false:=ct;have ct:(s.T.length:Int)=s.n:=by simpa using ct
     have hr:eA s.n s.cd=true∧(s.T.length:Int)=s.n:=⟨cr,ct⟩
     refine aa 0 ?_;refine bc (S:=Nat) (fun k=>[(1,.ptr ax 0),(3,.int .i64 1),(42,.ae (.int .i64) s.entry),(43,.int .i64 s.entry.length),(44,.int .i64 k)]) (fun _=>(ax,aP s)::σ) (fun k=>k≤s.entry.length∧((s.entry.take k).any fun v=> !cH s.n v)=false) (fun k=>s.entry.length-k) 0 ⟨⟨aV _,rfl⟩,⟨rfl,rfl,rfl,rfl,rfl,trivial⟩,rfl⟩ ?_;rintro k g ⟨aK,eR⟩;have hk:k≤s.entry.length:=aK;have ha:((s.entry.take k).any fun v=> !cH s.n v)=false:=eR;clear aK eR;refine ai (fun ab=>?_) (fun ak=>?_)
     ·have ab:k<s.entry.length:=by have ab:(k:Int)<s.entry.length:=ab;omega
      have hs:=mH ab fun v=> !cH s.n v;rw[ha,l8]at hs;have nb:cH s.n s.entry[k]=false→(s.entry.any fun v=> !cH s.n v)=true:=fun h=>kr.2 ⟨s.entry[k],bU ab,by rw[h];rfl⟩;refine aF.mk rfl (aY.mk s.entry[k] (by omega) (get_some ab) ?_);refine ai (p:=s.entry[k]<0) (fun d1=>?_) (fun d1=>?_)
      ·exact .fwd 1 (.drop 0 1 (.done ⟨aQ (zO hi hr (nb (by unfold cH;simp;omega))),rfl⟩))
      ·refine aa 0 ?_;refine ai (p:=s.n≤s.entry[k]) (fun d2=>?_) (fun d2=>?_)
       ·exact .fwd 1 (.drop 0 1 (.done ⟨aQ (zO hi hr (nb (by unfold cH;simp;omega))),rfl⟩))
       ·exact aM (k+1) (by show s.entry.length-(k+1)<s.entry.length-k;omega) ⟨ab,hs.trans (by unfold cH;simp;omega)⟩ ⟨rfl,rfl,rfl,rfl,aI (by have:=hf.wK;omega),trivial⟩ (.refl _)
     ·have ak:k=s.entry.length:=by have ak:¬(k:Int)<s.entry.length:=ak;omega
      subst ak;rw[er]at ha;refine aa 0 ?_;refine aa 0 ?_;refine aa 0 ?_;refine dc [] (Ap s.what s.w s.init _ hf.i64 (dE hf.CL (by decide))) (fun cv=>?_) (fun cv=>?_)
      ·refine aa 0 ?_;refine bc (S:=Nat) (fun k=>[(1,.ptr ax 0),(3,.int .i64 2),(66,.ae j9 s.T),(67,.int .i64 s.T.length),(68,.int .i64 k)]) (fun _=>(ax,aP s)::σ) (fun k=>k≤s.T.length∧((s.T.take k).any fun t=> !decide (fm s.what s.w t.1 t.2.1 t.2.2.1=0))=false) (fun k=>s.T.length-k) 0 ⟨⟨aV _,rfl⟩,⟨rfl,rfl,rfl,rfl,rfl,trivial⟩,rfl⟩ ?_;rintro k g ⟨aK,gO⟩;have hk:k≤s.T.length:=aK;have ht:((s.T.take k).any fun t=> !decide (fm s.what s.w t.1 t.2.1 t.2.2.1=0))=false:=gO;clear aK gO;refine ai (fun ab=>?_) (fun ak=>?_)
       ·have ab:k<s.T.length:=by have ab:(k:Int)<s.T.length:=ab;omega
        have hs:=mH ab fun t=> !decide (fm s.what s.w t.1 t.2.1 t.2.2.1=0);rw[ht,l8]at hs;have ho:=hf.ts _ (bU ab);have hm:=bU ab;obtain⟨t,eH⟩:∃t:lC,s.T[k]=t:=⟨_,rfl⟩
        rw[eH]at hs ho hm;refine aF.mk rfl (aY.mk t (by omega) ((get_some ab).trans (congrArg some eH)) ?_);intro bX;refine ah 0 ?_;refine aa 1 ?_;refine aa 1 ?_;refine aa 0 ?_;refine aw [] (Ka s.what s.w t.1 t.2.1 t.2.2.1 _ ho.1 ho.2.1 ho.2.2.1 ho.2.2.2.1 (dE ho.2.2.2.2 (by decide))) ?_;refine cO (fun d1=>?_) (fun d1=>?_)
        ·exact .fwd 1 (.drop 0 2 (.done ⟨aQ (Kq hi hr ha cv (kr.2 ⟨t,hm,d1⟩)),rfl⟩))
        ·exact aM (k+1) (by show s.T.length-(k+1)<s.T.length-k;omega) ⟨ab,hs.trans d1⟩ ⟨rfl,rfl,rfl,rfl,aI (by have:=hf.uH;omega),trivial⟩ (.drop 0 1 (.refl _))
       ·have ak:k=s.T.length:=by have ak:¬(k:Int)<s.T.length:=ak;omega
        subst ak;rw[er]at ht;exact .drop 0 1 (.done ⟨aQ (Gx hi hr ha cv ht),rfl⟩)
      ·exact .fwd 1 (.drop 0 1 (.done ⟨aQ (KV hi hr ha cv),rfl⟩))
   ·exact .fwd 1 (.drop 0 1 (.done ⟨aQ (Aa hi fun h=>by rw[h.1]at cr;cases cr),rfl⟩))
  ·have hi:df s.what s.w=false:=by
    cases h:df s.what s.w with
    |false=>rfl
    |true=>rw[J4 h]at c2;cases c2
   exact .fwd 1 (.drop 0 1 (.done ⟨aQ (S9 hi),rfl⟩))
 ·have c1:¬kE s.what s.w=0:=c1;refine aa 0 ?_;refine aa 0 ?_
  have hi:df s.what s.w=true:=by
   cases h:df s.what s.w with
   |true=>rfl
   |false=>exact absurd (by unfold kE;rw[h];rfl) c1
  refine dc [] (Cd s.n s.cd _ (dE hf.wQ (by decide))) (fun cr=>?_) (fun cr=>?_)
  ·refine aa 0 ?_;refine aa 0 ?_;refine cO (fun ct=>?_) (fun ct=>?_)
   ·have ct:(!decide ((s.T.length:Int)=s.n))=true:=ct;have ct:¬(s.T.length:Int)=s.n:=by simpa using ct
    exact .fwd 1 (.drop 0 1 (.done ⟨aQ (Aa hi fun h=>ct h.2),rfl⟩))
   ·have ct:(!decide ((s.T.length:Int)=s.n))=false:=ct;have ct:(s.T.length:Int)=s.n:=by simpa using ct
    have hr:eA s.n s.cd=true∧(s.T.length:Int)=s.n:=⟨cr,ct⟩
    refine aa 0 ?_;refine bc (S:=Nat) (fun k=>[(1,.ptr ax 0),(3,.int .i64 1),(42,.ae (.int .i64) s.entry),(43,.int .i64 s.entry.length),(44,.int .i64 k)]) (fun _=>(ax,aP s)::σ) (fun k=>k≤s.entry.length∧((s.entry.take k).any fun v=> !cH s.n v)=false) (fun k=>s.entry.length-k) 0 ⟨⟨aV _,rfl⟩,⟨rfl,rfl,rfl,rfl,rfl,trivial⟩,rfl⟩ ?_;rintro k g ⟨aK,eR⟩;have hk:k≤s.entry.length:=aK;have ha:((s.entry.take k).any fun v=> !cH s.n v)=false:=eR;clear aK eR;refine ai (fun ab=>?_) (fun ak=>?_)
    ·have ab:k<s.entry.length:=by have ab:(k:Int)<s.entry.length:=ab;omega
     have hs:=mH ab fun v=> !cH s.n v;rw[ha,l8]at hs;have nb:cH s.n s.entry[k]=false→(s.entry.any fun v=> !cH s.n v)=true:=fun h=>kr.2 ⟨s.entry[k],bU ab,by rw[h];rfl⟩;refine aF.mk rfl (aY.mk s.entry[k] (by omega) (get_some ab) ?_);refine ai (p:=s.entry[k]<0) (fun d1=>?_) (fun d1=>?_)
     ·exact .fwd 1 (.drop 0 1 (.done ⟨aQ (zO hi hr (nb (by unfold cH;simp;omega))),rfl⟩))
     ·refine aa 0 ?_;refine ai (p:=s.n≤s.entry[k]) (fun d2=>?_) (fun d2=>?_)
      ·exact .fwd 1 (.drop 0 1 (.done ⟨aQ (zO hi hr (nb (by unfold cH;simp;omega))),rfl⟩))
      ·exact aM (k+1) (by show s.entry.length-(k+1)<s.entry.length-k;omega) ⟨ab,hs.trans (by unfold cH;simp;omega)⟩ ⟨rfl,rfl,rfl,rfl,aI (by have:=hf.wK;omega),trivial⟩ (.refl _)
    ·have ak:k=s.entry.length:=by have ak:¬(k:Int)<s.entry.length:=ak;omega
     subst ak;rw[er]at ha;refine aa 0 ?_;refine aa 0 ?_;refine aa 0 ?_;refine dc [] (Ap s.what s.w s.init _ hf.i64 (dE hf.CL (by decide))) (fun cv=>?_) (fun cv=>?_)
     ·refine aa 0 ?_;refine bc (S:=Nat) (fun k=>[(1,.ptr ax 0),(3,.int .i64 2),(66,.ae j9 s.T),(67,.int .i64 s.T.length),(68,.int .i64 k)]) (fun _=>(ax,aP s)::σ) (fun k=>k≤s.T.length∧((s.T.take k).any fun t=> !decide (fm s.what s.w t.1 t.2.1 t.2.2.1=0))=false) (fun k=>s.T.length-k) 0 ⟨⟨aV _,rfl⟩,⟨rfl,rfl,rfl,rfl,rfl,trivial⟩,rfl⟩ ?_;rintro k g ⟨aK,gO⟩;have hk:k≤s.T.length:=aK;have ht:((s.T.take k).any fun t=> !decide (fm s.what s.w t.1 t.2.1 t.2.2.1=0))=false:=gO;clear aK gO;refine ai (fun ab=>?_) (fun ak=>?_)
      ·have ab:k<s.T.length:=by have ab:(k:Int)<s.T.length:=ab;omega
       have hs:=mH ab fun t=> !decide (fm s.what s.w t.1 t.2.1 t.2.2.1=0);rw[ht,l8]at hs;have ho:=hf.ts _ (bU ab);have hm:=bU ab;obtain⟨t,eH⟩:∃t:lC,s.T[k]=t:=⟨_,rfl⟩
       rw[eH]at hs ho hm;refine aF.mk rfl (aY.mk t (by omega) ((get_some ab).trans (congrArg some eH)) ?_);intro bX;refine ah 0 ?_;refine aa 1 ?_;refine aa 1 ?_;refine aa 0 ?_;refine aw [] (Ka s.what s.w t.1 t.2.1 t.2.2.1 _ ho.1 ho.2.1 ho.2.2.1 ho.2.2.2.1 (dE ho.2.2.2.2 (by decide))) ?_;refine cO (fun d1=>?_) (fun d1=>?_)
       ·exact .fwd 1 (.drop 0 2 (.done ⟨aQ (Kq hi hr ha cv (kr.2 ⟨t,hm,d1⟩)),rfl⟩))
       ·exact aM (k+1) (by show s.T.length-(k+1)<s.T.length-k;omega) ⟨ab,hs.trans d1⟩ ⟨rfl,rfl,rfl,rfl,aI (by have:=hf.uH;omega),trivial⟩ (.drop 0 1 (.refl _))
      ·have ak:k=s.T.length:=by have ak:¬(k:Int)<s.T.length:=ak;omega
       subst ak;rw[er]at ht;exact .drop 0 1 (.done ⟨aQ (Gx hi hr ha cv ht),rfl⟩)
     ·exact .fwd 1 (.drop 0 1 (.done ⟨aQ (KV hi hr ha cv),rfl⟩))
  ·exact .fwd 1 (.drop 0 1 (.done ⟨aQ (Aa hi fun h=>by rw[h.1]at cr;cases cr),rfl⟩))
end Go.Proofs.YtnikdflhefijbaaGreat
