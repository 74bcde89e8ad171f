import Derived.Test.YtnpidbjdilnhlaaGreatBn18
namespace Go.Proofs.YtnpidbjdilnhlaaGreat
open Go.RowKit
set_option maxRecDepth 100000
def lI(a:List Int)(r:lP):Int:=if r.1 = -1 then kY r.2.1.1 r.2.1.2.1 else wd a r.1.toNat
def qC(a:List Int)(c:cp):Int:=if c.2.1 = -1 then 1 else mz c.2.1 (lI a c.2.2.1) (lI a c.2.2.2.1)
def th(a:List Int)(c:cp):List Int:=a.set c.1.toNat (qC a c)
def iM(a:List Int)(l:List cp):List Int:=l.foldl th a
theorem GL(a:List Int)(c:cp):(th a c).length=a.length:=List.length_set ..
theorem HL(a:List Int)(l:List cp):(iM a l).length=a.length:=by
 unfold iM
 induction l generalizing a with
 | nil=>rfl
 | cons c l ih=>exact (ih _).trans (GL a c)
theorem RU(a:List Int)(l:List cp)(c:cp):iM a (l++[c])=th (iM a l) c:=by
 unfold iM;rw[List.foldl_append];rfl
theorem K3(x y:Int):bh (kY x y):=by
 have h1:=z7 x y
 have h2:=Df x y
 unfold bh kY;omega
theorem J0{a:List Int}(ha:bJ a)(r:lP):bh (lI a r):=by
 unfold lI;split
 ·exact K3 _ _
 ·exact qn ha _
theorem Ti(op a b:Int):bh (pA op a b):=by
 unfold pA lL
 split
 ·exact⟨by omega,by omega⟩
 ·split
  ·exact⟨by omega,by omega⟩
  ·split
   ·exact K3 _ _
   ·exact⟨by omega,by omega⟩
theorem UY(op a b:Int):bh (mz op a b):=by unfold mz;split <;> exact Ti _ _ _
theorem Tx(a:List Int)(c:cp):bh (qC a c):=by
 unfold qC;split
 ·exact⟨by omega,by omega⟩
 ·exact UY _ _ _
theorem UJ{a:List Int}(ha:bJ a){i:Nat}{z:Int}(hz:bh z):bJ (a.set i z):=fun x hx=>by
 rcases List.mem_or_eq_of_mem_set hx with h | rfl
 ·exact ha x h
 ·exact hz
theorem Le{a:List Int}(ha:bJ a)(l:List cp):bJ (iM a l):=by
 unfold iM
 induction l generalizing a with
 | nil=>exact ha
 | cons c l ih=>exact ih (UJ ha (Tx a c))
theorem C7{w:Int}{c:cp}(h:da w c=true):0≤c.1∧c.1<w:=by
 unfold da at h
 by_cases h1:c.1<0
 ·rw[if_pos h1]at h;exact absurd h (by decide)
 ·by_cases h2:w≤c.1
  ·rw[if_neg h1,if_pos h2]at h;exact absurd h (by decide)
  ·omega
theorem JK{w:Int}{c:cp}(h:da w c=true): -1≤c.2.1∧(¬c.2.1 = -1→mb w c.2.2.1=true∧mb w c.2.2.2.1=true):=by
 have hv:=C7 h
 unfold da at h
 rw[if_neg (by omega),if_neg (by omega)]at h
 by_cases h1:c.2.1 < -1
 ·rw[if_pos h1]at h;exact absurd h (by decide)
 ·rw[if_neg h1]at h
  by_cases h2:4<c.2.1
  ·rw[if_pos h2]at h;exact absurd h (by decide)
  ·rw[if_neg h2]at h
   refine⟨by omega,fun h3 =>?_⟩
   rw[if_neg h3]at h
   exact Bool.and_eq_true_iff.1 h
theorem H6{w:Int}{r:lP}(h:mb w r=true)(h1:¬r.1 = -1):0≤r.1∧r.1<w:=by
 unfold mb at h
 rw[if_neg h1]at h
 simp at h
 exact h.1
theorem X1(a:List Int)(r:lP)(q b:Nat)(σ:Hp)(hr:mb a.length r=true):ACalls Tryz.prog 323 [.agg (xM r),.ptr q 0] ((q,[.ae b 0 a.length 1])::(b,aL a)::σ) (aB (.int .u64 (lI a r)) ((q,[.ae b 0 a.length 1])::(b,aL a)::σ)):=by
 refine okF Tryz.func323 (by kernel_rfl) ?_
 intro aC
 refine aa.mk 0 _ _ rfl rfl ?_
 refine an (fun c2 =>?_) (fun c2 =>?_)
 ·have c2:r.fst = -1:=c2
  refine aa.mk 0 _ _ rfl rfl ?_
  refine az [] (A8 _ _ _) ?_
  have e:lI a r=kY r.2.1.1 r.2.1.2.1:=if_pos c2
  exact .drop 0 1 (.done ⟨aN e.symm,rfl⟩)
 ·have c2:¬(r.fst = -1):=c2
  refine aa.mk 1 _ _ rfl rfl ?_
  refine aa.mk 0 _ _ rfl rfl ?_
  have hv:=H6 hr c2
  have e:lI a r=wd a r.1.toNat:=if_neg c2
  refine ah.mk ⟨rfl,hv.1,hv.2⟩ ?_
  refine aa.mk 2 _ _ rfl (vr (i:=r.1.toNat) (by omega) (by omega)) ?_
  exact .drop 0 1 (.done ⟨aN e.symm,rfl⟩)
theorem MS(a:List Int)(n:Nat)(hn:a.length=n)(r:lP)(q b:Nat)(σ:Hp)(hr:mb n r=true):ACalls Tryz.prog 323 [.agg (xM r),.ptr q 0] ((q,[.ae b 0 n 1])::(b,aL a)::σ) (aB (.int .u64 (lI a r)) ((q,[.ae b 0 n 1])::(b,aL a)::σ)):=by
 subst hn
 exact X1 a r q b σ hr
theorem KJ(l:List Int)(σ:Hp)(hl:l.length≤1000000):ACalls Tryz.prog 150 [.af (.int .u64) l] σ (fun x σ'=>∃acc,Acc 1 l.length x acc (aL l)∧σ'=acc++σ):=by
 refine zP (fun h=>⟨?_,?_⟩) (fun h =>?_)
 ·subst h
  refine okF Tryz.func150 (by kernel_rfl) ?_
  exact .done ⟨[],.nil,rfl⟩
 ·subst h
  refine okF Tryz.func150 (by kernel_rfl) ?_
  intro b
  refine AppendAt.more 0 b 0 0 [] _ rfl rfl (Nat.le_of_ble_eq_true rfl) .eX (by decide) (by decide) (by decide) (fun b' =>?_)
  exact .done ⟨[(b',[])],.ae b' 0 [] rfl,rfl⟩
 ·refine okF Tryz.func150 (by kernel_rfl) ?_
  refine ah.mk (List.length_pos_iff.2 h) ?_
  intro b
  refine AppendAt.more 0 b 0 l.length [] _ rfl rfl (Nat.le_of_ble_eq_true rfl) (.af (.int .u64) l rfl) (by omega) (by decide) (by decide) (fun b' =>?_)
  refine .done ⟨[(b',aL l)],?_,?_⟩
  ·rw[Nat.zero_add];exact .ae b' l.length _ (by simp[aL])
  ·show (b',[]++l.flatMap (Sh.cells (.int .u64)))::σ=_
   rw[ka];rfl
theorem XV(a:List Int)(l:List cp)(σ:Hp)(ha:bJ a)(la:a.length≤10000)(ll:l.length≤1000000)(hl:l.all (da a.length)=true):ACalls Tryz.prog 303 [.af (.int .u64) a,.af ga l] σ (aB (.af (.int .u64) (iM a l)) σ):=by
 refine okF Tryz.func303 (by kernel_rfl) ?_
 intro q
 refine aa.mk 0 _ _ rfl rfl ?_
 refine .mk [] _ (KJ a _ (by omega)) ?_
 rintro v σ' ⟨acc,bc,rfl⟩
 generalize hn:a.length=n at bc la hl
 generalize fX:aL a=cs at bc
 cases bc with
 | nil =>
  have h0:a=[]:=List.length_eq_zero_iff.1 hn
  subst h0
  cases l with
  | cons c l =>
   have:=C7 (List.all_eq_true.1 hl c (List.mem_cons_self ..))
   exact absurd this (by omega)
  | nil =>
   refine ai.mk 0 _ _ rfl rfl ?_
   refine aU (S:=Unit) (fun _=>[(2,.ptr q 0),(12,.int .i64 0),(13,.int .i64 0)]) (fun _=>(q,[.aj])::σ) (fun _=>True) (fun _=>0) () ⟨trivial,⟨rfl,rfl,rfl,trivial⟩,rfl⟩ ?_
   rintro _ _ _
   refine aa.mk 0 _ _ rfl rfl ?_
   exact .drop 0 1 (.nil (.nil _) (.done ⟨rfl,rfl⟩))
 | ae b n cs h =>
 subst fX
 refine ai.mk 1 _ _ rfl rfl ?_
 refine aU (S:=Nat) (fun s=>[(2,.ptr q 0),(5,.fn (.func 323) [] [.ptr q 0]),(11,.af ga l),(12,.int .i64 l.length),(13,.int .i64 s)]) (fun s=>(b,aL (iM a (l.take s)))::(q,[.ae b 0 n 1])::σ) (fun s=>s≤l.length) (fun s=>l.length-s) 0 ⟨Nat.zero_le _,⟨rfl,rfl,rfl,rfl,rfl,trivial⟩,rfl⟩ ?_
 intro s t mF
 have hs:s≤l.length:=mF
 clear mF
 have hA:bJ (iM a (l.take s)):=Le ha _
 have hlen:(iM a (l.take s)).length=n:=(HL a _).trans hn
 refine an (fun ab =>?_) (fun aq =>?_)
 ·have ab:s<l.length:=by have ab:(s:Int)<l.length:=ab;omega
  have hd:=RU a (l.take s) l[s]
  rw[← List.take_succ_eq_append_getElem ab]at hd
  have oG:=List.all_eq_true.1 hl l[s] (List.getElem_mem ab)
  obtain⟨c,hc⟩:∃c:cp,l[s]=c:=⟨_,rfl⟩
  rw[hc]at hd oG
  have hv:=C7 oG
  have ho:=JK oG
  refine ah.mk rfl (aT.mk c (by omega) ((get_some ab).trans (congrArg some hc)) ?_)
  clear hc oG
  generalize iM a (l.take s)=A at hA hlen hd
  intro bM
  refine ai.mk 0 _ _ rfl rfl ?_
  refine aa.mk 0 _ _ rfl rfl ?_
  refine an (p:=c.2.1 = -1) (fun d5 =>?_) (fun d5 =>?_)
  ·refine aa.mk 2 _ _ rfl rfl ?_
   refine aa.mk 0 _ _ rfl rfl ?_
   refine ah.mk ⟨rfl,by omega,by omega⟩ ?_
   have su:qC A c=1:=if_pos d5
   refine ai.mk 1 _ _ rfl (pg (i:=c.1.toNat) (by omega) _ (by omega)) ?_
   refine aH (s+1) (by show l.length-(s+1)<l.length-s;omega) ab ⟨rfl,rfl,rfl,rfl,aI (by omega),trivial⟩ (.drop 0 1 (aF ?_))
   rw[hd,th,su]
   rfl
  ·have ho2:=ho.2 d5
   have su:qC A c=mz c.2.1 (lI A c.2.2.1) (lI A c.2.2.2.1):=if_neg d5
   refine .sched [8,12,13] (upto [8,12,13] 16 0) (by kernel_rfl) ?_
   refine aa.mk 2 _ _ rfl rfl ?_
   refine aa.mk 0 _ _ rfl rfl ?_
   refine aa.mk 0 _ _ rfl rfl ?_
   refine aa.mk 0 _ _ rfl rfl ?_
   refine aJ [2,1] (MS A n hlen c.2.2.1 q b _ ho2.1) ?_
   refine aa.mk 0 _ _ rfl rfl ?_
   refine aJ [2,1] (MS A n hlen c.2.2.2.1 q b _ ho2.2) ?_
   refine aJ [] (X2 _ _ _ _ (J0 hA _) (J0 hA _)) ?_
   refine ah.mk ⟨rfl,by omega,by omega⟩ ?_
   refine ai.mk 1 _ _ rfl (pg (i:=c.1.toNat) (by omega) _ (by omega)) ?_
   refine aH (s+1) (by show l.length-(s+1)<l.length-s;omega) ab ⟨rfl,rfl,rfl,rfl,aI (by omega),trivial⟩ (.drop 0 1 (aF ?_))
   rw[hd,th,su]
   rfl
 ·have aq:s=l.length:=by have aq:¬(s:Int)<l.length:=aq;omega
  subst aq
  rw[List.take_length]at hlen ⊢
  refine aa.mk 1 _ _ rfl rfl ?_
  have fy:((aL (iM a l)).drop 0).take (n*1)=(iM a l).flatMap (Sh.cells (.int .u64)):=by
   rw[List.drop_zero,← ka];exact List.take_of_length_le (by rw[aL,List.length_map];omega)
  exact .bO 0 b 0 n 1 _ (.int .u64) (iM a l) rfl fy ⟨hlen,rfl,by decide⟩ .here (.drop 0 1 (.done ⟨rfl,rfl⟩))
set_option maxRecDepth 100000
def l8(ag:Int)(g k:List Int)(l:List cp)(a:List Int):List Int:=
 if ag=3 then (if (a.any fun z=>decide (0=z))=true then List.replicate a.length 0 else iM a l) else eg jJ (eg gm a k) g
theorem HO{ag:Int}(h:¬ag=3)(g k:List Int)(l:List cp)(a:List Int):l8 ag g k l a=eg jJ (eg gm a k) g:=if_neg h
theorem Hc{ag:Int}(h:ag=3){a:List Int}(h0:(a.any fun z=>decide (0=z))=true)(g k:List Int)(l:List cp):l8 ag g k l a=List.replicate a.length 0:=by unfold l8;rw[if_pos h,if_pos h0]
theorem IH{ag:Int}(h:ag=3){a:List Int}(h0:(a.any fun z=>decide (0=z))=false)(g k:List Int)(l:List cp):l8 ag g k l a=iM a l:=by unfold l8;rw[if_pos h,h0];rfl
set_option maxRecDepth 100000
def qE(ag w:Int)(g k:List Int)(l:List cp)(a:List Int):Int:=if dP ag w g k l=0 then (if dZ ag w a=true then 0 else 2) else dP ag w g k l
theorem RR{ag w:Int}{g k:List Int}{l:List cp}{a:List Int}(h:¬dP ag w g k l=0):qE ag w g k l a=dP ag w g k l:=if_neg h
theorem DR{ag w:Int}{g k:List Int}{l:List cp}{a:List Int}(h:dP ag w g k l=0)(hv:dZ ag w a=true):qE ag w g k l a=0:=by unfold qE;rw[if_pos h,if_pos hv]
theorem RQ{ag w:Int}{g k:List Int}{l:List cp}{a:List Int}(h:dP ag w g k l=0)(hv:dZ ag w a=false):qE ag w g k l a=2:=by unfold qE;rw[if_pos h,hv];rfl
theorem Du{ag w:Int}{g k:List Int}{l:List cp}(h:dP ag w g k l=0):bX ag w=true∧sa ag w g k l=true:=by
 unfold dP at h
 cases hi:bX ag w with
 | false=>rw[hi]at h;exact absurd h (by simp)
 | true =>
  rw[hi,if_pos rfl]at h
  cases ht:sa ag w g k l with
  | false=>rw[ht]at h;exact absurd h (by simp)
  | true=>exact⟨rfl,rfl⟩
theorem Pn{ag w:Int}{a:List Int}(h:dZ ag w a=true)(h3:ag=3):(a.length:Int)=w:=by
 have hl:=An h
 have hi:bX ag w=true:=by unfold dZ at h;simp at h;exact h.1.1
 rw[hl];unfold cT;rw[if_pos hi,if_pos h3]
theorem R3{ag w:Int}{a:List Int}(h:dZ ag w a=true)(h3:ag=3):iG ag w=List.replicate a.length 0:=by
 unfold iG
 rw[if_neg (fun h=>by omega),← An h,Int.toNat_natCast]
theorem Uf(ag w:Int)(g k:List Int)(l:List cp)(a:List Int)(σ:Hp)(hg:bJ g)(hk:bJ k)(ha:bJ a)(lg:g.length≤10000)(lk:k.length≤10000)(la:a.length≤10000)(ll:l.length≤1000000):ACalls Tryz.prog 279 [.int .i64 ag,.int .i64 w,.agg (BO g k l),.af (.int .u64) a] σ (aB (.tup [.af (.int .u64) (pI (qE ag w g k l a) (l8 ag g k l a)),.int .i64 (qE ag w g k l a)]) σ):=by
 refine okF Tryz.func279 (by kernel_rfl) ?_
 have hm:(eg gm a k).length≤10000:=by rw[oT];omega
 intro aC
 refine aa.mk 0 _ _ rfl rfl ?_
 refine az [] (DW ag w g k l _ hg hk lg lk ll) ?_
 refine bS (fun c2 =>?_) (fun c2 =>?_)
 ·have c2:¬(dP ag w g k l=0):=by simpa using c2
  rw[RR c2,Ax c2]
  exact .nil (bL (.nil _) (.refl _)) (.drop 0 1 (.done ⟨rfl,rfl⟩))
 ·have c2:dP ag w g k l=0:=by simpa using c2
  refine cm [] (BJ ag w a _ ha (by omega)) (fun cV =>?_) (fun cV =>?_)
  ·refine bS (fun c3 =>?_) (fun c3 =>?_)
   ·have c3:¬(ag=3):=by simpa using c3
    refine .quiet (by kernel_rfl) ?_
    refine aa.mk 0 _ _ rfl rfl ?_
    refine aJ [] (Lp a k _ (by omega) (by omega)) ?_
    refine aa.mk 0 _ _ rfl rfl ?_
    refine aJ [] (Vo (eg gm a k) g _ (by omega) (by omega)) ?_
    rw[DR c2 cV,xa rfl,HO c3]
    exact .drop 0 1 (.done ⟨rfl,rfl⟩)
   ·have c3:ag=3:=by simpa using c3
    refine cm [] (Pf a 0 _ (by omega)) (fun cZ =>?_) (fun cZ =>?_)
    ·refine az [] (Dy ag w _) ?_
     rw[DR c2 cV,xa rfl,Hc c3 cZ,← R3 cV c3]
     exact .drop 0 1 (.done ⟨rfl,rfl⟩)
    ·refine aa.mk 0 _ _ rfl rfl ?_
     have Gf:l.all (da a.length)=true:=by
      have ht:=(Du c2).2
      rw[qO c3,Bool.and_eq_true]at ht
      rw[Pn cV c3];exact ht.2
     rw[DR c2 cV,xa rfl,IH c3 cZ]
     refine az [] (XV a l _ ha la ll Gf) ?_
     exact .drop 0 1 (.done ⟨rfl,rfl⟩)
  ·rw[RQ c2 cV,Ax (by decide)]
   exact .nil (bL (.nil _) (.refl _)) (.drop 0 1 (.done ⟨rfl,rfl⟩))
end Go.Proofs.YtnpidbjdilnhlaaGreat
namespace Go.Proofs.YtnpidbjdilnhlaaGreat
open Go.RowKit
def oh(a:List Int)(i k:Nat):Bool:=(wd a i).toNat.testBit k
theorem De(k:Nat):(0:Int).toNat.testBit k=false:=Nat.zero_testBit k
theorem LF(a b:List Int):bJ (eg jJ a b):=D0 fun _ _=>UU _ _
theorem UT{a b:List Int}(ha:bJ a)(hb:bJ b)(i k:Nat):oh (eg jJ a b) i k=(oh a i k || oh b i k):=by
 unfold oh
 rcases Nat.lt_or_ge i (max a.length b.length) with h | h
 ·rw[wX _ _ _ h,Th (qn ha i) (qn hb i)]
 ·rw[s8 (by rw[oT];exact h),s8 (a:=a) (by omega),s8 (a:=b) (by omega),De];rfl
theorem Vl{a b:List Int}(ha:bJ a)(hb:bJ b)(i:Nat){k:Nat}(hk:k<64):oh (eg gm a b) i k=(oh a i k && !oh b i k):=by
 unfold oh
 rcases Nat.lt_or_ge i (max a.length b.length) with h | h
 ·rw[wX _ _ _ h,DT (qn ha i) (qn hb i) hk]
 ·rw[s8 (by rw[oT];exact h),s8 (a:=a) (by omega),De];rfl
theorem rN{a:List Int}{w:Int}(h:ef a w=true):a.length=cx w:=by
 unfold ef at h;rw[Bool.and_eq_true]at h;exact of_decide_eq_true h.1
theorem uG{a:List Int}{w:Int}(ha:bJ a)(hl:a.length=cx w):ef a w=true↔∀i k,i<a.length→k<64→df w≤64*i+k→oh a i k=false:=by
 rw[C5 ha hl]
 unfold hasB oh
 constructor
 ·intro h i k hi hk hc
  have:=h (64*i+k) hc (by omega)
  rw[show (64*i+k) / 64=i by omega,show (64*i+k) % 64=k by omega]at this
  exact this
 ·intro h n h1 h2
  exact h (n / 64) (n % 64) (by omega) (by omega) (by omega)
theorem Tg{a b:List Int}{w:Int}(ha:bJ a)(hb:bJ b)(fa:ef a w=true)(fb:ef b w=true):ef (eg jJ a b) w=true:=by
 have la:=rN fa
 have lb:=rN fb
 have hl:(eg jJ a b).length=cx w:=by rw[oT];omega
 rw[uG (LF _ _) hl]
 intro i k hi hk hc
 rw[UT ha hb,(uG ha la).1 fa i k (by omega) hk hc,(uG hb lb).1 fb i k (by omega) hk hc];rfl
theorem TX{a b:List Int}{w:Int}(ha:bJ a)(hb:bJ b)(fa:ef a w=true)(lb:b.length≤cx w):ef (eg gm a b) w=true:=by
 have la:=rN fa
 have hl:(eg gm a b).length=cx w:=by rw[oT];omega
 rw[uG (Ad _ _) hl]
 intro i k hi hk hc
 rw[Vl ha hb i hk,(uG ha la).1 fa i k (by omega) hk hc];rfl
def NZ(a:List Int):Prop:=∀z∈a,bf z=z∧z≠0
theorem KL{a:List Int}{i:Nat}(h:i<a.length):wd a i∈a:=by rw[ly a h];exact List.getElem_mem h
theorem Jk(x y:Int):bf (kY x y)=kY x y∧kY x y≠0:=⟨norm_num (U0 x y),by have:=U1 x y;omega⟩
theorem JZ{a:List Int}(h:NZ a){r:lP}(hr:mb a.length r=true):bf (lI a r)=lI a r∧lI a r≠0:=by
 unfold lI
 split
 ·exact Jk _ _
 ·rename_i h1
  have hv:=H6 hr h1
  exact h _ (KL (by omega))
theorem S5(op a b:Int):bf (lL op a b)=lL op a b∧lL op a b≠0:=by
 unfold lL
 split
 ·exact Jk _ _
 ·exact⟨rfl,by decide⟩
theorem Ka(op:Int){a b:Int}(ha:bf a≠0)(hb:bf b≠0):bf (pA op a b)=pA op a b∧pA op a b≠0:=by
 unfold pA
 rw[if_neg (by omega)]
 split
 ·exact⟨rfl,by decide⟩
 ·exact S5 _ _ _
theorem UX(op:Int){a b:Int}(ha:bf a≠0)(hb:bf b≠0):bf (mz op a b)=mz op a b∧mz op a b≠0:=by
 unfold mz
 split
 ·exact Ka _ ha (by rw[Jm];decide)
 ·exact Ka _ ha hb
theorem Tw{a:List Int}(h:NZ a){c:cp}(hc:da a.length c=true):bf (qC a c)=qC a c∧qC a c≠0:=by
 unfold qC
 split
 ·exact⟨rfl,by decide⟩
 ·rename_i h1
  have ho:=(JK hc).2 h1
  have h1:=JZ h ho.1
  have h2:=JZ h ho.2
  exact UX _ (by rw[h1.1];exact h1.2) (by rw[h2.1];exact h2.2)
theorem QY{a:List Int}(h:NZ a){c:cp}(hc:da a.length c=true):NZ (th a c):=fun z hz=>by
 rcases List.mem_or_eq_of_mem_set hz with h' | rfl
 ·exact h z h'
 ·exact Tw h hc
theorem RV(a:List Int)(c:cp)(l:List cp):iM a (c::l)=iM (th a c) l:=rfl
theorem all_cons{α:Type}{p:α→Bool}{c:α}{l:List α}(h:(c::l).all p=true):p c=true∧l.all p=true:=by
 rw[List.all_cons,Bool.and_eq_true]at h;exact h
theorem Ld:∀{l:List cp} {a:List Int},NZ a→l.all (da a.length)=true→NZ (iM a l)
 | [],_,h,_=>h
 | c::l,a,h,hl=>by
  have hl:=all_cons hl
  rw[RV]
  exact Ld (QY h hl.1) (by rw[GL];exact hl.2)
theorem KO{ag w:Int}{g k:List Int}{l:List cp}(h:dP ag w g k l=0)(h3:¬ag=3):ef g w=true∧ef k w=true∧l=[]:=by
 have h:=(Du h).2
 rw[mu h3,Bool.and_eq_true,Bool.and_eq_true]at h
 exact⟨h.1.2,h.2,List.length_eq_zero_iff.1 (of_decide_eq_true h.1.1)⟩
theorem SU{ag w:Int}{g k:List Int}{l:List cp}(h:dP ag w g k l=0)(h3:ag=3):g=[]∧k=[]∧l.all (da w)=true:=by
 have h:=(Du h).2
 rw[qO h3,Bool.and_eq_true]at h
 have h0:=of_decide_eq_true h.1
 exact⟨List.length_eq_zero_iff.1 (by omega),List.length_eq_zero_iff.1 (by omega),h.2⟩
theorem HW{ag w:Int}(hi:bX ag w=true)(h3:¬ag=3):cT ag w=cx w:=by unfold cT;rw[if_pos hi,if_neg h3]
theorem Hh{ag w:Int}(hi:bX ag w=true)(h3:ag=3):cT ag w=w:=by unfold cT;rw[if_pos hi,if_pos h3]
theorem D2{ag w:Int}{a:List Int}(h:dZ ag w a=true):bX ag w=true:=by unfold dZ at h;rw[Bool.and_eq_true,Bool.and_eq_true]at h;exact h.1.1
theorem uI{ag w:Int}{a:List Int}(hi:bX ag w=true)(h3:¬ag=3):dZ ag w a=true↔ef a w=true:=by
 unfold dZ
 rw[if_neg h3,hi,Bool.true_and,Bool.and_eq_true,HW hi h3]
 refine⟨fun h=>h.2,fun h=>⟨decide_eq_true ?_,h⟩⟩
 rw[rN h]
theorem wP{ag w:Int}{a:List Int}(hi:bX ag w=true)(h3:ag=3):dZ ag w a=true↔(a.length:Int)=w∧okW a=true:=by
 unfold dZ
 rw[if_pos h3,hi,Bool.true_and,Bool.and_eq_true,Hh hi h3,decide_eq_true_eq]
theorem w9{a:List Int}:okW a=true↔∀z∈a,bf z=z:=by unfold okW;rw[List.all_eq_true];exact forall₂_congr fun _ _=>decide_eq_true_iff
theorem any_zero{a:List Int}:(a.any fun z=>decide (0=z))=true↔0∈a:=by
 rw[List.any_eq_true]
 exact⟨fun ⟨z,hz,h⟩=>(of_decide_eq_true h)▸hz,fun h=>⟨0,h,decide_eq_true rfl⟩⟩
theorem V2{a:List Int}(h:okW a=true)(h0:(a.any fun z=>decide (0=z))=false):NZ a:=fun z hz=>⟨w9.1 h z hz,fun e=>by subst e;rw[any_zero.2 hz]at h0;exact Bool.noConfusion h0⟩
theorem Ji(n:Nat):okW (List.replicate n 0)=true:=w9.2 fun z hz=>by rw[(List.mem_replicate.1 hz).2];rfl
theorem D3(n:Nat):bJ (List.replicate n (0:Int)):=fun z hz=>by rw[(List.mem_replicate.1 hz).2];exact⟨by omega,by omega⟩
theorem Qx{ag:Int}{g k:List Int}{l:List cp}{a:List Int}(ha:bJ a):bJ (l8 ag g k l a):=by
 unfold l8
 split
 ·split
  ·exact D3 _
  ·exact Le ha l
 ·exact LF _ _
theorem Nh{ag w:Int}{g k:List Int}{l:List cp}{a:List Int}(hc:dP ag w g k l=0)(hv:dZ ag w a=true):(l8 ag g k l a).length=a.length:=by
 unfold l8
 split
 ·split
  ·exact List.length_replicate
  ·exact HL _ _
 ·rename_i h3
  have hf:=KO hc h3
  have h1:=rN hf.1
  have h2:=rN hf.2.1
  have h3:=rN ((uI (D2 hv) h3).1 hv)
  rw[oT,oT];omega
theorem Qw{ag w:Int}{g k:List Int}{l:List cp}{a:List Int}(hg:bJ g)(hk:bJ k)(ha:bJ a)(hc:dP ag w g k l=0)(hv:dZ ag w a=true):dZ ag w (l8 ag g k l a)=true:=by
 have hi:=D2 hv
 by_cases h3:ag=3
 ·have qX:=(wP hi h3).1 hv
  rw[wP hi h3,Nh hc hv]
  refine⟨qX.1,?_⟩
  have hl:=(SU hc h3).2.2
  cases hz:a.any fun z=>decide (0=z) with
  | true=>rw[Hc h3 hz];exact Ji _
  | false =>
   rw[IH h3 hz]
   exact w9.2 fun z hm=>(Ld (V2 qX.2 hz) (by rw[qX.1];exact hl) z hm).1
 ·have hf:=KO hc h3
  have qX:=(uI hi h3).1 hv
  rw[uI hi h3,HO h3]
  exact Tg (Ad _ _) hg (TX ha hk qX (Nat.le_of_eq (rN hf.2.1))) hf.1
theorem ON(a b:Int):bf (pq a b)=pq a b:=by
 have hn:∀w,bf (bf w)=bf w:=fun w=>by
  unfold bf
  by_cases h0:w=0
  ·simp[h0]
  ·by_cases h1:w=1
   ·simp[h1]
   ·cases hk:dY w with
    | true=>simp[h0,h1,hk]
    | false=>simp[h0,h1]
 unfold pq
 split
 ·exact hn _
 ·split
  ·exact hn _
  ·rfl
theorem Tv{a:List Int}(h:okW a=true){i:Nat}(hi:i<a.length):bf (wd a i)=wd a i:=w9.1 h _ (KL hi)
end Go.Proofs.YtnpidbjdilnhlaaGreat
namespace Go.Proofs.YtnpidbjdilnhlaaGreat
open Go.RowKit
set_option maxRecDepth 100000
theorem Pa{f:FuncId}{xs:List AV}{σ:Hp}{R R':AV→Hp→Prop}(h:ACalls Tryz.prog f xs σ R)(hv:∀r σ',R r σ'→r.leaf=true∧R' (.via r) σ'):ACalls Tryz.prog f xs σ R':=
 ⟨h.1,fun F w vs bD aD=>(h.2 F w vs bD aD).mono fun _ _ ⟨r,v,σ',F',h1,h2,h3,h4,h5⟩=>⟨.via r,v,σ',F',h1,h2,h3,.via _ _ (hv r σ' h5).1 h4,(hv r σ' h5).2⟩⟩
end Go.Proofs.YtnpidbjdilnhlaaGreat
namespace Go.Proofs.YtnpidbjdilnhlaaGreat
open Go.RowKit
set_option maxRecDepth 100000
theorem Et{n:Int}(h:bh n):bJ [n]:=fun z hz=>by rw[List.mem_singleton.1 hz];exact h
theorem CL{f:FuncId}{xs ys:List AV}{σ:Hp}{R:AV→Hp→Prop}(h:dp 0 0 0 0 .bool [] (.tup xs) (.tup ys))(hc:ACalls Tryz.prog f ys σ R):ACalls Tryz.prog f xs σ R:=
 ⟨hc.1,fun F w vs bD aD=>hc.2 F w vs (by
  have:=sP (.refl F w) (fun v hv=>by
   obtain⟨a,cap,rfl,c,T,fz,m1,m2,m3,m4⟩:=hv.iS
   exact .af _ _ _ ⟨some a,cap,rfl,m2,m3,(fun e=>by cases e),fun aS=>absurd rfl aS⟩) h (.tuple vs) (.tup xs vs bD.1 bD.2)
  cases this with
  | tup _ _ h1 h2=>exact⟨h1,h2⟩) aD⟩
end Go.Proofs.YtnpidbjdilnhlaaGreat
