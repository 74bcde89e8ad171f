import Derived.Test.YtnpidbjdilnhlaaGreatBn11
namespace Go.Proofs.YtnpidbjdilnhlaaGreat
open Go.RowKit
def n9(ws:List Int)(a:Int):Bool:=decide (0≤a) && decide (a<ws.length)
def fM(ws:List Int)(a:Int):Int:=if a<0 then 0 else ws.getD a.toNat 0
def fj(ws:List Int)(a x:Int):List Int:=if a<0 then ws else ws.set a.toNat x
def jG(n:Int):Nat:=(min (max n 0) 1048576).toNat
theorem Kw(n:Int):jG n≤1048576:=by unfold jG;omega
theorem C0{ws:List Int}{a:Int}(h:0≤a)(h1:a<ws.length):n9 ws a=true:=by simp[n9,h,h1]
theorem wV(a n:Int)(h:0≤a)(h1:a<n):(decide (0≤a) && decide (a<n))=true:=by simp[h,h1]
theorem wM(a n:Int)(h:¬(0≤a∧a<n)):(decide (0≤a) && decide (a<n))=false:=by simp;omega
theorem kE{ws:List Int}{a:Nat}:fM ws (a:Int)=ws.getD a 0:=by
 unfold fM;rw[if_neg (by omega)];rfl
theorem Iq{ws:List Int}{a:Int}(h:¬(0≤a∧a<(ws.length:Int))):fM ws a=0:=by
 unfold fM
 split
 ·rfl
 ·rw[List.getD,List.getElem?_eq_none (by omega)];rfl
theorem jn{ws:List Int}{a:Nat}(x:Int):fj ws (a:Int) x=ws.set a x:=by
 unfold fj;rw[if_neg (by omega)];rfl
theorem Hn{ws:List Int}{a x:Int}(h:¬(0≤a∧a<(ws.length:Int))):fj ws a x=ws:=by
 unfold fj
 split
 ·rfl
 ·exact List.set_eq_of_length_le (by omega)
theorem uu(ws:List Int)(a x:Int):(fj ws a x).length=ws.length:=by unfold fj;split <;> simp
def kn(ws:List Int)(a old:Int):Bool:=n9 ws a && (fM ws a == old)
def iP(ws:List Int)(a old to:Int):List Int:=if kn ws a old then fj ws a to else ws
theorem rr(ws:List Int)(a o t:Int):(iP ws a o t).length=ws.length:=by unfold iP;split <;> simp[uu]
def pB(ws:List Int)(a d:Int):Int:=if n9 ws a then (fM ws a+d) % 18446744073709551616 else 0
def kJ(ws:List Int)(a d:Int):List Int:=if n9 ws a then fj ws a ((fM ws a+d) % 18446744073709551616) else ws
theorem GK(ws:List Int)(a d:Int):(kJ ws a d).length=ws.length:=by unfold kJ;split <;> simp[uu]
def uo(ws:List Int)(k at_ a:Int):Int:=if k=1 then fM ws at_ else if k=2∨k=3 then 0 else pB ws at_ a
def tJ(ws:List Int)(k at_ a:Int):Bool:=if k=3 then kn ws at_ a else false
def tI(ws:List Int)(k at_ a b:Int):List Int:=if k=1 then ws else if k=2 then fj ws at_ a else if k=3 then iP ws at_ a b else kJ ws at_ a
def ns(q n:Nat):List AV:=[.int .i64 n,.ae q 0 n 1]
theorem rP{ws:List Int}{k:Nat}(h:k<ws.length):(aL ws)[0+((k:Int)).toNat*1]?=some (.int .u64 (ws.getD k 0)):=by
 simp[aL,h,List.getD]
theorem SI{ws:List Int}{k:Nat}(x:Int):(aL ws).set k (.int .u64 x)=aL (ws.set k x):=by simp[aL,List.map_set]
theorem uH{ws:List Int}{k:Nat}(x:Int)(h:k<ws.length):ju ⟨.int .u64,1,8,[.int .u64 0]⟩ (aL ws) (0+((k:Int)).toNat*1) (.int .u64 x)=some (aL (ws.set k x)):=by
 have e:0+((k:Int)).toNat*1=k:=by omega
 have h2:Nat.ble (k+1) (aL ws).length=true:=Nat.ble_eq_true_of_le (by simp[aL];omega)
 rw[e]
 show (match Nat.beq 1 1,Nat.ble (k+1) (aL ws).length with | true,true=>some (er (aL ws) k [.int .u64 x]) | _,_=>none)=_
 rw[h2]
 show some ((aL ws).set k (.int .u64 x))=_
 rw[SI]
set_option maxRecDepth 100000
theorem BK(n a:Int)(σ:Hp):ACalls Tryz.prog 44 [.agg [.int .i64 n],.int .i64 a] σ (aB (.bool (decide (0≤a) && decide (a<n))) σ):=by
 refine okF Tryz.func44 (by kernel_rfl) ?_
 intro b
 refine an (fun h =>?_) (fun h =>?_)
 ·refine aa.mk 0 _ _ rfl rfl ?_
  refine an (fun h2 =>?_) (fun h2 =>?_)
  ·exact .drop 0 1 (.done ⟨bz (by simp[h,h2]),rfl⟩)
  ·exact .drop 0 1 (.done ⟨bz (by simp[h2]),rfl⟩)
 ·exact .drop 0 1 (.done ⟨bz (by simp[h]),rfl⟩)
theorem MT(n:Int)(σ:Hp):ACalls Tryz.prog 43 [.int .i64 n] σ (aB (.agg [.int .i64 (jG n)]) σ):=by
 refine okF Tryz.func43 (by kernel_rfl) ?_
 intro b
 refine ai.mk 0 _ _ rfl rfl ?_
 refine aa.mk 0 _ _ rfl rfl ?_
 refine .drop 0 1 (.done ⟨?_,rfl⟩)
 show AV.agg [.int .i64 (if (1048576:Int)<(if n<0 then 0 else n) then 1048576 else (if n<0 then 0 else n))]=_
 have e:(if (1048576:Int)<(if n<0 then 0 else n) then 1048576 else (if n<0 then 0 else n))=((jG n:Nat):Int):=by
  unfold jG
  by_cases h:n<0
  ·simp only[if_pos h];omega
  ·simp only[if_neg h];split <;> omega
 rw[e]
theorem MP(n:Int)(σ:Hp):ACalls Tryz.prog 12 [.int .i64 n] σ (fun r σ'=>∃p q,r=.ptr p 0∧σ'=(p,ns q (jG n))::(q,aL (List.replicate (jG n) 0))::σ):=by
 have hc:=Kw n
 refine okF Tryz.func12 (by kernel_rfl) ?_
 refine az [] (MT n σ) ?_
 refine az [] (MT n σ) ?_
 refine ah.mk ⟨by omega,Int.le_refl _,by omega,by decide⟩ ?_
 intro q p
 refine .done ⟨p,q,rfl,?_⟩
 show (p,_)::(q,_)::σ=_
 rw[show ((jG n:Int)).toNat=jG n by omega,show (bN [AV.int .u64 0] (jG n))=_ from uK _]
 rfl
theorem aLoad(p q:Nat)(ws:List Int)(a:Int)(σ:Hp):ACalls Tryz.prog 16 [.ptr p 0,.int .i64 a] ((p,ns q ws.length)::(q,aL ws)::σ) (aB (.int .u64 (fM ws a)) ((p,ns q ws.length)::(q,aL ws)::σ)):=by
 refine okF Tryz.func16 (by kernel_rfl) ?_
 refine aa.mk 0 _ _ rfl rfl ?_
 refine az [] (BK ws.length a _) ?_
 by_cases hh:0≤a∧a<(ws.length:Int)
 ·rw[wV a ws.length hh.1 hh.2]
  obtain⟨k,rfl⟩:=Int.eq_ofNat_of_zero_le hh.1
  have hk:k<ws.length:=by omega
  refine aa.mk 0 _ _ rfl rfl ?_
  refine ah.mk ⟨rfl,hh.1,hh.2⟩ ?_
  refine aa.mk 1 _ _ rfl (rP hk) ?_
  exact .done ⟨aN kE.symm,rfl⟩
 ·rw[wM a ws.length hh]
  exact .done ⟨aN (Iq hh).symm,rfl⟩
abbrev aY(p q:Nat)(ws:List Int)(σ:Hp):Hp:=(p,ns q ws.length)::(q,aL ws)::σ
theorem aStore(p q:Nat)(ws:List Int)(a x:Int)(σ:Hp):ACalls Tryz.prog 14 [.ptr p 0,.int .i64 a,.int .u64 x] (aY p q ws σ) (aB (.tup []) (aY p q (fj ws a x) σ)):=by
 refine okF Tryz.func14 (by kernel_rfl) ?_
 refine aa.mk 0 _ _ rfl rfl ?_
 refine az [] (BK ws.length a _) ?_
 by_cases hh:0≤a∧a<(ws.length:Int)
 ·rw[wV a ws.length hh.1 hh.2]
  obtain⟨k,rfl⟩:=Int.eq_ofNat_of_zero_le hh.1
  have hk:k<ws.length:=by omega
  refine aa.mk 0 _ _ rfl rfl ?_
  refine ah.mk ⟨rfl,hh.1,hh.2⟩ ?_
  refine ai.mk 1 _ _ rfl (uH x hk) ?_
  refine .done ⟨rfl,?_⟩
  show (p,ns q ws.length)::(q,aL (ws.set k x))::σ=_
  rw[jn];unfold aY;rw[List.length_set]
 ·rw[wM a ws.length hh]
  refine .done ⟨rfl,?_⟩
  rw[Hn hh];rfl
theorem aCas(p q:Nat)(ws:List Int)(a x y:Int)(σ:Hp):ACalls Tryz.prog 379 [.ptr p 0,.int .i64 a,.int .u64 x,.int .u64 y] (aY p q ws σ) (aB (.bool (kn ws a x)) (aY p q (iP ws a x y) σ)):=by
 refine okF Tryz.func379 (by kernel_rfl) ?_
 refine aa.mk 0 _ _ rfl rfl ?_
 refine az [] (BK ws.length a _) ?_
 by_cases hh:0≤a∧a<(ws.length:Int)
 ·rw[wV a ws.length hh.1 hh.2]
  have hH:=C0 hh.1 hh.2
  obtain⟨k,rfl⟩:=Int.eq_ofNat_of_zero_le hh.1
  have hk:k<ws.length:=by omega
  refine aa.mk 0 _ _ rfl rfl ?_
  refine ah.mk ⟨rfl,hh.1,hh.2⟩ ?_
  refine aa.mk 1 _ _ rfl (rP hk) ?_
  refine bS (fun he =>?_) (fun he =>?_)
  ·have he:¬ws.getD k 0=x:=by simpa using he
   have e1:kn ws k x=false:=by unfold kn;rw[hH,kE];simpa using he
   refine .done ⟨by rw[e1];rfl,?_⟩
   rw[show iP ws k x y=ws by simp[iP,e1]];rfl
  ·have he:ws.getD k 0=x:=by simpa using he
   have e1:kn ws k x=true:=by unfold kn;rw[hH,kE,he];simp
   refine aa.mk 0 _ _ rfl rfl ?_
   refine ah.mk ⟨rfl,hh.1,hh.2⟩ ?_
   refine ai.mk 1 _ _ rfl (uH y hk) ?_
   refine .done ⟨by rw[e1];rfl,?_⟩
   show (p,ns q ws.length)::(q,aL (ws.set k y))::σ=_
   rw[show iP ws k x y=ws.set k y by simp[iP,e1,jn]];unfold aY;rw[List.length_set]
 ·have hb:=wM a ws.length hh
  rw[hb]
  have e1:kn ws a x=false:=by simp only[kn,n9,hb,Bool.false_and]
  refine .done ⟨by rw[e1];rfl,?_⟩
  rw[show iP ws a x y=ws by simp[iP,e1]];rfl
theorem aAdd(p q:Nat)(ws:List Int)(a d:Int)(σ:Hp):ACalls Tryz.prog 378 [.ptr p 0,.int .i64 a,.int .u64 d] (aY p q ws σ) (aB (.int .u64 (pB ws a d)) (aY p q (kJ ws a d) σ)):=by
 refine okF Tryz.func378 (by kernel_rfl) ?_
 refine aa.mk 0 _ _ rfl rfl ?_
 refine az [] (BK ws.length a _) ?_
 by_cases hh:0≤a∧a<(ws.length:Int)
 ·rw[wV a ws.length hh.1 hh.2]
  have hH:=C0 hh.1 hh.2
  obtain⟨k,rfl⟩:=Int.eq_ofNat_of_zero_le hh.1
  have hk:k<ws.length:=by omega
  have e1:pB ws k d=IntKind.u64.wrap (ws.getD k 0+d):=by rw[IntKind.wrap_u64];simp only[pB,hH,if_true,kE]
  have e2:kJ ws k d=ws.set k (IntKind.u64.wrap (ws.getD k 0+d)):=by rw[IntKind.wrap_u64];simp only[kJ,hH,if_true,kE,jn]
  refine aa.mk 0 _ _ rfl rfl ?_
  refine ah.mk ⟨rfl,hh.1,hh.2⟩ ?_
  refine aa.mk 1 _ _ rfl (rP hk) ?_
  refine ah.mk ⟨rfl,hh.1,hh.2⟩ ?_
  refine ai.mk 1 _ _ rfl (uH _ hk) ?_
  refine aa.mk 0 _ _ rfl rfl ?_
  refine ah.mk ⟨rfl,hh.1,hh.2⟩ ?_
  refine aa.mk 1 _ _ rfl (rP (ws:=ws.set k (IntKind.u64.wrap (ws.getD k 0+d))) (by rw[List.length_set];exact hk)) ?_
  refine .done ⟨aN (by rw[e1];simp[List.getD,hk]),?_⟩
  rw[e2];unfold aY;rw[List.length_set];rfl
 ·have hb:=wM a ws.length hh
  rw[hb]
  refine .done ⟨aN (by unfold pB;unfold n9;rw[hb];rfl),?_⟩
  rw[show kJ ws a d=ws by unfold kJ n9;rw[hb];rfl];rfl
theorem qL(p q:Nat)(ws:List Int)(σ:Hp):ACalls Tryz.prog 13 [.ptr p 0] (aY p q ws σ) (aB (.int .i64 ws.length) (aY p q ws σ)):=by
 refine okF Tryz.func13 (by kernel_rfl) ?_
 refine aa.mk 0 _ _ rfl rfl ?_
 exact .done ⟨rfl,rfl⟩
set_option maxRecDepth 100000
theorem mLen_ : Meth Tryz.prog 34 "Len" 13 := fun a w => by kernel_rfl
theorem mLoad_ : Meth Tryz.prog 34 "Load" 16 := fun a w => by kernel_rfl
theorem mStore_ : Meth Tryz.prog 34 "Store" 14 := fun a w => by kernel_rfl
theorem mCAS_ : Meth Tryz.prog 34 "CAS" 379 := fun a w => by kernel_rfl
theorem mAdd_ : Meth Tryz.prog 34 "Add" 378 := fun a w => by kernel_rfl
theorem hStore_ : AheadOk Tryz.prog 34 "Store" := fun a w => by kernel_rfl
theorem hCAS_ : AheadOk Tryz.prog 34 "CAS" := fun a w => by kernel_rfl
theorem hAdd_ : AheadOk Tryz.prog 34 "Add" := fun a w => by kernel_rfl
theorem hLoad_ : AheadOk Tryz.prog 34 "Load" := fun a w => by kernel_rfl
abbrev gx(p:Nat):AV:=.iface 34 (.ptr p 0)
theorem cu(t:Nat)(x:AV)(σ:Hp):ACalls Tryz.prog 45 [.iface t x] σ (aB (.iface t x) σ):=by
 refine okF Tryz.func45 (by kernel_rfl) ?_
 exact .done ⟨rfl,rfl⟩
theorem IT{ws:List Int}{k:Nat}(h:k<ws.length):(aL (ws.take k)).take (k*1)++[AV.int .u64 (ws.getD k 0)]=aL (ws.take (k+1)):=by
 rw[List.take_succ_eq_append_getElem h]
 unfold aL
 rw[List.map_append,List.take_of_length_le (by simp;omega)]
 simp[List.getD,h]
theorem X3(p q:Nat)(ws:List Int)(σ:Hp)(hl:ws.length≤1000000):ACalls Tryz.prog 19 [gx p] (aY p q ws σ) (aB (.af (.int .u64) ws) (aY p q ws σ)):=by
 refine okF Tryz.func19 (by kernel_rfl) ?_
 refine az [] (cu _ _ _) ?_
 refine InvAt.mk _ mLen_ ?_
 refine az [] (qL p q ws σ) ?_
 refine aU (S:=Nat×AV×Hp) (fun s=>[(0,gx p),(3,s.2.1),(8,.int .i64 ws.length),(9,.int .i64 s.1)]) (fun s=>s.2.2) (fun s=>s.1≤ws.length∧((s.1=0∧s.2.1=.aj∧s.2.2=aY p q ws σ)∨(0<s.1∧∃b,s.2.1=.ae b 0 s.1 1∧s.2.2=(b,aL (ws.take s.1))::aY p q ws σ))) (fun s=>ws.length-s.1) (0,.aj,aY p q ws σ) ⟨⟨Nat.zero_le _,.inl ⟨rfl,rfl,rfl⟩⟩,⟨rfl,rfl,rfl,rfl,trivial⟩,rfl⟩ ?_
 rintro⟨k,v,σ'⟩ g ⟨hk,hs⟩
 have hk:k≤ws.length:=hk
 simp only at hs
 rcases hs with ⟨rfl,rfl,rfl⟩ | ⟨mi,b,rfl,rfl⟩
 ·refine an (fun ab =>?_) (fun aq =>?_)
  ·have ab:((0:Nat):Int)<ws.length:=ab
   have ab:0<ws.length:=by omega
   refine InvAt.mk _ mLoad_ ?_
   refine az [] (aLoad p q ws ((0:Nat):Int) σ) ?_
   intro b
   refine AppendAt.fresh 1 _ (.inl rfl) (.ae 0 b 0 1 _ rfl (Nat.le_of_ble_eq_true rfl)) (by decide) (by decide) (by decide) (fun _ b' =>?_) (fun h=>absurd h (by decide))
   refine aH (1,.ae b' 0 1 1,(b',aL (ws.take 1))::aY p q ws σ) ?_ ?_ ?_ ?_
   ·show ws.length-1<ws.length-0;omega
   ·exact⟨ab,.inr ⟨Nat.one_pos,b',rfl,rfl⟩⟩
   ·exact⟨rfl,rfl,rfl,aI (k:=0) (by omega),trivial⟩
   refine .drop 1 1 (aF ?_)
   show (b',[AV.int .u64 (fM ws ((0:Nat):Int))])::aY p q ws σ=(b',aL (ws.take 1))::aY p q ws σ
   rw[kE,← IT ab];rfl
  ·have aq:¬((0:Nat):Int)<ws.length:=aq
   have:ws=[]:=List.length_eq_zero_iff.1 (by omega)
   subst this
   exact .nil (.nil _) (.done ⟨rfl,rfl⟩)
 ·have mi:0<k:=mi
  refine an (fun ab =>?_) (fun aq =>?_)
  ·have ab:(k:Int)<ws.length:=ab
   have ab:k<ws.length:=by omega
   refine InvAt.mk _ mLoad_ ?_
   refine az [2,2] (aLoad p q ws (k:Int) ((b,aL (ws.take k))::σ)) ?_
   intro b1
   refine AppendAt.more 3 b k 1 (aL (ws.take k)) _ rfl rfl (by simp[aL];omega) (.ae 0 b1 0 1 _ rfl (Nat.le_of_ble_eq_true rfl)) (by omega) (by decide) (by decide) (fun b' =>?_)
   refine aH (k+1,.ae b' 0 (k+1) 1,(b',aL (ws.take (k+1)))::aY p q ws σ) ?_ ?_ ?_ ?_
   ·show ws.length-(k+1)<ws.length-k;omega
   ·exact⟨ab,.inr ⟨Nat.succ_pos _,b',rfl,rfl⟩⟩
   ·exact⟨rfl,rfl,rfl,aI (by omega),trivial⟩
   refine .drop 1 1 (aF ?_)
   show (b',(aL (ws.take k)).take (k*1)++[AV.int .u64 (fM ws (k:Int))])::aY p q ws σ=(b',aL (ws.take (k+1)))::aY p q ws σ
   rw[kE,IT ab]
  ·have aq:¬(k:Int)<ws.length:=aq
   obtain rfl:k=ws.length:=by omega
   rw[List.take_length]
   exact .bO 0 b 0 ws.length 1 _ (.int .u64) ws rfl (by rw[← ka];exact List.take_of_length_le (by simp[aL])) ⟨rfl,rfl,by decide⟩ .here (.done ⟨rfl,rfl⟩)
end Go.Proofs.YtnpidbjdilnhlaaGreat
namespace Go.Proofs.YtnpidbjdilnhlaaGreat
open Go.RowKit
structure gM where
 A:Type
 ld:A→Int→Int×A
 st:A→Int→Int→A
 cs:A→Int→Int→Int→Bool×A
 ad:A→Int→Int→Int×A
 ln:A→Int
 free:A→Prop
abbrev dK:gM where
 A:=List Int
 ld ws a:=(fM ws a,ws)
 st ws a x:=fj ws a x
 cs ws a x y:=(kn ws a x,iP ws a x y)
 ad ws a d:=(pB ws a d,kJ ws a d)
 ln ws:=ws.length
 free _:=True
structure AMem where
 O:gM
 S:Type
 abs:S→O.A
 B:S→Hp
 t:TypeId
 p:Nat
 load : ∃ g, Meth Tryz.prog t "Load" g ∧ ∀ (s : S) (a : Int) (σ : Hp), O.free (abs s) → ACalls Tryz.prog g [.ptr p 0, .int .i64 a] (B s ++ σ) (fun r σ' => ∃ s', abs s' = (O.ld (abs s) a).2 ∧ r = .int .u64 (O.ld (abs s) a).1 ∧ σ' = B s' ++ σ)
 store : ∃ g, Meth Tryz.prog t "Store" g ∧ ∀ (s : S) (a x : Int) (σ : Hp), O.free (abs s) → ACalls Tryz.prog g [.ptr p 0, .int .i64 a, .int .u64 x] (B s ++ σ) (fun r σ' => ∃ s', abs s' = O.st (abs s) a x ∧ r = .tup [] ∧ σ' = B s' ++ σ)
 cas : ∃ g, Meth Tryz.prog t "CAS" g ∧ ∀ (s : S) (a x y : Int) (σ : Hp), O.free (abs s) → ACalls Tryz.prog g [.ptr p 0, .int .i64 a, .int .u64 x, .int .u64 y] (B s ++ σ) (fun r σ' => ∃ s', abs s' = (O.cs (abs s) a x y).2 ∧ r = .bool (O.cs (abs s) a x y).1 ∧ σ' = B s' ++ σ)
 add : ∃ g, Meth Tryz.prog t "Add" g ∧ ∀ (s : S) (a d : Int) (σ : Hp), O.free (abs s) → ACalls Tryz.prog g [.ptr p 0, .int .i64 a, .int .u64 d] (B s ++ σ) (fun r σ' => ∃ s', abs s' = (O.ad (abs s) a d).2 ∧ r = .int .u64 (O.ad (abs s) a d).1 ∧ σ' = B s' ++ σ)
 hL : AheadOk Tryz.prog t "Load"
 hS : AheadOk Tryz.prog t "Store"
 hC : AheadOk Tryz.prog t "CAS"
 hA : AheadOk Tryz.prog t "Add"
 len : ∃ g, Meth Tryz.prog t "Len" g ∧ ∀ (s : S) (σ : Hp), ACalls Tryz.prog g [.ptr p 0] (B s ++ σ) (fun r σ' => ∃ s', abs s' = abs s ∧ r = .int .i64 (O.ln (abs s)) ∧ σ' = B s' ++ σ)
abbrev AMem.v(M:AMem):AV:=.iface M.t (.ptr M.p 0)
theorem oW(fr b σ:Hp):(b++(fr++σ)).Perm (fr++(b++σ)):=by
 rw[← List.append_assoc,← List.append_assoc]
 exact List.Perm.append_right _ List.perm_append_comm
section
variable (M:AMem) (fr:Hp) {s:M.S} {σ:Hp} {K:AV→Hp→Prop}
theorem AMem.aLoad {a : Int} (hf : M.O.free (M.abs s)) (k : ∀ s', M.abs s' = (M.O.ld (M.abs s) a).2 → K (.int .u64 (M.O.ld (M.abs s) a).1) (fr ++ (M.B s' ++ σ))) : InvAt Tryz.prog M.t "Load" fun g => CallAt Tryz.prog g K [.ptr M.p 0, .int .i64 a] (fr ++ (M.B s ++ σ)) := by
 obtain⟨g,h1,h2⟩:=M.load
 refine⟨g,h1,.perm _ (oW fr (M.B s) σ) (h2 s a (fr++σ) hf) ?_⟩
 rintro r σ' ⟨s',h3,rfl,rfl⟩
 exact⟨_,(oW fr (M.B s') σ).symm,k s' h3⟩
theorem AMem.aStore {a x : Int} (hf : M.O.free (M.abs s)) (k : ∀ s', M.abs s' = M.O.st (M.abs s) a x → K (.tup []) (fr ++ (M.B s' ++ σ))) : InvAt Tryz.prog M.t "Store" fun g => CallAt Tryz.prog g K [.ptr M.p 0, .int .i64 a, .int .u64 x] (fr ++ (M.B s ++ σ)) := by
 obtain⟨g,h1,h2⟩:=M.store
 refine⟨g,h1,.perm _ (oW fr (M.B s) σ) (h2 s a x (fr++σ) hf) ?_⟩
 rintro r σ' ⟨s',h3,rfl,rfl⟩
 exact⟨_,(oW fr (M.B s') σ).symm,k s' h3⟩
theorem AMem.aCas {a x y : Int} (hf : M.O.free (M.abs s)) (k : ∀ s', M.abs s' = (M.O.cs (M.abs s) a x y).2 → K (.bool (M.O.cs (M.abs s) a x y).1) (fr ++ (M.B s' ++ σ))) : InvAt Tryz.prog M.t "CAS" fun g => CallAt Tryz.prog g K [.ptr M.p 0, .int .i64 a, .int .u64 x, .int .u64 y] (fr ++ (M.B s ++ σ)) := by
 obtain⟨g,h1,h2⟩:=M.cas
 refine⟨g,h1,.perm _ (oW fr (M.B s) σ) (h2 s a x y (fr++σ) hf) ?_⟩
 rintro r σ' ⟨s',h3,rfl,rfl⟩
 exact⟨_,(oW fr (M.B s') σ).symm,k s' h3⟩
theorem AMem.aCasB {a x y : Int} (hf : M.O.free (M.abs s)) (k1 : ∀ s', M.abs s' = (M.O.cs (M.abs s) a x y).2 → (M.O.cs (M.abs s) a x y).1 = true → K (.bool true) (fr ++ (M.B s' ++ σ))) (k2 : ∀ s', M.abs s' = (M.O.cs (M.abs s) a x y).2 → (M.O.cs (M.abs s) a x y).1 = false → K (.bool false) (fr ++ (M.B s' ++ σ))) : InvAt Tryz.prog M.t "CAS" fun g => CallAt Tryz.prog g K [.ptr M.p 0, .int .i64 a, .int .u64 x, .int .u64 y] (fr ++ (M.B s ++ σ)) :=
 M.aCas fr hf fun s' h=>by
  cases hb:(M.O.cs (M.abs s) a x y).1 with
  | true=>exact k1 s' h hb
  | false=>exact k2 s' h hb
theorem AMem.aAdd {a d : Int} (hf : M.O.free (M.abs s)) (k : ∀ s', M.abs s' = (M.O.ad (M.abs s) a d).2 → K (.int .u64 (M.O.ad (M.abs s) a d).1) (fr ++ (M.B s' ++ σ))) : InvAt Tryz.prog M.t "Add" fun g => CallAt Tryz.prog g K [.ptr M.p 0, .int .i64 a, .int .u64 d] (fr ++ (M.B s ++ σ)) := by
 obtain⟨g,h1,h2⟩:=M.add
 refine⟨g,h1,.perm _ (oW fr (M.B s) σ) (h2 s a d (fr++σ) hf) ?_⟩
 rintro r σ' ⟨s',h3,rfl,rfl⟩
 exact⟨_,(oW fr (M.B s') σ).symm,k s' h3⟩
end
def tc(p q:Nat):AMem where
 O:=dK
 S:=List Int
 abs ws:=ws
 B ws:=[(p,ns q ws.length),(q,aL ws)]
 t:=34
 p:=p
 load:=⟨_,mLoad_,fun ws a σ _=>(Go.Proofs.YtnpidbjdilnhlaaGreat.aLoad p q ws a σ).mono fun _ _ h=>⟨ws,rfl,h.1,h.2⟩⟩
 store:=⟨_,mStore_,fun ws a x σ _=>(Go.Proofs.YtnpidbjdilnhlaaGreat.aStore p q ws a x σ).mono fun _ _ h=>⟨_,rfl,h.1,h.2⟩⟩
 cas:=⟨_,mCAS_,fun ws a x y σ _=>(Go.Proofs.YtnpidbjdilnhlaaGreat.aCas p q ws a x y σ).mono fun _ _ h=>⟨_,rfl,h.1,h.2⟩⟩
 add:=⟨_,mAdd_,fun ws a d σ _=>(Go.Proofs.YtnpidbjdilnhlaaGreat.aAdd p q ws a d σ).mono fun _ _ h=>⟨_,rfl,h.1,h.2⟩⟩
 hL:=hLoad_
 hS:=hStore_
 hC:=hCAS_
 hA:=hAdd_
 len:=⟨_,mLen_,fun ws σ=>(Go.Proofs.YtnpidbjdilnhlaaGreat.qL p q ws σ).mono fun _ _ h=>⟨ws,rfl,h.1,h.2⟩⟩
end Go.Proofs.YtnpidbjdilnhlaaGreat
namespace Go.Proofs.YtnpidbjdilnhlaaGreat
open Go.RowKit
set_option maxRecDepth 100000
abbrev wr(n:Int):Int:=IntKind.i64.wrap n
structure Tk where
 f:Int
 c:Int
 v:Int
 new:Bool
 ended:Bool
 iN:Bool
def tO(t:Tk):List AV:=[.int .i64 t.f,.int .i64 t.c,.int .i64 t.v,.bool t.new,.bool t.ended,.bool t.iN]
def kI(O:gM)(t:Tk)(a:O.A):Tk×O.A×Bool:=
 if t.ended then (t,a,true)
 else if t.iN then ({ t with ended:=true },(O.ad a t.c 1).2,true)
 else if 0≤t.v then
  (if (O.cs a (wr (t.f+t.v)) 0 1).1 then ({ t with iN:=true,new:=true },(O.cs a (wr (t.f+t.v)) 0 1).2,false) else ({ t with iN:=true,new:=false,ended:=true },(O.cs a (wr (t.f+t.v)) 0 1).2,true))
 else ({ t with iN:=true,new:=false,ended:=true },a,true)
def mg(M:AMem)(σ:Hp){X:Type}(B:X→List AV)(r:Nat)(res:X×M.O.A×Bool):AV→Hp→Prop:=
 fun x σ'=>∃m',M.abs m'=res.2.1∧x=.bool res.2.2∧σ'=(r,B res.1)::(M.B m'++σ)
theorem gJ{M:AMem}{σ:Hp}{X:Type}{B:X→List AV}{r:Nat}{res:X×M.O.A×Bool}{x:X}{a:M.O.A}{b:Bool}{m':M.S}(h:res=(x,a,b))(hm:M.abs m'=a):mg M σ B r res (.bool b) ((r,B x)::(M.B m'++σ)):=by
 subst h
 exact⟨m',hm,rfl,rfl⟩
theorem Bg(M:AMem)(r:Nat)(t:Tk)(m:M.S)(d:Int)(σ:Hp)(hf:M.O.free (M.abs m)):ACalls Tryz.prog 375 [.ptr r 0,M.v,.int .i64 d] ((r,tO t)::(M.B m++σ)) (mg M σ tO r (kI M.O t (M.abs m))):=by
 refine okF Tryz.func375 (by kernel_rfl) ?_
 refine aa.gy 0 _ _ rfl rfl (fun h0 =>?_) (fun h0 =>?_)
 ·exact .done (gJ (x:=t) (by simp[kI,h0]) rfl)
 refine az [] (cu _ _ _) ?_
 refine aa.gy 0 _ _ rfl rfl (fun h1 =>?_) (fun h1 =>?_)
 ·refine .each (by kernel_rfl) ?_
  refine aa.mk 0 _ _ rfl rfl ?_
  refine dL.mk M.hA ?_
  refine M.aAdd [_] hf fun m' hm =>?_
  refine .fwd 1 ?_
  refine ai.mk 0 _ _ rfl rfl ?_
  exact .done (gJ (x:= { t with ended:=true }) (by simp[kI,h0,h1]) hm)
 refine ai.mk 0 _ _ rfl rfl ?_
 refine .each (by kernel_rfl) ?_
 by_cases h2:0≤t.v
 ·repeat' first
   | refine And.intro ?_ ?_
   | refine aa.mk 0 _ _ rfl rfl ?_
   | refine an (fun _ =>?_) (fun h=>absurd h2 h)
   | refine dL.mk M.hC ?_
  all_goals
   refine M.aCasB [_] hf (fun m' hm hb =>?_) (fun m' hm hb =>?_)
   ·refine ai.mk 0 _ _ rfl rfl ?_
    refine aa.mk 0 _ _ rfl rfl ?_
    exact .done (gJ (x:= { t with iN:=true,new:=true }) (by simp[kI,h0,h1,h2,hb]) hm)
   ·refine ai.mk 0 _ _ rfl rfl ?_
    refine aa.mk 0 _ _ rfl rfl ?_
    refine ai.mk 0 _ _ rfl rfl ?_
    exact .done (gJ (x:= { t with iN:=true,new:=false,ended:=true }) (by simp[kI,h0,h1,h2,hb]) hm)
 ·repeat' first
   | refine And.intro ?_ ?_
   | refine aa.mk 0 _ _ rfl rfl ?_
   | refine an (fun h=>absurd h h2) (fun _ =>?_)
   | refine ai.mk 0 _ _ rfl rfl ?_
  all_goals
   exact .done (gJ (x:= { t with iN:=true,new:=false,ended:=true }) (by simp[kI,h0,h1,h2]) rfl)
structure Ck where
 f:Int
 c:Int
 v:Int
 ended:Bool
def za(t:Ck):List AV:=[.int .i64 t.f,.int .i64 t.c,.int .i64 t.v,.bool t.ended]
def nU(O:gM)(t:Ck)(a:O.A):Ck×O.A×Bool:=
 if t.ended then (t,a,true) else ({ t with ended:=true },if 0≤t.v then O.st a (wr (t.f+t.v)) 0 else a,true)
theorem Lu(M:AMem)(r:Nat)(t:Ck)(m:M.S)(d:Int)(σ:Hp)(hf:M.O.free (M.abs m)):ACalls Tryz.prog 372 [.ptr r 0,M.v,.int .i64 d] ((r,za t)::(M.B m++σ)) (mg M σ za r (nU M.O t (M.abs m))):=by
 refine okF Tryz.func372 (by kernel_rfl) ?_
 refine aa.gy 0 _ _ rfl rfl (fun h0 =>?_) (fun h0 =>?_)
 ·exact .done (gJ (x:=t) (by simp[nU,h0]) rfl)
 refine ai.mk 0 _ _ rfl rfl ?_
 refine aa.mk 0 _ _ rfl rfl ?_
 refine an (fun h2 =>?_) (fun h2 =>?_)
 ·have h2:0≤t.v:=h2
  refine .each (by kernel_rfl) ?_
  repeat' first
   | refine And.intro ?_ ?_
   | refine aa.mk 0 _ _ rfl rfl ?_
   | refine az [] (cu _ _ _) ?_
   | refine dL.mk M.hS ?_
  all_goals
   refine M.aStore [_] hf fun m' hm =>?_
   exact .done (gJ (x:= { t with ended:=true }) (by simp[nU,h0,h2]) hm)
 ·have h2:¬0≤t.v:=h2
  exact .done (gJ (x:= { t with ended:=true }) (by simp[nU,h0,h2]) rfl)
structure Rk where
 f:Int
 c:Int
 left:Int
 ended:Bool
def yo(t:Rk):List AV:=[.int .i64 t.f,.int .i64 t.c,.int .i64 t.left,.bool t.ended]
def o7(O:gM)(t:Rk)(a:O.A):Rk×O.A×Bool:=
 if t.ended then (t,a,true) else ({ t with ended:=true,left:=wr (O.ad a t.c 18446744073709551615).1 },(O.ad a t.c 18446744073709551615).2,true)
theorem KA(M:AMem)(r:Nat)(t:Rk)(m:M.S)(d:Int)(σ:Hp)(hf:M.O.free (M.abs m)):ACalls Tryz.prog 377 [.ptr r 0,M.v,.int .i64 d] ((r,yo t)::(M.B m++σ)) (mg M σ yo r (o7 M.O t (M.abs m))):=by
 refine okF Tryz.func377 (by kernel_rfl) ?_
 refine aa.gy 0 _ _ rfl rfl (fun h0 =>?_) (fun h0 =>?_)
 ·exact .done (gJ (x:=t) (by simp[o7,h0]) rfl)
 refine ai.mk 0 _ _ rfl rfl ?_
 refine .each (by kernel_rfl) ?_
 repeat' first
  | refine And.intro ?_ ?_
  | refine aa.mk 0 _ _ rfl rfl ?_
  | refine az [] (cu _ _ _) ?_
  | refine dL.mk M.hA ?_
 all_goals
  refine M.aAdd [_] hf fun m' hm =>?_
  refine ai.mk 0 _ _ rfl rfl ?_
  exact .done (gJ (x:= { t with ended:=true,left:=wr (M.O.ad (M.abs m) t.c 18446744073709551615).1 }) (by simp[o7,h0]) hm)
structure Qk where
 f:Int
 c:Int
 is:Bool
 ended:Bool
def yp(t:Qk):List AV:=[.int .i64 t.f,.int .i64 t.c,.bool t.is,.bool t.ended]
def nT(O:gM)(t:Qk)(a:O.A):Qk×O.A×Bool:=
 if t.ended then (t,a,true) else ({ t with ended:=true,is:=decide ((O.ld a t.c).1=0) },(O.ld a t.c).2,true)
theorem AT(M:AMem)(r:Nat)(t:Qk)(m:M.S)(d:Int)(σ:Hp)(hf:M.O.free (M.abs m)):ACalls Tryz.prog 371 [.ptr r 0,M.v,.int .i64 d] ((r,yp t)::(M.B m++σ)) (mg M σ yp r (nT M.O t (M.abs m))):=by
 refine okF Tryz.func371 (by kernel_rfl) ?_
 refine aa.gy 0 _ _ rfl rfl (fun h0 =>?_) (fun h0 =>?_)
 ·exact .done (gJ (x:=t) (by simp[nT,h0]) rfl)
 refine ai.mk 0 _ _ rfl rfl ?_
 refine .each (by kernel_rfl) ?_
 repeat' first
  | refine And.intro ?_ ?_
  | refine aa.mk 0 _ _ rfl rfl ?_
  | refine az [] (cu _ _ _) ?_
  | refine dL.mk M.hL ?_
 all_goals
  refine M.aLoad [_] hf fun m' hm =>?_
  refine an (fun h2 =>?_) (fun h2 =>?_)
  ·have h2:(M.O.ld (M.abs m) t.c).1=0:=h2
   refine ai.mk 0 _ _ rfl rfl ?_
   exact .done (gJ (x:= { t with ended:=true,is:=true }) (by simp[nT,h0,h2]) hm)
  ·have h2:¬(M.O.ld (M.abs m) t.c).1=0:=h2
   refine ai.mk 0 _ _ rfl rfl ?_
   exact .done (gJ (x:= { t with ended:=true,is:=false }) (by simp[nT,h0,h2]) hm)
end Go.Proofs.YtnpidbjdilnhlaaGreat
