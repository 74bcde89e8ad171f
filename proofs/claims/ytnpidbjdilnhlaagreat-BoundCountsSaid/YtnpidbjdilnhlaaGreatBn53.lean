import Derived.Test.YtnpidbjdilnhlaaGreatBn52
import Derived.Test.YtnpidbjdilnhlaaGreatBn44
import Derived.Test.YtnpidbjdilnhlaaGreatBn51
import Derived.Test.YtnpidbjdilnhlaaGreatBn30
import Derived.Test.YtnpidbjdilnhlaaGreatBn23
import Derived.Test.YtnpidbjdilnhlaaGreatBn11
import Derived.Test.YtnpidbjdilnhlaaGreatBn20
import Derived.Below
import Derived.ChangeOld
import Derived.OpenShut
import Derived.ProofKit
import Derived.Test.YtnpidbjdilnhlaaGreatRows
import Derived.WalkKit
namespace Go.Proofs.YtnpidbjdilnhlaaGreat
open Go.RowKit
set_option maxRecDepth 100000
set_option maxHeartbeats 4000000
section
variable {s:Sy} {l:Lay} {I:List (Nat×Nat)}
end
theorem Pe(s:Sy)(l:Lay):∀(aA:List (Int×Int×Unit)) (x:jk WA),(s6 s l aA x).us≤x.us+aA.length
 | [],x=>Nat.le_add_right _ _
 | p::aA,x=>by
  show (if x.dn.all id=true then x else s6 s l aA (iQ (dZ s l) (fun a _=>a) l.k.toNat x p)).us≤x.us+(aA.length+1)
  split
  ·omega
  ·have h:=Pe s l aA (iQ (dZ s l) (fun a _=>a) l.k.toNat x p)
   have fA:(iQ (dZ s l) (fun a _=>a) l.k.toNat x p).us=x.us+1:=by unfold iQ;split <;> rfl
   omega
theorem ZD{s:Sy}{l:Lay}{hs:LS s l}(bL:kz s l)(aA:List (Int×Int×Unit))(h:aA.length≤100000):XI s l hs (eI s l aA):=
 ((xi0 bL).go aA (by show 0+aA.length<_;omega)).1
set_option maxRecDepth 100000
set_option maxHeartbeats 4000000
theorem G4{f:WS→Int}:∀(W:List WS) (a:Nat),(∀x∈W,0≤f x)→a+SX.aE (fun x=>(f x).toNat) W<9000000000000000000→W.foldl (fun a x=>wr (a+f x)) (a:Int)=((a+SX.aE (fun x=>(f x).toNat) W:Nat):Int)
 | [],a,_,_=>rfl
 | x::W,a,h,hb=>by
  have h0:=h x (List.mem_cons_self ..)
  have ov:a+((f x).toNat+SX.aE (fun x=>(f x).toNat) W)<9000000000000000000:=hb
  have e:wr ((a:Int)+f x)=((a+(f x).toNat:Nat):Int):=by
   rw[show (a:Int)+f x=((a+(f x).toNat:Nat):Int) by omega]
   exact mN (by omega)
  show W.foldl (fun a x=>wr (a+f x)) (wr ((a:Int)+f x))=((a+((f x).toNat+SX.aE (fun x=>(f x).toNat) W):Nat):Int)
  rw[e,G4 W _ (fun y hy=>h y (List.mem_cons_of_mem _ hy)) (by omega)]
  congr 1
  omega
theorem MT:∀(l m:List Nat),l.Nodup→(∀x∈l,x∈m)→l.length≤m.length
 | [],_,_,_=>Nat.zero_le _
 | a::l,m,hn,h=>by
  obtain⟨h1,h2⟩:=List.nodup_cons.1 hn
  have ha:=h a (List.mem_cons_self ..)
  have h3:=MT l (m.erase a) h2 fun x hx=>(List.mem_erase_of_ne (fun e:x=a=>h1 (by rw[← e];exact hx))).2 (h x (List.mem_cons_of_mem _ hx))
  rw[List.length_erase,if_pos ha]at h3
  have:=List.length_pos_of_mem ha
  show l.length+1≤_
  omega
section
variable {s:Sy} {l:Lay} {hs:LS s l}
theorem ZE(_:LS s l):(pg s).length≤nN s∧(pg s).length≤(iw s.aR).length:=by
 refine⟨?_,?_⟩
 ·have:=List.length_filter_le (fun u:Nat=>s.aR.any fun e=>decide (e.2.1=(u:Int))) (List.range (nN s))
  rw[List.length_range]at this
  exact this
 ·have:=MT (pg s) ((iw s.aR).map fun e=>e.2.1.toNat) (List.Pairwise.filter _ List.nodup_range) fun u hu=>by
   obtain⟨_,h2⟩:=List.mem_filter.1 hu
   obtain⟨e,he,h3⟩:=List.any_eq_true.1 h2
   refine List.mem_map.2 ⟨e,(KU _ _).2 he,?_⟩
   rw[of_decide_eq_true h3];exact Int.toNat_natCast _
  rw[List.length_map]at this
  exact this
theorem WI.abG{a:WA}{us:Nat}(h:WI s l hs a us)(hu:us<100000000):∃E J:Nat,kR a.W=E∧lH a.W=J∧E≤nN s+J∧(J:Int)≤((pg s).length:Int)*cP s.what s.w∧E≤64*(us+1)∧J≤64*(us+1):=by
 obtain⟨hF,⟨D,T,hR,hV,hC,FA,hE,hJ⟩,eo⟩:=h
 have hk:=hs.k2
 have hl:=hR.len
 have he:SX.aE (fun x:WS=>x.ev.toNat) a.W≤a.W.length*(us+1):=xo _ _ fun x hx=>by have:=hR.ev x hx;omega
 have hj:SX.aE (fun x:WS=>x.jo.toNat) a.W≤a.W.length*(us+1):=xo _ _ fun x hx=>by have:=hR.ev x hx;omega
 have hm:a.W.length*(us+1)≤64*(us+1):=Nat.mul_le_mul_right _ (by omega)
 refine⟨_,_,?_,?_,?_,?_,Nat.le_trans he hm,Nat.le_trans hj hm⟩
 ·have:=G4 (f:=fun x=>x.ev) a.W 0 (fun x hx=>(hR.ev x hx).1) (by omega)
  rw[Nat.zero_add]at this
  exact this
 ·have:=G4 (f:=fun x=>x.jo) a.W 0 (fun x hx=>(hR.ev x hx).2.2.1) (by omega)
  rw[Nat.zero_add]at this
  exact this
 ·unfold SX.EI at hE
  have h1:(bC s l a.W a.ws D).ev=SX.aE (fun x:WS=>x.ev.toNat) a.W:=rfl
  have h2:(bC s l a.W a.ws D).jo=SX.aE (fun x:WS=>x.jo.toNat) a.W:=rfl
  omega
 ·unfold SX.JI at hJ
  have h2:(bC s l a.W a.ws D).jo=SX.aE (fun x:WS=>x.jo.toNat) a.W:=rfl
  have hh:=CI s.what s.w
  have h3:SX.aE (fun u=>E6 s l ((bC s l a.W a.ws D).cell u)) (pg s)≤(pg s).length*(cP s.what s.w).toNat:=xo _ _ fun u _=>by
   have:=K0 (what:=s.what) (w:=s.w) ((List.range (nW l)).map ((bC s l a.W a.ws D).cell u)) hs.iT.rr
   unfold E6
   omega
  have h4:(((pg s).length*(cP s.what s.w).toNat:Nat):Int)=((pg s).length:Int)*cP s.what s.w:=by
   rw[Int.natCast_mul,Int.toNat_of_nonneg hh.1]
  omega
theorem WI.bounds{a:WA}{us:Nat}(h:WI s l hs a us)(hu:us<100000000):kR a.W≤qO s∧lH a.W≤vG s∧kR a.W≤wr (s.n+lH a.W)∧0≤kR a.W∧0≤lH a.W:=by
 obtain⟨E,J,e1,e2,h1,h2,h3,h4⟩:=h.abG hu
 have hn:=hs.nn
 have hh:=CI s.what s.w
 obtain⟨h5,h6⟩:=ZE hs
 have hel:=hs.fit.um
 have bV:(iw s.aR).length≤s.aR.length:=by rw[← WC];exact NG _ _ (Nat.le_refl _)
 have h7:((pg s).length:Int)*cP s.what s.w≤(nN s:Int)*cP s.what s.w:=Int.mul_le_mul_of_nonneg_right (by omega) hh.1
 have h8:((pg s).length:Int)*cP s.what s.w≤((iw s.aR).length:Int)*cP s.what s.w:=Int.mul_le_mul_of_nonneg_right (by omega) hh.1
 have h9:(nN s:Int)*cP s.what s.w≤256*2048:=Int.mul_le_mul (by omega) hh.2 hh.1 (by omega)
 have h10:((iw s.aR).length:Int)*cP s.what s.w≤100000*2048:=Int.mul_le_mul (by omega) hh.2 hh.1 (by omega)
 have h11:0≤((iw s.aR).length:Int)*cP s.what s.w:=Int.mul_nonneg (by omega) hh.1
 have h12:0≤(nN s:Int)*cP s.what s.w:=Int.mul_nonneg (by omega) hh.1
 have hc:=GF hs.iT
 rw[e1,e2]
 refine⟨?_,?_,?_,by omega,by omega⟩
 ·unfold qO
  rw[if_pos hc,show IntKind.i64.wrap (((iw s.aR).length:Int)*cP s.what s.w)=((iw s.aR).length:Int)*cP s.what s.w from fu h11 (by omega),show IntKind.i64.wrap (s.n+((iw s.aR).length:Int)*cP s.what s.w)=s.n+((iw s.aR).length:Int)*cP s.what s.w from fu (by omega) (by omega)]
  omega
 ·unfold vG
  rw[if_pos hc,hn.1,show IntKind.i64.wrap ((nN s:Int)*cP s.what s.w)=(nN s:Int)*cP s.what s.w from fu h12 (by omega)]
  omega
 ·rw[fu (by omega) (by omega)];omega
end
set_option maxRecDepth 100000
set_option maxHeartbeats 4000000
theorem Wb{s:Sy}{l:Lay}(n:Nat)(x:jk WA)(p:Int×Int×Unit):(iQ (dZ s l) (fun a _=>a) n x p).dn.length=x.dn.length∧(iQ (dZ s l) (fun a _=>a) n x p).a.W.length=x.a.W.length:=by
 unfold iQ
 split
 ·exact⟨rfl,rfl⟩
 ·refine⟨List.length_set ..,?_⟩
  show (dZ s l x.a _ _).1.W.length=_
  unfold dZ
  split
  ·exact List.length_set ..
  ·rfl
theorem Px{s:Sy}{l:Lay}(n:Nat):∀(aA:List (Int×Int×Unit)) (x:jk WA),(ko (dZ s l) (fun a _=>a) n aA x).dn.length=x.dn.length∧(ko (dZ s l) (fun a _=>a) n aA x).a.W.length=x.a.W.length
 | [],x=>⟨rfl,rfl⟩
 | p::aA,x=>by
  show (if x.dn.all id=true then x else ko (dZ s l) (fun a _=>a) n aA (iQ (dZ s l) (fun a _=>a) n x p)).dn.length=_∧(if x.dn.all id=true then x else ko (dZ s l) (fun a _=>a) n aA (iQ (dZ s l) (fun a _=>a) n x p)).a.W.length=_
  split
  ·exact⟨rfl,rfl⟩
  ·have h1:=Px (s:=s) (l:=l) n aA (iQ (dZ s l) (fun a _=>a) n x p)
   have h2:=Wb (s:=s) (l:=l) n x p
   exact⟨h1.1.trans h2.1,h1.2.trans h2.2⟩
theorem X1(s:Sy)(l:Lay)(aA:List (Int×Int×Unit)):(eI s l aA).dn.length=l.k.toNat∧(eI s l aA).a.W.length=l.k.toNat:=by
 have h:=Px (s:=s) (l:=l) l.k.toNat aA (wz s l)
 exact⟨h.1.trans List.length_replicate,h.2.trans List.length_replicate⟩
set_option maxRecDepth 100000
def aaM(s:Sy)(l:Lay)(k:Nat)(x:jk WA):List AV:=P7 (qT l x.a.ws (nN s)) (Dx l x.a.ws (nN s)) (wr (cC x.a.ws (bN l))) (kR x.a.W) (lH x.a.W) x.us (Ij l x.a.ws k) (Qu l x.a.ws k) x.dn
structure AtI(s:Sy)(k:Nat)(l:Lay)(hs:LS s l)(x:jk WA):Prop where
 ok:kz s l
 lk:l.k=(k:Int)
 lay:gP s k=l
 xi:XI s l hs x
 dl:x.dn.length=k
 wl:x.a.W.length=k
theorem aaY{s:Sy}{k:Int}(hf:Fit s)(he:bF s k=0):∃n:Nat,k=(n:Int)∧1≤n∧n≤64:=by
 obtain⟨hs,_⟩:=D5 hf he
 have h1:=hs.k1
 have h2:=hs.k2
 rw[Hx he]at h1 h2
 exact⟨k.toNat,by omega,by omega,by omega⟩
theorem acP(s:Sy)(k:Nat)(aA:List (Int×Int×Unit))(σ:Hp)(hf:Fit s)(he:bF s k=0)(pU:aA.length≤100000):ACalls Tryz.prog 27 [.agg (bD s),.int .i64 k,.ah se aA] σ (fun r σ'=>∃(l:Lay) (hs:LS s l),AtI s k l hs (eI s l aA)∧r=.tup [.agg (aaM s l k (eI s l aA)),.int .i64 0]∧σ'=σ):=by
 obtain⟨hs,FB⟩:=D5 hf he
 obtain⟨l,hl⟩:∃l,gP s k=l:=⟨_,rfl⟩
 have hk:l.k=k:=by rw[← hl];exact Hx he
 rw[hl]at hs
 have dm:=hs.k2
 have hnn:=hs.nn
 have hn:=hs.n
 obtain⟨yP,ou⟩:=X1 s l aA
 have e:l.k.toNat=k:=by omega
 rw[e]at yP ou
 refine (abB s k l hl aA σ hf he pU (by omega) (by omega) (by omega) (by omega) ou).mono ?_
 rintro _ _ ⟨rfl,rfl,bL⟩
 exact⟨l,hs,⟨bL,hk,hl,ZD bL aA pU,yP,ou⟩,rfl,rfl⟩
set_option maxRecDepth 100000
def rL:Sy:=⟨1,1,1,[],[],[0],[([0],[0],[],())]⟩
theorem YQ:Fit rL:=⟨Io (by unfold bf;omega),by decide,by decide,by decide,by decide,fun t ht=>by
 rw[List.mem_singleton.1 ht];exact⟨Io (by unfold bf;omega),Io (by unfold bf;omega),by decide,by decide,by decide⟩⟩
theorem U1:AV.tup [.int .i64 (sk rL 1 1),.int .i64 (sl rL 1 1)]=AV.tup [.int .i64 40,.int .i64 0]:=by
 rw[show sk rL 1 1=40 by decide +kernel,show sl rL 1 1=0 by decide +kernel]
theorem XG(σ:Hp):ACalls Tryz.prog 37 [] σ (az (.bool true) σ):=by
 refine okF Tryz.func37 (by kernel_rfl) ?_
 intro aC
 intro dI
 intro pB
 intro uP
 intro bl6
 refine ai 0 ?_
 refine aa 0 ?_
 refine .iU 3 dI 0 1 1 _ (.int .u64) ([0]:List Int) rfl rfl ⟨rfl,rfl,by decide⟩ 1 0 uP _ rfl rfl ?_
 refine .iU 2 pB 0 1 1 _ (.int .u64) ([0]:List Int) rfl rfl ⟨rfl,rfl,by decide⟩ 1 1 uP _ rfl rfl ?_
 refine HJ 1 2 uP _ hY rfl rfl ?_
 refine .cb (args':=[.agg [.int .i64 1,.int .i64 1,.int .i64 1,.af,.af,.ae aC 0 1 1,.ah j7 rL.T],.int .i64 1,.int .i64 1]) 1 uP 0 1 3 _ j7 rL.T rfl rfl ⟨rfl,rfl,by decide⟩ (dK (HF (dK (.refl _) (dK (.refl _) (dK (.refl _) (dK (.refl _) (dK (.refl _) (dK (.refl _) (dK .here z7))))))) rfl) (.refl _)) ?_
 refine .cb (args':=[.agg (bD rL),.int .i64 1,.int .i64 1]) 1 aC 0 1 1 _ (.int .u64) rL.init rfl rfl ⟨rfl,rfl,by decide⟩ (dK (HF (dK (.refl _) (dK (.refl _) (dK (.refl _) (dK (.nil cI) (dK (.nil (.int .i64)) (dK .here (.refl _))))))) rfl) (.refl _)) ?_
 refine ax [] (xf (aau rL 1 1 _ YQ) U1) ?_
 exact .drop 0 1 (.done ⟨rfl,rfl⟩)
set_option maxRecDepth 100000
theorem Rh(s:Sy)(w:Int)(aA:List (Int×Int×Unit))(hi:aS s.init)(ht:∀t∈s.T,aS t.1∧aS t.2.1):ACalls Tryz.prog 7 [.agg (bD s),.int .i64 w,.ah se aA] [] (fun r _=>r=.bool true):=by
 refine okF Tryz.func7 (by kernel_rfl) ?_
 intro b3
 refine ax [] (XG _) ?_
 refine aa 0 ?_
 refine abj [] (Xs s _) (fun oo =>?_) ?_
 rotate_left
 ·exact .done rfl
 have hf:=aa8 oo hi ht
 refine ao (p:=500<(aA.length:Int)) (fun h1 =>?_) (fun h1 =>?_)
 ·exact .done rfl
 have pU:aA.length≤100000:=by omega
 obtain⟨k',eL⟩:∃x,x=(if 6<w then 6 else w):=⟨_,rfl⟩
 refine aa 0 ?_
 by_cases he:bF s k'=0
 rotate_left
 ·have hA:=fun σ=>aaJ s k' aA σ hf he
  rw[eL]at hA he
  refine ax [] (hA _) ?_
  intro aC
  refine ai 0 ?_
  refine .quiet (by kernel_rfl) ?_
  refine dx (fun c2 =>?_) (fun c2 =>?_)
  ·have c2:¬(bF s (if 6<w then 6 else w)=0):=by simpa using c2
   exact .done rfl
  ·have c2:bF s (if 6<w then 6 else w)=0:=by simpa using c2
   refine aa 0 ?_
   refine aa 1 ?_
   exact absurd c2 he
 obtain⟨n,hn,uE,mr⟩:=aaY hf he
 have hA:=fun σ=>acP s n aA σ hf (hn▸he) pU
 rw[← hn,eL]at hA
 refine .mk [] _ (hA _) ?_
 rintro _ _ ⟨l,hs,hX,rfl,rfl⟩
 obtain⟨h1,h2,h3,_,_⟩:=hX.xi.wi.bounds (by have:=Pe s l aA (wz s l);show (s6 s l aA (wz s l)).us<_;have h0:(wz s l).us=0:=rfl;omega)
 generalize eI s l aA=x at h1 h2 h3 ⊢
 intro aC
 refine ai 0 ?_
 refine .quiet (by kernel_rfl) ?_
 refine aa 0 ?_
 refine aa 1 ?_
 refine aD [] (O6 s _ hf) ?_
 refine ao (fun c1 =>?_) (fun c1 =>?_)
 ·have c1:kR x.a.W≤qO s:=c1
  refine aa 0 ?_
  refine aa 1 ?_
  refine aD [] (ZB s _ hf) ?_
  refine ao (fun c1 =>?_) (fun c1 =>?_)
  ·refine aa 0 ?_
   refine aa 1 ?_
   refine aa 0 ?_
   refine ao (fun c2 =>?_) (fun c2 =>?_)
   ·exact .done rfl
   ·have c2:¬(kR x.a.W≤IntKind.i64.wrap (s.n+lH x.a.W)):=c2
    exact absurd h3 c2
  ·have c1:¬(lH x.a.W≤vG s):=c1
   exact absurd h2 c1
 ·have c1:¬(kR x.a.W≤qO s):=c1
  exact absurd h1 c1
end Go.Proofs.YtnpidbjdilnhlaaGreat
namespace Go.Proofs.YtnpidbjdilnhlaaGreat
open Go.ChangeShapes Go.WideShapes Go.ChangeAt Go.RowKit
theorem fm{a b:Bool}(ha:a=true)(hb:b=true):(a && b)=true:=by rw[ha,hb];rfl
theorem FG:laidOutB Tryz.prog=true:=by kernel_rfl
theorem fk3:mapsRowed Tryz.prog=true:=by kernel_rfl
theorem fk7:(Tryz.prog.stops == [])=true:=by kernel_rfl
theorem fk9:(Tryz.prog.stopKnobs == [])=true:=by kernel_rfl
theorem acy:(Rows.solveFillsRow.plainKeys == Tryz.prog.plainKeys)=true:=by kernel_rfl
theorem acx:Tryz.prog.stopsHeard=true:=by kernel_rfl
theorem acw:Tryz.prog.mayEnter=true:=by kernel_rfl
theorem acv:(Rows.solveFillsRow.lifted == Tryz.prog.liftsFinal)=true:=by kernel_rfl
theorem acu:(Tryz.prog.make == some Rows.solveFillsRow.make)=true:=by kernel_rfl
theorem acr:ownKnob Tryz.prog.godebug=none:=by kernel_rfl
theorem va{F:Nat→Prop}{w:World}{x:AV}{xs:List AV}{v:Value}{vs:List Value}(h:ar F w x v)(t:gz F w xs vs.toArray):gz F w (x::xs) (v::vs).toArray:=by
 refine⟨by have:=t.1;simp at this ⊢;exact this,fun i y hy =>?_⟩
 cases i with
 | zero=>simp at hy;subst hy;simpa [Array.getD]using h
 | succ i =>
  have:=t.2 i y (by simpa using hy)
  rw[Array.getD_eq_getD_getElem?]at this ⊢
  simpa using this
theorem vn{F:Nat→Prop}{w:World}:gz F w [] ([]:List Value).toArray:=⟨rfl,fun i y hy=>by simp at hy⟩
theorem vi{F:Nat→Prop}{w:World}{k:IntKind}{n:Int}:ar F w (.int k n) (.int k n):=.int k n
theorem vl{w:World}{e:Sh}{a:Option Addr}{n c:Nat}{l:List e.T}(hp:(Sh.slice e).pos=true)(h:Reads w (.slice e) (Value.slice a n c).cells.toList l):ar (fun b=>b<w.heap.size) w (.ah e l) (.slice a n c):=
 .ah e l _ (Mv (.slice e) _ l hp h)
theorem vg{w:World}{s:Sh}{cs:Array Value}{d:s.T}(hp:s.pos=true)(h:Reads w s (Value.agg cs).cells.toList d):ar (fun b=>b<w.heap.size) w (.agg (s.cells d)) (.agg cs):=by
 obtain⟨h1,h2⟩:=jv.cells s _ d (Mv s _ d hp h)
 refine .agg _ _ (by rw[h1];rfl) (fun i x hx=>(h2 i x hx).1) (fun i x hx =>?_)
 have:=(h2 i x hx).2
 rw[List.getD_eq_getElem?_getD,Array.getElem?_toList,← Array.getD_eq_getD_getElem?]at this
 exact this
theorem Lu{w:World}{e:Sh}{cs:List Value}{l:List e.T}(h:Reads w (.slice e) cs l):∀x∈l,∃cs',Reads w e cs' x:=by
 obtain⟨a,c,_,_,_,_,h3⟩:=h
 intro x hx
 obtain⟨i,hi,rfl⟩:=List.mem_iff_getElem.1 hx
 obtain⟨b,o,_,h4⟩:=h3 (List.ne_nil_of_mem hx)
 obtain⟨cs',_,_,h5⟩:=h4 i hi
 exact⟨cs',h5⟩
theorem Gv{w:World}{cs:List Value}{l:List Int}(h:Reads w (.slice (.int .u64)) cs l):∀z∈l,0≤z∧z<18446744073709551616:=fun z hz=>by
 obtain⟨cs',h1,h2⟩:=Lu h z hz
 exact wf_u64 h2
theorem R5{w:World}{e:Sh}{cs:List Value}{x:List Int×List Int×e.T×Unit}(h:Reads w (.field (.slice (.int .u64)) (.field (.slice (.int .u64)) (.field e .nil))) cs x):(∀z∈x.1,0≤z∧z<18446744073709551616)∧(∀z∈x.2.1,0≤z∧z<18446744073709551616):=by
 obtain⟨c1,c2,_,_,h1,d1,d2,_,_,h2,_⟩:=h
 exact⟨Gv h1,Gv h2⟩
theorem L9{w:World}{c1 e1:Sh}{cs:List Value}{x:Int×Int×Int×c1.slice.T×List Int×List Int×List (List Int×List Int×e1.T×Unit)×Unit}(h:Reads w (.field (.int .i64) (.field (.int .i64) (.field (.int .i64) (.field (.slice c1) (.field (.slice (.int .i64)) (.field (.slice (.int .u64)) (.field (.slice (.field (.slice (.int .u64)) (.field (.slice (.int .u64)) (.field e1 .nil)))) .nil))))))) cs x):(∀z∈x.2.2.2.2.2.1,0≤z∧z<18446744073709551616)∧∀t∈x.2.2.2.2.2.2.1,(∀z∈t.1,0≤z∧z<18446744073709551616)∧(∀z∈t.2.1,0≤z∧z<18446744073709551616):=by
 obtain⟨_,_,_,_,_,_,_,_,_,_,_,_,_,_,_,_,_,_,_,_,_,_,_,_,_,_,_,_,_,h6,_,_,_,_,h7,_⟩:=h
 refine⟨Gv h6,fun t ht =>?_⟩
 obtain⟨cs',h1⟩:=Lu h7 t ht
 exact R5 h1
end Go.Proofs.YtnpidbjdilnhlaaGreat
