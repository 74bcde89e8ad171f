import Derived.Test.YtnpidbjdilnhlaaGreatBn11
import Derived.Test.YtnpidbjdilnhlaaGreatBn12
import Derived.Test.YtnpidbjdilnhlaaGreatBn43
import Derived.Test.YtnpidbjdilnhlaaGreatBn28
import Derived.Test.YtnpidbjdilnhlaaGreatBn30
import Derived.Test.YtnpidbjdilnhlaaGreatBn42
namespace Go.Proofs.YtnpidbjdilnhlaaGreat
open Go.RowKit
set_option maxRecDepth 100000
set_option maxHeartbeats 4000000
theorem XJ{α β:Type}(rs:List α)(L:List β)(i:Nat)(x:β)(h:i<rs.length):rs.zip (L.set i x)=(rs.zip L).set i (rs[i],x):=by
 refine List.ext_getElem (by simp) fun k h1 h2 =>?_
 rw[List.getElem_set]
 simp only[List.getElem_zip,List.getElem_set]
 split
 ·rename_i he;subst he;rfl
 ·rfl
set_option maxRecDepth 100000
set_option maxHeartbeats 4000000
abbrev se:Sh:=.field (.int .i64) (.field (.int .i64) .nil)
theorem abu(W:AWorld)(lb:Nat)(aA:List (Int×Int×Unit))(s0:W.S)(σ:Hp)(hn:W.L.length≤100000)(hs:aA.length≤100000)(hf:W.free (W.abs s0))(ka:∀a k,W.tell a k=a):
  ACalls Tryz.prog 127 [W.mv,.ae lb 0 W.L.length 1,.ah se aA] ((lb,W.L)::(W.B s0++σ)) (Hf W aA (W.abs s0) [(lb,W.L)] σ):=by
 refine okF Tryz.func127 (by kernel_rfl) ?_
 intro aC
 refine .perm _ (List.perm_middle (a:=(aC,[.af,.af,.int .i64 0])) (l₁:=(lb,W.L)::W.B s0) (l₂:=σ)) (aby W lb aA s0 ((aC,[.af,.af,.int .i64 0])::σ) hn hs hf ka) ?_
 rintro x σ' ⟨s',h1,rfl,rfl⟩
 refine⟨_,(List.perm_middle (a:=(aC,[.af,.af,.int .i64 0])) (l₁:=(lb,W.L)::W.B s') (l₂:=σ)).symm,?_⟩
 refine ai 0 ?_
 refine aa 0 ?_
 exact .drop 0 1 (.done ⟨s',h1,rfl,rfl⟩)
set_option maxRecDepth 100000
set_option maxHeartbeats 4000000
theorem ACalls.QE{P:Program}{f:FuncId}{xs:List AV}{σ σ2:Hp}{R R':AV→Hp→Prop}(h:ACalls P f xs σ2 R)(hp:σ2.Perm σ)(go:∀r σ',R r σ'→∃dh,dh.Perm σ'∧R' r dh):ACalls P f xs σ R':=
 Cu (.perm R hp h go)
structure WZ where
 r:Nat
 c:AV
 acc:Hp
 x:WS
 rd:v7 c acc x.now
def uu(s:Sy)(l:Lay)(y:(Nat×Nat)×WZ):Hp:=WB s l y.1.1 y.1.2 y.2.r y.2.c y.2.acc y.2.x
def dg(s:Sy)(l:Lay)(I:List (Nat×Nat))(Z:List WZ):Hp:=(I.zip Z).flatMap (uu s l)
structure WA where
 W:List WS
 ws:List Int
structure pC where
 ws:List Int
 Z:List WZ
def pC.abs(t:pC):WA:=⟨t.Z.map (·.x),t.ws⟩
def dZ(s:Sy)(l:Lay)(a:WA)(i:Nat)(d:Int):WA×Bool:=match a.W[i]? with
 | some x=>(⟨a.W.set i (cz aT s l i x d a.ws).1,(cz aT s l i x d a.ws).2.1⟩,(cz aT s l i x d a.ws).2.2)
 | none=>(a,true)
structure sr(s:Sy)(l:Lay)(a:WA):Prop where
 len:(a.W.length:Int)=l.k
 fl:np s l a.ws
 wv:∀(i:Nat) (x:WS),a.W[i]?=some x→WV s l i x
theorem CU{s:Sy}{l:Lay}{a:WA}{i:Nat}{d:Int}{x:WS}(h:a.W[i]?=some x):dZ s l a i d=(⟨a.W.set i (cz aT s l i x d a.ws).1,(cz aT s l i x d a.ws).2.1⟩,(cz aT s l i x d a.ws).2.2):=by
 unfold dZ;rw[h]
theorem sr.step{s:Sy}{l:Lay}{a:WA}(hs:LS s l)(h:sr s l a)(i:Nat)(d:Int):sr s l (dZ s l a i d).1:=by
 cases hx:a.W[i]? with
 | none=>unfold dZ;rw[hx];exact h
 | some x =>
  rw[CU hx]
  have hi:=(List.getElem?_eq_some_iff.1 hx).1
  have hl:=h.len
  obtain⟨h1,h2,h3⟩:=XP (d:=d) hs ⟨by omega,by omega⟩ h.fl.2 (h.wv i x hx)
  refine⟨?_,⟨h2.trans h.fl.1,h1⟩,fun j y hy =>?_⟩
  ·show ((a.W.set i _).length:Int)=l.k
   rw[List.length_set];exact hl
  ·have hy:(a.W.set i (cz aT s l i x d a.ws).1)[j]?=some y:=hy
   rw[List.getElem?_set]at hy
   by_cases gX:i=j
   ·subst gX
    rw[if_pos rfl,if_pos hi]at hy
    cases hy
    exact h3
   ·rw[if_neg gX]at hy
    exact h.wv j y hy
section
variable {s:Sy} {l:Lay} {p q:Nat} {I:List (Nat×Nat)}
theorem N4{Z:List WZ}{i:Nat}(hi:i<I.length)(hz:i<Z.length):(dg s l I Z).Perm (WB s l I[i].1 I[i].2 Z[i].r Z[i].c Z[i].acc Z[i].x++((I.zip Z).eraseIdx i).flatMap (uu s l)):=by
 have h:i<(I.zip Z).length:=by simp;omega
 have h1:=LG (f:=uu s l) h
 have e:(I.zip Z)[i]=(I[i],Z[i]):=by simp
 rw[e]at h1
 exact h1
theorem Vz{Z:List WZ}{i:Nat}(hi:i<I.length)(hz:i<Z.length)(y:WZ):(dg s l I (Z.set i y)).Perm (WB s l I[i].1 I[i].2 y.r y.c y.acc y.x++((I.zip Z).eraseIdx i).flatMap (uu s l)):=by
 have h:i<(I.zip Z).length:=by simp;omega
 have h1:=US (f:=uu s l) h (I[i],y)
 rw[← XJ _ _ _ _ hi]at h1
 exact h1
theorem wzP{X Y:Hp}(b:Hp)(h:X.Perm (b++Y))(ws:List Int)(σ:Hp):(aX p q ws X++σ).Perm (b++aX p q ws (Y++σ)):=by
 have h1:(aX p q ws X++σ).Perm (aX p q ws (b++Y)++σ):=List.Perm.append_right σ (List.Perm.append_left [_,_] h)
 refine h1.trans ?_
 show ([(p,rq q ws.length),(q,aU ws)]++((b++Y)++σ)).Perm (b++([(p,rq q ws.length),(q,aU ws)]++(Y++σ)))
 rw[List.append_assoc]
 exact lT [[(p,rq q ws.length),(q,aU ws)],b,Y] σ (a:=[0,1,2]) (b:=[1,0,2]) (by decide)
theorem abq{t:pC}{i:Nat}{d:Int}(σ:Hp)(hs:LS s l)(hi:i<I.length)(hI:I[i].1=i)(hk:(I.length:Int)=l.k)(hf:sr s l t.abs):ACalls Tryz.prog 357 [.ptr I[i].2 0,iY p,.int .i64 d] (aX p q t.ws (dg s l I t.Z)++σ) (fun x σ'=>∃t':pC,t'.abs=(dZ s l t.abs i d).1∧x=.bool (dZ s l t.abs i d).2∧σ'=aX p q t'.ws (dg s l I t'.Z)++σ):=by
 have hz:i<t.Z.length:=by
  have h1:=hf.len
  have h2:((t.Z.map (·.x)).length:Int)=l.k:=h1
  rw[List.length_map]at h2;omega
 have hW:t.abs.W[i]?=some t.Z[i].x:=by
  show (t.Z.map (·.x))[i]?=_
  rw[List.getElem?_map,List.getElem?_eq_getElem hz];rfl
 have hB:=wzP (p:=p) (q:=q) _ (N4 (s:=s) (l:=l) hi hz) t.ws σ
 have Fj:=fun (ws:List Int) (y:WZ)=>wzP (p:=p) (q:=q) _ (Vz (s:=s) (l:=l) hi hz y) ws σ
 have uz:=hf.wv i _ hW
 rw[hI]at hB Fj
 have ak:=CU (s:=s) (l:=l) (d:=d) hW
 have jA:∀(y:WZ),(t.Z.set i y).map (·.x)=t.abs.W.set i y.x:=fun y=>by show _=(t.Z.map (·.x)).set i y.x;rw[List.map_set]
 rw[ak]
 refine (acC p q I[i].2 t.Z[i].r t.Z[i].c t.Z[i].acc s l i t.Z[i].x d t.ws (((I.zip t.Z).eraseIdx i).flatMap (uu s l)++σ) hs.fit hf.fl.2.a64 (uz.ok hs) t.Z[i].rd (x':=(cz aT s l i t.Z[i].x d t.ws).1) (ws':=(cz aT s l i t.Z[i].x d t.ws).2.1) (b:=(cz aT s l i t.Z[i].x d t.ws).2.2) rfl).QE hB.symm ?_
 rintro _ _ ⟨r',c',bh,lK,rfl,rfl⟩
 refine⟨_,Fj _ ⟨r',c',bh,(cz aT s l i t.Z[i].x d t.ws).1,lK⟩,⟨(cz aT s l i t.Z[i].x d t.ws).2.1,t.Z.set i ⟨r',c',bh,(cz aT s l i t.Z[i].x d t.ws).1,lK⟩⟩,?_,rfl,rfl⟩
 exact congrArg (fun z=>WA.mk z _) (jA _)
end
theorem mWorker_ : Meth Tryz.prog 173 "Step" 357 := fun a w => by kernel_rfl
def Ai(s:Sy)(l:Lay)(hs:LS s l)(p q:Nat)(I:List (Nat×Nat))(hI:∀i (h:i<I.length),I[i].1=i)(hk:(I.length:Int)=l.k):AWorld where
 A:=WA
 S:=pC
 abs:=pC.abs
 B t:=aX p q t.ws (dg s l I t.Z)
 L:=I.map fun y=>.iface 173 (.ptr y.2 0)
 mt:=34
 mp:=p
 step:=dZ s l
 tell a _:=a
 free:=sr s l
 keeps a i d h _:=h.step hs i d
 told _ _ h:=h
 mach i h:=by
  have hi:i<I.length:=by simpa using h
  refine .inr ⟨173,I[i].2,by simp,_,mWorker_,fun t d σ hf =>?_⟩
  refine (abq (p:=p) (q:=q) (t:=t) (d:=d) σ hs hi (hI i hi) hk hf).mono ?_
  rintro _ _ ⟨t',h1,rfl,rfl⟩
  exact⟨t',h1,rfl,rfl⟩
set_option maxRecDepth 100000
set_option maxHeartbeats 4000000
def qT(l:Lay)(ws:List Int)(n:Nat):List (List Int):=(List.range n).map fun v:Nat=>n5 (aK l v) ws (cw l.words)
theorem SF(bl bm p q v:Nat)(l:Lay)(ws:List Int)(τ:Hp):ACalls Tryz.prog 62 [.int .i64 v,.ptr bl 0,.ptr bm 0] ((bl,fH l)::(bm,[iY p])::aX p q ws τ) (az (.ah (.int .u64) (n5 (aK l v) ws (cw l.words))) ((bl,fH l)::(bm,[iY p])::aX p q ws τ)):=by
 refine okF Tryz.func62 (by kernel_rfl) ?_
 refine .quiet (by kernel_rfl) ?_
 refine aa 0 ?_
 refine aD [] (DV l v _) ?_
 refine aa 1 ?_
 refine aD [3,3] (acK p q ws _ _ _ _) ?_
 exact .done ⟨rfl,rfl⟩
theorem Gh(p q:Nat)(l:Lay)(n:Nat)(ws:List Int)(σ:Hp)(hn:l.n=n)(mr:n≤100000):ACalls Tryz.prog 22 [iY p,.agg (fH l)] (aX p q ws σ) (az (.ah (.slice (.int .u64)) (qT l ws n)) (aX p q ws σ)):=by
 refine okF Tryz.func22 (by kernel_rfl) ?_
 intro bm
 intro bl
 refine aa 0 ?_
 have hE:=fun τ=>aaC 62 [.ptr bl 0,.ptr bm 0] ((bl,fH l)::(bm,[iY p])::aX p q ws []) τ (fun v:Nat=>n5 (aK l v) ws (cw l.words)) n mr (fun i _ τ=>SF bl bm p q i l ws τ)
 rw[← hn]at hE
 refine ax [] (hE _) ?_
 exact .drop 0 2 (.done ⟨rfl,rfl⟩)
def b9(mv:AV)(l:Lay)(wv st dn:AV)(us:Int):List AV:=[mv,.int .i64 l.what,.int .i64 l.words,.int .i64 l.n,.int .i64 l.k,wv,st,dn,.int .i64 us]
def pW(w:Nat):AV:=.ptr w 0
def iW(w:Nat):AV:=.iface 173 (.ptr w 0)
theorem aar(bs bp i:Nat)(s:Sy)(l:Lay)(mv wv st dn:AV)(us:Int)(τ:Hp)(hf:Fit s)(he:bF s l.k=0)(hL:gP s l.k=l)(h1:(i:Int)<l.k):ACalls Tryz.prog 125 [.int .i64 i,.ptr bs 0,.ptr bp 0] ((bs,bD s)::(bp,b9 mv l wv st dn us)::τ) (fun r σ'=>∃w,r=.ptr w 0∧σ'=WB s l i w 0 .af [] nr++((bs,bD s)::(bp,b9 mv l wv st dn us)::τ)):=by
 refine okF Tryz.func125 (by kernel_rfl) ?_
 refine aa 0 ?_
 refine aa 1 ?_
 (refine .mk [] _ (aax s l i _ hf he hL (by omega) h1) ?_;rintro _ _ ⟨w,rfl,rfl⟩)
 exact .done ⟨w,rfl,rfl⟩
theorem aaq(bp lw i n:Nat)(L:List Nat)(l:Lay)(mv st dn:AV)(us:Int)(τ:Hp)(hl:L.length=n)(hi:i<n):ACalls Tryz.prog 129 [.int .i64 i,.ptr bp 0] ((bp,b9 mv l (.ae lw 0 n 1) st dn us)::(lw,L.map pW)::τ) (az (iW (L.getD i 0)) ((bp,b9 mv l (.ae lw 0 n 1) st dn us)::(lw,L.map pW)::τ)):=by
 have hg:(L.map pW)[0+((i:Int)).toNat*1]?=some (.ptr (L.getD i 0) 0):=by
  rw[Int.toNat_natCast,Nat.mul_one,Nat.zero_add,List.getElem?_map,List.getElem?_eq_getElem (by omega),List.getD_eq_getElem?_getD,List.getElem?_eq_getElem (by omega)];rfl
 refine okF Tryz.func129 (by kernel_rfl) ?_
 refine aa 0 ?_
 refine ag.mk ⟨rfl,by omega,by omega⟩ ?_
 refine aL 1 rfl (gN rfl hg) ?_
 exact .done ⟨rfl,rfl⟩
def bS(L:List Nat):List (Nat×Nat):=(List.range L.length).zip L
def gG:WZ:=⟨0,.af,[],nr,trivial⟩
theorem zF(L:List Nat):∀i (h:i<(bS L).length),(bS L)[i].1=i:=fun i h=>by simp[bS]
theorem zE(L:List Nat):(bS L).length=L.length:=by simp[bS]
theorem WG(L:List Nat):(bS L).map (fun y=>AV.iface 173 (.ptr y.2 0))=L.map iW:=by
 unfold bS
 have:(fun y:Nat×Nat=>AV.iface 173 (.ptr y.2 0))=iW ∘ Prod.snd:=rfl
 rw[this,← List.map_map,List.map_snd_zip (by simp)]
theorem Vy(s:Sy)(l:Lay)(L:List Nat)(w:Nat):dg s l (bS (L++[w])) (List.replicate (L++[w]).length gG)=dg s l (bS L) (List.replicate L.length gG)++WB s l L.length w 0 .af [] nr:=by
 have e1:bS (L++[w])=bS L++[(L.length,w)]:=by
  unfold bS
  rw[List.length_append,List.length_singleton,List.range_succ,List.zip_append (by simp)];rfl
 have e2:List.replicate (L++[w]).length gG=List.replicate L.length gG++[gG]:=by
  rw[List.length_append,List.length_singleton,List.replicate_succ']
 unfold dg
 rw[e1,e2,List.zip_append (by rw[List.length_replicate,zE]),List.flatMap_append]
 rfl
end Go.Proofs.YtnpidbjdilnhlaaGreat
