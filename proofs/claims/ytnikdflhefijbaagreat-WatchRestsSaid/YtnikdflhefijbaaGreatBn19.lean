import Derived.Test.YtnikdflhefijbaaGreatBn6
import Derived.Test.YtnikdflhefijbaaGreatBn18
import Derived.Test.YtnikdflhefijbaaGreatBn13
import Derived.Test.YtnikdflhefijbaaGreatBn5
import Derived.Test.YtnikdflhefijbaaGreatBn1
import Derived.Test.YtnikdflhefijbaaGreatBn11
namespace Go.Proofs.YtnikdflhefijbaaGreat
open Go.RowKit
set_option maxRecDepth 100000
set_option maxHeartbeats 4000000
theorem ads{α β:Type}(rs:List α)(L:List β)(i:Nat)(x:β)(h:i<rs.length):rs.zip (L.set i x)=(rs.zip L).set i (rs[i],x):=by
 refine List.ext_getElem (by simp) fun k h1 h2=>?_
 rw[F5]
 simp only[List.getElem_zip,F5]
 split
 ·rename_i he;subst he;rfl
 ·rfl
set_option maxHeartbeats 4000000
abbrev k9:Sh:=.field (.int .i64) (.field (.int .i64) .nil)
theorem ahz(W:AWorld)(lb:Nat)(aC:List (Int×Int×Unit))(s0:W.S)(σ:Hp)(hn:W.L.length≤100000)(hs:aC.length≤100000)(hf:W.free (W.abs s0))(mh:∀a k,W.tell a k=a):
  ACalls Tryz.prog 101 [W.mv,.af lb 0 W.L.length 1,.ae k9 aC] ((lb,W.L)::(W.B s0++σ)) (Mf W aC (W.abs s0) [(lb,W.L)] σ):=by
 refine ar Tryz.func101 ?_
 intro aB
 refine .perm _ (oh (a:=(aB,[.ai,.ai,.int .i64 0])) (l₁:=(lb,W.L)::W.B s0) (l₂:=σ)) (ahF W lb aC s0 ((aB,[.ai,.ai,.int .i64 0])::σ) hn hs hf mh) ?_
 rintro x σ' ⟨s',h1,rfl,rfl⟩
 refine⟨_,(oh (a:=(aB,[.ai,.ai,.int .i64 0])) (l₁:=(lb,W.L)::W.B s') (l₂:=σ)).symm,?_⟩
 refine aj 0 ?_
 refine aa 0 ?_
 exact .drop 0 1 (.done ⟨s',h1,rfl,rfl⟩)
set_option maxHeartbeats 4000000
theorem ACalls.WN{P:Program}{f:FuncId}{xs:List AV}{σ σ2:Hp}{R R':AV→Hp→Prop}(h:ACalls P f xs σ2 R)(hp:σ2.Perm σ)(go:∀r σ',R r σ'→∃ew,ew.Perm σ'∧R' r ew):ACalls P f xs σ R':=
 yR (.perm R hp h go)
structure WZ where
 r:Nat
 c:AV
 acc:Hp
 x:WS
 rd:zJ c acc x.now
def x7(s:Sy)(l:Lay)(y:(Nat×Nat)×WZ):Hp:=WB s l y.1.1 y.1.2 y.2.r y.2.c y.2.acc y.2.x
def eu(s:Sy)(l:Lay)(I:List (Nat×Nat))(Z:List WZ):Hp:=(I.zip Z).flatMap (x7 s l)
structure WA where
 W:List WS
 ws:List Int
structure sn where
 ws:List Int
 Z:List WZ
def sn.abs(t:sn):WA:=⟨t.Z.map (·.x),t.ws⟩
def eZ(s:Sy)(l:Lay)(a:WA)(i:Nat)(d:Int):WA×Bool:=match a.W[i]? with
 |some x=>(⟨a.W.set i (dw bJ s l i x d a.ws).1,(dw bJ s l i x d a.ws).2.1⟩,(dw bJ s l i x d a.ws).2.2)
 |none=>(a,true)
structure vL(s:Sy)(l:Lay)(a:WA):Prop where
 len:(a.W.length:Int)=l.k
 fl:pU s l a.ws
 wv:∀(i:Nat) (x:WS),a.W[i]?=some x→WV s l i x
theorem Dh{s:Sy}{l:Lay}{a:WA}{i:Nat}{d:Int}{x:WS}(h:a.W[i]?=some x):eZ s l a i d=(⟨a.W.set i (dw bJ s l i x d a.ws).1,(dw bJ s l i x d a.ws).2.1⟩,(dw bJ s l i x d a.ws).2.2):=by
 unfold eZ;rw[h]
theorem vL.step{s:Sy}{l:Lay}{a:WA}(hs:LS s l)(h:vL s l a)(i:Nat)(d:Int):vL s l (eZ s l a i d).1:=by
 cases hx:a.W[i]? with
 |none=>unfold eZ;rw[hx];exact h
 |some x=>
  rw[Dh hx]
  have hi:=(ck.1 hx).1
  have hl:=h.len
  obtain⟨h1,h2,h3⟩:=ady (d:=d) hs ⟨by omega,by omega⟩ h.fl.2 (h.wv i x hx)
  refine⟨?_,⟨h2.trans h.fl.1,h1⟩,fun j y hy=>?_⟩
  ·show ((a.W.set i _).length:Int)=l.k
   rw[cR];exact hl
  ·have hy:(a.W.set i (dw bJ s l i x d a.ws).1)[j]?=some y:=hy
   rw[fj]at hy
   by_cases mA:i=j
   ·subst mA
    rw[ah rfl,ah hi]at hy
    cases hy
    exact h3
   ·rw[ag mA]at hy
    exact h.wv j y hy
section
variable {s:Sy} {l:Lay} {p q:Nat} {I:List (Nat×Nat)}
theorem Ua{Z:List WZ}{i:Nat}(hi:i<I.length)(hz:i<Z.length):(eu s l I Z).Perm (WB s l I[i].1 I[i].2 Z[i].r Z[i].c Z[i].acc Z[i].x++((I.zip Z).eraseIdx i).flatMap (x7 s l)):=by
 have h:i<(I.zip Z).length:=by simp;omega
 have h1:=Rc (f:=x7 s l) h
 have e:(I.zip Z)[i]=(I[i],Z[i]):=by simp
 rw[e]at h1
 exact h1
theorem aba{Z:List WZ}{i:Nat}(hi:i<I.length)(hz:i<Z.length)(y:WZ):(eu s l I (Z.set i y)).Perm (WB s l I[i].1 I[i].2 y.r y.c y.acc y.x++((I.zip Z).eraseIdx i).flatMap (x7 s l)):=by
 have h:i<(I.zip Z).length:=by simp;omega
 have h1:=aat (f:=x7 s l) h (I[i],y)
 rw[← ads _ _ _ _ hi]at h1
 exact h1
theorem wzP{X Y:Hp}(b:Hp)(h:X.Perm (b++Y))(ws:List Int)(σ:Hp):(bM p q ws X++σ).Perm (b++bM p q ws (Y++σ)):=by
 have h1:(bM p q ws X++σ).Perm (bM p q ws (b++Y)++σ):=List.Perm.append_right σ (List.Perm.append_left [_,_] h)
 refine h1.trans ?_
 show ([(p,uo q ws.length),(q,aP ws)]++((b++Y)++σ)).Perm (b++([(p,uo q ws.length),(q,aP ws)]++(Y++σ)))
 rw[dU]
 exact ov [[(p,uo q ws.length),(q,aP ws)],b,Y] σ (a:=[0,1,2]) (b:=[1,0,2]) (by decide)
theorem ahx{t:sn}{i:Nat}{d:Int}(σ:Hp)(hs:LS s l)(hi:i<I.length)(hI:I[i].1=i)(hk:(I.length:Int)=l.k)(hf:vL s l t.abs):ACalls Tryz.prog 390 [.ptr I[i].2 0,kK p,.int .i64 d] (bM p q t.ws (eu s l I t.Z)++σ) (fun x σ'=>∃t':sn,t'.abs=(eZ s l t.abs i d).1∧x=.bool (eZ s l t.abs i d).2∧σ'=bM p q t'.ws (eu s l I t'.Z)++σ):=by
 have hz:i<t.Z.length:=by
  have h1:=hf.len
  have h2:((t.Z.map (·.x)).length:Int)=l.k:=h1
  rw[cg]at h2;omega
 have hW:t.abs.W[i]?=some t.Z[i].x:=by
  show (t.Z.map (·.x))[i]?=_
  rw[fm,bh hz];rfl
 have hB:=wzP (p:=p) (q:=q) _ (Ua (s:=s) (l:=l) hi hz) t.ws σ
 have yd:=fun (ws:List Int) (y:WZ)=>wzP (p:=p) (q:=q) _ (aba (s:=s) (l:=l) hi hz y) ws σ
 have yb:=hf.wv i _ hW
 rw[hI]at hB yd
 have an:=Dh (s:=s) (l:=l) (d:=d) hW
 have kj:∀(y:WZ),(t.Z.set i y).map (·.x)=t.abs.W.set i y.x:=fun y=>by show _=(t.Z.map (·.x)).set i y.x;rw[oc]
 rw[an]
 refine (aiL p q I[i].2 t.Z[i].r t.Z[i].c t.Z[i].acc s l i t.Z[i].x d t.ws (((I.zip t.Z).eraseIdx i).flatMap (x7 s l)++σ) hs.fit hf.fl.2.a64 (yb.ok hs) t.Z[i].rd (x':=(dw bJ s l i t.Z[i].x d t.ws).1) (ws':=(dw bJ s l i t.Z[i].x d t.ws).2.1) (b:=(dw bJ s l i t.Z[i].x d t.ws).2.2) rfl).WN hB.symm ?_
 rintro _ _ ⟨r',c',bD,nX,rfl,rfl⟩
 refine⟨_,yd _ ⟨r',c',bD,(dw bJ s l i t.Z[i].x d t.ws).1,nX⟩,⟨(dw bJ s l i t.Z[i].x d t.ws).2.1,t.Z.set i ⟨r',c',bD,(dw bJ s l i t.Z[i].x d t.ws).1,nX⟩⟩,?_,rfl,rfl⟩
 exact congrArg (fun z=>WA.mk z _) (kj _)
end
theorem mWorker_ : Meth Tryz.prog 168 "Step" 390 := fun a w => by kernel_rfl
def DV(s:Sy)(l:Lay)(hs:LS s l)(p q:Nat)(I:List (Nat×Nat))(hI:∀i (h:i<I.length),I[i].1=i)(hk:(I.length:Int)=l.k):AWorld where
 A:=WA
 S:=sn
 abs:=sn.abs
 B t:=bM p q t.ws (eu s l I t.Z)
 L:=I.map fun y=>.iface 168 (.ptr y.2 0)
 mt:=94
 mp:=p
 step:=eZ s l
 tell a _:=a
 free:=vL s l
 keeps a i d h _:=h.step hs i d
 told _ _ h:=h
 mach i h:=by
  have hi:i<I.length:=by simpa using h
  refine .inr ⟨168,I[i].2,by simp,_,mWorker_,fun t d σ hf=>?_⟩
  refine (ahx (p:=p) (q:=q) (t:=t) (d:=d) σ hs hi (hI i hi) hk hf).mono ?_
  rintro _ _ ⟨t',h1,rfl,rfl⟩
  exact⟨t',h1,rfl,rfl⟩
set_option maxHeartbeats 4000000
def oJ(l:Lay)(ws:List Int)(n:Nat):List (List Int):=(List.range n).map fun v:Nat=>pT (bg l v) ws (cw l.words)
theorem YP(bl bm p q v:Nat)(l:Lay)(ws:List Int)(τ:Hp):ACalls Tryz.prog 105 [.int .i64 v,.ptr bl 0,.ptr bm 0] ((bl,ib l)::(bm,[kK p])::bM p q ws τ) (ay (.ae (.int .u64) (pT (bg l v) ws (cw l.words))) ((bl,ib l)::(bm,[kK p])::bM p q ws τ)):=by
 refine ar Tryz.func105 ?_
 refine .quiet (by kernel_rfl) ?_
 refine aa 0 ?_
 refine aI [] (Iu l v _) ?_
 refine aa 1 ?_
 refine aI [3,3] (aiT p q ws _ _ _ _) ?_
 exact .done ⟨rfl,rfl⟩
theorem Ln(p q:Nat)(l:Lay)(n:Nat)(ws:List Int)(σ:Hp)(hn:l.n=n)(o9:n≤100000):ACalls Tryz.prog 43 [kK p,.agg (ib l)] (bM p q ws σ) (ay (.ae (.slice (.int .u64)) (oJ l ws n)) (bM p q ws σ)):=by
 refine ar Tryz.func43 ?_
 intro bm
 intro bl
 refine aa 0 ?_
 have hE:=fun τ=>agP 105 [.ptr bl 0,.ptr bm 0] ((bl,ib l)::(bm,[kK p])::bM p q ws []) τ (fun v:Nat=>pT (bg l v) ws (cw l.words)) n o9 (fun i _ τ=>YP bl bm p q i l ws τ)
 rw[← hn]at hE
 refine aw [] (hE _) ?_
 exact .drop 0 2 (.done ⟨rfl,rfl⟩)
def dh(mv:AV)(l:Lay)(wv st dn:AV)(us:Int):List AV:=[mv,.int .i64 l.what,.int .i64 l.words,.int .i64 l.n,.int .i64 l.k,wv,st,dn,.int .i64 us]
def pW(w:Nat):AV:=.ptr w 0
def iW(w:Nat):AV:=.iface 168 (.ptr w 0)
theorem agB(bs bp i:Nat)(s:Sy)(l:Lay)(mv wv st dn:AV)(us:Int)(τ:Hp)(hf:Fit s)(he:du s l.k=0)(hL:iJ s l.k=l)(h1:(i:Int)<l.k):ACalls Tryz.prog 99 [.int .i64 i,.ptr bs 0,.ptr bp 0] ((bs,aW s)::(bp,dh mv l wv st dn us)::τ) (fun r σ'=>∃w,r=.ptr w 0∧σ'=WB s l i w 0 .ai [] nP++((bs,aW s)::(bp,dh mv l wv st dn us)::τ)):=by
 refine ar Tryz.func99 ?_
 refine aa 0 ?_
 refine aa 1 ?_
 (refine .mk [] _ (agK s l i _ hf he hL (by omega) h1) ?_;rintro _ _ ⟨w,rfl,rfl⟩)
 exact .done ⟨w,rfl,rfl⟩
theorem agA(bp lw i n:Nat)(L:List Nat)(l:Lay)(mv st dn:AV)(us:Int)(τ:Hp)(hl:L.length=n)(hi:i<n):ACalls Tryz.prog 103 [.int .i64 i,.ptr bp 0] ((bp,dh mv l (.af lw 0 n 1) st dn us)::(lw,L.map pW)::τ) (ay (iW (L.getD i 0)) ((bp,dh mv l (.af lw 0 n 1) st dn us)::(lw,L.map pW)::τ)):=by
 have hg:(L.map pW)[0+((i:Int)).toNat*1]?=some (.ptr (L.getD i 0) 0):=by
  rw[bC,eA,dR,fm,bh (by omega),aZ,bh (by omega)];rfl
 refine ar Tryz.func103 ?_
 refine aa 0 ?_
 refine aM ?_
 refine bf 1 rfl (jf rfl hg) ?_
 exact .done ⟨rfl,rfl⟩
def da(L:List Nat):List (Nat×Nat):=(List.range L.length).zip L
def jx:WZ:=⟨0,.ai,[],nP,trivial⟩
theorem Dp(L:List Nat):∀i (h:i<(da L).length),(da L)[i].1=i:=fun i h=>by simp[da]
theorem Dn(L:List Nat):(da L).length=L.length:=by simp[da]
theorem aci(L:List Nat):(da L).map (fun y=>AV.iface 168 (.ptr y.2 0))=L.map iW:=by
 unfold da
 have:(fun y:Nat×Nat=>AV.iface 168 (.ptr y.2 0))=iW ∘ Prod.snd:=rfl
 rw[this,← List.map_map,List.map_snd_zip (by simp)]
theorem ab9(s:Sy)(l:Lay)(L:List Nat)(w:Nat):eu s l (da (L++[w])) (List.replicate (L++[w]).length jx)=eu s l (da L) (List.replicate L.length jx)++WB s l L.length w 0 .ai [] nP:=by
 have e1:da (L++[w])=da L++[(L.length,w)]:=by
  unfold da
  rw[List.length_append,List.length_singleton,List.range_succ,List.zip_append (by simp)];rfl
 have e2:List.replicate (L++[w]).length jx=List.replicate L.length jx++[jx]:=by
  rw[bZ,tp,List.replicate_succ']
 unfold eu
 rw[e1,e2,List.zip_append (by rw[gl,Dn]),yz]
 rfl
end Go.Proofs.YtnikdflhefijbaaGreat
namespace Go.Proofs.YtnikdflhefijbaaGreat
set_option maxRecDepth 100000
set_option maxHeartbeats 4000000
namespace SX
structure AP where
 n:Nat
 W:Nat
 k:Nat
 nx:Nat→List Nat
 jw:Int→Int→Int
 out:Nat→List Int→List Int
 ok:Nat→Int→Prop
 Ea:∀{v u},v<n→u∈nx v→u<n
 idem:∀{i x},ok i x→jw x x=x
 comm:∀{i x y},ok i x→ok i y→jw x y=jw y x
 assoc:∀{i x y z},ok i x→ok i y→ok i z→jw (jw x y) z=jw x (jw y z)
 Oq:∀{i x y},ok i x→ok i y→ok i (jw x y)
 IB:∀{v y},v<n→y.length=W→(∀i,i<W→ok i (y.getD i 0))→(out v y).length=W∧∀i,i<W→ok i ((out v y).getD i 0)
 mono:∀{v y z},v<n→y.length=W→z.length=W→(∀i,i<W→ok i (y.getD i 0))→(∀i,i<W→ok i (z.getD i 0))→(∀i,i<W→jw (y.getD i 0) (z.getD i 0)=z.getD i 0)→∀i,i<W→jw ((out v y).getD i 0) ((out v z).getD i 0)=(out v z).getD i 0
inductive Ph where
 |idle (d a:Nat)
 |held (v:Nat)
 |clear (v:Nat)
 |read (v:Nat) (y:List Int)
 |join (v:Nat) (o:List Int) (u:Nat) (r:List Nat) (at_:Nat) (ld:Option Int) (ch:Bool)
 |take (v:Nat) (o:List Int) (u:Nat) (r:List Nat)
 |add (v:Nat) (o:List Int) (u:Nat) (r:List Nat)
 |push (v:Nat) (o:List Int) (u:Nat) (r:List Nat) (a:Nat)
 |ee (v:Nat)
 |done
structure AS where
 cell:Nat→Nat→Int
 flag:Nat→Bool
 aH:Nat
 dq:List (List Nat)
 ph:List Ph
 ev:Nat
 jo:Nat
def gh(v:Nat)(o:List Int):List Nat→Ph
 | []=>.ee v
 |u::r=>.join v o u r 0 none false
def ml(A:AP)(c:Nat→Nat→Int)(v:Nat):List Int:=(List.range A.W).map (c v)
def eT(c:Nat→Nat→Int)(v i:Nat)(x:Int):Nat→Nat→Int:=fun v' i'=>if v'=v∧i'=i then x else c v' i'
def ft(A:AP)(v:Nat)(o:List Int)(u:Nat)(r:List Nat)(at_:Nat)(ch:Bool):Ph×Nat:=
 if at_+1<A.W then (.join v o u r (at_+1) none ch,0) else if ch=true then (.take v o u r,1) else (gh v o r,0)
inductive Tr(A:AP)(S:AS)(i:Nat):AS→Prop where
 |stay (h:S.ph[i]?=some .done∨S.ph[i]?=none):Tr A S i S
 |zH (a:Nat) (h:S.ph[i]?=some (.idle 0 a)) (ha:a<5):Tr A S i { S with ph:=S.ph.set i (.idle 0 (a+1)) }
 |zI (a:Nat) (h:S.ph[i]?=some (.idle 0 a)) (hd:S.dq[i]?=some []):Tr A S i { S with ph:=S.ph.set i (.idle (if A.k<2 then 2 else 1) 0) }
 |pop (v:Nat) (c:List Nat) (a:Nat) (h:S.ph[i]?=some (.idle 0 a)) (hd:S.dq[i]?=some (c++[v])):Tr A S i { S with dq:=S.dq.set i c,ph:=S.ph.set i (.clear v) }
 |cas (v:Nat) (a:Nat) (h:S.ph[i]?=some (.idle 0 a)) (hd:S.dq[i]?=some [v]):Tr A S i { S with dq:=S.dq.set i [],ph:=S.ph.set i (.held v) }
 |Ak (v:Nat) (h:S.ph[i]?=some (.held v)):Tr A S i { S with ph:=S.ph.set i (.clear v) }
 |zd (a:Nat) (h:S.ph[i]?=some (.idle 1 a)) (ha:a<3):Tr A S i { S with ph:=S.ph.set i (.idle 1 (a+1)) }
 |ze (a:Nat) (h:S.ph[i]?=some (.idle 1 a)):Tr A S i { S with ph:=S.ph.set i (.idle 2 0) }
 |cC (j v:Nat) (c:List Nat) (a:Nat) (h:S.ph[i]?=some (.idle 1 a)) (hd:S.dq[j]?=some (v::c)):Tr A S i { S with dq:=S.dq.set j c,ph:=S.ph.set i (.clear v) }
 |ask (h:S.ph[i]?=some (.idle 2 0)) (hc:S.aH≠0):Tr A S i { S with ph:=S.ph.set i (.idle (if A.k<2 then 0 else 1) 0) }
 |clear (v:Nat) (h:S.ph[i]?=some (.clear v)):Tr A S i { S with flag:=fun z=>if z=v then false else S.flag z,ph:=S.ph.set i (.read v []) }
 |zm (v:Nat) (y:List Int) (h:S.ph[i]?=some (.read v y)) (hy:y.length+1<A.W):Tr A S i { S with ph:=S.ph.set i (.read v (y++[S.cell v y.length])) }
 |zn (v:Nat) (y y':List Int) (h:S.ph[i]?=some (.read v y)) (hy:(y.length+1=A.W∧y'=y++[S.cell v y.length])∨(A.W=0∧y'=[])):Tr A S i { S with ph:=S.ph.set i (gh v (A.out v y') (A.nx v)),ev:=S.ev+1 }
 |load (v:Nat) (o:List Int) (u:Nat) (r:List Nat) (at_:Nat) (ch:Bool) (h:S.ph[i]?=some (.join v o u r at_ none ch)) (ha:at_<A.W) (hx:A.jw (S.cell u at_) (o.getD at_ 0)≠S.cell u at_):Tr A S i { S with ph:=S.ph.set i (.join v o u r at_ (some (S.cell u at_)) ch) }
 |same (v:Nat) (o:List Int) (u:Nat) (r:List Nat) (at_:Nat) (ch:Bool) (h:S.ph[i]?=some (.join v o u r at_ none ch)) (ha:at_<A.W) (hx:A.jw (S.cell u at_) (o.getD at_ 0)=S.cell u at_):Tr A S i { S with ph:=S.ph.set i (ft A v o u r at_ ch).1,jo:=S.jo+(ft A v o u r at_ ch).2 }
 |lost (v:Nat) (o:List Int) (u:Nat) (r:List Nat) (at_:Nat) (ch:Bool) (x:Int) (h:S.ph[i]?=some (.join v o u r at_ (some x) ch)) (ha:at_<A.W) (hx:S.cell u at_≠x):Tr A S i { S with ph:=S.ph.set i (.join v o u r at_ none ch) }
 |zT (v:Nat) (o:List Int) (u:Nat) (r:List Nat) (at_:Nat) (ch:Bool) (h:S.ph[i]?=some (.join v o u r at_ (some (S.cell u at_)) ch)) (ha:at_<A.W) (hx:A.jw (S.cell u at_) (o.getD at_ 0)≠S.cell u at_):Tr A S i { S with cell:=eT S.cell u at_ (A.jw (S.cell u at_) (o.getD at_ 0)),ph:=S.ph.set i (ft A v o u r at_ true).1,jo:=S.jo+(ft A v o u r at_ true).2 }
 |none (v:Nat) (o:List Int) (u:Nat) (r:List Nat) (h:S.ph[i]?=some (.join v o u r 0 none false)) (ha:A.W=0):Tr A S i { S with ph:=S.ph.set i (gh v o r) }
 |flag (v:Nat) (o:List Int) (u:Nat) (r:List Nat) (h:S.ph[i]?=some (.take v o u r)) (hf:S.flag u=false):Tr A S i { S with flag:=fun z=>if z=u then true else S.flag z,ph:=S.ph.set i (.add v o u r) }
 |zL (v:Nat) (o:List Int) (u:Nat) (r:List Nat) (h:S.ph[i]?=some (.take v o u r)) (hf:S.flag u=true):Tr A S i { S with ph:=S.ph.set i (gh v o r) }
 |add (v:Nat) (o:List Int) (u:Nat) (r:List Nat) (h:S.ph[i]?=some (.add v o u r)):Tr A S i { S with aH:=S.aH+1,ph:=S.ph.set i (.push v o u r 0) }
 |zo (v:Nat) (o:List Int) (u:Nat) (r:List Nat) (a:Nat) (h:S.ph[i]?=some (.push v o u r a)) (ha:a<3):Tr A S i { S with ph:=S.ph.set i (.push v o u r (a+1)) }
 |push (v:Nat) (o:List Int) (u:Nat) (r:List Nat) (c:List Nat) (h:S.ph[i]?=some (.push v o u r 3)) (hd:S.dq[i]?=some c):Tr A S i { S with dq:=S.dq.set i (c++[u]),ph:=S.ph.set i (gh v o r) }
 |ee (v:Nat) (h:S.ph[i]?=some (.ee v)):Tr A S i { S with aH:=S.aH-1,ph:=S.ph.set i (.idle 0 0) }
 |zF (h:S.ph[i]?=some (.idle 2 0)) (hc:S.aH=0):Tr A S i { S with ph:=S.ph.set i .done }
def aN{α:Type}(f:α→Nat)(l:List α):Nat:=(l.map f).sum
theorem fT{α:Type}(f:α→Nat):∀(l:List α) (i:Nat) (x y:α),l[i]?=some x→aN f (l.set i y)+f x=aN f l+f y
 |a::l,0,x,y,h=>by
  simp at h;subst h
  show f y+aN f l+f a=f a+aN f l+f y
  omega
 |a::l,i+1,x,y,h=>by
  have:=fT f l i x y (by simpa using h)
  show f a+aN f (l.set i y)+f x=f a+aN f l+f y
  omega
theorem AZ{α:Type}(f:α→Nat):∀(l:List α) (i:Nat) (x:α),l[i]?=some x→f x≤aN f l
 |a::l,0,x,h=>by
  simp at h;subst h
  show f a≤f a+aN f l
  omega
 |a::l,i+1,x,h=>by
  have:=AZ f l i x (by simpa using h)
  show f x≤f a+aN f l
  omega
theorem SG{α:Type}(f:α→Nat){l:List α}(h:aN f l=0){x:α}(hx:x∈l):f x=0:=by
 obtain⟨i,hi⟩:=re.1 hx
 have:=AZ f l i x hi
 omega
def qG:Ph→List Nat
 |.held v | .clear v=>[v]
 |.add _ _ u _ | .push _ _ u _ _=>[u]
 |_=>[]
def iZ(z:Nat)(p:Ph):Nat:=(qG p).count z
def tok(S:AS)(v:Nat):Nat:=aN (fun l=>l.count v) S.dq+aN (iZ v) S.ph
def cw:Ph→Nat
 |.idle _ _ | .done=>0
 |.push .. => 2
 |_=>1
def nodes:Ph→List Nat
 |.idle _ _ | .done=>[]
 |.held v | .clear v | .read v _ | .ee v=>[v]
 |.join v _ u r _ _ _ | .take v _ u r | .add v _ u r | .push v _ u r _=>v::u::r
structure TI(A:AP)(S:AS):Prop where
 tok:∀v,tok S v=if S.flag v then 1 else 0
 aH:S.aH=aN List.length S.dq+aN cw S.ph
 om:∀c∈S.dq,∀v∈c,v<A.n
 sT:∀p∈S.ph,∀v∈nodes p,v<A.n
theorem DN(v:Nat)(o:List Int)(r:List Nat):cw (gh v o r)=1:=by cases r <;> rfl
theorem Ds(v:Nat)(o:List Int)(r:List Nat):qG (gh v o r)=[]:=by cases r <;> rfl
theorem CR{v:Nat}{o:List Int}{r:List Nat}{z:Nat}(h:z∈nodes (gh v o r)):z=v∨z∈r:=by
 cases r with
 |nil=>simp[gh,nodes]at h;exact .inl h
 |cons u r=>simp[gh,nodes]at h;simp;omega
theorem Tv(A:AP)(v:Nat)(o:List Int)(u:Nat)(r:List Nat)(at_:Nat)(ch:Bool):cw (ft A v o u r at_ ch).1=1:=by
 unfold ft;split
 ·rfl
 ·split
  ·rfl
  ·exact DN _ _ _
theorem R0(A:AP)(v:Nat)(o:List Int)(u:Nat)(r:List Nat)(at_:Nat)(ch:Bool):qG (ft A v o u r at_ ch).1=[]:=by
 unfold ft;split
 ·rfl
 ·split
  ·rfl
  ·exact Ds _ _ _
theorem Qy{A:AP}{v:Nat}{o:List Int}{u:Nat}{r:List Nat}{at_:Nat}{ch:Bool}{z:Nat}(h:z∈nodes (ft A v o u r at_ ch).1):z∈v::u::r:=by
 revert h
 unfold ft;split
 ·exact id
 ·split
  ·exact id
  ·intro h
   rcases CR h with h | h <;> simp[h]
theorem TI.ph{A:AP}{S:AS}(h:TI A S){i:Nat}{p q:Ph}(hi:S.ph[i]?=some p)(ht:qG q=qG p)(hc:cw q=cw p)(hn:∀z∈nodes q,z<A.n){S':AS}(e1:S'.flag=S.flag)(e2:S'.aH=S.aH)(e3:S'.dq=S.dq)(e4:S'.ph=S.ph.set i q):TI A S':=by
 refine⟨fun v=>?_,?_,?_,?_⟩
 ·have:=fT (iZ v) S.ph i p q hi
  have e0:iZ v q=iZ v p:=by unfold iZ;rw[ht]
  have h1:=h.tok v
  unfold SX.tok at h1 ⊢
  rw[e1,e3,e4]
  omega
 ·have:=fT cw S.ph i p q hi
  have h1:=h.aH
  rw[e2,e3,e4]
  omega
 ·rw[e3];exact h.om
 ·rw[e4]
  intro x hx v hv
  rcases qh hx with hx | rfl
  ·exact h.sT x hx v hv
  ·exact hn v hv
theorem TI.at_{A:AP}{S:AS}(h:TI A S){i:Nat}{p:Ph}(hi:S.ph[i]?=some p){v:Nat}(hv:v∈nodes p):v<A.n:=h.sT p (cx hi) v hv
theorem xb{S:AS}{A:AP}(h:∀p∈S.ph,∀v∈nodes p,v<A.n){i:Nat}{q:Ph}(hn:∀z∈nodes q,z<A.n):∀p∈S.ph.set i q,∀v∈nodes p,v<A.n:=by
 intro x hx v hv
 rcases qh hx with hx | rfl
 ·exact h x hx v hv
 ·exact hn v hv
theorem GK{S:AS}{A:AP}(h:∀c∈S.dq,∀v∈c,v<A.n){i:Nat}{c:List Nat}(hn:∀z∈c,z<A.n):∀c'∈S.dq.set i c,∀v∈c',v<A.n:=by
 intro x hx v hv
 rcases qh hx with hx | rfl
 ·exact h x hx v hv
 ·exact hn v hv
theorem A8(a b:Nat):[a].count b=if a=b then 1 else 0:=by
 rw[List.count_singleton]
 by_cases h:a=b <;> simp[h]
theorem TI.step{A:AP}{S S':AS}{i:Nat}(h:TI A S)(hs:Tr A S i S'):TI A S':=by
 cases hs with
 |stay=>exact h
 |zH a hp ha=>exact h.ph (q:=.idle 0 (a+1)) hp rfl rfl (by simp[nodes]) rfl rfl rfl rfl
 |zI a hp hd=>exact h.ph (q:=.idle (if A.k<2 then 2 else 1) 0) hp rfl rfl (by simp[nodes]) rfl rfl rfl rfl
 |zd a hp ha=>exact h.ph (q:=.idle 1 (a+1)) hp rfl rfl (by simp[nodes]) rfl rfl rfl rfl
 |ze a hp=>exact h.ph (q:=.idle 2 0) hp rfl rfl (by simp[nodes]) rfl rfl rfl rfl
 |ask hp hc=>exact h.ph (q:=.idle (if A.k<2 then 0 else 1) 0) hp rfl rfl (by simp[nodes]) rfl rfl rfl rfl
 |zo v o u r a hp ha=>exact h.ph (q:=.push v o u r (a+1)) hp rfl rfl (fun z hz=>h.at_ hp hz) rfl rfl rfl rfl
 |pop v c a hp hd=>
  have hv:v<A.n:=h.om _ (List.mem_of_getElem? hd) v (by simp)
  refine⟨fun z=>?_,?_,GK h.om (fun z hz=>h.om _ (List.mem_of_getElem? hd) z (by simp[hz])),xb h.sT (by simpa [nodes]using hv)⟩
  ·have k1:=fT (iZ z) S.ph i _ (.clear v) hp
   have k2:=fT (fun l=>l.count z) S.dq i _ c hd
   have k3:=h.tok z
   unfold SX.tok at k3 ⊢
   simp only[iZ,qG,List.count_append,A8,FT]at k1 k2
   show aN _ (S.dq.set i c)+aN _ (S.ph.set i (.clear v))=if S.flag z then 1 else 0
   omega
  ·have k1:=fT cw S.ph i _ (.clear v) hp
   have k2:=fT List.length S.dq i _ c hd
   have k3:=h.aH
   simp only[cw,bZ,tp]at k1 k2
   show S.aH=aN List.length (S.dq.set i c)+aN cw (S.ph.set i (.clear v))
   omega
 |cas v a hp hd=>
  have hv:v<A.n:=h.om _ (List.mem_of_getElem? hd) v (by simp)
  refine⟨fun z=>?_,?_,GK h.om (fun z hz=>by cases hz),xb h.sT (by simpa [nodes]using hv)⟩
  ·have k1:=fT (iZ z) S.ph i _ (.held v) hp
   have k2:=fT (fun l=>l.count z) S.dq i _ [] hd
   have k3:=h.tok z
   unfold SX.tok at k3 ⊢
   simp only[iZ,qG,A8,FT]at k1 k2
   show aN _ (S.dq.set i [])+aN _ (S.ph.set i (.held v))=if S.flag z then 1 else 0
   omega
  ·have k1:=fT cw S.ph i _ (.held v) hp
   have k2:=fT List.length S.dq i _ [] hd
   have k3:=h.aH
   simp only[cw,List.length_nil,tp]at k1 k2
   show S.aH=aN List.length (S.dq.set i [])+aN cw (S.ph.set i (.held v))
   omega
 |Ak v hp=>exact h.ph (q:=.clear v) hp rfl rfl (by have:=h.at_ hp (v:=v) (by simp[nodes]);simpa [nodes]using this) rfl rfl rfl rfl
 |cC j v c a hp hd=>
  have hv:v<A.n:=h.om _ (List.mem_of_getElem? hd) v (by simp)
  refine⟨fun z=>?_,?_,GK h.om (fun z hz=>h.om _ (List.mem_of_getElem? hd) z (by simp[hz])),xb h.sT (by simpa [nodes]using hv)⟩
  ·have k1:=fT (iZ z) S.ph i _ (.clear v) hp
   have k2:=fT (fun l=>l.count z) S.dq j _ c hd
   have k3:=h.tok z
   unfold SX.tok at k3 ⊢
   have k4:(v::c).count z=[v].count z+c.count z:=by rw[← List.count_append];rfl
   simp only[iZ,qG,A8,FT,k4]at k1 k2
   show aN _ (S.dq.set j c)+aN _ (S.ph.set i (.clear v))=if S.flag z then 1 else 0
   omega
  ·have k1:=fT cw S.ph i _ (.clear v) hp
   have k2:=fT List.length S.dq j _ c hd
   have k3:=h.aH
   simp only[cw,ik]at k1 k2
   show S.aH=aN List.length (S.dq.set j c)+aN cw (S.ph.set i (.clear v))
   omega
 |clear v hp=>
  have hv:=h.at_ hp (v:=v) (by simp[nodes])
  refine⟨fun z=>?_,?_,h.om,xb h.sT (by simpa [nodes]using hv)⟩
  ·have k1:=fT (iZ z) S.ph i _ (.read v []) hp
   have k3:=h.tok z
   have k5:=AZ (iZ z) S.ph i _ hp
   unfold SX.tok at k3 ⊢
   simp only[iZ,qG,A8,FT]at k1 k5
   show aN _ S.dq+aN _ (S.ph.set i (.read v []))=if (if z=v then false else S.flag z) then 1 else 0
   by_cases hz:v=z
   ·subst hz
    simp only[if_true]at k1 k5 ⊢
    split at k3 <;> simp <;> omega
   ·have ez:(if z=v then false else S.flag z)=S.flag z:=ag fun e=>hz e.symm
    rw[ez]
    simp only[ag hz]at k1
    omega
  ·have k1:=fT cw S.ph i _ (.read v []) hp
   have k3:=h.aH
   simp only[cw]at k1
   show S.aH=aN List.length S.dq+aN cw (S.ph.set i (.read v []))
   omega
 |zm v y hp hy=>exact h.ph (q:=.read v (y++[S.cell v y.length])) hp rfl rfl (by have:=h.at_ hp (v:=v) (by simp[nodes]);simpa [nodes]using this) rfl rfl rfl rfl
 |zn v y y' hp hy=>
  have hv:=h.at_ hp (v:=v) (by simp[nodes])
  exact h.ph (q:=gh v (A.out v y') (A.nx v)) hp (Ds _ _ _) (DN _ _ _) (fun z hz=>by
   rcases CR hz with rfl | hz
   ·exact hv
   ·exact A.Ea hv hz) rfl rfl rfl rfl
 |load v o u r at_ ch hp ha hx=>exact h.ph (q:=.join v o u r at_ (some (S.cell u at_)) ch) hp rfl rfl (fun z hz=>h.at_ hp hz) rfl rfl rfl rfl
 |same v o u r at_ ch hp ha hx=>exact h.ph (q:=(ft A v o u r at_ ch).1) hp (R0 ..) (Tv ..) (fun z hz=>h.at_ hp (Qy hz)) rfl rfl rfl rfl
 |lost v o u r at_ ch x hp ha hx=>exact h.ph (q:=.join v o u r at_ none ch) hp rfl rfl (fun z hz=>h.at_ hp hz) rfl rfl rfl rfl
 |zT v o u r at_ ch hp ha hx=>exact h.ph (q:=(ft A v o u r at_ true).1) hp (R0 ..) (Tv ..) (fun z hz=>h.at_ hp (Qy hz)) rfl rfl rfl rfl
 |none v o u r hp ha=>exact h.ph (q:=gh v o r) hp (Ds _ _ _) (DN _ _ _) (fun z hz=>h.at_ hp (by rcases CR hz with hz | hz <;> simp[nodes,hz])) rfl rfl rfl rfl
 |flag v o u r hp hf=>
  refine⟨fun z=>?_,?_,h.om,xb h.sT (fun z hz=>h.at_ hp hz)⟩
  ·have k1:=fT (iZ z) S.ph i _ (.add v o u r) hp
   have k3:=h.tok z
   unfold SX.tok at k3 ⊢
   simp only[iZ,qG,A8,FT]at k1
   show aN _ S.dq+aN _ (S.ph.set i (.add v o u r))=if (if z=u then true else S.flag z) then 1 else 0
   by_cases hz:u=z
   ·subst hz
    rw[hf]at k3
    simp at k1 k3 ⊢
    omega
   ·have ez:(if z=u then true else S.flag z)=S.flag z:=ag fun e=>hz e.symm
    rw[ez]
    simp only[ag hz]at k1
    omega
  ·have k1:=fT cw S.ph i _ (.add v o u r) hp
   have k3:=h.aH
   simp only[cw]at k1
   show S.aH=aN List.length S.dq+aN cw (S.ph.set i (.add v o u r))
   omega
 |zL v o u r hp hf=>exact h.ph (q:=gh v o r) hp (Ds _ _ _) (DN _ _ _) (fun z hz=>h.at_ hp (by rcases CR hz with hz | hz <;> simp[nodes,hz])) rfl rfl rfl rfl
 |add v o u r hp=>
  refine⟨fun z=>?_,?_,h.om,xb h.sT (fun z hz=>h.at_ hp hz)⟩
  ·have k1:=fT (iZ z) S.ph i _ (.push v o u r 0) hp
   have k3:=h.tok z
   unfold SX.tok at k3 ⊢
   simp only[iZ,qG]at k1
   show aN _ S.dq+aN _ (S.ph.set i (.push v o u r 0))=if S.flag z then 1 else 0
   omega
  ·have k1:=fT cw S.ph i _ (.push v o u r 0) hp
   have k3:=h.aH
   simp only[cw]at k1
   show S.aH+1=aN List.length S.dq+aN cw (S.ph.set i (.push v o u r 0))
   omega
 |push v o u r c hp hd=>
  have hu:=h.at_ hp (v:=u) (by simp[nodes])
  refine⟨fun z=>?_,?_,GK h.om (fun z hz=>?_),xb h.sT (fun z hz=>h.at_ hp (by rcases CR hz with hz | hz <;> simp[nodes,hz]))⟩
  ·have k1:=fT (iZ z) S.ph i _ (gh v o r) hp
   have k2:=fT (fun l=>l.count z) S.dq i _ (c++[u]) hd
   have k3:=h.tok z
   unfold SX.tok at k3 ⊢
   have e0:iZ z (gh v o r)=0:=by unfold iZ;rw[Ds];rfl
   rw[e0]at k1
   simp only[iZ,qG,List.count_append,A8]at k1 k2
   show aN _ (S.dq.set i (c++[u]))+aN _ (S.ph.set i (gh v o r))=if S.flag z then 1 else 0
   omega
  ·have k1:=fT cw S.ph i _ (gh v o r) hp
   have k2:=fT List.length S.dq i _ (c++[u]) hd
   have k3:=h.aH
   rw[DN]at k1
   simp only[cw,bZ,tp]at k1 k2
   show S.aH=aN List.length (S.dq.set i (c++[u]))+aN cw (S.ph.set i (gh v o r))
   omega
  ·rcases bV.1 hz with hz | hz
   ·exact h.om _ (cx hd) z hz
   ·rw[bB.1 hz];exact hu
 |ee v hp=>
  refine⟨fun z=>?_,?_,h.om,xb h.sT (by simp[nodes])⟩
  ·have k1:=fT (iZ z) S.ph i _ (.idle 0 0) hp
   have k3:=h.tok z
   unfold SX.tok at k3 ⊢
   simp only[iZ,qG]at k1
   show aN _ S.dq+aN _ (S.ph.set i (.idle 0 0))=if S.flag z then 1 else 0
   omega
  ·have k1:=fT cw S.ph i _ (.idle 0 0) hp
   have k3:=h.aH
   simp only[cw]at k1
   show S.aH-1=aN List.length S.dq+aN cw (S.ph.set i (.idle 0 0))
   omega
 |zF hp hc=>exact h.ph (q:=.done) hp rfl rfl (by simp[nodes]) rfl rfl rfl rfl
end SX
end Go.Proofs.YtnikdflhefijbaaGreat
namespace Go.Proofs.YtnikdflhefijbaaGreat
set_option maxRecDepth 100000
set_option maxHeartbeats 4000000
namespace SX
variable {A:AP}
theorem le_trans{i:Nat}{x y z:Int}(hx:A.ok i x)(hy:A.ok i y)(hz:A.ok i z)(h1:A.jw x y=y)(h2:A.jw y z=z):A.jw x z=z:=by
 rw[← h2,← A.assoc hx hy hz,h1]
theorem Mw{i:Nat}{x y:Int}(hx:A.ok i x)(hy:A.ok i y):A.jw x (A.jw x y)=A.jw x y:=by
 rw[← A.assoc hx hx hy,A.idem hx]
theorem To{i:Nat}{x y:Int}(hx:A.ok i x)(hy:A.ok i y):A.jw y (A.jw x y)=A.jw x y:=by
 rw[A.comm hx hy,← A.assoc hy hy hx,A.idem hy]
theorem aem{i:Nat}{x y z:Int}(hx:A.ok i x)(hy:A.ok i y)(hz:A.ok i z)(h1:A.jw x z=z)(h2:A.jw y z=z):A.jw (A.jw x y) z=z:=by
 rw[A.assoc hx hy hz,h2,h1]
theorem G8(c:Nat→Nat→Int)(v:Nat):(ml A c v).length=A.W:=by simp[ml]
theorem Da(c:Nat→Nat→Int)(v:Nat){i:Nat}(h:i<A.W):(ml A c v).getD i 0=c v i:=by
 unfold ml
 rw[aZ,fm,tf h];rfl
theorem Bb(c:Nat→Nat→Int)(v i:Nat)(x:Int):eT c v i x v i=x:=by simp[eT]
theorem vq{c:Nat→Nat→Int}{v i:Nat}{x:Int}{v' i':Nat}(h:¬(v'=v∧i'=i)):eT c v i x v' i'=c v' i':=by simp only[eT,ag h]
theorem aaH{c:Nat→Nat→Int}{v i:Nat}{x:Int}{v':Nat}(h:v'≠v):ml A (eT c v i x) v'=ml A c v':=by
 unfold ml
 refine wS fun j _=>?_
 exact vq fun e=>h e.1
structure Ev(A:AP)(b:Nat→Nat→Int)(v:Nat)(o:List Int):Prop where
 len:o.length=A.W
 ok:∀i,i<A.W→A.ok i (o.getD i 0)
 low:∀u∈A.nx v,∀i,i<A.W→A.jw (o.getD i 0) (b u i)=b u i
def vX(A:AP)(b cell:Nat→Nat→Int):Ph→Prop
 |.read v y=>(y.length<A.W∨(A.W=0∧y=[]))∧∀i,i<y.length→A.ok i (y.getD i 0)∧A.jw (y.getD i 0) (cell v i)=cell v i
 |.join v o u r at_ ld _=>Ev A b v o∧u∈A.nx v∧(∀z∈r,z∈A.nx v)∧(∀i,i<at_→i<A.W→A.jw (o.getD i 0) (cell u i)=cell u i)∧(∀x,ld=some x→at_<A.W)
 |.take v o u r | .add v o u r | .push v o u r _=>Ev A b v o∧u∈A.nx v∧(∀z∈r,z∈A.nx v)∧(∀i,i<A.W→A.jw (o.getD i 0) (cell u i)=cell u i)
 |_=>True
structure Xx(A:AP)(b:Nat→Nat→Int):Prop where
 ok:∀v i,v<A.n→i<A.W→A.ok i (b v i)
 out:∀v,v<A.n→∀u∈A.nx v,∀i,i<A.W→A.jw ((A.out v (ml A b v)).getD i 0) (b u i)=b u i
structure VI(A:AP)(b:Nat→Nat→Int)(S:AS):Prop where
 ok:∀v i,v<A.n→i<A.W→A.ok i (S.cell v i)
 low:∀v i,v<A.n→i<A.W→A.jw (S.cell v i) (b v i)=b v i
 ph:∀p∈S.ph,vX A b S.cell p
theorem vX.ahN{b cell Bz:Nat→Nat→Int}{p:Ph}(h:vX A b cell p)(hn:∀v∈nodes p,v<A.n)(h0:∀v i,v<A.n→i<A.W→A.ok i (cell v i))(h1:∀v i,v<A.n→i<A.W→A.ok i (Bz v i))(h2:∀v i,v<A.n→i<A.W→A.jw (cell v i) (Bz v i)=Bz v i):vX A b Bz p:=by
 have key:∀{v:Nat} {o:List Int} {u:Nat} {m:Nat},Ev A b v o→u<A.n→(∀i,i<m→i<A.W→A.jw (o.getD i 0) (cell u i)=cell u i)→∀i,i<m→i<A.W→A.jw (o.getD i 0) (Bz u i)=Bz u i:=by
  intro v o u m ho hu hj i hi hw
  exact le_trans (ho.ok i hw) (h0 u i hu hw) (h1 u i hu hw) (hj i hi hw) (h2 u i hu hw)
 cases p with
 |read v y=>
  obtain⟨h3,h4⟩:=h
  refine⟨h3,fun i hi=>⟨(h4 i hi).1,?_⟩⟩
  have hw:i<A.W:=by (rcases h3 with h3 | ⟨_,rfl⟩);exact FQ hi h3;cases hi
  have hv:=hn v (by simp[nodes])
  exact le_trans (h4 i hi).1 (h0 v i hv hw) (h1 v i hv hw) (h4 i hi).2 (h2 v i hv hw)
 |join v o u r at_ ld ch=>
  obtain⟨h3,h4,h5,h6,h7⟩:=h
  exact⟨h3,h4,h5,key h3 (hn u (by simp[nodes])) h6,h7⟩
 |take v o u r=>
  obtain⟨h3,h4,h5,h6⟩:=h
  exact⟨h3,h4,h5,fun i hi=>key (m:=A.W) h3 (hn u (by simp[nodes])) (fun i _ hw=>h6 i hw) i hi hi⟩
 |add v o u r=>
  obtain⟨h3,h4,h5,h6⟩:=h
  exact⟨h3,h4,h5,fun i hi=>key (m:=A.W) h3 (hn u (by simp[nodes])) (fun i _ hw=>h6 i hw) i hi hi⟩
 |push v o u r a=>
  obtain⟨h3,h4,h5,h6⟩:=h
  exact⟨h3,h4,h5,fun i hi=>key (m:=A.W) h3 (hn u (by simp[nodes])) (fun i _ hw=>h6 i hw) i hi hi⟩
 |_=>trivial
theorem DL{b cell:Nat→Nat→Int}{v:Nat}{o:List Int}{r:List Nat}(h:Ev A b v o)(hr:∀z∈r,z∈A.nx v):vX A b cell (gh v o r):=by
 cases r with
 |nil=>trivial
 |cons u r=>exact⟨h,hr u (by simp),fun z hz=>hr z (by simp[hz]),fun i hi=>absurd hi (Nat.not_lt_zero _),fun x hx=>by cases hx⟩
theorem Tt{b cell:Nat→Nat→Int}{v:Nat}{o:List Int}{u:Nat}{r:List Nat}{at_:Nat}{ch:Bool}(h:Ev A b v o)(hu:u∈A.nx v)(hr:∀z∈r,z∈A.nx v)(hj:∀i,i<at_+1→i<A.W→A.jw (o.getD i 0) (cell u i)=cell u i):vX A b cell (ft A v o u r at_ ch).1:=by
 unfold ft
 split
 ·exact⟨h,hu,hr,hj,fun x hx=>by cases hx⟩
 ·split
  ·exact⟨h,hu,hr,fun i hi=>hj i (by omega) hi⟩
  ·exact DL h hr
theorem G5(y:List Int)(x:Int)(i:Nat):(y++[x]).getD i 0=if i<y.length then y.getD i 0 else if i=y.length then x else 0:=by
 simp only[aZ]
 by_cases h:i<y.length
 ·rw[ah h,ky h]
 ·rw[ag h,jb (by omega)]
  by_cases h2:i=y.length
  ·simp[h2]
  ·rw[if_neg h2,List.getElem?_eq_none (by simp;omega)];rfl
theorem VI.step{b:Nat→Nat→Int}{S S':AS}{i:Nat}(hb:Xx A b)(ht:TI A S)(h:VI A b S)(hs:Tr A S i S'):VI A b S'∧∀v j,v<A.n→j<A.W→A.jw (S.cell v j) (S'.cell v j)=S'.cell v j:=by
 have hrefl:∀v j,v<A.n→j<A.W→A.jw (S.cell v j) (S.cell v j)=S.cell v j:=fun v j hv hj=>A.idem (h.ok v j hv hj)
 have jW:∀{q:Ph} {S':AS},S'.cell=S.cell→S'.ph=S.ph.set i q→vX A b S.cell q→VI A b S'∧∀v j,v<A.n→j<A.W→A.jw (S.cell v j) (S'.cell v j)=S'.cell v j:=by
  intro q S' e1 e2 hq
  refine⟨⟨by rw[e1];exact h.ok,by rw[e1];exact h.low,?_⟩,by rw[e1];exact hrefl⟩
  rw[e1,e2]
  intro p hp
  rcases qh hp with hp | rfl
  ·exact h.ph p hp
  ·exact hq
 have at_:∀{p:Ph},S.ph[i]?=some p→vX A b S.cell p:=fun hp=>h.ph _ (cx hp)
 cases hs with
 |stay=>exact⟨h,hrefl⟩
 |zH a hp ha=>exact jW rfl rfl trivial
 |zI a hp hd=>exact jW rfl rfl trivial
 |zd a hp ha=>exact jW rfl rfl trivial
 |ze a hp=>exact jW rfl rfl trivial
 |ask hp hc=>exact jW rfl rfl trivial
 |zo v o u r a hp ha=>
  obtain⟨h1,h2,h3,h4⟩:=at_ hp
  exact jW rfl rfl ⟨h1,h2,h3,h4⟩
 |pop v c a hp hd=>exact jW rfl rfl trivial
 |cas v a hp hd=>exact jW rfl rfl trivial
 |Ak v hp=>exact jW rfl rfl trivial
 |cC j v c a hp hd=>exact jW rfl rfl trivial
 |clear v hp=>exact jW rfl rfl ⟨(uK A.W).elim (fun h=>.inr ⟨h,rfl⟩) .inl,fun i hi=>by cases hi⟩
 |zm v y hp hy=>
  obtain⟨h1,h2⟩:=at_ hp
  have hv:=ht.at_ hp (v:=v) (by simp[nodes])
  refine jW rfl rfl ⟨.inl (by simp;omega),fun j hj=>?_⟩
  simp at hj
  rw[G5]
  by_cases gP:j<y.length
  ·rw[ah gP];exact h2 j gP
  ·have:j=y.length:=by omega
   subst this
   rw[ag (by omega),ah rfl]
   exact⟨h.ok v _ hv (by omega),hrefl v _ hv (by omega)⟩
 |zn v y y' hp hy=>
  obtain⟨h1,h2⟩:=at_ hp
  have hv:=ht.at_ hp (v:=v) (by simp[nodes])
  have uu:y'.length=A.W∧∀j,j<A.W→A.ok j (y'.getD j 0)∧A.jw (y'.getD j 0) (S.cell v j)=S.cell v j:=by
   rcases hy with ⟨hl,rfl⟩ | ⟨hw,rfl⟩
   ·refine⟨by simpa using hl,fun j hj=>?_⟩
    rw[G5]
    by_cases gP:j<y.length
    ·rw[ah gP];exact h2 j gP
    ·have:j=y.length:=by omega
     subst this
     rw[ag (by omega),ah rfl]
     exact⟨h.ok v _ hv (by omega),hrefl v _ hv (by omega)⟩
   ·exact⟨hw.symm,fun j hj=>by omega⟩
  obtain⟨k1,k2⟩:=A.IB hv uu.1 fun j hj=>(uu.2 j hj).1
  have nh:=G8 (A:=A) b v
  obtain⟨m1,m2⟩:=A.IB hv nh fun j hj=>by rw[Da b v hj];exact hb.ok v j hv hj
  have ahc:=A.mono hv uu.1 nh (fun j hj=>(uu.2 j hj).1) (fun j hj=>by rw[Da b v hj];exact hb.ok v j hv hj) fun j hj=>by
   rw[Da b v hj]
   exact le_trans (uu.2 j hj).1 (h.ok v j hv hj) (hb.ok v j hv hj) (uu.2 j hj).2 (h.low v j hv hj)
  refine jW rfl rfl (DL ⟨k1,k2,fun u hu j hj=>?_⟩ fun z hz=>hz)
  exact le_trans (k2 j hj) (m2 j hj) (hb.ok u j (A.Ea hv hu) hj) (ahc j hj) (hb.out v hv u hu j hj)
 |load v o u r a ch hp ha hx=>
  obtain⟨h1,h2,h3,h4,_⟩:=at_ hp
  exact jW rfl rfl ⟨h1,h2,h3,h4,fun _ _=>ha⟩
 |same v o u r a ch hp ha hx=>
  obtain⟨h1,h2,h3,h4,_⟩:=at_ hp
  have hu:=ht.at_ hp (v:=u) (by simp[nodes])
  refine jW rfl rfl (Tt h1 h2 h3 fun j hj hw=>?_)
  rcases Cx (Cu hj) with hj | rfl
  ·exact h4 j hj hw
  ·rw[A.comm (h1.ok j hw) (h.ok u j hu hw),hx]
 |lost v o u r a ch x hp ha hx=>
  obtain⟨h1,h2,h3,h4,_⟩:=at_ hp
  exact jW rfl rfl ⟨h1,h2,h3,h4,fun _ hx=>by cases hx⟩
 |zT v o u r a ch hp ha hx=>
  obtain⟨h1,h2,h3,h4,_⟩:=at_ hp
  have hu:=ht.at_ hp (v:=u) (by simp[nodes])
  have yg:=h1.ok a ha
  have pj:=h.ok u a hu ha
  have cb:∀v' j,v'<A.n→j<A.W→A.ok j (eT S.cell u a (A.jw (S.cell u a) (o.getD a 0)) v' j):=fun v' j o7 hj=>by
   by_cases he:v'=u∧j=a
   ·obtain⟨rfl,rfl⟩:=he
    rw[Bb];exact A.Oq pj yg
   ·rw[vq he];exact h.ok v' j o7 hj
  have zu:∀v' j,v'<A.n→j<A.W→A.jw (S.cell v' j) (eT S.cell u a (A.jw (S.cell u a) (o.getD a 0)) v' j)=eT S.cell u a (A.jw (S.cell u a) (o.getD a 0)) v' j:=fun v' j o7 hj=>by
   by_cases he:v'=u∧j=a
   ·obtain⟨rfl,rfl⟩:=he
    rw[Bb];exact Mw pj yg
   ·rw[vq he];exact hrefl v' j o7 hj
  refine⟨⟨cb,fun v' j o7 hj=>?_,?_⟩,zu⟩
  ·show A.jw (eT S.cell u a (A.jw (S.cell u a) (o.getD a 0)) v' j) (b v' j)=b v' j
   by_cases he:v'=u∧j=a
   ·obtain⟨rfl,rfl⟩:=he
    rw[Bb]
    exact aem pj yg (hb.ok _ _ hu ha) (h.low _ _ hu ha) (h1.low _ h2 _ ha)
   ·rw[vq he];exact h.low v' j o7 hj
  ·intro p nY
   rcases qh nY with nY | rfl
   ·exact (h.ph p nY).ahN (ht.sT p nY) h.ok cb zu
   ·refine Tt h1 h2 h3 fun j hj hw=>?_
    show A.jw (o.getD j 0) (eT S.cell u a (A.jw (S.cell u a) (o.getD a 0)) u j)=eT S.cell u a (A.jw (S.cell u a) (o.getD a 0)) u j
    rcases Cx (Cu hj) with hj | rfl
    ·rw[vq (fun e=>by omega)];exact h4 j hj hw
    ·rw[Bb];exact To pj yg
 |none v o u r hp ha=>
  obtain⟨h1,h2,h3,h4,_⟩:=at_ hp
  exact jW rfl rfl (DL h1 h3)
 |flag v o u r hp hf=>
  obtain⟨h1,h2,h3,h4⟩:=at_ hp
  exact jW rfl rfl ⟨h1,h2,h3,h4⟩
 |zL v o u r hp hf=>
  obtain⟨h1,h2,h3,h4⟩:=at_ hp
  exact jW rfl rfl (DL h1 h3)
 |add v o u r hp=>
  obtain⟨h1,h2,h3,h4⟩:=at_ hp
  exact jW rfl rfl ⟨h1,h2,h3,h4⟩
 |push v o u r c hp hd=>
  obtain⟨h1,h2,h3,h4⟩:=at_ hp
  exact jW rfl rfl (DL h1 h3)
 |ee v hp=>exact jW rfl rfl trivial
 |zF hp hc=>exact jW rfl rfl trivial
end SX
end Go.Proofs.YtnikdflhefijbaaGreat
namespace Go.Proofs.YtnikdflhefijbaaGreat
set_option maxRecDepth 100000
set_option maxHeartbeats 4000000
namespace SX
variable {A:AP}
def Iz(v:Nat):Ph→Prop
 |.join _ _ u _ _ _ ch=>u=v∧ch=true
 |.take _ _ u _=>u=v
 |_=>False
def xK(cell:Nat→Nat→Int)(v:Nat):Ph→Prop
 |.read z y=>z=v∧∀i,i<y.length→y.getD i 0=cell v i
 |_=>False
def BO(A:AP)(cell:Nat→Nat→Int)(v u:Nat):Ph→Prop
 |.join z o u' r _ _ _=>z=v∧o=A.out v (ml A cell v)∧(u=u'∨u∈r)
 |.take z o _ r | .add z o _ r | .push z o _ r _=>z=v∧o=A.out v (ml A cell v)∧u∈r
 |_=>False
def B0(A:AP)(cell:Nat→Nat→Int)(v u:Nat):Prop:=∀i,i<A.W→A.jw ((A.out v (ml A cell v)).getD i 0) (cell u i)=cell u i
def yC(A:AP)(S:AS)(v:Nat):Prop:=
 S.flag v=true∨(∃p∈S.ph,Iz v p)∨(∃p∈S.ph,xK S.cell v p)∨∀u∈A.nx v,B0 A S.cell v u∨∃p∈S.ph,BO A S.cell v u p
theorem Q8{α:Type}{l:List α}{i:Nat}{p q x:α}(hi:l[i]?=some p)(hx:x∈l):x=p∨x∈l.set i q:=by
 obtain⟨j,hj⟩:=re.1 hx
 by_cases h:i=j
 ·subst h;rw[hi]at hj;exact .inl (Option.some.inj hj).symm
 ·right
  refine re.2 ⟨j,?_⟩
  rw[fj,ag h];exact hj
theorem Qi{α:Type}{l:List α}{i:Nat}{p q:α}(hi:l[i]?=some p):q∈l.set i q:=by
 refine re.2 ⟨i,?_⟩
 rw[fj,ah rfl,ah (ck.1 hi).1]
theorem yC.keep{S S':AS}{i:Nat}{p q:Ph}{v:Nat}(h:yC A S v)(hi:S.ph[i]?=some p)(e1:S'.cell=S.cell)(e2:S'.ph=S.ph.set i q)
  (hf:S.flag v=true→S'.flag v=true∨xK S.cell v q) (hp:Iz v p→Iz v q∨S'.flag v=true) (hr:xK S.cell v p→xK S.cell v q∨∀u∈A.nx v,BO A S.cell v u q) (hc:∀u,BO A S.cell v u p→BO A S.cell v u q∨B0 A S.cell v u):yC A S' v:=by
 have hq:q∈S'.ph:=by rw[e2];exact Qi hi
 have hm:∀x∈S.ph,x=p∨x∈S'.ph:=fun x hx=>by rw[e2];exact Q8 hi hx
 rcases h with h | ⟨x,hx,h⟩ | ⟨x,hx,h⟩ | h
 ·rcases hf h with h | h
  ·exact .inl h
  ·exact .inr (.inr (.inl ⟨q,hq,by rw[e1];exact h⟩))
 ·rcases hm x hx with rfl | hx
  ·rcases hp h with h | h
   ·exact .inr (.inl ⟨q,hq,h⟩)
   ·exact .inl h
  ·exact .inr (.inl ⟨x,hx,h⟩)
 ·rcases hm x hx with rfl | hx
  ·rcases hr h with h | h
   ·exact .inr (.inr (.inl ⟨q,hq,by rw[e1];exact h⟩))
   ·exact .inr (.inr (.inr fun u hu=>.inr ⟨q,hq,by rw[e1];exact h u hu⟩))
  ·exact .inr (.inr (.inl ⟨x,hx,by rw[e1];exact h⟩))
 ·refine .inr (.inr (.inr fun u hu=>?_))
  rw[e1]
  rcases h u hu with h | ⟨x,hx,h⟩
  ·exact .inl h
  ·rcases hm x hx with rfl | hx
   ·rcases hc u h with h | h
    ·exact .inr ⟨q,hq,h⟩
    ·exact .inl h
   ·exact .inr ⟨x,hx,h⟩
theorem Dt{cell:Nat→Nat→Int}{v z:Nat}{o:List Int}{r:List Nat}{u:Nat}(h1:z=v)(h2:o=A.out v (ml A cell v))(h3:u∈r):BO A cell v u (gh z o r):=by
 cases r with
 |nil=>cases h3
 |cons w r=>exact⟨h1,h2,by simpa using h3⟩
theorem Ra{v z:Nat}{o:List Int}{u:Nat}{r:List Nat}{at_:Nat}{ch:Bool}(h:u=v∧ch=true):Iz v (ft A z o u r at_ ch).1:=by
 obtain⟨h1,rfl⟩:=h
 unfold ft
 split
 ·exact⟨h1,rfl⟩
 ·rw[ah rfl];exact h1
theorem R2{cell:Nat→Nat→Int}{v z:Nat}{o:List Int}{u w:Nat}{r:List Nat}{at_:Nat}{ch:Bool}(h1:z=v)(h2:o=A.out v (ml A cell v))(h3:w=u∨w∈r)(hj:∀i,i<at_+1→i<A.W→A.jw (o.getD i 0) (cell u i)=cell u i):BO A cell v w (ft A z o u r at_ ch).1∨B0 A cell v w:=by
 unfold ft
 split
 ·exact .inl ⟨h1,h2,h3⟩
 ·rename_i hw
  rcases h3 with rfl | h3
  ·exact .inr fun i hi=>by rw[← h2];exact hj i (by omega) hi
  ·split
   ·exact .inl ⟨h1,h2,h3⟩
   ·exact .inl (Dt h1 h2 h3)
theorem Qb{y z:List Int}(hl:y.length=z.length)(h:∀i,i<y.length→y.getD i 0=z.getD i 0):y=z:=by
 refine As hl fun i h1 h2=>?_
 have:=h i h1
 simpa [List.getD_eq_getElem?_getD,h1,h2]using this
theorem yC.step{b:Nat→Nat→Int}{S S':AS}{i:Nat}(ht:TI A S)(hv:VI A b S)(hs:Tr A S i S'){v:Nat}(dy:v<A.n)(h:yC A S v):yC A S' v:=by
 have at_:∀{p:Ph},S.ph[i]?=some p→vX A b S.cell p:=fun hp=>hv.ph _ (cx hp)
 cases hs with
 |stay=>exact h
 |zH a hp ha=>exact h.keep hp rfl rfl .inl (fun h=>h.elim) (fun h=>h.elim) fun u h=>h.elim
 |zI a hp hd=>exact h.keep hp rfl rfl .inl (fun h=>h.elim) (fun h=>h.elim) fun u h=>h.elim
 |zd a hp ha=>exact h.keep hp rfl rfl .inl (fun h=>h.elim) (fun h=>h.elim) fun u h=>h.elim
 |ze a hp=>exact h.keep hp rfl rfl .inl (fun h=>h.elim) (fun h=>h.elim) fun u h=>h.elim
 |ask hp hc=>exact h.keep hp rfl rfl .inl (fun h=>h.elim) (fun h=>h.elim) fun u h=>h.elim
 |zo z o u r a hp ha=>exact h.keep hp rfl rfl .inl (fun h=>h.elim) (fun h=>h.elim) fun u h=>.inl h
 |pop z c a hp hd=>exact h.keep hp rfl rfl .inl (fun h=>h.elim) (fun h=>h.elim) fun u h=>h.elim
 |cas z a hp hd=>exact h.keep hp rfl rfl .inl (fun h=>h.elim) (fun h=>h.elim) fun u h=>h.elim
 |Ak z hp=>exact h.keep hp rfl rfl .inl (fun h=>h.elim) (fun h=>h.elim) fun u h=>h.elim
 |cC j z c a hp hd=>exact h.keep hp rfl rfl .inl (fun h=>h.elim) (fun h=>h.elim) fun u h=>h.elim
 |clear z hp=>
  refine h.keep hp rfl rfl (fun hf=>?_) (fun h=>h.elim) (fun h=>h.elim) fun u h=>h.elim
  by_cases hz:v=z
  ·exact .inr ⟨hz.symm,fun i hi=>absurd hi (og _)⟩
  ·left;show (if v=z then false else S.flag v)=true;rw[ag hz];exact hf
 |zm z y hp hy=>
  refine h.keep hp rfl rfl .inl (fun h=>h.elim) (fun h=>.inl ?_) fun u h=>h.elim
  obtain⟨rfl,h2⟩:=h
  refine⟨rfl,fun j hj=>?_⟩
  simp at hj
  rw[G5]
  by_cases gP:j<y.length
  ·rw[ah gP];exact h2 j gP
  ·rw[ag gP,ah (by omega),show j=y.length by omega]
 |zn z y y' hp hy=>
  refine h.keep hp rfl rfl .inl (fun h=>h.elim) (fun h=>.inr fun u hu=>?_) fun u h=>h.elim
  obtain⟨rfl,h2⟩:=h
  have e:y'=ml A S.cell z:=by
   rcases hy with ⟨hl,rfl⟩ | ⟨hw,rfl⟩
   ·refine Qb (by rw[G8];simpa using hl) fun j hj=>?_
    simp at hj
    rw[Da _ _ (by omega),G5]
    by_cases gP:j<y.length
    ·rw[ah gP];exact h2 j gP
    ·rw[ag gP,ah (by omega),show j=y.length by omega]
   ·exact Qb (by rw[G8];exact hw.symm) fun j hj=>absurd hj (og _)
  exact Dt rfl (by rw[e]) hu
 |load z o u r a ch hp ha hx=>exact h.keep hp rfl rfl .inl .inl (fun h=>h.elim) fun u h=>.inl h
 |same z o u r a ch hp ha hx=>
  obtain⟨h1,h2,h3,h4,_⟩:=at_ hp
  have hu:=ht.at_ hp (v:=u) (by simp[nodes])
  refine h.keep hp rfl rfl .inl (fun h=>.inl (Ra h)) (fun h=>h.elim) fun w hw=>?_
  obtain⟨k1,k2,k3⟩:=hw
  refine R2 k1 k2 k3 fun j hj hw=>?_
  rcases Cx (Cu hj) with hj | rfl
  ·exact h4 j hj hw
  ·rw[A.comm (h1.ok j hw) (hv.ok u j hu hw),hx]
 |lost z o u r a ch x hp ha hx=>exact h.keep hp rfl rfl .inl .inl (fun h=>h.elim) fun u h=>.inl h
 |zT z o u r a ch hp ha hx=>
  obtain⟨h1,h2,h3,h4,_⟩:=at_ hp
  have hu:=ht.at_ hp (v:=u) (by simp[nodes])
  have yg:=h1.ok a ha
  have pj:=hv.ok u a hu ha
  have hq:(ft A z o u r a true).1∈(S.ph.set i (ft A z o u r a true).1):=Qi hp
  by_cases JK:v=u
  ·exact .inr (.inl ⟨_,hq,Ra ⟨JK.symm,rfl⟩⟩)
  ·have lQ:∀j,eT S.cell u a (A.jw (S.cell u a) (o.getD a 0)) v j=S.cell v j:=fun j=>vq fun e=>JK e.1
   have hL:ml A (eT S.cell u a (A.jw (S.cell u a) (o.getD a 0))) v=ml A S.cell v:=aaH JK
   have hle:∀w∈A.nx v,B0 A S.cell v w→B0 A (eT S.cell u a (A.jw (S.cell u a) (o.getD a 0))) v w:=fun w hw hl j hj=>by
    rw[hL]
    have hwn:=A.Ea dy hw
    by_cases he:w=u∧j=a
    ·obtain⟨rfl,rfl⟩:=he
     rw[Bb]
     obtain⟨m1,m2⟩:=A.IB dy (G8 (A:=A) S.cell v) fun j hj=>by rw[Da _ _ hj];exact hv.ok v j dy hj
     exact le_trans (m2 _ hj) pj (A.Oq pj yg) (hl _ hj) (Mw pj yg)
    ·rw[vq he];exact hl j hj
   have hm:∀x∈S.ph,x=.join z o u r a (some (S.cell u a)) ch∨x∈S.ph.set i (ft A z o u r a true).1:=fun x hx=>Q8 hp hx
   rcases h with h | ⟨x,jA,h⟩ | ⟨x,jA,h⟩ | h
   ·exact .inl h
   ·rcases hm x jA with rfl | jA
    ·exact absurd h.1.symm JK
    ·exact .inr (.inl ⟨x,jA,h⟩)
   ·rcases hm x jA with rfl | jA
    ·exact h.elim
    ·refine .inr (.inr (.inl ⟨x,jA,?_⟩))
     cases x with
     |read z' y=>exact⟨h.1,fun j hj=>by rw[h.2 j hj];exact (lQ j).symm⟩
     |_=>exact h.elim
   ·refine .inr (.inr (.inr fun w hw=>?_))
    rcases h w hw with h | ⟨x,jA,h⟩
    ·exact .inl (hle w hw h)
    ·rcases hm x jA with rfl | jA
     ·obtain⟨k1,k2,k3⟩:=h
      have hwn:=A.Ea dy hw
      have:=R2 (A:=A) (cell:=eT S.cell u a (A.jw (S.cell u a) (o.getD a 0))) (r:=r) (at_:=a) (ch:=true) k1 (k2.trans (by rw[hL])) k3 fun j hj hw=>by
       rcases Cx (Cu hj) with hj | rfl
       ·rw[vq (fun e=>by omega)];exact h4 j hj hw
       ·rw[Bb];exact To pj yg
      rcases this with h | h
      ·exact .inr ⟨_,hq,h⟩
      ·exact .inl h
     ·right
      refine⟨x,jA,?_⟩
      cases x with
      |join z' o' u' r' a' ld' ch'=>exact⟨h.1,h.2.1.trans (by rw[hL]),h.2.2⟩
      |take z' o' u' r'=>exact⟨h.1,h.2.1.trans (by rw[hL]),h.2.2⟩
      |add z' o' u' r'=>exact⟨h.1,h.2.1.trans (by rw[hL]),h.2.2⟩
      |push z' o' u' r' a'=>exact⟨h.1,h.2.1.trans (by rw[hL]),h.2.2⟩
      |_=>exact h.elim
 |none z o u r hp ha=>
  obtain⟨h1,h2,h3,h4,_⟩:=at_ hp
  refine h.keep hp rfl rfl .inl (fun h=>by cases h.2) (fun h=>h.elim) fun w hw=>?_
  obtain⟨k1,k2,k3⟩:=hw
  rcases k3 with rfl | k3
  ·exact .inr fun i hi=>by omega
  ·exact .inl (Dt k1 k2 k3)
 |flag z o u r hp hf=>
  refine h.keep hp rfl rfl (fun h=>.inl ?_) (fun h=>.inr ?_) (fun h=>h.elim) fun u h=>.inl h
  ·show (if v=u then true else S.flag v)=true;(split);rfl;exact h
  ·have h:u=v:=h
   show (if v=u then true else S.flag v)=true;rw[ah h.symm]
 |zL z o u r hp hf=>
  refine h.keep hp rfl rfl .inl (fun h=>.inr ?_) (fun h=>h.elim) fun w hw=>.inl (Dt hw.1 hw.2.1 hw.2.2)
  have h:u=v:=h
  rw[← h];exact hf
 |add z o u r hp=>exact h.keep hp rfl rfl .inl (fun h=>h.elim) (fun h=>h.elim) fun u h=>.inl h
 |push z o u r c hp hd=>exact h.keep hp rfl rfl .inl (fun h=>h.elim) (fun h=>h.elim) fun w hw=>.inl (Dt hw.1 hw.2.1 hw.2.2)
 |ee z hp=>exact h.keep hp rfl rfl .inl (fun h=>h.elim) (fun h=>h.elim) fun u h=>h.elim
 |zF hp hc=>exact h.keep hp rfl rfl .inl (fun h=>h.elim) (fun h=>h.elim) fun u h=>h.elim
theorem wZ{α:Type}{f:α→Nat}:∀{l:List α},(∀x∈l,f x=0)→aN f l=0
 | [],_=>rfl
 |a::l,h=>by
  show f a+aN f l=0
  rw[h a (cj ..),wZ fun x hx=>h x (dp _ hx)]
theorem TI.quiet{S:AS}(h:TI A S)(h0:S.aH=0):(∀c∈S.dq,c=[])∧(∀p∈S.ph,(∃d a,p=.idle d a)∨p=.done)∧∀v,S.flag v=false:=by
 have hc:=h.aH
 have h1:∀c∈S.dq,c=[]:=fun c j5=>iE.1 (SG List.length (by omega) j5)
 have h2:∀p∈S.ph,(∃d a,p=.idle d a)∨p=.done:=fun p hp=>by
  have:=SG cw (l:=S.ph) (by omega) hp
  cases p <;> simp[cw]at this <;> simp
 refine⟨h1,h2,fun v=>?_⟩
 have ht:=h.tok v
 have e1:aN (fun l:List Nat=>l.count v) S.dq=0:=wZ fun c hc=>by rw[h1 c hc];rfl
 have e2:aN (iZ v) S.ph=0:=wZ fun p hp=>by rcases h2 p hp with ⟨d,a,rfl⟩ | rfl <;> rfl
 unfold SX.tok at ht
 rw[e1,e2]at ht
 cases hf:S.flag v with
 |false=>rfl
 |true=>rw[hf]at ht;cases ht
def Rest(S:AS):Prop:=.done∈S.ph→S.aH=0
theorem Rest.step{S S':AS}{i:Nat}(ht:TI A S)(h:Rest S)(hs:Tr A S i S'):Rest S':=by
 have key:∀{p q:Ph},S.ph[i]?=some p→q≠.done→Ph.done∈S.ph.set i q→S.aH=0:=fun hp hq hd=>by
  rcases qh hd with hd | hd
  ·exact h hd
  ·exact absurd hd.symm hq
 have hj:∀v o u r a ch,(ft A v o u r a ch).1≠.done:=fun v o u r a ch=>by
  unfold ft;split
  ·exact fun h=>by cases h
  ·split
   ·exact fun h=>by cases h
   ·cases r <;> exact fun h=>by cases h
 have hf:∀v o r,gh v o r≠.done:=fun v o r=>by cases r <;> exact fun h=>by cases h
 intro hd
 cases hs with
 |stay=>exact h hd
 |zH a hp ha=>exact key hp (fun h=>by cases h) hd
 |zI a hp ha=>exact key hp (fun h=>by cases h) hd
 |zd a hp ha=>exact key hp (fun h=>by cases h) hd
 |ze a hp=>exact key hp (fun h=>by cases h) hd
 |ask hp hc=>exact key hp (fun h=>by cases h) hd
 |zo v o u r a hp ha=>exact key hp (fun h=>by cases h) hd
 |pop v c a hp h2=>exact key hp (fun h=>by cases h) hd
 |cas v a hp h2=>exact key hp (fun h=>by cases h) hd
 |Ak v hp=>exact key hp (fun h=>by cases h) hd
 |cC j v c a hp h2=>exact key hp (fun h=>by cases h) hd
 |clear v hp=>exact key hp (fun h=>by cases h) hd
 |zm v y hp hy=>exact key hp (fun h=>by cases h) hd
 |zn v y y' hp hy=>exact key hp (hf _ _ _) hd
 |load v o u r a ch hp ha hx=>exact key hp (fun h=>by cases h) hd
 |same v o u r a ch hp ha hx=>exact key hp (hj _ _ _ _ _ _) hd
 |lost v o u r a ch x hp ha hx=>exact key hp (fun h=>by cases h) hd
 |zT v o u r a ch hp ha hx=>exact key hp (hj _ _ _ _ _ _) hd
 |none v o u r hp ha=>exact key hp (hf _ _ _) hd
 |flag v o u r hp h2=>exact key hp (fun h=>by cases h) hd
 |zL v o u r hp h2=>exact key hp (hf _ _ _) hd
 |add v o u r hp=>
  have h0:=key hp (fun h=>by cases h) hd
  have:=ht.aH
  have:=AZ cw S.ph i _ hp
  simp[cw]at this
  omega
 |push v o u r c hp h2=>exact key hp (hf _ _ _) hd
 |ee v hp=>show S.aH-1=0;rw[key hp (fun h=>by cases h) hd]
 |zF hp hc=>exact hc
def iq:Ph→Nat
 |.held _ | .clear _ | .read .. | .take .. | .add .. | .push .. => 1
 |_=>0
theorem DM(v:Nat)(o:List Int)(r:List Nat):iq (gh v o r)=0:=by cases r <;> rfl
theorem Tu(A:AP)(v:Nat)(o:List Int)(u:Nat)(r:List Nat)(at_:Nat)(ch:Bool):iq (ft A v o u r at_ ch).1=(ft A v o u r at_ ch).2:=by
 unfold ft;split
 ·rfl
 ·split
  ·rfl
  ·exact DM _ _ _
def EI(S:AS)(n:Nat):Prop:=S.ev+aN List.length S.dq+aN iq S.ph≤n+S.jo
theorem EI.step{S S':AS}{i n:Nat}(h:EI S n)(hs:Tr A S i S'):EI S' n:=by
 unfold EI at h ⊢
 have key:=fun p q (hp:S.ph[i]?=some p)=>fT iq S.ph i p q hp
 have I3:=fun j (c d:List Nat) (hp:S.dq[j]?=some c)=>fT List.length S.dq j c d hp
 cases hs with
 |stay=>exact h
 |zH a hp ha=>have:=key _ (.idle 0 (a+1)) hp;simp only[iq]at *;omega
 |zI a hp ha=>have:=key _ (.idle (if A.k<2 then 2 else 1) 0) hp;simp only[iq]at *;omega
 |zd a hp ha=>have:=key _ (.idle 1 (a+1)) hp;simp only[iq]at *;omega
 |ze a hp=>have:=key _ (.idle 2 0) hp;simp only[iq]at *;omega
 |ask hp hc=>have:=key _ (.idle (if A.k<2 then 0 else 1) 0) hp;simp only[iq]at *;omega
 |zo v o u r a hp ha=>have:=key _ (.push v o u r (a+1)) hp;simp only[iq]at *;omega
 |pop v c a hp hd=>have:=key _ (.clear v) hp;have:=I3 _ _ c hd;simp[iq]at *;omega
 |cas v a hp hd=>have:=key _ (.held v) hp;have:=I3 _ _ [] hd;simp[iq]at *;omega
 |Ak v hp=>have:=key _ (.clear v) hp;simp[iq]at *;omega
 |cC j v c a hp hd=>have:=key _ (.clear v) hp;have:=I3 _ _ c hd;simp[iq]at *;omega
 |clear v hp=>have:=key _ (.read v []) hp;simp[iq]at *;omega
 |zm v y hp hy=>have:=key _ (.read v (y++[S.cell v y.length])) hp;simp only[iq]at *;omega
 |zn v y y' hp hy=>have:=key _ (gh v (A.out v y') (A.nx v)) hp;rw[DM]at this;simp only[iq]at *;omega
 |load v o u r a ch hp ha hx=>have:=key _ (.join v o u r a (some (S.cell u a)) ch) hp;simp only[iq]at *;omega
 |same v o u r a ch hp ha hx=>have:=key _ (ft A v o u r a ch).1 hp;rw[Tu]at this;simp only[iq]at *;omega
 |lost v o u r a ch x hp ha hx=>have:=key _ (.join v o u r a none ch) hp;simp only[iq]at *;omega
 |zT v o u r a ch hp ha hx=>have:=key _ (ft A v o u r a true).1 hp;rw[Tu]at this;simp only[iq]at *;omega
 |none v o u r hp ha=>have:=key _ (gh v o r) hp;rw[DM]at this;simp only[iq]at *;omega
 |flag v o u r hp hf=>have:=key _ (.add v o u r) hp;simp only[iq]at *;omega
 |zL v o u r hp hf=>have:=key _ (gh v o r) hp;rw[DM]at this;simp only[iq]at *;omega
 |add v o u r hp=>have:=key _ (.push v o u r 0) hp;simp only[iq]at *;omega
 |push v o u r c hp hd=>have:=key _ (gh v o r) hp;rw[DM]at this;have:=I3 _ _ (c++[u]) hd;simp only[iq,bZ,tp]at *;omega
 |ee v hp=>have:=key _ (.idle 0 0) hp;simp only[iq]at *;omega
 |zF hp hc=>have:=key _ .done hp;simp only[iq]at *;omega
def fS:Ph→Nat
 |.join _ _ _ _ _ _ true=>1
 |_=>0
theorem DO(v:Nat)(o:List Int)(r:List Nat):fS (gh v o r)=0:=by cases r <;> rfl
theorem Tw(A:AP)(v:Nat)(o:List Int)(u:Nat)(r:List Nat)(at_:Nat)(ch:Bool):fS (ft A v o u r at_ ch).1+(ft A v o u r at_ ch).2=if ch then 1 else 0:=by
 unfold ft;split
 ·cases ch <;> rfl
 ·cases ch with
  |true=>rfl
  |false=>show fS (gh v o r)+0=0;rw[DO]
structure Xw(A:AP)(Us:List Nat)(rk:(Nat→Int)→Nat):Prop where
 nodup:Us.Nodup
 all:∀v,v<A.n→∀u∈A.nx v,u∈Us
 up:∀(c:Nat→Int) (i:Nat) (x:Int),i<A.W→(∀j,j<A.W→A.ok j (c j))→A.ok i x→A.jw (c i) x≠c i→rk c+1≤rk fun j=>if j=i then A.jw (c i) x else c j
def JI(S:AS)(Us:List Nat)(rk:(Nat→Int)→Nat):Prop:=S.jo+aN fS S.ph≤aN (fun u=>rk (S.cell u)) Us
theorem CX{α:Type}{f g:α→Nat}:∀{l:List α},(∀x∈l,f x=g x)→aN f l=aN g l
 | [],_=>rfl
 |a::l,h=>by
  show f a+aN f l=g a+aN g l
  rw[h a (cj ..),CX fun x hx=>h x (dp _ hx)]
theorem Mm{f g:Nat→Nat}{u:Nat}:∀{l:List Nat},l.Nodup→u∈l→(∀x∈l,x≠u→f x=g x)→aN f l+g u=aN g l+f u
 |a::l,hn,hu,h=>by
  obtain⟨h1,h2⟩:=mE.1 hn
  show f a+aN f l+g u=g a+aN g l+f u
  rcases eB.1 hu with rfl | hu
  ·rw[CX (f:=f) (g:=g) (l:=l) fun x hx=>h x (dp _ hx) fun e=>h1 (e▸hx)]
   omega
  ·have:=Mm h2 hu fun x hx=>h x (dp _ hx)
   rw[h a (cj ..) fun e=>h1 (e▸hu)]
   omega
theorem JI.step{b:Nat→Nat→Int}{S S':AS}{i:Nat}{Us:List Nat}{rk:(Nat→Int)→Nat}(hr:Xw A Us rk)(ht:TI A S)(hv:VI A b S)(h:JI S Us rk)(hs:Tr A S i S'):JI S' Us rk:=by
 unfold JI at h ⊢
 have key:=fun p q (hp:S.ph[i]?=some p)=>fT fS S.ph i p q hp
 cases hs with
 |stay=>exact h
 |zH a hp ha=>have:=key _ (.idle 0 (a+1)) hp;simp only[fS]at *;omega
 |zI a hp ha=>have:=key _ (.idle (if A.k<2 then 2 else 1) 0) hp;simp only[fS]at *;omega
 |zd a hp ha=>have:=key _ (.idle 1 (a+1)) hp;simp only[fS]at *;omega
 |ze a hp=>have:=key _ (.idle 2 0) hp;simp only[fS]at *;omega
 |ask hp hc=>have:=key _ (.idle (if A.k<2 then 0 else 1) 0) hp;simp only[fS]at *;omega
 |zo v o u r a hp ha=>have:=key _ (.push v o u r (a+1)) hp;simp only[fS]at *;omega
 |pop v c a hp hd=>have:=key _ (.clear v) hp;simp only[fS]at *;omega
 |cas v a hp hd=>have:=key _ (.held v) hp;simp only[fS]at *;omega
 |Ak v hp=>have:=key _ (.clear v) hp;simp only[fS]at *;omega
 |cC j v c a hp hd=>have:=key _ (.clear v) hp;simp only[fS]at *;omega
 |clear v hp=>have:=key _ (.read v []) hp;simp only[fS]at *;omega
 |zm v y hp hy=>have:=key _ (.read v (y++[S.cell v y.length])) hp;simp only[fS]at *;omega
 |zn v y y' hp hy=>have:=key _ (gh v (A.out v y') (A.nx v)) hp;rw[DO]at this;simp only[fS]at *;omega
 |load v o u r a ch hp ha hx=>
  have:=key _ (.join v o u r a (some (S.cell u a)) ch) hp
  have e:fS (.join v o u r a (some (S.cell u a)) ch)=fS (.join v o u r a none ch):=by cases ch <;> rfl
  rw[e]at this
  show S.jo+aN fS (S.ph.set i _)≤aN (fun u=>rk (S.cell u)) Us
  omega
 |same v o u r a ch hp ha hx=>
  have:=key _ (ft A v o u r a ch).1 hp
  have e:=Tw A v o u r a ch
  have e2:fS (.join v o u r a none ch)=if ch then 1 else 0:=by cases ch <;> rfl
  rw[e2]at this
  show S.jo+(ft A v o u r a ch).2+aN fS (S.ph.set i _)≤aN (fun u=>rk (S.cell u)) Us
  omega
 |lost v o u r a ch x hp ha hx=>
  have:=key _ (.join v o u r a none ch) hp
  have e:fS (.join v o u r a (some x) ch)=fS (.join v o u r a none ch):=by cases ch <;> rfl
  rw[e]at this
  show S.jo+aN fS (S.ph.set i _)≤aN (fun u=>rk (S.cell u)) Us
  omega
 |zT v o u r a ch hp ha hx=>
  obtain⟨h1,h2,h3,h4,_⟩:=hv.ph _ (cx hp)
  have fD:=ht.at_ hp (v:=u) (by simp[nodes])
  have dy:=ht.at_ hp (v:=v) (by simp[nodes])
  have:=key _ (ft A v o u r a true).1 hp
  have e:=Tw A v o u r a true
  rw[ah rfl]at e
  have my:=hr.up (S.cell u) a (o.getD a 0) ha (fun j hj=>hv.ok u j fD hj) (h1.ok a ha) hx
  have mU:=Mm (f:=fun z=>rk (eT S.cell u a (A.jw (S.cell u a) (o.getD a 0)) z)) (g:=fun z=>rk (S.cell z)) hr.nodup (hr.all v dy u h2) fun z _ hz=>by
   show rk _=rk _
   congr 1
   funext j
   exact vq fun e=>hz e.1
  have e3:(eT S.cell u a (A.jw (S.cell u a) (o.getD a 0)) u)=fun j=>if j=a then A.jw (S.cell u a) (o.getD a 0) else S.cell u j:=by
   funext j;simp[eT]
  simp only[e3]at mU
  have hone':aN (fun z=>rk (eT S.cell u a (A.jw (S.cell u a) (o.getD a 0)) z)) Us+rk (S.cell u)=aN (fun z=>rk (S.cell z)) Us+rk (fun j=>if j=a then A.jw (S.cell u a) (o.getD a 0) else S.cell u j):=mU
  show S.jo+(ft A v o u r a true).2+aN fS (S.ph.set i _)≤aN (fun z=>rk (eT S.cell u a (A.jw (S.cell u a) (o.getD a 0)) z)) Us
  omega
 |none v o u r hp ha=>have:=key _ (gh v o r) hp;rw[DO]at this;simp only[fS]at *;omega
 |flag v o u r hp hf=>have:=key _ (.add v o u r) hp;simp only[fS]at *;omega
 |zL v o u r hp hf=>have:=key _ (gh v o r) hp;rw[DO]at this;simp only[fS]at *;omega
 |add v o u r hp=>have:=key _ (.push v o u r 0) hp;simp only[fS]at *;omega
 |push v o u r c hp hd=>have:=key _ (gh v o r) hp;rw[DO]at this;simp only[fS]at *;omega
 |ee v hp=>have:=key _ (.idle 0 0) hp;simp only[fS]at *;omega
 |zF hp hc=>have:=key _ .done hp;simp only[fS]at *;omega
end SX
set_option maxHeartbeats 4000000
theorem iH(l:List Int)(i j:Nat)(x:Int):(l.set i x).getD j 0=if i=j∧j<l.length then x else l.getD j 0:=by
 rw[aZ,fj,aZ]
 by_cases h:i=j
 ·subst h
  by_cases h2:i<l.length
  ·simp[h2]
  ·simp[h2]
 ·simp[h]
theorem Vp{a c m:Nat}(h1:a<c)(h2:c-a<m):¬a % m=c % m:=fun h=>by
 have h3:=Nat.sub_mod_eq_zero_of_mod_eq h.symm
 have h4:=Nat.le_of_dvd (by omega) (Nat.dvd_of_mod_eq_zero h3)
 omega
theorem pK{n:Nat}(h:n<9000000000000000000):wr (n:Int)=n:=by
 show IntKind.i64.wrap _=_
 rw[IntKind.wrap_i64];omega
theorem D8{n:Nat}(h:n<9000000000000000000):wu (n:Int)=n:=by
 show IntKind.u64.wrap _=_
 rw[IntKind.wrap_u64];omega
theorem xG{bs:Nat}(h:bs<1000000000):eR (bs:Int)=((bs+1:Nat):Int):=by
 unfold eR
 exact pK (n:=bs+1) (by omega)
theorem He{bs:Nat}(h:bs<1000000000)(cap:Int)(i:Nat):lN (bs:Int) cap (i:Nat)=((bs+2+i % rm cap:Nat):Int):=by
 have hr:=vD cap
 have hm:i % rm cap<rm cap:=ob _ (by omega)
 unfold lN
 rw[show ((bs:Int)+2)=((bs+2:Nat):Int) by omega,pK (by omega),← Int.natCast_emod,pK (by omega),← uG]
 exact pK (by omega)
theorem sE(ws:List Int)(a:Nat):cc ws (a:Int)=ws.getD a 0:=lK
theorem D9(ws:List Int)(a:Nat)(x:Int):iv ws (a:Int) x=ws.set a x:=lJ x
theorem Ia{ws:List Int}{a:Nat}(h:a<ws.length)(o x:Int):(nL ws (a:Int) o=decide (ws.getD a 0=o))∧je ws (a:Int) o x=if ws.getD a 0=o then ws.set a x else ws:=by
 have e:nL ws (a:Int) o=decide (ws.getD a 0=o):=by
  unfold nL
  rw[C6 (by omega) (by omega),lK]
  rfl
 refine⟨e,?_⟩
 unfold je
 rw[e,lJ]
 by_cases h2:ws.getD a 0=o
 ·rw[ah h2,ah (aT h2)]
 ·rw[ag h2,bS h2,ag Cv]
abbrev Own:Type:=Option (Bool×DQ)
def ud:Own→Nat
 |some (true,q)=>if 2≤q.at_ then 1 else 0
 |_=>0
structure DB(bs:Nat)(cap:Int)(ws:List Int)(lo T:Nat)(c:List Int):Prop where
 len:bs+2+rm cap≤ws.length
 top:ws.getD bs 0=(T:Int)
 t1:1≤T
 bot:ws.getD (bs+1) 0=((T+c.length-lo:Nat):Int)
 fits:c.length≤rm cap
 cz:∀i (h:i<c.length),ws.getD (bs+2+(T+i) % rm cap) 0=c[i]
structure IV(bs:Nat)(cap:Int)(ws:List Int)(T:Nat)(c:List Int)(q:DQ):Prop where
 base:q.base=bs
 cp:q.cap=cap
 on:q.ended=false
 no:q.ok=false
 Aw:q.at_≤3
 b:1≤q.at_→q.b=((T+c.length:Nat):Int)
 room:2≤q.at_→c.length<rm cap
 put:q.at_=3→ws.getD (bs+2+(T+c.length) % rm cap) 0=q.n
structure zR(bs:Nat)(cap:Int)(Th:DQ→Prop)(T:Nat)(c:List Int)(q:DQ):Prop where
 base:q.base=bs
 cp:q.cap=cap
 on:q.ended=false
 KX:q.at_≤5
 no:q.at_≤4→q.ok=false
 b:1≤q.at_→q.b=((T+c.length-1:Nat):Int)
 a3:q.at_=3→∃t:Nat,q.t=t∧t≤T∧(t<T+c.length-1→1≤c.length∧∀z,Th z→z.ended=false→2≤z.at_→z.t<((T+c.length-1:Nat):Int))
 a4:q.at_=4→q.t=q.b∧c.length≤1∧∀x∈c,x=q.x
 a5:q.at_=5→c=[]
structure ThO(bs:Nat)(cap:Int)(T:Nat)(c:List Int)(z:DQ):Prop where
 base:z.base=bs
 cp:z.cap=cap
 no:z.ok=false
 Aw:z.at_≤3
 t:1≤z.at_→∃t:Nat,z.t=t∧t≤T∧(2≤z.at_→t=T→0<c.length)∧(z.at_=3→t=T→c.head?=some z.x)
def Jw(bs:Nat)(cap:Int)(ws:List Int)(Th:DQ→Prop)(T:Nat)(c:List Int):Own→Prop
 |none=>True
 |some (false,q)=>IV bs cap ws T c q
 |some (true,q)=>zR bs cap Th T c q
structure DI(bs:Nat)(cap:Int)(ws:List Int)(own:Own)(Th:DQ→Prop)(T:Nat)(c:List Int):Prop where
 db:DB bs cap ws (ud own) T c
 ow:Jw bs cap ws Th T c own
 th:∀z,Th z→z.ended=false→ThO bs cap T c z
theorem DB.Gi{bs:Nat}{cap:Int}{ws ws':List Int}{lo T:Nat}{c:List Int}(h:DB bs cap ws lo T c)(hl:ws'.length=ws.length)(he:∀a,bs≤a→a<bs+2+rm cap→ws'.getD a 0=ws.getD a 0):DB bs cap ws' lo T c:=by
 have hr:=vD cap
 refine⟨by rw[hl];exact h.len,by rw[he _ (by omega) (by omega)];exact h.top,h.t1,by rw[he _ (by omega) (by omega)];exact h.bot,h.fits,fun i hi=>?_⟩
 have hm:(T+i) % rm cap<rm cap:=ob _ (by omega)
 rw[he _ (by omega) (by omega)]
 exact h.cz i hi
theorem DI.Gi{bs:Nat}{cap:Int}{ws ws':List Int}{own:Own}{Th:DQ→Prop}{T:Nat}{c:List Int}(h:DI bs cap ws own Th T c)(hl:ws'.length=ws.length)(he:∀a,bs≤a→a<bs+2+rm cap→ws'.getD a 0=ws.getD a 0):DI bs cap ws' own Th T c:=by
 have hr:=vD cap
 refine⟨h.db.Gi hl he,?_,h.th⟩
 have ho:=h.ow
 match own with
 |none=>trivial
 |some (false,q)=>
  have ho:IV bs cap ws T c q:=ho
  refine⟨ho.base,ho.cp,ho.on,ho.no,ho.Aw,ho.b,ho.room,fun h3=>?_⟩
  have hm:(T+c.length) % rm cap<rm cap:=ob _ (by omega)
  rw[he _ (by omega) (by omega)]
  exact ho.put h3
 |some (true,q)=>exact ho
theorem Jw.qH{bs:Nat}{cap:Int}{ws:List Int}{own:Own}{Th Gp:DQ→Prop}{T:Nat}{c:List Int}(h:Jw bs cap ws Th T c own)(hT:∀z,Gp z→z.ended=false→2≤z.at_→Th z):Jw bs cap ws Gp T c own:=by
 match own with
 |none=>trivial
 |some (false,q)=>exact h
 |some (true,q)=>
  have h:zR bs cap Th T c q:=h
  refine⟨h.base,h.cp,h.on,h.KX,h.no,h.b,fun h3=>?_,h.a4,h.a5⟩
  obtain⟨t,h1,h2,h4⟩:=h.a3 h3
  exact⟨t,h1,h2,fun h5=>⟨(h4 h5).1,fun z h6 h7 h8=>(h4 h5).2 z (hT z h6 h7 h8) h7 h8⟩⟩
theorem DI.qH{bs:Nat}{cap:Int}{ws:List Int}{own:Own}{Th Gp:DQ→Prop}{T:Nat}{c:List Int}(h:DI bs cap ws own Th T c)(hT:∀z,Gp z→Th z):DI bs cap ws own Gp T c:=
 ⟨h.db,h.ow.qH fun z hz _ _=>hT z hz,fun z hz=>h.th z (hT z hz)⟩
theorem DI.BX{bs:Nat}{cap:Int}{ws:List Int}{own:Own}{Th:DQ→Prop}{T:Nat}{c:List Int}(h:DI bs cap ws own Th T c){z:DQ}(h0:z.base=bs)(h1:z.cap=cap)(h2:z.ok=false)(h3:z.at_=0):DI bs cap ws own (fun x=>Th x∨x=z) T c:=by
 refine⟨h.db,h.ow.qH fun x hx _ ha=>?_,fun x hx iC=>?_⟩
 ·rcases hx with hx | rfl
  ·exact hx
  ·omega
 ·rcases hx with hx | rfl
  ·exact h.th x hx iC
  ·exact⟨h0,h1,h2,by omega,fun h4=>by omega⟩
theorem DI.push{bs:Nat}{cap:Int}{ws:List Int}{Th:DQ→Prop}{T:Nat}{c:List Int}(h:DI bs cap ws none Th T c){z:DQ}(h0:z.base=bs)(h1:z.cap=cap)(h2:z.ok=false)(h3:z.at_=0)(h4:z.ended=false):DI bs cap ws (some (false,z)) Th T c:=
 ⟨h.db,⟨h0,h1,h4,h2,by omega,fun _=>by omega,fun _=>by omega,fun _=>by omega⟩,h.th⟩
theorem DI.pop{bs:Nat}{cap:Int}{ws:List Int}{Th:DQ→Prop}{T:Nat}{c:List Int}(h:DI bs cap ws none Th T c){z:DQ}(h0:z.base=bs)(h1:z.cap=cap)(h2:z.ok=false)(h3:z.at_=0)(h4:z.ended=false):DI bs cap ws (some (true,z)) Th T c:=by
 refine⟨?_,⟨h0,h1,h4,by omega,fun _=>h2,fun _=>by omega,fun _=>by omega,fun _=>by omega,fun _=>by omega⟩,h.th⟩
 rw[show ud (some (true,z))=0 by simp[ud,h3]]
 exact h.db
theorem DB.more{bs:Nat}{cap:Int}{ws:List Int}{T:Nat}{c:List Int}(h:DB bs cap ws 0 T c){n:Int}(hf:c.length<rm cap)(hn:ws.getD (bs+2+(T+c.length) % rm cap) 0=n):DB bs cap (ws.set (bs+1) ((T+c.length+1:Nat):Int)) 0 T (c++[n]):=by
 have hr:=vD cap
 have hl:=h.len
 refine⟨by simpa using hl,?_,h.t1,?_,by simp;omega,fun i hi=>?_⟩
 ·rw[iH,ag (by omega)];exact h.top
 ·rw[iH,if_pos ⟨rfl,by omega⟩];simp;omega
 ·have hm:(T+i) % rm cap<rm cap:=ob _ (by omega)
  rw[iH,ag (by omega)]
  simp only[bZ,tp]at hi
  by_cases hic:i<c.length
  ·rw[List.getElem_append_left hic];exact h.cz i hic
  ·obtain rfl:i=c.length:=by omega
   simpa using hn
theorem ae0{bs:Nat}{cap:Int}{ws ws':List Int}{q q':DQ}{e:Bool}{Th:DQ→Prop}{T:Nat}{c:List Int}(h:DI bs cap ws (some (false,q)) Th T c)(eM:bs<1000000000)(hN:T+c.length<4000000000000000000)(hs:gD bJ q ws=(q',ws',e)):
  ws'.length=ws.length∧(∀a,¬(bs≤a∧a<bs+2+rm cap)→ws'.getD a 0=ws.getD a 0)∧q'.n=q.n∧q'.base=q.base∧((e=false∧DI bs cap ws' (some (false,q')) Th T c)∨(e=true∧q'.ok=false∧rm cap≤c.length∧DI bs cap ws' none Th T c)∨(e=true∧q'.ok=true∧c.length<rm cap∧DI bs cap ws' none Th T (c++[q.n]))):=by
 have hr:=vD cap
 have ho:IV bs cap ws T c q:=h.ow
 have fJ:DB bs cap ws 0 T c:=h.db
 have hl:=fJ.len
 obtain⟨base,ju,n,ok,ended,at_,b,t,x⟩:=q
 obtain⟨e1,e2,e3,e4,h3,hb,oG,ue⟩:=ho
 dsimp only at e1 e2 e3 e4 h3 hb oG ue hs
 subst e1 e2 e3 e4
 have h3:at_=0∨at_=1∨at_=2∨at_=3:=by omega
 rcases h3 with rfl | rfl | rfl | rfl
 ·simp only[gD,xG eM,sE,fJ.bot]at hs
  simp at hs
  obtain⟨rfl,rfl,rfl⟩:=hs
  exact⟨rfl,fun _ _=>rfl,rfl,rfl,.inl ⟨rfl,fJ,⟨rfl,rfl,rfl,rfl,by simp,fun _=>rfl,fun h=>absurd h (by simp),fun h=>absurd h (by simp)⟩,h.th⟩⟩
 ·have hb:=hb (a8 _)
  subst hb
  have e1:wr (wu (((T+c.length:Nat):Int)-(T:Int)))=(c.length:Nat):=by
   rw[show ((T+c.length:Nat):Int)-(T:Int)=(c.length:Nat) by omega,D8 (by omega),pK (by omega)]
  by_cases hf:rm ju≤c.length
  ·simp only[gD,sE,fJ.top,e1]at hs
   simp[hf]at hs
   obtain⟨rfl,rfl,rfl⟩:=hs
   exact⟨rfl,fun _ _=>rfl,rfl,rfl,.inr (.inl ⟨rfl,rfl,hf,fJ,trivial,h.th⟩)⟩
  ·simp only[gD,sE,fJ.top,e1]at hs
   simp[hf]at hs
   obtain⟨rfl,rfl,rfl⟩:=hs
   exact⟨rfl,fun _ _=>rfl,rfl,rfl,.inl ⟨rfl,fJ,⟨rfl,rfl,rfl,rfl,by simp,fun _=>rfl,fun _=>by omega,fun h=>absurd h (by simp)⟩,h.th⟩⟩
 ·have hb:=hb (by omega)
  have oG:=oG (a8 _)
  subst hb
  have hm:(T+c.length) % rm ju<rm ju:=ob _ (by omega)
  simp only[gD,He eM,D9]at hs
  simp at hs
  obtain⟨rfl,rfl,rfl⟩:=hs
  have hd:DB bs ju (ws.set (bs+2+(T+c.length) % rm ju) n) 0 T c:=by
   refine⟨by simpa using hl,?_,fJ.t1,?_,fJ.fits,fun i hi=>?_⟩
   ·rw[iH,ag (by omega)];exact fJ.top
   ·rw[iH,ag (by omega)];exact fJ.bot
   ·have:=Vp (a:=T+i) (c:=T+c.length) (m:=rm ju) (by omega) (by omega)
    rw[iH,ag (by omega)];exact fJ.cz i hi
  refine⟨by simp,fun a ha=>?_,rfl,rfl,.inl ⟨rfl,hd,⟨rfl,rfl,rfl,rfl,by simp,fun _=>rfl,fun _=>oG,fun _=>?_⟩,h.th⟩⟩
  ·rw[iH,ag (by omega)]
  ·rw[iH,ah ⟨rfl,by omega⟩]
 ·have hb:=hb (by omega)
  have oG:=oG (by omega)
  have ue:=ue rfl
  subst hb
  have e1:wu (((T+c.length:Nat):Int)+1)=((T+c.length+1:Nat):Int):=D8 (n:=T+c.length+1) (by omega)
  simp only[gD,xG eM,e1,D9]at hs
  simp only[l9,↓reduceIte,Nat.reduceEqDiff,Prod.mk.injEq]at hs
  obtain⟨rfl,rfl,rfl⟩:=hs
  refine⟨by simp,fun a ha=>?_,rfl,rfl,.inr (.inr ⟨rfl,rfl,oG,fJ.more oG ue,trivial,fun z hz fR=>?_⟩)⟩
  ·rw[iH,ag (by omega)]
  ·have:=h.th z hz fR
   refine⟨this.base,this.cp,this.no,this.Aw,fun h1=>?_⟩
   obtain⟨t,a1,a2,a3,a4⟩:=this.t h1
   refine⟨t,a1,a2,fun _ _=>by simp,fun h5 h6=>?_⟩
   have:=a4 h5 h6
   cases c with
   |nil=>cases this
   |cons y c=>exact this
theorem afS{bs:Nat}{cap:Int}{ws ws':List Int}{q q':DQ}{e:Bool}{Th:DQ→Prop}{T:Nat}{c:List Int}(h:DI bs cap ws (some (true,q)) Th T c)(eM:bs<1000000000)(hN:T+c.length<4000000000000000000)(hs:fE bJ q ws=(q',ws',e)):
  ws'.length=ws.length∧(∀a,¬(bs≤a∧a<bs+2+rm cap)→ws'.getD a 0=ws.getD a 0)∧q'.base=q.base∧
  ((e=false∧(q.at_=5→False)∧(q'.at_=5→q'.ok=false)∧DI bs cap ws' (some (true,q')) Th T c)∨
   (e=false∧q'.at_=5∧q'.ok=true∧c=[q'.x]∧DI bs cap ws' (some (true,q')) Th (T+1) [])∨
   (e=true∧q'.ok=false∧(q.at_=5→q.ok=false)∧c=[]∧DI bs cap ws' none Th T c)∨
   (e=true∧q'.ok=true∧q.at_=3∧∃c',c=c'++[q'.n]∧DI bs cap ws' none Th T c')∨
   (e=true∧q'.ok=true∧q.at_=5∧q.ok=true∧q'.n=q.x∧c=[]∧DI bs cap ws' none Th T [])):=by
 have hr:=vD cap
 have ho:zR bs cap Th T c q:=h.ow
 have fJ:=h.db
 have hl:=fJ.len
 have Fj:=fJ.t1
 have pS:=fJ.fits
 obtain⟨base,ju,n,ok,ended,at_,b,t,x⟩:=q
 obtain⟨e1,e2,e3,h5,ku,hb,ha3,ha4,ha5⟩:=ho
 dsimp only at e1 e2 e3 h5 ku hb ha3 ha4 ha5 hs
 subst e1 e2 e3
 have h5:at_=0∨at_=1∨at_=2∨at_=3∨at_=4∨at_=5:=by omega
 have aih:((T+c.length:Nat):Int)-1=((T+c.length-1:Nat):Int):=by omega
 have Ek:wu (((T+c.length-1:Nat):Int)+1)=((T+c.length:Nat):Int):=by
  rw[show ((T+c.length-1:Nat):Int)+1=((T+c.length:Nat):Int) by omega,D8 (by omega)]
 rcases h5 with rfl | rfl | rfl | rfl | rfl | rfl
 ·have ku:ok=false:=ku (by omega)
  subst ku
  have hd:DB bs ju ws 0 T c:=fJ
  have hbt:=hd.bot
  have e1:wu (((T+c.length:Nat):Int)-1)=((T+c.length-1:Nat):Int):=by rw[aih,D8 (by omega)]
  simp only[fE,xG eM,sE,hbt,Nat.sub_zero,e1]at hs
  simp at hs
  obtain⟨rfl,rfl,rfl⟩:=hs
  exact⟨rfl,fun _ _=>rfl,rfl,.inl ⟨rfl,by simp,by simp,hd,⟨rfl,rfl,rfl,by simp,fun _=>rfl,fun _=>rfl,fun h=>absurd h (by simp),fun h=>absurd h (by simp),fun h=>absurd h (by simp)⟩,h.th⟩⟩
 ·have ku:ok=false:=ku (by omega)
  subst ku
  have hd:DB bs ju ws 0 T c:=fJ
  have hb:=hb (a8 _)
  subst hb
  simp only[fE,xG eM,D9]at hs
  simp only[l9,↓reduceIte,Nat.reduceEqDiff,Prod.mk.injEq]at hs
  simp at hs
  obtain⟨rfl,rfl,rfl⟩:=hs
  refine⟨by simp,fun a ha=>?_,rfl,.inl ⟨rfl,by simp,by simp,⟨by simpa using hl,?_,Fj,?_,pS,fun i hi=>?_⟩,⟨rfl,rfl,rfl,by simp,fun _=>rfl,fun _=>rfl,fun h=>absurd h (by simp),fun h=>absurd h (by simp),fun h=>absurd h (by simp)⟩,h.th⟩⟩
  ·rw[iH,ag (by omega)]
  ·rw[iH,ag (by omega)];exact hd.top
  ·rw[iH,ah ⟨rfl,by omega⟩];rfl
  ·have hm:(T+i) % rm ju<rm ju:=ob _ (by omega)
   rw[iH,ag (by omega)];exact hd.cz i hi
 ·have ku:ok=false:=ku (by omega)
  subst ku
  have hd:DB bs ju ws 1 T c:=fJ
  have hb:=hb (by omega)
  subst hb
  simp only[fE,sE,hd.top]at hs
  simp at hs
  obtain⟨rfl,rfl,rfl⟩:=hs
  refine⟨rfl,fun _ _=>rfl,rfl,.inl ⟨rfl,by simp,by simp,hd,⟨rfl,rfl,rfl,by simp,fun _=>rfl,fun _=>rfl,fun _=>⟨T,rfl,Nat.le_refl _,fun h5=>⟨by omega,fun z hz fR mw=>?_⟩⟩,fun h=>absurd h (by simp),fun h=>absurd h (by simp)⟩,h.th⟩⟩
  obtain⟨t,a1,a2,_⟩:=(h.th z hz fR).t (by omega)
  rw[a1];omega
 ·have ku:ok=false:=ku (by omega)
  subst ku
  have hd:DB bs ju ws 1 T c:=fJ
  have hb:=hb (by omega)
  subst hb
  obtain⟨tt,rfl,B7,fv⟩:=ha3 rfl
  by_cases h1:T+c.length-1<tt
  ·have hc:c=[]:=iE.1 (by omega)
   subst hc
   simp only[fE,pK (n:=T+([]:List Int).length-1) (by omega),pK (n:=tt) (by omega),xG eM,D9,Ek]at hs
   have h1:T-1<tt:=h1
   simp[h1]at hs
   obtain⟨rfl,rfl,rfl⟩:=hs
   refine⟨by simp,fun a ha=>?_,rfl,.inr (.inr (.inl ⟨rfl,rfl,by simp,rfl,⟨by simpa using hl,?_,Fj,?_,pS,fun i hi=>absurd hi (by simp)⟩,trivial,h.th⟩))⟩
   ·rw[iH,ag (by omega)]
   ·rw[iH,ag (by omega)];exact hd.top
   ·rw[iH,ah ⟨rfl,by omega⟩];rfl
  ·have e1:¬((T+c.length-1:Nat):Int)<(tt:Int):=by omega
   by_cases h2:tt<T+c.length-1
   ·have e2:(tt:Int)<((T+c.length-1:Nat):Int):=by omega
    simp only[fE,pK (n:=T+c.length-1) (by omega),pK (n:=tt) (by omega),ag e1,ah e2,He eM,sE]at hs
    simp only[l9,↓reduceIte,Nat.reduceEqDiff,Prod.mk.injEq]at hs
    obtain⟨rfl,rfl,rfl⟩:=hs
    obtain⟨mB,s4⟩:=fv h2
    have aX:c≠[]:=fun h=>by subst h;simp at mB
    have Nr:ws.getD (bs+2+(T+c.length-1) % rm ju) 0=c.getLast aX:=by
     rw[show T+c.length-1=T+(c.length-1) by omega,hd.cz (c.length-1) (by omega),List.getLast_eq_getElem]
    refine⟨rfl,fun _ _=>rfl,rfl,.inr (.inr (.inr (.inl ⟨rfl,rfl,rfl,c.dropLast,?_,⟨hl,hd.top,Fj,?_,by simp;omega,fun i hi=>?_⟩,trivial,fun z hz fR=>?_⟩)))⟩
    ·dsimp only
     rw[Nr]
     exact (List.dropLast_concat_getLast aX).symm
    ·rw[hd.bot,List.length_dropLast]
     show ((T+c.length-1:Nat):Int)=((T+(c.length-1)-0:Nat):Int)
     omega
    ·rw[List.getElem_dropLast]
     exact hd.cz i (by simp at hi;omega)
    ·have gU:=h.th z hz fR
     refine⟨gU.base,gU.cp,gU.no,gU.Aw,fun mw=>?_⟩
     obtain⟨t,a1,a2,a3,a4⟩:=gU.t mw
     have hz4:2≤z.at_→(t:Int)<((T+c.length-1:Nat):Int):=fun h=>a1▸s4 z hz fR h
     refine⟨t,a1,a2,fun h6 h7=>?_,fun h6 h7=>?_⟩
     ·have:=hz4 h6;simp;omega
     ·have:=hz4 (by omega)
      have h8:=a4 h6 h7
      match c,h8,mB,this,h7 with
      | [y],_,_,h9,h10=>simp at h9;omega
      |y::y2::c,h8,_,_,_=>exact h8
   ·have e2:¬(tt:Int)<((T+c.length-1:Nat):Int):=by omega
    simp only[fE,pK (n:=T+c.length-1) (by omega),pK (n:=tt) (by omega),ag e1,ag e2,He eM,sE]at hs
    simp only[l9,↓reduceIte,Nat.reduceEqDiff,Prod.mk.injEq]at hs
    obtain⟨rfl,rfl,rfl⟩:=hs
    refine⟨rfl,fun _ _=>rfl,rfl,.inl ⟨rfl,by simp,by simp,hd,⟨rfl,rfl,rfl,by simp,fun _=>rfl,fun _=>rfl,fun h=>absurd h (by simp),fun _=>⟨?_,by omega,fun y hy=>?_⟩,fun h=>absurd h (by simp)⟩,h.th⟩⟩
    ·show (tt:Int)=((T+c.length-1:Nat):Int);omega
    ·have eG:c.length≤1:=by omega
     match c,eG,hy with
     | [y2],_,hy=>
      have:=hd.cz 0 (by simp)
      simp at hy this
      subst hy
      show y=ws.getD (bs+2+(T+1-1) % rm ju) 0
      rw[gp4,aZ]
      exact this.symm
 ·have ku:ok=false:=ku (by omega)
  subst ku
  have hd:DB bs ju ws 1 T c:=fJ
  have hb:=hb (by omega)
  subst hb
  obtain⟨rfl,mB,hx⟩:=ha4 rfl
  obtain⟨k1,k2⟩:=Ia (ws:=ws) (a:=bs) (by omega) ((T+c.length-1:Nat):Int) ((T+c.length:Nat):Int)
  rw[hd.top]at k1 k2
  simp only[fE,Ek,k1,k2]at hs
  match c,mB with
  | [],_=>
   have h2:¬((T:Int)=((T+([]:List Int).length-1:Nat):Int)):=by simp;omega
   simp only[ag h2,bS h2]at hs
   simp only[l9,↓reduceIte,Nat.reduceEqDiff,Prod.mk.injEq]at hs
   obtain⟨rfl,rfl,rfl⟩:=hs
   exact⟨rfl,fun _ _=>rfl,rfl,.inl ⟨rfl,by simp,fun _=>rfl,hd,⟨rfl,rfl,rfl,by simp,fun _=>rfl,fun _=>rfl,fun h=>absurd h (by simp),fun h=>absurd h (by simp),fun _=>rfl⟩,h.th⟩⟩
  | [y],_=>
   have h2:((T:Int)=((T+([y]:List Int).length-1:Nat):Int)):=by simp
   obtain rfl:y=x:=hx y (by simp)
   simp only[ah h2,aT h2]at hs
   simp only[l9,↓reduceIte,Nat.reduceEqDiff,Prod.mk.injEq]at hs
   obtain⟨rfl,rfl,rfl⟩:=hs
   refine⟨by simp,fun a ha=>?_,rfl,.inr (.inl ⟨rfl,rfl,rfl,rfl,⟨by simpa using hl,?_,by omega,?_,by simp,fun i hi=>absurd hi (by simp)⟩,⟨rfl,rfl,rfl,by simp,fun h=>absurd h (by simp),fun _=>by simp,fun h=>absurd h (by simp),fun h=>absurd h (by simp),fun _=>rfl⟩,fun z hz fR=>?_⟩)⟩
   ·rw[iH,ag (by omega)]
   ·rw[iH,if_pos ⟨rfl,by omega⟩];simp
   ·rw[iH,if_neg (by omega),hd.bot];simp[ud]
   ·have gU:=h.th z hz fR
    refine⟨gU.base,gU.cp,gU.no,gU.Aw,fun mw=>?_⟩
    obtain⟨t,a1,a2,a3,a4⟩:=gU.t mw
    exact⟨t,a1,by omega,fun _ h=>by omega,fun _ h=>by omega⟩
 ·have hd:DB bs ju ws 1 T c:=fJ
  have hb:=hb (by omega)
  have hc:=ha5 rfl
  subst hc hb
  simp only[fE,Ek,xG eM,D9]at hs
  simp only[l9,↓reduceIte,Nat.reduceEqDiff,Prod.mk.injEq]at hs
  obtain⟨rfl,rfl,rfl⟩:=hs
  have pg:DI bs ju (ws.set (bs+1) ((T+([]:List Int).length:Nat):Int)) none Th T []:=by
   refine⟨⟨by simpa using hl,?_,Fj,?_,by simp,fun i hi=>absurd hi (by simp)⟩,trivial,h.th⟩
   ·rw[iH,ag (by omega)];exact hd.top
   ·rw[iH,ah ⟨rfl,by omega⟩];rfl
  refine⟨by simp,fun a ha=>by rw[iH,if_neg (by omega)],rfl,?_⟩
  cases ok with
  |true=>exact .inr (.inr (.inr (.inr ⟨rfl,rfl,rfl,rfl,rfl,rfl,pg⟩)))
  |false=>exact .inr (.inr (.inl ⟨rfl,rfl,fun _=>rfl,rfl,pg⟩))
theorem abo{bs:Nat}{cap:Int}{ws ws':List Int}{q q':DQ}{e:Bool}{own:Own}{Th:DQ→Prop}{T:Nat}{c:List Int}(h:DI bs cap ws own Th T c)(hq:Th q)(l5:q.ended=false)(eM:bs<1000000000)(hN:T+c.length<4000000000000000000)(hs:gR bJ q ws=(q',ws',e)):
  ws'.length=ws.length∧(∀a,¬(bs≤a∧a<bs+2+rm cap)→ws'.getD a 0=ws.getD a 0)∧q'.base=q.base∧
  ((e=false∧q'.ended=false∧DI bs cap ws' own (fun z=>Th z∨z=q') T c)∨(e=true∧q'.ok=false∧DI bs cap ws' own Th T c)∨(e=true∧q'.ok=true∧∃c',c=q'.n::c'∧DI bs cap ws' own Th (T+1) c')):=by
 have hr:=vD cap
 have hz:=h.th q hq l5
 have fJ:=h.db
 have hl:=fJ.len
 have Fj:=fJ.t1
 have pS:=fJ.fits
 have zM:=fJ.top
 have BL:=fJ.bot
 have s4:=h.th
 have jJ:=h.ow
 obtain⟨base,ju,n,ok,ended,at_,b,t,x⟩:=q
 obtain⟨e1,e2,e3,h3,ht⟩:=hz
 dsimp only at e1 e2 e3 h3 ht hs l5
 subst e1 e2 e3 l5
 have h3:at_=0∨at_=1∨at_=2∨at_=3:=by omega
 have fv:ud own≤1:=by unfold ud;split <;> (try split) <;> omega
 rcases h3 with rfl | rfl | rfl | rfl
 ·simp only[gR,sE,zM]at hs
  simp at hs
  obtain⟨rfl,rfl,rfl⟩:=hs
  refine⟨rfl,fun _ _=>rfl,rfl,.inl ⟨rfl,rfl,fJ,jJ.qH fun z hz _ ha=>?_,fun z hz fR=>?_⟩⟩
  ·rcases hz with hz | rfl
   ·exact hz
   ·simp at ha
  ·rcases hz with hz | rfl
   ·exact s4 z hz fR
   ·exact⟨rfl,rfl,rfl,by simp,fun _=>⟨T,rfl,Nat.le_refl _,fun h=>absurd h (by simp),fun h=>absurd h (by simp)⟩⟩
 ·obtain⟨tt,rfl,B7,_,_⟩:=ht (a8 _)
  clear ht
  have hbw:=pK (n:=T+c.length-ud own) (yx (Nat.sub_le _ _) (FQ hN (by decide)))
  have htw:=pK (n:=tt) (yx B7 (yx (Kp T c.length) (FQ hN (by decide))))
  by_cases h1:T+c.length-ud own≤tt
  ·simp only[gR,xG eM,sE,BL,hbw,htw]at hs
   simp[h1]at hs
   obtain⟨rfl,rfl,rfl⟩:=hs
   exact⟨rfl,fun _ _=>rfl,rfl,.inr (.inl ⟨rfl,rfl,h⟩)⟩
  ·simp only[gR,xG eM,sE,BL,hbw,htw]at hs
   simp[h1]at hs
   obtain⟨rfl,rfl,rfl⟩:=hs
   refine⟨rfl,fun _ _=>rfl,rfl,.inl ⟨rfl,rfl,fJ,?_,fun z hz fR=>?_⟩⟩
   ·match own,jJ,h1 with
    |none,_,_=>trivial
    |some (false,p),hp,_=>exact hp
    |some (true,p),hp,h1=>
     have hp:zR bs ju Th T c p:=hp
     refine⟨hp.base,hp.cp,hp.on,hp.KX,hp.no,hp.b,fun p3=>?_,hp.a4,hp.a5⟩
     obtain⟨t3,b1,b2,b3⟩:=hp.a3 p3
     refine⟨t3,b1,b2,fun h5=>⟨(b3 h5).1,fun z hz fR mw=>?_⟩⟩
     rcases hz with hz | rfl
     ·exact (b3 h5).2 z hz fR mw
     ·have e1:ud (some (true,p))=1:=by simp[ud,p3]
      rw[e1]at h1
      show (tt:Int)<((T+c.length-1:Nat):Int)
      omega
   ·rcases hz with hz | rfl
    ·exact s4 z hz fR
    ·exact⟨rfl,rfl,rfl,by simp,fun _=>⟨tt,rfl,B7,fun _ h6=>by omega,fun h=>absurd h (by simp)⟩⟩
 ·obtain⟨tt,rfl,B7,ha,_⟩:=ht (by decide)
  clear ht
  have ha:=ha (a8 _)
  simp only[gR,He eM,sE]at hs
  simp only[l9,↓reduceIte,Nat.reduceEqDiff,Prod.mk.injEq]at hs
  obtain⟨rfl,rfl,rfl⟩:=hs
  refine⟨rfl,fun _ _=>rfl,rfl,.inl ⟨rfl,rfl,fJ,?_,fun z hz fR=>?_⟩⟩
  ·match own,jJ with
   |none,_=>trivial
   |some (false,p),hp=>exact hp
   |some (true,p),hp=>
    have hp:zR bs ju Th T c p:=hp
    refine⟨hp.base,hp.cp,hp.on,hp.KX,hp.no,hp.b,fun p3=>?_,hp.a4,hp.a5⟩
    obtain⟨t3,b1,b2,b3⟩:=hp.a3 p3
    refine⟨t3,b1,b2,fun h5=>⟨(b3 h5).1,fun z hz fR mw=>?_⟩⟩
    rcases hz with hz | rfl
    ·exact (b3 h5).2 z hz fR mw
    ·have h9:(tt:Int)<((T+c.length-1:Nat):Int):=(b3 h5).2 _ hq rfl (a8 _)
     exact h9
  ·rcases hz with hz | rfl
   ·exact s4 z hz fR
   ·refine⟨rfl,rfl,rfl,by simp,fun _=>⟨tt,rfl,B7,fun _ h6=>ha h6,fun _ h6=>?_⟩⟩
    have hc:=ha h6
    subst h6
    have:ws.getD (bs+2+tt % rm ju) 0=c[0]:=fJ.cz 0 hc
    show c.head?=some (ws.getD (bs+2+tt % rm ju) 0)
    rw[this,List.head?_eq_getElem?,bh hc]
 ·obtain⟨tt,rfl,B7,ha,hb⟩:=ht (by decide)
  clear ht
  have ha:=ha (by omega)
  have hb:=hb rfl
  have e0:wu ((tt:Int)+1)=((tt+1:Nat):Int):=D8 (n:=tt+1) (by omega)
  obtain⟨k1,k2⟩:=Ia (ws:=ws) (a:=bs) (by omega) (tt:Int) ((tt+1:Nat):Int)
  rw[zM]at k1 k2
  simp only[gR,e0,k1,k2]at hs
  by_cases h1:(T:Int)=tt
  ·simp only[ah h1,aT h1]at hs
   simp only[l9,↓reduceIte,Nat.reduceEqDiff,Prod.mk.injEq]at hs
   obtain⟨rfl,rfl,rfl⟩:=hs
   obtain rfl:tt=T:=by omega
   have hc:=ha rfl
   have hx:=hb rfl
   match c,hc,hx,pS,fJ,s4,jJ,BL with
   |y::c,_,hx,pS,fJ,s4,jJ,BL=>
    obtain rfl:y=x:=by simpa using hx
    simp only[ik]at pS BL
    refine⟨by simp,fun a ha=>by rw[iH,if_neg (by omega)],rfl,.inr (.inr ⟨rfl,rfl,c,rfl,⟨by simpa using hl,?_,by omega,?_,by omega,fun i hi=>?_⟩,?_,fun z hz fR=>?_⟩)⟩
    ·rw[iH,ah ⟨rfl,by omega⟩]
    ·rw[iH,ag (by omega),BL];congr 1;omega
    ·rw[iH,ag (by omega),show tt+1+i=tt+(i+1) by omega]
     exact fJ.cz (i+1) (by simp;omega)
    ·match own,jJ with
     |none,_=>trivial
     |some (false,p),hp=>
      have hp:IV bs ju ws tt (y::c) p:=hp
      have el:tt+(y::c).length=tt+1+c.length:=by simp;omega
      refine⟨hp.base,hp.cp,hp.on,hp.no,hp.Aw,fun h=>by rw[hp.b h,el],fun h=>by have:=hp.room h;simp at this;omega,fun h=>?_⟩
      have:=hp.put h
      rw[el]at this
      rw[iH,ag (by omega)];exact this
     |some (true,p),hp=>
      have hp:zR bs ju Th tt (y::c) p:=hp
      have el:tt+(y::c).length=tt+1+c.length:=by simp;omega
      refine⟨hp.base,hp.cp,hp.on,hp.KX,hp.no,fun h=>by rw[hp.b h,el],fun h=>?_,fun h=>?_,fun h=>absurd (hp.a5 h) (by simp)⟩
      ·obtain⟨t3,b1,b2,b3⟩:=hp.a3 h
       rw[el]at b3
       refine⟨t3,b1,by omega,fun h5=>⟨?_,(b3 h5).2⟩⟩
       have:=(b3 h5).2 _ hq rfl (by simp)
       have:(tt:Int)<((tt+1+c.length-1:Nat):Int):=this
       omega
      ·obtain⟨b1,b2,b3⟩:=hp.a4 h
       simp at b2
       subst b2
       exact⟨b1,by simp,by simp⟩
    ·have gU:=s4 z hz fR
     refine⟨gU.base,gU.cp,gU.no,gU.Aw,fun mw=>?_⟩
     obtain⟨t,a1,a2,a3,a4⟩:=gU.t mw
     exact⟨t,a1,by omega,fun _ h=>by omega,fun _ h=>by omega⟩
  ·simp only[ag h1,bS h1]at hs
   simp only[l9,↓reduceIte,Nat.reduceEqDiff,Prod.mk.injEq]at hs
   obtain⟨rfl,rfl,rfl⟩:=hs
   exact⟨rfl,fun _ _=>rfl,rfl,.inr (.inl ⟨rfl,rfl,h⟩)⟩
set_option maxHeartbeats 4000000
theorem CK{what w:Int}(h:what=1∨what=2∨what=3){i:Nat}{x:Int}(hx:fX what w i x):de what x x=x:=by
 obtain⟨sa,iC⟩:=hx
 obtain⟨a,rfl⟩:=mH sa.1
 have ha:a<18446744073709551616:=by have:=sa.2;omega
 rcases h with rfl | rfl | rfl
 ·rw[show de 1 (a:Int) a=bits .or .u64 (a:Int) a from rfl,tB ha ha,Nat.or_self]
 ·rw[show de 2 (a:Int) a=bits .and .u64 (a:Int) a from rfl,rp ha ha,Nat.and_self]
 ·rw[ah rfl]at iC
  rw[rL,xn iC iC,A4]
theorem YU{what w:Int}(h:what=1∨what=2∨what=3){i:Nat}{x y:Int}(hx:fX what w i x)(hy:fX what w i y):de what x y=de what y x:=by
 obtain⟨sa,iC⟩:=hx
 obtain⟨ur,wx⟩:=hy
 obtain⟨a,rfl⟩:=mH sa.1
 obtain⟨b,rfl⟩:=mH ur.1
 have ha:a<18446744073709551616:=by have:=sa.2;omega
 have hb:b<18446744073709551616:=by have:=ur.2;omega
 rcases h with rfl | rfl | rfl
 ·show bits .or .u64 (a:Int) b=bits .or .u64 (b:Int) a
  rw[tB ha hb,tB hb ha,Nat.or_comm]
 ·show bits .and .u64 (a:Int) b=bits .and .u64 (b:Int) a
  rw[rp ha hb,rp hb ha,Nat.and_comm]
 ·rw[ah rfl]at iC wx
  rw[rL,rL,xn iC wx,xn wx iC,HN]
theorem X4{what w:Int}(h:what=1∨what=2∨what=3){i:Nat}{x y z:Int}(hx:fX what w i x)(hy:fX what w i y)(hz:fX what w i z):de what (de what x y) z=de what x (de what y z):=by
 have aU:=(CL h hx hy).2
 have Fg:=(CL h hy hz).2
 obtain⟨sa,iC⟩:=hx
 obtain⟨ur,wx⟩:=hy
 obtain⟨ya,fR⟩:=hz
 obtain⟨a,rfl⟩:=mH sa.1
 obtain⟨b,rfl⟩:=mH ur.1
 obtain⟨c,rfl⟩:=mH ya.1
 have ha:a<18446744073709551616:=by have:=sa.2;omega
 have hb:b<18446744073709551616:=by have:=ur.2;omega
 have hc:c<18446744073709551616:=by have:=ya.2;omega
 rcases h with rfl | rfl | rfl
 ·have h1:a ||| b<2 ^ 64:=Kr ha hb
  have h2:b ||| c<2 ^ 64:=Kr hb hc
  show bits .or .u64 (bits .or .u64 (a:Int) b) c=bits .or .u64 (a:Int) (bits .or .u64 (b:Int) c)
  rw[tB ha hb,tB hb hc,tB h1 hc,tB ha h2,Nat.or_assoc]
 ·have h1:a &&& b≤a:=FY
  have h2:b &&& c≤b:=FY
  show bits .and .u64 (bits .and .u64 (a:Int) b) c=bits .and .u64 (a:Int) (bits .and .u64 (b:Int) c)
  rw[rp ha hb,rp hb hc,rp (by omega) hc,rp ha (by omega),Nat.and_assoc]
 ·rw[ah rfl]at iC wx fR aU Fg
  rw[rL]at aU Fg
  rw[rL,rL,rL,rL]
  rw[xn aU fR,xn iC Fg,xn iC wx,xn wx fR,Ts]
theorem sG(a:List Int)(i:Nat):a.getD i 0=wd a i:=by rw[aZ];rfl
section
variable {s:Sy} {l:Lay} (hs:LS s l)
include hs
theorem LS.ahJ:eN s.what s.w=(nW l:Int):=by have:=hs.words;have:=hs.ww;omega
theorem LS.rU{a:List Int}:eI s.what s.w a↔(a.length=nW l∧∀i,i<nW l→fX s.what s.w i (a.getD i 0)):=by
 rw[GQ hs.gK.sW,hs.ahJ]
 constructor
 ·rintro⟨h1,h2⟩
  have h1:a.length=nW l:=by omega
  exact⟨h1,fun i hi=>by rw[sG];exact h2 i (by omega)⟩
 ·rintro⟨h1,h2⟩
  exact⟨by omega,fun i hi=>by rw[← sG];exact h2 i (by omega)⟩
theorem LS.wo{a b:List Int}(ha:eI s.what s.w a)(hb:eI s.what s.w b):dE s.what s.w a b↔∀i,i<nW l→de s.what (a.getD i 0) (b.getD i 0)=b.getD i 0:=by
 have la:=((hs.rU).1 ha).1
 have lb:=((hs.rU).1 hb).1
 constructor
 ·intro h i hi
  rw[sG,sG,← y8 (by omega) (by omega),h.2.2]
 ·intro h
  refine⟨ha,hb,zc ?_ fun i hi=>?_⟩
  ·rw[jc (by omega)];omega
  ·rw[jc (by omega)]at hi
   rw[y8 hi (by omega),← sG,← sG]
   exact h i (by omega)
theorem LS.WQ{v:Nat}(hv:v<nN s){y:List Int}(hy:eI s.what s.w y):eI s.what s.w (gg s y v):=
 (LW hs.fit hs.gK (dE.refl hy) (v:=v) (by have:=hs.nn;omega)).1
end
def JD(s:Sy)(v:Nat):List Nat:=(au s.n s.aO v).map Int.toNat
theorem ag0{s:Sy}{v u:Nat}(h:u∈JD s v):u<nN s:=by
 obtain⟨z,hz,rfl⟩:=dT.1 h
 obtain⟨hz,_⟩:=oe.1 hz
 obtain⟨i,hi,rfl⟩:=dT.1 hz
 rw[bC]
 exact gy.1 hi
def kU(s:Sy)(l:Lay)(hs:LS s l):SX.AP where
 n:=nN s
 W:=nW l
 k:=l.k.toNat
 nx:=JD s
 jw:=de s.what
 out v y:=gg s y v
 ok i z:=fX s.what s.w i z
 Ea _ h:=ag0 h
 idem h:=CK hs.vA h
 comm h1 h2:=YU hs.vA h1 h2
 assoc h1 h2 h3:=X4 hs.vA h1 h2 h3
 Oq h1 h2:=CL hs.vA h1 h2
 IB hv h1 h2:=(hs.rU).1 (hs.WQ hv ((hs.rU).2 ⟨h1,h2⟩))
 mono:=fun {v y z} hv h1 h2 h3 h4 h5=>by
  have hy:=(hs.rU).2 ⟨h1,h3⟩
  have hz:=(hs.rU).2 ⟨h2,h4⟩
  have hl:=LW hs.fit hs.gK ((hs.wo hy hz).2 h5) (v:=v) (by have:=hs.nn;omega)
  exact (hs.wo hl.1 hl.2.1).1 hl
def Fa(does:Int)(node:Nat)(out:List Int)(u:Nat)(r:List Nat):SX.Ph:=
 if does=0 then .idle 0 0
 else if does=1 then .idle 1 0
 else if does=2 then .idle 2 0
 else if does=3 then .clear node
 else if does=4 then .read node []
 else if does=5 then .join node out u r 0 none false
 else if does=6 then .take node out u r
 else if does=7 then .push node out u r 0
 else .ee node
def phN(does:Int)(node:Nat)(out:List Int)(u:Nat)(r:List Nat):Nw→SX.Ph
 |.none=>Fa does node out u r
 |.pop q=>if q.at_=5∧q.ok=true then .held q.x.toNat else .idle 0 q.at_
 |.cC z=>.idle 1 z.at_
 |.quiet _=>.idle 2 0
 |.clear _=>.clear node
 |.read y=>.read node y
 |.join j=>.join node out u r j.at_ (if j.fG=true then some j.x else none) j.changed
 |.take t=>if t.j6=true then .add node out u r else .take node out u r
 |.push q=>.push node out u r q.at_
 |.ee _=>.ee node
def dP(x:WS):SX.Ph:=if x.en=true then .done else phN x.does x.node.toNat x.out (x.nx.headD 0).toNat (x.nx.tail.map Int.toNat) x.now
theorem S5(l:Lay)(who d:Int)(x:WS):dP ⟨x.ev,x.jo,x.en,x.does,kB l who x d,x.node,x.has,x.nx,x.out⟩=dP x:=by
 unfold dP
 dsimp only
 congr 1
 unfold kB
 cases hn:x.now with
 |none=>
  dsimp only
  show _=Fa _ _ _ _ _
  unfold Fa
  by_cases h0:x.does=0
  ·rw[Jq h0,ah h0];rfl
  by_cases h1:x.does=1
  ·rw[Jp h1,ag h0,ah h1];rfl
  by_cases h2:x.does=2
  ·rw[Jo h2,ag h0,ag h1,ah h2];rfl
  by_cases h3:x.does=3
  ·rw[Jm h3,ag h0,ag h1,ag h2,ah h3];rfl
  by_cases h4:x.does=4
  ·rw[Jl h4,ag h0,ag h1,ag h2,ag h3,ah h4];rfl
  by_cases h5:x.does=5
  ·rw[Jk h5,ag h0,ag h1,ag h2,ag h3,ag h4,ah h5];rfl
  by_cases h6:x.does=6
  ·rw[Jj h6,ag h0,ag h1,ag h2,ag h3,ag h4,ag h5,ah h6];rfl
  by_cases h7:x.does=7
  ·rw[Ji h7,ag h0,ag h1,ag h2,ag h3,ag h4,ag h5,ag h6,ah h7];rfl
  rw[Jh h0 h1 h2 h3 h4 h5 h6 h7,ag h0,ag h1,ag h2,ag h3,ag h4,ag h5,ag h6,ag h7];rfl
 |_=>rfl
theorem DD{ev jo:Int}{does node:Int}{has:Bool}{nx out:List Int}(hd:does=if nx.length=0 then 8 else 5):dP ⟨ev,jo,false,does,.none,node,has,nx,out⟩=SX.gh node.toNat out (nx.map Int.toNat):=by
 subst hd
 cases nx with
 |nil=>rfl
 |cons u r=>rfl
abbrev gm(s:Sy)(l:Lay)(j:Nat):Nat:=nN s*nW l+nN s+1+j*(nN s+3)
def sJ:Nw→Own
 |.pop q=>some (true,q)
 |.push q=>some (false,q)
 |_=>none
def lS(W:List WS)(j:Nat):Own:=match W[j]? with
 |some x=>sJ x.now
 |none=>none
def lX(s:Sy)(l:Lay)(W:List WS)(j:Nat)(z:DQ):Prop:=∃(i:Nat) (x:WS),W[i]?=some x∧x.now=.cC z∧z.base=(gm s l j:Int)
abbrev jF(c:List Nat):List Int:=c.map fun v:Nat=>(v:Int)
def cu(s:Sy)(l:Lay)(W:List WS)(ws:List Int)(D:List (List Nat)):SX.AS where
 cell v i:=if v<nN s∧i<nW l then ws.getD (v*nW l+i) 0 else 0
 flag v:=decide (v<nN s∧¬ws.getD (nN s*nW l+v) 0=0)
 aH:=(ws.getD (nN s*nW l+nN s) 0).toNat
 dq:=D
 ph:=W.map dP
 ev:=SX.aN (fun x=>x.ev.toNat) W
 jo:=SX.aN (fun x=>x.jo.toNat) W
structure RJ(s:Sy)(l:Lay)(hs:LS s l)(W:List WS)(ws:List Int)(D:List (List Nat))(T:Nat→Nat)(M:Nat):Prop where
 len:(W.length:Int)=l.k
 fl:ws.length=nQ l
 kA:0≤ws.getD (nN s*nW l+nN s) 0
 dl:D.length=W.length
 di:∀(j:Nat) (c:List Nat),D[j]?=some c→DI (gm s l j) (eC l) ws (lS W j) (lX s l W j) (T j) (jF c)
 top:∀j,T j≤M
 ev:∀x∈W,0≤x.ev∧x.ev≤M∧0≤x.jo∧x.jo≤M
 jn:∀x∈W,∀j,x.now=.join j→j.fG=true→de j.what j.x (wd j.a j.at_)≠j.x
 pn:∀x∈W,∀q,x.now=.push q→q.n=x.nx.headD 0
 ti:SX.TI (kU s l hs) (cu s l W ws D)
theorem y5{W:List WS}{i:Nat}{x:WS}(h:W[i]?=some x):lS W i=sJ x.now:=by unfold lS;rw[h]
theorem LV{W:List WS}{i:Nat}(hi:i<W.length)(x:WS)(j:Nat):lS (W.set i x) j=if i=j then sJ x.now else lS W j:=by
 unfold lS
 rw[fj]
 by_cases h:i=j
 ·subst h;rw[ah rfl,ah hi,ah rfl]
 ·rw[ag h,ag h]
theorem rr{α:Type}{W:List α}{i:Nat}{x:α}(h:W[i]?=some x):W.set i x=W:=by
 refine Am fun j=>?_
 rw[fj]
 by_cases hj:i=j
 ·subst hj;rw[ah rfl,ah (ck.1 h).1,h]
 ·rw[ag hj]
theorem Hz{s:Sy}{l:Lay}{W:List WS}{i:Nat}{x:WS}{j:Nat}{z:DQ}(h:lX s l (W.set i x) j z):lX s l W j z∨(x.now=.cC z∧z.base=(gm s l j:Int)):=by
 obtain⟨k,y,hy,h1,h2⟩:=h
 rw[fj]at hy
 by_cases hk:i=k
 ·subst hk
  rw[ah rfl]at hy
  split at hy
  ·cases hy;exact .inr ⟨h1,h2⟩
  ·cases hy
 ·rw[ag hk]at hy
  exact .inl ⟨k,y,hy,h1,h2⟩
theorem VF{N b i j:Nat}(h:i≠j){a:Nat}(h1:b+i*(N+3)≤a)(h2:a<b+i*(N+3)+2+(N+1)):¬(b+j*(N+3)≤a∧a<b+j*(N+3)+2+(N+1)):=by
 rintro⟨h3,h4⟩
 rcases Nat.lt_or_gt_of_ne h with h5 | h5
 ·have:=lI (N+3) (show i+1≤j by omega)
  rw[qe]at this
  omega
 ·have:=lI (N+3) (show j+1≤i by omega)
  rw[qe]at this
  omega
theorem AD{α:Type}{W:List α}{i:Nat}{x y:α}(h:y∈W.set i x):y∈W∨y=x:=qh h
section
variable {s:Sy} {l:Lay} {hs:LS s l} {W:List WS} {ws:List Int} {D:List (List Nat)} {T:Nat→Nat} {M:Nat}
theorem RJ.fin(hR:RJ s l hs W ws D T M){i:Nat}{x x':WS}(hx:W[i]?=some x){ws':List Int}{D':List (List Nat)}{T':Nat→Nat}(gx:ws'.length=ws.length)(hc:0≤ws'.getD (nN s*nW l+nN s) 0)(ey:D'.length=D.length)
  (kR:∀(j:Nat) (c:List Nat),D'[j]?=some c→DI (gm s l j) (eC l) ws' (lS (W.set i x') j) (lX s l (W.set i x') j) (T' j) (jF c))
  (zM:∀j,T' j≤M+1) (kv:x'.ev=x.ev∨x'.ev=x.ev+1) (l6:x'.jo=x.jo∨x'.jo=x.jo+1) (Ac:∀j,x'.now=.join j→j.fG=true→de j.what j.x (wd j.a j.at_)≠j.x) (s6:∀q,x'.now=.push q→q.n=x'.nx.headD 0)
  (mX:SX.Tr (kU s l hs) (cu s l W ws D) i (cu s l (W.set i x') ws' D')):RJ s l hs (W.set i x') ws' D' T' (M+1)∧SX.Tr (kU s l hs) (cu s l W ws D) i (cu s l (W.set i x') ws' D'):=by
 have h0:=hR.ev x (cx hx)
 refine⟨⟨by rw[cR];exact hR.len,gx.trans hR.fl,hc,by rw[cR,ey];exact hR.dl,kR,zM,fun y hy=>?_,fun y hy=>?_,fun y hy=>?_,hR.ti.step mX⟩,mX⟩
 ·rcases AD hy with hy | rfl
  ·have:=hR.ev y hy;omega
  ·omega
 ·rcases AD hy with hy | rfl
  ·exact hR.jn y hy
  ·exact Ac
 ·rcases AD hy with hy | rfl
  ·exact hR.pn y hy
  ·exact s6
theorem xI(hR:RJ s l hs W ws D T M){i:Nat}{x x':WS}(hx:W[i]?=some x){ws':List Int}{c':List Nat}{T':Nat}(gx:ws'.length=ws.length)
  (jr:∀a,¬(gm s l i≤a∧a<gm s l i+2+rm (eC l))→ws'.getD a 0=ws.getD a 0) (NV:∀z,x'.now≠.cC z)
  (hD:DI (gm s l i) (eC l) ws' (sJ x'.now) (lX s l W i) T' (jF c')):∀(j:Nat) (c:List Nat),(D.set i c')[j]?=some c→DI (gm s l j) (eC l) ws' (lS (W.set i x') j) (lX s l (W.set i x') j) (if j=i then T' else T j) (jF c):=by
 intro j c hj
 have hi:=(ck.1 hx).1
 have s4:∀z,lX s l (W.set i x') j z→lX s l W j z:=fun z hz=>by
  rcases Hz hz with h | h
  ·exact h
  ·exact absurd h.1 (NV z)
 rw[LV hi]
 rw[fj]at hj
 by_cases h:i=j
 ·subst h
  rw[ah rfl,ah (by rw[hR.dl];exact hi)]at hj
  cases hj
  rw[ah rfl,ah rfl]
  exact hD.qH s4
 ·rw[ag h]at hj
  rw[ag h,ag (fun e=>h e.symm)]
  refine ((hR.di j c hj).Gi gx fun a h1 h2=>?_).qH s4
  rw[hs.room.2]at h2 jr
  exact jr a (VF (fun e=>h e.symm) h1 h2)
theorem pE(hR:RJ s l hs W ws D T M){i:Nat}{x x':WS}(hx:W[i]?=some x){ws':List Int}(gx:ws'.length=ws.length)
  (jr:∀a,nN s*nW l+nN s+1≤a→ws'.getD a 0=ws.getD a 0) (NV:∀z,x'.now≠.cC z) (ho:sJ x.now=sJ x'.now) :
  ∀(j:Nat) (c:List Nat),D[j]?=some c→DI (gm s l j) (eC l) ws' (lS (W.set i x') j) (lX s l (W.set i x') j) (T j) (jF c):=by
 intro j c hj
 have hi:=(ck.1 hx).1
 have e:lS (W.set i x') j=lS W j:=by
  rw[LV hi]
  by_cases h:i=j
  ·subst h;rw[ah rfl,y5 hx,ho]
  ·rw[ag h]
 rw[e]
 refine ((hR.di j c hj).Gi gx fun a h1 h2=>jr a (by unfold gm at h1;omega)).qH fun z hz=>?_
 rcases Hz hz with h | h
 ·exact h
 ·exact absurd h.1 (NV z)
theorem Ii(hR:RJ s l hs W ws D T M){i v:Nat}{x x':WS}{q':DQ}(hx:W[i]?=some x)(hv:v<D.length){ws':List Int}{c':List Nat}{T':Nat}(gx:ws'.length=ws.length)
  (jr:∀a,¬(gm s l v≤a∧a<gm s l v+2+rm (eC l))→ws'.getD a 0=ws.getD a 0) (an:(x'.now=.cC q'∧q'.base=(gm s l v:Int))∨∀z,x'.now≠.cC z) (ho:sJ x.now=sJ x'.now)
  (hD:DI (gm s l v) (eC l) ws' (lS W v) (fun z=>lX s l W v z∨(x'.now=.cC z∧z=q')) T' (jF c')):∀(j:Nat) (c:List Nat),(D.set v c')[j]?=some c→DI (gm s l j) (eC l) ws' (lS (W.set i x') j) (lX s l (W.set i x') j) (if j=v then T' else T j) (jF c):=by
 intro j c hj
 have hi:=(ck.1 hx).1
 have e:lS (W.set i x') j=lS W j:=by
  rw[LV hi]
  by_cases h:i=j
  ·subst h;rw[ah rfl,y5 hx,ho]
  ·rw[ag h]
 rw[e]
 rw[fj]at hj
 by_cases h:v=j
 ·subst h
  rw[ah rfl,ah hv]at hj
  cases hj
  rw[ah rfl]
  refine hD.qH fun z hz=>?_
  rcases Hz hz with h | h
  ·exact .inl h
  ·refine .inr ⟨h.1,?_⟩
   rcases an with h2 | h2
   ·have:=h.1.symm.trans h2.1
    cases this;rfl
   ·exact absurd h.1 (h2 z)
 ·rw[ag h]at hj
  rw[ag (fun e=>h e.symm)]
  refine ((hR.di j c hj).Gi gx fun a h1 h2=>?_).qH fun z hz=>?_
  ·rw[hs.room.2]at h2 jr
   exact jr a (VF (fun e=>h e.symm) h1 h2)
  ·rcases Hz hz with h3 | h3
   ·exact h3
   ·rcases an with h2 | h2
    ·have h4:=h3.1.symm.trans h2.1
     cases h4
     have h5:=h3.2.symm.trans h2.2
     have h6:j*(nN s+3)=v*(nN s+3):=by unfold gm at h5;omega
     exact absurd (Nat.eq_of_mul_eq_mul_right (by omega) h6).symm h
    ·exact absurd h3.1 (h2 z)
theorem BA{A B:SX.AS}(h1:∀v i,A.cell v i=B.cell v i)(h2:∀v,A.flag v=B.flag v)(h3:A.aH=B.aH)(h4:A.dq=B.dq)(h5:A.ph=B.ph)(h6:A.ev=B.ev)(h7:A.jo=B.jo):A=B:=by
 obtain⟨a1,a2,a3,a4,a5,a6,a7⟩:=A
 obtain⟨b1,b2,b3,b4,b5,b6,b7⟩:=B
 obtain rfl:a1=b1:=funext fun v=>funext fun i=>h1 v i
 obtain rfl:a2=b2:=funext h2
 cases h3;cases h4;cases h5;cases h6;cases h7;rfl
theorem uW{f:WS→Nat}{i:Nat}{x x':WS}(hx:W[i]?=some x)(h:f x'=f x):SX.aN f (W.set i x')=SX.aN f W:=by
 have:=SX.fT f W i x x' hx
 omega
theorem mg{i:Nat}{x x':WS}(hx:W[i]?=some x){ws':List Int}(fv:∀a,a<nN s*nW l+nN s+1→ws'.getD a 0=ws.getD a 0)(kv:x'.ev=x.ev)(l6:x'.jo=x.jo)(D':List (List Nat)):
  cu s l (W.set i x') ws' D' = { cu s l W ws D with dq:=D',ph:=(cu s l W ws D).ph.set i (dP x') }:=by
 refine BA (fun v j=>?_) (fun v=>?_) ?_ rfl ?_ ?_ ?_
 ·show (if _ then _ else _)=(if _ then _ else _)
  by_cases h:v<nN s∧j<nW l
  ·have:=tI h.1 h.2
   rw[ah h,ah h,fv _ (by omega)]
  ·rw[ag h,ag h]
 ·show decide _=decide _
  by_cases h:v<nN s
  ·rw[fv _ (by omega)]
  ·rw[bS (fun e=>h e.1),bS (fun e=>h e.1)]
 ·show (ws'.getD _ 0).toNat=(ws.getD _ 0).toNat
  rw[fv _ (by omega)]
 ·show (W.set i x').map dP=(W.map dP).set i (dP x')
  rw[oc]
 ·exact uW hx (by rw[kv])
 ·exact uW hx (by rw[l6])
theorem mL{i:Nat}{x:WS}(hx:W[i]?=some x):(cu s l W ws D).ph[i]?=some (dP x):=by
 show (W.map dP)[i]?=_
 rw[fm,hx];rfl
theorem TQ{i:Nat}{x x':WS}(hx:W[i]?=some x){ws':List Int}{u:Nat}{z:Int}(hu:u<nN s)(hl:nN s*nW l+u<ws.length)(hw:ws'=ws.set (nN s*nW l+u) z)(kv:x'.ev=x.ev)(l6:x'.jo=x.jo):
  cu s l (W.set i x') ws' D = { cu s l W ws D with flag:=fun v=>if v=u then decide (¬z=0) else (cu s l W ws D).flag v,ph:=(cu s l W ws D).ph.set i (dP x') }:=by
 subst hw
 refine BA (fun v j=>?_) (fun v=>?_) ?_ rfl ?_ ?_ ?_
 ·show (if _ then _ else _)=(if _ then _ else _)
  by_cases h:v<nN s∧j<nW l
  ·have:=tI h.1 h.2
   rw[ah h,ah h,ka,ag (by omega)]
  ·rw[ag h,ag h]
 ·show decide _=if v=u then _ else decide _
  by_cases h:v=u
  ·subst h
   rw[ah rfl,ka,ah ⟨rfl,hl⟩]
   simp[hu]
  ·rw[ag h,ka,ag (by omega)]
 ·show ((ws.set _ _).getD _ 0).toNat=(ws.getD _ 0).toNat
  rw[ka,ag (by omega)]
 ·show (W.set i x').map dP=(W.map dP).set i (dP x')
  rw[oc]
 ·exact uW hx (by rw[kv])
 ·exact uW hx (by rw[l6])
theorem UY{i:Nat}{x x':WS}(hx:W[i]?=some x){ws':List Int}{z:Int}(hl:nN s*nW l+nN s<ws.length)(hw:ws'=ws.set (nN s*nW l+nN s) z)(kv:x'.ev=x.ev)(l6:x'.jo=x.jo):
  cu s l (W.set i x') ws' D = { cu s l W ws D with aH:=z.toNat,ph:=(cu s l W ws D).ph.set i (dP x') }:=by
 subst hw
 refine BA (fun v j=>?_) (fun v=>?_) ?_ rfl ?_ ?_ ?_
 ·show (if _ then _ else _)=(if _ then _ else _)
  by_cases h:v<nN s∧j<nW l
  ·have:=tI h.1 h.2
   rw[ah h,ah h,ka,ag (by omega)]
  ·rw[ag h,ag h]
 ·show decide _=decide _
  by_cases h:v<nN s
  ·rw[ka,ag (by omega)]
  ·rw[bS (fun e=>h e.1),bS (fun e=>h e.1)]
 ·show ((ws.set _ _).getD _ 0).toNat=z.toNat
  rw[ka,ah ⟨rfl,hl⟩]
 ·show (W.set i x').map dP=(W.map dP).set i (dP x')
  rw[oc]
 ·exact uW hx (by rw[kv])
 ·exact uW hx (by rw[l6])
theorem acR{i:Nat}{x x':WS}(hx:W[i]?=some x){ws':List Int}{u j:Nat}{z:Int}(hu:u<nN s)(hj:j<nW l)(hl:u*nW l+j<ws.length)(hw:ws'=ws.set (u*nW l+j) z)(kv:x'.ev=x.ev)(k:Nat)(l6:x'.jo.toNat=x.jo.toNat+k):
  cu s l (W.set i x') ws' D = { cu s l W ws D with cell:=SX.eT (cu s l W ws D).cell u j z,ph:=(cu s l W ws D).ph.set i (dP x'),jo:=(cu s l W ws D).jo+k }:=by
 subst hw
 have h0:=tI hu hj
 refine BA (fun v t=>?_) (fun v=>?_) ?_ rfl ?_ ?_ ?_
 ·show (if _ then _ else _)=SX.eT _ _ _ _ _ _
  unfold SX.eT
  by_cases h:v<nN s∧t<nW l
  ·rw[ah h,ka]
   by_cases e:v=u∧t=j
   ·obtain⟨rfl,rfl⟩:=e
    rw[ah ⟨rfl,hl⟩,ah ⟨rfl,rfl⟩]
   ·rw[ag e,ag fun h2=>e (TN h.2 hj h2.1.symm)]
    show _=if _ then _ else _
    rw[ah h]
  ·rw[ag h,ag (fun e=>h (by rw[e.1,e.2];exact⟨hu,hj⟩))]
   show _=if _ then _ else _
   rw[ag h]
 ·show decide _=decide _
  rw[ka,ag (by omega)]
 ·show ((ws.set _ _).getD _ 0).toNat=(ws.getD _ 0).toNat
  rw[ka,ag (by omega)]
 ·show (W.set i x').map dP=(W.map dP).set i (dP x')
  rw[oc]
 ·exact uW hx (by rw[kv])
 ·show SX.aN _ _=SX.aN _ _+k
  have:=SX.fT (fun x:WS=>x.jo.toNat) W i x x' hx
  omega
theorem agr{i:Nat}{x x':WS}(hx:W[i]?=some x)(kv:x'.ev.toNat=x.ev.toNat+1)(l6:x'.jo=x.jo):
  cu s l (W.set i x') ws D = { cu s l W ws D with ph:=(cu s l W ws D).ph.set i (dP x'),ev:=(cu s l W ws D).ev+1 }:=by
 refine BA (fun _ _=>rfl) (fun _=>rfl) rfl rfl ?_ ?_ ?_
 ·show (W.set i x').map dP=(W.map dP).set i (dP x')
  rw[oc]
 ·show SX.aN _ _=SX.aN _ _+1
  have:=SX.fT (fun x:WS=>x.ev.toNat) W i x x' hx
  omega
 ·exact uW hx (by rw[l6])
theorem agq{i:Nat}{x x':WS}(hx:W[i]?=some x)(kv:x'.ev=x.ev)(k:Nat)(l6:x'.jo.toNat=x.jo.toNat+k):
  cu s l (W.set i x') ws D = { cu s l W ws D with ph:=(cu s l W ws D).ph.set i (dP x'),jo:=(cu s l W ws D).jo+k }:=by
 refine BA (fun _ _=>rfl) (fun _=>rfl) rfl rfl ?_ ?_ ?_
 ·show (W.set i x').map dP=(W.map dP).set i (dP x')
  rw[oc]
 ·exact uW hx (by rw[kv])
 ·show SX.aN _ _=SX.aN _ _+k
  have:=SX.fT (fun x:WS=>x.jo.toNat) W i x x' hx
  omega
end
end Go.Proofs.YtnikdflhefijbaaGreat
