import Derived.Test.YtnikdflhefijbaaGreatBn24
import Derived.Test.YtnikdflhefijbaaGreatBn22
import Derived.Shelf.GgSortFunc.RowK
import Derived.Sort.Grow
import Derived.Test.YtnikdflhefijbaaGreatBn11
import Derived.Shelf.SlSortCmp.NoneTotal
import Derived.Test.YtnikdflhefijbaaGreatBn20
import Derived.Test.YtnikdflhefijbaaGreatBn23
import Derived.Test.YtnikdflhefijbaaGreatBn21
namespace Go.Proofs.YtnikdflhefijbaaGreat
open Go.RowKit
theorem lU{n:Int}{l:List bC}{a b:Int}:b∈au n l a↔(0≤b∧b<n)∧(0≤a∧a<n)∧∃e∈l,e.1=a∧e.2.1=b:=by
 unfold au jf
 rw[nD,decide_eq_true_eq,dX,dX]
 constructor
 ·rintro⟨⟨i,hi,rfl⟩,e,he,h2⟩
  have hi:=gw.1 hi
  obtain⟨h3,h4⟩:=nD.1 he
  simp only[bL,decide_eq_true_eq,kI]at h4
  exact⟨by omega,h4.1.2,e,h3,h4.1.1,h2⟩
 ·rintro⟨h1,h2,e,h3,h4,h5⟩
  refine⟨⟨b.toNat,gw.2 (by omega),by omega⟩,e,nD.2 ⟨h3,?_⟩,h5⟩
  simp only[bL,decide_eq_true_eq,kI]
  exact⟨⟨h4,h2⟩,by omega⟩
theorem xQ(n:Int)(l:List bC)(a:Int):(au n l a).length≤n.toNat:=by
 unfold au
 exact Nat.le_trans (List.length_filter_le _ _) (by simp)
theorem JC{s:Sy}(hf:Fit s)(hg:Good s){a:List (List Int)}(ha:jH s a)(v:Nat):∀k,k≤s.bf.length→dV s.what s.w (gG s v) (jD s a k v)∧∀e∈s.bf.take k,e.2.1=v→dV s.what s.w (iD s (a.getD e.1.toNat []) e.1.toNat) (jD s a k v)
 | 0,_=>⟨dV.refl (JX hf hg v),fun e he=>by cases he⟩
 |k+1,hk=>by
  obtain⟨h1,h2⟩:=JC hf hg ha v k (by omega)
  have ab:k<s.bf.length:=by omega
  have hv:=Qn hf hg ha v k (by omega)
  have he:=hg.yO _ (bX ab)
  have ho:dY s.what s.w (iD s (a.getD s.bf[k].1.toNat []) s.bf[k].1.toNat):=by
   have hx:=ha.get (i:=s.bf[k].1.toNat) (by omega)
   have:=Gn hf hg hx.ca hx.v (v:=s.bf[k].1.toNat) (by omega)
   exact⟨this.1,this.2⟩
  have l6:dV s.what s.w (jD s a k v) (jD s a (k+1) v):=by
   rw[zA s a ab]
   unfold wQ
   split
   ·exact dV.left hv ho
   ·exact dV.refl hv
  refine⟨h1.trans l6,fun e hm k9=>?_⟩
  rw[fp ab]at hm
  rcases bO.1 hm with hm | hm
  ·exact (h2 e hm k9).trans l6
  ·rw[bh.1 hm]at k9 ⊢
   rw[zA s a ab]
   unfold wQ
   rw[ai k9]
   exact dV.right hv ho
theorem acs{F':Nat→Prop}{w w':World}(h:bE (fun b=>b<w.heap.size) w F' w'):∃q os,w'=Go.Sort.grow (w.drewN q) os:=by
 obtain⟨h1,h2,h3,h4,_,h6,_,h8⟩:=h
 have hh:w'.heap=w.heap++w'.heap.extract w.heap.size w'.heap.size:=by
  apply Array.ext
  ·simp only[Array.size_append,Array.size_extract];omega
  ·intro i hi su
   by_cases ab:i<w.heap.size
   ·have e:=h6 i ab
    rw[xF hi,xF ab]at e
    rw[Array.getElem_append_left ab]
    exact Option.some.inj e
   ·rw[Array.getElem_append_right (by omega),Array.getElem_extract]
    congr 1;omega
 refine⟨w'.drawn-w.drawn,w'.heap.extract w.heap.size w'.heap.size,?_⟩
 have hd:w.drawn+(w'.drawn-w.drawn)=w'.drawn:=by omega
 unfold Go.Sort.grow World.drewN
 cases w' with
 |mk heap tape drawn os output=>
  simp only at h1 h2 h3 hh hd ⊢
  rw[h1,h2,h3,← hh,hd]
theorem XV{f:FuncId}{xs:List AV}{k:IntKind}{z:Int}(h:∀σ,ACalls Tryz.prog f xs σ (aE (.int k z) σ)){w:World}{vs:Array Value}(hv:iQ (fun b=>b<w.heap.size) w xs vs):Calls Tryz.prog f vs w fun e w'=>e=.returned (.int k z)∧∃q os,w'=Go.Sort.grow (w.drewN q) os:=by
 refine ((h []).2 (fun b=>b<w.heap.size) w vs hv ⟨Ou,fun p hp=>absurd hp Be,fun b hb=>hb⟩).mono ?_
 rintro e w' ⟨r,v,σ',F',rfl,aq,_,hr,rfl,_⟩
 refine⟨?_,acs aq⟩
 rw[hr.gA]
set_option maxRecDepth 100000
section
variable {F:Nat→Prop} {w:World} {σ:Hp}
end
variable {α:Type} {f:α→List AV} {n:Nat}
theorem PF(hf:∀x,(f x).length=n)(l:List α):(l.flatMap f).length=l.length*n:=vT hf l
theorem JD:∀(vs A B C:List AV),B.length=vs.length→fS (A++(B++C)) A.length vs=A++(vs++C)
 | [],A,B,C,h=>by
  obtain rfl:=jP.1 h
  rfl
 |v::vs,A,b::B,C,h=>by
  show fS ((A++(b::(B++C))).set A.length v) (A.length+1) vs=_
  have e:(A++(b::(B++C))).set A.length v=(A++[v])++(B++C):=by
   rw[List.set_append_right _ _ (Nat.le_refl _),Nat.sub_self];simp
  rw[e,show A.length+1=(A++[v]).length by simp,JD vs (A++[v]) B C (by simpa using h)]
  simp
theorem abH(hf:∀x,(f x).length=n){l:List α}{k:Nat}(h:k<l.length)(d:α):fS (l.flatMap f) (k*n) (f d)=(l.set k d).flatMap f:=by
 have e:l=l.take k++([l[k]]++l.drop (k+1)):=by simp
 have e2:l.set k d=l.take k++([d]++l.drop (k+1)):=by
  rw[List.set_eq_take_append_cons_drop,ai h];rfl
 have hk:((l.take k).flatMap f).length=k*n:=by rw[PF hf,xC,Oi (Nat.le_of_lt h)]
 rw[e2]
 conv=>lhs;rw[e]
 rw[zl,zl,zl,zl,List.flatMap_singleton,List.flatMap_singleton,← hk]
 exact JD _ _ _ _ (by rw[hf,hf])
theorem Yo{i:TI}(hs:i.size=n)(hf:∀x,(f x).length=n){l:List α}{k:Nat}(h:k<l.length)(d:α){z:Int}(hz:z=k):kJ i (l.flatMap f) (0+z.toNat*n) (.agg (f d))=some ((l.set k d).flatMap f):=by
 subst hz
 have hl:=PF hf l
 have hm:(k+1)*n≤l.length*n:=lO n h
 rw[qy,Nat.one_mul]at hm
 have hb:Nat.ble (0+k*n+n) (l.flatMap f).length=true:=Oy (by rw[hl];omega)
 have hq:Nat.beq (f d).length n=true:=by rw[hf];exact xz n
 unfold kJ
 rw[hs]
 show (match Nat.beq (f d).length n,Nat.ble (0+k*n+n) (l.flatMap f).length with | true,true=>some (fS (l.flatMap f) (0+k*n) (f d)) | _,_=>none)=_
 rw[hb,hq]
 show some (fS (l.flatMap f) (0+k*n) (f d))=_
 rw[eF,abH hf h]
abbrev tc:Sh:=.field (.int .i64) (.field (.int .i64) .nil)
theorem KV{α:Type}(fr σ:List α)(x y:α):(fr++(x::σ)).set fr.length y=fr++(y::σ):=by
 rw[Jj _ _ (aU _),pG];rfl
theorem abg(l:List (Sh.T tc))(σ:Hp)(hl:l.length≤1000000):ACalls Tryz.prog 180 [.af tc l] σ (fun x σ'=>∃acc,Acc 2 l.length x acc (l.flatMap (Sh.cells tc))∧σ'=acc++σ):=by
 refine Fs (fun h=>⟨?_,?_⟩) (fun h=>?_)
 ·subst h
  refine ay Tryz.func180 ?_
  exact .done ⟨[],.nil,rfl⟩
 ·subst h
  refine ay Tryz.func180 ?_
  intro b
  refine AppendAt.more 0 b 0 0 [] _ rfl rfl (cH rfl) .gU (by decide) (by decide) (by decide) (fun b'=>?_)
  exact .done ⟨[(b',[])],.ae b' 0 [] rfl,rfl⟩
 ·refine ay Tryz.func180 ?_
  refine ag.mk (mM.2 h) ?_
  intro b
  refine AppendAt.more 0 b 0 l.length [] _ rfl rfl (cH rfl) (.af tc l rfl) (by omega) (by decide) (by decide) (fun b'=>?_)
  refine .done ⟨[(b',l.flatMap (Sh.cells tc))],?_,rfl⟩
  rw[eF];exact .ae b' l.length _ (vT (f:=Sh.cells tc) (es:=2) (fun _=>rfl) l)
theorem abf(l:List (Sh.T tc))(σ:Hp)(hl:l.length≤1000000):ACalls Tryz.prog 180 [.af tc l] σ (aE (.af tc l) σ):=by
 refine (abg l σ hl).fin ?_
 rintro v σ' ⟨acc,bY,rfl⟩
 exact pO (s:=tc) [] bY rfl rfl (by decide) (.done ⟨rfl,rfl⟩)
theorem abe(l:List (Sh.T (.int .i64)))(σ:Hp)(hl:l.length≤1000000):ACalls Tryz.prog 220 [.af (.int .i64) l] σ (fun x σ'=>∃acc,Acc 1 l.length x acc (l.flatMap (Sh.cells (.int .i64)))∧σ'=acc++σ):=by
 refine Fs (fun h=>⟨?_,?_⟩) (fun h=>?_)
 ·subst h
  refine ay Tryz.func220 ?_
  exact .done ⟨[],.nil,rfl⟩
 ·subst h
  refine ay Tryz.func220 ?_
  intro b
  refine AppendAt.more 0 b 0 0 [] _ rfl rfl (cH rfl) .gU (by decide) (by decide) (by decide) (fun b'=>?_)
  exact .done ⟨[(b',[])],.ae b' 0 [] rfl,rfl⟩
 ·refine ay Tryz.func220 ?_
  refine ag.mk (mM.2 h) ?_
  intro b
  refine AppendAt.more 0 b 0 l.length [] _ rfl rfl (cH rfl) (.af (.int .i64) l rfl) (by omega) (by decide) (by decide) (fun b'=>?_)
  refine .done ⟨[(b',l.flatMap (Sh.cells (.int .i64)))],?_,rfl⟩
  rw[eF];exact .ae b' l.length _ (vT (f:=Sh.cells (.int .i64)) (es:=1) (fun _=>rfl) l)
theorem abd(l:List (Sh.T (.int .i64)))(σ:Hp)(hl:l.length≤1000000):ACalls Tryz.prog 220 [.af (.int .i64) l] σ (aE (.af (.int .i64) l) σ):=by
 refine (abe l σ hl).fin ?_
 rintro v σ' ⟨acc,bY,rfl⟩
 exact pO (s:=(.int .i64)) [] bY rfl rfl (by decide) (.done ⟨rfl,rfl⟩)
theorem abi(l:List (Sh.T jd))(σ:Hp)(hl:l.length≤1000000):ACalls Tryz.prog 222 [.af jd l] σ (fun x σ'=>∃acc,Acc 8 l.length x acc (l.flatMap (Sh.cells jd))∧σ'=acc++σ):=by
 refine Fs (fun h=>⟨?_,?_⟩) (fun h=>?_)
 ·subst h
  refine ay Tryz.func222 ?_
  exact .done ⟨[],.nil,rfl⟩
 ·subst h
  refine ay Tryz.func222 ?_
  intro b
  refine AppendAt.more 0 b 0 0 [] _ rfl rfl (cH rfl) .gU (by decide) (by decide) (by decide) (fun b'=>?_)
  exact .done ⟨[(b',[])],.ae b' 0 [] rfl,rfl⟩
 ·refine ay Tryz.func222 ?_
  refine ag.mk (mM.2 h) ?_
  intro b
  refine AppendAt.more 0 b 0 l.length [] _ rfl rfl (cH rfl) (.af jd l rfl) (by omega) (by decide) (by decide) (fun b'=>?_)
  refine .done ⟨[(b',l.flatMap (Sh.cells jd))],?_,rfl⟩
  rw[eF];exact .ae b' l.length _ (vT (f:=Sh.cells jd) (es:=8) (fun _=>rfl) l)
theorem abh(l:List (Sh.T jd))(σ:Hp)(hl:l.length≤1000000):ACalls Tryz.prog 222 [.af jd l] σ (aE (.af jd l) σ):=by
 refine (abi l σ hl).fin ?_
 rintro v σ' ⟨acc,bY,rfl⟩
 exact pO (s:=jd) [] bY rfl rfl (by decide) (.done ⟨rfl,rfl⟩)
theorem acL(l:List Int)(σ:Hp)(hl:l.length≤1000000):ACalls Tryz.prog 221 [.af (.int .u64) l] σ (fun x σ'=>∃b,x=.ae b 0 l.length 1∧σ'=(b,aM l)::σ):=by
 refine ay Tryz.func221 ?_
 have hn:(l.length:Int)≤1048576:=by omega
 refine ag.mk ⟨EG _,ke _,hn,by decide⟩ ?_
 intro aD
 have hr:(cE [.int .u64 0] ((l.length:Int)).toNat).length=l.length:=by rw[bM,vR];exact eH _
 refine LU.ae 0 aD 0 l.length l.length _ (l.flatMap (Sh.cells (.int .u64))) rfl rfl (by show 0+l.length*1≤(cE [.int .u64 0] ((l.length:Int)).toNat).length;rw[hr];omega) (.af (.int .u64) l rfl) (aU _) ?_
 have he:fS (cE [.int .u64 0] ((l.length:Int)).toNat) 0 (l.flatMap (Sh.cells (.int .u64)))=aM l:=by
  rw[← kH]
  have h:=JD (aM l) [] (cE [.int .u64 0] ((l.length:Int)).toNat) [] (by rw[hr];simp[aM])
  simpa using h
 exact .done ⟨aD,rfl,congrArg (fun cs=>(aD,cs)::σ) he⟩
theorem Lj(l:List Int)(σ:Hp)(hl:l.length≤1000000):ACalls Tryz.prog 221 [.af (.int .u64) l] σ (aE (.af (.int .u64) l) σ):=by
 refine (acL l σ hl).fin ?_
 rintro v σ' ⟨b,rfl,rfl⟩
 exact .cI 0 b 0 l.length 1 _ (.int .u64) l rfl (by rw[List.drop_zero,← kH];exact List.take_of_length_le (by simp[aM])) ⟨rfl,rfl,by decide⟩ .here (.done ⟨rfl,rfl⟩)
def yn:Option mh→List AV
 |none=>[.aj,.aj,.aj]
 |some t=>[.af (.int .u64) t.1,.af (.int .u64) t.2.1,.af jd t.2.2.1]
theorem Yd(t:Option mh):(yn t).length=3:=by cases t <;> rfl
def tw(T:List mh)(k:Nat):List (Option mh):=(T.take k).map some++List.replicate (T.length-k) none
theorem Y2(T:List mh):(tw T 0).flatMap yn=cE [.aj,.aj,.aj] T.length:=by
 show (List.replicate (T.length-0) none).flatMap yn=_
 rw[Nat.sub_zero]
 generalize T.length=n
 induction n with
 |zero=>rfl
 |succ n ih=>rw[Ow,zi,ih];rfl
theorem aaD{T:List mh}{k:Nat}(h:k≤T.length):(tw T k).length=T.length:=by unfold tw;simp;omega
theorem aaC{T:List mh}{k:Nat}(h:k<T.length):(tw T k).set k (some T[k])=tw T (k+1):=by
 unfold tw
 rw[List.set_append_right _ _ (by simp;omega)]
 have e:T.length-k=(T.length-(k+1))+1:=by omega
 have e2:k-((T.take k).map some).length=0:=by simp;omega
 rw[e2,e,Ow,fp h]
 simp only[cS,oL,List.map_nil,dM,ED,vL,List.set_cons_zero]
theorem aaE(T:List mh):(tw T T.length).flatMap yn=T.flatMap (Sh.cells kK):=by
 unfold tw
 rw[pG,fj,List.replicate_zero,mL,List.flatMap_map]
 rfl
theorem Zt(s:Sy)(σ:Hp)(hf:Fit s):ACalls Tryz.prog 162 [.agg (bc s)] σ (aE (.agg (bc s)) σ):=by
 refine ay Tryz.func162 ?_
 intro aD
 intro dH
 refine .sched [2,5,8] (upto [2,5,8] 15 0) (by kernel_rfl) ?_
 refine aa 1 ?_
 refine aH [] (abf s.bf _ (fD hf.DE (by decide))) ?_
 refine aa 1 ?_
 refine aH [] (abd s.entry _ (fD hf.AB (by decide))) ?_
 refine aa 1 ?_
 refine aH [] (Lj s.init _ (fD hf.Ds (by decide))) ?_
 refine ak 1 ?_
 refine ak 1 ?_
 refine ak 1 ?_
 refine aa 1 ?_
 have hT:=hf.Mp
 have Em:(s.T.length:Int)≤1048576:=by omega
 refine ag.mk ⟨EG _,ke _,Em,by decide⟩ ?_
 intro bt
 have IG:(bt,cE [AV.aj,AV.aj,AV.aj] ((s.T.length:Int)).toNat)=(bt,(tw s.T 0).flatMap yn):=by rw[Y2,bM]
 refine aa 2 ?_
 refine bV (S:=Nat) (fun k=>[(1,.ptr aD 0),(2,.ptr dH 0),(3,.ae bt 0 s.T.length 3),(23,.af kK s.T),(24,.int .i64 s.T.length),(25,.int .i64 k)]) (fun k=>(bt,(tw s.T k).flatMap yn)::(dH,[.int .i64 0,.int .i64 0,.int .i64 0,.aj,.aj,.aj,.aj])::(aD,bc s)::σ) (fun k=>k≤s.T.length) (fun k=>s.T.length-k) 0 ⟨bA _,⟨rfl,rfl,rfl,rfl,rfl,rfl,trivial⟩,congrArg (· :: (dH,([.int .i64 0,.int .i64 0,.int .i64 0,.aj,.aj,.aj,.aj]:List AV))::(aD,bc s)::σ) IG⟩ ?_
 rintro k g aL
 have hk:k≤s.T.length:=aL
 clear aL
 refine an (fun ab=>?_) (fun ar=>?_)
 ·have ab:k<s.T.length:=by have ab:(k:Int)<s.T.length:=ab;omega
  have kT:=aaC ab
  have sm:=hf.ts _ (bX ab)
  obtain⟨t,ht⟩:∃t:mh,s.T[k]=t:=⟨_,rfl⟩
  rw[ht]at kT sm
  obtain⟨t1,t2,t3,tu⟩:=t
  obtain⟨_,_,l1,l2,l3⟩:=sm
  have l1:t1.length≤10000:=l1
  have l2:t2.length≤10000:=l2
  have l3:t3.length≤100000:=l3
  refine ag.mk rfl (bG.mk (t1,t2,t3,tu) (by omega) ((get_some ab).trans (congrArg some ht)) ?_)
  intro aD
  refine ak 0 ?_
  refine .sched [4,7,10] (upto [4,7,10] 14 0) (by kernel_rfl) ?_
  refine aa 0 ?_
  refine aH [] (Lj t1 _ (fD l1 (by decide))) ?_
  refine aa 0 ?_
  refine aH [] (Lj t2 _ (fD l2 (by decide))) ?_
  refine aa 0 ?_
  refine aH [] (abh t3 _ (fD l3 (by decide))) ?_
  refine ag.mk ⟨rfl,by omega,by omega⟩ ?_
  refine cX 1 rfl ((Yo rfl Yd (by rw[aaD hk];exact ab) (some (t1,t2,t3,tu)) rfl).trans (congrArg (fun l=>some (List.flatMap yn l)) kT)) ?_
  exact a8 (k+1) (by show s.T.length-(k+1)<s.T.length-k;omega) ab ⟨rfl,rfl,rfl,rfl,rfl,aX (by omega),trivial⟩ (.drop 0 1 (.refl _))
 ·have ar:k=s.T.length:=by have ar:¬(k:Int)<s.T.length:=ar;omega
  subst ar
  rw[aaE]
  refine ak 2 ?_
  refine aa 2 ?_
  refine ak 1 ?_
  refine aa 1 ?_
  refine .cI 0 bt 0 s.T.length 3 _ kK s.T rfl ?_ ⟨rfl,rfl,by decide⟩ (Cv (cJ (.refl _) (cJ (.refl _) (cJ (.refl _) (cJ (.refl _) (cJ (.refl _) (cJ (.refl _) (cJ .here uu))))))) rfl) (.drop 0 2 (.done ⟨rfl,rfl⟩))
  rw[gR]
  exact eI (Ba (vT (f:=Sh.cells kK) (es:=3) (fun _=>rfl) s.T))
theorem Tj{F:Nat→Prop}{w:World}{σ:Hp}(h:bg F w σ){i b' k:Nat}{cs':List AV}{c c':AV}(hl:c'.leaf=true)(ej:c.leaf=true)(hc:∀v,aA F w c v→aA F w c' v)(hi:σ[i]?=some (b',cs'))(hk:cs'[k]?=some c):bg F w (σ.set i (b',cs'.set k c')):=by
 refine⟨?_,fun p hp=>?_,h.low⟩
 ·have e1:(σ.set i (b',cs'.set k c')).map Prod.fst=σ.map Prod.fst:=by
   rw[oM]
   refine List.ext_getElem (by simp) fun j h1 h2=>?_
   rw[I0]
   split
   ·rename_i hj;subst hj
    obtain⟨q1,q2⟩:=cf.1 hi
    rw[IZ,q2]
   ·rfl
  rw[e1];exact h.nodup
 ·rcases qD hp with hp | rfl
  ·exact h.holds p hp
  ·obtain⟨h1,c0,T,h2,h3,h4⟩:=(h.holds _ (cq hi)).L4 hk ej
   refine⟨h1,.inl ⟨c0,T,h2,by rw[cM];exact h3,fun j x hx=>?_⟩⟩
   rw[eR]at hx
   split at hx
   ·rename_i hj;subst hj
    split at hx
    ·cases hx
     exact⟨hl,hc _ (h4 k _ hk).2⟩
    ·cases hx
   ·exact h4 j x hx
abbrev jI:=AV×Hp×List Int
def yr(r:jI):Prop:=(r.1=.aj∧r.2.1=[]∧r.2.2=[])∨(∃v,r.1=.via v∧Acc 1 r.2.2.length v r.2.1 (ao r.2.2))
def jW(rs:List jI):List AV:=rs.map (·.1)
def lr(rs:List jI):Hp:=rs.flatMap (·.2.1)
def kQ(rs:List jI):List (List Int):=rs.map (·.2.2)
theorem K0:∀(A:List (List Int)) (l:List Int) (B:List AV),(cy A++.af (.int .i64) l::B)=cy (A++[l])++B
 | [],_,_=>rfl
 |a::A,l,B=>congrArg (AV.af (.int .i64) a :: ·) (K0 A l B)
theorem abV(A:List (List Int)):(cy A).length=A.length:=cd _
theorem KX{w:World}{bo:Nat}{σ:Hp}:∀(B:List jI) (A:List (List Int)) (F:Nat→Prop),(∀r∈B,yr r)→bg F w ((bo,cy A++jW B)::(lr B++σ))→∃F',bE F w F' w∧bg F' w ((bo,cy (A++kQ B))::σ)
 | [],A,F,_,h=>⟨F,⟨rfl,rfl,rfl,aU _,fun _ h=>h,fun _ _=>rfl,fun _ c _ fz h=>⟨c,fz,h,rfl⟩,aU _⟩,by
  have h:bg F w ((bo,cy A++[])::σ):=h
  rw[mL]at h
  rw[show A++kQ []=A from mL _]
  exact h⟩
 |(c,acc,l)::B,A,F,hB,h=>by
  have hB':∀r∈B,yr r:=fun r hr=>hB r (cY _ hr)
  have h:bg F w ((bo,cy A++c::jW B)::(acc++lr B++σ)):=h
  have hk:(cy A++c::jW B)[(cy A).length]?=some c:=by simp
  have rb:acc=[]→l=[]→c.leaf=true→(∀v,aA F w c v→aA F w (.af (.int .i64) []) v)→∃F',bE F w F' w∧bg F' w ((bo,cy (A++kQ ((c,acc,l)::B)))::σ):=fun h1 h2 ej h3=>by
   subst h1;subst h2
   have this:bg F w ((bo,(cy A++c::jW B).set (cy A).length (.af (.int .i64) []))::(lr B++σ)):=Tj h (c':=.af (.int .i64) []) rfl ej h3 (i:=0) rfl hk
   rw[KV]at this
   have this:bg F w ((bo,cy A++.af (.int .i64) []::jW B)::(lr B++σ)):=this
   have this:bg F w ((bo,cy (A++[[]])++jW B)::(lr B++σ)):=(K0 A [] (jW B))▸this
   obtain⟨F',q1,q2⟩:=KX B (A++[[]]) F hB' this
   rw[dM]at q2
   exact⟨F',q1,q2⟩
  have fR:∀v,aA F w .aj v→aA F w (.af (.int .i64) []) v:=fun v hv=>by
   cases hv
   exact .af (.int .i64) [] _ ⟨none,0,rfl,aU _,by unfold maxLen;omega,fun _=>rfl,fun aP=>absurd rfl aP⟩
  rcases hB _ (cm ..) with ⟨h1,h2,h3⟩ | ⟨v,h1,h2⟩
  ·have h1:c=.aj:=h1
   exact rb h2 h3 (by rw[h1];rfl) (by rw[h1];exact fR)
  ·have h1:c=.via v:=h1
   subst h1
   have h2:Acc 1 l.length v acc (ao l):=h2
   generalize hn:l.length=n at h2
   generalize hc:ao l=cs at h2
   cases h2 with
   |nil=>
    exact rb rfl (jP.1 hn) rfl (by
     intro v hv
     cases hv with
     |via _ _ _ hv=>exact fR _ hv)
   |ae b k cs hl=>
    subst hn
    subst hc
    have h5:bg F w ((bo,(cy A++.via (.ae b 0 l.length 1)::jW B).set (cy A).length (.ae b 0 l.length 1))::(b,ao l)::(lr B++σ)):=Tj h (c':=.ae b 0 l.length 1) rfl rfl (by
     intro v hv
     cases hv with
     |via _ _ _ hv=>exact hv) (i:=0) rfl hk
    rw[KV]at h5
    have h5:bg F w ((bo,cy A++.ae b 0 l.length 1::jW B)::(b,ao l)::(lr B++σ)):=h5
    obtain⟨aq,aF,hh⟩:=uD h5 (j:=1) (b:=b) (off:=0) (len:=l.length) (es:=1) (cs:=ao l) (e:=.int .i64) (l:=l) rfl (by rw[gR,← ug];exact eI (by rw[Lb];omega)) ⟨rfl,rfl,by decide⟩
    have h6:bg _ w ((bo,(cy A++.ae b 0 l.length 1::jW B).set (cy A).length (.af (.int .i64) l))::(lr B++σ)):=Cc aF hh (i:=0) (k:=(cy A).length) (b':=bo) rfl (by simp)
    rw[KV]at h6
    have h6:bg _ w ((bo,cy A++.af (.int .i64) l::jW B)::(lr B++σ)):=h6
    rw[K0]at h6
    obtain⟨F',q1,q2⟩:=KX B (A++[l]) _ hB' h6
    rw[dM]at q2
    exact⟨F',aq.trans q1,q2⟩
theorem Xb{f:FuncId}{xs:List AV}{σ0 σ:Hp}{Q:List (List Int)→Prop}(h:ACalls Tryz.prog f xs σ0 (fun r σ'=>∃bo rs,r=.ae bo 0 (rs:List jI).length 1∧σ'=(bo,jW rs)::(lr rs++σ)∧(∀r∈rs,yr r)∧Q (kQ rs))):ACalls Tryz.prog f xs σ0 (fun r σ'=>∃ls:List (List Int),r=.af (.slice (.int .i64)) ls∧σ'=σ∧Q ls):=
 ⟨h.1,fun F w vs bU aF=>(h.2 F w vs bU aF).mono fun _ w' ⟨r,v,σ',F',h1,h2,h3,h4,h5⟩=>by
  obtain⟨bo,rs,rfl,rfl,q1,q2⟩:=h5
  obtain⟨F2,k1,k2⟩:=KX rs [] F' q1 h3
  have hl:(kQ rs).length=rs.length:=cd _
  have k2:bg F2 w' ((bo,cy (kQ rs))::σ):=k2
  obtain⟨m1,m2,m3⟩:=uD k2 (j:=0) (b:=bo) (off:=0) (len:=rs.length) (es:=1) (cs:=cy (kQ rs)) (e:=.slice (.int .i64)) (l:=kQ rs) rfl (by rw[gR,← wh];exact eI (by rw[abV,hl];omega)) ⟨hl,rfl,by decide⟩
  exact⟨.af (.slice (.int .i64)) (kQ rs),v,σ,_,h1,(h2.trans k1).trans m1,m2,m3 v (h4.mono k1),kQ rs,rfl,rfl,q2⟩⟩
theorem Yn(rs:List jI):(jW rs).length=rs.length:=cd _
theorem Z2(A:List jI)(r:jI)(B:List jI){z:Int}(hz:z=A.length):(jW (A++r::B))[0+z.toNat*1]?=some r.1:=by
 subst hz
 rw[bM,eH,eF]
 unfold jW
 rw[fo]
 simp
theorem Ym(A:List jI)(r r2:jI)(B:List jI){z:Int}(hz:z=A.length):(jW (A++r::B)).set (0+z.toNat*1) r2.1=jW (A++r2::B):=by
 subst hz
 rw[bM,eH,eF]
 unfold jW
 simp
theorem Z6(n:Nat):cE [.aj] n=jW (List.replicate n (.aj,[],[])):=by
 induction n with
 |zero=>rfl
 |succ n ih=>show AV.aj::cE [.aj] n=_;rw[ih];rfl
theorem Yp(n:Nat):lr (List.replicate n (.aj,[],[]))=[]:=by
 induction n with
 |zero=>rfl
 |succ n ih=>exact ih
theorem J0(A:List jI)(r:jI)(B:List jI)(σ:Hp):lr (A++r::B)++σ=lr A++(r.2.1++(lr B++σ)):=by
 unfold lr
 simp
def ck(s:Sy)(k:Int):Int:=if eK s=0 then (if 1≤k∧k≤64 then 0 else 1) else eK s
theorem afs{s:Sy}{k:Int}(h:¬eK s=0):eK s=ck s k:=(ah h).symm
theorem afr{s:Sy}{k:Int}(h:eK s=0)(hk:¬(1≤k∧k≤64)):1=ck s k:=by unfold ck;rw[ai h,ah hk]
theorem afq{s:Sy}{k:Int}(h:eK s=0)(hk:1≤k∧k≤64):0=ck s k:=by unfold ck;rw[ai h,ai hk]
def qm(e n:Int):Int:=if e=0 then n else 0
def AE(s:Sy)(k:Int):List AV:=[.int .i64 (qm (ck s k) s.what),.int .i64 (qm (ck s k) (dS s.what s.w)),.int .i64 (qm (ck s k) s.n),.int .i64 (qm (ck s k) k)]
theorem aah{s:Sy}{k:Int}(h:¬eK s=0):AV.tup [.agg [.int .i64 0,.int .i64 0,.int .i64 0,.int .i64 0],.int .i64 (eK s)]=.tup [.agg (AE s k),.int .i64 (ck s k)]:=by unfold AE qm;rw[← afs h];simp only[ah h]
theorem RK{s:Sy}{k:Int}(h:eK s=0)(hk:¬(1≤k∧k≤64)):AV.tup [.agg [.int .i64 0,.int .i64 0,.int .i64 0,.int .i64 0],.int .i64 1]=.tup [.agg (AE s k),.int .i64 (ck s k)]:=by unfold AE qm;rw[← afr h hk];rfl
theorem acb{s:Sy}{k:Int}(h:eK s=0)(hk:1≤k∧k≤64):AV.tup [.agg [.int .i64 s.what,.int .i64 (dS s.what s.w),.int .i64 s.n,.int .i64 k],.int .i64 0]=.tup [.agg (AE s k),.int .i64 (ck s k)]:=by unfold AE qm;rw[← afq h hk];rfl
end Go.Proofs.YtnikdflhefijbaaGreat
