import Derived.Test.YtnpidbjdilnhlaaGreatBn18
import Derived.Test.YtnpidbjdilnhlaaGreatBn20
import Derived.Test.YtnpidbjdilnhlaaGreatBn22
import Derived.Test.YtnpidbjdilnhlaaGreatBn11
namespace Go.Proofs.YtnpidbjdilnhlaaGreat
open Go.RowKit
theorem Hl{α:Type}(fr σ:List α)(x y:α):(fr++(x::σ)).set fr.length y=fr++(y::σ):=by
 rw[List.set_append_right _ _ (Nat.le_refl _),Nat.sub_self];rfl
set_option maxRecDepth 100000
theorem XA(l:List (Sh.T ke))(σ:Hp)(hl:l.length≤1000000):ACalls Tryz.prog 188 [.ah ke l] σ (fun x σ'=>∃acc,Acc 2 l.length x acc (l.flatMap (Sh.cells ke))∧σ'=acc++σ):=by
 refine ze (fun h=>⟨?_,?_⟩) (fun h =>?_)
 ·subst h
  refine okF Tryz.func188 (by kernel_rfl) ?_
  exact .done ⟨[],.nil,rfl⟩
 ·subst h
  refine okF Tryz.func188 (by kernel_rfl) ?_
  intro b
  refine AppendAt.more 0 b 0 0 [] _ rfl rfl (Nat.le_of_ble_eq_true rfl) .ft (by decide) (by decide) (by decide) (fun b' =>?_)
  exact .done ⟨[(b',[])],.ae b' 0 [] rfl,rfl⟩
 ·refine okF Tryz.func188 (by kernel_rfl) ?_
  refine ag.mk (List.length_pos_iff.2 h) ?_
  intro b
  refine AppendAt.more 0 b 0 l.length [] _ rfl rfl (Nat.le_of_ble_eq_true rfl) (.ah ke l rfl) (by omega) (by decide) (by decide) (fun b' =>?_)
  refine .done ⟨[(b',l.flatMap (Sh.cells ke))],?_,rfl⟩
  rw[Nat.zero_add];exact .ae b' l.length _ (uX (f:=Sh.cells ke) (es:=2) (fun _=>rfl) l)
theorem Xz(l:List (Sh.T ke))(σ:Hp)(hl:l.length≤1000000):ACalls Tryz.prog 188 [.ah ke l] σ (az (.ah ke l) σ):=by
 refine (XA l σ hl).fin ?_
 rintro v σ' ⟨acc,bP,rfl⟩
 exact qG (s:=ke) [] bP rfl rfl (by decide) (.done ⟨rfl,rfl⟩)
theorem Xy(l:List (Sh.T (.int .i64)))(σ:Hp)(hl:l.length≤1000000):ACalls Tryz.prog 219 [.ah (.int .i64) l] σ (fun x σ'=>∃acc,Acc 1 l.length x acc (l.flatMap (Sh.cells (.int .i64)))∧σ'=acc++σ):=by
 refine ze (fun h=>⟨?_,?_⟩) (fun h =>?_)
 ·subst h
  refine okF Tryz.func219 (by kernel_rfl) ?_
  exact .done ⟨[],.nil,rfl⟩
 ·subst h
  refine okF Tryz.func219 (by kernel_rfl) ?_
  intro b
  refine AppendAt.more 0 b 0 0 [] _ rfl rfl (Nat.le_of_ble_eq_true rfl) .ft (by decide) (by decide) (by decide) (fun b' =>?_)
  exact .done ⟨[(b',[])],.ae b' 0 [] rfl,rfl⟩
 ·refine okF Tryz.func219 (by kernel_rfl) ?_
  refine ag.mk (List.length_pos_iff.2 h) ?_
  intro b
  refine AppendAt.more 0 b 0 l.length [] _ rfl rfl (Nat.le_of_ble_eq_true rfl) (.ah (.int .i64) l rfl) (by omega) (by decide) (by decide) (fun b' =>?_)
  refine .done ⟨[(b',l.flatMap (Sh.cells (.int .i64)))],?_,rfl⟩
  rw[Nat.zero_add];exact .ae b' l.length _ (uX (f:=Sh.cells (.int .i64)) (es:=1) (fun _=>rfl) l)
theorem Xx(l:List (Sh.T (.int .i64)))(σ:Hp)(hl:l.length≤1000000):ACalls Tryz.prog 219 [.ah (.int .i64) l] σ (az (.ah (.int .i64) l) σ):=by
 refine (Xy l σ hl).fin ?_
 rintro v σ' ⟨acc,bP,rfl⟩
 exact qG (s:=(.int .i64)) [] bP rfl rfl (by decide) (.done ⟨rfl,rfl⟩)
theorem XC(l:List (Sh.T hY))(σ:Hp)(hl:l.length≤1000000):ACalls Tryz.prog 221 [.ah hY l] σ (fun x σ'=>∃acc,Acc 8 l.length x acc (l.flatMap (Sh.cells hY))∧σ'=acc++σ):=by
 refine ze (fun h=>⟨?_,?_⟩) (fun h =>?_)
 ·subst h
  refine okF Tryz.func221 (by kernel_rfl) ?_
  exact .done ⟨[],.nil,rfl⟩
 ·subst h
  refine okF Tryz.func221 (by kernel_rfl) ?_
  intro b
  refine AppendAt.more 0 b 0 0 [] _ rfl rfl (Nat.le_of_ble_eq_true rfl) .ft (by decide) (by decide) (by decide) (fun b' =>?_)
  exact .done ⟨[(b',[])],.ae b' 0 [] rfl,rfl⟩
 ·refine okF Tryz.func221 (by kernel_rfl) ?_
  refine ag.mk (List.length_pos_iff.2 h) ?_
  intro b
  refine AppendAt.more 0 b 0 l.length [] _ rfl rfl (Nat.le_of_ble_eq_true rfl) (.ah hY l rfl) (by omega) (by decide) (by decide) (fun b' =>?_)
  refine .done ⟨[(b',l.flatMap (Sh.cells hY))],?_,rfl⟩
  rw[Nat.zero_add];exact .ae b' l.length _ (uX (f:=Sh.cells hY) (es:=8) (fun _=>rfl) l)
theorem XB(l:List (Sh.T hY))(σ:Hp)(hl:l.length≤1000000):ACalls Tryz.prog 221 [.ah hY l] σ (az (.ah hY l) σ):=by
 refine (XC l σ hl).fin ?_
 rintro v σ' ⟨acc,bP,rfl⟩
 exact qG (s:=hY) [] bP rfl rfl (by decide) (.done ⟨rfl,rfl⟩)
theorem Y5(l:List Int)(σ:Hp)(hl:l.length≤1000000):ACalls Tryz.prog 220 [.ah (.int .u64) l] σ (fun x σ'=>∃b,x=.ae b 0 l.length 1∧σ'=(b,aU l)::σ):=by
 refine okF Tryz.func220 (by kernel_rfl) ?_
 have hn:(l.length:Int)≤1048576:=by omega
 refine ag.mk ⟨Int.natCast_nonneg _,Int.le_refl _,hn,by decide⟩ ?_
 intro aC
 have hr:(bU [.int .u64 0] ((l.length:Int)).toNat).length=l.length:=by rw[Int.toNat_natCast,ta];exact Nat.mul_one _
 refine Ih.ae 0 aC 0 l.length l.length _ (l.flatMap (Sh.cells (.int .u64))) rfl rfl (by show 0+l.length*1≤(bU [.int .u64 0] ((l.length:Int)).toNat).length;rw[hr];omega) (.ah (.int .u64) l rfl) (Nat.le_refl _) ?_
 have he:eF (bU [.int .u64 0] ((l.length:Int)).toNat) 0 (l.flatMap (Sh.cells (.int .u64)))=aU l:=by
  rw[← oL]
  have h:=FY (aU l) [] (bU [.int .u64 0] ((l.length:Int)).toNat) [] (by rw[hr];simp[aU])
  simpa using h
 exact .done ⟨aC,rfl,congrArg (fun cs=>(aC,cs)::σ) he⟩
theorem HL(l:List Int)(σ:Hp)(hl:l.length≤1000000):ACalls Tryz.prog 220 [.ah (.int .u64) l] σ (az (.ah (.int .u64) l) σ):=by
 refine (Y5 l σ hl).fin ?_
 rintro v σ' ⟨b,rfl,rfl⟩
 exact .cb 0 b 0 l.length 1 _ (.int .u64) l rfl (by rw[List.drop_zero,← oL];exact List.take_of_length_le (by simp[aU])) ⟨rfl,rfl,by decide⟩ .here (.done ⟨rfl,rfl⟩)
def vL:Option kp→List AV
 | none=>[.af,.af,.af]
 | some t=>[.ah (.int .u64) t.1,.ah (.int .u64) t.2.1,.ah hY t.2.2.1]
theorem TV(t:Option kp):(vL t).length=3:=by cases t <;> rfl
def ri(T:List kp)(k:Nat):List (Option kp):=(T.take k).map some++List.replicate (T.length-k) none
theorem U0(T:List kp):(ri T 0).flatMap vL=bU [.af,.af,.af] T.length:=by
 show (List.replicate (T.length-0) none).flatMap vL=_
 rw[Nat.sub_zero]
 generalize T.length=n
 induction n with
 | zero=>rfl
 | succ n ih=>rw[List.replicate_succ,List.flatMap_cons,ih];rfl
theorem WX{T:List kp}{k:Nat}(h:k≤T.length):(ri T k).length=T.length:=by unfold ri;simp;omega
theorem WW{T:List kp}{k:Nat}(h:k<T.length):(ri T k).set k (some T[k])=ri T (k+1):=by
 unfold ri
 rw[List.set_append_right _ _ (by simp;omega)]
 have e:T.length-k=(T.length-(k+1))+1:=by omega
 have e2:k-((T.take k).map some).length=0:=by simp;omega
 rw[e2,e,List.replicate_succ,List.take_succ_eq_append_getElem h]
 simp only[List.map_append,List.map_cons,List.map_nil,List.append_assoc,List.cons_append,List.nil_append,List.set_cons_zero]
theorem WY(T:List kp):(ri T T.length).flatMap vL=T.flatMap (Sh.cells j7):=by
 unfold ri
 rw[Nat.sub_self,List.take_length,List.replicate_zero,List.append_nil,List.flatMap_map]
 rfl
theorem Vt(s:Sy)(σ:Hp)(hf:Fit s):ACalls Tryz.prog 171 [.agg (bD s)] σ (az (.agg (bD s)) σ):=by
 refine okF Tryz.func171 (by kernel_rfl) ?_
 intro aC
 intro dI
 refine .sched [2,5,8] (upto [2,5,8] 15 0) (by kernel_rfl) ?_
 refine aa 1 ?_
 refine aD [] (Xz s.aR _ (Nat.le_trans hf.um (by decide))) ?_
 refine aa 1 ?_
 refine aD [] (Xx s.entry _ (Nat.le_trans hf.AY (by decide))) ?_
 refine aa 1 ?_
 refine aD [] (HL s.init _ (Nat.le_trans hf.Ew (by decide))) ?_
 refine ai 1 ?_
 refine ai 1 ?_
 refine ai 1 ?_
 refine aa 1 ?_
 have hT:=hf.IN
 have BW:(s.T.length:Int)≤1048576:=by omega
 refine ag.mk ⟨Int.natCast_nonneg _,Int.le_refl _,BW,by decide⟩ ?_
 intro bt
 have Fw:(bt,bU [AV.af,AV.af,AV.af] ((s.T.length:Int)).toNat)=(bt,(ri s.T 0).flatMap vL):=by rw[U0,Int.toNat_natCast]
 refine aa 2 ?_
 refine bO (S:=Nat) (fun k=>[(1,.ptr aC 0),(2,.ptr dI 0),(3,.ae bt 0 s.T.length 3),(23,.ah j7 s.T),(24,.int .i64 s.T.length),(25,.int .i64 k)]) (fun k=>(bt,(ri s.T k).flatMap vL)::(dI,[.int .i64 0,.int .i64 0,.int .i64 0,.af,.af,.af,.af])::(aC,bD s)::σ) (fun k=>k≤s.T.length) (fun k=>s.T.length-k) 0 ⟨Nat.zero_le _,⟨rfl,rfl,rfl,rfl,rfl,rfl,trivial⟩,congrArg (· :: (dI,([.int .i64 0,.int .i64 0,.int .i64 0,.af,.af,.af,.af]:List AV))::(aC,bD s)::σ) Fw⟩ ?_
 rintro k g aZ
 have hk:k≤s.T.length:=aZ
 clear aZ
 refine ao (fun ab =>?_) (fun au =>?_)
 ·have ab:k<s.T.length:=by have ab:(k:Int)<s.T.length:=ab;omega
  have jA:=WW ab
  have qh:=hf.ts _ (List.getElem_mem ab)
  obtain⟨t,ht⟩:∃t:kp,s.T[k]=t:=⟨_,rfl⟩
  rw[ht]at jA qh
  obtain⟨t1,t2,t3,tu⟩:=t
  obtain⟨_,_,l1,l2,l3⟩:=qh
  have l1:t1.length≤10000:=l1
  have l2:t2.length≤10000:=l2
  have l3:t3.length≤100000:=l3
  refine ag.mk rfl (bH.mk (t1,t2,t3,tu) (by omega) ((get_some ab).trans (congrArg some ht)) ?_)
  intro aC
  refine ai 0 ?_
  refine .sched [4,7,10] (upto [4,7,10] 14 0) (by kernel_rfl) ?_
  refine aa 0 ?_
  refine aD [] (HL t1 _ (Nat.le_trans l1 (by decide))) ?_
  refine aa 0 ?_
  refine aD [] (HL t2 _ (Nat.le_trans l2 (by decide))) ?_
  refine aa 0 ?_
  refine aD [] (XB t3 _ (Nat.le_trans l3 (by decide))) ?_
  refine ag.mk ⟨rfl,by omega,by omega⟩ ?_
  refine cd 1 rfl ((L5 rfl TV (by rw[WX hk];exact ab) (some (t1,t2,t3,tu)) rfl).trans (congrArg (fun l=>some (List.flatMap vL l)) jA)) ?_
  exact bg (k+1) (by show s.T.length-(k+1)<s.T.length-k;omega) ab ⟨rfl,rfl,rfl,rfl,rfl,a8 (by omega),trivial⟩ (.drop 0 1 (.refl _))
 ·have au:k=s.T.length:=by have au:¬(k:Int)<s.T.length:=au;omega
  subst au
  rw[WY]
  refine ai 2 ?_
  refine aa 2 ?_
  refine ai 1 ?_
  refine aa 1 ?_
  refine .cb 0 bt 0 s.T.length 3 _ j7 s.T rfl ?_ ⟨rfl,rfl,by decide⟩ (HF (dK (.refl _) (dK (.refl _) (dK (.refl _) (dK (.refl _) (dK (.refl _) (dK (.refl _) (dK .here z7))))))) rfl) (.drop 0 2 (.done ⟨rfl,rfl⟩))
  rw[List.drop_zero]
  exact List.take_of_length_le (Nat.le_of_eq (uX (f:=Sh.cells j7) (es:=3) (fun _=>rfl) s.T))
set_option maxRecDepth 100000
theorem OV{F:Nat→Prop}{w:World}{σ:Hp}(h:aM F w σ){i b' k:Nat}{cs':List AV}{c c':AV}(hl:c'.leaf=true)(dw:c.leaf=true)(hc:∀v,ar F w c v→ar F w c' v)(hi:σ[i]?=some (b',cs'))(hk:cs'[k]?=some c):aM F w (σ.set i (b',cs'.set k c')):=by
 refine⟨?_,fun p hp =>?_,h.low⟩
 ·have e1:(σ.set i (b',cs'.set k c')).map Prod.fst=σ.map Prod.fst:=by
   rw[List.map_set]
   refine List.ext_getElem (by simp) fun j h1 h2 =>?_
   rw[List.getElem_set]
   split
   ·rename_i hj;subst hj
    obtain⟨q1,q2⟩:=List.getElem?_eq_some_iff.1 hi
    rw[List.getElem_map,q2]
   ·rfl
  rw[e1];exact h.nodup
 ·rcases List.mem_or_eq_of_mem_set hp with hp | rfl
  ·exact h.holds p hp
  ·obtain⟨h1,c0,T,h2,h3,h4⟩:=(h.holds _ (List.mem_of_getElem? hi)).It hk dw
   refine⟨h1,.inl ⟨c0,T,h2,by rw[List.length_set];exact h3,fun j x hx =>?_⟩⟩
   rw[List.getElem?_set]at hx
   split at hx
   ·rename_i hj;subst hj
    split at hx
    ·cases hx
     exact⟨hl,hc _ (h4 k _ hk).2⟩
    ·cases hx
   ·exact h4 j x hx
abbrev ig:=AV×Hp×List Int
def vP(r:ig):Prop:=(r.1=.af∧r.2.1=[]∧r.2.2=[])∨(∃v,r.1=.via v∧Acc 1 r.2.2.length v r.2.1 (aj r.2.2))
def iy(rs:List ig):List AV:=rs.map (·.1)
def jN(rs:List ig):Hp:=rs.flatMap (·.2.1)
def jx(rs:List ig):List (List Int):=rs.map (·.2.2)
theorem Hq:∀(A:List (List Int)) (l:List Int) (B:List AV),(bK A++.ah (.int .i64) l::B)=bK (A++[l])++B
 | [],_,_=>rfl
 | a::A,l,B=>congrArg (AV.ah (.int .i64) a :: ·) (Hq A l B)
theorem Yh(A:List (List Int)):(bK A).length=A.length:=List.length_map _
theorem Hm{w:World}{bo:Nat}{σ:Hp}:∀(B:List ig) (A:List (List Int)) (F:Nat→Prop),(∀r∈B,vP r)→aM F w ((bo,bK A++iy B)::(jN B++σ))→∃F',aQ F w F' w∧aM F' w ((bo,bK (A++jx B))::σ)
 | [],A,F,_,h=>⟨F,⟨rfl,rfl,rfl,Nat.le_refl _,fun _ h=>h,fun _ _=>rfl,fun _ c _ fz h=>⟨c,fz,h,rfl⟩,Nat.le_refl _⟩,by
  have h:aM F w ((bo,bK A++[])::σ):=h
  rw[List.append_nil]at h
  rw[show A++jx []=A from List.append_nil _]
  exact h⟩
 | (c,acc,l)::B,A,F,hB,h=>by
  have hB':∀r∈B,vP r:=fun r hr=>hB r (List.mem_cons_of_mem _ hr)
  have h:aM F w ((bo,bK A++c::iy B)::(acc++jN B++σ)):=h
  have hk:(bK A++c::iy B)[(bK A).length]?=some c:=by simp
  have o9:acc=[]→l=[]→c.leaf=true→(∀v,ar F w c v→ar F w (.ah (.int .i64) []) v)→∃F',aQ F w F' w∧aM F' w ((bo,bK (A++jx ((c,acc,l)::B)))::σ):=fun h1 h2 dw h3=>by
   subst h1;subst h2
   have this:aM F w ((bo,(bK A++c::iy B).set (bK A).length (.ah (.int .i64) []))::(jN B++σ)):=OV h (c':=.ah (.int .i64) []) rfl dw h3 (i:=0) rfl hk
   rw[Hl]at this
   have this:aM F w ((bo,bK A++.ah (.int .i64) []::iy B)::(jN B++σ)):=this
   have this:aM F w ((bo,bK (A++[[]])++iy B)::(jN B++σ)):=(Hq A [] (iy B))▸this
   obtain⟨F',q1,q2⟩:=Hm B (A++[[]]) F hB' this
   rw[List.append_assoc]at q2
   exact⟨F',q1,q2⟩
  have eT:∀v,ar F w .af v→ar F w (.ah (.int .i64) []) v:=fun v hv=>by
   cases hv
   exact .ah (.int .i64) [] _ ⟨none,0,rfl,Nat.le_refl _,by unfold maxLen;omega,fun _=>rfl,fun aI=>absurd rfl aI⟩
  rcases hB _ (List.mem_cons_self ..) with ⟨h1,h2,h3⟩ | ⟨v,h1,h2⟩
  ·have h1:c=.af:=h1
   exact o9 h2 h3 (by rw[h1];rfl) (by rw[h1];exact eT)
  ·have h1:c=.via v:=h1
   subst h1
   have h2:Acc 1 l.length v acc (aj l):=h2
   generalize hn:l.length=n at h2
   generalize hc:aj l=cs at h2
   cases h2 with
   | nil =>
    exact o9 rfl (List.length_eq_zero_iff.1 hn) rfl (by
     intro v hv
     cases hv with
     | via _ _ _ hv=>exact eT _ hv)
   | ae b k cs hl =>
    subst hn
    subst hc
    have h5:aM F w ((bo,(bK A++.via (.ae b 0 l.length 1)::iy B).set (bK A).length (.ae b 0 l.length 1))::(b,aj l)::(jN B++σ)):=OV h (c':=.ae b 0 l.length 1) rfl rfl (by
     intro v hv
     cases hv with
     | via _ _ _ hv=>exact hv) (i:=0) rfl hk
    rw[Hl]at h5
    have h5:aM F w ((bo,bK A++.ae b 0 l.length 1::iy B)::(b,aj l)::(jN B++σ)):=h5
    obtain⟨ak,ay,hh⟩:=tS h5 (j:=1) (b:=b) (off:=0) (len:=l.length) (es:=1) (cs:=aj l) (e:=.int .i64) (l:=l) rfl (by rw[List.drop_zero,← tD];exact List.take_of_length_le (by rw[HB];omega)) ⟨rfl,rfl,by decide⟩
    have h6:aM _ w ((bo,(bK A++.ae b 0 l.length 1::iy B).set (bK A).length (.ah (.int .i64) l))::(jN B++σ)):=C2 ay hh (i:=0) (k:=(bK A).length) (b':=bo) rfl (by simp)
    rw[Hl]at h6
    have h6:aM _ w ((bo,bK A++.ah (.int .i64) l::iy B)::(jN B++σ)):=h6
    rw[Hq]at h6
    obtain⟨F',q1,q2⟩:=Hm B (A++[l]) _ hB' h6
    rw[List.append_assoc]at q2
    exact⟨F',ak.trans q1,q2⟩
theorem SC{f:FuncId}{xs:List AV}{σ0 σ:Hp}{Q:List (List Int)→Prop}(h:ACalls Tryz.prog f xs σ0 (fun r σ'=>∃bo rs,r=.ae bo 0 (rs:List ig).length 1∧σ'=(bo,iy rs)::(jN rs++σ)∧(∀r∈rs,vP r)∧Q (jx rs))):ACalls Tryz.prog f xs σ0 (fun r σ'=>∃ls:List (List Int),r=.ah (.slice (.int .i64)) ls∧σ'=σ∧Q ls):=
 ⟨h.1,fun F w vs bz ay=>(h.2 F w vs bz ay).mono fun _ w' ⟨r,v,σ',F',h1,h2,h3,h4,h5⟩=>by
  obtain⟨bo,rs,rfl,rfl,q1,q2⟩:=h5
  obtain⟨F2,k1,k2⟩:=Hm rs [] F' q1 h3
  have hl:(jx rs).length=rs.length:=List.length_map _
  have k2:aM F2 w' ((bo,bK (jx rs))::σ):=k2
  obtain⟨m1,m2,m3⟩:=tS k2 (j:=0) (b:=bo) (off:=0) (len:=rs.length) (es:=1) (cs:=bK (jx rs)) (e:=.slice (.int .i64)) (l:=jx rs) rfl (by rw[List.drop_zero,← tz];exact List.take_of_length_le (by rw[Yh,hl];omega)) ⟨hl,rfl,by decide⟩
  exact⟨.ah (.slice (.int .i64)) (jx rs),v,σ,_,h1,(h2.trans k1).trans m1,m2,m3 v (h4.mono k1),jx rs,rfl,rfl,q2⟩⟩
theorem Uf(rs:List ig):(iy rs).length=rs.length:=List.length_map _
theorem VY(A:List ig)(r:ig)(B:List ig){z:Int}(hz:z=A.length):(iy (A++r::B))[0+z.toNat*1]?=some r.1:=by
 subst hz
 rw[Int.toNat_natCast,Nat.mul_one,Nat.zero_add]
 unfold iy
 rw[List.getElem?_map]
 simp
theorem Ue(A:List ig)(r r2:ig)(B:List ig){z:Int}(hz:z=A.length):(iy (A++r::B)).set (0+z.toNat*1) r2.1=iy (A++r2::B):=by
 subst hz
 rw[Int.toNat_natCast,Nat.mul_one,Nat.zero_add]
 unfold iy
 simp
theorem V3(n:Nat):bU [.af] n=iy (List.replicate n (.af,[],[])):=by
 induction n with
 | zero=>rfl
 | succ n ih=>show AV.af::bU [.af] n=_;rw[ih];rfl
theorem Ug(n:Nat):jN (List.replicate n (.af,[],[]))=[]:=by
 induction n with
 | zero=>rfl
 | succ n ih=>exact ih
theorem Gt(A:List ig)(r:ig)(B:List ig)(σ:Hp):jN (A++r::B)++σ=jN A++(r.2.1++(jN B++σ)):=by
 unfold jN
 simp
set_option maxRecDepth 100000
def vG(s:Sy):Int:=if cf s=0 then IntKind.i64.wrap (s.n*cP s.what s.w) else 0
def qO(s:Sy):Int:=if cf s=0 then IntKind.i64.wrap (s.n+IntKind.i64.wrap (((iw s.aR).length:Int)*cP s.what s.w)) else 0
theorem YG{s:Sy}(h:cf s=0):IntKind.i64.wrap (s.n*cP s.what s.w)=vG s:=(if_pos h).symm
theorem YF{s:Sy}(h:¬cf s=0):0=vG s:=(if_neg h).symm
theorem YS{s:Sy}(h:cf s=0):IntKind.i64.wrap (s.n+IntKind.i64.wrap (((iw s.aR).length:Int)*cP s.what s.w))=qO s:=(if_pos h).symm
theorem YR{s:Sy}(h:¬cf s=0):0=qO s:=(if_neg h).symm
theorem TD(s:Sy)(σ:Hp)(hf:Fit s):ACalls Tryz.prog 91 [.agg (bD s)] σ (az (.int .i64 (vG s)) σ):=by
 refine okF Tryz.func91 (by kernel_rfl) ?_
 intro aC
 refine aa 0 ?_
 refine ax [] (zr s _ hf) ?_
 refine dx (fun c2 =>?_) (fun c2 =>?_)
 ·have c2:¬(cf s=0):=by simpa using c2
  exact .drop 0 1 (.done ⟨aN (YF (by assumption)),rfl⟩)
 ·have c2:cf s=0:=by simpa using c2
  refine .quiet (by kernel_rfl) ?_
  refine aa 0 ?_
  refine aa 0 ?_
  refine aa 0 ?_
  refine aD [] (C5 _ _ _) ?_
  exact .drop 0 1 (.done ⟨aN (YG (by assumption)),rfl⟩)
theorem TE(s:Sy)(σ:Hp)(hf:Fit s):ACalls Tryz.prog 90 [.agg (bD s)] σ (az (.int .i64 (qO s)) σ):=by
 refine okF Tryz.func90 (by kernel_rfl) ?_
 intro aC
 refine aa 0 ?_
 refine ax [] (zr s _ hf) ?_
 refine dx (fun c2 =>?_) (fun c2 =>?_)
 ·have c2:¬(cf s=0):=by simpa using c2
  exact .drop 0 1 (.done ⟨aN (YR (by assumption)),rfl⟩)
 ·have c2:cf s=0:=by simpa using c2
  refine .quiet (by kernel_rfl) ?_
  refine aa 0 ?_
  refine aa 0 ?_
  refine aD [] (Lc s.aR _ (by have:=hf.um;omega)) ?_
  refine aa 0 ?_
  refine aa 0 ?_
  refine aD [] (C5 _ _ _) ?_
  exact .drop 0 1 (.done ⟨aN (YS (by assumption)),rfl⟩)
theorem ZB(s:Sy)(σ:Hp)(hf:Fit s):ACalls Tryz.prog 39 [.agg (bD s)] σ (az (.int .i64 (vG s)) σ):=by
 refine okF Tryz.func39 (by kernel_rfl) ?_
 intro aC
 refine aa 0 ?_
 refine ax [] (TD s _ hf) ?_
 exact .drop 0 1 (.done ⟨rfl,rfl⟩)
theorem O6(s:Sy)(σ:Hp)(hf:Fit s):ACalls Tryz.prog 38 [.agg (bD s)] σ (az (.int .i64 (qO s)) σ):=by
 refine okF Tryz.func38 (by kernel_rfl) ?_
 intro aC
 refine aa 0 ?_
 refine ax [] (TE s _ hf) ?_
 exact .drop 0 1 (.done ⟨rfl,rfl⟩)
def yb(l:List Int):Int:=l.foldl (fun a x=>IntKind.i64.wrap (a+x)) 0
theorem abt(o:Nat)(x n:Int)(σ:Hp):ACalls Tryz.prog 230 [.int .i64 n,.ptr o 0] ((o,[.int .i64 x])::σ) (az (.tup []) ((o,[.int .i64 (IntKind.i64.wrap (x+n))])::σ)):=by
 refine okF Tryz.func230 (by kernel_rfl) ?_
 refine aa 0 ?_
 refine ai 0 ?_
 exact .done ⟨rfl,rfl⟩
theorem TW{l:List Int}{k:Nat}(h:k<l.length):yb (l.take (k+1))=IntKind.i64.wrap (yb (l.take k)+l[k]):=by
 unfold yb;rw[List.take_succ_eq_append_getElem h,List.foldl_append];rfl
theorem WD{l:List Int}{k:Nat}(h:k<l.length):cY ⟨.int .i64,1,8,[.int .i64 0]⟩ (aj l) (0+((k:Int)).toNat*1)=some (.int .i64 l[k]):=by
 show (aj l)[_]?=_
 unfold aj
 rw[Int.toNat_natCast,Nat.mul_one,Nat.zero_add,List.getElem?_map,List.getElem?_eq_getElem h];rfl
theorem acE(b:Nat)(l:List Int)(σ:Hp)(hl:l.length≤1000):ACalls Tryz.prog 187 [.ae b 0 l.length 1] ((b,aj l)::σ) (az (.int .i64 (yb l)) ((b,aj l)::σ)):=by
 refine okF Tryz.func187 (by kernel_rfl) ?_
 intro aC
 refine ai 0 ?_
 refine bO (S:=Nat) (fun k=>[(3,.ptr aC 0),(4,.fn (.func 230) [] [.ptr aC 0]),(8,.ae b 0 l.length 1),(9,.int .i64 l.length),(10,.int .i64 k)]) (fun k=>(aC,[.int .i64 (yb (l.take k))])::(b,aj l)::σ) (fun k=>k≤l.length) (fun k=>l.length-k) 0 ⟨Nat.zero_le _,⟨rfl,rfl,rfl,rfl,rfl,trivial⟩,rfl⟩ ?_
 rintro k g hk
 have hk:k≤l.length:=hk
 refine ao (fun ab =>?_) (fun au =>?_)
 ·have ab:k<l.length:=by have ab:(k:Int)<l.length:=ab;omega
  refine ag.mk ⟨rfl,(show (0:Int)≤(k:Int) by omega),(show (k:Int)<(l.length:Int) by omega)⟩ ?_
  refine dJ.mk 1 _ (.int .i64 l[k]) rfl (WD ab) ?_
  refine ax [] (abt aC _ _ _) ?_
  refine bg (k+1) (by show l.length-(k+1)<l.length-k;omega) (show k+1≤l.length by omega) ⟨rfl,rfl,rfl,rfl,a8 (by omega),trivial⟩ (aF ?_)
  rw[TW ab]
 ·have au:k=l.length:=by have au:¬(k:Int)<l.length:=au;omega
  subst au
  rw[List.take_length]
  refine aa 0 ?_
  exact .drop 0 1 (.done ⟨rfl,rfl⟩)
def wM(s:Sy):Int:=if eE s.what s.w<1 then 1 else eE s.what s.w
def w1(s:Sy):Int:=IntKind.i64.wrap (qO s*IntKind.i64.wrap (wM s+2))
def w2(s:Sy)(k:Int):Int:=IntKind.i64.wrap (6*IntKind.i64.wrap (IntKind.i64.wrap (2*qO s)+k))
def w3(s:Sy):Int:=IntKind.i64.wrap (IntKind.i64.wrap (IntKind.i64.wrap (1+cP s.what s.w)*((iw s.aR).length:Int))*wM s)
def w4(s:Sy)(k:Int):Int:=IntKind.i64.wrap (IntKind.i64.wrap (s.n*cP s.what s.w)*IntKind.i64.wrap (IntKind.i64.wrap (2*k)+5))
def Ii(s:Sy)(k:Int):Int:=yb [w1 s,w2 s k,w3 s,w4 s k]
def bF(s:Sy)(k:Int):Int:=if cf s=0 then (if 1≤k∧k≤64 then 0 else 1) else cf s
theorem QJ{s:Sy}{k:Int}(h:¬cf s=0):cf s=bF s k:=(if_neg h).symm
theorem QI{s:Sy}{k:Int}(h:cf s=0)(hk:¬(1≤k∧k≤64)):1=bF s k:=by unfold bF;rw[if_pos h,if_neg hk]
theorem QH{s:Sy}{k:Int}(h:cf s=0)(hk:1≤k∧k≤64):0=bF s k:=by unfold bF;rw[if_pos h,if_pos hk]
def jF(e n:Int):Int:=if e=0 then n else 0
theorem Z2{s:Sy}{k n:Int}(h:¬cf s=0):AV.tup [.int .i64 0,.int .i64 (cf s)]=.tup [.int .i64 (jF (bF s k) n),.int .i64 (bF s k)]:=by rw[← QJ h,jF,if_neg h]
theorem Pr{s:Sy}{k n:Int}(h:cf s=0)(hk:¬(1≤k∧k≤64)):AV.tup [.int .i64 0,.int .i64 1]=.tup [.int .i64 (jF (bF s k) n),.int .i64 (bF s k)]:=by rw[← QI h hk];rfl
theorem aaS{s:Sy}{k n:Int}(h:cf s=0)(hk:1≤k∧k≤64):AV.tup [.int .i64 n,.int .i64 0]=.tup [.int .i64 (jF (bF s k) n),.int .i64 (bF s k)]:=by rw[← QH h hk];rfl
theorem aaI(s:Sy)(k:Int)(σ:Hp)(hf:Fit s):ACalls Tryz.prog 142 [.agg (bD s),.int .i64 k] σ (az (.tup [.int .i64 (jF (bF s k) (Ii s k)),.int .i64 (bF s k)]) σ):=by
 refine okF Tryz.func142 (by kernel_rfl) ?_
 intro aC
 refine aa 0 ?_
 refine ax [] (zr s _ hf) ?_
 refine dx (fun c2 =>?_) (fun c2 =>?_)
 ·have c2:¬(cf s=0):=by simpa using c2
  exact .drop 0 1 (.done ⟨Z2 (by assumption),rfl⟩)
 ·have c2:cf s=0:=by simpa using c2
  refine ao (fun c3 =>?_) (fun c3 =>?_)
  ·have c3:k<1:=c3
   exact .drop 0 1 (.done ⟨Pr (by assumption) (by omega),rfl⟩)
  ·have c3:¬(k<1):=c3
   refine ao (fun c4 =>?_) (fun c4 =>?_)
   ·have c4:64<k:=c4
    exact .drop 0 1 (.done ⟨Pr (by assumption) (by omega),rfl⟩)
   ·have c4:¬(64<k):=c4
    refine .quiet (by kernel_rfl) ?_
    refine aa 0 ?_
    refine aa 0 ?_
    refine aD [] (C5 _ _ _) ?_
    refine aa 0 ?_
    refine aa 0 ?_
    refine aD [] (Af _ _ _) ?_
    refine aa 0 ?_
    refine aD [] (O6 s _ hf) ?_
    refine aa 0 ?_
    refine ax [] (Lc s.aR _ (by have:=hf.um;omega)) ?_
    refine aa 0 ?_
    intro uP
    refine ax [] (acE uP [w1 s,w2 s k,w3 s,w4 s k] _ (by decide:4≤1000)) ?_
    exact .drop 0 2 (.done ⟨aaS (by assumption) (by omega),rfl⟩)
def sk(s:Sy)(w k:Int):Int:=if bF s w=0 then (if 1≤k∧k≤4096 then IntKind.i64.wrap (k*IntKind.i64.wrap (Ii s w+12)) else 0) else 0
def sl(s:Sy)(w k:Int):Int:=if bF s w=0 then (if 1≤k∧k≤4096 then 0 else 1) else bF s w
theorem ZV{s:Sy}{w k:Int}(h:¬bF s w=0):AV.tup [.int .i64 0,.int .i64 (bF s w)]=.tup [.int .i64 (sk s w k),.int .i64 (sl s w k)]:=by unfold sk sl;rw[if_neg h,if_neg h]
theorem Pn{s:Sy}{w k:Int}(h:bF s w=0)(hk:¬(1≤k∧k≤4096)):AV.tup [.int .i64 0,.int .i64 1]=.tup [.int .i64 (sk s w k),.int .i64 (sl s w k)]:=by unfold sk sl;rw[if_pos h,if_pos h,if_neg hk,if_neg hk]
theorem aaR{s:Sy}{w k:Int}(h:bF s w=0)(hk:1≤k∧k≤4096):AV.tup [.int .i64 (IntKind.i64.wrap (k*IntKind.i64.wrap (jF (bF s w) (Ii s w)+12))),.int .i64 0]=.tup [.int .i64 (sk s w k),.int .i64 (sl s w k)]:=by unfold sk sl jF;rw[if_pos h,if_pos h,if_pos h,if_pos hk,if_pos hk]
theorem aau(s:Sy)(w k:Int)(σ:Hp)(hf:Fit s):ACalls Tryz.prog 89 [.agg (bD s),.int .i64 w,.int .i64 k] σ (az (.tup [.int .i64 (sk s w k),.int .i64 (sl s w k)]) σ):=by
 refine okF Tryz.func89 (by kernel_rfl) ?_
 intro aC
 refine aa 0 ?_
 refine ax [] (aaI s w _ hf) ?_
 refine dx (fun c2 =>?_) (fun c2 =>?_)
 ·have c2:¬(bF s w=0):=by simpa using c2
  exact .drop 0 1 (.done ⟨ZV (by assumption),rfl⟩)
 ·have c2:bF s w=0:=by simpa using c2
  refine ao (fun c3 =>?_) (fun c3 =>?_)
  ·have c3:k<1:=c3
   exact .drop 0 1 (.done ⟨Pn (by assumption) (by omega),rfl⟩)
  ·have c3:¬(k<1):=c3
   refine ao (fun c4 =>?_) (fun c4 =>?_)
   ·have c4:4096<k:=c4
    exact .drop 0 1 (.done ⟨Pn (by assumption) (by omega),rfl⟩)
   ·have c4:¬(4096<k):=c4
    exact .drop 0 1 (.done ⟨aaR (by assumption) (by omega),rfl⟩)
def yg(s:Sy)(k:Int):List AV:=[.int .i64 (jF (bF s k) s.what),.int .i64 (jF (bF s k) (eE s.what s.w)),.int .i64 (jF (bF s k) s.n),.int .i64 (jF (bF s k) k)]
theorem Wq{s:Sy}{k:Int}(h:¬cf s=0):AV.tup [.agg [.int .i64 0,.int .i64 0,.int .i64 0,.int .i64 0],.int .i64 (cf s)]=.tup [.agg (yg s k),.int .i64 (bF s k)]:=by unfold yg jF;rw[← QJ h];simp only[if_neg h]
theorem Nk{s:Sy}{k:Int}(h:cf s=0)(hk:¬(1≤k∧k≤64)):AV.tup [.agg [.int .i64 0,.int .i64 0,.int .i64 0,.int .i64 0],.int .i64 1]=.tup [.agg (yg s k),.int .i64 (bF s k)]:=by unfold yg jF;rw[← QI h hk];rfl
theorem Yw{s:Sy}{k:Int}(h:cf s=0)(hk:1≤k∧k≤64):AV.tup [.agg [.int .i64 s.what,.int .i64 (eE s.what s.w),.int .i64 s.n,.int .i64 k],.int .i64 0]=.tup [.agg (yg s k),.int .i64 (bF s k)]:=by unfold yg jF;rw[← QH h hk];rfl
end Go.Proofs.YtnpidbjdilnhlaaGreat
