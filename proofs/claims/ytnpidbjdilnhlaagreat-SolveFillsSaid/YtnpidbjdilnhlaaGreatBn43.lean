import Derived.Test.YtnpidbjdilnhlaaGreatBn42
namespace Go.Proofs.YtnpidbjdilnhlaaGreat
open Go.RowKit
set_option maxRecDepth 100000
set_option maxHeartbeats 4000000
theorem Uj(n:Nat)(l:List aK)(σ:Hp)(hl:l.length≤100000)(cJ:cU n l=true):ACalls Tryz.prog 152 [.int .i64 n,.af bA l] σ (fun r σ'=>∃bo dv,r=.tup [.ae bo 0 dv.length 1,.int .i64 0]∧dv.map Prod.snd=eI n l∧σ'=(bo,dG dv)::(dw dv++σ)∧∃P,kX n l P∧(eI n l).Perm P):=by
 have hn:1≤n∧n≤256:=by
  unfold cU at cJ
  simp only[Bool.and_eq_true,decide_eq_true_eq]at cJ
  omega
 have vX:∀e∈l,(0≤e.1∧e.1<(n:Int))∧0≤e.2.1∧e.2.1<(n:Int):=fun e he=>by
  unfold cU at cJ
  simp only[Bool.and_eq_true,List.all_eq_true]at cJ
  have:=cJ.2 e he
  exact⟨iu.1 this.1,iu.1 this.2⟩
 refine okF Tryz.func152 (by kernel_rfl) ?_
 refine cm [] (xo n l _ (by omega)) (fun _ =>?_) (fun c=>absurd c (by rw[cJ];decide))
 refine eK.Ev (S:=Nat×Nat×Nat×Nat) [] (.one 0 false (.one 2 false (.one 4 false (.alt 1 (.alt 3 (.alt 5 (.one 6 false (.one 7 false (.one 8 false .stop))) (.one 7 false (.one 5 false (.one 6 false (.one 8 false .stop))))) (.alt 5 (.alt 3 (.one 6 false (.one 7 false (.one 8 false .stop))) (.one 7 false (.one 3 false (.one 6 false (.one 8 false .stop))))) (.one 7 false (.alt 3 (.one 5 false (.one 6 false (.one 8 false .stop))) (.one 5 false (.one 3 false (.one 6 false (.one 8 false .stop)))))))) (.alt 3 (.alt 1 (.alt 5 (.one 6 false (.one 7 false (.one 8 false .stop))) (.one 7 false (.one 5 false (.one 6 false (.one 8 false .stop))))) (.alt 5 (.alt 1 (.one 6 false (.one 7 false (.one 8 false .stop))) (.one 7 false (.one 1 false (.one 6 false (.one 8 false .stop))))) (.one 7 false (.alt 1 (.one 5 false (.one 6 false (.one 8 false .stop))) (.one 5 false (.one 1 false (.one 6 false (.one 8 false .stop)))))))) (.alt 5 (.alt 1 (.alt 3 (.one 6 false (.one 7 false (.one 8 false .stop))) (.one 7 false (.one 3 false (.one 6 false (.one 8 false .stop))))) (.alt 3 (.alt 1 (.one 6 false (.one 7 false (.one 8 false .stop))) (.one 7 false (.one 1 false (.one 6 false (.one 8 false .stop))))) (.one 7 false (.alt 1 (.one 3 false (.one 6 false (.one 8 false .stop))) (.one 3 false (.one 1 false (.one 6 false (.one 8 false .stop)))))))) (.one 7 false (.alt 1 (.alt 3 (.one 5 false (.one 6 false (.one 8 false .stop))) (.one 5 false (.one 3 false (.one 6 false (.one 8 false .stop))))) (.alt 3 (.alt 1 (.one 5 false (.one 6 false (.one 8 false .stop))) (.one 5 false (.one 1 false (.one 6 false (.one 8 false .stop))))) (.one 5 false (.alt 1 (.one 3 false (.one 6 false (.one 8 false .stop))) (.one 3 false (.one 1 false (.one 6 false (.one 8 false .stop))))))))))))))) (fun x=>[(0,.int .i64 n),(1,.af bA l),(6,.ptr x.1 0)]) (fun x=>(x.1,[.aj,.ae x.2.1 0 n 1,.ae x.2.2.1 0 n 1,.ae x.2.2.2 0 n 1,.aj,.int .i64 0,.aj])::(x.2.1,bN [.int .i64 0] n)::(x.2.2.1,bN [.int .i64 0] n)::(x.2.2.2,bN [.bool false] n)::σ) (by kernel_rfl) ?_ ?_
 ·refine And.intro ?_ ?_
  ·refine ah.mk ⟨by omega,by omega,by omega,by decide⟩ ?_
   intro bi
   refine And.intro ?_ ?_
   ·refine ah.mk ⟨by omega,by omega,by omega,by decide⟩ ?_
    intro bl
    refine And.intro ?_ ?_
    ·refine ah.mk ⟨by omega,by omega,by omega,by decide⟩ ?_
     intro bo
     intro w
     refine ai.mk 0 _ _ rfl rfl ?_
     exact bV.mk (w,bi,bl,bo) ⟨rfl,rfl,rfl,trivial⟩ (.pull [3,3,2,1] (aF rfl))
    ·intro w
     refine ah.mk ⟨by omega,by omega,by omega,by decide⟩ ?_
     intro bo
     refine ai.mk 1 _ _ rfl rfl ?_
     exact bV.mk (w,bi,bl,bo) ⟨rfl,rfl,rfl,trivial⟩ (.pull [3,3,2,0] (aF rfl))
   ·refine And.intro ?_ ?_
    ·refine ah.mk ⟨by omega,by omega,by omega,by decide⟩ ?_
     intro bo
     refine And.intro ?_ ?_
     ·refine ah.mk ⟨by omega,by omega,by omega,by decide⟩ ?_
      intro bl
      intro w
      refine ai.mk 0 _ _ rfl rfl ?_
      exact bV.mk (w,bi,bl,bo) ⟨rfl,rfl,rfl,trivial⟩ (.pull [3,3,2,2] (aF rfl))
     ·intro w
      refine ah.mk ⟨by omega,by omega,by omega,by decide⟩ ?_
      intro bl
      refine ai.mk 1 _ _ rfl rfl ?_
      exact bV.mk (w,bi,bl,bo) ⟨rfl,rfl,rfl,trivial⟩ (.pull [3,3,1,2] (aF rfl))
    ·intro w
     refine And.intro ?_ ?_
     ·refine ah.mk ⟨by omega,by omega,by omega,by decide⟩ ?_
      intro bl
      refine ah.mk ⟨by omega,by omega,by omega,by decide⟩ ?_
      intro bo
      refine ai.mk 2 _ _ rfl rfl ?_
      exact bV.mk (w,bi,bl,bo) ⟨rfl,rfl,rfl,trivial⟩ (.pull [3,3,1,0] (aF rfl))
     ·refine ah.mk ⟨by omega,by omega,by omega,by decide⟩ ?_
      intro bo
      refine ah.mk ⟨by omega,by omega,by omega,by decide⟩ ?_
      intro bl
      refine ai.mk 2 _ _ rfl rfl ?_
      exact bV.mk (w,bi,bl,bo) ⟨rfl,rfl,rfl,trivial⟩ (.pull [3,3,1,1] (aF rfl))
  ·refine And.intro ?_ ?_
   ·refine ah.mk ⟨by omega,by omega,by omega,by decide⟩ ?_
    intro bl
    refine And.intro ?_ ?_
    ·refine ah.mk ⟨by omega,by omega,by omega,by decide⟩ ?_
     intro bi
     refine And.intro ?_ ?_
     ·refine ah.mk ⟨by omega,by omega,by omega,by decide⟩ ?_
      intro bo
      intro w
      refine ai.mk 0 _ _ rfl rfl ?_
      exact bV.mk (w,bi,bl,bo) ⟨rfl,rfl,rfl,trivial⟩ (.pull [3,3,3,1] (aF rfl))
     ·intro w
      refine ah.mk ⟨by omega,by omega,by omega,by decide⟩ ?_
      intro bo
      refine ai.mk 1 _ _ rfl rfl ?_
      exact bV.mk (w,bi,bl,bo) ⟨rfl,rfl,rfl,trivial⟩ (.pull [3,3,3,0] (aF rfl))
    ·refine And.intro ?_ ?_
     ·refine ah.mk ⟨by omega,by omega,by omega,by decide⟩ ?_
      intro bo
      refine And.intro ?_ ?_
      ·refine ah.mk ⟨by omega,by omega,by omega,by decide⟩ ?_
       intro bi
       intro w
       refine ai.mk 0 _ _ rfl rfl ?_
       exact bV.mk (w,bi,bl,bo) ⟨rfl,rfl,rfl,trivial⟩ (.pull [3,3,3,2] (aF rfl))
      ·intro w
       refine ah.mk ⟨by omega,by omega,by omega,by decide⟩ ?_
       intro bi
       refine ai.mk 1 _ _ rfl rfl ?_
       exact bV.mk (w,bi,bl,bo) ⟨rfl,rfl,rfl,trivial⟩ (.pull [3,2,3,2] (aF rfl))
     ·intro w
      refine And.intro ?_ ?_
      ·refine ah.mk ⟨by omega,by omega,by omega,by decide⟩ ?_
       intro bi
       refine ah.mk ⟨by omega,by omega,by omega,by decide⟩ ?_
       intro bo
       refine ai.mk 2 _ _ rfl rfl ?_
       exact bV.mk (w,bi,bl,bo) ⟨rfl,rfl,rfl,trivial⟩ (.pull [3,2,3,0] (aF rfl))
      ·refine ah.mk ⟨by omega,by omega,by omega,by decide⟩ ?_
       intro bo
       refine ah.mk ⟨by omega,by omega,by omega,by decide⟩ ?_
       intro bi
       refine ai.mk 2 _ _ rfl rfl ?_
       exact bV.mk (w,bi,bl,bo) ⟨rfl,rfl,rfl,trivial⟩ (.pull [3,2,3,1] (aF rfl))
   ·refine And.intro ?_ ?_
    ·refine ah.mk ⟨by omega,by omega,by omega,by decide⟩ ?_
     intro bo
     refine And.intro ?_ ?_
     ·refine ah.mk ⟨by omega,by omega,by omega,by decide⟩ ?_
      intro bi
      refine And.intro ?_ ?_
      ·refine ah.mk ⟨by omega,by omega,by omega,by decide⟩ ?_
       intro bl
       intro w
       refine ai.mk 0 _ _ rfl rfl ?_
       exact bV.mk (w,bi,bl,bo) ⟨rfl,rfl,rfl,trivial⟩ (.pull [3,3,2,3] (aF rfl))
      ·intro w
       refine ah.mk ⟨by omega,by omega,by omega,by decide⟩ ?_
       intro bl
       refine ai.mk 1 _ _ rfl rfl ?_
       exact bV.mk (w,bi,bl,bo) ⟨rfl,rfl,rfl,trivial⟩ (.pull [3,3,1,3] (aF rfl))
     ·refine And.intro ?_ ?_
      ·refine ah.mk ⟨by omega,by omega,by omega,by decide⟩ ?_
       intro bl
       refine And.intro ?_ ?_
       ·refine ah.mk ⟨by omega,by omega,by omega,by decide⟩ ?_
        intro bi
        intro w
        refine ai.mk 0 _ _ rfl rfl ?_
        exact bV.mk (w,bi,bl,bo) ⟨rfl,rfl,rfl,trivial⟩ (.pull [3,3,3,3] (aF rfl))
       ·intro w
        refine ah.mk ⟨by omega,by omega,by omega,by decide⟩ ?_
        intro bi
        refine ai.mk 1 _ _ rfl rfl ?_
        exact bV.mk (w,bi,bl,bo) ⟨rfl,rfl,rfl,trivial⟩ (.pull [3,2,3,3] (aF rfl))
      ·intro w
       refine And.intro ?_ ?_
       ·refine ah.mk ⟨by omega,by omega,by omega,by decide⟩ ?_
        intro bi
        refine ah.mk ⟨by omega,by omega,by omega,by decide⟩ ?_
        intro bl
        refine ai.mk 2 _ _ rfl rfl ?_
        exact bV.mk (w,bi,bl,bo) ⟨rfl,rfl,rfl,trivial⟩ (.pull [3,2,1,3] (aF rfl))
       ·refine ah.mk ⟨by omega,by omega,by omega,by decide⟩ ?_
        intro bl
        refine ah.mk ⟨by omega,by omega,by omega,by decide⟩ ?_
        intro bi
        refine ai.mk 2 _ _ rfl rfl ?_
        exact bV.mk (w,bi,bl,bo) ⟨rfl,rfl,rfl,trivial⟩ (.pull [3,2,2,3] (aF rfl))
    ·intro w
     refine And.intro ?_ ?_
     ·refine ah.mk ⟨by omega,by omega,by omega,by decide⟩ ?_
      intro bi
      refine And.intro ?_ ?_
      ·refine ah.mk ⟨by omega,by omega,by omega,by decide⟩ ?_
       intro bl
       refine ah.mk ⟨by omega,by omega,by omega,by decide⟩ ?_
       intro bo
       refine ai.mk 3 _ _ rfl rfl ?_
       exact bV.mk (w,bi,bl,bo) ⟨rfl,rfl,rfl,trivial⟩ (.pull [3,2,1,0] (aF rfl))
      ·refine ah.mk ⟨by omega,by omega,by omega,by decide⟩ ?_
       intro bo
       refine ah.mk ⟨by omega,by omega,by omega,by decide⟩ ?_
       intro bl
       refine ai.mk 3 _ _ rfl rfl ?_
       exact bV.mk (w,bi,bl,bo) ⟨rfl,rfl,rfl,trivial⟩ (.pull [3,2,1,1] (aF rfl))
     ·refine And.intro ?_ ?_
      ·refine ah.mk ⟨by omega,by omega,by omega,by decide⟩ ?_
       intro bl
       refine And.intro ?_ ?_
       ·refine ah.mk ⟨by omega,by omega,by omega,by decide⟩ ?_
        intro bi
        refine ah.mk ⟨by omega,by omega,by omega,by decide⟩ ?_
        intro bo
        refine ai.mk 3 _ _ rfl rfl ?_
        exact bV.mk (w,bi,bl,bo) ⟨rfl,rfl,rfl,trivial⟩ (.pull [3,2,2,0] (aF rfl))
       ·refine ah.mk ⟨by omega,by omega,by omega,by decide⟩ ?_
        intro bo
        refine ah.mk ⟨by omega,by omega,by omega,by decide⟩ ?_
        intro bi
        refine ai.mk 3 _ _ rfl rfl ?_
        exact bV.mk (w,bi,bl,bo) ⟨rfl,rfl,rfl,trivial⟩ (.pull [3,2,2,1] (aF rfl))
      ·refine ah.mk ⟨by omega,by omega,by omega,by decide⟩ ?_
       intro bo
       refine And.intro ?_ ?_
       ·refine ah.mk ⟨by omega,by omega,by omega,by decide⟩ ?_
        intro bi
        refine ah.mk ⟨by omega,by omega,by omega,by decide⟩ ?_
        intro bl
        refine ai.mk 3 _ _ rfl rfl ?_
        exact bV.mk (w,bi,bl,bo) ⟨rfl,rfl,rfl,trivial⟩ (.pull [3,2,1,2] (aF rfl))
       ·refine ah.mk ⟨by omega,by omega,by omega,by decide⟩ ?_
        intro bl
        refine ah.mk ⟨by omega,by omega,by omega,by decide⟩ ?_
        intro bi
        refine ai.mk 3 _ _ rfl rfl ?_
        exact bV.mk (w,bi,bl,bo) ⟨rfl,rfl,rfl,trivial⟩ (.pull [3,2,2,2] (aF rfl))
 rintro⟨w,bi,bl,bo⟩ g
 have bF:∀(a:Nat) (σ:Hp),ACalls Tryz.prog 204 [.int .i64 n,.af bA l,.int .i64 a] σ (aB (.af (.int .i64) (au n l a)) σ):=fun a σ=>vw n l a σ hl
 have tZ:∀k,bE ((List.range (k+1)).map fun a:Nat=>au n l a)=bE ((List.range k).map fun a:Nat=>au n l a)++[.af (.int .i64) (au n l k)]:=fun k=>by rw[List.range_succ,List.map_append];exact List.map_append
 have cO:∀k,(bE ((List.range k).map fun a:Nat=>au n l a)).length=k:=fun k=>by rw[pZ,List.length_map,List.length_range]
 refine aU (S:=Nat×AV×Hp) (fun x=>[(0,.int .i64 n),(1,.af bA l),(6,.ptr w 0),(20,.int .i64 n),(21,.int .i64 x.1)]) (fun x=>(w,[x.2.1,.ae bi 0 n 1,.ae bl 0 n 1,.ae bo 0 n 1,.aj,.int .i64 0,.aj])::(bi,bN [.int .i64 0] n)::(bl,bN [.int .i64 0] n)::(bo,bN [.bool false] n)::(x.2.2++σ)) (fun x=>x.1≤n∧(x.1<n→Acc 1 x.1 x.2.1 x.2.2 (bE ((List.range x.1).map fun a:Nat=>au n l a)))∧(x.1=n→x.2.1=.af (.slice (.int .i64)) (bB n l)∧x.2.2=[])) (fun x=>n-x.1) (0,.aj,[]) ⟨⟨Nat.zero_le _,fun _=>.nil,fun h=>by have h:0=n:=h;omega⟩,⟨rfl,rfl,rfl,rfl,rfl,trivial⟩,rfl⟩ ?_
 rintro⟨k,v,acc⟩ g ⟨aG,eR,xA⟩
 have hk:k≤n:=aG
 have bc:k<n→Acc 1 k v acc (bE ((List.range k).map fun a:Nat=>au n l a)):=eR
 have kp:k=n→v=.af (.slice (.int .i64)) (bB n l)∧acc=[]:=xA
 clear aG eR xA
 refine an (p:=(k:Int)<n) (fun ab =>?_) (fun aq =>?_)
 ·have ab:k<n:=by omega
  have bc:=bc ab
  clear kp
  have iJ:(bB n l).length=n:=by unfold bB;rw[List.length_map,List.length_range]
  have vU:∀k,k+1=n→((bE ((List.range k).map fun a:Nat=>au n l a)++[AV.af (.int .i64) (au n l k)]).drop 0).take ((k+1)*1)=(bB n l).flatMap (Sh.cells (.slice (.int .i64))):=fun k hk=>by
   rw[← tZ,List.drop_zero,List.take_of_length_le (by rw[cO,Nat.mul_one];exact Nat.le_refl _),hk]
   exact p9 _
  refine .sched [5] (.one 0 false (.one 2 false (.one 3 false (.one 4 false (.one 5 true (.alt 1 (.one 6 false (.one 7 false (.one 8 false (.one 9 false .stop)))) (.one 6 false (.one 1 false (.one 7 false (.one 8 false (.one 9 false .stop))))))))))) (by kernel_rfl) ?_
  refine aJ [] (vw n l _ _ hl) ?_
  refine And.intro ?_ ?_
  ·refine aa.mk 0 _ _ rfl rfl ?_
   intro aC
   refine uw [_,_,_,_,_] bc.sl (.ae 0 aC 0 1 _ rfl (Nat.le_of_ble_eq_true rfl)) rfl (by omega) (by decide) (by decide) (fun v' aP h' =>?_)
   obtain⟨b5,rfl,rfl⟩:=oY (by omega) h'
   refine ai.mk 1 _ _ rfl rfl ?_
   by_cases eM:k+1=n
   ·refine .hY 5 b5 0 (k+1) 1 _ (.slice (.int .i64)) (bB n l) rfl (vU k eM) ⟨(iJ.trans eM.symm),rfl,by decide⟩ 1 0 w _ rfl rfl ?_
    exact aH (k+1,.af (.slice (.int .i64)) (bB n l),[]) (by show n-(k+1)<n-k;omega) ⟨ab,fun h=>absurd eM (by have h:k+1<n:=h;omega),fun _=>⟨rfl,rfl⟩⟩ ⟨rfl,rfl,rfl,rfl,aI (by omega),trivial⟩ (.drop 0 1 (aF rfl))
   ·exact aH (k+1,.ae b5 0 (k+1) 1,[(b5,bE ((List.range k).map fun a:Nat=>au n l a)++[.af (.int .i64) (au n l k)])]) (by show n-(k+1)<n-k;omega) ⟨ab,fun _=>by show Acc 1 (k+1) _ _ (bE ((List.range (k+1)).map fun a:Nat=>au n l a));rw[tZ];exact h',fun h=>absurd h eM⟩ ⟨rfl,rfl,rfl,rfl,aI (by omega),trivial⟩ (.drop 0 1 (aF rfl))
  ·intro bM
   refine aa.mk 1 _ _ rfl rfl ?_
   refine uw [_,_,_,_,_] bc.sl (.ae 0 bM 0 1 _ rfl (Nat.le_of_ble_eq_true rfl)) rfl (by omega) (by decide) (by decide) (fun v' aP h' =>?_)
   obtain⟨b5,rfl,rfl⟩:=oY (by omega) h'
   refine ai.mk 1 _ _ rfl rfl ?_
   by_cases eM:k+1=n
   ·refine .hY 5 b5 0 (k+1) 1 _ (.slice (.int .i64)) (bB n l) rfl (vU k eM) ⟨(iJ.trans eM.symm),rfl,by decide⟩ 1 0 w _ rfl rfl ?_
    exact aH (k+1,.af (.slice (.int .i64)) (bB n l),[]) (by show n-(k+1)<n-k;omega) ⟨ab,fun h=>absurd eM (by have h:k+1<n:=h;omega),fun _=>⟨rfl,rfl⟩⟩ ⟨rfl,rfl,rfl,rfl,aI (by omega),trivial⟩ (.drop 0 1 (aF rfl))
   ·exact aH (k+1,.ae b5 0 (k+1) 1,[(b5,bE ((List.range k).map fun a:Nat=>au n l a)++[.af (.int .i64) (au n l k)])]) (by show n-(k+1)<n-k;omega) ⟨ab,fun _=>by show Acc 1 (k+1) _ _ (bE ((List.range (k+1)).map fun a:Nat=>au n l a));rw[tZ];exact h',fun h=>absurd h eM⟩ ⟨rfl,rfl,rfl,rfl,aI (by omega),trivial⟩ (.drop 0 1 (aF rfl))
 ·have aq:k=n:=by omega
  obtain⟨rfl,rfl⟩:=kp aq
  clear bc kp
  refine aU (S:=Nat×(List Int×List Int×List Bool×Nat×List (List Int))×(AV×Hp×AV×Hp)) (fun x=>[(0,.int .i64 n),(1,.af bA l),(6,.ptr w 0),(34,.int .i64 n),(35,.int .i64 x.1)]) (fun x=>(w,bZ (bB n l) bi bl bo n x.2.2.1 x.2.1.2.2.2.1 x.2.2.2.2.1)::(bi,ak x.2.1.1)::(bl,ak x.2.1.2.1)::(bo,aZ x.2.1.2.2.1)::(x.2.2.2.1++(x.2.2.2.2.2++σ))) (fun x=>x.1≤n∧FI n (au n l) x.2.1.1 x.2.1.2.1 x.2.1.2.2.1 [] x.2.1.2.2.2.1 x.2.1.2.2.2.2 []∧fu 1 0 x.2.2.1 x.2.2.2.1 []∧PO x.2.1.2.2.2.2 x.2.2.2.2.1 x.2.2.2.2.2∧∀b:Nat,b<x.1→x.2.1.1.getD b 0≠0) (fun x=>n-x.1) (0,(List.replicate n 0,List.replicate n 0,List.replicate n false,0,[]),(.aj,[],.aj,[])) ⟨⟨Nat.zero_le _,.start n (au n l),.nil,⟨[],[],rfl,.nil,rfl⟩,fun _ h=>absurd h (Nat.not_lt_zero _)⟩,⟨rfl,rfl,rfl,rfl,rfl,trivial⟩,by rw[p8,uL];rfl⟩ ?_
  clear aq
  rintro⟨k,⟨ix,lo,on,aM,P⟩,⟨vs,iX,vp,du⟩⟩ g2 ⟨aG,oK,mF,nw,k8⟩
  have hk:k≤n:=aG
  have hF:FI n (au n l) ix lo on [] aM P []:=oK
  have hs:fu 1 0 vs iX []:=mF
  have hp:PO P vp du:=nw
  have hv:∀b:Nat,b<k→ix.getD b 0≠0:=k8
  clear aG oK mF nw k8
  have yI:((k:Nat):Int).toNat=k:=Int.toNat_natCast k
  refine an (p:=(k:Int)<n) (fun ab =>?_) (fun aq =>?_)
  ·have ab:k<n:=by omega
   refine aa.mk 0 _ _ rfl rfl ?_
   refine ah.mk ⟨rfl,by omega,by omega⟩ ?_
   refine aa.mk 1 _ _ rfl (dD rfl (by omega) (by rw[hF.li];omega)) ?_
   refine an (p:=ix.getD ((k:Nat):Int).toNat 0=0) (fun c1 =>?_) (fun c1 =>?_)
   ·refine .mk [] _ (VM n w bi bl bo l ix lo on aM P vs vp iX du k σ (by omega) hF (by omega) c1 hs hp) ?_
    rintro _ _ ⟨rfl,FA,Fz,Fx,Fi,P2,BN,EL,Fp,EM,Gt,eW,cg,kA,ny,rfl⟩
    rw[yI]at kA
    refine aH (k+1,(FA,Fz,Fx,Fi,P2),(BN,EL,Fp,EM)) (by show n-(k+1)<n-k;omega) ⟨ab,Gt,eW,cg,fun b hb =>?_⟩ ⟨rfl,rfl,rfl,rfl,aI (by omega),trivial⟩ (.refl _)
    have hb:b<k+1:=hb
    by_cases e:b=k
    ·subst e;exact kA
    ·exact ny b (hv b (by omega))
   ·rw[yI]at c1
    refine aH (k+1,(ix,lo,on,aM,P),(vs,iX,vp,du)) (by show n-(k+1)<n-k;omega) ⟨ab,hF,hs,hp,fun b hb =>?_⟩ ⟨rfl,rfl,rfl,rfl,aI (by omega),trivial⟩ (.refl _)
    have hb:b<k+1:=hb
    by_cases e:b=k
    ·subst e;exact c1
    ·exact hv b (by omega)
  ·have aq:k=n:=by omega
   subst aq
   have bH:kX k l P:=⟨hF.tj.prt,fun x h0 h1=>by
    have h2:=hv x.toNat (by omega)
    have h3:=(hF.tj.sj x h0 h1).1 (by rw[jA h0];exact h2)
    exact h3.resolve_left (by simp)⟩
   have yV:=wI hF.tj.prt
   refine aa.mk 0 _ _ rfl rfl ?_
   obtain⟨x,hx,_⟩:=bH.all 0 (by omega) (by omega)
   have pQ:=List.length_pos_of_mem hx
   obtain⟨ac,rw,rfl,Gg,j4⟩:=hp
   have mG:rw.length=P.length:=by rw[← j4,List.length_map]
   obtain⟨b5,rfl,rfl⟩:=oY (by omega) Gg
   have hO:=fun τ=>QM k l P rw b5 τ bH j4 pQ hl (by omega) vX
   rw[← mG]at hO
   rcases hs.zero with ⟨rfl,rfl⟩ | ⟨bs,J,rfl,rfl⟩
   ·refine .perm _ (rL [_,_,_,_] ((b5,dG rw)::dw rw) σ) (hO _) ?_
    rintro _ _ ⟨zp,dv,rfl,j0,rfl,sr⟩
    exact⟨_,(rL [_,_,_,_] ((zp,dG dv)::dw dv) σ).symm,.drop 0 4 (.done ⟨zp,dv,rfl,j0,rfl,P,bH,sr⟩)⟩
   ·refine .perm _ (rL [_,_,_,_,_] ((b5,dG rw)::dw rw) σ) (hO _) ?_
    rintro _ _ ⟨zp,dv,rfl,j0,rfl,sr⟩
    exact⟨_,(rL [_,_,_,_,_] ((zp,dG dv)::dw dv) σ).symm,.drop 0 5 (.done ⟨zp,dv,rfl,j0,rfl,P,bH,sr⟩)⟩
end Go.Proofs.YtnpidbjdilnhlaaGreat
