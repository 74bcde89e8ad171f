import Derived.OrdersHeld
import Derived.OrdersIn
import Derived.RangeFuncRecord
import Derived.TacticsIn
import Derived.Test.YtnikdflhefijbaaGreatBn4
namespace Go.Proofs.YtnikdflhefijbaaGreat
open Go.RowKit
section
variable {P:Program} {ops:Array Oper} {Q:Exit→Act→World→Prop} {md:Region.Mode} {S:World→Prop}
def yU(P:Program)(o:Oper)(a:Act)(next:Act→World→Prop):Result Next→Prop
 |.ok (.value v) w'=>next (a.put o.dst v) w'
 |.ok .skip w'=>next (a.put o.dst undef) w'
 |.ok (.enter f args) w'=>Calls P f args w' fun e l4=>∃v,e=.returned v∧next (a.put o.dst v) l4
 |.ok (.round l f tmps assign body) w'=>RoundIn Fence.wide 0 P l f tmps assign body w' fun e l4=>∃v,e=.returned v∧next (a.put o.dst v) l4
 |_=>False
def wq(P:Program)(o:Oper)(a:Act)(w:World)(next:Act→World→Prop)(_:Exit→Act→World→Prop):Prop:=yU P o a next ((execOp a.eval o).run P w)
theorem Su{o:Oper}{a:Act}{w:World}{K K':Act→World→Prop}(h:∀a w,K a w→K' a w)(hh:wq P o a w K Q):wq P o a w K' Q:=by
 unfold wq at *
 generalize (execOp a.eval o).run P w=r at *
 cases r with
 |ok x w'=>
  cases x <;> simp only[yU]at hh ⊢ <;>
   first
    |exact h _ _ hh
    |exact Calls.mono hh (fun _ _ ⟨v,he,hv⟩=>⟨v,he,h _ _ hv⟩)
    |exact RoundIn.mono hh (fun _ _ ⟨v,he,hv⟩=>⟨v,he,h _ _ hv⟩)
 |halt x w'=>cases x <;> simp only[yU]at hh
def nX(P:Program)(ops:Array Oper)(Q:Exit→Act→World→Prop)(i:Nat)(K:Act→World→Prop)(a:Act)(w:World):Prop:=
 match ops[i]? with
 |none=>K a w
 |some o=>if Region.wanted o (yielded ops a.tmps) then wq P o a w K Q else K (a.put o.dst undef) w
theorem JR{i:Nat}{a:Act}{w:World}{K K':Act→World→Prop}(h:∀a w,K a w→K' a w)(hh:nX P ops Q i K a w):nX P ops Q i K' a w:=by
 unfold nX at *
 split
 ·exact h _ _ (by simpa [*]using hh)
 ·rename_i o ho
  simp only[ho]at hh
  split
  ·rename_i hw;simp only[hw,if_true]at hh;exact Su h hh
  ·rename_i hw;simp only[hw]at hh;exact h _ _ hh
def wJ(P:Program)(ops:Array Oper)(Q:Exit→Act→World→Prop):List Oper→Act→World→Prop
 | [],a,w=>Q .normal a w
 |o::rest,a,w=>if Region.wanted o (yielded ops a.tmps) then wq P o a w (wJ P ops Q rest) Q else wJ P ops Q rest (a.put o.dst undef) w
def wN(P:Program)(md:Region.Mode)(ops:Array Oper)(Q:Exit→Act→World→Prop):Nat→Array Bool→Act→World→Prop
 | 0,ax,a,w=>Region.ready md ops ax=[]∧Q .normal a w
 |fuel+1,ax,a,w=>(Region.ready md ops ax=[]→Q .normal a w)∧∀i∈Region.ready md ops ax,nX P ops Q i (wN P md ops Q fuel (ax.setIfInBounds i true)) a w
theorem Wi{i:Nat}{o:Oper}{v:Value}{a:Act}(hi:ops[i]?=some o)(hy:YieldsIf P ops S o v a){K:Act→World→Prop}{w:World}(hS:S w)(h:K (a.put o.dst v) w):nX P ops Q i K a w:=by
 unfold nX
 simp only[hi]
 rcases hy with ⟨hw,hv⟩ | ⟨hw,rfl⟩
 ·simp only[hw,if_true,wq,hv w hS];exact h
 ·simp only[hw,lN,if_false];exact h
theorem X8{j:Nat}{oi oj:Oper}{v:Value}(hj:ops[j]?=some oj)(vG:oi.apart ops oj=true)(hsi:∀cs b,oi.op≠.select cs b)(hsj:∀cs b,oj.op≠.select cs b)
  {K:Act→World→Prop} {a:Act} {w:World} (hy:YieldsIf P ops S oi v a) (h:nX P ops Q j K (a.put oi.dst v) w):nX P ops Q j (fun a' w'=>YieldsIf P ops S oi v a'∧K (a'.put oi.dst v) w') a w:=by
 obtain⟨h1,h2,h3⟩:=Oper.apart_spec vG
 have keep:∀u,YieldsIf P ops S oi v (a.put oj.dst u):=fun u=>hy.of_same (execOp_put oi hsi a oj.dst u h3) (wanted_put oi a oj.dst u h3)
 have go:∀(u:Value) (w':World),K ((a.put oi.dst v).put oj.dst u) w'→YieldsIf P ops S oi v (a.put oj.dst u)∧K ((a.put oj.dst u).put oi.dst v) w':=fun u w' hk=>⟨keep u,by rw[← Act.put_comm a v u h2];exact hk⟩
 unfold nX at *
 simp only[hj]at *
 rw[wanted_put oj a oi.dst v h1]at h
 by_cases hw:Region.wanted oj (yielded ops a.tmps)=true
 ·rw[ai hw]at h ⊢
  unfold wq at *
  rw[execOp_put oj hsj a oi.dst v h1]at h
  generalize (execOp a.eval oj).run P w=r at *
  cases r with
  |ok x w'=>
   cases x <;> simp only[yU]at h ⊢
   case value u=>exact go u w' h
   case skip=>exact go undef w' h
   case enter f args=>exact Calls.mono h fun e l4 ⟨u,he,hk⟩=>⟨u,he,go u l4 hk⟩
   case round l f tmps assign body=>exact RoundIn.mono h fun e l4 ⟨u,he,hk⟩=>⟨u,he,go u l4 hk⟩
  |halt x w'=>cases x <;> simp only[yU]at h
 ·rw[ah hw]at h ⊢
  exact go undef w h
def FW(r:Option Nat):Fence:= { Fence.wide with round:=r }
variable {r:Option Nat}
theorem UA{o:Oper}(bZ:∀c,o.op≠.defer c){a:Act}{w:World}{K:Act→World→Prop}(h:wq P o a w K Q):o.wpIn (FW r) 0 P a w K Q:=by
 refine⟨fun _ _=>trivial,?_⟩
 rw[show (FW r).round=r from rfl,Oper.semAt_eq r a.eval o bZ]
 unfold wq at h
 generalize (execOp a.eval o).run P w=x at *
 cases x with
 |ok x w'=>
  cases x <;> simp only[yU]at h <;> simp only[Oper.uponIn]
  case value u=>exact h
  case skip=>exact h
  case enter f args=>
   refine⟨fun hd=>(by cases hd),?_⟩
   have h2:CallsIn Fence.wide (0-1) P f args w' _:=callsIn_wide.2 h
   exact CallsIn.mono (F:=FW r) h2 fun e l4 ⟨u,he,hk⟩=>by subst he;exact hk
  case round l f tmps assign body=>
   refine⟨fun hd=>(by cases hd),?_⟩
   exact RoundIn.mono (F:=FW r) h fun e l4 ⟨u,he,hk⟩=>by subst he;exact hk
 |halt x w'=>cases x <;> simp only[yU]at h
theorem Qf:∀(l:List Oper) (a:Act) (w:World),(∀o∈l,∀c,o.op≠.defer c)→wJ P ops Q l a w→wpListIn (FW r) 0 P ops Q l a w
 | [],_,_,_,h=>h
 |o::l,a,w,bZ,h=>by
  have ih:=fun a w=>Qf l a w fun o ho=>bZ o (cY _ ho)
  unfold wJ at h
  unfold wpListIn
  split
  ·rename_i hw
   rw[ai hw]at h
   exact UA (bZ o (cm ..)) (Su ih h)
  ·rename_i hw
   rw[ah hw]at h
   exact⟨fun _ _=>trivial,ih _ _ h⟩
theorem Rf(bZ:∀o∈ops.toList,∀c,o.op≠.defer c):∀(fuel:Nat) (ax:Array Bool) (a:Act) (w:World),wN P md ops Q fuel ax a w→wpAnyIn (FW r) 0 P md ops Q fuel ax a w
 | 0,_,_,_,h=>h
 |fuel+1,ax,a,w,h=>by
  refine⟨h.1,fun i hi=>?_⟩
  have h2:=JR (Rf bZ fuel (ax.setIfInBounds i true)) (h.2 i hi)
  unfold nX at h2
  unfold wpOpIn
  cases ho:ops[i]? with
  |none=>rw[ho]at h2;exact h2
  |some o=>
   rw[ho]at h2
   simp only at h2 ⊢
   split
   ·rename_i hw
    rw[ai hw]at h2
    exact UA (bZ o (Array.mem_toList_iff.2 (Array.mem_of_getElem? ho))) h2
   ·rename_i hw
    rw[ah hw]at h2
    exact⟨fun _ _=>trivial,h2⟩
theorem Wv{id:Nat}{a:Act}{w:World}(bZ:∀o∈ops.toList,∀c,o.op≠.defer c)(h:wJ P ops Q ops.toList a w):(Code.region id ops false).wpIn (FW r) 0 P Q a w:=
 wpIn_region_list (Qf _ _ _ bZ h)
theorem JH{id:Nat}{a:Act}{w:World}(hm:P.follows .mixedOrders=true)(bZ:∀o∈ops.toList,∀c,o.op≠.defer c)(h:wN P .any ops Q ops.size (Array.replicate ops.size false) a { w with drawn:=w.drawn+1 }):(Code.region id ops true).wpIn (FW r) 0 P Q a w:=
 wpIn_region_any hm (Rf bZ _ _ _ _ h)
end
end Go.Proofs.YtnikdflhefijbaaGreat
