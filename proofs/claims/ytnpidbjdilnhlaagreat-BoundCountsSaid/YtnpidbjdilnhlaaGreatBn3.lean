import Derived.MapFrom
import Derived.Test.YtnpidbjdilnhlaaGreatBn2
namespace Go.Proofs.YtnpidbjdilnhlaaGreat
open Go.RowKit
def ra:List (Int×Int)→Int→Nat
 | [],_=>0
 | p::l,n=>if p.1=n then 0 else ra l n+1
theorem GZ:∀(l:List (Int×Int)) (m i:Nat),(eW m l)[i]?=(l[i]?).map fun p => { key:=.int .i64 p.1,val:=.int .i64 p.2,born:=m+i }
 | [],_,_=>by simp[eW]
 | p::l,m,0=>by simp[eW]
 | p::l,m,i+1=>by
  simp only[eW,List.getElem?_cons_succ]
  rw[GZ l (m+1) i]
  simp[Nat.add_assoc,Nat.add_comm 1 i]
theorem FQ(n:Int):∀(l:List (Int×Int)) (m i:Nat),Instr.findNow (.int .i64) (.int .i64 n) (eW m l) i=some ((getM l n).map fun v=>(i+ra l n,.int .i64 v))
 | [],_,_=>rfl
 | p::l,m,i=>by
  have ih:=FQ n l (m+1) (i+1)
  unfold eW Instr.findNow
  simp only[Instr.sameNow,if_true]
  by_cases h:p.1=n
  ·rw[show (n == p.1)=true by simp[h]]
   simp[getM,ra,h]
  ·rw[show (n == p.1)=false by simp;exact fun e=>h e.symm]
   simp only[ih,getM,ra,if_neg h]
   congr 1
   cases getM l n with
   | none=>rfl
   | some v=>simp[Nat.add_assoc,Nat.add_comm 1]
theorem pos_at:∀(l:List (Int×Int)) (n v:Int),getM l n=some v→l[ra l n]?=some (n,v)∧∀x,o7 l n x=l.set (ra l n) (n,x)
 | [],_,_,h=>by cases h
 | p::l,n,v,h=>by
  by_cases hp:p.1=n
  ·simp only[getM,if_pos hp,Option.some.injEq]at h
   simp only[ra,if_pos hp,o7]
   refine⟨?_,fun x=>rfl⟩
   rw[← hp,← h];rfl
  ·simp only[getM,if_neg hp]at h
   obtain⟨h1,h2⟩:=pos_at l n v h
   simp only[ra,if_neg hp,o7]
   exact⟨h1,fun x=>by rw[h2];rfl⟩
theorem On:∀(l:List (Int×Int)) (n x:Int),getM l n=none→o7 l n x=l++[(n,x)]
 | [],_,_,_=>rfl
 | p::l,n,x,h=>by
  by_cases hp:p.1=n
  ·simp only[getM,if_pos hp]at h;cases h
  ·simp only[getM,if_neg hp]at h
   simp only[o7,if_neg hp,On l n x h];rfl
theorem Ml:∀(l:List (Int×Int)) (m:Nat) (p:Int×Int),eW m (l++[p])=eW m l++[{ key:=.int .i64 p.1,val:=.int .i64 p.2,born:=m+l.length }]
 | [],_,_=>rfl
 | q::l,m,p=>by
  simp only[List.cons_append,eW,Ml l (m+1) p,List.length_cons]
  rw[show m+1+l.length=m+(l.length+1) by omega]
theorem Nt:∀(l:List (Int×Int)) (m i:Nat) (p:Int×Int),eW m (l.set i p)=(eW m l).modify i fun e => { e with key:=.int .i64 p.1,val:=.int .i64 p.2 }
 | [],_,_,_=>by simp[eW]
 | q::l,m,0,p=>by simp[eW]
 | q::l,m,i+1,p=>by simp[eW,Nt l (m+1) i p]
section
variable {P:Program} {w:World} {t k e:TypeId} {b:Nat} {l:List (Int×Int)}
theorem R2(ht:P.underlying t=some (.map k e))(hk:P.underlying k=some (.int .i64)){z:Int}(hz:(zeroValue e).run P w=.ok (.int .i64 z) w)(hb:w.heap[b]?=some (.map (eW 0 l).toArray l.length))(n:Int)(c:Bool):
  (Instr.lookup t (.map (some b)) (.int .i64 n) c).run P w=.ok (if c then .tuple #[.int .i64 ((getM l n).getD z),.bool (getM l n).isSome] else .int .i64 ((getM l n).getD z)) w:=by
 have hf:=FQ n l 0 0
 have yj:MapKept.IsKey (.int .i64) (.int .i64 n):=by simp[MapKept.IsKey]
 cases h:getM l n with
 | none =>
  rw[h]at hf
  simp[Instr.lookup,run_underlying ht,MapKept.run_getObj_map hb,MapKept.run_checkKey hk yj,MapKept.run_findKey hk hf,hz,Result.andThen]
 | some v =>
  rw[h]at hf
  simp[Instr.lookup,run_underlying ht,MapKept.run_getObj_map hb,MapKept.run_checkKey hk yj,MapKept.run_findKey hk hf,Result.andThen]
theorem R0(ht:P.underlying t=some (.map k e))(hk:P.underlying k=some (.int .i64))(hb:w.heap[b]?=some (.map (eW 0 l).toArray l.length))(n x:Int):
  (Instr.mapUpdate t (.map (some b)) (.int .i64 n) (.int .i64 x)).run P w=.ok () { w with heap:=w.heap.setIfInBounds b (.map (eW 0 (o7 l n x)).toArray (o7 l n x).length) }:=by
 have hf:=FQ n l 0 0
 have yj:MapKept.IsKey (.int .i64) (.int .i64 n):=by simp[MapKept.IsKey]
 cases h:getM l n with
 | none =>
  rw[h]at hf
  rw[On l n x h,Ml]
  simp[Instr.mapUpdate,run_underlying ht,MapKept.run_getObj_map hb,MapKept.run_checkKey hk yj,MapKept.run_findKey hk hf,MapKept.run_setObj_map _ hb,Result.andThen]
 | some v =>
  rw[h]at hf
  obtain⟨h1,h2⟩:=pos_at l n v h
  rw[h2,Nt]
  have hg:(eW 0 l)[ra l n]?=some { key:=.int .i64 n,val:=.int .i64 v,born:=0+ra l n }:=by rw[GZ,h1];rfl
  simp[Instr.mapUpdate,run_underlying ht,MapKept.run_getObj_map hb,MapKept.run_checkKey hk yj,MapKept.run_findKey hk hf,hg,MapKept.run_keyThatStays yj,MapKept.run_setObj_map _ hb,Result.andThen]
end
end Go.Proofs.YtnpidbjdilnhlaaGreat
