import Derived.MapFrom
import Derived.Test.YtnikdflhefijbaaGreatBn2
namespace Go.Proofs.YtnikdflhefijbaaGreat
open Go.RowKit
def td:List (Int×Int)→Int→Nat
 | [],_=>0
 |p::l,n=>if p.1=n then 0 else td l n+1
theorem Ky:∀(l:List (Int×Int)) (m i:Nat),(fV m l)[i]?=(l[i]?).map fun p=> { key:=.int .i64 p.1,val:=.int .i64 p.2,born:=m+i }
 | [],_,_=>by simp[fV]
 |p::l,m,0=>by simp[fV]
 |p::l,m,i+1=>by
  simp only[fV,List.getElem?_cons_succ]
  rw[Ky l (m+1) i]
  simp[Nat.add_assoc,Nat.add_comm 1 i]
theorem Jw(n:Int):∀(l:List (Int×Int)) (m i:Nat),Instr.findNow (.int .i64) (.int .i64 n) (fV m l) i=some ((getM l n).map fun v=>(i+td l n,.int .i64 v))
 | [],_,_=>rfl
 |p::l,m,i=>by
  have ih:=Jw n l (m+1) (i+1)
  unfold fV Instr.findNow
  simp only[Instr.sameNow,if_true]
  by_cases h:p.1=n
  ·rw[show (n == p.1)=true by simp[h]]
   simp[getM,td,h]
  ·rw[show (n == p.1)=false by simp;exact fun e=>h e.symm]
   simp only[ih,getM,td,ah h]
   congr 1
   cases getM l n with
   |none=>rfl
   |some v=>simp[Nat.add_assoc,Nat.add_comm 1]
theorem pos_at:∀(l:List (Int×Int)) (n v:Int),getM l n=some v→l[td l n]?=some (n,v)∧∀x,q9 l n x=l.set (td l n) (n,x)
 | [],_,_,h=>by cases h
 |p::l,n,v,h=>by
  by_cases hp:p.1=n
  ·simp only[getM,ai hp,Option.some.injEq]at h
   simp only[td,ai hp,q9]
   refine⟨?_,fun x=>rfl⟩
   rw[← hp,← h];rfl
  ·simp only[getM,ah hp]at h
   obtain⟨h1,h2⟩:=pos_at l n v h
   simp only[td,ah hp,q9]
   exact⟨h1,fun x=>by rw[h2];rfl⟩
theorem SJ:∀(l:List (Int×Int)) (n x:Int),getM l n=none→q9 l n x=l++[(n,x)]
 | [],_,_,_=>rfl
 |p::l,n,x,h=>by
  by_cases hp:p.1=n
  ·simp only[getM,ai hp]at h;cases h
  ·simp only[getM,ah hp]at h
   simp only[q9,ah hp,SJ l n x h];rfl
theorem QG:∀(l:List (Int×Int)) (m:Nat) (p:Int×Int),fV m (l++[p])=fV m l++[{ key:=.int .i64 p.1,val:=.int .i64 p.2,born:=m+l.length }]
 | [],_,_=>rfl
 |q::l,m,p=>by
  simp only[ED,fV,QG l (m+1) p,ie]
  rw[show m+1+l.length=m+(l.length+1) by omega]
theorem RQ:∀(l:List (Int×Int)) (m i:Nat) (p:Int×Int),fV m (l.set i p)=(fV m l).modify i fun e=> { e with key:=.int .i64 p.1,val:=.int .i64 p.2 }
 | [],_,_,_=>by simp[fV]
 |q::l,m,0,p=>by simp[fV]
 |q::l,m,i+1,p=>by simp[fV,RQ l (m+1) i p]
section
variable {P:Program} {w:World} {t k e:TypeId} {b:Nat} {l:List (Int×Int)}
theorem Wt(ht:P.underlying t=some (.map k e))(hk:P.underlying k=some (.int .i64)){z:Int}(hz:(zeroValue e).run P w=.ok (.int .i64 z) w)(hb:w.heap[b]?=some (.map (fV 0 l).toArray l.length))(n:Int)(c:Bool):
  (Instr.lookup t (.map (some b)) (.int .i64 n) c).run P w=.ok (if c then .tuple #[.int .i64 ((getM l n).getD z),.bool (getM l n).isSome] else .int .i64 ((getM l n).getD z)) w:=by
 have hf:=Jw n l 0 0
 have AF:MapKept.IsKey (.int .i64) (.int .i64 n):=by simp[MapKept.IsKey]
 cases h:getM l n with
 |none=>
  rw[h]at hf
  simp[Instr.lookup,run_underlying ht,MapKept.run_getObj_map hb,MapKept.run_checkKey hk AF,MapKept.run_findKey hk hf,hz,Result.andThen]
 |some v=>
  rw[h]at hf
  simp[Instr.lookup,run_underlying ht,MapKept.run_getObj_map hb,MapKept.run_checkKey hk AF,MapKept.run_findKey hk hf,Result.andThen]
theorem Ws(ht:P.underlying t=some (.map k e))(hk:P.underlying k=some (.int .i64))(hb:w.heap[b]?=some (.map (fV 0 l).toArray l.length))(n x:Int):
  (Instr.mapUpdate t (.map (some b)) (.int .i64 n) (.int .i64 x)).run P w=.ok () { w with heap:=w.heap.setIfInBounds b (.map (fV 0 (q9 l n x)).toArray (q9 l n x).length) }:=by
 have hf:=Jw n l 0 0
 have AF:MapKept.IsKey (.int .i64) (.int .i64 n):=by simp[MapKept.IsKey]
 cases h:getM l n with
 |none=>
  rw[h]at hf
  rw[SJ l n x h,QG]
  simp[Instr.mapUpdate,run_underlying ht,MapKept.run_getObj_map hb,MapKept.run_checkKey hk AF,MapKept.run_findKey hk hf,MapKept.run_setObj_map _ hb,Result.andThen]
 |some v=>
  rw[h]at hf
  obtain⟨h1,h2⟩:=pos_at l n v h
  rw[h2,RQ]
  have hg:(fV 0 l)[td l n]?=some { key:=.int .i64 n,val:=.int .i64 v,born:=0+td l n }:=by rw[Ky,h1];rfl
  simp[Instr.mapUpdate,run_underlying ht,MapKept.run_getObj_map hb,MapKept.run_checkKey hk AF,MapKept.run_findKey hk hf,hg,MapKept.run_keyThatStays AF,MapKept.run_setObj_map _ hb,Result.andThen]
end
end Go.Proofs.YtnikdflhefijbaaGreat
