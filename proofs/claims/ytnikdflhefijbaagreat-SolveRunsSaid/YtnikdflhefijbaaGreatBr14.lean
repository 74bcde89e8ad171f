import Derived.Test.YtnikdflhefijbaaGreatBr13
import Derived.Test.YtnikdflhefijbaaGreatBr10
import Derived.Test.YtnikdflhefijbaaGreatBr5
import Derived.Test.YtnikdflhefijbaaGreatBr9
namespace Go.Proofs.YtnikdflhefijbaaGreat
open Go.RowKit
set_option maxRecDepth 100000
set_option maxHeartbeats 4000000
theorem UL{f:FuncId}{xs:List AV}{σ:Hp}{R R':AV→Hp→Prop}(h:ACalls Tryz.prog f xs σ R)(hR:∀r σ',R r σ'→r=.tup []∧∃(j b off len es:Nat) (cs:List AV) (e:Sh) (l:List e.T) (i k b':Nat) (cs':List AV),σ'[j]?=some (b,cs)∧(cs.drop off).take (len*es)=l.flatMap e.cells∧(l.length=len∧e.size=es∧0<es)∧(σ'.eraseIdx j)[i]?=some (b',cs')∧cs'[k]?=some (.ah b off len es)∧R' (.tup []) ((σ'.eraseIdx j).set i (b',cs'.set k (.af e l)))):ACalls Tryz.prog f xs σ R':=
 ⟨h.1,fun F w vs cg aJ=>(h.2 F w vs cg aJ).mono fun _ _ ⟨r,v,σ',F',h1,h2,h3,h4,h5⟩=>by
  obtain⟨rfl,j,b,off,len,es,cs,e,l,i,k,b',cs',q1,q2,q3,q4,q5,q6⟩:=hR r σ' h5
  obtain⟨ao,mA,hh⟩:=su h3 q1 q2 q3
  exact⟨.tup [],v,_,_,h1,h2.trans ao,yM mA hh q4 q5,h4.mono ao,q6⟩⟩
theorem abd{l:Lay}{base:Int}{y ws:List Int}(h:y.length<cw l.words){x:Int}(hx:bV ws (wr (base+(y.length:Nat)))=x):nA bF l base y ws=(y++[x],ws,decide (y.length+1=cw l.words)):=by
 subst hx
 exact az h
theorem YE{s:Sy}{l:Lay}{x:WS}{y:List Int}(h:nS s x.node y=0):ft s l x (.read y)=⟨wr (x.ev+1),x.jo,x.en,tH s x.node,.none,x.node,x.has,ax s.n s.cI x.node,kJ s y x.node.toNat⟩:=by
 show (⟨wr (x.ev+1),x.jo,x.en,tH s x.node,.none,x.node,x.has,ax s.n s.cI x.node,rN (nS s x.node y) (kJ s y x.node.toNat)⟩:WS)=_
 rw[h];rfl
def abi:pg:=(.one 0 false (.one 2 false (.one 3 false (.one 4 false (.one 7 false (.one 8 false (.one 9 false (.one 10 false (.one 12 false (.one 13 false (.one 14 false (.one 15 false (.one 18 false (.one 19 false (.one 20 false (.alt 1 (.one 5 false (.alt 6 (.one 11 false (.one 16 false (.one 17 false (.one 21 false (.one 22 false (.one 23 false (.one 24 true (.one 25 false (.one 26 false (.one 27 false (.one 28 false (.one 29 false .stop)))))))))))) (.alt 11 (.alt 6 (.one 16 false (.one 17 false (.one 21 false (.one 22 false (.one 23 false (.one 24 true (.one 25 false (.one 26 false (.one 27 false (.one 28 false (.one 29 false .stop))))))))))) (.alt 16 (.one 17 false (.alt 6 (.one 21 false (.one 22 false (.one 23 false (.one 24 true (.one 25 false (.one 26 false (.one 27 false (.one 28 false (.one 29 false .stop))))))))) (.one 21 false (.one 22 false (.one 23 false (.one 6 false (.one 24 true (.one 25 false (.one 26 false (.one 27 false (.one 28 false (.one 29 false .stop)))))))))))) (.one 21 false (.one 22 false (.alt 6 (.one 16 false (.one 17 false (.one 23 false (.one 24 true (.one 25 false (.one 26 false (.one 27 false (.one 28 false (.one 29 false .stop))))))))) (.one 16 false (.one 17 false (.one 23 false (.one 6 false (.one 24 true (.one 25 false (.one 26 false (.one 27 false (.one 28 false (.one 29 false .stop))))))))))))))) (.alt 16 (.alt 6 (.one 11 false (.one 17 false (.one 21 false (.one 22 false (.one 23 false (.one 24 true (.one 25 false (.one 26 false (.one 27 false (.one 28 false (.one 29 false .stop))))))))))) (.alt 11 (.one 17 false (.alt 6 (.one 21 false (.one 22 false (.one 23 false (.one 24 true (.one 25 false (.one 26 false (.one 27 false (.one 28 false (.one 29 false .stop))))))))) (.one 21 false (.one 22 false (.one 23 false (.one 6 false (.one 24 true (.one 25 false (.one 26 false (.one 27 false (.one 28 false (.one 29 false .stop)))))))))))) (.one 21 false (.one 22 false (.alt 6 (.one 11 false (.one 17 false (.one 23 false (.one 24 true (.one 25 false (.one 26 false (.one 27 false (.one 28 false (.one 29 false .stop))))))))) (.one 11 false (.one 17 false (.one 23 false (.one 6 false (.one 24 true (.one 25 false (.one 26 false (.one 27 false (.one 28 false (.one 29 false .stop))))))))))))))) (.one 21 false (.one 22 false (.alt 6 (.one 11 false (.one 16 false (.one 17 false (.one 23 false (.one 24 true (.one 25 false (.one 26 false (.one 27 false (.one 28 false (.one 29 false .stop)))))))))) (.alt 11 (.alt 6 (.one 16 false (.one 17 false (.one 23 false (.one 24 true (.one 25 false (.one 26 false (.one 27 false (.one 28 false (.one 29 false .stop))))))))) (.one 16 false (.one 17 false (.one 23 false (.one 6 false (.one 24 true (.one 25 false (.one 26 false (.one 27 false (.one 28 false (.one 29 false .stop))))))))))) (.one 16 false (.alt 6 (.one 11 false (.one 17 false (.one 23 false (.one 24 true (.one 25 false (.one 26 false (.one 27 false (.one 28 false (.one 29 false .stop))))))))) (.one 11 false (.one 17 false (.one 23 false (.one 6 false (.one 24 true (.one 25 false (.one 26 false (.one 27 false (.one 28 false (.one 29 false .stop)))))))))))))))))))) (.alt 5 (.alt 1 (.alt 6 (.one 11 false (.one 16 false (.one 17 false (.one 21 false (.one 22 false (.one 23 false (.one 24 true (.one 25 false (.one 26 false (.one 27 false (.one 28 false (.one 29 false .stop)))))))))))) (.alt 11 (.alt 6 (.one 16 false (.one 17 false (.one 21 false (.one 22 false (.one 23 false (.one 24 true (.one 25 false (.one 26 false (.one 27 false (.one 28 false (.one 29 false .stop))))))))))) (.alt 16 (.one 17 false (.alt 6 (.one 21 false (.one 22 false (.one 23 false (.one 24 true (.one 25 false (.one 26 false (.one 27 false (.one 28 false (.one 29 false .stop))))))))) (.one 21 false (.one 22 false (.one 23 false (.one 6 false (.one 24 true (.one 25 false (.one 26 false (.one 27 false (.one 28 false (.one 29 false .stop)))))))))))) (.one 21 false (.one 22 false (.alt 6 (.one 16 false (.one 17 false (.one 23 false (.one 24 true (.one 25 false (.one 26 false (.one 27 false (.one 28 false (.one 29 false .stop))))))))) (.one 16 false (.one 17 false (.one 23 false (.one 6 false (.one 24 true (.one 25 false (.one 26 false (.one 27 false (.one 28 false (.one 29 false .stop))))))))))))))) (.alt 16 (.alt 6 (.one 11 false (.one 17 false (.one 21 false (.one 22 false (.one 23 false (.one 24 true (.one 25 false (.one 26 false (.one 27 false (.one 28 false (.one 29 false .stop))))))))))) (.alt 11 (.one 17 false (.alt 6 (.one 21 false (.one 22 false (.one 23 false (.one 24 true (.one 25 false (.one 26 false (.one 27 false (.one 28 false (.one 29 false .stop))))))))) (.one 21 false (.one 22 false (.one 23 false (.one 6 false (.one 24 true (.one 25 false (.one 26 false (.one 27 false (.one 28 false (.one 29 false .stop)))))))))))) (.one 21 false (.one 22 false (.alt 6 (.one 11 false (.one 17 false (.one 23 false (.one 24 true (.one 25 false (.one 26 false (.one 27 false (.one 28 false (.one 29 false .stop))))))))) (.one 11 false (.one 17 false (.one 23 false (.one 6 false (.one 24 true (.one 25 false (.one 26 false (.one 27 false (.one 28 false (.one 29 false .stop))))))))))))))) (.one 21 false (.one 22 false (.alt 6 (.one 11 false (.one 16 false (.one 17 false (.one 23 false (.one 24 true (.one 25 false (.one 26 false (.one 27 false (.one 28 false (.one 29 false .stop)))))))))) (.alt 11 (.alt 6 (.one 16 false (.one 17 false (.one 23 false (.one 24 true (.one 25 false (.one 26 false (.one 27 false (.one 28 false (.one 29 false .stop))))))))) (.one 16 false (.one 17 false (.one 23 false (.one 6 false (.one 24 true (.one 25 false (.one 26 false (.one 27 false (.one 28 false (.one 29 false .stop))))))))))) (.one 16 false (.alt 6 (.one 11 false (.one 17 false (.one 23 false (.one 24 true (.one 25 false (.one 26 false (.one 27 false (.one 28 false (.one 29 false .stop))))))))) (.one 11 false (.one 17 false (.one 23 false (.one 6 false (.one 24 true (.one 25 false (.one 26 false (.one 27 false (.one 28 false (.one 29 false .stop))))))))))))))))))) (.alt 11 (.alt 1 (.alt 6 (.one 16 false (.one 17 false (.one 21 false (.one 22 false (.one 23 false (.one 24 true (.one 25 false (.one 26 false (.one 27 false (.one 28 false (.one 29 false .stop))))))))))) (.alt 16 (.one 17 false (.alt 6 (.one 21 false (.one 22 false (.one 23 false (.one 24 true (.one 25 false (.one 26 false (.one 27 false (.one 28 false (.one 29 false .stop))))))))) (.one 21 false (.one 22 false (.one 23 false (.one 6 false (.one 24 true (.one 25 false (.one 26 false (.one 27 false (.one 28 false (.one 29 false .stop)))))))))))) (.one 21 false (.one 22 false (.alt 6 (.one 16 false (.one 17 false (.one 23 false (.one 24 true (.one 25 false (.one 26 false (.one 27 false (.one 28 false (.one 29 false .stop))))))))) (.one 16 false (.one 17 false (.one 23 false (.one 6 false (.one 24 true (.one 25 false (.one 26 false (.one 27 false (.one 28 false (.one 29 false .stop))))))))))))))) (.alt 16 (.one 17 false (.alt 1 (.alt 6 (.one 21 false (.one 22 false (.one 23 false (.one 24 true (.one 25 false (.one 26 false (.one 27 false (.one 28 false (.one 29 false .stop))))))))) (.one 21 false (.one 22 false (.one 23 false (.one 6 false (.one 24 true (.one 25 false (.one 26 false (.one 27 false (.one 28 false (.one 29 false .stop))))))))))) (.one 21 false (.one 22 false (.one 23 false (.one 1 false (.one 6 false (.one 24 true (.one 25 false (.one 26 false (.one 27 false (.one 28 false (.one 29 false .stop))))))))))))) (.one 21 false (.one 22 false (.alt 1 (.alt 6 (.one 16 false (.one 17 false (.one 23 false (.one 24 true (.one 25 false (.one 26 false (.one 27 false (.one 28 false (.one 29 false .stop))))))))) (.one 16 false (.one 17 false (.one 23 false (.one 6 false (.one 24 true (.one 25 false (.one 26 false (.one 27 false (.one 28 false (.one 29 false .stop))))))))))) (.one 16 false (.one 17 false (.one 23 false (.one 1 false (.one 6 false (.one 24 true (.one 25 false (.one 26 false (.one 27 false (.one 28 false (.one 29 false .stop)))))))))))))))) (.alt 16 (.alt 1 (.alt 6 (.one 11 false (.one 17 false (.one 21 false (.one 22 false (.one 23 false (.one 24 true (.one 25 false (.one 26 false (.one 27 false (.one 28 false (.one 29 false .stop))))))))))) (.alt 11 (.one 17 false (.alt 6 (.one 21 false (.one 22 false (.one 23 false (.one 24 true (.one 25 false (.one 26 false (.one 27 false (.one 28 false (.one 29 false .stop))))))))) (.one 21 false (.one 22 false (.one 23 false (.one 6 false (.one 24 true (.one 25 false (.one 26 false (.one 27 false (.one 28 false (.one 29 false .stop)))))))))))) (.one 21 false (.one 22 false (.alt 6 (.one 11 false (.one 17 false (.one 23 false (.one 24 true (.one 25 false (.one 26 false (.one 27 false (.one 28 false (.one 29 false .stop))))))))) (.one 11 false (.one 17 false (.one 23 false (.one 6 false (.one 24 true (.one 25 false (.one 26 false (.one 27 false (.one 28 false (.one 29 false .stop))))))))))))))) (.alt 11 (.one 17 false (.alt 1 (.alt 6 (.one 21 false (.one 22 false (.one 23 false (.one 24 true (.one 25 false (.one 26 false (.one 27 false (.one 28 false (.one 29 false .stop))))))))) (.one 21 false (.one 22 false (.one 23 false (.one 6 false (.one 24 true (.one 25 false (.one 26 false (.one 27 false (.one 28 false (.one 29 false .stop))))))))))) (.one 21 false (.one 22 false (.one 23 false (.one 1 false (.one 6 false (.one 24 true (.one 25 false (.one 26 false (.one 27 false (.one 28 false (.one 29 false .stop))))))))))))) (.one 21 false (.one 22 false (.alt 1 (.alt 6 (.one 11 false (.one 17 false (.one 23 false (.one 24 true (.one 25 false (.one 26 false (.one 27 false (.one 28 false (.one 29 false .stop))))))))) (.one 11 false (.one 17 false (.one 23 false (.one 6 false (.one 24 true (.one 25 false (.one 26 false (.one 27 false (.one 28 false (.one 29 false .stop))))))))))) (.one 11 false (.one 17 false (.one 23 false (.one 1 false (.one 6 false (.one 24 true (.one 25 false (.one 26 false (.one 27 false (.one 28 false (.one 29 false .stop)))))))))))))))) (.one 21 false (.one 22 false (.alt 1 (.alt 6 (.one 11 false (.one 16 false (.one 17 false (.one 23 false (.one 24 true (.one 25 false (.one 26 false (.one 27 false (.one 28 false (.one 29 false .stop)))))))))) (.alt 11 (.alt 6 (.one 16 false (.one 17 false (.one 23 false (.one 24 true (.one 25 false (.one 26 false (.one 27 false (.one 28 false (.one 29 false .stop))))))))) (.one 16 false (.one 17 false (.one 23 false (.one 6 false (.one 24 true (.one 25 false (.one 26 false (.one 27 false (.one 28 false (.one 29 false .stop))))))))))) (.one 16 false (.alt 6 (.one 11 false (.one 17 false (.one 23 false (.one 24 true (.one 25 false (.one 26 false (.one 27 false (.one 28 false (.one 29 false .stop))))))))) (.one 11 false (.one 17 false (.one 23 false (.one 6 false (.one 24 true (.one 25 false (.one 26 false (.one 27 false (.one 28 false (.one 29 false .stop)))))))))))))) (.alt 11 (.alt 1 (.alt 6 (.one 16 false (.one 17 false (.one 23 false (.one 24 true (.one 25 false (.one 26 false (.one 27 false (.one 28 false (.one 29 false .stop))))))))) (.one 16 false (.one 17 false (.one 23 false (.one 6 false (.one 24 true (.one 25 false (.one 26 false (.one 27 false (.one 28 false (.one 29 false .stop))))))))))) (.one 16 false (.one 17 false (.one 23 false (.one 1 false (.one 6 false (.one 24 true (.one 25 false (.one 26 false (.one 27 false (.one 28 false (.one 29 false .stop)))))))))))) (.one 16 false (.alt 1 (.alt 6 (.one 11 false (.one 17 false (.one 23 false (.one 24 true (.one 25 false (.one 26 false (.one 27 false (.one 28 false (.one 29 false .stop))))))))) (.one 11 false (.one 17 false (.one 23 false (.one 6 false (.one 24 true (.one 25 false (.one 26 false (.one 27 false (.one 28 false (.one 29 false .stop))))))))))) (.one 11 false (.one 17 false (.one 23 false (.one 1 false (.one 6 false (.one 24 true (.one 25 false (.one 26 false (.one 27 false (.one 28 false (.one 29 false .stop)))))))))))))))))))) (.alt 11 (.alt 1 (.one 5 false (.alt 6 (.one 16 false (.one 17 false (.one 21 false (.one 22 false (.one 23 false (.one 24 true (.one 25 false (.one 26 false (.one 27 false (.one 28 false (.one 29 false .stop))))))))))) (.alt 16 (.one 17 false (.alt 6 (.one 21 false (.one 22 false (.one 23 false (.one 24 true (.one 25 false (.one 26 false (.one 27 false (.one 28 false (.one 29 false .stop))))))))) (.one 21 false (.one 22 false (.one 23 false (.one 6 false (.one 24 true (.one 25 false (.one 26 false (.one 27 false (.one 28 false (.one 29 false .stop)))))))))))) (.one 21 false (.one 22 false (.alt 6 (.one 16 false (.one 17 false (.one 23 false (.one 24 true (.one 25 false (.one 26 false (.one 27 false (.one 28 false (.one 29 false .stop))))))))) (.one 16 false (.one 17 false (.one 23 false (.one 6 false (.one 24 true (.one 25 false (.one 26 false (.one 27 false (.one 28 false (.one 29 false .stop)))))))))))))))) (.alt 5 (.alt 1 (.alt 6 (.one 16 false (.one 17 false (.one 21 false (.one 22 false (.one 23 false (.one 24 true (.one 25 false (.one 26 false (.one 27 false (.one 28 false (.one 29 false .stop))))))))))) (.alt 16 (.one 17 false (.alt 6 (.one 21 false (.one 22 false (.one 23 false (.one 24 true (.one 25 false (.one 26 false (.one 27 false (.one 28 false (.one 29 false .stop))))))))) (.one 21 false (.one 22 false (.one 23 false (.one 6 false (.one 24 true (.one 25 false (.one 26 false (.one 27 false (.one 28 false (.one 29 false .stop)))))))))))) (.one 21 false (.one 22 false (.alt 6 (.one 16 false (.one 17 false (.one 23 false (.one 24 true (.one 25 false (.one 26 false (.one 27 false (.one 28 false (.one 29 false .stop))))))))) (.one 16 false (.one 17 false (.one 23 false (.one 6 false (.one 24 true (.one 25 false (.one 26 false (.one 27 false (.one 28 false (.one 29 false .stop))))))))))))))) (.alt 16 (.one 17 false (.alt 1 (.alt 6 (.one 21 false (.one 22 false (.one 23 false (.one 24 true (.one 25 false (.one 26 false (.one 27 false (.one 28 false (.one 29 false .stop))))))))) (.one 21 false (.one 22 false (.one 23 false (.one 6 false (.one 24 true (.one 25 false (.one 26 false (.one 27 false (.one 28 false (.one 29 false .stop))))))))))) (.one 21 false (.one 22 false (.one 23 false (.one 1 false (.one 6 false (.one 24 true (.one 25 false (.one 26 false (.one 27 false (.one 28 false (.one 29 false .stop))))))))))))) (.one 21 false (.one 22 false (.alt 1 (.alt 6 (.one 16 false (.one 17 false (.one 23 false (.one 24 true (.one 25 false (.one 26 false (.one 27 false (.one 28 false (.one 29 false .stop))))))))) (.one 16 false (.one 17 false (.one 23 false (.one 6 false (.one 24 true (.one 25 false (.one 26 false (.one 27 false (.one 28 false (.one 29 false .stop))))))))))) (.one 16 false (.one 17 false (.one 23 false (.one 1 false (.one 6 false (.one 24 true (.one 25 false (.one 26 false (.one 27 false (.one 28 false (.one 29 false .stop)))))))))))))))) (.alt 16 (.one 17 false (.alt 1 (.one 5 false (.alt 6 (.one 21 false (.one 22 false (.one 23 false (.one 24 true (.one 25 false (.one 26 false (.one 27 false (.one 28 false (.one 29 false .stop))))))))) (.one 21 false (.one 22 false (.one 23 false (.one 6 false (.one 24 true (.one 25 false (.one 26 false (.one 27 false (.one 28 false (.one 29 false .stop)))))))))))) (.alt 5 (.alt 1 (.alt 6 (.one 21 false (.one 22 false (.one 23 false (.one 24 true (.one 25 false (.one 26 false (.one 27 false (.one 28 false (.one 29 false .stop))))))))) (.one 21 false (.one 22 false (.one 23 false (.one 6 false (.one 24 true (.one 25 false (.one 26 false (.one 27 false (.one 28 false (.one 29 false .stop))))))))))) (.one 21 false (.one 22 false (.one 23 false (.one 1 false (.one 6 false (.one 24 true (.one 25 false (.one 26 false (.one 27 false (.one 28 false (.one 29 false .stop)))))))))))) (.one 21 false (.one 22 false (.one 23 false (.alt 1 (.one 5 false (.one 6 false (.one 24 true (.one 25 false (.one 26 false (.one 27 false (.one 28 false (.one 29 false .stop)))))))) (.one 5 false (.one 1 false (.one 6 false (.one 24 true (.one 25 false (.one 26 false (.one 27 false (.one 28 false (.one 29 false .stop)))))))))))))))) (.one 21 false (.one 22 false (.alt 1 (.one 5 false (.alt 6 (.one 16 false (.one 17 false (.one 23 false (.one 24 true (.one 25 false (.one 26 false (.one 27 false (.one 28 false (.one 29 false .stop))))))))) (.one 16 false (.one 17 false (.one 23 false (.one 6 false (.one 24 true (.one 25 false (.one 26 false (.one 27 false (.one 28 false (.one 29 false .stop)))))))))))) (.alt 5 (.alt 1 (.alt 6 (.one 16 false (.one 17 false (.one 23 false (.one 24 true (.one 25 false (.one 26 false (.one 27 false (.one 28 false (.one 29 false .stop))))))))) (.one 16 false (.one 17 false (.one 23 false (.one 6 false (.one 24 true (.one 25 false (.one 26 false (.one 27 false (.one 28 false (.one 29 false .stop))))))))))) (.one 16 false (.one 17 false (.one 23 false (.one 1 false (.one 6 false (.one 24 true (.one 25 false (.one 26 false (.one 27 false (.one 28 false (.one 29 false .stop)))))))))))) (.one 16 false (.one 17 false (.one 23 false (.alt 1 (.one 5 false (.one 6 false (.one 24 true (.one 25 false (.one 26 false (.one 27 false (.one 28 false (.one 29 false .stop)))))))) (.one 5 false (.one 1 false (.one 6 false (.one 24 true (.one 25 false (.one 26 false (.one 27 false (.one 28 false (.one 29 false .stop)))))))))))))))))))) (.alt 16 (.alt 1 (.one 5 false (.alt 6 (.one 11 false (.one 17 false (.one 21 false (.one 22 false (.one 23 false (.one 24 true (.one 25 false (.one 26 false (.one 27 false (.one 28 false (.one 29 false .stop))))))))))) (.alt 11 (.one 17 false (.alt 6 (.one 21 false (.one 22 false (.one 23 false (.one 24 true (.one 25 false (.one 26 false (.one 27 false (.one 28 false (.one 29 false .stop))))))))) (.one 21 false (.one 22 false (.one 23 false (.one 6 false (.one 24 true (.one 25 false (.one 26 false (.one 27 false (.one 28 false (.one 29 false .stop)))))))))))) (.one 21 false (.one 22 false (.alt 6 (.one 11 false (.one 17 false (.one 23 false (.one 24 true (.one 25 false (.one 26 false (.one 27 false (.one 28 false (.one 29 false .stop))))))))) (.one 11 false (.one 17 false (.one 23 false (.one 6 false (.one 24 true (.one 25 false (.one 26 false (.one 27 false (.one 28 false (.one 29 false .stop)))))))))))))))) (.alt 5 (.alt 1 (.alt 6 (.one 11 false (.one 17 false (.one 21 false (.one 22 false (.one 23 false (.one 24 true (.one 25 false (.one 26 false (.one 27 false (.one 28 false (.one 29 false .stop))))))))))) (.alt 11 (.one 17 false (.alt 6 (.one 21 false (.one 22 false (.one 23 false (.one 24 true (.one 25 false (.one 26 false (.one 27 false (.one 28 false (.one 29 false .stop))))))))) (.one 21 false (.one 22 false (.one 23 false (.one 6 false (.one 24 true (.one 25 false (.one 26 false (.one 27 false (.one 28 false (.one 29 false .stop)))))))))))) (.one 21 false (.one 22 false (.alt 6 (.one 11 false (.one 17 false (.one 23 false (.one 24 true (.one 25 false (.one 26 false (.one 27 false (.one 28 false (.one 29 false .stop))))))))) (.one 11 false (.one 17 false (.one 23 false (.one 6 false (.one 24 true (.one 25 false (.one 26 false (.one 27 false (.one 28 false (.one 29 false .stop))))))))))))))) (.alt 11 (.one 17 false (.alt 1 (.alt 6 (.one 21 false (.one 22 false (.one 23 false (.one 24 true (.one 25 false (.one 26 false (.one 27 false (.one 28 false (.one 29 false .stop))))))))) (.one 21 false (.one 22 false (.one 23 false (.one 6 false (.one 24 true (.one 25 false (.one 26 false (.one 27 false (.one 28 false (.one 29 false .stop))))))))))) (.one 21 false (.one 22 false (.one 23 false (.one 1 false (.one 6 false (.one 24 true (.one 25 false (.one 26 false (.one 27 false (.one 28 false (.one 29 false .stop))))))))))))) (.one 21 false (.one 22 false (.alt 1 (.alt 6 (.one 11 false (.one 17 false (.one 23 false (.one 24 true (.one 25 false (.one 26 false (.one 27 false (.one 28 false (.one 29 false .stop))))))))) (.one 11 false (.one 17 false (.one 23 false (.one 6 false (.one 24 true (.one 25 false (.one 26 false (.one 27 false (.one 28 false (.one 29 false .stop))))))))))) (.one 11 false (.one 17 false (.one 23 false (.one 1 false (.one 6 false (.one 24 true (.one 25 false (.one 26 false (.one 27 false (.one 28 false (.one 29 false .stop)))))))))))))))) (.alt 11 (.one 17 false (.alt 1 (.one 5 false (.alt 6 (.one 21 false (.one 22 false (.one 23 false (.one 24 true (.one 25 false (.one 26 false (.one 27 false (.one 28 false (.one 29 false .stop))))))))) (.one 21 false (.one 22 false (.one 23 false (.one 6 false (.one 24 true (.one 25 false (.one 26 false (.one 27 false (.one 28 false (.one 29 false .stop)))))))))))) (.alt 5 (.alt 1 (.alt 6 (.one 21 false (.one 22 false (.one 23 false (.one 24 true (.one 25 false (.one 26 false (.one 27 false (.one 28 false (.one 29 false .stop))))))))) (.one 21 false (.one 22 false (.one 23 false (.one 6 false (.one 24 true (.one 25 false (.one 26 false (.one 27 false (.one 28 false (.one 29 false .stop))))))))))) (.one 21 false (.one 22 false (.one 23 false (.one 1 false (.one 6 false (.one 24 true (.one 25 false (.one 26 false (.one 27 false (.one 28 false (.one 29 false .stop)))))))))))) (.one 21 false (.one 22 false (.one 23 false (.alt 1 (.one 5 false (.one 6 false (.one 24 true (.one 25 false (.one 26 false (.one 27 false (.one 28 false (.one 29 false .stop)))))))) (.one 5 false (.one 1 false (.one 6 false (.one 24 true (.one 25 false (.one 26 false (.one 27 false (.one 28 false (.one 29 false .stop)))))))))))))))) (.one 21 false (.one 22 false (.alt 1 (.one 5 false (.alt 6 (.one 11 false (.one 17 false (.one 23 false (.one 24 true (.one 25 false (.one 26 false (.one 27 false (.one 28 false (.one 29 false .stop))))))))) (.one 11 false (.one 17 false (.one 23 false (.one 6 false (.one 24 true (.one 25 false (.one 26 false (.one 27 false (.one 28 false (.one 29 false .stop)))))))))))) (.alt 5 (.alt 1 (.alt 6 (.one 11 false (.one 17 false (.one 23 false (.one 24 true (.one 25 false (.one 26 false (.one 27 false (.one 28 false (.one 29 false .stop))))))))) (.one 11 false (.one 17 false (.one 23 false (.one 6 false (.one 24 true (.one 25 false (.one 26 false (.one 27 false (.one 28 false (.one 29 false .stop))))))))))) (.one 11 false (.one 17 false (.one 23 false (.one 1 false (.one 6 false (.one 24 true (.one 25 false (.one 26 false (.one 27 false (.one 28 false (.one 29 false .stop)))))))))))) (.one 11 false (.one 17 false (.one 23 false (.alt 1 (.one 5 false (.one 6 false (.one 24 true (.one 25 false (.one 26 false (.one 27 false (.one 28 false (.one 29 false .stop)))))))) (.one 5 false (.one 1 false (.one 6 false (.one 24 true (.one 25 false (.one 26 false (.one 27 false (.one 28 false (.one 29 false .stop)))))))))))))))))))) (.one 21 false (.one 22 false (.alt 1 (.one 5 false (.alt 6 (.one 11 false (.one 16 false (.one 17 false (.one 23 false (.one 24 true (.one 25 false (.one 26 false (.one 27 false (.one 28 false (.one 29 false .stop)))))))))) (.alt 11 (.alt 6 (.one 16 false (.one 17 false (.one 23 false (.one 24 true (.one 25 false (.one 26 false (.one 27 false (.one 28 false (.one 29 false .stop))))))))) (.one 16 false (.one 17 false (.one 23 false (.one 6 false (.one 24 true (.one 25 false (.one 26 false (.one 27 false (.one 28 false (.one 29 false .stop))))))))))) (.one 16 false (.alt 6 (.one 11 false (.one 17 false (.one 23 false (.one 24 true (.one 25 false (.one 26 false (.one 27 false (.one 28 false (.one 29 false .stop))))))))) (.one 11 false (.one 17 false (.one 23 false (.one 6 false (.one 24 true (.one 25 false (.one 26 false (.one 27 false (.one 28 false (.one 29 false .stop))))))))))))))) (.alt 5 (.alt 1 (.alt 6 (.one 11 false (.one 16 false (.one 17 false (.one 23 false (.one 24 true (.one 25 false (.one 26 false (.one 27 false (.one 28 false (.one 29 false .stop)))))))))) (.alt 11 (.alt 6 (.one 16 false (.one 17 false (.one 23 false (.one 24 true (.one 25 false (.one 26 false (.one 27 false (.one 28 false (.one 29 false .stop))))))))) (.one 16 false (.one 17 false (.one 23 false (.one 6 false (.one 24 true (.one 25 false (.one 26 false (.one 27 false (.one 28 false (.one 29 false .stop))))))))))) (.one 16 false (.alt 6 (.one 11 false (.one 17 false (.one 23 false (.one 24 true (.one 25 false (.one 26 false (.one 27 false (.one 28 false (.one 29 false .stop))))))))) (.one 11 false (.one 17 false (.one 23 false (.one 6 false (.one 24 true (.one 25 false (.one 26 false (.one 27 false (.one 28 false (.one 29 false .stop)))))))))))))) (.alt 11 (.alt 1 (.alt 6 (.one 16 false (.one 17 false (.one 23 false (.one 24 true (.one 25 false (.one 26 false (.one 27 false (.one 28 false (.one 29 false .stop))))))))) (.one 16 false (.one 17 false (.one 23 false (.one 6 false (.one 24 true (.one 25 false (.one 26 false (.one 27 false (.one 28 false (.one 29 false .stop))))))))))) (.one 16 false (.one 17 false (.one 23 false (.one 1 false (.one 6 false (.one 24 true (.one 25 false (.one 26 false (.one 27 false (.one 28 false (.one 29 false .stop)))))))))))) (.one 16 false (.alt 1 (.alt 6 (.one 11 false (.one 17 false (.one 23 false (.one 24 true (.one 25 false (.one 26 false (.one 27 false (.one 28 false (.one 29 false .stop))))))))) (.one 11 false (.one 17 false (.one 23 false (.one 6 false (.one 24 true (.one 25 false (.one 26 false (.one 27 false (.one 28 false (.one 29 false .stop))))))))))) (.one 11 false (.one 17 false (.one 23 false (.one 1 false (.one 6 false (.one 24 true (.one 25 false (.one 26 false (.one 27 false (.one 28 false (.one 29 false .stop))))))))))))))) (.alt 11 (.alt 1 (.one 5 false (.alt 6 (.one 16 false (.one 17 false (.one 23 false (.one 24 true (.one 25 false (.one 26 false (.one 27 false (.one 28 false (.one 29 false .stop))))))))) (.one 16 false (.one 17 false (.one 23 false (.one 6 false (.one 24 true (.one 25 false (.one 26 false (.one 27 false (.one 28 false (.one 29 false .stop)))))))))))) (.alt 5 (.alt 1 (.alt 6 (.one 16 false (.one 17 false (.one 23 false (.one 24 true (.one 25 false (.one 26 false (.one 27 false (.one 28 false (.one 29 false .stop))))))))) (.one 16 false (.one 17 false (.one 23 false (.one 6 false (.one 24 true (.one 25 false (.one 26 false (.one 27 false (.one 28 false (.one 29 false .stop))))))))))) (.one 16 false (.one 17 false (.one 23 false (.one 1 false (.one 6 false (.one 24 true (.one 25 false (.one 26 false (.one 27 false (.one 28 false (.one 29 false .stop)))))))))))) (.one 16 false (.one 17 false (.one 23 false (.alt 1 (.one 5 false (.one 6 false (.one 24 true (.one 25 false (.one 26 false (.one 27 false (.one 28 false (.one 29 false .stop)))))))) (.one 5 false (.one 1 false (.one 6 false (.one 24 true (.one 25 false (.one 26 false (.one 27 false (.one 28 false (.one 29 false .stop))))))))))))))) (.one 16 false (.alt 1 (.one 5 false (.alt 6 (.one 11 false (.one 17 false (.one 23 false (.one 24 true (.one 25 false (.one 26 false (.one 27 false (.one 28 false (.one 29 false .stop))))))))) (.one 11 false (.one 17 false (.one 23 false (.one 6 false (.one 24 true (.one 25 false (.one 26 false (.one 27 false (.one 28 false (.one 29 false .stop)))))))))))) (.alt 5 (.alt 1 (.alt 6 (.one 11 false (.one 17 false (.one 23 false (.one 24 true (.one 25 false (.one 26 false (.one 27 false (.one 28 false (.one 29 false .stop))))))))) (.one 11 false (.one 17 false (.one 23 false (.one 6 false (.one 24 true (.one 25 false (.one 26 false (.one 27 false (.one 28 false (.one 29 false .stop))))))))))) (.one 11 false (.one 17 false (.one 23 false (.one 1 false (.one 6 false (.one 24 true (.one 25 false (.one 26 false (.one 27 false (.one 28 false (.one 29 false .stop)))))))))))) (.one 11 false (.one 17 false (.one 23 false (.alt 1 (.one 5 false (.one 6 false (.one 24 true (.one 25 false (.one 26 false (.one 27 false (.one 28 false (.one 29 false .stop)))))))) (.one 5 false (.one 1 false (.one 6 false (.one 24 true (.one 25 false (.one 26 false (.one 27 false (.one 28 false (.one 29 false .stop))))))))))))))))))))))))))))))))))))))))
abbrev Gi(y:List Int)(x:Int):List AV:=((y.flatMap (Sh.int .u64).cells).take ((0+y.length)*1))++[.int .u64 x]
abbrev rM(l:Lay)(v:Nat)(y ws:List Int):Int:=bV ws (IntKind.i64.wrap (IntKind.i64.wrap ((v:Int)*l.words)+(y.length:Nat)))
theorem acw(y:List Int):(0+y.length)*1≤(([]:List AV).take (0*1)++y.flatMap (Sh.int .u64).cells).length:=by
 show (0+y.length)*1≤(y.flatMap (Sh.int .u64).cells).length
 rw[← jK,aP,cm];omega
theorem O6(y:List Int)(x:Int):((Gi y x).drop 0).take ((0+y.length+1)*1)=(y++[x]).flatMap (Sh.int .u64).cells:=by
 unfold Gi
 rw[← jK,← jK,fG,dU,dB,dB]
 unfold aP
 rw[dN (l:=y.map _) (by rw[cm];omega),cC]
 exact List.take_of_length_le (by simp)
theorem Q6(y:List Int)(x:Int):(y++[x]).length=0+y.length+1∧(Sh.int .u64).size=1∧0<1:=⟨by simp,rfl,by decide⟩
theorem QK(n:Int)(l:List aT)(a:Int)(σ:Hp)(hl:l.length≤100000)(h0:0≤n)(hn:n≤100000):ACalls Tryz.prog 171 [.int .i64 n,.af cb l,.int .i64 a] σ (aD (.af (.int .i64) (ax n l a)) σ):=by
 obtain⟨m,rfl⟩:∃m:Nat,n=m:=⟨n.toNat,by omega⟩
 exact RF m l a σ hl (by omega)
theorem RE(w m p:Nat)(s:Sy)(l:Lay)(me ev jo ae:Int)(v:Nat)(has:Bool)(nx out y:List Int)(ws:List Int)(σ:Hp)(hf:Fit s)(hg:Good s)(hv:(v:Int)<s.n)(W:Nat)(hl:l.words=W)(hW:W≤1024)(hy:y.length<W)(hV:y.length+1=W→mO s.ai s.w (y++[rM l v y ws])):
  ACalls Tryz.prog 117 [.ptr w 0,.ptr m 0] ((w,eg s l me ae v has nx out .aG .aG .aG (.af (.int .u64) y) ev jo false)::bu m p ws σ) (fun r σ'=>r=.tup []∧(if y.length+1=W then σ'=(w,eg s l me (if (ax s.n s.cI v).length=0 then 8 else 5) v has (ax s.n s.cI v) (kJ s (y++[rM l v y ws]) v) .aG .aG .aG .ak (wr (ev+1)) jo false)::bu m p ws σ else ∃b,σ'=(b,Gi y (rM l v y ws))::(w,eg s l me ae v has nx out .aG .aG .aG (.ah b 0 (0+y.length+1) 1) ev jo false)::bu m p ws σ)):=by
 have hyl:y.length≤1024:=by omega
 refine au Tryz.func117 ?_
 refine .quiet (by kernel_rfl) ?_
 refine aa 0 ?_
 refine aa 0 ?_
 refine aj (p:=(y.length:Int)<l.words) (fun c1=>?_) (fun c1=>absurd (show (y.length:Int)<l.words by omega) c1)
 refine fX.BK (S:=Nat) [24] abi (fun _=>[(0,.ptr w 0),(1,.ptr m 0)]) (fun b=>(b,Gi y (rM l v y ws))::(w,eg s l me ae v has nx out .aG .aG .aG (.ah b 0 (0+y.length+1) 1) ev jo false)::bu m p ws σ) (by kernel_rfl) ?_ ?_
 ·repeat' first
   |refine And.intro ?_ ?_
   |refine aa 0 ?_
   |refine aa 1 ?_
   |refine AppendAt.more 0 _ 0 y.length [] _ rfl rfl (cp rfl) (.af (.int .u64) y rfl) (by omega) (by decide) (by decide) (fun b'=>?_)
   |refine aK [3,3] (oK m p ws _ _) ?_
   |refine AppendAt.more 1 _ (0+y.length) 1 _ _ rfl rfl (acw y) (.ah 0 _ 0 1 _ rfl (cp rfl)) (by omega) (by decide) (by decide) (fun b2=>?_)
   |refine ag 2 ?_
   |(intro a)
   |exact⟨b2,⟨rfl,rfl,trivial⟩,.drop 1 1 (.refl _)⟩
 ·intro b g
  refine .quiet (by kernel_rfl) ?_
  refine aa 1 ?_
  refine aa 1 ?_
  refine aj (p:=((0+y.length+1:Nat):Int)<l.words) (fun c1=>?_) (fun c1=>?_)
  ·exact .done ⟨rfl,by rw[aA (by omega)];exact⟨b,rfl⟩⟩
  ·have hyW:y.length+1=W:=by omega
   refine aa 1 ?_
   refine ag 1 ?_
   refine .sched [] (upto [] 17 0) (by kernel_rfl) ?_
   refine aa 1 ?_
   refine aa 1 ?_
   refine aa 1 ?_
   refine .cH (args':=[.agg (a7 s),.int .i64 v,.af (.int .u64) (y++[rM l v y ws])]) 0 b 0 (0+y.length+1) 1 _ (.int .u64) (y++[rM l v y ws]) rfl (O6 y _) (Q6 y _) (cc (.refl _) (cc (.refl _) (cc .here qp))) ?_
   refine ar [] (QJ s v _ _ hf hg hv (hV hyW)) ?_
   refine ag 0 ?_
   refine ag 0 ?_
   refine .sched [15] (upto [15] 19 0) (by kernel_rfl) ?_
   refine aa 0 ?_
   refine aa 0 ?_
   refine aa 0 ?_
   refine aK [] (QK s.n s.cI v _ hf.ub (by omega) (by have:=hg.n2;omega)) ?_
   refine ag 0 ?_
   refine ar [] (Ji w s l me _ _ has _ _ .aG .aG .aG .ak _ jo false _) ?_
   exact .done ⟨rfl,by rw[az hyW]⟩
theorem aaD(w m p:Nat)(s:Sy)(l:Lay)(me ev jo ae:Int)(v:Nat)(has:Bool)(nx out:List Int)(ws:List Int)(σ:Hp)(hf:Fit s)(hg:Good s)(hv:(v:Int)<s.n)(hl:l.words=0)(hV:mO s.ai s.w []):
  ACalls Tryz.prog 117 [.ptr w 0,.ptr m 0] ((w,eg s l me ae v has nx out .aG .aG .aG (.af (.int .u64) []) ev jo false)::bu m p ws σ) (aD (.tup []) ((w,eg s l me (if (ax s.n s.cI v).length=0 then 8 else 5) v has (ax s.n s.cI v) (kJ s [] v) .aG .aG .aG .ak (wr (ev+1)) jo false)::bu m p ws σ)):=by
 refine au Tryz.func117 ?_
 refine .quiet (by kernel_rfl) ?_
 refine aa 0 ?_
 refine aa 0 ?_
 refine aj (p:=(0:Int)<l.words) (fun c1=>absurd c1 (by omega)) (fun c1=>?_)
 refine .quiet (by kernel_rfl) ?_
 refine aa 0 ?_
 refine aa 0 ?_
 refine aj (p:=(0:Int)<l.words) (fun c1=>absurd c1 (by omega)) (fun c2=>?_)
 refine aa 0 ?_
 refine ag 0 ?_
 refine .sched [] (upto [] 17 0) (by kernel_rfl) ?_
 refine aa 0 ?_
 refine aa 0 ?_
 refine aa 0 ?_
 refine ar [] (QJ s v [] _ hf hg hv hV) ?_
 refine ag 0 ?_
 refine ag 0 ?_
 refine .sched [15] (upto [15] 19 0) (by kernel_rfl) ?_
 refine aa 0 ?_
 refine aa 0 ?_
 refine aa 0 ?_
 refine aK [] (QK s.n s.cI v _ hf.ub (by omega) (by have:=hg.n2;omega)) ?_
 refine ag 0 ?_
 refine ar [] (Ji w s l me _ _ has _ _ .aG .aG .aG .ak _ jo false _) ?_
 exact .done ⟨rfl,rfl⟩
set_option maxHeartbeats 4000000
theorem aar(w r m p:Nat){s:Sy}{l:Lay}{me:Int}{x:WS}(d:Int)(ws:List Int)(σ:Hp)(hs:LS s l)(h:WV s l me x)(he:x.en=false)(hd:x.ae≤1):ACalls Tryz.prog 116 [.ptr w 0,.ptr m 0,.int .i64 d] (RB s l me w r x++bu m p ws σ) (jr s l me w m p x d ws σ):=by
 obtain⟨ev,jo,en,ae,now,node,has,nx,out⟩:=x
 have he:en=false:=he
 have hd:ae≤1:=hd
 subst he
 have ye:0≤ae∧ae≤8:=h.ae
 have hr:ae=1→2≤l.k:=h.Gh
 rcases h.now with h0 | ⟨h0,hk⟩
 ·have h0:now=.none:=h0
  subst h0
  rcases (show ae=0∨ae=1 by omega) with h1 | h1
  ·exact VH w m p s l me ev jo ae node has nx out d ws σ h1
  ·have:=R6 ⟨hr h1,hs.k2⟩
   exact TW w m p s l me ev jo ae node has nx out d ws σ h1 this.1 this.2
 ·cases now with
  |none=>exact h0.elim
  |pop q=>exact VI w r m p s l me ev jo ae q node has nx out d ws σ h0.1 h0.2.1
  |dO q=>exact TX w r m p s l me ev jo ae q node has nx out d ws σ h0.1 h0.2.1
  |quiet t=>exact absurd (show ae=2 from h0.1) (by omega)
  |clear t=>exact absurd (show ae=3 from h0.1) (by omega)
  |read y=>exact absurd (show ae=4 from h0.1) (by omega)
  |join j=>exact absurd (show ae=5 from h0.1) (by omega)
  |take t=>exact absurd (show ae=6 from h0.1) (by omega)
  |push q=>exact absurd (show ae=7 from h0.1) (by omega)
  |fU t=>exact absurd (show ae=8 from h0.1) (by omega)
theorem YQ(w r m p:Nat){s:Sy}{l:Lay}{me:Int}{x:WS}(d:Int)(ws:List Int)(σ:Hp)(h:WV s l me x)(he:x.en=false)(hd:x.ae=2∨x.ae=3∨x.ae=6∨x.ae=8):ACalls Tryz.prog 120 [.ptr w 0,.ptr m 0] (RB s l me w r x++bu m p ws σ) (jr s l me w m p x d ws σ):=by
 obtain⟨ev,jo,en,ae,now,node,has,nx,out⟩:=x
 have he:en=false:=he
 have hd:ae=2∨ae=3∨ae=6∨ae=8:=hd
 subst he
 have hh:ae=5∨ae=6∨ae=7→0<nx.length:=h.head
 have hn:∀u∈nx,0≤u∧u<s.n:=h.nx
 rcases h.now with h0 | ⟨h0,hk⟩
 ·have h0:now=.none:=h0
  subst h0
  rcases hd with h1 | h1 | h1 | h1
  ·exact Y3 w m p s l me ev jo ae node has nx out d ws σ h1
  ·exact Y1 w m p s l me ev jo ae node has nx out d ws σ h1
  ·cases nx with
   |nil=>exact absurd (hh (.inr (.inl h1))) (by decide)
   |cons z nx=>exact Xj w m p s l me ev jo ae z node has nx out d ws σ h1 (hn z (cF ..)).1
  ·exact Y0 w m p s l me ev jo ae node has nx out d ws σ h1
 ·cases now with
  |none=>exact h0.elim
  |pop q=>exact absurd (show ae=0 from h0.1) (by omega)
  |dO q=>exact absurd (show ae=1 from h0.1) (by omega)
  |quiet t=>exact hk.elim
  |clear t=>exact hk.elim
  |read y=>exact absurd (show ae=4 from h0.1) (by omega)
  |join j=>exact absurd (show ae=5 from h0.1) (by omega)
  |take t=>
   obtain⟨h1,jH,ht⟩:=h0
   have ht:t=⟨de l,da l,nx.headD 0,jH,false,jH⟩:=ht
   subst ht
   have hk:jH=true:=hk
   subst hk
   cases nx with
   |nil=>exact absurd (hh (.inr (.inl h1))) (by decide)
   |cons z nx=>exact Xk w r m p s l me ev jo ae z node has nx out d ws σ h1
  |push q=>exact absurd (show ae=7 from h0.1) (by omega)
  |fU t=>exact hk.elim
theorem aat(w r m p:Nat){s:Sy}{l:Lay}{me:Int}{x:WS}(d:Int)(ws:List Int)(σ:Hp)(h:WV s l me x)(he:x.en=false)(hd:x.ae=7):ACalls Tryz.prog 119 [.ptr w 0,.ptr m 0] (RB s l me w r x++bu m p ws σ) (jr s l me w m p x d ws σ):=by
 obtain⟨ev,jo,en,ae,now,node,has,nx,out⟩:=x
 have he:en=false:=he
 have hd:ae=7:=hd
 subst he
 have hh:ae=5∨ae=6∨ae=7→0<nx.length:=h.head
 have hp:0<nx.length:=hh (by omega)
 rcases h.now with h0 | ⟨h0,hk⟩
 ·have h0:now=.none:=h0
  subst h0
  cases nx with
  |nil=>exact absurd hp (by decide)
  |cons z nx=>exact aaE w m p s l me ev jo ae z node has nx out d ws σ hd
 ·cases now with
  |none=>exact h0.elim
  |pop q=>exact absurd (show ae=0 from h0.1) (by omega)
  |dO q=>exact absurd (show ae=1 from h0.1) (by omega)
  |quiet t=>exact hk.elim
  |clear t=>exact hk.elim
  |read y=>exact absurd (show ae=4 from h0.1) (by omega)
  |join j=>exact absurd (show ae=5 from h0.1) (by omega)
  |take t=>exact absurd (show ae=6 from h0.1) (by omega)
  |push q=>
   cases nx with
   |nil=>exact absurd hp (by decide)
   |cons z nx=>exact aaF w r m p s l me ev jo ae q z node has nx out d ws σ h0.2.1
  |fU t=>exact hk.elim
theorem aau(w r m p:Nat){s:Sy}{l:Lay}{me:Int}{x:WS}(d:Int)(ws:List Int)(σ:Hp)(h:WV s l me x)(he:x.en=false)(hw:MV s l ws)(hd:x.ae=5):ACalls Tryz.prog 118 [.ptr w 0,.ptr m 0] (RB s l me w r x++bu m p ws σ) (jr s l me w m p x d ws σ):=by
 obtain⟨ev,jo,en,ae,now,node,has,nx,out⟩:=x
 have he:en=false:=he
 have hd:ae=5:=hd
 subst he
 have hh:ae=5∨ae=6∨ae=7→0<nx.length:=h.head
 have hp:0<nx.length:=hh (.inl hd)
 have ho:ae=5∨ae=6∨ae=7→mO s.ai s.w out:=h.out
 have ho:bX out:=(ho (.inl hd)).fP
 rcases h.now with h0 | ⟨h0,hk⟩
 ·have h0:now=.none:=h0
  subst h0
  cases nx with
  |nil=>exact absurd hp (by decide)
  |cons z nx=>exact aaI w m p s l me ev jo ae z node has nx out d ws σ hd ⟨aY _,ho,xi⟩ hw.a64
 ·cases now with
  |none=>exact h0.elim
  |pop q=>exact absurd (show ae=0 from h0.1) (by omega)
  |dO q=>exact absurd (show ae=1 from h0.1) (by omega)
  |quiet t=>exact hk.elim
  |clear t=>exact hk.elim
  |read y=>exact absurd (show ae=4 from h0.1) (by omega)
  |join j=>
   obtain⟨-,⟨h2,h3,h4,h5⟩,h6,h7,h8,-⟩:=h0
   cases nx with
   |nil=>exact absurd hp (by decide)
   |cons z nx=>exact aaJ w r m p s l me ev jo ae j z node has nx out d ws σ ⟨by rw[show j.words=l.words from h4];exact h7,by rw[show j.a=out from h5];exact ho,h8⟩ hw.a64
  |take t=>exact absurd (show ae=6 from h0.1) (by omega)
  |push q=>exact absurd (show ae=7 from h0.1) (by omega)
  |fU t=>exact hk.elim
theorem aas(w r m p:Nat){s:Sy}{l:Lay}{me:Int}{x:WS}(d:Int)(ws:List Int)(σ:Hp)(hs:LS s l)(h:WV s l me x)(he:x.en=false)(hw:MV s l ws)(hd:x.ae=4):ACalls Tryz.prog 117 [.ptr w 0,.ptr m 0] (RB s l me w r x++bu m p ws σ) (jr s l me w m p x d ws σ):=by
 obtain⟨ev,jo,en,ae,now,node,has,nx,out⟩:=x
 have he:en=false:=he
 have hd:ae=4:=hd
 subst he
 have og:0≤node∧node<s.n:=h.node
 obtain⟨v,rfl⟩:=qV og.1
 have hv:v<nN s:=by have:=hs.nn;omega
 obtain⟨W,hW⟩:∃W,W=nW l:=⟨_,rfl⟩
 have rP:=hs.ww
 rw[← hW]at rP
 obtain⟨y,x6,Gl,hy3,hy4⟩:∃y:List Int,CB now=rA y∧oo l me ⟨ev,jo,false,ae,now,v,has,nx,out⟩ d=.read y∧(y.length<W∨(W=0∧y=[]))∧(∀i,i<y.length→ju s.ai s.w i (wd y i)):=by
  rcases h.now with h0 | ⟨h0,hk⟩
  ·have h0:now=.none:=h0
   subst h0
   refine⟨[],rfl,Kv hd,?_,fun i hi=>absurd hi (s7 _)⟩
   rcases r8 W with h | h
   ·exact .inr ⟨h,rfl⟩
   ·exact .inl h
  ·cases now with
   |none=>exact h0.elim
   |pop q=>exact absurd (show ae=0 from h0.1) (by omega)
   |dO q=>exact absurd (show ae=1 from h0.1) (by omega)
   |quiet t=>exact hk.elim
   |clear t=>exact hk.elim
   |read y=>exact⟨y,rfl,rfl,hW▸h0.2.1,h0.2.2⟩
   |join j=>exact absurd (show ae=5 from h0.1) (by omega)
   |take t=>exact absurd (show ae=6 from h0.1) (by omega)
   |push q=>exact absurd (show ae=7 from h0.1) (by omega)
   |fU t=>exact hk.elim
 have hb:RB s l me w r ⟨ev,jo,false,ae,now,v,has,nx,out⟩=[(w,eg s l me ae v has nx out .aG .aG .aG (rA y) ev jo false)]:=by
  rcases h.now with h0 | ⟨h0,hk⟩
  ·have h0:now=.none:=h0
   subst h0
   unfold RB
   rw[← x6];rfl
  ·cases now with
   |none=>exact h0.elim
   |pop q=>exact absurd (show ae=0 from h0.1) (by omega)
   |dO q=>exact absurd (show ae=1 from h0.1) (by omega)
   |quiet t=>exact hk.elim
   |clear t=>exact hk.elim
   |read z=>unfold RB;rw[← x6];rfl
   |join j=>exact absurd (show ae=5 from h0.1) (by omega)
   |take t=>exact absurd (show ae=6 from h0.1) (by omega)
   |push q=>exact absurd (show ae=7 from h0.1) (by omega)
   |fU t=>exact hk.elim
 rw[hb]
 obtain⟨y',ws',b,ao⟩:∃y' ws' b,nA bF l (df l v) y ws=(y',ws',b):=⟨_,_,_,rfl⟩
 obtain⟨rfl,k2,k3,k4⟩:=No hs hw hv (hW▸hy3) hy4 ao
 have oU:∀(R:AV→Hp→Prop),ACalls Tryz.prog 117 [.ptr w 0,.ptr m 0] ((w,eg s l me ae v has nx out .aG .aG .aG (.af (.int .u64) y) ev jo false)::bu m p ws' σ) R→ACalls Tryz.prog 117 [.ptr w 0,.ptr m 0] ((w,eg s l me ae v has nx out .aG .aG .aG (rA y) ev jo false)::bu m p ws' σ) R:=fun R hc=>by
  cases y with
  |nil=>exact ve (Bq 0 20 w _ (.int .u64) rfl rfl (.mk [] _ hc fun _ _ h=>h))
  |cons a y=>exact hc
 refine oU _ ?_
 have lv:∀Y,y'=Y→b=true→jr s l me w m p ⟨ev,jo,false,ae,now,v,has,nx,out⟩ d ws' σ (.tup []) ((w,eg s l me (if (ax s.n s.cI v).length=0 then 8 else 5) v has (ax s.n s.cI v) (kJ s Y v) .aG .aG .aG .ak (wr (ev+1)) jo false)::bu m p ws' σ):=fun Y hY hb=>by
  subst hY
  have hE:nS s v y'=0:=Pb ((D8 (On hs.kO) og).symm) (k4 hb).v
  exact eN (y:=⟨wr (ev+1),jo,false,tH s v,.none,v,has,ax s.n s.cI v,kJ s y' v⟩) rfl Gl (tB ao) hb (YE hE) rfl
 rcases hy3 with ab | ⟨h0,rfl⟩
 ·have Kd:y.length<cw l.words:=by rw[show cw l.words=W from hW.symm];exact ab
  have mb:=abd (base:=df l v) (ws:=ws') Kd (x:=rM l v y ws') rfl
  rw[ao]at mb
  have wj:y'=y++[rM l v y ws']:=congrArg Prod.fst mb
  have nq:b=decide (y.length+1=cw l.words):=congrArg (fun z:List Int×List Int×Bool=>z.2.2) mb
  rw[show cw l.words=W from hW.symm]at nq
  by_cases o6:y.length+1=W
  ·have hbt:b=true:=by rw[nq];exact bj o6
   refine (RE w m p s l me ev jo ae v has nx out y ws' σ hs.fit hs.kO og.2 W rP.1 rP.2 ab (fun _=>wj▸k4 hbt)).mono ?_
   rintro _ σ' ⟨rfl,h2⟩
   rw[az o6]at h2
   subst h2
   exact lv _ wj hbt
  ·have Lp:b=false:=by rw[nq];exact cy o6
   refine UL (RE w m p s l me ev jo ae v has nx out y ws' σ hs.fit hs.kO og.2 W rP.1 rP.2 ab (fun h=>absurd h o6)) ?_
   rintro _ σ' ⟨rfl,h2⟩
   rw[aA o6]at h2
   obtain⟨b',rfl⟩:=h2
   refine⟨rfl,0,b',0,0+y.length+1,1,_,.int .u64,y++[rM l v y ws'],0,20,w,_,rfl,O6 y _,Q6 y _,rfl,rfl,?_⟩
   have hF:=sq (s:=s) (l:=l) (who:=me) (w:=w) (m:=m) (p:=p) (σ:=σ) r (show (⟨ev,jo,false,ae,now,v,has,nx,out⟩:WS).en=false from rfl) Gl (tB ao) Lp
   rw[wj]at hF
   unfold RB at hF
   rw[show CB (Nw.read (y++[rM l v y ws']))=.af (.int .u64) (y++[rM l v y ws']) from ZD _ _]at hF
   exact hF
 ·have J6:nA bF l (df l v) [] ws'=([],ws',true):=aA (by rw[show cw l.words=W from hW.symm,h0];decide)
  rw[ao]at J6
  have wj:y'=[]:=congrArg Prod.fst J6
  have nq:b=true:=congrArg (fun z:List Int×List Int×Bool=>z.2.2) J6
  refine (aaD w m p s l me ev jo ae v has nx out ws' σ hs.fit hs.kO og.2 (by rw[rP.1,h0];rfl) (wj▸k4 nq)).mono ?_
  rintro _ σ' ⟨rfl,rfl⟩
  exact lv _ wj nq
theorem OQ{s:Sy}{l:Lay}{who:Int}{x:WS}{d:Int}{ws:List Int}(he:x.en=false):(cW bF s l who x d ws).2.2=(cW bF s l who x d ws).1.en:=by
 unfold cW
 rw[aA (by rw[he];decide)]
 split
 ·rfl
 ·exact he.symm
theorem YU(w r m p:Nat){s:Sy}{l:Lay}{me:Int}{x:WS}(d:Int)(ws:List Int)(σ:Hp)(hs:LS s l)(h:WV s l me x)(hw:MV s l ws):ACalls Tryz.prog 60 [.ptr w 0,.ptr m 0,.int .i64 d] (RB s l me w r x++bu m p ws σ) (fun z σ'=>∃r',z=.bool (cW bF s l me x d ws).2.2∧σ'=RB s l me w r' (cW bF s l me x d ws).1++bu m p (cW bF s l me x d ws).2.1 σ):=by
 cases he:x.en with
 |true=>
  have ao:cW bF s l me x d ws=(x,ws,true):=az he
  rw[ao]
  obtain⟨ev,jo,en,ae,now,node,has,nx,out⟩:=x
  have he:en=true:=he
  subst he
  refine au Tryz.func60 ?_
  refine aa 0 ?_
  exact .done ⟨r,rfl,rfl⟩
 |false=>
  have hT:=fun hd=>aar w r m p d ws σ hs h he hd
  have hB:=fun hd=>YQ w r m p d ws σ h he hd
  have hP:=fun hd=>aat w r m p d ws σ h he hd
  have hJ:=fun hd=>aau w r m p d ws σ h he hw hd
  have hR:=fun hd=>aas w r m p d ws σ hs h he hw hd
  have hen:=OQ (s:=s) (l:=l) (who:=me) (d:=d) (ws:=ws) he
  unfold jr at hT hB hP hJ hR
  rw[hen]
  have ye:=h.ae
  generalize cW bF s l me x d ws=S at hT hB hP hJ hR ⊢
  obtain⟨x',ws',b⟩:=S
  obtain⟨ev,jo,en,ae,now,node,has,nx,out⟩:=x
  have he:en=false:=he
  have ye:0≤ae∧ae≤8:=ye
  subst he
  refine au Tryz.func60 ?_
  refine aa 0 ?_
  refine aa 0 ?_
  refine aj (fun c1=>?_) (fun c1=>?_)
  ·have c1:ae≤1:=c1
   (refine .mk [] _ (hT (by assumption)) ?_;rintro _ _ ⟨r',rfl,rfl⟩)
   refine aa 0 ?_
   exact .done ⟨r',rfl,rfl⟩
  ·have c1:¬(ae≤1):=c1
   refine aa 0 ?_
   refine aj (fun c2=>?_) (fun c2=>?_)
   ·have c2:ae=4:=c2
    (refine .mk [] _ (hR (by assumption)) ?_;rintro _ _ ⟨r',rfl,rfl⟩)
    refine aa 0 ?_
    exact .done ⟨r',rfl,rfl⟩
   ·have c2:¬(ae=4):=c2
    refine aa 0 ?_
    refine aj (fun c3=>?_) (fun c3=>?_)
    ·have c3:ae=5:=c3
     (refine .mk [] _ (hJ (by assumption)) ?_;rintro _ _ ⟨r',rfl,rfl⟩)
     refine aa 0 ?_
     exact .done ⟨r',rfl,rfl⟩
    ·have c3:¬(ae=5):=c3
     refine aa 0 ?_
     refine aj (fun c4=>?_) (fun c4=>?_)
     ·have c4:ae=7:=c4
      (refine .mk [] _ (hP (by assumption)) ?_;rintro _ _ ⟨r',rfl,rfl⟩)
      refine aa 0 ?_
      exact .done ⟨r',rfl,rfl⟩
     ·have c4:¬(ae=7):=c4
      (refine .mk [] _ (hB (by show ae=2∨ae=3∨ae=6∨ae=8;omega)) ?_;rintro _ _ ⟨r',rfl,rfl⟩)
      refine aa 0 ?_
      exact .done ⟨r',rfl,rfl⟩
theorem aaH(l:Lay)(σ:Hp):ACalls Tryz.prog 40 [.agg (cU l)] σ (aD (.int .i64 (dY l l.k)) σ):=by
 refine au Tryz.func40 ?_
 intro aB
 refine aa 0 ?_
 refine aa 0 ?_
 refine ar [] (Be l _ _) ?_
 exact .drop 0 1 (.done ⟨rfl,rfl⟩)
theorem Il{s:Sy}{k:Int}(h:cO s k=0):eG s=0∧1≤k∧k≤64:=by
 unfold cO at h
 split at h
 ·split at h
  ·exact⟨by assumption,by assumption⟩
  ·cases h
 ·exact absurd h (by assumption)
theorem BL{s:Sy}{k:Int}(hf:Fit s)(h:cO s k=0):LS s (gH s k)∧(gH s k).k=k:=by
 obtain⟨h1,h2⟩:=Il h
 have e:∀z,pR (cO s k) z=z:=fun z=>az h
 exact⟨⟨hf,IQ h1,e _,e _,e _,by rw[show (gH s k).k=k from e _];exact h2.1,by rw[show (gH s k).k=k from e _];exact h2.2⟩,e _⟩
def fL(l:Lay):Nat:=(dY l l.k).toNat
section
variable {s:Sy} {l:Lay} (hs:LS s l)
include hs
theorem LS.kk:∃k:Nat,l.k=k∧1≤k∧k≤64:=⟨l.k.toNat,by have:=hs.k1;have:=hs.k2;omega⟩
theorem LS.size:dY l l.k=(fL l:Int)∧fL l≤1000000∧nY (dY l l.k)=fL l:=by
 obtain⟨k,hk,jE,cY⟩:=hs.kk
 have hd:=hs.xF cY
 have h1:=hs.nn
 have h2:=hs.ww
 have h3:=sx h1.2.2 h2.2
 have h4:k*(nN s+3)≤64*259:=qa cY (by omega)
 unfold fL nY
 rw[hk,hd]
 omega
theorem LS.acU{k:Nat}(hk:(k:Int)<l.k):∃a:Nat,dY l k=(a:Int)∧nN s*nW l+nN s<a∧a+nN s+3≤fL l:=by
 obtain⟨m,hm,Lb,sU⟩:=hs.kk
 have hd:=hs.xF (k:=k) (by omega)
 have o7:=hs.xF sU
 have h5:(k+1)*(nN s+3)≤m*(nN s+3):=pf _ (by omega)
 rw[uO]at h5
 refine⟨_,hd,by omega,?_⟩
 unfold fL
 rw[hm,o7]
 omega
theorem LS.low:nN s*nW l+nN s<fL l:=by
 obtain⟨m,hm,Lb,sU⟩:=hs.kk
 have o7:=hs.xF sU
 unfold fL
 rw[hm,o7]
 omega
end
theorem MV.ab7{s:Sy}{l:Lay}{ws:List Int}(h:MV s l ws){a:Nat}{x:Int}(ha:nN s*nW l≤a)(hx:bP x):MV s l (ws.set a x):=by
 rw[← mn]
 exact h.yJ (by omega) hx
theorem MV.XC{s:Sy}{l:Lay}{ws:List Int}(h:MV s l ws){u j:Nat}{x:Int}(hj:j<nW l)(hx:ju s.ai s.w j x):MV s l (ws.set (u*nW l+j) x):=by
 rw[← mn]
 exact h.Nd hj hx
theorem ZY(s:Sy)(l:Lay)(n:Nat):MV s l (List.replicate n 0):=⟨fun z hz=>by rw[G6 hz];exact xi,fun v i _ _=>by
 have:(List.replicate n (0:Int)).getD (v*nW l+i) 0=0:=by
  rw[bO,wW];split <;> rfl
 rw[this];exact UR _ _ _⟩
def oV(s:Sy)(l:Lay)(ws:List Int):Prop:=ws.length=fL l∧MV s l ws
theorem oV.hi{s:Sy}{l:Lay}{ws:List Int}(h:oV s l ws){a:Nat}{x:Int}(ha:nN s*nW l≤a)(hx:bP x):oV s l (ws.set a x):=⟨by rw[dV];exact h.1,h.2.ab7 ha hx⟩
theorem Ie:∀{l m:List Int},l.Nodup→(∀x∈l,x∈m)→l.length≤m.length
 | [],_,_,_=>aY _
 |a::l,m,hd,h=>by
  have hd:=mJ.1 hd
  have ha:=h a (cF ..)
  have h1:=Ie (l:=l) (m:=m.erase a) hd.2 fun x hx=>(LU (fun e:x=a=>hd.1 (by rw[← e];exact hx))).2 (h x (dy _ hx))
  rw[List.length_erase_of_mem ha]at h1
  have:=AB ha
  rw[iE];omega
inductive Rx(nx:Int→List Int):Int→Int→Prop where
 |refl (a:Int):Rx nx a a
 |step {a b c:Int} (h:Rx nx a b) (hc:c∈nx b):Rx nx a c
theorem Rx.trans{nx:Int→List Int}{a b c:Int}(h1:Rx nx a b)(h2:Rx nx b c):Rx nx a c:=by
 induction h2 with
 |refl=>exact h1
 |step _ hc ih=>exact .step ih hc
theorem Rx.one{nx:Int→List Int}{a b:Int}(h:b∈nx a):Rx nx a b:=.step (.refl a) h
def oQ(f:Int→Int)(a v:Int):Int→Int:=fun y=>if y=a then v else f y
theorem pr{f:Int→Int}{a v y:Int}(h:y≠a):oQ f a v y=f y:=aA h
theorem pt{f:Int→Int}{a v:Int}:oQ f a v a=v:=az rfl
structure qh(n:Nat)(nx:Int→List Int)(P:List (List Int)):Prop where
 ne:∀p∈P,p≠[]
 node:∀p∈P,∀x∈p,0≤x∧x<(n:Int)
 nd:P.flatten.Nodup
 zM:∀p∈P,p.Pairwise (· < ·)
 Md:∀p∈P,∀x∈p,∀y∈p,Rx nx x y
 He:∀(i:Nat) (p:List Int),P[i]?=some p→∀x∈p,∀y∈nx x,∃(j:Nat) (q:List Int),j≤i∧P[j]?=some q∧y∈q
theorem qh.nil(n:Nat)(nx:Int→List Int):qh n nx []:=⟨fun _ h=>(by cases h),fun _ h=>(by cases h),List.nodup_nil,fun _ h=>(by cases h),fun _ h=>(by cases h),fun i p h=>by simp at h⟩
theorem qh.reach{n:Nat}{nx:Int→List Int}{P:List (List Int)}(h:qh n nx P){x y:Int}(hr:Rx nx x y)(hx:∃p∈P,x∈p):∃p∈P,y∈p:=by
 induction hr with
 |refl=>exact hx
 |step _ hc ih=>
  obtain⟨p,hp,hb⟩:=ih
  obtain⟨i,hi⟩:=yn hp
  obtain⟨j,q,_,hq,hy⟩:=h.He i p hi _ hb _ hc
  exact⟨q,dm hq,hy⟩
structure TJ(n:Nat)(nx:Int→List Int)(f L:Int→Int)(st:List Int)(aV:Nat)(P:List (List Int))(W:List Int):Prop where
 node:∀x∈st,0≤x∧x<(n:Int)
 inc:st.Pairwise fun x y=>f x<f y
 rL:∀x∈st,1≤f x∧f x≤aV
 vZ:∀x:Int,0≤x→x<n→(f x≠0↔x∈st∨∃p∈P,x∈p)
 yy:∀p∈P,∀x∈p,x ∉ st
 len:aV=st.length+P.flatten.length
 sub:W.Sublist st
 top:∀x∈st,∃v∈W,f v≤f x
 xY:∀v∈W,∀x∈st,f v≤f x→Rx nx v x
 fin:∀x∈st,x ∉ W→(∀y∈nx x,f y≠0)∧∃y∈st,f y<f x∧Rx nx x y
 low:∀v∈W,L v≤f v∧∃y∈st,f y=L v∧Rx nx v y
 zN:∀v∈W,∀x∈st,x ∉ W→f v<f x→(∀u∈W,f u≤f x→f u≤f v)→∀y∈nx x,y∈st→L v≤f y
 prt:qh n nx P
def Prc(nx:Int→List Int)(f L:Int→Int)(st:List Int)(gR:List (Int×Nat)):Prop:=∀t∈gR,∀y∈(nx t.1).take t.2,f y≠0∧(y∈st→L t.1≤f y)
theorem HB{f:Int→Int}:∀{st:List Int},st.Pairwise (fun x y=>f x<f y)→∀{x y:Int},x∈st→y∈st→f x=f y→x=y
 | [],_,_,_,hx,_,_=>by cases hx
 |a::st,h,x,y,hx,hy,e=>by
  obtain⟨h1,h2⟩:=wQ.1 h
  rcases ei.1 hx with e1 | K1
  ·rcases ei.1 hy with e2 | x6
   ·rw[e1,e2]
   ·have:=h1 y x6;rw[e1]at e;omega
  ·rcases ei.1 hy with e2 | x6
   ·have:=h1 x K1;rw[e2]at e;omega
   ·exact HB h2 K1 x6 e
theorem tg{f:Int→Int}{st:List Int}(h:st.Pairwise (fun x y=>f x<f y)):st.Nodup:=h.imp fun a6 e=>by subst e;omega
theorem Bc{f:Int→Int}{st w:List Int}{v:Int}(h:st.Pairwise (fun x y=>f x<f y))(hs:(w++[v]).Sublist st):∀u∈w,f u<f v:=by
 have:=h.sublist hs
 intro u hu
 exact (GX.1 this).2.2 u hu v (bE.2 rfl)
variable {n:Nat} {nx:Int→List Int} {f L:Int→Int} {st:List Int} {aV:Nat} {P:List (List Int)}
theorem TJ.start(h:∀x,f x=0):TJ n nx f L [] 0 [] []:=
 ⟨fun _ h=>(by cases h),.nil,fun _ h=>(by cases h),fun x _ _=>by simp[h],fun _ h=>(by cases h),rfl,.slnil,fun _ h=>(by cases h),fun _ h=>(by cases h),fun _ h=>(by cases h),fun _ h=>(by cases h),fun _ h=>(by cases h),.nil n nx⟩
theorem TJ.enter{W:List Int}{b:Int}(h:TJ n nx f L st aV P W)(hb:0≤b∧b<n)(hf:f b=0)(hW:∀v∈W,Rx nx v b):TJ n nx (oQ f b (aV+1)) (oQ L b (aV+1)) (st++[b]) (aV+1) P (W++[b]):=by
 have im:b ∉ st:=fun hm=>by have:=h.rL b hm;omega
 have hbW:b ∉ W:=fun hm=>im (h.sub.subset hm)
 have iN:∀x∈st,oQ f b (aV+1) x=f x:=fun x hx=>pr fun e=>im (e▸hx)
 have hL1:∀x∈W,oQ L b (aV+1) x=L x:=fun x hx=>pr fun e=>hbW (e▸hx)
 have Aa:oQ f b (aV+1) b=(aV+1:Nat):=by rw[pt];rfl
 have Ae:=h.sub.subset
 refine⟨fun x hx=>?_,?_,fun x hx=>?_,fun x h0 h1=>?_,fun p hp x hx=>?_,by have:=h.len;rw[bG,yv];omega,h.sub.append (.refl _),fun x hx=>?_,fun v hv x hx hle=>?_,fun x hx lD=>?_,fun v hv=>?_,fun v hv x hx lD ab jT y hy kr=>?_,h.prt⟩
 ·rcases bU.1 hx with hx | hx
  ·exact h.node x hx
  ·rw[bE.1 hx];exact hb
 ·refine GX.2 ⟨h.inc.imp_of_mem fun {x y} hx hy a6=>?_,List.pairwise_singleton ..,fun x hx y hy=>?_⟩
  ·rw[iN x hx,iN y hy];exact a6
  ·rw[bE.1 hy,iN x hx,Aa]
   have:=(h.rL x hx).2;omega
 ·rcases bU.1 hx with hx | hx
  ·rw[iN x hx];have:=h.rL x hx;omega
  ·rw[bE.1 hx,Aa];omega
 ·by_cases e:x=b
  ·subst e
   exact⟨fun _=>.inl (iO _ (bE.2 rfl)),fun _=>by rw[Aa];omega⟩
  ·rw[pr e,h.vZ x h0 h1,bU,bE]
   exact or_congr_left ⟨.inl,fun h=>h.resolve_right e⟩
 ·rw[bU,bE]
  rintro (hm | rfl)
  ·exact h.yy p hp x hx hm
  ·exact ((h.vZ x hb.1 hb.2).2 (.inr ⟨p,hp,hx⟩)) hf
 ·rcases bU.1 hx with hx | hx
  ·obtain⟨v,hv,hle⟩:=h.top x hx
   exact⟨v,gF _ hv,by rw[iN v (Ae hv),iN x hx];exact hle⟩
  ·rw[bE.1 hx]
   exact⟨b,iO _ (bE.2 rfl),dA _⟩
 ·rcases bU.1 hv with hv | hv
  ·rcases bU.1 hx with hx | hx
   ·rw[iN v (Ae hv),iN x hx]at hle
    exact h.xY v hv x hx hle
   ·rw[bE.1 hx];exact hW v hv
  ·rw[bE.1 hv]at hle ⊢
   rcases bU.1 hx with hx | hx
   ·rw[Aa,iN x hx]at hle
    have:=(h.rL x hx).2;omega
   ·rw[bE.1 hx];exact .refl _
 ·rw[bU,bE]at lD
  have hx:x∈st:=by
   rcases bU.1 hx with hx | hx
   ·exact hx
   ·exact absurd (.inr (bE.1 hx)) lD
  obtain⟨h1,y,hy,h2,h3⟩:=h.fin x hx fun hm=>lD (.inl hm)
  refine⟨fun y hy=>?_,y,gF _ hy,by rw[iN y hy,iN x hx];exact h2,h3⟩
  by_cases e:y=b
  ·subst e;rw[Aa];omega
  ·rw[pr e];exact h1 y hy
 ·rcases bU.1 hv with hv | hv
  ·obtain⟨h1,y,hy,h2,h3⟩:=h.low v hv
   rw[hL1 v hv,iN v (Ae hv)]
   exact⟨h1,y,gF _ hy,by rw[iN y hy];exact h2,h3⟩
  ·rw[bE.1 hv,pt,pt]
   exact⟨dA _,b,iO _ (bE.2 rfl),pt,.refl _⟩
 ·rw[bU,bE]at lD
  have hx:x∈st:=by
   rcases bU.1 hx with hx | hx
   ·exact hx
   ·exact absurd (.inr (bE.1 hx)) lD
  rcases bU.1 hv with hv | hv
  ·rw[hL1 v hv]
   rw[iN v (Ae hv),iN x hx]at ab
   have hyb:y≠b:=fun e=>(h.fin x hx fun hm=>lD (.inl hm)).1 y hy (e▸hf)
   have kr:y∈st:=by
    rcases bU.1 kr with kr | kr
    ·exact kr
    ·exact absurd (bE.1 kr) hyb
   rw[iN y kr]
   refine h.zN v hv x hx (fun hm=>lD (.inl hm)) ab (fun u hu hle=>?_) y hy kr
   have:=jT u (gF _ hu)
   rw[iN u (Ae hu),iN x hx,iN v (Ae hv)]at this
   exact this hle
  ·rw[bE.1 hv,Aa,iN x hx]at ab
   have:=(h.rL x hx).2;omega
theorem TJ.lower{w:List Int}{v z:Int}(h:TJ n nx f L st aV P (w++[v]))(hz:z∈st)(hr:Rx nx v z):TJ n nx f (oQ L v (min (L v) (f z))) st aV P (w++[v]):=by
 have hd:(w++[v]).Nodup:=(tg h.inc).sublist h.sub
 have hvw:v ∉ w:=fun hm=>(ml.1 hd).2.2 v hm v (bE.2 rfl) rfl
 refine⟨h.node,h.inc,h.rL,h.vZ,h.yy,h.len,h.sub,h.top,h.xY,h.fin,fun u hu=>?_,fun u hu x hx lD ab jT y hy kr=>?_,h.prt⟩
 ·by_cases e:u=v
  ·subst e
   rw[pt]
   obtain⟨h1,y,hy,h2,h3⟩:=h.low u hu
   refine⟨by omega,?_⟩
   by_cases c:L u≤f z
   ·exact⟨y,hy,by rw[h2];omega,h3⟩
   ·exact⟨z,hz,by omega,hr⟩
  ·rw[pr e];exact h.low u hu
 ·have:=h.zN u hu x hx lD ab jT y hy kr
  by_cases e:u=v
  ·subst e;rw[pt];omega
  ·rw[pr e];exact this
theorem TJ.up{w:List Int}{u v:Int}(h:TJ n nx f L st aV P (w++[u]++[v]))(ab:L v<f v)(bQ:∀y∈nx v,f y≠0∧(y∈st→L v≤f y)):TJ n nx f (oQ L u (min (L u) (L v))) st aV P (w++[u]):=by
 have hd:(w++[u]++[v]).Nodup:=(tg h.inc).sublist h.sub
 have hvw:v ∉ w++[u]:=fun hm=>(ml.1 hd).2.2 v hm v (bE.2 rfl) rfl
 have fR:u ∉ w:=fun hm=>(ml.1 (ml.1 hd).1).2.2 u hm u (bE.2 rfl) rfl
 have huv:u≠v:=fun e=>hvw (e▸iO _ (bE.2 rfl))
 have lu:=Bc h.inc h.sub
 have acJ:=Bc h.inc ((List.sublist_append_left _ _).trans h.sub)
 have Gp:u∈w++[u]:=iO _ (bE.2 rfl)
 have zU:v∈w++[u]++[v]:=iO _ (bE.2 rfl)
 have cg:v∈st:=h.sub.subset zU
 have hfuv:f u<f v:=lu u Gp
 obtain⟨o6,z,hz,oa,hzr⟩:=h.low v zU
 refine⟨h.node,h.inc,h.rL,h.vZ,h.yy,h.len,(List.sublist_append_left _ _).trans h.sub,fun x hx=>?_,fun a ha=>h.xY a (gF _ ha),fun x hx lD=>?_,fun a ha=>?_,fun a ha x hx lD db jT y hy kr=>?_,h.prt⟩
 ·obtain⟨a,ha,hle⟩:=h.top x hx
  rcases bU.1 ha with ha | ha
  ·exact⟨a,ha,hle⟩
  ·rw[bE.1 ha]at hle
   exact⟨u,Gp,by omega⟩
 ·by_cases e:x=v
  ·subst e
   exact⟨fun y hy=>(bQ y hy).1,z,hz,by omega,hzr⟩
  ·exact h.fin x hx fun hm=>by
    rcases bU.1 hm with hm | hm
    ·exact lD hm
    ·exact e (bE.1 hm)
 ·obtain⟨h1,y,hy,h2,h3⟩:=h.low a (gF _ ha)
  by_cases e:a=u
  ·subst e
   rw[pt]
   refine⟨by omega,?_⟩
   by_cases c:L a≤L v
   ·exact⟨y,hy,by omega,h3⟩
   ·exact⟨z,hz,by omega,(h.xY a (gF _ Gp) v cg (by omega)).trans hzr⟩
  ·rw[pr e];exact⟨h1,y,hy,h2,h3⟩
 ·have hva:∀c,f a≤c→f u≤f a→oQ L u (min (L u) (L v)) a≤L a:=fun c _ _=>by
   by_cases e:a=u
   ·subst e;rw[pt];omega
   ·rw[pr e];exact dA _
  have hle:oQ L u (min (L u) (L v)) a≤L a:=by
   by_cases e:a=u
   ·subst e;rw[pt];omega
   ·rw[pr e];exact dA _
  by_cases zR:f v≤f x
  ·have hau:a=u:=by
    have h1:=jT u Gp (by omega)
    by_cases e:a=u
    ·exact e
    ·have:a∈w:=by
      rcases bU.1 ha with ha | ha
      ·exact ha
      ·exact absurd (bE.1 ha) e
     have:=acJ a this
     omega
   subst hau
   rw[pt]
   by_cases e:x=v
   ·subst e
    have:=(bQ y hy).2 kr
    omega
   ·have bc:f v≠f x:=fun e2=>e (HB h.inc hx cg e2.symm)
    have:=h.zN v zU x hx (fun hm=>by
     rcases bU.1 hm with hm | hm
     ·exact lD hm
     ·exact e (bE.1 hm)) (by omega) (fun c hc _=>by
      rcases bU.1 hc with hc | hc
      ·have:=lu c hc;omega
      ·rw[bE.1 hc];exact dA _) y hy kr
    omega
  ·have adH:x≠v:=fun e=>by subst e;omega
   have:=h.zN a (gF _ ha) x hx (fun hm=>by
    rcases bU.1 hm with hm | hm
    ·exact lD hm
    ·exact adH (bE.1 hm)) db (fun c hc hcx=>by
     rcases bU.1 hc with hc | hc
     ·exact jT c hc hcx
     ·rw[bE.1 hc]at hcx;omega) y hy kr
   omega
theorem Om{v:Int}:∀{st:List Int},st.Pairwise (fun x y=>f x<f y)→v∈st→∃A B,st=A++v::B∧(∀x∈A,f x<f v)∧∀x∈B,f v<f x:=by
 intro st h hv
 obtain⟨A,B,rfl⟩:=List.append_of_mem hv
 obtain⟨h1,h2,h3⟩:=GX.1 h
 exact⟨A,B,rfl,fun x hx=>h3 x hx v (cF ..),fun x hx=>(wQ.1 h2).1 x hx⟩
theorem TJ.tell{w A B part:List Int}{v:Int}(h:TJ n nx f L st aV P (w++[v]))(ao:st=A++v::B)(heq:L v=f v)(bQ:∀y∈nx v,f y≠0∧(y∈st→L v≤f y))(cz:∀x y,y∈nx x→0≤y∧y<n)(hp:part.Perm (v::B))(hs:part.Pairwise (· < ·)):TJ n nx f L A aV (P++[part]) w:=by
 have ck:=tg h.inc
 have lu:=Bc h.inc h.sub
 have zU:v∈w++[v]:=iO _ (bE.2 rfl)
 have l4:=h.inc
 rw[ao]at l4
 obtain⟨i1,i2,i3⟩:=GX.1 l4
 have vW:∀x∈A,f x<f v:=fun x hx=>i3 x hx v (cF ..)
 have FX:∀x∈B,f v<f x:=(wQ.1 i2).1
 have s5:∀x∈A,x∈st:=fun x hx=>by rw[ao];exact gF _ hx
 have wE:∀x∈v::B,x∈st:=fun x hx=>by rw[ao];exact iO _ hx
 have zG:∀x∈v::B,f v≤f x:=fun x hx=>by
  rcases ei.1 hx with rfl | hx
  ·exact dA _
  ·have:=FX x hx;omega
 have aq:∀x∈st,f v≤f x→x∈v::B:=fun x hx hle=>by
  rw[ao]at hx
  rcases bU.1 hx with hx | hx
  ·have:=vW x hx;omega
  ·exact hx
 have JG:∀x∈B,x ∉ w++[v]:=fun x hx hm=>by
  have:=FX x hx
  rcases bU.1 hm with hm | hm
  ·have:=lu x hm;omega
  ·rw[bE.1 hm]at this;omega
 have FR:∀x∈v::B,∀y∈nx x,y∈v::B∨∃p∈P,y∈p:=fun x hx y hy=>by
  have hv2:f y≠0∧(y∈st→f v≤f y):=by
   rcases ei.1 hx with rfl | zS
   ·rw[← heq];exact bQ y hy
   ·refine⟨(h.fin x (wE x hx) (JG x zS)).1 y hy,fun kr=>?_⟩
    rw[← heq]
    refine h.zN v zU x (wE x hx) (JG x zS) (FX x zS) (fun u hu _=>?_) y hy kr
    rcases bU.1 hu with hu | hu
    ·have:=lu u hu;omega
    ·rw[bE.1 hu];exact dA _
  obtain⟨q1,q2⟩:=cz x y hy
  rcases (h.vZ y q1 q2).1 hv2.1 with kr | hyp
  ·exact .inl (aq y kr (hv2.2 kr))
  ·exact .inr hyp
 have abz:∀{x y:Int},Rx nx x y→x∈v::B→y∈v::B∨∃p∈P,y∈p:=by
  intro x y hr hx
  induction hr with
  |refl=>exact .inl hx
  |step _ hc ih=>
   rcases ih with ih | ih
   ·exact FR _ ih _ hc
   ·exact .inr (h.prt.reach (.one hc) ih)
 have acO:∀(k:Nat) (x:Int),x∈v::B→(f x-f v).toNat≤k→Rx nx x v:=by
  intro k
  induction k with
  |zero=>
   intro x hx hk
   have:=zG x hx
   rw[HB h.inc (wE x hx) (wE v (cF ..)) (by omega)]
   exact .refl _
  |succ k ih=>
   intro x hx hk
   rcases ei.1 hx with rfl | zS
   ·exact .refl _
   ·obtain⟨_,y,hy,ab,hr⟩:=h.fin x (wE x hx) (JG x zS)
    rcases abz hr hx with KX | ⟨p,hp,hyp⟩
    ·have:=FX x zS
     exact hr.trans (ih y KX (by omega))
    ·exact absurd hy (h.yy p hp y hyp)
 have ae9:∀x∈v::B,∀y∈v::B,Rx nx x y:=fun x hx y hy=>(acO _ x hx (bJ _)).trans (h.xY v zU y (wE y hy) (zG y hy))
 have gm:∀x,x∈part↔x∈v::B:=fun x=>hp.mem_iff
 have hwA:w.Sublist A:=by
  have h1:(w++[v]).Sublist (A++v::B):=ao▸h.sub
  have h2:=h1.filter (fun x=>decide (f x<f v))
  have e1:(w++[v]).filter (fun x=>decide (f x<f v))=w:=by
   rw[List.filter_append,List.filter_eq_self.2 fun x hx=>decide_eq_true (lu x hx),List.filter_cons_of_neg (by simp)]
   simp
  have e2:(A++v::B).filter (fun x=>decide (f x<f v))=A:=by
   rw[uU,gu1.2 fun x hx=>bj (vW x hx),List.filter_eq_nil_iff.2 fun x hx=>by
    have:=zG x hx
    rw[decide_eq_true_eq];omega]
   simp
  rw[e1,e2]at h2
  exact h2
 have Sg:(P++[part]).flatten=P.flatten++part:=by rw[List.flatten_append];simp
 refine⟨fun x hx=>h.node x (s5 x hx),i1,fun x hx=>h.rL x (s5 x hx),fun x h0 h1=>?_,fun p dE x hx hxA=>?_,?_,hwA,fun x hx=>?_,fun a ha x hx=>h.xY a (gF _ ha) x (s5 x hx),fun x hx lD=>?_,fun a ha=>?_,fun a ha x hx lD ab jT y hy kr=>?_,⟨fun p dE=>?_,fun p dE x hx=>?_,?_,fun p dE=>?_,fun p dE x hx y hy=>?_,fun i p hi x hx y hy=>?_⟩⟩
 ·rw[h.vZ x h0 h1,ao,bU]
  constructor
  ·rintro ((hx | hx) | ⟨p,dE,hx⟩)
   ·exact .inl hx
   ·exact .inr ⟨part,iO _ (bE.2 rfl),(gm x).2 hx⟩
   ·exact .inr ⟨p,gF _ dE,hx⟩
  ·rintro (hx | ⟨p,dE,hx⟩)
   ·exact .inl (.inl hx)
   ·rcases bU.1 dE with dE | dE
    ·exact .inr ⟨p,dE,hx⟩
    ·rw[bE.1 dE]at hx
     exact .inl (.inr ((gm x).1 hx))
 ·rcases bU.1 dE with dE | dE
  ·exact h.yy p dE x hx (s5 x hxA)
  ·rw[bE.1 dE]at hx
   have:=zG x ((gm x).1 hx)
   have:=vW x hxA
   omega
 ·have h1:=h.len
  have h2:=hp.length_eq
  have h3:=congrArg List.length ao
  rw[bG]at h3
  rw[Sg,bG];omega
 ·obtain⟨a,ha,hle⟩:=h.top x (s5 x hx)
  rcases bU.1 ha with ha | ha
  ·exact⟨a,ha,hle⟩
  ·rw[bE.1 ha]at hle
   have:=vW x hx;omega
 ·have zR:x ∉ w++[v]:=fun hm=>by
   rcases bU.1 hm with hm | hm
   ·exact lD hm
   ·have:=vW x hx
    rw[bE.1 hm]at this;omega
  obtain⟨h1,y,hy,h2,h3⟩:=h.fin x (s5 x hx) zR
  refine⟨h1,y,?_,h2,h3⟩
  have:=vW x hx
  rw[ao]at hy
  rcases bU.1 hy with hy | hy
  ·exact hy
  ·have:=zG y hy;omega
 ·obtain⟨h1,y,hy,h2,h3⟩:=h.low a (gF _ ha)
  refine⟨h1,y,?_,h2,h3⟩
  have:=lu a ha
  rw[ao]at hy
  rcases bU.1 hy with hy | hy
  ·exact hy
  ·have:=zG y hy;omega
 ·have zR:x ∉ w++[v]:=fun hm=>by
   rcases bU.1 hm with hm | hm
   ·exact lD hm
   ·have:=vW x hx
    rw[bE.1 hm]at this;omega
  refine h.zN a (gF _ ha) x (s5 x hx) zR ab (fun u hu hle=>?_) y hy (s5 y kr)
  rcases bU.1 hu with hu | hu
  ·exact jT u hu hle
  ·rw[bE.1 hu]at hle
   have:=vW x hx;omega
 ·rcases bU.1 dE with dE | dE
  ·exact h.prt.ne p dE
  ·rw[bE.1 dE]
   exact List.ne_nil_of_mem ((gm v).2 (cF ..))
 ·rcases bU.1 dE with dE | dE
  ·exact h.prt.node p dE x hx
  ·rw[bE.1 dE]at hx
   exact h.node x (wE x ((gm x).1 hx))
 ·rw[Sg]
  refine ml.2 ⟨h.prt.nd,hs.imp fun h=>by omega,fun x hx y hy e=>?_⟩
  subst e
  obtain⟨p,dE,qK⟩:=nu.1 hx
  exact h.yy p dE x qK (wE x ((gm x).1 hy))
 ·rcases bU.1 dE with dE | dE
  ·exact h.prt.zM p dE
  ·rw[bE.1 dE];exact hs
 ·rcases bU.1 dE with dE | dE
  ·exact h.prt.Md p dE x hx y hy
  ·rw[bE.1 dE]at hx hy
   exact ae9 x ((gm x).1 hx) y ((gm y).1 hy)
 ·by_cases ab:i<P.length
  ·rw[ky ab]at hi
   obtain⟨j,q,h1,h2,h3⟩:=h.prt.He i p hi x hx y hy
   exact⟨j,q,h1,by rw[ky (by omega)];exact h2,h3⟩
  ·have hip:i=P.length∧p=part:=by
    rw[iP (by omega)]at hi
    by_cases e:i-P.length=0
    ·rw[e]at hi
     exact⟨by omega,(Option.some.inj hi).symm⟩
    ·rw[r9 (by rw[yv];omega)]at hi;cases hi
   obtain⟨rfl,rfl⟩:=hip
   rcases FR x ((gm x).1 hx) y hy with KX | ⟨q,hq,hyq⟩
   ·exact⟨P.length,p,bJ _,by rw[iP (bJ _),nt];rfl,(gm y).2 KX⟩
   ·obtain⟨j,hj⟩:=yn hq
    have uD:j<P.length:=(cR.1 hj).1
    exact⟨j,q,by omega,by rw[ky uD];exact hj,hyq⟩
theorem TJ.empty(h:TJ n nx f L st aV P []):st=[]:=by
 cases st with
 |nil=>rfl
 |cons x st=>
  obtain⟨v,hv,_⟩:=h.top x (cF ..)
  cases hv
theorem TJ.first{v:Int}(h:TJ n nx f L st aV P [v]):L v=f v:=by
 obtain⟨h1,y,hy,h2,_⟩:=h.low v (bE.2 rfl)
 obtain⟨u,hu,h3⟩:=h.top y hy
 rw[bE.1 hu]at h3
 omega
mutual
def e9(nx:Int→List Int):Nat→Int→List Int→List Int
 | 0,_,_=>[]
 |f+1,a,met=>if a∈met then [] else dv nx f (nx a) (met++[a])++[a]
def dv(nx:Int→List Int):Nat→List Int→List Int→List Int
 |_,[],_=>[]
 |f,b::bs,met=>e9 nx f b met++dv nx f bs (met++e9 nx f b met)
end
def kR(met:List Int)(n:Nat):Nat:=((List.range n).filter fun a:Nat=>decide ((a:Int) ∉ met)).length
theorem Ic{met met2:List Int}{n:Nat}(h:∀x∈met,x∈met2):kR met2 n≤kR met n:=by
 unfold kR
 induction n with
 |zero=>exact bJ _
 |succ n ih=>
  rw[qe,uU,uU,bG,bG]
  refine Nat.add_le_add ih ?_
  rw[G8,G8,gp0]
  by_cases c:(n:Int)∈met
  ·rw[if_neg (by simp[h _ c]),if_neg (by simp[c])];exact Nat.le_refl _
  ·rw[if_pos (show decide ((n:Int) ∉ met)=true by simp[c])];split <;> simp
theorem P6{met met2:List Int}{n:Nat}{a:Nat}(h:∀x∈met,x∈met2)(ha:a<n)(h1:(a:Int) ∉ met)(h2:(a:Int)∈met2):kR met2 n<kR met n:=by
 induction n with
 |zero=>omega
 |succ n ih=>
  have e:∀m:List Int,kR m (n+1)=kR m n+if (n:Int)∈m then 0 else 1:=fun m=>by
   unfold kR
   rw[qe,uU,bG,G8,gp0]
   by_cases c:(n:Int)∈m <;> simp[c]
  rw[e,e]
  by_cases c:a=n
  ·subst c
   rw[az h2,aA h1]
   have:=Ic (n:=a) h
   omega
  ·have:=ih (by omega)
   by_cases c2:(n:Int)∈met
   ·rw[az c2,az (h _ c2)];exact this
   ·rw[aA c2];split <;> omega
theorem Zp{met:List Int}{n:Nat}{a:Int}(ha:0≤a∧a<n)(h:a ∉ met):0<kR met n:=by
 unfold kR
 refine AB (a:=a.toNat) (jW.2 ⟨gq.2 (by omega),?_⟩)
 rw[Int.toNat_of_nonneg ha.1];simp[h]
theorem OS{n:Nat}{nx:Int→List Int}(cz:∀x,∀y∈nx x,0≤y∧y<(n:Int)):∀u,
  (∀(f f2:Nat) (a:Int) (met met2:List Int),0≤a∧a<(n:Int)→kR met n≤u→u≤f→u≤f2→(∀x,x∈met↔x∈met2)→e9 nx f a met=e9 nx f2 a met2)∧
  (∀(f f2:Nat) (bs:List Int) (met met2:List Int),(∀b∈bs,0≤b∧b<(n:Int))→kR met n≤u→u≤f→u≤f2→(∀x,x∈met↔x∈met2)→dv nx f bs met=dv nx f2 bs met2):=by
 intro u
 induction u with
 |zero=>
  have h0:∀(f:Nat) (a:Int) (met:List Int),0≤a∧a<(n:Int)→kR met n≤0→e9 nx f a met=[]:=fun f a met ha hu=>by
   have hm:a∈met:=by
    by_cases c:a∈met
    ·exact c
    ·have:=Zp ha c;omega
   cases f with
   |zero=>unfold e9;rfl
   |succ f=>unfold e9;rw[az hm]
  have h1:∀(f:Nat) (bs:List Int) (met:List Int),(∀b∈bs,0≤b∧b<(n:Int))→kR met n≤0→dv nx f bs met=[]:=by
   intro f bs
   induction bs with
   |nil=>intro met _ _;unfold dv;rfl
   |cons b bs ih=>
    intro met hb hu
    unfold dv
    rw[h0 f b met (hb b (cF ..)) hu,gg,ih met (fun c hc=>hb c (dy _ hc)) hu];rfl
  have hs:∀{met met2:List Int},kR met n≤0→(∀x,x∈met↔x∈met2)→kR met2 n≤0:=fun hu hm=>ey (Ic fun x hx=>(hm x).1 hx) hu
  exact⟨fun f f2 a met met2 ha hu _ _ hm=>by rw[h0 f a met ha hu,h0 f2 a met2 ha (hs hu hm)],fun f f2 bs met met2 hb hu _ _ hm=>by rw[h1 f bs met hb hu,h1 f2 bs met2 hb (hs hu hm)]⟩
 |succ u ih=>
  have hv:∀(f f2:Nat) (a:Int) (met met2:List Int),0≤a∧a<(n:Int)→kR met n≤u+1→u+1≤f→u+1≤f2→(∀x,x∈met↔x∈met2)→e9 nx f a met=e9 nx f2 a met2:=fun f f2 a met met2 ha hu hf uF hm=>by
   obtain⟨f,rfl⟩:∃k,f=k+1:=⟨f-1,by omega⟩
   obtain⟨f2,rfl⟩:∃k,f2=k+1:=⟨f2-1,by omega⟩
   unfold e9
   by_cases c:a∈met
   ·rw[az c,az ((hm a).1 c)]
   ·rw[aA c,aA fun h=>c ((hm a).2 h)]
    congr 1
    refine ih.2 f f2 (nx a) _ _ (cz a) ?_ (by omega) (by omega) (fun x=>by rw[bU,bU,hm])
    have:=P6 (met:=met) (met2:=met++[a]) (n:=n) (a:=a.toNat) (fun x hx=>List.mem_append_left _ hx) (by omega) (by rw[Int.toNat_of_nonneg ha.1];exact c) (by rw[Int.toNat_of_nonneg ha.1];simp)
    omega
  refine⟨hv,fun f f2 bs=>?_⟩
  induction bs with
  |nil=>intro met met2 _ _ _ _ _;unfold dv;rfl
  |cons b bs KT=>
   intro met met2 hb hu hf uF hm
   unfold dv
   have e:=hv f f2 b met met2 (hb b (cF ..)) hu hf uF hm
   rw[e]
   congr 1
   exact KT _ _ (fun c hc=>hb c (dy _ hc)) (ey (Ic fun x hx=>gF _ hx) hu) hf uF (fun x=>by rw[bU,bU,hm])
theorem QV(met:List Int)(n:Nat):kR met n≤n:=by
 unfold kR
 exact ey (Dy _ _) (by rw[kx];exact bJ _)
def lr(n:Nat)(nx:Int→List Int):List (Int×Nat)→List Int→List Int
 | [],_=>[]
 |(v,k)::w,seen=>dv nx n ((nx v).drop k) seen++([v]++lr n nx w (seen++dv nx n ((nx v).drop k) seen))
theorem Pu{n:Nat}{nx:Int→List Int}(cz:∀x,∀y∈nx x,0≤y∧y<(n:Int)){bs met met2:List Int}(hb:∀b∈bs,0≤b∧b<(n:Int))(hm:∀x,x∈met↔x∈met2):dv nx n bs met=dv nx n bs met2:=
 (OS cz n).2 n n bs met met2 hb (QV _ _) (bJ _) (bJ _) hm
theorem O5{n:Nat}{nx:Int→List Int}(cz:∀x,∀y∈nx x,0≤y∧y<(n:Int)):∀(w:List (Int×Nat)) {seen seen2:List Int},(∀x,x∈seen↔x∈seen2)→lr n nx w seen=lr n nx w seen2
 | [],_,_,_=>rfl
 |(v,k)::w,seen,seen2,h=>by
  have e:=Pu cz (bs:=(nx v).drop k) (fun b hb=>cz v b (List.mem_of_mem_drop hb)) h
  unfold lr
  rw[e,O5 cz w (seen:=seen++dv nx n ((nx v).drop k) seen2) (seen2:=seen2++dv nx n ((nx v).drop k) seen2) fun x=>by rw[bU,bU,h]]
theorem Qz{L:List Int}{k:Nat}(h:k<L.length):L.drop k=L[k]::L.drop (k+1):=yu h
theorem XJ{n:Nat}{nx:Int→List Int}{v:Int}{k:Nat}{w:List (Int×Nat)}{seen:List Int}(hk:k<(nx v).length)(hb:(nx v)[k]∈seen):lr n nx ((v,k)::w) seen=lr n nx ((v,k+1)::w) seen:=by
 have e:e9 nx n (nx v)[k] seen=[]:=by
  cases n with
  |zero=>unfold e9;rfl
  |succ n=>unfold e9;rw[az hb]
 have e2:dv nx n ((nx v).drop k) seen=dv nx n ((nx v).drop (k+1)) seen:=by
  rw[Qz hk]
  conv=>lhs;unfold dv
  rw[e,gg,uP]
 unfold lr
 rw[e2]
theorem XK{n:Nat}{nx:Int→List Int}(cz:∀x,∀y∈nx x,0≤y∧y<(n:Int)){v:Int}{k:Nat}{w:List (Int×Nat)}{seen:List Int}(hk:k<(nx v).length)(hb:(nx v)[k] ∉ seen):lr n nx ((v,k)::w) seen=lr n nx (((nx v)[k],0)::(v,k+1)::w) (seen++[(nx v)[k]]):=by
 obtain⟨b,rT⟩:∃b,(nx v)[k]=b:=⟨_,rfl⟩
 have dM:=cz v b (rT▸cq hk)
 rw[rT]at hb ⊢
 obtain⟨m,rfl⟩:∃m,n=m+1:=⟨n-1,by omega⟩
 have hu:kR (seen++[b]) (m+1)≤m:=by
  have:=P6 (met:=seen) (met2:=seen++[b]) (n:=m+1) (a:=b.toNat) (fun x hx=>List.mem_append_left _ hx) (by omega) (by rw[Int.toNat_of_nonneg dM.1];exact hb) (by rw[Int.toNat_of_nonneg dM.1];simp)
  have:=QV seen (m+1)
  omega
 have e:e9 nx (m+1) b seen=dv nx (m+1) (nx b) (seen++[b])++[b]:=by
  conv=>lhs;unfold e9
  rw[aA hb,(OS cz m).2 m (m+1) (nx b) (seen++[b]) (seen++[b]) (cz b) hu (bJ _) (by omega) fun _=>Iff.rfl]
 have e2:dv nx (m+1) ((nx v).drop k) seen=(dv nx (m+1) (nx b) (seen++[b])++[b])++dv nx (m+1) ((nx v).drop (k+1)) (seen++(dv nx (m+1) (nx b) (seen++[b])++[b])):=by
  rw[Qz hk,rT]
  conv=>lhs;unfold dv
  rw[e]
 have e3:dv nx (m+1) ((nx v).drop (k+1)) (seen++(dv nx (m+1) (nx b) (seen++[b])++[b]))=dv nx (m+1) ((nx v).drop (k+1)) (seen++[b]++dv nx (m+1) (nx b) (seen++[b])):=
  Pu cz (fun c hc=>cz v c (List.mem_of_mem_drop hc)) fun x=>by simp only[List.mem_append];exact⟨fun h=>by rcases h with h | h | h <;> simp[h],fun h=>by rcases h with (h | h) | h <;> simp[h]⟩
 have hd:(nx b).drop 0=nx b:=fG
 show dv nx (m+1) ((nx v).drop k) seen++([v]++lr (m+1) nx w (seen++dv nx (m+1) ((nx v).drop k) seen))=dv nx (m+1) ((nx b).drop 0) (seen++[b])++([b]++(dv nx (m+1) ((nx v).drop (k+1)) (seen++[b]++dv nx (m+1) ((nx b).drop 0) (seen++[b]))++([v]++lr (m+1) nx w (seen++[b]++dv nx (m+1) ((nx b).drop 0) (seen++[b])++dv nx (m+1) ((nx v).drop (k+1)) (seen++[b]++dv nx (m+1) ((nx b).drop 0) (seen++[b]))))))
 rw[hd,e2,e3]
 generalize dv nx (m+1) (nx b) (seen++[b])=K
 generalize dv nx (m+1) ((nx v).drop (k+1)) (seen++[b]++K)=K2
 rw[O5 cz w (seen:=seen++(K++[b]++K2)) (seen2:=seen++[b]++K++K2) fun x=>by simp only[List.mem_append];exact⟨fun h=>by rcases h with h | (h | h) | h <;> simp[h],fun h=>by rcases h with ((h | h) | h) | h <;> simp[h]⟩]
 simp only[dh]
theorem ZC{n:Nat}{nx:Int→List Int}{v:Int}{k:Nat}{w:List (Int×Nat)}{seen:List Int}(hk:(nx v).length≤k):lr n nx ((v,k)::w) seen=v::lr n nx w seen:=by
 have e:dv nx n ((nx v).drop k) seen=[]:=by rw[Dw hk];unfold dv;rfl
 show dv nx n ((nx v).drop k) seen++([v]++lr n nx w (seen++dv nx n ((nx v).drop k) seen))=_
 rw[e,gg,uP];rfl
theorem ZB{n:Nat}{nx:Int→List Int}{a:Int}{met:List Int}(ha:a ∉ met):e9 nx (n+1) a met=lr n nx [(a,0)] (met++[a]):=by
 unfold e9 lr lr
 rw[aA ha,fG,gg]
def lV(n:Nat)(nx:Int→List Int)(l:List Int):List Int:=l.foldl (fun out a=>out++e9 nx (n+1) a out) []
inductive iA(e:Nat):Nat→AV→Hp→List AV→Prop
 |nil:iA e 0 .ak [] []
 |ah (b k:Nat) (cs J:List AV) (h:cs.length=k*e):iA e k (.ah b 0 k e) [(b,cs++J)] cs
theorem iA.v8{e k:Nat}{v:AV}{acc:Hp}{cs:List AV}(h:iA e k v acc cs):iA e k (bZ v) acc cs:=by
 cases h with
 |nil=>exact .nil
 |ah b k cs J h=>exact .ah b k cs J h
theorem iA.pos{e k:Nat}{v:AV}{acc:Hp}{cs:List AV}(h:iA e k v acc cs)(h0:0<k):∃b J,v=.ah b 0 k e∧acc=[(b,cs++J)]∧cs.length=k*e:=by
 cases h with
 |nil=>omega
 |ah b k cs J h=>exact⟨b,J,rfl,rfl,h⟩
theorem xa{i:TI}{K:AV→Hp→Prop}(fr:Hp){acc σ:Hp}{k n:Nat}{v x:AV}{cs new:List AV}(h:iA i.size k v acc cs)(hx:jb (fr++(acc++σ)) i.size x n new)(fK:new.length=n*i.size)(hn:k+n≤1048576)(hb:i.bytes≤1024)(h0:0<i.size)
  (go:∀v' aU,iA i.size (k+n) v' aU (cs++new)→K v' (fr++(aU++σ))):AppendAt i (fr++(acc++σ)) v x K:=by
 cases h with
 |nil=>
  refine .perm _ (ez fr [] σ) (.fresh n new (.inl rfl) (hx.perm (ez fr [] σ)) (by omega) hb h0 (K:=fun v ef=>(n=0∧v=.ak∧ef=[]++(fr++σ))∨(n≠0∧∃b,v=.ah b 0 n i.size∧ef=(b,new)::([]++(fr++σ)))) (fun bc b=>.inr ⟨bc,b,rfl,rfl⟩) (fun h0=>.inl ⟨h0,rfl,rfl⟩)) ?_
  rintro v ef (⟨hz,rfl,rfl⟩ | ⟨hz,b,rfl,rfl⟩)
  ·subst hz
   obtain rfl:new=[]:=List.length_eq_zero_iff.1 (by simpa using fK)
   exact⟨_,(ez fr [] σ).symm,.inl (go _ _ .nil)⟩
  ·refine⟨_,(ez fr [(b,new)] σ).symm,.inl (go _ _ ?_)⟩
   have:=iA.ah (e:=i.size) b (0+n) new [] (by rw[dU];exact fK)
   rw[gg,dU]at this
   rw[dU]
   exact this
 |ah b k cs J hl=>
  refine .perm _ (ez fr [(b,cs++J)] σ) (.more 0 b k n (cs++J) new rfl rfl (by rw[bG];omega) (hx.perm (ez fr [(b,cs++J)] σ)) hn hb h0 (K:=fun v ef=>∃b',v=.ah b' 0 (k+n) i.size∧ef=(b',cs++new)::(fr++σ)) (fun b'=>⟨b',rfl,by rw[G2 (by omega),dN (by omega)];rfl⟩)) ?_
  rintro v ef ⟨b',rfl,rfl⟩
  refine⟨_,(ez fr [(b',cs++new)] σ).symm,.inl (go _ _ ?_)⟩
  have:=iA.ah (e:=i.size) b' (k+n) (cs++new) [] (by rw[bG,hl,fK,qT])
  rw[gg]at this
  exact this
theorem lS{i:TI}(hs:i.size=1){l:List Int}(x:Int){a:Int}(h1:0≤a)(h2:a<l.length):kC i (an l) (0+a.toNat*1) (.int .i64 x)=some (an (l.set a.toNat x)):=by
 rw[pz hs rfl (by rw[q9];omega),dU,dB]
 unfold an;rw[s8]
theorem eZ{i:TI}(hw:i.wide=false){l:List Int}{a:Int}(h1:0≤a)(h2:a<l.length):eF i (an l) (0+a.toNat*1)=some (.int .i64 (l.getD a.toNat 0)):=by
 refine gy hw ?_
 unfold an
 rw[dU,dB,fm,bO,bN (by omega)];rfl
def dq(N:List (List Int))(bi bl bo n:Nat)(vs:AV)(aV:Nat)(vp:AV):List AV:=[.af (.slice (.int .i64)) N,.ah bi 0 n 1,.ah bl 0 n 1,.ah bo 0 n 1,vs,.int .i64 aV,vp]
theorem ze(w bi bl bo n:Nat)(N:List (List Int))(ix lo st:List Int)(on:List Bool)(aV:Nat)(vs vp:AV)(acc:Hp)(a:Int)(σ:Hp)(h0:0≤a)(hn:a<n)(hi:ix.length=n)(hl:lo.length=n)(ho:on.length=n)(hs:iA 1 st.length vs acc (an st))(dx:st.length≤10000)(hc:aV≤10000):
  ACalls Tryz.prog 314 [.ptr w 0,.int .i64 a] ((w,dq N bi bl bo n vs aV vp)::(bi,an ix)::(bl,an lo)::(bo,bK on)::(acc++σ))
   (fun r σ'=>r=.agg [.int .i64 a,.int .i64 0]∧∃eD aU,iA 1 (st++[a]).length eD aU (an (st++[a]))∧σ'=(w,dq N bi bl bo n eD (aV+1) vp)::(bi,an (ix.set a.toNat ((aV+1:Nat):Int)))::(bl,an (lo.set a.toNat ((aV+1:Nat):Int)))::(bo,bK (on.set a.toNat true))::(aU++σ)):=by
 have hwr:IntKind.i64.wrap ((aV:Int)+1)=((aV+1:Nat):Int):=by rw[fP (by omega)];omega
 refine au Tryz.func314 ?_
 intro aB
 refine aa 1 ?_
 refine ag 1 ?_
 refine .sched [] (upto [] 29 0) (by kernel_rfl) ?_
 refine aa 1 ?_
 refine aa 1 ?_
 refine aa 1 ?_
 refine aa 1 ?_
 refine aa 1 ?_
 refine aQ ?_
 refine cu 2 rfl (lS rfl _ h0 (by omega)) ?_
 refine aQ ?_
 refine cu 3 rfl (lS rfl _ h0 (by omega)) ?_
 refine aQ ?_
 refine cu 4 rfl (ti rfl true h0 (by omega)) ?_
 refine aa 1 ?_
 intro aB
 refine xa [_,_,_,_,_,_] hs.v8 (.ah 0 aB 0 1 _ rfl (cp rfl)) rfl (by omega) (by decide) (by decide) (fun v' aU h'=>?_)
 obtain⟨bq,J,rfl,rfl,hq⟩:=h'.pos (by omega)
 refine ag 2 ?_
 refine ag 1 ?_
 refine aa 1 ?_
 refine .drop 0 2 (.done ⟨rfl,.ah bq 0 (st.length+1) 1,[(bq,(an st++[.int .i64 a])++J)],?_,?_⟩)
 ·rw[bG,show an (st++[a])=an st++[.int .i64 a] from cC];exact h'
 ·rw[hwr];rfl
end Go.Proofs.YtnikdflhefijbaaGreat
