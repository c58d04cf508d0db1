/- A part of the proof of what the last text says: AwW. Conditions: those in each theorem. -/
import Derived.Test.YtpdhandimdibhaaGreatDoorN11
import Derived.RangeFuncWrites
set_option linter.unusedVariables false
set_option linter.unusedSimpArgs false
set_option maxRecDepth 100000
set_option maxHeartbeats 16000000
open Nat renaming reduceSub → qa,reduceAdd → qb,reduceMul → qc,reduceEqDiff → qd,reduceLeDiff → qe,reduceBEq → qf
section
namespace Go.Aw
open Go Go.RowKit
def gf:D→Bool
 | .int _ _=>true
 | .bool _=>true
 | .str _=>true
 |_=>false
theorem RepV.lit {K K':Nat→BK} {w w':World} {d:D} {v:Value} (hb:gf d=true) (h:RepV K w d v):RepV K' w' d v:=by
 cases d<;>simp only [gf,Bool.false_eq_true] at hb
 ·obtain ⟨rfl,h2⟩:=h.int_inv;exact .int _ _ h2
 ·obtain rfl:=h.bool_inv;exact .bool _
 ·obtain ⟨rfl,h2⟩:=h.str_inv;exact .str _ h2
section
variable {K K':Nat→BK} {w w':World} {o o':Who} {xs:List (List D)} {v:Value}
theorem OwnAt.lit (hl:∀y∈xs,∀d∈y,gf d=true) (ho:∀b n,K b= .tok n o→K' b= .tok n o'∧w'.heap[b]?=w.heap[b]?) (h:OwnAt K w o xs v):OwnAt K' w' o' xs v:=by
 rcases h with h|⟨b,cap,sz,c,T,hv,hk,hh,hcs,hp,hln,hm,hb,hs,hrep⟩
 ·exact .inl h
 ·refine .inr ⟨b,cap,sz,c,T,hv,(ho b _ hk).1,(ho b _ hk).2.trans hh,hcs,hp,hln,hm,hb,hs,fun i x hi j d hj=>?_⟩
  obtain ⟨u,e1,e2,e3⟩:=hrep i x hi j d hj
  exact ⟨u,e1,e2,e3.lit (hl x (List.mem_of_getElem? hi) d (List.mem_of_getElem? hj))⟩
theorem OwnAt.to (he:ExtV K w K' w') (ho:∀b n,K b= .tok n o→K' b= .tok n o'∧w'.heap[b]?=w.heap[b]?) (h:OwnAt K w o xs v):OwnAt K' w' o' xs v:=by
 rcases h with h|⟨b,cap,sz,c,T,hv,hk,hh,hcs,hp,hln,hm,hb,hs,hrep⟩
 ·exact .inl h
 ·refine .inr ⟨b,cap,sz,c,T,hv,(ho b _ hk).1,(ho b _ hk).2.trans hh,hcs,hp,hln,hm,hb,hs,fun i x hi j d hj=>?_⟩
  obtain ⟨u,e1,e2,e3⟩:=hrep i x hi j d hj
  exact ⟨u,e1,e2,e3.mono he⟩
theorem AO.to {b:Nat} {x:AO} (he:ExtV K w K' w') (hp:K b= .priv→K' b= .priv∧w'.heap[b]?=w.heap[b]?) (ho:∀c n j,K c= .tok n (.cell b j)→K' c= .tok n (.cell b j)∧w'.heap[c]?=w.heap[c]?) (h:x.at_ K w b):x.at_ K' w' b:=by
 cases x with
 | cells cs=>
  obtain ⟨h1,c,T,h2,h3,h4⟩:=h
  refine ⟨(hp h1).1,c,T,(hp h1).2.trans h2,h3,fun j d hd=>?_⟩
  obtain ⟨u,e1,e2,e3⟩:=h4 j d hd
  refine ⟨u,e1,e2,?_⟩
  cases d<;>first|exact OwnAt.to he (fun b n hb=>ho b n j hb) e3|exact RepV.mono he e3
 |room cap xs=>exact ⟨h.1,h.2.to he fun c n hc=>ho c n 0 hc⟩
 |mp es=>exact ⟨(hp h.1).1,h.2.ext he (hp h.1).2⟩
 | lp J pre=>
  obtain ⟨⟨n,j,h1⟩,h2,h3⟩:=h
  exact ⟨⟨n,j,(ho _ _ _ h1).1⟩,h3 pre K w K' w' h2 ho,h3⟩
end
structure ColJ (bs L Db:Nat) (r:Loop) (xs:List (List D)) (pre:List D) (K:Nat→BK) (w:World):Prop where
 kb:K bs= .tok 0 (.cell L 1)
 kl:K L= .tok 0 (.cell L 1)
 kd:K Db= .tok 0 (.cell L 1)
 hl:w.heap[L]?=some (.loop r)
 hd:w.heap[Db]?=some (.deferred (some []))
 lit:∀y∈xs++pre.map cellsOf,∀d∈y,gf d=true
 own:∃v T,w.heap[bs]?=some (.cells #[v] T (0,0))∧v.oneCell'=true∧OwnAt K w (.cell L 0) (xs++pre.map cellsOf) v
theorem ColJ.ok {bs L Db:Nat} {r:Loop} {xs:List (List D)}:LpOk L (ColJ bs L Db r xs):=fun pre K w K' w' h ht=>by
 obtain ⟨v,T,o1,o2,o3⟩:=h.own
 exact ⟨(ht _ _ _ h.kb).1,(ht _ _ _ h.kl).1,(ht _ _ _ h.kd).1,(ht _ _ _ h.kl).2.trans h.hl,(ht _ _ _ h.kd).2.trans h.hd,h.lit,v,T,(ht _ _ _ h.kb).2.trans o1,o2,o3.lit h.lit fun b n hb=>ht b n 0 hb⟩
end Go.Aw
end
