/- A part of the proof of what the last text says: Aw1, Aw2, Aw3. Conditions: those in each theorem. -/
import Derived.WalkKit
import Derived.OpenShut
import Derived.WalkLawsBesides
set_option linter.unusedVariables false
set_option linter.unusedSimpArgs false
set_option maxRecDepth 100000
set_option maxHeartbeats 16000000
open Nat renaming reduceSub → qa,reduceAdd → qb,reduceMul → qc,reduceEqDiff → qd,reduceLeDiff → qe,reduceBEq → qf
section
namespace Go.Aw
open Go Go.RowKit
inductive D where
  |int (k:IntKind) (n:Int)
  |bool (b:Bool)
  |str (s:List UInt8)
  |slc (xs:List (List D))
  |own (xs:List (List D))
  |ptr (b off:Nat)
  |eptr (cs:List D)
  |fn (f:FuncId) (caps:List D)
  |nilp
  |nilfn
  |mp (r:Option Nat)
  |hsl (b n:Nat)
  |osl (b cap:Nat) (xs:List (List D))
  |agg (cs:List D)
  |tup (ds:List D)
  |mpv (es:List (D×D))
  |yld (l:Nat)
  |hso (b off n:Nat)
  |hgs (b n cap:Nat)
  |any
instance:Inhabited D:=⟨.any⟩
def D.view1:D→D
  | .own xs=>.slc xs
  |d=>d
def D.view:D→D
  | .tup ds=>.tup (ds.map D.view1)
  | .own xs=>.slc xs
  |d=>d
inductive Who where
  |slot (i j:Nat)
  |cell (b j:Nat)
  |outer
  deriving DecidableEq
inductive BK where
  |imm
  |tok (n:Nat) (o:Who)
  |priv
  deriving DecidableEq
def big:Nat:=140737488355328
theorem qt:big=140737488355328:=rfl
def Vis (K:Nat→BK) (w:World) (b off n:Nat):Prop:=
  b <w.heap.size∧match K b with
    | .imm=>True
    | .tok m _=>n=0∨off+n≤m
    | .priv=>n=0
def Uo:List D→Bool
  | .tup []::_=>true
  |_=>false
def wx (args:List D):List D→List D
  | .tup []::fs=>fs++args
  |caps=>args++caps
def vk (k:IntKind) (n:Int):Prop:=(Lit.int k n).wf=true
inductive RepV (K:Nat→BK) (w:World):D→Value→Prop where
  |int (k:IntKind) (n:Int) (h:vk k n):RepV K w (.int k n) (.int k n)
  |bool (b:Bool):RepV K w (.bool b) (.bool b)
  |str (s:List UInt8) (h:s.length≤big):RepV K w (.str s) (.string ⟨⟨s⟩⟩)
  |slcnil (a:Option Addr):RepV K w (.slc []) (.slice a 0 0)
  | slc (xs:List (List D)) (b off cap sz:Nat) (f:Nat→Nat→Value) (hb:xs.length≤big) (hc:xs.length≤cap) (hm:cap≤maxLen)
      (hs:∀(i:Nat) (x:List D),xs[i]?=some x→x.length=sz) (hv:Vis K w b off (xs.length*sz))
      (hcell:∀(i:Nat) (x:List D),xs[i]?=some x→∀(j:Nat) (d:D),x[j]?=some d→w.cell? ⟨b,off+(i*sz+j),none⟩=some (f i j))
      (hone:∀(i:Nat) (x:List D),xs[i]?=some x→∀(j:Nat) (d:D),x[j]?=some d→(f i j).oneCell'=true)
      (hrep:∀(i:Nat) (x:List D),xs[i]?=some x→∀(j:Nat) (d:D),x[j]?=some d→RepV K w d (f i j)):
      RepV K w (.slc xs) (.slice (some ⟨b,off,none⟩) xs.length cap)
  |ptr (b off:Nat):RepV K w (.ptr b off) (.pointer (some ⟨b,off,none⟩))
  | eptr (cs:List D) (b off:Nat) (f:Nat→Value) (hv:Vis K w b off cs.length)
      (hcell:∀(j:Nat) (d:D),cs[j]?=some d→w.cell? ⟨b,off+j,none⟩=some (f j))
      (hone:∀(j:Nat) (d:D),cs[j]?=some d→(f j).oneCell'=true)
      (hrep:∀(j:Nat) (d:D),cs[j]?=some d→RepV K w d (f j)):RepV K w (.eptr cs) (.pointer (some ⟨b,off,none⟩))
  | bnd (g:FuncId) (fs:List D) (vs:Array Value) (hl:vs.size=fs.length)
      (hrep:∀(j:Nat) (d:D) (v:Value),fs[j]?=some d→vs[j]?=some v→RepV K w d v):RepV K w (.fn g (.tup []::fs)) (.func (.func g) vs #[])
  | fn (g:FuncId) (caps:List D) (vs:Array Value) (hb:Uo caps=false) (hl:vs.size=caps.length)
      (hrep:∀(j:Nat) (d:D) (v:Value),caps[j]?=some d→vs[j]?=some v→RepV K w d v):RepV K w (.fn g caps) (.func (.func g) #[] vs)
  |nilp:RepV K w .nilp (.pointer none)
  |nilfn:RepV K w .nilfn .nilFunc
  |mp (r:Option Nat):RepV K w (.mp r) (.map r)
  |hsl (b n cap:Nat) (hc:n≤cap) (hm:cap≤maxLen) (hb:n≤big):RepV K w (.hsl b n) (.slice (some ⟨b,0,none⟩) n cap)
  |osl (b cap:Nat) (xs:List (List D)) (hp:0<xs.length) (h:RepV K w (.slc xs) (.slice (some ⟨b,0,none⟩) xs.length cap)):RepV K w (.osl b cap xs) (.slice (some ⟨b,0,none⟩) xs.length cap)
  |oslnil (b cap:Nat) (a:Option Addr):RepV K w (.osl b cap []) (.slice a 0 0)
  | agg (cs:List D) (vs:Array Value) (hl:vs.size=cs.length)
      (hone:∀(j:Nat) (v:Value),vs[j]?=some v→v.oneCell'=true)
      (hrep:∀(j:Nat) (d:D) (v:Value),cs[j]?=some d→vs[j]?=some v→RepV K w d v):RepV K w (.agg cs) (.agg vs)
  | tup (cs:List D) (vs:Array Value) (hl:vs.size=cs.length)
      (hrep:∀(j:Nat) (d:D) (v:Value),cs[j]?=some d→vs[j]?=some v→RepV K w d v):RepV K w (.tup cs) (.tuple vs)
  | mpv (es:List (D×D)) (b:Nat) (c:Array MapEntry) (hk:K b= .imm) (hb:b<w.heap.size) (hh:w.heap[b]?=some (.map c c.size)) (hl:c.size=es.length)
      (hkey:∀(j:Nat) (p:D×D) (e:MapEntry),es[j]?=some p→c[j]?=some e→RepV K w p.1 e.key)
      (hval:∀(j:Nat) (p:D×D) (e:MapEntry),es[j]?=some p→c[j]?=some e→RepV K w p.2 e.val):RepV K w (.mpv es) (.map (some b))
  |yld (l:Nat):RepV K w (.yld l) (.func (.yield l) #[] #[])
  |hso (b off n cap:Nat) (hp:0<n) (hc:n≤cap) (hm:cap≤maxLen) (hb:n≤big):RepV K w (.hso b off n) (.slice (some ⟨b,off,none⟩) n cap)
  |hgs (b n cap:Nat) (hc:n≤cap) (hm:cap≤maxLen) (hb:n≤big):RepV K w (.hgs b n cap) (.slice (some ⟨b,0,none⟩) n cap)
  |any (v:Value):RepV K w .any v
structure ExtV (K:Nat→BK) (w:World) (K':Nat→BK) (w':World):Prop where
  os:w'.os=w.os
  tape:w'.tape=w.tape
  output:w'.output=w.output∧w.drawn≤w'.drawn
  size:w.heap.size≤w'.heap.size
  imm:∀b,b<w.heap.size→K b= .imm→K' b= .imm∧w'.heap[b]?=w.heap[b]?
  tok:∀b n o,K b= .tok n o→0<n→∃m o',K' b= .tok m o'∧n≤m∧∀j,j<n→w'.cell? ⟨b,j,none⟩=w.cell? ⟨b,j,none⟩
  priv:∀b,K b= .priv→K' b= .priv∨b<w'.heap.size
theorem ExtV.refl (K:Nat→BK) (w:World):ExtV K w K w:=
  ⟨rfl,rfl,⟨rfl,Nat.le_refl _⟩,Nat.le_refl _,fun _ _ h=>⟨h,rfl⟩,fun b n o h _=>⟨n,o,h,Nat.le_refl _,fun _ _=>rfl⟩,fun _ h=>.inl h⟩
theorem ExtV.trans {K K' K'':Nat→BK} {w w' w'':World} (h:ExtV K w K' w') (g:ExtV K' w' K'' w''):ExtV K w K'' w'':=by
  refine ⟨g.os.trans h.os,g.tape.trans h.tape,⟨g.output.1.trans h.output.1,Nat.le_trans h.output.2 g.output.2⟩,Nat.le_trans h.size g.size,fun b hb hk=>?_,fun b n o hk hp=>?_,fun b hk=>?_⟩
  · obtain ⟨h1,h2⟩:=h.imm b hb hk
    obtain ⟨g1,g2⟩:=g.imm b (Nat.lt_of_lt_of_le hb h.size) h1
    exact ⟨g1,g2.trans h2⟩
  · obtain ⟨m,o',h1,h2,h3⟩:=h.tok b n o hk hp
    obtain ⟨m',o'',g1,g2,g3⟩:=g.tok b m o' h1 (Nat.lt_of_lt_of_le hp h2)
    exact ⟨m',o'',g1,Nat.le_trans h2 g2,fun j hj=>(g3 j (Nat.lt_of_lt_of_le hj h2)).trans (h3 j hj)⟩
  · rcases h.priv b hk with h1|h2
    · exact g.priv b h1
    · exact .inr (Nat.lt_of_lt_of_le h2 g.size)
theorem j3 {w w':World} {b:Nat} (h:w'.heap[b]?=w.heap[b]?) (o:Nat):w'.cell? ⟨b,o,none⟩=w.cell? ⟨b,o,none⟩:=
  World.cell?_of_block (w:=w) (a:=⟨b,o,none⟩) h
theorem ExtV.vis {K K':Nat→BK} {w w':World} (h:ExtV K w K' w') {b off n:Nat} (hv:Vis K w b off n):Vis K' w' b off n:=by
  obtain ⟨h1,h2⟩:=hv
  refine ⟨Nat.lt_of_lt_of_le h1 h.size,?_⟩
  cases hk:K b with
  |imm=>rw [(h.imm b h1 hk).1];trivial
  | priv=>
    rw [hk] at h2
    have h2':n=0:=h2
    cases K' b with
    |imm=>trivial
    |tok m o=>exact .inl h2'
    |priv=>exact h2'
  | tok m o=>
    rw [hk] at h2
    rcases (h2:n=0∨off+n≤m) with h2|h2
    · cases K' b with
      |imm=>trivial
      |tok m o=>exact .inl h2
      |priv=>exact h2
    · rcases Nat.eq_zero_or_pos n with hn|hn
      · cases K' b with
        |imm=>trivial
        |tok m o=>exact .inl hn
        |priv=>exact hn
      · obtain ⟨m',o',e1,e2,_⟩:=h.tok b m o hk (by omega)
        rw [e1]
        exact .inr (Nat.le_trans h2 e2)
theorem ExtV.cell {K K':Nat→BK} {w w':World} (h:ExtV K w K' w') {b off n:Nat} (hv:Vis K w b off n) {j:Nat} (hj:j<n):w'.cell? ⟨b,off+j,none⟩=w.cell? ⟨b,off+j,none⟩:=by
  obtain ⟨h1,h2⟩:=hv
  cases hk:K b with
  |imm=>exact j3 (h.imm b h1 hk).2 _
  |priv=>rw [hk] at h2;have h2':n=0:=h2;omega
  | tok m o=>
    rw [hk] at h2
    have h2':n=0∨off+n≤m:=h2
    obtain ⟨m',o',e1,e2,e3⟩:=h.tok b m o hk (by omega)
    exact e3 _ (by have h2':n=0∨off+n≤m:=h2;omega)
theorem JF {xs:List (List D)} {sz i j:Nat} {x:List D} {d:D} (hi:xs[i]?=some x) (hl:x.length=sz) (hj:x[j]?=some d):i*sz+j<xs.length*sz:=by
  have h1:i<xs.length:=(List.getElem?_eq_some_iff.1 hi).1
  have h2:j<sz:=by have:=(List.getElem?_eq_some_iff.1 hj).1;omega
  have h3:(i+1)*sz≤xs.length*sz:=Nat.mul_le_mul_right _ h1
  rw [Nat.add_mul] at h3
  omega
theorem RepV.mono {K K':Nat→BK} {w w':World} (h:ExtV K w K' w') {d:D} {v:Value} (hr:RepV K w d v):RepV K' w' d v:=by
  induction hr with
  |int k n h=>exact .int k n h
  |bool b=>exact .bool b
  |str s h=>exact .str s h
  |slcnil a=>exact .slcnil a
  | slc xs b off cap sz f hb hc hm hs hv hcell hone hrep ih=>
    exact .slc xs b off cap sz f hb hc hm hs (h.vis hv) (fun i x hi j d hj=>by rw [h.cell hv (JF hi (hs i x hi) hj)];exact hcell i x hi j d hj) hone ih
  |ptr b off=>exact .ptr b off
  | eptr cs b off f hv hcell hone hrep ih=>
    exact .eptr cs b off f (h.vis hv) (fun j d hj=>by rw [h.cell hv (List.getElem?_eq_some_iff.1 hj).1];exact hcell j d hj) hone ih
  |bnd g fs vs hl hrep ih=>exact .bnd g fs vs hl ih
  |fn g caps vs hb hl hrep ih=>exact .fn g caps vs hb hl ih
  |nilp=>exact .nilp
  |nilfn=>exact .nilfn
  |mp r=>exact .mp r
  |hsl b n cap hc hm hb=>exact .hsl b n cap hc hm hb
  |osl b cap xs hp h ih=>exact .osl b cap xs hp ih
  |oslnil b cap a=>exact .oslnil b cap a
  |agg cs vs hl hone hrep ih=>exact .agg cs vs hl hone ih
  |tup cs vs hl hrep ih=>exact .tup cs vs hl ih
  |mpv es b c hk hb hh hl hkey hval ih1 ih2=>exact .mpv es b c (h.imm b hb hk).1 (Nat.lt_of_lt_of_le hb h.size) ((h.imm b hb hk).2.trans hh) hl ih1 ih2
  |yld l=>exact .yld l
  |hso b off n cap hp hc hm hb=>exact .hso b off n cap hp hc hm hb
  |hgs b n cap hc hm hb=>exact .hgs b n cap hc hm hb
  |any v=>exact .any v
def OwnAt (K:Nat→BK) (w:World) (o:Who) (xs:List (List D)) (v:Value):Prop:=
  (xs= []∧∃a,v= .slice a 0 0)∨
  ∃ (b cap sz:Nat) (c:Array Value) (T:TypeId),v= .slice (some ⟨b,0,none⟩) xs.length cap∧K b= .tok (xs.length*sz) o∧w.heap[b]?=some (.cells c T (0,0))∧
    c.size=cap*sz∧0<xs.length∧xs.length≤cap∧cap≤maxLen∧xs.length≤big∧(∀(i:Nat) (x:List D),xs[i]?=some x→x.length=sz)∧
    ∀(i:Nat) (x:List D),xs[i]?=some x→∀(j:Nat) (d:D),x[j]?=some d→∃u,c[i*sz+j]?=some u∧u.oneCell'=true∧RepV K w d u
theorem kO {w:World} {b o:Nat} {c:Array Value} {T:TypeId} {fz:Nat×Nat} (h:w.heap[b]?=some (.cells c T fz)):w.cell? ⟨b,o,none⟩=c[o]?:=by
  simp [World.cell?,h]
theorem OwnAt.rep {K:Nat→BK} {w:World} {o:Who} {xs:List (List D)} {v:Value} (h:OwnAt K w o xs v):RepV K w (.slc xs) v:=by
  rcases h with ⟨rfl,a,rfl⟩|⟨b,cap,sz,c,T,rfl,hk,hh,hcs,hp,hl,hm,hb,hs,hrep⟩
  · exact .slcnil a
  · refine .slc xs b 0 cap sz (fun i j=>(c[i*sz+j]?).getD default) hb hl hm hs ⟨(Array.getElem?_eq_some_iff.1 hh).1,?_⟩ ?_ ?_ ?_
    · rw [hk];exact .inr (by simp)
    · intro i x hi j d hj
      obtain ⟨u,h1,_,_⟩:=hrep i x hi j d hj
      rw [Nat.zero_add,kO hh,h1];rfl
    · intro i x hi j d hj
      obtain ⟨u,h1,h2,_⟩:=hrep i x hi j d hj
      rw [h1];exact h2
    · intro i x hi j d hj
      obtain ⟨u,h1,_,h3⟩:=hrep i x hi j d hj
      rw [h1];exact h3
def RepC (K:Nat→BK) (w:World) (o:Who):D→Value→Prop
  | .own xs,v=>OwnAt K w o xs v
  |d,v=>RepV K w d v
def RepO (K:Nat→BK) (w:World) (i:Nat):D→Value→Prop
  | .own xs,v=>OwnAt K w (.slot i 0) xs v
  | .tup ds,v=>∃vs:Array Value,v= .tuple vs∧vs.size=ds.length∧∀(j:Nat) (d:D) (u:Value),ds[j]?=some d→vs[j]?=some u→RepC K w (.slot i (j+1)) d u
  |d,v=>RepV K w d v
theorem RepC.rep {K:Nat→BK} {w:World} {o:Who} {d:D} {v:Value} (h:RepC K w o d v):RepV K w d.view1 v:=by
  cases d<;>first|exact OwnAt.rep h|exact h
theorem RepO.rep {K:Nat→BK} {w:World} {i:Nat} {d:D} {v:Value} (h:RepO K w i d v):RepV K w d.view v:=by
  cases d<;>first
    |exact OwnAt.rep h
    |exact h
    | (obtain ⟨vs,rfl,hl,hr⟩:=h
       refine .tup _ vs (by simpa using hl) fun j d u hd hu=>?_
       rw [List.getElem?_map,Option.map_eq_some_iff] at hd
       obtain ⟨d',h1,rfl⟩:=hd
       exact (hr j d' u h1 hu).rep)
theorem RepV.repC {K:Nat→BK} {w:World} {o:Who} {d:D} {v:Value} (hn:∀xs,d≠ .own xs) (h:RepV K w d v):RepC K w o d v:=by
  cases d<;>first|exact h|exact (hn _ rfl).elim
theorem RepV.not_own {K:Nat→BK} {w:World} {xs:List (List D)} {v:Value} (h:RepV K w (.own xs) v):False:=by cases h
theorem RepV.viewO {K:Nat→BK} {w:World} {i:Nat} {d:D} {v:Value} (h:RepV K w d v):RepO K w i d v:=by
  cases d<;>first
    |exact h
    |exact h.not_own.elim
    | (cases h with
       |tup _ vs hl hr=>exact ⟨vs,rfl,hl,fun j d u hd hu=>(hr j d u hd hu).repC (fun xs e=>by subst e;exact (hr j _ u hd hu).not_own)⟩)
end Go.Aw
end
section
namespace Go.Aw
open Go Go.RowKit
inductive AO where
  |cells (cs:List D)
  |room (cap:Nat) (xs:List (List D))
  |mp (es:List (D×D))
  |lp (J:List D→(Nat→BK)→World→Prop) (pre:List D)
abbrev AH:=List (Nat×AO)
def MpAt (K:Nat→BK) (w:World) (b:Nat) (es:List (D×D)):Prop:=∃c:Array MapEntry,w.heap[b]?=some (.map c c.size)∧c.size=es.length∧
  ∀(j:Nat) (p:D×D),es[j]?=some p→∃e:MapEntry,c[j]?=some e∧e.born=j∧RepV K w p.1 e.key∧RepV K w p.2 e.val
theorem MpAt.ext {K K':Nat→BK} {w w':World} {b:Nat} {es:List (D×D)} (h:MpAt K w b es) (he:ExtV K w K' w') (hb:w'.heap[b]?=w.heap[b]?):MpAt K' w' b es:=by
  obtain ⟨c,h1,h2,h3⟩:=h
  refine ⟨c,hb.trans h1,h2,fun j p hp=>?_⟩
  obtain ⟨e,e1,e2,e3,e4⟩:=h3 j p hp
  exact ⟨e,e1,e2,e3.mono he,e4.mono he⟩
def LpOk (b:Nat) (J:List D→(Nat→BK)→World→Prop):Prop:=∀pre K w K' w',J pre K w→(∀c n j,K c= .tok n (.cell b j)→K' c= .tok n (.cell b j)∧w'.heap[c]?=w.heap[c]?)→J pre K' w'
def AO.at_ (K:Nat→BK) (w:World) (b:Nat):AO→Prop
  | .cells cs=>K b= .priv∧∃(c:Array Value) (T:TypeId),w.heap[b]?=some (.cells c T (0,0))∧c.size=cs.length∧
      ∀(j:Nat) (d:D),cs[j]?=some d→∃u,c[j]?=some u∧u.oneCell'=true∧RepC K w (.cell b j) d u
  | .room cap xs=>0<xs.length∧OwnAt K w (.cell b 0) xs (.slice (some ⟨b,0,none⟩) xs.length cap)
  | .mp es=>K b= .priv∧MpAt K w b es
  | .lp J pre=>(∃n j,K b= .tok n (.cell b j))∧J pre K w∧LpOk b J
structure HRel (K:Nat→BK) (w:World) (H:AH):Prop where
  nd:(H.map (·.1)).Nodup
  ok:∀b o,(b,o)∈H→AO.at_ K w b o
def KRel (K:Nat→BK) (w:World):Prop:=∀b,w.heap.size≤b→K b= .imm
structure Pres (K:Nat→BK) (w:World) (K':Nat→BK) (w':World):Prop where
  os:w'.os=w.os
  tape:w'.tape=w.tape
  output:w'.output=w.output∧w.drawn≤w'.drawn
  size:w.heap.size≤w'.heap.size
  old:∀b,b<w.heap.size→K' b=K b∧w'.heap[b]?=w.heap[b]?
  new:∀b n,K' b= .tok n .outer→K b= .tok n .outer
structure Keep (E:Who→Prop) (B:Nat→Prop) (K:Nat→BK) (w:World) (K':Nat→BK) (w':World):Prop where
  ext:ExtV K w K' w'
  own:∀b n o,K b= .tok n o→¬E o→K' b= .tok n o∧w'.heap[b]?=w.heap[b]?
  new:∀b n,K' b= .tok n .outer→K b= .tok n .outer
  box:∀b,K b= .priv→¬B b→K' b= .priv∧w'.heap[b]?=w.heap[b]?
def noE:Who→Prop:=fun _=>False
def noB:Nat→Prop:=fun _=>False
theorem KRel.lt_of {K:Nat→BK} {w:World} (h:KRel K w) {b:Nat} (hb:K b≠ .imm):b<w.heap.size:=by
  rcases Nat.lt_or_ge b w.heap.size with h'|h'
  · exact h'
  · exact (hb (h b h')).elim
theorem Pres.refl (K:Nat→BK) (w:World):Pres K w K w:=⟨rfl,rfl,⟨rfl,Nat.le_refl _⟩,Nat.le_refl _,fun _ _=>⟨rfl,rfl⟩,fun _ _ h=>h⟩
theorem Pres.drew {K K':Nat→BK} {w w':World} (h:Pres K w K' w'):Pres K w K' w'.drew:=⟨h.os,h.tape,⟨h.output.1,Nat.le_succ_of_le h.output.2⟩,h.size,h.old,h.new⟩
theorem Pres.keep {K K':Nat→BK} {w w':World} (hk:KRel K w) (h:Pres K w K' w'):Keep noE noB K w K' w':=by
  refine ⟨⟨h.os,h.tape,h.output,h.size,fun b hb hi=>⟨(h.old b hb).1.trans hi,(h.old b hb).2⟩,fun b n o hb _=>?_,fun b hb=>?_⟩,fun b n o hb _=>?_,h.new,fun b hb _=>?_⟩
  · have hlt:=hk.lt_of (b:=b) (by rw [hb];simp)
    exact ⟨n,o,(h.old b hlt).1.trans hb,Nat.le_refl _,fun j _=>j3 (h.old b hlt).2 j⟩
  · exact .inl ((h.old b (hk.lt_of (b:=b) (by rw [hb];simp))).1.trans hb)
  · have hlt:=hk.lt_of (b:=b) (by rw [hb];simp)
    exact ⟨(h.old b hlt).1.trans hb,(h.old b hlt).2⟩
  · exact ⟨(h.old b (hk.lt_of (b:=b) (by rw [hb];simp))).1.trans hb,(h.old b (hk.lt_of (b:=b) (by rw [hb];simp))).2⟩
theorem OwnAt.keep {E:Who→Prop} {B:Nat→Prop} {K K':Nat→BK} {w w':World} (h:Keep E B K w K' w') {o:Who} (he:¬E o) {xs:List (List D)} {v:Value} (ho:OwnAt K w o xs v):OwnAt K' w' o xs v:=by
  rcases ho with ho|⟨b,cap,sz,c,T,hv,hk,hh,hcs,hp,hl,hm,hb,hs,hrep⟩
  · exact .inl ho
  · obtain ⟨h1,h2⟩:=h.own b _ o hk he
    refine .inr ⟨b,cap,sz,c,T,hv,h1,h2.trans hh,hcs,hp,hl,hm,hb,hs,fun i x hi j d hj=>?_⟩
    obtain ⟨u,e1,e2,e3⟩:=hrep i x hi j d hj
    exact ⟨u,e1,e2,e3.mono h.ext⟩
theorem RepC.keep {E:Who→Prop} {B:Nat→Prop} {K K':Nat→BK} {w w':World} (h:Keep E B K w K' w') {o:Who} (he:¬E o) {d:D} {v:Value} (hr:RepC K w o d v):RepC K' w' o d v:=by
  cases d<;>first|exact OwnAt.keep h he hr|exact RepV.mono h.ext hr
theorem RepO.keep {E:Who→Prop} {B:Nat→Prop} {K K':Nat→BK} {w w':World} (h:Keep E B K w K' w') {i:Nat} (he:∀j,¬E (.slot i j)) {d:D} {v:Value} (hr:RepO K w i d v):RepO K' w' i d v:=by
  cases d<;>first
    |exact OwnAt.keep h (he 0) hr
    |exact RepV.mono h.ext hr
    | (obtain ⟨vs,hv,hl,hh⟩:=hr
       exact ⟨vs,hv,hl,fun j d u hd hu=>(hh j d u hd hu).keep h (he _)⟩)
theorem AO.keep {E:Who→Prop} {B:Nat→Prop} {K K':Nat→BK} {w w':World} (h:Keep E B K w K' w') {b:Nat} (hb:¬B b) (he:∀j,¬E (.cell b j)) {o:AO} (ho:o.at_ K w b):o.at_ K' w' b:=by
  cases o with
  | cells cs=>
    obtain ⟨hk,c,T,hh,hc,hr⟩:=ho
    refine ⟨(h.box b hk hb).1,c,T,(h.box b hk hb).2.trans hh,hc,fun j d hd=>?_⟩
    obtain ⟨u,e1,e2,e3⟩:=hr j d hd
    exact ⟨u,e1,e2,e3.keep h (he j)⟩
  |room cap xs=>exact ⟨ho.1,OwnAt.keep h (he 0) ho.2⟩
  |mp es=>exact ⟨(h.box b ho.1 hb).1,ho.2.ext h.ext (h.box b ho.1 hb).2⟩
  | lp J pre=>
    obtain ⟨⟨n,j,h1⟩,h2,h3⟩:=ho
    exact ⟨⟨n,j,(h.own b n _ h1 (he j)).1⟩,h3 pre K w K' w' h2 fun c n j hc=>h.own c n _ hc (he j),h3⟩
theorem HRel.keep {E:Who→Prop} {B:Nat→Prop} {K K':Nat→BK} {w w':World} {H:AH} (h:Keep E B K w K' w') (hb:∀b o,(b,o)∈H→¬B b∧∀j,¬E (.cell b j)) (hr:HRel K w H):HRel K' w' H:=
  ⟨hr.nd,fun b o ho=>AO.keep h (hb b o ho).1 (hb b o ho).2 (hr.ok b o ho)⟩
theorem HRel.pres {K K':Nat→BK} {w w':World} {H:AH} (hk:KRel K w) (h:Pres K w K' w') (hr:HRel K w H):HRel K' w' H:=
  hr.keep (h.keep hk) (fun _ _ _=>⟨fun h=>h,fun _ h=>h⟩)
def Qg (K:Nat→BK) (b:Nat) (x:BK):Nat→BK:=fun c=>if c=b then x else K c
theorem jR (K:Nat→BK) (b:Nat) (x:BK):Qg K b x b=x:=by simp [Qg]
theorem jh (K:Nat→BK) {b c:Nat} (x:BK) (h:c≠b):Qg K b x c=K c:=by simp [Qg,h]
theorem yQ {K:Nat→BK} {w:World} (hk:KRel K w) (o:Obj) {x:BK} (hx:∀n,x≠ .tok n .outer):Pres K w (Qg K w.heap.size x) (w.alloc o)∧KRel (Qg K w.heap.size x) (w.alloc o):=by
  refine ⟨⟨rfl,rfl,⟨rfl,Nat.le_refl _⟩,by simp,fun b hb=>⟨jh K x (by omega),Below.heap_alloc w o b hb⟩,fun b n hb=>?_⟩,fun b hb=>?_⟩
  · by_cases e:b=w.heap.size
    · subst e;rw [jR] at hb;exact (hx n hb).elim
    · rwa [jh K x e] at hb
  · simp only [World.size_alloc] at hb
    rw [jh K x (by omega)]
    exact hk b (by omega)
theorem Q2 {K:Nat→BK} {w:World} (hk:KRel K w) (o:Obj):Pres K w K (w.alloc o)∧KRel K (w.alloc o):=
  ⟨⟨rfl,rfl,⟨rfl,Nat.le_refl _⟩,by simp,fun b hb=>⟨rfl,Below.heap_alloc w o b hb⟩,fun _ _ h=>h⟩,fun b hb=>hk b (by simp at hb;omega)⟩
theorem KRel.drew {K:Nat→BK} {w:World} (hk:KRel K w):KRel K w.drew:=hk
def ja (P:Program) (t:TypeId):Bool:=match P.underlying t with|some (.struct _)|some (.array _ _)=>true|_=>false
def wb (P:Program) (t:TypeId):Option (Bool×Nat):=
  match P.underlying t,P.info? t with
  |some _,some i=>some (ja P t,i.size)
  |_,_=>none
def kY (P:Program) (t:TypeId):Option (TypeId×Nat):=
  match P.underlying t with
  | some (.slice e)=>match P.info? e with
    |some i=>if 0<i.size then some (e,i.size) else none
    |none=>none
  |_=>none
def Ko (P:Program) (t:TypeId):Option (Nat×Nat):=
  match P.underlying t with
  | some (.array n e)=>match P.info? e with
    |some i=>if 0<i.size∧1<n then some (n,i.size) else none
    |none=>none
  |_=>none
def jY (P:Program) (t:TypeId) (f:Nat):Option (Nat×Bool×Nat):=
  match P.underlying t with
  | some (.struct fs)=>match fs[f]? with
    | some x=>match wb P x.type with
      |some (b,n)=>if 0<n then some (x.offset,b,n) else none
      |none=>none
    |none=>none
  |_=>none
theorem wg {P:Program} {t:TypeId} {b:Bool} {n:Nat} (h:wb P t=some (b,n)):(∀w:World,(isAgg t).run P w= .ok b w)∧∀w:World,(sizeOf t).run P w= .ok n w:=by
  unfold wb at h
  cases hu:P.underlying t with
  |none=>simp [hu] at h
  | some d=>
    cases hi:P.info? t with
    |none=>simp [hu,hi] at h
    | some i=>
      simp only [hu,hi,Option.some.injEq,Prod.mk.injEq] at h
      obtain ⟨rfl,rfl⟩:=h
      constructor
      · intro w
        simp only [isAgg,Sem.run_bind,run_underlying hu,Result.andThen_ok,ja,hu]
        cases d<;>rfl
      · intro w
        simp [sizeOf,typeInfo,hi]
theorem ju {P:Program} {t e:TypeId} {n:Nat} (h:kY P t=some (e,n)):P.underlying t=some (.slice e)∧0<n∧∃i,P.info? e=some i∧i.size=n:=by
  unfold kY at h
  split at h
  · rename_i e' hu
    split at h
    · rename_i i hi
      split at h
      · rename_i hp
        simp only [Option.some.injEq,Prod.mk.injEq] at h
        obtain ⟨rfl,rfl⟩:=h
        exact ⟨hu,hp,i,hi,rfl⟩
      · cases h
    · cases h
  · cases h
theorem Y6 {P:Program} {t:TypeId} {m n:Nat} (h:Ko P t=some (m,n)):∃e,P.underlying t=some (.array m e)∧0<n∧1<m∧∃i,P.info? e=some i∧i.size=n:=by
  unfold Ko at h
  split at h
  · rename_i m' e' hu
    split at h
    · rename_i i hi
      split at h
      · rename_i hp
        simp only [Option.some.injEq,Prod.mk.injEq] at h
        obtain ⟨rfl,rfl⟩:=h
        exact ⟨e',hu,hp.1,hp.2,i,hi,rfl⟩
      · cases h
    · cases h
  · cases h
theorem uG {P:Program} {t:TypeId} {f off n:Nat} {b:Bool} (h:jY P t f=some (off,b,n)):∃fs x,P.underlying t=some (.struct fs)∧fs[f]?=some x∧x.offset=off∧wb P x.type=some (b,n)∧0<n:=by
  unfold jY at h
  split at h
  · rename_i fs hu
    split at h
    · rename_i x hx
      split at h
      · rename_i b' n' hi
        split at h
        · rename_i hp
          simp only [Option.some.injEq,Prod.mk.injEq] at h
          obtain ⟨rfl,rfl,rfl⟩:=h
          exact ⟨fs,x,hu,hx,rfl,hi,hp⟩
        · cases h
      · cases h
    · cases h
  · cases h
def Yields (P:Program) (o:Oper) (H:AH) (ρ:Operand→D) (d:D):Prop:=
  ∀ (K:Nat→BK) (w:World) (σ:Operand→Value) (i:Nat),KRel K w→HRel K w H→(∀x∈o.op.operands.toList,RepV K w (ρ x) (σ x))→
    ∃v K' w',(execOp σ o).run P w= .ok (.value v) w'∧Pres K w K' w'∧KRel K' w'∧RepO K' w' i d v
theorem qx {P:Program} {o:Oper} {H:AH} {ρ:Operand→D} {d:D}
    (h:∀(K:Nat→BK) (w:World) (σ:Operand→Value),KRel K w→HRel K w H→(∀x∈o.op.operands.toList,RepV K w (ρ x) (σ x))→∃v,(execOp σ o).run P w= .ok (.value v) w∧RepV K w d v):Yields P o H ρ d:=by
  intro K w σ i hk hh hr
  obtain ⟨v,h1,h2⟩:=h K w σ hk hh hr
  exact ⟨v,K,w,h1,.refl K w,hk,h2.viewO⟩
end Go.Aw
end
section
namespace Go.Aw
open Go Go.RowKit
section
variable {K:Nat→BK} {w:World} {v:Value}
theorem RepV.int_inv {k:IntKind} {n:Int} (h:RepV K w (.int k n) v):v= .int k n∧vk k n:=by cases h with|int _ _ h=>exact ⟨rfl,h⟩
theorem RepV.bool_inv {b:Bool} (h:RepV K w (.bool b) v):v= .bool b:=by cases h;rfl
theorem RepV.str_inv {s:List UInt8} (h:RepV K w (.str s) v):v= .string ⟨⟨s⟩⟩∧s.length≤big:=by cases h with|str _ h=>exact ⟨rfl,h⟩
theorem RepV.ptr_inv {b off:Nat} (h:RepV K w (.ptr b off) v):v= .pointer (some ⟨b,off,none⟩):=by cases h;rfl
theorem RepV.hsl_inv {b n:Nat} (h:RepV K w (.hsl b n) v):∃cap,v= .slice (some ⟨b,0,none⟩) n cap∧n≤cap∧cap≤maxLen∧n≤big:=by
  cases h with|hsl _ _ cap hc hm hb=>exact ⟨cap,rfl,hc,hm,hb⟩
theorem RepV.hgs_inv {b n cap:Nat} (h:RepV K w (.hgs b n cap) v):v= .slice (some ⟨b,0,none⟩) n cap∧n≤cap∧cap≤maxLen∧n≤big:=by
  cases h with|hgs _ _ _ hc hm hb=>exact ⟨rfl,hc,hm,hb⟩
theorem RepV.hso_inv {b off n:Nat} (h:RepV K w (.hso b off n) v):∃cap,v= .slice (some ⟨b,off,none⟩) n cap∧0<n∧n≤cap∧cap≤maxLen∧n≤big:=by
  cases h with|hso _ _ _ cap hp hc hm hb=>exact ⟨cap,rfl,hp,hc,hm,hb⟩
theorem RepV.eptr_inv {cs:List D} (h:RepV K w (.eptr cs) v):∃(b off:Nat) (f:Nat→Value),v= .pointer (some ⟨b,off,none⟩)∧Vis K w b off cs.length∧
    (∀(j:Nat) (d:D),cs[j]?=some d→w.cell? ⟨b,off+j,none⟩=some (f j))∧(∀(j:Nat) (d:D),cs[j]?=some d→(f j).oneCell'=true)∧(∀(j:Nat) (d:D),cs[j]?=some d→RepV K w d (f j)):=by
  cases h with|eptr _ b off f hv hc ho hr=>exact ⟨b,off,f,rfl,hv,hc,ho,hr⟩
theorem RepV.fn_inv {g:FuncId} {caps:List D} (h:RepV K w (.fn g caps) v) (hb:Uo caps=false):∃vs:Array Value,v= .func (.func g) #[] vs∧vs.size=caps.length∧
    ∀(j:Nat) (d:D) (u:Value),caps[j]?=some d→vs[j]?=some u→RepV K w d u:=by
  cases h with
  |fn _ _ vs _ hl hr=>exact ⟨vs,rfl,hl,hr⟩
  |bnd _ fs vs hl hr=>cases hb
theorem WT {l m:List D} {A B:Array Value} (h1:A.size=l.length) (h2:B.size=m.length) (r1:∀(j:Nat) (d:D) (u:Value),l[j]?=some d→A[j]?=some u→RepV K w d u) (r2:∀(j:Nat) (d:D) (u:Value),m[j]?=some d→B[j]?=some u→RepV K w d u):
    (A++B).size=(l++m).length∧∀(j:Nat) (d:D) (u:Value),(l++m)[j]?=some d→(A++B)[j]?=some u→RepV K w d u:=by
  refine ⟨by simp [h1,h2],fun j d u hd hu=>?_⟩
  rw [List.getElem?_append] at hd
  split at hd
  · rename_i hj
    rw [Array.getElem?_append_left (by rw [h1];exact hj)] at hu
    exact r1 j d u hd hu
  · rename_i hj
    rw [Array.getElem?_append_right (by rw [h1];omega)] at hu
    exact r2 _ d u hd (by rwa [h1] at hu)
theorem RepV.fn_call {g:FuncId} {caps:List D} (h:RepV K w (.fn g caps) v):∃fs vs:Array Value,v= .func (.func g) fs vs∧∀(args:List D) (us:Array Value),us.size=args.length→(∀(j:Nat) (d:D) (u:Value),args[j]?=some d→us[j]?=some u→RepV K w d u)→
    (fs++us++vs).size=(wx args caps).length∧∀(j:Nat) (d:D) (u:Value),(wx args caps)[j]?=some d→(fs++us++vs)[j]?=some u→RepV K w d u:=by
  cases h with
  | fn _ _ vs hb hl hr=>
    refine ⟨#[],vs,rfl,fun args us h1 h2=>?_⟩
    have e:wx args caps=args++caps:=by
      unfold wx
      split
      · cases hb
      · rfl
    rw [e,Array.empty_append]
    exact WT h1 hl h2 hr
  | bnd _ fs vs hl hr=>
    refine ⟨vs,#[],rfl,fun args us h1 h2=>?_⟩
    rw [Array.append_empty]
    exact WT hl h1 hr h2
theorem RepV.agg_inv {cs:List D} (h:RepV K w (.agg cs) v):∃vs:Array Value,v= .agg vs∧vs.size=cs.length∧(∀(j:Nat) (u:Value),vs[j]?=some u→u.oneCell'=true)∧
    ∀(j:Nat) (d:D) (u:Value),cs[j]?=some d→vs[j]?=some u→RepV K w d u:=by cases h with|agg _ vs hl ho hr=>exact ⟨vs,rfl,hl,ho,hr⟩
theorem RepV.slc_inv {xs:List (List D)} (h:RepV K w (.slc xs) v):(xs= []∧∃a,v= .slice a 0 0)∨∃(b off cap sz:Nat) (f:Nat→Nat→Value),v= .slice (some ⟨b,off,none⟩) xs.length cap∧
    xs.length≤cap∧cap≤maxLen∧(∀(i:Nat) (x:List D),xs[i]?=some x→x.length=sz)∧Vis K w b off (xs.length*sz)∧
    (∀(i:Nat) (x:List D),xs[i]?=some x→∀(j:Nat) (d:D),x[j]?=some d→w.cell? ⟨b,off+(i*sz+j),none⟩=some (f i j))∧
    (∀(i:Nat) (x:List D),xs[i]?=some x→∀(j:Nat) (d:D),x[j]?=some d→(f i j).oneCell'=true)∧
    (∀(i:Nat) (x:List D),xs[i]?=some x→∀(j:Nat) (d:D),x[j]?=some d→RepV K w d (f i j)):=by
  cases h with
  |slcnil a=>exact .inl ⟨rfl,a,rfl⟩
  |slc _ b off cap sz f hb hc hm hs hv hcell hone hrep=>exact .inr ⟨b,off,cap,sz,f,rfl,hc,hm,hs,hv,hcell,hone,hrep⟩
theorem RepV.slc_form {xs:List (List D)} (h:RepV K w (.slc xs) v):∃a cap,v= .slice a xs.length cap∧xs.length≤cap∧cap≤maxLen:=by
  rcases h.slc_inv with ⟨rfl,a,rfl⟩|⟨b,off,cap,sz,f,rfl,hc,hm,_⟩
  · exact ⟨a,0,rfl,Nat.le_refl _,Nat.zero_le _⟩
  · exact ⟨_,cap,rfl,hc,hm⟩
theorem RepV.slc_big {xs:List (List D)} (h:RepV K w (.slc xs) v):xs.length≤big:=by
  cases h with
  |slcnil a=>exact Nat.zero_le _
  |slc _ b off cap sz f hb hc hm hs hv hcell hone hrep=>exact hb
end
def fact:D→Prop
  | .int k n=>vk k n
  | .str s=>s.length≤big
  | .slc xs=>xs.length≤big
  | .own xs=>xs.length≤big
  |_=>True
theorem RepV.fact {K:Nat→BK} {w:World} {d:D} {v:Value} (h:RepV K w d v):fact d:=by
  cases d<;>first
    |exact trivial
    |exact h.int_inv.2
    |exact h.str_inv.2
    |exact h.slc_big
    |exact h.not_own.elim
def jj:Value→D
  | .int k n=>.int k n
  | .bool b=>.bool b
  | .string s=>.str s.data.toList
  | .slice none 0 0=>.own []
  | .pointer none=>.nilp
  | .nilFunc=>.nilfn
  | .map none=>.mp none
  |_=>.any
def yH:Value→Bool
  | .int k n=>(Lit.int k n).wf
  | .string s=>decide (s.size≤140737488355328)
  |_=>true
theorem y4 {K:Nat→BK} {w:World} {o:Who} {v:Value} (h:yH v=true):RepC K w o (jj v) v:=by
  unfold jj
  split<;>first
    |exact .bool _
    |exact .inl ⟨rfl,none,rfl⟩
    |exact .nilp
    |exact .nilfn
    |exact .mp _
    |exact .any _
    |exact .int _ _ (by simpa [yH,vk] using h)
    |exact .str _ (by simpa [yH,big] using h)
def cellsOf:D→List D
  | .agg cs=>cs
  |d=>[d]
def okc:D→Bool
  | .any=>false
  | .tup _=>false
  | .own _=>false
  |_=>true
theorem vF {K:Nat→BK} {w:World} {d:D} {v:Value} (h:RepV K w d v) (ho:okc d=true):
    v.cells.size=(cellsOf d).length∧(∀(j:Nat) (u:Value),v.cells[j]?=some u→u.oneCell'=true)∧∀(j:Nat) (d':D) (u:Value),(cellsOf d)[j]?=some d'→v.cells[j]?=some u→RepV K w d' u:=by
  have one:∀(d:D) (v:Value),RepV K w d v→v.cells=#[v]→v.oneCell'=true→v.cells.size= [d].length∧(∀(j:Nat) (u:Value),v.cells[j]?=some u→u.oneCell'=true)∧
      ∀(j:Nat) (d':D) (u:Value),[d][j]?=some d'→v.cells[j]?=some u→RepV K w d' u:=by
    intro d v hr hc h1
    rw [hc]
    refine ⟨rfl,fun j u hu=>?_,fun j d' u hd hu=>?_⟩
    · cases j with
      |zero=>simp at hu;exact hu▸h1
      |succ j=>simp at hu
    · cases j with
      |zero=>simp at hd hu;exact hd▸hu▸hr
      |succ j=>simp at hd
  cases h with
  |agg cs vs hl hone hrep=>exact ⟨hl,hone,hrep⟩
  |tup=>simp [okc] at ho
  |any=>simp [okc] at ho
  |int k n h=>exact one _ _ (.int k n h) rfl rfl
  |bool b=>exact one _ _ (.bool b) rfl rfl
  |str s h=>exact one _ _ (.str s h) rfl rfl
  |slcnil a=>exact one _ _ (.slcnil a) rfl rfl
  |slc xs b off cap sz f hb hc hm hs hv hcell hone hrep=>exact one _ _ (.slc xs b off cap sz f hb hc hm hs hv hcell hone hrep) rfl rfl
  |ptr b off=>exact one _ _ (.ptr b off) rfl rfl
  |eptr cs b off f hv hcell hone hrep=>exact one _ _ (.eptr cs b off f hv hcell hone hrep) rfl rfl
  |bnd g fs vs hl hrep=>exact one _ _ (.bnd g fs vs hl hrep) rfl rfl
  |fn g caps vs hb hl hrep=>exact one _ _ (.fn g caps vs hb hl hrep) rfl rfl
  |nilp=>exact one _ _ .nilp rfl rfl
  |nilfn=>exact one _ _ .nilfn rfl rfl
  |mp r=>exact one _ _ (.mp r) rfl rfl
  |hsl b n cap hc hm hb=>exact one _ _ (.hsl b n cap hc hm hb) rfl rfl
  |osl b cap xs hp h=>exact one _ _ (.osl b cap xs hp h) rfl rfl
  |oslnil b cap a=>exact one _ _ (.oslnil b cap a) rfl rfl
  |mpv es b c hk hb hh hl h1 h2=>exact one _ _ (.mpv es b c hk hb hh hl h1 h2) rfl rfl
  |yld l=>exact one _ _ (.yld l) rfl rfl
  |hso b off n cap hp hc hm hb=>exact one _ _ (.hso b off n cap hp hc hm hb) rfl rfl
  |hgs b n cap hc hm hb=>exact one _ _ (.hgs b n cap hc hm hb) rfl rfl
def yK (P:Program) (t:TypeId):Option (List D):=
  match P.info? t with
  | some i=>match i.zero with
    |some z=>if z.cells.size=i.size∧z.cells.all (fun v=>yH v&&v.oneCell'&&(match jj v with| .any=>false|_=>true)) then some (z.cells.toList.map jj) else none
    |none=>none
  |none=>none
theorem y7 {P:Program} {t:TypeId} {cs:List D} (h:yK P t=some cs):∃i z,P.info? t=some i∧i.zero=some z∧z.cells.size=cs.length∧i.size=cs.length∧
    (∀(j:Nat) (u:Value),z.cells[j]?=some u→u.oneCell'=true∧yH u=true)∧∀(j:Nat) (d:D) (u:Value),cs[j]?=some d→z.cells[j]?=some u→d=jj u:=by
  unfold yK at h
  split at h
  · rename_i i hi
    split at h
    · rename_i z hz
      split at h
      · rename_i hc
        simp only [Option.some.injEq] at h
        subst h
        refine ⟨i,z,hi,hz,by simp,by simp [hc.1],fun j u hu=>?_,fun j d u hd hu=>?_⟩
        · have hm:u∈z.cells:=Array.mem_of_getElem? hu
          have:=(Array.all_eq_true'.1 hc.2) u hm
          simp only [Bool.and_eq_true] at this
          exact ⟨this.1.2,this.1.1⟩
        · simp only [List.getElem?_map,Array.getElem?_toList,hu,Option.map_some,Option.some.injEq] at hd
          exact hd.symm
      · cases h
    · cases h
  · cases h
theorem WW {P:Program} {t:TypeId} {cs:List D} {z:Value} {i:TypeInfo} (h:yK P t=some cs) (hi:P.info? t=some i) (hz:i.zero=some z) (K:Nat→BK) (w:World) (o:Nat→Who):
    z.cells.size=cs.length∧∀(j:Nat) (d:D),cs[j]?=some d→∃u,z.cells[j]?=some u∧u.oneCell'=true∧RepC K w (o j) d u:=by
  obtain ⟨i',z',hi',hz',h1,h2,h3,h4⟩:=y7 h
  obtain rfl:i=i':=by rw [hi] at hi';exact Option.some.inj hi'
  obtain rfl:z=z':=by rw [hz] at hz';exact Option.some.inj hz'
  refine ⟨h1,fun j d hd=>?_⟩
  have hj:j<z.cells.size:=by rw [h1];exact (List.getElem?_eq_some_iff.1 hd).1
  refine ⟨z.cells[j],Array.getElem?_eq_getElem hj,(h3 j _ (Array.getElem?_eq_getElem hj)).1,?_⟩
  rw [h4 j d _ hd (Array.getElem?_eq_getElem hj)]
  exact y4 (h3 j _ (Array.getElem?_eq_getElem hj)).2
def qu:AH→Nat→Option AO
  | [],_=>none
  |(c,o)::r,b=>if b=c then some o else qu r b
def qF:AH→Nat→AO→AH
  | [],_,_=>[]
  |(c,o)::r,b,x=>if b=c then (c,x)::r else (c,o)::qF r b x
theorem j4 {H:AH} {b:Nat} {o:AO} (h:qu H b=some o):(b,o)∈H:=by
  induction H with
  |nil=>simp [qu] at h
  | cons x r ih=>
    obtain ⟨c,o'⟩:=x
    simp only [qu] at h
    split at h
    · rename_i e;subst e;simp only [Option.some.injEq] at h;subst h;exact .head _
    · exact .tail _ (ih h)
def QM (P:Program) (t:TypeId):Option IntKind:=match P.underlying t with|some (.int k)=>some k|_=>none
def jN (P:Program) (t:TypeId):Bool:=match P.underlying t with|some .string=>true|_=>false
def yt (P:Program) (t:TypeId):Bool:=match P.underlying t with|some .bool=>true|_=>false
def yc (P:Program) (t:TypeId):Bool:=match P.underlying t with|some (.slice e)=>(match P.underlying e with|some (.int .u8)=>true|_=>false)|_=>false
def uD (P:Program) (t:TypeId):Bool:=(P.underlying t).isSome
def qA (c:UInt8):List D:= [.int .u8 c.toNat]
def unbyte:List D→UInt8
  | [.int _ n]=>UInt8.ofNat n.toNat
  |_=>0
def zw:List D→Prop
  | [.int .u8 n]=>0≤n∧n≤255
  |_=>False
def y6 (op:BinOp) (x y:D) (k:D→Prop):Prop:=
  match x,y with
  | .int ka a,.int kb b=>match op with
    | .shl=>0≤b∧k (.int ka (ka.wrap (a*2 ^ (min b.toNat ka.bits))))
    | .shr=>0≤b∧k (.int ka (a.fdiv (2 ^ (min b.toNat ka.bits))))
    | .add=>ka=kb∧k (.int ka (ka.wrap (a+b)))
    | .sub=>ka=kb∧k (.int ka (ka.wrap (a - b)))
    | .mul=>ka=kb∧k (.int ka (ka.wrap (a*b)))
    | .quo=>ka=kb∧b≠0∧k (.int ka (ka.wrap (a.tdiv b)))
    | .rem=>ka=kb∧b≠0∧k (.int ka (a.tmod b))
    | .and=>ka=kb∧k (.int ka (bits .and ka a b))
    | .or=>ka=kb∧k (.int ka (bits .or ka a b))
    | .xor=>ka=kb∧k (.int ka (bits .xor ka a b))
    | .andNot=>ka=kb∧k (.int ka (bits .andNot ka a b))
    | .eql=>ka=kb∧k (.bool (decide (a=b)))
    | .neq=>ka=kb∧k (.bool (!decide (a=b)))
    | .lss=>ka=kb∧k (.bool (decide (a<b)))
    | .leq=>ka=kb∧k (.bool (decide (a≤b)))
    | .gtr=>ka=kb∧k (.bool (decide (b<a)))
    | .geq=>ka=kb∧k (.bool (decide (b≤a)))
  | .str a,.str b=>match op with
    | .add=>a.length+b.length≤big∧k (.str (a++b))
    | .eql=>k (.bool (decide (a=b)))
    | .neq=>k (.bool (!decide (a=b)))
    | .lss=>k (.bool (Op.bytesLess a b))
    | .leq=>k (.bool (Op.bytesLess a b||decide (a=b)))
    | .gtr=>k (.bool (!(Op.bytesLess a b||decide (a=b))))
    | .geq=>k (.bool (!Op.bytesLess a b))
    |_=>False
  | .bool a,.bool b=>match op with
    | .eql=>k (.bool (a==b))
    | .neq=>k (.bool (!(a==b)))
    |_=>False
  |_,_=>False
inductive CT where
  |i
  |b
  |s
def Qs (P:Program) (g:TypeId→Option (List CT)):List Field→Nat→Option (List CT)
  | [],_=>some []
  | f :: fs, off=>if f.name ≠ "_" ∧ f.offset = off then
      match g f.type with
      | some l=>if wb P f.type=some (ja P f.type,l.length)∧(ja P f.type=true∨l.length=1)∧0<l.length then
          match Qs P g fs (off+l.length) with
          |some r=>some (l++r)
          |none=>none
        else none
      |none=>none
    else none
def yz (P:Program):Nat→TypeId→Option (List CT)
  |0,_=>none
  | e+1,t=>match P.underlying t with
    |some (.int _)=>some [.i]
    |some .bool=>some [.b]
    |some .string=>some [.s]
    |some (.struct fs)=>if P.stoodInHeld t=false then Qs P (yz P e) fs.toList 0 else none
    |_=>none
def Ui (P:Program) (t:TypeId):Option (List CT):=if P.eqGuardType P.depth t=false∧ja P t=true then yz P 8 t else none
def fits:List CT→List D→Prop
  | [],[]=>True
  | .i::r,.int _ _::s=>fits r s
  | .b::r,.bool _::s=>fits r s
  | .s::r,.str _::s=>fits r s
  |_,_=>False
def cellEq:D→D→Bool
  | .int k a,.int k' b=>decide (k=k')&&decide (a=b)
  | .bool a,.bool b=>a==b
  | .str a,.str b=>decide (a=b)
  |_,_=>false
def eqCells:List D→List D→Bool
  | [],[]=>true
  |a::r,b::s=>cellEq a b&&eqCells r s
  |_,_=>false
def sameK:List D→List D→Prop
  | .int k _::r,.int k' _::s=>k=k'∧sameK r s
  |_::r,_::s=>sameK r s
  |_,_=>True
def kq (P:Program) (t:TypeId):Bool:=
  match P.underlying t with
  |some (.struct fs)=>fs.all fun f=>(P.info? f.type).isSome
  |some (.array _ e)=>(P.info? e).isSome
  |_=>false
def kQ (P:Program) (t:TypeId) (f:Nat):Option (Nat×Bool×Nat):=
  match P.underlying t with
  | some (.array m e)=>match P.info? e with
    |some i=>if f<m then some (f*i.size,false,i.size) else none
    |none=>none
  |_=>jY P t f
def wc (P:Program) (t:TypeId):List (Nat×List D)→List D→(List D→Prop)→Prop
  | [],z,k=>k z
  | (i,cs)::r,z,k=>match kQ P t i with
    |some (off,_,n)=>cs.length=n∧off+n≤z.length∧wc P t r (z.take off++(cs++z.drop (off+n))) k
    |none=>False
def oQ (n:Nat) (lo hi:Option D) (k:Nat→Nat→Prop):Prop:=
  match lo,hi with
  |none,none=>k 0 n
  |some (.int _ l),none=>0≤l∧l≤(n:Int)∧k l.toNat n
  |none,some (.int _ h)=>0≤h∧h≤(n:Int)∧k 0 h.toNat
  |some (.int _ l),some (.int _ h)=>0≤l∧l≤h∧h≤(n:Int)∧k l.toNat h.toNat
  |_,_=>False
def kw:List (D×D)→List D→Option D
  | [],_=>none
  |p::r,k=>if eqCells k (cellsOf p.1)=true then some p.2 else kw r k
def uk:List (D×D)→D→D→List (D×D)
  | [],k,v=>[(k,v)]
  |p::r,k,v=>if eqCells (cellsOf k) (cellsOf p.1)=true then (k,v)::r else p::uk r k v
def K6:D→Bool
  | .agg _=>true
  |_=>false
def kX (ag:Bool) (l:List CT) (es:List (D×D)) (k:D):Prop:=K6 k=ag∧fits l (cellsOf k)∧∀p∈es,K6 p.1=ag∧fits l (cellsOf p.1)∧sameK (cellsOf k) (cellsOf p.1)
def zC (v:Value):D:=match jj v with
  | .own xs=>.osl 0 0 xs
  |d=>d
def zD (P:Program) (t:TypeId):Option D:=match P.info? t with
  | some i=>match i.zero with
    |some (.agg cs)=>if cs.toList.all (fun v=>yH v&&v.oneCell')=true then some (.agg (cs.toList.map zC)) else none
    |some v=>if (yH v&&v.oneCell')=true then some (zC v) else none
    |none=>none
  |none=>none
def VN (P:Program) (t:TypeId):Option (Bool×List CT×D):=match P.underlying t with
  | some (.map kt et)=>match yz P 8 kt,zD P et with
    |some l,some z=>some (ja P kt,l,z)
    |_,_=>none
  |_=>none
def D.wk1:D→D
  | .osl _ _ xs=>.slc xs
  |d=>d
def D.wkA:D→D
  | .agg cs=>.agg (cs.map D.wk1)
  |d=>d.wk1
def v8 (ok:Bool) (z:D) (o:Option D):D:=match ok,o with
  |false,some d=>d
  |false,none=>z
  |true,some d=>.tup [d,.bool true]
  |true,none=>.tup [z,.bool false]
def D.wkT:D→D
  | .tup ds=>.tup (ds.map D.wkA)
  |d=>d.wkA
def wkI (wk:Bool) (d:D):D:=match wk with
  |true=>d.wkT
  |false=>d
def gS (P:Program) (wk:Bool) (t:TypeId) (H:AH) (m i:D) (ok:Bool) (k:D→Prop):Prop:=match VN P t,m with
  |some (ag,l,z),.mp none=>kX ag l [] i∧k (wkI wk (v8 ok z none))
  |some (ag,l,z),.mpv es=>kX ag l es i∧(fact (v8 ok z (kw es (cellsOf i)))→k (wkI wk (v8 ok z (kw es (cellsOf i)))))
  | some (ag,l,z),.mp (some b)=>match qu H b with
    |some (.mp es)=>kX ag l es i∧(fact (v8 ok z (kw es (cellsOf i)))→k (wkI wk (v8 ok z (kw es (cellsOf i)))))
    |_=>False
  |_,_=>False
theorem RepV.wk1 {K:Nat→BK} {w:World} {d:D} {v:Value} (h:RepV K w d v):RepV K w d.wk1 v:=by
  cases d<;>first|exact h|(cases h<;>first|assumption|exact .slcnil _)
theorem RepV.wkA {K:Nat→BK} {w:World} {d:D} {v:Value} (h:RepV K w d v):RepV K w d.wkA v:=by
  cases d<;>first
    |exact h.wk1
    | (cases h with
       | agg _ vs hl h1 hr=>exact .agg _ vs (by simpa using hl) h1 (fun j d u hd hu=>by
           rw [List.getElem?_map,Option.map_eq_some_iff] at hd
           obtain ⟨d',e1,rfl⟩:=hd
           exact (hr j d' u e1 hu).wk1))
theorem RepV.wkI {K:Nat→BK} {w:World} {wk:Bool} {d:D} {v:Value} (h:RepV K w d v):RepV K w (Go.Aw.wkI wk d) v:=by
  cases wk
  · exact h
  · cases d<;>first
      |exact h.wkA
      | (cases h with
         | tup _ vs hl hr=>exact .tup _ vs (by simpa using hl) (fun j d u hd hu=>by
             rw [List.getElem?_map,Option.map_eq_some_iff] at hd
             obtain ⟨d',e1,rfl⟩:=hd
             exact (hr j d' u e1 hu).wkA))
def qO (P:Program) (ρ:Operand→D) (H:AH) (op:Op) (k:D→Prop):Prop:=
  match op with
  | .pick c a b=>match ρ c with
    | .bool true=>k (ρ a)
    | .bool false=>k (ρ b)
    |_=>False
  | .build t ps=>match yK P t with
    |some z=>kq P t=true∧(∀p∈ps.toList,okc (ρ p.2)=true)∧wc P t (ps.toList.map fun p=>(p.1,cellsOf (ρ p.2))) (z.map D.view1) fun cs=>k (.agg cs)
    |none=>False
  | .buildSlice t n ps=>match kY P t with
    |some (e,sz)=>ps.toList.map (·.1)=List.range n∧(∀p∈ps.toList,okc (ρ p.2)=true∧(cellsOf (ρ p.2)).length=sz)∧n*sz≤16777216∧(yK P e).isSome=true∧k (.own (ps.toList.map fun p=>cellsOf (ρ p.2)))
    |none=>False
  | .load t a=>match wb P t,ρ a with
    | some (true,n),.ptr b off=>match qu H b with
      |some (.cells cs)=>off+n≤cs.length∧k (.agg (((cs.drop off).take n).map D.view1))
      |_=>False
    | some (false,_),.ptr b off=>match qu H b with
      | some (.cells cs)=>match cs[off]? with
        |some c=>fact c.view1→k c.view1
        |none=>False
      |_=>False
    |some (true,n),.eptr cs=>n≤cs.length∧k (.agg (cs.take n))
    |some (false,_),.eptr (c::_)=>fact c→k c
    |_,_=>False
  | .binOp op t x y _=>match ρ x,ρ y with
    | .bool a,.bool b=>yt P t=true∧y6 op (.bool a) (.bool b) k
    | .agg xs,.agg ys=>match Ui P t with
      | some l=>fits l xs∧fits l ys∧sameK xs ys∧(match op with
        | .eql=>k (.bool (eqCells xs ys))
        | .neq=>k (.bool (!eqCells xs ys))
        |_=>False)
      |none=>False
    |a,b=>y6 op a b k
  | .unOp op _ x=>match op,ρ x with
    | .not,.bool b=>k (.bool (!b))
    | .neg,.int kd n=>k (.int kd (kd.wrap (0 - n)))
    | .xor,.int kd n=>k (.int kd (bits .xor kd (if kd.signed then -1 else kd.max) n))
    |_,_=>False
  | .convert s t x=>match ρ x with
    | .int _ n=>match QM P t with
      |some kd=>uD P s=true∧k (.int kd (kd.wrap n))
      |none=>False
    | .str l=>if jN P t=true then jN P s=true∧k (.str l) else jN P s=true∧yc P t=true∧(fact (.str l)→k (.slc (l.map qA)))
    | .slc xs=>yc P s=true∧jN P t=true∧(∀x∈xs,zw x)∧(fact (.slc xs)→k (.str (xs.map unbyte)))
    |_=>False
  | .makeFunc (.func f) first caps=>match first.toList with
    | []=>Uo (caps.toList.map ρ)=false∧k (.fn f (caps.toList.map ρ))
    |x::l=>caps=#[]∧k (.fn f (.tup []::(x::l).map ρ))
  | .makeSlice t l c=>match kY P t with
    | some (e,sz)=>match yK P e,ρ l,ρ c with
      |some z,.int _ n,.int _ m=>n=m∧0≤n∧(match P.info? e with|some i=>(i.bytes:Int)*n≤140737488355328∧n≤140737488355328|none=>False)∧k (.own (List.replicate n.toNat (z.map D.view1)))
      |_,_,_=>False
    |none=>False
  | .slice t x lo hi none=>match ρ x with
    | .slc xs=>match kY P t with
      |some (_,sz)=>(∀x∈xs,x.length=sz)∧oQ xs.length (lo.map ρ) (hi.map ρ) fun l h=>k (.slc ((xs.take h).drop l))
      |none=>False
    | .str s=>jN P t=true∧oQ s.length (lo.map ρ) (hi.map ρ) fun l h=>k (.str ((s.take h).drop l))
    | .hsl b n=>match kY P t with
      |some (_,sz)=>oQ n (lo.map ρ) (hi.map ρ) fun l h=>l<h∧k (match lo with|none=>.hsl b h|some _=>.hso b (l*sz) (h - l))
      |none=>False
    |_=>False
  | .slice t x lo (some hi) (some mx)=>match lo.map ρ,ρ hi,ρ mx with
    |none,.int _ h,.int _ m=>h=0∧m=0∧(kY P t).isSome=true∧(∃xs,ρ x= .slc xs)∧k (.own [])
    |some (.int _ l),.int _ h,.int _ m=>l=0∧h=0∧m=0∧(kY P t).isSome=true∧(∃xs,ρ x= .slc xs)∧k (.own [])
    |_,_,_=>False
  | .fieldAddr t x f=>match jY P t f,ρ x with
    |some (off,_,_),.ptr b o=>k (.ptr b (o+off))
    |some (off,_,_),.eptr cs=>off≤cs.length∧k (.eptr (cs.drop off))
    |_,_=>False
  | .field t x f=>match jY P t f,ρ x with
    |some (off,true,n),.agg cs=>off+n≤cs.length∧k (.agg ((cs.drop off).take n))
    | some (off,false,_),.agg cs=>match cs[off]? with
      |some c=>fact c→k c
      |none=>False
    |_,_=>False
  | .indexAddr t x i=>match ρ x,ρ i with
    | .slc xs,.int _ n=>match kY P t with
      |some (_,sz)=>0≤n∧n<(xs.length:Int)∧(xs.getD n.toNat []).length=sz∧k (.eptr (xs.getD n.toNat []))
      |none=>False
    | .hsl b m,.int _ n=>match kY P t with
      |some (_,sz)=>0≤n∧n<(m:Int)∧k (.ptr b (n.toNat*sz))
      |none=>False
    | .ptr b off,.int _ n=>match Ko P t with
      |some (m,sz)=>0≤n∧n<(m:Int)∧k (.ptr b (off+n.toNat*sz))
      |none=>False
    | .eptr cs,.int _ n=>match Ko P t with
      |some (m,sz)=>0≤n∧n<(m:Int)∧n.toNat*sz≤cs.length∧k (.eptr (cs.drop (n.toNat*sz)))
      |none=>False
    | .hso b off m,.int _ n=>match kY P t with
      |some (_,sz)=>0≤n∧n<(m:Int)∧k (.ptr b (off+n.toNat*sz))
      |none=>False
    | .osl _ _ xs,.int _ n=>match kY P t with
      |some (_,sz)=>0≤n∧n<(xs.length:Int)∧(xs.getD n.toNat []).length=sz∧k (.eptr (xs.getD n.toNat []))
      |none=>False
    | .hgs b m _,.int _ n=>match kY P t with
      |some (_,sz)=>0≤n∧n<(m:Int)∧k (.ptr b (n.toNat*sz))
      |none=>False
    |_,_=>False
  | .index t x i=>match ρ x,ρ i with
    | .str s,.int _ n=>jN P t=true∧0≤n∧n<(s.length:Int)∧k (.int .u8 (s.getD n.toNat 0).toNat)
    |_,_=>False
  | .lookup t m i ok=>gS P true t H (ρ m) (ρ i) ok k
  | .nilCheck x=>match ρ x with
    | .ptr b o=>k (.ptr b o)
    | .eptr cs=>k (.eptr cs)
    | .fn f cs=>k (.fn f cs)
    |_=>False
  | .call c=>match c.callee,c.args.toList.map ρ,c.argTypes.toList with
    | .builtin .len,[.slc xs],[t]=>(kY P t).isSome=true∧(fact (.slc xs)→k (.int .i64 xs.length))
    | .builtin .len,[.hsl b n],[t]=>(kY P t).isSome=true∧k (.int .i64 n)
    | .builtin .len,[.hso b off n],[t]=>(kY P t).isSome=true∧k (.int .i64 n)
    | .builtin .len,[.hgs b n _],[t]=>(kY P t).isSome=true∧k (.int .i64 n)
    | .builtin .len,[.str s],[t]=>jN P t=true∧(fact (.str s)→k (.int .i64 s.length))
    | .builtin .max,[.int kd a,.int kb b],_=>kd=kb∧k (.int kd (if b>a then b else a))
    | .builtin .min,[.int kd a,.int kb b],_=>kd=kb∧k (.int kd (if b<a then b else a))
    |_,_,_=>False
  |_=>False
end Go.Aw
end
