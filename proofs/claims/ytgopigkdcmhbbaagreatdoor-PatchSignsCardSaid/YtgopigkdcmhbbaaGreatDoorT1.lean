/- A part of the proof of what the last text says: Aw1, Aw2, Aw3, Aw4, Aw5, Aw6, AwM, Aw7, Aw8. Conditions: those in each theorem. -/
import Derived.WalkKit
import Derived.OpenShut
import Derived.WalkLawsBesides
import Derived.ChangeKeysEq
import Derived.Laws.IdiomStrings
set_option autoImplicit true
set_option relaxedAutoImplicit true
set_option linter.unusedVariables false
set_option linter.unusedSimpArgs false
set_option maxRecDepth 100000
set_option maxHeartbeats 16000000
open List renaming getElem?_eq_getElem -> Na,getElem?_map -> Nb,length_append -> Nd,length_cons -> Nf,length_nil -> Ng,length_map -> Nh,getElem?_cons_succ -> Ni,getElem?_cons_zero -> Nj,mem_of_getElem? -> Nl,getElem?_append_left -> Nn,append_assoc -> No,length_take -> Nw,mem_map -> Ny,map_map -> Nz,flatten_cons -> N0,length_replicate -> N1
open Int renaming toNat_natCast -> Nc
open Option renaming map_eq_some_iff -> Nk
open Bool renaming and_eq_true -> Nm
open Array renaming getElem?_eq_getElem -> Nv
open Nat renaming le_trans -> Np,lt_of_lt_of_le -> Nq,le_refl -> Nr,zero_add -> Nt,lt_or_ge -> Nu,reduceSub -> qa,reduceAdd -> qb,reduceMul -> qc,reduceEqDiff -> qd,reduceLeDiff -> qe,reduceBEq -> qf
section
namespace Go.Aw
open Go Go.RowKit
theorem qo {p:Prop} (h:p:=by omega):p=True:=eq_true h
theorem qy {p:Prop} (h:¬p:=by omega):p=False:=eq_false h
inductive D where
  |int (k:IntKind) (n:Int)
  |bool (b:Bool)
  |str (s:List UInt8)
  |slc (xs:List (List D))
  |own (xs:List (List D))
  |ptr (b off:Nat)
  |eptr (cs:List D)
  |fn (f:FuncId) (caps:List D)
  |nilp
  |nilfn
  |mp (r:Option Nat)
  |hsl (b n:Nat)
  |osl (b cap:Nat) (xs:List (List D))
  |agg (cs:List D)
  |tup (ds:List D)
  |mpv (es:List (D×D))
  |yld (l:Nat)
  |hso (b off n:Nat)
  |hgs (b n cap:Nat)
  |any
instance:Inhabited D:=⟨.any⟩
def D.view1:D->D
  | .own xs=>.slc xs
  |d=>d
def D.view:D->D
  | .tup ds=>.tup (ds.map D.view1)
  | .own xs=>.slc xs
  |d=>d
inductive Who where
  |slot (i j:Nat)
  |cell (b j:Nat)
  |outer
  deriving DecidableEq
inductive BK where
  |imm
  |tok (n:Nat) (o:Who)
  |priv
  deriving DecidableEq
def big:Nat:=140737488355328
theorem qk:big=140737488355328:=rfl
def Vis (K:Nat->BK) (w:World) (b off n:Nat):Prop:=
  b <w.heap.size∧match K b with
    | .imm=>True
    | .tok m _=>n=0∨off+n<=m
    | .priv=>n=0
def B2:List D->Bool
  | .tup []::_=>true
  |_=>false
def uv (args:List D):List D->List D
  | .tup []::fs=>fs++args
  |caps=>args++caps
def wP (k:IntKind) (n:Int):Prop:=(Lit.int k n).wf=true
inductive RepV (K:Nat->BK) (w:World):D->Value->Prop where
  |int (k:IntKind) (n:Int) (h:wP k n):RepV K w (.int k n) (.int k n)
  |bool (b:Bool):RepV K w (.bool b) (.bool b)
  |str (s:List UInt8) (h:s.length<=big):RepV K w (.str s) (.string ⟨⟨s⟩⟩)
  |slcnil (a:Option Addr):RepV K w (.slc []) (.slice a 0 0)
  | slc (xs:List (List D)) (b off cap sz:Nat) (f:Nat->Nat->Value) (hb:xs.length<=big) (hc:xs.length<=cap) (hm:cap<=maxLen)
      (hs:∀(i:Nat) (x:List D),xs[i]?=some x->x.length=sz) (hv:Vis K w b off (xs.length*sz))
      (hcell:∀(i:Nat) (x:List D),xs[i]?=some x->∀(j:Nat) (d:D),x[j]?=some d->w.cell? ⟨b,off+(i*sz+j),none⟩=some (f i j))
      (hone:∀(i:Nat) (x:List D),xs[i]?=some x->∀(j:Nat) (d:D),x[j]?=some d->(f i j).oneCell'=true)
      (hrep:∀(i:Nat) (x:List D),xs[i]?=some x->∀(j:Nat) (d:D),x[j]?=some d->RepV K w d (f i j)):
      RepV K w (.slc xs) (.slice (some ⟨b,off,none⟩) xs.length cap)
  |ptr (b off:Nat):RepV K w (.ptr b off) (.pointer (some ⟨b,off,none⟩))
  | eptr (cs:List D) (b off:Nat) (f:Nat->Value) (hv:Vis K w b off cs.length)
      (hcell:∀(j:Nat) (d:D),cs[j]?=some d->w.cell? ⟨b,off+j,none⟩=some (f j))
      (hone:∀(j:Nat) (d:D),cs[j]?=some d->(f j).oneCell'=true)
      (hrep:∀(j:Nat) (d:D),cs[j]?=some d->RepV K w d (f j)):RepV K w (.eptr cs) (.pointer (some ⟨b,off,none⟩))
  | bnd (g:FuncId) (fs:List D) (vs:Array Value) (hl:vs.size=fs.length)
      (hrep:∀(j:Nat) (d:D) (v:Value),fs[j]?=some d->vs[j]?=some v->RepV K w d v):RepV K w (.fn g (.tup []::fs)) (.func (.func g) vs #[])
  | fn (g:FuncId) (caps:List D) (vs:Array Value) (hb:B2 caps=false) (hl:vs.size=caps.length)
      (hrep:∀(j:Nat) (d:D) (v:Value),caps[j]?=some d->vs[j]?=some v->RepV K w d v):RepV K w (.fn g caps) (.func (.func g) #[] vs)
  |nilp:RepV K w .nilp (.pointer none)
  |nilfn:RepV K w .nilfn .nilFunc
  |mp (r:Option Nat):RepV K w (.mp r) (.map r)
  |hsl (b n cap:Nat) (hc:n<=cap) (hm:cap<=maxLen) (hb:n<=big):RepV K w (.hsl b n) (.slice (some ⟨b,0,none⟩) n cap)
  |osl (b cap:Nat) (xs:List (List D)) (hp:0<xs.length) (h:RepV K w (.slc xs) (.slice (some ⟨b,0,none⟩) xs.length cap)):RepV K w (.osl b cap xs) (.slice (some ⟨b,0,none⟩) xs.length cap)
  |oslnil (b cap:Nat) (a:Option Addr):RepV K w (.osl b cap []) (.slice a 0 0)
  | agg (cs:List D) (vs:Array Value) (hl:vs.size=cs.length)
      (hone:∀(j:Nat) (v:Value),vs[j]?=some v->v.oneCell'=true)
      (hrep:∀(j:Nat) (d:D) (v:Value),cs[j]?=some d->vs[j]?=some v->RepV K w d v):RepV K w (.agg cs) (.agg vs)
  | tup (cs:List D) (vs:Array Value) (hl:vs.size=cs.length)
      (hrep:∀(j:Nat) (d:D) (v:Value),cs[j]?=some d->vs[j]?=some v->RepV K w d v):RepV K w (.tup cs) (.tuple vs)
  | mpv (es:List (D×D)) (b:Nat) (c:Array MapEntry) (hk:K b= .imm) (hb:b<w.heap.size) (hh:w.heap[b]?=some (.map c c.size)) (hl:c.size=es.length)
      (hkey:∀(j:Nat) (p:D×D) (e:MapEntry),es[j]?=some p->c[j]?=some e->RepV K w p.1 e.key)
      (hval:∀(j:Nat) (p:D×D) (e:MapEntry),es[j]?=some p->c[j]?=some e->RepV K w p.2 e.val):RepV K w (.mpv es) (.map (some b))
  |yld (l:Nat):RepV K w (.yld l) (.func (.yield l) #[] #[])
  |hso (b off n cap:Nat) (hp:0<n) (hc:n<=cap) (hm:cap<=maxLen) (hb:n<=big):RepV K w (.hso b off n) (.slice (some ⟨b,off,none⟩) n cap)
  |hgs (b n cap:Nat) (hc:n<=cap) (hm:cap<=maxLen) (hb:n<=big):RepV K w (.hgs b n cap) (.slice (some ⟨b,0,none⟩) n cap)
  |any (v:Value):RepV K w .any v
structure ExtV (K:Nat->BK) (w:World) (K':Nat->BK) (w':World):Prop where
  os:w'.os=w.os
  tape:w'.tape=w.tape
  output:w'.output=w.output∧w.drawn<=w'.drawn
  size:w.heap.size<=w'.heap.size
  imm:∀b,b<w.heap.size->K b= .imm->K' b= .imm∧w'.heap[b]?=w.heap[b]?
  tok:∀b n o,K b= .tok n o->0<n->∃m o',K' b= .tok m o'∧n<=m∧∀j,j<n->w'.cell? ⟨b,j,none⟩=w.cell? ⟨b,j,none⟩
  priv:∀b,K b= .priv->K' b= .priv∨b<w'.heap.size
theorem ExtV.refl (K:Nat->BK) (w:World):ExtV K w K w:=
  ⟨rfl,rfl,⟨rfl,Nr _⟩,Nr _,fun _ _ h=>⟨h,rfl⟩,fun b n o h _=>⟨n,o,h,Nr _,fun _ _=>rfl⟩,fun _ h=>.inl h⟩
theorem ExtV.trans (h:ExtV K w K' w') (g:ExtV K' w' K'' w''):ExtV K w K'' w'':=by
  refine ⟨g.os.trans h.os,g.tape.trans h.tape,⟨g.output.1.trans h.output.1,Np h.output.2 g.output.2⟩,Np h.size g.size,fun b hb hk=>?_,fun b n o hk hp=>?_,fun b hk=>?_⟩
  · obtain ⟨h1,h2⟩:=h.imm b hb hk
    obtain ⟨g1,g2⟩:=g.imm b (Nq hb h.size) h1
    grind
  · obtain ⟨m,o',h1,h2,h3⟩:=h.tok b n o hk hp
    obtain ⟨m',o'',g1,g2,g3⟩:=g.tok b m o' h1 (Nq hp h2)
    grind
  · rcases h.priv b hk with h1|h2
    · exact g.priv b h1
    · exact .inr (Nq h2 g.size)
theorem jb {w w':World} {b:Nat} (h:w'.heap[b]?=w.heap[b]?) (o:Nat):w'.cell? ⟨b,o,none⟩=w.cell? ⟨b,o,none⟩:=
  World.cell?_of_block (w:=w) (a:=⟨b,o,none⟩) h
theorem ExtV.vis (h:ExtV K w K' w') (hv:Vis K w b off n):Vis K' w' b off n:=by
  obtain ⟨h1,h2⟩:=hv
  refine ⟨Nq h1 h.size,?_⟩
  cases hk:K b with
  |imm=>rw [(h.imm b h1 hk).1];trivial
  | priv=>
    grind
  | tok m o=>
    rw [hk] at h2
    rcases (h2:n=0∨off+n<=m) with h2|h2
    · grind
    · rcases Nat.eq_zero_or_pos n with hn|hn
      · grind
      · obtain ⟨m',o',e1,e2,_⟩:=h.tok b m o hk (by omega)
        grind
theorem ExtV.cell {K K':Nat->BK} {w w':World} (h:ExtV K w K' w') {b off n:Nat} (hv:Vis K w b off n) {j:Nat} (hj:j<n):w'.cell? ⟨b,off+j,none⟩=w.cell? ⟨b,off+j,none⟩:=by
  obtain ⟨h1,h2⟩:=hv
  cases hk:K b with
  |imm=>exact jb (h.imm b h1 hk).2 _
  |priv=>rw [hk] at h2;have h2':n=0:=h2;omega
  | tok m o=>
    rw [hk] at h2
    have h2':n=0∨off+n<=m:=h2
    obtain ⟨m',o',e1,e2,e3⟩:=h.tok b m o hk (by omega)
    grind
theorem VP {xs:List (List D)} {sz i j:Nat} {x:List D} {d:D} (hi:xs[i]?=some x) (hl:x.length=sz) (hj:x[j]?=some d):i*sz+j<xs.length*sz:=by
  have h1:i<xs.length:=(List.getElem?_eq_some_iff.1 hi).1
  have h2:j<sz:=by have:=(List.getElem?_eq_some_iff.1 hj).1;omega
  have h3:(i+1)*sz<=xs.length*sz:=Nat.mul_le_mul_right _ h1
  grind
theorem RepV.mono {K K':Nat->BK} {w w':World} (h:ExtV K w K' w') {d:D} {v:Value} (hr:RepV K w d v):RepV K' w' d v:=by
  induction hr with
  |int k n h=>exact .int k n h
  |bool b=>exact .bool b
  |str s h=>exact .str s h
  |slcnil a=>exact .slcnil a
  | slc xs b off cap sz f hb hc hm hs hv hcell hone hrep ih=>
    exact .slc xs b off cap sz f hb hc hm hs (h.vis hv) (fun i x hi j d hj=>by rw [h.cell hv (VP hi (hs i x hi) hj)];exact hcell i x hi j d hj) hone ih
  |ptr b off=>exact .ptr b off
  | eptr cs b off f hv hcell hone hrep ih=>
    exact .eptr cs b off f (h.vis hv) (fun j d hj=>by rw [h.cell hv (List.getElem?_eq_some_iff.1 hj).1];exact hcell j d hj) hone ih
  |bnd g fs vs hl hrep ih=>exact .bnd g fs vs hl ih
  |fn g caps vs hb hl hrep ih=>exact .fn g caps vs hb hl ih
  |nilp=>exact .nilp
  |nilfn=>exact .nilfn
  |mp r=>exact .mp r
  |hsl b n cap hc hm hb=>exact .hsl b n cap hc hm hb
  |osl b cap xs hp h ih=>exact .osl b cap xs hp ih
  |oslnil b cap a=>exact .oslnil b cap a
  |agg cs vs hl hone hrep ih=>exact .agg cs vs hl hone ih
  |tup cs vs hl hrep ih=>exact .tup cs vs hl ih
  |mpv es b c hk hb hh hl hkey hval ih1 ih2=>exact .mpv es b c (h.imm b hb hk).1 (Nq hb h.size) ((h.imm b hb hk).2.trans hh) hl ih1 ih2
  |yld l=>exact .yld l
  |hso b off n cap hp hc hm hb=>exact .hso b off n cap hp hc hm hb
  |hgs b n cap hc hm hb=>exact .hgs b n cap hc hm hb
  |any v=>exact .any v
def OwnAt (K:Nat->BK) (w:World) (o:Who) (xs:List (List D)) (v:Value):Prop:=
  (xs= []∧∃a,v= .slice a 0 0)∨
  ∃ (b cap sz:Nat) (c:Array Value) (T:TypeId),v= .slice (some ⟨b,0,none⟩) xs.length cap∧K b= .tok (xs.length*sz) o∧w.heap[b]?=some (.cells c T (0,0))∧
    c.size=cap*sz∧0<xs.length∧xs.length<=cap∧cap<=maxLen∧xs.length<=big∧(∀(i:Nat) (x:List D),xs[i]?=some x->x.length=sz)∧
    ∀(i:Nat) (x:List D),xs[i]?=some x->∀(j:Nat) (d:D),x[j]?=some d->∃u,c[i*sz+j]?=some u∧u.oneCell'=true∧RepV K w d u
theorem jU {w:World} {b o:Nat} {c:Array Value} {T:TypeId} {fz:Nat×Nat} (h:w.heap[b]?=some (.cells c T fz)):w.cell? ⟨b,o,none⟩=c[o]?:=by
  simp [World.cell?,h]
theorem OwnAt.rep {K:Nat->BK} {w:World} {o:Who} {xs:List (List D)} {v:Value} (h:OwnAt K w o xs v):RepV K w (.slc xs) v:=by
  rcases h with ⟨rfl,a,rfl⟩|⟨b,cap,sz,c,T,rfl,hk,hh,hcs,hp,hl,hm,hb,hs,hrep⟩
  · exact .slcnil a
  · refine .slc xs b 0 cap sz (fun i j=>(c[i*sz+j]?).getD default) hb hl hm hs ⟨(Array.getElem?_eq_some_iff.1 hh).1,?_⟩ ?_ ?_ ?_
    · rw [hk];exact .inr (by simp)
    · intro i x hi j d hj
      obtain ⟨u,h1,_,_⟩:=hrep i x hi j d hj
      rw [Nt,jU hh,h1];rfl
    · intro i x hi j d hj
      obtain ⟨u,h1,h2,_⟩:=hrep i x hi j d hj
      rw [h1];exact h2
    · intro i x hi j d hj
      obtain ⟨u,h1,_,h3⟩:=hrep i x hi j d hj
      rw [h1];exact h3
def RepC (K:Nat->BK) (w:World) (o:Who):D->Value->Prop
  | .own xs,v=>OwnAt K w o xs v
  |d,v=>RepV K w d v
def RepO (K:Nat->BK) (w:World) (i:Nat):D->Value->Prop
  | .own xs,v=>OwnAt K w (.slot i 0) xs v
  | .tup ds,v=>∃vs:Array Value,v= .tuple vs∧vs.size=ds.length∧∀(j:Nat) (d:D) (u:Value),ds[j]?=some d->vs[j]?=some u->RepC K w (.slot i (j+1)) d u
  |d,v=>RepV K w d v
theorem RepC.rep (h:RepC K w o d v):RepV K w d.view1 v:=by
  cases d<;>first|exact OwnAt.rep h|exact h
theorem RepO.rep (h:RepO K w i d v):RepV K w d.view v:=by
  cases d<;>first
    |exact OwnAt.rep h
    |exact h
    | (obtain ⟨vs,rfl,hl,hr⟩:=h
       refine .tup _ vs (by simpa using hl) fun j d u hd hu=>?_
       rw [Nb,Nk] at hd
       obtain ⟨d',h1,rfl⟩:=hd
       exact (hr j d' u h1 hu).rep)
theorem RepV.repC (hn:∀xs,d≠ .own xs) (h:RepV K w d v):RepC K w o d v:=by
  cases d<;>first|exact h|exact (hn _ rfl).elim
theorem RepV.not_own (h:RepV K w (.own xs) v):False:=by cases h
theorem RepV.viewO (h:RepV K w d v):RepO K w i d v:=by
  cases d<;>first
    |exact h
    |exact h.not_own.elim
    | (cases h with
       |tup _ vs hl hr=>exact ⟨vs,rfl,hl,fun j d u hd hu=>(hr j d u hd hu).repC (fun xs e=>by subst e;exact (hr j _ u hd hu).not_own)⟩)
end Go.Aw
end
section
namespace Go.Aw
open Go Go.RowKit
inductive AO where
  |cells (cs:List D)
  |room (cap:Nat) (xs:List (List D))
  |mp (es:List (D×D))
  |lp (J:List D->(Nat->BK)->World->Prop) (pre:List D)
  |cst (cs:List D)
abbrev AH:=List (Nat×AO)
def MpAt (K:Nat->BK) (w:World) (b:Nat) (es:List (D×D)):Prop:=∃c:Array MapEntry,w.heap[b]?=some (.map c c.size)∧c.size=es.length∧
  ∀(j:Nat) (p:D×D),es[j]?=some p->∃e:MapEntry,c[j]?=some e∧e.born=j∧RepV K w p.1 e.key∧RepV K w p.2 e.val
theorem MpAt.ext (h:MpAt K w b es) (he:ExtV K w K' w') (hb:w'.heap[b]?=w.heap[b]?):MpAt K' w' b es:=by
  obtain ⟨c,h1,h2,h3⟩:=h
  refine ⟨c,hb.trans h1,h2,fun j p hp=>?_⟩
  obtain ⟨e,e1,e2,e3,e4⟩:=h3 j p hp
  exact ⟨e,e1,e2,e3.mono he,e4.mono he⟩
def mR (b:Nat) (J:List D->(Nat->BK)->World->Prop):Prop:=∀pre K w K' w',J pre K w->(∀c n j,K c= .tok n (.cell b j)->K' c= .tok n (.cell b j)∧w'.heap[c]?=w.heap[c]?)->J pre K' w'
def CstAt (K:Nat->BK) (w:World) (b:Nat) (cs:List D):Prop:=K b= .imm∧b<w.heap.size∧∃(c:Array Value) (T:TypeId) (fz:Nat×Nat),w.heap[b]?=some (.cells c T fz)∧c.size=cs.length∧
  ∀(j:Nat) (d:D),cs[j]?=some d->∃u,c[j]?=some u∧u.oneCell'=true∧RepV K w d u
theorem CstAt.ext (h:CstAt K w b cs) (he:ExtV K w K' w'):CstAt K' w' b cs:=by
  obtain ⟨h1,h2,c,T,fz,h3,h4,h5⟩:=h
  refine ⟨(he.imm b h2 h1).1,Nq h2 he.size,c,T,fz,(he.imm b h2 h1).2.trans h3,h4,fun j d hd=>?_⟩
  obtain ⟨u,e1,e2,e3⟩:=h5 j d hd
  exact ⟨u,e1,e2,e3.mono he⟩
def AO.at_ (K:Nat->BK) (w:World) (b:Nat):AO->Prop
  | .cells cs=>K b= .priv∧∃(c:Array Value) (T:TypeId),w.heap[b]?=some (.cells c T (0,0))∧c.size=cs.length∧
      ∀(j:Nat) (d:D),cs[j]?=some d->∃u,c[j]?=some u∧u.oneCell'=true∧RepC K w (.cell b j) d u
  | .room cap xs=>0<xs.length∧OwnAt K w (.cell b 0) xs (.slice (some ⟨b,0,none⟩) xs.length cap)
  | .mp es=>K b= .priv∧MpAt K w b es
  | .lp J pre=>(∃n j,K b= .tok n (.cell b j))∧J pre K w∧mR b J
  | .cst cs=>CstAt K w b cs
structure HRel (K:Nat->BK) (w:World) (H:AH):Prop where
  nd:(H.map (·.1)).Nodup
  ok:∀b o,(b,o)∈H->AO.at_ K w b o
def KRel (K:Nat->BK) (w:World):Prop:=∀b,w.heap.size<=b->K b= .imm
structure Pres (K:Nat->BK) (w:World) (K':Nat->BK) (w':World):Prop where
  os:w'.os=w.os
  tape:w'.tape=w.tape
  output:w'.output=w.output∧w.drawn<=w'.drawn
  size:w.heap.size<=w'.heap.size
  old:∀b,b<w.heap.size->K' b=K b∧w'.heap[b]?=w.heap[b]?
  new:∀b n,K' b= .tok n .outer->K b= .tok n .outer
structure Keep (E:Who->Prop) (B:Nat->Prop) (K:Nat->BK) (w:World) (K':Nat->BK) (w':World):Prop where
  ext:ExtV K w K' w'
  own:∀b n o,K b= .tok n o->¬E o->K' b= .tok n o∧w'.heap[b]?=w.heap[b]?
  new:∀b n,K' b= .tok n .outer->K b= .tok n .outer
  box:∀b,K b= .priv->¬B b->K' b= .priv∧w'.heap[b]?=w.heap[b]?
def n9:Who->Prop:=fun _=>False
def dz:Nat->Prop:=fun _=>False
theorem KRel.lt_of (h:KRel K w) (hb:K b≠ .imm):b<w.heap.size:=by
  rcases Nu b w.heap.size with h'|h'
  · exact h'
  · exact (hb (h b h')).elim
theorem Pres.refl (K:Nat->BK) (w:World):Pres K w K w:=⟨rfl,rfl,⟨rfl,Nr _⟩,Nr _,fun _ _=>⟨rfl,rfl⟩,fun _ _ h=>h⟩
theorem Pres.drew (h:Pres K w K' w'):Pres K w K' w'.drew:=⟨h.os,h.tape,⟨h.output.1,Nat.le_succ_of_le h.output.2⟩,h.size,h.old,h.new⟩
theorem Pres.keep (hk:KRel K w) (h:Pres K w K' w'):Keep n9 dz K w K' w':=by
  refine ⟨⟨h.os,h.tape,h.output,h.size,fun b hb hi=>⟨(h.old b hb).1.trans hi,(h.old b hb).2⟩,fun b n o hb _=>?_,fun b hb=>?_⟩,fun b n o hb _=>?_,h.new,fun b hb _=>?_⟩
  · have hlt:=hk.lt_of (b:=b) (by rw [hb];simp)
    exact ⟨n,o,(h.old b hlt).1.trans hb,Nr _,fun j _=>jb (h.old b hlt).2 j⟩
  · exact .inl ((h.old b (hk.lt_of (b:=b) (by rw [hb];simp))).1.trans hb)
  · have hlt:=hk.lt_of (b:=b) (by rw [hb];simp)
    exact ⟨(h.old b hlt).1.trans hb,(h.old b hlt).2⟩
  · exact ⟨(h.old b (hk.lt_of (b:=b) (by rw [hb];simp))).1.trans hb,(h.old b (hk.lt_of (b:=b) (by rw [hb];simp))).2⟩
theorem OwnAt.keep {E:Who->Prop} {B:Nat->Prop} (h:Keep E B K w K' w') (he:¬E o) (ho:OwnAt K w o xs v):OwnAt K' w' o xs v:=by
  rcases ho with ho|⟨b,cap,sz,c,T,hv,hk,hh,hcs,hp,hl,hm,hb,hs,hrep⟩
  · exact .inl ho
  · obtain ⟨h1,h2⟩:=h.own b _ o hk he
    refine .inr ⟨b,cap,sz,c,T,hv,h1,h2.trans hh,hcs,hp,hl,hm,hb,hs,fun i x hi j d hj=>?_⟩
    obtain ⟨u,e1,e2,e3⟩:=hrep i x hi j d hj
    exact ⟨u,e1,e2,e3.mono h.ext⟩
theorem RepC.keep {E:Who->Prop} {B:Nat->Prop} (h:Keep E B K w K' w') (he:¬E o) (hr:RepC K w o d v):RepC K' w' o d v:=by
  cases d<;>first|exact OwnAt.keep h he hr|exact RepV.mono h.ext hr
theorem RepO.keep {E:Who->Prop} {B:Nat->Prop} (h:Keep E B K w K' w') (he:∀j,¬E (.slot i j)) (hr:RepO K w i d v):RepO K' w' i d v:=by
  cases d<;>first
    |exact OwnAt.keep h (he 0) hr
    |exact RepV.mono h.ext hr
    | (obtain ⟨vs,hv,hl,hh⟩:=hr
       exact ⟨vs,hv,hl,fun j d u hd hu=>(hh j d u hd hu).keep h (he _)⟩)
theorem AO.keep {E:Who->Prop} {B:Nat->Prop} {K K':Nat->BK} {w w':World} (h:Keep E B K w K' w') {b:Nat} (hb:¬B b) (he:∀j,¬E (.cell b j)) {o:AO} (ho:o.at_ K w b):o.at_ K' w' b:=by
  cases o with
  | cells cs=>
    obtain ⟨hk,c,T,hh,hc,hr⟩:=ho
    refine ⟨(h.box b hk hb).1,c,T,(h.box b hk hb).2.trans hh,hc,fun j d hd=>?_⟩
    obtain ⟨u,e1,e2,e3⟩:=hr j d hd
    exact ⟨u,e1,e2,e3.keep h (he j)⟩
  |room cap xs=>exact ⟨ho.1,OwnAt.keep h (he 0) ho.2⟩
  |mp es=>exact ⟨(h.box b ho.1 hb).1,ho.2.ext h.ext (h.box b ho.1 hb).2⟩
  |cst cs=>exact CstAt.ext ho h.ext
  | lp J pre=>
    obtain ⟨⟨n,j,h1⟩,h2,h3⟩:=ho
    exact ⟨⟨n,j,(h.own b n _ h1 (he j)).1⟩,h3 pre K w K' w' h2 fun c n j hc=>h.own c n _ hc (he j),h3⟩
theorem HRel.keep {E:Who->Prop} {B:Nat->Prop} (h:Keep E B K w K' w') (hb:∀b o,(b,o)∈H->¬B b∧∀j,¬E (.cell b j)) (hr:HRel K w H):HRel K' w' H:=
  ⟨hr.nd,fun b o ho=>AO.keep h (hb b o ho).1 (hb b o ho).2 (hr.ok b o ho)⟩
theorem HRel.pres (hk:KRel K w) (h:Pres K w K' w') (hr:HRel K w H):HRel K' w' H:=
  hr.keep (h.keep hk) (fun _ _ _=>⟨fun h=>h,fun _ h=>h⟩)
def Qw (K:Nat->BK) (b:Nat) (x:BK):Nat->BK:=fun c=>if c=b then x else K c
theorem jx (K:Nat->BK) (b:Nat) (x:BK):Qw K b x b=x:=by simp [Qw]
theorem j7 (K:Nat->BK) (x:BK) (h:c≠b):Qw K b x c=K c:=by simp [Qw,h]
theorem yT (hk:KRel K w) (o:Obj) (hx:∀n,x≠ .tok n .outer):Pres K w (Qw K w.heap.size x) (w.alloc o)∧KRel (Qw K w.heap.size x) (w.alloc o):=by
  refine ⟨⟨rfl,rfl,⟨rfl,Nr _⟩,by simp,fun b hb=>⟨j7 K x (by omega),Below.heap_alloc w o b hb⟩,fun b n hb=>?_⟩,fun b hb=>?_⟩
  · grind [jx,j7]
  · simp only [World.size_alloc] at hb
    rw [j7 K x (by omega)]
    exact hk b (by omega)
theorem KD (hk:KRel K w) (o:Obj):Pres K w K (w.alloc o)∧KRel K (w.alloc o):=
  ⟨⟨rfl,rfl,⟨rfl,Nr _⟩,by simp,fun b hb=>⟨rfl,Below.heap_alloc w o b hb⟩,fun _ _ h=>h⟩,fun b hb=>hk b (by simp at hb;omega)⟩
def j8 (P:Program) (t:TypeId):Bool:=match P.underlying t with|some (.struct _)|some (.array _ _)=>true|_=>false
def yr (P:Program) (t:TypeId):Option (Bool×Nat):=
  match P.underlying t,P.info? t with
  |some _,some i=>some (j8 P t,i.size)
  |_,_=>none
def yb (P:Program) (t:TypeId):Option (TypeId×Nat):=
  match P.underlying t with
  | some (.slice e)=>match P.info? e with
    |some i=>if 0<i.size then some (e,i.size) else none
    |none=>none
  |_=>none
def KF (P:Program) (t:TypeId):Option (Nat×Nat):=
  match P.underlying t with
  | some (.array n e)=>match P.info? e with
    |some i=>if 0<i.size∧1<n then some (n,i.size) else none
    |none=>none
  |_=>none
def ke (P:Program) (t:TypeId) (f:Nat):Option (Nat×Bool×Nat):=
  match P.underlying t with
  | some (.struct fs)=>match fs[f]? with
    | some x=>match yr P x.type with
      |some (b,n)=>if 0<n then some (x.offset,b,n) else none
      |none=>none
    |none=>none
  |_=>none
theorem wW {t:TypeId} (h:yr P t=some (b,n)):(∀w:World,(isAgg t).run P w= .ok b w)∧∀w:World,(sizeOf t).run P w= .ok n w:=by
  unfold yr at h
  cases hu:P.underlying t with
  |none=>simp [hu] at h
  | some d=>
    cases hi:P.info? t with
    |none=>simp [hu,hi] at h
    | some i=>
      simp only [hu,hi,Option.some.injEq,Prod.mk.injEq] at h
      obtain ⟨rfl,rfl⟩:=h
      constructor
      · intro w
        simp only [isAgg,Sem.run_bind,run_underlying hu,Result.andThen_ok,j8,hu]
        cases d<;>rfl
      · intro w
        simp [sizeOf,typeInfo,hi]
theorem ju {t e:TypeId} (h:yb P t=some (e,n)):P.underlying t=some (.slice e)∧0<n∧∃i,P.info? e=some i∧i.size=n:=by
  grind [yb]
theorem uB {t:TypeId} (h:KF P t=some (m,n)):∃e,P.underlying t=some (.array m e)∧0<n∧1<m∧∃i,P.info? e=some i∧i.size=n:=by
  grind [KF]
theorem zw {t:TypeId} (h:ke P t f=some (off,b,n)):∃fs x,P.underlying t=some (.struct fs)∧fs[f]?=some x∧x.offset=off∧yr P x.type=some (b,n)∧0<n:=by
  grind [ke]
def Yields (P:Program) (o:Oper) (H:AH) (ρ:Operand->D) (d:D):Prop:=
  ∀ (K:Nat->BK) (w:World) (σ:Operand->Value) (i:Nat),KRel K w->HRel K w H->(∀x∈o.op.operands.toList,RepV K w (ρ x) (σ x))->
    ∃v K' w',(execOp σ o).run P w= .ok (.value v) w'∧Pres K w K' w'∧KRel K' w'∧RepO K' w' i d v
theorem qu 
    (h:∀(K:Nat->BK) (w:World) (σ:Operand->Value),KRel K w->HRel K w H->(∀x∈o.op.operands.toList,RepV K w (ρ x) (σ x))->∃v,(execOp σ o).run P w= .ok (.value v) w∧RepV K w d v):Yields P o H ρ d:=by
  intro K w σ i hk hh hr
  obtain ⟨v,h1,h2⟩:=h K w σ hk hh hr
  exact ⟨v,K,w,h1,.refl K w,hk,h2.viewO⟩
end Go.Aw
end
section
namespace Go.Aw
open Go Go.RowKit
section
variable {K:Nat->BK} {w:World} {v:Value}
theorem RepV.int_inv (h:RepV K w (.int k n) v):v= .int k n∧wP k n:=by cases h with|int _ _ h=>exact ⟨rfl,h⟩
theorem RepV.bool_inv (h:RepV K w (.bool b) v):v= .bool b:=by cases h;rfl
theorem RepV.str_inv (h:RepV K w (.str s) v):v= .string ⟨⟨s⟩⟩∧s.length<=big:=by cases h with|str _ h=>exact ⟨rfl,h⟩
theorem RepV.ptr_inv (h:RepV K w (.ptr b off) v):v= .pointer (some ⟨b,off,none⟩):=by cases h;rfl
theorem RepV.hsl_inv (h:RepV K w (.hsl b n) v):∃cap,v= .slice (some ⟨b,0,none⟩) n cap∧n<=cap∧cap<=maxLen∧n<=big:=by
  cases h with|hsl _ _ cap hc hm hb=>exact ⟨cap,rfl,hc,hm,hb⟩
theorem RepV.hgs_inv (h:RepV K w (.hgs b n cap) v):v= .slice (some ⟨b,0,none⟩) n cap∧n<=cap∧cap<=maxLen∧n<=big:=by
  cases h with|hgs _ _ _ hc hm hb=>exact ⟨rfl,hc,hm,hb⟩
theorem RepV.hso_inv (h:RepV K w (.hso b off n) v):∃cap,v= .slice (some ⟨b,off,none⟩) n cap∧0<n∧n<=cap∧cap<=maxLen∧n<=big:=by
  cases h with|hso _ _ _ cap hp hc hm hb=>exact ⟨cap,rfl,hp,hc,hm,hb⟩
theorem RepV.eptr_inv (h:RepV K w (.eptr cs) v):∃(b off:Nat) (f:Nat->Value),v= .pointer (some ⟨b,off,none⟩)∧Vis K w b off cs.length∧
    (∀(j:Nat) (d:D),cs[j]?=some d->w.cell? ⟨b,off+j,none⟩=some (f j))∧(∀(j:Nat) (d:D),cs[j]?=some d->(f j).oneCell'=true)∧(∀(j:Nat) (d:D),cs[j]?=some d->RepV K w d (f j)):=by
  cases h with|eptr _ b off f hv hc ho hr=>exact ⟨b,off,f,rfl,hv,hc,ho,hr⟩
theorem RepV.fn_inv (h:RepV K w (.fn g caps) v) (hb:B2 caps=false):∃vs:Array Value,v= .func (.func g) #[] vs∧vs.size=caps.length∧
    ∀(j:Nat) (d:D) (u:Value),caps[j]?=some d->vs[j]?=some u->RepV K w d u:=by
  cases h with
  |fn _ _ vs _ hl hr=>exact ⟨vs,rfl,hl,hr⟩
  |bnd _ fs vs hl hr=>cases hb
theorem lC {l m:List D} {A B:Array Value} (h1:A.size=l.length) (h2:B.size=m.length) (r1:∀(j:Nat) (d:D) (u:Value),l[j]?=some d->A[j]?=some u->RepV K w d u) (r2:∀(j:Nat) (d:D) (u:Value),m[j]?=some d->B[j]?=some u->RepV K w d u):
    (A++B).size=(l++m).length∧∀(j:Nat) (d:D) (u:Value),(l++m)[j]?=some d->(A++B)[j]?=some u->RepV K w d u:=by
  grind
theorem RepV.fn_call {g:FuncId} {caps:List D} (h:RepV K w (.fn g caps) v):∃fs vs:Array Value,v= .func (.func g) fs vs∧∀(args:List D) (us:Array Value),us.size=args.length->(∀(j:Nat) (d:D) (u:Value),args[j]?=some d->us[j]?=some u->RepV K w d u)->
    (fs++us++vs).size=(uv args caps).length∧∀(j:Nat) (d:D) (u:Value),(uv args caps)[j]?=some d->(fs++us++vs)[j]?=some u->RepV K w d u:=by
  cases h with
  | fn _ _ vs hb hl hr=>
    refine ⟨#[],vs,rfl,fun args us h1 h2=>?_⟩
    have e:uv args caps=args++caps:=by
      unfold uv
      split
      · cases hb
      · rfl
    grind
  | bnd _ fs vs hl hr=>
    refine ⟨vs,#[],rfl,fun args us h1 h2=>?_⟩
    rw [Array.append_empty]
    exact lC hl h1 hr h2
theorem RepV.agg_inv (h:RepV K w (.agg cs) v):∃vs:Array Value,v= .agg vs∧vs.size=cs.length∧(∀(j:Nat) (u:Value),vs[j]?=some u->u.oneCell'=true)∧
    ∀(j:Nat) (d:D) (u:Value),cs[j]?=some d->vs[j]?=some u->RepV K w d u:=by cases h with|agg _ vs hl ho hr=>exact ⟨vs,rfl,hl,ho,hr⟩
theorem RepV.slc_inv (h:RepV K w (.slc xs) v):(xs= []∧∃a,v= .slice a 0 0)∨∃(b off cap sz:Nat) (f:Nat->Nat->Value),v= .slice (some ⟨b,off,none⟩) xs.length cap∧
    xs.length<=cap∧cap<=maxLen∧(∀(i:Nat) (x:List D),xs[i]?=some x->x.length=sz)∧Vis K w b off (xs.length*sz)∧
    (∀(i:Nat) (x:List D),xs[i]?=some x->∀(j:Nat) (d:D),x[j]?=some d->w.cell? ⟨b,off+(i*sz+j),none⟩=some (f i j))∧
    (∀(i:Nat) (x:List D),xs[i]?=some x->∀(j:Nat) (d:D),x[j]?=some d->(f i j).oneCell'=true)∧
    (∀(i:Nat) (x:List D),xs[i]?=some x->∀(j:Nat) (d:D),x[j]?=some d->RepV K w d (f i j)):=by
  cases h with
  |slcnil a=>exact .inl ⟨rfl,a,rfl⟩
  |slc _ b off cap sz f hb hc hm hs hv hcell hone hrep=>exact .inr ⟨b,off,cap,sz,f,rfl,hc,hm,hs,hv,hcell,hone,hrep⟩
theorem RepV.slc_form (h:RepV K w (.slc xs) v):∃a cap,v= .slice a xs.length cap∧xs.length<=cap∧cap<=maxLen:=by
  rcases h.slc_inv with ⟨rfl,a,rfl⟩|⟨b,off,cap,sz,f,rfl,hc,hm,_⟩
  all_goals grind
theorem RepV.slc_big (h:RepV K w (.slc xs) v):xs.length<=big:=by
  cases h with
  |slcnil a=>exact Nat.zero_le _
  |slc _ b off cap sz f hb hc hm hs hv hcell hone hrep=>exact hb
end
def fact:D->Prop
  | .int k n=>wP k n
  | .str s=>s.length<=big
  | .slc xs=>xs.length<=big
  | .own xs=>xs.length<=big
  |_=>True
theorem RepV.fact (h:RepV K w d v):fact d:=by
  cases d<;>first
    |exact trivial
    |exact h.int_inv.2
    |exact h.str_inv.2
    |exact h.slc_big
    |exact h.not_own.elim
def jD:Value->D
  | .int k n=>.int k n
  | .bool b=>.bool b
  | .string s=>.str s.data.toList
  | .slice none 0 0=>.own []
  | .pointer none=>.nilp
  | .nilFunc=>.nilfn
  | .map none=>.mp none
  |_=>.any
def wh:Value->Bool
  | .int k n=>(Lit.int k n).wf
  | .string s=>decide (s.size<=140737488355328)
  |_=>true
theorem yc (h:wh v=true):RepC K w o (jD v) v:=by
  unfold jD
  split<;>first
    |exact .bool _
    |exact .inl ⟨rfl,none,rfl⟩
    |exact .nilp
    |exact .nilfn
    |exact .mp _
    |exact .any _
    |exact .int _ _ (by simpa [wh,wP] using h)
    |exact .str _ (by simpa [wh,big] using h)
def cellsOf:D->List D
  | .agg cs=>cs
  |d=>[d]
def okc:D->Bool
  | .any=>false
  | .tup _=>false
  | .own _=>false
  |_=>true
theorem uA (h:RepV K w d v) (ho:okc d=true):
    v.cells.size=(cellsOf d).length∧(∀(j:Nat) (u:Value),v.cells[j]?=some u->u.oneCell'=true)∧∀(j:Nat) (d':D) (u:Value),(cellsOf d)[j]?=some d'->v.cells[j]?=some u->RepV K w d' u:=by
  have one:∀(d:D) (v:Value),RepV K w d v->v.cells=#[v]->v.oneCell'=true->v.cells.size= [d].length∧(∀(j:Nat) (u:Value),v.cells[j]?=some u->u.oneCell'=true)∧
      ∀(j:Nat) (d':D) (u:Value),[d][j]?=some d'->v.cells[j]?=some u->RepV K w d' u:=by
    intro d v hr hc h1
    rw [hc]
    refine ⟨rfl,fun j u hu=>?_,fun j d' u hd hu=>?_⟩
    · cases j with
      |zero=>simp at hu;exact hu▸h1
      |succ j=>simp at hu
    · cases j with
      |zero=>simp at hd hu;exact hd▸hu▸hr
      |succ j=>simp at hd
  cases h with
  |agg cs vs hl hone hrep=>exact ⟨hl,hone,hrep⟩
  |tup=>simp [okc] at ho
  |any=>simp [okc] at ho
  |int k n h=>exact one _ _ (.int k n h) rfl rfl
  |bool b=>exact one _ _ (.bool b) rfl rfl
  |str s h=>exact one _ _ (.str s h) rfl rfl
  |slcnil a=>exact one _ _ (.slcnil a) rfl rfl
  |slc xs b off cap sz f hb hc hm hs hv hcell hone hrep=>exact one _ _ (.slc xs b off cap sz f hb hc hm hs hv hcell hone hrep) rfl rfl
  |ptr b off=>exact one _ _ (.ptr b off) rfl rfl
  |eptr cs b off f hv hcell hone hrep=>exact one _ _ (.eptr cs b off f hv hcell hone hrep) rfl rfl
  |bnd g fs vs hl hrep=>exact one _ _ (.bnd g fs vs hl hrep) rfl rfl
  |fn g caps vs hb hl hrep=>exact one _ _ (.fn g caps vs hb hl hrep) rfl rfl
  |nilp=>exact one _ _ .nilp rfl rfl
  |nilfn=>exact one _ _ .nilfn rfl rfl
  |mp r=>exact one _ _ (.mp r) rfl rfl
  |hsl b n cap hc hm hb=>exact one _ _ (.hsl b n cap hc hm hb) rfl rfl
  |osl b cap xs hp h=>exact one _ _ (.osl b cap xs hp h) rfl rfl
  |oslnil b cap a=>exact one _ _ (.oslnil b cap a) rfl rfl
  |mpv es b c hk hb hh hl h1 h2=>exact one _ _ (.mpv es b c hk hb hh hl h1 h2) rfl rfl
  |yld l=>exact one _ _ (.yld l) rfl rfl
  |hso b off n cap hp hc hm hb=>exact one _ _ (.hso b off n cap hp hc hm hb) rfl rfl
  |hgs b n cap hc hm hb=>exact one _ _ (.hgs b n cap hc hm hb) rfl rfl
def yA (P:Program) (t:TypeId):Option (List D):=
  match P.info? t with
  | some i=>match i.zero with
    |some z=>if z.cells.size=i.size∧z.cells.all (fun v=>wh v&&v.oneCell'&&(match jD v with| .any=>false|_=>true)) then some (z.cells.toList.map jD) else none
    |none=>none
  |none=>none
theorem ye {t:TypeId} (h:yA P t=some cs):∃i z,P.info? t=some i∧i.zero=some z∧z.cells.size=cs.length∧i.size=cs.length∧
    (∀(j:Nat) (u:Value),z.cells[j]?=some u->u.oneCell'=true∧wh u=true)∧∀(j:Nat) (d:D) (u:Value),cs[j]?=some d->z.cells[j]?=some u->d=jD u:=by
  unfold yA at h
  split at h
  · rename_i i hi
    split at h
    · rename_i z hz
      split at h
      · rename_i hc
        simp only [Option.some.injEq] at h
        subst h
        refine ⟨i,z,hi,hz,by simp,by simp [hc.1],fun j u hu=>?_,fun j d u hd hu=>?_⟩
        · have hm:u∈z.cells:=Array.mem_of_getElem? hu
          have:=(Array.all_eq_true'.1 hc.2) u hm
          simp only [Nm] at this
          exact ⟨this.1.2,this.1.1⟩
        · simp only [Nb,Array.getElem?_toList,hu,Option.map_some,Option.some.injEq] at hd
          exact hd.symm
      · cases h
    · cases h
  · cases h
theorem GY {t:TypeId} {i:TypeInfo} (h:yA P t=some cs) (hi:P.info? t=some i) (hz:i.zero=some z) (K:Nat->BK) (w:World) (o:Nat->Who):
    z.cells.size=cs.length∧∀(j:Nat) (d:D),cs[j]?=some d->∃u,z.cells[j]?=some u∧u.oneCell'=true∧RepC K w (o j) d u:=by
  obtain ⟨i',z',hi',hz',h1,h2,h3,h4⟩:=ye h
  obtain rfl:i=i':=by rw [hi] at hi';exact Option.some.inj hi'
  obtain rfl:z=z':=by rw [hz] at hz';exact Option.some.inj hz'
  refine ⟨h1,fun j d hd=>?_⟩
  have hj:j<z.cells.size:=by rw [h1];exact (List.getElem?_eq_some_iff.1 hd).1
  refine ⟨z.cells[j],Nv hj,(h3 j _ (Nv hj)).1,?_⟩
  rw [h4 j d _ hd (Nv hj)]
  exact yc (h3 j _ (Nv hj)).2
def qn:AH->Nat->Option AO
  | [],_=>none
  |(c,o)::r,b=>if b=c then some o else qn r b
def qM:AH->Nat->AO->AH
  | [],_,_=>[]
  |(c,o)::r,b,x=>if b=c then (c,x)::r else (c,o)::qM r b x
theorem qW (h:qn H b=some o):(b,o)∈H:=by
  induction H with
  |nil=>simp [qn] at h
  | cons x r ih=>
    obtain ⟨c,o'⟩:=x
    simp only [qn] at h
    split at h
    · rename_i e;subst e;simp only [Option.some.injEq] at h;subst h;exact .head _
    · exact .tail _ (ih h)
def YX (P:Program) (t:TypeId):Option IntKind:=match P.underlying t with|some (.int k)=>some k|_=>none
def ky (P:Program) (t:TypeId):Bool:=match P.underlying t with|some .string=>true|_=>false
def gX (P:Program) (t:TypeId):Bool:=match P.underlying t with|some .bool=>true|_=>false
def yM (P:Program) (t:TypeId):Bool:=match P.underlying t with|some (.slice e)=>(match P.underlying e with|some (.int .u8)=>true|_=>false)|_=>false
def gA (P:Program) (t:TypeId):Bool:=(P.underlying t).isSome
def ql (c:UInt8):List D:= [.int .u8 c.toNat]
def unbyte:List D->UInt8
  | [.int _ n]=>UInt8.ofNat n.toNat
  |_=>0
def yQ:List D->Prop
  | [.int .u8 n]=>0<=n∧n<=255
  |_=>False
def w8 (op:BinOp) (x y:D) (k:D->Prop):Prop:=
  match x,y with
  | .int ka a,.int kb b=>match op with
    | .shl=>0<=b∧k (.int ka (ka.wrap (a*2 ^ (min b.toNat ka.bits))))
    | .shr=>0<=b∧k (.int ka (a.fdiv (2 ^ (min b.toNat ka.bits))))
    | .add=>ka=kb∧k (.int ka (ka.wrap (a+b)))
    | .sub=>ka=kb∧k (.int ka (ka.wrap (a - b)))
    | .mul=>ka=kb∧k (.int ka (ka.wrap (a*b)))
    | .quo=>ka=kb∧b≠0∧k (.int ka (ka.wrap (a.tdiv b)))
    | .rem=>ka=kb∧b≠0∧k (.int ka (a.tmod b))
    | .and=>ka=kb∧k (.int ka (bits .and ka a b))
    | .or=>ka=kb∧k (.int ka (bits .or ka a b))
    | .xor=>ka=kb∧k (.int ka (bits .xor ka a b))
    | .andNot=>ka=kb∧k (.int ka (bits .andNot ka a b))
    | .eql=>ka=kb∧k (.bool (decide (a=b)))
    | .neq=>ka=kb∧k (.bool (!decide (a=b)))
    | .lss=>ka=kb∧k (.bool (decide (a<b)))
    | .leq=>ka=kb∧k (.bool (decide (a<=b)))
    | .gtr=>ka=kb∧k (.bool (decide (b<a)))
    | .geq=>ka=kb∧k (.bool (decide (b<=a)))
  | .str a,.str b=>match op with
    | .add=>a.length+b.length<=big∧k (.str (a++b))
    | .eql=>k (.bool (decide (a=b)))
    | .neq=>k (.bool (!decide (a=b)))
    | .lss=>k (.bool (Op.bytesLess a b))
    | .leq=>k (.bool (Op.bytesLess a b||decide (a=b)))
    | .gtr=>k (.bool (!(Op.bytesLess a b||decide (a=b))))
    | .geq=>k (.bool (!Op.bytesLess a b))
    |_=>False
  | .bool a,.bool b=>match op with
    | .eql=>k (.bool (a==b))
    | .neq=>k (.bool (!(a==b)))
    |_=>False
  |_,_=>False
inductive CT where
  |i
  |b
  |s
def Yg (P:Program) (g:TypeId->Option (List CT)):List Field->Nat->Option (List CT)
  | [],_=>some []
  | f :: fs, off=>if f.name ≠ "_" ∧ f.offset = off then
      match g f.type with
      | some l=>if yr P f.type=some (j8 P f.type,l.length)∧(j8 P f.type=true∨l.length=1)∧0<l.length then
          match Yg P g fs (off+l.length) with
          |some r=>some (l++r)
          |none=>none
        else none
      |none=>none
    else none
def yD (P:Program):Nat->TypeId->Option (List CT)
  |0,_=>none
  | e+1,t=>match P.underlying t with
    |some (.int _)=>some [.i]
    |some .bool=>some [.b]
    |some .string=>some [.s]
    |some (.struct fs)=>if P.stoodInHeld t=false then Yg P (yD P e) fs.toList 0 else none
    | some (.array n el)=>match yD P e el with
      |some l=>if yr P el=some (j8 P el,l.length)∧(j8 P el=true∨l.length=1)∧0<l.length then some (List.replicate n l).flatten else none
      |none=>none
    |_=>none
def rg (P:Program) (t:TypeId):Option (List CT):=if P.eqGuardType P.depth t=false∧j8 P t=true then yD P 8 t else none
def fits:List CT->List D->Prop
  | [],[]=>True
  | .i::r,.int _ _::s=>fits r s
  | .b::r,.bool _::s=>fits r s
  | .s::r,.str _::s=>fits r s
  |_,_=>False
def cellEq:D->D->Bool
  | .int k a,.int k' b=>decide (k=k')&&decide (a=b)
  | .bool a,.bool b=>a==b
  | .str a,.str b=>decide (a=b)
  |_,_=>false
def eqCells:List D->List D->Bool
  | [],[]=>true
  |a::r,b::s=>cellEq a b&&eqCells r s
  |_,_=>false
def sameK:List D->List D->Prop
  | .int k _::r,.int k' _::s=>k=k'∧sameK r s
  |_::r,_::s=>sameK r s
  |_,_=>True
def BE (P:Program) (t:TypeId):Option Bool:=match P.underlying t with
  | some (.array _ e)=>match yr P e with
    |some (b,_)=>some b
    |none=>none
  |_=>none
def jZ (P:Program) (t:TypeId):Bool:=
  match P.underlying t with
  |some (.struct fs)=>fs.all fun f=>(P.info? f.type).isSome
  |some (.array _ e)=>(P.info? e).isSome
  |_=>false
def jT (P:Program) (t:TypeId) (f:Nat):Option (Nat×Bool×Nat):=
  match P.underlying t with
  | some (.array m e)=>match P.info? e with
    |some i=>if f<m then some (f*i.size,false,i.size) else none
    |none=>none
  |_=>ke P t f
def wS (P:Program) (t:TypeId):List (Nat×List D)->List D->(List D->Prop)->Prop
  | [],z,k=>k z
  | (i,cs)::r,z,k=>match jT P t i with
    |some (off,_,n)=>cs.length=n∧off+n<=z.length∧wS P t r (z.take off++(cs++z.drop (off+n))) k
    |none=>False
def oW (n:Nat) (lo hi:Option D) (k:Nat->Nat->Prop):Prop:=
  match lo,hi with
  |none,none=>k 0 n
  |some (.int _ l),none=>0<=l∧l<=(n:Int)∧k l.toNat n
  |none,some (.int _ h)=>0<=h∧h<=(n:Int)∧k 0 h.toNat
  |some (.int _ l),some (.int _ h)=>0<=l∧l<=h∧h<=(n:Int)∧k l.toNat h.toNat
  |_,_=>False
def ya:List (D×D)->List D->Option D
  | [],_=>none
  |p::r,k=>if eqCells k (cellsOf p.1)=true then some p.2 else ya r k
def oG:List (D×D)->D->D->List (D×D)
  | [],k,v=>[(k,v)]
  |p::r,k,v=>if eqCells (cellsOf k) (cellsOf p.1)=true then (k,v)::r else p::oG r k v
def VH:D->Bool
  | .agg _=>true
  |_=>false
def ym (ag:Bool) (l:List CT) (es:List (D×D)) (k:D):Prop:=VH k=ag∧fits l (cellsOf k)∧∀p∈es,VH p.1=ag∧fits l (cellsOf p.1)∧sameK (cellsOf k) (cellsOf p.1)
def zC (v:Value):D:=match jD v with
  | .own xs=>.osl 0 0 xs
  |d=>d
def zD (P:Program) (t:TypeId):Option D:=match P.info? t with
  | some i=>match i.zero with
    |some (.agg cs)=>if cs.toList.all (fun v=>wh v&&v.oneCell')=true then some (.agg (cs.toList.map zC)) else none
    |some v=>if (wh v&&v.oneCell')=true then some (zC v) else none
    |none=>none
  |none=>none
def dq (P:Program) (t:TypeId):Option (Bool×List CT×D):=match P.underlying t with
  | some (.map kt et)=>match yD P 8 kt,zD P et with
    |some l,some z=>some (j8 P kt,l,z)
    |_,_=>none
  |_=>none
def D.wk1:D->D
  | .osl _ _ xs=>.slc xs
  |d=>d
def D.wkA:D->D
  | .agg cs=>.agg (cs.map D.wk1)
  |d=>d.wk1
def oQ (ok:Bool) (z:D) (o:Option D):D:=match ok,o with
  |false,some d=>d
  |false,none=>z
  |true,some d=>.tup [d,.bool true]
  |true,none=>.tup [z,.bool false]
def D.wkT:D->D
  | .tup ds=>.tup (ds.map D.wkA)
  |d=>d.wkA
def wkI (wk:Bool) (d:D):D:=match wk with
  |true=>d.wkT
  |false=>d
def Yi (P:Program) (wk:Bool) (t:TypeId) (H:AH) (m i:D) (ok:Bool) (k:D->Prop):Prop:=match dq P t,m with
  |some (ag,l,z),.mp none=>ym ag l [] i∧k (wkI wk (oQ ok z none))
  |some (ag,l,z),.mpv es=>ym ag l es i∧(fact (oQ ok z (ya es (cellsOf i)))->k (wkI wk (oQ ok z (ya es (cellsOf i)))))
  | some (ag,l,z),.mp (some b)=>match qn H b with
    |some (.mp es)=>ym ag l es i∧(fact (oQ ok z (ya es (cellsOf i)))->k (wkI wk (oQ ok z (ya es (cellsOf i)))))
    |_=>False
  |_,_=>False
theorem RepV.wk1 (h:RepV K w d v):RepV K w d.wk1 v:=by
  cases d<;>first|exact h|(cases h<;>first|assumption|exact .slcnil _)
theorem RepV.wkA (h:RepV K w d v):RepV K w d.wkA v:=by
  cases d<;>first
    |exact h.wk1
    | (cases h with
       | agg _ vs hl h1 hr=>exact .agg _ vs (by simpa using hl) h1 (fun j d u hd hu=>by
           rw [Nb,Nk] at hd
           obtain ⟨d',e1,rfl⟩:=hd
           exact (hr j d' u e1 hu).wk1))
theorem RepV.wkI (h:RepV K w d v):RepV K w (Go.Aw.wkI wk d) v:=by
  cases wk
  · exact h
  · cases d<;>first
      |exact h.wkA
      | (cases h with
         | tup _ vs hl hr=>exact .tup _ vs (by simpa using hl) (fun j d u hd hu=>by
             rw [Nb,Nk] at hd
             obtain ⟨d',e1,rfl⟩:=hd
             exact (hr j d' u e1 hu).wkA))
def qY (P:Program) (ρ:Operand->D) (H:AH) (op:Op) (k:D->Prop):Prop:=
  match op with
  | .pick c a b=>match ρ c with
    | .bool true=>k (ρ a)
    | .bool false=>k (ρ b)
    |_=>False
  | .build t ps=>match yA P t with
    |some z=>jZ P t=true∧(∀p∈ps.toList,okc (ρ p.2)=true)∧wS P t (ps.toList.map fun p=>(p.1,cellsOf (ρ p.2))) (z.map D.view1) fun cs=>k (.agg cs)
    |none=>False
  | .buildSlice t n ps=>match yb P t with
    |some (e,sz)=>ps.toList.map (·.1)=List.range n∧(∀p∈ps.toList,okc (ρ p.2)=true∧(cellsOf (ρ p.2)).length=sz)∧n*sz<=16777216∧(yA P e).isSome=true∧k (.own (ps.toList.map fun p=>cellsOf (ρ p.2)))
    |none=>False
  | .load t a=>match yr P t,ρ a with
    | some (true,n),.ptr b off=>match qn H b with
      |some (.cells cs)=>off+n<=cs.length∧k (.agg (((cs.drop off).take n).map D.view1))
      |some (.cst cs)=>off+n<=cs.length∧k (.agg ((cs.drop off).take n))
      |_=>False
    | some (false,_),.ptr b off=>match qn H b with
      | some (.cells cs)=>match cs[off]? with
        |some c=>fact c.view1->k c.view1
        |none=>False
      | some (.cst cs)=>match cs[off]? with
        |some c=>fact c->k c
        |none=>False
      |_=>False
    |some (true,n),.eptr cs=>n<=cs.length∧k (.agg (cs.take n))
    |some (false,_),.eptr (c::_)=>fact c->k c
    |_,_=>False
  | .binOp op t x y _=>match ρ x,ρ y with
    | .bool a,.bool b=>gX P t=true∧w8 op (.bool a) (.bool b) k
    | .agg xs,.agg ys=>match rg P t with
      | some l=>fits l xs∧fits l ys∧sameK xs ys∧(match op with
        | .eql=>k (.bool (eqCells xs ys))
        | .neq=>k (.bool (!eqCells xs ys))
        |_=>False)
      |none=>False
    |a,b=>w8 op a b k
  | .unOp op _ x=>match op,ρ x with
    | .not,.bool b=>k (.bool (!b))
    | .neg,.int kd n=>k (.int kd (kd.wrap (0 - n)))
    | .xor,.int kd n=>k (.int kd (bits .xor kd (if kd.signed then -1 else kd.max) n))
    |_,_=>False
  | .convert s t x=>match ρ x with
    | .int _ n=>match YX P t with
      |some kd=>gA P s=true∧k (.int kd (kd.wrap n))
      |none=>False
    | .str l=>if ky P t=true then ky P s=true∧k (.str l) else ky P s=true∧yM P t=true∧(fact (.str l)->k (.slc (l.map ql)))
    | .slc xs=>yM P s=true∧ky P t=true∧(∀x∈xs,yQ x)∧(fact (.slc xs)->k (.str (xs.map unbyte)))
    | .hso b off n=>match qn H b with
      |some (.cells cs)=>yM P s=true∧ky P t=true∧off+n<=cs.length∧(∀d∈(cs.drop off).take n,yQ [d])∧(fact (.str (((cs.drop off).take n).map fun d=>unbyte [d]))->k (.str (((cs.drop off).take n).map fun d=>unbyte [d])))
      |_=>False
    |_=>False
  | .sliceToArrayPointer t x=>match KF P t,ρ x with
    |some (m,_),.hso b off n=>m<=n∧k (.ptr b off)
    |some (m,sz),.slc xs=>sz=1∧m<=xs.length∧(∀x∈xs,x.length=1)∧k (.eptr (xs.take m).flatten)
    |_,_=>False
  | .makeFunc (.func f) first caps=>match first.toList with
    | []=>B2 (caps.toList.map ρ)=false∧k (.fn f (caps.toList.map ρ))
    |x::l=>caps=#[]∧k (.fn f (.tup []::(x::l).map ρ))
  | .makeSlice t l c=>match yb P t with
    | some (e,sz)=>match yA P e,ρ l,ρ c with
      |some z,.int _ n,.int _ m=>n=m∧0<=n∧(match P.info? e with|some i=>(i.bytes:Int)*n<=140737488355328∧n<=140737488355328|none=>False)∧k (.own (List.replicate n.toNat (z.map D.view1)))
      |_,_,_=>False
    |none=>False
  | .slice t x lo hi none=>match ρ x with
    | .slc xs=>match yb P t with
      |some (_,sz)=>(∀x∈xs,x.length=sz)∧oW xs.length (lo.map ρ) (hi.map ρ) fun l h=>k (.slc ((xs.take h).drop l))
      |none=>False
    | .str s=>ky P t=true∧oW s.length (lo.map ρ) (hi.map ρ) fun l h=>k (.str ((s.take h).drop l))
    | .hsl b n=>match yb P t with
      |some (_,sz)=>oW n (lo.map ρ) (hi.map ρ) fun l h=>l<h∧k (match lo with|none=>.hsl b h|some _=>.hso b (l*sz) (h - l))
      |none=>False
    | .hso b off n=>match yb P t with
      |some (_,sz)=>oW n (lo.map ρ) (hi.map ρ) fun l h=>l<h∧k (.hso b (off+l*sz) (h - l))
      |none=>False
    | .ptr b off=>match KF P t with
      |some (m,sz)=>m<=65536∧oW m (lo.map ρ) (hi.map ρ) fun l h=>l<h∧k (.hso b (off+l*sz) (h - l))
      |none=>False
    |_=>False
  | .slice t x lo (some hi) (some mx)=>match lo.map ρ,ρ hi,ρ mx with
    |none,.int _ h,.int _ m=>h=0∧m=0∧(yb P t).isSome=true∧(∃xs,ρ x= .slc xs)∧k (.own [])
    |some (.int _ l),.int _ h,.int _ m=>l=0∧h=0∧m=0∧(yb P t).isSome=true∧(∃xs,ρ x= .slc xs)∧k (.own [])
    |_,_,_=>False
  | .fieldAddr t x f=>match ke P t f,ρ x with
    |some (off,_,_),.ptr b o=>k (.ptr b (o+off))
    |some (off,_,_),.eptr cs=>off<=cs.length∧k (.eptr (cs.drop off))
    |_,_=>False
  | .field t x f=>match ke P t f,ρ x with
    |some (off,true,n),.agg cs=>off+n<=cs.length∧k (.agg ((cs.drop off).take n))
    | some (off,false,_),.agg cs=>match cs[off]? with
      |some c=>fact c->k c
      |none=>False
    |_,_=>False
  | .indexAddr t x i=>match ρ x,ρ i with
    | .slc xs,.int _ n=>match yb P t with
      |some (_,sz)=>0<=n∧n<(xs.length:Int)∧(xs.getD n.toNat []).length=sz∧k (.eptr (xs.getD n.toNat []))
      |none=>False
    | .hsl b m,.int _ n=>match yb P t with
      |some (_,sz)=>0<=n∧n<(m:Int)∧k (.ptr b (n.toNat*sz))
      |none=>False
    | .ptr b off,.int _ n=>match KF P t with
      |some (m,sz)=>0<=n∧n<(m:Int)∧k (.ptr b (off+n.toNat*sz))
      |none=>False
    | .eptr cs,.int _ n=>match KF P t with
      |some (m,sz)=>0<=n∧n<(m:Int)∧n.toNat*sz<=cs.length∧k (.eptr (cs.drop (n.toNat*sz)))
      |none=>False
    | .hso b off m,.int _ n=>match yb P t with
      |some (_,sz)=>0<=n∧n<(m:Int)∧k (.ptr b (off+n.toNat*sz))
      |none=>False
    | .osl _ _ xs,.int _ n=>match yb P t with
      |some (_,sz)=>0<=n∧n<(xs.length:Int)∧(xs.getD n.toNat []).length=sz∧k (.eptr (xs.getD n.toNat []))
      |none=>False
    | .hgs b m _,.int _ n=>match yb P t with
      |some (_,sz)=>0<=n∧n<(m:Int)∧k (.ptr b (n.toNat*sz))
      |none=>False
    |_,_=>False
  | .index t x i=>match ρ x,ρ i with
    | .str s,.int _ n=>ky P t=true∧0<=n∧n<(s.length:Int)∧k (.int .u8 (s.getD n.toNat 0).toNat)
    | .agg cs,.int _ n=>match KF P t,BE P t with
      |some (m,sz),some false=>sz=1∧0<=n∧n<(m:Int)∧m<=cs.length∧(fact (cs.getD n.toNat .any)->k (cs.getD n.toNat .any))
      |_,_=>False
    |_,_=>False
  | .lookup t m i ok=>Yi P true t H (ρ m) (ρ i) ok k
  | .nilCheck x=>match ρ x with
    | .ptr b o=>k (.ptr b o)
    | .eptr cs=>k (.eptr cs)
    | .fn f cs=>k (.fn f cs)
    |_=>False
  | .call c=>match c.callee,c.args.toList.map ρ,c.argTypes.toList with
    | .builtin .len,[.slc xs],[t]=>(yb P t).isSome=true∧(fact (.slc xs)->k (.int .i64 xs.length))
    | .builtin .len,[.hsl b n],[t]=>(yb P t).isSome=true∧k (.int .i64 n)
    | .builtin .len,[.hso b off n],[t]=>(yb P t).isSome=true∧k (.int .i64 n)
    | .builtin .len,[.hgs b n _],[t]=>(yb P t).isSome=true∧k (.int .i64 n)
    | .builtin .len,[.str s],[t]=>ky P t=true∧(fact (.str s)->k (.int .i64 s.length))
    | .builtin .max,[.int kd a,.int kb b],_=>kd=kb∧k (.int kd (if b>a then b else a))
    | .builtin .min,[.int kd a,.int kb b],_=>kd=kb∧k (.int kd (if b<a then b else a))
    |_,_,_=>False
  |_=>False
end Go.Aw
end
section
namespace Go.Aw
open Go Go.RowKit
def Cur (o:Oper) (H:AH) (ρ:Operand->D):Prop:=
 ∃(K:Nat->BK) (w:World) (σ:Operand->Value),KRel K w∧HRel K w H∧∀x∈o.op.operands.toList,RepV K w (ρ x) (σ x)
section
variable {P:Program} {o:Oper} {H:AH} {ρ:Operand->D} {k:D->Prop}
theorem ui {t:TypeId} (ht:yr P t=some (true,n)) (b off:Nat) (vs:List Value) (hl:vs.length=n) (h:∀j v,vs[j]?=some v->w.cell? ⟨b,off+j,none⟩=some v):
  (Instr.loadAt t (.pointer (some ⟨b,off,none⟩))).run P w= .ok (.agg vs.toArray) w:=by
 obtain ⟨h1,h2⟩:=wW ht
 subst hl
 have hc:=run_loadCells_list (P:=P) w ⟨b,off,none⟩ vs (fun j v hv=>by rw [Addr.add_lit];exact h j v hv)
 simp only [Instr.loadAt,Instr.sureAddr,Sem.run_bind,Sem.run_pure,Result.andThen_ok,loadVar,h1,if_true,h2,hc]
theorem wL {t:TypeId} (ht:yr P t=some (false,n)) (b off:Nat) (v:Value) (h:w.cell? ⟨b,off,none⟩=some v):
  (Instr.loadAt t (.pointer (some ⟨b,off,none⟩))).run P w= .ok v w:=by
 obtain ⟨h1,h2⟩:=wW ht
 simp [Instr.loadAt,Instr.sureAddr,loadVar,h1,h]
theorem wQ (cs:List D) (vs:List Value) (hl:vs.length=cs.length) (h1:∀(j:Nat) (u:Value),vs[j]?=some u->u.oneCell'=true)
  (h2:∀(j:Nat) (d:D) (u:Value),cs[j]?=some d->vs[j]?=some u->RepV K w d u):RepV K w (.agg cs) (.agg vs.toArray):=
 .agg cs vs.toArray (by simpa using hl) (fun j u hu=>h1 j u (by simpa using hu)) (fun j d u hd hu=>h2 j d u hd (by simpa using hu))
theorem iA (ho:o.op= .pick c a b) (h:qY P ρ H (.pick c a b) k) (hc:Cur o H ρ):∃d,k d∧Yields P o H ρ d:=by
 simp only [qY] at h
 have key:∀t:Bool,ρ c= .bool t->∀x,x=(if t then a else b)->Yields P o H ρ (ρ x):=by
  intro t ht x hx
  refine qu fun K w σ hk hh hr=>?_
  rw [ho] at hr
  have h1:=hr c (by simp [Op.operands])
  rw [ht] at h1
  have h2:=h1.bool_inv
  refine ⟨σ x,?_,hr x (by subst hx;cases t<;>simp [Op.operands])⟩
  subst hx
  simp only [execOp,ho,Sem.run_bind,asBool,h2,Sem.run_pure,Result.andThen_ok]
  cases t<;>simp
 grind
theorem ed {t:TypeId} (ho:o.op= .load t a) (h:qY P ρ H (.load t a) k) (hcur:Cur o H ρ):∃d,k d∧Yields P o H ρ d:=by
 simp only [qY] at h
 have hmem:a∈o.op.operands.toList:=by simp [ho,Op.operands]
 split at h
 ·rename_i n b off ht hρ
  split at h
  ·rename_i cs hg
   obtain ⟨hn,hkd⟩:=h
   refine ⟨_,hkd,qu fun K w σ hk hh hr=>?_⟩
   have h2:=(hρ▸hr a hmem).ptr_inv
   obtain ⟨_,c,T,hb,hcs,hcell⟩:=hh.ok b _ (qW hg)
   refine ⟨.agg ((c.toList.drop off).take n).toArray,?_,wQ _ _ (by simp;omega) (fun j u hu=>?_) (fun j d u hd hu=>?_)⟩
   ·simp only [execOp,ho,h2]
    rw [Sem.run_bind,ui ht b off ((c.toList.drop off).take n) (by simp;omega) (fun j v hv=>by
     rw [jU hb]
     simp only [List.getElem?_take,List.getElem?_drop] at hv
     split at hv
     ·simpa using hv
     ·cases hv)]
    rfl
   ·simp only [List.getElem?_take,List.getElem?_drop] at hu
    split at hu
    ·rename_i hj
     have hlt:off+j<cs.length:=by omega
     obtain ⟨u',e1,e2,e3⟩:=hcell (off+j) _ (Na hlt)
     simp only [Array.getElem?_toList,e1,Option.some.injEq] at hu
     exact hu▸e2
    ·cases hu
   ·simp only [Nb,List.getElem?_take,List.getElem?_drop] at hd hu
    split at hu
    ·rename_i hj
     simp only [hj,if_true] at hd
     rw [Nk] at hd
     obtain ⟨d',hd',rfl⟩:=hd
     obtain ⟨u',e1,e2,e3⟩:=hcell (off+j) _ hd'
     simp only [Array.getElem?_toList,e1,Option.some.injEq] at hu
     exact hu▸e3.rep
    ·cases hu
  ·rename_i cs hg
   obtain ⟨hn,hkd⟩:=h
   refine ⟨_,hkd,qu fun K w σ hk hh hr=>?_⟩
   have h2:=(hρ▸hr a hmem).ptr_inv
   obtain ⟨_,_,c,T,fz,hb,hcs,hcell⟩:=hh.ok b _ (qW hg)
   refine ⟨.agg ((c.toList.drop off).take n).toArray,?_,wQ _ _ (by simp;omega) (fun j u hu=>?_) (fun j d u hd hu=>?_)⟩
   ·simp only [execOp,ho,h2]
    rw [Sem.run_bind,ui ht b off ((c.toList.drop off).take n) (by simp;omega) (fun j v hv=>by
     rw [jU hb]
     simp only [List.getElem?_take,List.getElem?_drop] at hv
     split at hv
     ·simpa using hv
     ·cases hv)]
    rfl
   ·simp only [List.getElem?_take,List.getElem?_drop] at hu
    split at hu
    ·rename_i hj
     have hlt:off+j<cs.length:=by omega
     obtain ⟨u',e1,e2,e3⟩:=hcell (off+j) _ (Na hlt)
     simp only [Array.getElem?_toList,e1,Option.some.injEq] at hu
     exact hu▸e2
    ·cases hu
   all_goals grind
  ·exact h.elim
 ·rename_i n b off ht hρ
  split at h
  ·rename_i cs hg
   split at h
   ·rename_i c hc
    have key:∀(K:Nat->BK) (w:World),HRel K w H->∃u,w.cell? ⟨b,off,none⟩=some u∧RepV K w c.view1 u:=by
     intro K w hh
     obtain ⟨_,c',T,hb,hcs,hcell⟩:=hh.ok b _ (qW hg)
     obtain ⟨u',e1,e2,e3⟩:=hcell off _ hc
     exact ⟨u',by rw [jU hb];exact e1,e3.rep⟩
    obtain ⟨K0,w0,σ0,hk0,hh0,hr0⟩:=hcur
    obtain ⟨u0,_,hu0⟩:=key K0 w0 hh0
    refine ⟨_,h hu0.fact,qu fun K w σ hk hh hr=>?_⟩
    have h2:=(hρ▸hr a hmem).ptr_inv
    obtain ⟨u,e1,e2⟩:=key K w hh
    refine ⟨u,?_,e2⟩
    simp only [execOp,ho,h2]
    rw [Sem.run_bind,wL ht b off u e1]
    rfl
   ·exact h.elim
  ·rename_i cs hg
   split at h
   ·rename_i c hc
    have key:∀(K:Nat->BK) (w:World),HRel K w H->∃u,w.cell? ⟨b,off,none⟩=some u∧RepV K w c u:=by
     intro K w hh
     obtain ⟨_,_,c',T,fz,hb,hcs,hcell⟩:=hh.ok b _ (qW hg)
     obtain ⟨u',e1,e2,e3⟩:=hcell off _ hc
     exact ⟨u',by rw [jU hb];exact e1,e3⟩
    obtain ⟨K0,w0,σ0,hk0,hh0,hr0⟩:=hcur
    obtain ⟨u0,_,hu0⟩:=key K0 w0 hh0
    refine ⟨_,h hu0.fact,qu fun K w σ hk hh hr=>?_⟩
    have h2:=(hρ▸hr a hmem).ptr_inv
    obtain ⟨u,e1,e2⟩:=key K w hh
    refine ⟨u,?_,e2⟩
    simp only [execOp,ho,h2]
    rw [Sem.run_bind,wL ht b off u e1]
    rfl
   ·exact h.elim
  ·exact h.elim
 ·rename_i n cs ht hρ
  obtain ⟨hn,hkd⟩:=h
  refine ⟨_,hkd,qu fun K w σ hk hh hr=>?_⟩
  obtain ⟨b,off,f,h2,hv,hcell,hone,hrep⟩:=(hρ▸hr a hmem).eptr_inv
  have hlt:∀j v,((List.range n).map f)[j]?=some v->j<n∧v=f j:=fun j v hj=>by
   rw [Nb,Nk] at hj
   obtain ⟨j',hj',rfl⟩:=hj
   have:=List.getElem?_eq_some_iff.1 hj'
   obtain ⟨hl,he⟩:=this
   simp at hl he
   exact ⟨hl,by rw [he]⟩
  refine ⟨.agg ((List.range n).map f).toArray,?_,wQ _ _ (by simp;omega) (fun j u hu=>?_) (fun j d u hd hu=>?_)⟩
  ·simp only [execOp,ho,h2]
   rw [Sem.run_bind,ui ht b off ((List.range n).map f) (by simp) (fun j v hj=>by
    obtain ⟨h3,rfl⟩:=hlt j v hj
    exact hcell j _ (Na (by omega)))]
   rfl
  ·obtain ⟨h3,rfl⟩:=hlt j u hu
   exact hone j _ (Na (by omega))
  all_goals grind
 ·rename_i n c cs ht hρ
  have key:∀(K:Nat->BK) (w:World) (v:Value),RepV K w (.eptr (c::cs)) v->∃b off u,v= .pointer (some ⟨b,off,none⟩)∧w.cell? ⟨b,off,none⟩=some u∧RepV K w c u:=by
   intro K w v hr
   obtain ⟨b,off,f,h2,hv,hcell,hone,hrep⟩:=hr.eptr_inv
   exact ⟨b,off,f 0,h2,by simpa using hcell 0 c rfl,hrep 0 c rfl⟩
  obtain ⟨K0,w0,σ0,hk0,hh0,hr0⟩:=hcur
  obtain ⟨_,_,u0,_,_,hu0⟩:=key K0 w0 _ (hρ▸hr0 a hmem)
  refine ⟨_,h hu0.fact,qu fun K w σ hk hh hr=>?_⟩
  obtain ⟨b,off,u,h2,e1,e2⟩:=key K w _ (hρ▸hr a hmem)
  refine ⟨u,?_,e2⟩
  simp only [execOp,ho,h2]
  rw [Sem.run_bind,wL ht b off u e1]
  rfl
 ·exact h.elim
theorem p6 {k:IntKind} {a b:Int} (ha:wP k a) (hb:wP k b):wP k (a.tmod b):=by
 unfold wP at*
 simp only [Lit.wf,Nm,decide_eq_true_eq] at*
 have hle:(a.tmod b).natAbs<=a.natAbs:=by
  rw [Int.natAbs_tmod];exact Nat.mod_le _ _
 have hs:0<=a->0<=a.tmod b:=fun h=>Int.tmod_nonneg b h
 have hmin:k.min<=0:=by cases k<;>decide
 have hmax:0<=k.max:=by cases k<;>decide
 by_cases h0:0<=a
 ·grind
 ·have hn:a.tmod b<=0:=by
   have:=Int.tmod_nonneg b (show 0<= -a by omega)
   rw [Int.neg_tmod] at this;omega
  omega
theorem lX {k:IntKind} {a:Int} (n:Nat) (ha:wP k a):wP k (a.fdiv (2 ^ n)):=by
 unfold wP at*
 simp only [Lit.wf,Nm,decide_eq_true_eq] at*
 have hp:(0:Int)<2 ^ n:=Int.pow_pos (by decide)
 rw [Int.fdiv_eq_ediv_of_nonneg _ (Int.le_of_lt hp)]
 have hmin:k.min<=0:=by cases k<;>decide
 have hmax:0<=k.max:=by cases k<;>decide
 generalize (2:Int) ^ n=p at hp
 have h1:0<=a->a / p<=a:=fun h=>Int.ediv_le_self _ h
 have h2:0<=a->0<=a / p:=fun h=>Int.ediv_nonneg h (Int.le_of_lt hp)
 have h3:a<0->a<=a / p:=fun h=>by
  rw [Int.le_ediv_iff_mul_le hp]
  have:a*p<=a*1:=Int.mul_le_mul_of_nonpos_left (by omega) (by omega)
  omega
 have h4:a<0->a / p<0:=fun h=>Int.ediv_neg_of_neg_of_pos h hp
 grind
theorem uh {α:Type} [BEq α] [LawfulBEq α] [DecidableEq α] (a b:α):(a==b)=decide (a=b):=by
 grind
theorem KY (k:IntKind) (n:Int):wP k (k.wrap n):=wf_wrap k n
theorem wG (s:List UInt8):(⟨⟨s⟩⟩:ByteArray).toList=s:=by rw [ByteArray.toList_eq]
theorem UG (op:BinOp) (k yk:IntKind) (x y:Int) (h0:0<=y):Op.shift op k x yk y=match op with
  | .shl=>pure (.int k (k.wrap (x*2 ^ (min y.toNat k.bits))))
  | .shr=>pure (.int k (x.fdiv (2 ^ (min y.toNat k.bits))))
  | _=>stuck "shift: << >> expected" := by
 have:¬y<0:=by omega
 cases op<;>simp [Op.shift,this]
def jH:List CT->List Value->Prop
 | [],[]=>True
 | .i::r,.int _ _::s=>jH r s
 | .b::r,.bool _::s=>jH r s
 | .s::r,.string _::s=>jH r s
 |_,_=>False
def dp:Value->Value->Bool
 | .int _ a,.int _ b=>a==b
 | .bool a,.bool b=>a==b
 | .string a,.string b=>a.toList==b.toList
 |_,_=>false
def wx:List Value->List Value->Bool
 | [],[]=>true
 |a::r,b::s=>dp a b&&wx r s
 |_,_=>false
def Jw (P:Program) (t:TypeId) (vs:List Value):Value:=if j8 P t then .agg vs.toArray else vs.headD undef
def kV:List Value->List Value->Prop
 | .int k _::r,.int k' _::s=>k=k'∧kV r s
 |_::r,_::s=>kV r s
 |_,_=>True
theorem jv:∀{l:List CT} {vs:List Value},jH l vs->vs.length=l.length
 | [],[],_=>rfl
 | c::r,v::s,h=>by
  cases c<;>cases v<;>simp only [jH] at h<;>first|exact h.elim|exact congrArg (·+1) (jv h)
 | [],_::_,h=>by simp [jH] at h
 |c::_,[],h=>by cases c<;>simp [jH] at h
theorem kN:∀{l r:List CT} {vs:List Value},jH (l++r) vs->jH l (vs.take l.length)∧jH r (vs.drop l.length)
 | [],r,vs,h=>by simpa [jH] using h
 |c::l,r,[],h=>by cases c<;>simp [jH] at h
 | c::l,r,v::vs,h=>by
  cases c<;>cases v<;>simp only [List.cons_append,jH] at h<;>first|exact h.elim|(obtain ⟨h1,h2⟩:=kN h;exact ⟨h1,h2⟩)
theorem oP:∀{a b:List Value} (n:Nat),a.length=b.length->wx a b=(wx (a.take n) (b.take n)&&wx (a.drop n) (b.drop n))
 | [],[],n,_=>by simp [wx]
 |x::a,y::b,0,_=>by simp [wx]
 | x::a,y::b,n+1,h=>by
  simp only [List.take_succ_cons,List.drop_succ_cons,wx,oP n (Nat.succ.inj h),Bool.and_assoc]
 | [],_::_,_,h=>by simp at h
 |_::_,[],_,h=>by simp at h
theorem yE:∀{a b:List Value} (n:Nat),kV a b->kV (a.take n) (b.take n)∧kV (a.drop n) (b.drop n)
 | [],_,n,_=>by simp [kV]
 |_::_,[],n,_=>by cases n<;>simp [kV]
 |x::a,y::b,0,h=>⟨by simp [kV],h⟩
 | x::a,y::b,n+1,h=>by
  simp only [List.take_succ_cons,List.drop_succ_cons]
  cases x<;>cases y<;>simp only [kV] at h ⊢<;>first
   |exact yE n h
   |exact ⟨⟨h.1,(yE n h.2).1⟩,(yE n h.2).2⟩
theorem yW {t:TypeId} (ht:yr P t=some (j8 P t,n)) (hn:j8 P t=true∨n=1) (vs:List Value) (off:Nat) (h:off+n<=vs.length) (w:World):
  (part t vs.toArray off).run P w= .ok (Jw P t ((vs.drop off).take n)) w:=by
 obtain ⟨h1,h2⟩:=wW ht
 unfold part Jw
 rw [Sem.run_bind,h1,Result.andThen_ok]
 cases hb:j8 P t
 ·have hn1:n=1:=by rcases hn with h|h<;>simp_all
  subst hn1
  have hlt:off<vs.length:=by omega
  have hd:vs.drop off=vs[off]::vs.drop (off+1):=List.drop_eq_getElem_cons hlt
  have hg:vs[off]?=some vs[off]:=Na hlt
  simp only [hd,Bool.false_eq_true,if_false,List.getElem?_toArray,hg,Sem.run_pure,List.take_succ_cons,List.take_zero,List.headD_cons]
 ·simp only [if_true,Sem.run_bind,h2,Result.andThen_ok,Sem.run_pure]
  grind
theorem Z7 {t:TypeId} (h:yr P t=some (b,n)):∃i,P.info? t=some i∧i.size=n:=by
 unfold yr at h
 grind
theorem uM:∀(e d:Nat) (t:TypeId) (l:List CT),yD P e t=some l->e<=d->∀(vx vy:List Value) (w:World),jH l vx->jH l vy->kV vx vy->
  (Op.equalIn d t (Jw P t vx) (Jw P t vy)).run P w= .ok (wx vx vy) w:=by
 intro e
 induction e with
 |zero=>intro d t l h;simp [yD] at h
 | succ e ih=>
  intro d t l h hd vx vy w hx hy hk
  obtain ⟨d,rfl⟩:∃d',d=d'+1:=⟨d - 1,by omega⟩
  simp only [yD] at h
  split at h
  ·rename_i k hu
   simp only [Option.some.injEq] at h
   subst h
   have ha:j8 P t=false:=by simp [j8,hu]
   match vx,hx,vy,hy with
   | [.int ka a],_,[.int kb b],_=>
    simp only [kV] at hk
    simp [Jw,ha,Op.equalIn,run_underlying hu,hk.1,wx,dp]
   | [.int _ _,_],hx,_,_=>simp [jH] at hx
   | [.int _ _],_,[.int _ _,_],hy=>simp [jH] at hy
  ·rename_i hu
   simp only [Option.some.injEq] at h
   subst h
   have ha:j8 P t=false:=by simp [j8,hu]
   match vx,hx,vy,hy with
   | [.bool a],_,[.bool b],_=>simp [Jw,ha,Op.equalIn,run_underlying hu,wx,dp]
   | [.bool _,_],hx,_,_=>simp [jH] at hx
   | [.bool _],_,[.bool _,_],hy=>simp [jH] at hy
  ·rename_i hu
   simp only [Option.some.injEq] at h
   subst h
   have ha:j8 P t=false:=by simp [j8,hu]
   match vx,hx,vy,hy with
   | [.string a],_,[.string b],_=>simp [Jw,ha,Op.equalIn,run_underlying hu,wx,dp,beq_toListBytes]
   | [.string _,_],hx,_,_=>simp [jH] at hx
   | [.string _],_,[.string _,_],hy=>simp [jH] at hy
  ·rename_i fs hu
   split at h
   ·rename_i hst
    have ha:j8 P t=true:=by simp [j8,hu]
    have hf:P.fieldsOf t=fs:=by simp [Program.fieldsOf,hu]
    have hu':P.underlying t=some (.struct (P.fieldsOf t)):=by rw [hf];exact hu
    simp only [Jw,ha,if_true]
    rw [run_equalIn_struct w d t _ _ hu' hst,hf]
    have key:∀(fl:List Field) (off:Nat) (l:List CT),Yg P (yD P e) fl off=some l->∀w:World,jH l (vx.drop off)->jH l (vy.drop off)->kV (vx.drop off) (vy.drop off)->
      (Op.eqFields d vx.toArray vy.toArray fl).run P w= .ok (wx (vx.drop off) (vy.drop off)) w:=by
     intro fl
     induction fl with
     | nil=>
      intro off l hl w h1 h2 _
      simp only [Yg,Option.some.injEq] at hl
      subst hl
      have e1:=jv h1
      have e2:=jv h2
      simp only [Ng,List.length_eq_zero_iff] at e1 e2
      simp [Op.eqFields,e1,e2,wx]
     | cons f fl ihf=>
      intro off l hl w h1 h2 h3
      simp only [Yg] at hl
      split at hl
      ·rename_i hname
       split at hl
       ·rename_i lf hlf
        split at hl
        ·rename_i htI
         split at hl
         ·rename_i r hr
          simp only [Option.some.injEq] at hl
          subst hl
          obtain ⟨f1,g1⟩:=kN h1
          obtain ⟨f2,g2⟩:=kN h2
          obtain ⟨f3,g3⟩:=yE lf.length h3
          have L1:=jv h1
          have L2:=jv h2
          simp only [List.length_drop,Nd] at L1 L2
          have ho:f.offset=off:=hname.2
          have p1:=yW (P:=P) htI.1 htI.2.1 vx off (by
           have:=jv f1
           have:=htI.2.2
           simp only [Nw,List.length_drop] at*
           omega) w
          have p2:=yW (P:=P) htI.1 htI.2.1 vy off (by
           have:=jv f2
           have:=htI.2.2
           simp only [Nw,List.length_drop] at*
           omega) w
          have q:=ih d f.type lf hlf (by omega) _ _ w f1 f2 f3
          have rest:=ihf (off+lf.length) r hr w (by rwa [List.drop_drop] at g1) (by rwa [List.drop_drop] at g2) (by rwa [List.drop_drop,List.drop_drop] at g3)
          rw [oP lf.length (by simp only [List.length_drop];omega)]
          simp only [Op.eqFields,if_pos hname.1,ho,Sem.run_bind,p1,p2,Result.andThen_ok,q,Sem.run_ite,rest,Sem.run_pure,List.drop_drop]
          cases wx ((vx.drop off).take lf.length) ((vy.drop off).take lf.length)<;>simp
         ·cases hl
        ·cases hl
       ·cases hl
      ·cases hl
    have:=key fs.toList 0 l h w (by simpa using hx) (by simpa using hy) (by simpa using hk)
    simpa using this
   ·cases h
  ·rename_i n el hu
   split at h
   ·rename_i lf hlf
    split at h
    ·rename_i htI
     simp only [Option.some.injEq] at h
     subst h
     have ha:j8 P t=true:=by simp [j8,hu]
     obtain ⟨i,hi,his⟩:=Z7 htI.1
     have hc:P.cellsOf el=lf.length:=by simp [Program.cellsOf,hi,his]
     simp only [Jw,ha,if_true]
     rw [run_equalIn_array w d _ _ hu hi,hc,List.range_eq_range']
     have key:∀(m q:Nat) (w:World),jH (List.replicate m lf).flatten (vx.drop (q*lf.length))->jH (List.replicate m lf).flatten (vy.drop (q*lf.length))->kV (vx.drop (q*lf.length)) (vy.drop (q*lf.length))->
       (Op.eqItems d el lf.length vx.toArray vy.toArray (List.range' q m)).run P w= .ok (wx (vx.drop (q*lf.length)) (vy.drop (q*lf.length))) w:=by
      intro m
      induction m with
      | zero=>
       intro q w h1 h2 _
       have e1:=jv h1
       have e2:=jv h2
       simp only [List.replicate_zero,List.flatten_nil,Ng,List.length_eq_zero_iff] at e1 e2
       simp [Op.eqItems,e1,e2,wx]
      | succ m ihm=>
       intro q w h1 h2 h3
       rw [List.replicate_succ,N0] at h1 h2
       obtain ⟨f1,g1⟩:=kN h1
       obtain ⟨f2,g2⟩:=kN h2
       obtain ⟨f3,g3⟩:=yE lf.length h3
       have L1:=jv h1
       have L2:=jv h2
       have M1:=jv f1
       have M2:=jv f2
       have hp:=htI.2.2
       simp only [List.length_drop,Nd,Nw] at L1 L2 M1 M2
       have p1:=yW (P:=P) htI.1 htI.2.1 vx (q*lf.length) (by omega) w
       have p2:=yW (P:=P) htI.1 htI.2.1 vy (q*lf.length) (by omega) w
       have qq:=ih d el lf hlf (by omega) _ _ w f1 f2 f3
       rw [List.drop_drop,<-Nat.succ_mul] at g1 g2
       rw [List.drop_drop,List.drop_drop,<-Nat.succ_mul] at g3
       have rest:=ihm (q+1) w g1 g2 g3
       rw [oP lf.length (by simp only [List.length_drop];omega)]
       simp only [List.range'_succ,Op.eqItems,Sem.run_bind,p1,p2,Result.andThen_ok,qq,Sem.run_ite,rest,Sem.run_pure,List.drop_drop,Nat.succ_mul]
       cases wx ((vx.drop (q*lf.length)).take lf.length) ((vy.drop (q*lf.length)).take lf.length)<;>simp []
     have:=key n 0 w (by simpa using hx) (by simpa using hy) (by simpa using hk)
     simpa using this
    ·cases h
   ·cases h
  ·cases h
theorem Qd:∀{l:List CT} {cs:List D} {vs:List Value},fits l cs->vs.length=cs.length->(∀(j:Nat) (d:D) (u:Value),cs[j]?=some d->vs[j]?=some u->RepV K w d u)->jH l vs
 | [],[],[],_,_,_=>trivial
 | c::l,d::cs,v::vs,h,hl,hr=>by
  have h0:=hr 0 d v rfl rfl
  have ht:fits l cs->jH l vs:=fun h'=>Qd h' (Nat.succ.inj hl) (fun j d u hd hu=>hr (j+1) d u hd hu)
  cases c<;>cases d<;>simp only [fits] at h<;>first
   |exact h.elim
   |(obtain ⟨rfl,_⟩:=h0.int_inv;exact ht h)
   |(obtain rfl:=h0.bool_inv;exact ht h)
   |(obtain ⟨rfl,_⟩:=h0.str_inv;exact ht h)
 | [],_::_,_,h,_,_=>by simp [fits] at h
 |c::_,[],_,h,_,_=>by cases c<;>simp [fits] at h
 | [],[],_::_,_,hl,_=>by simp at hl
 |_::_,_::_,[],_,hl,_=>by simp at hl
theorem zA:∀{l:List CT} {xs ys:List D} {us vs:List Value},fits l xs->fits l ys->sameK xs ys->us.length=xs.length->vs.length=ys.length->
  (∀(j:Nat) (d:D) (u:Value),xs[j]?=some d->us[j]?=some u->RepV K w d u)->(∀(j:Nat) (d:D) (u:Value),ys[j]?=some d->vs[j]?=some u->RepV K w d u)->
  wx us vs=eqCells xs ys∧kV us vs
 | [],[],[],[],[],_,_,_,_,_,_,_=>⟨rfl,trivial⟩
 | c::l,x::xs,y::ys,u::us,v::vs,h1,h2,hk,hl1,hl2,hr1,hr2=>by
  have x0:=hr1 0 x u rfl rfl
  have y0:=hr2 0 y v rfl rfl
  have ht:fits l xs->fits l ys->sameK xs ys->wx us vs=eqCells xs ys∧kV us vs:=fun a b c=>zA a b c (Nat.succ.inj hl1) (Nat.succ.inj hl2) (fun j d u hd hu=>hr1 (j+1) d u hd hu) (fun j d u hd hu=>hr2 (j+1) d u hd hu)
  cases c<;>cases x<;>simp only [fits] at h1<;>first|exact h1.elim|skip
  all_goals cases y<;>simp only [fits] at h2<;>first|exact h2.elim|skip
  ·obtain ⟨rfl,_⟩:=x0.int_inv
   obtain ⟨rfl,_⟩:=y0.int_inv
   simp only [sameK] at hk
   obtain ⟨e,s⟩:=ht h1 h2 hk.2
   exact ⟨by simp [wx,dp,eqCells,cellEq,hk.1,e,uh],⟨hk.1,s⟩⟩
  ·obtain rfl:=x0.bool_inv
   obtain rfl:=y0.bool_inv
   simp only [sameK] at hk
   obtain ⟨e,s⟩:=ht h1 h2 hk
   exact ⟨by simp [wx,dp,eqCells,cellEq,e],s⟩
  ·obtain ⟨rfl,_⟩:=x0.str_inv
   obtain ⟨rfl,_⟩:=y0.str_inv
   simp only [sameK] at hk
   obtain ⟨e,s⟩:=ht h1 h2 hk
   exact ⟨by simp only [wx,dp,eqCells,cellEq,wG,e,uh],s⟩
 | [],_::_,_,_,_,h,_,_,_,_,_,_=>by simp [fits] at h
 | [],[],_::_,_,_,_,h,_,_,_,_,_=>by simp [fits] at h
 |c::_,[],_,_,_,h,_,_,_,_,_,_=>by cases c<;>simp [fits] at h
 |c::_,_::_,[],_,_,_,h,_,_,_,_,_=>by cases c<;>simp [fits] at h
 | [],[],[],_::_,_,_,_,_,h,_,_,_=>by simp at h
 | [],[],[],[],_::_,_,_,_,_,h,_,_=>by simp at h
 |_::_,_::_,_::_,[],_,_,_,_,h,_,_,_=>by simp at h
 |_::_,_::_,_::_,_::_,[],_,_,_,_,h,_,_=>by simp at h
theorem mC {tx ty:TypeId} (ho:o.op= .binOp op tx x y ty) (h:qY P ρ H (.binOp op tx x y ty) k) (hcur:Cur o H ρ):∃d,k d∧Yields P o H ρ d:=by
 simp only [qY] at h
 have hmx:x∈o.op.operands.toList:=by simp [ho,Op.operands]
 have hmy:y∈o.op.operands.toList:=by simp [ho,Op.operands]
 have mk:∀d:D,(∀(K:Nat->BK) (w:World) (u v:Value),RepV K w (ρ x) u->RepV K w (ρ y) v->∃r,(do eqGuard op tx x y u v;binOp op tx u v:Sem Value).run P w= .ok r w∧RepV K w d r)->Yields P o H ρ d:=by
  intro d hd
  refine qu fun K w σ hk hh hr=>?_
  obtain ⟨r,h1,h2⟩:=hd K w (σ x) (σ y) (hr x hmx) (hr y hmy)
  refine ⟨r,?_,h2⟩
  simp only [execOp,ho]
  rw [Sem.run_bind,h1]
  rfl
 split at h
 ·rename_i a b hx hy
  obtain ⟨hbt,h⟩:=h
  have hub:P.underlying tx=some .bool:=by
   unfold gX at hbt
   split at hbt
   ·assumption
   ·simp at hbt
  have bools:∀d:D,(∀(K:Nat->BK) (w:World),∃r,(do eqGuard op tx x y (.bool a) (.bool b);binOp op tx (.bool a) (.bool b):Sem Value).run P w= .ok r w∧RepV K w d r)->Yields P o H ρ d:=by
   intro d hd
   refine mk d fun K w u v hu hv=>?_
   rw [hx] at hu;rw [hy] at hv
   rw [hu.bool_inv,hv.bool_inv]
   exact hd K w
  simp only [w8] at h
  cases op<;>simp only at h
  case eql=>exact ⟨_,h,bools _ fun K w=>⟨.bool (a==b),by simp [eqGuard_at_bool,run_eql_bool _ _ _ _ hub],.bool _⟩⟩
  case neq=>exact ⟨_,h,bools _ fun K w=>⟨.bool (!(a==b)),by simp [eqGuard_at_bool,run_neq_bool _ _ _ _ hub],.bool _⟩⟩
  all_goals exact h.elim
 ·rename_i xs ys hx hy
  split at h
  ·rename_i l hl
   obtain ⟨fx,fy,hsk,h⟩:=h
   have hl':P.eqGuardType P.depth tx=false∧j8 P tx=true∧yD P 8 tx=some l:=by
    unfold rg at hl
    split at hl
    ·rename_i hc;exact ⟨hc.1,hc.2,hl⟩
    ·cases hl
   have run:∀(K:Nat->BK) (w:World) (u v:Value),RepV K w (ρ x) u->RepV K w (ρ y) v->(∃us vs:Array Value,u= .agg us∧v= .agg vs∧(Op.equalIn 10000 tx (.agg us) (.agg vs)).run P w= .ok (eqCells xs ys) w):=by
    intro K w u v hu hv
    rw [hx] at hu;rw [hy] at hv
    obtain ⟨us,rfl,l1,_,r1⟩:=hu.agg_inv
    obtain ⟨vs,rfl,l2,_,r2⟩:=hv.agg_inv
    refine ⟨us,vs,rfl,rfl,?_⟩
    have v1:=Qd (K:=K) (w:=w) (vs:=us.toList) fx (by simpa using l1) (fun j d u hd hu=>r1 j d u hd (by simpa using hu))
    have v2:=Qd (K:=K) (w:=w) (vs:=vs.toList) fy (by simpa using l2) (fun j d u hd hu=>r2 j d u hd (by simpa using hu))
    obtain ⟨e,sk⟩:=zA (K:=K) (w:=w) (us:=us.toList) (vs:=vs.toList) fx fy hsk (by simpa using l1) (by simpa using l2) (fun j d u hd hu=>r1 j d u hd (by simpa using hu)) (fun j d u hd hu=>r2 j d u hd (by simpa using hu))
    have:=uM (P:=P) 8 10000 tx l hl'.2.2 (by omega) us.toList vs.toList w v1 v2 sk
    simpa [Jw,hl'.2.1,e] using this
   split at h
   ·refine ⟨_,h,mk _ fun K w u v hu hv=>?_⟩
    obtain ⟨us,vs,rfl,rfl,hr⟩:=run K w u v hu hv
    exact ⟨.bool (eqCells xs ys),by simp [run_eqGuard_agg _ _ _ _ _ _ _ hl'.1,run_eql_struct,hr],.bool _⟩
   ·refine ⟨_,h,mk _ fun K w u v hu hv=>?_⟩
    obtain ⟨us,vs,rfl,rfl,hr⟩:=run K w u v hu hv
    exact ⟨.bool (!eqCells xs ys),by simp [run_eqGuard_agg _ _ _ _ _ _ _ hl'.1,run_neq_struct,hr],.bool _⟩
   ·exact h.elim
  ·exact h.elim
 rename_i hnb hna
 unfold w8 at h
 split at h
 ·rename_i ka a kb b hx hy
  have ints:∀d:D,(∀(K:Nat->BK) (w:World),wP ka a->wP kb b->∃r,(do eqGuard op tx x y (.int ka a) (.int kb b);binOp op tx (.int ka a) (.int kb b):Sem Value).run P w= .ok r w∧RepV K w d r)->Yields P o H ρ d:=by
   intro d hd
   refine mk d fun K w u v hu hv=>?_
   rw [hx] at hu;rw [hy] at hv
   obtain ⟨rfl,r1⟩:=hu.int_inv
   obtain ⟨rfl,r2⟩:=hv.int_inv
   exact hd K w r1 r2
  cases op<;>simp only at h
  case shl=>
   obtain ⟨h0,hk⟩:=h
   exact ⟨_,hk,ints _ fun K w r1 r2=>⟨_,by simp [eqGuard,binOp,UG _ _ _ _ _ h0],.int _ _ (KY _ _)⟩⟩
  case shr=>
   obtain ⟨h0,hk⟩:=h
   exact ⟨_,hk,ints _ fun K w r1 r2=>⟨_,by simp [eqGuard,binOp,UG _ _ _ _ _ h0],.int _ _ (lX _ r1)⟩⟩
  case quo=>
   obtain ⟨rfl,h0,hk⟩:=h
   exact ⟨_,hk,ints _ fun K w r1 r2=>⟨_,by simp [eqGuard,binOp,Op.intDiv,h0],.int _ _ (KY _ _)⟩⟩
  case rem=>
   obtain ⟨rfl,h0,hk⟩:=h
   exact ⟨_,hk,ints _ fun K w r1 r2=>⟨_,by simp [eqGuard,binOp,Op.intDiv,h0],.int _ _ (p6 r1 r2)⟩⟩
  case add=>obtain ⟨rfl,hk⟩:=h;exact ⟨_,hk,ints _ fun K w r1 r2=>⟨.int ka (ka.wrap (a+b)),by simp [eqGuard,binOp,Op.intArith],.int _ _ (KY _ _)⟩⟩
  case sub=>obtain ⟨rfl,hk⟩:=h;exact ⟨_,hk,ints _ fun K w r1 r2=>⟨.int ka (ka.wrap (a - b)),by simp [eqGuard,binOp,Op.intArith],.int _ _ (KY _ _)⟩⟩
  case mul=>obtain ⟨rfl,hk⟩:=h;exact ⟨_,hk,ints _ fun K w r1 r2=>⟨.int ka (ka.wrap (a*b)),by simp [eqGuard,binOp,Op.intArith],.int _ _ (KY _ _)⟩⟩
  case and=>obtain ⟨rfl,hk⟩:=h;exact ⟨_,hk,ints _ fun K w r1 r2=>⟨.int ka (bits .and ka a b),by simp [eqGuard,binOp,intBits_and],.int _ _ (wf_bits _ _ _ _)⟩⟩
  case or=>obtain ⟨rfl,hk⟩:=h;exact ⟨_,hk,ints _ fun K w r1 r2=>⟨.int ka (bits .or ka a b),by simp [eqGuard,binOp,intBits_or],.int _ _ (wf_bits _ _ _ _)⟩⟩
  case xor=>obtain ⟨rfl,hk⟩:=h;exact ⟨_,hk,ints _ fun K w r1 r2=>⟨.int ka (bits .xor ka a b),by simp [eqGuard,binOp,intBits_xor],.int _ _ (wf_bits _ _ _ _)⟩⟩
  case andNot=>obtain ⟨rfl,hk⟩:=h;exact ⟨_,hk,ints _ fun K w r1 r2=>⟨.int ka (bits .andNot ka a b),by simp [eqGuard,binOp,intBits_andNot],.int _ _ (wf_bits _ _ _ _)⟩⟩
  case eql=>obtain ⟨rfl,hk⟩:=h;exact ⟨_,hk,ints _ fun K w r1 r2=>⟨.bool (decide (a=b)),by simp [eqGuard,binOp,Op.intCmp,uh],.bool _⟩⟩
  case neq=>obtain ⟨rfl,hk⟩:=h;exact ⟨_,hk,ints _ fun K w r1 r2=>⟨.bool (!decide (a=b)),by simp [eqGuard,binOp,Op.intCmp,uh,bne],.bool _⟩⟩
  case lss=>obtain ⟨rfl,hk⟩:=h;exact ⟨_,hk,ints _ fun K w r1 r2=>⟨.bool (decide (a<b)),by simp [eqGuard,binOp,Op.intCmp],.bool _⟩⟩
  case leq=>obtain ⟨rfl,hk⟩:=h;exact ⟨_,hk,ints _ fun K w r1 r2=>⟨.bool (decide (a<=b)),by simp [eqGuard,binOp,Op.intCmp],.bool _⟩⟩
  case gtr=>obtain ⟨rfl,hk⟩:=h;exact ⟨_,hk,ints _ fun K w r1 r2=>⟨.bool (decide (b<a)),by simp [eqGuard,binOp,Op.intCmp],.bool _⟩⟩
  case geq=>obtain ⟨rfl,hk⟩:=h;exact ⟨_,hk,ints _ fun K w r1 r2=>⟨.bool (decide (b<=a)),by simp [eqGuard,binOp,Op.intCmp],.bool _⟩⟩
 ·rename_i a b hx hy
  have strs:∀d:D,(∀(K:Nat->BK) (w:World),∃r,(do eqGuard op tx x y (.string ⟨⟨a⟩⟩) (.string ⟨⟨b⟩⟩);binOp op tx (.string ⟨⟨a⟩⟩) (.string ⟨⟨b⟩⟩):Sem Value).run P w= .ok r w∧RepV K w d r)->Yields P o H ρ d:=by
   intro d hd
   refine mk d fun K w u v hu hv=>?_
   rw [hx] at hu;rw [hy] at hv
   obtain ⟨rfl,r1⟩:=hu.str_inv
   obtain ⟨rfl,r2⟩:=hv.str_inv
   exact hd K w
  cases op<;>simp only at h
  case add=>
   obtain ⟨hb,hk⟩:=h
   refine ⟨_,hk,strs _ fun K w=>⟨.string ⟨⟨a++b⟩⟩,?_,.str _ (by simpa using hb)⟩⟩
   have hs:¬((9223372036854775807:Int)<(a.length:Int)+(b.length:Int)):=by unfold big at hb;omega
   have hsz:∀l:List UInt8,(⟨⟨l⟩⟩:ByteArray).size=l.length:=fun l=>rfl
   simp only [eqGuard_at_string,binOp,Sem.run_bind,Sem.run_pure,Result.andThen_ok,Op.stringOp,hsz]
   simp [hs]
   rfl
  case eql=>exact ⟨_,h,strs _ fun K w=>⟨.bool (decide (a=b)),by simp only [eqGuard_at_string,binOp,Sem.run_bind,Sem.run_pure,Result.andThen_ok,Op.stringOp,wG,uh],.bool _⟩⟩
  case neq=>exact ⟨_,h,strs _ fun K w=>⟨.bool (!decide (a=b)),by simp only [eqGuard_at_string,binOp,Sem.run_bind,Sem.run_pure,Result.andThen_ok,Op.stringOp,wG,uh],.bool _⟩⟩
  case lss=>exact ⟨_,h,strs _ fun K w=>⟨.bool (Op.bytesLess a b),by simp only [eqGuard_at_string,binOp,Sem.run_bind,Sem.run_pure,Result.andThen_ok,Op.stringOp,wG],.bool _⟩⟩
  case leq=>exact ⟨_,h,strs _ fun K w=>⟨.bool (Op.bytesLess a b||decide (a=b)),by simp only [eqGuard_at_string,binOp,Sem.run_bind,Sem.run_pure,Result.andThen_ok,Op.stringOp,wG,uh],.bool _⟩⟩
  case gtr=>exact ⟨_,h,strs _ fun K w=>⟨.bool (!(Op.bytesLess a b||decide (a=b))),by simp only [eqGuard_at_string,binOp,Sem.run_bind,Sem.run_pure,Result.andThen_ok,Op.stringOp,wG,uh],.bool _⟩⟩
  case geq=>exact ⟨_,h,strs _ fun K w=>⟨.bool (!Op.bytesLess a b),by simp only [eqGuard_at_string,binOp,Sem.run_bind,Sem.run_pure,Result.andThen_ok,Op.stringOp,wG],.bool _⟩⟩
  all_goals exact h.elim
 ·rename_i a b hx hy
  exact (hnb a b hx hy).elim
 ·exact h.elim
end
end Go.Aw
end
section
namespace Go.Aw
open Go Go.RowKit
section
variable {P:Program} {o:Oper} {H:AH} {ρ:Operand->D} {k:D->Prop}
theorem tT {t:TypeId} (ho:o.op= .unOp op t x) (h:qY P ρ H (.unOp op t x) k) (hcur:Cur o H ρ):∃d,k d∧Yields P o H ρ d:=by
 simp only [qY] at h
 have hmx:x∈o.op.operands.toList:=by simp [ho,Op.operands]
 split at h
 ·rename_i b hx
  refine ⟨_,h,qu fun K w σ hk hh hr=>⟨.bool (!b),?_,.bool _⟩⟩
  have:=(hx▸hr x hmx).bool_inv
  simp [execOp,ho,this,Op.unary]
 ·rename_i kd n hx
  refine ⟨_,h,qu fun K w σ hk hh hr=>⟨.int kd (kd.wrap (0 - n)),?_,.int _ _ (KY _ _)⟩⟩
  have:=(hx▸hr x hmx).int_inv.1
  simp [execOp,ho,this,Op.unary,Op.intArith]
 ·rename_i kd n hx
  refine ⟨_,h,qu fun K w σ hk hh hr=>⟨.int kd (bits .xor kd (if kd.signed then -1 else kd.max) n),?_,.int _ _ (wf_bits _ _ _ _)⟩⟩
  have:=(hx▸hr x hmx).int_inv.1
  simp [execOp,ho,this,Op.unary,intBits_xor]
 ·exact h.elim
theorem vo {t:TypeId} (h:ky P t=true):P.underlying t=some .string:=by
 grind [ky]
theorem J0 {t:TypeId} (h:yM P t=true):∃e,P.underlying t=some (.slice e)∧P.underlying e=some (.int .u8):=by
 grind [yM]
theorem Z8 {s t:TypeId} (ho:o.op= .convert s t x) (h:qY P ρ H (.convert s t x) k) (hcur:Cur o H ρ):∃d,k d∧Yields P o H ρ d:=by
 simp only [qY] at h
 have hmx:x∈o.op.operands.toList:=by simp [ho,Op.operands]
 obtain ⟨K0,w0,σ0,hk0,hh0,hr0⟩:=hcur
 split at h
 ·rename_i k0 n hx
  split at h
  ·rename_i kd hkd
   obtain ⟨hs,h⟩:=h
   refine ⟨_,h,qu fun K w σ hk hh hr=>⟨.int kd (kd.wrap n),?_,.int _ _ (KY _ _)⟩⟩
   have:=(hx▸hr x hmx).int_inv.1
   have hu:P.underlying t=some (.int kd):=by
    grind [YX]
   have hi:P.intKind t=kd:=by simp [Program.intKind,hu]
   have hc:=run_convert_int (P:=P) w s t k0 n hs (by rw [hi];exact hu)
   rw [hi] at hc
   simp only [execOp,ho,this,Sem.run_bind,hc,Result.andThen_ok]
   rfl
  ·exact h.elim
 ·rename_i l hx
  split at h
  ·rename_i ht
   obtain ⟨hs,h⟩:=h
   refine ⟨_,h,qu fun K w σ hk hh hr=>?_⟩
   obtain ⟨he,hb⟩:=(hx▸hr x hmx).str_inv
   refine ⟨.string ⟨⟨l⟩⟩,?_,.str _ hb⟩
   simp only [execOp,ho,he,Sem.run_bind]
   simp [convert,run_underlying (vo hs),run_underlying (vo ht)]
  ·obtain ⟨hs,ht,h⟩:=h
   obtain ⟨e,hu,hue⟩:=J0 ht
   refine ⟨_,h (hx▸hr0 x hmx).fact,?_⟩
   intro K w σ i hk hh hr
   obtain ⟨he,hb⟩:=(hx▸hr x hmx).str_inv
   have hrun:=run_bytes_of_string (P:=P) w s t e ⟨⟨l⟩⟩ (vo hs) hu hue
   have hsz:(⟨⟨l⟩⟩:ByteArray).size=l.length:=rfl
   rw [hsz] at hrun
   have hge:=grownCap_ge w l.length 0 e
   have hle:=grownCap_le_maxLen w l.length 0 e (by unfold big maxLen at*;omega)
   generalize hcap:grownCap w l.length 0 e=cap at hrun hge hle
   obtain ⟨hp,hk'⟩:=KD (K:=K) (w:=w.drew) hk (.cells (bytesRow ⟨⟨l⟩⟩ cap) e ((bytesRow ⟨⟨l⟩⟩ cap).size,(bytesRow ⟨⟨l⟩⟩ cap).size+1))
   refine ⟨.slice (some ⟨w.heap.size,0,none⟩) l.length cap,K,_,?_,⟨hp.os,hp.tape,⟨hp.output.1,Np (Nat.le_succ _) hp.output.2⟩,hp.size,hp.old,hp.new⟩,hk',?_⟩
   ·simp only [execOp,ho,he,Sem.run_bind,hrun,Result.andThen_ok]
    rfl
   ·have hheap:(w.drew.alloc (.cells (bytesRow ⟨⟨l⟩⟩ cap) e ((bytesRow ⟨⟨l⟩⟩ cap).size,(bytesRow ⟨⟨l⟩⟩ cap).size+1))).heap[w.heap.size]?=some (.cells (bytesRow ⟨⟨l⟩⟩ cap) e ((bytesRow ⟨⟨l⟩⟩ cap).size,(bytesRow ⟨⟨l⟩⟩ cap).size+1)):=by
     show (w.heap.push _)[w.heap.size]?=_
     simp
    have hcell:∀(j:Nat) (c:UInt8),l[j]?=some c->(bytesRow ⟨⟨l⟩⟩ cap)[j]?=some (.int .u8 c.toNat):=by
     intro j c hj
     have hlt:=(List.getElem?_eq_some_iff.1 hj).1
     unfold bytesRow
     rw [Array.getElem?_append_left (by simpa using hlt)]
     simp [hj]
    have hbyte:∀(i:Nat) (x:List D),(l.map ql)[i]?=some x->∃c,l[i]?=some c∧x=ql c:=fun i x hi=>by
     rw [Nb,Nk] at hi
     obtain ⟨c,h1,h2⟩:=hi
     exact ⟨c,h1,h2.symm⟩
    have hlen:(l.map ql).length=l.length:=by simp
    have:=RepV.slc (K:=K) (w:=w.drew.alloc (.cells (bytesRow ⟨⟨l⟩⟩ cap) e ((bytesRow ⟨⟨l⟩⟩ cap).size,(bytesRow ⟨⟨l⟩⟩ cap).size+1))) (l.map ql) w.heap.size 0 cap 1 (fun i _=>.int .u8 ((l[i]?).getD 0).toNat) (by rw [hlen];exact hb) (by rw [hlen];exact hge) hle
     (fun i x hi=>by obtain ⟨c,_,rfl⟩:=hbyte i x hi;rfl)
     ⟨by simp,by rw [hk w.heap.size (Nr _)];trivial⟩
     (fun i x hi j d hj=>by
      obtain ⟨c,h1,rfl⟩:=hbyte i x hi
      cases j with
      |zero=>rw [jU hheap,Nt,Nat.mul_one,Nat.add_zero,hcell i c h1,h1];rfl
      |succ j=>simp [ql] at hj)
     (fun _ _ _ _ _ _=>rfl)
     (fun i x hi j d hj=>by
      obtain ⟨c,h1,rfl⟩:=hbyte i x hi
      cases j with
      | zero=>
       simp only [ql,Nj,Option.some.injEq] at hj
       subst hj
       rw [h1]
       refine .int _ _ ?_
       have:=c.toNat_lt
       simp [wP,Lit.wf,IntKind.min,IntKind.max,IntKind.signed,IntKind.bits]
       omega
      |succ j=>simp [ql] at hj)
    rw [hlen] at this
    exact this.viewO
 ·rename_i xs hx
  obtain ⟨hs,ht,hb,h⟩:=h
  obtain ⟨e,hu,hue⟩:=J0 hs
  refine ⟨_,h (hx▸hr0 x hmx).fact,qu fun K w σ hk hh hr=>?_⟩
  have hrx:=hx▸hr x hmx
  refine ⟨.string ⟨⟨xs.map unbyte⟩⟩,?_,.str _ (by simpa using hrx.slc_big)⟩
  rcases hrx.slc_inv with ⟨rfl,a,he⟩|⟨b,off,cap,sz,f,he,hc,hm,hsz,hv,hcell,hone,hrep⟩
  ·simp only [execOp,ho,he,Sem.run_bind]
   rw [run_convert_bytes_string w s t e a 0 0 hu hue (vo ht)]
   cases a with
   |none=>simp [Conv.bytesToString];rfl
   |some a=>simp [Conv.bytesToString,loadCells,loadCellsFrom];rfl
  ·simp only [execOp,ho,he,Sem.run_bind]
   have hx1:∀(i:Nat) (x:List D),xs[i]?=some x->∃n:Int,x= [.int .u8 n]∧0<=n∧n<=255:=fun i x hi=>by
    have:=hb x (Nl hi)
    unfold yQ at this
    grind
   have hrow:=run_convert_bytes_back (P:=P) w s t e ⟨b,off,none⟩ cap (xs.map unbyte) hu hue (vo ht) (fun j hj=>by
    have hj':j<xs.length:=by simpa using hj
    have hxj:=Na hj'
    obtain ⟨n,hn,h0,h255⟩:=hx1 j _ hxj
    have hs1:sz=1:=by have:=hsz j _ hxj;rw [hn] at this;simpa using this.symm
    subst hs1
    have h0':xs[j][0]?=some (.int .u8 n):=by rw [hn];rfl
    have hc0:=hcell j _ hxj 0 _ h0'
    have hr0:=(hrep j _ hxj 0 _ h0').int_inv.1
    rw [Addr.add_lit]
    have e1:off+j=off+(j*1+0):=by omega
    rw [e1,hc0,hr0]
    simp only [List.getElem_map,hn,unbyte]
    congr 2
    have:(UInt8.ofNat n.toNat).toNat=n.toNat:=by
     rw [UInt8.toNat_ofNat']
     omega
    rw [this]
    omega)
   simp only [Nh] at hrow
   rw [hrow]
   rfl
 ·rename_i b off n hx
  split at h
  ·rename_i cs hg
   obtain ⟨hs,ht,hle,hb,h⟩:=h
   obtain ⟨e,hu,hue⟩:=J0 hs
   have hlen:(((cs.drop off).take n).map fun d=>unbyte [d]).length=n:=by simp;omega
   have hn:n<=big:=by obtain ⟨cap,_,_,_,_,hq⟩:=(hx▸hr0 x hmx).hso_inv;exact hq
   refine ⟨_,h (by show _<=big;rw [hlen];exact hn),qu fun K w σ hk hh hr=>?_⟩
   obtain ⟨cap,he,hp,hc,hm,hbig⟩:=(hx▸hr x hmx).hso_inv
   obtain ⟨_,c,T,hbk,hcs,hcell⟩:=hh.ok b _ (qW hg)
   refine ⟨.string ⟨⟨((cs.drop off).take n).map fun d=>unbyte [d]⟩⟩,?_,.str _ (by rw [hlen];exact hbig)⟩
   simp only [execOp,ho,he,Sem.run_bind]
   have hrow:=run_convert_bytes_back (P:=P) w s t e ⟨b,off,none⟩ cap (((cs.drop off).take n).map fun d=>unbyte [d]) hu hue (vo ht) (fun j hj=>by
    have hj2:=hj
    rw [hlen] at hj2
    have hlt:off+j<cs.length:=by omega
    have hget:((cs.drop off).take n)[j]?=some cs[off+j]:=by
     grind
    obtain ⟨u,e1,e2,e3⟩:=hcell (off+j) _ (Na hlt)
    have hby:=hb _ (Nl hget)
    have hmap:(((cs.drop off).take n).map fun d=>unbyte [d])[j]?=some (unbyte [cs[off+j]]):=by rw [Nb,hget];rfl
    rw [Addr.add_lit,jU hbk,e1,(List.getElem?_eq_some_iff.1 hmap).2]
    generalize cs[off+j]=d at hby e3
    unfold yQ at hby
    split at hby
    ·rename_i m hm'
     injection hm' with hm' _
     subst hm'
     have e4:RepV K w (.int .u8 m) u:=e3
     rw [e4.int_inv.1]
     simp only [unbyte]
     congr 2
     have:(UInt8.ofNat m.toNat).toNat=m.toNat:=by
      rw [UInt8.toNat_ofNat']
      omega
     grind
    ·exact hby.elim)
   rw [hlen] at hrow
   rw [hrow]
   rfl
  ·exact h.elim
 ·exact h.elim
theorem V2 (ho:o.op= .makeFunc (.func f) first caps) (h:qY P ρ H (.makeFunc (.func f) first caps) k) (hcur:Cur o H ρ):∃d,k d∧Yields P o H ρ d:=by
 simp only [qY] at h
 split at h
 ·rename_i hfirst
  obtain rfl:first=#[]:=by apply Array.ext';simpa using hfirst
  obtain ⟨hb,h⟩:=h
  refine ⟨_,h,qu fun K w σ hk hh hr=>⟨.func (.func f) #[] (caps.map σ),?_,.fn f _ _ hb (by simp) (fun j d u hd hu=>?_)⟩⟩
  ·simp [execOp,ho,Instr.makeFunc]
  ·simp only [Nb,Array.getElem?_toList,Array.getElem?_map,Nk] at hd hu
   obtain ⟨x,h1,rfl⟩:=hd
   obtain ⟨y,h2,rfl⟩:=hu
   rw [h1] at h2
   obtain rfl:=Option.some.inj h2
   exact hr x (by simp [ho,Op.operands];exact Array.mem_of_getElem? h1)
 ·rename_i x0 l0 hfirst
  obtain ⟨rfl,h⟩:=h
  rw [<-hfirst] at h
  refine ⟨_,h,qu fun K w σ hk hh hr=>⟨.func (.func f) (first.map σ) #[],?_,.bnd f _ _ (by simp) (fun j d u hd hu=>?_)⟩⟩
  ·simp [execOp,ho,Instr.makeFunc]
  ·simp only [Nb,Array.getElem?_toList,Array.getElem?_map,Nk] at hd hu
   obtain ⟨x,h1,rfl⟩:=hd
   obtain ⟨y,h2,rfl⟩:=hu
   rw [h1] at h2
   obtain rfl:=Option.some.inj h2
   exact hr x (by simp [ho,Op.operands];exact Array.mem_of_getElem? h1)
theorem YF {t:TypeId} (ho:o.op= .fieldAddr t x f) (h:qY P ρ H (.fieldAddr t x f) k) (hcur:Cur o H ρ):∃d,k d∧Yields P o H ρ d:=by
 simp only [qY] at h
 have hmx:x∈o.op.operands.toList:=by simp [ho,Op.operands]
 have run:∀(off n:Nat) (bb:Bool) (b ob:Nat) (w:World),ke P t f=some (off,bb,n)->(Instr.fieldAt t (.pointer (some ⟨b,ob,none⟩)) f).run P w= .ok (.pointer (some ⟨b,ob+off,none⟩)) w:=by
  intro off n bb b ob w hf
  obtain ⟨fs,fl,hu,hfl,hof,hty,hn⟩:=zw hf
  have h2:=(wW hty).2 w
  have hn0:n≠0:=by omega
  simp only [Instr.fieldAt,Sem.run_bind,run_underlying hu,Result.andThen_ok,hfl,Instr.sureAddr,Sem.run_pure,fieldPlace,h2,Sem.run_ite,if_neg hn0,Addr.add_lit,hof]
 split at h
 ·rename_i off bb n b ob hf hx
  refine ⟨_,h,qu fun K w σ hk hh hr=>⟨.pointer (some ⟨b,ob+off,none⟩),?_,.ptr _ _⟩⟩
  simp only [execOp,ho,(hx▸hr x hmx).ptr_inv,Sem.run_bind,run _ _ _ _ _ w hf,Result.andThen_ok]
  rfl
 ·rename_i off bb n cs hf hx
  obtain ⟨hle,h⟩:=h
  refine ⟨_,h,qu fun K w σ hk hh hr=>?_⟩
  obtain ⟨b,ob,g,he,hv,hcell,hone,hrep⟩:=(hx▸hr x hmx).eptr_inv
  have hd:∀(j:Nat) (d:D),(cs.drop off)[j]?=some d->cs[off+j]?=some d:=fun j d hj=>by rwa [List.getElem?_drop] at hj
  refine ⟨.pointer (some ⟨b,ob+off,none⟩),?_,.eptr _ b (ob+off) (fun j=>g (off+j)) ?_ (fun j d hj=>?_) (fun j d hj=>hone _ d (hd j d hj)) (fun j d hj=>hrep _ d (hd j d hj))⟩
  ·simp only [execOp,ho,he,Sem.run_bind,run _ _ _ _ _ w hf,Result.andThen_ok]
   rfl
  ·obtain ⟨v1,v2⟩:=hv
   refine ⟨v1,?_⟩
   rw [List.length_drop]
   cases hK:K b<;>rw [hK] at v2<;>first|trivial|(show cs.length - off=0;have:cs.length=0:=v2;omega)|(show cs.length - off=0∨ob+off+(cs.length - off)<=_;have:cs.length=0∨ob+cs.length<=_:=v2;omega)
  all_goals grind
 ·exact h.elim
theorem bC {t:TypeId} (ho:o.op= .field t x f) (h:qY P ρ H (.field t x f) k) (hcur:Cur o H ρ):∃d,k d∧Yields P o H ρ d:=by
 simp only [qY] at h
 have hmx:x∈o.op.operands.toList:=by simp [ho,Op.operands]
 obtain ⟨K0,w0,σ0,hk0,hh0,hr0⟩:=hcur
 split at h
 ·rename_i off n cs hf hx
  obtain ⟨hle,h⟩:=h
  obtain ⟨fs,fl,hu,hfl,hof,hty,hn⟩:=zw hf
  obtain ⟨g1,g2⟩:=wW hty
  refine ⟨_,h,qu fun K w σ hk hh hr=>?_⟩
  obtain ⟨vs,he,hl,hone,hrep⟩:=(hx▸hr x hmx).agg_inv
  refine ⟨.agg ((vs.toList.drop off).take n).toArray,?_,wQ _ _ (by simp;omega) (fun j u hu=>?_) (fun j d u hd hu=>?_)⟩
  ·simp only [execOp,ho,he,Sem.run_bind,Instr.field,run_underlying hu,Result.andThen_ok,hfl,asAgg,Sem.run_pure,part,g1,if_true,g2,hof]
   congr 3
   apply Array.ext'
   simp [List.extract_eq_take_drop]
  all_goals grind
 ·rename_i off n cs hf hx
  split at h
  ·rename_i c hc
   obtain ⟨fs,fl,hu,hfl,hof,hty,hn⟩:=zw hf
   obtain ⟨g1,g2⟩:=wW hty
   have key:∀(K:Nat->BK) (w:World) (v:Value),RepV K w (.agg cs) v->∃vs u,v= .agg vs∧vs[off]?=some u∧RepV K w c u:=by
    intro K w v hr
    obtain ⟨vs,he,hl,hone,hrep⟩:=hr.agg_inv
    have hlt:off<vs.size:=by rw [hl];exact (List.getElem?_eq_some_iff.1 hc).1
    exact ⟨vs,vs[off],he,Nv hlt,hrep off c _ hc (Nv hlt)⟩
   obtain ⟨_,_,_,_,hf0⟩:=key K0 w0 _ (hx▸hr0 x hmx)
   refine ⟨_,h hf0.fact,qu fun K w σ hk hh hr=>?_⟩
   obtain ⟨vs,u,he,hu',hrep⟩:=key K w _ (hx▸hr x hmx)
   refine ⟨u,?_,hrep⟩
   simp only [execOp,ho,he,Sem.run_bind,Instr.field,run_underlying hu,Result.andThen_ok,hfl,asAgg,Sem.run_pure,part,g1,Bool.false_eq_true,if_false,hof,hu']
  ·exact h.elim
 ·exact h.elim
end
end Go.Aw
end
section
namespace Go.Aw
open Go Go.RowKit
theorem KJ (off:Nat):∀(l:List Value) (s:Nat) (cells:Array Value),∃r,(l.zipIdx s).foldl (fun cs p=>cs.setIfInBounds (off+p.2) p.1) cells=r∧r.size=cells.size∧
  ∀p,p<cells.size->r[p]?=if off+s<=p∧p<off+s+l.length then l[p - (off+s)]? else cells[p]?
 | [],s,cells=>⟨cells,rfl,rfl,fun p hp=>by rw [if_neg (by simp)]⟩
 | v::l,s,cells=>by
  obtain ⟨r,h1,h2,h3⟩:=KJ off l (s+1) (cells.setIfInBounds (off+s) v)
  refine ⟨r,by simpa [List.zipIdx_cons] using h1,by simpa using h2,fun p hp=>?_⟩
  rw [h3 p (by simpa using hp)]
  simp only [Nf]
  by_cases hA:off+(s+1)<=p∧p<off+(s+1)+l.length
  ·rw [if_pos hA,if_pos (by omega),show p - (off+s)=(p - (off+(s+1)))+1 by omega,Ni]
  ·rw [if_neg hA]
   by_cases hB:p=off+s
   ·subst hB
    rw [if_pos (by omega)]
    simp [hp]
   ·rw [if_neg (by omega),Array.getElem?_setIfInBounds_ne (by omega)]
theorem UP (off:Nat) (vs cells:Array Value):∃r,vs.zipIdx.foldl (fun cs (c,j)=>cs.setIfInBounds (off+j) c) cells=r∧r.size=cells.size∧
  ∀p,p<cells.size->r[p]?=if off<=p∧p<off+vs.size then vs[p - off]? else cells[p]?:=by
 obtain ⟨r,h1,h2,h3⟩:=KJ off vs.toList 0 cells
 refine ⟨r,?_,h2,fun p hp=>by simpa using h3 p hp⟩
 rw [<-h1,<-Array.foldl_toList,Array.toList_zipIdx]
theorem Yf (size n:Nat):∀(parts:List (Nat×Value)) (s:Nat) (cells:Array Value),cells.size=n*size->s+parts.length<=n->(∀(i:Nat) (p:Nat×Value),parts[i]?=some p->p.1=s+i∧p.2.cells.size=size)->
  ∃r,Instr.fill (fun i=>some (i*size,size)) cells parts=some r∧r.size=n*size∧(∀q,q<s*size->r[q]?=cells[q]?)∧∀(i:Nat) (p:Nat×Value),parts[i]?=some p->∀j,j<size->r[(s+i)*size+j]?=p.2.cells[j]?
 | [],s,cells,hc,_,_=>⟨cells,rfl,hc,fun _ _=>rfl,fun i p h=>by simp at h⟩
 | (i0,v)::parts,s,cells,hc,hl,hp=>by
  obtain ⟨e1,e2⟩:=hp 0 _ rfl
  simp only [Nat.add_zero] at e1
  dsimp only at e1 e2
  subst e1
  simp only [Nf] at hl
  have hfit:i0*size+size<=n*size:=by rw [<-Nat.succ_mul];exact Nat.mul_le_mul_right _ (by omega)
  obtain ⟨r1,f1,f2,f3⟩:=UP (i0*size) v.cells cells
  obtain ⟨r,g1,g2,g3,g4⟩:=Yf size n parts (i0+1) r1 (by omega) (by omega) (fun i p h=>by
   have:=hp (i+1) p h
   exact ⟨by omega,this.2⟩)
  refine ⟨r,?_,g2,fun q hq=>?_,fun i p h j hj=>?_⟩
  ·simp only [Instr.fill]
   rw [if_neg (by simp;omega)]
   exact (congrArg (fun c=>Instr.fill (fun i=>some (i*size,size)) c parts) f1).trans g1
  ·rw [g3 q (by rw [Nat.succ_mul];omega),f3 q (by omega),if_neg (by omega)]
  ·cases i with
   | zero=>
    simp only [Nj,Option.some.injEq] at h
    subst h
    rw [Nat.add_zero,g3 _ (by rw [Nat.succ_mul];omega),f3 _ (by omega),if_pos (by omega)]
    congr 1
    omega
   | succ i=>
    have:=g4 i p h j hj
    rwa [show i0+1+i=i0+(i+1) by omega] at this
theorem zr {t:TypeId} (place:Nat->Option (Nat×Nat))
  (hplace:∀i off b n,jT P t i=some (off,b,n)->place i=some (off,n)):
  ∀ (ps:List (Nat×D)) (vs:List (Nat×Value)) (z:List D) (cells:Array Value) (k:List D->Prop),(∀p∈ps,okc p.2=true)->vs.length=ps.length->
   (∀(i:Nat) (p:Nat×D) (q:Nat×Value),ps[i]?=some p->vs[i]?=some q->q.1=p.1∧RepV K w p.2 q.2)->
   cells.size=z.length->(∀(j:Nat) (u:Value),cells[j]?=some u->u.oneCell'=true)->(∀(j:Nat) (d:D) (u:Value),z[j]?=some d->cells[j]?=some u->RepV K w d u)->
   wS P t (ps.map fun p=>(p.1,cellsOf p.2)) z k->∃cs r,k cs∧(∀k',k' cs->wS P t (ps.map fun p=>(p.1,cellsOf p.2)) z k')∧Instr.fill place cells vs=some r∧RepV K w (.agg cs) (.agg r)
 | [],[],z,cells,k,_,_,_,hs,h1,hr,h=>⟨z,cells,h,fun _ h=>h,rfl,.agg z cells hs h1 hr⟩
 | p::ps,q::vs,z,cells,k,ho,hl,hpq,hs,h1,hr,h=>by
  obtain ⟨e1,e2⟩:=hpq 0 p q rfl rfl
  simp only [List.map_cons,wS] at h ⊢
  split at h
  ·rename_i off b n hf
   obtain ⟨hn,hle,h⟩:=h
   obtain ⟨c1,c2,c3⟩:=uA e2 (ho p (.head _))
   obtain ⟨r1,f1,f2,f3⟩:=UP off q.2.cells cells
   have hz':(z.take off++(cellsOf p.2++z.drop (off+n))).length=z.length:=by simp;omega
   have hget:∀j d,(z.take off++(cellsOf p.2++z.drop (off+n)))[j]?=some d->(off<=j∧j<off+n∧(cellsOf p.2)[j - off]?=some d)∨(¬(off<=j∧j<off+n)∧z[j]?=some d):=by
    intro j d hj
    simp only [List.getElem?_append,Nw,List.getElem?_take,List.getElem?_drop] at hj
    by_cases a1:j<off
    ·rw [if_pos (by omega),if_pos a1] at hj;exact .inr ⟨by omega,hj⟩
    ·rw [if_neg (by omega)] at hj
     by_cases a2:j<off+n
     ·rw [if_pos (by omega)] at hj
      refine .inl ⟨by omega,a2,?_⟩
      rw [<-hj];congr 1;omega
     ·rw [if_neg (by omega)] at hj
      refine .inr ⟨by omega,?_⟩
      rw [<-hj];congr 1;omega
   obtain ⟨cs,r,g1,g2,g3,g4⟩:=zr place hplace ps vs _ r1 k (fun p hp=>ho p (.tail _ hp)) (Nat.succ.inj hl) (fun i p q hp hq=>hpq (i+1) p q hp hq)
    (by rw [f2,hz',hs]) (fun j u hu=>by
     have hj:j<cells.size:=by rw [<-f2];exact (Array.getElem?_eq_some_iff.1 hu).1
     rw [f3 j hj] at hu
     split at hu
     ·exact c2 _ u hu
     ·exact h1 j u hu)
    (fun j d u hd hu=>by
     have hj:j<cells.size:=by rw [<-f2];exact (Array.getElem?_eq_some_iff.1 hu).1
     rw [f3 j hj] at hu
     rcases hget j d hd with ⟨a1,a2,a3⟩|⟨a1,a3⟩
     ·rw [if_pos (by omega)] at hu
      exact c3 _ d u a3 hu
     ·rw [if_neg (by omega)] at hu
      exact hr j d u a3 hu) h
   refine ⟨cs,r,g1,fun k' hk'=>⟨hn,hle,g2 k' hk'⟩,?_,g4⟩
   obtain ⟨i0,v⟩:=q
   simp only [Instr.fill]
   have hpl:=hplace _ _ _ _ hf
   rw [<-e1] at hpl
   simp only [] at hpl ⊢
   rw [hpl]
   simp only []
   rw [if_neg (by simp only [] at c1;simp;omega)]
   exact (congrArg (fun c=>Instr.fill place c vs) f1).trans g3
  ·exact h.elim
 | [],_::_,_,_,_,_,hl,_,_,_,_,_=>by simp at hl
 |_::_,[],_,_,_,_,hl,_,_,_,_,_=>by simp at hl
theorem gv {α β:Type} (f:α->Sem β) (g:α->β):∀(l:List α),(∀x∈l,(f x).run P w= .ok (g x) w)->(l.mapM f).run P w= .ok (l.map g) w
 | [],_=>by simp
 | x::l,h=>by
  simp only [List.mapM_cons,Sem.run_bind,h x (.head _),Result.andThen_ok,gv f g l (fun y hy=>h y (.tail _ hy)),Sem.run_pure,List.map_cons]
theorem Jt {t:TypeId} (hfo:jZ P t=true):∃place:Nat->Option (Nat×Nat),(∀i off b n,jT P t i=some (off,b,n)->place i=some (off,n))∧
  ∀(w:World) (i:TypeInfo) (zv:Value) (parts:Array (Nat×Value)) (r:Array Value),P.info? t=some i->i.zero=some zv->Instr.fill place zv.cells parts.toList=some r->(Instr.build t parts).run P w= .ok (.agg r) w:=by
 unfold jZ at hfo
 split at hfo
 ·rename_i fs hu
  have hall:∀f∈fs.toList,(P.info? f.type).isSome=true:=fun f hf=>(Array.all_eq_true'.1 hfo) f (by simpa using hf)
  let g:Field->Nat×Nat:=fun f=>(f.offset,((P.info? f.type).map (·.size)).getD 0)
  have hplaces:∀w:World,(fs.mapM fun f=>do pure (f.offset,<-sizeOf f.type):Sem _).run P w= .ok (fs.map g) w:=by
   intro w
   rw [Array.mapM_eq_mapM_toList,Sem.run_map,gv _ g fs.toList (fun f hf=>by
    obtain ⟨i,hi⟩:=Option.isSome_iff_exists.1 (hall f hf)
    simp [sizeOf,typeInfo,hi,g])]
   simp only [Result.andThen_ok]
   congr 1
   grind
  refine ⟨((fs.map g)[·]?),fun i off b n hf=>?_,fun w i zv parts r hi hzv hr=>?_⟩
  ·unfold jT at hf
   rw [hu] at hf
   simp only [] at hf
   obtain ⟨fs',x,hu',hx,hof,hty,hn⟩:=zw hf
   rw [hu] at hu'
   obtain rfl:fs=fs':=by simpa using hu'
   show (fs.map g)[i]?=_
   rw [Array.getElem?_map,hx,Option.map_some]
   unfold yr at hty
   cases h1:P.underlying x.type with
   |none=>simp [h1] at hty
   | some d=>
    grind
  ·unfold Instr.build
   simp only [Sem.run_bind,zeroValue,typeInfo,run_program,Result.andThen_ok,hi,Sem.run_pure,hzv,run_underlying hu,hplaces]
   rw [hr]
   rfl
 ·rename_i m e hu
  obtain ⟨ie,hie⟩:=Option.isSome_iff_exists.1 hfo
  refine ⟨fun i=>some (i*ie.size,ie.size),fun i off b n hf=>?_,fun w i zv parts r hi hzv hr=>?_⟩
  ·grind [jT]
  ·unfold Instr.build
   simp only [Sem.run_bind,zeroValue,typeInfo,run_program,Result.andThen_ok,hi,Sem.run_pure,hzv,run_underlying hu,sizeOf,hie]
   rw [hr]
   rfl
 ·cases hfo
section
variable {P:Program} {o:Oper} {H:AH} {ρ:Operand->D} {k:D->Prop}
theorem bh {t:TypeId} (ho:o.op= .build t ps) (h:qY P ρ H (.build t ps) k) (hcur:Cur o H ρ):∃d,k d∧Yields P o H ρ d:=by
 simp only [qY] at h
 split at h
 ·rename_i z hz
  obtain ⟨hfo,hok,h⟩:=h
  obtain ⟨i,zv,hi,hzv,z1,z2,z3,z4⟩:=ye hz
  obtain ⟨place,hplace,hbuild⟩:=Jt hfo
  ·have main:∀(K:Nat->BK) (w:World) (σ:Operand->Value),(∀x∈o.op.operands.toList,RepV K w (ρ x) (σ x))->∀k:List D->Prop,wS P t (ps.toList.map fun p=>(p.1,cellsOf (ρ p.2))) (z.map D.view1) k->
     ∃cs r,k cs∧(∀k',k' cs->wS P t (ps.toList.map fun p=>(p.1,cellsOf (ρ p.2))) (z.map D.view1) k')∧(Instr.build t (ps.map fun p=>(p.1,σ p.2))).run P w= .ok (.agg r) w∧RepV K w (.agg cs) (.agg r):=by
    intro K w σ hr k hk
    have hzr:=(GY hz hi hzv K w (fun _=>.outer)).2
    have e:=zr (P:=P) (t:=t) (K:=K) (w:=w) place hplace (ps.toList.map fun p=>(p.1,ρ p.2)) (ps.toList.map fun p=>(p.1,σ p.2)) (z.map D.view1) zv.cells k
     (fun p hp=>by
      rw [Ny] at hp
      obtain ⟨q,hq,rfl⟩:=hp
      exact hok q hq) (by simp)
     (fun i p q hp hq=>by
      simp only [Nb,Nk] at hp hq
      obtain ⟨a,ha,rfl⟩:=hp
      obtain ⟨b,hb,rfl⟩:=hq
      rw [ha] at hb
      obtain rfl:=Option.some.inj hb
      exact ⟨rfl,hr a.2 (by simp only [ho,Op.operands];simp only [Ny];exact ⟨a,Nl ha,rfl⟩)⟩)
     (by rw [z1];simp) (fun j u hu=>(z3 j u hu).1)
     (fun j d u hd hu=>by
      rw [Nb,Nk] at hd
      obtain ⟨d',hd',rfl⟩:=hd
      obtain ⟨u',e1,e2,e3⟩:=hzr j d' hd'
      rw [hu] at e1
      obtain rfl:=Option.some.inj e1
      exact e3.rep)
     (by rw [Nz];exact hk)
    obtain ⟨cs,r,g1,g2,g3,g4⟩:=e
    refine ⟨cs,r,g1,fun k' hk'=>by have:=g2 k' hk';rw [Nz] at this;exact this,?_,g4⟩
    refine hbuild w i zv _ r hi hzv ?_
    have:(ps.map fun p=>(p.1,σ p.2)).toList=ps.toList.map fun p=>(p.1,σ p.2):=by simp
    rw [this,g3]
   obtain ⟨K0,w0,σ0,hk0,hh0,hr0⟩:=hcur
   obtain ⟨cs,r,g1,g2,_,_⟩:=main K0 w0 σ0 hr0 _ h
   refine ⟨.agg cs,g1,qu fun K w σ hk hh hr=>?_⟩
   obtain ⟨cs',r',e1,e2,e3,e4⟩:=main K w σ hr (fun x=>x=cs) (g2 _ rfl)
   subst e1
   refine ⟨.agg r',?_,e4⟩
   simp only [execOp,ho,Sem.run_bind]
   have:(ps.map fun x=>match x with|(i,x)=>(i,σ x))=ps.map fun p=>(p.1,σ p.2):=rfl
   rw [this,e3]
   rfl
 ·exact h.elim
theorem Yq {t:TypeId} (ho:o.op= .buildSlice t n ps) (h:qY P ρ H (.buildSlice t n ps) k) (hcur:Cur o H ρ):∃d,k d∧Yields P o H ρ d:=by
 simp only [qY] at h
 split at h
 ·rename_i e sz hsl
  obtain ⟨hrange,hok,hn,hz,h⟩:=h
  refine ⟨_,h,?_⟩
  obtain ⟨hu,hsz,i,hi,his⟩:=ju hsl
  obtain ⟨zc,hz⟩:=Option.isSome_iff_exists.1 hz
  obtain ⟨i',zv,hi',hzv,z1,z2,z3,z4⟩:=ye hz
  rw [hi] at hi'
  obtain rfl:=Option.some.inj hi'
  intro K w σ slot hk hh hr
  have hlen:ps.toList.length=n:=by have:=congrArg List.length hrange;simpa using this
  have hidx:∀(i:Nat) (p:Nat×Operand),ps.toList[i]?=some p->p.1=i:=fun i p hp=>by
   have h1:(ps.toList.map (·.1))[i]?=some p.1:=by rw [Nb,hp];rfl
   grind
  have hrep:∀(i:Nat) (p:Nat×Operand),ps.toList[i]?=some p->RepV K w (ρ p.2) (σ p.2)∧okc (ρ p.2)=true∧(cellsOf (ρ p.2)).length=sz:=fun i p hp=>by
   have hm:=Nl hp
   exact ⟨hr p.2 (by simp only [ho,Op.operands];simp only [Ny];exact ⟨p,hm,rfl⟩),hok p hm⟩
  obtain ⟨r,f1,f2,_,f4⟩:=Yf sz n (ps.toList.map fun p=>(p.1,σ p.2)) 0 ((Array.range (n*sz)).map (fun j=>if n*sz=0 then default else zv.cells[j % zv.cells.size]!)) (by simp) (by simp only [Nh];omega)
   (fun i p hp=>by
    rw [Nb,Nk] at hp
    obtain ⟨q,hq,rfl⟩:=hp
    obtain ⟨r1,r2,r3⟩:=hrep i q hq
    have:=(uA r1 r2).1
    exact ⟨by simpa using hidx i q hq,by rw [this,r3]⟩)
  obtain ⟨hp,hk'⟩:=yT (K:=K) (w:=w) hk (.cells r e) (x:= .tok (n*sz) (.slot slot 0)) (by simp)
  refine ⟨.slice (some ⟨w.heap.size,0,none⟩) n n,_,_,?_,hp,hk',?_⟩
  ·simp only [execOp,ho,Sem.run_bind]
   have hpp:(ps.map fun x=>match x with|(i,x)=>(i,σ x)).toList=ps.toList.map fun p=>(p.1,σ p.2):=by simp
   have hrun:(Instr.buildSlice t n (ps.map fun x=>match x with|(i,x)=>(i,σ x))).run P w= .ok (.slice (some ⟨w.heap.size,0,none⟩) n n) (w.alloc (.cells r e)):=by
    unfold Instr.buildSlice
    have hsize:∀w:World,(sizeOf e).run P w= .ok sz w:=fun w=>by simp [sizeOf,typeInfo,hi,his]
    simp only [Sem.run_bind,run_underlying hu,Result.andThen_ok,hsize,Sem.run_ite,if_neg (show ¬n*sz>2 ^ 24 by omega)]
    by_cases h0:n*sz=0
    ·simp only [if_pos h0,Sem.run_pure,Result.andThen_ok,hpp]
     have harr:(Array.range (n*sz)).map (fun j=>if n*sz=0 then default else zv.cells[j % zv.cells.size]!)=(Array.range (n*sz)).map (fun x=>(#[]:Array Value)[x % (#[]:Array Value).size]!):=by
      rw [h0];rfl
     rw [harr] at f1
     simp only [f1,newRow,Sem.run_bind,run_newObj_alloc,Result.andThen_ok,Sem.run_pure]
    ·simp only [if_neg h0,Sem.run_bind,zeroValue,typeInfo,run_program,hi,hzv,Sem.run_pure,Result.andThen_ok,hpp]
     simp only [if_neg h0] at f1
     simp only [f1,newRow,Sem.run_bind,run_newObj_alloc,Result.andThen_ok,Sem.run_pure]
   rw [hrun]
   rfl
  ·by_cases hn0:n=0
   ·subst hn0
    have:ps.toList.map (fun p=>cellsOf (ρ p.2))= []:=List.eq_nil_of_length_eq_zero (by simpa using hlen)
    rw [this]
    exact .inl ⟨rfl,_,rfl⟩
   refine .inr ⟨w.heap.size,n,sz,r,e,?_,?_,heap_alloc_new w _,f2,?_,?_,?_,?_,?_,?_⟩
   ·simp [hlen]
   ·rw [jx];simp [hlen]
   ·grind
   ·simp [hlen]
   ·have:n<=n*sz:=Nat.le_mul_of_pos_right n hsz
    unfold maxLen;omega
   ·have:n<=n*sz:=Nat.le_mul_of_pos_right n hsz
    grind [big]
   ·grind
   ·intro i x hx j d hd
    rw [Nb,Nk] at hx
    obtain ⟨q,hq,rfl⟩:=hx
    obtain ⟨r1,r2,r3⟩:=hrep i q hq
    obtain ⟨c1,c2,c3⟩:=uA r1 r2
    have hj:j<sz:=by rw [<-r3];exact (List.getElem?_eq_some_iff.1 hd).1
    have hget:=f4 i (q.1,σ q.2) (by rw [Nb,hq];rfl) j hj
    rw [Nt] at hget
    have hju:(σ q.2).cells[j]?=some ((σ q.2).cells[j]'(by rw [c1,r3];exact hj)):=Nv _
    exact ⟨_,hget.trans hju,c2 j _ hju,(c3 j d _ hd hju).mono (hp.keep hk).ext⟩
 ·exact h.elim
end
end Go.Aw
end
section
namespace Go.Aw
open Go Go.RowKit
section
variable {P:Program} {o:Oper} {H:AH} {ρ:Operand->D} {k:D->Prop}
theorem RepV.mp_inv (h:RepV K w (.mp r) v):v= .map r:=by cases h;rfl
theorem RepV.mpv_inv (h:RepV K w (.mpv es) v):∃b c,v= .map (some b)∧K b= .imm∧b<w.heap.size∧w.heap[b]?=some (.map c c.size)∧c.size=es.length∧
  (∀(j:Nat) (p:D×D) (e:MapEntry),es[j]?=some p->c[j]?=some e->RepV K w p.1 e.key)∧(∀(j:Nat) (p:D×D) (e:MapEntry),es[j]?=some p->c[j]?=some e->RepV K w p.2 e.val):=by
 cases h with|mpv _ b c hk hb hh hl h1 h2=>exact ⟨b,c,rfl,hk,hb,hh,hl,h1,h2⟩
theorem u9 (em:Bool):∀(e d:Nat) (t:TypeId) (l:List CT),yD P e t=some l->e<=d->∀(vx:List Value) (w:World),jH l vx->(Instr.checkKey em d t (Jw P t vx)).run P w= .ok () w:=by
 intro e
 induction e with
 |zero=>intro d t l h;simp [yD] at h
 | succ e ih=>
  intro d t l h hd vx w hx
  obtain ⟨d,rfl⟩:∃d',d=d'+1:=⟨d - 1,by omega⟩
  simp only [yD] at h
  split at h
  ·rename_i k hu
   cases h
   have ha:j8 P t=false:=by simp [j8,hu]
   match vx,hx with
   | [.int ka a],_=>simp [Jw,ha,Instr.checkKey,run_underlying hu]
  ·rename_i hu
   cases h
   have ha:j8 P t=false:=by simp [j8,hu]
   match vx,hx with
   | [.bool a],_=>simp [Jw,ha,Instr.checkKey,run_underlying hu]
  ·rename_i hu
   cases h
   have ha:j8 P t=false:=by simp [j8,hu]
   match vx,hx with
   | [.string a],_=>simp [Jw,ha,Instr.checkKey,run_underlying hu]
  ·rename_i fs hu
   split at h
   ·rename_i hst
    have ha:j8 P t=true:=by simp [j8,hu]
    simp only [Jw,ha,if_true]
    rw [Instr.checkKey]
    simp only [Sem.run_bind,run_underlying hu,Result.andThen_ok]
    rw [<-Array.forIn_toList]
    have key:∀(fl:List Field) (off:Nat) (l:List CT),Yg P (yD P e) fl off=some l->jH l (vx.drop off)->
      (forIn fl PUnit.unit fun (f : Field) (_ : PUnit)=>(if f.name ≠ "_" then do
        let x<-part f.type vx.toArray f.offset
        Instr.checkKey em d f.type x
        pure (ForInStep.yield PUnit.unit)
       else pure (ForInStep.yield PUnit.unit):Sem (ForInStep PUnit))).run P w= .ok PUnit.unit w:=by
     intro fl
     induction fl with
     |nil=>intro off l _ _;simp
     | cons f fl ihf=>
      intro off l hl h1
      simp only [Yg] at hl
      split at hl
      ·rename_i hname
       split at hl
       ·rename_i lf hlf
        split at hl
        ·rename_i htI
         split at hl
         ·rename_i r hr
          simp only [Option.some.injEq] at hl
          subst hl
          obtain ⟨f1,g1⟩:=kN h1
          have ho:f.offset=off:=hname.2
          have p1:=yW (P:=P) htI.1 htI.2.1 vx off (by
           have:=jv f1
           have:=htI.2.2
           simp only [Nw,List.length_drop] at*
           omega) w
          have q:=ih d f.type lf hlf (by omega) _ w f1
          have rest:=ihf (off+lf.length) r hr (by rwa [List.drop_drop] at g1)
          simp only [List.forIn_cons,if_pos hname.1,ho,Sem.run_bind,p1,Result.andThen_ok,q,Sem.run_pure]
          exact rest
         ·cases hl
        ·cases hl
       ·cases hl
      ·cases hl
    rw [key fs.toList 0 l h (by simpa using hx)]
    rfl
   ·cases h
  ·rename_i n el hu
   split at h
   ·rename_i lf hlf
    split at h
    ·rename_i htI
     simp only [Option.some.injEq] at h
     subst h
     have ha:j8 P t=true:=by simp [j8,hu]
     obtain ⟨i,hi,his⟩:=Z7 htI.1
     have hsz:∀w:World,(sizeOf el).run P w= .ok lf.length w:=fun w=>by simp [sizeOf,typeInfo,hi,his]
     simp only [Jw,ha,if_true]
     rw [Instr.checkKey]
     simp only [Sem.run_bind,run_underlying hu,Result.andThen_ok]
     simp only [Std.Legacy.Range.forIn_eq_forIn_range',Std.Legacy.Range.size,Nat.sub_zero,Nat.add_one_sub_one,Nat.div_one]
     have key:∀(m q:Nat),jH (List.replicate m lf).flatten (vx.drop (q*lf.length))->
       (forIn (List.range' q m) PUnit.unit fun (i:Nat) (_:PUnit)=>(do
         let x<-part el vx.toArray (i*(<-sizeOf el))
         Instr.checkKey em d el x
         pure (ForInStep.yield PUnit.unit):Sem (ForInStep PUnit))).run P w= .ok PUnit.unit w:=by
      intro m
      induction m with
      |zero=>intro q _;simp
      | succ m ihm=>
       intro q h1
       rw [List.replicate_succ,N0] at h1
       obtain ⟨f1,g1⟩:=kN h1
       have L1:=jv h1
       have M1:=jv f1
       have hp:=htI.2.2
       simp only [List.length_drop,Nd,Nw] at L1 M1
       have p1:=yW (P:=P) htI.1 htI.2.1 vx (q*lf.length) (by omega) w
       have qq:=ih d el lf hlf (by omega) _ w f1
       rw [List.drop_drop,<-Nat.succ_mul] at g1
       have rest:=ihm (q+1) g1
       simp only [List.range'_succ,List.forIn_cons,Sem.run_bind,hsz,p1,Result.andThen_ok,qq,Sem.run_pure]
       exact rest
     rw [key n 0 (by simpa using hx)]
     rfl
    ·cases h
   ·cases h
  ·cases h
theorem eU (h:wh v=true):RepV K w (zC v) v:=by
 have hr:=yc (K:=K) (w:=w) (o:= .outer) h
 unfold zC
 generalize hc:jD v=d at hr
 cases d with
 | own xs=>
  unfold jD at hc
  split at hc<;>first
   |(injection hc with hc;subst hc;exact .oslnil _ _ _)
   |cases hc
 |_=>exact hr
theorem aL {t:TypeId} (h:zD P t=some z):∃i v,P.info? t=some i∧i.zero=some v∧∀K w,RepV K w z v:=by
 unfold zD at h
 split at h
 ·rename_i i hi
  split at h
  ·rename_i cs hz
   split at h
   ·rename_i hall
    cases h
    refine ⟨i,_,hi,hz,fun K w=>.agg _ cs (by simp) (fun j v hv=>?_) (fun j d v hd hv=>?_)⟩
    ·have:=List.all_eq_true.1 hall v (Array.mem_toList_iff.2 (Array.mem_of_getElem? hv))
     simp only [Nm] at this
     exact this.2
    ·have:=List.all_eq_true.1 hall v (Array.mem_toList_iff.2 (Array.mem_of_getElem? hv))
     simp only [Nm] at this
     rw [Nb,Array.getElem?_toList,hv] at hd
     cases hd
     exact eU this.1
   ·cases h
  all_goals grind [eU]
 ·cases h
theorem uW {t:TypeId} (hr:RepV K w d v) (ha:VH d=j8 P t) (hf:fits l (cellsOf d)) (hag:j8 P t=false->l.length=1):
  ∃vs:List Value,v=Jw P t vs∧vs.length=(cellsOf d).length∧jH l vs∧∀(j:Nat) (d':D) (u:Value),(cellsOf d)[j]?=some d'->vs[j]?=some u->RepV K w d' u:=by
 have fin:∀(vs:List Value),vs.length=(cellsOf d).length->(∀(j:Nat) (d':D) (u:Value),(cellsOf d)[j]?=some d'->vs[j]?=some u->RepV K w d' u)->v=Jw P t vs->
   ∃vs:List Value,v=Jw P t vs∧vs.length=(cellsOf d).length∧jH l vs∧∀(j:Nat) (d':D) (u:Value),(cellsOf d)[j]?=some d'->vs[j]?=some u->RepV K w d' u:=
  fun vs h1 h2 h3=>⟨vs,h3,h1,Qd hf h1 h2,h2⟩
 cases d with
 | agg cs=>
  obtain ⟨vs,rfl,h1,_,h3⟩:=hr.agg_inv
  have hb:j8 P t=true:=ha.symm
  exact fin vs.toList (by simpa [cellsOf] using h1) (fun j d' u hd hu=>h3 j d' u hd (by simpa using hu)) (by simp [Jw,hb])
 | _=>
  have hb:j8 P t=false:=ha.symm
  exact fin [v] rfl (fun j d' u hd hu=>by
   cases j with
   |zero=>simp only [Nj,Option.some.injEq] at hu hd;subst hu;simp only [cellsOf,Nj,Option.some.injEq] at hd;subst hd;exact hr
   |succ j=>simp at hu) (by simp [Jw,hb])
theorem wb {t:TypeId} (h:yD P e t=some l) (ha:j8 P t=false):l.length=1:=by
 cases e with
 |zero=>simp [yD] at h
 | succ e=>
  simp only [yD] at h
  split at h
  ·cases h;rfl
  ·cases h;rfl
  ·cases h;rfl
  ·rename_i fs hu
   simp [j8,hu] at ha
  ·rename_i n el hu
   simp [j8,hu] at ha
  ·cases h
def wy:List (D×D)->List D->Option Nat
 | [],_=>none
 |p::r,k=>if eqCells k (cellsOf p.1)=true then some 0 else (wy r k).map (·+1)
theorem zO:∀(es:List (D×D)) (k:List D),ya es k=(wy es k).bind fun i=>(es[i]?).map (·.2)
 | [],_=>rfl
 | p::r,k=>by
  simp only [ya,wy]
  split
  ·rfl
  ·rw [zO r k]
   cases wy r k<;>rfl
theorem vk {kt:TypeId} (hl:yD P 8 kt=some l) (hr:RepV K w d v) (ha:VH d=j8 P kt) (hf:fits l (cellsOf d)):
  ∀ (es:List (D×D)) (c:List MapEntry) (i:Nat),c.length=es.length->(∀p∈es,VH p.1=j8 P kt∧fits l (cellsOf p.1)∧sameK (cellsOf d) (cellsOf p.1))->
   (∀(j:Nat) (p:D×D) (e:MapEntry),es[j]?=some p->c[j]?=some e->RepV K w p.1 e.key)->
   (Instr.findAsking kt v c i).run P w= .ok ((wy es (cellsOf d)).bind fun j=>(c[j]?).map fun e=>(i+j,e.val)) w
 | [],[],i,_,_,_=>by simp [Instr.findAsking,wy]
 | [],_::_,_,h,_,_=>by simp at h
 |_::_,[],_,h,_,_=>by simp at h
 | p::es,e::c,i,hlen,hall,hrep=>by
  obtain ⟨vs,h1,h2,h3,h4⟩:=uW (P:=P) (t:=kt) hr ha hf (wb hl)
  obtain ⟨b1,b2,b3⟩:=hall p (.head _)
  have hre:=hrep 0 p e rfl rfl
  obtain ⟨us,g1,g2,g3,g4⟩:=uW (P:=P) (t:=kt) hre b1 b2 (wb hl)
  have heq:=uM 8 Op.maxDepth kt l hl (by decide) vs us w h3 g3 (zA hf b2 b3 h2 g2 h4 g4).2
  have hev:wx vs us=eqCells (cellsOf d) (cellsOf p.1):=(zA hf b2 b3 h2 g2 h4 g4).1
  have ih:=vk hl hr ha hf es c (i+1) (by simpa using hlen) (fun q hq=>hall q (.tail _ hq)) (fun j q e' hj hj'=>hrep (j+1) q e' hj hj')
  have hq:(Op.equal kt v e.key).run P w= .ok (eqCells (cellsOf d) (cellsOf p.1)) w:=by
   rw [h1,g1,<-hev];exact heq
  simp only [Instr.findAsking,Sem.run_bind,hq,Result.andThen_ok,Sem.run_ite,wy]
  cases eqCells (cellsOf d) (cellsOf p.1)
  ·simp only [Bool.false_eq_true,if_false,ih]
   cases wy es (cellsOf d) with
   |none=>rfl
   | some j=>
    simp only [Option.map_some,Option.bind_some,Ni]
    cases c[j]? with
    |none=>rfl
    |some e'=>simp only [Option.map_some];congr 3;omega
  ·simp
theorem ZW {kd:TypeDesc} (h:Instr.sameNow kd a b=some t):t=dp a b:=by
 unfold Instr.sameNow at h
 split at h
 ·split at h
  ·cases h;rfl
  ·cases h
 ·cases h;simp [dp,beq_toListBytes]
 ·cases h;rfl
 ·cases h
theorem Q1 {kt:TypeId} {kd:TypeDesc} (hl:yD P 8 kt=some l) (hr:RepV K w d v) (ha:VH d=j8 P kt) (hf:fits l (cellsOf d)):
  ∀ (es:List (D×D)) (c:List MapEntry) (i:Nat) (r:Option (Nat×Value)),c.length=es.length->(∀p∈es,VH p.1=j8 P kt∧fits l (cellsOf p.1)∧sameK (cellsOf d) (cellsOf p.1))->
   (∀(j:Nat) (p:D×D) (e:MapEntry),es[j]?=some p->c[j]?=some e->RepV K w p.1 e.key)->
   Instr.findNow kd v c i=some r->r=(wy es (cellsOf d)).bind fun j=>(c[j]?).map fun e=>(i+j,e.val)
 | [],[],i,r,_,_,_,h=>by cases h;rfl
 | [],_::_,_,_,h,_,_,_=>by simp at h
 |_::_,[],_,_,h,_,_,_=>by simp at h
 | p::es,e::c,i,r,hlen,hall,hrep,h=>by
  obtain ⟨vs,h1,h2,h3,h4⟩:=uW (P:=P) (t:=kt) hr ha hf (wb hl)
  obtain ⟨b1,b2,b3⟩:=hall p (.head _)
  have hre:=hrep 0 p e rfl rfl
  obtain ⟨us,g1,g2,g3,g4⟩:=uW (P:=P) (t:=kt) hre b1 b2 (wb hl)
  have hev:wx vs us=eqCells (cellsOf d) (cellsOf p.1):=(zA hf b2 b3 h2 g2 h4 g4).1
  have ih:=Q1 (kd:=kd) hl hr ha hf es c (i+1) r (by simpa using hlen) (fun q hq=>hall q (.tail _ hq)) (fun j q e' hj hj'=>hrep (j+1) q e' hj hj')
  simp only [Instr.findNow] at h
  cases hs:Instr.sameNow kd v e.key with
  |none=>simp [hs] at h
  | some t=>
   have ht:t=eqCells (cellsOf d) (cellsOf p.1):=by
    rw [<-hev,ZW hs]
    cases hb:j8 P kt
    ·have hl1:=wb hl hb
     have e1:=jv h3
     have e2:=jv g3
     match vs,us,(e1.trans hl1),(e2.trans hl1) with
     | [a],[b],_,_=>
      rw [h1,g1]
      simp [Jw,hb,wx]
    ·rw [h1] at hs
     simp [Jw,hb,Instr.sameNow] at hs
   subst ht
   simp only [hs] at h
   simp only [wy]
   cases hc:eqCells (cellsOf d) (cellsOf p.1)
   ·rw [hc] at h
    simp only [Bool.false_eq_true,if_false]
    rw [ih h]
    cases wy es (cellsOf d) with
    |none=>rfl
    | some j=>
     simp only [Option.map_some,Option.bind_some,Ni]
     cases c[j]? with
     |none=>rfl
     |some e'=>simp only [Option.map_some];congr 2;omega
   ·rw [hc] at h
    simp only [Option.some.injEq] at h
    subst h
    simp
theorem uz {kt:TypeId} (hl:yD P 8 kt=some l) (hr:RepV K w d v) (ha:VH d=j8 P kt) (hf:fits l (cellsOf d))
  (es:List (D×D)) (c:List MapEntry) (hlen:c.length=es.length) (hall:∀p∈es,VH p.1=j8 P kt∧fits l (cellsOf p.1)∧sameK (cellsOf d) (cellsOf p.1))
   (hrep:∀(j:Nat) (p:D×D) (e:MapEntry),es[j]?=some p->c[j]?=some e->RepV K w p.1 e.key):
   (Instr.findKey kt v c).run P w= .ok ((wy es (cellsOf d)).bind fun j=>(c[j]?).map fun e=>(j,e.val)) w:=by
 obtain ⟨kd,hu⟩:∃kd,P.underlying kt=some kd:=by
  simp only [yD] at hl
  split at hl
  ·exact ⟨_,by assumption⟩
  ·exact ⟨_,by assumption⟩
  ·exact ⟨_,by assumption⟩
  ·exact ⟨_,by assumption⟩
  ·exact ⟨_,by assumption⟩
  ·cases hl
 have h0:=vk hl hr ha hf es c 0 hlen hall hrep
 simp only [Nt] at h0
 simp only [Instr.findKey,Sem.run_bind,run_underlying hu,Result.andThen_ok]
 cases hn:Instr.findNow kd v c 0 with
 |none=>simpa using h0
 | some r=>
  have:=Q1 hl hr ha hf es c 0 r hlen hall hrep hn
  simp only [Nt] at this
  simp [this]
theorem ao:∀{es:List (D×D)} {k:List D} {i:Nat},wy es k=some i->i<es.length
 | p::r,k,i,h=>by
  simp only [wy] at h
  split at h
  ·cases h;simp
  ·obtain ⟨j,h1,rfl⟩:=Option.map_eq_some_iff.1 h
   have:=ao h1
   simp only [Nf]
   omega
theorem Z3 {t:TypeId} (h:dq P t=some (ag,l,z)):∃kt et,P.underlying t=some (.map kt et)∧yD P 8 kt=some l∧zD P et=some z∧ag=j8 P kt:=by
 unfold dq at h
 split at h
 ·rename_i kt et hu
  split at h
  ·rename_i l' z' h1 h2
   cases h
   exact ⟨kt,et,hu,h1,h2,rfl⟩
  ·cases h
 ·cases h
theorem Kx {t:TypeId} (hm:dq P t=some (ag,l,z)) 
  (hx:x= .map none∧c=#[]∨∃b n,x= .map (some b)∧w.heap[b]?=some (.map c n)) (hlen:c.size=es.length) (hr:RepV K w d v) (hk:ym ag l es d)
  (hkey:∀(j:Nat) (p:D×D) (e:MapEntry),es[j]?=some p->c[j]?=some e->RepV K w p.1 e.key)
  (hval:∀(j:Nat) (p:D×D) (e:MapEntry),es[j]?=some p->c[j]?=some e->RepV K w p.2 e.val) (ok:Bool):
  ∃u,(Instr.lookup t x v ok).run P w= .ok u w∧RepV K w (oQ ok z (ya es (cellsOf d))) u:=by
 obtain ⟨kt,et,hu,hl,hz,rfl⟩:=Z3 hm
 obtain ⟨i,zv,hi,hzv,hzr⟩:=aL hz
 obtain ⟨k1,k2,k3⟩:=hk
 obtain ⟨vs,h1,h2,h3,h4⟩:=uW (P:=P) (t:=kt) hr k1 k2 (wb hl)
 have hck:∀em,(Instr.checkKey em 10000 kt v).run P w= .ok () w:=fun em=>by rw [h1];exact u9 em 8 10000 kt l hl (by decide) vs w h3
 have hfk:=uz hl hr k1 k2 es c.toList (by simpa using hlen) k3 (fun j p e hj he=>hkey j p e hj (by simpa using he))
 have hzero:(zeroValue et).run P w= .ok zv w:=by simp [zeroValue,typeInfo,hi,hzv]
 have hgo:∀b n,w.heap[b]?=some (.map c n)->(getObj b).run P w= .ok (.map c n) w:=fun b n hb=>by
  unfold getObj
  simp only [Sem.run,hb]
 rw [zO]
 cases hix:wy es (cellsOf d) with
 | none=>
  refine ⟨if ok=true then .tuple #[zv,.bool false] else zv,?_,?_⟩
  ·unfold Instr.lookup
   rcases hx with ⟨rfl,rfl⟩|⟨b,n,rfl,hb⟩
   ·simp only [Sem.run_bind,run_underlying hu,Result.andThen_ok,Sem.run_pure,hck,hfk,hix,Option.bind_none,hzero]
   ·simp only [Sem.run_bind,run_underlying hu,Result.andThen_ok,Sem.run_pure,hgo b n hb,hck,hfk,hix,Option.bind_none,hzero]
  ·cases ok
   ·exact hzr K w
   ·exact .tup _ _ rfl (fun j d' u hd hu'=>by
     match j with
     |0=>simp at hd hu';subst hd hu';exact hzr K w
     |1=>simp at hd hu';subst hd hu';exact .bool _
     |j+2=>simp at hd)
 | some j=>
  have hj:=ao hix
  have hp:=Na hj
  have hc:c[j]?=some c[j]:=Nv (by omega)
  have hrv:=hval j _ _ hp hc
  refine ⟨if ok=true then .tuple #[c[j].val,.bool true] else c[j].val,?_,?_⟩
  ·unfold Instr.lookup
   have hc':c.toList[j]?=some c[j]:=by rw [Array.getElem?_toList];exact hc
   rcases hx with ⟨rfl,rfl⟩|⟨b,n,rfl,hb⟩
   ·simp at hlen;omega
   ·simp only [Sem.run_bind,run_underlying hu,Result.andThen_ok,Sem.run_pure,hgo b n hb,hck,hfk,hix,Option.bind_some,hc',Option.map_some]
  ·simp only [Option.bind_some,hp,Option.map_some]
   cases ok
   ·exact hrv
   ·exact .tup _ _ rfl (fun q d' u hd hu'=>by
     match q with
     |0=>simp at hd hu';subst hd hu';exact hrv
     |1=>simp at hd hu';subst hd hu';exact .bool _
     |q+2=>simp at hd)
theorem Zl {t:TypeId} (h:Yi P wk t H dm di ok k) (hK0:KRel K0 w0) (hH0:HRel K0 w0 H) (hm0:RepV K0 w0 dm vm0) (hi0:RepV K0 w0 di vi0):
  ∃d,k d∧∀(K:Nat->BK) (w:World) (vm vi:Value),HRel K w H->RepV K w dm vm->RepV K w di vi->∃u,(Instr.lookup t vm vi ok).run P w= .ok u w∧RepV K w d u:=by
 simp only [Yi] at h
 have key:∀(es:List (D×D)) (ag:Bool) (l:List CT) (z:D),dq P t=some (ag,l,z)->ym ag l es di->
   (∀(K:Nat->BK) (w:World) (vm:Value),HRel K w H->RepV K w dm vm->
    ∃ c:Array MapEntry,(vm= .map none∧c=#[]∨∃b n,vm= .map (some b)∧w.heap[b]?=some (.map c n))∧c.size=es.length∧
     (∀(j:Nat) (p:D×D) (e:MapEntry),es[j]?=some p->c[j]?=some e->RepV K w p.1 e.key)∧(∀(j:Nat) (p:D×D) (e:MapEntry),es[j]?=some p->c[j]?=some e->RepV K w p.2 e.val))->
   (fact (oQ ok z (ya es (cellsOf di)))->k (wkI wk (oQ ok z (ya es (cellsOf di)))))->∃d,k d∧∀(K:Nat->BK) (w:World) (vm vi:Value),HRel K w H->RepV K w dm vm->RepV K w di vi->∃u,(Instr.lookup t vm vi ok).run P w= .ok u w∧RepV K w d u:=by
  intro es ag l z hm hk hc hkk
  obtain ⟨c,c1,c2,c3,c4⟩:=hc K0 w0 vm0 hH0 hm0
  obtain ⟨u,_,hu⟩:=Kx hm c1 c2 hi0 hk c3 c4 ok
  refine ⟨_,hkk hu.fact,fun K w vm vi hH hr1 hr2=>?_⟩
  obtain ⟨c,c1,c2,c3,c4⟩:=hc K w vm hH hr1
  obtain ⟨u,hrun,hu⟩:=Kx hm c1 c2 hr2 hk c3 c4 ok
  exact ⟨u,hrun,hu.wkI⟩
 split at h
 ·rename_i ag l z hm
  refine key [] ag l z hm h.1 (fun K w vm hH hr=>⟨#[],.inl ⟨hr.mp_inv,rfl⟩,rfl,fun j p e hp=>by simp at hp,fun j p e hp=>by simp at hp⟩) (fun _=>by simpa [ya] using h.2)
 ·rename_i ag l z es hm
  refine key es ag l z hm h.1 (fun K w vm hH hr=>?_) h.2
  obtain ⟨b,c,h1,_,_,hh,hl,hkey,hval⟩:=hr.mpv_inv
  exact ⟨c,.inr ⟨b,_,h1,hh⟩,hl,hkey,hval⟩
 ·rename_i ag l z b hm
  split at h
  ·rename_i es hg
   refine key es ag l z hm h.1 (fun K w vm hH hr=>?_) h.2
   obtain ⟨_,c,hh,hl,hc⟩:=hH.ok b _ (qW hg)
   refine ⟨c,.inr ⟨b,c.size,hr.mp_inv,hh⟩,hl,fun j p e hp he=>?_,fun j p e hp he=>?_⟩
   ·obtain ⟨e',h1,_,h3,_⟩:=hc j p hp
    rw [he] at h1;cases h1;exact h3
   ·obtain ⟨e',h1,_,_,h4⟩:=hc j p hp
    rw [he] at h1;cases h1;exact h4
  ·exact h.elim
 ·exact h.elim
theorem Gr {t:TypeId} (ho:o.op= .lookup t m i ok) (h:qY P ρ H (.lookup t m i ok) k) (hcur:Cur o H ρ):∃d,k d∧Yields P o H ρ d:=by
 simp only [qY] at h
 have hops:∀{K:Nat->BK} {w:World} {σ:Operand->Value},(∀x∈o.op.operands.toList,RepV K w (ρ x) (σ x))->RepV K w (ρ m) (σ m)∧RepV K w (ρ i) (σ i):=fun hr=>
  ⟨hr m (by simp [ho,Op.operands]),hr i (by simp [ho,Op.operands])⟩
 obtain ⟨K,w,σ,hK,hH,hr⟩:=hcur
 obtain ⟨d,hd,hrun⟩:=Zl h hK hH (hops hr).1 (hops hr).2
 refine ⟨d,hd,qu fun K w σ hK hH hr=>?_⟩
 obtain ⟨u,h1,h2⟩:=hrun K w _ _ hH (hops hr).1 (hops hr).2
 refine ⟨u,?_,h2⟩
 simp only [execOp,ho,Sem.run_bind,h1,Result.andThen_ok]
 rfl
end
end Go.Aw
end
section
namespace Go.Aw
open Go Go.RowKit
section
variable {P:Program} {o:Oper} {H:AH} {ρ:Operand->D} {k:D->Prop}
theorem YT {t:TypeId} (ho:o.op= .makeSlice t l c) (h:qY P ρ H (.makeSlice t l c) k) (hcur:Cur o H ρ):∃d,k d∧Yields P o H ρ d:=by
 simp only [qY] at h
 have hml:l∈o.op.operands.toList:=by simp [ho,Op.operands]
 have hmc:c∈o.op.operands.toList:=by simp [ho,Op.operands]
 split at h
 ·rename_i e sz hsl
  split at h
  ·rename_i z k1 n k2 m hz hl hc
   obtain ⟨rfl,h0,hb,h⟩:=h
   obtain ⟨hu,hsz,i,hi,his⟩:=ju hsl
   obtain ⟨i',zv,hi',hzv,z1,z2,z3,z4⟩:=ye hz
   have hii:i=i':=by rw [hi] at hi';exact Option.some.inj hi'
   subst hii
   simp only [hi] at hb
   refine ⟨_,h,?_⟩
   intro K w σ slot hk hh hr
   have hl':=(hl▸hr l hml).int_inv.1
   have hc':=(hc▸hr c hmc).int_inv.1
   obtain ⟨q,rfl⟩:=Int.eq_ofNat_of_zero_le h0
   have hrun:=run_make (P:=P) w t e i zv hu hi hzv k1 k2 q q h0 (Int.le_refl _) (by omega) (by omega)
   simp only [Nc] at hrun
   obtain ⟨hp,hk'⟩:=yT (K:=K) (w:=w) hk (.cells (madeCells zv.cells (q*i.size)) e) (x:= .tok (q*sz) (.slot slot 0)) (by simp)
   refine ⟨.slice (some ⟨w.heap.size,0,none⟩) q q,_,_,?_,hp,hk',?_⟩
   ·simp only [execOp,ho,Sem.run_bind,hl',hc',hrun,Result.andThen_ok]
    rfl
   ·have hzl:z.length=sz:=by omega
    have hrepz:=(GY hz hi hzv (Qw K w.heap.size (.tok (q*sz) (.slot slot 0))) (w.alloc (.cells (madeCells zv.cells (q*i.size)) e)) (fun _=>.outer)).2
    by_cases hq0:q=0
    ·subst hq0
     exact .inl ⟨rfl,_,rfl⟩
    refine .inr ⟨w.heap.size,q,sz,madeCells zv.cells (q*i.size),e,?_,?_,heap_alloc_new w _,?_,?_,?_,?_,?_,?_,?_⟩
    ·simp
    ·rw [jx];simp
    ·rw [size_madeCells,his]
    ·simp only [N1,Nc];omega
    ·simp
    ·unfold maxLen;omega
    ·simp only [N1,Nc];unfold big;omega
    ·intro i x hx
     have:=Nl hx
     have:=List.eq_of_mem_replicate this
     subst this
     simpa using hzl
    ·intro a x hx j d hd
     have h1:=(List.getElem?_eq_some_iff.1 hx).1
     have:=List.eq_of_mem_replicate (Nl hx)
     subst this
     simp only [N1,Nc] at h1
     rw [Nb,Nk] at hd
     obtain ⟨d',hd',rfl⟩:=hd
     have hj:j<sz:=by rw [<-hzl];exact (List.getElem?_eq_some_iff.1 hd').1
     obtain ⟨u,e1,e2,e3⟩:=hrepz j d' hd'
     refine ⟨u,?_,e2,e3.rep⟩
     have hlt:a*sz+j<q*i.size:=by
      rw [his]
      have:(a+1)*sz<=q*sz:=Nat.mul_le_mul_right _ h1
      rw [Nat.add_mul] at this
      omega
     have hzs:zv.cells.size=sz:=by omega
     have hmod:(a*sz+j) % zv.cells.size=j:=by rw [hzs,Nat.mul_comm,Nat.mul_add_mod,Nat.mod_eq_of_lt hj]
     unfold madeCells
     rw [Array.getElem?_map,Array.getElem?_range,if_pos hlt]
     simp only [Option.map_some,hmod]
     have hjz:j<zv.cells.size:=by omega
     rw [getElem!_pos zv.cells j hjz,<-e1]
     exact (Nv hjz).symm
  ·exact h.elim
 ·exact h.elim
theorem K4 (h:Vis K w b off n) (h0:off<=off') (h':off'+n'<=off+n):Vis K w b off' n':=by
 obtain ⟨h1,h2⟩:=h
 refine ⟨h1,?_⟩
 grind
theorem GZ (hr:RepV K w (.slc xs) (.slice a len cap)) (sz:Nat) (hsz:∀(i:Nat) (x:List D),xs[i]?=some x->x.length=sz)
  (h1:l<=h) (h2:h<=xs.length):len=xs.length∧xs.length<=cap∧RepV K w (.slc ((xs.take h).drop l)) (sliced a l h cap sz):=by
 have hlen:((xs.take h).drop l).length=h - l:=by simp;omega
 have key:∀(i:Nat) (x:List D),((xs.take h).drop l)[i]?=some x->xs[l+i]?=some x:=fun i x hi=>by
  grind
 rcases hr.slc_inv with ⟨rfl,a',he⟩|⟨b,off,cap',sz',f,he,hc,hm,hs,hv,hcell,hone,hrep⟩
 ·injection he with e1 e2 e3
  subst e1 e2 e3
  simp only [Ng,Nat.le_zero_eq] at h2
  subst h2
  simp only [Nat.le_zero_eq] at h1
  subst h1
  exact ⟨rfl,Nr _,.slcnil _⟩
 ·injection he with e1 e2 e3
  subst e1 e2 e3
  refine ⟨rfl,hc,?_⟩
  unfold sliced
  have hbig:=hr.slc_big
  by_cases hcl:cap=l
  ·rw [if_pos hcl]
   have hnil:(xs.take h).drop l= []:=List.eq_nil_of_length_eq_zero (by omega)
   rw [hnil,show h - l=0 by omega,show cap - l=0 by omega]
   exact .slcnil _
  ·rw [if_neg hcl]
   simp only [Option.map_some,Addr.add_lit]
   by_cases hz:xs.length=0
   ·grind
   ·have hszz:sz'=sz:=by
     have h0:=Na (show 0<xs.length by omega)
     rw [<-hs 0 _ h0,hsz 0 _ h0]
    subst hszz
    rw [<-hlen]
    refine .slc _ b (off+l*sz') (cap - l) sz' (fun i j=>f (l+i) j) (by omega) (by omega) (by omega) (fun i x hi=>hs _ x (key i x hi)) (K4 hv (Nat.le_add_right _ _) ?_) (fun i x hi j d hj=>?_) (fun i x hi=>hone _ x (key i x hi)) (fun i x hi=>hrep _ x (key i x hi))
    ·rw [hlen]
     have:(l+(h - l))*sz'<=xs.length*sz':=Nat.mul_le_mul_right _ (by omega)
     rw [Nat.add_mul] at this
     omega
    ·rw [<-hcell _ x (key i x hi) j d hj]
     congr 2
     rw [Nat.add_mul]
     omega
theorem ZT (hlo:∀d v,lo=some d->vlo=some v->RepV K w d v) (hhi:∀d v,hi=some d->vhi=some v->RepV K w d v)
  (e1:lo.isSome=vlo.isSome) (e2:hi.isSome=vhi.isSome) {kk:Nat->Nat->Prop} (hc:n<=cap) (h:oW n lo hi kk):
  ∃l hh,kk l hh∧l<=hh∧hh<=n∧∀b:Bool,(Instr.sliceBounds b n cap vlo vhi none).run P w= .ok (l,hh,cap) w:=by
 unfold oW at h
 split at h
 ·cases vlo<;>simp at e1
  cases vhi<;>simp at e2
  exact ⟨0,n,h,Nat.zero_le _,Nr _,fun b=>by simp [Instr.sliceBounds]⟩
 ·rename_i ka l
  obtain ⟨a1,a2,a3⟩:=h
  cases vlo<;>simp at e1
  rename_i vl
  cases vhi<;>simp at e2
  obtain ⟨rfl,_⟩:=(hlo _ _ rfl rfl).int_inv
  exact ⟨l.toNat,n,a3,by omega,Nr _,fun b=>by simp [Instr.sliceBounds,run_sliceBound_if,a1,a2]⟩
 ·rename_i ka h'
  obtain ⟨a1,a2,a3⟩:=h
  cases vlo<;>simp at e1
  cases vhi<;>simp at e2
  rename_i vh
  obtain ⟨rfl,_⟩:=(hhi _ _ rfl rfl).int_inv
  have:h'<=(cap:Int):=by omega
  exact ⟨0,h'.toNat,a3,Nat.zero_le _,by omega,fun b=>by simp [Instr.sliceBounds,run_sliceBound_if,a1,this]⟩
 ·rename_i ka l kb h'
  obtain ⟨a1,a2,a3,a4⟩:=h
  cases vlo<;>simp at e1
  cases vhi<;>simp at e2
  obtain ⟨rfl,_⟩:=(hlo _ _ rfl rfl).int_inv
  obtain ⟨rfl,_⟩:=(hhi _ _ rfl rfl).int_inv
  have b1:h'<=(cap:Int):=by omega
  have b2:0<=h':=by omega
  have b3:l<=(h'.toNat:Int):=by omega
  exact ⟨l.toNat,h'.toNat,a4,by omega,by omega,fun b=>by simp only [Instr.sliceBounds,run_sliceBound_if,Sem.run_bind,Sem.run_pure,Result.andThen_ok,if_pos (And.intro b2 b1),if_pos (And.intro a1 b3)]⟩
 ·exact h.elim
theorem cG {t:TypeId} (ho:o.op= .slice t x lo hi none) (h:qY P ρ H (.slice t x lo hi none) k) (hcur:Cur o H ρ):∃d,k d∧Yields P o H ρ d:=by
 simp only [qY] at h
 have hmx:x∈o.op.operands.toList:=by simp [ho,Op.operands]
 have hml:∀y,lo=some y->y∈o.op.operands.toList:=fun y hy=>by simp [ho,Op.operands,hy]
 have hmh:∀y,hi=some y->y∈o.op.operands.toList:=fun y hy=>by simp [ho,Op.operands,hy]
 obtain ⟨K0,w0,σ0,hk0,hh0,hr0⟩:=hcur
 have bnd:∀{n cap:Nat} {K:Nat->BK} {w:World} {σ:Operand->Value} {kk:Nat->Nat->Prop},(∀x∈o.op.operands.toList,RepV K w (ρ x) (σ x))->n<=cap->oW n (lo.map ρ) (hi.map ρ) kk->
   ∃l hh,kk l hh∧l<=hh∧hh<=n∧∀b:Bool,(Instr.sliceBounds b n cap (lo.map σ) (hi.map σ) none).run P w= .ok (l,hh,cap) w:=by
  intro n cap K w σ kk hr hc hk
  refine ZT (K:=K) (fun d v h1 h2=>?_) (fun d v h1 h2=>?_) (by simp) (by simp) hc hk
  ·rw [Nk] at h1 h2
   grind
  ·rw [Nk] at h1 h2
   grind
 have main:∀(n:Nat) (kk:Nat->Nat->Prop),oW n (lo.map ρ) (hi.map ρ) kk->∃l hh,kk l hh∧l<=hh∧hh<=n∧(∀kk':Nat->Nat->Prop,kk' l hh->oW n (lo.map ρ) (hi.map ρ) kk'):=by
  intro n kk hkk
  unfold oW at hkk ⊢
  grind
 split at h
 ·rename_i xs hx
  split at h
  ·rename_i e sz hsl
   obtain ⟨hall,h⟩:=h
   obtain ⟨hu,hsz,i,hi',his⟩:=ju hsl
   have he:P.elem t=e:=by simp [Program.elem,hu]
   have hut:P.underlying t=some (.slice (P.elem t)):=by rw [he];exact hu
   obtain ⟨l,hh,m1,m2,m3,m4⟩:=main _ _ h
   refine ⟨_,m1,qu fun K w σ hk hH hr=>?_⟩
   have hrx:=hx▸hr x hmx
   obtain ⟨a,cap,hv,hcap,hmax⟩:=hrx.slc_form
   obtain ⟨l',hh',q1,q2,q3,q4⟩:=bnd (kk:=fun a b=>l=a∧hh=b) hr hcap (m4 _ ⟨rfl,rfl⟩)
   obtain ⟨rfl,rfl⟩:=q1
   rw [hv] at hrx
   obtain ⟨_,_,hrep⟩:=GZ hrx sz (fun i x hx=>hall x (Nl hx)) q2 q3
   refine ⟨_,?_,hrep⟩
   have hsize:∀w:World,(sizeOf (P.elem t)).run P w= .ok sz w:=fun w=>by rw [he];simp [sizeOf,typeInfo,hi',his]
   simp only [execOp,ho,hv,Sem.run_bind,run_sliceAt_slice w t _ _ _ _ hut,run_slice_any w t a xs.length cap hut,q4 true,Result.andThen_ok,hsize,Option.map_none]
   rfl
  ·exact h.elim
 ·rename_i s hx
  obtain ⟨hst,h⟩:=h
  have hu:=vo hst
  obtain ⟨l,hh,m1,m2,m3,m4⟩:=main _ _ h
  refine ⟨_,m1,qu fun K w σ hk hH hr=>?_⟩
  obtain ⟨hv,hb⟩:=(hx▸hr x hmx).str_inv
  obtain ⟨l',hh',q1,q2,q3,q4⟩:=bnd (kk:=fun a b=>l=a∧hh=b) hr (Nr _) (m4 _ ⟨rfl,rfl⟩)
  obtain ⟨rfl,rfl⟩:=q1
  refine ⟨.string ⟨⟨(s.take hh).drop l⟩⟩,?_,.str _ (by simp;omega)⟩
  have hsz:(⟨⟨s⟩⟩:ByteArray).size=s.length:=rfl
  have hex:(⟨⟨s⟩⟩:ByteArray).extract l hh=⟨⟨(s.take hh).drop l⟩⟩:=by
   apply ByteArray.ext
   rw [ByteArray.data_extract]
   grind
  simp only [execOp,ho,hv,Sem.run_bind,run_sliceAt_string w t _ _ _ _ hu,Instr.slice,run_underlying hu,Result.andThen_ok,Option.map_none,Option.isSome_none,Bool.false_eq_true,if_false,hsz,q4 false,Sem.run_pure,hex]
 ·rename_i b n hx
  split at h
  ·rename_i e sz hsl
   obtain ⟨hu,hsz,i,hi',his⟩:=ju hsl
   have he:P.elem t=e:=by simp [Program.elem,hu]
   have hut:P.underlying t=some (.slice (P.elem t)):=by rw [he];exact hu
   obtain ⟨l,hh,⟨m0,m1⟩,m2,m3,m4⟩:=main _ _ h
   refine ⟨_,m1,qu fun K w σ hk hH hr=>?_⟩
   obtain ⟨cap,hv,hcap,hmax,hbig⟩:=(hx▸hr x hmx).hsl_inv
   obtain ⟨l',hh',q1,q2,q3,q4⟩:=bnd (kk:=fun a b=>l=a∧hh=b) hr hcap (m4 _ ⟨rfl,rfl⟩)
   obtain ⟨rfl,rfl⟩:=q1
   have hsize:∀w:World,(sizeOf (P.elem t)).run P w= .ok sz w:=fun w=>by rw [he];simp [sizeOf,typeInfo,hi',his]
   have hsl':sliced (some ⟨b,0,none⟩) l hh cap sz= .slice (some ⟨b,l*sz,none⟩) (hh - l) (cap - l):=by
    unfold sliced
    rw [if_neg (by omega)]
    simp [Addr.add_lit]
   have hl0:lo=none->l=0:=fun e0=>by
    have:=m4 (fun a _=>a=l) rfl
    subst e0
    unfold oW at this
    grind
   refine ⟨.slice (some ⟨b,l*sz,none⟩) (hh - l) (cap - l),?_,?_⟩
   ·rw [<-hsl']
    simp only [execOp,ho,hv,Sem.run_bind,run_sliceAt_slice w t _ _ _ _ hut,run_slice_any w t _ n cap hut,q4 true,Result.andThen_ok,hsize,Option.map_none]
    rfl
   ·cases lo with
    | none=>
     obtain rfl:=hl0 rfl
     simpa using RepV.hsl b hh cap (by omega) hmax (by omega)
    |some y=>exact .hso b (l*sz) (hh - l) (cap - l) (by omega) (by omega) (by omega) (by omega)
  ·exact h.elim
 ·rename_i b off n hx
  split at h
  ·rename_i e sz hsl
   obtain ⟨hu,hsz,i,hi',his⟩:=ju hsl
   have he:P.elem t=e:=by simp [Program.elem,hu]
   have hut:P.underlying t=some (.slice (P.elem t)):=by rw [he];exact hu
   obtain ⟨l,hh,⟨m0,m1⟩,m2,m3,m4⟩:=main _ _ h
   refine ⟨_,m1,qu fun K w σ hk hH hr=>?_⟩
   obtain ⟨cap,hv,hpos,hcap,hmax,hbig⟩:=(hx▸hr x hmx).hso_inv
   obtain ⟨l',hh',q1,q2,q3,q4⟩:=bnd (kk:=fun a b=>l=a∧hh=b) hr hcap (m4 _ ⟨rfl,rfl⟩)
   obtain ⟨rfl,rfl⟩:=q1
   have hsize:∀w:World,(sizeOf (P.elem t)).run P w= .ok sz w:=fun w=>by rw [he];simp [sizeOf,typeInfo,hi',his]
   have hsl':sliced (some ⟨b,off,none⟩) l hh cap sz= .slice (some ⟨b,off+l*sz,none⟩) (hh - l) (cap - l):=by
    unfold sliced
    rw [if_neg (by omega)]
    simp [Addr.add_lit]
   refine ⟨.slice (some ⟨b,off+l*sz,none⟩) (hh - l) (cap - l),?_,.hso b (off+l*sz) (hh - l) (cap - l) (by omega) (by omega) (by omega) (by omega)⟩
   rw [<-hsl']
   simp only [execOp,ho,hv,Sem.run_bind,run_sliceAt_slice w t _ _ _ _ hut,run_slice_any w t _ n cap hut,q4 true,Result.andThen_ok,hsize,Option.map_none]
   rfl
  ·exact h.elim
 ·rename_i b off hx
  split at h
  ·rename_i m sz har
   obtain ⟨hm,h⟩:=h
   obtain ⟨e,hu,hsz,hm1,i,hi',his⟩:=uB har
   obtain ⟨l,hh,⟨m0,m1⟩,m2,m3,m4⟩:=main _ _ h
   refine ⟨_,m1,qu fun K w σ hk hH hr=>?_⟩
   have hv:=(hx▸hr x hmx).ptr_inv
   obtain ⟨l',hh',q1,q2,q3,q4⟩:=bnd (kk:=fun a b=>l=a∧hh=b) hr (Nr _) (m4 _ ⟨rfl,rfl⟩)
   obtain ⟨rfl,rfl⟩:=q1
   have hsize:∀w:World,(sizeOf e).run P w= .ok sz w:=fun w=>by simp [sizeOf,typeInfo,hi',his]
   refine ⟨.slice (some ⟨b,off+l*sz,none⟩) (hh - l) (m - l),?_,.hso b (off+l*sz) (hh - l) (m - l) (by omega) (by omega) (by unfold maxLen;omega) (by unfold big;omega)⟩
   simp only [execOp,ho,hv,Sem.run_bind,Instr.sliceAt,run_underlying hu,Result.andThen_ok,Instr.sureAddr,Sem.run_pure,q4 false,hsize,Option.map_none,if_neg (show ¬m=l by omega),Addr.add_lit]
  ·exact h.elim
 ·exact h.elim
theorem GD {t:TypeId} (ho:o.op= .slice t x lo (some hi) (some mx)) (h:qY P ρ H (.slice t x lo (some hi) (some mx)) k) (hcur:Cur o H ρ):∃d,k d∧Yields P o H ρ d:=by
 simp only [qY] at h
 have hmx:x∈o.op.operands.toList:=by simp [ho,Op.operands]
 have hmh:hi∈o.op.operands.toList:=by simp [ho,Op.operands]
 have hmm:mx∈o.op.operands.toList:=by simp [ho,Op.operands]
 have fin:∀(vlo:(Operand->Value)->Option Value) (K:Nat->BK) (w:World) (σ:Operand->Value) (kh km:IntKind) (xs:List (List D)),(vlo σ=none∨∃kl,vlo σ=some (.int kl 0))->lo.map σ=vlo σ->(yb P t).isSome=true->RepV K w (.slc xs) (σ x)->σ hi= .int kh 0->σ mx= .int km 0->
   ∃v,(execOp σ o).run P w= .ok (.value v) w∧OwnAt K w (.slot 0 0) [] v∧∃a,v= .slice a 0 0:=by
  intro vlo K w σ kh km xs hvl hlo hsl hrx hh hm
  obtain ⟨⟨e,sz⟩,hsl⟩:=Option.isSome_iff_exists.1 hsl
  obtain ⟨hu,hsz,i,hi',his⟩:=ju hsl
  have he:P.elem t=e:=by simp [Program.elem,hu]
  have hut:P.underlying t=some (.slice (P.elem t)):=by rw [he];exact hu
  obtain ⟨a,cap,hv,hcap,hmax⟩:=hrx.slc_form
  have hsize:∀w:World,(sizeOf (P.elem t)).run P w= .ok sz w:=fun w=>by rw [he];simp [sizeOf,typeInfo,hi',his]
  have hb:(Instr.sliceBounds true xs.length cap (lo.map σ) (some (.int kh 0)) (some (.int km 0))).run P w= .ok (0,0,0) w:=by
   rw [hlo]
   rcases hvl with h0|⟨kl,h0⟩<;>rw [h0]<;>simp [Instr.sliceBounds,run_sliceBound_if]
  refine ⟨.slice a 0 0,?_,.inl ⟨rfl,a,rfl⟩,a,rfl⟩
  simp only [execOp,ho,hv,hh,hm,Sem.run_bind,run_sliceAt_slice w t _ _ _ _ hut,run_slice_any w t a xs.length cap hut,Option.map_some,hb,Result.andThen_ok,hsize,sliced]
  simp
 have yields:(∀(K:Nat->BK) (w:World) (σ:Operand->Value),(∀x∈o.op.operands.toList,RepV K w (ρ x) (σ x))->∃v,(execOp σ o).run P w= .ok (.value v) w∧∃a,v= .slice a 0 0)->Yields P o H ρ (.own []):=by
  intro hh K w σ i hk hH hr
  obtain ⟨v,h1,a,rfl⟩:=hh K w σ hr
  exact ⟨_,K,w,h1,.refl K w,hk,.inl ⟨rfl,a,rfl⟩⟩
 split at h
 ·rename_i kh h' km m hlo hhi hm
  obtain ⟨rfl,rfl,hsl,⟨xs,hx⟩,h⟩:=h
  refine ⟨_,h,yields fun K w σ hr=>?_⟩
  have hl0:lo=none:=by cases lo<;>simp at hlo;rfl
  obtain ⟨v,e1,_,e2⟩:=fin (fun _=>none) K w σ kh km xs (.inl rfl) (by rw [hl0];rfl) hsl (hx▸hr x hmx) (hhi▸hr hi hmh).int_inv.1 (hm▸hr mx hmm).int_inv.1
  exact ⟨v,e1,e2⟩
 ·rename_i kl l kh h' km m hlo hhi hm
  obtain ⟨rfl,rfl,rfl,hsl,⟨xs,hx⟩,h⟩:=h
  refine ⟨_,h,yields fun K w σ hr=>?_⟩
  cases lo with
  |none=>simp at hlo
  | some y=>
   simp only [Option.map_some,Option.some.injEq] at hlo
   have hy:=(hlo▸hr y (by simp [ho,Op.operands])).int_inv.1
   obtain ⟨v,e1,_,e2⟩:=fin (fun σ=>some (σ y)) K w σ kh km xs (.inr ⟨kl,by simp only [hy]⟩) rfl hsl (hx▸hr x hmx) (hhi▸hr hi hmh).int_inv.1 (hm▸hr mx hmm).int_inv.1
   grind
 ·exact h.elim
theorem YJ {t:TypeId} (ho:o.op= .indexAddr t x i) (h:qY P ρ H (.indexAddr t x i) k) (hcur:Cur o H ρ):∃d,k d∧Yields P o H ρ d:=by
 simp only [qY] at h
 have hmx:x∈o.op.operands.toList:=by simp [ho,Op.operands]
 have hmi:i∈o.op.operands.toList:=by simp [ho,Op.operands]
 have key:∀{xs:List (List D)} {ki:IntKind} {n:Int},(∀(K:Nat->BK) (w:World) (v:Value),RepV K w (ρ x) v->RepV K w (.slc xs) v)->ρ i= .int ki n->(match yb P t with
   |some (_,sz)=>0<=n∧n<(xs.length:Int)∧(xs.getD n.toNat []).length=sz∧k (.eptr (xs.getD n.toNat []))
   |none=>False)->∃d,k d∧Yields P o H ρ d:=by
  intro xs ki n hx hi h
  split at h
  ·rename_i e sz hsl
   obtain ⟨h0,hlt,hlen,h⟩:=h
   obtain ⟨hu,hsz,info,hinf,his⟩:=ju hsl
   have he:P.elem t=e:=by simp [Program.elem,hu]
   have hut:P.underlying t=some (.slice (P.elem t)):=by rw [he];exact hu
   have hsize:∀w:World,(sizeOf (P.elem t)).run P w= .ok sz w:=fun w=>by rw [he];simp [sizeOf,typeInfo,hinf,his]
   have hn:n.toNat<xs.length:=by omega
   have hget:xs[n.toNat]?=some (xs.getD n.toNat []):=by simp [List.getD,Na hn]
   refine ⟨_,h,qu fun K w σ hk hh hr=>?_⟩
   obtain hv:=(hi▸hr i hmi).int_inv.1
   rcases (hx _ _ _ (hr x hmx)).slc_inv with ⟨rfl,_⟩|⟨b,off,cap,sz',f,hvx,hc,hm,hs,hvis,hcell,hone,hrep⟩
   ·simp at hn
   ·have hszz:sz'=sz:=by rw [<-hs _ _ hget,hlen]
    subst hszz
    refine ⟨.pointer (some ⟨b,off+n.toNat*sz',none⟩),?_,.eptr _ b (off+n.toNat*sz') (fun j=>f n.toNat j) (K4 hvis (Nat.le_add_right _ _) ?_) (fun j d hj=>?_) (fun j d hj=>hone _ _ hget j d hj) (fun j d hj=>hrep _ _ hget j d hj)⟩
    ·simp only [execOp,ho,hv,hvx,Sem.run_bind,run_indexAt_slice w t ⟨b,off,none⟩ xs.length cap ki n hut,if_pos (And.intro h0 hlt),hsize,Result.andThen_ok,Addr.add_lit]
     rfl
    ·rw [hlen]
     have:(n.toNat+1)*sz'<=xs.length*sz':=Nat.mul_le_mul_right _ hn
     rw [Nat.add_mul] at this
     omega
    ·rw [<-hcell _ _ hget j d hj]
     congr 2
     omega
  ·exact h.elim
 split at h
 ·rename_i xs ki n hx hi
  exact key (fun K w v h'=>hx▸h') hi h
 ·rename_i b m ki n hx hi
  split at h
  ·rename_i e sz hsl
   obtain ⟨h0,hlt,h⟩:=h
   obtain ⟨hu,hsz,info,hinf,his⟩:=ju hsl
   have he:P.elem t=e:=by simp [Program.elem,hu]
   have hut:P.underlying t=some (.slice (P.elem t)):=by rw [he];exact hu
   have hsize:∀w:World,(sizeOf (P.elem t)).run P w= .ok sz w:=fun w=>by rw [he];simp [sizeOf,typeInfo,hinf,his]
   refine ⟨_,h,qu fun K w σ hk hh hr=>⟨.pointer (some ⟨b,n.toNat*sz,none⟩),?_,.ptr _ _⟩⟩
   obtain ⟨cap,hvx,_,_,_⟩:=(hx▸hr x hmx).hsl_inv
   simp only [execOp,ho,(hi▸hr i hmi).int_inv.1,hvx,Sem.run_bind,run_indexAt_slice w t ⟨b,0,none⟩ m cap ki n hut,if_pos (And.intro h0 hlt),hsize,Result.andThen_ok,Addr.add_lit,Nt]
   rfl
  ·exact h.elim
 ·rename_i b off ki n hx hi
  split at h
  ·rename_i m sz har
   obtain ⟨h0,hlt,h⟩:=h
   obtain ⟨e,hu,hsz,hm1,info,hinf,his⟩:=uB har
   have he:P.elem t=e:=by simp [Program.elem,hu]
   have hal:P.arrayLen t=m:=by simp [Program.arrayLen,hu]
   have hut:P.underlying t=some (.array (P.arrayLen t) (P.elem t)):=by rw [he,hal];exact hu
   have hsize:∀w:World,(sizeOf (P.elem t)).run P w= .ok sz w:=fun w=>by rw [he];simp [sizeOf,typeInfo,hinf,his]
   refine ⟨_,h,qu fun K w σ hk hh hr=>⟨.pointer (some ⟨b,off+n.toNat*sz,none⟩),?_,.ptr _ _⟩⟩
   have hlt':n<(P.arrayLen t:Int):=by rw [hal];exact hlt
   simp only [execOp,ho,(hi▸hr i hmi).int_inv.1,(hx▸hr x hmx).ptr_inv,Sem.run_bind,run_indexAt_array w t ⟨b,off,none⟩ ki n hut,if_pos (And.intro h0 hlt'),hsize,Result.andThen_ok,Addr.add_lit]
   rfl
  ·exact h.elim
 ·rename_i cs ki n hx hi
  split at h
  ·rename_i m sz har
   obtain ⟨h0,hlt,hle,h⟩:=h
   obtain ⟨e,hu,hsz,hm1,info,hinf,his⟩:=uB har
   have he:P.elem t=e:=by simp [Program.elem,hu]
   have hal:P.arrayLen t=m:=by simp [Program.arrayLen,hu]
   have hut:P.underlying t=some (.array (P.arrayLen t) (P.elem t)):=by rw [he,hal];exact hu
   have hsize:∀w:World,(sizeOf (P.elem t)).run P w= .ok sz w:=fun w=>by rw [he];simp [sizeOf,typeInfo,hinf,his]
   refine ⟨_,h,qu fun K w σ hk hh hr=>?_⟩
   obtain ⟨b,ob,g,hvx,hvis,hcell,hone,hrep⟩:=(hx▸hr x hmx).eptr_inv
   have hd:∀(j:Nat) (d:D),(cs.drop (n.toNat*sz))[j]?=some d->cs[n.toNat*sz+j]?=some d:=fun j d hj=>by rwa [List.getElem?_drop] at hj
   have hlt':n<(P.arrayLen t:Int):=by rw [hal];exact hlt
   refine ⟨.pointer (some ⟨b,ob+n.toNat*sz,none⟩),?_,.eptr _ b (ob+n.toNat*sz) (fun j=>g (n.toNat*sz+j)) (K4 hvis (Nat.le_add_right _ _) (by rw [List.length_drop];omega)) (fun j d hj=>?_) (fun j d hj=>hone _ d (hd j d hj)) (fun j d hj=>hrep _ d (hd j d hj))⟩
   ·simp only [execOp,ho,(hi▸hr i hmi).int_inv.1,hvx,Sem.run_bind,run_indexAt_array w t ⟨b,ob,none⟩ ki n hut,if_pos (And.intro h0 hlt'),hsize,Result.andThen_ok,Addr.add_lit]
    rfl
   ·rw [Nat.add_assoc];exact hcell _ d (hd j d hj)
  ·exact h.elim
 ·rename_i b off m ki n hx hi
  split at h
  ·rename_i e sz hsl
   obtain ⟨h0,hlt,h⟩:=h
   obtain ⟨hu,hsz,info,hinf,his⟩:=ju hsl
   have he:P.elem t=e:=by simp [Program.elem,hu]
   have hut:P.underlying t=some (.slice (P.elem t)):=by rw [he];exact hu
   have hsize:∀w:World,(sizeOf (P.elem t)).run P w= .ok sz w:=fun w=>by rw [he];simp [sizeOf,typeInfo,hinf,his]
   refine ⟨_,h,qu fun K w σ hk hh hr=>⟨.pointer (some ⟨b,off+n.toNat*sz,none⟩),?_,.ptr _ _⟩⟩
   obtain ⟨cap,hvx,_,_,_⟩:=(hx▸hr x hmx).hso_inv
   simp only [execOp,ho,(hi▸hr i hmi).int_inv.1,hvx,Sem.run_bind,run_indexAt_slice w t ⟨b,off,none⟩ m cap ki n hut,if_pos (And.intro h0 hlt),hsize,Result.andThen_ok,Addr.add_lit]
   rfl
  ·exact h.elim
 ·rename_i b c xs ki n hx hi
  exact key (fun K w v h'=>by rw [hx] at h';cases h'<;>first|assumption|exact .slcnil _) hi h
 ·rename_i b m cp ki n hx hi
  split at h
  ·rename_i e sz hsl
   obtain ⟨h0,hlt,h⟩:=h
   obtain ⟨hu,hsz,info,hinf,his⟩:=ju hsl
   have he:P.elem t=e:=by simp [Program.elem,hu]
   have hut:P.underlying t=some (.slice (P.elem t)):=by rw [he];exact hu
   have hsize:∀w:World,(sizeOf (P.elem t)).run P w= .ok sz w:=fun w=>by rw [he];simp [sizeOf,typeInfo,hinf,his]
   refine ⟨_,h,qu fun K w σ hk hh hr=>⟨.pointer (some ⟨b,n.toNat*sz,none⟩),?_,.ptr _ _⟩⟩
   obtain ⟨hvx,_,_,_⟩:=(hx▸hr x hmx).hgs_inv
   simp only [execOp,ho,(hi▸hr i hmi).int_inv.1,hvx,Sem.run_bind,run_indexAt_slice w t ⟨b,0,none⟩ m cp ki n hut,if_pos (And.intro h0 hlt),hsize,Result.andThen_ok,Addr.add_lit,Nt]
   rfl
  ·exact h.elim
 ·exact h.elim
theorem bj {t:TypeId} (ho:o.op= .index t x i) (h:qY P ρ H (.index t x i) k) (hcur:Cur o H ρ):∃d,k d∧Yields P o H ρ d:=by
 simp only [qY] at h
 have hmx:x∈o.op.operands.toList:=by simp [ho,Op.operands]
 have hmi:i∈o.op.operands.toList:=by simp [ho,Op.operands]
 split at h
 ·rename_i s ki n hx hi
  obtain ⟨hst,h0,hlt,h⟩:=h
  have hu:=vo hst
  refine ⟨_,h,qu fun K w σ hk hh hr=>⟨.int .u8 (s.getD n.toNat 0).toNat,?_,.int _ _ ?_⟩⟩
  ·have hn:n.toNat<s.length:=by omega
   have hg:(⟨⟨s⟩⟩:ByteArray)[n.toNat]?=some (s.getD n.toNat 0):=by
    show (if h:n.toNat<(⟨⟨s⟩⟩:ByteArray).size then some (⟨⟨s⟩⟩:ByteArray)[n.toNat] else none)=_
    have hsz:(⟨⟨s⟩⟩:ByteArray).size=s.length:=rfl
    rw [dif_pos (by rw [hsz];exact hn)]
    simp [List.getD,Na hn]
    rfl
   simp only [execOp,ho,(hi▸hr i hmi).int_inv.1,(hx▸hr x hmx).str_inv.1,Sem.run_bind,Instr.index,asIntOf,Sem.run_pure,Result.andThen_ok,run_underlying hu,if_pos h0,hg]
  ·have:=(s.getD n.toNat 0).toNat_lt
   exact WalkArith.wf_u8 (by omega)
 ·rename_i cs ki n hx hi
  split at h
  ·rename_i m sz har hel
   obtain ⟨rfl,h0,hlt,hle,h⟩:=h
   obtain ⟨e,hu,hsz,hm1,info,hinf,his⟩:=uB har
   obtain ⟨nn,hty⟩:∃nn,yr P e=some (false,nn):=by
    simp only [BE,hu] at hel
    split at hel
    ·rename_i b nn hty
     cases hel
     exact ⟨nn,hty⟩
    ·cases hel
   have hn:n.toNat<cs.length:=by omega
   have hget:cs[n.toNat]?=some (cs.getD n.toNat .any):=by simp [List.getD,Na hn]
   have key:∀(K:Nat->BK) (w:World) (v:Value),RepV K w (ρ x) v->∃(vs:Array Value) (u:Value),v= .agg vs∧vs[n.toNat]?=some u∧RepV K w (cs.getD n.toNat .any) u:=by
    intro K w v hr
    obtain ⟨vs,rfl,hl,ho,hrr⟩:=(hx▸hr).agg_inv
    have hlt:n.toNat<vs.size:=by omega
    exact ⟨vs,vs[n.toNat],rfl,Nv hlt,hrr _ _ _ hget (Nv hlt)⟩
   obtain ⟨K0,w0,σ0,hk0,hh0,hr0⟩:=hcur
   obtain ⟨vs0,u0,_,_,hu0⟩:=key _ _ _ (hr0 x hmx)
   refine ⟨_,h hu0.fact,qu fun K w σ hk hh hr=>?_⟩
   obtain ⟨vs,u,hv,hu1,hu2⟩:=key _ _ _ (hr x hmx)
   refine ⟨u,?_,hu2⟩
   have hia:=(wW hty).1
   have hsize:∀w:World,(sizeOf e).run P w= .ok 1 w:=fun w=>by simp [sizeOf,typeInfo,hinf,his]
   simp only [execOp,ho,(hi▸hr i hmi).int_inv.1,hv,Sem.run_bind,Instr.index,asIntOf,Sem.run_pure,Result.andThen_ok,run_underlying hu,if_pos (And.intro h0 hlt),hsize,Nat.mul_one,part,hia,Bool.false_eq_true,if_false,hu1]
  ·exact h.elim
 ·exact h.elim
theorem pK:∀{xs:List (List D)},(∀x∈xs,x.length=1)->xs.flatten.length=xs.length∧∀(j:Nat) (d:D),xs.flatten[j]?=some d->xs[j]?=some [d]
 | [],_=>⟨rfl,fun j d h=>by simp at h⟩
 | x::xs,h=>by
  obtain ⟨h1,h2⟩:=pK (xs:=xs) fun y hy=>h y (.tail _ hy)
  have hx:=h x (.head _)
  match x,hx with
  | [e],_=>
   refine ⟨by simp [h1],fun j d hj=>?_⟩
   cases j with
   |zero=>simpa using hj
   |succ j=>simpa using h2 j d (by simpa using hj)
theorem nk {t:TypeId} (ho:o.op= .sliceToArrayPointer t x) (h:qY P ρ H (.sliceToArrayPointer t x) k) (hcur:Cur o H ρ):∃d,k d∧Yields P o H ρ d:=by
 simp only [qY] at h
 have hmx:x∈o.op.operands.toList:=by simp [ho,Op.operands]
 split at h
 ·rename_i m sz b off n har hx
  obtain ⟨hm,h⟩:=h
  obtain ⟨e,hu,hsz,hm1,info,hinf,his⟩:=uB har
  refine ⟨_,h,qu fun K w σ hk hh hr=>⟨.pointer (some ⟨b,off,none⟩),?_,.ptr _ _⟩⟩
  obtain ⟨cap,hv,_,_,_,_⟩:=(hx▸hr x hmx).hso_inv
  simp only [execOp,ho,hv,Sem.run_bind,Instr.arrayAt,run_underlying hu,Result.andThen_ok,if_neg (show ¬n<m by omega),Sem.run_pure]
 ·rename_i m sz xs har hx
  obtain ⟨rfl,hm,hall,h⟩:=h
  obtain ⟨e,hu,hsz,hm1,info,hinf,his⟩:=uB har
  obtain ⟨f1,f2⟩:=pK (xs:=xs.take m) fun y hy=>hall y (List.mem_of_mem_take hy)
  refine ⟨_,h,qu fun K w σ hk hh hr=>?_⟩
  rcases (hx▸hr x hmx).slc_inv with ⟨rfl,_⟩|⟨b,off,cap,sz',f,hv,hc,hmx',hs,hvis,hcell,hone,hrep⟩
  ·simp at hm;omega
  ·have hl:(xs.take m).length=m:=by simp;omega
   have hs1:sz'=1:=by
    have h0:=Na (show 0<xs.length by omega)
    rw [<-hs 0 _ h0]
    exact hall _ (Nl h0)
   subst hs1
   have hx1:∀(j:Nat) (d:D),(xs.take m).flatten[j]?=some d->xs[j]?=some [d]:=fun j d hj=>by
    have:=f2 j d hj
    rw [List.getElem?_take] at this
    split at this
    ·exact this
    ·cases this
   refine ⟨.pointer (some ⟨b,off,none⟩),?_,.eptr _ b off (fun j=>f j 0) (K4 hvis (Nr _) (by rw [f1,hl];omega)) (fun j d hj=>?_) (fun j d hj=>hone j _ (hx1 j d hj) 0 d rfl) (fun j d hj=>hrep j _ (hx1 j d hj) 0 d rfl)⟩
   ·simp only [execOp,ho,hv,Sem.run_bind,Instr.arrayAt,run_underlying hu,Result.andThen_ok,if_neg (show ¬xs.length<m by omega),Sem.run_pure]
   ·have:=hcell j _ (hx1 j d hj) 0 d rfl
    simpa using this
 ·exact h.elim
theorem Vl (ho:o.op= .nilCheck x) (h:qY P ρ H (.nilCheck x) k) (hcur:Cur o H ρ):∃d,k d∧Yields P o H ρ d:=by
 simp only [qY] at h
 have hmx:x∈o.op.operands.toList:=by simp [ho,Op.operands]
 split at h
 ·rename_i b ob hx
  refine ⟨_,h,qu fun K w σ hk hh hr=>⟨_,?_,.ptr _ _⟩⟩
  simp only [execOp,ho,(hx▸hr x hmx).ptr_inv]
  rfl
 ·rename_i cs hx
  refine ⟨_,h,qu fun K w σ hk hh hr=>⟨σ x,?_,hx▸hr x hmx⟩⟩
  obtain ⟨b,ob,g,hvx,_⟩:=(hx▸hr x hmx).eptr_inv
  simp only [execOp,ho,hvx]
  rfl
 ·rename_i f cs hx
  refine ⟨_,h,qu fun K w σ hk hh hr=>⟨σ x,?_,hx▸hr x hmx⟩⟩
  obtain ⟨fs,vs,hvx,_⟩:=(hx▸hr x hmx).fn_call
  simp only [execOp,ho,hvx]
  rfl
 ·exact h.elim
theorem vS (ho:o.op= .call c) (hr:∀x∈o.op.operands.toList,RepV K w (ρ x) (σ x)):
  (c.args.map σ).size=(c.args.toList.map ρ).length∧∀(j:Nat) (d:D) (v:Value),(c.args.toList.map ρ)[j]?=some d->(c.args.map σ)[j]?=some v->RepV K w d v:=by
 refine ⟨by simp,fun j d v hd hv=>?_⟩
 simp only [Nb,Array.getElem?_toList,Array.getElem?_map,Nk] at hd hv
 obtain ⟨x,h1,rfl⟩:=hd
 obtain ⟨y,h2,rfl⟩:=hv
 rw [h1] at h2
 obtain rfl:=Option.some.inj h2
 exact hr x (by simp only [ho,Op.operands,Call.operands,Array.toList_append,List.mem_append];exact .inr (by simpa using Array.mem_of_getElem? h1))
theorem Qx (h:vs.size=1):∃v,vs=#[v]:=by
 obtain ⟨l⟩:=vs
 match l,h with
 | [v],_=>exact ⟨v,rfl⟩
theorem Zy (h:vs.size=2):∃u v,vs=#[u,v]:=by
 obtain ⟨l⟩:=vs
 match l,h with
 | [u,v],_=>exact ⟨u,v,rfl⟩
theorem uN {t:TypeId} (h:ts.toList= [t]):ts=#[t]:=by
 grind
theorem fQ (ho:o.op= .call c) (h:qY P ρ H (.call c) k) (hcur:Cur o H ρ):∃d,k d∧Yields P o H ρ d:=by
 simp only [qY] at h
 obtain ⟨K0,w0,σ0,hk0,hh0,hr0⟩:=hcur
 have run:∀(b:Builtin) (σ:Operand->Value) (w w':World) (r:Value),c.callee= .builtin b->(builtin b c.argTypes o.type (c.args.map fun| .const _=>true|_=>false) (c.args.map σ)).run P w= .ok (.value r) w'->(execOp σ o).run P w= .ok (.value r) w':=by
  intro b σ w w' r hb hrun
  simp only [execOp,ho,resolve,hb,Sem.run_bind,Sem.run_pure,Result.andThen_ok,invoke]
  exact hrun
 split at h
 ·rename_i xs t hb ha ht
  obtain ⟨hsl,h⟩:=h
  obtain ⟨⟨e,sz⟩,hsl⟩:=Option.isSome_iff_exists.1 hsl
  obtain ⟨hu,hsz,info,hinf,his⟩:=ju hsl
  have key:∀(K:Nat->BK) (w:World) (σ:Operand->Value),(∀x∈o.op.operands.toList,RepV K w (ρ x) (σ x))->∃v,c.args.map σ=#[v]∧RepV K w (.slc xs) v:=by
   intro K w σ hr
   obtain ⟨h1,h2⟩:=vS ho hr
   rw [ha] at h1 h2
   obtain ⟨v,hv⟩:=Qx h1
   exact ⟨v,hv,h2 0 _ v rfl (by rw [hv];rfl)⟩
  obtain ⟨_,_,hf⟩:=key K0 w0 σ0 hr0
  refine ⟨_,h hf.fact,qu fun K w σ hk hh hr=>?_⟩
  obtain ⟨v,hv,hrv⟩:=key K w σ hr
  obtain ⟨a,cap,rfl,hc,hm⟩:=hrv.slc_form
  refine ⟨.int .i64 xs.length,run _ σ w w _ hb ?_,.int _ _ ?_⟩
  ·have hlen:=run_len_slice (P:=P) w t o.type a xs.length cap (by simp [Program.elem,hu])
   simp only [builtin,uN ht,hv,Sem.run_bind,hlen,Result.andThen_ok]
   rfl
  ·have:=hrv.slc_big
   exact WalkArith.wf_i64 (by unfold big at this;omega)
 ·rename_i bb m t hb ha ht
  obtain ⟨hsl,h⟩:=h
  obtain ⟨⟨e,sz⟩,hsl⟩:=Option.isSome_iff_exists.1 hsl
  obtain ⟨hu,hsz,info,hinf,his⟩:=ju hsl
  refine ⟨_,h,qu fun K w σ hk hh hr=>?_⟩
  obtain ⟨h1,h2⟩:=vS ho hr
  rw [ha] at h1 h2
  obtain ⟨v,hv⟩:=Qx h1
  obtain ⟨cap,rfl,hc,hm,hbg⟩:=(h2 0 _ v rfl (by rw [hv];rfl)).hsl_inv
  refine ⟨.int .i64 m,run _ σ w w _ hb ?_,.int _ _ (WalkArith.wf_i64 (by unfold big at hbg;omega))⟩
  have hlen:=run_len_slice (P:=P) w t o.type (some ⟨bb,0,none⟩) m cap (by simp [Program.elem,hu])
  simp only [builtin,uN ht,hv,Sem.run_bind,hlen,Result.andThen_ok]
  rfl
 ·rename_i bb off m t hb ha ht
  obtain ⟨hsl,h⟩:=h
  obtain ⟨⟨e,sz⟩,hsl⟩:=Option.isSome_iff_exists.1 hsl
  obtain ⟨hu,hsz,info,hinf,his⟩:=ju hsl
  refine ⟨_,h,qu fun K w σ hk hh hr=>?_⟩
  obtain ⟨h1,h2⟩:=vS ho hr
  rw [ha] at h1 h2
  obtain ⟨v,hv⟩:=Qx h1
  obtain ⟨cap,rfl,_,hc,hm,hbg⟩:=(h2 0 _ v rfl (by rw [hv];rfl)).hso_inv
  refine ⟨.int .i64 m,run _ σ w w _ hb ?_,.int _ _ (WalkArith.wf_i64 (by unfold big at hbg;omega))⟩
  have hlen:=run_len_slice (P:=P) w t o.type (some ⟨bb,off,none⟩) m cap (by simp [Program.elem,hu])
  simp only [builtin,uN ht,hv,Sem.run_bind,hlen,Result.andThen_ok]
  rfl
 ·rename_i bb m cp t hb ha ht
  obtain ⟨hsl,h⟩:=h
  obtain ⟨⟨e,sz⟩,hsl⟩:=Option.isSome_iff_exists.1 hsl
  obtain ⟨hu,hsz,info,hinf,his⟩:=ju hsl
  refine ⟨_,h,qu fun K w σ hk hh hr=>?_⟩
  obtain ⟨h1,h2⟩:=vS ho hr
  rw [ha] at h1 h2
  obtain ⟨v,hv⟩:=Qx h1
  obtain ⟨rfl,hc,hm,hbg⟩:=(h2 0 _ v rfl (by rw [hv];rfl)).hgs_inv
  refine ⟨.int .i64 m,run _ σ w w _ hb ?_,.int _ _ (WalkArith.wf_i64 (by unfold big at hbg;omega))⟩
  have hlen:=run_len_slice (P:=P) w t o.type (some ⟨bb,0,none⟩) m cp (by simp [Program.elem,hu])
  simp only [builtin,uN ht,hv,Sem.run_bind,hlen,Result.andThen_ok]
  rfl
 ·rename_i s t hb ha ht
  obtain ⟨hst,h⟩:=h
  have hu:=vo hst
  have key:∀(K:Nat->BK) (w:World) (σ:Operand->Value),(∀x∈o.op.operands.toList,RepV K w (ρ x) (σ x))->∃v,c.args.map σ=#[v]∧RepV K w (.str s) v:=by
   intro K w σ hr
   obtain ⟨h1,h2⟩:=vS ho hr
   rw [ha] at h1 h2
   obtain ⟨v,hv⟩:=Qx h1
   exact ⟨v,hv,h2 0 _ v rfl (by rw [hv];rfl)⟩
  obtain ⟨_,_,hf⟩:=key K0 w0 σ0 hr0
  refine ⟨_,h hf.fact,qu fun K w σ hk hh hr=>?_⟩
  obtain ⟨v,hv,hrv⟩:=key K w σ hr
  obtain ⟨rfl,hbg⟩:=hrv.str_inv
  refine ⟨.int .i64 s.length,run _ σ w w _ hb ?_,.int _ _ (WalkArith.wf_i64 (by unfold big at hbg;omega))⟩
  have hlen:(Builtin.len_ #[t] o.type #[.string ⟨⟨s⟩⟩]).run P w= .ok (.int .i64 s.length) w:=by
   simp [Builtin.len_,run_underlying hu,goInt]
   rfl
  simp only [builtin,uN ht,hv,Sem.run_bind,hlen,Result.andThen_ok]
  rfl
 ·rename_i ts kd a kd' b hb ha
  obtain ⟨rfl,h⟩:=h
  refine ⟨_,h,qu fun K w σ hk hh hr=>?_⟩
  obtain ⟨h1,h2⟩:=vS ho hr
  rw [ha] at h1 h2
  obtain ⟨u,v,hv⟩:=Zy h1
  obtain ⟨rfl,r1⟩:=(h2 0 _ u rfl (by rw [hv];rfl)).int_inv
  obtain ⟨rfl,r2⟩:=(h2 1 _ v rfl (by rw [hv];rfl)).int_inv
  refine ⟨.int kd (if b>a then b else a),run _ σ w w _ hb ?_,.int _ _ (by split<;>assumption)⟩
  have hlen:∀ts ty,(Builtin.max_ ts ty #[.int kd a,.int kd b]).run P w= .ok (.int kd (if b>a then b else a)) w:=fun ts ty=>by
   simp [Builtin.max_,Builtin.max2]
  simp only [builtin,hv,Sem.run_bind,hlen,Result.andThen_ok]
  rfl
 ·rename_i ts kd a kd' b hb ha
  obtain ⟨rfl,h⟩:=h
  refine ⟨_,h,qu fun K w σ hk hh hr=>?_⟩
  obtain ⟨h1,h2⟩:=vS ho hr
  rw [ha] at h1 h2
  obtain ⟨u,v,hv⟩:=Zy h1
  obtain ⟨rfl,r1⟩:=(h2 0 _ u rfl (by rw [hv];rfl)).int_inv
  obtain ⟨rfl,r2⟩:=(h2 1 _ v rfl (by rw [hv];rfl)).int_inv
  refine ⟨.int kd (if b<a then b else a),run _ σ w w _ hb ?_,.int _ _ (by split<;>assumption)⟩
  have hlen:∀ts ty,(Builtin.min_ ts ty #[.int kd a,.int kd b]).run P w= .ok (.int kd (if b<a then b else a)) w:=fun ts ty=>by
   simp [Builtin.min_,Builtin.min2]
  simp only [builtin,hv,Sem.run_bind,hlen,Result.andThen_ok]
  rfl
 ·exact h.elim
theorem gL (h:qY P ρ H o.op k) (hcur:Cur o H ρ):∃d,k d∧Yields P o H ρ d:=by
 cases ho:o.op
 case makeFunc fn first caps=>
  rw [ho] at h
  cases fn<;>first
   |exact V2 ho h hcur
   |(simp only [qY] at h)
 case slice t x lo hi mx=>
  rw [ho] at h
  cases mx with
  |none=>exact cG ho h hcur
  | some mx=>cases hi with
   |none=>cases lo<;>simp only [qY] at h
   |some hi=>exact GD ho h hcur
 all_goals
  rw [ho] at h
  first
   |exact iA ho h hcur
   |exact bh ho h hcur
   |exact Yq ho h hcur
   |exact ed ho h hcur
   |exact mC ho h hcur
   |exact tT ho h hcur
   |exact Z8 ho h hcur
   |exact YT ho h hcur
   |exact YF ho h hcur
   |exact bC ho h hcur
   |exact YJ ho h hcur
   |exact bj ho h hcur
   |exact Gr ho h hcur
   |exact Vl ho h hcur
   |exact nk ho h hcur
   |exact fQ ho h hcur
   |(simp only [qY] at h)
end
end Go.Aw
end
section
namespace Go.Aw
open Go Go.RowKit
structure FK (K:Nat->BK) (w:World) (K':Nat->BK) (w':World):Prop where
  ext:ExtV K w K' w'
  own:∀b n,K b= .tok n .outer->K' b= .tok n .outer∧w'.heap[b]?=w.heap[b]?
  new:∀b n,K' b= .tok n .outer->K b= .tok n .outer
theorem FK.refl (K:Nat->BK) (w:World):FK K w K w:=⟨.refl K w,fun _ _ h=>⟨h,rfl⟩,fun _ _ h=>h⟩
theorem FK.trans (h:FK K w K' w') (g:FK K' w' K'' w''):FK K w K'' w'':=
  ⟨h.ext.trans g.ext,fun b n hb=>⟨(g.own b n (h.own b n hb).1).1,(g.own b n (h.own b n hb).1).2.trans (h.own b n hb).2⟩,fun b n hb=>h.new b n (g.new b n hb)⟩
theorem Keep.fk {E:Who->Prop} {B:Nat->Prop} (h:Keep E B K w K' w') (he:¬E .outer):FK K w K' w':=
  ⟨h.ext,fun b n hb=>h.own b n _ hb he,h.new⟩
structure St (K:Nat->BK) (w:World) (F:List D) (H:AH) (t:Array Value):Prop where
  krel:KRel K w
  hrel:HRel K w H
  len:t.size=F.length
  slot:∀(i:Nat) (d:D) (v:Value),F[i]?=some d->t[i]?=some v->RepO K w i d v
def ev (F:List D):Operand->D
  | .tmp t=>F.getD t .any
  | .const v=>jD v
  | .global g=>.ptr g 0
  | .func f=>.fn f []
def rv (F:List D) (x:Operand):D:=(ev F x).view
def qS (F:List D) (dst:Option Tmp) (d:D):List D:=match dst with
  |some i=>F.set i d
  |none=>F
def jP:Operand->Bool
  | .const v=>wh v
  |_=>true
theorem UF (v:Value):(jD v).view=(jD v).view1:=by unfold jD;split<;>rfl
theorem St.rep {K:Nat->BK} {w:World} {F:List D} {H:AH} {a:Act} (h:St K w F H a.tmps) {x:Operand} (hx:jP x=true):RepV K w (rv F x) (a.eval x):=by
  cases x with
  | tmp t=>
    simp only [rv,ev,Act.eval]
    rcases Nu t F.length with hlt|hge
    · have h1:F[t]?=some (F.getD t .any):=by simp [List.getD,Na hlt]
      have h2:a.tmps[t]?=some (a.tmps.getD t undef):=by
        have:t<a.tmps.size:=by rw [h.len];exact hlt
        simp [Nv this]
      exact (h.slot t _ _ h1 h2).rep
    · have:F.getD t .any= .any:=by simp [List.getD,List.getElem?_eq_none hge]
      rw [this]
      exact .any _
  |const v=>simp only [rv,ev,Act.eval,UF];exact (yc (o:= .outer) hx).rep
  |global g=>exact .ptr g 0
  |func f=>exact .fn f [] #[] rfl rfl (fun j d v hd=>by simp at hd)
theorem St.ops {K:Nat->BK} {w:World} {F:List D} {H:AH} {a:Act} (h:St K w F H a.tmps) {xs:Array Operand} (hx:xs.all jP=true):∀x∈xs.toList,RepV K w (rv F x) (a.eval x):=
  fun x hm=>h.rep ((Array.all_eq_true'.1 hx) x (by simpa using hm))
theorem getElem?_set_some {F:List D} {i j:Nat} {d d':D} (h:(F.set i d)[j]?=some d'):(i=j∧d'=d∧i<F.length)∨(i≠j∧F[j]?=some d'):=by
  grind
theorem St.put {E:Who->Prop} {B:Nat->Prop} {K K':Nat->BK} {w w':World} {F:List D} {H H':AH} {a:Act} (h:St K w F H a.tmps) (hk:Keep E B K w K' w') (hE:∀i j,¬E (.slot i j)) (hk':KRel K' w') (hh':HRel K' w' H')
    (dst:Option Tmp) {d:D} {v:Value} (hr:∀i,dst=some i->RepO K' w' i d v):St K' w' (qS F dst d) H' (a.put dst v).tmps:=by
  cases dst with
  |none=>exact ⟨hk',hh',h.len,fun i d v hd hv=>(h.slot i d v hd hv).keep hk (hE i)⟩
  | some t=>
    refine ⟨hk',hh',by simpa [Act.put,qS] using h.len,fun i d' u hd hu=>?_⟩
    simp only [Act.put] at hu
    rcases getElem?_set_some hd with ⟨rfl,rfl,hl⟩|⟨hne,hd⟩
    · grind
    · rw [Array.getElem?_setIfInBounds_ne hne] at hu
      exact (h.slot i d' u hd hu).keep hk (hE i)
def relab (φ:Who->Who) (K:Nat->BK):Nat->BK:=fun b=>match K b with
  | .tok n o=>.tok n (φ o)
  |x=>x
structure Nice (φ:Who->Who):Prop where
  cell:∀b j,φ (.cell b j)= .cell b j
  outer:φ .outer= .outer
theorem relab_imm:relab φ K b= .imm↔K b= .imm:=by unfold relab;split<;>simp_all
theorem relab_priv:relab φ K b= .priv↔K b= .priv:=by unfold relab;split<;>simp_all
theorem qR (h:K b= .tok n o):relab φ K b= .tok n (φ o):=by simp [relab,h]
theorem kw (h:relab φ K b= .tok n o):∃o',K b= .tok n o'∧φ o'=o:=by
  grind [relab]
theorem qA (φ:Who->Who) (K:Nat->BK) (w:World):ExtV K w (relab φ K) w:=
  ⟨rfl,rfl,⟨rfl,Nr _⟩,Nr _,fun b _ h=>⟨relab_imm.2 h,rfl⟩,fun b n o h _=>⟨n,φ o,qR h,Nr _,fun _ _=>rfl⟩,fun b h=>.inl (relab_priv.2 h)⟩
theorem jN (h:KRel K w):KRel (relab φ K) w:=fun b hb=>relab_imm.2 (h b hb)
theorem uG (h:OwnAt K w o xs v):OwnAt (relab φ K) w (φ o) xs v:=by
  rcases h with h|⟨b,cap,sz,c,T,hv,hk,hh,hcs,hp,hl,hm,hb,hs,hrep⟩
  · exact .inl h
  · refine .inr ⟨b,cap,sz,c,T,hv,qR hk,hh,hcs,hp,hl,hm,hb,hs,fun i x hi j d hj=>?_⟩
    obtain ⟨u,e1,e2,e3⟩:=hrep i x hi j d hj
    exact ⟨u,e1,e2,e3.mono (qA φ K w)⟩
theorem Kp (h:RepC K w o d v):RepC (relab φ K) w (φ o) d v:=by
  cases d<;>first|exact uG h|exact RepV.mono (qA φ K w) h
theorem yN (hn:Nice φ) (h:HRel K w H):HRel (relab φ K) w H:=by
  refine ⟨h.nd,fun b o ho=>?_⟩
  have:=h.ok b o ho
  cases o with
  | cells cs=>
    obtain ⟨hk,c,T,hh,hc,hr⟩:=this
    refine ⟨relab_priv.2 hk,c,T,hh,hc,fun j d hd=>?_⟩
    obtain ⟨u,e1,e2,e3⟩:=hr j d hd
    have:=Kp (φ:=φ) e3
    rw [hn.cell] at this
    exact ⟨u,e1,e2,this⟩
  | room cap xs=>
    have h2:=uG (φ:=φ) this.2
    rw [hn.cell] at h2
    exact ⟨this.1,h2⟩
  |mp es=>exact ⟨relab_priv.2 this.1,this.2.ext (qA φ K w) rfl⟩
  |cst cs=>exact CstAt.ext this (qA φ K w)
  | lp J pre=>
    have hc:∀c n j,K c= .tok n (.cell b j)->relab φ K c= .tok n (.cell b j):=fun c n j h=>by rw [qR h,hn.cell]
    obtain ⟨⟨n,j,h1⟩,h2,h3⟩:=this
    exact ⟨⟨n,j,hc _ _ _ h1⟩,h3 pre K w _ w h2 fun c n j h=>⟨hc c n j h,rfl⟩,h3⟩
theorem Yj (hi:∀j,φ (.slot i j)= .slot i' j) (h:RepO K w i d v):RepO (relab φ K) w i' d v:=by
  cases d<;>first
    | (have:=uG (φ:=φ) h
       rw [hi] at this
       exact this)
    |exact RepV.mono (qA φ K w) h
    | (obtain ⟨vs,hv,hl,hh⟩:=h
       refine ⟨vs,hv,hl,fun j d u hd hu=>?_⟩
       have:=Kp (φ:=φ) (hh j d u hd hu)
       rw [hi] at this
       exact this)
section
variable {P:Program} {w:World}
theorem Q6 (t u ty e:TypeId) (i:TypeInfo) (ht:P.underlying t=some (.slice e)) (hu:(P.underlying u).isSome=true) (hun:∀k,P.underlying u≠some (.int k)) (hi:P.info? e=some i)
    (x:Value) (m:Nat) (news:List Value) (hlen:∀w',(Builtin.lenOf x).run P w'= .ok m w') (hl:news.length=m*i.size) (hfc:(Builtin.firstCells i.size m x).run P w= .ok news.toArray w) (h1:∀v∈news,v.oneCell'=true)
    (g len cap:Nat) (cur:Array Value) (T:TypeId) (hg:w.heap[g]?=some (.cells cur T (0,0))) (hroom:len+m<=cap) (hfit:len*i.size+news.length<=cur.size):
    (Builtin.append_ #[t,u] ty #[.slice (some ⟨g,0,none⟩) len cap,x]).run P w= .ok (.slice (some ⟨g,0,none⟩) (len+m) cap) (w.setRow g (cur.toList.take (len*i.size)++news++cur.toList.drop (len*i.size+news.length)).toArray):=by
  obtain ⟨du,hdu⟩:=Option.isSome_iff_exists.1 hu
  have hst:=run_storeCells_at P g (len*i.size) T news 0 cur w hg (by simpa using hfit) h1
  simp only [Nat.add_zero] at hst
  cases du<;>first|exact (hun _ hdu).elim|skip
  all_goals simp only [Builtin.append_,List.getElem?_toArray,Nj,Ni,Sem.run_bind,run_underlying ht,Result.andThen_ok,sizeOf,typeInfo,run_program,hi,Sem.run_pure,run_underlying hdu,Bool.false_eq_true,if_false,hlen,hroom,if_true,Bool.not_false,hfc,Addr.add_lit,Nt,hst]
theorem o5 (t u ty e:TypeId) (i:TypeInfo) (z:Value) (ht:P.underlying t=some (.slice e)) (hu:(P.underlying u).isSome=true) (hun:∀k,P.underlying u≠some (.int k)) (hi:P.info? e=some i) (hz0:i.zero=some z)
    (x:Value) (m:Nat) (news:List Value) (hlen:∀w',(Builtin.lenOf x).run P w'= .ok m w') (hfc:(Builtin.firstCells i.size m x).run P w.drew= .ok news.toArray w.drew)
    (a:Option Addr) (len cap:Nat) (olds:List Value) (hfo:(Builtin.firstCells i.size len (.slice a len cap)).run P w.drew= .ok olds.toArray w.drew) (hgrow:cap<len+m) (hb:(len+m)*i.bytes<=140737488355328) (hbp:0<i.bytes):
    (Builtin.append_ #[t,u] ty #[.slice a len cap,x]).run P w= .ok (.slice (some ⟨w.heap.size,0,none⟩) (len+m) (grownCap w (len+m) cap e))
      (w.drew.alloc (.cells (olds.toArray++news.toArray++Builtin.zeroCells z.cells (grownCap w (len+m) cap e - (len+m))) e)):=by
  obtain ⟨du,hdu⟩:=Option.isSome_iff_exists.1 hu
  have hn:¬(len+m<=cap):=by omega
  have hfit:=growslice_fits hgrow hb
  have h48:¬(Builtin.nextslicecap (len+m) cap*i.bytes>2 ^ 48):=by omega
  have hle:len+m<=(len+m)*i.bytes:=Nat.le_mul_of_pos_right _ hbp
  have h63:¬(((len+m:Nat):Int)>IntKind.i64.max∧((false=true)∨i.bytes=0)):=by
    grind
  cases du<;>first|exact (hun _ hdu).elim|skip
  all_goals
   simp only [Builtin.append_,List.getElem?_toArray,Nj,Ni,Sem.run_bind,run_underlying ht,Result.andThen_ok,sizeOf,typeInfo,run_program,hi,Sem.run_pure,run_underlying hdu,Bool.false_eq_true,if_false,hlen,hn,Bool.not_false,if_true]
   simp only [Sem.run_ite,Sem.run_bind,run_program,Result.andThen_ok,hi,Sem.run_pure,h48,if_false]
   rw [if_neg (by simpa using h63)]
   simp [Question.forced,hfo,hfc,zeroValue,typeInfo,hi,hz0,newRow,grownCap]
   congr 2
   apply Array.ext'
   simp [No]
theorem Jb (t u ty e:TypeId) (i:TypeInfo) (ht:P.underlying t=some (.slice e)) (hu:(P.underlying u).isSome=true) (hun:∀k,P.underlying u≠some (.int k)) (hi:P.info? e=some i)
    (x:Value) (hlen:∀w',(Builtin.lenOf x).run P w'= .ok 0 w') (hfc:(Builtin.firstCells i.size 0 x).run P w= .ok #[] w) (a:Option Addr):
    (Builtin.append_ #[t,u] ty #[.slice a 0 0,x]).run P w= .ok (.slice a 0 0) w:=by
  obtain ⟨du,hdu⟩:=Option.isSome_iff_exists.1 hu
  cases du<;>first|exact (hun _ hdu).elim|skip
  all_goals
   simp only [Builtin.append_,List.getElem?_toArray,Nj,Ni,Sem.run_bind,run_underlying ht,Result.andThen_ok,sizeOf,typeInfo,run_program,hi,Sem.run_pure,run_underlying hdu,Bool.false_eq_true,if_false,hlen,Nat.add_zero,Nr,Bool.not_false,if_true,hfc]
   cases a<;>simp [storeCells]
end
def fW (P:Program) (u:TypeId):Bool:=match P.underlying u with|some (.int _)=>true|_=>false
def Ko (P:Program) (t u:TypeId):Option (TypeId×Nat×Nat):=
  match yb P t with
  | some (e,sz)=>match P.info? e with
    |some i=>if (yA P e).isSome∧0<i.bytes∧(P.underlying u).isSome∧fW P u=false then some (e,sz,i.bytes) else none
    |none=>none
  |none=>none
theorem z6 {t u e:TypeId} (h:Ko P t u=some (e,sz,by_)):yb P t=some (e,sz)∧∃i zc,P.info? e=some i∧i.size=sz∧i.bytes=by_∧yA P e=some zc∧0<by_∧(P.underlying u).isSome=true∧∀k,P.underlying u≠some (.int k):=by
  unfold Ko at h
  split at h
  · rename_i e' sz' hs
    split at h
    · rename_i i hi
      split at h
      · rename_i hc
        simp only [Option.some.injEq,Prod.mk.injEq] at h
        obtain ⟨rfl,rfl,rfl⟩:=h
        obtain ⟨_,_,i',hi',his⟩:=ju hs
        rw [hi] at hi'
        obtain rfl:=Option.some.inj hi'
        obtain ⟨zc,hz⟩:=Option.isSome_iff_exists.1 hc.1
        refine ⟨hs,i,zc,hi,his,rfl,hz,hc.2.1,hc.2.2.1,fun k hk=>?_⟩
        have:=hc.2.2.2
        simp [fW,hk] at this
      · cases h
    · cases h
  · cases h
def Src (P:Program) (w:World) (K:Nat->BK) (sz:Nat) (ys:List (List D)) (x:Value):Prop:=
  ∃ news:List Value,(∀w',(Builtin.lenOf x).run P w'= .ok ys.length w')∧news.length=ys.length*sz∧(∀w',w'.heap=w.heap->(Builtin.firstCells sz ys.length x).run P w'= .ok news.toArray w')∧
    (∀(i:Nat) (y:List D),ys[i]?=some y->y.length=sz)∧(∀v∈news,v.oneCell'=true)∧
    ∀(i:Nat) (y:List D),ys[i]?=some y->∀(j:Nat) (d:D),y[j]?=some d->∃u,news[i*sz+j]?=some u∧RepV K w d u
theorem o0 (hr:RepV K w (.slc ys) x) (hs:∀y∈ys,y.length=sz) (hpos:0<sz):Src P w K sz ys x:=by
  have hs':∀(i:Nat) (y:List D),ys[i]?=some y->y.length=sz:=fun i y hi=>hs y (Nl hi)
  rcases hr.slc_inv with ⟨rfl,a,rfl⟩|⟨b,off,cap,sz',f,rfl,hc,hm,hsz,hv,hcell,hone,hrep⟩
  · refine ⟨[],fun w'=>by simp [Builtin.lenOf],by simp,fun w' _=>?_,by simp,by simp,by simp⟩
    cases a<;>simp [Builtin.firstCells,loadCells,loadCellsFrom]
  · have hq:∀q,q<ys.length*sz->∃y d,ys[q / sz]?=some y∧y[q % sz]?=some d:=fun q hq=>by
      have h1:q / sz<ys.length:=Nat.div_lt_of_lt_mul (by rw [Nat.mul_comm];exact hq)
      have h2:q % sz<sz:=Nat.mod_lt _ hpos
      have h3:=Na h1
      have h4:=hs' _ _ h3
      exact ⟨_,_,h3,Na (by rw [h4];exact h2)⟩
    have hszz:0<ys.length->sz'=sz:=fun h0=>by
      have h3:=Na h0
      grind
    refine ⟨(List.range (ys.length*sz)).map fun q=>f (q / sz) (q % sz),fun w'=>by simp [Builtin.lenOf],by simp,fun w' hw=>?_,hs',fun v hv=>?_,fun i y hi j d hj=>?_⟩
    · have h:=run_loadCells (P:=P) w' ⟨b,off,none⟩ (ys.length*sz) (fun q=>f (q / sz) (q % sz)) (fun q hq'=>by
        obtain ⟨y,d,h1,h2⟩:=hq q hq'
        have hp:0<ys.length:=by
          grind
        have e:=hszz hp
        subst e
        have:=hcell _ y h1 _ d h2
        rw [Addr.add_lit]
        have hw':∀a,w'.cell? a=w.cell? a:=fun a=>by simp [World.cell?,hw]
        rw [hw',<-this]
        congr 2
        have:=Nat.div_add_mod q sz'
        rw [Nat.mul_comm] at this
        omega)
      simpa [Builtin.firstCells] using h
    · grind
    · have hlt:=VP hi (hs' i y hi) hj
      have hjs:j<sz:=by rw [<-hs' i y hi];exact (List.getElem?_eq_some_iff.1 hj).1
      have e1:(i*sz+j) / sz=i:=by
        rw [Nat.mul_comm,Nat.mul_add_div hpos,Nat.div_eq_of_lt hjs,Nat.add_zero]
      have e2:(i*sz+j) % sz=j:=by rw [Nat.mul_comm,Nat.mul_add_mod,Nat.mod_eq_of_lt hjs]
      grind
theorem G2 (hr:RepV K w (.str l) x):Src P w K 1 (l.map ql) x:=by
  obtain ⟨rfl,hb⟩:=hr.str_inv
  have hsz:(⟨⟨l⟩⟩:ByteArray).size=l.length:=rfl
  refine ⟨l.map fun b=>.int .u8 b.toNat,fun w'=>by simp [Builtin.lenOf,hsz],by simp,fun w' _=>?_,fun i y hi=>?_,fun v hv=>?_,fun i y hi j d hj=>?_⟩
  · have:(⟨⟨l⟩⟩:ByteArray).extract 0 l.length=⟨⟨l⟩⟩:=by
      apply ByteArray.ext
      rw [ByteArray.data_extract]
      apply Array.ext'
      simp
    simp [Builtin.firstCells,this]
  · rw [Nb,Nk] at hi
    obtain ⟨c,_,rfl⟩:=hi
    rfl
  · rw [Ny] at hv
    obtain ⟨c,_,rfl⟩:=hv
    rfl
  · rw [Nb,Nk] at hi
    obtain ⟨c,hc,rfl⟩:=hi
    cases j with
    | zero=>
      simp only [ql,Nj,Option.some.injEq] at hj
      subst hj
      refine ⟨.int .u8 c.toNat,by simp [hc],.int _ _ ?_⟩
      have:=c.toNat_lt
      exact WalkArith.wf_u8 (by omega)
    |succ j=>simp [ql] at hj
theorem Ym (hh:HRel K w H) (hr:RepV K w (.hso b off n) x) (hg:qn H b=some (.cells cs)) (hle:off+n<=cs.length):Src P w K 1 (((cs.drop off).take n).map fun e=>[e.view1]) x:=by
  obtain ⟨cap,rfl,hp,hc,hm,hb⟩:=hr.hso_inv
  obtain ⟨_,c,T,hbk,hcs,hcell⟩:=hh.ok b _ (qW hg)
  have hlen:(((cs.drop off).take n).map fun e=>[e.view1]).length=n:=by simp;omega
  have hn:((c.toList.drop off).take n).length=n:=by simp;omega
  have hget:∀(j:Nat) (v:Value),((c.toList.drop off).take n)[j]?=some v->j<n∧c[off+j]?=some v:=fun j v hj=>by
    rw [List.getElem?_take] at hj
    split at hj
    · rename_i hjn
      exact ⟨hjn,by simpa using hj⟩
    · cases hj
  have hone:∀(j:Nat) (v:Value),j<n->c[off+j]?=some v->∃d,cs[off+j]?=some d∧v.oneCell'=true∧RepV K w d.view1 v:=fun j v hj hv=>by
    have hlt:off+j<cs.length:=by omega
    obtain ⟨u,e1,e2,e3⟩:=hcell (off+j) _ (Na hlt)
    rw [hv] at e1
    obtain rfl:=Option.some.inj e1
    exact ⟨_,Na hlt,e2,e3.rep⟩
  refine ⟨(c.toList.drop off).take n,fun w'=>by rw [hlen];simp [Builtin.lenOf],by rw [hn,hlen,Nat.mul_one],fun w' hw=>?_,fun i y hi=>?_,fun v hv=>?_,fun i y hi j d hj=>?_⟩
  · rw [hlen]
    refine run_firstCells_some (P:=P) w' 1 n ⟨b,off,none⟩ n cap _ (by rw [hn,Nat.mul_one]) (fun j v hv=>?_)
    obtain ⟨h1,h2⟩:=hget j v hv
    have hw':w'.heap[b]?=some (.cells c T (0,0)):=by rw [hw];exact hbk
    rw [Addr.add_lit,jU hw',h2]
  · rw [Nb,Nk] at hi
    obtain ⟨e,_,rfl⟩:=hi
    rfl
  · obtain ⟨j,hj⟩:=List.mem_iff_getElem?.1 hv
    obtain ⟨h1,h2⟩:=hget j v hj
    obtain ⟨d,_,h3,_⟩:=hone j v h1 h2
    exact h3
  · rw [Nb,Nk] at hi
    obtain ⟨e,he,rfl⟩:=hi
    cases j with
    | zero=>
      simp only [Nj,Option.some.injEq] at hj
      subst hj
      rw [List.getElem?_take] at he
      split at he
      · rename_i hin
        rw [List.getElem?_drop] at he
        have hlt:off+i<c.size:=by omega
        obtain ⟨d,h1,h2,h3⟩:=hone i _ hin (Nv hlt)
        rw [he] at h1
        obtain rfl:=Option.some.inj h1
        refine ⟨_,?_,h3⟩
        rw [Nat.mul_one,Nat.add_zero,List.getElem?_take,if_pos hin,List.getElem?_drop]
        simp [Nv hlt]
      · cases he
    |succ j=>simp at hj
theorem Ww (hk:KRel K w) (hh:HRel K w H) {t u ty e:TypeId} (hap:Ko P t u=some (e,sz,by_)) (hsc:∀b j,s≠ .cell b j) (hso:s≠ .outer) (hdo:d≠ .outer)
    (ho:OwnAt K w s xs v) (hxs:∀y∈xs,y.length=sz) (hsrc:Src P w K sz ys x) (hb:(xs.length+ys.length)*by_<=140737488355328):
    ∃r K' w',(Builtin.append_ #[t,u] ty #[v,x]).run P w= .ok r w'∧Keep (fun o=>o=s) dz K w K' w'∧KRel K' w'∧HRel K' w' H∧OwnAt K' w' d (xs++ys) r:=by
  obtain ⟨hsl,i,zc,hi,his,hib,hz,hbp,hus,hun⟩:=z6 hap
  obtain ⟨hu,hpos,_,_,_⟩:=ju hsl
  obtain ⟨i',z,hi',hz0,z1,z2,z3,z4⟩:=ye hz
  rw [hi] at hi'
  obtain rfl:=Option.some.inj hi'
  obtain ⟨news,s1,s2,s3,s4,s5,s6⟩:=hsrc
  subst his hib
  have hlb:xs.length+ys.length<=(xs.length+ys.length)*i.bytes:=Nat.le_mul_of_pos_right _ hbp
  have hkeepH:∀{K':Nat->BK} {w':World},Keep (fun o=>o=s) dz K w K' w'->HRel K' w' H:=fun h=>hh.keep h (fun b o _=>⟨fun h=>h,fun j e=>hsc b j e.symm⟩)
  have hsall:∀(i':Nat) (y:List D),(xs++ys)[i']?=some y->y.length=i.size:=fun q y hq=>by
    rcases List.mem_append.1 (Nl hq) with h|h
    · exact hxs y h
    · obtain ⟨q',hq',he⟩:=List.mem_iff_getElem.1 h
      exact s4 q' y (by rw [Na hq',he])
  -- a new block
  have grow:∀(a:Option Addr) (cap:Nat) (olds:List Value),v= .slice a xs.length cap->cap<xs.length+ys.length->olds.length=xs.length*i.size->(Builtin.firstCells i.size xs.length (.slice a xs.length cap)).run P w.drew= .ok olds.toArray w.drew->
      (∀(q:Nat) (y:List D),xs[q]?=some y->∀(j:Nat) (d:D),y[j]?=some d->∃u,olds[q*i.size+j]?=some u∧u.oneCell'=true∧RepV K w d u)->
      ∃r K' w',(Builtin.append_ #[t,u] ty #[v,x]).run P w= .ok r w'∧Keep (fun o=>o=s) dz K w K' w'∧KRel K' w'∧HRel K' w' H∧OwnAt K' w' d (xs++ys) r:=by
    intro a cap olds hv hgr hol hfo hor
    subst hv
    have hrun:=o5 (P:=P) (w:=w) t u ty e i z hu hus hun hi hz0 x ys.length news s1 (s3 w.drew rfl) a xs.length cap olds hfo hgr hb hbp
    have hge:=grownCap_ge w (xs.length+ys.length) cap e
    have hle:=grownCap_le_maxLen w (xs.length+ys.length) cap e (by unfold maxLen;omega)
    generalize grownCap w (xs.length+ys.length) cap e=nc at hrun hge hle
    obtain ⟨hp,hk'⟩:=yT (K:=K) (w:=w.drew) hk (.cells (olds.toArray++news.toArray++Builtin.zeroCells z.cells (nc - (xs.length+ys.length))) e) (x:= .tok ((xs.length+ys.length)*i.size) d) (by intro n h;injection h with _ h;exact hdo h)
    have hp':Pres K w (Qw K w.heap.size (.tok ((xs.length+ys.length)*i.size) d)) (w.drew.alloc (.cells (olds.toArray++news.toArray++Builtin.zeroCells z.cells (nc - (xs.length+ys.length))) e)):=⟨hp.os,hp.tape,⟨hp.output.1,Np (Nat.le_succ _) hp.output.2⟩,hp.size,hp.old,hp.new⟩
    have hkp:=hp'.keep hk
    have hkp':Keep (fun o=>o=s) dz K w _ _:=⟨hkp.ext,fun b n o h1 _=>hkp.own b n o h1 (fun h=>h),hkp.new,hkp.box⟩
    refine ⟨_,_,_,hrun,hkp',hk',hkeepH hkp',.inr ⟨w.heap.size,nc,i.size,_,e,by simp,?_,heap_alloc_new w.drew _,?_,by simp;omega,by simpa using hge,hle,?_,hsall,fun q y hq j dd hj=>?_⟩⟩
    · rw [Nd];exact jx _ _ _
    · simp only [Array.size_append,List.size_toArray,size_zeroCells,z1,hol,s2,<-z2,<-Nat.add_mul]
      congr 1
      omega
    · rw [Nd];unfold big;omega
    · have hjl:j<i.size:=by rw [<-hsall q y hq];exact (List.getElem?_eq_some_iff.1 hj).1
      rw [List.getElem?_append] at hq
      split at hq
      · rename_i hlt
        obtain ⟨uu,e1,e2,e3⟩:=hor q y hq j dd hj
        refine ⟨uu,?_,e2,e3.mono hkp.ext⟩
        have hlt2:q*i.size+j<olds.length:=(List.getElem?_eq_some_iff.1 e1).1
        rw [Array.getElem?_append_left (by simp;omega),Array.getElem?_append_left (by simpa using hlt2)]
        simpa using e1
      · rename_i hge'
        obtain ⟨uu,e1,e3⟩:=s6 _ y hq j dd hj
        refine ⟨uu,?_,s5 _ (Nl e1),e3.mono hkp.ext⟩
        have hlt2:=(List.getElem?_eq_some_iff.1 e1).1
        have hsub:(q - xs.length)*i.size=q*i.size - xs.length*i.size:=Nat.sub_mul _ _ _
        have hmul:xs.length*i.size<=q*i.size:=Nat.mul_le_mul_right _ (by omega)
        rw [Array.getElem?_append_left (by simp;omega),Array.getElem?_append_right (by simp;omega)]
        rw [<-e1]
        simp only [List.size_toArray,List.getElem?_toArray]
        congr 1
        omega
  rcases ho with ⟨rfl,a,rfl⟩|⟨b,cap,sz',c,T,rfl,hkb,hhb,hcs,hp,hl,hm,hbg,hs,hrep⟩
  · by_cases hy:ys.length=0
    · have hyn:ys= []:=List.eq_nil_of_length_eq_zero hy
      subst hyn
      have hn:news= []:=List.eq_nil_of_length_eq_zero (by simpa using s2)
      subst hn
      have hrun:=Jb (P:=P) (w:=w) t u ty e i hu hus hun hi x s1 (s3 w rfl) a
      have hkp:=(Pres.refl K w).keep hk
      exact ⟨_,K,w,hrun,⟨hkp.ext,fun b n o h1 _=>hkp.own b n o h1 (fun h=>h),hkp.new,hkp.box⟩,hk,hh,.inl ⟨rfl,a,rfl⟩⟩
    · exact grow a 0 [] rfl (by simp;omega) (by simp) (by cases a<;>simp [Builtin.firstCells,loadCells,loadCellsFrom]) (by simp)
  · have h3:=Na hp
    have hszz:sz'=i.size:=by rw [<-hs _ _ h3,hxs _ (Nl h3)]
    subst hszz
    have holdc:∀(q:Nat),q<xs.length*i.size->∃uu,c[q]?=some uu∧uu.oneCell'=true:=fun q hq=>by
      have hlt:q<c.size:=by
        have:xs.length*i.size<=cap*i.size:=Nat.mul_le_mul_right _ hl
        omega
      have h1:q / i.size<xs.length:=Nat.div_lt_of_lt_mul (by rw [Nat.mul_comm];exact hq)
      have h4:=Na h1
      have h5:q % i.size<xs[q / i.size].length:=by rw [hs _ _ h4];exact Nat.mod_lt _ hpos
      obtain ⟨uu,e1,e2,_⟩:=hrep _ _ h4 _ _ (Na h5)
      have:=Nat.div_add_mod q i.size
      rw [Nat.mul_comm] at this
      rw [this] at e1
      exact ⟨uu,e1,e2⟩
    by_cases hroom:xs.length+ys.length<=cap
    · have hcap:(xs.length+ys.length)*i.size<=cap*i.size:=Nat.mul_le_mul_right _ hroom
      rw [Nat.add_mul] at hcap
      have hfit:xs.length*i.size+news.length<=c.size:=by rw [s2,hcs];exact hcap
      have hrun:=Q6 (P:=P) (w:=w) t u ty e i hu hus hun hi x ys.length news s1 s2 (s3 w rfl) s5 b xs.length cap c T hhb hroom hfit
      generalize hcc:(c.toList.take (xs.length*i.size)++news++c.toList.drop (xs.length*i.size+news.length)).toArray=c' at hrun
      have hcs':c'.size=cap*i.size:=by
        rw [<-hcc,<-hcs]
        simp only [List.size_toArray,Nd,Nw,List.length_drop,Array.length_toList]
        omega
      have hold:∀q,q<xs.length*i.size->c'[q]?=c[q]?:=fun q hq=>by
        rw [<-hcc]
        simp only [List.getElem?_toArray]
        rw [No,Nn (by simp;omega),List.getElem?_take,if_pos hq]
        simp
      have hnew:∀q,q<news.length->c'[xs.length*i.size+q]?=news[q]?:=fun q hq=>by
        rw [<-hcc]
        simp only [List.getElem?_toArray]
        have hl1:(c.toList.take (xs.length*i.size)).length=xs.length*i.size:=by simp;omega
        rw [No,List.getElem?_append_right (by rw [hl1];omega),Nn (by rw [hl1];omega),hl1]
        congr 1
        omega
      have hblt:b<w.heap.size:=(Array.getElem?_eq_some_iff.1 hhb).1
      have hsame:=setRow_heap w b c c' T (0,0) hhb
      have hoth:∀b',b'≠b->(w.setRow b c').heap[b']?=w.heap[b']?:=fun b' h=>setRow_other w b b' c' h
      have hkp:Keep (fun o=>o=s) dz K w (Qw K b (.tok ((xs.length+ys.length)*i.size) d)) (w.setRow b c'):=by
        refine ⟨⟨rfl,rfl,⟨rfl,Nr _⟩,by simp,fun b' hb' hi'=>?_,fun b' n o hb' _=>?_,fun b' hb'=>?_⟩,fun b' n o hb' hne=>?_,fun b' n hb'=>?_,fun b' hb' _=>?_⟩
        · have hne:b'≠b:=fun e=>by subst e;rw [hkb] at hi';cases hi'
          exact ⟨by rw [j7 _ _ hne];exact hi',hoth b' hne⟩
        · by_cases hbb:b'=b
          · subst hbb
            rw [hkb] at hb'
            injection hb' with hn1 hn2
            subst hn1
            refine ⟨_,d,jx _ _ _,Nat.mul_le_mul_right _ (Nat.le_add_right _ _),fun j hj=>?_⟩
            rw [jU hsame,jU hhb,hold j hj]
          · exact ⟨n,o,by rw [j7 _ _ hbb];exact hb',Nr _,fun j _=>jb (hoth b' hbb) j⟩
        · have hne:b'≠b:=fun e=>by subst e;rw [hkb] at hb';cases hb'
          exact .inl (by rw [j7 _ _ hne];exact hb')
        · have hbb:b'≠b:=fun e=>by
            subst e
            rw [hkb] at hb'
            injection hb' with _ h2
            exact hne h2.symm
          exact ⟨by rw [j7 _ _ hbb];exact hb',hoth b' hbb⟩
        · by_cases hbb:b'=b
          · subst hbb
            rw [jx] at hb'
            injection hb' with _ h2
            exact (hdo h2).elim
          · rwa [j7 _ _ hbb] at hb'
        · have hne:b'≠b:=fun e=>by subst e;rw [hkb] at hb';cases hb'
          exact ⟨by rw [j7 _ _ hne];exact hb',hoth b' hne⟩
      refine ⟨_,_,_,hrun,hkp,fun b' hb'=>?_,hkeepH hkp,.inr ⟨b,cap,i.size,c',T,by simp,?_,hsame,hcs',by simp;omega,by simpa using hroom,hm,?_,hsall,fun q y hq j dd hj=>?_⟩⟩
      · have hlt':w.heap.size<=b':=by simpa using hb'
        rw [j7 _ _ (by omega)]
        exact hk b' hlt'
      · rw [Nd];exact jx _ _ _
      · rw [Nd];unfold big;omega
      · have hjl:j<i.size:=by rw [<-hsall q y hq];exact (List.getElem?_eq_some_iff.1 hj).1
        rw [List.getElem?_append] at hq
        split at hq
        · rename_i hlt
          obtain ⟨uu,e1,e2,e3⟩:=hrep q y hq j dd hj
          refine ⟨uu,?_,e2,e3.mono hkp.ext⟩
          have hqq:q*i.size+j<xs.length*i.size:=by
            have:(q+1)*i.size<=xs.length*i.size:=Nat.mul_le_mul_right _ hlt
            rw [Nat.add_mul] at this
            omega
          rw [hold _ hqq]
          exact e1
        · rename_i hge'
          obtain ⟨uu,e1,e3⟩:=s6 _ y hq j dd hj
          refine ⟨uu,?_,s5 _ (Nl e1),e3.mono hkp.ext⟩
          have hlt2:=(List.getElem?_eq_some_iff.1 e1).1
          have hsub:(q - xs.length)*i.size=q*i.size - xs.length*i.size:=Nat.sub_mul _ _ _
          have hmul:xs.length*i.size<=q*i.size:=Nat.mul_le_mul_right _ (by omega)
          have hidx:q*i.size+j=xs.length*i.size+((q - xs.length)*i.size+j):=by omega
          rw [hidx,hnew _ hlt2]
          exact e1
    · refine grow (some ⟨b,0,none⟩) cap (c.toList.take (xs.length*i.size)) rfl (by omega) ?_ ?_ ?_
      · have:xs.length*i.size<=cap*i.size:=Nat.mul_le_mul_right _ hl
        simp;omega
      · have hlen:(c.toList.take (xs.length*i.size)).length=xs.length*i.size:=by
          have:xs.length*i.size<=cap*i.size:=Nat.mul_le_mul_right _ hl
          simp;omega
        exact run_firstCells_some (P:=P) w.drew i.size xs.length ⟨b,0,none⟩ xs.length cap _ hlen (fun j v hv=>by
          rw [Addr.add_lit,Nt]
          have:w.drew.cell? ⟨b,j,none⟩=w.cell? ⟨b,j,none⟩:=rfl
          rw [this,jU hhb]
          rw [List.getElem?_take] at hv
          split at hv
          · simpa using hv
          · cases hv)
      · intro q y hq j dd hj
        obtain ⟨uu,e1,e2,e3⟩:=hrep q y hq j dd hj
        refine ⟨uu,?_,e2,e3⟩
        have hqq:=VP hq (hs q y hq) hj
        rw [List.getElem?_take,if_pos hqq]
        simpa using e1
end Go.Aw
end
