/- A part of the proof of what the last text says: Aw19, Gp0. Conditions: those in each theorem. -/
import Derived.Test.YtpdhandimdibhaaGreatDoorN13
import Derived.Test.YtpdhandimdibhaaGreatDoorRows
import Derived.WalkKit
import Derived.ProofKit
import Derived.OpenShut
import Derived.JoinedCond
set_option linter.unusedVariables false
set_option linter.unusedSimpArgs false
set_option maxRecDepth 100000
set_option maxHeartbeats 16000000
open Nat renaming reduceSub → qa,reduceAdd → qb,reduceMul → qc,reduceEqDiff → qd,reduceLeDiff → qe,reduceBEq → qf
section
namespace Go.Aw
open Go Go.RowKit Go.ChangeShapes Go.WideShapes
open Go.Proofs.YtpdhandimdibhaaGreatDoor
section
variable {P:Program}
theorem UH {H:Type} (d:DataW H):1≤Rows.uptoBulk d:=by
 cases d with
 |lit l=>cases l<;>simp [Rows.uptoBulk]
 |nil=>simp [Rows.uptoBulk]
 |ptr d=>simp [Rows.uptoBulk]
 |slice elems spare=>simp [Rows.uptoBulk]
 |agg parts=>simp [Rows.uptoBulk]
 |iface t d=>simp [Rows.uptoBulk]
 |map entries=>simp [Rows.uptoBulk]
 |held h=>simp [Rows.uptoBulk]
theorem Jf {H:Type} {d:DataW H} {l:List (DataW H)} (h:d∈l):Rows.uptoBulk d≤Rows.uptoBulkAll l:=by
 induction l with
 |nil=>cases h
 | cons x r ih=>
  simp only [Rows.uptoBulkAll]
  cases List.mem_cons.1 h with
  |inl e=>subst e;omega
  |inr e=>have:=ih e;omega
theorem Yt {H:Type} (l:List (DataW H)):l.length≤Rows.uptoBulkAll l:=by
 induction l with
 |nil=>simp [Rows.uptoBulkAll]
 |cons x r ih=>have:=UH x;simp only [Rows.uptoBulkAll,List.length_cons];omega
structure Rd (P:Program) (t:TypeId) (n:Nat) {T:Type} (g:T→List D) (Q:T→Prop):Prop where
 out:∀{H:Type} (enc:TypeId×Value→H) (W:World) (fuel:Nat) (cs:List Value) (x:DataW H×List MemPlace),
  DataW.trod enc P W 0 (fun _=>true) true fuel t cs=some x→Rows.uptoBulk x.1≤1048576→
  ∃a:T,cs.length=n∧(g a).length=n∧Q a∧∀(j:Nat) (d:D) (v:Value),(g a)[j]?=some d→cs[j]?=some v→v.oneCell'=true∧RepV (fun _=>.imm) W d v
theorem wF {W:World} {d:D} {v:Value} (h1:v.oneCell'=true) (h:RepV (fun _=>.imm) W d v):∀(j:Nat) (d':D) (v':Value),[d][j]?=some d'→ [v][j]?=some v'→v'.oneCell'=true∧RepV (fun _=>.imm) W d' v':=by
 intro j d' v' hd hv
 cases j with
 | zero=>
  simp only [List.getElem?_cons_zero,Option.some.injEq] at hd hv
  subst hd;subst hv
  exact ⟨h1,h⟩
 |succ j=>simp at hd
theorem Rd.int {t:TypeId} {k:IntKind} (ht:P.underlying t=some (.int k)):Rd P t 1 (fun n:Int=>[.int k n]) (fun _=>True):=by
 refine ⟨?_⟩
 intro H enc W fuel cs x h _
 obtain ⟨n,rfl,rfl,hw⟩:=DataW.trod_int ht h
 exact ⟨n,rfl,rfl,trivial,wF rfl (.int k n hw)⟩
theorem Rd.bool {t:TypeId} (ht:P.underlying t=some .bool):Rd P t 1 (fun b:Bool=>[.bool b]) (fun _=>True):=by
 refine ⟨?_⟩
 intro H enc W fuel cs x h _
 obtain ⟨n,rfl,rfl⟩:=DataW.trod_bool ht h
 exact ⟨n,rfl,rfl,trivial,wF rfl (.bool n)⟩
theorem Rd.str {t:TypeId} (ht:P.underlying t=some .string):Rd P t 1 (fun s:List UInt8=>[.str s]) (fun s=>s.length≤1048576):=by
 refine ⟨?_⟩
 intro H enc W fuel cs x h hb
 obtain ⟨s,rfl,rfl,hs⟩:=DataW.trod_string ht h
 have hl:s.data.toList.length≤1048576:=by
  simp only [Rows.uptoBulk] at hb
  omega
 refine ⟨s.data.toList,rfl,rfl,hl,wF rfl ?_⟩
 exact .str s.data.toList (Nat.le_trans hl (by decide))
theorem Rd.imp {t:TypeId} {n:Nat} {T:Type} {g:T→List D} {Q Q':T→Prop} (h:Rd P t n g Q) (hq:∀a,Q a→Q' a):Rd P t n g Q':=by
 refine ⟨?_⟩
 intro H enc W fuel cs x hx hb
 obtain ⟨a,h1,h2,h3,h4⟩:=h.out enc W fuel cs x hx hb
 exact ⟨a,h1,h2,hq a h3,h4⟩
theorem Rd.map {t:TypeId} {n:Nat} {T T':Type} {g:T→List D} {Q:T→Prop} (h:Rd P t n g Q) (f:T→T') {g':T'→List D} {Q':T'→Prop} (hg:∀a,g' (f a)=g a) (hq:∀a,Q a→Q' (f a)):Rd P t n g' Q':=by
 refine ⟨?_⟩
 intro H enc W fuel cs x hx hb
 obtain ⟨a,h1,h2,h3,h4⟩:=h.out enc W fuel cs x hx hb
 exact ⟨f a,h1,by rw [hg];exact h2,hq a h3,by rw [hg];exact h4⟩
theorem vC {W:World} {b:Nat} {a:Addr} {n:Nat} {cs:List Value} (h:W.cells? b a n=some cs):cs.length=n∧∀j v,cs[j]?=some v→W.cell? (a.add j)=some v:=by
 unfold World.cells? at h
 split at h
 ·have hl:cs.length=n:=by simpa using mapM_some_length h
  refine ⟨hl,fun j v hj=>?_⟩
  have hlt:j<n:=by rw [←hl];exact (List.getElem?_eq_some_iff.1 hj).1
  rw [mapM_some_get h j j (by simp [hlt]),hj]
 ·cases h
theorem oq {W:World} {a:Addr} {v:Value} (h:W.cell? a=some v):a.spot=none∧a.block<W.heap.size:=by
 unfold World.cell? at h
 split at h
 ·rename_i c _ _ he
  split at h
  ·cases h
  ·rename_i hs
   refine ⟨by cases hq:a.spot with|none=>rfl|some z=>rw [hq] at hs;exact (hs rfl).elim,?_⟩
   rcases Nat.lt_or_ge a.block W.heap.size with h'|h'
   ·exact h'
   ·rw [Array.getElem?_eq_none h'] at he
    cases he
 ·cases h
theorem uA {α β:Type} {R:Nat→α→β→Prop}:∀(xs:List α) (k:Nat),(∀i x,xs[i]?=some x→∃y,R (k+i) x y)→∃ys:List β,ys.length=xs.length∧∀i x y,xs[i]?=some x→ys[i]?=some y→R (k+i) x y
 | [],k,_=>⟨[],rfl,fun i x y h=>by simp at h⟩
 | x::xs,k,h=>by
  obtain ⟨y,hy⟩:=h 0 x rfl
  obtain ⟨ys,h1,h2⟩:=uA xs (k+1) (R:=R) (fun i x' hx=>by
   obtain ⟨y',hy'⟩:=h (i+1) x' (by simpa using hx)
   exact ⟨y',by rw [show k+1+i=k+(i+1) by omega];exact hy'⟩)
  refine ⟨y::ys,by simp [h1],fun i x' y' hx hy'=>?_⟩
  cases i with
  | zero=>
   simp only [List.getElem?_cons_zero,Option.some.injEq] at hx hy'
   subst hx;subst hy'
   exact hy
  | succ i=>
   have:=h2 i x' y' (by simpa using hx) (by simpa using hy')
   rw [show k+(i+1)=k+1+i by omega]
   exact this
theorem Rd.slice {t e:TypeId} {n:Nat} {T:Type} {g:T→List D} {Q:T→Prop} (ht:P.underlying t=some (.slice e)) (hc:P.cellsOf e=n) (hn:0<n) (h:Rd P e n g Q):
  Rd P t 1 (fun l:List T=>[.slc (l.map g)]) (fun l=>l.length≤1048576∧∀a∈l,Q a):=by
 refine ⟨?_⟩
 intro H enc W fuel cs x hx hb
 rcases DataW.trod_slice ht hx with ⟨rfl,rfl⟩|⟨a,len,cap,elems,rest,m,rfl,rfl,rfl,hba,hlc,hcm,hel,hget,hsp,_⟩
 ·exact ⟨[],rfl,rfl,⟨by simp,fun _ h=>by simp at h⟩,wF rfl (.slcnil none)⟩
 ·rw [hc] at hget hsp
  have hlen:elems.length+rest.length+1≤1048576:=by
   have h1:=Yt (elems.map (·.1))
   have h2:=Yt (rest.map (·.1))
   simp only [Rows.uptoBulk,List.length_map] at hb h1 h2
   omega
  have hel2:∀y,y∈elems→Rows.uptoBulk y.1≤1048576:=fun y hy=>by
   have h1:=Jf (List.mem_map_of_mem (f:=(·.1)) hy)
   simp only [Rows.uptoBulk] at hb
   omega
  obtain ⟨l,hl,hR⟩:=uA (R:=fun i (y:DataW H×List MemPlace) (c:T)=>∃cs',W.cells? 0 (a.add (i*n)) n=some cs'∧(g c).length=n∧Q c∧∀(j:Nat) (d:D) (v:Value),(g c)[j]?=some d→cs'[j]?=some v→v.oneCell'=true∧RepV (fun _=>.imm) W d v) elems 0 (fun i y hy=>by
    have hi:i<len:=by rw [←hel];exact (List.getElem?_eq_some_iff.1 hy).1
    have hg:=hget i hi
    rw [hy] at hg
    obtain ⟨cs',e1,e2⟩:=Option.bind_eq_some_iff.1 hg
    obtain ⟨c,_,g2,g3,g4⟩:=h.out enc W m cs' y e2 (hel2 y (List.mem_of_getElem? hy))
    exact ⟨c,cs',by rw [Nat.zero_add];exact e1,g2,g3,g4⟩)
  have hRi:∀i c,l[i]?=some c→i<len∧∃cs',W.cells? 0 (a.add (i*n)) n=some cs'∧(g c).length=n∧Q c∧∀(j:Nat) (d:D) (v:Value),(g c)[j]?=some d→cs'[j]?=some v→v.oneCell'=true∧RepV (fun _=>.imm) W d v:=fun i c hi=>by
   have hlt:i<elems.length:=by rw [←hl];exact (List.getElem?_eq_some_iff.1 hi).1
   have:=hR i elems[i] c (List.getElem?_eq_getElem hlt) hi
   rw [Nat.zero_add] at this
   exact ⟨by omega,this⟩
  refine ⟨l,rfl,rfl,⟨by omega,fun c hc'=>?_⟩,wF rfl ?_⟩
  ·obtain ⟨i,hi⟩:=List.getElem?_of_mem hc'
   obtain ⟨_,cs',_,_,hq,_⟩:=hRi i c hi
   exact hq
  ·by_cases hz:cap=0
   ·have h0:l= []:=List.eq_nil_of_length_eq_zero (by omega)
    have h1:len=0:=by omega
    subst hz;subst h1;subst h0
    exact .slcnil (some a)
   ·have hpl:a.spot=none∧a.block<W.heap.size:=by
     by_cases hp:0<len
     ·have hg:=hget 0 hp
      rw [List.getElem?_eq_getElem (by omega)] at hg
      obtain ⟨cs',e1,e2⟩:=Option.bind_eq_some_iff.1 hg
      obtain ⟨k1,k2⟩:=vC e1
      have:=oq (k2 0 cs'[0] (List.getElem?_eq_getElem (by omega)))
      simpa [Addr.add] using this
     ·have h0:len=0:=by omega
      obtain ⟨hr1,hr2⟩:=hsp rfl
      have hg:=hr2 0 (by omega)
      rw [h0,Nat.zero_add,Nat.zero_mul] at hg
      rw [List.getElem?_eq_getElem (by omega)] at hg
      obtain ⟨cs',e1,e2⟩:=Option.bind_eq_some_iff.1 hg
      obtain ⟨k1,k2⟩:=vC e1
      have:=oq (k2 0 cs'[0] (List.getElem?_eq_getElem (by omega)))
      simpa [Addr.add] using this
    obtain ⟨b,off,sp⟩:=a
    obtain ⟨hpl1,hpl2⟩:=hpl
    simp only at hpl1 hpl2
    subst hpl1
    have hll:(l.map g).length=len:=by simp [hl,hel]
    have key:∀(i:Nat) (x:List D),(l.map g)[i]?=some x→x.length=n∧∀(j:Nat) (d:D),x[j]?=some d→∃v,W.cell? ⟨b,off+(i*n+j),none⟩=some v∧v.oneCell'=true∧RepV (fun _=>.imm) W d v:=fun i x hi=>by
     rw [List.getElem?_map,Option.map_eq_some_iff] at hi
     obtain ⟨c,hci,rfl⟩:=hi
     obtain ⟨_,cs',e1,e2,_,e3⟩:=hRi i c hci
     refine ⟨e2,fun j d hd=>?_⟩
     obtain ⟨k1,k2⟩:=vC e1
     have hj:j<cs'.length:=by rw [k1,←e2];exact (List.getElem?_eq_some_iff.1 hd).1
     have h5:=k2 j cs'[j] (List.getElem?_eq_getElem hj)
     refine ⟨cs'[j],?_,e3 j d cs'[j] hd (List.getElem?_eq_getElem hj)⟩
     rw [←h5]
     rw [Addr.add_add]
     simp only [Addr.add]
     split
     ·rename_i hz';rw [hz'];rfl
     ·rfl
    have hrep:=RepV.slc (K:=fun _=>.imm) (w:=W) (l.map g) b off cap n (fun i j=>(W.cell? ⟨b,off+(i*n+j),none⟩).getD default) (by rw [hll];have:=qt;omega) (by rw [hll];exact hlc) hcm
     (fun i x hi=>(key i x hi).1) ⟨hpl2,trivial⟩
     (fun i x hi j d hd=>by obtain ⟨v,e1,e2,e3⟩:=(key i x hi).2 j d hd;rw [e1];rfl)
     (fun i x hi j d hd=>by obtain ⟨v,e1,e2,e3⟩:=(key i x hi).2 j d hd;rw [e1];exact e2)
     (fun i x hi j d hd=>by obtain ⟨v,e1,e2,e3⟩:=(key i x hi).2 j d hd;rw [e1];exact e3)
    rw [hll] at hrep
    exact hrep
structure RdF (P:Program) (fs:List Field) (off n:Nat) {T:Type} (g:T→List D) (Q:T→Prop):Prop where
 out:∀{H:Type} (enc:TypeId×Value→H) (W:World) (fuel:Nat) (cs:List Value) (xs:List (DataW H×List MemPlace)),
  xs.length=fs.length→(∀(i:Nat) (f:Field),fs[i]?=some f→DataW.trod enc P W 0 (fun _=>true) true fuel f.type ((cs.drop f.offset).take (P.cellsOf f.type))=xs[i]?)→(∀y∈xs,Rows.uptoBulk y.1≤1048576)→
  ∃a:T,(g a).length=n∧Q a∧∀(j:Nat) (d:D) (v:Value),(g a)[j]?=some d→cs[off+j]?=some v→v.oneCell'=true∧RepV (fun _=>.imm) W d v
theorem RdF.nil {off:Nat}:RdF P [] off 0 (fun _:Unit=>[]) (fun _=>True):=by
 refine ⟨?_⟩
 intro H enc W fuel cs xs _ _ _
 exact ⟨(),rfl,trivial,fun j d v hd=>by simp at hd⟩
theorem RdF.cons {f:Field} {fs:List Field} {off n0 n:Nat} {T0 T:Type} {g0:T0→List D} {Q0:T0→Prop} {g:T→List D} {Q:T→Prop} (hf:f.offset=off) (h0:Rd P f.type n0 g0 Q0) (h:RdF P fs (off+n0) n g Q):
  RdF P (f::fs) off (n0+n) (fun a:T0×T=>g0 a.1++g a.2) (fun a=>Q0 a.1∧Q a.2):=by
 refine ⟨?_⟩
 intro H enc W fuel cs xs hl hx hb
 match xs,hl with
 | x::xs,hl=>
  obtain ⟨a0,e1,e2,e3,e4⟩:=h0.out enc W fuel _ x (hx 0 f rfl) (hb x (List.mem_cons_self ..))
  obtain ⟨a,k2,k3,k4⟩:=h.out enc W fuel cs xs (by simpa using hl) (fun i f' hi=>hx (i+1) f' (by simpa using hi)) (fun y hy=>hb y (List.mem_cons_of_mem _ hy))
  refine ⟨(a0,a),by simp [e2,k2],⟨e3,k3⟩,fun j d v hd hv=>?_⟩
  simp only [List.getElem?_append,e2] at hd
  split at hd
  ·rename_i hj
   refine e4 j d v hd ?_
   have h1:(List.take (P.cellsOf f.type) (List.drop f.offset cs)).length=n0:=e1
   rw [List.length_take] at h1
   rw [List.getElem?_take,if_pos (by omega),List.getElem?_drop,hf]
   exact hv
  ·rename_i hj
   exact k4 (j - n0) d v hd (by rw [show off+n0+(j - n0)=off+j by omega];exact hv)
theorem Rd.struct {t:TypeId} {fs:Array Field} {n:Nat} {T:Type} {g:T→List D} {Q:T→Prop} (ht:P.underlying t=some (.struct fs)) (hc:P.cellsOf t=n) (h:RdF P fs.toList 0 n g Q):Rd P t n g Q:=by
 refine ⟨?_⟩
 intro H enc W fuel cs x hx hb
 obtain ⟨xs,m,rfl,rfl,hl,hxl,hget⟩:=DataW.trod_struct ht hx
 obtain ⟨a,k2,k3,k4⟩:=h.out enc W m cs xs (by simpa using hxl) (fun i f hi=>hget i f (by simpa using hi)) (fun y hy=>by
  have h1:=Jf (List.mem_map_of_mem (f:=(·.1)) hy)
  simp only [Rows.uptoBulk] at hb
  omega)
 exact ⟨a,hl.trans hc,k2,k3,fun j d v hd hv=>k4 j d v hd (by rw [Nat.zero_add];exact hv)⟩
def Vl (P:Program) (t:TypeId):Bool:=match P.underlying t with|some (.struct _)|some (.array _ _)=>true|_=>false
theorem Rd.arg1 {t:TypeId} {T:Type} {g:T→D} {Q:T→Prop} (h:Rd P t 1 (fun a=>[g a]) Q) (hr:Vl P t=false) {H:Type} {enc:TypeId×Value→H} {W:World} {r:Reach} {b0:Nat} {v:Value} {d:DataW H} {ps:List MemPlace}
  (hval:Value.okWide P W r b0 t v) (hd:DataW.Trod enc P W 0 (fun _=>true) true t v d ps) (hb:Rows.uptoBulk d≤1048576):∃a:T,Q a∧RepV (fun _=>.imm) W (g a) v:=by
 obtain ⟨fuel,hf⟩:=hd
 obtain ⟨a,h1,_,h3,h4⟩:=h.out enc W fuel _ (d,ps) hf hb
 refine ⟨a,h3,?_⟩
 have hcl:Cell.okWide P W r b0 t v:=by
  unfold Value.okWide at hval
  unfold Vl at hr
  split at hval
  ·rename_i hq;simp [hq] at hr
  ·rename_i hq;simp [hq] at hr
  ·exact hval
 cases v with
 | agg cs=>
  unfold Cell.okWide at hcl
  split at hcl<;>simp_all [Cell.ok]
  done
 |_=>exact (h4 0 (g a) _ rfl rfl).2
theorem Jx {W W':World} (h:Go.RowKit.Below W.heap.size W W') {b off:Nat} (hb:b<W.heap.size):W'.frozen? ⟨b,off,none⟩=W.frozen? ⟨b,off,none⟩:=by
 simp only [World.frozen?,h.block b hb]
theorem Wm {W W':World} (h:Go.RowKit.Below W.heap.size W W') {p:MemPlace} (hp:p.block<W.heap.size):W.sameAt W' p:=by
 cases p with
 |cell b off=>exact j3 (h.block b hp) off
 |map b=>exact h.block b hp
theorem Yy {W W':World} (h:Go.RowKit.Below W.heap.size W W') (may:MemPlace→Prop):W.keptBut W' may:=by
 refine ⟨h.os,h.output,fun i hi=>?_⟩
 rw [h.block i hi]
 cases W.heap[i]? with
 |none=>rfl
 |some o=>cases o<;>simp
theorem o4 {H:Type} {enc:TypeId×Value→H} {W W':World} (h:Go.RowKit.Below W.heap.size W W') {base:Nat} {sp:Nat→Bool} {held:Bool}:∀{ts:List TypeId} {vs:List Value} {ds:List (DataW H)} {ps:List MemPlace},
  DataW.TrodAll enc P W base sp held ts vs ds ps→(∀p∈ps,p.block<W.heap.size)→DataW.TrodAll enc P W' base sp held ts vs ds ps
 | [],[],[],_,hA,_=>hA
 |_::_,_::_,_::_,_,⟨p,q,⟨fuel,h1⟩,h2,e⟩,hp=>⟨p,q,⟨fuel,DataW.trod_carry _ _ _ _ h1 (fun x hx=>Wm h (hp x (by rw [e];exact List.mem_append_left _ hx)))⟩,o4 h h2 (fun x hx=>hp x (by rw [e];exact List.mem_append_right _ hx)),e⟩
theorem VH {f:Func} {s:ChangeSpec} {apart fresh handsOn again:Bool} {W W':World} {args:Array Value} {H:Type} {enc:TypeId×Value→H} {ds gs:List (DataW H)} {before:List MemPlace} {t:TypeId} {T:TypeId→Prop}
  (K:Kids P T) (hz:∀t e,T t→P.underlying t=some (.slice e)→0<P.cellsOf e) (hT:∀t∈f.params.toList,T t)
  (hW:DataW.Whole enc P f.params.toList s.vars apart W args.toList ds gs before) (hv:s.vars= [])
  (hb:Go.RowKit.Below W.heap.size W W') (hr:f.resultTypes=#[t]) (ht:P.underlying t=some .bool)
  (hs:s.fn H (ds++gs)={results:= [.lit (.bool true)],args:=ds}):
  s.post enc P f apart fresh handsOn again W args (.bool true) W':=by
 have hW':=hW
 have hlt:=hW.lt
 obtain ⟨p,q,hA,hV,rfl,hfz,hnd⟩:=hW
 rw [hv] at hV
 obtain ⟨rfl,rfl⟩:=trodVars_none hV
 simp only [List.append_nil] at hlt hfz hnd hW' hs
 have hA':=o4 hb hA hlt
 have hres:∀(b:Nat) (sp:Nat→Bool) (hd:Bool),DataW.TrodAll enc P W' b sp hd f.resultTypes.toList ((Value.bool true).resultList f.resultTypes.size) [.lit (.bool true)] []:=fun b sp hd=>by
  rw [hr]
  exact trodAll_cons_mk (shut_bool ht true) trodAll_mk0
 refine ⟨ds,[],p,[],p,[],hW',?_,?_,?_,Yy hb _,fun _=>⟨?_,[.lit (.bool true)]++ds,[],p,⟨[]++p,[],?_,?_,by simp,?_,?_⟩,fun p hp _=>hp⟩⟩
 ·rw [List.append_nil,hs];exact hres _ _ _
 ·rw [List.append_nil,hs];exact DataW.TrodAll.respare K hz hT hA' (fun x hx=>by simpa using hlt x hx)
 ·rw [List.append_nil,hs,hv];rfl
 ·exact ok_one hr rfl (okWide_bool_mk ht true)
 ·exact trodAll_append hA' (hres _ _ _)
 ·rw [hv];rfl
 ·intro b off hp
  rw [Jx hb (b:=b) (off:=off) (hlt _ hp)]
  exact hfz b off hp
 ·exact hnd
end
end Go.Aw
end
section
namespace Go.Proofs.YtpdhandimdibhaaGreatDoor
open Go Go.Aw
structure Id3 where
 o:Int
 s:Int
 i:Int
 deriving DecidableEq
structure Rf where
 o:Int
 s:Int
 deriving DecidableEq
structure OpP where
 k:Int
 on:Id3
 to:Id3
 ids:List Id3
 n:Int
 name:List UInt8
 text:List UInt8
 a:Int
 b:Int
 deriving DecidableEq
structure Pt where
 o:Int
 s:Int
 day:Int
 needs:List Rf
 ops:List OpP
 sl:List UInt8
 deriving DecidableEq
def wE:Id3:=⟨0,0,0⟩
def jI:OpP:=⟨0,wE,wE,[],0,[],[],0,0⟩
def uB:Pt:=⟨0,0,0,[],[],[]⟩
instance:Inhabited Id3:=⟨wE⟩
instance:Inhabited Rf:=⟨⟨0,0⟩⟩
instance:Inhabited OpP:=⟨jI⟩
instance:Inhabited Pt:=⟨uB⟩
def Id3.d (x:Id3):List D:= [.int .i64 x.o,.int .i64 x.s,.int .i64 x.i]
def Rf.d (x:Rf):List D:= [.int .i64 x.o,.int .i64 x.s]
def qI (l:List Id3):List (List D):=l.map Id3.d
def qM (l:List Rf):List (List D):=l.map Rf.d
def OpP.d (x:OpP):List D:= [.int .i64 x.k,.int .i64 x.on.o,.int .i64 x.on.s,.int .i64 x.on.i,.int .i64 x.to.o,.int .i64 x.to.s,.int .i64 x.to.i,.slc (qI x.ids),.int .i64 x.n,.str x.name,.str x.text,.int .i64 x.a,.int .i64 x.b]
def qE (l:List OpP):List (List D):=l.map OpP.d
def Pt.d (p:Pt):List D:= [.int .i64 p.o,.int .i64 p.s,.int .i64 p.day,.slc (qM p.needs),.slc (qE p.ops),.str p.sl]
def qY (l:List Pt):List (List D):=l.map Pt.d
def jm (l:List Bool):List (List D):=l.map fun b=>[.bool b]
def j5 (l:List (List Bool)):List (List D):=l.map fun x=>[.slc (jm x)]
def upto {α:Type} (f:Nat→List α):Nat→List α
 |0=>[]
 |k+1=>upto f k++f k
theorem vp {α:Type} {f:Nat→List α} {c:Nat} (h:∀k,(f k).length≤c):∀k,(upto f k).length≤k*c
 |0=>by simp [upto]
 | k+1=>by
  have:=vp h k
  have:=h k
  rw [upto,List.length_append,Nat.add_mul]
  omega
theorem upto_mem {α:Type} {f:Nat→List α} {x:α}:∀{k:Nat},x∈upto f k↔∃i,i<k∧x∈f i
 |0=>by simp [upto]
 | k+1=>by
  rw [upto,List.mem_append,upto_mem]
  constructor
  ·rintro (⟨i,h1,h2⟩|h)
   ·exact ⟨i,by omega,h2⟩
   ·exact ⟨k,by omega,h⟩
  ·rintro ⟨i,h1,h2⟩
   by_cases e:i<k
   ·exact .inl ⟨i,e,h2⟩
   ·obtain rfl:i=k:=by omega
    exact .inr h2
theorem js {α:Type} {l:List α} {i:Nat} {d:α} (h:i<l.length):l.getD i d=l[i]:=by simp [h]
theorem qk {l:List Id3}:(qI l).length=l.length:=by simp [qI]
theorem ql {l:List Rf}:(qM l).length=l.length:=by simp [qM]
theorem qi {l:List OpP}:(qE l).length=l.length:=by simp [qE]
theorem qm {l:List Pt}:(qY l).length=l.length:=by simp [qY]
theorem jt {l:List Bool}:(jm l).length=l.length:=by simp [jm]
theorem kj {l:List (List Bool)}:(j5 l).length=l.length:=by simp [j5]
theorem kL {l:List Id3} {i:Nat} (h:i<l.length):(qI l).getD i []=(l.getD i default).d:=by simp [qI,h]
theorem uv {l:List Rf} {i:Nat} (h:i<l.length):(qM l).getD i []=(l.getD i default).d:=by simp [qM,h]
theorem ke {l:List OpP} {i:Nat} (h:i<l.length):(qE l).getD i []=(l.getD i default).d:=by simp [qE,h]
theorem wK {l:List Pt} {i:Nat} (h:i<l.length):(qY l).getD i []=(l.getD i default).d:=by simp [qY,h]
theorem zr {l:List Bool} {i:Nat} (h:i<l.length):(jm l).getD i []= [.bool (l.getD i false)]:=by simp [jm,h]
theorem Zu {l:List (List Bool)} {i:Nat} (h:i<l.length):(j5 l).getD i []= [.slc (jm (l.getD i []))]:=by simp [j5,h]
theorem zV {l:List Id3}:∀x∈qI l,x.length=3:=by
 intro x hx
 obtain ⟨t,_,rfl⟩:=List.mem_map.1 hx
 rfl
theorem zJ {l:List Rf}:∀x∈qM l,x.length=2:=by
 intro x hx
 obtain ⟨t,_,rfl⟩:=List.mem_map.1 hx
 rfl
theorem yi {l:List OpP}:∀x∈qE l,x.length=13:=by
 intro x hx
 obtain ⟨t,_,rfl⟩:=List.mem_map.1 hx
 rfl
theorem pts_6 {l:List Pt}:∀x∈qY l,x.length=6:=by
 intro x hx
 obtain ⟨t,_,rfl⟩:=List.mem_map.1 hx
 rfl
theorem bools_1 {l:List Bool}:∀x∈jm l,x.length=1:=by
 intro x hx
 obtain ⟨t,_,rfl⟩:=List.mem_map.1 hx
 rfl
theorem past_1 {l:List (List Bool)}:∀x∈j5 l,x.length=1:=by
 intro x hx
 obtain ⟨t,_,rfl⟩:=List.mem_map.1 hx
 rfl
theorem uL {a b:List Id3}:qI a++qI b=qI (a++b):=by simp [qI]
theorem Y7 {a b:List Rf}:qM a++qM b=qM (a++b):=by simp [qM]
theorem JW {a b:List OpP}:qE a++qE b=qE (a++b):=by simp [qE]
theorem V2 {a b:List Pt}:qY a++qY b=qY (a++b):=by simp [qY]
theorem WX {x:Id3}: [[.int .i64 x.o,.int .i64 x.s,.int .i64 x.i]]=qI [x]:=rfl
theorem dE {p:Pt}:p.d= [.int .i64 p.o,.int .i64 p.s,.int .i64 p.day,.slc (qM p.needs),.slc (qE p.ops),.str p.sl]:=rfl
end Go.Proofs.YtpdhandimdibhaaGreatDoor
end
