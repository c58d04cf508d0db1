/- A part of the proof of what the last text says: Aw19, Ea0, Ep0, Cz1, Xc. Conditions: those in each theorem. -/
import Derived.Test.YtffbjejmobhpkaaE14
import Derived.Test.YtffbjejmobhpkaaRows
import Derived.WalkKit
import Derived.ProofKit
import Derived.OpenShut
import Derived.JoinedCond
import Derived.KernelRfl
set_option linter.unusedVariables false
set_option linter.unusedSimpArgs false
set_option maxRecDepth 100000
set_option maxHeartbeats 16000000
open Nat renaming reduceSub → qa,reduceAdd → qb,reduceMul → qc,reduceEqDiff → qd,reduceLeDiff → qe,reduceBEq → qf
section
namespace Go.Aw
open Go Go.RowKit Go.ChangeShapes Go.WideShapes
open Go.Proofs.Ytffbjejmobhpkaa
section
variable {P : Program}
theorem bulk_one {H : Type} (d : DataW H) : 1 ≤ Rows.uptoBulk d := by
 cases d with
 | lit l=>cases l <;> simp [Rows.uptoBulk]
 | nil=>simp [Rows.uptoBulk]
 | ptr d=>simp [Rows.uptoBulk]
 | slice elems spare=>simp [Rows.uptoBulk]
 | agg parts=>simp [Rows.uptoBulk]
 | iface t d=>simp [Rows.uptoBulk]
 | map entries=>simp [Rows.uptoBulk]
 | held h=>simp [Rows.uptoBulk]
theorem bulk_part {H : Type} {d : DataW H} {l : List (DataW H)} (h : d ∈ l) : Rows.uptoBulk d ≤ Rows.uptoBulkAll l := by
 induction l with
 | nil=>cases h
 | cons x r ih =>
  simp only [Rows.uptoBulkAll]
  cases List.mem_cons.1 h with
  | inl e=>subst e; omega
  | inr e=>have := ih e; omega
theorem bulk_len {H : Type} (l : List (DataW H)) : l.length ≤ Rows.uptoBulkAll l := by
 induction l with
 | nil=>simp [Rows.uptoBulkAll]
 | cons x r ih=>have := bulk_one x; simp only [Rows.uptoBulkAll,List.length_cons]; omega
structure Rd (P : Program) (t : TypeId) (n : Nat) {T : Type} (g : T → List D) (Q : T → Prop) : Prop where
 out : ∀ {H : Type} (enc : TypeId × Value → H) (W : World) (fuel : Nat) (cs : List Value) (x : DataW H × List MemPlace),
  DataW.trod enc P W 0 (fun _=>true) true fuel t cs = some x → Rows.uptoBulk x.1 ≤ 1048576 →
  ∃ a : T,cs.length = n ∧ (g a).length = n ∧ Q a ∧ ∀ (j : Nat) (d : D) (v : Value),(g a)[j]? = some d → cs[j]? = some v → v.oneCell' = true ∧ RepV (fun _=>.imm) W d v
theorem one_rep {W : World} {d : D} {v : Value} (h1 : v.oneCell' = true) (h : RepV (fun _=>.imm) W d v) : ∀ (j : Nat) (d' : D) (v' : Value),[d][j]? = some d' → [v][j]? = some v' → v'.oneCell' = true ∧ RepV (fun _=>.imm) W d' v' := by
 intro j d' v' hd hv
 cases j with
 | zero =>
  simp only [List.getElem?_cons_zero,Option.some.injEq] at hd hv
  subst hd; subst hv
  exact ⟨h1,h⟩
 | succ j=>simp at hd
theorem Rd.int {t : TypeId} {k : IntKind} (ht : P.underlying t = some (.int k)) : Rd P t 1 (fun n : Int=>[.int k n]) (fun _=>True) := by
 refine ⟨?_⟩
 intro H enc W fuel cs x h _
 obtain ⟨n,rfl,rfl,hw⟩ := DataW.trod_int ht h
 exact ⟨n,rfl,rfl,trivial,one_rep rfl (.int k n hw)⟩
theorem Rd.bool {t : TypeId} (ht : P.underlying t = some .bool) : Rd P t 1 (fun b : Bool=>[.bool b]) (fun _=>True) := by
 refine ⟨?_⟩
 intro H enc W fuel cs x h _
 obtain ⟨n,rfl,rfl⟩ := DataW.trod_bool ht h
 exact ⟨n,rfl,rfl,trivial,one_rep rfl (.bool n)⟩
theorem Rd.str {t : TypeId} (ht : P.underlying t = some .string) : Rd P t 1 (fun s : List UInt8=>[.str s]) (fun s=>s.length ≤ 1048576) := by
 refine ⟨?_⟩
 intro H enc W fuel cs x h hb
 obtain ⟨s,rfl,rfl,hs⟩ := DataW.trod_string ht h
 have hl : s.data.toList.length ≤ 1048576 := by
  simp only [Rows.uptoBulk] at hb
  omega
 refine ⟨s.data.toList,rfl,rfl,hl,one_rep rfl ?_⟩
 exact .str s.data.toList (Nat.le_trans hl (by decide))
theorem Rd.imp {t : TypeId} {n : Nat} {T : Type} {g : T → List D} {Q Q' : T → Prop} (h : Rd P t n g Q) (hq : ∀ a,Q a → Q' a) : Rd P t n g Q' := by
 refine ⟨?_⟩
 intro H enc W fuel cs x hx hb
 obtain ⟨a,h1,h2,h3,h4⟩ := h.out enc W fuel cs x hx hb
 exact ⟨a,h1,h2,hq a h3,h4⟩
theorem Rd.map {t : TypeId} {n : Nat} {T T' : Type} {g : T → List D} {Q : T → Prop} (h : Rd P t n g Q) (f : T → T') {g' : T' → List D} {Q' : T' → Prop} (hg : ∀ a,g' (f a) = g a) (hq : ∀ a,Q a → Q' (f a)) : Rd P t n g' Q' := by
 refine ⟨?_⟩
 intro H enc W fuel cs x hx hb
 obtain ⟨a,h1,h2,h3,h4⟩ := h.out enc W fuel cs x hx hb
 exact ⟨f a,h1,by rw [hg]; exact h2,hq a h3,by rw [hg]; exact h4⟩
theorem cells_get {W : World} {b : Nat} {a : Addr} {n : Nat} {cs : List Value} (h : W.cells? b a n = some cs) : cs.length = n ∧ ∀ j v,cs[j]? = some v → W.cell? (a.add j) = some v := by
 unfold World.cells? at h
 split at h
 ·have hl : cs.length = n := by simpa using mapM_some_length h
  refine ⟨hl,fun j v hj=>?_⟩
  have hlt : j < n := by rw [← hl]; exact (List.getElem?_eq_some_iff.1 hj).1
  rw [mapM_some_get h j j (by simp [hlt]),hj]
 ·cases h
theorem cell_plain {W : World} {a : Addr} {v : Value} (h : W.cell? a = some v) : a.spot = none ∧ a.block < W.heap.size := by
 unfold World.cell? at h
 split at h
 ·rename_i c _ _ he
  split at h
  ·cases h
  ·rename_i hs
   refine ⟨by cases hq : a.spot with | none=>rfl | some z=>rw [hq] at hs; exact (hs rfl).elim,?_⟩
   rcases Nat.lt_or_ge a.block W.heap.size with h' | h'
   ·exact h'
   ·rw [Array.getElem?_eq_none h'] at he
    cases he
 ·cases h
theorem list_choose {α β : Type} {R : Nat → α → β → Prop} : ∀ (xs : List α) (k : Nat),(∀ i x,xs[i]? = some x → ∃ y,R (k + i) x y) → ∃ ys : List β,ys.length = xs.length ∧ ∀ i x y,xs[i]? = some x → ys[i]? = some y → R (k + i) x y
 | [],k,_=>⟨[],rfl,fun i x y h=>by simp at h⟩
 | x :: xs,k,h=>by
  obtain ⟨y,hy⟩ := h 0 x rfl
  obtain ⟨ys,h1,h2⟩ := list_choose xs (k + 1) (R := R) (fun i x' hx=>by
   obtain ⟨y',hy'⟩ := h (i + 1) x' (by simpa using hx)
   exact ⟨y',by rw [show k + 1 + i = k + (i + 1) by omega]; exact hy'⟩)
  refine ⟨y :: ys,by simp [h1],fun i x' y' hx hy'=>?_⟩
  cases i with
  | zero =>
   simp only [List.getElem?_cons_zero,Option.some.injEq] at hx hy'
   subst hx; subst hy'
   exact hy
  | succ i =>
   have := h2 i x' y' (by simpa using hx) (by simpa using hy')
   rw [show k + (i + 1) = k + 1 + i by omega]
   exact this
theorem Rd.slice {t e : TypeId} {n : Nat} {T : Type} {g : T → List D} {Q : T → Prop} (ht : P.underlying t = some (.slice e)) (hc : P.cellsOf e = n) (hn : 0 < n) (h : Rd P e n g Q) :
  Rd P t 1 (fun l : List T=>[.slc (l.map g)]) (fun l=>l.length ≤ 1048576 ∧ ∀ a ∈ l,Q a) := by
 refine ⟨?_⟩
 intro H enc W fuel cs x hx hb
 rcases DataW.trod_slice ht hx with ⟨rfl,rfl⟩ | ⟨a,len,cap,elems,rest,m,rfl,rfl,rfl,hba,hlc,hcm,hel,hget,hsp,_⟩
 ·exact ⟨[],rfl,rfl,⟨by simp,fun _ h=>by simp at h⟩,one_rep rfl (.slcnil none)⟩
 ·rw [hc] at hget hsp
  have hlen : elems.length + rest.length + 1 ≤ 1048576 := by
   have h1 := bulk_len (elems.map (·.1))
   have h2 := bulk_len (rest.map (·.1))
   simp only [Rows.uptoBulk,List.length_map] at hb h1 h2
   omega
  have hel2 : ∀ y,y ∈ elems → Rows.uptoBulk y.1 ≤ 1048576 := fun y hy=>by
   have h1 := bulk_part (List.mem_map_of_mem (f := (·.1)) hy)
   simp only [Rows.uptoBulk] at hb
   omega
  obtain ⟨l,hl,hR⟩ := list_choose (R := fun i (y : DataW H × List MemPlace) (c : T)=>∃ cs',W.cells? 0 (a.add (i * n)) n = some cs' ∧ (g c).length = n ∧ Q c ∧ ∀ (j : Nat) (d : D) (v : Value),(g c)[j]? = some d → cs'[j]? = some v → v.oneCell' = true ∧ RepV (fun _=>.imm) W d v) elems 0 (fun i y hy=>by
    have hi : i < len := by rw [← hel]; exact (List.getElem?_eq_some_iff.1 hy).1
    have hg := hget i hi
    rw [hy] at hg
    obtain ⟨cs',e1,e2⟩ := Option.bind_eq_some_iff.1 hg
    obtain ⟨c,_,g2,g3,g4⟩ := h.out enc W m cs' y e2 (hel2 y (List.mem_of_getElem? hy))
    exact ⟨c,cs',by rw [Nat.zero_add]; exact e1,g2,g3,g4⟩)
  have hRi : ∀ i c,l[i]? = some c → i < len ∧ ∃ cs',W.cells? 0 (a.add (i * n)) n = some cs' ∧ (g c).length = n ∧ Q c ∧ ∀ (j : Nat) (d : D) (v : Value),(g c)[j]? = some d → cs'[j]? = some v → v.oneCell' = true ∧ RepV (fun _=>.imm) W d v := fun i c hi=>by
   have hlt : i < elems.length := by rw [← hl]; exact (List.getElem?_eq_some_iff.1 hi).1
   have := hR i elems[i] c (List.getElem?_eq_getElem hlt) hi
   rw [Nat.zero_add] at this
   exact ⟨by omega,this⟩
  refine ⟨l,rfl,rfl,⟨by omega,fun c hc'=>?_⟩,one_rep rfl ?_⟩
  ·obtain ⟨i,hi⟩ := List.getElem?_of_mem hc'
   obtain ⟨_,cs',_,_,hq,_⟩ := hRi i c hi
   exact hq
  ·by_cases hz : cap = 0
   ·have h0 : l = [] := List.eq_nil_of_length_eq_zero (by omega)
    have h1 : len = 0 := by omega
    subst hz; subst h1; subst h0
    exact .slcnil (some a)
   ·have hpl : a.spot = none ∧ a.block < W.heap.size := by
     by_cases hp : 0 < len
     ·have hg := hget 0 hp
      rw [List.getElem?_eq_getElem (by omega)] at hg
      obtain ⟨cs',e1,e2⟩ := Option.bind_eq_some_iff.1 hg
      obtain ⟨k1,k2⟩ := cells_get e1
      have := cell_plain (k2 0 cs'[0] (List.getElem?_eq_getElem (by omega)))
      simpa [Addr.add] using this
     ·have h0 : len = 0 := by omega
      obtain ⟨hr1,hr2⟩ := hsp rfl
      have hg := hr2 0 (by omega)
      rw [h0,Nat.zero_add,Nat.zero_mul] at hg
      rw [List.getElem?_eq_getElem (by omega)] at hg
      obtain ⟨cs',e1,e2⟩ := Option.bind_eq_some_iff.1 hg
      obtain ⟨k1,k2⟩ := cells_get e1
      have := cell_plain (k2 0 cs'[0] (List.getElem?_eq_getElem (by omega)))
      simpa [Addr.add] using this
    obtain ⟨b,off,sp⟩ := a
    obtain ⟨hpl1,hpl2⟩ := hpl
    simp only at hpl1 hpl2
    subst hpl1
    have hll : (l.map g).length = len := by simp [hl,hel]
    have key : ∀ (i : Nat) (x : List D),(l.map g)[i]? = some x → x.length = n ∧ ∀ (j : Nat) (d : D),x[j]? = some d → ∃ v,W.cell? ⟨b,off + (i * n + j),none⟩ = some v ∧ v.oneCell' = true ∧ RepV (fun _=>.imm) W d v := fun i x hi=>by
     rw [List.getElem?_map,Option.map_eq_some_iff] at hi
     obtain ⟨c,hci,rfl⟩ := hi
     obtain ⟨_,cs',e1,e2,_,e3⟩ := hRi i c hci
     refine ⟨e2,fun j d hd=>?_⟩
     obtain ⟨k1,k2⟩ := cells_get e1
     have hj : j < cs'.length := by rw [k1,← e2]; exact (List.getElem?_eq_some_iff.1 hd).1
     have h5 := k2 j cs'[j] (List.getElem?_eq_getElem hj)
     refine ⟨cs'[j],?_,e3 j d cs'[j] hd (List.getElem?_eq_getElem hj)⟩
     rw [← h5]
     rw [Addr.add_add]
     simp only [Addr.add]
     split
     ·rename_i hz'; rw [hz']; rfl
     ·rfl
    have hrep := RepV.slc (K := fun _=>.imm) (w := W) (l.map g) b off cap n (fun i j=>(W.cell? ⟨b,off + (i * n + j),none⟩).getD default) (by rw [hll]; have := big_eq; omega) (by rw [hll]; exact hlc) hcm
     (fun i x hi=>(key i x hi).1) ⟨hpl2,trivial⟩
     (fun i x hi j d hd=>by obtain ⟨v,e1,e2,e3⟩ := (key i x hi).2 j d hd; rw [e1]; rfl)
     (fun i x hi j d hd=>by obtain ⟨v,e1,e2,e3⟩ := (key i x hi).2 j d hd; rw [e1]; exact e2)
     (fun i x hi j d hd=>by obtain ⟨v,e1,e2,e3⟩ := (key i x hi).2 j d hd; rw [e1]; exact e3)
    rw [hll] at hrep
    exact hrep
structure RdF (P : Program) (fs : List Field) (off n : Nat) {T : Type} (g : T → List D) (Q : T → Prop) : Prop where
 out : ∀ {H : Type} (enc : TypeId × Value → H) (W : World) (fuel : Nat) (cs : List Value) (xs : List (DataW H × List MemPlace)),
  xs.length = fs.length → (∀ (i : Nat) (f : Field),fs[i]? = some f → DataW.trod enc P W 0 (fun _=>true) true fuel f.type ((cs.drop f.offset).take (P.cellsOf f.type)) = xs[i]?) → (∀ y ∈ xs,Rows.uptoBulk y.1 ≤ 1048576) →
  ∃ a : T,(g a).length = n ∧ Q a ∧ ∀ (j : Nat) (d : D) (v : Value),(g a)[j]? = some d → cs[off + j]? = some v → v.oneCell' = true ∧ RepV (fun _=>.imm) W d v
theorem RdF.nil {off : Nat} : RdF P [] off 0 (fun _ : Unit=>[]) (fun _=>True) := by
 refine ⟨?_⟩
 intro H enc W fuel cs xs _ _ _
 exact ⟨(),rfl,trivial,fun j d v hd=>by simp at hd⟩
theorem RdF.cons {f : Field} {fs : List Field} {off n0 n : Nat} {T0 T : Type} {g0 : T0 → List D} {Q0 : T0 → Prop} {g : T → List D} {Q : T → Prop} (hf : f.offset = off) (h0 : Rd P f.type n0 g0 Q0) (h : RdF P fs (off + n0) n g Q) :
  RdF P (f :: fs) off (n0 + n) (fun a : T0 × T=>g0 a.1 ++ g a.2) (fun a=>Q0 a.1 ∧ Q a.2) := by
 refine ⟨?_⟩
 intro H enc W fuel cs xs hl hx hb
 match xs,hl with
 | x :: xs,hl =>
  obtain ⟨a0,e1,e2,e3,e4⟩ := h0.out enc W fuel _ x (hx 0 f rfl) (hb x (List.mem_cons_self ..))
  obtain ⟨a,k2,k3,k4⟩ := h.out enc W fuel cs xs (by simpa using hl) (fun i f' hi=>hx (i + 1) f' (by simpa using hi)) (fun y hy=>hb y (List.mem_cons_of_mem _ hy))
  refine ⟨(a0,a),by simp [e2,k2],⟨e3,k3⟩,fun j d v hd hv=>?_⟩
  simp only [List.getElem?_append,e2] at hd
  split at hd
  ·rename_i hj
   refine e4 j d v hd ?_
   have h1 : (List.take (P.cellsOf f.type) (List.drop f.offset cs)).length = n0 := e1
   rw [List.length_take] at h1
   rw [List.getElem?_take,if_pos (by omega),List.getElem?_drop,hf]
   exact hv
  ·rename_i hj
   exact k4 (j - n0) d v hd (by rw [show off + n0 + (j - n0) = off + j by omega]; exact hv)
theorem Rd.struct {t : TypeId} {fs : Array Field} {n : Nat} {T : Type} {g : T → List D} {Q : T → Prop} (ht : P.underlying t = some (.struct fs)) (hc : P.cellsOf t = n) (h : RdF P fs.toList 0 n g Q) : Rd P t n g Q := by
 refine ⟨?_⟩
 intro H enc W fuel cs x hx hb
 obtain ⟨xs,m,rfl,rfl,hl,hxl,hget⟩ := DataW.trod_struct ht hx
 obtain ⟨a,k2,k3,k4⟩ := h.out enc W m cs xs (by simpa using hxl) (fun i f hi=>hget i f (by simpa using hi)) (fun y hy=>by
  have h1 := bulk_part (List.mem_map_of_mem (f := (·.1)) hy)
  simp only [Rows.uptoBulk] at hb
  omega)
 exact ⟨a,hl.trans hc,k2,k3,fun j d v hd hv=>k4 j d v hd (by rw [Nat.zero_add]; exact hv)⟩
def isRow (P : Program) (t : TypeId) : Bool := match P.underlying t with | some (.struct _) | some (.array _ _)=>true | _=>false
theorem Rd.arg1 {t : TypeId} {T : Type} {g : T → D} {Q : T → Prop} (h : Rd P t 1 (fun a=>[g a]) Q) (hr : isRow P t = false) {H : Type} {enc : TypeId × Value → H} {W : World} {r : Reach} {b0 : Nat} {v : Value} {d : DataW H} {ps : List MemPlace}
  (hval : Value.okWide P W r b0 t v) (hd : DataW.Trod enc P W 0 (fun _=>true) true t v d ps) (hb : Rows.uptoBulk d ≤ 1048576) : ∃ a : T,Q a ∧ RepV (fun _=>.imm) W (g a) v := by
 obtain ⟨fuel,hf⟩ := hd
 obtain ⟨a,h1,_,h3,h4⟩ := h.out enc W fuel _ (d,ps) hf hb
 refine ⟨a,h3,?_⟩
 have hcl : Cell.okWide P W r b0 t v := by
  unfold Value.okWide at hval
  unfold isRow at hr
  split at hval
  ·rename_i hq; simp [hq] at hr
  ·rename_i hq; simp [hq] at hr
  ·exact hval
 cases v with
 | agg cs =>
  unfold Cell.okWide at hcl
  split at hcl <;> simp_all [Cell.ok]
  done
 | _=>exact (h4 0 (g a) _ rfl rfl).2
theorem below_frozen {W W' : World} (h : Go.RowKit.Below W.heap.size W W') {b off : Nat} (hb : b < W.heap.size) : W'.frozen? ⟨b,off,none⟩ = W.frozen? ⟨b,off,none⟩ := by
 simp only [World.frozen?,h.block b hb]
theorem below_same {W W' : World} (h : Go.RowKit.Below W.heap.size W W') {p : MemPlace} (hp : p.block < W.heap.size) : W.sameAt W' p := by
 cases p with
 | cell b off=>exact cell_of_block (h.block b hp) off
 | map b=>exact h.block b hp
theorem below_kept {W W' : World} (h : Go.RowKit.Below W.heap.size W W') (may : MemPlace → Prop) : W.keptBut W' may := by
 refine ⟨h.os,h.output,fun i hi=>?_⟩
 rw [h.block i hi]
 cases W.heap[i]? with
 | none=>rfl
 | some o=>cases o <;> simp
theorem trodAll_below {H : Type} {enc : TypeId × Value → H} {W W' : World} (h : Go.RowKit.Below W.heap.size W W') {base : Nat} {sp : Nat → Bool} {held : Bool} : ∀ {ts : List TypeId} {vs : List Value} {ds : List (DataW H)} {ps : List MemPlace},
  DataW.TrodAll enc P W base sp held ts vs ds ps → (∀ p ∈ ps,p.block < W.heap.size) → DataW.TrodAll enc P W' base sp held ts vs ds ps
 | [],[],[],_,hA,_=>hA
 | _ :: _,_ :: _,_ :: _,_,⟨p,q,⟨fuel,h1⟩,h2,e⟩,hp=>⟨p,q,⟨fuel,DataW.trod_carry _ _ _ _ h1 (fun x hx=>below_same h (hp x (by rw [e]; exact List.mem_append_left _ hx)))⟩,trodAll_below h h2 (fun x hx=>hp x (by rw [e]; exact List.mem_append_right _ hx)),e⟩
theorem post_true {f : Func} {s : ChangeSpec} {apart fresh handsOn again : Bool} {W W' : World} {args : Array Value} {H : Type} {enc : TypeId × Value → H} {ds gs : List (DataW H)} {before : List MemPlace} {t : TypeId} {T : TypeId → Prop}
  (K : Kids P T) (hz : ∀ t e,T t → P.underlying t = some (.slice e) → 0 < P.cellsOf e) (hT : ∀ t ∈ f.params.toList,T t)
  (hW : DataW.Whole enc P f.params.toList s.vars apart W args.toList ds gs before) (hv : s.vars = [])
  (hb : Go.RowKit.Below W.heap.size W W') (hr : f.resultTypes = #[t]) (ht : P.underlying t = some .bool)
  (hs : s.fn H (ds ++ gs) = { results := [.lit (.bool true)],args := ds }) :
  s.post enc P f apart fresh handsOn again W args (.bool true) W' := by
 have hW' := hW
 have hlt := hW.lt
 obtain ⟨p,q,hA,hV,rfl,hfz,hnd⟩ := hW
 rw [hv] at hV
 obtain ⟨rfl,rfl⟩ := trodVars_none hV
 simp only [List.append_nil] at hlt hfz hnd hW' hs
 have hA' := trodAll_below hb hA hlt
 have hres : ∀ (b : Nat) (sp : Nat → Bool) (hd : Bool),DataW.TrodAll enc P W' b sp hd f.resultTypes.toList ((Value.bool true).resultList f.resultTypes.size) [.lit (.bool true)] [] := fun b sp hd=>by
  rw [hr]
  exact trodAll_cons_mk (shut_bool ht true) trodAll_mk0
 refine ⟨ds,[],p,[],p,[],hW',?_,?_,?_,below_kept hb _,fun _=>⟨?_,[.lit (.bool true)] ++ ds,[],p,⟨[] ++ p,[],?_,?_,by simp,?_,?_⟩,fun p hp _=>hp⟩⟩
 ·rw [List.append_nil,hs]; exact hres _ _ _
 ·rw [List.append_nil,hs]; exact DataW.TrodAll.respare K hz hT hA' (fun x hx=>by simpa using hlt x hx)
 ·rw [List.append_nil,hs,hv]; rfl
 ·exact ok_one hr rfl (okWide_bool_mk ht true)
 ·exact trodAll_append hA' (hres _ _ _)
 ·rw [hv]; rfl
 ·intro b off hp
  rw [below_frozen hb (b := b) (off := off) (hlt _ hp)]
  exact hfz b off hp
 ·exact hnd
end
end Go.Aw
end
section
namespace Go.Aw
open Go Go.RowKit
theorem XW.loopS {P : Program} (hm : P.follows .mixedOrders = true) {x : XC} {F : List D} {H : AH} {Q : AQ} {σ : Type} (n : Nat) (fr : σ → List (Nat × D)) (hp : σ → AH) (μ : σ → Nat) (inv : σ → Prop) (s0 : σ)
  (i0 : inv s0) (f0 : Fr n (fr s0) F) (e0 : hp s0 = H)
  (round : ∀ s (z : Nat → D),inv s → ∀ K : AQ,(∀ s' F' H',inv s' → μ s' < μ s → Fr n (fr s') F' → back (hp s).length H' = hp s' → K .normal F' H') → (∀ i F' H',Q (.exit i) F' H' → K (.exit i) F' H') → (∀ F' H',Q .ret F' H' → K .ret F' H') →
   xcode P x ((List.range n).map (frm (fr s) z)) (hp s) K) : XW P x F H Q := by
 let I : Nat → List D → AH → Prop := fun m F H=>∃ s,inv s ∧ Fr n (fr s) F ∧ hp s = H ∧ μ s = m
 refine XW.loopK hm (fun F H=>∃ m,I m F H) (fun F H=>open Classical in if h : ∃ m,I m F H then Classical.choose (least (fun m=>I m F H) h.choose h.choose_spec) else 0) ⟨_,s0,i0,f0,e0,rfl⟩ ?_
 intro F H hI K hN hE hR
 have hmin := Classical.choose_spec (least (fun m=>I m F H) hI.choose hI.choose_spec)
 simp only [dif_pos hI] at hN
 generalize Classical.choose (least (fun m=>I m F H) hI.choose hI.choose_spec) = m at hmin hN
 obtain ⟨⟨s,h1,h2,h3,h4⟩,hl⟩ := hmin
 obtain ⟨z,rfl⟩ := h2.lit
 subst h3 h4
 refine round s z h1 K (fun s' F' H' g1 g2 g3 g4=>hN F' H' ⟨_,s',g1,g3,g4.symm,rfl⟩ ?_) hE hR
 have hex : ∃ m,I m F' (back (hp s).length H') := ⟨_,s',g1,g3,g4.symm,rfl⟩
 simp only [dif_pos hex]
 have hmin' := Classical.choose_spec (least (fun m=>I m F' (back (hp s).length H')) hex.choose hex.choose_spec)
 generalize Classical.choose (least (fun m=>I m F' (back (hp s).length H')) hex.choose hex.choose_spec) = m' at hmin'
 have : m' ≤ μ s' := Nat.le_of_not_lt fun hlt=>hmin'.2 _ hlt ⟨s',g1,g3,g4.symm,rfl⟩
 omega
section
variable {α : Type} {f : α → List D} {l a b : List α} {i n : Nat}
def mapD (f : α → List D) (l : List α) : List (List D) := l.map f
theorem getD_lt {d : α} (h : i < l.length) : l.getD i d = l[i] := by simp [h]
theorem mapD_len : (mapD f l).length = l.length := by simp [mapD]
theorem mapD_get [Inhabited α] (h : i < l.length) : (mapD f l).getD i [] = f (l.getD i default) := by simp [mapD,h]
theorem mapD_sz (h : ∀ x,(f x).length = n) : ∀ x ∈ mapD f l,x.length = n := by
 intro x hx
 obtain ⟨t,_,rfl⟩ := List.mem_map.1 hx
 exact h t
theorem mapD_app : mapD f a ++ mapD f b = mapD f (a ++ b) := by simp [mapD]
theorem mapD_take : (mapD f l).take i = mapD f (l.take i) := by simp [mapD]
theorem mapD_drop : (mapD f l).drop i = mapD f (l.drop i) := by simp [mapD]
theorem take_succ [Inhabited α] (h : i < l.length) : l.take (i + 1) = l.take i ++ [l.getD i default] := by
 rw [List.take_add_one,getD_lt h]
 simp [h]
theorem drop_cons [Inhabited α] (h : i < l.length) : l.drop i = l.getD i default :: l.drop (i + 1) := by
 rw [getD_lt h]
 exact List.drop_eq_getElem_cons h
end
end Go.Aw
end
section
namespace Go.Proofs.Ytffbjejmobhpkaa
open Go Go.Aw
structure Id3 where
 o : Int
 s : Int
 i : Int
 deriving DecidableEq
def id0 : Id3 := ⟨0,0,0⟩
instance : Inhabited Id3 := ⟨id0⟩
structure Sp where
 a : Int
 b : Int
 deriving DecidableEq
def sp0 : Sp := ⟨0,0⟩
instance : Inhabited Sp := ⟨sp0⟩
structure Vl where
 text : List UInt8
 n : Int
 sp : Sp
 by_ : Id3
def vl0 : Vl := ⟨[],0,sp0,id0⟩
instance : Inhabited Vl := ⟨vl0⟩
structure Tr where
 lang : List UInt8
 vs : List Vl
structure Bn where
 w : Int
 to : List Id3
structure En where
 id : Id3
 hd : List Vl
 cl : List Vl
structure Sn where
 id : Id3
 par : Id3
 gl : List Vl
 ord : List Vl
 pub : List Vl
 wo : List Vl
 tr : List Tr
 bi : List Bn
 la : List (List UInt8)
 li : List Id3
def sn0 : Sn := ⟨id0,id0,[],[],[],[],[],[],[],[]⟩
instance : Inhabited Sn := ⟨sn0⟩
structure Sr where
 id : Id3
 title : List UInt8
 owner : List UInt8
 date : List Vl
def sr0 : Sr := ⟨id0,[],[],[]⟩
instance : Inhabited Sr := ⟨sr0⟩
structure Qt where
 id : Id3
 sense : Id3
 source : Id3
 page : Int
 text : List UInt8
def qt0 : Qt := ⟨id0,id0,id0,0,[]⟩
instance : Inhabited Qt := ⟨qt0⟩
structure Spl where
 by_ : Id3
 on : Id3
 parts : List Id3
 df : Int
def spl0 : Spl := ⟨id0,id0,[],0⟩
instance : Inhabited Spl := ⟨spl0⟩
structure Mg where
 by_ : Id3
 on : Id3
 to : Id3
def mg0 : Mg := ⟨id0,id0,id0⟩
instance : Inhabited Mg := ⟨mg0⟩
structure Ch where
 by_ : Id3
 on : Id3
 to : Id3
 part : Id3
def ch0 : Ch := ⟨id0,id0,id0,id0⟩
instance : Inhabited Ch := ⟨ch0⟩
structure Bk where
 en : List En
 sn : List Sn
 sr : List Sr
 qt : List Qt
 sl : List Spl
 mg : List Mg
 ch : List Ch
def intD (n : Int) : List D := [.int .i64 n]
def strD (s : List UInt8) : List D := [.str s]
def Id3.d (x : Id3) : List D := [.int .i64 x.o,.int .i64 x.s,.int .i64 x.i]
def Sp.d (x : Sp) : List D := [.int .i64 x.a,.int .i64 x.b]
def Vl.d (x : Vl) : List D := [.str x.text,.int .i64 x.n,.int .i64 x.sp.a,.int .i64 x.sp.b,.int .i64 x.by_.o,.int .i64 x.by_.s,.int .i64 x.by_.i]
def Tr.d (x : Tr) : List D := [.str x.lang,.slc (mapD Vl.d x.vs)]
def Bn.d (x : Bn) : List D := [.int .i64 x.w,.slc (mapD Id3.d x.to)]
def En.d (x : En) : List D := [.int .i64 x.id.o,.int .i64 x.id.s,.int .i64 x.id.i,.slc (mapD Vl.d x.hd),.slc (mapD Vl.d x.cl)]
def Sn.d (x : Sn) : List D := [.int .i64 x.id.o,.int .i64 x.id.s,.int .i64 x.id.i,.int .i64 x.par.o,.int .i64 x.par.s,.int .i64 x.par.i,.slc (mapD Vl.d x.gl),.slc (mapD Vl.d x.ord),.slc (mapD Vl.d x.pub),.slc (mapD Vl.d x.wo),.slc (mapD Tr.d x.tr),.slc (mapD Bn.d x.bi),.slc (mapD strD x.la),.slc (mapD Id3.d x.li)]
def Sr.d (x : Sr) : List D := [.int .i64 x.id.o,.int .i64 x.id.s,.int .i64 x.id.i,.str x.title,.str x.owner,.slc (mapD Vl.d x.date)]
def Qt.d (x : Qt) : List D := [.int .i64 x.id.o,.int .i64 x.id.s,.int .i64 x.id.i,.int .i64 x.sense.o,.int .i64 x.sense.s,.int .i64 x.sense.i,.int .i64 x.source.o,.int .i64 x.source.s,.int .i64 x.source.i,.int .i64 x.page,.str x.text]
def Spl.d (x : Spl) : List D := [.int .i64 x.by_.o,.int .i64 x.by_.s,.int .i64 x.by_.i,.int .i64 x.on.o,.int .i64 x.on.s,.int .i64 x.on.i,.slc (mapD Id3.d x.parts),.int .i64 x.df]
def Mg.d (x : Mg) : List D := [.int .i64 x.by_.o,.int .i64 x.by_.s,.int .i64 x.by_.i,.int .i64 x.on.o,.int .i64 x.on.s,.int .i64 x.on.i,.int .i64 x.to.o,.int .i64 x.to.s,.int .i64 x.to.i]
def Ch.d (x : Ch) : List D := [.int .i64 x.by_.o,.int .i64 x.by_.s,.int .i64 x.by_.i,.int .i64 x.on.o,.int .i64 x.on.s,.int .i64 x.on.i,.int .i64 x.to.o,.int .i64 x.to.s,.int .i64 x.to.i,.int .i64 x.part.o,.int .i64 x.part.s,.int .i64 x.part.i]
def Bk.d (b : Bk) : List D := [.slc (mapD En.d b.en),.slc (mapD Sn.d b.sn),.slc (mapD Sr.d b.sr),.slc (mapD Qt.d b.qt),.slc (mapD Spl.d b.sl),.slc (mapD Mg.d b.mg),.slc (mapD Ch.d b.ch)]
def Id3.lt (a b : Id3) : Prop := a.o < b.o ∨ a.o = b.o ∧ (a.s < b.s ∨ a.s = b.s ∧ a.i < b.i)
instance (a b : Id3) : Decidable (Id3.lt a b) := by unfold Id3.lt; exact inferInstance
instance {a b : Id3} : NL (decide (Id3.lt a b)) := ⟨trivial⟩
theorem id_ext {x y : Id3} : x = y ↔ x.o = y.o ∧ x.s = y.s ∧ x.i = y.i := by
 cases x; cases y; simp
theorem id_dec {x y : Id3} : (decide (x.o = y.o) && (decide (x.s = y.s) && decide (x.i = y.i))) = decide (x = y) := by
 rw [← Bool.decide_and,← Bool.decide_and]
 exact decide_eq_decide.2 id_ext.symm
def cmpZ (a b : Int) : Int := if a < b then -1 else if b < a then 1 else 0
def orL : List Int → Int
 | []=>0
 | x :: r=>if x = 0 then orL r else x
def ordI (a b : Id3) : Int := orL [cmpZ a.o b.o,cmpZ a.s b.s,cmpZ a.i b.i]
theorem ordI_neg {a b : Id3} : ordI a b < 0 ↔ a.lt b := by
 unfold ordI orL orL orL orL cmpZ Id3.lt
 repeat' split
 all_goals omega
theorem lt_irr {a : Id3} : ¬ a.lt a := by unfold Id3.lt; omega
theorem lt_trans {a b c : Id3} (h : a.lt b) (h' : b.lt c) : a.lt c := by unfold Id3.lt at *; omega
theorem lt_tri {a b : Id3} : a.lt b ∨ a = b ∨ b.lt a := by rw [id_ext]; unfold Id3.lt; omega
theorem lt_asymm {a b : Id3} (h : a.lt b) : ¬ b.lt a := fun h'=>lt_irr (lt_trans h h')
def OkSpan (x : Sp) : Prop := 1 ≤ x.a ∧ x.a ≤ x.b ∧ x.b ≤ 1022679
instance (x : Sp) : Decidable (OkSpan x) := by unfold OkSpan; exact inferInstance
end Go.Proofs.Ytffbjejmobhpkaa
end
section
namespace Go.Proofs.Ytffbjejmobhpkaa
open Go Go.Aw Go.RowKit Go.ChangeShapes Go.WideShapes
theorem rd_int : Rd Try.prog 3 1 (fun n : Int=>[.int .i64 n]) (fun _=>True) := Rd.int Try.underlying3
theorem rd_ints : Rd Try.prog 22 1 (fun l : List Int=>[.slc (mapD intD l)]) (fun l=>l.length ≤ 1048576) :=
 (Rd.slice Try.underlying22 (by kernel_rfl) (by decide) rd_int).imp fun _ h=>h.1
theorem own : ownKnob Try.prog.godebug = none := by kernel_rfl
theorem kids : Kids Try.prog (· < Try.prog.types.size) := kids_rows (by kernel_rfl) (by kernel_rfl)
theorem full : ∀ t e,t < Try.prog.types.size → Try.prog.underlying t = some (.slice e) → 0 < Try.prog.cellsOf e := slices_full_of Try.prog (by kernel_rfl)
theorem bound {H : Type} {l : List (DataW H)} (hk : Rows.uptoSmall H l = true) : Rows.uptoBulkAll l ≤ 1048576 := of_decide_eq_true hk
end Go.Proofs.Ytffbjejmobhpkaa
end
section
namespace Go.Proofs.Ytffbjejmobhpkaa
open Go.Xs
open Go Go.Aw
theorem hm : Try.prog.follows .mixedOrders = true := by kernel_rfl
def Bt (f : FuncId) (n : Nat) (x : XC) (rs : List ResultVar) : Prop := ∀ {args : List D} {H : AH} {R : D → AH → Prop},(facts args → xcode Try.prog x (args ++ List.replicate (n - args.length) (.tup [])) H (retQ Try.prog rs H.length R)) → ACall Try.prog f args H R
theorem bt {f : FuncId} {fn : Func} {c : Code} {x : XC} {n : Nat} {rs : List ResultVar} (hf : (Try.prog).funcs[f]? = some fn) (hb : fn.body = some c) (hk : (bodyOp fn && callOk Try.prog f && okV x c && decide (fn.ntmps = n)) = true) (hx : cmp c = er x) (hr : fn.results.toList = rs) : Bt f n x rs := by
 simp only [Bool.and_eq_true,decide_eq_true_eq] at hk
 exact fun h=>xcall_body hm hf hb hk.1.1.1 hk.1.1.2 hx hk.1.2 hk.2 hr h
theorem ty_tyI_34 : tyI Try.prog 34 = (.some (true,3)) := by kernel_rfl
theorem TYX : apI Try.prog 24 24 = (some (64,(14,240))) ∧ apI Try.prog 25 25 = (some (54,(6,80))) ∧ apI Try.prog 26 26 = (some (72,(11,96))) ∧ apI Try.prog 27 27 = (some (95,(8,80))) ∧ apI Try.prog 28 28 = (some (97,(9,72))) ∧ apI Try.prog 29 29 = (some (99,(12,96))) ∧ apI Try.prog 38 38 = (some (34,(3,24))) ∧ apI Try.prog 52 52 = (some (56,(7,64))) ∧ apI Try.prog 61 61 = (some (93,(2,32))) ∧ apI Try.prog 65 65 = (some (37,(2,16))) ∧ apI Try.prog 73 73 = (some (78,(5,40))) ∧ arI Try.prog 22 = none ∧ arI Try.prog 24 = none ∧ arI Try.prog 25 = none ∧ arI Try.prog 26 = none ∧ arI Try.prog 27 = none ∧ arI Try.prog 28 = none ∧ arI Try.prog 29 = none ∧ arI Try.prog 38 = none ∧ arI Try.prog 52 = none ∧ arI Try.prog 65 = none ∧ arI Try.prog 73 = none ∧ bldI Try.prog 31 1 = (some (1,(false,1))) ∧ bldI Try.prog 34 0 = (some (0,(false,1))) ∧ bldI Try.prog 34 1 = (some (1,(false,1))) ∧ bldI Try.prog 34 2 = (some (2,(false,1))) ∧ bldI Try.prog 37 0 = (some (0,(false,1))) ∧ bldI Try.prog 37 1 = (some (1,(false,1))) ∧ bldI Try.prog 54 0 = (some (0,(true,3))) ∧ bldI Try.prog 54 3 = (some (5,(false,1))) ∧ bldI Try.prog 56 2 = (some (2,(true,2))) ∧ bldI Try.prog 64 0 = (some (0,(true,3))) ∧ bldI Try.prog 72 0 = (some (0,(true,3))) ∧ bldI Try.prog 72 1 = (some (3,(true,3))) ∧ bldI Try.prog 72 2 = (some (6,(true,3))) ∧ bldI Try.prog 78 0 = (some (0,(true,3))) ∧ bldI Try.prog 78 1 = (some (3,(true,2))) ∧ bldI Try.prog 93 0 = (some (0,(false,1))) ∧ bldI Try.prog 93 1 = (some (1,(false,1))) ∧ bldI Try.prog 95 0 = (some (0,(true,3))) ∧ bldI Try.prog 95 1 = (some (3,(true,3))) ∧ bldI Try.prog 95 3 = (some (7,(false,1))) ∧ bldI Try.prog 97 0 = (some (0,(true,3))) ∧ bldI Try.prog 97 1 = (some (3,(true,3))) ∧ bldI Try.prog 97 2 = (some (6,(true,3))) ∧ bldI Try.prog 99 0 = (some (0,(true,3))) ∧ bldI Try.prog 99 1 = (some (3,(true,3))) ∧ bldI Try.prog 99 2 = (some (6,(true,3))) ∧ bldI Try.prog 99 3 = (some (9,(true,3))) ∧ bldI Try.prog 111 0 = (some (0,(false,1))) ∧ bldI Try.prog 111 1 = (some (1,(false,1))) ∧ bldI Try.prog 111 2 = (some (2,(false,1))) ∧ bldI Try.prog 133 0 = (some (0,(true,3))) ∧ bldI Try.prog 133 1 = (some (3,(true,3))) ∧ eqI Try.prog 3 = none ∧ eqI Try.prog 4 = none ∧ eqI Try.prog 34 = (some [.i,.i,.i]) ∧ eqI Try.prog 37 = (some [.i,.i]) ∧ eqI Try.prog 38 = none ∧ eqI Try.prog 89 = none ∧ fldI Try.prog 31 1 = (some (1,(false,1))) ∧ fldI Try.prog 31 2 = (some (2,(false,1))) ∧ fldI Try.prog 31 3 = (some (3,(false,1))) ∧ fldI Try.prog 31 4 = (some (4,(false,1))) ∧ fldI Try.prog 31 5 = (some (5,(false,1))) ∧ fldI Try.prog 31 6 = (some (6,(false,1))) ∧ fldI Try.prog 34 0 = (some (0,(false,1))) ∧ fldI Try.prog 34 1 = (some (1,(false,1))) ∧ fldI Try.prog 34 2 = (some (2,(false,1))) ∧ fldI Try.prog 37 0 = (some (0,(false,1))) ∧ fldI Try.prog 37 1 = (some (1,(false,1))) ∧ fldI Try.prog 54 0 = (some (0,(true,3))) ∧ fldI Try.prog 54 3 = (some (5,(false,1))) ∧ fldI Try.prog 56 2 = (some (2,(true,2))) ∧ fldI Try.prog 64 0 = (some (0,(true,3))) ∧ fldI Try.prog 64 7 = (some (11,(false,1))) ∧ fldI Try.prog 64 9 = (some (13,(false,1))) ∧ fldI Try.prog 72 0 = (some (0,(true,3))) ∧ fldI Try.prog 72 1 = (some (3,(true,3))) ∧ fldI Try.prog 72 2 = (some (6,(true,3))) ∧ fldI Try.prog 78 0 = (some (0,(true,3))) ∧ fldI Try.prog 78 1 = (some (3,(true,2))) ∧ fldI Try.prog 95 1 = (some (3,(true,3))) ∧ fldI Try.prog 95 2 = (some (6,(false,1))) ∧ fldI Try.prog 95 3 = (some (7,(false,1))) ∧ fldI Try.prog 97 1 = (some (3,(true,3))) ∧ fldI Try.prog 97 2 = (some (6,(true,3))) ∧ fldI Try.prog 99 1 = (some (3,(true,3))) ∧ fldI Try.prog 99 2 = (some (6,(true,3))) ∧ fldI Try.prog 99 3 = (some (9,(true,3))) ∧ fldI Try.prog 111 0 = (some (0,(false,1))) ∧ fldI Try.prog 111 1 = (some (1,(false,1))) ∧ fldI Try.prog 111 2 = (some (2,(false,1))) ∧ fldI Try.prog 131 0 = (some (0,(false,1))) ∧ fldI Try.prog 131 1 = (some (1,(false,1))) ∧ fldI Try.prog 131 2 = (some (2,(false,1))) ∧ fldsOk Try.prog 31 = true ∧ fldsOk Try.prog 34 = true ∧ fldsOk Try.prog 37 = true ∧ fldsOk Try.prog 54 = true ∧ fldsOk Try.prog 56 = true ∧ fldsOk Try.prog 64 = true ∧ fldsOk Try.prog 72 = true ∧ fldsOk Try.prog 78 = true ∧ fldsOk Try.prog 93 = true ∧ fldsOk Try.prog 95 = true ∧ fldsOk Try.prog 97 = true ∧ fldsOk Try.prog 99 = true ∧ fldsOk Try.prog 111 = true ∧ fldsOk Try.prog 133 = true ∧ isBoolT Try.prog 3 = false ∧ isBoolT Try.prog 4 = true ∧ isBoolT Try.prog 34 = false ∧ isBoolT Try.prog 37 = false ∧ isBoolT Try.prog 38 = false ∧ isBoolT Try.prog 89 = false ∧ isStr Try.prog 22 = false ∧ isStr Try.prog 24 = false ∧ isStr Try.prog 25 = false ∧ isStr Try.prog 26 = false ∧ isStr Try.prog 27 = false ∧ isStr Try.prog 28 = false ∧ isStr Try.prog 29 = false ∧ isStr Try.prog 38 = false ∧ isStr Try.prog 52 = false ∧ isStr Try.prog 65 = false ∧ isStr Try.prog 73 = false ∧ mpI Try.prog 74 = (some (true,([.i,.i,.i],(.osl 0 0 [])))) ∧ mpI Try.prog 87 = (some (true,([.i,.i,.i],(.agg [(.int .i64 0),(.int .i64 0)])))) ∧ mpI Try.prog 100 = (some (true,([.i,.i,.i],(.agg [(.int .i64 0),(.int .i64 0),(.int .i64 0)])))) ∧ mpI Try.prog 101 = (some (true,([.i,.i,.i],(.bool false)))) ∧ mpI Try.prog 108 = (some (true,([.i,.i,.i],(.agg [(.int .i64 0),(.osl 0 0 []),(.osl 0 0 [])])))) ∧ mpI Try.prog 109 = (some (true,([.i,.i,.i,.i,.i,.i],(.osl 0 0 [])))) ∧ slI Try.prog 22 = (some (3,1)) ∧ slI Try.prog 24 = (some (64,14)) ∧ slI Try.prog 25 = (some (54,6)) ∧ slI Try.prog 26 = (some (72,11)) ∧ slI Try.prog 27 = (some (95,8)) ∧ slI Try.prog 28 = (some (97,9)) ∧ slI Try.prog 29 = (some (99,12)) ∧ slI Try.prog 38 = (some (34,3)) ∧ slI Try.prog 52 = (some (56,7)) ∧ slI Try.prog 61 = (some (93,2)) ∧ slI Try.prog 65 = (some (37,2)) ∧ slI Try.prog 73 = (some (78,5)) ∧ tyI Try.prog 3 = (some (false,1)) ∧ tyI Try.prog 24 = (some (false,1)) ∧ tyI Try.prog 25 = (some (false,1)) ∧ tyI Try.prog 26 = (some (false,1)) ∧ tyI Try.prog 27 = (some (false,1)) ∧ tyI Try.prog 28 = (some (false,1)) ∧ tyI Try.prog 29 = (some (false,1)) ∧ tyI Try.prog 31 = (some (true,7)) ∧ tyI Try.prog 34 = (some (true,3)) ∧ tyI Try.prog 37 = (some (true,2)) ∧ tyI Try.prog 38 = (some (false,1)) ∧ tyI Try.prog 52 = (some (false,1)) ∧ tyI Try.prog 54 = (some (true,6)) ∧ tyI Try.prog 56 = (some (true,7)) ∧ tyI Try.prog 61 = (some (false,1)) ∧ tyI Try.prog 64 = (some (true,14)) ∧ tyI Try.prog 72 = (some (true,11)) ∧ tyI Try.prog 74 = (some (false,1)) ∧ tyI Try.prog 78 = (some (true,5)) ∧ tyI Try.prog 95 = (some (true,8)) ∧ tyI Try.prog 97 = (some (true,9)) ∧ tyI Try.prog 99 = (some (true,12)) ∧ tyI Try.prog 101 = (some (false,1)) ∧ tyI Try.prog 108 = (some (false,1)) ∧ tyI Try.prog 109 = (some (false,1)) ∧ tyI Try.prog 111 = (some (true,3)) ∧ tyI Try.prog 131 = (some (true,3)) ∧ tyI Try.prog 133 = (some (true,6)) ∧ zcI Try.prog 31 = (some [(.own []),(.own []),(.own []),(.own []),(.own []),(.own []),(.own [])]) ∧ zcI Try.prog 34 = (some [(.int .i64 0),(.int .i64 0),(.int .i64 0)]) ∧ zcI Try.prog 37 = (some [(.int .i64 0),(.int .i64 0)]) ∧ zcI Try.prog 54 = (some [(.int .i64 0),(.int .i64 0),(.int .i64 0),(.str []),(.str []),(.own [])]) ∧ zcI Try.prog 56 = (some [(.str []),(.int .i64 0),(.int .i64 0),(.int .i64 0),(.int .i64 0),(.int .i64 0),(.int .i64 0)]) ∧ zcI Try.prog 64 = (some [(.int .i64 0),(.int .i64 0),(.int .i64 0),(.int .i64 0),(.int .i64 0),(.int .i64 0),(.own []),(.own []),(.own []),(.own []),(.own []),(.own []),(.own []),(.own [])]) ∧ zcI Try.prog 72 = (some [(.int .i64 0),(.int .i64 0),(.int .i64 0),(.int .i64 0),(.int .i64 0),(.int .i64 0),(.int .i64 0),(.int .i64 0),(.int .i64 0),(.int .i64 0),(.str [])]) ∧ zcI Try.prog 74 = (some [(.mp none)]) ∧ zcI Try.prog 78 = (some [(.int .i64 0),(.int .i64 0),(.int .i64 0),(.int .i64 0),(.int .i64 0)]) ∧ zcI Try.prog 93 = (some [(.int .i64 0),(.own [])]) ∧ zcI Try.prog 95 = (some [(.int .i64 0),(.int .i64 0),(.int .i64 0),(.int .i64 0),(.int .i64 0),(.int .i64 0),(.own []),(.int .i64 0)]) ∧ zcI Try.prog 97 = (some [(.int .i64 0),(.int .i64 0),(.int .i64 0),(.int .i64 0),(.int .i64 0),(.int .i64 0),(.int .i64 0),(.int .i64 0),(.int .i64 0)]) ∧ zcI Try.prog 99 = (some [(.int .i64 0),(.int .i64 0),(.int .i64 0),(.int .i64 0),(.int .i64 0),(.int .i64 0),(.int .i64 0),(.int .i64 0),(.int .i64 0),(.int .i64 0),(.int .i64 0),(.int .i64 0)]) ∧ zcI Try.prog 111 = (some [(.mp none),(.mp none),(.mp none)]) ∧ zcI Try.prog 131 = (some [(.int .i64 0),(.own []),(.own [])]) ∧ zcI Try.prog 133 = (some [(.int .i64 0),(.int .i64 0),(.int .i64 0),(.int .i64 0),(.int .i64 0),(.int .i64 0)]) ∧ zcI Try.prog 3 = (some [(.int .i64 0)]) := ⟨by kernel_rfl,by kernel_rfl,by kernel_rfl,by kernel_rfl,by kernel_rfl,by kernel_rfl,by kernel_rfl,by kernel_rfl,by kernel_rfl,by kernel_rfl,by kernel_rfl,by kernel_rfl,by kernel_rfl,by kernel_rfl,by kernel_rfl,by kernel_rfl,by kernel_rfl,by kernel_rfl,by kernel_rfl,by kernel_rfl,by kernel_rfl,by kernel_rfl,by kernel_rfl,by kernel_rfl,by kernel_rfl,by kernel_rfl,by kernel_rfl,by kernel_rfl,by kernel_rfl,by kernel_rfl,by kernel_rfl,by kernel_rfl,by kernel_rfl,by kernel_rfl,by kernel_rfl,by kernel_rfl,by kernel_rfl,by kernel_rfl,by kernel_rfl,by kernel_rfl,by kernel_rfl,by kernel_rfl,by kernel_rfl,by kernel_rfl,by kernel_rfl,by kernel_rfl,by kernel_rfl,by kernel_rfl,by kernel_rfl,by kernel_rfl,by kernel_rfl,by kernel_rfl,by kernel_rfl,by kernel_rfl,by kernel_rfl,by kernel_rfl,by kernel_rfl,by kernel_rfl,by kernel_rfl,by kernel_rfl,by kernel_rfl,by kernel_rfl,by kernel_rfl,by kernel_rfl,by kernel_rfl,by kernel_rfl,by kernel_rfl,by kernel_rfl,by kernel_rfl,by kernel_rfl,by kernel_rfl,by kernel_rfl,by kernel_rfl,by kernel_rfl,by kernel_rfl,by kernel_rfl,by kernel_rfl,by kernel_rfl,by kernel_rfl,by kernel_rfl,by kernel_rfl,by kernel_rfl,by kernel_rfl,by kernel_rfl,by kernel_rfl,by kernel_rfl,by kernel_rfl,by kernel_rfl,by kernel_rfl,by kernel_rfl,by kernel_rfl,by kernel_rfl,by kernel_rfl,by kernel_rfl,by kernel_rfl,by kernel_rfl,by kernel_rfl,by kernel_rfl,by kernel_rfl,by kernel_rfl,by kernel_rfl,by kernel_rfl,by kernel_rfl,by kernel_rfl,by kernel_rfl,by kernel_rfl,by kernel_rfl,by kernel_rfl,by kernel_rfl,by kernel_rfl,by kernel_rfl,by kernel_rfl,by kernel_rfl,by kernel_rfl,by kernel_rfl,by kernel_rfl,by kernel_rfl,by kernel_rfl,by kernel_rfl,by kernel_rfl,by kernel_rfl,by kernel_rfl,by kernel_rfl,by kernel_rfl,by kernel_rfl,by kernel_rfl,by kernel_rfl,by kernel_rfl,by kernel_rfl,by kernel_rfl,by kernel_rfl,by kernel_rfl,by kernel_rfl,by kernel_rfl,by kernel_rfl,by kernel_rfl,by kernel_rfl,by kernel_rfl,by kernel_rfl,by kernel_rfl,by kernel_rfl,by kernel_rfl,by kernel_rfl,by kernel_rfl,by kernel_rfl,by kernel_rfl,by kernel_rfl,by kernel_rfl,by kernel_rfl,by kernel_rfl,by kernel_rfl,by kernel_rfl,by kernel_rfl,ty_tyI_34,by kernel_rfl,by kernel_rfl,by kernel_rfl,by kernel_rfl,by kernel_rfl,by kernel_rfl,by kernel_rfl,by kernel_rfl,by kernel_rfl,by kernel_rfl,by kernel_rfl,by kernel_rfl,by kernel_rfl,by kernel_rfl,by kernel_rfl,by kernel_rfl,by kernel_rfl,by kernel_rfl,by kernel_rfl,by kernel_rfl,by kernel_rfl,by kernel_rfl,by kernel_rfl,by kernel_rfl,by kernel_rfl,by kernel_rfl,by kernel_rfl,by kernel_rfl,by kernel_rfl,by kernel_rfl,by kernel_rfl,by kernel_rfl,by kernel_rfl,by kernel_rfl,by kernel_rfl,by kernel_rfl⟩
theorem unf {c d : XC} (h : c = d) {F : List D} {H : AH} {Q : AQ} : xcode Try.prog c F H Q = xcode Try.prog d F H Q := h ▸ .trans rfl rfl
theorem aI {a b : Prop} (h : a) (k : b) : a ∧ b := ⟨h,k⟩
def x10_s0 : XC := (.seq (.reg [m 0 3,a (.binOp .rem 3 (t 3) (i 3) 3) 4,m 0 5,a (.binOp .quo 3 (t 5) (i 3) 3) 6,a (.binOp .add 3 (i 1) (t 6) 3) 7,m 0 8,a (.binOp .rem 3 (t 8) (i 5) 3) 9,b (.build 34 #[(0,(t 4)),(1,(t 7)),(2,(t 9))]) 10,w 34 2 10]) .ret)
theorem u10_s0 : type_of% (@unf _ _ x10_s0.eq_1) := unf x10_s0.eq_1
def x10 : XC := (.seq (.reg [a (.alloc 34) 2]) x10_s0)
theorem b10 : Bt 10 11 x10 [(.cell 2 34)] := bt Try.func10 rfl (by kernel_rfl) (by kernel_rfl) (by kernel_rfl)
def x13_s0 : XC := (.reg [m 5 15,b (.binOp .add 3 (t 15) (i 1) 3) 16,n 16 5])
def x13_s1 : XC := (.seq (.block 1 (.seq (.regD [m 0 17,m 5 18,j 38 17 18 19,l 34 19 20,m 1 21,m 5 22,j 38 21 22 23,l 34 23 24,a (.binOp .neq 34 (t 20) (t 24) 34) 25]) (.cond (t 25) (.seq (.reg [a (.assign (.const (.bool false))) 4]) .ret) .skip))) x13_s0)
def x13_L2 : XC := (.seq (.seq (.reg [m 5 11,m 0 12,e 38 12 13,a (.binOp .lss 3 (t 11) (t 13) 3) 14]) (.cond (t 14) .skip (.exit 0))) x13_s1)
def x13_s3 : XC := (.seq (.seq (.reg [a (.assign (i 0)) 5]) (.block 0 (.loop x13_L2))) (.seq (.reg [a (.assign (.const (.bool true))) 4]) .ret))
def x13_s4 : XC := (.seq (.seq (.reg [m 0 6,e 38 6 7,m 1 8,e 38 8 9,a (.binOp .neq 3 (t 7) (t 9) 3) 10]) (.cond (t 10) (.seq (.reg [a (.assign (.const (.bool false))) 4]) .ret) .skip)) x13_s3)
def V13 := PLift.up (aI (aI (@unf _ _ x13_s0.eq_1) (@unf _ _ x13_s1.eq_1)) (aI (@unf _ _ x13_L2.eq_1) (aI (@unf _ _ x13_s3.eq_1) (@unf _ _ x13_s4.eq_1))))
theorem U13 : type_of% V13.down := V13.down
def x13 : XC := (.seq (.reg [a (.assign (.const (.bool false))) 4]) x13_s4)
theorem b13 : Bt 13 26 x13 [(.tmp 4)] := bt Try.func13 rfl (by kernel_rfl) (by kernel_rfl) (by kernel_rfl)
def x14_s0 : XC := (.cond (t 6) (.reg [m 0 7,a (.binOp .add 3 (t 7) (i 1) 3) 8,b (.unOp .neg 3 (t 8)) 9,n 9 0]) .skip)
def x14_s1 : XC := (.seq (.reg [m 0 10,m 1 11,b (.binOp .rem 3 (t 10) (t 11) 3) 12,n 12 4]) .ret)
def V14 := PLift.up (aI (@unf _ _ x14_s0.eq_1) (@unf _ _ x14_s1.eq_1))
theorem U14 : type_of% V14.down := V14.down
def x14 : XC := (.seq (.reg [a (.assign (i 0)) 4]) (.seq (.seq (.reg [m 0 5,a (.binOp .lss 3 (t 5) (i 0) 3) 6]) x14_s0) x14_s1))
theorem b14 : Bt 14 13 x14 [(.tmp 4)] := bt Try.func14 rfl (by kernel_rfl) (by kernel_rfl) (by kernel_rfl)
def x29_s0 : XC := (.seq (.reg [f 37 1 0 3,l 3 3 4,a (.binOp .geq 3 (t 4) (i 1) 3) 5,m 5 6,g (.fieldAddr 37 (t 1) 0) 7 6 true,g (.load 3 (t 7)) 8 6 true,g (.fieldAddr 37 (t 1) 1) 9 6 true,g (.load 3 (t 9)) 10 6 true,g (.binOp .leq 3 (t 8) (t 10) 3) 11 6 true,a (.pick (t 6) (t 11) (.const (.bool false))) 12,m 12 13,g (.fieldAddr 37 (t 1) 1) 14 13 true,g (.load 3 (t 14)) 15 13 true,g (.binOp .leq 3 (t 15) (i 1022679) 3) 16 13 true,b (.pick (t 13) (t 16) (.const (.bool false))) 17,n 17 2]) .ret)
theorem u29_s0 : type_of% (@unf _ _ x29_s0.eq_1) := unf x29_s0.eq_1
def x29 : XC := (.seq (.reg [a (.box 37 (t 0)) 1,a (.assign (.const (.bool false))) 2]) x29_s0)
theorem b29 : Bt 29 18 x29 [(.tmp 2)] := bt Try.func29 rfl (by kernel_rfl) (by kernel_rfl) (by kernel_rfl)
def x30_s0 : XC := (.seq (.reg [m 0 15,m 1 16,j 22 15 16 17,l 3 17 18,m 2 19,b (k 14 #[(t 18),(t 19)] #[3,3]) 20,n 20 6]) .ret)
def x30_s1 : XC := (.seq (.seq (.reg [m 1 7,a (.binOp .lss 3 (t 7) (i 0) 3) 8,m 8 9,g (.move (t 1)) 10 9 false,g (.move (t 0)) 11 9 false,g (.call ⟨(.builtin .len),#[(t 11)],#[22]⟩) 12 9 false,g (.binOp .geq 3 (t 10) (t 12) 3) 13 9 false,a (.pick (t 9) (.const (.bool true)) (t 13)) 14]) (.cond (t 14) (.seq (.reg [a (.assign (i 0)) 6]) .ret) .skip)) x30_s0)
def V30 := PLift.up (aI (@unf _ _ x30_s0.eq_1) (@unf _ _ x30_s1.eq_1))
theorem U30 : type_of% V30.down := V30.down
def x30 : XC := (.seq (.reg [a (.assign (i 0)) 6]) x30_s1)
theorem b30 : Bt 30 21 x30 [(.tmp 6)] := bt Try.func30 rfl (by kernel_rfl) (by kernel_rfl) (by kernel_rfl)
def x39_s0 : XC := (.block 1 (.reg [m 5 19,b (.binOp .add 3 (t 19) (i 1) 3) 20,n 20 5]))
def x39_L1 : XC := (.seq (.seq (.regD [m 5 7,m 0 8,e 38 8 9,a (.binOp .lss 3 (t 7) (t 9) 3) 10,m 10 11,g (.move (t 0)) 12 11 true,g (.move (t 5)) 13 11 true,g (.indexAddr 38 (t 12) (t 13)) 14 11 true,g (.load 34 (t 14)) 15 11 true,g (.load 34 (t 3)) 16 11 true,g (k 47 #[(t 15),(t 16)] #[34,34]) 17 11 true,a (.pick (t 11) (t 17) (.const (.bool false))) 18]) (.cond (t 18) .skip (.exit 0))) x39_s0)
def x39_s2 : XC := (.seq (.reg [c (.move (t 6)) 43,m 0 44,m 5 45,a (.slice 38 (t 44) (.some (t 45)) .none .none) 46,b (.call ⟨(.builtin .append),#[(t 43),(t 46)],#[38,38]⟩) 47,n 47 4]) .ret)
def x39_s3 : XC := (.seq (.reg [c (.move (t 6)) 39,l 34 3 40,a (.buildSlice 38 1 #[(0,(t 40))]) 41,b (.call ⟨(.builtin .append),#[(t 39),(t 41)],#[38,38]⟩) 42,n 42 6]) x39_s2)
def x39_s4 : XC := (.seq (.reg [c (.move (t 6)) 34,m 0 35,m 5 36,a (.slice 38 (t 35) .none (.some (t 36)) .none) 37,b (.call ⟨(.builtin .append),#[(t 34),(t 37)],#[38,38]⟩) 38,n 38 6]) x39_s3)
def x39_s5 : XC := (.seq (.seq (.regD [m 5 21,m 0 22,e 38 22 23,a (.binOp .lss 3 (t 21) (t 23) 3) 24,m 24 25,g (.move (t 0)) 26 25 true,g (.move (t 5)) 27 25 true,g (.indexAddr 38 (t 26) (t 27)) 28 25 true,g (.load 34 (t 28)) 29 25 true,g (.load 34 (t 3)) 30 25 true,g (.binOp .eql 34 (t 29) (t 30) 34) 31 25 true,a (.pick (t 25) (t 31) (.const (.bool false))) 32]) (.cond (t 32) (.seq (.reg [b (.move (t 0)) 33,n 33 4]) .ret) .skip)) (.seq (.reg [a (.assign (.const (.slice .none 0 0))) 6]) x39_s4))
def V39 := PLift.up (aI (aI (@unf _ _ x39_s0.eq_1) (aI (@unf _ _ x39_L1.eq_1) (@unf _ _ x39_s2.eq_1))) (aI (@unf _ _ x39_s3.eq_1) (aI (@unf _ _ x39_s4.eq_1) (@unf _ _ x39_s5.eq_1))))
theorem U39 : type_of% V39.down := V39.down
def x39 : XC := (.seq (.reg [a (.box 34 (t 1)) 3,a (.assign (.const (.slice .none 0 0))) 4]) (.seq (.reg [a (.assign (i 0)) 5]) (.seq (.block 0 (.loop x39_L1)) x39_s5)))
theorem b39 : Bt 39 48 x39 [(.tmp 4)] := bt Try.func39 rfl (by kernel_rfl) (by kernel_rfl) (by kernel_rfl)
def x41_s0 : XC := (.seq (.reg [m 0 3,b (.build 34 #[(0,(i 0)),(1,(i 1)),(2,(t 3))]) 4,w 34 2 4]) .ret)
theorem u41_s0 : type_of% (@unf _ _ x41_s0.eq_1) := unf x41_s0.eq_1
def x41 : XC := (.seq (.reg [a (.alloc 34) 2]) x41_s0)
theorem b41 : Bt 41 5 x41 [(.cell 2 34)] := bt Try.func41 rfl (by kernel_rfl) (by kernel_rfl) (by kernel_rfl)
def x42_s0 : XC := (.seq (.reg [c (.buildSlice 38 0 #[]) 5,m 0 6,b (.call ⟨(.builtin .append),#[(t 5),(t 6)],#[38,38,0]⟩) 7,n 7 2]) .ret)
def x42_s1 : XC := (.seq (.seq (.reg [m 0 3,a (.binOp .eql 38 (t 3) (.const (.slice .none 0 0)) 38) 4]) (.cond (t 4) (.seq (.reg [a (.assign (.const (.slice .none 0 0))) 2]) .ret) .skip)) x42_s0)
def V42 := PLift.up (aI (@unf _ _ x42_s0.eq_1) (@unf _ _ x42_s1.eq_1))
theorem U42 : type_of% V42.down := V42.down
def x42 : XC := (.seq (.reg [a (.assign (.const (.slice .none 0 0))) 2]) x42_s1)
theorem r42 {args : List D} {H : AH} {R : D → AH → Prop} (h : facts args → xcode Try.prog x42 (args ++ List.replicate (8 - args.length) (.tup [])) H (retR Try.prog [(.tmp 2)] R)) : ACall Try.prog 42 args H R :=
 xcall_bodyR hm Try.func42 rfl (by kernel_rfl) (by kernel_rfl) (by kernel_rfl) (by kernel_rfl) (by kernel_rfl) (by kernel_rfl) h
def x42v_s0 : XC := (.seq (.reg [c (.buildSlice 38 0 #[]) 5,m 0 6,b (.call ⟨(.builtin .append),#[(t 5),(t 6)],#[38,38]⟩) 7,n 7 2]) .ret)
def x42v_s1 : XC := (.seq (.seq (.reg [m 0 3,a (.binOp .eql 38 (t 3) (.const (.slice .none 0 0)) 38) 4]) (.cond (t 4) (.seq (.reg [a (.assign (.const (.slice .none 0 0))) 2]) .ret) .skip)) x42v_s0)
def V42v := PLift.up (aI (@unf _ _ x42v_s0.eq_1) (@unf _ _ x42v_s1.eq_1))
theorem U42v : type_of% V42v.down := V42v.down
def x42v : XC := (.seq (.reg [a (.assign (.const (.slice .none 0 0))) 2]) x42v_s1)
theorem b42v : Bt 42 8 x42v [(.tmp 2)] := bt Try.func42 rfl (by kernel_rfl) (by kernel_rfl) (by kernel_rfl)
def x44_s0 : XC := (.seq (.reg [m 5 12,m 3 13,a (.binOp .neq 3 (t 12) (t 13) 3) 14]) (.cond (t 14) (.seq (.reg [b (.move (t 5)) 15,n 15 2]) .ret) .skip))
def x44_s1 : XC := (.seq (.block 1 (.seq (.reg [j 22 6 8 10,b (.load 3 (t 10)) 11,n 11 5]) x44_s0)) (.reg [a (.binOp .add 3 (t 8) (i 1) 3) 16,m 16 8]))
def x44_L2 : XC := (.seq (.reg [a (.binOp .lss 3 (t 8) (t 7) 3) 9]) (.seq (.cond (t 9) .skip (.exit 0)) x44_s1))
def x44_s3 : XC := (.seq (.seq (.reg [m 0 6,e 22 6 7,a (.move (i 0)) 8]) (.block 0 (.loop x44_L2))) (.seq (.reg [b (.move (t 3)) 17,n 17 2]) .ret))
def V44 := PLift.up (aI (aI (@unf _ _ x44_s0.eq_1) (@unf _ _ x44_s1.eq_1)) (aI (@unf _ _ x44_L2.eq_1) (@unf _ _ x44_s3.eq_1)))
theorem U44 : type_of% V44.down := V44.down
def x44 : XC := (.seq (.reg [a (.assign (i 0)) 2]) (.seq (.reg [a (.assign (i 0)) 3]) x44_s3))
theorem b44 : Bt 44 18 x44 [(.tmp 2)] := bt Try.func44 rfl (by kernel_rfl) (by kernel_rfl) (by kernel_rfl)
def x45_s0 : XC := (.cond (t 11) (.seq (.seq (.reg [m 6 12]) (.cond (t 12) (.seq (.reg [a (.assign (i 0)) 4]) .ret) .skip)) (.seq (.reg [a (.assign (i (-1))) 4]) .ret)) .skip)
def x45_s1 : XC := (.seq (.seq (.reg [m 0 17,m 1 18,a (.binOp .gtr 3 (t 17) (t 18) 3) 19]) (.cond (t 19) (.seq (.reg [a (.assign (i 1)) 4]) .ret) .skip)) (.seq (.reg [a (.assign (i 0)) 4]) .ret))
def x45_s2 : XC := (.seq (.seq (.reg [m 0 14,m 1 15,a (.binOp .lss 3 (t 14) (t 15) 3) 16]) (.cond (t 16) (.seq (.reg [a (.assign (i (-1))) 4]) .ret) .skip)) x45_s1)
def x45_s3 : XC := (.seq (.seq (.reg [m 5 11]) x45_s0) (.seq (.seq (.reg [m 6 13]) (.cond (t 13) (.seq (.reg [a (.assign (i 1)) 4]) .ret) .skip)) x45_s2))
def x45_s4 : XC := (.seq (.reg [m 1 9,b (k 54 #[(t 9)] #[3]) 10,n 10 6]) x45_s3)
def x45_s5 : XC := (.seq (.reg [m 0 7,b (k 54 #[(t 7)] #[3]) 8,n 8 5]) x45_s4)
def V45 := PLift.up (aI (aI (@unf _ _ x45_s0.eq_1) (aI (@unf _ _ x45_s1.eq_1) (@unf _ _ x45_s2.eq_1))) (aI (@unf _ _ x45_s3.eq_1) (aI (@unf _ _ x45_s4.eq_1) (@unf _ _ x45_s5.eq_1))))
theorem U45 : type_of% V45.down := V45.down
def x45 : XC := (.seq (.reg [a (.assign (i 0)) 4]) x45_s5)
theorem b45 : Bt 45 20 x45 [(.tmp 4)] := bt Try.func45 rfl (by kernel_rfl) (by kernel_rfl) (by kernel_rfl)
def x47_c0 : XC := (.seq (.reg [f 34 2 0 10,l 3 10 11,f 34 3 0 12,l 3 12 13,b (.binOp .lss 3 (t 11) (t 13) 3) 14,n 14 4]) .ret)
def x47_c1 : XC := (.seq (.reg [f 34 2 1 20,l 3 20 21,f 34 3 1 22,l 3 22 23,b (.binOp .lss 3 (t 21) (t 23) 3) 24,n 24 4]) .ret)
def x47_s2 : XC := (.seq (.reg [f 34 2 2 25,l 3 25 26,f 34 3 2 27,l 3 27 28,b (.binOp .lss 3 (t 26) (t 28) 3) 29,n 29 4]) .ret)
def x47_s3 : XC := (.seq (.seq (.reg [f 34 2 1 15,l 3 15 16,f 34 3 1 17,l 3 17 18,a (.binOp .neq 3 (t 16) (t 18) 3) 19]) (.cond (t 19) x47_c1 .skip)) x47_s2)
def x47_s4 : XC := (.seq (.seq (.reg [f 34 2 0 5,l 3 5 6,f 34 3 0 7,l 3 7 8,a (.binOp .neq 3 (t 6) (t 8) 3) 9]) (.cond (t 9) x47_c0 .skip)) x47_s3)
def V47 := PLift.up (aI (aI (@unf _ _ x47_c0.eq_1) (@unf _ _ x47_c1.eq_1)) (aI (@unf _ _ x47_s2.eq_1) (aI (@unf _ _ x47_s3.eq_1) (@unf _ _ x47_s4.eq_1))))
theorem U47 : type_of% V47.down := V47.down
def x47 : XC := (.seq (.reg [a (.box 34 (t 0)) 2,a (.box 34 (t 1)) 3,a (.assign (.const (.bool false))) 4]) x47_s4)
theorem b47 : Bt 47 30 x47 [(.tmp 4)] := bt Try.func47 rfl (by kernel_rfl) (by kernel_rfl) (by kernel_rfl)
def x49_s0 : XC := (.seq (.reg [f 37 1 0 3,l 3 3 4,a (.binOp .geq 3 (t 4) (i 1) 3) 5,m 5 6,g (.fieldAddr 37 (t 1) 0) 7 6 true,g (.load 3 (t 7)) 8 6 true,g (.fieldAddr 37 (t 1) 1) 9 6 true,g (.load 3 (t 9)) 10 6 true,g (.binOp .leq 3 (t 8) (t 10) 3) 11 6 true,a (.pick (t 6) (t 11) (.const (.bool false))) 12,m 12 13,g (.fieldAddr 37 (t 1) 1) 14 13 true,g (.load 3 (t 14)) 15 13 true,g (.binOp .leq 3 (t 15) (i 1022679) 3) 16 13 true,b (.pick (t 13) (t 16) (.const (.bool false))) 17,n 17 2]) .ret)
theorem u49_s0 : type_of% (@unf _ _ x49_s0.eq_1) := unf x49_s0.eq_1
def x49 : XC := (.seq (.reg [a (.box 37 (t 0)) 1,a (.assign (.const (.bool false))) 2]) x49_s0)
theorem b49 : Bt 49 18 x49 [(.tmp 2)] := bt Try.func49 rfl (by kernel_rfl) (by kernel_rfl) (by kernel_rfl)
def x54_s0 : XC := (.seq (.reg [m 0 3,m 0 4,b (.binOp .neq 3 (t 3) (t 4) 3) 5,n 5 2]) .ret)
theorem u54_s0 : type_of% (@unf _ _ x54_s0.eq_1) := unf x54_s0.eq_1
def x54 : XC := (.seq (.reg [a (.assign (.const (.bool false))) 2]) x54_s0)
theorem b54 : Bt 54 6 x54 [(.tmp 2)] := bt Try.func54 rfl (by kernel_rfl) (by kernel_rfl) (by kernel_rfl)
def x70_s0 : XC := (.seq (.reg [m 0 5,l 34 3 6,a (k 74 #[(t 5),(t 6)] #[38,34]) 7,b (.binOp .geq 3 (t 7) (i 0) 3) 8,n 8 4]) .ret)
theorem u70_s0 : type_of% (@unf _ _ x70_s0.eq_1) := unf x70_s0.eq_1
def x70 : XC := (.seq (.reg [a (.box 34 (t 1)) 3,a (.assign (.const (.bool false))) 4]) x70_s0)
theorem b70 : Bt 70 9 x70 [(.tmp 4)] := bt Try.func70 rfl (by kernel_rfl) (by kernel_rfl) (by kernel_rfl)
def x74_s0 : XC := (.seq (.regD [l 34 3 11,m 0 12,m 5 13,j 38 12 13 14,l 34 14 15,a (.binOp .eql 34 (t 11) (t 15) 34) 16]) (.cond (t 16) (.seq (.reg [b (.move (t 5)) 17,n 17 4]) .ret) .skip))
def x74_s1 : XC := (.seq (.block 1 (.seq (.reg [b (.move (t 8)) 10,n 10 5]) x74_s0)) (.reg [a (.binOp .add 3 (t 8) (i 1) 3) 18,m 18 8]))
def x74_L2 : XC := (.seq (.reg [a (.binOp .lss 3 (t 8) (t 7) 3) 9]) (.seq (.cond (t 9) .skip (.exit 0)) x74_s1))
def x74_s3 : XC := (.seq (.seq (.reg [m 0 6,e 38 6 7,a (.move (i 0)) 8]) (.block 0 (.loop x74_L2))) (.seq (.reg [a (.assign (i (-1))) 4]) .ret))
def V74 := PLift.up (aI (aI (@unf _ _ x74_s0.eq_1) (@unf _ _ x74_s1.eq_1)) (aI (@unf _ _ x74_L2.eq_1) (@unf _ _ x74_s3.eq_1)))
theorem U74 : type_of% V74.down := V74.down
def x74 : XC := (.seq (.reg [a (.box 34 (t 1)) 3,a (.assign (i 0)) 4]) x74_s3)
theorem b74 : Bt 74 19 x74 [(.tmp 4)] := bt Try.func74 rfl (by kernel_rfl) (by kernel_rfl) (by kernel_rfl)
end Go.Proofs.Ytffbjejmobhpkaa
end
