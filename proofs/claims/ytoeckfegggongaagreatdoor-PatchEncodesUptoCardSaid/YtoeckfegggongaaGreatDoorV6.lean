/- A part of the proof of what the last text says: Aw15, AwA. Conditions: those in each theorem. -/
import Derived.Test.YtoeckfegggongaaGreatDoorV5
set_option linter.unusedVariables false
set_option linter.unusedSimpArgs false
set_option maxRecDepth 100000
set_option maxHeartbeats 16000000
open Nat renaming reduceSub → qa,reduceAdd → qb,reduceMul → qc,reduceEqDiff → qd,reduceLeDiff → qe,reduceBEq → qf
section
namespace Go.Aw
open Go Go.RowKit
def rOk : List ResultVar → Bool
 | []=>true
 | .tmp t :: r=>r.all (fun x=>match x with | .tmp t'=>t' != t | _=>true) && rOk r
 | .cell _ _ :: r=>rOk r
def Qa : List ResultVar → Nat → Nat → Who
 | [],_,_=>.slot 1 0
 | .tmp t' :: rs,q,t=>if t' = t then .slot 0 (q + 1) else Qa rs (q + 1) t
 | .cell _ _ :: rs,q,t=>Qa rs (q + 1) t
theorem um : ∀ (rs : List ResultVar) (q t : Nat),∃ i j,Qa rs q t = .slot i j
 | [],q,t=>⟨1,0,rfl⟩
 | .tmp t' :: rs,q,t=>by
  simp only [Qa]
  split
  ·exact ⟨_,_,rfl⟩
  ·exact um rs _ _
 | .cell _ _ :: rs,q,t=>um rs _ _
theorem zA : ∀ (rs : List ResultVar) (q j t : Nat),rOk rs = true → rs[j]? = some (.tmp t) → Qa rs q t = .slot 0 (q + j + 1)
 | [],q,j,t,_,h=>by simp at h
 | .tmp t' :: rs,q,0,t,_,h=>by
  simp only [List.getElem?_cons_zero,Option.some.injEq,ResultVar.tmp.injEq] at h
  simp [Qa,h]
 | .tmp t' :: rs,q,j + 1,t,hk,h=>by
  simp only [rOk,Bool.and_eq_true] at hk
  simp only [List.getElem?_cons_succ] at h
  have hne : t' ≠ t := fun e=>by
   have := (List.all_eq_true.1 hk.1) _ (List.mem_of_getElem? h)
   simp [e] at this
  simp only [Qa,if_neg hne]
  rw [zA rs (q + 1) j t hk.2 h]
  congr 1
  omega
 | .cell _ _ :: rs,q,0,t,_,h=>by simp at h
 | .cell _ _ :: rs,q,j + 1,t,hk,h=>by
  simp only [rOk] at hk
  simp only [List.getElem?_cons_succ] at h
  simp only [Qa]
  rw [zA rs (q + 1) j t hk h]
  congr 1
  omega
section
variable {P : Program}
theorem gr {K : Nat → BK} {w : World} : ∀ (args : List D) (vs : List Value),vs.length = args.length → (∀ (j : Nat) (d : D) (v : Value),args[j]? = some d → vs[j]? = some v → RepV K w d v) → facts args
 | [],_,_,_=>trivial
 | d :: r,[],h,_=>by simp at h
 | d :: r,v :: vs,h,hr=>⟨(hr 0 d v rfl rfl).fact,gr r vs (Nat.succ.inj h) (fun j d v h1 h2=>hr (j + 1) d v h1 h2)⟩
theorem slotφ_fk {K : Nat → BK} {w : World} {φ : Who → Who} (h1 : φ .outer = .outer) (h2 : ∀ b j,φ (.cell b j) = .cell b j) (h3 : ∀ i j,∃ i' j',φ (.slot i j) = .slot i' j') : FK K w (relab φ K) w := by
 refine ⟨qL φ K w,fun b n h=>⟨by rw [j4 h,h1],rfl⟩,fun b n h=>?_⟩
 obtain ⟨o',e1,e2⟩ := ye h
 cases o' with
 | slot i j=>obtain ⟨i',j',h'⟩ := h3 i j; rw [h'] at e2; cases e2
 | cell c j=>rw [h2] at e2; cases e2
 | outer=>exact e1
theorem Qm {fn : Func} {K : Nat → BK} {w : World} {F : List D} {H : AH} {a : Act} {n : Nat} {R : D → AH → Prop} (hk : rOk fn.results.toList = true) (hs : St K w F H a.tmps) (h : uL P fn.results.toList F H fun d=>R d (back n H)) :
  ∃ v d H' K',(results fn a.tmps).run P w = .ok v w ∧ R d H' ∧ FK K w K' w ∧ KRel K' w ∧ HRel K' w H' ∧ RepO K' w 0 d v := by
 have hres : ∀ vs : List Value,(fn.results.toList.mapM (vT a.tmps)).run P w = .ok vs w → (results fn a.tmps).run P w = .ok (if h : vs.length = 1 then vs[0] else .tuple vs.toArray) w := fun vs hv=>by
  have he : results fn a.tmps = (fn.results.mapM (vT a.tmps) >>= fun vs=>pure (if h : vs.size = 1 then vs[0] else .tuple vs)) := by
   unfold results
   congr 2
  rw [he,Array.mapM_eq_mapM_toList,Sem.run_bind,Sem.run_map,hv]
  simp only [Result.andThen_ok,Sem.run_pure,List.size_toArray]
  split <;> simp
 have hsub : HRel K w (back n H) := (hs.sub (u5 n H)).hrel
 unfold uL at h
 split at h
 ·rename_i r hr
  split at h
  ·rename_i d hd
   obtain ⟨v,h1,h2⟩ := uO (P := P) hs hd
   have hrun := hres [v] (by rw [hr]; simp [h1])
   simp only [List.length_cons,List.length_nil,Nat.zero_add,dite_true,List.getElem_cons_zero] at hrun
   rcases h2 with ⟨t,rfl,h2⟩ | ⟨_,h2⟩
   ·let φ : Who → Who := fun o=>match o with
     | .slot i j=>if i = t then .slot 0 j else .slot 1 j
     | x=>x
    refine ⟨v,d,back n H,relab φ K,hrun,h,slotφ_fk rfl (fun _ _=>rfl) (fun i j=>?_),jI hs.krel,yG ⟨fun _ _=>rfl,rfl⟩ hsub,KA (h2.conv (qL φ K w) (fun b m hb=>by rw [j4 hb]; simp [φ]))⟩
    simp only [φ]
    split
    ·exact ⟨_,_,rfl⟩
    ·exact ⟨_,_,rfl⟩
   ·exact ⟨v,d,back n H,K,hrun,h,.refl K w,hs.krel,hsub,h2.viewO⟩
  ·exact h.elim
 ·rename_i rs hnr
  split at h
  ·rename_i ds hds
   obtain ⟨vs,g1,g2,g3,g4⟩ := uJ (P := P) hs _ _ hds
   have hrun := hres vs g1
   have hl1 : vs.length ≠ 1 := fun e=>by
    have hl : fn.results.toList.length = 1 := by omega
    match hq : fn.results.toList,hl with
    | [r],_=>exact hnr r hq
   rw [dif_neg hl1] at hrun
   let φ : Who → Who := fun o=>match o with
    | .slot i j=>Qa fn.results.toList 0 i
    | x=>x
   refine ⟨.tuple vs.toArray,.tup ds,back n H,relab φ K,hrun,h,slotφ_fk rfl (fun _ _=>rfl) (fun i j=>um _ _ _),jI hs.krel,yG ⟨fun _ _=>rfl,rfl⟩ hsub,vs.toArray,rfl,by simp [g2],fun j d u hd hu=>?_⟩
   have hu' : vs[j]? = some u := by simpa using hu
   have hj : j < fn.results.toList.length := by rw [g3]; exact (List.getElem?_eq_some_iff.1 hd).1
   rcases g4 j _ d u (List.getElem?_eq_getElem hj) hd hu' with ⟨t,ht,hc⟩ | ⟨_,hc⟩
   ·refine hc.conv (qL φ K w) (fun b m hb=>?_)
    rw [j4 hb]
    have hp := zA fn.results.toList 0 j t hk (by rw [List.getElem?_eq_getElem hj,ht])
    simp [φ,hp]
   ·exact (RepV.mono (qL φ K w) hc).repC (fun xs e=>by subst e; exact hc.not_own)
  ·exact h.elim
theorem ACall.calls {f : FuncId} {args : List D} {R : D → AH → Prop} (h : ACall P f args [] R) (w : World) (vs : Array Value) (hl : vs.size = args.length)
  (hr : ∀ (j : Nat) (d : D) (v : Value),args[j]? = some d → vs[j]? = some v → RepV (fun _=>.imm) w d v) :
  Calls P f vs w fun e w'=>∃ v d H' K',e = .returned v ∧ R d H' ∧ Below w.heap.size w w' ∧ RepO K' w' 0 d v := by
 refine (h.2 (fun _=>.imm) w vs (fun _ _=>rfl) (fun _ _ _ _ h=>by cases h) ⟨by simp,fun b o hm=>by simp at hm⟩ hl hr).mono fun e w' ⟨v,d,H',K',g1,g2,g3,g4,g5,g6⟩=>⟨v,d,H',K',g1,g2,?_,g6⟩
 exact ⟨g3.ext.os,g3.ext.tape,g3.ext.output,g3.ext.size,fun b hb=>(g3.ext.imm b hb rfl).2⟩
end
end Go.Aw
end
section
namespace Go.Aw
open Go Go.RowKit
theorem o6 {α : Type} {sz : Nat} (hpos : 0 < sz) : ∀ {xs : List (List α)},(∀ x ∈ xs,x.length = sz) → ∀ q,xs.flatten[q]? = (xs[q / sz]?).bind (·[q % sz]?)
  | [],_,q=>by simp
  | x :: r,h,q=>by
    have hx := h x (.head _)
    rw [List.flatten_cons,List.getElem?_append]
    by_cases hq : q < sz
    · rw [if_pos (by omega),Nat.div_eq_of_lt hq,Nat.mod_eq_of_lt hq]
      rfl
    · rw [if_neg (by omega),o6 hpos (fun y hy=>h y (.tail _ hy)),hx]
      have h1 : q / sz = (q - sz) / sz + 1 := by
        rw [show q = (q - sz) + sz by omega,Nat.add_div_right _ hpos]
        simp
      have h2 : q % sz = (q - sz) % sz := by
        rw [show q = (q - sz) + sz by omega,Nat.add_mod_right]
        simp
      rw [h1,h2]
      simp
theorem wG {α : Type} {sz : Nat} : ∀ {xs : List (List α)},(∀ x ∈ xs,x.length = sz) → xs.flatten.length = xs.length * sz
  | [],_=>by simp
  | x :: r,h=>by
    rw [List.flatten_cons,List.length_append,wG (fun y hy=>h y (.tail _ hy)),h x (.head _),List.length_cons,Nat.add_mul]
    omega
section
variable {P : Program} {o : Oper} {F : List D} {H : AH} {k : List D → AH → Prop} {K : Nat → BK} {w : World} {a : Act} {Q : Exit → Act → World → Prop}
def mkH (P : Program) (t : TypeId) (l c : Operand) (dst : Option Tmp) (F : List D) (H : AH) (k : List D → AH → Prop) : Prop :=
  match yE P t with
  | some (e,sz)=>match yF P e,rv F l,rv F c with
    | some z,.int _ n,.int _ m=>n = m ∧ 0 ≤ n ∧ (match P.info? e with | some i=>(i.bytes : Int) * n ≤ 140737488355328 ∧ n ≤ 140737488355328 | none=>False) ∧ ∀ b,qZ H b → k (j0 F dst (.hsl b n.toNat)) ((b,.cells (List.replicate n.toNat z).flatten) :: H)
    | _,_,_=>False
  | none=>False
theorem Yn (hs : St K w F H a.tmps) (t : TypeId) (c : Array Value) (cs : List D) (n cap : Nat) (h1 : n ≤ cap) (h2 : cap ≤ maxLen) (h3 : n ≤ big) (hc : c.size = cs.length)
    (hr : ∀ (j : Nat) (d : D),cs[j]? = some d → ∃ u,c[j]? = some u ∧ u.oneCell' = true ∧ (RepV K w d u ∨ (∃ x,d = .own [] ∧ u = .slice x 0 0))) (dst : Option Tmp) :
    ∃ K',FK K w K' (w.alloc (.cells c t)) ∧ St K' (w.alloc (.cells c t)) (j0 F dst (.hsl w.heap.size n)) ((w.heap.size,.cells cs) :: H) (a.put dst (.slice (some ⟨w.heap.size,0,none⟩) n cap)).tmps := by
  obtain ⟨hp,hk'⟩ := wM (K := K) (w := w) hs.krel (.cells c t) (x := .priv) (by simp)
  refine ⟨_,hp.fk hs.krel,hs.put (hp.keep hs.krel) (fun _ _ h=>h) hk' ?_ dst (fun i _=>RepV.viewO (.hsl _ _ _ h1 h2 h3))⟩
  have hold := hs.hrel.pres hs.krel hp
  refine ⟨?_,fun b o hm=>?_⟩
  · simp only [List.map_cons,List.nodup_cons]
    refine ⟨fun hm=>?_,hold.nd⟩
    rw [List.mem_map] at hm
    obtain ⟨⟨b,o⟩,e1,e2⟩ := hm
    have := hs.hrel.lt hs.krel e1
    simp only [] at e2
    omega
  · rcases List.mem_cons.1 hm with h | h
    · injection h with e1 e2
      subst e1 e2
      refine ⟨kf _ _ _,c,t,heap_alloc_new w _,hc,fun j d hd=>?_⟩
      obtain ⟨u,e1,e2,e3⟩ := hr j d hd
      refine ⟨u,e1,e2,?_⟩
      rcases e3 with e3 | ⟨x,rfl,rfl⟩
      · exact (RepV.mono (hp.keep hs.krel).ext e3).repC (fun xs e=>by subst e; exact e3.not_own)
      · exact .inl ⟨rfl,x,rfl⟩
    · exact hold.ok b o h
theorem JL (K : Nat → BK) (w : World) {u : Value} (h : wY u = true) : RepV K w (jx u) u ∨ ∃ x,jx u = .own [] ∧ u = .slice x 0 0 := by
  have hcd := yL (K := K) (w := w) (o := .outer) h
  generalize hcc : jx u = cc at hcd
  cases cc with
  | own xs =>
    right
    unfold jx at hcc
    split at hcc <;> first
      | (injection hcc with hcc
         subst hcc
         first | exact ⟨none,rfl,rfl⟩ | exact ⟨none,rfl,by assumption⟩)
      | (exact absurd hcc (by simp))
  | _=>exact .inl hcd
theorem stp_mkH (hs : St K w F H a.tmps) (hok : jR o = true) {t : TypeId} {l c : Operand} (ho : o.op = .makeSlice t l c) (h : mkH P t l c o.dst F H k) : o.wp P a w (OKd k K w a.defers) Q := by
  have hops := hs.ops (xs := o.op.operands) (by unfold jR at hok; simp only [Bool.and_eq_true] at hok; exact hok.1)
  have hml : l ∈ o.op.operands.toList := by simp [ho,Op.operands]
  have hmc : c ∈ o.op.operands.toList := by simp [ho,Op.operands]
  unfold mkH at h
  split at h
  · rename_i e sz hsl
    split at h
    · rename_i z k1 n k2 m hz hl hc
      obtain ⟨rfl,h0,hb,h⟩ := h
      obtain ⟨hu,hsz,i,hi,his⟩ := kg hsl
      obtain ⟨i',zv,hi',hzv,z1,z2,z3,z4⟩ := yx hz
      have hii : i = i' := by rw [hi] at hi'; exact Option.some.inj hi'
      subst hii
      simp only [hi] at hb
      have hl' := (hl ▸ hops l hml).int_inv.1
      have hc' := (hc ▸ hops c hmc).int_inv.1
      obtain ⟨q,rfl⟩ := Int.eq_ofNat_of_zero_le h0
      have hrun := run_make (P := P) w t e i zv hu hi hzv k1 k2 q q h0 (Int.le_refl _) (by omega) (by omega)
      simp only [Int.toNat_natCast] at hrun h
      have hzl : z.length = sz := by omega
      have hall : ∀ x ∈ List.replicate q z,x.length = sz := fun x hx=>by rw [List.eq_of_mem_replicate hx]; exact hzl
      obtain ⟨K',g1,g2⟩ := Yn hs e (madeCells zv.cells (q * i.size)) (List.replicate q z).flatten q q (Nat.le_refl _) (by unfold maxLen; omega) (by unfold big; omega) (by rw [size_madeCells,his,wG hall]; simp) (fun j d hd=>by
        rw [o6 hsz hall] at hd
        obtain ⟨x,e1,e2⟩ := Option.bind_eq_some_iff.1 hd
        obtain rfl := List.eq_of_mem_replicate (List.mem_of_getElem? e1)
        have hjq : j < q * sz := by
          have h1 := (List.getElem?_eq_some_iff.1 e1).1
          simp only [List.length_replicate] at h1
          exact (Nat.div_lt_iff_lt_mul hsz).1 h1
        have hzs : zv.cells.size = sz := by omega
        have hjz : j % sz < zv.cells.size := by rw [hzs]; exact Nat.mod_lt _ hsz
        have hu' := Array.getElem?_eq_getElem hjz
        obtain ⟨f1,f2⟩ := z3 _ _ hu'
        have hd' := z4 _ d _ e2 hu'
        refine ⟨zv.cells[j % sz],?_,f1,by rw [hd']; exact JL K w f2⟩
        unfold madeCells
        rw [Array.getElem?_map,Array.getElem?_range,if_pos (by rw [his]; exact hjq)]
        simp only [Option.map_some,hzs]
        rw [getElem!_pos zv.cells _ hjz]) o.dst
      refine j7 (v := .slice (some ⟨w.heap.size,0,none⟩) q q) (w' := w.alloc (.cells (madeCells zv.cells (q * i.size)) e)) ?_ ⟨_,_,K',h _ (hs.hrel.fresh hs.krel),g1,g2,qS _ _⟩
      simp only [execOp,ho,Sem.run_bind,hl',hc',hrun,Result.andThen_ok]
      rfl
    · exact h.elim
  · exact h.elim
def apH (P : Program) (t u : TypeId) (x y : Operand) (dst : Option Tmp) (F : List D) (H : AH) (k : List D → AH → Prop) : Prop :=
  match x,dst with
  | .tmp s,some d=>match ev F (.tmp s),Ju P t u with
    | .own [],some (_,sz,bs)=>match rv F y with
      | .slc ys=>(∀ y ∈ ys,y.length = sz) ∧ ys.length * bs ≤ 140737488355328 ∧ (ys = [] → k ((F.set s (.slc [])).set d (.own [])) H) ∧
          (ys ≠ [] → ∀ b m,qZ H b → k ((F.set s (.slc [])).set d (.hsl b ys.length)) ((b,.cells (ys.flatten ++ List.replicate m .any)) :: H))
      | _=>False
    | _,_=>False
  | _,_=>False
theorem Ul {z : Array Value} {n j : Nat} (h : j < (Builtin.zeroCells z n).size) (hp : 0 < z.size) : ∃ i,(Builtin.zeroCells z n)[j]? = some z[i]! ∧ i < z.size := by
  have hs : (Builtin.zeroCells z n).size = n * z.size := by simp [Builtin.zeroCells]
  refine ⟨j % z.size,?_,Nat.mod_lt _ hp⟩
  unfold Builtin.zeroCells
  rw [Array.getElem?_map,Array.getElem?_range,if_pos (by rw [← hs]; exact h)]
  rfl
theorem stp_apH (hs : St K w F H a.tmps) (hok : jR o = true) {c : Call} {t u : TypeId} {x y : Operand} (ho : o.op = .call c) (hf : c.callee = .builtin .append) (hargs : c.args = #[x,y]) (htys : c.argTypes = #[t,u]) (h : apH P t u x y o.dst F H k) : o.wp P a w (OKd k K w a.defers) Q := by
  unfold apH at h
  split at h
  · rename_i _ _ s d hd
    split at h
    · rename_i e sz bs hev hap
      obtain ⟨hF,hT⟩ := ov hs hev (by simp)
      have hown : OwnAt K w (.slot s 0) [] (a.eval (.tmp s)) := hs.slot s _ _ hF hT
      obtain ⟨ad,hv⟩ : ∃ ad,a.eval (.tmp s) = .slice ad 0 0 := by
        rcases hown with ⟨_,ad,hv⟩ | ⟨b,cap,sz',c',T,hv,_,_,_,hp,_⟩
        · exact ⟨ad,hv⟩
        · simp at hp
      have hy : y9 y = true := by
        unfold jR at hok
        simp only [ho,Op.operands,Call.operands,hf,Bool.and_eq_true] at hok
        exact (Array.all_eq_true'.1 hok.2) y (by rw [hargs]; simp)
      split at h
      · rename_i ys hys
        obtain ⟨h2,h3,h4,h5⟩ := h
        obtain ⟨hsl,i,zc,hi,his,hib,hz,hbp,hus,hun⟩ := gv hap
        obtain ⟨hu,hpos,_,_,_⟩ := kg hsl
        obtain ⟨i',z,hi',hz0,z1,z2,z3,z4⟩ := yx hz
        rw [hi] at hi'
        obtain rfl := Option.some.inj hi'
        subst his hib
        obtain ⟨news,s1,s2,s3,s4,s5,s6⟩ := gJ (P := P) (hys ▸ hs.rep hy) h2 hpos
        have hexec : ∀ r w',(Builtin.append_ #[t,u] o.type #[.slice ad 0 0,a.eval y]).run P w = .ok r w' → (execOp a.eval o).run P w = .ok (.value r) w' := fun r w' hr=>by
          simp only [execOp,ho,resolve,hf,Sem.run_bind,Sem.run_pure,Result.andThen_ok,invoke,builtin,hargs,htys]
          simp [hv,hr]
        have slot0 : ∀ {K' : Nat → BK} {w' : World} {H' : AH} {dd : D} {r : Value},FK K w K' w' → KRel K' w' → HRel K' w' H' → (∀ (i : Nat) (d' : D) (v : Value),F[i]? = some d' → a.tmps[i]? = some v → RepO K' w' i d' v) → RepO K' w' d dd r → St K' w' ((F.set s (.slc [])).set d dd) H' (a.put (some d) r).tmps := fun hfk hk' hh' hsl' hdd=>by
          refine ⟨hk',hh',by simpa [Act.put] using hs.len,fun i d' v hx hv'=>?_⟩
          simp only [Act.put] at hv'
          rcases getElem?_set_some hx with ⟨rfl,rfl,hl⟩ | ⟨hne,hx⟩
          · rw [Array.getElem?_setIfInBounds_self_of_lt (by rw [hs.len]; simpa using hl)] at hv'
            obtain rfl := Option.some.inj hv'
            exact hdd
          · rw [Array.getElem?_setIfInBounds_ne hne] at hv'
            rcases getElem?_set_some hx with ⟨rfl,rfl,_⟩ | ⟨hne2,hx⟩
            · rw [hT] at hv'
              obtain rfl := Option.some.inj hv'
              rw [hv]
              exact RepV.viewO (.slcnil ad)
            · exact hsl' i d' v hx hv'
        by_cases hye : ys = []
        · subst hye
          have hn : news = [] := List.eq_nil_of_length_eq_zero (by simpa using s2)
          subst hn
          have hrun := zd (P := P) (w := w) t u o.type e i hu hus hun hi (a.eval y) s1 (s3 w rfl) ad
          exact j7 (hexec _ _ hrun) ⟨_,H,K,h4 rfl,.refl K w,by rw [hd]; exact slot0 (.refl K w) hs.krel hs.hrel hs.slot (.inl ⟨rfl,ad,rfl⟩),qS _ _⟩
        · have hyl : 0 < ys.length := List.length_pos_iff.2 hye
          have hrun := uY (P := P) (w := w) t u o.type e i z hu hus hun hi hz0 (a.eval y) ys.length news s1 (s3 w.drew rfl) ad 0 0 [] (by cases ad <;> simp [Builtin.firstCells,loadCells,loadCellsFrom]) (by omega) (by simpa using h3) hbp
          have hge := grownCap_ge w (0 + ys.length) 0 e
          have hlb : ys.length ≤ ys.length * i.bytes := Nat.le_mul_of_pos_right _ hbp
          have hle := grownCap_le_maxLen w (0 + ys.length) 0 e (by unfold maxLen; omega)
          generalize grownCap w (0 + ys.length) 0 e = nc at hrun hge hle
          simp only [Nat.zero_add] at hrun hge
          generalize hcc : ((#[] : Array Value) ++ news.toArray ++ Builtin.zeroCells z.cells (nc - ys.length)) = cc at hrun
          have hzs : (Builtin.zeroCells z.cells (nc - ys.length)).size = (nc - ys.length) * z.cells.size := by simp [Builtin.zeroCells]
          have hfl := wG h2
          have hcs : cc.size = (ys.flatten ++ List.replicate ((nc - ys.length) * i.size) D.any).length := by
            rw [← hcc]
            simp only [Array.size_append,List.size_toArray,List.length_append,List.length_replicate,hzs,hfl,s2,z1,← z2]
            simp
          have hs1 : St K w.drew F H a.tmps := ⟨hs.krel,hs.hrel.pres hs.krel ((Pres.refl K w).drew),hs.len,fun i d' v h1 h2=>(hs.slot i d' v h1 h2).keep (((Pres.refl K w).drew).keep hs.krel) (fun _ h=>h)⟩
          obtain ⟨K',g1,g2⟩ := Yn (a := a) hs1 e cc _ ys.length nc hge hle (by unfold big; omega) hcs (fun j dd hdd=>by
            have hjl : j < cc.size := by rw [hcs]; exact (List.getElem?_eq_some_iff.1 hdd).1
            rw [List.getElem?_append] at hdd
            split at hdd
            · rename_i hlt
              rw [o6 hpos h2] at hdd
              obtain ⟨x1,e1,e2⟩ := Option.bind_eq_some_iff.1 hdd
              obtain ⟨uu,f1,f2⟩ := s6 _ x1 e1 _ dd e2
              have hdm := Nat.div_add_mod j i.size
              rw [Nat.mul_comm] at hdm
              rw [hdm] at f1
              refine ⟨uu,?_,s5 _ (List.mem_of_getElem? f1),.inl (f2.mono (((Pres.refl K w).drew).keep hs.krel).ext)⟩
              rw [← hcc,Array.getElem?_append_left (by simp [s2]; omega),Array.getElem?_append_right (by simp)]
              simpa using f1
            · rename_i hge'
              have hdany : dd = .any := List.eq_of_mem_replicate (List.mem_of_getElem? hdd)
              subst hdany
              have hjz : j - news.length < (Builtin.zeroCells z.cells (nc - ys.length)).size := by
                rw [← hcc] at hjl
                simp only [Array.size_append,List.size_toArray] at hjl
                simp at hjl
                omega
              obtain ⟨q,q1,q2⟩ := Ul hjz (by omega)
              obtain ⟨f1,_⟩ := z3 q _ (Array.getElem?_eq_getElem q2)
              refine ⟨z.cells[q]!,?_,by rw [getElem!_pos z.cells q q2]; exact f1,.inl (.any _)⟩
              rw [← hcc,Array.getElem?_append_right (by simp; omega)]
              simpa using q1) none
          have hsz : w.drew.heap.size = w.heap.size := rfl
          refine j7 (hexec _ _ hrun) ⟨_,_,K',h5 hye _ _ (hs1.hrel.fresh hs1.krel),((Pres.refl K w).drew.fk hs.krel).trans g1,by
            rw [hd]
            exact slot0 (((Pres.refl K w).drew.fk hs.krel).trans g1) g2.krel g2.hrel g2.slot (RepV.viewO (.hsl _ _ nc hge hle (by unfold big; omega))),qS _ _⟩
      · exact h.elim
    · exact h.elim
  · exact h.elim
def Fz (F : List D) (H : AH) (F' : List D) (H' : AH) : Prop :=
  ∀ (K : Nat → BK) (w : World) (t : Array Value),St K w F H t → ∃ K',FK K w K' w ∧ St K' w F' H' t
theorem Fz.refl : Fz F H F H := fun K w _ h=>⟨K,.refl K w,h⟩
theorem Fz.trans {F' F'' : List D} {H' H'' : AH} (h : Fz F H F' H') (g : Fz F' H' F'' H'') : Fz F H F'' H'' := fun K w t hs =>
  let ⟨K',h1,h2⟩ := h K w t hs
  let ⟨K'',g1,g2⟩ := g K' w t h2
  ⟨K'',h1.trans g1,g2⟩
def jB : AH → Nat → AH
  | [],_=>[]
  | (c,o) :: r,b=>if b = c then r else (c,o) :: jB r b
theorem erase_sub {b : Nat} : ∀ {H : AH},(jB H b).Sublist H
  | []=>List.Sublist.refl _
  | (c,o) :: r=>by
    unfold jB
    split
    · exact List.sublist_cons_self _ _
    · exact List.Sublist.cons_cons _ erase_sub
theorem wE {b : Nat} : ∀ {H : AH},(H.map (·.1)).Nodup → ∀ {c : Nat} {o : AO},(c,o) ∈ jB H b → c ≠ b
  | [],_,c,o,h=>by simp [jB] at h
  | (c',o') :: r,hn,c,o,h=>by
    simp only [List.map_cons,List.nodup_cons] at hn
    unfold jB at h
    split at h
    · rename_i e
      intro e'
      subst e' e
      exact hn.1 (List.mem_map.2 ⟨_,h,rfl⟩)
    · rename_i e
      rcases List.mem_cons.1 h with h | h
      · injection h with h1 _
        subst h1
        exact Ne.symm e
      · exact wE hn.2 h
theorem VU {b : Nat} {x : BK} (hk : KRel K w) (hb : K b = .priv) (hx : ∀ n,x ≠ .tok n .outer) : Keep noE (fun c=>c = b) K w (gz K b x) w ∧ KRel (gz K b x) w := by
  have hlt := hk.lt_of (b := b) (by rw [hb]; simp)
  have hne : ∀ {c : Nat} {y : BK},K c = y → y ≠ .priv → c ≠ b := fun h1 h2 e=>by subst e; rw [hb] at h1; exact h2 h1.symm
  refine ⟨⟨⟨rfl,rfl,rfl,Nat.le_refl _,fun c _ hc=>⟨by rw [jo _ _ (hne hc (by simp))]; exact hc,rfl⟩,fun c n o hc=>⟨n,o,by rw [jo _ _ (hne hc (by simp))]; exact hc,Nat.le_refl _,fun _ _=>rfl⟩,fun c hc=>?_⟩,fun c n o hc _=>⟨by rw [jo _ _ (hne hc (by simp))]; exact hc,rfl⟩,fun c n hc=>?_,fun c hc hne'=>⟨by rw [jo _ _ hne']; exact hc,rfl⟩⟩,fun c hc=>?_⟩
  · by_cases e : c = b
    · exact .inr (by rw [e]; exact hlt)
    · exact .inl (by rw [jo _ _ e]; exact hc)
  · by_cases e : c = b
    · subst e; rw [kf] at hc; exact (hx n hc).elim
    · rwa [jo _ _ e] at hc
  · rw [jo _ _ (by omega)]; exact hk c hc
def plain : D → Bool
  | .own _=>false
  | _=>true
theorem Wk {o' : Who} {d : D} {v : Value} (h : plain d = true) (hr : RepC K w o' d v) : RepV K w d v := by
  cases d <;> first | exact hr | (simp [plain] at h)
theorem Qr (hs : St K w F H a.tmps) {b n cap sz : Nat} {cs : List D} {xs : List (List D)} {rest : List D} (hg : qK H b = some (.cells cs)) (hcs : cs = xs.flatten ++ rest) (hx : ∀ x ∈ xs,x.length = sz) (hpos : 0 < sz) (hpl : ∀ x ∈ xs,∀ d ∈ x,plain d = true) :
    K b = .priv ∧ ∃ (c : Array Value) (T : TypeId),w.heap[b]? = some (.cells c T (0,0)) ∧ c.size = cs.length ∧ ∀ (i : Nat) (x : List D),xs[i]? = some x → ∀ (j : Nat) (d : D),x[j]? = some d → ∃ u,c[i * sz + j]? = some u ∧ u.oneCell' = true ∧ RepV K w d u := by
  obtain ⟨hp,c,T,h1,h2,h3⟩ := hs.hrel.ok b _ (jp hg)
  refine ⟨hp,c,T,h1,h2,fun i x hi j d hj=>?_⟩
  have hlt := J1 hi (hx x (List.mem_of_getElem? hi)) hj
  have hjs : j < sz := by rw [← hx x (List.mem_of_getElem? hi)]; exact (List.getElem?_eq_some_iff.1 hj).1
  have hget : cs[i * sz + j]? = some d := by
    rw [hcs,List.getElem?_append_left (by rw [wG hx]; exact hlt),o6 hpos hx]
    have e1 : (i * sz + j) / sz = i := by rw [Nat.mul_comm,Nat.mul_add_div hpos,Nat.div_eq_of_lt hjs,Nat.add_zero]
    have e2 : (i * sz + j) % sz = j := by rw [Nat.mul_comm,Nat.mul_add_mod,Nat.mod_eq_of_lt hjs]
    rw [e1,e2,hi]
    exact hj
  obtain ⟨u,e1,e2,e3⟩ := h3 _ d hget
  exact ⟨u,e1,e2,Wk (hpl x (List.mem_of_getElem? hi) d (List.mem_of_getElem? hj)) e3⟩
theorem Kb {b n cap sz : Nat} {xs : List (List D)} {c : Array Value} {T : TypeId} {K' : Nat → BK} (hb : w.heap[b]? = some (.cells c T (0,0))) (hv : Vis K' w b 0 (xs.length * sz)) (hn : xs.length = n) (h1 : n ≤ cap) (h2 : cap ≤ maxLen) (h3 : n ≤ big) (hx : ∀ x ∈ xs,x.length = sz)
    (hc : ∀ (i : Nat) (x : List D),xs[i]? = some x → ∀ (j : Nat) (d : D),x[j]? = some d → ∃ u,c[i * sz + j]? = some u ∧ u.oneCell' = true ∧ RepV K' w d u) : RepV K' w (.slc xs) (.slice (some ⟨b,0,none⟩) n cap) := by
  subst hn
  refine .slc xs b 0 cap sz (fun i j=>(c[i * sz + j]?).getD default) h3 h1 h2 (fun i x hi=>hx x (List.mem_of_getElem? hi)) hv (fun i x hi j d hj=>?_) (fun i x hi j d hj=>?_) (fun i x hi j d hj=>?_)
  · obtain ⟨u,e1,_,_⟩ := hc i x hi j d hj
    rw [Nat.zero_add,y5 hb,e1]; rfl
  · obtain ⟨u,e1,e2,_⟩ := hc i x hi j d hj
    rw [e1]; exact e2
  · obtain ⟨u,e1,_,e3⟩ := hc i x hi j d hj
    rw [e1]; exact e3
theorem Fz.freeze {s b n sz : Nat} {cs : List D} {xs : List (List D)} {rest : List D} (hF : F.getD s .any = .hsl b n) (hg : qK H b = some (.cells cs)) (hcs : cs = xs.flatten ++ rest) (hn : xs.length = n) (hx : ∀ x ∈ xs,x.length = sz) (hpos : 0 < sz) (hpl : ∀ x ∈ xs,∀ d ∈ x,plain d = true) :
    Fz F H (F.set s (.slc xs)) (jB H b) := by
  intro K w t hs
  let a : Act := { tmps := t,defers := [] }
  have hs' : St K w F H a.tmps := hs
  obtain ⟨hp,c,T,c1,c2,c3⟩ := Qr (cap := 0) (n := n) hs' hg hcs hx hpos hpl
  obtain ⟨hkeep,hkr⟩ := VU (x := .imm) hs.krel hp (by simp)
  have hlt : s < F.length := by
    rcases Nat.lt_or_ge s F.length with h' | h'
    · exact h'
    · simp [List.getD,List.getElem?_eq_none h'] at hF
  have hFs : F[s]? = some (.hsl b n) := by rw [← hF]; simp [List.getD,List.getElem?_eq_getElem hlt]
  have hT : t[s]? = some t[s]! := by
    have : s < t.size := by rw [hs.len]; exact hlt
    rw [getElem!_pos t s this,Array.getElem?_eq_getElem this]
  obtain ⟨cap,hv,h1,h2,h3⟩ := RepV.hsl_inv (K := K) (w := w) (v := t[s]!) (hs.slot s _ _ hFs hT)
  refine ⟨_,hkeep.fk (fun h=>h),hkr,⟨(erase_sub.map (·.1)).nodup hs.hrel.nd,fun c' o' hm=>AO.keep hkeep (wE hs.hrel.nd hm) (fun _ h=>h) (hs.hrel.ok c' o' (erase_sub.subset hm))⟩,by simpa using hs.len,fun i d v hd hv'=>?_⟩
  rcases getElem?_set_some hd with ⟨rfl,rfl,_⟩ | ⟨hne,hd⟩
  · rw [hT] at hv'
    obtain rfl := Option.some.inj hv'
    rw [hv]
    refine RepV.viewO (Kb c1 ⟨(Array.getElem?_eq_some_iff.1 c1).1,?_⟩ hn h1 h2 h3 hx (fun i x hi j d hj=>?_))
    · rw [kf]; trivial
    · obtain ⟨u,e1,e2,e3⟩ := c3 i x hi j d hj
      exact ⟨u,e1,e2,e3.mono hkeep.ext⟩
  · exact (hs.slot i d v hd hv').keep hkeep (fun _ h=>h)
theorem Fz.sub {H' : AH} (h : H'.Sublist H) : Fz F H F H' := fun K w t hs=>⟨K,.refl K w,hs.krel,⟨(h.map (·.1)).nodup hs.hrel.nd,fun b o hm=>hs.hrel.ok b o (h.subset hm)⟩,hs.len,hs.slot⟩
theorem Fz.view {s : Nat} {xs : List (List D)} (hF : F.getD s .any = .own xs) : Fz F H (F.set s (.slc xs)) H := by
  intro K w t hs
  have hlt : s < F.length := by
    rcases Nat.lt_or_ge s F.length with h' | h'
    · exact h'
    · simp [List.getD,List.getElem?_eq_none h'] at hF
  have hFs : F[s]? = some (.own xs) := by rw [← hF]; simp [List.getD,List.getElem?_eq_getElem hlt]
  refine ⟨K,.refl K w,hs.krel,hs.hrel,by simpa using hs.len,fun i d v hd hv'=>?_⟩
  rcases getElem?_set_some hd with ⟨rfl,rfl,_⟩ | ⟨hne,hd⟩
  · exact (show RepV K w (D.slc xs) v from (hs.slot s _ v hFs hv').rep).viewO
  · exact hs.slot i d v hd hv'
theorem Fz.freezeC {b' j b n sz : Nat} {ds cs : List D} {xs : List (List D)} {rest : List D} (hne : b' ≠ b) (hd : qK H b' = some (.cells ds)) (hj : ds[j]? = some (.hsl b n)) (hg : qK H b = some (.cells cs)) (hcs : cs = xs.flatten ++ rest) (hn : xs.length = n) (hx : ∀ x ∈ xs,x.length = sz) (hpos : 0 < sz) (hpl : ∀ x ∈ xs,∀ d ∈ x,plain d = true) :
    Fz F H F (jB (qY H b' (.cells (ds.set j (.slc xs)))) b) := by
  intro K w t hs
  let a : Act := { tmps := t,defers := [] }
  have hs' : St K w F H a.tmps := hs
  obtain ⟨hp,c,T,c1,c2,c3⟩ := Qr (cap := 0) (n := n) hs' hg hcs hx hpos hpl
  obtain ⟨hkeep,hkr⟩ := VU (x := .imm) hs.krel hp (by simp)
  have hnd : ((qY H b' (.cells (ds.set j (.slc xs)))).map (·.1)).Nodup := by rw [yf]; exact hs.hrel.nd
  refine ⟨_,hkeep.fk (fun h=>h),hkr,⟨(erase_sub.map (·.1)).nodup hnd,fun c' o' hm=>?_⟩,hs.len,fun i d v hd' hv'=>(hs.slot i d v hd' hv').keep hkeep (fun _ h=>h)⟩
  have hcb := wE hnd hm
  rcases wo hs.hrel.nd (erase_sub.subset hm) with ⟨rfl,rfl⟩ | ⟨hne',hm⟩
  · obtain ⟨g1,c',T',g2,g3,g4⟩ := AO.keep hkeep hcb (fun _ h=>h) (hs.hrel.ok c' _ (jp hd))
    refine ⟨g1,c',T',g2,by simpa using g3,fun q d' hd'=>?_⟩
    rcases getElem?_set_some hd' with ⟨rfl,rfl,_⟩ | ⟨hnq,hd'⟩
    · obtain ⟨u,e1,e2,e3⟩ := g4 j _ hj
      obtain ⟨cap,rfl,h1,h2,h3⟩ := RepV.hsl_inv e3
      refine ⟨_,e1,e2,?_⟩
      refine Kb c1 ⟨(Array.getElem?_eq_some_iff.1 c1).1,?_⟩ hn h1 h2 h3 hx (fun i x hi j d hj=>?_)
      · rw [kf]; trivial
      · obtain ⟨u,e1,e2,e3⟩ := c3 i x hi j d hj
        exact ⟨u,e1,e2,e3.mono hkeep.ext⟩
    · exact g4 q d' hd'
  · exact AO.keep hkeep hcb (fun _ h=>h) (hs.hrel.ok c' o' hm)
end
end Go.Aw
end
