/- A function's contract from its body ('acall_body'), and back to the machine's calls ('ACall.calls'). Conditions: those of 'acode'. -/
import Derived.Test.YtbfcfmcebdfndaaAw14
namespace Go.Aw
open Go Go.RowKit
set_option linter.unusedVariables false
set_option linter.unusedSimpArgs false

def rOk : List ResultVar → Bool
  | [] => true
  | .tmp t :: r => r.all (fun x => match x with | .tmp t' => t' != t | _ => true) && rOk r
  | .cell _ _ :: r => rOk r
def posW : List ResultVar → Nat → Nat → Who
  | [], _, _ => .slot 1 0
  | .tmp t' :: rs, q, t => if t' = t then .slot 0 (q + 1) else posW rs (q + 1) t
  | .cell _ _ :: rs, q, t => posW rs (q + 1) t
theorem posW_slot : ∀ (rs : List ResultVar) (q t : Nat), ∃ i j, posW rs q t = .slot i j
  | [], q, t => ⟨1, 0, rfl⟩
  | .tmp t' :: rs, q, t => by
    simp only [posW]
    split
    · exact ⟨_, _, rfl⟩
    · exact posW_slot rs _ _
  | .cell _ _ :: rs, q, t => posW_slot rs _ _
theorem posW_at : ∀ (rs : List ResultVar) (q j t : Nat), rOk rs = true → rs[j]? = some (.tmp t) → posW rs q t = .slot 0 (q + j + 1)
  | [], q, j, t, _, h => by simp at h
  | .tmp t' :: rs, q, 0, t, _, h => by
    simp only [List.getElem?_cons_zero, Option.some.injEq, ResultVar.tmp.injEq] at h
    simp [posW, h]
  | .tmp t' :: rs, q, j + 1, t, hk, h => by
    simp only [rOk, Bool.and_eq_true] at hk
    simp only [List.getElem?_cons_succ] at h
    have hne : t' ≠ t := fun e => by
      have := (List.all_eq_true.1 hk.1) _ (List.mem_of_getElem? h)
      simp [e] at this
    simp only [posW, if_neg hne]
    rw [posW_at rs (q + 1) j t hk.2 h]
    congr 1
    omega
  | .cell _ _ :: rs, q, 0, t, _, h => by simp at h
  | .cell _ _ :: rs, q, j + 1, t, hk, h => by
    simp only [rOk] at hk
    simp only [List.getElem?_cons_succ] at h
    simp only [posW]
    rw [posW_at rs (q + 1) j t hk h]
    congr 1
    omega

def bodyOk (fn : Func) : Bool := match fn.body with
  | some c => codeOk c && rOk fn.results.toList
  | none => false

section
variable {P : Program}

theorem facts_of {K : Nat → BK} {w : World} : ∀ (args : List D) (vs : List Value), vs.length = args.length → (∀ (j : Nat) (d : D) (v : Value), args[j]? = some d → vs[j]? = some v → RepV K w d v) → facts args
  | [], _, _, _ => trivial
  | d :: r, [], h, _ => by simp at h
  | d :: r, v :: vs, h, hr => ⟨(hr 0 d v rfl rfl).fact, facts_of r vs (Nat.succ.inj h) (fun j d v h1 h2 => hr (j + 1) d v h1 h2)⟩

theorem slotφ_fk {K : Nat → BK} {w : World} {φ : Who → Who} (h1 : φ .outer = .outer) (h2 : ∀ b j, φ (.cell b j) = .cell b j) (h3 : ∀ i j, ∃ i' j', φ (.slot i j) = .slot i' j') : FK K w (relab φ K) w := by
  refine ⟨relab_ext φ K w, fun b n h => ⟨by rw [relab_tok h, h1], rfl⟩, fun b n h => ?_⟩
  obtain ⟨o', e1, e2⟩ := relab_tok_inv h
  cases o' with
  | slot i j => obtain ⟨i', j', h'⟩ := h3 i j; rw [h'] at e2; cases e2
  | cell c j => rw [h2] at e2; cases e2
  | outer => exact e1

theorem end_state {fn : Func} {K : Nat → BK} {w : World} {F : List D} {H : AH} {a : Act} {n : Nat} {R : D → AH → Prop} (hk : rOk fn.results.toList = true) (hs : St K w F H a.tmps) (h : resD P fn.results.toList F H fun d => R d (back n H)) :
    ∃ v d H' K', (results fn a.tmps).run P w = .ok v w ∧ R d H' ∧ FK K w K' w ∧ KRel K' w ∧ HRel K' w H' ∧ RepO K' w 0 d v := by
  have hres : ∀ vs : List Value, (fn.results.toList.mapM (resRun a.tmps)).run P w = .ok vs w → (results fn a.tmps).run P w = .ok (if h : vs.length = 1 then vs[0] else .tuple vs.toArray) w := fun vs hv => by
    have he : results fn a.tmps = (fn.results.mapM (resRun a.tmps) >>= fun vs => pure (if h : vs.size = 1 then vs[0] else .tuple vs)) := by
      unfold results
      congr 2
    rw [he, Array.mapM_eq_mapM_toList, Sem.run_bind, Sem.run_map, hv]
    simp only [Result.andThen_ok, Sem.run_pure, List.size_toArray]
    split <;> simp
  have hsub : HRel K w (back n H) := (hs.sub (back_sub n H)).hrel
  unfold resD at h
  split at h
  · rename_i r hr
    split at h
    · rename_i d hd
      obtain ⟨v, h1, h2⟩ := resOne_run (P := P) hs hd
      have hrun := hres [v] (by rw [hr]; simp [h1])
      simp only [List.length_cons, List.length_nil, Nat.zero_add, dite_true, List.getElem_cons_zero] at hrun
      rcases h2 with ⟨t, rfl, h2⟩ | ⟨_, h2⟩
      · let φ : Who → Who := fun o => match o with
          | .slot i j => if i = t then .slot 0 j else .slot 1 j
          | x => x
        refine ⟨v, d, back n H, relab φ K, hrun, h, slotφ_fk rfl (fun _ _ => rfl) (fun i j => ?_), relab_krel hs.krel, relab_hrel ⟨fun _ _ => rfl, rfl⟩ hsub, repC_O (h2.conv (relab_ext φ K w) (fun b m hb => by rw [relab_tok hb]; simp [φ]))⟩
        simp only [φ]
        split
        · exact ⟨_, _, rfl⟩
        · exact ⟨_, _, rfl⟩
      · exact ⟨v, d, back n H, K, hrun, h, .refl K w, hs.krel, hsub, h2.viewO⟩
    · exact h.elim
  · rename_i rs hnr
    split at h
    · rename_i ds hds
      obtain ⟨vs, g1, g2, g3, g4⟩ := resAll_run (P := P) hs _ _ hds
      have hrun := hres vs g1
      have hl1 : vs.length ≠ 1 := fun e => by
        have hl : fn.results.toList.length = 1 := by omega
        match hq : fn.results.toList, hl with
        | [r], _ => exact hnr r hq
      rw [dif_neg hl1] at hrun
      let φ : Who → Who := fun o => match o with
        | .slot i j => posW fn.results.toList 0 i
        | x => x
      refine ⟨.tuple vs.toArray, .tup ds, back n H, relab φ K, hrun, h, slotφ_fk rfl (fun _ _ => rfl) (fun i j => posW_slot _ _ _), relab_krel hs.krel, relab_hrel ⟨fun _ _ => rfl, rfl⟩ hsub, vs.toArray, rfl, by simp [g2], fun j d u hd hu => ?_⟩
      have hu' : vs[j]? = some u := by simpa using hu
      have hj : j < fn.results.toList.length := by rw [g3]; exact (List.getElem?_eq_some_iff.1 hd).1
      rcases g4 j _ d u (List.getElem?_eq_getElem hj) hd hu' with ⟨t, ht, hc⟩ | ⟨_, hc⟩
      · refine hc.conv (relab_ext φ K w) (fun b m hb => ?_)
        rw [relab_tok hb]
        have hp := posW_at fn.results.toList 0 j t hk (by rw [List.getElem?_eq_getElem hj, ht])
        simp [φ, hp]
      · exact (RepV.mono (relab_ext φ K w) hc).repC (fun xs e => by subst e; exact hc.not_own)
    · exact h.elim

/-- A FUNCTION's CONTRACT, FROM ITS BODY. -/
theorem acall_body (hm : P.follows .mixedOrders = true) {f : FuncId} {fn : Func} {c : Code} (hf : P.funcs[f]? = some fn) (hb : fn.body = some c) (hk : bodyOk fn = true) (hcall : callOk P f = true) {args : List D} {H : AH} {R : D → AH → Prop}
    (h : facts args → acode P c (args ++ List.replicate (fn.ntmps - args.length) (.tup [])) H (retQ P fn.results.toList H.length R)) : ACall P f args H R := by
  refine ⟨hcall, fun K w vs h1 h2 h3 h4 h5 => calls_of_wp hf hb ?_⟩
  unfold bodyOk at hk
  simp only [hb, Bool.and_eq_true] at hk
  have hfacts : facts args := facts_of args vs.toList (by simpa using h4) (fun j d v hd hv => h5 j d v hd (by simpa using hv))
  have hst : St K w (args ++ List.replicate (fn.ntmps - args.length) (.tup [])) H (vs ++ Array.replicate (fn.ntmps - vs.size) undef) := by
    refine ⟨h1, h3, by simp [h4], fun i d v hd hv => ?_⟩
    rw [List.getElem?_append] at hd
    split at hd
    · rename_i hi
      rw [Array.getElem?_append_left (by rw [h4]; exact hi)] at hv
      exact (h5 i d v hd hv).viewO
    · rename_i hi
      rw [Array.getElem?_append_right (by rw [h4]; omega)] at hv
      have hd' := List.eq_of_mem_replicate (List.mem_of_getElem? hd)
      have hv' : v = undef := by
        have := Array.mem_of_getElem? hv
        simpa using (Array.mem_replicate.1 this).2
      rw [hd', hv']
      exact undef_rep.viewO
  have hw := acode_sound hm c _ H _ hk.1 (h hfacts) K w { tmps := vs ++ Array.replicate (fn.ntmps - vs.size) undef, defers := [] } hst rfl
  refine wp_mono hw fun e a' w' ⟨F', H', K', g1, g2, g3, g4⟩ => ?_
  cases e with
  | normal =>
    obtain ⟨v, d, H'', K'', e1, e2, e3, e4, e5, e6⟩ := end_state (fn := fn) hk.2 g3 g1
    exact ⟨g4, v, e1, v, d, H'', K'', rfl, e2, g2.trans e3, e4, e5, e6⟩
  | ret =>
    obtain ⟨v, d, H'', K'', e1, e2, e3, e4, e5, e6⟩ := end_state (fn := fn) hk.2 g3 g1
    exact ⟨g4, v, e1, v, d, H'', K'', rfl, e2, g2.trans e3, e4, e5, e6⟩
  | exit id => exact g1.elim
  | goto l => exact g1.elim
  | panic ch => exact g1.elim
  | outgrown => exact g1.elim

/-- BACK TO THE MACHINE: from a world in which nothing is ours, with arguments that are only read. -/
theorem ACall.calls {f : FuncId} {args : List D} {R : D → AH → Prop} (h : ACall P f args [] R) (w : World) (vs : Array Value) (hl : vs.size = args.length)
    (hr : ∀ (j : Nat) (d : D) (v : Value), args[j]? = some d → vs[j]? = some v → RepV (fun _ => .imm) w d v) :
    Calls P f vs w fun e w' => ∃ v d H' K', e = .returned v ∧ R d H' ∧ Below w.heap.size w w' ∧ RepO K' w' 0 d v := by
  refine (h.2 (fun _ => .imm) w vs (fun _ _ => rfl) (fun _ _ _ _ h => by cases h) ⟨by simp, fun b o hm => by simp at hm⟩ hl hr).mono fun e w' ⟨v, d, H', K', g1, g2, g3, g4, g5, g6⟩ => ⟨v, d, H', K', g1, g2, ?_, g6⟩
  exact ⟨g3.ext.os, g3.ext.tape, g3.ext.output, g3.ext.size, fun b hb => (g3.ext.imm b hb rfl).2⟩
end
end Go.Aw
