/- Operations that only make a value, the second half, and all of them together ('valO_sound'). Conditions: those that stand in 'valO'. -/
import Derived.Test.YtbfcfmcebdfndaaAw4
import Derived.Laws.IdiomStrings
namespace Go.Aw
open Go Go.RowKit
set_option linter.unusedVariables false
set_option linter.unusedSimpArgs false

section
variable {P : Program} {o : Oper} {H : AH} {ρ : Operand → D} {k : D → Prop}

theorem snd_un {op : UnOp} {t : TypeId} {x : Operand} (ho : o.op = .unOp op t x) (h : valO P ρ H (.unOp op t x) k) (hcur : Cur o H ρ) : ∃ d, k d ∧ Yields P o H ρ d := by
  simp only [valO] at h
  have hmx : x ∈ o.op.operands.toList := by simp [ho, Op.operands]
  split at h
  · rename_i b hx
    refine ⟨_, h, yields_same fun K w σ hk hh hr => ⟨.bool (!b), ?_, .bool _⟩⟩
    have := (hx ▸ hr x hmx).bool_inv
    simp [execOp, ho, this, Op.unary]
  · rename_i kd n hx
    refine ⟨_, h, yields_same fun K w σ hk hh hr => ⟨.int kd (kd.wrap (0 - n)), ?_, .int _ _ (wrapR _ _)⟩⟩
    have := (hx ▸ hr x hmx).int_inv.1
    simp [execOp, ho, this, Op.unary, Op.intArith]
  · rename_i kd n hx
    refine ⟨_, h, yields_same fun K w σ hk hh hr => ⟨.int kd (bits .xor kd (if kd.signed then -1 else kd.max) n), ?_, .int _ _ (wf_bits _ _ _ _)⟩⟩
    have := (hx ▸ hr x hmx).int_inv.1
    simp [execOp, ho, this, Op.unary, intBits_xor]
  · exact h.elim

theorem isStr_u {P : Program} {t : TypeId} (h : isStr P t = true) : P.underlying t = some .string := by
  unfold isStr at h
  split at h
  · assumption
  · simp at h
theorem isBytes_u {P : Program} {t : TypeId} (h : isBytes P t = true) : ∃ e, P.underlying t = some (.slice e) ∧ P.underlying e = some (.int .u8) := by
  unfold isBytes at h
  split at h
  · rename_i e hu
    split at h
    · exact ⟨e, hu, by assumption⟩
    · simp at h
  · simp at h

theorem snd_convert {s t : TypeId} {x : Operand} (ho : o.op = .convert s t x) (h : valO P ρ H (.convert s t x) k) (hcur : Cur o H ρ) : ∃ d, k d ∧ Yields P o H ρ d := by
  simp only [valO] at h
  have hmx : x ∈ o.op.operands.toList := by simp [ho, Op.operands]
  obtain ⟨K0, w0, σ0, hk0, hh0, hr0⟩ := hcur
  split at h
  · rename_i k0 n hx
    split at h
    · rename_i kd hkd
      obtain ⟨hs, h⟩ := h
      refine ⟨_, h, yields_same fun K w σ hk hh hr => ⟨.int kd (kd.wrap n), ?_, .int _ _ (wrapR _ _)⟩⟩
      have := (hx ▸ hr x hmx).int_inv.1
      have hu : P.underlying t = some (.int kd) := by
        unfold intK at hkd
        split at hkd
        · rename_i k' hu; simp only [Option.some.injEq] at hkd; subst hkd; exact hu
        · cases hkd
      have hi : P.intKind t = kd := by simp [Program.intKind, hu]
      have hc := run_convert_int (P := P) w s t k0 n hs (by rw [hi]; exact hu)
      rw [hi] at hc
      simp only [execOp, ho, this, Sem.run_bind, hc, Result.andThen_ok]
      rfl
    · exact h.elim
  · rename_i l hx
    split at h
    · rename_i ht
      obtain ⟨hs, h⟩ := h
      refine ⟨_, h, yields_same fun K w σ hk hh hr => ?_⟩
      obtain ⟨he, hb⟩ := (hx ▸ hr x hmx).str_inv
      refine ⟨.string ⟨⟨l⟩⟩, ?_, .str _ hb⟩
      simp only [execOp, ho, he, Sem.run_bind]
      simp [convert, run_underlying (isStr_u hs), run_underlying (isStr_u ht)]
    · obtain ⟨hs, ht, h⟩ := h
      obtain ⟨e, hu, hue⟩ := isBytes_u ht
      refine ⟨_, h (hx ▸ hr0 x hmx).fact, ?_⟩
      intro K w σ i hk hh hr
      obtain ⟨he, hb⟩ := (hx ▸ hr x hmx).str_inv
      have hrun := run_bytes_of_string (P := P) w s t e ⟨⟨l⟩⟩ (isStr_u hs) hu hue
      have hsz : (⟨⟨l⟩⟩ : ByteArray).size = l.length := rfl
      rw [hsz] at hrun
      have hge := grownCap_ge w l.length 0 e
      have hle := grownCap_le_maxLen w l.length 0 e (by unfold big maxLen at *; omega)
      generalize hcap : grownCap w l.length 0 e = cap at hrun hge hle
      obtain ⟨hp, hk'⟩ := pres_alloc_imm (K := K) (w := w.drew) hk (.cells (bytesRow ⟨⟨l⟩⟩ cap) e ((bytesRow ⟨⟨l⟩⟩ cap).size, (bytesRow ⟨⟨l⟩⟩ cap).size + 1))
      refine ⟨.slice (some ⟨w.heap.size, 0, none⟩) l.length cap, K, _, ?_, ⟨hp.os, hp.tape, hp.output, hp.size, hp.old, hp.new⟩, hk', ?_⟩
      · simp only [execOp, ho, he, Sem.run_bind, hrun, Result.andThen_ok]
        rfl
      · have hheap : (w.drew.alloc (.cells (bytesRow ⟨⟨l⟩⟩ cap) e ((bytesRow ⟨⟨l⟩⟩ cap).size, (bytesRow ⟨⟨l⟩⟩ cap).size + 1))).heap[w.heap.size]? = some (.cells (bytesRow ⟨⟨l⟩⟩ cap) e ((bytesRow ⟨⟨l⟩⟩ cap).size, (bytesRow ⟨⟨l⟩⟩ cap).size + 1)) := by
          show (w.heap.push _)[w.heap.size]? = _
          simp
        have hcell : ∀ (j : Nat) (c : UInt8), l[j]? = some c → (bytesRow ⟨⟨l⟩⟩ cap)[j]? = some (.int .u8 c.toNat) := by
          intro j c hj
          have hlt := (List.getElem?_eq_some_iff.1 hj).1
          unfold bytesRow
          rw [Array.getElem?_append_left (by simpa using hlt)]
          simp [hj]
        have hbyte : ∀ (i : Nat) (x : List D), (l.map byteD)[i]? = some x → ∃ c, l[i]? = some c ∧ x = byteD c := fun i x hi => by
          rw [List.getElem?_map, Option.map_eq_some_iff] at hi
          obtain ⟨c, h1, h2⟩ := hi
          exact ⟨c, h1, h2.symm⟩
        have hlen : (l.map byteD).length = l.length := by simp
        have := RepV.slc (K := K) (w := w.drew.alloc (.cells (bytesRow ⟨⟨l⟩⟩ cap) e ((bytesRow ⟨⟨l⟩⟩ cap).size, (bytesRow ⟨⟨l⟩⟩ cap).size + 1))) (l.map byteD) w.heap.size 0 cap 1 (fun i _ => .int .u8 ((l[i]?).getD 0).toNat) (by rw [hlen]; exact hb) (by rw [hlen]; exact hge) hle
          (fun i x hi => by obtain ⟨c, _, rfl⟩ := hbyte i x hi; rfl)
          ⟨by simp, by rw [hk w.heap.size (Nat.le_refl _)]; trivial⟩
          (fun i x hi j d hj => by
            obtain ⟨c, h1, rfl⟩ := hbyte i x hi
            cases j with
            | zero => rw [cell_at hheap, Nat.zero_add, Nat.mul_one, Nat.add_zero, hcell i c h1, h1]; rfl
            | succ j => simp [byteD] at hj)
          (fun _ _ _ _ _ _ => rfl)
          (fun i x hi j d hj => by
            obtain ⟨c, h1, rfl⟩ := hbyte i x hi
            cases j with
            | zero =>
              simp only [byteD, List.getElem?_cons_zero, Option.some.injEq] at hj
              subst hj
              rw [h1]
              refine .int _ _ ?_
              have := c.toNat_lt
              simp [inR, Lit.wf, IntKind.min, IntKind.max, IntKind.signed, IntKind.bits]
              omega
            | succ j => simp [byteD] at hj)
        rw [hlen] at this
        exact this.viewO
  · rename_i xs hx
    obtain ⟨hs, ht, hb, h⟩ := h
    obtain ⟨e, hu, hue⟩ := isBytes_u hs
    refine ⟨_, h (hx ▸ hr0 x hmx).fact, yields_same fun K w σ hk hh hr => ?_⟩
    have hrx := hx ▸ hr x hmx
    refine ⟨.string ⟨⟨xs.map unbyte⟩⟩, ?_, .str _ (by simpa using hrx.slc_big)⟩
    rcases hrx.slc_inv with ⟨rfl, a, he⟩ | ⟨b, off, cap, sz, f, he, hc, hm, hsz, hv, hcell, hone, hrep⟩
    · simp only [execOp, ho, he, Sem.run_bind]
      rw [run_convert_bytes_string w s t e a 0 0 hu hue (isStr_u ht)]
      cases a with
      | none => simp [Conv.bytesToString]; rfl
      | some a => simp [Conv.bytesToString, loadCells, loadCellsFrom]; rfl
    · simp only [execOp, ho, he, Sem.run_bind]
      have hx1 : ∀ (i : Nat) (x : List D), xs[i]? = some x → ∃ n : Int, x = [.int .u8 n] ∧ 0 ≤ n ∧ n ≤ 255 := fun i x hi => by
        have := hb x (List.mem_of_getElem? hi)
        unfold isByte at this
        split at this
        · exact ⟨_, rfl, this⟩
        · exact this.elim
      have hrow := run_convert_bytes_back (P := P) w s t e ⟨b, off, none⟩ cap (xs.map unbyte) hu hue (isStr_u ht) (fun j hj => by
        have hj' : j < xs.length := by simpa using hj
        have hxj := List.getElem?_eq_getElem hj'
        obtain ⟨n, hn, h0, h255⟩ := hx1 j _ hxj
        have hs1 : sz = 1 := by have := hsz j _ hxj; rw [hn] at this; simpa using this.symm
        subst hs1
        have h0' : xs[j][0]? = some (.int .u8 n) := by rw [hn]; rfl
        have hc0 := hcell j _ hxj 0 _ h0'
        have hr0 := (hrep j _ hxj 0 _ h0').int_inv.1
        rw [Addr.add_lit]
        have e1 : off + j = off + (j * 1 + 0) := by omega
        rw [e1, hc0, hr0]
        simp only [List.getElem_map, hn, unbyte]
        congr 2
        have : (UInt8.ofNat n.toNat).toNat = n.toNat := by
          rw [UInt8.toNat_ofNat']
          omega
        rw [this]
        omega)
      simp only [List.length_map] at hrow
      rw [hrow]
      rfl
  · exact h.elim

theorem snd_makeFunc {f : FuncId} {first caps : Array Operand} (ho : o.op = .makeFunc (.func f) first caps) (h : valO P ρ H (.makeFunc (.func f) first caps) k) (hcur : Cur o H ρ) : ∃ d, k d ∧ Yields P o H ρ d := by
  simp only [valO] at h
  obtain ⟨rfl, h⟩ := h
  refine ⟨_, h, yields_same fun K w σ hk hh hr => ⟨.func (.func f) #[] (caps.map σ), ?_, .fn f _ _ (by simp) (fun j d u hd hu => ?_)⟩⟩
  · simp [execOp, ho, Instr.makeFunc]
  · simp only [List.getElem?_map, Array.getElem?_toList, Array.getElem?_map, Option.map_eq_some_iff] at hd hu
    obtain ⟨x, h1, rfl⟩ := hd
    obtain ⟨y, h2, rfl⟩ := hu
    rw [h1] at h2
    obtain rfl := Option.some.inj h2
    exact hr x (by simp [ho, Op.operands]; exact Array.mem_of_getElem? h1)

theorem snd_fieldAddr {t : TypeId} {x : Operand} {f : Nat} (ho : o.op = .fieldAddr t x f) (h : valO P ρ H (.fieldAddr t x f) k) (hcur : Cur o H ρ) : ∃ d, k d ∧ Yields P o H ρ d := by
  simp only [valO] at h
  have hmx : x ∈ o.op.operands.toList := by simp [ho, Op.operands]
  have run : ∀ (off n : Nat) (bb : Bool) (b ob : Nat) (w : World), fldI P t f = some (off, bb, n) → (Instr.fieldAt t (.pointer (some ⟨b, ob, none⟩)) f).run P w = .ok (.pointer (some ⟨b, ob + off, none⟩)) w := by
    intro off n bb b ob w hf
    obtain ⟨fs, fl, hu, hfl, hof, hty, hn⟩ := fldI_spec hf
    have h2 := (tyI_spec hty).2 w
    have hn0 : n ≠ 0 := by omega
    simp only [Instr.fieldAt, Sem.run_bind, run_underlying hu, Result.andThen_ok, hfl, Instr.sureAddr, Sem.run_pure, fieldPlace, h2, Sem.run_ite, if_neg hn0, Addr.add_lit, hof]
  split at h
  · rename_i off bb n b ob hf hx
    refine ⟨_, h, yields_same fun K w σ hk hh hr => ⟨.pointer (some ⟨b, ob + off, none⟩), ?_, .ptr _ _⟩⟩
    simp only [execOp, ho, (hx ▸ hr x hmx).ptr_inv, Sem.run_bind, run _ _ _ _ _ w hf, Result.andThen_ok]
    rfl
  · rename_i off bb n cs hf hx
    obtain ⟨hle, h⟩ := h
    refine ⟨_, h, yields_same fun K w σ hk hh hr => ?_⟩
    obtain ⟨b, ob, g, he, hv, hcell, hone, hrep⟩ := (hx ▸ hr x hmx).eptr_inv
    have hd : ∀ (j : Nat) (d : D), (cs.drop off)[j]? = some d → cs[off + j]? = some d := fun j d hj => by rwa [List.getElem?_drop] at hj
    refine ⟨.pointer (some ⟨b, ob + off, none⟩), ?_, .eptr _ b (ob + off) (fun j => g (off + j)) ?_ (fun j d hj => ?_) (fun j d hj => hone _ d (hd j d hj)) (fun j d hj => hrep _ d (hd j d hj))⟩
    · simp only [execOp, ho, he, Sem.run_bind, run _ _ _ _ _ w hf, Result.andThen_ok]
      rfl
    · obtain ⟨v1, v2⟩ := hv
      refine ⟨v1, ?_⟩
      rw [List.length_drop]
      cases hK : K b <;> rw [hK] at v2 <;> first | trivial | exact v2.elim | (show ob + off + (cs.length - off) ≤ _; have : ob + cs.length ≤ _ := v2; omega)
    · rw [Nat.add_assoc]; exact hcell _ d (hd j d hj)
  · exact h.elim

theorem snd_field {t : TypeId} {x : Operand} {f : Nat} (ho : o.op = .field t x f) (h : valO P ρ H (.field t x f) k) (hcur : Cur o H ρ) : ∃ d, k d ∧ Yields P o H ρ d := by
  simp only [valO] at h
  have hmx : x ∈ o.op.operands.toList := by simp [ho, Op.operands]
  obtain ⟨K0, w0, σ0, hk0, hh0, hr0⟩ := hcur
  split at h
  · rename_i off n cs hf hx
    obtain ⟨hle, h⟩ := h
    obtain ⟨fs, fl, hu, hfl, hof, hty, hn⟩ := fldI_spec hf
    obtain ⟨g1, g2⟩ := tyI_spec hty
    refine ⟨_, h, yields_same fun K w σ hk hh hr => ?_⟩
    obtain ⟨vs, he, hl, hone, hrep⟩ := (hx ▸ hr x hmx).agg_inv
    refine ⟨.agg ((vs.toList.drop off).take n).toArray, ?_, agg_of_list _ _ (by simp; omega) (fun j u hu => ?_) (fun j d u hd hu => ?_)⟩
    · simp only [execOp, ho, he, Sem.run_bind, Instr.field, run_underlying hu, Result.andThen_ok, hfl, asAgg, Sem.run_pure, part, g1, if_true, g2, hof]
      congr 3
      apply Array.ext'
      simp [List.extract_eq_take_drop]
    · rw [List.getElem?_take] at hu
      split at hu
      · exact hone (off + j) u (by simpa using hu)
      · cases hu
    · rw [List.getElem?_take] at hu hd
      split at hu
      · rename_i hj
        rw [if_pos hj] at hd
        exact hrep (off + j) d u (by simpa using hd) (by simpa using hu)
      · cases hu
  · rename_i off n cs hf hx
    split at h
    · rename_i c hc
      obtain ⟨fs, fl, hu, hfl, hof, hty, hn⟩ := fldI_spec hf
      obtain ⟨g1, g2⟩ := tyI_spec hty
      have key : ∀ (K : Nat → BK) (w : World) (v : Value), RepV K w (.agg cs) v → ∃ vs u, v = .agg vs ∧ vs[off]? = some u ∧ RepV K w c u := by
        intro K w v hr
        obtain ⟨vs, he, hl, hone, hrep⟩ := hr.agg_inv
        have hlt : off < vs.size := by rw [hl]; exact (List.getElem?_eq_some_iff.1 hc).1
        exact ⟨vs, vs[off], he, Array.getElem?_eq_getElem hlt, hrep off c _ hc (Array.getElem?_eq_getElem hlt)⟩
      obtain ⟨_, _, _, _, hf0⟩ := key K0 w0 _ (hx ▸ hr0 x hmx)
      refine ⟨_, h hf0.fact, yields_same fun K w σ hk hh hr => ?_⟩
      obtain ⟨vs, u, he, hu', hrep⟩ := key K w _ (hx ▸ hr x hmx)
      refine ⟨u, ?_, hrep⟩
      simp only [execOp, ho, he, Sem.run_bind, Instr.field, run_underlying hu, Result.andThen_ok, hfl, asAgg, Sem.run_pure, part, g1, Bool.false_eq_true, if_false, hof, hu']
    · exact h.elim
  · exact h.elim
end
end Go.Aw
