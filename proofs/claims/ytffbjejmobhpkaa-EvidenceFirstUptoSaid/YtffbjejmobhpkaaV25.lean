/- A part of the proof of what the last text says: Er7, Ewl, Ewx, Ewm, Eq2, Er8. Conditions: those in each theorem. -/
import Derived.Test.YtffbjejmobhpkaaV24
set_option linter.unusedVariables false
set_option linter.unusedSimpArgs false
set_option maxRecDepth 100000
set_option maxHeartbeats 16000000
open Nat renaming reduceSub → qa,reduceAdd → qb,reduceMul → qc,reduceEqDiff → qd,reduceLeDiff → qe,reduceBEq → qf
section
namespace Go.Proofs.Ytffbjejmobhpkaa
open Go Go.Aw
def rAtt (b : Bk) (x : Id3) (t : Int) : Bool × Bool := ((rRis b x).2 && decide ((rRis b x).1.b ≤ t),(rRis b x).2 && decide ((rRis b x).1.a ≤ t))
theorem f_rAtt {b : Bk} (hb : SmallR b) {x : Id3} {t : Int} {H : AH} {R : D → AH → Prop} (h : R (.tup [.bool (rAtt b x t).1,.bool (rAtt b x t).2]) H) : ACall Try.prog 16 [.agg b.d,.agg x.d,.int .i64 t] H R := by
  refine b16 fun hf => ?_
  have hbd : b.d = [.slc (mapD En.d b.en),.slc (mapD Sn.d b.sn),.slc (mapD Sr.d b.sr),.slc (mapD Qt.d b.qt),.slc (mapD Spl.d b.sl),.slc (mapD Mg.d b.mg),.slc (mapD Ch.d b.ch)] := rfl
  have hxd : x.d = [.int .i64 x.o,.int .i64 x.s,.int .i64 x.i] := rfl
  simp +contextual only [x16,mapD_len,hbd,hxd,↓U16,↓XP,↓XU,XW0,XW1,qa,qb,qc,qd,qe,qf,reduceCtorEq,TYX]
  rintro b3 h3 b4 ⟨n34,h4⟩
  refine f_rRise hb (x := x) ?_
  have ha : rAtt b x t = ((rRis b x).2 && decide ((rRis b x).1.b ≤ t),(rRis b x).2 && decide ((rRis b x).1.a ≤ t)) := rfl
  rw [ha] at h
  generalize rRis b x = rr at h
  obtain ⟨⟨u,w⟩,v⟩ := rr
  have hsd : ∀ v,spB (⟨u,w⟩,v) = .tup [.agg [.int .i64 u,.int .i64 w],.bool v] := fun _ => rfl
  cases v <;> simp +contextual only [x16,mapD_len,hbd,hxd,hsd,h_miss,h_skip,n34,↓U16,↓XP,↓XU,XW0,XW1,qa,qb,qc,qd,qe,qf,reduceCtorEq,TYX]
  · intros; exact h
  · intros; exact h
def rFsS (b : Bk) (t : Int) (a : List Id3) (q : Qt) : List Id3 := if (spQ b q).a ≤ t then insI q.id a else a
def rFst (b : Bk) (x : Id3) : List Id3 := (rEvd b x).foldl (rFsS b (rRis b x).1.b) []
theorem rFsS_len {b : Bk} {t : Int} {a : List Id3} {q : Qt} : (rFsS b t a q).length ≤ a.length + 1 := by
  unfold rFsS
  split
  · exact insI_len
  · omega
structure FsLp where
  i : Nat
  a : List Id3
theorem f_rFst {b : Bk} (hb : SmallR b) {x : Id3} {H : AH} {R : D → AH → Prop} (h : R (.tup [.agg (rRis b x).1.d,.slc (mapD Id3.d (rFst b x)),.bool (rRis b x).2]) H) : ACall Try.prog 12 [.agg b.d,.agg x.d] H R := by
  refine b12 fun hf => ?_
  have hbig := big_eq
  have hqt := hb.qt
  have hbd : b.d = [.slc (mapD En.d b.en),.slc (mapD Sn.d b.sn),.slc (mapD Sr.d b.sr),.slc (mapD Qt.d b.qt),.slc (mapD Spl.d b.sl),.slc (mapD Mg.d b.mg),.slc (mapD Ch.d b.ch)] := rfl
  have hxd : x.d = [.int .i64 x.o,.int .i64 x.s,.int .i64 x.i] := rfl
  simp +contextual only [x12,mapD_len,hbd,hxd,↓U12,↓XP,↓XU,XW0,XW1,qa,qb,qc,qd,qe,qf,reduceCtorEq,TYX]
  rintro b2 h2 b3 ⟨n23,h3⟩ b4 ⟨n34,n24,h4⟩
  refine f_rEvd hb (x := x) ?_
  have hrf : rFst b x = (rEvd b x).foldl (rFsS b (rRis b x).1.b) [] := rfl
  have hll : (rEvd b x).length ≤ 65536 := Nat.le_trans (List.length_filter_le _ _) hqt
  rw [hrf] at h
  generalize rEvd b x = l at h hll
  simp +contextual only [x12,mapD_len,hbd,hxd,h_miss,h_skip,n23,n34,n24,↓U12,↓XP,↓XU,XW0,XW1,qa,qb,qc,qd,qe,qf,reduceCtorEq,TYX]
  intros
  refine f_rRise hb (x := x) ?_
  generalize rRis b x = rr at h
  obtain ⟨⟨u,w⟩,v⟩ := rr
  have hsd : ∀ u w v,spB (⟨u,w⟩,v) = .tup [.agg [.int .i64 u,.int .i64 w],.bool v] := fun _ _ _ => rfl
  simp +contextual only [x12,mapD_len,hbd,hxd,hsd,h_miss,h_skip,n23,n34,n24,↓U12,↓XP,↓XU,XW0,XW1,qa,qb,qc,qd,qe,qf,reduceCtorEq,TYX]
  intros
  rename_i b8 qb8
  obtain ⟨n48,n38,n28,h8⟩ := qb8
  refine gh_intro (Fz.view (s := 10) (xs := []) rfl) ?_
  simp +contextual only [x12,mapD_len,hbd,hxd,h_miss,h_skip,n23,n34,n24,n48,n38,n28,↓U12,↓XP,↓XU,XW0,XW1,qa,qb,qc,qd,qe,qf,reduceCtorEq,TYX]
  simp only [← hbd,← hxd]
  refine XW.loopS Go.Proofs.Ytffbjejmobhpkaa.hm 54 (fun s : FsLp => [(2,.ptr b2 0),(3,.ptr b3 0),(4,.ptr b4 0),(7,.slc (mapD Qt.d l)),(8,.ptr b8 0),(9,.bool v),(10,.slc (mapD Id3.d s.a)),(11,.int .i64 ((s.i : Nat) : Int))]) (fun s => (b8,AO.cells [.int .i64 u,.int .i64 w]) :: (b4,AO.cells [.int .i64 0,.int .i64 0]) :: (b3,AO.cells x.d) :: (b2,.cells b.d) :: H) (fun s => l.length - s.i) (fun s => s.i ≤ l.length ∧ (l.take s.i).foldl (rFsS b w) [] = s.a ∧ s.a.length ≤ s.i) ⟨0,[]⟩ ⟨by simp,rfl,by simp⟩ ⟨rfl,rfl,rfl,rfl,rfl,rfl,rfl,rfl,rfl,trivial⟩ rfl ?_
  rintro ⟨i,a⟩ z ⟨hi,hst,hal⟩ K hN hE hR
  dsimp only at hi hst hal
  show xcode _ _ [z 0,z 1,.ptr b2 0,.ptr b3 0,.ptr b4 0,z 5,z 6,.slc (mapD Qt.d l),.ptr b8 0,.bool v,.slc (mapD Id3.d a),.int .i64 ((i : Nat) : Int),z 12,z 13,z 14,z 15,z 16,z 17,z 18,z 19,z 20,z 21,z 22,z 23,z 24,z 25,z 26,z 27,z 28,z 29,z 30,z 31,z 32,z 33,z 34,z 35,z 36,z 37,z 38,z 39,z 40,z 41,z 42,z 43,z 44,z 45,z 46,z 47,z 48,z 49,z 50,z 51,z 52,z 53] _ K
  by_cases hlt : i < l.length
  · have g := mapD_get (f := Qt.d) hlt
    have hlt' : ((i : Int) < (l.length : Int)) = True := eq_true (by omega)
    have hstep := foldl_takeR (f := rFsS b w) (b := []) hlt
    rw [hst] at hstep
    generalize l.getD i default = q at g hstep
    have hqd : q.d = [.int .i64 q.id.o,.int .i64 q.id.s,.int .i64 q.id.i,.int .i64 q.sense.o,.int .i64 q.sense.s,.int .i64 q.sense.i,.int .i64 q.source.o,.int .i64 q.source.s,.int .i64 q.source.i,.int .i64 q.page,.str q.text] := rfl
    have hrl := rFsS_len (b := b) (t := w) (a := a) (q := q)
    have hfs : rFsS b w a q = if (rDt b q.source).1.a ≤ w then insI q.id a else a := rfl
    simp +contextual only [x12,mapD_len,hbd,hxd,g,hqd,hlt',h_miss,h_skip,n23,n34,n24,n48,n38,n28,↓U12,↓XP,↓XU,XW0,XW1,qa,qb,qc,qd,qe,qf,reduceCtorEq,TYX]
    intros
    refine ⟨_,fun _ _ => f_rDate hb (x := q.source) ⟨rfl,rfl⟩,?_⟩
    generalize rDt b q.source = rd at hfs
    obtain ⟨⟨u2,w2⟩,v2⟩ := rd
    dsimp only at hfs
    rcases Classical.em (u2 ≤ w) with c1 | c1
    · rw [if_pos c1] at hfs
      rw [hfs] at hstep hrl
      simp +contextual only [x12,mapD_len,hbd,hxd,hsd,g,hqd,hlt',eq_true c1,h_miss,h_skip,n23,n34,n24,n48,n38,n28,↓U12,↓XP,↓XU,XW0,XW1,qa,qb,qc,qd,qe,qf,reduceCtorEq,TYX]
      refine ⟨by omega,?_⟩
      rintro b12 ⟨n812,n412,n312,n212,h12⟩
      try simp +contextual only [x12,mapD_len,hbd,hxd,hsd,g,hqd,hlt',eq_true c1,h_miss,h_skip,n23,n34,n24,n48,n38,n28,n812,n412,n312,n212,↓U12,↓XP,↓XU,XW0,XW1,qa,qb,qc,qd,qe,qf,reduceCtorEq,TYX]
      intros
      refine f_insert (x := q.id) (l := a) (by omega) ?_
      simp +contextual only [x12,mapD_len,hbd,hxd,h_miss,h_skip,n23,n34,n24,n48,n38,n28,n812,n412,n312,n212,wrap_succ (show i ≤ big by omega),↓U12,↓XP,↓XU,XW0,XW1,qa,qb,qc,qd,qe,qf,reduceCtorEq,TYX]
      simp only [← hbd,← hxd]
      intros
      exact hN ⟨i + 1,insI q.id a⟩ _ _ ⟨hlt,hstep,by dsimp only; omega⟩ (by dsimp only; omega) ⟨rfl,rfl,rfl,rfl,rfl,rfl,rfl,rfl,rfl,trivial⟩ (back_1 rfl)
    · rw [if_neg c1] at hfs
      rw [hfs] at hstep hrl
      simp +contextual only [x12,mapD_len,hbd,hxd,hsd,g,hqd,hlt',eq_false c1,h_miss,h_skip,n23,n34,n24,n48,n38,n28,↓U12,↓XP,↓XU,XW0,XW1,qa,qb,qc,qd,qe,qf,reduceCtorEq,TYX]
      refine ⟨by omega,?_⟩
      rintro b12 ⟨n812,n412,n312,n212,h12⟩
      try simp +contextual only [x12,mapD_len,hbd,hxd,hsd,g,hqd,hlt',eq_false c1,h_miss,h_skip,n23,n34,n24,n48,n38,n28,n812,n412,n312,n212,wrap_succ (show i ≤ big by omega),↓U12,↓XP,↓XU,XW0,XW1,qa,qb,qc,qd,qe,qf,reduceCtorEq,TYX]
      simp only [← hbd,← hxd]
      intros
      exact hN ⟨i + 1,a⟩ _ _ ⟨hlt,hstep,by dsimp only; omega⟩ (by dsimp only; omega) ⟨rfl,rfl,rfl,rfl,rfl,rfl,rfl,rfl,rfl,trivial⟩ (back_1 rfl)
  · have hik : i = l.length := by omega
    subst hik
    rw [List.take_length] at hst
    dsimp only at h
    rw [hst] at h
    simp +contextual only [x12,mapD_len,hbd,hxd,h_miss,h_skip,n23,n34,n24,n48,n38,n28,↓U12,↓XP,↓XU,XW0,XW1,qa,qb,qc,qd,qe,qf,reduceCtorEq,TYX]
    intros
    refine hE _ _ _ ?_
    simp +contextual only [x12,mapD_len,hbd,hxd,h_miss,h_skip,n23,n34,n24,n48,n38,n28,↓U12,↓XP,↓XU,XW0,XW1,qa,qb,qc,qd,qe,qf,reduceCtorEq,TYX]
    intros
    exact h
end Go.Proofs.Ytffbjejmobhpkaa
end
section
namespace Go.Proofs.Ytffbjejmobhpkaa
open Go Go.Aw
def senP (b : Bk) (x : Id3) : Sp × Bool := riseP ((lookP (evM b) x).getD [])
theorem opt_dt {o : Option (List Dt)} : (optD false (.osl 0 0 []) (Option.map dtD o)).wkT.view = .slc (mapD Dt.d (o.getD [])) := by cases o <;> rfl
def attP (b : Bk) (x : Id3) (t : Int) : Bool × Bool := ((senP b x).2 && decide ((senP b x).1.b ≤ t),(senP b x).2 && decide ((senP b x).1.a ≤ t))
def befP (b : Bk) (x y : Id3) : Bool := (senP b x).2 && (senP b y).2 && decide ((senP b x).1.b < (senP b y).1.a)
theorem f_attested {b : Bk} (hb : Small b) (hx : IxOk (ixP b)) {x : Id3} {t : Int} {H : AH} {R : D → AH → Prop} (h : R (.tup [.bool (attP b x t).1,.bool (attP b x t).2]) H) : ACall Try.prog 15 [.agg b.d,.agg x.d,.int .i64 t] H R := by
  refine b15 fun hf => ?_
  have hbig := big_eq
  have hbd : b.d = [.slc (mapD En.d b.en),.slc (mapD Sn.d b.sn),.slc (mapD Sr.d b.sr),.slc (mapD Qt.d b.qt),.slc (mapD Spl.d b.sl),.slc (mapD Mg.d b.mg),.slc (mapD Ch.d b.ch)] := rfl
  have hxd : x.d = [.int .i64 x.o,.int .i64 x.s,.int .i64 x.i] := rfl
  simp +contextual only [x15,mapD_len,hbd,hxd,↓U15,↓XP,↓XU,XW0,XW1,qa,qb,qc,qd,qe,qf,reduceCtorEq,TYX]
  rintro b3 h3 b4 ⟨n34,h4⟩
  refine ⟨_,fun _ _ => f_evidence hb hx (b := b) ⟨rfl,rfl⟩,?_⟩
  simp +contextual only [x15,mapD_len,hbd,hxd,keys_id (x := x),look_id (x := x),opt_dt,h_miss,h_skip,n34,↓U15,↓XP,↓XU,XW0,XW1,qa,qb,qc,qd,qe,qf,reduceCtorEq,TYX]
  intro _
  refine ⟨_,fun _ _ => f_rise ⟨rfl,rfl⟩,?_⟩
  have hsg : riseP ((lookP (evM b) x).getD []) = senP b x := rfl
  rw [hsg]
  have ha : attP b x t = ((senP b x).2 && decide ((senP b x).1.b ≤ t),(senP b x).2 && decide ((senP b x).1.a ≤ t)) := rfl
  rw [ha] at h
  generalize senP b x = sb at h ⊢
  obtain ⟨⟨sa,sc⟩,si⟩ := sb
  have hsd : ∀ v,spB (⟨sa,sc⟩,v) = .tup [.agg [.int .i64 sa,.int .i64 sc],.bool v] := fun _ => rfl
  cases si <;> simp +contextual only [x15,mapD_len,hbd,hxd,hsd,h_miss,h_skip,n34,↓U15,↓XP,↓XU,XW0,XW1,qa,qb,qc,qd,qe,qf,reduceCtorEq,TYX]
  · exact ⟨by omega,fun _ _ => h⟩
  · exact ⟨by omega,fun _ _ _ _ => h⟩
theorem f_before {b : Bk} (hb : Small b) (hx : IxOk (ixP b)) {x y : Id3} {H : AH} {R : D → AH → Prop} (h : R (.bool (befP b x y)) H) : ACall Try.prog 19 [.agg b.d,.agg x.d,.agg y.d] H R := by
  refine b19 fun hf => ?_
  have hbig := big_eq
  have hbd : b.d = [.slc (mapD En.d b.en),.slc (mapD Sn.d b.sn),.slc (mapD Sr.d b.sr),.slc (mapD Qt.d b.qt),.slc (mapD Spl.d b.sl),.slc (mapD Mg.d b.mg),.slc (mapD Ch.d b.ch)] := rfl
  have hxd : x.d = [.int .i64 x.o,.int .i64 x.s,.int .i64 x.i] := rfl
  have hyd : y.d = [.int .i64 y.o,.int .i64 y.s,.int .i64 y.i] := rfl
  simp +contextual only [x19,mapD_len,hbd,hxd,hyd,↓U19,↓XP,↓XU,XW0,XW1,qa,qb,qc,qd,qe,qf,reduceCtorEq,TYX]
  rintro b3 h3 b4 ⟨n34,h4⟩ b5 ⟨n45,n35,h5⟩
  refine f_evidence hb hx (b := b) ?_
  simp +contextual only [x19,mapD_len,hbd,hxd,hyd,keys_id (x := x),look_id (x := x),opt_dt,h_miss,h_skip,n34,n45,n35,↓U19,↓XP,↓XU,XW0,XW1,qa,qb,qc,qd,qe,qf,reduceCtorEq,TYX]
  intro _
  refine f_rise ?_
  have hsg : riseP ((lookP (evM b) x).getD []) = senP b x := rfl
  rw [hsg]
  have hbf : befP b x y = ((senP b x).2 && (senP b y).2 && decide ((senP b x).1.b < (senP b y).1.a)) := rfl
  rw [hbf] at h
  generalize senP b x = sb at h ⊢
  obtain ⟨⟨sa,sc⟩,si⟩ := sb
  have hsd : ∀ u w v,spB (⟨u,w⟩,v) = .tup [.agg [.int .i64 u,.int .i64 w],.bool v] := fun _ _ _ => rfl
  simp +contextual only [x19,mapD_len,hbd,hxd,hyd,hsd,keys_id (x := y),look_id (x := y),opt_dt,h_miss,h_skip,n34,n45,n35,↓U19,↓XP,↓XU,XW0,XW1,qa,qb,qc,qd,qe,qf,reduceCtorEq,TYX]
  rintro b8 ⟨n58,n48,n38,h8⟩ _
  refine f_rise ?_
  have hsh : riseP ((lookP (evM b) y).getD []) = senP b y := rfl
  rw [hsh]
  generalize senP b y = sb at h ⊢
  obtain ⟨⟨ta,tc⟩,ti⟩ := sb
  cases si <;> cases ti <;> simp +contextual only [x19,mapD_len,hbd,hxd,hyd,hsd,h_miss,h_skip,n34,n45,n35,n58,n48,n38,↓U19,↓XP,↓XU,XW0,XW1,qa,qb,qc,qd,qe,qf,reduceCtorEq,TYX]
  · exact fun _ _ => h
  · exact fun _ _ => h
  · exact fun _ _ => h
  · exact fun _ _ _ _ => h
end Go.Proofs.Ytffbjejmobhpkaa
end
section
namespace Go.Proofs.Ytffbjejmobhpkaa
open Go Go.Aw
theorem erase_keep {b c : Nat} {o : AO} (hne : c ≠ b) : ∀ {H : AH},(c,o) ∈ H → (c,o) ∈ eraseH H b
  | (c',o') :: r,h => by
    unfold eraseH
    split
    · rename_i e
      rcases List.mem_cons.1 h with h | h
      · injection h with h1 _
        exact absurd (h1.trans e.symm) hne
      · exact h
    · rcases List.mem_cons.1 h with h | h
      · rw [h]; exact .head _
      · exact .tail _ (erase_keep hne h)
theorem ACall.box {P : Program} {g : FuncId} {args : List D} {H : AH} {b : Nat} {o o' : AO} {d : D} (hg : getH H b = some o) (h : ACall P g args ((b,o) :: eraseH H b) (fun d' H' => d' = d ∧ H' = (b,o') :: eraseH H b)) :
    ACall P g args H (fun d' H' => d' = d ∧ H' = setH H b o') := by
  refine ⟨h.1,fun K w vs h1 h2 h3 h4 h5 => ?_⟩
  have hr : HRel K w ((b,o) :: eraseH H b) := by
    refine ⟨?_,fun c x hm => ?_⟩
    · simp only [List.map_cons,List.nodup_cons]
      refine ⟨fun hm => ?_,((erase_sub (b := b)).map _).nodup h3.nd⟩
      obtain ⟨⟨c,x⟩,hx,e⟩ := List.mem_map.1 hm
      exact erase_ne h3.nd hx e
    · rcases List.mem_cons.1 hm with hm | hm
      · injection hm with e1 e2
        subst e1 e2
        exact h3.ok _ _ (getH_mem hg)
      · exact h3.ok _ _ (erase_sub.subset hm)
  refine (h.2 K w vs h1 h2 hr h4 h5).mono fun e w' ⟨v,d',H',K',g1,⟨g2,g3⟩,g4,g5,g6,g7⟩ => ⟨v,d',_,K',g1,⟨g2,rfl⟩,g4,g5,?_,g7⟩
  subst g3
  refine ⟨by rw [keys_set]; exact h3.nd,fun c x hm => ?_⟩
  rcases mem_set h3.nd hm with ⟨e1,e2⟩ | ⟨e1,e2⟩
  · subst e1 e2
    exact g6.ok _ _ (.head _)
  · exact g6.ok _ _ (.tail _ (erase_keep e1 e2))
theorem f_compactV {l : List Id3} {b n : Nat} {rest : List D} {H : AH} {R : D → AH → Prop} (hn : l.length = n) (h0 : 0 < n) (hb : n ≤ 1073741824) (h : R (.hsl b (dd l).length) ((b,.cells (row (dd l ++ List.replicate (n - (dd l).length) id0) rest)) :: H)) : ACall Try.prog 36 [.hsl b n] ((b,.cells (row l rest)) :: H) R := by
  refine b36v fun hf => ?_
  have hbig := big_eq
  have hk : ∀ m : List Id3,∀ k : Nat,k ≤ n → m.length = n → dd l = m.take k → m = m.take k ++ List.replicate (n - k) id0 → R (.hsl b k) ((b,.cells (row m rest)) :: H) := fun m k hkn hm e1 e2 => by
    have e3 : (dd l).length = k := by rw [e1,List.length_take]; omega
    rw [e3,e1,← e2] at h
    exact h
  by_cases h2 : n < 2
  · have h2' : ((n : Int) < 2) = True := eq_true (by omega)
    simp +contextual only [x36v,h2',↓U36v,↓XP,↓XU,XW0,XW1,qa,qb,qc,qd,qe,qf,reduceCtorEq,TYX]
    intros
    refine hk _ _ (Nat.le_refl _) hn ?_ ?_
    · rw [← hn,List.take_length]
      match l,hn with
      | [x],_ => rfl
      | [],hn => simp at hn; omega
      | x :: y :: r,hn => simp at hn; omega
    · rw [← hn,List.take_length,Nat.sub_self]; simp
  · have h2' : ((n : Int) < 2) = False := eq_false (by omega)
    simp +contextual only [x36v,h2',↓U36v,↓XP,↓XU,XW0,XW1,qa,qb,qc,qd,qe,qf,reduceCtorEq,TYX]
    have hd0 : l.take 1 ++ dd.go (l.getD 0 default) (l.drop 1) = dd l := by
      cases l with
      | nil => simp at hn; omega
      | cons x r => rfl
    refine XW.loopS Go.Proofs.Ytffbjejmobhpkaa.hm 61 (fun j : Nat => [(0,.hsl b n),(3,.int .i64 ((j + 1 : Nat) : Int))]) (fun j => (b,AO.cells (row l rest)) :: H) (fun j => n - j) (fun j => j + 1 ≤ n ∧ l.take (j + 1) ++ dd.go (l.getD j default) (l.drop (j + 1)) = dd l) 0 ⟨by omega,hd0⟩ ⟨rfl,rfl,rfl,trivial⟩ rfl ?_
    rintro j z ⟨hj,hd⟩ K hN hE hR
    show xcode _ _ [.hsl b n,z 1,z 2,.int .i64 ((j + 1 : Nat) : Int),z 4,z 5,z 6,z 7,z 8,z 9,z 10,z 11,z 12,z 13,z 14,z 15,z 16,z 17,z 18,z 19,z 20,z 21,z 22,z 23,z 24,z 25,z 26,z 27,z 28,z 29,z 30,z 31,z 32,z 33,z 34,z 35,z 36,z 37,z 38,z 39,z 40,z 41,z 42,z 43,z 44,z 45,z 46,z 47,z 48,z 49,z 50,z 51,z 52,z 53,z 54,z 55,z 56,z 57,z 58,z 59,z 60] _ K
    by_cases hlt : j + 1 < n
    · have hlt' : (((j + 1 : Nat) : Int) < (n : Int)) = True := eq_true (by omega)
      have g1 := row_get (rest := rest) (l := l) (i := j + 1) (by omega)
      have g2 := row_get (rest := rest) (l := l) (i := j) (by omega)
      have hw : IntKind.i64.wrap (((j + 1 : Nat) : Int) - 1) = (j : Int) := by rw [wrap_id (by omega) (by omega)]; omega
      have hdr := drop_cons (l := l) (i := j + 1) (by omega)
      have htk := take_succ (l := l) (i := j + 1) (by omega)
      have hlen := row_len (l := l) (rest := rest)
      have hdr0 := hdr
      rw [hdr] at hd
      generalize hy : l.getD (j + 1) default = y at g1 hd htk hdr0
      generalize hx : l.getD j default = x at g2 hd
      have hyd : y.d = [.int .i64 y.o,.int .i64 y.s,.int .i64 y.i] := rfl
      have hxd : x.d = [.int .i64 x.o,.int .i64 x.s,.int .i64 x.i] := rfl
      have hid := id_dec (x := y) (y := x)
      rw [show dd.go x (y :: l.drop (j + 1 + 1)) = if y = x then dd.go x (l.drop (j + 1 + 1)) else y :: dd.go y (l.drop (j + 1 + 1)) from rfl] at hd
      by_cases hyx : y = x
      · rw [if_pos hyx] at hd
        simp +contextual only [x36v,hlt',hw,Int.toNat_natCast,g1,g2,hyd,hxd,hid,eq_true hyx,↓U36v,↓XP,↓XU,XW0,XW1,qa,qb,qc,qd,qe,qf,reduceCtorEq,TYX]
        refine ⟨by omega,by omega,by omega,by omega,by omega,?_⟩
        have hst : l.take (j + 1) ++ dd.go (l.getD (j + 1) default) (l.drop (j + 1 + 1)) = dd l := by rw [hy,hyx]; exact hd
        refine XW.loopS Go.Proofs.Ytffbjejmobhpkaa.hm 61 (fun s : Nat × Nat × List Id3 => [(0,.hsl b n),(3,.int .i64 ((s.2.1 : Nat) : Int)),(4,.hso b ((j + 1) * 3) (n - (j + 1))),(5,.int .i64 ((s.1 + 1 : Nat) : Int))]) (fun s => (b,AO.cells (row s.2.2 rest)) :: H) (fun s => n - s.1) (fun s => s.2.2.length = n ∧ j + 1 + (s.1 + 1) ≤ n ∧ j + 1 ≤ s.2.1 ∧ s.2.1 ≤ j + 1 + s.1 ∧ s.2.2.take s.2.1 ++ dd.go (l.getD (j + 1 + s.1) default) (l.drop (j + 1 + s.1 + 1)) = dd l ∧ s.2.2.drop (j + 1 + s.1) = l.drop (j + 1 + s.1)) (0,j + 1,l) ⟨hn,by dsimp only; omega,by dsimp only; omega,by dsimp only; omega,hst,rfl⟩ ⟨rfl,rfl,rfl,rfl,rfl,trivial⟩ rfl ?_
        clear hN hst hd g1 g2 hdr hdr0 htk
        rintro ⟨q,k,m⟩ z2 ⟨hm,hq,hk1,hk2,hd,hdm⟩ K2 hN hE2 hR2
        dsimp only at hm hq hk1 hk2 hd hdm hN
        show xcode _ _ ((List.range 61).map (frm [(0,.hsl b n),(3,.int .i64 ((k : Nat) : Int)),(4,.hso b ((j + 1) * 3) (n - (j + 1))),(5,.int .i64 ((q + 1 : Nat) : Int))] z2)) ((b,AO.cells (row m rest)) :: H) _
        generalize hz : z2 = z
        show xcode _ _ [.hsl b n,z 1,z 2,.int .i64 ((k : Nat) : Int),.hso b ((j + 1) * 3) (n - (j + 1)),.int .i64 ((q + 1 : Nat) : Int),z 6,z 7,z 8,z 9,z 10,z 11,z 12,z 13,z 14,z 15,z 16,z 17,z 18,z 19,z 20,z 21,z 22,z 23,z 24,z 25,z 26,z 27,z 28,z 29,z 30,z 31,z 32,z 33,z 34,z 35,z 36,z 37,z 38,z 39,z 40,z 41,z 42,z 43,z 44,z 45,z 46,z 47,z 48,z 49,z 50,z 51,z 52,z 53,z 54,z 55,z 56,z 57,z 58,z 59,z 60] _ K2
        have hlen := row_len (l := m) (rest := rest)
        by_cases hlt2 : j + 1 + (q + 1) < n
        · have hlt2' : (((q + 1 : Nat) : Int) < ((n - (j + 1) : Nat) : Int)) = True := eq_true (by omega)
          have g1 := row_get2 (rest := rest) (l := m) (i := j + 1) (j := q + 1) (by omega)
          have g2 := row_get2 (rest := rest) (l := m) (i := j + 1) (j := q) (by omega)
          have g3 : ((row m rest).drop ((j + 1) * 3 + (q + 1) * 3)).take 3 = (m.getD (j + 1 + (q + 1)) default).d := g1
          rw [getD_of_drop hdm (by omega)] at g1 g2
          have hw2 : IntKind.i64.wrap (((q + 1 : Nat) : Int) - 1) = (q : Int) := by rw [wrap_id (by omega) (by omega)]; omega
          have hdr := drop_cons (l := l) (i := j + 1 + q + 1) (by omega)
          rw [hdr] at hd
          have hdm2 : m.drop (j + 1 + (q + 1)) = l.drop (j + 1 + (q + 1)) := by
            have := congrArg (List.drop 1) hdm
            rw [List.drop_drop,List.drop_drop] at this
            exact this
          rw [show j + 1 + (q + 1) = j + 1 + q + 1 by omega] at g1
          generalize hy2 : l.getD (j + 1 + q + 1) default = y2 at g1 hd
          generalize l.getD (j + 1 + q) default = x2 at g2 hd
          have hyd2 : y2.d = [.int .i64 y2.o,.int .i64 y2.s,.int .i64 y2.i] := rfl
          have hxd2 : x2.d = [.int .i64 x2.o,.int .i64 x2.s,.int .i64 x2.i] := rfl
          have hid2 := id_dec (x := y2) (y := x2)
          rw [show dd.go x2 (y2 :: l.drop (j + 1 + q + 1 + 1)) = if y2 = x2 then dd.go x2 (l.drop (j + 1 + q + 1 + 1)) else y2 :: dd.go y2 (l.drop (j + 1 + q + 1 + 1)) from rfl] at hd
          by_cases hyx2 : y2 = x2
          · rw [if_pos hyx2] at hd
            simp +contextual only [x36v,hlt2',hw2,Int.toNat_natCast,g1,g2,hyd2,hxd2,hid2,eq_true hyx2,wrap_succ (show q + 1 ≤ big by omega),↓U36v,↓XP,↓XU,XW0,XW1,qa,qb,qc,qd,qe,qf,reduceCtorEq,TYX]
            repeat' (first | apply And.intro | intro _)
            all_goals first
              | omega
              | skip
            refine hN (q + 1,k,m) _ _ ⟨hm,by dsimp only; omega,hk1,by dsimp only; omega,?_,hdm2⟩ (by dsimp only; omega) ⟨rfl,rfl,rfl,rfl,rfl,trivial⟩ (back_0 rfl)
            have hd' : m.take k ++ dd.go (l.getD (j + 1 + q + 1) default) (l.drop (j + 1 + q + 1 + 1)) = dd l := by rw [hy2,hyx2]; exact hd
            exact hd'
          · rw [if_neg hyx2] at hd
            have hrs : (row m rest).take (k * 3) ++ .int .i64 y2.o :: .int .i64 y2.s :: .int .i64 y2.i :: (row m rest).drop (k * 3 + 3) = row (m.set k y2) rest := row_set (rest := rest) (l := m) (i := k) (y := y2) (by omega)
            simp +contextual only [x36v,hlt2',hw2,Int.toNat_natCast,g1,g2,hyd2,hxd2,hid2,eq_false hyx2,hrs,wrap_succ (show q + 1 ≤ big by omega),wrap_succ (show k ≤ big by omega),↓U36v,↓XP,↓XU,XW0,XW1,qa,qb,qc,qd,qe,qf,reduceCtorEq,TYX]
            repeat' (first | apply And.intro | intro _)
            all_goals first
              | omega
              | skip
            have hd' : (m.set k y2).take (k + 1) ++ dd.go (l.getD (j + 1 + q + 1) default) (l.drop (j + 1 + q + 1 + 1)) = dd l := by
              rw [take_succ (by rw [List.length_set]; omega),List.take_set_of_le (by omega),hy2,List.append_assoc]
              have e : (m.set k y2).getD k default = y2 := by simp [show k < m.length by omega]
              rw [e]
              exact hd
            refine hN (q + 1,k + 1,m.set k y2) _ _ ⟨by dsimp only; rw [List.length_set]; exact hm,by dsimp only; omega,by dsimp only; omega,by dsimp only; omega,hd',?_⟩ (by dsimp only; omega) ⟨rfl,rfl,rfl,rfl,rfl,trivial⟩ (back_0 rfl)
            dsimp only
            rw [List.drop_set_of_lt (by omega)]
            exact hdm2
        · have hqn : j + 1 + (q + 1) = n := by omega
          have hlt2' : (((q + 1 : Nat) : Int) < ((n - (j + 1) : Nat) : Int)) = False := eq_false (by omega)
          rw [show l.drop (j + 1 + q + 1) = [] from List.drop_of_length_le (by omega)] at hd
          rw [show dd.go (l.getD (j + 1 + q) default) [] = [] from rfl,List.append_nil] at hd
          have hcl := row_clear (rest := rest) (l := m) (i := k) (by omega)
          rw [hm] at hcl
          simp +contextual only [x36v,hlt2',↓U36v,↓XP,↓XU,XW0,XW1,qa,qb,qc,qd,qe,qf,reduceCtorEq,TYX]
          intros
          refine hE2 _ _ _ ?_
          simp +contextual only [x36v,Int.toNat_natCast,hcl,↓U36v,↓XP,↓XU,XW0,XW1,qa,qb,qc,qd,qe,qf,reduceCtorEq,TYX]
          refine ⟨by omega,by omega,by omega,?_⟩
          have htk2 : (m.take k ++ List.replicate (n - k) id0).take k = m.take k := by
            rw [List.take_append_of_le_length (by simp; omega),List.take_take,Nat.min_self]
          refine ⟨by omega,by omega,hR _ _ ?_⟩
          simp +contextual only [x36v,↓U36v,↓XP,↓XU,XW0,XW1,qa,qb,qc,qd,qe,qf,reduceCtorEq,TYX]
          refine hk _ _ (by omega) (by simp; omega) (by rw [htk2]; exact hd.symm) (by rw [htk2])
      · rw [if_neg hyx] at hd
        simp +contextual only [x36v,hlt',hw,Int.toNat_natCast,g1,g2,hyd,hxd,hid,eq_false hyx,wrap_succ (show j + 1 ≤ big by omega),↓U36v,↓XP,↓XU,XW0,XW1,qa,qb,qc,qd,qe,qf,reduceCtorEq,TYX]
        repeat' (first | apply And.intro | intro _)
        all_goals first
          | omega
          | skip
        refine hN (j + 1) _ _ ⟨by omega,?_⟩ (by omega) ⟨rfl,rfl,rfl,trivial⟩ (back_0 rfl)
        rw [htk,List.append_assoc,hy]
        exact hd
    · have hjn : j + 1 = n := by omega
      have hlt' : (((j + 1 : Nat) : Int) < (n : Int)) = False := eq_false (by omega)
      simp +contextual only [x36v,hlt',↓U36v,↓XP,↓XU,XW0,XW1,qa,qb,qc,qd,qe,qf,reduceCtorEq,TYX]
      intros
      refine hE _ _ _ ?_
      simp +contextual only [x36v,↓U36v,↓XP,↓XU,XW0,XW1,qa,qb,qc,qd,qe,qf,reduceCtorEq,TYX]
      refine hk _ _ (Nat.le_refl _) hn ?_ ?_
      · rw [← hd,List.take_of_length_le (by omega),List.drop_of_length_le (by omega),← hn,List.take_length]
        simp [dd.go]
      · rw [← hn,List.take_length,Nat.sub_self]; simp
end Go.Proofs.Ytffbjejmobhpkaa
end
section
namespace Go.Proofs.Ytffbjejmobhpkaa
open Go Go.Aw
theorem opt_dw {o : Option (List Dt)} : (optD false (.osl 0 0 []) (Option.map dtD o)).wkT = .slc (mapD Dt.d (o.getD [])) := by cases o <;> rfl
def senL (b : Bk) (x : Id3) : List Dt := (lookP (evM b) x).getD []
def firL (t : Int) (l : List Dt) : List Id3 := (l.filter fun q => decide (q.sp.a ≤ t)).map Dt.id
def firP (b : Bk) (x : Id3) : List Id3 := srt (firL (senP b x).1.b (senL b x))
theorem firL_take {t : Int} {l : List Dt} {i : Nat} (h : i < l.length) : firL t (l.take (i + 1)) = if (l.getD i default).sp.a ≤ t then firL t (l.take i) ++ [(l.getD i default).id] else firL t (l.take i) := by
  unfold firL
  rw [show l.take (i + 1) = l.take i ++ [l.getD i default] by
    rw [List.take_succ_eq_append_getElem h,List.getD_eq_getElem?_getD,List.getElem?_eq_getElem h]; rfl]
  rw [List.filter_append,List.map_append]
  by_cases hq : (l.getD i default).sp.a ≤ t
  · rw [if_pos hq,List.filter_cons_of_pos (by simpa using hq)]; rfl
  · rw [if_neg hq,List.filter_cons_of_neg (by simpa using hq)]; simp
theorem firL_len {t : Int} {l : List Dt} : (firL t l).length ≤ l.length := by unfold firL; rw [List.length_map]; exact List.length_filter_le _ _
theorem dl_s {l : List (List D)} {H : AH} : delB (.slc l) H = H := .trans rfl rfl
theorem set_self {b : Nat} {o : AO} : ∀ {H : AH},getH H b = some o → setH H b o = H
  | [],h => rfl
  | (c,x) :: r,h => by
    by_cases e : b = c
    · subst e
      rw [h_hit] at h
      injection h with h
      rw [h_set,h]
    · rw [h_miss e] at h
      rw [h_skip e,set_self h]
theorem row_app {a c : List Id3} {rest : List D} : row (a ++ c) rest = row a (row c rest) := by
  unfold row
  rw [show mapD Id3.d (a ++ c) = mapD Id3.d a ++ mapD Id3.d c by simp [mapD],List.flatten_append,List.append_assoc]
structure FoSt where
  i : Nat
  xs : List Id3
  b : Nat
  cap : Nat
  rest : List D
def outD (s : FoSt) : D := if s.xs = [] then .own [] else .hgs s.b s.xs.length s.cap
def outH (s : FoSt) : AH := if s.xs = [] then [] else [(s.b,.cells ((mapD Id3.d s.xs).flatten ++ s.rest))]
theorem id_flat {l : List Id3} : (mapD Id3.d l).flatten.length = l.length * 3 := by
  induction l with
  | nil => rfl
  | cons x l ih => simp only [mapD,List.map_cons,List.flatten_cons,List.length_append,List.length_cons] at ih ⊢; rw [ih]; simp only [Id3.d,List.length_cons,List.length_nil]; omega
theorem id_take {l : List Id3} {rest : List D} : ((mapD Id3.d l).flatten ++ rest).take (l.length * 3) = (mapD Id3.d l).flatten := by
  rw [← id_flat,List.take_left]
theorem id_plain {l : List Id3} : (mapD Id3.d l).flatten.all plain = true := by
  rw [List.all_eq_true]
  intro d hd
  obtain ⟨r,hr,hd⟩ := List.mem_flatten.1 hd
  obtain ⟨t,_,rfl⟩ := List.mem_map.1 hr
  simp only [Id3.d,List.mem_cons,List.not_mem_nil,or_false] at hd
  rcases hd with rfl | rfl | rfl <;> rfl
theorem f_first {b : Bk} (hb : Small b) (hx : IxOk (ixP b)) {x : Id3} (hn : (senL b x).length ≤ 1073741824) (hok : ∀ t ∈ senL b x,OkI t.id) {H : AH} {R : D → AH → Prop} (h : R (.tup [.agg (senP b x).1.d,.slc (mapD Id3.d (firP b x)),.bool (senP b x).2]) H) : ACall Try.prog 11 [.agg b.d,.agg x.d] H R := by
  refine b11 fun hf => ?_
  have hbig := big_eq
  have hbd : b.d = [.slc (mapD En.d b.en),.slc (mapD Sn.d b.sn),.slc (mapD Sr.d b.sr),.slc (mapD Qt.d b.qt),.slc (mapD Spl.d b.sl),.slc (mapD Mg.d b.mg),.slc (mapD Ch.d b.ch)] := rfl
  have hxd : x.d = [.int .i64 x.o,.int .i64 x.s,.int .i64 x.i] := rfl
  simp +contextual only [x11,mapD_len,hbd,hxd,↓U11,↓XP,↓XU,XW0,XW1,qa,qb,qc,qd,qe,qf,reduceCtorEq,TYX]
  rintro b2 h2 b3 ⟨n23,h3⟩ b4 ⟨n34,n24,h4⟩
  refine ⟨_,fun _ _ => f_evidence hb hx (b := b) ⟨rfl,rfl⟩,?_⟩
  simp +contextual only [x11,mapD_len,hbd,hxd,keys_id (x := x),look_id (x := x),opt_dw,h_miss,h_skip,n34,n23,n24,↓U11,↓XP,↓XU,XW0,XW1,qa,qb,qc,qd,qe,qf,reduceCtorEq,TYX]
  intro _
  refine f_rise ?_
  have hsg : riseP ((lookP (evM b) x).getD []) = senP b x := rfl
  have hsl : (lookP (evM b) x).getD [] = senL b x := rfl
  have hfp : firP b x = srt (firL (senP b x).1.b (senL b x)) := rfl
  rw [hfp] at h
  rw [hsg,hsl]
  generalize senP b x = sb at h ⊢
  generalize senL b x = l at h hn hok ⊢
  obtain ⟨⟨sa,sc⟩,si⟩ := sb
  have hsd : ∀ u w v,spB (⟨u,w⟩,v) = .tup [.agg [.int .i64 u,.int .i64 w],.bool v] := fun _ _ _ => rfl
  simp +contextual only [x11,mapD_len,hbd,hxd,hsd,h_miss,h_skip,n34,n23,n24,↓U11,↓XP,↓XU,XW0,XW1,qa,qb,qc,qd,qe,qf,reduceCtorEq,TYX]
  rintro b8 ⟨n48,n38,n28,h8⟩ hlb
  have hbx : freshH H b8 := h8
  refine XW.loopSR Go.Proofs.Ytffbjejmobhpkaa.hm 46 (fun s : FoSt => [(4,.ptr b4 0),(8,.ptr b8 0),(9,.bool si),(10,outD s),(22,.slc (mapD Dt.d l)),(23,.int .i64 l.length),(24,.int .i64 ((s.i : Nat) : Int))]) (fun s => outH s ++ ((b8,.cells [.int .i64 sa,.int .i64 sc]) :: (b4,.cells [.int .i64 0,.int .i64 0]) :: (b3,.cells [.int .i64 x.o,.int .i64 x.s,.int .i64 x.i]) :: (b2,.cells [.slc (mapD En.d b.en),.slc (mapD Sn.d b.sn),.slc (mapD Sr.d b.sr),.slc (mapD Qt.d b.qt),.slc (mapD Spl.d b.sl),.slc (mapD Mg.d b.mg),.slc (mapD Ch.d b.ch)]) :: H)) (fun s => l.length - s.i) (fun s => s.i ≤ l.length ∧ firL sc (l.take s.i) = s.xs ∧ (s.xs ≠ [] → s.b ≠ b8 ∧ s.b ≠ b4 ∧ s.b ≠ b3 ∧ s.b ≠ b2 ∧ freshH H s.b ∧ ((mapD Id3.d s.xs).flatten ++ s.rest).length = s.cap * 3)) ⟨0,[],0,0,[]⟩ ⟨by simp,rfl,fun e => absurd rfl e⟩ ⟨rfl,rfl,rfl,rfl,rfl,rfl,rfl,rfl,trivial⟩ rfl ?_
  rintro ⟨i,xs,ob,cap,rest⟩ z ⟨hi,hxs,hob⟩ K hN hE hR
  dsimp only at hi hxs hob
  have hle : xs.length ≤ i := by rw [← hxs]; exact Nat.le_trans firL_len (by rw [List.length_take]; omega)
  by_cases h0 : xs = []
  · subst h0
    show xcode _ _ [z 0,z 1,z 2,z 3,.ptr b4 0,z 5,z 6,z 7,.ptr b8 0,.bool si,.own [],z 11,z 12,z 13,z 14,z 15,z 16,z 17,z 18,z 19,z 20,z 21,.slc (mapD Dt.d l),.int .i64 l.length,.int .i64 ((i : Nat) : Int),z 25,z 26,z 27,z 28,z 29,z 30,z 31,z 32,z 33,z 34,z 35,z 36,z 37,z 38,z 39,z 40,z 41,z 42,z 43,z 44,z 45] _ K
    simp only [show outH ⟨i,[],ob,cap,rest⟩ = [] from rfl,List.nil_append]
    by_cases hlt : i < l.length
    · have g := mapD_get (f := Dt.d) hlt
      have hlt' : ((i : Int) < (l.length : Int)) = True := eq_true (by omega)
      have hst := firL_take (t := sc) hlt
      generalize l.getD i default = q at g hst
      have hqd : q.d = [.int .i64 q.id.o,.int .i64 q.id.s,.int .i64 q.id.i,.int .i64 q.sp.a,.int .i64 q.sp.b] := rfl
      by_cases hq : q.sp.a ≤ sc
      · rw [if_pos hq,hxs] at hst
        simp +contextual only [x11,mapD_len,hbd,hxd,g,hqd,hlt',eq_true hq,h_miss,h_skip,n48,n38,n28,n34,n23,n24,wrap_succ (show i ≤ big by omega),↓U11,↓XP,↓XU,XW0,XW1,qa,qb,qc,qd,qe,qf,reduceCtorEq,TYX]
        rintro b12 _ _ _ nb nc m ⟨_,m8,m4,m3,m2,mf⟩ hcap
        refine hN ⟨i + 1,[q.id],nb,nc,List.replicate m .any⟩ _ _ ⟨hlt,hst,fun _ => ⟨Ne.symm m8,Ne.symm m4,Ne.symm m3,Ne.symm m2,mf,by simp [mapD,Id3.d]; omega⟩⟩ (by dsimp only; omega) ⟨rfl,rfl,rfl,rfl,rfl,rfl,rfl,rfl,trivial⟩ (Sbn.sub ?_)
        exact (List.sublist_cons_self _ _).cons_cons _
      · rw [if_neg hq,hxs] at hst
        simp +contextual only [x11,mapD_len,hbd,hxd,g,hqd,hlt',eq_false hq,h_miss,h_skip,n48,n38,n28,n34,n23,n24,wrap_succ (show i ≤ big by omega),↓U11,↓XP,↓XU,XW0,XW1,qa,qb,qc,qd,qe,qf,reduceCtorEq,TYX]
        intros
        refine hN ⟨i + 1,[],ob,cap,rest⟩ _ _ ⟨hlt,hst,fun e => absurd rfl e⟩ (by dsimp only; omega) ⟨rfl,rfl,rfl,rfl,rfl,rfl,rfl,rfl,trivial⟩ (Sbn.sub ?_)
        exact List.sublist_cons_self _ _
    · have hin : i = l.length := by omega
      subst hin
      rw [List.take_length] at hxs
      rw [hxs] at h
      simp +contextual only [x11,mapD_len,hbd,hxd,↓U11,↓XP,↓XU,XW0,XW1,qa,qb,qc,qd,qe,qf,reduceCtorEq,TYX]
      intros
      refine hE _ _ _ ?_
      simp +contextual only [x11,mapD_len,hbd,hxd,↓U11,↓XP,↓XU,XW0,XW1,qa,qb,qc,qd,qe,qf,reduceCtorEq,TYX]
      refine gh_intro (Fz.view (s := 10) (xs := []) rfl) ?_
      simp +contextual only [x11,mapD_len,hbd,hxd,↓U11,↓XP,↓XU,XW0,XW1,qa,qb,qc,qd,qe,qf,reduceCtorEq,TYX]
      refine f_sort0 rfl ?_
      simp +contextual only [x11,mapD_len,hbd,hxd,h_miss,h_skip,n48,n38,n28,n34,n23,n24,Ne.symm n48,dl_s,e_hit,e_miss n48,e_miss (Ne.symm n48),↓U11,↓XP,↓XU,XW0,XW1,qa,qb,qc,qd,qe,qf,reduceCtorEq,TYX]
      refine ⟨.slc [],b4,.cells [.int .i64 0,.int .i64 0],.cells [.int .i64 0,.int .i64 0],?_,.inr (by simp),?_,fun H1 h1 => f_compact0 (l := []) (by simp) ⟨rfl,(set_self h1).symm⟩,?_⟩
      · rw [h_miss n48,h_miss (Ne.symm n34),h_miss (Ne.symm n24)]
        exact freshH_none h4
      · rw [h_miss n48]; exact h_hit
      rw [set_self (by rw [h_miss n48]; exact h_hit)]
      simp +contextual only [x11,mapD_len,hbd,hxd,h_miss,h_skip,n48,n38,n28,n34,n23,n24,Ne.symm n48,Ne.symm n34,Ne.symm n24,freshH_none h4,↓U11,↓XP,↓XU,XW0,XW1,qa,qb,qc,qd,qe,qf,reduceCtorEq,TYX]
      intros
      refine gh_intro Fz.refl ?_
      simp +contextual only [x11,mapD_len,hbd,hxd,h_miss,h_skip,n48,n38,n28,↓U11,↓XP,↓XU,XW0,XW1,qa,qb,qc,qd,qe,qf,reduceCtorEq,TYX]
      exact h
  · have hO : ∀ i,outD ⟨i,xs,ob,cap,rest⟩ = .hgs ob xs.length cap := fun _ => by unfold outD; rw [if_neg h0]
    have hH : ∀ i,outH ⟨i,xs,ob,cap,rest⟩ = [(ob,.cells ((mapD Id3.d xs).flatten ++ rest))] := fun _ => by unfold outH; rw [if_neg h0]
    obtain ⟨o8,o4,o3,o2,of_,ocap⟩ := hob h0
    simp only [hO,hH,List.cons_append,List.nil_append]
    show xcode _ _ [z 0,z 1,z 2,z 3,.ptr b4 0,z 5,z 6,z 7,.ptr b8 0,.bool si,.hgs ob xs.length cap,z 11,z 12,z 13,z 14,z 15,z 16,z 17,z 18,z 19,z 20,z 21,.slc (mapD Dt.d l),.int .i64 l.length,.int .i64 ((i : Nat) : Int),z 25,z 26,z 27,z 28,z 29,z 30,z 31,z 32,z 33,z 34,z 35,z 36,z 37,z 38,z 39,z 40,z 41,z 42,z 43,z 44,z 45] _ K
    by_cases hlt : i < l.length
    · have g := mapD_get (f := Dt.d) hlt
      have hlt' : ((i : Int) < (l.length : Int)) = True := eq_true (by omega)
      have hst := firL_take (t := sc) hlt
      generalize l.getD i default = q at g hst
      have hqd : q.d = [.int .i64 q.id.o,.int .i64 q.id.s,.int .i64 q.id.i,.int .i64 q.sp.a,.int .i64 q.sp.b] := rfl
      by_cases hq : q.sp.a ≤ sc
      · rw [if_pos hq,hxs] at hst
        simp +contextual only [x11,mapD_len,hbd,hxd,g,hqd,hlt',eq_true hq,h_miss,h_skip,n48,n38,n28,n34,n23,n24,o8,o4,Ne.symm o8,Ne.symm o4,wrap_succ (show i ≤ big by omega),↓U11,↓XP,↓XU,XW0,XW1,qa,qb,qc,qd,qe,qf,reduceCtorEq,TYX]
        rintro b12 ⟨oc,m8,m4,m3,m2,mf⟩ _ _
        refine ⟨ocap,by omega,by rw [id_take]; exact id_plain,fun nb nc m hnf hcap => ?_⟩
        simp only [e_miss oc,e_hit,id_take] at hnf ⊢
        obtain ⟨k12,k8,k4,k3,k2,kf⟩ : nb ≠ b12 ∧ nb ≠ b8 ∧ nb ≠ b4 ∧ nb ≠ b3 ∧ nb ≠ b2 ∧ freshH H nb := by
          simpa [freshH] using hnf
        have hne : xs ++ [q.id] ≠ [] := by simp
        refine hN ⟨i + 1,xs ++ [q.id],nb,nc,List.replicate m .any⟩ _ _ ⟨hlt,hst,fun _ => ⟨k8,k4,k3,k2,kf,by dsimp only; rw [List.length_append,id_flat,List.length_append,List.length_replicate]; simp only [List.length_cons,List.length_nil]; omega⟩⟩ (by dsimp only; omega) ?_ (Sbn.sub ?_)
        · rw [show outD ⟨i + 1,xs ++ [q.id],nb,nc,List.replicate m .any⟩ = .hgs nb (xs.length + 1) nc by unfold outD; rw [if_neg hne,List.length_append]; rfl]
          exact ⟨rfl,rfl,rfl,rfl,rfl,rfl,rfl,rfl,trivial⟩
        · rw [show outH ⟨i + 1,xs ++ [q.id],nb,nc,List.replicate m .any⟩ = [(nb,.cells ((mapD Id3.d xs).flatten ++ ([[D.int .i64 q.id.o,.int .i64 q.id.s,.int .i64 q.id.i]].flatten ++ List.replicate m .any)))] by unfold outH; rw [if_neg hne]; simp [mapD,Id3.d]]
          exact (List.sublist_cons_self _ _).cons_cons _
      · rw [if_neg hq,hxs] at hst
        simp +contextual only [x11,mapD_len,hbd,hxd,g,hqd,hlt',eq_false hq,h_miss,h_skip,n48,n38,n28,n34,n23,n24,o8,o4,Ne.symm o8,Ne.symm o4,wrap_succ (show i ≤ big by omega),↓U11,↓XP,↓XU,XW0,XW1,qa,qb,qc,qd,qe,qf,reduceCtorEq,TYX]
        intros
        refine hN ⟨i + 1,xs,ob,cap,rest⟩ _ _ ⟨hlt,hst,hob⟩ (by dsimp only; omega) (by rw [hO]; exact ⟨rfl,rfl,rfl,rfl,rfl,rfl,rfl,rfl,trivial⟩) (Sbn.sub ?_)
        rw [hH]
        exact List.sublist_cons_self _ _
    · have hin : i = l.length := by omega
      subst hin
      rw [List.take_length] at hxs
      rw [hxs] at h
      simp +contextual only [x11,mapD_len,hbd,hxd,↓U11,↓XP,↓XU,XW0,XW1,qa,qb,qc,qd,qe,qf,reduceCtorEq,TYX]
      intros
      refine hE _ _ _ ?_
      simp +contextual only [x11,mapD_len,hbd,hxd,↓U11,↓XP,↓XU,XW0,XW1,qa,qb,qc,qd,qe,qf,reduceCtorEq,TYX]
      refine gh_intro (Fz.hgs (s := 10) rfl) ?_
      simp +contextual only [x11,mapD_len,hbd,hxd,↓U11,↓XP,↓XU,XW0,XW1,qa,qb,qc,qd,qe,qf,reduceCtorEq,TYX]
      refine f_sort swo_ordI rfl (by kernel_rfl) (fun x y _ _ => f_order rfl) rfl (by rw [← hxs]; intro x hx; unfold firL at hx; obtain ⟨t,ht,rfl⟩ := List.mem_map.1 hx; exact hok t (List.mem_filter.1 ht).1) (by omega) (fun m2 hp hs => ?_)
      simp +contextual only [x11,mapD_len,hbd,hxd,h_miss,h_skip,n48,n38,n28,n34,n23,n24,o8,o4,Ne.symm o8,Ne.symm o4,Ne.symm n48,dl_s,e_hit,e_miss n48,e_miss (Ne.symm n48),e_miss o8,e_miss o4,e_miss (Ne.symm o8),e_miss (Ne.symm o4),↓U11,↓XP,↓XU,XW0,XW1,qa,qb,qc,qd,qe,qf,reduceCtorEq,TYX]
      have hml : m2.length = xs.length := by rw [hp.length_eq]
      have hpos : 0 < xs.length := List.length_pos_iff.2 h0
      refine ⟨.hsl ob (dd m2).length,ob,.cells (row m2 rest),.cells (row (dd m2 ++ List.replicate (xs.length - (dd m2).length) id0) rest),?_,.inr (by simp),h_hit,fun H1 h1 => ACall.box h1 (f_compactV hml hpos (by omega) ⟨rfl,rfl⟩),?_⟩
      · rw [h_miss o8,h_miss o3,h_miss o2]
        exact freshH_none of_
      rw [h_set]
      simp +contextual only [x11,mapD_len,hbd,hxd,h_miss,h_skip,n48,n38,n28,n34,n23,n24,Ne.symm n48,o8,o4,Ne.symm o8,Ne.symm o4,↓U11,↓XP,↓XU,XW0,XW1,qa,qb,qc,qd,qe,qf,reduceCtorEq,TYX]
      refine ⟨?_,?_⟩
      · rw [h_miss (Ne.symm n34),h_miss (Ne.symm n24)]
        exact freshH_none h4
      rw [row_app]
      refine gh_intro (fz_row (s := 5) rfl rfl) ?_
      simp +contextual only [x11,mapD_len,hbd,hxd,h_miss,h_skip,n48,n38,n28,↓U11,↓XP,↓XU,XW0,XW1,qa,qb,qc,qd,qe,qf,reduceCtorEq,TYX]
      rw [dd_srt hp (hs.imp fun {x y} hxy hlt => hxy (ordI_neg.2 hlt))]
      exact h
end Go.Proofs.Ytffbjejmobhpkaa
end
section
namespace Go.Proofs.Ytffbjejmobhpkaa
open Go Go.Aw
def dtQ (b : Bk) (q : Qt) : Dt := ⟨q.id,spQ b q⟩
theorem evX_eq {b : Bk} {x : Id3} {q : Qt} : evX b x q = if isEv b x q = true then some (dtQ b q) else none := by
  unfold evX evQ isEv dtQ spQ rDt
  rw [look_dates,res_eq]
  cases hd : rDat b.sr q.source with
  | none => simp
  | some s =>
    by_cases h1 : (rRes b id0 q.sense).2 = 0
    · by_cases h2 : (rRes b id0 q.sense).1 = x
      · simp [h1,h2]
      · simp [h1,h2]
    · simp [h1]
theorem filt_eq {b : Bk} {x : Id3} : ∀ {l : List Qt},l.filterMap (evX b x) = (l.filter (isEv b x)).map (dtQ b)
  | [] => rfl
  | q :: l => by
    rw [List.filterMap_cons,evX_eq]
    by_cases h : isEv b x q = true
    · rw [if_pos h,List.filter_cons_of_pos h,List.map_cons,filt_eq]
    · rw [if_neg h,List.filter_cons_of_neg h,filt_eq]
theorem senL_eq {b : Bk} {x : Id3} : senL b x = (rEvd b x).map (dtQ b) := by
  unfold senL
  rw [look_evM,filt_eq]
  rfl
theorem rise_fold {b : Bk} : ∀ {l : List Qt} {o : Sp},(l.map (dtQ b)).foldl rmin o = l.foldl (fun o q => rmnS o (spQ b q)) o
  | [],o => rfl
  | q :: l,o => by
    rw [List.map_cons,List.foldl_cons,List.foldl_cons,rise_fold]
    rfl
theorem rise_eq {b : Bk} {l : List Qt} : riseP (l.map (dtQ b)) = (risO b l,decide (0 < l.length)) := by
  cases l with
  | nil => rfl
  | cons q r =>
    rw [List.map_cons]
    show (((dtQ b q) :: r.map (dtQ b)).foldl rmin (dtQ b q).sp,true) = _
    rw [← List.map_cons,rise_fold]
    simp [risO,dtQ]
theorem senP_eq {b : Bk} {x : Id3} : senP b x = rRis b x := by
  have h : senP b x = riseP (senL b x) := rfl
  rw [h,senL_eq,rise_eq]
  rfl
theorem fir_fold {b : Bk} {t : Int} : ∀ {l : List Qt} {a : List Id3},(firL t (l.map (dtQ b))).foldl ins a = l.foldl (rFsS b t) a
  | [],a => rfl
  | q :: l,a => by
    rw [List.map_cons,List.foldl_cons]
    unfold firL rFsS
    by_cases h : (spQ b q).a ≤ t
    · rw [if_pos h,List.filter_cons_of_pos (p := fun q : Dt => decide (q.sp.a ≤ t)) (decide_eq_true h),List.map_cons,List.foldl_cons]
      exact fir_fold
    · rw [if_neg h,List.filter_cons_of_neg (p := fun q : Dt => decide (q.sp.a ≤ t)) (fun e => h (of_decide_eq_true e))]
      exact fir_fold
theorem fir_eq {b : Bk} {x : Id3} : firP b x = rFst b x := by
  have h : firP b x = (firL (senP b x).1.b (senL b x)).foldl ins [] := rfl
  rw [h,senL_eq,senP_eq,fir_fold]
  rfl
theorem att_eq {b : Bk} {x : Id3} {t : Int} : attP b x t = rAtt b x t := by unfold attP rAtt; rw [senP_eq]
end Go.Proofs.Ytffbjejmobhpkaa
end
section
namespace Go.Aw
open Go Go.RowKit
section
variable {F : List D} {H : AH} {k : List D → AH → Prop}
theorem Gz.give0 {bx j : Nat} {cs : List D} (hg : getH H bx = some (.cells cs)) (hj : cs[j]? = some (.own [])) (h : k F (setH H bx (.cells (cs.set j (.osl 0 0 []))))) : Gz F H k := by
  intro K w t hs
  refine ⟨F,_,K,h,.refl K w,hs.krel,⟨by rw [keys_set]; exact hs.hrel.nd,fun c' o' hm' => ?_⟩,hs.len,hs.slot⟩
  rcases mem_set hs.hrel.nd hm' with ⟨rfl,rfl⟩ | ⟨hne,hm'⟩
  · obtain ⟨hpb,c,T,hb,hcs,hrc⟩ := hs.hrel.ok c' _ (getH_mem hg)
    refine ⟨hpb,c,T,hb,by simpa using hcs,fun q d hd => ?_⟩
    rcases getElem?_set_some hd with ⟨rfl,rfl,_⟩ | ⟨_,hd⟩
    · obtain ⟨u,f1,f2,f3⟩ := hrc _ _ hj
      have f4 : OwnAt K w _ [] u := f3
      refine ⟨u,f1,f2,?_⟩
      rcases f4 with ⟨_,a,rfl⟩ | ⟨b,cap,sz,c2,T2,_,_,_,_,hp,_⟩
      · exact .oslnil 0 0 a
      · simp at hp
    · exact hrc q d hd
  · exact hs.hrel.ok c' o' hm'
theorem Gz.then (h : Gz F H fun F' H' => Gz F' H' k) : Gz F H k := h.bind fun _ _ h => h
theorem Gz.take0 {bx j : Nat} {cs : List D} (hj : cs[j]? = some (.osl 0 0 [])) (h : k F ((bx,.cells (cs.set j (.own []))) :: H)) : Gz F ((bx,.cells cs) :: H) k :=
  Gz.take hj (fun h => (h rfl).elim) (by simpa [dropR] using h)
end
end Go.Aw
namespace Go.Proofs.Ytffbjejmobhpkaa
open Go Go.Aw
def atZ (l : List Int) (i most : Int) : Int := atOf l i.toNat most
theorem atZ_range {l : List Int} {i most : Int} (h : 0 < most) : 0 ≤ atZ l i most ∧ atZ l i most < most := atOf_range h
theorem f_atZ {l : List Int} {i most : Int} {H : AH} {R : D → AH → Prop} (hi : 0 ≤ i) (hm : 0 < most) (h : R (.int .i64 (atZ l i most)) H) : ACall Try.prog 30 [.slc (mapD intD l),.int .i64 i,.int .i64 most] H R := by
  have := f_at (l := l) (i := i.toNat) (most := most) (H := H) (R := R) hm h
  rw [Int.toNat_of_nonneg hi] at this
  exact this
theorem f_IDz {i : Int} {H : AH} {R : D → AH → Prop} (hi : 0 ≤ i) (h : R (.agg (idR i.toNat).d) H) : ACall Try.prog 10 [.int .i64 i] H R := by
  have := f_ID (i := i.toNat) (H := H) (R := R) h
  rw [Int.toNat_of_nonneg hi] at this
  exact this
theorem okR {i : Nat} (h : i ≤ 1000000) : OkI (idR i) := by
  unfold OkI idR
  simp only [inR_i64]
  omega
theorem okz {a b c : Int} (h : 0 ≤ a ∧ a ≤ 1000000 ∧ 0 ≤ b ∧ b ≤ 1000000 ∧ 0 ≤ c ∧ c ≤ 1000000) : OkI ⟨a,b,c⟩ := by
  unfold OkI
  simp only [inR_i64]
  omega
structure Gen (b : Bk) : Prop where
  sn : b.sn.length ≤ 9
  sr : b.sr.length ≤ 4
  dt : ∀ s ∈ b.sr,s.date.length ≤ 2 ∧ ∀ v ∈ s.date,1 ≤ v.sp.a ∧ v.sp.a ≤ 1000 ∧ v.sp.b ≤ 1000
  qt : b.qt.length ≤ 11
  qi : ∀ q ∈ b.qt,OkI q.id
  sl : b.sl.length ≤ 3
  pl : ∀ s ∈ b.sl,s.parts ≠ [] ∧ s.parts.length ≤ 3 ∧ ∀ y ∈ s.parts,OkI y
  mg : b.mg.length ≤ 4
  mt : ∀ g ∈ b.mg,OkI g.to
  ch : b.ch.length ≤ 4
  cp : ∀ c ∈ b.ch,OkI c.part
theorem Gen.smallR {b : Bk} (h : Gen b) : SmallR b := by
  have h1 := h.sl
  have h2 := h.mg
  have h3 := h.ch
  have h4 := h.sn
  have h5 := h.sr
  have h6 := h.qt
  exact ⟨by omega,by omega,by omega,fun s hs => by have := (h.pl s hs).2.1; omega,by omega,by omega,by omega,fun s hs => by have := (h.dt s hs).1; omega⟩
theorem Gen.small {b : Bk} (h : Gen b) : Small b := by
  have h1 := h.sl
  have h2 := h.mg
  have h3 := h.ch
  have h6 := h.qt
  exact ⟨by omega,by omega,by omega,fun s hs => ⟨(h.pl s hs).1,by have := (h.pl s hs).2.1; omega⟩,by omega⟩
def EvG (m : List (Id3 × Ev)) (n : Nat) : Prop := ∀ p ∈ m,p.2.all.length ≤ n ∧ ∀ y ∈ p.2.all,OkI y
theorem EvG.at {m : List (Id3 × Ev)} {n : Nat} (h : EvG m n) {k : Id3} : ((lookP m k).getD ev0).all.length ≤ n ∧ ∀ y ∈ ((lookP m k).getD ev0).all,OkI y := by
  cases hl : lookP m k with
  | none => simp [ev0]
  | some e => exact h _ (look_mem hl)
theorem EvG.upd {m : List (Id3 × Ev)} {n n' : Nat} (h : EvG m n) {k : Id3} {e : Ev} (hn : n ≤ n') (he : e.all.length ≤ n' ∧ ∀ y ∈ e.all,OkI y) : EvG (updP m k e) n' := fun p hp => by
  rcases upd_mem hp with rfl | hp
  · exact he
  · exact ⟨Nat.le_trans (h p hp).1 hn,(h p hp).2⟩
theorem EvG.ofS : ∀ {l : List Spl} {m : List (Id3 × Ev)} {n : Nat},EvG m n → (∀ s ∈ l,s.parts.length ≤ 3 ∧ ∀ y ∈ s.parts,OkI y) → EvG (l.foldl ofS m) (n + 3 * l.length)
  | [],m,n,h,_ => h
  | s :: l,m,n,h,hl => by
    rw [List.foldl_cons,List.length_cons,show n + 3 * (l.length + 1) = n + 3 + 3 * l.length by omega]
    have hs := hl s (.head _)
    refine EvG.ofS (EvG.upd h (by omega) ⟨?_,fun y hy => ?_⟩) fun q hq => hl q (.tail _ hq)
    · rw [List.length_append]; have := (h.at (k := s.on)).1; omega
    · rcases List.mem_append.1 hy with hy | hy
      · exact (h.at).2 y hy
      · exact hs.2 y hy
theorem EvG.ofM : ∀ {l : List Mg} {m : List (Id3 × Ev)} {n : Nat},EvG m n → (∀ g ∈ l,OkI g.to) → EvG (l.foldl ofM m) (n + l.length)
  | [],m,n,h,_ => h
  | s :: l,m,n,h,hl => by
    rw [List.foldl_cons,List.length_cons,show n + (l.length + 1) = n + 1 + l.length by omega]
    refine EvG.ofM (EvG.upd h (by omega) ⟨?_,fun y hy => ?_⟩) fun q hq => hl q (.tail _ hq)
    · rw [List.length_append,List.length_singleton]; have := (h.at (k := s.on)).1; omega
    · rcases List.mem_append.1 hy with hy | hy
      · exact (h.at).2 y hy
      · rw [List.mem_singleton.1 hy]; exact hl s (.head _)
def ChG (m : List ((Id3 × Id3) × List Id3)) (n : Nat) : Prop := ∀ p ∈ m,p.2.length ≤ n ∧ ∀ y ∈ p.2,OkI y
theorem ChG.at {m : List ((Id3 × Id3) × List Id3)} {n : Nat} (h : ChG m n) {k : Id3 × Id3} : ((lookP m k).getD []).length ≤ n ∧ ∀ y ∈ (lookP m k).getD [],OkI y := by
  cases hl : lookP m k with
  | none => simp
  | some e => exact h _ (look_mem hl)
theorem ChG.ofC {ev : List (Id3 × Ev)} : ∀ {l : List Ch} {m : List ((Id3 × Id3) × List Id3)} {n : Nat},ChG m n → (∀ c ∈ l,OkI c.part) → ChG (l.foldl (ofC ev) m) (n + l.length)
  | [],m,n,h,_ => h
  | c :: l,m,n,h,hl => by
    rw [List.foldl_cons,List.length_cons,show n + (l.length + 1) = n + 1 + l.length by omega]
    refine ChG.ofC ?_ fun q hq => hl q (.tail _ hq)
    unfold Go.Proofs.Ytffbjejmobhpkaa.ofC
    split
    · intro p hp
      rcases upd_mem hp with rfl | hp
      · dsimp only
        refine ⟨?_,fun y hy => ?_⟩
        · rw [List.length_append,List.length_singleton]; have := (h.at (k := (c.on,c.to))).1; omega
        · rcases List.mem_append.1 hy with hy | hy
          · exact (h.at).2 y hy
          · rw [List.mem_singleton.1 hy]; exact hl c (.head _)
      · exact ⟨Nat.le_trans (h p hp).1 (by omega),(h p hp).2⟩
    · intro p hp
      exact ⟨Nat.le_trans (h p hp).1 (by omega),(h p hp).2⟩
theorem sens_len : ∀ {l : List Sn} {m : List (Id3 × Bool)},(l.foldl sensS m).length ≤ m.length + l.length
  | [],m => by simp
  | s :: l,m => by
    have h1 := sens_len (l := l) (m := sensS m s)
    have h2 := upd_len (m := m) (k := s.id) (v := true)
    rw [List.foldl_cons,List.length_cons]
    unfold sensS at h1 ⊢
    omega
theorem Gen.ix {b : Bk} (h : Gen b) : IxOk (ixP b) := by
  refine ⟨?_,fun to => ?_,fun fr to => ?_⟩
  · have h1 := sens_len (l := b.sn) (m := [])
    have h2 := h.sn
    show (sensP b).length ≤ _
    unfold sensP
    simp at h1
    omega
  · have h1 : EvG (evsP b) (0 + 3 * b.sl.length + b.mg.length) := EvG.ofM (EvG.ofS (m := []) (fun p hp => by cases hp) fun s hs => ⟨(h.pl s hs).2.1,(h.pl s hs).2.2⟩) h.mt
    have h2 := h1.at (k := to)
    have h3 := h.sl
    have h4 := h.mg
    exact ⟨by show ((lookP (evsP b) to).getD ev0).all.length ≤ _; omega,h2.2⟩
  · have h1 : ChG (chsP b) (0 + b.ch.length) := ChG.ofC (m := []) (fun p hp => by cases hp) h.cp
    have h2 := h1.at (k := (fr,to))
    have h3 := h.ch
    exact ⟨by show ((lookP (chsP b) (fr,to)).getD []).length ≤ _; omega,h2.2⟩
end Go.Proofs.Ytffbjejmobhpkaa
end
