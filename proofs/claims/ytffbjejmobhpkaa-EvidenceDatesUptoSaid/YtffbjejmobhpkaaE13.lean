/- A part of the proof of what the last text says: AwI, AwF, AwW. Conditions: those in each theorem. -/
import Derived.Test.YtffbjejmobhpkaaE12
import Derived.RangeFuncWrites
import Derived.RangeFuncBound
set_option linter.unusedVariables false
set_option linter.unusedSimpArgs false
set_option maxRecDepth 100000
set_option maxHeartbeats 16000000
open Nat renaming reduceSub → qa,reduceAdd → qb,reduceMul → qc,reduceEqDiff → qd,reduceLeDiff → qe,reduceBEq → qf
section
namespace Go.Aw
open Go Go.RowKit
theorem defB_of {id : Nat} {ops : Array Oper} {b : Bool} (h : defB (.region id ops b) = true) : ∀ o ∈ ops.toList,noDef o = true := fun o ho=>by
 have := List.all_eq_true.1 h o ho
 unfold noDef
 exact this
theorem xcode_in {P : Program} (hm : P.follows .mixedOrders = true) {l n : Nat} : ∀ (x : XC) (c : Code) (F : List D) (H : AH) (Q : AQ),inB x = true → defB c = true → cmp c = er x → codeOp c = true → okV x c = true → (∀ F H,¬ Q .outgrown F H) → xcode P x F H Q →
  ∀ (K : Nat → BK) (w : World) (a : Act),St K w F H a.tmps → c.wpIn (Fence.wide.inRound l) n P (fun e a' w'=>∃ F' H' K',Q e F' H' ∧ FK K w K' w' ∧ St K' w' F' H' a'.tmps) a w
 | .gh x,c,F,H,Q,hb,hd,he,ho,hv,hq,h=>fun K w a hs=>by
   obtain ⟨F',H',K1,hk,h1,h2⟩ := h K w a.tmps hs
   exact wpIn_mono (xcode_in hm x c F' H' Q hb hd he ho (by unfold okV at hv; exact hv) hq hk K1 w a h2) fun e a' w' ⟨F'',H'',K'',g1,g2,g3⟩=>⟨F'',H'',K'',g1,h1.trans g2,g3⟩
 | .skip,c,F,H,Q,hb,hd,he,ho,hv,hq,h=>fun K w a hs=>by
   cases c <;> simp only [cmp,er] at he <;> first | (cases he; done) | (exact absurd (rgf_dead he) (by simp [isRgf])) | (rename_i id ops d; cases d <;> cases he; done) | exact wpIn_skip ⟨F,H,K,h,.refl K w,hs⟩ | exact wpIn_label ⟨F,H,K,h,.refl K w,hs⟩
 | .reg l,c,F,H,Q,hb,hd,he,ho,hv,hq,h=>fun K w a hs=>by
   cases c <;> simp only [cmp,er] at he <;> first | (cases he; done) | (exact absurd (rgf_dead he) (by simp [isRgf])) | skip
   rename_i id ops d
   cases d <;> (try simp only [cmp] at he) <;> first | (cases he; done) | skip
   injection he with he
   simp only [codeOp] at ho
   simp only [xcode] at h
   exact wpIn_region_list (list_in (fun a w ⟨F',H',K',h1,_⟩=>hq F' H' h1) _ _ _ (defB_of hd) (xops_sound (opA := ops) (k := fun F' H'=>Q .normal F' H') (w := w) (a := a) (K := K) (fun a' w' ⟨F',H',K',g1,g2,g3,g4⟩=>⟨F',H',K',g1,g2,g3⟩) l ops.toList F H K w a he.symm (fun o hoo=>(Array.all_eq_true'.1 ho) o (by simpa using hoo)) hs (.refl K w) rfl h))
 | .regT qs segs last tail,c,F,H,Q,hb,hd,he,ho,hv,hq,h=>fun K w a hs=>by
   simp only [er] at he
   split at he
   ·rename_i hall
    cases c <;> (try simp only [cmp] at he) <;> first | (cases he; done) | (exact absurd (rgf_dead he) (by simp [isRgf])) | skip
    rename_i id ops d
    cases d <;> (try simp only [cmp] at he) <;> first | (cases he; done) | skip
    injection he with he
    simp only [codeOp] at ho
    simp only [xcode] at h
    exact wpIn_region_any hm (any_in (fun a w ⟨F',H',K',h1,_⟩=>hq F' H' h1) (defB_of hd) _ _ _ _ (regT_any hall he (fun o hoo=>(Array.all_eq_true'.1 ho) o (by simpa using hoo)) hv hs (fun a' w' ⟨F',H',K',g1,g2,g3,g4⟩=>⟨F',H',K',g1,g2,g3⟩) (delH_ok hs.hrel.nd).1 (delH_ok hs.hrel.nd).2 h))
   ·cases c <;> (try simp only [cmp] at he) <;> first | (cases he; done) | (exact absurd (rgf_dead he) (by simp [isRgf])) | (rename_i id ops d; cases d <;> cases he)
 | .seq x y,c,F,H,Q,hb,hd,he,ho,hv,hq,h=>fun K w a hs=>by
   cases c <;> simp only [cmp,er] at he <;> first | (cases he; done) | (exact absurd (rgf_dead he) (by simp [isRgf])) | (rename_i id ops d; cases d <;> cases he) | skip
   injection he with h1 h2
   simp only [codeOp,Bool.and_eq_true] at ho
   simp only [okV,Bool.and_eq_true] at hv
   simp only [inB,Bool.and_eq_true] at hb
   simp only [defB,Bool.and_eq_true] at hd
   simp only [xcode] at h
   refine wpIn_seq (wpIn_mono (xcode_in hm x _ F H (nextQ (fun F' H'=>xcode P y F' H' Q) Q) hb.1 hd.1 h1 ho.1 hv.1 (fun F H hh=>hq F H hh) h K w a hs) fun e a' w' ⟨F',H',K',g1,g2,g3⟩=>?_)
   cases e with
   | normal=>exact wpIn_mono (xcode_in hm y _ F' H' Q hb.2 hd.2 h2 ho.2 hv.2 hq g1 K' w' a' g3) fun e a'' w'' ⟨F'',H'',K'',q1,q2,q3⟩=>⟨F'',H'',K'',q1,g2.trans q2,q3⟩
   | _=>exact ⟨F',H',K',g1,g2,g3⟩
 | .block id x,c,F,H,Q,hb,hd,he,ho,hv,hq,h=>fun K w a hs=>by
   cases c <;> simp only [cmp,er] at he <;> first | (cases he; done) | (exact absurd (rgf_dead he) (by simp [isRgf])) | (rename_i id ops d; cases d <;> cases he) | skip
   injection he with h0 h1
   subst h0
   rename_i id c
   simp only [codeOp] at ho
   simp only [inB] at hb
   simp only [defB] at hd
   simp only [xcode] at h
   refine wpIn_block (wpIn_mono (xcode_in hm x _ F H (blockQ id Q) hb hd h1 ho (by simpa only [okV] using hv) (fun F H hh=>hq F H hh) h K w a hs) fun e a' w' ⟨F',H',K',g1,g2⟩=>?_)
   cases e with
   | exit id' =>
    simp only [blockQ] at g1
    simp only [Exit.inBlock]
    split
    ·rename_i e; rw [if_pos e] at g1; exact ⟨F',H',K',g1,g2⟩
    ·rename_i e; rw [if_neg e] at g1; exact ⟨F',H',K',g1,g2⟩
   | _=>exact ⟨F',H',K',g1,g2⟩
 | .exit _,c,F,H,Q,hb,hd,he,ho,hv,hq,h=>by cases hb
 | .ret,c,F,H,Q,hb,hd,he,ho,hv,hq,h=>by cases hb
 | .bad,c,F,H,Q,hb,hd,he,ho,hv,hq,h=>by cases hb
 | .cond _ _ _,c,F,H,Q,hb,hd,he,ho,hv,hq,h=>by cases hb
 | .loop _,c,F,H,Q,hb,hd,he,ho,hv,hq,h=>by cases hb
 | .scope _,c,F,H,Q,hb,hd,he,ho,hv,hq,h=>by cases hb
 | .regV _ _,c,F,H,Q,hb,hd,he,ho,hv,hq,h=>by cases hb
 | .regW _ _ _ _,c,F,H,Q,hb,hd,he,ho,hv,hq,h=>by cases hb
 | .regD _,c,F,H,Q,hb,hd,he,ho,hv,hq,h=>by cases hb
 | .rgf _ _ _ _,c,F,H,Q,hb,hd,he,ho,hv,hq,h=>by cases hb
 | .rga _ _ _ _,c,F,H,Q,hb,hd,he,ho,hv,hq,h=>by cases hb
 | .regY _ _ _,c,F,H,Q,hb,hd,he,ho,hv,hq,h=>by cases hb
end Go.Aw
end
section
namespace Go.Aw
open Go Go.RowKit
def mwk (es : List (D × D)) : List (D × D) := es.map fun p=>(p.1,p.2.wkA)
theorem MpAt.frozen {K : Nat → BK} {w : World} {b : Nat} {es : List (D × D)} (h : MpAt K w b es) (hk : K b = .imm) : RepV K w (.mpv (mwk es)) (.map (some b)) := by
 obtain ⟨c,h1,h2,h3⟩ := h
 refine .mpv _ b c hk (Array.getElem?_eq_some_iff.1 h1).1 h1 (by simpa [mwk] using h2) (fun j p e hp he=>?_) (fun j p e hp he=>?_)
 all_goals
  unfold mwk at hp
  rw [List.getElem?_map,Option.map_eq_some_iff] at hp
  obtain ⟨p',e1,rfl⟩ := hp
  obtain ⟨e',g1,g2,g3,g4⟩ := h3 j p' e1
  rw [he] at g1
  cases g1
 ·exact g3
 ·exact g4.wkA
section
variable {F : List D} {H : AH}
theorem Fz.freezeM {s b : Nat} {es : List (D × D)} (hF : F.getD s .any = .mp (some b)) (hg : getH H b = some (.mp es)) : Fz F H (F.set s (.mpv (mwk es))) (eraseH H b) := by
 intro K w t hs
 obtain ⟨hp,hm⟩ := hs.hrel.ok b _ (getH_mem hg)
 obtain ⟨hkeep,hkr⟩ := let_go (x := .imm) hs.krel hp (by simp)
 have hlt : s < F.length := by
  rcases Nat.lt_or_ge s F.length with h' | h'
  ·exact h'
  ·simp [List.getD,List.getElem?_eq_none h'] at hF
 have hFs : F[s]? = some (.mp (some b)) := by rw [← hF]; simp [List.getD,List.getElem?_eq_getElem hlt]
 refine ⟨_,hkeep.fk (fun h=>h),hkr,⟨(erase_sub.map (·.1)).nodup hs.hrel.nd,fun c' o' hm=>AO.keep hkeep (erase_ne hs.hrel.nd hm) (fun _ h=>h) (hs.hrel.ok c' o' (erase_sub.subset hm))⟩,by simpa using hs.len,fun i d v hd hv'=>?_⟩
 rcases getElem?_set_some hd with ⟨rfl,rfl,_⟩ | ⟨hne,hd⟩
 ·have hv := RepV.mp_inv (show RepV K w (.mp (some b)) v from hs.slot s _ _ hFs hv')
  rw [hv]
  exact RepV.viewO ((hm.ext hkeep.ext rfl).frozen (setK_same _ _ _))
 ·exact (hs.slot i d v hd hv').keep hkeep (fun _ h=>h)
theorem Fz.freezeMC {b' j b : Nat} {ds : List D} {es : List (D × D)} (hne : b' ≠ b) (hd : getH H b' = some (.cells ds)) (hj : ds[j]? = some (.mp (some b))) (hg : getH H b = some (.mp es)) :
  Fz F H F (eraseH (setH H b' (.cells (ds.set j (.mpv (mwk es))))) b) := by
 intro K w t hs
 obtain ⟨hp,hm⟩ := hs.hrel.ok b _ (getH_mem hg)
 obtain ⟨hkeep,hkr⟩ := let_go (x := .imm) hs.krel hp (by simp)
 have hnd : ((setH H b' (.cells (ds.set j (.mpv (mwk es))))).map (·.1)).Nodup := by rw [keys_set]; exact hs.hrel.nd
 refine ⟨_,hkeep.fk (fun h=>h),hkr,⟨(erase_sub.map (·.1)).nodup hnd,fun c' o' hm'=>?_⟩,hs.len,fun i d v hd' hv'=>(hs.slot i d v hd' hv').keep hkeep (fun _ h=>h)⟩
 have hcb := erase_ne hnd hm'
 rcases mem_set hs.hrel.nd (erase_sub.subset hm') with ⟨rfl,rfl⟩ | ⟨hne',hm'⟩
 ·obtain ⟨g1,c',T',g2,g3,g4⟩ := AO.keep hkeep hcb (fun _ h=>h) (hs.hrel.ok c' _ (getH_mem hd))
  refine ⟨g1,c',T',g2,by simpa using g3,fun q d' hd'=>?_⟩
  rcases getElem?_set_some hd' with ⟨rfl,rfl,_⟩ | ⟨hnq,hd'⟩
  ·obtain ⟨u,e1,e2,e3⟩ := g4 j _ hj
   obtain rfl := RepV.mp_inv e3
   exact ⟨_,e1,e2,(hm.ext hkeep.ext rfl).frozen (setK_same _ _ _)⟩
  ·exact g4 q d' hd'
 ·exact AO.keep hkeep hcb (fun _ h=>h) (hs.hrel.ok c' o' hm')
end
end Go.Aw
end
section
namespace Go.Aw
open Go Go.RowKit
def litB : D → Bool
  | .int _ _=>true
  | .bool _=>true
  | .str _=>true
  | _=>false
theorem RepV.lit {K K' : Nat → BK} {w w' : World} {d : D} {v : Value} (hb : litB d = true) (h : RepV K w d v) : RepV K' w' d v := by
  cases d <;> simp only [litB,Bool.false_eq_true] at hb
  · obtain ⟨rfl,h2⟩ := h.int_inv; exact .int _ _ h2
  · obtain rfl := h.bool_inv; exact .bool _
  · obtain ⟨rfl,h2⟩ := h.str_inv; exact .str _ h2
def litA : D → Bool
  | .agg cs=>cs.all litB
  | d=>litB d
theorem RepV.lita {K K' : Nat → BK} {w w' : World} {d : D} {v : Value} (hb : litA d = true) (h : RepV K w d v) : RepV K' w' d v := by
  cases d <;> first
    | exact h.lit hb
    | (obtain ⟨vs,rfl,h1,h2,h3⟩ := h.agg_inv
       exact .agg _ vs h1 h2 fun j d u hd hu=>(h3 j d u hd hu).lit (List.all_eq_true.1 hb d (List.mem_of_getElem? hd)))
section
variable {K K' : Nat → BK} {w w' : World} {o o' : Who} {xs : List (List D)} {v : Value}
theorem OwnAt.lit (hl : ∀ y ∈ xs,∀ d ∈ y,litB d = true) (ho : ∀ b n,K b = .tok n o → K' b = .tok n o' ∧ w'.heap[b]? = w.heap[b]?) (h : OwnAt K w o xs v) : OwnAt K' w' o' xs v := by
  rcases h with h | ⟨b,cap,sz,c,T,hv,hk,hh,hcs,hp,hln,hm,hb,hs,hrep⟩
  · exact .inl h
  · refine .inr ⟨b,cap,sz,c,T,hv,(ho b _ hk).1,(ho b _ hk).2.trans hh,hcs,hp,hln,hm,hb,hs,fun i x hi j d hj=>?_⟩
    obtain ⟨u,e1,e2,e3⟩ := hrep i x hi j d hj
    exact ⟨u,e1,e2,e3.lit (hl x (List.mem_of_getElem? hi) d (List.mem_of_getElem? hj))⟩
theorem OwnAt.to (he : ExtV K w K' w') (ho : ∀ b n,K b = .tok n o → K' b = .tok n o' ∧ w'.heap[b]? = w.heap[b]?) (h : OwnAt K w o xs v) : OwnAt K' w' o' xs v := by
  rcases h with h | ⟨b,cap,sz,c,T,hv,hk,hh,hcs,hp,hln,hm,hb,hs,hrep⟩
  · exact .inl h
  · refine .inr ⟨b,cap,sz,c,T,hv,(ho b _ hk).1,(ho b _ hk).2.trans hh,hcs,hp,hln,hm,hb,hs,fun i x hi j d hj=>?_⟩
    obtain ⟨u,e1,e2,e3⟩ := hrep i x hi j d hj
    exact ⟨u,e1,e2,e3.mono he⟩
theorem AO.to {b : Nat} {x : AO} (he : ExtV K w K' w') (hp : K b = .priv → K' b = .priv ∧ w'.heap[b]? = w.heap[b]?) (ho : ∀ c n j,K c = .tok n (.cell b j) → K' c = .tok n (.cell b j) ∧ w'.heap[c]? = w.heap[c]?) (h : x.at_ K w b) : x.at_ K' w' b := by
  cases x with
  | cells cs =>
    obtain ⟨h1,c,T,h2,h3,h4⟩ := h
    refine ⟨(hp h1).1,c,T,(hp h1).2.trans h2,h3,fun j d hd=>?_⟩
    obtain ⟨u,e1,e2,e3⟩ := h4 j d hd
    refine ⟨u,e1,e2,?_⟩
    cases d <;> first | exact OwnAt.to he (fun b n hb=>ho b n j hb) e3 | exact RepV.mono he e3
  | room cap xs=>exact ⟨h.1,h.2.to he fun c n hc=>ho c n 0 hc⟩
  | mp es=>exact ⟨(hp h.1).1,h.2.ext he (hp h.1).2⟩
  | lp J pre =>
    obtain ⟨⟨n,j,h1⟩,h2,h3⟩ := h
    exact ⟨⟨n,j,(ho _ _ _ h1).1⟩,h3 pre K w K' w' h2 ho,h3⟩
end
structure ColJ (bs L Db : Nat) (r : Loop) (xs : List (List D)) (pre : List D) (K : Nat → BK) (w : World) : Prop where
  kb : K bs = .tok 0 (.cell L 1)
  kl : K L = .tok 0 (.cell L 1)
  kd : K Db = .tok 0 (.cell L 1)
  hl : w.heap[L]? = some (.loop r)
  hd : w.heap[Db]? = some (.deferred (some []))
  lit : ∀ y ∈ xs ++ pre.map cellsOf,∀ d ∈ y,litB d = true
  own : ∃ v T,w.heap[bs]? = some (.cells #[v] T (0,0)) ∧ v.oneCell' = true ∧ OwnAt K w (.cell L 0) (xs ++ pre.map cellsOf) v
theorem ColJ.ok {bs L Db : Nat} {r : Loop} {xs : List (List D)} : LpOk L (ColJ bs L Db r xs) := fun pre K w K' w' h ht=>by
  obtain ⟨v,T,o1,o2,o3⟩ := h.own
  exact ⟨(ht _ _ _ h.kb).1,(ht _ _ _ h.kl).1,(ht _ _ _ h.kd).1,(ht _ _ _ h.kl).2.trans h.hl,(ht _ _ _ h.kd).2.trans h.hd,h.lit,v,T,(ht _ _ _ h.kb).2.trans o1,o2,o3.lit h.lit fun b n hb=>ht b n 0 hb⟩
def bodyK (bs L : Nat) (K : Nat → BK) : Nat → BK := fun b=>if b = bs then .priv else match K b with
  | .imm=>.imm
  | .priv=>.tok 0 .outer
  | .tok n o=>if o = .cell L 0 then .tok n (.cell bs 0) else .tok n .outer
def ownB (o : Who) : BK → Bool
  | .tok _ o'=>decide (o' = o)
  | _=>false
def iterK (bs L s : Nat) (K K2 : Nat → BK) : Nat → BK := fun b=>match K2 b with
  | .tok m o=>if o = .cell bs 0 then .tok m (.cell L 0) else if b < s ∧ ownB (.cell L 0) (K b) = false then K b else .tok m o
  | y=>if b < s ∧ ownB (.cell L 0) (K b) = false then K b else y
def FrB (Fb : List D) (t : Array Value) : Prop := Fb.length = t.size ∧ ∀ (i : Nat) (d : D) (v : Value),Fb[i]? = some d → t[i]? = some v → ∀ (K : Nat → BK) (w : World),RepO K w i d v
theorem ystep {P : Program} (hm : P.follows .mixedOrders = true) {bs L Db p : Nat} {r : Loop} {xs : List (List D)} {pre : List D} {x : D} {X Y : XC} {Fb : List D}
    (hp : r.params = #[p]) (hst : r.state = .ready) (hpe : r.pending = none) (hbL : bs ≠ L) (hbD : bs ≠ Db) (hLD : L ≠ Db) (hFb : FrB Fb r.tmps) (hx : litA x = true) (hxl : okc x = true)
    (hA : cmp r.assign = er X) (hB : cmp r.body = er Y) (cA : codeOp r.assign = true) (cB : codeOp r.body = true) (vA : okV X r.assign = true) (vB : okV Y r.body = true) (iA : inB X = true) (iB : inB Y = true) (dA : defB r.assign = true) (dB : defB r.body = true)
    (hbody : xcode P X (Fb.set p x) [(bs,.cells [.own (xs ++ pre.map cellsOf)])] (nextQ (fun F' H'=>xcode P Y F' H' (fun e F'' H''=>e = .normal ∧ getH H'' bs = some (.cells [.own (xs ++ pre.map cellsOf ++ [cellsOf x])]))) (fun _ _ _=>False))) :
    YStep P L (ColJ bs L Db r xs) pre x := by
  intro m K w v hk hJ hrv
  have hy := run_yield (P := P) (args := #[v]) hJ.hl (by rw [hp]; rfl)
  obtain ⟨u,T,o1,o2,o3⟩ := hJ.own
  have hltL : L < w.heap.size := (Array.getElem?_eq_some_iff.1 hJ.hl).1
  have hltB : bs < w.heap.size := (Array.getElem?_eq_some_iff.1 o1).1
  have hltD : Db < w.heap.size := (Array.getElem?_eq_some_iff.1 hJ.hd).1
  refine ⟨r.fn,_,r.assign,r.body,hy,roundIn_of_wpIn trivial ?_⟩
  have htm : (Array.zip r.params #[v]).foldl (fun t (p,v)=>t.setIfInBounds p v) r.tmps = r.tmps.setIfInBounds p v := by rw [hp]; simp
  rw [htm]
  have kL0 : bodyK bs L K L = .tok 0 .outer := by simp [bodyK,Ne.symm hbL,hJ.kl]
  have kD0 : bodyK bs L K Db = .tok 0 .outer := by simp [bodyK,Ne.symm hbD,hJ.kd]
  have kB0 : bodyK bs L K bs = .priv := by simp [bodyK]
  have own0 : ∀ b n,K b = .tok n (.cell L 0) → bodyK bs L K b = .tok n (.cell bs 0) ∧ w.heap[b]? = w.heap[b]? := fun b n hb=>by
    have : b ≠ bs := fun e=>by subst e; rw [hJ.kb] at hb; injection hb with _ hb; injection hb with _ hb; cases hb
    exact ⟨by simp [bodyK,this,hb],rfl⟩
  have st0 : St (bodyK bs L K) w (Fb.set p x) [(bs,.cells [.own (xs ++ pre.map cellsOf)])] (r.tmps.setIfInBounds p v) := by
    refine ⟨fun b hb=>?_,⟨by simp,fun b o hm=>?_⟩,by simpa using hFb.1.symm,fun i d u' hd hu=>?_⟩
    · have : b ≠ bs := by omega
      simp [bodyK,this,hk b hb]
    · simp only [List.mem_singleton,Prod.mk.injEq] at hm
      obtain ⟨rfl,rfl⟩ := hm
      refine ⟨kB0,_,T,o1,rfl,fun j d hd=>?_⟩
      match j with
      | 0 =>
        simp only [List.getElem?_cons_zero,Option.some.injEq] at hd
        subst hd
        exact ⟨u,rfl,o2,OwnAt.lit hJ.lit own0 o3⟩
      | j + 1=>simp at hd
    · rw [Array.getElem?_setIfInBounds] at hu
      rcases getElem?_set_some hd with ⟨rfl,rfl,hlt⟩ | ⟨hne,hd⟩
      · rw [if_pos rfl] at hu
        split at hu
        · cases hu; exact (hrv.lita hx).viewO
        · cases hu
      · rw [if_neg hne] at hu
        exact hFb.2 i d u' hd hu _ _
  refine wpIn_mono (xcode_in hm X r.assign _ _ _ iA dA hA cA vA (fun _ _ h=>h) hbody (bodyK bs L K) w _ st0) ?_
  rintro e a1 w1 ⟨F1,H1,K1,q1,f1,s1⟩
  cases e with
  | normal =>
    have q1 : xcode P Y F1 H1 _ := q1
    have hl1 : w1.heap[L]? = some (.loop r) := (f1.own L 0 kL0).2.trans hJ.hl
    have k1L : K1 L = .tok 0 .outer := (f1.own L 0 kL0).1
    refine ⟨_,run_beginRound hl1 hst,?_⟩
    have notC : isC w1 L = false := by simp [isC,hl1]
    have reL : ∀ (W : World) (Ka Kb : Nat → BK),isC W L = false → (∀ b,b ≠ L → Kb b = Ka b) → (∀ n c j,Ka L ≠ .tok n (.cell c j)) → ReK Ka Kb W := fun W Ka Kb hc hs hn =>
      ⟨fun b hb _ _=>hs b (fun e=>by subst e; rw [hc] at hb; cases hb),fun b n c j hb=>hs b (fun e=>by subst e; exact hn _ _ _ hb)⟩
    have shift : ∀ (W : World) (KK : Nat → BK) (FF : List D) (HH : AH) (tt : Array Value) (ob : Obj),isC W L = false → KK L = .tok 0 .outer → (∀ b o,(b,o) ∈ HH → b ≠ L) → St KK W FF HH tt → (∃ rr,ob = .loop rr) → St KK (W.putObj L ob) FF HH tt := fun W KK FF HH tt ob hc hkk hne hst' hob=>by
      obtain ⟨rr,rfl⟩ := hob
      have a1 : St (setK KK L .priv) W FF HH tt := hst'.re (reL W KK _ hc (fun b hb=>setK_other _ _ hb) (fun n c j e=>by rw [hkk] at e; cases e))
        (fun b hb=>by
          show setK KK L .priv b = .imm
          by_cases e : b = L
          · subst e; have := hst'.krel b hb; rw [hkk] at this; cases this
          · rw [setK_other _ _ e]; exact hst'.krel b hb)
        (fun b o hm hp=>by rw [setK_other _ _ (hne b o hm)]; exact hp)
      have a2 := (Sh.put (K := setK KK L .priv) (w := W) (b := L) (o := .loop rr) (setK_same _ _ _) hc).st a1
      have hc2 : isC (W.putObj L (.loop rr)) L = false := by
        unfold isC
        rcases Nat.lt_or_ge L W.heap.size with hlt | hge
        · rw [World.putObj_heap_same hlt]
        · have : (W.putObj L (.loop rr)).heap[L]? = none := by simp [World.putObj]; omega
          rw [this]
      exact a2.re (reL _ _ KK hc2 (fun b hb=>(setK_other _ _ hb).symm) (fun n c j e=>by rw [setK_same] at e; cases e))
        (fun b hb=>hst'.krel b (by simpa [World.putObj] using hb)) (fun b o hm hp=>by rwa [setK_other _ _ (hne b o hm)] at hp)
    have notL : ∀ {W : World} {KK : Nat → BK} {HH : AH},HRel KK W HH → KK L = .tok 0 .outer → ∀ b o,(b,o) ∈ HH → b ≠ L := fun hh hkk b o hm e=>by
      subst e
      have := hh.ok _ _ hm
      cases o with
      | cells cs=>have z := this.1; rw [hkk] at z; cases z
      | room cap ys =>
        rcases this.2 with ⟨z,_⟩ | ⟨b',cap',sz,c,T,z1,z2,_⟩
        · have := this.1; rw [z] at this; simp at this
        · injection z1 with z1; injection z1 with z1; injection z1 with z1; subst z1
          rw [hkk] at z2
          injection z2 with _ z2
          cases z2
      | mp es=>have z := this.1; rw [hkk] at z; cases z
      | lp J pr =>
        obtain ⟨⟨n,j,z⟩,_⟩ := this
        rw [hkk] at z
        injection z with _ z
        cases z
    have s1' := shift w1 K1 F1 H1 a1.tmps (.loop { r with state := .busy }) notC k1L (notL s1.hrel k1L) s1 ⟨_,rfl⟩
    generalize hw2 : w1.putObj L (.loop { r with state := .busy }) = w2 at s1'
    have hl2 : w2.heap[L]? = some (.loop { r with state := .busy }) := by rw [← hw2]; exact World.putObj_heap_same (Array.getElem?_eq_some_iff.1 hl1).1
    have oth2 : ∀ b,b ≠ L → w2.heap[b]? = w1.heap[b]? := fun b hb=>by rw [← hw2]; exact World.putObj_heap_other hb
    have sz2 : w2.heap.size = w1.heap.size := by rw [← hw2]; simp [World.putObj]
    have os2 : w2.os = w1.os ∧ w2.tape = w1.tape ∧ w2.output = w1.output ∧ w2.drawn = w1.drawn := by rw [← hw2]; exact ⟨rfl,rfl,rfl,rfl⟩
    refine wpIn_mono (xcode_in hm Y r.body _ _ _ iB dB hB cB vB (fun F H h=>by cases h.1) q1 K1 w2 _ s1') ?_
    rintro e a3 w3 ⟨F3,H3,K2,⟨rfl,hg3⟩,f2,s3⟩
    obtain ⟨kb2,c3,T3,hh3,hc3,hr3⟩ := s3.hrel.ok bs _ (getH_mem hg3)
    have hl3 : w3.heap[L]? = some (.loop { r with state := .busy }) := (f2.own L 0 k1L).2.trans hl2
    refine ⟨_,_,run_endRound none hl3,rfl,iterK bs L w.heap.size K K2,?_⟩
    have hr : ({ ({ r with state := .busy } : Loop) with state := if (none : Option Code).isNone then .ready else .done,pending := none } : Loop) = r := by
      cases r; simp_all
    rw [hr]
    generalize hw4 : w3.putObj L (.loop r) = w4
    have oth4 : ∀ b,b ≠ L → w4.heap[b]? = w3.heap[b]? := fun b hb=>by rw [← hw4]; exact World.putObj_heap_other hb
    have sz4 : w4.heap.size = w3.heap.size := by rw [← hw4]; simp [World.putObj]
    have hl4 : w4.heap[L]? = some (.loop r) := by rw [← hw4]; exact World.putObj_heap_same (Array.getElem?_eq_some_iff.1 hl3).1
    have os4 : w4.os = w3.os ∧ w4.tape = w3.tape ∧ w4.output = w3.output ∧ w4.drawn = w3.drawn := by rw [← hw4]; exact ⟨rfl,rfl,rfl,rfl⟩
    -- what was not the loop's lies as it lay
    have outer : ∀ b n,bodyK bs L K b = .tok n .outer → K2 b = .tok n .outer ∧ (b ≠ L → w4.heap[b]? = w.heap[b]?) := fun b n hb=>by
      obtain ⟨e1,e2⟩ := f1.own b n hb
      obtain ⟨e3,e4⟩ := f2.own b n e1
      exact ⟨e3,fun hbL=>(oth4 b hbL).trans (e4.trans ((oth2 b hbL).trans e2))⟩
    have bnew : ∀ b n,K2 b = .tok n .outer → bodyK bs L K b = .tok n .outer := fun b n hb=>f1.new b n (f2.new b n hb)
    have immK : ∀ b,b < w.heap.size → K b = .imm → b ≠ L ∧ K2 b = .imm ∧ w4.heap[b]? = w.heap[b]? := fun b hb hi=>by
      have hbL' : b ≠ L := fun e=>by subst e; rw [hJ.kl] at hi; cases hi
      have hbs : b ≠ bs := fun e=>by subst e; rw [hJ.kb] at hi; cases hi
      obtain ⟨e1,e2⟩ := f1.ext.imm b hb (by simp [bodyK,hbs,hi])
      obtain ⟨e3,e4⟩ := f2.ext.imm b (by rw [sz2]; exact Nat.lt_of_lt_of_le hb f1.ext.size) e1
      exact ⟨hbL',e3,(oth4 b hbL').trans (e4.trans ((oth2 b hbL').trans e2))⟩
    have privK : ∀ b,K b = .priv → b ≠ L ∧ K2 b = .tok 0 .outer ∧ w4.heap[b]? = w.heap[b]? := fun b hi=>by
      have hbL' : b ≠ L := fun e=>by subst e; rw [hJ.kl] at hi; cases hi
      have hbs : b ≠ bs := fun e=>by subst e; rw [hJ.kb] at hi; cases hi
      obtain ⟨e1,e2⟩ := outer b 0 (by simp [bodyK,hbs,hi])
      exact ⟨hbL',e1,e2 hbL'⟩
    have tokK : ∀ b n o,K b = .tok n o → o ≠ .cell L 0 → b ≠ bs → K2 b = .tok n .outer ∧ (b ≠ L → w4.heap[b]? = w.heap[b]?) := fun b n o hb ho hbs =>
      outer b n (by simp [bodyK,hbs,hb,ho])
    have keepK : ∀ b,b < w.heap.size → ownB (.cell L 0) (K b) = false → iterK bs L w.heap.size K K2 b = K b := fun b hb ho=>by
      unfold iterK
      cases hk2 : K2 b with
      | imm=>simp [hb,ho]
      | priv=>simp [hb,ho]
      | tok m o =>
        have : o ≠ .cell bs 0 := fun e=>by
          subst e
          by_cases hbs : b = bs
          · subst hbs; rw [kb2] at hk2; cases hk2
          · cases hkb : K b with
            | imm=>rw [(immK b hb hkb).2.1] at hk2; cases hk2
            | priv=>rw [(privK b hkb).2.1] at hk2; injection hk2 with _ hk2; cases hk2
            | tok n o' =>
              have ho' : o' ≠ .cell L 0 := fun e=>by subst e; rw [hkb] at ho; simp [ownB] at ho
              rw [(tokK b n o' hkb ho' hbs).1] at hk2
              injection hk2 with _ hk2; cases hk2
        simp [this,hb,ho]
    have bsz : w.heap.size ≤ w4.heap.size := by rw [sz4]; exact Nat.le_trans f1.ext.size (Nat.le_trans (Nat.le_of_eq sz2.symm) f2.ext.size)
    have grown : ∀ b n,K b = .tok n (.cell L 0) → 0 < n → ∃ m,(∃ o,iterK bs L w.heap.size K K2 b = .tok m o) ∧ n ≤ m ∧ ∀ j,j < n → w4.cell? ⟨b,j,none⟩ = w.cell? ⟨b,j,none⟩ := fun b n hb hn=>by
      obtain ⟨m1,o1',a1,a2,a3⟩ := f1.ext.tok b n _ (own0 b n hb).1 hn
      obtain ⟨m2,o2',b1,b2,b3⟩ := f2.ext.tok b m1 _ a1 (Nat.lt_of_lt_of_le hn a2)
      have hbL' : b ≠ L := fun e=>by subst e; rw [hJ.kl] at hb; injection hb with _ hb; injection hb with _ hb; cases hb
      refine ⟨m2,?_,Nat.le_trans a2 b2,fun j hj=>(cell_of_block (oth4 b hbL') j).trans ((b3 j (Nat.lt_of_lt_of_le hj a2)).trans ((cell_of_block (oth2 b hbL') j).trans (a3 j hj)))⟩
      unfold iterK
      rw [b1]
      have ho : ownB (.cell L 0) (K b) = true := by rw [hb]; simp [ownB]
      simp only [ho,Bool.true_eq_false,and_false,if_false]
      split <;> exact ⟨_,rfl⟩
    have hext : ExtV K w (iterK bs L w.heap.size K K2) w4 := by
      refine ⟨os4.1.trans (f2.ext.os.trans (os2.1.trans f1.ext.os)),os4.2.1.trans (f2.ext.tape.trans (os2.2.1.trans f1.ext.tape)),
        ⟨os4.2.2.1.trans (f2.ext.output.1.trans (os2.2.2.1.trans f1.ext.output.1)),?_⟩,bsz,fun b hb hi=>?_,fun b n o hb hn=>?_,fun b hb=>?_⟩
      · have h1 := f1.ext.output.2
        have h2 := f2.ext.output.2
        rw [os4.2.2.2]
        rw [os2.2.2.2] at h2
        omega
      · obtain ⟨e1,e2,e3⟩ := immK b hb hi
        exact ⟨(keepK b hb (by rw [hi]; rfl)).trans hi,e3⟩
      · by_cases ho : o = .cell L 0
        · subst ho
          obtain ⟨m2,⟨o2',e1⟩,e2,e3⟩ := grown b n hb hn
          exact ⟨m2,o2',e1,e2,e3⟩
        · have hlt := hk.lt_of (b := b) (by rw [hb]; simp)
          have hbs : b ≠ bs := fun e=>by subst e; rw [hJ.kb] at hb; injection hb with hb _; omega
          have hbL' : b ≠ L := fun e=>by subst e; rw [hJ.kl] at hb; injection hb with hb _; omega
          exact ⟨n,o,(keepK b hlt (by rw [hb]; simp [ownB,ho])).trans hb,Nat.le_refl _,fun j _=>cell_of_block ((tokK b n o hb ho hbs).2 hbL') j⟩
      · exact .inl ((keepK b (hk.lt_of (by rw [hb]; simp)) (by rw [hb]; rfl)).trans hb)
    have hback : ∀ b n,K2 b = .tok n (.cell bs 0) → iterK bs L w.heap.size K K2 b = .tok n (.cell L 0) ∧ w4.heap[b]? = w3.heap[b]? := fun b n hb=>by
      refine ⟨by simp [iterK,hb],oth4 b (fun e=>?_)⟩
      subst e
      rw [(outer b 0 kL0).1] at hb
      injection hb with _ hb; cases hb
    obtain ⟨u3,g1,g2,g3⟩ := hr3 0 _ rfl
    have hown : OwnAt K2 w3 (.cell bs 0) (xs ++ pre.map cellsOf ++ [cellsOf x]) u3 := g3
    have hnew : xs ++ (pre ++ [x]).map cellsOf = xs ++ pre.map cellsOf ++ [cellsOf x] := by simp
    have hlit : ∀ y ∈ xs ++ pre.map cellsOf ++ [cellsOf x],∀ d ∈ y,litB d = true := fun y hy d hd=>by
      rcases List.mem_append.1 hy with hy | hy
      · exact hJ.lit y hy d hd
      · simp only [List.mem_singleton] at hy
        subst hy
        cases x <;> first
          | exact List.all_eq_true.1 hx d hd
          | (simp only [cellsOf,List.mem_singleton] at hd; subst hd; exact hx)
    have hc1 : c3 = #[u3] := by
      have hz : c3.size = 1 := hc3
      apply Array.ext
      · simpa using hz
      · intro i h1 h2
        have : i = 0 := by simp at h2; omega
        subst this
        have := (Array.getElem?_eq_some_iff.1 g1).2
        simpa using this
    have keepO : ∀ b n o,K b = .tok n o → ¬ (∃ j,o = .cell L j) → iterK bs L w.heap.size K K2 b = .tok n o ∧ w4.heap[b]? = w.heap[b]? := fun b n o hb ho=>by
      have ho0 : o ≠ .cell L 0 := fun e=>ho ⟨0,e⟩
      have hbs : b ≠ bs := fun e=>by subst e; rw [hJ.kb] at hb; injection hb with _ hb; exact ho ⟨1,hb.symm⟩
      have hbL' : b ≠ L := fun e=>by subst e; rw [hJ.kl] at hb; injection hb with _ hb; exact ho ⟨1,hb.symm⟩
      exact ⟨(keepK b (hk.lt_of (by rw [hb]; simp)) (by rw [hb]; simp [ownB,ho0])).trans hb,(tokK b n o hb ho0 hbs).2 hbL'⟩
    have lJ : ∀ b,K b = .tok 0 (.cell L 1) → b < w.heap.size → iterK bs L w.heap.size K K2 b = .tok 0 (.cell L 1) := fun b hb hlt=>(keepK b hlt (by rw [hb]; simp [ownB])).trans hb
    refine ⟨⟨lJ _ hJ.kb hltB,lJ _ hJ.kl hltL,lJ _ hJ.kd hltD,hl4,((outer Db 0 kD0).2 (Ne.symm hLD)).trans hJ.hd,by rw [hnew]; exact hlit,u3,T3,(oth4 bs hbL).trans (by rw [hh3,hc1]),g2,by rw [hnew]; exact hown.lit hlit hback⟩,
      ⟨hext,fun b n o hb ho=>keepO b n o hb ho,fun b n hb=>?_,fun b hb _=>⟨(keepK b (hk.lt_of (by rw [hb]; simp)) (by rw [hb]; rfl)).trans hb,(privK b hb).2.2⟩⟩,fun b hb=>?_,0,1,lJ _ hJ.kl hltL⟩
    · unfold iterK at hb
      have nope : K2 b = .tok n .outer → ¬ (b < w.heap.size ∧ ownB (.cell L 0) (K b) = false) → False := fun h1 h2=>by
        have h3 := bnew b n h1
        unfold bodyK at h3
        split at h3
        · cases h3
        · have hlt : b < w.heap.size := by
            rcases Nat.lt_or_ge b w.heap.size with h | h
            · exact h
            · rw [hk b h] at h3; cases h3
          refine h2 ⟨hlt,?_⟩
          split at h3
          · cases h3
          · rename_i e; rw [e]; rfl
          · rename_i m o e
            split at h3
            · cases h3
            · rename_i ho
              rw [e]; simp [ownB,ho]
      split at hb
      · rename_i m o hk2
        split at hb
        · cases hb
        · split at hb
          · exact hb
          · rename_i hn
            exact (nope (hk2.trans hb) hn).elim
      · rename_i y hy
        split at hb
        · exact hb
        · rename_i hn
          exact (nope hb hn).elim
    · have hlt : ¬ b < w.heap.size := by omega
      have h2 := s3.krel b (by rw [← sz4]; exact hb)
      simp [iterK,h2,hlt]
  | _=>exact q1.elim
def ranK (bs s : Nat) (K : Nat → BK) : Nat → BK := fun b=>if b = bs ∨ b = s ∨ b = s + 1 then .tok 0 (.cell (s + 1) 1) else match K b with
  | .tok n (.cell c j)=>if c = bs ∧ j = 0 then .tok n (.cell (s + 1) 0) else .tok n (.cell c j)
  | .tok n _=>.tok n .outer
  | y=>y
def endK (bs s : Nat) (K K' : Nat → BK) : Nat → BK := fun b=>if b = bs then .priv else if b = s then .tok 0 .outer else match K' b with
  | .tok n .outer=>K b
  | .tok n (.cell c j)=>if c = s + 1 ∧ j = 0 then .tok n (.cell bs 0) else .tok n (.cell c j)
  | y=>y
theorem XRG.collect {P : Program} (hm : P.follows .mixedOrders = true) {s p bs : Nat} {X Y : XC} {F Fb : List D} {H1 : AH} {Q : AQ} {g : FuncId} {caps : List D} {xs : List (List D)} {ys : List D} {R : AH → Prop}
    (hg : rv F (.tmp s) = .fn g caps) (hisb : isB caps = false) (hcall : callOk P g = true) (hFb : ∀ K w t,St K w F ((bs,.cells [.own xs]) :: H1) t → FrB Fb t) (hlit : ∀ y ∈ xs,∀ d ∈ y,litB d = true) (hys : ∀ y ∈ ys,litA y = true ∧ okc y = true)
    (hbody : ∀ pre x,pre ++ [x] <+: ys → xcode P X (Fb.set p x) [(bs,.cells [.own (xs ++ pre.map cellsOf)])] (nextQ (fun F' H'=>xcode P Y F' H' (fun e F'' H''=>e = .normal ∧ getH H'' bs = some (.cells [.own (xs ++ pre.map cellsOf ++ [cellsOf x])]))) (fun _ _ _=>False)))
    (hit : ∀ L J,freshH H1 L → (∀ pre x,pre ++ [x] <+: ys → YStep P L J pre x) → ACall P g (capA [.yld L] caps) ((L,.lp J []) :: H1) (fun _ H'=>∃ H2,H' = (L,.lp J ys) :: H2 ∧ R H2))
    (hQ : ∀ H2,R H2 → Q .normal Fb ((bs,.cells [.own (xs ++ ys.map cellsOf)]) :: H2)) : XRG P (.tmp s) p X Y F ((bs,.cells [.own xs]) :: H1) Q := by
  intro ps A C hps hA hC cA cC vA vC iA iC dA dC K w a s0 hs hd
  obtain ⟨lb,hev,hlsz,hlb⟩ := (hg ▸ hs.rep (x := .tmp s) rfl).fn_inv hisb
  obtain rfl : ps = #[p] := by apply Array.ext'; simpa using hps
  obtain ⟨hpb,cb,Tb,hhb,hcb,hrb⟩ := hs.hrel.ok bs _ (.head _)
  obtain ⟨u,u1,u2,u3⟩ := hrb 0 _ rfl
  have hown : OwnAt K w (.cell bs 0) xs u := u3
  have hcb1 : cb = #[u] := by
    have hz : cb.size = 1 := hcb
    apply Array.ext
    · simpa using hz
    · intro i h1 h2
      have : i = 0 := by simp at h2; omega
      subst this
      have := (Array.getElem?_eq_some_iff.1 u1).2
      simpa using this
  subst hcb1
  have hltB : bs < w.heap.size := (Array.getElem?_eq_some_iff.1 hhb).1
  have hnd := hs.hrel.nd
  simp only [List.map_cons,List.nodup_cons] at hnd
  have eg : ∀ args W,(callFunc g args).run P W = .ok (.enter g args) W := fun args W=>by
    unfold callOk at hcall
    split at hcall
    · rename_i fn hfn
      simp only [Bool.and_eq_true,Bool.not_eq_true'] at hcall
      have hb : fn.body.isNone = false := by cases hbb : fn.body <;> simp_all
      simp only [callFunc,Sem.run_bind,run_program,Result.andThen_ok,hfn,hcall.2,hb,Bool.false_eq_true,if_false]
      rfl
    · cases hcall
  refine (wpIn_wide (n := 3)).1 (wpIn_rangeFunc fun fn _=>?_)
  obtain ⟨r,hr⟩ : ∃ r : Loop,r = { state := .ready,pending := none,fn,tmps := a.tmps,params := #[p],assign := A,body := C,defers := w.heap.size } := ⟨_,rfl⟩
  obtain ⟨W1,hW1⟩ : ∃ W1,(w.alloc (.deferred (some []))).alloc (.loop r) = W1 := ⟨_,rfl⟩
  have hl1 : W1.heap[w.heap.size + 1]? = some (.loop r) := by
    rw [← hW1]; have := World.alloc_heap_new (w.alloc (.deferred (some []))) (.loop r); rwa [World.size_alloc] at this
  have hd1 : W1.heap[w.heap.size]? = some (.deferred (some [])) := by
    rw [← hW1]; exact (Below.heap_alloc _ _ _ (by simp)).trans (World.alloc_heap_new w _)
  have hold : ∀ b,b < w.heap.size → W1.heap[b]? = w.heap[b]? := fun b hb=>by
    rw [← hW1]; exact (Below.heap_alloc _ _ _ (by simp; omega)).trans (Below.heap_alloc _ _ _ hb)
  have hsz1 : W1.heap.size = w.heap.size + 2 := by rw [← hW1]; simp
  have hos1 : W1.os = w.os ∧ W1.tape = w.tape ∧ W1.output = w.output ∧ W1.drawn = w.drawn := by rw [← hW1]; exact ⟨rfl,rfl,rfl,rfl⟩
  refine ⟨w.heap.size + 1,[{ target := .collected w.heap.size,args := #[] }],W1,{ target := .fn (.func g) lb,args := #[.func (.yield (w.heap.size + 1)) #[] #[]] },W1,g,#[.func (.yield (w.heap.size + 1)) #[] #[]] ++ lb,W1,?_,?_,fun _ _=>trivial,?_,fun _=>by omega,?_⟩
  · rw [← hW1,hr]; exact run_enterLoop_outer _ _ _ _ _
  · simp only [resolve,hev]
    simp [go_sem]
  · simp [invoke,go_sem,eg]
  · refine callsIn_wide.2 ?_
    have hFB : FrB Fb a.tmps := hFb K w a.tmps hs
    have fresh1 : freshH H1 (w.heap.size + 1) := freshH_of fun x hx e=>by
      have := HRel.lt hs.krel hs.hrel (b := x.1) (o := x.2) (.tail _ hx)
      omega
    have hst : ∀ pre x,pre ++ [x] <+: ys → YStep P (w.heap.size + 1) (ColJ bs (w.heap.size + 1) w.heap.size r xs) pre x := fun pre x hpx=>by
      have hxm : x ∈ ys := hpx.subset (by simp)
      exact ystep hm (bs := bs) (L := w.heap.size + 1) (Db := w.heap.size) (p := p) (r := r) (xs := xs) (pre := pre) (x := x) (X := X) (Y := Y) (Fb := Fb) (by rw [hr]) (by rw [hr]) (by rw [hr]) (by omega) (by omega) (by omega) (by rw [hr]; exact hFB) (hys x hxm).1 (hys x hxm).2 (by rw [hr]; exact hA) (by rw [hr]; exact hC) (by rw [hr]; exact cA) (by rw [hr]; exact cC) (by rw [hr]; exact vA) (by rw [hr]; exact vC) iA iC (by rw [hr]; exact dA) (by rw [hr]; exact dC) (hbody pre x hpx)
    have kk : ∀ b,b < w.heap.size → b ≠ bs → ranK bs w.heap.size K b = (match K b with
        | .tok n (.cell c j)=>if c = bs ∧ j = 0 then .tok n (.cell (w.heap.size + 1) 0) else .tok n (.cell c j)
        | .tok n _=>.tok n .outer
        | y=>y) := fun b h1 h2=>by
      unfold ranK
      rw [if_neg (by omega)]
    have hnB : ∀ b n o,K b = .tok n o → b < w.heap.size ∧ b ≠ bs := fun b n o h=>⟨hs.krel.lt_of (by rw [h]; simp),fun e=>by subst e; rw [hpb] at h; cases h⟩
    have hext1 : ExtV K w (ranK bs w.heap.size K) W1 := by
      refine ⟨hos1.1,hos1.2.1,⟨hos1.2.2.1,Nat.le_of_eq hos1.2.2.2.symm⟩,by omega,fun b hb hi=>⟨?_,hold b hb⟩,fun b n o hb hn=>?_,fun b hb=>.inr ?_⟩
      · rw [kk b hb (fun e=>by subst e; rw [hpb] at hi; cases hi),hi]
      · obtain ⟨h1,h2⟩ := hnB b n o hb
        rw [kk b h1 h2,hb]
        have hc := fun j (_ : j < n)=>cell_of_block (hold b h1) j
        cases o with
        | cell c j =>
          by_cases e : c = bs ∧ j = 0
          · exact ⟨n,_,if_pos e,Nat.le_refl _,hc⟩
          · exact ⟨n,_,if_neg e,Nat.le_refl _,hc⟩
        | slot i j=>exact ⟨n,_,rfl,Nat.le_refl _,hc⟩
        | outer=>exact ⟨n,_,rfl,Nat.le_refl _,hc⟩
      · have := hs.krel.lt_of (b := b) (by rw [hb]; simp)
        omega
    have hkr1 : KRel (ranK bs w.heap.size K) W1 := fun b hb=>by
      unfold ranK
      rw [if_neg (by omega),hs.krel b (by omega)]
    have hns1 : NoSlot (ranK bs w.heap.size K) := fun b n i j h=>by
      unfold ranK at h
      split at h
      · cases h
      · split at h
        · split at h <;> cases h
        · cases h
        · rename_i hne1 hne2
          exact hne2 n (.slot i j) h
    have hrel1 : HRel (ranK bs w.heap.size K) W1 ((w.heap.size + 1,.lp (ColJ bs (w.heap.size + 1) w.heap.size r xs) []) :: H1) := by
      refine ⟨?_,fun b o hm'=>?_⟩
      · simp only [List.map_cons,List.nodup_cons]
        refine ⟨fun hmem=>?_,hnd.2⟩
        obtain ⟨x,hx,he⟩ := List.mem_map.1 hmem
        exact freshH_mem fresh1 hx he
      · rcases List.mem_cons.1 hm' with h | h
        · injection h with h1 h2
          subst h1 h2
          refine ⟨⟨0,1,by simp [ranK]⟩,⟨by simp [ranK],by simp [ranK],by simp [ranK],hl1,hd1,by simpa using hlit,u,Tb,(hold bs hltB).trans hhb,u2,?_⟩,ColJ.ok⟩
          have hxs : xs ++ List.map cellsOf [] = xs := by simp
          rw [hxs]
          refine hown.lit hlit fun b n hb=>?_
          obtain ⟨h1,h2⟩ := hnB b n _ hb
          exact ⟨by rw [kk b h1 h2,hb]; simp,hold b h1⟩
        · have hne : b ≠ bs := fun e=>by subst e; exact hnd.1 (List.mem_map.2 ⟨_,h,rfl⟩)
          refine AO.to hext1 (fun hp=>?_) (fun c n j hc=>?_) (hs.hrel.ok b o (.tail _ h))
          · have hlt := hs.krel.lt_of (b := b) (by rw [hp]; simp)
            exact ⟨by rw [kk b hlt hne,hp],hold b hlt⟩
          · obtain ⟨h1,h2⟩ := hnB c n _ hc
            refine ⟨?_,hold c h1⟩
            rw [kk c h1 h2,hc]
            simp [hne]
    have hcapE : capA [.yld (w.heap.size + 1)] caps = [.yld (w.heap.size + 1)] ++ caps := by
      unfold capA
      split
      · cases hisb
      · rfl
    refine ((hit (w.heap.size + 1) _ fresh1 hst).2 (ranK bs w.heap.size K) W1 _ hkr1 hns1 hrel1 (by rw [hcapE]; simp [hlsz]; omega) (fun j d v hj hv=>?_)).mono ?_
    · rw [hcapE] at hj
      match j with
      | 0 =>
        simp only [List.cons_append,List.nil_append,List.getElem?_cons_zero,Option.some.injEq] at hj
        subst hj
        rw [Array.getElem?_append_left (by simp)] at hv
        simp only [List.getElem?_toArray,List.getElem?_cons_zero,Option.some.injEq] at hv
        subst hv
        exact .yld _
      | j + 1 =>
        have hj' : caps[j]? = some d := by simpa using hj
        have hv' : lb[j]? = some v := by
          rw [Array.getElem?_append_right (by simp)] at hv
          simpa using hv
        exact (hlb j d v hj' hv').mono hext1
    · rintro e w' ⟨v,d,H',K',rfl,⟨H2,rfl,hR⟩,hfk,hkr',hrel',_⟩
      obtain ⟨_,hJ,_⟩ := hrel'.ok _ _ (.head _)
      obtain ⟨x,T,o1,o2,o3⟩ := hJ.own
      have hlL : w'.heap[w.heap.size + 1]? = some (.loop r) := hJ.hl
      have hend := run_endLoop (P := P) hlL (by rw [hr]; simp)
      obtain ⟨W3,hW3⟩ : ∃ W3,w'.putObj (w.heap.size + 1) (.loop { r with state := .exhausted }) = W3 := ⟨_,rfl⟩
      rw [hW3,show r.pending = none by rw [hr]] at hend
      refine ⟨none,W3,hend,?_⟩
      have oth : ∀ b,b ≠ w.heap.size + 1 → W3.heap[b]? = w'.heap[b]? := fun b hb=>by rw [← hW3]; exact World.putObj_heap_other hb
      have sz3 : W3.heap.size = w'.heap.size := by rw [← hW3]; simp [World.putObj]
      have os3 : W3.os = w'.os ∧ W3.tape = w'.tape ∧ W3.output = w'.output ∧ W3.drawn = w'.drawn := by rw [← hW3]; exact ⟨rfl,rfl,rfl,rfl⟩
      have hszw : w.heap.size + 2 ≤ w'.heap.size := by rw [← hsz1]; exact hfk.ext.size
      -- what an outer owner has
      have outK : ∀ b n,K' b = .tok n .outer → b < w.heap.size ∧ b ≠ bs ∧ ∃ o,K b = .tok n o ∧ (o = .outer ∨ ∃ i j,o = .slot i j) := fun b n hb=>by
        have h1 := hfk.new b n hb
        unfold ranK at h1
        split at h1
        · cases h1
        · rename_i hne
          cases hk : K b with
          | imm=>rw [hk] at h1; cases h1
          | priv=>rw [hk] at h1; cases h1
          | tok m o =>
            obtain ⟨g1,g2⟩ := hnB b m o hk
            refine ⟨g1,g2,?_⟩
            rw [hk] at h1
            cases o with
            | cell c j=>simp only at h1; split at h1 <;> cases h1
            | slot i j=>simp only at h1; injection h1 with h1; subst h1; exact ⟨_,rfl,.inr ⟨i,j,rfl⟩⟩
            | outer=>simp only at h1; injection h1 with h1; subst h1; exact ⟨_,rfl,.inl rfl⟩
      have toOut : ∀ b n o,K b = .tok n o → (∀ c j,o ≠ .cell c j) → K' b = .tok n .outer ∧ w'.heap[b]? = w.heap[b]? := fun b n o hb ho=>by
        obtain ⟨g1,g2⟩ := hnB b n o hb
        obtain ⟨e1,e2⟩ := hfk.own b n (by rw [kk b g1 g2,hb]; cases o <;> first | rfl | exact (ho _ _ rfl).elim)
        exact ⟨e1,e2.trans (hold b g1)⟩
      have ek : ∀ b,b ≠ bs → b ≠ w.heap.size → endK bs w.heap.size K K' b = (match K' b with
          | .tok n .outer=>K b
          | .tok n (.cell c j)=>if c = w.heap.size + 1 ∧ j = 0 then .tok n (.cell bs 0) else .tok n (.cell c j)
          | y=>y) := fun b h1 h2=>by
        unfold endK
        rw [if_neg h1,if_neg h2]
      have tokE : ∀ b n o,b ≠ bs → b ≠ w.heap.size → K' b = .tok n o → ∃ o',endK bs w.heap.size K K' b = .tok n o' := fun b n o h1 h2 hb=>by
        rw [ek b h1 h2,hb]
        cases o with
        | outer=>obtain ⟨_,_,o',g,_⟩ := outK b n hb; exact ⟨o',g⟩
        | slot i j=>exact ⟨_,rfl⟩
        | cell c j =>
          simp only
          split <;> exact ⟨_,rfl⟩
      have hextE : ExtV K' w' (endK bs w.heap.size K K') W3 := by
        refine ⟨os3.1,os3.2.1,⟨os3.2.2.1,Nat.le_of_eq os3.2.2.2.symm⟩,Nat.le_of_eq sz3.symm,fun b hb hi=>?_,fun b n o hb hn=>?_,fun b hb=>.inr ?_⟩
        · have h1 : b ≠ bs := fun e=>by subst e; rw [hJ.kb] at hi; cases hi
          have h2 : b ≠ w.heap.size := fun e=>by subst e; rw [hJ.kd] at hi; cases hi
          have h3 : b ≠ w.heap.size + 1 := fun e=>by subst e; rw [hJ.kl] at hi; cases hi
          exact ⟨by rw [ek b h1 h2,hi],oth b h3⟩
        · have h1 : b ≠ bs := fun e=>by subst e; rw [hJ.kb] at hb; injection hb with hb _; omega
          have h2 : b ≠ w.heap.size := fun e=>by subst e; rw [hJ.kd] at hb; injection hb with hb _; omega
          have h3 : b ≠ w.heap.size + 1 := fun e=>by subst e; rw [hJ.kl] at hb; injection hb with hb _; omega
          obtain ⟨o',e⟩ := tokE b n o h1 h2 hb
          exact ⟨n,o',e,Nat.le_refl _,fun j _=>cell_of_block (oth b h3) j⟩
        · rw [sz3]; exact hkr'.lt_of (by rw [hb]; simp)
      have hextT : ExtV K w (endK bs w.heap.size K K') W3 := by
        have hx := (hext1.trans hfk.ext).trans hextE
        exact hx
      have hkrE : KRel (endK bs w.heap.size K K') W3 := fun b hb=>by
        rw [ek b (by omega) (by omega),hkr' b (by omega)]
      have hkeepO : ∀ b n,K b = .tok n .outer → endK bs w.heap.size K K' b = .tok n .outer ∧ W3.heap[b]? = w.heap[b]? := fun b n hb=>by
        obtain ⟨g1,g2⟩ := hnB b n _ hb
        obtain ⟨e1,e2⟩ := toOut b n _ hb (fun _ _ e=>by cases e)
        exact ⟨by rw [ek b g2 (by omega),e1]; exact hb,(oth b (by omega)).trans e2⟩
      refine ⟨Fb,(bs,.cells [.own (xs ++ ys.map cellsOf)]) :: H2,endK bs w.heap.size K K',hQ H2 hR,⟨hextT,hkeepO,fun b n hb=>?_⟩,⟨hkrE,⟨?_,fun b o hm'=>?_⟩,hFB.1.symm,fun i d v hd' hv'=>hFB.2 i d v hd' hv' _ _⟩,by omega,?_⟩
      · by_cases h1 : b = bs
        · subst h1; simp [endK] at hb
        · by_cases h2 : b = w.heap.size
          · subst h2
            exact .inr ⟨Nat.le_refl _,(oth _ (by omega)).trans hJ.hd⟩
          · rw [ek b h1 h2] at hb
            split at hb
            · exact .inl hb
            · split at hb <;> cases hb
            · rename_i hne1 hne2
              exact (hne1 n hb).elim
      · simp only [List.map_cons,List.nodup_cons]
        have hnd2 := hrel'.nd
        simp only [List.map_cons,List.nodup_cons] at hnd2
        refine ⟨fun hmem=>?_,hnd2.2⟩
        obtain ⟨⟨b,o⟩,hx,he⟩ := List.mem_map.1 hmem
        simp only at he
        subst he
        have := hrel'.ok _ _ (.tail _ hx)
        have hkb := hJ.kb
        cases o with
        | cells cs=>have z := this.1; rw [hkb] at z; cases z
        | mp es=>have z := this.1; rw [hkb] at z; cases z
        | room cap zs =>
          rcases this.2 with ⟨z,_⟩ | ⟨b',cap',sz,c,T',z1,z2,_⟩
          · have := this.1; rw [z] at this; simp at this
          · injection z1 with z1; injection z1 with z1; injection z1 with z1; subst z1
            rw [hkb] at z2
            injection z2 with _ z2; injection z2 with z2 _; omega
        | lp J pr =>
          obtain ⟨⟨n,j,z⟩,_⟩ := this
          rw [hkb] at z
          injection z with _ z; injection z with z _; omega
      · rcases List.mem_cons.1 hm' with h | h
        · injection h with h1 h2
          subst h1 h2
          refine ⟨by simp [endK],_,T,(oth _ (by omega)).trans o1,rfl,fun j d hd'=>?_⟩
          match j with
          | 0 =>
            simp only [List.getElem?_cons_zero,Option.some.injEq] at hd'
            subst hd'
            refine ⟨x,rfl,o2,OwnAt.lit hJ.lit (fun c n hb=>?_) o3⟩
            have h1 : c ≠ b := fun e=>by subst e; rw [hJ.kb] at hb; injection hb with _ hb; injection hb with _ hb; cases hb
            have h2 : c ≠ w.heap.size := fun e=>by subst e; rw [hJ.kd] at hb; injection hb with _ hb; injection hb with _ hb; cases hb
            have h3 : c ≠ w.heap.size + 1 := fun e=>by subst e; rw [hJ.kl] at hb; injection hb with _ hb; injection hb with _ hb; cases hb
            exact ⟨by rw [ek c h1 h2,hb]; simp,oth c h3⟩
          | j + 1=>simp at hd'
        · have hnd2 := hrel'.nd
          simp only [List.map_cons,List.nodup_cons] at hnd2
          have hbL : b ≠ w.heap.size + 1 := fun e=>by subst e; exact hnd2.1 (List.mem_map.2 ⟨_,h,rfl⟩)
          refine AO.to hextE (fun hp=>?_) (fun c n j hc=>?_) (hrel'.ok b o (.tail _ h))
          · have h1 : b ≠ bs := fun e=>by subst e; rw [hJ.kb] at hp; cases hp
            have h2 : b ≠ w.heap.size := fun e=>by subst e; rw [hJ.kd] at hp; cases hp
            exact ⟨by rw [ek b h1 h2,hp],oth b hbL⟩
          · have hne : ∀ q,(Who.cell b j) ≠ .cell (w.heap.size + 1) q := fun q e=>by injection e with e _; exact hbL e
            have h1 : c ≠ bs := fun e=>by subst e; rw [hJ.kb] at hc; injection hc with _ hc; exact hne _ hc.symm
            have h2 : c ≠ w.heap.size := fun e=>by subst e; rw [hJ.kd] at hc; injection hc with _ hc; exact hne _ hc.symm
            have h3 : c ≠ w.heap.size + 1 := fun e=>by subst e; rw [hJ.kl] at hc; injection hc with _ hc; exact hne _ hc.symm
            exact ⟨by rw [ek c h1 h2,hc]; simp [hbL],oth c h3⟩
      · obtain ⟨Ds,m1,m2,m3⟩ := hd.2
        refine ⟨w.heap.size :: Ds,?_,by simp [m2],fun D hD=>?_⟩
        · simp only [List.nodup_cons]
          refine ⟨fun hmem=>?_,m1⟩
          have := hs.krel w.heap.size (Nat.le_refl _)
          rw [(m3 _ hmem).2.1] at this
          cases this
        · rcases List.mem_cons.1 hD with rfl | hD
          · refine ⟨hd.1,by unfold endK; rw [if_neg (by omega),if_pos rfl],(oth _ (by omega)).trans hJ.hd⟩
          · obtain ⟨n1,n2,n3⟩ := m3 D hD
            obtain ⟨e1,e2⟩ := hkeepO D 0 n2
            exact ⟨n1,e1,e2.trans n3⟩
end Go.Aw
end
