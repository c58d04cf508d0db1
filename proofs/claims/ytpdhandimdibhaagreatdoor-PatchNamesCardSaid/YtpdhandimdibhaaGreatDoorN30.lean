/- For every program and every memory: the call of the law's function returns true. Conditions: those of the statement. -/
import Derived.Test.YtpdhandimdibhaaGreatDoorN29
import Derived.Test.YtpdhandimdibhaaGreatDoorCards
import Derived.Test.YtpdhandimdibhaaGreatDoorTie
import Derived.Deep.DeepHandedRow
import Derived.Lib.LaidTab
set_option linter.unusedVariables false
set_option linter.unusedSimpArgs false
set_option maxRecDepth 100000
set_option maxHeartbeats 16000000
open Nat renaming reduceSub → qa,reduceAdd → qb,reduceMul → qc,reduceEqDiff → qd,reduceLeDiff → qe,reduceBEq → qf
section
namespace Go.Aw
open Go Go.RowKit Go.ChangeShapes Go.WideShapes
section
variable {P:Program}
structure Rw (P:Program) (t:TypeId) (n:Nat) {T:Type} (g:T→List D):Prop where
 out:∀{H:Type} (enc:TypeId×Value→H) (W:World) (fuel:Nat) (cs:List Value) (x:DataW H×List MemPlace),
  DataW.trod enc P W 0 (fun _=>true) true fuel t cs=some x→(DataW.weights P t x.1).all (·≤reachBytes)=true→
  ∃a:T,cs.length=n∧(g a).length=n∧∀(j:Nat) (d:D) (v:Value),(g a)[j]?=some d→cs[j]?=some v→v.oneCell'=true∧RepV (fun _=>.imm) W d v
theorem Rw.int {t:TypeId} {k:IntKind} (ht:P.underlying t=some (.int k)):Rw P t 1 (fun n:Int=>[.int k n]):=by
 refine ⟨?_⟩
 intro H enc W fuel cs x h _
 obtain ⟨n,rfl,rfl,hw⟩:=DataW.trod_int ht h
 exact ⟨n,rfl,rfl,wF rfl (.int k n hw)⟩
theorem Rw.str {t:TypeId} (ht:P.underlying t=some .string):Rw P t 1 (fun s:List UInt8=>[.str s]):=by
 refine ⟨?_⟩
 intro H enc W fuel cs x h hb
 obtain ⟨s,rfl,rfl,hs⟩:=DataW.trod_string ht h
 refine ⟨s.data.toList,rfl,rfl,wF rfl ?_⟩
 refine .str s.data.toList ?_
 have h1:s.data.toList.length≤reachBytes:=by simpa [DataW.weights] using hb
 exact Nat.le_trans h1 (by decide)
theorem uz {H:Type} {e:TypeId} {w:Nat}:∀{l:List (DataW H)} {d:DataW H},d∈l→w∈DataW.weights P e d→w∈DataW.weightsAll P e l
 | x::r,d,hd,hw=>by
  simp only [DataW.weightsAll,List.mem_append]
  rcases List.mem_cons.1 hd with rfl|h
  ·exact .inl hw
  ·exact .inr (uz h hw)
theorem Rw.slice {t e:TypeId} {n:Nat} {T:Type} {g:T→List D} (ht:P.underlying t=some (.slice e)) (hc:P.cellsOf e=n) (hn:0<n) (hby:1≤P.bytesOf e) (h:Rw P e n g):
  Rw P t 1 (fun l:List T=>[.slc (l.map g)]):=by
 refine ⟨?_⟩
 intro H enc W fuel cs x hx hb
 rcases DataW.trod_slice ht hx with ⟨rfl,rfl⟩|⟨a,len,cap,elems,rest,m,rfl,rfl,rfl,hba,hlc,hcm,hel,hget,hsp,_⟩
 ·exact ⟨[],rfl,rfl,wF rfl (.slcnil none)⟩
 ·rw [hc] at hget hsp
  have hbb:=List.all_eq_true.1 hb
  simp only [DataW.weights,ht] at hbb
  have hlen:elems.length≤reachBytes:=by
   have h1:(elems.length+rest.length)*P.bytesOf e≤reachBytes:=by
    have:=hbb _ (List.mem_cons_self ..)
    simpa using this
   have h2:elems.length+rest.length≤(elems.length+rest.length)*P.bytesOf e:=Nat.le_mul_of_pos_right _ hby
   omega
  have hel2:∀y,y∈elems→(DataW.weights P e y.1).all (·≤reachBytes)=true:=fun y hy=>by
   refine List.all_eq_true.2 fun w hw=>hbb w ?_
   exact List.mem_cons_of_mem _ (List.mem_append_left _ (uz (List.mem_map_of_mem (f:=(·.1)) hy) hw))
  obtain ⟨l,hl,hR⟩:=uA (R:=fun i (y:DataW H×List MemPlace) (c:T)=>∃cs',W.cells? 0 (a.add (i*n)) n=some cs'∧(g c).length=n∧∀(j:Nat) (d:D) (v:Value),(g c)[j]?=some d→cs'[j]?=some v→v.oneCell'=true∧RepV (fun _=>.imm) W d v) elems 0 (fun i y hy=>by
    have hi:i<len:=by rw [←hel];exact (List.getElem?_eq_some_iff.1 hy).1
    have hg:=hget i hi
    rw [hy] at hg
    obtain ⟨cs',e1,e2⟩:=Option.bind_eq_some_iff.1 hg
    obtain ⟨c,_,g2,g4⟩:=h.out enc W m cs' y e2 (hel2 y (List.mem_of_getElem? hy))
    exact ⟨c,cs',by rw [Nat.zero_add];exact e1,g2,g4⟩)
  have hRi:∀i c,l[i]?=some c→i<len∧∃cs',W.cells? 0 (a.add (i*n)) n=some cs'∧(g c).length=n∧∀(j:Nat) (d:D) (v:Value),(g c)[j]?=some d→cs'[j]?=some v→v.oneCell'=true∧RepV (fun _=>.imm) W d v:=fun i c hi=>by
   have hlt:i<elems.length:=by rw [←hl];exact (List.getElem?_eq_some_iff.1 hi).1
   have:=hR i elems[i] c (List.getElem?_eq_getElem hlt) hi
   rw [Nat.zero_add] at this
   exact ⟨by omega,this⟩
  refine ⟨l,rfl,rfl,wF rfl ?_⟩
  ·by_cases hz:cap=0
   ·have h0:l= []:=List.eq_nil_of_length_eq_zero (by omega)
    have h1:len=0:=by omega
    subst hz;subst h1;subst h0
    exact .slcnil (some a)
   ·have hpl:a.spot=none∧a.block<W.heap.size:=by
     have go:∀(k:Nat) (y:Option (DataW H×List MemPlace)),k*n=0→(∃z,y=some z)→(W.cells? 0 (a.add (k*n)) n).bind (DataW.trod enc P W 0 (fun _=>true) true m e)=y→a.spot=none∧a.block<W.heap.size:=by
      rintro k _ h0 ⟨z,rfl⟩ hg
      obtain ⟨cs',e1,e2⟩:=Option.bind_eq_some_iff.1 hg
      obtain ⟨k1,k2⟩:=vC e1
      have:=oq (k2 0 cs'[0] (List.getElem?_eq_getElem (by omega)))
      simpa [Addr.add,h0] using this
     by_cases hp:0<len
     ·exact go 0 _ (Nat.zero_mul n) ⟨_,List.getElem?_eq_getElem (by omega)⟩ (hget 0 hp)
     ·have h0:len=0:=by omega
      obtain ⟨hr1,hr2⟩:=hsp rfl
      exact go (len+0) _ (by rw [h0];exact Nat.zero_mul n) ⟨_,List.getElem?_eq_getElem (by omega)⟩ (hr2 0 (by omega))
    obtain ⟨b,off,sp⟩:=a
    obtain ⟨hpl1,hpl2⟩:=hpl
    simp only at hpl1 hpl2
    subst hpl1
    have hll:(l.map g).length=len:=by simp [hl,hel]
    have key:∀(i:Nat) (x:List D),(l.map g)[i]?=some x→x.length=n∧∀(j:Nat) (d:D),x[j]?=some d→∃v,W.cell? ⟨b,off+(i*n+j),none⟩=some v∧v.oneCell'=true∧RepV (fun _=>.imm) W d v:=fun i x hi=>by
     rw [List.getElem?_map,Option.map_eq_some_iff] at hi
     obtain ⟨c,hci,rfl⟩:=hi
     obtain ⟨_,cs',e1,e2,e3⟩:=hRi i c hci
     refine ⟨e2,fun j d hd=>?_⟩
     obtain ⟨k1,k2⟩:=vC e1
     have hj:j<cs'.length:=by rw [k1,←e2];exact (List.getElem?_eq_some_iff.1 hd).1
     have h5:=k2 j cs'[j] (List.getElem?_eq_getElem hj)
     refine ⟨cs'[j],?_,e3 j d cs'[j] hd (List.getElem?_eq_getElem hj)⟩
     rw [←h5]
     rw [Addr.add_add]
     simp only [Addr.add]
     split
     ·rename_i hz';rw [hz'];rfl
     ·rfl
    have hrep:=RepV.slc (K:=fun _=>.imm) (w:=W) (l.map g) b off cap n (fun i j=>(W.cell? ⟨b,off+(i*n+j),none⟩).getD default) (by rw [hll];have:=qt;have:reachBytes=140737488351232:=rfl;omega) (by rw [hll];exact hlc) hcm
     (fun i x hi=>(key i x hi).1) ⟨hpl2,trivial⟩
     (fun i x hi j d hd=>by obtain ⟨v,e1,e2,e3⟩:=(key i x hi).2 j d hd;rw [e1];rfl)
     (fun i x hi j d hd=>by obtain ⟨v,e1,e2,e3⟩:=(key i x hi).2 j d hd;rw [e1];exact e2)
     (fun i x hi j d hd=>by obtain ⟨v,e1,e2,e3⟩:=(key i x hi).2 j d hd;rw [e1];exact e3)
    rw [hll] at hrep
    exact hrep
theorem Rw.arg1 {t:TypeId} {T:Type} {g:T→D} (h:Rw P t 1 (fun a=>[g a])) (hr:Vl P t=false) {H:Type} {enc:TypeId×Value→H} {W:World} {r:Reach} {b0:Nat} {v:Value} {d:DataW H} {ps:List MemPlace}
  (hval:Value.okWide P W r b0 t v) (hd:DataW.Trod enc P W 0 (fun _=>true) true t v d ps) (hb:(DataW.weights P t d).all (·≤reachBytes)=true):∃a:T,RepV (fun _=>.imm) W (g a) v:=by
 obtain ⟨fuel,hf⟩:=hd
 obtain ⟨a,h1,_,h4⟩:=h.out enc W fuel _ (d,ps) hf hb
 refine ⟨a,?_⟩
 have hcl:Cell.okWide P W r b0 t v:=by
  unfold Value.okWide at hval
  unfold Vl at hr
  split at hval
  ·rename_i hq;simp [hq] at hr
  ·rename_i hq;simp [hq] at hr
  ·exact hval
 cases v with
 | agg cs=>
  unfold Cell.okWide at hcl
  split at hcl<;>simp_all [Cell.ok]
  done
 |_=>exact (h4 0 (g a) _ rfl rfl).2
end
end Go.Aw
namespace Go.Proofs.YtpdhandimdibhaaGreatDoor
open Go Go.Aw Go.RowKit Go.ChangeShapes Go.WideShapes
theorem rw_int:Rw Tryz.prog 3 1 (fun n:Int=>[.int .i64 n]):=Rw.int Tryz.underlying3
theorem rw_ints:Rw Tryz.prog 22 1 (fun l:List Int=>[.slc (ints l)]):=
 Rw.slice Tryz.underlying22 (by kernel_rfl) (by decide) (of_decide_eq_true (by kernel_rfl)) rw_int
theorem own:ownKnob Tryz.prog.godebug=none:=by kernel_rfl
theorem kids:Kids Tryz.prog (·<Tryz.prog.types.size):=kids_rows (by kernel_rfl) (by kernel_rfl)
theorem full:∀t e,t<Tryz.prog.types.size→Tryz.prog.underlying t=some (.slice e)→0<Tryz.prog.cellsOf e:=slices_full_of Tryz.prog (by kernel_rfl)
def Yw:Array Value:=(match (Rows.laid_wordbook_hash_constants:DataW Unit) with
 | .agg l=>l.map fun (d:DataW Unit)=>match d with
  | .lit (.int k n)=>Value.int k n
  |_=>undef
 |_=>[]).toArray
noncomputable def zn (os:Os):World:=
 { World.holding Tryz.prog os ⟨#[],#[],[]⟩ with heap:=(World.holding Tryz.prog os ⟨#[],#[],[]⟩).heap.modify 0 fun
   | .cells _ t frozen=>.cells Yw t frozen
   |o=>o}
theorem Zr (os:Os):laidMet Tryz.prog Rows.patchNamesRow.laid ((zn os).forCall (fun _ _=>0) ⟨#[],#[.slice none 0 0,.int .i64 0,.int .i64 0,.int .i64 0],[]⟩).memory:=
 laidMet_of_run' 70 (by kernel_rfl) (by kernel_rfl)
end Go.Proofs.YtpdhandimdibhaaGreatDoor
end
section
namespace Go.Proofs.YtpdhandimdibhaaGreatDoor.pn
open Go Go.Aw Go.RowKit Go.ChangeShapes Go.WideShapes Go.ChangeAt
theorem contract (H:Type) (enc:TypeId×Value→H) (W:World) (base:Nat) (args:Array Value) (ds gs:List (DataW H)) (before:List MemPlace)
  (hval:∀(j:Nat) t v,Tryz.f3.params[j]?=some t→args[j]?=some v→Value.okWide Tryz.prog W .any base t v)
  (hW:DataW.Whole enc Tryz.prog Tryz.f3.params.toList Rows.patchNamesSpec.vars false W args.toList ds gs before) (hk:(DataW.weightsEach Tryz.prog (Tryz.f3.params.toList++Rows.patchNamesSpec.plain.varTypes Tryz.prog) (ds++gs)).all (·≤reachBytes)=true):
  Calls Tryz.prog 3 args W fun e W'=>∃v,e= .returned v∧Rows.patchNamesSpec.post enc Tryz.prog Tryz.f3 false true false false W args v W':=by
 have hW':=hW
 obtain ⟨p,q,hA0,hV,rfl,hfz,hnd⟩:=hW
 have hA:DataW.TrodAll enc Tryz.prog W 0 (fun _=>true) true Tryz.f3.params.toList args.toList ds p:=hA0
 rw [Tryz.params3] at hA hval hk
 obtain ⟨v0,vs0,d0,ds0,p0,q0,hargs,rfl,rfl,h0,r0⟩:=trodAll_cons hA
 obtain ⟨v1,vs1,d1,ds1,p1,q1,rfl,rfl,rfl,h1,r1⟩:=trodAll_cons r0
 obtain ⟨v2,vs2,d2,ds2,p2,q2,rfl,rfl,rfl,h2,r2⟩:=trodAll_cons r1
 obtain ⟨v3,vs3,d3,ds3,p3,q3,rfl,rfl,rfl,h3,r3⟩:=trodAll_cons r2
 obtain ⟨rfl,rfl,rfl⟩:=trodAll_nil r3
 obtain rfl:args=#[v0,v1,v2,v3]:=by cases args;simp_all
 obtain ⟨rfl,rfl⟩:=trodVars_none hV
 simp only [List.append_nil,List.cons_append,List.nil_append,DataW.weightsEach,List.all_append,Bool.and_eq_true] at hk
 obtain ⟨k0,k1,k2,k3,_⟩:=hk
 obtain ⟨l,e0⟩:=rw_ints.arg1 (by kernel_rfl) (hval 0 _ v0 rfl rfl) h0 k0
 obtain ⟨a,e1⟩:=rw_int.arg1 (by kernel_rfl) (hval 1 _ v1 rfl rfl) h1 k1
 obtain ⟨how,e2⟩:=rw_int.arg1 (by kernel_rfl) (hval 2 _ v2 rfl rfl) h2 k2
 obtain ⟨bb,e3⟩:=rw_int.arg1 (by kernel_rfl) (hval 3 _ v3 rfl rfl) h3 k3
 refine ((f_pn (l:=l) (a:=a) (how:=how) (bb:=bb) (H:= []) (R:=fun d H=>d= .bool true) rfl).calls W _ rfl ?_).mono ?_
 ·intro j d v hd hv
  match j with
  |0=>cases hd;cases hv;exact e0
  |1=>cases hd;cases hv;exact e1
  |2=>cases hd;cases hv;exact e2
  |3=>cases hd;cases hv;exact e3
  |j+4=>cases hd
 ·rintro e W' ⟨v,d,H',K',rfl,rfl,hb,hr⟩
  have hv:v= .bool true:=by cases hr with|bool=>rfl
  subst hv
  exact ⟨_,rfl,VH kids full (by rw [Tryz.params3];decide) hW' rfl hb rfl Tryz.underlying4 rfl⟩
theorem reads (os:Os) {H:Type} (enc:TypeId×Value→H):∃places,DataW.whole enc Tryz.prog ((zn os).forCall (fun _ _=>0) ⟨#[],#[.slice none 0 0,.int .i64 0,.int .i64 0,.int .i64 0],[]⟩).memory Tryz.f3.params.toList Rows.patchNamesSpec.vars false #[Value.slice none 0 0,Value.int .i64 0,Value.int .i64 0,Value.int .i64 0].toList 8=some ([.nil,.lit (.int .i64 0),.lit (.int .i64 0),.lit (.int .i64 0)],[],places):=
 ⟨[],by kernel_rfl⟩
theorem lifted (os:Os) (started:os.Started) (H:Type) (enc:TypeId×Value→H) (F:Stop.Interp):
  ReturnsInHanded {} Tryz.checked os 3 .any ((OpenSpec.ofChange Rows.patchNamesSpec).preRow enc Tryz.prog Tryz.f3 Rows.patchNamesRow.domain false Rows.patchNamesRow.laid) (((OpenSpec.ofChange Rows.patchNamesSpec).at F).post enc Tryz.prog Tryz.f3 false true false false):=by
 obtain ⟨places,hx⟩:=reads os enc
 refine returnsInHanded_of_row (C:=Tryz.checked) (s:=OpenSpec.ofChange Rows.patchNamesSpec) own started (by kernel_rfl) Tryz.func3
  (witness_row_at (enc:=enc) (C:=Tryz.checked) false (zn os) #[.slice none 0 0,.int .i64 0,.int .i64 0,.int .i64 0] rfl (by kernel_rfl) (by kernel_rfl) (by kernel_rfl)
   (OpenSpec.preRow_of_cond 8 hx (by kernel_rfl) (fun k hk=>by cases hk) (by kernel_rfl) (Zr os))) ?_
 intro W base args ds gs before hval hW _ _ hz _ _ _
 exact contract H enc W base args ds gs before hval hW hz
theorem said:Rows.PatchNamesSaid:=
 OpenClaim.holds_of_cond 3 Tryz.f3 rfl rfl rfl rfl rfl rfl rfl ⟨rfl,rfl,rfl,rfl,rfl⟩ rfl rfl rfl rfl rfl (by kernel_rfl) Tryz.func3 (by kernel_rfl)
  (of_decide_eq_true (by kernel_rfl)) (by unfold Func.isWrapper;first|(rw [if_pos (by decide+kernel)];kernel_rfl)|(rw [if_neg (by decide+kernel)];exact ⟨rfl,rfl⟩))
  (fun os started H enc _ F=>by rw [OpenClaim.pre_eq_preRow];exact lifted os started H enc F)
theorem plain (f : FuncId) (fn : Func) (hf : Tryz.pinned.checked.prog.funcNamed "wordbook/wordbooklaw17.PatchNames" = some f) (hfn : Tryz.pinned.checked.prog.funcs[f]? = some fn) :
  false=Tryz.pinned.checked.prog.looks []∧∀(j:Nat) t,fn.params[j]?=some t→Tryz.pinned.checked.prog.wantsStandIn t=false:=by
 obtain rfl : f = 3 := Option.some.inj ((show Tryz.prog.funcNamed "wordbook/wordbooklaw17.PatchNames" = some 3 by kernel_rfl).symm.trans hf) |>.symm
 obtain rfl:fn=Tryz.f3:=(Option.some.inj (Tryz.func3.symm.trans hfn)).symm
 refine ⟨by kernel_rfl,fun j t ht=>?_⟩
 rw [Tryz.params3] at ht
 have hm:=Array.mem_of_getElem? ht
 have hall:∀t∈ [22,3,3,3],Tryz.prog.wantsStandIn t=false:=by
  intro t ht
  simp only [List.mem_cons,List.not_mem_nil,or_false] at ht
  rcases ht with rfl|rfl|rfl|rfl<;>kernel_rfl
 exact hall t (by simpa using hm)
theorem card:Rows.PatchNamesCardSaid:=
 Claim7.holds_tied_plain_at .later [] _ _ _ _ said (fun _ h=>by cases h) (by kernel_rfl) (fun _ h=>by cases h) patchNames_row_tie rfl ⟨rfl,rfl⟩ (by kernel_rfl) rfl plain (by kernel_rfl)
end Go.Proofs.YtpdhandimdibhaaGreatDoor.pn
end
