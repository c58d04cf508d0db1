/- A part of the proof of what the last text says: Aw15, AwA. Conditions: those in each theorem. -/
import Derived.Test.YtpdhandimdibhaaGreatDoorN6
set_option linter.unusedVariables false
set_option linter.unusedSimpArgs false
set_option maxRecDepth 100000
set_option maxHeartbeats 16000000
open Nat renaming reduceSub → qa,reduceAdd → qb,reduceMul → qc,reduceEqDiff → qd,reduceLeDiff → qe,reduceBEq → qf
section
namespace Go.Aw
open Go Go.RowKit
def rOk:List ResultVar→Bool
 | []=>true
 | .tmp t::r=>r.all (fun x=>match x with| .tmp t'=>t' !=t|_=>true)&&rOk r
 | .cell _ _::r=>rOk r
def QW:List ResultVar→Nat→Nat→Who
 | [],_,_=>.slot 1 0
 | .tmp t'::rs,q,t=>if t'=t then .slot 0 (q+1) else QW rs (q+1) t
 | .cell _ _::rs,q,t=>QW rs (q+1) t
theorem uO:∀(rs:List ResultVar) (q t:Nat),∃i j,QW rs q t= .slot i j
 | [],q,t=>⟨1,0,rfl⟩
 | .tmp t'::rs,q,t=>by
  simp only [QW]
  split
  ·exact ⟨_,_,rfl⟩
  ·exact uO rs _ _
 | .cell _ _::rs,q,t=>uO rs _ _
theorem gG:∀(rs:List ResultVar) (q j t:Nat),rOk rs=true→rs[j]?=some (.tmp t)→QW rs q t= .slot 0 (q+j+1)
 | [],q,j,t,_,h=>by simp at h
 | .tmp t'::rs,q,0,t,_,h=>by
  simp only [List.getElem?_cons_zero,Option.some.injEq,ResultVar.tmp.injEq] at h
  simp [QW,h]
 | .tmp t'::rs,q,j+1,t,hk,h=>by
  simp only [rOk,Bool.and_eq_true] at hk
  simp only [List.getElem?_cons_succ] at h
  have hne:t'≠t:=fun e=>by
   have:=(List.all_eq_true.1 hk.1) _ (List.mem_of_getElem? h)
   simp [e] at this
  simp only [QW,if_neg hne]
  rw [gG rs (q+1) j t hk.2 h]
  congr 1
  omega
 | .cell _ _::rs,q,0,t,_,h=>by simp at h
 | .cell _ _::rs,q,j+1,t,hk,h=>by
  simp only [rOk] at hk
  simp only [List.getElem?_cons_succ] at h
  simp only [QW]
  rw [gG rs (q+1) j t hk h]
  congr 1
  omega
section
variable {P:Program}
theorem Qb {K:Nat→BK} {w:World}:∀(args:List D) (vs:List Value),vs.length=args.length→(∀(j:Nat) (d:D) (v:Value),args[j]?=some d→vs[j]?=some v→RepV K w d v)→facts args
 | [],_,_,_=>trivial
 |d::r,[],h,_=>by simp at h
 |d::r,v::vs,h,hr=>⟨(hr 0 d v rfl rfl).fact,Qb r vs (Nat.succ.inj h) (fun j d v h1 h2=>hr (j+1) d v h1 h2)⟩
theorem slotφ_fk {K:Nat→BK} {w:World} {φ:Who→Who} (h1:φ .outer= .outer) (h2:∀b j,φ (.cell b j)= .cell b j) (h3:∀i j,∃i' j',φ (.slot i j)= .slot i' j'):FK K w (relab φ K) w:=by
 refine ⟨qC φ K w,fun b n h=>⟨by rw [qR h,h1],rfl⟩,fun b n h=>?_⟩
 obtain ⟨o',e1,e2⟩:=ym h
 cases o' with
 |slot i j=>obtain ⟨i',j',h'⟩:=h3 i j;rw [h'] at e2;cases e2
 |cell c j=>rw [h2] at e2;cases e2
 |outer=>exact e1
theorem J1 {fn:Func} {K:Nat→BK} {w:World} {F:List D} {H:AH} {a:Act} {n:Nat} {R:D→AH→Prop} (hk:rOk fn.results.toList=true) (hs:St K w F H a.tmps) (h:ot P fn.results.toList F H fun d=>R d (back n H)):
  ∃v d H' K',(results fn a.tmps).run P w= .ok v w∧R d H'∧FK K w K' w∧KRel K' w∧HRel K' w H'∧RepO K' w 0 d v:=by
 have hres:∀vs:List Value,(fn.results.toList.mapM (uf a.tmps)).run P w= .ok vs w→(results fn a.tmps).run P w= .ok (if h:vs.length=1 then vs[0] else .tuple vs.toArray) w:=fun vs hv=>by
  have he:results fn a.tmps=(fn.results.mapM (uf a.tmps)>>=fun vs=>pure (if h:vs.size=1 then vs[0] else .tuple vs)):=by
   unfold results
   congr 2
  rw [he,Array.mapM_eq_mapM_toList,Sem.run_bind,Sem.run_map,hv]
  simp only [Result.andThen_ok,Sem.run_pure,List.size_toArray]
  split<;>simp
 have hsub:HRel K w (back n H):=(hs.sub (un n H)).hrel
 unfold ot at h
 split at h
 ·rename_i r hr
  split at h
  ·rename_i d hd
   obtain ⟨v,h1,h2⟩:=oa (P:=P) hs hd
   have hrun:=hres [v] (by rw [hr];simp [h1])
   simp only [List.length_cons,List.length_nil,Nat.zero_add,dite_true,List.getElem_cons_zero] at hrun
   rcases h2 with ⟨t,rfl,h2⟩|⟨_,h2⟩
   ·let φ:Who→Who:=fun o=>match o with
     | .slot i j=>if i=t then .slot 0 j else .slot 1 j
     |x=>x
    refine ⟨v,d,back n H,relab φ K,hrun,h,slotφ_fk rfl (fun _ _=>rfl) (fun i j=>?_),jE hs.krel,yw ⟨fun _ _=>rfl,rfl⟩ hsub,YC (h2.conv (qC φ K w) (fun b m hb=>by rw [qR hb];simp [φ]))⟩
    simp only [φ]
    split
    ·exact ⟨_,_,rfl⟩
    ·exact ⟨_,_,rfl⟩
   ·exact ⟨v,d,back n H,K,hrun,h,.refl K w,hs.krel,hsub,h2.viewO⟩
  ·exact h.elim
 ·rename_i rs hnr
  split at h
  ·rename_i ds hds
   obtain ⟨vs,g1,g2,g3,g4⟩:=oc (P:=P) hs _ _ hds
   have hrun:=hres vs g1
   have hl1:vs.length≠1:=fun e=>by
    have hl:fn.results.toList.length=1:=by omega
    match hq:fn.results.toList,hl with
    | [r],_=>exact hnr r hq
   rw [dif_neg hl1] at hrun
   let φ:Who→Who:=fun o=>match o with
    | .slot i j=>QW fn.results.toList 0 i
    |x=>x
   refine ⟨.tuple vs.toArray,.tup ds,back n H,relab φ K,hrun,h,slotφ_fk rfl (fun _ _=>rfl) (fun i j=>uO _ _ _),jE hs.krel,yw ⟨fun _ _=>rfl,rfl⟩ hsub,vs.toArray,rfl,by simp [g2],fun j d u hd hu=>?_⟩
   have hu':vs[j]?=some u:=by simpa using hu
   have hj:j<fn.results.toList.length:=by rw [g3];exact (List.getElem?_eq_some_iff.1 hd).1
   rcases g4 j _ d u (List.getElem?_eq_getElem hj) hd hu' with ⟨t,ht,hc⟩|⟨_,hc⟩
   ·refine hc.conv (qC φ K w) (fun b m hb=>?_)
    rw [qR hb]
    have hp:=gG fn.results.toList 0 j t hk (by rw [List.getElem?_eq_getElem hj,ht])
    simp [φ,hp]
   ·exact (RepV.mono (qC φ K w) hc).repC (fun xs e=>by subst e;exact hc.not_own)
  ·exact h.elim
theorem ACall.calls {f:FuncId} {args:List D} {R:D→AH→Prop} (h:ACall P f args [] R) (w:World) (vs:Array Value) (hl:vs.size=args.length)
  (hr:∀(j:Nat) (d:D) (v:Value),args[j]?=some d→vs[j]?=some v→RepV (fun _=>.imm) w d v):
  Calls P f vs w fun e w'=>∃v d H' K',e= .returned v∧R d H'∧Below w.heap.size w w'∧RepO K' w' 0 d v:=by
 refine (h.2 (fun _=>.imm) w vs (fun _ _=>rfl) (fun _ _ _ _ h=>by cases h) ⟨by simp,fun b o hm=>by simp at hm⟩ hl hr).mono fun e w' ⟨v,d,H',K',g1,g2,g3,g4,g5,g6⟩=>⟨v,d,H',K',g1,g2,?_,g6⟩
 exact ⟨g3.ext.os,g3.ext.tape,g3.ext.output.1,g3.ext.size,fun b hb=>(g3.ext.imm b hb rfl).2⟩
end
end Go.Aw
end
section
namespace Go.Aw
open Go Go.RowKit
theorem vu {α:Type} {sz:Nat} (hpos:0<sz):∀{xs:List (List α)},(∀x∈xs,x.length=sz)→∀q,xs.flatten[q]?=(xs[q / sz]?).bind (·[q % sz]?)
  | [],_,q=>by simp
  | x::r,h,q=>by
    have hx:=h x (.head _)
    rw [List.flatten_cons,List.getElem?_append]
    by_cases hq:q<sz
    · rw [if_pos (by omega),Nat.div_eq_of_lt hq,Nat.mod_eq_of_lt hq]
      rfl
    · rw [if_neg (by omega),vu hpos (fun y hy=>h y (.tail _ hy)),hx]
      have h1:q / sz=(q - sz) / sz+1:=by
        rw [show q=(q - sz)+sz by omega,Nat.add_div_right _ hpos]
        simp
      have h2:q % sz=(q - sz) % sz:=by
        rw [show q=(q - sz)+sz by omega,Nat.add_mod_right]
        simp
      rw [h1,h2]
      simp
theorem yD {α:Type} {sz:Nat}:∀{xs:List (List α)},(∀x∈xs,x.length=sz)→xs.flatten.length=xs.length*sz
  | [],_=>by simp
  | x::r,h=>by
    rw [List.flatten_cons,List.length_append,yD (fun y hy=>h y (.tail _ hy)),h x (.head _),List.length_cons,Nat.add_mul]
    omega
section
variable {P:Program} {o:Oper} {F:List D} {H:AH} {k:List D→AH→Prop} {K:Nat→BK} {w:World} {a:Act} {Q:Exit→Act→World→Prop}
def mkH (P:Program) (t:TypeId) (l c:Operand) (dst:Option Tmp) (F:List D) (H:AH) (k:List D→AH→Prop):Prop:=
  match kY P t with
  | some (e,sz)=>match yK P e,rv F l,rv F c with
    |some z,.int _ n,.int _ m=>n=m∧0≤n∧(match P.info? e with|some i=>(i.bytes:Int)*n≤140737488355328∧n≤140737488355328|none=>False)∧∀b,qD H b→k (qG F dst (.hsl b n.toNat)) ((b,.cells (List.replicate n.toNat z).flatten)::H)
    |_,_,_=>False
  |none=>False
theorem Kd (hs:St K w F H a.tmps) (t:TypeId) (c:Array Value) (cs:List D) (n cap:Nat) (h1:n≤cap) (h2:cap≤maxLen) (h3:n≤big) (hc:c.size=cs.length)
    (hr:∀(j:Nat) (d:D),cs[j]?=some d→∃u,c[j]?=some u∧u.oneCell'=true∧(RepV K w d u∨(∃x,d= .own []∧u= .slice x 0 0))) (dst:Option Tmp):
    ∃K',FK K w K' (w.alloc (.cells c t))∧St K' (w.alloc (.cells c t)) (qG F dst (.hsl w.heap.size n)) ((w.heap.size,.cells cs)::H) (a.put dst (.slice (some ⟨w.heap.size,0,none⟩) n cap)).tmps:=by
  obtain ⟨hp,hk'⟩:=yQ (K:=K) (w:=w) hs.krel (.cells c t) (x:= .priv) (by simp)
  refine ⟨_,hp.fk hs.krel,hs.put (hp.keep hs.krel) (fun _ _ h=>h) hk' ?_ dst (fun i _=>RepV.viewO (.hsl _ _ _ h1 h2 h3))⟩
  have hold:=hs.hrel.pres hs.krel hp
  refine ⟨?_,fun b o hm=>?_⟩
  · simp only [List.map_cons,List.nodup_cons]
    refine ⟨fun hm=>?_,hold.nd⟩
    rw [List.mem_map] at hm
    obtain ⟨⟨b,o⟩,e1,e2⟩:=hm
    have:=hs.hrel.lt hs.krel e1
    simp only [] at e2
    omega
  · rcases List.mem_cons.1 hm with h|h
    · injection h with e1 e2
      subst e1 e2
      refine ⟨jR _ _ _,c,t,heap_alloc_new w _,hc,fun j d hd=>?_⟩
      obtain ⟨u,e1,e2,e3⟩:=hr j d hd
      refine ⟨u,e1,e2,?_⟩
      rcases e3 with e3|⟨x,rfl,rfl⟩
      · exact (RepV.mono (hp.keep hs.krel).ext e3).repC (fun xs e=>by subst e;exact e3.not_own)
      · exact .inl ⟨rfl,x,rfl⟩
    · exact hold.ok b o h
theorem Yi (K:Nat→BK) (w:World) {u:Value} (h:yH u=true):RepV K w (jj u) u∨∃x,jj u= .own []∧u= .slice x 0 0:=by
  have hcd:=y4 (K:=K) (w:=w) (o:= .outer) h
  generalize hcc:jj u=cc at hcd
  cases cc with
  | own xs=>
    right
    unfold jj at hcc
    split at hcc<;>first
      | (injection hcc with hcc
         subst hcc
         first|exact ⟨none,rfl,rfl⟩|exact ⟨none,rfl,by assumption⟩)
      |(exact absurd hcc (by simp))
  |_=>exact .inl hcd
theorem stp_mkH (hs:St K w F H a.tmps) (hok:jq o=true) {t:TypeId} {l c:Operand} (ho:o.op= .makeSlice t l c) (h:mkH P t l c o.dst F H k):o.wp P a w (OKd k K w a.defers) Q:=by
  have hops:=hs.ops (xs:=o.op.operands) (by unfold jq at hok;simp only [Bool.and_eq_true] at hok;exact hok.1)
  have hml:l∈o.op.operands.toList:=by simp [ho,Op.operands]
  have hmc:c∈o.op.operands.toList:=by simp [ho,Op.operands]
  unfold mkH at h
  split at h
  · rename_i e sz hsl
    split at h
    · rename_i z k1 n k2 m hz hl hc
      obtain ⟨rfl,h0,hb,h⟩:=h
      obtain ⟨hu,hsz,i,hi,his⟩:=ju hsl
      obtain ⟨i',zv,hi',hzv,z1,z2,z3,z4⟩:=y7 hz
      have hii:i=i':=by rw [hi] at hi';exact Option.some.inj hi'
      subst hii
      simp only [hi] at hb
      have hl':=(hl▸hops l hml).int_inv.1
      have hc':=(hc▸hops c hmc).int_inv.1
      obtain ⟨q,rfl⟩:=Int.eq_ofNat_of_zero_le h0
      have hrun:=run_make (P:=P) w t e i zv hu hi hzv k1 k2 q q h0 (Int.le_refl _) (by omega) (by omega)
      simp only [Int.toNat_natCast] at hrun h
      have hzl:z.length=sz:=by omega
      have hall:∀x∈List.replicate q z,x.length=sz:=fun x hx=>by rw [List.eq_of_mem_replicate hx];exact hzl
      obtain ⟨K',g1,g2⟩:=Kd hs e (madeCells zv.cells (q*i.size)) (List.replicate q z).flatten q q (Nat.le_refl _) (by unfold maxLen;omega) (by unfold big;omega) (by rw [size_madeCells,his,yD hall];simp) (fun j d hd=>by
        rw [vu hsz hall] at hd
        obtain ⟨x,e1,e2⟩:=Option.bind_eq_some_iff.1 hd
        obtain rfl:=List.eq_of_mem_replicate (List.mem_of_getElem? e1)
        have hjq:j<q*sz:=by
          have h1:=(List.getElem?_eq_some_iff.1 e1).1
          simp only [List.length_replicate] at h1
          exact (Nat.div_lt_iff_lt_mul hsz).1 h1
        have hzs:zv.cells.size=sz:=by omega
        have hjz:j % sz<zv.cells.size:=by rw [hzs];exact Nat.mod_lt _ hsz
        have hu':=Array.getElem?_eq_getElem hjz
        obtain ⟨f1,f2⟩:=z3 _ _ hu'
        have hd':=z4 _ d _ e2 hu'
        refine ⟨zv.cells[j % sz],?_,f1,by rw [hd'];exact Yi K w f2⟩
        unfold madeCells
        rw [Array.getElem?_map,Array.getElem?_range,if_pos (by rw [his];exact hjq)]
        simp only [Option.map_some,hzs]
        rw [getElem!_pos zv.cells _ hjz]) o.dst
      refine qL (v:= .slice (some ⟨w.heap.size,0,none⟩) q q) (w':=w.alloc (.cells (madeCells zv.cells (q*i.size)) e)) ?_ ⟨_,_,K',h _ (hs.hrel.fresh hs.krel),g1,g2,qy _ _⟩
      simp only [execOp,ho,Sem.run_bind,hl',hc',hrun,Result.andThen_ok]
      rfl
    · exact h.elim
  · exact h.elim
def qW:AH→Nat→AH
  | [],_=>[]
  |(c,o)::r,b=>if b=c then r else (c,o)::qW r b
theorem erase_sub {b:Nat}:∀{H:AH},(qW H b).Sublist H
  | []=>List.Sublist.refl _
  | (c,o)::r=>by
    unfold qW
    split
    · exact List.sublist_cons_self _ _
    · exact List.Sublist.cons_cons _ erase_sub
theorem yE {b:Nat}:∀{H:AH},(H.map (·.1)).Nodup→∀{c:Nat} {o:AO},(c,o)∈qW H b→c≠b
  | [],_,c,o,h=>by simp [qW] at h
  | (c',o')::r,hn,c,o,h=>by
    simp only [List.map_cons,List.nodup_cons] at hn
    unfold qW at h
    split at h
    · rename_i e
      intro e'
      subst e' e
      exact hn.1 (List.mem_map.2 ⟨_,h,rfl⟩)
    · rename_i e
      rcases List.mem_cons.1 h with h|h
      · injection h with h1 _
        subst h1
        exact Ne.symm e
      · exact yE hn.2 h
def plain:D→Bool
  | .own _=>false
  |_=>true
theorem Js {o':Who} {d:D} {v:Value} (h:plain d=true) (hr:RepC K w o' d v):RepV K w d v:=by
  cases d<;>first|exact hr|(simp [plain] at h)
def apH (P:Program) (t u:TypeId) (x y:Operand) (dst:Option Tmp) (F:List D) (H:AH) (k:List D→AH→Prop):Prop:=
  match x,dst with
  | .tmp s,some d=>match ev F (.tmp s),Ke P t u with
    | .own [],some (_,sz,bs)=>match rv F y with
      | .slc ys=>(∀y∈ys,y.length=sz)∧ys.length*bs≤140737488355328∧(ys= []→k ((F.set s (.slc [])).set d (.own [])) H)∧
          (ys≠ []→∀b cap m,qD H b→ys.length*sz+m=cap*sz→k ((F.set s (.slc [])).set d (.hgs b ys.length cap)) ((b,.cells (ys.flatten++List.replicate m .any))::H))
      |_=>False
    | .hgs b n cap,some (_,sz,bs)=>match rv F y,qu H b with
      | .slc ys,some (.cells cs)=>(∀y∈ys,y.length=sz)∧cs.length=cap*sz∧(n+ys.length)*bs≤140737488355328∧(cs.take (n*sz)).all plain=true∧
          ∀b' cap' m,qD (qW H b) b'→n*sz+ys.length*sz+m=cap'*sz→k (F.set d (.hgs b' (n+ys.length) cap')) ((b',.cells (cs.take (n*sz)++(ys.flatten++List.replicate m .any)))::qW H b)
      |_,_=>False
    |_,_=>False
  |_,_=>False
theorem KK {z:Array Value} {n j:Nat} (h:j<(Builtin.zeroCells z n).size) (hp:0<z.size):∃i,(Builtin.zeroCells z n)[j]?=some z[i]!∧i<z.size:=by
  have hs:(Builtin.zeroCells z n).size=n*z.size:=by simp [Builtin.zeroCells]
  refine ⟨j % z.size,?_,Nat.mod_lt _ hp⟩
  unfold Builtin.zeroCells
  rw [Array.getElem?_map,Array.getElem?_range,if_pos (by rw [←hs];exact h)]
  rfl
theorem zO {b:Nat} {x:AO}:∀{H:AH},(∃o,qu H b=some o)→(b,x)∈qF H b x
  | [],⟨o,h⟩=>by simp [qu] at h
  | (c,o')::r,⟨o,h⟩=>by
    simp only [qF]
    simp only [qu] at h
    split
    · rename_i e;subst e;exact .head _
    · rename_i e;rw [if_neg e] at h;exact .tail _ (zO ⟨o,h⟩)
theorem gK {b:Nat} {x:AO}:∀{H:AH} {p:Nat×AO},p∈H→p.1≠b→p∈qF H b x
  | (c,o')::r,p,h,hne=>by
    simp only [qF]
    split
    · rename_i e
      rcases List.mem_cons.1 h with h|h
      · subst h;exact (hne e.symm).elim
      · exact .tail _ h
    · rcases List.mem_cons.1 h with h|h
      · subst h;exact .head _
      · exact .tail _ (gK h hne)
theorem stp_apG (hs:St K w F H a.tmps) (hok:jq o=true) {c:Call} {t u:TypeId} {x y:Operand} (ho:o.op= .call c) (hf:c.callee= .builtin .append) (hargs:c.args=#[x,y]) (htys:c.argTypes=#[t,u]) {s d:Tmp} (hx:x= .tmp s) (hd:o.dst=some d) {b n cap:Nat} {e:TypeId} {sz bs:Nat} {ys:List (List D)} {cs:List D}
    (hev:ev F (.tmp s)= .hgs b n cap) (hap:Ke P t u=some (e,sz,bs)) (hys:rv F y= .slc ys) (hg:qu H b=some (.cells cs)) (h2:∀y∈ys,y.length=sz) (h3:cs.length=cap*sz) (h4:(n+ys.length)*bs≤140737488355328) (h5:(cs.take (n*sz)).all plain=true)
    (h6:∀b' cap' m,qD (qW H b) b'→n*sz+ys.length*sz+m=cap'*sz→k (F.set d (.hgs b' (n+ys.length) cap')) ((b',.cells (cs.take (n*sz)++(ys.flatten++List.replicate m .any)))::qW H b)):o.wp P a w (OKd k K w a.defers) Q:=by
  subst hx
  obtain ⟨hF,hT⟩:=uI hs hev (by simp)
  obtain ⟨hv,hnc,hcm,hnb⟩:=RepV.hgs_inv (show RepV K w (.hgs b n cap) (a.eval (.tmp s)) from hs.slot s _ _ hF hT)
  have hy:jL y=true:=by
    unfold jq at hok
    simp only [ho,Op.operands,Call.operands,hf,Bool.and_eq_true] at hok
    exact (Array.all_eq_true'.1 hok.2) y (by rw [hargs];simp)
  obtain ⟨hsl,i,zc,hi,his,hib,hz,hbp,hus,hun⟩:=zd hap
  obtain ⟨hu,hpos,_,_,_⟩:=ju hsl
  obtain ⟨i',z,hi',hz0,z1,z2,z3,z4⟩:=y7 hz
  rw [hi] at hi'
  obtain rfl:=Option.some.inj hi'
  subst his hib
  obtain ⟨news,s1,s2,s3,s4,s5,s6⟩:=ou (P:=P) (hys▸hs.rep hy) h2 hpos
  have hexec:∀r w',(Builtin.append_ #[t,u] o.type #[.slice (some ⟨b,0,none⟩) n cap,a.eval y]).run P w= .ok r w'→(execOp a.eval o).run P w= .ok (.value r) w':=fun r w' hr=>by
    simp only [execOp,ho,resolve,hf,Sem.run_bind,Sem.run_pure,Result.andThen_ok,invoke,builtin,hargs,htys]
    simp [hv,hr]
  have slot0:∀{K':Nat→BK} {w':World} {H':AH} {dd:D} {r:Value},KRel K' w'→HRel K' w' H'→(∀(i:Nat) (d':D) (v:Value),F[i]?=some d'→a.tmps[i]?=some v→RepO K' w' i d' v)→RepO K' w' d dd r→St K' w' (F.set d dd) H' (a.put (some d) r).tmps:=fun hk' hh' hsl' hdd=>by
    refine ⟨hk',hh',by simpa [Act.put] using hs.len,fun i d' v hx hv'=>?_⟩
    simp only [Act.put] at hv'
    rcases getElem?_set_some hx with ⟨rfl,rfl,hl⟩|⟨hne,hx⟩
    · rw [Array.getElem?_setIfInBounds_self_of_lt (by rw [hs.len];simpa using hl)] at hv'
      obtain rfl:=Option.some.inj hv'
      exact hdd
    · rw [Array.getElem?_setIfInBounds_ne hne] at hv'
      exact hsl' i d' v hx hv'
  obtain ⟨hpb,c0,T,hb,hc,hr⟩:=hs.hrel.ok b _ (j4 hg)
  have hcap:n*i.size≤cap*i.size:=Nat.mul_le_mul_right _ hnc
  have hfl:=yD h2
  have hlb:n+ys.length≤(n+ys.length)*i.bytes:=Nat.le_mul_of_pos_right _ hbp
  have htk:(cs.take (n*i.size)).length=n*i.size:=by simp;omega
  have hpl:∀(j:Nat) (dd:D),(cs.take (n*i.size))[j]?=some dd→plain dd=true:=fun j dd hj=>List.all_eq_true.1 h5 dd (List.mem_of_getElem? hj)
  have hnewY:∀(K':Nat→BK) (w':World),ExtV K w K' w'→∀(j:Nat) (dd:D) (u:Value),ys.flatten[j]?=some dd→news[j]?=some u→RepV K' w' dd u:=fun K' w' he j dd uu hdd hu'=>by
    rw [vu hpos h2] at hdd
    obtain ⟨x1,e1,e2⟩:=Option.bind_eq_some_iff.1 hdd
    obtain ⟨u2,f1,f2⟩:=s6 _ x1 e1 _ dd e2
    have hdm:=Nat.div_add_mod j i.size
    rw [Nat.mul_comm] at hdm
    rw [hdm,hu'] at f1
    obtain rfl:=Option.some.inj f1
    exact f2.mono he
  by_cases hroom:n+ys.length≤cap
  · have hroom':(n+ys.length)*i.size≤cap*i.size:=Nat.mul_le_mul_right _ hroom
    rw [Nat.add_mul] at hroom'
    obtain ⟨c',T',q1,q2,q3,q4,q5,q6,_⟩:=gw (P:=P) (off:=n*i.size) (vs:=news) (cs':=cs.take (n*i.size)++(ys.flatten++cs.drop (n*i.size+ys.length*i.size))) hs.krel hs.hrel hg (K':=K) (.refl K w) hs.krel (fun _ h=>h) (fun _ _ _ _ h=>h)
      (by rw [s2,h3];omega) s5 (by simp [hfl];omega) (fun j dd hdd hj=>by
        rw [s2] at hj
        rw [List.getElem?_append] at hdd
        split at hdd
        · rw [List.getElem?_take] at hdd
          split at hdd
          · exact hdd
          · cases hdd
        · rename_i hge
          rw [htk] at hge hdd
          rw [List.getElem?_append_right (by rw [hfl];omega),hfl,List.getElem?_drop] at hdd
          rw [show n*i.size+ys.length*i.size+(j - n*i.size - ys.length*i.size)=j by omega] at hdd
          exact hdd) (fun j dd uu hdd hu'=>by
        have hjl:j<news.length:=(List.getElem?_eq_some_iff.1 hu').1
        rw [s2] at hjl
        rw [List.getElem?_append_right (by omega),htk,show n*i.size+j - n*i.size=j by omega,List.getElem?_append_left (by rw [hfl];exact hjl)] at hdd
        have:=hnewY K w (.refl K w) j dd uu hdd hu'
        exact this.repC (fun xs e=>by rw [e] at this;exact this.not_own))
    have hst:=run_storeCells_at P b (n*i.size) T news 0 c0 w hb (by rw [hc,h3,s2];omega) s5
    simp only [Nat.add_zero] at hst
    rw [q1] at hst
    have hrun:=oT (P:=P) (w:=w) t u o.type e i hu hus hun hi (a.eval y) ys.length news s1 s2 (s3 w rfl) s5 b n cap c0 T hb hroom (by rw [hc,h3,s2];omega)
    injection hst with _ hst
    rw [←hst] at hrun
    have hnd':(((b,AO.cells (cs.take (n*i.size)++(ys.flatten++cs.drop (n*i.size+ys.length*i.size))))::qW H b).map (·.1)).Nodup:=by
      simp only [List.map_cons,List.nodup_cons]
      refine ⟨fun hm=>?_,(erase_sub.map (·.1)).nodup hs.hrel.nd⟩
      obtain ⟨⟨b2,o2⟩,e1,e2⟩:=List.mem_map.1 hm
      exact yE hs.hrel.nd e1 e2
    have hfr:qD (qW H b) b:=by
      have:∀{G:AH},b ∉ G.map (·.1)→qD G b:=by
        intro G
        induction G with
        |nil=>intro _;trivial
        | cons x r ih=>
          obtain ⟨c1,o1⟩:=x
          intro hm
          simp only [List.map_cons,List.mem_cons,not_or] at hm
          exact ⟨hm.1,ih hm.2⟩
      exact this (by simp only [List.map_cons,List.nodup_cons] at hnd';exact hnd'.1)
    have hfin:HRel K (w.setRow b c') ((b,.cells (cs.take (n*i.size)++(ys.flatten++List.replicate (cap*i.size - n*i.size - ys.length*i.size) .any)))::qW H b):=by
      refine ⟨by simpa using hnd',fun b' o' hm=>?_⟩
      rcases List.mem_cons.1 hm with h|h
      · injection h with g1 g2
        subst g1 g2
        obtain ⟨r1,c2,T2,r2,r3,r4⟩:=q5.ok _ _ (zO ⟨_,hg⟩)
        refine ⟨r1,c2,T2,r2,?_,fun j dd hdd=>?_⟩
        · rw [r3]
          simp only [List.length_append,List.length_drop,List.length_replicate,htk,hfl,h3]
          omega
        · rw [←List.append_assoc,List.getElem?_append] at hdd
          have hlen2:(cs.take (n*i.size)++ys.flatten).length=n*i.size+ys.length*i.size:=by rw [List.length_append,htk,hfl]
          split at hdd
          · rename_i hlt
            exact r4 j dd (by rw [←List.append_assoc,List.getElem?_append_left hlt];exact hdd)
          · rename_i hge
            have hj2:=(List.getElem?_eq_some_iff.1 hdd).1
            rw [List.length_replicate] at hj2
            have hany:dd= .any:=List.eq_of_mem_replicate (List.mem_of_getElem? hdd)
            subst hany
            have hjl:j<cs.length:=by rw [h3];omega
            obtain ⟨uu,e1,e2,_⟩:=r4 j cs[j] (by
              rw [←List.append_assoc,List.getElem?_append_right (by omega),List.getElem?_drop,hlen2,show n*i.size+ys.length*i.size+(j - (n*i.size+ys.length*i.size))=j by omega]
              exact List.getElem?_eq_getElem hjl)
            exact ⟨uu,e1,e2,.any uu⟩
      · exact q5.ok b' o' (gK (erase_sub.subset h) (yE hs.hrel.nd h))
    refine qL (hexec _ _ hrun) ⟨_,_,K,h6 b cap (cap*i.size - n*i.size - ys.length*i.size) hfr (by omega),q3,by
      rw [hd]
      exact slot0 q4 hfin (fun i' d' v' h1 h2'=>(hs.slot i' d' v' h1 h2').keep q6 (fun _ h=>h)) (RepV.viewO (.hgs _ _ _ hroom hcm (by unfold big;omega))),qy _ _⟩
  · have holen:(c0.toList.take (n*i.size)).length=n*i.size:=by simp;omega
    have hrun:=vU (P:=P) (w:=w) t u o.type e i z hu hus hun hi hz0 (a.eval y) ys.length news s1 (s3 w.drew rfl) (some ⟨b,0,none⟩) n cap (c0.toList.take (n*i.size)) (by
      exact run_firstCells_some (P:=P) w.drew i.size n ⟨b,0,none⟩ n cap _ holen (fun j v hv'=>by
        rw [Addr.add_lit,Nat.zero_add]
        have:w.drew.cell? ⟨b,j,none⟩=w.cell? ⟨b,j,none⟩:=rfl
        rw [this,kO hb]
        rw [List.getElem?_take] at hv'
        split at hv'
        · simpa using hv'
        · cases hv')) (by omega) h4 hbp
    have hge:=grownCap_ge w (n+ys.length) cap e
    have hle:=grownCap_le_maxLen w (n+ys.length) cap e (by unfold maxLen;omega)
    generalize grownCap w (n+ys.length) cap e=nc at hrun hge hle
    generalize hcc:((c0.toList.take (n*i.size)).toArray++news.toArray++Builtin.zeroCells z.cells (nc - (n+ys.length)))=cc at hrun
    have hzs:(Builtin.zeroCells z.cells (nc - (n+ys.length))).size=(nc - (n+ys.length))*z.cells.size:=by simp [Builtin.zeroCells]
    have hnc2:(n+ys.length)*i.size≤nc*i.size:=Nat.mul_le_mul_right _ hge
    have hsubm:(nc - (n+ys.length))*i.size=nc*i.size - (n+ys.length)*i.size:=Nat.sub_mul _ _ _
    have hadd:(n+ys.length)*i.size=n*i.size+ys.length*i.size:=Nat.add_mul _ _ _
    have hcs:cc.size=(cs.take (n*i.size)++(ys.flatten++List.replicate ((nc - (n+ys.length))*i.size) D.any)).length:=by
      rw [←hcc]
      simp only [Array.size_append,List.size_toArray,List.length_append,List.length_replicate,hzs,hfl,s2,z1,holen,htk,←z2]
      omega
    have hs1:St K w.drew F H a.tmps:=⟨hs.krel,hs.hrel.pres hs.krel ((Pres.refl K w).drew),hs.len,fun i d' v h1 h2=>(hs.slot i d' v h1 h2).keep (((Pres.refl K w).drew).keep hs.krel) (fun _ h=>h)⟩
    obtain ⟨K',g1,g2⟩:=Kd (a:=a) hs1 e cc _ (n+ys.length) nc hge hle (by unfold big;omega) hcs (fun j dd hdd=>by
      have hjl:j<cc.size:=by rw [hcs];exact (List.getElem?_eq_some_iff.1 hdd).1
      rw [List.getElem?_append] at hdd
      split at hdd
      · rename_i hlt
        rw [htk] at hlt
        have hp:=hpl j dd hdd
        rw [List.getElem?_take,if_pos hlt] at hdd
        obtain ⟨uu,e1,e2,e3⟩:=hr j dd hdd
        refine ⟨uu,?_,e2,.inl ((Js hp e3).mono (((Pres.refl K w).drew).keep hs.krel).ext)⟩
        rw [←hcc,Array.getElem?_append_left (by simp only [Array.size_append,List.size_toArray,holen];omega),Array.getElem?_append_left (by simp only [List.size_toArray,holen];exact hlt),List.getElem?_toArray,List.getElem?_take,if_pos hlt]
        simpa using e1
      · rename_i hge'
        rw [htk] at hge' hdd
        rw [List.getElem?_append] at hdd
        split at hdd
        · rename_i hlt
          rw [hfl] at hlt
          have hjn:j - n*i.size<news.length:=by rw [s2];exact hlt
          have f1:=List.getElem?_eq_getElem hjn
          refine ⟨news[j - n*i.size],?_,s5 _ (List.mem_of_getElem? f1),.inl (hnewY K w.drew (((Pres.refl K w).drew).keep hs.krel).ext _ dd _ hdd f1)⟩
          rw [←hcc,Array.getElem?_append_left (by simp only [Array.size_append,List.size_toArray,holen];omega),Array.getElem?_append_right (by simp only [List.size_toArray,holen];omega)]
          simp only [List.size_toArray,holen,List.getElem?_toArray]
          exact f1
        · rename_i hge2
          rw [hfl] at hge2
          have hdany:dd= .any:=List.eq_of_mem_replicate (List.mem_of_getElem? hdd)
          subst hdany
          have hjz:j - (n*i.size+ys.length*i.size)<(Builtin.zeroCells z.cells (nc - (n+ys.length))).size:=by
            rw [←hcc] at hjl
            simp only [Array.size_append,List.size_toArray,holen,s2] at hjl
            omega
          obtain ⟨q,q1,q2⟩:=KK hjz (by omega)
          obtain ⟨f1,_⟩:=z3 q _ (Array.getElem?_eq_getElem q2)
          refine ⟨z.cells[q]!,?_,by rw [getElem!_pos z.cells q q2];exact f1,.inl (.any _)⟩
          rw [←hcc,Array.getElem?_append_right (by simp only [Array.size_append,List.size_toArray,holen,s2];omega)]
          simp only [Array.size_append,List.size_toArray,holen,s2]
          exact q1) none
    have hsz:w.drew.heap.size=w.heap.size:=rfl
    have hfresh:qD (qW H b) w.heap.size:=by
      have:∀{G:AH},qD G w.heap.size→qD (qW G b) w.heap.size:=by
        intro G
        induction G with
        |nil=>exact fun h=>h
        | cons x r ih=>
          obtain ⟨c1,o1⟩:=x
          intro h
          unfold qW
          split
          · exact h.2
          · exact ⟨h.1,ih h.2⟩
      exact this (hs.hrel.fresh hs.krel)
    refine qL (hexec _ _ hrun) ⟨_,_,K',h6 _ nc ((nc - (n+ys.length))*i.size) hfresh (by omega),((Pres.refl K w).drew.fk hs.krel).trans g1,by
      rw [hd]
      exact slot0 g2.krel ⟨((List.Sublist.cons_cons _ erase_sub).map (·.1)).nodup g2.hrel.nd,fun b' o' hm=>g2.hrel.ok b' o' ((List.Sublist.cons_cons _ erase_sub).subset hm)⟩ g2.slot (RepV.viewO (.hgs _ _ _ hge hle (by unfold big;omega))),qy _ _⟩
theorem stp_apH (hs:St K w F H a.tmps) (hok:jq o=true) {c:Call} {t u:TypeId} {x y:Operand} (ho:o.op= .call c) (hf:c.callee= .builtin .append) (hargs:c.args=#[x,y]) (htys:c.argTypes=#[t,u]) (h:apH P t u x y o.dst F H k):o.wp P a w (OKd k K w a.defers) Q:=by
  unfold apH at h
  split at h
  · rename_i _ _ s d hd
    split at h
    · rename_i e sz bs hev hap
      obtain ⟨hF,hT⟩:=uI hs hev (by simp)
      have hown:OwnAt K w (.slot s 0) [] (a.eval (.tmp s)):=hs.slot s _ _ hF hT
      obtain ⟨ad,hv⟩:∃ad,a.eval (.tmp s)= .slice ad 0 0:=by
        rcases hown with ⟨_,ad,hv⟩|⟨b,cap,sz',c',T,hv,_,_,_,hp,_⟩
        · exact ⟨ad,hv⟩
        · simp at hp
      have hy:jL y=true:=by
        unfold jq at hok
        simp only [ho,Op.operands,Call.operands,hf,Bool.and_eq_true] at hok
        exact (Array.all_eq_true'.1 hok.2) y (by rw [hargs];simp)
      split at h
      · rename_i ys hys
        obtain ⟨h2,h3,h4,h5⟩:=h
        obtain ⟨hsl,i,zc,hi,his,hib,hz,hbp,hus,hun⟩:=zd hap
        obtain ⟨hu,hpos,_,_,_⟩:=ju hsl
        obtain ⟨i',z,hi',hz0,z1,z2,z3,z4⟩:=y7 hz
        rw [hi] at hi'
        obtain rfl:=Option.some.inj hi'
        subst his hib
        obtain ⟨news,s1,s2,s3,s4,s5,s6⟩:=ou (P:=P) (hys▸hs.rep hy) h2 hpos
        have hexec:∀r w',(Builtin.append_ #[t,u] o.type #[.slice ad 0 0,a.eval y]).run P w= .ok r w'→(execOp a.eval o).run P w= .ok (.value r) w':=fun r w' hr=>by
          simp only [execOp,ho,resolve,hf,Sem.run_bind,Sem.run_pure,Result.andThen_ok,invoke,builtin,hargs,htys]
          simp [hv,hr]
        have slot0:∀{K':Nat→BK} {w':World} {H':AH} {dd:D} {r:Value},FK K w K' w'→KRel K' w'→HRel K' w' H'→(∀(i:Nat) (d':D) (v:Value),F[i]?=some d'→a.tmps[i]?=some v→RepO K' w' i d' v)→RepO K' w' d dd r→St K' w' ((F.set s (.slc [])).set d dd) H' (a.put (some d) r).tmps:=fun hfk hk' hh' hsl' hdd=>by
          refine ⟨hk',hh',by simpa [Act.put] using hs.len,fun i d' v hx hv'=>?_⟩
          simp only [Act.put] at hv'
          rcases getElem?_set_some hx with ⟨rfl,rfl,hl⟩|⟨hne,hx⟩
          · rw [Array.getElem?_setIfInBounds_self_of_lt (by rw [hs.len];simpa using hl)] at hv'
            obtain rfl:=Option.some.inj hv'
            exact hdd
          · rw [Array.getElem?_setIfInBounds_ne hne] at hv'
            rcases getElem?_set_some hx with ⟨rfl,rfl,_⟩|⟨hne2,hx⟩
            · rw [hT] at hv'
              obtain rfl:=Option.some.inj hv'
              rw [hv]
              exact RepV.viewO (.slcnil ad)
            · exact hsl' i d' v hx hv'
        by_cases hye:ys= []
        · subst hye
          have hn:news= []:=List.eq_nil_of_length_eq_zero (by simpa using s2)
          subst hn
          have hrun:=zN (P:=P) (w:=w) t u o.type e i hu hus hun hi (a.eval y) s1 (s3 w rfl) ad
          exact qL (hexec _ _ hrun) ⟨_,H,K,h4 rfl,.refl K w,by rw [hd];exact slot0 (.refl K w) hs.krel hs.hrel hs.slot (.inl ⟨rfl,ad,rfl⟩),qy _ _⟩
        · have hyl:0<ys.length:=List.length_pos_iff.2 hye
          have hrun:=vU (P:=P) (w:=w) t u o.type e i z hu hus hun hi hz0 (a.eval y) ys.length news s1 (s3 w.drew rfl) ad 0 0 [] (by cases ad<;>simp [Builtin.firstCells,loadCells,loadCellsFrom]) (by omega) (by simpa using h3) hbp
          have hge:=grownCap_ge w (0+ys.length) 0 e
          have hlb:ys.length≤ys.length*i.bytes:=Nat.le_mul_of_pos_right _ hbp
          have hle:=grownCap_le_maxLen w (0+ys.length) 0 e (by unfold maxLen;omega)
          generalize grownCap w (0+ys.length) 0 e=nc at hrun hge hle
          simp only [Nat.zero_add] at hrun hge
          generalize hcc:((#[]:Array Value)++news.toArray++Builtin.zeroCells z.cells (nc - ys.length))=cc at hrun
          have hzs:(Builtin.zeroCells z.cells (nc - ys.length)).size=(nc - ys.length)*z.cells.size:=by simp [Builtin.zeroCells]
          have hfl:=yD h2
          have hcs:cc.size=(ys.flatten++List.replicate ((nc - ys.length)*i.size) D.any).length:=by
            rw [←hcc]
            simp only [Array.size_append,List.size_toArray,List.length_append,List.length_replicate,hzs,hfl,s2,z1,←z2]
            simp
          have hs1:St K w.drew F H a.tmps:=⟨hs.krel,hs.hrel.pres hs.krel ((Pres.refl K w).drew),hs.len,fun i d' v h1 h2=>(hs.slot i d' v h1 h2).keep (((Pres.refl K w).drew).keep hs.krel) (fun _ h=>h)⟩
          obtain ⟨K',g1,g2⟩:=Kd (a:=a) hs1 e cc _ ys.length nc hge hle (by unfold big;omega) hcs (fun j dd hdd=>by
            have hjl:j<cc.size:=by rw [hcs];exact (List.getElem?_eq_some_iff.1 hdd).1
            rw [List.getElem?_append] at hdd
            split at hdd
            · rename_i hlt
              rw [vu hpos h2] at hdd
              obtain ⟨x1,e1,e2⟩:=Option.bind_eq_some_iff.1 hdd
              obtain ⟨uu,f1,f2⟩:=s6 _ x1 e1 _ dd e2
              have hdm:=Nat.div_add_mod j i.size
              rw [Nat.mul_comm] at hdm
              rw [hdm] at f1
              refine ⟨uu,?_,s5 _ (List.mem_of_getElem? f1),.inl (f2.mono (((Pres.refl K w).drew).keep hs.krel).ext)⟩
              rw [←hcc,Array.getElem?_append_left (by simp [s2];omega),Array.getElem?_append_right (by simp)]
              simpa using f1
            · rename_i hge'
              have hdany:dd= .any:=List.eq_of_mem_replicate (List.mem_of_getElem? hdd)
              subst hdany
              have hjz:j - news.length<(Builtin.zeroCells z.cells (nc - ys.length)).size:=by
                rw [←hcc] at hjl
                simp only [Array.size_append,List.size_toArray] at hjl
                simp at hjl
                omega
              obtain ⟨q,q1,q2⟩:=KK hjz (by omega)
              obtain ⟨f1,_⟩:=z3 q _ (Array.getElem?_eq_getElem q2)
              refine ⟨z.cells[q]!,?_,by rw [getElem!_pos z.cells q q2];exact f1,.inl (.any _)⟩
              rw [←hcc,Array.getElem?_append_right (by simp;omega)]
              simpa using q1) none
          have hsz:w.drew.heap.size=w.heap.size:=rfl
          refine qL (hexec _ _ hrun) ⟨_,_,K',h5 hye _ nc ((nc - ys.length)*i.size) (hs1.hrel.fresh hs1.krel) (by have e1:=Nat.mul_le_mul_right i.size hge;have e2:=Nat.sub_mul nc ys.length i.size;omega),((Pres.refl K w).drew.fk hs.krel).trans g1,by
            rw [hd]
            exact slot0 (((Pres.refl K w).drew.fk hs.krel).trans g1) g2.krel g2.hrel g2.slot (RepV.viewO (.hgs _ _ nc hge hle (by unfold big;omega))),qy _ _⟩
      · exact h.elim
    · rename_i b n cap e sz bs hev hap
      split at h
      · rename_i ys cs hys hg
        exact stp_apG hs hok ho hf hargs htys rfl hd hev hap hys hg h.1 h.2.1 h.2.2.1 h.2.2.2.1 h.2.2.2.2
      · exact h.elim
    · exact h.elim
  · exact h.elim
def Fz (F:List D) (H:AH) (F':List D) (H':AH):Prop:=
  ∀(K:Nat→BK) (w:World) (t:Array Value),St K w F H t→∃K',FK K w K' w∧St K' w F' H' t
theorem Fz.refl:Fz F H F H:=fun K w _ h=>⟨K,.refl K w,h⟩
theorem Fz.trans {F' F'':List D} {H' H'':AH} (h:Fz F H F' H') (g:Fz F' H' F'' H''):Fz F H F'' H'':=fun K w t hs=>
  let ⟨K',h1,h2⟩:=h K w t hs
  let ⟨K'',g1,g2⟩:=g K' w t h2
  ⟨K'',h1.trans g1,g2⟩
theorem Z9 {b:Nat} {x:BK} (hk:KRel K w) (hb:K b= .priv) (hx:∀n,x≠ .tok n .outer):Keep noE (fun c=>c=b) K w (Qg K b x) w∧KRel (Qg K b x) w:=by
  have hlt:=hk.lt_of (b:=b) (by rw [hb];simp)
  have hne:∀{c:Nat} {y:BK},K c=y→y≠ .priv→c≠b:=fun h1 h2 e=>by subst e;rw [hb] at h1;exact h2 h1.symm
  refine ⟨⟨⟨rfl,rfl,⟨rfl,Nat.le_refl _⟩,Nat.le_refl _,fun c _ hc=>⟨by rw [jh _ _ (hne hc (by simp))];exact hc,rfl⟩,fun c n o hc _=>⟨n,o,by rw [jh _ _ (hne hc (by simp))];exact hc,Nat.le_refl _,fun _ _=>rfl⟩,fun c hc=>?_⟩,fun c n o hc _=>⟨by rw [jh _ _ (hne hc (by simp))];exact hc,rfl⟩,fun c n hc=>?_,fun c hc hne'=>⟨by rw [jh _ _ hne'];exact hc,rfl⟩⟩,fun c hc=>?_⟩
  · by_cases e:c=b
    · exact .inr (by rw [e];exact hlt)
    · exact .inl (by rw [jh _ _ e];exact hc)
  · by_cases e:c=b
    · subst e;rw [jR] at hc;exact (hx n hc).elim
    · rwa [jh _ _ e] at hc
  · rw [jh _ _ (by omega)];exact hk c hc
theorem QX (hs:St K w F H a.tmps) {b n cap sz:Nat} {cs:List D} {xs:List (List D)} {rest:List D} (hg:qu H b=some (.cells cs)) (hcs:cs=xs.flatten++rest) (hx:∀x∈xs,x.length=sz) (hpos:0<sz) (hpl:∀x∈xs,∀d∈x,plain d=true):
    K b= .priv∧∃(c:Array Value) (T:TypeId),w.heap[b]?=some (.cells c T (0,0))∧c.size=cs.length∧∀(i:Nat) (x:List D),xs[i]?=some x→∀(j:Nat) (d:D),x[j]?=some d→∃u,c[i*sz+j]?=some u∧u.oneCell'=true∧RepV K w d u:=by
  obtain ⟨hp,c,T,h1,h2,h3⟩:=hs.hrel.ok b _ (j4 hg)
  refine ⟨hp,c,T,h1,h2,fun i x hi j d hj=>?_⟩
  have hlt:=JF hi (hx x (List.mem_of_getElem? hi)) hj
  have hjs:j<sz:=by rw [←hx x (List.mem_of_getElem? hi)];exact (List.getElem?_eq_some_iff.1 hj).1
  have hget:cs[i*sz+j]?=some d:=by
    rw [hcs,List.getElem?_append_left (by rw [yD hx];exact hlt),vu hpos hx]
    have e1:(i*sz+j) / sz=i:=by rw [Nat.mul_comm,Nat.mul_add_div hpos,Nat.div_eq_of_lt hjs,Nat.add_zero]
    have e2:(i*sz+j) % sz=j:=by rw [Nat.mul_comm,Nat.mul_add_mod,Nat.mod_eq_of_lt hjs]
    rw [e1,e2,hi]
    exact hj
  obtain ⟨u,e1,e2,e3⟩:=h3 _ d hget
  exact ⟨u,e1,e2,Js (hpl x (List.mem_of_getElem? hi) d (List.mem_of_getElem? hj)) e3⟩
theorem Y5 {b n cap sz:Nat} {xs:List (List D)} {c:Array Value} {T:TypeId} {K':Nat→BK} (hb:w.heap[b]?=some (.cells c T (0,0))) (hv:Vis K' w b 0 (xs.length*sz)) (hn:xs.length=n) (h1:n≤cap) (h2:cap≤maxLen) (h3:n≤big) (hx:∀x∈xs,x.length=sz)
    (hc:∀(i:Nat) (x:List D),xs[i]?=some x→∀(j:Nat) (d:D),x[j]?=some d→∃u,c[i*sz+j]?=some u∧u.oneCell'=true∧RepV K' w d u):RepV K' w (.slc xs) (.slice (some ⟨b,0,none⟩) n cap):=by
  subst hn
  refine .slc xs b 0 cap sz (fun i j=>(c[i*sz+j]?).getD default) h3 h1 h2 (fun i x hi=>hx x (List.mem_of_getElem? hi)) hv (fun i x hi j d hj=>?_) (fun i x hi j d hj=>?_) (fun i x hi j d hj=>?_)
  · obtain ⟨u,e1,_,_⟩:=hc i x hi j d hj
    rw [Nat.zero_add,kO hb,e1];rfl
  · obtain ⟨u,e1,e2,_⟩:=hc i x hi j d hj
    rw [e1];exact e2
  · obtain ⟨u,e1,_,e3⟩:=hc i x hi j d hj
    rw [e1];exact e3
theorem Fz.freeze {s b n sz:Nat} {cs:List D} {xs:List (List D)} {rest:List D} (hF:F.getD s .any= .hsl b n) (hg:qu H b=some (.cells cs)) (hcs:cs=xs.flatten++rest) (hn:xs.length=n) (hx:∀x∈xs,x.length=sz) (hpos:0<sz) (hpl:∀x∈xs,∀d∈x,plain d=true):
    Fz F H (F.set s (.slc xs)) (qW H b):=by
  intro K w t hs
  let a:Act:={tmps:=t,defers:= []}
  have hs':St K w F H a.tmps:=hs
  obtain ⟨hp,c,T,c1,c2,c3⟩:=QX (cap:=0) (n:=n) hs' hg hcs hx hpos hpl
  obtain ⟨hkeep,hkr⟩:=Z9 (x:= .imm) hs.krel hp (by simp)
  have hlt:s<F.length:=by
    rcases Nat.lt_or_ge s F.length with h'|h'
    · exact h'
    · simp [List.getD,List.getElem?_eq_none h'] at hF
  have hFs:F[s]?=some (.hsl b n):=by rw [←hF];simp [List.getD,List.getElem?_eq_getElem hlt]
  have hT:t[s]?=some t[s]!:=by
    have:s<t.size:=by rw [hs.len];exact hlt
    rw [getElem!_pos t s this,Array.getElem?_eq_getElem this]
  obtain ⟨cap,hv,h1,h2,h3⟩:=RepV.hsl_inv (K:=K) (w:=w) (v:=t[s]!) (hs.slot s _ _ hFs hT)
  refine ⟨_,hkeep.fk (fun h=>h),hkr,⟨(erase_sub.map (·.1)).nodup hs.hrel.nd,fun c' o' hm=>AO.keep hkeep (yE hs.hrel.nd hm) (fun _ h=>h) (hs.hrel.ok c' o' (erase_sub.subset hm))⟩,by simpa using hs.len,fun i d v hd hv'=>?_⟩
  rcases getElem?_set_some hd with ⟨rfl,rfl,_⟩|⟨hne,hd⟩
  · rw [hT] at hv'
    obtain rfl:=Option.some.inj hv'
    rw [hv]
    refine RepV.viewO (Y5 c1 ⟨(Array.getElem?_eq_some_iff.1 c1).1,?_⟩ hn h1 h2 h3 hx (fun i x hi j d hj=>?_))
    · rw [jR];trivial
    · obtain ⟨u,e1,e2,e3⟩:=c3 i x hi j d hj
      exact ⟨u,e1,e2,e3.mono hkeep.ext⟩
  · exact (hs.slot i d v hd hv').keep hkeep (fun _ h=>h)
theorem Fz.hgs {s b n cap:Nat} (hF:F.getD s .any= .hgs b n cap):Fz F H (F.set s (.hsl b n)) H:=by
  intro K w t hs
  have hlt:s<F.length:=by
    rcases Nat.lt_or_ge s F.length with h'|h'
    · exact h'
    · simp [List.getD,List.getElem?_eq_none h'] at hF
  have hFs:F[s]?=some (.hgs b n cap):=by rw [←hF];simp [List.getD,List.getElem?_eq_getElem hlt]
  refine ⟨K,.refl K w,hs.krel,hs.hrel,by simpa using hs.len,fun i d v hd hv'=>?_⟩
  rcases getElem?_set_some hd with ⟨rfl,rfl,_⟩|⟨hne,hd⟩
  · obtain ⟨rfl,h1,h2,h3⟩:=RepV.hgs_inv (show RepV K w (.hgs b n cap) v from hs.slot s _ v hFs hv')
    exact RepV.viewO (.hsl b n cap h1 h2 h3)
  · exact hs.slot i d v hd hv'
theorem Fz.sub {H':AH} (h:H'.Sublist H):Fz F H F H':=fun K w t hs=>⟨K,.refl K w,hs.krel,⟨(h.map (·.1)).nodup hs.hrel.nd,fun b o hm=>hs.hrel.ok b o (h.subset hm)⟩,hs.len,hs.slot⟩
theorem Fz.view {s:Nat} {xs:List (List D)} (hF:F.getD s .any= .own xs):Fz F H (F.set s (.slc xs)) H:=by
  intro K w t hs
  have hlt:s<F.length:=by
    rcases Nat.lt_or_ge s F.length with h'|h'
    · exact h'
    · simp [List.getD,List.getElem?_eq_none h'] at hF
  have hFs:F[s]?=some (.own xs):=by rw [←hF];simp [List.getD,List.getElem?_eq_getElem hlt]
  refine ⟨K,.refl K w,hs.krel,hs.hrel,by simpa using hs.len,fun i d v hd hv'=>?_⟩
  rcases getElem?_set_some hd with ⟨rfl,rfl,_⟩|⟨hne,hd⟩
  · exact (show RepV K w (D.slc xs) v from (hs.slot s _ v hFs hv').rep).viewO
  · exact hs.slot i d v hd hv'
theorem Fz.freezeC {b' j b n sz:Nat} {ds cs:List D} {xs:List (List D)} {rest:List D} (hne:b'≠b) (hd:qu H b'=some (.cells ds)) (hj:ds[j]?=some (.hsl b n)) (hg:qu H b=some (.cells cs)) (hcs:cs=xs.flatten++rest) (hn:xs.length=n) (hx:∀x∈xs,x.length=sz) (hpos:0<sz) (hpl:∀x∈xs,∀d∈x,plain d=true):
    Fz F H F (qW (qF H b' (.cells (ds.set j (.slc xs)))) b):=by
  intro K w t hs
  let a:Act:={tmps:=t,defers:= []}
  have hs':St K w F H a.tmps:=hs
  obtain ⟨hp,c,T,c1,c2,c3⟩:=QX (cap:=0) (n:=n) hs' hg hcs hx hpos hpl
  obtain ⟨hkeep,hkr⟩:=Z9 (x:= .imm) hs.krel hp (by simp)
  have hnd:((qF H b' (.cells (ds.set j (.slc xs)))).map (·.1)).Nodup:=by rw [ko];exact hs.hrel.nd
  refine ⟨_,hkeep.fk (fun h=>h),hkr,⟨(erase_sub.map (·.1)).nodup hnd,fun c' o' hm=>?_⟩,hs.len,fun i d v hd' hv'=>(hs.slot i d v hd' hv').keep hkeep (fun _ h=>h)⟩
  have hcb:=yE hnd hm
  rcases yu hs.hrel.nd (erase_sub.subset hm) with ⟨rfl,rfl⟩|⟨hne',hm⟩
  · obtain ⟨g1,c',T',g2,g3,g4⟩:=AO.keep hkeep hcb (fun _ h=>h) (hs.hrel.ok c' _ (j4 hd))
    refine ⟨g1,c',T',g2,by simpa using g3,fun q d' hd'=>?_⟩
    rcases getElem?_set_some hd' with ⟨rfl,rfl,_⟩|⟨hnq,hd'⟩
    · obtain ⟨u,e1,e2,e3⟩:=g4 j _ hj
      obtain ⟨cap,rfl,h1,h2,h3⟩:=RepV.hsl_inv e3
      refine ⟨_,e1,e2,?_⟩
      refine Y5 c1 ⟨(Array.getElem?_eq_some_iff.1 c1).1,?_⟩ hn h1 h2 h3 hx (fun i x hi j d hj=>?_)
      · rw [jR];trivial
      · obtain ⟨u,e1,e2,e3⟩:=c3 i x hi j d hj
        exact ⟨u,e1,e2,e3.mono hkeep.ext⟩
    · exact g4 q d' hd'
  · exact AO.keep hkeep hcb (fun _ h=>h) (hs.hrel.ok c' o' hm)
end
end Go.Aw
end
