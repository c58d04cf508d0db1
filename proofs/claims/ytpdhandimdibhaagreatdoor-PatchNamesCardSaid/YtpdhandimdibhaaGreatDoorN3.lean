/- A part of the proof of what the last text says: AwM, Aw7. Conditions: those in each theorem. -/
import Derived.Test.YtpdhandimdibhaaGreatDoorN2
set_option linter.unusedVariables false
set_option linter.unusedSimpArgs false
set_option maxRecDepth 100000
set_option maxHeartbeats 16000000
open Nat renaming reduceSub → qa,reduceAdd → qb,reduceMul → qc,reduceEqDiff → qd,reduceLeDiff → qe,reduceBEq → qf
section
namespace Go.Aw
open Go Go.RowKit
section
variable {P:Program} {o:Oper} {H:AH} {ρ:Operand→D} {k:D→Prop}
theorem RepV.mp_inv {K:Nat→BK} {w:World} {r:Option Nat} {v:Value} (h:RepV K w (.mp r) v):v= .map r:=by cases h;rfl
theorem RepV.mpv_inv {K:Nat→BK} {w:World} {es:List (D×D)} {v:Value} (h:RepV K w (.mpv es) v):∃b c,v= .map (some b)∧K b= .imm∧b<w.heap.size∧w.heap[b]?=some (.map c c.size)∧c.size=es.length∧
  (∀(j:Nat) (p:D×D) (e:MapEntry),es[j]?=some p→c[j]?=some e→RepV K w p.1 e.key)∧(∀(j:Nat) (p:D×D) (e:MapEntry),es[j]?=some p→c[j]?=some e→RepV K w p.2 e.val):=by
 cases h with|mpv _ b c hk hb hh hl h1 h2=>exact ⟨b,c,rfl,hk,hb,hh,hl,h1,h2⟩
theorem vb (em:Bool):∀(e d:Nat) (t:TypeId) (l:List CT),yz P e t=some l→e≤d→∀(vx:List Value) (w:World),jF l vx→(Instr.checkKey em d t (Qv P t vx)).run P w= .ok () w:=by
 intro e
 induction e with
 |zero=>intro d t l h;simp [yz] at h
 | succ e ih=>
  intro d t l h hd vx w hx
  obtain ⟨d,rfl⟩:∃d',d=d'+1:=⟨d - 1,by omega⟩
  simp only [yz] at h
  split at h
  ·rename_i k hu
   cases h
   have ha:ja P t=false:=by simp [ja,hu]
   match vx,hx with
   | [.int ka a],_=>simp [Qv,ha,Instr.checkKey,run_underlying hu]
  ·rename_i hu
   cases h
   have ha:ja P t=false:=by simp [ja,hu]
   match vx,hx with
   | [.bool a],_=>simp [Qv,ha,Instr.checkKey,run_underlying hu]
  ·rename_i hu
   cases h
   have ha:ja P t=false:=by simp [ja,hu]
   match vx,hx with
   | [.string a],_=>simp [Qv,ha,Instr.checkKey,run_underlying hu]
  ·rename_i fs hu
   split at h
   ·rename_i hst
    have ha:ja P t=true:=by simp [ja,hu]
    simp only [Qv,ha,if_true]
    rw [Instr.checkKey]
    simp only [Sem.run_bind,run_underlying hu,Result.andThen_ok]
    rw [←Array.forIn_toList]
    have key:∀(fl:List Field) (off:Nat) (l:List CT),Qs P (yz P e) fl off=some l→jF l (vx.drop off)→
      (forIn fl PUnit.unit fun (f : Field) (_ : PUnit)=>(if f.name ≠ "_" then do
        let x←part f.type vx.toArray f.offset
        Instr.checkKey em d f.type x
        pure (ForInStep.yield PUnit.unit)
       else pure (ForInStep.yield PUnit.unit):Sem (ForInStep PUnit))).run P w= .ok PUnit.unit w:=by
     intro fl
     induction fl with
     |nil=>intro off l _ _;simp
     | cons f fl ihf=>
      intro off l hl h1
      simp only [Qs] at hl
      split at hl
      ·rename_i hname
       split at hl
       ·rename_i lf hlf
        split at hl
        ·rename_i htI
         split at hl
         ·rename_i r hr
          simp only [Option.some.injEq] at hl
          subst hl
          obtain ⟨f1,g1⟩:=wG h1
          have ho:f.offset=off:=hname.2
          have p1:=ui (P:=P) htI.1 htI.2.1 vx off (by
           have:=k9 f1
           have:=htI.2.2
           simp only [List.length_take,List.length_drop] at*
           omega) w
          have q:=ih d f.type lf hlf (by omega) _ w f1
          have rest:=ihf (off+lf.length) r hr (by rwa [List.drop_drop] at g1)
          simp only [List.forIn_cons,if_pos hname.1,ho,Sem.run_bind,p1,Result.andThen_ok,q,Sem.run_pure]
          exact rest
         ·cases hl
        ·cases hl
       ·cases hl
      ·cases hl
    rw [key fs.toList 0 l h (by simpa using hx)]
    rfl
   ·cases h
  ·cases h
theorem ZZ {K:Nat→BK} {w:World} {v:Value} (h:yH v=true):RepV K w (zC v) v:=by
 have hr:=y4 (K:=K) (w:=w) (o:= .outer) h
 unfold zC
 generalize hc:jj v=d at hr
 cases d with
 | own xs=>
  unfold jj at hc
  split at hc<;>first
   |(injection hc with hc;subst hc;exact .oslnil _ _ _)
   |cases hc
 |_=>exact hr
theorem Vj {t:TypeId} {z:D} (h:zD P t=some z):∃i v,P.info? t=some i∧i.zero=some v∧∀K w,RepV K w z v:=by
 unfold zD at h
 split at h
 ·rename_i i hi
  split at h
  ·rename_i cs hz
   split at h
   ·rename_i hall
    cases h
    refine ⟨i,_,hi,hz,fun K w=>.agg _ cs (by simp) (fun j v hv=>?_) (fun j d v hd hv=>?_)⟩
    ·have:=List.all_eq_true.1 hall v (Array.mem_toList_iff.2 (Array.mem_of_getElem? hv))
     simp only [Bool.and_eq_true] at this
     exact this.2
    ·have:=List.all_eq_true.1 hall v (Array.mem_toList_iff.2 (Array.mem_of_getElem? hv))
     simp only [Bool.and_eq_true] at this
     rw [List.getElem?_map,Array.getElem?_toList,hv] at hd
     cases hd
     exact ZZ this.1
   ·cases h
  ·rename_i v hv hz
   split at h
   ·rename_i hall
    cases h
    simp only [Bool.and_eq_true] at hall
    exact ⟨i,v,hi,hz,fun K w=>ZZ hall.1⟩
   ·cases h
  ·cases h
 ·cases h
theorem vQ {K:Nat→BK} {w:World} {t:TypeId} {l:List CT} {d:D} {v:Value} (hr:RepV K w d v) (ha:K6 d=ja P t) (hf:fits l (cellsOf d)) (hag:ja P t=false→l.length=1):
  ∃vs:List Value,v=Qv P t vs∧vs.length=(cellsOf d).length∧jF l vs∧∀(j:Nat) (d':D) (u:Value),(cellsOf d)[j]?=some d'→vs[j]?=some u→RepV K w d' u:=by
 have fin:∀(vs:List Value),vs.length=(cellsOf d).length→(∀(j:Nat) (d':D) (u:Value),(cellsOf d)[j]?=some d'→vs[j]?=some u→RepV K w d' u)→v=Qv P t vs→
   ∃vs:List Value,v=Qv P t vs∧vs.length=(cellsOf d).length∧jF l vs∧∀(j:Nat) (d':D) (u:Value),(cellsOf d)[j]?=some d'→vs[j]?=some u→RepV K w d' u:=
  fun vs h1 h2 h3=>⟨vs,h3,h1,oU hf h1 h2,h2⟩
 cases d with
 | agg cs=>
  obtain ⟨vs,rfl,h1,_,h3⟩:=hr.agg_inv
  have hb:ja P t=true:=ha.symm
  exact fin vs.toList (by simpa [cellsOf] using h1) (fun j d' u hd hu=>h3 j d' u hd (by simpa using hu)) (by simp [Qv,hb])
 | _=>
  have hb:ja P t=false:=ha.symm
  exact fin [v] rfl (fun j d' u hd hu=>by
   cases j with
   |zero=>simp only [List.getElem?_cons_zero,Option.some.injEq] at hu hd;subst hu;simp only [cellsOf,List.getElem?_cons_zero,Option.some.injEq] at hd;subst hd;exact hr
   |succ j=>simp at hu) (by simp [Qv,hb])
theorem yB {e:Nat} {t:TypeId} {l:List CT} (h:yz P e t=some l) (ha:ja P t=false):l.length=1:=by
 cases e with
 |zero=>simp [yz] at h
 | succ e=>
  simp only [yz] at h
  split at h
  ·cases h;rfl
  ·cases h;rfl
  ·cases h;rfl
  ·rename_i fs hu
   simp [ja,hu] at ha
  ·cases h
def yA:List (D×D)→List D→Option Nat
 | [],_=>none
 |p::r,k=>if eqCells k (cellsOf p.1)=true then some 0 else (yA r k).map (·+1)
theorem uE:∀(es:List (D×D)) (k:List D),kw es k=(yA es k).bind fun i=>(es[i]?).map (·.2)
 | [],_=>rfl
 | p::r,k=>by
  simp only [kw,yA]
  split
  ·rfl
  ·rw [uE r k]
   cases yA r k<;>rfl
theorem wD {K:Nat→BK} {w:World} {kt:TypeId} {l:List CT} (hl:yz P 8 kt=some l) {d:D} {v:Value} (hr:RepV K w d v) (ha:K6 d=ja P kt) (hf:fits l (cellsOf d)):
  ∀ (es:List (D×D)) (c:List MapEntry) (i:Nat),c.length=es.length→(∀p∈es,K6 p.1=ja P kt∧fits l (cellsOf p.1)∧sameK (cellsOf d) (cellsOf p.1))→
   (∀(j:Nat) (p:D×D) (e:MapEntry),es[j]?=some p→c[j]?=some e→RepV K w p.1 e.key)→
   (Instr.findAsking kt v c i).run P w= .ok ((yA es (cellsOf d)).bind fun j=>(c[j]?).map fun e=>(i+j,e.val)) w
 | [],[],i,_,_,_=>by simp [Instr.findAsking,yA]
 | [],_::_,_,h,_,_=>by simp at h
 |_::_,[],_,h,_,_=>by simp at h
 | p::es,e::c,i,hlen,hall,hrep=>by
  obtain ⟨vs,h1,h2,h3,h4⟩:=vQ (P:=P) (t:=kt) hr ha hf (yB hl)
  obtain ⟨b1,b2,b3⟩:=hall p (.head _)
  have hre:=hrep 0 p e rfl rfl
  obtain ⟨us,g1,g2,g3,g4⟩:=vQ (P:=P) (t:=kt) hre b1 b2 (yB hl)
  have heq:=vG 8 Op.maxDepth kt l hl (by decide) vs us w h3 g3 (uP hf b2 b3 h2 g2 h4 g4).2
  have hev:wt vs us=eqCells (cellsOf d) (cellsOf p.1):=(uP hf b2 b3 h2 g2 h4 g4).1
  have ih:=wD hl hr ha hf es c (i+1) (by simpa using hlen) (fun q hq=>hall q (.tail _ hq)) (fun j q e' hj hj'=>hrep (j+1) q e' hj hj')
  have hq:(Op.equal kt v e.key).run P w= .ok (eqCells (cellsOf d) (cellsOf p.1)) w:=by
   rw [h1,g1,←hev];exact heq
  simp only [Instr.findAsking,Sem.run_bind,hq,Result.andThen_ok,Sem.run_ite,yA]
  cases eqCells (cellsOf d) (cellsOf p.1)
  ·simp only [Bool.false_eq_true,if_false,ih]
   cases yA es (cellsOf d) with
   |none=>rfl
   | some j=>
    simp only [Option.map_some,Option.bind_some,List.getElem?_cons_succ]
    cases c[j]? with
    |none=>rfl
    |some e'=>simp only [Option.map_some];congr 3;omega
  ·simp
theorem YS {kd:TypeDesc} {a b:Value} {t:Bool} (h:Instr.sameNow kd a b=some t):t=Um a b:=by
 unfold Instr.sameNow at h
 split at h
 ·split at h
  ·cases h;rfl
  ·cases h
 ·cases h;simp [Um,beq_toListBytes]
 ·cases h;rfl
 ·cases h
theorem zk {K:Nat→BK} {w:World} {kt:TypeId} {kd:TypeDesc} {l:List CT} (hl:yz P 8 kt=some l) {d:D} {v:Value} (hr:RepV K w d v) (ha:K6 d=ja P kt) (hf:fits l (cellsOf d)):
  ∀ (es:List (D×D)) (c:List MapEntry) (i:Nat) (r:Option (Nat×Value)),c.length=es.length→(∀p∈es,K6 p.1=ja P kt∧fits l (cellsOf p.1)∧sameK (cellsOf d) (cellsOf p.1))→
   (∀(j:Nat) (p:D×D) (e:MapEntry),es[j]?=some p→c[j]?=some e→RepV K w p.1 e.key)→
   Instr.findNow kd v c i=some r→r=(yA es (cellsOf d)).bind fun j=>(c[j]?).map fun e=>(i+j,e.val)
 | [],[],i,r,_,_,_,h=>by cases h;rfl
 | [],_::_,_,_,h,_,_,_=>by simp at h
 |_::_,[],_,_,h,_,_,_=>by simp at h
 | p::es,e::c,i,r,hlen,hall,hrep,h=>by
  obtain ⟨vs,h1,h2,h3,h4⟩:=vQ (P:=P) (t:=kt) hr ha hf (yB hl)
  obtain ⟨b1,b2,b3⟩:=hall p (.head _)
  have hre:=hrep 0 p e rfl rfl
  obtain ⟨us,g1,g2,g3,g4⟩:=vQ (P:=P) (t:=kt) hre b1 b2 (yB hl)
  have hev:wt vs us=eqCells (cellsOf d) (cellsOf p.1):=(uP hf b2 b3 h2 g2 h4 g4).1
  have ih:=zk (kd:=kd) hl hr ha hf es c (i+1) r (by simpa using hlen) (fun q hq=>hall q (.tail _ hq)) (fun j q e' hj hj'=>hrep (j+1) q e' hj hj')
  simp only [Instr.findNow] at h
  cases hs:Instr.sameNow kd v e.key with
  |none=>simp [hs] at h
  | some t=>
   have ht:t=eqCells (cellsOf d) (cellsOf p.1):=by
    rw [←hev,YS hs]
    cases hb:ja P kt
    ·have hl1:=yB hl hb
     have e1:=k9 h3
     have e2:=k9 g3
     match vs,us,(e1.trans hl1),(e2.trans hl1) with
     | [a],[b],_,_=>
      rw [h1,g1]
      simp [Qv,hb,wt]
    ·rw [h1] at hs
     simp [Qv,hb,Instr.sameNow] at hs
   subst ht
   simp only [hs] at h
   simp only [yA]
   cases hc:eqCells (cellsOf d) (cellsOf p.1)
   ·rw [hc] at h
    simp only [Bool.false_eq_true,if_false]
    rw [ih h]
    cases yA es (cellsOf d) with
    |none=>rfl
    | some j=>
     simp only [Option.map_some,Option.bind_some,List.getElem?_cons_succ]
     cases c[j]? with
     |none=>rfl
     |some e'=>simp only [Option.map_some];congr 2;omega
   ·rw [hc] at h
    simp only [Option.some.injEq] at h
    subst h
    simp
theorem vr {K:Nat→BK} {w:World} {kt:TypeId} {l:List CT} (hl:yz P 8 kt=some l) {d:D} {v:Value} (hr:RepV K w d v) (ha:K6 d=ja P kt) (hf:fits l (cellsOf d))
  (es:List (D×D)) (c:List MapEntry) (hlen:c.length=es.length) (hall:∀p∈es,K6 p.1=ja P kt∧fits l (cellsOf p.1)∧sameK (cellsOf d) (cellsOf p.1))
   (hrep:∀(j:Nat) (p:D×D) (e:MapEntry),es[j]?=some p→c[j]?=some e→RepV K w p.1 e.key):
   (Instr.findKey kt v c).run P w= .ok ((yA es (cellsOf d)).bind fun j=>(c[j]?).map fun e=>(j,e.val)) w:=by
 obtain ⟨kd,hu⟩:∃kd,P.underlying kt=some kd:=by
  simp only [yz] at hl
  split at hl
  ·exact ⟨_,by assumption⟩
  ·exact ⟨_,by assumption⟩
  ·exact ⟨_,by assumption⟩
  ·exact ⟨_,by assumption⟩
  ·cases hl
 have h0:=wD hl hr ha hf es c 0 hlen hall hrep
 simp only [Nat.zero_add] at h0
 simp only [Instr.findKey,Sem.run_bind,run_underlying hu,Result.andThen_ok]
 cases hn:Instr.findNow kd v c 0 with
 |none=>simpa using h0
 | some r=>
  have:=zk hl hr ha hf es c 0 r hlen hall hrep hn
  simp only [Nat.zero_add] at this
  simp [this]
theorem WP:∀{es:List (D×D)} {k:List D} {i:Nat},yA es k=some i→i<es.length
 | p::r,k,i,h=>by
  simp only [yA] at h
  split at h
  ·cases h;simp
  ·obtain ⟨j,h1,rfl⟩:=Option.map_eq_some_iff.1 h
   have:=WP h1
   simp only [List.length_cons]
   omega
theorem KH {t:TypeId} {ag:Bool} {l:List CT} {z:D} (h:VN P t=some (ag,l,z)):∃kt et,P.underlying t=some (.map kt et)∧yz P 8 kt=some l∧zD P et=some z∧ag=ja P kt:=by
 unfold VN at h
 split at h
 ·rename_i kt et hu
  split at h
  ·rename_i l' z' h1 h2
   cases h
   exact ⟨kt,et,hu,h1,h2,rfl⟩
  ·cases h
 ·cases h
theorem QB {K:Nat→BK} {w:World} {t:TypeId} {ag:Bool} {l:List CT} {z:D} (hm:VN P t=some (ag,l,z)) {es:List (D×D)} {c:Array MapEntry} {x:Value} {d:D} {v:Value}
  (hx:x= .map none∧c=#[]∨∃b n,x= .map (some b)∧w.heap[b]?=some (.map c n)) (hlen:c.size=es.length) (hr:RepV K w d v) (hk:kX ag l es d)
  (hkey:∀(j:Nat) (p:D×D) (e:MapEntry),es[j]?=some p→c[j]?=some e→RepV K w p.1 e.key)
  (hval:∀(j:Nat) (p:D×D) (e:MapEntry),es[j]?=some p→c[j]?=some e→RepV K w p.2 e.val) (ok:Bool):
  ∃u,(Instr.lookup t x v ok).run P w= .ok u w∧RepV K w (v8 ok z (kw es (cellsOf d))) u:=by
 obtain ⟨kt,et,hu,hl,hz,rfl⟩:=KH hm
 obtain ⟨i,zv,hi,hzv,hzr⟩:=Vj hz
 obtain ⟨k1,k2,k3⟩:=hk
 obtain ⟨vs,h1,h2,h3,h4⟩:=vQ (P:=P) (t:=kt) hr k1 k2 (yB hl)
 have hck:∀em,(Instr.checkKey em 10000 kt v).run P w= .ok () w:=fun em=>by rw [h1];exact vb em 8 10000 kt l hl (by decide) vs w h3
 have hfk:=vr hl hr k1 k2 es c.toList (by simpa using hlen) k3 (fun j p e hj he=>hkey j p e hj (by simpa using he))
 have hzero:(zeroValue et).run P w= .ok zv w:=by simp [zeroValue,typeInfo,hi,hzv]
 have hgo:∀b n,w.heap[b]?=some (.map c n)→(getObj b).run P w= .ok (.map c n) w:=fun b n hb=>by
  unfold getObj
  simp only [Sem.run,hb]
 rw [uE]
 cases hix:yA es (cellsOf d) with
 | none=>
  refine ⟨if ok=true then .tuple #[zv,.bool false] else zv,?_,?_⟩
  ·unfold Instr.lookup
   rcases hx with ⟨rfl,rfl⟩|⟨b,n,rfl,hb⟩
   ·simp only [Sem.run_bind,run_underlying hu,Result.andThen_ok,Sem.run_pure,hck,hfk,hix,Option.bind_none,hzero,Sem.run_ite]
   ·simp only [Sem.run_bind,run_underlying hu,Result.andThen_ok,Sem.run_pure,hgo b n hb,hck,hfk,hix,Option.bind_none,hzero,Sem.run_ite]
  ·cases ok
   ·exact hzr K w
   ·exact .tup _ _ rfl (fun j d' u hd hu'=>by
     match j with
     |0=>simp at hd hu';subst hd hu';exact hzr K w
     |1=>simp at hd hu';subst hd hu';exact .bool _
     |j+2=>simp at hd)
 | some j=>
  have hj:=WP hix
  have hp:=List.getElem?_eq_getElem hj
  have hc:c[j]?=some c[j]:=Array.getElem?_eq_getElem (by omega)
  have hrv:=hval j _ _ hp hc
  refine ⟨if ok=true then .tuple #[c[j].val,.bool true] else c[j].val,?_,?_⟩
  ·unfold Instr.lookup
   have hc':c.toList[j]?=some c[j]:=by rw [Array.getElem?_toList];exact hc
   rcases hx with ⟨rfl,rfl⟩|⟨b,n,rfl,hb⟩
   ·simp at hlen;omega
   ·simp only [Sem.run_bind,run_underlying hu,Result.andThen_ok,Sem.run_pure,hgo b n hb,hck,hfk,hix,Option.bind_some,hc',Option.map_some,Sem.run_ite]
  ·simp only [Option.bind_some,hp,Option.map_some]
   cases ok
   ·exact hrv
   ·exact .tup _ _ rfl (fun q d' u hd hu'=>by
     match q with
     |0=>simp at hd hu';subst hd hu';exact hrv
     |1=>simp at hd hu';subst hd hu';exact .bool _
     |q+2=>simp at hd)
theorem Yb {wk:Bool} {t:TypeId} {dm di:D} {ok:Bool} (h:gS P wk t H dm di ok k) {K0:Nat→BK} {w0:World} {vm0 vi0:Value} (hK0:KRel K0 w0) (hH0:HRel K0 w0 H) (hm0:RepV K0 w0 dm vm0) (hi0:RepV K0 w0 di vi0):
  ∃d,k d∧∀(K:Nat→BK) (w:World) (vm vi:Value),HRel K w H→RepV K w dm vm→RepV K w di vi→∃u,(Instr.lookup t vm vi ok).run P w= .ok u w∧RepV K w d u:=by
 simp only [gS] at h
 have key:∀(es:List (D×D)) (ag:Bool) (l:List CT) (z:D),VN P t=some (ag,l,z)→kX ag l es di→
   (∀(K:Nat→BK) (w:World) (vm:Value),HRel K w H→RepV K w dm vm→
    ∃ c:Array MapEntry,(vm= .map none∧c=#[]∨∃b n,vm= .map (some b)∧w.heap[b]?=some (.map c n))∧c.size=es.length∧
     (∀(j:Nat) (p:D×D) (e:MapEntry),es[j]?=some p→c[j]?=some e→RepV K w p.1 e.key)∧(∀(j:Nat) (p:D×D) (e:MapEntry),es[j]?=some p→c[j]?=some e→RepV K w p.2 e.val))→
   (fact (v8 ok z (kw es (cellsOf di)))→k (wkI wk (v8 ok z (kw es (cellsOf di)))))→∃d,k d∧∀(K:Nat→BK) (w:World) (vm vi:Value),HRel K w H→RepV K w dm vm→RepV K w di vi→∃u,(Instr.lookup t vm vi ok).run P w= .ok u w∧RepV K w d u:=by
  intro es ag l z hm hk hc hkk
  obtain ⟨c,c1,c2,c3,c4⟩:=hc K0 w0 vm0 hH0 hm0
  obtain ⟨u,_,hu⟩:=QB hm c1 c2 hi0 hk c3 c4 ok
  refine ⟨_,hkk hu.fact,fun K w vm vi hH hr1 hr2=>?_⟩
  obtain ⟨c,c1,c2,c3,c4⟩:=hc K w vm hH hr1
  obtain ⟨u,hrun,hu⟩:=QB hm c1 c2 hr2 hk c3 c4 ok
  exact ⟨u,hrun,hu.wkI⟩
 split at h
 ·rename_i ag l z hm
  refine key [] ag l z hm h.1 (fun K w vm hH hr=>⟨#[],.inl ⟨hr.mp_inv,rfl⟩,rfl,fun j p e hp=>by simp at hp,fun j p e hp=>by simp at hp⟩) (fun _=>by simpa [kw] using h.2)
 ·rename_i ag l z es hm
  refine key es ag l z hm h.1 (fun K w vm hH hr=>?_) h.2
  obtain ⟨b,c,h1,_,_,hh,hl,hkey,hval⟩:=hr.mpv_inv
  exact ⟨c,.inr ⟨b,_,h1,hh⟩,hl,hkey,hval⟩
 ·rename_i ag l z b hm
  split at h
  ·rename_i es hg
   refine key es ag l z hm h.1 (fun K w vm hH hr=>?_) h.2
   obtain ⟨_,c,hh,hl,hc⟩:=hH.ok b _ (j4 hg)
   refine ⟨c,.inr ⟨b,c.size,hr.mp_inv,hh⟩,hl,fun j p e hp he=>?_,fun j p e hp he=>?_⟩
   ·obtain ⟨e',h1,_,h3,_⟩:=hc j p hp
    rw [he] at h1;cases h1;exact h3
   ·obtain ⟨e',h1,_,_,h4⟩:=hc j p hp
    rw [he] at h1;cases h1;exact h4
  ·exact h.elim
 ·exact h.elim
theorem W8 {t:TypeId} {m i:Operand} {ok:Bool} (ho:o.op= .lookup t m i ok) (h:qO P ρ H (.lookup t m i ok) k) (hcur:Cur o H ρ):∃d,k d∧Yields P o H ρ d:=by
 simp only [qO] at h
 have hops:∀{K:Nat→BK} {w:World} {σ:Operand→Value},(∀x∈o.op.operands.toList,RepV K w (ρ x) (σ x))→RepV K w (ρ m) (σ m)∧RepV K w (ρ i) (σ i):=fun hr=>
  ⟨hr m (by simp [ho,Op.operands]),hr i (by simp [ho,Op.operands])⟩
 obtain ⟨K,w,σ,hK,hH,hr⟩:=hcur
 obtain ⟨d,hd,hrun⟩:=Yb h hK hH (hops hr).1 (hops hr).2
 refine ⟨d,hd,qx fun K w σ hK hH hr=>?_⟩
 obtain ⟨u,h1,h2⟩:=hrun K w _ _ hH (hops hr).1 (hops hr).2
 refine ⟨u,?_,h2⟩
 simp only [execOp,ho,Sem.run_bind,h1,Result.andThen_ok]
 rfl
end
end Go.Aw
end
section
namespace Go.Aw
open Go Go.RowKit
section
variable {P:Program} {o:Oper} {H:AH} {ρ:Operand→D} {k:D→Prop}
theorem QR {t:TypeId} {l c:Operand} (ho:o.op= .makeSlice t l c) (h:qO P ρ H (.makeSlice t l c) k) (hcur:Cur o H ρ):∃d,k d∧Yields P o H ρ d:=by
 simp only [qO] at h
 have hml:l∈o.op.operands.toList:=by simp [ho,Op.operands]
 have hmc:c∈o.op.operands.toList:=by simp [ho,Op.operands]
 split at h
 ·rename_i e sz hsl
  split at h
  ·rename_i z k1 n k2 m hz hl hc
   obtain ⟨rfl,h0,hb,h⟩:=h
   obtain ⟨hu,hsz,i,hi,his⟩:=ju hsl
   obtain ⟨i',zv,hi',hzv,z1,z2,z3,z4⟩:=y7 hz
   have hii:i=i':=by rw [hi] at hi';exact Option.some.inj hi'
   subst hii
   simp only [hi] at hb
   refine ⟨_,h,?_⟩
   intro K w σ slot hk hh hr
   have hl':=(hl▸hr l hml).int_inv.1
   have hc':=(hc▸hr c hmc).int_inv.1
   obtain ⟨q,rfl⟩:=Int.eq_ofNat_of_zero_le h0
   have hrun:=run_make (P:=P) w t e i zv hu hi hzv k1 k2 q q h0 (Int.le_refl _) (by omega) (by omega)
   simp only [Int.toNat_natCast] at hrun
   obtain ⟨hp,hk'⟩:=yQ (K:=K) (w:=w) hk (.cells (madeCells zv.cells (q*i.size)) e) (x:= .tok (q*sz) (.slot slot 0)) (by simp)
   refine ⟨.slice (some ⟨w.heap.size,0,none⟩) q q,_,_,?_,hp,hk',?_⟩
   ·simp only [execOp,ho,Sem.run_bind,hl',hc',hrun,Result.andThen_ok]
    rfl
   ·have hzl:z.length=sz:=by omega
    have hrepz:=(WW hz hi hzv (Qg K w.heap.size (.tok (q*sz) (.slot slot 0))) (w.alloc (.cells (madeCells zv.cells (q*i.size)) e)) (fun _=>.outer)).2
    by_cases hq0:q=0
    ·subst hq0
     exact .inl ⟨rfl,_,rfl⟩
    refine .inr ⟨w.heap.size,q,sz,madeCells zv.cells (q*i.size),e,?_,?_,heap_alloc_new w _,?_,?_,?_,?_,?_,?_,?_⟩
    ·simp
    ·rw [jR];simp
    ·rw [size_madeCells,his]
    ·simp only [List.length_replicate,Int.toNat_natCast];omega
    ·simp
    ·unfold maxLen;omega
    ·simp only [List.length_replicate,Int.toNat_natCast];unfold big;omega
    ·intro i x hx
     have:=List.mem_of_getElem? hx
     have:=List.eq_of_mem_replicate this
     subst this
     simpa using hzl
    ·intro a x hx j d hd
     have h1:=(List.getElem?_eq_some_iff.1 hx).1
     have:=List.eq_of_mem_replicate (List.mem_of_getElem? hx)
     subst this
     simp only [List.length_replicate,Int.toNat_natCast] at h1
     rw [List.getElem?_map,Option.map_eq_some_iff] at hd
     obtain ⟨d',hd',rfl⟩:=hd
     have hj:j<sz:=by rw [←hzl];exact (List.getElem?_eq_some_iff.1 hd').1
     obtain ⟨u,e1,e2,e3⟩:=hrepz j d' hd'
     refine ⟨u,?_,e2,e3.rep⟩
     have hlt:a*sz+j<q*i.size:=by
      rw [his]
      have:(a+1)*sz≤q*sz:=Nat.mul_le_mul_right _ h1
      rw [Nat.add_mul] at this
      omega
     have hzs:zv.cells.size=sz:=by omega
     have hmod:(a*sz+j) % zv.cells.size=j:=by rw [hzs,Nat.mul_comm,Nat.mul_add_mod,Nat.mod_eq_of_lt hj]
     unfold madeCells
     rw [Array.getElem?_map,Array.getElem?_range,if_pos hlt]
     simp only [Option.map_some,hmod]
     have hjz:j<zv.cells.size:=by omega
     rw [getElem!_pos zv.cells j hjz,←e1]
     exact (Array.getElem?_eq_getElem hjz).symm
  ·exact h.elim
 ·exact h.elim
theorem gI {K:Nat→BK} {w:World} {b off n off' n':Nat} (h:Vis K w b off n) (h0:off≤off') (h':off'+n'≤off+n):Vis K w b off' n':=by
 obtain ⟨h1,h2⟩:=h
 refine ⟨h1,?_⟩
 cases hK:K b<;>rw [hK] at h2<;>first|trivial|(show n'=0;have:n=0:=h2;omega)|(show n'=0∨off'+n'≤_;have:n=0∨off+n≤_:=h2;omega)
theorem Vb {K:Nat→BK} {w:World} {xs:List (List D)} {a:Option Addr} {len cap:Nat} (hr:RepV K w (.slc xs) (.slice a len cap)) (sz:Nat) (hsz:∀(i:Nat) (x:List D),xs[i]?=some x→x.length=sz)
  {l h:Nat} (h1:l≤h) (h2:h≤xs.length):len=xs.length∧xs.length≤cap∧RepV K w (.slc ((xs.take h).drop l)) (sliced a l h cap sz):=by
 have hlen:((xs.take h).drop l).length=h - l:=by simp;omega
 have key:∀(i:Nat) (x:List D),((xs.take h).drop l)[i]?=some x→xs[l+i]?=some x:=fun i x hi=>by
  rw [List.getElem?_drop,List.getElem?_take] at hi
  split at hi
  ·exact hi
  ·cases hi
 rcases hr.slc_inv with ⟨rfl,a',he⟩|⟨b,off,cap',sz',f,he,hc,hm,hs,hv,hcell,hone,hrep⟩
 ·injection he with e1 e2 e3
  subst e1 e2 e3
  simp only [List.length_nil,Nat.le_zero_eq] at h2
  subst h2
  simp only [Nat.le_zero_eq] at h1
  subst h1
  exact ⟨rfl,Nat.le_refl _,.slcnil _⟩
 ·injection he with e1 e2 e3
  subst e1 e2 e3
  refine ⟨rfl,hc,?_⟩
  unfold sliced
  have hbig:=hr.slc_big
  by_cases hcl:cap=l
  ·rw [if_pos hcl]
   have hnil:(xs.take h).drop l= []:=List.eq_nil_of_length_eq_zero (by omega)
   rw [hnil,show h - l=0 by omega,show cap - l=0 by omega]
   exact .slcnil _
  ·rw [if_neg hcl]
   simp only [Option.map_some,Addr.add_lit]
   by_cases hz:xs.length=0
   ·have hnil:(xs.take h).drop l= []:=List.eq_nil_of_length_eq_zero (by omega)
    rw [hnil]
    have hl0:l=0:=by omega
    subst hl0
    have hh0:h=0:=by omega
    subst hh0
    have:=RepV.slc (K:=K) (w:=w) [] b (off+0*sz) (cap - 0) sz (fun _ _=>default) (Nat.zero_le _) (Nat.zero_le _) (by omega) (by simp) (gI hv (by simp) (by simp)) (by simp) (by simp) (by simp)
    exact this
   ·have hszz:sz'=sz:=by
     have h0:=List.getElem?_eq_getElem (show 0<xs.length by omega)
     rw [←hs 0 _ h0,hsz 0 _ h0]
    subst hszz
    rw [←hlen]
    refine .slc _ b (off+l*sz') (cap - l) sz' (fun i j=>f (l+i) j) (by omega) (by omega) (by omega) (fun i x hi=>hs _ x (key i x hi)) (gI hv (Nat.le_add_right _ _) ?_) (fun i x hi j d hj=>?_) (fun i x hi=>hone _ x (key i x hi)) (fun i x hi=>hrep _ x (key i x hi))
    ·rw [hlen]
     have:(l+(h - l))*sz'≤xs.length*sz':=Nat.mul_le_mul_right _ (by omega)
     rw [Nat.add_mul] at this
     omega
    ·rw [←hcell _ x (key i x hi) j d hj]
     congr 2
     rw [Nat.add_mul]
     omega
theorem Wb {n cap:Nat} {lo hi:Option D} {K:Nat→BK} {w:World} {vlo vhi:Option Value} (hlo:∀d v,lo=some d→vlo=some v→RepV K w d v) (hhi:∀d v,hi=some d→vhi=some v→RepV K w d v)
  (e1:lo.isSome=vlo.isSome) (e2:hi.isSome=vhi.isSome) {kk:Nat→Nat→Prop} (hc:n≤cap) (h:oQ n lo hi kk):
  ∃l hh,kk l hh∧l≤hh∧hh≤n∧∀b:Bool,(Instr.sliceBounds b n cap vlo vhi none).run P w= .ok (l,hh,cap) w:=by
 unfold oQ at h
 split at h
 ·cases vlo<;>simp at e1
  cases vhi<;>simp at e2
  exact ⟨0,n,h,Nat.zero_le _,Nat.le_refl _,fun b=>by simp [Instr.sliceBounds]⟩
 ·rename_i ka l
  obtain ⟨a1,a2,a3⟩:=h
  cases vlo<;>simp at e1
  rename_i vl
  cases vhi<;>simp at e2
  obtain ⟨rfl,_⟩:=(hlo _ _ rfl rfl).int_inv
  exact ⟨l.toNat,n,a3,by omega,Nat.le_refl _,fun b=>by simp [Instr.sliceBounds,run_sliceBound_if,a1,a2]⟩
 ·rename_i ka h'
  obtain ⟨a1,a2,a3⟩:=h
  cases vlo<;>simp at e1
  cases vhi<;>simp at e2
  rename_i vh
  obtain ⟨rfl,_⟩:=(hhi _ _ rfl rfl).int_inv
  have:h'≤(cap:Int):=by omega
  exact ⟨0,h'.toNat,a3,Nat.zero_le _,by omega,fun b=>by simp [Instr.sliceBounds,run_sliceBound_if,a1,this]⟩
 ·rename_i ka l kb h'
  obtain ⟨a1,a2,a3,a4⟩:=h
  cases vlo<;>simp at e1
  cases vhi<;>simp at e2
  obtain ⟨rfl,_⟩:=(hlo _ _ rfl rfl).int_inv
  obtain ⟨rfl,_⟩:=(hhi _ _ rfl rfl).int_inv
  have b1:h'≤(cap:Int):=by omega
  have b2:0≤h':=by omega
  have b3:l≤(h'.toNat:Int):=by omega
  exact ⟨l.toNat,h'.toNat,a4,by omega,by omega,fun b=>by simp only [Instr.sliceBounds,run_sliceBound_if,Sem.run_bind,Sem.run_pure,Result.andThen_ok,if_pos (And.intro b2 b1),if_pos (And.intro a1 b3)]⟩
 ·exact h.elim
theorem VF {t:TypeId} {x:Operand} {lo hi:Option Operand} (ho:o.op= .slice t x lo hi none) (h:qO P ρ H (.slice t x lo hi none) k) (hcur:Cur o H ρ):∃d,k d∧Yields P o H ρ d:=by
 simp only [qO] at h
 have hmx:x∈o.op.operands.toList:=by simp [ho,Op.operands]
 have hml:∀y,lo=some y→y∈o.op.operands.toList:=fun y hy=>by simp [ho,Op.operands,hy]
 have hmh:∀y,hi=some y→y∈o.op.operands.toList:=fun y hy=>by simp [ho,Op.operands,hy]
 obtain ⟨K0,w0,σ0,hk0,hh0,hr0⟩:=hcur
 have bnd:∀{n cap:Nat} {K:Nat→BK} {w:World} {σ:Operand→Value} {kk:Nat→Nat→Prop},(∀x∈o.op.operands.toList,RepV K w (ρ x) (σ x))→n≤cap→oQ n (lo.map ρ) (hi.map ρ) kk→
   ∃l hh,kk l hh∧l≤hh∧hh≤n∧∀b:Bool,(Instr.sliceBounds b n cap (lo.map σ) (hi.map σ) none).run P w= .ok (l,hh,cap) w:=by
  intro n cap K w σ kk hr hc hk
  refine Wb (K:=K) (fun d v h1 h2=>?_) (fun d v h1 h2=>?_) (by simp) (by simp) hc hk
  ·rw [Option.map_eq_some_iff] at h1 h2
   obtain ⟨y,h3,rfl⟩:=h1
   obtain ⟨z,h4,rfl⟩:=h2
   rw [h3] at h4
   obtain rfl:=Option.some.inj h4
   exact hr y (hml y h3)
  ·rw [Option.map_eq_some_iff] at h1 h2
   obtain ⟨y,h3,rfl⟩:=h1
   obtain ⟨z,h4,rfl⟩:=h2
   rw [h3] at h4
   obtain rfl:=Option.some.inj h4
   exact hr y (hmh y h3)
 have main:∀(n:Nat) (kk:Nat→Nat→Prop),oQ n (lo.map ρ) (hi.map ρ) kk→∃l hh,kk l hh∧l≤hh∧hh≤n∧(∀kk':Nat→Nat→Prop,kk' l hh→oQ n (lo.map ρ) (hi.map ρ) kk'):=by
  intro n kk hkk
  unfold oQ at hkk ⊢
  split at hkk
  ·exact ⟨0,n,hkk,Nat.zero_le _,Nat.le_refl _,fun _ h=>h⟩
  ·obtain ⟨a1,a2,a3⟩:=hkk
   exact ⟨_,_,a3,by omega,Nat.le_refl _,fun _ h=>⟨a1,a2,h⟩⟩
  ·obtain ⟨a1,a2,a3⟩:=hkk
   exact ⟨_,_,a3,Nat.zero_le _,by omega,fun _ h=>⟨a1,a2,h⟩⟩
  ·obtain ⟨a1,a2,a3,a4⟩:=hkk
   exact ⟨_,_,a4,by omega,by omega,fun _ h=>⟨a1,a2,a3,h⟩⟩
  ·exact hkk.elim
 split at h
 ·rename_i xs hx
  split at h
  ·rename_i e sz hsl
   obtain ⟨hall,h⟩:=h
   obtain ⟨hu,hsz,i,hi',his⟩:=ju hsl
   have he:P.elem t=e:=by simp [Program.elem,hu]
   have hut:P.underlying t=some (.slice (P.elem t)):=by rw [he];exact hu
   obtain ⟨l,hh,m1,m2,m3,m4⟩:=main _ _ h
   refine ⟨_,m1,qx fun K w σ hk hH hr=>?_⟩
   have hrx:=hx▸hr x hmx
   obtain ⟨a,cap,hv,hcap,hmax⟩:=hrx.slc_form
   obtain ⟨l',hh',q1,q2,q3,q4⟩:=bnd (kk:=fun a b=>l=a∧hh=b) hr hcap (m4 _ ⟨rfl,rfl⟩)
   obtain ⟨rfl,rfl⟩:=q1
   rw [hv] at hrx
   obtain ⟨_,_,hrep⟩:=Vb hrx sz (fun i x hx=>hall x (List.mem_of_getElem? hx)) q2 q3
   refine ⟨_,?_,hrep⟩
   have hsize:∀w:World,(sizeOf (P.elem t)).run P w= .ok sz w:=fun w=>by rw [he];simp [sizeOf,typeInfo,hi',his]
   simp only [execOp,ho,hv,Sem.run_bind,run_sliceAt_slice w t _ _ _ _ hut,run_slice_any w t a xs.length cap hut,q4 true,Result.andThen_ok,hsize,Option.map_none]
   rfl
  ·exact h.elim
 ·rename_i s hx
  obtain ⟨hst,h⟩:=h
  have hu:=vg hst
  obtain ⟨l,hh,m1,m2,m3,m4⟩:=main _ _ h
  refine ⟨_,m1,qx fun K w σ hk hH hr=>?_⟩
  obtain ⟨hv,hb⟩:=(hx▸hr x hmx).str_inv
  obtain ⟨l',hh',q1,q2,q3,q4⟩:=bnd (kk:=fun a b=>l=a∧hh=b) hr (Nat.le_refl _) (m4 _ ⟨rfl,rfl⟩)
  obtain ⟨rfl,rfl⟩:=q1
  refine ⟨.string ⟨⟨(s.take hh).drop l⟩⟩,?_,.str _ (by simp;omega)⟩
  have hsz:(⟨⟨s⟩⟩:ByteArray).size=s.length:=rfl
  have hex:(⟨⟨s⟩⟩:ByteArray).extract l hh=⟨⟨(s.take hh).drop l⟩⟩:=by
   apply ByteArray.ext
   rw [ByteArray.data_extract]
   apply Array.ext'
   simp [List.extract_eq_take_drop,List.drop_take]
  simp only [execOp,ho,hv,Sem.run_bind,run_sliceAt_string w t _ _ _ _ hu,Instr.slice,run_underlying hu,Result.andThen_ok,Option.map_none,Option.isSome_none,Bool.false_eq_true,if_false,hsz,q4 false,Sem.run_pure,hex,Sem.run_ite]
 ·rename_i b n hx
  split at h
  ·rename_i e sz hsl
   obtain ⟨hu,hsz,i,hi',his⟩:=ju hsl
   have he:P.elem t=e:=by simp [Program.elem,hu]
   have hut:P.underlying t=some (.slice (P.elem t)):=by rw [he];exact hu
   obtain ⟨l,hh,⟨m0,m1⟩,m2,m3,m4⟩:=main _ _ h
   refine ⟨_,m1,qx fun K w σ hk hH hr=>?_⟩
   obtain ⟨cap,hv,hcap,hmax,hbig⟩:=(hx▸hr x hmx).hsl_inv
   obtain ⟨l',hh',q1,q2,q3,q4⟩:=bnd (kk:=fun a b=>l=a∧hh=b) hr hcap (m4 _ ⟨rfl,rfl⟩)
   obtain ⟨rfl,rfl⟩:=q1
   have hsize:∀w:World,(sizeOf (P.elem t)).run P w= .ok sz w:=fun w=>by rw [he];simp [sizeOf,typeInfo,hi',his]
   have hsl':sliced (some ⟨b,0,none⟩) l hh cap sz= .slice (some ⟨b,l*sz,none⟩) (hh - l) (cap - l):=by
    unfold sliced
    rw [if_neg (by omega)]
    simp [Addr.add_lit]
   have hl0:lo=none→l=0:=fun e0=>by
    have:=m4 (fun a _=>a=l) rfl
    subst e0
    unfold oQ at this
    cases hi with
    |none=>exact this.symm
    | some y=>
     simp only [Option.map_none,Option.map_some] at this
     split at this
     ·rename_i h1 h2;cases h2
     ·rename_i h1;cases h1
     ·exact this.2.2.symm
     ·rename_i h1 h2;cases h1
     ·exact this.elim
   refine ⟨.slice (some ⟨b,l*sz,none⟩) (hh - l) (cap - l),?_,?_⟩
   ·rw [←hsl']
    simp only [execOp,ho,hv,Sem.run_bind,run_sliceAt_slice w t _ _ _ _ hut,run_slice_any w t _ n cap hut,q4 true,Result.andThen_ok,hsize,Option.map_none]
    rfl
   ·cases lo with
    | none=>
     obtain rfl:=hl0 rfl
     simpa using RepV.hsl b hh cap (by omega) hmax (by omega)
    |some y=>exact .hso b (l*sz) (hh - l) (cap - l) (by omega) (by omega) (by omega) (by omega)
  ·exact h.elim
 ·exact h.elim
theorem YI {t:TypeId} {x:Operand} {lo:Option Operand} {hi mx:Operand} (ho:o.op= .slice t x lo (some hi) (some mx)) (h:qO P ρ H (.slice t x lo (some hi) (some mx)) k) (hcur:Cur o H ρ):∃d,k d∧Yields P o H ρ d:=by
 simp only [qO] at h
 have hmx:x∈o.op.operands.toList:=by simp [ho,Op.operands]
 have hmh:hi∈o.op.operands.toList:=by simp [ho,Op.operands]
 have hmm:mx∈o.op.operands.toList:=by simp [ho,Op.operands]
 have fin:∀(vlo:(Operand→Value)→Option Value) (K:Nat→BK) (w:World) (σ:Operand→Value) (kh km:IntKind) (xs:List (List D)),(vlo σ=none∨∃kl,vlo σ=some (.int kl 0))→lo.map σ=vlo σ→(kY P t).isSome=true→RepV K w (.slc xs) (σ x)→σ hi= .int kh 0→σ mx= .int km 0→
   ∃v,(execOp σ o).run P w= .ok (.value v) w∧OwnAt K w (.slot 0 0) [] v∧∃a,v= .slice a 0 0:=by
  intro vlo K w σ kh km xs hvl hlo hsl hrx hh hm
  obtain ⟨⟨e,sz⟩,hsl⟩:=Option.isSome_iff_exists.1 hsl
  obtain ⟨hu,hsz,i,hi',his⟩:=ju hsl
  have he:P.elem t=e:=by simp [Program.elem,hu]
  have hut:P.underlying t=some (.slice (P.elem t)):=by rw [he];exact hu
  obtain ⟨a,cap,hv,hcap,hmax⟩:=hrx.slc_form
  have hsize:∀w:World,(sizeOf (P.elem t)).run P w= .ok sz w:=fun w=>by rw [he];simp [sizeOf,typeInfo,hi',his]
  have hb:(Instr.sliceBounds true xs.length cap (lo.map σ) (some (.int kh 0)) (some (.int km 0))).run P w= .ok (0,0,0) w:=by
   rw [hlo]
   rcases hvl with h0|⟨kl,h0⟩<;>rw [h0]<;>simp [Instr.sliceBounds,run_sliceBound_if]
  refine ⟨.slice a 0 0,?_,.inl ⟨rfl,a,rfl⟩,a,rfl⟩
  simp only [execOp,ho,hv,hh,hm,Sem.run_bind,run_sliceAt_slice w t _ _ _ _ hut,run_slice_any w t a xs.length cap hut,Option.map_some,hb,Result.andThen_ok,hsize,sliced]
  simp
 have yields:(∀(K:Nat→BK) (w:World) (σ:Operand→Value),(∀x∈o.op.operands.toList,RepV K w (ρ x) (σ x))→∃v,(execOp σ o).run P w= .ok (.value v) w∧∃a,v= .slice a 0 0)→Yields P o H ρ (.own []):=by
  intro hh K w σ i hk hH hr
  obtain ⟨v,h1,a,rfl⟩:=hh K w σ hr
  exact ⟨_,K,w,h1,.refl K w,hk,.inl ⟨rfl,a,rfl⟩⟩
 split at h
 ·rename_i kh h' km m hlo hhi hm
  obtain ⟨rfl,rfl,hsl,⟨xs,hx⟩,h⟩:=h
  refine ⟨_,h,yields fun K w σ hr=>?_⟩
  have hl0:lo=none:=by cases lo<;>simp at hlo;rfl
  obtain ⟨v,e1,_,e2⟩:=fin (fun _=>none) K w σ kh km xs (.inl rfl) (by rw [hl0];rfl) hsl (hx▸hr x hmx) (hhi▸hr hi hmh).int_inv.1 (hm▸hr mx hmm).int_inv.1
  exact ⟨v,e1,e2⟩
 ·rename_i kl l kh h' km m hlo hhi hm
  obtain ⟨rfl,rfl,rfl,hsl,⟨xs,hx⟩,h⟩:=h
  refine ⟨_,h,yields fun K w σ hr=>?_⟩
  cases lo with
  |none=>simp at hlo
  | some y=>
   simp only [Option.map_some,Option.some.injEq] at hlo
   have hy:=(hlo▸hr y (by simp [ho,Op.operands])).int_inv.1
   obtain ⟨v,e1,_,e2⟩:=fin (fun σ=>some (σ y)) K w σ kh km xs (.inr ⟨kl,by simp only [hy]⟩) rfl hsl (hx▸hr x hmx) (hhi▸hr hi hmh).int_inv.1 (hm▸hr mx hmm).int_inv.1
   exact ⟨v,e1,e2⟩
 ·exact h.elim
theorem QO {t:TypeId} {x i:Operand} (ho:o.op= .indexAddr t x i) (h:qO P ρ H (.indexAddr t x i) k) (hcur:Cur o H ρ):∃d,k d∧Yields P o H ρ d:=by
 simp only [qO] at h
 have hmx:x∈o.op.operands.toList:=by simp [ho,Op.operands]
 have hmi:i∈o.op.operands.toList:=by simp [ho,Op.operands]
 have key:∀{xs:List (List D)} {ki:IntKind} {n:Int},(∀(K:Nat→BK) (w:World) (v:Value),RepV K w (ρ x) v→RepV K w (.slc xs) v)→ρ i= .int ki n→(match kY P t with
   |some (_,sz)=>0≤n∧n<(xs.length:Int)∧(xs.getD n.toNat []).length=sz∧k (.eptr (xs.getD n.toNat []))
   |none=>False)→∃d,k d∧Yields P o H ρ d:=by
  intro xs ki n hx hi h
  split at h
  ·rename_i e sz hsl
   obtain ⟨h0,hlt,hlen,h⟩:=h
   obtain ⟨hu,hsz,info,hinf,his⟩:=ju hsl
   have he:P.elem t=e:=by simp [Program.elem,hu]
   have hut:P.underlying t=some (.slice (P.elem t)):=by rw [he];exact hu
   have hsize:∀w:World,(sizeOf (P.elem t)).run P w= .ok sz w:=fun w=>by rw [he];simp [sizeOf,typeInfo,hinf,his]
   have hn:n.toNat<xs.length:=by omega
   have hget:xs[n.toNat]?=some (xs.getD n.toNat []):=by simp [List.getD,List.getElem?_eq_getElem hn]
   refine ⟨_,h,qx fun K w σ hk hh hr=>?_⟩
   obtain hv:=(hi▸hr i hmi).int_inv.1
   rcases (hx _ _ _ (hr x hmx)).slc_inv with ⟨rfl,_⟩|⟨b,off,cap,sz',f,hvx,hc,hm,hs,hvis,hcell,hone,hrep⟩
   ·simp at hn
   ·have hszz:sz'=sz:=by rw [←hs _ _ hget,hlen]
    subst hszz
    refine ⟨.pointer (some ⟨b,off+n.toNat*sz',none⟩),?_,.eptr _ b (off+n.toNat*sz') (fun j=>f n.toNat j) (gI hvis (Nat.le_add_right _ _) ?_) (fun j d hj=>?_) (fun j d hj=>hone _ _ hget j d hj) (fun j d hj=>hrep _ _ hget j d hj)⟩
    ·simp only [execOp,ho,hv,hvx,Sem.run_bind,run_indexAt_slice w t ⟨b,off,none⟩ xs.length cap ki n hut,if_pos (And.intro h0 hlt),hsize,Result.andThen_ok,Addr.add_lit]
     rfl
    ·rw [hlen]
     have:(n.toNat+1)*sz'≤xs.length*sz':=Nat.mul_le_mul_right _ hn
     rw [Nat.add_mul] at this
     omega
    ·rw [←hcell _ _ hget j d hj]
     congr 2
     omega
  ·exact h.elim
 split at h
 ·rename_i xs ki n hx hi
  exact key (fun K w v h'=>hx▸h') hi h
 ·rename_i b m ki n hx hi
  split at h
  ·rename_i e sz hsl
   obtain ⟨h0,hlt,h⟩:=h
   obtain ⟨hu,hsz,info,hinf,his⟩:=ju hsl
   have he:P.elem t=e:=by simp [Program.elem,hu]
   have hut:P.underlying t=some (.slice (P.elem t)):=by rw [he];exact hu
   have hsize:∀w:World,(sizeOf (P.elem t)).run P w= .ok sz w:=fun w=>by rw [he];simp [sizeOf,typeInfo,hinf,his]
   refine ⟨_,h,qx fun K w σ hk hh hr=>⟨.pointer (some ⟨b,n.toNat*sz,none⟩),?_,.ptr _ _⟩⟩
   obtain ⟨cap,hvx,_,_,_⟩:=(hx▸hr x hmx).hsl_inv
   simp only [execOp,ho,(hi▸hr i hmi).int_inv.1,hvx,Sem.run_bind,run_indexAt_slice w t ⟨b,0,none⟩ m cap ki n hut,if_pos (And.intro h0 hlt),hsize,Result.andThen_ok,Addr.add_lit,Nat.zero_add]
   rfl
  ·exact h.elim
 ·rename_i b off ki n hx hi
  split at h
  ·rename_i m sz har
   obtain ⟨h0,hlt,h⟩:=h
   obtain ⟨e,hu,hsz,hm1,info,hinf,his⟩:=Y6 har
   have he:P.elem t=e:=by simp [Program.elem,hu]
   have hal:P.arrayLen t=m:=by simp [Program.arrayLen,hu]
   have hut:P.underlying t=some (.array (P.arrayLen t) (P.elem t)):=by rw [he,hal];exact hu
   have hsize:∀w:World,(sizeOf (P.elem t)).run P w= .ok sz w:=fun w=>by rw [he];simp [sizeOf,typeInfo,hinf,his]
   refine ⟨_,h,qx fun K w σ hk hh hr=>⟨.pointer (some ⟨b,off+n.toNat*sz,none⟩),?_,.ptr _ _⟩⟩
   have hlt':n<(P.arrayLen t:Int):=by rw [hal];exact hlt
   simp only [execOp,ho,(hi▸hr i hmi).int_inv.1,(hx▸hr x hmx).ptr_inv,Sem.run_bind,run_indexAt_array w t ⟨b,off,none⟩ ki n hut,if_pos (And.intro h0 hlt'),hsize,Result.andThen_ok,Addr.add_lit]
   rfl
  ·exact h.elim
 ·rename_i cs ki n hx hi
  split at h
  ·rename_i m sz har
   obtain ⟨h0,hlt,hle,h⟩:=h
   obtain ⟨e,hu,hsz,hm1,info,hinf,his⟩:=Y6 har
   have he:P.elem t=e:=by simp [Program.elem,hu]
   have hal:P.arrayLen t=m:=by simp [Program.arrayLen,hu]
   have hut:P.underlying t=some (.array (P.arrayLen t) (P.elem t)):=by rw [he,hal];exact hu
   have hsize:∀w:World,(sizeOf (P.elem t)).run P w= .ok sz w:=fun w=>by rw [he];simp [sizeOf,typeInfo,hinf,his]
   refine ⟨_,h,qx fun K w σ hk hh hr=>?_⟩
   obtain ⟨b,ob,g,hvx,hvis,hcell,hone,hrep⟩:=(hx▸hr x hmx).eptr_inv
   have hd:∀(j:Nat) (d:D),(cs.drop (n.toNat*sz))[j]?=some d→cs[n.toNat*sz+j]?=some d:=fun j d hj=>by rwa [List.getElem?_drop] at hj
   have hlt':n<(P.arrayLen t:Int):=by rw [hal];exact hlt
   refine ⟨.pointer (some ⟨b,ob+n.toNat*sz,none⟩),?_,.eptr _ b (ob+n.toNat*sz) (fun j=>g (n.toNat*sz+j)) (gI hvis (Nat.le_add_right _ _) (by rw [List.length_drop];omega)) (fun j d hj=>?_) (fun j d hj=>hone _ d (hd j d hj)) (fun j d hj=>hrep _ d (hd j d hj))⟩
   ·simp only [execOp,ho,(hi▸hr i hmi).int_inv.1,hvx,Sem.run_bind,run_indexAt_array w t ⟨b,ob,none⟩ ki n hut,if_pos (And.intro h0 hlt'),hsize,Result.andThen_ok,Addr.add_lit]
    rfl
   ·rw [Nat.add_assoc];exact hcell _ d (hd j d hj)
  ·exact h.elim
 ·rename_i b off m ki n hx hi
  split at h
  ·rename_i e sz hsl
   obtain ⟨h0,hlt,h⟩:=h
   obtain ⟨hu,hsz,info,hinf,his⟩:=ju hsl
   have he:P.elem t=e:=by simp [Program.elem,hu]
   have hut:P.underlying t=some (.slice (P.elem t)):=by rw [he];exact hu
   have hsize:∀w:World,(sizeOf (P.elem t)).run P w= .ok sz w:=fun w=>by rw [he];simp [sizeOf,typeInfo,hinf,his]
   refine ⟨_,h,qx fun K w σ hk hh hr=>⟨.pointer (some ⟨b,off+n.toNat*sz,none⟩),?_,.ptr _ _⟩⟩
   obtain ⟨cap,hvx,_,_,_⟩:=(hx▸hr x hmx).hso_inv
   simp only [execOp,ho,(hi▸hr i hmi).int_inv.1,hvx,Sem.run_bind,run_indexAt_slice w t ⟨b,off,none⟩ m cap ki n hut,if_pos (And.intro h0 hlt),hsize,Result.andThen_ok,Addr.add_lit]
   rfl
  ·exact h.elim
 ·rename_i b c xs ki n hx hi
  exact key (fun K w v h'=>by rw [hx] at h';cases h'<;>first|assumption|exact .slcnil _) hi h
 ·rename_i b m cp ki n hx hi
  split at h
  ·rename_i e sz hsl
   obtain ⟨h0,hlt,h⟩:=h
   obtain ⟨hu,hsz,info,hinf,his⟩:=ju hsl
   have he:P.elem t=e:=by simp [Program.elem,hu]
   have hut:P.underlying t=some (.slice (P.elem t)):=by rw [he];exact hu
   have hsize:∀w:World,(sizeOf (P.elem t)).run P w= .ok sz w:=fun w=>by rw [he];simp [sizeOf,typeInfo,hinf,his]
   refine ⟨_,h,qx fun K w σ hk hh hr=>⟨.pointer (some ⟨b,n.toNat*sz,none⟩),?_,.ptr _ _⟩⟩
   obtain ⟨hvx,_,_,_⟩:=(hx▸hr x hmx).hgs_inv
   simp only [execOp,ho,(hi▸hr i hmi).int_inv.1,hvx,Sem.run_bind,run_indexAt_slice w t ⟨b,0,none⟩ m cp ki n hut,if_pos (And.intro h0 hlt),hsize,Result.andThen_ok,Addr.add_lit,Nat.zero_add]
   rfl
  ·exact h.elim
 ·exact h.elim
theorem Vp {t:TypeId} {x i:Operand} (ho:o.op= .index t x i) (h:qO P ρ H (.index t x i) k) (hcur:Cur o H ρ):∃d,k d∧Yields P o H ρ d:=by
 simp only [qO] at h
 have hmx:x∈o.op.operands.toList:=by simp [ho,Op.operands]
 have hmi:i∈o.op.operands.toList:=by simp [ho,Op.operands]
 split at h
 ·rename_i s ki n hx hi
  obtain ⟨hst,h0,hlt,h⟩:=h
  have hu:=vg hst
  refine ⟨_,h,qx fun K w σ hk hh hr=>⟨.int .u8 (s.getD n.toNat 0).toNat,?_,.int _ _ ?_⟩⟩
  ·have hn:n.toNat<s.length:=by omega
   have hg:(⟨⟨s⟩⟩:ByteArray)[n.toNat]?=some (s.getD n.toNat 0):=by
    show (if h:n.toNat<(⟨⟨s⟩⟩:ByteArray).size then some (⟨⟨s⟩⟩:ByteArray)[n.toNat] else none)=_
    have hsz:(⟨⟨s⟩⟩:ByteArray).size=s.length:=rfl
    rw [dif_pos (by rw [hsz];exact hn)]
    simp [List.getD,List.getElem?_eq_getElem hn]
    rfl
   simp only [execOp,ho,(hi▸hr i hmi).int_inv.1,(hx▸hr x hmx).str_inv.1,Sem.run_bind,Instr.index,asIntOf,Sem.run_pure,Result.andThen_ok,run_underlying hu,if_pos h0,hg]
  ·have:=(s.getD n.toNat 0).toNat_lt
   exact WalkArith.wf_u8 (by omega)
 ·exact h.elim
theorem JH {x:Operand} (ho:o.op= .nilCheck x) (h:qO P ρ H (.nilCheck x) k) (hcur:Cur o H ρ):∃d,k d∧Yields P o H ρ d:=by
 simp only [qO] at h
 have hmx:x∈o.op.operands.toList:=by simp [ho,Op.operands]
 split at h
 ·rename_i b ob hx
  refine ⟨_,h,qx fun K w σ hk hh hr=>⟨_,?_,.ptr _ _⟩⟩
  simp only [execOp,ho,(hx▸hr x hmx).ptr_inv]
  rfl
 ·rename_i cs hx
  refine ⟨_,h,qx fun K w σ hk hh hr=>⟨σ x,?_,hx▸hr x hmx⟩⟩
  obtain ⟨b,ob,g,hvx,_⟩:=(hx▸hr x hmx).eptr_inv
  simp only [execOp,ho,hvx]
  rfl
 ·rename_i f cs hx
  refine ⟨_,h,qx fun K w σ hk hh hr=>⟨σ x,?_,hx▸hr x hmx⟩⟩
  obtain ⟨fs,vs,hvx,_⟩:=(hx▸hr x hmx).fn_call
  simp only [execOp,ho,hvx]
  rfl
 ·exact h.elim
theorem wV {K:Nat→BK} {w:World} {σ:Operand→Value} {c:Call} (ho:o.op= .call c) (hr:∀x∈o.op.operands.toList,RepV K w (ρ x) (σ x)):
  (c.args.map σ).size=(c.args.toList.map ρ).length∧∀(j:Nat) (d:D) (v:Value),(c.args.toList.map ρ)[j]?=some d→(c.args.map σ)[j]?=some v→RepV K w d v:=by
 refine ⟨by simp,fun j d v hd hv=>?_⟩
 simp only [List.getElem?_map,Array.getElem?_toList,Array.getElem?_map,Option.map_eq_some_iff] at hd hv
 obtain ⟨x,h1,rfl⟩:=hd
 obtain ⟨y,h2,rfl⟩:=hv
 rw [h1] at h2
 obtain rfl:=Option.some.inj h2
 exact hr x (by simp only [ho,Op.operands,Call.operands,Array.toList_append,List.mem_append];exact .inr (by simpa using Array.mem_of_getElem? h1))
theorem oS {vs:Array Value} (h:vs.size=1):∃v,vs=#[v]:=by
 obtain ⟨l⟩:=vs
 match l,h with
 | [v],_=>exact ⟨v,rfl⟩
theorem Q8 {vs:Array Value} (h:vs.size=2):∃u v,vs=#[u,v]:=by
 obtain ⟨l⟩:=vs
 match l,h with
 | [u,v],_=>exact ⟨u,v,rfl⟩
theorem vw {ts:Array TypeId} {t:TypeId} (h:ts.toList= [t]):ts=#[t]:=by
 obtain ⟨l⟩:=ts
 simp at h
 simp [h]
theorem UO {c:Call} (ho:o.op= .call c) (h:qO P ρ H (.call c) k) (hcur:Cur o H ρ):∃d,k d∧Yields P o H ρ d:=by
 simp only [qO] at h
 obtain ⟨K0,w0,σ0,hk0,hh0,hr0⟩:=hcur
 have run:∀(b:Builtin) (σ:Operand→Value) (w w':World) (r:Value),c.callee= .builtin b→(builtin b c.argTypes o.type (c.args.map fun| .const _=>true|_=>false) (c.args.map σ)).run P w= .ok (.value r) w'→(execOp σ o).run P w= .ok (.value r) w':=by
  intro b σ w w' r hb hrun
  simp only [execOp,ho,resolve,hb,Sem.run_bind,Sem.run_pure,Result.andThen_ok,invoke]
  exact hrun
 split at h
 ·rename_i xs t hb ha ht
  obtain ⟨hsl,h⟩:=h
  obtain ⟨⟨e,sz⟩,hsl⟩:=Option.isSome_iff_exists.1 hsl
  obtain ⟨hu,hsz,info,hinf,his⟩:=ju hsl
  have key:∀(K:Nat→BK) (w:World) (σ:Operand→Value),(∀x∈o.op.operands.toList,RepV K w (ρ x) (σ x))→∃v,c.args.map σ=#[v]∧RepV K w (.slc xs) v:=by
   intro K w σ hr
   obtain ⟨h1,h2⟩:=wV ho hr
   rw [ha] at h1 h2
   obtain ⟨v,hv⟩:=oS h1
   exact ⟨v,hv,h2 0 _ v rfl (by rw [hv];rfl)⟩
  obtain ⟨_,_,hf⟩:=key K0 w0 σ0 hr0
  refine ⟨_,h hf.fact,qx fun K w σ hk hh hr=>?_⟩
  obtain ⟨v,hv,hrv⟩:=key K w σ hr
  obtain ⟨a,cap,rfl,hc,hm⟩:=hrv.slc_form
  refine ⟨.int .i64 xs.length,run _ σ w w _ hb ?_,.int _ _ ?_⟩
  ·have hlen:=run_len_slice (P:=P) w t o.type a xs.length cap (by simp [Program.elem,hu])
   simp only [builtin,vw ht,hv,Sem.run_bind,hlen,Result.andThen_ok]
   rfl
  ·have:=hrv.slc_big
   exact WalkArith.wf_i64 (by unfold big at this;omega)
 ·rename_i bb m t hb ha ht
  obtain ⟨hsl,h⟩:=h
  obtain ⟨⟨e,sz⟩,hsl⟩:=Option.isSome_iff_exists.1 hsl
  obtain ⟨hu,hsz,info,hinf,his⟩:=ju hsl
  refine ⟨_,h,qx fun K w σ hk hh hr=>?_⟩
  obtain ⟨h1,h2⟩:=wV ho hr
  rw [ha] at h1 h2
  obtain ⟨v,hv⟩:=oS h1
  obtain ⟨cap,rfl,hc,hm,hbg⟩:=(h2 0 _ v rfl (by rw [hv];rfl)).hsl_inv
  refine ⟨.int .i64 m,run _ σ w w _ hb ?_,.int _ _ (WalkArith.wf_i64 (by unfold big at hbg;omega))⟩
  have hlen:=run_len_slice (P:=P) w t o.type (some ⟨bb,0,none⟩) m cap (by simp [Program.elem,hu])
  simp only [builtin,vw ht,hv,Sem.run_bind,hlen,Result.andThen_ok]
  rfl
 ·rename_i bb off m t hb ha ht
  obtain ⟨hsl,h⟩:=h
  obtain ⟨⟨e,sz⟩,hsl⟩:=Option.isSome_iff_exists.1 hsl
  obtain ⟨hu,hsz,info,hinf,his⟩:=ju hsl
  refine ⟨_,h,qx fun K w σ hk hh hr=>?_⟩
  obtain ⟨h1,h2⟩:=wV ho hr
  rw [ha] at h1 h2
  obtain ⟨v,hv⟩:=oS h1
  obtain ⟨cap,rfl,_,hc,hm,hbg⟩:=(h2 0 _ v rfl (by rw [hv];rfl)).hso_inv
  refine ⟨.int .i64 m,run _ σ w w _ hb ?_,.int _ _ (WalkArith.wf_i64 (by unfold big at hbg;omega))⟩
  have hlen:=run_len_slice (P:=P) w t o.type (some ⟨bb,off,none⟩) m cap (by simp [Program.elem,hu])
  simp only [builtin,vw ht,hv,Sem.run_bind,hlen,Result.andThen_ok]
  rfl
 ·rename_i bb m cp t hb ha ht
  obtain ⟨hsl,h⟩:=h
  obtain ⟨⟨e,sz⟩,hsl⟩:=Option.isSome_iff_exists.1 hsl
  obtain ⟨hu,hsz,info,hinf,his⟩:=ju hsl
  refine ⟨_,h,qx fun K w σ hk hh hr=>?_⟩
  obtain ⟨h1,h2⟩:=wV ho hr
  rw [ha] at h1 h2
  obtain ⟨v,hv⟩:=oS h1
  obtain ⟨rfl,hc,hm,hbg⟩:=(h2 0 _ v rfl (by rw [hv];rfl)).hgs_inv
  refine ⟨.int .i64 m,run _ σ w w _ hb ?_,.int _ _ (WalkArith.wf_i64 (by unfold big at hbg;omega))⟩
  have hlen:=run_len_slice (P:=P) w t o.type (some ⟨bb,0,none⟩) m cp (by simp [Program.elem,hu])
  simp only [builtin,vw ht,hv,Sem.run_bind,hlen,Result.andThen_ok]
  rfl
 ·rename_i s t hb ha ht
  obtain ⟨hst,h⟩:=h
  have hu:=vg hst
  have key:∀(K:Nat→BK) (w:World) (σ:Operand→Value),(∀x∈o.op.operands.toList,RepV K w (ρ x) (σ x))→∃v,c.args.map σ=#[v]∧RepV K w (.str s) v:=by
   intro K w σ hr
   obtain ⟨h1,h2⟩:=wV ho hr
   rw [ha] at h1 h2
   obtain ⟨v,hv⟩:=oS h1
   exact ⟨v,hv,h2 0 _ v rfl (by rw [hv];rfl)⟩
  obtain ⟨_,_,hf⟩:=key K0 w0 σ0 hr0
  refine ⟨_,h hf.fact,qx fun K w σ hk hh hr=>?_⟩
  obtain ⟨v,hv,hrv⟩:=key K w σ hr
  obtain ⟨rfl,hbg⟩:=hrv.str_inv
  refine ⟨.int .i64 s.length,run _ σ w w _ hb ?_,.int _ _ (WalkArith.wf_i64 (by unfold big at hbg;omega))⟩
  have hlen:(Builtin.len_ #[t] o.type #[.string ⟨⟨s⟩⟩]).run P w= .ok (.int .i64 s.length) w:=by
   simp [Builtin.len_,run_underlying hu,goInt]
   rfl
  simp only [builtin,vw ht,hv,Sem.run_bind,hlen,Result.andThen_ok]
  rfl
 ·rename_i ts kd a kd' b hb ha
  obtain ⟨rfl,h⟩:=h
  refine ⟨_,h,qx fun K w σ hk hh hr=>?_⟩
  obtain ⟨h1,h2⟩:=wV ho hr
  rw [ha] at h1 h2
  obtain ⟨u,v,hv⟩:=Q8 h1
  obtain ⟨rfl,r1⟩:=(h2 0 _ u rfl (by rw [hv];rfl)).int_inv
  obtain ⟨rfl,r2⟩:=(h2 1 _ v rfl (by rw [hv];rfl)).int_inv
  refine ⟨.int kd (if b>a then b else a),run _ σ w w _ hb ?_,.int _ _ (by split<;>assumption)⟩
  have hlen:∀ts ty,(Builtin.max_ ts ty #[.int kd a,.int kd b]).run P w= .ok (.int kd (if b>a then b else a)) w:=fun ts ty=>by
   simp [Builtin.max_,Builtin.max2]
  simp only [builtin,hv,Sem.run_bind,hlen,Result.andThen_ok]
  rfl
 ·rename_i ts kd a kd' b hb ha
  obtain ⟨rfl,h⟩:=h
  refine ⟨_,h,qx fun K w σ hk hh hr=>?_⟩
  obtain ⟨h1,h2⟩:=wV ho hr
  rw [ha] at h1 h2
  obtain ⟨u,v,hv⟩:=Q8 h1
  obtain ⟨rfl,r1⟩:=(h2 0 _ u rfl (by rw [hv];rfl)).int_inv
  obtain ⟨rfl,r2⟩:=(h2 1 _ v rfl (by rw [hv];rfl)).int_inv
  refine ⟨.int kd (if b<a then b else a),run _ σ w w _ hb ?_,.int _ _ (by split<;>assumption)⟩
  have hlen:∀ts ty,(Builtin.min_ ts ty #[.int kd a,.int kd b]).run P w= .ok (.int kd (if b<a then b else a)) w:=fun ts ty=>by
   simp [Builtin.min_,Builtin.min2]
  simp only [builtin,hv,Sem.run_bind,hlen,Result.andThen_ok]
  rfl
 ·exact h.elim
theorem oA (h:qO P ρ H o.op k) (hcur:Cur o H ρ):∃d,k d∧Yields P o H ρ d:=by
 cases ho:o.op
 case makeFunc fn first caps=>
  rw [ho] at h
  cases fn<;>first
   |exact Kl ho h hcur
   |(simp only [qO] at h)
 case slice t x lo hi mx=>
  rw [ho] at h
  cases mx with
  |none=>exact VF ho h hcur
  | some mx=>cases hi with
   |none=>cases lo<;>simp only [qO] at h
   |some hi=>exact YI ho h hcur
 all_goals
  rw [ho] at h
  first
   |exact ZF ho h hcur
   |exact Vv ho h hcur
   |exact QE ho h hcur
   |exact UB ho h hcur
   |exact snd_bin ho h hcur
   |exact snd_un ho h hcur
   |exact Y8 ho h hcur
   |exact QR ho h hcur
   |exact QK ho h hcur
   |exact VQ ho h hcur
   |exact QO ho h hcur
   |exact Vp ho h hcur
   |exact W8 ho h hcur
   |exact JH ho h hcur
   |exact UO ho h hcur
   |(simp only [qO] at h)
end
end Go.Aw
end
