/- A part of the proof of what the last text says: Aw4, Aw5, Aw6. Conditions: those in each theorem. -/
import Derived.Test.YtpdhandimdibhaaGreatDoorN1
import Derived.Laws.IdiomStrings
set_option linter.unusedVariables false
set_option linter.unusedSimpArgs false
set_option maxRecDepth 100000
set_option maxHeartbeats 16000000
open Nat renaming reduceSub → qa,reduceAdd → qb,reduceMul → qc,reduceEqDiff → qd,reduceLeDiff → qe,reduceBEq → qf
section
namespace Go.Aw
open Go Go.RowKit
def Cur (o:Oper) (H:AH) (ρ:Operand→D):Prop:=
 ∃(K:Nat→BK) (w:World) (σ:Operand→Value),KRel K w∧HRel K w H∧∀x∈o.op.operands.toList,RepV K w (ρ x) (σ x)
section
variable {P:Program} {o:Oper} {H:AH} {ρ:Operand→D} {k:D→Prop}
theorem uo {w:World} {t:TypeId} {n:Nat} (ht:wb P t=some (true,n)) (b off:Nat) (vs:List Value) (hl:vs.length=n) (h:∀j v,vs[j]?=some v→w.cell? ⟨b,off+j,none⟩=some v):
  (Instr.loadAt t (.pointer (some ⟨b,off,none⟩))).run P w= .ok (.agg vs.toArray) w:=by
 obtain ⟨h1,h2⟩:=wg ht
 subst hl
 have hc:=run_loadCells_list (P:=P) w ⟨b,off,none⟩ vs (fun j v hv=>by rw [Addr.add_lit];exact h j v hv)
 simp only [Instr.loadAt,Instr.sureAddr,Sem.run_bind,Sem.run_pure,Result.andThen_ok,loadVar,h1,if_true,h2,hc]
theorem ve {w:World} {t:TypeId} {n:Nat} (ht:wb P t=some (false,n)) (b off:Nat) (v:Value) (h:w.cell? ⟨b,off,none⟩=some v):
  (Instr.loadAt t (.pointer (some ⟨b,off,none⟩))).run P w= .ok v w:=by
 obtain ⟨h1,h2⟩:=wg ht
 simp [Instr.loadAt,Instr.sureAddr,loadVar,h1,h]
theorem va {K:Nat→BK} {w:World} (cs:List D) (vs:List Value) (hl:vs.length=cs.length) (h1:∀(j:Nat) (u:Value),vs[j]?=some u→u.oneCell'=true)
  (h2:∀(j:Nat) (d:D) (u:Value),cs[j]?=some d→vs[j]?=some u→RepV K w d u):RepV K w (.agg cs) (.agg vs.toArray):=
 .agg cs vs.toArray (by simpa using hl) (fun j u hu=>h1 j u (by simpa using hu)) (fun j d u hd hu=>h2 j d u hd (by simpa using hu))
theorem ZF {c a b:Operand} (ho:o.op= .pick c a b) (h:qO P ρ H (.pick c a b) k) (hc:Cur o H ρ):∃d,k d∧Yields P o H ρ d:=by
 simp only [qO] at h
 have key:∀t:Bool,ρ c= .bool t→∀x,x=(if t then a else b)→Yields P o H ρ (ρ x):=by
  intro t ht x hx
  refine qx fun K w σ hk hh hr=>?_
  rw [ho] at hr
  have h1:=hr c (by simp [Op.operands])
  rw [ht] at h1
  have h2:=h1.bool_inv
  refine ⟨σ x,?_,hr x (by subst hx;cases t<;>simp [Op.operands])⟩
  subst hx
  simp only [execOp,ho,Sem.run_bind,asBool,h2,Sem.run_pure,Result.andThen_ok]
  cases t<;>simp
 cases hρ:ρ c<;>simp only [hρ] at h
 rename_i t
 cases t
 ·exact ⟨_,h,key _ hρ b rfl⟩
 ·exact ⟨_,h,key _ hρ a rfl⟩
theorem UB {t:TypeId} {a:Operand} (ho:o.op= .load t a) (h:qO P ρ H (.load t a) k) (hcur:Cur o H ρ):∃d,k d∧Yields P o H ρ d:=by
 simp only [qO] at h
 have hmem:a∈o.op.operands.toList:=by simp [ho,Op.operands]
 split at h
 ·rename_i n b off ht hρ
  split at h
  ·rename_i cs hg
   obtain ⟨hn,hkd⟩:=h
   refine ⟨_,hkd,qx fun K w σ hk hh hr=>?_⟩
   have h2:=(hρ▸hr a hmem).ptr_inv
   obtain ⟨_,c,T,hb,hcs,hcell⟩:=hh.ok b _ (j4 hg)
   refine ⟨.agg ((c.toList.drop off).take n).toArray,?_,va _ _ (by simp;omega) (fun j u hu=>?_) (fun j d u hd hu=>?_)⟩
   ·simp only [execOp,ho,h2]
    rw [Sem.run_bind,uo ht b off ((c.toList.drop off).take n) (by simp;omega) (fun j v hv=>by
     rw [kO hb]
     simp only [List.getElem?_take,List.getElem?_drop] at hv
     split at hv
     ·simpa using hv
     ·cases hv)]
    rfl
   ·simp only [List.getElem?_take,List.getElem?_drop] at hu
    split at hu
    ·rename_i hj
     have hlt:off+j<cs.length:=by omega
     obtain ⟨u',e1,e2,e3⟩:=hcell (off+j) _ (List.getElem?_eq_getElem hlt)
     simp only [Array.getElem?_toList,e1,Option.some.injEq] at hu
     exact hu▸e2
    ·cases hu
   ·simp only [List.getElem?_map,List.getElem?_take,List.getElem?_drop] at hd hu
    split at hu
    ·rename_i hj
     simp only [hj,if_true] at hd
     rw [Option.map_eq_some_iff] at hd
     obtain ⟨d',hd',rfl⟩:=hd
     obtain ⟨u',e1,e2,e3⟩:=hcell (off+j) _ hd'
     simp only [Array.getElem?_toList,e1,Option.some.injEq] at hu
     exact hu▸e3.rep
    ·cases hu
  ·exact h.elim
 ·rename_i n b off ht hρ
  split at h
  ·rename_i cs hg
   split at h
   ·rename_i c hc
    have key:∀(K:Nat→BK) (w:World),HRel K w H→∃u,w.cell? ⟨b,off,none⟩=some u∧RepV K w c.view1 u:=by
     intro K w hh
     obtain ⟨_,c',T,hb,hcs,hcell⟩:=hh.ok b _ (j4 hg)
     obtain ⟨u',e1,e2,e3⟩:=hcell off _ hc
     exact ⟨u',by rw [kO hb];exact e1,e3.rep⟩
    obtain ⟨K0,w0,σ0,hk0,hh0,hr0⟩:=hcur
    obtain ⟨u0,_,hu0⟩:=key K0 w0 hh0
    refine ⟨_,h hu0.fact,qx fun K w σ hk hh hr=>?_⟩
    have h2:=(hρ▸hr a hmem).ptr_inv
    obtain ⟨u,e1,e2⟩:=key K w hh
    refine ⟨u,?_,e2⟩
    simp only [execOp,ho,h2]
    rw [Sem.run_bind,ve ht b off u e1]
    rfl
   ·exact h.elim
  ·exact h.elim
 ·rename_i n cs ht hρ
  obtain ⟨hn,hkd⟩:=h
  refine ⟨_,hkd,qx fun K w σ hk hh hr=>?_⟩
  obtain ⟨b,off,f,h2,hv,hcell,hone,hrep⟩:=(hρ▸hr a hmem).eptr_inv
  have hlt:∀j v,((List.range n).map f)[j]?=some v→j<n∧v=f j:=fun j v hj=>by
   rw [List.getElem?_map,Option.map_eq_some_iff] at hj
   obtain ⟨j',hj',rfl⟩:=hj
   have:=List.getElem?_eq_some_iff.1 hj'
   obtain ⟨hl,he⟩:=this
   simp at hl he
   exact ⟨hl,by rw [he]⟩
  refine ⟨.agg ((List.range n).map f).toArray,?_,va _ _ (by simp;omega) (fun j u hu=>?_) (fun j d u hd hu=>?_)⟩
  ·simp only [execOp,ho,h2]
   rw [Sem.run_bind,uo ht b off ((List.range n).map f) (by simp) (fun j v hj=>by
    obtain ⟨h3,rfl⟩:=hlt j v hj
    exact hcell j _ (List.getElem?_eq_getElem (by omega)))]
   rfl
  ·obtain ⟨h3,rfl⟩:=hlt j u hu
   exact hone j _ (List.getElem?_eq_getElem (by omega))
  ·obtain ⟨h3,rfl⟩:=hlt j u hu
   rw [List.getElem?_take,if_pos h3] at hd
   exact hrep j d hd
 ·rename_i n c cs ht hρ
  have key:∀(K:Nat→BK) (w:World) (v:Value),RepV K w (.eptr (c::cs)) v→∃b off u,v= .pointer (some ⟨b,off,none⟩)∧w.cell? ⟨b,off,none⟩=some u∧RepV K w c u:=by
   intro K w v hr
   obtain ⟨b,off,f,h2,hv,hcell,hone,hrep⟩:=hr.eptr_inv
   exact ⟨b,off,f 0,h2,by simpa using hcell 0 c rfl,hrep 0 c rfl⟩
  obtain ⟨K0,w0,σ0,hk0,hh0,hr0⟩:=hcur
  obtain ⟨_,_,u0,_,_,hu0⟩:=key K0 w0 _ (hρ▸hr0 a hmem)
  refine ⟨_,h hu0.fact,qx fun K w σ hk hh hr=>?_⟩
  obtain ⟨b,off,u,h2,e1,e2⟩:=key K w _ (hρ▸hr a hmem)
  refine ⟨u,?_,e2⟩
  simp only [execOp,ho,h2]
  rw [Sem.run_bind,ve ht b off u e1]
  rfl
 ·exact h.elim
theorem wf_tmod {k:IntKind} {a b:Int} (ha:vk k a) (hb:vk k b):vk k (a.tmod b):=by
 unfold vk at*
 simp only [Lit.wf,Bool.and_eq_true,decide_eq_true_eq] at*
 have hle:(a.tmod b).natAbs≤a.natAbs:=by
  rw [Int.natAbs_tmod];exact Nat.mod_le _ _
 have hs:0≤a→0≤a.tmod b:=fun h=>Int.tmod_nonneg b h
 have hmin:k.min≤0:=by cases k<;>decide
 have hmax:0≤k.max:=by cases k<;>decide
 by_cases h0:0≤a
 ·have:=hs h0;omega
 ·have hn:a.tmod b≤0:=by
   have:=Int.tmod_nonneg b (show 0≤ -a by omega)
   rw [Int.neg_tmod] at this;omega
  omega
theorem wf_fdiv {k:IntKind} {a:Int} (n:Nat) (ha:vk k a):vk k (a.fdiv (2 ^ n)):=by
 unfold vk at*
 simp only [Lit.wf,Bool.and_eq_true,decide_eq_true_eq] at*
 have hp:(0:Int)<2 ^ n:=Int.pow_pos (by decide)
 rw [Int.fdiv_eq_ediv_of_nonneg _ (Int.le_of_lt hp)]
 have hmin:k.min≤0:=by cases k<;>decide
 have hmax:0≤k.max:=by cases k<;>decide
 generalize (2:Int) ^ n=p at hp
 have h1:0≤a→a / p≤a:=fun h=>Int.ediv_le_self _ h
 have h2:0≤a→0≤a / p:=fun h=>Int.ediv_nonneg h (Int.le_of_lt hp)
 have h3:a<0→a≤a / p:=fun h=>by
  rw [Int.le_ediv_iff_mul_le hp]
  have:a*p≤a*1:=Int.mul_le_mul_of_nonpos_left (by omega) (by omega)
  omega
 have h4:a<0→a / p<0:=fun h=>Int.ediv_neg_of_neg_of_pos h hp
 by_cases h0:0≤a
 ·have:=h1 h0;have:=h2 h0;omega
 ·have:=h3 (by omega);have:=h4 (by omega);omega
theorem kZ {α:Type} [BEq α] [LawfulBEq α] [DecidableEq α] (a b:α):(a==b)=decide (a=b):=by
 by_cases h:a=b<;>simp [h]
theorem gO (k:IntKind) (n:Int):vk k (k.wrap n):=wf_wrap k n
theorem yU (s:List UInt8):(⟨⟨s⟩⟩:ByteArray).toList=s:=by rw [ByteArray.toList_eq]
theorem Kz (op:BinOp) (k yk:IntKind) (x y:Int) (h0:0≤y):Op.shift op k x yk y=match op with
  | .shl=>pure (.int k (k.wrap (x*2 ^ (min y.toNat k.bits))))
  | .shr=>pure (.int k (x.fdiv (2 ^ (min y.toNat k.bits))))
  | _=>stuck "shift: << >> expected" := by
 have:¬y<0:=by omega
 cases op<;>simp [Op.shift,this]
def jF:List CT→List Value→Prop
 | [],[]=>True
 | .i::r,.int _ _::s=>jF r s
 | .b::r,.bool _::s=>jF r s
 | .s::r,.string _::s=>jF r s
 |_,_=>False
def Um:Value→Value→Bool
 | .int _ a,.int _ b=>a==b
 | .bool a,.bool b=>a==b
 | .string a,.string b=>a.toList==b.toList
 |_,_=>false
def wt:List Value→List Value→Bool
 | [],[]=>true
 |a::r,b::s=>Um a b&&wt r s
 |_,_=>false
def Qv (P:Program) (t:TypeId) (vs:List Value):Value:=if ja P t then .agg vs.toArray else vs.headD undef
def y8:List Value→List Value→Prop
 | .int k _::r,.int k' _::s=>k=k'∧y8 r s
 |_::r,_::s=>y8 r s
 |_,_=>True
theorem k9:∀{l:List CT} {vs:List Value},jF l vs→vs.length=l.length
 | [],[],_=>rfl
 | c::r,v::s,h=>by
  cases c<;>cases v<;>simp only [jF] at h<;>first|exact h.elim|exact congrArg (·+1) (k9 h)
 | [],_::_,h=>by simp [jF] at h
 |c::_,[],h=>by cases c<;>simp [jF] at h
theorem wG:∀{l r:List CT} {vs:List Value},jF (l++r) vs→jF l (vs.take l.length)∧jF r (vs.drop l.length)
 | [],r,vs,h=>by simpa [jF] using h
 |c::l,r,[],h=>by cases c<;>simp [jF] at h
 | c::l,r,v::vs,h=>by
  cases c<;>cases v<;>simp only [List.cons_append,jF] at h<;>first|exact h.elim|(obtain ⟨h1,h2⟩:=wG h;exact ⟨h1,h2⟩)
theorem zZ:∀{a b:List Value} (n:Nat),a.length=b.length→wt a b=(wt (a.take n) (b.take n)&&wt (a.drop n) (b.drop n))
 | [],[],n,_=>by simp [wt]
 |x::a,y::b,0,_=>by simp [wt]
 | x::a,y::b,n+1,h=>by
  simp only [List.take_succ_cons,List.drop_succ_cons,wt,zZ n (Nat.succ.inj h),Bool.and_assoc]
 | [],_::_,_,h=>by simp at h
 |_::_,[],_,h=>by simp at h
theorem w9:∀{a b:List Value} (n:Nat),y8 a b→y8 (a.take n) (b.take n)∧y8 (a.drop n) (b.drop n)
 | [],_,n,_=>by simp [y8]
 |_::_,[],n,_=>by cases n<;>simp [y8]
 |x::a,y::b,0,h=>⟨by simp [y8],h⟩
 | x::a,y::b,n+1,h=>by
  simp only [List.take_succ_cons,List.drop_succ_cons]
  cases x<;>cases y<;>simp only [y8] at h ⊢<;>first
   |exact w9 n h
   |exact ⟨⟨h.1,(w9 n h.2).1⟩,(w9 n h.2).2⟩
theorem ui {t:TypeId} {n:Nat} (ht:wb P t=some (ja P t,n)) (hn:ja P t=true∨n=1) (vs:List Value) (off:Nat) (h:off+n≤vs.length) (w:World):
  (part t vs.toArray off).run P w= .ok (Qv P t ((vs.drop off).take n)) w:=by
 obtain ⟨h1,h2⟩:=wg ht
 unfold part Qv
 rw [Sem.run_bind,h1,Result.andThen_ok]
 cases hb:ja P t
 ·have hn1:n=1:=by rcases hn with h|h<;>simp_all
  subst hn1
  have hlt:off<vs.length:=by omega
  have hd:vs.drop off=vs[off]::vs.drop (off+1):=List.drop_eq_getElem_cons hlt
  have hg:vs[off]?=some vs[off]:=List.getElem?_eq_getElem hlt
  simp only [hd,Bool.false_eq_true,if_false,List.getElem?_toArray,hg,Sem.run_pure,List.take_succ_cons,List.take_zero,List.headD_cons]
 ·simp only [if_true,Sem.run_bind,h2,Result.andThen_ok,Sem.run_pure]
  congr 2
  apply Array.ext'
  simp [List.extract_eq_take_drop]
theorem vG:∀(e d:Nat) (t:TypeId) (l:List CT),yz P e t=some l→e≤d→∀(vx vy:List Value) (w:World),jF l vx→jF l vy→y8 vx vy→
  (Op.equalIn d t (Qv P t vx) (Qv P t vy)).run P w= .ok (wt vx vy) w:=by
 intro e
 induction e with
 |zero=>intro d t l h;simp [yz] at h
 | succ e ih=>
  intro d t l h hd vx vy w hx hy hk
  obtain ⟨d,rfl⟩:∃d',d=d'+1:=⟨d - 1,by omega⟩
  simp only [yz] at h
  split at h
  ·rename_i k hu
   simp only [Option.some.injEq] at h
   subst h
   have ha:ja P t=false:=by simp [ja,hu]
   match vx,hx,vy,hy with
   | [.int ka a],_,[.int kb b],_=>
    simp only [y8] at hk
    simp [Qv,ha,Op.equalIn,run_underlying hu,hk.1,wt,Um]
   | [.int _ _,_],hx,_,_=>simp [jF] at hx
   | [.int _ _],_,[.int _ _,_],hy=>simp [jF] at hy
  ·rename_i hu
   simp only [Option.some.injEq] at h
   subst h
   have ha:ja P t=false:=by simp [ja,hu]
   match vx,hx,vy,hy with
   | [.bool a],_,[.bool b],_=>simp [Qv,ha,Op.equalIn,run_underlying hu,wt,Um]
   | [.bool _,_],hx,_,_=>simp [jF] at hx
   | [.bool _],_,[.bool _,_],hy=>simp [jF] at hy
  ·rename_i hu
   simp only [Option.some.injEq] at h
   subst h
   have ha:ja P t=false:=by simp [ja,hu]
   match vx,hx,vy,hy with
   | [.string a],_,[.string b],_=>simp [Qv,ha,Op.equalIn,run_underlying hu,wt,Um,beq_toListBytes]
   | [.string _,_],hx,_,_=>simp [jF] at hx
   | [.string _],_,[.string _,_],hy=>simp [jF] at hy
  ·rename_i fs hu
   split at h
   ·rename_i hst
    have ha:ja P t=true:=by simp [ja,hu]
    have hf:P.fieldsOf t=fs:=by simp [Program.fieldsOf,hu]
    have hu':P.underlying t=some (.struct (P.fieldsOf t)):=by rw [hf];exact hu
    simp only [Qv,ha,if_true]
    rw [run_equalIn_struct w d t _ _ hu' hst,hf]
    have key:∀(fl:List Field) (off:Nat) (l:List CT),Qs P (yz P e) fl off=some l→∀w:World,jF l (vx.drop off)→jF l (vy.drop off)→y8 (vx.drop off) (vy.drop off)→
      (Op.eqFields d vx.toArray vy.toArray fl).run P w= .ok (wt (vx.drop off) (vy.drop off)) w:=by
     intro fl
     induction fl with
     | nil=>
      intro off l hl w h1 h2 _
      simp only [Qs,Option.some.injEq] at hl
      subst hl
      have e1:=k9 h1
      have e2:=k9 h2
      simp only [List.length_nil,List.length_eq_zero_iff] at e1 e2
      simp [Op.eqFields,e1,e2,wt]
     | cons f fl ihf=>
      intro off l hl w h1 h2 h3
      simp only [Qs] at hl
      split at hl
      ·rename_i hname
       split at hl
       ·rename_i lf hlf
        split at hl
        ·rename_i htI
         split at hl
         ·rename_i r hr
          simp only [Option.some.injEq] at hl
          subst hl
          obtain ⟨f1,g1⟩:=wG h1
          obtain ⟨f2,g2⟩:=wG h2
          obtain ⟨f3,g3⟩:=w9 lf.length h3
          have L1:=k9 h1
          have L2:=k9 h2
          simp only [List.length_drop,List.length_append] at L1 L2
          have ho:f.offset=off:=hname.2
          have p1:=ui (P:=P) htI.1 htI.2.1 vx off (by
           have:=k9 f1
           have:=htI.2.2
           simp only [List.length_take,List.length_drop] at*
           omega) w
          have p2:=ui (P:=P) htI.1 htI.2.1 vy off (by
           have:=k9 f2
           have:=htI.2.2
           simp only [List.length_take,List.length_drop] at*
           omega) w
          have q:=ih d f.type lf hlf (by omega) _ _ w f1 f2 f3
          have rest:=ihf (off+lf.length) r hr w (by rwa [List.drop_drop] at g1) (by rwa [List.drop_drop] at g2) (by rwa [List.drop_drop,List.drop_drop] at g3)
          rw [zZ lf.length (by simp only [List.length_drop];omega)]
          simp only [Op.eqFields,if_pos hname.1,ho,Sem.run_bind,p1,p2,Result.andThen_ok,q,Sem.run_ite,rest,Sem.run_pure,List.drop_drop]
          cases wt ((vx.drop off).take lf.length) ((vy.drop off).take lf.length)<;>simp
         ·cases hl
        ·cases hl
       ·cases hl
      ·cases hl
    have:=key fs.toList 0 l h w (by simpa using hx) (by simpa using hy) (by simpa using hk)
    simpa using this
   ·cases h
  ·cases h
theorem oU {K:Nat→BK} {w:World}:∀{l:List CT} {cs:List D} {vs:List Value},fits l cs→vs.length=cs.length→(∀(j:Nat) (d:D) (u:Value),cs[j]?=some d→vs[j]?=some u→RepV K w d u)→jF l vs
 | [],[],[],_,_,_=>trivial
 | c::l,d::cs,v::vs,h,hl,hr=>by
  have h0:=hr 0 d v rfl rfl
  have ht:fits l cs→jF l vs:=fun h'=>oU h' (Nat.succ.inj hl) (fun j d u hd hu=>hr (j+1) d u hd hu)
  cases c<;>cases d<;>simp only [fits] at h<;>first
   |exact h.elim
   |(obtain ⟨rfl,_⟩:=h0.int_inv;exact ht h)
   |(obtain rfl:=h0.bool_inv;exact ht h)
   |(obtain ⟨rfl,_⟩:=h0.str_inv;exact ht h)
 | [],_::_,_,h,_,_=>by simp [fits] at h
 |c::_,[],_,h,_,_=>by cases c<;>simp [fits] at h
 | [],[],_::_,_,hl,_=>by simp at hl
 |_::_,_::_,[],_,hl,_=>by simp at hl
theorem uP {K:Nat→BK} {w:World}:∀{l:List CT} {xs ys:List D} {us vs:List Value},fits l xs→fits l ys→sameK xs ys→us.length=xs.length→vs.length=ys.length→
  (∀(j:Nat) (d:D) (u:Value),xs[j]?=some d→us[j]?=some u→RepV K w d u)→(∀(j:Nat) (d:D) (u:Value),ys[j]?=some d→vs[j]?=some u→RepV K w d u)→
  wt us vs=eqCells xs ys∧y8 us vs
 | [],[],[],[],[],_,_,_,_,_,_,_=>⟨rfl,trivial⟩
 | c::l,x::xs,y::ys,u::us,v::vs,h1,h2,hk,hl1,hl2,hr1,hr2=>by
  have x0:=hr1 0 x u rfl rfl
  have y0:=hr2 0 y v rfl rfl
  have ht:fits l xs→fits l ys→sameK xs ys→wt us vs=eqCells xs ys∧y8 us vs:=fun a b c=>uP a b c (Nat.succ.inj hl1) (Nat.succ.inj hl2) (fun j d u hd hu=>hr1 (j+1) d u hd hu) (fun j d u hd hu=>hr2 (j+1) d u hd hu)
  cases c<;>cases x<;>simp only [fits] at h1<;>first|exact h1.elim|skip
  all_goals cases y<;>simp only [fits] at h2<;>first|exact h2.elim|skip
  ·obtain ⟨rfl,_⟩:=x0.int_inv
   obtain ⟨rfl,_⟩:=y0.int_inv
   simp only [sameK] at hk
   obtain ⟨e,s⟩:=ht h1 h2 hk.2
   exact ⟨by simp [wt,Um,eqCells,cellEq,hk.1,e,kZ],⟨hk.1,s⟩⟩
  ·obtain rfl:=x0.bool_inv
   obtain rfl:=y0.bool_inv
   simp only [sameK] at hk
   obtain ⟨e,s⟩:=ht h1 h2 hk
   exact ⟨by simp [wt,Um,eqCells,cellEq,e],s⟩
  ·obtain ⟨rfl,_⟩:=x0.str_inv
   obtain ⟨rfl,_⟩:=y0.str_inv
   simp only [sameK] at hk
   obtain ⟨e,s⟩:=ht h1 h2 hk
   exact ⟨by simp only [wt,Um,eqCells,cellEq,yU,e,kZ],s⟩
 | [],_::_,_,_,_,h,_,_,_,_,_,_=>by simp [fits] at h
 | [],[],_::_,_,_,_,h,_,_,_,_,_=>by simp [fits] at h
 |c::_,[],_,_,_,h,_,_,_,_,_,_=>by cases c<;>simp [fits] at h
 |c::_,_::_,[],_,_,_,h,_,_,_,_,_=>by cases c<;>simp [fits] at h
 | [],[],[],_::_,_,_,_,_,h,_,_,_=>by simp at h
 | [],[],[],[],_::_,_,_,_,_,h,_,_=>by simp at h
 |_::_,_::_,_::_,[],_,_,_,_,h,_,_,_=>by simp at h
 |_::_,_::_,_::_,_::_,[],_,_,_,_,h,_,_=>by simp at h
theorem snd_bin {op:BinOp} {tx ty:TypeId} {x y:Operand} (ho:o.op= .binOp op tx x y ty) (h:qO P ρ H (.binOp op tx x y ty) k) (hcur:Cur o H ρ):∃d,k d∧Yields P o H ρ d:=by
 simp only [qO] at h
 have hmx:x∈o.op.operands.toList:=by simp [ho,Op.operands]
 have hmy:y∈o.op.operands.toList:=by simp [ho,Op.operands]
 have mk:∀d:D,(∀(K:Nat→BK) (w:World) (u v:Value),RepV K w (ρ x) u→RepV K w (ρ y) v→∃r,(do eqGuard op tx x y u v;binOp op tx u v:Sem Value).run P w= .ok r w∧RepV K w d r)→Yields P o H ρ d:=by
  intro d hd
  refine qx fun K w σ hk hh hr=>?_
  obtain ⟨r,h1,h2⟩:=hd K w (σ x) (σ y) (hr x hmx) (hr y hmy)
  refine ⟨r,?_,h2⟩
  simp only [execOp,ho]
  rw [Sem.run_bind,h1]
  rfl
 split at h
 ·rename_i a b hx hy
  obtain ⟨hbt,h⟩:=h
  have hub:P.underlying tx=some .bool:=by
   unfold yt at hbt
   split at hbt
   ·assumption
   ·simp at hbt
  have bools:∀d:D,(∀(K:Nat→BK) (w:World),∃r,(do eqGuard op tx x y (.bool a) (.bool b);binOp op tx (.bool a) (.bool b):Sem Value).run P w= .ok r w∧RepV K w d r)→Yields P o H ρ d:=by
   intro d hd
   refine mk d fun K w u v hu hv=>?_
   rw [hx] at hu;rw [hy] at hv
   rw [hu.bool_inv,hv.bool_inv]
   exact hd K w
  simp only [y6] at h
  cases op<;>simp only at h
  case eql=>exact ⟨_,h,bools _ fun K w=>⟨.bool (a==b),by simp [eqGuard_at_bool,run_eql_bool _ _ _ _ hub],.bool _⟩⟩
  case neq=>exact ⟨_,h,bools _ fun K w=>⟨.bool (!(a==b)),by simp [eqGuard_at_bool,run_neq_bool _ _ _ _ hub],.bool _⟩⟩
  all_goals exact h.elim
 ·rename_i xs ys hx hy
  split at h
  ·rename_i l hl
   obtain ⟨fx,fy,hsk,h⟩:=h
   have hl':P.eqGuardType P.depth tx=false∧ja P tx=true∧yz P 8 tx=some l:=by
    unfold Ui at hl
    split at hl
    ·rename_i hc;exact ⟨hc.1,hc.2,hl⟩
    ·cases hl
   have run:∀(K:Nat→BK) (w:World) (u v:Value),RepV K w (ρ x) u→RepV K w (ρ y) v→(∃us vs:Array Value,u= .agg us∧v= .agg vs∧(Op.equalIn 10000 tx (.agg us) (.agg vs)).run P w= .ok (eqCells xs ys) w):=by
    intro K w u v hu hv
    rw [hx] at hu;rw [hy] at hv
    obtain ⟨us,rfl,l1,_,r1⟩:=hu.agg_inv
    obtain ⟨vs,rfl,l2,_,r2⟩:=hv.agg_inv
    refine ⟨us,vs,rfl,rfl,?_⟩
    have v1:=oU (K:=K) (w:=w) (vs:=us.toList) fx (by simpa using l1) (fun j d u hd hu=>r1 j d u hd (by simpa using hu))
    have v2:=oU (K:=K) (w:=w) (vs:=vs.toList) fy (by simpa using l2) (fun j d u hd hu=>r2 j d u hd (by simpa using hu))
    obtain ⟨e,sk⟩:=uP (K:=K) (w:=w) (us:=us.toList) (vs:=vs.toList) fx fy hsk (by simpa using l1) (by simpa using l2) (fun j d u hd hu=>r1 j d u hd (by simpa using hu)) (fun j d u hd hu=>r2 j d u hd (by simpa using hu))
    have:=vG (P:=P) 8 10000 tx l hl'.2.2 (by omega) us.toList vs.toList w v1 v2 sk
    simpa [Qv,hl'.2.1,e] using this
   split at h
   ·refine ⟨_,h,mk _ fun K w u v hu hv=>?_⟩
    obtain ⟨us,vs,rfl,rfl,hr⟩:=run K w u v hu hv
    exact ⟨.bool (eqCells xs ys),by simp [run_eqGuard_agg _ _ _ _ _ _ _ hl'.1,run_eql_struct,hr],.bool _⟩
   ·refine ⟨_,h,mk _ fun K w u v hu hv=>?_⟩
    obtain ⟨us,vs,rfl,rfl,hr⟩:=run K w u v hu hv
    exact ⟨.bool (!eqCells xs ys),by simp [run_eqGuard_agg _ _ _ _ _ _ _ hl'.1,run_neq_struct,hr],.bool _⟩
   ·exact h.elim
  ·exact h.elim
 rename_i hnb hna
 unfold y6 at h
 split at h
 ·rename_i ka a kb b hx hy
  have ints:∀d:D,(∀(K:Nat→BK) (w:World),vk ka a→vk kb b→∃r,(do eqGuard op tx x y (.int ka a) (.int kb b);binOp op tx (.int ka a) (.int kb b):Sem Value).run P w= .ok r w∧RepV K w d r)→Yields P o H ρ d:=by
   intro d hd
   refine mk d fun K w u v hu hv=>?_
   rw [hx] at hu;rw [hy] at hv
   obtain ⟨rfl,r1⟩:=hu.int_inv
   obtain ⟨rfl,r2⟩:=hv.int_inv
   exact hd K w r1 r2
  cases op<;>simp only at h
  case shl=>
   obtain ⟨h0,hk⟩:=h
   exact ⟨_,hk,ints _ fun K w r1 r2=>⟨_,by simp [eqGuard,binOp,Kz _ _ _ _ _ h0],.int _ _ (gO _ _)⟩⟩
  case shr=>
   obtain ⟨h0,hk⟩:=h
   exact ⟨_,hk,ints _ fun K w r1 r2=>⟨_,by simp [eqGuard,binOp,Kz _ _ _ _ _ h0],.int _ _ (wf_fdiv _ r1)⟩⟩
  case quo=>
   obtain ⟨rfl,h0,hk⟩:=h
   exact ⟨_,hk,ints _ fun K w r1 r2=>⟨_,by simp [eqGuard,binOp,Op.intDiv,h0],.int _ _ (gO _ _)⟩⟩
  case rem=>
   obtain ⟨rfl,h0,hk⟩:=h
   exact ⟨_,hk,ints _ fun K w r1 r2=>⟨_,by simp [eqGuard,binOp,Op.intDiv,h0],.int _ _ (wf_tmod r1 r2)⟩⟩
  case add=>obtain ⟨rfl,hk⟩:=h;exact ⟨_,hk,ints _ fun K w r1 r2=>⟨.int ka (ka.wrap (a+b)),by simp [eqGuard,binOp,Op.intArith],.int _ _ (gO _ _)⟩⟩
  case sub=>obtain ⟨rfl,hk⟩:=h;exact ⟨_,hk,ints _ fun K w r1 r2=>⟨.int ka (ka.wrap (a - b)),by simp [eqGuard,binOp,Op.intArith],.int _ _ (gO _ _)⟩⟩
  case mul=>obtain ⟨rfl,hk⟩:=h;exact ⟨_,hk,ints _ fun K w r1 r2=>⟨.int ka (ka.wrap (a*b)),by simp [eqGuard,binOp,Op.intArith],.int _ _ (gO _ _)⟩⟩
  case and=>obtain ⟨rfl,hk⟩:=h;exact ⟨_,hk,ints _ fun K w r1 r2=>⟨.int ka (bits .and ka a b),by simp [eqGuard,binOp,intBits_and],.int _ _ (wf_bits _ _ _ _)⟩⟩
  case or=>obtain ⟨rfl,hk⟩:=h;exact ⟨_,hk,ints _ fun K w r1 r2=>⟨.int ka (bits .or ka a b),by simp [eqGuard,binOp,intBits_or],.int _ _ (wf_bits _ _ _ _)⟩⟩
  case xor=>obtain ⟨rfl,hk⟩:=h;exact ⟨_,hk,ints _ fun K w r1 r2=>⟨.int ka (bits .xor ka a b),by simp [eqGuard,binOp,intBits_xor],.int _ _ (wf_bits _ _ _ _)⟩⟩
  case andNot=>obtain ⟨rfl,hk⟩:=h;exact ⟨_,hk,ints _ fun K w r1 r2=>⟨.int ka (bits .andNot ka a b),by simp [eqGuard,binOp,intBits_andNot],.int _ _ (wf_bits _ _ _ _)⟩⟩
  case eql=>obtain ⟨rfl,hk⟩:=h;exact ⟨_,hk,ints _ fun K w r1 r2=>⟨.bool (decide (a=b)),by simp [eqGuard,binOp,Op.intCmp,kZ,bne],.bool _⟩⟩
  case neq=>obtain ⟨rfl,hk⟩:=h;exact ⟨_,hk,ints _ fun K w r1 r2=>⟨.bool (!decide (a=b)),by simp [eqGuard,binOp,Op.intCmp,kZ,bne],.bool _⟩⟩
  case lss=>obtain ⟨rfl,hk⟩:=h;exact ⟨_,hk,ints _ fun K w r1 r2=>⟨.bool (decide (a<b)),by simp [eqGuard,binOp,Op.intCmp,kZ,bne],.bool _⟩⟩
  case leq=>obtain ⟨rfl,hk⟩:=h;exact ⟨_,hk,ints _ fun K w r1 r2=>⟨.bool (decide (a≤b)),by simp [eqGuard,binOp,Op.intCmp,kZ,bne],.bool _⟩⟩
  case gtr=>obtain ⟨rfl,hk⟩:=h;exact ⟨_,hk,ints _ fun K w r1 r2=>⟨.bool (decide (b<a)),by simp [eqGuard,binOp,Op.intCmp,kZ,bne],.bool _⟩⟩
  case geq=>obtain ⟨rfl,hk⟩:=h;exact ⟨_,hk,ints _ fun K w r1 r2=>⟨.bool (decide (b≤a)),by simp [eqGuard,binOp,Op.intCmp,kZ,bne],.bool _⟩⟩
 ·rename_i a b hx hy
  have strs:∀d:D,(∀(K:Nat→BK) (w:World),∃r,(do eqGuard op tx x y (.string ⟨⟨a⟩⟩) (.string ⟨⟨b⟩⟩);binOp op tx (.string ⟨⟨a⟩⟩) (.string ⟨⟨b⟩⟩):Sem Value).run P w= .ok r w∧RepV K w d r)→Yields P o H ρ d:=by
   intro d hd
   refine mk d fun K w u v hu hv=>?_
   rw [hx] at hu;rw [hy] at hv
   obtain ⟨rfl,r1⟩:=hu.str_inv
   obtain ⟨rfl,r2⟩:=hv.str_inv
   exact hd K w
  cases op<;>simp only at h
  case add=>
   obtain ⟨hb,hk⟩:=h
   refine ⟨_,hk,strs _ fun K w=>⟨.string ⟨⟨a++b⟩⟩,?_,.str _ (by simpa using hb)⟩⟩
   have hs:¬((9223372036854775807:Int)<(a.length:Int)+(b.length:Int)):=by unfold big at hb;omega
   have hsz:∀l:List UInt8,(⟨⟨l⟩⟩:ByteArray).size=l.length:=fun l=>rfl
   simp only [eqGuard_at_string,binOp,Sem.run_bind,Sem.run_pure,Result.andThen_ok,Op.stringOp,hsz]
   simp [hs]
   rfl
  case eql=>exact ⟨_,h,strs _ fun K w=>⟨.bool (decide (a=b)),by simp only [eqGuard_at_string,binOp,Sem.run_bind,Sem.run_pure,Result.andThen_ok,Op.stringOp,yU,kZ],.bool _⟩⟩
  case neq=>exact ⟨_,h,strs _ fun K w=>⟨.bool (!decide (a=b)),by simp only [eqGuard_at_string,binOp,Sem.run_bind,Sem.run_pure,Result.andThen_ok,Op.stringOp,yU,kZ],.bool _⟩⟩
  case lss=>exact ⟨_,h,strs _ fun K w=>⟨.bool (Op.bytesLess a b),by simp only [eqGuard_at_string,binOp,Sem.run_bind,Sem.run_pure,Result.andThen_ok,Op.stringOp,yU,kZ],.bool _⟩⟩
  case leq=>exact ⟨_,h,strs _ fun K w=>⟨.bool (Op.bytesLess a b||decide (a=b)),by simp only [eqGuard_at_string,binOp,Sem.run_bind,Sem.run_pure,Result.andThen_ok,Op.stringOp,yU,kZ],.bool _⟩⟩
  case gtr=>exact ⟨_,h,strs _ fun K w=>⟨.bool (!(Op.bytesLess a b||decide (a=b))),by simp only [eqGuard_at_string,binOp,Sem.run_bind,Sem.run_pure,Result.andThen_ok,Op.stringOp,yU,kZ],.bool _⟩⟩
  case geq=>exact ⟨_,h,strs _ fun K w=>⟨.bool (!Op.bytesLess a b),by simp only [eqGuard_at_string,binOp,Sem.run_bind,Sem.run_pure,Result.andThen_ok,Op.stringOp,yU,kZ],.bool _⟩⟩
  all_goals exact h.elim
 ·rename_i a b hx hy
  exact (hnb a b hx hy).elim
 ·exact h.elim
end
end Go.Aw
end
section
namespace Go.Aw
open Go Go.RowKit
section
variable {P:Program} {o:Oper} {H:AH} {ρ:Operand→D} {k:D→Prop}
theorem snd_un {op:UnOp} {t:TypeId} {x:Operand} (ho:o.op= .unOp op t x) (h:qO P ρ H (.unOp op t x) k) (hcur:Cur o H ρ):∃d,k d∧Yields P o H ρ d:=by
 simp only [qO] at h
 have hmx:x∈o.op.operands.toList:=by simp [ho,Op.operands]
 split at h
 ·rename_i b hx
  refine ⟨_,h,qx fun K w σ hk hh hr=>⟨.bool (!b),?_,.bool _⟩⟩
  have:=(hx▸hr x hmx).bool_inv
  simp [execOp,ho,this,Op.unary]
 ·rename_i kd n hx
  refine ⟨_,h,qx fun K w σ hk hh hr=>⟨.int kd (kd.wrap (0 - n)),?_,.int _ _ (gO _ _)⟩⟩
  have:=(hx▸hr x hmx).int_inv.1
  simp [execOp,ho,this,Op.unary,Op.intArith]
 ·rename_i kd n hx
  refine ⟨_,h,qx fun K w σ hk hh hr=>⟨.int kd (bits .xor kd (if kd.signed then -1 else kd.max) n),?_,.int _ _ (wf_bits _ _ _ _)⟩⟩
  have:=(hx▸hr x hmx).int_inv.1
  simp [execOp,ho,this,Op.unary,intBits_xor]
 ·exact h.elim
theorem vg {P:Program} {t:TypeId} (h:jN P t=true):P.underlying t=some .string:=by
 unfold jN at h
 split at h
 ·assumption
 ·simp at h
theorem Jh {P:Program} {t:TypeId} (h:yc P t=true):∃e,P.underlying t=some (.slice e)∧P.underlying e=some (.int .u8):=by
 unfold yc at h
 split at h
 ·rename_i e hu
  split at h
  ·exact ⟨e,hu,by assumption⟩
  ·simp at h
 ·simp at h
theorem Y8 {s t:TypeId} {x:Operand} (ho:o.op= .convert s t x) (h:qO P ρ H (.convert s t x) k) (hcur:Cur o H ρ):∃d,k d∧Yields P o H ρ d:=by
 simp only [qO] at h
 have hmx:x∈o.op.operands.toList:=by simp [ho,Op.operands]
 obtain ⟨K0,w0,σ0,hk0,hh0,hr0⟩:=hcur
 split at h
 ·rename_i k0 n hx
  split at h
  ·rename_i kd hkd
   obtain ⟨hs,h⟩:=h
   refine ⟨_,h,qx fun K w σ hk hh hr=>⟨.int kd (kd.wrap n),?_,.int _ _ (gO _ _)⟩⟩
   have:=(hx▸hr x hmx).int_inv.1
   have hu:P.underlying t=some (.int kd):=by
    unfold QM at hkd
    split at hkd
    ·rename_i k' hu;simp only [Option.some.injEq] at hkd;subst hkd;exact hu
    ·cases hkd
   have hi:P.intKind t=kd:=by simp [Program.intKind,hu]
   have hc:=run_convert_int (P:=P) w s t k0 n hs (by rw [hi];exact hu)
   rw [hi] at hc
   simp only [execOp,ho,this,Sem.run_bind,hc,Result.andThen_ok]
   rfl
  ·exact h.elim
 ·rename_i l hx
  split at h
  ·rename_i ht
   obtain ⟨hs,h⟩:=h
   refine ⟨_,h,qx fun K w σ hk hh hr=>?_⟩
   obtain ⟨he,hb⟩:=(hx▸hr x hmx).str_inv
   refine ⟨.string ⟨⟨l⟩⟩,?_,.str _ hb⟩
   simp only [execOp,ho,he,Sem.run_bind]
   simp [convert,run_underlying (vg hs),run_underlying (vg ht)]
  ·obtain ⟨hs,ht,h⟩:=h
   obtain ⟨e,hu,hue⟩:=Jh ht
   refine ⟨_,h (hx▸hr0 x hmx).fact,?_⟩
   intro K w σ i hk hh hr
   obtain ⟨he,hb⟩:=(hx▸hr x hmx).str_inv
   have hrun:=run_bytes_of_string (P:=P) w s t e ⟨⟨l⟩⟩ (vg hs) hu hue
   have hsz:(⟨⟨l⟩⟩:ByteArray).size=l.length:=rfl
   rw [hsz] at hrun
   have hge:=grownCap_ge w l.length 0 e
   have hle:=grownCap_le_maxLen w l.length 0 e (by unfold big maxLen at*;omega)
   generalize hcap:grownCap w l.length 0 e=cap at hrun hge hle
   obtain ⟨hp,hk'⟩:=Q2 (K:=K) (w:=w.drew) hk (.cells (bytesRow ⟨⟨l⟩⟩ cap) e ((bytesRow ⟨⟨l⟩⟩ cap).size,(bytesRow ⟨⟨l⟩⟩ cap).size+1))
   refine ⟨.slice (some ⟨w.heap.size,0,none⟩) l.length cap,K,_,?_,⟨hp.os,hp.tape,⟨hp.output.1,Nat.le_trans (Nat.le_succ _) hp.output.2⟩,hp.size,hp.old,hp.new⟩,hk',?_⟩
   ·simp only [execOp,ho,he,Sem.run_bind,hrun,Result.andThen_ok]
    rfl
   ·have hheap:(w.drew.alloc (.cells (bytesRow ⟨⟨l⟩⟩ cap) e ((bytesRow ⟨⟨l⟩⟩ cap).size,(bytesRow ⟨⟨l⟩⟩ cap).size+1))).heap[w.heap.size]?=some (.cells (bytesRow ⟨⟨l⟩⟩ cap) e ((bytesRow ⟨⟨l⟩⟩ cap).size,(bytesRow ⟨⟨l⟩⟩ cap).size+1)):=by
     show (w.heap.push _)[w.heap.size]?=_
     simp
    have hcell:∀(j:Nat) (c:UInt8),l[j]?=some c→(bytesRow ⟨⟨l⟩⟩ cap)[j]?=some (.int .u8 c.toNat):=by
     intro j c hj
     have hlt:=(List.getElem?_eq_some_iff.1 hj).1
     unfold bytesRow
     rw [Array.getElem?_append_left (by simpa using hlt)]
     simp [hj]
    have hbyte:∀(i:Nat) (x:List D),(l.map qA)[i]?=some x→∃c,l[i]?=some c∧x=qA c:=fun i x hi=>by
     rw [List.getElem?_map,Option.map_eq_some_iff] at hi
     obtain ⟨c,h1,h2⟩:=hi
     exact ⟨c,h1,h2.symm⟩
    have hlen:(l.map qA).length=l.length:=by simp
    have:=RepV.slc (K:=K) (w:=w.drew.alloc (.cells (bytesRow ⟨⟨l⟩⟩ cap) e ((bytesRow ⟨⟨l⟩⟩ cap).size,(bytesRow ⟨⟨l⟩⟩ cap).size+1))) (l.map qA) w.heap.size 0 cap 1 (fun i _=>.int .u8 ((l[i]?).getD 0).toNat) (by rw [hlen];exact hb) (by rw [hlen];exact hge) hle
     (fun i x hi=>by obtain ⟨c,_,rfl⟩:=hbyte i x hi;rfl)
     ⟨by simp,by rw [hk w.heap.size (Nat.le_refl _)];trivial⟩
     (fun i x hi j d hj=>by
      obtain ⟨c,h1,rfl⟩:=hbyte i x hi
      cases j with
      |zero=>rw [kO hheap,Nat.zero_add,Nat.mul_one,Nat.add_zero,hcell i c h1,h1];rfl
      |succ j=>simp [qA] at hj)
     (fun _ _ _ _ _ _=>rfl)
     (fun i x hi j d hj=>by
      obtain ⟨c,h1,rfl⟩:=hbyte i x hi
      cases j with
      | zero=>
       simp only [qA,List.getElem?_cons_zero,Option.some.injEq] at hj
       subst hj
       rw [h1]
       refine .int _ _ ?_
       have:=c.toNat_lt
       simp [vk,Lit.wf,IntKind.min,IntKind.max,IntKind.signed,IntKind.bits]
       omega
      |succ j=>simp [qA] at hj)
    rw [hlen] at this
    exact this.viewO
 ·rename_i xs hx
  obtain ⟨hs,ht,hb,h⟩:=h
  obtain ⟨e,hu,hue⟩:=Jh hs
  refine ⟨_,h (hx▸hr0 x hmx).fact,qx fun K w σ hk hh hr=>?_⟩
  have hrx:=hx▸hr x hmx
  refine ⟨.string ⟨⟨xs.map unbyte⟩⟩,?_,.str _ (by simpa using hrx.slc_big)⟩
  rcases hrx.slc_inv with ⟨rfl,a,he⟩|⟨b,off,cap,sz,f,he,hc,hm,hsz,hv,hcell,hone,hrep⟩
  ·simp only [execOp,ho,he,Sem.run_bind]
   rw [run_convert_bytes_string w s t e a 0 0 hu hue (vg ht)]
   cases a with
   |none=>simp [Conv.bytesToString];rfl
   |some a=>simp [Conv.bytesToString,loadCells,loadCellsFrom];rfl
  ·simp only [execOp,ho,he,Sem.run_bind]
   have hx1:∀(i:Nat) (x:List D),xs[i]?=some x→∃n:Int,x= [.int .u8 n]∧0≤n∧n≤255:=fun i x hi=>by
    have:=hb x (List.mem_of_getElem? hi)
    unfold zw at this
    split at this
    ·exact ⟨_,rfl,this⟩
    ·exact this.elim
   have hrow:=run_convert_bytes_back (P:=P) w s t e ⟨b,off,none⟩ cap (xs.map unbyte) hu hue (vg ht) (fun j hj=>by
    have hj':j<xs.length:=by simpa using hj
    have hxj:=List.getElem?_eq_getElem hj'
    obtain ⟨n,hn,h0,h255⟩:=hx1 j _ hxj
    have hs1:sz=1:=by have:=hsz j _ hxj;rw [hn] at this;simpa using this.symm
    subst hs1
    have h0':xs[j][0]?=some (.int .u8 n):=by rw [hn];rfl
    have hc0:=hcell j _ hxj 0 _ h0'
    have hr0:=(hrep j _ hxj 0 _ h0').int_inv.1
    rw [Addr.add_lit]
    have e1:off+j=off+(j*1+0):=by omega
    rw [e1,hc0,hr0]
    simp only [List.getElem_map,hn,unbyte]
    congr 2
    have:(UInt8.ofNat n.toNat).toNat=n.toNat:=by
     rw [UInt8.toNat_ofNat']
     omega
    rw [this]
    omega)
   simp only [List.length_map] at hrow
   rw [hrow]
   rfl
 ·exact h.elim
theorem Kl {f:FuncId} {first caps:Array Operand} (ho:o.op= .makeFunc (.func f) first caps) (h:qO P ρ H (.makeFunc (.func f) first caps) k) (hcur:Cur o H ρ):∃d,k d∧Yields P o H ρ d:=by
 simp only [qO] at h
 split at h
 ·rename_i hfirst
  obtain rfl:first=#[]:=by apply Array.ext';simpa using hfirst
  obtain ⟨hb,h⟩:=h
  refine ⟨_,h,qx fun K w σ hk hh hr=>⟨.func (.func f) #[] (caps.map σ),?_,.fn f _ _ hb (by simp) (fun j d u hd hu=>?_)⟩⟩
  ·simp [execOp,ho,Instr.makeFunc]
  ·simp only [List.getElem?_map,Array.getElem?_toList,Array.getElem?_map,Option.map_eq_some_iff] at hd hu
   obtain ⟨x,h1,rfl⟩:=hd
   obtain ⟨y,h2,rfl⟩:=hu
   rw [h1] at h2
   obtain rfl:=Option.some.inj h2
   exact hr x (by simp [ho,Op.operands];exact Array.mem_of_getElem? h1)
 ·rename_i x0 l0 hfirst
  obtain ⟨rfl,h⟩:=h
  rw [←hfirst] at h
  refine ⟨_,h,qx fun K w σ hk hh hr=>⟨.func (.func f) (first.map σ) #[],?_,.bnd f _ _ (by simp) (fun j d u hd hu=>?_)⟩⟩
  ·simp [execOp,ho,Instr.makeFunc]
  ·simp only [List.getElem?_map,Array.getElem?_toList,Array.getElem?_map,Option.map_eq_some_iff] at hd hu
   obtain ⟨x,h1,rfl⟩:=hd
   obtain ⟨y,h2,rfl⟩:=hu
   rw [h1] at h2
   obtain rfl:=Option.some.inj h2
   exact hr x (by simp [ho,Op.operands];exact Array.mem_of_getElem? h1)
theorem QK {t:TypeId} {x:Operand} {f:Nat} (ho:o.op= .fieldAddr t x f) (h:qO P ρ H (.fieldAddr t x f) k) (hcur:Cur o H ρ):∃d,k d∧Yields P o H ρ d:=by
 simp only [qO] at h
 have hmx:x∈o.op.operands.toList:=by simp [ho,Op.operands]
 have run:∀(off n:Nat) (bb:Bool) (b ob:Nat) (w:World),jY P t f=some (off,bb,n)→(Instr.fieldAt t (.pointer (some ⟨b,ob,none⟩)) f).run P w= .ok (.pointer (some ⟨b,ob+off,none⟩)) w:=by
  intro off n bb b ob w hf
  obtain ⟨fs,fl,hu,hfl,hof,hty,hn⟩:=uG hf
  have h2:=(wg hty).2 w
  have hn0:n≠0:=by omega
  simp only [Instr.fieldAt,Sem.run_bind,run_underlying hu,Result.andThen_ok,hfl,Instr.sureAddr,Sem.run_pure,fieldPlace,h2,Sem.run_ite,if_neg hn0,Addr.add_lit,hof]
 split at h
 ·rename_i off bb n b ob hf hx
  refine ⟨_,h,qx fun K w σ hk hh hr=>⟨.pointer (some ⟨b,ob+off,none⟩),?_,.ptr _ _⟩⟩
  simp only [execOp,ho,(hx▸hr x hmx).ptr_inv,Sem.run_bind,run _ _ _ _ _ w hf,Result.andThen_ok]
  rfl
 ·rename_i off bb n cs hf hx
  obtain ⟨hle,h⟩:=h
  refine ⟨_,h,qx fun K w σ hk hh hr=>?_⟩
  obtain ⟨b,ob,g,he,hv,hcell,hone,hrep⟩:=(hx▸hr x hmx).eptr_inv
  have hd:∀(j:Nat) (d:D),(cs.drop off)[j]?=some d→cs[off+j]?=some d:=fun j d hj=>by rwa [List.getElem?_drop] at hj
  refine ⟨.pointer (some ⟨b,ob+off,none⟩),?_,.eptr _ b (ob+off) (fun j=>g (off+j)) ?_ (fun j d hj=>?_) (fun j d hj=>hone _ d (hd j d hj)) (fun j d hj=>hrep _ d (hd j d hj))⟩
  ·simp only [execOp,ho,he,Sem.run_bind,run _ _ _ _ _ w hf,Result.andThen_ok]
   rfl
  ·obtain ⟨v1,v2⟩:=hv
   refine ⟨v1,?_⟩
   rw [List.length_drop]
   cases hK:K b<;>rw [hK] at v2<;>first|trivial|(show cs.length - off=0;have:cs.length=0:=v2;omega)|(show cs.length - off=0∨ob+off+(cs.length - off)≤_;have:cs.length=0∨ob+cs.length≤_:=v2;omega)
  ·rw [Nat.add_assoc];exact hcell _ d (hd j d hj)
 ·exact h.elim
theorem VQ {t:TypeId} {x:Operand} {f:Nat} (ho:o.op= .field t x f) (h:qO P ρ H (.field t x f) k) (hcur:Cur o H ρ):∃d,k d∧Yields P o H ρ d:=by
 simp only [qO] at h
 have hmx:x∈o.op.operands.toList:=by simp [ho,Op.operands]
 obtain ⟨K0,w0,σ0,hk0,hh0,hr0⟩:=hcur
 split at h
 ·rename_i off n cs hf hx
  obtain ⟨hle,h⟩:=h
  obtain ⟨fs,fl,hu,hfl,hof,hty,hn⟩:=uG hf
  obtain ⟨g1,g2⟩:=wg hty
  refine ⟨_,h,qx fun K w σ hk hh hr=>?_⟩
  obtain ⟨vs,he,hl,hone,hrep⟩:=(hx▸hr x hmx).agg_inv
  refine ⟨.agg ((vs.toList.drop off).take n).toArray,?_,va _ _ (by simp;omega) (fun j u hu=>?_) (fun j d u hd hu=>?_)⟩
  ·simp only [execOp,ho,he,Sem.run_bind,Instr.field,run_underlying hu,Result.andThen_ok,hfl,asAgg,Sem.run_pure,part,g1,if_true,g2,hof]
   congr 3
   apply Array.ext'
   simp [List.extract_eq_take_drop]
  ·rw [List.getElem?_take] at hu
   split at hu
   ·exact hone (off+j) u (by simpa using hu)
   ·cases hu
  ·rw [List.getElem?_take] at hu hd
   split at hu
   ·rename_i hj
    rw [if_pos hj] at hd
    exact hrep (off+j) d u (by simpa using hd) (by simpa using hu)
   ·cases hu
 ·rename_i off n cs hf hx
  split at h
  ·rename_i c hc
   obtain ⟨fs,fl,hu,hfl,hof,hty,hn⟩:=uG hf
   obtain ⟨g1,g2⟩:=wg hty
   have key:∀(K:Nat→BK) (w:World) (v:Value),RepV K w (.agg cs) v→∃vs u,v= .agg vs∧vs[off]?=some u∧RepV K w c u:=by
    intro K w v hr
    obtain ⟨vs,he,hl,hone,hrep⟩:=hr.agg_inv
    have hlt:off<vs.size:=by rw [hl];exact (List.getElem?_eq_some_iff.1 hc).1
    exact ⟨vs,vs[off],he,Array.getElem?_eq_getElem hlt,hrep off c _ hc (Array.getElem?_eq_getElem hlt)⟩
   obtain ⟨_,_,_,_,hf0⟩:=key K0 w0 _ (hx▸hr0 x hmx)
   refine ⟨_,h hf0.fact,qx fun K w σ hk hh hr=>?_⟩
   obtain ⟨vs,u,he,hu',hrep⟩:=key K w _ (hx▸hr x hmx)
   refine ⟨u,?_,hrep⟩
   simp only [execOp,ho,he,Sem.run_bind,Instr.field,run_underlying hu,Result.andThen_ok,hfl,asAgg,Sem.run_pure,part,g1,Bool.false_eq_true,if_false,hof,hu']
  ·exact h.elim
 ·exact h.elim
end
end Go.Aw
end
section
namespace Go.Aw
open Go Go.RowKit
theorem gM (off:Nat):∀(l:List Value) (s:Nat) (cells:Array Value),∃r,(l.zipIdx s).foldl (fun cs p=>cs.setIfInBounds (off+p.2) p.1) cells=r∧r.size=cells.size∧
  ∀p,p<cells.size→r[p]?=if off+s≤p∧p<off+s+l.length then l[p - (off+s)]? else cells[p]?
 | [],s,cells=>⟨cells,rfl,rfl,fun p hp=>by rw [if_neg (by simp)]⟩
 | v::l,s,cells=>by
  obtain ⟨r,h1,h2,h3⟩:=gM off l (s+1) (cells.setIfInBounds (off+s) v)
  refine ⟨r,by simpa [List.zipIdx_cons] using h1,by simpa using h2,fun p hp=>?_⟩
  rw [h3 p (by simpa using hp)]
  simp only [List.length_cons]
  by_cases hA:off+(s+1)≤p∧p<off+(s+1)+l.length
  ·rw [if_pos hA,if_pos (by omega),show p - (off+s)=(p - (off+(s+1)))+1 by omega,List.getElem?_cons_succ]
  ·rw [if_neg hA]
   by_cases hB:p=off+s
   ·subst hB
    rw [if_pos (by omega)]
    simp [hp]
   ·rw [if_neg (by omega),Array.getElem?_setIfInBounds_ne (by omega)]
theorem Ks (off:Nat) (vs cells:Array Value):∃r,vs.zipIdx.foldl (fun cs (c,j)=>cs.setIfInBounds (off+j) c) cells=r∧r.size=cells.size∧
  ∀p,p<cells.size→r[p]?=if off≤p∧p<off+vs.size then vs[p - off]? else cells[p]?:=by
 obtain ⟨r,h1,h2,h3⟩:=gM off vs.toList 0 cells
 refine ⟨r,?_,h2,fun p hp=>by simpa using h3 p hp⟩
 rw [←h1,←Array.foldl_toList,Array.toList_zipIdx]
theorem QF (size n:Nat):∀(parts:List (Nat×Value)) (s:Nat) (cells:Array Value),cells.size=n*size→s+parts.length≤n→(∀(i:Nat) (p:Nat×Value),parts[i]?=some p→p.1=s+i∧p.2.cells.size=size)→
  ∃r,Instr.fill (fun i=>some (i*size,size)) cells parts=some r∧r.size=n*size∧(∀q,q<s*size→r[q]?=cells[q]?)∧∀(i:Nat) (p:Nat×Value),parts[i]?=some p→∀j,j<size→r[(s+i)*size+j]?=p.2.cells[j]?
 | [],s,cells,hc,_,_=>⟨cells,rfl,hc,fun _ _=>rfl,fun i p h=>by simp at h⟩
 | (i0,v)::parts,s,cells,hc,hl,hp=>by
  obtain ⟨e1,e2⟩:=hp 0 _ rfl
  simp only [Nat.add_zero] at e1
  dsimp only at e1 e2
  subst e1
  simp only [List.length_cons] at hl
  have hfit:i0*size+size≤n*size:=by rw [←Nat.succ_mul];exact Nat.mul_le_mul_right _ (by omega)
  obtain ⟨r1,f1,f2,f3⟩:=Ks (i0*size) v.cells cells
  obtain ⟨r,g1,g2,g3,g4⟩:=QF size n parts (i0+1) r1 (by omega) (by omega) (fun i p h=>by
   have:=hp (i+1) p h
   exact ⟨by omega,this.2⟩)
  refine ⟨r,?_,g2,fun q hq=>?_,fun i p h j hj=>?_⟩
  ·simp only [Instr.fill]
   rw [if_neg (by simp;omega)]
   exact (congrArg (fun c=>Instr.fill (fun i=>some (i*size,size)) c parts) f1).trans g1
  ·rw [g3 q (by rw [Nat.succ_mul];omega),f3 q (by omega),if_neg (by omega)]
  ·cases i with
   | zero=>
    simp only [List.getElem?_cons_zero,Option.some.injEq] at h
    subst h
    rw [Nat.add_zero,g3 _ (by rw [Nat.succ_mul];omega),f3 _ (by omega),if_pos (by omega)]
    congr 1
    omega
   | succ i=>
    have:=g4 i p h j hj
    rwa [show i0+1+i=i0+(i+1) by omega] at this
theorem uj {P:Program} {t:TypeId} {K:Nat→BK} {w:World} (place:Nat→Option (Nat×Nat))
  (hplace:∀i off b n,kQ P t i=some (off,b,n)→place i=some (off,n)):
  ∀ (ps:List (Nat×D)) (vs:List (Nat×Value)) (z:List D) (cells:Array Value) (k:List D→Prop),(∀p∈ps,okc p.2=true)→vs.length=ps.length→
   (∀(i:Nat) (p:Nat×D) (q:Nat×Value),ps[i]?=some p→vs[i]?=some q→q.1=p.1∧RepV K w p.2 q.2)→
   cells.size=z.length→(∀(j:Nat) (u:Value),cells[j]?=some u→u.oneCell'=true)→(∀(j:Nat) (d:D) (u:Value),z[j]?=some d→cells[j]?=some u→RepV K w d u)→
   wc P t (ps.map fun p=>(p.1,cellsOf p.2)) z k→∃cs r,k cs∧(∀k',k' cs→wc P t (ps.map fun p=>(p.1,cellsOf p.2)) z k')∧Instr.fill place cells vs=some r∧RepV K w (.agg cs) (.agg r)
 | [],[],z,cells,k,_,_,_,hs,h1,hr,h=>⟨z,cells,h,fun _ h=>h,rfl,.agg z cells hs h1 hr⟩
 | p::ps,q::vs,z,cells,k,ho,hl,hpq,hs,h1,hr,h=>by
  obtain ⟨e1,e2⟩:=hpq 0 p q rfl rfl
  simp only [List.map_cons,wc] at h ⊢
  split at h
  ·rename_i off b n hf
   obtain ⟨hn,hle,h⟩:=h
   obtain ⟨c1,c2,c3⟩:=vF e2 (ho p (.head _))
   obtain ⟨r1,f1,f2,f3⟩:=Ks off q.2.cells cells
   have hz':(z.take off++(cellsOf p.2++z.drop (off+n))).length=z.length:=by simp;omega
   have hget:∀j d,(z.take off++(cellsOf p.2++z.drop (off+n)))[j]?=some d→(off≤j∧j<off+n∧(cellsOf p.2)[j - off]?=some d)∨(¬(off≤j∧j<off+n)∧z[j]?=some d):=by
    intro j d hj
    simp only [List.getElem?_append,List.length_take,List.getElem?_take,List.getElem?_drop] at hj
    by_cases a1:j<off
    ·rw [if_pos (by omega),if_pos a1] at hj;exact .inr ⟨by omega,hj⟩
    ·rw [if_neg (by omega)] at hj
     by_cases a2:j<off+n
     ·rw [if_pos (by omega)] at hj
      refine .inl ⟨by omega,a2,?_⟩
      rw [←hj];congr 1;omega
     ·rw [if_neg (by omega)] at hj
      refine .inr ⟨by omega,?_⟩
      rw [←hj];congr 1;omega
   obtain ⟨cs,r,g1,g2,g3,g4⟩:=uj place hplace ps vs _ r1 k (fun p hp=>ho p (.tail _ hp)) (Nat.succ.inj hl) (fun i p q hp hq=>hpq (i+1) p q hp hq)
    (by rw [f2,hz',hs]) (fun j u hu=>by
     have hj:j<cells.size:=by rw [←f2];exact (Array.getElem?_eq_some_iff.1 hu).1
     rw [f3 j hj] at hu
     split at hu
     ·exact c2 _ u hu
     ·exact h1 j u hu)
    (fun j d u hd hu=>by
     have hj:j<cells.size:=by rw [←f2];exact (Array.getElem?_eq_some_iff.1 hu).1
     rw [f3 j hj] at hu
     rcases hget j d hd with ⟨a1,a2,a3⟩|⟨a1,a3⟩
     ·rw [if_pos (by omega)] at hu
      exact c3 _ d u a3 hu
     ·rw [if_neg (by omega)] at hu
      exact hr j d u a3 hu) h
   refine ⟨cs,r,g1,fun k' hk'=>⟨hn,hle,g2 k' hk'⟩,?_,g4⟩
   obtain ⟨i0,v⟩:=q
   simp only [Instr.fill]
   have hpl:=hplace _ _ _ _ hf
   rw [←e1] at hpl
   simp only [] at hpl ⊢
   rw [hpl]
   simp only []
   rw [if_neg (by simp only [] at c1;simp;omega)]
   exact (congrArg (fun c=>Instr.fill place c vs) f1).trans g3
  ·exact h.elim
 | [],_::_,_,_,_,_,hl,_,_,_,_,_=>by simp at hl
 |_::_,[],_,_,_,_,hl,_,_,_,_,_=>by simp at hl
theorem uZ {P:Program} {w:World} {α β:Type} (f:α→Sem β) (g:α→β):∀(l:List α),(∀x∈l,(f x).run P w= .ok (g x) w)→(l.mapM f).run P w= .ok (l.map g) w
 | [],_=>by simp
 | x::l,h=>by
  simp only [List.mapM_cons,Sem.run_bind,h x (.head _),Result.andThen_ok,uZ f g l (fun y hy=>h y (.tail _ hy)),Sem.run_pure,List.map_cons]
theorem zS {P:Program} {t:TypeId} (hfo:kq P t=true):∃place:Nat→Option (Nat×Nat),(∀i off b n,kQ P t i=some (off,b,n)→place i=some (off,n))∧
  ∀(w:World) (i:TypeInfo) (zv:Value) (parts:Array (Nat×Value)) (r:Array Value),P.info? t=some i→i.zero=some zv→Instr.fill place zv.cells parts.toList=some r→(Instr.build t parts).run P w= .ok (.agg r) w:=by
 unfold kq at hfo
 split at hfo
 ·rename_i fs hu
  have hall:∀f∈fs.toList,(P.info? f.type).isSome=true:=fun f hf=>(Array.all_eq_true'.1 hfo) f (by simpa using hf)
  let g:Field→Nat×Nat:=fun f=>(f.offset,((P.info? f.type).map (·.size)).getD 0)
  have hplaces:∀w:World,(fs.mapM fun f=>do pure (f.offset,←sizeOf f.type):Sem _).run P w= .ok (fs.map g) w:=by
   intro w
   rw [Array.mapM_eq_mapM_toList,Sem.run_map,uZ _ g fs.toList (fun f hf=>by
    obtain ⟨i,hi⟩:=Option.isSome_iff_exists.1 (hall f hf)
    simp [sizeOf,typeInfo,hi,g])]
   simp only [Result.andThen_ok]
   congr 1
   apply Array.ext'
   simp
  refine ⟨((fs.map g)[·]?),fun i off b n hf=>?_,fun w i zv parts r hi hzv hr=>?_⟩
  ·unfold kQ at hf
   rw [hu] at hf
   simp only [] at hf
   obtain ⟨fs',x,hu',hx,hof,hty,hn⟩:=uG hf
   rw [hu] at hu'
   obtain rfl:fs=fs':=by simpa using hu'
   show (fs.map g)[i]?=_
   rw [Array.getElem?_map,hx,Option.map_some]
   unfold wb at hty
   cases h1:P.underlying x.type with
   |none=>simp [h1] at hty
   | some d=>
    cases h2:P.info? x.type with
    |none=>simp [h1,h2] at hty
    | some j=>
     simp only [h1,h2,Option.some.injEq,Prod.mk.injEq] at hty
     simp [g,hof,h2,hty.2]
  ·unfold Instr.build
   simp only [Sem.run_bind,zeroValue,typeInfo,run_program,Result.andThen_ok,hi,Sem.run_pure,hzv,run_underlying hu,hplaces]
   rw [hr]
   rfl
 ·rename_i m e hu
  obtain ⟨ie,hie⟩:=Option.isSome_iff_exists.1 hfo
  refine ⟨fun i=>some (i*ie.size,ie.size),fun i off b n hf=>?_,fun w i zv parts r hi hzv hr=>?_⟩
  ·unfold kQ at hf
   rw [hu] at hf
   simp only [hie] at hf
   split at hf
   ·simp only [Option.some.injEq,Prod.mk.injEq] at hf
    obtain ⟨rfl,_,rfl⟩:=hf
    rfl
   ·cases hf
  ·unfold Instr.build
   simp only [Sem.run_bind,zeroValue,typeInfo,run_program,Result.andThen_ok,hi,Sem.run_pure,hzv,run_underlying hu,sizeOf,hie]
   rw [hr]
   rfl
 ·cases hfo
section
variable {P:Program} {o:Oper} {H:AH} {ρ:Operand→D} {k:D→Prop}
theorem Vv {t:TypeId} {ps:Array (Nat×Operand)} (ho:o.op= .build t ps) (h:qO P ρ H (.build t ps) k) (hcur:Cur o H ρ):∃d,k d∧Yields P o H ρ d:=by
 simp only [qO] at h
 split at h
 ·rename_i z hz
  obtain ⟨hfo,hok,h⟩:=h
  obtain ⟨i,zv,hi,hzv,z1,z2,z3,z4⟩:=y7 hz
  obtain ⟨place,hplace,hbuild⟩:=zS hfo
  ·have main:∀(K:Nat→BK) (w:World) (σ:Operand→Value),(∀x∈o.op.operands.toList,RepV K w (ρ x) (σ x))→∀k:List D→Prop,wc P t (ps.toList.map fun p=>(p.1,cellsOf (ρ p.2))) (z.map D.view1) k→
     ∃cs r,k cs∧(∀k',k' cs→wc P t (ps.toList.map fun p=>(p.1,cellsOf (ρ p.2))) (z.map D.view1) k')∧(Instr.build t (ps.map fun p=>(p.1,σ p.2))).run P w= .ok (.agg r) w∧RepV K w (.agg cs) (.agg r):=by
    intro K w σ hr k hk
    have hzr:=(WW hz hi hzv K w (fun _=>.outer)).2
    have e:=uj (P:=P) (t:=t) (K:=K) (w:=w) place hplace (ps.toList.map fun p=>(p.1,ρ p.2)) (ps.toList.map fun p=>(p.1,σ p.2)) (z.map D.view1) zv.cells k
     (fun p hp=>by
      rw [List.mem_map] at hp
      obtain ⟨q,hq,rfl⟩:=hp
      exact hok q hq) (by simp)
     (fun i p q hp hq=>by
      simp only [List.getElem?_map,Option.map_eq_some_iff] at hp hq
      obtain ⟨a,ha,rfl⟩:=hp
      obtain ⟨b,hb,rfl⟩:=hq
      rw [ha] at hb
      obtain rfl:=Option.some.inj hb
      exact ⟨rfl,hr a.2 (by simp only [ho,Op.operands];simp only [List.mem_map];exact ⟨a,List.mem_of_getElem? ha,rfl⟩)⟩)
     (by rw [z1];simp) (fun j u hu=>(z3 j u hu).1)
     (fun j d u hd hu=>by
      rw [List.getElem?_map,Option.map_eq_some_iff] at hd
      obtain ⟨d',hd',rfl⟩:=hd
      obtain ⟨u',e1,e2,e3⟩:=hzr j d' hd'
      rw [hu] at e1
      obtain rfl:=Option.some.inj e1
      exact e3.rep)
     (by rw [List.map_map];exact hk)
    obtain ⟨cs,r,g1,g2,g3,g4⟩:=e
    refine ⟨cs,r,g1,fun k' hk'=>by have:=g2 k' hk';rw [List.map_map] at this;exact this,?_,g4⟩
    refine hbuild w i zv _ r hi hzv ?_
    have:(ps.map fun p=>(p.1,σ p.2)).toList=ps.toList.map fun p=>(p.1,σ p.2):=by simp
    rw [this,g3]
   obtain ⟨K0,w0,σ0,hk0,hh0,hr0⟩:=hcur
   obtain ⟨cs,r,g1,g2,_,_⟩:=main K0 w0 σ0 hr0 _ h
   refine ⟨.agg cs,g1,qx fun K w σ hk hh hr=>?_⟩
   obtain ⟨cs',r',e1,e2,e3,e4⟩:=main K w σ hr (fun x=>x=cs) (g2 _ rfl)
   subst e1
   refine ⟨.agg r',?_,e4⟩
   simp only [execOp,ho,Sem.run_bind]
   have:(ps.map fun x=>match x with|(i,x)=>(i,σ x))=ps.map fun p=>(p.1,σ p.2):=rfl
   rw [this,e3]
   rfl
 ·exact h.elim
theorem QE {t:TypeId} {n:Nat} {ps:Array (Nat×Operand)} (ho:o.op= .buildSlice t n ps) (h:qO P ρ H (.buildSlice t n ps) k) (hcur:Cur o H ρ):∃d,k d∧Yields P o H ρ d:=by
 simp only [qO] at h
 split at h
 ·rename_i e sz hsl
  obtain ⟨hrange,hok,hn,hz,h⟩:=h
  refine ⟨_,h,?_⟩
  obtain ⟨hu,hsz,i,hi,his⟩:=ju hsl
  obtain ⟨zc,hz⟩:=Option.isSome_iff_exists.1 hz
  obtain ⟨i',zv,hi',hzv,z1,z2,z3,z4⟩:=y7 hz
  rw [hi] at hi'
  obtain rfl:=Option.some.inj hi'
  intro K w σ slot hk hh hr
  have hlen:ps.toList.length=n:=by have:=congrArg List.length hrange;simpa using this
  have hidx:∀(i:Nat) (p:Nat×Operand),ps.toList[i]?=some p→p.1=i:=fun i p hp=>by
   have h1:(ps.toList.map (·.1))[i]?=some p.1:=by rw [List.getElem?_map,hp];rfl
   rw [hrange] at h1
   have:=List.getElem?_eq_some_iff.1 h1
   obtain ⟨hl,he⟩:=this
   simpa using he.symm
  have hrep:∀(i:Nat) (p:Nat×Operand),ps.toList[i]?=some p→RepV K w (ρ p.2) (σ p.2)∧okc (ρ p.2)=true∧(cellsOf (ρ p.2)).length=sz:=fun i p hp=>by
   have hm:=List.mem_of_getElem? hp
   exact ⟨hr p.2 (by simp only [ho,Op.operands];simp only [List.mem_map];exact ⟨p,hm,rfl⟩),hok p hm⟩
  obtain ⟨r,f1,f2,_,f4⟩:=QF sz n (ps.toList.map fun p=>(p.1,σ p.2)) 0 ((Array.range (n*sz)).map (fun j=>if n*sz=0 then default else zv.cells[j % zv.cells.size]!)) (by simp) (by simp only [List.length_map];omega)
   (fun i p hp=>by
    rw [List.getElem?_map,Option.map_eq_some_iff] at hp
    obtain ⟨q,hq,rfl⟩:=hp
    obtain ⟨r1,r2,r3⟩:=hrep i q hq
    have:=(vF r1 r2).1
    exact ⟨by simpa using hidx i q hq,by rw [this,r3]⟩)
  obtain ⟨hp,hk'⟩:=yQ (K:=K) (w:=w) hk (.cells r e) (x:= .tok (n*sz) (.slot slot 0)) (by simp)
  refine ⟨.slice (some ⟨w.heap.size,0,none⟩) n n,_,_,?_,hp,hk',?_⟩
  ·simp only [execOp,ho,Sem.run_bind]
   have hpp:(ps.map fun x=>match x with|(i,x)=>(i,σ x)).toList=ps.toList.map fun p=>(p.1,σ p.2):=by simp
   have hrun:(Instr.buildSlice t n (ps.map fun x=>match x with|(i,x)=>(i,σ x))).run P w= .ok (.slice (some ⟨w.heap.size,0,none⟩) n n) (w.alloc (.cells r e)):=by
    unfold Instr.buildSlice
    have hsize:∀w:World,(sizeOf e).run P w= .ok sz w:=fun w=>by simp [sizeOf,typeInfo,hi,his]
    simp only [Sem.run_bind,run_underlying hu,Result.andThen_ok,hsize,Sem.run_ite,if_neg (show ¬n*sz>2 ^ 24 by omega)]
    by_cases h0:n*sz=0
    ·simp only [if_pos h0,Sem.run_pure,Result.andThen_ok,hpp]
     have harr:(Array.range (n*sz)).map (fun j=>if n*sz=0 then default else zv.cells[j % zv.cells.size]!)=(Array.range (n*sz)).map (fun x=>(#[]:Array Value)[x % (#[]:Array Value).size]!):=by
      rw [h0];rfl
     rw [harr] at f1
     simp only [f1,newRow,Sem.run_bind,run_newObj_alloc,Result.andThen_ok,Sem.run_pure]
    ·simp only [if_neg h0,Sem.run_bind,zeroValue,typeInfo,run_program,hi,hzv,Sem.run_pure,Result.andThen_ok,hpp]
     simp only [if_neg h0] at f1
     simp only [f1,newRow,Sem.run_bind,run_newObj_alloc,Result.andThen_ok,Sem.run_pure]
   rw [hrun]
   rfl
  ·by_cases hn0:n=0
   ·subst hn0
    have:ps.toList.map (fun p=>cellsOf (ρ p.2))= []:=List.eq_nil_of_length_eq_zero (by simpa using hlen)
    rw [this]
    exact .inl ⟨rfl,_,rfl⟩
   refine .inr ⟨w.heap.size,n,sz,r,e,?_,?_,heap_alloc_new w _,f2,?_,?_,?_,?_,?_,?_⟩
   ·simp [hlen]
   ·rw [jR];simp [hlen]
   ·simp only [List.length_map,hlen];omega
   ·simp [hlen]
   ·have:n≤n*sz:=Nat.le_mul_of_pos_right n hsz
    unfold maxLen;omega
   ·have:n≤n*sz:=Nat.le_mul_of_pos_right n hsz
    simp only [List.length_map,hlen];unfold big;omega
   ·intro i x hx
    rw [List.getElem?_map,Option.map_eq_some_iff] at hx
    obtain ⟨q,hq,rfl⟩:=hx
    exact (hrep i q hq).2.2
   ·intro i x hx j d hd
    rw [List.getElem?_map,Option.map_eq_some_iff] at hx
    obtain ⟨q,hq,rfl⟩:=hx
    obtain ⟨r1,r2,r3⟩:=hrep i q hq
    obtain ⟨c1,c2,c3⟩:=vF r1 r2
    have hj:j<sz:=by rw [←r3];exact (List.getElem?_eq_some_iff.1 hd).1
    have hget:=f4 i (q.1,σ q.2) (by rw [List.getElem?_map,hq];rfl) j hj
    rw [Nat.zero_add] at hget
    have hju:(σ q.2).cells[j]?=some ((σ q.2).cells[j]'(by rw [c1,r3];exact hj)):=Array.getElem?_eq_getElem _
    exact ⟨_,hget.trans hju,c2 j _ hju,(c3 j d _ hd hju).mono (hp.keep hk).ext⟩
 ·exact h.elim
end
end Go.Aw
end
