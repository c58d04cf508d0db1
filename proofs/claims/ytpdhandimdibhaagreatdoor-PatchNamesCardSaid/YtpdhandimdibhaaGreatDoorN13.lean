/- A part of the proof of what the last text says: Aw18. Conditions: those in each theorem. -/
import Derived.Test.YtpdhandimdibhaaGreatDoorN12
import Derived.IntWalk
set_option linter.unusedVariables false
set_option linter.unusedSimpArgs false
set_option maxRecDepth 100000
set_option maxHeartbeats 16000000
open Nat renaming reduceSub → qa,reduceAdd → qb,reduceMul → qc,reduceEqDiff → qd,reduceLeDiff → qe,reduceBEq → qf
section
namespace Go.Aw
open Go Go.RowKit
class NL (b:Bool):Prop where
 ok:True
instance {a b:List UInt8}:NL (Op.bytesLess a b):=⟨trivial⟩
instance {b:Bool} [NL b]:NL (!b):=⟨trivial⟩
instance {a b:Bool}:NL (a&&b):=⟨trivial⟩
instance {a b:Bool}:NL (a||b):=⟨trivial⟩
instance {a b:Bool}:NL (a==b):=⟨trivial⟩
theorem QA:∀(a b:List UInt8),(!(Op.bytesLess a b||decide (a=b)))=Op.bytesLess b a
 | [],[]=>by simp [Op.bytesLess]
 | [],y::s=>by simp [Op.bytesLess]
 |x::r,[]=>by simp [Op.bytesLess]
 | x::r,y::s=>by
  have ih:=QA r s
  simp only [Op.bytesLess,List.cons.injEq]
  rcases Nat.lt_trichotomy x.toNat y.toNat with h|h|h
  ·have h1:x<y:=h
   have h2:¬y<x:=fun hh=>by have:y.toNat<x.toNat:=hh;omega
   have h3:¬y=x:=fun e=>by subst e;omega
   simp [h1,h2,h3]
  ·have h3:x=y:=UInt8.toNat_inj.1 h
   subst h3
   have h1:¬x<x:=fun hh=>by have:x.toNat<x.toNat:=hh;omega
   simpa [h1] using ih
  ·have h1:¬x<y:=fun hh=>by have:x.toNat<y.toNat:=hh;omega
   have h2:y<x:=h
   have h3:¬x=y:=fun e=>by subst e;omega
   simp [h1,h2,h3]
theorem less_le (a b:List UInt8):(Op.bytesLess a b||decide (a=b))= !Op.bytesLess b a:=by
 rw [←QA a b,Bool.not_not]
def Wl (P:Program) (y:XC) (Q:AQ):AQ:=oV (fun F' H'=>xcode P y F' H' Q) Q
def yb (P:Program) (m:Bool) (r:List XO) (F:List D) (dst:Option Tmp) (H:AH) (k:HK):D→Prop:=fun d=>xops P m r (qG F dst d) H k
def callK (P:Program) (r:List XO) (F:List D) (dst:Option Tmp) (k:HK):D→AH→Prop:=fun d H'=>fact d.view→xops P false r (qG F dst d) H' k
def callD (P:Program) (r:List XO) (F:List D) (dst:Option Tmp) (H:AH) (k:HK):D→Prop:=fun d=>fact d.view→xops P true r (qG F dst d) H k
def xcall (P:Program) (f:D) (args:List D) (H:AH) (K:D→AH→Prop):Prop:=match f with
 | .fn g caps=>ACall P g (wx args caps) H K
 |_=>False
def Z2 (P:Program) (g:FuncId) (args:List D) (H:AH) (K:D→Prop):Prop:=∃d,(∀H1,Sub H H1→ACall P g args H1 (fun d' H'=>d'=d∧H'=H1))∧K d
def W0 (P:Program) (f:D) (args:List D) (H:AH) (K:D→Prop):Prop:=match f with
 | .fn g caps=>Z2 P g (wx args caps) H K
 |_=>False
def xif (c:D) (P:Program) (t:Nat) (x y:XC) (F:List D) (H:AH) (Q:AQ):Prop:=match c with
 | .bool b=>(b=true→xcode P x (F.set t (.bool true)) H Q)∧(b=false→xcode P y (F.set t (.bool false)) H Q)
 |_=>False
def xgd (c:D) (P:Program) (m:Bool) (t:Nat) (want:Bool) (op:Op) (dst:Option Tmp) (tk ta:Bool) (r:List XO) (F:List D) (H:AH) (k:HK):Prop:=match c with
 | .bool b=>(b=want→xops P m (⟨op,dst,none,tk,ta⟩::r) (F.set t (.bool want)) H k)∧(b=(!want)→xops P m r (qG (F.set t (.bool (!want))) dst (.tup [])) H k)
 | .tup _=>xops P m r (qG F dst (.tup [])) H k
 |_=>False
section
variable {P:Program} {m:Bool} {F:List D} {H:AH} {Q:AQ} {k:HK} {x y:XC} {r:List XO} {dst:Option Tmp} {d s t i:Nat} {tk ta:Bool} {op:Op}
theorem c_skip:xcode P .skip F H Q=Q .normal F H:= .trans rfl rfl
theorem c_reg {l:List XO}:xcode P (.reg l) F H Q=xops P false l F H (Q .normal):= .trans rfl rfl
theorem c_regD {l:List XO}:xcode P (.regD l) F H Q=xops P true l F H (Q .normal):= .trans rfl rfl
theorem c_seq:xcode P (.seq x y) F H Q=xcode P x F H (Wl P y Q):= .trans rfl rfl
theorem c_cond:xcode P (.cond (.tmp t) x y) F H Q=xif (F.getD t .any) P t x y F H Q:=by
 unfold xif
 simp only [xcode]
 cases F.getD t .any<;>rfl
theorem c_condT:xcode P (.cond (.const (.bool true)) x y) F H Q=xcode P x F H Q:= .trans rfl rfl
theorem c_condF:xcode P (.cond (.const (.bool false)) x y) F H Q=xcode P y F H Q:= .trans rfl rfl
theorem c_block:xcode P (.block i x) F H Q=xcode P x F H (yI i Q):= .trans rfl rfl
theorem c_exit:xcode P (.exit i) F H Q=Q (.exit i) F H:= .trans rfl rfl
theorem c_ret:xcode P .ret F H Q=Q .ret F H:= .trans rfl rfl
theorem c_loop:xcode P (.loop x) F H Q=XW P x F H Q:= .trans rfl rfl
theorem UK:Wl P y Q .normal F H=xcode P y F H Q:= .trans rfl rfl
theorem q_seqE:Wl P y Q (.exit i) F H=Q (.exit i) F H:= .trans rfl rfl
theorem q_seqR:Wl P y Q .ret F H=Q .ret F H:= .trans rfl rfl
theorem Zc:yI i Q .normal F H=Q .normal F H:= .trans rfl rfl
def bsel (b:Bool) (A B:Prop):Prop:=if b=true then A else B
theorem G6 {A B:Prop}:bsel true A B=A:= .trans rfl rfl
theorem bsel_f {A B:Prop}:bsel false A B=B:= .trans rfl rfl
theorem Yh {j:Nat}:yI i Q (.exit j) F H=bsel (j==i) (Q .normal F H) (Q (.exit j) F H):=by
 simp only [yI,bsel,beq_iff_eq]
 split<;>rfl
theorem Z0:yI i Q .ret F H=Q .ret F H:= .trans rfl rfl
theorem q_loopN {I:List D→AH→Prop} {μ:List D→AH→Nat} {F':List D} {H':AH}:Yj I μ F H Q .normal F' H'=(I F' (back H.length H')∧μ F' (back H.length H')<μ F H):= .trans rfl rfl
theorem q_loopE {I:List D→AH→Prop} {μ:List D→AH→Nat} {F':List D} {H':AH}:Yj I μ F H Q (.exit i) F' H'=Q (.exit i) F' H':= .trans rfl rfl
theorem q_loopR {I:List D→AH→Prop} {μ:List D→AH→Nat} {F':List D} {H':AH}:Yj I μ F H Q .ret F' H'=Q .ret F' H':= .trans rfl rfl
def resK (n:Nat) (H:AH) (R:D→AH→Prop):D→Prop:=fun d=>R d (back n H)
theorem k_res {n:Nat} {R:D→AH→Prop} {d:D}:resK n H R d=R d (back n H):= .trans rfl rfl
theorem q_retN {rs:List ResultVar} {n:Nat} {R:D→AH→Prop}:kK P rs n R .normal F H=ot P rs F H (resK n H R):= .trans rfl rfl
theorem q_retR {rs:List ResultVar} {n:Nat} {R:D→AH→Prop}:kK P rs n R .ret F H=ot P rs F H (resK n H R):= .trans rfl rfl
def optK (o:Option D) (k:D→Prop):Prop:=match o with
 |some d=>k d
 |none=>False
theorem o_s {d:D} {k:D→Prop}:optK (some d) k=k d:= .trans rfl rfl
def tupK (o:Option (List D)) (k:D→Prop):Prop:=match o with
 |some ds=>k (.tup ds)
 |none=>False
theorem o_t {ds:List D} {k:D→Prop}:tupK (some ds) k=k (.tup ds):= .trans rfl rfl
theorem z_1 {r:ResultVar} {k:D→Prop}:ot P [r] F H k=optK (resOne P F H r) k:= .trans rfl rfl
theorem z_0 {k:D→Prop}:ot P [] F H k=tupK (resAll P F H []) k:= .trans rfl rfl
theorem z_2 {r r':ResultVar} {rs:List ResultVar} {k:D→Prop}:ot P (r::r'::rs) F H k=tupK (resAll P F H (r::r'::rs)) k:= .trans rfl rfl
theorem i_T:xif (.bool true) P t x y F H Q=xcode P x (F.set t (.bool true)) H Q:=by simp [xif]
theorem i_F:xif (.bool false) P t x y F H Q=xcode P y (F.set t (.bool false)) H Q:=by simp [xif]
theorem i_dec {p:Prop} [Decidable p]:xif (.bool (decide p)) P t x y F H Q=((p→xcode P x (F.set t (.bool true)) H Q)∧(¬p→xcode P y (F.set t (.bool false)) H Q)):=by simp [xif]
theorem i_ndec {p:Prop} [Decidable p]:xif (.bool (!decide p)) P t x y F H Q=((¬p→xcode P x (F.set t (.bool true)) H Q)∧(p→xcode P y (F.set t (.bool false)) H Q)):=by simp [xif]
theorem i_not {b:Bool}:xif (.bool (!b)) P t x y F H Q=((b=false→xcode P x (F.set t (.bool true)) H Q)∧(b=true→xcode P y (F.set t (.bool false)) H Q)):=by simp [xif]
theorem i_N {b:Bool} [NL b]:xif (.bool b) P t x y F H Q=((b=true→xcode P x (F.set t (.bool true)) H Q)∧(b=false→xcode P y (F.set t (.bool false)) H Q)):= .trans rfl rfl
theorem g_NT {b:Bool} [NL b]:xgd (.bool b) P m t true op dst tk ta r F H k=((b=true→xops P m (⟨op,dst,none,tk,ta⟩::r) (F.set t (.bool true)) H k)∧(b=false→xops P m r (qG (F.set t (.bool false)) dst (.tup [])) H k)):= .trans rfl rfl
theorem g_NF {b:Bool} [NL b]:xgd (.bool b) P m t false op dst tk ta r F H k=((b=true→xops P m r (qG (F.set t (.bool true)) dst (.tup [])) H k)∧(b=false→xops P m (⟨op,dst,none,tk,ta⟩::r) (F.set t (.bool false)) H k)):=by
 simp only [xgd,Bool.not_false,eq_iff_iff]
 exact ⟨fun h=>⟨h.2,h.1⟩,fun h=>⟨h.2,h.1⟩⟩
theorem g_TT:xgd (.bool true) P m t true op dst tk ta r F H k=xops P m (⟨op,dst,none,tk,ta⟩::r) (F.set t (.bool true)) H k:=by simp [xgd]
theorem g_TF:xgd (.bool true) P m t false op dst tk ta r F H k=xops P m r (qG (F.set t (.bool true)) dst (.tup [])) H k:=by simp [xgd]
theorem g_FT:xgd (.bool false) P m t true op dst tk ta r F H k=xops P m r (qG (F.set t (.bool false)) dst (.tup [])) H k:=by simp [xgd]
theorem g_FF:xgd (.bool false) P m t false op dst tk ta r F H k=xops P m (⟨op,dst,none,tk,ta⟩::r) (F.set t (.bool false)) H k:=by simp [xgd]
theorem g_U {ds:List D} {w:Bool}:xgd (.tup ds) P m t w op dst tk ta r F H k=xops P m r (qG F dst (.tup [])) H k:= .trans rfl rfl
theorem g_decT {p:Prop} [Decidable p]:xgd (.bool (decide p)) P m t true op dst tk ta r F H k=((p→xops P m (⟨op,dst,none,tk,ta⟩::r) (F.set t (.bool true)) H k)∧(¬p→xops P m r (qG (F.set t (.bool false)) dst (.tup [])) H k)):=by simp [xgd]
theorem g_decF {p:Prop} [Decidable p]:xgd (.bool (decide p)) P m t false op dst tk ta r F H k=((p→xops P m r (qG (F.set t (.bool true)) dst (.tup [])) H k)∧(¬p→xops P m (⟨op,dst,none,tk,ta⟩::r) (F.set t (.bool false)) H k)):=by
 simp only [xgd,Bool.not_false,decide_eq_true_eq,decide_eq_false_iff_not,eq_iff_iff]
 exact ⟨fun h=>⟨h.2,h.1⟩,fun h=>⟨h.2,h.1⟩⟩
theorem g_ndecT {p:Prop} [Decidable p]:xgd (.bool (!decide p)) P m t true op dst tk ta r F H k=((p→xops P m r (qG (F.set t (.bool false)) dst (.tup [])) H k)∧(¬p→xops P m (⟨op,dst,none,tk,ta⟩::r) (F.set t (.bool true)) H k)):=by
 simp only [xgd,Bool.not_true,Bool.not_eq_true',Bool.not_eq_false',decide_eq_true_eq,decide_eq_false_iff_not,eq_iff_iff]
 exact ⟨fun h=>⟨h.2,h.1⟩,fun h=>⟨h.2,h.1⟩⟩
theorem g_ndecF {p:Prop} [Decidable p]:xgd (.bool (!decide p)) P m t false op dst tk ta r F H k=((p→xops P m (⟨op,dst,none,tk,ta⟩::r) (F.set t (.bool false)) H k)∧(¬p→xops P m r (qG (F.set t (.bool true)) dst (.tup [])) H k)):=by
 simp [xgd]
theorem x_nil:xops P m [] F H k=k F H:= .trans rfl rfl
theorem x_no:xops P m (⟨op,dst,some none,tk,ta⟩::r) F H k=xops P m r (qG F dst (.tup [])) H k:= .trans rfl rfl
theorem x_gd {w:Bool}:xops P m (⟨op,dst,some (some (t,w)),tk,ta⟩::r) F H k=xgd (F.getD t .any) P m t w op dst tk ta r F H k:=by
 unfold xgd
 simp only [xops]
 cases F.getD t .any<;>rfl
theorem x_mv0:xops P m (⟨.move (.tmp s),some d,none,false,ta⟩::r) F H k=xops P m r (F.set d (F.getD s .any).view) H k:= .trans rfl rfl
theorem x_mv1:xops P m (⟨.move (.tmp s),some d,none,true,ta⟩::r) F H k=xops P m r ((F.set s (F.getD s .any).view).set d (F.getD s .any)) H k:= .trans rfl rfl
theorem x_mvn:xops P m (⟨.move (.tmp s),none,none,tk,ta⟩::r) F H k=xops P m r F H k:= .trans rfl rfl
theorem x_mvc {v:Value}:xops P m (⟨.move (.const v),dst,none,tk,ta⟩::r) F H k=xops P m r (qG F dst (jj v)) H k:= .trans rfl rfl
theorem x_mvf {f:FuncId}:xops P m (⟨.move (.func f),dst,none,tk,ta⟩::r) F H k=xops P m r (qG F dst (.fn f [])) H k:= .trans rfl rfl
theorem x_asg:xops P m (⟨.assign (.tmp s),some d,none,tk,ta⟩::r) F H k=xops P m r ((F.set s (F.getD s .any).view).set d (F.getD s .any)) H k:= .trans rfl rfl
theorem x_asgc {v:Value}:xops P m (⟨.assign (.const v),dst,none,tk,ta⟩::r) F H k=xops P m r (qG F dst (jj v)) H k:= .trans rfl rfl
theorem x_asgf {f:FuncId}:xops P m (⟨.assign (.func f),dst,none,tk,ta⟩::r) F H k=xops P m r (qG F dst (.fn f [])) H k:= .trans rfl rfl
def UE (P:Program) (m:Bool) (c:D) (tk:Bool) (s ix d:Nat) (r:List XO) (F:List D) (H:AH) (k:HK):Prop:=match c with
 | .tup ds=>match ds[ix]? with
  |some c=>if tk=true then fact c.view1→xops P m r ((F.set s (.tup (ds.set ix c.view1))).set d c) H k else fact c.view1→xops P m r (F.set d c.view1) H k
  |none=>False
 |_=>False
theorem x_ext:xops P false (⟨.extract (.tmp s) i,some d,none,tk,ta⟩::r) F H k=UE P false (F.getD s .any) tk s i d r F H k:=by
 unfold UE
 simp only [xops,xop,yL,kE,ev,o0,Bool.not_false,Bool.and_true,Bool.and_false]
 cases F.getD s .any<;>rfl
theorem x_extD:xops P true (⟨.extract (.tmp s) i,some d,none,tk,ta⟩::r) F H k=UE P true (F.getD s .any) false s i d r F H k:=by
 unfold UE
 simp only [xops,xop,yL,kE,ev,o0,Bool.not_false,Bool.and_true,Bool.not_true,Bool.and_false,Bool.false_eq_true,if_false]
 cases F.getD s .any<;>rfl
def extO (P:Program) (m:Bool) (o:Option D) (ds:List D) (tk:Bool) (s ix d:Nat) (r:List XO) (F:List D) (H:AH) (k:HK):Prop:=match o with
 |some c=>if tk=true then fact c.view1→xops P m r ((F.set s (.tup (ds.set ix c.view1))).set d c) H k else fact c.view1→xops P m r (F.set d c.view1) H k
 |none=>False
theorem e_d {ds:List D}:UE P m (.tup ds) tk s i d r F H k=extO P m ds[i]? ds tk s i d r F H k:= .trans rfl rfl
theorem e_0 {ds:List D} {c:D}:extO P m (some c) ds false s i d r F H k=(fact c.view1→xops P m r (F.set d c.view1) H k):= .trans rfl rfl
theorem e_1 {ds:List D} {c:D}:extO P m (some c) ds true s i d r F H k=(fact c.view1→xops P m r ((F.set s (.tup (ds.set i c.view1))).set d c) H k):= .trans rfl rfl
def allD (P:Program) (o:Option (List D)) (r:List XO) (F:List D) (d:Nat) (H:AH) (k:HK):Prop:=match o with
 |some z=>∀b,qD H b→xops P false r (F.set d (.ptr b 0)) ((b,.cells z)::H) k
 |none=>False
theorem x_alloc {t:TypeId}:xops P m (⟨.alloc t,some d,none,tk,ta⟩::r) F H k=allD P (yK P t) r F d H k:=by
 unfold allD
 simp only [xops,xop,yL,kE,true_and,o0,Bool.not_true,Bool.false_and]
 rfl
theorem al_s {z:List D}:allD P (some z) r F d H k=∀b,qD H b→xops P false r (F.set d (.ptr b 0)) ((b,.cells z)::H) k:= .trans rfl rfl
theorem x_box {t:TypeId} {y:Operand}:xops P m (⟨.box t y,some d,none,tk,ta⟩::r) F H k=(okc (rv F y)=true∧∀b,qD H b→xops P false r (F.set d (.ptr b 0)) ((b,.cells (cellsOf (rv F y)))::H) k):=by
 simp only [xops,xop,yL,kE,true_and,o0,Bool.not_true,Bool.false_and]
 rfl
def Wi (P:Program) (ag:Bool) (n off:Nat) (o:Option AO) (b:Nat) (y:Operand) (dst:Option Tmp) (r:List XO) (F:List D) (H:AH) (k:HK):Prop:=match o with
 | some (.cells cs)=>if ag=true then okc (rv F y)=true∧(cellsOf (rv F y)).length=n∧off+n≤cs.length∧xops P false r (qG F dst (.tup [])) (qF H b (.cells (cs.take off++(cellsOf (rv F y)++cs.drop (off+n))))) k
  else n=1∧off<cs.length∧one1 (ev F y)=true∧dst=none∧(match y with
    | .tmp s=>xops P false r (F.set s (rv F y)) (qF H b (.cells (cs.set off (ev F y)))) k
    |_=>xops P false r F (qF H b (.cells (cs.set off (ev F y)))) k)
 |_=>False
def stoD (P:Program) (ty:Option (Bool×Nat)) (a:D) (y:Operand) (dst:Option Tmp) (r:List XO) (F:List D) (H:AH) (k:HK):Prop:=match ty,a with
  |some (ag,n),.ptr b off=>Wi P ag n off (qu H b) b y dst r F H k
  |_,_=>False
theorem x_sto {t:TypeId} {a y:Operand}:xops P m (⟨.store t a y,dst,none,tk,ta⟩::r) F H k=stoD P (wb P t) (rv F a) y dst r F H k:=by
 unfold stoD
 simp only [xops,xop,yL,kE,true_and,o0,Bool.not_true,Bool.false_and]
 cases wb P t with
 |none=>rfl
 | some x=>
  obtain ⟨ag,n⟩:=x
  cases rv F a<;>cases ag<;>first
   |rfl
   |(simp only [Wi];rfl)
theorem st_d {ag:Bool} {n b off:Nat} {y:Operand}:stoD P (some (ag,n)) (.ptr b off) y dst r F H k=Wi P ag n off (qu H b) b y dst r F H k:= .trans rfl rfl
theorem st_a {n b off:Nat} {y:Operand} {cs:List D}:Wi P true n off (some (.cells cs)) b y dst r F H k=(okc (rv F y)=true∧(cellsOf (rv F y)).length=n∧off+n≤cs.length∧xops P false r (qG F dst (.tup [])) (qF H b (.cells (cs.take off++(cellsOf (rv F y)++cs.drop (off+n))))) k):= .trans rfl rfl
theorem st_t {n b off s:Nat} {cs:List D}:Wi P false n off (some (.cells cs)) b (.tmp s) dst r F H k=(n=1∧off<cs.length∧one1 (F.getD s .any)=true∧dst=none∧xops P false r (F.set s (rv F (.tmp s))) (qF H b (.cells (cs.set off (F.getD s .any)))) k):= .trans rfl rfl
theorem st_c {n b off:Nat} {cs:List D} {v:Value}:Wi P false n off (some (.cells cs)) b (.const v) dst r F H k=(n=1∧off<cs.length∧one1 (jj v)=true∧dst=none∧xops P false r F (qF H b (.cells (cs.set off (jj v)))) k):= .trans rfl rfl
theorem st_f {n b off:Nat} {cs:List D} {v:FuncId}:Wi P false n off (some (.cells cs)) b (.func v) dst r F H k=(n=1∧off<cs.length∧one1 (.fn v [])=true∧dst=none∧xops P false r F (qF H b (.cells (cs.set off (.fn v [])))) k):= .trans rfl rfl
theorem x_call {f:Operand} {args:Array Operand} {tys:Array TypeId}:xops P false (⟨.call ⟨.value f,args,tys⟩,dst,none,tk,ta⟩::r) F H k=xcall P (rv F f) (args.toList.map (rv F)) H (callK P r F dst k):=by
 unfold xcall
 simp only [xops,xop,yL,kE,Bool.false_eq_true,if_false]
 cases rv F f<;>rfl
theorem x_callD {f:Operand} {args:Array Operand} {tys:Array TypeId}:xops P true (⟨.call ⟨.value f,args,tys⟩,dst,none,tk,ta⟩::r) F H k=W0 P (rv F f) (args.toList.map (rv F)) H (callD P r F dst H k):=by
 unfold W0
 simp only [xops,xop,yL,kE,if_true]
 cases rv F f<;>rfl
theorem k_call {g:FuncId} {caps args:List D} {K:D→AH→Prop}:xcall P (.fn g caps) args H K=ACall P g (wx args caps) H K:= .trans rfl rfl
theorem k_callD {g:FuncId} {caps args:List D} {K:D→Prop}:W0 P (.fn g caps) args H K=Z2 P g (wx args caps) H K:= .trans rfl rfl
theorem k_back {d:D}:callK P r F dst k d H=(fact d.view→xops P false r (qG F dst d) H k):= .trans rfl rfl
theorem k_backD {d:D}:callD P r F dst H k d=(fact d.view→xops P true r (qG F dst d) H k):= .trans rfl rfl
def appD (P:Program) (m:Bool) (a:D) (t:Option (TypeId×Nat×Nat)) (y:D) (s d:Nat) (r:List XO) (F:List D) (H:AH) (k:HK):Prop:=match a,t with
  | .own xs,some (_,sz,bs)=>match y with
   | .slc ys=>(∀y∈xs,y.length=sz)∧(∀y∈ys,y.length=sz)∧(xs.length+ys.length)*bs≤140737488355328∧xops P m r ((F.set s (.slc xs)).set d (.own (xs++ys))) H k
   | .str l=>sz=1∧(∀y∈xs,y.length=1)∧(xs.length+l.length)*bs≤140737488355328∧xops P m r ((F.set s (.slc xs)).set d (.own (xs++l.map qA))) H k
   |_=>False
  |_,_=>False
theorem x_app {t u:TypeId} {y:Operand}:xops P m (⟨.call ⟨.builtin .append,#[.tmp s,y],#[t,u]⟩,some d,none,tk,ta⟩::r) F H k=appD P m (F.getD s .any) (Ke P t u) (rv F y) s d r F H k:=by
 unfold appD
 simp only [xops,xop,yL,kE,ev]
 rfl
theorem a_slc {xs ys:List (List D)} {e:TypeId} {sz bs:Nat}:appD P m (.own xs) (some (e,sz,bs)) (.slc ys) s d r F H k=((∀y∈xs,y.length=sz)∧(∀y∈ys,y.length=sz)∧(xs.length+ys.length)*bs≤140737488355328∧xops P m r ((F.set s (.slc xs)).set d (.own (xs++ys))) H k):= .trans rfl rfl
theorem a_str {xs:List (List D)} {l:List UInt8} {e:TypeId} {sz bs:Nat}:appD P m (.own xs) (some (e,sz,bs)) (.str l) s d r F H k=(sz=1∧(∀y∈xs,y.length=1)∧(xs.length+l.length)*bs≤140737488355328∧xops P m r ((F.set s (.slc xs)).set d (.own (xs++l.map qA))) H k):= .trans rfl rfl
theorem x_ld0 {t:TypeId}:xops P m (⟨.load t (.tmp s),dst,none,tk,false⟩::r) F H k=qO P (rv F) H (.load t (.tmp s)) (yb P m r F dst H k):=by
 simp only [xops,xop,yL,kE,Bool.false_eq_true,and_false,if_false]
 cases dst<;>rfl
theorem x_ldc {t:TypeId} {g:Nat}:xops P m (⟨.load t (.global g),dst,none,tk,ta⟩::r) F H k=qO P (rv F) H (.load t (.global g)) (yb P m r F dst H k):= .trans rfl rfl
theorem x_ldD {t:TypeId}:xops P true (⟨.load t (.tmp s),dst,none,tk,ta⟩::r) F H k=qO P (rv F) H (.load t (.tmp s)) (yb P true r F dst H k):=by
 simp only [xops,xop,yL,kE,Bool.true_eq_false,false_and,if_false]
 cases dst<;>rfl
def ldC (P:Program) (c:Option D) (cs:List D) (b off d:Nat) (r:List XO) (F:List D) (H:AH) (k:HK):Prop:=match c with
 |some (.own xs)=>xops P false r (F.set d (.own xs)) (qF H b (.cells (cs.set off (.slc xs)))) k
 |some (.hgs b' n c)=>xops P false r (F.set d (.hgs b' n c)) H k
 |_=>False
def ldH (P:Program) (o:Option AO) (b off d:Nat) (r:List XO) (F:List D) (H:AH) (k:HK):Prop:=match o with
 |some (.cells cs)=>ldC P cs[off]? cs b off d r F H k
 |_=>False
def ldT (P:Program) (ty:Option (Bool×Nat)) (a:D) (d:Nat) (r:List XO) (F:List D) (H:AH) (k:HK):Prop:=match ty,a with
 |some (false,_),.ptr b off=>ldH P (qu H b) b off d r F H k
 |_,_=>False
theorem x_ldT {t:TypeId}:xops P false (⟨.load t (.tmp s),some d,none,tk,true⟩::r) F H k=ldT P (wb P t) (rv F (.tmp s)) d r F H k:=by
 unfold ldT ldH ldC
 simp only [xops,xop,yL,kE,and_self,if_true]
 rfl
theorem lt_d {n b off:Nat}:ldT P (some (false,n)) (.ptr b off) d r F H k=ldH P (qu H b) b off d r F H k:= .trans rfl rfl
theorem lt_h {b off:Nat} {cs:List D}:ldH P (some (.cells cs)) b off d r F H k=ldC P cs[off]? cs b off d r F H k:= .trans rfl rfl
theorem lt_c {b off:Nat} {cs:List D} {xs:List (List D)}:ldC P (some (.own xs)) cs b off d r F H k=xops P false r (F.set d (.own xs)) (qF H b (.cells (cs.set off (.slc xs)))) k:= .trans rfl rfl
theorem lt_g {b off b' n c:Nat} {cs:List D}:ldC P (some (.hgs b' n c)) cs b off d r F H k=xops P false r (F.set d (.hgs b' n c)) H k:= .trans rfl rfl
theorem x_pick {c a b:Operand}:xops P m (⟨.pick c a b,dst,none,tk,ta⟩::r) F H k=qO P (rv F) H (.pick c a b) (yb P m r F dst H k):= .trans rfl rfl
theorem x_bld {t:TypeId} {ps:Array (Nat×Operand)}:xops P m (⟨.build t ps,dst,none,tk,ta⟩::r) F H k=qO P (rv F) H (.build t ps) (yb P m r F dst H k):= .trans rfl rfl
theorem x_bsl {t:TypeId} {n:Nat} {ps:Array (Nat×Operand)}:xops P m (⟨.buildSlice t n ps,dst,none,tk,ta⟩::r) F H k=qO P (rv F) H (.buildSlice t n ps) (yb P m r F dst H k):= .trans rfl rfl
theorem zQ {b:BinOp} {t u:TypeId} {x y:Operand} (h:od y=false):xops P m (⟨.binOp b t x y u,dst,none,tk,ta⟩::r) F H k=qO P (rv F) H (.binOp b t x y u) (yb P m r F dst H k):=by
 simp only [xops,xop,yL,kE,h,Bool.false_eq_true,and_false,if_false]
 rfl
theorem x_binT {b:BinOp} {t u:TypeId} {x:Operand} {y:Nat}:xops P m (⟨.binOp b t x (.tmp y) u,dst,none,tk,ta⟩::r) F H k=qO P (rv F) H (.binOp b t x (.tmp y) u) (yb P m r F dst H k):=zQ rfl
theorem x_binI {b:BinOp} {t u:TypeId} {x:Operand} {kd:IntKind} {n:Int}:xops P m (⟨.binOp b t x (.const (.int kd n)) u,dst,none,tk,ta⟩::r) F H k=qO P (rv F) H (.binOp b t x (.const (.int kd n)) u) (yb P m r F dst H k):=zQ rfl
theorem x_binB {b:BinOp} {t u:TypeId} {x:Operand} {bb:Bool}:xops P m (⟨.binOp b t x (.const (.bool bb)) u,dst,none,tk,ta⟩::r) F H k=qO P (rv F) H (.binOp b t x (.const (.bool bb)) u) (yb P m r F dst H k):=zQ rfl
theorem x_binS {b:BinOp} {t u:TypeId} {x:Operand} {l:ByteArray}:xops P m (⟨.binOp b t x (.const (.string l)) u,dst,none,tk,ta⟩::r) F H k=qO P (rv F) H (.binOp b t x (.const (.string l)) u) (yb P m r F dst H k):=zQ rfl
theorem x_binP {b:BinOp} {t u:TypeId} {x:Operand} {ad:Option Addr}:xops P m (⟨.binOp b t x (.const (.pointer ad)) u,dst,none,tk,ta⟩::r) F H k=qO P (rv F) H (.binOp b t x (.const (.pointer ad)) u) (yb P m r F dst H k):=zQ rfl
theorem x_binF {b:BinOp} {t u:TypeId} {x:Operand} :xops P m (⟨.binOp b t x (.const .nilFunc) u,dst,none,tk,ta⟩::r) F H k=qO P (rv F) H (.binOp b t x (.const .nilFunc) u) (yb P m r F dst H k):=zQ rfl
theorem x_binM {b:BinOp} {t u:TypeId} {x:Operand} {mm:Option Nat}:xops P m (⟨.binOp b t x (.const (.map mm)) u,dst,none,tk,ta⟩::r) F H k=qO P (rv F) H (.binOp b t x (.const (.map mm)) u) (yb P m r F dst H k):=zQ rfl
theorem x_binG {b:BinOp} {t u:TypeId} {x:Operand} {g:Nat}:xops P m (⟨.binOp b t x (.global g) u,dst,none,tk,ta⟩::r) F H k=qO P (rv F) H (.binOp b t x (.global g) u) (yb P m r F dst H k):=zQ rfl
theorem x_nilc {b:BinOp} {t u:TypeId} {x:Operand}:xops P false (⟨.binOp b t x (.const (.slice none 0 0)) u,dst,none,tk,ta⟩::r) F H k=nilcmp P b t (rv F x) (yb P false r F dst H k):=by
 simp only [xops,xop,yL,kE,od,and_self,if_true]
 rfl
theorem nl_eq {t:TypeId} {xs:List (List D)} {K:D→Prop}:nilcmp P .eql t (.slc xs) K=((kY P t).isSome=true∧(xs= []→K (.bool true))∧K (.bool false)):= .trans rfl rfl
theorem nl_ne {t:TypeId} {xs:List (List D)} {K:D→Prop}:nilcmp P .neq t (.slc xs) K=((kY P t).isSome=true∧(xs= []→K (.bool false))∧K (.bool true)):= .trans rfl rfl
theorem x_un {u:UnOp} {t:TypeId} {x:Operand}:xops P m (⟨.unOp u t x,dst,none,tk,ta⟩::r) F H k=qO P (rv F) H (.unOp u t x) (yb P m r F dst H k):= .trans rfl rfl
theorem x_conv {a b:TypeId} {x:Operand}:xops P m (⟨.convert a b x,dst,none,tk,ta⟩::r) F H k=qO P (rv F) H (.convert a b x) (yb P m r F dst H k):= .trans rfl rfl
theorem x_mf {f:Fn} {a c:Array Operand}:xops P m (⟨.makeFunc f a c,dst,none,tk,ta⟩::r) F H k=qO P (rv F) H (.makeFunc f a c) (yb P m r F dst H k):= .trans rfl rfl
theorem x_ms {t:TypeId} {a b:Operand}:xops P m (⟨.makeSlice t a b,dst,none,tk,ta⟩::r) F H k=qO P (rv F) H (.makeSlice t a b) (yb P m r F dst H k):= .trans rfl rfl
theorem x_sl {t:TypeId} {x:Operand} {a b c:Option Operand}:xops P m (⟨.slice t x a b c,dst,none,tk,ta⟩::r) F H k=qO P (rv F) H (.slice t x a b c) (yb P m r F dst H k):= .trans rfl rfl
theorem x_fa {t:TypeId} {x:Operand} {f:Nat}:xops P m (⟨.fieldAddr t x f,dst,none,tk,ta⟩::r) F H k=qO P (rv F) H (.fieldAddr t x f) (yb P m r F dst H k):= .trans rfl rfl
theorem x_f {t:TypeId} {x:Operand} {f:Nat}:xops P m (⟨.field t x f,dst,none,tk,ta⟩::r) F H k=qO P (rv F) H (.field t x f) (yb P m r F dst H k):= .trans rfl rfl
theorem x_ia {t:TypeId} {x y:Operand}:xops P m (⟨.indexAddr t x y,dst,none,tk,ta⟩::r) F H k=qO P (rv F) H (.indexAddr t x y) (yb P m r F dst H k):= .trans rfl rfl
theorem x_ix {t:TypeId} {x y:Operand}:xops P m (⟨.index t x y,dst,none,tk,ta⟩::r) F H k=qO P (rv F) H (.index t x y) (yb P m r F dst H k):= .trans rfl rfl
theorem x_nc {x:Operand}:xops P m (⟨.nilCheck x,dst,none,tk,ta⟩::r) F H k=qO P (rv F) H (.nilCheck x) (yb P m r F dst H k):= .trans rfl rfl
theorem x_len {a:Array Operand} {t:Array TypeId}:xops P m (⟨.call ⟨.builtin .len,a,t⟩,dst,none,tk,ta⟩::r) F H k=qO P (rv F) H (.call ⟨.builtin .len,a,t⟩) (yb P m r F dst H k):= .trans rfl rfl
theorem x_max {a:Array Operand} {t:Array TypeId}:xops P m (⟨.call ⟨.builtin .max,a,t⟩,dst,none,tk,ta⟩::r) F H k=qO P (rv F) H (.call ⟨.builtin .max,a,t⟩) (yb P m r F dst H k):= .trans rfl rfl
theorem x_min {a:Array Operand} {t:Array TypeId}:xops P m (⟨.call ⟨.builtin .min,a,t⟩,dst,none,tk,ta⟩::r) F H k=qO P (rv F) H (.call ⟨.builtin .min,a,t⟩) (yb P m r F dst H k):= .trans rfl rfl
theorem p_put {x:D}:yb P m r F (some d) H k x=xops P m r (F.set d x) H k:= .trans rfl rfl
theorem p_putn {x:D}:yb P m r F none H k x=xops P m r F H k:= .trans rfl rfl
theorem p_s {x:D}:qG F (some d) x=F.set d x:= .trans rfl rfl
theorem p_n {x:D}:qG F none x=F:= .trans rfl rfl
theorem r_tmp:rv F (.tmp s)=(F.getD s .any).view:= .trans rfl rfl
theorem v_tmp:ev F (.tmp s)=F.getD s .any:= .trans rfl rfl
theorem v_const {v:Value}:ev F (.const v)=jj v:= .trans rfl rfl
theorem v_func {f:FuncId}:ev F (.func f)= .fn f []:= .trans rfl rfl
theorem r_const {v:Value}:rv F (.const v)=(jj v).view:= .trans rfl rfl
theorem r_func {f:FuncId}:rv F (.func f)= .fn f []:= .trans rfl rfl
theorem r_glob {g:Nat}:rv F (.global g)= .ptr g 0:= .trans rfl rfl
theorem s_8 {a0 a1 a2 a3 a4 a5 a6 a7 x:D} {l:List D} {n:Nat}:(a0::a1::a2::a3::a4::a5::a6::a7::l).set (n+8) x=a0::a1::a2::a3::a4::a5::a6::a7::l.set n x:= .trans rfl rfl
theorem t_8 {a0 a1 a2 a3 a4 a5 a6 a7 x:D} {l:List D} {n:Nat}:(a0::a1::a2::a3::a4::a5::a6::a7::l).getD (n+8) x=l.getD n x:= .trans rfl rfl
theorem w_int {k:IntKind} {n:Int}:(D.int k n).view= .int k n:= .trans rfl rfl
theorem w_bool {b:Bool}:(D.bool b).view= .bool b:= .trans rfl rfl
theorem w_str {l:List UInt8}:(D.str l).view= .str l:= .trans rfl rfl
theorem w_slc {l:List (List D)}:(D.slc l).view= .slc l:= .trans rfl rfl
theorem jP {l:List (List D)}:(D.own l).view= .slc l:= .trans rfl rfl
theorem w_ptr {b o:Nat}:(D.ptr b o).view= .ptr b o:= .trans rfl rfl
theorem w_eptr {l:List D}:(D.eptr l).view= .eptr l:= .trans rfl rfl
theorem w_fn {f:FuncId} {l:List D}:(D.fn f l).view= .fn f l:= .trans rfl rfl
theorem w_agg {l:List D}:(D.agg l).view= .agg l:= .trans rfl rfl
theorem w_tup {l:List D}:(D.tup l).view= .tup (l.map D.view1):= .trans rfl rfl
theorem w_nilp:D.nilp.view= .nilp:= .trans rfl rfl
theorem w_nilfn:D.nilfn.view= .nilfn:= .trans rfl rfl
theorem w_mp {r:Option Nat}:(D.mp r).view= .mp r:= .trans rfl rfl
theorem w1_int {k:IntKind} {n:Int}:(D.int k n).view1= .int k n:= .trans rfl rfl
theorem w1_bool {b:Bool}:(D.bool b).view1= .bool b:= .trans rfl rfl
theorem w1_str {l:List UInt8}:(D.str l).view1= .str l:= .trans rfl rfl
theorem w1_slc {l:List (List D)}:(D.slc l).view1= .slc l:= .trans rfl rfl
theorem w1_own {l:List (List D)}:(D.own l).view1= .slc l:= .trans rfl rfl
theorem w1_ptr {b o:Nat}:(D.ptr b o).view1= .ptr b o:= .trans rfl rfl
theorem w1_eptr {l:List D}:(D.eptr l).view1= .eptr l:= .trans rfl rfl
theorem w1_fn {f:FuncId} {l:List D}:(D.fn f l).view1= .fn f l:= .trans rfl rfl
theorem w1_agg {l:List D}:(D.agg l).view1= .agg l:= .trans rfl rfl
theorem w1_nilp:D.nilp.view1= .nilp:= .trans rfl rfl
theorem G9:D.nilfn.view1= .nilfn:= .trans rfl rfl
theorem w1_mp {r:Option Nat}:(D.mp r).view1= .mp r:= .trans rfl rfl
theorem n_int {k:IntKind} {n:Int}:jj (.int k n)= .int k n:= .trans rfl rfl
theorem n_bool {b:Bool}:jj (.bool b)= .bool b:= .trans rfl rfl
theorem n_str {s:ByteArray}:jj (.string s)= .str s.data.toList:= .trans rfl rfl
theorem n_nilp:jj (.pointer none)= .nilp:= .trans rfl rfl
theorem n_nilfn:jj .nilFunc= .nilfn:= .trans rfl rfl
theorem n_map:jj (.map none)= .mp none:= .trans rfl rfl
theorem n_slc:jj (.slice none 0 0)= .own []:= .trans rfl rfl
theorem f_int {k:IntKind} {n:Int}:fact (.int k n)=vk k n:= .trans rfl rfl
theorem f_str {l:List UInt8}:fact (.str l)=(l.length≤big):= .trans rfl rfl
theorem f_slc {l:List (List D)}:fact (.slc l)=(l.length≤big):= .trans rfl rfl
theorem f_bool {b:Bool}:fact (.bool b)=True:= .trans rfl rfl
theorem f_agg {l:List D}:fact (.agg l)=True:= .trans rfl rfl
theorem f_tup {l:List D}:fact (.tup l)=True:= .trans rfl rfl
theorem f_ptr {b o:Nat}:fact (.ptr b o)=True:= .trans rfl rfl
theorem f_eptr {l:List D}:fact (.eptr l)=True:= .trans rfl rfl
theorem f_fn {f:FuncId} {l:List D}:fact (.fn f l)=True:= .trans rfl rfl
theorem jS {b:Nat} {o:AO}:qu ((b,o)::H) b=some o:=by simp [qu]
theorem qg {b c:Nat} {o:AO} (h:b≠c):qu ((c,o)::H) b=qu H b:=by simp [qu,h]
theorem uw {b:Nat} {o x:AO}:qF ((b,o)::H) b x=(b,x)::H:=by simp [qF]
theorem qh {b c:Nat} {o x:AO} (h:b≠c):qF ((c,o)::H) b x=(c,o)::qF H b x:=by simp [qF,h]
theorem Jz {b c:Nat} {o:AO}:qD ((c,o)::H) b=(c≠b∧qD H b):=by
 show (b≠c∧qD H b)=_
 rw [ne_comm]
theorem zf {b c:Nat} {o:AO} (h:qD H c) (hb:qu H b=some o):b≠c:=by
 induction H with
 |nil=>cases hb
 | cons x r ih=>
  obtain ⟨c',o'⟩:=x
  simp only [qu] at hb
  split at hb
  ·rename_i e
   exact fun e'=>h.1 (e'.symm.trans e)
  ·exact ih h.2 hb
theorem h_old {b c:Nat} {o:AO} (h:qD H c) (hb:(qu H b).isSome=true):qu ((c,o)::H) b=qu H b:=by
 obtain ⟨y,hy⟩:=Option.isSome_iff_exists.1 hb
 exact qg (zf h hy)
theorem h_olds {b c:Nat} {o x:AO} (h:qD H c) (hb:(qu H b).isSome=true):qF ((c,o)::H) b x=(c,o)::qF H b x:=by
 obtain ⟨y,hy⟩:=Option.isSome_iff_exists.1 hb
 exact qh (zf h hy)
theorem Ji {b:Nat} {x:AO} (hb:(qu H b).isSome=true):qu (qF H b x) b=some x:=by
 induction H with
 |nil=>cases hb
 | cons y r ih=>
  obtain ⟨c',o'⟩:=y
  simp only [qu] at hb
  simp only [qF]
  split
  ·rename_i e;simp [qu,e]
  ·rename_i e
   rw [if_neg e] at hb
   simp only [qu,if_neg e]
   exact ih hb
theorem h_oth {b c:Nat} {x:AO} (h:c≠b):qu (qF H b x) c=qu H c:=by
 induction H with
 |nil=>rfl
 | cons y r ih=>
  obtain ⟨c',o'⟩:=y
  simp only [qF]
  split
  ·rename_i e;subst e;simp [qu,h]
  ·simp only [qu,ih]
theorem QY {b:Nat} {x y:AO}:qF (qF H b x) b y=qF H b y:=by
 induction H with
 |nil=>rfl
 | cons z r ih=>
  obtain ⟨c',o'⟩:=z
  simp only [qF]
  split
  ·rename_i e;simp [qF,e]
  ·rename_i e;simp [qF,e,ih]
theorem h_frs {b c:Nat} {x:AO}:qD (qF H b x) c=qD H c:=by
 induction H with
 |nil=>rfl
 | cons z r ih=>
  obtain ⟨c',o'⟩:=z
  simp only [qF]
  split
  ·rename_i e;subst e;rfl
  ·simp only [qD,ih]
theorem kW {n:Nat} {x:Nat×AO} (h:H.length=n):back n (x::H)=H:=by
 subst h
 rw [yV (Nat.le_refl _),QZ]
theorem j7 {n:Nat} (h:H.length=n):back n H=H:=by subst h;exact QZ H
end
section
variable {P:Program} {ρ:Operand→D} {H:AH} {K:D→Prop} {t:TypeId} {x y:Operand}
def G8 (c a b:D) (K:D→Prop):Prop:=match c with
 | .bool true=>K a
 | .bool false=>K b
 |_=>False
theorem v_pick {c a b:Operand}:qO P ρ H (.pick c a b) K=G8 (ρ c) (ρ a) (ρ b) K:= .trans rfl rfl
theorem pk_t {a b:D}:G8 (.bool true) a b K=K a:= .trans rfl rfl
theorem pk_f {a b:D}:G8 (.bool false) a b K=K b:= .trans rfl rfl
def bldD (P:Program) (t:TypeId) (o:Option (List D)) (l:List (Nat×D)) (K:D→Prop):Prop:=match o with
 |some z=>kq P t=true∧(∀p∈l,okc p.2=true)∧wc P t (l.map fun p=>(p.1,cellsOf p.2)) (z.map D.view1) fun cs=>K (.agg cs)
 |none=>False
theorem v_bld {ps:Array (Nat×Operand)}:qO P ρ H (.build t ps) K=bldD P t (yK P t) (ps.toList.map fun p=>(p.1,ρ p.2)) K:=by
 simp only [qO,bldD]
 cases yK P t with
 |none=>rfl
 |some z=>simp only [List.map_map,Function.comp_def,List.forall_mem_map]
def zP (P:Program) (t:TypeId) (l:List (Nat×List D)) (z:List D) (K:D→Prop):Prop:=wc P t l z fun cs=>K (.agg cs)
theorem bl_s {z:List D} {l:List (Nat×D)}:bldD P t (some z) l K=(kq P t=true∧(l.all fun p=>okc p.2)=true∧zP P t (l.map fun p=>(p.1,cellsOf p.2)) (z.map D.view1) K):=by
 rw [List.all_eq_true]
 rfl
theorem fl_n {z:List D}:zP P t [] z K=K (.agg z):= .trans rfl rfl
def ZT (P:Program) (t:TypeId) (o:Option (Nat×Bool×Nat)) (cs:List D) (l:List (Nat×List D)) (z:List D) (K:D→Prop):Prop:=match o with
 |some (off,_,n)=>cs.length=n∧off+n≤z.length∧zP P t l (z.take off++(cs++z.drop (off+n))) K
 |none=>False
theorem fl_c {i:Nat} {cs z:List D} {l:List (Nat×List D)}:zP P t ((i,cs)::l) z K=ZT P t (kQ P t i) cs l z K:=by
 unfold zP ZT
 rw [wc]
 cases kQ P t i<;>rfl
theorem fl_o {off n:Nat} {ag:Bool} {cs z:List D} {l:List (Nat×List D)}:ZT P t (some (off,ag,n)) cs l z K=(cs.length=n∧off+n≤z.length∧zP P t l (z.take off++(cs++z.drop (off+n))) K):= .trans rfl rfl
def bslD (P:Program) (o:Option (TypeId×Nat)) (n:Nat) (l:List (Nat×D)) (K:D→Prop):Prop:=match o with
 |some (e,sz)=>l.map (·.1)=List.range n∧(∀p∈l,okc p.2=true∧(cellsOf p.2).length=sz)∧n*sz≤16777216∧(yK P e).isSome=true∧K (.own (l.map fun p=>cellsOf p.2))
 |none=>False
theorem v_bsl {n:Nat} {ps:Array (Nat×Operand)}:qO P ρ H (.buildSlice t n ps) K=bslD P (kY P t) n (ps.toList.map fun p=>(p.1,ρ p.2)) K:=by
 simp only [qO,bslD]
 cases kY P t with
 |none=>rfl
 |some z=>simp only [List.map_map,Function.comp_def,List.forall_mem_map]
theorem bs_s {e:TypeId} {sz n:Nat} {l:List (Nat×D)}:bslD P (some (e,sz)) n l K=(l.map (·.1)=List.range n∧(l.all fun p=>okc p.2&&(cellsOf p.2).length==sz)=true∧n*sz≤16777216∧(yK P e).isSome=true∧K (.own (l.map fun p=>cellsOf p.2))):=by
 simp only [bslD,List.all_eq_true,Bool.and_eq_true,beq_iff_eq]
def lodC (c:Option D) (K:D→Prop):Prop:=match c with
 |some c=>fact c.view1→K c.view1
 |none=>False
def UX (ag:Bool) (n off:Nat) (o:Option AO) (K:D→Prop):Prop:=match o with
 |some (.cells cs)=>if ag=true then off+n≤cs.length∧K (.agg (((cs.drop off).take n).map D.view1)) else lodC cs[off]? K
 |_=>False
def Zl (ty:Option (Bool×Nat)) (a:D) (H:AH) (K:D→Prop):Prop:=match ty,a with
 |some (ag,n),.ptr b off=>UX ag n off (qu H b) K
 |some (true,n),.eptr cs=>n≤cs.length∧K (.agg (cs.take n))
 |some (false,_),.eptr (c::_)=>fact c→K c
 |_,_=>False
theorem v_load {a:Operand}:qO P ρ H (.load t a) K=Zl (wb P t) (ρ a) H K:=by
 simp only [qO,Zl]
 cases wb P t with
 |none=>rfl
 | some z=>
  obtain ⟨ag,n⟩:=z
  cases ρ a<;>cases ag<;>first
   |rfl
   |(simp only [UX,lodC];rfl)
   |(rename_i cs;cases cs<;>rfl)
theorem ld_p {ag:Bool} {n b off:Nat}:Zl (some (ag,n)) (.ptr b off) H K=UX ag n off (qu H b) K:= .trans rfl rfl
theorem ld_a {n off:Nat} {cs:List D}:UX true n off (some (.cells cs)) K=(off+n≤cs.length∧K (.agg (((cs.drop off).take n).map D.view1))):= .trans rfl rfl
theorem ld_o {n off:Nat} {cs:List D}:UX false n off (some (.cells cs)) K=lodC cs[off]? K:= .trans rfl rfl
theorem ld_c {c:D}:lodC (some c) K=(fact c.view1→K c.view1):= .trans rfl rfl
theorem ld_ea {n:Nat} {cs:List D}:Zl (some (true,n)) (.eptr cs) H K=(n≤cs.length∧K (.agg (cs.take n))):= .trans rfl rfl
theorem ld_eo {n:Nat} {c:D} {cs:List D}:Zl (some (false,n)) (.eptr (c::cs)) H K=(fact c→K c):= .trans rfl rfl
def Vs (P:Program) (op:BinOp) (t:TypeId) (a b:D) (K:D→Prop):Prop:=match a,b with
  | .bool a,.bool b=>yt P t=true∧y6 op (.bool a) (.bool b) K
  | .agg xs,.agg ys=>match Ui P t with
   | some l=>fits l xs∧fits l ys∧sameK xs ys∧(match op with
    | .eql=>K (.bool (eqCells xs ys))
    | .neq=>K (.bool (!eqCells xs ys))
    |_=>False)
   |none=>False
  |a,b=>y6 op a b K
theorem v_bin {op:BinOp} {u:TypeId}:qO P ρ H (.binOp op t x y u) K=Vs P op t (ρ x) (ρ y) K:= .trans rfl rfl
theorem bo_i {op:BinOp} {ka kb:IntKind} {a b:Int}:Vs P op t (.int ka a) (.int kb b) K=y6 op (.int ka a) (.int kb b) K:= .trans rfl rfl
theorem bo_s {op:BinOp} {a b:List UInt8}:Vs P op t (.str a) (.str b) K=y6 op (.str a) (.str b) K:= .trans rfl rfl
theorem bo_b {op:BinOp} {a b:Bool}:Vs P op t (.bool a) (.bool b) K=(yt P t=true∧y6 op (.bool a) (.bool b) K):= .trans rfl rfl
def bagD (o:Option (List CT)) (op:BinOp) (xs ys:List D) (K:D→Prop):Prop:=match o with
 | some l=>fits l xs∧fits l ys∧sameK xs ys∧(match op with
    | .eql=>K (.bool (eqCells xs ys))
    | .neq=>K (.bool (!eqCells xs ys))
    |_=>False)
 |none=>False
theorem bo_a {op:BinOp} {xs ys:List D}:Vs P op t (.agg xs) (.agg ys) K=bagD (Ui P t) op xs ys K:=by
 unfold bagD
 simp only [Vs]
theorem ba_e {l:List CT} {xs ys:List D}:bagD (some l) .eql xs ys K=(fits l xs∧fits l ys∧sameK xs ys∧K (.bool (eqCells xs ys))):= .trans rfl rfl
theorem ba_n {l:List CT} {xs ys:List D}:bagD (some l) .neq xs ys K=(fits l xs∧fits l ys∧sameK xs ys∧K (.bool (!eqCells xs ys))):= .trans rfl rfl
theorem bi_shl {ka kb:IntKind} {a b:Int}:y6 .shl (.int ka a) (.int kb b) K=(0≤b∧K (.int ka (ka.wrap (a*2 ^ (min b.toNat ka.bits))))):= .trans rfl rfl
theorem bi_shr {ka kb:IntKind} {a b:Int}:y6 .shr (.int ka a) (.int kb b) K=(0≤b∧K (.int ka (a.fdiv (2 ^ (min b.toNat ka.bits))))):= .trans rfl rfl
theorem bi_add {ka kb:IntKind} {a b:Int}:y6 .add (.int ka a) (.int kb b) K=(ka=kb∧K (.int ka (ka.wrap (a+b)))):= .trans rfl rfl
theorem bi_sub {ka kb:IntKind} {a b:Int}:y6 .sub (.int ka a) (.int kb b) K=(ka=kb∧K (.int ka (ka.wrap (a - b)))):= .trans rfl rfl
theorem bi_mul {ka kb:IntKind} {a b:Int}:y6 .mul (.int ka a) (.int kb b) K=(ka=kb∧K (.int ka (ka.wrap (a*b)))):= .trans rfl rfl
theorem bi_quo {ka kb:IntKind} {a b:Int}:y6 .quo (.int ka a) (.int kb b) K=(ka=kb∧b≠0∧K (.int ka (ka.wrap (a.tdiv b)))):= .trans rfl rfl
theorem bi_rem {ka kb:IntKind} {a b:Int}:y6 .rem (.int ka a) (.int kb b) K=(ka=kb∧b≠0∧K (.int ka (a.tmod b))):= .trans rfl rfl
theorem bi_and {ka kb:IntKind} {a b:Int}:y6 .and (.int ka a) (.int kb b) K=(ka=kb∧K (.int ka (bits .and ka a b))):= .trans rfl rfl
theorem bi_or {ka kb:IntKind} {a b:Int}:y6 .or (.int ka a) (.int kb b) K=(ka=kb∧K (.int ka (bits .or ka a b))):= .trans rfl rfl
theorem bi_xor {ka kb:IntKind} {a b:Int}:y6 .xor (.int ka a) (.int kb b) K=(ka=kb∧K (.int ka (bits .xor ka a b))):= .trans rfl rfl
theorem VT {ka kb:IntKind} {a b:Int}:y6 .andNot (.int ka a) (.int kb b) K=(ka=kb∧K (.int ka (bits .andNot ka a b))):= .trans rfl rfl
theorem bi_eql {ka kb:IntKind} {a b:Int}:y6 .eql (.int ka a) (.int kb b) K=(ka=kb∧K (.bool (decide (a=b)))):= .trans rfl rfl
theorem bi_neq {ka kb:IntKind} {a b:Int}:y6 .neq (.int ka a) (.int kb b) K=(ka=kb∧K (.bool (!decide (a=b)))):= .trans rfl rfl
theorem bi_lss {ka kb:IntKind} {a b:Int}:y6 .lss (.int ka a) (.int kb b) K=(ka=kb∧K (.bool (decide (a<b)))):= .trans rfl rfl
theorem bi_leq {ka kb:IntKind} {a b:Int}:y6 .leq (.int ka a) (.int kb b) K=(ka=kb∧K (.bool (decide (a≤b)))):= .trans rfl rfl
theorem bi_gtr {ka kb:IntKind} {a b:Int}:y6 .gtr (.int ka a) (.int kb b) K=(ka=kb∧K (.bool (decide (b<a)))):= .trans rfl rfl
theorem bi_geq {ka kb:IntKind} {a b:Int}:y6 .geq (.int ka a) (.int kb b) K=(ka=kb∧K (.bool (decide (b≤a)))):= .trans rfl rfl
theorem bt_add {a b:List UInt8}:y6 .add (.str a) (.str b) K=(a.length+b.length≤big∧K (.str (a++b))):= .trans rfl rfl
theorem bt_eql {a b:List UInt8}:y6 .eql (.str a) (.str b) K=(K (.bool (decide (a=b)))):= .trans rfl rfl
theorem bt_neq {a b:List UInt8}:y6 .neq (.str a) (.str b) K=(K (.bool (!decide (a=b)))):= .trans rfl rfl
theorem bt_lss {a b:List UInt8}:y6 .lss (.str a) (.str b) K=(K (.bool (Op.bytesLess a b))):= .trans rfl rfl
theorem bt_leq {a b:List UInt8}:y6 .leq (.str a) (.str b) K=(K (.bool (Op.bytesLess a b||decide (a=b)))):= .trans rfl rfl
theorem bt_gtr {a b:List UInt8}:y6 .gtr (.str a) (.str b) K=(K (.bool (!(Op.bytesLess a b||decide (a=b))))):= .trans rfl rfl
theorem bt_geq {a b:List UInt8}:y6 .geq (.str a) (.str b) K=(K (.bool (!Op.bytesLess a b))):= .trans rfl rfl
theorem bb_eql {a b:Bool}:y6 .eql (.bool a) (.bool b) K=K (.bool (a==b)):= .trans rfl rfl
theorem bb_neq {a b:Bool}:y6 .neq (.bool a) (.bool b) K=K (.bool (!(a==b))):= .trans rfl rfl
def unD (op:UnOp) (x:D) (K:D→Prop):Prop:=match op,x with
  | .not,.bool b=>K (.bool (!b))
  | .neg,.int kd n=>K (.int kd (kd.wrap (0 - n)))
  | .xor,.int kd n=>K (.int kd (bits .xor kd (if kd.signed then -1 else kd.max) n))
  |_,_=>False
theorem v_un {u:UnOp}:qO P ρ H (.unOp u t x) K=unD u (ρ x) K:= .trans rfl rfl
theorem un_n {b:Bool}:unD .not (.bool b) K=K (.bool (!b)):= .trans rfl rfl
theorem un_m {kd:IntKind} {n:Int}:unD .neg (.int kd n) K=K (.int kd (kd.wrap (0 - n))):= .trans rfl rfl
theorem un_x {kd:IntKind} {n:Int}:unD .xor (.int kd n) K=K (.int kd (bits .xor kd (if kd.signed then -1 else kd.max) n)):= .trans rfl rfl
def cvI (o:Option IntKind) (n:Int) (c:Prop) (K:D→Prop):Prop:=match o with
 |some kd=>c∧K (.int kd (kd.wrap n))
 |none=>False
def cvS (b:Bool) (A B:Prop):Prop:=if b=true then A else B
def cvD (P:Program) (s t:TypeId) (x:D) (K:D→Prop):Prop:=match x with
  | .int _ n=>cvI (QM P t) n (uD P s=true) K
  | .str l=>cvS (jN P t) (jN P s=true∧K (.str l)) (jN P s=true∧yc P t=true∧(fact (.str l)→K (.slc (l.map qA))))
  | .slc xs=>yc P s=true∧jN P t=true∧(∀x∈xs,zw x)∧(fact (.slc xs)→K (.str (xs.map unbyte)))
  |_=>False
theorem v_conv {s:TypeId}:qO P ρ H (.convert s t x) K=cvD P s t (ρ x) K:=by
 simp only [qO,cvD]
 cases ρ x<;>first
  |rfl
  |(simp only [cvI];cases QM P t<;>rfl)
theorem cv_i {s:TypeId} {kd:IntKind} {n:Int}:cvD P s t (.int kd n) K=cvI (QM P t) n (uD P s=true) K:= .trans rfl rfl
theorem cv_k {kd:IntKind} {n:Int} {c:Prop}:cvI (some kd) n c K=(c∧K (.int kd (kd.wrap n))):= .trans rfl rfl
theorem cv_s {s:TypeId} {l:List UInt8}:cvD P s t (.str l) K=cvS (jN P t) (jN P s=true∧K (.str l)) (jN P s=true∧yc P t=true∧(fact (.str l)→K (.slc (l.map qA)))):= .trans rfl rfl
theorem cv_st {A B:Prop}:cvS true A B=A:= .trans rfl rfl
theorem cv_sf {A B:Prop}:cvS false A B=B:= .trans rfl rfl
theorem cv_b {s:TypeId} {xs:List (List D)}:cvD P s t (.slc xs) K=(yc P s=true∧jN P t=true∧(∀x∈xs,zw x)∧(fact (.slc xs)→K (.str (xs.map unbyte)))):= .trans rfl rfl
def mfD (f:FuncId) (a c:List D) (K:D→Prop):Prop:=match a with
 | []=>Uo c=false∧K (.fn f c)
 |a=>c= []∧K (.fn f (.tup []::a))
theorem mf_n {f:FuncId} {c:List D} {K:D→Prop}:mfD f [] c K=(Uo c=false∧K (.fn f c)):= .trans rfl rfl
theorem mf_b {f:FuncId} {x:D} {a c:List D} {K:D→Prop}:mfD f (x::a) c K=(c= []∧K (.fn f (.tup []::x::a))):= .trans rfl rfl
theorem ib_n:Uo []=false:= .trans rfl rfl
theorem ib_p {b off:Nat} {r:List D}:Uo (.ptr b off::r)=false:= .trans rfl rfl
theorem ca_n {a:List D}:wx a []=a++ []:= .trans rfl rfl
theorem ca_p {a r:List D} {b off:Nat}:wx a (.ptr b off::r)=a++ .ptr b off::r:= .trans rfl rfl
theorem ca_t {a r:List D}:wx a (.tup []::r)=r++a:= .trans rfl rfl
theorem v_mf {f:FuncId} {a c:Array Operand}:qO P ρ H (.makeFunc (.func f) a c) K=mfD f (a.toList.map ρ) (c.toList.map ρ) K:=by
 obtain ⟨a⟩:=a
 obtain ⟨c⟩:=c
 cases a with
 |nil=>rfl
 | cons x l=>
  simp only [qO,mfD,List.map_cons,Array.mk.injEq,List.map_eq_nil_iff]
def mslD (P:Program) (o:Option (List D)) (e:TypeId) (a b:D) (K:D→Prop):Prop:=match o,a,b with
 |some z,.int _ n,.int _ m=>n=m∧0≤n∧(match P.info? e with|some i=>(i.bytes:Int)*n≤140737488355328∧n≤140737488355328|none=>False)∧K (.own (List.replicate n.toNat (z.map D.view1)))
 |_,_,_=>False
def msoD (P:Program) (o:Option (TypeId×Nat)) (a b:D) (K:D→Prop):Prop:=match o with
 |some (e,sz)=>mslD P (yK P e) e a b K
 |none=>False
theorem v_ms {a b:Operand}:qO P ρ H (.makeSlice t a b) K=msoD P (kY P t) (ρ a) (ρ b) K:=by
 simp only [qO,msoD,mslD]
 cases kY P t with
 |none=>rfl
 |some z=>rfl
theorem ms_o {e:TypeId} {sz:Nat} {a b:D}:msoD P (some (e,sz)) a b K=mslD P (yK P e) e a b K:= .trans rfl rfl
theorem ms_i {e:TypeId} {z:List D} {ka kb:IntKind} {n m:Int}:mslD P (some z) e (.int ka n) (.int kb m) K=(n=m∧0≤n∧(match P.info? e with|some i=>(i.bytes:Int)*n≤140737488355328∧n≤140737488355328|none=>False)∧K (.own (List.replicate n.toNat (z.map D.view1)))):= .trans rfl rfl
def cutS (o:Option (TypeId×Nat)) (xs:List (List D)) (lo hi:Option D) (K:D→Prop):Prop:=match o with
 |some (_,sz)=>(∀x∈xs,x.length=sz)∧oQ xs.length lo hi fun l h=>K (.slc ((xs.take h).drop l))
 |none=>False
def YX (s:List UInt8) (lo hi:Option D) (K:D→Prop):Prop:=oQ s.length lo hi fun l h=>K (.str ((s.take h).drop l))
def Gb (xs:List (List D)) (lo hi:Option D) (K:D→Prop):Prop:=oQ xs.length lo hi fun l h=>K (.slc ((xs.take h).drop l))
def Z8 (o:Option (TypeId×Nat)) (b n:Nat) (lo hi:Option D) (K:D→Prop):Prop:=match o with
 |some (_,sz)=>oQ n lo hi fun l h=>l<h∧K (match lo with|none=>.hsl b h|some _=>.hso b (l*sz) (h - l))
 |none=>False
def UG (P:Program) (t:TypeId) (x:D) (lo hi:Option D) (K:D→Prop):Prop:=match x with
 | .hsl b n=>Z8 (kY P t) b n lo hi K
 | .slc xs=>cutS (kY P t) xs lo hi K
 | .str s=>jN P t=true∧YX s lo hi K
 |_=>False
theorem v_sl {lo hi:Option Operand}:qO P ρ H (.slice t x lo hi none) K=UG P t (ρ x) (lo.map ρ) (hi.map ρ) K:=by
 simp only [qO,UG,cutS,YX,Z8]
 cases ρ x<;>first|rfl|(cases lo<;>rfl)
theorem sl_s {xs:List (List D)} {lo hi:Option D}:UG P t (.slc xs) lo hi K=cutS (kY P t) xs lo hi K:= .trans rfl rfl
theorem sl_h {b n:Nat} {lo hi:Option D}:UG P t (.hsl b n) lo hi K=Z8 (kY P t) b n lo hi K:= .trans rfl rfl
theorem ch_ln {e:TypeId} {sz b n:Nat} {kd:IntKind} {l:Int}:Z8 (some (e,sz)) b n (some (.int kd l)) none K=(0≤l∧l≤(n:Int)∧l.toNat<n∧K (.hso b (l.toNat*sz) (n - l.toNat))):= .trans rfl rfl
theorem ch_nh {e:TypeId} {sz b n:Nat} {kd:IntKind} {h:Int}:Z8 (some (e,sz)) b n none (some (.int kd h)) K=(0≤h∧h≤(n:Int)∧0<h.toNat∧K (.hsl b h.toNat)):= .trans rfl rfl
theorem sl_b {s:List UInt8} {lo hi:Option D}:UG P t (.str s) lo hi K=(jN P t=true∧YX s lo hi K):= .trans rfl rfl
theorem sl_o {e:TypeId} {sz:Nat} {xs:List (List D)} {lo hi:Option D}:cutS (some (e,sz)) xs lo hi K=((∀x∈xs,x.length=sz)∧Gb xs lo hi K):= .trans rfl rfl
theorem cb_nn {s:List UInt8}:YX s none none K=K (.str ((s.take s.length).drop 0)):= .trans rfl rfl
theorem cb_ln {s:List UInt8} {kd:IntKind} {l:Int}:YX s (some (.int kd l)) none K=(0≤l∧l≤(s.length:Int)∧K (.str ((s.take s.length).drop l.toNat))):= .trans rfl rfl
theorem cb_nh {s:List UInt8} {kd:IntKind} {h:Int}:YX s none (some (.int kd h)) K=(0≤h∧h≤(s.length:Int)∧K (.str ((s.take h.toNat).drop 0))):= .trans rfl rfl
theorem cb_lh {s:List UInt8} {ka kb:IntKind} {l h:Int}:YX s (some (.int ka l)) (some (.int kb h)) K=(0≤l∧l≤h∧h≤(s.length:Int)∧K (.str ((s.take h.toNat).drop l.toNat))):= .trans rfl rfl
theorem cx_nn {s:List (List D)}:Gb s none none K=K (.slc ((s.take s.length).drop 0)):= .trans rfl rfl
theorem cx_ln {s:List (List D)} {kd:IntKind} {l:Int}:Gb s (some (.int kd l)) none K=(0≤l∧l≤(s.length:Int)∧K (.slc ((s.take s.length).drop l.toNat))):= .trans rfl rfl
theorem cx_nh {s:List (List D)} {kd:IntKind} {h:Int}:Gb s none (some (.int kd h)) K=(0≤h∧h≤(s.length:Int)∧K (.slc ((s.take h.toNat).drop 0))):= .trans rfl rfl
theorem cx_lh {s:List (List D)} {ka kb:IntKind} {l h:Int}:Gb s (some (.int ka l)) (some (.int kb h)) K=(0≤l∧l≤h∧h≤(s.length:Int)∧K (.slc ((s.take h.toNat).drop l.toNat))):= .trans rfl rfl
def sl3D (P:Program) (t:TypeId) (x:D) (lo:Option D) (h m:D) (K:D→Prop):Prop:=match lo,h,m with
  |none,.int _ h,.int _ m=>h=0∧m=0∧(kY P t).isSome=true∧(∃xs,x= .slc xs)∧K (.own [])
  |some (.int _ l),.int _ h,.int _ m=>l=0∧h=0∧m=0∧(kY P t).isSome=true∧(∃xs,x= .slc xs)∧K (.own [])
  |_,_,_=>False
theorem v_sl3 {lo:Option Operand} {h m:Operand}:qO P ρ H (.slice t x lo (some h) (some m)) K=sl3D P t (ρ x) (lo.map ρ) (ρ h) (ρ m) K:= .trans rfl rfl
theorem s3_n {xs:List (List D)} {ka kb:IntKind} {h m:Int}:sl3D P t (.slc xs) none (.int ka h) (.int kb m) K=(h=0∧m=0∧(kY P t).isSome=true∧(∃ys,D.slc xs= .slc ys)∧K (.own [])):= .trans rfl rfl
theorem s3_l {xs:List (List D)} {ka kb kc:IntKind} {l h m:Int}:sl3D P t (.slc xs) (some (.int kc l)) (.int ka h) (.int kb m) K=(l=0∧h=0∧m=0∧(kY P t).isSome=true∧(∃ys,D.slc xs= .slc ys)∧K (.own [])):= .trans rfl rfl
def faD (o:Option (Nat×Bool×Nat)) (x:D) (K:D→Prop):Prop:=match o,x with
  |some (off,_,_),.ptr b o=>K (.ptr b (o+off))
  |some (off,_,_),.eptr cs=>off≤cs.length∧K (.eptr (cs.drop off))
  |_,_=>False
theorem v_fa {f:Nat}:qO P ρ H (.fieldAddr t x f) K=faD (jY P t f) (ρ x) K:= .trans rfl rfl
theorem fa_p {off n b o:Nat} {ag:Bool}:faD (some (off,ag,n)) (.ptr b o) K=K (.ptr b (o+off)):= .trans rfl rfl
theorem fa_e {off n:Nat} {ag:Bool} {cs:List D}:faD (some (off,ag,n)) (.eptr cs) K=(off≤cs.length∧K (.eptr (cs.drop off))):= .trans rfl rfl
def fiC (o:Option D) (K:D→Prop):Prop:=match o with
 |some c=>fact c→K c
 |none=>False
def fiD (o:Option (Nat×Bool×Nat)) (x:D) (K:D→Prop):Prop:=match o,x with
  |some (off,true,n),.agg cs=>off+n≤cs.length∧K (.agg ((cs.drop off).take n))
  |some (off,false,_),.agg cs=>fiC cs[off]? K
  |_,_=>False
theorem v_f {f:Nat}:qO P ρ H (.field t x f) K=fiD (jY P t f) (ρ x) K:=by
 simp only [qO,fiD,fiC]
 cases jY P t f with
 |none=>rfl
 | some z=>
  obtain ⟨off,ag,n⟩:=z
  cases ρ x<;>cases ag<;>rfl
theorem fi_a {off n:Nat} {cs:List D}:fiD (some (off,true,n)) (.agg cs) K=(off+n≤cs.length∧K (.agg ((cs.drop off).take n))):= .trans rfl rfl
theorem fi_o {off n:Nat} {cs:List D}:fiD (some (off,false,n)) (.agg cs) K=fiC cs[off]? K:= .trans rfl rfl
theorem fi_c {c:D}:fiC (some c) K=(fact c→K c):= .trans rfl rfl
def iaS (o:Option (TypeId×Nat)) (xs:List (List D)) (n:Int) (K:D→Prop):Prop:=match o with
 |some (_,sz)=>0≤n∧n<(xs.length:Int)∧(xs.getD n.toNat []).length=sz∧K (.eptr (xs.getD n.toNat []))
 |none=>False
def iaP (o:Option (Nat×Nat)) (b off:Nat) (n:Int) (K:D→Prop):Prop:=match o with
 |some (m,sz)=>0≤n∧n<(m:Int)∧K (.ptr b (off+n.toNat*sz))
 |none=>False
def iaE (o:Option (Nat×Nat)) (cs:List D) (n:Int) (K:D→Prop):Prop:=match o with
 |some (m,sz)=>0≤n∧n<(m:Int)∧n.toNat*sz≤cs.length∧K (.eptr (cs.drop (n.toNat*sz)))
 |none=>False
def iaH (o:Option (TypeId×Nat)) (b m:Nat) (n:Int) (K:D→Prop):Prop:=match o with
  |some (_,sz)=>0≤n∧n<(m:Int)∧K (.ptr b (n.toNat*sz))
  |none=>False
def iaO (o:Option (TypeId×Nat)) (b off m:Nat) (n:Int) (K:D→Prop):Prop:=match o with
  |some (_,sz)=>0≤n∧n<(m:Int)∧K (.ptr b (off+n.toNat*sz))
  |none=>False
def iaD (P:Program) (t:TypeId) (x i:D) (K:D→Prop):Prop:=match x,i with
  | .slc xs,.int _ n=>iaS (kY P t) xs n K
  | .hsl b m,.int _ n=>iaH (kY P t) b m n K
  | .ptr b off,.int _ n=>iaP (Ko P t) b off n K
  | .eptr cs,.int _ n=>iaE (Ko P t) cs n K
  | .hso b off m,.int _ n=>iaO (kY P t) b off m n K
  | .osl _ _ xs,.int _ n=>iaS (kY P t) xs n K
  | .hgs b m _,.int _ n=>iaH (kY P t) b m n K
  |_,_=>False
theorem v_ia:qO P ρ H (.indexAddr t x y) K=iaD P t (ρ x) (ρ y) K:=by
 simp only [qO,iaD,iaS,iaP,iaE,iaH,iaO]
 cases ρ x<;>first|rfl|(cases ρ y<;>rfl)
theorem ia_s {xs:List (List D)} {kd:IntKind} {n:Int}:iaD P t (.slc xs) (.int kd n) K=iaS (kY P t) xs n K:= .trans rfl rfl
theorem ia_q {b off m:Nat} {kd:IntKind} {n:Int}:iaD P t (.hso b off m) (.int kd n) K=iaO (kY P t) b off m n K:= .trans rfl rfl
theorem ia_qo {e:TypeId} {sz b off m:Nat} {n:Int}:iaO (some (e,sz)) b off m n K=(0≤n∧n<(m:Int)∧K (.ptr b (off+n.toNat*sz))):= .trans rfl rfl
theorem ia_p {b off:Nat} {kd:IntKind} {n:Int}:iaD P t (.ptr b off) (.int kd n) K=iaP (Ko P t) b off n K:= .trans rfl rfl
theorem ia_e {cs:List D} {kd:IntKind} {n:Int}:iaD P t (.eptr cs) (.int kd n) K=iaE (Ko P t) cs n K:= .trans rfl rfl
theorem ia_so {e:TypeId} {sz:Nat} {xs:List (List D)} {n:Int}:iaS (some (e,sz)) xs n K=(0≤n∧n<(xs.length:Int)∧(xs.getD n.toNat []).length=sz∧K (.eptr (xs.getD n.toNat []))):= .trans rfl rfl
theorem ia_po {m sz b off:Nat} {n:Int}:iaP (some (m,sz)) b off n K=(0≤n∧n<(m:Int)∧K (.ptr b (off+n.toNat*sz))):= .trans rfl rfl
theorem ia_eo {m sz:Nat} {cs:List D} {n:Int}:iaE (some (m,sz)) cs n K=(0≤n∧n<(m:Int)∧n.toNat*sz≤cs.length∧K (.eptr (cs.drop (n.toNat*sz)))):= .trans rfl rfl
def ixD (P:Program) (t:TypeId) (x i:D) (K:D→Prop):Prop:=match x,i with
  | .str s,.int _ n=>jN P t=true∧0≤n∧n<(s.length:Int)∧K (.int .u8 (s.getD n.toNat 0).toNat)
  |_,_=>False
theorem v_ix:qO P ρ H (.index t x y) K=ixD P t (ρ x) (ρ y) K:= .trans rfl rfl
theorem ix_s {s:List UInt8} {kd:IntKind} {n:Int}:ixD P t (.str s) (.int kd n) K=(jN P t=true∧0≤n∧n<(s.length:Int)∧K (.int .u8 (s.getD n.toNat 0).toNat)):= .trans rfl rfl
def ncD (x:D) (K:D→Prop):Prop:=match x with
  | .ptr b o=>K (.ptr b o)
  | .eptr cs=>K (.eptr cs)
  | .fn f cs=>K (.fn f cs)
  |_=>False
theorem v_nc:qO P ρ H (.nilCheck x) K=ncD (ρ x) K:= .trans rfl rfl
theorem nc_p {b o:Nat}:ncD (.ptr b o) K=K (.ptr b o):= .trans rfl rfl
theorem nc_e {cs:List D}:ncD (.eptr cs) K=K (.eptr cs):= .trans rfl rfl
theorem nc_f {f:FuncId} {cs:List D}:ncD (.fn f cs) K=K (.fn f cs):= .trans rfl rfl
def YQ (P:Program) (t:TypeId) (x:D) (K:D→Prop):Prop:=match x with
 | .slc xs=>(kY P t).isSome=true∧(fact (.slc xs)→K (.int .i64 xs.length))
 | .hsl b n=>(kY P t).isSome=true∧K (.int .i64 n)
 | .hso b off n=>(kY P t).isSome=true∧K (.int .i64 n)
 | .hgs b n _=>(kY P t).isSome=true∧K (.int .i64 n)
 | .str s=>jN P t=true∧(fact (.str s)→K (.int .i64 s.length))
 |_=>False
theorem v_len:qO P ρ H (.call ⟨.builtin .len,#[x],#[t]⟩) K=YQ P t (ρ x) K:=by
 simp only [qO,YQ,List.map_cons,List.map_nil]
 cases ρ x<;>rfl
theorem le_s {xs:List (List D)}:YQ P t (.slc xs) K=((kY P t).isSome=true∧(fact (.slc xs)→K (.int .i64 xs.length))):= .trans rfl rfl
theorem le_q {b off n:Nat}:YQ P t (.hso b off n) K=((kY P t).isSome=true∧K (.int .i64 n)):= .trans rfl rfl
theorem le_b {s:List UInt8}:YQ P t (.str s) K=(jN P t=true∧(fact (.str s)→K (.int .i64 s.length))):= .trans rfl rfl
def mxD (mx:Bool) (a b:D) (K:D→Prop):Prop:=match a,b with
 | .int kd a,.int kb b=>kd=kb∧K (.int kd (if mx=true then (if b>a then b else a) else (if b<a then b else a)))
 |_,_=>False
theorem v_max {ts:Array TypeId}:qO P ρ H (.call ⟨.builtin .max,#[x,y],ts⟩) K=mxD true (ρ x) (ρ y) K:=by
 simp only [qO,mxD,List.map_cons,List.map_nil]
 cases ρ x<;>first|rfl|(cases ρ y<;>rfl)
theorem v_min {ts:Array TypeId}:qO P ρ H (.call ⟨.builtin .min,#[x,y],ts⟩) K=mxD false (ρ x) (ρ y) K:=by
 simp only [qO,mxD,List.map_cons,List.map_nil]
 cases ρ x<;>first|rfl|(cases ρ y<;>rfl)
theorem mx_t {ka kb:IntKind} {a b:Int}:mxD true (.int ka a) (.int kb b) K=(ka=kb∧K (.int ka (if b>a then b else a))):= .trans rfl rfl
theorem mx_f {ka kb:IntKind} {a b:Int}:mxD false (.int ka a) (.int kb b) K=(ka=kb∧K (.int ka (if b<a then b else a))):= .trans rfl rfl
end
section
variable {H:AH} {n:Nat} {x1 x2 x3 x4 x5 x6:Nat×AO}
theorem Ut (h:H.length=n):back n (x1::x2::H)=H:=by
 rw [yV (by simp;omega),kW h]
theorem UP (h:H.length=n):back n (x1::x2::x3::H)=H:=by
 rw [yV (by simp;omega),Ut h]
theorem Zj (h:H.length=n):back n (x1::x2::x3::x4::H)=H:=by
 rw [yV (by simp;omega),UP h]
theorem Za (h:H.length=n):back n (x1::x2::x3::x4::x5::H)=H:=by
 rw [yV (by simp;omega),Zj h]
theorem Gl (h:H.length=n):back n (x1::x2::x3::x4::x5::x6::H)=H:=by
 rw [yV (by simp;omega),Za h]
end
def Fr (n:Nat) (ks:List (Nat×D)) (F:List D):Prop:=F.length=n∧go ks F
 where go:List (Nat×D)→List D→Prop
 | [],_=>True
 |(i,d)::r,F=>F[i]?=some d∧go r F
def frm (ks:List (Nat×D)) (z:Nat→D) (i:Nat):D:=match ks with
 | []=>z i
 |(j,d)::r=>if j=i then d else frm r z i
theorem Fr.at:∀{ks:List (Nat×D)} {F:List D},Fr.go ks F→∀i,i<F.length→F[i]?=some (frm ks (fun i=>F.getD i .any) i)
 | [],F,_,i,hi=>by simp [frm,List.getD_eq_getElem?_getD,List.getElem?_eq_getElem hi]
 | (j,d)::r,F,h,i,hi=>by
  unfold frm
  split
  ·rename_i e;subst e;exact h.1
  ·exact Fr.at h.2 i hi
theorem Fr.lit {n:Nat} {ks:List (Nat×D)} {F:List D} (h:Fr n ks F):∃z:Nat→D,F=(List.range n).map (frm ks z):=by
 obtain ⟨rfl,h⟩:=h
 refine ⟨fun i=>F.getD i .any,List.ext_getElem? fun i=>?_⟩
 rcases Nat.lt_or_ge i F.length with hi|hi
 ·rw [Fr.at h i hi]
  simp [hi]
 ·simp [hi]
theorem XW.loopK {P:Program} (hm:P.follows .mixedOrders=true) {x:XC} {F:List D} {H:AH} {Q:AQ} (I:List D→AH→Prop) (μ:List D→AH→Nat) (h0:I F H)
  (round:∀F H,I F H→∀K:AQ,(∀F' H',I F' (back H.length H')→μ F' (back H.length H')<μ F H→K .normal F' H')→(∀i F' H',Q (.exit i) F' H'→K (.exit i) F' H')→(∀F' H',Q .ret F' H'→K .ret F' H')→xcode P x F H K):XW P x F H Q:=
 XW.loop hm I μ h0 fun F H hI=>round F H hI (Yj I μ F H Q) (fun _ _ a b=>⟨a,b⟩) (fun _ _ _ h=>h) (fun _ _ h=>h)
theorem XW.loopKR {P:Program} (hm:P.follows .mixedOrders=true) {x:XC} {F:List D} {H:AH} {Q:AQ} (I:List D→AH→Prop) (μ:List D→AH→Nat) (h0:I F H)
  (round:∀F H,I F H→∀K:AQ,(∀F' H' H'',Sbn H'' H'→I F' H''→μ F' H''<μ F H→K .normal F' H')→(∀i F' H',Q (.exit i) F' H'→K (.exit i) F' H')→(∀F' H',Q .ret F' H'→K .ret F' H')→xcode P x F H K):XW P x F H Q:=
 XW.loopR hm I μ h0 fun F H hI=>round F H hI (Zi I μ F H Q) (fun _ _ H'' a b c=>⟨H'',a,b,c⟩) (fun _ _ _ h=>h) (fun _ _ h=>h)
def Uy (H:AH) (R:D→AH→Prop):D→Prop:=fun d=>∃H',Sbn H' H∧R d H'
theorem ji {H:AH} {R:D→AH→Prop} {d:D}:Uy H R d=∃H',Sbn H' H∧R d H':= .trans rfl rfl
theorem kN {P:Program} {F:List D} {H:AH} {rs:List ResultVar} {R:D→AH→Prop}:JB P rs R .normal F H=ot P rs F H (Uy H R):= .trans rfl rfl
theorem j8 {P:Program} {F:List D} {H:AH} {rs:List ResultVar} {R:D→AH→Prop}:JB P rs R .ret F H=ot P rs F H (Uy H R):= .trans rfl rfl
theorem wI {n:Int}:vk .i64 n=(-9223372036854775808≤n∧n≤9223372036854775807):=by
 simp [vk,Lit.wf,IntKind.min,IntKind.max,IntKind.signed,IntKind.bits]
theorem qJ {n:Int} (h: -9223372036854775808≤n) (h':n≤9223372036854775807):IntKind.i64.wrap n=n:=by
 rw [Go.IntWalk.i64_left,Go.IntWalk.wrap64_in _ ⟨h,h'⟩]
theorem qp {i:Nat} (h:i≤big):IntKind.i64.wrap ((i:Int)+1)=((i+1:Nat):Int):=by
 have:=qt
 rw [qJ (by omega) (by omega)]
 omega
section
variable {P:Program} {F:List D} {H:AH} {k:HK} {r:List XO} {dst:Option Tmp} {tk ta:Bool} {t u:TypeId} {K:D→Prop}
theorem w_hsl {b n:Nat}:(D.hsl b n).view= .hsl b n:= .trans rfl rfl
theorem w1_hsl {b n:Nat}:(D.hsl b n).view1= .hsl b n:= .trans rfl rfl
theorem f_hsl {b n:Nat}:fact (.hsl b n)=True:= .trans rfl rfl
theorem ia_h {b m:Nat} {kd:IntKind} {n:Int}:iaD P t (.hsl b m) (.int kd n) K=iaH (kY P t) b m n K:= .trans rfl rfl
theorem ia_os {b c:Nat} {xs:List (List D)} {kd:IntKind} {n:Int}:iaD P t (.osl b c xs) (.int kd n) K=iaS (kY P t) xs n K:= .trans rfl rfl
theorem ia_ho {e:TypeId} {sz b m:Nat} {n:Int}:iaH (some (e,sz)) b m n K=(0≤n∧n<(m:Int)∧K (.ptr b (n.toNat*sz))):= .trans rfl rfl
theorem le_h {b n:Nat}:YQ P t (.hsl b n) K=((kY P t).isSome=true∧K (.int .i64 n)):= .trans rfl rfl
theorem ia_g {b m c:Nat} {kd:IntKind} {n:Int}:iaD P t (.hgs b m c) (.int kd n) K=iaH (kY P t) b m n K:= .trans rfl rfl
theorem le_g {b n c:Nat}:YQ P t (.hgs b n c) K=((kY P t).isSome=true∧K (.int .i64 n)):= .trans rfl rfl
def mkh2 (P:Program) (z:Option (List D)) (e:TypeId) (a b:D) (dst:Option Tmp) (r:List XO) (F:List D) (H:AH) (k:HK):Prop:=match z,a,b with
 |some z,.int _ n,.int _ m=>n=m∧0≤n∧(match P.info? e with|some i=>(i.bytes:Int)*n≤140737488355328∧n≤140737488355328|none=>False)∧∀b,qD H b→xops P false r (qG F dst (.hsl b n.toNat)) ((b,.cells (List.replicate n.toNat z).flatten)::H) k
 |_,_,_=>False
def mkhD (P:Program) (o:Option (TypeId×Nat)) (a b:D) (dst:Option Tmp) (r:List XO) (F:List D) (H:AH) (k:HK):Prop:=match o with
 |some (e,_)=>mkh2 P (yK P e) e a b dst r F H k
 |none=>False
theorem x_mkh {l c:Operand}:xops P false (⟨.call ⟨.builtin .append,#[l,c],#[t]⟩,dst,none,tk,ta⟩::r) F H k=mkhD P (kY P t) (rv F l) (rv F c) dst r F H k:=by
 have h0:xops P false (⟨.call ⟨.builtin .append,#[l,c],#[t]⟩,dst,none,tk,ta⟩::r) F H k=(false=false∧mkH P t l c dst F H fun F' H'=>xops P false r F' H' k):= .trans rfl rfl
 rw [h0]
 unfold mkH mkhD
 cases kY P t with
 |none=>simp
 | some z=>
  obtain ⟨e,sz⟩:=z
  simp only [true_and]
  unfold mkh2
  cases yK P e<;>first|rfl|(cases rv F l<;>first|rfl|(cases rv F c<;>rfl))
theorem mkh_o {e:TypeId} {sz:Nat} {a b:D}:mkhD P (some (e,sz)) a b dst r F H k=mkh2 P (yK P e) e a b dst r F H k:= .trans rfl rfl
theorem mkh_i {e:TypeId} {z:List D} {ka kb:IntKind} {n m:Int}:mkh2 P (some z) e (.int ka n) (.int kb m) dst r F H k=(n=m∧0≤n∧(match P.info? e with|some i=>(i.bytes:Int)*n≤140737488355328∧n≤140737488355328|none=>False)∧∀b,qD H b→xops P false r (qG F dst (.hsl b n.toNat)) ((b,.cells (List.replicate n.toNat z).flatten)::H) k):= .trans rfl rfl
def apgY (P:Program) (c:Option AO) (b n cap sz bs:Nat) (y:D) (d:Nat) (r:List XO) (F:List D) (H:AH) (k:HK):Prop:=match y,c with
 | .slc ys,some (.cells cs)=>(∀y∈ys,y.length=sz)∧cs.length=cap*sz∧(n+ys.length)*bs≤140737488355328∧(cs.take (n*sz)).all plain=true∧
   ∀b' cap' m,qD (qW H b) b'→n*sz+ys.length*sz+m=cap'*sz→xops P false r (F.set d (.hgs b' (n+ys.length) cap')) ((b',.cells (cs.take (n*sz)++(ys.flatten++List.replicate m .any)))::qW H b) k
 |_,_=>False
def aphD (P:Program) (a:D) (o:Option (TypeId×Nat×Nat)) (y:D) (s d:Nat) (r:List XO) (F:List D) (H:AH) (k:HK):Prop:=match a,o with
 | .own [],some (_,sz,bs)=>match y with
  | .slc ys=>(∀y∈ys,y.length=sz)∧ys.length*bs≤140737488355328∧(ys= []→xops P false r ((F.set s (.slc [])).set d (.own [])) H k)∧
    (ys≠ []→∀b cap m,qD H b→ys.length*sz+m=cap*sz→xops P false r ((F.set s (.slc [])).set d (.hgs b ys.length cap)) ((b,.cells (ys.flatten++List.replicate m .any))::H) k)
  |_=>False
 | .hgs b n cap,some (_,sz,bs)=>apgY P (qu H b) b n cap sz bs y d r F H k
 |_,_=>False
theorem x_aph {s d:Nat} {y:Operand} {v:TypeId}:xops P false (⟨.call ⟨.builtin .append,#[.tmp s,y],#[t,u,v]⟩,some d,none,tk,ta⟩::r) F H k=aphD P (F.getD s .any) (Ke P t u) (rv F y) s d r F H k:=by
 have h0:xops P false (⟨.call ⟨.builtin .append,#[.tmp s,y],#[t,u,v]⟩,some d,none,tk,ta⟩::r) F H k=(false=false∧apH P t u (.tmp s) y (some d) F H fun F' H'=>xops P false r F' H' k):= .trans rfl rfl
 rw [h0]
 unfold apH aphD
 simp only [true_and,ev]
 generalize F.getD s D.any=e
 generalize Ke P t u=q
 cases e<;>rfl
theorem aph_s {e:TypeId} {sz bs s d:Nat} {ys:List (List D)}:aphD P (.own []) (some (e,sz,bs)) (.slc ys) s d r F H k=((∀y∈ys,y.length=sz)∧ys.length*bs≤140737488355328∧(ys= []→xops P false r ((F.set s (.slc [])).set d (.own [])) H k)∧
    (ys≠ []→∀b cap m,qD H b→ys.length*sz+m=cap*sz→xops P false r ((F.set s (.slc [])).set d (.hgs b ys.length cap)) ((b,.cells (ys.flatten++List.replicate m .any))::H) k)):= .trans rfl rfl
theorem aph_g {e:TypeId} {sz bs b n cap s d:Nat} {y:D}:aphD P (.hgs b n cap) (some (e,sz,bs)) y s d r F H k=apgY P (qu H b) b n cap sz bs y d r F H k:= .trans rfl rfl
theorem apg_y {sz bs b n cap d:Nat} {ys:List (List D)} {cs:List D}:apgY P (some (.cells cs)) b n cap sz bs (.slc ys) d r F H k=((∀y∈ys,y.length=sz)∧cs.length=cap*sz∧(n+ys.length)*bs≤140737488355328∧(cs.take (n*sz)).all plain=true∧
   ∀b' cap' m,qD (qW H b) b'→n*sz+ys.length*sz+m=cap'*sz→xops P false r (F.set d (.hgs b' (n+ys.length) cap')) ((b',.cells (cs.take (n*sz)++(ys.flatten++List.replicate m .any)))::qW H b) k):= .trans rfl rfl
theorem w_hgs {b n c:Nat}:(D.hgs b n c).view= .hgs b n c:= .trans rfl rfl
theorem w1_hgs {b n c:Nat}:(D.hgs b n c).view1= .hgs b n c:= .trans rfl rfl
theorem f_hgs {b n c:Nat}:fact (.hgs b n c)=True:= .trans rfl rfl
theorem dl_g {b n c:Nat}:YM (.hgs b n c) H=qW H b:= .trans rfl rfl
theorem ZI {x y:Operand} {v v':TypeId}:xops P false (⟨.call ⟨.builtin .append,#[x,y],#[t,u,v,v']⟩,dst,none,tk,ta⟩::r) F H k=Gz F H fun F' H'=>xops P false (⟨.call ⟨.builtin .append,#[x,y],#[t,u]⟩,dst,none,false,false⟩::r) F' H' k:=by
 have h0:xops P false (⟨.call ⟨.builtin .append,#[x,y],#[t,u,v,v']⟩,dst,none,tk,ta⟩::r) F H k=(false=false∧Gz F H fun F' H'=>xops P false (⟨.call ⟨.builtin .append,#[x,y],#[t,u]⟩,dst,none,false,false⟩::r) F' H' k):= .trans rfl rfl
 rw [h0]
 simp only [true_and]
theorem vK {b:Nat} {o:AO}:qW ((b,o)::H) b=H:=by simp [qW]
theorem jK {b c:Nat} {o:AO} (h:b≠c):qW ((c,o)::H) b=(c,o)::qW H b:=by simp [qW,h]
theorem jV {x:XC} {Q:AQ} {F':List D} {H':AH} (hz:Fz F H F' H') (h:xcode P x F' H' Q):xcode P (.gh x) F H Q:=Gz.of_fz hz h
theorem zA {x:XC} {Q:AQ}:xcode P (.gh x) F H Q=Gz F H fun F' H'=>xcode P x F' H' Q:= .trans rfl rfl
end
section
variable {P:Program} {F:List D} {H H0:AH} {k:HK} {Q:AQ} {A:ub} {r:List (List XO×XO×Bool)} {last tail l:List XO} {x:XO} {S S':List Nat} {t s d:Nat} {tk ta fl:Bool} {K:ub→List Nat→HK} {g:Option (Option (Tmp×Bool))} {dst:Option Tmp}
def Zf (P:Program) (A:ub) (tail:List XO) (H:AH) (k:HK):HK:=fun F' _=>QN P A tail F' H k
def segK (P:Program) (x:XO) (fl:Bool) (r:List (List XO×XO×Bool)) (last tail:List XO) (H0:AH) (S:List Nat) (A:ub) (H:AH) (k:HK):HK:=fun F' _=>xtk P x fl H0 S A F' H fun A' S' F'' H''=>xsegs P r last tail H0 S' A' F'' H'' k
def segJ (P:Program) (r:List (List XO×XO×Bool)) (last tail:List XO) (H0:AH) (k:HK):ub→List Nat→HK:=fun A' S' F'' H''=>xsegs P r last tail H0 S' A' F'' H'' k
theorem c_regT {qs:List Nat} {segs:List (List XO×XO×Bool)}:xcode P (.regT qs segs last tail) F H Q=xsegs P segs last tail (K7 F qs H) [] [] F H (Q .normal):= .trans rfl rfl
theorem c_regW {q:Nat} {segs:List (List XO×XO×Bool)}:xcode P (.regW q segs last tail) F H Q=xsegs P segs last tail (wkH (F.getD q .any) H) [] [] F H (Q .normal):= .trans rfl rfl
theorem wk_p {b off:Nat}:wkH (.ptr b off) H=wkB b (qu H b) H:= .trans rfl rfl
theorem wk_b {b:Nat} {cs:List D}:wkB b (some (.cells cs)) H=qF H b (.cells (cs.map D.view1)):= .trans rfl rfl
theorem wk_c {cs:List D}:wkO (.cells cs)= .cells (cs.map D.view1):= .trans rfl rfl
theorem c_regV:xcode P (.regV l tail) F H Q=xops P true l F H (Zf P [] tail H (Q .normal)):= .trans rfl rfl
theorem dl_n:K7 F [] H=H:= .trans rfl rfl
theorem dl_c {q:Nat} {qs:List Nat}:K7 F (q::qs) H=K7 F qs (YM (F.getD q .any) H):= .trans rfl rfl
theorem dl_b {b off:Nat}:YM (.ptr b off) H=qW H b:= .trans rfl rfl
theorem dl_h {b n:Nat}:YM (.hsl b n) H=qW H b:= .trans rfl rfl
theorem dl_o {b o n:Nat}:YM (.hso b o n) H=qW H b:= .trans rfl rfl
def lvC (b:Bool) (q:Bool×List D) (o:Option (Bool×List D)):Option (Bool×List D):=match b with
 |true=>some q
 |false=>o
def svC (b:Bool) (d:Nat) (q x:Bool×List D) (r r':ub):ub:=match b with
 |true=>(d,x)::r
 |false=>(d,q)::r'
def naC (d:Nat) (o:Option (Bool×List D)):Option (Nat×Bool×List D):=match o with
 |some (f,z)=>some (d,f,z)
 |none=>none
theorem lv_n:lookv [] d=none:= .trans rfl rfl
theorem lv_c {e:Nat} {q:Bool×List D} {A:ub}:lookv ((e,q)::A) d=lvC (d==e) q (lookv A d):=by
 unfold lvC
 show (if d=e then some q else lookv A d)=_
 by_cases h:d=e
 ·subst h;simp
 ·rw [if_neg h,show (d==e)=false by simpa using h]
theorem lv_t {q:Bool×List D} {o:Option (Bool×List D)}:lvC true q o=some q:= .trans rfl rfl
theorem lv_f {q:Bool×List D} {o:Option (Bool×List D)}:lvC false q o=o:= .trans rfl rfl
theorem sv_c {e:Nat} {q x:Bool×List D} {A:ub}:setv ((e,q)::A) d x=svC (d==e) e q x A (setv A d x):=by
 unfold svC
 show (if d=e then (e,x)::A else (e,q)::setv A d x)=_
 by_cases h:d=e
 ·subst h;simp
 ·rw [if_neg h,show (d==e)=false by simpa using h]
theorem sv_t {e:Nat} {q x:Bool×List D} {A A':ub}:svC true e q x A A'=(e,x)::A:= .trans rfl rfl
theorem sv_f {e:Nat} {q x:Bool×List D} {A A':ub}:svC false e q x A A'=(e,q)::A':= .trans rfl rfl
theorem na_t:YO A (.tmp d)=naC d (lookv A d):=by
 show (lookv A d).map (fun q=>(d,q))=naC d (lookv A d)
 cases lookv A d<;>rfl
theorem na_c {v:Value}:YO A (.const v)=none:= .trans rfl rfl
theorem na_n:naC d none=none:= .trans rfl rfl
theorem na_s {f:Bool} {z:List D}:naC d (some (f,z))=some (d,f,z):= .trans rfl rfl
theorem en_n:QN P [] tail F H k=xops P false tail F H k:= .trans rfl rfl
theorem en_s {f:Bool} {z:List D}:QN P ((d,f,z)::A) tail F H k=∀b,qD H b→QN P A tail (F.set d (.ptr b 0)) ((b,.cells z)::H) k:= .trans rfl rfl
theorem sg_n:xsegs P [] last tail H0 S A F H k=xops P true last F H0 (Zf P A tail H k):= .trans rfl rfl
theorem sg_c:xsegs P ((l,x,fl)::r) last tail H0 S A F H k=xops P true l F H0 (segK P x fl r last tail H0 S A H k):= .trans rfl rfl
theorem k_tail {F':List D} {H':AH}:Zf P A tail H k F' H'=QN P A tail F' H k:= .trans rfl rfl
theorem k_seg {F':List D} {H':AH}:segK P x fl r last tail H0 S A H k F' H'=xtk P x fl H0 S A F' H (segJ P r last tail H0 k):= .trans rfl rfl
theorem k_segj {F':List D} {H':AH}:segJ P r last tail H0 k A S' F' H'=xsegs P r last tail H0 S' A F' H' k:= .trans rfl rfl
def tkC (c:Option D) (cs:List D) (b off d:Nat) (fl:Bool) (H0:AH) (S:List Nat) (F:List D) (H:AH) (K:List Nat→HK):Prop:=match c with
 |some (.own xs)=>(qu H0 b=none∨qu H0 b=some (wkO (.cells cs)))∧(fl=true∨b ∉ S)∧K (b::S) (F.set d (.own xs)) (qF H b (.cells (cs.set off (.slc xs))))
 |_=>False
def tkH (o:Option AO) (b off d:Nat) (fl:Bool) (H0:AH) (S:List Nat) (F:List D) (H:AH) (K:List Nat→HK):Prop:=match o with
 |some (.cells cs)=>tkC cs[off]? cs b off d fl H0 S F H K
 |_=>False
def tkT (ty:Option (Bool×Nat)) (a:D) (d:Nat) (fl:Bool) (H0:AH) (S:List Nat) (F:List D) (H:AH) (K:List Nat→HK):Prop:=match ty,a with
 |some (false,_),.ptr b off=>tkH (qu H b) b off d fl H0 S F H K
 |_,_=>False
theorem tk_l:xtk P ⟨.load t (.tmp s),some d,none,tk,true⟩ fl H0 S A F H K=tkT (wb P t) (rv F (.tmp s)) d fl H0 S F H (K A):=by
 unfold xtk tkT tkH tkC
 simp only [true_and]
 rfl
theorem tk_d {K1:List Nat→HK} {n b off:Nat}:tkT (some (false,n)) (.ptr b off) d fl H0 S F H K1=tkH (qu H b) b off d fl H0 S F H K1:= .trans rfl rfl
theorem tk_h {K1:List Nat→HK} {b off:Nat} {cs:List D}:tkH (some (.cells cs)) b off d fl H0 S F H K1=tkC cs[off]? cs b off d fl H0 S F H K1:= .trans rfl rfl
theorem tk_c {K1:List Nat→HK} {b off:Nat} {cs:List D} {xs:List (List D)}:tkC (some (.own xs)) cs b off d fl H0 S F H K1=((qu H0 b=none∨qu H0 b=some (wkO (.cells cs)))∧(fl=true∨b ∉ S)∧K1 (b::S) (F.set d (.own xs)) (qF H b (.cells (cs.set off (.slc xs))))):= .trans rfl rfl
def tsH (ag:Bool) (n off:Nat) (o:Option AO) (b:Nat) (y:Operand) (dst:Option Tmp) (fl:Bool) (H0:AH) (S:List Nat) (F:List D) (H:AH) (K1:List Nat→HK):Prop:=match o with
 | some (.cells cs)=>if ag=true then okc (rv F y)=true∧(cellsOf (rv F y)).length=n∧off+n≤cs.length∧qu H0 b=none∧(fl=true∨b ∉ S)∧K1 (b::S) (qG F dst (.tup [])) (qF H b (.cells (cs.take off++(cellsOf (rv F y)++cs.drop (off+n)))))
  else n=1∧off<cs.length∧one1 (ev F y)=true∧dst=none∧qu H0 b=none∧(fl=true∨b ∉ S)∧(match y with
    | .tmp s=>K1 (b::S) (F.set s (rv F y)) (qF H b (.cells (cs.set off (ev F y))))
    |_=>K1 (b::S) F (qF H b (.cells (cs.set off (ev F y)))))
 |_=>False
def tsT (ty:Option (Bool×Nat)) (a:D) (y:Operand) (dst:Option Tmp) (fl:Bool) (H0:AH) (S:List Nat) (F:List D) (H:AH) (K1:List Nat→HK):Prop:=match ty,a with
 |some (ag,n),.ptr b off=>tsH ag n off (qu H b) b y dst fl H0 S F H K1
 |_,_=>False
def tsP (ty:Option (Bool×Nat)) (d:Nat) (z:List D) (y:Operand) (dst:Option Tmp) (S:List Nat) (A:ub) (F:List D) (H:AH) (K:ub→List Nat→HK):Prop:=match ty with
 |some (true,n)=>okc (rv F y)=true∧(cellsOf (rv F y)).length=n∧n≤z.length∧K (setv A d (true,cellsOf (rv F y)++z.drop n)) S (qG F dst (.tup [])) H
 |_=>False
def tsN (o:Option (Nat×Bool×List D)) (ty:Option (Bool×Nat)) (a:D) (y:Operand) (dst:Option Tmp) (fl:Bool) (H0:AH) (S:List Nat) (A:ub) (F:List D) (H:AH) (K:ub→List Nat→HK):Prop:=match o with
 |some (d,f,z)=>f=false∧tsP ty d z y dst S A F H K
 |none=>tsT ty a y dst fl H0 S F H (K A)
theorem tk_s {a y:Operand}:xtk P ⟨.store t a y,dst,g,tk,ta⟩ fl H0 S A F H K=tsN (YO A a) (wb P t) (rv F a) y dst fl H0 S A F H K:=by
 unfold xtk tsN tsP tsT tsH
 dsimp only
 generalize YO A a=e0
 generalize wb P t=e
 cases e0 with
 |some q=>rfl
 |none=>
 cases e with
 |none=>rfl
 | some q=>
  obtain ⟨ag,n⟩:=q
  generalize rv F a=e2
  cases e2<;>cases ag<;>try rfl
  all_goals
   rename_i b off
   dsimp only
   generalize qu H b=e3
   cases e3 with
   |none=>rfl
   |some e4=>cases e4<;>simp
theorem ts_n {ty:Option (Bool×Nat)} {p:D} {y:Operand}:tsN none ty p y dst fl H0 S A F H K=tsT ty p y dst fl H0 S F H (K A):= .trans rfl rfl
theorem ts_p {ty:Option (Bool×Nat)} {p:D} {y:Operand} {f:Bool} {z:List D}:tsN (some (d,f,z)) ty p y dst fl H0 S A F H K=(f=false∧tsP ty d z y dst S A F H K):= .trans rfl rfl
theorem ts_q {n:Nat} {y:Operand} {z:List D}:tsP (some (true,n)) d z y dst S A F H K=(okc (rv F y)=true∧(cellsOf (rv F y)).length=n∧n≤z.length∧K (setv A d (true,cellsOf (rv F y)++z.drop n)) S (qG F dst (.tup [])) H):= .trans rfl rfl
theorem ts_d {K1:List Nat→HK} {ag:Bool} {n b off:Nat} {y:Operand}:tsT (some (ag,n)) (.ptr b off) y dst fl H0 S F H K1=tsH ag n off (qu H b) b y dst fl H0 S F H K1:= .trans rfl rfl
theorem ts_a {K1:List Nat→HK} {n b off:Nat} {y:Operand} {cs:List D}:tsH true n off (some (.cells cs)) b y dst fl H0 S F H K1=(okc (rv F y)=true∧(cellsOf (rv F y)).length=n∧off+n≤cs.length∧qu H0 b=none∧(fl=true∨b ∉ S)∧K1 (b::S) (qG F dst (.tup [])) (qF H b (.cells (cs.take off++(cellsOf (rv F y)++cs.drop (off+n)))))):= .trans rfl rfl
theorem ts_t {K1:List Nat→HK} {n b off s:Nat} {cs:List D}:tsH false n off (some (.cells cs)) b (.tmp s) dst fl H0 S F H K1=(n=1∧off<cs.length∧one1 (F.getD s .any)=true∧dst=none∧qu H0 b=none∧(fl=true∨b ∉ S)∧K1 (b::S) (F.set s (rv F (.tmp s))) (qF H b (.cells (cs.set off (F.getD s .any))))):= .trans rfl rfl
theorem ts_c {K1:List Nat→HK} {n b off:Nat} {cs:List D} {v:Value}:tsH false n off (some (.cells cs)) b (.const v) dst fl H0 S F H K1=(n=1∧off<cs.length∧one1 (jj v)=true∧dst=none∧qu H0 b=none∧(fl=true∨b ∉ S)∧K1 (b::S) F (qF H b (.cells (cs.set off (jj v))))):= .trans rfl rfl
def taC (d:Nat) (o:Option (List D)) (S:List Nat) (A:ub) (F:List D) (H:AH) (K:ub→List Nat→HK):Prop:=match o with
 |some z=>d<F.length∧lookv A d=none∧K ((d,false,z)::A) S (F.set d .any) H
 |none=>False
theorem tk_a:xtk P ⟨.alloc t,some d,g,tk,ta⟩ fl H0 S A F H K=taC d (yK P t) S A F H K:=by
 unfold xtk taC
 dsimp only
 cases yK P t<;>rfl
theorem ta_c {z:List D}:taC d (some z) S A F H K=(d<F.length∧lookv A d=none∧K ((d,false,z)::A) S (F.set d .any) H):= .trans rfl rfl
def segB (S:List Nat) (F:List D) (dst:Option Tmp) (H:AH) (K:List Nat→HK):D→Prop:=fun d=>K S (qG F dst d) H
theorem k_segb {K:List Nat→HK} {e:D}:segB S F dst H K e=K S (qG F dst e) H:= .trans rfl rfl
def Uz (P:Program) (g:FuncId) (args:List D) (fl:Bool) (H0:AH) (S:List Nat) (H:AH) (K:List Nat→D→AH→Prop):Prop:=
 ∃d b ob ob',qu H0 b=none∧(fl=true∨b ∉ S)∧qu H b=some ob∧(∀H,qu H b=some ob→ACall P g args H (fun d' H'=>d'=d∧H'=qF H b ob'))∧K (b::S) d (qF H b ob')
def putT (F:List D) (dst:Option Tmp) (K:List Nat→HK):List Nat→D→AH→Prop:=fun S' d H'=>fact d.view→K S' (qG F dst d) H'
def tkV (P:Program) (f:D) (args:List D) (fl:Bool) (H0:AH) (S:List Nat) (H:AH) (K:List Nat→D→AH→Prop):Prop:=match f with
 | .fn g caps=>Uz P g (wx args caps) fl H0 S H K
 |_=>False
theorem tk_v {f:Operand} {args:Array Operand} {tys:Array TypeId}:xtk P ⟨.call ⟨.value f,args,tys⟩,dst,g,tk,ta⟩ fl H0 S A F H K=tkV P (rv F f) (args.toList.map (rv F)) fl H0 S H (putT F dst (K A)):=by
 unfold xtk tkV
 dsimp only
 generalize rv F f=e
 cases e<;>rfl
theorem tk_f {g:FuncId} {caps args:List D} {J:List Nat→D→AH→Prop}:tkV P (.fn g caps) args fl H0 S H J=Uz P g (wx args caps) fl H0 S H J:= .trans rfl rfl
theorem k_putT {K:List Nat→HK} {e:D} {H':AH}:putT F dst K S' e H'=(fact e.view→K S' (qG F dst e) H'):= .trans rfl rfl
end
theorem c_scope {P:Program} {F:List D} {H:AH} {Q:AQ} {x:XC}:xcode P (.scope x) F H Q=xcode P x F H (Q3 Q):= .trans rfl rfl
theorem G2 {F:List D} {H:AH} {Q:AQ}:Q3 Q .normal F H=Q .normal F H:= .trans rfl rfl
theorem ZY {F:List D} {H:AH} {Q:AQ}:Q3 Q .ret F H=Q .ret F H:= .trans rfl rfl
theorem ZA {F:List D} {H:AH} {Q:AQ} {i:Nat}:Q3 Q (.exit i) F H=Q (.exit i) F H:= .trans rfl rfl
theorem jf:∀{H:AH} {b:Nat},qD H b→qu H b=none
 | [],_,_=>rfl
 | (c,o)::r,b,h=>by
  unfold qu
  rw [if_neg h.1]
  exact jf h.2
section
variable {P:Program} {F:List D} {H:AH} {k:HK} {r:List XO} {dst:Option Tmp} {t:TypeId} {K:D→Prop}
def zbD (P:Program) (t:TypeId) (o:Option (List D)) (l:List (Nat×D)) (K:D→Prop):Prop:=match o with
 |some z=>kq P t=true∧(∀p∈l,okc p.2=true)∧zP P t (l.map fun p=>(p.1,cellsOf p.2)) (z.map Q7) K
 |none=>False
def zbT (P:Program) (tys:List TypeId) (args:List D) (K:D→Prop):Prop:=match tys with
 |t::is=>zbD P t (yK P t) (is.zip args) K
 | []=>False
theorem x_zb {args:Array Operand} {tys:Array TypeId} {tk ta:Bool}:xops P false (⟨.call ⟨.builtin .complex,args,tys⟩,dst,none,tk,ta⟩::r) F H k=zbT P tys.toList (args.toList.map (rv F)) (yb P false r F dst H k):=by
 unfold zbT
 simp only [xops,xop,kE]
 cases h:tys.toList with
 |nil=>simp only [yL,qO]
 | cons t is=>
  simp only [Gf,h,true_and,Bool.and_false]
  unfold zbH zbD
  cases yK P t with
  |none=>rfl
  | some z=>
   have:(is.zip args.toList).map (fun p=>(p.1,rv F p.2))=is.zip (args.toList.map (rv F)):=by
    rw [List.zip_map_right]
    rfl
   simp only [this]
   rfl
theorem zb_c {is:List TypeId} {args:List D}:zbT P (t::is) args K=zbD P t (yK P t) (is.zip args) K:= .trans rfl rfl
theorem zb_s {z:List D} {l:List (Nat×D)}:zbD P t (some z) l K=(kq P t=true∧(l.all fun p=>okc p.2)=true∧zP P t (l.map fun p=>(p.1,cellsOf p.2)) (z.map Q7) K):=by
 rw [List.all_eq_true]
 rfl
theorem oz_own:Q7 (.own [])= .osl 0 0 []:= .trans rfl rfl
theorem oz_int {kd:IntKind} {n:Int}:Q7 (.int kd n)= .int kd n:= .trans rfl rfl
theorem oz_str {l:List UInt8}:Q7 (.str l)= .str l:= .trans rfl rfl
theorem oz_bool {b:Bool}:Q7 (.bool b)= .bool b:= .trans rfl rfl
theorem oz_nilp:Q7 .nilp= .nilp:= .trans rfl rfl
theorem oz_mp {x:Option Nat}:Q7 (.mp x)= .mp x:= .trans rfl rfl
theorem w_osl {b c:Nat} {xs:List (List D)}:(D.osl b c xs).view= .osl b c xs:= .trans rfl rfl
theorem w1_osl {b c:Nat} {xs:List (List D)}:(D.osl b c xs).view1= .osl b c xs:= .trans rfl rfl
theorem f_osl {b c:Nat} {xs:List (List D)}:fact (.osl b c xs)=True:= .trans rfl rfl
end
def YXZ:=PLift.up (And.intro (And.intro (And.intro @x_zb @zb_c) (And.intro @zb_s @oz_own)) (And.intro (And.intro (And.intro @oz_int @oz_str) (And.intro @oz_bool @oz_nilp)) (And.intro (And.intro @oz_mp @w_osl) (And.intro @w1_osl @f_osl))))
theorem XZ:type_of% YXZ.down:=YXZ.down
def bsD (P:Program) (o:Option (TypeId×Nat)) (args:List D) (d:Nat) (r:List XO) (F:List D) (H:AH) (k:HK):Prop:=match o with
 | some (e,sz)=>args≠ []∧d<F.length∧(args.all fun x=>okc x&&(cellsOf x).length==sz)=true∧args.length*sz≤16777216∧(yK P e).isSome=true∧
  ∀b cap,qD H b→xops P false r (F.set d (.osl b cap (args.map cellsOf))) ((b,.room cap (args.map cellsOf))::H) k
 |none=>False
theorem x_bs {P:Program} {F:List D} {H:AH} {k:HK} {r:List XO} {d:Nat} {t:TypeId} {args:Array Operand} {tk ta:Bool}:xops P false (⟨.call ⟨.builtin .real,args,#[t]⟩,some d,none,tk,ta⟩::r) F H k=bsD P (kY P t) (args.toList.map (rv F)) d r F H k:=by
 have h0:xops P false (⟨.call ⟨.builtin .real,args,#[t]⟩,some d,none,tk,ta⟩::r) F H k=(false=false∧bsR P t args.toList (some d) F H fun F' H'=>xops P false r F' H' k):= .trans rfl rfl
 rw [h0]
 unfold bsR bsD
 cases kY P t with
 |none=>simp
 | some q=>
  simp only [true_and,ne_eq,List.map_eq_nil_iff,List.length_map,List.map_map,List.all_map,List.all_eq_true,Function.comp_def,Bool.and_eq_true,beq_iff_eq]
theorem bsr_s {P:Program} {F:List D} {H:AH} {k:HK} {r:List XO} {d:Nat} {e:TypeId} {sz:Nat} {args:List D}:bsD P (some (e,sz)) args d r F H k=(args≠ []∧d<F.length∧(args.all fun x=>okc x&&(cellsOf x).length==sz)=true∧args.length*sz≤16777216∧(yK P e).isSome=true∧
  ∀b cap,qD H b→xops P false r (F.set d (.osl b cap (args.map cellsOf))) ((b,.room cap (args.map cellsOf))::H) k):= .trans rfl rfl
theorem c_rgf {P:Program} {F:List D} {H:AH} {Q:AQ} {g:Operand} {p t:Tmp} {x:XC}:xcode P (.rgf g p t x) F H Q=XRF P g p t x F H Q:= .trans rfl rfl
theorem tk_b {P:Program} {A:ub} {t:TypeId} {ps:Array (Nat×Operand)} {dst:Option Tmp} {g:Option (Option (Tmp×Bool))} {tk ta fl:Bool} {H0:AH} {S:List Nat} {F:List D} {H:AH} {K:ub→List Nat→HK}:
  xtk P ⟨.build t ps,dst,g,tk,ta⟩ fl H0 S A F H K=zbD P t (yK P t) (ps.toList.map fun p=>(p.1,rv F p.2)) (segB S F dst H (K A)):=by
 unfold xtk zbH zbD
 dsimp only
 cases yK P t with
 |none=>rfl
 |some z=>rfl
def YXRb:=PLift.up (And.intro (And.intro (And.intro @c_rgf @un_x) (And.intro @mf_n @mf_b)) (And.intro (And.intro @ib_n @ib_p) (And.intro (And.intro @ca_n @x_bs) (And.intro (And.intro @ca_p @bsr_s) (And.intro @ca_t (And.intro @tk_b @k_segb))))))
theorem XRb:type_of% YXRb.down:=YXRb.down
def YXT:=PLift.up (And.intro (And.intro (And.intro (And.intro (And.intro (And.intro @c_regT (And.intro @c_regW (And.intro @wk_p (And.intro @wk_b @wk_c)))) @c_regV) (And.intro @dl_n (And.intro @dl_c @dl_b))) (And.intro (And.intro @dl_h (And.intro @dl_o @lv_n)) (And.intro @lv_c (And.intro @lv_t @lv_f)))) (And.intro (And.intro (And.intro @sv_c (And.intro @sv_t @sv_f)) (And.intro @na_t (And.intro @na_c @na_n))) (And.intro (And.intro @na_s (And.intro @en_n @en_s)) (And.intro @sg_n (And.intro @sg_c @k_tail))))) (And.intro (And.intro (And.intro (And.intro @k_seg @k_segj) (And.intro @tk_l (And.intro @tk_d @tk_h))) (And.intro (And.intro @tk_c (And.intro @tk_v @tk_f)) (And.intro @k_putT (And.intro @tk_s @ts_n)))) (And.intro (And.intro (And.intro @ts_p (And.intro @ts_q @ts_d)) (And.intro @ts_a (And.intro @ts_t @ts_c))) (And.intro (And.intro @tk_a (And.intro @ta_c @c_scope)) (And.intro @G2 (And.intro @ZY @ZA))))))
theorem XT:type_of% YXT.down:=YXT.down
def YXN:=PLift.up (And.intro @x_mkh (And.intro (And.intro @x_aph @aph_g) (And.intro (And.intro @apg_y @w_hgs) (And.intro @w1_hgs (And.intro @f_hgs (And.intro @dl_g (And.intro @ia_g (And.intro @le_g @lt_g))))))))
theorem XN:type_of% YXN.down:=YXN.down
def YXO2:=PLift.up (And.intro (And.intro (And.intro @w_hsl @w1_hsl) (And.intro @f_hsl @ia_h)) (And.intro (And.intro @ia_ho @le_h) (And.intro @mkh_o (And.intro @mkh_i (And.intro @aph_s @vK)))))
theorem XO2:type_of% YXO2.down:=YXO2.down
section
variable {P:Program} {ρ:Operand→D} {F:List D} {H:AH} {k:HK} {r:List XO} {dst:Option Tmp} {t:TypeId} {K:D→Prop} {m tk ta wk ok ag:Bool} {x y z:Operand} {l:List CT} {d i:D} {es:List (D×D)}
def lkH (o:Option AO) (wk ag:Bool) (l:List CT) (z i:D) (ok:Bool) (K:D→Prop):Prop:=match o with
 |some (.mp es)=>kX ag l es i∧(fact (v8 ok z (kw es (cellsOf i)))→K (wkI wk (v8 ok z (kw es (cellsOf i)))))
 |_=>False
def lkD (o:Option (Bool×List CT×D)) (wk:Bool) (H:AH) (m i:D) (ok:Bool) (K:D→Prop):Prop:=match o,m with
 |some (ag,l,z),.mp none=>kX ag l [] i∧K (wkI wk (v8 ok z none))
 |some (ag,l,z),.mpv es=>kX ag l es i∧(fact (v8 ok z (kw es (cellsOf i)))→K (wkI wk (v8 ok z (kw es (cellsOf i)))))
 |some (ag,l,z),.mp (some b)=>lkH (qu H b) wk ag l z i ok K
 |_,_=>False
theorem lk_d {dm di:D}:gS P wk t H dm di ok K=lkD (VN P t) wk H dm di ok K:=by
 unfold gS lkD lkH
 rfl
theorem x_lk:xops P m (⟨.lookup t x y ok,dst,none,tk,ta⟩::r) F H k=lkD (VN P t) true H (rv F x) (rv F y) ok (yb P m r F dst H k):=by
 rw [←lk_d]
 rfl
theorem x_lkS:xops P false (⟨.call ⟨.builtin .imag,#[x,y],#[t]⟩,dst,none,tk,ta⟩::r) F H k=lkD (VN P t) false H (rv F x) (rv F y) false (yb P false r F dst H k):=by
 rw [←lk_d]
 simp only [xops,xop,kE,Gf,o0,Bool.and_false,true_and]
 rfl
theorem lk_v:lkD (some (ag,l,d)) wk H (.mpv es) i ok K=(kX ag l es i∧(fact (v8 ok d (kw es (cellsOf i)))→K (wkI wk (v8 ok d (kw es (cellsOf i)))))):= .trans rfl rfl
theorem lk_m {b:Nat}:lkD (some (ag,l,d)) wk H (.mp (some b)) i ok K=lkH (qu H b) wk ag l d i ok K:= .trans rfl rfl
theorem lk_n:lkD (some (ag,l,d)) wk H (.mp none) i ok K=(kX ag l [] i∧K (wkI wk (v8 ok d none))):= .trans rfl rfl
theorem lk_h:lkH (some (.mp es)) wk ag l d i ok K=(kX ag l es i∧(fact (v8 ok d (kw es (cellsOf i)))→K (wkI wk (v8 ok d (kw es (cellsOf i)))))):= .trans rfl rfl
theorem x_mkm:xops P m (⟨.makeMap t none,dst,none,tk,ta⟩::r) F H k=∀b,qD H b→xops P false r (qG F dst (.mp (some b))) ((b,.mp [])::H) k:=by
 simp only [xops,xop,yL,kE,mkmO,true_and,o0,Bool.not_true,Bool.false_and]
def muH (o:Option AO) (b:Nat) (ag:Bool) (l:List CT) (i v:D) (H:AH) (K:AH→Prop):Prop:=match o with
 |some (.mp es)=>kX ag l es i∧K (qF H b (.mp (uk es i v)))
 |_=>False
def muD (o:Option (Bool×List CT×D)) (H:AH) (m i v:D) (K:AH→Prop):Prop:=match o,m with
 |some (ag,l,z),.mp (some b)=>muH (qu H b) b ag l i v H K
 |_,_=>False
def putH (P:Program) (r:List XO) (F:List D) (dst:Option Tmp) (k:HK):AH→Prop:=fun H'=>xops P false r (qG F dst (.tup [])) H' k
theorem x_mup:xops P m (⟨.mapUpdate t x y z,dst,none,tk,ta⟩::r) F H k=muD (VN P t) H (rv F x) (rv F y) (rv F z) (putH P r F dst k):=by
 simp only [xops,xop,yL,kE,mupO,true_and,o0,Bool.not_true,Bool.false_and]
 rfl
theorem mu_m {b:Nat} {v:D} {K:AH→Prop}:muD (some (ag,l,d)) H (.mp (some b)) i v K=muH (qu H b) b ag l i v H K:= .trans rfl rfl
theorem mu_h {b:Nat} {v:D} {K:AH→Prop}:muH (some (.mp es)) b ag l i v H K=(kX ag l es i∧K (qF H b (.mp (uk es i v)))):= .trans rfl rfl
theorem k_puth {H':AH}:putH P r F dst k H'=xops P false r (qG F dst (.tup [])) H' k:= .trans rfl rfl
def meH (o:Option AO) (b:Nat) (ag:Bool) (l:List CT) (z i:D) (H:AH) (K:D→AH→Prop):Prop:=match o with
 |some (.mp es)=>kX ag l es i∧es.length≤140737488355328∧K (.tup [(kw es (cellsOf i)).getD z,.int .i64 ((yA es (cellsOf i)).getD es.length:Nat)]) (qF H b (.mp (uk es i ((kw es (cellsOf i)).getD z))))
 |_=>False
def meD (o:Option (Bool×List CT×D)) (H:AH) (m i:D) (K:D→AH→Prop):Prop:=match o,m with
 |some (ag,l,z),.mp (some b)=>meH (qu H b) b ag l z i H K
 |_,_=>False
def putD (P:Program) (r:List XO) (F:List D) (dst:Option Tmp) (k:HK):D→AH→Prop:=fun d H'=>xops P false r (qG F dst d) H' k
theorem x_men:xops P m (⟨.mapEntry t x y,dst,none,tk,ta⟩::r) F H k=meD (VN P t) H (rv F x) (rv F y) (putD P r F dst k):=by
 simp only [xops,xop,yL,kE,menO,true_and,o0,Bool.not_true,Bool.false_and]
 rfl
theorem me_m {b:Nat} {K:D→AH→Prop}:meD (some (ag,l,d)) H (.mp (some b)) i K=meH (qu H b) b ag l d i H K:= .trans rfl rfl
theorem me_h {b:Nat} {K:D→AH→Prop}:meH (some (.mp es)) b ag l d i H K=(kX ag l es i∧es.length≤140737488355328∧K (.tup [(kw es (cellsOf i)).getD d,.int .i64 ((yA es (cellsOf i)).getD es.length:Nat)]) (qF H b (.mp (uk es i ((kw es (cellsOf i)).getD d))))):= .trans rfl rfl
theorem k_putd {H':AH}:putD P r F dst k d H'=xops P false r (qG F dst d) H' k:= .trans rfl rfl
def mvH (o:Option AO) (b:Nat) (n:Int) (v:D) (H:AH) (K:AH→Prop):Prop:=match o with
 |some (.mp es)=>0≤n∧n<es.length∧K (qF H b (.mp (VR es n.toNat v)))
 |_=>False
def mvD (H:AH) (m s v:D) (K:AH→Prop):Prop:=match m,s with
 | .mp (some b),.int .i64 n=>mvH (qu H b) b n v H K
 |_,_=>False
theorem x_mes:xops P m (⟨.entryStore t x y z,dst,none,tk,ta⟩::r) F H k=mvD H (rv F x) (rv F y) (rv F z) (putH P r F dst k):=by
 simp only [xops,xop,yL,kE,mesO,true_and,o0,Bool.not_true,Bool.false_and]
 rfl
theorem x_mesG:xops P false (⟨.call ⟨.builtin .imag,#[x,y,z],#[t]⟩,dst,none,tk,ta⟩::r) F H k=Gz F H fun F' H'=>xops P false (⟨.entryStore t x y z,dst,none,false,false⟩::r) F' H' k:=by
 simp only [xops,xop,yL,kE,Gf,o0,Bool.and_false,true_and,Bool.not_true,Bool.false_and]
theorem mv_m {b:Nat} {n:Int} {v:D} {K:AH→Prop}:mvD H (.mp (some b)) (.int .i64 n) v K=mvH (qu H b) b n v H K:= .trans rfl rfl
theorem mv_h {b:Nat} {n:Int} {v:D} {K:AH→Prop}:mvH (some (.mp es)) b n v H K=(0≤n∧n<es.length∧K (qF H b (.mp (VR es n.toNat v)))):= .trans rfl rfl
def clH (z:Option (List D)) (o:Option AO) (b off n sz:Nat) (H:AH) (K:AH→Prop):Prop:=match z,o with
 |some z,some (.cells cs)=>z.length=sz∧off+n*sz≤cs.length∧K (qF H b (.cells (cs.take off++((List.replicate n (z.map D.view1)).flatten++cs.drop (off+n*sz)))))
 |_,_=>False
def clE (P:Program) (o:Option (TypeId×Nat)) (b off n:Nat) (H:AH) (K:AH→Prop):Prop:=match o with
 |some (e,sz)=>clH (yK P e) (qu H b) b off n sz H K
 |none=>False
def clD (P:Program) (t:TypeId) (x:D) (H:AH) (K:AH→Prop):Prop:=match x with
 | .hso b off n=>clE P (kY P t) b off n H K
 |_=>False
theorem x_clr:xops P m (⟨.call ⟨.builtin .clear,#[x],#[t]⟩,dst,none,tk,ta⟩::r) F H k=clD P t (rv F x) H (putH P r F dst k):=by
 simp only [xops,xop,yL,kE,clrO,true_and,o0,Bool.not_true,Bool.false_and,List.map_cons,List.map_nil]
 unfold clD clE clH
 cases rv F x<;>rfl
theorem cl_o {b off n:Nat} {K:AH→Prop}:clD P t (.hso b off n) H K=clE P (kY P t) b off n H K:= .trans rfl rfl
theorem cl_e {e:TypeId} {sz b off n:Nat} {K:AH→Prop}:clE P (some (e,sz)) b off n H K=clH (yK P e) (qu H b) b off n sz H K:= .trans rfl rfl
theorem cl_h {zc cs:List D} {b off n sz:Nat} {K:AH→Prop}:clH (some zc) (some (.cells cs)) b off n sz H K=(zc.length=sz∧off+n*sz≤cs.length∧K (qF H b (.cells (cs.take off++((List.replicate n (zc.map D.view1)).flatten++cs.drop (off+n*sz)))))):= .trans rfl rfl
theorem w_mpv:(D.mpv es).view= .mpv es:= .trans rfl rfl
theorem w1_mpv:(D.mpv es).view1= .mpv es:= .trans rfl rfl
theorem w_hso {b off n:Nat}:(D.hso b off n).view= .hso b off n:= .trans rfl rfl
theorem w1_hso {b off n:Nat}:(D.hso b off n).view1= .hso b off n:= .trans rfl rfl
theorem w_yld {b:Nat}:(D.yld b).view= .yld b:= .trans rfl rfl
theorem w1_yld {b:Nat}:(D.yld b).view1= .yld b:= .trans rfl rfl
theorem f_mpv:fact (.mpv es)=True:= .trans rfl rfl
theorem f_hso {b off n:Nat}:fact (.hso b off n)=True:= .trans rfl rfl
theorem f_mp {o:Option Nat}:fact (.mp o)=True:= .trans rfl rfl
theorem f_yld {b:Nat}:fact (.yld b)=True:= .trans rfl rfl
theorem ib_e {cs c:List D}:Uo (.eptr cs::c)=false:= .trans rfl rfl
theorem ib_m {c:List D}:Uo (.mpv es::c)=false:= .trans rfl rfl
theorem ca_e {a cs c:List D}:wx a (.eptr cs::c)=a++ .eptr cs::c:= .trans rfl rfl
theorem ca_m {a c:List D}:wx a (.mpv es::c)=a++ .mpv es::c:= .trans rfl rfl
theorem c_rga {Q:AQ} {g:Operand} {p:Tmp} {x y:XC}:xcode P (.rga g p x y) F H Q=XRG P g p x y F H Q:= .trans rfl rfl
theorem c_regY {Q:AQ} {pre post:List XO} {y:XO}:xcode P (.regY pre y post) F H Q=xops P false pre F H fun F' H'=>Zo P y F' H' fun F'' H''=>xops P false post F'' H'' (Q .normal):= .trans rfl rfl
theorem o_d {x:D}:v8 false d (some x)=x:= .trans rfl rfl
theorem o_z:v8 false d none=d:= .trans rfl rfl
theorem o_dt {x:D}:v8 true d (some x)= .tup [x,.bool true]:= .trans rfl rfl
theorem o_zf:v8 true d none= .tup [d,.bool false]:= .trans rfl rfl
theorem k_wt:wkI true d=d.wkT:= .trans rfl rfl
theorem k_wf:wkI false d=d:= .trans rfl rfl
theorem k_a {cs:List D}:(D.agg cs).wkT= .agg (cs.map D.wk1):= .trans rfl rfl
theorem k_b {b:Bool}:(D.bool b).wkT= .bool b:= .trans rfl rfl
theorem k_i {kd:IntKind} {n:Int}:(D.int kd n).wkT= .int kd n:= .trans rfl rfl
theorem k_s {xs:List (List D)}:(D.slc xs).wkT= .slc xs:= .trans rfl rfl
theorem k_o {b c:Nat} {xs:List (List D)}:(D.osl b c xs).wkT= .slc xs:= .trans rfl rfl
theorem k_t {ds:List D}:(D.tup ds).wkT= .tup (ds.map D.wkA):= .trans rfl rfl
theorem k_aa {cs:List D}:(D.agg cs).wkA= .agg (cs.map D.wk1):= .trans rfl rfl
theorem k_ab {b:Bool}:(D.bool b).wkA= .bool b:= .trans rfl rfl
theorem k_ao {b c:Nat} {xs:List (List D)}:(D.osl b c xs).wkA= .slc xs:= .trans rfl rfl
theorem k_as {xs:List (List D)}:(D.slc xs).wkA= .slc xs:= .trans rfl rfl
theorem k_1i {kd:IntKind} {n:Int}:(D.int kd n).wk1= .int kd n:= .trans rfl rfl
theorem k_1s {xs:List (List D)}:(D.slc xs).wk1= .slc xs:= .trans rfl rfl
theorem k_1o {b c:Nat} {xs:List (List D)}:(D.osl b c xs).wk1= .slc xs:= .trans rfl rfl
end
def YXU:=PLift.up (And.intro (And.intro (And.intro (And.intro (And.intro (And.intro @x_lk @x_lkS) (And.intro @lk_v @lk_m)) (And.intro (And.intro @lk_n @lk_h) (And.intro @x_mkm @x_mup))) (And.intro (And.intro (And.intro @mu_m @mu_h) (And.intro @k_puth @x_men)) (And.intro (And.intro @me_m @me_h) (And.intro @k_putd @x_mes)))) (And.intro (And.intro (And.intro (And.intro @mv_m @mv_h) (And.intro @x_clr @cl_o)) (And.intro (And.intro @cl_e @cl_h) (And.intro @w_mpv @w1_mpv))) (And.intro (And.intro (And.intro @w_hso @w1_hso) (And.intro @w_yld @w1_yld)) (And.intro (And.intro @f_mpv @f_hso) (And.intro @f_mp @f_yld))))) (And.intro (And.intro (And.intro (And.intro (And.intro @ib_e @ib_m) (And.intro @ca_e @ca_m)) (And.intro (And.intro @c_rga @c_regY) (And.intro @o_d @o_z))) (And.intro (And.intro (And.intro @o_dt @o_zf) (And.intro @k_wt @k_wf)) (And.intro (And.intro @k_a @k_b) (And.intro @k_i @k_s)))) (And.intro (And.intro (And.intro (And.intro @k_o @k_t) (And.intro @k_aa @k_ab)) (And.intro (And.intro @k_ao @k_as) (And.intro @k_1i @k_1s))) (And.intro (And.intro (And.intro @k_1o @sl_h) (And.intro @ch_ln @ch_nh)) (And.intro (And.intro @ia_q @ia_qo) (And.intro @le_q @x_mesG))))))
theorem XU:type_of% YXU.down:=YXU.down
def YXA:=PLift.up (And.intro (And.intro (And.intro (And.intro (And.intro (And.intro @c_skip @c_reg) (And.intro @c_regD @c_seq)) (And.intro (And.intro @c_cond @c_condT) (And.intro @c_condF @c_block))) (And.intro (And.intro (And.intro @c_exit @c_ret) (And.intro @c_loop @UK)) (And.intro (And.intro @q_seqE @q_seqR) (And.intro @Zc (And.intro @Yh @Z0))))) (And.intro (And.intro (And.intro (And.intro @q_loopN @q_loopE) (And.intro @q_loopR @q_retN)) (And.intro (And.intro @q_retR @x_nil) (And.intro @x_no @x_gd))) (And.intro (And.intro (And.intro @x_mv0 @x_mv1) (And.intro @x_mvn @x_mvc)) (And.intro (And.intro @x_mvf @x_asg) (And.intro @x_asgc (And.intro @x_asgf (And.intro @x_ext @x_extD))))))) (And.intro (And.intro (And.intro (And.intro (And.intro @x_alloc @x_box) (And.intro @x_sto @x_call)) (And.intro (And.intro @x_callD @x_app) (And.intro @x_ld0 @x_ldc))) (And.intro (And.intro (And.intro @x_ldD @x_ldT) (And.intro @x_pick @x_bld)) (And.intro (And.intro @x_bsl @x_binT) (And.intro @x_binI (And.intro @x_binB @x_binS))))) (And.intro (And.intro (And.intro (And.intro @x_binP @x_binF) (And.intro @x_binM @x_binG)) (And.intro (And.intro @x_nilc @x_un) (And.intro @x_conv (And.intro @x_mf @x_ms)))) (And.intro (And.intro (And.intro @x_sl @x_fa) (And.intro @x_f @x_ia)) (And.intro (And.intro @x_ix @x_nc) (And.intro @x_len (And.intro @x_max @x_min)))))))
theorem XA:type_of% YXA.down:=YXA.down
def YXB:=PLift.up (And.intro (And.intro (And.intro (And.intro (And.intro (And.intro (And.intro @G6 (And.intro @bsel_f @k_res)) (And.intro @o_s (And.intro @o_t @z_1))) (And.intro (And.intro @z_0 (And.intro @z_2 @i_T)) (And.intro (And.intro @i_F @i_dec) (And.intro @i_ndec @i_not)))) (And.intro (And.intro (And.intro @i_N (And.intro @g_NT @g_NF)) (And.intro (And.intro @g_TT @g_TF) (And.intro @g_FT @g_FF))) (And.intro (And.intro @g_U (And.intro @g_decT @g_decF)) (And.intro (And.intro @g_ndecT @g_ndecF) (And.intro @e_d @e_0))))) (And.intro (And.intro (And.intro (And.intro @e_1 (And.intro @al_s @st_d)) (And.intro (And.intro @st_a @st_t) (And.intro @st_c @st_f))) (And.intro (And.intro @k_call (And.intro @k_callD @k_back)) (And.intro (And.intro @k_backD @a_slc) (And.intro @a_str @lt_d)))) (And.intro (And.intro (And.intro @lt_h (And.intro @lt_c @nl_eq)) (And.intro (And.intro @nl_ne @p_put) (And.intro @p_putn @p_s))) (And.intro (And.intro @p_n (And.intro @r_tmp @v_tmp)) (And.intro (And.intro @v_const @v_func) (And.intro @r_const @r_func)))))) (And.intro (And.intro (And.intro (And.intro (And.intro @r_glob (And.intro @s_8 @t_8)) (And.intro (And.intro @w_int @w_bool) (And.intro @w_str @w_slc))) (And.intro (And.intro @jP (And.intro @w_ptr @w_eptr)) (And.intro (And.intro @w_fn @w_agg) (And.intro @w_tup @w_nilp)))) (And.intro (And.intro (And.intro @w_nilfn (And.intro @w_mp @w1_int)) (And.intro (And.intro @w1_bool @w1_str) (And.intro @w1_slc @w1_own))) (And.intro (And.intro @w1_ptr (And.intro @w1_eptr @w1_fn)) (And.intro (And.intro @w1_agg @w1_nilp) (And.intro @G9 @w1_mp))))) (And.intro (And.intro (And.intro (And.intro @n_int (And.intro @n_bool @n_str)) (And.intro (And.intro @n_nilp @n_nilfn) (And.intro @n_map @n_slc))) (And.intro (And.intro @f_int (And.intro @f_str @f_slc)) (And.intro (And.intro @f_bool @f_agg) (And.intro @f_tup @f_ptr)))) (And.intro (And.intro (And.intro @f_eptr (And.intro @f_fn @jS)) (And.intro (And.intro @uw @Jz) (And.intro @h_old @h_olds))) (And.intro (And.intro @Ji (And.intro @QY @h_frs)) (And.intro (And.intro @v_pick @pk_t) (And.intro @pk_f @v_bld))))))) (And.intro (And.intro (And.intro (And.intro (And.intro (And.intro @bl_s (And.intro @fl_n @fl_c)) (And.intro (And.intro @fl_o @v_bsl) (And.intro @bs_s @v_load))) (And.intro (And.intro @ld_p (And.intro @ld_a @ld_o)) (And.intro (And.intro @ld_c @ld_ea) (And.intro @ld_eo @v_bin)))) (And.intro (And.intro (And.intro @bo_i (And.intro @bo_s @bo_b)) (And.intro (And.intro @bo_a @ba_e) (And.intro @ba_n @bi_shl))) (And.intro (And.intro @bi_shr (And.intro @bi_add @bi_sub)) (And.intro (And.intro @bi_mul @bi_quo) (And.intro @bi_rem @bi_and))))) (And.intro (And.intro (And.intro (And.intro @bi_or (And.intro @bi_xor @VT)) (And.intro (And.intro @bi_eql @bi_neq) (And.intro @bi_lss @bi_leq))) (And.intro (And.intro @bi_gtr (And.intro @bi_geq @bt_add)) (And.intro (And.intro @bt_eql @bt_neq) (And.intro @bt_lss @bt_leq)))) (And.intro (And.intro (And.intro @bt_gtr (And.intro @bt_geq @bb_eql)) (And.intro (And.intro @bb_neq @v_un) (And.intro @un_n @un_m))) (And.intro (And.intro @v_conv (And.intro @cv_i @cv_k)) (And.intro (And.intro @cv_s @cv_st) (And.intro @cv_sf @cv_b)))))) (And.intro (And.intro (And.intro (And.intro (And.intro @v_mf (And.intro @v_ms @ms_o)) (And.intro (And.intro @ms_i @v_sl) (And.intro @sl_s @sl_b))) (And.intro (And.intro @sl_o (And.intro @cb_nn @cb_ln)) (And.intro (And.intro @cb_nh @cb_lh) (And.intro @cx_nn @cx_ln)))) (And.intro (And.intro (And.intro @cx_nh (And.intro @cx_lh @v_sl3)) (And.intro (And.intro @s3_n @s3_l) (And.intro @v_fa @fa_p))) (And.intro (And.intro @fa_e (And.intro @v_f @fi_a)) (And.intro (And.intro @fi_o @fi_c) (And.intro @v_ia @ia_s))))) (And.intro (And.intro (And.intro (And.intro @ia_p (And.intro @ia_e @ia_so)) (And.intro (And.intro @ia_po @ia_eo) (And.intro @v_ix @ix_s))) (And.intro (And.intro @v_nc (And.intro @nc_p @nc_e)) (And.intro (And.intro @nc_f @v_len) (And.intro @le_s @le_b)))) (And.intro (And.intro (And.intro @v_max (And.intro @v_min @mx_t)) (And.intro (And.intro @mx_f @KT) (And.intro @kW @Ut))) (And.intro (And.intro @UP (And.intro @Zj @Za)) (And.intro (And.intro @Gl @j7) (And.intro @QA @less_le))))))))
theorem XB:type_of% YXB.down:=YXB.down
def YXL:=PLift.up (And.intro (And.intro (And.intro (And.intro @Nat.zero_add (And.intro @Nat.add_zero @true_and)) (And.intro (And.intro @and_true @true_implies) (And.intro @decide_true @decide_false))) (And.intro (And.intro (And.intro @not_true @not_false_iff) (And.intro @not_false_eq_true @and_self)) (And.intro (And.intro @Bool.not_true @Bool.not_false) (And.intro @Nat.le_refl @Nat.lt_irrefl)))) (And.intro (And.intro (And.intro @Nat.lt_add_one (And.intro @Nat.zero_lt_succ @Int.toNat_zero)) (And.intro (And.intro @Int.toNat_natCast @Int.natCast_nonneg) (And.intro @Bool.not_not @decide_eq_true_eq))) (And.intro (And.intro (And.intro @decide_eq_false_iff_not @Bool.not_eq_true') (And.intro @Bool.not_eq_false' @Bool.and_true)) (And.intro (And.intro @Bool.true_and @false_implies) (And.intro @Int.le_refl @Int.lt_irrefl)))))
theorem XL:type_of% YXL.down:=YXL.down
theorem XM.{u}:type_of% (And.intro (And.intro @forall_const.{u} @implies_true.{u}) (And.intro @List.not_mem_nil.{u} (And.intro @beq_self_eq_true.{u} @List.forall_mem_cons.{u}))):=(And.intro (And.intro @forall_const.{u} @implies_true.{u}) (And.intro @List.not_mem_nil.{u} (And.intro @beq_self_eq_true.{u} @List.forall_mem_cons.{u})))
def YXQ:=PLift.up (And.intro (And.intro (And.intro (And.intro (And.intro @List.length_cons.{0} @List.length_nil.{0}) (And.intro @List.replicate_succ.{0} (And.intro @List.replicate_zero.{0} @List.cons_append.{0}))) (And.intro (And.intro @List.nil_append.{0} (And.intro @List.append_nil.{0} @List.set_cons_succ.{0})) (And.intro @List.set_cons_zero.{0} (And.intro @List.getD_cons_succ.{0} @List.getD_cons_zero.{0})))) (And.intro (And.intro (And.intro @List.getElem?_cons_succ.{0} @List.getElem?_cons_zero.{0}) (And.intro @List.toList_toArray.{0} (And.intro @Option.isSome_some.{0} @Option.isSome_none.{0}))) (And.intro (And.intro @List.drop_succ_cons.{0} (And.intro @List.drop_zero.{0} @List.take_succ_cons.{0})) (And.intro @List.take_zero.{0} (And.intro @List.drop_nil.{0} @List.take_nil.{0}))))) (And.intro (And.intro (And.intro (And.intro @Option.getD_some.{0} @List.all_cons.{0}) (And.intro @List.all_nil.{0} (And.intro @List.map_cons.{0,0} @List.map_nil.{0,0}))) (And.intro (And.intro @Option.map_some.{0,0} (And.intro @Option.map_none.{0,0} @List.zip_cons_cons.{0,0})) (And.intro @List.zip_nil_right.{0,0} (And.intro @List.zip_nil_left.{0,0} @List.length_map.{0,0})))) (And.intro (And.intro (And.intro @List.range_zero (And.intro @List.range_succ @Bool.or_true)) (And.intro @Bool.or_false (And.intro @Bool.true_or @Bool.false_or))) (And.intro (And.intro @true_or (And.intro @false_or @Bool.false_eq_true)) (And.intro @XB (And.intro @XO2 @XL))))))
theorem XQ:type_of% YXQ.down:=YXQ.down
def YXP:=PLift.up (And.intro (And.intro @XA @XN) (And.intro @XT (And.intro @XZ @XRb)))
theorem XP:type_of% YXP.down:=YXP.down
def YXW0:=PLift.up (And.intro (And.intro (And.intro (And.intro @cellsOf.eq_1 (And.intro @cellsOf.eq_2 @okc.eq_1)) (And.intro (And.intro @okc.eq_2 @okc.eq_3) (And.intro @okc.eq_4 @one1.eq_1))) (And.intro (And.intro (And.intro @one1.eq_2 @one1.eq_3) (And.intro @one1.eq_4 @resOne.eq_1)) (And.intro (And.intro @resOne.eq_2 @resAll.eq_1) (And.intro @resAll.eq_2 @eqCells.eq_1)))) (And.intro (And.intro (And.intro @eqCells.eq_2 (And.intro @eqCells.eq_3 @cellEq.eq_1)) (And.intro (And.intro @cellEq.eq_2 @cellEq.eq_3) (And.intro @cellEq.eq_4 @fits.eq_1))) (And.intro (And.intro (And.intro @fits.eq_2 @fits.eq_3) (And.intro @fits.eq_4 @fits.eq_5)) (And.intro (And.intro @sameK.eq_1 @sameK.eq_2) (And.intro @sameK.eq_3 @XQ)))))
theorem XW0:type_of% YXW0.down:=YXW0.down
theorem XW1.{u}:type_of% (And.intro (And.intro @XM.{u} @ne_eq.{u}) (And.intro @ite_true.{u} @ite_false.{u})):=(And.intro (And.intro @XM.{u} @ne_eq.{u}) (And.intro @ite_true.{u} @ite_false.{u}))
def zz (z:Nat→D):Nat→Nat→List D→List D
 |_,0,r=>r
 |a,n+1,r=>z a::zz z (a+1) n r
end Go.Aw
namespace Go.Xs
open Go Go.Aw
abbrev t (n:Tmp):Operand:= .tmp n
abbrev i (n:Int):Operand:= .const (.int .i64 n)
abbrev a (o:Op) (d:Tmp):XO:=⟨o,some d,none,false,false⟩
abbrev b (o:Op) (d:Tmp):XO:=⟨o,some d,none,true,false⟩
abbrev c (o:Op) (d:Tmp):XO:=⟨o,some d,none,true,true⟩
abbrev s (o:Op):XO:=⟨o,none,none,false,false⟩
abbrev g (o:Op) (d g:Tmp) (w:Bool):XO:=⟨o,some d,some (some (g,w)),false,false⟩
abbrev m (x d:Tmp):XO:=⟨.move (.tmp x),some d,none,false,false⟩
abbrev n (x d:Tmp):XO:=⟨.assign (.tmp x),some d,none,false,false⟩
abbrev l (u:TypeId) (x d:Tmp):XO:=⟨.load u (.tmp x),some d,none,false,false⟩
abbrev f (u:TypeId) (x:Tmp) (k:Nat) (d:Tmp):XO:=⟨.fieldAddr u (.tmp x) k,some d,none,false,false⟩
abbrev w (u:TypeId) (x y:Tmp):XO:=⟨.store u (.tmp x) (.tmp y),none,none,false,false⟩
abbrev j (u:TypeId) (x y d:Tmp):XO:=⟨.indexAddr u (.tmp x) (.tmp y),some d,none,false,false⟩
abbrev e (u:TypeId) (x d:Tmp):XO:=⟨.call ⟨.builtin .len,#[.tmp x],#[u]⟩,some d,none,false,false⟩
abbrev k (f:FuncId) (x:Array Operand) (y:Array TypeId):Op:= .call ⟨.value (.func f),x,y⟩
end Go.Xs
end
