/- A part of the proof of what the last text says: Aw18, Aw19, Xc, AwV, Gc1, Ka1, XcI, Ka2, Ea0, Ka3, Ka4, Ka5. Conditions: those in each theorem. -/
import Derived.Test.YtgopigkdcmhbbaaGreatDoorT3
import Derived.IntWalk
import Derived.Test.YtgopigkdcmhbbaaGreatDoorRows
import Derived.WalkKit
import Derived.ProofKit
import Derived.OpenShut
import Derived.JoinedCond
import Derived.KernelRfl
import Derived.RangeFuncWrites
import Derived.RangeFuncBound
import Derived.RangeFuncNested
import Derived.RangeFuncCalls
import Derived.RangeFuncLeaves
import Derived.Shelf.Abstract
import Derived.Shelf.RegionOpen
import Derived.WalkSpells
import Derived.OwnWalkIn
import Derived.TacticsInMore
import Derived.LoopNIn
import Derived.LoopIn
import Derived.Laws.BitsAllLaws
set_option autoImplicit true
set_option relaxedAutoImplicit true
set_option linter.unusedVariables false
set_option linter.unusedSimpArgs false
set_option maxRecDepth 100000
set_option maxHeartbeats 16000000
open List renaming getElem?_eq_getElem -> Na,getElem?_map -> Nb,getElem?_cons_zero -> Nf,mem_of_getElem? -> Ni,getElem?_append_left -> Nk,getElem?_append_right -> Nl,map_append -> Nm,take_of_length_le -> No,range_succ -> Nv,append_nil -> Nw,nil_append -> Ny,map_map -> Nz,map_congr_left -> N0
open Int renaming cast_ofNat_Int -> Nc,toNat_natCast -> Nd,natCast_nonneg -> Ng,reduceToNat -> Np,reduceLE -> Nq,reduceLT -> Nr
open Option renaming map_eq_some_iff -> Nh
open Bool renaming and_eq_true -> Nj
open Array renaming getElem?_eq_getElem -> Nu
open Nat renaming le_refl -> Nn,lt_or_ge -> Nt,reduceSub -> qa,reduceAdd -> qb,reduceMul -> qc,reduceEqDiff -> qd,reduceLeDiff -> qe,reduceBEq -> qf
section
namespace Go.Aw
open Go Go.RowKit
class NL (b:Bool):Prop where
 ok:True
instance {a b:List UInt8}:NL (Op.bytesLess a b):=⟨trivial⟩
instance {b:Bool} [NL b]:NL (!b):=⟨trivial⟩
instance {a b:Bool}:NL (a&&b):=⟨trivial⟩
instance {a b:Bool}:NL (a||b):=⟨trivial⟩
instance {a b:Bool}:NL (a==b):=⟨trivial⟩
def Vg (P:Program) (y:XC) (Q:AQ):AQ:=Jf (fun F' H'=>xcode P y F' H' Q) Q
def wC (P:Program) (m:Bool) (r:List XO) (F:List D) (dst:Option Tmp) (H:AH) (k:HK):D->Prop:=fun d=>xops P m r (qS F dst d) H k
def pD (P:Program) (r:List XO) (F:List D) (dst:Option Tmp) (k:HK):D->AH->Prop:=fun d H'=>fact d.view->xops P false r (qS F dst d) H' k
def r8 (P:Program) (r:List XO) (F:List D) (dst:Option Tmp) (H:AH) (k:HK):D->Prop:=fun d=>fact d.view->xops P true r (qS F dst d) H k
def xcall (P:Program) (f:D) (args:List D) (H:AH) (K:D->AH->Prop):Prop:=match f with
 | .fn g caps=>ACall P g (uv args caps) H K
 |_=>False
def iC (P:Program) (g:FuncId) (args:List D) (H:AH) (K:D->Prop):Prop:=∃d,(∀H1,Sub H H1->ACall P g args H1 (fun d' H'=>d'=d∧H'=H1))∧K d
def GA (P:Program) (f:D) (args:List D) (H:AH) (K:D->Prop):Prop:=match f with
 | .fn g caps=>iC P g (uv args caps) H K
 |_=>False
def xif (c:D) (P:Program) (t:Nat) (x y:XC) (F:List D) (H:AH) (Q:AQ):Prop:=match c with
 | .bool b=>(b=true->xcode P x (F.set t (.bool true)) H Q)∧(b=false->xcode P y (F.set t (.bool false)) H Q)
 |_=>False
def xgd (c:D) (P:Program) (m:Bool) (t:Nat) (want:Bool) (op:Op) (dst:Option Tmp) (tk ta:Bool) (r:List XO) (F:List D) (H:AH) (k:HK):Prop:=match c with
 | .bool b=>(b=want->xops P m (⟨op,dst,none,tk,ta⟩::r) (F.set t (.bool want)) H k)∧(b=(!want)->xops P m r (qS (F.set t (.bool (!want))) dst (.tup [])) H k)
 | .tup _=>xops P m r (qS F dst (.tup [])) H k
 |_=>False
section
variable {P:Program} {m:Bool} {F:List D} {H:AH} {Q:AQ} {k:HK} {x y:XC} {r:List XO} {dst:Option Tmp} {d s t i:Nat} {tk ta:Bool} {op:Op}
theorem xj:xcode P .skip F H Q=Q .normal F H:= .trans rfl rfl
theorem BX:xcode P (.reg l) F H Q=xops P false l F H (Q .normal):= .trans rfl rfl
theorem rr:xcode P (.regD l) F H Q=xops P true l F H (Q .normal):= .trans rfl rfl
theorem Bf:xcode P (.seq x y) F H Q=xcode P x F H (Vg P y Q):= .trans rfl rfl
theorem tS:xcode P (.cond (.tmp t) x y) F H Q=xif (F.getD t .any) P t x y F H Q:=by
 unfold xif
 simp only [xcode]
 cases F.getD t .any<;>rfl
theorem lF:xcode P (.block i x) F H Q=xcode P x F H (kU i Q):= .trans rfl rfl
theorem AJ:xcode P (.exit i) F H Q=Q (.exit i) F H:= .trans rfl rfl
theorem D5:xcode P .ret F H Q=Q .ret F H:= .trans rfl rfl
theorem rK:xcode P (.loop x) F H Q=XW P x F H Q:= .trans rfl rfl
theorem ew:Vg P y Q .normal F H=xcode P y F H Q:= .trans rfl rfl
theorem xL:Vg P y Q (.exit i) F H=Q (.exit i) F H:= .trans rfl rfl
theorem tY:Vg P y Q .ret F H=Q .ret F H:= .trans rfl rfl
theorem dR:kU i Q .normal F H=Q .normal F H:= .trans rfl rfl
def bsel (b:Bool) (A B:Prop):Prop:=if b=true then A else B
theorem fK {A B:Prop}:bsel true A B=A:= .trans rfl rfl
theorem xd {A B:Prop}:bsel false A B=B:= .trans rfl rfl
theorem Zp:kU i Q (.exit j) F H=bsel (j==i) (Q .normal F H) (Q (.exit j) F H):=by
 simp only [kU,bsel,beq_iff_eq]
 split<;>rfl
theorem eC:kU i Q .ret F H=Q .ret F H:= .trans rfl rfl
def sK (n:Nat) (H:AH) (R:D->AH->Prop):D->Prop:=fun d=>R d (back n H)
theorem CM {n:Nat} {R:D->AH->Prop} {d:D}:sK n H R d=R d (back n H):= .trans rfl rfl
theorem xg {R:D->AH->Prop}:jX P rs n R .normal F H=QC P rs F H (sK n H R):= .trans rfl rfl
theorem sn {R:D->AH->Prop}:jX P rs n R .ret F H=QC P rs F H (sK n H R):= .trans rfl rfl
def Cw (o:Option D) (k:D->Prop):Prop:=match o with
 |some d=>k d
 |none=>False
theorem o_s {d:D} {k:D->Prop}:Cw (some d) k=k d:= .trans rfl rfl
def xv (o:Option (List D)) (k:D->Prop):Prop:=match o with
 |some ds=>k (.tup ds)
 |none=>False
theorem o_t {k:D->Prop}:xv (some ds) k=k (.tup ds):= .trans rfl rfl
theorem z_1 {r:ResultVar} {k:D->Prop}:QC P [r] F H k=Cw (resOne P F H r) k:= .trans rfl rfl
theorem z_0 {k:D->Prop}:QC P [] F H k=xv (resAll P F H []) k:= .trans rfl rfl
theorem z_2 {r r':ResultVar} {rs:List ResultVar} {k:D->Prop}:QC P (r::r'::rs) F H k=xv (resAll P F H (r::r'::rs)) k:= .trans rfl rfl
theorem i_T:xif (.bool true) P t x y F H Q=xcode P x (F.set t (.bool true)) H Q:=by simp [xif]
theorem i_F:xif (.bool false) P t x y F H Q=xcode P y (F.set t (.bool false)) H Q:=by simp [xif]
theorem CW {p:Prop} [Decidable p]:xif (.bool (decide p)) P t x y F H Q=((p->xcode P x (F.set t (.bool true)) H Q)∧(¬p->xcode P y (F.set t (.bool false)) H Q)):=by simp [xif]
theorem DA:xif (.bool (!b)) P t x y F H Q=((b=false->xcode P x (F.set t (.bool true)) H Q)∧(b=true->xcode P y (F.set t (.bool false)) H Q)):=by simp [xif]
theorem i_N [NL b]:xif (.bool b) P t x y F H Q=((b=true->xcode P x (F.set t (.bool true)) H Q)∧(b=false->xcode P y (F.set t (.bool false)) H Q)):= .trans rfl rfl
theorem Mp:xgd (.bool true) P m t true op dst tk ta r F H k=xops P m (⟨op,dst,none,tk,ta⟩::r) (F.set t (.bool true)) H k:=by simp [xgd]
theorem My:xgd (.bool true) P m t false op dst tk ta r F H k=xops P m r (qS (F.set t (.bool true)) dst (.tup [])) H k:=by simp [xgd]
theorem IH:xgd (.bool false) P m t true op dst tk ta r F H k=xops P m r (qS (F.set t (.bool false)) dst (.tup [])) H k:=by simp [xgd]
theorem FL:xgd (.bool false) P m t false op dst tk ta r F H k=xops P m (⟨op,dst,none,tk,ta⟩::r) (F.set t (.bool false)) H k:=by simp [xgd]
theorem g_U:xgd (.tup ds) P m t w op dst tk ta r F H k=xops P m r (qS F dst (.tup [])) H k:= .trans rfl rfl
theorem rG {p:Prop} [Decidable p]:xgd (.bool (decide p)) P m t true op dst tk ta r F H k=((p->xops P m (⟨op,dst,none,tk,ta⟩::r) (F.set t (.bool true)) H k)∧(¬p->xops P m r (qS (F.set t (.bool false)) dst (.tup [])) H k)):=by simp [xgd]
theorem sF {p:Prop} [Decidable p]:xgd (.bool (decide p)) P m t false op dst tk ta r F H k=((p->xops P m r (qS (F.set t (.bool true)) dst (.tup [])) H k)∧(¬p->xops P m (⟨op,dst,none,tk,ta⟩::r) (F.set t (.bool false)) H k)):=by
 simp only [xgd,Bool.not_false,decide_eq_true_eq,decide_eq_false_iff_not,eq_iff_iff]
 exact ⟨fun h=>⟨h.2,h.1⟩,fun h=>⟨h.2,h.1⟩⟩
theorem nL {p:Prop} [Decidable p]:xgd (.bool (!decide p)) P m t false op dst tk ta r F H k=((p->xops P m (⟨op,dst,none,tk,ta⟩::r) (F.set t (.bool false)) H k)∧(¬p->xops P m r (qS (F.set t (.bool true)) dst (.tup [])) H k)):=by
 simp [xgd]
theorem DO:xops P m [] F H k=k F H:= .trans rfl rfl
theorem LX:xops P m (⟨op,dst,some (some (t,w)),tk,ta⟩::r) F H k=xgd (F.getD t .any) P m t w op dst tk ta r F H k:=by
 unfold xgd
 simp only [xops]
 cases F.getD t .any<;>rfl
theorem Cs:xops P m (⟨.move (.tmp s),some d,none,false,ta⟩::r) F H k=xops P m r (F.set d (F.getD s .any).view) H k:= .trans rfl rfl
theorem CH:xops P m (⟨.move (.tmp s),some d,none,true,ta⟩::r) F H k=xops P m r ((F.set s (F.getD s .any).view).set d (F.getD s .any)) H k:= .trans rfl rfl
theorem Cx:xops P m (⟨.move (.const v),dst,none,tk,ta⟩::r) F H k=xops P m r (qS F dst (jD v)) H k:= .trans rfl rfl
theorem De:xops P m (⟨.assign (.tmp s),some d,none,tk,ta⟩::r) F H k=xops P m r ((F.set s (F.getD s .any).view).set d (F.getD s .any)) H k:= .trans rfl rfl
theorem th:xops P m (⟨.assign (.const v),dst,none,tk,ta⟩::r) F H k=xops P m r (qS F dst (jD v)) H k:= .trans rfl rfl
def eY (P:Program) (m:Bool) (c:D) (tk:Bool) (s ix d:Nat) (r:List XO) (F:List D) (H:AH) (k:HK):Prop:=match c with
 | .tup ds=>match ds[ix]? with
  |some c=>if tk=true then fact c.view1->xops P m r ((F.set s (.tup (ds.set ix c.view1))).set d c) H k else fact c.view1->xops P m r (F.set d c.view1) H k
  |none=>False
 |_=>False
theorem E4:xops P false (⟨.extract (.tmp s) i,some d,none,tk,ta⟩::r) F H k=eY P false (F.getD s .any) tk s i d r F H k:=by
 unfold eY
 simp only [xops,xop,vq,kJ,ev,gu,Bool.not_false,Bool.and_true,Bool.and_false]
 cases F.getD s .any<;>rfl
theorem sy:xops P true (⟨.extract (.tmp s) i,some d,none,tk,ta⟩::r) F H k=eY P true (F.getD s .any) false s i d r F H k:=by
 unfold eY
 simp only [xops,xop,vq,kJ,ev,gu,Bool.not_false,Bool.and_true,Bool.not_true,Bool.and_false,Bool.false_eq_true,if_false]
 cases F.getD s .any<;>rfl
def rM (P:Program) (m:Bool) (o:Option D) (ds:List D) (tk:Bool) (s ix d:Nat) (r:List XO) (F:List D) (H:AH) (k:HK):Prop:=match o with
 |some c=>if tk=true then fact c.view1->xops P m r ((F.set s (.tup (ds.set ix c.view1))).set d c) H k else fact c.view1->xops P m r (F.set d c.view1) H k
 |none=>False
theorem e_d:eY P m (.tup ds) tk s i d r F H k=rM P m ds[i]? ds tk s i d r F H k:= .trans rfl rfl
theorem e_0:rM P m (some c) ds false s i d r F H k=(fact c.view1->xops P m r (F.set d c.view1) H k):= .trans rfl rfl
theorem e_1:rM P m (some c) ds true s i d r F H k=(fact c.view1->xops P m r ((F.set s (.tup (ds.set i c.view1))).set d c) H k):= .trans rfl rfl
def AA (P:Program) (o:Option (List D)) (r:List XO) (F:List D) (d:Nat) (H:AH) (k:HK):Prop:=match o with
 |some z=>∀b,qH H b->xops P false r (F.set d (.ptr b 0)) ((b,.cells z)::H) k
 |none=>False
theorem pj {t:TypeId}:xops P m (⟨.alloc t,some d,none,tk,ta⟩::r) F H k=AA P (yA P t) r F d H k:=by
 unfold AA
 simp only [xops,xop,vq,kJ,true_and,gu,Bool.not_true,Bool.false_and]
 rfl
theorem L0:AA P (some z) r F d H k=∀b,qH H b->xops P false r (F.set d (.ptr b 0)) ((b,.cells z)::H) k:= .trans rfl rfl
theorem En {t:TypeId} {y:Operand}:xops P m (⟨.box t y,some d,none,tk,ta⟩::r) F H k=(okc (rv F y)=true∧∀b,qH H b->xops P false r (F.set d (.ptr b 0)) ((b,.cells (cellsOf (rv F y)))::H) k):=by
 simp only [xops,xop,vq,kJ,true_and,gu,Bool.not_true,Bool.false_and]
 rfl
def bq (P:Program) (ag:Bool) (n off:Nat) (o:Option AO) (b:Nat) (y:Operand) (dst:Option Tmp) (r:List XO) (F:List D) (H:AH) (k:HK):Prop:=match o with
 | some (.cells cs)=>if ag=true then okc (rv F y)=true∧(cellsOf (rv F y)).length=n∧off+n<=cs.length∧xops P false r (qS F dst (.tup [])) (qM H b (.cells (cs.take off++(cellsOf (rv F y)++cs.drop (off+n))))) k
  else n=1∧off<cs.length∧one1 (ev F y)=true∧dst=none∧(match y with
    | .tmp s=>xops P false r (F.set s (rv F y)) (qM H b (.cells (cs.set off (ev F y)))) k
    |_=>xops P false r F (qM H b (.cells (cs.set off (ev F y)))) k)
 |_=>False
def sO (P:Program) (ty:Option (Bool×Nat)) (a:D) (y:Operand) (dst:Option Tmp) (r:List XO) (F:List D) (H:AH) (k:HK):Prop:=match ty,a with
  |some (ag,n),.ptr b off=>bq P ag n off (qn H b) b y dst r F H k
  |_,_=>False
theorem Ek {t:TypeId} {a y:Operand}:xops P m (⟨.store t a y,dst,none,tk,ta⟩::r) F H k=sO P (yr P t) (rv F a) y dst r F H k:=by
 unfold sO
 simp only [xops,xop,vq,kJ,true_and,gu,Bool.not_true,Bool.false_and]
 cases yr P t with
 |none=>rfl
 | some x=>
  obtain ⟨ag,n⟩:=x
  cases rv F a<;>cases ag<;>first
   |rfl
   |(simp only [bq];rfl)
theorem ID {ag:Bool} {n b off:Nat} {y:Operand}:sO P (some (ag,n)) (.ptr b off) y dst r F H k=bq P ag n off (qn H b) b y dst r F H k:= .trans rfl rfl
theorem Mw {n b off:Nat} {y:Operand} {cs:List D}:bq P true n off (some (.cells cs)) b y dst r F H k=(okc (rv F y)=true∧(cellsOf (rv F y)).length=n∧off+n<=cs.length∧xops P false r (qS F dst (.tup [])) (qM H b (.cells (cs.take off++(cellsOf (rv F y)++cs.drop (off+n))))) k):= .trans rfl rfl
theorem Hi:bq P false n off (some (.cells cs)) b (.tmp s) dst r F H k=(n=1∧off<cs.length∧one1 (F.getD s .any)=true∧dst=none∧xops P false r (F.set s (rv F (.tmp s))) (qM H b (.cells (cs.set off (F.getD s .any)))) k):= .trans rfl rfl
theorem ME:bq P false n off (some (.cells cs)) b (.const v) dst r F H k=(n=1∧off<cs.length∧one1 (jD v)=true∧dst=none∧xops P false r F (qM H b (.cells (cs.set off (jD v)))) k):= .trans rfl rfl
theorem xp:xops P false (⟨.call ⟨.value f,args,tys⟩,dst,none,tk,ta⟩::r) F H k=xcall P (rv F f) (args.toList.map (rv F)) H (pD P r F dst k):=by
 unfold xcall
 simp only [xops,xop,vq,kJ]
 cases rv F f<;>rfl
theorem nM:xops P true (⟨.call ⟨.value f,args,tys⟩,dst,none,tk,ta⟩::r) F H k=GA P (rv F f) (args.toList.map (rv F)) H (r8 P r F dst H k):=by
 unfold GA
 simp only [xops,xop,vq,kJ]
 cases rv F f<;>rfl
theorem rD {K:D->AH->Prop}:xcall P (.fn g caps) args H K=ACall P g (uv args caps) H K:= .trans rfl rfl
theorem pn {K:D->Prop}:GA P (.fn g caps) args H K=iC P g (uv args caps) H K:= .trans rfl rfl
theorem xZ {d:D}:pD P r F dst k d H=(fact d.view->xops P false r (qS F dst d) H k):= .trans rfl rfl
theorem mB {d:D}:r8 P r F dst H k d=(fact d.view->xops P true r (qS F dst d) H k):= .trans rfl rfl
def Cn (o:Option AO) (P:Program) (m:Bool) (xs:List (List D)) (sz bs off n s d:Nat) (r:List XO) (F:List D) (H:AH) (k:HK):Prop:=match o with
 |some (.cells cs)=>sz=1∧off+n<=cs.length∧(∀y∈xs,y.length=1)∧(xs.length+n)*bs<=140737488355328∧xops P m r ((F.set s (.slc xs)).set d (.own (xs++((cs.drop off).take n).map fun e=>[e.view1]))) H k
 |_=>False
def mE (P:Program) (m:Bool) (a:D) (t:Option (TypeId×Nat×Nat)) (y:D) (s d:Nat) (r:List XO) (F:List D) (H:AH) (k:HK):Prop:=match a,t with
  | .own xs,some (_,sz,bs)=>match y with
   | .slc ys=>(∀y∈xs,y.length=sz)∧(∀y∈ys,y.length=sz)∧(xs.length+ys.length)*bs<=140737488355328∧xops P m r ((F.set s (.slc xs)).set d (.own (xs++ys))) H k
   | .str l=>sz=1∧(∀y∈xs,y.length=1)∧(xs.length+l.length)*bs<=140737488355328∧xops P m r ((F.set s (.slc xs)).set d (.own (xs++l.map ql))) H k
   | .hso b off n=>Cn (qn H b) P m xs sz bs off n s d r F H k
   |_=>False
  |_,_=>False
theorem Ca {t u:TypeId} {y:Operand}:xops P m (⟨.call ⟨.builtin .append,#[.tmp s,y],#[t,u]⟩,some d,none,tk,ta⟩::r) F H k=mE P m (F.getD s .any) (Ko P t u) (rv F y) s d r F H k:=by
 unfold mE Cn
 simp only [xops,xop,vq,kJ,ev]
 rfl
theorem Ey {e:TypeId}:mE P m (.own xs) (some (e,sz,bs)) (.slc ys) s d r F H k=((∀y∈xs,y.length=sz)∧(∀y∈ys,y.length=sz)∧(xs.length+ys.length)*bs<=140737488355328∧xops P m r ((F.set s (.slc xs)).set d (.own (xs++ys))) H k):= .trans rfl rfl
theorem Bq {e:TypeId}:mE P m (.own xs) (some (e,sz,bs)) (.str l) s d r F H k=(sz=1∧(∀y∈xs,y.length=1)∧(xs.length+l.length)*bs<=140737488355328∧xops P m r ((F.set s (.slc xs)).set d (.own (xs++l.map ql))) H k):= .trans rfl rfl
theorem DC {t:TypeId}:xops P m (⟨.load t (.tmp s),dst,none,tk,false⟩::r) F H k=qY P (rv F) H (.load t (.tmp s)) (wC P m r F dst H k):=by
 simp only [xops,xop,vq,kJ,Bool.false_eq_true,and_false,if_false]
 cases dst<;>rfl
theorem DB {t:TypeId}:xops P m (⟨.load t (.global g),dst,none,tk,ta⟩::r) F H k=qY P (rv F) H (.load t (.global g)) (wC P m r F dst H k):= .trans rfl rfl
theorem Br {t:TypeId}:xops P true (⟨.load t (.tmp s),dst,none,tk,ta⟩::r) F H k=qY P (rv F) H (.load t (.tmp s)) (wC P true r F dst H k):=by
 simp only [xops,xop,vq,kJ]
 cases dst<;>rfl
def Fm (P:Program) (c:Option D) (cs:List D) (b off d:Nat) (r:List XO) (F:List D) (H:AH) (k:HK):Prop:=match c with
 |some (.own xs)=>xops P false r (F.set d (.own xs)) (qM H b (.cells (cs.set off (.slc xs)))) k
 |some (.hgs b' n c)=>xops P false r (F.set d (.hgs b' n c)) H k
 |_=>False
def Fn (P:Program) (o:Option AO) (b off d:Nat) (r:List XO) (F:List D) (H:AH) (k:HK):Prop:=match o with
 |some (.cells cs)=>Fm P cs[off]? cs b off d r F H k
 |_=>False
def Lt (P:Program) (ty:Option (Bool×Nat)) (a:D) (d:Nat) (r:List XO) (F:List D) (H:AH) (k:HK):Prop:=match ty,a with
 |some (false,_),.ptr b off=>Fn P (qn H b) b off d r F H k
 |_,_=>False
theorem Es {t:TypeId}:xops P false (⟨.load t (.tmp s),some d,none,tk,true⟩::r) F H k=Lt P (yr P t) (rv F (.tmp s)) d r F H k:=by
 unfold Lt Fn Fm
 simp only [xops,xop,vq,kJ]
 rfl
theorem Iv:Lt P (some (false,n)) (.ptr b off) d r F H k=Fn P (qn H b) b off d r F H k:= .trans rfl rfl
theorem Ic:Fn P (some (.cells cs)) b off d r F H k=Fm P cs[off]? cs b off d r F H k:= .trans rfl rfl
theorem LB:Fm P (some (.own xs)) cs b off d r F H k=xops P false r (F.set d (.own xs)) (qM H b (.cells (cs.set off (.slc xs)))) k:= .trans rfl rfl
theorem si:xops P m (⟨.pick c a b,dst,none,tk,ta⟩::r) F H k=qY P (rv F) H (.pick c a b) (wC P m r F dst H k):= .trans rfl rfl
theorem D6 {t:TypeId}:xops P m (⟨.build t ps,dst,none,tk,ta⟩::r) F H k=qY P (rv F) H (.build t ps) (wC P m r F dst H k):= .trans rfl rfl
theorem Bp {t:TypeId}:xops P m (⟨.buildSlice t n ps,dst,none,tk,ta⟩::r) F H k=qY P (rv F) H (.buildSlice t n ps) (wC P m r F dst H k):= .trans rfl rfl
theorem fB {b:BinOp} {t u:TypeId} {x y:Operand} (h:gH y=false):xops P m (⟨.binOp b t x y u,dst,none,tk,ta⟩::r) F H k=qY P (rv F) H (.binOp b t x y u) (wC P m r F dst H k):=by
 simp only [xops,xop,vq,kJ,h,Bool.false_eq_true,and_false,if_false]
 rfl
theorem xn {b:BinOp} {t u:TypeId} {x:Operand} {y:Nat}:xops P m (⟨.binOp b t x (.tmp y) u,dst,none,tk,ta⟩::r) F H k=qY P (rv F) H (.binOp b t x (.tmp y) u) (wC P m r F dst H k):=fB rfl
theorem Aq {b:BinOp} {t u:TypeId} {x:Operand} {kd:IntKind} {n:Int}:xops P m (⟨.binOp b t x (.const (.int kd n)) u,dst,none,tk,ta⟩::r) F H k=qY P (rv F) H (.binOp b t x (.const (.int kd n)) u) (wC P m r F dst H k):=fB rfl
theorem sv {b:BinOp} {t u:TypeId} {x:Operand} {l:ByteArray}:xops P m (⟨.binOp b t x (.const (.string l)) u,dst,none,tk,ta⟩::r) F H k=qY P (rv F) H (.binOp b t x (.const (.string l)) u) (wC P m r F dst H k):=fB rfl
theorem rI {b:BinOp} {t u:TypeId} {x:Operand}:xops P false (⟨.binOp b t x (.const (.slice none 0 0)) u,dst,none,tk,ta⟩::r) F H k=nilcmp P b t (rv F x) (wC P false r F dst H k):=by
 simp only [xops,xop,vq,kJ,gH]
 rfl
theorem B8 {t:TypeId} {K:D->Prop}:nilcmp P .eql t (.slc xs) K=((yb P t).isSome=true∧(xs= []->K (.bool true))∧K (.bool false)):= .trans rfl rfl
theorem HO {u:UnOp} {t:TypeId} {x:Operand}:xops P m (⟨.unOp u t x,dst,none,tk,ta⟩::r) F H k=qY P (rv F) H (.unOp u t x) (wC P m r F dst H k):= .trans rfl rfl
theorem xi {a b:TypeId} {x:Operand}:xops P m (⟨.convert a b x,dst,none,tk,ta⟩::r) F H k=qY P (rv F) H (.convert a b x) (wC P m r F dst H k):= .trans rfl rfl
theorem Lc:xops P m (⟨.makeFunc f a c,dst,none,tk,ta⟩::r) F H k=qY P (rv F) H (.makeFunc f a c) (wC P m r F dst H k):= .trans rfl rfl
theorem IQ {t:TypeId}:xops P m (⟨.makeSlice t a b,dst,none,tk,ta⟩::r) F H k=qY P (rv F) H (.makeSlice t a b) (wC P m r F dst H k):= .trans rfl rfl
theorem Io {t:TypeId} {x:Operand} {a b c:Option Operand}:xops P m (⟨.slice t x a b c,dst,none,tk,ta⟩::r) F H k=qY P (rv F) H (.slice t x a b c) (wC P m r F dst H k):= .trans rfl rfl
theorem LY {t:TypeId} {x:Operand} {f:Nat}:xops P m (⟨.fieldAddr t x f,dst,none,tk,ta⟩::r) F H k=qY P (rv F) H (.fieldAddr t x f) (wC P m r F dst H k):= .trans rfl rfl
theorem Hp {t:TypeId} {x y:Operand}:xops P m (⟨.indexAddr t x y,dst,none,tk,ta⟩::r) F H k=qY P (rv F) H (.indexAddr t x y) (wC P m r F dst H k):= .trans rfl rfl
theorem Ib {t:TypeId} {x y:Operand}:xops P m (⟨.index t x y,dst,none,tk,ta⟩::r) F H k=qY P (rv F) H (.index t x y) (wC P m r F dst H k):= .trans rfl rfl
theorem Lv {t:TypeId} {x:Operand}:xops P m (⟨.sliceToArrayPointer t x,dst,none,tk,ta⟩::r) F H k=qY P (rv F) H (.sliceToArrayPointer t x) (wC P m r F dst H k):= .trans rfl rfl
theorem HE {x:Operand}:xops P m (⟨.nilCheck x,dst,none,tk,ta⟩::r) F H k=qY P (rv F) H (.nilCheck x) (wC P m r F dst H k):= .trans rfl rfl
theorem Dq {a:Array Operand} {t:Array TypeId}:xops P m (⟨.call ⟨.builtin .len,a,t⟩,dst,none,tk,ta⟩::r) F H k=qY P (rv F) H (.call ⟨.builtin .len,a,t⟩) (wC P m r F dst H k):= .trans rfl rfl
theorem DR {a:Array Operand} {t:Array TypeId}:xops P m (⟨.call ⟨.builtin .max,a,t⟩,dst,none,tk,ta⟩::r) F H k=qY P (rv F) H (.call ⟨.builtin .max,a,t⟩) (wC P m r F dst H k):= .trans rfl rfl
theorem C5 {a:Array Operand} {t:Array TypeId}:xops P m (⟨.call ⟨.builtin .min,a,t⟩,dst,none,tk,ta⟩::r) F H k=qY P (rv F) H (.call ⟨.builtin .min,a,t⟩) (wC P m r F dst H k):= .trans rfl rfl
theorem Dc {x:D}:wC P m r F (some d) H k x=xops P m r (F.set d x) H k:= .trans rfl rfl
theorem p_s {x:D}:qS F (some d) x=F.set d x:= .trans rfl rfl
theorem p_n {x:D}:qS F none x=F:= .trans rfl rfl
theorem Db:rv F (.tmp s)=(F.getD s .any).view:= .trans rfl rfl
theorem nq:rv F (.const v)=(jD v).view:= .trans rfl rfl
theorem rE:rv F (.func f)= .fn f []:= .trans rfl rfl
theorem Ad:rv F (.global g)= .ptr g 0:= .trans rfl rfl
theorem Bv {k:IntKind} {n:Int}:(D.int k n).view= .int k n:= .trans rfl rfl
theorem xB:(D.bool b).view= .bool b:= .trans rfl rfl
theorem CK:(D.str l).view= .str l:= .trans rfl rfl
theorem Ei:(D.slc l).view= .slc l:= .trans rfl rfl
theorem DP:(D.own l).view= .slc l:= .trans rfl rfl
theorem DZ:(D.ptr b o).view= .ptr b o:= .trans rfl rfl
theorem Aa:(D.eptr l).view= .eptr l:= .trans rfl rfl
theorem Lg:(D.fn f l).view= .fn f l:= .trans rfl rfl
theorem BS:(D.agg l).view= .agg l:= .trans rfl rfl
theorem B7:(D.tup l).view= .tup (l.map D.view1):= .trans rfl rfl
theorem Im {r:Option Nat}:(D.mp r).view= .mp r:= .trans rfl rfl
theorem sh {k:IntKind} {n:Int}:(D.int k n).view1= .int k n:= .trans rfl rfl
theorem pg:(D.bool b).view1= .bool b:= .trans rfl rfl
theorem xk:(D.str l).view1= .str l:= .trans rfl rfl
theorem xW:(D.slc l).view1= .slc l:= .trans rfl rfl
theorem t7:(D.own l).view1= .slc l:= .trans rfl rfl
theorem Bx:(D.fn f l).view1= .fn f l:= .trans rfl rfl
theorem tt:(D.agg l).view1= .agg l:= .trans rfl rfl
theorem Eo {r:Option Nat}:(D.mp r).view1= .mp r:= .trans rfl rfl
theorem C0 {k:IntKind} {n:Int}:jD (.int k n)= .int k n:= .trans rfl rfl
theorem tC:jD (.bool b)= .bool b:= .trans rfl rfl
theorem D1 {s:ByteArray}:jD (.string s)= .str s.data.toList:= .trans rfl rfl
theorem mS:jD .nilFunc= .nilfn:= .trans rfl rfl
theorem DV:jD (.slice none 0 0)= .own []:= .trans rfl rfl
theorem ri {k:IntKind} {n:Int}:fact (.int k n)=wP k n:= .trans rfl rfl
theorem Cp:fact (.str l)=(l.length<=big):= .trans rfl rfl
theorem l7:fact (.slc l)=(l.length<=big):= .trans rfl rfl
theorem A9:fact (.bool b)=True:= .trans rfl rfl
theorem Bl:fact (.agg l)=True:= .trans rfl rfl
theorem Bm:fact (.tup l)=True:= .trans rfl rfl
theorem FX:fact (.fn f l)=True:= .trans rfl rfl
theorem ji:qn ((b,o)::H) b=some o:=by simp [qn]
theorem qg (h:b≠c):qn ((c,o)::H) b=qn H b:=by simp [qn,h]
theorem wT {b:Nat} {o x:AO}:qM ((b,o)::H) b x=(b,x)::H:=by simp [qM]
theorem qm {b c:Nat} {o x:AO} (h:b≠c):qM ((c,o)::H) b x=(c,o)::qM H b x:=by simp [qM,h]
theorem nH:qH ((c,o)::H) b=(c≠b∧qH H b):=by
 show (b≠c∧qH H b)=_
 rw [ne_comm]
theorem qO (h:qH H c) (hb:qn H b=some o):b≠c:=by
 induction H with
 |nil=>cases hb
 | cons x r ih=>
  obtain ⟨c',o'⟩:=x
  simp only [qn] at hb
  split at hb
  ·rename_i e
   exact fun e'=>h.1 (e'.symm.trans e)
  ·exact ih h.2 hb
theorem E6 (h:qH H c) (hb:(qn H b).isSome=true):qn ((c,o)::H) b=qn H b:=by
 obtain ⟨y,hy⟩:=Option.isSome_iff_exists.1 hb
 exact qg (qO h hy)
theorem tN {b c:Nat} {o x:AO} (h:qH H c) (hb:(qn H b).isSome=true):qM ((c,o)::H) b x=(c,o)::qM H b x:=by
 obtain ⟨y,hy⟩:=Option.isSome_iff_exists.1 hb
 exact qm (qO h hy)
theorem Jp {b:Nat} {x:AO} (hb:(qn H b).isSome=true):qn (qM H b x) b=some x:=by
 induction H with
 |nil=>cases hb
 | cons y r ih=>
  obtain ⟨c',o'⟩:=y
  simp only [qn] at hb
  simp only [qM]
  split
  ·rename_i e;simp [qn,e]
  ·rename_i e
   rw [if_neg e] at hb
   simp only [qn,if_neg e]
   exact ih hb
theorem aM {b c:Nat} {x:AO} (h:c≠b):qn (qM H b x) c=qn H c:=by
 induction H with
 |nil=>rfl
 | cons y r ih=>
  obtain ⟨c',o'⟩:=y
  simp only [qM]
  split
  ·rename_i e;subst e;simp [qn,h]
  ·simp only [qn,ih]
theorem Qo {b:Nat} {x y:AO}:qM (qM H b x) b y=qM H b y:=by
 induction H with
 |nil=>rfl
 | cons z r ih=>
  obtain ⟨c',o'⟩:=z
  simp only [qM]
  split
  ·rename_i e;simp [qM,e]
  ·rename_i e;simp [qM,e,ih]
theorem CJ {b c:Nat} {x:AO}:qH (qM H b x) c=qH H c:=by
 induction H with
 |nil=>rfl
 | cons z r ih=>
  obtain ⟨c',o'⟩:=z
  simp only [qM]
  split
  ·rename_i e;subst e;rfl
  ·simp only [qH,ih]
theorem kK {n:Nat} {x:Nat×AO} (h:H.length=n):back n (x::H)=H:=by
 subst h
 rw [wz (Nn _),W0]
theorem qz (h:H.length=n):back n H=H:=by subst h;exact W0 H
end
section
variable {P:Program} {ρ:Operand->D} {H:AH} {K:D->Prop} {t:TypeId} {x y:Operand}
def dJ (c a b:D) (K:D->Prop):Prop:=match c with
 | .bool true=>K a
 | .bool false=>K b
 |_=>False
theorem tI:qY P ρ H (.pick c a b) K=dJ (ρ c) (ρ a) (ρ b) K:= .trans rfl rfl
theorem FQ:dJ (.bool true) a b K=K a:= .trans rfl rfl
theorem M5:dJ (.bool false) a b K=K b:= .trans rfl rfl
def xT (P:Program) (t:TypeId) (o:Option (List D)) (l:List (Nat×D)) (K:D->Prop):Prop:=match o with
 |some z=>jZ P t=true∧(∀p∈l,okc p.2=true)∧wS P t (l.map fun p=>(p.1,cellsOf p.2)) (z.map D.view1) fun cs=>K (.agg cs)
 |none=>False
theorem Er:qY P ρ H (.build t ps) K=xT P t (yA P t) (ps.toList.map fun p=>(p.1,ρ p.2)) K:=by
 simp only [qY,xT]
 cases yA P t with
 |none=>rfl
 |some z=>simp only [Nz,Function.comp_def,List.forall_mem_map]
def Jm (P:Program) (t:TypeId) (l:List (Nat×List D)) (z:List D) (K:D->Prop):Prop:=wS P t l z fun cs=>K (.agg cs)
theorem FH:xT P t (some z) l K=(jZ P t=true∧(l.all fun p=>okc p.2)=true∧Jm P t (l.map fun p=>(p.1,cellsOf p.2)) (z.map D.view1) K):=by
 rw [List.all_eq_true]
 rfl
theorem HS:Jm P t [] z K=K (.agg z):= .trans rfl rfl
def eS (P:Program) (t:TypeId) (o:Option (Nat×Bool×Nat)) (cs:List D) (l:List (Nat×List D)) (z:List D) (K:D->Prop):Prop:=match o with
 |some (off,_,n)=>cs.length=n∧off+n<=z.length∧Jm P t l (z.take off++(cs++z.drop (off+n))) K
 |none=>False
theorem HH:Jm P t ((i,cs)::l) z K=eS P t (jT P t i) cs l z K:=by
 unfold Jm eS
 rw [wS]
 cases jT P t i<;>rfl
theorem IJ:eS P t (some (off,ag,n)) cs l z K=(cs.length=n∧off+n<=z.length∧Jm P t l (z.take off++(cs++z.drop (off+n))) K):= .trans rfl rfl
def mb (P:Program) (o:Option (TypeId×Nat)) (n:Nat) (l:List (Nat×D)) (K:D->Prop):Prop:=match o with
 |some (e,sz)=>l.map (·.1)=List.range n∧(∀p∈l,okc p.2=true∧(cellsOf p.2).length=sz)∧n*sz<=16777216∧(yA P e).isSome=true∧K (.own (l.map fun p=>cellsOf p.2))
 |none=>False
theorem Bg:qY P ρ H (.buildSlice t n ps) K=mb P (yb P t) n (ps.toList.map fun p=>(p.1,ρ p.2)) K:=by
 simp only [qY,mb]
 cases yb P t with
 |none=>rfl
 |some z=>simp only [Nz,Function.comp_def,List.forall_mem_map]
theorem If {e:TypeId}:mb P (some (e,sz)) n l K=(l.map (·.1)=List.range n∧(l.all fun p=>okc p.2&&(cellsOf p.2).length==sz)=true∧n*sz<=16777216∧(yA P e).isSome=true∧K (.own (l.map fun p=>cellsOf p.2))):=by
 simp only [mb,List.all_eq_true,Nj,beq_iff_eq]
def mn (c:Option D) (K:D->Prop):Prop:=match c with
 |some c=>fact c.view1->K c.view1
 |none=>False
def ls (c:Option D) (K:D->Prop):Prop:=match c with
 |some c=>fact c->K c
 |none=>False
def GF (ag:Bool) (n off:Nat) (o:Option AO) (K:D->Prop):Prop:=match o with
 |some (.cells cs)=>if ag=true then off+n<=cs.length∧K (.agg (((cs.drop off).take n).map D.view1)) else mn cs[off]? K
 |some (.cst cs)=>if ag=true then off+n<=cs.length∧K (.agg ((cs.drop off).take n)) else ls cs[off]? K
 |_=>False
def fI (ty:Option (Bool×Nat)) (a:D) (H:AH) (K:D->Prop):Prop:=match ty,a with
 |some (ag,n),.ptr b off=>GF ag n off (qn H b) K
 |some (true,n),.eptr cs=>n<=cs.length∧K (.agg (cs.take n))
 |some (false,_),.eptr (c::_)=>fact c->K c
 |_,_=>False
theorem sG:qY P ρ H (.load t a) K=fI (yr P t) (ρ a) H K:=by
 simp only [qY,fI]
 cases yr P t with
 |none=>rfl
 | some z=>
  obtain ⟨ag,n⟩:=z
  cases ρ a<;>cases ag<;>first
   |rfl
   |(simp only [GF,mn,ls];rfl)
   |(rename_i cs;cases cs<;>rfl)
theorem Ll:fI (some (ag,n)) (.ptr b off) H K=GF ag n off (qn H b) K:= .trans rfl rfl
theorem L3:GF true n off (some (.cells cs)) K=(off+n<=cs.length∧K (.agg (((cs.drop off).take n).map D.view1))):= .trans rfl rfl
theorem MI:GF false n off (some (.cells cs)) K=mn cs[off]? K:= .trans rfl rfl
theorem DQ:GF true n off (some (.cst cs)) K=(off+n<=cs.length∧K (.agg ((cs.drop off).take n))):= .trans rfl rfl
theorem BC:GF false n off (some (.cst cs)) K=ls cs[off]? K:= .trans rfl rfl
theorem DK:ls (some c) K=(fact c->K c):= .trans rfl rfl
theorem La:mn (some c) K=(fact c.view1->K c.view1):= .trans rfl rfl
theorem DN:fI (some (true,n)) (.eptr cs) H K=(n<=cs.length∧K (.agg (cs.take n))):= .trans rfl rfl
theorem BG:fI (some (false,n)) (.eptr (c::cs)) H K=(fact c->K c):= .trans rfl rfl
def ce (P:Program) (op:BinOp) (t:TypeId) (a b:D) (K:D->Prop):Prop:=match a,b with
  | .bool a,.bool b=>gX P t=true∧w8 op (.bool a) (.bool b) K
  | .agg xs,.agg ys=>match rg P t with
   | some l=>fits l xs∧fits l ys∧sameK xs ys∧(match op with
    | .eql=>K (.bool (eqCells xs ys))
    | .neq=>K (.bool (!eqCells xs ys))
    |_=>False)
   |none=>False
  |a,b=>w8 op a b K
theorem D2 {u:TypeId}:qY P ρ H (.binOp op t x y u) K=ce P op t (ρ x) (ρ y) K:= .trans rfl rfl
theorem IF:ce P op t (.int ka a) (.int kb b) K=w8 op (.int ka a) (.int kb b) K:= .trans rfl rfl
theorem Mt:ce P op t (.str a) (.str b) K=w8 op (.str a) (.str b) K:= .trans rfl rfl
theorem Hf:ce P op t (.bool a) (.bool b) K=(gX P t=true∧w8 op (.bool a) (.bool b) K):= .trans rfl rfl
def nR (o:Option (List CT)) (op:BinOp) (xs ys:List D) (K:D->Prop):Prop:=match o with
 | some l=>fits l xs∧fits l ys∧sameK xs ys∧(match op with
    | .eql=>K (.bool (eqCells xs ys))
    | .neq=>K (.bool (!eqCells xs ys))
    |_=>False)
 |none=>False
theorem Ml:ce P op t (.agg xs) (.agg ys) K=nR (rg P t) op xs ys K:=by
 unfold nR
 simp only [ce]
theorem HZ:nR (some l) .eql xs ys K=(fits l xs∧fits l ys∧sameK xs ys∧K (.bool (eqCells xs ys))):= .trans rfl rfl
theorem I7:nR (some l) .neq xs ys K=(fits l xs∧fits l ys∧sameK xs ys∧K (.bool (!eqCells xs ys))):= .trans rfl rfl
theorem rz:w8 .shl (.int ka a) (.int kb b) K=(0<=b∧K (.int ka (ka.wrap (a*2 ^ (min b.toNat ka.bits))))):= .trans rfl rfl
theorem As:w8 .shr (.int ka a) (.int kb b) K=(0<=b∧K (.int ka (a.fdiv (2 ^ (min b.toNat ka.bits))))):= .trans rfl rfl
theorem tZ:w8 .add (.int ka a) (.int kb b) K=(ka=kb∧K (.int ka (ka.wrap (a+b)))):= .trans rfl rfl
theorem xD:w8 .sub (.int ka a) (.int kb b) K=(ka=kb∧K (.int ka (ka.wrap (a - b)))):= .trans rfl rfl
theorem Ax:w8 .mul (.int ka a) (.int kb b) K=(ka=kb∧K (.int ka (ka.wrap (a*b)))):= .trans rfl rfl
theorem sJ:w8 .quo (.int ka a) (.int kb b) K=(ka=kb∧b≠0∧K (.int ka (ka.wrap (a.tdiv b)))):= .trans rfl rfl
theorem Ao:w8 .rem (.int ka a) (.int kb b) K=(ka=kb∧b≠0∧K (.int ka (a.tmod b))):= .trans rfl rfl
theorem Ab:w8 .and (.int ka a) (.int kb b) K=(ka=kb∧K (.int ka (bits .and ka a b))):= .trans rfl rfl
theorem CZ:w8 .or (.int ka a) (.int kb b) K=(ka=kb∧K (.int ka (bits .or ka a b))):= .trans rfl rfl
theorem xo:w8 .xor (.int ka a) (.int kb b) K=(ka=kb∧K (.int ka (bits .xor ka a b))):= .trans rfl rfl
theorem Av:w8 .eql (.int ka a) (.int kb b) K=(ka=kb∧K (.bool (decide (a=b)))):= .trans rfl rfl
theorem tB:w8 .neq (.int ka a) (.int kb b) K=(ka=kb∧K (.bool (!decide (a=b)))):= .trans rfl rfl
theorem AB:w8 .lss (.int ka a) (.int kb b) K=(ka=kb∧K (.bool (decide (a<b)))):= .trans rfl rfl
theorem xw:w8 .leq (.int ka a) (.int kb b) K=(ka=kb∧K (.bool (decide (a<=b)))):= .trans rfl rfl
theorem rS:w8 .gtr (.int ka a) (.int kb b) K=(ka=kb∧K (.bool (decide (b<a)))):= .trans rfl rfl
theorem sj:w8 .geq (.int ka a) (.int kb b) K=(ka=kb∧K (.bool (decide (b<=a)))):= .trans rfl rfl
theorem s7:w8 .add (.str a) (.str b) K=(a.length+b.length<=big∧K (.str (a++b))):= .trans rfl rfl
theorem xQ:w8 .eql (.str a) (.str b) K=(K (.bool (decide (a=b)))):= .trans rfl rfl
theorem xx:w8 .neq (.str a) (.str b) K=(K (.bool (!decide (a=b)))):= .trans rfl rfl
theorem Ae:w8 .neq (.bool a) (.bool b) K=K (.bool (!(a==b))):= .trans rfl rfl
def Fj (op:UnOp) (x:D) (K:D->Prop):Prop:=match op,x with
  | .not,.bool b=>K (.bool (!b))
  | .neg,.int kd n=>K (.int kd (kd.wrap (0 - n)))
  | .xor,.int kd n=>K (.int kd (bits .xor kd (if kd.signed then -1 else kd.max) n))
  |_,_=>False
theorem C9:qY P ρ H (.unOp u t x) K=Fj u (ρ x) K:= .trans rfl rfl
theorem Lf:Fj .not (.bool b) K=K (.bool (!b)):= .trans rfl rfl
theorem IV:Fj .neg (.int kd n) K=K (.int kd (kd.wrap (0 - n))):= .trans rfl rfl
theorem Ex:Fj .xor (.int kd n) K=K (.int kd (bits .xor kd (if kd.signed then -1 else kd.max) n)):= .trans rfl rfl
def F0 (o:Option IntKind) (n:Int) (c:Prop) (K:D->Prop):Prop:=match o with
 |some kd=>c∧K (.int kd (kd.wrap n))
 |none=>False
def It (b:Bool) (A B:Prop):Prop:=if b=true then A else B
def EB (P:Program) (s t:TypeId) (o:Option AO) (off n:Nat) (K:D->Prop):Prop:=match o with
 |some (.cells cs)=>yM P s=true∧ky P t=true∧off+n<=cs.length∧(∀d∈(cs.drop off).take n,yQ [d])∧(fact (.str (((cs.drop off).take n).map fun d=>unbyte [d]))->K (.str (((cs.drop off).take n).map fun d=>unbyte [d])))
 |_=>False
def AZ (P:Program) (H:AH) (s t:TypeId) (x:D) (K:D->Prop):Prop:=match x with
  | .int _ n=>F0 (YX P t) n (gA P s=true) K
  | .str l=>It (ky P t) (ky P s=true∧K (.str l)) (ky P s=true∧yM P t=true∧(fact (.str l)->K (.slc (l.map ql))))
  | .slc xs=>yM P s=true∧ky P t=true∧(∀x∈xs,yQ x)∧(fact (.slc xs)->K (.str (xs.map unbyte)))
  | .hso b off n=>EB P s t (qn H b) off n K
  |_=>False
theorem sT {s:TypeId}:qY P ρ H (.convert s t x) K=AZ P H s t (ρ x) K:=by
 simp only [qY,AZ,EB]
 cases ρ x<;>first
  |rfl
  |(simp only [F0];cases YX P t<;>rfl)
theorem Ie {s:TypeId}:AZ P H s t (.int kd n) K=F0 (YX P t) n (gA P s=true) K:= .trans rfl rfl
theorem Mn {c:Prop}:F0 (some kd) n c K=(c∧K (.int kd (kd.wrap n))):= .trans rfl rfl
theorem Ln {s:TypeId}:AZ P H s t (.str l) K=It (ky P t) (ky P s=true∧K (.str l)) (ky P s=true∧yM P t=true∧(fact (.str l)->K (.slc (l.map ql)))):= .trans rfl rfl
theorem LF {s:TypeId}:AZ P H s t (.hso b off n) K=EB P s t (qn H b) off n K:= .trans rfl rfl
theorem Ew {s:TypeId}:EB P s t (some (.cells cs)) off n K=(yM P s=true∧ky P t=true∧off+n<=cs.length∧(∀d∈(cs.drop off).take n,yQ [d])∧(fact (.str (((cs.drop off).take n).map fun d=>unbyte [d]))->K (.str (((cs.drop off).take n).map fun d=>unbyte [d])))):= .trans rfl rfl
theorem BB {A B:Prop}:It false A B=B:= .trans rfl rfl
theorem LQ {s:TypeId}:AZ P H s t (.slc xs) K=(yM P s=true∧ky P t=true∧(∀x∈xs,yQ x)∧(fact (.slc xs)->K (.str (xs.map unbyte)))):= .trans rfl rfl
def Fu (f:FuncId) (a c:List D) (K:D->Prop):Prop:=match a with
 | []=>B2 c=false∧K (.fn f c)
 |a=>c= []∧K (.fn f (.tup []::a))
theorem Il {K:D->Prop}:Fu f [] c K=(B2 c=false∧K (.fn f c)):= .trans rfl rfl
theorem L5 {f:FuncId} {x:D} {a c:List D} {K:D->Prop}:Fu f (x::a) c K=(c= []∧K (.fn f (.tup []::x::a))):= .trans rfl rfl
theorem MF:B2 (.ptr b off::r)=false:= .trans rfl rfl
theorem Hy:uv a []=a++ []:= .trans rfl rfl
theorem Mo:uv a (.ptr b off::r)=a++ .ptr b off::r:= .trans rfl rfl
theorem Mh:uv a (.tup []::r)=r++a:= .trans rfl rfl
theorem Ih:qY P ρ H (.makeFunc (.func f) a c) K=Fu f (a.toList.map ρ) (c.toList.map ρ) K:=by
 obtain ⟨a⟩:=a
 obtain ⟨c⟩:=c
 cases a with
 |nil=>rfl
 | cons x l=>
  simp only [qY,Fu,List.map_cons,Array.mk.injEq,List.map_eq_nil_iff]
def lW (P:Program) (o:Option (List D)) (e:TypeId) (a b:D) (K:D->Prop):Prop:=match o,a,b with
 |some z,.int _ n,.int _ m=>n=m∧0<=n∧(match P.info? e with|some i=>(i.bytes:Int)*n<=140737488355328∧n<=140737488355328|none=>False)∧K (.own (List.replicate n.toNat (z.map D.view1)))
 |_,_,_=>False
def s8 (P:Program) (o:Option (TypeId×Nat)) (a b:D) (K:D->Prop):Prop:=match o with
 |some (e,sz)=>lW P (yA P e) e a b K
 |none=>False
theorem FV:qY P ρ H (.makeSlice t a b) K=s8 P (yb P t) (ρ a) (ρ b) K:=by
 simp only [qY,s8,lW]
 cases yb P t with
 |none=>rfl
 |some z=>rfl
theorem Hz {e:TypeId}:s8 P (some (e,sz)) a b K=lW P (yA P e) e a b K:= .trans rfl rfl
theorem Mj {e:TypeId}:lW P (some z) e (.int ka n) (.int kb m) K=(n=m∧0<=n∧(match P.info? e with|some i=>(i.bytes:Int)*n<=140737488355328∧n<=140737488355328|none=>False)∧K (.own (List.replicate n.toNat (z.map D.view1)))):= .trans rfl rfl
def lI (o:Option (TypeId×Nat)) (xs:List (List D)) (lo hi:Option D) (K:D->Prop):Prop:=match o with
 |some (_,sz)=>(∀x∈xs,x.length=sz)∧oW xs.length lo hi fun l h=>K (.slc ((xs.take h).drop l))
 |none=>False
def iH (s:List UInt8) (lo hi:Option D) (K:D->Prop):Prop:=oW s.length lo hi fun l h=>K (.str ((s.take h).drop l))
def nG (xs:List (List D)) (lo hi:Option D) (K:D->Prop):Prop:=oW xs.length lo hi fun l h=>K (.slc ((xs.take h).drop l))
def D3 (o:Option (TypeId×Nat)) (b n:Nat) (lo hi:Option D) (K:D->Prop):Prop:=match o with
 |some (_,sz)=>oW n lo hi fun l h=>l<h∧K (match lo with|none=>.hsl b h|some _=>.hso b (l*sz) (h - l))
 |none=>False
def Vh (n sz b off:Nat) (lo hi:Option D) (K:D->Prop):Prop:=oW n lo hi fun l h=>l<h∧K (.hso b (off+l*sz) (h - l))
def ms (o:Option (TypeId×Nat)) (b off n:Nat) (lo hi:Option D) (K:D->Prop):Prop:=match o with
 |some (_,sz)=>Vh n sz b off lo hi K
 |none=>False
def mg (o:Option (Nat×Nat)) (b off:Nat) (lo hi:Option D) (K:D->Prop):Prop:=match o with
 |some (m,sz)=>m<=65536∧Vh m sz b off lo hi K
 |none=>False
def cw (P:Program) (t:TypeId) (x:D) (lo hi:Option D) (K:D->Prop):Prop:=match x with
 | .hso b off n=>ms (yb P t) b off n lo hi K
 | .ptr b off=>mg (KF P t) b off lo hi K
 | .hsl b n=>D3 (yb P t) b n lo hi K
 | .slc xs=>lI (yb P t) xs lo hi K
 | .str s=>ky P t=true∧iH s lo hi K
 |_=>False
theorem Me:qY P ρ H (.slice t x lo hi none) K=cw P t (ρ x) (lo.map ρ) (hi.map ρ) K:=by
 simp only [qY,cw,lI,iH,D3,ms,mg,Vh]
 cases ρ x<;>first|rfl|(cases lo<;>rfl)
theorem MC:cw P t (.slc xs) lo hi K=lI (yb P t) xs lo hi K:= .trans rfl rfl
theorem Ij:cw P t (.hso b off n) lo hi K=ms (yb P t) b off n lo hi K:= .trans rfl rfl
theorem Ms:cw P t (.ptr b off) lo hi K=mg (KF P t) b off lo hi K:= .trans rfl rfl
theorem LJ {e:TypeId}:ms (some (e,sz)) b off n lo hi K=Vh n sz b off lo hi K:= .trans rfl rfl
theorem L7:mg (some (m,sz)) b off lo hi K=(m<=65536∧Vh m sz b off lo hi K):= .trans rfl rfl
theorem CP:Vh n sz b off none none K=(0<n∧K (.hso b (off+0*sz) (n - 0))):= .trans rfl rfl
theorem Dx:Vh n sz b off (some (.int kd l)) none K=(0<=l∧l<=(n:Int)∧l.toNat<n∧K (.hso b (off+l.toNat*sz) (n - l.toNat))):= .trans rfl rfl
theorem CN:Vh n sz b off none (some (.int kd h)) K=(0<=h∧h<=(n:Int)∧0<h.toNat∧K (.hso b (off+0*sz) (h.toNat - 0))):= .trans rfl rfl
theorem Bn:Vh n sz b off (some (.int ka l)) (some (.int kb h)) K=(0<=l∧l<=h∧h<=(n:Int)∧l.toNat<h.toNat∧K (.hso b (off+l.toNat*sz) (h.toNat - l.toNat))):= .trans rfl rfl
theorem HV:cw P t (.str s) lo hi K=(ky P t=true∧iH s lo hi K):= .trans rfl rfl
theorem MP {e:TypeId}:lI (some (e,sz)) xs lo hi K=((∀x∈xs,x.length=sz)∧nG xs lo hi K):= .trans rfl rfl
theorem Dj:iH s (some (.int kd l)) none K=(0<=l∧l<=(s.length:Int)∧K (.str ((s.take s.length).drop l.toNat))):= .trans rfl rfl
theorem Dm:iH s none (some (.int kd h)) K=(0<=h∧h<=(s.length:Int)∧K (.str ((s.take h.toNat).drop 0))):= .trans rfl rfl
theorem E5:nG s (some (.int kd l)) none K=(0<=l∧l<=(s.length:Int)∧K (.slc ((s.take s.length).drop l.toNat))):= .trans rfl rfl
theorem Bz:nG s none (some (.int kd h)) K=(0<=h∧h<=(s.length:Int)∧K (.slc ((s.take h.toNat).drop 0))):= .trans rfl rfl
theorem B9:nG s (some (.int ka l)) (some (.int kb h)) K=(0<=l∧l<=h∧h<=(s.length:Int)∧K (.slc ((s.take h.toNat).drop l.toNat))):= .trans rfl rfl
def MN (o:Option (Nat×Bool×Nat)) (x:D) (K:D->Prop):Prop:=match o,x with
  |some (off,_,_),.ptr b o=>K (.ptr b (o+off))
  |some (off,_,_),.eptr cs=>off<=cs.length∧K (.eptr (cs.drop off))
  |_,_=>False
theorem HU:qY P ρ H (.fieldAddr t x f) K=MN (ke P t f) (ρ x) K:= .trans rfl rfl
theorem MK:MN (some (off,ag,n)) (.ptr b o) K=K (.ptr b (o+off)):= .trans rfl rfl
theorem IZ:MN (some (off,ag,n)) (.eptr cs) K=(off<=cs.length∧K (.eptr (cs.drop off))):= .trans rfl rfl
def AM (o:Option (TypeId×Nat)) (xs:List (List D)) (n:Int) (K:D->Prop):Prop:=match o with
 |some (_,sz)=>0<=n∧n<(xs.length:Int)∧(xs.getD n.toNat []).length=sz∧K (.eptr (xs.getD n.toNat []))
 |none=>False
def Fe (o:Option (Nat×Nat)) (b off:Nat) (n:Int) (K:D->Prop):Prop:=match o with
 |some (m,sz)=>0<=n∧n<(m:Int)∧K (.ptr b (off+n.toNat*sz))
 |none=>False
def iaE (o:Option (Nat×Nat)) (cs:List D) (n:Int) (K:D->Prop):Prop:=match o with
 |some (m,sz)=>0<=n∧n<(m:Int)∧n.toNat*sz<=cs.length∧K (.eptr (cs.drop (n.toNat*sz)))
 |none=>False
def AX (o:Option (TypeId×Nat)) (b m:Nat) (n:Int) (K:D->Prop):Prop:=match o with
  |some (_,sz)=>0<=n∧n<(m:Int)∧K (.ptr b (n.toNat*sz))
  |none=>False
def Fk (o:Option (TypeId×Nat)) (b off m:Nat) (n:Int) (K:D->Prop):Prop:=match o with
  |some (_,sz)=>0<=n∧n<(m:Int)∧K (.ptr b (off+n.toNat*sz))
  |none=>False
def pO (P:Program) (t:TypeId) (x i:D) (K:D->Prop):Prop:=match x,i with
  | .slc xs,.int _ n=>AM (yb P t) xs n K
  | .hsl b m,.int _ n=>AX (yb P t) b m n K
  | .ptr b off,.int _ n=>Fe (KF P t) b off n K
  | .eptr cs,.int _ n=>iaE (KF P t) cs n K
  | .hso b off m,.int _ n=>Fk (yb P t) b off m n K
  | .osl _ _ xs,.int _ n=>AM (yb P t) xs n K
  | .hgs b m _,.int _ n=>AX (yb P t) b m n K
  |_,_=>False
theorem Lr:qY P ρ H (.indexAddr t x y) K=pO P t (ρ x) (ρ y) K:=by
 simp only [qY,pO,AM,Fe,iaE,AX,Fk]
 cases ρ x<;>first|rfl|(cases ρ y<;>rfl)
theorem LW:pO P t (.slc xs) (.int kd n) K=AM (yb P t) xs n K:= .trans rfl rfl
theorem IY:pO P t (.hso b off m) (.int kd n) K=Fk (yb P t) b off m n K:= .trans rfl rfl
theorem Bi {e:TypeId}:Fk (some (e,sz)) b off m n K=(0<=n∧n<(m:Int)∧K (.ptr b (off+n.toNat*sz))):= .trans rfl rfl
theorem Mz:pO P t (.ptr b off) (.int kd n) K=Fe (KF P t) b off n K:= .trans rfl rfl
theorem CE {e:TypeId}:AM (some (e,sz)) xs n K=(0<=n∧n<(xs.length:Int)∧(xs.getD n.toNat []).length=sz∧K (.eptr (xs.getD n.toNat []))):= .trans rfl rfl
theorem Dr:Fe (some (m,sz)) b off n K=(0<=n∧n<(m:Int)∧K (.ptr b (off+n.toNat*sz))):= .trans rfl rfl
def Fw (a:Option (Nat×Nat)) (e:Option Bool) (cs:List D) (n:Int) (K:D->Prop):Prop:=match a,e with
 |some (m,sz),some false=>sz=1∧0<=n∧n<(m:Int)∧m<=cs.length∧(fact (cs.getD n.toNat .any)->K (cs.getD n.toNat .any))
 |_,_=>False
def EJ (P:Program) (t:TypeId) (x i:D) (K:D->Prop):Prop:=match x,i with
  | .str s,.int _ n=>ky P t=true∧0<=n∧n<(s.length:Int)∧K (.int .u8 (s.getD n.toNat 0).toNat)
  | .agg cs,.int _ n=>Fw (KF P t) (BE P t) cs n K
  |_,_=>False
theorem Hq:qY P ρ H (.index t x y) K=EJ P t (ρ x) (ρ y) K:=by
 simp only [qY,EJ,Fw]
 cases ρ x<;>first|rfl|(cases ρ y<;>rfl)
theorem Hs:EJ P t (.agg cs) (.int kd n) K=Fw (KF P t) (BE P t) cs n K:= .trans rfl rfl
theorem Ba:Fw (some (m,sz)) (some false) cs n K=(sz=1∧0<=n∧n<(m:Int)∧m<=cs.length∧(fact (cs.getD n.toNat .any)->K (cs.getD n.toNat .any))):= .trans rfl rfl
theorem Mx:EJ P t (.str s) (.int kd n) K=(ky P t=true∧0<=n∧n<(s.length:Int)∧K (.int .u8 (s.getD n.toNat 0).toNat)):= .trans rfl rfl
def Hg (a:Option (Nat×Nat)) (x:D) (K:D->Prop):Prop:=match a,x with
  |some (m,_),.hso b off n=>m<=n∧K (.ptr b off)
  |some (m,sz),.slc xs=>sz=1∧m<=xs.length∧(∀x∈xs,x.length=1)∧K (.eptr (xs.take m).flatten)
  |_,_=>False
theorem FY:qY P ρ H (.sliceToArrayPointer t x) K=Hg (KF P t) (ρ x) K:= .trans rfl rfl
theorem Hk:Hg (some (m,sz)) (.hso b off n) K=(m<=n∧K (.ptr b off)):= .trans rfl rfl
theorem M3:Hg (some (m,sz)) (.slc xs) K=(sz=1∧m<=xs.length∧(∀x∈xs,x.length=1)∧K (.eptr (xs.take m).flatten)):= .trans rfl rfl
def ncD (x:D) (K:D->Prop):Prop:=match x with
  | .ptr b o=>K (.ptr b o)
  | .eptr cs=>K (.eptr cs)
  | .fn f cs=>K (.fn f cs)
  |_=>False
theorem LC:qY P ρ H (.nilCheck x) K=ncD (ρ x) K:= .trans rfl rfl
theorem FE:ncD (.ptr b o) K=K (.ptr b o):= .trans rfl rfl
def cN (P:Program) (t:TypeId) (x:D) (K:D->Prop):Prop:=match x with
 | .slc xs=>(yb P t).isSome=true∧(fact (.slc xs)->K (.int .i64 xs.length))
 | .hsl b n=>(yb P t).isSome=true∧K (.int .i64 n)
 | .hso b off n=>(yb P t).isSome=true∧K (.int .i64 n)
 | .hgs b n _=>(yb P t).isSome=true∧K (.int .i64 n)
 | .str s=>ky P t=true∧(fact (.str s)->K (.int .i64 s.length))
 |_=>False
theorem Ej:qY P ρ H (.call ⟨.builtin .len,#[x],#[t]⟩) K=cN P t (ρ x) K:=by
 simp only [qY,cN,List.map_cons,List.map_nil]
 cases ρ x<;>rfl
theorem HL:cN P t (.slc xs) K=((yb P t).isSome=true∧(fact (.slc xs)->K (.int .i64 xs.length))):= .trans rfl rfl
theorem Ia:cN P t (.hso b off n) K=((yb P t).isSome=true∧K (.int .i64 n)):= .trans rfl rfl
theorem IU:cN P t (.str s) K=(ky P t=true∧(fact (.str s)->K (.int .i64 s.length))):= .trans rfl rfl
def AK (mx:Bool) (a b:D) (K:D->Prop):Prop:=match a,b with
 | .int kd a,.int kb b=>kd=kb∧K (.int kd (if mx=true then (if b>a then b else a) else (if b<a then b else a)))
 |_,_=>False
theorem D7:qY P ρ H (.call ⟨.builtin .max,#[x,y],ts⟩) K=AK true (ρ x) (ρ y) K:=by
 simp only [qY,AK,List.map_cons,List.map_nil]
 cases ρ x<;>first|rfl|(cases ρ y<;>rfl)
theorem DT:qY P ρ H (.call ⟨.builtin .min,#[x,y],ts⟩) K=AK false (ρ x) (ρ y) K:=by
 simp only [qY,AK,List.map_cons,List.map_nil]
 cases ρ x<;>first|rfl|(cases ρ y<;>rfl)
theorem Mi:AK true (.int ka a) (.int kb b) K=(ka=kb∧K (.int ka (if b>a then b else a))):= .trans rfl rfl
theorem Hj:AK false (.int ka a) (.int kb b) K=(ka=kb∧K (.int ka (if b<a then b else a))):= .trans rfl rfl
end
section
variable {H:AH} {n:Nat} {x1 x2 x3 x4 x5 x6:Nat×AO}
theorem hP (h:H.length=n):back n (x1::x2::H)=H:=by
 rw [wz (by simp;omega),kK h]
theorem iD (h:H.length=n):back n (x1::x2::x3::H)=H:=by
 rw [wz (by simp;omega),hP h]
theorem Gl (h:H.length=n):back n (x1::x2::x3::x4::H)=H:=by
 rw [wz (by simp;omega),iD h]
theorem dX (h:H.length=n):back n (x1::x2::x3::x4::x5::H)=H:=by
 rw [wz (by simp;omega),Gl h]
theorem iX (h:H.length=n):back n (x1::x2::x3::x4::x5::x6::H)=H:=by
 rw [wz (by simp;omega),dX h]
end
def Fr (n:Nat) (ks:List (Nat×D)) (F:List D):Prop:=F.length=n∧go ks F
 where go:List (Nat×D)->List D->Prop
 | [],_=>True
 |(i,d)::r,F=>F[i]?=some d∧go r F
def frm (ks:List (Nat×D)) (z:Nat->D) (i:Nat):D:=match ks with
 | []=>z i
 |(j,d)::r=>if j=i then d else frm r z i
theorem Fr.at:∀{ks:List (Nat×D)} {F:List D},Fr.go ks F->∀i,i<F.length->F[i]?=some (frm ks (fun i=>F.getD i .any) i)
 | [],F,_,i,hi=>by simp [frm,List.getD_eq_getElem?_getD,Na hi]
 | (j,d)::r,F,h,i,hi=>by
  unfold frm
  split
  ·rename_i e;subst e;exact h.1
  ·exact Fr.at h.2 i hi
theorem Fr.lit (h:Fr n ks F):∃z:Nat->D,F=(List.range n).map (frm ks z):=by
 obtain ⟨rfl,h⟩:=h
 refine ⟨fun i=>F.getD i .any,List.ext_getElem? fun i=>?_⟩
 rcases Nt i F.length with hi|hi
 ·rw [Fr.at h i hi]
  simp [hi]
 ·simp [hi]
theorem XW.loopK (hm:P.follows .mixedOrders=true) (I:List D->AH->Prop) (μ:List D->AH->Nat) (h0:I F H)
  (round:∀F H,I F H->∀K:AQ,(∀F' H',I F' (back H.length H')->μ F' (back H.length H')<μ F H->K .normal F' H')->(∀i F' H',Q (.exit i) F' H'->K (.exit i) F' H')->(∀F' H',Q .ret F' H'->K .ret F' H')->xcode P x F H K):XW P x F H Q:=
 XW.loop hm I μ h0 fun F H hI=>round F H hI (pV I μ F H Q) (fun _ _ a b=>⟨a,b⟩) (fun _ _ _ h=>h) (fun _ _ h=>h)
theorem XW.loopKR (hm:P.follows .mixedOrders=true) (I:List D->AH->Prop) (μ:List D->AH->Nat) (h0:I F H)
  (round:∀F H,I F H->∀K:AQ,(∀F' H' H'',Sbn H'' H'->I F' H''->μ F' H''<μ F H->K .normal F' H')->(∀i F' H',Q (.exit i) F' H'->K (.exit i) F' H')->(∀F' H',Q .ret F' H'->K .ret F' H')->xcode P x F H K):XW P x F H Q:=
 XW.loopR hm I μ h0 fun F H hI=>round F H hI (iL I μ F H Q) (fun _ _ H'' a b c=>⟨H'',a,b,c⟩) (fun _ _ _ h=>h) (fun _ _ h=>h)
def rm (H:AH) (R:D->AH->Prop):D->Prop:=fun d=>∃H',Sbn H' H∧R d H'
theorem QT {R:D->AH->Prop}:rm H R d=∃H',Sbn H' H∧R d H':= .trans rfl rfl
theorem zM {R:D->AH->Prop}:Um P rs R .ret F H=QC P rs F H (rm H R):= .trans rfl rfl
theorem kX:wP .i64 n=(-9223372036854775808<=n∧n<=9223372036854775807):=by
 simp [wP,Lit.wf,IntKind.min,IntKind.max,IntKind.signed,IntKind.bits]
theorem qi (h: -9223372036854775808<=n) (h':n<=9223372036854775807):IntKind.i64.wrap n=n:=by
 rw [Go.IntWalk.i64_left,Go.IntWalk.wrap64_in _ ⟨h,h'⟩]
theorem qj (h:i<=big):IntKind.i64.wrap ((i:Int)+1)=((i+1:Nat):Int):=by
 have:=qk
 rw [qi (by omega) (by omega)]
 omega
section
variable {P:Program} {F:List D} {H:AH} {k:HK} {r:List XO} {dst:Option Tmp} {tk ta:Bool} {t u:TypeId} {K:D->Prop}
theorem Bu:(D.hsl b n).view= .hsl b n:= .trans rfl rfl
theorem IM:pO P t (.hsl b m) (.int kd n) K=AX (yb P t) b m n K:= .trans rfl rfl
theorem Bk:pO P t (.osl b c xs) (.int kd n) K=AM (yb P t) xs n K:= .trans rfl rfl
theorem Em {e:TypeId}:AX (some (e,sz)) b m n K=(0<=n∧n<(m:Int)∧K (.ptr b (n.toNat*sz))):= .trans rfl rfl
theorem Lz:pO P t (.hgs b m c) (.int kd n) K=AX (yb P t) b m n K:= .trans rfl rfl
theorem I6:cN P t (.hgs b n c) K=((yb P t).isSome=true∧K (.int .i64 n)):= .trans rfl rfl
def nN (P:Program) (z:Option (List D)) (e:TypeId) (a b:D) (dst:Option Tmp) (r:List XO) (F:List D) (H:AH) (k:HK):Prop:=match z,a,b with
 |some z,.int _ n,.int _ m=>n=m∧0<=n∧(match P.info? e with|some i=>(i.bytes:Int)*n<=140737488355328∧n<=140737488355328|none=>False)∧∀b,qH H b->xops P false r (qS F dst (.hsl b n.toNat)) ((b,.cells (List.replicate n.toNat z).flatten)::H) k
 |_,_,_=>False
def Ap (P:Program) (o:Option (TypeId×Nat)) (a b:D) (dst:Option Tmp) (r:List XO) (F:List D) (H:AH) (k:HK):Prop:=match o with
 |some (e,_)=>nN P (yA P e) e a b dst r F H k
 |none=>False
theorem Cy:xops P false (⟨.call ⟨.builtin .append,#[l,c],#[t]⟩,dst,none,tk,ta⟩::r) F H k=Ap P (yb P t) (rv F l) (rv F c) dst r F H k:=by
 have h0:xops P false (⟨.call ⟨.builtin .append,#[l,c],#[t]⟩,dst,none,tk,ta⟩::r) F H k=(false=false∧BI P t l c dst F H fun F' H'=>xops P false r F' H' k):= .trans rfl rfl
 rw [h0]
 unfold BI Ap
 cases yb P t with
 |none=>simp
 | some z=>
  obtain ⟨e,sz⟩:=z
  simp only [true_and]
  unfold nN
  cases yA P e<;>first|rfl|(cases rv F l<;>first|rfl|(cases rv F c<;>rfl))
theorem E7 {e:TypeId}:Ap P (some (e,sz)) a b dst r F H k=nN P (yA P e) e a b dst r F H k:= .trans rfl rfl
theorem Ec {e:TypeId}:nN P (some z) e (.int ka n) (.int kb m) dst r F H k=(n=m∧0<=n∧(match P.info? e with|some i=>(i.bytes:Int)*n<=140737488355328∧n<=140737488355328|none=>False)∧∀b,qH H b->xops P false r (qS F dst (.hsl b n.toNat)) ((b,.cells (List.replicate n.toNat z).flatten)::H) k):= .trans rfl rfl
def Mm (P:Program) (c:Option AO) (b n cap sz bs:Nat) (y:D) (d:Nat) (r:List XO) (F:List D) (H:AH) (k:HK):Prop:=match y,c with
 | .slc ys,some (.cells cs)=>(∀y∈ys,y.length=sz)∧cs.length=cap*sz∧(n+ys.length)*bs<=140737488355328∧(cs.take (n*sz)).all plain=true∧
   ∀b' cap' m,qH (qT H b) b'->n*sz+ys.length*sz+m=cap'*sz->xops P false r (F.set d (.hgs b' (n+ys.length) cap')) ((b',.cells (cs.take (n*sz)++(ys.flatten++List.replicate m .any)))::qT H b) k
 |_,_=>False
def xE (P:Program) (a:D) (o:Option (TypeId×Nat×Nat)) (y:D) (s d:Nat) (r:List XO) (F:List D) (H:AH) (k:HK):Prop:=match a,o with
 | .own [],some (_,sz,bs)=>match y with
  | .slc ys=>(∀y∈ys,y.length=sz)∧ys.length*bs<=140737488355328∧(ys= []->xops P false r ((F.set s (.slc [])).set d (.own [])) H k)∧
    (ys≠ []->∀b cap m,qH H b->ys.length*sz+m=cap*sz->xops P false r ((F.set s (.slc [])).set d (.hgs b ys.length cap)) ((b,.cells (ys.flatten++List.replicate m .any))::H) k)
  |_=>False
 | .hgs b n cap,some (_,sz,bs)=>Mm P (qn H b) b n cap sz bs y d r F H k
 |_,_=>False
theorem DW {v:TypeId}:xops P false (⟨.call ⟨.builtin .append,#[.tmp s,y],#[t,u,v]⟩,some d,none,tk,ta⟩::r) F H k=xE P (F.getD s .any) (Ko P t u) (rv F y) s d r F H k:=by
 have h0:xops P false (⟨.call ⟨.builtin .append,#[.tmp s,y],#[t,u,v]⟩,some d,none,tk,ta⟩::r) F H k=(false=false∧D9 P t u (.tmp s) y (some d) F H fun F' H'=>xops P false r F' H' k):= .trans rfl rfl
 rw [h0]
 unfold D9 xE
 simp only [true_and,ev]
 generalize F.getD s D.any=e
 generalize Ko P t u=q
 cases e<;>rfl
theorem Ep {e:TypeId}:xE P (.own []) (some (e,sz,bs)) (.slc ys) s d r F H k=((∀y∈ys,y.length=sz)∧ys.length*bs<=140737488355328∧(ys= []->xops P false r ((F.set s (.slc [])).set d (.own [])) H k)∧
    (ys≠ []->∀b cap m,qH H b->ys.length*sz+m=cap*sz->xops P false r ((F.set s (.slc [])).set d (.hgs b ys.length cap)) ((b,.cells (ys.flatten++List.replicate m .any))::H) k)):= .trans rfl rfl
theorem Df:(D.hgs b n c).view= .hgs b n c:= .trans rfl rfl
theorem xX:(D.hgs b n c).view1= .hgs b n c:= .trans rfl rfl
theorem Dt:fact (.hgs b n c)=True:= .trans rfl rfl
theorem iR {v v':TypeId}:xops P false (⟨.call ⟨.builtin .append,#[x,y],#[t,u,v,v']⟩,dst,none,tk,ta⟩::r) F H k=Gz F H fun F' H'=>xops P false (⟨.call ⟨.builtin .append,#[x,y],#[t,u]⟩,dst,none,false,false⟩::r) F' H' k:=by
 have h0:xops P false (⟨.call ⟨.builtin .append,#[x,y],#[t,u,v,v']⟩,dst,none,tk,ta⟩::r) F H k=(false=false∧Gz F H fun F' H'=>xops P false (⟨.call ⟨.builtin .append,#[x,y],#[t,u]⟩,dst,none,false,false⟩::r) F' H' k):= .trans rfl rfl
 rw [h0]
 simp only [true_and]
theorem vY:qT ((b,o)::H) b=H:=by simp [qT]
theorem uk (h:b≠c):qT ((c,o)::H) b=(c,o)::qT H b:=by simp [qT,h]
theorem kP (hz:Fz F H F' H') (h:xcode P x F' H' Q):xcode P (.gh x) F H Q:=Gz.of_fz hz h
theorem Jx:xcode P (.gh x) F H Q=Gz F H fun F' H'=>xcode P x F' H' Q:= .trans rfl rfl
end
section
variable {P:Program} {F:List D} {H H0:AH} {k:HK} {Q:AQ} {A:gw} {r:List (List XO×XO×Bool)} {last tail l:List XO} {x:XO} {S S':List Nat} {t s d:Nat} {tk ta fl:Bool} {K:gw->List Nat->HK} {g:Option (Option (Tmp×Bool))} {dst:Option Tmp}
def fj (P:Program) (A:gw) (tail:List XO) (H:AH) (k:HK):HK:=fun F' _=>YW P A tail F' H k
def Bj (P:Program) (x:XO) (fl:Bool) (r:List (List XO×XO×Bool)) (last tail:List XO) (H0:AH) (S:List Nat) (A:gw) (H:AH) (k:HK):HK:=fun F' _=>xtk P x fl H0 S A F' H fun A' S' F'' H''=>xsegs P r last tail H0 S' A' F'' H'' k
def DG (P:Program) (r:List (List XO×XO×Bool)) (last tail:List XO) (H0:AH) (k:HK):gw->List Nat->HK:=fun A' S' F'' H''=>xsegs P r last tail H0 S' A' F'' H'' k
theorem tM:xcode P (.regT qs segs last tail) F H Q=xsegs P segs last tail (VD F qs H) [] [] F H (Q .normal):= .trans rfl rfl
theorem LK:Up (.cells cs)= .cells (cs.map D.view1):= .trans rfl rfl
theorem ti:xcode P (.regV l tail) F H Q=xops P true l F H (fj P [] tail H (Q .normal)):= .trans rfl rfl
theorem IC:VD F [] H=H:= .trans rfl rfl
theorem IR:VD F (q::qs) H=VD F qs (lG (F.getD q .any) H):= .trans rfl rfl
theorem Id:lG (.ptr b off) H=qT H b:= .trans rfl rfl
def Fi (b:Bool) (q:Bool×List D) (o:Option (Bool×List D)):Option (Bool×List D):=match b with
 |true=>some q
 |false=>o
def EW (b:Bool) (d:Nat) (q x:Bool×List D) (r r':gw):gw:=match b with
 |true=>(d,x)::r
 |false=>(d,q)::r'
def F9 (d:Nat) (o:Option (Bool×List D)):Option (Nat×Bool×List D):=match o with
 |some (f,z)=>some (d,f,z)
 |none=>none
theorem Mq:lookv [] d=none:= .trans rfl rfl
theorem FU:lookv ((e,q)::A) d=Fi (d==e) q (lookv A d):=by
 unfold Fi
 show (if d=e then some q else lookv A d)=_
 by_cases h:d=e
 ·subst h;simp
 ·rw [if_neg h,show (d==e)=false by simpa using h]
theorem HA:Fi true q o=some q:= .trans rfl rfl
theorem LU:Fi false q o=o:= .trans rfl rfl
theorem Lh {e:Nat} {q x:Bool×List D} {A:gw}:setv ((e,q)::A) d x=EW (d==e) e q x A (setv A d x):=by
 unfold EW
 show (if d=e then (e,x)::A else (e,q)::setv A d x)=_
 by_cases h:d=e
 ·subst h;simp
 ·rw [if_neg h,show (d==e)=false by simpa using h]
theorem II {e:Nat} {q x:Bool×List D} {A A':gw}:EW true e q x A A'=(e,x)::A:= .trans rfl rfl
theorem HX {e:Nat} {q x:Bool×List D} {A A':gw}:EW false e q x A A'=(e,q)::A':= .trans rfl rfl
theorem Lx:cq A (.tmp d)=F9 d (lookv A d):=by
 show (lookv A d).map (fun q=>(d,q))=F9 d (lookv A d)
 cases lookv A d<;>rfl
theorem LP:F9 d none=none:= .trans rfl rfl
theorem FO:F9 d (some (f,z))=some (d,f,z):= .trans rfl rfl
theorem HP:YW P [] tail F H k=xops P false tail F H k:= .trans rfl rfl
theorem L9:YW P ((d,f,z)::A) tail F H k=∀b,qH H b->YW P A tail (F.set d (.ptr b 0)) ((b,.cells z)::H) k:= .trans rfl rfl
theorem Lb:xsegs P [] last tail H0 S A F H k=xops P true last F H0 (fj P A tail H k):= .trans rfl rfl
theorem H4:xsegs P ((l,x,fl)::r) last tail H0 S A F H k=xops P true l F H0 (Bj P x fl r last tail H0 S A H k):= .trans rfl rfl
theorem sE:fj P A tail H k F' H'=YW P A tail F' H k:= .trans rfl rfl
theorem BF:Bj P x fl r last tail H0 S A H k F' H'=xtk P x fl H0 S A F' H (DG P r last tail H0 k):= .trans rfl rfl
theorem xU:DG P r last tail H0 k A S' F' H'=xsegs P r last tail H0 S' A F' H' k:= .trans rfl rfl
def Ez (c:Option D) (cs:List D) (b off d:Nat) (fl:Bool) (H0:AH) (S:List Nat) (F:List D) (H:AH) (K:List Nat->HK):Prop:=match c with
 |some (.own xs)=>(qn H0 b=none∨qn H0 b=some (Up (.cells cs)))∧(fl=true∨b ∉ S)∧K (b::S) (F.set d (.own xs)) (qM H b (.cells (cs.set off (.slc xs))))
 |_=>False
def Fb (o:Option AO) (b off d:Nat) (fl:Bool) (H0:AH) (S:List Nat) (F:List D) (H:AH) (K:List Nat->HK):Prop:=match o with
 |some (.cells cs)=>Ez cs[off]? cs b off d fl H0 S F H K
 |_=>False
def Hx (ty:Option (Bool×Nat)) (a:D) (d:Nat) (fl:Bool) (H0:AH) (S:List Nat) (F:List D) (H:AH) (K:List Nat->HK):Prop:=match ty,a with
 |some (false,_),.ptr b off=>Fb (qn H b) b off d fl H0 S F H K
 |_,_=>False
theorem Hn:xtk P ⟨.load t (.tmp s),some d,none,tk,true⟩ fl H0 S A F H K=Hx (yr P t) (rv F (.tmp s)) d fl H0 S F H (K A):=by
 unfold xtk Hx Fb Ez
 simp only [true_and]
 rfl
theorem HI:Hx (some (false,n)) (.ptr b off) d fl H0 S F H K1=Fb (qn H b) b off d fl H0 S F H K1:= .trans rfl rfl
theorem Mb:Fb (some (.cells cs)) b off d fl H0 S F H K1=Ez cs[off]? cs b off d fl H0 S F H K1:= .trans rfl rfl
theorem LV:Ez (some (.own xs)) cs b off d fl H0 S F H K1=((qn H0 b=none∨qn H0 b=some (Up (.cells cs)))∧(fl=true∨b ∉ S)∧K1 (b::S) (F.set d (.own xs)) (qM H b (.cells (cs.set off (.slc xs))))):= .trans rfl rfl
def Cv (ag:Bool) (n off:Nat) (o:Option AO) (b:Nat) (y:Operand) (dst:Option Tmp) (fl:Bool) (H0:AH) (S:List Nat) (F:List D) (H:AH) (K1:List Nat->HK):Prop:=match o with
 | some (.cells cs)=>if ag=true then okc (rv F y)=true∧(cellsOf (rv F y)).length=n∧off+n<=cs.length∧qn H0 b=none∧(fl=true∨b ∉ S)∧K1 (b::S) (qS F dst (.tup [])) (qM H b (.cells (cs.take off++(cellsOf (rv F y)++cs.drop (off+n)))))
  else n=1∧off<cs.length∧one1 (ev F y)=true∧dst=none∧qn H0 b=none∧(fl=true∨b ∉ S)∧(match y with
    | .tmp s=>K1 (b::S) (F.set s (rv F y)) (qM H b (.cells (cs.set off (ev F y))))
    |_=>K1 (b::S) F (qM H b (.cells (cs.set off (ev F y)))))
 |_=>False
def Fo (ty:Option (Bool×Nat)) (a:D) (y:Operand) (dst:Option Tmp) (fl:Bool) (H0:AH) (S:List Nat) (F:List D) (H:AH) (K1:List Nat->HK):Prop:=match ty,a with
 |some (ag,n),.ptr b off=>Cv ag n off (qn H b) b y dst fl H0 S F H K1
 |_,_=>False
def Fy (ty:Option (Bool×Nat)) (d:Nat) (z:List D) (y:Operand) (dst:Option Tmp) (S:List Nat) (A:gw) (F:List D) (H:AH) (K:gw->List Nat->HK):Prop:=match ty with
 |some (true,n)=>okc (rv F y)=true∧(cellsOf (rv F y)).length=n∧n<=z.length∧K (setv A d (true,cellsOf (rv F y)++z.drop n)) S (qS F dst (.tup [])) H
 |_=>False
def FC (o:Option (Nat×Bool×List D)) (ty:Option (Bool×Nat)) (a:D) (y:Operand) (dst:Option Tmp) (fl:Bool) (H0:AH) (S:List Nat) (A:gw) (F:List D) (H:AH) (K:gw->List Nat->HK):Prop:=match o with
 |some (d,f,z)=>f=false∧Fy ty d z y dst S A F H K
 |none=>Fo ty a y dst fl H0 S F H (K A)
theorem H5:xtk P ⟨.store t a y,dst,g,tk,ta⟩ fl H0 S A F H K=FC (cq A a) (yr P t) (rv F a) y dst fl H0 S A F H K:=by
 unfold xtk FC Fy Fo Cv
 dsimp only
 generalize cq A a=e0
 generalize yr P t=e
 cases e0 with
 |some q=>rfl
 |none=>
 cases e with
 |none=>rfl
 | some q=>
  obtain ⟨ag,n⟩:=q
  generalize rv F a=e2
  cases e2<;>cases ag<;>try rfl
  all_goals
   rename_i b off
   dsimp only
   generalize qn H b=e3
   cases e3 with
   |none=>rfl
   |some e4=>cases e4<;>simp
theorem Mv:FC none ty p y dst fl H0 S A F H K=Fo ty p y dst fl H0 S F H (K A):= .trans rfl rfl
theorem Hw:FC (some (d,f,z)) ty p y dst fl H0 S A F H K=(f=false∧Fy ty d z y dst S A F H K):= .trans rfl rfl
theorem LZ:Fy (some (true,n)) d z y dst S A F H K=(okc (rv F y)=true∧(cellsOf (rv F y)).length=n∧n<=z.length∧K (setv A d (true,cellsOf (rv F y)++z.drop n)) S (qS F dst (.tup [])) H):= .trans rfl rfl
theorem Hb:Fo (some (ag,n)) (.ptr b off) y dst fl H0 S F H K1=Cv ag n off (qn H b) b y dst fl H0 S F H K1:= .trans rfl rfl
theorem Le:Cv false n off (some (.cells cs)) b (.tmp s) dst fl H0 S F H K1=(n=1∧off<cs.length∧one1 (F.getD s .any)=true∧dst=none∧qn H0 b=none∧(fl=true∨b ∉ S)∧K1 (b::S) (F.set s (rv F (.tmp s))) (qM H b (.cells (cs.set off (F.getD s .any))))):= .trans rfl rfl
theorem FG:Cv false n off (some (.cells cs)) b (.const v) dst fl H0 S F H K1=(n=1∧off<cs.length∧one1 (jD v)=true∧dst=none∧qn H0 b=none∧(fl=true∨b ∉ S)∧K1 (b::S) F (qM H b (.cells (cs.set off (jD v))))):= .trans rfl rfl
def H6 (d:Nat) (o:Option (List D)) (S:List Nat) (A:gw) (F:List D) (H:AH) (K:gw->List Nat->HK):Prop:=match o with
 |some z=>d<F.length∧lookv A d=none∧K ((d,false,z)::A) S (F.set d .any) H
 |none=>False
theorem LA:xtk P ⟨.alloc t,some d,g,tk,ta⟩ fl H0 S A F H K=H6 d (yA P t) S A F H K:=by
 unfold xtk H6
 dsimp only
 cases yA P t<;>rfl
theorem Hu:H6 d (some z) S A F H K=(d<F.length∧lookv A d=none∧K ((d,false,z)::A) S (F.set d .any) H):= .trans rfl rfl
def CF (S:List Nat) (F:List D) (dst:Option Tmp) (H:AH) (K:List Nat->HK):D->Prop:=fun d=>K S (qS F dst d) H
theorem Ag {K:List Nat->HK} {e:D}:CF S F dst H K e=K S (qS F dst e) H:= .trans rfl rfl
def iP (P:Program) (g:FuncId) (args:List D) (fl:Bool) (H0:AH) (S:List Nat) (H:AH) (K:List Nat->D->AH->Prop):Prop:=
 ∃d b ob ob',qn H0 b=none∧(fl=true∨b ∉ S)∧qn H b=some ob∧(∀H,qn H b=some ob->ACall P g args H (fun d' H'=>d'=d∧H'=qM H b ob'))∧K (b::S) d (qM H b ob')
def CR (F:List D) (dst:Option Tmp) (K:List Nat->HK):List Nat->D->AH->Prop:=fun S' d H'=>fact d.view->K S' (qS F dst d) H'
def HT (P:Program) (f:D) (args:List D) (fl:Bool) (H0:AH) (S:List Nat) (H:AH) (K:List Nat->D->AH->Prop):Prop:=match f with
 | .fn g caps=>iP P g (uv args caps) fl H0 S H K
 |_=>False
theorem HB:xtk P ⟨.call ⟨.value f,args,tys⟩,dst,g,tk,ta⟩ fl H0 S A F H K=HT P (rv F f) (args.toList.map (rv F)) fl H0 S H (CR F dst (K A)):=by
 unfold xtk HT
 dsimp only
 generalize rv F f=e
 cases e<;>rfl
theorem Lm {g:FuncId} {caps args:List D} {J:List Nat->D->AH->Prop}:HT P (.fn g caps) args fl H0 S H J=iP P g (uv args caps) fl H0 S H J:= .trans rfl rfl
theorem A0 {K:List Nat->HK} {e:D} {H':AH}:CR F dst K S' e H'=(fact e.view->K S' (qS F dst e) H'):= .trans rfl rfl
end
theorem p7:xcode P (.scope x) F H Q=xcode P x F H (V0 Q):= .trans rfl rfl
theorem eh:V0 Q .ret F H=Q .ret F H:= .trans rfl rfl
theorem iE:V0 Q (.exit i) F H=Q (.exit i) F H:= .trans rfl rfl
theorem js:∀{H:AH} {b:Nat},qH H b->qn H b=none
 | [],_,_=>rfl
 | (c,o)::r,b,h=>by
  unfold qn
  rw [if_neg h.1]
  exact js h.2
section
variable {P:Program} {F:List D} {H:AH} {k:HK} {r:List XO} {dst:Option Tmp} {t:TypeId} {K:D->Prop}
def AU (P:Program) (t:TypeId) (o:Option (List D)) (l:List (Nat×D)) (K:D->Prop):Prop:=match o with
 |some z=>jZ P t=true∧(∀p∈l,okc p.2=true)∧Jm P t (l.map fun p=>(p.1,cellsOf p.2)) (z.map Ue) K
 |none=>False
def LM (P:Program) (tys:List TypeId) (args:List D) (K:D->Prop):Prop:=match tys with
 |t::is=>AU P t (yA P t) (is.zip args) K
 | []=>False
theorem Lw:xops P false (⟨.call ⟨.builtin .complex,args,tys⟩,dst,none,tk,ta⟩::r) F H k=LM P tys.toList (args.toList.map (rv F)) (wC P false r F dst H k):=by
 unfold LM
 simp only [xops,xop,kJ]
 cases h:tys.toList with
 |nil=>simp only [vq,qY]
 | cons t is=>
  simp only [ZR,h,true_and,Bool.and_false]
  unfold lk AU
  cases yA P t with
  |none=>rfl
  | some z=>
   have:(is.zip args.toList).map (fun p=>(p.1,rv F p.2))=is.zip (args.toList.map (rv F)):=by
    rw [List.zip_map_right]
    rfl
   simp only [this]
   rfl
theorem L8:LM P (t::is) args K=AU P t (yA P t) (is.zip args) K:= .trans rfl rfl
theorem I9:AU P t (some z) l K=(jZ P t=true∧(l.all fun p=>okc p.2)=true∧Jm P t (l.map fun p=>(p.1,cellsOf p.2)) (z.map Ue) K):=by
 rw [List.all_eq_true]
 rfl
theorem xl:Ue (.own [])= .osl 0 0 []:= .trans rfl rfl
theorem Ah:Ue (.int kd n)= .int kd n:= .trans rfl rfl
theorem xm:Ue (.str l)= .str l:= .trans rfl rfl
theorem Bb:(D.osl b c xs).view= .osl b c xs:= .trans rfl rfl
theorem xF:(D.osl b c xs).view1= .osl b c xs:= .trans rfl rfl
theorem C1:fact (.osl b c xs)=True:= .trans rfl rfl
end
def YXZ:=PLift.up (And.intro (And.intro (And.intro @Lw @L8) (And.intro @I9 @xl)) (And.intro (And.intro @Ah @xm) (And.intro @Bb (And.intro @xF @C1))))
theorem XZ:type_of% YXZ.down:=YXZ.down
def jf (P:Program) (o:Option (TypeId×Nat)) (args:List D) (d:Nat) (r:List XO) (F:List D) (H:AH) (k:HK):Prop:=match o with
 | some (e,sz)=>args≠ []∧d<F.length∧(args.all fun x=>okc x&&(cellsOf x).length==sz)=true∧args.length*sz<=16777216∧(yA P e).isSome=true∧
  ∀b cap,qH H b->xops P false r (F.set d (.osl b cap (args.map cellsOf))) ((b,.room cap (args.map cellsOf))::H) k
 |none=>False
theorem HF {t:TypeId}:xops P false (⟨.call ⟨.builtin .real,args,#[t]⟩,some d,none,tk,ta⟩::r) F H k=jf P (yb P t) (args.toList.map (rv F)) d r F H k:=by
 have h0:xops P false (⟨.call ⟨.builtin .real,args,#[t]⟩,some d,none,tk,ta⟩::r) F H k=(false=false∧Ce P t args.toList (some d) F H fun F' H'=>xops P false r F' H' k):= .trans rfl rfl
 rw [h0]
 unfold Ce jf
 cases yb P t with
 |none=>simp
 | some q=>
  simp only [true_and,ne_eq,List.map_eq_nil_iff,List.length_map,Nz,List.all_map,List.all_eq_true,Function.comp_def,Nj,beq_iff_eq]
theorem Ed {e:TypeId}:jf P (some (e,sz)) args d r F H k=(args≠ []∧d<F.length∧(args.all fun x=>okc x&&(cellsOf x).length==sz)=true∧args.length*sz<=16777216∧(yA P e).isSome=true∧
  ∀b cap,qH H b->xops P false r (F.set d (.osl b cap (args.map cellsOf))) ((b,.room cap (args.map cellsOf))::H) k):= .trans rfl rfl
theorem E8:xcode P (.rgf g p t x) F H Q=XRF P g p t x F H Q:= .trans rfl rfl
theorem FP {t:TypeId}:
  xtk P ⟨.build t ps,dst,g,tk,ta⟩ fl H0 S A F H K=AU P t (yA P t) (ps.toList.map fun p=>(p.1,rv F p.2)) (CF S F dst H (K A)):=by
 unfold xtk lk AU
 dsimp only
 cases yA P t with
 |none=>rfl
 |some z=>rfl
def YXRb:=PLift.up (And.intro (And.intro (And.intro @E8 (And.intro @Ex @Il)) (And.intro @L5 (And.intro @MF @Hy))) (And.intro (And.intro @HF (And.intro @Mo @Ed)) (And.intro @Mh (And.intro @FP @Ag))))
theorem XRb:type_of% YXRb.down:=YXRb.down
def YXT:=PLift.up (And.intro (And.intro (And.intro (And.intro (And.intro @tM @LK) (And.intro @ti (And.intro @IC @IR))) (And.intro (And.intro @Id @Mq) (And.intro @FU (And.intro @HA @LU)))) (And.intro (And.intro (And.intro @Lh @II) (And.intro @HX (And.intro @Lx @LP))) (And.intro (And.intro @FO (And.intro @HP @L9)) (And.intro @Lb (And.intro @H4 @sE))))) (And.intro (And.intro (And.intro (And.intro @BF @xU) (And.intro @Hn (And.intro @HI @Mb))) (And.intro (And.intro @LV @HB) (And.intro @Lm (And.intro @A0 @H5)))) (And.intro (And.intro (And.intro @Mv @Hw) (And.intro @LZ (And.intro @Hb @Le))) (And.intro (And.intro @FG (And.intro @LA @Hu)) (And.intro @p7 (And.intro @eh @iE))))))
theorem XT:type_of% YXT.down:=YXT.down
def YXN:=PLift.up (And.intro (And.intro @Cy (And.intro @DW @Df)) (And.intro (And.intro @xX @Dt) (And.intro @Lz @I6)))
theorem XN:type_of% YXN.down:=YXN.down
def YXO2:=PLift.up (And.intro (And.intro @Bu (And.intro @IM @Em)) (And.intro (And.intro @E7 @Ec) (And.intro @Ep @vY)))
theorem XO2:type_of% YXO2.down:=YXO2.down
section
variable {P:Program} {ρ:Operand->D} {F:List D} {H:AH} {k:HK} {r:List XO} {dst:Option Tmp} {t:TypeId} {K:D->Prop} {m tk ta wk ok ag:Bool} {x y z:Operand} {l:List CT} {d i:D} {es:List (D×D)}
def ER (o:Option AO) (wk ag:Bool) (l:List CT) (z i:D) (ok:Bool) (K:D->Prop):Prop:=match o with
 |some (.mp es)=>ym ag l es i∧(fact (oQ ok z (ya es (cellsOf i)))->K (wkI wk (oQ ok z (ya es (cellsOf i)))))
 |_=>False
def Fl (o:Option (Bool×List CT×D)) (wk:Bool) (H:AH) (m i:D) (ok:Bool) (K:D->Prop):Prop:=match o,m with
 |some (ag,l,z),.mp none=>ym ag l [] i∧K (wkI wk (oQ ok z none))
 |some (ag,l,z),.mpv es=>ym ag l es i∧(fact (oQ ok z (ya es (cellsOf i)))->K (wkI wk (oQ ok z (ya es (cellsOf i)))))
 |some (ag,l,z),.mp (some b)=>ER (qn H b) wk ag l z i ok K
 |_,_=>False
theorem MM:Yi P wk t H dm di ok K=Fl (dq P t) wk H dm di ok K:=by
 unfold Yi Fl ER
 rfl
theorem M4:xops P m (⟨.lookup t x y ok,dst,none,tk,ta⟩::r) F H k=Fl (dq P t) true H (rv F x) (rv F y) ok (wC P m r F dst H k):=by
 rw [<-MM]
 rfl
theorem Ix:Fl (some (ag,l,d)) wk H (.mp (some b)) i ok K=ER (qn H b) wk ag l d i ok K:= .trans rfl rfl
theorem Hd:ER (some (.mp es)) wk ag l d i ok K=(ym ag l es i∧(fact (oQ ok d (ya es (cellsOf i)))->K (wkI wk (oQ ok d (ya es (cellsOf i)))))):= .trans rfl rfl
theorem Dg:xops P m (⟨.makeMap t none,dst,none,tk,ta⟩::r) F H k=∀b,qH H b->xops P false r (qS F dst (.mp (some b))) ((b,.mp [])::H) k:=by
 simp only [xops,xop,vq,kJ,ma,true_and,gu,Bool.not_true,Bool.false_and]
def IW (o:Option AO) (b:Nat) (ag:Bool) (l:List CT) (i v:D) (H:AH) (K:AH->Prop):Prop:=match o with
 |some (.mp es)=>ym ag l es i∧K (qM H b (.mp (oG es i v)))
 |_=>False
def muD (o:Option (Bool×List CT×D)) (H:AH) (m i v:D) (K:AH->Prop):Prop:=match o,m with
 |some (ag,l,z),.mp (some b)=>IW (qn H b) b ag l i v H K
 |_,_=>False
def Du (P:Program) (r:List XO) (F:List D) (dst:Option Tmp) (k:HK):AH->Prop:=fun H'=>xops P false r (qS F dst (.tup [])) H' k
theorem CO:xops P m (⟨.mapUpdate t x y z,dst,none,tk,ta⟩::r) F H k=muD (dq P t) H (rv F x) (rv F y) (rv F z) (Du P r F dst k):=by
 simp only [xops,xop,vq,kJ,ni,true_and,gu,Bool.not_true,Bool.false_and]
 rfl
theorem HJ {K:AH->Prop}:muD (some (ag,l,d)) H (.mp (some b)) i v K=IW (qn H b) b ag l i v H K:= .trans rfl rfl
theorem M7 {K:AH->Prop}:IW (some (.mp es)) b ag l i v H K=(ym ag l es i∧K (qM H b (.mp (oG es i v)))):= .trans rfl rfl
theorem so:Du P r F dst k H'=xops P false r (qS F dst (.tup [])) H' k:= .trans rfl rfl
theorem BD:xops P false (⟨.call ⟨.builtin .imag,#[],#[t]⟩,dst,none,tk,ta⟩::r) F H k=VZ P (.alloc t) dst F H fun F' H'=>xops P false r F' H' k:=by
 simp only [xops,xop,kJ,ZR,gu,Bool.and_false,true_and]
theorem C2:xops P false (⟨.call ⟨.builtin .imag,#[x],#[t]⟩,dst,none,tk,ta⟩::r) F H k=VZ P (.range t x) dst F H fun F' H'=>xops P false r F' H' k:=by
 simp only [xops,xop,kJ,ZR,gu,Bool.and_false,true_and]
theorem Cm:xops P false (⟨.call ⟨.builtin .imag,#[x],#[]⟩,dst,none,tk,ta⟩::r) F H k=VZ P (.next x false) dst F H fun F' H'=>xops P false r F' H' k:=by
 simp only [xops,xop,kJ,ZR,gu,Bool.and_false,true_and]
theorem CG {t':TypeId}:xops P false (⟨.call ⟨.builtin .imag,#[x],#[t,t']⟩,dst,none,tk,ta⟩::r) F H k=VZ P (.entry x) dst F H fun F' H'=>xops P false r F' H' k:=by
 simp only [xops,xop,kJ,ZR,gu,Bool.and_false,true_and]
def xK (P:Program) (r:List XO) (F:List D) (dst:Option Tmp) (k:HK):D->AH->Prop:=fun d H'=>xops P false r (qS F dst d) H' k
theorem Ct:xK P r F dst k d H=xops P false r (qS F dst d) H k:= .trans rfl rfl
def F7 (o:Option (TypeId×Nat)) (a:Option AO) (b off n:Nat) (s:List UInt8) (H:AH) (K:D->AH->Prop):Prop:=match o,a with
 |some (_,sz),some (.cells cs)=>sz=1∧off+n<=cs.length∧(fact (.str s)->K (.int .i64 (min s.length n:Nat)) (qM H b (.cells (cs.take off++((s.take n).map (fun c=>D.int .u8 c.toNat)++cs.drop (off+min s.length n))))))
 |_,_=>False
def Md (P:Program) (t:TypeId) (x y:D) (H:AH) (K:D->AH->Prop):Prop:=match x,y with
 | .hso b off n,.str s=>F7 (yb P t) (qn H b) b off n s H K
 |_,_=>False
theorem C4 {u:TypeId}:xops P m (⟨.call ⟨.builtin .copy,#[x,y],#[t,u]⟩,dst,none,tk,ta⟩::r) F H k=Md P t (rv F x) (rv F y) H (xK P r F dst k):=by
 simp only [xops,xop,vq,kJ,nw,true_and,gu,Bool.not_true,Bool.false_and,List.map_cons,List.map_nil]
 unfold Md F7 xK
 cases rv F x<;>first|rfl|(cases rv F y<;>rfl)
theorem IX {K:D->AH->Prop}:Md P t (.hso b off n) (.str s) H K=F7 (yb P t) (qn H b) b off n s H K:= .trans rfl rfl
theorem Lp {e:TypeId} {K:D->AH->Prop}:F7 (some (e,sz)) (some (.cells cs)) b off n s H K=(sz=1∧off+n<=cs.length∧(fact (.str s)->K (.int .i64 (min s.length n:Nat)) (qM H b (.cells (cs.take off++((s.take n).map (fun c=>D.int .u8 c.toNat)++cs.drop (off+min s.length n))))))):= .trans rfl rfl
theorem Dz:(D.hso b off n).view= .hso b off n:= .trans rfl rfl
theorem I8:fact (.mp o)=True:= .trans rfl rfl
theorem Iw:wkI true d=d.wkT:= .trans rfl rfl
theorem Is:(D.agg cs).wkA= .agg (cs.map D.wk1):= .trans rfl rfl
theorem Iq:(D.bool b).wkA= .bool b:= .trans rfl rfl
theorem HN:(D.int kd n).wk1= .int kd n:= .trans rfl rfl
end
def YXU:=PLift.up (And.intro (And.intro (And.intro (And.intro @M4 @Ix) (And.intro @Hd @Dg)) (And.intro (And.intro @CO @HJ) (And.intro @M7 @so))) (And.intro (And.intro (And.intro @Dz @I8) (And.intro @Iw @Is)) (And.intro (And.intro @Iq @HN) (And.intro @IY (And.intro @Bi @Ia)))))
theorem XU:type_of% YXU.down:=YXU.down
def YXA:=PLift.up (And.intro (And.intro (And.intro (And.intro (And.intro @xj (And.intro @BX @rr)) (And.intro @Bf (And.intro @tS @lF))) (And.intro (And.intro @AJ (And.intro @D5 @rK)) (And.intro (And.intro @ew @xL) (And.intro @tY @dR)))) (And.intro (And.intro (And.intro @Zp (And.intro @eC @xg)) (And.intro (And.intro @sn @DO) (And.intro @LX @Cs))) (And.intro (And.intro @CH (And.intro @Cx @De)) (And.intro (And.intro @th @E4) (And.intro @sy @pj))))) (And.intro (And.intro (And.intro (And.intro @En (And.intro @Ek @xp)) (And.intro (And.intro @nM @Ca) (And.intro @DC @DB))) (And.intro (And.intro @Br (And.intro @Es @si)) (And.intro (And.intro @D6 @Bp) (And.intro @xn @Aq)))) (And.intro (And.intro (And.intro @sv (And.intro @rI @HO)) (And.intro (And.intro @xi @Lc) (And.intro @IQ @Io))) (And.intro (And.intro @LY (And.intro @Hp @Ib)) (And.intro (And.intro @HE @Dq) (And.intro @DR @C5))))))
theorem XA:type_of% YXA.down:=YXA.down
def YXB:=PLift.up (And.intro (And.intro (And.intro (And.intro (And.intro (And.intro (And.intro @fK @xd) (And.intro @CM (And.intro @o_s @o_t))) (And.intro (And.intro @z_1 (And.intro @z_0 @z_2)) (And.intro @i_T (And.intro @i_F @CW)))) (And.intro (And.intro (And.intro @DA @i_N) (And.intro @Mp (And.intro @My @IH))) (And.intro (And.intro @FL (And.intro @g_U @rG)) (And.intro @sF (And.intro @nL @e_d))))) (And.intro (And.intro (And.intro (And.intro @e_0 @e_1) (And.intro @L0 (And.intro @ID @Mw))) (And.intro (And.intro @Hi (And.intro @ME @rD)) (And.intro @pn (And.intro @xZ @mB)))) (And.intro (And.intro (And.intro @Ey @Bq) (And.intro @Iv (And.intro @Ic @LB))) (And.intro (And.intro @B8 (And.intro @Dc @p_s)) (And.intro @p_n (And.intro @Db @nq)))))) (And.intro (And.intro (And.intro (And.intro (And.intro @rE @Ad) (And.intro @Bv (And.intro @xB @CK))) (And.intro (And.intro @Ei (And.intro @DP @DZ)) (And.intro @Aa (And.intro @Lg @BS)))) (And.intro (And.intro (And.intro @B7 @Im) (And.intro @sh (And.intro @pg @xk))) (And.intro (And.intro @xW (And.intro @t7 @Bx)) (And.intro @tt (And.intro @Eo @C0))))) (And.intro (And.intro (And.intro (And.intro @tC @D1) (And.intro @mS (And.intro @DV @ri))) (And.intro (And.intro @Cp (And.intro @l7 @A9)) (And.intro @Bl (And.intro @Bm @FX)))) (And.intro (And.intro (And.intro @ji @wT) (And.intro @nH (And.intro @E6 @tN))) (And.intro (And.intro @CJ (And.intro @tI @FQ)) (And.intro @M5 (And.intro @Er @FH))))))) (And.intro (And.intro (And.intro (And.intro (And.intro (And.intro @HS @HH) (And.intro @IJ (And.intro @Bg @If))) (And.intro (And.intro @sG (And.intro @Ll @L3)) (And.intro @MI (And.intro @La @DN)))) (And.intro (And.intro (And.intro @BG @D2) (And.intro @IF (And.intro @Mt @Hf))) (And.intro (And.intro @Ml (And.intro @HZ @I7)) (And.intro @rz (And.intro @As @tZ))))) (And.intro (And.intro (And.intro (And.intro @xD @Ax) (And.intro @sJ (And.intro @Ao @Ab))) (And.intro (And.intro @CZ (And.intro @xo @Av)) (And.intro @tB (And.intro @AB @xw)))) (And.intro (And.intro (And.intro @rS @sj) (And.intro @s7 (And.intro @xQ @xx))) (And.intro (And.intro @Ae (And.intro @C9 @Lf)) (And.intro @IV (And.intro @sT @Ie)))))) (And.intro (And.intro (And.intro (And.intro (And.intro @Mn @Ln) (And.intro @BB (And.intro @LQ @Ih))) (And.intro (And.intro @FV (And.intro @Hz @Mj)) (And.intro @Me (And.intro @MC @HV)))) (And.intro (And.intro (And.intro @MP @Dj) (And.intro @Dm (And.intro @E5 @Bz))) (And.intro (And.intro @B9 (And.intro @HU @MK)) (And.intro @IZ (And.intro @Lr @LW))))) (And.intro (And.intro (And.intro (And.intro @Mz @CE) (And.intro @Dr (And.intro @Hq @Mx))) (And.intro (And.intro @LC (And.intro @FE @Ej)) (And.intro @HL (And.intro @IU @D7)))) (And.intro (And.intro (And.intro @DT @Mi) (And.intro @Hj (And.intro @Un @kK))) (And.intro (And.intro @hP (And.intro @iD @Gl)) (And.intro @dX (And.intro @iX @qz))))))))
theorem XB:type_of% YXB.down:=YXB.down
def YXL:=PLift.up (And.intro (And.intro (And.intro (And.intro @Nat.zero_add (And.intro @Nat.add_zero @true_and)) (And.intro @and_true (And.intro @decide_true @decide_false))) (And.intro (And.intro @not_true (And.intro @not_false_iff @and_self)) (And.intro (And.intro @Bool.not_true @Bool.not_false) (And.intro @Nn @Nat.lt_irrefl)))) (And.intro (And.intro (And.intro @Nat.lt_add_one (And.intro @Nat.zero_lt_succ @Int.toNat_zero)) (And.intro (And.intro @Nd @Ng) (And.intro @decide_eq_true_eq @decide_eq_false_iff_not))) (And.intro (And.intro @Bool.not_eq_true' (And.intro @Bool.not_eq_false' @Bool.and_true)) (And.intro (And.intro @Bool.true_and @false_implies) (And.intro @Int.le_refl @Int.lt_irrefl)))))
theorem XL:type_of% YXL.down:=YXL.down
theorem XM.{u}:type_of% (And.intro (And.intro @forall_const.{u} @implies_true.{u}) (And.intro @List.not_mem_nil.{u} (And.intro @beq_self_eq_true.{u} @List.forall_mem_cons.{u}))):=(And.intro (And.intro @forall_const.{u} @implies_true.{u}) (And.intro @List.not_mem_nil.{u} (And.intro @beq_self_eq_true.{u} @List.forall_mem_cons.{u})))
def YXH:=PLift.up (And.intro (And.intro (And.intro (And.intro @DQ (And.intro @BC @DK)) (And.intro @LF (And.intro @Ew @Ij))) (And.intro (And.intro @Ms (And.intro @LJ @L7)) (And.intro @CP (And.intro @Dx @CN)))) (And.intro (And.intro (And.intro @Bn (And.intro @Hs @Ba)) (And.intro @Lv (And.intro @FY @Hk))) (And.intro (And.intro @M3 (And.intro @C4 @Ct)) (And.intro (And.intro @IX @Lp) (And.intro @Ex @C9)))))
theorem XH:type_of% YXH.down:=YXH.down
def YXI:=PLift.up (And.intro (And.intro @BD @C2) (And.intro @Cm @CG))
theorem XI:type_of% YXI.down:=YXI.down
def YXQ:=PLift.up (And.intro (And.intro (And.intro (And.intro (And.intro @List.length_cons.{0} @List.length_nil.{0}) (And.intro @List.replicate_succ.{0} (And.intro @List.replicate_zero.{0} @List.cons_append.{0}))) (And.intro (And.intro @List.nil_append.{0} (And.intro @List.append_nil.{0} @List.set_cons_succ.{0})) (And.intro @List.set_cons_zero.{0} (And.intro @List.getD_cons_succ.{0} @List.getD_cons_zero.{0})))) (And.intro (And.intro (And.intro @List.getElem?_cons_succ.{0} @List.getElem?_cons_zero.{0}) (And.intro @List.toList_toArray.{0} (And.intro @Option.isSome_some.{0} @Option.isSome_none.{0}))) (And.intro (And.intro @List.drop_succ_cons.{0} (And.intro @List.drop_zero.{0} @List.take_succ_cons.{0})) (And.intro @List.take_zero.{0} (And.intro @List.drop_nil.{0} @List.take_nil.{0}))))) (And.intro (And.intro (And.intro (And.intro @Option.getD_some.{0} @List.all_cons.{0}) (And.intro @List.all_nil.{0} (And.intro @List.map_cons.{0,0} @List.map_nil.{0,0}))) (And.intro (And.intro @Option.map_some.{0,0} (And.intro @Option.map_none.{0,0} @List.zip_cons_cons.{0,0})) (And.intro @List.zip_nil_right.{0,0} (And.intro @List.zip_nil_left.{0,0} @List.length_map.{0,0})))) (And.intro (And.intro (And.intro @List.range_zero (And.intro @Nv @Bool.or_true)) (And.intro @Bool.or_false (And.intro @Bool.true_or @Bool.false_or))) (And.intro (And.intro @true_or (And.intro @false_or @Bool.false_eq_true)) (And.intro @XB (And.intro @XO2 @XL))))))
theorem XQ:type_of% YXQ.down:=YXQ.down
def YXP:=PLift.up (And.intro (And.intro @XA @XN) (And.intro @XT (And.intro @XZ @XRb)))
theorem XP:type_of% YXP.down:=YXP.down
theorem JX:type_of% (And.intro @XP @XU):=And.intro @XP @XU
def YXW0:=PLift.up (And.intro (And.intro (And.intro (And.intro @cellsOf.eq_1 (And.intro @cellsOf.eq_2 @okc.eq_1)) (And.intro (And.intro @okc.eq_2 @okc.eq_3) (And.intro @okc.eq_4 @one1.eq_1))) (And.intro (And.intro (And.intro @one1.eq_2 @one1.eq_3) (And.intro @one1.eq_4 @resOne.eq_1)) (And.intro (And.intro @resOne.eq_2 @resAll.eq_1) (And.intro @resAll.eq_2 @eqCells.eq_1)))) (And.intro (And.intro (And.intro @eqCells.eq_2 (And.intro @eqCells.eq_3 @cellEq.eq_1)) (And.intro (And.intro @cellEq.eq_2 @cellEq.eq_3) (And.intro @cellEq.eq_4 @fits.eq_1))) (And.intro (And.intro (And.intro @fits.eq_2 @fits.eq_3) (And.intro @fits.eq_4 @fits.eq_5)) (And.intro (And.intro @sameK.eq_1 @sameK.eq_2) (And.intro @sameK.eq_3 @XQ)))))
theorem qp:type_of% YXW0.down:=YXW0.down
theorem XW1.{u}:type_of% (And.intro (And.intro @XM.{u} @ne_eq.{u}) (And.intro @ite_true.{u} @ite_false.{u})):=(And.intro (And.intro @XM.{u} @ne_eq.{u}) (And.intro @ite_true.{u} @ite_false.{u}))
abbrev D.i (n:Int):D:= .int .i64 n
def zz (z:Nat->D):Nat->Nat->List D->List D
 |_,0,r=>r
 |a,n+1,r=>z a::zz z (a+1) n r
def fl:List (Nat×D)->(Nat->D)->Nat->Nat->List D
 | [],z,p,n=>zz z p (n - p) []
 |(j,d)::r,z,p,n=>zz z p (j - p) (d::fl r z (j+1) n)
def fso:List (Nat×D)->Nat->Nat->Bool
 | [],p,n=>decide (p<=n)
 |(j,_)::r,p,n=>decide (p<=j)&&decide (j<n)&&fso r (j+1) n
theorem dG (z:Nat->D):∀k p r,zz z p k r=(List.range' p k).map z++r
 |0,_,_=>rfl
 |k+1,p,r=>by rw [zz,dG z k (p+1) r];rfl
theorem hM {z:Nat->D}:∀{ks:List (Nat×D)} {p n i:Nat},fso ks p n=true->i<p->frm ks z i=z i
 | [],_,_,_,_,_=>rfl
 | (j,_)::r,p,n,i,h,hi=>by
  simp only [fso,Nj,decide_eq_true_eq] at h
  rw [frm,if_neg (by omega),hM h.2 (by omega)]
theorem ro {z:Nat->D}:∀{ks:List (Nat×D)} {p n:Nat},fso ks p n=true->fl ks z p n=(List.range' p (n - p)).map (frm ks z)
 | [],p,n,_=>by rw [fl,dG,Nw];rfl
 | (j,d)::r,p,n,h=>by
  have h0:=h
  simp only [fso,Nj,decide_eq_true_eq] at h
  obtain ⟨⟨h1,h2⟩,h3⟩:=h
  have e:n - p=(j - p)+((n - (j+1))+1):=by omega
  rw [fl,dG,ro h3,e,<-List.range'_append_1,Nm,show p+(j - p)=j by omega,List.range'_succ,List.map_cons]
  congr 1
  ·exact N0 fun i hi=>by
    have:=List.mem_range'_1.1 hi
    rw [frm,if_neg (by omega),hM h3 (by omega)]
  ·congr 1
   ·rw [frm,if_pos rfl]
   ·exact N0 fun i hi=>by
     have:=List.mem_range'_1.1 hi
     rw [frm,if_neg (by omega)]
theorem Fr.fl {n:Nat} {ks:List (Nat×D)} {F:List D} (h:Fr n ks F) (hs:fso ks 0 n=true):∃z:Nat->D,F=Aw.fl ks z 0 n:=by
 obtain ⟨z,hz⟩:=h.lit
 exact ⟨z,by rw [hz,ro hs,Nat.sub_zero,List.range_eq_range']⟩
end Go.Aw
namespace Go.Xs
open Go Go.Aw
abbrev t (n:Tmp):Operand:= .tmp n
abbrev i (n:Int):Operand:= .const (.int .i64 n)
abbrev a (o:Op) (d:Tmp):XO:=⟨o,some d,none,false,false⟩
abbrev b (o:Op) (d:Tmp):XO:=⟨o,some d,none,true,false⟩
abbrev c (o:Op) (d:Tmp):XO:=⟨o,some d,none,true,true⟩
abbrev s (o:Op):XO:=⟨o,none,none,false,false⟩
abbrev g (o:Op) (d g:Tmp) (w:Bool):XO:=⟨o,some d,some (some (g,w)),false,false⟩
abbrev m (x d:Tmp):XO:=⟨.move (.tmp x),some d,none,false,false⟩
abbrev n (x d:Tmp):XO:=⟨.assign (.tmp x),some d,none,false,false⟩
abbrev l (u:TypeId) (x d:Tmp):XO:=⟨.load u (.tmp x),some d,none,false,false⟩
abbrev f (u:TypeId) (x:Tmp) (k:Nat) (d:Tmp):XO:=⟨.fieldAddr u (.tmp x) k,some d,none,false,false⟩
abbrev w (u:TypeId) (x y:Tmp):XO:=⟨.store u (.tmp x) (.tmp y),none,none,false,false⟩
abbrev j (u:TypeId) (x y d:Tmp):XO:=⟨.indexAddr u (.tmp x) (.tmp y),some d,none,false,false⟩
abbrev e (u:TypeId) (x d:Tmp):XO:=⟨.call ⟨.builtin .len,#[.tmp x],#[u]⟩,some d,none,false,false⟩
abbrev k (f:FuncId) (x:Array Operand) (y:Array TypeId):Op:= .call ⟨.value (.func f),x,y⟩
abbrev p (o:BinOp) (u:TypeId) (x y d:Tmp):XO:=⟨.binOp o u (.tmp x) (.tmp y) u,some d,none,false,false⟩
abbrev q (o:BinOp) (u:TypeId) (x:Tmp) (n:Int) (d:Tmp):XO:=⟨.binOp o u (.tmp x) (i n) u,some d,none,false,false⟩
abbrev P (o:BinOp) (u:TypeId) (x y d:Tmp):XO:=⟨.binOp o u (.tmp x) (.tmp y) u,some d,none,true,false⟩
abbrev Q (o:BinOp) (u:TypeId) (x:Tmp) (n:Int) (d:Tmp):XO:=⟨.binOp o u (.tmp x) (i n) u,some d,none,true,false⟩
abbrev p' (o:BinOp) (u:TypeId) (x y d g:Tmp) (w:Bool):XO:=⟨.binOp o u (.tmp x) (.tmp y) u,some d,some (some (g,w)),false,false⟩
abbrev q' (o:BinOp) (u:TypeId) (x:Tmp) (n:Int) (d g:Tmp) (w:Bool):XO:=⟨.binOp o u (.tmp x) (i n) u,some d,some (some (g,w)),false,false⟩
abbrev l' (u:TypeId) (x d g:Tmp) (w:Bool):XO:=⟨.load u (.tmp x),some d,some (some (g,w)),false,false⟩
abbrev f' (u:TypeId) (x:Tmp) (k:Nat) (d g:Tmp) (w:Bool):XO:=⟨.fieldAddr u (.tmp x) k,some d,some (some (g,w)),false,false⟩
abbrev m' (x d g:Tmp) (w:Bool):XO:=⟨.move (.tmp x),some d,some (some (g,w)),false,false⟩
abbrev L (u:TypeId) (x d:Tmp):XO:=⟨.load u (.tmp x),some d,none,true,false⟩
abbrev M (x d:Tmp):XO:=⟨.move (.tmp x),some d,none,true,false⟩
abbrev N (x d:Tmp):XO:=⟨.move (.tmp x),some d,none,true,true⟩
abbrev A (n:Int) (d:Tmp):XO:=⟨.assign (i n),some d,none,false,false⟩
abbrev J (n:Int) (d:Tmp):XO:=⟨.move (i n),some d,none,false,false⟩
abbrev S (d:Tmp):XO:=⟨.assign (.const (.string ⟨#[]⟩)),some d,none,false,false⟩
abbrev Z (d:Tmp):XO:=⟨.assign (.const (.slice none 0 0)),some d,none,false,false⟩
abbrev B (u:TypeId) (x d:Tmp):XO:=⟨.box u (.tmp x),some d,none,false,false⟩
abbrev E (x k:Tmp) (d:Tmp):XO:=⟨.extract (.tmp x) k,some d,none,true,false⟩
abbrev k1 (f:FuncId) (x:Tmp) (u:TypeId) (d:Tmp):XO:=⟨k f #[.tmp x] #[u],some d,none,false,false⟩
abbrev k2 (f:FuncId) (x y:Tmp) (u v:TypeId) (d:Tmp):XO:=⟨k f #[.tmp x,.tmp y] #[u,v],some d,none,false,false⟩
abbrev k3 (f:FuncId) (x y z:Tmp) (u v w:TypeId) (d:Tmp):XO:=⟨k f #[.tmp x,.tmp y,.tmp z] #[u,v,w],some d,none,false,false⟩
abbrev K1 (f:FuncId) (x:Tmp) (u:TypeId) (d:Tmp):XO:=⟨k f #[.tmp x] #[u],some d,none,true,false⟩
abbrev K2 (f:FuncId) (x y:Tmp) (u v:TypeId) (d:Tmp):XO:=⟨k f #[.tmp x,.tmp y] #[u,v],some d,none,true,false⟩
abbrev K3 (f:FuncId) (x y z:Tmp) (u v w:TypeId) (d:Tmp):XO:=⟨k f #[.tmp x,.tmp y,.tmp z] #[u,v,w],some d,none,true,false⟩
abbrev R (l:List XO) (x:XC):XC:= .seq (.reg l) x
abbrev u {p:Op} {d:Option Tmp}:XO:=⟨p,d,none,false,false⟩
abbrev v {p:Op} {d:Option Tmp}:XO:=⟨p,d,none,true,false⟩
abbrev x {p:Op} {d:Option Tmp}:XO:=⟨p,d,none,true,true⟩
abbrev y {p:Op} {d:Option Tmp} (t:Tmp):XO:=⟨p,d,some (some (t,true)),false,false⟩
abbrev z {p:Op} {d:Option Tmp} (t:Tmp):XO:=⟨p,d,some (some (t,false)),false,false⟩
abbrev I {c:Operand} {i:Nat}:XC:= .cond c .skip (.exit i)
abbrev T {c:Operand} (x:XC):XC:= .cond c x .skip
abbrev V {c:Operand} (x y:XC):XC:= .cond c x y
abbrev O {i:Nat} (x:XC):XC:= .block i x
abbrev U {i:Nat} (x:XC):XC:= .block i (.loop x)
abbrev X (x y:XC):XC:= .seq x y
abbrev r (l:List XO):XC:= .reg l
abbrev G (l:List XO):XC:= .regD l
abbrev F (l:List XO):XC:= .seq (.reg l) .ret
def xo2 (ops:List Oper):Oper->XO
 |{op:=p,dst:=d,guard:=g,..}=>⟨p,d,(match g with|none=>none|some (j,want)=>match (ops[j]?).bind (·.dst) with|some t=>some (some (t,want))|none=>some none),(match d with|some e=>takes ops e|none=>false),(match d with|some e=>Vd ops e|none=>false)⟩
def cm:Code->XC
 | .skip=>.skip
 | .label _=>.skip
 | .region _ ops false=>.reg (ops.toList.map (xo2 ops.toList))
 | .region _ ops true=>.regD (ops.toList.map (xo2 ops.toList))
 | .seq x y=>.seq (cm x) (cm y)
 | .cond c x y=>.cond c (cm x) (cm y)
 | .block i c=>.block i (cm c)
 | .exit i=>.exit i
 | .ret=>.ret
 | .loop c=>.loop (cm c)
 | .scope c=>.scope (cm c)
 |_=>.bad
def pre:Code->List Code->List Code
 | .seq x y,r=>.seq x y::pre x (pre y r)
 | .cond c x y,r=>.cond c x y::pre x (pre y r)
 | .block i c,r=>.block i c::pre c r
 | .loop c,r=>.loop c::pre c r
 | .scope c,r=>.scope c::pre c r
 |c,r=>c::r
noncomputable def yy (f:Func) (k:Nat):XC:=cm (((f.body.map fun c=>pre c []).getD []).getD k .skip)
abbrev C (x:Tmp) (y z:XC):XC:= .cond (.tmp x) y z
end Go.Xs
end
section
namespace Go.Aw
open Go Go.RowKit Go.ChangeShapes Go.WideShapes
open Go.Proofs.YtgopigkdcmhbbaaGreatDoor
section
variable {P:Program}
theorem Vm {W:World} {d:D} {v:Value} (h1:v.oneCell'=true) (h:RepV (fun _=>.imm) W d v):∀(j:Nat) (d':D) (v':Value),[d][j]?=some d'-> [v][j]?=some v'->v'.oneCell'=true∧RepV (fun _=>.imm) W d' v':=by
 intro j d' v' hd hv
 cases j with
 | zero=>
  simp only [Nf,Option.some.injEq] at hd hv
  subst hd;subst hv
  exact ⟨h1,h⟩
 |succ j=>simp at hd
theorem Wv {W:World} {b:Nat} {a:Addr} {n:Nat} {cs:List Value} (h:W.cells? b a n=some cs):cs.length=n∧∀j v,cs[j]?=some v->W.cell? (a.add j)=some v:=by
 unfold World.cells? at h
 split at h
 ·have hl:cs.length=n:=by simpa using mapM_some_length h
  refine ⟨hl,fun j v hj=>?_⟩
  have hlt:j<n:=by rw [<-hl];exact (List.getElem?_eq_some_iff.1 hj).1
  rw [mapM_some_get h j j (by simp [hlt]),hj]
 ·cases h
theorem GI {W:World} {a:Addr} {v:Value} (h:W.cell? a=some v):a.spot=none∧a.block<W.heap.size:=by
 unfold World.cell? at h
 split at h
 ·rename_i c _ _ he
  split at h
  ·cases h
  ·rename_i hs
   refine ⟨by cases hq:a.spot with|none=>rfl|some z=>rw [hq] at hs;exact (hs rfl).elim,?_⟩
   rcases Nt a.block W.heap.size with h'|h'
   ·exact h'
   ·rw [Array.getElem?_eq_none h'] at he
    cases he
 ·cases h
theorem Jj {α β:Type} {R:Nat->α->β->Prop}:∀(xs:List α) (k:Nat),(∀i x,xs[i]?=some x->∃y,R (k+i) x y)->∃ys:List β,ys.length=xs.length∧∀i x y,xs[i]?=some x->ys[i]?=some y->R (k+i) x y
 | [],k,_=>⟨[],rfl,fun i x y h=>by simp at h⟩
 | x::xs,k,h=>by
  obtain ⟨y,hy⟩:=h 0 x rfl
  obtain ⟨ys,h1,h2⟩:=Jj xs (k+1) (R:=R) (fun i x' hx=>by
   obtain ⟨y',hy'⟩:=h (i+1) x' (by simpa using hx)
   exact ⟨y',by rw [show k+1+i=k+(i+1) by omega];exact hy'⟩)
  refine ⟨y::ys,by simp [h1],fun i x' y' hx hy'=>?_⟩
  cases i with
  | zero=>
   simp only [Nf,Option.some.injEq] at hx hy'
   subst hx;subst hy'
   exact hy
  | succ i=>
   have:=h2 i x' y' (by simpa using hx) (by simpa using hy')
   rw [show k+(i+1)=k+1+i by omega]
   exact this
def rk (P:Program) (t:TypeId):Bool:=match P.underlying t with|some (.struct _)|some (.array _ _)=>true|_=>false
theorem Vf {W W':World} (h:Go.RowKit.Below W.heap.size W W') {b off:Nat} (hb:b<W.heap.size):W'.frozen? ⟨b,off,none⟩=W.frozen? ⟨b,off,none⟩:=by
 simp only [World.frozen?,h.block b hb]
theorem GH {W W':World} (h:Go.RowKit.Below W.heap.size W W') {p:MemPlace} (hp:p.block<W.heap.size):W.sameAt W' p:=by
 cases p with
 |cell b off=>exact jb (h.block b hp) off
 |map b=>exact h.block b hp
theorem Gq {W W':World} (h:Go.RowKit.Below W.heap.size W W') (may:MemPlace->Prop):W.keptBut W' may:=by
 refine ⟨h.os,h.output,fun i hi=>?_⟩
 rw [h.block i hi]
 cases W.heap[i]? with
 |none=>rfl
 |some o=>cases o<;>simp
theorem gn {H:Type} {enc:TypeId×Value->H} {W W':World} (h:Go.RowKit.Below W.heap.size W W') {base:Nat} {sp:Nat->Bool} {held:Bool}:∀{ts:List TypeId} {vs:List Value} {ds:List (DataW H)} {ps:List MemPlace},
  DataW.TrodAll enc P W base sp held ts vs ds ps->(∀p∈ps,p.block<W.heap.size)->DataW.TrodAll enc P W' base sp held ts vs ds ps
 | [],[],[],_,hA,_=>hA
 |_::_,_::_,_::_,_,⟨p,q,⟨fuel,h1⟩,h2,e⟩,hp=>⟨p,q,⟨fuel,DataW.trod_carry _ _ _ _ h1 (fun x hx=>GH h (hp x (by rw [e];exact List.mem_append_left _ hx)))⟩,gn h h2 (fun x hx=>hp x (by rw [e];exact List.mem_append_right _ hx)),e⟩
theorem cg {f:Func} {s:ChangeSpec} {apart fresh handsOn again:Bool} {W W':World} {args:Array Value} {H:Type} {enc:TypeId×Value->H} {ds gs:List (DataW H)} {before:List MemPlace} {t:TypeId} {T:TypeId->Prop}
  (K:Kids P T) (hz:∀t e,T t->P.underlying t=some (.slice e)->0<P.cellsOf e) (hT:∀t∈f.params.toList,T t)
  (hW:DataW.Whole enc P f.params.toList s.vars apart W args.toList ds gs before) (hv:s.vars= [])
  (hb:Go.RowKit.Below W.heap.size W W') (hr:f.resultTypes=#[t]) (ht:P.underlying t=some .bool)
  (hs:s.fn H (ds++gs)={results:= [.lit (.bool true)],args:=ds}):
  s.post enc P f apart fresh handsOn again W args (.bool true) W':=by
 have hW':=hW
 have hlt:=hW.lt
 obtain ⟨p,q,hA,hV,rfl,hfz,hnd⟩:=hW
 rw [hv] at hV
 obtain ⟨rfl,rfl⟩:=trodVars_none hV
 simp only [Nw] at hlt hfz hnd hW' hs
 have hA':=gn hb hA hlt
 have hres:∀(b:Nat) (sp:Nat->Bool) (hd:Bool),DataW.TrodAll enc P W' b sp hd f.resultTypes.toList ((Value.bool true).resultList f.resultTypes.size) [.lit (.bool true)] []:=fun b sp hd=>by
  rw [hr]
  exact trodAll_cons_mk (shut_bool ht true) trodAll_mk0
 refine ⟨ds,[],p,[],p,[],hW',?_,?_,?_,Gq hb _,fun _=>⟨?_,[.lit (.bool true)]++ds,[],p,⟨[]++p,[],?_,?_,by simp,?_,?_⟩,fun p hp _=>hp⟩⟩
 ·rw [Nw,hs];exact hres _ _ _
 ·rw [Nw,hs];exact DataW.TrodAll.respare K hz hT hA' (fun x hx=>by simpa using hlt x hx)
 ·rw [Nw,hs,hv];rfl
 ·exact ok_one hr rfl (okWide_bool_mk ht true)
 ·exact trodAll_append hA' (hres _ _ _)
 ·rw [hv];rfl
 ·intro b off hp
  rw [Vf hb (b:=b) (off:=off) (hlt _ hp)]
  exact hfz b off hp
 ·exact hnd
end
end Go.Aw
end
noncomputable section
namespace Go.Proofs.YtgopigkdcmhbbaaGreatDoor
open Go.Xs
open Go Go.Aw
theorem hm:Tryz.prog.follows .mixedOrders=true:=by kernel_rfl
theorem hmm:Tryz.prog.follows .mixedOrders=true:=by kernel_rfl
def Bt (f:FuncId) (n:Nat) (x:XC) (rs:List ResultVar):Prop:=∀{args:List D} {H:AH} {R:D->AH->Prop},(facts args->xcode Tryz.prog x (args++List.replicate (n - args.length) (.tup [])) H (jX Tryz.prog rs H.length R))->ACall Tryz.prog f args H R
theorem bt {f:FuncId} {fn:Func} {c:Code} {x:XC} {n:Nat} {rs:List ResultVar} (hf:(Tryz.prog).funcs[f]?=some fn) (hb:fn.body=some c) (hk:(KA fn&&QJ Tryz.prog f&&oF x c&&decide (fn.ntmps=n))=true:=by kernel_rfl) (hx:cmp c=er x:=by kernel_rfl) (hr:fn.results.toList=rs:=by kernel_rfl):Bt f n x rs:=by
 simp only [Nj,decide_eq_true_eq] at hk
 exact fun h=>Gw hm hf hb hk.1.1.1 hk.1.1.2 hx hk.1.2 hk.2 hr h
theorem TYX:Ko Tryz.prog 22 22=(some (3,(1,8)))∧Ko Tryz.prog 23 23=(some (64,(2,16)))∧Ko Tryz.prog 24 24=(some (71,(13,136)))∧Ko Tryz.prog 31 31=(some (9,(1,16)))∧Ko Tryz.prog 49 49=(some (35,(17,24)))∧Ko Tryz.prog 55 9=(some (5,(1,1)))∧Ko Tryz.prog 55 55=(some (5,(1,1)))∧Ko Tryz.prog 67 67=(some (66,(3,24)))∧Ko Tryz.prog 72 72=(some (26,(6,88)))∧Ko Tryz.prog 102 102=(some (158,(1,24)))∧Ko Tryz.prog 109 109=(some (33,(16,16)))∧Ko Tryz.prog 110 110=(some (109,(1,24)))∧KF Tryz.prog 33=(some (16,1))∧KF Tryz.prog 136=(some (2,1))∧KF Tryz.prog 155=(some (68,1))∧KF Tryz.prog 177=(some (32,1))∧KF Tryz.prog 180=(some (8,1))∧KF Tryz.prog 181=(some (64,1))∧KF Tryz.prog 203=(some (64,1))∧KF Tryz.prog 207=(some (4,1))∧jT Tryz.prog 26 0=(some (0,(false,1)))∧jT Tryz.prog 26 1=(some (1,(false,1)))∧jT Tryz.prog 26 2=(some (2,(false,1)))∧jT Tryz.prog 26 4=(some (4,(false,1)))∧jT Tryz.prog 35 0=(some (0,(true,16)))∧jT Tryz.prog 35 1=(some (16,(false,1)))∧jT Tryz.prog 40 0=(some (0,(false,1)))∧jT Tryz.prog 40 1=(some (1,(false,1)))∧jT Tryz.prog 64 0=(some (0,(false,1)))∧jT Tryz.prog 64 1=(some (1,(false,1)))∧jT Tryz.prog 66 0=(some (0,(false,1)))∧jT Tryz.prog 66 1=(some (1,(false,1)))∧jT Tryz.prog 66 2=(some (2,(false,1)))∧jT Tryz.prog 69 0=(some (0,(false,1)))∧jT Tryz.prog 69 1=(some (1,(false,1)))∧jT Tryz.prog 71 0=(some (0,(false,1)))∧jT Tryz.prog 71 1=(some (1,(true,3)))∧jT Tryz.prog 71 2=(some (4,(true,3)))∧jT Tryz.prog 71 3=(some (7,(false,1)))∧jT Tryz.prog 71 4=(some (8,(false,1)))∧jT Tryz.prog 71 5=(some (9,(false,1)))∧jT Tryz.prog 71 6=(some (10,(false,1)))∧jT Tryz.prog 71 7=(some (11,(true,2)))∧jT Tryz.prog 124 0=(some (0,(false,1)))∧jT Tryz.prog 136 0=(some (0,(false,1)))∧jT Tryz.prog 136 1=(some (1,(false,1)))∧jT Tryz.prog 139 0=(some (0,(false,1)))∧jT Tryz.prog 145 0=(some (0,(false,1)))∧jT Tryz.prog 145 2=(some (2,(false,1)))∧jT Tryz.prog 145 3=(some (3,(false,1)))∧jT Tryz.prog 145 4=(some (4,(false,1)))∧jT Tryz.prog 180 0=(some (0,(false,1)))∧jT Tryz.prog 180 1=(some (1,(false,1)))∧jT Tryz.prog 180 2=(some (2,(false,1)))∧jT Tryz.prog 180 3=(some (3,(false,1)))∧jT Tryz.prog 180 4=(some (4,(false,1)))∧jT Tryz.prog 180 5=(some (5,(false,1)))∧jT Tryz.prog 180 6=(some (6,(false,1)))∧jT Tryz.prog 180 7=(some (7,(false,1)))∧jT Tryz.prog 183 0=(some (0,(true,8)))∧jT Tryz.prog 207 0=(some (0,(false,1)))∧jT Tryz.prog 207 1=(some (1,(false,1)))∧jT Tryz.prog 207 2=(some (2,(false,1)))∧jT Tryz.prog 207 3=(some (3,(false,1)))∧BE Tryz.prog 203=(some false)∧rg Tryz.prog 33=(some [.i,.i,.i,.i,.i,.i,.i,.i,.i,.i,.i,.i,.i,.i,.i,.i])∧rg Tryz.prog 64=(some [.i,.i])∧rg Tryz.prog 66=(some [.i,.i,.i])∧rg Tryz.prog 69=(some [.i,.i])∧ke Tryz.prog 26 0=(some (0,(false,1)))∧ke Tryz.prog 26 1=(some (1,(false,1)))∧ke Tryz.prog 26 2=(some (2,(false,1)))∧ke Tryz.prog 26 3=(some (3,(false,1)))∧ke Tryz.prog 26 4=(some (4,(false,1)))∧ke Tryz.prog 26 5=(some (5,(false,1)))∧ke Tryz.prog 35 0=(some (0,(true,16)))∧ke Tryz.prog 35 1=(some (16,(false,1)))∧ke Tryz.prog 40 0=(some (0,(false,1)))∧ke Tryz.prog 40 1=(some (1,(false,1)))∧ke Tryz.prog 64 0=(some (0,(false,1)))∧ke Tryz.prog 64 1=(some (1,(false,1)))∧ke Tryz.prog 66 0=(some (0,(false,1)))∧ke Tryz.prog 66 1=(some (1,(false,1)))∧ke Tryz.prog 66 2=(some (2,(false,1)))∧ke Tryz.prog 69 0=(some (0,(false,1)))∧ke Tryz.prog 69 1=(some (1,(false,1)))∧ke Tryz.prog 71 0=(some (0,(false,1)))∧ke Tryz.prog 71 1=(some (1,(true,3)))∧ke Tryz.prog 71 2=(some (4,(true,3)))∧ke Tryz.prog 71 3=(some (7,(false,1)))∧ke Tryz.prog 71 4=(some (8,(false,1)))∧ke Tryz.prog 71 5=(some (9,(false,1)))∧ke Tryz.prog 71 6=(some (10,(false,1)))∧ke Tryz.prog 71 7=(some (11,(true,2)))∧ke Tryz.prog 104 0=(some (0,(false,1)))∧ke Tryz.prog 104 1=(some (1,(false,1)))∧ke Tryz.prog 124 0=(some (0,(false,1)))∧ke Tryz.prog 124 1=(some (1,(false,1)))∧ke Tryz.prog 139 0=(some (0,(false,1)))∧ke Tryz.prog 145 0=(some (0,(false,1)))∧ke Tryz.prog 145 1=(some (1,(false,1)))∧ke Tryz.prog 145 2=(some (2,(false,1)))∧ke Tryz.prog 145 3=(some (3,(false,1)))∧ke Tryz.prog 145 4=(some (4,(false,1)))∧ke Tryz.prog 145 5=(some (5,(false,1)))∧ke Tryz.prog 145 6=(some (6,(false,1)))∧ke Tryz.prog 145 7=(some (7,(true,2)))∧ke Tryz.prog 183 0=(some (0,(true,8)))∧ke Tryz.prog 183 1=(some (8,(true,64)))∧ke Tryz.prog 183 2=(some (72,(false,1)))∧jZ Tryz.prog 26=true∧jZ Tryz.prog 33=true∧jZ Tryz.prog 35=true∧jZ Tryz.prog 40=true∧jZ Tryz.prog 64=true∧jZ Tryz.prog 66=true∧jZ Tryz.prog 69=true∧jZ Tryz.prog 71=true∧jZ Tryz.prog 104=true∧jZ Tryz.prog 124=true∧jZ Tryz.prog 136=true∧jZ Tryz.prog 139=true∧jZ Tryz.prog 145=true∧jZ Tryz.prog 180=true∧jZ Tryz.prog 183=true∧jZ Tryz.prog 207=true∧YX Tryz.prog 3=(some .i64)∧YX Tryz.prog 5=(some .u8)∧YX Tryz.prog 153=(some .u64)∧YX Tryz.prog 154=(some .u64)∧YX Tryz.prog 179=(some .u32)∧gX Tryz.prog 4=true∧yM Tryz.prog 55=true∧ky Tryz.prog 9=true∧ky Tryz.prog 55=false∧gA Tryz.prog 3=true∧gA Tryz.prog 5=true∧gA Tryz.prog 153=true∧gA Tryz.prog 179=true∧dq Tryz.prog 134=(some (true,([.i,.i],(.agg [(.int .u8 0),(.int .u8 0),(.int .u8 0),(.int .u8 0),(.int .u8 0),(.int .u8 0),(.int .u8 0),(.int .u8 0),(.int .u8 0),(.int .u8 0),(.int .u8 0),(.int .u8 0),(.int .u8 0),(.int .u8 0),(.int .u8 0),(.int .u8 0)]))))∧yb Tryz.prog 22=(some (3,1))∧yb Tryz.prog 23=(some (64,2))∧yb Tryz.prog 24=(some (71,13))∧yb Tryz.prog 31=(some (9,1))∧yb Tryz.prog 49=(some (35,17))∧yb Tryz.prog 55=(some (5,1))∧yb Tryz.prog 67=(some (66,3))∧yb Tryz.prog 72=(some (26,6))∧yb Tryz.prog 102=(some (158,1))∧yb Tryz.prog 109=(some (33,16))∧yb Tryz.prog 110=(some (109,1))∧yb Tryz.prog 158=(some (4,1))∧yr Tryz.prog 3=(some (false,1))∧yr Tryz.prog 4=(some (false,1))∧yr Tryz.prog 5=(some (false,1))∧yr Tryz.prog 9=(some (false,1))∧yr Tryz.prog 22=(some (false,1))∧yr Tryz.prog 23=(some (false,1))∧yr Tryz.prog 24=(some (false,1))∧yr Tryz.prog 26=(some (true,6))∧yr Tryz.prog 33=(some (true,16))∧yr Tryz.prog 35=(some (true,17))∧yr Tryz.prog 40=(some (true,2))∧yr Tryz.prog 55=(some (false,1))∧yr Tryz.prog 64=(some (true,2))∧yr Tryz.prog 66=(some (true,3))∧yr Tryz.prog 67=(some (false,1))∧yr Tryz.prog 69=(some (true,2))∧yr Tryz.prog 71=(some (true,13))∧yr Tryz.prog 72=(some (false,1))∧yr Tryz.prog 85=(some (false,1))∧yr Tryz.prog 96=(some (false,1))∧yr Tryz.prog 102=(some (false,1))∧yr Tryz.prog 104=(some (true,2))∧yr Tryz.prog 109=(some (false,1))∧yr Tryz.prog 134=(some (false,1))∧yr Tryz.prog 136=(some (true,2))∧yr Tryz.prog 139=(some (true,1))∧yr Tryz.prog 145=(some (true,9))∧yr Tryz.prog 153=(some (false,1))∧yr Tryz.prog 158=(some (false,1))∧yr Tryz.prog 177=(some (true,32))∧yr Tryz.prog 179=(some (false,1))∧yr Tryz.prog 180=(some (true,8))∧yr Tryz.prog 183=(some (true,73))∧yr Tryz.prog 203=(some (true,64))∧yr Tryz.prog 207=(some (true,4))∧yA Tryz.prog 3=(some [(.int .i64 0)])∧yA Tryz.prog 22=(some [(.own [])])∧yA Tryz.prog 26=(some [(.int .i64 0),(.int .i64 0),(.int .i64 0),(.own []),(.own []),(.str [])])∧yA Tryz.prog 33=(some [(.int .u8 0),(.int .u8 0),(.int .u8 0),(.int .u8 0),(.int .u8 0),(.int .u8 0),(.int .u8 0),(.int .u8 0),(.int .u8 0),(.int .u8 0),(.int .u8 0),(.int .u8 0),(.int .u8 0),(.int .u8 0),(.int .u8 0),(.int .u8 0)])∧yA Tryz.prog 35=(some [(.int .u8 0),(.int .u8 0),(.int .u8 0),(.int .u8 0),(.int .u8 0),(.int .u8 0),(.int .u8 0),(.int .u8 0),(.int .u8 0),(.int .u8 0),(.int .u8 0),(.int .u8 0),(.int .u8 0),(.int .u8 0),(.int .u8 0),(.int .u8 0),(.int .i64 0)])∧yA Tryz.prog 40=(some [(.str []),(.int .i64 0)])∧yA Tryz.prog 55=(some [(.own [])])∧yA Tryz.prog 64=(some [(.int .i64 0),(.int .i64 0)])∧yA Tryz.prog 66=(some [(.int .i64 0),(.int .i64 0),(.int .i64 0)])∧yA Tryz.prog 69=(some [(.int .i64 0),(.int .i64 0)])∧yA Tryz.prog 71=(some [(.int .i64 0),(.int .i64 0),(.int .i64 0),(.int .i64 0),(.int .i64 0),(.int .i64 0),(.int .i64 0),(.own []),(.int .i64 0),(.str []),(.str []),(.int .i64 0),(.int .i64 0)])∧yA Tryz.prog 85=(some [.nilfn])∧yA Tryz.prog 96=(some [.nilfn])∧yA Tryz.prog 104=(some [(.own []),(.own [])])∧yA Tryz.prog 124=(some [(.own []),(.bool false)])∧yA Tryz.prog 134=(some [(.mp none)])∧yA Tryz.prog 136=(some [(.int .i64 0),(.int .i64 0)])∧yA Tryz.prog 139=(some [(.own [])])∧yA Tryz.prog 145=(some [(.bool false),(.bool false),(.bool false),(.bool false),(.bool false),(.int .i64 0),(.int .i64 0),(.int .i64 0),(.int .i64 0)])∧yA Tryz.prog 155=(some [(.int .i64 0),(.int .i64 0),(.int .i64 0),(.int .i64 0),(.int .i64 0),(.int .i64 0),(.int .i64 0),(.int .i64 0),(.int .i64 0),(.int .i64 0),(.int .i64 0),(.int .i64 0),(.int .i64 0),(.int .i64 0),(.int .i64 0),(.int .i64 0),(.int .i64 0),(.int .i64 0),(.int .i64 0),(.int .i64 0),(.int .i64 0),(.int .i64 0),(.int .i64 0),(.int .i64 0),(.int .i64 0),(.int .i64 0),(.int .i64 0),(.int .i64 0),(.int .i64 0),(.int .i64 0),(.int .i64 0),(.int .i64 0),(.int .i64 0),(.int .i64 0),(.int .i64 0),(.int .i64 0),(.int .i64 0),(.int .i64 0),(.int .i64 0),(.int .i64 0),(.int .i64 0),(.int .i64 0),(.int .i64 0),(.int .i64 0),(.int .i64 0),(.int .i64 0),(.int .i64 0),(.int .i64 0),(.int .i64 0),(.int .i64 0),(.int .i64 0),(.int .i64 0),(.int .i64 0),(.int .i64 0),(.int .i64 0),(.int .i64 0),(.int .i64 0),(.int .i64 0),(.int .i64 0),(.int .i64 0),(.int .i64 0),(.int .i64 0),(.int .i64 0),(.int .i64 0),(.int .i64 0),(.int .i64 0),(.int .i64 0),(.int .i64 0)])∧yA Tryz.prog 177=(some [(.int .u8 0),(.int .u8 0),(.int .u8 0),(.int .u8 0),(.int .u8 0),(.int .u8 0),(.int .u8 0),(.int .u8 0),(.int .u8 0),(.int .u8 0),(.int .u8 0),(.int .u8 0),(.int .u8 0),(.int .u8 0),(.int .u8 0),(.int .u8 0),(.int .u8 0),(.int .u8 0),(.int .u8 0),(.int .u8 0),(.int .u8 0),(.int .u8 0),(.int .u8 0),(.int .u8 0),(.int .u8 0),(.int .u8 0),(.int .u8 0),(.int .u8 0),(.int .u8 0),(.int .u8 0),(.int .u8 0),(.int .u8 0)])∧yA Tryz.prog 180=(some [(.int .u32 0),(.int .u32 0),(.int .u32 0),(.int .u32 0),(.int .u32 0),(.int .u32 0),(.int .u32 0),(.int .u32 0)])∧yA Tryz.prog 181=(some [(.int .u8 0),(.int .u8 0),(.int .u8 0),(.int .u8 0),(.int .u8 0),(.int .u8 0),(.int .u8 0),(.int .u8 0),(.int .u8 0),(.int .u8 0),(.int .u8 0),(.int .u8 0),(.int .u8 0),(.int .u8 0),(.int .u8 0),(.int .u8 0),(.int .u8 0),(.int .u8 0),(.int .u8 0),(.int .u8 0),(.int .u8 0),(.int .u8 0),(.int .u8 0),(.int .u8 0),(.int .u8 0),(.int .u8 0),(.int .u8 0),(.int .u8 0),(.int .u8 0),(.int .u8 0),(.int .u8 0),(.int .u8 0),(.int .u8 0),(.int .u8 0),(.int .u8 0),(.int .u8 0),(.int .u8 0),(.int .u8 0),(.int .u8 0),(.int .u8 0),(.int .u8 0),(.int .u8 0),(.int .u8 0),(.int .u8 0),(.int .u8 0),(.int .u8 0),(.int .u8 0),(.int .u8 0),(.int .u8 0),(.int .u8 0),(.int .u8 0),(.int .u8 0),(.int .u8 0),(.int .u8 0),(.int .u8 0),(.int .u8 0),(.int .u8 0),(.int .u8 0),(.int .u8 0),(.int .u8 0),(.int .u8 0),(.int .u8 0),(.int .u8 0),(.int .u8 0)])∧yA Tryz.prog 183=(some [(.int .u32 0),(.int .u32 0),(.int .u32 0),(.int .u32 0),(.int .u32 0),(.int .u32 0),(.int .u32 0),(.int .u32 0),(.int .u8 0),(.int .u8 0),(.int .u8 0),(.int .u8 0),(.int .u8 0),(.int .u8 0),(.int .u8 0),(.int .u8 0),(.int .u8 0),(.int .u8 0),(.int .u8 0),(.int .u8 0),(.int .u8 0),(.int .u8 0),(.int .u8 0),(.int .u8 0),(.int .u8 0),(.int .u8 0),(.int .u8 0),(.int .u8 0),(.int .u8 0),(.int .u8 0),(.int .u8 0),(.int .u8 0),(.int .u8 0),(.int .u8 0),(.int .u8 0),(.int .u8 0),(.int .u8 0),(.int .u8 0),(.int .u8 0),(.int .u8 0),(.int .u8 0),(.int .u8 0),(.int .u8 0),(.int .u8 0),(.int .u8 0),(.int .u8 0),(.int .u8 0),(.int .u8 0),(.int .u8 0),(.int .u8 0),(.int .u8 0),(.int .u8 0),(.int .u8 0),(.int .u8 0),(.int .u8 0),(.int .u8 0),(.int .u8 0),(.int .u8 0),(.int .u8 0),(.int .u8 0),(.int .u8 0),(.int .u8 0),(.int .u8 0),(.int .u8 0),(.int .u8 0),(.int .u8 0),(.int .u8 0),(.int .u8 0),(.int .u8 0),(.int .u8 0),(.int .u8 0),(.int .u8 0),(.int .u64 0)])∧yA Tryz.prog 203=(some [(.int .u32 0),(.int .u32 0),(.int .u32 0),(.int .u32 0),(.int .u32 0),(.int .u32 0),(.int .u32 0),(.int .u32 0),(.int .u32 0),(.int .u32 0),(.int .u32 0),(.int .u32 0),(.int .u32 0),(.int .u32 0),(.int .u32 0),(.int .u32 0),(.int .u32 0),(.int .u32 0),(.int .u32 0),(.int .u32 0),(.int .u32 0),(.int .u32 0),(.int .u32 0),(.int .u32 0),(.int .u32 0),(.int .u32 0),(.int .u32 0),(.int .u32 0),(.int .u32 0),(.int .u32 0),(.int .u32 0),(.int .u32 0),(.int .u32 0),(.int .u32 0),(.int .u32 0),(.int .u32 0),(.int .u32 0),(.int .u32 0),(.int .u32 0),(.int .u32 0),(.int .u32 0),(.int .u32 0),(.int .u32 0),(.int .u32 0),(.int .u32 0),(.int .u32 0),(.int .u32 0),(.int .u32 0),(.int .u32 0),(.int .u32 0),(.int .u32 0),(.int .u32 0),(.int .u32 0),(.int .u32 0),(.int .u32 0),(.int .u32 0),(.int .u32 0),(.int .u32 0),(.int .u32 0),(.int .u32 0),(.int .u32 0),(.int .u32 0),(.int .u32 0),(.int .u32 0)])∧yA Tryz.prog 207=(some [(.int .u32 0),(.int .u32 0),(.int .u32 0),(.int .u32 0)])∧yA Tryz.prog 4=(some [(.bool false)])∧yA Tryz.prog 5=(some [(.int .u8 0)])∧yA Tryz.prog 9=(some [(.str [])])∧yA Tryz.prog 109=(some [(.own [])])∧yA Tryz.prog 158=(some [(.own [])]):=by
 repeat' apply And.intro
 all_goals kernel_rfl
theorem qh:type_of% (And.intro @qp @TYX):=And.intro @qp @TYX
theorem unf {c d:XC} (h:c=d) {F:List D} {H:AH} {Q:AQ}:xcode Tryz.prog c F H Q=xcode Tryz.prog d F H Q:=h▸ .trans rfl rfl
theorem aI {a b:Prop} (h:a) (k:b):a∧b:=⟨h,k⟩
def AY:=yy Tryz.f16
def V16:=PLift.up (aI (@unf (AY 5) (T (r [u,u,v,u])) rfl) (aI (@unf (AY 8) (F [u,u,v,u]) rfl) (@unf (AY 0) (R [u] (X (R [u,u] (AY 5)) (AY 8))) rfl)))
theorem U16:type_of% V16.down:=V16.down
theorem rA:Bt 16 13 (AY 0) [(.tmp 4)]:=bt Tryz.func16 rfl
def B3:=yy Tryz.f57
def V57:=PLift.up (aI (@unf (B3 10) (F [u,u,u,u,u,v,u]) rfl) (aI (@unf (B3 2) (X (R [u,u,u,z 9,z 9,z 9,z 9,u] (T (F [u]))) (B3 10)) rfl) (@unf (B3 0) (R [u] (B3 2)) rfl)))
theorem Fd:type_of% V57.down:=V57.down
theorem b57:Bt 57 21 (B3 0) [(.tmp 6)]:=bt Tryz.func57 rfl
def x59_s0:XC:=(R [m 0 5,m 1 6,m 0 7,e 22 7 8,a (.call ⟨(.builtin .min),#[t 6,t 8],#[3,3]⟩) 9,b (.slice 22 (t 5) (.some (t 9)) .none .none) 10,n 10 4] .ret)
theorem A1:type_of% (@unf _ _ x59_s0.eq_1):=unf x59_s0.eq_1
def x59:XC:=(R [Z 4] x59_s0)
theorem b59:Bt 59 11 x59 [(.tmp 4)]:=bt Tryz.func59 rfl
def oH:=yy Tryz.f143
def V143:=PLift.up (aI (aI (aI (@unf (oH 24) (r [u,v,u]) rfl) (@unf (oH 21) (X (O (G [u,u,u,u,u,u,u,u,u,u,u,u,u,u,u,u,u,u,v,u])) (oH 24)) rfl)) (aI (@unf (oH 15) (X (R [u,u,u] I) (oH 21)) rfl) (@unf (oH 25) (X (R [u,u,u] (T (F [u]))) (F [v,u])) rfl))) (aI (aI (@unf (oH 8) (R [u,v,u] (X (R [u] (U (oH 15))) (oH 25))) rfl) (@unf (oH 6) (R [u,u,u,u,u,u,v,u] (oH 8)) rfl)) (aI (@unf (oH 4) (R [x,u,v,u] (oH 6)) rfl) (aI (@unf (oH 2) (R [x,u,v,u] (oH 4)) rfl) (@unf (oH 0) (R [u] (oH 2)) rfl)))))
theorem Zg:type_of% V143.down:=V143.down
theorem Ii:Bt 143 50 (oH 0) [(.tmp 2)]:=bt Tryz.func143 rfl
def n7:=yy Tryz.f147
def V147:=PLift.up (aI (@unf (n7 2) (F [v,u]) rfl) (@unf (n7 0) (R [u] (n7 2)) rfl))
theorem U147:type_of% V147.down:=V147.down
theorem IT:Bt 147 2 (n7 0) [(.tmp 0)]:=bt Tryz.func147 rfl
def mL:=yy Tryz.f127
def V127:=PLift.up (aI (@unf (mL 2) (F [v,u]) rfl) (@unf (mL 0) (R [u] (mL 2)) rfl))
theorem U127:type_of% V127.down:=V127.down
theorem MA:Bt 127 2 (mL 0) [(.tmp 0)]:=bt Tryz.func127 rfl
def d7:=yy Tryz.f126
def V126:=PLift.up (aI (@unf (d7 6) (R [x,u,u,v,u,u] (F [v,u])) rfl) (aI (@unf (d7 4) (R [x,u,u,v,u] (d7 6)) rfl) (@unf (d7 0) (R [u,u,u] (R [u] (d7 4))) rfl)))
theorem BN:type_of% V126.down:=V126.down
theorem HR:Bt 126 16 (d7 0) [(.cell 4 26)]:=bt Tryz.func126 rfl
def JA:=yy Tryz.f128
def V128:=PLift.up (aI (aI (@unf (JA 12) (r [u,u,u,v,u]) rfl) (aI (@unf (JA 8) (X (R [u,u,u] (T (JA 12))) (F [v,u])) rfl) (@unf (JA 6) (X (G [u,u,u,u,u,u,v,u]) (JA 8)) rfl))) (aI (@unf (JA 4) (X (G [u,u,u,u,u,v,u]) (JA 6)) rfl) (aI (@unf (JA 2) (R [u,u,u,u,u,u,u,v,u,u] (JA 4)) rfl) (@unf (JA 0) (R [u,u,u] (JA 2)) rfl))))
theorem fX:type_of% V128.down:=V128.down
theorem LL:Bt 128 37 (JA 0) [(.cell 6 26)]:=bt Tryz.func128 rfl
def wV:=yy Tryz.f125
def V125:=PLift.up (aI (aI (aI (@unf (wV 32) (G [x,u,u,u,u,u,u,u,u,u,u,u,u,u,u,u,v,u]) rfl) (aI (@unf (wV 34) (r [u,v,u]) rfl) (@unf (wV 27) (X (O (R [u,u,u,u,u,y 35,y 35,y 35,y 35,y 35,y 35,y 35,y 35,y 35,y 35,y 35,y 35,u] (T (wV 32)))) (wV 34)) rfl))) (aI (@unf (wV 21) (X (R [u,u,u,u,u,u,u,u,u] I) (wV 27)) rfl) (aI (@unf (wV 35) (r [u,v,u]) rfl) (@unf (wV 9) (X (R [u,u,u,u,u] I) (X (O (R [u] (U (wV 21)))) (wV 35))) rfl)))) (aI (aI (@unf (wV 52) (r [x,u,u,u,u,u,u,u,v,u]) rfl) (aI (@unf (wV 54) (r [u,v,u]) rfl) (@unf (wV 47) (X (O (R [u,u,u,u,u,u,u,u] (T (wV 52)))) (wV 54)) rfl))) (aI (aI (@unf (wV 41) (X (R [u,u,u,u,u] I) (wV 47)) rfl) (@unf (wV 36) (X (R [u] (U (wV 41))) (F [v,u])) rfl)) (aI (@unf (wV 2) (R [u] (X (R [u] (U (wV 9))) (wV 36))) rfl) (@unf (wV 0) (R [u,u,u] (wV 2)) rfl)))))
theorem KT:type_of% V125.down:=V125.down
theorem Mc:Bt 125 91 (wV 0) [(.tmp 8)]:=bt Tryz.func125 rfl
def wR:=yy Tryz.f131
def V131:=PLift.up (aI (aI (aI (@unf (wR 32) (r [x,u,u,u,u,u,u,u,u,u,u,v,u]) rfl) (aI (@unf (wR 34) (r [u,v,u]) rfl) (@unf (wR 27) (X (O (R [u,u,u,u,u,y 33,y 33,y 33,y 33,y 33,y 33,y 33,y 33,y 33,y 33,y 33,u] (T (wR 32)))) (wR 34)) rfl))) (aI (@unf (wR 21) (X (R [u,u,u,u,u,u,u,u,u] I) (wR 27)) rfl) (aI (@unf (wR 35) (r [u,v,u]) rfl) (@unf (wR 9) (X (R [u,u,u,u,u] I) (X (O (R [u] (U (wR 21)))) (wR 35))) rfl)))) (aI (aI (@unf (wR 52) (r [x,u,u,u,u,u,u,v,u]) rfl) (aI (@unf (wR 54) (r [u,v,u]) rfl) (@unf (wR 47) (X (O (R [u,u,u,u,u,u,u] (T (wR 52)))) (wR 54)) rfl))) (aI (aI (@unf (wR 41) (X (R [u,u,u,u,u] I) (wR 47)) rfl) (@unf (wR 36) (X (R [u] (U (wR 41))) (F [v,u])) rfl)) (aI (@unf (wR 2) (R [u] (X (R [u] (U (wR 9))) (wR 36))) rfl) (@unf (wR 0) (R [u,u,u] (wR 2)) rfl)))))
theorem Y6:type_of% V131.down:=V131.down
theorem Lu:Bt 131 81 (wR 0) [(.tmp 6)]:=bt Tryz.func131 rfl
def zY:=yy Tryz.f129
def V129:=PLift.up (aI (aI (aI (@unf (zY 12) (G [u,u,u,u,u,u,u,u,u,u,u,u,u,u,v,u]) rfl) (@unf (zY 10) (R [u,u,u,v,u] (zY 12)) rfl)) (aI (@unf (zY 13) (r [u,u,u,u,u,u,v,u]) rfl) (@unf (zY 14) (X (G [u,u,u,u,u,u,u,u,u,u,v,u]) .ret) rfl))) (aI (aI (@unf (zY 6) (X (R [u,u,u,u,z 29,z 29,z 29,u] (V (zY 10) (zY 13))) (zY 14)) rfl) (@unf (zY 4) (R [u,u,u,u,u,u,u,v,u,u] (zY 6)) rfl)) (aI (@unf (zY 2) (R [u,u,u,v,u] (zY 4)) rfl) (@unf (zY 0) (R [u,u,u,u] (zY 2)) rfl))))
theorem Vc:type_of% V129.down:=V129.down
theorem FI:Bt 129 71 (zY 0) [(.cell 10 26)]:=bt Tryz.func129 rfl
def Jy:=yy Tryz.f130
def V130:=PLift.up (aI (aI (@unf (Jy 10) (X (G [u,u,u,u,u,u,u,u,u,v,u]) .ret) rfl) (aI (@unf (Jy 8) (X (G [u,u,u,u,v,u]) (Jy 10)) rfl) (@unf (Jy 6) (R [u,u,u,u,u,u,u,v,u,u] (Jy 8)) rfl))) (aI (@unf (Jy 4) (R [u,u,u,v,u] (Jy 6)) rfl) (aI (@unf (Jy 2) (R [u,u,u,u,u,u,u,v,u,u] (Jy 4)) rfl) (@unf (Jy 0) (R [u,u,u,u] (Jy 2)) rfl))))
theorem mV:type_of% V130.down:=V130.down
theorem IK:Bt 130 46 (Jy 0) [(.cell 8 26)]:=bt Tryz.func130 rfl
def Jz:=yy Tryz.f132
def x132_c1:XC:=(.seq (.regD [l 66 4 59,l 66 5 60,m 3 61,a (k 57 #[t 61,i 3,i 5] #[22,3,3]) 62,a (.call ⟨(.builtin .min),#[i 1,t 62],#[3,3]⟩) 63,b (.build 71 #[(0,(i 15)),(1,(t 59)),(2,(t 60)),(4,(t 63))]) 64,w 71 8 64]) .ret)
def x132_s2:XC:=(C 56 x132_c1 (R [Q .eql 3 9 9 66,n 66 65] (C 65 (Jz 57) .skip)))
def x132_c3:XC:=(.seq (.regD [l 66 4 46,a (.buildSlice 31 2 #[(0,(.const (.string ⟨#[114,97,114,101]⟩))),(1,(.const (.string ⟨#[108,97,119]⟩)))]) 47,m 3 48,a (k 57 #[t 48,i 3,i 2] #[22,3,3]) 49,j 31 47 49 50,l 9 50 51,m 3 52,a (k 57 #[t 52,i 4,i 4] #[22,3,3]) 53,a (.call ⟨(.builtin .min),#[i 1,t 53],#[3,3]⟩) 54,b (.build 71 #[(0,(i 14)),(1,(t 46)),(5,(t 51)),(4,(t 54))]) 55,w 71 8 55]) .ret)
def x132_c4:XC:=(.seq (R [Q .eql 3 9 7 57,n 57 56] (C 56 .skip (.reg [Q .eql 3 9 8 58,n 58 56]))) x132_s2)
def x132_c6:XC:=(.seq (R [Q .eql 3 9 5 44,n 44 43] (C 43 .skip (.reg [Q .eql 3 9 6 45,n 45 43]))) (C 43 x132_c3 x132_c4))
def x132_s8:XC:=(C 24 (Jz 25) (R [Q .eql 3 9 4 32,n 32 31] (C 31 (Jz 31) x132_c6)))
def x132_c11:XC:=(R [Q .eql 3 9 2 19,n 19 18] (C 18 (Jz 19) (R [Q .eql 3 9 3 25,n 25 24] x132_s8)))
def x132_s12:XC:=(.block 0 (.seq (R [Q .eql 3 9 0 11,n 11 10] (C 10 .skip (.reg [Q .eql 3 9 1 12,n 12 10]))) (C 10 (Jz 13) x132_c11)))
def Do:XC:=(R [B 66 0 4,B 66 1 5,a (.alloc 71) 8] (.seq (R [m 2 9] x132_s12) (Jz 61)))
def V132:=PLift.up (aI (aI (aI (@unf (Jz 57) (X (G [u,u,u,u,v,u]) .ret) rfl) (aI (@unf _ _ x132_c1.eq_1) (@unf _ _ x132_s2.eq_1))) (aI (aI (@unf _ _ x132_c3.eq_1) (@unf _ _ x132_c4.eq_1)) (aI (@unf (Jz 31) (X (G [u,u,u,u,u,u,u,u,u,v,u]) .ret) rfl) (@unf _ _ x132_c6.eq_1)))) (aI (aI (@unf (Jz 25) (X (G [u,u,u,u,v,u]) .ret) rfl) (aI (@unf _ _ x132_s8.eq_1) (@unf (Jz 19) (X (G [u,u,u,v,u]) .ret) rfl))) (aI (aI (@unf (Jz 13) (X (G [u,u,u,u,v,u]) .ret) rfl) (@unf _ _ x132_c11.eq_1)) (aI (@unf _ _ x132_s12.eq_1) (@unf (Jz 61) (X (G [u,u,u,v,u]) .ret) rfl)))))
theorem M6:type_of% V132.down:=V132.down
theorem Lo:Bt 132 76 Do [(.cell 8 71)]:=bt Tryz.func132 rfl
def yo:=yy Tryz.f98
def V98:=PLift.up (aI (aI (aI (aI (aI (@unf (yo 16) (X (G [u,u,u,u,v,u]) .ret) rfl) (@unf (yo 14) (X (G [u,u,u,u,u,u,u,u,u,u,u,u,v,u]) (yo 16)) rfl)) (aI (@unf (yo 12) (R [u,u,u,u,u,u,u,v,u,u] (yo 14)) rfl) (@unf (yo 64) (F [u,u,u,u,v,u]) rfl))) (aI (aI (@unf (yo 78) (X (G [u,u,u,u,u,u,u,u,u,u,u,u,u,u,u,v,u]) .ret) rfl) (@unf (yo 76) (R [u,u,u,u,u,u,v,u,u] (yo 78)) rfl)) (aI (@unf (yo 73) (R [u,u,u] (T (yo 76))) rfl) (@unf (yo 89) (X (G [u,u,u,u,u,u,u,u,v,u]) .ret) rfl)))) (aI (aI (aI (@unf (yo 93) (X (G [u,u,u,u,u,u,u,u,v,u]) .ret) rfl) (@unf (yo 106) (X (G [u,u,u,u,u,u,u,u,u,u,u,u,u,v,u]) .ret) rfl)) (aI (@unf (yo 104) (R [u,u,u,v,u] (yo 106)) rfl) (@unf (yo 101) (R [u,u,u] (T (yo 104))) rfl))) (aI (aI (@unf (yo 99) (R [u,u,u,v,u] (yo 101)) rfl) (@unf (yo 85) (X (R [u,u,u] (T (yo 89))) (yo 93)) rfl)) (aI (@unf (yo 84) (V (yo 85) (R [v,u] (T (yo 99)))) rfl) (aI (@unf (yo 71) (R [u,u,u,v,u] (yo 73)) rfl) (@unf (yo 68) (R [v,u] (V (yo 71) (R [v,u] (yo 84)))) rfl)))))) (aI (aI (aI (aI (@unf (yo 60) (V (R [u,u,u] (T (yo 64))) (yo 68)) rfl) (@unf (yo 55) (X (G [u,u,u,u,u,v,u]) .ret) rfl)) (aI (@unf (yo 49) (X (G [u,u,u,u,u,u,v,u]) .ret) rfl) (@unf (yo 52) (R [v,u] (V (yo 55) (R [v,u] (yo 60)))) rfl))) (aI (aI (@unf (yo 39) (X (G [u,u,u,u,v,u]) .ret) rfl) (@unf (yo 42) (X (R [v,u] (V .skip (r [v,u]))) (V (yo 49) (yo 52))) rfl)) (aI (@unf (yo 33) (X (G [u,u,u,u,v,u]) .ret) rfl) (aI (@unf (yo 32) (V (yo 33) (R [v,u] (V (yo 39) (yo 42)))) rfl) (@unf (yo 111) (X (G [u,u,u,u,u,u,u,u,v,u]) .ret) rfl))))) (aI (aI (aI (@unf (yo 26) (X (R [u] (O (R [v,u] (yo 32)))) (yo 111)) rfl) (@unf (yo 24) (R [u,u,u,u,u,u,v,u,u] (yo 26)) rfl)) (aI (@unf (yo 22) (R [u,u,u,u,u,u,v,u,u] (yo 24)) rfl) (@unf (yo 20) (R [u,u,u,u,u,u,v,u,u] (yo 22)) rfl))) (aI (aI (@unf (yo 8) (X (R [u,u,u,u,z 33,z 33,u] (T (yo 12))) (yo 20)) rfl) (@unf (yo 6) (R [u,v,u] (yo 8)) rfl)) (aI (@unf (yo 4) (R [u,u,u,v,u] (yo 6)) rfl) (aI (@unf (yo 2) (R [u,u,u,v,u] (yo 4)) rfl) (@unf (yo 0) (R [u,u,u] (yo 2)) rfl)))))))
theorem JP:type_of% V98.down:=V98.down
theorem b98:Bt 98 218 (yo 0) [(.cell 8 26)]:=bt Tryz.func98 rfl
def lm:=yy Tryz.f97
def V97:=PLift.up (aI (aI (@unf (lm 22) (r [u,v,u]) rfl) (@unf (lm 13) (X (O (R [u,u,u,u,u,u,u,u] (T (F [v,u])))) (lm 22)) rfl)) (aI (@unf (lm 7) (X (R [u,u] I) (lm 13)) rfl) (aI (@unf (lm 2) (X (R [u,u,u,v,u] (U (lm 7))) (F [u])) rfl) (@unf (lm 0) (R [u,u] (lm 2)) rfl))))
theorem Fs:type_of% V97.down:=V97.down
theorem b97:Bt 97 23 (lm 0) [(.tmp 4)]:=bt Tryz.func97 rfl
def zS:=yy Tryz.f58
def x58_c4:XC:=(.regT [8] [([f 26 8 3 91],c (.load 23 (t 91)) 92,false)] [m 10 93,f 104 3 0 94,l 72 94 95,m 11 96,j 72 95 96 97,f 26 97 1 98,l 3 98 99,a (.build 64 #[(0,(t 93)),(1,(t 99))]) 100,a (.buildSlice 23 1 #[(0,(t 100))]) 101,b (.call ⟨(.builtin .append),#[t 92,t 101],#[23,23]⟩) 102,f 26 8 3 103] [w 23 103 102])
def x58_s5:XC:=(R [m 10 80,m 7 81,p .eql 3 80 81 82] (C 82 (zS 51) x58_c4))
def x58_s6:XC:=(.seq (.regD [f 26 8 2 70,l 3 70 71,f 104 3 0 72,l 72 72 73,m 11 74,j 72 73 74 75,f 26 75 2 76,l 3 76 77,b (.call ⟨(.builtin .max),#[t 71,t 77],#[3,3]⟩) 78,f 26 8 2 79,w 3 79 78]) x58_s5)
def x58_s7:XC:=(.seq (zS 45) x58_s6)
def x58_s8:XC:=(.seq (.seq (zS 25) (C 44 (.exit 1) .skip)) (.seq (R [A 0 12] (.block 2 (.loop (zS 34)))) x58_s7))
def x58_s10:XC:=(.seq (.block 1 (.seq (zS 22) x58_s8)) (zS 53))
def x58_L11:XC:=(.seq (R [m 10 23,m 1 24,p .lss 3 23 24 25] (C 25 .skip (.exit 0))) x58_s10)
def x58_s15:XC:=(.seq (zS 74) (.seq (.gh (.reg [L 104 3 138,w 104 6 138])) .ret))
def x58_s16:XC:=(.seq (zS 72) x58_s15)
def x58_s17:XC:=(.seq (zS 55) (.seq (.seq (.gh (.reg [A 0 13])) (.block 4 (.loop (zS 61)))) x58_s16))
def x58_s18:XC:=(.seq (.gh (.reg [f 104 3 0 19,l 72 19 20,e 72 20 21,b (.call ⟨(.builtin .append),#[t 21,t 21],#[158]⟩) 22,n 22 9])) (.seq (R [A 0 10] (.block 0 (.loop x58_L11))) x58_s17))
def x58_s19:XC:=(R [m 7 17,b (.call ⟨(.builtin .complex),#[t 17,i 1,i 1],#[26,0,1,2]⟩) 18,a (.alloc 26) 8,w 26 8 18] x58_s18)
def x58_s20:XC:=(.seq (.gh (zS 3)) x58_s19)
def x58:XC:=(R [B 104 0 3,a (.alloc 104) 6] x58_s20)
def V58r:=PLift.up (aI (aI (@unf (zS 45) (r [u,u,u,u]) rfl) (aI (@unf (zS 25) (r [u,u,u,z 33,z 33,z 33,z 33,y 37,y 37,y 37,y 37,y 37,z 33,u]) rfl) (@unf (zS 22) (r [u,u,v,u]) rfl))) (aI (aI (@unf (zS 74) (r [u,x,u,u,v,u,u]) rfl) (@unf (zS 72) (r [u,x,u,u,v,u,u]) rfl)) (aI (@unf (zS 55) (G [u,u,u,u,v,u,u]) rfl) (@unf (zS 3) (r [u,u,v,u]) rfl))))
theorem wu:type_of% V58r.down:=V58r.down
def V58:=PLift.up (aI (aI (aI (aI (@unf (zS 43) (r [u,v,u]) rfl) (@unf (zS 40) (X (O (r [u,u,u,u,u,u,u,z 56,z 56,z 56,z 56,z 56,z 56,z 56,z 56,v,u,u])) (zS 43)) rfl)) (aI (@unf (zS 34) (X (R [u,u,u] I) (zS 40)) rfl) (aI (@unf (zS 51) (r [u,u,u,u,u,u,v,u,u]) rfl) (@unf _ _ x58_c4.eq_1)))) (aI (aI (@unf _ _ x58_s5.eq_1) (@unf _ _ x58_s6.eq_1)) (aI (@unf _ _ x58_s7.eq_1) (aI (@unf _ _ x58_s8.eq_1) (@unf (zS 53) (r [u,v,u]) rfl))))) (aI (aI (aI (@unf _ _ x58_s10.eq_1) (@unf _ _ x58_L11.eq_1)) (aI (@unf (zS 70) (r [u,v,u]) rfl) (aI (@unf (zS 67) (X (O (G [u,u,u,u,u,u,u,u,v,u])) (zS 70)) rfl) (@unf (zS 61) (X (R [u,u,u,u,u] I) (zS 67)) rfl)))) (aI (aI (@unf _ _ x58_s15.eq_1) (aI (@unf _ _ x58_s16.eq_1) (@unf _ _ x58_s17.eq_1))) (aI (@unf _ _ x58_s18.eq_1) (aI (@unf _ _ x58_s19.eq_1) (@unf _ _ x58_s20.eq_1))))))
theorem Wo:type_of% V58.down:=V58.down
theorem r58 {args:List D} {H:AH} {R:D->AH->Prop} (h:facts args->xcode Tryz.prog x58 (args++List.replicate (139 - args.length) (.tup [])) H (Um Tryz.prog [(.cell 6 104)] R)):ACall Tryz.prog 58 args H R:=
 yV hm Tryz.func58 rfl (by kernel_rfl) (by kernel_rfl) (by kernel_rfl) (by kernel_rfl) (by kernel_rfl) (by kernel_rfl) h
def li:=yy Tryz.f99
def V99:=PLift.up (aI (aI (@unf (li 22) (r [u,v,u]) rfl) (@unf (li 13) (X (O (X (G [u,u,u,u,u,u,u,u,u,u,u,u,u,u,u]) (T (F [u])))) (li 22)) rfl)) (aI (@unf (li 7) (X (R [u,u,u,u,u] I) (li 13)) rfl) (aI (@unf (li 23) (F [u,u,u,u,z 31,z 31,z 31,z 31,z 31,z 31,z 31,v,u]) rfl) (@unf (li 0) (R [u,u] (X (R [u] (U (li 7))) (li 23))) rfl))))
theorem DI:type_of% V99.down:=V99.down
theorem b99:Bt 99 40 (li 0) [(.tmp 4)]:=bt Tryz.func99 rfl
def YO:=yy Tryz.f100
def V100:=PLift.up (aI (aI (@unf (YO 22) (r [u,v,u]) rfl) (@unf (YO 13) (X (O (R [u,u,u,u,u,u,u,u,y 21,y 21,y 21,y 21,y 21,y 21,y 21,u] (T (F [u])))) (YO 22)) rfl)) (aI (@unf (YO 7) (X (R [u,u,u,u] I) (YO 13)) rfl) (aI (@unf (YO 2) (X (R [u] (U (YO 7))) (F [u])) rfl) (@unf (YO 0) (R [u] (YO 2)) rfl))))
theorem lL:type_of% V100.down:=V100.down
theorem FD:Bt 100 30 (YO 0) [(.tmp 6)]:=bt Tryz.func100 rfl
def Yz:=yy Tryz.f60
def V60:=PLift.up (aI (aI (aI (@unf (Yz 34) (X (G [u,u,u,u,y 27,y 27,y 27,y 27,y 27,y 27,y 27,u,u,y 36,y 36,y 36,z 39,z 39,z 39,z 39,z 39,z 39,z 39,z 39,y 36,y 36,z 49,z 49,z 49,z 49,z 49,z 49,z 49,z 49,z 49,y 58,y 58,y 58,y 58,y 58,y 58,y 58,y 58,z 49,y 36,u]) (T (r [v,u]))) rfl) (@unf (Yz 39) (r [u,v,u]) rfl)) (aI (@unf (Yz 30) (X (O (R [u,u,u,v,u,u] (Yz 34))) (Yz 39)) rfl) (aI (@unf (Yz 24) (X (R [u,u,u,u] I) (Yz 30)) rfl) (@unf (Yz 48) (r [x,u,u,u,u,u,v,u]) rfl)))) (aI (aI (@unf (Yz 40) (X (R [u,u] (T (F [v,u]))) (Yz 48)) rfl) (aI (@unf (Yz 49) (r [u,v,u]) rfl) (@unf (Yz 15) (X (O (R [u] (X (R [u] (U (Yz 24))) (Yz 40)))) (Yz 49)) rfl))) (aI (@unf (Yz 9) (X (R [u,u,u,u] I) (Yz 15)) rfl) (aI (@unf (Yz 4) (X (R [u] (U (Yz 9))) (F [v,u])) rfl) (@unf (Yz 0) (R [u] (R [u] (Yz 4))) rfl)))))
theorem db:type_of% V60.down:=V60.down
theorem b60:Bt 60 82 (Yz 0) [(.tmp 2)]:=bt Tryz.func60 rfl
def pQ:=yy Tryz.f25
def x25_s1:XC:=(.seq (.block 1 (.regV [l 104 4 17,m 3 18,m 0 19,m 5 20,a (.binOp .mul 3 (i 32) (t 20) 3) 21,a (.binOp .add 3 (i 2) (t 21) 3) 22,k2 59 19 22 22 3 23] [K3 58 17 18 23 104 3 22 24,w 104 4 24])) (pQ 20))
def x25_L2:XC:=(.seq (.seq (pQ 13) (C 14 .skip (.exit 0))) x25_s1)
def x25_s3:XC:=(.seq (.gh (pQ 22)) .ret)
def x25_s4:XC:=(R [b (.call ⟨(.builtin .complex),#[],#[104]⟩) 9,a (.alloc 104) 4,w 104 4 9] (.seq (R [A 0 5] (.block 0 (.loop x25_L2))) x25_s3))
def x25_s5:XC:=(.seq (pQ 3) x25_s4)
def x25:XC:=(R [Z 2] x25_s5)
def V25r:=PLift.up (aI (@unf (pQ 13) (r [u,u,u,u,u]) rfl) (aI (@unf (pQ 22) (r [u,u,v,u]) rfl) (@unf (pQ 3) (r [u,u,v,u]) rfl)))
theorem Kt:type_of% V25r.down:=V25r.down
def V25:=PLift.up (aI (aI (@unf (pQ 20) (r [u,v,u]) rfl) (aI (@unf _ _ x25_s1.eq_1) (@unf _ _ x25_L2.eq_1))) (aI (@unf _ _ x25_s3.eq_1) (aI (@unf _ _ x25_s4.eq_1) (@unf _ _ x25_s5.eq_1))))
theorem sX:type_of% V25.down:=V25.down
end Go.Proofs.YtgopigkdcmhbbaaGreatDoor
end
section
namespace Go.Aw
open Go Go.RowKit
theorem bU (d:D):d.view.view=d.view:=by
 have h1:∀d:D,d.view1.view1=d.view1:=fun d=>by cases d<;>rfl
 cases d<;>first|rfl|(simp only [D.view,Nz];congr 1;exact N0 fun d _=>h1 d)
theorem St.view (h:St K w F H t):St K w (F.map D.view) H t:=
 ⟨h.krel,h.hrel,by simpa using h.len,fun i d v hd hv=>by
  rw [Nb,Nh] at hd
  obtain ⟨d0,h1,rfl⟩:=hd
  exact (h.slot i d0 v h1 hv).rep.viewO⟩
theorem St.onward (hv:∀d∈F,d.view=d) (h:St K w F H t) (he:ExtV K w K' w') (hk:KRel K' w') (hh:HRel K' w' H'):St K' w' F H' t:=
 ⟨hk,hh,h.len,fun i d v hd hvv=>by
  have h1:=(h.slot i d v hd hvv).rep
  rw [hv d (Ni hd)] at h1
  exact (RepV.mono he h1).viewO⟩
theorem St.setP (h:St K w F H t) (hr:RepV K w d v):St K w (F.set p d) H (t.setIfInBounds p v):=by
 refine ⟨h.krel,h.hrel,by simpa using h.len,fun i d' u hd hu=>?_⟩
 rcases getElem?_set_some hd with ⟨rfl,rfl,hl⟩|⟨hne,hd⟩
 ·rw [Array.getElem?_setIfInBounds_self_of_lt (by rw [h.len];exact hl)] at hu
  obtain rfl:=Option.some.inj hu
  exact hr.viewO
 ·rw [Array.getElem?_setIfInBounds_ne hne] at hu
  exact h.slot i d' u hd hu
structure LI (K:Nat->BK) (w:World) (b1 b2:Nat) (r:Loop) (Fv:List D) (t:Array Value) (K1:Nat->BK) (W:World) (H1:AH):Prop where
 ext:ExtV K w K1 W
 own:∀b n,K b= .tok n .outer->K1 b= .tok n .outer∧W.heap[b]?=w.heap[b]?
 new:∀b n,K1 b= .tok n .outer->K b= .tok n .outer∨(n=0∧(b=b1∨b=b2∨b=w.heap.size∨b=w.heap.size+1))
 st:St K1 W Fv H1 t
 s1:K1 b1= .tok 0 .outer
 s2:K1 b2= .tok 0 .outer
 sD:K1 w.heap.size= .tok 0 .outer
 sL:K1 (w.heap.size+1)= .tok 0 .outer
 h1:W.heap[b1]?=w.heap[b1]?
 h2:W.heap[b2]?=w.heap[b2]?
 hD:W.heap[w.heap.size]?=some (.deferred (some []))
 hL:W.heap[w.heap.size+1]?=some (.loop r)
section
variable {K:Nat->BK} {w:World} {b1 b2:Nat} {r:Loop} {Fv:List D} {t:Array Value} {K1:Nat->BK} {W:World} {H1:AH}
theorem LI.step (hk0:KRel K w) (hb1:b1<w.heap.size) (hb2:b2<w.heap.size) (h:LI K w b1 b2 r Fv t K1 W H1) (ho:W'.os=W.os) (ht:W'.tape=W.tape) (hp:W'.output=W.output) (hd:W.drawn<=W'.drawn) (hz:W'.heap.size=W.heap.size)
  (hh:∀b,b≠w.heap.size+1->W'.heap[b]?=W.heap[b]?) (hl:W'.heap[w.heap.size+1]?=some (.loop r')):LI K w b1 b2 r' Fv t K1 W' H1:=by
 have hext:ExtV K1 W K1 W':=by
  refine ⟨ho,ht,⟨hp,hd⟩,Nat.le_of_eq hz.symm,fun b hb hi=>⟨hi,hh b fun e=>?_⟩,fun b n o hb hn=>⟨n,o,hb,Nn _,fun j _=>jb (hh b fun e=>?_) j⟩,fun b hb=>.inl hb⟩
  ·rw [e,h.sL] at hi;cases hi
  ·rw [e,h.sL] at hb;injection hb with hb _;omega
 have hkeep:Keep (fun o=>o= .outer) dz K1 W K1 W':=⟨hext,fun b n o hb ho=>⟨hb,hh b fun e=>ho (by rw [e,h.sL] at hb;injection hb with _ hb;exact hb.symm)⟩,fun b n hb=>hb,
  fun b hb _=>⟨hb,hh b fun e=>by rw [e,h.sL] at hb;cases hb⟩⟩
 have hst:St K1 W' Fv H1 t:=⟨fun b hb=>h.st.krel b (by omega),h.st.hrel.keep hkeep (fun b o _=>⟨fun h=>h,fun j h=>by cases h⟩),h.st.len,fun i d v hd hv=>(h.st.slot i d v hd hv).keep hkeep (fun j h=>by cases h)⟩
 have old:∀b,b<w.heap.size->W'.heap[b]?=W.heap[b]?:=fun b hb=>hh b (by omega)
 exact ⟨h.ext.trans hext,fun b n hb=>⟨(h.own b n hb).1,(old b (hk0.lt_of (by rw [hb];simp))).trans (h.own b n hb).2⟩,h.new,hst,h.s1,h.s2,h.sD,h.sL,(old b1 hb1).trans h.h1,(old b2 hb2).trans h.h2,(hh _ (by omega)).trans h.hD,hl⟩
theorem LI.start (hs:St K w F H t) (e1:qn H b1=some o1) (e2:qn H b2=some o2) (hp1:K b1= .priv) (hp2:K b2= .priv) (hsb:Sbn H1 (qT (qT H b1) b2)) (hb1:b1<w.heap.size) (hb2:b2<w.heap.size)
  (ho:W.os=w.os) (ht:W.tape=w.tape) (hp:W.output=w.output) (hd:W.drawn=w.drawn) (hz:W.heap.size=w.heap.size+2) (hh:∀b,b<w.heap.size->W.heap[b]?=w.heap[b]?) (hD:W.heap[w.heap.size]?=some (.deferred (some []))) (hL:W.heap[w.heap.size+1]?=some (.loop r)):
  ∃K1,LI K w b1 b2 r (F.map D.view) t K1 W H1:=by
 have hn1:((qT H b1).map (·.1)).Nodup:=(erase_sub.map (·.1)).nodup hs.hrel.nd
 have hn2:((qT (qT H b1) b2).map (·.1)).Nodup:=(erase_sub.map (·.1)).nodup hn1
 obtain ⟨hnd,hsub⟩:=hsb hn2
 have hmem:∀b o,(b,o)∈H1->(b,o)∈H∧b≠b1∧b≠b2:=fun b o hm=>by
  have h1:=hsub _ hm
  exact ⟨erase_sub.subset (erase_sub.subset h1),kn hs.hrel.nd (erase_sub.subset h1),kn hn1 h1⟩
 have kp1:∀b n o,K b= .tok n o->b≠b1∧b≠b2∧b<w.heap.size:=fun b n o hb=>⟨fun e=>(by rw [e,hp1] at hb;cases hb),fun e=>(by rw [e,hp2] at hb;cases hb),hs.krel.lt_of (by rw [hb];simp)⟩
 have hext:ExtV K w K W:=⟨ho,ht,⟨hp,Nat.le_of_eq hd.symm⟩,by omega,fun b hb hi=>⟨hi,hh b hb⟩,fun b n o hb _=>⟨n,o,hb,Nn _,fun j _=>jb (hh b (kp1 b n o hb).2.2) j⟩,fun b hb=>.inl hb⟩
 have hkeep:Keep n9 dz K w K W:=⟨hext,fun b n o hb _=>⟨hb,hh b (kp1 b n o hb).2.2⟩,fun b n hb=>hb,fun b hb _=>⟨hb,hh b (hs.krel.lt_of (by rw [hb];simp))⟩⟩
 have hv:=hs.view
 have hs1:St K w (F.map D.view) H1 t:=⟨hv.krel,⟨hnd,fun b o hm=>hs.hrel.ok b o (hmem b o hm).1⟩,hv.len,hv.slot⟩
 have hs2:St K W (F.map D.view) H1 t:=⟨fun b hb=>hs.krel b (by omega),hs1.hrel.keep hkeep (fun b o _=>⟨fun h=>h,fun j h=>by cases h⟩),hs1.len,fun i d v hd hv=>(hs1.slot i d v hd hv).keep hkeep (fun j h=>by cases h)⟩
 have hC:isC W w.heap.size=false∧isC W (w.heap.size+1)=false:=⟨by simp [isC,hD],by simp [isC,hL]⟩
 obtain ⟨K1,hK1⟩:∃K1:Nat->BK,K1=fun b=>if b=b1∨b=b2∨b=w.heap.size∨b=w.heap.size+1 then .tok 0 .outer else K b:=⟨_,rfl⟩
 have kin:∀b,(b=b1∨b=b2∨b=w.heap.size∨b=w.heap.size+1)->K1 b= .tok 0 .outer:=fun b hb=>by rw [hK1];exact if_pos hb
 have kout:∀b,¬(b=b1∨b=b2∨b=w.heap.size∨b=w.heap.size+1)->K1 b=K b:=fun b hb=>by rw [hK1];exact if_neg hb
 have ktok:∀b n o,K b= .tok n o->K1 b= .tok n o:=fun b n o hb=>by
  grind
 refine ⟨K1,⟨⟨ho,ht,⟨hp,Nat.le_of_eq hd.symm⟩,by omega,fun b hb hi=>⟨?_,hh b hb⟩,fun b n o hb _=>⟨n,o,ktok b n o hb,Nn _,fun j _=>jb (hh b (kp1 b n o hb).2.2) j⟩,fun b hb=>.inr (by have:=hs.krel.lt_of (b:=b) (by rw [hb];simp);omega)⟩,
  fun b n hb=>⟨ktok b n _ hb,hh b (kp1 b n _ hb).2.2⟩,fun b n hb=>?_,?_,kin _ (.inl rfl),kin _ (.inr (.inl rfl)),kin _ (.inr (.inr (.inl rfl))),kin _ (.inr (.inr (.inr rfl))),hh b1 hb1,hh b2 hb2,hD,hL⟩⟩
 ·grind
 ·grind
 ·refine hs2.re ⟨fun b hc h1 _=>kout b ?_,fun b n c j hb=>(ktok b n _ hb).trans hb.symm⟩ (fun b hb=>?_) fun b o hm hp=>?_
  ·grind
  ·rw [kout b (by omega)];exact hs.krel b (by omega)
  ·rw [kout b]
   ·exact hp
   ·have:=hmem b o hm
    have hlt:=hs.hrel.lt hs.krel this.1
    omega
theorem LI.round (hk0:KRel K w) (hv:∀d∈Fv,d.view=d) (h:LI K w b1 b2 r Fv t K1 W H1) (hf:FK K1 W K' W') (hs:St K' W' F' H' t') (hsb:Sbn H3 H'):
  LI K w b1 b2 r Fv t K' W' H3:=
 ⟨h.ext.trans hf.ext,fun b n hb=>⟨(hf.own b n (h.own b n hb).1).1,(hf.own b n (h.own b n hb).1).2.trans (h.own b n hb).2⟩,fun b n hb=>h.new b n (hf.new b n hb),h.st.onward hv hf.ext hs.krel (hs.sb (hsb hs.hrel.nd)).hrel,
  (hf.own _ _ h.s1).1,(hf.own _ _ h.s2).1,(hf.own _ _ h.sD).1,(hf.own _ _ h.sL).1,(hf.own _ _ h.s1).2.trans h.h1,(hf.own _ _ h.s2).2.trans h.h2,(hf.own _ _ h.sD).2.trans h.hD,(hf.own _ _ h.sL).2.trans h.hL⟩
theorem LI.finish (hk0:KRel K w) (h:LI K w b1 b2 r Fv t K1 W H1) (hb1:b1<w.heap.size) (hb2:b2<w.heap.size) (hp1:K b1= .priv) (hp2:K b2= .priv) (hs:s<=w.heap.size) (hm:Mk K w s ds):
  ∃K',FKm K w K' W∧St K' W Fv H1 t∧Mk K' W s ({target:= .collected w.heap.size,args:=#[]}::ds):=by
 obtain ⟨K',hK'⟩:∃K':Nat->BK,K'=fun b=>if b=b1∨b=b2∨b=w.heap.size+1 then .priv else K1 b:=⟨_,rfl⟩
 have kin:∀b,(b=b1∨b=b2∨b=w.heap.size+1)->K' b= .priv:=fun b hb=>by rw [hK'];exact if_pos hb
 have kout:∀b,¬(b=b1∨b=b2∨b=w.heap.size+1)->K' b=K1 b:=fun b hb=>by rw [hK'];exact if_neg hb
 have hsz:w.heap.size+1<W.heap.size:=(Array.getElem?_eq_some_iff.1 h.hL).1
 have old:∀b,b<w.heap.size->K b≠ .priv->K' b=K1 b:=fun b hb hn=>kout b (by
  rintro (e|e|e)
  ·grind
  ·grind
  ·omega)
 refine ⟨K',⟨⟨h.ext.os,h.ext.tape,h.ext.output,h.ext.size,fun b hb hi=>?_,fun b n o hb hn=>?_,fun b hb=>.inr (Nat.lt_of_lt_of_le (hk0.lt_of (by rw [hb];simp)) h.ext.size)⟩,fun b n hb=>?_,fun b n hb=>?_⟩,?_,?_⟩
 ·rw [old b hb (by rw [hi];simp)];exact h.ext.imm b hb hi
 ·rw [old b (hk0.lt_of (by rw [hb];simp)) (by rw [hb];simp)];exact h.ext.tok b n o hb hn
 ·rw [old b (hk0.lt_of (by rw [hb];simp)) (by rw [hb];simp)];exact h.own b n hb
 ·by_cases hc:b=b1∨b=b2∨b=w.heap.size+1
  ·grind
  ·rw [kout b hc] at hb
   rcases h.new b n hb with h1|⟨_,h1⟩
   ·exact .inl h1
   ·have:b=w.heap.size:=by omega
    subst this
    exact .inr ⟨Nn _,h.hD⟩
 ·have kt:∀b,b=b1∨b=b2∨b=w.heap.size+1->K1 b= .tok 0 .outer:=fun b hb=>by
   rcases hb with rfl|rfl|rfl
   ·exact h.s1
   ·exact h.s2
   ·exact h.sL
  refine h.st.re ⟨fun b hc h1 h2=>kout b fun e=>h2 (kt b e),fun b n c j hb=>kout b fun e=>by rw [kt b e] at hb;injection hb with _ hb;cases hb⟩ (fun b hb=>?_) fun b o hm hp=>?_
  ·rw [kout b (by omega)];exact h.st.krel b hb
  all_goals grind
 ·obtain ⟨Ds,d1,d2,d3⟩:=hm
  have hlt:∀D'∈Ds,D'<w.heap.size:=fun D' hD'=>(Array.getElem?_eq_some_iff.1 (d3 D' hD').2.2).1
  refine ⟨w.heap.size::Ds,List.nodup_cons.2 ⟨fun hm=>by have:=hlt _ hm;omega,d1⟩,by rw [d2];rfl,fun D' hD'=>?_⟩
  rcases List.mem_cons.1 hD' with rfl|hD'
  ·exact ⟨hs,(kout _ (by omega)).trans h.sD,h.hD⟩
  ·obtain ⟨q1,q2,q3⟩:=d3 D' hD'
   exact ⟨q1,(old D' (hlt D' hD') (by rw [q2];simp)).trans (h.own _ _ q2).1,(h.own _ _ q2).2.trans q3⟩
end
def uF (len k:Nat):Nat:=(len+k - 1) / k
def vJ (a:Option Addr) (len k j:Nat):Value:=sliced a (j*k) (j*k+min k (len - j*k)) (j*k+min k (len - j*k)) 1
def Lj (b1 b2:Nat) (W W':World):Prop:=W'.cell? ⟨b1,0,none⟩=W.cell? ⟨b1,0,none⟩∧W'.cell? ⟨b2,0,none⟩=W.cell? ⟨b2,0,none⟩
def IP (P:Program) (f:FuncId):Prop:=(∀args w,(callFunc f args).run P w= .ok (.enter f args) w)∧∀(n l:Nat) (a:Option Addr) (len cap k m b1 b2:Nat),m=uF len k->0<k->k<=1000->len<=cap->len<=big->∀J:List (Fin m)->World->Prop,
 (∀pre (x:Fin m) W,J pre W->pre.length<m->YieldAt Fence.wide (n - 1) P l #[vJ a len k x.val] W fun e W'=>e= .returned (.bool true)∧J (pre++ [x]) W'∧Lj b1 b2 W W')->
 (∀s A,J s A->J s A.drew)->∀W:World,W.cell? ⟨b1,0,none⟩=some (.slice a len cap)->W.cell? ⟨b2,0,none⟩=some (.int .i64 k)->J [] W->
 CallsIn Fence.wide n P f #[.func (.yield l) #[] #[],.pointer (some ⟨b1,0,none⟩),.pointer (some ⟨b2,0,none⟩)] W fun e W'=>(∃v,e= .returned v)∧∃ys:List (Fin m),ys.map Fin.val=List.range m∧J ys W'
def jV (xs:List (List D)) (k j:Nat):List (List D):=(xs.drop (j*k)).take k
theorem an (hk:0<k) (h:j<uF len k):j*k<len:=by
 unfold uF at h
 have:=(Nat.le_div_iff_mul_le hk).1 h
 grind
theorem Gb (h:RepV K w (.slc ys) (.slice a n c)) (h1:n<=c') (h2:c'<=c):RepV K w (.slc ys) (.slice a n c'):=by
 cases h with
 | slcnil a=>
  obtain rfl:c'=0:=by omega
  exact .slcnil a
 |slc xs b off cap sz f hb hc hm hs hv hcell hone hrep=>exact .slc ys b off c' sz f hb h1 (by omega) hs hv hcell hone hrep
theorem bg (hr:RepV K w (.slc xs) (.slice a len cap)) (hx:∀y∈xs,y.length=1) (hk:0<k) (hj:j<uF xs.length k):RepV K w (.slc (jV xs k j)) (vJ a xs.length k j):=by
 have hlt:=an hk hj
 obtain ⟨e1,e2,h3⟩:=GZ hr 1 (fun i x hi=>hx x (Ni hi)) (l:=j*k) (h:=j*k+min k (xs.length - j*k)) (by omega) (by omega)
 unfold sliced at h3
 rw [if_neg (by omega)] at h3
 unfold vJ sliced
 rw [if_neg (by omega)]
 have hl:(xs.take (j*k+min k (xs.length - j*k))).drop (j*k)=jV xs k j:=by
  unfold jV
  rw [List.drop_take,List.take_eq_take_iff,List.length_drop]
  omega
 rw [hl] at h3
 exact Gb h3 (Nn _) (by omega)
theorem Az (h:Zi asg=some (p,t)) {K:Act->World->Prop} (hK:K (a.put (some t) (a.eval (.tmp p))) W):asg.wpIn (Fence.wide.inRound l) n P (Exit.then K (fun _ _ _=>False)) a W:=by
 unfold Zi at h
 split at h
 ·rename_i id ops
  split at h
  ·rename_i o hops
   split at h
   ·rename_i p' t' ho hd hg
    cases h
    refine wpIn_region_list ?_
    rw [hops]
    unfold wpListIn
    rw [if_pos (by simp [Region.wanted,hg])]
    refine fN (by simp [uy,ho]) ?_
    unfold Oper.wp
    rw [show (execOp a.eval o).run P W= .ok (.value (a.eval (.tmp p))) W by simp [execOp,ho]]
    simp only [Oper.upon,hd]
    exact hK
   ·cases h
  ·cases h
 ·cases h
theorem XRF.chunk {P:Program} (hm:P.follows .mixedOrders=true) {f:FuncId} (hit:IP P f) {s p t:Tmp} {x:XC} {F:List D} {H:AH} {Q:AQ} {b1 b2 k:Nat} {xs:List (List D)} (hg:rv F (.tmp s)= .fn f [.ptr b1 0,.ptr b2 0]) (hp:p<F.length)
  (e1:qn H b1=some (.cells [.slc xs])) (e2:qn H b2=some (.cells [.int .i64 k])) (hk:0<k) (hk2:k<=1000) (hx:∀y∈xs,y.length=1) (Inv:List Nat->AH->Prop) (H0:AH) (hsb:Sbn H0 (qT (qT H b1) b2)) (h0:Inv [] H0)
  (hbody:∀(pre:List Nat) (j:Nat) (H':AH),Inv pre H'->j<uF xs.length k->pre.length<uF xs.length k->fact (.slc (jV xs k j))->xcode P x (((F.map D.view).set p (.slc (jV xs k j))).set t (.slc (jV xs k j))) H' (Jf (fun _ H''=>∃H3,Sbn H3 H''∧Inv (pre++ [j]) H3) (fun _ _ _=>False)))
  (hdone:∀H',Inv (List.range (uF xs.length k)) H'->Q .normal (F.map D.view) H'):XRF P (.tmp s) p t x F H Q:=by
 intro ps asg c hps hasg hc ho hv hib hdb K w a s0 hs hd
 obtain ⟨vs,hev,hsz,hvs⟩:=(hg▸hs.rep (x:= .tmp s) rfl).fn_inv rfl
 have hvs2:vs=#[.pointer (some ⟨b1,0,none⟩),.pointer (some ⟨b2,0,none⟩)]:=by
  have hz:vs.size=2:=hsz
  have q0:=(hvs 0 _ _ rfl (Nu (show 0<vs.size by omega))).ptr_inv
  have q1:=(hvs 1 _ _ rfl (Nu (show 1<vs.size by omega))).ptr_inv
  grind
 obtain ⟨hp1,c1,T1,hh1,hz1,hr1⟩:=hs.hrel.ok b1 _ (qW e1)
 obtain ⟨hp2,c2,T2,hh2,hz2,hr2⟩:=hs.hrel.ok b2 _ (qW e2)
 obtain ⟨u1,hu1,_,hru1⟩:=hr1 0 _ rfl
 obtain ⟨u2,hu2,_,hru2⟩:=hr2 0 _ rfl
 have hru1':RepV K w (.slc xs) u1:=hru1
 obtain ⟨a0,cap,rfl,hlc,hcm⟩:=hru1'.slc_form
 obtain ⟨rfl,_⟩:=(show RepV K w (.int .i64 k) u2 from hru2).int_inv
 have hb1:=(Array.getElem?_eq_some_iff.1 hh1).1
 have hb2:=(Array.getElem?_eq_some_iff.1 hh2).1
 have hcell1:w.cell? ⟨b1,0,none⟩=some (.slice a0 xs.length cap):=by rw [jU hh1];exact hu1
 have hcell2:w.cell? ⟨b2,0,none⟩=some (.int .i64 k):=by rw [jU hh2];exact hu2
 obtain rfl:ps=#[p]:=by
  grind
 have hvv:∀d∈F.map D.view,d.view=d:=fun d hd=>by
  grind [bU]
 refine (wpIn_wide (n:=3)).1 (wpIn_rangeFunc fun fn _=>?_)
 obtain ⟨r,hr⟩:∃r:Loop,r={state:= .ready,pending:=none,fn,tmps:=a.tmps,params:=#[p],assign:=asg,body:=c,defers:=w.heap.size}:=⟨_,rfl⟩
 obtain ⟨W1,hW1⟩:∃W1,(w.alloc (.deferred (some []))).alloc (.loop r)=W1:=⟨_,rfl⟩
 have hl1:W1.heap[w.heap.size+1]?=some (.loop r):=by
  rw [<-hW1];have:=World.alloc_heap_new (w.alloc (.deferred (some []))) (.loop r);rwa [World.size_alloc] at this
 have hd1:W1.heap[w.heap.size]?=some (.deferred (some [])):=by
  rw [<-hW1];exact (Below.heap_alloc _ _ _ (by simp)).trans (World.alloc_heap_new w _)
 have hold:∀b,b<w.heap.size->W1.heap[b]?=w.heap[b]?:=fun b hb=>by
  rw [<-hW1];exact (Below.heap_alloc _ _ _ (by simp;omega)).trans (Below.heap_alloc _ _ _ hb)
 have hsz1:W1.heap.size=w.heap.size+2:=by rw [<-hW1];simp
 have hos1:W1.os=w.os∧W1.tape=w.tape∧W1.output=w.output∧W1.drawn=w.drawn:=by rw [<-hW1];exact ⟨rfl,rfl,rfl,rfl⟩
 refine ⟨w.heap.size+1,[{target:= .collected w.heap.size,args:=#[]}],W1,{target:= .fn (.func f) vs,args:=#[.func (.yield (w.heap.size+1)) #[] #[]]},W1,f,#[.func (.yield (w.heap.size+1)) #[] #[]]++vs,W1,?_,?_,fun _ _=>trivial,?_,fun _=>by omega,?_⟩
 ·rw [<-hW1,hr];exact run_enterLoop_outer _ _ _ _ _
 ·simp only [resolve,hev]
  simp [go_sem]
 ·simp [invoke,go_sem,hit.1]
 ·subst hvs2
  have hput:∀{r1:Loop} {K1:Nat->BK} {W:World} {H1:AH} (r2:Loop),LI K w b1 b2 r1 (F.map D.view) a.tmps K1 W H1->LI K w b1 b2 r2 (F.map D.view) a.tmps K1 (W.putObj (w.heap.size+1) (.loop r2)) H1:=fun r2 g=>
   g.step hs.krel hb1 hb2 rfl rfl rfl (Nn _) (by simp [World.putObj]) (fun b hb=>World.putObj_heap_other hb) (World.putObj_heap_same (Array.getElem?_eq_some_iff.1 g.hL).1)
  refine (hit.2 _ (w.heap.size+1) a0 xs.length cap k _ b1 b2 rfl hk hk2 hlc hru1'.slc_big (fun pre W=>∃K1 H1,Inv (pre.map Fin.val) H1∧LI K w b1 b2 r (F.map D.view) a.tmps K1 W H1) ?_ ?_ W1
   ((jb (hold b1 hb1) 0).trans hcell1) ((jb (hold b2 hb2) 0).trans hcell2) (let ⟨K1,h⟩:=LI.start hs e1 e2 hp1 hp2 hsb hb1 hb2 hos1.1 hos1.2.1 hos1.2.2.1 hos1.2.2.2 hsz1 hold hd1 hl1;⟨K1,H0,h0,h⟩)).mono ?_
  ·rintro pre j W ⟨K1,H1,g1,g2⟩ hlen
   have hy:=run_yield (P:=P) (args:=#[vJ a0 xs.length k j.val]) g2.hL (by rw [hr];rfl)
   refine ⟨r.fn,_,r.assign,r.body,hy,roundIn_of_wpIn trivial ?_⟩
   have he:Act.eval {tmps:=a.tmps.setIfInBounds p (vJ a0 xs.length k j.val),defers:= []} (.tmp p)=vJ a0 xs.length k j.val:=by
    have hlt:p<a.tmps.size:=by rw [hs.len];exact hp
    simp [Act.eval,hlt]
   have htm:(Array.zip r.params #[vJ a0 xs.length k j.val]).foldl (fun t (p,v)=>t.setIfInBounds p v) r.tmps=a.tmps.setIfInBounds p (vJ a0 xs.length k j.val):=by rw [hr];simp
   rw [htm]
   have hra:r.assign=asg:=by rw [hr]
   have hrb:r.body=c:=by rw [hr]
   rw [hra,hrb]
   refine Az hasg ?_
   rw [he]
   refine ⟨_,run_beginRound g2.hL (by rw [hr]),?_⟩
   have g3:=hput {r with state:= .busy} g2
   have hrep:RepV K1 (W.putObj (w.heap.size+1) (.loop {r with state:= .busy})) (.slc (jV xs k j.val)) (vJ a0 xs.length k j.val):=bg (RepV.mono g3.ext hru1') hx hk j.isLt
   refine wpIn_mono (oV hm x c _ H1 _ hib hdb hc ho hv (fun _ _ h=>h) (hbody (pre.map Fin.val) j.val H1 g1 j.isLt (by simpa using hlen) hrep.fact) K1 _ _ ((g3.st.setP hrep).setP hrep)) fun e a' W' ⟨F',H',K',q1,q2,q3⟩=>?_
   cases e with
   | normal=>
    obtain ⟨H3,q4,q5⟩:=q1
    have g4:=g3.round hs.krel hvv q2 q3 q4
    refine ⟨_,_,run_endRound none g4.hL,rfl,⟨K',H3,by simpa using q5,?_⟩,?_⟩
    ·have hrr:({({r with state:= .busy}:Loop) with state:=if (none:Option Code).isNone then .ready else .done,pending:=none}:Loop)=r:=by
      rw [hr];rfl
     rw [hrr]
     exact hput r g4
    ·have o1:∀b,b<w.heap.size->((W'.putObj (w.heap.size+1) (.loop {({r with state:= .busy}:Loop) with state:=if (none:Option Code).isNone then .ready else .done,pending:=none})).heap[b]?=W'.heap[b]?):=fun b hb=>World.putObj_heap_other (by omega)
     exact ⟨jb ((o1 b1 hb1).trans (g4.h1.trans g2.h1.symm)) 0,jb ((o1 b2 hb2).trans (g4.h2.trans g2.h2.symm)) 0⟩
   |_=>exact q1.elim
  ·rintro pre W ⟨K1,H1,g1,g2⟩
   exact ⟨K1,H1,g1,g2.step hs.krel hb1 hb2 rfl rfl rfl (Nat.le_succ _) rfl (fun _ _=>rfl) g2.hL⟩
  ·rintro e W2 ⟨⟨v,rfl⟩,ys,hS,K1,H1,g1,g2⟩
   rw [hS] at g1
   refine ⟨none,W2.putObj (w.heap.size+1) (.loop {r with state:= .exhausted}),?_,?_⟩
   ·have:=run_endLoop (P:=P) g2.hL (by rw [hr];simp)
    grind
   ·obtain ⟨K',q1,q2,q3⟩:=(hput _ g2).finish hs.krel hb1 hb2 hp1 hp2 hd.1 hd.2
    exact ⟨_,H1,K',hdone H1 g1,q1,q2,Nat.le_trans hd.1 q1.ext.size,q3⟩
theorem XRF.chunkK {P:Program} (hm:P.follows .mixedOrders=true) {f:FuncId} (hit:IP P f) {s p t:Tmp} {x:XC} {F:List D} {H:AH} {Q:AQ} {b1 b2 k:Nat} {xs:List (List D)} (hg:rv F (.tmp s)= .fn f [.ptr b1 0,.ptr b2 0]) (hp:p<F.length)
  (e1:qn H b1=some (.cells [.slc xs])) (e2:qn H b2=some (.cells [.int .i64 k])) (hk:0<k) (hk2:k<=1000) (hx:∀y∈xs,y.length=1) (Inv:List Nat->AH->Prop) (H0:AH) (hsb:Sbn H0 (qT (qT H b1) b2)) (h0:Inv [] H0)
  (hbody:∀(pre:List Nat) (j:Nat) (H':AH),Inv pre H'->j<uF xs.length k->pre.length<uF xs.length k->fact (.slc (jV xs k j))->∀K:AQ,(∀F' H'' H3,Sbn H3 H''->Inv (pre++ [j]) H3->K .normal F' H'')->xcode P x (((F.map D.view).set p (.slc (jV xs k j))).set t (.slc (jV xs k j))) H' K)
  (hdone:∀H',Inv (List.range (uF xs.length k)) H'->Q .normal (F.map D.view) H'):XRF P (.tmp s) p t x F H Q:=
 XRF.chunk hm hit hg hp e1 e2 hk hk2 hx Inv H0 hsb h0 (fun pre j H' h1 h2 h3 h4=>hbody pre j H' h1 h2 h3 h4 _ fun F' H'' H3 g1 g2=>⟨H3,g1,g2⟩) hdone
end Go.Aw
end
section
namespace Go.Proofs.YtgopigkdcmhbbaaGreatDoor
open Go Go.Aw Go.RowKit Go.Shelf
attribute [local go_sem] Oper.semAt_some
def Same (x y:Nat):Prop:=x=y
theorem iZ (n:Nat) (l b1 b2 len cap k m:Nat) (a:Option Addr) (hm0:m=uF len k) (hk:0<k) (hk2:k<=1000) (hlc:len<=cap) (hlb:len<=big) (J:List (Fin m)->World->Prop)
  (hY:∀pre (x:Fin m) W,J pre W->pre.length<m->YieldAt Fence.wide (n - 1) Tryz.prog l #[vJ a len k x.val] W fun e W'=>
   e= .returned (.bool true)∧J (pre++ [x]) W'∧Lj b1 b2 W W')
  (hJd:∀s A,J s A->J s A.drew) (W:World) (hB1:W.cell? ⟨b1,0,none⟩=some (.slice a len cap)) (hB2:W.cell? ⟨b2,0,none⟩=some (.int .i64 k)) (h0:J [] W):
  CallsIn Fence.wide n Tryz.prog 117 #[.func (.yield l) #[] #[],.pointer (some ⟨b1,0,none⟩),.pointer (some ⟨b2,0,none⟩)] W fun e W'=>(∃v,e= .returned v)∧
   ∃ys:List (Fin m),ys.map Fin.val=List.range m∧J ys W':=by
 have hmo:Tryz.prog.follows .mixedOrders=true:=by kernel_rfl
 refine callsIn_of_wp Tryz.func117 rfl trivial ?_ rfl
 simp only [Tryz.ntmps117,List.size_toArray,List.length_cons,List.length_nil,Nat.reduceAdd,Nat.reduceSub,Array.replicate_succ,Array.replicate_zero,List.push_toArray,List.append_toArray,Ny,List.cons_append]
 gi_wp2
 gi_loopw [4] (fun i wr=>∃(c i0:Nat) (pre:List (Fin m)),c<=m∧Same i0 (c*k)∧i0<=len+k∧i= .int .i64 i0∧pre.map Fin.val=List.range c∧J pre wr∧Lj b1 b2 W wr)
  (fun i _=>len+k - (intOf i).toNat)
 case atStart=>exact ⟨0,0,[],Nat.zero_le _,by simp [Same],Nat.zero_le _,rfl,rfl,h0,rfl,rfl⟩
 case round=>
  obtain ⟨c,i0,pre,hc,hi0,hile,rfl,hpre,hJs,hk1,hk3⟩:=hrel
  have hc1:wr.cell? ⟨b1,0,none⟩=some (.slice a len cap):=hk1.trans hB1
  have hc2:wr.cell? ⟨b2,0,none⟩=some (.int .i64 k):=hk3.trans hB2
  have hbig:=qk
  by_cases hlt:i0<len
  ·have hcm1:c<m:=by
    unfold Same at hi0
    subst hm0 hi0
    unfold uF
    refine (Nat.le_div_iff_mul_le hk).2 ?_
    rw [Nat.succ_mul]
    omega
   have hlt':(i0:Int)<len:=by omega
   obtain ⟨e0,he0⟩:∃e0,e0=min k (len - i0):=⟨_,rfl⟩
   have he1:min (k:Int) (len - i0:Nat)=e0:=by omega
   have he2:0<e0:=by omega
   have he3:i0+e0<=len:=by omega
   obtain ⟨fn,tmps,assign,body,hy,hR⟩:=hY _ (⟨c,hcm1⟩:Fin m) wr.drew (hJd _ _ hJs) (by have:=congrArg List.length hpre;simp at this;omega)
   unfold vJ at hy
   dsimp only at hy
   rw [<-show i0=c*k from hi0,<-he0] at hy
   have hyA:∀x:Nat,e0=x->(Instr.yield l #[Value.slice (Option.map (fun y=>y.add i0) a) (((i0:Int)+(x:Int)).toNat - i0) (((i0:Int)+(x:Int)).toNat - i0)]).run Tryz.prog wr.drew= .ok (.round l fn tmps assign body) wr.drew:=fun x hx=>by
    rw [<-hy,<-hx]
    unfold sliced
    rw [if_neg (by omega),show ((i0:Int)+(e0:Int)).toNat=i0+e0 by omega,Nat.mul_one]
   clear hy
   have hd1:wr.drew.cell? ⟨b1,0,none⟩=some (.slice a len cap):=hc1
   have hd2:wr.drew.cell? ⟨b2,0,none⟩=some (.int .i64 k):=hc2
   gi_wp2
   gi_region_o
   all_goals gi_wp2
   all_goals
    rw [hyA _ (by omega)]
    refine ⟨fun h=>(by cases h),hR.mono ?_⟩
    rintro e W3 ⟨rfl,hJ3,hk5,hk6⟩
    ·have hc3:W3.cell? ⟨b1,0,none⟩=some (.slice a len cap):=hk5.trans hd1
     have hc4:W3.cell? ⟨b2,0,none⟩=some (.int .i64 k):=hk6.trans hd2
     gi_wp2
     go_roundw
     case rel=>exact ⟨c+1,i0+k,pre++ [⟨c,hcm1⟩],by omega,by unfold Same at*;rw [hi0,Nat.succ_mul],by omega,by simp,by rw [Nm,hpre,Nv];rfl,hJ3,hk5.trans hk1,hk6.trans hk3⟩
     case measure=>simp [intOf];omega
  ·have hcm2:c=m:=by
    refine Nat.le_antisymm hc (Nat.le_of_not_lt fun h=>hlt ?_)
    rw [show i0=c*k from hi0]
    exact an hk (hm0▸h)
   have hlt':¬((i0:Int)<len):=by omega
   gi_wp2
   go_end0
   exact ⟨⟨_,rfl⟩,pre,hpre.trans (by rw [hcm2,<-hm0]),hJs⟩
theorem pM:IP Tryz.prog 117:=by
 refine ⟨enters_of Tryz.func117 (by kernel_rfl) rfl,fun n l a len cap k m b1 b2 hm hk hk2 hlc hlb J hY hJd W h1 h2 h0=>?_⟩
 exact iZ n l b1 b2 len cap k m a hm hk hk2 hlc hlb J hY hJd W h1 h2 h0
end Go.Proofs.YtgopigkdcmhbbaaGreatDoor
end
section
namespace Go.Proofs.YtgopigkdcmhbbaaGreatDoor
open Go Go.Aw
abbrev W:=UInt32
def wD (x:W):D:= .int .u32 (x.toNat:Int)
theorem W.lt (x:W):x.toNat<4294967296:=x.toNat_lt
theorem ub (x y:W):bits .xor .u32 (x.toNat:Int) (y.toNat:Int)=((x ^^^ y).toNat:Int):=by rw [u32_xor_nat _ _ x.lt y.lt,UInt32.toNat_xor]
theorem ai (x y:W):bits .and .u32 (x.toNat:Int) (y.toNat:Int)=((x&&&y).toNat:Int):=by rw [u32_and_nat _ _ x.lt y.lt,UInt32.toNat_and]
theorem nX (x y:W):bits .or .u32 (x.toNat:Int) (y.toNat:Int)=((x|||y).toNat:Int):=by rw [u32_or_nat _ _ x.lt y.lt,UInt32.toNat_or]
theorem zf (x y:W):IntKind.u32.wrap ((x.toNat:Int)+(y.toNat:Int))=((x+y).toNat:Int):=by
 rw [IntKind.wrap_u32',UInt32.toNat_add];omega
theorem DH (x:W):bits .xor .u32 IntKind.u32.max (x.toNat:Int)=((x ^^^ 0xffffffff).toNat:Int):=by
 have h:IntKind.u32.max=((0xffffffff:W).toNat:Int):=by decide
 rw [h,ub,UInt32.xor_comm]
theorem rZ (x:W):bits .xor .u32 (if IntKind.u32.signed=true then -1 else IntKind.u32.max) (x.toNat:Int)=((x ^^^ 0xffffffff).toNat:Int):=DH x
theorem Wp (x:W) (k:Nat) (hk:k<32):IntKind.u32.wrap ((x.toNat:Int)*2 ^ k)=((x<<<UInt32.ofNat k).toNat:Int):=by
 rw [IntKind.wrap_u32',UInt32.toNat_shiftLeft,Nat.shiftLeft_eq]
 have h:(UInt32.ofNat k).toNat % 32=k:=by rw [UInt32.toNat_ofNat'];omega
 rw [h]
 have h2:((2:Int) ^ k)=((2 ^ k:Nat):Int):=by simp
 rw [h2,<-Int.natCast_mul]
 omega
theorem WS (x:W) (k:Nat) (hk:k<32):((x.toNat:Int)).fdiv (2 ^ k)=((x>>>UInt32.ofNat k).toNat:Int):=by
 rw [UInt32.toNat_shiftRight,Nat.shiftRight_eq_div_pow]
 have h:(UInt32.ofNat k).toNat % 32=k:=by rw [UInt32.toNat_ofNat'];omega
 rw [h]
 have h2:((2:Int) ^ k)=((2 ^ k:Nat):Int):=by simp
 rw [h2,Int.fdiv_eq_ediv_of_nonneg _ (Ng _)]
 exact (Int.natCast_ediv _ _).symm
def rotr (x:W) (n:Nat):W:=(x>>>UInt32.ofNat n)|||(x<<<UInt32.ofNat (32 - n))
theorem pI (x:UInt8):IntKind.u32.wrap (x.toNat:Int)=((x.toUInt32).toNat:Int):=by
 rw [IntKind.wrap_u32',UInt8.toNat_toUInt32]
 have:=x.toNat_lt
 omega
theorem L6 (x:W):IntKind.u32.wrap ((x.toNat:Int)*2 ^ min (Int.toNat 8) IntKind.u32.bits)=((x<<<8).toNat:Int):=Wp x 8 (by decide)
theorem HW (x:W):((x.toNat:Int)).fdiv (2 ^ min (Int.toNat 3) IntKind.u32.bits)=((x>>>3).toNat:Int):=WS x 3 (by decide)
theorem Ci (x:W):((x.toNat:Int)).fdiv (2 ^ min (Int.toNat 10) IntKind.u32.bits)=((x>>>10).toNat:Int):=WS x 10 (by decide)
theorem fZ:IntKind.bits .u32=32:=rfl
end Go.Proofs.YtgopigkdcmhbbaaGreatDoor
end
noncomputable section
namespace Go.Proofs.YtgopigkdcmhbbaaGreatDoor
open Go.Xs
open Go Go.Aw
def cP:=yy Tryz.f148
def V148:=PLift.up (aI (@unf (cP 4) (F [u,u,u,u,u,u,u,v,u]) rfl) (aI (@unf (cP 2) (R [u,u,v,u] (cP 4)) rfl) (@unf (cP 0) (R [u] (cP 2)) rfl)))
theorem CA:type_of% V148.down:=V148.down
theorem FF:Bt 148 17 (cP 0) [(.tmp 4)]:=bt Tryz.func148 rfl
def nz:=yy Tryz.f146
def V146:=PLift.up (aI (@unf (nz 2) (F [u,u,u,u,u,u,u,u,u,u,u,u,u,v,u]) rfl) (@unf (nz 0) (R [u] (nz 2)) rfl))
theorem U146:type_of% V146.down:=V146.down
theorem H8:Bt 146 23 (nz 0) [(.tmp 8)]:=bt Tryz.func146 rfl
def wX:=yy Tryz.f145
def V145:=PLift.up (aI (aI (aI (@unf (wX 38) (r [u,u,u,u,u,u,u,v,u,u]) rfl) (aI (@unf (wX 34) (X (O (R [u,v,u] (wX 38))) (r [u,u])) rfl) (@unf (wX 28) (R [u] (X I (wX 34))) rfl))) (aI (@unf (wX 23) (X (R [u,u,u,u,u,u,u,u,u] (U (wX 28))) (.exit _)) rfl) (aI (@unf (wX 48) (G [u,u,u,u,u,u,u,u,u,u,u,u,u,v,u,u]) rfl) (@unf (wX 46) (R [u,u,u,u,u,u,u,v,u] (wX 48)) rfl)))) (aI (aI (@unf (wX 44) (R [u,u,u,u,u,u,u,v,u] (wX 46)) rfl) (aI (@unf (wX 42) (X (G [u,u,u,v,u,u,u,v,u,u]) (wX 44)) rfl) (@unf (wX 19) (X (R [u,u] (T (wX 23))) (wX 42)) rfl))) (aI (aI (@unf (wX 15) (X (O (R [v,u] (wX 19))) (r [u,u])) rfl) (@unf (wX 9) (R [u] (X I (wX 15))) rfl)) (aI (@unf (wX 4) (X (R [u] (U (wX 9))) (F [v,u])) rfl) (@unf (wX 0) (R [u] (R [u] (wX 4))) rfl)))))
theorem Vi:type_of% V145.down:=V145.down
theorem IB:Bt 145 79 (wX 0) [(.cell 2 203)]:=bt Tryz.func145 rfl
def vg:=yy Tryz.f142
def x142_s11:XC:=(.seq (.regT [] [([a (.slice 180 (t 2) .none (.some (i 4)) .none) 15,a (.sliceToArrayPointer 207 (t 15)) 16,L 207 16 17,a (.slice 180 (t 2) (.some (i 4)) .none .none) 18,a (.sliceToArrayPointer 207 (t 18)) 19,L 207 19 20],a (.alloc 207) 6,false),([],a (.alloc 207) 7,false),([],w 207 6 17,false)] [] [w 207 7 20]) (.seq (R [a (.load 203 (.global 1)) 21,J 0 22] (.block 0 (.loop (vg 11)))) (vg 29)))
def x142_s12:XC:=(.seq (vg 3) x142_s11)
def BY:XC:=(R [B 180 0 2,a (.alloc 180) 4] x142_s12)
def V142r:=PLift.up (aI (@unf (vg 3) (r [u,v,u,u]) rfl) trivial)
theorem vT:type_of% V142r.down:=V142r.down
def V142:=PLift.up (aI (aI (aI (@unf (vg 27) (r [u,u,u,u,u,u,u,u,u,v,u]) rfl) (aI (@unf (vg 25) (R [u,u,u,u,u,u,u,u,u,u,v,u] (vg 27)) rfl) (@unf (vg 23) (X (G [u,u,u,u,u,u,u,u,u,u,u,u,u,u,u,u,u,u,u,u,v,u]) (vg 25)) rfl))) (aI (@unf (vg 21) (X (G [u,u,u,u,u,u,u,u,u,u,u,u,u,u,u,u,u,u,u,u,u,u,u,u,v,u]) (vg 23)) rfl) (aI (@unf (vg 17) (X (O (R [v,v,u,u] (vg 21))) (r [u,u])) rfl) (@unf (vg 11) (R [u] (X I (vg 17))) rfl)))) (aI (aI (@unf (vg 46) (G [u,u,u,u,u,u,u,v,u,u]) rfl) (aI (@unf (vg 44) (X (G [u,u,u,u,u,u,v,u,u]) (vg 46)) rfl) (@unf (vg 40) (X (O (R [v,u] (vg 44))) (r [u,u])) rfl))) (aI (aI (@unf (vg 34) (R [u] (X I (vg 40))) rfl) (@unf (vg 29) (X (R [u] (U (vg 34))) (F [v,u])) rfl)) (aI (@unf _ _ x142_s11.eq_1) (@unf _ _ x142_s12.eq_1)))))
theorem JI:type_of% V142.down:=V142.down
theorem Ls:Bt 142 116 BY [(.cell 4 180)]:=bt Tryz.func142 rfl
def lQ:=yy Tryz.f122
def V122:=PLift.up (aI (@unf (lQ 2) (F [u,v,u]) rfl) (@unf (lQ 0) (R [u] (lQ 2)) rfl))
theorem U122:type_of% V122.down:=V122.down
theorem MQ:Bt 122 3 (lQ 0) [(.cell 0 183)]:=bt Tryz.func122 rfl
def YL:=yy Tryz.f123
def x123_s4:XC:=(R [f 183 2 1 13,m 5 14,a (.slice 181 (t 13) (.some (t 14)) .none .none) 15,m 1 16,b (.call ⟨(.builtin .copy),#[t 15,t 16],#[55,9]⟩) 17,n 17 6] (YL 16))
def x123_s5:XC:=(.block 1 (.seq (YL 13) x123_s4))
def x123_L6:XC:=(.seq (R [m 1 7,a (.binOp .neq 9 (t 7) (.const (.string ⟨#[]⟩)) 9) 8] (C 8 .skip (.exit 0))) x123_s5)
def DJ:XC:=(R [B 183 0 2,a (.alloc 183) 4] (.seq (.block 0 (.loop x123_L6)) (R [L 183 2 37,w 183 4 37] .ret)))
def V123r:=PLift.up (aI (@unf (YL 13) (r [u,u,u,v,u]) rfl) trivial)
theorem Wd:type_of% V123r.down:=V123r.down
def V123:=PLift.up (aI (aI (@unf (YL 23) (G [u,u,u,u,v,u,u]) rfl) (aI (@unf (YL 20) (R [u,u,u,u] (T (YL 23))) rfl) (@unf (YL 18) (R [u,u,u,u,v,u,u] (YL 20)) rfl))) (aI (aI (@unf (YL 16) (R [u,u,v,u] (YL 18)) rfl) (@unf _ _ x123_s4.eq_1)) (aI (@unf _ _ x123_s5.eq_1) (@unf _ _ x123_L6.eq_1))))
theorem Ak:type_of% V123.down:=V123.down
theorem FW:Bt 123 38 DJ [(.cell 4 183)]:=bt Tryz.func123 rfl
def wN:=yy Tryz.f124
def V124:=PLift.up (aI (aI (aI (@unf (wN 15) (O (r [x,u,v,u])) rfl) (aI (@unf (wN 9) (X (R [u,u,u,u,u,u,u,u] I) (wN 15)) rfl) (@unf (wN 32) (r [x,u,u,u,u,u,u,u,v,u]) rfl))) (aI (@unf (wN 28) (X (O (R [v,u] (wN 32))) (r [u,u])) rfl) (aI (@unf (wN 22) (R [u] (X I (wN 28))) rfl) (@unf (wN 53) (r [u,u,u,u,u,u,u,u,u,u,u,v,u,u]) rfl)))) (aI (aI (@unf (wN 49) (X (O (R [v,u] (wN 53))) (r [u,u])) rfl) (aI (@unf (wN 43) (R [u] (X I (wN 49))) rfl) (@unf (wN 38) (X (R [u] (U (wN 43))) (F [v,u])) rfl))) (aI (aI (@unf (wN 34) (R [u,u,u,v,u] (R [u] (wN 38))) rfl) (@unf (wN 4) (R [v,u] (X (U (wN 9)) (X (R [u] (U (wN 22))) (wN 34)))) rfl)) (aI (@unf (wN 2) (R [u,u,v,u] (wN 4)) rfl) (@unf (wN 0) (R [u,u] (wN 2)) rfl)))))
theorem Yl:type_of% V124.down:=V124.down
theorem Lq:Bt 124 58 (wN 0) [(.cell 2 177)]:=bt Tryz.func124 rfl
def dv:=yy Tryz.f95
def x95_s6:XC:=(.seq (.regT [] [([a (k 122 #[] #[]) 9,m 0 10,a (.convert 3 5 (t 10)) 11,a (.buildSlice 55 1 #[(0,(t 11))]) 12,a (.convert 55 9 (t 12)) 13,K2 123 9 13 183 9 14],a (.alloc 183) 5,false)] [] [w 183 5 14]) (dv 4))
def x95:XC:=(R [a (.alloc 33) 4] x95_s6)
def V95:=PLift.up (aI (aI (@unf (dv 19) (G [u,u,u,u,v,u]) rfl) (aI (@unf (dv 15) (X (O (R [u,v,u] (dv 19))) (r [u,u])) rfl) (@unf (dv 9) (R [u] (X I (dv 15))) rfl))) (aI (aI (@unf (dv 23) (F [u,u,v,u]) rfl) (@unf (dv 21) (R [u,v,u,u] (dv 23)) rfl)) (aI (@unf (dv 4) (X (R [u,u,u] (U (dv 9))) (dv 21)) rfl) (@unf _ _ x95_s6.eq_1))))
theorem AP:type_of% V95.down:=V95.down
theorem b95:Bt 95 32 x95 [(.cell 4 33)]:=bt Tryz.func95 rfl
def Ux:=yy Tryz.f135
def x135_s4:XC:=(.seq (.regD [a (.slice 181 (t 4) .none .none .none) 6,l 9 1 7,a (.call ⟨(.builtin .copy),#[t 6,t 7],#[55,9]⟩) 8]) (.seq (R [J 0 9] (.block 0 (.loop (Ux 11)))) (Ux 23)))
def Cf:XC:=(R [S 3] (R [a (.alloc 181) 4] x135_s4))
def V135:=PLift.up (aI (aI (@unf (Ux 21) (r [u,u,u,u,v,u,u]) rfl) (@unf (Ux 17) (X (O (R [v,u] (Ux 21))) (r [u,u])) rfl)) (aI (@unf (Ux 11) (R [u] (X I (Ux 17))) rfl) (aI (@unf (Ux 23) (F [u,v,u]) rfl) (@unf _ _ x135_s4.eq_1))))
theorem mY:type_of% V135.down:=V135.down
theorem Hc:Bt 135 21 Cf [(.tmp 3)]:=bt Tryz.func135 rfl
def UO:=yy Tryz.f103
def x103_s3:XC:=(.seq (.regT [] [([a (k 122 #[] #[]) 25,m 6 26,a (.call ⟨(.value (t 26)),#[(.const (.int .u8 92))],#[5]⟩) 27,k2 123 25 27 183 9 28,a (.slice 177 (t 7) .none .none .none) 29,a (.convert 55 9 (t 29)) 30,k2 123 28 30 183 9 31,K1 124 31 183 32],a (.alloc 177) 8,false)] [] [w 177 8 32]) (UO 16))
def x103_s4:XC:=(.seq (UO 13) x103_s3)
def x103_s5:XC:=(.seq (R [l 9 2 9,e 9 9 10,q .gtr 3 10 64 11] (C 11 (UO 6) .skip)) (R [b (.makeFunc (.func 135) #[] #[t 2]) 17,n 17 6] x103_s4))
def BQ:XC:=(R [B 9 0 2,S 4] x103_s5)
def V103r:=PLift.up (aI (@unf (UO 13) (r [u,u,u,u,u,u,v,u,u]) rfl) trivial)
theorem oR:type_of% V103r.down:=V103r.down
def V103:=PLift.up (aI (aI (@unf (UO 8) (r [u,v,u]) rfl) (aI (@unf (UO 6) (R [u,u,v,u,u] (UO 8)) rfl) (@unf (UO 16) (F [u,v,u]) rfl))) (aI (@unf _ _ x103_s3.eq_1) (aI (@unf _ _ x103_s4.eq_1) (@unf _ _ x103_s5.eq_1))))
theorem AI:type_of% V103.down:=V103.down
theorem Hl:Bt 103 35 BQ [(.tmp 4)]:=bt Tryz.func103 rfl
def Fx:=yy Tryz.f96
def V96:=PLift.up (aI (@unf (Fx 2) (F [u,u,v,u]) rfl) (@unf (Fx 0) (R [u] (Fx 2)) rfl))
theorem U96:type_of% V96.down:=V96.down
theorem b96:Bt 96 6 (Fx 0) [(.tmp 2)]:=bt Tryz.func96 rfl
def Fc:=yy Tryz.f65
def V65:=PLift.up (aI (@unf (Fc 2) (F [u,u,u,u,u,u,u,u,u,u,v,u]) rfl) (@unf (Fc 0) (R [u] (Fc 2)) rfl))
theorem U65:type_of% V65.down:=V65.down
theorem b65:Bt 65 18 (Fc 0) [(.cell 6 33)]:=bt Tryz.func65 rfl
def lc:=yy Tryz.f55
def V55:=PLift.up (aI (aI (@unf (lc 16) (r [u,v,u]) rfl) (@unf (lc 13) (X (O (G [u,u,u,u,u,u,u,u,v,u])) (lc 16)) rfl)) (aI (@unf (lc 7) (X (R [u,u,u] I) (lc 13)) rfl) (aI (@unf (lc 2) (X (R [v,u] (U (lc 7))) (F [v,u])) rfl) (@unf (lc 0) (R [u,u] (lc 2)) rfl))))
theorem BL:type_of% V55.down:=V55.down
theorem b55:Bt 55 28 (lc 0) [(.cell 10 33)]:=bt Tryz.func55 rfl
def Ft:=yy Tryz.f56
def V56:=PLift.up (aI (@unf (Ft 2) (X (G [u,u,u,u,u,v,u]) .ret) rfl) (@unf (Ft 0) (R [u,u,u] (Ft 2)) rfl))
theorem U56:type_of% V56.down:=V56.down
theorem b56:Bt 56 11 (Ft 0) [(.cell 4 33)]:=bt Tryz.func56 rfl
end Go.Proofs.YtgopigkdcmhbbaaGreatDoor
end
section
namespace Go.Proofs.YtgopigkdcmhbbaaGreatDoor
open Go Go.Aw
theorem Ku {R:D->AH->Prop} (hn:0<n) (hn2:n<32) (hk:bits .and .u64 (IntKind.u64.wrap k) 31=((32 - n:Nat):Int)) (h:R (wD (rotr x n)) H):
  ACall Tryz.prog 148 [wD x,.i k] H R:=by
 refine FF fun hf=>?_
 simp+contextual only [↓CA,wD,↓CA,↓XP,qh,qa,qb]
 have h64:IntKind.u64.wrap (32 - ((32 - n:Nat):Int))=(n:Int):=by rw [show IntKind.u64.wrap (32 - ((32 - n:Nat):Int))=(32 - ((32 - n:Nat):Int)) % 18446744073709551616 by simp [IntKind.wrap,IntKind.bits,IntKind.signed]];omega
 rw [hk,h64]
 refine ⟨Ng _,Ng _,?_⟩
 rw [Nd,Nd,fZ,Nat.min_eq_left (by omega),Nat.min_eq_left (by omega),Wp x _ (by omega),WS x _ hn2,nX,UInt32.or_comm]
 exact h
theorem pB {R:D->AH->Prop} (hi:0<i∧i<32) (hj:0<j∧j<32) (hk:0<k∧k<32) (h:R (wD (rotr x i ^^^ rotr x j ^^^ rotr x k)) H):
  ACall Tryz.prog 146 [wD x,.i i,.i j,.i k] H R:=by
 have hneg:∀n:Nat,0<n∧n<32->bits .and .u64 (IntKind.u64.wrap (IntKind.i64.wrap (0 - (n:Int)))) 31=((32 - n:Nat):Int):=by
  intro n hn
  have:n=1∨n=2∨n=3∨n=4∨n=5∨n=6∨n=7∨n=8∨n=9∨n=10∨n=11∨n=12∨n=13∨n=14∨n=15∨n=16∨n=17∨n=18∨n=19∨n=20∨n=21∨n=22∨n=23∨n=24∨n=25∨n=26∨n=27∨n=28∨n=29∨n=30∨n=31:=by omega
  rcases this with rfl|rfl|rfl|rfl|rfl|rfl|rfl|rfl|rfl|rfl|rfl|rfl|rfl|rfl|rfl|rfl|rfl|rfl|rfl|rfl|rfl|rfl|rfl|rfl|rfl|rfl|rfl|rfl|rfl|rfl|rfl<;>decide
 refine H8 fun hf=>?_
 simp+contextual only [↓U146,wD,↓U146.1,↓XP,qp,qa,qb,↓XH]
 refine Ku hi.1 hi.2 (hneg i hi) ?_
 simp+contextual only [wD,↓XP,qp,↓XH]
 intro _
 refine Ku hj.1 hj.2 (hneg j hj) ?_
 simp+contextual only [wD,ub,↓XP,qp,↓XH]
 intro _
 refine Ku hk.1 hk.2 (hneg k hk) ?_
 simp+contextual only [wD,ub,↓XP,qp]
 intro _
 exact h
end Go.Proofs.YtgopigkdcmhbbaaGreatDoor
end
section
namespace Go.Aw
open Go Go.RowKit
theorem XW.loopS (hm:P.follows .mixedOrders=true) {σ:Type} (n:Nat) (fr:σ->List (Nat×D)) (hp:σ->AH) (μ:σ->Nat) (inv:σ->Prop) (s0:σ)
  (i0:inv s0) (f0:Fr n (fr s0) F) (e0:hp s0=H)
  (round:∀s (z:Nat->D),inv s->∀K:AQ,(∀s' F' H',inv s'->μ s'<μ s->Fr n (fr s') F'->back (hp s).length H'=hp s'->K .normal F' H')->(∀i F' H',Q (.exit i) F' H'->K (.exit i) F' H')->(∀F' H',Q .ret F' H'->K .ret F' H')->
   xcode P x (fl (fr s) z 0 n) (hp s) K) (hs:∀s,fso (fr s) 0 n=true:=by exact fun _=>rfl):XW P x F H Q:=by
 let I:Nat->List D->AH->Prop:=fun m F H=>∃s,inv s∧Fr n (fr s) F∧hp s=H∧μ s=m
 refine XW.loopK hm (fun F H=>∃m,I m F H) (fun F H=>open Classical in if h:∃m,I m F H then Classical.choose (least (fun m=>I m F H) h.choose h.choose_spec) else 0) ⟨_,s0,i0,f0,e0,rfl⟩ ?_
 intro F H hI K hN hE hR
 have hmin:=Classical.choose_spec (least (fun m=>I m F H) hI.choose hI.choose_spec)
 simp only [dif_pos hI] at hN
 generalize Classical.choose (least (fun m=>I m F H) hI.choose hI.choose_spec)=m at hmin hN
 obtain ⟨⟨s,h1,h2,h3,h4⟩,hl⟩:=hmin
 obtain ⟨z,rfl⟩:=h2.fl (hs _)
 subst h3 h4
 refine round s z h1 K (fun s' F' H' g1 g2 g3 g4=>hN F' H' ⟨_,s',g1,g3,g4.symm,rfl⟩ ?_) hE hR
 have hex:∃m,I m F' (back (hp s).length H'):=⟨_,s',g1,g3,g4.symm,rfl⟩
 simp only [dif_pos hex]
 have hmin':=Classical.choose_spec (least (fun m=>I m F' (back (hp s).length H')) hex.choose hex.choose_spec)
 generalize Classical.choose (least (fun m=>I m F' (back (hp s).length H')) hex.choose hex.choose_spec)=m' at hmin'
 have:m'<=μ s':=Nat.le_of_not_lt fun hlt=>hmin'.2 _ hlt ⟨s',g1,g3,g4.symm,rfl⟩
 omega
section
variable {α:Type} {f:α->List D} {l a b:List α} {i n:Nat}
theorem jB (h:i<l.length):l.getD i d=l[i]:=by simp [h]
end
end Go.Aw
end
section
namespace Go.Proofs.YtgopigkdcmhbbaaGreatDoor
open Go Go.Aw
def bD (c:UInt8):D:= .int .u8 (c.toNat:Int)
theorem yw (x:W):wP .u32 (x.toNat:Int)=True:=eq_true (by have:=x.lt;simp [wP,Lit.wf,IntKind.min,IntKind.max,IntKind.signed,IntKind.bits];omega)
theorem aG (x:UInt8):wP .u8 (x.toNat:Int)=True:=eq_true (by have:=x.toNat_lt;simp [wP,Lit.wf,IntKind.min,IntKind.max,IntKind.signed,IntKind.bits];omega)
def oB (m:List UInt8) (t:Nat):Nat->W
 |0=>0
 |i+1=>(oB m t i<<<8)|||(m.getD (4*t+i) 0).toUInt32
def tf (p:W):W:=rotr p 7 ^^^ rotr p 18 ^^^ (p>>>3)
def sQ (q:W):W:=rotr q 17 ^^^ rotr q 19 ^^^ (q>>>10)
def Uh (m:List UInt8) (l:List W) (t:Nat):W:=if t<16 then oB m t 4 else l.getD (t - 16) 0+tf (l.getD (t - 15) 0)+l.getD (t - 7) 0+sQ (l.getD (t - 2) 0)
def wo (m:List UInt8):Nat->List W
 |0=>[]
 |t+1=>wo m t++ [Uh m (wo m t) t]
theorem jo (m:List UInt8):∀t,(wo m t).length=t
 |0=>rfl
 |t+1=>by simp [wo,jo m t]
def arr (l:List W):List D:=l.map wD++List.replicate (64 - l.length) (wD 0)
theorem JQ (h:l.length<=64):(arr l).length=64:=by simp [arr];omega
theorem vr (h:i<l.length):(arr l)[i]?=some (wD (l.getD i 0)):=by
 rw [arr,Nk (by simpa using h),Nb,Na h]
 simp [List.getD,Na h]
theorem ff:(arr (l++ [x]))[l.length]?=some (wD x):=by
 rw [vr (by simp)];simp [List.getD]
theorem aS:(arr (l++ [x])).set l.length (wD y)=arr (l++ [y]):=by
 unfold arr
 rw [List.set_append_left _ _ (by simp)]
 simp
theorem UR (h:l.length<64):arr l=arr (l++ [0]):=by
 unfold arr
 rw [show 64 - l.length=(64 - (l++ [(0:W)]).length)+1 by simp;omega,List.replicate_succ]
 simp
theorem VT (h:l.length<64):(arr l).set l.length (wD y)=arr (l++ [y]):=by rw [UR h,aS]
theorem wv (l:List W):(l.map wD).map D.view1=l.map wD:=by rw [Nz];rfl
theorem wt {l:List W} {n:Nat} (h:l.length=n):(l.map wD).take n=l.map wD:=by rw [No];simp [h]
theorem Zu:(arr []).drop 64= []:=rfl
theorem UU (h:l.length=64):arr l=l.map wD:=by simp [arr,h]
theorem Gc {m:List UInt8} {p o:Nat} {cs:List D} {H:AH} {R:D->AH->Prop} (hp:qn H p=some (.cells cs)) (hc:∀i,i<64->cs[o+i]?=some (bD (m.getD i 0))) (h:R (.agg ((wo m 64).map wD)) H):
  ACall Tryz.prog 145 [.hso p o 64] H R:=by
 refine IB fun hf=>?_
 simp+contextual only [↓Vi,↓Vi,↓XP,qh,XW1,qa]
 have hbig:=qk
 intro b hb b1 hb1
 refine XW.loopS hmm 79 (fun t:Nat=>[(0,.hso p o 64),(2,.ptr b 0),(3,.ptr b1 0),(11,.i ((t:Nat):Int))]) (fun t=>(b1,.cells (arr (wo m t)))::(b,.cells (arr []))::H) (fun t=>64 - t) (fun t=>t<=64) 0 (by omega) ⟨rfl,rfl,rfl,rfl,rfl,trivial⟩ rfl ?_
 intro t z ht K hN hE hR
 dsimp only [fl,zz,qa,qb]
 have hpb:=qO hb hp
 have hpb1:=qO hb1.2 hp
 by_cases hlt:t<64
 ·have hlt':((t:Int)<64)=True:=qo
  by_cases h16:t<16
  ·have h16':((t:Int)<16)=True:=qo
   have w4:IntKind.i64.wrap (4*(t:Int))=((4*t:Nat):Int):=by rw [qi (by omega) (by omega)];omega
   have w5:IntKind.i64.wrap (((4*t:Nat):Int)+4)=((4*t+4:Nat):Int):=by rw [qi (by omega) (by omega)];omega
   have hz:=UR (l:=wo m t) (by rw [jo];exact hlt)
   simp+contextual only [hlt',h16',w4,w5,Nat.mul_one,hz,show 4*t+4 - 4*t=4 by omega,↓Vi,↓JX,qh,↓XH]
   refine ⟨by omega,by omega,by omega,?_⟩
   refine XW.loopS hmm 79 (fun i:Nat=>[(0,.hso p o 64),(2,.ptr b 0),(3,.ptr b1 0),(4,.i (t:Int)),(11,.i (t:Int)),(22,.hso p (o+4*t) 4),(23,.i 4),(24,.i ((i:Nat):Int))]) (fun i=>(b1,.cells (arr (wo m t++ [oB m t i])))::(b,.cells (arr []))::H) (fun i=>4 - i) (fun i=>i<=4) 0 (by omega) ⟨rfl,rfl,rfl,rfl,rfl,rfl,rfl,rfl,rfl,trivial⟩ rfl ?_
   intro i z hi K2 hN2 hE2 hR2
   dsimp only [fl,zz,qa,qb]
   by_cases hi4:i<4
   ·have hi4':((i:Int)<(4:Int))=True:=qo
    have g1:=hc (4*t+i) (by omega)
    rw [<-Nat.add_assoc] at g1
    have g2:=ff (l:=wo m t) (x:=oB m t i)
    rw [jo] at g2
    simp+contextual only [hi4',Nat.mul_one,qg hpb1,qg hpb,hp,g1,g2,bD,wD,nX,L6,pI,↓Vi,↓JX,qh]
    refine ⟨by omega,fun _=>⟨by omega,fun _=>⟨by decide,by omega,by rw [JQ (by simp [jo];omega)];omega,?_⟩⟩⟩
    have g3:=aS (l:=wo m t) (x:=oB m t i) (y:=oB m t (i+1))
    rw [jo] at g3
    have g4:(D.int .u32 ↑((oB m t i<<<8|||(m.getD (4*t+i) 0).toUInt32).toNat))=wD (oB m t (i+1)):=rfl
    rw [qj (by omega),g4,g3]
    exact hN2 (i+1) _ _ (by omega) (by omega) ⟨rfl,rfl,rfl,rfl,rfl,rfl,rfl,rfl,rfl,trivial⟩ (qz rfl)
   ·have hi4':((i:Int)<(4:Int))=False:=qy
    obtain rfl:i=4:=by omega
    simp+contextual only [hi4',↓Vi,↓XP,qp]
    apply hE2
    simp+contextual only [↓XP,qp,XW1,qf]
    have hw:wo m t++ [oB m t 4]=wo m (t+1):=by rw [wo,Uh,if_pos h16]
    rw [qj (by omega),hw]
    exact hN (t+1) _ _ (by omega) (by omega) ⟨rfl,rfl,rfl,rfl,rfl,trivial⟩ (qz rfl)
  ·have h16':((t:Int)<16)=False:=qy
   have w15:IntKind.i64.wrap ((t:Int) - 15)=((t - 15:Nat):Int):=by rw [qi (by omega) (by omega)];omega
   have w2:IntKind.i64.wrap ((t:Int) - 2)=((t - 2:Nat):Int):=by rw [qi (by omega) (by omega)];omega
   have w16:IntKind.i64.wrap ((t:Int) - 16)=((t - 16:Nat):Int):=by rw [qi (by omega) (by omega)];omega
   have w7:IntKind.i64.wrap ((t:Int) - 7)=((t - 7:Nat):Int):=by rw [qi (by omega) (by omega)];omega
   have g15:=vr (l:=wo m t) (i:=t - 15) (by rw [jo];omega)
   have g2:=vr (l:=wo m t) (i:=t - 2) (by rw [jo];omega)
   have g16:=vr (l:=wo m t) (i:=t - 16) (by rw [jo];omega)
   have g7:=vr (l:=wo m t) (i:=t - 7) (by rw [jo];omega)
   simp+contextual only [hlt',h16',w15,w2,g15,g2,Nat.mul_one,wD,↓Vi,↓XP,qh]
   refine ⟨by omega,fun _=>⟨by omega,fun _=>?_⟩⟩
   refine Ku (n:=7) (by decide) (by decide) (by decide) ?_
   simp+contextual only [wD,↓XP,qp]
   intro _
   refine Ku (n:=18) (by decide) (by decide) (by decide) ?_
   simp+contextual only [wD,ub,HW,↓Vi,↓XP,qp]
   refine fun _=>⟨by decide,?_⟩
   refine Ku (n:=17) (by decide) (by decide) (by decide) ?_
   simp+contextual only [wD,↓XP,qp]
   intro _
   refine Ku (n:=19) (by decide) (by decide) (by decide) ?_
   simp+contextual only [wD,ub,zf,Ci,w16,w7,g16,g7,Nat.mul_one,↓Vi,↓XP,qh]
   refine fun _=>⟨by decide,by omega,fun _=>⟨by omega,fun _=>⟨by omega,by rw [JQ (by rw [jo];omega)];omega,?_⟩⟩⟩
   have hw:wo m (t+1)=wo m t++ [(wo m t).getD (t - 16) 0+tf ((wo m t).getD (t - 15) 0)+(wo m t).getD (t - 7) 0+sQ ((wo m t).getD (t - 2) 0)]:=by rw [wo,Uh,if_neg h16]
   have g3:=VT (l:=wo m t) (y:=(wo m t).getD (t - 16) 0+tf ((wo m t).getD (t - 15) 0)+(wo m t).getD (t - 7) 0+sQ ((wo m t).getD (t - 2) 0)) (by rw [jo];exact hlt)
   rw [jo,<-hw] at g3
   unfold tf sQ wD at g3
   rw [qj (by omega),g3]
   exact hN (t+1) _ _ (by omega) (by omega) ⟨rfl,rfl,rfl,rfl,rfl,trivial⟩ (qz rfl)
 ·have hlt':((t:Int)<64)=False:=qy
  obtain rfl:t=64:=by omega
  simp+contextual only [hlt',↓Vi,↓XP,qp]
  apply hE
  simp+contextual only [qg hb1.1,qm hb1.1,UU (jo m 64),wt (jo m 64),wv,Zu,jo,↓XP,qh,XW1]
  exact ⟨Nn _,h⟩
structure S8 where
 a:W
 b:W
 c:W
 d:W
 e:W
 f:W
 g:W
 h:W
deriving Inhabited
def S8.D (s:S8):List D:= [wD s.a,wD s.b,wD s.c,wD s.d,wD s.e,wD s.f,wD s.g,wD s.h]
def xP (s:S8) (k w:W):W:=s.h+(rotr s.e 6 ^^^ rotr s.e 11 ^^^ rotr s.e 25)+((s.e&&&s.f) ^^^ ((s.e ^^^ 0xffffffff)&&&s.g))+k+w
def yP (s:S8):W:=(rotr s.a 2 ^^^ rotr s.a 13 ^^^ rotr s.a 22)+((s.a&&&s.b) ^^^ (s.a&&&s.c) ^^^ (s.b&&&s.c))
def rnd (s:S8) (k w:W):S8:=⟨xP s k w+yP s,s.a,s.b,s.c,s.d+xP s k w,s.e,s.f,s.g⟩
def kW:List W:= [1116352408,1899447441,3049323471,3921009573,961987163,1508970993,2453635748,2870763221,3624381080,310598401,607225278,1426881987,1925078388,2162078206,2614888103,3248222580,3835390401,4022224774,264347078,604807628,770255983,1249150122,1555081692,1996064986,2554220882,2821834349,2952996808,3210313671,3336571891,3584528711,113926993,338241895,666307205,773529912,1294757372,1396182291,1695183700,1986661051,2177026350,2456956037,2730485921,2820302411,3259730800,3345764771,3516065817,3600352804,4094571909,275423344,430227734,506948616,659060556,883997877,958139571,1322822218,1537002063,1747873779,1955562222,2024104815,2227730452,2361852424,2428436474,2756734187,3204031479,3329325298]
def rnds (s:S8) (ws:List W):Nat->S8
 |0=>s
 |t+1=>rnd (rnds s ws t) (kW.getD t 0) (ws.getD t 0)
def dC (s r:S8):S8:=⟨s.a+r.a,s.b+r.b,s.c+r.c,s.d+r.d,s.e+r.e,s.f+r.f,s.g+r.g,s.h+r.h⟩
def uf (s:S8) (m:List UInt8):S8:=dC s (rnds s (wo m 64) 64)
def kD:List D:=kW.map wD
theorem VA:kW.length=64:=rfl
theorem rx (h:t<64):kD.getD t .any=wD (kW.getD t 0):=by
 have h2:t<kW.length:=by rw [VA];exact h
 simp [kD,List.getD,Nb,Na h2]
theorem xh:kD.length=64:=by simp [kD,VA]
theorem mh:kD.take 64=kD:=No (by simp [kD,VA])
def fp (b2 b4 b5 b6 b7:Nat) (ws:List W) (z s r:S8) (H:AH):AH:=(b6,.cells [wD r.a,wD r.b,wD r.c,wD r.d])::(b7,.cells [wD r.e,wD r.f,wD r.g,wD r.h])::(b5,.cells (ws.map wD))::(b4,.cells z.D)::(b2,.cells s.D)::H
def z8:S8:=⟨0,0,0,0,0,0,0,0⟩
def be (s r:S8):Nat->S8
 |0=>s
 |1=>{s with a:=s.a+r.a,e:=s.e+r.e}
 |2=>{s with a:=s.a+r.a,e:=s.e+r.e,b:=s.b+r.b,f:=s.f+r.f}
 |3=>{s with a:=s.a+r.a,e:=s.e+r.e,b:=s.b+r.b,f:=s.f+r.f,c:=s.c+r.c,g:=s.g+r.g}
 |_=>dC s r
theorem ry {b4 b5 b6 b7} (n54:¬b4=b5) (n52:¬b2=b5) (n42:¬b2=b4) (n75:¬b5=b7) (n74:¬b4=b7) (n72:¬b2=b7) (n67:¬b7=b6) (n65:¬b5=b6) (n64:¬b4=b6) (n62:¬b2=b6) (hwl:ws.length=64) (hF:Fr 116 [(2,.ptr b2 0),(4,.ptr b4 0),(5,.ptr b5 0),(6,.ptr b6 0),(7,.ptr b7 0),(21,.agg kD),(22,.i 0)] F) 
  (hQ:∀F' t,t=64->Fr 116 [(2,.ptr b2 0),(4,.ptr b4 0),(6,.ptr b6 0),(7,.ptr b7 0)] F'->Q (.exit 0) F' (fp b2 b4 b5 b6 b7 ws z8 s (rnds s ws t) H)):XW Tryz.prog (vg 11) F (fp b2 b4 b5 b6 b7 ws z8 s s H) Q:=by
 have hbig:=qk
 refine XW.loopS hmm 116 (fun t:Nat=>[(2,.ptr b2 0),(4,.ptr b4 0),(5,.ptr b5 0),(6,.ptr b6 0),(7,.ptr b7 0),(21,.agg kD),(22,.i ((t:Nat):Int))]) (fun t=>fp b2 b4 b5 b6 b7 ws z8 s (rnds s ws t) H) (fun t=>64 - t) (fun t=>t<=64) 0 (by omega) hF rfl ?_
 intro t z ht K hN hE hR
 dsimp only [fl,zz,qa,qb]
 by_cases hlt:t<64
 ·have hlt':((t:Int)<64)=True:=qo
  have hr1:rnds s ws (t+1)=rnd (rnds s ws t) (kW.getD t 0) (ws.getD t 0):=rfl
  have hk:=rx hlt
  have hw:(ws.map wD)[t]?=some (wD (ws.getD t 0)):=by
   have h2:t<ws.length:=by omega
   simp [List.getD,Nb,Na h2]
  generalize kW.getD t 0=kk at hk hr1
  generalize ws.getD t 0=ww at hw hr1
  generalize rnds s ws t=r at hr1
  unfold fp
  simp+contextual only [wD,Nat.mul_one,Np,yw,Nq,Nr,Nc,xh,hlt',hk,qg,n67,↓JI,↓vT,↓XP,qh,XW1,↓XH]
  refine ⟨_,fun _ _=>pB (i:=6) (j:=11) (k:=25) (by decide) (by decide) (by decide) ⟨rfl,rfl⟩,?_⟩
  simp+contextual only [wD,Nat.mul_one,Np,ub,ai,zf,rZ,yw,Nq,Nr,Nc,hw,hlt',qg,n75,n67,n65,↓JI,↓vT,↓XP,qh,XW1,↓XH]
  refine ⟨_,fun _ _=>pB (i:=2) (j:=13) (k:=22) (by decide) (by decide) (by decide) ⟨rfl,rfl⟩,?_⟩
  simp+contextual only [wD,Nat.mul_one,Np,ub,ai,zf,yw,Nq,Nr,Nc,qg,qm,n67,↓JI,↓vT,↓XP,qh,XW1,qb,qe]
  rw [qj (by omega)]
  refine hN (t+1) _ _ (by omega) (by omega) ⟨rfl,rfl,rfl,rfl,rfl,rfl,rfl,rfl,trivial⟩ ?_
  show back _ _=fp _ _ _ _ _ _ _ _ (rnds s ws (t+1)) H
  rw [hr1]
  exact qz rfl
 ·have ht64:t=64:=by omega
  have hlt':((t:Int)<64)=False:=qy
  simp+contextual only [hlt',↓JI,↓vT,↓XP,qp]
  exact hE _ _ _ (hQ _ t ht64 ⟨rfl,rfl,rfl,rfl,rfl,trivial⟩)
theorem GJ {R:D->AH->Prop} (hg:qn H 1=some (.cst kD)) (hp:qn H p=some (.cells cs)) (hc:∀i,i<64->cs[o+i]?=some (bD (m.getD i 0))) (h:R (.agg (uf s m).D) H):
  ACall Tryz.prog 142 [.agg s.D,.hso p o 64] H R:=by
 refine Ls fun hf=>?_
 have hbig:=qk
 simp+contextual only [BY,↓JI,↓vT,↓JX,qh,XW1,qa,qb]
 intro b2 h2 b4 h4
 have hp2:=qO h2 hp
 have hp4:=qO h4.2 hp
 refine Gc (m:=m) (cs:=cs) (by rw [qg hp4,qg hp2];exact hp) hc ?_
 simp+contextual only [↓JI,↓vT,↓JX,qh,XW1,qb,qc,qe,↓XH]
 have hsd:s.D= [wD s.a,wD s.b,wD s.c,wD s.d,wD s.e,wD s.f,wD s.g,wD s.h]:=rfl
 intro b5 h5
 obtain ⟨n54,n52,f5⟩:=h5
 obtain ⟨n42,f4⟩:=h4
 simp+contextual only [hsd,wD,Nat.mul_one,Nat.sub_zero,Np,qg,qm,n52,n42,↓vT,↓JX,qh,XW1,qa,qb,qe,qf,↓XH]
 refine ⟨jo m 64,by decide,by decide,by decide,by decide,by decide,by decide,by decide,?_⟩
 intro b7 h7 b6 h6
 obtain ⟨n75,n74,n72,f7⟩:=h7
 obtain ⟨n67,n65,n64,n62,f6⟩:=h6
 have g2:=qO h2 hg
 have g4:=qO f4 hg
 have g5:=qO f5 hg
 have g6:=qO f6 hg
 have g7:=qO f7 hg
 simp+contextual only [hg,mh,qg,g2,g4,g5,g6,g7,↓vT,↓XP,qp,XW1,↓XH]
 refine ⟨by decide,?_⟩
 have hwl:=jo m 64
 generalize hws:wo m 64=ws at hwl
 refine ry n54 n52 n42 n75 n74 n72 n67 n65 n64 n62 hwl ⟨rfl,rfl,rfl,rfl,rfl,rfl,rfl,rfl,trivial⟩ fun F' t ht64 hF'=>?_
 obtain ⟨z,rfl⟩:=hF'.lit
 simp+contextual only [↓JI,↓vT,↓XP,qp,XW1]
 have hcp:dC s (rnds s ws t)=uf s m:=by rw [uf,hws,ht64]
 generalize rnds s ws t=r at hcp
 refine XW.loopS hmm 116 (fun i:Nat=>[(2,.ptr b2 0),(4,.ptr b4 0),(6,.ptr b6 0),(7,.ptr b7 0),(94,.i ((i:Nat):Int))]) (fun i=>fp b2 b4 b5 b6 b7 ws z8 (be s r i) r H) (fun i=>4 - i) (fun i=>i<=4) 0 (by omega) ⟨rfl,rfl,rfl,rfl,rfl,rfl,trivial⟩ rfl ?_
 intro i z hi K2 hN2 hE2 hR2
 dsimp only [fl,zz,qa,qb]
 have v0:IntKind.i64.wrap (0+4)=4:=by decide
 have v1:IntKind.i64.wrap (1+4)=5:=by decide
 have v2:IntKind.i64.wrap (2+4)=6:=by decide
 have v3:IntKind.i64.wrap (3+4)=7:=by decide
 have u0:IntKind.i64.wrap (0+1)=1:=by decide
 have u1:IntKind.i64.wrap (1+1)=2:=by decide
 have u2:IntKind.i64.wrap (2+1)=3:=by decide
 have u3:IntKind.i64.wrap (3+1)=4:=by decide
 obtain rfl|rfl|rfl|rfl|rfl:i=0∨i=1∨i=2∨i=3∨i=4:=by omega
 ·unfold fp
  simp+contextual only [wD,Nat.mul_one,Np,zf,yw,Nq,Nr,Nat.reduceLT,Nc,v0,u0,S8.D,be,decide_true,qg,qm,n52,n42,n72,n67,n62,↓JI,↓vT,↓XP,qh,XW1,qb]
  exact hN2 1 _ _ (by omega) (by omega) ⟨rfl,rfl,rfl,rfl,rfl,rfl,trivial⟩ (qz rfl)
 ·unfold fp
  simp+contextual only [wD,Nat.mul_one,Np,zf,yw,Nq,Nr,Nat.reduceLT,Nc,v1,u1,S8.D,be,decide_true,qg,qm,n52,n42,n72,n67,n62,↓JI,↓vT,↓XP,qh,XW1,qb]
  exact hN2 2 _ _ (by omega) (by omega) ⟨rfl,rfl,rfl,rfl,rfl,rfl,trivial⟩ (qz rfl)
 ·unfold fp
  simp+contextual only [wD,Nat.mul_one,Np,zf,yw,Nq,Nr,Nat.reduceLT,Nc,v2,u2,S8.D,be,decide_true,qg,qm,n52,n42,n72,n67,n62,↓JI,↓vT,↓XP,qh,XW1,qb]
  exact hN2 3 _ _ (by omega) (by omega) ⟨rfl,rfl,rfl,rfl,rfl,rfl,trivial⟩ (qz rfl)
 ·unfold fp
  simp+contextual only [wD,Nat.mul_one,Np,zf,yw,Nq,Nr,Nat.reduceLT,Nc,v3,u3,S8.D,be,decide_true,qg,qm,n52,n42,n72,n67,n62,↓JI,↓vT,↓XP,qh,XW1,qb]
  exact hN2 4 _ _ (by omega) (by omega) ⟨rfl,rfl,rfl,rfl,rfl,rfl,trivial⟩ (qz rfl)
 ·have hlt2:(((4:Nat):Int)<4)=False:=eq_false (by decide)
  simp+contextual only [Nc,↓JI,↓vT,↓XP,qp]
  apply hE2
  unfold fp
  simp+contextual only [wD,S8.D,be,qg,qm,n54,n52,n42,n74,n72,n64,n62,↓vT,↓XP,qh,XW1,qb]
  rw [<-hcp] at h
  exact h
end Go.Proofs.YtgopigkdcmhbbaaGreatDoor
end
section
namespace Go.Proofs.YtgopigkdcmhbbaaGreatDoor
open Go Go.Aw
structure Str where
 st:S8
 blk:List UInt8
 n:Nat
deriving Inhabited
def jf (l:List UInt8):List D:=l.map bD
def Str.D (s:Str):List D:=s.st.D++(jf s.blk++ [.int .u64 s.n])
def iv:S8:=⟨0x6a09e667,0xbb67ae85,0x3c6ef372,0xa54ff53a,0x510e527f,0x9b05688c,0x1f83d9ab,0x5be0cd19⟩
def beg:Str:=⟨iv,List.replicate 64 0,0⟩
def yn (s:Str) (t:List UInt8):Nat:=min t.length (64 - s.n % 64)
def wH (s:Str) (t:List UInt8):List UInt8:=s.blk.take (s.n % 64)++(t.take (64 - s.n % 64)++s.blk.drop (s.n % 64+yn s t))
def uj (s:Str) (t:List UInt8):Str:=⟨if s.n % 64+yn s t=64 then uf s.st (wH s t) else s.st,wH s t,s.n+yn s t⟩
def fL:Nat->Str->List UInt8->Str
 |0,s,_=>s
 |f+1,s,t=>if t= [] then s else fL f (uj s t) (t.drop (yn s t))
def yu (s:Str) (t:List UInt8):Str:=fL t.length s t
theorem zL (h:t≠ []):0<yn s t:=by
 have:0<t.length:=List.length_pos_iff.2 h
 have:=Nat.mod_lt s.n (show 0<64 by decide)
 unfold yn;omega
theorem Vx:yn s t<=t.length:=Nat.min_le_left _ _
theorem d9:∀(f:Nat) (s:Str) (t:List UInt8),t.length<=f->fL f s t=yu s t:=by
 intro f
 induction f using Nat.strongRecOn with
 | _ f ih=>
  intro s t h
  unfold yu
  by_cases ht:t= []
  ·subst ht;cases f<;>rfl
  ·have hp:=zL (s:=s) ht
   have hk:=Vx (s:=s) (t:=t)
   have hl:0<t.length:=List.length_pos_iff.2 ht
   obtain ⟨g,hg⟩:∃g,t.length=g+1:=⟨t.length - 1,by omega⟩
   obtain ⟨f',rfl⟩:∃f',f=f'+1:=⟨f - 1,by omega⟩
   rw [hg]
   simp only [fL,if_neg ht]
   rw [ih f' (by omega) _ _ (by rw [List.length_drop];omega)]
   by_cases hgf:g=f'
   ·subst hgf
    rw [ih g (by omega) _ _ (by rw [List.length_drop];omega)]
   ·rw [ih g (by omega) _ _ (by rw [List.length_drop];omega)]
theorem iu (s:Str):yu s []=s:=rfl
theorem QW (h:t≠ []):yu s t=yu (uj s t) (t.drop (yn s t)):=by
 have hl:0<t.length:=List.length_pos_iff.2 h
 have hp:=zL (s:=s) h
 obtain ⟨g,hg⟩:∃g,t.length=g+1:=⟨t.length - 1,by omega⟩
 rw [yu,hg]
 simp only [fL,if_neg h]
 exact d9 _ _ _ (by rw [List.length_drop];omega)
theorem S8.D_len (s:S8):s.D.length=8:=rfl
theorem qt (l:List UInt8):(jf l).length=l.length:=by simp [jf]
section
variable {s:Str}
theorem yz (h:s.blk.length=64):s.D.length=73:=by simp [Str.D,S8.D_len,qt,h]
theorem bu (h:s.blk.length=64):s.D[72]?=some (.int .u64 s.n):=by
 unfold Str.D
 rw [Nl (by simp [S8.D_len]),Nl (by simp [S8.D_len,qt,h])]
 simp [S8.D_len,qt,h]
theorem Ck:s.D.take 8=s.st.D:=by
 unfold Str.D
 rw [List.take_append_of_le_length (by simp [S8.D_len])]
 rfl
theorem S8.D_view (r:S8):r.D.map D.view1=r.D:=rfl
theorem lA (h:s.blk.length=64) (n:Nat):s.D.set 72 (.int .u64 n)=Str.D ⟨s.st,s.blk,n⟩:=by
 unfold Str.D
 rw [List.set_append_right _ _ (by simp [S8.D_len]),List.set_append_right _ _ (by simp [S8.D_len,qt,h])]
 simp [S8.D_len,qt,h]
theorem lV:s.D.drop 8=jf s.blk++ [.int .u64 s.n]:=by
 unfold Str.D
 rw [List.drop_append_of_le_length (by simp [S8.D_len])]
 rfl
theorem i7 (r:S8):r.D++s.D.drop 8=Str.D ⟨r,s.blk,s.n⟩:=by rw [lV];rfl
theorem sU (h:s.blk.length=64):∀i,i<64->s.D[8+i]?=some (bD (s.blk.getD i 0)):=by
 intro i hi
 unfold Str.D
 rw [Nl (by simp [S8.D_len]),Nk (by simp [S8.D_len,qt,h];omega)]
 have h2:i<s.blk.length:=by omega
 simp [S8.D_len,jf,List.getD,Na h2]
theorem nJ (h:s.blk.length=64) (ha:a<64) (t:List UInt8):s.D.take (8+a)++((t.take (64 - a)).map (fun c=>D.int .u8 c.toNat)++s.D.drop (8+a+min t.length (64 - a)))=
  Str.D ⟨s.st,s.blk.take a++(t.take (64 - a)++s.blk.drop (a+min t.length (64 - a))),s.n⟩:=by
 unfold Str.D
 have e1:(s.st.D++(jf s.blk++ [D.int .u64 (s.n:Int)])).take (8+a)=s.st.D++jf (s.blk.take a):=by
  rw [List.take_append,S8.D_len,show 8+a - 8=a by omega,No (by simp [S8.D_len]),List.take_append_of_le_length (by simp [qt,h];omega)]
  simp [jf]
 have e2:(s.st.D++(jf s.blk++ [D.int .u64 (s.n:Int)])).drop (8+a+min t.length (64 - a))=jf (s.blk.drop (a+min t.length (64 - a)))++ [D.int .u64 (s.n:Int)]:=by
  rw [List.drop_append,S8.D_len,show 8+a+min t.length (64 - a) - 8=a+min t.length (64 - a) by omega,List.drop_of_length_le (by simp [S8.D_len];omega),Ny,List.drop_append_of_le_length (by simp [qt,h];omega)]
  simp [jf]
 rw [e1,e2]
 simp [jf]
 rfl
end
theorem KE (h:s.blk.length=64) (t:List UInt8):(wH s t).length=64:=by
 have:=Nat.mod_lt s.n (show 0<64 by decide)
 simp only [wH,yn,List.length_append,List.length_take,List.length_drop]
 omega
def Blk (H:AH) (p o:Nat) (m:List UInt8):Prop:=∃cs,qn H p=some (.cells cs)∧∀i,i<64->cs[o+i]?=some (bD (m.getD i 0))
def Kst (H:AH):Prop:=qn H 1=some (.cst kD)
theorem Kst.sub (h:Kst H) (hs:Sub H H1):Kst H1:=by
 obtain ⟨o',g1,g2⟩:=hs _ _ h
 rcases g2 with g2|g2
 ·rw [<-g2] at g1;exact g1
 ·cases o' with
  |cst cs=>injection g2 with g2;rw [<-g2] at g1;exact g1
  |_=>simp [Up] at g2
theorem Kst.push (h:Kst H) (hb:qH H b):Kst ((b,o)::H):=(qg (qO hb h)).trans h
theorem Blk.sub (h:Blk H p o m) (hs:Sub H H1):Blk H1 p o m:=by
 obtain ⟨cs,h1,h2⟩:=h
 obtain ⟨o',g1,g2⟩:=hs _ _ h1
 rcases g2 with rfl|g2
 ·exact ⟨cs,g1,h2⟩
 ·cases o' with
  | cells cs'=>
   injection g2 with g2
   subst g2
   refine ⟨cs',g1,fun i hi=>?_⟩
   have:=h2 i hi
   rw [Nb,Nh] at this
   obtain ⟨d,d1,d2⟩:=this
   rw [d1]
   cases d<;>simp only [D.view1,bD] at d2<;>first|(cases d2;done)|(rw [d2];rfl)
  |_=>simp [Up] at g2
theorem Vj {R:D->AH->Prop} (h:R (.agg beg.D) H):ACall Tryz.prog 122 [] H R:=by
 refine MQ fun hf=>?_
 simp+contextual only [↓U122,↓U122.1,↓XP,qh,XW1,qa,qb,qe]
 intro b hb
 exact h
end Go.Proofs.YtgopigkdcmhbbaaGreatDoor
end
