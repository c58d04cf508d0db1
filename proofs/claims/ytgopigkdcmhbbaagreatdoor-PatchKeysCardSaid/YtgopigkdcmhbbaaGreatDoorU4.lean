/- A part of the proof of what the last text says: Aw18, Aw19, Xc, AwV, Gc1, Ka1, XcI, Ka2, Ea0, Ka3, Ka4, Ka5. Conditions: those in each theorem. -/
import Derived.Test.YtgopigkdcmhbbaaGreatDoorU3
import Derived.IntWalk
import Derived.Test.YtgopigkdcmhbbaaGreatDoorRows
import Derived.WalkKit
import Derived.ProofKit
import Derived.OpenShut
import Derived.JoinedCond
import Derived.KernelRfl
import Derived.RangeFuncWrites
import Derived.RangeFuncBound
import Derived.RangeFuncNested
import Derived.RangeFuncCalls
import Derived.RangeFuncLeaves
import Derived.Shelf.Abstract
import Derived.Shelf.RegionOpen
import Derived.WalkSpells
import Derived.OwnWalkIn
import Derived.TacticsInMore
import Derived.LoopNIn
import Derived.LoopIn
import Derived.Laws.BitsAllLaws
set_option autoImplicit true
set_option relaxedAutoImplicit true
set_option linter.unusedVariables false
set_option linter.unusedSimpArgs false
set_option maxRecDepth 100000
set_option maxHeartbeats 16000000
open List renaming getElem?_eq_getElem -> Ma,getElem?_map -> Mb,getElem?_cons_zero -> Me,mem_of_getElem? -> Mh,getElem?_append_left -> Mj,getElem?_append_right -> Ml,map_append -> Mm,take_of_length_le -> Mo,range_succ -> Mu,append_nil -> Mv,nil_append -> Mw,map_map -> Mx,map_congr_left -> My
open Int renaming cast_ofNat_Int -> Mc,toNat_natCast -> Md,natCast_nonneg -> Mf,reduceToNat -> Mp,reduceLE -> Mq,reduceLT -> Mr
open Option renaming map_eq_some_iff -> Mg
open Bool renaming and_eq_true -> Mi
open Array renaming getElem?_eq_getElem -> Mt
open Nat renaming le_refl -> Mn,lt_or_ge -> Ms,reduceSub -> qa,reduceAdd -> qb,reduceMul -> qc,reduceEqDiff -> qd,reduceLeDiff -> qe,reduceBEq -> qf
section
namespace Go.Aw
open Go Go.RowKit
class NL (b:Bool):Prop where
 ok:True
instance {a b:List UInt8}:NL (Op.bytesLess a b):=⟨trivial⟩
instance {b:Bool} [NL b]:NL (!b):=⟨trivial⟩
instance {a b:Bool}:NL (a&&b):=⟨trivial⟩
instance {a b:Bool}:NL (a||b):=⟨trivial⟩
instance {a b:Bool}:NL (a==b):=⟨trivial⟩
def VL (P:Program) (y:XC) (Q:AQ):AQ:=QX (fun F' H'=>xcode P y F' H' Q) Q
def wh (P:Program) (m:Bool) (r:List XO) (F:List D) (dst:Option Tmp) (H:AH) (k:HK):D->Prop:=fun d=>xops P m r (qM F dst d) H k
def mR (P:Program) (r:List XO) (F:List D) (dst:Option Tmp) (k:HK):D->AH->Prop:=fun d H'=>fact d.view->xops P false r (qM F dst d) H' k
def nL (P:Program) (r:List XO) (F:List D) (dst:Option Tmp) (H:AH) (k:HK):D->Prop:=fun d=>fact d.view->xops P true r (qM F dst d) H k
def xcall (P:Program) (f:D) (args:List D) (H:AH) (K:D->AH->Prop):Prop:=match f with
 | .fn g caps=>ACall P g (um args caps) H K
 |_=>False
def ey (P:Program) (g:FuncId) (args:List D) (H:AH) (K:D->Prop):Prop:=∃d,(∀H1,Sub H H1->ACall P g args H1 (fun d' H'=>d'=d∧H'=H1))∧K d
def Zu (P:Program) (f:D) (args:List D) (H:AH) (K:D->Prop):Prop:=match f with
 | .fn g caps=>ey P g (um args caps) H K
 |_=>False
def xif (c:D) (P:Program) (t:Nat) (x y:XC) (F:List D) (H:AH) (Q:AQ):Prop:=match c with
 | .bool b=>(b=true->xcode P x (F.set t (.bool true)) H Q)∧(b=false->xcode P y (F.set t (.bool false)) H Q)
 |_=>False
def xgd (c:D) (P:Program) (m:Bool) (t:Nat) (want:Bool) (op:Op) (dst:Option Tmp) (tk ta:Bool) (r:List XO) (F:List D) (H:AH) (k:HK):Prop:=match c with
 | .bool b=>(b=want->xops P m (⟨op,dst,none,tk,ta⟩::r) (F.set t (.bool want)) H k)∧(b=(!want)->xops P m r (qM (F.set t (.bool (!want))) dst (.tup [])) H k)
 | .tup _=>xops P m r (qM F dst (.tup [])) H k
 |_=>False
section
variable {P:Program} {m:Bool} {F:List D} {H:AH} {Q:AQ} {k:HK} {x y:XC} {r:List XO} {dst:Option Tmp} {d s t i:Nat} {tk ta:Bool} {op:Op}
theorem sx:xcode P .skip F H Q=Q .normal F H:= .trans rfl rfl
theorem BY:xcode P (.reg l) F H Q=xops P false l F H (Q .normal):= .trans rfl rfl
theorem s7:xcode P (.regD l) F H Q=xops P true l F H (Q .normal):= .trans rfl rfl
theorem A5:xcode P (.seq x y) F H Q=xcode P x F H (VL P y Q):= .trans rfl rfl
theorem rP:xcode P (.cond (.tmp t) x y) F H Q=xif (F.getD t .any) P t x y F H Q:=by
 unfold xif
 simp only [xcode]
 cases F.getD t .any<;>rfl
theorem li:xcode P (.block i x) F H Q=xcode P x F H (y5 i Q):= .trans rfl rfl
theorem rS:xcode P (.exit i) F H Q=Q (.exit i) F H:= .trans rfl rfl
theorem CW:xcode P .ret F H Q=Q .ret F H:= .trans rfl rfl
theorem sW:xcode P (.loop x) F H Q=XW P x F H Q:= .trans rfl rfl
theorem fB:VL P y Q .normal F H=xcode P y F H Q:= .trans rfl rfl
theorem sH:VL P y Q (.exit i) F H=Q (.exit i) F H:= .trans rfl rfl
theorem tV:VL P y Q .ret F H=Q .ret F H:= .trans rfl rfl
theorem dK:y5 i Q .normal F H=Q .normal F H:= .trans rfl rfl
def bsel (b:Bool) (A B:Prop):Prop:=if b=true then A else B
theorem fF {A B:Prop}:bsel true A B=A:= .trans rfl rfl
theorem tc {A B:Prop}:bsel false A B=B:= .trans rfl rfl
theorem VU:y5 i Q (.exit j) F H=bsel (j==i) (Q .normal F H) (Q (.exit j) F H):=by
 simp only [y5,bsel,beq_iff_eq]
 split<;>rfl
theorem fd:y5 i Q .ret F H=Q .ret F H:= .trans rfl rfl
def sB (n:Nat) (H:AH) (R:D->AH->Prop):D->Prop:=fun d=>R d (back n H)
theorem BZ {n:Nat} {R:D->AH->Prop} {d:D}:sB n H R d=R d (back n H):= .trans rfl rfl
theorem nW {R:D->AH->Prop}:jV P rs n R .normal F H=Q6 P rs F H (sB n H R):= .trans rfl rfl
theorem sQ {R:D->AH->Prop}:jV P rs n R .ret F H=Q6 P rs F H (sB n H R):= .trans rfl rfl
def Cw (o:Option D) (k:D->Prop):Prop:=match o with
 |some d=>k d
 |none=>False
theorem o_s {d:D} {k:D->Prop}:Cw (some d) k=k d:= .trans rfl rfl
def sn (o:Option (List D)) (k:D->Prop):Prop:=match o with
 |some ds=>k (.tup ds)
 |none=>False
theorem o_t {k:D->Prop}:sn (some ds) k=k (.tup ds):= .trans rfl rfl
theorem z_1 {r:ResultVar} {k:D->Prop}:Q6 P [r] F H k=Cw (resOne P F H r) k:= .trans rfl rfl
theorem z_0 {k:D->Prop}:Q6 P [] F H k=sn (resAll P F H []) k:= .trans rfl rfl
theorem z_2 {r r':ResultVar} {rs:List ResultVar} {k:D->Prop}:Q6 P (r::r'::rs) F H k=sn (resAll P F H (r::r'::rs)) k:= .trans rfl rfl
theorem i_T:xif (.bool true) P t x y F H Q=xcode P x (F.set t (.bool true)) H Q:=by simp [xif]
theorem i_F:xif (.bool false) P t x y F H Q=xcode P y (F.set t (.bool false)) H Q:=by simp [xif]
theorem xU {p:Prop} [Decidable p]:xif (.bool (decide p)) P t x y F H Q=((p->xcode P x (F.set t (.bool true)) H Q)∧(¬p->xcode P y (F.set t (.bool false)) H Q)):=by simp [xif]
theorem AP:xif (.bool (!b)) P t x y F H Q=((b=false->xcode P x (F.set t (.bool true)) H Q)∧(b=true->xcode P y (F.set t (.bool false)) H Q)):=by simp [xif]
theorem i_N [NL b]:xif (.bool b) P t x y F H Q=((b=true->xcode P x (F.set t (.bool true)) H Q)∧(b=false->xcode P y (F.set t (.bool false)) H Q)):= .trans rfl rfl
theorem Fe:xgd (.bool true) P m t true op dst tk ta r F H k=xops P m (⟨op,dst,none,tk,ta⟩::r) (F.set t (.bool true)) H k:=by simp [xgd]
theorem IC:xgd (.bool true) P m t false op dst tk ta r F H k=xops P m r (qM (F.set t (.bool true)) dst (.tup [])) H k:=by simp [xgd]
theorem HP:xgd (.bool false) P m t true op dst tk ta r F H k=xops P m r (qM (F.set t (.bool false)) dst (.tup [])) H k:=by simp [xgd]
theorem FA:xgd (.bool false) P m t false op dst tk ta r F H k=xops P m (⟨op,dst,none,tk,ta⟩::r) (F.set t (.bool false)) H k:=by simp [xgd]
theorem g_U:xgd (.tup ds) P m t w op dst tk ta r F H k=xops P m r (qM F dst (.tup [])) H k:= .trans rfl rfl
theorem xl {p:Prop} [Decidable p]:xgd (.bool (decide p)) P m t true op dst tk ta r F H k=((p->xops P m (⟨op,dst,none,tk,ta⟩::r) (F.set t (.bool true)) H k)∧(¬p->xops P m r (qM (F.set t (.bool false)) dst (.tup [])) H k)):=by simp [xgd]
theorem tP {p:Prop} [Decidable p]:xgd (.bool (decide p)) P m t false op dst tk ta r F H k=((p->xops P m r (qM (F.set t (.bool true)) dst (.tup [])) H k)∧(¬p->xops P m (⟨op,dst,none,tk,ta⟩::r) (F.set t (.bool false)) H k)):=by
 simp only [xgd,Bool.not_false,decide_eq_true_eq,decide_eq_false_iff_not,eq_iff_iff]
 exact ⟨fun h=>⟨h.2,h.1⟩,fun h=>⟨h.2,h.1⟩⟩
theorem lB {p:Prop} [Decidable p]:xgd (.bool (!decide p)) P m t false op dst tk ta r F H k=((p->xops P m (⟨op,dst,none,tk,ta⟩::r) (F.set t (.bool false)) H k)∧(¬p->xops P m r (qM (F.set t (.bool true)) dst (.tup [])) H k)):=by
 simp [xgd]
theorem By:xops P m [] F H k=k F H:= .trans rfl rfl
theorem Ep:xops P m (⟨op,dst,some (some (t,w)),tk,ta⟩::r) F H k=xgd (F.getD t .any) P m t w op dst tk ta r F H k:=by
 unfold xgd
 simp only [xops]
 cases F.getD t .any<;>rfl
theorem BO:xops P m (⟨.move (.tmp s),some d,none,false,ta⟩::r) F H k=xops P m r (F.set d (F.getD s .any).view) H k:= .trans rfl rfl
theorem Br:xops P m (⟨.move (.tmp s),some d,none,true,ta⟩::r) F H k=xops P m r ((F.set s (F.getD s .any).view).set d (F.getD s .any)) H k:= .trans rfl rfl
theorem xT:xops P m (⟨.move (.const v),dst,none,tk,ta⟩::r) F H k=xops P m r (qM F dst (jA v)) H k:= .trans rfl rfl
theorem xV:xops P m (⟨.assign (.tmp s),some d,none,tk,ta⟩::r) F H k=xops P m r ((F.set s (F.getD s .any).view).set d (F.getD s .any)) H k:= .trans rfl rfl
theorem pj:xops P m (⟨.assign (.const v),dst,none,tk,ta⟩::r) F H k=xops P m r (qM F dst (jA v)) H k:= .trans rfl rfl
def dc (P:Program) (m:Bool) (c:D) (tk:Bool) (s ix d:Nat) (r:List XO) (F:List D) (H:AH) (k:HK):Prop:=match c with
 | .tup ds=>match ds[ix]? with
  |some c=>if tk=true then fact c.view1->xops P m r ((F.set s (.tup (ds.set ix c.view1))).set d c) H k else fact c.view1->xops P m r (F.set d c.view1) H k
  |none=>False
 |_=>False
theorem Bf:xops P false (⟨.extract (.tmp s) i,some d,none,tk,ta⟩::r) F H k=dc P false (F.getD s .any) tk s i d r F H k:=by
 unfold dc
 simp only [xops,xop,ve,kH,ev,zI,Bool.not_false,Bool.and_true,Bool.and_false]
 cases F.getD s .any<;>rfl
theorem rt:xops P true (⟨.extract (.tmp s) i,some d,none,tk,ta⟩::r) F H k=dc P true (F.getD s .any) false s i d r F H k:=by
 unfold dc
 simp only [xops,xop,ve,kH,ev,zI,Bool.not_false,Bool.and_true,Bool.not_true,Bool.and_false,Bool.false_eq_true,if_false]
 cases F.getD s .any<;>rfl
def sN (P:Program) (m:Bool) (o:Option D) (ds:List D) (tk:Bool) (s ix d:Nat) (r:List XO) (F:List D) (H:AH) (k:HK):Prop:=match o with
 |some c=>if tk=true then fact c.view1->xops P m r ((F.set s (.tup (ds.set ix c.view1))).set d c) H k else fact c.view1->xops P m r (F.set d c.view1) H k
 |none=>False
theorem e_d:dc P m (.tup ds) tk s i d r F H k=sN P m ds[i]? ds tk s i d r F H k:= .trans rfl rfl
theorem e_0:sN P m (some c) ds false s i d r F H k=(fact c.view1->xops P m r (F.set d c.view1) H k):= .trans rfl rfl
theorem e_1:sN P m (some c) ds true s i d r F H k=(fact c.view1->xops P m r ((F.set s (.tup (ds.set i c.view1))).set d c) H k):= .trans rfl rfl
def pF (P:Program) (o:Option (List D)) (r:List XO) (F:List D) (d:Nat) (H:AH) (k:HK):Prop:=match o with
 |some z=>∀b,qD H b->xops P false r (F.set d (.ptr b 0)) ((b,.cells z)::H) k
 |none=>False
theorem lr {t:TypeId}:xops P m (⟨.alloc t,some d,none,tk,ta⟩::r) F H k=pF P (yD P t) r F d H k:=by
 unfold pF
 simp only [xops,xop,ve,kH,true_and,zI,Bool.not_true,Bool.false_and]
 rfl
theorem EF:pF P (some z) r F d H k=∀b,qD H b->xops P false r (F.set d (.ptr b 0)) ((b,.cells z)::H) k:= .trans rfl rfl
theorem Cz {t:TypeId} {y:Operand}:xops P m (⟨.box t y,some d,none,tk,ta⟩::r) F H k=(okc (rv F y)=true∧∀b,qD H b->xops P false r (F.set d (.ptr b 0)) ((b,.cells (cellsOf (rv F y)))::H) k):=by
 simp only [xops,xop,ve,kH,true_and,zI,Bool.not_true,Bool.false_and]
 rfl
def bf (P:Program) (ag:Bool) (n off:Nat) (o:Option AO) (b:Nat) (y:Operand) (dst:Option Tmp) (r:List XO) (F:List D) (H:AH) (k:HK):Prop:=match o with
 | some (.cells cs)=>if ag=true then okc (rv F y)=true∧(cellsOf (rv F y)).length=n∧off+n<=cs.length∧xops P false r (qM F dst (.tup [])) (qH H b (.cells (cs.take off++(cellsOf (rv F y)++cs.drop (off+n))))) k
  else n=1∧off<cs.length∧one1 (ev F y)=true∧dst=none∧(match y with
    | .tmp s=>xops P false r (F.set s (rv F y)) (qH H b (.cells (cs.set off (ev F y)))) k
    |_=>xops P false r F (qH H b (.cells (cs.set off (ev F y)))) k)
 |_=>False
def pJ (P:Program) (ty:Option (Bool×Nat)) (a:D) (y:Operand) (dst:Option Tmp) (r:List XO) (F:List D) (H:AH) (k:HK):Prop:=match ty,a with
  |some (ag,n),.ptr b off=>bf P ag n off (qn H b) b y dst r F H k
  |_,_=>False
theorem Ab {t:TypeId} {a y:Operand}:xops P m (⟨.store t a y,dst,none,tk,ta⟩::r) F H k=pJ P (yq P t) (rv F a) y dst r F H k:=by
 unfold pJ
 simp only [xops,xop,ve,kH,true_and,zI,Bool.not_true,Bool.false_and]
 cases yq P t with
 |none=>rfl
 | some x=>
  obtain ⟨ag,n⟩:=x
  cases rv F a<;>cases ag<;>first
   |rfl
   |(simp only [bf];rfl)
theorem IM {ag:Bool} {n b off:Nat} {y:Operand}:pJ P (some (ag,n)) (.ptr b off) y dst r F H k=bf P ag n off (qn H b) b y dst r F H k:= .trans rfl rfl
theorem If {n b off:Nat} {y:Operand} {cs:List D}:bf P true n off (some (.cells cs)) b y dst r F H k=(okc (rv F y)=true∧(cellsOf (rv F y)).length=n∧off+n<=cs.length∧xops P false r (qM F dst (.tup [])) (qH H b (.cells (cs.take off++(cellsOf (rv F y)++cs.drop (off+n))))) k):= .trans rfl rfl
theorem FW:bf P false n off (some (.cells cs)) b (.tmp s) dst r F H k=(n=1∧off<cs.length∧one1 (F.getD s .any)=true∧dst=none∧xops P false r (F.set s (rv F (.tmp s))) (qH H b (.cells (cs.set off (F.getD s .any)))) k):= .trans rfl rfl
theorem IJ:bf P false n off (some (.cells cs)) b (.const v) dst r F H k=(n=1∧off<cs.length∧one1 (jA v)=true∧dst=none∧xops P false r F (qH H b (.cells (cs.set off (jA v)))) k):= .trans rfl rfl
theorem xp:xops P false (⟨.call ⟨.value f,args,tys⟩,dst,none,tk,ta⟩::r) F H k=xcall P (rv F f) (args.toList.map (rv F)) H (mR P r F dst k):=by
 unfold xcall
 simp only [xops,xop,ve,kH]
 cases rv F f<;>rfl
theorem lE:xops P true (⟨.call ⟨.value f,args,tys⟩,dst,none,tk,ta⟩::r) F H k=Zu P (rv F f) (args.toList.map (rv F)) H (nL P r F dst H k):=by
 unfold Zu
 simp only [xops,xop,ve,kH]
 cases rv F f<;>rfl
theorem p6 {K:D->AH->Prop}:xcall P (.fn g caps) args H K=ACall P g (um args caps) H K:= .trans rfl rfl
theorem iF {K:D->Prop}:Zu P (.fn g caps) args H K=ey P g (um args caps) H K:= .trans rfl rfl
theorem pO {d:D}:mR P r F dst k d H=(fact d.view->xops P false r (qM F dst d) H k):= .trans rfl rfl
theorem mg {d:D}:nL P r F dst H k d=(fact d.view->xops P true r (qM F dst d) H k):= .trans rfl rfl
def BN (o:Option AO) (P:Program) (m:Bool) (xs:List (List D)) (sz bs off n s d:Nat) (r:List XO) (F:List D) (H:AH) (k:HK):Prop:=match o with
 |some (.cells cs)=>sz=1∧off+n<=cs.length∧(∀y∈xs,y.length=1)∧(xs.length+n)*bs<=140737488355328∧xops P m r ((F.set s (.slc xs)).set d (.own (xs++((cs.drop off).take n).map fun e=>[e.view1]))) H k
 |_=>False
def mD (P:Program) (m:Bool) (a:D) (t:Option (TypeId×Nat×Nat)) (y:D) (s d:Nat) (r:List XO) (F:List D) (H:AH) (k:HK):Prop:=match a,t with
  | .own xs,some (_,sz,bs)=>match y with
   | .slc ys=>(∀y∈xs,y.length=sz)∧(∀y∈ys,y.length=sz)∧(xs.length+ys.length)*bs<=140737488355328∧xops P m r ((F.set s (.slc xs)).set d (.own (xs++ys))) H k
   | .str l=>sz=1∧(∀y∈xs,y.length=1)∧(xs.length+l.length)*bs<=140737488355328∧xops P m r ((F.set s (.slc xs)).set d (.own (xs++l.map ql))) H k
   | .hso b off n=>BN (qn H b) P m xs sz bs off n s d r F H k
   |_=>False
  |_,_=>False
theorem BX {t u:TypeId} {y:Operand}:xops P m (⟨.call ⟨.builtin .append,#[.tmp s,y],#[t,u]⟩,some d,none,tk,ta⟩::r) F H k=mD P m (F.getD s .any) (KZ P t u) (rv F y) s d r F H k:=by
 unfold mD BN
 simp only [xops,xop,ve,kH,ev]
 rfl
theorem Ao {e:TypeId}:mD P m (.own xs) (some (e,sz,bs)) (.slc ys) s d r F H k=((∀y∈xs,y.length=sz)∧(∀y∈ys,y.length=sz)∧(xs.length+ys.length)*bs<=140737488355328∧xops P m r ((F.set s (.slc xs)).set d (.own (xs++ys))) H k):= .trans rfl rfl
theorem Cd {e:TypeId}:mD P m (.own xs) (some (e,sz,bs)) (.str l) s d r F H k=(sz=1∧(∀y∈xs,y.length=1)∧(xs.length+l.length)*bs<=140737488355328∧xops P m r ((F.set s (.slc xs)).set d (.own (xs++l.map ql))) H k):= .trans rfl rfl
theorem Bo {t:TypeId}:xops P m (⟨.load t (.tmp s),dst,none,tk,false⟩::r) F H k=qS P (rv F) H (.load t (.tmp s)) (wh P m r F dst H k):=by
 simp only [xops,xop,ve,kH,Bool.false_eq_true,and_false,if_false]
 cases dst<;>rfl
theorem Cr {t:TypeId}:xops P m (⟨.load t (.global g),dst,none,tk,ta⟩::r) F H k=qS P (rv F) H (.load t (.global g)) (wh P m r F dst H k):= .trans rfl rfl
theorem Bg {t:TypeId}:xops P true (⟨.load t (.tmp s),dst,none,tk,ta⟩::r) F H k=qS P (rv F) H (.load t (.tmp s)) (wh P true r F dst H k):=by
 simp only [xops,xop,ve,kH]
 cases dst<;>rfl
def Dt (P:Program) (c:Option D) (cs:List D) (b off d:Nat) (r:List XO) (F:List D) (H:AH) (k:HK):Prop:=match c with
 |some (.own xs)=>xops P false r (F.set d (.own xs)) (qH H b (.cells (cs.set off (.slc xs)))) k
 |some (.hgs b' n c)=>xops P false r (F.set d (.hgs b' n c)) H k
 |_=>False
def Df (P:Program) (o:Option AO) (b off d:Nat) (r:List XO) (F:List D) (H:AH) (k:HK):Prop:=match o with
 |some (.cells cs)=>Dt P cs[off]? cs b off d r F H k
 |_=>False
def ID (P:Program) (ty:Option (Bool×Nat)) (a:D) (d:Nat) (r:List XO) (F:List D) (H:AH) (k:HK):Prop:=match ty,a with
 |some (false,_),.ptr b off=>Df P (qn H b) b off d r F H k
 |_,_=>False
theorem Az {t:TypeId}:xops P false (⟨.load t (.tmp s),some d,none,tk,true⟩::r) F H k=ID P (yq P t) (rv F (.tmp s)) d r F H k:=by
 unfold ID Df Dt
 simp only [xops,xop,ve,kH]
 rfl
theorem Ex:ID P (some (false,n)) (.ptr b off) d r F H k=Df P (qn H b) b off d r F H k:= .trans rfl rfl
theorem FQ:Df P (some (.cells cs)) b off d r F H k=Dt P cs[off]? cs b off d r F H k:= .trans rfl rfl
theorem DW:Dt P (some (.own xs)) cs b off d r F H k=xops P false r (F.set d (.own xs)) (qH H b (.cells (cs.set off (.slc xs)))) k:= .trans rfl rfl
theorem rW:xops P m (⟨.pick c a b,dst,none,tk,ta⟩::r) F H k=qS P (rv F) H (.pick c a b) (wh P m r F dst H k):= .trans rfl rfl
theorem B9 {t:TypeId}:xops P m (⟨.build t ps,dst,none,tk,ta⟩::r) F H k=qS P (rv F) H (.build t ps) (wh P m r F dst H k):= .trans rfl rfl
theorem Au {t:TypeId}:xops P m (⟨.buildSlice t n ps,dst,none,tk,ta⟩::r) F H k=qS P (rv F) H (.buildSlice t n ps) (wh P m r F dst H k):= .trans rfl rfl
theorem eu {b:BinOp} {t u:TypeId} {x y:Operand} (h:gb y=false):xops P m (⟨.binOp b t x y u,dst,none,tk,ta⟩::r) F H k=qS P (rv F) H (.binOp b t x y u) (wh P m r F dst H k):=by
 simp only [xops,xop,ve,kH,h,Bool.false_eq_true,and_false,if_false]
 rfl
theorem sv {b:BinOp} {t u:TypeId} {x:Operand} {y:Nat}:xops P m (⟨.binOp b t x (.tmp y) u,dst,none,tk,ta⟩::r) F H k=qS P (rv F) H (.binOp b t x (.tmp y) u) (wh P m r F dst H k):=eu rfl
theorem pv {b:BinOp} {t u:TypeId} {x:Operand} {kd:IntKind} {n:Int}:xops P m (⟨.binOp b t x (.const (.int kd n)) u,dst,none,tk,ta⟩::r) F H k=qS P (rv F) H (.binOp b t x (.const (.int kd n)) u) (wh P m r F dst H k):=eu rfl
theorem ri {b:BinOp} {t u:TypeId} {x:Operand} {l:ByteArray}:xops P m (⟨.binOp b t x (.const (.string l)) u,dst,none,tk,ta⟩::r) F H k=qS P (rv F) H (.binOp b t x (.const (.string l)) u) (wh P m r F dst H k):=eu rfl
theorem su {b:BinOp} {t u:TypeId} {x:Operand}:xops P false (⟨.binOp b t x (.const (.slice none 0 0)) u,dst,none,tk,ta⟩::r) F H k=nilcmp P b t (rv F x) (wh P false r F dst H k):=by
 simp only [xops,xop,ve,kH,gb]
 rfl
theorem C8 {t:TypeId} {K:D->Prop}:nilcmp P .eql t (.slc xs) K=((ya P t).isSome=true∧(xs= []->K (.bool true))∧K (.bool false)):= .trans rfl rfl
theorem EM {u:UnOp} {t:TypeId} {x:Operand}:xops P m (⟨.unOp u t x,dst,none,tk,ta⟩::r) F H k=qS P (rv F) H (.unOp u t x) (wh P m r F dst H k):= .trans rfl rfl
theorem rQ {a b:TypeId} {x:Operand}:xops P m (⟨.convert a b x,dst,none,tk,ta⟩::r) F H k=qS P (rv F) H (.convert a b x) (wh P m r F dst H k):= .trans rfl rfl
theorem Fa:xops P m (⟨.makeFunc f a c,dst,none,tk,ta⟩::r) F H k=qS P (rv F) H (.makeFunc f a c) (wh P m r F dst H k):= .trans rfl rfl
theorem ES {t:TypeId}:xops P m (⟨.makeSlice t a b,dst,none,tk,ta⟩::r) F H k=qS P (rv F) H (.makeSlice t a b) (wh P m r F dst H k):= .trans rfl rfl
theorem Fj {t:TypeId} {x:Operand} {a b c:Option Operand}:xops P m (⟨.slice t x a b c,dst,none,tk,ta⟩::r) F H k=qS P (rv F) H (.slice t x a b c) (wh P m r F dst H k):= .trans rfl rfl
theorem F7 {t:TypeId} {x:Operand} {f:Nat}:xops P m (⟨.fieldAddr t x f,dst,none,tk,ta⟩::r) F H k=qS P (rv F) H (.fieldAddr t x f) (wh P m r F dst H k):= .trans rfl rfl
theorem H5 {t:TypeId} {x y:Operand}:xops P m (⟨.indexAddr t x y,dst,none,tk,ta⟩::r) F H k=qS P (rv F) H (.indexAddr t x y) (wh P m r F dst H k):= .trans rfl rfl
theorem Ee {t:TypeId} {x y:Operand}:xops P m (⟨.index t x y,dst,none,tk,ta⟩::r) F H k=qS P (rv F) H (.index t x y) (wh P m r F dst H k):= .trans rfl rfl
theorem IP {t:TypeId} {x:Operand}:xops P m (⟨.sliceToArrayPointer t x,dst,none,tk,ta⟩::r) F H k=qS P (rv F) H (.sliceToArrayPointer t x) (wh P m r F dst H k):= .trans rfl rfl
theorem IL {x:Operand}:xops P m (⟨.nilCheck x,dst,none,tk,ta⟩::r) F H k=qS P (rv F) H (.nilCheck x) (wh P m r F dst H k):= .trans rfl rfl
theorem BT {a:Array Operand} {t:Array TypeId}:xops P m (⟨.call ⟨.builtin .len,a,t⟩,dst,none,tk,ta⟩::r) F H k=qS P (rv F) H (.call ⟨.builtin .len,a,t⟩) (wh P m r F dst H k):= .trans rfl rfl
theorem Ck {a:Array Operand} {t:Array TypeId}:xops P m (⟨.call ⟨.builtin .max,a,t⟩,dst,none,tk,ta⟩::r) F H k=qS P (rv F) H (.call ⟨.builtin .max,a,t⟩) (wh P m r F dst H k):= .trans rfl rfl
theorem AF {a:Array Operand} {t:Array TypeId}:xops P m (⟨.call ⟨.builtin .min,a,t⟩,dst,none,tk,ta⟩::r) F H k=qS P (rv F) H (.call ⟨.builtin .min,a,t⟩) (wh P m r F dst H k):= .trans rfl rfl
theorem BR {x:D}:wh P m r F (some d) H k x=xops P m r (F.set d x) H k:= .trans rfl rfl
theorem p_s {x:D}:qM F (some d) x=F.set d x:= .trans rfl rfl
theorem p_n {x:D}:qM F none x=F:= .trans rfl rfl
theorem Bs:rv F (.tmp s)=(F.getD s .any).view:= .trans rfl rfl
theorem lQ:rv F (.const v)=(jA v).view:= .trans rfl rfl
theorem rO:rv F (.func f)= .fn f []:= .trans rfl rfl
theorem te:rv F (.global g)= .ptr g 0:= .trans rfl rfl
theorem CQ {k:IntKind} {n:Int}:(D.int k n).view= .int k n:= .trans rfl rfl
theorem rx:(D.bool b).view= .bool b:= .trans rfl rfl
theorem B5:(D.str l).view= .str l:= .trans rfl rfl
theorem Bb:(D.slc l).view= .slc l:= .trans rfl rfl
theorem Cy:(D.own l).view= .slc l:= .trans rfl rfl
theorem AT:(D.ptr b o).view= .ptr b o:= .trans rfl rfl
theorem tf:(D.eptr l).view= .eptr l:= .trans rfl rfl
theorem E1:(D.fn f l).view= .fn f l:= .trans rfl rfl
theorem Ai:(D.agg l).view= .agg l:= .trans rfl rfl
theorem xM:(D.tup l).view= .tup (l.map D.view1):= .trans rfl rfl
theorem L7 {r:Option Nat}:(D.mp r).view= .mp r:= .trans rfl rfl
theorem sM {k:IntKind} {n:Int}:(D.int k n).view1= .int k n:= .trans rfl rfl
theorem iW:(D.bool b).view1= .bool b:= .trans rfl rfl
theorem tz:(D.str l).view1= .str l:= .trans rfl rfl
theorem pM:(D.slc l).view1= .slc l:= .trans rfl rfl
theorem rF:(D.own l).view1= .slc l:= .trans rfl rfl
theorem Ci:(D.fn f l).view1= .fn f l:= .trans rfl rfl
theorem pC:(D.agg l).view1= .agg l:= .trans rfl rfl
theorem AD {r:Option Nat}:(D.mp r).view1= .mp r:= .trans rfl rfl
theorem CR {k:IntKind} {n:Int}:jA (.int k n)= .int k n:= .trans rfl rfl
theorem tp:jA (.bool b)= .bool b:= .trans rfl rfl
theorem CG {s:ByteArray}:jA (.string s)= .str s.data.toList:= .trans rfl rfl
theorem i8:jA .nilFunc= .nilfn:= .trans rfl rfl
theorem Aq:jA (.slice none 0 0)= .own []:= .trans rfl rfl
theorem nN {k:IntKind} {n:Int}:fact (.int k n)=wX k n:= .trans rfl rfl
theorem xO:fact (.str l)=(l.length<=big):= .trans rfl rfl
theorem mV:fact (.slc l)=(l.length<=big):= .trans rfl rfl
theorem sr:fact (.bool b)=True:= .trans rfl rfl
theorem Av:fact (.agg l)=True:= .trans rfl rfl
theorem A7:fact (.tup l)=True:= .trans rfl rfl
theorem L6:fact (.fn f l)=True:= .trans rfl rfl
theorem jf:qn ((b,o)::H) b=some o:=by simp [qn]
theorem qg (h:b≠c):qn ((c,o)::H) b=qn H b:=by simp [qn,h]
theorem wG {b:Nat} {o x:AO}:qH ((b,o)::H) b x=(b,x)::H:=by simp [qH]
theorem qk {b c:Nat} {o x:AO} (h:b≠c):qH ((c,o)::H) b x=(c,o)::qH H b x:=by simp [qH,h]
theorem mN:qD ((c,o)::H) b=(c≠b∧qD H b):=by
 show (b≠c∧qD H b)=_
 rw [ne_comm]
theorem qT (h:qD H c) (hb:qn H b=some o):b≠c:=by
 induction H with
 |nil=>cases hb
 | cons x r ih=>
  obtain ⟨c',o'⟩:=x
  simp only [qn] at hb
  split at hb
  ·rename_i e
   exact fun e'=>h.1 (e'.symm.trans e)
  ·exact ih h.2 hb
theorem AA (h:qD H c) (hb:(qn H b).isSome=true):qn ((c,o)::H) b=qn H b:=by
 obtain ⟨y,hy⟩:=Option.isSome_iff_exists.1 hb
 exact qg (qT h hy)
theorem rH {b c:Nat} {o x:AO} (h:qD H c) (hb:(qn H b).isSome=true):qH ((c,o)::H) b x=(c,o)::qH H b x:=by
 obtain ⟨y,hy⟩:=Option.isSome_iff_exists.1 hb
 exact qk (qT h hy)
theorem J0 {b:Nat} {x:AO} (hb:(qn H b).isSome=true):qn (qH H b x) b=some x:=by
 induction H with
 |nil=>cases hb
 | cons y r ih=>
  obtain ⟨c',o'⟩:=y
  simp only [qn] at hb
  simp only [qH]
  split
  ·rename_i e;simp [qn,e]
  ·rename_i e
   rw [if_neg e] at hb
   simp only [qn,if_neg e]
   exact ih hb
theorem GO {b c:Nat} {x:AO} (h:c≠b):qn (qH H b x) c=qn H c:=by
 induction H with
 |nil=>rfl
 | cons y r ih=>
  obtain ⟨c',o'⟩:=y
  simp only [qH]
  split
  ·rename_i e;subst e;simp [qn,h]
  ·simp only [qn,ih]
theorem Q3 {b:Nat} {x y:AO}:qH (qH H b x) b y=qH H b y:=by
 induction H with
 |nil=>rfl
 | cons z r ih=>
  obtain ⟨c',o'⟩:=z
  simp only [qH]
  split
  ·rename_i e;simp [qH,e]
  ·rename_i e;simp [qH,e,ih]
theorem xW {b c:Nat} {x:AO}:qD (qH H b x) c=qD H c:=by
 induction H with
 |nil=>rfl
 | cons z r ih=>
  obtain ⟨c',o'⟩:=z
  simp only [qH]
  split
  ·rename_i e;subst e;rfl
  ·simp only [qD,ih]
theorem kV {n:Nat} {x:Nat×AO} (h:H.length=n):back n (x::H)=H:=by
 subst h
 rw [wu (Mn _),Yx]
theorem qz (h:H.length=n):back n H=H:=by subst h;exact Yx H
end
section
variable {P:Program} {ρ:Operand->D} {H:AH} {K:D->Prop} {t:TypeId} {x y:Operand}
def cH (c a b:D) (K:D->Prop):Prop:=match c with
 | .bool true=>K a
 | .bool false=>K b
 |_=>False
theorem tt:qS P ρ H (.pick c a b) K=cH (ρ c) (ρ a) (ρ b) K:= .trans rfl rfl
theorem Fk:cH (.bool true) a b K=K a:= .trans rfl rfl
theorem I7:cH (.bool false) a b K=K b:= .trans rfl rfl
def tM (P:Program) (t:TypeId) (o:Option (List D)) (l:List (Nat×D)) (K:D->Prop):Prop:=match o with
 |some z=>jT P t=true∧(∀p∈l,okc p.2=true)∧wF P t (l.map fun p=>(p.1,cellsOf p.2)) (z.map D.view1) fun cs=>K (.agg cs)
 |none=>False
theorem CM:qS P ρ H (.build t ps) K=tM P t (yD P t) (ps.toList.map fun p=>(p.1,ρ p.2)) K:=by
 simp only [qS,tM]
 cases yD P t with
 |none=>rfl
 |some z=>simp only [Mx,Function.comp_def,List.forall_mem_map]
def QV (P:Program) (t:TypeId) (l:List (Nat×List D)) (z:List D) (K:D->Prop):Prop:=wF P t l z fun cs=>K (.agg cs)
theorem Hc:tM P t (some z) l K=(jT P t=true∧(l.all fun p=>okc p.2)=true∧QV P t (l.map fun p=>(p.1,cellsOf p.2)) (z.map D.view1) K):=by
 rw [List.all_eq_true]
 rfl
theorem FM:QV P t [] z K=K (.agg z):= .trans rfl rfl
def eL (P:Program) (t:TypeId) (o:Option (Nat×Bool×Nat)) (cs:List D) (l:List (Nat×List D)) (z:List D) (K:D->Prop):Prop:=match o with
 |some (off,_,n)=>cs.length=n∧off+n<=z.length∧QV P t l (z.take off++(cs++z.drop (off+n))) K
 |none=>False
theorem Fc:QV P t ((i,cs)::l) z K=eL P t (jP P t i) cs l z K:=by
 unfold QV eL
 rw [wF]
 cases jP P t i<;>rfl
theorem Fm:eL P t (some (off,ag,n)) cs l z K=(cs.length=n∧off+n<=z.length∧QV P t l (z.take off++(cs++z.drop (off+n))) K):= .trans rfl rfl
def iy (P:Program) (o:Option (TypeId×Nat)) (n:Nat) (l:List (Nat×D)) (K:D->Prop):Prop:=match o with
 |some (e,sz)=>l.map (·.1)=List.range n∧(∀p∈l,okc p.2=true∧(cellsOf p.2).length=sz)∧n*sz<=16777216∧(yD P e).isSome=true∧K (.own (l.map fun p=>cellsOf p.2))
 |none=>False
theorem Bl:qS P ρ H (.buildSlice t n ps) K=iy P (ya P t) n (ps.toList.map fun p=>(p.1,ρ p.2)) K:=by
 simp only [qS,iy]
 cases ya P t with
 |none=>rfl
 |some z=>simp only [Mx,Function.comp_def,List.forall_mem_map]
theorem F6 {e:TypeId}:iy P (some (e,sz)) n l K=(l.map (·.1)=List.range n∧(l.all fun p=>okc p.2&&(cellsOf p.2).length==sz)=true∧n*sz<=16777216∧(yD P e).isSome=true∧K (.own (l.map fun p=>cellsOf p.2))):=by
 simp only [iy,List.all_eq_true,Mi,beq_iff_eq]
def iC (c:Option D) (K:D->Prop):Prop:=match c with
 |some c=>fact c.view1->K c.view1
 |none=>False
def iG (c:Option D) (K:D->Prop):Prop:=match c with
 |some c=>fact c->K c
 |none=>False
def Ze (ag:Bool) (n off:Nat) (o:Option AO) (K:D->Prop):Prop:=match o with
 |some (.cells cs)=>if ag=true then off+n<=cs.length∧K (.agg (((cs.drop off).take n).map D.view1)) else iC cs[off]? K
 |some (.cst cs)=>if ag=true then off+n<=cs.length∧K (.agg ((cs.drop off).take n)) else iG cs[off]? K
 |_=>False
def ea (ty:Option (Bool×Nat)) (a:D) (H:AH) (K:D->Prop):Prop:=match ty,a with
 |some (ag,n),.ptr b off=>Ze ag n off (qn H b) K
 |some (true,n),.eptr cs=>n<=cs.length∧K (.agg (cs.take n))
 |some (false,_),.eptr (c::_)=>fact c->K c
 |_,_=>False
theorem xd:qS P ρ H (.load t a) K=ea (yq P t) (ρ a) H K:=by
 simp only [qS,ea]
 cases yq P t with
 |none=>rfl
 | some z=>
  obtain ⟨ag,n⟩:=z
  cases ρ a<;>cases ag<;>first
   |rfl
   |(simp only [Ze,iC,iG];rfl)
   |(rename_i cs;cases cs<;>rfl)
theorem IG:ea (some (ag,n)) (.ptr b off) H K=Ze ag n off (qn H b) K:= .trans rfl rfl
theorem HR:Ze true n off (some (.cells cs)) K=(off+n<=cs.length∧K (.agg (((cs.drop off).take n).map D.view1))):= .trans rfl rfl
theorem Hd:Ze false n off (some (.cells cs)) K=iC cs[off]? K:= .trans rfl rfl
theorem AV:Ze true n off (some (.cst cs)) K=(off+n<=cs.length∧K (.agg ((cs.drop off).take n))):= .trans rfl rfl
theorem BM:Ze false n off (some (.cst cs)) K=iG cs[off]? K:= .trans rfl rfl
theorem CS:iG (some c) K=(fact c->K c):= .trans rfl rfl
theorem EL:iC (some c) K=(fact c.view1->K c.view1):= .trans rfl rfl
theorem BG:ea (some (true,n)) (.eptr cs) H K=(n<=cs.length∧K (.agg (cs.take n))):= .trans rfl rfl
theorem xX:ea (some (false,n)) (.eptr (c::cs)) H K=(fact c->K c):= .trans rfl rfl
def aQ (P:Program) (op:BinOp) (t:TypeId) (a b:D) (K:D->Prop):Prop:=match a,b with
  | .bool a,.bool b=>Q0 P t=true∧yU op (.bool a) (.bool b) K
  | .agg xs,.agg ys=>match mS P t with
   | some l=>fits l xs∧fits l ys∧sameK xs ys∧(match op with
    | .eql=>K (.bool (eqCells xs ys))
    | .neq=>K (.bool (!eqCells xs ys))
    |_=>False)
   |none=>False
  |a,b=>yU op a b K
theorem Ay {u:TypeId}:qS P ρ H (.binOp op t x y u) K=aQ P op t (ρ x) (ρ y) K:= .trans rfl rfl
theorem DV:aQ P op t (.int ka a) (.int kb b) K=yU op (.int ka a) (.int kb b) K:= .trans rfl rfl
theorem Il:aQ P op t (.str a) (.str b) K=yU op (.str a) (.str b) K:= .trans rfl rfl
theorem L4:aQ P op t (.bool a) (.bool b) K=(Q0 P t=true∧yU op (.bool a) (.bool b) K):= .trans rfl rfl
def iP (o:Option (List CT)) (op:BinOp) (xs ys:List D) (K:D->Prop):Prop:=match o with
 | some l=>fits l xs∧fits l ys∧sameK xs ys∧(match op with
    | .eql=>K (.bool (eqCells xs ys))
    | .neq=>K (.bool (!eqCells xs ys))
    |_=>False)
 |none=>False
theorem EO:aQ P op t (.agg xs) (.agg ys) K=iP (mS P t) op xs ys K:=by
 unfold iP
 simp only [aQ]
theorem H6:iP (some l) .eql xs ys K=(fits l xs∧fits l ys∧sameK xs ys∧K (.bool (eqCells xs ys))):= .trans rfl rfl
theorem E7:iP (some l) .neq xs ys K=(fits l xs∧fits l ys∧sameK xs ys∧K (.bool (!eqCells xs ys))):= .trans rfl rfl
theorem sw:yU .shl (.int ka a) (.int kb b) K=(0<=b∧K (.int ka (ka.wrap (a*2 ^ (min b.toNat ka.bits))))):= .trans rfl rfl
theorem tJ:yU .shr (.int ka a) (.int kb b) K=(0<=b∧K (.int ka (a.fdiv (2 ^ (min b.toNat ka.bits))))):= .trans rfl rfl
theorem px:yU .add (.int ka a) (.int kb b) K=(ka=kb∧K (.int ka (ka.wrap (a+b)))):= .trans rfl rfl
theorem td:yU .sub (.int ka a) (.int kb b) K=(ka=kb∧K (.int ka (ka.wrap (a - b)))):= .trans rfl rfl
theorem rE:yU .mul (.int ka a) (.int kb b) K=(ka=kb∧K (.int ka (ka.wrap (a*b)))):= .trans rfl rfl
theorem sU:yU .quo (.int ka a) (.int kb b) K=(ka=kb∧b≠0∧K (.int ka (ka.wrap (a.tdiv b)))):= .trans rfl rfl
theorem tN:yU .rem (.int ka a) (.int kb b) K=(ka=kb∧b≠0∧K (.int ka (a.tmod b))):= .trans rfl rfl
theorem ro:yU .and (.int ka a) (.int kb b) K=(ka=kb∧K (.int ka (bits .and ka a b))):= .trans rfl rfl
theorem A4:yU .or (.int ka a) (.int kb b) K=(ka=kb∧K (.int ka (bits .or ka a b))):= .trans rfl rfl
theorem rT:yU .xor (.int ka a) (.int kb b) K=(ka=kb∧K (.int ka (bits .xor ka a b))):= .trans rfl rfl
theorem nU:yU .eql (.int ka a) (.int kb b) K=(ka=kb∧K (.bool (decide (a=b)))):= .trans rfl rfl
theorem rI:yU .neq (.int ka a) (.int kb b) K=(ka=kb∧K (.bool (!decide (a=b)))):= .trans rfl rfl
theorem pT:yU .lss (.int ka a) (.int kb b) K=(ka=kb∧K (.bool (decide (a<b)))):= .trans rfl rfl
theorem pn:yU .leq (.int ka a) (.int kb b) K=(ka=kb∧K (.bool (decide (a<=b)))):= .trans rfl rfl
theorem p8:yU .gtr (.int ka a) (.int kb b) K=(ka=kb∧K (.bool (decide (b<a)))):= .trans rfl rfl
theorem tG:yU .geq (.int ka a) (.int kb b) K=(ka=kb∧K (.bool (decide (b<=a)))):= .trans rfl rfl
theorem pI:yU .add (.str a) (.str b) K=(a.length+b.length<=big∧K (.str (a++b))):= .trans rfl rfl
theorem so:yU .eql (.str a) (.str b) K=(K (.bool (decide (a=b)))):= .trans rfl rfl
theorem sh:yU .neq (.str a) (.str b) K=(K (.bool (!decide (a=b)))):= .trans rfl rfl
theorem sO:yU .neq (.bool a) (.bool b) K=K (.bool (!(a==b))):= .trans rfl rfl
def DF (op:UnOp) (x:D) (K:D->Prop):Prop:=match op,x with
  | .not,.bool b=>K (.bool (!b))
  | .neg,.int kd n=>K (.int kd (kd.wrap (0 - n)))
  | .xor,.int kd n=>K (.int kd (bits .xor kd (if kd.signed then -1 else kd.max) n))
  |_,_=>False
theorem AS:qS P ρ H (.unOp u t x) K=DF u (ρ x) K:= .trans rfl rfl
theorem FO:DF .not (.bool b) K=K (.bool (!b)):= .trans rfl rfl
theorem Hx:DF .neg (.int kd n) K=K (.int kd (kd.wrap (0 - n))):= .trans rfl rfl
theorem AB:DF .xor (.int kd n) K=K (.int kd (bits .xor kd (if kd.signed then -1 else kd.max) n)):= .trans rfl rfl
def DG (o:Option IntKind) (n:Int) (c:Prop) (K:D->Prop):Prop:=match o with
 |some kd=>c∧K (.int kd (kd.wrap n))
 |none=>False
def IZ (b:Bool) (A B:Prop):Prop:=if b=true then A else B
def D5 (P:Program) (s t:TypeId) (o:Option AO) (off n:Nat) (K:D->Prop):Prop:=match o with
 |some (.cells cs)=>yF P s=true∧kv P t=true∧off+n<=cs.length∧(∀d∈(cs.drop off).take n,yT [d])∧(fact (.str (((cs.drop off).take n).map fun d=>unbyte [d]))->K (.str (((cs.drop off).take n).map fun d=>unbyte [d])))
 |_=>False
def xK (P:Program) (H:AH) (s t:TypeId) (x:D) (K:D->Prop):Prop:=match x with
  | .int _ n=>DG (Ya P t) n (gv P s=true) K
  | .str l=>IZ (kv P t) (kv P s=true∧K (.str l)) (kv P s=true∧yF P t=true∧(fact (.str l)->K (.slc (l.map ql))))
  | .slc xs=>yF P s=true∧kv P t=true∧(∀x∈xs,yT x)∧(fact (.slc xs)->K (.str (xs.map unbyte)))
  | .hso b off n=>D5 P s t (qn H b) off n K
  |_=>False
theorem xc {s:TypeId}:qS P ρ H (.convert s t x) K=xK P H s t (ρ x) K:=by
 simp only [qS,xK,D5]
 cases ρ x<;>first
  |rfl
  |(simp only [DG];cases Ya P t<;>rfl)
theorem Fu {s:TypeId}:xK P H s t (.int kd n) K=DG (Ya P t) n (gv P s=true) K:= .trans rfl rfl
theorem E9 {c:Prop}:DG (some kd) n c K=(c∧K (.int kd (kd.wrap n))):= .trans rfl rfl
theorem Fp {s:TypeId}:xK P H s t (.str l) K=IZ (kv P t) (kv P s=true∧K (.str l)) (kv P s=true∧yF P t=true∧(fact (.str l)->K (.slc (l.map ql)))):= .trans rfl rfl
theorem Er {s:TypeId}:xK P H s t (.hso b off n) K=D5 P s t (qn H b) off n K:= .trans rfl rfl
theorem Bd {s:TypeId}:D5 P s t (some (.cells cs)) off n K=(yF P s=true∧kv P t=true∧off+n<=cs.length∧(∀d∈(cs.drop off).take n,yT [d])∧(fact (.str (((cs.drop off).take n).map fun d=>unbyte [d]))->K (.str (((cs.drop off).take n).map fun d=>unbyte [d])))):= .trans rfl rfl
theorem B8 {A B:Prop}:IZ false A B=B:= .trans rfl rfl
theorem IB {s:TypeId}:xK P H s t (.slc xs) K=(yF P s=true∧kv P t=true∧(∀x∈xs,yT x)∧(fact (.slc xs)->K (.str (xs.map unbyte)))):= .trans rfl rfl
def DD (f:FuncId) (a c:List D) (K:D->Prop):Prop:=match a with
 | []=>xF c=false∧K (.fn f c)
 |a=>c= []∧K (.fn f (.tup []::a))
theorem Fb {K:D->Prop}:DD f [] c K=(xF c=false∧K (.fn f c)):= .trans rfl rfl
theorem Eo {f:FuncId} {x:D} {a c:List D} {K:D->Prop}:DD f (x::a) c K=(c= []∧K (.fn f (.tup []::x::a))):= .trans rfl rfl
theorem Fs:xF (.ptr b off::r)=false:= .trans rfl rfl
theorem Ey:um a []=a++ []:= .trans rfl rfl
theorem Fl:um a (.ptr b off::r)=a++ .ptr b off::r:= .trans rfl rfl
theorem EA:um a (.tup []::r)=r++a:= .trans rfl rfl
theorem HG:qS P ρ H (.makeFunc (.func f) a c) K=DD f (a.toList.map ρ) (c.toList.map ρ) K:=by
 obtain ⟨a⟩:=a
 obtain ⟨c⟩:=c
 cases a with
 |nil=>rfl
 | cons x l=>
  simp only [qS,DD,List.map_cons,Array.mk.injEq,List.map_eq_nil_iff]
def iD (P:Program) (o:Option (List D)) (e:TypeId) (a b:D) (K:D->Prop):Prop:=match o,a,b with
 |some z,.int _ n,.int _ m=>n=m∧0<=n∧(match P.info? e with|some i=>(i.bytes:Int)*n<=140737488355328∧n<=140737488355328|none=>False)∧K (.own (List.replicate n.toNat (z.map D.view1)))
 |_,_,_=>False
def nZ (P:Program) (o:Option (TypeId×Nat)) (a b:D) (K:D->Prop):Prop:=match o with
 |some (e,sz)=>iD P (yD P e) e a b K
 |none=>False
theorem HM:qS P ρ H (.makeSlice t a b) K=nZ P (ya P t) (ρ a) (ρ b) K:=by
 simp only [qS,nZ,iD]
 cases ya P t with
 |none=>rfl
 |some z=>rfl
theorem He {e:TypeId}:nZ P (some (e,sz)) a b K=iD P (yD P e) e a b K:= .trans rfl rfl
theorem FX {e:TypeId}:iD P (some z) e (.int ka n) (.int kb m) K=(n=m∧0<=n∧(match P.info? e with|some i=>(i.bytes:Int)*n<=140737488355328∧n<=140737488355328|none=>False)∧K (.own (List.replicate n.toNat (z.map D.view1)))):= .trans rfl rfl
def lg (o:Option (TypeId×Nat)) (xs:List (List D)) (lo hi:Option D) (K:D->Prop):Prop:=match o with
 |some (_,sz)=>(∀x∈xs,x.length=sz)∧oU xs.length lo hi fun l h=>K (.slc ((xs.take h).drop l))
 |none=>False
def cG (s:List UInt8) (lo hi:Option D) (K:D->Prop):Prop:=oU s.length lo hi fun l h=>K (.str ((s.take h).drop l))
def ls (xs:List (List D)) (lo hi:Option D) (K:D->Prop):Prop:=oU xs.length lo hi fun l h=>K (.slc ((xs.take h).drop l))
def Ax (o:Option (TypeId×Nat)) (b n:Nat) (lo hi:Option D) (K:D->Prop):Prop:=match o with
 |some (_,sz)=>oU n lo hi fun l h=>l<h∧K (match lo with|none=>.hsl b h|some _=>.hso b (l*sz) (h - l))
 |none=>False
def Wu (n sz b off:Nat) (lo hi:Option D) (K:D->Prop):Prop:=oU n lo hi fun l h=>l<h∧K (.hso b (off+l*sz) (h - l))
def lM (o:Option (TypeId×Nat)) (b off n:Nat) (lo hi:Option D) (K:D->Prop):Prop:=match o with
 |some (_,sz)=>Wu n sz b off lo hi K
 |none=>False
def lX (o:Option (Nat×Nat)) (b off:Nat) (lo hi:Option D) (K:D->Prop):Prop:=match o with
 |some (m,sz)=>m<=65536∧Wu m sz b off lo hi K
 |none=>False
def aL (P:Program) (t:TypeId) (x:D) (lo hi:Option D) (K:D->Prop):Prop:=match x with
 | .hso b off n=>lM (ya P t) b off n lo hi K
 | .ptr b off=>lX (Kd P t) b off lo hi K
 | .hsl b n=>Ax (ya P t) b n lo hi K
 | .slc xs=>lg (ya P t) xs lo hi K
 | .str s=>kv P t=true∧cG s lo hi K
 |_=>False
theorem Iz:qS P ρ H (.slice t x lo hi none) K=aL P t (ρ x) (lo.map ρ) (hi.map ρ) K:=by
 simp only [qS,aL,lg,cG,Ax,lM,lX,Wu]
 cases ρ x<;>first|rfl|(cases lo<;>rfl)
theorem DT:aL P t (.slc xs) lo hi K=lg (ya P t) xs lo hi K:= .trans rfl rfl
theorem Fn:aL P t (.hso b off n) lo hi K=lM (ya P t) b off n lo hi K:= .trans rfl rfl
theorem EB:aL P t (.ptr b off) lo hi K=lX (Kd P t) b off lo hi K:= .trans rfl rfl
theorem Iy {e:TypeId}:lM (some (e,sz)) b off n lo hi K=Wu n sz b off lo hi K:= .trans rfl rfl
theorem L3:lX (some (m,sz)) b off lo hi K=(m<=65536∧Wu m sz b off lo hi K):= .trans rfl rfl
theorem A3:Wu n sz b off none none K=(0<n∧K (.hso b (off+0*sz) (n - 0))):= .trans rfl rfl
theorem A1:Wu n sz b off (some (.int kd l)) none K=(0<=l∧l<=(n:Int)∧l.toNat<n∧K (.hso b (off+l.toNat*sz) (n - l.toNat))):= .trans rfl rfl
theorem BI:Wu n sz b off none (some (.int kd h)) K=(0<=h∧h<=(n:Int)∧0<h.toNat∧K (.hso b (off+0*sz) (h.toNat - 0))):= .trans rfl rfl
theorem Ag:Wu n sz b off (some (.int ka l)) (some (.int kb h)) K=(0<=l∧l<=h∧h<=(n:Int)∧l.toNat<h.toNat∧K (.hso b (off+l.toNat*sz) (h.toNat - l.toNat))):= .trans rfl rfl
theorem HU:aL P t (.str s) lo hi K=(kv P t=true∧cG s lo hi K):= .trans rfl rfl
theorem EU {e:TypeId}:lg (some (e,sz)) xs lo hi K=((∀x∈xs,x.length=sz)∧ls xs lo hi K):= .trans rfl rfl
theorem CL:cG s (some (.int kd l)) none K=(0<=l∧l<=(s.length:Int)∧K (.str ((s.take s.length).drop l.toNat))):= .trans rfl rfl
theorem B1:cG s none (some (.int kd h)) K=(0<=h∧h<=(s.length:Int)∧K (.str ((s.take h.toNat).drop 0))):= .trans rfl rfl
theorem Aa:ls s (some (.int kd l)) none K=(0<=l∧l<=(s.length:Int)∧K (.slc ((s.take s.length).drop l.toNat))):= .trans rfl rfl
theorem AN:ls s none (some (.int kd h)) K=(0<=h∧h<=(s.length:Int)∧K (.slc ((s.take h.toNat).drop 0))):= .trans rfl rfl
theorem BU:ls s (some (.int ka l)) (some (.int kb h)) K=(0<=l∧l<=h∧h<=(s.length:Int)∧K (.slc ((s.take h.toNat).drop l.toNat))):= .trans rfl rfl
def Fy (o:Option (Nat×Bool×Nat)) (x:D) (K:D->Prop):Prop:=match o,x with
  |some (off,_,_),.ptr b o=>K (.ptr b (o+off))
  |some (off,_,_),.eptr cs=>off<=cs.length∧K (.eptr (cs.drop off))
  |_,_=>False
theorem IX:qS P ρ H (.fieldAddr t x f) K=Fy (jX P t f) (ρ x) K:= .trans rfl rfl
theorem Fo:Fy (some (off,ag,n)) (.ptr b o) K=K (.ptr b (o+off)):= .trans rfl rfl
theorem Fi:Fy (some (off,ag,n)) (.eptr cs) K=(off<=cs.length∧K (.eptr (cs.drop off))):= .trans rfl rfl
def xC (o:Option (TypeId×Nat)) (xs:List (List D)) (n:Int) (K:D->Prop):Prop:=match o with
 |some (_,sz)=>0<=n∧n<(xs.length:Int)∧(xs.getD n.toNat []).length=sz∧K (.eptr (xs.getD n.toNat []))
 |none=>False
def DO (o:Option (Nat×Nat)) (b off:Nat) (n:Int) (K:D->Prop):Prop:=match o with
 |some (m,sz)=>0<=n∧n<(m:Int)∧K (.ptr b (off+n.toNat*sz))
 |none=>False
def iaE (o:Option (Nat×Nat)) (cs:List D) (n:Int) (K:D->Prop):Prop:=match o with
 |some (m,sz)=>0<=n∧n<(m:Int)∧n.toNat*sz<=cs.length∧K (.eptr (cs.drop (n.toNat*sz)))
 |none=>False
def xt (o:Option (TypeId×Nat)) (b m:Nat) (n:Int) (K:D->Prop):Prop:=match o with
  |some (_,sz)=>0<=n∧n<(m:Int)∧K (.ptr b (n.toNat*sz))
  |none=>False
def DL (o:Option (TypeId×Nat)) (b off m:Nat) (n:Int) (K:D->Prop):Prop:=match o with
  |some (_,sz)=>0<=n∧n<(m:Int)∧K (.ptr b (off+n.toNat*sz))
  |none=>False
def nI (P:Program) (t:TypeId) (x i:D) (K:D->Prop):Prop:=match x,i with
  | .slc xs,.int _ n=>xC (ya P t) xs n K
  | .hsl b m,.int _ n=>xt (ya P t) b m n K
  | .ptr b off,.int _ n=>DO (Kd P t) b off n K
  | .eptr cs,.int _ n=>iaE (Kd P t) cs n K
  | .hso b off m,.int _ n=>DL (ya P t) b off m n K
  | .osl _ _ xs,.int _ n=>xC (ya P t) xs n K
  | .hgs b m _,.int _ n=>xt (ya P t) b m n K
  |_,_=>False
theorem IU:qS P ρ H (.indexAddr t x y) K=nI P t (ρ x) (ρ y) K:=by
 simp only [qS,nI,xC,DO,iaE,xt,DL]
 cases ρ x<;>first|rfl|(cases ρ y<;>rfl)
theorem Hu:nI P t (.slc xs) (.int kd n) K=xC (ya P t) xs n K:= .trans rfl rfl
theorem IS:nI P t (.hso b off m) (.int kd n) K=DL (ya P t) b off m n K:= .trans rfl rfl
theorem BC {e:TypeId}:DL (some (e,sz)) b off m n K=(0<=n∧n<(m:Int)∧K (.ptr b (off+n.toNat*sz))):= .trans rfl rfl
theorem FH:nI P t (.ptr b off) (.int kd n) K=DO (Kd P t) b off n K:= .trans rfl rfl
theorem CI {e:TypeId}:xC (some (e,sz)) xs n K=(0<=n∧n<(xs.length:Int)∧(xs.getD n.toNat []).length=sz∧K (.eptr (xs.getD n.toNat []))):= .trans rfl rfl
theorem Ca:DO (some (m,sz)) b off n K=(0<=n∧n<(m:Int)∧K (.ptr b (off+n.toNat*sz))):= .trans rfl rfl
def Du (a:Option (Nat×Nat)) (e:Option Bool) (cs:List D) (n:Int) (K:D->Prop):Prop:=match a,e with
 |some (m,sz),some false=>sz=1∧0<=n∧n<(m:Int)∧m<=cs.length∧(fact (cs.getD n.toNat .any)->K (cs.getD n.toNat .any))
 |_,_=>False
def Dq (P:Program) (t:TypeId) (x i:D) (K:D->Prop):Prop:=match x,i with
  | .str s,.int _ n=>kv P t=true∧0<=n∧n<(s.length:Int)∧K (.int .u8 (s.getD n.toNat 0).toNat)
  | .agg cs,.int _ n=>Du (Kd P t) (Ae P t) cs n K
  |_,_=>False
theorem Hn:qS P ρ H (.index t x y) K=Dq P t (ρ x) (ρ y) K:=by
 simp only [qS,Dq,Du]
 cases ρ x<;>first|rfl|(cases ρ y<;>rfl)
theorem HT:Dq P t (.agg cs) (.int kd n) K=Du (Kd P t) (Ae P t) cs n K:= .trans rfl rfl
theorem An:Du (some (m,sz)) (some false) cs n K=(sz=1∧0<=n∧n<(m:Int)∧m<=cs.length∧(fact (cs.getD n.toNat .any)->K (cs.getD n.toNat .any))):= .trans rfl rfl
theorem HV:Dq P t (.str s) (.int kd n) K=(kv P t=true∧0<=n∧n<(s.length:Int)∧K (.int .u8 (s.getD n.toNat 0).toNat)):= .trans rfl rfl
def L5 (a:Option (Nat×Nat)) (x:D) (K:D->Prop):Prop:=match a,x with
  |some (m,_),.hso b off n=>m<=n∧K (.ptr b off)
  |some (m,sz),.slc xs=>sz=1∧m<=xs.length∧(∀x∈xs,x.length=1)∧K (.eptr (xs.take m).flatten)
  |_,_=>False
theorem Fd:qS P ρ H (.sliceToArrayPointer t x) K=L5 (Kd P t) (ρ x) K:= .trans rfl rfl
theorem HW:L5 (some (m,sz)) (.hso b off n) K=(m<=n∧K (.ptr b off)):= .trans rfl rfl
theorem E2:L5 (some (m,sz)) (.slc xs) K=(sz=1∧m<=xs.length∧(∀x∈xs,x.length=1)∧K (.eptr (xs.take m).flatten)):= .trans rfl rfl
def ncD (x:D) (K:D->Prop):Prop:=match x with
  | .ptr b o=>K (.ptr b o)
  | .eptr cs=>K (.eptr cs)
  | .fn f cs=>K (.fn f cs)
  |_=>False
theorem EQ:qS P ρ H (.nilCheck x) K=ncD (ρ x) K:= .trans rfl rfl
theorem EE:ncD (.ptr b o) K=K (.ptr b o):= .trans rfl rfl
def bJ (P:Program) (t:TypeId) (x:D) (K:D->Prop):Prop:=match x with
 | .slc xs=>(ya P t).isSome=true∧(fact (.slc xs)->K (.int .i64 xs.length))
 | .hsl b n=>(ya P t).isSome=true∧K (.int .i64 n)
 | .hso b off n=>(ya P t).isSome=true∧K (.int .i64 n)
 | .hgs b n _=>(ya P t).isSome=true∧K (.int .i64 n)
 | .str s=>kv P t=true∧(fact (.str s)->K (.int .i64 s.length))
 |_=>False
theorem Bz:qS P ρ H (.call ⟨.builtin .len,#[x],#[t]⟩) K=bJ P t (ρ x) K:=by
 simp only [qS,bJ,List.map_cons,List.map_nil]
 cases ρ x<;>rfl
theorem Eu:bJ P t (.slc xs) K=((ya P t).isSome=true∧(fact (.slc xs)->K (.int .i64 xs.length))):= .trans rfl rfl
theorem E8:bJ P t (.hso b off n) K=((ya P t).isSome=true∧K (.int .i64 n)):= .trans rfl rfl
theorem EX:bJ P t (.str s) K=(kv P t=true∧(fact (.str s)->K (.int .i64 s.length))):= .trans rfl rfl
def xw (mx:Bool) (a b:D) (K:D->Prop):Prop:=match a,b with
 | .int kd a,.int kb b=>kd=kb∧K (.int kd (if mx=true then (if b>a then b else a) else (if b<a then b else a)))
 |_,_=>False
theorem BW:qS P ρ H (.call ⟨.builtin .max,#[x,y],ts⟩) K=xw true (ρ x) (ρ y) K:=by
 simp only [qS,xw,List.map_cons,List.map_nil]
 cases ρ x<;>first|rfl|(cases ρ y<;>rfl)
theorem Bv:qS P ρ H (.call ⟨.builtin .min,#[x,y],ts⟩) K=xw false (ρ x) (ρ y) K:=by
 simp only [qS,xw,List.map_cons,List.map_nil]
 cases ρ x<;>first|rfl|(cases ρ y<;>rfl)
theorem FG:xw true (.int ka a) (.int kb b) K=(ka=kb∧K (.int ka (if b>a then b else a))):= .trans rfl rfl
theorem IA:xw false (.int ka a) (.int kb b) K=(ka=kb∧K (.int ka (if b<a then b else a))):= .trans rfl rfl
end
section
variable {H:AH} {n:Nat} {x1 x2 x3 x4 x5 x6:Nat×AO}
theorem Z0 (h:H.length=n):back n (x1::x2::H)=H:=by
 rw [wu (by simp;omega),kV h]
theorem eP (h:H.length=n):back n (x1::x2::x3::H)=H:=by
 rw [wu (by simp;omega),Z0 h]
theorem WW (h:H.length=n):back n (x1::x2::x3::x4::H)=H:=by
 rw [wu (by simp;omega),eP h]
theorem df (h:H.length=n):back n (x1::x2::x3::x4::x5::H)=H:=by
 rw [wu (by simp;omega),WW h]
theorem dr (h:H.length=n):back n (x1::x2::x3::x4::x5::x6::H)=H:=by
 rw [wu (by simp;omega),df h]
end
def Fr (n:Nat) (ks:List (Nat×D)) (F:List D):Prop:=F.length=n∧go ks F
 where go:List (Nat×D)->List D->Prop
 | [],_=>True
 |(i,d)::r,F=>F[i]?=some d∧go r F
def frm (ks:List (Nat×D)) (z:Nat->D) (i:Nat):D:=match ks with
 | []=>z i
 |(j,d)::r=>if j=i then d else frm r z i
theorem Fr.at:∀{ks:List (Nat×D)} {F:List D},Fr.go ks F->∀i,i<F.length->F[i]?=some (frm ks (fun i=>F.getD i .any) i)
 | [],F,_,i,hi=>by simp [frm,List.getD_eq_getElem?_getD,Ma hi]
 | (j,d)::r,F,h,i,hi=>by
  unfold frm
  split
  ·rename_i e;subst e;exact h.1
  ·exact Fr.at h.2 i hi
theorem Fr.lit (h:Fr n ks F):∃z:Nat->D,F=(List.range n).map (frm ks z):=by
 obtain ⟨rfl,h⟩:=h
 refine ⟨fun i=>F.getD i .any,List.ext_getElem? fun i=>?_⟩
 rcases Ms i F.length with hi|hi
 ·rw [Fr.at h i hi]
  simp [hi]
 ·simp [hi]
theorem XW.loopK (hm:P.follows .mixedOrders=true) (I:List D->AH->Prop) (μ:List D->AH->Nat) (h0:I F H)
  (round:∀F H,I F H->∀K:AQ,(∀F' H',I F' (back H.length H')->μ F' (back H.length H')<μ F H->K .normal F' H')->(∀i F' H',Q (.exit i) F' H'->K (.exit i) F' H')->(∀F' H',Q .ret F' H'->K .ret F' H')->xcode P x F H K):XW P x F H Q:=
 XW.loop hm I μ h0 fun F H hI=>round F H hI (na I μ F H Q) (fun _ _ a b=>⟨a,b⟩) (fun _ _ _ h=>h) (fun _ _ h=>h)
theorem XW.loopKR (hm:P.follows .mixedOrders=true) (I:List D->AH->Prop) (μ:List D->AH->Nat) (h0:I F H)
  (round:∀F H,I F H->∀K:AQ,(∀F' H' H'',Sbn H'' H'->I F' H''->μ F' H''<μ F H->K .normal F' H')->(∀i F' H',Q (.exit i) F' H'->K (.exit i) F' H')->(∀F' H',Q .ret F' H'->K .ret F' H')->xcode P x F H K):XW P x F H Q:=
 XW.loopR hm I μ h0 fun F H hI=>round F H hI (dW I μ F H Q) (fun _ _ H'' a b c=>⟨H'',a,b,c⟩) (fun _ _ _ h=>h) (fun _ _ h=>h)
def nD (H:AH) (R:D->AH->Prop):D->Prop:=fun d=>∃H',Sbn H' H∧R d H'
theorem Qy {R:D->AH->Prop}:nD H R d=∃H',Sbn H' H∧R d H':= .trans rfl rfl
theorem zt {R:D->AH->Prop}:VT P rs R .ret F H=Q6 P rs F H (nD H R):= .trans rfl rfl
theorem yG:wX .i64 n=(-9223372036854775808<=n∧n<=9223372036854775807):=by
 simp [wX,Lit.wf,IntKind.min,IntKind.max,IntKind.signed,IntKind.bits]
theorem qm (h: -9223372036854775808<=n) (h':n<=9223372036854775807):IntKind.i64.wrap n=n:=by
 rw [Go.IntWalk.i64_left,Go.IntWalk.wrap64_in _ ⟨h,h'⟩]
theorem qi (h:i<=big):IntKind.i64.wrap ((i:Int)+1)=((i+1:Nat):Int):=by
 have:=qj
 rw [qm (by omega) (by omega)]
 omega
section
variable {P:Program} {F:List D} {H:AH} {k:HK} {r:List XO} {dst:Option Tmp} {tk ta:Bool} {t u:TypeId} {K:D->Prop}
theorem Cn:(D.hsl b n).view= .hsl b n:= .trans rfl rfl
theorem HZ:nI P t (.hsl b m) (.int kd n) K=xt (ya P t) b m n K:= .trans rfl rfl
theorem CN:nI P t (.osl b c xs) (.int kd n) K=xC (ya P t) xs n K:= .trans rfl rfl
theorem CH {e:TypeId}:xt (some (e,sz)) b m n K=(0<=n∧n<(m:Int)∧K (.ptr b (n.toNat*sz))):= .trans rfl rfl
theorem FP:nI P t (.hgs b m c) (.int kd n) K=xt (ya P t) b m n K:= .trans rfl rfl
theorem Is:bJ P t (.hgs b n c) K=((ya P t).isSome=true∧K (.int .i64 n)):= .trans rfl rfl
def mM (P:Program) (z:Option (List D)) (e:TypeId) (a b:D) (dst:Option Tmp) (r:List XO) (F:List D) (H:AH) (k:HK):Prop:=match z,a,b with
 |some z,.int _ n,.int _ m=>n=m∧0<=n∧(match P.info? e with|some i=>(i.bytes:Int)*n<=140737488355328∧n<=140737488355328|none=>False)∧∀b,qD H b->xops P false r (qM F dst (.hsl b n.toNat)) ((b,.cells (List.replicate n.toNat z).flatten)::H) k
 |_,_,_=>False
def t7 (P:Program) (o:Option (TypeId×Nat)) (a b:D) (dst:Option Tmp) (r:List XO) (F:List D) (H:AH) (k:HK):Prop:=match o with
 |some (e,_)=>mM P (yD P e) e a b dst r F H k
 |none=>False
theorem As:xops P false (⟨.call ⟨.builtin .append,#[l,c],#[t]⟩,dst,none,tk,ta⟩::r) F H k=t7 P (ya P t) (rv F l) (rv F c) dst r F H k:=by
 have h0:xops P false (⟨.call ⟨.builtin .append,#[l,c],#[t]⟩,dst,none,tk,ta⟩::r) F H k=(false=false∧BD P t l c dst F H fun F' H'=>xops P false r F' H' k):= .trans rfl rfl
 rw [h0]
 unfold BD t7
 cases ya P t with
 |none=>simp
 | some z=>
  obtain ⟨e,sz⟩:=z
  simp only [true_and]
  unfold mM
  cases yD P e<;>first|rfl|(cases rv F l<;>first|rfl|(cases rv F c<;>rfl))
theorem B3 {e:TypeId}:t7 P (some (e,sz)) a b dst r F H k=mM P (yD P e) e a b dst r F H k:= .trans rfl rfl
theorem CX {e:TypeId}:mM P (some z) e (.int ka n) (.int kb m) dst r F H k=(n=m∧0<=n∧(match P.info? e with|some i=>(i.bytes:Int)*n<=140737488355328∧n<=140737488355328|none=>False)∧∀b,qD H b->xops P false r (qM F dst (.hsl b n.toNat)) ((b,.cells (List.replicate n.toNat z).flatten)::H) k):= .trans rfl rfl
def Ff (P:Program) (c:Option AO) (b n cap sz bs:Nat) (y:D) (d:Nat) (r:List XO) (F:List D) (H:AH) (k:HK):Prop:=match y,c with
 | .slc ys,some (.cells cs)=>(∀y∈ys,y.length=sz)∧cs.length=cap*sz∧(n+ys.length)*bs<=140737488355328∧(cs.take (n*sz)).all plain=true∧
   ∀b' cap' m,qD (qN H b) b'->n*sz+ys.length*sz+m=cap'*sz->xops P false r (F.set d (.hgs b' (n+ys.length) cap')) ((b',.cells (cs.take (n*sz)++(ys.flatten++List.replicate m .any)))::qN H b) k
 |_,_=>False
def pm (P:Program) (a:D) (o:Option (TypeId×Nat×Nat)) (y:D) (s d:Nat) (r:List XO) (F:List D) (H:AH) (k:HK):Prop:=match a,o with
 | .own [],some (_,sz,bs)=>match y with
  | .slc ys=>(∀y∈ys,y.length=sz)∧ys.length*bs<=140737488355328∧(ys= []->xops P false r ((F.set s (.slc [])).set d (.own [])) H k)∧
    (ys≠ []->∀b cap m,qD H b->ys.length*sz+m=cap*sz->xops P false r ((F.set s (.slc [])).set d (.hgs b ys.length cap)) ((b,.cells (ys.flatten++List.replicate m .any))::H) k)
  |_=>False
 | .hgs b n cap,some (_,sz,bs)=>Ff P (qn H b) b n cap sz bs y d r F H k
 |_,_=>False
theorem AJ {v:TypeId}:xops P false (⟨.call ⟨.builtin .append,#[.tmp s,y],#[t,u,v]⟩,some d,none,tk,ta⟩::r) F H k=pm P (F.getD s .any) (KZ P t u) (rv F y) s d r F H k:=by
 have h0:xops P false (⟨.call ⟨.builtin .append,#[.tmp s,y],#[t,u,v]⟩,some d,none,tk,ta⟩::r) F H k=(false=false∧BV P t u (.tmp s) y (some d) F H fun F' H'=>xops P false r F' H' k):= .trans rfl rfl
 rw [h0]
 unfold BV pm
 simp only [true_and,ev]
 generalize F.getD s D.any=e
 generalize KZ P t u=q
 cases e<;>rfl
theorem A2 {e:TypeId}:pm P (.own []) (some (e,sz,bs)) (.slc ys) s d r F H k=((∀y∈ys,y.length=sz)∧ys.length*bs<=140737488355328∧(ys= []->xops P false r ((F.set s (.slc [])).set d (.own [])) H k)∧
    (ys≠ []->∀b cap m,qD H b->ys.length*sz+m=cap*sz->xops P false r ((F.set s (.slc [])).set d (.hgs b ys.length cap)) ((b,.cells (ys.flatten++List.replicate m .any))::H) k)):= .trans rfl rfl
theorem CD:(D.hgs b n c).view= .hgs b n c:= .trans rfl rfl
theorem po:(D.hgs b n c).view1= .hgs b n c:= .trans rfl rfl
theorem BF:fact (.hgs b n c)=True:= .trans rfl rfl
theorem dS {v v':TypeId}:xops P false (⟨.call ⟨.builtin .append,#[x,y],#[t,u,v,v']⟩,dst,none,tk,ta⟩::r) F H k=Gz F H fun F' H'=>xops P false (⟨.call ⟨.builtin .append,#[x,y],#[t,u]⟩,dst,none,false,false⟩::r) F' H' k:=by
 have h0:xops P false (⟨.call ⟨.builtin .append,#[x,y],#[t,u,v,v']⟩,dst,none,tk,ta⟩::r) F H k=(false=false∧Gz F H fun F' H'=>xops P false (⟨.call ⟨.builtin .append,#[x,y],#[t,u]⟩,dst,none,false,false⟩::r) F' H' k):= .trans rfl rfl
 rw [h0]
 simp only [true_and]
theorem vW:qN ((b,o)::H) b=H:=by simp [qN]
theorem u5 (h:b≠c):qN ((c,o)::H) b=(c,o)::qN H b:=by simp [qN,h]
theorem kM (hz:Fz F H F' H') (h:xcode P x F' H' Q):xcode P (.gh x) F H Q:=Gz.of_fz hz h
theorem Jf:xcode P (.gh x) F H Q=Gz F H fun F' H'=>xcode P x F' H' Q:= .trans rfl rfl
end
section
variable {P:Program} {F:List D} {H H0:AH} {k:HK} {Q:AQ} {A:zT} {r:List (List XO×XO×Bool)} {last tail l:List XO} {x:XO} {S S':List Nat} {t s d:Nat} {tk ta fl:Bool} {K:zT->List Nat->HK} {g:Option (Option (Tmp×Bool))} {dst:Option Tmp}
def fA (P:Program) (A:zT) (tail:List XO) (H:AH) (k:HK):HK:=fun F' _=>Y7 P A tail F' H k
def Cs (P:Program) (x:XO) (fl:Bool) (r:List (List XO×XO×Bool)) (last tail:List XO) (H0:AH) (S:List Nat) (A:zT) (H:AH) (k:HK):HK:=fun F' _=>xtk P x fl H0 S A F' H fun A' S' F'' H''=>xsegs P r last tail H0 S' A' F'' H'' k
def xR (P:Program) (r:List (List XO×XO×Bool)) (last tail:List XO) (H0:AH) (k:HK):zT->List Nat->HK:=fun A' S' F'' H''=>xsegs P r last tail H0 S' A' F'' H'' k
theorem rL:xcode P (.regT qs segs last tail) F H Q=xsegs P segs last tail (WC F qs H) [] [] F H (Q .normal):= .trans rfl rfl
theorem Ez:ZL (.cells cs)= .cells (cs.map D.view1):= .trans rfl rfl
theorem tA:xcode P (.regV l tail) F H Q=xops P true l F H (fA P [] tail H (Q .normal)):= .trans rfl rfl
theorem DX:WC F [] H=H:= .trans rfl rfl
theorem Ew:WC F (q::qs) H=WC F qs (mi (F.getD q .any) H):= .trans rfl rfl
theorem FY:mi (.ptr b off) H=qN H b:= .trans rfl rfl
def Dc (b:Bool) (q:Bool×List D) (o:Option (Bool×List D)):Option (Bool×List D):=match b with
 |true=>some q
 |false=>o
def Db (b:Bool) (d:Nat) (q x:Bool×List D) (r r':zT):zT:=match b with
 |true=>(d,x)::r
 |false=>(d,q)::r'
def Do (d:Nat) (o:Option (Bool×List D)):Option (Nat×Bool×List D):=match o with
 |some (f,z)=>some (d,f,z)
 |none=>none
theorem Hb:lookv [] d=none:= .trans rfl rfl
theorem Iv:lookv ((e,q)::A) d=Dc (d==e) q (lookv A d):=by
 unfold Dc
 show (if d=e then some q else lookv A d)=_
 by_cases h:d=e
 ·subst h;simp
 ·rw [if_neg h,show (d==e)=false by simpa using h]
theorem I6:Dc true q o=some q:= .trans rfl rfl
theorem IW:Dc false q o=o:= .trans rfl rfl
theorem F9 {e:Nat} {q x:Bool×List D} {A:zT}:setv ((e,q)::A) d x=Db (d==e) e q x A (setv A d x):=by
 unfold Db
 show (if d=e then (e,x)::A else (e,q)::setv A d x)=_
 by_cases h:d=e
 ·subst h;simp
 ·rw [if_neg h,show (d==e)=false by simpa using h]
theorem HA {e:Nat} {q x:Bool×List D} {A A':zT}:Db true e q x A A'=(e,x)::A:= .trans rfl rfl
theorem H9 {e:Nat} {q x:Bool×List D} {A A':zT}:Db false e q x A A'=(e,q)::A':= .trans rfl rfl
theorem Ek:bH A (.tmp d)=Do d (lookv A d):=by
 show (lookv A d).map (fun q=>(d,q))=Do d (lookv A d)
 cases lookv A d<;>rfl
theorem EH:Do d none=none:= .trans rfl rfl
theorem H8:Do d (some (f,z))=some (d,f,z):= .trans rfl rfl
theorem F8:Y7 P [] tail F H k=xops P false tail F H k:= .trans rfl rfl
theorem Fx:Y7 P ((d,f,z)::A) tail F H k=∀b,qD H b->Y7 P A tail (F.set d (.ptr b 0)) ((b,.cells z)::H) k:= .trans rfl rfl
theorem FZ:xsegs P [] last tail H0 S A F H k=xops P true last F H0 (fA P A tail H k):= .trans rfl rfl
theorem FL:xsegs P ((l,x,fl)::r) last tail H0 S A F H k=xops P true l F H0 (Cs P x fl r last tail H0 S A H k):= .trans rfl rfl
theorem tT:fA P A tail H k F' H'=Y7 P A tail F' H k:= .trans rfl rfl
theorem Bm:Cs P x fl r last tail H0 S A H k F' H'=xtk P x fl H0 S A F' H (xR P r last tail H0 k):= .trans rfl rfl
theorem pU:xR P r last tail H0 k A S' F' H'=xsegs P r last tail H0 S' A F' H' k:= .trans rfl rfl
def Dl (c:Option D) (cs:List D) (b off d:Nat) (fl:Bool) (H0:AH) (S:List Nat) (F:List D) (H:AH) (K:List Nat->HK):Prop:=match c with
 |some (.own xs)=>(qn H0 b=none∨qn H0 b=some (ZL (.cells cs)))∧(fl=true∨b ∉ S)∧K (b::S) (F.set d (.own xs)) (qH H b (.cells (cs.set off (.slc xs))))
 |_=>False
def D9 (o:Option AO) (b off d:Nat) (fl:Bool) (H0:AH) (S:List Nat) (F:List D) (H:AH) (K:List Nat->HK):Prop:=match o with
 |some (.cells cs)=>Dl cs[off]? cs b off d fl H0 S F H K
 |_=>False
def Iw (ty:Option (Bool×Nat)) (a:D) (d:Nat) (fl:Bool) (H0:AH) (S:List Nat) (F:List D) (H:AH) (K:List Nat->HK):Prop:=match ty,a with
 |some (false,_),.ptr b off=>D9 (qn H b) b off d fl H0 S F H K
 |_,_=>False
theorem HY:xtk P ⟨.load t (.tmp s),some d,none,tk,true⟩ fl H0 S A F H K=Iw (yq P t) (rv F (.tmp s)) d fl H0 S F H (K A):=by
 unfold xtk Iw D9 Dl
 simp only [true_and]
 rfl
theorem Ec:Iw (some (false,n)) (.ptr b off) d fl H0 S F H K1=D9 (qn H b) b off d fl H0 S F H K1:= .trans rfl rfl
theorem I9:D9 (some (.cells cs)) b off d fl H0 S F H K1=Dl cs[off]? cs b off d fl H0 S F H K1:= .trans rfl rfl
theorem FT:Dl (some (.own xs)) cs b off d fl H0 S F H K1=((qn H0 b=none∨qn H0 b=some (ZL (.cells cs)))∧(fl=true∨b ∉ S)∧K1 (b::S) (F.set d (.own xs)) (qH H b (.cells (cs.set off (.slc xs))))):= .trans rfl rfl
def Cm (ag:Bool) (n off:Nat) (o:Option AO) (b:Nat) (y:Operand) (dst:Option Tmp) (fl:Bool) (H0:AH) (S:List Nat) (F:List D) (H:AH) (K1:List Nat->HK):Prop:=match o with
 | some (.cells cs)=>if ag=true then okc (rv F y)=true∧(cellsOf (rv F y)).length=n∧off+n<=cs.length∧qn H0 b=none∧(fl=true∨b ∉ S)∧K1 (b::S) (qM F dst (.tup [])) (qH H b (.cells (cs.take off++(cellsOf (rv F y)++cs.drop (off+n)))))
  else n=1∧off<cs.length∧one1 (ev F y)=true∧dst=none∧qn H0 b=none∧(fl=true∨b ∉ S)∧(match y with
    | .tmp s=>K1 (b::S) (F.set s (rv F y)) (qH H b (.cells (cs.set off (ev F y))))
    |_=>K1 (b::S) F (qH H b (.cells (cs.set off (ev F y)))))
 |_=>False
def D7 (ty:Option (Bool×Nat)) (a:D) (y:Operand) (dst:Option Tmp) (fl:Bool) (H0:AH) (S:List Nat) (F:List D) (H:AH) (K1:List Nat->HK):Prop:=match ty,a with
 |some (ag,n),.ptr b off=>Cm ag n off (qn H b) b y dst fl H0 S F H K1
 |_,_=>False
def DQ (ty:Option (Bool×Nat)) (d:Nat) (z:List D) (y:Operand) (dst:Option Tmp) (S:List Nat) (A:zT) (F:List D) (H:AH) (K:zT->List Nat->HK):Prop:=match ty with
 |some (true,n)=>okc (rv F y)=true∧(cellsOf (rv F y)).length=n∧n<=z.length∧K (setv A d (true,cellsOf (rv F y)++z.drop n)) S (qM F dst (.tup [])) H
 |_=>False
def DM (o:Option (Nat×Bool×List D)) (ty:Option (Bool×Nat)) (a:D) (y:Operand) (dst:Option Tmp) (fl:Bool) (H0:AH) (S:List Nat) (A:zT) (F:List D) (H:AH) (K:zT->List Nat->HK):Prop:=match o with
 |some (d,f,z)=>f=false∧DQ ty d z y dst S A F H K
 |none=>D7 ty a y dst fl H0 S F H (K A)
theorem II:xtk P ⟨.store t a y,dst,g,tk,ta⟩ fl H0 S A F H K=DM (bH A a) (yq P t) (rv F a) y dst fl H0 S A F H K:=by
 unfold xtk DM DQ D7 Cm
 dsimp only
 generalize bH A a=e0
 generalize yq P t=e
 cases e0 with
 |some q=>rfl
 |none=>
 cases e with
 |none=>rfl
 | some q=>
  obtain ⟨ag,n⟩:=q
  generalize rv F a=e2
  cases e2<;>cases ag<;>try rfl
  all_goals
   rename_i b off
   dsimp only
   generalize qn H b=e3
   cases e3 with
   |none=>rfl
   |some e4=>cases e4<;>simp
theorem HJ:DM none ty p y dst fl H0 S A F H K=D7 ty p y dst fl H0 S F H (K A):= .trans rfl rfl
theorem Fg:DM (some (d,f,z)) ty p y dst fl H0 S A F H K=(f=false∧DQ ty d z y dst S A F H K):= .trans rfl rfl
theorem FF:DQ (some (true,n)) d z y dst S A F H K=(okc (rv F y)=true∧(cellsOf (rv F y)).length=n∧n<=z.length∧K (setv A d (true,cellsOf (rv F y)++z.drop n)) S (qM F dst (.tup [])) H):= .trans rfl rfl
theorem FN:D7 (some (ag,n)) (.ptr b off) y dst fl H0 S F H K1=Cm ag n off (qn H b) b y dst fl H0 S F H K1:= .trans rfl rfl
theorem DZ:Cm false n off (some (.cells cs)) b (.tmp s) dst fl H0 S F H K1=(n=1∧off<cs.length∧one1 (F.getD s .any)=true∧dst=none∧qn H0 b=none∧(fl=true∨b ∉ S)∧K1 (b::S) (F.set s (rv F (.tmp s))) (qH H b (.cells (cs.set off (F.getD s .any))))):= .trans rfl rfl
theorem FS:Cm false n off (some (.cells cs)) b (.const v) dst fl H0 S F H K1=(n=1∧off<cs.length∧one1 (jA v)=true∧dst=none∧qn H0 b=none∧(fl=true∨b ∉ S)∧K1 (b::S) F (qH H b (.cells (cs.set off (jA v))))):= .trans rfl rfl
def HH (d:Nat) (o:Option (List D)) (S:List Nat) (A:zT) (F:List D) (H:AH) (K:zT->List Nat->HK):Prop:=match o with
 |some z=>d<F.length∧lookv A d=none∧K ((d,false,z)::A) S (F.set d .any) H
 |none=>False
theorem Iu:xtk P ⟨.alloc t,some d,g,tk,ta⟩ fl H0 S A F H K=HH d (yD P t) S A F H K:=by
 unfold xtk HH
 dsimp only
 cases yD P t<;>rfl
theorem In:HH d (some z) S A F H K=(d<F.length∧lookv A d=none∧K ((d,false,z)::A) S (F.set d .any) H):= .trans rfl rfl
def C5 (S:List Nat) (F:List D) (dst:Option Tmp) (H:AH) (K:List Nat->HK):D->Prop:=fun d=>K S (qM F dst d) H
theorem tC {K:List Nat->HK} {e:D}:C5 S F dst H K e=K S (qM F dst e) H:= .trans rfl rfl
def dL (P:Program) (g:FuncId) (args:List D) (fl:Bool) (H0:AH) (S:List Nat) (H:AH) (K:List Nat->D->AH->Prop):Prop:=
 ∃d b ob ob',qn H0 b=none∧(fl=true∨b ∉ S)∧qn H b=some ob∧(∀H,qn H b=some ob->ACall P g args H (fun d' H'=>d'=d∧H'=qH H b ob'))∧K (b::S) d (qH H b ob')
def CJ (F:List D) (dst:Option Tmp) (K:List Nat->HK):List Nat->D->AH->Prop:=fun S' d H'=>fact d.view->K S' (qM F dst d) H'
def Ev (P:Program) (f:D) (args:List D) (fl:Bool) (H0:AH) (S:List Nat) (H:AH) (K:List Nat->D->AH->Prop):Prop:=match f with
 | .fn g caps=>dL P g (um args caps) fl H0 S H K
 |_=>False
theorem HI:xtk P ⟨.call ⟨.value f,args,tys⟩,dst,g,tk,ta⟩ fl H0 S A F H K=Ev P (rv F f) (args.toList.map (rv F)) fl H0 S H (CJ F dst (K A)):=by
 unfold xtk Ev
 dsimp only
 generalize rv F f=e
 cases e<;>rfl
theorem Ib {g:FuncId} {caps args:List D} {J:List Nat->D->AH->Prop}:Ev P (.fn g caps) args fl H0 S H J=dL P g (um args caps) fl H0 S H J:= .trans rfl rfl
theorem xn {K:List Nat->HK} {e:D} {H':AH}:CJ F dst K S' e H'=(fact e.view->K S' (qM F dst e) H'):= .trans rfl rfl
end
theorem fY:xcode P (.scope x) F H Q=xcode P x F H (WR Q):= .trans rfl rfl
theorem eD:WR Q .ret F H=Q .ret F H:= .trans rfl rfl
theorem cS:WR Q (.exit i) F H=Q (.exit i) F H:= .trans rfl rfl
theorem jl:∀{H:AH} {b:Nat},qD H b->qn H b=none
 | [],_,_=>rfl
 | (c,o)::r,b,h=>by
  unfold qn
  rw [if_neg h.1]
  exact jl h.2
section
variable {P:Program} {F:List D} {H:AH} {k:HK} {r:List XO} {dst:Option Tmp} {t:TypeId} {K:D->Prop}
def xG (P:Program) (t:TypeId) (o:Option (List D)) (l:List (Nat×D)) (K:D->Prop):Prop:=match o with
 |some z=>jT P t=true∧(∀p∈l,okc p.2=true)∧QV P t (l.map fun p=>(p.1,cellsOf p.2)) (z.map Uu) K
 |none=>False
def Ei (P:Program) (tys:List TypeId) (args:List D) (K:D->Prop):Prop:=match tys with
 |t::is=>xG P t (yD P t) (is.zip args) K
 | []=>False
theorem ET:xops P false (⟨.call ⟨.builtin .complex,args,tys⟩,dst,none,tk,ta⟩::r) F H k=Ei P tys.toList (args.toList.map (rv F)) (wh P false r F dst H k):=by
 unfold Ei
 simp only [xops,xop,kH]
 cases h:tys.toList with
 |nil=>simp only [ve,qS]
 | cons t is=>
  simp only [Z3,h,true_and,Bool.and_false]
  unfold fW xG
  cases yD P t with
  |none=>rfl
  | some z=>
   have:(is.zip args.toList).map (fun p=>(p.1,rv F p.2))=is.zip (args.toList.map (rv F)):=by
    rw [List.zip_map_right]
    rfl
   simp only [this]
   rfl
theorem IV:Ei P (t::is) args K=xG P t (yD P t) (is.zip args) K:= .trans rfl rfl
theorem HB:xG P t (some z) l K=(jT P t=true∧(l.all fun p=>okc p.2)=true∧QV P t (l.map fun p=>(p.1,cellsOf p.2)) (z.map Uu) K):=by
 rw [List.all_eq_true]
 rfl
theorem sT:Uu (.own [])= .osl 0 0 []:= .trans rfl rfl
theorem sj:Uu (.int kd n)= .int kd n:= .trans rfl rfl
theorem ti:Uu (.str l)= .str l:= .trans rfl rfl
theorem BB:(D.osl b c xs).view= .osl b c xs:= .trans rfl rfl
theorem rp:(D.osl b c xs).view1= .osl b c xs:= .trans rfl rfl
theorem Cv:fact (.osl b c xs)=True:= .trans rfl rfl
end
def YXZ:=PLift.up (And.intro (And.intro (And.intro @ET @IV) (And.intro @HB @sT)) (And.intro (And.intro @sj @ti) (And.intro @BB (And.intro @rp @Cv))))
theorem XZ:type_of% YXZ.down:=YXZ.down
def jp (P:Program) (o:Option (TypeId×Nat)) (args:List D) (d:Nat) (r:List XO) (F:List D) (H:AH) (k:HK):Prop:=match o with
 | some (e,sz)=>args≠ []∧d<F.length∧(args.all fun x=>okc x&&(cellsOf x).length==sz)=true∧args.length*sz<=16777216∧(yD P e).isSome=true∧
  ∀b cap,qD H b->xops P false r (F.set d (.osl b cap (args.map cellsOf))) ((b,.room cap (args.map cellsOf))::H) k
 |none=>False
theorem L0 {t:TypeId}:xops P false (⟨.call ⟨.builtin .real,args,#[t]⟩,some d,none,tk,ta⟩::r) F H k=jp P (ya P t) (args.toList.map (rv F)) d r F H k:=by
 have h0:xops P false (⟨.call ⟨.builtin .real,args,#[t]⟩,some d,none,tk,ta⟩::r) F H k=(false=false∧C3 P t args.toList (some d) F H fun F' H'=>xops P false r F' H' k):= .trans rfl rfl
 rw [h0]
 unfold C3 jp
 cases ya P t with
 |none=>simp
 | some q=>
  simp only [true_and,ne_eq,List.map_eq_nil_iff,List.length_map,Mx,List.all_map,List.all_eq_true,Function.comp_def,Mi,beq_iff_eq]
theorem AG {e:TypeId}:jp P (some (e,sz)) args d r F H k=(args≠ []∧d<F.length∧(args.all fun x=>okc x&&(cellsOf x).length==sz)=true∧args.length*sz<=16777216∧(yD P e).isSome=true∧
  ∀b cap,qD H b->xops P false r (F.set d (.osl b cap (args.map cellsOf))) ((b,.room cap (args.map cellsOf))::H) k):= .trans rfl rfl
theorem Bi:xcode P (.rgf g p t x) F H Q=XRF P g p t x F H Q:= .trans rfl rfl
theorem HX {t:TypeId}:
  xtk P ⟨.build t ps,dst,g,tk,ta⟩ fl H0 S A F H K=xG P t (yD P t) (ps.toList.map fun p=>(p.1,rv F p.2)) (C5 S F dst H (K A)):=by
 unfold xtk fW xG
 dsimp only
 cases yD P t with
 |none=>rfl
 |some z=>rfl
def YXRb:=PLift.up (And.intro (And.intro (And.intro @Bi (And.intro @AB @Fb)) (And.intro @Eo (And.intro @Fs @Ey))) (And.intro (And.intro @L0 (And.intro @Fl @AG)) (And.intro @EA (And.intro @HX @tC))))
theorem XRb:type_of% YXRb.down:=YXRb.down
def YXT:=PLift.up (And.intro (And.intro (And.intro (And.intro (And.intro @rL @Ez) (And.intro @tA (And.intro @DX @Ew))) (And.intro (And.intro @FY @Hb) (And.intro @Iv (And.intro @I6 @IW)))) (And.intro (And.intro (And.intro @F9 @HA) (And.intro @H9 (And.intro @Ek @EH))) (And.intro (And.intro @H8 (And.intro @F8 @Fx)) (And.intro @FZ (And.intro @FL @tT))))) (And.intro (And.intro (And.intro (And.intro @Bm @pU) (And.intro @HY (And.intro @Ec @I9))) (And.intro (And.intro @FT @HI) (And.intro @Ib (And.intro @xn @II)))) (And.intro (And.intro (And.intro @HJ @Fg) (And.intro @FF (And.intro @FN @DZ))) (And.intro (And.intro @FS (And.intro @Iu @In)) (And.intro @fY (And.intro @eD @cS))))))
theorem XT:type_of% YXT.down:=YXT.down
def YXN:=PLift.up (And.intro (And.intro @As (And.intro @AJ @CD)) (And.intro (And.intro @po @BF) (And.intro @FP @Is)))
theorem XN:type_of% YXN.down:=YXN.down
def YXO2:=PLift.up (And.intro (And.intro @Cn (And.intro @HZ @CH)) (And.intro (And.intro @B3 @CX) (And.intro @A2 @vW)))
theorem XO2:type_of% YXO2.down:=YXO2.down
section
variable {P:Program} {ρ:Operand->D} {F:List D} {H:AH} {k:HK} {r:List XO} {dst:Option Tmp} {t:TypeId} {K:D->Prop} {m tk ta wk ok ag:Bool} {x y z:Operand} {l:List CT} {d i:D} {es:List (D×D)}
def Dy (o:Option AO) (wk ag:Bool) (l:List CT) (z i:D) (ok:Bool) (K:D->Prop):Prop:=match o with
 |some (.mp es)=>yg ag l es i∧(fact (oZ ok z (kT es (cellsOf i)))->K (wkI wk (oZ ok z (kT es (cellsOf i)))))
 |_=>False
def CZ (o:Option (Bool×List CT×D)) (wk:Bool) (H:AH) (m i:D) (ok:Bool) (K:D->Prop):Prop:=match o,m with
 |some (ag,l,z),.mp none=>yg ag l [] i∧K (wkI wk (oZ ok z none))
 |some (ag,l,z),.mpv es=>yg ag l es i∧(fact (oZ ok z (kT es (cellsOf i)))->K (wkI wk (oZ ok z (kT es (cellsOf i)))))
 |some (ag,l,z),.mp (some b)=>Dy (qn H b) wk ag l z i ok K
 |_,_=>False
theorem Em:JQ P wk t H dm di ok K=CZ (cj P t) wk H dm di ok K:=by
 unfold JQ CZ Dy
 rfl
theorem ED:xops P m (⟨.lookup t x y ok,dst,none,tk,ta⟩::r) F H k=CZ (cj P t) true H (rv F x) (rv F y) ok (wh P m r F dst H k):=by
 rw [<-Em]
 rfl
theorem HE:CZ (some (ag,l,d)) wk H (.mp (some b)) i ok K=Dy (qn H b) wk ag l d i ok K:= .trans rfl rfl
theorem Ie:Dy (some (.mp es)) wk ag l d i ok K=(yg ag l es i∧(fact (oZ ok d (kT es (cellsOf i)))->K (wkI wk (oZ ok d (kT es (cellsOf i)))))):= .trans rfl rfl
theorem AI:xops P m (⟨.makeMap t none,dst,none,tk,ta⟩::r) F H k=∀b,qD H b->xops P false r (qM F dst (.mp (some b))) ((b,.mp [])::H) k:=by
 simp only [xops,xop,ve,kH,mH,true_and,zI,Bool.not_true,Bool.false_and]
def DU (o:Option AO) (b:Nat) (ag:Bool) (l:List CT) (i v:D) (H:AH) (K:AH->Prop):Prop:=match o with
 |some (.mp es)=>yg ag l es i∧K (qH H b (.mp (oe es i v)))
 |_=>False
def muD (o:Option (Bool×List CT×D)) (H:AH) (m i v:D) (K:AH->Prop):Prop:=match o,m with
 |some (ag,l,z),.mp (some b)=>DU (qn H b) b ag l i v H K
 |_,_=>False
def Ce (P:Program) (r:List XO) (F:List D) (dst:Option Tmp) (k:HK):AH->Prop:=fun H'=>xops P false r (qM F dst (.tup [])) H' k
theorem Bh:xops P m (⟨.mapUpdate t x y z,dst,none,tk,ta⟩::r) F H k=muD (cj P t) H (rv F x) (rv F y) (rv F z) (Ce P r F dst k):=by
 simp only [xops,xop,ve,kH,hU,true_and,zI,Bool.not_true,Bool.false_and]
 rfl
theorem E4 {K:AH->Prop}:muD (some (ag,l,d)) H (.mp (some b)) i v K=DU (qn H b) b ag l i v H K:= .trans rfl rfl
theorem Ik {K:AH->Prop}:DU (some (.mp es)) b ag l i v H K=(yg ag l es i∧K (qH H b (.mp (oe es i v)))):= .trans rfl rfl
theorem sP:Ce P r F dst k H'=xops P false r (qM F dst (.tup [])) H' k:= .trans rfl rfl
theorem C6:xops P false (⟨.call ⟨.builtin .imag,#[],#[t]⟩,dst,none,tk,ta⟩::r) F H k=V2 P (.alloc t) dst F H fun F' H'=>xops P false r F' H' k:=by
 simp only [xops,xop,kH,Z3,zI,Bool.and_false,true_and]
theorem Ah:xops P false (⟨.call ⟨.builtin .imag,#[x],#[t]⟩,dst,none,tk,ta⟩::r) F H k=V2 P (.range t x) dst F H fun F' H'=>xops P false r F' H' k:=by
 simp only [xops,xop,kH,Z3,zI,Bool.and_false,true_and]
theorem CV:xops P false (⟨.call ⟨.builtin .imag,#[x],#[]⟩,dst,none,tk,ta⟩::r) F H k=V2 P (.next x false) dst F H fun F' H'=>xops P false r F' H' k:=by
 simp only [xops,xop,kH,Z3,zI,Bool.and_false,true_and]
theorem AZ {t':TypeId}:xops P false (⟨.call ⟨.builtin .imag,#[x],#[t,t']⟩,dst,none,tk,ta⟩::r) F H k=V2 P (.entry x) dst F H fun F' H'=>xops P false r F' H' k:=by
 simp only [xops,xop,kH,Z3,zI,Bool.and_false,true_and]
def rg (P:Program) (r:List XO) (F:List D) (dst:Option Tmp) (k:HK):D->AH->Prop:=fun d H'=>xops P false r (qM F dst d) H' k
theorem Cx:rg P r F dst k d H=xops P false r (qM F dst d) H k:= .trans rfl rfl
def Dv (o:Option (TypeId×Nat)) (a:Option AO) (b off n:Nat) (s:List UInt8) (H:AH) (K:D->AH->Prop):Prop:=match o,a with
 |some (_,sz),some (.cells cs)=>sz=1∧off+n<=cs.length∧(fact (.str s)->K (.int .i64 (min s.length n:Nat)) (qH H b (.cells (cs.take off++((s.take n).map (fun c=>D.int .u8 c.toNat)++cs.drop (off+min s.length n))))))
 |_,_=>False
def Id (P:Program) (t:TypeId) (x y:D) (H:AH) (K:D->AH->Prop):Prop:=match x,y with
 | .hso b off n,.str s=>Dv (ya P t) (qn H b) b off n s H K
 |_,_=>False
theorem Cf {u:TypeId}:xops P m (⟨.call ⟨.builtin .copy,#[x,y],#[t,u]⟩,dst,none,tk,ta⟩::r) F H k=Id P t (rv F x) (rv F y) H (rg P r F dst k):=by
 simp only [xops,xop,ve,kH,lO,true_and,zI,Bool.not_true,Bool.false_and,List.map_cons,List.map_nil]
 unfold Id Dv rg
 cases rv F x<;>first|rfl|(cases rv F y<;>rfl)
theorem Ed {K:D->AH->Prop}:Id P t (.hso b off n) (.str s) H K=Dv (ya P t) (qn H b) b off n s H K:= .trans rfl rfl
theorem EP {e:TypeId} {K:D->AH->Prop}:Dv (some (e,sz)) (some (.cells cs)) b off n s H K=(sz=1∧off+n<=cs.length∧(fact (.str s)->K (.int .i64 (min s.length n:Nat)) (qH H b (.cells (cs.take off++((s.take n).map (fun c=>D.int .u8 c.toNat)++cs.drop (off+min s.length n))))))):= .trans rfl rfl
theorem Cg:(D.hso b off n).view= .hso b off n:= .trans rfl rfl
theorem FD:fact (.mp o)=True:= .trans rfl rfl
theorem Ea:wkI true d=d.wkT:= .trans rfl rfl
theorem It:(D.agg cs).wkA= .agg (cs.map D.wk1):= .trans rfl rfl
theorem Hs:(D.bool b).wkA= .bool b:= .trans rfl rfl
theorem Fq:(D.int kd n).wk1= .int kd n:= .trans rfl rfl
end
def YXU:=PLift.up (And.intro (And.intro (And.intro (And.intro @ED @HE) (And.intro @Ie @AI)) (And.intro (And.intro @Bh @E4) (And.intro @Ik @sP))) (And.intro (And.intro (And.intro @Cg @FD) (And.intro @Ea @It)) (And.intro (And.intro @Hs @Fq) (And.intro @IS (And.intro @BC @E8)))))
theorem XU:type_of% YXU.down:=YXU.down
def YXA:=PLift.up (And.intro (And.intro (And.intro (And.intro (And.intro @sx (And.intro @BY @s7)) (And.intro @A5 (And.intro @rP @li))) (And.intro (And.intro @rS (And.intro @CW @sW)) (And.intro (And.intro @fB @sH) (And.intro @tV @dK)))) (And.intro (And.intro (And.intro @VU (And.intro @fd @nW)) (And.intro (And.intro @sQ @By) (And.intro @Ep @BO))) (And.intro (And.intro @Br (And.intro @xT @xV)) (And.intro (And.intro @pj @Bf) (And.intro @rt @lr))))) (And.intro (And.intro (And.intro (And.intro @Cz (And.intro @Ab @xp)) (And.intro (And.intro @lE @BX) (And.intro @Bo @Cr))) (And.intro (And.intro @Bg (And.intro @Az @rW)) (And.intro (And.intro @B9 @Au) (And.intro @sv @pv)))) (And.intro (And.intro (And.intro @ri (And.intro @su @EM)) (And.intro (And.intro @rQ @Fa) (And.intro @ES @Fj))) (And.intro (And.intro @F7 (And.intro @H5 @Ee)) (And.intro (And.intro @IL @BT) (And.intro @Ck @AF))))))
theorem XA:type_of% YXA.down:=YXA.down
def YXB:=PLift.up (And.intro (And.intro (And.intro (And.intro (And.intro (And.intro (And.intro @fF @tc) (And.intro @BZ (And.intro @o_s @o_t))) (And.intro (And.intro @z_1 (And.intro @z_0 @z_2)) (And.intro @i_T (And.intro @i_F @xU)))) (And.intro (And.intro (And.intro @AP @i_N) (And.intro @Fe (And.intro @IC @HP))) (And.intro (And.intro @FA (And.intro @g_U @xl)) (And.intro @tP (And.intro @lB @e_d))))) (And.intro (And.intro (And.intro (And.intro @e_0 @e_1) (And.intro @EF (And.intro @IM @If))) (And.intro (And.intro @FW (And.intro @IJ @p6)) (And.intro @iF (And.intro @pO @mg)))) (And.intro (And.intro (And.intro @Ao @Cd) (And.intro @Ex (And.intro @FQ @DW))) (And.intro (And.intro @C8 (And.intro @BR @p_s)) (And.intro @p_n (And.intro @Bs @lQ)))))) (And.intro (And.intro (And.intro (And.intro (And.intro @rO @te) (And.intro @CQ (And.intro @rx @B5))) (And.intro (And.intro @Bb (And.intro @Cy @AT)) (And.intro @tf (And.intro @E1 @Ai)))) (And.intro (And.intro (And.intro @xM @L7) (And.intro @sM (And.intro @iW @tz))) (And.intro (And.intro @pM (And.intro @rF @Ci)) (And.intro @pC (And.intro @AD @CR))))) (And.intro (And.intro (And.intro (And.intro @tp @CG) (And.intro @i8 (And.intro @Aq @nN))) (And.intro (And.intro @xO (And.intro @mV @sr)) (And.intro @Av (And.intro @A7 @L6)))) (And.intro (And.intro (And.intro @jf @wG) (And.intro @mN (And.intro @AA @rH))) (And.intro (And.intro @xW (And.intro @tt @Fk)) (And.intro @I7 (And.intro @CM @Hc))))))) (And.intro (And.intro (And.intro (And.intro (And.intro (And.intro @FM @Fc) (And.intro @Fm (And.intro @Bl @F6))) (And.intro (And.intro @xd (And.intro @IG @HR)) (And.intro @Hd (And.intro @EL @BG)))) (And.intro (And.intro (And.intro @xX @Ay) (And.intro @DV (And.intro @Il @L4))) (And.intro (And.intro @EO (And.intro @H6 @E7)) (And.intro @sw (And.intro @tJ @px))))) (And.intro (And.intro (And.intro (And.intro @td @rE) (And.intro @sU (And.intro @tN @ro))) (And.intro (And.intro @A4 (And.intro @rT @nU)) (And.intro @rI (And.intro @pT @pn)))) (And.intro (And.intro (And.intro @p8 @tG) (And.intro @pI (And.intro @so @sh))) (And.intro (And.intro @sO (And.intro @AS @FO)) (And.intro @Hx (And.intro @xc @Fu)))))) (And.intro (And.intro (And.intro (And.intro (And.intro @E9 @Fp) (And.intro @B8 (And.intro @IB @HG))) (And.intro (And.intro @HM (And.intro @He @FX)) (And.intro @Iz (And.intro @DT @HU)))) (And.intro (And.intro (And.intro @EU @CL) (And.intro @B1 (And.intro @Aa @AN))) (And.intro (And.intro @BU (And.intro @IX @Fo)) (And.intro @Fi (And.intro @IU @Hu))))) (And.intro (And.intro (And.intro (And.intro @FH @CI) (And.intro @Ca (And.intro @Hn @HV))) (And.intro (And.intro @EQ (And.intro @EE @Bz)) (And.intro @Eu (And.intro @EX @BW)))) (And.intro (And.intro (And.intro @Bv @FG) (And.intro @IA (And.intro @Ue @kV))) (And.intro (And.intro @Z0 (And.intro @eP @WW)) (And.intro @df (And.intro @dr @qz))))))))
theorem XB:type_of% YXB.down:=YXB.down
def YXL:=PLift.up (And.intro (And.intro (And.intro (And.intro @Nat.zero_add (And.intro @Nat.add_zero @true_and)) (And.intro @and_true (And.intro @decide_true @decide_false))) (And.intro (And.intro @not_true (And.intro @not_false_iff @and_self)) (And.intro (And.intro @Bool.not_true @Bool.not_false) (And.intro @Mn @Nat.lt_irrefl)))) (And.intro (And.intro (And.intro @Nat.lt_add_one (And.intro @Nat.zero_lt_succ @Int.toNat_zero)) (And.intro (And.intro @Md @Mf) (And.intro @decide_eq_true_eq @decide_eq_false_iff_not))) (And.intro (And.intro @Bool.not_eq_true' (And.intro @Bool.not_eq_false' @Bool.and_true)) (And.intro (And.intro @Bool.true_and @false_implies) (And.intro @Int.le_refl @Int.lt_irrefl)))))
theorem XL:type_of% YXL.down:=YXL.down
theorem XM.{u}:type_of% (And.intro (And.intro @forall_const.{u} @implies_true.{u}) (And.intro @List.not_mem_nil.{u} (And.intro @beq_self_eq_true.{u} @List.forall_mem_cons.{u}))):=(And.intro (And.intro @forall_const.{u} @implies_true.{u}) (And.intro @List.not_mem_nil.{u} (And.intro @beq_self_eq_true.{u} @List.forall_mem_cons.{u})))
def YXH:=PLift.up (And.intro (And.intro (And.intro (And.intro @AV (And.intro @BM @CS)) (And.intro @Er (And.intro @Bd @Fn))) (And.intro (And.intro @EB (And.intro @Iy @L3)) (And.intro @A3 (And.intro @A1 @BI)))) (And.intro (And.intro (And.intro @Ag (And.intro @HT @An)) (And.intro @IP (And.intro @Fd @HW))) (And.intro (And.intro @E2 (And.intro @Cf @Cx)) (And.intro (And.intro @Ed @EP) (And.intro @AB @AS)))))
theorem XH:type_of% YXH.down:=YXH.down
def YXI:=PLift.up (And.intro (And.intro @C6 @Ah) (And.intro @CV @AZ))
theorem XI:type_of% YXI.down:=YXI.down
def YXQ:=PLift.up (And.intro (And.intro (And.intro (And.intro (And.intro @List.length_cons.{0} @List.length_nil.{0}) (And.intro @List.replicate_succ.{0} (And.intro @List.replicate_zero.{0} @List.cons_append.{0}))) (And.intro (And.intro @List.nil_append.{0} (And.intro @List.append_nil.{0} @List.set_cons_succ.{0})) (And.intro @List.set_cons_zero.{0} (And.intro @List.getD_cons_succ.{0} @List.getD_cons_zero.{0})))) (And.intro (And.intro (And.intro @List.getElem?_cons_succ.{0} @List.getElem?_cons_zero.{0}) (And.intro @List.toList_toArray.{0} (And.intro @Option.isSome_some.{0} @Option.isSome_none.{0}))) (And.intro (And.intro @List.drop_succ_cons.{0} (And.intro @List.drop_zero.{0} @List.take_succ_cons.{0})) (And.intro @List.take_zero.{0} (And.intro @List.drop_nil.{0} @List.take_nil.{0}))))) (And.intro (And.intro (And.intro (And.intro @Option.getD_some.{0} @List.all_cons.{0}) (And.intro @List.all_nil.{0} (And.intro @List.map_cons.{0,0} @List.map_nil.{0,0}))) (And.intro (And.intro @Option.map_some.{0,0} (And.intro @Option.map_none.{0,0} @List.zip_cons_cons.{0,0})) (And.intro @List.zip_nil_right.{0,0} (And.intro @List.zip_nil_left.{0,0} @List.length_map.{0,0})))) (And.intro (And.intro (And.intro @List.range_zero (And.intro @Mu @Bool.or_true)) (And.intro @Bool.or_false (And.intro @Bool.true_or @Bool.false_or))) (And.intro (And.intro @true_or (And.intro @false_or @Bool.false_eq_true)) (And.intro @XB (And.intro @XO2 @XL))))))
theorem XQ:type_of% YXQ.down:=YXQ.down
def YXP:=PLift.up (And.intro (And.intro @XA @XN) (And.intro @XT (And.intro @XZ @XRb)))
theorem XP:type_of% YXP.down:=YXP.down
theorem Jt:type_of% (And.intro @XP @XU):=And.intro @XP @XU
def YXW0:=PLift.up (And.intro (And.intro (And.intro (And.intro @cellsOf.eq_1 (And.intro @cellsOf.eq_2 @okc.eq_1)) (And.intro (And.intro @okc.eq_2 @okc.eq_3) (And.intro @okc.eq_4 @one1.eq_1))) (And.intro (And.intro (And.intro @one1.eq_2 @one1.eq_3) (And.intro @one1.eq_4 @resOne.eq_1)) (And.intro (And.intro @resOne.eq_2 @resAll.eq_1) (And.intro @resAll.eq_2 @eqCells.eq_1)))) (And.intro (And.intro (And.intro @eqCells.eq_2 (And.intro @eqCells.eq_3 @cellEq.eq_1)) (And.intro (And.intro @cellEq.eq_2 @cellEq.eq_3) (And.intro @cellEq.eq_4 @fits.eq_1))) (And.intro (And.intro (And.intro @fits.eq_2 @fits.eq_3) (And.intro @fits.eq_4 @fits.eq_5)) (And.intro (And.intro @sameK.eq_1 @sameK.eq_2) (And.intro @sameK.eq_3 @XQ)))))
theorem qo:type_of% YXW0.down:=YXW0.down
theorem XW1.{u}:type_of% (And.intro (And.intro @XM.{u} @ne_eq.{u}) (And.intro @ite_true.{u} @ite_false.{u})):=(And.intro (And.intro @XM.{u} @ne_eq.{u}) (And.intro @ite_true.{u} @ite_false.{u}))
abbrev D.i (n:Int):D:= .int .i64 n
def zz (z:Nat->D):Nat->Nat->List D->List D
 |_,0,r=>r
 |a,n+1,r=>z a::zz z (a+1) n r
def fl:List (Nat×D)->(Nat->D)->Nat->Nat->List D
 | [],z,p,n=>zz z p (n - p) []
 |(j,d)::r,z,p,n=>zz z p (j - p) (d::fl r z (j+1) n)
def fso:List (Nat×D)->Nat->Nat->Bool
 | [],p,n=>decide (p<=n)
 |(j,_)::r,p,n=>decide (p<=j)&&decide (j<n)&&fso r (j+1) n
theorem dJ (z:Nat->D):∀k p r,zz z p k r=(List.range' p k).map z++r
 |0,_,_=>rfl
 |k+1,p,r=>by rw [zz,dJ z k (p+1) r];rfl
theorem fC {z:Nat->D}:∀{ks:List (Nat×D)} {p n i:Nat},fso ks p n=true->i<p->frm ks z i=z i
 | [],_,_,_,_,_=>rfl
 | (j,_)::r,p,n,i,h,hi=>by
  simp only [fso,Mi,decide_eq_true_eq] at h
  rw [frm,if_neg (by omega),fC h.2 (by omega)]
theorem mW {z:Nat->D}:∀{ks:List (Nat×D)} {p n:Nat},fso ks p n=true->fl ks z p n=(List.range' p (n - p)).map (frm ks z)
 | [],p,n,_=>by rw [fl,dJ,Mv];rfl
 | (j,d)::r,p,n,h=>by
  have h0:=h
  simp only [fso,Mi,decide_eq_true_eq] at h
  obtain ⟨⟨h1,h2⟩,h3⟩:=h
  have e:n - p=(j - p)+((n - (j+1))+1):=by omega
  rw [fl,dJ,mW h3,e,<-List.range'_append_1,Mm,show p+(j - p)=j by omega,List.range'_succ,List.map_cons]
  congr 1
  ·exact My fun i hi=>by
    have:=List.mem_range'_1.1 hi
    rw [frm,if_neg (by omega),fC h3 (by omega)]
  ·congr 1
   ·rw [frm,if_pos rfl]
   ·exact My fun i hi=>by
     have:=List.mem_range'_1.1 hi
     rw [frm,if_neg (by omega)]
theorem Fr.fl {n:Nat} {ks:List (Nat×D)} {F:List D} (h:Fr n ks F) (hs:fso ks 0 n=true):∃z:Nat->D,F=Aw.fl ks z 0 n:=by
 obtain ⟨z,hz⟩:=h.lit
 exact ⟨z,by rw [hz,mW hs,Nat.sub_zero,List.range_eq_range']⟩
end Go.Aw
namespace Go.Xs
open Go Go.Aw
abbrev t (n:Tmp):Operand:= .tmp n
abbrev i (n:Int):Operand:= .const (.int .i64 n)
abbrev a (o:Op) (d:Tmp):XO:=⟨o,some d,none,false,false⟩
abbrev b (o:Op) (d:Tmp):XO:=⟨o,some d,none,true,false⟩
abbrev c (o:Op) (d:Tmp):XO:=⟨o,some d,none,true,true⟩
abbrev s (o:Op):XO:=⟨o,none,none,false,false⟩
abbrev g (o:Op) (d g:Tmp) (w:Bool):XO:=⟨o,some d,some (some (g,w)),false,false⟩
abbrev m (x d:Tmp):XO:=⟨.move (.tmp x),some d,none,false,false⟩
abbrev n (x d:Tmp):XO:=⟨.assign (.tmp x),some d,none,false,false⟩
abbrev l (u:TypeId) (x d:Tmp):XO:=⟨.load u (.tmp x),some d,none,false,false⟩
abbrev f (u:TypeId) (x:Tmp) (k:Nat) (d:Tmp):XO:=⟨.fieldAddr u (.tmp x) k,some d,none,false,false⟩
abbrev w (u:TypeId) (x y:Tmp):XO:=⟨.store u (.tmp x) (.tmp y),none,none,false,false⟩
abbrev j (u:TypeId) (x y d:Tmp):XO:=⟨.indexAddr u (.tmp x) (.tmp y),some d,none,false,false⟩
abbrev e (u:TypeId) (x d:Tmp):XO:=⟨.call ⟨.builtin .len,#[.tmp x],#[u]⟩,some d,none,false,false⟩
abbrev k (f:FuncId) (x:Array Operand) (y:Array TypeId):Op:= .call ⟨.value (.func f),x,y⟩
abbrev p (o:BinOp) (u:TypeId) (x y d:Tmp):XO:=⟨.binOp o u (.tmp x) (.tmp y) u,some d,none,false,false⟩
abbrev q (o:BinOp) (u:TypeId) (x:Tmp) (n:Int) (d:Tmp):XO:=⟨.binOp o u (.tmp x) (i n) u,some d,none,false,false⟩
abbrev P (o:BinOp) (u:TypeId) (x y d:Tmp):XO:=⟨.binOp o u (.tmp x) (.tmp y) u,some d,none,true,false⟩
abbrev Q (o:BinOp) (u:TypeId) (x:Tmp) (n:Int) (d:Tmp):XO:=⟨.binOp o u (.tmp x) (i n) u,some d,none,true,false⟩
abbrev p' (o:BinOp) (u:TypeId) (x y d g:Tmp) (w:Bool):XO:=⟨.binOp o u (.tmp x) (.tmp y) u,some d,some (some (g,w)),false,false⟩
abbrev q' (o:BinOp) (u:TypeId) (x:Tmp) (n:Int) (d g:Tmp) (w:Bool):XO:=⟨.binOp o u (.tmp x) (i n) u,some d,some (some (g,w)),false,false⟩
abbrev l' (u:TypeId) (x d g:Tmp) (w:Bool):XO:=⟨.load u (.tmp x),some d,some (some (g,w)),false,false⟩
abbrev f' (u:TypeId) (x:Tmp) (k:Nat) (d g:Tmp) (w:Bool):XO:=⟨.fieldAddr u (.tmp x) k,some d,some (some (g,w)),false,false⟩
abbrev m' (x d g:Tmp) (w:Bool):XO:=⟨.move (.tmp x),some d,some (some (g,w)),false,false⟩
abbrev L (u:TypeId) (x d:Tmp):XO:=⟨.load u (.tmp x),some d,none,true,false⟩
abbrev M (x d:Tmp):XO:=⟨.move (.tmp x),some d,none,true,false⟩
abbrev N (x d:Tmp):XO:=⟨.move (.tmp x),some d,none,true,true⟩
abbrev A (n:Int) (d:Tmp):XO:=⟨.assign (i n),some d,none,false,false⟩
abbrev J (n:Int) (d:Tmp):XO:=⟨.move (i n),some d,none,false,false⟩
abbrev S (d:Tmp):XO:=⟨.assign (.const (.string ⟨#[]⟩)),some d,none,false,false⟩
abbrev Z (d:Tmp):XO:=⟨.assign (.const (.slice none 0 0)),some d,none,false,false⟩
abbrev B (u:TypeId) (x d:Tmp):XO:=⟨.box u (.tmp x),some d,none,false,false⟩
abbrev E (x k:Tmp) (d:Tmp):XO:=⟨.extract (.tmp x) k,some d,none,true,false⟩
abbrev k1 (f:FuncId) (x:Tmp) (u:TypeId) (d:Tmp):XO:=⟨k f #[.tmp x] #[u],some d,none,false,false⟩
abbrev k2 (f:FuncId) (x y:Tmp) (u v:TypeId) (d:Tmp):XO:=⟨k f #[.tmp x,.tmp y] #[u,v],some d,none,false,false⟩
abbrev k3 (f:FuncId) (x y z:Tmp) (u v w:TypeId) (d:Tmp):XO:=⟨k f #[.tmp x,.tmp y,.tmp z] #[u,v,w],some d,none,false,false⟩
abbrev K1 (f:FuncId) (x:Tmp) (u:TypeId) (d:Tmp):XO:=⟨k f #[.tmp x] #[u],some d,none,true,false⟩
abbrev K2 (f:FuncId) (x y:Tmp) (u v:TypeId) (d:Tmp):XO:=⟨k f #[.tmp x,.tmp y] #[u,v],some d,none,true,false⟩
abbrev K3 (f:FuncId) (x y z:Tmp) (u v w:TypeId) (d:Tmp):XO:=⟨k f #[.tmp x,.tmp y,.tmp z] #[u,v,w],some d,none,true,false⟩
abbrev R (l:List XO) (x:XC):XC:= .seq (.reg l) x
abbrev u {p:Op} {d:Option Tmp}:XO:=⟨p,d,none,false,false⟩
abbrev v {p:Op} {d:Option Tmp}:XO:=⟨p,d,none,true,false⟩
abbrev x {p:Op} {d:Option Tmp}:XO:=⟨p,d,none,true,true⟩
abbrev y {p:Op} {d:Option Tmp} (t:Tmp):XO:=⟨p,d,some (some (t,true)),false,false⟩
abbrev z {p:Op} {d:Option Tmp} (t:Tmp):XO:=⟨p,d,some (some (t,false)),false,false⟩
abbrev I {c:Operand} {i:Nat}:XC:= .cond c .skip (.exit i)
abbrev T {c:Operand} (x:XC):XC:= .cond c x .skip
abbrev V {c:Operand} (x y:XC):XC:= .cond c x y
abbrev O {i:Nat} (x:XC):XC:= .block i x
abbrev U {i:Nat} (x:XC):XC:= .block i (.loop x)
abbrev X (x y:XC):XC:= .seq x y
abbrev r (l:List XO):XC:= .reg l
abbrev G (l:List XO):XC:= .regD l
abbrev F (l:List XO):XC:= .seq (.reg l) .ret
def xo2 (ops:List Oper):Oper->XO
 |{op:=p,dst:=d,guard:=g,..}=>⟨p,d,(match g with|none=>none|some (j,want)=>match (ops[j]?).bind (·.dst) with|some t=>some (some (t,want))|none=>some none),(match d with|some e=>takes ops e|none=>false),(match d with|some e=>WI ops e|none=>false)⟩
def cm:Code->XC
 | .skip=>.skip
 | .label _=>.skip
 | .region _ ops false=>.reg (ops.toList.map (xo2 ops.toList))
 | .region _ ops true=>.regD (ops.toList.map (xo2 ops.toList))
 | .seq x y=>.seq (cm x) (cm y)
 | .cond c x y=>.cond c (cm x) (cm y)
 | .block i c=>.block i (cm c)
 | .exit i=>.exit i
 | .ret=>.ret
 | .loop c=>.loop (cm c)
 | .scope c=>.scope (cm c)
 |_=>.bad
def pre:Code->List Code->List Code
 | .seq x y,r=>.seq x y::pre x (pre y r)
 | .cond c x y,r=>.cond c x y::pre x (pre y r)
 | .block i c,r=>.block i c::pre c r
 | .loop c,r=>.loop c::pre c r
 | .scope c,r=>.scope c::pre c r
 |c,r=>c::r
noncomputable def yy (f:Func) (k:Nat):XC:=cm (((f.body.map fun c=>pre c []).getD []).getD k .skip)
abbrev C (x:Tmp) (y z:XC):XC:= .cond (.tmp x) y z
end Go.Xs
end
section
namespace Go.Aw
open Go Go.RowKit Go.ChangeShapes Go.WideShapes
open Go.Proofs.YtgopigkdcmhbbaaGreatDoor
section
variable {P:Program}
theorem JD {W:World} {d:D} {v:Value} (h1:v.oneCell'=true) (h:RepV (fun _=>.imm) W d v):∀(j:Nat) (d':D) (v':Value),[d][j]?=some d'-> [v][j]?=some v'->v'.oneCell'=true∧RepV (fun _=>.imm) W d' v':=by
 intro j d' v' hd hv
 cases j with
 | zero=>
  simp only [Me,Option.some.injEq] at hd hv
  subst hd;subst hv
  exact ⟨h1,h⟩
 |succ j=>simp at hd
theorem YM {W:World} {b:Nat} {a:Addr} {n:Nat} {cs:List Value} (h:W.cells? b a n=some cs):cs.length=n∧∀j v,cs[j]?=some v->W.cell? (a.add j)=some v:=by
 unfold World.cells? at h
 split at h
 ·have hl:cs.length=n:=by simpa using mapM_some_length h
  refine ⟨hl,fun j v hj=>?_⟩
  have hlt:j<n:=by rw [<-hl];exact (List.getElem?_eq_some_iff.1 hj).1
  rw [mapM_some_get h j j (by simp [hlt]),hj]
 ·cases h
theorem Zj {W:World} {a:Addr} {v:Value} (h:W.cell? a=some v):a.spot=none∧a.block<W.heap.size:=by
 unfold World.cell? at h
 split at h
 ·rename_i c _ _ he
  split at h
  ·cases h
  ·rename_i hs
   refine ⟨by cases hq:a.spot with|none=>rfl|some z=>rw [hq] at hs;exact (hs rfl).elim,?_⟩
   rcases Ms a.block W.heap.size with h'|h'
   ·exact h'
   ·rw [Array.getElem?_eq_none h'] at he
    cases he
 ·cases h
theorem J7 {α β:Type} {R:Nat->α->β->Prop}:∀(xs:List α) (k:Nat),(∀i x,xs[i]?=some x->∃y,R (k+i) x y)->∃ys:List β,ys.length=xs.length∧∀i x y,xs[i]?=some x->ys[i]?=some y->R (k+i) x y
 | [],k,_=>⟨[],rfl,fun i x y h=>by simp at h⟩
 | x::xs,k,h=>by
  obtain ⟨y,hy⟩:=h 0 x rfl
  obtain ⟨ys,h1,h2⟩:=J7 xs (k+1) (R:=R) (fun i x' hx=>by
   obtain ⟨y',hy'⟩:=h (i+1) x' (by simpa using hx)
   exact ⟨y',by rw [show k+1+i=k+(i+1) by omega];exact hy'⟩)
  refine ⟨y::ys,by simp [h1],fun i x' y' hx hy'=>?_⟩
  cases i with
  | zero=>
   simp only [Me,Option.some.injEq] at hx hy'
   subst hx;subst hy'
   exact hy
  | succ i=>
   have:=h2 i x' y' (by simpa using hx) (by simpa using hy')
   rw [show k+(i+1)=k+1+i by omega]
   exact this
def nO (P:Program) (t:TypeId):Bool:=match P.underlying t with|some (.struct _)|some (.array _ _)=>true|_=>false
theorem WA {W W':World} (h:Go.RowKit.Below W.heap.size W W') {b off:Nat} (hb:b<W.heap.size):W'.frozen? ⟨b,off,none⟩=W.frozen? ⟨b,off,none⟩:=by
 simp only [World.frozen?,h.block b hb]
theorem Zv {W W':World} (h:Go.RowKit.Below W.heap.size W W') {p:MemPlace} (hp:p.block<W.heap.size):W.sameAt W' p:=by
 cases p with
 |cell b off=>exact j5 (h.block b hp) off
 |map b=>exact h.block b hp
theorem ZJ {W W':World} (h:Go.RowKit.Below W.heap.size W W') (may:MemPlace->Prop):W.keptBut W' may:=by
 refine ⟨h.os,h.output,fun i hi=>?_⟩
 rw [h.block i hi]
 cases W.heap[i]? with
 |none=>rfl
 |some o=>cases o<;>simp
theorem zQ {H:Type} {enc:TypeId×Value->H} {W W':World} (h:Go.RowKit.Below W.heap.size W W') {base:Nat} {sp:Nat->Bool} {held:Bool}:∀{ts:List TypeId} {vs:List Value} {ds:List (DataW H)} {ps:List MemPlace},
  DataW.TrodAll enc P W base sp held ts vs ds ps->(∀p∈ps,p.block<W.heap.size)->DataW.TrodAll enc P W' base sp held ts vs ds ps
 | [],[],[],_,hA,_=>hA
 |_::_,_::_,_::_,_,⟨p,q,⟨fuel,h1⟩,h2,e⟩,hp=>⟨p,q,⟨fuel,DataW.trod_carry _ _ _ _ h1 (fun x hx=>Zv h (hp x (by rw [e];exact List.mem_append_left _ hx)))⟩,zQ h h2 (fun x hx=>hp x (by rw [e];exact List.mem_append_right _ hx)),e⟩
theorem aB {f:Func} {s:ChangeSpec} {apart fresh handsOn again:Bool} {W W':World} {args:Array Value} {H:Type} {enc:TypeId×Value->H} {ds gs:List (DataW H)} {before:List MemPlace} {t:TypeId} {T:TypeId->Prop}
  (K:Kids P T) (hz:∀t e,T t->P.underlying t=some (.slice e)->0<P.cellsOf e) (hT:∀t∈f.params.toList,T t)
  (hW:DataW.Whole enc P f.params.toList s.vars apart W args.toList ds gs before) (hv:s.vars= [])
  (hb:Go.RowKit.Below W.heap.size W W') (hr:f.resultTypes=#[t]) (ht:P.underlying t=some .bool)
  (hs:s.fn H (ds++gs)={results:= [.lit (.bool true)],args:=ds}):
  s.post enc P f apart fresh handsOn again W args (.bool true) W':=by
 have hW':=hW
 have hlt:=hW.lt
 obtain ⟨p,q,hA,hV,rfl,hfz,hnd⟩:=hW
 rw [hv] at hV
 obtain ⟨rfl,rfl⟩:=trodVars_none hV
 simp only [Mv] at hlt hfz hnd hW' hs
 have hA':=zQ hb hA hlt
 have hres:∀(b:Nat) (sp:Nat->Bool) (hd:Bool),DataW.TrodAll enc P W' b sp hd f.resultTypes.toList ((Value.bool true).resultList f.resultTypes.size) [.lit (.bool true)] []:=fun b sp hd=>by
  rw [hr]
  exact trodAll_cons_mk (shut_bool ht true) trodAll_mk0
 refine ⟨ds,[],p,[],p,[],hW',?_,?_,?_,ZJ hb _,fun _=>⟨?_,[.lit (.bool true)]++ds,[],p,⟨[]++p,[],?_,?_,by simp,?_,?_⟩,fun p hp _=>hp⟩⟩
 ·rw [Mv,hs];exact hres _ _ _
 ·rw [Mv,hs];exact DataW.TrodAll.respare K hz hT hA' (fun x hx=>by simpa using hlt x hx)
 ·rw [Mv,hs,hv];rfl
 ·exact ok_one hr rfl (okWide_bool_mk ht true)
 ·exact trodAll_append hA' (hres _ _ _)
 ·rw [hv];rfl
 ·intro b off hp
  rw [WA hb (b:=b) (off:=off) (hlt _ hp)]
  exact hfz b off hp
 ·exact hnd
end
end Go.Aw
end
noncomputable section
namespace Go.Proofs.YtgopigkdcmhbbaaGreatDoor
open Go.Xs
open Go Go.Aw
theorem hm:Tryz.prog.follows .mixedOrders=true:=by kernel_rfl
theorem hmm:Tryz.prog.follows .mixedOrders=true:=by kernel_rfl
def Bt (f:FuncId) (n:Nat) (x:XC) (rs:List ResultVar):Prop:=∀{args:List D} {H:AH} {R:D->AH->Prop},(facts args->xcode Tryz.prog x (args++List.replicate (n - args.length) (.tup [])) H (jV Tryz.prog rs H.length R))->ACall Tryz.prog f args H R
theorem bt {f:FuncId} {fn:Func} {c:Code} {x:XC} {n:Nat} {rs:List ResultVar} (hf:(Tryz.prog).funcs[f]?=some fn) (hb:fn.body=some c) (hk:(KI fn&&Qn Tryz.prog f&&o7 x c&&decide (fn.ntmps=n))=true:=by kernel_rfl) (hx:cmp c=er x:=by kernel_rfl) (hr:fn.results.toList=rs:=by kernel_rfl):Bt f n x rs:=by
 simp only [Mi,decide_eq_true_eq] at hk
 exact fun h=>Zw hm hf hb hk.1.1.1 hk.1.1.2 hx hk.1.2 hk.2 hr h
theorem TYX:KZ Tryz.prog 22 22=(some (3,(1,8)))∧KZ Tryz.prog 23 23=(some (64,(2,16)))∧KZ Tryz.prog 24 24=(some (71,(13,136)))∧KZ Tryz.prog 31 31=(some (9,(1,16)))∧KZ Tryz.prog 55 9=(some (5,(1,1)))∧KZ Tryz.prog 55 55=(some (5,(1,1)))∧KZ Tryz.prog 67 67=(some (66,(3,24)))∧KZ Tryz.prog 72 72=(some (26,(6,88)))∧KZ Tryz.prog 102 102=(some (158,(1,24)))∧KZ Tryz.prog 109 109=(some (33,(16,16)))∧KZ Tryz.prog 110 110=(some (109,(1,24)))∧Kd Tryz.prog 33=(some (16,1))∧Kd Tryz.prog 136=(some (2,1))∧Kd Tryz.prog 155=(some (68,1))∧Kd Tryz.prog 177=(some (32,1))∧Kd Tryz.prog 180=(some (8,1))∧Kd Tryz.prog 181=(some (64,1))∧Kd Tryz.prog 203=(some (64,1))∧Kd Tryz.prog 207=(some (4,1))∧jP Tryz.prog 26 0=(some (0,(false,1)))∧jP Tryz.prog 26 1=(some (1,(false,1)))∧jP Tryz.prog 26 2=(some (2,(false,1)))∧jP Tryz.prog 26 4=(some (4,(false,1)))∧jP Tryz.prog 35 0=(some (0,(true,16)))∧jP Tryz.prog 35 1=(some (16,(false,1)))∧jP Tryz.prog 40 0=(some (0,(false,1)))∧jP Tryz.prog 40 1=(some (1,(false,1)))∧jP Tryz.prog 64 0=(some (0,(false,1)))∧jP Tryz.prog 64 1=(some (1,(false,1)))∧jP Tryz.prog 66 0=(some (0,(false,1)))∧jP Tryz.prog 66 1=(some (1,(false,1)))∧jP Tryz.prog 66 2=(some (2,(false,1)))∧jP Tryz.prog 69 0=(some (0,(false,1)))∧jP Tryz.prog 69 1=(some (1,(false,1)))∧jP Tryz.prog 71 0=(some (0,(false,1)))∧jP Tryz.prog 71 1=(some (1,(true,3)))∧jP Tryz.prog 71 2=(some (4,(true,3)))∧jP Tryz.prog 71 3=(some (7,(false,1)))∧jP Tryz.prog 71 4=(some (8,(false,1)))∧jP Tryz.prog 71 5=(some (9,(false,1)))∧jP Tryz.prog 71 6=(some (10,(false,1)))∧jP Tryz.prog 71 7=(some (11,(true,2)))∧jP Tryz.prog 124 0=(some (0,(false,1)))∧jP Tryz.prog 136 0=(some (0,(false,1)))∧jP Tryz.prog 136 1=(some (1,(false,1)))∧jP Tryz.prog 139 0=(some (0,(false,1)))∧jP Tryz.prog 145 0=(some (0,(false,1)))∧jP Tryz.prog 145 2=(some (2,(false,1)))∧jP Tryz.prog 145 3=(some (3,(false,1)))∧jP Tryz.prog 145 4=(some (4,(false,1)))∧jP Tryz.prog 180 0=(some (0,(false,1)))∧jP Tryz.prog 180 1=(some (1,(false,1)))∧jP Tryz.prog 180 2=(some (2,(false,1)))∧jP Tryz.prog 180 3=(some (3,(false,1)))∧jP Tryz.prog 180 4=(some (4,(false,1)))∧jP Tryz.prog 180 5=(some (5,(false,1)))∧jP Tryz.prog 180 6=(some (6,(false,1)))∧jP Tryz.prog 180 7=(some (7,(false,1)))∧jP Tryz.prog 183 0=(some (0,(true,8)))∧jP Tryz.prog 207 0=(some (0,(false,1)))∧jP Tryz.prog 207 1=(some (1,(false,1)))∧jP Tryz.prog 207 2=(some (2,(false,1)))∧jP Tryz.prog 207 3=(some (3,(false,1)))∧Ae Tryz.prog 203=(some false)∧mS Tryz.prog 35=(some [.i,.i,.i,.i,.i,.i,.i,.i,.i,.i,.i,.i,.i,.i,.i,.i,.i])∧mS Tryz.prog 64=(some [.i,.i])∧mS Tryz.prog 66=(some [.i,.i,.i])∧mS Tryz.prog 69=(some [.i,.i])∧jX Tryz.prog 26 0=(some (0,(false,1)))∧jX Tryz.prog 26 1=(some (1,(false,1)))∧jX Tryz.prog 26 2=(some (2,(false,1)))∧jX Tryz.prog 26 3=(some (3,(false,1)))∧jX Tryz.prog 26 4=(some (4,(false,1)))∧jX Tryz.prog 26 5=(some (5,(false,1)))∧jX Tryz.prog 40 0=(some (0,(false,1)))∧jX Tryz.prog 40 1=(some (1,(false,1)))∧jX Tryz.prog 64 0=(some (0,(false,1)))∧jX Tryz.prog 64 1=(some (1,(false,1)))∧jX Tryz.prog 66 0=(some (0,(false,1)))∧jX Tryz.prog 66 1=(some (1,(false,1)))∧jX Tryz.prog 66 2=(some (2,(false,1)))∧jX Tryz.prog 69 0=(some (0,(false,1)))∧jX Tryz.prog 69 1=(some (1,(false,1)))∧jX Tryz.prog 71 0=(some (0,(false,1)))∧jX Tryz.prog 71 1=(some (1,(true,3)))∧jX Tryz.prog 71 2=(some (4,(true,3)))∧jX Tryz.prog 71 3=(some (7,(false,1)))∧jX Tryz.prog 71 4=(some (8,(false,1)))∧jX Tryz.prog 71 5=(some (9,(false,1)))∧jX Tryz.prog 71 6=(some (10,(false,1)))∧jX Tryz.prog 71 7=(some (11,(true,2)))∧jX Tryz.prog 104 0=(some (0,(false,1)))∧jX Tryz.prog 104 1=(some (1,(false,1)))∧jX Tryz.prog 124 0=(some (0,(false,1)))∧jX Tryz.prog 124 1=(some (1,(false,1)))∧jX Tryz.prog 139 0=(some (0,(false,1)))∧jX Tryz.prog 145 0=(some (0,(false,1)))∧jX Tryz.prog 145 1=(some (1,(false,1)))∧jX Tryz.prog 145 2=(some (2,(false,1)))∧jX Tryz.prog 145 3=(some (3,(false,1)))∧jX Tryz.prog 145 4=(some (4,(false,1)))∧jX Tryz.prog 145 5=(some (5,(false,1)))∧jX Tryz.prog 145 6=(some (6,(false,1)))∧jX Tryz.prog 145 7=(some (7,(true,2)))∧jX Tryz.prog 183 0=(some (0,(true,8)))∧jX Tryz.prog 183 1=(some (8,(true,64)))∧jX Tryz.prog 183 2=(some (72,(false,1)))∧jT Tryz.prog 26=true∧jT Tryz.prog 33=true∧jT Tryz.prog 35=true∧jT Tryz.prog 40=true∧jT Tryz.prog 64=true∧jT Tryz.prog 66=true∧jT Tryz.prog 69=true∧jT Tryz.prog 71=true∧jT Tryz.prog 104=true∧jT Tryz.prog 124=true∧jT Tryz.prog 136=true∧jT Tryz.prog 139=true∧jT Tryz.prog 145=true∧jT Tryz.prog 180=true∧jT Tryz.prog 183=true∧jT Tryz.prog 207=true∧Ya Tryz.prog 3=(some .i64)∧Ya Tryz.prog 5=(some .u8)∧Ya Tryz.prog 153=(some .u64)∧Ya Tryz.prog 154=(some .u64)∧Ya Tryz.prog 179=(some .u32)∧Q0 Tryz.prog 4=true∧yF Tryz.prog 55=true∧kv Tryz.prog 9=true∧kv Tryz.prog 55=false∧gv Tryz.prog 3=true∧gv Tryz.prog 5=true∧gv Tryz.prog 153=true∧gv Tryz.prog 179=true∧cj Tryz.prog 134=(some (true,([.i,.i],(.agg [(.int .u8 0),(.int .u8 0),(.int .u8 0),(.int .u8 0),(.int .u8 0),(.int .u8 0),(.int .u8 0),(.int .u8 0),(.int .u8 0),(.int .u8 0),(.int .u8 0),(.int .u8 0),(.int .u8 0),(.int .u8 0),(.int .u8 0),(.int .u8 0)]))))∧ya Tryz.prog 22=(some (3,1))∧ya Tryz.prog 23=(some (64,2))∧ya Tryz.prog 24=(some (71,13))∧ya Tryz.prog 31=(some (9,1))∧ya Tryz.prog 55=(some (5,1))∧ya Tryz.prog 67=(some (66,3))∧ya Tryz.prog 72=(some (26,6))∧ya Tryz.prog 102=(some (158,1))∧ya Tryz.prog 109=(some (33,16))∧ya Tryz.prog 110=(some (109,1))∧ya Tryz.prog 158=(some (4,1))∧yq Tryz.prog 3=(some (false,1))∧yq Tryz.prog 4=(some (false,1))∧yq Tryz.prog 5=(some (false,1))∧yq Tryz.prog 9=(some (false,1))∧yq Tryz.prog 22=(some (false,1))∧yq Tryz.prog 23=(some (false,1))∧yq Tryz.prog 24=(some (false,1))∧yq Tryz.prog 26=(some (true,6))∧yq Tryz.prog 33=(some (true,16))∧yq Tryz.prog 35=(some (true,17))∧yq Tryz.prog 40=(some (true,2))∧yq Tryz.prog 55=(some (false,1))∧yq Tryz.prog 64=(some (true,2))∧yq Tryz.prog 66=(some (true,3))∧yq Tryz.prog 67=(some (false,1))∧yq Tryz.prog 69=(some (true,2))∧yq Tryz.prog 71=(some (true,13))∧yq Tryz.prog 72=(some (false,1))∧yq Tryz.prog 85=(some (false,1))∧yq Tryz.prog 102=(some (false,1))∧yq Tryz.prog 104=(some (true,2))∧yq Tryz.prog 109=(some (false,1))∧yq Tryz.prog 134=(some (false,1))∧yq Tryz.prog 136=(some (true,2))∧yq Tryz.prog 139=(some (true,1))∧yq Tryz.prog 145=(some (true,9))∧yq Tryz.prog 153=(some (false,1))∧yq Tryz.prog 158=(some (false,1))∧yq Tryz.prog 177=(some (true,32))∧yq Tryz.prog 179=(some (false,1))∧yq Tryz.prog 180=(some (true,8))∧yq Tryz.prog 183=(some (true,73))∧yq Tryz.prog 203=(some (true,64))∧yq Tryz.prog 207=(some (true,4))∧yD Tryz.prog 3=(some [(.int .i64 0)])∧yD Tryz.prog 26=(some [(.int .i64 0),(.int .i64 0),(.int .i64 0),(.own []),(.own []),(.str [])])∧yD Tryz.prog 33=(some [(.int .u8 0),(.int .u8 0),(.int .u8 0),(.int .u8 0),(.int .u8 0),(.int .u8 0),(.int .u8 0),(.int .u8 0),(.int .u8 0),(.int .u8 0),(.int .u8 0),(.int .u8 0),(.int .u8 0),(.int .u8 0),(.int .u8 0),(.int .u8 0)])∧yD Tryz.prog 35=(some [(.int .u8 0),(.int .u8 0),(.int .u8 0),(.int .u8 0),(.int .u8 0),(.int .u8 0),(.int .u8 0),(.int .u8 0),(.int .u8 0),(.int .u8 0),(.int .u8 0),(.int .u8 0),(.int .u8 0),(.int .u8 0),(.int .u8 0),(.int .u8 0),(.int .i64 0)])∧yD Tryz.prog 40=(some [(.str []),(.int .i64 0)])∧yD Tryz.prog 64=(some [(.int .i64 0),(.int .i64 0)])∧yD Tryz.prog 66=(some [(.int .i64 0),(.int .i64 0),(.int .i64 0)])∧yD Tryz.prog 69=(some [(.int .i64 0),(.int .i64 0)])∧yD Tryz.prog 71=(some [(.int .i64 0),(.int .i64 0),(.int .i64 0),(.int .i64 0),(.int .i64 0),(.int .i64 0),(.int .i64 0),(.own []),(.int .i64 0),(.str []),(.str []),(.int .i64 0),(.int .i64 0)])∧yD Tryz.prog 85=(some [.nilfn])∧yD Tryz.prog 104=(some [(.own []),(.own [])])∧yD Tryz.prog 124=(some [(.own []),(.bool false)])∧yD Tryz.prog 134=(some [(.mp none)])∧yD Tryz.prog 136=(some [(.int .i64 0),(.int .i64 0)])∧yD Tryz.prog 139=(some [(.own [])])∧yD Tryz.prog 145=(some [(.bool false),(.bool false),(.bool false),(.bool false),(.bool false),(.int .i64 0),(.int .i64 0),(.int .i64 0),(.int .i64 0)])∧yD Tryz.prog 155=(some [(.int .i64 0),(.int .i64 0),(.int .i64 0),(.int .i64 0),(.int .i64 0),(.int .i64 0),(.int .i64 0),(.int .i64 0),(.int .i64 0),(.int .i64 0),(.int .i64 0),(.int .i64 0),(.int .i64 0),(.int .i64 0),(.int .i64 0),(.int .i64 0),(.int .i64 0),(.int .i64 0),(.int .i64 0),(.int .i64 0),(.int .i64 0),(.int .i64 0),(.int .i64 0),(.int .i64 0),(.int .i64 0),(.int .i64 0),(.int .i64 0),(.int .i64 0),(.int .i64 0),(.int .i64 0),(.int .i64 0),(.int .i64 0),(.int .i64 0),(.int .i64 0),(.int .i64 0),(.int .i64 0),(.int .i64 0),(.int .i64 0),(.int .i64 0),(.int .i64 0),(.int .i64 0),(.int .i64 0),(.int .i64 0),(.int .i64 0),(.int .i64 0),(.int .i64 0),(.int .i64 0),(.int .i64 0),(.int .i64 0),(.int .i64 0),(.int .i64 0),(.int .i64 0),(.int .i64 0),(.int .i64 0),(.int .i64 0),(.int .i64 0),(.int .i64 0),(.int .i64 0),(.int .i64 0),(.int .i64 0),(.int .i64 0),(.int .i64 0),(.int .i64 0),(.int .i64 0),(.int .i64 0),(.int .i64 0),(.int .i64 0),(.int .i64 0)])∧yD Tryz.prog 177=(some [(.int .u8 0),(.int .u8 0),(.int .u8 0),(.int .u8 0),(.int .u8 0),(.int .u8 0),(.int .u8 0),(.int .u8 0),(.int .u8 0),(.int .u8 0),(.int .u8 0),(.int .u8 0),(.int .u8 0),(.int .u8 0),(.int .u8 0),(.int .u8 0),(.int .u8 0),(.int .u8 0),(.int .u8 0),(.int .u8 0),(.int .u8 0),(.int .u8 0),(.int .u8 0),(.int .u8 0),(.int .u8 0),(.int .u8 0),(.int .u8 0),(.int .u8 0),(.int .u8 0),(.int .u8 0),(.int .u8 0),(.int .u8 0)])∧yD Tryz.prog 180=(some [(.int .u32 0),(.int .u32 0),(.int .u32 0),(.int .u32 0),(.int .u32 0),(.int .u32 0),(.int .u32 0),(.int .u32 0)])∧yD Tryz.prog 181=(some [(.int .u8 0),(.int .u8 0),(.int .u8 0),(.int .u8 0),(.int .u8 0),(.int .u8 0),(.int .u8 0),(.int .u8 0),(.int .u8 0),(.int .u8 0),(.int .u8 0),(.int .u8 0),(.int .u8 0),(.int .u8 0),(.int .u8 0),(.int .u8 0),(.int .u8 0),(.int .u8 0),(.int .u8 0),(.int .u8 0),(.int .u8 0),(.int .u8 0),(.int .u8 0),(.int .u8 0),(.int .u8 0),(.int .u8 0),(.int .u8 0),(.int .u8 0),(.int .u8 0),(.int .u8 0),(.int .u8 0),(.int .u8 0),(.int .u8 0),(.int .u8 0),(.int .u8 0),(.int .u8 0),(.int .u8 0),(.int .u8 0),(.int .u8 0),(.int .u8 0),(.int .u8 0),(.int .u8 0),(.int .u8 0),(.int .u8 0),(.int .u8 0),(.int .u8 0),(.int .u8 0),(.int .u8 0),(.int .u8 0),(.int .u8 0),(.int .u8 0),(.int .u8 0),(.int .u8 0),(.int .u8 0),(.int .u8 0),(.int .u8 0),(.int .u8 0),(.int .u8 0),(.int .u8 0),(.int .u8 0),(.int .u8 0),(.int .u8 0),(.int .u8 0),(.int .u8 0)])∧yD Tryz.prog 183=(some [(.int .u32 0),(.int .u32 0),(.int .u32 0),(.int .u32 0),(.int .u32 0),(.int .u32 0),(.int .u32 0),(.int .u32 0),(.int .u8 0),(.int .u8 0),(.int .u8 0),(.int .u8 0),(.int .u8 0),(.int .u8 0),(.int .u8 0),(.int .u8 0),(.int .u8 0),(.int .u8 0),(.int .u8 0),(.int .u8 0),(.int .u8 0),(.int .u8 0),(.int .u8 0),(.int .u8 0),(.int .u8 0),(.int .u8 0),(.int .u8 0),(.int .u8 0),(.int .u8 0),(.int .u8 0),(.int .u8 0),(.int .u8 0),(.int .u8 0),(.int .u8 0),(.int .u8 0),(.int .u8 0),(.int .u8 0),(.int .u8 0),(.int .u8 0),(.int .u8 0),(.int .u8 0),(.int .u8 0),(.int .u8 0),(.int .u8 0),(.int .u8 0),(.int .u8 0),(.int .u8 0),(.int .u8 0),(.int .u8 0),(.int .u8 0),(.int .u8 0),(.int .u8 0),(.int .u8 0),(.int .u8 0),(.int .u8 0),(.int .u8 0),(.int .u8 0),(.int .u8 0),(.int .u8 0),(.int .u8 0),(.int .u8 0),(.int .u8 0),(.int .u8 0),(.int .u8 0),(.int .u8 0),(.int .u8 0),(.int .u8 0),(.int .u8 0),(.int .u8 0),(.int .u8 0),(.int .u8 0),(.int .u8 0),(.int .u64 0)])∧yD Tryz.prog 203=(some [(.int .u32 0),(.int .u32 0),(.int .u32 0),(.int .u32 0),(.int .u32 0),(.int .u32 0),(.int .u32 0),(.int .u32 0),(.int .u32 0),(.int .u32 0),(.int .u32 0),(.int .u32 0),(.int .u32 0),(.int .u32 0),(.int .u32 0),(.int .u32 0),(.int .u32 0),(.int .u32 0),(.int .u32 0),(.int .u32 0),(.int .u32 0),(.int .u32 0),(.int .u32 0),(.int .u32 0),(.int .u32 0),(.int .u32 0),(.int .u32 0),(.int .u32 0),(.int .u32 0),(.int .u32 0),(.int .u32 0),(.int .u32 0),(.int .u32 0),(.int .u32 0),(.int .u32 0),(.int .u32 0),(.int .u32 0),(.int .u32 0),(.int .u32 0),(.int .u32 0),(.int .u32 0),(.int .u32 0),(.int .u32 0),(.int .u32 0),(.int .u32 0),(.int .u32 0),(.int .u32 0),(.int .u32 0),(.int .u32 0),(.int .u32 0),(.int .u32 0),(.int .u32 0),(.int .u32 0),(.int .u32 0),(.int .u32 0),(.int .u32 0),(.int .u32 0),(.int .u32 0),(.int .u32 0),(.int .u32 0),(.int .u32 0),(.int .u32 0),(.int .u32 0),(.int .u32 0)])∧yD Tryz.prog 207=(some [(.int .u32 0),(.int .u32 0),(.int .u32 0),(.int .u32 0)])∧yD Tryz.prog 4=(some [(.bool false)])∧yD Tryz.prog 5=(some [(.int .u8 0)])∧yD Tryz.prog 9=(some [(.str [])])∧yD Tryz.prog 109=(some [(.own [])])∧yD Tryz.prog 158=(some [(.own [])]):=by
 repeat' apply And.intro
 all_goals kernel_rfl
theorem qh:type_of% (And.intro @qo @TYX):=And.intro @qo @TYX
theorem unf {c d:XC} (h:c=d) {F:List D} {H:AH} {Q:AQ}:xcode Tryz.prog c F H Q=xcode Tryz.prog d F H Q:=h▸ .trans rfl rfl
theorem aI {a b:Prop} (h:a) (k:b):a∧b:=⟨h,k⟩
noncomputable def xv:=yy Tryz.f16
def V16:=PLift.up (aI (@unf (xv 5) (T (r [u,u,v,u])) rfl) (aI (@unf (xv 8) (F [u,u,v,u]) rfl) (@unf (xv 0) (R [u] (X (R [u,u] (xv 5)) (xv 8))) rfl)))
theorem U16:type_of% V16.down:=V16.down
theorem b16:Bt 16 13 (xv 0) [(.tmp 4)]:=bt Tryz.func16 rfl
noncomputable def xy:=yy Tryz.f57
def V57:=PLift.up (aI (@unf (xy 10) (F [u,u,u,u,u,v,u]) rfl) (aI (@unf (xy 2) (X (R [u,u,u,z 9,z 9,z 9,z 9,u] (T (F [u]))) (xy 10)) rfl) (@unf (xy 0) (R [u] (xy 2)) rfl)))
theorem D3:type_of% V57.down:=V57.down
theorem b57:Bt 57 21 (xy 0) [(.tmp 6)]:=bt Tryz.func57 rfl
def x59_s0:XC:=(R [m 0 5,m 1 6,m 0 7,e 22 7 8,a (.call ⟨(.builtin .min),#[t 6,t 8],#[3,3]⟩) 9,b (.slice 22 (t 5) (.some (t 9)) .none .none) 10,n 10 4] .ret)
theorem nV:type_of% (@unf _ _ x59_s0.eq_1):=unf x59_s0.eq_1
def x59:XC:=(R [Z 4] x59_s0)
theorem b59:Bt 59 11 x59 [(.tmp 4)]:=bt Tryz.func59 rfl
noncomputable def oa:=yy Tryz.f143
def V143:=PLift.up (aI (aI (aI (@unf (oa 24) (r [u,v,u]) rfl) (@unf (oa 21) (X (O (G [u,u,u,u,u,u,u,u,u,u,u,u,u,u,u,u,u,u,v,u])) (oa 24)) rfl)) (aI (@unf (oa 15) (X (R [u,u,u] I) (oa 21)) rfl) (@unf (oa 25) (X (R [u,u,u] (T (F [u]))) (F [v,u])) rfl))) (aI (aI (@unf (oa 8) (R [u,v,u] (X (R [u] (U (oa 15))) (oa 25))) rfl) (@unf (oa 6) (R [u,u,u,u,u,u,v,u] (oa 8)) rfl)) (aI (@unf (oa 4) (R [x,u,v,u] (oa 6)) rfl) (aI (@unf (oa 2) (R [x,u,v,u] (oa 4)) rfl) (@unf (oa 0) (R [u] (oa 2)) rfl)))))
theorem Uc:type_of% V143.down:=V143.down
theorem E5:Bt 143 50 (oa 0) [(.tmp 2)]:=bt Tryz.func143 rfl
noncomputable def mn:=yy Tryz.f147
def V147:=PLift.up (aI (@unf (mn 2) (F [v,u]) rfl) (@unf (mn 0) (R [u] (mn 2)) rfl))
theorem U147:type_of% V147.down:=V147.down
theorem IY:Bt 147 2 (mn 0) [(.tmp 0)]:=bt Tryz.func147 rfl
noncomputable def io:=yy Tryz.f127
def V127:=PLift.up (aI (@unf (io 2) (F [v,u]) rfl) (@unf (io 0) (R [u] (io 2)) rfl))
theorem U127:type_of% V127.down:=V127.down
theorem Es:Bt 127 2 (io 0) [(.tmp 0)]:=bt Tryz.func127 rfl
noncomputable def av:=yy Tryz.f126
def V126:=PLift.up (aI (@unf (av 6) (R [x,u,u,v,u,u] (F [v,u])) rfl) (aI (@unf (av 4) (R [x,u,u,v,u] (av 6)) rfl) (@unf (av 0) (R [u,u,u] (R [u] (av 4))) rfl)))
theorem Bp:type_of% V126.down:=V126.down
theorem IN:Bt 126 16 (av 0) [(.cell 4 26)]:=bt Tryz.func126 rfl
noncomputable def Jj:=yy Tryz.f128
def V128:=PLift.up (aI (aI (@unf (Jj 12) (r [u,u,u,v,u]) rfl) (aI (@unf (Jj 8) (X (R [u,u,u] (T (Jj 12))) (F [v,u])) rfl) (@unf (Jj 6) (X (G [u,u,u,u,u,u,v,u]) (Jj 8)) rfl))) (aI (@unf (Jj 4) (X (G [u,u,u,u,u,v,u]) (Jj 6)) rfl) (aI (@unf (Jj 2) (R [u,u,u,u,u,u,u,v,u,u] (Jj 4)) rfl) (@unf (Jj 0) (R [u,u,u] (Jj 2)) rfl))))
theorem d7:type_of% V128.down:=V128.down
theorem EC:Bt 128 37 (Jj 0) [(.cell 6 26)]:=bt Tryz.func128 rfl
noncomputable def wH:=yy Tryz.f125
def V125:=PLift.up (aI (aI (aI (@unf (wH 32) (G [x,u,u,u,u,u,u,u,u,u,u,u,u,u,u,u,v,u]) rfl) (aI (@unf (wH 34) (r [u,v,u]) rfl) (@unf (wH 27) (X (O (R [u,u,u,u,u,y 35,y 35,y 35,y 35,y 35,y 35,y 35,y 35,y 35,y 35,y 35,y 35,u] (T (wH 32)))) (wH 34)) rfl))) (aI (@unf (wH 21) (X (R [u,u,u,u,u,u,u,u,u] I) (wH 27)) rfl) (aI (@unf (wH 35) (r [u,v,u]) rfl) (@unf (wH 9) (X (R [u,u,u,u,u] I) (X (O (R [u] (U (wH 21)))) (wH 35))) rfl)))) (aI (aI (@unf (wH 52) (r [x,u,u,u,u,u,u,u,v,u]) rfl) (aI (@unf (wH 54) (r [u,v,u]) rfl) (@unf (wH 47) (X (O (R [u,u,u,u,u,u,u,u] (T (wH 52)))) (wH 54)) rfl))) (aI (aI (@unf (wH 41) (X (R [u,u,u,u,u] I) (wH 47)) rfl) (@unf (wH 36) (X (R [u] (U (wH 41))) (F [v,u])) rfl)) (aI (@unf (wH 2) (R [u] (X (R [u] (U (wH 9))) (wH 36))) rfl) (@unf (wH 0) (R [u,u,u] (wH 2)) rfl)))))
theorem Kf:type_of% V125.down:=V125.down
theorem HS:Bt 125 91 (wH 0) [(.tmp 8)]:=bt Tryz.func125 rfl
noncomputable def wL:=yy Tryz.f131
def V131:=PLift.up (aI (aI (aI (@unf (wL 32) (r [x,u,u,u,u,u,u,u,u,u,u,v,u]) rfl) (aI (@unf (wL 34) (r [u,v,u]) rfl) (@unf (wL 27) (X (O (R [u,u,u,u,u,y 33,y 33,y 33,y 33,y 33,y 33,y 33,y 33,y 33,y 33,y 33,u] (T (wL 32)))) (wL 34)) rfl))) (aI (@unf (wL 21) (X (R [u,u,u,u,u,u,u,u,u] I) (wL 27)) rfl) (aI (@unf (wL 35) (r [u,v,u]) rfl) (@unf (wL 9) (X (R [u,u,u,u,u] I) (X (O (R [u] (U (wL 21)))) (wL 35))) rfl)))) (aI (aI (@unf (wL 52) (r [x,u,u,u,u,u,u,v,u]) rfl) (aI (@unf (wL 54) (r [u,v,u]) rfl) (@unf (wL 47) (X (O (R [u,u,u,u,u,u,u] (T (wL 52)))) (wL 54)) rfl))) (aI (aI (@unf (wL 41) (X (R [u,u,u,u,u] I) (wL 47)) rfl) (@unf (wL 36) (X (R [u] (U (wL 41))) (F [v,u])) rfl)) (aI (@unf (wL 2) (R [u] (X (R [u] (U (wL 9))) (wL 36))) rfl) (@unf (wL 0) (R [u,u,u] (wL 2)) rfl)))))
theorem KN:type_of% V131.down:=V131.down
theorem Eh:Bt 131 81 (wL 0) [(.tmp 6)]:=bt Tryz.func131 rfl
noncomputable def zE:=yy Tryz.f129
def V129:=PLift.up (aI (aI (aI (@unf (zE 12) (G [u,u,u,u,u,u,u,u,u,u,u,u,u,u,v,u]) rfl) (@unf (zE 10) (R [u,u,u,v,u] (zE 12)) rfl)) (aI (@unf (zE 13) (r [u,u,u,u,u,u,v,u]) rfl) (@unf (zE 14) (X (G [u,u,u,u,u,u,u,u,u,u,v,u]) .ret) rfl))) (aI (aI (@unf (zE 6) (X (R [u,u,u,u,z 29,z 29,z 29,u] (V (zE 10) (zE 13))) (zE 14)) rfl) (@unf (zE 4) (R [u,u,u,u,u,u,u,v,u,u] (zE 6)) rfl)) (aI (@unf (zE 2) (R [u,u,u,v,u] (zE 4)) rfl) (@unf (zE 0) (R [u,u,u,u] (zE 2)) rfl))))
theorem Vf:type_of% V129.down:=V129.down
theorem Ix:Bt 129 71 (zE 0) [(.cell 10 26)]:=bt Tryz.func129 rfl
noncomputable def Jm:=yy Tryz.f130
def V130:=PLift.up (aI (aI (@unf (Jm 10) (X (G [u,u,u,u,u,u,u,u,u,v,u]) .ret) rfl) (aI (@unf (Jm 8) (X (G [u,u,u,u,v,u]) (Jm 10)) rfl) (@unf (Jm 6) (R [u,u,u,u,u,u,u,v,u,u] (Jm 8)) rfl))) (aI (@unf (Jm 4) (R [u,u,u,v,u] (Jm 6)) rfl) (aI (@unf (Jm 2) (R [u,u,u,u,u,u,u,v,u,u] (Jm 4)) rfl) (@unf (Jm 0) (R [u,u,u,u] (Jm 2)) rfl))))
theorem l7:type_of% V130.down:=V130.down
theorem EI:Bt 130 46 (Jm 0) [(.cell 8 26)]:=bt Tryz.func130 rfl
noncomputable def Jb:=yy Tryz.f132
def x132_c1:XC:=(.seq (.regD [l 66 4 59,l 66 5 60,m 3 61,a (k 57 #[t 61,i 3,i 5] #[22,3,3]) 62,a (.call ⟨(.builtin .min),#[i 1,t 62],#[3,3]⟩) 63,b (.build 71 #[(0,(i 15)),(1,(t 59)),(2,(t 60)),(4,(t 63))]) 64,w 71 8 64]) .ret)
def x132_s2:XC:=(C 56 x132_c1 (R [Q .eql 3 9 9 66,n 66 65] (C 65 (Jb 57) .skip)))
def x132_c3:XC:=(.seq (.regD [l 66 4 46,a (.buildSlice 31 2 #[(0,(.const (.string ⟨#[114,97,114,101]⟩))),(1,(.const (.string ⟨#[108,97,119]⟩)))]) 47,m 3 48,a (k 57 #[t 48,i 3,i 2] #[22,3,3]) 49,j 31 47 49 50,l 9 50 51,m 3 52,a (k 57 #[t 52,i 4,i 4] #[22,3,3]) 53,a (.call ⟨(.builtin .min),#[i 1,t 53],#[3,3]⟩) 54,b (.build 71 #[(0,(i 14)),(1,(t 46)),(5,(t 51)),(4,(t 54))]) 55,w 71 8 55]) .ret)
def x132_c4:XC:=(.seq (R [Q .eql 3 9 7 57,n 57 56] (C 56 .skip (.reg [Q .eql 3 9 8 58,n 58 56]))) x132_s2)
def x132_c6:XC:=(.seq (R [Q .eql 3 9 5 44,n 44 43] (C 43 .skip (.reg [Q .eql 3 9 6 45,n 45 43]))) (C 43 x132_c3 x132_c4))
def x132_s8:XC:=(C 24 (Jb 25) (R [Q .eql 3 9 4 32,n 32 31] (C 31 (Jb 31) x132_c6)))
def x132_c11:XC:=(R [Q .eql 3 9 2 19,n 19 18] (C 18 (Jb 19) (R [Q .eql 3 9 3 25,n 25 24] x132_s8)))
def x132_s12:XC:=(.block 0 (.seq (R [Q .eql 3 9 0 11,n 11 10] (C 10 .skip (.reg [Q .eql 3 9 1 12,n 12 10]))) (C 10 (Jb 13) x132_c11)))
def B0:XC:=(R [B 66 0 4,B 66 1 5,a (.alloc 71) 8] (.seq (R [m 2 9] x132_s12) (Jb 61)))
def V132:=PLift.up (aI (aI (aI (@unf (Jb 57) (X (G [u,u,u,u,v,u]) .ret) rfl) (aI (@unf _ _ x132_c1.eq_1) (@unf _ _ x132_s2.eq_1))) (aI (aI (@unf _ _ x132_c3.eq_1) (@unf _ _ x132_c4.eq_1)) (aI (@unf (Jb 31) (X (G [u,u,u,u,u,u,u,u,u,v,u]) .ret) rfl) (@unf _ _ x132_c6.eq_1)))) (aI (aI (@unf (Jb 25) (X (G [u,u,u,u,v,u]) .ret) rfl) (aI (@unf _ _ x132_s8.eq_1) (@unf (Jb 19) (X (G [u,u,u,v,u]) .ret) rfl))) (aI (aI (@unf (Jb 13) (X (G [u,u,u,u,v,u]) .ret) rfl) (@unf _ _ x132_c11.eq_1)) (aI (@unf _ _ x132_s12.eq_1) (@unf (Jb 61) (X (G [u,u,u,v,u]) .ret) rfl)))))
theorem FR:type_of% V132.down:=V132.down
theorem FB:Bt 132 76 B0 [(.cell 8 71)]:=bt Tryz.func132 rfl
noncomputable def yi:=yy Tryz.f98
def V98:=PLift.up (aI (aI (aI (aI (aI (@unf (yi 16) (X (G [u,u,u,u,v,u]) .ret) rfl) (@unf (yi 14) (X (G [u,u,u,u,u,u,u,u,u,u,u,u,v,u]) (yi 16)) rfl)) (aI (@unf (yi 12) (R [u,u,u,u,u,u,u,v,u,u] (yi 14)) rfl) (@unf (yi 64) (F [u,u,u,u,v,u]) rfl))) (aI (aI (@unf (yi 78) (X (G [u,u,u,u,u,u,u,u,u,u,u,u,u,u,u,v,u]) .ret) rfl) (@unf (yi 76) (R [u,u,u,u,u,u,v,u,u] (yi 78)) rfl)) (aI (@unf (yi 73) (R [u,u,u] (T (yi 76))) rfl) (@unf (yi 89) (X (G [u,u,u,u,u,u,u,u,v,u]) .ret) rfl)))) (aI (aI (aI (@unf (yi 93) (X (G [u,u,u,u,u,u,u,u,v,u]) .ret) rfl) (@unf (yi 106) (X (G [u,u,u,u,u,u,u,u,u,u,u,u,u,v,u]) .ret) rfl)) (aI (@unf (yi 104) (R [u,u,u,v,u] (yi 106)) rfl) (@unf (yi 101) (R [u,u,u] (T (yi 104))) rfl))) (aI (aI (@unf (yi 99) (R [u,u,u,v,u] (yi 101)) rfl) (@unf (yi 85) (X (R [u,u,u] (T (yi 89))) (yi 93)) rfl)) (aI (@unf (yi 84) (V (yi 85) (R [v,u] (T (yi 99)))) rfl) (aI (@unf (yi 71) (R [u,u,u,v,u] (yi 73)) rfl) (@unf (yi 68) (R [v,u] (V (yi 71) (R [v,u] (yi 84)))) rfl)))))) (aI (aI (aI (aI (@unf (yi 60) (V (R [u,u,u] (T (yi 64))) (yi 68)) rfl) (@unf (yi 55) (X (G [u,u,u,u,u,v,u]) .ret) rfl)) (aI (@unf (yi 49) (X (G [u,u,u,u,u,u,v,u]) .ret) rfl) (@unf (yi 52) (R [v,u] (V (yi 55) (R [v,u] (yi 60)))) rfl))) (aI (aI (@unf (yi 39) (X (G [u,u,u,u,v,u]) .ret) rfl) (@unf (yi 42) (X (R [v,u] (V .skip (r [v,u]))) (V (yi 49) (yi 52))) rfl)) (aI (@unf (yi 33) (X (G [u,u,u,u,v,u]) .ret) rfl) (aI (@unf (yi 32) (V (yi 33) (R [v,u] (V (yi 39) (yi 42)))) rfl) (@unf (yi 111) (X (G [u,u,u,u,u,u,u,u,v,u]) .ret) rfl))))) (aI (aI (aI (@unf (yi 26) (X (R [u] (O (R [v,u] (yi 32)))) (yi 111)) rfl) (@unf (yi 24) (R [u,u,u,u,u,u,v,u,u] (yi 26)) rfl)) (aI (@unf (yi 22) (R [u,u,u,u,u,u,v,u,u] (yi 24)) rfl) (@unf (yi 20) (R [u,u,u,u,u,u,v,u,u] (yi 22)) rfl))) (aI (aI (@unf (yi 8) (X (R [u,u,u,u,z 33,z 33,u] (T (yi 12))) (yi 20)) rfl) (@unf (yi 6) (R [u,v,u] (yi 8)) rfl)) (aI (@unf (yi 4) (R [u,u,u,v,u] (yi 6)) rfl) (aI (@unf (yi 2) (R [u,u,u,v,u] (yi 4)) rfl) (@unf (yi 0) (R [u,u,u] (yi 2)) rfl)))))))
theorem Jy:type_of% V98.down:=V98.down
theorem b98:Bt 98 218 (yi 0) [(.cell 8 26)]:=bt Tryz.func98 rfl
noncomputable def fN:=yy Tryz.f97
def V97:=PLift.up (aI (aI (@unf (fN 22) (r [u,v,u]) rfl) (@unf (fN 13) (X (O (R [u,u,u,u,u,u,u,u] (T (F [v,u])))) (fN 22)) rfl)) (aI (@unf (fN 7) (X (R [u,u] I) (fN 13)) rfl) (aI (@unf (fN 2) (X (R [u,u,u,v,u] (U (fN 7))) (F [u])) rfl) (@unf (fN 0) (R [u,u] (fN 2)) rfl))))
theorem Da:type_of% V97.down:=V97.down
theorem b97:Bt 97 23 (fN 0) [(.tmp 4)]:=bt Tryz.func97 rfl
noncomputable def zk:=yy Tryz.f58
def x58_c4:XC:=(.regT [8] [([f 26 8 3 91],c (.load 23 (t 91)) 92,false)] [m 10 93,f 104 3 0 94,l 72 94 95,m 11 96,j 72 95 96 97,f 26 97 1 98,l 3 98 99,a (.build 64 #[(0,(t 93)),(1,(t 99))]) 100,a (.buildSlice 23 1 #[(0,(t 100))]) 101,b (.call ⟨(.builtin .append),#[t 92,t 101],#[23,23]⟩) 102,f 26 8 3 103] [w 23 103 102])
def x58_s5:XC:=(R [m 10 80,m 7 81,p .eql 3 80 81 82] (C 82 (zk 51) x58_c4))
def x58_s6:XC:=(.seq (.regD [f 26 8 2 70,l 3 70 71,f 104 3 0 72,l 72 72 73,m 11 74,j 72 73 74 75,f 26 75 2 76,l 3 76 77,b (.call ⟨(.builtin .max),#[t 71,t 77],#[3,3]⟩) 78,f 26 8 2 79,w 3 79 78]) x58_s5)
def x58_s7:XC:=(.seq (zk 45) x58_s6)
def x58_s8:XC:=(.seq (.seq (zk 25) (C 44 (.exit 1) .skip)) (.seq (R [A 0 12] (.block 2 (.loop (zk 34)))) x58_s7))
def x58_s10:XC:=(.seq (.block 1 (.seq (zk 22) x58_s8)) (zk 53))
def x58_L11:XC:=(.seq (R [m 10 23,m 1 24,p .lss 3 23 24 25] (C 25 .skip (.exit 0))) x58_s10)
def x58_s15:XC:=(.seq (zk 74) (.seq (.gh (.reg [L 104 3 138,w 104 6 138])) .ret))
def x58_s16:XC:=(.seq (zk 72) x58_s15)
def x58_s17:XC:=(.seq (zk 55) (.seq (.seq (.gh (.reg [A 0 13])) (.block 4 (.loop (zk 61)))) x58_s16))
def x58_s18:XC:=(.seq (.gh (.reg [f 104 3 0 19,l 72 19 20,e 72 20 21,b (.call ⟨(.builtin .append),#[t 21,t 21],#[158]⟩) 22,n 22 9])) (.seq (R [A 0 10] (.block 0 (.loop x58_L11))) x58_s17))
def x58_s19:XC:=(R [m 7 17,b (.call ⟨(.builtin .complex),#[t 17,i 1,i 1],#[26,0,1,2]⟩) 18,a (.alloc 26) 8,w 26 8 18] x58_s18)
def x58_s20:XC:=(.seq (.gh (zk 3)) x58_s19)
def x58:XC:=(R [B 104 0 3,a (.alloc 104) 6] x58_s20)
def V58r:=PLift.up (aI (aI (@unf (zk 45) (r [u,u,u,u]) rfl) (aI (@unf (zk 25) (r [u,u,u,z 33,z 33,z 33,z 33,y 37,y 37,y 37,y 37,y 37,z 33,u]) rfl) (@unf (zk 22) (r [u,u,v,u]) rfl))) (aI (aI (@unf (zk 74) (r [u,x,u,u,v,u,u]) rfl) (@unf (zk 72) (r [u,x,u,u,v,u,u]) rfl)) (aI (@unf (zk 55) (G [u,u,u,u,v,u,u]) rfl) (@unf (zk 3) (r [u,u,v,u]) rfl))))
theorem wb:type_of% V58r.down:=V58r.down
def V58:=PLift.up (aI (aI (aI (aI (@unf (zk 43) (r [u,v,u]) rfl) (@unf (zk 40) (X (O (r [u,u,u,u,u,u,u,z 56,z 56,z 56,z 56,z 56,z 56,z 56,z 56,v,u,u])) (zk 43)) rfl)) (aI (@unf (zk 34) (X (R [u,u,u] I) (zk 40)) rfl) (aI (@unf (zk 51) (r [u,u,u,u,u,u,v,u,u]) rfl) (@unf _ _ x58_c4.eq_1)))) (aI (aI (@unf _ _ x58_s5.eq_1) (@unf _ _ x58_s6.eq_1)) (aI (@unf _ _ x58_s7.eq_1) (aI (@unf _ _ x58_s8.eq_1) (@unf (zk 53) (r [u,v,u]) rfl))))) (aI (aI (aI (@unf _ _ x58_s10.eq_1) (@unf _ _ x58_L11.eq_1)) (aI (@unf (zk 70) (r [u,v,u]) rfl) (aI (@unf (zk 67) (X (O (G [u,u,u,u,u,u,u,u,v,u])) (zk 70)) rfl) (@unf (zk 61) (X (R [u,u,u,u,u] I) (zk 67)) rfl)))) (aI (aI (@unf _ _ x58_s15.eq_1) (aI (@unf _ _ x58_s16.eq_1) (@unf _ _ x58_s17.eq_1))) (aI (@unf _ _ x58_s18.eq_1) (aI (@unf _ _ x58_s19.eq_1) (@unf _ _ x58_s20.eq_1))))))
theorem YZ:type_of% V58.down:=V58.down
theorem r58 {args:List D} {H:AH} {R:D->AH->Prop} (h:facts args->xcode Tryz.prog x58 (args++List.replicate (139 - args.length) (.tup [])) H (VT Tryz.prog [(.cell 6 104)] R)):ACall Tryz.prog 58 args H R:=
 yN hm Tryz.func58 rfl (by kernel_rfl) (by kernel_rfl) (by kernel_rfl) (by kernel_rfl) (by kernel_rfl) (by kernel_rfl) h
noncomputable def fQ:=yy Tryz.f99
def V99:=PLift.up (aI (aI (@unf (fQ 22) (r [u,v,u]) rfl) (@unf (fQ 13) (X (O (X (G [u,u,u,u,u,u,u,u,u,u,u,u,u,u,u]) (T (F [u])))) (fQ 22)) rfl)) (aI (@unf (fQ 7) (X (R [u,u,u,u,u] I) (fQ 13)) rfl) (aI (@unf (fQ 23) (F [u,u,u,u,z 31,z 31,z 31,z 31,z 31,z 31,z 31,v,u]) rfl) (@unf (fQ 0) (R [u,u] (X (R [u] (U (fQ 7))) (fQ 23))) rfl))))
theorem AE:type_of% V99.down:=V99.down
theorem b99:Bt 99 40 (fQ 0) [(.tmp 4)]:=bt Tryz.func99 rfl
noncomputable def Yj:=yy Tryz.f100
def V100:=PLift.up (aI (aI (@unf (Yj 22) (r [u,v,u]) rfl) (@unf (Yj 13) (X (O (R [u,u,u,u,u,u,u,u,y 21,y 21,y 21,y 21,y 21,y 21,y 21,u] (T (F [u])))) (Yj 22)) rfl)) (aI (@unf (Yj 7) (X (R [u,u,u,u] I) (Yj 13)) rfl) (aI (@unf (Yj 2) (X (R [u] (U (Yj 7))) (F [u])) rfl) (@unf (Yj 0) (R [u] (Yj 2)) rfl))))
theorem mo:type_of% V100.down:=V100.down
theorem Ir:Bt 100 30 (Yj 0) [(.tmp 6)]:=bt Tryz.func100 rfl
noncomputable def KU:=yy Tryz.f60
def V60:=PLift.up (aI (aI (aI (@unf (KU 34) (X (G [u,u,u,u,y 27,y 27,y 27,y 27,y 27,y 27,y 27,u,u,y 36,y 36,y 36,z 39,z 39,z 39,z 39,z 39,z 39,z 39,z 39,y 36,y 36,z 49,z 49,z 49,z 49,z 49,z 49,z 49,z 49,z 49,y 58,y 58,y 58,y 58,y 58,y 58,y 58,y 58,z 49,y 36,u]) (T (r [v,u]))) rfl) (@unf (KU 39) (r [u,v,u]) rfl)) (aI (@unf (KU 30) (X (O (R [u,u,u,v,u,u] (KU 34))) (KU 39)) rfl) (aI (@unf (KU 24) (X (R [u,u,u,u] I) (KU 30)) rfl) (@unf (KU 48) (r [x,u,u,u,u,u,v,u]) rfl)))) (aI (aI (@unf (KU 40) (X (R [u,u] (T (F [v,u]))) (KU 48)) rfl) (aI (@unf (KU 49) (r [u,v,u]) rfl) (@unf (KU 15) (X (O (R [u] (X (R [u] (U (KU 24))) (KU 40)))) (KU 49)) rfl))) (aI (@unf (KU 9) (X (R [u,u,u,u] I) (KU 15)) rfl) (aI (@unf (KU 4) (X (R [u] (U (KU 9))) (F [v,u])) rfl) (@unf (KU 0) (R [u] (R [u] (KU 4))) rfl)))))
theorem cb:type_of% V60.down:=V60.down
theorem b60:Bt 60 82 (KU 0) [(.tmp 2)]:=bt Tryz.func60 rfl
noncomputable def n8:=yy Tryz.f25
def x25_s1:XC:=(.seq (.block 1 (.regV [l 104 4 17,m 3 18,m 0 19,m 5 20,a (.binOp .mul 3 (i 32) (t 20) 3) 21,a (.binOp .add 3 (i 2) (t 21) 3) 22,k2 59 19 22 22 3 23] [K3 58 17 18 23 104 3 22 24,w 104 4 24])) (n8 20))
def x25_L2:XC:=(.seq (.seq (n8 13) (C 14 .skip (.exit 0))) x25_s1)
def x25_s3:XC:=(.seq (.gh (n8 22)) .ret)
def x25_s4:XC:=(R [b (.call ⟨(.builtin .complex),#[],#[104]⟩) 9,a (.alloc 104) 4,w 104 4 9] (.seq (R [A 0 5] (.block 0 (.loop x25_L2))) x25_s3))
def x25_s5:XC:=(.seq (n8 3) x25_s4)
def x25:XC:=(R [Z 2] x25_s5)
def V25r:=PLift.up (aI (@unf (n8 13) (r [u,u,u,u,u]) rfl) (aI (@unf (n8 22) (r [u,u,v,u]) rfl) (@unf (n8 3) (r [u,u,v,u]) rfl)))
theorem KS:type_of% V25r.down:=V25r.down
def V25:=PLift.up (aI (aI (@unf (n8 20) (r [u,v,u]) rfl) (aI (@unf _ _ x25_s1.eq_1) (@unf _ _ x25_L2.eq_1))) (aI (@unf _ _ x25_s3.eq_1) (aI (@unf _ _ x25_s4.eq_1) (@unf _ _ x25_s5.eq_1))))
theorem xh:type_of% V25.down:=V25.down
end Go.Proofs.YtgopigkdcmhbbaaGreatDoor
end
section
namespace Go.Aw
open Go Go.RowKit
theorem aM (d:D):d.view.view=d.view:=by
 have h1:∀d:D,d.view1.view1=d.view1:=fun d=>by cases d<;>rfl
 cases d<;>first|rfl|(simp only [D.view,Mx];congr 1;exact My fun d _=>h1 d)
theorem St.view (h:St K w F H t):St K w (F.map D.view) H t:=
 ⟨h.krel,h.hrel,by simpa using h.len,fun i d v hd hv=>by
  rw [Mb,Mg] at hd
  obtain ⟨d0,h1,rfl⟩:=hd
  exact (h.slot i d0 v h1 hv).rep.viewO⟩
theorem St.onward (hv:∀d∈F,d.view=d) (h:St K w F H t) (he:ExtV K w K' w') (hk:KRel K' w') (hh:HRel K' w' H'):St K' w' F H' t:=
 ⟨hk,hh,h.len,fun i d v hd hvv=>by
  have h1:=(h.slot i d v hd hvv).rep
  rw [hv d (Mh hd)] at h1
  exact (RepV.mono he h1).viewO⟩
theorem St.setP (h:St K w F H t) (hr:RepV K w d v):St K w (F.set p d) H (t.setIfInBounds p v):=by
 refine ⟨h.krel,h.hrel,by simpa using h.len,fun i d' u hd hu=>?_⟩
 rcases getElem?_set_some hd with ⟨rfl,rfl,hl⟩|⟨hne,hd⟩
 ·rw [Array.getElem?_setIfInBounds_self_of_lt (by rw [h.len];exact hl)] at hu
  obtain rfl:=Option.some.inj hu
  exact hr.viewO
 ·rw [Array.getElem?_setIfInBounds_ne hne] at hu
  exact h.slot i d' u hd hu
structure LI (K:Nat->BK) (w:World) (b1 b2:Nat) (r:Loop) (Fv:List D) (t:Array Value) (K1:Nat->BK) (W:World) (H1:AH):Prop where
 ext:ExtV K w K1 W
 own:∀b n,K b= .tok n .outer->K1 b= .tok n .outer∧W.heap[b]?=w.heap[b]?
 new:∀b n,K1 b= .tok n .outer->K b= .tok n .outer∨(n=0∧(b=b1∨b=b2∨b=w.heap.size∨b=w.heap.size+1))
 st:St K1 W Fv H1 t
 s1:K1 b1= .tok 0 .outer
 s2:K1 b2= .tok 0 .outer
 sD:K1 w.heap.size= .tok 0 .outer
 sL:K1 (w.heap.size+1)= .tok 0 .outer
 h1:W.heap[b1]?=w.heap[b1]?
 h2:W.heap[b2]?=w.heap[b2]?
 hD:W.heap[w.heap.size]?=some (.deferred (some []))
 hL:W.heap[w.heap.size+1]?=some (.loop r)
section
variable {K:Nat->BK} {w:World} {b1 b2:Nat} {r:Loop} {Fv:List D} {t:Array Value} {K1:Nat->BK} {W:World} {H1:AH}
theorem LI.step (hk0:KRel K w) (hb1:b1<w.heap.size) (hb2:b2<w.heap.size) (h:LI K w b1 b2 r Fv t K1 W H1) (ho:W'.os=W.os) (ht:W'.tape=W.tape) (hp:W'.output=W.output) (hd:W.drawn<=W'.drawn) (hz:W'.heap.size=W.heap.size)
  (hh:∀b,b≠w.heap.size+1->W'.heap[b]?=W.heap[b]?) (hl:W'.heap[w.heap.size+1]?=some (.loop r')):LI K w b1 b2 r' Fv t K1 W' H1:=by
 have hext:ExtV K1 W K1 W':=by
  refine ⟨ho,ht,⟨hp,hd⟩,Nat.le_of_eq hz.symm,fun b hb hi=>⟨hi,hh b fun e=>?_⟩,fun b n o hb hn=>⟨n,o,hb,Mn _,fun j _=>j5 (hh b fun e=>?_) j⟩,fun b hb=>.inl hb⟩
  ·rw [e,h.sL] at hi;cases hi
  ·rw [e,h.sL] at hb;injection hb with hb _;omega
 have hkeep:Keep (fun o=>o= .outer) bV K1 W K1 W':=⟨hext,fun b n o hb ho=>⟨hb,hh b fun e=>ho (by rw [e,h.sL] at hb;injection hb with _ hb;exact hb.symm)⟩,fun b n hb=>hb,
  fun b hb _=>⟨hb,hh b fun e=>by rw [e,h.sL] at hb;cases hb⟩⟩
 have hst:St K1 W' Fv H1 t:=⟨fun b hb=>h.st.krel b (by omega),h.st.hrel.keep hkeep (fun b o _=>⟨fun h=>h,fun j h=>by cases h⟩),h.st.len,fun i d v hd hv=>(h.st.slot i d v hd hv).keep hkeep (fun j h=>by cases h)⟩
 have old:∀b,b<w.heap.size->W'.heap[b]?=W.heap[b]?:=fun b hb=>hh b (by omega)
 exact ⟨h.ext.trans hext,fun b n hb=>⟨(h.own b n hb).1,(old b (hk0.lt_of (by rw [hb];simp))).trans (h.own b n hb).2⟩,h.new,hst,h.s1,h.s2,h.sD,h.sL,(old b1 hb1).trans h.h1,(old b2 hb2).trans h.h2,(hh _ (by omega)).trans h.hD,hl⟩
theorem LI.start (hs:St K w F H t) (e1:qn H b1=some o1) (e2:qn H b2=some o2) (hp1:K b1= .priv) (hp2:K b2= .priv) (hsb:Sbn H1 (qN (qN H b1) b2)) (hb1:b1<w.heap.size) (hb2:b2<w.heap.size)
  (ho:W.os=w.os) (ht:W.tape=w.tape) (hp:W.output=w.output) (hd:W.drawn=w.drawn) (hz:W.heap.size=w.heap.size+2) (hh:∀b,b<w.heap.size->W.heap[b]?=w.heap[b]?) (hD:W.heap[w.heap.size]?=some (.deferred (some []))) (hL:W.heap[w.heap.size+1]?=some (.loop r)):
  ∃K1,LI K w b1 b2 r (F.map D.view) t K1 W H1:=by
 have hn1:((qN H b1).map (·.1)).Nodup:=(erase_sub.map (·.1)).nodup hs.hrel.nd
 have hn2:((qN (qN H b1) b2).map (·.1)).Nodup:=(erase_sub.map (·.1)).nodup hn1
 obtain ⟨hnd,hsub⟩:=hsb hn2
 have hmem:∀b o,(b,o)∈H1->(b,o)∈H∧b≠b1∧b≠b2:=fun b o hm=>by
  have h1:=hsub _ hm
  exact ⟨erase_sub.subset (erase_sub.subset h1),kj hs.hrel.nd (erase_sub.subset h1),kj hn1 h1⟩
 have kp1:∀b n o,K b= .tok n o->b≠b1∧b≠b2∧b<w.heap.size:=fun b n o hb=>⟨fun e=>(by rw [e,hp1] at hb;cases hb),fun e=>(by rw [e,hp2] at hb;cases hb),hs.krel.lt_of (by rw [hb];simp)⟩
 have hext:ExtV K w K W:=⟨ho,ht,⟨hp,Nat.le_of_eq hd.symm⟩,by omega,fun b hb hi=>⟨hi,hh b hb⟩,fun b n o hb _=>⟨n,o,hb,Mn _,fun j _=>j5 (hh b (kp1 b n o hb).2.2) j⟩,fun b hb=>.inl hb⟩
 have hkeep:Keep lT bV K w K W:=⟨hext,fun b n o hb _=>⟨hb,hh b (kp1 b n o hb).2.2⟩,fun b n hb=>hb,fun b hb _=>⟨hb,hh b (hs.krel.lt_of (by rw [hb];simp))⟩⟩
 have hv:=hs.view
 have hs1:St K w (F.map D.view) H1 t:=⟨hv.krel,⟨hnd,fun b o hm=>hs.hrel.ok b o (hmem b o hm).1⟩,hv.len,hv.slot⟩
 have hs2:St K W (F.map D.view) H1 t:=⟨fun b hb=>hs.krel b (by omega),hs1.hrel.keep hkeep (fun b o _=>⟨fun h=>h,fun j h=>by cases h⟩),hs1.len,fun i d v hd hv=>(hs1.slot i d v hd hv).keep hkeep (fun j h=>by cases h)⟩
 have hC:isC W w.heap.size=false∧isC W (w.heap.size+1)=false:=⟨by simp [isC,hD],by simp [isC,hL]⟩
 obtain ⟨K1,hK1⟩:∃K1:Nat->BK,K1=fun b=>if b=b1∨b=b2∨b=w.heap.size∨b=w.heap.size+1 then .tok 0 .outer else K b:=⟨_,rfl⟩
 have kin:∀b,(b=b1∨b=b2∨b=w.heap.size∨b=w.heap.size+1)->K1 b= .tok 0 .outer:=fun b hb=>by rw [hK1];exact if_pos hb
 have kout:∀b,¬(b=b1∨b=b2∨b=w.heap.size∨b=w.heap.size+1)->K1 b=K b:=fun b hb=>by rw [hK1];exact if_neg hb
 have ktok:∀b n o,K b= .tok n o->K1 b= .tok n o:=fun b n o hb=>by
  grind
 refine ⟨K1,⟨⟨ho,ht,⟨hp,Nat.le_of_eq hd.symm⟩,by omega,fun b hb hi=>⟨?_,hh b hb⟩,fun b n o hb _=>⟨n,o,ktok b n o hb,Mn _,fun j _=>j5 (hh b (kp1 b n o hb).2.2) j⟩,fun b hb=>.inr (by have:=hs.krel.lt_of (b:=b) (by rw [hb];simp);omega)⟩,
  fun b n hb=>⟨ktok b n _ hb,hh b (kp1 b n _ hb).2.2⟩,fun b n hb=>?_,?_,kin _ (.inl rfl),kin _ (.inr (.inl rfl)),kin _ (.inr (.inr (.inl rfl))),kin _ (.inr (.inr (.inr rfl))),hh b1 hb1,hh b2 hb2,hD,hL⟩⟩
 ·grind
 ·grind
 ·refine hs2.re ⟨fun b hc h1 _=>kout b ?_,fun b n c j hb=>(ktok b n _ hb).trans hb.symm⟩ (fun b hb=>?_) fun b o hm hp=>?_
  ·grind
  ·rw [kout b (by omega)];exact hs.krel b (by omega)
  ·rw [kout b]
   ·exact hp
   ·have:=hmem b o hm
    have hlt:=hs.hrel.lt hs.krel this.1
    omega
theorem LI.round (hk0:KRel K w) (hv:∀d∈Fv,d.view=d) (h:LI K w b1 b2 r Fv t K1 W H1) (hf:FK K1 W K' W') (hs:St K' W' F' H' t') (hsb:Sbn H3 H'):
  LI K w b1 b2 r Fv t K' W' H3:=
 ⟨h.ext.trans hf.ext,fun b n hb=>⟨(hf.own b n (h.own b n hb).1).1,(hf.own b n (h.own b n hb).1).2.trans (h.own b n hb).2⟩,fun b n hb=>h.new b n (hf.new b n hb),h.st.onward hv hf.ext hs.krel (hs.sb (hsb hs.hrel.nd)).hrel,
  (hf.own _ _ h.s1).1,(hf.own _ _ h.s2).1,(hf.own _ _ h.sD).1,(hf.own _ _ h.sL).1,(hf.own _ _ h.s1).2.trans h.h1,(hf.own _ _ h.s2).2.trans h.h2,(hf.own _ _ h.sD).2.trans h.hD,(hf.own _ _ h.sL).2.trans h.hL⟩
theorem LI.finish (hk0:KRel K w) (h:LI K w b1 b2 r Fv t K1 W H1) (hb1:b1<w.heap.size) (hb2:b2<w.heap.size) (hp1:K b1= .priv) (hp2:K b2= .priv) (hs:s<=w.heap.size) (hm:Mk K w s ds):
  ∃K',FKm K w K' W∧St K' W Fv H1 t∧Mk K' W s ({target:= .collected w.heap.size,args:=#[]}::ds):=by
 obtain ⟨K',hK'⟩:∃K':Nat->BK,K'=fun b=>if b=b1∨b=b2∨b=w.heap.size+1 then .priv else K1 b:=⟨_,rfl⟩
 have kin:∀b,(b=b1∨b=b2∨b=w.heap.size+1)->K' b= .priv:=fun b hb=>by rw [hK'];exact if_pos hb
 have kout:∀b,¬(b=b1∨b=b2∨b=w.heap.size+1)->K' b=K1 b:=fun b hb=>by rw [hK'];exact if_neg hb
 have hsz:w.heap.size+1<W.heap.size:=(Array.getElem?_eq_some_iff.1 h.hL).1
 have old:∀b,b<w.heap.size->K b≠ .priv->K' b=K1 b:=fun b hb hn=>kout b (by
  rintro (e|e|e)
  ·grind
  ·grind
  ·omega)
 refine ⟨K',⟨⟨h.ext.os,h.ext.tape,h.ext.output,h.ext.size,fun b hb hi=>?_,fun b n o hb hn=>?_,fun b hb=>.inr (Nat.lt_of_lt_of_le (hk0.lt_of (by rw [hb];simp)) h.ext.size)⟩,fun b n hb=>?_,fun b n hb=>?_⟩,?_,?_⟩
 ·rw [old b hb (by rw [hi];simp)];exact h.ext.imm b hb hi
 ·rw [old b (hk0.lt_of (by rw [hb];simp)) (by rw [hb];simp)];exact h.ext.tok b n o hb hn
 ·rw [old b (hk0.lt_of (by rw [hb];simp)) (by rw [hb];simp)];exact h.own b n hb
 ·by_cases hc:b=b1∨b=b2∨b=w.heap.size+1
  ·grind
  ·rw [kout b hc] at hb
   rcases h.new b n hb with h1|⟨_,h1⟩
   ·exact .inl h1
   ·have:b=w.heap.size:=by omega
    subst this
    exact .inr ⟨Mn _,h.hD⟩
 ·have kt:∀b,b=b1∨b=b2∨b=w.heap.size+1->K1 b= .tok 0 .outer:=fun b hb=>by
   rcases hb with rfl|rfl|rfl
   ·exact h.s1
   ·exact h.s2
   ·exact h.sL
  refine h.st.re ⟨fun b hc h1 h2=>kout b fun e=>h2 (kt b e),fun b n c j hb=>kout b fun e=>by rw [kt b e] at hb;injection hb with _ hb;cases hb⟩ (fun b hb=>?_) fun b o hm hp=>?_
  ·rw [kout b (by omega)];exact h.st.krel b hb
  all_goals grind
 ·obtain ⟨Ds,d1,d2,d3⟩:=hm
  have hlt:∀D'∈Ds,D'<w.heap.size:=fun D' hD'=>(Array.getElem?_eq_some_iff.1 (d3 D' hD').2.2).1
  refine ⟨w.heap.size::Ds,List.nodup_cons.2 ⟨fun hm=>by have:=hlt _ hm;omega,d1⟩,by rw [d2];rfl,fun D' hD'=>?_⟩
  rcases List.mem_cons.1 hD' with rfl|hD'
  ·exact ⟨hs,(kout _ (by omega)).trans h.sD,h.hD⟩
  ·obtain ⟨q1,q2,q3⟩:=d3 D' hD'
   exact ⟨q1,(old D' (hlt D' hD') (by rw [q2];simp)).trans (h.own _ _ q2).1,(h.own _ _ q2).2.trans q3⟩
end
def uc (len k:Nat):Nat:=(len+k - 1) / k
def vz (a:Option Addr) (len k j:Nat):Value:=sliced a (j*k) (j*k+min k (len - j*k)) (j*k+min k (len - j*k)) 1
def FC (b1 b2:Nat) (W W':World):Prop:=W'.cell? ⟨b1,0,none⟩=W.cell? ⟨b1,0,none⟩∧W'.cell? ⟨b2,0,none⟩=W.cell? ⟨b2,0,none⟩
def Hg (P:Program) (f:FuncId):Prop:=(∀args w,(callFunc f args).run P w= .ok (.enter f args) w)∧∀(n l:Nat) (a:Option Addr) (len cap k m b1 b2:Nat),m=uc len k->0<k->k<=1000->len<=cap->len<=big->∀J:List (Fin m)->World->Prop,
 (∀pre (x:Fin m) W,J pre W->pre.length<m->YieldAt Fence.wide (n - 1) P l #[vz a len k x.val] W fun e W'=>e= .returned (.bool true)∧J (pre++ [x]) W'∧FC b1 b2 W W')->
 (∀s A,J s A->J s A.drew)->∀W:World,W.cell? ⟨b1,0,none⟩=some (.slice a len cap)->W.cell? ⟨b2,0,none⟩=some (.int .i64 k)->J [] W->
 CallsIn Fence.wide n P f #[.func (.yield l) #[] #[],.pointer (some ⟨b1,0,none⟩),.pointer (some ⟨b2,0,none⟩)] W fun e W'=>(∃v,e= .returned v)∧∃ys:List (Fin m),ys.map Fin.val=List.range m∧J ys W'
def jR (xs:List (List D)) (k j:Nat):List (List D):=(xs.drop (j*k)).take k
theorem Gk (hk:0<k) (h:j<uc len k):j*k<len:=by
 unfold uc at h
 have:=(Nat.le_div_iff_mul_le hk).1 h
 grind
theorem ZW (h:RepV K w (.slc ys) (.slice a n c)) (h1:n<=c') (h2:c'<=c):RepV K w (.slc ys) (.slice a n c'):=by
 cases h with
 | slcnil a=>
  obtain rfl:c'=0:=by omega
  exact .slcnil a
 |slc xs b off cap sz f hb hc hm hs hv hcell hone hrep=>exact .slc ys b off c' sz f hb h1 (by omega) hs hv hcell hone hrep
theorem aH (hr:RepV K w (.slc xs) (.slice a len cap)) (hx:∀y∈xs,y.length=1) (hk:0<k) (hj:j<uc xs.length k):RepV K w (.slc (jR xs k j)) (vz a xs.length k j):=by
 have hlt:=Gk hk hj
 obtain ⟨e1,e2,h3⟩:=Gp hr 1 (fun i x hi=>hx x (Mh hi)) (l:=j*k) (h:=j*k+min k (xs.length - j*k)) (by omega) (by omega)
 unfold sliced at h3
 rw [if_neg (by omega)] at h3
 unfold vz sliced
 rw [if_neg (by omega)]
 have hl:(xs.take (j*k+min k (xs.length - j*k))).drop (j*k)=jR xs k j:=by
  unfold jR
  rw [List.drop_take,List.take_eq_take_iff,List.length_drop]
  omega
 rw [hl] at h3
 exact ZW h3 (Mn _) (by omega)
theorem rZ (h:UK asg=some (p,t)) {K:Act->World->Prop} (hK:K (a.put (some t) (a.eval (.tmp p))) W):asg.wpIn (Fence.wide.inRound l) n P (Exit.then K (fun _ _ _=>False)) a W:=by
 unfold UK at h
 split at h
 ·rename_i id ops
  split at h
  ·rename_i o hops
   split at h
   ·rename_i p' t' ho hd hg
    cases h
    refine wpIn_region_list ?_
    rw [hops]
    unfold wpListIn
    rw [if_pos (by simp [Region.wanted,hg])]
    refine dg (by simp [uk,ho]) ?_
    unfold Oper.wp
    rw [show (execOp a.eval o).run P W= .ok (.value (a.eval (.tmp p))) W by simp [execOp,ho]]
    simp only [Oper.upon,hd]
    exact hK
   ·cases h
  ·cases h
 ·cases h
theorem XRF.chunk {P:Program} (hm:P.follows .mixedOrders=true) {f:FuncId} (hit:Hg P f) {s p t:Tmp} {x:XC} {F:List D} {H:AH} {Q:AQ} {b1 b2 k:Nat} {xs:List (List D)} (hg:rv F (.tmp s)= .fn f [.ptr b1 0,.ptr b2 0]) (hp:p<F.length)
  (e1:qn H b1=some (.cells [.slc xs])) (e2:qn H b2=some (.cells [.int .i64 k])) (hk:0<k) (hk2:k<=1000) (hx:∀y∈xs,y.length=1) (Inv:List Nat->AH->Prop) (H0:AH) (hsb:Sbn H0 (qN (qN H b1) b2)) (h0:Inv [] H0)
  (hbody:∀(pre:List Nat) (j:Nat) (H':AH),Inv pre H'->j<uc xs.length k->pre.length<uc xs.length k->fact (.slc (jR xs k j))->xcode P x (((F.map D.view).set p (.slc (jR xs k j))).set t (.slc (jR xs k j))) H' (QX (fun _ H''=>∃H3,Sbn H3 H''∧Inv (pre++ [j]) H3) (fun _ _ _=>False)))
  (hdone:∀H',Inv (List.range (uc xs.length k)) H'->Q .normal (F.map D.view) H'):XRF P (.tmp s) p t x F H Q:=by
 intro ps asg c hps hasg hc ho hv hib hdb K w a s0 hs hd
 obtain ⟨vs,hev,hsz,hvs⟩:=(hg▸hs.rep (x:= .tmp s) rfl).fn_inv rfl
 have hvs2:vs=#[.pointer (some ⟨b1,0,none⟩),.pointer (some ⟨b2,0,none⟩)]:=by
  have hz:vs.size=2:=hsz
  have q0:=(hvs 0 _ _ rfl (Mt (show 0<vs.size by omega))).ptr_inv
  have q1:=(hvs 1 _ _ rfl (Mt (show 1<vs.size by omega))).ptr_inv
  grind
 obtain ⟨hp1,c1,T1,hh1,hz1,hr1⟩:=hs.hrel.ok b1 _ (qP e1)
 obtain ⟨hp2,c2,T2,hh2,hz2,hr2⟩:=hs.hrel.ok b2 _ (qP e2)
 obtain ⟨u1,hu1,_,hru1⟩:=hr1 0 _ rfl
 obtain ⟨u2,hu2,_,hru2⟩:=hr2 0 _ rfl
 have hru1':RepV K w (.slc xs) u1:=hru1
 obtain ⟨a0,cap,rfl,hlc,hcm⟩:=hru1'.slc_form
 obtain ⟨rfl,_⟩:=(show RepV K w (.int .i64 k) u2 from hru2).int_inv
 have hb1:=(Array.getElem?_eq_some_iff.1 hh1).1
 have hb2:=(Array.getElem?_eq_some_iff.1 hh2).1
 have hcell1:w.cell? ⟨b1,0,none⟩=some (.slice a0 xs.length cap):=by rw [jQ hh1];exact hu1
 have hcell2:w.cell? ⟨b2,0,none⟩=some (.int .i64 k):=by rw [jQ hh2];exact hu2
 obtain rfl:ps=#[p]:=by
  grind
 have hvv:∀d∈F.map D.view,d.view=d:=fun d hd=>by
  grind [aM]
 refine (wpIn_wide (n:=3)).1 (wpIn_rangeFunc fun fn _=>?_)
 obtain ⟨r,hr⟩:∃r:Loop,r={state:= .ready,pending:=none,fn,tmps:=a.tmps,params:=#[p],assign:=asg,body:=c,defers:=w.heap.size}:=⟨_,rfl⟩
 obtain ⟨W1,hW1⟩:∃W1,(w.alloc (.deferred (some []))).alloc (.loop r)=W1:=⟨_,rfl⟩
 have hl1:W1.heap[w.heap.size+1]?=some (.loop r):=by
  rw [<-hW1];have:=World.alloc_heap_new (w.alloc (.deferred (some []))) (.loop r);rwa [World.size_alloc] at this
 have hd1:W1.heap[w.heap.size]?=some (.deferred (some [])):=by
  rw [<-hW1];exact (Below.heap_alloc _ _ _ (by simp)).trans (World.alloc_heap_new w _)
 have hold:∀b,b<w.heap.size->W1.heap[b]?=w.heap[b]?:=fun b hb=>by
  rw [<-hW1];exact (Below.heap_alloc _ _ _ (by simp;omega)).trans (Below.heap_alloc _ _ _ hb)
 have hsz1:W1.heap.size=w.heap.size+2:=by rw [<-hW1];simp
 have hos1:W1.os=w.os∧W1.tape=w.tape∧W1.output=w.output∧W1.drawn=w.drawn:=by rw [<-hW1];exact ⟨rfl,rfl,rfl,rfl⟩
 refine ⟨w.heap.size+1,[{target:= .collected w.heap.size,args:=#[]}],W1,{target:= .fn (.func f) vs,args:=#[.func (.yield (w.heap.size+1)) #[] #[]]},W1,f,#[.func (.yield (w.heap.size+1)) #[] #[]]++vs,W1,?_,?_,fun _ _=>trivial,?_,fun _=>by omega,?_⟩
 ·rw [<-hW1,hr];exact run_enterLoop_outer _ _ _ _ _
 ·simp only [resolve,hev]
  simp [go_sem]
 ·simp [invoke,go_sem,hit.1]
 ·subst hvs2
  have hput:∀{r1:Loop} {K1:Nat->BK} {W:World} {H1:AH} (r2:Loop),LI K w b1 b2 r1 (F.map D.view) a.tmps K1 W H1->LI K w b1 b2 r2 (F.map D.view) a.tmps K1 (W.putObj (w.heap.size+1) (.loop r2)) H1:=fun r2 g=>
   g.step hs.krel hb1 hb2 rfl rfl rfl (Mn _) (by simp [World.putObj]) (fun b hb=>World.putObj_heap_other hb) (World.putObj_heap_same (Array.getElem?_eq_some_iff.1 g.hL).1)
  refine (hit.2 _ (w.heap.size+1) a0 xs.length cap k _ b1 b2 rfl hk hk2 hlc hru1'.slc_big (fun pre W=>∃K1 H1,Inv (pre.map Fin.val) H1∧LI K w b1 b2 r (F.map D.view) a.tmps K1 W H1) ?_ ?_ W1
   ((j5 (hold b1 hb1) 0).trans hcell1) ((j5 (hold b2 hb2) 0).trans hcell2) (let ⟨K1,h⟩:=LI.start hs e1 e2 hp1 hp2 hsb hb1 hb2 hos1.1 hos1.2.1 hos1.2.2.1 hos1.2.2.2 hsz1 hold hd1 hl1;⟨K1,H0,h0,h⟩)).mono ?_
  ·rintro pre j W ⟨K1,H1,g1,g2⟩ hlen
   have hy:=run_yield (P:=P) (args:=#[vz a0 xs.length k j.val]) g2.hL (by rw [hr];rfl)
   refine ⟨r.fn,_,r.assign,r.body,hy,roundIn_of_wpIn trivial ?_⟩
   have he:Act.eval {tmps:=a.tmps.setIfInBounds p (vz a0 xs.length k j.val),defers:= []} (.tmp p)=vz a0 xs.length k j.val:=by
    have hlt:p<a.tmps.size:=by rw [hs.len];exact hp
    simp [Act.eval,hlt]
   have htm:(Array.zip r.params #[vz a0 xs.length k j.val]).foldl (fun t (p,v)=>t.setIfInBounds p v) r.tmps=a.tmps.setIfInBounds p (vz a0 xs.length k j.val):=by rw [hr];simp
   rw [htm]
   have hra:r.assign=asg:=by rw [hr]
   have hrb:r.body=c:=by rw [hr]
   rw [hra,hrb]
   refine rZ hasg ?_
   rw [he]
   refine ⟨_,run_beginRound g2.hL (by rw [hr]),?_⟩
   have g3:=hput {r with state:= .busy} g2
   have hrep:RepV K1 (W.putObj (w.heap.size+1) (.loop {r with state:= .busy})) (.slc (jR xs k j.val)) (vz a0 xs.length k j.val):=aH (RepV.mono g3.ext hru1') hx hk j.isLt
   refine wpIn_mono (oC hm x c _ H1 _ hib hdb hc ho hv (fun _ _ h=>h) (hbody (pre.map Fin.val) j.val H1 g1 j.isLt (by simpa using hlen) hrep.fact) K1 _ _ ((g3.st.setP hrep).setP hrep)) fun e a' W' ⟨F',H',K',q1,q2,q3⟩=>?_
   cases e with
   | normal=>
    obtain ⟨H3,q4,q5⟩:=q1
    have g4:=g3.round hs.krel hvv q2 q3 q4
    refine ⟨_,_,run_endRound none g4.hL,rfl,⟨K',H3,by simpa using q5,?_⟩,?_⟩
    ·have hrr:({({r with state:= .busy}:Loop) with state:=if (none:Option Code).isNone then .ready else .done,pending:=none}:Loop)=r:=by
      rw [hr];rfl
     rw [hrr]
     exact hput r g4
    ·have o1:∀b,b<w.heap.size->((W'.putObj (w.heap.size+1) (.loop {({r with state:= .busy}:Loop) with state:=if (none:Option Code).isNone then .ready else .done,pending:=none})).heap[b]?=W'.heap[b]?):=fun b hb=>World.putObj_heap_other (by omega)
     exact ⟨j5 ((o1 b1 hb1).trans (g4.h1.trans g2.h1.symm)) 0,j5 ((o1 b2 hb2).trans (g4.h2.trans g2.h2.symm)) 0⟩
   |_=>exact q1.elim
  ·rintro pre W ⟨K1,H1,g1,g2⟩
   exact ⟨K1,H1,g1,g2.step hs.krel hb1 hb2 rfl rfl rfl (Nat.le_succ _) rfl (fun _ _=>rfl) g2.hL⟩
  ·rintro e W2 ⟨⟨v,rfl⟩,ys,hS,K1,H1,g1,g2⟩
   rw [hS] at g1
   refine ⟨none,W2.putObj (w.heap.size+1) (.loop {r with state:= .exhausted}),?_,?_⟩
   ·have:=run_endLoop (P:=P) g2.hL (by rw [hr];simp)
    grind
   ·obtain ⟨K',q1,q2,q3⟩:=(hput _ g2).finish hs.krel hb1 hb2 hp1 hp2 hd.1 hd.2
    exact ⟨_,H1,K',hdone H1 g1,q1,q2,Nat.le_trans hd.1 q1.ext.size,q3⟩
theorem XRF.chunkK {P:Program} (hm:P.follows .mixedOrders=true) {f:FuncId} (hit:Hg P f) {s p t:Tmp} {x:XC} {F:List D} {H:AH} {Q:AQ} {b1 b2 k:Nat} {xs:List (List D)} (hg:rv F (.tmp s)= .fn f [.ptr b1 0,.ptr b2 0]) (hp:p<F.length)
  (e1:qn H b1=some (.cells [.slc xs])) (e2:qn H b2=some (.cells [.int .i64 k])) (hk:0<k) (hk2:k<=1000) (hx:∀y∈xs,y.length=1) (Inv:List Nat->AH->Prop) (H0:AH) (hsb:Sbn H0 (qN (qN H b1) b2)) (h0:Inv [] H0)
  (hbody:∀(pre:List Nat) (j:Nat) (H':AH),Inv pre H'->j<uc xs.length k->pre.length<uc xs.length k->fact (.slc (jR xs k j))->∀K:AQ,(∀F' H'' H3,Sbn H3 H''->Inv (pre++ [j]) H3->K .normal F' H'')->xcode P x (((F.map D.view).set p (.slc (jR xs k j))).set t (.slc (jR xs k j))) H' K)
  (hdone:∀H',Inv (List.range (uc xs.length k)) H'->Q .normal (F.map D.view) H'):XRF P (.tmp s) p t x F H Q:=
 XRF.chunk hm hit hg hp e1 e2 hk hk2 hx Inv H0 hsb h0 (fun pre j H' h1 h2 h3 h4=>hbody pre j H' h1 h2 h3 h4 _ fun F' H'' H3 g1 g2=>⟨H3,g1,g2⟩) hdone
end Go.Aw
end
section
namespace Go.Proofs.YtgopigkdcmhbbaaGreatDoor
open Go Go.Aw Go.RowKit Go.Shelf
attribute [local go_sem] Oper.semAt_some
def Same (x y:Nat):Prop:=x=y
theorem eZ (n:Nat) (l b1 b2 len cap k m:Nat) (a:Option Addr) (hm0:m=uc len k) (hk:0<k) (hk2:k<=1000) (hlc:len<=cap) (hlb:len<=big) (J:List (Fin m)->World->Prop)
  (hY:∀pre (x:Fin m) W,J pre W->pre.length<m->YieldAt Fence.wide (n - 1) Tryz.prog l #[vz a len k x.val] W fun e W'=>
   e= .returned (.bool true)∧J (pre++ [x]) W'∧FC b1 b2 W W')
  (hJd:∀s A,J s A->J s A.drew) (W:World) (hB1:W.cell? ⟨b1,0,none⟩=some (.slice a len cap)) (hB2:W.cell? ⟨b2,0,none⟩=some (.int .i64 k)) (h0:J [] W):
  CallsIn Fence.wide n Tryz.prog 117 #[.func (.yield l) #[] #[],.pointer (some ⟨b1,0,none⟩),.pointer (some ⟨b2,0,none⟩)] W fun e W'=>(∃v,e= .returned v)∧
   ∃ys:List (Fin m),ys.map Fin.val=List.range m∧J ys W':=by
 have hmo:Tryz.prog.follows .mixedOrders=true:=by kernel_rfl
 refine callsIn_of_wp Tryz.func117 rfl trivial ?_ rfl
 simp only [Tryz.ntmps117,List.size_toArray,List.length_cons,List.length_nil,Nat.reduceAdd,Nat.reduceSub,Array.replicate_succ,Array.replicate_zero,List.push_toArray,List.append_toArray,Mw,List.cons_append]
 gi_wp2
 gi_loopw [4] (fun i wr=>∃(c i0:Nat) (pre:List (Fin m)),c<=m∧Same i0 (c*k)∧i0<=len+k∧i= .int .i64 i0∧pre.map Fin.val=List.range c∧J pre wr∧FC b1 b2 W wr)
  (fun i _=>len+k - (intOf i).toNat)
 case atStart=>exact ⟨0,0,[],Nat.zero_le _,by simp [Same],Nat.zero_le _,rfl,rfl,h0,rfl,rfl⟩
 case round=>
  obtain ⟨c,i0,pre,hc,hi0,hile,rfl,hpre,hJs,hk1,hk3⟩:=hrel
  have hc1:wr.cell? ⟨b1,0,none⟩=some (.slice a len cap):=hk1.trans hB1
  have hc2:wr.cell? ⟨b2,0,none⟩=some (.int .i64 k):=hk3.trans hB2
  have hbig:=qj
  by_cases hlt:i0<len
  ·have hcm1:c<m:=by
    unfold Same at hi0
    subst hm0 hi0
    unfold uc
    refine (Nat.le_div_iff_mul_le hk).2 ?_
    rw [Nat.succ_mul]
    omega
   have hlt':(i0:Int)<len:=by omega
   obtain ⟨e0,he0⟩:∃e0,e0=min k (len - i0):=⟨_,rfl⟩
   have he1:min (k:Int) (len - i0:Nat)=e0:=by omega
   have he2:0<e0:=by omega
   have he3:i0+e0<=len:=by omega
   obtain ⟨fn,tmps,assign,body,hy,hR⟩:=hY _ (⟨c,hcm1⟩:Fin m) wr.drew (hJd _ _ hJs) (by have:=congrArg List.length hpre;simp at this;omega)
   unfold vz at hy
   dsimp only at hy
   rw [<-show i0=c*k from hi0,<-he0] at hy
   have hyA:∀x:Nat,e0=x->(Instr.yield l #[Value.slice (Option.map (fun y=>y.add i0) a) (((i0:Int)+(x:Int)).toNat - i0) (((i0:Int)+(x:Int)).toNat - i0)]).run Tryz.prog wr.drew= .ok (.round l fn tmps assign body) wr.drew:=fun x hx=>by
    rw [<-hy,<-hx]
    unfold sliced
    rw [if_neg (by omega),show ((i0:Int)+(e0:Int)).toNat=i0+e0 by omega,Nat.mul_one]
   clear hy
   have hd1:wr.drew.cell? ⟨b1,0,none⟩=some (.slice a len cap):=hc1
   have hd2:wr.drew.cell? ⟨b2,0,none⟩=some (.int .i64 k):=hc2
   gi_wp2
   gi_region_o
   all_goals gi_wp2
   all_goals
    rw [hyA _ (by omega)]
    refine ⟨fun h=>(by cases h),hR.mono ?_⟩
    rintro e W3 ⟨rfl,hJ3,hk5,hk6⟩
    ·have hc3:W3.cell? ⟨b1,0,none⟩=some (.slice a len cap):=hk5.trans hd1
     have hc4:W3.cell? ⟨b2,0,none⟩=some (.int .i64 k):=hk6.trans hd2
     gi_wp2
     go_roundw
     case rel=>exact ⟨c+1,i0+k,pre++ [⟨c,hcm1⟩],by omega,by unfold Same at*;rw [hi0,Nat.succ_mul],by omega,by simp,by rw [Mm,hpre,Mu];rfl,hJ3,hk5.trans hk1,hk6.trans hk3⟩
     case measure=>simp [intOf];omega
  ·have hcm2:c=m:=by
    refine Nat.le_antisymm hc (Nat.le_of_not_lt fun h=>hlt ?_)
    rw [show i0=c*k from hi0]
    exact Gk hk (hm0▸h)
   have hlt':¬((i0:Int)<len):=by omega
   gi_wp2
   go_end0
   exact ⟨⟨_,rfl⟩,pre,hpre.trans (by rw [hcm2,<-hm0]),hJs⟩
theorem nf:Hg Tryz.prog 117:=by
 refine ⟨enters_of Tryz.func117 (by kernel_rfl) rfl,fun n l a len cap k m b1 b2 hm hk hk2 hlc hlb J hY hJd W h1 h2 h0=>?_⟩
 exact eZ n l b1 b2 len cap k m a hm hk hk2 hlc hlb J hY hJd W h1 h2 h0
end Go.Proofs.YtgopigkdcmhbbaaGreatDoor
end
section
namespace Go.Proofs.YtgopigkdcmhbbaaGreatDoor
open Go Go.Aw
abbrev W:=UInt32
def wD (x:W):D:= .int .u32 (x.toNat:Int)
theorem W.lt (x:W):x.toNat<4294967296:=x.toNat_lt
theorem vV (x y:W):bits .xor .u32 (x.toNat:Int) (y.toNat:Int)=((x ^^^ y).toNat:Int):=by rw [u32_xor_nat _ _ x.lt y.lt,UInt32.toNat_xor]
theorem Gv (x y:W):bits .and .u32 (x.toNat:Int) (y.toNat:Int)=((x&&&y).toNat:Int):=by rw [u32_and_nat _ _ x.lt y.lt,UInt32.toNat_and]
theorem lG (x y:W):bits .or .u32 (x.toNat:Int) (y.toNat:Int)=((x|||y).toNat:Int):=by rw [u32_or_nat _ _ x.lt y.lt,UInt32.toNat_or]
theorem oz (x y:W):IntKind.u32.wrap ((x.toNat:Int)+(y.toNat:Int))=((x+y).toNat:Int):=by
 rw [IntKind.wrap_u32',UInt32.toNat_add];omega
theorem CC (x:W):bits .xor .u32 IntKind.u32.max (x.toNat:Int)=((x ^^^ 0xffffffff).toNat:Int):=by
 have h:IntKind.u32.max=((0xffffffff:W).toNat:Int):=by decide
 rw [h,vV,UInt32.xor_comm]
theorem tD (x:W):bits .xor .u32 (if IntKind.u32.signed=true then -1 else IntKind.u32.max) (x.toNat:Int)=((x ^^^ 0xffffffff).toNat:Int):=CC x
theorem Wd (x:W) (k:Nat) (hk:k<32):IntKind.u32.wrap ((x.toNat:Int)*2 ^ k)=((x<<<UInt32.ofNat k).toNat:Int):=by
 rw [IntKind.wrap_u32',UInt32.toNat_shiftLeft,Nat.shiftLeft_eq]
 have h:(UInt32.ofNat k).toNat % 32=k:=by rw [UInt32.toNat_ofNat'];omega
 rw [h]
 have h2:((2:Int) ^ k)=((2 ^ k:Nat):Int):=by simp
 rw [h2,<-Int.natCast_mul]
 omega
theorem Yu (x:W) (k:Nat) (hk:k<32):((x.toNat:Int)).fdiv (2 ^ k)=((x>>>UInt32.ofNat k).toNat:Int):=by
 rw [UInt32.toNat_shiftRight,Nat.shiftRight_eq_div_pow]
 have h:(UInt32.ofNat k).toNat % 32=k:=by rw [UInt32.toNat_ofNat'];omega
 rw [h]
 have h2:((2:Int) ^ k)=((2 ^ k:Nat):Int):=by simp
 rw [h2,Int.fdiv_eq_ediv_of_nonneg _ (Mf _)]
 exact (Int.natCast_ediv _ _).symm
def rotr (x:W) (n:Nat):W:=(x>>>UInt32.ofNat n)|||(x<<<UInt32.ofNat (32 - n))
theorem mU (x:UInt8):IntKind.u32.wrap (x.toNat:Int)=((x.toUInt32).toNat:Int):=by
 rw [IntKind.wrap_u32',UInt8.toNat_toUInt32]
 have:=x.toNat_lt
 omega
theorem Hw (x:W):IntKind.u32.wrap ((x.toNat:Int)*2 ^ min (Int.toNat 8) IntKind.u32.bits)=((x<<<8).toNat:Int):=Wd x 8 (by decide)
theorem DS (x:W):((x.toNat:Int)).fdiv (2 ^ min (Int.toNat 3) IntKind.u32.bits)=((x>>>3).toNat:Int):=Yu x 3 (by decide)
theorem CK (x:W):((x.toNat:Int)).fdiv (2 ^ min (Int.toNat 10) IntKind.u32.bits)=((x>>>10).toNat:Int):=Yu x 10 (by decide)
theorem eX:IntKind.bits .u32=32:=rfl
end Go.Proofs.YtgopigkdcmhbbaaGreatDoor
end
noncomputable section
namespace Go.Proofs.YtgopigkdcmhbbaaGreatDoor
open Go.Xs
open Go Go.Aw
noncomputable def am:=yy Tryz.f148
def V148:=PLift.up (aI (@unf (am 4) (F [u,u,u,u,u,u,u,v,u]) rfl) (aI (@unf (am 2) (R [u,u,v,u] (am 4)) rfl) (@unf (am 0) (R [u] (am 2)) rfl)))
theorem AR:type_of% V148.down:=V148.down
theorem Im:Bt 148 17 (am 0) [(.tmp 4)]:=bt Tryz.func148 rfl
noncomputable def mc:=yy Tryz.f146
def V146:=PLift.up (aI (@unf (mc 2) (F [u,u,u,u,u,u,u,u,u,u,u,u,u,v,u]) rfl) (@unf (mc 0) (R [u] (mc 2)) rfl))
theorem U146:type_of% V146.down:=V146.down
theorem EV:Bt 146 23 (mc 0) [(.tmp 8)]:=bt Tryz.func146 rfl
noncomputable def wC:=yy Tryz.f145
def V145:=PLift.up (aI (aI (aI (@unf (wC 38) (r [u,u,u,u,u,u,u,v,u,u]) rfl) (aI (@unf (wC 34) (X (O (R [u,v,u] (wC 38))) (r [u,u])) rfl) (@unf (wC 28) (R [u] (X I (wC 34))) rfl))) (aI (@unf (wC 23) (X (R [u,u,u,u,u,u,u,u,u] (U (wC 28))) (.exit _)) rfl) (aI (@unf (wC 48) (G [u,u,u,u,u,u,u,u,u,u,u,u,u,v,u,u]) rfl) (@unf (wC 46) (R [u,u,u,u,u,u,u,v,u] (wC 48)) rfl)))) (aI (aI (@unf (wC 44) (R [u,u,u,u,u,u,u,v,u] (wC 46)) rfl) (aI (@unf (wC 42) (X (G [u,u,u,v,u,u,u,v,u,u]) (wC 44)) rfl) (@unf (wC 19) (X (R [u,u] (T (wC 23))) (wC 42)) rfl))) (aI (aI (@unf (wC 15) (X (O (R [v,u] (wC 19))) (r [u,u])) rfl) (@unf (wC 9) (R [u] (X I (wC 15))) rfl)) (aI (@unf (wC 4) (X (R [u] (U (wC 9))) (F [v,u])) rfl) (@unf (wC 0) (R [u] (R [u] (wC 4))) rfl)))))
theorem WH:type_of% V145.down:=V145.down
theorem HL:Bt 145 79 (wC 0) [(.cell 2 203)]:=bt Tryz.func145 rfl
noncomputable def wW:=yy Tryz.f142
def x142_s11:XC:=(.seq (.regT [] [([a (.slice 180 (t 2) .none (.some (i 4)) .none) 15,a (.sliceToArrayPointer 207 (t 15)) 16,L 207 16 17,a (.slice 180 (t 2) (.some (i 4)) .none .none) 18,a (.sliceToArrayPointer 207 (t 18)) 19,L 207 19 20],a (.alloc 207) 6,false),([],a (.alloc 207) 7,false),([],w 207 6 17,false)] [] [w 207 7 20]) (.seq (R [a (.load 203 (.global 1)) 21,J 0 22] (.block 0 (.loop (wW 11)))) (wW 29)))
def x142_s12:XC:=(.seq (wW 3) x142_s11)
def Cb:XC:=(R [B 180 0 2,a (.alloc 180) 4] x142_s12)
def V142r:=PLift.up (aI (@unf (wW 3) (r [u,v,u,u]) rfl) trivial)
theorem vv:type_of% V142r.down:=V142r.down
def V142:=PLift.up (aI (aI (aI (@unf (wW 27) (r [u,u,u,u,u,u,u,u,u,v,u]) rfl) (aI (@unf (wW 25) (R [u,u,u,u,u,u,u,u,u,u,v,u] (wW 27)) rfl) (@unf (wW 23) (X (G [u,u,u,u,u,u,u,u,u,u,u,u,u,u,u,u,u,u,u,u,v,u]) (wW 25)) rfl))) (aI (@unf (wW 21) (X (G [u,u,u,u,u,u,u,u,u,u,u,u,u,u,u,u,u,u,u,u,u,u,u,u,v,u]) (wW 23)) rfl) (aI (@unf (wW 17) (X (O (R [v,v,u,u] (wW 21))) (r [u,u])) rfl) (@unf (wW 11) (R [u] (X I (wW 17))) rfl)))) (aI (aI (@unf (wW 46) (G [u,u,u,u,u,u,u,v,u,u]) rfl) (aI (@unf (wW 44) (X (G [u,u,u,u,u,u,v,u,u]) (wW 46)) rfl) (@unf (wW 40) (X (O (R [v,u] (wW 44))) (r [u,u])) rfl))) (aI (aI (@unf (wW 34) (R [u] (X I (wW 40))) rfl) (@unf (wW 29) (X (R [u] (U (wW 34))) (F [v,u])) rfl)) (aI (@unf _ _ x142_s11.eq_1) (@unf _ _ x142_s12.eq_1)))))
theorem Jc:type_of% V142.down:=V142.down
theorem El:Bt 142 116 Cb [(.cell 4 180)]:=bt Tryz.func142 rfl
noncomputable def fX:=yy Tryz.f122
def V122:=PLift.up (aI (@unf (fX 2) (F [u,v,u]) rfl) (@unf (fX 0) (R [u] (fX 2)) rfl))
theorem U122:type_of% V122.down:=V122.down
theorem Ha:Bt 122 3 (fX 0) [(.cell 0 183)]:=bt Tryz.func122 rfl
noncomputable def Yh:=yy Tryz.f123
def x123_s4:XC:=(R [f 183 2 1 13,m 5 14,a (.slice 181 (t 13) (.some (t 14)) .none .none) 15,m 1 16,b (.call ⟨(.builtin .copy),#[t 15,t 16],#[55,9]⟩) 17,n 17 6] (Yh 16))
def x123_s5:XC:=(.block 1 (.seq (Yh 13) x123_s4))
def x123_L6:XC:=(.seq (R [m 1 7,a (.binOp .neq 9 (t 7) (.const (.string ⟨#[]⟩)) 9) 8] (C 8 .skip (.exit 0))) x123_s5)
def C7:XC:=(R [B 183 0 2,a (.alloc 183) 4] (.seq (.block 0 (.loop x123_L6)) (R [L 183 2 37,w 183 4 37] .ret)))
def V123r:=PLift.up (aI (@unf (Yh 13) (r [u,u,u,v,u]) rfl) trivial)
theorem YG:type_of% V123r.down:=V123r.down
def V123:=PLift.up (aI (aI (@unf (Yh 23) (G [u,u,u,u,v,u,u]) rfl) (aI (@unf (Yh 20) (R [u,u,u,u] (T (Yh 23))) rfl) (@unf (Yh 18) (R [u,u,u,u,v,u,u] (Yh 20)) rfl))) (aI (aI (@unf (Yh 16) (R [u,u,v,u] (Yh 18)) rfl) (@unf _ _ x123_s4.eq_1)) (aI (@unf _ _ x123_s5.eq_1) (@unf _ _ x123_L6.eq_1))))
theorem tI:type_of% V123.down:=V123.down
theorem Hj:Bt 123 38 C7 [(.cell 4 183)]:=bt Tryz.func123 rfl
noncomputable def wP:=yy Tryz.f124
def V124:=PLift.up (aI (aI (aI (@unf (wP 15) (O (r [x,u,v,u])) rfl) (aI (@unf (wP 9) (X (R [u,u,u,u,u,u,u,u] I) (wP 15)) rfl) (@unf (wP 32) (r [x,u,u,u,u,u,u,u,v,u]) rfl))) (aI (@unf (wP 28) (X (O (R [v,u] (wP 32))) (r [u,u])) rfl) (aI (@unf (wP 22) (R [u] (X I (wP 28))) rfl) (@unf (wP 53) (r [u,u,u,u,u,u,u,u,u,u,u,v,u,u]) rfl)))) (aI (aI (@unf (wP 49) (X (O (R [v,u] (wP 53))) (r [u,u])) rfl) (aI (@unf (wP 43) (R [u] (X I (wP 49))) rfl) (@unf (wP 38) (X (R [u] (U (wP 43))) (F [v,u])) rfl))) (aI (aI (@unf (wP 34) (R [u,u,u,v,u] (R [u] (wP 38))) rfl) (@unf (wP 4) (R [v,u] (X (U (wP 9)) (X (R [u] (U (wP 22))) (wP 34)))) rfl)) (aI (@unf (wP 2) (R [u,u,v,u] (wP 4)) rfl) (@unf (wP 0) (R [u,u] (wP 2)) rfl)))))
theorem KJ:type_of% V124.down:=V124.down
theorem Ii:Bt 124 58 (wP 0) [(.cell 2 177)]:=bt Tryz.func124 rfl
noncomputable def bZ:=yy Tryz.f95
def x95_s6:XC:=(.seq (.regT [] [([a (k 122 #[] #[]) 9,m 0 10,a (.convert 3 5 (t 10)) 11,a (.buildSlice 55 1 #[(0,(t 11))]) 12,a (.convert 55 9 (t 12)) 13,K2 123 9 13 183 9 14],a (.alloc 183) 5,false)] [] [w 183 5 14]) (bZ 4))
def x95:XC:=(R [a (.alloc 33) 4] x95_s6)
def V95:=PLift.up (aI (aI (@unf (bZ 19) (G [u,u,u,u,v,u]) rfl) (aI (@unf (bZ 15) (X (O (R [u,v,u] (bZ 19))) (r [u,u])) rfl) (@unf (bZ 9) (R [u] (X I (bZ 15))) rfl))) (aI (aI (@unf (bZ 23) (F [u,u,v,u]) rfl) (@unf (bZ 21) (R [u,v,u,u] (bZ 23)) rfl)) (aI (@unf (bZ 4) (X (R [u,u,u] (U (bZ 9))) (bZ 21)) rfl) (@unf _ _ x95_s6.eq_1))))
theorem xr:type_of% V95.down:=V95.down
theorem b95:Bt 95 32 x95 [(.cell 4 33)]:=bt Tryz.func95 rfl
noncomputable def Vy:=yy Tryz.f135
def x135_s4:XC:=(.seq (.regD [a (.slice 181 (t 4) .none .none .none) 6,l 9 1 7,a (.call ⟨(.builtin .copy),#[t 6,t 7],#[55,9]⟩) 8]) (.seq (R [J 0 9] (.block 0 (.loop (Vy 11)))) (Vy 23)))
def BE:XC:=(R [S 3] (R [a (.alloc 181) 4] x135_s4))
def V135:=PLift.up (aI (aI (@unf (Vy 21) (r [u,u,u,u,v,u,u]) rfl) (@unf (Vy 17) (X (O (R [v,u] (Vy 21))) (r [u,u])) rfl)) (aI (@unf (Vy 11) (R [u] (X I (Vy 17))) rfl) (aI (@unf (Vy 23) (F [u,v,u]) rfl) (@unf _ _ x135_s4.eq_1))))
theorem ij:type_of% V135.down:=V135.down
theorem HF:Bt 135 21 BE [(.tmp 3)]:=bt Tryz.func135 rfl
noncomputable def UW:=yy Tryz.f103
def x103_s3:XC:=(.seq (.regT [] [([a (k 122 #[] #[]) 25,m 6 26,a (.call ⟨(.value (t 26)),#[(.const (.int .u8 92))],#[5]⟩) 27,k2 123 25 27 183 9 28,a (.slice 177 (t 7) .none .none .none) 29,a (.convert 55 9 (t 29)) 30,k2 123 28 30 183 9 31,K1 124 31 183 32],a (.alloc 177) 8,false)] [] [w 177 8 32]) (UW 16))
def x103_s4:XC:=(.seq (UW 13) x103_s3)
def x103_s5:XC:=(.seq (R [l 9 2 9,e 9 9 10,q .gtr 3 10 64 11] (C 11 (UW 6) .skip)) (R [b (.makeFunc (.func 135) #[] #[t 2]) 17,n 17 6] x103_s4))
def Bx:XC:=(R [B 9 0 2,S 4] x103_s5)
def V103r:=PLift.up (aI (@unf (UW 13) (r [u,u,u,u,u,u,v,u,u]) rfl) trivial)
theorem oL:type_of% V103r.down:=V103r.down
def V103:=PLift.up (aI (aI (@unf (UW 8) (r [u,v,u]) rfl) (aI (@unf (UW 6) (R [u,u,v,u,u] (UW 8)) rfl) (@unf (UW 16) (F [u,v,u]) rfl))) (aI (@unf _ _ x103_s3.eq_1) (aI (@unf _ _ x103_s4.eq_1) (@unf _ _ x103_s5.eq_1))))
theorem nX:type_of% V103.down:=V103.down
theorem Fh:Bt 103 35 Bx [(.tmp 4)]:=bt Tryz.func103 rfl
noncomputable def DN:=yy Tryz.f96
def V96:=PLift.up (aI (@unf (DN 2) (F [u,u,v,u]) rfl) (@unf (DN 0) (R [u] (DN 2)) rfl))
theorem U96:type_of% V96.down:=V96.down
theorem b96:Bt 96 6 (DN 0) [(.tmp 2)]:=bt Tryz.func96 rfl
noncomputable def Dd:=yy Tryz.f65
def V65:=PLift.up (aI (@unf (Dd 2) (F [u,u,u,u,u,u,u,u,u,u,v,u]) rfl) (@unf (Dd 0) (R [u] (Dd 2)) rfl))
theorem U65:type_of% V65.down:=V65.down
theorem b65:Bt 65 18 (Dd 0) [(.cell 6 33)]:=bt Tryz.func65 rfl
noncomputable def fO:=yy Tryz.f55
def V55:=PLift.up (aI (aI (@unf (fO 16) (r [u,v,u]) rfl) (@unf (fO 13) (X (O (G [u,u,u,u,u,u,u,u,v,u])) (fO 16)) rfl)) (aI (@unf (fO 7) (X (R [u,u,u] I) (fO 13)) rfl) (aI (@unf (fO 2) (X (R [v,u] (U (fO 7))) (F [v,u])) rfl) (@unf (fO 0) (R [u,u] (fO 2)) rfl))))
theorem B6:type_of% V55.down:=V55.down
theorem b55:Bt 55 28 (fO 0) [(.cell 10 33)]:=bt Tryz.func55 rfl
noncomputable def DK:=yy Tryz.f56
def V56:=PLift.up (aI (@unf (DK 2) (X (G [u,u,u,u,u,v,u]) .ret) rfl) (@unf (DK 0) (R [u,u,u] (DK 2)) rfl))
theorem U56:type_of% V56.down:=V56.down
theorem b56:Bt 56 11 (DK 0) [(.cell 4 33)]:=bt Tryz.func56 rfl
end Go.Proofs.YtgopigkdcmhbbaaGreatDoor
end
section
namespace Go.Proofs.YtgopigkdcmhbbaaGreatDoor
open Go Go.Aw
theorem K6 {R:D->AH->Prop} (hn:0<n) (hn2:n<32) (hk:bits .and .u64 (IntKind.u64.wrap k) 31=((32 - n:Nat):Int)) (h:R (wD (rotr x n)) H):
  ACall Tryz.prog 148 [wD x,.i k] H R:=by
 refine Im fun hf=>?_
 simp+contextual only [↓AR,wD,↓AR,↓XP,qh,qa,qb]
 have h64:IntKind.u64.wrap (32 - ((32 - n:Nat):Int))=(n:Int):=by rw [show IntKind.u64.wrap (32 - ((32 - n:Nat):Int))=(32 - ((32 - n:Nat):Int)) % 18446744073709551616 by simp [IntKind.wrap,IntKind.bits,IntKind.signed]];omega
 rw [hk,h64]
 refine ⟨Mf _,Mf _,?_⟩
 rw [Md,Md,eX,Nat.min_eq_left (by omega),Nat.min_eq_left (by omega),Wd x _ (by omega),Yu x _ hn2,lG,UInt32.or_comm]
 exact h
theorem n5 {R:D->AH->Prop} (hi:0<i∧i<32) (hj:0<j∧j<32) (hk:0<k∧k<32) (h:R (wD (rotr x i ^^^ rotr x j ^^^ rotr x k)) H):
  ACall Tryz.prog 146 [wD x,.i i,.i j,.i k] H R:=by
 have hneg:∀n:Nat,0<n∧n<32->bits .and .u64 (IntKind.u64.wrap (IntKind.i64.wrap (0 - (n:Int)))) 31=((32 - n:Nat):Int):=by
  intro n hn
  have:n=1∨n=2∨n=3∨n=4∨n=5∨n=6∨n=7∨n=8∨n=9∨n=10∨n=11∨n=12∨n=13∨n=14∨n=15∨n=16∨n=17∨n=18∨n=19∨n=20∨n=21∨n=22∨n=23∨n=24∨n=25∨n=26∨n=27∨n=28∨n=29∨n=30∨n=31:=by omega
  rcases this with rfl|rfl|rfl|rfl|rfl|rfl|rfl|rfl|rfl|rfl|rfl|rfl|rfl|rfl|rfl|rfl|rfl|rfl|rfl|rfl|rfl|rfl|rfl|rfl|rfl|rfl|rfl|rfl|rfl|rfl|rfl<;>decide
 refine EV fun hf=>?_
 simp+contextual only [↓U146,wD,↓U146.1,↓XP,qo,qa,qb,↓XH]
 refine K6 hi.1 hi.2 (hneg i hi) ?_
 simp+contextual only [wD,↓XP,qo,↓XH]
 intro _
 refine K6 hj.1 hj.2 (hneg j hj) ?_
 simp+contextual only [wD,vV,↓XP,qo,↓XH]
 intro _
 refine K6 hk.1 hk.2 (hneg k hk) ?_
 simp+contextual only [wD,vV,↓XP,qo]
 intro _
 exact h
end Go.Proofs.YtgopigkdcmhbbaaGreatDoor
end
section
namespace Go.Aw
open Go Go.RowKit
theorem XW.loopS (hm:P.follows .mixedOrders=true) {σ:Type} (n:Nat) (fr:σ->List (Nat×D)) (hp:σ->AH) (μ:σ->Nat) (inv:σ->Prop) (s0:σ)
  (i0:inv s0) (f0:Fr n (fr s0) F) (e0:hp s0=H)
  (round:∀s (z:Nat->D),inv s->∀K:AQ,(∀s' F' H',inv s'->μ s'<μ s->Fr n (fr s') F'->back (hp s).length H'=hp s'->K .normal F' H')->(∀i F' H',Q (.exit i) F' H'->K (.exit i) F' H')->(∀F' H',Q .ret F' H'->K .ret F' H')->
   xcode P x (fl (fr s) z 0 n) (hp s) K) (hs:∀s,fso (fr s) 0 n=true:=by exact fun _=>rfl):XW P x F H Q:=by
 let I:Nat->List D->AH->Prop:=fun m F H=>∃s,inv s∧Fr n (fr s) F∧hp s=H∧μ s=m
 refine XW.loopK hm (fun F H=>∃m,I m F H) (fun F H=>open Classical in if h:∃m,I m F H then Classical.choose (least (fun m=>I m F H) h.choose h.choose_spec) else 0) ⟨_,s0,i0,f0,e0,rfl⟩ ?_
 intro F H hI K hN hE hR
 have hmin:=Classical.choose_spec (least (fun m=>I m F H) hI.choose hI.choose_spec)
 simp only [dif_pos hI] at hN
 generalize Classical.choose (least (fun m=>I m F H) hI.choose hI.choose_spec)=m at hmin hN
 obtain ⟨⟨s,h1,h2,h3,h4⟩,hl⟩:=hmin
 obtain ⟨z,rfl⟩:=h2.fl (hs _)
 subst h3 h4
 refine round s z h1 K (fun s' F' H' g1 g2 g3 g4=>hN F' H' ⟨_,s',g1,g3,g4.symm,rfl⟩ ?_) hE hR
 have hex:∃m,I m F' (back (hp s).length H'):=⟨_,s',g1,g3,g4.symm,rfl⟩
 simp only [dif_pos hex]
 have hmin':=Classical.choose_spec (least (fun m=>I m F' (back (hp s).length H')) hex.choose hex.choose_spec)
 generalize Classical.choose (least (fun m=>I m F' (back (hp s).length H')) hex.choose hex.choose_spec)=m' at hmin'
 have:m'<=μ s':=Nat.le_of_not_lt fun hlt=>hmin'.2 _ hlt ⟨s',g1,g3,g4.symm,rfl⟩
 omega
section
variable {α:Type} {f:α->List D} {l a b:List α} {i n:Nat}
theorem jx (h:i<l.length):l.getD i d=l[i]:=by simp [h]
end
end Go.Aw
end
section
namespace Go.Proofs.YtgopigkdcmhbbaaGreatDoor
open Go Go.Aw
def bD (c:UInt8):D:= .int .u8 (c.toNat:Int)
theorem yo (x:W):wX .u32 (x.toNat:Int)=True:=eq_true (by have:=x.lt;simp [wX,Lit.wf,IntKind.min,IntKind.max,IntKind.signed,IntKind.bits];omega)
theorem GI (x:UInt8):wX .u8 (x.toNat:Int)=True:=eq_true (by have:=x.toNat_lt;simp [wX,Lit.wf,IntKind.min,IntKind.max,IntKind.signed,IntKind.bits];omega)
def o0 (m:List UInt8) (t:Nat):Nat->W
 |0=>0
 |i+1=>(o0 m t i<<<8)|||(m.getD (4*t+i) 0).toUInt32
def sE (p:W):W:=rotr p 7 ^^^ rotr p 18 ^^^ (p>>>3)
def pt (q:W):W:=rotr q 17 ^^^ rotr q 19 ^^^ (q>>>10)
def UP (m:List UInt8) (l:List W) (t:Nat):W:=if t<16 then o0 m t 4 else l.getD (t - 16) 0+sE (l.getD (t - 15) 0)+l.getD (t - 7) 0+pt (l.getD (t - 2) 0)
def wg (m:List UInt8):Nat->List W
 |0=>[]
 |t+1=>wg m t++ [UP m (wg m t) t]
theorem jh (m:List UInt8):∀t,(wg m t).length=t
 |0=>rfl
 |t+1=>by simp [wg,jh m t]
def arr (l:List W):List D:=l.map wD++List.replicate (64 - l.length) (wD 0)
theorem JF (h:l.length<=64):(arr l).length=64:=by simp [arr];omega
theorem wZ (h:i<l.length):(arr l)[i]?=some (wD (l.getD i 0)):=by
 rw [arr,Mj (by simpa using h),Mb,Ma h]
 simp [List.getD,Ma h]
theorem dq:(arr (l++ [x]))[l.length]?=some (wD x):=by
 rw [wZ (by simp)];simp [List.getD]
theorem GF:(arr (l++ [x])).set l.length (wD y)=arr (l++ [y]):=by
 unfold arr
 rw [List.set_append_left _ _ (by simp)]
 simp
theorem UA (h:l.length<64):arr l=arr (l++ [0]):=by
 unfold arr
 rw [show 64 - l.length=(64 - (l++ [(0:W)]).length)+1 by simp;omega,List.replicate_succ]
 simp
theorem WV (h:l.length<64):(arr l).set l.length (wD y)=arr (l++ [y]):=by rw [UA h,GF]
theorem wv (l:List W):(l.map wD).map D.view1=l.map wD:=by rw [Mx];rfl
theorem wt {l:List W} {n:Nat} (h:l.length=n):(l.map wD).take n=l.map wD:=by rw [Mo];simp [h]
theorem Ud:(arr []).drop 64= []:=rfl
theorem VO (h:l.length=64):arr l=l.map wD:=by simp [arr,h]
theorem ZP {m:List UInt8} {p o:Nat} {cs:List D} {H:AH} {R:D->AH->Prop} (hp:qn H p=some (.cells cs)) (hc:∀i,i<64->cs[o+i]?=some (bD (m.getD i 0))) (h:R (.agg ((wg m 64).map wD)) H):
  ACall Tryz.prog 145 [.hso p o 64] H R:=by
 refine HL fun hf=>?_
 simp+contextual only [↓WH,↓WH,↓XP,qh,XW1,qa]
 have hbig:=qj
 intro b hb b1 hb1
 refine XW.loopS hmm 79 (fun t:Nat=>[(0,.hso p o 64),(2,.ptr b 0),(3,.ptr b1 0),(11,.i ((t:Nat):Int))]) (fun t=>(b1,.cells (arr (wg m t)))::(b,.cells (arr []))::H) (fun t=>64 - t) (fun t=>t<=64) 0 (by omega) ⟨rfl,rfl,rfl,rfl,rfl,trivial⟩ rfl ?_
 intro t z ht K hN hE hR
 dsimp only [fl,zz,qa,qb]
 have hpb:=qT hb hp
 have hpb1:=qT hb1.2 hp
 by_cases hlt:t<64
 ·have hlt':((t:Int)<64)=True:=eq_true (by omega)
  by_cases h16:t<16
  ·have h16':((t:Int)<16)=True:=eq_true (by omega)
   have w4:IntKind.i64.wrap (4*(t:Int))=((4*t:Nat):Int):=by rw [qm (by omega) (by omega)];omega
   have w5:IntKind.i64.wrap (((4*t:Nat):Int)+4)=((4*t+4:Nat):Int):=by rw [qm (by omega) (by omega)];omega
   have hz:=UA (l:=wg m t) (by rw [jh];exact hlt)
   simp+contextual only [hlt',h16',w4,w5,Nat.mul_one,hz,show 4*t+4 - 4*t=4 by omega,↓WH,↓Jt,qh,↓XH]
   refine ⟨by omega,by omega,by omega,?_⟩
   refine XW.loopS hmm 79 (fun i:Nat=>[(0,.hso p o 64),(2,.ptr b 0),(3,.ptr b1 0),(4,.i (t:Int)),(11,.i (t:Int)),(22,.hso p (o+4*t) 4),(23,.i 4),(24,.i ((i:Nat):Int))]) (fun i=>(b1,.cells (arr (wg m t++ [o0 m t i])))::(b,.cells (arr []))::H) (fun i=>4 - i) (fun i=>i<=4) 0 (by omega) ⟨rfl,rfl,rfl,rfl,rfl,rfl,rfl,rfl,rfl,trivial⟩ rfl ?_
   intro i z hi K2 hN2 hE2 hR2
   dsimp only [fl,zz,qa,qb]
   by_cases hi4:i<4
   ·have hi4':((i:Int)<(4:Int))=True:=eq_true (by omega)
    have g1:=hc (4*t+i) (by omega)
    rw [<-Nat.add_assoc] at g1
    have g2:=dq (l:=wg m t) (x:=o0 m t i)
    rw [jh] at g2
    simp+contextual only [hi4',Nat.mul_one,qg hpb1,qg hpb,hp,g1,g2,bD,wD,lG,Hw,mU,↓WH,↓Jt,qh]
    refine ⟨by omega,fun _=>⟨by omega,fun _=>⟨by decide,by omega,by rw [JF (by simp [jh];omega)];omega,?_⟩⟩⟩
    have g3:=GF (l:=wg m t) (x:=o0 m t i) (y:=o0 m t (i+1))
    rw [jh] at g3
    have g4:(D.int .u32 ↑((o0 m t i<<<8|||(m.getD (4*t+i) 0).toUInt32).toNat))=wD (o0 m t (i+1)):=rfl
    rw [qi (by omega),g4,g3]
    exact hN2 (i+1) _ _ (by omega) (by omega) ⟨rfl,rfl,rfl,rfl,rfl,rfl,rfl,rfl,rfl,trivial⟩ (qz rfl)
   ·have hi4':((i:Int)<(4:Int))=False:=eq_false (by omega)
    obtain rfl:i=4:=by omega
    simp+contextual only [hi4',↓WH,↓XP,qo]
    apply hE2
    simp+contextual only [↓XP,qo,XW1,qf]
    have hw:wg m t++ [o0 m t 4]=wg m (t+1):=by rw [wg,UP,if_pos h16]
    rw [qi (by omega),hw]
    exact hN (t+1) _ _ (by omega) (by omega) ⟨rfl,rfl,rfl,rfl,rfl,trivial⟩ (qz rfl)
  ·have h16':((t:Int)<16)=False:=eq_false (by omega)
   have w15:IntKind.i64.wrap ((t:Int) - 15)=((t - 15:Nat):Int):=by rw [qm (by omega) (by omega)];omega
   have w2:IntKind.i64.wrap ((t:Int) - 2)=((t - 2:Nat):Int):=by rw [qm (by omega) (by omega)];omega
   have w16:IntKind.i64.wrap ((t:Int) - 16)=((t - 16:Nat):Int):=by rw [qm (by omega) (by omega)];omega
   have w7:IntKind.i64.wrap ((t:Int) - 7)=((t - 7:Nat):Int):=by rw [qm (by omega) (by omega)];omega
   have g15:=wZ (l:=wg m t) (i:=t - 15) (by rw [jh];omega)
   have g2:=wZ (l:=wg m t) (i:=t - 2) (by rw [jh];omega)
   have g16:=wZ (l:=wg m t) (i:=t - 16) (by rw [jh];omega)
   have g7:=wZ (l:=wg m t) (i:=t - 7) (by rw [jh];omega)
   simp+contextual only [hlt',h16',w15,w2,g15,g2,Nat.mul_one,wD,↓WH,↓XP,qh]
   refine ⟨by omega,fun _=>⟨by omega,fun _=>?_⟩⟩
   refine K6 (n:=7) (by decide) (by decide) (by decide) ?_
   simp+contextual only [wD,↓XP,qo]
   intro _
   refine K6 (n:=18) (by decide) (by decide) (by decide) ?_
   simp+contextual only [wD,vV,DS,↓WH,↓XP,qo]
   refine fun _=>⟨by decide,?_⟩
   refine K6 (n:=17) (by decide) (by decide) (by decide) ?_
   simp+contextual only [wD,↓XP,qo]
   intro _
   refine K6 (n:=19) (by decide) (by decide) (by decide) ?_
   simp+contextual only [wD,vV,oz,CK,w16,w7,g16,g7,Nat.mul_one,↓WH,↓XP,qh]
   refine fun _=>⟨by decide,by omega,fun _=>⟨by omega,fun _=>⟨by omega,by rw [JF (by rw [jh];omega)];omega,?_⟩⟩⟩
   have hw:wg m (t+1)=wg m t++ [(wg m t).getD (t - 16) 0+sE ((wg m t).getD (t - 15) 0)+(wg m t).getD (t - 7) 0+pt ((wg m t).getD (t - 2) 0)]:=by rw [wg,UP,if_neg h16]
   have g3:=WV (l:=wg m t) (y:=(wg m t).getD (t - 16) 0+sE ((wg m t).getD (t - 15) 0)+(wg m t).getD (t - 7) 0+pt ((wg m t).getD (t - 2) 0)) (by rw [jh];exact hlt)
   rw [jh,<-hw] at g3
   unfold sE pt wD at g3
   rw [qi (by omega),g3]
   exact hN (t+1) _ _ (by omega) (by omega) ⟨rfl,rfl,rfl,rfl,rfl,trivial⟩ (qz rfl)
 ·have hlt':((t:Int)<64)=False:=eq_false (by omega)
  obtain rfl:t=64:=by omega
  simp+contextual only [hlt',↓WH,↓XP,qo]
  apply hE
  simp+contextual only [qg hb1.1,qk hb1.1,VO (jh m 64),wt (jh m 64),wv,Ud,jh,↓XP,qh,XW1]
  exact ⟨Mn _,h⟩
structure S8 where
 a:W
 b:W
 c:W
 d:W
 e:W
 f:W
 g:W
 h:W
deriving Inhabited
def S8.D (s:S8):List D:= [wD s.a,wD s.b,wD s.c,wD s.d,wD s.e,wD s.f,wD s.g,wD s.h]
def xP (s:S8) (k w:W):W:=s.h+(rotr s.e 6 ^^^ rotr s.e 11 ^^^ rotr s.e 25)+((s.e&&&s.f) ^^^ ((s.e ^^^ 0xffffffff)&&&s.g))+k+w
def yP (s:S8):W:=(rotr s.a 2 ^^^ rotr s.a 13 ^^^ rotr s.a 22)+((s.a&&&s.b) ^^^ (s.a&&&s.c) ^^^ (s.b&&&s.c))
def rnd (s:S8) (k w:W):S8:=⟨xP s k w+yP s,s.a,s.b,s.c,s.d+xP s k w,s.e,s.f,s.g⟩
def kW:List W:= [1116352408,1899447441,3049323471,3921009573,961987163,1508970993,2453635748,2870763221,3624381080,310598401,607225278,1426881987,1925078388,2162078206,2614888103,3248222580,3835390401,4022224774,264347078,604807628,770255983,1249150122,1555081692,1996064986,2554220882,2821834349,2952996808,3210313671,3336571891,3584528711,113926993,338241895,666307205,773529912,1294757372,1396182291,1695183700,1986661051,2177026350,2456956037,2730485921,2820302411,3259730800,3345764771,3516065817,3600352804,4094571909,275423344,430227734,506948616,659060556,883997877,958139571,1322822218,1537002063,1747873779,1955562222,2024104815,2227730452,2361852424,2428436474,2756734187,3204031479,3329325298]
def rnds (s:S8) (ws:List W):Nat->S8
 |0=>s
 |t+1=>rnd (rnds s ws t) (kW.getD t 0) (ws.getD t 0)
def fE (s r:S8):S8:=⟨s.a+r.a,s.b+r.b,s.c+r.c,s.d+r.d,s.e+r.e,s.f+r.f,s.g+r.g,s.h+r.h⟩
def vY (s:S8) (m:List UInt8):S8:=fE s (rnds s (wg m 64) 64)
def kD:List D:=kW.map wD
theorem Vd:kW.length=64:=rfl
theorem pX (h:t<64):kD.getD t .any=wD (kW.getD t 0):=by
 have h2:t<kW.length:=by rw [Vd];exact h
 simp [kD,List.getD,Mb,Ma h2]
theorem pN:kD.length=64:=by simp [kD,Vd]
theorem mu:kD.take 64=kD:=Mo (by simp [kD,Vd])
def fI (b2 b4 b5 b6 b7:Nat) (ws:List W) (z s r:S8) (H:AH):AH:=(b6,.cells [wD r.a,wD r.b,wD r.c,wD r.d])::(b7,.cells [wD r.e,wD r.f,wD r.g,wD r.h])::(b5,.cells (ws.map wD))::(b4,.cells z.D)::(b2,.cells s.D)::H
def z8:S8:=⟨0,0,0,0,0,0,0,0⟩
def bq (s r:S8):Nat->S8
 |0=>s
 |1=>{s with a:=s.a+r.a,e:=s.e+r.e}
 |2=>{s with a:=s.a+r.a,e:=s.e+r.e,b:=s.b+r.b,f:=s.f+r.f}
 |3=>{s with a:=s.a+r.a,e:=s.e+r.e,b:=s.b+r.b,f:=s.f+r.f,c:=s.c+r.c,g:=s.g+r.g}
 |_=>fE s r
theorem xg {b6 b7} (n54:¬b4=b5) (n52:¬b2=b5) (n42:¬b2=b4) (n75:¬b5=b7) (n74:¬b4=b7) (n72:¬b2=b7) (n67:¬b7=b6) (n65:¬b5=b6) (n64:¬b4=b6) (n62:¬b2=b6) (hwl:ws.length=64) (hF:Fr 116 [(2,.ptr b2 0),(4,.ptr b4 0),(5,.ptr b5 0),(6,.ptr b6 0),(7,.ptr b7 0),(21,.agg kD),(22,.i 0)] F) 
  (hQ:∀F' t,t=64->Fr 116 [(2,.ptr b2 0),(4,.ptr b4 0),(6,.ptr b6 0),(7,.ptr b7 0)] F'->Q (.exit 0) F' (fI b2 b4 b5 b6 b7 ws z8 s (rnds s ws t) H)):XW Tryz.prog (wW 11) F (fI b2 b4 b5 b6 b7 ws z8 s s H) Q:=by
 have hbig:=qj
 refine XW.loopS hmm 116 (fun t:Nat=>[(2,.ptr b2 0),(4,.ptr b4 0),(5,.ptr b5 0),(6,.ptr b6 0),(7,.ptr b7 0),(21,.agg kD),(22,.i ((t:Nat):Int))]) (fun t=>fI b2 b4 b5 b6 b7 ws z8 s (rnds s ws t) H) (fun t=>64 - t) (fun t=>t<=64) 0 (by omega) hF rfl ?_
 intro t z ht K hN hE hR
 dsimp only [fl,zz,qa,qb]
 by_cases hlt:t<64
 ·have hlt':((t:Int)<64)=True:=eq_true (by omega)
  have hr1:rnds s ws (t+1)=rnd (rnds s ws t) (kW.getD t 0) (ws.getD t 0):=rfl
  have hk:=pX hlt
  have hw:(ws.map wD)[t]?=some (wD (ws.getD t 0)):=by
   have h2:t<ws.length:=by omega
   simp [List.getD,Mb,Ma h2]
  generalize kW.getD t 0=kk at hk hr1
  generalize ws.getD t 0=ww at hw hr1
  generalize rnds s ws t=r at hr1
  unfold fI
  simp+contextual only [wD,Nat.mul_one,Mp,yo,Mq,Mr,Mc,pN,hlt',hk,qg,n67,↓Jc,↓vv,↓XP,qh,XW1,↓XH]
  refine ⟨_,fun _ _=>n5 (i:=6) (j:=11) (k:=25) (by decide) (by decide) (by decide) ⟨rfl,rfl⟩,?_⟩
  simp+contextual only [wD,Nat.mul_one,Mp,vV,Gv,oz,tD,yo,Mq,Mr,Mc,hw,hlt',qg,n75,n67,n65,↓Jc,↓vv,↓XP,qh,XW1,↓XH]
  refine ⟨_,fun _ _=>n5 (i:=2) (j:=13) (k:=22) (by decide) (by decide) (by decide) ⟨rfl,rfl⟩,?_⟩
  simp+contextual only [wD,Nat.mul_one,Mp,vV,Gv,oz,yo,Mq,Mr,Mc,qg,qk,n67,↓Jc,↓vv,↓XP,qh,XW1,qb,qe]
  rw [qi (by omega)]
  refine hN (t+1) _ _ (by omega) (by omega) ⟨rfl,rfl,rfl,rfl,rfl,rfl,rfl,rfl,trivial⟩ ?_
  show back _ _=fI _ _ _ _ _ _ _ _ (rnds s ws (t+1)) H
  rw [hr1]
  exact qz rfl
 ·have ht64:t=64:=by omega
  have hlt':((t:Int)<64)=False:=eq_false (by omega)
  simp+contextual only [hlt',↓Jc,↓vv,↓XP,qo]
  exact hE _ _ _ (hQ _ t ht64 ⟨rfl,rfl,rfl,rfl,rfl,trivial⟩)
theorem Zr {R:D->AH->Prop} (hg:qn H 1=some (.cst kD)) (hp:qn H p=some (.cells cs)) (hc:∀i,i<64->cs[o+i]?=some (bD (m.getD i 0))) (h:R (.agg (vY s m).D) H):
  ACall Tryz.prog 142 [.agg s.D,.hso p o 64] H R:=by
 refine El fun hf=>?_
 have hbig:=qj
 simp+contextual only [Cb,↓Jc,↓vv,↓Jt,qh,XW1,qa,qb]
 intro b2 h2 b4 h4
 have hp2:=qT h2 hp
 have hp4:=qT h4.2 hp
 refine ZP (m:=m) (cs:=cs) (by rw [qg hp4,qg hp2];exact hp) hc ?_
 simp+contextual only [↓Jc,↓vv,↓Jt,qh,XW1,qb,qc,qe,↓XH]
 have hsd:s.D= [wD s.a,wD s.b,wD s.c,wD s.d,wD s.e,wD s.f,wD s.g,wD s.h]:=rfl
 intro b5 h5
 obtain ⟨n54,n52,f5⟩:=h5
 obtain ⟨n42,f4⟩:=h4
 simp+contextual only [hsd,wD,Nat.mul_one,Nat.sub_zero,Mp,qg,qk,n52,n42,↓vv,↓Jt,qh,XW1,qa,qb,qe,qf,↓XH]
 refine ⟨jh m 64,by decide,by decide,by decide,by decide,by decide,by decide,by decide,?_⟩
 intro b7 h7 b6 h6
 obtain ⟨n75,n74,n72,f7⟩:=h7
 obtain ⟨n67,n65,n64,n62,f6⟩:=h6
 have g2:=qT h2 hg
 have g4:=qT f4 hg
 have g5:=qT f5 hg
 have g6:=qT f6 hg
 have g7:=qT f7 hg
 simp+contextual only [hg,mu,qg,g2,g4,g5,g6,g7,↓vv,↓XP,qo,XW1,↓XH]
 refine ⟨by decide,?_⟩
 have hwl:=jh m 64
 generalize hws:wg m 64=ws at hwl
 refine xg n54 n52 n42 n75 n74 n72 n67 n65 n64 n62 hwl ⟨rfl,rfl,rfl,rfl,rfl,rfl,rfl,rfl,trivial⟩ fun F' t ht64 hF'=>?_
 obtain ⟨z,rfl⟩:=hF'.lit
 simp+contextual only [↓Jc,↓vv,↓XP,qo,XW1]
 have hcp:fE s (rnds s ws t)=vY s m:=by rw [vY,hws,ht64]
 generalize rnds s ws t=r at hcp
 refine XW.loopS hmm 116 (fun i:Nat=>[(2,.ptr b2 0),(4,.ptr b4 0),(6,.ptr b6 0),(7,.ptr b7 0),(94,.i ((i:Nat):Int))]) (fun i=>fI b2 b4 b5 b6 b7 ws z8 (bq s r i) r H) (fun i=>4 - i) (fun i=>i<=4) 0 (by omega) ⟨rfl,rfl,rfl,rfl,rfl,rfl,trivial⟩ rfl ?_
 intro i z hi K2 hN2 hE2 hR2
 dsimp only [fl,zz,qa,qb]
 have v0:IntKind.i64.wrap (0+4)=4:=by decide
 have v1:IntKind.i64.wrap (1+4)=5:=by decide
 have v2:IntKind.i64.wrap (2+4)=6:=by decide
 have v3:IntKind.i64.wrap (3+4)=7:=by decide
 have u0:IntKind.i64.wrap (0+1)=1:=by decide
 have u1:IntKind.i64.wrap (1+1)=2:=by decide
 have u2:IntKind.i64.wrap (2+1)=3:=by decide
 have u3:IntKind.i64.wrap (3+1)=4:=by decide
 obtain rfl|rfl|rfl|rfl|rfl:i=0∨i=1∨i=2∨i=3∨i=4:=by omega
 ·unfold fI
  simp+contextual only [wD,Nat.mul_one,Mp,oz,yo,Mq,Mr,Nat.reduceLT,Mc,v0,u0,S8.D,bq,decide_true,qg,qk,n52,n42,n72,n67,n62,↓Jc,↓vv,↓XP,qh,XW1,qb]
  exact hN2 1 _ _ (by omega) (by omega) ⟨rfl,rfl,rfl,rfl,rfl,rfl,trivial⟩ (qz rfl)
 ·unfold fI
  simp+contextual only [wD,Nat.mul_one,Mp,oz,yo,Mq,Mr,Nat.reduceLT,Mc,v1,u1,S8.D,bq,decide_true,qg,qk,n52,n42,n72,n67,n62,↓Jc,↓vv,↓XP,qh,XW1,qb]
  exact hN2 2 _ _ (by omega) (by omega) ⟨rfl,rfl,rfl,rfl,rfl,rfl,trivial⟩ (qz rfl)
 ·unfold fI
  simp+contextual only [wD,Nat.mul_one,Mp,oz,yo,Mq,Mr,Nat.reduceLT,Mc,v2,u2,S8.D,bq,decide_true,qg,qk,n52,n42,n72,n67,n62,↓Jc,↓vv,↓XP,qh,XW1,qb]
  exact hN2 3 _ _ (by omega) (by omega) ⟨rfl,rfl,rfl,rfl,rfl,rfl,trivial⟩ (qz rfl)
 ·unfold fI
  simp+contextual only [wD,Nat.mul_one,Mp,oz,yo,Mq,Mr,Nat.reduceLT,Mc,v3,u3,S8.D,bq,decide_true,qg,qk,n52,n42,n72,n67,n62,↓Jc,↓vv,↓XP,qh,XW1,qb]
  exact hN2 4 _ _ (by omega) (by omega) ⟨rfl,rfl,rfl,rfl,rfl,rfl,trivial⟩ (qz rfl)
 ·have hlt2:(((4:Nat):Int)<4)=False:=eq_false (by decide)
  simp+contextual only [Mc,↓Jc,↓vv,↓XP,qo]
  apply hE2
  unfold fI
  simp+contextual only [wD,S8.D,bq,qg,qk,n54,n52,n42,n74,n72,n64,n62,↓vv,↓XP,qh,XW1,qb]
  rw [<-hcp] at h
  exact h
end Go.Proofs.YtgopigkdcmhbbaaGreatDoor
end
section
namespace Go.Proofs.YtgopigkdcmhbbaaGreatDoor
open Go Go.Aw
structure Str where
 st:S8
 blk:List UInt8
 n:Nat
deriving Inhabited
def jp (l:List UInt8):List D:=l.map bD
def Str.D (s:Str):List D:=s.st.D++(jp s.blk++ [.int .u64 s.n])
def iv:S8:=⟨0x6a09e667,0xbb67ae85,0x3c6ef372,0xa54ff53a,0x510e527f,0x9b05688c,0x1f83d9ab,0x5be0cd19⟩
def beg:Str:=⟨iv,List.replicate 64 0,0⟩
def yh (s:Str) (t:List UInt8):Nat:=min t.length (64 - s.n % 64)
def wx (s:Str) (t:List UInt8):List UInt8:=s.blk.take (s.n % 64)++(t.take (64 - s.n % 64)++s.blk.drop (s.n % 64+yh s t))
def vO (s:Str) (t:List UInt8):Str:=⟨if s.n % 64+yh s t=64 then vY s.st (wx s t) else s.st,wx s t,s.n+yh s t⟩
def cw:Nat->Str->List UInt8->Str
 |0,s,_=>s
 |f+1,s,t=>if t= [] then s else cw f (vO s t) (t.drop (yh s t))
def ym (s:Str) (t:List UInt8):Str:=cw t.length s t
theorem z7 (h:t≠ []):0<yh s t:=by
 have:0<t.length:=List.length_pos_iff.2 h
 have:=Nat.mod_lt s.n (show 0<64 by decide)
 unfold yh;omega
theorem WM:yh s t<=t.length:=Nat.min_le_left _ _
theorem ax:∀(f:Nat) (s:Str) (t:List UInt8),t.length<=f->cw f s t=ym s t:=by
 intro f
 induction f using Nat.strongRecOn with
 | _ f ih=>
  intro s t h
  unfold ym
  by_cases ht:t= []
  ·subst ht;cases f<;>rfl
  ·have hp:=z7 (s:=s) ht
   have hk:=WM (s:=s) (t:=t)
   have hl:0<t.length:=List.length_pos_iff.2 ht
   obtain ⟨g,hg⟩:∃g,t.length=g+1:=⟨t.length - 1,by omega⟩
   obtain ⟨f',rfl⟩:∃f',f=f'+1:=⟨f - 1,by omega⟩
   rw [hg]
   simp only [cw,if_neg ht]
   rw [ih f' (by omega) _ _ (by rw [List.length_drop];omega)]
   by_cases hgf:g=f'
   ·subst hgf
    rw [ih g (by omega) _ _ (by rw [List.length_drop];omega)]
   ·rw [ih g (by omega) _ _ (by rw [List.length_drop];omega)]
theorem eh (s:Str):ym s []=s:=rfl
theorem QI (h:t≠ []):ym s t=ym (vO s t) (t.drop (yh s t)):=by
 have hl:0<t.length:=List.length_pos_iff.2 h
 have hp:=z7 (s:=s) h
 obtain ⟨g,hg⟩:∃g,t.length=g+1:=⟨t.length - 1,by omega⟩
 rw [ym,hg]
 simp only [cw,if_neg h]
 exact ax _ _ _ (by rw [List.length_drop];omega)
theorem S8.D_len (s:S8):s.D.length=8:=rfl
theorem qw (l:List UInt8):(jp l).length=l.length:=by simp [jp]
section
variable {s:Str}
theorem yr (h:s.blk.length=64):s.D.length=73:=by simp [Str.D,S8.D_len,qw,h]
theorem aF (h:s.blk.length=64):s.D[72]?=some (.int .u64 s.n):=by
 unfold Str.D
 rw [Ml (by simp [S8.D_len]),Ml (by simp [S8.D_len,qw,h])]
 simp [S8.D_len,qw,h]
theorem C0:s.D.take 8=s.st.D:=by
 unfold Str.D
 rw [List.take_append_of_le_length (by simp [S8.D_len])]
 rfl
theorem S8.D_view (r:S8):r.D.map D.view1=r.D:=rfl
theorem lU (h:s.blk.length=64) (n:Nat):s.D.set 72 (.int .u64 n)=Str.D ⟨s.st,s.blk,n⟩:=by
 unfold Str.D
 rw [List.set_append_right _ _ (by simp [S8.D_len]),List.set_append_right _ _ (by simp [S8.D_len,qw,h])]
 simp [S8.D_len,qw,h]
theorem lk:s.D.drop 8=jp s.blk++ [.int .u64 s.n]:=by
 unfold Str.D
 rw [List.drop_append_of_le_length (by simp [S8.D_len])]
 rfl
theorem cE (r:S8):r.D++s.D.drop 8=Str.D ⟨r,s.blk,s.n⟩:=by rw [lk];rfl
theorem pa (h:s.blk.length=64):∀i,i<64->s.D[8+i]?=some (bD (s.blk.getD i 0)):=by
 intro i hi
 unfold Str.D
 rw [Ml (by simp [S8.D_len]),Mj (by simp [S8.D_len,qw,h];omega)]
 have h2:i<s.blk.length:=by omega
 simp [S8.D_len,jp,List.getD,Ma h2]
theorem lV (h:s.blk.length=64) (ha:a<64) (t:List UInt8):s.D.take (8+a)++((t.take (64 - a)).map (fun c=>D.int .u8 c.toNat)++s.D.drop (8+a+min t.length (64 - a)))=
  Str.D ⟨s.st,s.blk.take a++(t.take (64 - a)++s.blk.drop (a+min t.length (64 - a))),s.n⟩:=by
 unfold Str.D
 have e1:(s.st.D++(jp s.blk++ [D.int .u64 (s.n:Int)])).take (8+a)=s.st.D++jp (s.blk.take a):=by
  rw [List.take_append,S8.D_len,show 8+a - 8=a by omega,Mo (by simp [S8.D_len]),List.take_append_of_le_length (by simp [qw,h];omega)]
  simp [jp]
 have e2:(s.st.D++(jp s.blk++ [D.int .u64 (s.n:Int)])).drop (8+a+min t.length (64 - a))=jp (s.blk.drop (a+min t.length (64 - a)))++ [D.int .u64 (s.n:Int)]:=by
  rw [List.drop_append,S8.D_len,show 8+a+min t.length (64 - a) - 8=a+min t.length (64 - a) by omega,List.drop_of_length_le (by simp [S8.D_len];omega),Mw,List.drop_append_of_le_length (by simp [qw,h];omega)]
  simp [jp]
 rw [e1,e2]
 simp [jp]
 rfl
end
theorem K5 (h:s.blk.length=64) (t:List UInt8):(wx s t).length=64:=by
 have:=Nat.mod_lt s.n (show 0<64 by decide)
 simp only [wx,yh,List.length_append,List.length_take,List.length_drop]
 omega
def Blk (H:AH) (p o:Nat) (m:List UInt8):Prop:=∃cs,qn H p=some (.cells cs)∧∀i,i<64->cs[o+i]?=some (bD (m.getD i 0))
def Kst (H:AH):Prop:=qn H 1=some (.cst kD)
theorem Kst.sub (h:Kst H) (hs:Sub H H1):Kst H1:=by
 obtain ⟨o',g1,g2⟩:=hs _ _ h
 rcases g2 with g2|g2
 ·rw [<-g2] at g1;exact g1
 ·cases o' with
  |cst cs=>injection g2 with g2;rw [<-g2] at g1;exact g1
  |_=>simp [ZL] at g2
theorem Kst.push (h:Kst H) (hb:qD H b):Kst ((b,o)::H):=(qg (qT hb h)).trans h
theorem Blk.sub (h:Blk H p o m) (hs:Sub H H1):Blk H1 p o m:=by
 obtain ⟨cs,h1,h2⟩:=h
 obtain ⟨o',g1,g2⟩:=hs _ _ h1
 rcases g2 with rfl|g2
 ·exact ⟨cs,g1,h2⟩
 ·cases o' with
  | cells cs'=>
   injection g2 with g2
   subst g2
   refine ⟨cs',g1,fun i hi=>?_⟩
   have:=h2 i hi
   rw [Mb,Mg] at this
   obtain ⟨d,d1,d2⟩:=this
   rw [d1]
   cases d<;>simp only [D.view1,bD] at d2<;>first|(cases d2;done)|(rw [d2];rfl)
  |_=>simp [ZL] at g2
theorem WY {R:D->AH->Prop} (h:R (.agg beg.D) H):ACall Tryz.prog 122 [] H R:=by
 refine Ha fun hf=>?_
 simp+contextual only [↓U122,↓U122.1,↓XP,qh,XW1,qa,qb,qe]
 intro b hb
 exact h
end Go.Proofs.YtgopigkdcmhbbaaGreatDoor
end
