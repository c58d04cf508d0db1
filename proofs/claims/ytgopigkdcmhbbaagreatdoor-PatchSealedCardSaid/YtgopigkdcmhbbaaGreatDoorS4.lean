/- A part of the proof of what the last text says: Aw18, Aw19, Xc, AwV, Gc1, Ka1, XcI, Ka2, Ea0, Ka3, Ka4, Ka5. Conditions: those in each theorem. -/
import Derived.Test.YtgopigkdcmhbbaaGreatDoorS3
import Derived.IntWalk
import Derived.Test.YtgopigkdcmhbbaaGreatDoorRows
import Derived.WalkKit
import Derived.ProofKit
import Derived.OpenShut
import Derived.JoinedCond
import Derived.KernelRfl
import Derived.RangeFuncWrites
import Derived.RangeFuncBound
import Derived.RangeFuncNested
import Derived.RangeFuncCalls
import Derived.RangeFuncLeaves
import Derived.Shelf.Abstract
import Derived.Shelf.RegionOpen
import Derived.WalkSpells
import Derived.OwnWalkIn
import Derived.TacticsInMore
import Derived.LoopNIn
import Derived.LoopIn
import Derived.Laws.BitsAllLaws
set_option autoImplicit true
set_option relaxedAutoImplicit true
set_option linter.unusedVariables false
set_option linter.unusedSimpArgs false
set_option maxRecDepth 100000
set_option maxHeartbeats 16000000
open List renaming getElem?_eq_getElem -> Ma,getElem?_map -> Mb,getElem?_cons_zero -> Me,mem_of_getElem? -> Mh,getElem?_append_left -> Mj,getElem?_append_right -> Ml,map_append -> Mm,take_of_length_le -> Mo,range_succ -> Mu,append_nil -> Mv,nil_append -> Mw,map_map -> Mx,map_congr_left -> My
open Int renaming cast_ofNat_Int -> Mc,toNat_natCast -> Md,natCast_nonneg -> Mf,reduceToNat -> Mp,reduceLE -> Mq,reduceLT -> Mr
open Option renaming map_eq_some_iff -> Mg
open Bool renaming and_eq_true -> Mi
open Array renaming getElem?_eq_getElem -> Mt
open Nat renaming le_refl -> Mn,lt_or_ge -> Ms,reduceSub -> qa,reduceAdd -> qb,reduceMul -> qc,reduceEqDiff -> qd,reduceLeDiff -> qe,reduceBEq -> qf
section
namespace Go.Aw
open Go Go.RowKit
class NL (b:Bool):Prop where
 ok:True
instance {a b:List UInt8}:NL (Op.bytesLess a b):=⟨trivial⟩
instance {b:Bool} [NL b]:NL (!b):=⟨trivial⟩
instance {a b:Bool}:NL (a&&b):=⟨trivial⟩
instance {a b:Bool}:NL (a||b):=⟨trivial⟩
instance {a b:Bool}:NL (a==b):=⟨trivial⟩
def Ze (P:Program) (y:XC) (Q:AQ):AQ:=QE (fun F' H'=>xcode P y F' H' Q) Q
def wN (P:Program) (m:Bool) (r:List XO) (F:List D) (dst:Option Tmp) (H:AH) (k:HK):D->Prop:=fun d=>xops P m r (qJ F dst d) H k
def lH (P:Program) (r:List XO) (F:List D) (dst:Option Tmp) (k:HK):D->AH->Prop:=fun d H'=>fact d.view->xops P false r (qJ F dst d) H' k
def ly (P:Program) (r:List XO) (F:List D) (dst:Option Tmp) (H:AH) (k:HK):D->Prop:=fun d=>fact d.view->xops P true r (qJ F dst d) H k
def xcall (P:Program) (f:D) (args:List D) (H:AH) (K:D->AH->Prop):Prop:=match f with
 | .fn g caps=>ACall P g (um args caps) H K
 |_=>False
def dN (P:Program) (g:FuncId) (args:List D) (H:AH) (K:D->Prop):Prop:=∃d,(∀H1,Sub H H1->ACall P g args H1 (fun d' H'=>d'=d∧H'=H1))∧K d
def UD (P:Program) (f:D) (args:List D) (H:AH) (K:D->Prop):Prop:=match f with
 | .fn g caps=>dN P g (um args caps) H K
 |_=>False
def xif (c:D) (P:Program) (t:Nat) (x y:XC) (F:List D) (H:AH) (Q:AQ):Prop:=match c with
 | .bool b=>(b=true->xcode P x (F.set t (.bool true)) H Q)∧(b=false->xcode P y (F.set t (.bool false)) H Q)
 |_=>False
def xgd (c:D) (P:Program) (m:Bool) (t:Nat) (want:Bool) (op:Op) (dst:Option Tmp) (tk ta:Bool) (r:List XO) (F:List D) (H:AH) (k:HK):Prop:=match c with
 | .bool b=>(b=want->xops P m (⟨op,dst,none,tk,ta⟩::r) (F.set t (.bool want)) H k)∧(b=(!want)->xops P m r (qJ (F.set t (.bool (!want))) dst (.tup [])) H k)
 | .tup _=>xops P m r (qJ F dst (.tup [])) H k
 |_=>False
section
variable {P:Program} {m:Bool} {F:List D} {H:AH} {Q:AQ} {k:HK} {x y:XC} {r:List XO} {dst:Option Tmp} {d s t i:Nat} {tk ta:Bool} {op:Op}
theorem sF:xcode P .skip F H Q=Q .normal F H:= .trans rfl rfl
theorem xS:xcode P (.reg l) F H Q=xops P false l F H (Q .normal):= .trans rfl rfl
theorem nX:xcode P (.regD l) F H Q=xops P true l F H (Q .normal):= .trans rfl rfl
theorem Bp:xcode P (.seq x y) F H Q=xcode P x F H (Ze P y Q):= .trans rfl rfl
theorem nG:xcode P (.cond (.tmp t) x y) F H Q=xif (F.getD t .any) P t x y F H Q:=by
 unfold xif
 simp only [xcode]
 cases F.getD t .any<;>rfl
theorem fO:xcode P (.block i x) F H Q=xcode P x F H (yI i Q):= .trans rfl rfl
theorem rB:xcode P (.exit i) F H Q=Q (.exit i) F H:= .trans rfl rfl
theorem AD:xcode P .ret F H Q=Q .ret F H:= .trans rfl rfl
theorem ry:xcode P (.loop x) F H Q=XW P x F H Q:= .trans rfl rfl
theorem dl:Ze P y Q .normal F H=xcode P y F H Q:= .trans rfl rfl
theorem ri:Ze P y Q (.exit i) F H=Q (.exit i) F H:= .trans rfl rfl
theorem pY:Ze P y Q .ret F H=Q .ret F H:= .trans rfl rfl
theorem d5:yI i Q .normal F H=Q .normal F H:= .trans rfl rfl
def bsel (b:Bool) (A B:Prop):Prop:=if b=true then A else B
theorem cU {A B:Prop}:bsel true A B=A:= .trans rfl rfl
theorem mF {A B:Prop}:bsel false A B=B:= .trans rfl rfl
theorem V2:yI i Q (.exit j) F H=bsel (j==i) (Q .normal F H) (Q (.exit j) F H):=by
 simp only [yI,bsel,beq_iff_eq]
 split<;>rfl
theorem cw:yI i Q .ret F H=Q .ret F H:= .trans rfl rfl
def ru (n:Nat) (H:AH) (R:D->AH->Prop):D->Prop:=fun d=>R d (back n H)
theorem Bz {n:Nat} {R:D->AH->Prop} {d:D}:ru n H R d=R d (back n H):= .trans rfl rfl
theorem rJ {R:D->AH->Prop}:oe P rs n R .normal F H=gb P rs F H (ru n H R):= .trans rfl rfl
theorem nT {R:D->AH->Prop}:oe P rs n R .ret F H=gb P rs F H (ru n H R):= .trans rfl rfl
def Bw (o:Option D) (k:D->Prop):Prop:=match o with
 |some d=>k d
 |none=>False
theorem o_s {d:D} {k:D->Prop}:Bw (some d) k=k d:= .trans rfl rfl
def rm (o:Option (List D)) (k:D->Prop):Prop:=match o with
 |some ds=>k (.tup ds)
 |none=>False
theorem o_t {k:D->Prop}:rm (some ds) k=k (.tup ds):= .trans rfl rfl
theorem z_1 {r:ResultVar} {k:D->Prop}:gb P [r] F H k=Bw (resOne P F H r) k:= .trans rfl rfl
theorem z_0 {k:D->Prop}:gb P [] F H k=rm (resAll P F H []) k:= .trans rfl rfl
theorem z_2 {r r':ResultVar} {rs:List ResultVar} {k:D->Prop}:gb P (r::r'::rs) F H k=rm (resAll P F H (r::r'::rs)) k:= .trans rfl rfl
theorem i_T:xif (.bool true) P t x y F H Q=xcode P x (F.set t (.bool true)) H Q:=by simp [xif]
theorem i_F:xif (.bool false) P t x y F H Q=xcode P y (F.set t (.bool false)) H Q:=by simp [xif]
theorem tF {p:Prop} [Decidable p]:xif (.bool (decide p)) P t x y F H Q=((p->xcode P x (F.set t (.bool true)) H Q)∧(¬p->xcode P y (F.set t (.bool false)) H Q)):=by simp [xif]
theorem tI:xif (.bool (!b)) P t x y F H Q=((b=false->xcode P x (F.set t (.bool true)) H Q)∧(b=true->xcode P y (F.set t (.bool false)) H Q)):=by simp [xif]
theorem i_N [NL b]:xif (.bool b) P t x y F H Q=((b=true->xcode P x (F.set t (.bool true)) H Q)∧(b=false->xcode P y (F.set t (.bool false)) H Q)):= .trans rfl rfl
theorem Ez:xgd (.bool true) P m t true op dst tk ta r F H k=xops P m (⟨op,dst,none,tk,ta⟩::r) (F.set t (.bool true)) H k:=by simp [xgd]
theorem Dq:xgd (.bool true) P m t false op dst tk ta r F H k=xops P m r (qJ (F.set t (.bool true)) dst (.tup [])) H k:=by simp [xgd]
theorem E5:xgd (.bool false) P m t true op dst tk ta r F H k=xops P m r (qJ (F.set t (.bool false)) dst (.tup [])) H k:=by simp [xgd]
theorem Fd:xgd (.bool false) P m t false op dst tk ta r F H k=xops P m (⟨op,dst,none,tk,ta⟩::r) (F.set t (.bool false)) H k:=by simp [xgd]
theorem g_U:xgd (.tup ds) P m t w op dst tk ta r F H k=xops P m r (qJ F dst (.tup [])) H k:= .trans rfl rfl
theorem mL {p:Prop} [Decidable p]:xgd (.bool (decide p)) P m t true op dst tk ta r F H k=((p->xops P m (⟨op,dst,none,tk,ta⟩::r) (F.set t (.bool true)) H k)∧(¬p->xops P m r (qJ (F.set t (.bool false)) dst (.tup [])) H k)):=by simp [xgd]
theorem pm {p:Prop} [Decidable p]:xgd (.bool (decide p)) P m t false op dst tk ta r F H k=((p->xops P m r (qJ (F.set t (.bool true)) dst (.tup [])) H k)∧(¬p->xops P m (⟨op,dst,none,tk,ta⟩::r) (F.set t (.bool false)) H k)):=by
 simp only [xgd,Bool.not_false,decide_eq_true_eq,decide_eq_false_iff_not,eq_iff_iff]
 exact ⟨fun h=>⟨h.2,h.1⟩,fun h=>⟨h.2,h.1⟩⟩
theorem ik {p:Prop} [Decidable p]:xgd (.bool (!decide p)) P m t false op dst tk ta r F H k=((p->xops P m (⟨op,dst,none,tk,ta⟩::r) (F.set t (.bool false)) H k)∧(¬p->xops P m r (qJ (F.set t (.bool true)) dst (.tup [])) H k)):=by
 simp [xgd]
theorem xR:xops P m [] F H k=k F H:= .trans rfl rfl
theorem Hl:xops P m (⟨op,dst,some (some (t,w)),tk,ta⟩::r) F H k=xgd (F.getD t .any) P m t w op dst tk ta r F H k:=by
 unfold xgd
 simp only [xops]
 cases F.getD t .any<;>rfl
theorem tB:xops P m (⟨.move (.tmp s),some d,none,false,ta⟩::r) F H k=xops P m r (F.set d (F.getD s .any).view) H k:= .trans rfl rfl
theorem xc:xops P m (⟨.move (.tmp s),some d,none,true,ta⟩::r) F H k=xops P m r ((F.set s (F.getD s .any).view).set d (F.getD s .any)) H k:= .trans rfl rfl
theorem xm:xops P m (⟨.move (.const v),dst,none,tk,ta⟩::r) F H k=xops P m r (qJ F dst (jE v)) H k:= .trans rfl rfl
theorem tA:xops P m (⟨.assign (.tmp s),some d,none,tk,ta⟩::r) F H k=xops P m r ((F.set s (F.getD s .any).view).set d (F.getD s .any)) H k:= .trans rfl rfl
theorem rL:xops P m (⟨.assign (.const v),dst,none,tk,ta⟩::r) F H k=xops P m r (qJ F dst (jE v)) H k:= .trans rfl rfl
def co (P:Program) (m:Bool) (c:D) (tk:Bool) (s ix d:Nat) (r:List XO) (F:List D) (H:AH) (k:HK):Prop:=match c with
 | .tup ds=>match ds[ix]? with
  |some c=>if tk=true then fact c.view1->xops P m r ((F.set s (.tup (ds.set ix c.view1))).set d c) H k else fact c.view1->xops P m r (F.set d c.view1) H k
  |none=>False
 |_=>False
theorem tb:xops P false (⟨.extract (.tmp s) i,some d,none,tk,ta⟩::r) F H k=co P false (F.getD s .any) tk s i d r F H k:=by
 unfold co
 simp only [xops,xop,vv,kO,ev,zq,Bool.not_false,Bool.and_true,Bool.and_false]
 cases F.getD s .any<;>rfl
theorem sJ:xops P true (⟨.extract (.tmp s) i,some d,none,tk,ta⟩::r) F H k=co P true (F.getD s .any) false s i d r F H k:=by
 unfold co
 simp only [xops,xop,vv,kO,ev,zq,Bool.not_false,Bool.and_true,Bool.not_true,Bool.and_false,Bool.false_eq_true,if_false]
 cases F.getD s .any<;>rfl
def mK (P:Program) (m:Bool) (o:Option D) (ds:List D) (tk:Bool) (s ix d:Nat) (r:List XO) (F:List D) (H:AH) (k:HK):Prop:=match o with
 |some c=>if tk=true then fact c.view1->xops P m r ((F.set s (.tup (ds.set ix c.view1))).set d c) H k else fact c.view1->xops P m r (F.set d c.view1) H k
 |none=>False
theorem e_d:co P m (.tup ds) tk s i d r F H k=mK P m ds[i]? ds tk s i d r F H k:= .trans rfl rfl
theorem e_0:mK P m (some c) ds false s i d r F H k=(fact c.view1->xops P m r (F.set d c.view1) H k):= .trans rfl rfl
theorem e_1:mK P m (some c) ds true s i d r F H k=(fact c.view1->xops P m r ((F.set s (.tup (ds.set i c.view1))).set d c) H k):= .trans rfl rfl
def mI (P:Program) (o:Option (List D)) (r:List XO) (F:List D) (d:Nat) (H:AH) (k:HK):Prop:=match o with
 |some z=>∀b,qz H b->xops P false r (F.set d (.ptr b 0)) ((b,.cells z)::H) k
 |none=>False
theorem fE {t:TypeId}:xops P m (⟨.alloc t,some d,none,tk,ta⟩::r) F H k=mI P (yw P t) r F d H k:=by
 unfold mI
 simp only [xops,xop,vv,kO,true_and,zq,Bool.not_true,Bool.false_and]
 rfl
theorem Hq:mI P (some z) r F d H k=∀b,qz H b->xops P false r (F.set d (.ptr b 0)) ((b,.cells z)::H) k:= .trans rfl rfl
theorem xU {t:TypeId} {y:Operand}:xops P m (⟨.box t y,some d,none,tk,ta⟩::r) F H k=(okc (rv F y)=true∧∀b,qz H b->xops P false r (F.set d (.ptr b 0)) ((b,.cells (cellsOf (rv F y)))::H) k):=by
 simp only [xops,xop,vv,kO,true_and,zq,Bool.not_true,Bool.false_and]
 rfl
def Gm (P:Program) (ag:Bool) (n off:Nat) (o:Option AO) (b:Nat) (y:Operand) (dst:Option Tmp) (r:List XO) (F:List D) (H:AH) (k:HK):Prop:=match o with
 | some (.cells cs)=>if ag=true then okc (rv F y)=true∧(cellsOf (rv F y)).length=n∧off+n<=cs.length∧xops P false r (qJ F dst (.tup [])) (qE H b (.cells (cs.take off++(cellsOf (rv F y)++cs.drop (off+n))))) k
  else n=1∧off<cs.length∧one1 (ev F y)=true∧dst=none∧(match y with
    | .tmp s=>xops P false r (F.set s (rv F y)) (qE H b (.cells (cs.set off (ev F y)))) k
    |_=>xops P false r F (qE H b (.cells (cs.set off (ev F y)))) k)
 |_=>False
def rY (P:Program) (ty:Option (Bool×Nat)) (a:D) (y:Operand) (dst:Option Tmp) (r:List XO) (F:List D) (H:AH) (k:HK):Prop:=match ty,a with
  |some (ag,n),.ptr b off=>Gm P ag n off (qk H b) b y dst r F H k
  |_,_=>False
theorem xg {t:TypeId} {a y:Operand}:xops P m (⟨.store t a y,dst,none,tk,ta⟩::r) F H k=rY P (yq P t) (rv F a) y dst r F H k:=by
 unfold rY
 simp only [xops,xop,vv,kO,true_and,zq,Bool.not_true,Bool.false_and]
 cases yq P t with
 |none=>rfl
 | some x=>
  obtain ⟨ag,n⟩:=x
  cases rv F a<;>cases ag<;>first
   |rfl
   |(simp only [Gm];rfl)
theorem H6 {ag:Bool} {n b off:Nat} {y:Operand}:rY P (some (ag,n)) (.ptr b off) y dst r F H k=Gm P ag n off (qk H b) b y dst r F H k:= .trans rfl rfl
theorem Di {n b off:Nat} {y:Operand} {cs:List D}:Gm P true n off (some (.cells cs)) b y dst r F H k=(okc (rv F y)=true∧(cellsOf (rv F y)).length=n∧off+n<=cs.length∧xops P false r (qJ F dst (.tup [])) (qE H b (.cells (cs.take off++(cellsOf (rv F y)++cs.drop (off+n))))) k):= .trans rfl rfl
theorem Fg:Gm P false n off (some (.cells cs)) b (.tmp s) dst r F H k=(n=1∧off<cs.length∧one1 (F.getD s .any)=true∧dst=none∧xops P false r (F.set s (rv F (.tmp s))) (qE H b (.cells (cs.set off (F.getD s .any)))) k):= .trans rfl rfl
theorem Fs:Gm P false n off (some (.cells cs)) b (.const v) dst r F H k=(n=1∧off<cs.length∧one1 (jE v)=true∧dst=none∧xops P false r F (qE H b (.cells (cs.set off (jE v)))) k):= .trans rfl rfl
theorem rE:xops P false (⟨.call ⟨.value f,args,tys⟩,dst,none,tk,ta⟩::r) F H k=xcall P (rv F f) (args.toList.map (rv F)) H (lH P r F dst k):=by
 unfold xcall
 simp only [xops,xop,vv,kO]
 cases rv F f<;>rfl
theorem iY:xops P true (⟨.call ⟨.value f,args,tys⟩,dst,none,tk,ta⟩::r) F H k=UD P (rv F f) (args.toList.map (rv F)) H (ly P r F dst H k):=by
 unfold UD
 simp only [xops,xop,vv,kO]
 cases rv F f<;>rfl
theorem nD {K:D->AH->Prop}:xcall P (.fn g caps) args H K=ACall P g (um args caps) H K:= .trans rfl rfl
theorem lj {K:D->Prop}:UD P (.fn g caps) args H K=dN P g (um args caps) H K:= .trans rfl rfl
theorem rR {d:D}:lH P r F dst k d H=(fact d.view->xops P false r (qJ F dst d) H k):= .trans rfl rfl
theorem fw {d:D}:ly P r F dst H k d=(fact d.view->xops P true r (qJ F dst d) H k):= .trans rfl rfl
def AB (o:Option AO) (P:Program) (m:Bool) (xs:List (List D)) (sz bs off n s d:Nat) (r:List XO) (F:List D) (H:AH) (k:HK):Prop:=match o with
 |some (.cells cs)=>sz=1∧off+n<=cs.length∧(∀y∈xs,y.length=1)∧(xs.length+n)*bs<=140737488355328∧xops P m r ((F.set s (.slc xs)).set d (.own (xs++((cs.drop off).take n).map fun e=>[e.view1]))) H k
 |_=>False
def ip (P:Program) (m:Bool) (a:D) (t:Option (TypeId×Nat×Nat)) (y:D) (s d:Nat) (r:List XO) (F:List D) (H:AH) (k:HK):Prop:=match a,t with
  | .own xs,some (_,sz,bs)=>match y with
   | .slc ys=>(∀y∈xs,y.length=sz)∧(∀y∈ys,y.length=sz)∧(xs.length+ys.length)*bs<=140737488355328∧xops P m r ((F.set s (.slc xs)).set d (.own (xs++ys))) H k
   | .str l=>sz=1∧(∀y∈xs,y.length=1)∧(xs.length+l.length)*bs<=140737488355328∧xops P m r ((F.set s (.slc xs)).set d (.own (xs++l.map qh))) H k
   | .hso b off n=>AB (qk H b) P m xs sz bs off n s d r F H k
   |_=>False
  |_,_=>False
theorem AS {t u:TypeId} {y:Operand}:xops P m (⟨.call ⟨.builtin .append,#[.tmp s,y],#[t,u]⟩,some d,none,tk,ta⟩::r) F H k=ip P m (F.getD s .any) (KT P t u) (rv F y) s d r F H k:=by
 unfold ip AB
 simp only [xops,xop,vv,kO,ev]
 rfl
theorem xj {e:TypeId}:ip P m (.own xs) (some (e,sz,bs)) (.slc ys) s d r F H k=((∀y∈xs,y.length=sz)∧(∀y∈ys,y.length=sz)∧(xs.length+ys.length)*bs<=140737488355328∧xops P m r ((F.set s (.slc xs)).set d (.own (xs++ys))) H k):= .trans rfl rfl
theorem Be {e:TypeId}:ip P m (.own xs) (some (e,sz,bs)) (.str l) s d r F H k=(sz=1∧(∀y∈xs,y.length=1)∧(xs.length+l.length)*bs<=140737488355328∧xops P m r ((F.set s (.slc xs)).set d (.own (xs++l.map qh))) H k):= .trans rfl rfl
theorem B1 {t:TypeId}:xops P m (⟨.load t (.tmp s),dst,none,tk,false⟩::r) F H k=qO P (rv F) H (.load t (.tmp s)) (wN P m r F dst H k):=by
 simp only [xops,xop,vv,kO,Bool.false_eq_true,and_false,if_false]
 cases dst<;>rfl
theorem Ae {t:TypeId}:xops P m (⟨.load t (.global g),dst,none,tk,ta⟩::r) F H k=qO P (rv F) H (.load t (.global g)) (wN P m r F dst H k):= .trans rfl rfl
def Cm (P:Program) (c:Option D) (cs:List D) (b off d:Nat) (r:List XO) (F:List D) (H:AH) (k:HK):Prop:=match c with
 |some (.own xs)=>xops P false r (F.set d (.own xs)) (qE H b (.cells (cs.set off (.slc xs)))) k
 |some (.hgs b' n c)=>xops P false r (F.set d (.hgs b' n c)) H k
 |_=>False
def C1 (P:Program) (o:Option AO) (b off d:Nat) (r:List XO) (F:List D) (H:AH) (k:HK):Prop:=match o with
 |some (.cells cs)=>Cm P cs[off]? cs b off d r F H k
 |_=>False
def CR (P:Program) (ty:Option (Bool×Nat)) (a:D) (d:Nat) (r:List XO) (F:List D) (H:AH) (k:HK):Prop:=match ty,a with
 |some (false,_),.ptr b off=>C1 P (qk H b) b off d r F H k
 |_,_=>False
theorem B8 {t:TypeId}:xops P false (⟨.load t (.tmp s),some d,none,tk,true⟩::r) F H k=CR P (yq P t) (rv F (.tmp s)) d r F H k:=by
 unfold CR C1 Cm
 simp only [xops,xop,vv,kO]
 rfl
theorem Ei:CR P (some (false,n)) (.ptr b off) d r F H k=C1 P (qk H b) b off d r F H k:= .trans rfl rfl
theorem Eg:C1 P (some (.cells cs)) b off d r F H k=Cm P cs[off]? cs b off d r F H k:= .trans rfl rfl
theorem Hy:Cm P (some (.own xs)) cs b off d r F H k=xops P false r (F.set d (.own xs)) (qE H b (.cells (cs.set off (.slc xs)))) k:= .trans rfl rfl
theorem mU:xops P m (⟨.pick c a b,dst,none,tk,ta⟩::r) F H k=qO P (rv F) H (.pick c a b) (wN P m r F dst H k):= .trans rfl rfl
theorem AY {t:TypeId}:xops P m (⟨.build t ps,dst,none,tk,ta⟩::r) F H k=qO P (rv F) H (.build t ps) (wN P m r F dst H k):= .trans rfl rfl
theorem xG {t:TypeId}:xops P m (⟨.buildSlice t n ps,dst,none,tk,ta⟩::r) F H k=qO P (rv F) H (.buildSlice t n ps) (wN P m r F dst H k):= .trans rfl rfl
theorem bE {b:BinOp} {t u:TypeId} {x y:Operand} (h:zJ y=false):xops P m (⟨.binOp b t x y u,dst,none,tk,ta⟩::r) F H k=qO P (rv F) H (.binOp b t x y u) (wN P m r F dst H k):=by
 simp only [xops,xop,vv,kO,h,Bool.false_eq_true,and_false,if_false]
 rfl
theorem rI {b:BinOp} {t u:TypeId} {x:Operand} {y:Nat}:xops P m (⟨.binOp b t x (.tmp y) u,dst,none,tk,ta⟩::r) F H k=qO P (rv F) H (.binOp b t x (.tmp y) u) (wN P m r F dst H k):=bE rfl
theorem nw {b:BinOp} {t u:TypeId} {x:Operand} {kd:IntKind} {n:Int}:xops P m (⟨.binOp b t x (.const (.int kd n)) u,dst,none,tk,ta⟩::r) F H k=qO P (rv F) H (.binOp b t x (.const (.int kd n)) u) (wN P m r F dst H k):=bE rfl
theorem pD {b:BinOp} {t u:TypeId} {x:Operand} {l:ByteArray}:xops P m (⟨.binOp b t x (.const (.string l)) u,dst,none,tk,ta⟩::r) F H k=qO P (rv F) H (.binOp b t x (.const (.string l)) u) (wN P m r F dst H k):=bE rfl
theorem ms {b:BinOp} {t u:TypeId} {x:Operand}:xops P false (⟨.binOp b t x (.const (.slice none 0 0)) u,dst,none,tk,ta⟩::r) F H k=nilcmp P b t (rv F x) (wN P false r F dst H k):=by
 simp only [xops,xop,vv,kO,zJ]
 rfl
theorem xQ {t:TypeId} {K:D->Prop}:nilcmp P .eql t (.slc xs) K=((yn P t).isSome=true∧(xs= []->K (.bool true))∧K (.bool false)):= .trans rfl rfl
theorem DG {u:UnOp} {t:TypeId} {x:Operand}:xops P m (⟨.unOp u t x,dst,none,tk,ta⟩::r) F H k=qO P (rv F) H (.unOp u t x) (wN P m r F dst H k):= .trans rfl rfl
theorem rp {a b:TypeId} {x:Operand}:xops P m (⟨.convert a b x,dst,none,tk,ta⟩::r) F H k=qO P (rv F) H (.convert a b x) (wN P m r F dst H k):= .trans rfl rfl
theorem Dw:xops P m (⟨.makeFunc f a c,dst,none,tk,ta⟩::r) F H k=qO P (rv F) H (.makeFunc f a c) (wN P m r F dst H k):= .trans rfl rfl
theorem DS {t:TypeId}:xops P m (⟨.makeSlice t a b,dst,none,tk,ta⟩::r) F H k=qO P (rv F) H (.makeSlice t a b) (wN P m r F dst H k):= .trans rfl rfl
theorem EX {t:TypeId} {x:Operand} {a b c:Option Operand}:xops P m (⟨.slice t x a b c,dst,none,tk,ta⟩::r) F H k=qO P (rv F) H (.slice t x a b c) (wN P m r F dst H k):= .trans rfl rfl
theorem Dy {t:TypeId} {x:Operand} {f:Nat}:xops P m (⟨.fieldAddr t x f,dst,none,tk,ta⟩::r) F H k=qO P (rv F) H (.fieldAddr t x f) (wN P m r F dst H k):= .trans rfl rfl
theorem Ej {t:TypeId} {x y:Operand}:xops P m (⟨.indexAddr t x y,dst,none,tk,ta⟩::r) F H k=qO P (rv F) H (.indexAddr t x y) (wN P m r F dst H k):= .trans rfl rfl
theorem FM {t:TypeId} {x y:Operand}:xops P m (⟨.index t x y,dst,none,tk,ta⟩::r) F H k=qO P (rv F) H (.index t x y) (wN P m r F dst H k):= .trans rfl rfl
theorem FT {t:TypeId} {x:Operand}:xops P m (⟨.sliceToArrayPointer t x,dst,none,tk,ta⟩::r) F H k=qO P (rv F) H (.sliceToArrayPointer t x) (wN P m r F dst H k):= .trans rfl rfl
theorem Ep {x:Operand}:xops P m (⟨.nilCheck x,dst,none,tk,ta⟩::r) F H k=qO P (rv F) H (.nilCheck x) (wN P m r F dst H k):= .trans rfl rfl
theorem tn {a:Array Operand} {t:Array TypeId}:xops P m (⟨.call ⟨.builtin .len,a,t⟩,dst,none,tk,ta⟩::r) F H k=qO P (rv F) H (.call ⟨.builtin .len,a,t⟩) (wN P m r F dst H k):= .trans rfl rfl
theorem tR {a:Array Operand} {t:Array TypeId}:xops P m (⟨.call ⟨.builtin .max,a,t⟩,dst,none,tk,ta⟩::r) F H k=qO P (rv F) H (.call ⟨.builtin .max,a,t⟩) (wN P m r F dst H k):= .trans rfl rfl
theorem Al {a:Array Operand} {t:Array TypeId}:xops P m (⟨.call ⟨.builtin .min,a,t⟩,dst,none,tk,ta⟩::r) F H k=qO P (rv F) H (.call ⟨.builtin .min,a,t⟩) (wN P m r F dst H k):= .trans rfl rfl
theorem Ac {x:D}:wN P m r F (some d) H k x=xops P m r (F.set d x) H k:= .trans rfl rfl
theorem p_s {x:D}:qJ F (some d) x=F.set d x:= .trans rfl rfl
theorem p_n {x:D}:qJ F none x=F:= .trans rfl rfl
theorem xh:rv F (.tmp s)=(F.getD s .any).view:= .trans rfl rfl
theorem fq:rv F (.const v)=(jE v).view:= .trans rfl rfl
theorem pO:rv F (.func f)= .fn f []:= .trans rfl rfl
theorem ph:rv F (.global g)= .ptr g 0:= .trans rfl rfl
theorem t_8:(a0::a1::a2::a3::a4::a5::a6::a7::l).getD (n+8) x=l.getD n x:= .trans rfl rfl
theorem AP {k:IntKind} {n:Int}:(D.int k n).view= .int k n:= .trans rfl rfl
theorem nC:(D.bool b).view= .bool b:= .trans rfl rfl
theorem Bx:(D.str l).view= .str l:= .trans rfl rfl
theorem xM:(D.slc l).view= .slc l:= .trans rfl rfl
theorem tD:(D.own l).view= .slc l:= .trans rfl rfl
theorem A1:(D.ptr b o).view= .ptr b o:= .trans rfl rfl
theorem nq:(D.eptr l).view= .eptr l:= .trans rfl rfl
theorem Ha:(D.fn f l).view= .fn f l:= .trans rfl rfl
theorem A7:(D.agg l).view= .agg l:= .trans rfl rfl
theorem Ba:(D.tup l).view= .tup (l.map D.view1):= .trans rfl rfl
theorem Hu {r:Option Nat}:(D.mp r).view= .mp r:= .trans rfl rfl
theorem pa {k:IntKind} {n:Int}:(D.int k n).view1= .int k n:= .trans rfl rfl
theorem ia:(D.bool b).view1= .bool b:= .trans rfl rfl
theorem n7:(D.str l).view1= .str l:= .trans rfl rfl
theorem sh:(D.slc l).view1= .slc l:= .trans rfl rfl
theorem pR:(D.own l).view1= .slc l:= .trans rfl rfl
theorem xN:(D.fn f l).view1= .fn f l:= .trans rfl rfl
theorem rD:(D.agg l).view1= .agg l:= .trans rfl rfl
theorem A4 {r:Option Nat}:(D.mp r).view1= .mp r:= .trans rfl rfl
theorem xO {k:IntKind} {n:Int}:jE (.int k n)= .int k n:= .trans rfl rfl
theorem sx:jE (.bool b)= .bool b:= .trans rfl rfl
theorem tE {s:ByteArray}:jE (.string s)= .str s.data.toList:= .trans rfl rfl
theorem fd:jE .nilFunc= .nilfn:= .trans rfl rfl
theorem B2:jE (.slice none 0 0)= .own []:= .trans rfl rfl
theorem lS {k:IntKind} {n:Int}:fact (.int k n)=wS k n:= .trans rfl rfl
theorem Bm:fact (.str l)=(l.length<=big):= .trans rfl rfl
theorem lP:fact (.slc l)=(l.length<=big):= .trans rfl rfl
theorem pK:fact (.bool b)=True:= .trans rfl rfl
theorem Aq:fact (.agg l)=True:= .trans rfl rfl
theorem xD:fact (.tup l)=True:= .trans rfl rfl
theorem CK:fact (.fn f l)=True:= .trans rfl rfl
theorem jl:qk ((b,o)::H) b=some o:=by simp [qk]
theorem qg (h:b≠c):qk ((c,o)::H) b=qk H b:=by simp [qk,h]
theorem vM {b:Nat} {o x:AO}:qE ((b,o)::H) b x=(b,x)::H:=by simp [qE]
theorem qi {b c:Nat} {o x:AO} (h:b≠c):qE ((c,o)::H) b x=(c,o)::qE H b x:=by simp [qE,h]
theorem iX:qz ((c,o)::H) b=(c≠b∧qz H b):=by
 show (b≠c∧qz H b)=_
 rw [ne_comm]
theorem qD (h:qz H c) (hb:qk H b=some o):b≠c:=by
 induction H with
 |nil=>cases hb
 | cons x r ih=>
  obtain ⟨c',o'⟩:=x
  simp only [qk] at hb
  split at hb
  ·rename_i e
   exact fun e'=>h.1 (e'.symm.trans e)
  ·exact ih h.2 hb
theorem AR (h:qz H c) (hb:(qk H b).isSome=true):qk ((c,o)::H) b=qk H b:=by
 obtain ⟨y,hy⟩:=Option.isSome_iff_exists.1 hb
 exact qg (qD h hy)
theorem na {b c:Nat} {o x:AO} (h:qz H c) (hb:(qk H b).isSome=true):qE ((c,o)::H) b x=(c,o)::qE H b x:=by
 obtain ⟨y,hy⟩:=Option.isSome_iff_exists.1 hb
 exact qi (qD h hy)
theorem Yq {b:Nat} {x:AO} (hb:(qk H b).isSome=true):qk (qE H b x) b=some x:=by
 induction H with
 |nil=>cases hb
 | cons y r ih=>
  obtain ⟨c',o'⟩:=y
  simp only [qk] at hb
  simp only [qE]
  split
  ·rename_i e;simp [qk,e]
  ·rename_i e
   rw [if_neg e] at hb
   simp only [qk,if_neg e]
   exact ih hb
theorem ZW {b c:Nat} {x:AO} (h:c≠b):qk (qE H b x) c=qk H c:=by
 induction H with
 |nil=>rfl
 | cons y r ih=>
  obtain ⟨c',o'⟩:=y
  simp only [qE]
  split
  ·rename_i e;subst e;simp [qk,h]
  ·simp only [qk,ih]
theorem gL {b:Nat} {x y:AO}:qE (qE H b x) b y=qE H b y:=by
 induction H with
 |nil=>rfl
 | cons z r ih=>
  obtain ⟨c',o'⟩:=z
  simp only [qE]
  split
  ·rename_i e;simp [qE,e]
  ·rename_i e;simp [qE,e,ih]
theorem xY {b c:Nat} {x:AO}:qz (qE H b x) c=qz H c:=by
 induction H with
 |nil=>rfl
 | cons z r ih=>
  obtain ⟨c',o'⟩:=z
  simp only [qE]
  split
  ·rename_i e;subst e;rfl
  ·simp only [qz,ih]
theorem yX {n:Nat} {x:Nat×AO} (h:H.length=n):back n (x::H)=H:=by
 subst h
 rw [wy (Mn _),Y5]
theorem qL (h:H.length=n):back n H=H:=by subst h;exact Y5 H
end
section
variable {P:Program} {ρ:Operand->D} {H:AH} {K:D->Prop} {t:TypeId} {x y:Operand}
def dU (c a b:D) (K:D->Prop):Prop:=match c with
 | .bool true=>K a
 | .bool false=>K b
 |_=>False
theorem mQ:qO P ρ H (.pick c a b) K=dU (ρ c) (ρ a) (ρ b) K:= .trans rfl rfl
theorem DX:dU (.bool true) a b K=K a:= .trans rfl rfl
theorem EI:dU (.bool false) a b K=K b:= .trans rfl rfl
def mT (P:Program) (t:TypeId) (o:Option (List D)) (l:List (Nat×D)) (K:D->Prop):Prop:=match o with
 |some z=>jW P t=true∧(∀p∈l,okc p.2=true)∧wG P t (l.map fun p=>(p.1,cellsOf p.2)) (z.map D.view1) fun cs=>K (.agg cs)
 |none=>False
theorem A3:qO P ρ H (.build t ps) K=mT P t (yw P t) (ps.toList.map fun p=>(p.1,ρ p.2)) K:=by
 simp only [qO,mT]
 cases yw P t with
 |none=>rfl
 |some z=>simp only [Mx,Function.comp_def,List.forall_mem_map]
def QI (P:Program) (t:TypeId) (l:List (Nat×List D)) (z:List D) (K:D->Prop):Prop:=wG P t l z fun cs=>K (.agg cs)
theorem EU:mT P t (some z) l K=(jW P t=true∧(l.all fun p=>okc p.2)=true∧QI P t (l.map fun p=>(p.1,cellsOf p.2)) (z.map D.view1) K):=by
 rw [List.all_eq_true]
 rfl
theorem FR:QI P t [] z K=K (.agg z):= .trans rfl rfl
def df (P:Program) (t:TypeId) (o:Option (Nat×Bool×Nat)) (cs:List D) (l:List (Nat×List D)) (z:List D) (K:D->Prop):Prop:=match o with
 |some (off,_,n)=>cs.length=n∧off+n<=z.length∧QI P t l (z.take off++(cs++z.drop (off+n))) K
 |none=>False
theorem D7:QI P t ((i,cs)::l) z K=df P t (jS P t i) cs l z K:=by
 unfold QI df
 rw [wG]
 cases jS P t i<;>rfl
theorem EK:df P t (some (off,ag,n)) cs l z K=(cs.length=n∧off+n<=z.length∧QI P t l (z.take off++(cs++z.drop (off+n))) K):= .trans rfl rfl
def fG (P:Program) (o:Option (TypeId×Nat)) (n:Nat) (l:List (Nat×D)) (K:D->Prop):Prop:=match o with
 |some (e,sz)=>l.map (·.1)=List.range n∧(∀p∈l,okc p.2=true∧(cellsOf p.2).length=sz)∧n*sz<=16777216∧(yw P e).isSome=true∧K (.own (l.map fun p=>cellsOf p.2))
 |none=>False
theorem tw:qO P ρ H (.buildSlice t n ps) K=fG P (yn P t) n (ps.toList.map fun p=>(p.1,ρ p.2)) K:=by
 simp only [qO,fG]
 cases yn P t with
 |none=>rfl
 |some z=>simp only [Mx,Function.comp_def,List.forall_mem_map]
theorem Dv {e:TypeId}:fG P (some (e,sz)) n l K=(l.map (·.1)=List.range n∧(l.all fun p=>okc p.2&&(cellsOf p.2).length==sz)=true∧n*sz<=16777216∧(yw P e).isSome=true∧K (.own (l.map fun p=>cellsOf p.2))):=by
 simp only [fG,List.all_eq_true,Mi,beq_iff_eq]
def iI (c:Option D) (K:D->Prop):Prop:=match c with
 |some c=>fact c.view1->K c.view1
 |none=>False
def i7 (c:Option D) (K:D->Prop):Prop:=match c with
 |some c=>fact c->K c
 |none=>False
def UW (ag:Bool) (n off:Nat) (o:Option AO) (K:D->Prop):Prop:=match o with
 |some (.cells cs)=>if ag=true then off+n<=cs.length∧K (.agg (((cs.drop off).take n).map D.view1)) else iI cs[off]? K
 |some (.cst cs)=>if ag=true then off+n<=cs.length∧K (.agg ((cs.drop off).take n)) else i7 cs[off]? K
 |_=>False
def dx (ty:Option (Bool×Nat)) (a:D) (H:AH) (K:D->Prop):Prop:=match ty,a with
 |some (ag,n),.ptr b off=>UW ag n off (qk H b) K
 |some (true,n),.eptr cs=>n<=cs.length∧K (.agg (cs.take n))
 |some (false,_),.eptr (c::_)=>fact c->K c
 |_,_=>False
theorem rO:qO P ρ H (.load t a) K=dx (yq P t) (ρ a) H K:=by
 simp only [qO,dx]
 cases yq P t with
 |none=>rfl
 | some z=>
  obtain ⟨ag,n⟩:=z
  cases ρ a<;>cases ag<;>first
   |rfl
   |(simp only [UW,iI,i7];rfl)
   |(rename_i cs;cases cs<;>rfl)
theorem Hj:dx (some (ag,n)) (.ptr b off) H K=UW ag n off (qk H b) K:= .trans rfl rfl
theorem CU:UW true n off (some (.cells cs)) K=(off+n<=cs.length∧K (.agg (((cs.drop off).take n).map D.view1))):= .trans rfl rfl
theorem FE:UW false n off (some (.cells cs)) K=iI cs[off]? K:= .trans rfl rfl
theorem td:UW true n off (some (.cst cs)) K=(off+n<=cs.length∧K (.agg ((cs.drop off).take n))):= .trans rfl rfl
theorem AV:UW false n off (some (.cst cs)) K=i7 cs[off]? K:= .trans rfl rfl
theorem Bc:i7 (some c) K=(fact c->K c):= .trans rfl rfl
theorem DW:iI (some c) K=(fact c.view1->K c.view1):= .trans rfl rfl
theorem A5:dx (some (true,n)) (.eptr cs) H K=(n<=cs.length∧K (.agg (cs.take n))):= .trans rfl rfl
theorem A2:dx (some (false,n)) (.eptr (c::cs)) H K=(fact c->K c):= .trans rfl rfl
def Gu (P:Program) (op:BinOp) (t:TypeId) (a b:D) (K:D->Prop):Prop:=match a,b with
  | .bool a,.bool b=>Q1 P t=true∧yZ op (.bool a) (.bool b) K
  | .agg xs,.agg ys=>match fF P t with
   | some l=>fits l xs∧fits l ys∧sameK xs ys∧(match op with
    | .eql=>K (.bool (eqCells xs ys))
    | .neq=>K (.bool (!eqCells xs ys))
    |_=>False)
   |none=>False
  |a,b=>yZ op a b K
theorem th {u:TypeId}:qO P ρ H (.binOp op t x y u) K=Gu P op t (ρ x) (ρ y) K:= .trans rfl rfl
theorem Dh:Gu P op t (.int ka a) (.int kb b) K=yZ op (.int ka a) (.int kb b) K:= .trans rfl rfl
theorem EB:Gu P op t (.str a) (.str b) K=yZ op (.str a) (.str b) K:= .trans rfl rfl
theorem CV:Gu P op t (.bool a) (.bool b) K=(Q1 P t=true∧yZ op (.bool a) (.bool b) K):= .trans rfl rfl
def iw (o:Option (List CT)) (op:BinOp) (xs ys:List D) (K:D->Prop):Prop:=match o with
 | some l=>fits l xs∧fits l ys∧sameK xs ys∧(match op with
    | .eql=>K (.bool (eqCells xs ys))
    | .neq=>K (.bool (!eqCells xs ys))
    |_=>False)
 |none=>False
theorem D8:Gu P op t (.agg xs) (.agg ys) K=iw (fF P t) op xs ys K:=by
 unfold iw
 simp only [Gu]
theorem DN:iw (some l) .eql xs ys K=(fits l xs∧fits l ys∧sameK xs ys∧K (.bool (eqCells xs ys))):= .trans rfl rfl
theorem Hz:iw (some l) .neq xs ys K=(fits l xs∧fits l ys∧sameK xs ys∧K (.bool (!eqCells xs ys))):= .trans rfl rfl
theorem mq:yZ .shl (.int ka a) (.int kb b) K=(0<=b∧K (.int ka (ka.wrap (a*2 ^ (min b.toNat ka.bits))))):= .trans rfl rfl
theorem rV:yZ .shr (.int ka a) (.int kb b) K=(0<=b∧K (.int ka (a.fdiv (2 ^ (min b.toNat ka.bits))))):= .trans rfl rfl
theorem pP:yZ .add (.int ka a) (.int kb b) K=(ka=kb∧K (.int ka (ka.wrap (a+b)))):= .trans rfl rfl
theorem mV:yZ .sub (.int ka a) (.int kb b) K=(ka=kb∧K (.int ka (ka.wrap (a - b)))):= .trans rfl rfl
theorem ro:yZ .mul (.int ka a) (.int kb b) K=(ka=kb∧K (.int ka (ka.wrap (a*b)))):= .trans rfl rfl
theorem nV:yZ .quo (.int ka a) (.int kb b) K=(ka=kb∧b≠0∧K (.int ka (ka.wrap (a.tdiv b)))):= .trans rfl rfl
theorem s8:yZ .rem (.int ka a) (.int kb b) K=(ka=kb∧b≠0∧K (.int ka (a.tmod b))):= .trans rfl rfl
theorem mi:yZ .and (.int ka a) (.int kb b) K=(ka=kb∧K (.int ka (bits .and ka a b))):= .trans rfl rfl
theorem AE:yZ .or (.int ka a) (.int kb b) K=(ka=kb∧K (.int ka (bits .or ka a b))):= .trans rfl rfl
theorem pg:yZ .xor (.int ka a) (.int kb b) K=(ka=kb∧K (.int ka (bits .xor ka a b))):= .trans rfl rfl
theorem rt:yZ .eql (.int ka a) (.int kb b) K=(ka=kb∧K (.bool (decide (a=b)))):= .trans rfl rfl
theorem nI:yZ .neq (.int ka a) (.int kb b) K=(ka=kb∧K (.bool (!decide (a=b)))):= .trans rfl rfl
theorem p7:yZ .lss (.int ka a) (.int kb b) K=(ka=kb∧K (.bool (decide (a<b)))):= .trans rfl rfl
theorem pu:yZ .leq (.int ka a) (.int kb b) K=(ka=kb∧K (.bool (decide (a<=b)))):= .trans rfl rfl
theorem nW:yZ .gtr (.int ka a) (.int kb b) K=(ka=kb∧K (.bool (decide (b<a)))):= .trans rfl rfl
theorem rH:yZ .geq (.int ka a) (.int kb b) K=(ka=kb∧K (.bool (decide (b<=a)))):= .trans rfl rfl
theorem rK:yZ .add (.str a) (.str b) K=(a.length+b.length<=big∧K (.str (a++b))):= .trans rfl rfl
theorem sy:yZ .eql (.str a) (.str b) K=(K (.bool (decide (a=b)))):= .trans rfl rfl
theorem su:yZ .neq (.str a) (.str b) K=(K (.bool (!decide (a=b)))):= .trans rfl rfl
theorem sw:yZ .neq (.bool a) (.bool b) K=K (.bool (!(a==b))):= .trans rfl rfl
def BE (op:UnOp) (x:D) (K:D->Prop):Prop:=match op,x with
  | .not,.bool b=>K (.bool (!b))
  | .neg,.int kd n=>K (.int kd (kd.wrap (0 - n)))
  | .xor,.int kd n=>K (.int kd (bits .xor kd (if kd.signed then -1 else kd.max) n))
  |_,_=>False
theorem xy:qO P ρ H (.unOp u t x) K=BE u (ρ x) K:= .trans rfl rfl
theorem Dg:BE .not (.bool b) K=K (.bool (!b)):= .trans rfl rfl
theorem Cz:BE .neg (.int kd n) K=K (.int kd (kd.wrap (0 - n))):= .trans rfl rfl
theorem tm:BE .xor (.int kd n) K=K (.int kd (bits .xor kd (if kd.signed then -1 else kd.max) n)):= .trans rfl rfl
def Co (o:Option IntKind) (n:Int) (c:Prop) (K:D->Prop):Prop:=match o with
 |some kd=>c∧K (.int kd (kd.wrap n))
 |none=>False
def DO (b:Bool) (A B:Prop):Prop:=if b=true then A else B
def C7 (P:Program) (s t:TypeId) (o:Option AO) (off n:Nat) (K:D->Prop):Prop:=match o with
 |some (.cells cs)=>yF P s=true∧kK P t=true∧off+n<=cs.length∧(∀d∈(cs.drop off).take n,wn [d])∧(fact (.str (((cs.drop off).take n).map fun d=>unbyte [d]))->K (.str (((cs.drop off).take n).map fun d=>unbyte [d])))
 |_=>False
def sW (P:Program) (H:AH) (s t:TypeId) (x:D) (K:D->Prop):Prop:=match x with
  | .int _ n=>Co (KU P t) n (zG P s=true) K
  | .str l=>DO (kK P t) (kK P s=true∧K (.str l)) (kK P s=true∧yF P t=true∧(fact (.str l)->K (.slc (l.map qh))))
  | .slc xs=>yF P s=true∧kK P t=true∧(∀x∈xs,wn x)∧(fact (.slc xs)->K (.str (xs.map unbyte)))
  | .hso b off n=>C7 P s t (qk H b) off n K
  |_=>False
theorem si {s:TypeId}:qO P ρ H (.convert s t x) K=sW P H s t (ρ x) K:=by
 simp only [qO,sW,C7]
 cases ρ x<;>first
  |rfl
  |(simp only [Co];cases KU P t<;>rfl)
theorem FJ {s:TypeId}:sW P H s t (.int kd n) K=Co (KU P t) n (zG P s=true) K:= .trans rfl rfl
theorem CW {c:Prop}:Co (some kd) n c K=(c∧K (.int kd (kd.wrap n))):= .trans rfl rfl
theorem D9 {s:TypeId}:sW P H s t (.str l) K=DO (kK P t) (kK P s=true∧K (.str l)) (kK P s=true∧yF P t=true∧(fact (.str l)->K (.slc (l.map qh)))):= .trans rfl rfl
theorem D0 {s:TypeId}:sW P H s t (.hso b off n) K=C7 P s t (qk H b) off n K:= .trans rfl rfl
theorem Ai {s:TypeId}:C7 P s t (some (.cells cs)) off n K=(yF P s=true∧kK P t=true∧off+n<=cs.length∧(∀d∈(cs.drop off).take n,wn [d])∧(fact (.str (((cs.drop off).take n).map fun d=>unbyte [d]))->K (.str (((cs.drop off).take n).map fun d=>unbyte [d])))):= .trans rfl rfl
theorem sZ {A B:Prop}:DO false A B=B:= .trans rfl rfl
theorem DR {s:TypeId}:sW P H s t (.slc xs) K=(yF P s=true∧kK P t=true∧(∀x∈xs,wn x)∧(fact (.slc xs)->K (.str (xs.map unbyte)))):= .trans rfl rfl
def Cp (f:FuncId) (a c:List D) (K:D->Prop):Prop:=match a with
 | []=>sO c=false∧K (.fn f c)
 |a=>c= []∧K (.fn f (.tup []::a))
theorem Fp {K:D->Prop}:Cp f [] c K=(sO c=false∧K (.fn f c)):= .trans rfl rfl
theorem E6 {f:FuncId} {x:D} {a c:List D} {K:D->Prop}:Cp f (x::a) c K=(c= []∧K (.fn f (.tup []::x::a))):= .trans rfl rfl
theorem Hg:sO (.ptr b off::r)=false:= .trans rfl rfl
theorem CZ:um a []=a++ []:= .trans rfl rfl
theorem EM:um a (.ptr b off::r)=a++ .ptr b off::r:= .trans rfl rfl
theorem Et:um a (.tup []::r)=r++a:= .trans rfl rfl
theorem Du:qO P ρ H (.makeFunc (.func f) a c) K=Cp f (a.toList.map ρ) (c.toList.map ρ) K:=by
 obtain ⟨a⟩:=a
 obtain ⟨c⟩:=c
 cases a with
 |nil=>rfl
 | cons x l=>
  simp only [qO,Cp,List.map_cons,Array.mk.injEq,List.map_eq_nil_iff]
def iG (P:Program) (o:Option (List D)) (e:TypeId) (a b:D) (K:D->Prop):Prop:=match o,a,b with
 |some z,.int _ n,.int _ m=>n=m∧0<=n∧(match P.info? e with|some i=>(i.bytes:Int)*n<=140737488355328∧n<=140737488355328|none=>False)∧K (.own (List.replicate n.toNat (z.map D.view1)))
 |_,_,_=>False
def rZ (P:Program) (o:Option (TypeId×Nat)) (a b:D) (K:D->Prop):Prop:=match o with
 |some (e,sz)=>iG P (yw P e) e a b K
 |none=>False
theorem DF:qO P ρ H (.makeSlice t a b) K=rZ P (yn P t) (ρ a) (ρ b) K:=by
 simp only [qO,rZ,iG]
 cases yn P t with
 |none=>rfl
 |some z=>rfl
theorem FG {e:TypeId}:rZ P (some (e,sz)) a b K=iG P (yw P e) e a b K:= .trans rfl rfl
theorem FS {e:TypeId}:iG P (some z) e (.int ka n) (.int kb m) K=(n=m∧0<=n∧(match P.info? e with|some i=>(i.bytes:Int)*n<=140737488355328∧n<=140737488355328|none=>False)∧K (.own (List.replicate n.toNat (z.map D.view1)))):= .trans rfl rfl
def fU (o:Option (TypeId×Nat)) (xs:List (List D)) (lo hi:Option D) (K:D->Prop):Prop:=match o with
 |some (_,sz)=>(∀x∈xs,x.length=sz)∧oq xs.length lo hi fun l h=>K (.slc ((xs.take h).drop l))
 |none=>False
def cF (s:List UInt8) (lo hi:Option D) (K:D->Prop):Prop:=oq s.length lo hi fun l h=>K (.str ((s.take h).drop l))
def eS (xs:List (List D)) (lo hi:Option D) (K:D->Prop):Prop:=oq xs.length lo hi fun l h=>K (.slc ((xs.take h).drop l))
def A0 (o:Option (TypeId×Nat)) (b n:Nat) (lo hi:Option D) (K:D->Prop):Prop:=match o with
 |some (_,sz)=>oq n lo hi fun l h=>l<h∧K (match lo with|none=>.hsl b h|some _=>.hso b (l*sz) (h - l))
 |none=>False
def W9 (n sz b off:Nat) (lo hi:Option D) (K:D->Prop):Prop:=oq n lo hi fun l h=>l<h∧K (.hso b (off+l*sz) (h - l))
def eV (o:Option (TypeId×Nat)) (b off n:Nat) (lo hi:Option D) (K:D->Prop):Prop:=match o with
 |some (_,sz)=>W9 n sz b off lo hi K
 |none=>False
def fT (o:Option (Nat×Nat)) (b off:Nat) (lo hi:Option D) (K:D->Prop):Prop:=match o with
 |some (m,sz)=>m<=65536∧W9 m sz b off lo hi K
 |none=>False
def GY (P:Program) (t:TypeId) (x:D) (lo hi:Option D) (K:D->Prop):Prop:=match x with
 | .hso b off n=>eV (yn P t) b off n lo hi K
 | .ptr b off=>fT (K4 P t) b off lo hi K
 | .hsl b n=>A0 (yn P t) b n lo hi K
 | .slc xs=>fU (yn P t) xs lo hi K
 | .str s=>kK P t=true∧cF s lo hi K
 |_=>False
theorem Ht:qO P ρ H (.slice t x lo hi none) K=GY P t (ρ x) (lo.map ρ) (hi.map ρ) K:=by
 simp only [qO,GY,fU,cF,A0,eV,fT,W9]
 cases ρ x<;>first|rfl|(cases lo<;>rfl)
theorem FW:GY P t (.slc xs) lo hi K=fU (yn P t) xs lo hi K:= .trans rfl rfl
theorem EV:GY P t (.hso b off n) lo hi K=eV (yn P t) b off n lo hi K:= .trans rfl rfl
theorem DV:GY P t (.ptr b off) lo hi K=fT (K4 P t) b off lo hi K:= .trans rfl rfl
theorem ES {e:TypeId}:eV (some (e,sz)) b off n lo hi K=W9 n sz b off lo hi K:= .trans rfl rfl
theorem CP:fT (some (m,sz)) b off lo hi K=(m<=65536∧W9 m sz b off lo hi K):= .trans rfl rfl
theorem xF:W9 n sz b off none none K=(0<n∧K (.hso b (off+0*sz) (n - 0))):= .trans rfl rfl
theorem xE:W9 n sz b off (some (.int kd l)) none K=(0<=l∧l<=(n:Int)∧l.toNat<n∧K (.hso b (off+l.toNat*sz) (n - l.toNat))):= .trans rfl rfl
theorem tq:W9 n sz b off none (some (.int kd h)) K=(0<=h∧h<=(n:Int)∧0<h.toNat∧K (.hso b (off+0*sz) (h.toNat - 0))):= .trans rfl rfl
theorem tK:W9 n sz b off (some (.int ka l)) (some (.int kb h)) K=(0<=l∧l<=h∧h<=(n:Int)∧l.toNat<h.toNat∧K (.hso b (off+l.toNat*sz) (h.toNat - l.toNat))):= .trans rfl rfl
theorem Er:GY P t (.str s) lo hi K=(kK P t=true∧cF s lo hi K):= .trans rfl rfl
theorem E1 {e:TypeId}:fU (some (e,sz)) xs lo hi K=((∀x∈xs,x.length=sz)∧eS xs lo hi K):= .trans rfl rfl
theorem tV:cF s (some (.int kd l)) none K=(0<=l∧l<=(s.length:Int)∧K (.str ((s.take s.length).drop l.toNat))):= .trans rfl rfl
theorem tp:cF s none (some (.int kd h)) K=(0<=h∧h<=(s.length:Int)∧K (.str ((s.take h.toNat).drop 0))):= .trans rfl rfl
theorem AL:eS s (some (.int kd l)) none K=(0<=l∧l<=(s.length:Int)∧K (.slc ((s.take s.length).drop l.toNat))):= .trans rfl rfl
theorem te:eS s none (some (.int kd h)) K=(0<=h∧h<=(s.length:Int)∧K (.slc ((s.take h.toNat).drop 0))):= .trans rfl rfl
theorem tz:eS s (some (.int ka l)) (some (.int kb h)) K=(0<=l∧l<=h∧h<=(s.length:Int)∧K (.slc ((s.take h.toNat).drop l.toNat))):= .trans rfl rfl
def Dl (o:Option (Nat×Bool×Nat)) (x:D) (K:D->Prop):Prop:=match o,x with
  |some (off,_,_),.ptr b o=>K (.ptr b (o+off))
  |some (off,_,_),.eptr cs=>off<=cs.length∧K (.eptr (cs.drop off))
  |_,_=>False
theorem CD:qO P ρ H (.fieldAddr t x f) K=Dl (jX P t f) (ρ x) K:= .trans rfl rfl
theorem EP:Dl (some (off,ag,n)) (.ptr b o) K=K (.ptr b (o+off)):= .trans rfl rfl
theorem DI:Dl (some (off,ag,n)) (.eptr cs) K=(off<=cs.length∧K (.eptr (cs.drop off))):= .trans rfl rfl
def xL (o:Option (TypeId×Nat)) (xs:List (List D)) (n:Int) (K:D->Prop):Prop:=match o with
 |some (_,sz)=>0<=n∧n<(xs.length:Int)∧(xs.getD n.toNat []).length=sz∧K (.eptr (xs.getD n.toNat []))
 |none=>False
def BU (o:Option (Nat×Nat)) (b off:Nat) (n:Int) (K:D->Prop):Prop:=match o with
 |some (m,sz)=>0<=n∧n<(m:Int)∧K (.ptr b (off+n.toNat*sz))
 |none=>False
def iaE (o:Option (Nat×Nat)) (cs:List D) (n:Int) (K:D->Prop):Prop:=match o with
 |some (m,sz)=>0<=n∧n<(m:Int)∧n.toNat*sz<=cs.length∧K (.eptr (cs.drop (n.toNat*sz)))
 |none=>False
def sM (o:Option (TypeId×Nat)) (b m:Nat) (n:Int) (K:D->Prop):Prop:=match o with
  |some (_,sz)=>0<=n∧n<(m:Int)∧K (.ptr b (n.toNat*sz))
  |none=>False
def BW (o:Option (TypeId×Nat)) (b off m:Nat) (n:Int) (K:D->Prop):Prop:=match o with
  |some (_,sz)=>0<=n∧n<(m:Int)∧K (.ptr b (off+n.toNat*sz))
  |none=>False
def pM (P:Program) (t:TypeId) (x i:D) (K:D->Prop):Prop:=match x,i with
  | .slc xs,.int _ n=>xL (yn P t) xs n K
  | .hsl b m,.int _ n=>sM (yn P t) b m n K
  | .ptr b off,.int _ n=>BU (K4 P t) b off n K
  | .eptr cs,.int _ n=>iaE (K4 P t) cs n K
  | .hso b off m,.int _ n=>BW (yn P t) b off m n K
  | .osl _ _ xs,.int _ n=>xL (yn P t) xs n K
  | .hgs b m _,.int _ n=>sM (yn P t) b m n K
  |_,_=>False
theorem Fi:qO P ρ H (.indexAddr t x y) K=pM P t (ρ x) (ρ y) K:=by
 simp only [qO,pM,xL,BU,iaE,sM,BW]
 cases ρ x<;>first|rfl|(cases ρ y<;>rfl)
theorem CN:pM P t (.slc xs) (.int kd n) K=xL (yn P t) xs n K:= .trans rfl rfl
theorem CH:pM P t (.hso b off m) (.int kd n) K=BW (yn P t) b off m n K:= .trans rfl rfl
theorem xW {e:TypeId}:BW (some (e,sz)) b off m n K=(0<=n∧n<(m:Int)∧K (.ptr b (off+n.toNat*sz))):= .trans rfl rfl
theorem Df:pM P t (.ptr b off) (.int kd n) K=BU (K4 P t) b off n K:= .trans rfl rfl
theorem Bk {e:TypeId}:xL (some (e,sz)) xs n K=(0<=n∧n<(xs.length:Int)∧(xs.getD n.toNat []).length=sz∧K (.eptr (xs.getD n.toNat []))):= .trans rfl rfl
theorem Bv:BU (some (m,sz)) b off n K=(0<=n∧n<(m:Int)∧K (.ptr b (off+n.toNat*sz))):= .trans rfl rfl
def BF (a:Option (Nat×Nat)) (e:Option Bool) (cs:List D) (n:Int) (K:D->Prop):Prop:=match a,e with
 |some (m,sz),some false=>sz=1∧0<=n∧n<(m:Int)∧m<=cs.length∧(fact (cs.getD n.toNat .any)->K (cs.getD n.toNat .any))
 |_,_=>False
def Fy (P:Program) (t:TypeId) (x i:D) (K:D->Prop):Prop:=match x,i with
  | .str s,.int _ n=>kK P t=true∧0<=n∧n<(s.length:Int)∧K (.int .u8 (s.getD n.toNat 0).toNat)
  | .agg cs,.int _ n=>BF (K4 P t) (AT P t) cs n K
  |_,_=>False
theorem DE:qO P ρ H (.index t x y) K=Fy P t (ρ x) (ρ y) K:=by
 simp only [qO,Fy,BF]
 cases ρ x<;>first|rfl|(cases ρ y<;>rfl)
theorem DA:Fy P t (.agg cs) (.int kd n) K=BF (K4 P t) (AT P t) cs n K:= .trans rfl rfl
theorem At:BF (some (m,sz)) (some false) cs n K=(sz=1∧0<=n∧n<(m:Int)∧m<=cs.length∧(fact (cs.getD n.toNat .any)->K (cs.getD n.toNat .any))):= .trans rfl rfl
def Eb (a:Option (Nat×Nat)) (x:D) (K:D->Prop):Prop:=match a,x with
  |some (m,_),.hso b off n=>m<=n∧K (.ptr b off)
  |some (m,sz),.slc xs=>sz=1∧m<=xs.length∧(∀x∈xs,x.length=1)∧K (.eptr (xs.take m).flatten)
  |_,_=>False
theorem Db:qO P ρ H (.sliceToArrayPointer t x) K=Eb (K4 P t) (ρ x) K:= .trans rfl rfl
theorem EY:Eb (some (m,sz)) (.hso b off n) K=(m<=n∧K (.ptr b off)):= .trans rfl rfl
theorem Dd:Eb (some (m,sz)) (.slc xs) K=(sz=1∧m<=xs.length∧(∀x∈xs,x.length=1)∧K (.eptr (xs.take m).flatten)):= .trans rfl rfl
def ncD (x:D) (K:D->Prop):Prop:=match x with
  | .ptr b o=>K (.ptr b o)
  | .eptr cs=>K (.eptr cs)
  | .fn f cs=>K (.fn f cs)
  |_=>False
theorem Fq:qO P ρ H (.nilCheck x) K=ncD (ρ x) K:= .trans rfl rfl
theorem Hx:ncD (.ptr b o) K=K (.ptr b o):= .trans rfl rfl
def ah (P:Program) (t:TypeId) (x:D) (K:D->Prop):Prop:=match x with
 | .slc xs=>(yn P t).isSome=true∧(fact (.slc xs)->K (.int .i64 xs.length))
 | .hsl b n=>(yn P t).isSome=true∧K (.int .i64 n)
 | .hso b off n=>(yn P t).isSome=true∧K (.int .i64 n)
 | .hgs b n _=>(yn P t).isSome=true∧K (.int .i64 n)
 | .str s=>kK P t=true∧(fact (.str s)->K (.int .i64 s.length))
 |_=>False
theorem Br:qO P ρ H (.call ⟨.builtin .len,#[x],#[t]⟩) K=ah P t (ρ x) K:=by
 simp only [qO,ah,List.map_cons,List.map_nil]
 cases ρ x<;>rfl
theorem Hc:ah P t (.slc xs) K=((yn P t).isSome=true∧(fact (.slc xs)->K (.int .i64 xs.length))):= .trans rfl rfl
theorem Ff:ah P t (.hso b off n) K=((yn P t).isSome=true∧K (.int .i64 n)):= .trans rfl rfl
theorem EQ:ah P t (.str s) K=(kK P t=true∧(fact (.str s)->K (.int .i64 s.length))):= .trans rfl rfl
def sX (mx:Bool) (a b:D) (K:D->Prop):Prop:=match a,b with
 | .int kd a,.int kb b=>kd=kb∧K (.int kd (if mx=true then (if b>a then b else a) else (if b<a then b else a)))
 |_,_=>False
theorem Aa:qO P ρ H (.call ⟨.builtin .max,#[x,y],ts⟩) K=sX true (ρ x) (ρ y) K:=by
 simp only [qO,sX,List.map_cons,List.map_nil]
 cases ρ x<;>first|rfl|(cases ρ y<;>rfl)
theorem tg:qO P ρ H (.call ⟨.builtin .min,#[x,y],ts⟩) K=sX false (ρ x) (ρ y) K:=by
 simp only [qO,sX,List.map_cons,List.map_nil]
 cases ρ x<;>first|rfl|(cases ρ y<;>rfl)
theorem Fc:sX true (.int ka a) (.int kb b) K=(ka=kb∧K (.int ka (if b>a then b else a))):= .trans rfl rfl
theorem H9:sX false (.int ka a) (.int kb b) K=(ka=kb∧K (.int ka (if b<a then b else a))):= .trans rfl rfl
end
section
variable {H:AH} {n:Nat} {x1 x2 x3 x4 x5 x6:Nat×AO}
theorem dJ (h:H.length=n):back n (x1::x2::H)=H:=by
 rw [wy (by simp;omega),yX h]
theorem dW (h:H.length=n):back n (x1::x2::x3::H)=H:=by
 rw [wy (by simp;omega),dJ h]
theorem Zh (h:H.length=n):back n (x1::x2::x3::x4::H)=H:=by
 rw [wy (by simp;omega),dW h]
theorem dZ (h:H.length=n):back n (x1::x2::x3::x4::x5::H)=H:=by
 rw [wy (by simp;omega),Zh h]
theorem cW (h:H.length=n):back n (x1::x2::x3::x4::x5::x6::H)=H:=by
 rw [wy (by simp;omega),dZ h]
end
def Fr (n:Nat) (ks:List (Nat×D)) (F:List D):Prop:=F.length=n∧go ks F
 where go:List (Nat×D)->List D->Prop
 | [],_=>True
 |(i,d)::r,F=>F[i]?=some d∧go r F
def frm (ks:List (Nat×D)) (z:Nat->D) (i:Nat):D:=match ks with
 | []=>z i
 |(j,d)::r=>if j=i then d else frm r z i
theorem Fr.at:∀{ks:List (Nat×D)} {F:List D},Fr.go ks F->∀i,i<F.length->F[i]?=some (frm ks (fun i=>F.getD i .any) i)
 | [],F,_,i,hi=>by simp [frm,List.getD_eq_getElem?_getD,Ma hi]
 | (j,d)::r,F,h,i,hi=>by
  unfold frm
  split
  ·rename_i e;subst e;exact h.1
  ·exact Fr.at h.2 i hi
theorem Fr.lit (h:Fr n ks F):∃z:Nat->D,F=(List.range n).map (frm ks z):=by
 obtain ⟨rfl,h⟩:=h
 refine ⟨fun i=>F.getD i .any,List.ext_getElem? fun i=>?_⟩
 rcases Ms i F.length with hi|hi
 ·rw [Fr.at h i hi]
  simp [hi]
 ·simp [hi]
theorem XW.loopK (hm:P.follows .mixedOrders=true) (I:List D->AH->Prop) (μ:List D->AH->Nat) (h0:I F H)
  (round:∀F H,I F H->∀K:AQ,(∀F' H',I F' (back H.length H')->μ F' (back H.length H')<μ F H->K .normal F' H')->(∀i F' H',Q (.exit i) F' H'->K (.exit i) F' H')->(∀F' H',Q .ret F' H'->K .ret F' H')->xcode P x F H K):XW P x F H Q:=
 XW.loop hm I μ h0 fun F H hI=>round F H hI (mg I μ F H Q) (fun _ _ a b=>⟨a,b⟩) (fun _ _ _ h=>h) (fun _ _ h=>h)
theorem XW.loopKR (hm:P.follows .mixedOrders=true) (I:List D->AH->Prop) (μ:List D->AH->Nat) (h0:I F H)
  (round:∀F H,I F H->∀K:AQ,(∀F' H' H'',Sbn H'' H'->I F' H''->μ F' H''<μ F H->K .normal F' H')->(∀i F' H',Q (.exit i) F' H'->K (.exit i) F' H')->(∀F' H',Q .ret F' H'->K .ret F' H')->xcode P x F H K):XW P x F H Q:=
 XW.loopR hm I μ h0 fun F H hI=>round F H hI (cf I μ F H Q) (fun _ _ H'' a b c=>⟨H'',a,b,c⟩) (fun _ _ _ h=>h) (fun _ _ h=>h)
def lE (H:AH) (R:D->AH->Prop):D->Prop:=fun d=>∃H',Sbn H' H∧R d H'
theorem Qq {R:D->AH->Prop}:lE H R d=∃H',Sbn H' H∧R d H':= .trans rfl rfl
theorem zi {R:D->AH->Prop}:VQ P rs R .ret F H=gb P rs F H (lE H R):= .trans rfl rfl
theorem kX:wS .i64 n=(-9223372036854775808<=n∧n<=9223372036854775807):=by
 simp [wS,Lit.wf,IntKind.min,IntKind.max,IntKind.signed,IntKind.bits]
theorem qj (h: -9223372036854775808<=n) (h':n<=9223372036854775807):IntKind.i64.wrap n=n:=by
 rw [Go.IntWalk.i64_left,Go.IntWalk.wrap64_in _ ⟨h,h'⟩]
theorem qm (h:i<=big):IntKind.i64.wrap ((i:Int)+1)=((i+1:Nat):Int):=by
 have:=qn
 rw [qj (by omega) (by omega)]
 omega
section
variable {P:Program} {F:List D} {H:AH} {k:HK} {r:List XO} {dst:Option Tmp} {tk ta:Bool} {t u:TypeId} {K:D->Prop}
theorem Bf:(D.hsl b n).view= .hsl b n:= .trans rfl rfl
theorem Ek:pM P t (.hsl b m) (.int kd n) K=sM (yn P t) b m n K:= .trans rfl rfl
theorem xv {e:TypeId}:sM (some (e,sz)) b m n K=(0<=n∧n<(m:Int)∧K (.ptr b (n.toNat*sz))):= .trans rfl rfl
theorem F7:pM P t (.hgs b m c) (.int kd n) K=sM (yn P t) b m n K:= .trans rfl rfl
theorem Dz:ah P t (.hgs b n c) K=((yn P t).isSome=true∧K (.int .i64 n)):= .trans rfl rfl
def eY (P:Program) (z:Option (List D)) (e:TypeId) (a b:D) (dst:Option Tmp) (r:List XO) (F:List D) (H:AH) (k:HK):Prop:=match z,a,b with
 |some z,.int _ n,.int _ m=>n=m∧0<=n∧(match P.info? e with|some i=>(i.bytes:Int)*n<=140737488355328∧n<=140737488355328|none=>False)∧∀b,qz H b->xops P false r (qJ F dst (.hsl b n.toNat)) ((b,.cells (List.replicate n.toNat z).flatten)::H) k
 |_,_,_=>False
def pE (P:Program) (o:Option (TypeId×Nat)) (a b:D) (dst:Option Tmp) (r:List XO) (F:List D) (H:AH) (k:HK):Prop:=match o with
 |some (e,_)=>eY P (yw P e) e a b dst r F H k
 |none=>False
theorem Bu:xops P false (⟨.call ⟨.builtin .append,#[l,c],#[t]⟩,dst,none,tk,ta⟩::r) F H k=pE P (yn P t) (rv F l) (rv F c) dst r F H k:=by
 have h0:xops P false (⟨.call ⟨.builtin .append,#[l,c],#[t]⟩,dst,none,tk,ta⟩::r) F H k=(false=false∧Az P t l c dst F H fun F' H'=>xops P false r F' H' k):= .trans rfl rfl
 rw [h0]
 unfold Az pE
 cases yn P t with
 |none=>simp
 | some z=>
  obtain ⟨e,sz⟩:=z
  simp only [true_and]
  unfold eY
  cases yw P e<;>first|rfl|(cases rv F l<;>first|rfl|(cases rv F c<;>rfl))
theorem AM {e:TypeId}:pE P (some (e,sz)) a b dst r F H k=eY P (yw P e) e a b dst r F H k:= .trans rfl rfl
theorem Av {e:TypeId}:eY P (some z) e (.int ka n) (.int kb m) dst r F H k=(n=m∧0<=n∧(match P.info? e with|some i=>(i.bytes:Int)*n<=140737488355328∧n<=140737488355328|none=>False)∧∀b,qz H b->xops P false r (qJ F dst (.hsl b n.toNat)) ((b,.cells (List.replicate n.toNat z).flatten)::H) k):= .trans rfl rfl
def pL (P:Program) (c:Option AO) (b n cap sz bs:Nat) (y:D) (d:Nat) (r:List XO) (F:List D) (H:AH) (k:HK):Prop:=match y,c with
 | .slc ys,some (.cells cs)=>(∀y∈ys,y.length=sz)∧cs.length=cap*sz∧(n+ys.length)*bs<=140737488355328∧(cs.take (n*sz)).all plain=true∧
   ∀b' cap' m,qz (qI H b) b'->n*sz+ys.length*sz+m=cap'*sz->xops P false r (F.set d (.hgs b' (n+ys.length) cap')) ((b',.cells (cs.take (n*sz)++(ys.flatten++List.replicate m .any)))::qI H b) k
 |_,_=>False
def fR (P:Program) (a:D) (o:Option (TypeId×Nat×Nat)) (y:D) (s d:Nat) (r:List XO) (F:List D) (H:AH) (k:HK):Prop:=match a,o with
 | .own [],some (_,sz,bs)=>match y with
  | .slc ys=>(∀y∈ys,y.length=sz)∧ys.length*bs<=140737488355328∧(ys= []->xops P false r ((F.set s (.slc [])).set d (.own [])) H k)∧
    (ys≠ []->∀b cap m,qz H b->ys.length*sz+m=cap*sz->xops P false r ((F.set s (.slc [])).set d (.hgs b ys.length cap)) ((b,.cells (ys.flatten++List.replicate m .any))::H) k)
  |_=>False
 | .hgs b n cap,some (_,sz,bs)=>pL P (qk H b) b n cap sz bs y d r F H k
 |_,_=>False
theorem A6 {v:TypeId}:xops P false (⟨.call ⟨.builtin .append,#[.tmp s,y],#[t,u,v]⟩,some d,none,tk,ta⟩::r) F H k=fR P (F.getD s .any) (KT P t u) (rv F y) s d r F H k:=by
 have h0:xops P false (⟨.call ⟨.builtin .append,#[.tmp s,y],#[t,u,v]⟩,some d,none,tk,ta⟩::r) F H k=(false=false∧xJ P t u (.tmp s) y (some d) F H fun F' H'=>xops P false r F' H' k):= .trans rfl rfl
 rw [h0]
 unfold xJ fR
 simp only [true_and,ev]
 generalize F.getD s D.any=e
 generalize KT P t u=q
 cases e<;>rfl
theorem xq {e:TypeId}:fR P (.own []) (some (e,sz,bs)) (.slc ys) s d r F H k=((∀y∈ys,y.length=sz)∧ys.length*bs<=140737488355328∧(ys= []->xops P false r ((F.set s (.slc [])).set d (.own [])) H k)∧
    (ys≠ []->∀b cap m,qz H b->ys.length*sz+m=cap*sz->xops P false r ((F.set s (.slc [])).set d (.hgs b ys.length cap)) ((b,.cells (ys.flatten++List.replicate m .any))::H) k)):= .trans rfl rfl
theorem tu {e:TypeId}:fR P (.hgs b n cap) (some (e,sz,bs)) y s d r F H k=pL P (qk H b) b n cap sz bs y d r F H k:= .trans rfl rfl
theorem Aj:pL P (some (.cells cs)) b n cap sz bs (.slc ys) d r F H k=((∀y∈ys,y.length=sz)∧cs.length=cap*sz∧(n+ys.length)*bs<=140737488355328∧(cs.take (n*sz)).all plain=true∧
   ∀b' cap' m,qz (qI H b) b'->n*sz+ys.length*sz+m=cap'*sz->xops P false r (F.set d (.hgs b' (n+ys.length) cap')) ((b',.cells (cs.take (n*sz)++(ys.flatten++List.replicate m .any)))::qI H b) k):= .trans rfl rfl
theorem xC:(D.hgs b n c).view= .hgs b n c:= .trans rfl rfl
theorem nJ:(D.hgs b n c).view1= .hgs b n c:= .trans rfl rfl
theorem xK:fact (.hgs b n c)=True:= .trans rfl rfl
theorem uB:qI ((b,o)::H) b=H:=by simp [qI]
theorem vY (h:b≠c):qI ((c,o)::H) b=(c,o)::qI H b:=by simp [qI,h]
theorem Ku (hz:Fz F H F' H') (h:xcode P x F' H' Q):xcode P (.gh x) F H Q:=Gz.of_fz hz h
theorem Vh:xcode P (.gh x) F H Q=Gz F H fun F' H'=>xcode P x F' H' Q:= .trans rfl rfl
end
section
variable {P:Program} {F:List D} {H H0:AH} {k:HK} {Q:AQ} {A:zx} {r:List (List XO×XO×Bool)} {last tail l:List XO} {x:XO} {S S':List Nat} {t s d:Nat} {tk ta fl:Bool} {K:zx->List Nat->HK} {g:Option (Option (Tmp×Bool))} {dst:Option Tmp}
def cD (P:Program) (A:zx) (tail:List XO) (H:AH) (k:HK):HK:=fun F' _=>KM P A tail F' H k
def B4 (P:Program) (x:XO) (fl:Bool) (r:List (List XO×XO×Bool)) (last tail:List XO) (H0:AH) (S:List Nat) (A:zx) (H:AH) (k:HK):HK:=fun F' _=>xtk P x fl H0 S A F' H fun A' S' F'' H''=>xsegs P r last tail H0 S' A' F'' H'' k
def BA (P:Program) (r:List (List XO×XO×Bool)) (last tail:List XO) (H0:AH) (k:HK):zx->List Nat->HK:=fun A' S' F'' H''=>xsegs P r last tail H0 S' A' F'' H'' k
theorem rh:xcode P (.regT qs segs last tail) F H Q=xsegs P segs last tail (W0 F qs H) [] [] F H (Q .normal):= .trans rfl rfl
theorem Ev:Ul (.cells cs)= .cells (cs.map D.view1):= .trans rfl rfl
theorem pF:xcode P (.regV l tail) F H Q=xops P true l F H (cD P [] tail H (Q .normal)):= .trans rfl rfl
theorem CY:W0 F [] H=H:= .trans rfl rfl
theorem He:W0 F (q::qs) H=W0 F qs (fB (F.getD q .any) H):= .trans rfl rfl
theorem Hs:fB (.ptr b off) H=qI H b:= .trans rfl rfl
def Cn (b:Bool) (q:Bool×List D) (o:Option (Bool×List D)):Option (Bool×List D):=match b with
 |true=>some q
 |false=>o
def Ck (b:Bool) (d:Nat) (q x:Bool×List D) (r r':zx):zx:=match b with
 |true=>(d,x)::r
 |false=>(d,q)::r'
def C2 (d:Nat) (o:Option (Bool×List D)):Option (Nat×Bool×List D):=match o with
 |some (f,z)=>some (d,f,z)
 |none=>none
theorem EN:lookv [] d=none:= .trans rfl rfl
theorem Cw:lookv ((e,q)::A) d=Cn (d==e) q (lookv A d):=by
 unfold Cn
 show (if d=e then some q else lookv A d)=_
 by_cases h:d=e
 ·subst h;simp
 ·rw [if_neg h,show (d==e)=false by simpa using h]
theorem Dx:Cn true q o=some q:= .trans rfl rfl
theorem Hn:Cn false q o=o:= .trans rfl rfl
theorem CL {e:Nat} {q x:Bool×List D} {A:zx}:setv ((e,q)::A) d x=Ck (d==e) e q x A (setv A d x):=by
 unfold Ck
 show (if d=e then (e,x)::A else (e,q)::setv A d x)=_
 by_cases h:d=e
 ·subst h;simp
 ·rw [if_neg h,show (d==e)=false by simpa using h]
theorem CE {e:Nat} {q x:Bool×List D} {A A':zx}:Ck true e q x A A'=(e,x)::A:= .trans rfl rfl
theorem DZ {e:Nat} {q x:Bool×List D} {A A':zx}:Ck false e q x A A'=(e,q)::A':= .trans rfl rfl
theorem Fo:ak A (.tmp d)=C2 d (lookv A d):=by
 show (lookv A d).map (fun q=>(d,q))=C2 d (lookv A d)
 cases lookv A d<;>rfl
theorem FB:C2 d none=none:= .trans rfl rfl
theorem FQ:C2 d (some (f,z))=some (d,f,z):= .trans rfl rfl
theorem DD:KM P [] tail F H k=xops P false tail F H k:= .trans rfl rfl
theorem Fw:KM P ((d,f,z)::A) tail F H k=∀b,qz H b->KM P A tail (F.set d (.ptr b 0)) ((b,.cells z)::H) k:= .trans rfl rfl
theorem DC:xsegs P [] last tail H0 S A F H k=xops P true last F H0 (cD P A tail H k):= .trans rfl rfl
theorem F8:xsegs P ((l,x,fl)::r) last tail H0 S A F H k=xops P true l F H0 (B4 P x fl r last tail H0 S A H k):= .trans rfl rfl
theorem rA:cD P A tail H k F' H'=KM P A tail F' H k:= .trans rfl rfl
theorem AZ:B4 P x fl r last tail H0 S A H k F' H'=xtk P x fl H0 S A F' H (BA P r last tail H0 k):= .trans rfl rfl
theorem nz:BA P r last tail H0 k A S' F' H'=xsegs P r last tail H0 S' A F' H' k:= .trans rfl rfl
def BY (c:Option D) (cs:List D) (b off d:Nat) (fl:Bool) (H0:AH) (S:List Nat) (F:List D) (H:AH) (K:List Nat->HK):Prop:=match c with
 |some (.own xs)=>(qk H0 b=none∨qk H0 b=some (Ul (.cells cs)))∧(fl=true∨b ∉ S)∧K (b::S) (F.set d (.own xs)) (qE H b (.cells (cs.set off (.slc xs))))
 |_=>False
def BM (o:Option AO) (b off d:Nat) (fl:Bool) (H0:AH) (S:List Nat) (F:List D) (H:AH) (K:List Nat->HK):Prop:=match o with
 |some (.cells cs)=>BY cs[off]? cs b off d fl H0 S F H K
 |_=>False
def Ew (ty:Option (Bool×Nat)) (a:D) (d:Nat) (fl:Bool) (H0:AH) (S:List Nat) (F:List D) (H:AH) (K:List Nat->HK):Prop:=match ty,a with
 |some (false,_),.ptr b off=>BM (qk H b) b off d fl H0 S F H K
 |_,_=>False
theorem EH:xtk P ⟨.load t (.tmp s),some d,none,tk,true⟩ fl H0 S A F H K=Ew (yq P t) (rv F (.tmp s)) d fl H0 S F H (K A):=by
 unfold xtk Ew BM BY
 simp only [true_and]
 rfl
theorem Fe:Ew (some (false,n)) (.ptr b off) d fl H0 S F H K1=BM (qk H b) b off d fl H0 S F H K1:= .trans rfl rfl
theorem D3:BM (some (.cells cs)) b off d fl H0 S F H K1=BY cs[off]? cs b off d fl H0 S F H K1:= .trans rfl rfl
theorem DU:BY (some (.own xs)) cs b off d fl H0 S F H K1=((qk H0 b=none∨qk H0 b=some (Ul (.cells cs)))∧(fl=true∨b ∉ S)∧K1 (b::S) (F.set d (.own xs)) (qE H b (.cells (cs.set off (.slc xs))))):= .trans rfl rfl
def t5 (ag:Bool) (n off:Nat) (o:Option AO) (b:Nat) (y:Operand) (dst:Option Tmp) (fl:Bool) (H0:AH) (S:List Nat) (F:List D) (H:AH) (K1:List Nat->HK):Prop:=match o with
 | some (.cells cs)=>if ag=true then okc (rv F y)=true∧(cellsOf (rv F y)).length=n∧off+n<=cs.length∧qk H0 b=none∧(fl=true∨b ∉ S)∧K1 (b::S) (qJ F dst (.tup [])) (qE H b (.cells (cs.take off++(cellsOf (rv F y)++cs.drop (off+n)))))
  else n=1∧off<cs.length∧one1 (ev F y)=true∧dst=none∧qk H0 b=none∧(fl=true∨b ∉ S)∧(match y with
    | .tmp s=>K1 (b::S) (F.set s (rv F y)) (qE H b (.cells (cs.set off (ev F y))))
    |_=>K1 (b::S) F (qE H b (.cells (cs.set off (ev F y)))))
 |_=>False
def BP (ty:Option (Bool×Nat)) (a:D) (y:Operand) (dst:Option Tmp) (fl:Bool) (H0:AH) (S:List Nat) (F:List D) (H:AH) (K1:List Nat->HK):Prop:=match ty,a with
 |some (ag,n),.ptr b off=>t5 ag n off (qk H b) b y dst fl H0 S F H K1
 |_,_=>False
def Cs (ty:Option (Bool×Nat)) (d:Nat) (z:List D) (y:Operand) (dst:Option Tmp) (S:List Nat) (A:zx) (F:List D) (H:AH) (K:zx->List Nat->HK):Prop:=match ty with
 |some (true,n)=>okc (rv F y)=true∧(cellsOf (rv F y)).length=n∧n<=z.length∧K (setv A d (true,cellsOf (rv F y)++z.drop n)) S (qJ F dst (.tup [])) H
 |_=>False
def BQ (o:Option (Nat×Bool×List D)) (ty:Option (Bool×Nat)) (a:D) (y:Operand) (dst:Option Tmp) (fl:Bool) (H0:AH) (S:List Nat) (A:zx) (F:List D) (H:AH) (K:zx->List Nat->HK):Prop:=match o with
 |some (d,f,z)=>f=false∧Cs ty d z y dst S A F H K
 |none=>BP ty a y dst fl H0 S F H (K A)
theorem CA:xtk P ⟨.store t a y,dst,g,tk,ta⟩ fl H0 S A F H K=BQ (ak A a) (yq P t) (rv F a) y dst fl H0 S A F H K:=by
 unfold xtk BQ Cs BP t5
 dsimp only
 generalize ak A a=e0
 generalize yq P t=e
 cases e0 with
 |some q=>rfl
 |none=>
 cases e with
 |none=>rfl
 | some q=>
  obtain ⟨ag,n⟩:=q
  generalize rv F a=e2
  cases e2<;>cases ag<;>try rfl
  all_goals
   rename_i b off
   dsimp only
   generalize qk H b=e3
   cases e3 with
   |none=>rfl
   |some e4=>cases e4<;>simp
theorem CX:BQ none ty p y dst fl H0 S A F H K=BP ty p y dst fl H0 S F H (K A):= .trans rfl rfl
theorem ER:BQ (some (d,f,z)) ty p y dst fl H0 S A F H K=(f=false∧Cs ty d z y dst S A F H K):= .trans rfl rfl
theorem H5:Cs (some (true,n)) d z y dst S A F H K=(okc (rv F y)=true∧(cellsOf (rv F y)).length=n∧n<=z.length∧K (setv A d (true,cellsOf (rv F y)++z.drop n)) S (qJ F dst (.tup [])) H):= .trans rfl rfl
theorem CB:BP (some (ag,n)) (.ptr b off) y dst fl H0 S F H K1=t5 ag n off (qk H b) b y dst fl H0 S F H K1:= .trans rfl rfl
theorem Hk:t5 false n off (some (.cells cs)) b (.tmp s) dst fl H0 S F H K1=(n=1∧off<cs.length∧one1 (F.getD s .any)=true∧dst=none∧qk H0 b=none∧(fl=true∨b ∉ S)∧K1 (b::S) (F.set s (rv F (.tmp s))) (qE H b (.cells (cs.set off (F.getD s .any))))):= .trans rfl rfl
theorem De:t5 false n off (some (.cells cs)) b (.const v) dst fl H0 S F H K1=(n=1∧off<cs.length∧one1 (jE v)=true∧dst=none∧qk H0 b=none∧(fl=true∨b ∉ S)∧K1 (b::S) F (qE H b (.cells (cs.set off (jE v))))):= .trans rfl rfl
def EF (d:Nat) (o:Option (List D)) (S:List Nat) (A:zx) (F:List D) (H:AH) (K:zx->List Nat->HK):Prop:=match o with
 |some z=>d<F.length∧lookv A d=none∧K ((d,false,z)::A) S (F.set d .any) H
 |none=>False
theorem FX:xtk P ⟨.alloc t,some d,g,tk,ta⟩ fl H0 S A F H K=EF d (yw P t) S A F H K:=by
 unfold xtk EF
 dsimp only
 cases yw P t<;>rfl
theorem E4:EF d (some z) S A F H K=(d<F.length∧lookv A d=none∧K ((d,false,z)::A) S (F.set d .any) H):= .trans rfl rfl
def Bq (S:List Nat) (F:List D) (dst:Option Tmp) (H:AH) (K:List Nat->HK):D->Prop:=fun d=>K S (qJ F dst d) H
theorem mZ {K:List Nat->HK} {e:D}:Bq S F dst H K e=K S (qJ F dst e) H:= .trans rfl rfl
def bH (P:Program) (g:FuncId) (args:List D) (fl:Bool) (H0:AH) (S:List Nat) (H:AH) (K:List Nat->D->AH->Prop):Prop:=
 ∃d b ob ob',qk H0 b=none∧(fl=true∨b ∉ S)∧qk H b=some ob∧(∀H,qk H b=some ob->ACall P g args H (fun d' H'=>d'=d∧H'=qE H b ob'))∧K (b::S) d (qE H b ob')
def xH (F:List D) (dst:Option Tmp) (K:List Nat->HK):List Nat->D->AH->Prop:=fun S' d H'=>fact d.view->K S' (qJ F dst d) H'
def FI (P:Program) (f:D) (args:List D) (fl:Bool) (H0:AH) (S:List Nat) (H:AH) (K:List Nat->D->AH->Prop):Prop:=match f with
 | .fn g caps=>bH P g (um args caps) fl H0 S H K
 |_=>False
theorem Ee:xtk P ⟨.call ⟨.value f,args,tys⟩,dst,g,tk,ta⟩ fl H0 S A F H K=FI P (rv F f) (args.toList.map (rv F)) fl H0 S H (xH F dst (K A)):=by
 unfold xtk FI
 dsimp only
 generalize rv F f=e
 cases e<;>rfl
theorem CO {g:FuncId} {caps args:List D} {J:List Nat->D->AH->Prop}:FI P (.fn g caps) args fl H0 S H J=bH P g (um args caps) fl H0 S H J:= .trans rfl rfl
theorem pS {K:List Nat->HK} {e:D} {H':AH}:xH F dst K S' e H'=(fact e.view->K S' (qJ F dst e) H'):= .trans rfl rfl
end
theorem lk:xcode P (.scope x) F H Q=xcode P x F H (Ws Q):= .trans rfl rfl
theorem dc:Ws Q .ret F H=Q .ret F H:= .trans rfl rfl
theorem eA:Ws Q (.exit i) F H=Q (.exit i) F H:= .trans rfl rfl
theorem jm:∀{H:AH} {b:Nat},qz H b->qk H b=none
 | [],_,_=>rfl
 | (c,o)::r,b,h=>by
  unfold qk
  rw [if_neg h.1]
  exact jm h.2
section
variable {P:Program} {F:List D} {H:AH} {k:HK} {r:List XO} {dst:Option Tmp} {t:TypeId} {K:D->Prop}
def sT (P:Program) (t:TypeId) (o:Option (List D)) (l:List (Nat×D)) (K:D->Prop):Prop:=match o with
 |some z=>jW P t=true∧(∀p∈l,okc p.2=true)∧QI P t (l.map fun p=>(p.1,cellsOf p.2)) (z.map Vl) K
 |none=>False
def D2 (P:Program) (tys:List TypeId) (args:List D) (K:D->Prop):Prop:=match tys with
 |t::is=>sT P t (yw P t) (is.zip args) K
 | []=>False
theorem Fa:xops P false (⟨.call ⟨.builtin .complex,args,tys⟩,dst,none,tk,ta⟩::r) F H k=D2 P tys.toList (args.toList.map (rv F)) (wN P false r F dst H k):=by
 unfold D2
 simp only [xops,xop,kO]
 cases h:tys.toList with
 |nil=>simp only [vv,qO]
 | cons t is=>
  simp only [UE,h,true_and,Bool.and_false]
  unfold eO sT
  cases yw P t with
  |none=>rfl
  | some z=>
   have:(is.zip args.toList).map (fun p=>(p.1,rv F p.2))=is.zip (args.toList.map (rv F)):=by
    rw [List.zip_map_right]
    rfl
   simp only [this]
   rfl
theorem Hb:D2 P (t::is) args K=sT P t (yw P t) (is.zip args) K:= .trans rfl rfl
theorem FA:sT P t (some z) l K=(jW P t=true∧(l.all fun p=>okc p.2)=true∧QI P t (l.map fun p=>(p.1,cellsOf p.2)) (z.map Vl) K):=by
 rw [List.all_eq_true]
 rfl
theorem rU:Vl (.own [])= .osl 0 0 []:= .trans rfl rfl
theorem rM:Vl (.int kd n)= .int kd n:= .trans rfl rfl
theorem mH:Vl (.str l)= .str l:= .trans rfl rfl
theorem Ag:(D.osl b c xs).view= .osl b c xs:= .trans rfl rfl
theorem mn:(D.osl b c xs).view1= .osl b c xs:= .trans rfl rfl
end
def YXZ:=PLift.up (And.intro (And.intro (And.intro @Fa @Hb) (And.intro @FA @rU)) (And.intro (And.intro @rM @mH) (And.intro @Ag @mn)))
theorem XZ:type_of% YXZ.down:=YXZ.down
def jr (P:Program) (o:Option (TypeId×Nat)) (args:List D) (d:Nat) (r:List XO) (F:List D) (H:AH) (k:HK):Prop:=match o with
 | some (e,sz)=>args≠ []∧d<F.length∧(args.all fun x=>okc x&&(cellsOf x).length==sz)=true∧args.length*sz<=16777216∧(yw P e).isSome=true∧
  ∀b cap,qz H b->xops P false r (F.set d (.osl b cap (args.map cellsOf))) ((b,.room cap (args.map cellsOf))::H) k
 |none=>False
theorem Hp {t:TypeId}:xops P false (⟨.call ⟨.builtin .real,args,#[t]⟩,some d,none,tk,ta⟩::r) F H k=jr P (yn P t) (args.toList.map (rv F)) d r F H k:=by
 have h0:xops P false (⟨.call ⟨.builtin .real,args,#[t]⟩,some d,none,tk,ta⟩::r) F H k=(false=false∧Bo P t args.toList (some d) F H fun F' H'=>xops P false r F' H' k):= .trans rfl rfl
 rw [h0]
 unfold Bo jr
 cases yn P t with
 |none=>simp
 | some q=>
  simp only [true_and,ne_eq,List.map_eq_nil_iff,List.length_map,Mx,List.all_map,List.all_eq_true,Function.comp_def,Mi,beq_iff_eq]
theorem Bg {e:TypeId}:jr P (some (e,sz)) args d r F H k=(args≠ []∧d<F.length∧(args.all fun x=>okc x&&(cellsOf x).length==sz)=true∧args.length*sz<=16777216∧(yw P e).isSome=true∧
  ∀b cap,qz H b->xops P false r (F.set d (.osl b cap (args.map cellsOf))) ((b,.room cap (args.map cellsOf))::H) k):= .trans rfl rfl
theorem Ak:xcode P (.rgf g p t x) F H Q=XRF P g p t x F H Q:= .trans rfl rfl
theorem FO {t:TypeId}:
  xtk P ⟨.build t ps,dst,g,tk,ta⟩ fl H0 S A F H K=sT P t (yw P t) (ps.toList.map fun p=>(p.1,rv F p.2)) (Bq S F dst H (K A)):=by
 unfold xtk eO sT
 dsimp only
 cases yw P t with
 |none=>rfl
 |some z=>rfl
def YXRb:=PLift.up (And.intro (And.intro (And.intro @Ak (And.intro @tm @Fp)) (And.intro @E6 (And.intro @Hg @CZ))) (And.intro (And.intro @Hp (And.intro @EM @Bg)) (And.intro @Et (And.intro @FO @mZ))))
theorem XRb:type_of% YXRb.down:=YXRb.down
def YXT:=PLift.up (And.intro (And.intro (And.intro (And.intro (And.intro @rh @Ev) (And.intro @pF (And.intro @CY @He))) (And.intro (And.intro @Hs @EN) (And.intro @Cw (And.intro @Dx @Hn)))) (And.intro (And.intro (And.intro @CL @CE) (And.intro @DZ (And.intro @Fo @FB))) (And.intro (And.intro @FQ (And.intro @DD @Fw)) (And.intro @DC (And.intro @F8 @rA))))) (And.intro (And.intro (And.intro (And.intro @AZ @nz) (And.intro @EH (And.intro @Fe @D3))) (And.intro (And.intro @DU @Ee) (And.intro @CO (And.intro @pS @CA)))) (And.intro (And.intro (And.intro @CX @ER) (And.intro @H5 (And.intro @CB @Hk))) (And.intro (And.intro @De (And.intro @FX @E4)) (And.intro @lk (And.intro @dc @eA))))))
theorem XT:type_of% YXT.down:=YXT.down
def YXN:=PLift.up (And.intro (And.intro (And.intro @Bu @A6) (And.intro @tu @Aj)) (And.intro (And.intro @xC @nJ) (And.intro @xK (And.intro @F7 @Dz))))
theorem XN:type_of% YXN.down:=YXN.down
def YXO2:=PLift.up (And.intro (And.intro @Bf (And.intro @Ek @xv)) (And.intro (And.intro @AM @Av) (And.intro @xq @uB)))
theorem XO2:type_of% YXO2.down:=YXO2.down
section
variable {P:Program} {ρ:Operand->D} {F:List D} {H:AH} {k:HK} {r:List XO} {dst:Option Tmp} {t:TypeId} {K:D->Prop} {m tk ta wk ok ag:Bool} {x y z:Operand} {l:List CT} {d i:D} {es:List (D×D)}
def C8 (o:Option AO) (wk ag:Bool) (l:List CT) (z i:D) (ok:Bool) (K:D->Prop):Prop:=match o with
 |some (.mp es)=>ya ag l es i∧(fact (oH ok z (kY es (cellsOf i)))->K (wkI wk (oH ok z (kY es (cellsOf i)))))
 |_=>False
def Cu (o:Option (Bool×List CT×D)) (wk:Bool) (H:AH) (m i:D) (ok:Bool) (K:D->Prop):Prop:=match o,m with
 |some (ag,l,z),.mp none=>ya ag l [] i∧K (wkI wk (oH ok z none))
 |some (ag,l,z),.mpv es=>ya ag l es i∧(fact (oH ok z (kY es (cellsOf i)))->K (wkI wk (oH ok z (kY es (cellsOf i)))))
 |some (ag,l,z),.mp (some b)=>C8 (qk H b) wk ag l z i ok K
 |_,_=>False
theorem E9:JN P wk t H dm di ok K=Cu (aU P t) wk H dm di ok K:=by
 unfold JN Cu C8
 rfl
theorem E8:xops P m (⟨.lookup t x y ok,dst,none,tk,ta⟩::r) F H k=Cu (aU P t) true H (rv F x) (rv F y) ok (wN P m r F dst H k):=by
 rw [<-E9]
 rfl
theorem Fm:Cu (some (ag,l,d)) wk H (.mp (some b)) i ok K=C8 (qk H b) wk ag l d i ok K:= .trans rfl rfl
theorem Hv:C8 (some (.mp es)) wk ag l d i ok K=(ya ag l es i∧(fact (oH ok d (kY es (cellsOf i)))->K (wkI wk (oH ok d (kY es (cellsOf i)))))):= .trans rfl rfl
theorem xl:xops P m (⟨.makeMap t none,dst,none,tk,ta⟩::r) F H k=∀b,qz H b->xops P false r (qJ F dst (.mp (some b))) ((b,.mp [])::H) k:=by
 simp only [xops,xop,vv,kO,fD,true_and,zq,Bool.not_true,Bool.false_and]
def CG (o:Option AO) (b:Nat) (ag:Bool) (l:List CT) (i v:D) (H:AH) (K:AH->Prop):Prop:=match o with
 |some (.mp es)=>ya ag l es i∧K (qE H b (.mp (o5 es i v)))
 |_=>False
def muD (o:Option (Bool×List CT×D)) (H:AH) (m i v:D) (K:AH->Prop):Prop:=match o,m with
 |some (ag,l,z),.mp (some b)=>CG (qk H b) b ag l i v H K
 |_,_=>False
def xT (P:Program) (r:List XO) (F:List D) (dst:Option Tmp) (k:HK):AH->Prop:=fun H'=>xops P false r (qJ F dst (.tup [])) H' k
theorem BB:xops P m (⟨.mapUpdate t x y z,dst,none,tk,ta⟩::r) F H k=muD (aU P t) H (rv F x) (rv F y) (rv F z) (xT P r F dst k):=by
 simp only [xops,xop,vv,kO,iW,true_and,zq,Bool.not_true,Bool.false_and]
 rfl
theorem F9 {K:AH->Prop}:muD (some (ag,l,d)) H (.mp (some b)) i v K=CG (qk H b) b ag l i v H K:= .trans rfl rfl
theorem H7 {K:AH->Prop}:CG (some (.mp es)) b ag l i v H K=(ya ag l es i∧K (qE H b (.mp (o5 es i v)))):= .trans rfl rfl
theorem nu:xT P r F dst k H'=xops P false r (qJ F dst (.tup [])) H' k:= .trans rfl rfl
theorem A8:xops P false (⟨.call ⟨.builtin .imag,#[],#[t]⟩,dst,none,tk,ta⟩::r) F H k=Wl P (.alloc t) dst F H fun F' H'=>xops P false r F' H' k:=by
 simp only [xops,xop,kO,UE,zq,Bool.and_false,true_and]
theorem Au:xops P false (⟨.call ⟨.builtin .imag,#[x],#[t]⟩,dst,none,tk,ta⟩::r) F H k=Wl P (.range t x) dst F H fun F' H'=>xops P false r F' H' k:=by
 simp only [xops,xop,kO,UE,zq,Bool.and_false,true_and]
theorem tH:xops P false (⟨.call ⟨.builtin .imag,#[x],#[]⟩,dst,none,tk,ta⟩::r) F H k=Wl P (.next x false) dst F H fun F' H'=>xops P false r F' H' k:=by
 simp only [xops,xop,kO,UE,zq,Bool.and_false,true_and]
theorem xd {t':TypeId}:xops P false (⟨.call ⟨.builtin .imag,#[x],#[t,t']⟩,dst,none,tk,ta⟩::r) F H k=Wl P (.entry x) dst F H fun F' H'=>xops P false r F' H' k:=by
 simp only [xops,xop,kO,UE,zq,Bool.and_false,true_and]
def px (P:Program) (r:List XO) (F:List D) (dst:Option Tmp) (k:HK):D->AH->Prop:=fun d H'=>xops P false r (qJ F dst d) H' k
theorem tP:px P r F dst k d H=xops P false r (qJ F dst d) H k:= .trans rfl rfl
def BL (o:Option (TypeId×Nat)) (a:Option AO) (b off n:Nat) (s:List UInt8) (H:AH) (K:D->AH->Prop):Prop:=match o,a with
 |some (_,sz),some (.cells cs)=>sz=1∧off+n<=cs.length∧(fact (.str s)->K (.int .i64 (min s.length n:Nat)) (qE H b (.cells (cs.take off++((s.take n).map (fun c=>D.int .u8 c.toNat)++cs.drop (off+min s.length n))))))
 |_,_=>False
def H4 (P:Program) (t:TypeId) (x y:D) (H:AH) (K:D->AH->Prop):Prop:=match x,y with
 | .hso b off n,.str s=>BL (yn P t) (qk H b) b off n s H K
 |_,_=>False
theorem Ao {u:TypeId}:xops P m (⟨.call ⟨.builtin .copy,#[x,y],#[t,u]⟩,dst,none,tk,ta⟩::r) F H k=H4 P t (rv F x) (rv F y) H (px P r F dst k):=by
 simp only [xops,xop,vv,kO,i9,true_and,zq,Bool.not_true,Bool.false_and,List.map_cons,List.map_nil]
 unfold H4 BL px
 cases rv F x<;>first|rfl|(cases rv F y<;>rfl)
theorem CI {K:D->AH->Prop}:H4 P t (.hso b off n) (.str s) H K=BL (yn P t) (qk H b) b off n s H K:= .trans rfl rfl
theorem Ft {e:TypeId} {K:D->AH->Prop}:BL (some (e,sz)) (some (.cells cs)) b off n s H K=(sz=1∧off+n<=cs.length∧(fact (.str s)->K (.int .i64 (min s.length n:Nat)) (qE H b (.cells (cs.take off++((s.take n).map (fun c=>D.int .u8 c.toNat)++cs.drop (off+min s.length n))))))):= .trans rfl rfl
theorem AN:(D.hso b off n).view= .hso b off n:= .trans rfl rfl
theorem Do:fact (.mp o)=True:= .trans rfl rfl
theorem EE:wkI true d=d.wkT:= .trans rfl rfl
theorem DP:(D.agg cs).wkA= .agg (cs.map D.wk1):= .trans rfl rfl
theorem Fh:(D.bool b).wkA= .bool b:= .trans rfl rfl
theorem Eh:(D.int kd n).wk1= .int kd n:= .trans rfl rfl
end
def YXU:=PLift.up (And.intro (And.intro (And.intro (And.intro @E8 @Fm) (And.intro @Hv @xl)) (And.intro (And.intro @BB @F9) (And.intro @H7 @nu))) (And.intro (And.intro (And.intro @AN @Do) (And.intro @EE @DP)) (And.intro (And.intro @Fh @Eh) (And.intro @CH (And.intro @xW @Ff)))))
theorem XU:type_of% YXU.down:=YXU.down
def YXA:=PLift.up (And.intro (And.intro (And.intro (And.intro (And.intro @sF (And.intro @xS @nX)) (And.intro @Bp (And.intro @nG @fO))) (And.intro (And.intro @rB (And.intro @AD @ry)) (And.intro (And.intro @dl @ri) (And.intro @pY @d5)))) (And.intro (And.intro (And.intro @V2 (And.intro @cw @rJ)) (And.intro (And.intro @nT @xR) (And.intro @Hl @tB))) (And.intro (And.intro @xc (And.intro @xm @tA)) (And.intro (And.intro @rL @tb) (And.intro @sJ @fE))))) (And.intro (And.intro (And.intro (And.intro @xU (And.intro @xg @rE)) (And.intro @iY (And.intro @AS @B1))) (And.intro (And.intro @Ae (And.intro @B8 @mU)) (And.intro (And.intro @AY @xG) (And.intro @rI @nw)))) (And.intro (And.intro (And.intro @pD (And.intro @ms @DG)) (And.intro (And.intro @rp @Dw) (And.intro @DS @EX))) (And.intro (And.intro @Dy (And.intro @Ej @FM)) (And.intro (And.intro @Ep @tn) (And.intro @tR @Al))))))
theorem XA:type_of% YXA.down:=YXA.down
def YXB:=PLift.up (And.intro (And.intro (And.intro (And.intro (And.intro (And.intro (And.intro @cU @mF) (And.intro @Bz (And.intro @o_s @o_t))) (And.intro (And.intro @z_1 @z_0) (And.intro @z_2 (And.intro @i_T @i_F)))) (And.intro (And.intro (And.intro @tF @tI) (And.intro @i_N (And.intro @Ez @Dq))) (And.intro (And.intro @E5 (And.intro @Fd @g_U)) (And.intro @mL (And.intro @pm @ik))))) (And.intro (And.intro (And.intro (And.intro @e_d @e_0) (And.intro @e_1 (And.intro @Hq @H6))) (And.intro (And.intro @Di (And.intro @Fg @Fs)) (And.intro @nD (And.intro @lj @rR)))) (And.intro (And.intro (And.intro @fw @xj) (And.intro @Be (And.intro @Ei @Eg))) (And.intro (And.intro @Hy (And.intro @xQ @Ac)) (And.intro @p_s (And.intro @p_n @xh)))))) (And.intro (And.intro (And.intro (And.intro (And.intro @fq @pO) (And.intro @ph (And.intro @AP @nC))) (And.intro (And.intro @Bx (And.intro @xM @tD)) (And.intro @A1 (And.intro @nq @Ha)))) (And.intro (And.intro (And.intro @A7 @Ba) (And.intro @Hu (And.intro @pa @ia))) (And.intro (And.intro @n7 (And.intro @sh @pR)) (And.intro @xN (And.intro @rD @A4))))) (And.intro (And.intro (And.intro (And.intro @xO @sx) (And.intro @tE (And.intro @fd @B2))) (And.intro (And.intro @lS (And.intro @Bm @lP)) (And.intro @pK (And.intro @Aq @xD)))) (And.intro (And.intro (And.intro @CK @jl) (And.intro @vM (And.intro @iX @AR))) (And.intro (And.intro @na (And.intro @xY @mQ)) (And.intro @DX (And.intro @EI @A3))))))) (And.intro (And.intro (And.intro (And.intro (And.intro (And.intro @EU @FR) (And.intro @D7 (And.intro @EK @tw))) (And.intro (And.intro @Dv (And.intro @rO @Hj)) (And.intro @CU (And.intro @FE @DW)))) (And.intro (And.intro (And.intro @A5 @A2) (And.intro @th (And.intro @Dh @EB))) (And.intro (And.intro @CV (And.intro @D8 @DN)) (And.intro @Hz (And.intro @mq @rV))))) (And.intro (And.intro (And.intro (And.intro @pP @mV) (And.intro @ro (And.intro @nV @s8))) (And.intro (And.intro @mi (And.intro @AE @pg)) (And.intro @rt (And.intro @nI @p7)))) (And.intro (And.intro (And.intro @pu @nW) (And.intro @rH (And.intro @rK @sy))) (And.intro (And.intro @su (And.intro @sw @xy)) (And.intro @Dg (And.intro @Cz @si)))))) (And.intro (And.intro (And.intro (And.intro (And.intro @FJ @CW) (And.intro @D9 (And.intro @sZ @DR))) (And.intro (And.intro @Du (And.intro @DF @FG)) (And.intro @FS (And.intro @Ht @FW)))) (And.intro (And.intro (And.intro @Er @E1) (And.intro @tV (And.intro @tp @AL))) (And.intro (And.intro @te (And.intro @tz @CD)) (And.intro @EP (And.intro @DI @Fi))))) (And.intro (And.intro (And.intro (And.intro @CN @Df) (And.intro @Bk (And.intro @Bv @DE))) (And.intro (And.intro @Fq (And.intro @Hx @Br)) (And.intro @Hc (And.intro @EQ @Aa)))) (And.intro (And.intro (And.intro @tg @Fc) (And.intro @H9 (And.intro @Ui @yX))) (And.intro (And.intro @dJ (And.intro @dW @Zh)) (And.intro @dZ (And.intro @cW @qL))))))))
theorem XB:type_of% YXB.down:=YXB.down
def YXL:=PLift.up (And.intro (And.intro (And.intro (And.intro @Nat.zero_add (And.intro @Nat.add_zero @true_and)) (And.intro @and_true (And.intro @decide_true @decide_false))) (And.intro (And.intro @not_true (And.intro @not_false_iff @and_self)) (And.intro (And.intro @Bool.not_true @Bool.not_false) (And.intro @Mn @Nat.lt_irrefl)))) (And.intro (And.intro (And.intro @Nat.lt_add_one (And.intro @Nat.zero_lt_succ @Int.toNat_zero)) (And.intro (And.intro @Md @Mf) (And.intro @decide_eq_true_eq @decide_eq_false_iff_not))) (And.intro (And.intro @Bool.not_eq_true' (And.intro @Bool.not_eq_false' @Bool.and_true)) (And.intro (And.intro @Bool.true_and @false_implies) (And.intro @Int.le_refl @Int.lt_irrefl)))))
theorem XL:type_of% YXL.down:=YXL.down
theorem XM.{u}:type_of% (And.intro (And.intro @forall_const.{u} @implies_true.{u}) (And.intro @List.not_mem_nil.{u} (And.intro @beq_self_eq_true.{u} @List.forall_mem_cons.{u}))):=(And.intro (And.intro @forall_const.{u} @implies_true.{u}) (And.intro @List.not_mem_nil.{u} (And.intro @beq_self_eq_true.{u} @List.forall_mem_cons.{u})))
def YXH:=PLift.up (And.intro (And.intro (And.intro (And.intro @td (And.intro @AV @Bc)) (And.intro @D0 (And.intro @Ai @EV))) (And.intro (And.intro @DV (And.intro @ES @CP)) (And.intro @xF (And.intro @xE @tq)))) (And.intro (And.intro (And.intro @tK (And.intro @DA @At)) (And.intro @FT (And.intro @Db @EY))) (And.intro (And.intro @Dd (And.intro @Ao @tP)) (And.intro (And.intro @CI @Ft) (And.intro @tm @xy)))))
theorem XH:type_of% YXH.down:=YXH.down
def YXI:=PLift.up (And.intro (And.intro @A8 @Au) (And.intro @tH @xd))
theorem XI:type_of% YXI.down:=YXI.down
def YXQ:=PLift.up (And.intro (And.intro (And.intro (And.intro (And.intro @List.length_cons.{0} @List.length_nil.{0}) (And.intro @List.replicate_succ.{0} (And.intro @List.replicate_zero.{0} @List.cons_append.{0}))) (And.intro (And.intro @List.nil_append.{0} (And.intro @List.append_nil.{0} @List.set_cons_succ.{0})) (And.intro @List.set_cons_zero.{0} (And.intro @List.getD_cons_succ.{0} @List.getD_cons_zero.{0})))) (And.intro (And.intro (And.intro @List.getElem?_cons_succ.{0} @List.getElem?_cons_zero.{0}) (And.intro @List.toList_toArray.{0} (And.intro @Option.isSome_some.{0} @Option.isSome_none.{0}))) (And.intro (And.intro @List.drop_succ_cons.{0} (And.intro @List.drop_zero.{0} @List.take_succ_cons.{0})) (And.intro @List.take_zero.{0} (And.intro @List.drop_nil.{0} @List.take_nil.{0}))))) (And.intro (And.intro (And.intro (And.intro @Option.getD_some.{0} @List.all_cons.{0}) (And.intro @List.all_nil.{0} (And.intro @List.map_cons.{0,0} @List.map_nil.{0,0}))) (And.intro (And.intro @Option.map_some.{0,0} (And.intro @Option.map_none.{0,0} @List.zip_cons_cons.{0,0})) (And.intro @List.zip_nil_right.{0,0} (And.intro @List.zip_nil_left.{0,0} @List.length_map.{0,0})))) (And.intro (And.intro (And.intro @List.range_zero (And.intro @Mu @Bool.or_true)) (And.intro @Bool.or_false (And.intro @Bool.true_or @Bool.false_or))) (And.intro (And.intro @true_or (And.intro @false_or @Bool.false_eq_true)) (And.intro @XB (And.intro @XO2 @XL))))))
theorem XQ:type_of% YXQ.down:=YXQ.down
def YXP:=PLift.up (And.intro (And.intro @XA @XN) (And.intro @XT (And.intro @XZ @XRb)))
theorem XP:type_of% YXP.down:=YXP.down
theorem J5:type_of% (And.intro @XP @XU):=And.intro @XP @XU
def YXW0:=PLift.up (And.intro (And.intro (And.intro (And.intro @cellsOf.eq_1 (And.intro @cellsOf.eq_2 @okc.eq_1)) (And.intro (And.intro @okc.eq_2 @okc.eq_3) (And.intro @okc.eq_4 @one1.eq_1))) (And.intro (And.intro (And.intro @one1.eq_2 @one1.eq_3) (And.intro @one1.eq_4 @resOne.eq_1)) (And.intro (And.intro @resOne.eq_2 @resAll.eq_1) (And.intro @resAll.eq_2 @eqCells.eq_1)))) (And.intro (And.intro (And.intro @eqCells.eq_2 (And.intro @eqCells.eq_3 @cellEq.eq_1)) (And.intro (And.intro @cellEq.eq_2 @cellEq.eq_3) (And.intro @cellEq.eq_4 @fits.eq_1))) (And.intro (And.intro (And.intro @fits.eq_2 @fits.eq_3) (And.intro @fits.eq_4 @fits.eq_5)) (And.intro (And.intro @sameK.eq_1 @sameK.eq_2) (And.intro @sameK.eq_3 @XQ)))))
theorem qA:type_of% YXW0.down:=YXW0.down
theorem XW1.{u}:type_of% (And.intro (And.intro @XM.{u} @ne_eq.{u}) (And.intro @ite_true.{u} @ite_false.{u})):=(And.intro (And.intro @XM.{u} @ne_eq.{u}) (And.intro @ite_true.{u} @ite_false.{u}))
abbrev D.i (n:Int):D:= .int .i64 n
def zz (z:Nat->D):Nat->Nat->List D->List D
 |_,0,r=>r
 |a,n+1,r=>z a::zz z (a+1) n r
def fl:List (Nat×D)->(Nat->D)->Nat->Nat->List D
 | [],z,p,n=>zz z p (n - p) []
 |(j,d)::r,z,p,n=>zz z p (j - p) (d::fl r z (j+1) n)
def fso:List (Nat×D)->Nat->Nat->Bool
 | [],p,n=>decide (p<=n)
 |(j,_)::r,p,n=>decide (p<=j)&&decide (j<n)&&fso r (j+1) n
theorem cR (z:Nat->D):∀k p r,zz z p k r=(List.range' p k).map z++r
 |0,_,_=>rfl
 |k+1,p,r=>by rw [zz,cR z k (p+1) r];rfl
theorem dr {z:Nat->D}:∀{ks:List (Nat×D)} {p n i:Nat},fso ks p n=true->i<p->frm ks z i=z i
 | [],_,_,_,_,_=>rfl
 | (j,_)::r,p,n,i,h,hi=>by
  simp only [fso,Mi,decide_eq_true_eq] at h
  rw [frm,if_neg (by omega),dr h.2 (by omega)]
theorem lR {z:Nat->D}:∀{ks:List (Nat×D)} {p n:Nat},fso ks p n=true->fl ks z p n=(List.range' p (n - p)).map (frm ks z)
 | [],p,n,_=>by rw [fl,cR,Mv];rfl
 | (j,d)::r,p,n,h=>by
  have h0:=h
  simp only [fso,Mi,decide_eq_true_eq] at h
  obtain ⟨⟨h1,h2⟩,h3⟩:=h
  have e:n - p=(j - p)+((n - (j+1))+1):=by omega
  rw [fl,cR,lR h3,e,<-List.range'_append_1,Mm,show p+(j - p)=j by omega,List.range'_succ,List.map_cons]
  congr 1
  ·exact My fun i hi=>by
    have:=List.mem_range'_1.1 hi
    rw [frm,if_neg (by omega),dr h3 (by omega)]
  ·congr 1
   ·rw [frm,if_pos rfl]
   ·exact My fun i hi=>by
     have:=List.mem_range'_1.1 hi
     rw [frm,if_neg (by omega)]
theorem Fr.fl {n:Nat} {ks:List (Nat×D)} {F:List D} (h:Fr n ks F) (hs:fso ks 0 n=true):∃z:Nat->D,F=Aw.fl ks z 0 n:=by
 obtain ⟨z,hz⟩:=h.lit
 exact ⟨z,by rw [hz,lR hs,Nat.sub_zero,List.range_eq_range']⟩
end Go.Aw
namespace Go.Xs
open Go Go.Aw
abbrev t (n:Tmp):Operand:= .tmp n
abbrev i (n:Int):Operand:= .const (.int .i64 n)
abbrev a (o:Op) (d:Tmp):XO:=⟨o,some d,none,false,false⟩
abbrev b (o:Op) (d:Tmp):XO:=⟨o,some d,none,true,false⟩
abbrev c (o:Op) (d:Tmp):XO:=⟨o,some d,none,true,true⟩
abbrev s (o:Op):XO:=⟨o,none,none,false,false⟩
abbrev g (o:Op) (d g:Tmp) (w:Bool):XO:=⟨o,some d,some (some (g,w)),false,false⟩
abbrev m (x d:Tmp):XO:=⟨.move (.tmp x),some d,none,false,false⟩
abbrev n (x d:Tmp):XO:=⟨.assign (.tmp x),some d,none,false,false⟩
abbrev l (u:TypeId) (x d:Tmp):XO:=⟨.load u (.tmp x),some d,none,false,false⟩
abbrev f (u:TypeId) (x:Tmp) (k:Nat) (d:Tmp):XO:=⟨.fieldAddr u (.tmp x) k,some d,none,false,false⟩
abbrev w (u:TypeId) (x y:Tmp):XO:=⟨.store u (.tmp x) (.tmp y),none,none,false,false⟩
abbrev j (u:TypeId) (x y d:Tmp):XO:=⟨.indexAddr u (.tmp x) (.tmp y),some d,none,false,false⟩
abbrev e (u:TypeId) (x d:Tmp):XO:=⟨.call ⟨.builtin .len,#[.tmp x],#[u]⟩,some d,none,false,false⟩
abbrev k (f:FuncId) (x:Array Operand) (y:Array TypeId):Op:= .call ⟨.value (.func f),x,y⟩
abbrev p (o:BinOp) (u:TypeId) (x y d:Tmp):XO:=⟨.binOp o u (.tmp x) (.tmp y) u,some d,none,false,false⟩
abbrev q (o:BinOp) (u:TypeId) (x:Tmp) (n:Int) (d:Tmp):XO:=⟨.binOp o u (.tmp x) (i n) u,some d,none,false,false⟩
abbrev P (o:BinOp) (u:TypeId) (x y d:Tmp):XO:=⟨.binOp o u (.tmp x) (.tmp y) u,some d,none,true,false⟩
abbrev Q (o:BinOp) (u:TypeId) (x:Tmp) (n:Int) (d:Tmp):XO:=⟨.binOp o u (.tmp x) (i n) u,some d,none,true,false⟩
abbrev p' (o:BinOp) (u:TypeId) (x y d g:Tmp) (w:Bool):XO:=⟨.binOp o u (.tmp x) (.tmp y) u,some d,some (some (g,w)),false,false⟩
abbrev q' (o:BinOp) (u:TypeId) (x:Tmp) (n:Int) (d g:Tmp) (w:Bool):XO:=⟨.binOp o u (.tmp x) (i n) u,some d,some (some (g,w)),false,false⟩
abbrev l' (u:TypeId) (x d g:Tmp) (w:Bool):XO:=⟨.load u (.tmp x),some d,some (some (g,w)),false,false⟩
abbrev f' (u:TypeId) (x:Tmp) (k:Nat) (d g:Tmp) (w:Bool):XO:=⟨.fieldAddr u (.tmp x) k,some d,some (some (g,w)),false,false⟩
abbrev m' (x d g:Tmp) (w:Bool):XO:=⟨.move (.tmp x),some d,some (some (g,w)),false,false⟩
abbrev L (u:TypeId) (x d:Tmp):XO:=⟨.load u (.tmp x),some d,none,true,false⟩
abbrev M (x d:Tmp):XO:=⟨.move (.tmp x),some d,none,true,false⟩
abbrev N (x d:Tmp):XO:=⟨.move (.tmp x),some d,none,true,true⟩
abbrev A (n:Int) (d:Tmp):XO:=⟨.assign (i n),some d,none,false,false⟩
abbrev J (n:Int) (d:Tmp):XO:=⟨.move (i n),some d,none,false,false⟩
abbrev S (d:Tmp):XO:=⟨.assign (.const (.string ⟨#[]⟩)),some d,none,false,false⟩
abbrev Z (d:Tmp):XO:=⟨.assign (.const (.slice none 0 0)),some d,none,false,false⟩
abbrev B (u:TypeId) (x d:Tmp):XO:=⟨.box u (.tmp x),some d,none,false,false⟩
abbrev E (x k:Tmp) (d:Tmp):XO:=⟨.extract (.tmp x) k,some d,none,true,false⟩
abbrev k1 (f:FuncId) (x:Tmp) (u:TypeId) (d:Tmp):XO:=⟨k f #[.tmp x] #[u],some d,none,false,false⟩
abbrev k2 (f:FuncId) (x y:Tmp) (u v:TypeId) (d:Tmp):XO:=⟨k f #[.tmp x,.tmp y] #[u,v],some d,none,false,false⟩
abbrev k3 (f:FuncId) (x y z:Tmp) (u v w:TypeId) (d:Tmp):XO:=⟨k f #[.tmp x,.tmp y,.tmp z] #[u,v,w],some d,none,false,false⟩
abbrev K1 (f:FuncId) (x:Tmp) (u:TypeId) (d:Tmp):XO:=⟨k f #[.tmp x] #[u],some d,none,true,false⟩
abbrev K2 (f:FuncId) (x y:Tmp) (u v:TypeId) (d:Tmp):XO:=⟨k f #[.tmp x,.tmp y] #[u,v],some d,none,true,false⟩
abbrev K3 (f:FuncId) (x y z:Tmp) (u v w:TypeId) (d:Tmp):XO:=⟨k f #[.tmp x,.tmp y,.tmp z] #[u,v,w],some d,none,true,false⟩
abbrev R (l:List XO) (x:XC):XC:= .seq (.reg l) x
abbrev u {p:Op} {d:Option Tmp}:XO:=⟨p,d,none,false,false⟩
abbrev v {p:Op} {d:Option Tmp}:XO:=⟨p,d,none,true,false⟩
abbrev x {p:Op} {d:Option Tmp}:XO:=⟨p,d,none,true,true⟩
abbrev y {p:Op} {d:Option Tmp} (t:Tmp):XO:=⟨p,d,some (some (t,true)),false,false⟩
abbrev z {p:Op} {d:Option Tmp} (t:Tmp):XO:=⟨p,d,some (some (t,false)),false,false⟩
abbrev I {c:Operand} {i:Nat}:XC:= .cond c .skip (.exit i)
abbrev T {c:Operand} (x:XC):XC:= .cond c x .skip
abbrev V {c:Operand} (x y:XC):XC:= .cond c x y
abbrev O {i:Nat} (x:XC):XC:= .block i x
abbrev U {i:Nat} (x:XC):XC:= .block i (.loop x)
abbrev X (x y:XC):XC:= .seq x y
abbrev r (l:List XO):XC:= .reg l
abbrev G (l:List XO):XC:= .regD l
abbrev F (l:List XO):XC:= .seq (.reg l) .ret
def xo2 (ops:List Oper):Oper->XO
 |{op:=p,dst:=d,guard:=g,..}=>⟨p,d,(match g with|none=>none|some (j,want)=>match (ops[j]?).bind (·.dst) with|some t=>some (some (t,want))|none=>some none),(match d with|some e=>takes ops e|none=>false),(match d with|some e=>YQ ops e|none=>false)⟩
def cm:Code->XC
 | .skip=>.skip
 | .label _=>.skip
 | .region _ ops false=>.reg (ops.toList.map (xo2 ops.toList))
 | .region _ ops true=>.regD (ops.toList.map (xo2 ops.toList))
 | .seq x y=>.seq (cm x) (cm y)
 | .cond c x y=>.cond c (cm x) (cm y)
 | .block i c=>.block i (cm c)
 | .exit i=>.exit i
 | .ret=>.ret
 | .loop c=>.loop (cm c)
 | .scope c=>.scope (cm c)
 |_=>.bad
def pre:Code->List Code->List Code
 | .seq x y,r=>.seq x y::pre x (pre y r)
 | .cond c x y,r=>.cond c x y::pre x (pre y r)
 | .block i c,r=>.block i c::pre c r
 | .loop c,r=>.loop c::pre c r
 | .scope c,r=>.scope c::pre c r
 |c,r=>c::r
noncomputable def yy (f:Func) (k:Nat):XC:=cm (((f.body.map fun c=>pre c []).getD []).getD k .skip)
abbrev C (x:Tmp) (y z:XC):XC:= .cond (.tmp x) y z
end Go.Xs
end
section
namespace Go.Aw
open Go Go.RowKit Go.ChangeShapes Go.WideShapes
open Go.Proofs.YtgopigkdcmhbbaaGreatDoor
section
variable {P:Program}
theorem W7 {W:World} {d:D} {v:Value} (h1:v.oneCell'=true) (h:RepV (fun _=>.imm) W d v):∀(j:Nat) (d':D) (v':Value),[d][j]?=some d'-> [v][j]?=some v'->v'.oneCell'=true∧RepV (fun _=>.imm) W d' v':=by
 intro j d' v' hd hv
 cases j with
 | zero=>
  simp only [Me,Option.some.injEq] at hd hv
  subst hd;subst hv
  exact ⟨h1,h⟩
 |succ j=>simp at hd
theorem Y1 {W:World} {b:Nat} {a:Addr} {n:Nat} {cs:List Value} (h:W.cells? b a n=some cs):cs.length=n∧∀j v,cs[j]?=some v->W.cell? (a.add j)=some v:=by
 unfold World.cells? at h
 split at h
 ·have hl:cs.length=n:=by simpa using mapM_some_length h
  refine ⟨hl,fun j v hj=>?_⟩
  have hlt:j<n:=by rw [<-hl];exact (List.getElem?_eq_some_iff.1 hj).1
  rw [mapM_some_get h j j (by simp [hlt]),hj]
 ·cases h
theorem Us {W:World} {a:Addr} {v:Value} (h:W.cell? a=some v):a.spot=none∧a.block<W.heap.size:=by
 unfold World.cell? at h
 split at h
 ·rename_i c _ _ he
  split at h
  ·cases h
  ·rename_i hs
   refine ⟨by cases hq:a.spot with|none=>rfl|some z=>rw [hq] at hs;exact (hs rfl).elim,?_⟩
   rcases Ms a.block W.heap.size with h'|h'
   ·exact h'
   ·rw [Array.getElem?_eq_none h'] at he
    cases he
 ·cases h
theorem QG {α β:Type} {R:Nat->α->β->Prop}:∀(xs:List α) (k:Nat),(∀i x,xs[i]?=some x->∃y,R (k+i) x y)->∃ys:List β,ys.length=xs.length∧∀i x y,xs[i]?=some x->ys[i]?=some y->R (k+i) x y
 | [],k,_=>⟨[],rfl,fun i x y h=>by simp at h⟩
 | x::xs,k,h=>by
  obtain ⟨y,hy⟩:=h 0 x rfl
  obtain ⟨ys,h1,h2⟩:=QG xs (k+1) (R:=R) (fun i x' hx=>by
   obtain ⟨y',hy'⟩:=h (i+1) x' (by simpa using hx)
   exact ⟨y',by rw [show k+1+i=k+(i+1) by omega];exact hy'⟩)
  refine ⟨y::ys,by simp [h1],fun i x' y' hx hy'=>?_⟩
  cases i with
  | zero=>
   simp only [Me,Option.some.injEq] at hx hy'
   subst hx;subst hy'
   exact hy
  | succ i=>
   have:=h2 i x' y' (by simpa using hx) (by simpa using hy')
   rw [show k+(i+1)=k+1+i by omega]
   exact this
def lZ (P:Program) (t:TypeId):Bool:=match P.underlying t with|some (.struct _)|some (.array _ _)=>true|_=>false
theorem YU {W W':World} (h:Go.RowKit.Below W.heap.size W W') {b off:Nat} (hb:b<W.heap.size):W'.frozen? ⟨b,off,none⟩=W.frozen? ⟨b,off,none⟩:=by
 simp only [World.frozen?,h.block b hb]
theorem UT {W W':World} (h:Go.RowKit.Below W.heap.size W W') {p:MemPlace} (hp:p.block<W.heap.size):W.sameAt W' p:=by
 cases p with
 |cell b off=>exact qX (h.block b hp) off
 |map b=>exact h.block b hp
theorem UQ {W W':World} (h:Go.RowKit.Below W.heap.size W W') (may:MemPlace->Prop):W.keptBut W' may:=by
 refine ⟨h.os,h.output,fun i hi=>?_⟩
 rw [h.block i hi]
 cases W.heap[i]? with
 |none=>rfl
 |some o=>cases o<;>simp
theorem zA {H:Type} {enc:TypeId×Value->H} {W W':World} (h:Go.RowKit.Below W.heap.size W W') {base:Nat} {sp:Nat->Bool} {held:Bool}:∀{ts:List TypeId} {vs:List Value} {ds:List (DataW H)} {ps:List MemPlace},
  DataW.TrodAll enc P W base sp held ts vs ds ps->(∀p∈ps,p.block<W.heap.size)->DataW.TrodAll enc P W' base sp held ts vs ds ps
 | [],[],[],_,hA,_=>hA
 |_::_,_::_,_::_,_,⟨p,q,⟨fuel,h1⟩,h2,e⟩,hp=>⟨p,q,⟨fuel,DataW.trod_carry _ _ _ _ h1 (fun x hx=>UT h (hp x (by rw [e];exact List.mem_append_left _ hx)))⟩,zA h h2 (fun x hx=>hp x (by rw [e];exact List.mem_append_right _ hx)),e⟩
theorem aE {f:Func} {s:ChangeSpec} {apart fresh handsOn again:Bool} {W W':World} {args:Array Value} {H:Type} {enc:TypeId×Value->H} {ds gs:List (DataW H)} {before:List MemPlace} {t:TypeId} {T:TypeId->Prop}
  (K:Kids P T) (hz:∀t e,T t->P.underlying t=some (.slice e)->0<P.cellsOf e) (hT:∀t∈f.params.toList,T t)
  (hW:DataW.Whole enc P f.params.toList s.vars apart W args.toList ds gs before) (hv:s.vars= [])
  (hb:Go.RowKit.Below W.heap.size W W') (hr:f.resultTypes=#[t]) (ht:P.underlying t=some .bool)
  (hs:s.fn H (ds++gs)={results:= [.lit (.bool true)],args:=ds}):
  s.post enc P f apart fresh handsOn again W args (.bool true) W':=by
 have hW':=hW
 have hlt:=hW.lt
 obtain ⟨p,q,hA,hV,rfl,hfz,hnd⟩:=hW
 rw [hv] at hV
 obtain ⟨rfl,rfl⟩:=trodVars_none hV
 simp only [Mv] at hlt hfz hnd hW' hs
 have hA':=zA hb hA hlt
 have hres:∀(b:Nat) (sp:Nat->Bool) (hd:Bool),DataW.TrodAll enc P W' b sp hd f.resultTypes.toList ((Value.bool true).resultList f.resultTypes.size) [.lit (.bool true)] []:=fun b sp hd=>by
  rw [hr]
  exact trodAll_cons_mk (shut_bool ht true) trodAll_mk0
 refine ⟨ds,[],p,[],p,[],hW',?_,?_,?_,UQ hb _,fun _=>⟨?_,[.lit (.bool true)]++ds,[],p,⟨[]++p,[],?_,?_,by simp,?_,?_⟩,fun p hp _=>hp⟩⟩
 ·rw [Mv,hs];exact hres _ _ _
 ·rw [Mv,hs];exact DataW.TrodAll.respare K hz hT hA' (fun x hx=>by simpa using hlt x hx)
 ·rw [Mv,hs,hv];rfl
 ·exact ok_one hr rfl (okWide_bool_mk ht true)
 ·exact trodAll_append hA' (hres _ _ _)
 ·rw [hv];rfl
 ·intro b off hp
  rw [YU hb (b:=b) (off:=off) (hlt _ hp)]
  exact hfz b off hp
 ·exact hnd
end
end Go.Aw
end
noncomputable section
namespace Go.Proofs.YtgopigkdcmhbbaaGreatDoor
open Go.Xs
open Go Go.Aw
theorem hm:Tryz.prog.follows .mixedOrders=true:=by kernel_rfl
theorem hmm:Tryz.prog.follows .mixedOrders=true:=by kernel_rfl
def Bt (f:FuncId) (n:Nat) (x:XC) (rs:List ResultVar):Prop:=∀{args:List D} {H:AH} {R:D->AH->Prop},(facts args->xcode Tryz.prog x (args++List.replicate (n - args.length) (.tup [])) H (oe Tryz.prog rs H.length R))->ACall Tryz.prog f args H R
theorem bt {f:FuncId} {fn:Func} {c:Code} {x:XC} {n:Nat} {rs:List ResultVar} (hf:(Tryz.prog).funcs[f]?=some fn) (hb:fn.body=some c) (hk:(K6 fn&&Qm Tryz.prog f&&o7 x c&&decide (fn.ntmps=n))=true:=by kernel_rfl) (hx:cmp c=er x:=by kernel_rfl) (hr:fn.results.toList=rs:=by kernel_rfl):Bt f n x rs:=by
 simp only [Mi,decide_eq_true_eq] at hk
 exact fun h=>Zd hm hf hb hk.1.1.1 hk.1.1.2 hx hk.1.2 hk.2 hr h
theorem TYX:KT Tryz.prog 22 22=(some (3,(1,8)))∧KT Tryz.prog 23 23=(some (64,(2,16)))∧KT Tryz.prog 24 24=(some (71,(13,136)))∧KT Tryz.prog 31 31=(some (9,(1,16)))∧KT Tryz.prog 49 49=(some (35,(17,24)))∧KT Tryz.prog 55 9=(some (5,(1,1)))∧KT Tryz.prog 55 55=(some (5,(1,1)))∧KT Tryz.prog 67 67=(some (66,(3,24)))∧KT Tryz.prog 72 72=(some (26,(6,88)))∧KT Tryz.prog 102 102=(some (158,(1,24)))∧K4 Tryz.prog 33=(some (16,1))∧K4 Tryz.prog 136=(some (2,1))∧K4 Tryz.prog 155=(some (68,1))∧K4 Tryz.prog 177=(some (32,1))∧K4 Tryz.prog 180=(some (8,1))∧K4 Tryz.prog 181=(some (64,1))∧K4 Tryz.prog 203=(some (64,1))∧K4 Tryz.prog 207=(some (4,1))∧jS Tryz.prog 26 0=(some (0,(false,1)))∧jS Tryz.prog 26 1=(some (1,(false,1)))∧jS Tryz.prog 26 2=(some (2,(false,1)))∧jS Tryz.prog 26 4=(some (4,(false,1)))∧jS Tryz.prog 35 0=(some (0,(true,16)))∧jS Tryz.prog 35 1=(some (16,(false,1)))∧jS Tryz.prog 40 0=(some (0,(false,1)))∧jS Tryz.prog 40 1=(some (1,(false,1)))∧jS Tryz.prog 64 0=(some (0,(false,1)))∧jS Tryz.prog 64 1=(some (1,(false,1)))∧jS Tryz.prog 66 0=(some (0,(false,1)))∧jS Tryz.prog 66 1=(some (1,(false,1)))∧jS Tryz.prog 66 2=(some (2,(false,1)))∧jS Tryz.prog 69 0=(some (0,(false,1)))∧jS Tryz.prog 69 1=(some (1,(false,1)))∧jS Tryz.prog 71 0=(some (0,(false,1)))∧jS Tryz.prog 71 1=(some (1,(true,3)))∧jS Tryz.prog 71 2=(some (4,(true,3)))∧jS Tryz.prog 71 3=(some (7,(false,1)))∧jS Tryz.prog 71 4=(some (8,(false,1)))∧jS Tryz.prog 71 5=(some (9,(false,1)))∧jS Tryz.prog 71 6=(some (10,(false,1)))∧jS Tryz.prog 71 7=(some (11,(true,2)))∧jS Tryz.prog 124 0=(some (0,(false,1)))∧jS Tryz.prog 136 0=(some (0,(false,1)))∧jS Tryz.prog 136 1=(some (1,(false,1)))∧jS Tryz.prog 139 0=(some (0,(false,1)))∧jS Tryz.prog 145 0=(some (0,(false,1)))∧jS Tryz.prog 145 2=(some (2,(false,1)))∧jS Tryz.prog 145 3=(some (3,(false,1)))∧jS Tryz.prog 145 4=(some (4,(false,1)))∧jS Tryz.prog 180 0=(some (0,(false,1)))∧jS Tryz.prog 180 1=(some (1,(false,1)))∧jS Tryz.prog 180 2=(some (2,(false,1)))∧jS Tryz.prog 180 3=(some (3,(false,1)))∧jS Tryz.prog 180 4=(some (4,(false,1)))∧jS Tryz.prog 180 5=(some (5,(false,1)))∧jS Tryz.prog 180 6=(some (6,(false,1)))∧jS Tryz.prog 180 7=(some (7,(false,1)))∧jS Tryz.prog 183 0=(some (0,(true,8)))∧jS Tryz.prog 207 0=(some (0,(false,1)))∧jS Tryz.prog 207 1=(some (1,(false,1)))∧jS Tryz.prog 207 2=(some (2,(false,1)))∧jS Tryz.prog 207 3=(some (3,(false,1)))∧AT Tryz.prog 203=(some false)∧fF Tryz.prog 33=(some [.i,.i,.i,.i,.i,.i,.i,.i,.i,.i,.i,.i,.i,.i,.i,.i])∧fF Tryz.prog 35=(some [.i,.i,.i,.i,.i,.i,.i,.i,.i,.i,.i,.i,.i,.i,.i,.i,.i])∧fF Tryz.prog 64=(some [.i,.i])∧fF Tryz.prog 66=(some [.i,.i,.i])∧fF Tryz.prog 69=(some [.i,.i])∧jX Tryz.prog 26 0=(some (0,(false,1)))∧jX Tryz.prog 26 1=(some (1,(false,1)))∧jX Tryz.prog 26 2=(some (2,(false,1)))∧jX Tryz.prog 26 3=(some (3,(false,1)))∧jX Tryz.prog 26 4=(some (4,(false,1)))∧jX Tryz.prog 26 5=(some (5,(false,1)))∧jX Tryz.prog 35 0=(some (0,(true,16)))∧jX Tryz.prog 35 1=(some (16,(false,1)))∧jX Tryz.prog 40 0=(some (0,(false,1)))∧jX Tryz.prog 40 1=(some (1,(false,1)))∧jX Tryz.prog 64 0=(some (0,(false,1)))∧jX Tryz.prog 64 1=(some (1,(false,1)))∧jX Tryz.prog 66 0=(some (0,(false,1)))∧jX Tryz.prog 66 1=(some (1,(false,1)))∧jX Tryz.prog 66 2=(some (2,(false,1)))∧jX Tryz.prog 69 0=(some (0,(false,1)))∧jX Tryz.prog 69 1=(some (1,(false,1)))∧jX Tryz.prog 71 0=(some (0,(false,1)))∧jX Tryz.prog 71 1=(some (1,(true,3)))∧jX Tryz.prog 71 2=(some (4,(true,3)))∧jX Tryz.prog 71 3=(some (7,(false,1)))∧jX Tryz.prog 71 4=(some (8,(false,1)))∧jX Tryz.prog 71 5=(some (9,(false,1)))∧jX Tryz.prog 71 6=(some (10,(false,1)))∧jX Tryz.prog 71 7=(some (11,(true,2)))∧jX Tryz.prog 104 0=(some (0,(false,1)))∧jX Tryz.prog 104 1=(some (1,(false,1)))∧jX Tryz.prog 124 0=(some (0,(false,1)))∧jX Tryz.prog 124 1=(some (1,(false,1)))∧jX Tryz.prog 139 0=(some (0,(false,1)))∧jX Tryz.prog 145 0=(some (0,(false,1)))∧jX Tryz.prog 145 1=(some (1,(false,1)))∧jX Tryz.prog 145 2=(some (2,(false,1)))∧jX Tryz.prog 145 3=(some (3,(false,1)))∧jX Tryz.prog 145 4=(some (4,(false,1)))∧jX Tryz.prog 145 5=(some (5,(false,1)))∧jX Tryz.prog 145 6=(some (6,(false,1)))∧jX Tryz.prog 145 7=(some (7,(true,2)))∧jX Tryz.prog 183 0=(some (0,(true,8)))∧jX Tryz.prog 183 1=(some (8,(true,64)))∧jX Tryz.prog 183 2=(some (72,(false,1)))∧jW Tryz.prog 26=true∧jW Tryz.prog 33=true∧jW Tryz.prog 35=true∧jW Tryz.prog 40=true∧jW Tryz.prog 64=true∧jW Tryz.prog 66=true∧jW Tryz.prog 69=true∧jW Tryz.prog 71=true∧jW Tryz.prog 104=true∧jW Tryz.prog 124=true∧jW Tryz.prog 136=true∧jW Tryz.prog 139=true∧jW Tryz.prog 145=true∧jW Tryz.prog 180=true∧jW Tryz.prog 183=true∧jW Tryz.prog 207=true∧KU Tryz.prog 3=(some .i64)∧KU Tryz.prog 5=(some .u8)∧KU Tryz.prog 153=(some .u64)∧KU Tryz.prog 154=(some .u64)∧KU Tryz.prog 179=(some .u32)∧Q1 Tryz.prog 4=true∧yF Tryz.prog 55=true∧kK Tryz.prog 9=true∧kK Tryz.prog 55=false∧zG Tryz.prog 3=true∧zG Tryz.prog 5=true∧zG Tryz.prog 153=true∧zG Tryz.prog 179=true∧aU Tryz.prog 134=(some (true,([.i,.i],(.agg [(.int .u8 0),(.int .u8 0),(.int .u8 0),(.int .u8 0),(.int .u8 0),(.int .u8 0),(.int .u8 0),(.int .u8 0),(.int .u8 0),(.int .u8 0),(.int .u8 0),(.int .u8 0),(.int .u8 0),(.int .u8 0),(.int .u8 0),(.int .u8 0)]))))∧yn Tryz.prog 22=(some (3,1))∧yn Tryz.prog 23=(some (64,2))∧yn Tryz.prog 24=(some (71,13))∧yn Tryz.prog 31=(some (9,1))∧yn Tryz.prog 49=(some (35,17))∧yn Tryz.prog 55=(some (5,1))∧yn Tryz.prog 67=(some (66,3))∧yn Tryz.prog 72=(some (26,6))∧yn Tryz.prog 102=(some (158,1))∧yn Tryz.prog 158=(some (4,1))∧yq Tryz.prog 3=(some (false,1))∧yq Tryz.prog 4=(some (false,1))∧yq Tryz.prog 5=(some (false,1))∧yq Tryz.prog 9=(some (false,1))∧yq Tryz.prog 22=(some (false,1))∧yq Tryz.prog 23=(some (false,1))∧yq Tryz.prog 24=(some (false,1))∧yq Tryz.prog 26=(some (true,6))∧yq Tryz.prog 33=(some (true,16))∧yq Tryz.prog 35=(some (true,17))∧yq Tryz.prog 40=(some (true,2))∧yq Tryz.prog 55=(some (false,1))∧yq Tryz.prog 64=(some (true,2))∧yq Tryz.prog 66=(some (true,3))∧yq Tryz.prog 67=(some (false,1))∧yq Tryz.prog 69=(some (true,2))∧yq Tryz.prog 71=(some (true,13))∧yq Tryz.prog 72=(some (false,1))∧yq Tryz.prog 85=(some (false,1))∧yq Tryz.prog 96=(some (false,1))∧yq Tryz.prog 102=(some (false,1))∧yq Tryz.prog 104=(some (true,2))∧yq Tryz.prog 134=(some (false,1))∧yq Tryz.prog 136=(some (true,2))∧yq Tryz.prog 139=(some (true,1))∧yq Tryz.prog 145=(some (true,9))∧yq Tryz.prog 153=(some (false,1))∧yq Tryz.prog 158=(some (false,1))∧yq Tryz.prog 177=(some (true,32))∧yq Tryz.prog 179=(some (false,1))∧yq Tryz.prog 180=(some (true,8))∧yq Tryz.prog 183=(some (true,73))∧yq Tryz.prog 203=(some (true,64))∧yq Tryz.prog 207=(some (true,4))∧yw Tryz.prog 3=(some [(.int .i64 0)])∧yw Tryz.prog 22=(some [(.own [])])∧yw Tryz.prog 26=(some [(.int .i64 0),(.int .i64 0),(.int .i64 0),(.own []),(.own []),(.str [])])∧yw Tryz.prog 33=(some [(.int .u8 0),(.int .u8 0),(.int .u8 0),(.int .u8 0),(.int .u8 0),(.int .u8 0),(.int .u8 0),(.int .u8 0),(.int .u8 0),(.int .u8 0),(.int .u8 0),(.int .u8 0),(.int .u8 0),(.int .u8 0),(.int .u8 0),(.int .u8 0)])∧yw Tryz.prog 35=(some [(.int .u8 0),(.int .u8 0),(.int .u8 0),(.int .u8 0),(.int .u8 0),(.int .u8 0),(.int .u8 0),(.int .u8 0),(.int .u8 0),(.int .u8 0),(.int .u8 0),(.int .u8 0),(.int .u8 0),(.int .u8 0),(.int .u8 0),(.int .u8 0),(.int .i64 0)])∧yw Tryz.prog 40=(some [(.str []),(.int .i64 0)])∧yw Tryz.prog 55=(some [(.own [])])∧yw Tryz.prog 64=(some [(.int .i64 0),(.int .i64 0)])∧yw Tryz.prog 66=(some [(.int .i64 0),(.int .i64 0),(.int .i64 0)])∧yw Tryz.prog 69=(some [(.int .i64 0),(.int .i64 0)])∧yw Tryz.prog 71=(some [(.int .i64 0),(.int .i64 0),(.int .i64 0),(.int .i64 0),(.int .i64 0),(.int .i64 0),(.int .i64 0),(.own []),(.int .i64 0),(.str []),(.str []),(.int .i64 0),(.int .i64 0)])∧yw Tryz.prog 85=(some [.nilfn])∧yw Tryz.prog 96=(some [.nilfn])∧yw Tryz.prog 104=(some [(.own []),(.own [])])∧yw Tryz.prog 124=(some [(.own []),(.bool false)])∧yw Tryz.prog 134=(some [(.mp none)])∧yw Tryz.prog 136=(some [(.int .i64 0),(.int .i64 0)])∧yw Tryz.prog 139=(some [(.own [])])∧yw Tryz.prog 145=(some [(.bool false),(.bool false),(.bool false),(.bool false),(.bool false),(.int .i64 0),(.int .i64 0),(.int .i64 0),(.int .i64 0)])∧yw Tryz.prog 155=(some [(.int .i64 0),(.int .i64 0),(.int .i64 0),(.int .i64 0),(.int .i64 0),(.int .i64 0),(.int .i64 0),(.int .i64 0),(.int .i64 0),(.int .i64 0),(.int .i64 0),(.int .i64 0),(.int .i64 0),(.int .i64 0),(.int .i64 0),(.int .i64 0),(.int .i64 0),(.int .i64 0),(.int .i64 0),(.int .i64 0),(.int .i64 0),(.int .i64 0),(.int .i64 0),(.int .i64 0),(.int .i64 0),(.int .i64 0),(.int .i64 0),(.int .i64 0),(.int .i64 0),(.int .i64 0),(.int .i64 0),(.int .i64 0),(.int .i64 0),(.int .i64 0),(.int .i64 0),(.int .i64 0),(.int .i64 0),(.int .i64 0),(.int .i64 0),(.int .i64 0),(.int .i64 0),(.int .i64 0),(.int .i64 0),(.int .i64 0),(.int .i64 0),(.int .i64 0),(.int .i64 0),(.int .i64 0),(.int .i64 0),(.int .i64 0),(.int .i64 0),(.int .i64 0),(.int .i64 0),(.int .i64 0),(.int .i64 0),(.int .i64 0),(.int .i64 0),(.int .i64 0),(.int .i64 0),(.int .i64 0),(.int .i64 0),(.int .i64 0),(.int .i64 0),(.int .i64 0),(.int .i64 0),(.int .i64 0),(.int .i64 0),(.int .i64 0)])∧yw Tryz.prog 177=(some [(.int .u8 0),(.int .u8 0),(.int .u8 0),(.int .u8 0),(.int .u8 0),(.int .u8 0),(.int .u8 0),(.int .u8 0),(.int .u8 0),(.int .u8 0),(.int .u8 0),(.int .u8 0),(.int .u8 0),(.int .u8 0),(.int .u8 0),(.int .u8 0),(.int .u8 0),(.int .u8 0),(.int .u8 0),(.int .u8 0),(.int .u8 0),(.int .u8 0),(.int .u8 0),(.int .u8 0),(.int .u8 0),(.int .u8 0),(.int .u8 0),(.int .u8 0),(.int .u8 0),(.int .u8 0),(.int .u8 0),(.int .u8 0)])∧yw Tryz.prog 180=(some [(.int .u32 0),(.int .u32 0),(.int .u32 0),(.int .u32 0),(.int .u32 0),(.int .u32 0),(.int .u32 0),(.int .u32 0)])∧yw Tryz.prog 181=(some [(.int .u8 0),(.int .u8 0),(.int .u8 0),(.int .u8 0),(.int .u8 0),(.int .u8 0),(.int .u8 0),(.int .u8 0),(.int .u8 0),(.int .u8 0),(.int .u8 0),(.int .u8 0),(.int .u8 0),(.int .u8 0),(.int .u8 0),(.int .u8 0),(.int .u8 0),(.int .u8 0),(.int .u8 0),(.int .u8 0),(.int .u8 0),(.int .u8 0),(.int .u8 0),(.int .u8 0),(.int .u8 0),(.int .u8 0),(.int .u8 0),(.int .u8 0),(.int .u8 0),(.int .u8 0),(.int .u8 0),(.int .u8 0),(.int .u8 0),(.int .u8 0),(.int .u8 0),(.int .u8 0),(.int .u8 0),(.int .u8 0),(.int .u8 0),(.int .u8 0),(.int .u8 0),(.int .u8 0),(.int .u8 0),(.int .u8 0),(.int .u8 0),(.int .u8 0),(.int .u8 0),(.int .u8 0),(.int .u8 0),(.int .u8 0),(.int .u8 0),(.int .u8 0),(.int .u8 0),(.int .u8 0),(.int .u8 0),(.int .u8 0),(.int .u8 0),(.int .u8 0),(.int .u8 0),(.int .u8 0),(.int .u8 0),(.int .u8 0),(.int .u8 0),(.int .u8 0)])∧yw Tryz.prog 183=(some [(.int .u32 0),(.int .u32 0),(.int .u32 0),(.int .u32 0),(.int .u32 0),(.int .u32 0),(.int .u32 0),(.int .u32 0),(.int .u8 0),(.int .u8 0),(.int .u8 0),(.int .u8 0),(.int .u8 0),(.int .u8 0),(.int .u8 0),(.int .u8 0),(.int .u8 0),(.int .u8 0),(.int .u8 0),(.int .u8 0),(.int .u8 0),(.int .u8 0),(.int .u8 0),(.int .u8 0),(.int .u8 0),(.int .u8 0),(.int .u8 0),(.int .u8 0),(.int .u8 0),(.int .u8 0),(.int .u8 0),(.int .u8 0),(.int .u8 0),(.int .u8 0),(.int .u8 0),(.int .u8 0),(.int .u8 0),(.int .u8 0),(.int .u8 0),(.int .u8 0),(.int .u8 0),(.int .u8 0),(.int .u8 0),(.int .u8 0),(.int .u8 0),(.int .u8 0),(.int .u8 0),(.int .u8 0),(.int .u8 0),(.int .u8 0),(.int .u8 0),(.int .u8 0),(.int .u8 0),(.int .u8 0),(.int .u8 0),(.int .u8 0),(.int .u8 0),(.int .u8 0),(.int .u8 0),(.int .u8 0),(.int .u8 0),(.int .u8 0),(.int .u8 0),(.int .u8 0),(.int .u8 0),(.int .u8 0),(.int .u8 0),(.int .u8 0),(.int .u8 0),(.int .u8 0),(.int .u8 0),(.int .u8 0),(.int .u64 0)])∧yw Tryz.prog 203=(some [(.int .u32 0),(.int .u32 0),(.int .u32 0),(.int .u32 0),(.int .u32 0),(.int .u32 0),(.int .u32 0),(.int .u32 0),(.int .u32 0),(.int .u32 0),(.int .u32 0),(.int .u32 0),(.int .u32 0),(.int .u32 0),(.int .u32 0),(.int .u32 0),(.int .u32 0),(.int .u32 0),(.int .u32 0),(.int .u32 0),(.int .u32 0),(.int .u32 0),(.int .u32 0),(.int .u32 0),(.int .u32 0),(.int .u32 0),(.int .u32 0),(.int .u32 0),(.int .u32 0),(.int .u32 0),(.int .u32 0),(.int .u32 0),(.int .u32 0),(.int .u32 0),(.int .u32 0),(.int .u32 0),(.int .u32 0),(.int .u32 0),(.int .u32 0),(.int .u32 0),(.int .u32 0),(.int .u32 0),(.int .u32 0),(.int .u32 0),(.int .u32 0),(.int .u32 0),(.int .u32 0),(.int .u32 0),(.int .u32 0),(.int .u32 0),(.int .u32 0),(.int .u32 0),(.int .u32 0),(.int .u32 0),(.int .u32 0),(.int .u32 0),(.int .u32 0),(.int .u32 0),(.int .u32 0),(.int .u32 0),(.int .u32 0),(.int .u32 0),(.int .u32 0),(.int .u32 0)])∧yw Tryz.prog 207=(some [(.int .u32 0),(.int .u32 0),(.int .u32 0),(.int .u32 0)])∧yw Tryz.prog 4=(some [(.bool false)])∧yw Tryz.prog 5=(some [(.int .u8 0)])∧yw Tryz.prog 9=(some [(.str [])])∧yw Tryz.prog 158=(some [(.own [])]):=by
 repeat' apply And.intro
 all_goals kernel_rfl
theorem ql:type_of% (And.intro @qA @TYX):=And.intro @qA @TYX
theorem unf {c d:XC} (h:c=d) {F:List D} {H:AH} {Q:AQ}:xcode Tryz.prog c F H Q=xcode Tryz.prog d F H Q:=h▸ .trans rfl rfl
theorem aI {a b:Prop} (h:a) (k:b):a∧b:=⟨h,k⟩
def sQ:=yy Tryz.f16
def V16:=PLift.up (aI (@unf (sQ 5) (T (r [u,u,v,u])) rfl) (aI (@unf (sQ 8) (F [u,u,v,u]) rfl) (@unf (sQ 0) (R [u] (X (R [u,u] (sQ 5)) (sQ 8))) rfl)))
theorem U16:type_of% V16.down:=V16.down
theorem fM:Bt 16 13 (sQ 0) [(.tmp 4)]:=bt Tryz.func16 rfl
def sP:=yy Tryz.f57
def V57:=PLift.up (aI (@unf (sP 10) (F [u,u,u,u,u,v,u]) rfl) (aI (@unf (sP 2) (X (R [u,u,u,z 9,z 9,z 9,z 9,u] (T (F [u]))) (sP 10)) rfl) (@unf (sP 0) (R [u] (sP 2)) rfl)))
theorem Cd:type_of% V57.down:=V57.down
theorem b57:Bt 57 21 (sP 0) [(.tmp 6)]:=bt Tryz.func57 rfl
def x59_s0:XC:=(R [m 0 5,m 1 6,m 0 7,e 22 7 8,a (.call ⟨(.builtin .min),#[t 6,t 8],#[3,3]⟩) 9,b (.slice 22 (t 5) (.some (t 9)) .none .none) 10,n 10 4] .ret)
theorem mo:type_of% (@unf _ _ x59_s0.eq_1):=unf x59_s0.eq_1
def x59:XC:=(R [Z 4] x59_s0)
theorem b59:Bt 59 11 x59 [(.tmp 4)]:=bt Tryz.func59 rfl
def o6:=yy Tryz.f143
def V143:=PLift.up (aI (aI (aI (@unf (o6 24) (r [u,v,u]) rfl) (@unf (o6 21) (X (O (G [u,u,u,u,u,u,u,u,u,u,u,u,u,u,u,u,u,u,v,u])) (o6 24)) rfl)) (aI (@unf (o6 15) (X (R [u,u,u] I) (o6 21)) rfl) (@unf (o6 25) (X (R [u,u,u] (T (F [u]))) (F [v,u])) rfl))) (aI (aI (@unf (o6 8) (R [u,v,u] (X (R [u] (U (o6 15))) (o6 25))) rfl) (@unf (o6 6) (R [u,u,u,u,u,u,v,u] (o6 8)) rfl)) (aI (@unf (o6 4) (R [x,u,v,u] (o6 6)) rfl) (aI (@unf (o6 2) (R [x,u,v,u] (o6 4)) rfl) (@unf (o6 0) (R [u] (o6 2)) rfl)))))
theorem VU:type_of% V143.down:=V143.down
theorem Dn:Bt 143 50 (o6 0) [(.tmp 2)]:=bt Tryz.func143 rfl
def fY:=yy Tryz.f147
def V147:=PLift.up (aI (@unf (fY 2) (F [v,u]) rfl) (@unf (fY 0) (R [u] (fY 2)) rfl))
theorem U147:type_of% V147.down:=V147.down
theorem Em:Bt 147 2 (fY 0) [(.tmp 0)]:=bt Tryz.func147 rfl
def fe:=yy Tryz.f127
def V127:=PLift.up (aI (@unf (fe 2) (F [v,u]) rfl) (@unf (fe 0) (R [u] (fe 2)) rfl))
theorem U127:type_of% V127.down:=V127.down
theorem Ey:Bt 127 2 (fe 0) [(.tmp 0)]:=bt Tryz.func127 rfl
def av:=yy Tryz.f126
def V126:=PLift.up (aI (@unf (av 6) (R [x,u,u,v,u,u] (F [v,u])) rfl) (aI (@unf (av 4) (R [x,u,u,v,u] (av 6)) rfl) (@unf (av 0) (R [u,u,u] (R [u] (av 4))) rfl)))
theorem tL:type_of% V126.down:=V126.down
theorem Dt:Bt 126 16 (av 0) [(.cell 4 26)]:=bt Tryz.func126 rfl
def QW:=yy Tryz.f128
def V128:=PLift.up (aI (aI (@unf (QW 12) (r [u,u,u,v,u]) rfl) (aI (@unf (QW 8) (X (R [u,u,u] (T (QW 12))) (F [v,u])) rfl) (@unf (QW 6) (X (G [u,u,u,u,u,u,v,u]) (QW 8)) rfl))) (aI (@unf (QW 4) (X (G [u,u,u,u,u,v,u]) (QW 6)) rfl) (aI (@unf (QW 2) (R [u,u,u,u,u,u,u,v,u,u] (QW 4)) rfl) (@unf (QW 0) (R [u,u,u] (QW 2)) rfl))))
theorem d8:type_of% V128.down:=V128.down
theorem CJ:Bt 128 37 (QW 0) [(.cell 6 26)]:=bt Tryz.func128 rfl
def wR:=yy Tryz.f125
def V125:=PLift.up (aI (aI (aI (@unf (wR 32) (G [x,u,u,u,u,u,u,u,u,u,u,u,u,u,u,u,v,u]) rfl) (aI (@unf (wR 34) (r [u,v,u]) rfl) (@unf (wR 27) (X (O (R [u,u,u,u,u,y 35,y 35,y 35,y 35,y 35,y 35,y 35,y 35,y 35,y 35,y 35,y 35,u] (T (wR 32)))) (wR 34)) rfl))) (aI (@unf (wR 21) (X (R [u,u,u,u,u,u,u,u,u] I) (wR 27)) rfl) (aI (@unf (wR 35) (r [u,v,u]) rfl) (@unf (wR 9) (X (R [u,u,u,u,u] I) (X (O (R [u] (U (wR 21)))) (wR 35))) rfl)))) (aI (aI (@unf (wR 52) (r [x,u,u,u,u,u,u,u,v,u]) rfl) (aI (@unf (wR 54) (r [u,v,u]) rfl) (@unf (wR 47) (X (O (R [u,u,u,u,u,u,u,u] (T (wR 52)))) (wR 54)) rfl))) (aI (aI (@unf (wR 41) (X (R [u,u,u,u,u] I) (wR 47)) rfl) (@unf (wR 36) (X (R [u] (U (wR 41))) (F [v,u])) rfl)) (aI (@unf (wR 2) (R [u] (X (R [u] (U (wR 9))) (wR 36))) rfl) (@unf (wR 0) (R [u,u,u] (wR 2)) rfl)))))
theorem Ko:type_of% V125.down:=V125.down
theorem Es:Bt 125 91 (wR 0) [(.tmp 8)]:=bt Tryz.func125 rfl
def wP:=yy Tryz.f131
def V131:=PLift.up (aI (aI (aI (@unf (wP 32) (r [x,u,u,u,u,u,u,u,u,u,u,v,u]) rfl) (aI (@unf (wP 34) (r [u,v,u]) rfl) (@unf (wP 27) (X (O (R [u,u,u,u,u,y 33,y 33,y 33,y 33,y 33,y 33,y 33,y 33,y 33,y 33,y 33,u] (T (wP 32)))) (wP 34)) rfl))) (aI (@unf (wP 21) (X (R [u,u,u,u,u,u,u,u,u] I) (wP 27)) rfl) (aI (@unf (wP 35) (r [u,v,u]) rfl) (@unf (wP 9) (X (R [u,u,u,u,u] I) (X (O (R [u] (U (wP 21)))) (wP 35))) rfl)))) (aI (aI (@unf (wP 52) (r [x,u,u,u,u,u,u,v,u]) rfl) (aI (@unf (wP 54) (r [u,v,u]) rfl) (@unf (wP 47) (X (O (R [u,u,u,u,u,u,u] (T (wP 52)))) (wP 54)) rfl))) (aI (aI (@unf (wP 41) (X (R [u,u,u,u,u] I) (wP 47)) rfl) (@unf (wP 36) (X (R [u] (U (wP 41))) (F [v,u])) rfl)) (aI (@unf (wP 2) (R [u] (X (R [u] (U (wP 9))) (wP 36))) rfl) (@unf (wP 0) (R [u,u,u] (wP 2)) rfl)))))
theorem JX:type_of% V131.down:=V131.down
theorem FH:Bt 131 81 (wP 0) [(.tmp 6)]:=bt Tryz.func131 rfl
def zm:=yy Tryz.f129
def V129:=PLift.up (aI (aI (aI (@unf (zm 12) (G [u,u,u,u,u,u,u,u,u,u,u,u,u,u,v,u]) rfl) (@unf (zm 10) (R [u,u,u,v,u] (zm 12)) rfl)) (aI (@unf (zm 13) (r [u,u,u,u,u,u,v,u]) rfl) (@unf (zm 14) (X (G [u,u,u,u,u,u,u,u,u,u,v,u]) .ret) rfl))) (aI (aI (@unf (zm 6) (X (R [u,u,u,u,z 29,z 29,z 29,u] (V (zm 10) (zm 13))) (zm 14)) rfl) (@unf (zm 4) (R [u,u,u,u,u,u,u,v,u,u] (zm 6)) rfl)) (aI (@unf (zm 2) (R [u,u,u,v,u] (zm 4)) rfl) (@unf (zm 0) (R [u,u,u,u] (zm 2)) rfl))))
theorem Wy:type_of% V129.down:=V129.down
theorem EA:Bt 129 71 (zm 0) [(.cell 10 26)]:=bt Tryz.func129 rfl
def QO:=yy Tryz.f130
def V130:=PLift.up (aI (aI (@unf (QO 10) (X (G [u,u,u,u,u,u,u,u,u,v,u]) .ret) rfl) (aI (@unf (QO 8) (X (G [u,u,u,u,v,u]) (QO 10)) rfl) (@unf (QO 6) (R [u,u,u,u,u,u,u,v,u,u] (QO 8)) rfl))) (aI (@unf (QO 4) (R [u,u,u,v,u] (QO 6)) rfl) (aI (@unf (QO 2) (R [u,u,u,u,u,u,u,v,u,u] (QO 4)) rfl) (@unf (QO 0) (R [u,u,u,u] (QO 2)) rfl))))
theorem lg:type_of% V130.down:=V130.down
theorem FZ:Bt 130 46 (QO 0) [(.cell 8 26)]:=bt Tryz.func130 rfl
def QT:=yy Tryz.f132
def x132_c1:XC:=(.seq (.regD [l 66 4 59,l 66 5 60,m 3 61,a (k 57 #[t 61,i 3,i 5] #[22,3,3]) 62,a (.call ⟨(.builtin .min),#[i 1,t 62],#[3,3]⟩) 63,b (.build 71 #[(0,(i 15)),(1,(t 59)),(2,(t 60)),(4,(t 63))]) 64,w 71 8 64]) .ret)
def x132_s2:XC:=(C 56 x132_c1 (R [Q .eql 3 9 9 66,n 66 65] (C 65 (QT 57) .skip)))
def x132_c3:XC:=(.seq (.regD [l 66 4 46,a (.buildSlice 31 2 #[(0,(.const (.string ⟨#[114,97,114,101]⟩))),(1,(.const (.string ⟨#[108,97,119]⟩)))]) 47,m 3 48,a (k 57 #[t 48,i 3,i 2] #[22,3,3]) 49,j 31 47 49 50,l 9 50 51,m 3 52,a (k 57 #[t 52,i 4,i 4] #[22,3,3]) 53,a (.call ⟨(.builtin .min),#[i 1,t 53],#[3,3]⟩) 54,b (.build 71 #[(0,(i 14)),(1,(t 46)),(5,(t 51)),(4,(t 54))]) 55,w 71 8 55]) .ret)
def x132_c4:XC:=(.seq (R [Q .eql 3 9 7 57,n 57 56] (C 56 .skip (.reg [Q .eql 3 9 8 58,n 58 56]))) x132_s2)
def x132_c6:XC:=(.seq (R [Q .eql 3 9 5 44,n 44 43] (C 43 .skip (.reg [Q .eql 3 9 6 45,n 45 43]))) (C 43 x132_c3 x132_c4))
def x132_s8:XC:=(C 24 (QT 25) (R [Q .eql 3 9 4 32,n 32 31] (C 31 (QT 31) x132_c6)))
def x132_c11:XC:=(R [Q .eql 3 9 2 19,n 19 18] (C 18 (QT 19) (R [Q .eql 3 9 3 25,n 25 24] x132_s8)))
def x132_s12:XC:=(.block 0 (.seq (R [Q .eql 3 9 0 11,n 11 10] (C 10 .skip (.reg [Q .eql 3 9 1 12,n 12 10]))) (C 10 (QT 13) x132_c11)))
def xr:XC:=(R [B 66 0 4,B 66 1 5,a (.alloc 71) 8] (.seq (R [m 2 9] x132_s12) (QT 61)))
def V132:=PLift.up (aI (aI (aI (@unf (QT 57) (X (G [u,u,u,u,v,u]) .ret) rfl) (aI (@unf _ _ x132_c1.eq_1) (@unf _ _ x132_s2.eq_1))) (aI (aI (@unf _ _ x132_c3.eq_1) (@unf _ _ x132_c4.eq_1)) (aI (@unf (QT 31) (X (G [u,u,u,u,u,u,u,u,u,v,u]) .ret) rfl) (@unf _ _ x132_c6.eq_1)))) (aI (aI (@unf (QT 25) (X (G [u,u,u,u,v,u]) .ret) rfl) (aI (@unf _ _ x132_s8.eq_1) (@unf (QT 19) (X (G [u,u,u,v,u]) .ret) rfl))) (aI (aI (@unf (QT 13) (X (G [u,u,u,u,v,u]) .ret) rfl) (@unf _ _ x132_c11.eq_1)) (aI (@unf _ _ x132_s12.eq_1) (@unf (QT 61) (X (G [u,u,u,v,u]) .ret) rfl)))))
theorem El:type_of% V132.down:=V132.down
theorem Dk:Bt 132 76 xr [(.cell 8 71)]:=bt Tryz.func132 rfl
def yl:=yy Tryz.f98
def V98:=PLift.up (aI (aI (aI (aI (aI (@unf (yl 16) (X (G [u,u,u,u,v,u]) .ret) rfl) (@unf (yl 14) (X (G [u,u,u,u,u,u,u,u,u,u,u,u,v,u]) (yl 16)) rfl)) (aI (@unf (yl 12) (R [u,u,u,u,u,u,u,v,u,u] (yl 14)) rfl) (@unf (yl 64) (F [u,u,u,u,v,u]) rfl))) (aI (aI (@unf (yl 78) (X (G [u,u,u,u,u,u,u,u,u,u,u,u,u,u,u,v,u]) .ret) rfl) (@unf (yl 76) (R [u,u,u,u,u,u,v,u,u] (yl 78)) rfl)) (aI (@unf (yl 73) (R [u,u,u] (T (yl 76))) rfl) (@unf (yl 89) (X (G [u,u,u,u,u,u,u,u,v,u]) .ret) rfl)))) (aI (aI (aI (@unf (yl 93) (X (G [u,u,u,u,u,u,u,u,v,u]) .ret) rfl) (@unf (yl 106) (X (G [u,u,u,u,u,u,u,u,u,u,u,u,u,v,u]) .ret) rfl)) (aI (@unf (yl 104) (R [u,u,u,v,u] (yl 106)) rfl) (@unf (yl 101) (R [u,u,u] (T (yl 104))) rfl))) (aI (aI (@unf (yl 99) (R [u,u,u,v,u] (yl 101)) rfl) (@unf (yl 85) (X (R [u,u,u] (T (yl 89))) (yl 93)) rfl)) (aI (@unf (yl 84) (V (yl 85) (R [v,u] (T (yl 99)))) rfl) (aI (@unf (yl 71) (R [u,u,u,v,u] (yl 73)) rfl) (@unf (yl 68) (R [v,u] (V (yl 71) (R [v,u] (yl 84)))) rfl)))))) (aI (aI (aI (aI (@unf (yl 60) (V (R [u,u,u] (T (yl 64))) (yl 68)) rfl) (@unf (yl 55) (X (G [u,u,u,u,u,v,u]) .ret) rfl)) (aI (@unf (yl 49) (X (G [u,u,u,u,u,u,v,u]) .ret) rfl) (@unf (yl 52) (R [v,u] (V (yl 55) (R [v,u] (yl 60)))) rfl))) (aI (aI (@unf (yl 39) (X (G [u,u,u,u,v,u]) .ret) rfl) (@unf (yl 42) (X (R [v,u] (V .skip (r [v,u]))) (V (yl 49) (yl 52))) rfl)) (aI (@unf (yl 33) (X (G [u,u,u,u,v,u]) .ret) rfl) (aI (@unf (yl 32) (V (yl 33) (R [v,u] (V (yl 39) (yl 42)))) rfl) (@unf (yl 111) (X (G [u,u,u,u,u,u,u,u,v,u]) .ret) rfl))))) (aI (aI (aI (@unf (yl 26) (X (R [u] (O (R [v,u] (yl 32)))) (yl 111)) rfl) (@unf (yl 24) (R [u,u,u,u,u,u,v,u,u] (yl 26)) rfl)) (aI (@unf (yl 22) (R [u,u,u,u,u,u,v,u,u] (yl 24)) rfl) (@unf (yl 20) (R [u,u,u,u,u,u,v,u,u] (yl 22)) rfl))) (aI (aI (@unf (yl 8) (X (R [u,u,u,u,z 33,z 33,u] (T (yl 12))) (yl 20)) rfl) (@unf (yl 6) (R [u,v,u] (yl 8)) rfl)) (aI (@unf (yl 4) (R [u,u,u,v,u] (yl 6)) rfl) (aI (@unf (yl 2) (R [u,u,u,v,u] (yl 4)) rfl) (@unf (yl 0) (R [u,u,u] (yl 2)) rfl)))))))
theorem J4:type_of% V98.down:=V98.down
theorem b98:Bt 98 218 (yl 0) [(.cell 8 26)]:=bt Tryz.func98 rfl
def eI:=yy Tryz.f97
def V97:=PLift.up (aI (aI (@unf (eI 22) (r [u,v,u]) rfl) (@unf (eI 13) (X (O (R [u,u,u,u,u,u,u,u] (T (F [v,u])))) (eI 22)) rfl)) (aI (@unf (eI 7) (X (R [u,u] I) (eI 13)) rfl) (aI (@unf (eI 2) (X (R [u,u,u,v,u] (U (eI 7))) (F [u])) rfl) (@unf (eI 0) (R [u,u] (eI 2)) rfl))))
theorem Cg:type_of% V97.down:=V97.down
theorem b97:Bt 97 23 (eI 0) [(.tmp 4)]:=bt Tryz.func97 rfl
def zb:=yy Tryz.f58
def x58_c4:XC:=(.regT [8] [([f 26 8 3 91],c (.load 23 (t 91)) 92,false)] [m 10 93,f 104 3 0 94,l 72 94 95,m 11 96,j 72 95 96 97,f 26 97 1 98,l 3 98 99,a (.build 64 #[(0,(t 93)),(1,(t 99))]) 100,a (.buildSlice 23 1 #[(0,(t 100))]) 101,b (.call ⟨(.builtin .append),#[t 92,t 101],#[23,23]⟩) 102,f 26 8 3 103] [w 23 103 102])
def x58_s5:XC:=(R [m 10 80,m 7 81,p .eql 3 80 81 82] (C 82 (zb 51) x58_c4))
def x58_s6:XC:=(.seq (.regD [f 26 8 2 70,l 3 70 71,f 104 3 0 72,l 72 72 73,m 11 74,j 72 73 74 75,f 26 75 2 76,l 3 76 77,b (.call ⟨(.builtin .max),#[t 71,t 77],#[3,3]⟩) 78,f 26 8 2 79,w 3 79 78]) x58_s5)
def x58_s7:XC:=(.seq (zb 45) x58_s6)
def x58_s8:XC:=(.seq (.seq (zb 25) (C 44 (.exit 1) .skip)) (.seq (R [A 0 12] (.block 2 (.loop (zb 34)))) x58_s7))
def x58_s10:XC:=(.seq (.block 1 (.seq (zb 22) x58_s8)) (zb 53))
def x58_L11:XC:=(.seq (R [m 10 23,m 1 24,p .lss 3 23 24 25] (C 25 .skip (.exit 0))) x58_s10)
def x58_s15:XC:=(.seq (zb 74) (.seq (.gh (.reg [L 104 3 138,w 104 6 138])) .ret))
def x58_s16:XC:=(.seq (zb 72) x58_s15)
def x58_s17:XC:=(.seq (zb 55) (.seq (.seq (.gh (.reg [A 0 13])) (.block 4 (.loop (zb 61)))) x58_s16))
def x58_s18:XC:=(.seq (.gh (.reg [f 104 3 0 19,l 72 19 20,e 72 20 21,b (.call ⟨(.builtin .append),#[t 21,t 21],#[158]⟩) 22,n 22 9])) (.seq (R [A 0 10] (.block 0 (.loop x58_L11))) x58_s17))
def x58_s19:XC:=(R [m 7 17,b (.call ⟨(.builtin .complex),#[t 17,i 1,i 1],#[26,0,1,2]⟩) 18,a (.alloc 26) 8,w 26 8 18] x58_s18)
def x58_s20:XC:=(.seq (.gh (zb 3)) x58_s19)
def x58:XC:=(R [B 104 0 3,a (.alloc 104) 6] x58_s20)
def V58r:=PLift.up (aI (aI (@unf (zb 45) (r [u,u,u,u]) rfl) (aI (@unf (zb 25) (r [u,u,u,z 33,z 33,z 33,z 33,y 37,y 37,y 37,y 37,y 37,z 33,u]) rfl) (@unf (zb 22) (r [u,u,v,u]) rfl))) (aI (aI (@unf (zb 74) (r [u,x,u,u,v,u,u]) rfl) (@unf (zb 72) (r [u,x,u,u,v,u,u]) rfl)) (aI (@unf (zb 55) (G [u,u,u,u,v,u,u]) rfl) (@unf (zb 3) (r [u,u,v,u]) rfl))))
theorem wc:type_of% V58r.down:=V58r.down
def V58:=PLift.up (aI (aI (aI (aI (@unf (zb 43) (r [u,v,u]) rfl) (@unf (zb 40) (X (O (r [u,u,u,u,u,u,u,z 56,z 56,z 56,z 56,z 56,z 56,z 56,z 56,v,u,u])) (zb 43)) rfl)) (aI (@unf (zb 34) (X (R [u,u,u] I) (zb 40)) rfl) (aI (@unf (zb 51) (r [u,u,u,u,u,u,v,u,u]) rfl) (@unf _ _ x58_c4.eq_1)))) (aI (aI (@unf _ _ x58_s5.eq_1) (@unf _ _ x58_s6.eq_1)) (aI (@unf _ _ x58_s7.eq_1) (aI (@unf _ _ x58_s8.eq_1) (@unf (zb 53) (r [u,v,u]) rfl))))) (aI (aI (aI (@unf _ _ x58_s10.eq_1) (@unf _ _ x58_L11.eq_1)) (aI (@unf (zb 70) (r [u,v,u]) rfl) (aI (@unf (zb 67) (X (O (G [u,u,u,u,u,u,u,u,v,u])) (zb 70)) rfl) (@unf (zb 61) (X (R [u,u,u,u,u] I) (zb 67)) rfl)))) (aI (aI (@unf _ _ x58_s15.eq_1) (aI (@unf _ _ x58_s16.eq_1) (@unf _ _ x58_s17.eq_1))) (aI (@unf _ _ x58_s18.eq_1) (aI (@unf _ _ x58_s19.eq_1) (@unf _ _ x58_s20.eq_1))))))
theorem Yw:type_of% V58.down:=V58.down
theorem r58 {args:List D} {H:AH} {R:D->AH->Prop} (h:facts args->xcode Tryz.prog x58 (args++List.replicate (139 - args.length) (.tup [])) H (VQ Tryz.prog [(.cell 6 104)] R)):ACall Tryz.prog 58 args H R:=
 yM hm Tryz.func58 rfl (by kernel_rfl) (by kernel_rfl) (by kernel_rfl) (by kernel_rfl) (by kernel_rfl) (by kernel_rfl) h
def eM:=yy Tryz.f99
def V99:=PLift.up (aI (aI (@unf (eM 22) (r [u,v,u]) rfl) (@unf (eM 13) (X (O (X (G [u,u,u,u,u,u,u,u,u,u,u,u,u,u,u]) (T (F [u])))) (eM 22)) rfl)) (aI (@unf (eM 7) (X (R [u,u,u,u,u] I) (eM 13)) rfl) (aI (@unf (eM 23) (F [u,u,u,u,z 31,z 31,z 31,z 31,z 31,z 31,z 31,v,u]) rfl) (@unf (eM 0) (R [u,u] (X (R [u] (U (eM 7))) (eM 23))) rfl))))
theorem xp:type_of% V99.down:=V99.down
theorem b99:Bt 99 40 (eM 0) [(.tmp 4)]:=bt Tryz.func99 rfl
def KW:=yy Tryz.f100
def V100:=PLift.up (aI (aI (@unf (KW 22) (r [u,v,u]) rfl) (@unf (KW 13) (X (O (R [u,u,u,u,u,u,u,u,y 21,y 21,y 21,y 21,y 21,y 21,y 21,u] (T (F [u])))) (KW 22)) rfl)) (aI (@unf (KW 7) (X (R [u,u,u,u] I) (KW 13)) rfl) (aI (@unf (KW 2) (X (R [u] (U (KW 7))) (F [u])) rfl) (@unf (KW 0) (R [u] (KW 2)) rfl))))
theorem ic:type_of% V100.down:=V100.down
theorem FC:Bt 100 30 (KW 0) [(.tmp 6)]:=bt Tryz.func100 rfl
def KD:=yy Tryz.f60
def V60:=PLift.up (aI (aI (aI (@unf (KD 34) (X (G [u,u,u,u,y 27,y 27,y 27,y 27,y 27,y 27,y 27,u,u,y 36,y 36,y 36,z 39,z 39,z 39,z 39,z 39,z 39,z 39,z 39,y 36,y 36,z 49,z 49,z 49,z 49,z 49,z 49,z 49,z 49,z 49,y 58,y 58,y 58,y 58,y 58,y 58,y 58,y 58,z 49,y 36,u]) (T (r [v,u]))) rfl) (@unf (KD 39) (r [u,v,u]) rfl)) (aI (@unf (KD 30) (X (O (R [u,u,u,v,u,u] (KD 34))) (KD 39)) rfl) (aI (@unf (KD 24) (X (R [u,u,u,u] I) (KD 30)) rfl) (@unf (KD 48) (r [x,u,u,u,u,u,v,u]) rfl)))) (aI (aI (@unf (KD 40) (X (R [u,u] (T (F [v,u]))) (KD 48)) rfl) (aI (@unf (KD 49) (r [u,v,u]) rfl) (@unf (KD 15) (X (O (R [u] (X (R [u] (U (KD 24))) (KD 40)))) (KD 49)) rfl))) (aI (@unf (KD 9) (X (R [u,u,u,u] I) (KD 15)) rfl) (aI (@unf (KD 4) (X (R [u] (U (KD 9))) (F [v,u])) rfl) (@unf (KD 0) (R [u] (R [u] (KD 4))) rfl)))))
theorem aM:type_of% V60.down:=V60.down
theorem b60:Bt 60 82 (KD 0) [(.tmp 2)]:=bt Tryz.func60 rfl
def m9:=yy Tryz.f25
def x25_s1:XC:=(.seq (.block 1 (.regV [l 104 4 17,m 3 18,m 0 19,m 5 20,a (.binOp .mul 3 (i 32) (t 20) 3) 21,a (.binOp .add 3 (i 2) (t 21) 3) 22,k2 59 19 22 22 3 23] [K3 58 17 18 23 104 3 22 24,w 104 4 24])) (m9 20))
def x25_L2:XC:=(.seq (.seq (m9 13) (C 14 .skip (.exit 0))) x25_s1)
def x25_s3:XC:=(.seq (.gh (m9 22)) .ret)
def x25_s4:XC:=(R [b (.call ⟨(.builtin .complex),#[],#[104]⟩) 9,a (.alloc 104) 4,w 104 4 9] (.seq (R [A 0 5] (.block 0 (.loop x25_L2))) x25_s3))
def x25_s5:XC:=(.seq (m9 3) x25_s4)
def x25:XC:=(R [Z 2] x25_s5)
def V25r:=PLift.up (aI (@unf (m9 13) (r [u,u,u,u,u]) rfl) (aI (@unf (m9 22) (r [u,u,v,u]) rfl) (@unf (m9 3) (r [u,u,v,u]) rfl)))
theorem Kp:type_of% V25r.down:=V25r.down
def V25:=PLift.up (aI (aI (@unf (m9 20) (r [u,v,u]) rfl) (aI (@unf _ _ x25_s1.eq_1) (@unf _ _ x25_L2.eq_1))) (aI (@unf _ _ x25_s3.eq_1) (aI (@unf _ _ x25_s4.eq_1) (@unf _ _ x25_s5.eq_1))))
theorem nR:type_of% V25.down:=V25.down
end Go.Proofs.YtgopigkdcmhbbaaGreatDoor
end
section
namespace Go.Aw
open Go Go.RowKit
theorem GO (d:D):d.view.view=d.view:=by
 have h1:∀d:D,d.view1.view1=d.view1:=fun d=>by cases d<;>rfl
 cases d<;>first|rfl|(simp only [D.view,Mx];congr 1;exact My fun d _=>h1 d)
theorem St.view (h:St K w F H t):St K w (F.map D.view) H t:=
 ⟨h.krel,h.hrel,by simpa using h.len,fun i d v hd hv=>by
  rw [Mb,Mg] at hd
  obtain ⟨d0,h1,rfl⟩:=hd
  exact (h.slot i d0 v h1 hv).rep.viewO⟩
theorem St.onward (hv:∀d∈F,d.view=d) (h:St K w F H t) (he:ExtV K w K' w') (hk:KRel K' w') (hh:HRel K' w' H'):St K' w' F H' t:=
 ⟨hk,hh,h.len,fun i d v hd hvv=>by
  have h1:=(h.slot i d v hd hvv).rep
  rw [hv d (Mh hd)] at h1
  exact (RepV.mono he h1).viewO⟩
theorem St.setP (h:St K w F H t) (hr:RepV K w d v):St K w (F.set p d) H (t.setIfInBounds p v):=by
 refine ⟨h.krel,h.hrel,by simpa using h.len,fun i d' u hd hu=>?_⟩
 rcases getElem?_set_some hd with ⟨rfl,rfl,hl⟩|⟨hne,hd⟩
 ·rw [Array.getElem?_setIfInBounds_self_of_lt (by rw [h.len];exact hl)] at hu
  obtain rfl:=Option.some.inj hu
  exact hr.viewO
 ·rw [Array.getElem?_setIfInBounds_ne hne] at hu
  exact h.slot i d' u hd hu
structure LI (K:Nat->BK) (w:World) (b1 b2:Nat) (r:Loop) (Fv:List D) (t:Array Value) (K1:Nat->BK) (W:World) (H1:AH):Prop where
 ext:ExtV K w K1 W
 own:∀b n,K b= .tok n .outer->K1 b= .tok n .outer∧W.heap[b]?=w.heap[b]?
 new:∀b n,K1 b= .tok n .outer->K b= .tok n .outer∨(n=0∧(b=b1∨b=b2∨b=w.heap.size∨b=w.heap.size+1))
 st:St K1 W Fv H1 t
 s1:K1 b1= .tok 0 .outer
 s2:K1 b2= .tok 0 .outer
 sD:K1 w.heap.size= .tok 0 .outer
 sL:K1 (w.heap.size+1)= .tok 0 .outer
 h1:W.heap[b1]?=w.heap[b1]?
 h2:W.heap[b2]?=w.heap[b2]?
 hD:W.heap[w.heap.size]?=some (.deferred (some []))
 hL:W.heap[w.heap.size+1]?=some (.loop r)
section
variable {K:Nat->BK} {w:World} {b1 b2:Nat} {r:Loop} {Fv:List D} {t:Array Value} {K1:Nat->BK} {W:World} {H1:AH}
theorem LI.step (hk0:KRel K w) (hb1:b1<w.heap.size) (hb2:b2<w.heap.size) (h:LI K w b1 b2 r Fv t K1 W H1) (ho:W'.os=W.os) (ht:W'.tape=W.tape) (hp:W'.output=W.output) (hd:W.drawn<=W'.drawn) (hz:W'.heap.size=W.heap.size)
  (hh:∀b,b≠w.heap.size+1->W'.heap[b]?=W.heap[b]?) (hl:W'.heap[w.heap.size+1]?=some (.loop r')):LI K w b1 b2 r' Fv t K1 W' H1:=by
 have hext:ExtV K1 W K1 W':=by
  refine ⟨ho,ht,⟨hp,hd⟩,Nat.le_of_eq hz.symm,fun b hb hi=>⟨hi,hh b fun e=>?_⟩,fun b n o hb hn=>⟨n,o,hb,Mn _,fun j _=>qX (hh b fun e=>?_) j⟩,fun b hb=>.inl hb⟩
  ·rw [e,h.sL] at hi;cases hi
  ·rw [e,h.sL] at hb;injection hb with hb _;omega
 have hkeep:Keep (fun o=>o= .outer) aN K1 W K1 W':=⟨hext,fun b n o hb ho=>⟨hb,hh b fun e=>ho (by rw [e,h.sL] at hb;injection hb with _ hb;exact hb.symm)⟩,fun b n hb=>hb,
  fun b hb _=>⟨hb,hh b fun e=>by rw [e,h.sL] at hb;cases hb⟩⟩
 have hst:St K1 W' Fv H1 t:=⟨fun b hb=>h.st.krel b (by omega),h.st.hrel.keep hkeep (fun b o _=>⟨fun h=>h,fun j h=>by cases h⟩),h.st.len,fun i d v hd hv=>(h.st.slot i d v hd hv).keep hkeep (fun j h=>by cases h)⟩
 have old:∀b,b<w.heap.size->W'.heap[b]?=W.heap[b]?:=fun b hb=>hh b (by omega)
 exact ⟨h.ext.trans hext,fun b n hb=>⟨(h.own b n hb).1,(old b (hk0.lt_of (by rw [hb];simp))).trans (h.own b n hb).2⟩,h.new,hst,h.s1,h.s2,h.sD,h.sL,(old b1 hb1).trans h.h1,(old b2 hb2).trans h.h2,(hh _ (by omega)).trans h.hD,hl⟩
theorem LI.start (hs:St K w F H t) (e1:qk H b1=some o1) (e2:qk H b2=some o2) (hp1:K b1= .priv) (hp2:K b2= .priv) (hsb:Sbn H1 (qI (qI H b1) b2)) (hb1:b1<w.heap.size) (hb2:b2<w.heap.size)
  (ho:W.os=w.os) (ht:W.tape=w.tape) (hp:W.output=w.output) (hd:W.drawn=w.drawn) (hz:W.heap.size=w.heap.size+2) (hh:∀b,b<w.heap.size->W.heap[b]?=w.heap[b]?) (hD:W.heap[w.heap.size]?=some (.deferred (some []))) (hL:W.heap[w.heap.size+1]?=some (.loop r)):
  ∃K1,LI K w b1 b2 r (F.map D.view) t K1 W H1:=by
 have hn1:((qI H b1).map (·.1)).Nodup:=(erase_sub.map (·.1)).nodup hs.hrel.nd
 have hn2:((qI (qI H b1) b2).map (·.1)).Nodup:=(erase_sub.map (·.1)).nodup hn1
 obtain ⟨hnd,hsub⟩:=hsb hn2
 have hmem:∀b o,(b,o)∈H1->(b,o)∈H∧b≠b1∧b≠b2:=fun b o hm=>by
  have h1:=hsub _ hm
  exact ⟨erase_sub.subset (erase_sub.subset h1),kJ hs.hrel.nd (erase_sub.subset h1),kJ hn1 h1⟩
 have kp1:∀b n o,K b= .tok n o->b≠b1∧b≠b2∧b<w.heap.size:=fun b n o hb=>⟨fun e=>(by rw [e,hp1] at hb;cases hb),fun e=>(by rw [e,hp2] at hb;cases hb),hs.krel.lt_of (by rw [hb];simp)⟩
 have hext:ExtV K w K W:=⟨ho,ht,⟨hp,Nat.le_of_eq hd.symm⟩,by omega,fun b hb hi=>⟨hi,hh b hb⟩,fun b n o hb _=>⟨n,o,hb,Mn _,fun j _=>qX (hh b (kp1 b n o hb).2.2) j⟩,fun b hb=>.inl hb⟩
 have hkeep:Keep eQ aN K w K W:=⟨hext,fun b n o hb _=>⟨hb,hh b (kp1 b n o hb).2.2⟩,fun b n hb=>hb,fun b hb _=>⟨hb,hh b (hs.krel.lt_of (by rw [hb];simp))⟩⟩
 have hv:=hs.view
 have hs1:St K w (F.map D.view) H1 t:=⟨hv.krel,⟨hnd,fun b o hm=>hs.hrel.ok b o (hmem b o hm).1⟩,hv.len,hv.slot⟩
 have hs2:St K W (F.map D.view) H1 t:=⟨fun b hb=>hs.krel b (by omega),hs1.hrel.keep hkeep (fun b o _=>⟨fun h=>h,fun j h=>by cases h⟩),hs1.len,fun i d v hd hv=>(hs1.slot i d v hd hv).keep hkeep (fun j h=>by cases h)⟩
 have hC:isC W w.heap.size=false∧isC W (w.heap.size+1)=false:=⟨by simp [isC,hD],by simp [isC,hL]⟩
 obtain ⟨K1,hK1⟩:∃K1:Nat->BK,K1=fun b=>if b=b1∨b=b2∨b=w.heap.size∨b=w.heap.size+1 then .tok 0 .outer else K b:=⟨_,rfl⟩
 have kin:∀b,(b=b1∨b=b2∨b=w.heap.size∨b=w.heap.size+1)->K1 b= .tok 0 .outer:=fun b hb=>by rw [hK1];exact if_pos hb
 have kout:∀b,¬(b=b1∨b=b2∨b=w.heap.size∨b=w.heap.size+1)->K1 b=K b:=fun b hb=>by rw [hK1];exact if_neg hb
 have ktok:∀b n o,K b= .tok n o->K1 b= .tok n o:=fun b n o hb=>by
  grind
 refine ⟨K1,⟨⟨ho,ht,⟨hp,Nat.le_of_eq hd.symm⟩,by omega,fun b hb hi=>⟨?_,hh b hb⟩,fun b n o hb _=>⟨n,o,ktok b n o hb,Mn _,fun j _=>qX (hh b (kp1 b n o hb).2.2) j⟩,fun b hb=>.inr (by have:=hs.krel.lt_of (b:=b) (by rw [hb];simp);omega)⟩,
  fun b n hb=>⟨ktok b n _ hb,hh b (kp1 b n _ hb).2.2⟩,fun b n hb=>?_,?_,kin _ (.inl rfl),kin _ (.inr (.inl rfl)),kin _ (.inr (.inr (.inl rfl))),kin _ (.inr (.inr (.inr rfl))),hh b1 hb1,hh b2 hb2,hD,hL⟩⟩
 ·grind
 ·grind
 ·refine hs2.re ⟨fun b hc h1 _=>kout b ?_,fun b n c j hb=>(ktok b n _ hb).trans hb.symm⟩ (fun b hb=>?_) fun b o hm hp=>?_
  ·grind
  ·rw [kout b (by omega)];exact hs.krel b (by omega)
  ·rw [kout b]
   ·exact hp
   ·have:=hmem b o hm
    have hlt:=hs.hrel.lt hs.krel this.1
    omega
theorem LI.round (hk0:KRel K w) (hv:∀d∈Fv,d.view=d) (h:LI K w b1 b2 r Fv t K1 W H1) (hf:FK K1 W K' W') (hs:St K' W' F' H' t') (hsb:Sbn H3 H'):
  LI K w b1 b2 r Fv t K' W' H3:=
 ⟨h.ext.trans hf.ext,fun b n hb=>⟨(hf.own b n (h.own b n hb).1).1,(hf.own b n (h.own b n hb).1).2.trans (h.own b n hb).2⟩,fun b n hb=>h.new b n (hf.new b n hb),h.st.onward hv hf.ext hs.krel (hs.sb (hsb hs.hrel.nd)).hrel,
  (hf.own _ _ h.s1).1,(hf.own _ _ h.s2).1,(hf.own _ _ h.sD).1,(hf.own _ _ h.sL).1,(hf.own _ _ h.s1).2.trans h.h1,(hf.own _ _ h.s2).2.trans h.h2,(hf.own _ _ h.sD).2.trans h.hD,(hf.own _ _ h.sL).2.trans h.hL⟩
theorem LI.finish (hk0:KRel K w) (h:LI K w b1 b2 r Fv t K1 W H1) (hb1:b1<w.heap.size) (hb2:b2<w.heap.size) (hp1:K b1= .priv) (hp2:K b2= .priv) (hs:s<=w.heap.size) (hm:Mk K w s ds):
  ∃K',FKm K w K' W∧St K' W Fv H1 t∧Mk K' W s ({target:= .collected w.heap.size,args:=#[]}::ds):=by
 obtain ⟨K',hK'⟩:∃K':Nat->BK,K'=fun b=>if b=b1∨b=b2∨b=w.heap.size+1 then .priv else K1 b:=⟨_,rfl⟩
 have kin:∀b,(b=b1∨b=b2∨b=w.heap.size+1)->K' b= .priv:=fun b hb=>by rw [hK'];exact if_pos hb
 have kout:∀b,¬(b=b1∨b=b2∨b=w.heap.size+1)->K' b=K1 b:=fun b hb=>by rw [hK'];exact if_neg hb
 have hsz:w.heap.size+1<W.heap.size:=(Array.getElem?_eq_some_iff.1 h.hL).1
 have old:∀b,b<w.heap.size->K b≠ .priv->K' b=K1 b:=fun b hb hn=>kout b (by
  rintro (e|e|e)
  ·grind
  ·grind
  ·omega)
 refine ⟨K',⟨⟨h.ext.os,h.ext.tape,h.ext.output,h.ext.size,fun b hb hi=>?_,fun b n o hb hn=>?_,fun b hb=>.inr (Nat.lt_of_lt_of_le (hk0.lt_of (by rw [hb];simp)) h.ext.size)⟩,fun b n hb=>?_,fun b n hb=>?_⟩,?_,?_⟩
 ·rw [old b hb (by rw [hi];simp)];exact h.ext.imm b hb hi
 ·rw [old b (hk0.lt_of (by rw [hb];simp)) (by rw [hb];simp)];exact h.ext.tok b n o hb hn
 ·rw [old b (hk0.lt_of (by rw [hb];simp)) (by rw [hb];simp)];exact h.own b n hb
 ·by_cases hc:b=b1∨b=b2∨b=w.heap.size+1
  ·grind
  ·rw [kout b hc] at hb
   rcases h.new b n hb with h1|⟨_,h1⟩
   ·exact .inl h1
   ·have:b=w.heap.size:=by omega
    subst this
    exact .inr ⟨Mn _,h.hD⟩
 ·have kt:∀b,b=b1∨b=b2∨b=w.heap.size+1->K1 b= .tok 0 .outer:=fun b hb=>by
   rcases hb with rfl|rfl|rfl
   ·exact h.s1
   ·exact h.s2
   ·exact h.sL
  refine h.st.re ⟨fun b hc h1 h2=>kout b fun e=>h2 (kt b e),fun b n c j hb=>kout b fun e=>by rw [kt b e] at hb;injection hb with _ hb;cases hb⟩ (fun b hb=>?_) fun b o hm hp=>?_
  ·rw [kout b (by omega)];exact h.st.krel b hb
  all_goals grind
 ·obtain ⟨Ds,d1,d2,d3⟩:=hm
  have hlt:∀D'∈Ds,D'<w.heap.size:=fun D' hD'=>(Array.getElem?_eq_some_iff.1 (d3 D' hD').2.2).1
  refine ⟨w.heap.size::Ds,List.nodup_cons.2 ⟨fun hm=>by have:=hlt _ hm;omega,d1⟩,by rw [d2];rfl,fun D' hD'=>?_⟩
  rcases List.mem_cons.1 hD' with rfl|hD'
  ·exact ⟨hs,(kout _ (by omega)).trans h.sD,h.hD⟩
  ·obtain ⟨q1,q2,q3⟩:=d3 D' hD'
   exact ⟨q1,(old D' (hlt D' hD') (by rw [q2];simp)).trans (h.own _ _ q2).1,(h.own _ _ q2).2.trans q3⟩
end
def uq (len k:Nat):Nat:=(len+k - 1) / k
def vA (a:Option Addr) (len k j:Nat):Value:=sliced a (j*k) (j*k+min k (len - j*k)) (j*k+min k (len - j*k)) 1
def CF (b1 b2:Nat) (W W':World):Prop:=W'.cell? ⟨b1,0,none⟩=W.cell? ⟨b1,0,none⟩∧W'.cell? ⟨b2,0,none⟩=W.cell? ⟨b2,0,none⟩
def DQ (P:Program) (f:FuncId):Prop:=(∀args w,(callFunc f args).run P w= .ok (.enter f args) w)∧∀(n l:Nat) (a:Option Addr) (len cap k m b1 b2:Nat),m=uq len k->0<k->k<=1000->len<=cap->len<=big->∀J:List (Fin m)->World->Prop,
 (∀pre (x:Fin m) W,J pre W->pre.length<m->YieldAt Fence.wide (n - 1) P l #[vA a len k x.val] W fun e W'=>e= .returned (.bool true)∧J (pre++ [x]) W'∧CF b1 b2 W W')->
 (∀s A,J s A->J s A.drew)->∀W:World,W.cell? ⟨b1,0,none⟩=some (.slice a len cap)->W.cell? ⟨b2,0,none⟩=some (.int .i64 k)->J [] W->
 CallsIn Fence.wide n P f #[.func (.yield l) #[] #[],.pointer (some ⟨b1,0,none⟩),.pointer (some ⟨b2,0,none⟩)] W fun e W'=>(∃v,e= .returned v)∧∃ys:List (Fin m),ys.map Fin.val=List.range m∧J ys W'
def jU (xs:List (List D)) (k j:Nat):List (List D):=(xs.drop (j*k)).take k
theorem ZZ (hk:0<k) (h:j<uq len k):j*k<len:=by
 unfold uq at h
 have:=(Nat.le_div_iff_mul_le hk).1 h
 grind
theorem Up (h:RepV K w (.slc ys) (.slice a n c)) (h1:n<=c') (h2:c'<=c):RepV K w (.slc ys) (.slice a n c'):=by
 cases h with
 | slcnil a=>
  obtain rfl:c'=0:=by omega
  exact .slcnil a
 |slc xs b off cap sz f hb hc hm hs hv hcell hone hrep=>exact .slc ys b off c' sz f hb h1 (by omega) hs hv hcell hone hrep
theorem Gw (hr:RepV K w (.slc xs) (.slice a len cap)) (hx:∀y∈xs,y.length=1) (hk:0<k) (hj:j<uq xs.length k):RepV K w (.slc (jU xs k j)) (vA a xs.length k j):=by
 have hlt:=ZZ hk hj
 obtain ⟨e1,e2,h3⟩:=Zx hr 1 (fun i x hi=>hx x (Mh hi)) (l:=j*k) (h:=j*k+min k (xs.length - j*k)) (by omega) (by omega)
 unfold sliced at h3
 rw [if_neg (by omega)] at h3
 unfold vA sliced
 rw [if_neg (by omega)]
 have hl:(xs.take (j*k+min k (xs.length - j*k))).drop (j*k)=jU xs k j:=by
  unfold jU
  rw [List.drop_take,List.take_eq_take_iff,List.length_drop]
  omega
 rw [hl] at h3
 exact Up h3 (Mn _) (by omega)
theorem rN (h:Ug asg=some (p,t)) {K:Act->World->Prop} (hK:K (a.put (some t) (a.eval (.tmp p))) W):asg.wpIn (Fence.wide.inRound l) n P (Exit.then K (fun _ _ _=>False)) a W:=by
 unfold Ug at h
 split at h
 ·rename_i id ops
  split at h
  ·rename_i o hops
   split at h
   ·rename_i p' t' ho hd hg
    cases h
    refine wpIn_region_list ?_
    rw [hops]
    unfold wpListIn
    rw [if_pos (by simp [Region.wanted,hg])]
    refine cJ (by simp [ui,ho]) ?_
    unfold Oper.wp
    rw [show (execOp a.eval o).run P W= .ok (.value (a.eval (.tmp p))) W by simp [execOp,ho]]
    simp only [Oper.upon,hd]
    exact hK
   ·cases h
  ·cases h
 ·cases h
theorem XRF.chunk {P:Program} (hm:P.follows .mixedOrders=true) {f:FuncId} (hit:DQ P f) {s p t:Tmp} {x:XC} {F:List D} {H:AH} {Q:AQ} {b1 b2 k:Nat} {xs:List (List D)} (hg:rv F (.tmp s)= .fn f [.ptr b1 0,.ptr b2 0]) (hp:p<F.length)
  (e1:qk H b1=some (.cells [.slc xs])) (e2:qk H b2=some (.cells [.int .i64 k])) (hk:0<k) (hk2:k<=1000) (hx:∀y∈xs,y.length=1) (Inv:List Nat->AH->Prop) (H0:AH) (hsb:Sbn H0 (qI (qI H b1) b2)) (h0:Inv [] H0)
  (hbody:∀(pre:List Nat) (j:Nat) (H':AH),Inv pre H'->j<uq xs.length k->pre.length<uq xs.length k->fact (.slc (jU xs k j))->xcode P x (((F.map D.view).set p (.slc (jU xs k j))).set t (.slc (jU xs k j))) H' (QE (fun _ H''=>∃H3,Sbn H3 H''∧Inv (pre++ [j]) H3) (fun _ _ _=>False)))
  (hdone:∀H',Inv (List.range (uq xs.length k)) H'->Q .normal (F.map D.view) H'):XRF P (.tmp s) p t x F H Q:=by
 intro ps asg c hps hasg hc ho hv hib hdb K w a s0 hs hd
 obtain ⟨vs,hev,hsz,hvs⟩:=(hg▸hs.rep (x:= .tmp s) rfl).fn_inv rfl
 have hvs2:vs=#[.pointer (some ⟨b1,0,none⟩),.pointer (some ⟨b2,0,none⟩)]:=by
  have hz:vs.size=2:=hsz
  have q0:=(hvs 0 _ _ rfl (Mt (show 0<vs.size by omega))).ptr_inv
  have q1:=(hvs 1 _ _ rfl (Mt (show 1<vs.size by omega))).ptr_inv
  grind
 obtain ⟨hp1,c1,T1,hh1,hz1,hr1⟩:=hs.hrel.ok b1 _ (qR e1)
 obtain ⟨hp2,c2,T2,hh2,hz2,hr2⟩:=hs.hrel.ok b2 _ (qR e2)
 obtain ⟨u1,hu1,_,hru1⟩:=hr1 0 _ rfl
 obtain ⟨u2,hu2,_,hru2⟩:=hr2 0 _ rfl
 have hru1':RepV K w (.slc xs) u1:=hru1
 obtain ⟨a0,cap,rfl,hlc,hcm⟩:=hru1'.slc_form
 obtain ⟨rfl,_⟩:=(show RepV K w (.int .i64 k) u2 from hru2).int_inv
 have hb1:=(Array.getElem?_eq_some_iff.1 hh1).1
 have hb2:=(Array.getElem?_eq_some_iff.1 hh2).1
 have hcell1:w.cell? ⟨b1,0,none⟩=some (.slice a0 xs.length cap):=by rw [jT hh1];exact hu1
 have hcell2:w.cell? ⟨b2,0,none⟩=some (.int .i64 k):=by rw [jT hh2];exact hu2
 obtain rfl:ps=#[p]:=by
  grind
 have hvv:∀d∈F.map D.view,d.view=d:=fun d hd=>by
  grind [GO]
 refine (wpIn_wide (n:=3)).1 (wpIn_rangeFunc fun fn _=>?_)
 obtain ⟨r,hr⟩:∃r:Loop,r={state:= .ready,pending:=none,fn,tmps:=a.tmps,params:=#[p],assign:=asg,body:=c,defers:=w.heap.size}:=⟨_,rfl⟩
 obtain ⟨W1,hW1⟩:∃W1,(w.alloc (.deferred (some []))).alloc (.loop r)=W1:=⟨_,rfl⟩
 have hl1:W1.heap[w.heap.size+1]?=some (.loop r):=by
  rw [<-hW1];have:=World.alloc_heap_new (w.alloc (.deferred (some []))) (.loop r);rwa [World.size_alloc] at this
 have hd1:W1.heap[w.heap.size]?=some (.deferred (some [])):=by
  rw [<-hW1];exact (Below.heap_alloc _ _ _ (by simp)).trans (World.alloc_heap_new w _)
 have hold:∀b,b<w.heap.size->W1.heap[b]?=w.heap[b]?:=fun b hb=>by
  rw [<-hW1];exact (Below.heap_alloc _ _ _ (by simp;omega)).trans (Below.heap_alloc _ _ _ hb)
 have hsz1:W1.heap.size=w.heap.size+2:=by rw [<-hW1];simp
 have hos1:W1.os=w.os∧W1.tape=w.tape∧W1.output=w.output∧W1.drawn=w.drawn:=by rw [<-hW1];exact ⟨rfl,rfl,rfl,rfl⟩
 refine ⟨w.heap.size+1,[{target:= .collected w.heap.size,args:=#[]}],W1,{target:= .fn (.func f) vs,args:=#[.func (.yield (w.heap.size+1)) #[] #[]]},W1,f,#[.func (.yield (w.heap.size+1)) #[] #[]]++vs,W1,?_,?_,fun _ _=>trivial,?_,fun _=>by omega,?_⟩
 ·rw [<-hW1,hr];exact run_enterLoop_outer _ _ _ _ _
 ·simp only [resolve,hev]
  simp [go_sem]
 ·simp [invoke,go_sem,hit.1]
 ·subst hvs2
  have hput:∀{r1:Loop} {K1:Nat->BK} {W:World} {H1:AH} (r2:Loop),LI K w b1 b2 r1 (F.map D.view) a.tmps K1 W H1->LI K w b1 b2 r2 (F.map D.view) a.tmps K1 (W.putObj (w.heap.size+1) (.loop r2)) H1:=fun r2 g=>
   g.step hs.krel hb1 hb2 rfl rfl rfl (Mn _) (by simp [World.putObj]) (fun b hb=>World.putObj_heap_other hb) (World.putObj_heap_same (Array.getElem?_eq_some_iff.1 g.hL).1)
  refine (hit.2 _ (w.heap.size+1) a0 xs.length cap k _ b1 b2 rfl hk hk2 hlc hru1'.slc_big (fun pre W=>∃K1 H1,Inv (pre.map Fin.val) H1∧LI K w b1 b2 r (F.map D.view) a.tmps K1 W H1) ?_ ?_ W1
   ((qX (hold b1 hb1) 0).trans hcell1) ((qX (hold b2 hb2) 0).trans hcell2) (let ⟨K1,h⟩:=LI.start hs e1 e2 hp1 hp2 hsb hb1 hb2 hos1.1 hos1.2.1 hos1.2.2.1 hos1.2.2.2 hsz1 hold hd1 hl1;⟨K1,H0,h0,h⟩)).mono ?_
  ·rintro pre j W ⟨K1,H1,g1,g2⟩ hlen
   have hy:=run_yield (P:=P) (args:=#[vA a0 xs.length k j.val]) g2.hL (by rw [hr];rfl)
   refine ⟨r.fn,_,r.assign,r.body,hy,roundIn_of_wpIn trivial ?_⟩
   have he:Act.eval {tmps:=a.tmps.setIfInBounds p (vA a0 xs.length k j.val),defers:= []} (.tmp p)=vA a0 xs.length k j.val:=by
    have hlt:p<a.tmps.size:=by rw [hs.len];exact hp
    simp [Act.eval,hlt]
   have htm:(Array.zip r.params #[vA a0 xs.length k j.val]).foldl (fun t (p,v)=>t.setIfInBounds p v) r.tmps=a.tmps.setIfInBounds p (vA a0 xs.length k j.val):=by rw [hr];simp
   rw [htm]
   have hra:r.assign=asg:=by rw [hr]
   have hrb:r.body=c:=by rw [hr]
   rw [hra,hrb]
   refine rN hasg ?_
   rw [he]
   refine ⟨_,run_beginRound g2.hL (by rw [hr]),?_⟩
   have g3:=hput {r with state:= .busy} g2
   have hrep:RepV K1 (W.putObj (w.heap.size+1) (.loop {r with state:= .busy})) (.slc (jU xs k j.val)) (vA a0 xs.length k j.val):=Gw (RepV.mono g3.ext hru1') hx hk j.isLt
   refine wpIn_mono (oD hm x c _ H1 _ hib hdb hc ho hv (fun _ _ h=>h) (hbody (pre.map Fin.val) j.val H1 g1 j.isLt (by simpa using hlen) hrep.fact) K1 _ _ ((g3.st.setP hrep).setP hrep)) fun e a' W' ⟨F',H',K',q1,q2,q3⟩=>?_
   cases e with
   | normal=>
    obtain ⟨H3,q4,q5⟩:=q1
    have g4:=g3.round hs.krel hvv q2 q3 q4
    refine ⟨_,_,run_endRound none g4.hL,rfl,⟨K',H3,by simpa using q5,?_⟩,?_⟩
    ·have hrr:({({r with state:= .busy}:Loop) with state:=if (none:Option Code).isNone then .ready else .done,pending:=none}:Loop)=r:=by
      rw [hr];rfl
     rw [hrr]
     exact hput r g4
    ·have o1:∀b,b<w.heap.size->((W'.putObj (w.heap.size+1) (.loop {({r with state:= .busy}:Loop) with state:=if (none:Option Code).isNone then .ready else .done,pending:=none})).heap[b]?=W'.heap[b]?):=fun b hb=>World.putObj_heap_other (by omega)
     exact ⟨qX ((o1 b1 hb1).trans (g4.h1.trans g2.h1.symm)) 0,qX ((o1 b2 hb2).trans (g4.h2.trans g2.h2.symm)) 0⟩
   |_=>exact q1.elim
  ·rintro pre W ⟨K1,H1,g1,g2⟩
   exact ⟨K1,H1,g1,g2.step hs.krel hb1 hb2 rfl rfl rfl (Nat.le_succ _) rfl (fun _ _=>rfl) g2.hL⟩
  ·rintro e W2 ⟨⟨v,rfl⟩,ys,hS,K1,H1,g1,g2⟩
   rw [hS] at g1
   refine ⟨none,W2.putObj (w.heap.size+1) (.loop {r with state:= .exhausted}),?_,?_⟩
   ·have:=run_endLoop (P:=P) g2.hL (by rw [hr];simp)
    grind
   ·obtain ⟨K',q1,q2,q3⟩:=(hput _ g2).finish hs.krel hb1 hb2 hp1 hp2 hd.1 hd.2
    exact ⟨_,H1,K',hdone H1 g1,q1,q2,Nat.le_trans hd.1 q1.ext.size,q3⟩
theorem XRF.chunkK {P:Program} (hm:P.follows .mixedOrders=true) {f:FuncId} (hit:DQ P f) {s p t:Tmp} {x:XC} {F:List D} {H:AH} {Q:AQ} {b1 b2 k:Nat} {xs:List (List D)} (hg:rv F (.tmp s)= .fn f [.ptr b1 0,.ptr b2 0]) (hp:p<F.length)
  (e1:qk H b1=some (.cells [.slc xs])) (e2:qk H b2=some (.cells [.int .i64 k])) (hk:0<k) (hk2:k<=1000) (hx:∀y∈xs,y.length=1) (Inv:List Nat->AH->Prop) (H0:AH) (hsb:Sbn H0 (qI (qI H b1) b2)) (h0:Inv [] H0)
  (hbody:∀(pre:List Nat) (j:Nat) (H':AH),Inv pre H'->j<uq xs.length k->pre.length<uq xs.length k->fact (.slc (jU xs k j))->∀K:AQ,(∀F' H'' H3,Sbn H3 H''->Inv (pre++ [j]) H3->K .normal F' H'')->xcode P x (((F.map D.view).set p (.slc (jU xs k j))).set t (.slc (jU xs k j))) H' K)
  (hdone:∀H',Inv (List.range (uq xs.length k)) H'->Q .normal (F.map D.view) H'):XRF P (.tmp s) p t x F H Q:=
 XRF.chunk hm hit hg hp e1 e2 hk hk2 hx Inv H0 hsb h0 (fun pre j H' h1 h2 h3 h4=>hbody pre j H' h1 h2 h3 h4 _ fun F' H'' H3 g1 g2=>⟨H3,g1,g2⟩) hdone
end Go.Aw
end
section
namespace Go.Proofs.YtgopigkdcmhbbaaGreatDoor
open Go Go.Aw Go.RowKit Go.Shelf
attribute [local go_sem] Oper.semAt_some
def Same (x y:Nat):Prop:=x=y
theorem d9 (n:Nat) (l b1 b2 len cap k m:Nat) (a:Option Addr) (hm0:m=uq len k) (hk:0<k) (hk2:k<=1000) (hlc:len<=cap) (hlb:len<=big) (J:List (Fin m)->World->Prop)
  (hY:∀pre (x:Fin m) W,J pre W->pre.length<m->YieldAt Fence.wide (n - 1) Tryz.prog l #[vA a len k x.val] W fun e W'=>
   e= .returned (.bool true)∧J (pre++ [x]) W'∧CF b1 b2 W W')
  (hJd:∀s A,J s A->J s A.drew) (W:World) (hB1:W.cell? ⟨b1,0,none⟩=some (.slice a len cap)) (hB2:W.cell? ⟨b2,0,none⟩=some (.int .i64 k)) (h0:J [] W):
  CallsIn Fence.wide n Tryz.prog 117 #[.func (.yield l) #[] #[],.pointer (some ⟨b1,0,none⟩),.pointer (some ⟨b2,0,none⟩)] W fun e W'=>(∃v,e= .returned v)∧
   ∃ys:List (Fin m),ys.map Fin.val=List.range m∧J ys W':=by
 have hmo:Tryz.prog.follows .mixedOrders=true:=by kernel_rfl
 refine callsIn_of_wp Tryz.func117 rfl trivial ?_ rfl
 simp only [Tryz.ntmps117,List.size_toArray,List.length_cons,List.length_nil,Nat.reduceAdd,Nat.reduceSub,Array.replicate_succ,Array.replicate_zero,List.push_toArray,List.append_toArray,Mw,List.cons_append]
 gi_wp2
 gi_loopw [4] (fun i wr=>∃(c i0:Nat) (pre:List (Fin m)),c<=m∧Same i0 (c*k)∧i0<=len+k∧i= .int .i64 i0∧pre.map Fin.val=List.range c∧J pre wr∧CF b1 b2 W wr)
  (fun i _=>len+k - (intOf i).toNat)
 case atStart=>exact ⟨0,0,[],Nat.zero_le _,by simp [Same],Nat.zero_le _,rfl,rfl,h0,rfl,rfl⟩
 case round=>
  obtain ⟨c,i0,pre,hc,hi0,hile,rfl,hpre,hJs,hk1,hk3⟩:=hrel
  have hc1:wr.cell? ⟨b1,0,none⟩=some (.slice a len cap):=hk1.trans hB1
  have hc2:wr.cell? ⟨b2,0,none⟩=some (.int .i64 k):=hk3.trans hB2
  have hbig:=qn
  by_cases hlt:i0<len
  ·have hcm1:c<m:=by
    unfold Same at hi0
    subst hm0 hi0
    unfold uq
    refine (Nat.le_div_iff_mul_le hk).2 ?_
    rw [Nat.succ_mul]
    omega
   have hlt':(i0:Int)<len:=by omega
   obtain ⟨e0,he0⟩:∃e0,e0=min k (len - i0):=⟨_,rfl⟩
   have he1:min (k:Int) (len - i0:Nat)=e0:=by omega
   have he2:0<e0:=by omega
   have he3:i0+e0<=len:=by omega
   obtain ⟨fn,tmps,assign,body,hy,hR⟩:=hY _ (⟨c,hcm1⟩:Fin m) wr.drew (hJd _ _ hJs) (by have:=congrArg List.length hpre;simp at this;omega)
   unfold vA at hy
   dsimp only at hy
   rw [<-show i0=c*k from hi0,<-he0] at hy
   have hyA:∀x:Nat,e0=x->(Instr.yield l #[Value.slice (Option.map (fun y=>y.add i0) a) (((i0:Int)+(x:Int)).toNat - i0) (((i0:Int)+(x:Int)).toNat - i0)]).run Tryz.prog wr.drew= .ok (.round l fn tmps assign body) wr.drew:=fun x hx=>by
    rw [<-hy,<-hx]
    unfold sliced
    rw [if_neg (by omega),show ((i0:Int)+(e0:Int)).toNat=i0+e0 by omega,Nat.mul_one]
   clear hy
   have hd1:wr.drew.cell? ⟨b1,0,none⟩=some (.slice a len cap):=hc1
   have hd2:wr.drew.cell? ⟨b2,0,none⟩=some (.int .i64 k):=hc2
   gi_wp2
   gi_region_o
   all_goals gi_wp2
   all_goals
    rw [hyA _ (by omega)]
    refine ⟨fun h=>(by cases h),hR.mono ?_⟩
    rintro e W3 ⟨rfl,hJ3,hk5,hk6⟩
    ·have hc3:W3.cell? ⟨b1,0,none⟩=some (.slice a len cap):=hk5.trans hd1
     have hc4:W3.cell? ⟨b2,0,none⟩=some (.int .i64 k):=hk6.trans hd2
     gi_wp2
     go_roundw
     case rel=>exact ⟨c+1,i0+k,pre++ [⟨c,hcm1⟩],by omega,by unfold Same at*;rw [hi0,Nat.succ_mul],by omega,by simp,by rw [Mm,hpre,Mu];rfl,hJ3,hk5.trans hk1,hk6.trans hk3⟩
     case measure=>simp [intOf];omega
  ·have hcm2:c=m:=by
    refine Nat.le_antisymm hc (Nat.le_of_not_lt fun h=>hlt ?_)
    rw [show i0=c*k from hi0]
    exact ZZ hk (hm0▸h)
   have hlt':¬((i0:Int)<len):=by omega
   gi_wp2
   go_end0
   exact ⟨⟨_,rfl⟩,pre,hpre.trans (by rw [hcm2,<-hm0]),hJs⟩
theorem lW:DQ Tryz.prog 117:=by
 refine ⟨enters_of Tryz.func117 (by kernel_rfl) rfl,fun n l a len cap k m b1 b2 hm hk hk2 hlc hlb J hY hJd W h1 h2 h0=>?_⟩
 exact d9 n l b1 b2 len cap k m a hm hk hk2 hlc hlb J hY hJd W h1 h2 h0
end Go.Proofs.YtgopigkdcmhbbaaGreatDoor
end
section
namespace Go.Proofs.YtgopigkdcmhbbaaGreatDoor
open Go Go.Aw
abbrev W:=UInt32
def wD (x:W):D:= .int .u32 (x.toNat:Int)
theorem W.lt (x:W):x.toNat<4294967296:=x.toNat_lt
theorem vK (x y:W):bits .xor .u32 (x.toNat:Int) (y.toNat:Int)=((x ^^^ y).toNat:Int):=by rw [u32_xor_nat _ _ x.lt y.lt,UInt32.toNat_xor]
theorem Zu (x y:W):bits .and .u32 (x.toNat:Int) (y.toNat:Int)=((x&&&y).toNat:Int):=by rw [u32_and_nat _ _ x.lt y.lt,UInt32.toNat_and]
theorem fu (x y:W):bits .or .u32 (x.toNat:Int) (y.toNat:Int)=((x|||y).toNat:Int):=by rw [u32_or_nat _ _ x.lt y.lt,UInt32.toNat_or]
theorem oF (x y:W):IntKind.u32.wrap ((x.toNat:Int)+(y.toNat:Int))=((x+y).toNat:Int):=by
 rw [IntKind.wrap_u32',UInt32.toNat_add];omega
theorem tU (x:W):bits .xor .u32 IntKind.u32.max (x.toNat:Int)=((x ^^^ 0xffffffff).toNat:Int):=by
 have h:IntKind.u32.max=((0xffffffff:W).toNat:Int):=by decide
 rw [h,vK,UInt32.xor_comm]
theorem mM (x:W):bits .xor .u32 (if IntKind.u32.signed=true then -1 else IntKind.u32.max) (x.toNat:Int)=((x ^^^ 0xffffffff).toNat:Int):=tU x
theorem Yd (x:W) (k:Nat) (hk:k<32):IntKind.u32.wrap ((x.toNat:Int)*2 ^ k)=((x<<<UInt32.ofNat k).toNat:Int):=by
 rw [IntKind.wrap_u32',UInt32.toNat_shiftLeft,Nat.shiftLeft_eq]
 have h:(UInt32.ofNat k).toNat % 32=k:=by rw [UInt32.toNat_ofNat'];omega
 rw [h]
 have h2:((2:Int) ^ k)=((2 ^ k:Nat):Int):=by simp
 rw [h2,<-Int.natCast_mul]
 omega
theorem Yo (x:W) (k:Nat) (hk:k<32):((x.toNat:Int)).fdiv (2 ^ k)=((x>>>UInt32.ofNat k).toNat:Int):=by
 rw [UInt32.toNat_shiftRight,Nat.shiftRight_eq_div_pow]
 have h:(UInt32.ofNat k).toNat % 32=k:=by rw [UInt32.toNat_ofNat'];omega
 rw [h]
 have h2:((2:Int) ^ k)=((2 ^ k:Nat):Int):=by simp
 rw [h2,Int.fdiv_eq_ediv_of_nonneg _ (Mf _)]
 exact (Int.natCast_ediv _ _).symm
def rotr (x:W) (n:Nat):W:=(x>>>UInt32.ofNat n)|||(x<<<UInt32.ofNat (32 - n))
theorem lA (x:UInt8):IntKind.u32.wrap (x.toNat:Int)=((x.toUInt32).toNat:Int):=by
 rw [IntKind.wrap_u32',UInt8.toNat_toUInt32]
 have:=x.toNat_lt
 omega
theorem EJ (x:W):IntKind.u32.wrap ((x.toNat:Int)*2 ^ min (Int.toNat 8) IntKind.u32.bits)=((x<<<8).toNat:Int):=Yd x 8 (by decide)
theorem DT (x:W):((x.toNat:Int)).fdiv (2 ^ min (Int.toNat 3) IntKind.u32.bits)=((x>>>3).toNat:Int):=Yo x 3 (by decide)
theorem tJ (x:W):((x.toNat:Int)).fdiv (2 ^ min (Int.toNat 10) IntKind.u32.bits)=((x>>>10).toNat:Int):=Yo x 10 (by decide)
theorem cT:IntKind.bits .u32=32:=rfl
end Go.Proofs.YtgopigkdcmhbbaaGreatDoor
end
noncomputable section
namespace Go.Proofs.YtgopigkdcmhbbaaGreatDoor
open Go.Xs
open Go Go.Aw
def Gv:=yy Tryz.f148
def V148:=PLift.up (aI (@unf (Gv 4) (F [u,u,u,u,u,u,u,v,u]) rfl) (aI (@unf (Gv 2) (R [u,u,v,u] (Gv 4)) rfl) (@unf (Gv 0) (R [u] (Gv 2)) rfl)))
theorem tZ:type_of% V148.down:=V148.down
theorem FU:Bt 148 17 (Gv 0) [(.tmp 4)]:=bt Tryz.func148 rfl
def ir:=yy Tryz.f146
def V146:=PLift.up (aI (@unf (ir 2) (F [u,u,u,u,u,u,u,u,u,u,u,u,u,v,u]) rfl) (@unf (ir 0) (R [u] (ir 2)) rfl))
theorem U146:type_of% V146.down:=V146.down
theorem EZ:Bt 146 23 (ir 0) [(.tmp 8)]:=bt Tryz.func146 rfl
def wJ:=yy Tryz.f145
def V145:=PLift.up (aI (aI (aI (@unf (wJ 38) (r [u,u,u,u,u,u,u,v,u,u]) rfl) (aI (@unf (wJ 34) (X (O (R [u,v,u] (wJ 38))) (r [u,u])) rfl) (@unf (wJ 28) (R [u] (X I (wJ 34))) rfl))) (aI (@unf (wJ 23) (X (R [u,u,u,u,u,u,u,u,u] (U (wJ 28))) (.exit _)) rfl) (aI (@unf (wJ 48) (G [u,u,u,u,u,u,u,u,u,u,u,u,u,v,u,u]) rfl) (@unf (wJ 46) (R [u,u,u,u,u,u,u,v,u] (wJ 48)) rfl)))) (aI (aI (@unf (wJ 44) (R [u,u,u,u,u,u,u,v,u] (wJ 46)) rfl) (aI (@unf (wJ 42) (X (G [u,u,u,v,u,u,u,v,u,u]) (wJ 44)) rfl) (@unf (wJ 19) (X (R [u,u] (T (wJ 23))) (wJ 42)) rfl))) (aI (aI (@unf (wJ 15) (X (O (R [v,u] (wJ 19))) (r [u,u])) rfl) (@unf (wJ 9) (R [u] (X I (wJ 15))) rfl)) (aI (@unf (wJ 4) (X (R [u] (U (wJ 9))) (F [v,u])) rfl) (@unf (wJ 0) (R [u] (R [u] (wJ 4))) rfl)))))
theorem Wr:type_of% V145.down:=V145.down
theorem E3:Bt 145 79 (wJ 0) [(.cell 2 203)]:=bt Tryz.func145 rfl
def wX:=yy Tryz.f142
def x142_s11:XC:=(.seq (.regT [] [([a (.slice 180 (t 2) .none (.some (i 4)) .none) 15,a (.sliceToArrayPointer 207 (t 15)) 16,L 207 16 17,a (.slice 180 (t 2) (.some (i 4)) .none .none) 18,a (.sliceToArrayPointer 207 (t 18)) 19,L 207 19 20],a (.alloc 207) 6,false),([],a (.alloc 207) 7,false),([],w 207 6 17,false)] [] [w 207 7 20]) (.seq (R [a (.load 203 (.global 1)) 21,J 0 22] (.block 0 (.loop (wX 11)))) (wX 29)))
def x142_s12:XC:=(.seq (wX 3) x142_s11)
def Ab:XC:=(R [B 180 0 2,a (.alloc 180) 4] x142_s12)
def V142r:=PLift.up (aI (@unf (wX 3) (r [u,v,u,u]) rfl) trivial)
theorem vr:type_of% V142r.down:=V142r.down
def V142:=PLift.up (aI (aI (aI (@unf (wX 27) (r [u,u,u,u,u,u,u,u,u,v,u]) rfl) (aI (@unf (wX 25) (R [u,u,u,u,u,u,u,u,u,u,v,u] (wX 27)) rfl) (@unf (wX 23) (X (G [u,u,u,u,u,u,u,u,u,u,u,u,u,u,u,u,u,u,u,u,v,u]) (wX 25)) rfl))) (aI (@unf (wX 21) (X (G [u,u,u,u,u,u,u,u,u,u,u,u,u,u,u,u,u,u,u,u,u,u,u,u,v,u]) (wX 23)) rfl) (aI (@unf (wX 17) (X (O (R [v,v,u,u] (wX 21))) (r [u,u])) rfl) (@unf (wX 11) (R [u] (X I (wX 17))) rfl)))) (aI (aI (@unf (wX 46) (G [u,u,u,u,u,u,u,v,u,u]) rfl) (aI (@unf (wX 44) (X (G [u,u,u,u,u,u,v,u,u]) (wX 46)) rfl) (@unf (wX 40) (X (O (R [v,u] (wX 44))) (r [u,u])) rfl))) (aI (aI (@unf (wX 34) (R [u] (X I (wX 40))) rfl) (@unf (wX 29) (X (R [u] (U (wX 34))) (F [v,u])) rfl)) (aI (@unf _ _ x142_s11.eq_1) (@unf _ _ x142_s12.eq_1)))))
theorem QS:type_of% V142.down:=V142.down
theorem ED:Bt 142 116 Ab [(.cell 4 180)]:=bt Tryz.func142 rfl
def ln:=yy Tryz.f122
def V122:=PLift.up (aI (@unf (ln 2) (F [u,v,u]) rfl) (@unf (ln 0) (R [u] (ln 2)) rfl))
theorem U122:type_of% V122.down:=V122.down
theorem EG:Bt 122 3 (ln 0) [(.cell 0 183)]:=bt Tryz.func122 rfl
def KL:=yy Tryz.f123
def x123_s4:XC:=(R [f 183 2 1 13,m 5 14,a (.slice 181 (t 13) (.some (t 14)) .none .none) 15,m 1 16,b (.call ⟨(.builtin .copy),#[t 15,t 16],#[55,9]⟩) 17,n 17 6] (KL 16))
def x123_s5:XC:=(.block 1 (.seq (KL 13) x123_s4))
def x123_L6:XC:=(.seq (R [m 1 7,a (.binOp .neq 9 (t 7) (.const (.string ⟨#[]⟩)) 9) 8] (C 8 .skip (.exit 0))) x123_s5)
def B5:XC:=(R [B 183 0 2,a (.alloc 183) 4] (.seq (.block 0 (.loop x123_L6)) (R [L 183 2 37,w 183 4 37] .ret)))
def V123r:=PLift.up (aI (@unf (KL 13) (r [u,u,u,v,u]) rfl) trivial)
theorem YB:type_of% V123r.down:=V123r.down
def V123:=PLift.up (aI (aI (@unf (KL 23) (G [u,u,u,u,v,u,u]) rfl) (aI (@unf (KL 20) (R [u,u,u,u] (T (KL 23))) rfl) (@unf (KL 18) (R [u,u,u,u,v,u,u] (KL 20)) rfl))) (aI (aI (@unf (KL 16) (R [u,u,v,u] (KL 18)) rfl) (@unf _ _ x123_s4.eq_1)) (aI (@unf _ _ x123_s5.eq_1) (@unf _ _ x123_L6.eq_1))))
theorem sn:type_of% V123.down:=V123.down
theorem F0:Bt 123 38 B5 [(.cell 4 183)]:=bt Tryz.func123 rfl
def wQ:=yy Tryz.f124
def V124:=PLift.up (aI (aI (aI (@unf (wQ 15) (O (r [x,u,v,u])) rfl) (aI (@unf (wQ 9) (X (R [u,u,u,u,u,u,u,u] I) (wQ 15)) rfl) (@unf (wQ 32) (r [x,u,u,u,u,u,u,u,v,u]) rfl))) (aI (@unf (wQ 28) (X (O (R [v,u] (wQ 32))) (r [u,u])) rfl) (aI (@unf (wQ 22) (R [u] (X I (wQ 28))) rfl) (@unf (wQ 53) (r [u,u,u,u,u,u,u,u,u,u,u,v,u,u]) rfl)))) (aI (aI (@unf (wQ 49) (X (O (R [v,u] (wQ 53))) (r [u,u])) rfl) (aI (@unf (wQ 43) (R [u] (X I (wQ 49))) rfl) (@unf (wQ 38) (X (R [u] (U (wQ 43))) (F [v,u])) rfl))) (aI (aI (@unf (wQ 34) (R [u,u,u,v,u] (R [u] (wQ 38))) rfl) (@unf (wQ 4) (R [v,u] (X (U (wQ 9)) (X (R [u] (U (wQ 22))) (wQ 34)))) rfl)) (aI (@unf (wQ 2) (R [u,u,v,u] (wQ 4)) rfl) (@unf (wQ 0) (R [u,u] (wQ 2)) rfl)))))
theorem Km:type_of% V124.down:=V124.down
theorem EW:Bt 124 58 (wQ 0) [(.cell 2 177)]:=bt Tryz.func124 rfl
def aK:=yy Tryz.f95
def x95_s6:XC:=(.seq (.regT [] [([a (k 122 #[] #[]) 9,m 0 10,a (.convert 3 5 (t 10)) 11,a (.buildSlice 55 1 #[(0,(t 11))]) 12,a (.convert 55 9 (t 12)) 13,K2 123 9 13 183 9 14],a (.alloc 183) 5,false)] [] [w 183 5 14]) (aK 4))
def x95:XC:=(R [a (.alloc 33) 4] x95_s6)
def V95:=PLift.up (aI (aI (@unf (aK 19) (G [u,u,u,u,v,u]) rfl) (aI (@unf (aK 15) (X (O (R [u,v,u] (aK 19))) (r [u,u])) rfl) (@unf (aK 9) (R [u] (X I (aK 15))) rfl))) (aI (aI (@unf (aK 23) (F [u,u,v,u]) rfl) (@unf (aK 21) (R [u,v,u,u] (aK 23)) rfl)) (aI (@unf (aK 4) (X (R [u,u,u] (U (aK 9))) (aK 21)) rfl) (@unf _ _ x95_s6.eq_1))))
theorem sR:type_of% V95.down:=V95.down
theorem b95:Bt 95 32 x95 [(.cell 4 33)]:=bt Tryz.func95 rfl
def V6:=yy Tryz.f135
def x135_s4:XC:=(.seq (.regD [a (.slice 181 (t 4) .none .none .none) 6,l 9 1 7,a (.call ⟨(.builtin .copy),#[t 6,t 7],#[55,9]⟩) 8]) (.seq (R [J 0 9] (.block 0 (.loop (V6 11)))) (V6 23)))
def Ap:XC:=(R [S 3] (R [a (.alloc 181) 4] x135_s4))
def V135:=PLift.up (aI (aI (@unf (V6 21) (r [u,u,u,u,v,u,u]) rfl) (@unf (V6 17) (X (O (R [v,u] (V6 21))) (r [u,u])) rfl)) (aI (@unf (V6 11) (R [u] (X I (V6 17))) rfl) (aI (@unf (V6 23) (F [u,v,u]) rfl) (@unf _ _ x135_s4.eq_1))))
theorem iA:type_of% V135.down:=V135.down
theorem Hw:Bt 135 21 Ap [(.tmp 3)]:=bt Tryz.func135 rfl
def Vy:=yy Tryz.f103
def x103_s3:XC:=(.seq (.regT [] [([a (k 122 #[] #[]) 25,m 6 26,a (.call ⟨(.value (t 26)),#[(.const (.int .u8 92))],#[5]⟩) 27,k2 123 25 27 183 9 28,a (.slice 177 (t 7) .none .none .none) 29,a (.convert 55 9 (t 29)) 30,k2 123 28 30 183 9 31,K1 124 31 183 32],a (.alloc 177) 8,false)] [] [w 177 8 32]) (Vy 16))
def x103_s4:XC:=(.seq (Vy 13) x103_s3)
def x103_s5:XC:=(.seq (R [l 9 2 9,e 9 9 10,q .gtr 3 10 64 11] (C 11 (Vy 6) .skip)) (R [b (.makeFunc (.func 135) #[] #[t 2]) 17,n 17 6] x103_s4))
def Bh:XC:=(R [B 9 0 2,S 4] x103_s5)
def V103r:=PLift.up (aI (@unf (Vy 13) (r [u,u,u,u,u,u,v,u,u]) rfl) trivial)
theorem oh:type_of% V103r.down:=V103r.down
def V103:=PLift.up (aI (aI (@unf (Vy 8) (r [u,v,u]) rfl) (aI (@unf (Vy 6) (R [u,u,v,u,u] (Vy 8)) rfl) (@unf (Vy 16) (F [u,v,u]) rfl))) (aI (@unf _ _ x103_s3.eq_1) (aI (@unf _ _ x103_s4.eq_1) (@unf _ _ x103_s5.eq_1))))
theorem mN:type_of% V103.down:=V103.down
theorem Fl:Bt 103 35 Bh [(.tmp 4)]:=bt Tryz.func103 rfl
def BO:=yy Tryz.f96
def V96:=PLift.up (aI (@unf (BO 2) (F [u,u,v,u]) rfl) (@unf (BO 0) (R [u] (BO 2)) rfl))
theorem U96:type_of% V96.down:=V96.down
theorem b96:Bt 96 6 (BO 0) [(.tmp 2)]:=bt Tryz.func96 rfl
def BI:=yy Tryz.f65
def V65:=PLift.up (aI (@unf (BI 2) (F [u,u,u,u,u,u,u,u,u,u,v,u]) rfl) (@unf (BI 0) (R [u] (BI 2)) rfl))
theorem U65:type_of% V65.down:=V65.down
theorem b65:Bt 65 18 (BI 0) [(.cell 6 33)]:=bt Tryz.func65 rfl
def eL:=yy Tryz.f55
def V55:=PLift.up (aI (aI (@unf (eL 16) (r [u,v,u]) rfl) (@unf (eL 13) (X (O (G [u,u,u,u,u,u,u,u,v,u])) (eL 16)) rfl)) (aI (@unf (eL 7) (X (R [u,u,u] I) (eL 13)) rfl) (aI (@unf (eL 2) (X (R [v,u] (U (eL 7))) (F [v,u])) rfl) (@unf (eL 0) (R [u,u] (eL 2)) rfl))))
theorem AA:type_of% V55.down:=V55.down
theorem b55:Bt 55 28 (eL 0) [(.cell 10 33)]:=bt Tryz.func55 rfl
def Ce:=yy Tryz.f56
def V56:=PLift.up (aI (@unf (Ce 2) (X (G [u,u,u,u,u,v,u]) .ret) rfl) (@unf (Ce 0) (R [u,u,u] (Ce 2)) rfl))
theorem U56:type_of% V56.down:=V56.down
theorem b56:Bt 56 11 (Ce 0) [(.cell 4 33)]:=bt Tryz.func56 rfl
end Go.Proofs.YtgopigkdcmhbbaaGreatDoor
end
section
namespace Go.Proofs.YtgopigkdcmhbbaaGreatDoor
open Go Go.Aw
theorem Ki {R:D->AH->Prop} (hn:0<n) (hn2:n<32) (hk:bits .and .u64 (IntKind.u64.wrap k) 31=((32 - n:Nat):Int)) (h:R (wD (rotr x n)) H):
  ACall Tryz.prog 148 [wD x,.i k] H R:=by
 refine FU fun hf=>?_
 simp+contextual only [↓tZ,wD,↓tZ,↓XP,ql,qa,qb]
 have h64:IntKind.u64.wrap (32 - ((32 - n:Nat):Int))=(n:Int):=by rw [show IntKind.u64.wrap (32 - ((32 - n:Nat):Int))=(32 - ((32 - n:Nat):Int)) % 18446744073709551616 by simp [IntKind.wrap,IntKind.bits,IntKind.signed]];omega
 rw [hk,h64]
 refine ⟨Mf _,Mf _,?_⟩
 rw [Md,Md,cT,Nat.min_eq_left (by omega),Nat.min_eq_left (by omega),Yd x _ (by omega),Yo x _ hn2,fu,UInt32.or_comm]
 exact h
theorem ma {R:D->AH->Prop} (hi:0<i∧i<32) (hj:0<j∧j<32) (hk:0<k∧k<32) (h:R (wD (rotr x i ^^^ rotr x j ^^^ rotr x k)) H):
  ACall Tryz.prog 146 [wD x,.i i,.i j,.i k] H R:=by
 have hneg:∀n:Nat,0<n∧n<32->bits .and .u64 (IntKind.u64.wrap (IntKind.i64.wrap (0 - (n:Int)))) 31=((32 - n:Nat):Int):=by
  intro n hn
  have:n=1∨n=2∨n=3∨n=4∨n=5∨n=6∨n=7∨n=8∨n=9∨n=10∨n=11∨n=12∨n=13∨n=14∨n=15∨n=16∨n=17∨n=18∨n=19∨n=20∨n=21∨n=22∨n=23∨n=24∨n=25∨n=26∨n=27∨n=28∨n=29∨n=30∨n=31:=by omega
  rcases this with rfl|rfl|rfl|rfl|rfl|rfl|rfl|rfl|rfl|rfl|rfl|rfl|rfl|rfl|rfl|rfl|rfl|rfl|rfl|rfl|rfl|rfl|rfl|rfl|rfl|rfl|rfl|rfl|rfl|rfl|rfl<;>decide
 refine EZ fun hf=>?_
 simp+contextual only [↓U146,wD,↓U146.1,↓XP,qA,qa,qb,↓XH]
 refine Ki hi.1 hi.2 (hneg i hi) ?_
 simp+contextual only [wD,↓XP,qA,↓XH]
 intro _
 refine Ki hj.1 hj.2 (hneg j hj) ?_
 simp+contextual only [wD,vK,↓XP,qA,↓XH]
 intro _
 refine Ki hk.1 hk.2 (hneg k hk) ?_
 simp+contextual only [wD,vK,↓XP,qA]
 intro _
 exact h
end Go.Proofs.YtgopigkdcmhbbaaGreatDoor
end
section
namespace Go.Aw
open Go Go.RowKit
theorem XW.loopS (hm:P.follows .mixedOrders=true) {σ:Type} (n:Nat) (fr:σ->List (Nat×D)) (hp:σ->AH) (μ:σ->Nat) (inv:σ->Prop) (s0:σ)
  (i0:inv s0) (f0:Fr n (fr s0) F) (e0:hp s0=H)
  (round:∀s (z:Nat->D),inv s->∀K:AQ,(∀s' F' H',inv s'->μ s'<μ s->Fr n (fr s') F'->back (hp s).length H'=hp s'->K .normal F' H')->(∀i F' H',Q (.exit i) F' H'->K (.exit i) F' H')->(∀F' H',Q .ret F' H'->K .ret F' H')->
   xcode P x (fl (fr s) z 0 n) (hp s) K) (hs:∀s,fso (fr s) 0 n=true:=by exact fun _=>rfl):XW P x F H Q:=by
 let I:Nat->List D->AH->Prop:=fun m F H=>∃s,inv s∧Fr n (fr s) F∧hp s=H∧μ s=m
 refine XW.loopK hm (fun F H=>∃m,I m F H) (fun F H=>open Classical in if h:∃m,I m F H then Classical.choose (least (fun m=>I m F H) h.choose h.choose_spec) else 0) ⟨_,s0,i0,f0,e0,rfl⟩ ?_
 intro F H hI K hN hE hR
 have hmin:=Classical.choose_spec (least (fun m=>I m F H) hI.choose hI.choose_spec)
 simp only [dif_pos hI] at hN
 generalize Classical.choose (least (fun m=>I m F H) hI.choose hI.choose_spec)=m at hmin hN
 obtain ⟨⟨s,h1,h2,h3,h4⟩,hl⟩:=hmin
 obtain ⟨z,rfl⟩:=h2.fl (hs _)
 subst h3 h4
 refine round s z h1 K (fun s' F' H' g1 g2 g3 g4=>hN F' H' ⟨_,s',g1,g3,g4.symm,rfl⟩ ?_) hE hR
 have hex:∃m,I m F' (back (hp s).length H'):=⟨_,s',g1,g3,g4.symm,rfl⟩
 simp only [dif_pos hex]
 have hmin':=Classical.choose_spec (least (fun m=>I m F' (back (hp s).length H')) hex.choose hex.choose_spec)
 generalize Classical.choose (least (fun m=>I m F' (back (hp s).length H')) hex.choose hex.choose_spec)=m' at hmin'
 have:m'<=μ s':=Nat.le_of_not_lt fun hlt=>hmin'.2 _ hlt ⟨s',g1,g3,g4.symm,rfl⟩
 omega
section
variable {α:Type} {f:α->List D} {l a b:List α} {i n:Nat}
theorem jJ (h:i<l.length):l.getD i d=l[i]:=by simp [h]
end
end Go.Aw
end
section
namespace Go.Proofs.YtgopigkdcmhbbaaGreatDoor
open Go Go.Aw
def bD (c:UInt8):D:= .int .u8 (c.toNat:Int)
theorem yt (x:W):wS .u32 (x.toNat:Int)=True:=eq_true (by have:=x.lt;simp [wS,Lit.wf,IntKind.min,IntKind.max,IntKind.signed,IntKind.bits];omega)
theorem bq (x:UInt8):wS .u8 (x.toNat:Int)=True:=eq_true (by have:=x.toNat_lt;simp [wS,Lit.wf,IntKind.min,IntKind.max,IntKind.signed,IntKind.bits];omega)
def uZ (m:List UInt8) (t:Nat):Nat->W
 |0=>0
 |i+1=>(uZ m t i<<<8)|||(m.getD (4*t+i) 0).toUInt32
def mr (p:W):W:=rotr p 7 ^^^ rotr p 18 ^^^ (p>>>3)
def mw (q:W):W:=rotr q 17 ^^^ rotr q 19 ^^^ (q>>>10)
def Vd (m:List UInt8) (l:List W) (t:Nat):W:=if t<16 then uZ m t 4 else l.getD (t - 16) 0+mr (l.getD (t - 15) 0)+l.getD (t - 7) 0+mw (l.getD (t - 2) 0)
def wb (m:List UInt8):Nat->List W
 |0=>[]
 |t+1=>wb m t++ [Vd m (wb m t) t]
theorem jh (m:List UInt8):∀t,(wb m t).length=t
 |0=>rfl
 |t+1=>by simp [wb,jh m t]
def arr (l:List W):List D:=l.map wD++List.replicate (64 - l.length) (wD 0)
theorem J2 (h:l.length<=64):(arr l).length=64:=by simp [arr];omega
theorem ve (h:i<l.length):(arr l)[i]?=some (wD (l.getD i 0)):=by
 rw [arr,Mj (by simpa using h),Mb,Ma h]
 simp [List.getD,Ma h]
theorem bV:(arr (l++ [x]))[l.length]?=some (wD x):=by
 rw [ve (by simp)];simp [List.getD]
theorem Gd:(arr (l++ [x])).set l.length (wD y)=arr (l++ [y]):=by
 unfold arr
 rw [List.set_append_left _ _ (by simp)]
 simp
theorem Vf (h:l.length<64):arr l=arr (l++ [0]):=by
 unfold arr
 rw [show 64 - l.length=(64 - (l++ [(0:W)]).length)+1 by simp;omega,List.replicate_succ]
 simp
theorem Wn (h:l.length<64):(arr l).set l.length (wD y)=arr (l++ [y]):=by rw [Vf h,Gd]
theorem wv (l:List W):(l.map wD).map D.view1=l.map wD:=by rw [Mx];rfl
theorem wt {l:List W} {n:Nat} (h:l.length=n):(l.map wD).take n=l.map wD:=by rw [Mo];simp [h]
theorem VV:(arr []).drop 64= []:=rfl
theorem WW (h:l.length=64):arr l=l.map wD:=by simp [arr,h]
theorem UH {m:List UInt8} {p o:Nat} {cs:List D} {H:AH} {R:D->AH->Prop} (hp:qk H p=some (.cells cs)) (hc:∀i,i<64->cs[o+i]?=some (bD (m.getD i 0))) (h:R (.agg ((wb m 64).map wD)) H):
  ACall Tryz.prog 145 [.hso p o 64] H R:=by
 refine E3 fun hf=>?_
 simp+contextual only [↓Wr,↓Wr,↓XP,ql,XW1,qa]
 have hbig:=qn
 intro b hb b1 hb1
 refine XW.loopS hmm 79 (fun t:Nat=>[(0,.hso p o 64),(2,.ptr b 0),(3,.ptr b1 0),(11,.i ((t:Nat):Int))]) (fun t=>(b1,.cells (arr (wb m t)))::(b,.cells (arr []))::H) (fun t=>64 - t) (fun t=>t<=64) 0 (by omega) ⟨rfl,rfl,rfl,rfl,rfl,trivial⟩ rfl ?_
 intro t z ht K hN hE hR
 dsimp only [fl,zz,qa,qb]
 have hpb:=qD hb hp
 have hpb1:=qD hb1.2 hp
 by_cases hlt:t<64
 ·have hlt':((t:Int)<64)=True:=qC
  by_cases h16:t<16
  ·have h16':((t:Int)<16)=True:=qC
   have w4:IntKind.i64.wrap (4*(t:Int))=((4*t:Nat):Int):=by rw [qj (by omega) (by omega)];omega
   have w5:IntKind.i64.wrap (((4*t:Nat):Int)+4)=((4*t+4:Nat):Int):=by rw [qj (by omega) (by omega)];omega
   have hz:=Vf (l:=wb m t) (by rw [jh];exact hlt)
   simp+contextual only [hlt',h16',w4,w5,Nat.mul_one,hz,show 4*t+4 - 4*t=4 by omega,↓Wr,↓J5,ql,↓XH]
   refine ⟨by omega,by omega,by omega,?_⟩
   refine XW.loopS hmm 79 (fun i:Nat=>[(0,.hso p o 64),(2,.ptr b 0),(3,.ptr b1 0),(4,.i (t:Int)),(11,.i (t:Int)),(22,.hso p (o+4*t) 4),(23,.i 4),(24,.i ((i:Nat):Int))]) (fun i=>(b1,.cells (arr (wb m t++ [uZ m t i])))::(b,.cells (arr []))::H) (fun i=>4 - i) (fun i=>i<=4) 0 (by omega) ⟨rfl,rfl,rfl,rfl,rfl,rfl,rfl,rfl,rfl,trivial⟩ rfl ?_
   intro i z hi K2 hN2 hE2 hR2
   dsimp only [fl,zz,qa,qb]
   by_cases hi4:i<4
   ·have hi4':((i:Int)<(4:Int))=True:=qC
    have g1:=hc (4*t+i) (by omega)
    rw [<-Nat.add_assoc] at g1
    have g2:=bV (l:=wb m t) (x:=uZ m t i)
    rw [jh] at g2
    simp+contextual only [hi4',Nat.mul_one,qg hpb1,qg hpb,hp,g1,g2,bD,wD,fu,EJ,lA,↓Wr,↓J5,ql]
    refine ⟨by omega,fun _=>⟨by omega,fun _=>⟨by decide,by omega,by rw [J2 (by simp [jh];omega)];omega,?_⟩⟩⟩
    have g3:=Gd (l:=wb m t) (x:=uZ m t i) (y:=uZ m t (i+1))
    rw [jh] at g3
    have g4:(D.int .u32 ↑((uZ m t i<<<8|||(m.getD (4*t+i) 0).toUInt32).toNat))=wD (uZ m t (i+1)):=rfl
    rw [qm (by omega),g4,g3]
    exact hN2 (i+1) _ _ (by omega) (by omega) ⟨rfl,rfl,rfl,rfl,rfl,rfl,rfl,rfl,rfl,trivial⟩ (qL rfl)
   ·have hi4':((i:Int)<(4:Int))=False:=qY
    obtain rfl:i=4:=by omega
    simp+contextual only [hi4',↓Wr,↓XP,qA]
    apply hE2
    simp+contextual only [↓XP,qA,XW1,qf]
    have hw:wb m t++ [uZ m t 4]=wb m (t+1):=by rw [wb,Vd,if_pos h16]
    rw [qm (by omega),hw]
    exact hN (t+1) _ _ (by omega) (by omega) ⟨rfl,rfl,rfl,rfl,rfl,trivial⟩ (qL rfl)
  ·have h16':((t:Int)<16)=False:=qY
   have w15:IntKind.i64.wrap ((t:Int) - 15)=((t - 15:Nat):Int):=by rw [qj (by omega) (by omega)];omega
   have w2:IntKind.i64.wrap ((t:Int) - 2)=((t - 2:Nat):Int):=by rw [qj (by omega) (by omega)];omega
   have w16:IntKind.i64.wrap ((t:Int) - 16)=((t - 16:Nat):Int):=by rw [qj (by omega) (by omega)];omega
   have w7:IntKind.i64.wrap ((t:Int) - 7)=((t - 7:Nat):Int):=by rw [qj (by omega) (by omega)];omega
   have g15:=ve (l:=wb m t) (i:=t - 15) (by rw [jh];omega)
   have g2:=ve (l:=wb m t) (i:=t - 2) (by rw [jh];omega)
   have g16:=ve (l:=wb m t) (i:=t - 16) (by rw [jh];omega)
   have g7:=ve (l:=wb m t) (i:=t - 7) (by rw [jh];omega)
   simp+contextual only [hlt',h16',w15,w2,g15,g2,Nat.mul_one,wD,↓Wr,↓XP,ql]
   refine ⟨by omega,fun _=>⟨by omega,fun _=>?_⟩⟩
   refine Ki (n:=7) (by decide) (by decide) (by decide) ?_
   simp+contextual only [wD,↓XP,qA]
   intro _
   refine Ki (n:=18) (by decide) (by decide) (by decide) ?_
   simp+contextual only [wD,vK,DT,↓Wr,↓XP,qA]
   refine fun _=>⟨by decide,?_⟩
   refine Ki (n:=17) (by decide) (by decide) (by decide) ?_
   simp+contextual only [wD,↓XP,qA]
   intro _
   refine Ki (n:=19) (by decide) (by decide) (by decide) ?_
   simp+contextual only [wD,vK,oF,tJ,w16,w7,g16,g7,Nat.mul_one,↓Wr,↓XP,ql]
   refine fun _=>⟨by decide,by omega,fun _=>⟨by omega,fun _=>⟨by omega,by rw [J2 (by rw [jh];omega)];omega,?_⟩⟩⟩
   have hw:wb m (t+1)=wb m t++ [(wb m t).getD (t - 16) 0+mr ((wb m t).getD (t - 15) 0)+(wb m t).getD (t - 7) 0+mw ((wb m t).getD (t - 2) 0)]:=by rw [wb,Vd,if_neg h16]
   have g3:=Wn (l:=wb m t) (y:=(wb m t).getD (t - 16) 0+mr ((wb m t).getD (t - 15) 0)+(wb m t).getD (t - 7) 0+mw ((wb m t).getD (t - 2) 0)) (by rw [jh];exact hlt)
   rw [jh,<-hw] at g3
   unfold mr mw wD at g3
   rw [qm (by omega),g3]
   exact hN (t+1) _ _ (by omega) (by omega) ⟨rfl,rfl,rfl,rfl,rfl,trivial⟩ (qL rfl)
 ·have hlt':((t:Int)<64)=False:=qY
  obtain rfl:t=64:=by omega
  simp+contextual only [hlt',↓Wr,↓XP,qA]
  apply hE
  simp+contextual only [qg hb1.1,qi hb1.1,WW (jh m 64),wt (jh m 64),wv,VV,jh,↓XP,ql,XW1]
  exact ⟨Mn _,h⟩
structure S8 where
 a:W
 b:W
 c:W
 d:W
 e:W
 f:W
 g:W
 h:W
deriving Inhabited
def S8.D (s:S8):List D:= [wD s.a,wD s.b,wD s.c,wD s.d,wD s.e,wD s.f,wD s.g,wD s.h]
def xP (s:S8) (k w:W):W:=s.h+(rotr s.e 6 ^^^ rotr s.e 11 ^^^ rotr s.e 25)+((s.e&&&s.f) ^^^ ((s.e ^^^ 0xffffffff)&&&s.g))+k+w
def yP (s:S8):W:=(rotr s.a 2 ^^^ rotr s.a 13 ^^^ rotr s.a 22)+((s.a&&&s.b) ^^^ (s.a&&&s.c) ^^^ (s.b&&&s.c))
def rnd (s:S8) (k w:W):S8:=⟨xP s k w+yP s,s.a,s.b,s.c,s.d+xP s k w,s.e,s.f,s.g⟩
def kW:List W:= [1116352408,1899447441,3049323471,3921009573,961987163,1508970993,2453635748,2870763221,3624381080,310598401,607225278,1426881987,1925078388,2162078206,2614888103,3248222580,3835390401,4022224774,264347078,604807628,770255983,1249150122,1555081692,1996064986,2554220882,2821834349,2952996808,3210313671,3336571891,3584528711,113926993,338241895,666307205,773529912,1294757372,1396182291,1695183700,1986661051,2177026350,2456956037,2730485921,2820302411,3259730800,3345764771,3516065817,3600352804,4094571909,275423344,430227734,506948616,659060556,883997877,958139571,1322822218,1537002063,1747873779,1955562222,2024104815,2227730452,2361852424,2428436474,2756734187,3204031479,3329325298]
def rnds (s:S8) (ws:List W):Nat->S8
 |0=>s
 |t+1=>rnd (rnds s ws t) (kW.getD t 0) (ws.getD t 0)
def cH (s r:S8):S8:=⟨s.a+r.a,s.b+r.b,s.c+r.c,s.d+r.d,s.e+r.e,s.f+r.f,s.g+r.g,s.h+r.h⟩
def vT (s:S8) (m:List UInt8):S8:=cH s (rnds s (wb m 64) 64)
def kD:List D:=kW.map wD
theorem Wk:kW.length=64:=rfl
theorem nE (h:t<64):kD.getD t .any=wD (kW.getD t 0):=by
 have h2:t<kW.length:=by rw [Wk];exact h
 simp [kD,List.getD,Mb,Ma h2]
theorem nj:kD.length=64:=by simp [kD,Wk]
theorem fX:kD.take 64=kD:=Mo (by simp [kD,Wk])
def de (b2 b4 b5 b6 b7:Nat) (ws:List W) (z s r:S8) (H:AH):AH:=(b6,.cells [wD r.a,wD r.b,wD r.c,wD r.d])::(b7,.cells [wD r.e,wD r.f,wD r.g,wD r.h])::(b5,.cells (ws.map wD))::(b4,.cells z.D)::(b2,.cells s.D)::H
def z8:S8:=⟨0,0,0,0,0,0,0,0⟩
def Gn (s r:S8):Nat->S8
 |0=>s
 |1=>{s with a:=s.a+r.a,e:=s.e+r.e}
 |2=>{s with a:=s.a+r.a,e:=s.e+r.e,b:=s.b+r.b,f:=s.f+r.f}
 |3=>{s with a:=s.a+r.a,e:=s.e+r.e,b:=s.b+r.b,f:=s.f+r.f,c:=s.c+r.c,g:=s.g+r.g}
 |_=>cH s r
theorem sj {b4 b5 b6 b7} (n54:¬b4=b5) (n52:¬b2=b5) (n42:¬b2=b4) (n75:¬b5=b7) (n74:¬b4=b7) (n72:¬b2=b7) (n67:¬b7=b6) (n65:¬b5=b6) (n64:¬b4=b6) (n62:¬b2=b6) (hwl:ws.length=64) (hF:Fr 116 [(2,.ptr b2 0),(4,.ptr b4 0),(5,.ptr b5 0),(6,.ptr b6 0),(7,.ptr b7 0),(21,.agg kD),(22,.i 0)] F) 
  (hQ:∀F' t,t=64->Fr 116 [(2,.ptr b2 0),(4,.ptr b4 0),(6,.ptr b6 0),(7,.ptr b7 0)] F'->Q (.exit 0) F' (de b2 b4 b5 b6 b7 ws z8 s (rnds s ws t) H)):XW Tryz.prog (wX 11) F (de b2 b4 b5 b6 b7 ws z8 s s H) Q:=by
 have hbig:=qn
 refine XW.loopS hmm 116 (fun t:Nat=>[(2,.ptr b2 0),(4,.ptr b4 0),(5,.ptr b5 0),(6,.ptr b6 0),(7,.ptr b7 0),(21,.agg kD),(22,.i ((t:Nat):Int))]) (fun t=>de b2 b4 b5 b6 b7 ws z8 s (rnds s ws t) H) (fun t=>64 - t) (fun t=>t<=64) 0 (by omega) hF rfl ?_
 intro t z ht K hN hE hR
 dsimp only [fl,zz,qa,qb]
 by_cases hlt:t<64
 ·have hlt':((t:Int)<64)=True:=qC
  have hr1:rnds s ws (t+1)=rnd (rnds s ws t) (kW.getD t 0) (ws.getD t 0):=rfl
  have hk:=nE hlt
  have hw:(ws.map wD)[t]?=some (wD (ws.getD t 0)):=by
   have h2:t<ws.length:=by omega
   simp [List.getD,Mb,Ma h2]
  generalize kW.getD t 0=kk at hk hr1
  generalize ws.getD t 0=ww at hw hr1
  generalize rnds s ws t=r at hr1
  unfold de
  simp+contextual only [wD,Nat.mul_one,Mp,yt,Mq,Mr,Mc,nj,hlt',hk,qg,n67,↓QS,↓vr,↓XP,ql,XW1,↓XH]
  refine ⟨_,fun _ _=>ma (i:=6) (j:=11) (k:=25) (by decide) (by decide) (by decide) ⟨rfl,rfl⟩,?_⟩
  simp+contextual only [wD,Nat.mul_one,Mp,vK,Zu,oF,mM,yt,Mq,Mr,Mc,hw,hlt',qg,n75,n67,n65,↓QS,↓vr,↓XP,ql,XW1,↓XH]
  refine ⟨_,fun _ _=>ma (i:=2) (j:=13) (k:=22) (by decide) (by decide) (by decide) ⟨rfl,rfl⟩,?_⟩
  simp+contextual only [wD,Nat.mul_one,Mp,vK,Zu,oF,yt,Mq,Mr,Mc,qg,qi,n67,↓QS,↓vr,↓XP,ql,XW1,qb,qe]
  rw [qm (by omega)]
  refine hN (t+1) _ _ (by omega) (by omega) ⟨rfl,rfl,rfl,rfl,rfl,rfl,rfl,rfl,trivial⟩ ?_
  show back _ _=de _ _ _ _ _ _ _ _ (rnds s ws (t+1)) H
  rw [hr1]
  exact qL rfl
 ·have ht64:t=64:=by omega
  have hlt':((t:Int)<64)=False:=qY
  simp+contextual only [hlt',↓QS,↓vr,↓XP,qA]
  exact hE _ _ _ (hQ _ t ht64 ⟨rfl,rfl,rfl,rfl,rfl,trivial⟩)
theorem Uz {R:D->AH->Prop} (hg:qk H 1=some (.cst kD)) (hp:qk H p=some (.cells cs)) (hc:∀i,i<64->cs[o+i]?=some (bD (m.getD i 0))) (h:R (.agg (vT s m).D) H):
  ACall Tryz.prog 142 [.agg s.D,.hso p o 64] H R:=by
 refine ED fun hf=>?_
 have hbig:=qn
 simp+contextual only [Ab,↓QS,↓vr,↓J5,ql,XW1,qa,qb]
 intro b2 h2 b4 h4
 have hp2:=qD h2 hp
 have hp4:=qD h4.2 hp
 refine UH (m:=m) (cs:=cs) (by rw [qg hp4,qg hp2];exact hp) hc ?_
 simp+contextual only [↓QS,↓vr,↓J5,ql,XW1,qb,qc,qe,↓XH]
 have hsd:s.D= [wD s.a,wD s.b,wD s.c,wD s.d,wD s.e,wD s.f,wD s.g,wD s.h]:=rfl
 intro b5 h5
 obtain ⟨n54,n52,f5⟩:=h5
 obtain ⟨n42,f4⟩:=h4
 simp+contextual only [hsd,wD,Nat.mul_one,Nat.sub_zero,Mp,qg,qi,n52,n42,↓vr,↓J5,ql,XW1,qa,qb,qe,qf,↓XH]
 refine ⟨jh m 64,by decide,by decide,by decide,by decide,by decide,by decide,by decide,?_⟩
 intro b7 h7 b6 h6
 obtain ⟨n75,n74,n72,f7⟩:=h7
 obtain ⟨n67,n65,n64,n62,f6⟩:=h6
 have g2:=qD h2 hg
 have g4:=qD f4 hg
 have g5:=qD f5 hg
 have g6:=qD f6 hg
 have g7:=qD f7 hg
 simp+contextual only [hg,fX,qg,g2,g4,g5,g6,g7,↓vr,↓XP,qA,XW1,↓XH]
 refine ⟨by decide,?_⟩
 have hwl:=jh m 64
 generalize hws:wb m 64=ws at hwl
 refine sj n54 n52 n42 n75 n74 n72 n67 n65 n64 n62 hwl ⟨rfl,rfl,rfl,rfl,rfl,rfl,rfl,rfl,trivial⟩ fun F' t ht64 hF'=>?_
 obtain ⟨z,rfl⟩:=hF'.lit
 simp+contextual only [↓QS,↓vr,↓XP,qA,XW1]
 have hcp:cH s (rnds s ws t)=vT s m:=by rw [vT,hws,ht64]
 generalize rnds s ws t=r at hcp
 refine XW.loopS hmm 116 (fun i:Nat=>[(2,.ptr b2 0),(4,.ptr b4 0),(6,.ptr b6 0),(7,.ptr b7 0),(94,.i ((i:Nat):Int))]) (fun i=>de b2 b4 b5 b6 b7 ws z8 (Gn s r i) r H) (fun i=>4 - i) (fun i=>i<=4) 0 (by omega) ⟨rfl,rfl,rfl,rfl,rfl,rfl,trivial⟩ rfl ?_
 intro i z hi K2 hN2 hE2 hR2
 dsimp only [fl,zz,qa,qb]
 have v0:IntKind.i64.wrap (0+4)=4:=by decide
 have v1:IntKind.i64.wrap (1+4)=5:=by decide
 have v2:IntKind.i64.wrap (2+4)=6:=by decide
 have v3:IntKind.i64.wrap (3+4)=7:=by decide
 have u0:IntKind.i64.wrap (0+1)=1:=by decide
 have u1:IntKind.i64.wrap (1+1)=2:=by decide
 have u2:IntKind.i64.wrap (2+1)=3:=by decide
 have u3:IntKind.i64.wrap (3+1)=4:=by decide
 obtain rfl|rfl|rfl|rfl|rfl:i=0∨i=1∨i=2∨i=3∨i=4:=by omega
 ·unfold de
  simp+contextual only [wD,Nat.mul_one,Mp,oF,yt,Mq,Mr,Nat.reduceLT,Mc,v0,u0,S8.D,Gn,decide_true,qg,qi,n52,n42,n72,n67,n62,↓QS,↓vr,↓XP,ql,XW1,qb]
  exact hN2 1 _ _ (by omega) (by omega) ⟨rfl,rfl,rfl,rfl,rfl,rfl,trivial⟩ (qL rfl)
 ·unfold de
  simp+contextual only [wD,Nat.mul_one,Mp,oF,yt,Mq,Mr,Nat.reduceLT,Mc,v1,u1,S8.D,Gn,decide_true,qg,qi,n52,n42,n72,n67,n62,↓QS,↓vr,↓XP,ql,XW1,qb]
  exact hN2 2 _ _ (by omega) (by omega) ⟨rfl,rfl,rfl,rfl,rfl,rfl,trivial⟩ (qL rfl)
 ·unfold de
  simp+contextual only [wD,Nat.mul_one,Mp,oF,yt,Mq,Mr,Nat.reduceLT,Mc,v2,u2,S8.D,Gn,decide_true,qg,qi,n52,n42,n72,n67,n62,↓QS,↓vr,↓XP,ql,XW1,qb]
  exact hN2 3 _ _ (by omega) (by omega) ⟨rfl,rfl,rfl,rfl,rfl,rfl,trivial⟩ (qL rfl)
 ·unfold de
  simp+contextual only [wD,Nat.mul_one,Mp,oF,yt,Mq,Mr,Nat.reduceLT,Mc,v3,u3,S8.D,Gn,decide_true,qg,qi,n52,n42,n72,n67,n62,↓QS,↓vr,↓XP,ql,XW1,qb]
  exact hN2 4 _ _ (by omega) (by omega) ⟨rfl,rfl,rfl,rfl,rfl,rfl,trivial⟩ (qL rfl)
 ·have hlt2:(((4:Nat):Int)<4)=False:=eq_false (by decide)
  simp+contextual only [Mc,↓QS,↓vr,↓XP,qA]
  apply hE2
  unfold de
  simp+contextual only [wD,S8.D,Gn,qg,qi,n54,n52,n42,n74,n72,n64,n62,↓vr,↓XP,ql,XW1,qb]
  rw [<-hcp] at h
  exact h
end Go.Proofs.YtgopigkdcmhbbaaGreatDoor
end
section
namespace Go.Proofs.YtgopigkdcmhbbaaGreatDoor
open Go Go.Aw
structure Str where
 st:S8
 blk:List UInt8
 n:Nat
deriving Inhabited
def jr (l:List UInt8):List D:=l.map bD
def Str.D (s:Str):List D:=s.st.D++(jr s.blk++ [.int .u64 s.n])
def iv:S8:=⟨0x6a09e667,0xbb67ae85,0x3c6ef372,0xa54ff53a,0x510e527f,0x9b05688c,0x1f83d9ab,0x5be0cd19⟩
def beg:Str:=⟨iv,List.replicate 64 0,0⟩
def ym (s:Str) (t:List UInt8):Nat:=min t.length (64 - s.n % 64)
def wx (s:Str) (t:List UInt8):List UInt8:=s.blk.take (s.n % 64)++(t.take (64 - s.n % 64)++s.blk.drop (s.n % 64+ym s t))
def vL (s:Str) (t:List UInt8):Str:=⟨if s.n % 64+ym s t=64 then vT s.st (wx s t) else s.st,wx s t,s.n+ym s t⟩
def dV:Nat->Str->List UInt8->Str
 |0,s,_=>s
 |f+1,s,t=>if t= [] then s else dV f (vL s t) (t.drop (ym s t))
def yo (s:Str) (t:List UInt8):Str:=dV t.length s t
theorem oR (h:t≠ []):0<ym s t:=by
 have:0<t.length:=List.length_pos_iff.2 h
 have:=Nat.mod_lt s.n (show 0<64 by decide)
 unfold ym;omega
theorem YN:ym s t<=t.length:=Nat.min_le_left _ _
theorem GT:∀(f:Nat) (s:Str) (t:List UInt8),t.length<=f->dV f s t=yo s t:=by
 intro f
 induction f using Nat.strongRecOn with
 | _ f ih=>
  intro s t h
  unfold yo
  by_cases ht:t= []
  ·subst ht;cases f<;>rfl
  ·have hp:=oR (s:=s) ht
   have hk:=YN (s:=s) (t:=t)
   have hl:0<t.length:=List.length_pos_iff.2 ht
   obtain ⟨g,hg⟩:∃g,t.length=g+1:=⟨t.length - 1,by omega⟩
   obtain ⟨f',rfl⟩:∃f',f=f'+1:=⟨f - 1,by omega⟩
   rw [hg]
   simp only [dV,if_neg ht]
   rw [ih f' (by omega) _ _ (by rw [List.length_drop];omega)]
   by_cases hgf:g=f'
   ·subst hgf
    rw [ih g (by omega) _ _ (by rw [List.length_drop];omega)]
   ·rw [ih g (by omega) _ _ (by rw [List.length_drop];omega)]
theorem eg (s:Str):yo s []=s:=rfl
theorem Qb (h:t≠ []):yo s t=yo (vL s t) (t.drop (ym s t)):=by
 have hl:0<t.length:=List.length_pos_iff.2 h
 have hp:=oR (s:=s) h
 obtain ⟨g,hg⟩:∃g,t.length=g+1:=⟨t.length - 1,by omega⟩
 rw [yo,hg]
 simp only [dV,if_neg h]
 exact GT _ _ _ (by rw [List.length_drop];omega)
theorem S8.D_len (s:S8):s.D.length=8:=rfl
theorem qx (l:List UInt8):(jr l).length=l.length:=by simp [jr]
section
variable {s:Str}
theorem yv (h:s.blk.length=64):s.D.length=73:=by simp [Str.D,S8.D_len,qx,h]
theorem GG (h:s.blk.length=64):s.D[72]?=some (.int .u64 s.n):=by
 unfold Str.D
 rw [Ml (by simp [S8.D_len]),Ml (by simp [S8.D_len,qx,h])]
 simp [S8.D_len,qx,h]
theorem Ad:s.D.take 8=s.st.D:=by
 unfold Str.D
 rw [List.take_append_of_le_length (by simp [S8.D_len])]
 rfl
theorem S8.D_view (r:S8):r.D.map D.view1=r.D:=rfl
theorem eR (h:s.blk.length=64) (n:Nat):s.D.set 72 (.int .u64 n)=Str.D ⟨s.st,s.blk,n⟩:=by
 unfold Str.D
 rw [List.set_append_right _ _ (by simp [S8.D_len]),List.set_append_right _ _ (by simp [S8.D_len,qx,h])]
 simp [S8.D_len,qx,h]
theorem i6:s.D.drop 8=jr s.blk++ [.int .u64 s.n]:=by
 unfold Str.D
 rw [List.drop_append_of_le_length (by simp [S8.D_len])]
 rfl
theorem dF (r:S8):r.D++s.D.drop 8=Str.D ⟨r,s.blk,s.n⟩:=by rw [i6];rfl
theorem mj (h:s.blk.length=64):∀i,i<64->s.D[8+i]?=some (bD (s.blk.getD i 0)):=by
 intro i hi
 unfold Str.D
 rw [Ml (by simp [S8.D_len]),Mj (by simp [S8.D_len,qx,h];omega)]
 have h2:i<s.blk.length:=by omega
 simp [S8.D_len,jr,List.getD,Ma h2]
theorem fm (h:s.blk.length=64) (ha:a<64) (t:List UInt8):s.D.take (8+a)++((t.take (64 - a)).map (fun c=>D.int .u8 c.toNat)++s.D.drop (8+a+min t.length (64 - a)))=
  Str.D ⟨s.st,s.blk.take a++(t.take (64 - a)++s.blk.drop (a+min t.length (64 - a))),s.n⟩:=by
 unfold Str.D
 have e1:(s.st.D++(jr s.blk++ [D.int .u64 (s.n:Int)])).take (8+a)=s.st.D++jr (s.blk.take a):=by
  rw [List.take_append,S8.D_len,show 8+a - 8=a by omega,Mo (by simp [S8.D_len]),List.take_append_of_le_length (by simp [qx,h];omega)]
  simp [jr]
 have e2:(s.st.D++(jr s.blk++ [D.int .u64 (s.n:Int)])).drop (8+a+min t.length (64 - a))=jr (s.blk.drop (a+min t.length (64 - a)))++ [D.int .u64 (s.n:Int)]:=by
  rw [List.drop_append,S8.D_len,show 8+a+min t.length (64 - a) - 8=a+min t.length (64 - a) by omega,List.drop_of_length_le (by simp [S8.D_len];omega),Mw,List.drop_append_of_le_length (by simp [qx,h];omega)]
  simp [jr]
 rw [e1,e2]
 simp [jr]
 rfl
end
theorem Kr (h:s.blk.length=64) (t:List UInt8):(wx s t).length=64:=by
 have:=Nat.mod_lt s.n (show 0<64 by decide)
 simp only [wx,ym,List.length_append,List.length_take,List.length_drop]
 omega
def Blk (H:AH) (p o:Nat) (m:List UInt8):Prop:=∃cs,qk H p=some (.cells cs)∧∀i,i<64->cs[o+i]?=some (bD (m.getD i 0))
def Kst (H:AH):Prop:=qk H 1=some (.cst kD)
theorem Kst.sub (h:Kst H) (hs:Sub H H1):Kst H1:=by
 obtain ⟨o',g1,g2⟩:=hs _ _ h
 rcases g2 with g2|g2
 ·rw [<-g2] at g1;exact g1
 ·cases o' with
  |cst cs=>injection g2 with g2;rw [<-g2] at g1;exact g1
  |_=>simp [Ul] at g2
theorem Kst.push (h:Kst H) (hb:qz H b):Kst ((b,o)::H):=(qg (qD hb h)).trans h
theorem Blk.sub (h:Blk H p o m) (hs:Sub H H1):Blk H1 p o m:=by
 obtain ⟨cs,h1,h2⟩:=h
 obtain ⟨o',g1,g2⟩:=hs _ _ h1
 rcases g2 with rfl|g2
 ·exact ⟨cs,g1,h2⟩
 ·cases o' with
  | cells cs'=>
   injection g2 with g2
   subst g2
   refine ⟨cs',g1,fun i hi=>?_⟩
   have:=h2 i hi
   rw [Mb,Mg] at this
   obtain ⟨d,d1,d2⟩:=this
   rw [d1]
   cases d<;>simp only [D.view1,bD] at d2<;>first|(cases d2;done)|(rw [d2];rfl)
  |_=>simp [Ul] at g2
theorem Wt {R:D->AH->Prop} (h:R (.agg beg.D) H):ACall Tryz.prog 122 [] H R:=by
 refine EG fun hf=>?_
 simp+contextual only [↓U122,↓U122.1,↓XP,ql,XW1,qa,qb,qe]
 intro b hb
 exact h
end Go.Proofs.YtgopigkdcmhbbaaGreatDoor
end
