/- PatchKeys: for every input the call returns true. -/
import Derived.Test.YtgopigkdcmhbbaaGreatDoorU8
set_option autoImplicit true
set_option relaxedAutoImplicit true
set_option linter.unusedVariables false
set_option linter.unusedSimpArgs false
set_option maxRecDepth 100000
set_option maxHeartbeats 16000000
open Int renaming cast_ofNat_Int -> Ma,toNat_natCast -> Mb
open Nat renaming reduceSub -> qa,reduceAdd -> qb,reduceMul -> qc,reduceEqDiff -> qd,reduceLeDiff -> qe,reduceBEq -> qf
section
namespace Go.Proofs.YtgopigkdcmhbbaaGreatDoor
open Go Go.Aw
theorem ip {R:D->AH->Prop} (h:∀p,Sz 20 p->0<p.ops.length->R (.agg p.d) H):ACall Tryz.prog 7 [.slc (ints l),.i a] H R:=by
 refine b7 fun hf=>?_
 have hbig:=qj
 obtain ⟨h1,h2,h3⟩:=aE l
 have pl:(je (patches l)).length=(patches l).length:=by simp [je]
 simp+contextual only [↓U7,↓U7,↓XP,qh,qa,qb]
 intro b4 h4
 refine aT ?_
 simp+contextual only [pl,↓U7,↓XP,qh,XW1]
 refine fun _=>qJ (by omega) ?_
 obtain ⟨r1,r2⟩:=j3 (n:=a) (most:=((patches l).length:Int)) (by omega)
 obtain ⟨k,hk⟩:=Int.eq_ofNat_of_zero_le r1
 rw [hk] at r2 ⊢
 have hkl:k<(patches l).length:=by omega
 have q1:(je (patches l)).getD k []=((patches l).getD k default).d:=by simp [je,hkl]
 have hp:=h1 _ (UE (d:=default) hkl)
 generalize (patches l).getD k default=p at q1 hp
 have hd:p.d= [.i p.o,.i p.s,.i p.day,.slc (qt p.needs),.slc (qu p.ops),.str p.sl]:=rfl
 simp+contextual only [pl,q1,hd,hkl,Int.ofNat_lt,↓XP,qh,XW1,qb]
 exact fun _=>h p hp.1 hp.2
def pP (hh:Int):List Int:= [0,1,5,hh,-1]
def pA (seed:List UInt8):List (List UInt8):= [oD 3 32,oD 4 32,oD 5 32,seed.take 40,oD 6 32]
theorem Uh:∀{cs:List D},(∀d∈cs,∃k n,d= .int k n)->Aw.fits (List.replicate cs.length CT.i) cs
 | [],_=>trivial
 | x::r,h=>by
  obtain ⟨k,n,rfl⟩:=h x (.head _)
  exact Uh (cs:=r) fun d hd=>h d (.tail _ hd)
theorem YF:∀{cs:List D},(∀d∈cs,∃k n,d= .int k n)->sameK cs cs
 | [],_=>trivial
 | x::r,h=>by
  obtain ⟨k,n,rfl⟩:=h x (.head _)
  exact ⟨rfl,YF (cs:=r) fun d hd=>h d (.tail _ hd)⟩
theorem G8:∀{cs:List D},(∀d∈cs,∃k n,d= .int k n)->eqCells cs cs=true
 | [],_=>rfl
 | x::r,h=>by
  obtain ⟨k,n,rfl⟩:=h x (.head _)
  have h2:eqCells r r=true:=G8 (cs:=r) fun d hd=>h d (.tail _ hd)
  simp [eqCells,cellEq,h2]
theorem rJ (sd:List UInt8) (y:Int):∃cs e,fL sd y= .tup [.agg cs,.i e]∧cs.length=17∧cs.map D.view1=cs∧∀d∈cs,∃k n,d= .int k n:=by
 by_cases hk:wT sd y=true∧y<=4
 ·have nr:=jJ sd y.toNat 0
  refine ⟨_,_,JL hk.1 hk.2,uN nr _,Vh _,fun d hd=>?_⟩
  rcases List.mem_append.1 hd with h|h
  ·obtain ⟨x,_,rfl⟩:=List.mem_map.1 h
   exact ⟨_,_,rfl⟩
  ·rw [List.mem_singleton.1 h];exact ⟨_,_,rfl⟩
 ·refine ⟨_,_,g9 hk,rfl,rfl,fun d hd=>?_⟩
  rcases List.mem_append.1 hd with h|h
  ·obtain ⟨_,rfl⟩:=List.mem_replicate.1 h
   exact ⟨_,_,rfl⟩
  ·rw [List.mem_singleton.1 h];exact ⟨_,_,rfl⟩
theorem E6 {R:D->AH->Prop} (hg:Kst H) (hg0:Kst0 H) (h:R (.bool true) H):
  ACall Tryz.prog 3 [.slc (ints l),.i a,.str seed,.i hh,.i how,.i bb] H R:=by
 refine b3 fun hf=>?_
 have hbig:=qj
 simp+contextual only [x3,↓U3,↓Y1,↓XP,qo,qa,qb]
 refine ip fun p hp hne=>?_
 simp+contextual only [↓Y1,↓XP,qo,XW1]
 refine my (n:=20) (by omega) hp hne fun q hq=>?_
 have hd:q.d= [.i q.o,.i q.s,.i q.day,.slc (qt q.needs),.slc (qu q.ops),.str q.sl]:=rfl
 simp+contextual only [Nat.mul_one,hd,↓U3,↓Y1,↓XP,qh,XW1,qb,qe]
 intro mC h13
 refine Vi (by decide) (by decide) ?_
 simp+contextual only [↓Y1,↓XP,qo]
 refine fun _=>Vi (by decide) (by decide) ?_
 simp+contextual only [↓Y1,↓XP,qo]
 refine fun _=>Vi (by decide) (by decide) ?_
 simp+contextual only [↓Y1,↓XP,qo]
 refine fun _=>lL (n:=40) (by decide) ?_
 simp+contextual only [↓Y1,↓XP,qo]
 refine fun _=>Vi (by decide) (by decide) ?_
 simp+contextual only [Nat.mul_one,↓U3,↓Y1,↓XP,qh,XW1,qe]
 intro _
 refine XW.loopS hmm 120 (fun i:Nat=>[(13,.ptr mC 0),(14,.own (ints (pP hh))),(15,.own (strs (pA seed))),(16,.i (i:Int))]) (fun _=>(mC,.cells q.d)::H) (fun i=>5 - i) (fun i=>i<=5) 0 (Nat.zero_le _) ⟨rfl,rfl,rfl,rfl,rfl,trivial⟩ rfl ?_
 intro i z hi K hN hE hR
 dsimp only [fl,zz,qa,qb]
 by_cases hlt:i<5
 ·have hlt':((i:Int)<5)=True:=eq_true (by omega)
  have hlt2:(i<5)=True:=eq_true hlt
  have hi0:((0:Int)<=(i:Int))=True:=eq_true (by omega)
  have g1:(ints (pP hh)).getD i []= [.i ((pP hh).getD i 0)]:=by simp [ints,List.getD,show (pP hh).length=5 from rfl,hlt]
  have g2:(strs (pA seed)).getD i []= [.str ((pA seed).getD i [])]:=by simp [strs,List.getD,show (pA seed).length=5 from rfl,hlt]
  have hl1:(ints (pP hh)).length=5:=rfl
  have hl2:(strs (pA seed)).length=5:=rfl
  generalize (pP hh).getD i 0=x at g1
  generalize (pA seed).getD i []=sd at g2
  generalize hgs:ints (pP hh)=gs at g1 hl1 ⊢
  generalize hss:strs (pA seed)=ss at g2 hl2 ⊢
  have hgx:Kst ((mC,.cells q.d)::H):=hg.push h13
  have hgx0:Kst0 ((mC,.cells q.d)::H):=hg0.push h13
  have hcs:(2<x∧x<5)∨(2<x∧¬x<5)∨¬2<x:=by
   by_cases c1:2<x
   ·by_cases c2:x<5
    ·exact .inl ⟨c1,c2⟩
    ·exact .inr (.inl ⟨c1,c2⟩)
   ·exact .inr (.inr c1)
  rcases hcs with ⟨c1,c2⟩|⟨c1,c2⟩|c1
  case' inl=>
   simp+contextual only [Ma,hlt',hi0,g1,g2,hl1,hl2,eq_true c1,eq_true c2,Mb,↓U3,↓Y1,↓XP,qh,qb,qe]
   clear g1 c1 c2
   generalize (2:Int)=y
  case' inr.inl=>
   simp+contextual only [Ma,hlt',hi0,g1,g2,hl1,hl2,eq_true c1,eq_false c2,Mb,↓U3,↓Y1,↓XP,qh,qb,qe]
   clear g1 c1 c2
   generalize x=y
  case' inr.inr=>
   simp+contextual only [Ma,hlt',hi0,g1,g2,hl1,hl2,eq_false c1,Mb,↓U3,↓Y1,↓XP,qh,qb,qe]
   clear g1 c1
   generalize x=y
  all_goals refine fun _ _=>Yz hgx ?_
  all_goals
   obtain ⟨cs,e,hpd,hcl,hcv,hci⟩:=rJ sd y
   have hct:cs.take 17=cs:=List.take_of_length_le (by omega)
   have hcd:cs.drop 17= []:=List.drop_of_length_le (by omega)
   rw [hpd]
   simp+contextual only [Ma,hlt',hi0,g2,hl2,Mb,↓U3,↓Y1,↓XP,qh,XW1,qb]
   intro he b18 h18
   obtain ⟨n18,f18⟩:=h18
   refine ⟨hcl,fun _=>QP (hgx0.push ⟨Ne.symm n18,f18⟩) ?_⟩
   rw [hpd]
   simp+contextual only [Ma,hlt',hi0,g2,hl2,Mb,↓U3,↓Y1,↓XP,qh,XW1,qb,qe]
   intro _ xA h20
   obtain ⟨n20,n20',f20⟩:=h20
   have hfit:Aw.fits [CT.i,CT.i,CT.i,CT.i,CT.i,CT.i,CT.i,CT.i,CT.i,CT.i,CT.i,CT.i,CT.i,CT.i,CT.i,CT.i,CT.i] cs:=by
    have:=Uh hci
    rw [hcl] at this
    exact this
   have hsk:=YF hci
   have heq:=G8 hci
   by_cases d1:y<1
   case' pos=>
    simp+contextual only [qg,n18,n20',hd,hcl,hct,hcv,hfit,hsk,heq,eq_true d1,↓Y1,↓XP,qo,XW1,qb,reduceCtorEq]
   case' neg=>
    by_cases d2:4<y
    case' pos=>
     simp+contextual only [qg,n18,n20',hd,hcl,hct,hcv,hfit,hsk,heq,eq_false d1,eq_true d2,↓Y1,↓XP,qo,XW1,qb,reduceCtorEq]
    case' neg=>
     simp+contextual only [qg,n18,n20',hd,hcl,hct,hcv,hfit,hsk,heq,eq_false d1,eq_false d2,qo,XW1,reduceCtorEq]
     rw [qi (by omega)]
     subst hgs hss
     exact hN (i+1) _ _ (by omega) (by omega) ⟨rfl,rfl,rfl,rfl,rfl,trivial⟩ (Z0 rfl)
  all_goals
   have hq4:Kst ((xA,AO.cells cs)::(b18,AO.cells cs)::(mC,.cells q.d)::H):=(hgx.push ⟨Ne.symm n18,f18⟩).push ⟨Ne.symm n20,Ne.symm n20',f20⟩
   have hq5:Kst0 ((xA,AO.cells cs)::(b18,AO.cells cs)::(mC,.cells q.d)::H):=(hgx0.push ⟨Ne.symm n18,f18⟩).push ⟨Ne.symm n20,Ne.symm n20',f20⟩
   refine fun _=>⟨_,fun H1 hs=>tR (p:=q) (hq4.sub hs) (hq.fit (by omega)) ⟨rfl,rfl⟩,?_⟩
   obtain ⟨qs,qe,hsg⟩:∃qs qe,Z9 sd y q=(qs,qe):=⟨_,_,rfl⟩
   rw [hsg]
   have hsd:qs.d= [.i qs.o,.i qs.s,.i qs.day,.slc (qt qs.needs),.slc (qu qs.ops),.str qs.sl]:=rfl
   simp+contextual only [Nat.reduceLT,Ma,qg,n18,n20',hsd,hlt',hi0,g2,hl2,Mb,↓U3,↓Y1,↓XP,qh,XW1,qb]
   intro _ Ht h22
   obtain ⟨m1,m2,m3,f22⟩:=h22
   have hq6:Kst0 ((Ht,AO.cells qs.d)::(xA,AO.cells cs)::(b18,AO.cells cs)::(mC,.cells q.d)::H):=hq5.push ⟨Ne.symm m1,Ne.symm m2,Ne.symm m3,f22⟩
   refine fun _=>⟨_,fun H1 hs=>pZ (p:=q) (hq6.sub hs) (hq.fit (by omega)) ⟨rfl,rfl⟩,?_⟩
   rw [hsg]
   simp+contextual only [Nat.reduceLT,qg,qg,hsd,↓U3,↓Y1,↓XP,qh,XW1,qb]
   intro _ b24 h24
   obtain ⟨k1,k2,k3,k4,f24⟩:=h24
   refine cX (p:=qs) ?_
   simp+contextual only [↓U3,↓Y1,↓XP,qo,XW1,↓XH]
   rw [qi (by omega)]
   subst hgs hss
   exact hN (i+1) _ _ (by omega) (by omega) ⟨rfl,rfl,rfl,rfl,rfl,trivial⟩ (WW rfl)
 ·have hi5:i=5:=by omega
  have hlt':((i:Int)<5)=False:=eq_false (by omega)
  simp+contextual only [hlt',↓U3,↓Y1,↓XP,qo]
  apply hE
  simp+contextual only [↓Y1,↓XP,qo,XW1]
  refine lR ?_
  simp+contextual only [↓Y1,↓XP,qo,XW1]
  exact h
end Go.Proofs.YtgopigkdcmhbbaaGreatDoor
end
section
namespace Go.Proofs.YtgopigkdcmhbbaaGreatDoor.pk
open Go Go.Aw Go.RowKit Go.ChangeShapes Go.WideShapes Go.ChangeAt
theorem eT (os:Os):laidMet Tryz.prog Rows.patchKeysRow.laid ((Qu os).forCall (fun _ _=>0) ⟨#[],#[.slice none 0 0,.int .i64 0,.string ⟨#[]⟩,.int .i64 0,.int .i64 0,.int .i64 0],[]⟩).memory:=
 laidMet_of_run' 70 (by kernel_rfl) (by kernel_rfl)
theorem contract (H:Type) (enc:TypeId×Value->H) (W:World) (base:Nat) (args:Array Value) (ds gs:List (DataW H)) (before:List MemPlace)
  (hval:∀(j:Nat) t v,Tryz.f3.params[j]?=some t->args[j]?=some v->Value.okWide Tryz.prog W .any base t v)
  (hW:DataW.Whole enc Tryz.prog Tryz.f3.params.toList Rows.patchKeysSpec.vars false W args.toList ds gs before) (hL:laidMetH Tryz.prog Rows.patchKeysRow.laid W) (hk:(DataW.weightsEach Tryz.prog (Tryz.f3.params.toList++Rows.patchKeysSpec.plain.varTypes Tryz.prog) (ds++gs)).all (·<=reachBytes)=true):
  Calls Tryz.prog 3 args W fun e W'=>∃v,e= .returned v∧Rows.patchKeysSpec.post enc Tryz.prog Tryz.f3 false true false false W args v W':=by
 have hW':=hW
 obtain ⟨p,q,hA0,hV,rfl,hfz,hnd⟩:=hW
 have hA:DataW.TrodAll enc Tryz.prog W 0 (fun _=>true) true Tryz.f3.params.toList args.toList ds p:=hA0
 rw [Tryz.params3] at hA hval hk
 obtain ⟨v0,vs0,d0,ds0,p0,q0,hargs,rfl,rfl,h0,r0⟩:=trodAll_cons hA
 obtain ⟨v1,vs1,d1,ds1,p1,q1,rfl,rfl,rfl,h1,r1⟩:=trodAll_cons r0
 obtain ⟨v2,vs2,d2,ds2,p2,q2,rfl,rfl,rfl,h2,r2⟩:=trodAll_cons r1
 obtain ⟨v3,vs3,d3,ds3,p3,q3,rfl,rfl,rfl,h3,r3⟩:=trodAll_cons r2
 obtain ⟨v4,vs4,d4,ds4,p4,q4,rfl,rfl,rfl,h4,r4⟩:=trodAll_cons r3
 obtain ⟨v5,vs5,d5,ds5,p5,q5,rfl,rfl,rfl,h5,r5⟩:=trodAll_cons r4
 obtain ⟨rfl,rfl,rfl⟩:=trodAll_nil r5
 obtain rfl:args=#[v0,v1,v2,v3,v4,v5]:=by cases args;simp_all
 obtain ⟨rfl,rfl⟩:=trodVars_none hV
 simp only [List.append_nil,List.cons_append,List.nil_append,DataW.weightsEach,List.all_append,Bool.and_eq_true] at hk
 obtain ⟨k0,k1,k2,k3,k4,k5,_⟩:=hk
 obtain ⟨a0,e0⟩:=rw_ints.arg1 (by kernel_rfl) (hval 0 _ v0 rfl rfl) h0 k0
 obtain ⟨a1,e1⟩:=rw_int.arg1 (by kernel_rfl) (hval 1 _ v1 rfl rfl) h1 k1
 obtain ⟨a2,e2⟩:=rw_str.arg1 (by kernel_rfl) (hval 2 _ v2 rfl rfl) h2 k2
 obtain ⟨a3,e3⟩:=rw_int.arg1 (by kernel_rfl) (hval 3 _ v3 rfl rfl) h3 k3
 obtain ⟨a4,e4⟩:=rw_int.arg1 (by kernel_rfl) (hval 4 _ v4 rfl rfl) h4 k4
 obtain ⟨a5,e5⟩:=rw_int.arg1 (by kernel_rfl) (hval 5 _ v5 rfl rfl) h5 k5
 refine (xi (E6 (l:=a0) (a:=a1) (seed:=a2) (hh:=a3) (how:=a4) (bb:=a5) (H:=H0) (R:=fun d H=>d= .bool true) FE A8 rfl) W _ (A9 hL) rfl ?_).mono ?_
 ·intro j d v hd hv
  match j with
  |0=>cases hd;cases hv;exact e0
  |1=>cases hd;cases hv;exact e1
  |2=>cases hd;cases hv;exact e2
  |3=>cases hd;cases hv;exact e3
  |4=>cases hd;cases hv;exact e4
  |5=>cases hd;cases hv;exact e5
  |j+6=>cases hd
 ·rintro e W' ⟨v,d,H',K',rfl,rfl,hb,hr⟩
  have hv:v= .bool true:=by cases hr with|bool=>rfl
  subst hv
  exact ⟨_,rfl,aB kids full (by rw [Tryz.params3];decide) hW' rfl hb rfl Tryz.underlying4 rfl⟩
theorem reads (os:Os) {H:Type} (enc:TypeId×Value->H):∃places,DataW.whole enc Tryz.prog ((Qu os).forCall (fun _ _=>0) ⟨#[],#[.slice none 0 0,.int .i64 0,.string ⟨#[]⟩,.int .i64 0,.int .i64 0,.int .i64 0],[]⟩).memory Tryz.f3.params.toList Rows.patchKeysSpec.vars false #[Value.slice none 0 0,Value.int .i64 0,Value.string ⟨#[]⟩,Value.int .i64 0,Value.int .i64 0,Value.int .i64 0].toList 8=some ([.nil,.lit (.int .i64 0),.lit (.string []),.lit (.int .i64 0),.lit (.int .i64 0),.lit (.int .i64 0)],[],places):=
 ⟨[],by kernel_rfl⟩
theorem lifted (os:Os) (started:os.Started) (H:Type) (enc:TypeId×Value->H) (F:Stop.Interp):
  ReturnsInHanded {} Tryz.checked os 3 .any ((OpenSpec.ofChange Rows.patchKeysSpec).preRow enc Tryz.prog Tryz.f3 Rows.patchKeysRow.domain false Rows.patchKeysRow.laid) (((OpenSpec.ofChange Rows.patchKeysSpec).at F).post enc Tryz.prog Tryz.f3 false true false false):=by
 obtain ⟨places,hx⟩:=reads os enc
 refine returnsInHanded_of_row (C:=Tryz.checked) (s:=OpenSpec.ofChange Rows.patchKeysSpec) own started (by kernel_rfl) Tryz.func3
  (witness_row_at (enc:=enc) (C:=Tryz.checked) false (Qu os) #[.slice none 0 0,.int .i64 0,.string ⟨#[]⟩,.int .i64 0,.int .i64 0,.int .i64 0] rfl (by kernel_rfl) (by kernel_rfl) (by kernel_rfl)
   (OpenSpec.preRow_of_cond 8 hx (by kernel_rfl) (fun k hk=>by cases hk) (by kernel_rfl) (eT os))) ?_
 intro W base args ds gs before hval hW _ _ hz hL _ _
 exact contract H enc W base args ds gs before hval hW hL hz
theorem said:Rows.PatchKeysSaid:=
 OpenClaim.holds_of_cond 3 Tryz.f3 rfl rfl rfl rfl rfl rfl rfl ⟨rfl,rfl,rfl,rfl,rfl⟩ rfl rfl rfl rfl rfl (by kernel_rfl) Tryz.func3 (by kernel_rfl)
  (of_decide_eq_true (by kernel_rfl)) (by unfold Func.isWrapper;first|(rw [if_pos (by decide+kernel)];kernel_rfl)|(rw [if_neg (by decide+kernel)];exact ⟨rfl,rfl⟩))
  (fun os started H enc _ F=>by rw [OpenClaim.pre_eq_preRow];exact lifted os started H enc F)
theorem plain (f : FuncId) (fn : Func) (hf : Tryz.pinned.checked.prog.funcNamed "wordbook/wordbooklaw17.PatchKeys" = some f) (hfn : Tryz.pinned.checked.prog.funcs[f]? = some fn) :
  false=Tryz.pinned.checked.prog.looks []∧∀(j:Nat) t,fn.params[j]?=some t->Tryz.pinned.checked.prog.wantsStandIn t=false:=by
 obtain rfl : f = 3 := Option.some.inj ((show Tryz.prog.funcNamed "wordbook/wordbooklaw17.PatchKeys" = some 3 by kernel_rfl).symm.trans hf) |>.symm
 obtain rfl:fn=Tryz.f3:=(Option.some.inj (Tryz.func3.symm.trans hfn)).symm
 refine ⟨by kernel_rfl,fun j t ht=>?_⟩
 rw [Tryz.params3] at ht
 have hm:=Array.mem_of_getElem? ht
 have hall:∀t∈ [22,3,9,3,3,3],Tryz.prog.wantsStandIn t=false:=by
  intro t ht
  simp only [List.mem_cons,List.not_mem_nil,or_false] at ht
  rcases ht with rfl|rfl|rfl|rfl|rfl|rfl<;>kernel_rfl
 exact hall t (by simpa using hm)
theorem card:Rows.PatchKeysCardSaid:=
 Claim7.holds_tied_plain_at .later [] _ _ _ _ said (fun _ h=>by cases h) (by kernel_rfl) (fun _ h=>by cases h) patchKeys_row_tie rfl ⟨rfl,rfl⟩ (by kernel_rfl) rfl plain (by kernel_rfl)
end Go.Proofs.YtgopigkdcmhbbaaGreatDoor.pk
end
