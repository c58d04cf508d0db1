/- A part of the proof of what the last text says: Gm1, Gm2, XcH, Gm3, Gm4, Gm5, Gk2. Conditions: those in each theorem. -/
import Derived.Test.YtpdhandimdibhaaGreatDoorN18
set_option linter.unusedVariables false
set_option linter.unusedSimpArgs false
set_option maxRecDepth 100000
set_option maxHeartbeats 16000000
open Nat renaming reduceSub → qa,reduceAdd → qb,reduceMul → qc,reduceEqDiff → qd,reduceLeDiff → qe,reduceBEq → qf
section
namespace Go.Proofs.YtpdhandimdibhaaGreatDoor
open Go Go.Aw
theorem w_cnt {b:Bool} {m0:Nat} {H:AH} {Q:AQ} {F:List D} (hm:(digs m0).length≤8) (hF:Fr 47 [(3,.int .u64 (m0:Int)),(4,.int .u8 (zK b)),(5,.int .i64 8)] F) (hE:∀F',Fr 47 [(3,.int .u64 (m0:Int)),(4,.int .u8 (zK b)),(5,.int .i64 ((digs m0).length:Int))] F'→Q (.exit 0) F' H):XW Tryz.prog x71_L3 F H Q:=by
 have hbig:=qt
 refine XW.loopK Go.Proofs.YtpdhandimdibhaaGreatDoor.hm (fun F H'=>∃(k:Nat),k≤8∧(digs m0).length≤k∧Fr 47 [(3,.int .u64 (m0:Int)),(4,.int .u8 (zK b)),(5,.int .i64 (k:Int))] F∧H=H') (fun F H=>match F.getD 5 .any with| .int _ n'=>n'.toNat|_=>0) ⟨8,by omega,hm,hF,rfl⟩ ?_
 rintro _ _ ⟨k,hk,hd,hF,rfl⟩ K hN hE' hR
 obtain ⟨z,rfl⟩:∃z:Nat→D,_=zz z 0 3 (.int .u64 (m0:Int):: .int .u8 (zK b):: .int .i64 (k:Int)::zz z 6 41 []):=hF.lit
 try dsimp only [zz,qb] at*
 clear hF hR
 rcases k with _|k
 ·clear hN
  have hd0:(digs m0).length=0:=by omega
  simp+contextual only [Uj,show (0<((0:Nat):Int))=False from by simp,↓G5,↓XP,↓XU,qn,XW1,qa,qb,qc,qd,qe,qf,reduceCtorEq]
  exact hE' _ _ _ (hE _ (by rw [hd0];exact ⟨rfl,rfl,rfl,rfl,trivial⟩))
 ·have w1:IntKind.i64.wrap (((k+1:Nat):Int) - 1)=(k:Int):=by rw [qJ (by omega) (by omega)];omega
  have w2:IntKind.i64.wrap (8*(k:Int))=8*(k:Int):=qJ (by omega) (by omega)
  have w3:=Vm (m:=m0) (i:=k) (by omega)
  have hc:=Vf m0 k
  by_cases hle:(digs m0).length≤k
  ·have hz:m0 / 256 ^ k=0:=Nat.div_eq_of_lt (hc.1 hle)
   rw [hz] at w3
   simp+contextual only [Uj,show (0<((k+1:Nat):Int))=True from eq_true (by omega),w1,w2,w3,show (0≤8*(k:Int))=True from eq_true (by omega),show (0<((0:Nat):Int))=False from by simp,↓G5,↓XP,↓XU,qn,XW1,qa,qb,qc,qd,qe,qf,reduceCtorEq]
   refine hN _ _ ⟨k,by omega,hle,⟨rfl,rfl,rfl,rfl,trivial⟩,(j7 rfl).symm⟩ ?_
   simp only [List.getD_cons_succ,List.getD_cons_zero]
   omega
  ·have hp:0<m0 / 256 ^ k:=by
    refine Nat.div_pos ?_ (Nat.pow_pos (by omega))
    have:=mt hc.2 hle
    omega
   have hlen:(digs m0).length=k+1:=by omega
   clear hN
   simp+contextual only [Uj,show (0<((k+1:Nat):Int))=True from eq_true (by omega),w1,w2,w3,show (0≤8*(k:Int))=True from eq_true (by omega),show (0<((m0 / 256 ^ k:Nat):Int))=True from eq_true (by omega),↓G5,↓XP,↓XU,qn,XW1,qa,qb,qc,qd,qe,qf,reduceCtorEq]
   exact hE' _ _ _ (hE _ (by rw [hlen];exact ⟨rfl,rfl,rfl,rfl,trivial⟩))
theorem w_out {b:Bool} {m0:Nat} {hd:UInt8} {H:AH} {Q:AQ} {F:List D} (hm:(digs m0).length≤8) (hF:Fr 47 [(3,.int .u64 (m0:Int)),(4,.int .u8 (zK b)),(6,.own ([hd].map qA)),(7,.int .i64 (((digs m0).length:Int) - 1))] F) (hE:∀F',Fr 47 [(6,.own ((hd::(digs m0).reverse.map (jb b)).map qA))] F'→Q (.exit 2) F' H):XW Tryz.prog x71_L6 F H Q:=by
 have hbig:=qt
 refine XW.loopK Go.Proofs.YtpdhandimdibhaaGreatDoor.hm (fun F H'=>∃(j:Nat),j≤(digs m0).length∧Fr 47 [(3,.int .u64 (m0:Int)),(4,.int .u8 (zK b)),(6,.own ((hd::((digs m0).drop j).reverse.map (jb b)).map qA)),(7,.int .i64 ((j:Int) - 1))] F∧H=H') (fun F H=>match F.getD 7 .any with| .int _ n'=>(n'+1).toNat|_=>0) ⟨(digs m0).length,by omega,by rw [List.drop_length];exact hF,rfl⟩ ?_
 rintro _ _ ⟨j,hj,hF,rfl⟩ K hN hE' hR
 obtain ⟨z,rfl⟩:∃z:Nat→D,_=zz z 0 3 (.int .u64 (m0:Int):: .int .u8 (zK b)::z 5:: .own ((hd::((digs m0).drop j).reverse.map (jb b)).map qA):: .int .i64 ((j:Int) - 1)::zz z 8 39 []):=hF.lit
 try dsimp only [zz,qb] at*
 clear hF hR
 rcases j with _|j
 ·clear hN
  simp+contextual only [Uj,show ((0:Nat):Int) - 1= -1 from rfl,show (0≤(-1:Int))=False from by simp,↓G5,↓XP,↓XU,qn,XW1,qa,qb,qc,qd,qe,qf,reduceCtorEq]
  exact hE' _ _ _ (hE _ ⟨rfl,rfl,trivial⟩)
 ·have e0:((j+1:Nat):Int) - 1=(j:Int):=by omega
  have nx:∀F',Fr 47 [(3,.int .u64 (m0:Int)),(4,.int .u8 (zK b)),(6,.own ((hd::((digs m0).drop j).reverse.map (jb b)).map qA)),(7,.int .i64 ((j:Int) - 1))] F'→K .normal F' H:=fun F' hF'=>hN _ _ ⟨j,by omega,hF',(j7 rfl).symm⟩ (by
   rw [List.getD_eq_getElem?_getD,hF'.2.2.2.2.1]
   simp only [List.getD_cons_succ,List.getD_cons_zero,Option.getD_some]
   omega)
  clear hN hE hE'
  rw [Zs (show j<(digs m0).length by omega)] at nx
  rw [e0]
  have q1:(digs m0)[j]=UInt8.ofNat (m0 / 256 ^ j % 256):=by
   rw [←KW j m0 (by omega),List.getD_eq_getElem?_getD,List.getElem?_eq_getElem (show j<(digs m0).length by omega)]
   rfl
  have hlen:(List.map qA (hd::((digs m0).drop (j+1)).reverse.map (jb b))).length≤9:=by
   simp only [List.length_map,List.length_cons,List.length_reverse,List.length_drop]
   omega
  have w1:IntKind.i64.wrap ((j:Int) - 1)=(j:Int) - 1:=qJ (by omega) (by omega)
  have w2:IntKind.i64.wrap (8*(j:Int))=8*(j:Int):=qJ (by omega) (by omega)
  have w3:=Vm (m:=m0) (i:=j) (by omega)
  have w4:=US (x:=m0 / 256 ^ j)
  have w5:=xor8 (b:=b) (x:=m0 / 256 ^ j % 256) (Nat.mod_lt _ (by omega))
  rw [←q1] at w5
  rw [q1] at nx
  rw [q1] at w5
  simp only [List.map_append,List.map_cons,List.map_nil] at nx
  simp+contextual only [Uj,show (0≤(j:Int))=True from eq_true (by omega),w1,w2,w3,w4,w5,show (0≤8*(j:Int))=True from eq_true (by omega),↓G5,↓XP,↓XU,qn,XW1,qa,qb,qc,qd,qe,qf,reduceCtorEq]
  exact ⟨⟨rfl,jr⟩,by simp only [List.length_reverse,List.length_drop];omega,nx _ ⟨rfl,rfl,rfl,rfl,rfl,trivial⟩⟩
theorem Q5 {n:Int} {H:AH} {R:D→AH→Prop} (h:vk .i64 n→R (.own ((qQ n).map qA)) H):ACall Tryz.prog 71 [.int .i64 n] H R:=by
 refine b71 fun hf=>?_
 have hbig:=qt
 have hin:vk .i64 n:=hf.1
 have hr:=hin
 rw [wI] at hr
 replace h:=h hin
 have hlen:=JV hin
 have hm:=Wp hin
 obtain ⟨m0,hm0⟩:∃m0,mag n=m0:=⟨_,rfl⟩
 rw [qQ,hm0] at h
 rw [hm0] at hlen hm
 have w0:=VW hin
 have w3:IntKind.i64.wrap (((digs m0).length:Int) - 1)=((digs m0).length:Int) - 1:=qJ (by omega) (by omega)
 have w4:IntKind.i64.wrap (128+((digs m0).length:Int))=((128+(digs m0).length:Nat):Int):=by rw [qJ (by omega) (by omega)];omega
 have w5:IntKind.u8.wrap ((128+(digs m0).length:Nat):Int)=((128+(digs m0).length:Nat):Int):=wrap_u8 (by omega) (by omega)
 have w6:=fun c=>xor8 (b:=c) (x:=128+(digs m0).length) (by omega)
 by_cases hn:n<0
 ·have e1:n+18446744073709551616=((18446744073709551615 - m0:Nat):Int):=by
   have:m0=(-1 - n).toNat:=by rw [←hm0,mag,if_pos hn]
   omega
  have ux:bits .xor .u64 (if IntKind.u64.signed=true then -1 else IntKind.u64.max) ((18446744073709551615 - m0:Nat):Int)=((m0:Nat):Int):=by
   rw [show (if IntKind.u64.signed=true then (-1:Int) else IntKind.u64.max)=((18446744073709551615:Nat):Int) from rfl,u64_xor_nat _ _ (by omega) (by omega),not64 (by omega)]
   omega
  rw [if_pos hn] at h w0
  rw [e1] at w0
  rw [show 127 - (digs m0).length=(jb true (UInt8.ofNat (128+(digs m0).length))).toNat from by
   rw [jb,if_pos rfl,UInt8.toNat_sub_of_le _ _ (by rw [UInt8.le_iff_toNat_le,UInt8.toNat_ofNat'];simp;omega),UInt8.toNat_ofNat']
   simp
   omega,UInt8.ofNat_toNat,decide_eq_true hn] at h
  simp+contextual only [Uj,w0,hn,ux,↓G5,↓XP,↓XU,qn,XW1,qa,qb,qc,qd,qe,qf,reduceCtorEq]
  refine w_cnt (b:=true) (m0:=m0) (by omega) ⟨rfl,rfl,rfl,rfl,trivial⟩ (fun F' hF'=>?_)
  obtain ⟨z,rfl⟩:∃z:Nat→D,_=(let b:=true; [z 0,z 1,z 2,.int .u64 (m0:Int),.int .u8 (zK b),.int .i64 ((digs m0).length:Int),z 6,z 7,z 8,z 9,z 10,z 11,z 12,z 13,z 14,z 15,z 16,z 17,z 18,z 19,z 20,z 21,z 22,z 23,z 24,z 25,z 26,z 27,z 28,z 29,z 30,z 31,z 32,z 33,z 34,z 35,z 36,z 37,z 38,z 39,z 40,z 41,z 42,z 43,z 44,z 45,z 46]):=hF'.lit
  simp+contextual only [Uj,w3,w4,w5,w6,↓G5,↓XP,↓XU,qn,XW1,qa,qb,qc,qd,qe,qf,reduceCtorEq]
  rw [Wz (UInt8.toNat_lt _),UInt8.ofNat_toNat]
  refine w_out (b:=true) (m0:=m0) (hd:=jb true (UInt8.ofNat (128+(digs m0).length))) (by omega) ⟨rfl,rfl,rfl,rfl,rfl,trivial⟩ (fun F' hF'=>?_)
  obtain ⟨z,rfl⟩:∃z:Nat→D,_=(let b:=true;let hd:=jb true (UInt8.ofNat (128+(digs m0).length)); [z 0,z 1,z 2,z 3,z 4,z 5,.own ((hd::(digs m0).reverse.map (jb b)).map qA),z 7,z 8,z 9,z 10,z 11,z 12,z 13,z 14,z 15,z 16,z 17,z 18,z 19,z 20,z 21,z 22,z 23,z 24,z 25,z 26,z 27,z 28,z 29,z 30,z 31,z 32,z 33,z 34,z 35,z 36,z 37,z 38,z 39,z 40,z 41,z 42,z 43,z 44,z 45,z 46]):=hF'.lit
  simp+contextual only [Uj,↓G5,↓XP,↓XU,qn,XW1,qa,qb,qc,qd,qe,qf,reduceCtorEq]
  exact h
 ·have e1:n=((m0:Nat):Int):=by rw [←hm0,mag,if_neg hn];omega
  rw [if_neg hn] at h w0
  rw [show 128+(digs m0).length=(jb false (UInt8.ofNat (128+(digs m0).length))).toNat from by
   rw [jb,if_neg (by simp),UInt8.toNat_ofNat']
   omega,UInt8.ofNat_toNat,decide_eq_false hn] at h
  replace w0:IntKind.u64.wrap n=(m0:Int):=w0.trans e1
  simp+contextual only [Uj,w0,hn,↓G5,↓XP,↓XU,qn,XW1,qa,qb,qc,qd,qe,qf,reduceCtorEq]
  refine w_cnt (b:=false) (m0:=m0) (by omega) ⟨rfl,rfl,rfl,rfl,trivial⟩ (fun F' hF'=>?_)
  obtain ⟨z,rfl⟩:∃z:Nat→D,_=(let b:=false; [z 0,z 1,z 2,.int .u64 (m0:Int),.int .u8 (zK b),.int .i64 ((digs m0).length:Int),z 6,z 7,z 8,z 9,z 10,z 11,z 12,z 13,z 14,z 15,z 16,z 17,z 18,z 19,z 20,z 21,z 22,z 23,z 24,z 25,z 26,z 27,z 28,z 29,z 30,z 31,z 32,z 33,z 34,z 35,z 36,z 37,z 38,z 39,z 40,z 41,z 42,z 43,z 44,z 45,z 46]):=hF'.lit
  simp+contextual only [Uj,w3,w4,w5,w6,↓G5,↓XP,↓XU,qn,XW1,qa,qb,qc,qd,qe,qf,reduceCtorEq]
  rw [Wz (UInt8.toNat_lt _),UInt8.ofNat_toNat]
  refine w_out (b:=false) (m0:=m0) (hd:=jb false (UInt8.ofNat (128+(digs m0).length))) (by omega) ⟨rfl,rfl,rfl,rfl,rfl,trivial⟩ (fun F' hF'=>?_)
  obtain ⟨z,rfl⟩:∃z:Nat→D,_=(let b:=false;let hd:=jb false (UInt8.ofNat (128+(digs m0).length)); [z 0,z 1,z 2,z 3,z 4,z 5,.own ((hd::(digs m0).reverse.map (jb b)).map qA),z 7,z 8,z 9,z 10,z 11,z 12,z 13,z 14,z 15,z 16,z 17,z 18,z 19,z 20,z 21,z 22,z 23,z 24,z 25,z 26,z 27,z 28,z 29,z 30,z 31,z 32,z 33,z 34,z 35,z 36,z 37,z 38,z 39,z 40,z 41,z 42,z 43,z 44,z 45,z 46]):=hF'.lit
  simp+contextual only [Uj,↓G5,↓XP,↓XU,qn,XW1,qa,qb,qc,qd,qe,qf,reduceCtorEq]
  exact h
end Go.Proofs.YtpdhandimdibhaaGreatDoor
end
section
namespace Go.Proofs.YtpdhandimdibhaaGreatDoor
open Go Go.Aw
theorem KC {s:List UInt8} {H:AH} {R:D→AH→Prop} (hs:s.length≤3000000000) (h:R (.own ((j6 s).map qA)) H):ACall Tryz.prog 74 [.str s] H R:=by
 refine b74 fun hf=>?_
 have hbig:=qt
 have hl:=ue (n:=s.length) (by omega)
 simp+contextual only [x74,qj,↓Uw,↓XP,↓XU,qn,XW1,qa,qb,qc,qd,qe,qf,reduceCtorEq]
 refine fun _=>Q5 fun _=>?_
 simp+contextual only [x74,qj,↓Uw,↓XP,↓XU,qn,XW1,qa,qb,qc,qd,qe,qf,reduceCtorEq]
 refine fun _=>⟨jr,by omega,?_⟩
 rw [←List.map_append]
 exact h
theorem gA {l:List Int} {H:AH} {R:D→AH→Prop} (hl:l.length≤30000000) (h:(jg l).length≤9+9*l.length→R (.own ((jg l).map qA)) H):ACall Tryz.prog 70 [.slc (ints l)] H R:=by
 refine b70 fun hf=>?_
 have hbig:=qt
 have hle:=ue (n:=l.length) (by omega)
 simp+contextual only [x70,qj,qr,↓U70,↓XP,↓XU,qn,XW1,qa,qb,qc,qd,qe,qf,reduceCtorEq]
 refine fun _=>Q5 fun _=>?_
 simp+contextual only [x70,qj,qr,↓U70,↓XP,↓XU,qn,XW1,qa,qb,qc,qd,qe,qf,reduceCtorEq]
 refine fun _ _=>XW.loopK Go.Proofs.YtpdhandimdibhaaGreatDoor.hm (fun F H'=>∃(i:Nat),i≤l.length∧(∀x∈l.take i,vk .i64 x)∧Fr 21 [(3,.own ((qQ l.length++(l.take i).flatMap qQ).map qA)),(9,.slc (ints l)),(10,.int .i64 l.length),(11,.int .i64 i)] F∧H=H') (fun F H=>match F.getD 11 .any with| .int _ n'=>l.length - n'.toNat|_=>0) ⟨0,by omega,by simp,by simp only [List.take_zero,List.flatMap_nil,List.append_nil];exact ⟨rfl,rfl,rfl,rfl,rfl,trivial⟩,rfl⟩ ?_
 rintro _ _ ⟨i,hi,hr,hF,rfl⟩ K hN hE hR
 obtain ⟨z,rfl⟩:∃z:Nat→D,_=zz z 0 3 (.own ((qQ l.length++(l.take i).flatMap qQ).map qA)::zz z 4 5 (.slc (ints l):: .int .i64 l.length:: .int .i64 i::zz z 12 9 [])):=hF.lit
 try dsimp only [zz,qb] at*
 clear hF hR
 by_cases hlt:i<l.length
 ·have nx:vk .i64 (l.getD i 0)→∀F',Fr 21 [(3,.own ((qQ l.length++(l.take i).flatMap qQ++qQ (l.getD i 0)).map qA)),(9,.slc (ints l)),(10,.int .i64 l.length),(11,.int .i64 ((i+1:Nat):Int))] F'→K .normal F' H:=fun hx F' hF'=>hN _ _ ⟨i+1,hlt,fun x hx'=>by
   rw [List.take_add_one] at hx'
   rcases List.mem_append.1 hx' with hx'|hx'
   ·exact hr x hx'
   ·simp [hlt] at hx'
    rw [hx']
    simpa [hlt] using hx,by rw [uJ (d:=0) hlt,←List.append_assoc];exact hF',(j7 rfl).symm⟩ (by
   rw [List.getD_eq_getElem?_getD,hF'.2.2.2.2.1]
   simp only [List.getD_cons_succ,List.getD_cons_zero,Option.getD_some]
   omega)
  clear hN hE
  have q1:=U0 (l:=l) hlt
  have hfl:=zq hr
  rw [List.length_take] at hfl
  generalize l.getD i 0=x at q1 nx
  have hal:(qQ (l.length:Int)++(l.take i).flatMap qQ).length≤9+9*i:=by rw [List.length_append];omega
  generalize qQ (l.length:Int)++(l.take i).flatMap qQ=ac at nx hal ⊢
  simp+contextual only [x70,qj,qr,hlt,Int.ofNat_lt,q1,qp (show i≤big by omega),↓U70,↓XP,↓XU,qn,XW1,qa,qb,qc,qd,qe,qf,reduceCtorEq]
  refine fun hx=>Q5 fun _=>?_
  have hxl:=og hx
  simp+contextual only [x70,qj,qr,qp (show i≤big by omega),↓U70,↓XP,↓XU,qn,XW1,qa,qb,qc,qd,qe,qf,reduceCtorEq]
  refine fun _=>⟨jr,jr,by omega,?_⟩
  rw [←List.map_append]
  exact nx hx _ ⟨rfl,rfl,rfl,rfl,rfl,trivial⟩
 ·have hik:i=l.length:=by omega
  subst hik
  clear hN
  simp+contextual only [x70,qj,qr,↓U70,↓XP,↓XU,qn,XW1,qa,qb,qc,qd,qe,qf,reduceCtorEq]
  refine hE _ _ _ ?_
  rw [List.take_length] at hr ⊢
  simp+contextual only [x70,qj,qr,↓U70,↓XP,↓XU,qn,XW1,qa,qb,qc,qd,qe,qf,reduceCtorEq]
  refine h ?_
  have:=zq hr
  rw [jg,List.length_append]
  omega
theorem YN {l:List (List UInt8)} {H:AH} {R:D→AH→Prop} (hl:l.length≤1000) (hs:∀x∈l,x.length≤3000000) (h:R (.own ((yv l).map qA)) H):ACall Tryz.prog 73 [.slc (strs l)] H R:=by
 refine b73 fun hf=>?_
 have hbig:=qt
 have hle:=ue (n:=l.length) (by omega)
 simp+contextual only [x73,qj,qK,↓U73,↓XP,↓XU,qn,XW1,qa,qb,qc,qd,qe,qf,reduceCtorEq]
 refine fun _=>Q5 fun _=>?_
 simp+contextual only [x73,qj,qK,↓U73,↓XP,↓XU,qn,XW1,qa,qb,qc,qd,qe,qf,reduceCtorEq]
 refine fun _ _=>XW.loopK Go.Proofs.YtpdhandimdibhaaGreatDoor.hm (fun F H'=>∃(i:Nat),i≤l.length∧Fr 21 [(3,.own ((qQ l.length++(l.take i).flatMap j6).map qA)),(9,.slc (strs l)),(10,.int .i64 l.length),(11,.int .i64 i)] F∧H=H') (fun F H=>match F.getD 11 .any with| .int _ n'=>l.length - n'.toNat|_=>0) ⟨0,by omega,by simp only [List.take_zero,List.flatMap_nil,List.append_nil];exact ⟨rfl,rfl,rfl,rfl,rfl,trivial⟩,rfl⟩ ?_
 rintro _ _ ⟨i,hi,hF,rfl⟩ K hN hE hR
 obtain ⟨z,rfl⟩:∃z:Nat→D,_=zz z 0 3 (.own ((qQ l.length++(l.take i).flatMap j6).map qA)::zz z 4 5 (.slc (strs l):: .int .i64 l.length:: .int .i64 i::zz z 12 9 [])):=hF.lit
 try dsimp only [zz,qb] at*
 clear hF hR
 by_cases hlt:i<l.length
 ·have nx:∀F',Fr 21 [(3,.own ((qQ l.length++(l.take i).flatMap j6++j6 (l.getD i [])).map qA)),(9,.slc (strs l)),(10,.int .i64 l.length),(11,.int .i64 ((i+1:Nat):Int))] F'→K .normal F' H:=fun F' hF'=>hN _ _ ⟨i+1,hlt,by rw [uJ (d:= []) hlt,←List.append_assoc];exact hF',(j7 rfl).symm⟩ (by
   rw [List.getD_eq_getElem?_getD,hF'.2.2.2.2.1]
   simp only [List.getD_cons_succ,List.getD_cons_zero,Option.getD_some]
   omega)
  clear hN hE
  have q1:=VK (l:=l) hlt
  have hfl:=zE (l:=l.take i) (c:=3000000) (fun x hx=>hs x (List.mem_of_mem_take hx)) (by omega)
  have hx1:(l.getD i []).length≤3000000:=hs _ (by rw [js hlt];exact List.getElem_mem hlt)
  rw [List.length_take] at hfl
  generalize l.getD i []=x at q1 nx hx1
  have hal:(qQ (l.length:Int)++(l.take i).flatMap j6).length≤9+3000009*1000:=by
   rw [List.length_append]
   have:(9+3000000)*min i l.length≤3000009*1000:=Nat.mul_le_mul_left _ (by omega)
   omega
  generalize qQ (l.length:Int)++(l.take i).flatMap j6=ac at nx hal ⊢
  simp+contextual only [x73,qj,qK,hlt,Int.ofNat_lt,q1,qp (show i≤big by omega),↓U73,↓XP,↓XU,qn,XW1,qa,qb,qc,qd,qe,qf,reduceCtorEq]
  refine fun _=>KC (by omega) ?_
  have hxl:(j6 x).length≤9+3000000:=by
   have:=ue (n:=x.length) (by omega)
   simp only [j6,List.length_append]
   omega
  simp+contextual only [x73,qj,qK,qp (show i≤big by omega),↓U73,↓XP,↓XU,qn,XW1,qa,qb,qc,qd,qe,qf,reduceCtorEq]
  refine fun _=>⟨jr,jr,by omega,?_⟩
  rw [←List.map_append]
  exact nx _ ⟨rfl,rfl,rfl,rfl,rfl,trivial⟩
 ·have hik:i=l.length:=by omega
  subst hik
  clear hN
  simp+contextual only [x73,qj,qK,↓U73,↓XP,↓XU,qn,XW1,qa,qb,qc,qd,qe,qf,reduceCtorEq]
  refine hE _ _ _ ?_
  rw [List.take_length]
  simp+contextual only [x73,qj,qK,↓U73,↓XP,↓XU,qn,XW1,qa,qb,qc,qd,qe,qf,reduceCtorEq]
  exact h
end Go.Proofs.YtpdhandimdibhaaGreatDoor
end
section
namespace Go.Proofs.YtpdhandimdibhaaGreatDoor
open Go.Xs
open Go Go.Aw
def x18_s0:XC:=(.reg [m 1 12,l 37 5 13,a (.call ⟨(.value (t 12)),#[(t 13)],#[37]⟩) 14])
def x18_s1:XC:=(.seq (.block 1 (.seq (.reg [j 30 6 8 10,b (.load 37 (t 10)) 11,a (.alloc 37) 5,w 37 5 11]) x18_s0)) (.reg [a (.binOp .add 3 (t 8) (i 1) 3) 15,m 15 8]))
def x18_L2:XC:=(.seq (.reg [a (.binOp .lss 3 (t 8) (t 7) 3) 9]) (.seq (.cond (t 9) .skip (.exit 0)) x18_s1))
def V18:=PLift.up (aI (@unf _ _ x18_s0.eq_1) (aI (@unf _ _ x18_s1.eq_1) (@unf _ _ x18_L2.eq_1)))
theorem U18:type_of% V18.down:=V18.down
def Ul:XC:=(.seq (.reg [m 0 6,e 30 6 7,a (.move (i 0)) 8]) (.block 0 (.loop x18_L2)))
theorem b18:Bt 18 16 Ul []:=bt Tryz.func18 rfl (by kernel_rfl) (by kernel_rfl) (by kernel_rfl)
theorem r18 {args:List D} {H:AH} {R:D→AH→Prop} (h:facts args→xcode Tryz.prog Ul (args++List.replicate (16 - args.length) (.tup [])) H (JB Tryz.prog [] R)):ACall Tryz.prog 18 args H R:=
 yy hm Tryz.func18 rfl (by kernel_rfl) (by kernel_rfl) (by kernel_rfl) (by kernel_rfl) (by kernel_rfl) (by kernel_rfl) h
def x3_s0:XC:=(.reg [m 15 84,b (.binOp .add 3 (t 84) (i 1) 3) 85,n 85 15])
def x3_s1:XC:=(.seq (.block 5 (.seq (.regD [m 12 86,m 15 87,j 30 86 87 88,l 37 88 89,m 13 90,m 14 91,j 30 90 91 92,l 37 92 93,a (.binOp .eql 37 (t 89) (t 93) 37) 94]) (.cond (t 94) (.seq (.reg [a (.assign (.const (.bool false))) 8]) .ret) .skip))) x3_s0)
def x3_L2:XC:=(.seq (.seq (.reg [m 15 80,m 12 81,e 30 81 82,a (.binOp .lss 3 (t 80) (t 82) 3) 83]) (.cond (t 83) .skip (.exit 4))) x3_s1)
def x3_s3:XC:=(.reg [m 14 64,b (.binOp .add 3 (t 64) (i 1) 3) 65,n 65 14])
def x3_s4:XC:=(.seq (.block 3 (.seq (.seq (.reg [m 10 66,m 11 67,j 29 66 67 68,l 26 68 69,a (k 11 #[(t 69)] #[26]) 70,a (.binOp .eql 33 (t 70) (i 0) 33) 71,m 71 72,g (.move (t 13)) 73 72 true,g (.move (t 14)) 74 72 true,g (.indexAddr 30 (t 73) (t 74)) 75 72 true,g (.load 37 (t 75)) 76 72 true,g (k 12 #[(t 76)] #[37]) 77 72 true,g (.unOp .not 4 (t 77)) 78 72 true,a (.pick (t 72) (t 78) (.const (.bool false))) 79]) (.cond (t 79) (.seq (.reg [a (.assign (.const (.bool false))) 8]) .ret) .skip)) (.seq (.reg [a (.assign (i 0)) 15]) (.block 4 (.loop x3_L2))))) x3_s3)
def x3_L5:XC:=(.seq (.seq (.reg [m 14 60,m 13 61,e 30 61 62,a (.binOp .lss 3 (t 60) (t 62) 3) 63]) (.cond (t 63) .skip (.exit 2))) x3_s4)
def x3_s6:XC:=(.seq (.seq (.reg [m 12 42,m 10 43,m 11 44,j 29 43 44 45,l 26 45 46,a (k 9 #[(t 46)] #[26]) 47,a (k 8 #[(t 42),(t 47)] #[30,30]) 48,a (.unOp .not 4 (t 48)) 49,m 49 50,g (.move (t 13)) 51 50 false,g (.move (t 10)) 52 50 false,g (.move (t 11)) 53 50 false,g (.indexAddr 29 (t 52) (t 53)) 54 50 false,g (.load 26 (t 54)) 55 50 false,g (k 10 #[(t 55)] #[26]) 56 50 false,g (k 8 #[(t 51),(t 56)] #[30,30]) 57 50 false,g (.unOp .not 4 (t 57)) 58 50 false,a (.pick (t 50) (.const (.bool true)) (t 58)) 59]) (.cond (t 59) (.seq (.reg [a (.assign (.const (.bool false))) 8]) .ret) .skip)) (.seq (.reg [a (.assign (i 0)) 14]) (.block 2 (.loop x3_L5))))
def x3_s7:XC:=(.seq (.reg [m 10 37,m 11 38,j 29 37 38 39,l 26 39 40,b (k 7 #[(t 40)] #[26]) 41,n 41 13]) x3_s6)
def x3_s8:XC:=(.reg [m 11 30,b (.binOp .add 3 (t 30) (i 1) 3) 31,n 31 11])
def x3_s9:XC:=(.seq (.block 1 (.seq (.reg [m 10 32,m 11 33,j 29 32 33 34,l 26 34 35,b (k 6 #[(t 35)] #[26]) 36,n 36 12]) x3_s7)) x3_s8)
def x3_L10:XC:=(.seq (.seq (.reg [m 11 28,a (.binOp .lss 3 (t 28) (i 3) 3) 29]) (.cond (t 29) .skip (.exit 0))) x3_s9)
def x3_s11:XC:=(.seq (.seq (.reg [a (.assign (i 0)) 11]) (.block 0 (.loop x3_L10))) (.seq (.reg [b (k 13 #[] #[]) 95,n 95 8]) .ret))
def x3_s12:XC:=(.seq (.regD [l 26 9 19,l 26 9 20,m 1 21,a (.binOp .quo 3 (t 21) (i 5) 3) 22,m 2 23,m 3 24,a (k 5 #[(t 20),(t 22),(t 23),(t 24)] #[26,3,3,3]) 25,a (.build 26 #[]) 26,b (.buildSlice 29 3 #[(0,(t 19)),(1,(t 25)),(2,(t 26))]) 27,n 27 10]) x3_s11)
def x3_s13:XC:=(.seq (.reg [m 0 16,m 1 17,b (k 4 #[(t 16),(t 17)] #[22,3]) 18,a (.alloc 26) 9,w 26 9 18]) x3_s12)
def V3:=PLift.up (aI (aI (aI (@unf _ _ x3_s0.eq_1) (aI (@unf _ _ x3_s1.eq_1) (@unf _ _ x3_L2.eq_1))) (aI (aI (@unf _ _ x3_s3.eq_1) (@unf _ _ x3_s4.eq_1)) (aI (@unf _ _ x3_L5.eq_1) (@unf _ _ x3_s6.eq_1)))) (aI (aI (@unf _ _ x3_s7.eq_1) (aI (@unf _ _ x3_s8.eq_1) (@unf _ _ x3_s9.eq_1))) (aI (aI (@unf _ _ x3_L10.eq_1) (@unf _ _ x3_s11.eq_1)) (aI (@unf _ _ x3_s12.eq_1) (@unf _ _ x3_s13.eq_1)))))
theorem U3:type_of% V3.down:=V3.down
def x3:XC:=(.seq (.reg [a (.assign (.const (.bool false))) 8]) x3_s13)
theorem b3:Bt 3 96 x3 [(.tmp 8)]:=bt Tryz.func3 rfl (by kernel_rfl) (by kernel_rfl) (by kernel_rfl)
def x7_s0:XC:=(.reg [f 47 6 3 23,l 30 23 24,m 4 25,a (k 18 #[(t 24),(t 25)] #[30,50]) 26])
def x7_s1:XC:=(.seq (.reg [m 4 19,f 47 6 2 20,l 37 20 21,a (.call ⟨(.value (t 19)),#[(t 21)],#[37]⟩) 22]) x7_s0)
def x7_s2:XC:=(.seq (.reg [m 4 15,f 47 6 1 16,l 37 16 17,a (.call ⟨(.value (t 15)),#[(t 17)],#[37]⟩) 18]) x7_s1)
def x7_s3:XC:=(.seq (.block 1 (.seq (.reg [j 24 9 11 13,b (.load 47 (t 13)) 14,a (.alloc 47) 6,w 47 6 14]) x7_s2)) (.reg [a (.binOp .add 3 (t 11) (i 1) 3) 27,m 27 11]))
def x7_L4:XC:=(.seq (.reg [a (.binOp .lss 3 (t 11) (t 10) 3) 12]) (.seq (.cond (t 12) .skip (.exit 0)) x7_s3))
def x7_s5:XC:=(.seq (.reg [l 30 3 30,b (k 21 #[(t 30)] #[30]) 31,n 31 2]) .ret)
def x7_s6:XC:=(.seq (.seq (.reg [f 26 1 4 8,l 24 8 9,e 24 9 10,a (.move (i 0)) 11]) (.block 0 (.loop x7_L4))) (.seq (.gh (.reg [l 30 3 28,a (k 19 #[(t 28),(.func 20)] #[30,53]) 29])) x7_s5))
def x7_s7:XC:=(.seq (.reg [a (.alloc 30) 3]) (.seq (.reg [b (.makeFunc (.func 17) #[] #[(t 1),(t 3)]) 7,n 7 4]) x7_s6))
def V7:=PLift.up (aI (aI (aI (@unf _ _ x7_s0.eq_1) (@unf _ _ x7_s1.eq_1)) (aI (@unf _ _ x7_s2.eq_1) (@unf _ _ x7_s3.eq_1))) (aI (aI (@unf _ _ x7_L4.eq_1) (@unf _ _ x7_s5.eq_1)) (aI (@unf _ _ x7_s6.eq_1) (@unf _ _ x7_s7.eq_1))))
theorem U7:type_of% V7.down:=V7.down
def x7:XC:=(.seq (.reg [a (.box 26 (t 0)) 1,a (.assign (.const (.slice .none 0 0))) 2]) x7_s7)
theorem b7:Bt 7 32 x7 [(.tmp 2)]:=bt Tryz.func7 rfl (by kernel_rfl) (by kernel_rfl) (by kernel_rfl)
def x9_c0:XC:=(.reg [c (.move (t 3)) 33,f 26 1 0 34,l 3 34 35,f 26 1 1 36,l 3 36 37,m 4 38,a (.build 37 #[(0,(t 35)),(1,(t 37)),(2,(t 38))]) 39,a (.buildSlice 30 1 #[(0,(t 39))]) 40,b (.call ⟨(.builtin .append),#[(t 33),(t 40)],#[30,30]⟩) 41,n 41 3])
def x9_s1:XC:=(.seq (.reg [m 5 19,a (.binOp .eql 3 (t 19) (i 1) 3) 20,m 20 21,g (.move (t 5)) 22 21 false,g (.binOp .eql 3 (t 22) (i 2) 3) 23 21 false,a (.pick (t 21) (.const (.bool true)) (t 23)) 24,m 24 25,g (.move (t 5)) 26 25 false,g (.binOp .eql 3 (t 26) (i 3) 3) 27 25 false,a (.pick (t 25) (.const (.bool true)) (t 27)) 28,m 28 29,g (.move (t 5)) 30 29 false,g (.binOp .eql 3 (t 30) (i 4) 3) 31 29 false,a (.pick (t 29) (.const (.bool true)) (t 31)) 32]) (.cond (t 32) x9_c0 .skip))
def x9_s2:XC:=(.reg [m 4 11,b (.binOp .add 3 (t 11) (i 1) 3) 12,n 12 4])
def x9_s3:XC:=(.seq (.block 1 (.seq (.reg [f 26 1 4 13,l 24 13 14,m 4 15,j 24 14 15 16,f 47 16 0 17,b (.load 3 (t 17)) 18,n 18 5]) x9_s1)) x9_s2)
def x9_L4:XC:=(.seq (.seq (.reg [m 4 6,f 26 1 4 7,l 24 7 8,e 24 8 9,a (.binOp .lss 3 (t 6) (t 9) 3) 10]) (.cond (t 10) .skip (.exit 0))) x9_s3)
def x9_s5:XC:=(.seq (.seq (.reg [a (.assign (i 0)) 4]) (.block 0 (.loop x9_L4))) (.seq (.reg [b (.move (t 3)) 42,n 42 2]) .ret))
def V9:=PLift.up (aI (aI (@unf _ _ x9_c0.eq_1) (aI (@unf _ _ x9_s1.eq_1) (@unf _ _ x9_s2.eq_1))) (aI (@unf _ _ x9_s3.eq_1) (aI (@unf _ _ x9_L4.eq_1) (@unf _ _ x9_s5.eq_1))))
theorem U9:type_of% V9.down:=V9.down
def x9:XC:=(.seq (.reg [a (.box 26 (t 0)) 1,a (.assign (.const (.slice .none 0 0))) 2]) (.seq (.reg [a (.assign (.const (.slice .none 0 0))) 3]) x9_s5))
theorem b9:Bt 9 43 x9 [(.tmp 2)]:=bt Tryz.func9 rfl (by kernel_rfl) (by kernel_rfl) (by kernel_rfl)
def x10_s0:XC:=(.cond (t 62) (.reg [m 3 63,l 37 7 64,b (k 22 #[(t 63),(t 64)] #[30,37]) 65,n 65 3]) .skip)
def x10_s1:XC:=(.seq (.reg [l 37 7 46,a (.build 37 #[]) 47,a (.binOp .neq 37 (t 46) (t 47) 37) 48,m 48 49,g (.fieldAddr 37 (t 7) 0) 50 49 true,g (.load 3 (t 50)) 51 49 true,g (.fieldAddr 26 (t 1) 0) 52 49 true,g (.load 3 (t 52)) 53 49 true,g (.binOp .neq 3 (t 51) (t 53) 3) 54 49 true,g (.move (t 54)) 55 49 true,g (.fieldAddr 37 (t 7) 1) 56 55 false,g (.load 3 (t 56)) 57 55 false,g (.fieldAddr 26 (t 1) 1) 58 55 false,g (.load 3 (t 58)) 59 55 false,g (.binOp .neq 3 (t 57) (t 59) 3) 60 55 false,g (.pick (t 55) (.const (.bool true)) (t 60)) 61 49 true,a (.pick (t 49) (t 61) (.const (.bool false))) 62]) x10_s0)
def x10_s2:XC:=(.reg [m 6 40,b (.binOp .add 3 (t 40) (i 1) 3) 41,n 41 6])
def x10_s3:XC:=(.seq (.block 3 (.seq (.reg [m 5 42,m 6 43,j 30 42 43 44,b (.load 37 (t 44)) 45,a (.alloc 37) 7,w 37 7 45]) x10_s1)) x10_s2)
def x10_L4:XC:=(.seq (.seq (.reg [m 6 36,m 5 37,e 30 37 38,a (.binOp .lss 3 (t 36) (t 38) 3) 39]) (.cond (t 39) .skip (.exit 2))) x10_s3)
def x10_s5:XC:=(.seq (.reg [c (.move (t 5)) 28,f 26 1 4 29,l 24 29 30,m 4 31,j 24 30 31 32,f 47 32 3 33,l 30 33 34,b (.call ⟨(.builtin .append),#[(t 28),(t 34)],#[30,30]⟩) 35,n 35 5]) (.seq (.reg [a (.assign (i 0)) 6]) (.block 2 (.loop x10_L4))))
def x10_s6:XC:=(.reg [m 4 13,b (.binOp .add 3 (t 13) (i 1) 3) 14,n 14 4])
def x10_s7:XC:=(.seq (.block 1 (.seq (.regD [f 26 1 4 15,l 24 15 16,m 4 17,j 24 16 17 18,f 47 18 1 19,l 37 19 20,f 26 1 4 21,l 24 21 22,m 4 23,j 24 22 23 24,f 47 24 2 25,l 37 25 26,b (.buildSlice 30 2 #[(0,(t 20)),(1,(t 26))]) 27,n 27 5]) x10_s5)) x10_s6)
def x10_L8:XC:=(.seq (.seq (.reg [m 4 8,f 26 1 4 9,l 24 9 10,e 24 10 11,a (.binOp .lss 3 (t 8) (t 11) 3) 12]) (.cond (t 12) .skip (.exit 0))) x10_s7)
def x10_s9:XC:=(.seq (.seq (.reg [a (.assign (i 0)) 4]) (.block 0 (.loop x10_L8))) (.seq (.reg [b (.move (t 3)) 66,n 66 2]) .ret))
def V10:=PLift.up (aI (aI (aI (@unf _ _ x10_s0.eq_1) (@unf _ _ x10_s1.eq_1)) (aI (@unf _ _ x10_s2.eq_1) (aI (@unf _ _ x10_s3.eq_1) (@unf _ _ x10_L4.eq_1)))) (aI (aI (@unf _ _ x10_s5.eq_1) (@unf _ _ x10_s6.eq_1)) (aI (@unf _ _ x10_s7.eq_1) (aI (@unf _ _ x10_L8.eq_1) (@unf _ _ x10_s9.eq_1)))))
theorem KN:type_of% V10.down:=V10.down
def Kp:XC:=(.seq (.reg [a (.box 26 (t 0)) 1,a (.assign (.const (.slice .none 0 0))) 2]) (.seq (.reg [a (.assign (.const (.slice .none 0 0))) 3]) x10_s9))
theorem b10:Bt 10 67 Kp [(.tmp 2)]:=bt Tryz.func10 rfl (by kernel_rfl) (by kernel_rfl) (by kernel_rfl)
def x17_c0:XC:=(.reg [c (.load 30 (t 2)) 21,l 37 3 22,a (.buildSlice 30 1 #[(0,(t 22))]) 23,b (.call ⟨(.builtin .append),#[(t 21),(t 23)],#[30,30,0]⟩) 24,w 30 2 24])
def x17_s1:XC:=(.seq (.reg [l 37 3 4,a (.build 37 #[]) 5,a (.binOp .neq 37 (t 4) (t 5) 37) 6,m 6 7,g (.fieldAddr 37 (t 3) 0) 8 7 true,g (.load 3 (t 8)) 9 7 true,g (.fieldAddr 26 (t 1) 0) 10 7 true,g (.load 3 (t 10)) 11 7 true,g (.binOp .neq 3 (t 9) (t 11) 3) 12 7 true,g (.move (t 12)) 13 7 true,g (.fieldAddr 37 (t 3) 1) 14 13 false,g (.load 3 (t 14)) 15 13 false,g (.fieldAddr 26 (t 1) 1) 16 13 false,g (.load 3 (t 16)) 17 13 false,g (.binOp .neq 3 (t 15) (t 17) 3) 18 13 false,g (.pick (t 13) (.const (.bool true)) (t 18)) 19 7 true,a (.pick (t 7) (t 19) (.const (.bool false))) 20]) (.cond (t 20) x17_c0 .skip))
def V17:=PLift.up (aI (@unf _ _ x17_c0.eq_1) (@unf _ _ x17_s1.eq_1))
theorem U17:type_of% V17.down:=V17.down
def x17:XC:=(.seq (.reg [a (.box 37 (t 0)) 3]) x17_s1)
theorem r17 {args:List D} {H:AH} {R:D→AH→Prop} (h:facts args→xcode Tryz.prog x17 (args++List.replicate (25 - args.length) (.tup [])) H (JB Tryz.prog [] R)):ACall Tryz.prog 17 args H R:=
 yy hm Tryz.func17 rfl (by kernel_rfl) (by kernel_rfl) (by kernel_rfl) (by kernel_rfl) (by kernel_rfl) (by kernel_rfl) h
end Go.Proofs.YtpdhandimdibhaaGreatDoor
end
section
namespace Go.Proofs.YtpdhandimdibhaaGreatDoor
open Go Go.Aw
theorem f_id {x:Id3} {b:Nat} {xs:List Int} {H:AH} {R:D→AH→Prop} (hl:xs.length≤30000000) (hbH:qu H b=none) (h:R (.tup []) ((b,.cells [.own (ints (xs++uX x))])::H)):ACall Tryz.prog 72 [.ptr b 0,.agg x.d] ((b,.cells [.own (ints xs)])::H) R:=by
 refine b72 fun hf=>?_
 have hbig:=qt
 have hd:x.d= [.int .i64 x.o,.int .i64 x.s,.int .i64 x.i]:=rfl
 simp+contextual only [x72,hd,↓JL,↓XP,↓XU,qn,XW1,qa,qb,qc,qd,qe,qf,reduceCtorEq]
 intro b1 hb
 have hb0:=Ne.symm hb.1
 have hn:=jf (H:=H) hb.2
 simp+contextual only [x72,hd,hb.1,hb0,jK hb.1,qg hb.1,qg hb0,qh,not_false_eq_true,ud,qr,↓JL,↓XP,↓XU,qn,XW1,qa,qb,qc,qd,qe,qf,reduceCtorEq]
 refine ⟨.inl hbH,fun _ _ _=>⟨ug,by omega,?_⟩⟩
 rw [←ud] at h
 exact h
theorem f_id2 {x:Id3} {b c:Nat} {o:AO} {xs:List Int} {H:AH} {R:D→AH→Prop} (hl:xs.length≤30000000) (hcb:b≠c) (hbH:qu H b=none) (h:R (.tup []) ((c,o)::(b,.cells [.own (ints (xs++uX x))])::H)):ACall Tryz.prog 72 [.ptr b 0,.agg x.d] ((c,o)::(b,.cells [.own (ints xs)])::H) R:=by
 refine b72 fun hf=>?_
 have hbig:=qt
 have hd:x.d= [.int .i64 x.o,.int .i64 x.s,.int .i64 x.i]:=rfl
 simp+contextual only [x72,hd,hcb,qg hcb,jK hcb,qh,not_false_eq_true,↓JL,↓XP,↓XU,qn,XW1,qa,qb,qc,qd,qe,qf,reduceCtorEq]
 intro b1 hb
 have hb0:=Ne.symm hb.2.1
 have hn:=jf (H:=H) hb.2.2
 simp+contextual only [x72,hd,hb.1,hb0,hcb,Ne.symm hb.1,jK hb.2.1,jK hcb,qg hcb,qg hb.2.1,qg (Ne.symm hb.1),qg hb0,qh hb.2.1,qh hcb,not_false_eq_true,ud,qr,↓JL,↓XP,↓XU,qn,XW1,qa,qb,qc,qd,qe,qf,reduceCtorEq]
 refine ⟨.inl hbH,fun _ _ _=>⟨ug,by omega,?_⟩⟩
 rw [←ud] at h
 exact h
theorem f_each {fi:Nat} {ids:List Id3} {b:Nat} {xs:List Int} {H:AH} {R:D→AH→Prop} (hfi:fi=72) (hi:ids.length≤3000000) (hl:xs.length≤10000000) (hbH:qu H b=none) (h:R (.tup []) ((b,.cells [.own (ints (xs++ids.flatMap uX))])::H)):ACall Tryz.prog 18 [.slc (qI ids),.fn fi [.tup [],.ptr b 0]] ((b,.cells [.own (ints xs)])::H) R:=by
 refine b18 fun hf=>?_
 have hbig:=qt
 simp+contextual only [Ul,qk,↓U18,↓XP,↓XU,qn,XW1,qa,qb,qc,qd,qe,qf,reduceCtorEq]
 refine fun _=>XW.loopK Go.Proofs.YtpdhandimdibhaaGreatDoor.hm (fun F H'=>∃(i:Nat),i≤ids.length∧Fr 16 [(1,.fn fi [.tup [],.ptr b 0]),(6,.slc (qI ids)),(7,.int .i64 ids.length),(8,.int .i64 i)] F∧((b,AO.cells [.own (ints (xs++(ids.take i).flatMap uX))])::H)=H') (fun F H=>match F.getD 8 .any with| .int _ n'=>ids.length - n'.toNat|_=>0) ⟨0,by omega,⟨rfl,rfl,rfl,rfl,rfl,trivial⟩,by simp⟩ ?_
 rintro _ _ ⟨i,hi',hF,rfl⟩ K hN hE' hR
 obtain ⟨z,rfl⟩:∃z:Nat→D,_=z 0:: .fn fi [.tup [],.ptr b 0]::zz z 2 4 (.slc (qI ids):: .int .i64 ids.length:: .int .i64 i::zz z 9 7 []):=hF.lit
 try dsimp only [zz,qb] at*
 clear hF hR
 by_cases hlt:i<ids.length
 ·have nx:∀F' H',back ((b,AO.cells [.own (ints (xs++(ids.take i).flatMap uX))])::H).length H'=((b,AO.cells [.own (ints ((xs++(ids.take i).flatMap uX)++uX (ids.getD i default)))])::H)→Fr 16 [(1,.fn fi [.tup [],.ptr b 0]),(6,.slc (qI ids)),(7,.int .i64 ids.length),(8,.int .i64 ((i+1:Nat):Int))] F'→K .normal F' H':=fun F' H' hH hF'=>hN _ _ ⟨i+1,hlt,hF',by rw [Qn (d:=default) hlt,←List.append_assoc];exact hH.symm⟩ (by
   rw [List.getD_eq_getElem?_getD,hF'.2.2.2.2.1]
   simp only [List.getD_cons_succ,List.getD_cons_zero,Option.getD_some]
   omega)
  clear hN hE'
  have q1:=kL hlt
  have hl2:(xs++(ids.take i).flatMap uX).length≤20000000:=by rw [List.length_append,wU,List.length_take];omega
  generalize xs++(ids.take i).flatMap uX=ac at nx hl2 ⊢
  generalize ids.getD i default=e at q1 nx
  have he:e.d= [.int .i64 e.o,.int .i64 e.s,.int .i64 e.i]:=rfl
  simp+contextual only [Ul,qk,hlt,Int.ofNat_lt,q1,he,qp (show i≤big by omega),↓U18,↓XP,↓XU,qn,XW1,qa,qb,qc,qd,qe,qf,reduceCtorEq]
  intro b5 hb
  rw [hfi]
  refine f_id2 (x:=e) (by omega) hb.1 hbH ?_
  rw [←hfi]
  simp+contextual only [Ul,qk,qp (show i≤big by omega),↓U18,↓XP,↓XU,qn,XW1,qa,qb,qc,qd,qe,qf,reduceCtorEq]
  exact nx _ _ (kW rfl) ⟨rfl,rfl,rfl,rfl,rfl,trivial⟩
 ·have hik:i=ids.length:=by omega
  subst hik
  clear hN
  simp+contextual only [Ul,qk,↓U18,↓XP,↓XU,qn,XW1,qa,qb,qc,qd,qe,qf,reduceCtorEq]
  rw [List.take_length]
  refine hE' _ _ _ ?_
  simp+contextual only [Ul,qk,↓U18,↓XP,↓XU,qn,XW1,qa,qb,qc,qd,qe,qf,reduceCtorEq]
  exact h
end Go.Proofs.YtpdhandimdibhaaGreatDoor
end
section
namespace Go.Proofs.YtpdhandimdibhaaGreatDoor
open Go Go.Aw
theorem m_needs {p:Pt} {acc:D} {b1:Nat} {H:AH} {Q:AQ} {F:List D} (hp:p.needs.length≤3000000) (hF:Fr 99 [(1,.ptr b1 0),(3,acc),(4,.own []),(20,.slc (qM p.needs)),(21,.int .i64 p.needs.length),(22,.int .i64 0)] F) (hE:∀F',Fr 99 [(1,.ptr b1 0),(3,acc),(4,.own (ints (jo p.needs)))] F'→Q (.exit 0) F' ((b1,AO.cells p.d)::H)):XW Tryz.prog x44_L2 F ((b1,AO.cells p.d)::H) Q:=by
 have hbig:=qt
 refine XW.loopK Go.Proofs.YtpdhandimdibhaaGreatDoor.hm (fun F H'=>∃(i:Nat),i≤p.needs.length∧Fr 99 [(1,.ptr b1 0),(3,acc),(4,.own (ints (jo (p.needs.take i)))),(20,.slc (qM p.needs)),(21,.int .i64 p.needs.length),(22,.int .i64 i)] F∧((b1,AO.cells p.d)::H)=H') (fun F H=>match F.getD 22 .any with| .int _ n'=>p.needs.length - n'.toNat|_=>0) ⟨0,by omega,hF,rfl⟩ ?_
 rintro _ _ ⟨i,hi,hF,rfl⟩ K hN hE' hR
 obtain ⟨z,rfl⟩:∃z:Nat→D,_=z 0:: .ptr b1 0::z 2::acc:: .own (ints (jo (p.needs.take i)))::zz z 5 15 (.slc (qM p.needs):: .int .i64 p.needs.length:: .int .i64 i::zz z 23 76 []):=hF.lit
 try dsimp only [zz,qb] at*
 clear hF hR
 by_cases hlt:i<p.needs.length
 ·have nx:∀F' H',back ((b1,AO.cells p.d)::H).length H'=((b1,AO.cells p.d)::H)→Fr 99 [(1,.ptr b1 0),(3,acc),(4,.own (ints (jo (p.needs.take i)++ [(p.needs.getD i default).o,(p.needs.getD i default).s]))),(20,.slc (qM p.needs)),(21,.int .i64 p.needs.length),(22,.int .i64 ((i+1:Nat):Int))] F'→K .normal F' H':=fun F' H' hH hF'=>hN _ _ ⟨i+1,hlt,by rw [show jo (p.needs.take (i+1))=jo (p.needs.take i)++ [(p.needs.getD i default).o,(p.needs.getD i default).s] from Qn (d:=default) hlt];exact hF',hH.symm⟩ (by
   rw [List.getD_eq_getElem?_getD,hF'.2.2.2.2.2.2.1]
   simp only [List.getD_cons_succ,List.getD_cons_zero,Option.getD_some]
   omega)
  clear hN hE hE'
  have q1:=uv hlt
  have hl:(jo (p.needs.take i)).length≤6000000:=by rw [yP,List.length_take];omega
  generalize jo (p.needs.take i)=ac at nx hl ⊢
  generalize p.needs.getD i default=e at q1 nx
  have he:e.d= [.int .i64 e.o,.int .i64 e.s]:=rfl
  simp+contextual only [QU,ql,qr,hlt,Int.ofNat_lt,q1,he,qp (show i≤big by omega),↓Jt,↓XP,↓XU,qn,XW1,qa,qb,qc,qd,qe,qf,reduceCtorEq]
  refine fun b6 _ _ _=>⟨ug,by omega,?_⟩
  rw [←ud] at nx
  exact nx _ _ (kW rfl) ⟨rfl,rfl,rfl,rfl,rfl,rfl,rfl,trivial⟩
 ·have hik:i=p.needs.length:=by omega
  subst hik
  clear hN
  simp+contextual only [QU,ql,qr,↓Jt,↓XP,↓XU,qn,XW1,qa,qb,qc,qd,qe,qf,reduceCtorEq]
  rw [List.take_length]
  exact hE' _ _ _ (hE _ ⟨rfl,rfl,rfl,rfl,trivial⟩)
theorem m_op {o:OpP} {ac:List UInt8} {p1 c45 c46:D} {b8:Nat} {q:Int} {H:AH} {Q:AQ} {F:List D} (o1:o.ids.length≤3000000) (o2:o.name.length≤3000000) (o3:o.text.length≤3000000) (hln:ac.length≤1000000000000) (hF:Fr 99 [(1,p1),(3,.own (ac.map qA)),(8,.ptr b8 0),(45,c45),(46,c46),(47,.int .i64 q)] F)
  (hE:(jM o).length≤100000000→∀F' H',(∃pre,H'=pre++((b8,AO.cells o.d)::H))→Fr 99 [(1,p1),(3,.own ((ac++jM o).map qA)),(45,c45),(46,c46),(47,.int .i64 q)] F'→Q .normal F' H'):xcode Tryz.prog x44_s9 F ((b8,AO.cells o.d)::H) Q:=by
 have hbig:=qt
 obtain ⟨z,rfl⟩:∃z:Nat→D,_=z 0::p1::z 2:: .own (ac.map qA)::zz z 4 4 (.ptr b8 0::zz z 9 36 (c45::c46:: .int .i64 q::zz z 48 51 [])):=hF.lit
 try dsimp only [zz,qb] at*
 have hod:o.d= [.int .i64 o.k,.int .i64 o.on.o,.int .i64 o.on.s,.int .i64 o.on.i,.int .i64 o.to.o,.int .i64 o.to.s,.int .i64 o.to.i,.slc (qI o.ids),.int .i64 o.n,.str o.name,.str o.text,.int .i64 o.a,.int .i64 o.b]:=rfl
 simp+contextual only [QU,qk,qr,qj,hod,↓Jt,↓XP,↓XU,qn,XW1,qa,qb,qc,qd,qe,qf,reduceCtorEq]
 refine fun _=>⟨by decide,fun br cap hr b9 hb9=>?_⟩
 rw [zA]
 refine Gz.take (j:=0) rfl (fun _=>jS) ?_
 have e1:jx ((br,.room cap [[D.int .i64 o.k]])::(b8,AO.cells o.d)::H) br [[D.int .i64 o.k]]=((b8,AO.cells o.d)::H):=by simp [jx,qW]
 rw [hod] at e1
 simp+contextual only [QU,qk,qr,qj,e1,hod,↓Jt,↓XP,↓XU,qn,XW1,qa,qb,qc,qd,qe,qf,reduceCtorEq]
 clear e1 hF
 obtain ⟨_,h89,h9⟩:=hb9
 obtain ⟨_,h8r⟩:=hr
 have hn9:qu ((b8,AO.cells o.d)::H) b9=none:=jf ⟨Ne.symm h89,h9⟩
 rw [hod] at hn9
 simp+contextual only [QU,qk,qr,qj,hod,qg h89,↓Jt,↓XP,↓XU,qn,XW1,qa,qb,qc,qd,qe,qf,reduceCtorEq]
 refine f_id (x:=o.on) (xs:= [o.k]) (by simp) hn9 ?_
 simp+contextual only [QU,qk,qr,qj,hod,qg h89,↓Jt,↓XP,↓XU,qn,XW1,qa,qb,qc,qd,qe,qf,reduceCtorEq]
 refine f_id (x:=o.to) (xs:= [o.k]++uX o.on) (by simp [uX]) hn9 ?_
 simp+contextual only [QU,qk,qr,qj,hod,qg h89,↓Jt,↓XP,↓XU,qn,XW1,qa,qb,qc,qd,qe,qf,reduceCtorEq]
 refine fun _ _ _=>⟨ug,by simp [uX],?_⟩
 rw [show ints (o.k::(uX o.on++uX o.to))++ [[D.int .i64 o.n],[D.int .i64 o.a],[D.int .i64 o.b]]=ints (wu o) from rfl]
 have l10:(wu o).length=10:=rfl
 have l3:=wU (l:=o.ids)
 refine gA (by omega) fun k1=>?_
 simp+contextual only [QU,qk,qr,qj,hod,qg h89,↓Jt,↓XP,↓XU,qn,XW1,qa,qb,qc,qd,qe,qf,reduceCtorEq]
 refine fun _=>⟨jr,jr,by omega,fun b10 hb10=>?_⟩
 obtain ⟨h910,h810,h10⟩:=hb10
 have hn10:qu ((b9,AO.cells [.slc (ints (o.k::(uX o.on++uX o.to)))])::(b8,AO.cells o.d)::H) b10=none:=jf ⟨Ne.symm h910,Ne.symm h810,h10⟩
 rw [hod] at hn10
 refine fun _=>f_each (ids:=o.ids) (xs:= []) rfl o1 (by simp) hn10 ?_
 rw [List.nil_append]
 simp+contextual only [QU,qk,qr,qj,hod,qg h89,qg h810,↓Jt,↓XP,↓XU,qn,XW1,qa,qb,qc,qd,qe,qf,reduceCtorEq]
 refine fun _=>gA (l:=o.ids.flatMap uX) (by omega) fun k2=>?_
 simp+contextual only [QU,qk,qr,qj,hod,qg h89,qg h810,qg h910,←List.map_append,List.length_append,↓Jt,↓XP,↓XU,qn,XW1,qa,qb,qc,qd,qe,qf,reduceCtorEq]
 refine fun _=>⟨jr,jr,by omega,?_⟩
 have hb3:∀x∈ [o.name,o.text],x.length≤3000000:=by
  intro x hx
  simp only [List.mem_cons,List.not_mem_nil,or_false] at hx
  rcases hx with rfl|rfl
  ·exact o2
  ·exact o3
 have k3:=UZ hb3
 have k4:=ue (n:= [o.name,o.text].length) (by simp)
 refine fun _ _=>YN (l:= [o.name,o.text]) (by simp) hb3 ?_
 simp+contextual only [QU,qk,qr,qj,hod,qg h89,←List.map_append,List.length_append,↓Jt,↓XP,↓XU,qn,XW1,qa,qb,qc,qd,qe,qf,reduceCtorEq]
 have e2:([o.name,o.text]:List (List UInt8)).length=2:=rfl
 rw [e2] at k3 k4
 refine fun _=>⟨jr,jr,by omega,hE ?_ _ _ ⟨[(b10,_),(b9,_)],rfl⟩ ?_⟩
 ·simp only [jM,List.length_append]
  omega
 ·rw [show ac++jM o=ac++jg (wu o)++jg (o.ids.flatMap uX)++yv [o.name,o.text] by simp only [jM,List.append_assoc]]
  exact ⟨rfl,rfl,rfl,rfl,rfl,rfl,trivial⟩
end Go.Proofs.YtpdhandimdibhaaGreatDoor
end
section
namespace Go.Proofs.YtpdhandimdibhaaGreatDoor
open Go Go.Aw
theorem Z3 {A H:AH}:back H.length (A++H)=H:=by simp [back]
theorem m_ops {p:Pt} {pre:List UInt8} {b1:Nat} {H:AH} {Q:AQ} {F:List D} (hp:Fit p) (hpre:pre.length≤100000000) (hF:Fr 99 [(1,.ptr b1 0),(3,.own (pre.map qA)),(45,.slc (qE p.ops)),(46,.int .i64 p.ops.length),(47,.int .i64 0)] F) (hE:(pre++p.ops.flatMap jM).length≤1000000000000→∀F',Fr 99 [(1,.ptr b1 0),(3,.own ((pre++p.ops.flatMap jM).map qA))] F'→Q (.exit 2) F' ((b1,AO.cells p.d)::H)):XW Tryz.prog x44_L11 F ((b1,AO.cells p.d)::H) Q:=by
 have hbig:=qt
 have hpo:=hp.ops
 refine XW.loopK Go.Proofs.YtpdhandimdibhaaGreatDoor.hm (fun F H'=>∃(i:Nat),i≤p.ops.length∧(pre++(p.ops.take i).flatMap jM).length≤100000000+100000000*i∧Fr 99 [(1,.ptr b1 0),(3,.own ((pre++(p.ops.take i).flatMap jM).map qA)),(45,.slc (qE p.ops)),(46,.int .i64 p.ops.length),(47,.int .i64 (i:Int))] F∧((b1,AO.cells p.d)::H)=H') (fun F H=>match F.getD 47 .any with| .int _ n'=>p.ops.length - n'.toNat|_=>0) ⟨0,by omega,by simpa using hpre,by simpa using hF,rfl⟩ ?_
 clear hF
 rintro _ _ ⟨i,hi,hln,hF,rfl⟩ K hN hE' hR
 obtain ⟨z,rfl⟩:∃z:Nat→D,_=z 0:: .ptr b1 0::z 2:: .own ((pre++(p.ops.take i).flatMap jM).map qA)::zz z 4 41 (.slc (qE p.ops):: .int .i64 p.ops.length:: .int .i64 (i:Int)::zz z 48 51 []):=hF.lit
 try dsimp only [zz,qb] at*
 clear hF hR
 by_cases hlt:i<p.ops.length
 ·have nx:(jM (p.ops.getD i default)).length≤100000000→∀F' H',back ((b1,AO.cells p.d)::H).length H'=((b1,AO.cells p.d)::H)→Fr 99 [(1,.ptr b1 0),(3,.own ((pre++(p.ops.take i).flatMap jM++jM (p.ops.getD i default)).map qA)),(45,.slc (qE p.ops)),(46,.int .i64 p.ops.length),(47,.int .i64 ((i+1:Nat):Int))] F'→K .normal F' H':=fun hl F' H' hH hF'=>hN _ _ ⟨i+1,hlt,by
    rw [uJ (d:=default) hlt,←List.append_assoc,List.length_append]
    omega,by rw [uJ (d:=default) hlt,←List.append_assoc];exact hF',hH.symm⟩ (by
   rw [List.getD_eq_getElem?_getD,hF'.2.2.2.2.2.1]
   simp only [List.getD_cons_succ,List.getD_cons_zero,Option.getD_some]
   omega)
  clear hN hE hE'
  have q1:=ke hlt
  have hm:p.ops.getD i default∈p.ops:=by rw [js hlt];exact List.getElem_mem hlt
  have o1:=hp.ids _ hm
  have o2:=hp.name _ hm
  have o3:=hp.text _ hm
  generalize pre++(p.ops.take i).flatMap jM=ac at nx hln ⊢
  generalize p.ops.getD i default=o at q1 nx o1 o2 o3
  have hod:o.d= [.int .i64 o.k,.int .i64 o.on.o,.int .i64 o.on.s,.int .i64 o.on.i,.int .i64 o.to.o,.int .i64 o.to.s,.int .i64 o.to.i,.slc (qI o.ids),.int .i64 o.n,.str o.name,.str o.text,.int .i64 o.a,.int .i64 o.b]:=rfl
  simp+contextual only [x44_L11,WH,WO,qi,hlt,Int.ofNat_lt,q1,hod,↓XP,↓XU,qn,XW1,qa,qb,qc,qd,qe,qf,reduceCtorEq]
  refine fun b8 hb=>m_op (o:=o) (ac:=ac) (q:=i) (b8:=b8) (p1:= .ptr b1 0) o1 o2 o3 (by omega) ⟨rfl,rfl,rfl,rfl,rfl,rfl,rfl,trivial⟩ fun hl F' H' hpre' hF'=>?_
  obtain ⟨pr,rfl⟩:=hpre'
  obtain ⟨z,rfl⟩:∃z:Nat→D,_=z 0:: .ptr b1 0::z 2:: .own ((ac++jM o).map qA)::zz z 4 41 (.slc (qE p.ops):: .int .i64 p.ops.length:: .int .i64 (i:Int)::zz z 48 51 []):=hF'.lit
  try dsimp only [zz,qb] at*
  clear hF'
  simp+contextual only [QU,qi,qr,qj,qp (show i≤big by omega),↓Jt,↓XP,↓XU,qn,XW1,qa,qb,qc,qd,qe,qf,reduceCtorEq]
  refine nx hl _ _ ?_ ⟨rfl,rfl,rfl,rfl,rfl,rfl,trivial⟩
  rw [show pr++(b8,AO.cells o.d)::(b1,AO.cells p.d)::H=(pr++ [(b8,AO.cells o.d)])++(b1,AO.cells p.d)::H by simp]
  exact Z3
 ·have hik:i=p.ops.length:=by omega
  subst hik
  clear hN
  simp+contextual only [QU,qi,qr,qj,↓Jt,↓XP,↓XU,qn,XW1,qa,qb,qc,qd,qe,qf,reduceCtorEq]
  rw [List.take_length] at hln ⊢
  exact hE' _ _ _ (hE (by omega) _ ⟨rfl,rfl,rfl,trivial⟩)
theorem f_enc {p:Pt} {H:AH} {R:D→AH→Prop} (hp:Fit p) (h:(yn p).length≤2000000000000→R (.own ((yn p).map qA)) H):ACall Tryz.prog 44 [.agg p.d] H R:=by
 refine b44 fun hf=>?_
 have hbig:=qt
 have hpo:=hp.ops
 have hpn:=hp.needs
 have hps:=hp.sl
 have hd:=@dE p
 simp+contextual only [QU,ql,qi,qr,qj,←List.map_append,List.length_append,hd,↓Jt,↓XP,↓XU,qn,XW1,qa,qb,qc,qd,qe,qf,reduceCtorEq]
 refine fun b1 h1 _ _ _=>gA (l:= [p.o,p.s,p.day]) (by simp) fun k1=>?_
 have e3:([p.o,p.s,p.day]:List Int).length=3:=rfl
 rw [e3] at k1
 simp+contextual only [QU,ql,qi,qr,qj,←List.map_append,List.length_append,hd,↓Jt,↓XP,↓XU,qn,XW1,qa,qb,qc,qd,qe,qf,reduceCtorEq]
 simp only [←hd]
 obtain ⟨pre,hpre⟩:∃pre,jg [p.o,p.s,p.day]=pre:=⟨_,rfl⟩
 have henc:yn p=pre++jg (jo p.needs)++qQ p.ops.length++p.ops.flatMap jM++j6 p.sl:=by rw [←hpre];rfl
 rw [henc] at h
 rw [hpre] at k1 ⊢
 refine fun _ _=>m_needs (p:=p) (acc:= .own (pre.map qA)) hpn ⟨rfl,rfl,rfl,rfl,rfl,rfl,rfl,trivial⟩ (fun F' hF'=>?_)
 obtain ⟨z,rfl⟩:∃z:Nat→D,_=z 0:: .ptr b1 0::z 2:: .own (pre.map qA):: .own (ints (jo p.needs))::zz z 5 94 []:=hF'.lit
 try dsimp only [zz,qb] at*
 clear hF'
 have l2:=yP (l:=p.needs)
 simp+contextual only [QU,ql,qi,qr,qj,←List.map_append,List.length_append,hd,↓Jt,↓XP,↓XU,qn,XW1,qa,qb,qc,qd,qe,qf,reduceCtorEq]
 refine gA (l:=jo p.needs) (by omega) fun k2=>?_
 simp+contextual only [QU,ql,qi,qr,qj,←List.map_append,List.length_append,hd,↓Jt,↓XP,↓XU,qn,XW1,qa,qb,qc,qd,qe,qf,reduceCtorEq]
 have k3:=ue (n:=p.ops.length) (by omega)
 refine fun _=>⟨jr,jr,by omega,?_⟩
 refine fun _=>Q5 fun _=>?_
 simp+contextual only [QU,ql,qi,qr,qj,←List.map_append,List.length_append,hd,↓Jt,↓XP,↓XU,qn,XW1,qa,qb,qc,qd,qe,qf,reduceCtorEq]
 simp only [←hd]
 refine fun _=>⟨jr,jr,by omega,?_⟩
 obtain ⟨pre2,hp2⟩:∃pre2,pre++jg (jo p.needs)++qQ p.ops.length=pre2:=⟨_,rfl⟩
 have hl2:pre2.length≤100000000:=by rw [←hp2];simp only [List.length_append];omega
 rw [hp2] at h ⊢
 refine fun _=>m_ops (p:=p) (pre:=pre2) hp hl2 ⟨rfl,rfl,rfl,rfl,rfl,rfl,trivial⟩ (fun k5 F' hF'=>?_)
 obtain ⟨z,rfl⟩:∃z:Nat→D,_=z 0:: .ptr b1 0::z 2:: .own ((pre2++p.ops.flatMap jM).map qA)::zz z 4 95 []:=hF'.lit
 try dsimp only [zz,qb] at*
 clear hF'
 simp only [List.length_append] at k5
 simp+contextual only [QU,ql,qi,qr,qj,←List.map_append,List.length_append,hd,↓Jt,↓XP,↓XU,qn,XW1,qa,qb,qc,qd,qe,qf,reduceCtorEq]
 have k6:=ue (n:=p.sl.length) (by omega)
 refine fun _=>KC (s:=p.sl) (by omega) ?_
 have k7:(j6 p.sl).length≤9+3000000:=by simp only [j6,List.length_append];omega
 simp+contextual only [QU,ql,qi,qr,qj,←List.map_append,List.length_append,hd,↓Jt,↓XP,↓XU,qn,XW1,qa,qb,qc,qd,qe,qf,reduceCtorEq]
 exact fun _=>⟨jr,jr,by omega,h (by simp only [List.length_append];omega)⟩
theorem gr {l:List UInt8}:∀x∈l.map qA,zw x:=by
 intro x hx
 obtain ⟨t,_,rfl⟩:=List.mem_map.1 hx
 have:=t.toNat_lt
 exact ⟨by omega,by omega⟩
theorem K4 {l:List UInt8}:(l.map qA).map unbyte=l:=by
 rw [List.map_map]
 refine (List.map_congr_left fun x _=>?_).trans (List.map_id l)
 simp [qA,unbyte]
theorem f_msg {p:Pt} {H:AH} {R:D→AH→Prop} (hp:Fit p) (h:R (.str (yn {p with sl:= []})) H):ACall Tryz.prog 25 [.agg p.d] H R:=by
 refine b25 fun hf=>?_
 have hbig:=qt
 have hd:=@dE p
 simp+contextual only [x25,qj,hd,↓Gg,↓XP,↓XU,qn,XW1,qa,qb,qc,qd,qe,qf,reduceCtorEq]
 refine fun b1 h1=>f_enc (p:={p with sl:= []}) ⟨hp.ops,hp.needs,hp.ids,hp.name,hp.text,by simp⟩ fun k=>?_
 simp+contextual only [x25,qj,hd,↓Gg,↓XP,↓XU,qn,XW1,qa,qb,qc,qd,qe,qf,reduceCtorEq]
 refine fun _=>⟨gr,?_⟩
 rw [K4]
 exact h
end Go.Proofs.YtpdhandimdibhaaGreatDoor
end
section
namespace Go.Proofs.YtpdhandimdibhaaGreatDoor
open Go Go.Aw
theorem f_index {l:List Id3} {x:Id3} {H:AH} {R:D→AH→Prop} (h:∀k:Int,(0≤k↔x∈l)→R (.int .i64 k) H):ACall Tryz.prog 69 [.slc (qI l),.agg x.d] H R:=by
 refine b69 fun hf=>?_
 have hbig:=qt
 have hlen:(qI l).length≤big:=hf.1
 rw [qk] at hlen
 have hxd:x.d= [.int .i64 x.o,.int .i64 x.s,.int .i64 x.i]:=rfl
 simp+contextual only [x69,qk,hxd,↓U69,↓XP,↓XU,qn,XW1,qa,qb,qc,qd,qe,qf,reduceCtorEq]
 intro b1 h1
 simp only [←hxd]
 refine fun _=>XW.loopK Go.Proofs.YtpdhandimdibhaaGreatDoor.hm (fun F H'=>∃(i:Nat),i≤l.length∧x ∉ l.take i∧Fr 19 [(0,.slc (qI l)),(3,.ptr b1 0),(7,.int .i64 l.length),(8,.int .i64 i)] F∧((b1,AO.cells x.d)::H)=H') (fun F H=>match F.getD 8 .any with| .int _ n'=>l.length - n'.toNat|_=>0) ⟨0,by omega,by simp,⟨rfl,rfl,rfl,rfl,rfl,trivial⟩,rfl⟩ ?_
 rintro _ _ ⟨i,hi,hn,hF,rfl⟩ K hN hE hR
 obtain ⟨z,rfl⟩:∃z:Nat→D,_= .slc (qI l)::zz z 1 2 (.ptr b1 0::zz z 4 3 (.int .i64 l.length:: .int .i64 i::zz z 9 10 [])):=hF.lit
 try dsimp only [zz,qb] at*
 clear hF
 by_cases hlt:i<l.length
 ·have nx:x ∉ l.take (i+1)→∀F',Fr 19 [(0,.slc (qI l)),(3,.ptr b1 0),(7,.int .i64 l.length),(8,.int .i64 ((i+1:Nat):Int))] F'→K .normal F' ((b1,AO.cells x.d)::H):=fun hn F' hF'=>hN _ _ ⟨i+1,hlt,hn,hF',(j7 rfl).symm⟩ (by
   rw [List.getD_eq_getElem?_getD,hF'.2.2.2.2.1]
   simp only [List.getD_cons_succ,List.getD_cons_zero,Option.getD_some]
   omega)
  clear hN hE
  have q1:=kL hlt
  have hm:l.getD i default∈l:=by rw [js hlt];exact List.getElem_mem hlt
  have hnt:x≠l.getD i default→x ∉ l.take (i+1):=fun hne hm=>by
   rw [List.take_add_one] at hm
   rcases List.mem_append.1 hm with hm|hm
   ·exact hn hm
   ·simp [hlt] at hm
    exact hne (by simp [hlt,hm])
  generalize l.getD i default=y at q1 hm hnt
  have hyd:y.d= [.int .i64 y.o,.int .i64 y.s,.int .i64 y.i]:=rfl
  have hdy:(decide (x.o=y.o)&&(decide (x.s=y.s)&&decide (x.i=y.i)))=decide (x=y):=by
   cases x;cases y;simp
  have hlt':((i:Int)<(l.length:Int))=True:=eq_true (by omega)
  by_cases hxy:x=y
  ·simp+contextual only [x69,qk,q1,hxd,hyd,hdy,eq_true hxy,hlt',↓U69,↓XP,↓XU,qn,XW1,qa,qb,qc,qd,qe,qf,reduceCtorEq]
   refine hR _ _ ?_
   simp+contextual only [x69,qk,↓U69,↓XP,↓XU,qn,XW1,qa,qb,qc,qd,qe,qf,reduceCtorEq]
   exact h _ ⟨fun _=>hxy▸hm,fun _=>by omega⟩
  ·simp+contextual only [x69,qk,q1,hxd,hyd,hdy,eq_false hxy,hlt',qp (show i≤big by omega),↓U69,↓XP,↓XU,qn,XW1,qa,qb,qc,qd,qe,qf,reduceCtorEq]
   simp only [←hxd]
   exact nx (hnt hxy) _ ⟨rfl,rfl,rfl,rfl,rfl,trivial⟩
 ·have hik:i=l.length:=by omega
  subst hik
  clear hN
  rw [List.take_length] at hn
  simp+contextual only [x69,qk,↓U69,↓XP,↓XU,qn,XW1,qa,qb,qc,qd,qe,qf,reduceCtorEq]
  refine hE _ _ _ ?_
  simp+contextual only [x69,qk,↓U69,↓XP,↓XU,qn,XW1,qa,qb,qc,qd,qe,qf,reduceCtorEq]
  exact h _ ⟨fun h=>by omega,fun h=>(hn h).elim⟩
theorem YW {l:List Id3} {x:Id3} {H:AH} {R:D→AH→Prop} (h:R (.bool (decide (x∈l))) H):ACall Tryz.prog 43 [.slc (qI l),.agg x.d] H R:=by
 refine b43 fun hf=>?_
 have hxd:x.d= [.int .i64 x.o,.int .i64 x.s,.int .i64 x.i]:=rfl
 have hk:∀b,decide (x∈l)=b→R (.bool b) H:=fun b hb=>hb▸h
 simp+contextual only [x43,hxd,↓Zm,↓XP,↓XU,qn,XW1,qa,qb,qc,qd,qe,qf,reduceCtorEq]
 simp only [←hxd]
 refine fun b1 h1=>f_index fun k hkk=>?_
 simp+contextual only [x43,hxd,↓Zm,↓XP,↓XU,qn,XW1,qa,qb,qc,qd,qe,qf,reduceCtorEq]
 exact fun _=>hk _ (decide_eq_decide.2 hkk.symm)
structure Shp where
 on:Bool
 to:Bool
 name:Bool
 text:Bool
 span:Bool
 low:Int
 high:Int
 a:Int
 b:Int
def Shp.d (s:Shp):List D:= [.bool s.on,.bool s.to,.bool s.name,.bool s.text,.bool s.span,.int .i64 s.low,.int .i64 s.high,.int .i64 s.a,.int .i64 s.b]
def vP:Shp:=⟨false,false,false,false,false,0,0,0,0⟩
def shp (k n:Int):Shp:=
 if k=1 then {vP with name:=true,text:=true} else if k=3 then {vP with name:=true,text:=true,span:=true}
 else if k=4 then {vP with on:=true,to:=true,text:=true,high:=1048576} else if k=2∨k=8∨k=10 then {vP with on:=true,high:=1048576}
 else if k=5∨k=7 then {vP with on:=true,text:=true} else if k=6 then {vP with on:=true,name:=true} else if k=9 then {vP with on:=true,high:=1}
 else if k=11 then {vP with on:=true,span:=true} else if k=12 then {vP with on:=true,name:=true,text:=true} else if k=13 then {vP with on:=true,to:=true,high:=1023}
 else if k=14 then {vP with on:=true,name:=true,high:=1} else if k=15 then {vP with on:=true,to:=true,high:=1}
 else if k=16 then {vP with on:=true,low:= -1,high:=n - 1,a:=2,b:=4} else if k=17 then {vP with on:=true,to:=true}
 else if k=18 then {vP with on:=true,to:=true,a:=1,b:=1} else vP
theorem Ue {o:OpP} {H:AH} {R:D→AH→Prop} (h:R (.tup [.agg (shp o.k o.ids.length).d,.bool (decide (1≤o.k∧o.k≤18))]) H):ACall Tryz.prog 40 [.agg o.d] H R:=by
 refine b40 fun hf=>?_
 have hbig:=qt
 have hod:o.d= [.int .i64 o.k,.int .i64 o.on.o,.int .i64 o.on.s,.int .i64 o.on.i,.int .i64 o.to.o,.int .i64 o.to.s,.int .i64 o.to.i,.slc (qI o.ids),.int .i64 o.n,.str o.name,.str o.text,.int .i64 o.a,.int .i64 o.b]:=rfl
 have hk:∀on to name text span low high a b c,shp o.k o.ids.length=⟨on,to,name,text,span,low,high,a,b⟩→decide (1≤o.k∧o.k≤18)=c→R (.tup [.agg [.bool on,.bool to,.bool name,.bool text,.bool span,.int .i64 low,.int .i64 high,.int .i64 a,.int .i64 b],.bool c]) H:=fun on to name text span low high a b c hs hc=>by
  rw [hs,hc] at h;exact h
 have w1:o.ids.length≤big→IntKind.i64.wrap ((o.ids.length:Int) - 1)=(o.ids.length:Int) - 1:=fun h=>qJ (by omega) (by omega)
 clear h
 simp+contextual only [x40,qk,hod,↓U40,↓XP,↓XU,qn,XW1,qa,qb,qc,qd,qe,qf,reduceCtorEq]
 clear hf hbig hod
 intro b1 h1 b2 h2 b3 h3
 have hno:∀x y,qu ((b2,x)::(b1,y)::H) b3=none:=fun x y=>jf (H:=(b2,x)::(b1,y)::H) ⟨Ne.symm h3.1,Ne.symm h3.2.1,h3.2.2⟩
 repeat' (first|apply And.intro|intro _)
 all_goals first
  |exact hno _ _
  |omega
  |exact hk _ _ _ _ _ _ _ _ _ _ (by simp [shp,vP, *]) (decide_eq_true (by omega))
  |exact hk _ _ _ _ _ _ _ _ _ _ (by simp [shp,vP, *]) (decide_eq_false (by omega))
  |skip
end Go.Proofs.YtpdhandimdibhaaGreatDoor
end
