/- A part of the proof of what the last text says: Gr1, Gr2, Gr3, Gr4, Gr5, Gq1, Gr6, Gq2, Gq6, Gr7, Gs1, Gs2, Gf5, Gf3, Gf6, Gf7, Gn5, Gn6, Gn2, Gn7, Gs3, Gu1, Gt7, Gq7, XcL. Conditions: those in each theorem. -/
import Derived.Test.YtgopigkdcmhbbaaGreatDoorU7
import Derived.KernelRfl
set_option autoImplicit true
set_option relaxedAutoImplicit true
set_option linter.unusedVariables false
set_option linter.unusedSimpArgs false
set_option maxRecDepth 100000
set_option maxHeartbeats 16000000
open List renaming getD_eq_getElem?_getD -> Ma,getElem?_eq_getElem -> Mb,getD_cons_succ -> Mc,getD_cons_zero -> Md,getElem?_map -> Me,length_append -> Mh,length_cons -> Mi,length_nil -> Mj,length_map -> Ml,length_singleton -> Mm,map_append -> Mn,append_assoc -> Mo,mem_cons -> Mu,length_take -> Mw,length_range -> Mx,append_nil -> My,nil_append -> Mz,cons_append -> M0,map_map -> M3,not_mem_nil -> M4,flatten_cons -> M5,length_replicate -> M6
open Option renaming getD_some -> Mf
open Int renaming toNat_natCast -> Mg,reduceToNat -> Mr,reduceLE -> Ms,reduceLT -> Mt,eq_ofNat_of_zero_le -> Mv
open Nat renaming le_trans -> Mp,lt_of_lt_of_le -> Mq,reduceSub -> qa,reduceAdd -> qb,reduceMul -> qc,reduceEqDiff -> qd,reduceLeDiff -> qe,reduceBEq -> qf
section
namespace Go.Proofs.YtgopigkdcmhbbaaGreatDoor
open Go Go.Aw
theorem ue {l:List UInt8} {i:Nat} (h:i<l.length):(l.map ql).getD i []= [.int .u8 ((l.getD i 0).toNat:Int)]:=by simp [h,ql]
theorem nY:bits .xor .u8 (c.toNat:Int) (KW f)=((ja f c).toNat:Int):=by
 rw [sV c.toNat_lt,UInt8.ofNat_toNat]
theorem Ug (c:UInt8):((ja (turned c) c).toNat:Int) - 128=(jr c:Int):=by
 have:=c.toNat_lt
 unfold turned jr
 by_cases h:c.toNat<128
 ·rw [decide_eq_true h,if_pos h,ja,if_pos rfl,UInt8.toNat_sub_of_le _ _ (by rw [UInt8.le_iff_toNat_le];simp;omega)]
  simp
  omega
 ·rw [decide_eq_false h,if_neg h,ja,if_neg (by simp)]
  omega
theorem tn {m x:Nat} (hm:256*m+x<18446744073709551616) (hx:x<256):bits .or .u64 (IntKind.u64.wrap ((m:Int)*2 ^ (min ((8:Int).toNat) IntKind.u64.bits))) (x:Int)=((256*m+x:Nat):Int):=by
 have e1:(2:Int) ^ (min ((8:Int).toNat) IntKind.u64.bits)=256:=rfl
 rw [e1,IntKind.wrap_u64,show ((m:Int)*256) % 18446744073709551616=((m*256:Nat):Int) by omega,u64_or_nat _ _ (by omega) (by omega)]
 have:=Nat.two_pow_add_eq_or_of_lt (i:=8) (b:=x) (by omega) m
 rw [show m*256=2 ^ 8*m by omega,<-this]
theorem H7 {f:Bool} {k6:D} {rs:List UInt8} {H:AH} {Q:AQ} {F:List D} (hr:rs.length<=8) (hF:Fr 71 [(5,.int .u8 (KW f)),(6,k6),(7,.int .u64 0),(46,.slc (rs.map ql)),(47,.i rs.length),(48,.i 0)] F) (hE:∀F',Fr 71 [(5,.int .u8 (KW f)),(6,k6),(7,.int .u64 (val (rs.map (ja f)):Int))] F'->Q (.exit 1) F' H):XW Tryz.prog (u9 48) F H Q:=by
 have hbig:=qj
 refine XW.loopK hmm (fun F H'=>∃(j:Nat),j<=rs.length∧Fr 71 [(5,.int .u8 (KW f)),(6,k6),(7,.int .u64 (val ((rs.take j).map (ja f)):Int)),(46,.slc (rs.map ql)),(47,.i rs.length),(48,.i j)] F∧H=H') (fun F H=>match F.getD 48 .any with| .int _ n'=>rs.length - n'.toNat|_=>0) ⟨0,by omega,hF,rfl⟩ ?_
 rintro _ _ ⟨j,hj,hF,rfl⟩ K hN hE' hR
 obtain ⟨z,rfl⟩:=hF.fl rfl
 try dsimp only [fl,zz,qa,qb] at*
 clear hF hR
 by_cases hlt:j<rs.length
 ·have nx:∀F',Fr 71 [(5,.int .u8 (KW f)),(6,k6),(7,.int .u64 ((256*val ((rs.take j).map (ja f))+(ja f (rs.getD j 0)).toNat:Nat):Int)),(46,.slc (rs.map ql)),(47,.i rs.length),(48,.i ((j+1:Nat):Int))] F'->K .normal F' H:=fun F' hF'=>hN _ _ ⟨j+1,hlt,by
    have:(rs.take (j+1)).map (ja f)=(rs.take j).map (ja f)++ [ja f (rs.getD j 0)]:=by
     rw [List.take_add_one,Mn]
     simp [hlt]
    rw [this,VB]
    exact hF',(qz rfl).symm⟩ (by
   rw [Ma,hF'.2.2.2.2.2.2.1]
   simp only [Mc,Md,Mf]
   omega)
  clear hN hE hE'
  have q1:=ue hlt
  have hv:val ((rs.take j).map (ja f))<256 ^ 7:=Mq (ef _) (Nat.pow_le_pow_right (by omega) (by simp;omega))
  generalize val ((rs.take j).map (ja f))=v at nx hv ⊢
  generalize rs.getD j 0=c at q1 nx
  have hc:=(ja f c).toNat_lt
  have xb:=nY (f:=f) (c:=c)
  have w1:=tn (m:=v) (x:=(ja f c).toNat) (by omega) (by omega)
  have w2:IntKind.u64.wrap (((ja f c).toNat:Int))=((ja f c).toNat:Int):=by rw [IntKind.wrap_u64];omega
  simp+contextual only [hlt,Int.ofNat_lt,q1,xb,w1,w2,qi (show j<=big by omega),↓U49,↓XP,qh]
  exact fun _=>⟨by decide,nx _ ⟨rfl,rfl,rfl,rfl,rfl,rfl,rfl,trivial⟩⟩
 ·have hik:j=rs.length:=by omega
  subst hik
  clear hN
  rw [List.take_length]
  simp+contextual only [↓U49,↓XP,qo]
  exact hE' _ _ _ (hE _ ⟨rfl,rfl,rfl,rfl,trivial⟩)
theorem C4 {c:UInt8} {r:List UInt8} {xs:List (List D)} {H:AH} {F:List D} {R:D->AH->Prop} (hF:Fr 71 [(0,.slc xs),(5,.int .u8 (KW (turned c))),(6,.i (jr c:Int))] F) (hl:xs.length=r.length+1) (h1:∀x∈xs,x.length=1) (hL:r.length+1<=big)
  (q1:0<r.length->xs.getD 1 []= [.int .u8 ((r.getD 0 0).toNat:Int)]) (hx2:(xs.take (jr c+1)).drop 1=(r.take (jr c)).map ql)
  (hk:∀t,qR (c::r)=t->R (.tup [.i t.1,.i (t.2.1:Int),.i t.2.2]) H):xcode Tryz.prog (u9 20) F H (jV Tryz.prog [.tmp 2,.tmp 3,.tmp 4] H.length R):=by
 have hbig:=qj
 obtain ⟨z,rfl⟩:=hF.fl rfl
 try dsimp only [fl,zz,qa,qb] at*
 clear hF
 unfold qR at hk
 dsimp only at hk
 unfold body at hk
 have hc:=c.toNat_lt
 have tl:jr c<=127:=by unfold jr;split<;>omega
 by_cases c1:8<jr c
 ·simp+contextual only [show ((8:Int)<(jr c:Int))=True from eq_true (by omega),↓U49,↓XP,qo]
  exact hk _ (by rw [if_pos c1])
 rw [if_neg c1] at hk
 by_cases c2:r.length<jr c
 ·simp+contextual only [show ((8:Int)<(jr c:Int))=False from eq_false (by omega),hl,show (((r.length+1:Nat):Int)<=(jr c:Int))=True from eq_true (by omega),↓U49,↓XP,qh]
  exact fun _=>hk _ (by rw [if_pos c2])
 rw [if_neg c2] at hk
 have wk:IntKind.i64.wrap ((jr c:Int)+1)=((jr c+1:Nat):Int):=by rw [qm (by omega) (by omega)];omega
 have tl2:(r.take (jr c)).length=jr c:=by simp;omega
 have fin:¬(0<jr c∧ja (turned c) (r.getD 0 0)=0)->∀F,Fr 71 [(5,.int .u8 (KW (turned c))),(6,.i (jr c:Int)),(7,.int .u64 0),(46,.slc ((r.take (jr c)).map ql)),(47,.i (jr c:Int)),(48,.i 0)] F->XW Tryz.prog (u9 48) F H (y5 1 (VL Tryz.prog (u9 60) (jV Tryz.prog [.tmp 2,.tmp 3,.tmp 4] H.length R))):=by
  intro hno F hF
  rw [if_neg hno] at hk
  refine H7 (f:=turned c) (k6:= .i (jr c:Int)) (rs:=r.take (jr c)) (by omega) (by rw [tl2];exact hF) fun F' hF'=>?_
  obtain ⟨z,rfl⟩:=hF'.fl rfl
  try dsimp only [fl,zz,qa,qb] at*
  clear hF' hF
  have hv:=ef ((r.take (jr c)).map (ja (turned c)))
  have hv2:val ((r.take (jr c)).map (ja (turned c)))<256 ^ 8:=Mq hv (Nat.pow_le_pow_right (by omega) (by simp;omega))
  generalize val ((r.take (jr c)).map (ja (turned c)))=v at hk hv2 ⊢
  have e63:((v:Int)).fdiv (2 ^ (min ((63:Int).toNat) IntKind.u64.bits))=((v / 9223372036854775808:Nat):Int):=by
   rw [show (2:Int) ^ (min ((63:Int).toNat) IntKind.u64.bits)=9223372036854775808 from rfl,Int.fdiv_eq_ediv_of_nonneg _ (by omega)]
   omega
  by_cases c5:9223372036854775808<=v
  ·have hz:((0:Int)<((v / 9223372036854775808:Nat):Int))=True:=eq_true (by omega)
   simp+contextual only [e63,hz,↓U49,↓XP,qo,XW1]
   exact ⟨by decide,hk _ (by rw [if_pos c5])⟩
  ·have hz:((0:Int)<((v / 9223372036854775808:Nat):Int))=False:=eq_false (by omega)
   rw [if_neg c5] at hk
   cases ht:turned c with
   | true=>
    have ux:bits .xor .u64 (if IntKind.u64.signed=true then -1 else IntKind.u64.max) (v:Int)=((18446744073709551615 - v:Nat):Int):=by
     rw [show (if IntKind.u64.signed=true then (-1:Int) else IntKind.u64.max)=((18446744073709551615:Nat):Int) from rfl,u64_xor_nat _ _ (by omega) (by omega),nA (by omega)]
    have wv:IntKind.i64.wrap ((18446744073709551615 - v:Nat):Int)= -1 - (v:Int):=by rw [IntKind.wrap_i64];omega
    simp+contextual only [e63,hz,show KW true=255 from rfl,show ((0:Int)<255)=True from eq_true (by omega),ux,wv,wk,↓U49,↓XP,qh,XW1]
    have hk2:=hk _ rfl
    rw [ht] at hk2
    exact ⟨by decide,hk2⟩
   | false=>
    have wv:IntKind.i64.wrap (v:Int)=(v:Int):=by rw [IntKind.wrap_i64];omega
    simp+contextual only [e63,hz,show KW false=0 from rfl,show ((0:Int)<0)=False from eq_false (by omega),wv,wk,↓U49,↓XP,qh,XW1]
    have hk2:=hk _ rfl
    rw [ht] at hk2
    exact ⟨by decide,hk2⟩
 have k1:((1:Int)<=((jr c+1:Nat):Int))=True:=eq_true (by omega)
 have k2:(((jr c+1:Nat):Int)<=((r.length+1:Nat):Int))=True:=eq_true (by omega)
 by_cases c3:0<jr c
 ·have q1':=q1 (by omega)
  have xb:=nY (f:=turned c) (c:=r.getD 0 0)
  by_cases c4:ja (turned c) (r.getD 0 0)=0
  ·rw [c4,show (((UInt8.toNat 0:Nat):Int))=0 from rfl] at xb
   simp+contextual only [show ((8:Int)<(jr c:Int))=False from eq_false (by omega),hl,show (((r.length+1:Nat):Int)<=(jr c:Int))=False from eq_false (by omega),show ((0:Int)<(jr c:Int))=True from eq_true (by omega),show ((1:Int)).toNat=1 from rfl,show ((0:Int)<=1)=True from eq_true (by omega),q1',xb,show (1<((r.length+1:Nat):Int))=True from eq_true (by omega),↓U49,↓XP,qh]
   exact fun _ _=>hk _ (by rw [if_pos ⟨c3,c4⟩])
  ·have xz:((((ja (turned c) (r.getD 0 0)).toNat:Nat):Int)=0)=False:=eq_false (fun h=>c4 (UInt8.toNat_inj.1 (by simpa using h)))
   simp+contextual only [show ((8:Int)<(jr c:Int))=False from eq_false (by omega),hl,show (((r.length+1:Nat):Int)<=(jr c:Int))=False from eq_false (by omega),show ((0:Int)<(jr c:Int))=True from eq_true (by omega),show ((1:Int)).toNat=1 from rfl,show ((0:Int)<=1)=True from eq_true (by omega),q1',xb,xz,show (1<((r.length+1:Nat):Int))=True from eq_true (by omega),wk,h1,k1,k2,hx2,tl2,↓U49,↓XP,qh,XW1]
   exact fun _ _ _=>fin (fun h=>c4 h.2) _ ⟨rfl,rfl,rfl,rfl,rfl,rfl,rfl,trivial⟩
 ·simp+contextual only [show ((8:Int)<(jr c:Int))=False from eq_false (by omega),hl,show (((r.length+1:Nat):Int)<=(jr c:Int))=False from eq_false (by omega),show ((0:Int)<(jr c:Int))=False from eq_false (by omega),show ((1:Int)).toNat=1 from rfl,show ((0:Int)<=1)=True from eq_true (by omega),wk,h1,k1,k2,hx2,tl2,↓U49,↓XP,qh,XW1]
  exact fun _ _=>fin (fun h=>c3 h.1) _ ⟨rfl,rfl,rfl,rfl,rfl,rfl,rfl,trivial⟩
theorem Qm {b:List UInt8} {H:AH} {R:D->AH->Prop} (h:R (.tup [.i (qR b).1,.i ((qR b).2.1:Int),.i (qR b).2.2]) H):ACall Tryz.prog 49 [.slc (b.map ql)] H R:=by
 refine b49 fun hf=>?_
 have hbig:=qj
 rcases hb:b with _|⟨c,r⟩
 ·subst hb
  simp+contextual only [↓U49.2.2.2.2.2,↓U49.2.2.2.2.1,↓U49.2.2.2.1,↓U49.1.1.1.1,Mj,show ((((0:Nat):Int))=0)=True from eq_true rfl,↓XP,qh,qa]
  exact fun _=>h
 have hk:∀t,qR (c::r)=t->R (.tup [.i t.1,.i (t.2.1:Int),.i t.2.2]) H:=fun t ht=>by rw [<-ht,<-hb];exact h
 clear h
 have q0:=ue (l:=c::r) (i:=0) (by simp)
 have q1:0<r.length->((c::r).map ql).getD 1 []= [.int .u8 ((r.getD 0 0).toNat:Int)]:=fun h=>by rw [ue (by simp;omega)];rfl
 simp only [Md] at q0
 have hl:((c::r).map ql).length=r.length+1:=by simp
 have hx2:(((c::r).map ql).take (jr c+1)).drop 1=(r.take (jr c)).map ql:=by rw [<-List.map_take];rfl
 have h1:∀x∈(c::r).map ql,x.length=1:=qO
 generalize ((c::r).map ql)=xs at q0 q1 hl hx2 hf h1 ⊢
 have hz:(((r.length+1:Nat):Int)=0)=False:=eq_false (by omega)
 have hz2:((0:Int)<((r.length+1:Nat):Int))=True:=eq_true (by omega)
 have h8:=Ug c
 have hc:=c.toNat_lt
 have w1:=(ja (turned c) c).toNat_lt
 have w2:IntKind.i64.wrap (((ja (turned c) c).toNat:Int) - 128)=(jr c:Int):=by rw [h8];unfold jr;exact qm (by split<;>omega) (by split<;>omega)
 have w3:IntKind.i64.wrap (((ja (turned c) c).toNat:Int))=((ja (turned c) c).toNat:Int):=qm (by omega) (by omega)
 have xb:=nY (f:=turned c) (c:=c)
 by_cases c1:c.toNat<128
 ·have ft:KW (turned c)=255:=by rw [turned,decide_eq_true c1];rfl
  have c1':((c.toNat:Int)<128)=True:=eq_true (by omega)
  rw [ft] at xb
  simp+contextual only [↓U49.2.2.2.2.2,↓U49.2.2.2.2.1,↓U49.2.2.2.1,↓U49.2.2.1.2,↓U49.1.1.1.1,q0,hl,hz,hz2,c1',xb,w3,w2,↓XP,qh,XW1,qa]
  refine fun hlb _=>C4 ⟨rfl,rfl,congrArg (fun x=>some (D.int .u8 x)) ft.symm,rfl,trivial⟩ hl h1 hlb q1 hx2 hk
 ·have ft:KW (turned c)=0:=by rw [turned,decide_eq_false c1];rfl
  have c1':((c.toNat:Int)<128)=False:=eq_false (by omega)
  rw [ft] at xb
  simp+contextual only [↓U49.2.2.2.2.2,↓U49.2.2.2.2.1,↓U49.2.2.2.1,↓U49.2.2.1.2,↓U49.1.1.1.1,q0,hl,hz,hz2,c1',xb,w3,w2,↓XP,qh,XW1,qa]
  refine fun hlb _=>C4 ⟨rfl,rfl,congrArg (fun x=>some (D.int .u8 x)) ft.symm,rfl,trivial⟩ hl h1 hlb q1 hx2 hk
def qy (b:List UInt8):Int×Nat×Int:=
 if (qR b).2.2≠0 then qR b else if (qR b).1<0 then ((qR b).1,(qR b).2.1,2)
 else if (b.length:Int) - (qR b).2.1<(qR b).1 then ((qR b).1,(qR b).2.1,3) else qR b
theorem eE:(qy b).2.1=(qR b).2.1:=by
 unfold qy
 repeat' split
 all_goals rfl
theorem Km:(qy b).2.1<=b.length:=by rw [eE];exact QB
theorem oW (h:(qy b).2.2=0):0<=(qy b).1∧(qy b).1+(qy b).2.1<=b.length∧qy b=qR b:=by
 unfold qy at h ⊢
 by_cases c1:(qR b).2.2≠0
 ·rw [if_pos c1] at h;exact (c1 h).elim
 rw [if_neg c1] at h ⊢
 by_cases c2:(qR b).1<0
 ·rw [if_pos c2] at h;simp at h
 rw [if_neg c2] at h ⊢
 by_cases c3:(b.length:Int) - (qR b).2.1<(qR b).1
 ·rw [if_pos c3] at h;simp at h
 rw [if_neg c3]
 exact ⟨by omega,by omega,rfl⟩
theorem YV {n:Nat} {rest:List UInt8} (hn:n<=rest.length) (hb:n<=140737488355328):qy (qr n++rest)=((n:Int),(qr n).length,0):=by
 have h:=WF (m:=(n:Int)) (rest:=rest) (Zd hb)
 unfold qy
 rw [h,if_neg (by simp),if_neg (by simp),if_neg (by simp;omega)]
def j6 (b:List UInt8):List UInt8×Nat×Int:=
 if (qy b).2.2=0 then ((b.drop (qy b).2.1).take (qy b).1.toNat,(qy b).2.1+(qy b).1.toNat,0) else ([],0,(qy b).2.2)
theorem KC:(j6 b).2.1<=b.length:=by
 unfold j6
 split
 ·next h=>have:=oW h;simp;omega
 ·simp
theorem VZ:(j6 b).1.length<=b.length:=by
 unfold j6
 split
 ·simp;omega
 ·simp
theorem YO {s rest:List UInt8} (hb:s.length<=140737488355328):j6 (qB s++rest)=(s,(qB s).length,0):=by
 have h:=YV (n:=s.length) (rest:=s++rest) (by simp) hb
 unfold j6 qB
 rw [Mo,h]
 simp
def Qj {α:Type} (f:List UInt8->α×Nat×Int):Nat->List UInt8->List α×Nat×Int
 |0,_=>([],0,0)
 | n+1,b=>if (f b).2.2≠0 then ([],0,(f b).2.2) else
  if (Qj f n (b.drop (f b).2.1)).2.2≠0 then ([],0,(Qj f n (b.drop (f b).2.1)).2.2)
  else ((f b).1::(Qj f n (b.drop (f b).2.1)).1,(f b).2.1+(Qj f n (b.drop (f b).2.1)).2.1,0)
def zF {α:Type} (f:List UInt8->α×Nat×Int) (b:List UInt8):List α×Nat×Int:=
 if (qy b).2.2≠0 then ([],0,(qy b).2.2) else
 if (Qj f (qy b).1.toNat (b.drop (qy b).2.1)).2.2≠0 then ([],0,(Qj f (qy b).1.toNat (b.drop (qy b).2.1)).2.2)
 else ((Qj f (qy b).1.toNat (b.drop (qy b).2.1)).1,(qy b).2.1+(Qj f (qy b).1.toNat (b.drop (qy b).2.1)).2.1,0)
theorem eV {α:Type} {f:List UInt8->α×Nat×Int} (hf:∀b,(f b).2.1<=b.length):∀(n:Nat) (b:List UInt8),(Qj f n b).2.1<=b.length∧(Qj f n b).1.length<=n
 |0,b=>by simp [Qj]
 | n+1,b=>by
  have h1:=hf b
  have h2:=eV hf n (b.drop (f b).2.1)
  rw [List.length_drop] at h2
  unfold Qj
  split
  ·simp
  ·split
   ·simp
   ·simp;omega
theorem Gg {α:Type} {f:List UInt8->α×Nat×Int} (hf:∀b,(f b).2.1<=b.length) {b:List UInt8}:(zF f b).2.1<=b.length∧(zF f b).1.length<=b.length:=by
 unfold zF
 split
 ·simp
 ·next h=>
  have h0:=oW (Classical.not_not.1 h)
  have h2:=eV hf (qy b).1.toNat (b.drop (qy b).2.1)
  rw [List.length_drop] at h2
  split
  ·simp
  ·constructor
   ·dsimp only;omega
   ·dsimp only;omega
theorem GV {α:Type} {f:List UInt8->α×Nat×Int} {enc:α->List UInt8}:∀(l:List α) (rest:List UInt8),(∀x∈l,∀r,f (enc x++r)=(x,(enc x).length,0))->Qj f l.length (l.flatMap enc++rest)=(l,(l.flatMap enc).length,0)
 | [],rest,_=>rfl
 | x::l,rest,h=>by
  have h1:=h x (.head _) (l.flatMap enc++rest)
  have h2:=GV l rest (fun y hy=>h y (.tail _ hy))
  have e:(x::l).flatMap enc++rest=enc x++(l.flatMap enc++rest):=by simp
  rw [e,Mi]
  unfold Qj
  rw [h1]
  dsimp only
  rw [List.drop_left,h2]
  simp
theorem GB {α:Type} {enc:α->List UInt8}:∀{l:List α},(∀x∈l,0<(enc x).length)->l.length<=(l.flatMap enc).length
 | [],_=>by simp
 | x::l,h=>by
  have h1:=h x (.head _)
  have h2:=GB (l:=l) (fun y hy=>h y (.tail _ hy))
  simp only [List.flatMap_cons,Mh,Mi]
  omega
theorem UR {α:Type} {f:List UInt8->α×Nat×Int} {enc:α->List UInt8} {l:List α} {rest:List UInt8} (h:∀x∈l,∀r,f (enc x++r)=(x,(enc x).length,0)) (hp:∀x∈l,0<(enc x).length) (hb:l.length<=140737488355328):
  zF f (qr l.length++l.flatMap enc++rest)=(l,(qr l.length++l.flatMap enc).length,0):=by
 have h1:=GB hp
 have h2:=YV (n:=l.length) (rest:=l.flatMap enc++rest) (by rw [Mh];omega) hb
 have h3:=GV l rest h
 unfold zF
 rw [Mo,h2]
 dsimp only
 rw [if_neg (by simp),List.drop_left,Mg,h3]
 simp
def jv (b:List UInt8):List Int×Nat×Int:=zF qR b
def jZ (b:List UInt8):List (List UInt8)×Nat×Int:=zF j6 b
theorem ints_le {b:List UInt8}:(jv b).2.1<=b.length∧(jv b).1.length<=b.length:=Gg fun _=>QB
theorem strs_le {b:List UInt8}:(jZ b).2.1<=b.length∧(jZ b).1.length<=b.length:=Gg fun _=>KC
theorem Gt:0<(qr n).length:=by simp [qr]
theorem dE {l:List Int} {rest:List UInt8} (h:∀x∈l,wX .i64 x) (hb:l.length<=140737488355328):jv (qF l++rest)=(l,(qF l).length,0):=
 UR (enc:=qr) (fun x hx r=>WF (h x hx)) (fun x _=>Gt) hb
theorem d6 {l:List (List UInt8)} {rest:List UInt8} (h:∀x∈l,x.length<=140737488355328) (hb:l.length<=140737488355328):jZ (yn l++rest)=(l,(yn l).length,0):=
 UR (enc:=qB) (fun x hx r=>YO (h x hx)) (fun x _=>by simp only [qB,Mh];have:=Gt (n:=(x.length:Int));omega) hb
theorem JP {R:D->AH->Prop} (h:R (.tup [.i (qy b).1,.i ((qy b).2.1:Int),.i (qy b).2.2]) H):ACall Tryz.prog 119 [.slc (b.map ql),.i 1] H R:=by
 refine En fun hf=>?_
 have hbig:=qj
 have hle:=QB (b:=b)
 unfold qy at h
 simp+contextual only [↓eC,↓eC,↓XP,qo,qa,qb]
 refine Qm ?_
 generalize qR b=t at h hle ⊢
 obtain ⟨n,k,e⟩:=t
 dsimp only at h hle ⊢
 rcases Classical.em (e=0) with c1|c1
 ·subst c1
  rw [if_neg (by simp)] at h
  rcases Classical.em (n<0) with c2|c2
  ·rw [if_pos c2] at h
   simp+contextual only [eq_true c2,↓eC,↓XP,qo,XW1]
   exact fun _ _ _=>h
  ·rw [if_neg c2] at h
   simp+contextual only [eq_false c2,↓eC,↓XP,qh,XW1]
   refine fun _ _ _ hb=>⟨by decide,?_⟩
   have w1:IntKind.i64.wrap ((b.length:Int) - k)=(b.length:Int) - k:=qm (by omega) (by omega)
   rw [w1,Int.tdiv_one,w1]
   refine ⟨fun c=>?_,fun c=>?_⟩
   ·rw [if_pos c] at h
    exact h
   ·rw [if_neg c] at h
    exact h
 ·rw [if_pos c1] at h
  simp+contextual only [eq_false c1,↓eC,↓XP,qo,XW1]
  exact fun _ _ _=>h
theorem ab {b:List UInt8} {k m:Nat}:((b.map ql).take (k+m)).drop k=((b.drop k).take m).map ql:=by
 rw [<-List.map_take,<-List.map_drop,List.drop_take,Nat.add_sub_cancel_left]
theorem YL {b:List UInt8} (h:fact (.slc (b.map ql))):b.length<=140737488355328:=by
 have:=h
 rw [mV,JO,qj] at this
 exact this
theorem QM {b:List UInt8} {H:AH} {R:D->AH->Prop} (h:R (.tup [.str (j6 b).1,.i ((j6 b).2.1:Int),.i (j6 b).2.2]) H):ACall Tryz.prog 77 [.slc (b.map ql)] H R:=by
 refine b77 fun hf=>?_
 have hbig:=qj
 have hle:=Km (b:=b)
 have hok:=oW (b:=b)
 unfold j6 at h
 simp+contextual only [↓Dk,↓Dk,↓XP,qo,qa]
 refine JP ?_
 have hok2:(qy b).2.2=0->0<=(qy b).1∧(qy b).1+(qy b).2.1<=b.length:=fun h=>⟨(hok h).1,(hok h).2.1⟩
 clear hok
 generalize qy b=t at h hle hok2 ⊢
 obtain ⟨n,k,e⟩:=t
 dsimp only at h hle hok2 ⊢
 rcases Classical.em (e=0) with c1|c1
 ·subst c1
  rw [if_pos rfl] at h
  obtain ⟨g1,g2⟩:=hok2 rfl
  have hb:=YL hf.1
  obtain ⟨m,rfl⟩:=Mv g1
  have w1:IntKind.i64.wrap ((k:Int)+(m:Int))=((k+m:Nat):Int):=by rw [qm (by omega) (by omega)];omega
  dsimp only at h
  rw [Mg] at h
  simp+contextual only [w1,ab,Jw,↓Dk,↓XP,qh,XW1]
  refine fun _ _ _=>⟨qO,by omega,by omega,gY,fun _=>h⟩
 ·rw [if_neg c1] at h
  simp+contextual only [eq_false c1,↓Dk,↓XP,qo,XW1]
  exact fun _ _ _=>h
def Je {α:Type} (acc:List α) (a:Nat) (r:List α×Nat×Int):List α×Nat×Int:=if r.2.2≠0 then ([],0,r.2.2) else (acc++r.1,a+r.2.1,0)
theorem G2 {α:Type} {f:List UInt8->α×Nat×Int} {acc:List α} {a m:Nat} {b:List UInt8} (h:¬(f (b.drop a)).2.2=0):Je acc a (Qj f (m+1) (b.drop a))=([],0,(f (b.drop a)).2.2):=by
 unfold Qj
 rw [if_pos h]
 unfold Je
 rw [if_pos h]
theorem UU {α:Type} {f:List UInt8->α×Nat×Int} {acc:List α} {a m:Nat} {b:List UInt8} (h:(f (b.drop a)).2.2=0):
  Je acc a (Qj f (m+1) (b.drop a))=Je (acc++ [(f (b.drop a)).1]) (a+(f (b.drop a)).2.1) (Qj f m (b.drop (a+(f (b.drop a)).2.1))):=by
 rw [Qj,if_neg (fun c=>c h),List.drop_drop]
 generalize Qj f m (b.drop (a+(f (b.drop a)).2.1))=t
 by_cases c:t.2.2=0
 ·simp [Je,c,Nat.add_assoc]
 ·simp [Je,c]
theorem Ga {α:Type} {f:List UInt8->α×Nat×Int} {acc:List α} {a:Nat} {b:List UInt8}:Je acc a (Qj f 0 b)=(acc,a,0):=by
 simp [Je,Qj]
theorem Ux {α:Type} {f:List UInt8->α×Nat×Int} {b:List UInt8} (h:(qy b).2.2=0):zF f b=Je [] (qy b).2.1 (Qj f (qy b).1.toNat (b.drop (qy b).2.1)):=by
 unfold zF Je
 rw [if_neg (fun c=>c h)]
 simp
theorem vr {b:List UInt8} {a:Nat}:((b.map ql).take (b.length)).drop a=(b.drop a).map ql:=by
 rw [<-List.map_take,<-List.map_drop,List.take_length]
theorem Y4 {b:List UInt8} {H:AH} {R:D->AH->Prop} (hB:b.length<=1000000000) (h:R (.tup [.own (strs (jZ b).1),.i ((jZ b).2.1:Int),.i (jZ b).2.2]) H):ACall Tryz.prog 118 [.slc (b.map ql)] H R:=by
 refine F0 fun hf=>?_
 have hbig:=qj
 have hle:=Km (b:=b)
 have hok:=oW (b:=b)
 have hb:=YL hf.1
 have hfin:=Ux (f:=j6) (b:=b)
 have hk:∀t,jZ b=t->R (.tup [.own (strs t.1),.i (t.2.1:Int),.i t.2.2]) H:=fun t ht=>by rw [<-ht];exact h
 clear h
 unfold jZ at hk
 simp+contextual only [↓V4,↓V4,↓XP,qo,qa]
 refine JP ?_
 have hok2:(qy b).2.2=0->0<=(qy b).1∧(qy b).1+(qy b).2.1<=b.length:=fun h=>⟨(hok h).1,(hok h).2.1⟩
 have hbad:¬(qy b).2.2=0->zF j6 b=([],0,(qy b).2.2):=fun h=>by unfold zF;rw [if_pos h]
 clear hok
 generalize qy b=t at hfin hle hok2 hbad ⊢
 obtain ⟨n,k,e⟩:=t
 dsimp only at hfin hle hok2 hbad ⊢
 rcases Classical.em (e=0) with c1|c1
 ·subst c1
  obtain ⟨g1,g2⟩:=hok2 rfl
  replace hfin:=hfin rfl
  obtain ⟨n,rfl⟩:=Mv g1
  rw [Mg] at hfin
  simp+contextual only [↓V4,↓XP,qo,XW1]
  refine fun _ _ _=>XW.loopK hmm (fun F H'=>∃(i a:Nat) (acc:List (List UInt8)),i<=n∧a<=b.length∧acc.length=i∧zF j6 b=Je acc a (Qj j6 (n - i) (b.drop a))∧Fr 45 [(0,.slc (b.map ql)),(6,.i (a:Int)),(8,.own (strs acc)),(21,.i (n:Int)),(22,.i (i:Int))] F∧H=H') (fun F H=>match F.getD 22 .any with| .int _ n'=>n - n'.toNat|_=>0) ⟨0,k,[],by omega,by omega,rfl,hfin,⟨rfl,rfl,rfl,rfl,rfl,rfl,trivial⟩,rfl⟩ ?_
  rintro _ _ ⟨i,a,acc,hi,ha,hac,hfi,hF,rfl⟩ K hN hE hR
  obtain ⟨z,rfl⟩:=hF.fl rfl
  try dsimp only [fl,zz,qa,qb] at*
  clear hF
  have sl:(strs acc).length=acc.length:=j8
  have wa:=vr (b:=b) (a:=a)
  rcases Classical.em (i<n) with hlt|hlt
  ·obtain ⟨m,hm⟩:∃m,n - i=m+1:=⟨n - i - 1,by omega⟩
   rw [hm] at hfi
   have q1:=KC (b:=b.drop a)
   rw [List.length_drop] at q1
   have nx:(j6 (b.drop a)).2.2=0->∀F',Fr 45 [(0,.slc (b.map ql)),(6,.i ((a+(j6 (b.drop a)).2.1:Nat):Int)),(8,.own (strs (acc++ [(j6 (b.drop a)).1]))),(21,.i (n:Int)),(22,.i ((i+1:Nat):Int))] F'->K .normal F' H:=fun he F' hF'=>hN _ _ ⟨i+1,a+(j6 (b.drop a)).2.1,acc++ [(j6 (b.drop a)).1],by omega,by omega,by simp;omega,by rw [hfi,UU he,show n - (i+1)=m by omega],hF',(qz rfl).symm⟩ (by
    rw [Ma,hF'.2.2.2.2.2.1]
    simp only [Mc,Md,Mf]
    omega)
   have bad:¬(j6 (b.drop a)).2.2=0->R (.tup [.own (strs []),.i 0,.i (j6 (b.drop a)).2.2]) H:=fun he=>hk ([],0,(j6 (b.drop a)).2.2) (by rw [hfi,G2 he])
   clear hN hE hk hfin hbad hfi
   simp+contextual only [hlt,Int.ofNat_lt,wa,↓V4,↓XP,qh]
   refine ⟨qO,by omega,QM ?_⟩
   generalize j6 (b.drop a)=t at q1 nx bad ⊢
   obtain ⟨s,k,e⟩:=t
   dsimp only at q1 nx bad ⊢
   rcases Classical.em (e=0) with c2|c2
   ·subst c2
    have w2:IntKind.i64.wrap ((a:Int)+(k:Int))=((a+k:Nat):Int):=by rw [qm (by omega) (by omega)];omega
    simp+contextual only [w2,qi (show i<=big by omega),↓V4,↓XP,qh,XW1,qc,qe]
    refine fun _ _ _=>⟨Wr,by omega,nx rfl _ ?_⟩
    rw [show strs (acc++ [s])=strs acc++ [[.str s]] by simp [strs]]
    exact ⟨rfl,rfl,rfl,rfl,rfl,rfl,trivial⟩
   ·simp+contextual only [eq_false c2,↓V4,↓XP,qo,XW1]
    refine fun _ _ _=>hR _ _ ?_
    simp+contextual only [↓XP,qo]
    exact bad c2
  ·have hik:i=n:=by omega
   subst hik
   clear hN
   rw [Nat.sub_self,Ga] at hfi
   simp+contextual only [↓V4,↓XP,qo]
   refine hE _ _ _ ?_
   simp+contextual only [↓V4,↓XP,qo,XW1]
   exact hk _ hfi
 ·simp+contextual only [eq_false c1,↓V4,↓XP,qo,XW1]
  exact fun _ _ _=>hk _ (hbad c1)
theorem HC {args:List D} {H:AH} {R:D->AH->Prop} (h:facts args->xcode Tryz.prog (Bu 0) (args++List.replicate (6 - args.length) (.tup [])) H (VT Tryz.prog [(.tmp 4)] R)):ACall Tryz.prog 138 args H R:=
 yN hm Tryz.func138 rfl (by kernel_rfl) (by kernel_rfl) (by kernel_rfl) (by kernel_rfl) (by kernel_rfl) (by kernel_rfl) h
theorem dX {fi:Nat} {b:List UInt8} {a:Nat} {H:AH} {R:D->AH->Prop} (hfi:fi=144) (h:∀b2 b3,qD H b2->(b2≠b3∧qD H b3)->R (.fn fi [.ptr b2 0,.ptr b3 0]) ((b3,.cells [.i a])::(b2,.cells [.slc (b.map ql)])::H)):ACall Tryz.prog 138 [.slc (b.map ql),.i a] H R:=by
 refine HC fun hf=>?_
 subst hfi
 simp+contextual only [↓Eg,zt,Qy,↓XP,qh,XW1,qa,qb]
 refine fun b2 h2 b3 h3=>⟨_,Sbn.sub (List.Sublist.refl _),h b2 b3 h2 h3⟩
theorem eK {b:List UInt8} {a b2 b3:Nat} {H:AH} {R:D->AH->Prop} (ha:a<=b.length) (hne:b2≠b3) (h2:qn H b2=none) (h3:qn H b3=none)
  (h:b.length<=140737488355328->R (.tup [.i (qR (b.drop a)).1,.i ((a+(qR (b.drop a)).2.1:Nat):Int),.i (qR (b.drop a)).2.2]) ((b3,.cells [.i ((a+(qR (b.drop a)).2.1:Nat):Int)])::(b2,.cells [.slc (b.map ql)])::H)):
  ACall Tryz.prog 144 [.ptr b2 0,.ptr b3 0] ((b3,.cells [.i a])::(b2,.cells [.slc (b.map ql)])::H) R:=by
 refine H4 fun hf=>?_
 have hbig:=qj
 have q1:=QB (b:=b.drop a)
 rw [List.length_drop] at q1
 have hne':=Ne.symm hne
 simp+contextual only [↓sy,vr,qg hne,↓sy,↓XP,qh,qa,qb]
 refine fun hb _=>⟨qO,by omega,Qm ?_⟩
 replace h:=h (by omega)
 generalize qR (b.drop a)=t at h q1 ⊢
 obtain ⟨x,k,e⟩:=t
 dsimp only at h q1 ⊢
 have w1:IntKind.i64.wrap ((a:Int)+(k:Int))=((a+k:Nat):Int):=by rw [qm (by omega) (by omega)];omega
 simp+contextual only [w1,↓sy,↓XP,qh,XW1]
 exact fun _ _ _ _ _=>h
theorem Zz {b:List UInt8} {H:AH} {R:D->AH->Prop} (hB:b.length<=1000000000) (h:R (.tup [.own (ints (jv b).1),.i ((jv b).2.1:Int),.i (jv b).2.2]) H):ACall Tryz.prog 116 [.slc (b.map ql)] H R:=by
 refine I8 fun hf=>?_
 have hbig:=qj
 have hle:=Km (b:=b)
 have hok:=oW (b:=b)
 have hfin:=Ux (f:=qR) (b:=b)
 have hk:∀t,jv b=t->R (.tup [.own (ints t.1),.i (t.2.1:Int),.i t.2.2]) H:=fun t ht=>by rw [<-ht];exact h
 clear h
 unfold jv at hk
 simp+contextual only [↓Ye,↓Ye,↓XP,qo,qa]
 refine JP ?_
 have hok2:(qy b).2.2=0->0<=(qy b).1∧(qy b).1+(qy b).2.1<=b.length:=fun h=>⟨(hok h).1,(hok h).2.1⟩
 have hbad:¬(qy b).2.2=0->zF qR b=([],0,(qy b).2.2):=fun h=>by unfold zF;rw [if_pos h]
 clear hok
 generalize qy b=t at hfin hle hok2 hbad ⊢
 obtain ⟨n,k,e⟩:=t
 dsimp only at hfin hle hok2 hbad ⊢
 rcases Classical.em (e=0) with c1|c1
 ·subst c1
  obtain ⟨g1,g2⟩:=hok2 rfl
  replace hfin:=hfin rfl
  obtain ⟨n,rfl⟩:=Mv g1
  rw [Mg] at hfin
  simp+contextual only [↓Ye,↓XP,qo,XW1]
  obtain ⟨fi,hfi⟩:∃fi,fi=144:=⟨_,rfl⟩
  refine fun _ _ _=>dX (fi:=fi) hfi fun b2 b3 h2 h3=>?_
  have n2:=jl h2
  have n3:=jl h3.2
  simp+contextual only [↓Ye,↓XP,qo,XW1]
  refine XW.loopK hmm (fun F H'=>∃(i a:Nat) (acc:List Int),i<=n∧a<=b.length∧acc.length=i∧zF qR b=Je acc a (Qj qR (n - i) (b.drop a))∧Fr 45 [(6,.i (a:Int)),(8,.fn fi [.ptr b2 0,.ptr b3 0]),(9,.own (ints acc)),(25,.i (n:Int)),(26,.i (i:Int))] F∧H'=((b3,.cells [.i a])::(b2,.cells [.slc (b.map ql)])::H)) (fun F H=>match F.getD 26 .any with| .int _ n'=>n - n'.toNat|_=>0) ⟨0,k,[],by omega,by omega,rfl,hfin,⟨rfl,rfl,rfl,rfl,rfl,rfl,trivial⟩,rfl⟩ ?_
  rintro _ _ ⟨i,a,acc,hi,ha,hac,hfi',hF,rfl⟩ K hN hE hR
  obtain ⟨z,rfl⟩:=hF.fl rfl
  try dsimp only [fl,zz,qa,qb] at*
  clear hF
  have sl:(ints acc).length=acc.length:=jb
  rcases Classical.em (i<n) with hlt|hlt
  ·obtain ⟨m,hm⟩:∃m,n - i=m+1:=⟨n - i - 1,by omega⟩
   rw [hm] at hfi'
   have q1:=QB (b:=b.drop a)
   rw [List.length_drop] at q1
   have nx:(qR (b.drop a)).2.2=0->∀F' H',back ((b3,AO.cells [.i a])::(b2,AO.cells [.slc (b.map ql)])::H).length H'=((b3,AO.cells [.i ((a+(qR (b.drop a)).2.1:Nat):Int)])::(b2,AO.cells [.slc (b.map ql)])::H)->Fr 45 [(6,.i ((a+(qR (b.drop a)).2.1:Nat):Int)),(8,.fn fi [.ptr b2 0,.ptr b3 0]),(9,.own (ints (acc++ [(qR (b.drop a)).1]))),(25,.i (n:Int)),(26,.i ((i+1:Nat):Int))] F'->K .normal F' H':=fun he F' H' hH hF'=>hN _ _ ⟨i+1,a+(qR (b.drop a)).2.1,acc++ [(qR (b.drop a)).1],by omega,by omega,by simp;omega,by rw [hfi',UU he,show n - (i+1)=m by omega],hF',hH⟩ (by
    rw [Ma,hF'.2.2.2.2.2.1]
    simp only [Mc,Md,Mf]
    omega)
   have bad:¬(qR (b.drop a)).2.2=0->R (.tup [.own (ints []),.i 0,.i (qR (b.drop a)).2.2]) H:=fun he=>hk ([],0,(qR (b.drop a)).2.2) (by rw [hfi',G2 he])
   clear hN hE hk hfin hbad hfi'
   simp+contextual only [hlt,Int.ofNat_lt,↓Ye,↓XP,qo]
   rw [hfi]
   refine eK ha h3.1 n2 n3 fun _=>?_
   rw [<-hfi]
   generalize qR (b.drop a)=t at q1 nx bad ⊢
   obtain ⟨s,k,e⟩:=t
   dsimp only at q1 nx bad ⊢
   rcases Classical.em (e=0) with c2|c2
   ·subst c2
    simp+contextual only [qi (show i<=big by omega),↓Ye,↓XP,qh,XW1,qc,qe]
    refine fun _ _ _=>⟨vA,by omega,nx rfl _ _ (qz rfl) ?_⟩
    rw [show ints (acc++ [s])=ints acc++ [[.i s]] by simp [ints]]
    exact ⟨rfl,rfl,rfl,rfl,rfl,rfl,trivial⟩
   ·simp+contextual only [eq_false c2,↓Ye,↓XP,qo,XW1]
    refine fun _ _ _=>hR _ _ ?_
    simp+contextual only [↓XP,qo]
    exact bad c2
  ·have hik:i=n:=by omega
   subst hik
   clear hN
   rw [Nat.sub_self,Ga] at hfi'
   simp+contextual only [↓Ye,↓XP,qo]
   refine hE _ _ _ ?_
   simp+contextual only [↓Ye,↓XP,qo,XW1]
   exact hk _ hfi'
 ·simp+contextual only [eq_false c1,↓Ye,↓XP,qo,XW1]
  exact fun _ _ _=>hk _ (hbad c1)
def o6 (b:List UInt8) (bad:Bool):AO:= .cells [.slc (b.map ql),.bool bad]
theorem Wj {R:D->AH->Prop} (hk:k<=b.length) (hg:qn H br=some (o6 b bad))
  (h:R (.tup []) (qH H br (o6 (b.drop k) (bad||decide (e≠0))))):ACall Tryz.prog 75 [.ptr br 0,.i k,.i e] H R:=by
 refine b75 fun hf=>?_
 have hbig:=qj
 unfold o6 at hg h
 have hs2:∀o,qn (qH H br o) br=some o:=fun o=>J0 (by rw [hg];rfl)
 have hs3:∀o o',qH (qH H br o) br o'=qH H br o':=fun o o'=>Q3
 cases bad with
 | true=>
  simp+contextual only [↓U75,vr,hg,hs2,hs3,↓U75.1,↓XP,qh,XW1,qa,qb]
  exact fun _=>⟨qO,by omega,h⟩
 | false=>
  rcases Classical.em (e=0) with c|c
  ·subst c
   simp+contextual only [↓U75,vr,hg,hs2,hs3,↓U75.1,↓XP,qh,XW1,qa,qb]
   exact fun _=>⟨qO,by omega,h⟩
  ·rw [decide_eq_true (show e≠0 from c)] at h
   simp+contextual only [↓U75,vr,hg,hs2,hs3,eq_false c,↓U75.1,↓XP,qh,XW1,qa,qb]
   exact fun _=>⟨qO,by omega,h⟩
def yB (b:List UInt8) (bad:Bool) (many:Int) (by':Nat):Bool:=bad||decide ((jv b).2.2≠0)||decide ((0<=many∧((jv b).1.length:Int)≠many)∨(jv b).1.length % by'≠0)
def Y2 (b:List UInt8) (bad:Bool) (many:Int) (by':Nat):List Int:=if yB b bad many by'=true then List.replicate many.toNat 0 else (jv b).1
theorem gR {R:D->AH->Prop} (hB:b.length<=1000000000) (hm:many<=1000) (h0:0<by') (hby:by'<=1000) (hg:qn H br=some (o6 b bad))
  (h:∀d:D,d.view= .slc (ints (Y2 b bad many by'))->R d (qH H br (o6 (b.drop (jv b).2.1) (yB b bad many by')))):ACall Tryz.prog 73 [.ptr br 0,.i many,.i by'] H R:=by
 refine b73 fun hf=>?_
 have hbig:=qj
 have hle:=ints_le (b:=b)
 have hg':=hg
 unfold o6 at hg'
 have hs2:∀o,qn (qH H br o) br=some o:=fun o=>J0 (by rw [hg];rfl)
 have hs3:∀o o',qH (qH H br o) br o'=qH H br o':=fun o o'=>Q3
 simp+contextual only [x73,hg',↓FV,↓pR,↓XP,qh,qa,qb]
 refine fun _=>Zz hB ?_
 simp+contextual only [jb,↓FV,↓pR,↓XP,qo,XW1]
 refine fun _ _ _=>Wj hle.1 hg ?_
 generalize (jv b).2.1=k at hle h ⊢
 unfold yB Y2 yB at h
 generalize (jv b).2.2=e at h ⊢
 generalize (jv b).1=l at hle h ⊢
 have hb1:(bad=true∨e≠0∨(0<=many∧(l.length:Int)≠many)∨l.length % by'≠0)->R (.own (List.replicate many.toNat [.i 0])) (qH H br (.cells [.slc ((b.drop k).map ql),.bool true])):=fun hc=>by
  have e1:(bad||decide (e≠0)||decide ((0<=many∧(l.length:Int)≠many)∨l.length % by'≠0))=true:=by simpa [or_assoc] using hc
  rw [e1,if_pos rfl] at h
  exact h _ (by rw [show ints (List.replicate many.toNat 0)=List.replicate many.toNat [.i 0] by simp [ints]];rfl)
 have hb2:¬(bad=true∨e≠0∨(0<=many∧(l.length:Int)≠many)∨l.length % by'≠0)->R (.slc (ints l)) (qH H br (.cells [.slc ((b.drop k).map ql),.bool false])):=fun hc=>by
  have e1:(bad||decide (e≠0)||decide ((0<=many∧(l.length:Int)≠many)∨l.length % by'≠0))=false:=by
   rw [<-Bool.not_eq_true]
   intro hh
   exact hc (by simpa [or_assoc] using hh)
  rw [e1,if_neg (by simp)] at h
  exact h _ rfl
 clear h
 obtain ⟨i,i1,i2⟩:∃i,Tryz.prog.info? 3=some i∧i.bytes=8:=⟨_,rfl,rfl⟩
 have m1:(if 0>many then (0:Int) else many)=(many.toNat:Int):=by split<;>omega
 have m2:(0<=(many.toNat:Int))=True:=eq_true (by omega)
 have m3:(((8:Nat):Int)*(many.toNat:Int)<=140737488355328)=True:=eq_true (by omega)
 have m4:((many.toNat:Int)<=140737488355328)=True:=eq_true (by omega)
 have m5:((by':Int)=0)=False:=eq_false (by omega)
 have m6:((l.length:Int)).tmod (by':Int)=((l.length % by':Nat):Int):=rfl
 have go:∀{p q:Prop},(p->q)->(¬p->q)->q:=fun a b=>(Classical.em _).elim a b
 refine go (p:=e=0) (fun c2=>?_) (fun c2=>?_)<;>refine go (p:=0<=many) (fun c3=>?_) (fun c3=>?_)<;>refine go (p:=(l.length:Int)=many) (fun c4=>?_) (fun c4=>?_)<;>refine go (p:=l.length % by'=0) (fun c5=>?_) (fun c5=>?_)<;>cases bad
 all_goals
  first
   |have c2':=eq_false c2
   |have c2':=eq_true c2
  first
   |have c3':=eq_false c3
   |have c3':=eq_true c3
  first
   |have c4':=eq_false c4
   |have c4':=eq_true c4
  first
   |have c5':(((l.length % by':Nat):Int)=0)=True:=eq_true (by omega)
   |have c5':(((l.length % by':Nat):Int)=0)=False:=eq_false (by omega)
  simp+contextual only [hs2,hs3,jb,o6,i1,i2,m1,m2,m3,m4,m5,m6,c2',c3',c4',c5',Mg,↓FV,↓pR,↓XP,qh,XW1,qb]
  intros
  first
   |(exfalso;omega)
   |exact hb1 (by simp [*])
   |exact hb2 (by simp [*])
def sml (n:Int):Prop:= -2000000<=n∧n<=2000000
theorem Wi (h:sml n):wX .i64 n:=by
 rw [yG]
 unfold sml at h
 omega
theorem Kz (h:yx x∨x=QJ):sml x.o∧sml x.s∧sml x.i:=by
 unfold sml
 rcases h with h|h
 ·unfold yx at h;omega
 ·subst h;simp [QJ]
theorem tH (h:uses k≠ []):1<=k∧k<=18:=by
 refine Classical.byContradiction fun hc=>h ?_
 unfold uses
 repeat rw [if_neg (by omega)]
theorem eg (h:YJ o):(∀x∈wj o,sml x)∧(∀x∈o.ids,sml x.o∧sml x.s∧sml x.i)∧o.ids.length<=4∧o.name.length<=16∧o.text.length<=1024:=by
 obtain ⟨⟨h1,h2,h3,h4,h5⟩,⟨g1,g2,g3,g4⟩,⟨i1,i2,i3,i4⟩,⟨j1,j2⟩,_⟩:=h
 have hk:=tH h1
 have hon:yx o.on∨o.on=QJ:=by
  by_cases c:79∈uses o.k
  ·exact .inl (h2 c)
  ·exact .inr (h3 c)
 have hto:yx o.to∨o.to=QJ:=by
  by_cases c:84∈uses o.k
  ·exact .inl (h4 c)
  ·exact .inr (h5 c)
 have hil:o.ids.length<=4:=by
  by_cases c:73∈uses o.k
  ·obtain ⟨_,_,c3,c4⟩:=g3 c
   by_cases c5:o.k=18
   ·have:=c3 c5;omega
   ·exact (c4 c5).2
  ·rw [g4 c];simp
 have hids:∀x∈o.ids,sml x.o∧sml x.s∧sml x.i:=by
  intro x hx
  by_cases c:73∈uses o.k
  ·exact Kz (.inl ((g3 c).1 x hx).1)
  ·rw [g4 c] at hx;simp at hx
 have hn:sml o.n:=by
  by_cases c:78∈uses o.k
  ·obtain ⟨c1,c2⟩:=g1 c
   unfold Qx at c1
   unfold zi at c2
   unfold sml
   constructor
   ·split at c1<;>omega
   ·repeat' (split at c2)
    all_goals omega
  ·rw [g2 c];unfold sml;omega
 have hab:sml o.a∧sml o.b:=by
  unfold sml
  by_cases c:83∈uses o.k
  ·have:=j1 c;unfold yf at this;omega
  ·have:=j2 c;omega
 have hk2:sml o.k:=by unfold sml;omega
 have a1:=Kz hon
 have a2:=Kz hto
 refine ⟨?_,hids,hil,?_,?_⟩
 ·intro x hx
  simp only [wj,uW,M0,Mz,Mu,M4,or_false] at hx
  rcases hx with rfl|rfl|rfl|rfl|rfl|rfl|rfl|rfl|rfl|rfl
  ·exact hk2
  ·exact a1.1
  ·exact a1.2.1
  ·exact a1.2.2
  ·exact a2.1
  ·exact a2.2.1
  ·exact a2.2.2
  ·exact hn
  ·exact hab.1
  ·exact hab.2
 ·by_cases c:65∈uses o.k
  ·exact (i1 c).2
  ·rw [i2 c];simp
 ·by_cases c:88∈uses o.k
  ·exact i3 c
  ·rw [i4 c];simp
def triple (l:List Int) (j:Nat):Id3:=⟨l.getD (3*j) 0,l.getD (3*j+1) 0,l.getD (3*j+2) 0⟩
def triples (l:List Int):List Id3:=(List.range (l.length / 3)).map (triple l)
def pair (l:List Int) (j:Nat):Rf:=⟨l.getD (2*j) 0,l.getD (2*j+1) 0⟩
def pairs (l:List Int):List Rf:=(List.range (l.length / 2)).map (pair l)
theorem gE:∀(l:List Id3),triples (l.flatMap uW)=l
 | []=>rfl
 | x::l=>by
  have h:=gE l
  unfold triples at h ⊢
  rw [vE] at h ⊢
  rw [show 3*(x::l).length / 3=l.length+1 by rw [Mi];omega,List.range_succ_eq_map,List.map_cons,M3]
  rw [show 3*l.length / 3=l.length by omega] at h
  rw [show triple ((x::l).flatMap uW) 0=x from rfl]
  exact congrArg _ h
theorem K4:∀(l:List Rf),pairs (jd l)=l
 | []=>rfl
 | x::l=>by
  have h:=K4 l
  unfold pairs at h ⊢
  rw [wy] at h ⊢
  rw [show 2*(x::l).length / 2=l.length+1 by rw [Mi];omega,List.range_succ_eq_map,List.map_cons,M3]
  rw [show 2*l.length / 2=l.length by omega] at h
  rw [show pair (jd (x::l)) 0=x from rfl]
  exact congrArg _ h
theorem Wm (h:∀x∈l,wX .i64 x) (hb:l.length<=140737488355328) (hm:0<=many->(l.length:Int)=many) (hy:l.length % by'=0):
  yB (qF l++r) false many by'=false∧Y2 (qF l++r) false many by'=l∧(qF l++r).drop (jv (qF l++r)).2.1=r:=by
 have e:=dE (rest:=r) h hb
 have e1:yB (qF l++r) false many by'=false:=by
  unfold yB
  rw [e]
  simp [hy]
  exact hm
 refine ⟨e1,?_,?_⟩
 ·unfold Y2
  rw [e1,e]
  rfl
 ·rw [e]
  exact List.drop_left
def Ad (l:List Int) (ids:List Id3) (name text:List UInt8):OpP:=⟨l.getD 0 0,⟨l.getD 1 0,l.getD 2 0,l.getD 3 0⟩,⟨l.getD 4 0,l.getD 5 0,l.getD 6 0⟩,ids,l.getD 7 0,name,text,l.getD 8 0,l.getD 9 0⟩
def KF (l m:List Int) (b2:List UInt8) (x2:Bool):OpP×List UInt8×Bool:=
 if (jZ b2).1.length=2 then (Ad l (triples m) ((jZ b2).1.getD 0 []) ((jZ b2).1.getD 1 []),b2.drop (jZ b2).2.1,x2||decide ((jZ b2).2.2≠0))
 else (Ad l (triples m) [] [],b2.drop (jZ b2).2.1,true)
def Wq (l:List Int) (b1:List UInt8) (x1:Bool):OpP×List UInt8×Bool:=KF l (Y2 b1 x1 (-1) 3) (b1.drop (jv b1).2.1) (yB b1 x1 (-1) 3)
def jz (b:List UInt8) (bad:Bool):OpP×List UInt8×Bool:=Wq (Y2 b bad 10 1) (b.drop (jv b).2.1) (yB b bad 10 1)
theorem nS (h:YJ o):jz (jH o++r) false=(o,r,false):=by
 obtain ⟨h1,h2,h3,h4,h5⟩:=eg h
 have e:jH o++r=qF (wj o)++(qF (o.ids.flatMap uW)++(yn [o.name,o.text]++r)):=by simp only [jH,Mo]
 have l10:(wj o).length=10:=rfl
 obtain ⟨a1,a2,a3⟩:=Wm (l:=wj o) (r:=qF (o.ids.flatMap uW)++(yn [o.name,o.text]++r)) (many:=10) (by':=1) (fun x hx=>Wi (h1 x hx)) (by omega) (fun _=>by rw [l10];rfl) (by omega)
 have hi:∀x∈o.ids.flatMap uW,wX .i64 x:=by
  intro x hx
  obtain ⟨y,hy,hx⟩:=List.mem_flatMap.1 hx
  have:=h2 y hy
  simp only [uW,Mu,M4,or_false] at hx
  rcases hx with rfl|rfl|rfl
  ·exact Wi this.1
  ·exact Wi this.2.1
  ·exact Wi this.2.2
 obtain ⟨b1,b2,b3⟩:=Wm (l:=o.ids.flatMap uW) (r:=yn [o.name,o.text]++r) (many:= -1) (by':=3) hi (by rw [vE];omega) (fun hc=>by omega) (by rw [vE];omega)
 have s1:=d6 (l:= [o.name,o.text]) (rest:=r) (by
  intro x hx
  simp only [Mu,M4,or_false] at hx
  rcases hx with rfl|rfl<;>omega) (by simp)
 unfold jz Wq
 rw [e,a1,a2,a3,b1,b2,b3]
 unfold KF
 rw [s1,gE]
 dsimp only
 rw [if_pos (by rfl),List.drop_left]
 rfl
def od:Nat->List UInt8->Bool->List OpP×List UInt8×Bool
 |0,b,bad=>([],b,bad)
 |c+1,b,bad=>if bad=true then ([],b,bad) else ((jz b bad).1::(od c (jz b bad).2.1 (jz b bad).2.2).1,(od c (jz b bad).2.1 (jz b bad).2.2).2)
theorem Vr:∀(l:List OpP) (r:List UInt8),(∀o∈l,YJ o)->od l.length (l.flatMap jH++r) false=(l,r,false)
 | [],r,_=>rfl
 | o::l,r,h=>by
  have e:=nS (r:=l.flatMap jH++r) (h o (.head _))
  have e2:=Vr l r (fun x hx=>h x (.tail _ hx))
  rw [show (o::l).flatMap jH++r=jH o++(l.flatMap jH++r) by simp,Mi]
  unfold od
  rw [e]
  dsimp only
  rw [e2]
  rfl
def wS (many:Int):Nat:=min many.toNat 17
def fm (l m:List Int) (ops:List OpP) (b4:List UInt8) (x4:Bool):Pt×Bool:=(⟨l.getD 0 0,l.getD 1 0,l.getD 2 0,pairs m,ops,(j6 b4).1⟩,x4||decide ((j6 b4).2.2≠0))
def Zp (l m:List Int) (b2:List UInt8) (x2:Bool):Pt×Bool:=
 fm l m (od (wS (qR b2).1) (b2.drop (qR b2).2.1) (x2||decide ((qR b2).2.2≠0))).1 (od (wS (qR b2).1) (b2.drop (qR b2).2.1) (x2||decide ((qR b2).2.2≠0))).2.1 (od (wS (qR b2).1) (b2.drop (qR b2).2.1) (x2||decide ((qR b2).2.2≠0))).2.2
def ZX (l:List Int) (b1:List UInt8) (x1:Bool):Pt×Bool:=Zp l (Y2 b1 x1 (-1) 2) (b1.drop (jv b1).2.1) (yB b1 x1 (-1) 2)
def oG (b:List UInt8):Pt×Bool:=ZX (Y2 b false 3 1) (b.drop (jv b).2.1) (yB b false 3 1)
def Good (p:Pt):Prop:=Jk p=0
theorem ZI (h:Good p):yK p∧p.needs.length<=8∧p.ops.length<=16∧vL p∧zJ p∧p.sl.length<=1200:=by
 unfold Good Jk at h
 by_cases c:jy p=0
 ·rw [if_neg (fun d=>d c)] at h
  have hs:p.sl.length<=1200:=by
   split at h
   ·simp at h
   ·omega
  unfold jy at c
  by_cases c1:yK p
  ·rw [if_neg (fun d=>d c1)] at c
   by_cases c2:8<p.needs.length∨16<p.ops.length
   ·rw [if_pos c2] at c;simp at c
   rw [if_neg c2] at c
   by_cases c3:p.ops= []
   ·rw [if_pos c3] at c;simp at c
   rw [if_neg c3] at c
   by_cases c4:vL p
   ·rw [if_neg (fun d=>d c4)] at c
    by_cases c5:zJ p
    ·exact ⟨c1,by omega,by omega,c4,c5,hs⟩
    ·rw [if_pos c5] at c;simp at c
   ·rw [if_pos c4] at c;simp at c
  ·rw [if_pos c1] at c;simp at c
 ·rw [if_pos c] at h;exact (c h).elim
theorem rD (h:Good p):oG (jO p)=(p,false):=by
 obtain ⟨h1,h2,h3,h4,h5,h6⟩:=ZI h
 unfold yK at h1
 have e:jO p=qF [p.o,p.s,p.day]++(qF (jd p.needs)++(qr p.ops.length++(p.ops.flatMap jH++(qB p.sl++ [])))):=by simp only [jO,Mo,My]
 obtain ⟨a1,a2,a3⟩:=Wm (l:= [p.o,p.s,p.day]) (r:=qF (jd p.needs)++(qr p.ops.length++(p.ops.flatMap jH++(qB p.sl++ [])))) (many:=3) (by':=1) (by
  intro x hx
  simp only [Mu,M4,or_false] at hx
  rw [yG]
  rcases hx with rfl|rfl|rfl<;>omega) (by simp) (fun _=>rfl) (by simp)
 obtain ⟨b1,b2,b3⟩:=Wm (l:=jd p.needs) (r:=qr p.ops.length++(p.ops.flatMap jH++(qB p.sl++ []))) (many:= -1) (by':=2) (by
  intro x hx
  obtain ⟨y,hy,hx⟩:=List.mem_flatMap.1 hx
  obtain ⟨i,hi,hy⟩:=List.getElem_of_mem hy
  have hv:=h4 i hi
  unfold yv at hv
  rw [jx hi,hy] at hv
  simp only [Mu,M4,or_false] at hx
  rw [yG]
  rcases hx with rfl|rfl<;>omega) (by rw [wy];omega) (fun hc=>by omega) (by rw [wy];omega)
 have c1:=WF (m:=(p.ops.length:Int)) (rest:=p.ops.flatMap jH++(qB p.sl++ [])) (Zd (by omega))
 have d1:=Vr p.ops (qB p.sl++ []) h5
 have f1:=YO (s:=p.sl) (rest:= []) (by omega)
 unfold oG ZX
 rw [e,a1,a2,a3,b1,b2,b3]
 unfold Zp
 rw [c1,show wS ((p.ops.length:Int),(qr (p.ops.length:Int)).length,(0:Int)).1=p.ops.length by simp [wS];omega,List.drop_left]
 rw [show (false||decide (((p.ops.length:Int),(qr (p.ops.length:Int)).length,(0:Int)).2.2≠0))=false from rfl,d1]
 unfold fm
 rw [f1,K4]
 rfl
noncomputable def gD (b:List UInt8):Pt×Int:=open Classical in if (oG b).2=false∧Jk (oG b).1=0∧jO (oG b).1=b then ((oG b).1,0) else (pt0,2)
theorem UO (h:Good p):gD (jO p)=(p,0):=by
 unfold gD
 rw [rD h,if_pos ⟨rfl,h,rfl⟩]
theorem r74 {R:D->AH->Prop} (h:facts args->xcode Tryz.prog (xu 0) (args++List.replicate (9 - args.length) (.tup [])) H (VT Tryz.prog [(.tmp 4)] R)):ACall Tryz.prog 74 args H R:=
 yN hm Tryz.func74 rfl (by kernel_rfl) (by kernel_rfl) (by kernel_rfl) (by kernel_rfl) (by kernel_rfl) (by kernel_rfl) h
theorem Gu {R:D->AH->Prop} (hfi:fi=117) (hk:1<=k) (h:∀b2 b3,qD H b2->(b2≠b3∧qD H b3)->R (.fn fi [.ptr b2 0,.ptr b3 0]) ((b3,.cells [.i k])::(b2,.cells [.slc xs])::H)):ACall Tryz.prog 74 [.slc xs,.i k] H R:=by
 refine r74 fun hf=>?_
 subst hfi
 simp+contextual only [↓U74,zt,Qy,show (k<1)=False from eq_false (by omega),↓U74,↓XP,qh,XW1,qa,qb]
 refine fun b2 h2 b3 h3 _=>⟨_,Sbn.sub (List.Sublist.refl _),h b2 b3 h2 h3⟩
theorem GH {b:List UInt8} {bad:Bool} {m:Nat}:(Y2 b bad (m:Int) 1).length=m:=by
 unfold Y2
 split
 ·simp
 ·next h=>
  unfold yB at h
  simp at h
  omega
theorem eH:(Y2 b bad (-1) k).length % k=0:=by
 unfold Y2
 split
 ·simp
 ·next h=>
  unfold yB at h
  simp at h
  exact h.2
theorem Z6:(Y2 b bad (-1) k).length<=b.length:=by
 unfold Y2
 split
 ·simp
 ·exact ints_le.2
theorem dO (h:l.length=10):∃a0 a1 a2 a3 a4 a5 a6 a7 a8 a9,l= [a0,a1,a2,a3,a4,a5,a6,a7,a8,a9]:=by
 match l,h with
 | [a0,a1,a2,a3,a4,a5,a6,a7,a8,a9],_=>exact ⟨_,_,_,_,_,_,_,_,_,_,rfl⟩
theorem lZ (h3:m.length % 3=0) (hj:j<uc (ints m).length 3):(jR (ints m) 3 j).length=3∧(jR (ints m) 3 j).getD 0 []= [.i (triple m j).o]∧(jR (ints m) 3 j).getD 1 []= [.i (triple m j).s]∧(jR (ints m) 3 j).getD 2 []= [.i (triple m j).i]:=by
 unfold uc at hj
 rw [jb] at hj
 have hlt:j*3+2<m.length:=by omega
 have hg:∀i,i<3->(jR (ints m) 3 j).getD i []= [.i (m.getD (3*j+i) 0)]:=by
  intro i hi
  unfold jR
  rw [Ma,List.getElem?_take_of_lt hi,List.getElem?_drop,ints,Me,Mb (show j*3+i<m.length by omega)]
  rw [Ma,Mb (show 3*j+i<m.length by omega)]
  simp only [Option.map_some,Mf,Nat.mul_comm j 3]
 refine ⟨?_,hg 0 (by omega),hg 1 (by omega),hg 2 (by omega)⟩
 unfold jR
 rw [Mw,List.length_drop,jb]
 omega
theorem nF (h3:m.length % 3=0):uc (ints m).length 3=m.length / 3:=by
 unfold uc
 rw [jb]
 omega
theorem Hk {b:List UInt8} {bad:Bool} {br:Nat} {H:AH} {R:D->AH->Prop} (hB:b.length<=1000000000) (hg:qn H br=some (o6 b bad)) (h:R (.agg (jz b bad).1.d) (qH H br (o6 (jz b bad).2.1 (jz b bad).2.2))):ACall Tryz.prog 76 [.ptr br 0] H R:=by
 refine b76 fun hf=>?_
 have hbig:=qj
 simp+contextual only [x76,↓rC,↓yQ,↓Yb,↓XP,qh,qa]
 intro b2 h2
 have e2:br≠b2:=fun e=>by
  have:=jl h2
  rw [<-e,hg] at this
  simp at this
 refine gR (b:=b) (bad:=bad) (many:=((10:Nat):Int)) (by':=1) hB (by omega) (by omega) (by omega) (by rw [qg e2];exact hg) fun d hd=>?_
 rw [qk e2]
 have hg1:∀o,qn (qH H br o) br=some o:=fun o=>J0 (by rw [hg];rfl)
 have hl:=GH (b:=b) (bad:=bad) (m:=10)
 obtain ⟨l,hl0⟩:∃l,Y2 b bad ((10:Nat):Int) 1=l:=⟨_,rfl⟩
 obtain ⟨bad1,hbad1⟩:∃x,yB b bad ((10:Nat):Int) 1=x:=⟨_,rfl⟩
 obtain ⟨c1,hc1⟩:∃x,b.drop (jv b).2.1=x:=⟨_,rfl⟩
 rw [hl0] at hl hd
 rw [hbad1,hc1]
 obtain ⟨a0,a1,a2,a3,a4,a5,a6,a7,a8,a9,rfl⟩:=dO hl
 have hB1:c1.length<=1000000000:=by rw [<-hc1];simp;omega
 clear hl
 obtain ⟨xs,hxs,hx10,x0,x1,x2,x3,x4,x5,x6,x7,x8,x9⟩:∃xs,ints [a0,a1,a2,a3,a4,a5,a6,a7,a8,a9]=xs∧xs.length=10∧xs.getD 0 []= [.i a0]∧xs.getD 1 []= [.i a1]∧xs.getD 2 []= [.i a2]∧xs.getD 3 []= [.i a3]∧xs.getD 4 []= [.i a4]∧xs.getD 5 []= [.i a5]∧xs.getD 6 []= [.i a6]∧xs.getD 7 []= [.i a7]∧xs.getD 8 []= [.i a8]∧xs.getD 9 []= [.i a9]:=⟨_,rfl,rfl,rfl,rfl,rfl,rfl,rfl,rfl,rfl,rfl,rfl,rfl⟩
 rw [hxs] at hd
 simp+contextual only [hd,hx10,x0,x1,x2,x3,x4,x5,x6,x7,x8,x9,show ((10:Nat):Int)=10 from rfl,Mr,Ms,Mt,↓rC,↓yQ,↓Yb,↓XP,qh,XW1,qb,qe]
 refine fun _ _ _ _ _ _ _ _ _ _ _=>⟨by omega,fun b4 hb4=>?_⟩
 obtain ⟨h24,h4⟩:=hb4
 have e4:br≠b4:=fun e=>by
  have:=jl h4
  rw [<-e,hg] at this
  simp at this
 rw [Jf]
 refine Gz.take (j:=7) rfl (fun h=>(h rfl).elim) ?_
 simp only [jB,if_true]
 simp+contextual only [↓yQ,↓Yb,↓XP,qo]
 refine gR (b:=c1) (bad:=bad1) (many:= -1) (by':=3) hB1 (by omega) (by omega) (by omega) (by rw [qg e4,qg e2];exact hg1 _) fun d2 hd2=>?_
 rw [qk e4,qk e2,Q3]
 have hm3:=eH (b:=c1) (bad:=bad1) (k:=3)
 have hml:=Z6 (b:=c1) (bad:=bad1) (k:=3)
 obtain ⟨m,hm0⟩:∃m,Y2 c1 bad1 (-1) ((3:Nat):Int).toNat=m:=⟨_,rfl⟩
 rw [show ((3:Nat):Int).toNat=3 from rfl] at hm0
 obtain ⟨bad2,hbad2⟩:∃x,yB c1 bad1 (-1) 3=x:=⟨_,rfl⟩
 obtain ⟨c2,hc2⟩:∃x,c1.drop (jv c1).2.1=x:=⟨_,rfl⟩
 have hB2:c2.length<=1000000000:=by rw [<-hc2];simp;omega
 rw [hm0] at hm3 hml hd2
 rw [hbad2,hc2]
 obtain ⟨fi,hfi⟩:∃fi,fi=117:=⟨_,rfl⟩
 simp+contextual only [jb,hd2,↓yQ,↓Yb,↓XP,qo]
 refine fun _=>Gu (fi:=fi) hfi (by omega) fun bA bB hA hB'=>?_
 simp+contextual only [↓yQ,↓Yb,↓XP,qo,XW1]
 have hAB:bA≠bB:=hB'.1
 refine XRF.chunkK hm (by rw [hfi];exact nf) (p:=48) (t:=5) (k:=3) (xs:=ints m) (b1:=bA) (b2:=bB) (f:=fi) rfl (by show (48:Nat)<93;omega) (by rw [qg hAB];exact jf) jf (by omega) (by omega) vA
  (fun pre H'=>H'=((b4,AO.cells [.i a0,.i a1,.i a2,.i a3,.i a4,.i a5,.i a6,.own (qW (pre.map (triple m))),.i a7,.str [],.str [],.i a8,.i a9])::(b2,AO.cells [.i 0,.i 0,.i 0,.i 0,.i 0,.i 0,.i 0,.own [],.i 0,.str [],.str [],.i 0,.i 0])::qH H br (o6 c2 bad2)))
  _ (by rw [u5 hAB,vW,vW];exact Sbn.sub (List.Sublist.refl _)) rfl ?_ ?_
 ·intro pre j H' hI hj hpl hfact K hK
  subst hI
  obtain ⟨y3,y0,y1,y2⟩:=lZ hm3 hj
  rw [nF hm3] at hj hpl
  generalize jR (ints m) 3 j=ys at y3 y0 y1 y2 ⊢
  have nx:=fun F' H''=>hK F' H'' _ (Sbn.sub (List.Sublist.refl _)) 
  clear hK
  rw [Mn,List.map_cons,List.map_nil,<-WD] at nx
  have il:(qW (pre.map (triple m))).length=pre.length:=by simp [qW]
  have hac:=Us (l:=pre.map (triple m))
  generalize qW (pre.map (triple m))=acc at nx il hac ⊢
  generalize triple m j=tj at nx y0 y1 y2
  simp+contextual only [y3,y0,y1,y2,hd,hd2,show ((3:Nat):Int)=3 from rfl,Mr,Ms,Mt,↓rC,↓yQ,↓Yb,↓XP,qh,XW1,qb,qc,qe]
  have n4:qn ((b2,AO.cells [.i 0,.i 0,.i 0,.i 0,.i 0,.i 0,.i 0,.own [],.i 0,.str [],.str [],.i 0,.i 0])::qH H br (o6 c2 bad2)) b4=none:=by
   rw [qg (Ne.symm h24),GO (Ne.symm e4)]
   exact jl h4
  exact ⟨.inl n4,fun _ _ _=>⟨hac,by omega,by omega,nx _ _ rfl⟩⟩
 ·intro H' hI
  subst hI
  rw [nF hm3,show (List.range (m.length / 3)).map (triple m)=triples m from rfl]
  have hg5:qn ((b4,AO.cells [.i a0,.i a1,.i a2,.i a3,.i a4,.i a5,.i a6,.own (qW (triples m)),.i a7,.str [],.str [],.i a8,.i a9])::(b2,AO.cells [.i 0,.i 0,.i 0,.i 0,.i 0,.i 0,.i 0,.own [],.i 0,.str [],.str [],.i 0,.i 0])::qH H br (o6 c2 bad2)) br=some (o6 c2 bad2):=by
   rw [qg e4,qg e2]
   exact hg1 _
  have hg5':=hg5
  unfold o6 at hg5'
  simp+contextual only [hd,hd2,hg5',o6,↓rC,↓yQ,↓Yb,↓XP,qh]
  refine fun _=>Y4 hB2 ?_
  simp+contextual only [↓rC,↓yQ,↓Yb,↓XP,qo,XW1]
  refine fun _ _ _=>Wj (b:=c2) (bad:=bad2) strs_le.1 hg5 ?_
  rw [qk e4,qk e2,Q3]
  obtain ⟨ss,hss⟩:∃s,jZ c2=s:=⟨_,rfl⟩
  rw [hss]
  obtain ⟨ss,kk,ee⟩:=ss
  dsimp only
  have sl:(strs ss).length=ss.length:=j8
  have hp:jz b bad=KF [a0,a1,a2,a3,a4,a5,a6,a7,a8,a9] m c2 bad2:=by
   unfold jz Wq
   rw [show Y2 b bad 10 1=_ from hl0,show yB b bad 10 1=_ from hbad1,hc1,hm0,hc2,hbad2]
  rw [hp] at h
  clear hp
  unfold KF at h
  rw [hss] at h
  dsimp only at h
  by_cases c2l:ss.length=2
  ·have s0:=kg (l:=ss) (i:=0) (by omega)
   have s1:=kg (l:=ss) (i:=1) (by omega)
   have c2':((ss.length:Int)=2)=True:=eq_true (by omega)
   rw [if_pos c2l] at h
   have n4:∀o,qn ((b2,AO.cells [.i 0,.i 0,.i 0,.i 0,.i 0,.i 0,.i 0,.own [],.i 0,.str [],.str [],.i 0,.i 0])::qH H br o) b4=none:=fun o=>by
    rw [qg (Ne.symm h24),GO (Ne.symm e4)]
    exact jl h4
   simp+contextual only [sl,c2l,s0,s1,n4,qg h24,qk h24,show ((2:Nat):Int)=2 from rfl,show (9<13)=True from eq_true (by omega),show (10<13)=True from eq_true (by omega),Mr,Ms,Mt,↓rC,↓yQ,↓Yb,↓XP,qh,XW1,qb]
   exact fun _ _ _=>h
  ·have c2':((ss.length:Int)=2)=False:=eq_false (by omega)
   rw [if_neg c2l] at h
   simp+contextual only [sl,c2',qg e4,qg e2,hg1,o6,qk e4,qk e2,Q3,qg h24,qk h24,↓rC,↓yQ,↓Yb,↓XP,qh,XW1,qb]
   exact fun _=>h
theorem VS {α:Type} {f:List UInt8->α×Nat×Int} {p:α->Prop} {B:Nat} (hf:∀b,b.length<=B->p (f b).1):∀(n:Nat) (b:List UInt8),b.length<=B->∀x∈(Qj f n b).1,p x
 |0,b,_=>by simp [Qj]
 | n+1,b,hb=>by
  have h2:=VS hf n (b.drop (f b).2.1) (by simp;omega)
  unfold Qj
  split
  ·simp
  ·split
   ·simp
   ·intro x hx
    rcases List.mem_cons.1 hx with rfl|hx
    ·exact hf b hb
    ·exact h2 x hx
theorem ez {b:List UInt8} {B:Nat} (hb:b.length<=B):∀x∈(jZ b).1,x.length<=B:=by
 unfold jZ zF
 split
 ·simp
 ·split
  ·simp
  ·exact VS (f:=j6) (p:=fun x:List UInt8=>x.length<=B) (B:=B) (fun b hb=>Mp VZ hb) _ _ (by rw [List.length_drop];omega)
theorem Yq {l:List (List UInt8)} {B i:Nat} (h:∀x∈l,x.length<=B):(l.getD i []).length<=B:=by
 rw [Ma]
 cases e:l[i]? with
 |none=>simp
 |some x=>exact h x (List.mem_of_getElem? e)
theorem nw {b:List UInt8} {bad:Bool} {B:Nat} (hb:b.length<=B):(jz b bad).1.ids.length<=B∧(jz b bad).1.name.length<=B∧(jz b bad).1.text.length<=B∧(jz b bad).2.1.length<=b.length:=by
 unfold jz Wq KF
 obtain ⟨c1,h1⟩:∃x,b.drop (jv b).2.1=x:=⟨_,rfl⟩
 have l1:c1.length<=b.length:=by rw [<-h1];simp
 rw [h1]
 obtain ⟨c2,h2⟩:∃x,c1.drop (jv c1).2.1=x:=⟨_,rfl⟩
 have l2:c2.length<=c1.length:=by rw [<-h2];simp
 rw [h2]
 have h3:=Z6 (b:=c1) (bad:=yB b bad 10 1) (k:=3)
 have h4:(triples (Y2 c1 (yB b bad 10 1) (-1) 3)).length<=B:=by unfold triples;rw [Ml,Mx];omega
 have h5:=ez (b:=c2) (B:=B) (by omega)
 split
 ·refine ⟨h4,Yq h5,Yq h5,?_⟩
  show (c2.drop _).length<=_
  rw [List.length_drop]
  omega
 ·refine ⟨h4,Nat.zero_le _,Nat.zero_le _,?_⟩
  show (c2.drop _).length<=_
  rw [List.length_drop]
  omega
theorem Gw:∀(c:Nat) (b:List UInt8) (bad:Bool),b.length<=B->(od c b bad).1.length<=c∧(od c b bad).2.1.length<=b.length∧∀o∈(od c b bad).1,o.ids.length<=B∧o.name.length<=B∧o.text.length<=B
 |0,b,bad,hb=>by simp [od]
 | c+1,b,bad,hb=>by
  unfold od
  split
  ·simp
  ·have h1:=nw (b:=b) (bad:=bad) hb
   have h2:=Gw (B:=B) c (jz b bad).2.1 (jz b bad).2.2 (by omega)
   refine ⟨by simp;exact h2.1,by dsimp only;omega,?_⟩
   intro o ho
   rcases List.mem_cons.1 ho with rfl|ho
   ·exact ⟨h1.1,h1.2.1,h1.2.2.1⟩
   ·exact h2.2.2 o ho
theorem ZM (h:l.length=3):∃a0 a1 a2,l= [a0,a1,a2]:=by
 match l,h with
 | [a0,a1,a2],_=>exact ⟨_,_,_,rfl⟩
theorem lv (h2:m.length % 2=0) (hj:j<uc (ints m).length 2):(jR (ints m) 2 j).length=2∧(jR (ints m) 2 j).getD 0 []= [.i (pair m j).o]∧(jR (ints m) 2 j).getD 1 []= [.i (pair m j).s]:=by
 unfold uc at hj
 rw [jb] at hj
 have hlt:j*2+1<m.length:=by omega
 have hg:∀i,i<2->(jR (ints m) 2 j).getD i []= [.i (m.getD (2*j+i) 0)]:=by
  intro i hi
  unfold jR
  rw [Ma,List.getElem?_take_of_lt hi,List.getElem?_drop,ints,Me,Mb (show j*2+i<m.length by omega)]
  rw [Ma,Mb (show 2*j+i<m.length by omega)]
  simp only [Option.map_some,Mf,Nat.mul_comm j 2]
 refine ⟨?_,hg 0 (by omega),hg 1 (by omega)⟩
 unfold jR
 rw [Mw,List.length_drop,jb]
 omega
theorem nk (h2:m.length % 2=0):uc (ints m).length 2=m.length / 2:=by
 unfold uc
 rw [jb]
 omega
theorem Gq {a b:List UInt8} {H:AH} {R:D->AH->Prop} (h:R (.bool (decide (a=b))) H):ACall Tryz.prog 78 [.slc (a.map ql),.slc (b.map ql)] H R:=by
 refine b78 fun hf=>?_
 simp+contextual only [↓U78,Jw,↓U78.1,↓XP,qh,qa,qb]
 exact ⟨gY,fun _=>⟨gY,fun _=>h⟩⟩
theorem JY:∀n:Nat,ji l out n<n∧ -1<=ji l out n
 |0=>by simp [ji]
 | n+1=>by
  have:=JY (l:=l) (out:=out) n
  unfold ji
  split<;>omega
theorem J4:∀n:Nat,∀p∈(qX l n).1,p∈l
 |0=>by simp [qX]
 | n+1=>by
  have h:=J4 (l:=l) n
  unfold qX
  dsimp only
  split
  ·split
   ·exact h
   ·rename_i hc
    intro p hp
    rcases List.mem_append.1 hp with hp|hp
    ·exact h p hp
    ·rw [List.mem_singleton.1 hp]
     have:=JY (l:=l) (out:=(qX l n).1) l.length
     exact UE (by omega)
  ·exact h
theorem Ys (hr:ready out (l.getD i default)=true) (hk:known out (l.getD i default).o (l.getD i default).s=false):∀n:Nat,i<n->0<=ji l out n
 |0,h=>by omega
 | n+1,h=>by
  unfold ji
  split
  ·omega
  ·rename_i hc
   by_cases e:i=n
   ·subst e
    refine Classical.byContradiction fun hneg=>hc ?_
    unfold better
    dsimp only
    rw [hr,hk]
    simp
    left
    left
    omega
   ·exact Ys hr hk n (by omega)
theorem WP (h:(qX l n).1≠ []):(qX l (n+1)).1≠ []:=by
 unfold qX
 dsimp only
 split
 ·split
  ·exact h
  ·simp
 ·exact h
theorem ZF (h0:0<l.length) (h1:(l.getD 0 default).needs= []) (h2:(l.getD 0 default).s=1):ordered l≠ []:=by
 have hb:0<=ji l [] l.length:=Ys (i:=0) (by unfold ready;rw [h1,h2];simp) (by simp [known]) _ h0
 have base:(qX l 1).1≠ []:=by
  have hb':¬(ji l (qX l 0).1 l.length<0):=by
   show ¬(ji l [] l.length<0)
   omega
  unfold qX
  dsimp only
  rw [if_pos (show (qX l 0).2=true from rfl),if_neg hb']
  simp
 have go:∀n:Nat,(qX l (n+1)).1≠ []:=by
  intro n
  induction n with
  |zero=>exact base
  |succ n ih=>exact WP ih
 unfold ordered
 obtain ⟨n,hn⟩:∃n,l.length=n+1:=⟨l.length - 1,by omega⟩
 rw [hn]
 exact go n
theorem K8:∀q:Nat,(qA ⟨[],[]⟩ o m q).p={pt0 with o:=o,s:=1,day:=1}
 |0=>rfl
 | q+1=>by
  have h:=K8 (o:=o) (m:=m) q
  simp only [qA]
  unfold yl
  dsimp only
  rw [if_pos (.inl (by simp [last,wU]))]
  exact h
theorem Vm (l:List Int):∀i:Nat,0<i->((j7 l offices i).l.getD 0 default).needs= []∧((j7 l offices i).l.getD 0 default).s=1
 |0,h=>by omega
 | 1,_=>by
  have hg:=GInv.nil
  have e:(j7 l offices 1).l=(next ⟨[],[]⟩ offices (l.drop (2+32*0))).l:=rfl
  rw [e]
  unfold Go.Proofs.YtgopigkdcmhbbaaGreatDoor.next
  dsimp only
  have hr:=K8 (o:=qC (l.drop (2+32*0)) 0 offices) (m:=l.drop (2+32*0)) offices
  obtain ⟨_,g2,_,_⟩:=ke (x:=⟨[],[]⟩) (o:=qC (l.drop (2+32*0)) 0 offices) (m:=l.drop (2+32*0)) offices
  obtain ⟨h1,_⟩:=wn hg (o:=qC (l.drop (2+32*0)) 0 offices) (m:=l.drop (2+32*0)) offices
  generalize qA ⟨[],[]⟩ (qC (l.drop (2+32*0)) 0 offices) (l.drop (2+32*0)) offices=s at hr g2 h1 ⊢
  obtain ⟨more,e1,_⟩:=uA (x:=⟨[],[]⟩) (seen:=s.seen) (p:={s.p with day:=s.p.day+qC (l.drop (2+32*0)) 4 4}) (m:=l.drop (2+32*0)) g2 (VOk.base hg h1 g2) (1+jM (l.drop (2+32*0)) 5 2)
  have e3:=e1.eq
  generalize jk ⟨[],[]⟩ s.seen {s.p with day:=s.p.day+qC (l.drop (2+32*0)) 4 4} (l.drop (2+32*0)) (1+jM (l.drop (2+32*0)) 5 2)=p at e3 ⊢
  simp only [Mz,Md]
  rw [e3]
  dsimp only
  rw [hr]
  exact ⟨rfl,rfl⟩
 | i+2,_=>by
  have h:=Vm l (offices:=offices) (i+1) (by omega)
  have e:(j7 l offices (i+2)).l=(next (j7 l offices (i+1)) offices (l.drop (2+32*(i+1)))).l:=rfl
  rw [e]
  unfold Go.Proofs.YtgopigkdcmhbbaaGreatDoor.next
  dsimp only
  rw [w8 ?_]
  ·exact h
  ·have e2:(j7 l offices (i+1)).l=(next (j7 l offices i) offices (l.drop (2+32*i))).l:=rfl
   rw [e2,Vp]
   omega
theorem pB {b3 b6} (hb3:b3.length<=3000000) (nr6:br≠b6) (n26:b2≠b6) (h6:qD H b6) (nbr:br≠b2) (hr:qD H br)
  (hF:∀i:Nat,i=0->Fr 116 [(0,.slc xb),(2,.ptr b2 0),(4,.ptr br 0),(6,.ptr b6 0),(8,.i many),(11,.i (i:Int))] F)
  (hE:∀(os:List OpP) (bb:List UInt8) (bad:Bool),od (wS many) b3 x3=(os,bb,bad)->∀F',Fr 116 [(0,.slc xb),(2,.ptr b2 0),(4,.ptr br 0),(6,.ptr b6 0)] F'->Q (.exit 2) F' ((b6,AO.cells [.i a0,.i a1,.i a2,nd,.own (qu os),.str []])::(br,o6 bb bad)::(b2,zo)::H)):
  XW Tryz.prog x36_L3 F ((b6,AO.cells [.i a0,.i a1,.i a2,nd,.own [],.str []])::(br,o6 b3 x3)::(b2,zo)::H) Q:=by
 have hbig:=qj
 have hc17:wS many<=17:=by unfold wS;omega
 refine XW.loopK hmm (fun F H'=>∃(i:Nat) (os:List OpP) (bb:List UInt8) (bad:Bool),i<=wS many∧os.length=i∧bb.length<=3000000∧od (wS many) b3 x3=(os++(od (wS many - i) bb bad).1,(od (wS many - i) bb bad).2)∧Fr 116 [(0,.slc xb),(2,.ptr b2 0),(4,.ptr br 0),(6,.ptr b6 0),(8,.i many),(11,.i (i:Int))] F∧H'=((b6,AO.cells [.i a0,.i a1,.i a2,nd,.own (qu os),.str []])::(br,o6 bb bad)::(b2,zo)::H)) (fun F H=>match F.getD 11 .any with| .int _ n'=>17 - n'.toNat|_=>0) ⟨0,[],b3,x3,by omega,rfl,hb3,by simp,hF 0 rfl,rfl⟩ ?_
 rintro _ _ ⟨i,os,bb,bad,hi,hos,hbb,hcon,hF,rfl⟩ K hN hE' hR
 obtain ⟨z,rfl⟩:=hF.fl rfl
 try dsimp only [fl,zz,qa,qb] at*
 clear hF hR
 have ol:(qu os).length=os.length:=qI
 have nb6:qn ((b2,zo)::H) b6=none:=jl ⟨Ne.symm n26,h6⟩
 have nb7:qn ((b2,zo)::H) br=none:=jl ⟨nbr,hr⟩
 by_cases hlt:i<wS many∧bad=false
 ·obtain ⟨hlt,hbd⟩:=hlt
  subst hbd
  have m1:((i:Int)<many)=True:=eq_true (by unfold wS at hlt;omega)
  have m2:((i:Int)<=16)=True:=eq_true (by omega)
  have hle:=nw (b:=bb) (bad:=false) hbb
  have nx:∀F' H',back ((b6,AO.cells [.i a0,.i a1,.i a2,nd,.own (qu os),.str []])::(br,o6 bb false)::(b2,zo)::H).length H'=((b6,AO.cells [.i a0,.i a1,.i a2,nd,.own (qu (os++ [(jz bb false).1])),.str []])::(br,o6 (jz bb false).2.1 (jz bb false).2.2)::(b2,zo)::H)->Fr 116 [(0,.slc xb),(2,.ptr b2 0),(4,.ptr br 0),(6,.ptr b6 0),(8,.i many),(11,.i ((i+1:Nat):Int))] F'->K .normal F' H':=fun F' H' hH hF'=>hN _ _ ⟨i+1,os++ [(jz bb false).1],(jz bb false).2.1,(jz bb false).2.2,hlt,by simp [hos],by omega,by
    obtain ⟨q,hq⟩:∃q,wS many - i=q+1:=⟨wS many - i - 1,by omega⟩
    rw [hcon,hq,show wS many - (i+1)=q by omega]
    simp [od],hF',hH⟩ (by
   rw [Ma,hF'.2.2.2.2.2.2.1]
   simp only [Mc,Md,Mf]
   omega)
  clear hN hE hE' hcon
  have hcall:∀H1,qn H1 br=some (AO.cells [.slc (bb.map ql),.bool false])->ACall Tryz.prog 76 [.ptr br 0] H1 (fun d' H'=>d'= .agg (jz bb false).1.d∧H'=qH H1 br (o6 (jz bb false).2.1 (jz bb false).2.2)):=fun H1 hg=>Hk (b:=bb) (bad:=false) (by omega) hg ⟨rfl,rfl⟩
  have hod:(jz bb false).1.d.length=13:=rfl
  simp+contextual only [m1,m2,o6,qg nr6,↓WJ,↓vC,↓XP,qh,XW1]
  refine ⟨.inl nb6,_,br,_,_,nb7,.inr (by simpa using nr6),by rw [qg nr6];exact jf,hcall,?_⟩
  generalize (jz bb false).2.1=bb' at nx ⊢
  generalize (jz bb false).2.2=bad' at nx ⊢
  generalize (jz bb false).1=o at nx ⊢
  rw [<-Wp] at nx
  have hod:o.d= [.i o.k,.i o.on.o,.i o.on.s,.i o.on.i,.i o.to.o,.i o.to.s,.i o.to.i,.slc (qW o.ids),.i o.n,.str o.name,.str o.text,.i o.a,.i o.b]:=rfl
  simp+contextual only [hod,o6,qk nr6,qi (show i<=big by omega),ol,↓WJ,↓vC,↓XP,qh,XW1,qb,qc,qe]
  refine ⟨kP,by omega,by omega,nx _ _ (qz rfl) ?_⟩
  exact ⟨rfl,rfl,rfl,rfl,rfl,rfl,rfl,trivial⟩
 ·have e0:od (wS many - i) bb bad=([],bb,bad):=by
   rcases Classical.em (bad=true) with hb|hb
   ·subst hb
    cases wS many - i<;>rfl
   ·have:wS many - i=0:=by
     have:¬i<wS many:=fun h=>hlt ⟨h,by simpa using hb⟩
     omega
    rw [this]
    rfl
  rw [e0,My] at hcon
  have fin:=fun F'=>hE os bb bad hcon F'
  clear hN hE hcon e0
  by_cases c1:(i:Int)<many
  ·by_cases c2:i<=16
   ·have hb:bad=true:=by
     refine Classical.byContradiction fun hb=>hlt ⟨?_,by simpa using hb⟩
     unfold wS
     omega
    subst hb
    simp+contextual only [eq_true c1,show ((i:Int)<=16)=True from eq_true (by omega),o6,qg nr6,↓WJ,↓vC,↓XP,qh,XW1]
    exact hE' _ _ _ (fin _ ⟨rfl,rfl,rfl,rfl,rfl,trivial⟩)
   ·simp+contextual only [eq_true c1,show ((i:Int)<=16)=False from eq_false (by omega),o6,↓WJ,↓vC,↓XP,qo]
    exact hE' _ _ _ (fin _ ⟨rfl,rfl,rfl,rfl,rfl,trivial⟩)
  ·simp+contextual only [eq_false c1,o6,↓WJ,↓vC,↓XP,qo]
   exact hE' _ _ _ (fin _ ⟨rfl,rfl,rfl,rfl,rfl,trivial⟩)
theorem fw {R:D->AH->Prop} (hB:b.length<=3000000) (h:R (.tup [.agg (gD b).1.d,.i (gD b).2]) H):ACall Tryz.prog 36 [.slc (b.map ql)] H R:=by
 refine b36 fun hf=>?_
 have hbig:=qj
 simp+contextual only [UX,↓WJ,↓vC,↓XP,qh,XW1,qa,qb,qe]
 intro b2 h2 br hr
 have e2:b2≠br:=hr.1
 have hr2:=hr.2
 refine gR (b:=b) (bad:=false) (many:=((3:Nat):Int)) (by':=1) (by omega) (by omega) (by omega) (by omega) jf fun d hd=>?_
 rw [wG]
 have hl:=GH (b:=b) (bad:=false) (m:=3)
 obtain ⟨l,hl0⟩:∃l,Y2 b false ((3:Nat):Int) 1=l:=⟨_,rfl⟩
 obtain ⟨bad1,hbad1⟩:∃x,yB b false ((3:Nat):Int) 1=x:=⟨_,rfl⟩
 obtain ⟨c1,hc1⟩:∃x,b.drop (jv b).2.1=x:=⟨_,rfl⟩
 rw [hl0] at hl hd
 rw [hbad1,hc1]
 obtain ⟨a0,a1,a2,rfl⟩:=ZM hl
 have hB1:c1.length<=b.length:=by rw [<-hc1];simp
 clear hl
 obtain ⟨xs,hxs,hx3,x0,x1,x2⟩:∃xs,ints [a0,a1,a2]=xs∧xs.length=3∧xs.getD 0 []= [.i a0]∧xs.getD 1 []= [.i a1]∧xs.getD 2 []= [.i a2]:=⟨_,rfl,rfl,rfl,rfl,rfl⟩
 rw [hxs] at hd
 simp+contextual only [hd,hx3,x0,x1,x2,show ((3:Nat):Int)=3 from rfl,Mr,Ms,Mt,↓WJ,↓vC,↓XP,qh,XW1,qb,qe]
 intro _ _ _ _
 refine ⟨by omega,?_⟩
 rintro b6 ⟨nr6,n26,h6⟩
 obtain ⟨zo,hzz⟩:∃zo,AO.cells [.i 0,.i 0,.i 0,.own [],.own [],.str []]=zo:=⟨_,rfl⟩
 rw [Jf]
 refine Gz.bind (k:=fun F'' H''=>F''=_∧H''=_) (Gz.take (j:=3) rfl (fun h=>(h rfl).elim) ⟨rfl,rfl⟩) ?_
 rintro _ _ ⟨rfl,rfl⟩
 refine Gz.take (j:=4) rfl (fun h=>(h rfl).elim) ?_
 simp only [jB,if_true]
 rw [hzz]
 simp+contextual only [↓vC,↓XP,qo]
 refine gR (b:=c1) (bad:=bad1) (many:= -1) (by':=2) (by omega) (by omega) (by omega) (by omega) (by rw [qg nr6];exact jf) fun d2 hd2=>?_
 rw [qk nr6,wG]
 have hm2:=eH (b:=c1) (bad:=bad1) (k:=2)
 have hml:=Z6 (b:=c1) (bad:=bad1) (k:=2)
 obtain ⟨m,hm0⟩:∃m,Y2 c1 bad1 (-1) 2=m:=⟨_,rfl⟩
 obtain ⟨bad2,hbad2⟩:∃x,yB c1 bad1 (-1) 2=x:=⟨_,rfl⟩
 obtain ⟨c2,hc2⟩:∃x,c1.drop (jv c1).2.1=x:=⟨_,rfl⟩
 have hB2:c2.length<=c1.length:=by rw [<-hc2];simp
 rw [hm0] at hm2 hml hd2
 rw [hbad2,hc2]
 obtain ⟨fi,hfi⟩:∃fi,fi=117:=⟨_,rfl⟩
 simp+contextual only [jb,hd2,↓vC,↓XP,qo]
 refine fun _=>Gu (fi:=fi) hfi (by omega) fun bA bB hA hB'=>?_
 have hAB:bA≠bB:=hB'.1
 simp+contextual only [↓vC,↓XP,qo,XW1]
 refine XRF.chunkK hm (by rw [hfi];exact nf) (p:=32) (t:=7) (k:=2) (xs:=ints m) (b1:=bA) (b2:=bB) (f:=fi) rfl (by show (32:Nat)<116;omega) (by rw [qg hAB];exact jf) jf (by omega) (by omega) vA
  (fun pre H'=>H'=((b6,AO.cells [.i a0,.i a1,.i a2,.own (qt (pre.map (pair m))),.own [],.str []])::(br,o6 c2 bad2)::(b2,zo)::H))
  _ (by rw [u5 hAB,vW,vW];exact Sbn.sub (List.Sublist.refl _)) rfl ?_ ?_
 ·intro pre j H' hI hj hpl hfact K hK
  subst hI
  obtain ⟨y2,y0,y1⟩:=lv hm2 hj
  rw [nk hm2] at hj hpl
  generalize jR (ints m) 2 j=ys at y2 y0 y1 ⊢
  have nx:=fun F' H''=>hK F' H'' _ (Sbn.sub (List.Sublist.refl _)) 
  clear hK
  rw [Mn,List.map_cons,List.map_nil,<-Vu] at nx
  have il:(qt (pre.map (pair m))).length=pre.length:=by simp [qt]
  have hac:=zW (l:=pre.map (pair m))
  generalize qt (pre.map (pair m))=acc at nx il hac ⊢
  generalize pair m j=tj at nx y0 y1
  simp+contextual only [y2,y0,y1,hd,hd2,show ((2:Nat):Int)=2 from rfl,Mr,Ms,Mt,↓WJ,↓vC,↓XP,qh,XW1,qb,qc,qe]
  have n6:qn ((br,o6 c2 bad2)::(b2,zo)::H) b6=none:=jl ⟨Ne.symm nr6,Ne.symm n26,h6⟩
  exact ⟨.inl n6,fun _ _=>⟨hac,by omega,by omega,nx _ _ rfl⟩⟩
 ·intro H' hI
  subst hI
  rw [nk hm2,show (List.range (m.length / 2)).map (pair m)=pairs m from rfl]
  simp+contextual only [hd,hd2,o6,qg nr6,↓WJ,↓vC,↓XP,qh]
  refine fun _=>Qm ?_
  simp+contextual only [↓WJ,↓vC,↓XP,qo,XW1]
  have hr0:qn ((b6,AO.cells [.i a0,.i a1,.i a2,.own (qt (pairs m)),.own [],.str []])::(br,o6 c2 bad2)::(b2,zo)::H) br=some (o6 c2 bad2):=by rw [qg nr6];exact jf
  refine fun _ _ _=>Wj (b:=c2) (bad:=bad2) QB hr0 ?_
  rw [qk nr6,wG]
  have hle3:(c2.drop (qR c2).2.1).length<=c2.length:=by simp
  obtain ⟨t,ht⟩:∃t,qR c2=t:=⟨_,rfl⟩
  rw [ht] at hle3 ⊢
  obtain ⟨many,kk,ee⟩:=t
  dsimp only at hle3 ⊢
  simp+contextual only [↓vC,↓XP,qo,XW1]
  refine pB (xb:=b.map ql) (by omega) nr6 n26 h6 (Ne.symm e2) hr2 (fun i hi=>by subst hi;exact ⟨rfl,rfl,rfl,rfl,rfl,rfl,rfl,trivial⟩) fun os bb bad hops F' hF'=>?_
  obtain ⟨z,rfl⟩:∃z:Nat->D,_=(let xb:=b.map ql; [.slc xb,z 1,.ptr b2 0,z 3,.ptr br 0,z 5,.ptr b6 0,z 7,z 8,z 9,z 10,z 11,z 12,z 13,z 14,z 15,z 16,z 17,z 18,z 19,z 20,z 21,z 22,z 23,z 24,z 25,z 26,z 27,z 28,z 29,z 30,z 31,z 32,z 33,z 34,z 35,z 36,z 37,z 38,z 39,z 40,z 41,z 42,z 43,z 44,z 45,z 46,z 47,z 48,z 49,z 50,z 51,z 52,z 53,z 54,z 55,z 56,z 57,z 58,z 59,z 60,z 61,z 62,z 63,z 64,z 65,z 66,z 67,z 68,z 69,z 70,z 71,z 72,z 73,z 74,z 75,z 76,z 77,z 78,z 79,z 80,z 81,z 82,z 83,z 84,z 85,z 86,z 87,z 88,z 89,z 90,z 91,z 92,z 93,z 94,z 95,z 96,z 97,z 98,z 99,z 100,z 101,z 102,z 103,z 104,z 105,z 106,z 107,z 108,z 109,z 110,z 111,z 112,z 113,z 114,z 115]):=hF'.lit
  clear hF'
  have hor:=Gw (B:=3000000) (wS many) (c2.drop kk) (bad2||decide (ee≠0)) (by omega)
  rw [hops] at hor
  obtain ⟨o1,o2,o3⟩:=hor
  dsimp only at o1 o2 o3
  simp+contextual only [o6,qg nr6,↓WJ,↓vC,↓XP,qh,XW1]
  refine fun _=>QM ?_
  simp+contextual only [↓WJ,↓vC,↓XP,qo,XW1]
  have hr1:qn ((b6,AO.cells [.i a0,.i a1,.i a2,.own (qt (pairs m)),.own (qu os),.str []])::(br,o6 bb bad)::(b2,zo)::H) br=some (o6 bb bad):=by rw [qg nr6];exact jf
  refine fun _ _ _=>Wj (b:=bb) (bad:=bad) KC hr1 ?_
  rw [qk nr6,wG]
  have hsl:=VZ (b:=bb)
  have hp:oG b=(⟨a0,a1,a2,pairs m,os,(j6 bb).1⟩,bad||decide ((j6 bb).2.2≠0)):=by
   unfold oG ZX
   rw [show Y2 b false 3 1=_ from hl0,show yB b false 3 1=_ from hbad1,hc1,hm0,hc2,hbad2]
   unfold Zp
   rw [ht,hops]
   rfl
  unfold gD at h
  rw [hp] at h
  clear hp
  dsimp only at h
  generalize (j6 bb).2.2=e5 at h ⊢
  generalize (j6 bb).2.1=k5 at h ⊢
  generalize (j6 bb).1=sl at h hsl ⊢
  obtain ⟨bad5,hbad5⟩:∃x,(bad||decide (e5≠0))=x:=⟨_,rfl⟩
  rw [hbad5] at h ⊢
  clear hbad5
  subst hzz
  cases bad5 with
  | true=>
   rw [if_neg (by simp)] at h
   simp+contextual only [o6,qg nr6,qg n26,qk n26,qg e2,qk e2,↓WJ,↓vC,↓XP,qh,XW1,qb]
   exact h
  | false=>
   simp+contextual only [o6,qg nr6,↓WJ,↓vC,↓XP,qh,XW1,qb]
   obtain ⟨p,hp⟩:∃p:Pt,(⟨a0,a1,a2,pairs m,os,sl⟩:Pt)=p:=⟨_,rfl⟩
   have hpd: [D.i a0,.i a1,.i a2,.slc (qt (pairs m)),.slc (qu os),.str sl]=p.d:=by rw [<-hp];rfl
   have hfit:Fit p:=by
    rw [<-hp]
    have:wS many<=17:=by unfold wS;omega
    exact ⟨by show os.length<=1000;omega,by show (pairs m).length<=3000000;unfold pairs;rw [Ml,Mx];omega,fun o ho=>(o3 o ho).1,fun o ho=>(o3 o ho).2.1,fun o ho=>(o3 o ho).2.2,by show sl.length<=3000000;omega⟩
   rw [hp] at h
   rw [hpd]
   refine YR hfit ?_
   rcases Classical.em (Jk p=0) with g1|g1
   ·rw [if_pos g1,g1]
    rcases Classical.em (jO p=b) with g2|g2
    ·rw [if_pos ⟨rfl,g1,g2⟩] at h
     have g3:decide (b=jO p)=true:=decide_eq_true g2.symm
     simp+contextual only [↓WJ,↓vC,↓XP,qo,XW1]
     refine fun _ _=>Gq ?_
     rw [g3]
     simp+contextual only [qg n26,qk n26,qg e2,qk e2,↓WJ,↓vC,↓XP,qh,XW1,qb]
     rw [hpd]
     exact h
    ·rw [if_neg (fun h=>g2 h.2.2)] at h
     have g3:decide (b=jO p)=false:=decide_eq_false (fun h=>g2 h.symm)
     simp+contextual only [↓WJ,↓vC,↓XP,qo,XW1]
     refine fun _ _=>Gq ?_
     rw [g3]
     simp+contextual only [qg n26,qk n26,qg e2,qk e2,↓WJ,↓vC,↓XP,qh,XW1,qb]
     exact h
   ·rw [if_neg g1]
    rw [if_neg (fun h=>g1 h.2.1)] at h
    simp+contextual only [eq_false g1,qg n26,qk n26,qg e2,qk e2,↓WJ,↓vC,↓XP,qh,XW1,qb]
    exact fun _ _=>h
theorem fM {a b:List UInt8} {H:AH} {R:D->AH->Prop} (h:R (.bool (decide (a=b))) H):ACall Tryz.prog 38 [.slc (a.map ql),.slc (b.map ql)] H R:=by
 refine b38 fun hf=>?_
 have hbig:=qj
 have hk:∀c,decide (a=b)=c->R (.bool c) H:=fun c hc=>hc▸h
 clear h
 rcases Classical.em (a.length=b.length) with hl|hl
 ·simp+contextual only [↓pV,show ((a.length:Int)=(b.length:Int))=True from eq_true (by omega),↓pV,↓XP,qh,qa,qb]
  refine fun _ _=>XW.loopK hmm (fun F H'=>∃(i:Nat),i<=a.length∧a.take i=b.take i∧Fr 26 [(0,.slc (a.map ql)),(1,.slc (b.map ql)),(5,.i (i:Int))] F∧H=H') (fun F H=>match F.getD 5 .any with| .int _ n'=>a.length - n'.toNat|_=>0) ⟨0,by omega,by simp,⟨rfl,rfl,rfl,rfl,trivial⟩,rfl⟩ ?_
  rintro _ _ ⟨i,hi,hv,hF,rfl⟩ K hN hE hR
  obtain ⟨z,rfl⟩:=hF.fl rfl
  try dsimp only [fl,zz,qa,qb] at*
  clear hF
  rcases Classical.em (i<a.length) with hlt|hlt
  ·have q1:=ue hlt
   have q2:=ue (l:=b) (i:=i) (by omega)
   have e1:a.take (i+1)=a.take i++ [a.getD i 0]:=by rw [List.take_add_one];simp [hlt]
   have e2:b.take (i+1)=b.take i++ [b.getD i 0]:=by rw [List.take_add_one];simp [show i<b.length by omega]
   have nx:a.getD i 0=b.getD i 0->∀F',Fr 26 [(0,.slc (a.map ql)),(1,.slc (b.map ql)),(5,.i ((i+1:Nat):Int))] F'->K .normal F' H:=fun he F' hF'=>hN _ _ ⟨i+1,hlt,by rw [e1,e2,hv,he],hF',(qz rfl).symm⟩ (by
    rw [Ma,hF'.2.2.2.1]
    simp only [Mc,Md,Mf]
    omega)
   have bad:a.getD i 0≠b.getD i 0->R (.bool false) H:=fun he=>hk false (decide_eq_false fun h=>he (by rw [h]))
   clear hN hE hk
   generalize a.getD i 0=x at q1 nx bad
   generalize b.getD i 0=y at q2 nx bad
   have hlb:(((i:Nat):Int)<(b.length:Int))=True:=eq_true (by omega)
   rcases Classical.em (x=y) with hxy|hxy
   ·have c1:((x.toNat:Int)=(y.toNat:Int))=True:=eq_true (by rw [hxy])
    simp+contextual only [hlt,hlb,Int.ofNat_lt,q1,q2,c1,qi (show i<=big by omega),↓pV,↓XP,qh]
    exact fun _ _ _=>nx hxy _ ⟨rfl,rfl,rfl,rfl,trivial⟩
   ·have c1:((x.toNat:Int)=(y.toNat:Int))=False:=eq_false (fun h=>hxy (UInt8.toNat_inj.1 (by omega)))
    simp+contextual only [hlt,hlb,Int.ofNat_lt,q1,q2,c1,↓pV,↓XP,qh]
    refine fun _ _ _=>hR _ _ ?_
    simp+contextual only [↓XP,qo]
    exact bad hxy
  ·have hik:i=a.length:=by omega
   subst hik
   clear hN
   rw [List.take_length,hl,List.take_length] at hv
   simp+contextual only [↓pV,↓XP,qh]
   refine fun _=>hE _ _ _ ?_
   simp+contextual only [↓XP,qo,XW1]
   exact hk true (decide_eq_true hv)
 ·simp+contextual only [↓pV,show ((a.length:Int)=(b.length:Int))=False from eq_false (by omega),↓pV,↓XP,qh,qa,qb]
  exact fun _ _=>hk false (decide_eq_false fun h=>hl (by rw [h]))
theorem aX {R:D->AH->Prop} (h:R (.bool true) H):ACall Tryz.prog 72 [.slc (qW l),.slc (qW l)] H R:=by
 refine b72 fun hf=>?_
 have hbig:=qj
 simp+contextual only [↓Di,qE,↓Di,↓XP,qh,XW1,qa,qb]
 refine fun _=>XW.loopK hmm (fun F H'=>∃(i:Nat),i<=l.length∧Fr 26 [(0,.slc (qW l)),(1,.slc (qW l)),(5,.i (i:Int))] F∧H=H') (fun F H=>match F.getD 5 .any with| .int _ n'=>l.length - n'.toNat|_=>0) ⟨0,by omega,⟨rfl,rfl,rfl,rfl,trivial⟩,rfl⟩ ?_
 rintro _ _ ⟨i,hi,hF,rfl⟩ K hN hE hR
 obtain ⟨z,rfl⟩:=hF.fl rfl
 try dsimp only [fl,zz,qa,qb] at*
 clear hF
 rcases Classical.em (i<l.length) with hlt|hlt
 ·have q1:=yj hlt
  have nx:∀F',Fr 26 [(0,.slc (qW l)),(1,.slc (qW l)),(5,.i ((i+1:Nat):Int))] F'->K .normal F' H:=fun F' hF'=>hN _ _ ⟨i+1,hlt,hF',(qz rfl).symm⟩ (by
   rw [Ma,hF'.2.2.2.1]
   simp only [Mc,Md,Mf]
   omega)
  clear hN hE hR
  generalize l.getD i default=x at q1 nx
  have hx:x.d= [.i x.o,.i x.s,.i x.i]:=rfl
  simp+contextual only [qE,hlt,Int.ofNat_lt,q1,hx,qi (show i<=big by omega),↓Di,↓XP,qh,qb]
  exact fun _=>nx _ ⟨rfl,rfl,rfl,rfl,trivial⟩
 ·have hik:i=l.length:=by omega
  subst hik
  clear hN
  simp+contextual only [qE,↓Di,↓XP,qh]
  refine fun _=>hE _ _ _ ?_
  simp+contextual only [↓XP,qo,XW1]
  exact h
theorem fJ {o:OpP} {H:AH} {R:D->AH->Prop} (h:R (.bool true) H):ACall Tryz.prog 35 [.agg o.d,.agg o.d] H R:=by
 refine b35 fun hf=>?_
 have hbig:=qj
 have hod:o.d= [.i o.k,.i o.on.o,.i o.on.s,.i o.on.i,.i o.to.o,.i o.to.s,.i o.to.i,.slc (qW o.ids),.i o.n,.str o.name,.str o.text,.i o.a,.i o.b]:=rfl
 simp+contextual only [↓U35,hod,qE,↓U35.1,↓XP,qh,XW1,qa,qb,qe]
 refine fun b2 _ b3 _ _ _ _ _ _=>aX ?_
 simp+contextual only [↓XP,qo,XW1]
 exact h
theorem cX {p:Pt} {H:AH} {R:D->AH->Prop} (h:R (.bool true) H):ACall Tryz.prog 14 [.agg p.d,.agg p.d] H R:=by
 refine tY fun hf=>?_
 have hbig:=qj
 have hd:p.d= [.i p.o,.i p.s,.i p.day,.slc (qt p.needs),.slc (qu p.ops),.str p.sl]:=rfl
 simp+contextual only [↓nC,hd,j4,qI,↓nC,↓XP,qh,XW1,qa,qb]
 rintro b2 h2 b3 ⟨n23,h3⟩
 intros
 simp only [<-hd]
 refine XW.loopK hmm (fun F H'=>∃(i:Nat),i<=p.needs.length∧Fr 88 [(2,.ptr b2 0),(3,.ptr b3 0),(5,.i (i:Int))] F∧((b3,AO.cells p.d)::(b2,AO.cells p.d)::H)=H') (fun F H=>match F.getD 5 .any with| .int _ n'=>p.needs.length - n'.toNat|_=>0) ⟨0,by omega,⟨rfl,rfl,rfl,rfl,trivial⟩,rfl⟩ ?_
 rintro _ _ ⟨i,hi,hF,rfl⟩ K hN hE hR
 obtain ⟨z,rfl⟩:=hF.fl rfl
 try dsimp only [fl,zz,qa,qb] at*
 clear hF hR
 rcases Classical.em (i<p.needs.length) with hlt|hlt
 ·have q1:=wB hlt
  have nx:∀F',Fr 88 [(2,.ptr b2 0),(3,.ptr b3 0),(5,.i ((i+1:Nat):Int))] F'->K .normal F' ((b3,AO.cells p.d)::(b2,AO.cells p.d)::H):=fun F' hF'=>hN _ _ ⟨i+1,hlt,hF',(qz rfl).symm⟩ (by
   rw [Ma,hF'.2.2.2.1]
   simp only [Mc,Md,Mf]
   omega)
  clear hN hE
  generalize p.needs.getD i default=x at q1 nx
  have hx:x.d= [.i x.o,.i x.s]:=rfl
  simp+contextual only [hd,j4,hlt,Int.ofNat_lt,qg n23,q1,hx,qi (show i<=big by omega),↓nC,↓XP,qh,XW1,qb]
  simp only [<-hd]
  exact fun _=>nx _ ⟨rfl,rfl,rfl,rfl,trivial⟩
 ·have hik:i=p.needs.length:=by omega
  subst hik
  clear hN
  simp+contextual only [hd,j4,qg n23,↓nC,↓XP,qh,XW1]
  simp only [<-hd]
  refine fun _=>hE _ _ _ ?_
  clear hE
  simp+contextual only [hd,↓nC,↓XP,qo,XW1]
  simp only [<-hd]
  refine XW.loopK hmm (fun F H'=>∃(i:Nat),i<=p.ops.length∧Fr 88 [(2,.ptr b2 0),(3,.ptr b3 0),(6,.i (i:Int))] F∧((b3,AO.cells p.d)::(b2,AO.cells p.d)::H)=H') (fun F H=>match F.getD 6 .any with| .int _ n'=>p.ops.length - n'.toNat|_=>0) ⟨0,by omega,⟨rfl,rfl,rfl,rfl,trivial⟩,rfl⟩ ?_
  rintro _ _ ⟨i,hi,hF,rfl⟩ K hN hE hR
  obtain ⟨z,rfl⟩:=hF.fl rfl
  try dsimp only [fl,zz,qa,qb] at*
  clear hF hR
  rcases Classical.em (i<p.ops.length) with hlt|hlt
  ·have q1:=kJ hlt
   have nx:∀F',Fr 88 [(2,.ptr b2 0),(3,.ptr b3 0),(6,.i ((i+1:Nat):Int))] F'->K .normal F' ((b3,AO.cells p.d)::(b2,AO.cells p.d)::H):=fun F' hF'=>hN _ _ ⟨i+1,hlt,hF',(qz rfl).symm⟩ (by
    rw [Ma,hF'.2.2.2.1]
    simp only [Mc,Md,Mf]
    omega)
   clear hN hE
   generalize p.ops.getD i default=o at q1 nx
   have hod:o.d= [.i o.k,.i o.on.o,.i o.on.s,.i o.on.i,.i o.to.o,.i o.to.s,.i o.to.i,.slc (qW o.ids),.i o.n,.str o.name,.str o.text,.i o.a,.i o.b]:=rfl
   simp+contextual only [hd,qI,hlt,Int.ofNat_lt,qg n23,q1,hod,↓nC,↓XP,qh,XW1,qb]
   refine fun _=>⟨_,fun _ _=>fJ (o:=o) ⟨rfl,rfl⟩,?_⟩
   simp+contextual only [qi (show i<=big by omega),↓nC,↓XP,qo,XW1]
   simp only [<-hd]
   exact nx _ ⟨rfl,rfl,rfl,rfl,trivial⟩
  ·have hik:i=p.ops.length:=by omega
   subst hik
   clear hN
   simp+contextual only [hd,qI,qg n23,↓nC,↓XP,qh,XW1]
   simp only [<-hd]
   refine fun _=>hE _ _ _ ?_
   simp+contextual only [hd,↓XP,qo,XW1]
   exact h
def Jr:List D:= [.int .u8 0,.int .u8 0,.int .u8 0,.int .u8 0,.int .u8 0,.int .u8 0,.int .u8 0,.int .u8 0,.int .u8 0,.int .u8 0,.int .u8 0,.int .u8 0,.int .u8 0,.int .u8 0,.int .u8 0,.int .u8 0]
def shortK:List UInt8:= [115,104,111,114,116]
theorem WN {R:D->AH->Prop} (h:R (.tup [.agg Jr,.i 1]) H):ACall Tryz.prog 20 [.str shortK,.i 2] H R:=by
 refine xA fun hf=>?_
 have hbig:=qj
 have hl:shortK.length=5:=rfl
 simp+contextual only [↓ny,hl,show (((5:Nat):Int)=32)=False from eq_false (by omega),↓ny,↓XP,qh,XW1,qa,qb]
 exact fun b hb _=>h
theorem dG {R:D->AH->Prop} (h:R (.tup [.agg (Jr++ [.i 0]),.i 1]) H):ACall Tryz.prog 10 [.agg [.str shortK,.i 2]] H R:=by
 refine YT fun hf=>?_
 have hbig:=qj
 have hl:shortK.length=5:=rfl
 simp+contextual only [↓mG,hl,show ((4:Int)<2)=False from by simp,↓mG,↓XP,qh,XW1,qa]
 refine fun b1 h1 b2 h2 _ _=>WN ?_
 simp+contextual only [Jr,show ((1:Int)=0)=False from by simp,↓mG,↓XP,qh,XW1,qb]
 exact fun _ _ _=>h
theorem Za {p:Pt} {o:OpP} {H:AH} {R:D->AH->Prop} (hp:p.ops= [o]) (h1:1<=o.k) (h4:o.k<=4) (h:R (.own (qW [⟨p.o,p.s,0⟩])) H):ACall Tryz.prog 37 [.agg p.d] H R:=by
 refine b37 fun hf=>?_
 have hbig:=qj
 have hd:p.d= [.i p.o,.i p.s,.i p.day,.slc (qt p.needs),.slc (qu p.ops),.str p.sl]:=rfl
 rw [hp] at hd
 have ol:(qu [o]).length=1:=rfl
 have q0:(qu [o]).getD 0 []=o.d:=rfl
 have hod:o.d= [.i o.k,.i o.on.o,.i o.on.s,.i o.on.i,.i o.to.o,.i o.to.s,.i o.to.i,.slc (qW o.ids),.i o.n,.str o.name,.str o.text,.i o.a,.i o.b]:=rfl
 simp+contextual only [↓Ak,ol,hd,↓Ak,↓XP,qh,XW1,qa]
 intro b1 hb1 _
 obtain ⟨ids,hids⟩:∃ids:List Id3,[⟨p.o,p.s,0⟩]=ids:=⟨_,rfl⟩
 refine XW.loopK hmm (fun F H'=>∃(i:Nat),i<=1∧Fr 28 [(1,.ptr b1 0),(3,.own (qW (ids.take i))),(7,.slc (qu [o])),(8,.i 1),(9,.i (i:Int))] F∧((b1,AO.cells [.i p.o,.i p.s,.i p.day,.slc (qt p.needs),.slc (qu [o]),.str p.sl])::H)=H') (fun F H=>match F.getD 9 .any with| .int _ n'=>1 - n'.toNat|_=>0) ⟨0,by omega,by subst hids;exact ⟨rfl,rfl,rfl,rfl,rfl,rfl,trivial⟩,rfl⟩ ?_
 rintro _ _ ⟨i,hi,hF,rfl⟩ K hN hE hR
 obtain ⟨z,rfl⟩:=hF.fl rfl
 try dsimp only [fl,zz,qa,qb] at*
 clear hF hR
 rcases Classical.em (i=0) with hlt|hlt
 ·subst hlt
  simp+contextual only [ol,q0,hod,show (((0:Nat):Int)<1)=True from eq_true (by omega),show ((0:Nat):Int).toNat=0 from rfl,List.take_zero,↓Ak,↓XP,qh,XW1,qb]
  refine ⟨by omega,fun b5 hb5 _=>?_⟩
  refine yW ?_
  simp+contextual only [decide_eq_true (show 1<=o.k∧o.k<=4 from ⟨h1,h4⟩),qg hb5.1,qi (show 0<=big by omega),show (qW ([]:List Id3))= [] from rfl,↓Ak,↓XP,qh,XW1,qb,qc,qe]
  refine fun _ _=>hN _ _ ⟨1,by omega,?_,(kV rfl).symm⟩ ?_
  ·subst hids
   exact ⟨rfl,rfl,rfl,rfl,rfl,rfl,trivial⟩
  ·simp only [Mc,Md]
   omega
 ·have hik:i=1:=by omega
  subst hik
  clear hN
  simp+contextual only [show (((1:Nat):Int)<1)=False from eq_false (by omega),↓Ak,↓XP,qo]
  refine hE _ _ _ ?_
  simp+contextual only [↓XP,qo,XW1]
  subst hids
  exact h
def lx:OpP:=⟨1,QJ,QJ,[],0,[110],[99,97,116],0,0⟩
def ptL:Pt:=⟨1,1,3,[],[lx],[]⟩
theorem CE:qr 0= [128]:=by
 unfold qr mag
 simp [kw]
theorem ZY {n:Nat} (h0:0<n) (h:n<256):qr (n:Int)= [129,UInt8.ofNat n]:=by
 unfold qr mag
 have e:digs (n:Int).toNat= [UInt8.ofNat n]:=by
  rw [Mg,yY (by omega),Nat.mod_eq_of_lt h,Nat.div_eq_of_lt h,kw]
 rw [if_neg (by omega),if_neg (by omega),e]
 have:decide ((n:Int)<0)=false:=decide_eq_false (by omega)
 rw [this]
 rfl
theorem Cj:qr 1= [129,1]:=ZY (n:=1) (by omega) (by omega)
theorem AX:qr 2= [129,2]:=ZY (n:=2) (by omega) (by omega)
theorem Bk:qr 3= [129,3]:=ZY (n:=3) (by omega) (by omega)
theorem tL:qr 10= [129,10]:=ZY (n:=10) (by omega) (by omega)
theorem xo:jO ptL= [129,3,129,1,129,1,129,3,128,129,1,129,10,129,1,128,128,128,128,128,128,128,128,128,128,129,2,129,1,110,129,3,99,97,116,128]:=by
 simp [jO,ptL,lx,qF,jH,yn,qB,wj,jd,uW,QJ,CE,Cj,AX,Bk,tL]
theorem ei:jy ptL=0:=by
 unfold jy
 have h1:yK ptL:=by decide
 have h2:vL ptL:=fun i hi=>absurd hi (by simp [ptL])
 have h3:zJ ptL:=fun o ho=>by
  have:o=lx:=by simpa [ptL] using ho
  subst this
  decide
 have h4:bare ptL=ptL:=rfl
 rw [if_neg (fun d=>d h1),if_neg (by simp [ptL]),if_neg (by simp [ptL]),if_neg (fun d=>d h2),if_neg (fun d=>d h3),h4,xo,if_neg (by decide)]
theorem pL:jy pt0=5:=by
 unfold jy
 rw [if_pos (by decide)]
theorem nz:Good ptL:=by
 unfold Good Jk
 rw [ei,if_neg (by simp),if_neg (by simp [ptL])]
theorem IR:Fit pt0:=⟨by simp [pt0],by simp [pt0],by simp [pt0],by simp [pt0],by simp [pt0],by simp [pt0]⟩
theorem CF:Fit ptL:=⟨by simp [ptL],by simp [ptL],by simp [ptL,lx],by simp [ptL,lx],by simp [ptL,lx],by simp [ptL]⟩
theorem lR {R:D->AH->Prop} (h:R (.bool true) H):ACall Tryz.prog 15 [] H R:=by
 refine b15 fun hf=>?_
 have hbig:=qj
 have hop:qu [lx]= [[D.i 1,.i 0,.i 0,.i 0,.i 0,.i 0,.i 0,.slc [],.i 0,.str [110],.str [99,97,116],.i 0,.i 0]]:=rfl
 have hd:ptL.d= [D.i 1,.i 1,.i 3,.slc [],.slc (qu [lx]),.str []]:=rfl
 obtain ⟨eb,heb⟩:∃eb,jO ptL=eb:=⟨_,rfl⟩
 have hel:eb.length=36:=by rw [<-heb,xo];rfl
 have het:((eb.map ql).take 10).drop 0=([129,3,129,1,129,1,129,3,128,129]:List UInt8).map ql:=by rw [<-heb,xo];rfl
 simp+contextual only [↓ik,↓ik,↓XP,qh,XW1,qa,qb,qc,qe]
 intro b1 h1
 simp only [<-hop]
 refine YR (p:=ptL) CF ?_
 have hg:Jk ptL=0:=nz
 rw [hg,if_pos rfl,heb]
 simp+contextual only [↓ik,↓XP,qo,XW1]
 refine fun _ _=>fw (b:=eb) (by omega) ?_
 rw [<-heb,UO nz,heb]
 simp+contextual only [hd,↓ik,↓XP,qh,XW1,qb,qe]
 intro _ b4 h4
 have hb1:jP Tryz.prog 40 1=some (1,false,1):=by kernel_rfl
 try simp+contextual only [↓ik,JO,hd,hb1,↓ik,↓XP,↓XU,qh,XW1,qa,qb,qc,qd,qe,qf,reduceCtorEq]
 refine dG ?_
 simp+contextual only [Jr,↓ik,↓XP,qh,XW1,qb]
 intro _ b6 h6
 have n14:b1≠b4:=h4.1
 have n46:b4≠b6:=h6.1
 have n16:b1≠b6:=h6.2.1
 simp+contextual only [qg n14,qg n16,↓XP,qo,qb]
 refine Za (p:=ptL) (o:=lx) rfl (by decide) (by decide) ?_
 have hid:qW [⟨ptL.o,ptL.s,0⟩]= [[D.i 1,.i 1,.i 0]]:=rfl
 rw [hid]
 simp+contextual only [qg n14,qg n16,qg n46,hel,show (((36:Nat):Int)=36)=True from eq_true rfl,↓ik,↓XP,qh,qb]
 refine fun _ _=>cX (p:=ptL) ?_
 simp+contextual only [hel,show (((1:Nat):Int)=1)=True from eq_true rfl,show ((0:Int)<((1:Nat):Int))=True from eq_true (by omega),show ((10:Int)<=((36:Nat):Int))=True from eq_true (by omega),Mr,Ms,het,↓ik,↓XP,qh,XW1,qb,qc,qe]
 refine fun _=>⟨qO,fM (a:= [129,3,129,1,129,1,129,3,128,129]) (b:= [129,3,129,1,129,1,129,3,128,129]) ?_⟩
 rw [decide_eq_true rfl]
 simp+contextual only [qg n14,qg n16,↓XP,qh,XW1,qb]
 refine Qa (p:=ptL) CF ?_
 rw [ei]
 simp+contextual only [↓XP,qh]
 intro _
 refine Qa (p:=pt0) IR ?_
 rw [pL]
 simp+contextual only [↓XP,qo]
 exact fun _=>h
theorem uS:∀k,(upto (kA p ok) k).length<=k:=fun k=>by
 have:=ou (f:=kA p ok) (c:=1) (fun k=>by unfold kA;split<;>simp) k
 omega
theorem YH {x:Gs} {seen:List Bool} (ho:∀q∈x.l,q.ops.length<=1000) (i:Nat):(upto (fun i=>ye (x.l.getD i default) (seen.getD i false)) i).length<=1000*i:=by
 have:=ou (f:=fun i=>ye (x.l.getD i default) (seen.getD i false)) (c:=1000) (fun k=>by
  have h1:=uS (p:=x.l.getD k default) (ok:=seen.getD k false) (x.l.getD k default).ops.length
  have h2:(x.l.getD k default).ops.length<=1000:=uz (p:=fun q:Pt=>q.ops.length<=1000) ho (by decide) k
  unfold ye
  omega) i
 omega
theorem cW {x:Gs} {seen:List Bool} {p:Pt} {H:AH} {R:D->AH->Prop} (hs:x.l.length<=seen.length) (hb:x.l.length<=100) (ho:∀q∈x.l,q.ops.length<=1000) (hp:p.ops.length<=1000) (h:R (.own (qu (splits x seen p))) H):ACall Tryz.prog 131 [.agg x.d,.slc (jG seen),.agg p.d] H R:=by
 refine Eh fun hf=>?_
 have hbig:=qj
 have hx:x.d= [.slc (je x.l),.slc (jc x.past)]:=rfl
 have hd:p.d= [.i p.o,.i p.s,.i p.day,.slc (qt p.needs),.slc (qu p.ops),.str p.sl]:=rfl
 simp+contextual only [↓KN,hx,hd,↓KN,↓XP,qh,XW1,qa,qb]
 rintro b1 h1 b2 ⟨n12,h2⟩
 simp only [<-hx,<-hd]
 refine XW.loopK hm (fun F H'=>∃(i:Nat),i<=x.l.length∧Fr 81 [(1,.slc (jG seen)),(3,.ptr b1 0),(5,.ptr b2 0),(7,.own (qu (upto (fun i=>ye (x.l.getD i default) (seen.getD i false)) i))),(8,.i i)] F∧((b2,AO.cells p.d)::(b1,AO.cells x.d)::H)=H') (fun F H=>match F.getD 8 .any with| .int _ n'=>x.l.length - n'.toNat|_=>0) ⟨0,by omega,⟨rfl,rfl,rfl,rfl,rfl,rfl,trivial⟩,rfl⟩ ?_
 rintro _ _ ⟨i,hi,hF,rfl⟩ K hN hE hR
 obtain ⟨z,rfl⟩:=hF.fl rfl
 try dsimp only [fl,zz,qa,qb] at*
 clear hF
 have hv:=YH (x:=x) (seen:=seen) ho i
 by_cases hlt:i<x.l.length
 ·have nx:∀F',Fr 81 [(1,.slc (jG seen)),(3,.ptr b1 0),(5,.ptr b2 0),(7,.own (qu (upto (fun i=>ye (x.l.getD i default) (seen.getD i false)) (i+1)))),(8,.i ((i+1:Nat):Int))] F'->K .normal F' ((b2,AO.cells p.d)::(b1,AO.cells x.d)::H):=fun F' hF'=>hN _ _ ⟨i+1,hlt,hF',(qz rfl).symm⟩ (by
   rw [Ma,hF'.2.2.2.2.2.1]
   simp only [Mc,Md,Mf]
   omega)
  clear hN hE hR
  have q1:=vR hlt
  have q2:=Qt (l:=seen) (i:=i) (by omega)
  have hqo:(x.l.getD i default).ops.length<=1000:=uz (p:=fun q:Pt=>q.ops.length<=1000) ho (by decide) i
  have hun:upto (fun i=>ye (x.l.getD i default) (seen.getD i false)) (i+1)=upto (fun i=>ye (x.l.getD i default) (seen.getD i false)) i++ye (x.l.getD i default) (seen.getD i false):=rfl
  rw [hun] at nx
  generalize upto (fun i=>ye (x.l.getD i default) (seen.getD i false)) i=ac at nx hv
  generalize x.l.getD i default=q at q1 hqo nx
  generalize seen.getD i false=ok at q2 nx
  have hq:q.d= [.i q.o,.i q.s,.i q.day,.slc (qt q.needs),.slc (qu q.ops),.str q.sl]:=rfl
  simp+contextual only [hx,hd,jC,qg,n12,↓KN,↓XP,qh,XW1]
  refine fun _=>⟨fun _=>?_,fun hge=>absurd (by omega) hge⟩
  simp only [<-hx,<-hd]
  refine XW.loopK hm (fun F H'=>∃(k:Nat),k<=q.ops.length∧Fr 81 [(1,.slc (jG seen)),(3,.ptr b1 0),(5,.ptr b2 0),(7,.own (qu (ac++upto (kA q ok) k))),(8,.i i),(9,.i k)] F∧((b2,AO.cells p.d)::(b1,AO.cells x.d)::H)=H') (fun F H=>match F.getD 9 .any with| .int _ n'=>q.ops.length - n'.toNat|_=>0) ⟨0,by omega,by rw [upto,My];exact ⟨rfl,rfl,rfl,rfl,rfl,rfl,rfl,trivial⟩,rfl⟩ ?_
  rintro _ _ ⟨k,hk,hF,rfl⟩ K2 hN hE hR
  obtain ⟨z2,rfl⟩:∃z2:Nat->D,_=(let z:=z2; [z 0,.slc (jG seen),z 2,.ptr b1 0,z 4,.ptr b2 0,z 6,.own (qu (ac++upto (kA q ok) k)),.i i,.i k,z 10,z 11,z 12,z 13,z 14,z 15,z 16,z 17,z 18,z 19,z 20,z 21,z 22,z 23,z 24,z 25,z 26,z 27,z 28,z 29,z 30,z 31,z 32,z 33,z 34,z 35,z 36,z 37,z 38,z 39,z 40,z 41,z 42,z 43,z 44,z 45,z 46,z 47,z 48,z 49,z 50,z 51,z 52,z 53,z 54,z 55,z 56,z 57,z 58,z 59,z 60,z 61,z 62,z 63,z 64,z 65,z 66,z 67,z 68,z 69,z 70,z 71,z 72,z 73,z 74,z 75,z 76,z 77,z 78,z 79,z 80]):=hF.lit
  clear hF
  have hv3:=uS (p:=q) (ok:=ok) k
  by_cases hlk:k<q.ops.length
  ·have nx3:∀F',Fr 81 [(1,.slc (jG seen)),(3,.ptr b1 0),(5,.ptr b2 0),(7,.own (qu (ac++upto (kA q ok) (k+1)))),(8,.i i),(9,.i ((k+1:Nat):Int))] F'->K2 .normal F' ((b2,AO.cells p.d)::(b1,AO.cells x.d)::H):=fun F' hF'=>hN _ _ ⟨k+1,hlk,hF',(qz rfl).symm⟩ (by
    rw [Ma,hF'.2.2.2.2.2.2.1]
    simp only [Mc,Md,Mf]
    omega)
   clear hN hE hR nx
   have q3:=kJ hlk
   have hu3:upto (kA q ok) (k+1)=upto (kA q ok) k++kA q ok k:=rfl
   rw [hu3] at nx3
   have ho3:kA q ok k=if ok=true∧(q.ops.getD k default).k=16 then [q.ops.getD k default] else []:=rfl
   rw [ho3] at nx3
   generalize q.ops.getD k default=o at q3 nx3
   have hod:o.d= [.i o.k,.i o.on.o,.i o.on.s,.i o.on.i,.i o.to.o,.i o.to.s,.i o.to.i,.slc (qW o.ids),.i o.n,.str o.name,.str o.text,.i o.a,.i o.b]:=rfl
   generalize upto (kA q ok) k=ac3 at nx3 hv3
   have hac:(ac++ac3).length<=200000:=by rw [Mh];omega
   rcases ok with _|_
   ·simp+contextual only [hx,hd,qI,jC,qg,n12,qi (show k<=big by omega),q1,q2,hq,vj,↓KN,↓XP,qh,XW1,qb,qe]
    refine fun _=>⟨by omega,fun _=>⟨fun _=>⟨by omega,?_⟩,fun hge=>absurd (by omega) hge⟩⟩
    rw [if_neg (by simp),My] at nx3
    exact nx3 _ ⟨rfl,rfl,rfl,rfl,rfl,rfl,rfl,trivial⟩
   ·simp+contextual only [hx,hd,qI,jC,qg,n12,qi (show k<=big by omega),q1,q2,hq,q3,hod,vj,↓KN,↓XP,qh,XW1,qb,qc,qe]
    refine fun _=>⟨by omega,fun _=>⟨fun _=>⟨by omega,by omega,fun _=>⟨fun hk'=>⟨by omega,kP,by omega,?_⟩,fun hk'=>?_⟩⟩,fun hge=>absurd (by omega) hge⟩⟩
    ·rw [if_pos ⟨rfl,hk'⟩,<-Mo,<-Wp,show qu [o]= [o.d] from rfl,hod,hk'] at nx3
     exact nx3 _ ⟨rfl,rfl,rfl,rfl,rfl,rfl,rfl,trivial⟩
    ·rw [if_neg (fun hc=>hk' hc.2),My] at nx3
     exact nx3 _ ⟨rfl,rfl,rfl,rfl,rfl,rfl,rfl,trivial⟩
  ·have hik:k=q.ops.length:=by omega
   subst hik
   simp+contextual only [hx,hd,qI,jC,qg,n12,q1,hq,↓KN,↓XP,qh,XW1,qb,qe]
   refine fun _=>⟨by omega,fun _=>hE _ _ _ ?_⟩
   clear hN hE hR
   simp+contextual only [qi (show i<=big by omega),↓KN,↓XP,qo,XW1,qf]
   exact nx _ ⟨rfl,rfl,rfl,rfl,rfl,rfl,trivial⟩
 ·have hik:i=x.l.length:=by omega
  subst hik
  clear hN
  simp+contextual only [hx,hd,jC,qg,n12,↓KN,↓XP,qh,XW1]
  refine fun _=>hE _ _ _ ?_
  clear hE hR
  have hv0:splits x seen p=upto (fun i=>ye (x.l.getD i default) (seen.getD i false)) x.l.length++ye p true:=rfl
  rw [hv0] at h
  generalize upto (fun i=>ye (x.l.getD i default) (seen.getD i false)) x.l.length=ac at h hv ⊢
  simp+contextual only [↓KN,↓XP,qo,XW1]
  simp only [<-hx,<-hd]
  refine XW.loopK hm (fun F H'=>∃(k:Nat),k<=p.ops.length∧Fr 81 [(5,.ptr b2 0),(7,.own (qu (ac++upto (kA p true) k))),(10,.i k)] F∧((b2,AO.cells p.d)::(b1,AO.cells x.d)::H)=H') (fun F H=>match F.getD 10 .any with| .int _ n'=>p.ops.length - n'.toNat|_=>0) ⟨0,by omega,by rw [upto,My];exact ⟨rfl,rfl,rfl,rfl,trivial⟩,rfl⟩ ?_
  rintro _ _ ⟨k,hk,hF,rfl⟩ K hN hE hR
  obtain ⟨z,rfl⟩:=hF.fl rfl
  try dsimp only [fl,zz,qa,qb] at*
  clear hF
  have hv3:=uS (p:=p) (ok:=true) k
  by_cases hlk:k<p.ops.length
  ·have nx3:∀F',Fr 81 [(5,.ptr b2 0),(7,.own (qu (ac++upto (kA p true) (k+1)))),(10,.i ((k+1:Nat):Int))] F'->K .normal F' ((b2,AO.cells p.d)::(b1,AO.cells x.d)::H):=fun F' hF'=>hN _ _ ⟨k+1,hlk,hF',(qz rfl).symm⟩ (by
    rw [Ma,hF'.2.2.2.1]
    simp only [Mc,Md,Mf]
    omega)
   clear hN hE hR
   have q3:=kJ hlk
   have hu3:upto (kA p true) (k+1)=upto (kA p true) k++kA p true k:=rfl
   rw [hu3] at nx3
   have ho3:kA p true k=if true=true∧(p.ops.getD k default).k=16 then [p.ops.getD k default] else []:=rfl
   rw [ho3] at nx3
   generalize p.ops.getD k default=o at q3 nx3
   have hod:o.d= [.i o.k,.i o.on.o,.i o.on.s,.i o.on.i,.i o.to.o,.i o.to.s,.i o.to.i,.slc (qW o.ids),.i o.n,.str o.name,.str o.text,.i o.a,.i o.b]:=rfl
   generalize upto (kA p true) k=ac3 at nx3 hv3
   have hac:(ac++ac3).length<=200000:=by rw [Mh];omega
   simp+contextual only [hx,hd,qI,qi (show k<=big by omega),q3,hod,↓KN,↓XP,qh,XW1,qb,qc,qe]
   refine fun _=>⟨fun _ _=>⟨fun hk'=>⟨kP,by omega,?_⟩,fun hk'=>?_⟩,fun hge=>absurd (by omega) hge⟩
   ·rw [if_pos ⟨rfl,hk'⟩,<-Mo,<-Wp,show qu [o]= [o.d] from rfl,hod,hk'] at nx3
    exact nx3 _ ⟨rfl,rfl,rfl,rfl,trivial⟩
   ·rw [if_neg (fun hc=>hk' hc.2),My] at nx3
    exact nx3 _ ⟨rfl,rfl,rfl,rfl,trivial⟩
  ·have hik:k=p.ops.length:=by omega
   subst hik
   simp+contextual only [hx,hd,qI,↓KN,↓XP,qh,XW1]
   refine fun _=>hE _ _ _ ?_
   clear hN hE hR
   simp+contextual only [↓XP,qo,XW1]
   exact h
theorem WG (x:Int):(if x<1 then x else 1)=min 1 x:=by
 by_cases h:x<1
 ·rw [if_pos h];omega
 ·rw [if_neg h];omega
theorem Jx {R:D->AH->Prop} (h:R (.agg (small sense other n m).d) H):ACall Tryz.prog 132 [.agg sense.d,.agg other.d,.i n,.slc (ints m)] H R:=by
 refine FB fun hf=>?_
 have hbig:=qj
 have ho:sense.d= [.i sense.o,.i sense.s,.i sense.i]:=rfl
 have ho2:other.d= [.i other.o,.i other.s,.i other.i]:=rfl
 simp+contextual only [B0,ho,ho2,↓FR,↓XP,qh,XW1,qa,qb,qc,qe]
 have r9:=qG (l:=m) (i:=3) (most:=9) (by omega)
 have r3:=qG (l:=m) (i:=3) (most:=3) (by omega)
 have r2:=qG (l:=m) (i:=3) (most:=2) (by omega)
 have e3:([[.str [102,114]],[.str [102,114]],[.str [100,101]]]:List (List D))=strs lang3:=rfl
 have e2:([[.str [114,97,114,101]],[.str [108,97,119]]]:List (List D))=strs lab2:=rfl
 have s3:=kg (show (qC m 3 3).toNat<lang3.length by show _<3;omega)
 have s2:=kg (show (qC m 3 2).toNat<lab2.length by show _<2;omega)
 have l3:lang3.length=3:=rfl
 have l2:lab2.length=2:=rfl
 rintro b1 h1 b2 ⟨n12,h2⟩ b3 ⟨n23,n13,h3⟩
 refine ⟨?_,fun c0=>⟨?_,fun c1=>⟨?_,fun c2=>⟨?_,fun c3=>⟨?_,fun c4=>⟨?_,fun c5=>⟨?_,fun c6=>⟨?_,fun c7=>⟨?_,fun c8=>⟨?_,?_⟩⟩⟩⟩⟩⟩⟩⟩⟩⟩
 ·rintro rfl
  refine ⟨_,fun _ _=>ko (n:=3) ⟨rfl,rfl⟩,?_⟩
  simp+contextual only [↓XP,qo]
  refine fun _=>⟨_,fun _ _=>uZ ⟨rfl,rfl⟩,?_⟩
  simp+contextual only [↓XP,qh,XW1,qb,qe]
  intros
  exact h
 ·rintro rfl
  refine ⟨_,fun _ _=>ko (n:=3) ⟨rfl,rfl⟩,?_⟩
  simp+contextual only [↓XP,qo]
  refine fun _=>⟨_,fun _ _=>uZ ⟨rfl,rfl⟩,?_⟩
  simp+contextual only [↓XP,qh,XW1,qb,qe]
  intros
  exact h
 ·rintro rfl
  refine ⟨_,fun _ _=>jN (i:=3) (by omega) ⟨rfl,rfl⟩,?_⟩
  simp+contextual only [↓XP,qh,XW1,qb,qe]
  intros
  exact h
 ·rintro rfl
  refine ⟨_,fun _ _=>jN (i:=3) (by omega) ⟨rfl,rfl⟩,?_⟩
  simp+contextual only [qm (show -9223372036854775808<=1+qC m 3 9 by omega) (by omega),↓XP,qh,XW1,qb,qe]
  intros
  exact h
 ·rintro rfl
  refine ⟨_,fun _ _=>jN (i:=3) (by omega) ⟨rfl,rfl⟩,?_⟩
  simp+contextual only [e3,s3,l3,j8,↓XP,qh]
  refine fun _=>⟨by omega,by omega,fun _=>?_⟩
  refine ⟨_,fun _ _=>ko (n:=4) ⟨rfl,rfl⟩,?_⟩
  simp+contextual only [↓XP,qo]
  refine fun _=>⟨_,fun _ _=>uZ ⟨rfl,rfl⟩,?_⟩
  simp+contextual only [↓XP,qh,XW1,qb,qe]
  intros
  exact h
 ·rintro rfl
  refine ⟨_,fun _ _=>jN (i:=3) (by omega) ⟨rfl,rfl⟩,?_⟩
  simp+contextual only [e2,s2,l2,j8,↓XP,qh]
  refine fun _=>⟨by omega,by omega,fun _=>?_⟩
  refine ⟨_,fun _ _=>jN (i:=4) (by omega) ⟨rfl,rfl⟩,?_⟩
  simp+contextual only [WG,↓XP,qh,XW1,qb,qe]
  intros
  exact h
 ·rintro rfl
  refine ⟨_,fun _ _=>jN (i:=3) (by omega) ⟨rfl,rfl⟩,?_⟩
  simp+contextual only [e2,s2,l2,j8,↓XP,qh]
  refine fun _=>⟨by omega,by omega,fun _=>?_⟩
  refine ⟨_,fun _ _=>jN (i:=4) (by omega) ⟨rfl,rfl⟩,?_⟩
  simp+contextual only [WG,↓XP,qh,XW1,qb,qe]
  intros
  exact h
 ·rintro rfl
  refine ⟨_,fun _ _=>jN (i:=3) (by omega) ⟨rfl,rfl⟩,?_⟩
  simp+contextual only [WG,↓XP,qh,XW1,qb,qe]
  intros
  exact h
 ·rintro rfl
  refine ⟨_,fun _ _=>jN (i:=3) (by omega) ⟨rfl,rfl⟩,?_⟩
  simp+contextual only [WG,↓XP,qh,XW1,qb,qe]
  intros
  exact h
 ·rintro rfl
  refine ⟨_,fun _ _=>jN (i:=3) (by omega) ⟨rfl,rfl⟩,?_⟩
  simp+contextual only [↓XP,qh,XW1,qb,qe]
  intros
  exact h
 ·intro c9
  have hs:small sense other n m={yu with k:=8,on:=sense,n:=qC m 3 5}:=by
   unfold small
   simp only [c0,c1,c2,c3,c4,c5,c6,c7,c8,c9,or_self,if_false]
  rw [hs] at h
  refine ⟨_,fun _ _=>jN (i:=3) (by omega) ⟨rfl,rfl⟩,?_⟩
  simp+contextual only [↓XP,qh,XW1,qb,qe]
  intros
  exact h
theorem J5:(meaning p on m).ops.length<=p.ops.length+3:=by
 unfold meaning
 simp only
 split<;>simp only [vF]<;>omega
theorem bL {R:D->AH->Prop} (hl:p.ops.length<=800) (h:R (.agg (divided p entry sense m).d) H):ACall Tryz.prog 130 [.agg p.d,.agg entry.d,.agg sense.d,.slc (ints m)] H R:=by
 refine EI fun hf=>?_
 have hbig:=qj
 have hd:p.d= [.i p.o,.i p.s,.i p.day,.slc (qt p.needs),.slc (qu p.ops),.str p.sl]:=rfl
 have he:entry.d= [.i entry.o,.i entry.s,.i entry.i]:=rfl
 have hs:sense.d= [.i sense.o,.i sense.s,.i sense.i]:=rfl
 simp+contextual only [↓l7,hd,he,hs,qI,qg,↓l7,↓XP,qh,XW1,qa,qb,qe]
 rintro b1 h1 b2 ⟨n12,h2⟩ b3 ⟨n23,n13,h3⟩ b4 ⟨n34,n24,n14,h4⟩ _ _ _ b5 ⟨n45,n35,n25,n15,h5⟩
 refine vg (p:=p) (on:=entry) (m:=m) (by omega) ?_
 obtain ⟨p1,hp1⟩:∃q,q=meaning p entry m:=⟨_,rfl⟩
 have l1:p1.ops.length<=p.ops.length+3:=by rw [hp1];exact J5
 have hdv:divided p entry sense m=j9 (meaning p1 entry (m.drop 1)) {yu with k:=16,on:=sense,ids:= [jL p,jL p1],n:=qC m 4 3 - 1}:=by rw [hp1];rfl
 rw [<-hp1]
 clear hp1
 have hd1:p1.d= [.i p1.o,.i p1.s,.i p1.day,.slc (qt p1.needs),.slc (qu p1.ops),.str p1.sl]:=rfl
 simp+contextual only [hd1,qI,qg,qk,n12,n13,n23,n14,n24,n15,n25,↓l7,↓XP,qh,XW1,qb,qe]
 rintro _ _ _ b6 ⟨n56,n46,n36,n26,n16,h6⟩
 refine ⟨_,fun _ _=>ko (n:=1) ⟨rfl,rfl⟩,?_⟩
 simp+contextual only [↓XP,qo]
 refine fun _=>⟨_,fun _ _=>vg (p:=p1) (on:=entry) (m:=m.drop 1) (by omega) ⟨rfl,rfl⟩,?_⟩
 have l2:=J5 (p:=p1) (on:=entry) (m:=m.drop 1)
 rw [hdv] at h
 generalize meaning p1 entry (m.drop 1)=p2 at h l2 ⊢
 have hd2:p2.d= [.i p2.o,.i p2.s,.i p2.day,.slc (qt p2.needs),.slc (qu p2.ops),.str p2.sl]:=rfl
 simp+contextual only [hd2,qg,qk,n12,n13,n14,n34,n15,n35,n16,n36,n56,↓l7,↓XP,qh,XW1,qb,qc,qe]
 have r3:=qG (l:=m) (i:=4) (most:=3) (by omega)
 refine ⟨_,fun _ _=>jN (i:=4) (by omega) ⟨rfl,rfl⟩,?_⟩
 have w3:IntKind.i64.wrap (qC m 4 3 - 1)=qC m 4 3 - 1:=qm (by omega) (by omega)
 simp+contextual only [w3,↓XP,qh,qb,qe]
 refine fun _=>⟨_,fun _ _=>kC (p:=p2) (o:={yu with k:=16,on:=sense,ids:= [jL p,jL p1],n:=qC m 4 3 - 1}) (by omega) ⟨rfl,rfl⟩,?_⟩
 generalize j9 p2 {yu with k:=16,on:=sense,ids:= [jL p,jL p1],n:=qC m 4 3 - 1}=p3 at h ⊢
 have hd3:p3.d= [.i p3.o,.i p3.s,.i p3.day,.slc (qt p3.needs),.slc (qu p3.ops),.str p3.sl]:=rfl
 simp+contextual only [hd3,qg,qk,n45,n46,↓XP,qh,XW1,qb]
 intros
 exact h
theorem JC {x:Gs} {seen:List Bool} {p:Pt} {kind:Int} (ho:∀q∈x.l,q.ops.length<=1000) (hb:x.l.length<=100) (hp:p.ops.length<=1000):(visible x seen p kind).length<=101000:=by
 have h1:=YK (x:=x) (seen:=seen) (kind:=kind) ho x.l.length
 have h2:=uU (p:=p) (kind:=kind) (ok:=true) p.ops.length
 unfold visible
 rw [Mh]
 unfold kr at h1 ⊢
 omega
theorem Ub {x:Gs} {seen:List Bool} {p:Pt} {sense:Id3} {m:List Int} {H:AH} {R:D->AH->Prop} (hs:x.l.length<=seen.length) (hb:x.l.length<=100) (ho:∀q∈x.l,q.ops.length<=1000) (hp:p.ops.length<=800) (h:R (.agg (quoted x seen p sense m).d) H):ACall Tryz.prog 129 [.agg x.d,.slc (jG seen),.agg p.d,.agg sense.d,.slc (ints m)] H R:=by
 refine Ix fun hf=>?_
 have hbig:=qj
 have hx:x.d= [.slc (je x.l),.slc (jc x.past)]:=rfl
 have hd:p.d= [.i p.o,.i p.s,.i p.day,.slc (qt p.needs),.slc (qu p.ops),.str p.sl]:=rfl
 have he:sense.d= [.i sense.o,.i sense.s,.i sense.i]:=rfl
 simp+contextual only [↓Vf,hx,hd,he,qg,↓Vf,↓XP,qh,XW1,qa,qb]
 rintro b1 h1 b2 ⟨n12,h2⟩ b3 ⟨n23,n13,h3⟩ b4 ⟨n34,n24,n14,h4⟩
 refine zw (x:=x) (p:=p) hs hb ho (by omega) ?_
 have hvl:(visible x seen p 3).length<=101000:=JC ho hb (by omega)
 unfold quoted at h
 simp only at h
 generalize visible x seen p 3=src at h hvl ⊢
 simp+contextual only [qI,qE,qg,n23,n24,↓Vf,↓XP,qh,XW1,qb,qe]
 rintro _ _ _ _ b5 ⟨n45,n35,n25,n15,h5⟩
 have r2:=qG (l:=m) (i:=2) (most:=60) (by omega)
 have r3:=qG (l:=m) (i:=3) (most:=3) (by omega)
 have r4:=qG (l:=m) (i:=4) (most:=8) (by omega)
 have r5:=qG (l:=m) (i:=5) (most:=90) (by omega)
 have w1:IntKind.i64.wrap (400*qC m 2 60)=400*qC m 2 60:=qm (by omega) (by omega)
 have w2:IntKind.i64.wrap (600000+400*qC m 2 60)=600000+400*qC m 2 60:=qm (by omega) (by omega)
 have w3:IntKind.i64.wrap (300*qC m 4 8)=300*qC m 4 8:=qm (by omega) (by omega)
 have w4:IntKind.i64.wrap (600000+400*qC m 2 60+300*qC m 4 8)=600000+400*qC m 2 60+300*qC m 4 8:=qm (by omega) (by omega)
 have w5:IntKind.i64.wrap (1+qC m 5 90)=1+qC m 5 90:=qm (by omega) (by omega)
 have e3:([[.str [112,114,101,115,115]],[.str [104,101,105,114,115]],[.str [99,114,111,119,110]]]:List (List D))=strs names3:=rfl
 have s3:=kg (show (qC m 3 3).toNat<names3.length by show _<3;omega)
 have l3:names3.length=3:=rfl
 refine ⟨fun h0=>?_,fun h0=>?_⟩
 ·rw [if_pos (.inl (by omega))] at h
  refine jN (i:=2) (by omega) ?_
  simp+contextual only [qg,n23,n24,n25,w1,w2,↓Vf,↓XP,qh,XW1,qb,qc,qe]
  refine fun _=>⟨_,fun _ _=>jN (i:=3) (by omega) ⟨rfl,rfl⟩,?_⟩
  simp+contextual only [e3,s3,l3,j8,↓XP,qh]
  refine fun _=>⟨by omega,by omega,fun _=>?_⟩
  refine ⟨_,fun _ _=>jN (i:=4) (by omega) ⟨rfl,rfl⟩,?_⟩
  simp+contextual only [w3,w4,↓XP,qh,qb,qe]
  refine fun _=>⟨_,fun _ _=>kC (p:=p) (o:={yu with k:=3,name:=names3.getD (jM m 3 3) [],text:= [97,110,110,97,108,115],a:=600000+400*qC m 2 60,b:=600000+400*qC m 2 60+300*qC m 4 8}) (by omega) ⟨rfl,rfl⟩,?_⟩
  generalize hp1:j9 p {yu with k:=3,name:=names3.getD (jM m 3 3) [],text:= [97,110,110,97,108,115],a:=600000+400*qC m 2 60,b:=600000+400*qC m 2 60+300*qC m 4 8}=p1 at h ⊢
  have lp1:p1.ops.length<=801:=by rw [<-hp1,vF];omega
  have hd1:p1.d= [.i p1.o,.i p1.s,.i p1.day,.slc (qt p1.needs),.slc (qu p1.ops),.str p1.sl]:=rfl
  simp+contextual only [hd1,qg,qk,n23,n24,n34,n25,n35,↓Vf,↓XP,qh,XW1,qb]
  refine ⟨_,fun _ _=>jN (i:=5) (by omega) ⟨rfl,rfl⟩,?_⟩
  simp+contextual only [w5,↓XP,qo]
  refine fun _=>⟨_,fun _ _=>ko (n:=6) ⟨rfl,rfl⟩,?_⟩
  simp+contextual only [↓XP,qo]
  refine fun _=>⟨_,fun _ _=>uZ ⟨rfl,rfl⟩,?_⟩
  simp+contextual only [↓XP,qh,qb,qe]
  refine fun _=>⟨_,fun _ _=>kC (p:=p1) (o:={yu with k:=4,on:=sense,to:=jL p,n:=1+qC m 5 90,text:=gloss (m.drop 6)}) (by omega) ⟨rfl,rfl⟩,?_⟩
  generalize j9 p1 {yu with k:=4,on:=sense,to:=jL p,n:=1+qC m 5 90,text:=gloss (m.drop 6)}=p3 at h ⊢
  have hd3:p3.d= [.i p3.o,.i p3.s,.i p3.day,.slc (qt p3.needs),.slc (qu p3.ops),.str p3.sl]:=rfl
  simp+contextual only [hd3,qg,qk,n45,↓XP,qh,XW1,qb]
  intros
  exact h
 ·refine jN (i:=1) (by omega) ?_
  simp+contextual only [qE,↓Vf,↓XP,qh]
  refine fun _=>⟨fun h1=>?_,fun h1=>?_⟩
  ·rw [if_pos (.inr h1)] at h
   refine jN (i:=2) (by omega) ?_
   simp+contextual only [qg,n23,n24,n25,w1,w2,↓Vf,↓XP,qh,XW1,qb,qc,qe]
   refine fun _=>⟨_,fun _ _=>jN (i:=3) (by omega) ⟨rfl,rfl⟩,?_⟩
   simp+contextual only [e3,s3,l3,j8,↓XP,qh]
   refine fun _=>⟨by omega,by omega,fun _=>?_⟩
   refine ⟨_,fun _ _=>jN (i:=4) (by omega) ⟨rfl,rfl⟩,?_⟩
   simp+contextual only [w3,w4,↓XP,qh,qb,qe]
   refine fun _=>⟨_,fun _ _=>kC (p:=p) (o:={yu with k:=3,name:=names3.getD (jM m 3 3) [],text:= [97,110,110,97,108,115],a:=600000+400*qC m 2 60,b:=600000+400*qC m 2 60+300*qC m 4 8}) (by omega) ⟨rfl,rfl⟩,?_⟩
   generalize hp1:j9 p {yu with k:=3,name:=names3.getD (jM m 3 3) [],text:= [97,110,110,97,108,115],a:=600000+400*qC m 2 60,b:=600000+400*qC m 2 60+300*qC m 4 8}=p1 at h ⊢
   have lp1:p1.ops.length<=801:=by rw [<-hp1,vF];omega
   have hd1:p1.d= [.i p1.o,.i p1.s,.i p1.day,.slc (qt p1.needs),.slc (qu p1.ops),.str p1.sl]:=rfl
   simp+contextual only [hd1,qg,qk,n23,n24,n34,n25,n35,↓Vf,↓XP,qh,XW1,qb]
   refine ⟨_,fun _ _=>jN (i:=5) (by omega) ⟨rfl,rfl⟩,?_⟩
   simp+contextual only [w5,↓XP,qo]
   refine fun _=>⟨_,fun _ _=>ko (n:=6) ⟨rfl,rfl⟩,?_⟩
   simp+contextual only [↓XP,qo]
   refine fun _=>⟨_,fun _ _=>uZ ⟨rfl,rfl⟩,?_⟩
   simp+contextual only [↓XP,qh,qb,qe]
   refine fun _=>⟨_,fun _ _=>kC (p:=p1) (o:={yu with k:=4,on:=sense,to:=jL p,n:=1+qC m 5 90,text:=gloss (m.drop 6)}) (by omega) ⟨rfl,rfl⟩,?_⟩
   generalize j9 p1 {yu with k:=4,on:=sense,to:=jL p,n:=1+qC m 5 90,text:=gloss (m.drop 6)}=p3 at h ⊢
   have hd3:p3.d= [.i p3.o,.i p3.s,.i p3.day,.slc (qt p3.needs),.slc (qu p3.ops),.str p3.sl]:=rfl
   simp+contextual only [hd3,qg,qk,n45,↓XP,qh,XW1,qb]
   intros
   exact h
  ·rw [if_neg (by rintro (hc|hc);exact h0 (by omega);exact h1 hc)] at h
   have r6:=qG (l:=m) (i:=2) (most:=(src.length:Int)) (by omega)
   have s6:=yj (show (qC m 2 src.length).toNat<src.length by omega)
   refine fun _=>jN (i:=2) (most:=(src.length:Int)) (by omega) ?_
   unfold jM at h
   generalize src.getD (qC m 2 src.length).toNat default=to at s6 h
   have hto:to.d= [.i to.o,.i to.s,.i to.i]:=rfl
   simp+contextual only [qE,qg,n23,n24,n34,n25,n35,s6,hto,↓Vf,↓XP,qh,XW1,qb]
   refine fun _=>⟨by omega,by omega,?_⟩
   refine ⟨_,fun _ _=>jN (i:=5) (by omega) ⟨rfl,rfl⟩,?_⟩
   simp+contextual only [w5,↓XP,qo]
   refine fun _=>⟨_,fun _ _=>ko (n:=6) ⟨rfl,rfl⟩,?_⟩
   simp+contextual only [↓XP,qo]
   refine fun _=>⟨_,fun _ _=>uZ ⟨rfl,rfl⟩,?_⟩
   simp+contextual only [↓XP,qh,qb,qe]
   refine fun _=>⟨_,fun _ _=>kC (p:=p) (o:={yu with k:=4,on:=sense,to:=to,n:=1+qC m 5 90,text:=gloss (m.drop 6)}) (by omega) ⟨rfl,rfl⟩,?_⟩
   generalize j9 p {yu with k:=4,on:=sense,to:=to,n:=1+qC m 5 90,text:=gloss (m.drop 6)}=p3 at h ⊢
   have hd3:p3.d= [.i p3.o,.i p3.s,.i p3.day,.slc (qt p3.needs),.slc (qu p3.ops),.str p3.sl]:=rfl
   simp+contextual only [hd3,qg,qk,n45,↓XP,qh,XW1,qb]
   intros
   exact h
theorem r7 {x1 x2 x3 x4 x5 x6 x7:Nat×AO} (h:H.length=n):back n (x1::x2::x3::x4::x5::x6::x7::H)=H:=by
 rw [wu (by simp;omega),dr h]
theorem Bw {a b:Id3}:(decide (a.o=b.o)&&(decide (a.s=b.s)&&decide (a.i=b.i)))=decide (a=b):=by
 cases a;cases b
 simp only [Id3.mk.injEq,Bool.decide_and]
theorem lW {x:Gs} {seen:List Bool} {p:Pt} (ho:∀q∈x.l,q.ops.length<=1000) (hb:x.l.length<=100) (hp:p.ops.length<=1000):(splits x seen p).length<=101000:=by
 have h1:=YH (x:=x) (seen:=seen) ho x.l.length
 have h2:=uS (p:=p) (ok:=true) p.ops.length
 unfold splits
 rw [Mh]
 unfold ye at h1 ⊢
 omega
theorem xe {x:Gs} {seen:List Bool} {p:Pt} {m:List Int} {H:AH} {R:D->AH->Prop} (hs:x.l.length<=seen.length) (hb:x.l.length<=100) (ho:∀q∈x.l,q.ops.length<=1000) (hp:p.ops.length<=700) (hen:(visible x seen p 2).length≠0->(visible x seen p 1).length≠0) (hsp:∀o∈splits x seen p,o.ids.length=2) (h:R (.agg (step x seen p m).d) H):ACall Tryz.prog 98 [.agg x.d,.slc (jG seen),.agg p.d,.slc (ints m)] H R:=by
 refine b98 fun hf=>?_
 have hbig:=qj
 have hx:x.d= [.slc (je x.l),.slc (jc x.past)]:=rfl
 have hd:p.d= [.i p.o,.i p.s,.i p.day,.slc (qt p.needs),.slc (qu p.ops),.str p.sl]:=rfl
 simp+contextual only [↓Jy,hx,hd,qg,↓Jy,↓XP,qh,XW1,qa,qb]
 rintro b1 h1 b2 ⟨n12,h2⟩ b3 ⟨n23,n13,h3⟩
 refine zw (x:=x) (p:=p) hs hb ho (by omega) ?_
 have hvl1:(visible x seen p 1).length<=101000:=JC ho hb (by omega)
 have hvl2:(visible x seen p 2).length<=101000:=JC ho hb (by omega)
 have hvl3:(visible x seen p 3).length<=101000:=JC ho hb (by omega)
 have r0:=qG (l:=m) (i:=0) (most:=24) (by omega)
 have r15:=qG (l:=m) (i:=1) (most:=5) (by omega)
 have r28:=qG (l:=m) (i:=2) (most:=8) (by omega)
 have r38:=qG (l:=m) (i:=3) (most:=8) (by omega)
 have r32:=qG (l:=m) (i:=3) (most:=2) (by omega)
 have r360:=qG (l:=m) (i:=3) (most:=60) (by omega)
 have e5:([[.str [110]],[.str [110]],[.str [110]],[.str [118]],[.str [120]]]:List (List D))=strs cls5:=rfl
 have e2:([[.str [110]],[.str [118]]]:List (List D))=strs cls2:=rfl
 have l5:cls5.length=5:=rfl
 have l2:cls2.length=2:=rfl
 have l8:heads8.length=8:=rfl
 have s15:=kg (show (qC m 1 5).toNat<cls5.length by rw [l5];omega)
 have s28:=kg (show (qC m 2 8).toNat<heads8.length by rw [l8];omega)
 have s38:=kg (show (qC m 3 8).toNat<heads8.length by rw [l8];omega)
 have s32:=kg (show (qC m 3 2).toNat<cls2.length by rw [l2];omega)
 unfold step at h
 simp only at h
 generalize visible x seen p 1=en at h hvl1 hen ⊢
 simp+contextual only [qE,qg,n12,n13,n23,↓Jy,↓XP,qh,XW1,qb]
 refine fun _=>zw (x:=x) (p:=p) hs hb ho (by omega) ?_
 generalize visible x seen p 2=se at h hvl2 hen ⊢
 simp+contextual only [qE,↓Jy,↓XP,qo]
 refine fun _=>jN (i:=0) (by omega) ?_
 generalize qC m 0 24=c at h r0 ⊢
 simp+contextual only [qI,qE,qg,n23,↓Jy,↓XP,qh,XW1,qb,qc,qe]
 refine fun _ _=>⟨fun h0=>?_,fun h0=>⟨fun h5=>?_,fun h5=>?_⟩⟩
 ·rw [if_pos (.inl (by omega))] at h
  rintro _ _ _ b4 ⟨n34,n24,n14,h4⟩
  refine ⟨_,fun _ _=>jN (i:=1) (by omega) ⟨rfl,rfl⟩,?_⟩
  simp+contextual only [e5,s15,l5,j8,↓XP,qh]
  refine fun _=>⟨by omega,by omega,fun _=>?_⟩
  refine ⟨_,fun _ _=>JE ⟨rfl,rfl⟩,?_⟩
  simp+contextual only [l8,j8,↓XP,qo]
  refine fun _=>⟨_,fun _ _=>jN (i:=2) (by omega) ⟨rfl,rfl⟩,?_⟩
  simp+contextual only [s28,l8,j8,↓XP,qh,qb,qe]
  refine fun _=>⟨by omega,by omega,fun _=>?_⟩
  refine ⟨_,fun _ _=>kC (p:=p) (o:={yu with k:=1,name:=cls5.getD (jM m 1 5) [],text:=heads8.getD (jM m 2 8) []}) (by omega) ⟨rfl,rfl⟩,?_⟩
  generalize hp1:j9 p {yu with k:=1,name:=cls5.getD (jM m 1 5) [],text:=heads8.getD (jM m 2 8) []}=p1 at h ⊢
  have lp1:p1.ops.length<=801:=by rw [<-hp1,vF];omega
  have hd1:p1.d= [.i p1.o,.i p1.s,.i p1.day,.slc (qt p1.needs),.slc (qu p1.ops),.str p1.sl]:=rfl
  simp+contextual only [hd1,qg,qk,n23,n24,↓Jy,↓XP,qh,XW1,qb]
  refine ⟨_,fun _ _=>ko (n:=3) ⟨rfl,rfl⟩,?_⟩
  simp+contextual only [↓XP,qo]
  refine fun _=>⟨_,fun _ _=>vg (p:=p1) (on:=jL p) (m:=m.drop 3) (by omega) ⟨rfl,rfl⟩,?_⟩
  generalize meaning p1 (jL p) (m.drop 3)=p3 at h ⊢
  have hd3:p3.d= [.i p3.o,.i p3.s,.i p3.day,.slc (qt p3.needs),.slc (qu p3.ops),.str p3.sl]:=rfl
  simp+contextual only [hd3,qg,qk,n34,↓XP,qh,XW1,qb]
  intros
  exact h
 ·rw [if_pos (.inr (by omega))] at h
  rintro _ _ _ b4 ⟨n34,n24,n14,h4⟩
  refine ⟨_,fun _ _=>jN (i:=1) (by omega) ⟨rfl,rfl⟩,?_⟩
  simp+contextual only [e5,s15,l5,j8,↓XP,qh]
  refine fun _=>⟨by omega,by omega,fun _=>?_⟩
  refine ⟨_,fun _ _=>JE ⟨rfl,rfl⟩,?_⟩
  simp+contextual only [l8,j8,↓XP,qo]
  refine fun _=>⟨_,fun _ _=>jN (i:=2) (by omega) ⟨rfl,rfl⟩,?_⟩
  simp+contextual only [s28,l8,j8,↓XP,qh,qb,qe]
  refine fun _=>⟨by omega,by omega,fun _=>?_⟩
  refine ⟨_,fun _ _=>kC (p:=p) (o:={yu with k:=1,name:=cls5.getD (jM m 1 5) [],text:=heads8.getD (jM m 2 8) []}) (by omega) ⟨rfl,rfl⟩,?_⟩
  generalize hp1:j9 p {yu with k:=1,name:=cls5.getD (jM m 1 5) [],text:=heads8.getD (jM m 2 8) []}=p1 at h ⊢
  have lp1:p1.ops.length<=801:=by rw [<-hp1,vF];omega
  have hd1:p1.d= [.i p1.o,.i p1.s,.i p1.day,.slc (qt p1.needs),.slc (qu p1.ops),.str p1.sl]:=rfl
  simp+contextual only [hd1,qg,qk,n23,n24,↓Jy,↓XP,qh,XW1,qb]
  refine ⟨_,fun _ _=>ko (n:=3) ⟨rfl,rfl⟩,?_⟩
  simp+contextual only [↓XP,qo]
  refine fun _=>⟨_,fun _ _=>vg (p:=p1) (on:=jL p) (m:=m.drop 3) (by omega) ⟨rfl,rfl⟩,?_⟩
  generalize meaning p1 (jL p) (m.drop 3)=p3 at h ⊢
  have hd3:p3.d= [.i p3.o,.i p3.s,.i p3.day,.slc (qt p3.needs),.slc (qu p3.ops),.str p3.sl]:=rfl
  simp+contextual only [hd3,qg,qk,n34,↓XP,qh,XW1,qb]
  intros
  exact h
 ·rw [if_neg (by rintro (hc|hc);exact h0 (by omega);exact h5 (by omega))] at h
  have hen':=hen (by omega)
  clear hen
  have ra:=qG (l:=m) (i:=1) (most:=(en.length:Int)) (by omega)
  have rb:=qG (l:=m) (i:=1) (most:=(se.length:Int)) (by omega)
  have rc:=qG (l:=m) (i:=2) (most:=(se.length:Int)) (by omega)
  have sa:(qW en).getD (qC m 1 en.length).toNat []=(en.getD (jM m 1 en.length) default).d:=yj (show (qC m 1 en.length).toNat<en.length by omega)
  have sb:(qW se).getD (qC m 1 se.length).toNat []=(se.getD (jM m 1 se.length) default).d:=yj (show (qC m 1 se.length).toNat<se.length by omega)
  have sc:(qW se).getD (qC m 2 se.length).toNat []=(se.getD (jM m 2 se.length) default).d:=yj (show (qC m 2 se.length).toNat<se.length by omega)
  generalize en.getD (jM m 1 en.length) default=ent at h sa
  generalize se.getD (jM m 1 se.length) default=sen at h sb
  generalize se.getD (jM m 2 se.length) default=oth at h sc
  have he1:ent.d= [.i ent.o,.i ent.s,.i ent.i]:=rfl
  have he2:sen.d= [.i sen.o,.i sen.s,.i sen.i]:=rfl
  have he3:oth.d= [.i oth.o,.i oth.s,.i oth.i]:=rfl
  refine fun _=>jN (i:=1) (most:=(en.length:Int)) (by omega) ?_
  simp+contextual only [qE,sa,he1,↓Jy,↓XP,qh,XW1,qb]
  refine fun _=>⟨by omega,by omega,?_⟩
  rintro b4 ⟨n34,n24,n14,h4⟩
  refine fun _=>jN (i:=1) (most:=(se.length:Int)) (by omega) ?_
  simp+contextual only [qE,sb,he2,↓Jy,↓XP,qh,XW1,qb]
  refine fun _=>⟨by omega,by omega,?_⟩
  rintro b5 ⟨n45,n35,n25,n15,h5⟩
  have hc:c=6∨c=7∨c=8∨c=9∨c=10∨c=11∨c=12∨c=13∨c=14∨14<c:=by omega
  refine fun _=>jN (i:=2) (most:=(se.length:Int)) (by omega) ?_
  rcases hc with rfl|rfl|rfl|rfl|rfl|rfl|rfl|rfl|rfl|hc
  ·clear h0 h5 r0
   have q7:((6:Int)=7)=False:=by decide
   have q8:((6:Int)=8)=False:=by decide
   have q9:((6:Int)=9)=False:=by decide
   have q10:((6:Int)=10)=False:=by decide
   have q11:((6:Int)=11)=False:=by decide
   have q12:((6:Int)=12)=False:=by decide
   have q13:((6:Int)=13)=False:=by decide
   have q14:((6:Int)=14)=False:=by decide
   rw [if_pos (by omega)] at h
   simp+contextual only [qE,qg,n23,sc,he3,n24,n25,n45,↓Jy,↓XP,qh,XW1,qb]
   refine fun _=>⟨by omega,by omega,?_⟩
   rintro b6 ⟨n56,n46,n36,n26,n16,h6⟩
   refine ⟨_,fun _ _=>ko (n:=2) ⟨rfl,rfl⟩,?_⟩
   simp+contextual only [↓XP,qo]
   refine fun _=>⟨_,fun _ _=>vg (p:=p) (on:=ent) (m:=m.drop 2) (by omega) ⟨rfl,rfl⟩,?_⟩
   generalize meaning p ent (m.drop 2)=p3 at h ⊢
   have hd3:p3.d= [.i p3.o,.i p3.s,.i p3.day,.slc (qt p3.needs),.slc (qu p3.ops),.str p3.sl]:=rfl
   simp+contextual only [hd3,qg,qk,n34,n35,n36,↓XP,qh,XW1,qb]
   intros
   exact h
  ·clear h0 h5 r0
   have q6:((7:Int)=6)=False:=by decide
   have q8:((7:Int)=8)=False:=by decide
   have q9:((7:Int)=9)=False:=by decide
   have q10:((7:Int)=10)=False:=by decide
   have q11:((7:Int)=11)=False:=by decide
   have q12:((7:Int)=12)=False:=by decide
   have q13:((7:Int)=13)=False:=by decide
   have q14:((7:Int)=14)=False:=by decide
   rw [if_neg (by omega),if_pos (by omega)] at h
   simp+contextual only [qE,qg,n23,sc,he3,n24,n25,q6,↓Jy,↓XP,qh,XW1,qb]
   refine fun _=>⟨by omega,by omega,?_⟩
   rintro b6 ⟨n56,n46,n36,n26,n16,h6⟩
   refine ⟨_,fun _ _=>ko (n:=2) ⟨rfl,rfl⟩,?_⟩
   simp+contextual only [↓XP,qo]
   refine fun _=>⟨_,fun _ _=>vg (p:=p) (on:=sen) (m:=m.drop 2) (by omega) ⟨rfl,rfl⟩,?_⟩
   generalize meaning p sen (m.drop 2)=p3 at h ⊢
   have hd3:p3.d= [.i p3.o,.i p3.s,.i p3.day,.slc (qt p3.needs),.slc (qu p3.ops),.str p3.sl]:=rfl
   simp+contextual only [hd3,qg,qk,n34,n35,n36,↓XP,qh,XW1,qb]
   intros
   exact h
  ·clear h0 h5 r0
   have q6:((8:Int)=6)=False:=by decide
   have q7:((8:Int)=7)=False:=by decide
   have q9:((8:Int)=9)=False:=by decide
   have q10:((8:Int)=10)=False:=by decide
   have q11:((8:Int)=11)=False:=by decide
   have q12:((8:Int)=12)=False:=by decide
   have q13:((8:Int)=13)=False:=by decide
   have q14:((8:Int)=14)=False:=by decide
   rw [if_neg (by omega),if_neg (by omega),if_pos (by omega)] at h
   simp+contextual only [qE,qg,n12,n13,n23,sc,he3,n14,n24,n15,n25,q6,q7,↓Jy,↓XP,qh,XW1,qb]
   refine fun _=>⟨by omega,by omega,?_⟩
   rintro b6 ⟨n56,n46,n36,n26,n16,h6⟩
   refine ⟨_,fun _ _=>ko (n:=2) ⟨rfl,rfl⟩,?_⟩
   simp+contextual only [↓XP,qo]
   refine fun _=>⟨_,fun _ _=>Ub (x:=x) (p:=p) (sense:=sen) (m:=m.drop 2) hs hb ho (by omega) ⟨rfl,rfl⟩,?_⟩
   generalize quoted x seen p sen (m.drop 2)=p3 at h ⊢
   have hd3:p3.d= [.i p3.o,.i p3.s,.i p3.day,.slc (qt p3.needs),.slc (qu p3.ops),.str p3.sl]:=rfl
   simp+contextual only [hd3,qg,qk,n34,n35,n36,↓XP,qh,XW1,qb]
   intros
   exact h
  ·clear h0 h5 r0
   have q6:((9:Int)=6)=False:=by decide
   have q7:((9:Int)=7)=False:=by decide
   have q8:((9:Int)=8)=False:=by decide
   have q10:((9:Int)=10)=False:=by decide
   have q11:((9:Int)=11)=False:=by decide
   have q12:((9:Int)=12)=False:=by decide
   have q13:((9:Int)=13)=False:=by decide
   have q14:((9:Int)=14)=False:=by decide
   rw [if_neg (by omega),if_neg (by omega),if_pos (by omega)] at h
   simp+contextual only [qE,qg,n12,n13,n23,sc,he3,n14,n24,n15,n25,q6,q7,q8,↓Jy,↓XP,qh,XW1,qb]
   refine fun _=>⟨by omega,by omega,?_⟩
   rintro b6 ⟨n56,n46,n36,n26,n16,h6⟩
   refine ⟨_,fun _ _=>ko (n:=2) ⟨rfl,rfl⟩,?_⟩
   simp+contextual only [↓XP,qo]
   refine fun _=>⟨_,fun _ _=>Ub (x:=x) (p:=p) (sense:=sen) (m:=m.drop 2) hs hb ho (by omega) ⟨rfl,rfl⟩,?_⟩
   generalize quoted x seen p sen (m.drop 2)=p3 at h ⊢
   have hd3:p3.d= [.i p3.o,.i p3.s,.i p3.day,.slc (qt p3.needs),.slc (qu p3.ops),.str p3.sl]:=rfl
   simp+contextual only [hd3,qg,qk,n34,n35,n36,↓XP,qh,XW1,qb]
   intros
   exact h
  ·clear h0 h5 r0
   have q6:((10:Int)=6)=False:=by decide
   have q7:((10:Int)=7)=False:=by decide
   have q8:((10:Int)=8)=False:=by decide
   have q9:((10:Int)=9)=False:=by decide
   have q11:((10:Int)=11)=False:=by decide
   have q12:((10:Int)=12)=False:=by decide
   have q13:((10:Int)=13)=False:=by decide
   have q14:((10:Int)=14)=False:=by decide
   rw [if_neg (by omega),if_neg (by omega),if_neg (by omega),if_pos (by omega)] at h
   simp+contextual only [qE,qg,n23,sc,he3,n24,n25,n45,q6,q7,q8,q9,↓Jy,↓XP,qh,XW1,qb]
   refine fun _=>⟨by omega,by omega,?_⟩
   rintro b6 ⟨n56,n46,n36,n26,n16,h6⟩
   refine ⟨_,fun _ _=>ko (n:=2) ⟨rfl,rfl⟩,?_⟩
   simp+contextual only [↓XP,qo]
   refine fun _=>⟨_,fun _ _=>bL (p:=p) (entry:=ent) (sense:=sen) (m:=m.drop 2) (by omega) ⟨rfl,rfl⟩,?_⟩
   generalize divided p ent sen (m.drop 2)=p3 at h ⊢
   have hd3:p3.d= [.i p3.o,.i p3.s,.i p3.day,.slc (qt p3.needs),.slc (qu p3.ops),.str p3.sl]:=rfl
   simp+contextual only [hd3,qg,qk,n34,n35,n36,↓XP,qh,XW1,qb]
   intros
   exact h
  ·clear h0 h5 r0
   have q6:((11:Int)=6)=False:=by decide
   have q7:((11:Int)=7)=False:=by decide
   have q8:((11:Int)=8)=False:=by decide
   have q9:((11:Int)=9)=False:=by decide
   have q10:((11:Int)=10)=False:=by decide
   have q12:((11:Int)=12)=False:=by decide
   have q13:((11:Int)=13)=False:=by decide
   have q14:((11:Int)=14)=False:=by decide
   rw [if_neg (by omega),if_neg (by omega),if_neg (by omega),if_neg (by omega),if_pos (by omega)] at h
   simp+contextual only [qE,qg,n23,sc,he3,n24,n25,q6,q7,q8,q9,q10,↓Jy,↓XP,qh,XW1,qb,qe]
   refine fun _=>⟨by omega,by omega,?_⟩
   rintro b6 ⟨n56,n46,n36,n26,n16,h6⟩
   rw [Bw]
   refine ⟨fun hq=>?_,fun hq=>?_⟩
   ·rw [if_neg (of_decide_eq_false hq)] at h
    refine kC (p:=p) (o:={yu with k:=17,on:=sen,to:=oth}) (by omega) ?_
    generalize j9 p {yu with k:=17,on:=sen,to:=oth}=p3 at h ⊢
    have hd3:p3.d= [.i p3.o,.i p3.s,.i p3.day,.slc (qt p3.needs),.slc (qu p3.ops),.str p3.sl]:=rfl
    simp+contextual only [hd3,qg,qk,n34,n35,n36,↓XP,qh,XW1,qb]
    intros
    exact h
   ·rw [if_pos (of_decide_eq_true hq)] at h
    unfold yC at h
    refine ⟨by decide,_,fun _ _=>ko (n:=1) ⟨rfl,rfl⟩,?_⟩
    simp+contextual only [↓XP,qo]
    refine fun _=>⟨_,fun _ _=>Jx (sense:=sen) (other:=oth) (n:=((11:Int).tmod 11)) (m:=m.drop 1) ⟨rfl,rfl⟩,?_⟩
    generalize small sen oth ((11:Int).tmod 11) (m.drop 1)=o at h ⊢
    have hod:o.d= [.i o.k,.i o.on.o,.i o.on.s,.i o.on.i,.i o.to.o,.i o.to.s,.i o.to.i,.slc (qW o.ids),.i o.n,.str o.name,.str o.text,.i o.a,.i o.b]:=rfl
    simp+contextual only [hod,↓XP,qo,XW1]
    refine ⟨_,fun _ _=>kC (p:=p) (o:=o) (by omega) ⟨rfl,rfl⟩,?_⟩
    generalize j9 p o=p3 at h ⊢
    have hd3:p3.d= [.i p3.o,.i p3.s,.i p3.day,.slc (qt p3.needs),.slc (qu p3.ops),.str p3.sl]:=rfl
    simp+contextual only [hd3,qg,qk,n34,n35,n36,↓XP,qh,XW1,qb]
    intros
    exact h
  ·clear h0 h5 r0
   have q6:((12:Int)=6)=False:=by decide
   have q7:((12:Int)=7)=False:=by decide
   have q8:((12:Int)=8)=False:=by decide
   have q9:((12:Int)=9)=False:=by decide
   have q10:((12:Int)=10)=False:=by decide
   have q11:((12:Int)=11)=False:=by decide
   have q13:((12:Int)=13)=False:=by decide
   have q14:((12:Int)=14)=False:=by decide
   rw [if_neg (by omega),if_neg (by omega),if_neg (by omega),if_neg (by omega),if_neg (by omega),if_pos (by omega)] at h
   simp+contextual only [qE,qg,n12,n13,n23,sc,he3,n14,n24,n15,n25,q6,q7,q8,q9,q10,q11,↓Jy,↓XP,qh,XW1,qb]
   refine fun _=>⟨by omega,by omega,?_⟩
   rintro b6 ⟨n56,n46,n36,n26,n16,h6⟩
   refine cW (x:=x) (p:=p) hs hb ho (by omega) ?_
   have hspl:(splits x seen p).length<=101000:=lW ho hb (by omega)
   generalize splits x seen p=spl at h hsp hspl ⊢
   simp+contextual only [qI,qg,n23,n24,n25,n26,n56,↓Jy,↓XP,qh,XW1,qb]
   refine fun _=>⟨fun hl0=>?_,fun hl0=>?_⟩
   ·rw [if_neg (by omega)] at h
    have rd:=qG (l:=m) (i:=3) (most:=(spl.length:Int)) (by omega)
    have hlt:jM m 3 spl.length<spl.length:=by unfold jM;omega
    have sd:(qu spl).getD (qC m 3 spl.length).toNat []=(spl.getD (jM m 3 spl.length) default).d:=kJ hlt
    have hi2:(spl.getD (jM m 3 spl.length) default).ids.length=2:=hsp _ (by rw [jx hlt];exact List.getElem_mem _)
    generalize spl.getD (jM m 3 spl.length) default=o at h sd hi2
    have hod:o.d= [.i o.k,.i o.on.o,.i o.on.s,.i o.on.i,.i o.to.o,.i o.to.s,.i o.to.i,.slc (qW o.ids),.i o.n,.str o.name,.str o.text,.i o.a,.i o.b]:=rfl
    refine jN (i:=3) (most:=(spl.length:Int)) (by omega) ?_
    simp+contextual only [sd,hod,qI,qE,qg,n23,n24,n25,n26,n56,↓Jy,↓XP,qh,XW1,qb,qe]
    refine fun _=>⟨by omega,by omega,?_⟩
    rintro b7 ⟨n67,n57,n47,n37,n27,n17,h7⟩
    have rf:=qG (l:=m) (i:=4) (most:=(o.ids.length:Int)) (by omega)
    have hlf:jM m 4 o.ids.length<o.ids.length:=by unfold jM;omega
    have sf:(qW o.ids).getD (qC m 4 o.ids.length).toNat []=(o.ids.getD (jM m 4 o.ids.length) default).d:=yj hlf
    generalize o.ids.getD (jM m 4 o.ids.length) default=it at h sf
    have hit:it.d= [.i it.o,.i it.s,.i it.i]:=rfl
    refine fun _=>⟨_,fun _ _=>jN (i:=4) (most:=(o.ids.length:Int)) (by omega) ⟨rfl,rfl⟩,?_⟩
    simp+contextual only [qE,sf,hit,↓XP,qh,XW1,qb,qc,qe]
    refine fun _=>⟨by omega,by omega,?_⟩
    refine ⟨_,fun _ _=>kC (p:=p) (o:={yu with k:=18,on:=sen,to:=o.on,ids:= [it]}) (by omega) ⟨rfl,rfl⟩,?_⟩
    generalize j9 p {yu with k:=18,on:=sen,to:=o.on,ids:= [it]}=p3 at h ⊢
    have hd3:p3.d= [.i p3.o,.i p3.s,.i p3.day,.slc (qt p3.needs),.slc (qu p3.ops),.str p3.sl]:=rfl
    simp+contextual only [hd3,qg,qk,n34,n35,n36,r7,n37,↓XP,qh,XW1,qb]
    intros
    exact h
   ·rw [if_pos (by omega)] at h
    unfold yC at h
    refine ⟨by decide,_,fun _ _=>ko (n:=1) ⟨rfl,rfl⟩,?_⟩
    simp+contextual only [↓XP,qo]
    refine fun _=>⟨_,fun _ _=>Jx (sense:=sen) (other:=oth) (n:=((12:Int).tmod 11)) (m:=m.drop 1) ⟨rfl,rfl⟩,?_⟩
    generalize small sen oth ((12:Int).tmod 11) (m.drop 1)=o at h ⊢
    have hod:o.d= [.i o.k,.i o.on.o,.i o.on.s,.i o.on.i,.i o.to.o,.i o.to.s,.i o.to.i,.slc (qW o.ids),.i o.n,.str o.name,.str o.text,.i o.a,.i o.b]:=rfl
    simp+contextual only [hod,↓XP,qo,XW1]
    refine ⟨_,fun _ _=>kC (p:=p) (o:=o) (by omega) ⟨rfl,rfl⟩,?_⟩
    generalize j9 p o=p3 at h ⊢
    have hd3:p3.d= [.i p3.o,.i p3.s,.i p3.day,.slc (qt p3.needs),.slc (qu p3.ops),.str p3.sl]:=rfl
    simp+contextual only [hd3,qg,qk,n34,n35,n36,↓XP,qh,XW1,qb]
    intros
    exact h
  ·clear h0 h5 r0
   have q6:((13:Int)=6)=False:=by decide
   have q7:((13:Int)=7)=False:=by decide
   have q8:((13:Int)=8)=False:=by decide
   have q9:((13:Int)=9)=False:=by decide
   have q10:((13:Int)=10)=False:=by decide
   have q11:((13:Int)=11)=False:=by decide
   have q12:((13:Int)=12)=False:=by decide
   have q14:((13:Int)=14)=False:=by decide
   rw [if_neg (by omega),if_neg (by omega),if_neg (by omega),if_neg (by omega),if_neg (by omega),if_neg (by omega),if_pos (by omega)] at h
   simp+contextual only [qE,sc,he3,q6,q7,q8,q9,q10,q11,q12,↓Jy,↓XP,qh,XW1,qb]
   refine fun _=>⟨by omega,by omega,?_⟩
   rintro b6 ⟨n56,n46,n36,n26,n16,h6⟩
   refine jN (i:=2) (by omega) ?_
   simp+contextual only [qg,n23,n24,n25,n45,n26,n46,↓Jy,↓XP,qh,XW1,qb,qc,qe]
   refine fun _=>⟨fun hq=>?_,fun hq=>?_⟩
   ·rw [if_pos (by omega)] at h
    refine ⟨_,fun _ _=>JE ⟨rfl,rfl⟩,?_⟩
    simp+contextual only [l8,j8,↓XP,qo]
    refine fun _=>⟨_,fun _ _=>jN (i:=3) (by omega) ⟨rfl,rfl⟩,?_⟩
    simp+contextual only [s38,l8,j8,↓XP,qh,qb,qe]
    refine fun _=>⟨by omega,by omega,fun _=>?_⟩
    refine ⟨_,fun _ _=>kC (p:=p) (o:={yu with k:=5,on:=ent,text:=heads8.getD (jM m 3 8) []}) (by omega) ⟨rfl,rfl⟩,?_⟩
    generalize j9 p {yu with k:=5,on:=ent,text:=heads8.getD (jM m 3 8) []}=p3 at h ⊢
    have hd3:p3.d= [.i p3.o,.i p3.s,.i p3.day,.slc (qt p3.needs),.slc (qu p3.ops),.str p3.sl]:=rfl
    simp+contextual only [hd3,qg,qk,n34,n35,n36,↓XP,qh,XW1,qb]
    intros
    exact h
   ·rw [if_neg (by omega)] at h
    refine ⟨_,fun _ _=>jN (i:=3) (by omega) ⟨rfl,rfl⟩,?_⟩
    simp+contextual only [s32,l2,e2,j8,↓XP,qh,qb,qe]
    refine fun _=>⟨by omega,by omega,fun _=>?_⟩
    refine ⟨_,fun _ _=>kC (p:=p) (o:={yu with k:=6,on:=ent,name:=cls2.getD (jM m 3 2) []}) (by omega) ⟨rfl,rfl⟩,?_⟩
    generalize j9 p {yu with k:=6,on:=ent,name:=cls2.getD (jM m 3 2) []}=p3 at h ⊢
    have hd3:p3.d= [.i p3.o,.i p3.s,.i p3.day,.slc (qt p3.needs),.slc (qu p3.ops),.str p3.sl]:=rfl
    simp+contextual only [hd3,qg,qk,n34,n35,n36,↓XP,qh,XW1,qb]
    intros
    exact h
  ·clear h0 h5 r0
   have q6:((14:Int)=6)=False:=by decide
   have q7:((14:Int)=7)=False:=by decide
   have q8:((14:Int)=8)=False:=by decide
   have q9:((14:Int)=9)=False:=by decide
   have q10:((14:Int)=10)=False:=by decide
   have q11:((14:Int)=11)=False:=by decide
   have q12:((14:Int)=12)=False:=by decide
   have q13:((14:Int)=13)=False:=by decide
   rw [if_neg (by omega),if_neg (by omega),if_neg (by omega),if_neg (by omega),if_neg (by omega),if_neg (by omega),if_neg (by omega),if_pos (by omega)] at h
   simp+contextual only [qE,qg,n12,n13,n23,sc,he3,n14,n24,n15,n25,q6,q7,q8,q9,q10,q11,q12,q13,↓Jy,↓XP,qh,XW1,qb]
   refine fun _=>⟨by omega,by omega,?_⟩
   rintro b6 ⟨n56,n46,n36,n26,n16,h6⟩
   refine zw (x:=x) (p:=p) hs hb ho (by omega) ?_
   generalize visible x seen p 3=src at h hvl3 ⊢
   simp+contextual only [qE,qg,n23,n24,n25,n26,n56,↓Jy,↓XP,qh,XW1,qb]
   refine fun _=>⟨fun hl0=>?_,fun hl0=>?_⟩
   ·rw [if_neg (by omega)] at h
    have w1:IntKind.i64.wrap (500*qC m 3 60)=500*qC m 3 60:=qm (by omega) (by omega)
    have w2:IntKind.i64.wrap (600000+500*qC m 3 60)=600000+500*qC m 3 60:=qm (by omega) (by omega)
    have w3:IntKind.i64.wrap (600000+500*qC m 3 60+99)=600000+500*qC m 3 60+99:=qm (by omega) (by omega)
    have rd:=qG (l:=m) (i:=2) (most:=(src.length:Int)) (by omega)
    have hlt:jM m 2 src.length<src.length:=by unfold jM;omega
    have sd:(qW src).getD (qC m 2 src.length).toNat []=(src.getD (jM m 2 src.length) default).d:=yj hlt
    generalize src.getD (jM m 2 src.length) default=it at h sd
    have hit:it.d= [.i it.o,.i it.s,.i it.i]:=rfl
    refine jN (i:=3) (by omega) ?_
    simp+contextual only [qE,qg,n23,n24,n25,n26,w1,w2,↓Jy,↓XP,qh,XW1,qb]
    refine fun _ _=>⟨_,fun _ _=>jN (i:=2) (most:=(src.length:Int)) (by omega) ⟨rfl,rfl⟩,?_⟩
    simp+contextual only [qE,sd,hit,w3,↓XP,qh,qb,qe]
    refine fun _=>⟨by omega,by omega,?_⟩
    refine ⟨_,fun _ _=>kC (p:=p) (o:={yu with k:=11,on:=it,a:=600000+500*qC m 3 60,b:=600000+500*qC m 3 60+99}) (by omega) ⟨rfl,rfl⟩,?_⟩
    generalize j9 p {yu with k:=11,on:=it,a:=600000+500*qC m 3 60,b:=600000+500*qC m 3 60+99}=p3 at h ⊢
    have hd3:p3.d= [.i p3.o,.i p3.s,.i p3.day,.slc (qt p3.needs),.slc (qu p3.ops),.str p3.sl]:=rfl
    simp+contextual only [hd3,qg,qk,n34,n35,n36,↓XP,qh,XW1,qb]
    intros
    exact h
   ·rw [if_pos (by omega)] at h
    unfold yC at h
    refine ⟨by decide,_,fun _ _=>ko (n:=1) ⟨rfl,rfl⟩,?_⟩
    simp+contextual only [↓XP,qo]
    refine fun _=>⟨_,fun _ _=>Jx (sense:=sen) (other:=oth) (n:=((14:Int).tmod 11)) (m:=m.drop 1) ⟨rfl,rfl⟩,?_⟩
    generalize small sen oth ((14:Int).tmod 11) (m.drop 1)=o at h ⊢
    have hod:o.d= [.i o.k,.i o.on.o,.i o.on.s,.i o.on.i,.i o.to.o,.i o.to.s,.i o.to.i,.slc (qW o.ids),.i o.n,.str o.name,.str o.text,.i o.a,.i o.b]:=rfl
    simp+contextual only [hod,↓XP,qo,XW1]
    refine ⟨_,fun _ _=>kC (p:=p) (o:=o) (by omega) ⟨rfl,rfl⟩,?_⟩
    generalize j9 p o=p3 at h ⊢
    have hd3:p3.d= [.i p3.o,.i p3.s,.i p3.day,.slc (qt p3.needs),.slc (qu p3.ops),.str p3.sl]:=rfl
    simp+contextual only [hd3,qg,qk,n34,n35,n36,↓XP,qh,XW1,qb]
    intros
    exact h
  ·have q6:(c=6)=False:=eq_false (by omega)
   have q7:(c=7)=False:=eq_false (by omega)
   have q8:(c=8)=False:=eq_false (by omega)
   have q9:(c=9)=False:=eq_false (by omega)
   have q10:(c=10)=False:=eq_false (by omega)
   have q11:(c=11)=False:=eq_false (by omega)
   have q12:(c=12)=False:=eq_false (by omega)
   have q13:(c=13)=False:=eq_false (by omega)
   have q14:(c=14)=False:=eq_false (by omega)
   rw [if_neg (by omega),if_neg (by omega),if_neg (by omega),if_neg (by omega),if_neg (by omega),if_neg (by omega),if_neg (by omega),if_neg (by omega)] at h
   simp+contextual only [qE,qg,n23,sc,he3,n24,n25,q6,q7,q8,q9,q10,q11,q12,q13,q14,↓Jy,↓XP,qh,XW1,qb]
   refine fun _=>⟨by omega,by omega,?_⟩
   rintro b6 ⟨n56,n46,n36,n26,n16,h6⟩
   unfold yC at h
   refine ⟨by decide,_,fun _ _=>ko (n:=1) ⟨rfl,rfl⟩,?_⟩
   simp+contextual only [↓XP,qo]
   refine fun _=>⟨_,fun _ _=>Jx (sense:=sen) (other:=oth) (n:=(c.tmod 11)) (m:=m.drop 1) ⟨rfl,rfl⟩,?_⟩
   generalize small sen oth (c.tmod 11) (m.drop 1)=o at h ⊢
   have hod:o.d= [.i o.k,.i o.on.o,.i o.on.s,.i o.on.i,.i o.to.o,.i o.to.s,.i o.to.i,.slc (qW o.ids),.i o.n,.str o.name,.str o.text,.i o.a,.i o.b]:=rfl
   simp+contextual only [hod,↓XP,qo,XW1]
   refine ⟨_,fun _ _=>kC (p:=p) (o:=o) (by omega) ⟨rfl,rfl⟩,?_⟩
   generalize j9 p o=p3 at h ⊢
   have hd3:p3.d= [.i p3.o,.i p3.s,.i p3.day,.slc (qt p3.needs),.slc (qu p3.ops),.str p3.sl]:=rfl
   simp+contextual only [hd3,qg,qk,n34,n35,n36,↓XP,qh,XW1,qb]
   intros
   exact h
theorem ig {x:Gs} {seen:List Bool} {p:Pt} {m:List Int} {b3 b6 b8:Nat} {c6:AO} {H:AH} {Q:AQ} {F:List D} (hx:GInv x) (hb:x.l.length<=20) (hs:seen.length=x.l.length) (hp:p.ops= []) (hv:VOk x seen p) (n38:b3≠b8) (n36:b3≠b6) (n68:b6≠b8)
  (hF:Fr 139 [(2,.slc (ints m)),(3,.ptr b3 0),(6,.ptr b6 0),(8,.ptr b8 0),(9,.slc (jG seen)),(13,.i 0)] F) (hE:∀F',Fr 139 [(2,.slc (ints m)),(3,.ptr b3 0),(6,.ptr b6 0),(8,.ptr b8 0),(9,.slc (jG seen))] F'->∀i,i=1+jM m 5 2->Q (.exit 4) F' ((b8,AO.cells (jk x seen p m i).d)::(b6,c6)::(b3,AO.cells [.own (je x.l),.own (jc x.past)])::H)):
  ∀i,i=0->XW Tryz.prog (zk 61) F ((b8,AO.cells (jk x seen p m i).d)::(b6,c6)::(b3,AO.cells [.own (je x.l),.own (jc x.past)])::H) Q:=by
 intro i0 hi0
 have hbig:=qj
 have a5:=qG (l:=m) (i:=5) (most:=2) (by omega)
 obtain ⟨n,hn⟩:∃n:Nat,1+jM m 5 2=n:=⟨_,rfl⟩
 have hn2:n<=2:=by unfold jM at hn;omega
 have hne:1+qC m 5 2=(n:Int):=by unfold jM at hn;omega
 have w1:IntKind.i64.wrap (1+qC m 5 2)=(n:Int):=by rw [hne];exact qm (by omega) (by omega)
 refine XW.loopK hm (fun F H'=>∃(i:Nat),i<=n∧Fr 139 [(2,.slc (ints m)),(3,.ptr b3 0),(6,.ptr b6 0),(8,.ptr b8 0),(9,.slc (jG seen)),(13,.i (i:Int))] F∧((b8,AO.cells (jk x seen p m i).d)::(b6,c6)::(b3,AO.cells [.own (je x.l),.own (jc x.past)])::H)=H') (fun F H=>match F.getD 13 .any with| .int _ n'=>n - n'.toNat|_=>0) ⟨0,by omega,hF,by rw [hi0]⟩ ?_
 clear hF hi0
 rintro _ _ ⟨i,hi,hF,rfl⟩ K hN hE' hR
 obtain ⟨z,rfl⟩:=hF.fl rfl
 try dsimp only [fl,zz,qa,qb] at*
 clear hF hR
 by_cases hlt:i<n
 ·have nx:∀F',Fr 139 [(2,.slc (ints m)),(3,.ptr b3 0),(6,.ptr b6 0),(8,.ptr b8 0),(9,.slc (jG seen)),(13,.i ((i+1:Nat):Int))] F'->∀j,j=i+1->K .normal F' ((b8,AO.cells (jk x seen p m j).d)::(b6,c6)::(b3,AO.cells [.own (je x.l),.own (jc x.past)])::H):=fun F' hF' j hj=>hN _ _ ⟨i+1,hlt,hF',by rw [hj];exact (qz rfl).symm⟩ (by
   rw [Ma,hF'.2.2.2.2.2.2.1]
   simp only [Mc,Md,Mf]
   omega)
  have nx2:=nx
  clear hN hE' hE nx
  obtain ⟨more,g1,g2⟩:=uA (x:=x) (seen:=seen) (p:=p) (m:=m) hp hv i
  have nx:=fun F' hF'=>nx2 F' hF' (i+1) rfl
  simp only [jk] at nx
  clear nx2
  generalize jk x seen p m i=q at g1 g2 nx ⊢
  have hqo:q.ops=more:=by rw [g1.eq];simp only [hp,Mz]
  have hql:=g1.len
  have hqk:=g1.ok
  rw [<-hqo] at hql hqk
  have hspl:=bh hx (seen:=seen) (p:=q) hqk
  have w2:IntKind.i64.wrap (13*(i:Int))=13*(i:Int):=qm (by omega) (by omega)
  have w3:IntKind.i64.wrap (6+13*(i:Int))=((6+13*i:Nat):Int):=by rw [qm (by omega) (by omega)];omega
  have hd:q.d= [.i q.o,.i q.s,.i q.day,.slc (qt q.needs),.slc (qu q.ops),.str q.sl]:=rfl
  simp+contextual only [↓YZ,↓wb,↓XP,qo]
  refine jN (i:=5) (by omega) ?_
  simp+contextual only [qg,n38,n36,w1,hd,↓YZ,↓wb,↓XP,qh,XW1,qb]
  refine fun _=>⟨fun _=>?_,fun hge=>absurd (by omega) hge⟩
  simp+contextual only [w2,w3]
  refine ⟨_,fun _ _=>ko ⟨rfl,rfl⟩,?_⟩
  simp+contextual only [↓wb,↓XP,qo]
  refine fun _=>⟨_,fun _ _=>xe (x:=x) (p:=q) (by omega) (by omega) (fun q hq=>by have:=hx.op q hq;omega) (by omega) g2 hspl ⟨rfl,rfl⟩,?_⟩
  generalize step x seen q (List.drop (6+13*i) m)=p3 at nx ⊢
  have hd3:p3.d= [.i p3.o,.i p3.s,.i p3.day,.slc (qt p3.needs),.slc (qu p3.ops),.str p3.sl]:=rfl
  simp only [hd3] at nx
  simp+contextual only [hd3,qi (show i<=big by omega),↓YZ,↓wb,↓XP,qh,XW1,qb]
  exact nx _ ⟨rfl,rfl,rfl,rfl,rfl,rfl,rfl,trivial⟩
 ·have hik:i=n:=by omega
  subst hik
  clear hN
  simp+contextual only [↓YZ,↓wb,↓XP,qo]
  refine jN (i:=5) (by omega) ?_
  simp+contextual only [w1,↓wb,↓XP,qo]
  exact fun _=>hE' _ _ _ (hE _ ⟨rfl,rfl,rfl,rfl,rfl,rfl,trivial⟩ _ hn.symm)
theorem JK (h:xs≠ []->b≠c):jB ((c,o)::H) b xs=(c,o)::jB H b xs:=by
 unfold jB
 split
 ·rfl
 ·rename_i hx
  rw [u5 (h hx)]
theorem aY (h:xs≠ []->c≠b) (hg:qn H c=some o):qn (jB H b xs) c=some o:=by
 unfold jB
 split
 ·exact hg
 ·rename_i hx
  have hne:=h hx
  induction H with
  |nil=>cases hg
  | cons p r ih=>
   obtain ⟨e,o'⟩:=p
   unfold qN
   by_cases he:b=e
   ·rw [if_pos he]
    subst he
    rwa [qg hne] at hg
   ·rw [if_neg he]
    by_cases hc:c=e
    ·subst hc
     rw [jf] at hg ⊢
     exact hg
    ·rw [qg hc] at hg ⊢
     exact ih hg
theorem Gz.take2 {b3 b6} {k:List D->AH->Prop} (h3:qD H b3) (h6:qD H b6) (hl:xs≠ []->qn H bl=some (.room cl xs)) (hp:ys≠ []->qn H bp=some (.room cp ys)) (hne:xs≠ []->ys≠ []->bl≠bp)
  (h:∀Hr:AH,Hr=jB (jB H bl xs) bp ys->Hr.Sublist H->k F ((b6,c6)::(b3,.cells [.own xs,.own ys])::Hr)):Gz F ((b6,c6)::(b3,.cells [.osl bl cl xs,.osl bp cp ys])::H) k:=by
 have f3:∀{b o},qn H b=some o->b≠b3:=fun hg=>qT h3 hg
 have f6:∀{b o},qn H b=some o->b≠b6:=fun hg=>qT h6 hg
 refine Gz.bind (k:=fun F' H'=>F'=F∧H'=(b3,.cells [.osl bl cl xs,.osl bp cp ys])::(b6,c6)::H) (Gz.sb (fun hn=>?_) ⟨rfl,rfl⟩) ?_
 ·refine ⟨?_,fun p hp=>?_⟩
  ·simp only [List.map_cons,List.nodup_cons,Mu,not_or] at hn ⊢
   exact ⟨⟨fun e=>hn.1.1 e.symm,hn.2.1⟩,hn.1.2,hn.2.2⟩
  ·simp only [Mu] at hp ⊢
   rcases hp with h|h|h
   ·exact .inr (.inl h)
   ·exact .inl h
   ·exact .inr (.inr h)
 intro F2 H2 hh
 rw [hh.1,hh.2]
 clear hh
 refine Gz.bind (k:=fun F'' H''=>F''=F∧H''=(b3,.cells [.own xs,.osl bp cp ys])::(b6,c6)::jB H bl xs) (Gz.take (j:=0) rfl (fun hx=>by rw [qg (f6 (hl hx))];exact hl hx) ⟨rfl,by rw [JK (fun hx=>f6 (hl hx))];rfl⟩) ?_
 intro F2 H2 hh
 rw [hh.1,hh.2]
 clear hh
 have hp2:ys≠ []->qn (jB H bl xs) bp=some (.room cp ys):=fun hy=>aY (fun hx=>(hne hx hy).symm) (hp hy)
 refine Gz.bind (k:=fun F'' H''=>F''=F∧H''=(b3,.cells [.own xs,.own ys])::(b6,c6)::jB (jB H bl xs) bp ys) (Gz.take (j:=1) rfl (fun hy=>by rw [qg (f6 (hp hy))];exact hp2 hy) ⟨rfl,by rw [JK (fun hy=>f6 (hp hy))];rfl⟩) ?_
 intro F2 H2 hh
 rw [hh.1,hh.2]
 clear hh
 refine Gz.sb (fun hn=>?_) (h (jB (jB H bl xs) bp ys) rfl (dropR_sub.trans dropR_sub))
 refine ⟨?_,fun p hp=>?_⟩
 ·simp only [List.map_cons,List.nodup_cons,Mu,not_or] at hn ⊢
  exact ⟨⟨fun e=>hn.1.1 e.symm,hn.2.1⟩,hn.1.2,hn.2.2⟩
 ·simp only [Mu] at hp ⊢
  rcases hp with h|h|h
  ·exact .inr (.inl h)
  ·exact .inl h
  ·exact .inr (.inr h)
theorem Gz.view1 {k:List D->AH->Prop} (hg:qn H bx=some (.cells cs)) (h:k F (qH H bx (.cells (cs.map D.view1)))):Gz F H k:=by
 intro K w t hs
 refine ⟨F,_,K,h,.refl K w,hs.krel,⟨by rw [jS];exact hs.hrel.nd,fun c' o' hm'=>?_⟩,hs.len,hs.slot⟩
 rcases kR hs.hrel.nd hm' with ⟨rfl,rfl⟩|⟨hne,hm'⟩
 ·obtain ⟨hpb,c,T,hb,hcs,hrc⟩:=hs.hrel.ok c' _ (qP hg)
  refine ⟨hpb,c,T,hb,by simpa using hcs,fun j d hd=>?_⟩
  rw [Me,Option.map_eq_some_iff] at hd
  obtain ⟨d',e1,rfl⟩:=hd
  obtain ⟨u,f1,f2,f3⟩:=hrc j d' e1
  refine ⟨u,f1,f2,?_⟩
  cases d'<;>first|exact f3|exact OwnAt.rep f3
 ·exact hs.hrel.ok c' o' hm'
theorem aq:(List.replicate n [D.bool false]).flatten=(List.replicate n false).map D.bool:=by
 induction n with
 |zero=>rfl
 |succ n ih=>rw [List.replicate_succ,List.replicate_succ,M5,ih];rfl
theorem ZH:l.map D.bool=(jG l).flatten++ []:=by
 induction l with
 |nil=>rfl
 |cons b r ih=>simp only [List.map_cons,jG,M5,M0,Mz];rw [ih];simp [jG]
theorem QG:jB H b []=H:=by simp [jB]
theorem Gz.then {k:List D->AH->Prop} (h:Gz F H fun F' H'=>Gz F' H' k):Gz F H k:=Gz.bind h fun _ _ h=>h
theorem rG:(Tryz.prog.info? 4).map (·.bytes)=some 1:=by kernel_rfl
theorem A0 (h:n<=1000):match Tryz.prog.info? 4 with|some i=>(i.bytes:Int)*n<=140737488355328∧n<=140737488355328|none=>False:=by
 have h4:=rG
 cases hq:Tryz.prog.info? 4 with
 |none=>rw [hq] at h4;cases h4
 | some i=>
  rw [hq] at h4
  simp only [Option.map_some,Option.some.injEq] at h4
  simp only [h4]
  omega
theorem pD {R:D->AH->Prop} (hx:GInv x) (hb:x.l.length<=20) (hof:1<=offices) (hof':offices<=10)
  (hr1:je x.l≠ []->qn H bl=some (.room cl (je x.l))) (hr2:jc x.past≠ []->qn H bp=some (.room cp (jc x.past)))
  (h:∀bl' cl' bp' cp',bl'≠bp'->qD (jB (jB H bl (je x.l)) bp (jc x.past)) bl'->qD (jB (jB H bl (je x.l)) bp (jc x.past)) bp'->R (.agg [.osl bl' cl' (je (next x offices m).l),.osl bp' cp' (jc (next x offices m).past)]) ((bp',.room cp' (jc (next x offices m).past))::(bl',.room cl' (je (next x offices m).l))::jB (jB H bl (je x.l)) bp (jc x.past))):
  ACall Tryz.prog 58 [.agg [.osl bl cl (je x.l),.osl bp cp (jc x.past)],.i offices,.slc (ints m)] H R:=by
 have hbig:=qj
 have hne:je x.l≠ []->jc x.past≠ []->bl≠bp:=fun h1 h2 e=>by
  have e1:=hr1 h1
  rw [e,hr2 h2] at e1
  injection e1 with e1
  injection e1 with e1 e2
  cases hl:x.l with
  |nil=>rw [hl] at h1;exact h1 rfl
  | cons p r=>
   cases hq:x.past with
   |nil=>rw [hq] at h2;exact h2 rfl
   |cons p' r'=>rw [hl,hq] at e2;simp [je,jc,Pt.d] at e2
 refine r58 fun hf=>?_
 simp+contextual only [x58,↓YZ,↓wb,↓yQ,↓XP,qh,XW1,qa,qb]
 rintro b3 h3 b6 ⟨n36,h6⟩
 rw [Jf]
 refine Gz.take2 h3 h6 hr1 hr2 hne fun Hr hHe hHr=>?_
 rw [<-hHe] at h
 simp+contextual only [↓wb,↓yQ,↓XP,qo]
 refine jN (i:=0) (by omega) ?_
 have a0:=qG (l:=m) (i:=0) (most:=(offices:Int)) (by omega)
 simp+contextual only [↓YZ,↓wb,↓yQ,↓XP,qh,XW1,qb,qe]
 intro _ b8 hh
 obtain ⟨n68,n38,h8⟩:=hh
 rw [Jf]
 refine Gz.then (Gz.take (j:=3) rfl (fun h=>(h rfl).elim) (Gz.weak jf ?_))
 rw [QG]
 simp+contextual only [qg,n36,n38,D.wk,jC,↓wb,↓yQ,↓XP,qh,XW1]
 refine fun _=>⟨A0 (by omega),fun b9 hh=>?_⟩
 obtain ⟨n89,n69,n39,h9⟩:=hh
 rw [aq]
 have hrn:=ke (x:=x) (o:=qC m 0 offices) (m:=m) offices
 have hri:=wn hx (o:=qC m 0 offices) (m:=m) offices
 refine iA (x:=x) (offices:=offices) (n:=x.l.length) ⟨n39,n38,n36,n89,n69,n68⟩ hof' (by omega) rfl hx.np hx.pk (fun p hp=>by have:=hx.sq p hp;omega) (jl h8) ⟨rfl,rfl,rfl,rfl,rfl,rfl,rfl,rfl,rfl,trivial⟩ (fun F' hF' s hs=>?_) (qA x (qC m 0 offices) m 0) rfl
 have hnx:next x offices m=⟨x.l++ [jk x s.seen {s.p with day:=s.p.day+qC m 4 4} m (1+jM m 5 2)],x.past++ [s.seen]⟩:=by rw [hs];rfl
 rw [hnx] at h
 have hp14:=YB hx hof' (m:=m)
 rw [<-hs] at hrn hri hp14
 obtain ⟨z,rfl⟩:=hF'.fl rfl
 try dsimp only [fl,zz,qa,qb] at*
 clear hF' hnx hs
 obtain ⟨g1,g2,g3,g4⟩:=hrn
 obtain ⟨i1,i2,i3,i4,i5⟩:=hri
 have hdn:s.p.dn= [.i s.p.o,.i s.p.s,.i s.p.day,.own (qt s.p.needs),.slc [],.str []]:=rfl
 have a4:=qG (l:=m) (i:=4) (most:=4) (by omega)
 have wd:IntKind.i64.wrap (s.p.day+qC m 4 4)=s.p.day+qC m 4 4:=qm (by omega) (by omega)
 simp+contextual only [qg,n89,hdn,↓YZ,↓wb,↓yQ,↓XP,qh,XW1]
 refine fun _=>⟨_,fun _ _=>jN (i:=4) (by omega) ⟨rfl,rfl⟩,?_⟩
 simp+contextual only [qg,qk,n89,wd,↓wb,↓yQ,↓XP,qh,XW1,qb]
 refine fun _=>⟨by omega,?_⟩
 rw [Jf]
 refine Gz.then (Gz.of_fz (Fz.freeze (s:=9) (b:=b9) (n:=x.l.length) (sz:=1) (xs:=jG s.seen) (rest:= []) rfl jf ZH (by rw [vj,g4]) mL (by omega) (fun y hy d hd=>by
  obtain ⟨t,_,rfl⟩:=List.mem_map.1 hy
  rw [List.mem_singleton.1 hd]
  rfl)) ?_)
 rw [vW]
 refine Gz.view1 (bx:=b8) jf ?_
 obtain ⟨p,hpp⟩:∃p:Pt,p={s.p with day:=s.p.day+qC m 4 4}:=⟨_,rfl⟩
 have hpo:p.ops= []:=by rw [hpp];exact g2
 have hd0:p.d= [.i s.p.o,.i s.p.s,.i (s.p.day+qC m 4 4),.slc (qt s.p.needs),.slc [],.str []]:=by
  rw [hpp]
  simp only [Pt.d,g2,g3]
  rfl
 rw [<-hpp] at h hp14
 simp+contextual only [↓wb,↓yQ,↓XP,qo]
 rw [<-hd0]
 refine ig (x:=x) (seen:=s.seen) (p:=p) hx hb g4 hpo (VOk.base hx i1 hpo) n38 n36 n68 ⟨rfl,rfl,rfl,rfl,rfl,rfl,rfl,trivial⟩ (fun F' hF' i hi=>?_) 0 rfl
 rw [hi]
 clear hi i hd0
 obtain ⟨more,e1,-⟩:=hp14
 generalize jk x s.seen p m (1+jM m 5 2)=q at h e1 ⊢
 obtain ⟨z,rfl⟩:=hF'.fl rfl
 try dsimp only [fl,zz,qa,qb] at*
 clear hF'
 have hd:q.d= [.i q.o,.i q.s,.i q.day,.slc (qt q.needs),.slc (qu q.ops),.str q.sl]:=rfl
 simp+contextual only [qg,qk,n36,n38,hd,UQ,jC,↓YZ,↓wb,↓yQ,↓XP,qh,XW1,qb,qc,qe]
 have hnp:=hx.np
 refine ⟨mY,by omega,tq,by omega,?_⟩
 rw [<-hd,show [q.d]=je [q] from rfl,Gi,show [[D.slc (jG s.seen)]]=jc [s.seen] from rfl,show jc x.past++jc [s.seen]=jc (x.past++ [s.seen]) by simp [jc]]
 rw [Jf]
 have hx1:je (x.l++ [q])≠ []:=by simp [je]
 have hx2:jc (x.past++ [s.seen])≠ []:=by simp [jc]
 try dsimp only at h
 generalize hX:je (x.l++ [q])=X at h hx1 ⊢
 generalize hY:jc (x.past++ [s.seen])=Y at h hx2 ⊢
 refine Gz.then (Gz.give (bx:=b3) (j:=0) (xs:=X) hx1 (by rw [qg n38,qg n36,jf]) rfl (fun bl' cl' f1=>?_))
 simp only [mN] at f1
 obtain ⟨t8,t6,t3,tr⟩:=f1
 rw [qk n38,qk n36,wG]
 refine Gz.give (bx:=b3) (j:=1) (xs:=Y) hx2 (by rw [qg t3,qg n38,qg n36,jf]) rfl (fun bp' cp' f2=>?_)
 simp only [mN] at f2
 obtain ⟨ul,u8,u6,u3,ur⟩:=f2
 rw [qk t3,qk n38,qk n36,wG]
 simp+contextual only [qg,qk,zt,Qy,n36,n68,n38,t6,t3,u6,u3,↓wb,↓yQ,↓XP,qh,XW1,qb]
 exact ⟨_,Sbn.sub (List.Sublist.cons_cons _ (List.Sublist.cons_cons _ (List.Sublist.cons _ (List.Sublist.cons _ (List.Sublist.cons _ (List.Sublist.refl _)))))),h bl' cl' bp' cp' ul tr ur⟩
theorem uJ:∀i,-1<=ji l out i∧ji l out i<i
 |0=>⟨by simp [ji],by simp [ji]⟩
 | i+1=>by
  have:=uJ (l:=l) (out:=out) i
  unfold ji
  split
  ·omega
  ·omega
theorem Yv:∀n,(qX l n).1.length<=n
 |0=>by simp [qX]
 | n+1=>by
  have:=Yv (l:=l) n
  simp only [qX]
  split
  ·split
   ·simp only [];omega
   ·simp only [Mh,Mi,Mj];omega
  ·omega
theorem Ky (h:(qX l n).2=false):∀k,qX l (n+k)=qX l n
 |0=>rfl
 | k+1=>by
  have ih:=Ky h k
  show qX l (n+k+1)=_
  simp only [qX,ih,h,Bool.false_eq_true,if_false]
theorem bd {R:D->AH->Prop} (hb:l.length<=100) (hl:∀p∈l,0<=p.s∧p.s<=1000000∧p.needs.length<=1000000) (h:R (.own (je (ordered l))) H):ACall Tryz.prog 60 [.slc (je l)] H R:=by
 refine b60 fun hf=>?_
 have hbig:=qj
 simp+contextual only [↓cb,↓cb,↓XP,qo,qa]
 refine XW.loopK hm (fun F H'=>∃(n:Nat) (out:List Pt),n<=l.length∧qX l n=(out,true)∧Fr 82 [(0,.slc (je l)),(3,.own (je out)),(4,.i n)] F∧H=H') (fun F H=>match F.getD 4 .any with| .int _ n'=>l.length - n'.toNat|_=>0) ⟨0,[],by omega,rfl,⟨rfl,rfl,rfl,rfl,trivial⟩,rfl⟩ ?_
 rintro _ _ ⟨n,out,hn,ho,hF,rfl⟩ K hN hE hR
 obtain ⟨z,rfl⟩:=hF.fl rfl
 try dsimp only [fl,zz,qa,qb] at*
 clear hF
 have hol:=Yv (l:=l) n
 rw [ho] at hol
 simp only at hol
 by_cases hlt:n<l.length
 ·have hsn:qX l (n+1)=(if ji l out l.length<0 then (out,false) else (out++ [l.getD (ji l out l.length).toNat default],true)):=by
   simp only [qX,ho,if_true]
  simp+contextual only [jC,↓cb,↓XP,qh]
  refine fun _=>⟨fun _=>?_,fun hge=>absurd (by omega) hge⟩
  refine XW.loopK hm (fun F H'=>∃(i:Nat),i<=l.length∧Fr 82 [(0,.slc (je l)),(3,.own (je out)),(4,.i n),(5,.i (ji l out i)),(6,.i i)] F∧H=H') (fun F H=>match F.getD 6 .any with| .int _ n'=>l.length - n'.toNat|_=>0) ⟨0,by omega,⟨rfl,rfl,rfl,rfl,rfl,rfl,trivial⟩,rfl⟩ ?_
  rintro _ _ ⟨i,hi,hF,rfl⟩ K2 hN2 hE2 hR2
  obtain ⟨z2,rfl⟩:∃z2:Nat->D,_=(let z:=z2; [.slc (je l),z 1,z 2,.own (je out),.i n,.i (ji l out i),.i i,z 7,z 8,z 9,z 10,z 11,z 12,z 13,z 14,z 15,z 16,z 17,z 18,z 19,z 20,z 21,z 22,z 23,z 24,z 25,z 26,z 27,z 28,z 29,z 30,z 31,z 32,z 33,z 34,z 35,z 36,z 37,z 38,z 39,z 40,z 41,z 42,z 43,z 44,z 45,z 46,z 47,z 48,z 49,z 50,z 51,z 52,z 53,z 54,z 55,z 56,z 57,z 58,z 59,z 60,z 61,z 62,z 63,z 64,z 65,z 66,z 67,z 68,z 69,z 70,z 71,z 72,z 73,z 74,z 75,z 76,z 77,z 78,z 79,z 80,z 81]):=hF.lit
  clear hF
  by_cases hli:i<l.length
  ·have nx:∀F' b c,Fr 82 [(0,.slc (je l)),(3,.own (je out)),(4,.i n),(5,.i (ji l out (i+1))),(6,.i ((i+1:Nat):Int))] F'->K2 .normal F' ((b,c)::H):=fun F' b c hF'=>hN2 _ _ ⟨i+1,hli,hF',(kV rfl).symm⟩ (by
    rw [Ma,hF'.2.2.2.2.2.1]
    simp only [Mc,Md,Mf]
    omega)
   clear hN2 hE2 hR2 hN hE hR h
   obtain ⟨r1,r2⟩:=uJ (l:=l) (out:=out) i
   have hstep:ji l out (i+1)=if better l out i (ji l out i)=true then (i:Int) else ji l out i:=rfl
   rw [hstep] at nx
   have hbt:better l out i (ji l out i)=(ready out (l.getD i default)&& !known out (l.getD i default).o (l.getD i default).s&&(decide (ji l out i<0)||decide ((l.getD i default).o<(l.getD (ji l out i).toNat default).o)||(decide ((l.getD i default).o=(l.getD (ji l out i).toNat default).o)&&decide ((l.getD i default).s<(l.getD (ji l out i).toNat default).s)))):=rfl
   rw [hbt] at nx
   clear hbt hstep
   generalize ji l out i=bb at r1 r2 nx
   have q1:=vR hli
   have q2:0<=bb->(je l).getD bb.toNat []=(l.getD bb.toNat default).d:=fun h=>vR (by omega)
   obtain ⟨e1,e2,e3⟩:=hl (l.getD i default) (by rw [jx hli];exact List.getElem_mem hli)
   generalize l.getD i default=e at q1 nx e1 e2 e3
   generalize l.getD bb.toNat default=lb at q2 nx
   have hd:e.d= [.i e.o,.i e.s,.i e.day,.slc (qt e.needs),.slc (qu e.ops),.str e.sl]:=rfl
   have hdl:lb.d= [.i lb.o,.i lb.s,.i lb.day,.slc (qt lb.needs),.slc (qu lb.ops),.str lb.sl]:=rfl
   simp+contextual only [jC,q1,hd,↓cb,↓XP,qh,qb]
   refine fun _=>⟨fun _ b1 h1=>?_,fun hge=>absurd (by omega) hge⟩
   refine ⟨_,fun _ _=>iI (p:=e) e1 e2 e3 ⟨rfl,rfl⟩,?_⟩
   rcases hr:ready out e with _|_
   ·simp+contextual only [qi (show i<=big by omega),↓cb,↓XP,qo,XW1]
    refine nx _ _ _ ?_
    simp only [hr,Bool.false_and,Bool.false_eq_true,if_false]
    exact ⟨rfl,rfl,rfl,rfl,rfl,rfl,trivial⟩
   simp+contextual only [↓XP,qh,XW1]
   refine fun _ _=>⟨_,fun _ _=>V1 ⟨rfl,rfl⟩,?_⟩
   rcases hk:known out e.o e.s with _|_
   rotate_left
   ·simp+contextual only [qi (show i<=big by omega),↓cb,↓XP,qo,XW1]
    refine nx _ _ _ ?_
    simp only [hr,hk,Bool.not_true,Bool.and_false,Bool.false_and,Bool.false_eq_true,if_false]
    exact ⟨rfl,rfl,rfl,rfl,rfl,rfl,trivial⟩
   simp only [hr,hk,Bool.not_false,Bool.and_true,Bool.true_and] at nx
   by_cases hb0:bb<0
   ·simp only [hb0,decide_true,Bool.true_or,if_true] at nx
    simp+contextual only [hb0,qi (show i<=big by omega),↓cb,↓XP,qo,XW1]
    exact nx _ _ _ ⟨rfl,rfl,rfl,rfl,rfl,rfl,trivial⟩
   ·have q3:=q2 (by omega)
    simp only [hb0,decide_false,Bool.false_or] at nx
    simp+contextual only [jC,q3,hdl,hb0,qi (show i<=big by omega),↓cb,↓XP,qh,XW1,qb,qe]
    refine fun _=>⟨by omega,by omega,fun _=>⟨fun c1=>?_,fun c1=>⟨by omega,by omega,fun c2 _=>⟨by omega,by omega,fun _=>⟨fun c3=>?_,fun c3=>?_⟩⟩,fun c2=>?_⟩⟩⟩
    ·rw [if_pos (by simp [c1])] at nx
     exact nx _ _ _ ⟨rfl,rfl,rfl,rfl,rfl,rfl,trivial⟩
    ·rw [if_pos (by simp [c2,c3])] at nx
     exact nx _ _ _ ⟨rfl,rfl,rfl,rfl,rfl,rfl,trivial⟩
    ·rw [if_neg (by simp [c1,c3])] at nx
     exact nx _ _ _ ⟨rfl,rfl,rfl,rfl,rfl,rfl,trivial⟩
    ·rw [if_neg (by simp [c1,c2])] at nx
     exact nx _ _ _ ⟨rfl,rfl,rfl,rfl,rfl,rfl,trivial⟩
  ·have hik:i=l.length:=by omega
   subst hik
   clear hN2
   simp+contextual only [jC,↓cb,↓XP,qh]
   refine fun _=>hE2 _ _ _ ?_
   clear hE2 hR2
   obtain ⟨r1,r2⟩:=uJ (l:=l) (out:=out) l.length
   rw [show n+1=n+1 from rfl] at hsn
   by_cases hb0:ji l out l.length<0
   ·rw [if_pos hb0] at hsn
    have hor:ordered l=out:=by
     unfold ordered
     have:=Ky (l:=l) (n:=n+1) (by rw [hsn]) (l.length - (n+1))
     rw [show n+1+(l.length - (n+1))=l.length by omega,hsn] at this
     rw [this]
    rw [hor] at h
    clear hN hE
    generalize ji l out l.length=bb at r1 r2 hb0 ⊢
    simp+contextual only [hb0,↓cb,↓XP,qo,XW1,qf]
    refine hR _ _ ?_
    simp+contextual only [↓XP,qo]
    exact h
   ·rw [if_neg hb0] at hsn
    have nx:∀F',Fr 82 [(0,.slc (je l)),(3,.own (je (out++ [l.getD (ji l out l.length).toNat default]))),(4,.i ((n+1:Nat):Int))] F'->K .normal F' H:=fun F' hF'=>hN _ _ ⟨n+1,_,hlt,hsn,hF',(qz rfl).symm⟩ (by
     rw [Ma,hF'.2.2.2.1]
     simp only [Mc,Md,Mf]
     omega)
    clear hN hE hR h
    have q2:(je l).getD (ji l out l.length).toNat []=(l.getD (ji l out l.length).toNat default).d:=vR (by omega)
    generalize ji l out l.length=bb at r1 r2 hb0 q2 nx ⊢
    generalize l.getD bb.toNat default=e at q2 nx
    have hd:e.d= [.i e.o,.i e.s,.i e.day,.slc (qt e.needs),.slc (qu e.ops),.str e.sl]:=rfl
    simp+contextual only [jC,hb0,q2,hd,qi (show n<=big by omega),↓cb,↓XP,qh,XW1,qb,qc,qe,qf]
    refine ⟨by omega,by omega,mY,by omega,?_⟩
    rw [<-Gi,show je [e]= [e.d] from rfl,hd] at nx
    exact nx _ ⟨rfl,rfl,rfl,rfl,trivial⟩
 ·have hik:n=l.length:=by omega
  subst hik
  clear hN
  simp+contextual only [jC,↓cb,↓XP,qh]
  refine fun _=>hE _ _ _ ?_
  rw [show ordered l=out by unfold ordered;rw [ho]] at h
  simp+contextual only [↓XP,qo,XW1]
  exact h
theorem Sbn.perm (h:H'.Perm H):Sbn H' H:=fun hn=>⟨(h.map _).nodup_iff.2 hn,fun p hp=>h.subset hp⟩
theorem oq (ho:offices<=10):∀i,GInv (j7 l offices i)∧(j7 l offices i).l.length=i
 |0=>⟨GInv.nil,rfl⟩
 | i+1=>by
  obtain ⟨h1,h2⟩:=oq (l:=l) ho i
  exact ⟨h1.next ho _,by simp [j7,next,h2]⟩
def Rooms (b4:Nat) (x:Gs) (bl cl bp cp:Nat) (Hm H:AH):Prop:=
 (x.l= []∧x.past= []∧Hm= [])∨(x.l≠ []∧x.past≠ []∧bl≠bp∧bl≠b4∧bp≠b4∧Hm= [(bp,.room cp (jc x.past)),(bl,.room cl (je x.l))])
theorem pts_nil:je l= []↔l= []:=by simp [je]
theorem past_nil:jc l= []↔l= []:=by simp [jc]
theorem d8 {R:D->AH->Prop} (h:facts args->xcode Tryz.prog x25 (args++List.replicate (28 - args.length) (.tup [])) H (VT Tryz.prog [.tmp 2] R)):ACall Tryz.prog 25 args H R:=
 yN hm Tryz.func25 rfl (by kernel_rfl) (by kernel_rfl) (by kernel_rfl) (by kernel_rfl) (by kernel_rfl) (by kernel_rfl) h
theorem aT {R:D->AH->Prop} (h:R (.own (je (patches l))) H):ACall Tryz.prog 25 [.slc (ints l)] H R:=by
 refine d8 fun hf=>?_
 have hbig:=qj
 have a0:=qG (l:=l) (i:=0) (most:=8) (by omega)
 have a1:=qG (l:=l) (i:=1) (most:=2) (by omega)
 simp+contextual only [x25,↓xh,↓KS,↓XP,qo,qa]
 refine jN (i:=1) (by omega) ?_
 obtain ⟨o,ho⟩:∃o:Nat,2+jM l 1 2=o:=⟨_,rfl⟩
 obtain ⟨n,hn⟩:∃n:Nat,2+jM l 0 8=n:=⟨_,rfl⟩
 have w1:IntKind.i64.wrap (2+qC l 1 2)=(o:Int):=by rw [qm (by omega) (by omega)];unfold jM at ho;omega
 have w0:IntKind.i64.wrap (2+qC l 0 8)=(n:Int):=by rw [qm (by omega) (by omega)];unfold jM at hn;omega
 have ho':o<=10∧1<=o:=by unfold jM at ho;omega
 have hn':n<=9:=by unfold jM at hn;omega
 have hpt:patches l=ordered (j7 l o n).l:=by unfold patches;rw [ho,hn]
 rw [hpt] at h
 simp+contextual only [w1,↓xh,↓KS,↓XP,qh,qb]
 intro _ b4 h4
 refine XW.loopKR hm (fun F H'=>∃(i:Nat) (x:Gs) (bl cl bp cp:Nat) (Hm:AH),i<=n∧x=j7 l o i∧Rooms b4 x bl cl bp cp Hm H∧Fr 28 [(0,.slc (ints l)),(3,.i o),(4,.ptr b4 0),(5,.i (i:Int))] F∧((b4,AO.cells [.osl bl cl (je x.l),.osl bp cp (jc x.past)])::(Hm++H))=H') (fun F H=>match F.getD 5 .any with| .int _ n'=>n - n'.toNat|_=>0) ⟨0,⟨[],[]⟩,0,0,0,0,[],by omega,rfl,.inl ⟨rfl,rfl,rfl⟩,⟨rfl,rfl,rfl,rfl,rfl,trivial⟩,rfl⟩ ?_
 rintro _ _ ⟨i,x,bl,cl,bp,cp,Hm,hi,hx,hr,hF,rfl⟩ K hN hE hR
 obtain ⟨z,rfl⟩:=hF.fl rfl
 try dsimp only [fl,zz,qa,qb] at*
 clear hF hR
 obtain ⟨gi,gl⟩:=oq (l:=l) (offices:=o) ho'.1 i
 rw [<-hx] at gi gl
 by_cases hlt:i<n
 ·have w2:IntKind.i64.wrap (32*(i:Int))=32*(i:Int):=qm (by omega) (by omega)
  have w3:IntKind.i64.wrap (2+32*(i:Int))=((2+32*i:Nat):Int):=by rw [qm (by omega) (by omega)];omega
  simp+contextual only [↓xh,↓KS,↓XP,qo]
  refine jN (i:=0) (by omega) ?_
  simp+contextual only [w0,w2,w3,↓xh,↓KS,↓XP,qh,qb]
  refine fun _=>⟨fun _=>⟨_,fun _ _=>ko ⟨rfl,rfl⟩,?_⟩,fun hge=>absurd (by omega) hge⟩
  simp+contextual only [↓KS,↓XP,qo]
  have hr1:je x.l≠ []->qn ((b4,AO.cells [.osl bl cl (je x.l),.osl bp cp (jc x.past)])::(Hm++H)) bl=some (.room cl (je x.l)):=fun hne=>by
   rcases hr with ⟨e,_⟩|⟨_,_,e1,e2,e3,rfl⟩
   ·exact (hne (pts_nil.2 e)).elim
   ·show qn ((b4,_)::(bp,_)::(bl,_)::H) bl=_
    rw [qg e2,qg e1,jf]
  have hr2:jc x.past≠ []->qn ((b4,AO.cells [.osl bl cl (je x.l),.osl bp cp (jc x.past)])::(Hm++H)) bp=some (.room cp (jc x.past)):=fun hne=>by
   rcases hr with ⟨_,e,_⟩|⟨_,_,e1,e2,e3,rfl⟩
   ·exact (hne (past_nil.2 e)).elim
   ·show qn ((b4,_)::(bp,_)::(bl,_)::H) bp=_
    rw [qg e3,jf]
  have hdr:jB (jB ((b4,AO.cells [.osl bl cl (je x.l),.osl bp cp (jc x.past)])::(Hm++H)) bl (je x.l)) bp (jc x.past)=(b4,AO.cells [.osl bl cl (je x.l),.osl bp cp (jc x.past)])::H:=by
   rcases hr with ⟨e,e',rfl⟩|⟨e0,e0',e1,e2,e3,rfl⟩
   ·rw [pts_nil.2 e,past_nil.2 e',QG,QG];rfl
   ·show jB (jB ((b4,_)::(bp,_)::(bl,_)::H) bl (je x.l)) bp (jc x.past)=_
    unfold jB
    rw [if_neg (fun e=>e0 (pts_nil.1 e)),if_neg (fun e=>e0' (past_nil.1 e)),u5 e2,u5 e1,vW,u5 e3,vW]
  refine fun _=>pD gi (by omega) ho'.2 ho'.1 hr1 hr2 (fun bl' cl' bp' cp' t1 t2 t3=>?_)
  rw [hdr] at t2 t3 ⊢
  simp only [mN] at t2 t3
  obtain ⟨u1,t2⟩:=t2
  obtain ⟨u2,t3⟩:=t3
  have hx2:next x o (l.drop (2+32*i))=j7 l o (i+1):=by rw [hx];rfl
  rw [hx2]
  obtain ⟨gi2,gl2⟩:=oq (l:=l) (offices:=o) ho'.1 (i+1)
  have hne1:(j7 l o (i+1)).l≠ []:=fun e=>by rw [e] at gl2;simp at gl2
  have hne2:(j7 l o (i+1)).past≠ []:=fun e=>by have:=gi2.np;rw [e,gl2] at this;simp at this
  simp+contextual only [qg,qk,u1,u2,qi (show i<=big by omega),↓xh,↓KS,↓XP,qh,XW1,qb]
  refine hN _ _ ((b4,AO.cells [.osl bl' cl' (je (j7 l o (i+1)).l),.osl bp' cp' (jc (j7 l o (i+1)).past)])::([(bp',AO.room cp' (jc (j7 l o (i+1)).past)),(bl',AO.room cl' (je (j7 l o (i+1)).l))]++H)) ?_ ⟨i+1,_,bl',cl',bp',cp',_,hlt,rfl,.inr ⟨hne1,hne2,t1,Ne.symm u1,Ne.symm u2,rfl⟩,⟨rfl,rfl,rfl,rfl,rfl,trivial⟩,rfl⟩ ?_
  ·exact Sbn.perm ((List.Perm.swap _ _ _).trans ((List.Perm.swap _ _ _).cons _))
  ·simp only [Mc,Md]
   omega
 ·have hik:i=n:=by omega
  subst hik
  clear hN
  simp+contextual only [↓xh,↓KS,↓XP,qo]
  refine jN (i:=0) (by omega) ?_
  simp+contextual only [w0,↓KS,↓XP,qo]
  refine fun _=>hE _ _ _ ?_
  simp+contextual only [↓xh,↓KS,↓XP,qo,XW1]
  rw [Jf]
  refine Gz.weak jf ?_
  simp+contextual only [D.wk,↓KS,↓XP,qh]
  rw [<-hx] at h
  refine fun _=>bd (by omega) (fun p hp=>?_) ?_
  ·have h1:=gi.sq p hp
   have h2:=gi.ne p hp
   omega
  ·simp+contextual only [zt,Qy,↓KS,↓XP,qo]
   exact fun _=>⟨H,Sbn.sub ((List.sublist_append_right _ _).cons _),h⟩
theorem lL {s:List UInt8} {n:Nat} {H:AH} {R:D->AH->Prop} (hn:n<=1000000) (h:R (.str (s.take n)) H):ACall Tryz.prog 9 [.str s,.i (n:Int)] H R:=by
 refine b9 fun hf=>?_
 have hbig:=qj
 rcases Classical.em (n<s.length) with c|c
 ·simp+contextual only [↓U9,show ((n:Int)<(s.length:Int))=True from eq_true (by omega),↓U9,↓XP,qh,qa,qb]
  exact fun _=>⟨by omega,h⟩
 ·rw [List.take_of_length_le (by omega)] at h
  simp+contextual only [↓U9,show ((n:Int)<(s.length:Int))=False from eq_false (by omega),↓U9,↓XP,qh,qa,qb]
  exact fun _=>h
theorem pk4 {l:List Int} {B:Int} {r:Nat} (h:(∀x∈l,x<=B)∧0<=B):l.getD r 0<=B:=by
 rcases Nat.lt_or_ge r l.length with c|c
 ·have e:l.getD r 0=l[r]:=by simp [c]
  rw [e];exact h.1 _ (List.getElem_mem c)
 ·have e:l.getD r 0=0:=by simp [List.getD,List.getElem?_eq_none c]
  rw [e];exact h.2
theorem tZ {n kk:Nat} {p:Pt} {near bb:Int} (hn:n<=900) (hp:Sz n p) (hk:kk<p.ops.length):Sz (n+14) ({p with o:=near}):=by
 have ho:=qQ hk
 have o1:=hp.ids _ ho
 have o2:=hp.name _ ho
 have o3:=hp.text _ ho
 exact hp.same rfl rfl rfl
theorem sG {n kk:Nat} {p:Pt} {near bb:Int} (hn:n<=900) (hp:Sz n p) (hk:kk<p.ops.length):Sz (n+14) ({p with s:=near}):=by
 have ho:=qQ hk
 have o1:=hp.ids _ ho
 have o2:=hp.name _ ho
 have o3:=hp.text _ ho
 exact hp.same rfl rfl rfl
theorem sY {n kk:Nat} {p:Pt} {near bb:Int} (hn:n<=900) (hp:Sz n p) (hk:kk<p.ops.length):Sz (n+14) ({p with day:=([0,1,1048576,1048577,bb]:List Int).getD (around bb 5).toNat 0}):=by
 have ho:=qQ hk
 have o1:=hp.ids _ ho
 have o2:=hp.name _ ho
 have o3:=hp.text _ ho
 exact hp.same rfl rfl rfl
theorem rm {n kk:Nat} {p:Pt} {near bb:Int} (hn:n<=900) (hp:Sz n p) (hk:kk<p.ops.length):Sz (n+14) ({p with needs:=p.needs++ [⟨IntKind.i64.wrap (around bb 10 - 1),IntKind.i64.wrap (around (IntKind.i64.wrap (bb.tdiv 10)) 19 - 1)⟩]}):=by
 have ho:=qQ hk
 have o1:=hp.ids _ ho
 have o2:=hp.name _ ho
 have o3:=hp.text _ ho
 exact ⟨by have:=hp.ops;simp only;omega,by have:=hp.needs;simp only [Mh,Mm];omega,fun o ho=>by have:=hp.ids o ho;omega,hp.name,hp.text,hp.sl⟩
theorem rV {n kk:Nat} {p:Pt} {near bb:Int} (hn:n<=900) (hp:Sz n p) (hk:kk<p.ops.length):Sz (n+14) ({p with ops:= []}):=by
 have ho:=qQ hk
 have o1:=hp.ids _ ho
 have o2:=hp.name _ ho
 have o3:=hp.text _ ho
 exact ⟨Nat.zero_le _,by have:=hp.needs;simp only;omega,(by simp),(by simp),(by simp),hp.sl⟩
theorem xm {n kk:Nat} {p:Pt} {near bb:Int} (hn:n<=900) (hp:Sz n p) (hk:kk<p.ops.length):Sz (n+14) ({p with ops:=p.ops++List.replicate 14 (p.ops.getD kk default)}):=by
 have ho:=qQ hk
 have o1:=hp.ids _ ho
 have o2:=hp.name _ ho
 have o3:=hp.text _ ho
 exact hp.more (m:=14) (by simp) (fun o h=>by rw [(List.mem_replicate.1 h).2];exact o1) (fun o h=>by rw [(List.mem_replicate.1 h).2];exact o2) (fun o h=>by rw [(List.mem_replicate.1 h).2];exact o3)
theorem rz {n kk:Nat} {p:Pt} {near bb:Int} (hn:n<=900) (hp:Sz n p) (hk:kk<p.ops.length):Sz (n+14) ({p with ops:=p.ops.set kk {(p.ops.getD kk default) with k:=near}}):=by
 have ho:=qQ hk
 have o1:=hp.ids _ ho
 have o2:=hp.name _ ho
 have o3:=hp.text _ ho
 exact (hp.setOp (by simp only;omega) (by simp only;omega) (by simp only;omega))
theorem pp {n kk:Nat} {p:Pt} {near bb:Int} (hn:n<=900) (hp:Sz n p) (hk:kk<p.ops.length):Sz (n+14) ({p with ops:=p.ops.set kk {(p.ops.getD kk default) with on:=⟨near,around bb 19,IntKind.i64.wrap (around (IntKind.i64.wrap (bb.tdiv 5)) 18 - 1)⟩}}):=by
 have ho:=qQ hk
 have o1:=hp.ids _ ho
 have o2:=hp.name _ ho
 have o3:=hp.text _ ho
 exact (hp.setOp (by simp only;omega) (by simp only;omega) (by simp only;omega))
theorem tB {n kk:Nat} {p:Pt} {near bb:Int} (hn:n<=900) (hp:Sz n p) (hk:kk<p.ops.length):Sz (n+14) ({p with ops:=p.ops.set kk {(p.ops.getD kk default) with to:=⟨around bb 9,near,IntKind.i64.wrap (around (IntKind.i64.wrap (bb.tdiv 5)) 18 - 1)⟩}}):=by
 have ho:=qQ hk
 have o1:=hp.ids _ ho
 have o2:=hp.name _ ho
 have o3:=hp.text _ ho
 exact (hp.setOp (by simp only;omega) (by simp only;omega) (by simp only;omega))
theorem sI {n kk:Nat} {p:Pt} {near bb:Int} (hn:n<=900) (hp:Sz n p) (hk:kk<p.ops.length):Sz (n+14) ({p with ops:=p.ops.set kk {(p.ops.getD kk default) with to:=(p.ops.getD kk default).on}}):=by
 have ho:=qQ hk
 have o1:=hp.ids _ ho
 have o2:=hp.name _ ho
 have o3:=hp.text _ ho
 exact (hp.setOp (by simp only;omega) (by simp only;omega) (by simp only;omega))
theorem lj {n kk:Nat} {p:Pt} {near bb:Int} (hn:n<=900) (hp:Sz n p) (hk:kk<p.ops.length):Sz (n+14) ({p with ops:=p.ops.set kk {(p.ops.getD kk default) with n:=([-2,-1,0,1,2,1023,1024,1048576,1048577,bb]:List Int).getD (around bb 10).toNat 0}}):=by
 have ho:=qQ hk
 have o1:=hp.ids _ ho
 have o2:=hp.name _ ho
 have o3:=hp.text _ ho
 exact (hp.setOp (by simp only;omega) (by simp only;omega) (by simp only;omega))
theorem mK {n kk:Nat} {p:Pt} {near bb:Int} (hn:n<=900) (hp:Sz n p) (hk:kk<p.ops.length):Sz (n+14) ({p with ops:=p.ops.set kk {(p.ops.getD kk default) with name:=List.take (around bb 18).toNat [115,105,120,116,101,101,110,32,108,101,116,116,101,114,115,33,33]}}):=by
 have ho:=qQ hk
 have o1:=hp.ids _ ho
 have o2:=hp.name _ ho
 have o3:=hp.text _ ho
 exact (hp.setOp (by simp only;omega) (by simp only [Mw,Mi,Mj];omega) (by simp only;omega))
theorem lA {n kk:Nat} {p:Pt} {near bb:Int} (hn:n<=900) (hp:Sz n p) (hk:kk<p.ops.length):Sz (n+14) ({p with ops:=p.ops.set kk {(p.ops.getD kk default) with text:=List.map unbyte (List.replicate (([0,1,1024,1025]:List Int).getD (around bb 4).toNat 0).toNat [D.int .u8 0])}}):=by
 have ho:=qQ hk
 have o1:=hp.ids _ ho
 have o2:=hp.name _ ho
 have o3:=hp.text _ ho
 exact hp.setOp (by simp only;omega) (by simp only;omega) (by have:=pk4 (l:= [0,1,1024,1025]) (B:=1201) (r:=(around bb 4).toNat) (by simp);simp only [Ml,M6];omega)
theorem ms {n kk:Nat} {p:Pt} {near bb:Int} (hn:n<=900) (hp:Sz n p) (hk:kk<p.ops.length):Sz (n+14) ({p with ops:=p.ops.set kk {(p.ops.getD kk default) with a:=around bb 3,b:=around bb 5}}):=by
 have ho:=qQ hk
 have o1:=hp.ids _ ho
 have o2:=hp.name _ ho
 have o3:=hp.text _ ho
 exact (hp.setOp (by simp only;omega) (by simp only;omega) (by simp only;omega))
theorem iX {n kk:Nat} {p:Pt} {near bb:Int} (hn:n<=900) (hp:Sz n p) (hk:kk<p.ops.length):Sz (n+14) ({p with ops:=p.ops.set kk {(p.ops.getD kk default) with ids:=⟨1,1,near⟩::(p.ops.getD kk default).ids}}):=by
 have ho:=qQ hk
 have o1:=hp.ids _ ho
 have o2:=hp.name _ ho
 have o3:=hp.text _ ho
 exact (hp.setOp (by simp only [Mi];omega) (by simp only;omega) (by simp only;omega))
theorem iw {n kk:Nat} {p:Pt} {near bb:Int} (hn:n<=900) (hp:Sz n p) (hk:kk<p.ops.length):Sz (n+14) ({p with ops:=p.ops.set kk ⟨16,⟨1,1,0⟩,QJ,[⟨1,1,2⟩,⟨1,1,around bb 4⟩],IntKind.i64.wrap (around (IntKind.i64.wrap (bb.tdiv 4)) 5 - 2),[],[],0,0⟩}):=by
 have ho:=qQ hk
 have o1:=hp.ids _ ho
 have o2:=hp.name _ ho
 have o3:=hp.text _ ho
 exact (hp.setOp (by simp only [Mi,Mj];omega) (by simp) (by simp))
theorem lz {n kk:Nat} {p:Pt} {near bb:Int} (hn:n<=900) (hp:Sz n p) (hk:kk<p.ops.length):Sz (n+14) ({p with ops:=p.ops++List.replicate 7 (fT bb)}):=by
 have ho:=qQ hk
 have o1:=hp.ids _ ho
 have o2:=hp.name _ ho
 have o3:=hp.text _ ho
 exact hp.more (m:=14) (by simp) (fun o h=>by rw [(List.mem_replicate.1 h).2];simp [fT,yu]) (fun o h=>by rw [(List.mem_replicate.1 h).2];simp [fT,yu]) (fun o h=>by rw [(List.mem_replicate.1 h).2];obtain ⟨r1,r2⟩:=j3 (n:=bb) (most:=125) (by omega);simp only [fT,Ml,M6];omega)
theorem mA {n kk:Nat} {p:Pt} {near bb:Int} (hn:n<=900) (hp:Sz n p) (hk:kk<p.ops.length):Sz (n+14) ({p with sl:=(List.replicate (([0,1,1200,1201]:List Int).getD (around bb 4).toNat 0).toNat [D.int .u8 0]).map unbyte}):=by
 have ho:=qQ hk
 have o1:=hp.ids _ ho
 have o2:=hp.name _ ho
 have o3:=hp.text _ ho
 exact ⟨by have:=hp.ops;simp only;omega,by have:=hp.needs;simp only;omega,fun o ho=>by have:=hp.ids o ho;omega,hp.name,hp.text,by have:=pk4 (l:= [0,1,1200,1201]) (B:=1201) (r:=(around bb 4).toNat) (by simp);simp only [Ml,M6];omega⟩
theorem i6 {n kk:Nat} {p:Pt} {near bb:Int} (hn:n<=900) (hp:Sz n p) (hk:kk<p.ops.length):Sz (n+14) ({p with needs:=Yg (7+around bb 4).toNat}):=by
 have ho:=qQ hk
 have o1:=hp.ids _ ho
 have o2:=hp.name _ ho
 have o3:=hp.text _ ho
 exact ⟨by have:=hp.ops;simp only;omega,by obtain ⟨r1,r2⟩:=j3 (n:=bb) (most:=4) (by omega);simp only [VW];omega,fun o ho=>by have:=hp.ids o ho;omega,hp.name,hp.text,hp.sl⟩
theorem lP {n kk:Nat} {p:Pt} {near bb:Int} (hn:n<=900) (hp:Sz n p) (hk:kk<p.ops.length):Sz (n+14) ({p with ops:=p.ops.set kk {(p.ops.getD kk default) with k:=IntKind.i64.wrap (1+around bb 18)}}):=by
 have ho:=qQ hk
 have o1:=hp.ids _ ho
 have o2:=hp.name _ ho
 have o3:=hp.text _ ho
 exact (hp.setOp (by simp only;omega) (by simp only;omega) (by simp only;omega))
theorem cU {n:Nat} {p:Pt} (a how bb:Int) (hn:n<=900) (hp:Sz n p) (hne:0<p.ops.length):∃q,Sz (n+14) q∧∀{H:AH} {R:D->AH->Prop},R (.agg q.d) H->ACall Tryz.prog 6 [.agg p.d,.i a,.i how,.i bb] H R:=by
 obtain ⟨r1,r2⟩:=j3 (n:=how) (most:=20) (by omega)
 obtain ⟨k0,k1⟩:=j3 (n:=a) (most:=(p.ops.length:Int)) (by omega)
 obtain ⟨kk,hkk⟩:=Mv k0
 obtain ⟨near,hnr⟩:∃x,around bb 22 - 2=x:=⟨_,rfl⟩
 have hk:kk<p.ops.length:=by omega
 obtain ⟨m,hm⟩:∃m,around how 20=m:=⟨_,rfl⟩
 rw [hm] at r1 r2
 rcases (show m=0∨m=1∨m=2∨m=3∨m=4∨m=5∨m=6∨m=7∨m=8∨m=9∨m=10∨m=11∨m=12∨m=13∨m=14∨m=15∨m=16∨m=17∨m=18∨m=19 by omega) with rfl|rfl|rfl|rfl|rfl|rfl|rfl|rfl|rfl|rfl|rfl|rfl|rfl|rfl|rfl|rfl|rfl|rfl|rfl|rfl
 ·exact ⟨_,tZ (near:=near) (bb:=bb) hn hp hk,fun h=>iM hn hp hne hkk hnr fun b4 b8 F n48 hF=>BL hm hn hp n48 hF h⟩
 ·exact ⟨_,sG (near:=near) (bb:=bb) hn hp hk,fun h=>iM hn hp hne hkk hnr fun b4 b8 F n48 hF=>Bj hm hn hp n48 hF h⟩
 ·exact ⟨_,sY (near:=near) (bb:=bb) hn hp hk,fun h=>iM hn hp hne hkk hnr fun b4 b8 F n48 hF=>AC hm hn hp n48 hF h⟩
 ·exact ⟨_,rm (near:=near) (bb:=bb) hn hp hk,fun h=>iM hn hp hne hkk hnr fun b4 b8 F n48 hF=>Ap hm hn hp n48 hF h⟩
 ·exact ⟨_,rV (near:=near) (bb:=bb) hn hp hk,fun h=>iM hn hp hne hkk hnr fun b4 b8 F n48 hF=>Ba hm hn hp n48 hF h⟩
 ·exact ⟨_,xm (near:=near) (bb:=bb) hn hp hk,fun h=>iM hn hp hne hkk hnr fun b4 b8 F n48 hF=>CO hm hn hp n48 hk hF h⟩
 ·exact ⟨_,rz (near:=near) (bb:=bb) hn hp hk,fun h=>fo hn hp hne hkk hnr fun b b4 b8 m cp F n48 n4b n8b hF=>Cu hm hn hp n48 n4b n8b hk hF h⟩
 ·exact ⟨_,pp (near:=near) (bb:=bb) hn hp hk,fun h=>fo hn hp hne hkk hnr fun b b4 b8 m cp F n48 n4b n8b hF=>At hm hn hp n48 n4b n8b hk hF h⟩
 ·exact ⟨_,tB (near:=near) (bb:=bb) hn hp hk,fun h=>fo hn hp hne hkk hnr fun b b4 b8 m cp F n48 n4b n8b hF=>CA hm hn hp n48 n4b n8b hk hF h⟩
 ·exact ⟨_,sI (near:=near) (bb:=bb) hn hp hk,fun h=>fo hn hp hne hkk hnr fun b b4 b8 m cp F n48 n4b n8b hF=>BH hm hn hp n48 n4b n8b hk hF h⟩
 ·exact ⟨_,lj (near:=near) (bb:=bb) hn hp hk,fun h=>fo hn hp hne hkk hnr fun b b4 b8 m cp F n48 n4b n8b hF=>si hm hn hp n48 n4b n8b hk hF h⟩
 ·exact ⟨_,mK (near:=near) (bb:=bb) hn hp hk,fun h=>fo hn hp hne hkk hnr fun b b4 b8 m cp F n48 n4b n8b hF=>tX hm hn hp n48 n4b n8b hk hF h⟩
 ·exact ⟨_,lA (near:=near) (bb:=bb) hn hp hk,fun h=>fo hn hp hne hkk hnr fun b b4 b8 m cp F n48 n4b n8b hF=>rK hm hn hp n48 n4b n8b hk hF h⟩
 ·exact ⟨_,ms (near:=near) (bb:=bb) hn hp hk,fun h=>fo hn hp hne hkk hnr fun b b4 b8 m cp F n48 n4b n8b hF=>tm hm hn hp n48 n4b n8b hk hF h⟩
 ·exact ⟨_,iX (near:=near) (bb:=bb) hn hp hk,fun h=>fo hn hp hne hkk hnr fun b b4 b8 m cp F n48 n4b n8b hF=>pK hm hn hp n48 n4b n8b hk hF h⟩
 ·exact ⟨_,iw (near:=near) (bb:=bb) hn hp hk,fun h=>fo hn hp hne hkk hnr fun b b4 b8 m cp F n48 n4b n8b hF=>pf hm hn hp n48 n4b n8b hk hF h⟩
 ·exact ⟨_,lz (near:=near) (bb:=bb) hn hp hk,fun h=>iM hn hp hne hkk hnr fun b4 b8 F n48 hF=>rB hm hn hp n48 hk hF h⟩
 ·exact ⟨_,mA (near:=near) (bb:=bb) hn hp hk,fun h=>iM hn hp hne hkk hnr fun b4 b8 F n48 hF=>s8 hm hn hp n48 hF h⟩
 ·exact ⟨_,i6 (near:=near) (bb:=bb) hn hp hk,fun h=>iM hn hp hne hkk hnr fun b4 b8 F n48 hF=>tK hm hn hp n48 hk hF h⟩
 ·exact ⟨_,lP (near:=near) (bb:=bb) hn hp hk,fun h=>fo hn hp hne hkk hnr fun b b4 b8 m cp F n48 n4b n8b hF=>pu hm hn hp n48 n4b n8b hk hF h⟩
theorem my {n:Nat} {p:Pt} {a how bb:Int} {H:AH} {R:D->AH->Prop} (hn:n<=900) (hp:Sz n p) (hne:0<p.ops.length) (h:∀q,Sz (n+14) q->R (.agg q.d) H):ACall Tryz.prog 6 [.agg p.d,.i a,.i how,.i bb] H R:=by
 obtain ⟨q,hq,hc⟩:=cU a how bb hn hp hne
 exact hc (h q hq)
theorem Sz.fit (h:Sz n p) (hn:n<=1000):Fit p:=
 ⟨by have:=h.ops;omega,by have:=h.needs;omega,fun o ho=>by have:=h.ids o ho;omega,fun o ho=>by have:=h.name o ho;omega,fun o ho=>by have:=h.text o ho;omega,by have:=h.sl;omega⟩
structure SOp (o:OpP):Prop where
 n:o.name.length<=60
 t:o.text.length<=60
 i:o.ids.length<=2
def AllS (p:Pt):Prop:=∀o∈p.ops,SOp o
theorem AllS.with' (h:AllS p) (ho:SOp o):AllS (j9 p o):=fun x hx=>by
 rcases List.mem_append.1 hx with hx|hx
 ·exact h x hx
 ·rw [List.mem_singleton.1 hx];exact ho
theorem nm {l:List (List UInt8)} {i:Nat} (h:∀x∈l,x.length<=5):(l.getD i []).length<=60:=Mp (JB h) (by omega)
theorem zu (h:AllS p):AllS (meaning p on m):=by
 have z:=Nat.zero_le
 unfold meaning
 dsimp only
 split
 ·exact (h.with' ⟨z _,z _,z _⟩).with' ⟨z _,vk,z _⟩
 ·exact ((h.with' ⟨z _,z _,z _⟩).with' ⟨z _,vk,z _⟩).with' ⟨z _,z _,z _⟩
theorem cz {x:Gs} {seen:List Bool} {p:Pt} {sense:Id3} {m:List Int} (h:AllS p):AllS (quoted x seen p sense m):=by
 have z:=Nat.zero_le
 unfold quoted
 dsimp only
 split
 ·exact (h.with' ⟨nm (by decide),by simp,z _⟩).with' ⟨z _,vk,z _⟩
 ·exact h.with' ⟨z _,vk,z _⟩
theorem an (h:AllS p):AllS (divided p entry sense m):=by
 have z:=Nat.zero_le
 unfold divided
 dsimp only
 exact (zu (zu h)).with' ⟨z _,z _,Nat.le_refl _⟩
theorem lm {sense other:Id3} {n:Int} {m:List Int}:SOp (small sense other n m):=by
 have z:=Nat.zero_le
 unfold small
 repeat' split
 all_goals first|exact ⟨z _,z _,z _⟩|exact ⟨z _,vk,z _⟩|exact ⟨nm (by decide),vk,z _⟩|exact ⟨nm (by decide),z _,z _⟩
theorem C9 {c:Prop} [Decidable c] (h1:AllS a) (h2:AllS b):AllS (if c then a else b):=by
 by_cases h:c
 ·rw [if_pos h];exact h1
 ·rw [if_neg h];exact h2
theorem pE {x:Gs} {seen:List Bool} {p:Pt} {m:List Int} (h:AllS p):AllS (step x seen p m):=by
 have z:=Nat.zero_le
 have r:∀{a b n m},AllS (yC p a b n m):=h.with' lm
 have h8:∀i:Nat,(heads8.getD i []).length<=60:=fun i=>nm (by decide)
 unfold step
 dsimp only
 repeat' with_reducible apply C9
 all_goals first|exact zu h|exact cz h|exact an h|exact r|exact h.with' ⟨z _,z _,z _⟩|exact zu (h.with' ⟨nm (by decide),h8 _,z _⟩)|exact h.with' ⟨z _,h8 _,z _⟩|exact h.with' ⟨nm (by decide),z _,z _⟩|exact h.with' ⟨z _,z _,show 1<=2 by omega⟩
theorem GM {x:Gs} {seen:List Bool} {p:Pt} {m:List Int} (hp:p.ops= []):∀i:Nat,AllS (jk x seen p m i)
 | 0=>fun o ho=>by
  unfold jk at ho
  rw [hp] at ho
  simp at ho
 |i+1=>pE (GM hp i)
structure QS (q:Pt):Prop where
 S:AllS q
 ne:q.ops≠ []
 nl:q.needs.length<=3
 sl:q.sl= []
theorem QS.next {x:Gs} (hx:GInv x) (hv:∀p∈x.l,QS p) {offices:Nat} (ho':offices<=3) (m:List Int):∀p∈(next x offices m).l,QS p:=by
 unfold Go.Proofs.YtgopigkdcmhbbaaGreatDoor.next
 dsimp only
 generalize qC m 0 (offices:Int)=o
 obtain ⟨h1,_⟩:=wn hx (o:=o) (m:=m) offices
 obtain ⟨g1,g2,g3,g4⟩:=ke (x:=x) (o:=o) (m:=m) offices
 generalize qA x o m offices=s at h1 g1 g2 g3 g4 ⊢
 have hb:VOk x s.seen {s.p with day:=s.p.day+qC m 4 4}:=VOk.base hx h1 g2
 have hT:=GM (x:=x) (seen:=s.seen) (m:=m) (p:={s.p with day:=s.p.day+qC m 4 4}) g2 (1+jM m 5 2)
 obtain ⟨more,e1,e2⟩:=uA (x:=x) (seen:=s.seen) (p:={s.p with day:=s.p.day+qC m 4 4}) (m:=m) g2 hb (1+jM m 5 2)
 have hne:(jk x s.seen {s.p with day:=s.p.day+qC m 4 4} m (1+jM m 5 2)).ops≠ []:=by
  rw [Nat.add_comm]
  exact ld
 have e3:=e1.eq
 generalize jk x s.seen {s.p with day:=s.p.day+qC m 4 4} m (1+jM m 5 2)=p at hT hne e3 ⊢
 intro q hq
 rcases List.mem_append.1 hq with hq|hq
 ·exact hv q hq
 ·rw [List.mem_singleton.1 hq]
  exact ⟨hT,hne,by rw [e3];show s.p.needs.length<=3;omega,by rw [e3];exact g3⟩
theorem AK (l:List Int) (ho':offices<=3):∀i:Nat,GInv (j7 l offices i)∧(∀p∈(j7 l offices i).l,QS p)∧(j7 l offices i).l.length=i
 |0=>⟨GInv.nil,fun p hp=>absurd hp (by simp [j7]),rfl⟩
 | i+1=>by
  obtain ⟨h1,h2,h3⟩:=AK l ho' i
  refine ⟨h1.next (by omega) _,QS.next h1 h2 ho' _,?_⟩
  unfold j7
  rw [Vp,h3]
theorem QS.sz (h:QS p) (hl:p.ops.length<=14):Sz 20 p:=
 ⟨by omega,by have:=h.nl;omega,fun o ho=>by have:=(h.S o ho).i;omega,fun o ho=>by have:=(h.S o ho).n;omega,fun o ho=>by have:=(h.S o ho).t;omega,by rw [h.sl];simp⟩
theorem aE (l:List Int):(∀p∈patches l,Sz 20 p∧0<p.ops.length)∧0<(patches l).length∧(patches l).length<=9:=by
 have a1:jM l 1 2<2:=Zs (l:=l) (i:=1) (n:=2) (by omega)
 have a0:jM l 0 8<8:=Zs (l:=l) (i:=0) (n:=8) (by omega)
 obtain ⟨h1,h2,h3⟩:=AK l (offices:=2+jM l 1 2) (by omega) (2+jM l 0 8)
 obtain ⟨f1,f2⟩:=Vm l (offices:=2+jM l 1 2) (2+jM l 0 8) (by omega)
 unfold patches
 generalize j7 l (2+jM l 1 2) (2+jM l 0 8)=x at h1 h2 h3 f1 f2 ⊢
 refine ⟨fun p hp=>?_,List.length_pos_iff.2 (ZF (by omega) f1 f2),?_⟩
 ·have hm:=J4 _ p hp
  exact ⟨(h2 p hm).sz (h1.op p hm),List.length_pos_iff.2 (h2 p hm).ne⟩
 ·have:∀n:Nat,(qX x.l n).1.length<=n:=by
   intro n
   induction n with
   |zero=>simp [qX]
   | succ n ih=>
    unfold qX
    dsimp only
    split
    ·split
     ·dsimp only;omega
     ·rw [Mh,Mm];omega
    ·omega
  have:=this x.l.length
  unfold ordered
  omega
end Go.Proofs.YtgopigkdcmhbbaaGreatDoor
end
noncomputable section
namespace Go.Proofs.YtgopigkdcmhbbaaGreatDoor
open Go.Xs
open Go Go.Aw
noncomputable def y3:=yy Tryz.f3
def x3_s1:XC:=(.seq (.regT [] [([m 15 101,m 16 102,j 31 101 102 103,l 9 103 104,m 17 105,l 26 13 106,k3 13 104 105 106 9 3 26 107,m 107 100,E 100 0 108,E 100 1 109],a (.alloc 26) 24,false),([],w 26 24 108,false)] [] [n 109 25]) (y3 48))
def x3_c2:XC:=(.seq (.regT [] [([m 15 90,m 16 91,j 31 90 91 92,l 9 92 93,m 17 94,a (.build 40 #[(0,(t 93)),(1,(t 94))]) 95,l 26 13 96,k2 12 95 96 40 26 97,m 97 89,E 89 0 98,E 89 1 99],a (.alloc 26) 22,false),([],w 26 22 98,false)] [] [n 99 23]) x3_s1)
def x3_s3:XC:=(.seq (y3 42) (C 88 x3_c2 .skip))
def x3_s4:XC:=(.seq (.seq (y3 35) (C 82 (R [a (.assign (.const (.bool false))) 12] .ret) .skip)) x3_s3)
def x3_s5:XC:=(.seq (y3 32) x3_s4)
def x3_s6:XC:=(.seq (y3 30) x3_s5)
def x3_s7:XC:=(.seq (.seq (y3 25) (C 55 (.reg [A 2 17]) .skip)) x3_s6)
def x3_s9:XC:=(.seq (.block 1 (.seq (y3 22) x3_s7)) (y3 56))
def x3_L10:XC:=(.seq (R [m 16 42,q .lss 3 42 5 43] (C 43 .skip (.exit 0))) x3_s9)
def x3_s11:XC:=(.seq (R [A 0 16] (.block 0 (.loop x3_L10))) (R [b (k 15 #[] #[]) 119,n 119 12] .ret))
def x3_s12:XC:=(.seq (y3 7) x3_s11)
def x3_s13:XC:=(R [m 3 33,b (.buildSlice 22 5 #[(0,(i 0)),(1,(i 1)),(2,(i 5)),(3,(t 33)),(4,(i (-1)))]) 34,n 34 14] x3_s12)
def x3_s14:XC:=(.seq (y3 3) x3_s13)
def x3:XC:=(R [a (.assign (.const (.bool false))) 12] x3_s14)
def V3r:=PLift.up (aI (aI (aI (@unf (y3 42) (r [u,u,u,z 85,z 85,u]) rfl) (@unf (y3 35) (r [u,u,u,u,z 78,z 78,z 78,u]) rfl)) (aI (@unf (y3 32) (r [u,u,u,u,u,u,u,v,v,u,u,u]) rfl) (@unf (y3 30) (r [u,u,u,u,u,u,u,u,v,v,u,u,u]) rfl))) (aI (aI (@unf (y3 25) (r [u,u,u,y 52,y 52,u]) rfl) (@unf (y3 22) (r [u,u,u,v,u]) rfl)) (aI (@unf (y3 7) (r [u,u,u,u,u,u,v,u]) rfl) (@unf (y3 3) (r [u,u,u,u,u,u,v,u,u]) rfl))))
theorem Y1:type_of% V3r.down:=V3r.down
def V3:=PLift.up (aI (aI (aI (@unf (y3 48) (R [u,u,u,u,z 113,z 113,z 113,z 113,u] (T (F [u]))) rfl) (aI (@unf _ _ x3_s1.eq_1) (@unf _ _ x3_c2.eq_1))) (aI (aI (@unf _ _ x3_s3.eq_1) (@unf _ _ x3_s4.eq_1)) (aI (@unf _ _ x3_s5.eq_1) (@unf _ _ x3_s6.eq_1)))) (aI (aI (aI (@unf _ _ x3_s7.eq_1) (@unf (y3 56) (r [u,v,u]) rfl)) (aI (@unf _ _ x3_s9.eq_1) (@unf _ _ x3_L10.eq_1))) (aI (aI (@unf _ _ x3_s11.eq_1) (@unf _ _ x3_s12.eq_1)) (aI (@unf _ _ x3_s13.eq_1) (@unf _ _ x3_s14.eq_1)))))
theorem U3:type_of% V3.down:=V3.down
theorem b3:Bt 3 120 x3 [(.tmp 12)]:=bt Tryz.func3 rfl
end Go.Proofs.YtgopigkdcmhbbaaGreatDoor
end
