/- A part of the proof of what the last text says: Gr1, Gr2, Gr3, Gr4, Gr5, Gq1, Gr6, Gq2, Gq6, Gr7, Gs1, Gs2, Gf5, Gf3, Gf6, Gf7, Gn5, Gn6, Gn2, Gn7, Gs3, Gu1, Gt7, Gq7, XcL, Kh3, Gx1. Conditions: those in each theorem. -/
import Derived.Test.YtgopigkdcmhbbaaGreatDoorT7
import Derived.KernelRfl
set_option autoImplicit true
set_option relaxedAutoImplicit true
set_option linter.unusedVariables false
set_option linter.unusedSimpArgs false
set_option maxRecDepth 100000
set_option maxHeartbeats 16000000
open List renaming getD_eq_getElem?_getD -> Na,getElem?_eq_getElem -> Nb,getD_cons_succ -> Nc,getD_cons_zero -> Nd,getElem?_map -> Nf,length_append -> Ni,length_cons -> Nj,length_nil -> Nk,length_map -> Nl,length_singleton -> Nm,map_append -> Nn,append_assoc -> No,mem_cons -> Nv,length_take -> Ny,length_range -> Nz,append_nil -> N0,nil_append -> N1,cons_append -> N2,map_map -> N3,not_mem_nil -> N4,flatten_cons -> N5,length_replicate -> N6
open Option renaming getD_some -> Ng
open Int renaming toNat_natCast -> Nh,reduceToNat -> Nr,reduceLE -> Nt,reduceLT -> Nu,eq_ofNat_of_zero_le -> Nw
open Nat renaming le_trans -> Np,lt_of_lt_of_le -> Nq,reduceSub -> qa,reduceAdd -> qb,reduceMul -> qc,reduceEqDiff -> qd,reduceLeDiff -> qe,reduceBEq -> qf
section
namespace Go.Proofs.YtgopigkdcmhbbaaGreatDoor
open Go Go.Aw
variable {R:D->AH->Prop}
theorem vC {l:List UInt8} {i:Nat} (h:i<l.length):(l.map ql).getD i []= [.int .u8 ((l.getD i 0).toNat:Int)]:=by simp [h,ql]
theorem An:bits .xor .u8 (c.toNat:Int) (YA f)=((qU f c).toNat:Int):=by
 rw [Ac c.toNat_lt,UInt8.ofNat_toNat]
theorem Uj (c:UInt8):((qU (turned c) c).toNat:Int) - 128=(qC c:Int):=by
 have:=c.toNat_lt
 unfold turned qC
 by_cases h:c.toNat<128
 ·rw [decide_eq_true h,if_pos h,qU,if_pos rfl,UInt8.toNat_sub_of_le _ _ (by rw [UInt8.le_iff_toNat_le];simp;omega)]
  simp
  omega
 ·rw [decide_eq_false h,if_neg h,qU,if_neg (by simp)]
  omega
theorem tP {m x:Nat} (hm:256*m+x<18446744073709551616) (hx:x<256):bits .or .u64 (IntKind.u64.wrap ((m:Int)*2 ^ (min ((8:Int).toNat) IntKind.u64.bits))) (x:Int)=((256*m+x:Nat):Int):=by
 have e1:(2:Int) ^ (min ((8:Int).toNat) IntKind.u64.bits)=256:=rfl
 rw [e1,IntKind.wrap_u64,show ((m:Int)*256) % 18446744073709551616=((m*256:Nat):Int) by omega,u64_or_nat _ _ (by omega) (by omega)]
 have:=Nat.two_pow_add_eq_or_of_lt (i:=8) (b:=x) (by omega) m
 rw [show m*256=2 ^ 8*m by omega,<-this]
theorem Ht {f:Bool} {k6:D} {rs:List UInt8} {H:AH} {Q:AQ} {F:List D} (hr:rs.length<=8) (hF:Fr 71 [(5,.int .u8 (YA f)),(6,k6),(7,.int .u64 0),(46,.slc (rs.map ql)),(47,.i rs.length),(48,.i 0)] F) (hE:∀F',Fr 71 [(5,.int .u8 (YA f)),(6,k6),(7,.int .u64 (val (rs.map (qU f)):Int))] F'->Q (.exit 1) F' H):XW Tryz.prog (ut 48) F H Q:=by
 have hbig:=qk
 refine XW.loopK hmm (fun F H'=>∃(j:Nat),j<=rs.length∧Fr 71 [(5,.int .u8 (YA f)),(6,k6),(7,.int .u64 (val ((rs.take j).map (qU f)):Int)),(46,.slc (rs.map ql)),(47,.i rs.length),(48,.i j)] F∧H=H') (fun F H=>match F.getD 48 .any with| .int _ n'=>rs.length - n'.toNat|_=>0) ⟨0,by omega,hF,rfl⟩ ?_
 rintro _ _ ⟨j,hj,hF,rfl⟩ K hN hE' hR
 obtain ⟨z,rfl⟩:=hF.fl rfl
 try dsimp only [fl,zz,qa,qb] at*
 clear hF hR
 by_cases hlt:j<rs.length
 ·have nx:∀F',Fr 71 [(5,.int .u8 (YA f)),(6,k6),(7,.int .u64 ((256*val ((rs.take j).map (qU f))+(qU f (rs.getD j 0)).toNat:Nat):Int)),(46,.slc (rs.map ql)),(47,.i rs.length),(48,.i ((j+1:Nat):Int))] F'->K .normal F' H:=fun F' hF'=>hN _ _ ⟨j+1,hlt,by
    have:(rs.take (j+1)).map (qU f)=(rs.take j).map (qU f)++ [qU f (rs.getD j 0)]:=by
     rw [List.take_add_one,Nn]
     simp [hlt]
    rw [this,oZ]
    exact hF',(qz rfl).symm⟩ (by
   rw [Na,hF'.2.2.2.2.2.2.1]
   simp only [Nc,Nd,Ng]
   omega)
  clear hN hE hE'
  have q1:=vC hlt
  have hv:val ((rs.take j).map (qU f))<256 ^ 7:=Nq (hU _) (Nat.pow_le_pow_right (by omega) (by simp;omega))
  generalize val ((rs.take j).map (qU f))=v at nx hv ⊢
  generalize rs.getD j 0=c at q1 nx
  have hc:=(qU f c).toNat_lt
  have xb:=An (f:=f) (c:=c)
  have w1:=tP (m:=v) (x:=(qU f c).toNat) (by omega) (by omega)
  have w2:IntKind.u64.wrap (((qU f c).toNat:Int))=((qU f c).toNat:Int):=by rw [IntKind.wrap_u64];omega
  simp+contextual only [hlt,Int.ofNat_lt,q1,xb,w1,w2,qj (show j<=big by omega),↓U49,↓XP,qh]
  exact fun _=>⟨by decide,nx _ ⟨rfl,rfl,rfl,rfl,rfl,rfl,rfl,trivial⟩⟩
 ·have hik:j=rs.length:=by omega
  subst hik
  clear hN
  rw [List.take_length]
  simp+contextual only [↓U49,↓XP,qp]
  exact hE' _ _ _ (hE _ ⟨rfl,rfl,rfl,rfl,trivial⟩)
theorem CI {c:UInt8} {r:List UInt8} {xs:List (List D)} {H:AH} {F:List D} (hF:Fr 71 [(0,.slc xs),(5,.int .u8 (YA (turned c))),(6,.i (qC c:Int))] F) (hl:xs.length=r.length+1) (h1:∀x∈xs,x.length=1) (hL:r.length+1<=big)
  (q1:0<r.length->xs.getD 1 []= [.int .u8 ((r.getD 0 0).toNat:Int)]) (hx2:(xs.take (qC c+1)).drop 1=(r.take (qC c)).map ql)
  (hk:∀t,qD (c::r)=t->R (.tup [.i t.1,.i (t.2.1:Int),.i t.2.2]) H):xcode Tryz.prog (ut 20) F H (jX Tryz.prog [.tmp 2,.tmp 3,.tmp 4] H.length R):=by
 have hbig:=qk
 obtain ⟨z,rfl⟩:=hF.fl rfl
 try dsimp only [fl,zz,qa,qb] at*
 clear hF
 unfold qD at hk
 dsimp only at hk
 unfold body at hk
 have hc:=c.toNat_lt
 have tl:qC c<=127:=by unfold qC;split<;>omega
 by_cases c1:8<qC c
 ·simp+contextual only [show ((8:Int)<(qC c:Int))=True from qo,↓U49,↓XP,qp]
  exact hk _ (by rw [if_pos c1])
 rw [if_neg c1] at hk
 by_cases c2:r.length<qC c
 ·simp+contextual only [show ((8:Int)<(qC c:Int))=False from qy,hl,show (((r.length+1:Nat):Int)<=(qC c:Int))=True from qo,↓U49,↓XP,qh]
  exact fun _=>hk _ (by rw [if_pos c2])
 rw [if_neg c2] at hk
 have wk:IntKind.i64.wrap ((qC c:Int)+1)=((qC c+1:Nat):Int):=by rw [qi (by omega) (by omega)];omega
 have tl2:(r.take (qC c)).length=qC c:=by simp;omega
 have fin:¬(0<qC c∧qU (turned c) (r.getD 0 0)=0)->∀F,Fr 71 [(5,.int .u8 (YA (turned c))),(6,.i (qC c:Int)),(7,.int .u64 0),(46,.slc ((r.take (qC c)).map ql)),(47,.i (qC c:Int)),(48,.i 0)] F->XW Tryz.prog (ut 48) F H (kU 1 (Vg Tryz.prog (ut 60) (jX Tryz.prog [.tmp 2,.tmp 3,.tmp 4] H.length R))):=by
  intro hno F hF
  rw [if_neg hno] at hk
  refine Ht (f:=turned c) (k6:= .i (qC c:Int)) (rs:=r.take (qC c)) (by omega) (by rw [tl2];exact hF) fun F' hF'=>?_
  obtain ⟨z,rfl⟩:=hF'.fl rfl
  try dsimp only [fl,zz,qa,qb] at*
  clear hF' hF
  have hv:=hU ((r.take (qC c)).map (qU (turned c)))
  have hv2:val ((r.take (qC c)).map (qU (turned c)))<256 ^ 8:=Nq hv (Nat.pow_le_pow_right (by omega) (by simp;omega))
  generalize val ((r.take (qC c)).map (qU (turned c)))=v at hk hv2 ⊢
  have e63:((v:Int)).fdiv (2 ^ (min ((63:Int).toNat) IntKind.u64.bits))=((v / 9223372036854775808:Nat):Int):=by
   rw [show (2:Int) ^ (min ((63:Int).toNat) IntKind.u64.bits)=9223372036854775808 from rfl,Int.fdiv_eq_ediv_of_nonneg _ (by omega)]
   omega
  by_cases c5:9223372036854775808<=v
  ·have hz:((0:Int)<((v / 9223372036854775808:Nat):Int))=True:=qo
   simp+contextual only [e63,hz,↓U49,↓XP,qp,XW1]
   exact ⟨by decide,hk _ (by rw [if_pos c5])⟩
  ·have hz:((0:Int)<((v / 9223372036854775808:Nat):Int))=False:=qy
   rw [if_neg c5] at hk
   cases ht:turned c with
   | true=>
    have ux:bits .xor .u64 (if IntKind.u64.signed=true then -1 else IntKind.u64.max) (v:Int)=((18446744073709551615 - v:Nat):Int):=by
     rw [show (if IntKind.u64.signed=true then (-1:Int) else IntKind.u64.max)=((18446744073709551615:Nat):Int) from rfl,u64_xor_nat _ _ (by omega) (by omega),pF (by omega)]
    have wv:IntKind.i64.wrap ((18446744073709551615 - v:Nat):Int)= -1 - (v:Int):=by rw [IntKind.wrap_i64];omega
    simp+contextual only [e63,hz,show YA true=255 from rfl,show ((0:Int)<255)=True from qo,ux,wv,wk,↓U49,↓XP,qh,XW1]
    have hk2:=hk _ rfl
    rw [ht] at hk2
    exact ⟨by decide,hk2⟩
   | false=>
    have wv:IntKind.i64.wrap (v:Int)=(v:Int):=by rw [IntKind.wrap_i64];omega
    simp+contextual only [e63,hz,show YA false=0 from rfl,show ((0:Int)<0)=False from qy,wv,wk,↓U49,↓XP,qh,XW1]
    have hk2:=hk _ rfl
    rw [ht] at hk2
    exact ⟨by decide,hk2⟩
 have k1:((1:Int)<=((qC c+1:Nat):Int))=True:=qo
 have k2:(((qC c+1:Nat):Int)<=((r.length+1:Nat):Int))=True:=qo
 by_cases c3:0<qC c
 ·have q1':=q1 (by omega)
  have xb:=An (f:=turned c) (c:=r.getD 0 0)
  by_cases c4:qU (turned c) (r.getD 0 0)=0
  ·rw [c4,show (((UInt8.toNat 0:Nat):Int))=0 from rfl] at xb
   simp+contextual only [show ((8:Int)<(qC c:Int))=False from qy,hl,show (((r.length+1:Nat):Int)<=(qC c:Int))=False from qy,show ((0:Int)<(qC c:Int))=True from qo,show ((1:Int)).toNat=1 from rfl,show ((0:Int)<=1)=True from qo,q1',xb,show (1<((r.length+1:Nat):Int))=True from qo,↓U49,↓XP,qh]
   exact fun _ _=>hk _ (by rw [if_pos ⟨c3,c4⟩])
  ·have xz:((((qU (turned c) (r.getD 0 0)).toNat:Nat):Int)=0)=False:=eq_false (fun h=>c4 (UInt8.toNat_inj.1 (by simpa using h)))
   simp+contextual only [show ((8:Int)<(qC c:Int))=False from qy,hl,show (((r.length+1:Nat):Int)<=(qC c:Int))=False from qy,show ((0:Int)<(qC c:Int))=True from qo,show ((1:Int)).toNat=1 from rfl,show ((0:Int)<=1)=True from qo,q1',xb,xz,show (1<((r.length+1:Nat):Int))=True from qo,wk,h1,k1,k2,hx2,tl2,↓U49,↓XP,qh,XW1]
   exact fun _ _ _=>fin (fun h=>c4 h.2) _ ⟨rfl,rfl,rfl,rfl,rfl,rfl,rfl,trivial⟩
 ·simp+contextual only [show ((8:Int)<(qC c:Int))=False from qy,hl,show (((r.length+1:Nat):Int)<=(qC c:Int))=False from qy,show ((0:Int)<(qC c:Int))=False from qy,show ((1:Int)).toNat=1 from rfl,show ((0:Int)<=1)=True from qo,wk,h1,k1,k2,hx2,tl2,↓U49,↓XP,qh,XW1]
  exact fun _ _=>fin (fun h=>c3 h.1) _ ⟨rfl,rfl,rfl,rfl,rfl,rfl,rfl,trivial⟩
theorem zt {b:List UInt8} {H:AH} (h:R (.tup [.i (qD b).1,.i ((qD b).2.1:Int),.i (qD b).2.2]) H):ACall Tryz.prog 49 [.slc (b.map ql)] H R:=by
 refine b49 fun hf=>?_
 have hbig:=qk
 rcases hb:b with _|⟨c,r⟩
 ·subst hb
  simp+contextual only [↓U49.2.2.2.2.2,↓U49.2.2.2.2.1,↓U49.2.2.2.1,↓U49.1.1.1.1,Nk,show ((((0:Nat):Int))=0)=True from eq_true rfl,↓XP,qh,qa]
  exact fun _=>h
 have hk:∀t,qD (c::r)=t->R (.tup [.i t.1,.i (t.2.1:Int),.i t.2.2]) H:=fun t ht=>by rw [<-ht,<-hb];exact h
 clear h
 have q0:=vC (l:=c::r) (i:=0) (by simp)
 have q1:0<r.length->((c::r).map ql).getD 1 []= [.int .u8 ((r.getD 0 0).toNat:Int)]:=fun h=>by rw [vC (by simp;omega)];rfl
 simp only [Nd] at q0
 have hl:((c::r).map ql).length=r.length+1:=by simp
 have hx2:(((c::r).map ql).take (qC c+1)).drop 1=(r.take (qC c)).map ql:=by rw [<-List.map_take];rfl
 have h1:∀x∈(c::r).map ql,x.length=1:=qV
 generalize ((c::r).map ql)=xs at q0 q1 hl hx2 hf h1 ⊢
 have hz:(((r.length+1:Nat):Int)=0)=False:=qy
 have hz2:((0:Int)<((r.length+1:Nat):Int))=True:=qo
 have h8:=Uj c
 have hc:=c.toNat_lt
 have w1:=(qU (turned c) c).toNat_lt
 have w2:IntKind.i64.wrap (((qU (turned c) c).toNat:Int) - 128)=(qC c:Int):=by rw [h8];unfold qC;exact qi (by split<;>omega) (by split<;>omega)
 have w3:IntKind.i64.wrap (((qU (turned c) c).toNat:Int))=((qU (turned c) c).toNat:Int):=qi (by omega) (by omega)
 have xb:=An (f:=turned c) (c:=c)
 by_cases c1:c.toNat<128
 ·have ft:YA (turned c)=255:=by rw [turned,decide_eq_true c1];rfl
  have c1':((c.toNat:Int)<128)=True:=qo
  rw [ft] at xb
  simp+contextual only [↓U49.2.2.2.2.2,↓U49.2.2.2.2.1,↓U49.2.2.2.1,↓U49.2.2.1.2,↓U49.1.1.1.1,q0,hl,hz,hz2,c1',xb,w3,w2,↓XP,qh,XW1,qa]
  refine fun hlb _=>CI ⟨rfl,rfl,congrArg (fun x=>some (D.int .u8 x)) ft.symm,rfl,trivial⟩ hl h1 hlb q1 hx2 hk
 ·have ft:YA (turned c)=0:=by rw [turned,decide_eq_false c1];rfl
  have c1':((c.toNat:Int)<128)=False:=qy
  rw [ft] at xb
  simp+contextual only [↓U49.2.2.2.2.2,↓U49.2.2.2.2.1,↓U49.2.2.2.1,↓U49.2.2.1.2,↓U49.1.1.1.1,q0,hl,hz,hz2,c1',xb,w3,w2,↓XP,qh,XW1,qa]
  refine fun hlb _=>CI ⟨rfl,rfl,congrArg (fun x=>some (D.int .u8 x)) ft.symm,rfl,trivial⟩ hl h1 hlb q1 hx2 hk
def qB (b:List UInt8):Int×Nat×Int:=
 if (qD b).2.2≠0 then qD b else if (qD b).1<0 then ((qD b).1,(qD b).2.1,2)
 else if (b.length:Int) - (qD b).2.1<(qD b).1 then ((qD b).1,(qD b).2.1,3) else qD b
theorem eG:(qB b).2.1=(qD b).2.1:=by
 unfold qB
 repeat' split
 all_goals rfl
theorem Ks:(qB b).2.1<=b.length:=by rw [eG];exact zn
theorem za (h:(qB b).2.2=0):0<=(qB b).1∧(qB b).1+(qB b).2.1<=b.length∧qB b=qD b:=by
 unfold qB at h ⊢
 by_cases c1:(qD b).2.2≠0
 ·rw [if_pos c1] at h;exact (c1 h).elim
 rw [if_neg c1] at h ⊢
 by_cases c2:(qD b).1<0
 ·rw [if_pos c2] at h;simp at h
 rw [if_neg c2] at h ⊢
 by_cases c3:(b.length:Int) - (qD b).2.1<(qD b).1
 ·rw [if_pos c3] at h;simp at h
 rw [if_neg c3]
 exact ⟨by omega,by omega,rfl⟩
theorem Wm {n:Nat} {rest:List UInt8} (hn:n<=rest.length) (hb:n<=140737488355328):qB (qr n++rest)=((n:Int),(qr n).length,0):=by
 have h:=Kc (m:=(n:Int)) (rest:=rest) (G9 hb)
 unfold qB
 rw [h,if_neg (by simp),if_neg (by simp),if_neg (by simp;omega)]
def ja (b:List UInt8):List UInt8×Nat×Int:=
 if (qB b).2.2=0 then ((b.drop (qB b).2.1).take (qB b).1.toNat,(qB b).2.1+(qB b).1.toNat,0) else ([],0,(qB b).2.2)
theorem Y9:(ja b).2.1<=b.length:=by
 unfold ja
 split
 ·next h=>have:=za h;simp;omega
 ·simp
theorem Ui:(ja b).1.length<=b.length:=by
 unfold ja
 split
 ·simp;omega
 ·simp
theorem Wu {s rest:List UInt8} (hb:s.length<=140737488355328):ja (qF s++rest)=(s,(qF s).length,0):=by
 have h:=Wm (n:=s.length) (rest:=s++rest) (by simp) hb
 unfold ja qF
 rw [No,h]
 simp
def QH {α:Type} (f:List UInt8->α×Nat×Int):Nat->List UInt8->List α×Nat×Int
 |0,_=>([],0,0)
 | n+1,b=>if (f b).2.2≠0 then ([],0,(f b).2.2) else
  if (QH f n (b.drop (f b).2.1)).2.2≠0 then ([],0,(QH f n (b.drop (f b).2.1)).2.2)
  else ((f b).1::(QH f n (b.drop (f b).2.1)).1,(f b).2.1+(QH f n (b.drop (f b).2.1)).2.1,0)
def zW {α:Type} (f:List UInt8->α×Nat×Int) (b:List UInt8):List α×Nat×Int:=
 if (qB b).2.2≠0 then ([],0,(qB b).2.2) else
 if (QH f (qB b).1.toNat (b.drop (qB b).2.1)).2.2≠0 then ([],0,(QH f (qB b).1.toNat (b.drop (qB b).2.1)).2.2)
 else ((QH f (qB b).1.toNat (b.drop (qB b).2.1)).1,(qB b).2.1+(QH f (qB b).1.toNat (b.drop (qB b).2.1)).2.1,0)
theorem dQ {α:Type} {f:List UInt8->α×Nat×Int} (hf:∀b,(f b).2.1<=b.length):∀(n:Nat) (b:List UInt8),(QH f n b).2.1<=b.length∧(QH f n b).1.length<=n
 |0,b=>by simp [QH]
 | n+1,b=>by
  have h1:=hf b
  have h2:=dQ hf n (b.drop (f b).2.1)
  rw [List.length_drop] at h2
  unfold QH
  split
  ·simp
  ·split
   ·simp
   ·simp;omega
theorem ah {α:Type} {f:List UInt8->α×Nat×Int} (hf:∀b,(f b).2.1<=b.length) {b:List UInt8}:(zW f b).2.1<=b.length∧(zW f b).1.length<=b.length:=by
 unfold zW
 split
 ·simp
 ·next h=>
  have h0:=za (Classical.not_not.1 h)
  have h2:=dQ hf (qB b).1.toNat (b.drop (qB b).2.1)
  rw [List.length_drop] at h2
  split
  ·simp
  ·constructor
   ·dsimp only;omega
   ·dsimp only;omega
theorem aj {α:Type} {f:List UInt8->α×Nat×Int} {enc:α->List UInt8}:∀(l:List α) (rest:List UInt8),(∀x∈l,∀r,f (enc x++r)=(x,(enc x).length,0))->QH f l.length (l.flatMap enc++rest)=(l,(l.flatMap enc).length,0)
 | [],rest,_=>rfl
 | x::l,rest,h=>by
  have h1:=h x (.head _) (l.flatMap enc++rest)
  have h2:=aj l rest (fun y hy=>h y (.tail _ hy))
  have e:(x::l).flatMap enc++rest=enc x++(l.flatMap enc++rest):=by simp
  rw [e,Nj]
  unfold QH
  rw [h1]
  dsimp only
  rw [List.drop_left,h2]
  simp
theorem aV {α:Type} {enc:α->List UInt8}:∀{l:List α},(∀x∈l,0<(enc x).length)->l.length<=(l.flatMap enc).length
 | [],_=>by simp
 | x::l,h=>by
  have h1:=h x (.head _)
  have h2:=aV (l:=l) (fun y hy=>h y (.tail _ hy))
  simp only [List.flatMap_cons,Ni,Nj]
  omega
theorem UT {α:Type} {f:List UInt8->α×Nat×Int} {enc:α->List UInt8} {l:List α} {rest:List UInt8} (h:∀x∈l,∀r,f (enc x++r)=(x,(enc x).length,0)) (hp:∀x∈l,0<(enc x).length) (hb:l.length<=140737488355328):
  zW f (qr l.length++l.flatMap enc++rest)=(l,(qr l.length++l.flatMap enc).length,0):=by
 have h1:=aV hp
 have h2:=Wm (n:=l.length) (rest:=l.flatMap enc++rest) (by rw [Ni];omega) hb
 have h3:=aj l rest h
 unfold zW
 rw [No,h2]
 dsimp only
 rw [if_neg (by simp),List.drop_left,Nh,h3]
 simp
def jz (b:List UInt8):List Int×Nat×Int:=zW qD b
def kj (b:List UInt8):List (List UInt8)×Nat×Int:=zW ja b
theorem ints_le {b:List UInt8}:(jz b).2.1<=b.length∧(jz b).1.length<=b.length:=ah fun _=>zn
theorem strs_le {b:List UInt8}:(kj b).2.1<=b.length∧(kj b).1.length<=b.length:=ah fun _=>Y9
theorem GN:0<(qr n).length:=by simp [qr]
theorem la {l:List Int} {rest:List UInt8} (h:∀x∈l,wP .i64 x) (hb:l.length<=140737488355328):jz (qK l++rest)=(l,(qK l).length,0):=
 UT (enc:=qr) (fun x hx r=>Kc (h x hx)) (fun x _=>GN) hb
theorem i9 {l:List (List UInt8)} {rest:List UInt8} (h:∀x∈l,x.length<=140737488355328) (hb:l.length<=140737488355328):kj (yt l++rest)=(l,(yt l).length,0):=
 UT (enc:=qF) (fun x hx r=>Wu (h x hx)) (fun x _=>by simp only [qF,Ni];have:=GN (n:=(x.length:Int));omega) hb
theorem Y5 (h:R (.tup [.i (qB b).1,.i ((qB b).2.1:Int),.i (qB b).2.2]) H):ACall Tryz.prog 119 [.slc (b.map ql),.i 1] H R:=by
 refine FJ fun hf=>?_
 have hbig:=qk
 have hle:=zn (b:=b)
 unfold qB at h
 simp+contextual only [↓dZ,↓dZ,↓XP,qp,qa,qb]
 refine zt ?_
 generalize qD b=t at h hle ⊢
 obtain ⟨n,k,e⟩:=t
 dsimp only at h hle ⊢
 rcases Classical.em (e=0) with c1|c1
 ·subst c1
  rw [if_neg (by simp)] at h
  rcases Classical.em (n<0) with c2|c2
  ·rw [if_pos c2] at h
   simp+contextual only [eq_true c2,↓dZ,↓XP,qp,XW1]
   exact fun _ _ _=>h
  ·rw [if_neg c2] at h
   simp+contextual only [eq_false c2,↓dZ,↓XP,qh,XW1]
   refine fun _ _ _ hb=>⟨by decide,?_⟩
   have w1:IntKind.i64.wrap ((b.length:Int) - k)=(b.length:Int) - k:=qi (by omega) (by omega)
   rw [w1,Int.tdiv_one,w1]
   refine ⟨fun c=>?_,fun c=>?_⟩
   ·rw [if_pos c] at h
    exact h
   ·rw [if_neg c] at h
    exact h
 ·rw [if_pos c1] at h
  simp+contextual only [eq_false c1,↓dZ,↓XP,qp,XW1]
  exact fun _ _ _=>h
theorem d6 {b:List UInt8} {k m:Nat}:((b.map ql).take (k+m)).drop k=((b.drop k).take m).map ql:=by
 rw [<-List.map_take,<-List.map_drop,List.drop_take,Nat.add_sub_cancel_left]
theorem W9 {b:List UInt8} (h:fact (.slc (b.map ql))):b.length<=140737488355328:=by
 have:=h
 rw [l7,Kf,qk] at this
 exact this
theorem Js {b:List UInt8} {H:AH} (h:R (.tup [.str (ja b).1,.i ((ja b).2.1:Int),.i (ja b).2.2]) H):ACall Tryz.prog 77 [.slc (b.map ql)] H R:=by
 refine b77 fun hf=>?_
 have hbig:=qk
 have hle:=Ks (b:=b)
 have hok:=za (b:=b)
 unfold ja at h
 simp+contextual only [↓ET,↓ET,↓XP,qp,qa]
 refine Y5 ?_
 have hok2:(qB b).2.2=0->0<=(qB b).1∧(qB b).1+(qB b).2.1<=b.length:=fun h=>⟨(hok h).1,(hok h).2.1⟩
 clear hok
 generalize qB b=t at h hle hok2 ⊢
 obtain ⟨n,k,e⟩:=t
 dsimp only at h hle hok2 ⊢
 rcases Classical.em (e=0) with c1|c1
 ·subst c1
  rw [if_pos rfl] at h
  obtain ⟨g1,g2⟩:=hok2 rfl
  have hb:=W9 hf.1
  obtain ⟨m,rfl⟩:=Nw g1
  have w1:IntKind.i64.wrap ((k:Int)+(m:Int))=((k+m:Nat):Int):=by rw [qi (by omega) (by omega)];omega
  dsimp only at h
  rw [Nh] at h
  simp+contextual only [w1,d6,K5,↓ET,↓XP,qh,XW1]
  refine fun _ _ _=>⟨qV,by omega,by omega,Qh,fun _=>h⟩
 ·rw [if_neg c1] at h
  simp+contextual only [eq_false c1,↓ET,↓XP,qp,XW1]
  exact fun _ _ _=>h
def JG {α:Type} (acc:List α) (a:Nat) (r:List α×Nat×Int):List α×Nat×Int:=if r.2.2≠0 then ([],0,r.2.2) else (acc++r.1,a+r.2.1,0)
theorem aw {α:Type} {f:List UInt8->α×Nat×Int} {acc:List α} {a m:Nat} {b:List UInt8} (h:¬(f (b.drop a)).2.2=0):JG acc a (QH f (m+1) (b.drop a))=([],0,(f (b.drop a)).2.2):=by
 unfold QH
 rw [if_pos h]
 unfold JG
 rw [if_pos h]
theorem Us {α:Type} {f:List UInt8->α×Nat×Int} {acc:List α} {a m:Nat} {b:List UInt8} (h:(f (b.drop a)).2.2=0):
  JG acc a (QH f (m+1) (b.drop a))=JG (acc++ [(f (b.drop a)).1]) (a+(f (b.drop a)).2.1) (QH f m (b.drop (a+(f (b.drop a)).2.1))):=by
 rw [QH,if_neg (fun c=>c h),List.drop_drop]
 generalize QH f m (b.drop (a+(f (b.drop a)).2.1))=t
 by_cases c:t.2.2=0
 ·simp [JG,c,Nat.add_assoc]
 ·simp [JG,c]
theorem aA {α:Type} {f:List UInt8->α×Nat×Int} {acc:List α} {a:Nat} {b:List UInt8}:JG acc a (QH f 0 b)=(acc,a,0):=by
 simp [JG,QH]
theorem UM {α:Type} {f:List UInt8->α×Nat×Int} {b:List UInt8} (h:(qB b).2.2=0):zW f b=JG [] (qB b).2.1 (QH f (qB b).1.toNat (b.drop (qB b).2.1)):=by
 unfold zW JG
 rw [if_neg (fun c=>c h)]
 simp
theorem vD {b:List UInt8} {a:Nat}:((b.map ql).take (b.length)).drop a=(b.drop a).map ql:=by
 rw [<-List.map_take,<-List.map_drop,List.take_length]
theorem YR {b:List UInt8} {H:AH} (hB:b.length<=1000000000) (h:R (.tup [.own (strs (kj b).1),.i ((kj b).2.1:Int),.i (kj b).2.2]) H):ACall Tryz.prog 118 [.slc (b.map ql)] H R:=by
 refine LH fun hf=>?_
 have hbig:=qk
 have hle:=Ks (b:=b)
 have hok:=za (b:=b)
 have hb:=W9 hf.1
 have hfin:=UM (f:=ja) (b:=b)
 have hk:∀t,kj b=t->R (.tup [.own (strs t.1),.i (t.2.1:Int),.i t.2.2]) H:=fun t ht=>by rw [<-ht];exact h
 clear h
 unfold kj at hk
 simp+contextual only [↓VQ,↓VQ,↓XP,qp,qa]
 refine Y5 ?_
 have hok2:(qB b).2.2=0->0<=(qB b).1∧(qB b).1+(qB b).2.1<=b.length:=fun h=>⟨(hok h).1,(hok h).2.1⟩
 have hbad:¬(qB b).2.2=0->zW ja b=([],0,(qB b).2.2):=fun h=>by unfold zW;rw [if_pos h]
 clear hok
 generalize qB b=t at hfin hle hok2 hbad ⊢
 obtain ⟨n,k,e⟩:=t
 dsimp only at hfin hle hok2 hbad ⊢
 rcases Classical.em (e=0) with c1|c1
 ·subst c1
  obtain ⟨g1,g2⟩:=hok2 rfl
  replace hfin:=hfin rfl
  obtain ⟨n,rfl⟩:=Nw g1
  rw [Nh] at hfin
  simp+contextual only [↓VQ,↓XP,qp,XW1]
  refine fun _ _ _=>XW.loopK hmm (fun F H'=>∃(i a:Nat) (acc:List (List UInt8)),i<=n∧a<=b.length∧acc.length=i∧zW ja b=JG acc a (QH ja (n - i) (b.drop a))∧Fr 45 [(0,.slc (b.map ql)),(6,.i (a:Int)),(8,.own (strs acc)),(21,.i (n:Int)),(22,.i (i:Int))] F∧H=H') (fun F H=>match F.getD 22 .any with| .int _ n'=>n - n'.toNat|_=>0) ⟨0,k,[],by omega,by omega,rfl,hfin,⟨rfl,rfl,rfl,rfl,rfl,rfl,trivial⟩,rfl⟩ ?_
  rintro _ _ ⟨i,a,acc,hi,ha,hac,hfi,hF,rfl⟩ K hN hE hR
  obtain ⟨z,rfl⟩:=hF.fl rfl
  try dsimp only [fl,zz,qa,qb] at*
  clear hF
  have sl:(strs acc).length=acc.length:=jd
  have wa:=vD (b:=b) (a:=a)
  rcases Classical.em (i<n) with hlt|hlt
  ·obtain ⟨m,hm⟩:∃m,n - i=m+1:=⟨n - i - 1,by omega⟩
   rw [hm] at hfi
   have q1:=Y9 (b:=b.drop a)
   rw [List.length_drop] at q1
   have nx:(ja (b.drop a)).2.2=0->∀F',Fr 45 [(0,.slc (b.map ql)),(6,.i ((a+(ja (b.drop a)).2.1:Nat):Int)),(8,.own (strs (acc++ [(ja (b.drop a)).1]))),(21,.i (n:Int)),(22,.i ((i+1:Nat):Int))] F'->K .normal F' H:=fun he F' hF'=>hN _ _ ⟨i+1,a+(ja (b.drop a)).2.1,acc++ [(ja (b.drop a)).1],by omega,by omega,by simp;omega,by rw [hfi,Us he,show n - (i+1)=m by omega],hF',(qz rfl).symm⟩ (by
    rw [Na,hF'.2.2.2.2.2.1]
    simp only [Nc,Nd,Ng]
    omega)
   have bad:¬(ja (b.drop a)).2.2=0->R (.tup [.own (strs []),.i 0,.i (ja (b.drop a)).2.2]) H:=fun he=>hk ([],0,(ja (b.drop a)).2.2) (by rw [hfi,aw he])
   clear hN hE hk hfin hbad hfi
   simp+contextual only [hlt,Int.ofNat_lt,wa,↓VQ,↓XP,qh]
   refine ⟨qV,by omega,Js ?_⟩
   generalize ja (b.drop a)=t at q1 nx bad ⊢
   obtain ⟨s,k,e⟩:=t
   dsimp only at q1 nx bad ⊢
   rcases Classical.em (e=0) with c2|c2
   ·subst c2
    have w2:IntKind.i64.wrap ((a:Int)+(k:Int))=((a+k:Nat):Int):=by rw [qi (by omega) (by omega)];omega
    simp+contextual only [w2,qj (show i<=big by omega),↓VQ,↓XP,qh,XW1,qc,qe]
    refine fun _ _ _=>⟨V3,by omega,nx rfl _ ?_⟩
    rw [show strs (acc++ [s])=strs acc++ [[.str s]] by simp [strs]]
    exact ⟨rfl,rfl,rfl,rfl,rfl,rfl,trivial⟩
   ·simp+contextual only [eq_false c2,↓VQ,↓XP,qp,XW1]
    refine fun _ _ _=>hR _ _ ?_
    simp+contextual only [↓XP,qp]
    exact bad c2
  ·have hik:i=n:=by omega
   subst hik
   clear hN
   rw [Nat.sub_self,aA] at hfi
   simp+contextual only [↓VQ,↓XP,qp]
   refine hE _ _ _ ?_
   simp+contextual only [↓VQ,↓XP,qp,XW1]
   exact hk _ hfi
 ·simp+contextual only [eq_false c1,↓VQ,↓XP,qp,XW1]
  exact fun _ _ _=>hk _ (hbad c1)
theorem MJ {args:List D} {H:AH} (h:facts args->xcode Tryz.prog (D0 0) (args++List.replicate (6 - args.length) (.tup [])) H (Um Tryz.prog [(.tmp 4)] R)):ACall Tryz.prog 138 args H R:=
 yV hm Tryz.func138 rfl (by kernel_rfl) (by kernel_rfl) (by kernel_rfl) (by kernel_rfl) (by kernel_rfl) (by kernel_rfl) h
theorem fU {fi:Nat} {b:List UInt8} {a:Nat} {H:AH} (hfi:fi=144) (h:∀b2 b3,qH H b2->(b2≠b3∧qH H b3)->R (.fn fi [.ptr b2 0,.ptr b3 0]) ((b3,.cells [.i a])::(b2,.cells [.slc (b.map ql)])::H)):ACall Tryz.prog 138 [.slc (b.map ql),.i a] H R:=by
 refine MJ fun hf=>?_
 subst hfi
 simp+contextual only [↓LN,zM,QT,↓XP,qh,XW1,qa,qb]
 refine fun b2 h2 b3 h3=>⟨_,Sbn.sub (List.Sublist.refl _),h b2 b3 h2 h3⟩
theorem fw {b:List UInt8} {a b2 b3:Nat} {H:AH} (ha:a<=b.length) (hne:b2≠b3) (h2:qn H b2=none) (h3:qn H b3=none)
  (h:b.length<=140737488355328->R (.tup [.i (qD (b.drop a)).1,.i ((a+(qD (b.drop a)).2.1:Nat):Int),.i (qD (b.drop a)).2.2]) ((b3,.cells [.i ((a+(qD (b.drop a)).2.1:Nat):Int)])::(b2,.cells [.slc (b.map ql)])::H)):
  ACall Tryz.prog 144 [.ptr b2 0,.ptr b3 0] ((b3,.cells [.i a])::(b2,.cells [.slc (b.map ql)])::H) R:=by
 refine IA fun hf=>?_
 have hbig:=qk
 have q1:=zn (b:=b.drop a)
 rw [List.length_drop] at q1
 have hne':=Ne.symm hne
 simp+contextual only [↓td,vD,qg hne,↓td,↓XP,qh,qa,qb]
 refine fun hb _=>⟨qV,by omega,zt ?_⟩
 replace h:=h (by omega)
 generalize qD (b.drop a)=t at h q1 ⊢
 obtain ⟨x,k,e⟩:=t
 dsimp only at h q1 ⊢
 have w1:IntKind.i64.wrap ((a:Int)+(k:Int))=((a+k:Nat):Int):=by rw [qi (by omega) (by omega)];omega
 simp+contextual only [w1,↓td,↓XP,qh,XW1]
 exact fun _ _ _ _ _=>h
theorem ZN {b:List UInt8} {H:AH} (hB:b.length<=1000000000) (h:R (.tup [.own (ints (jz b).1),.i ((jz b).2.1:Int),.i (jz b).2.2]) H):ACall Tryz.prog 116 [.slc (b.map ql)] H R:=by
 refine IN fun hf=>?_
 have hbig:=qk
 have hle:=Ks (b:=b)
 have hok:=za (b:=b)
 have hfin:=UM (f:=qD) (b:=b)
 have hk:∀t,jz b=t->R (.tup [.own (ints t.1),.i (t.2.1:Int),.i t.2.2]) H:=fun t ht=>by rw [<-ht];exact h
 clear h
 unfold jz at hk
 simp+contextual only [↓YN,↓YN,↓XP,qp,qa]
 refine Y5 ?_
 have hok2:(qB b).2.2=0->0<=(qB b).1∧(qB b).1+(qB b).2.1<=b.length:=fun h=>⟨(hok h).1,(hok h).2.1⟩
 have hbad:¬(qB b).2.2=0->zW qD b=([],0,(qB b).2.2):=fun h=>by unfold zW;rw [if_pos h]
 clear hok
 generalize qB b=t at hfin hle hok2 hbad ⊢
 obtain ⟨n,k,e⟩:=t
 dsimp only at hfin hle hok2 hbad ⊢
 rcases Classical.em (e=0) with c1|c1
 ·subst c1
  obtain ⟨g1,g2⟩:=hok2 rfl
  replace hfin:=hfin rfl
  obtain ⟨n,rfl⟩:=Nw g1
  rw [Nh] at hfin
  simp+contextual only [↓YN,↓XP,qp,XW1]
  obtain ⟨fi,hfi⟩:∃fi,fi=144:=⟨_,rfl⟩
  refine fun _ _ _=>fU (fi:=fi) hfi fun b2 b3 h2 h3=>?_
  have n2:=js h2
  have n3:=js h3.2
  simp+contextual only [↓YN,↓XP,qp,XW1]
  refine XW.loopK hmm (fun F H'=>∃(i a:Nat) (acc:List Int),i<=n∧a<=b.length∧acc.length=i∧zW qD b=JG acc a (QH qD (n - i) (b.drop a))∧Fr 45 [(6,.i (a:Int)),(8,.fn fi [.ptr b2 0,.ptr b3 0]),(9,.own (ints acc)),(25,.i (n:Int)),(26,.i (i:Int))] F∧H'=((b3,.cells [.i a])::(b2,.cells [.slc (b.map ql)])::H)) (fun F H=>match F.getD 26 .any with| .int _ n'=>n - n'.toNat|_=>0) ⟨0,k,[],by omega,by omega,rfl,hfin,⟨rfl,rfl,rfl,rfl,rfl,rfl,trivial⟩,rfl⟩ ?_
  rintro _ _ ⟨i,a,acc,hi,ha,hac,hfi',hF,rfl⟩ K hN hE hR
  obtain ⟨z,rfl⟩:=hF.fl rfl
  try dsimp only [fl,zz,qa,qb] at*
  clear hF
  have sl:(ints acc).length=acc.length:=jh
  rcases Classical.em (i<n) with hlt|hlt
  ·obtain ⟨m,hm⟩:∃m,n - i=m+1:=⟨n - i - 1,by omega⟩
   rw [hm] at hfi'
   have q1:=zn (b:=b.drop a)
   rw [List.length_drop] at q1
   have nx:(qD (b.drop a)).2.2=0->∀F' H',back ((b3,AO.cells [.i a])::(b2,AO.cells [.slc (b.map ql)])::H).length H'=((b3,AO.cells [.i ((a+(qD (b.drop a)).2.1:Nat):Int)])::(b2,AO.cells [.slc (b.map ql)])::H)->Fr 45 [(6,.i ((a+(qD (b.drop a)).2.1:Nat):Int)),(8,.fn fi [.ptr b2 0,.ptr b3 0]),(9,.own (ints (acc++ [(qD (b.drop a)).1]))),(25,.i (n:Int)),(26,.i ((i+1:Nat):Int))] F'->K .normal F' H':=fun he F' H' hH hF'=>hN _ _ ⟨i+1,a+(qD (b.drop a)).2.1,acc++ [(qD (b.drop a)).1],by omega,by omega,by simp;omega,by rw [hfi',Us he,show n - (i+1)=m by omega],hF',hH⟩ (by
    rw [Na,hF'.2.2.2.2.2.1]
    simp only [Nc,Nd,Ng]
    omega)
   have bad:¬(qD (b.drop a)).2.2=0->R (.tup [.own (ints []),.i 0,.i (qD (b.drop a)).2.2]) H:=fun he=>hk ([],0,(qD (b.drop a)).2.2) (by rw [hfi',aw he])
   clear hN hE hk hfin hbad hfi'
   simp+contextual only [hlt,Int.ofNat_lt,↓YN,↓XP,qp]
   rw [hfi]
   refine fw ha h3.1 n2 n3 fun _=>?_
   rw [<-hfi]
   generalize qD (b.drop a)=t at q1 nx bad ⊢
   obtain ⟨s,k,e⟩:=t
   dsimp only at q1 nx bad ⊢
   rcases Classical.em (e=0) with c2|c2
   ·subst c2
    simp+contextual only [qj (show i<=big by omega),↓YN,↓XP,qh,XW1,qc,qe]
    refine fun _ _ _=>⟨vH,by omega,nx rfl _ _ (qz rfl) ?_⟩
    rw [show ints (acc++ [s])=ints acc++ [[.i s]] by simp [ints]]
    exact ⟨rfl,rfl,rfl,rfl,rfl,rfl,trivial⟩
   ·simp+contextual only [eq_false c2,↓YN,↓XP,qp,XW1]
    refine fun _ _ _=>hR _ _ ?_
    simp+contextual only [↓XP,qp]
    exact bad c2
  ·have hik:i=n:=by omega
   subst hik
   clear hN
   rw [Nat.sub_self,aA] at hfi'
   simp+contextual only [↓YN,↓XP,qp]
   refine hE _ _ _ ?_
   simp+contextual only [↓YN,↓XP,qp,XW1]
   exact hk _ hfi'
 ·simp+contextual only [eq_false c1,↓YN,↓XP,qp,XW1]
  exact fun _ _ _=>hk _ (hbad c1)
def oC (b:List UInt8) (bad:Bool):AO:= .cells [.slc (b.map ql),.bool bad]
theorem Vq (hk:k<=b.length) (hg:qn H br=some (oC b bad))
  (h:R (.tup []) (qM H br (oC (b.drop k) (bad||decide (e≠0))))):ACall Tryz.prog 75 [.ptr br 0,.i k,.i e] H R:=by
 refine b75 fun hf=>?_
 have hbig:=qk
 unfold oC at hg h
 have hs2:∀o,qn (qM H br o) br=some o:=fun o=>Jp (by rw [hg];rfl)
 have hs3:∀o o',qM (qM H br o) br o'=qM H br o':=fun o o'=>Qo
 cases bad with
 | true=>
  simp+contextual only [↓U75,vD,hg,hs2,hs3,↓U75.1,↓XP,qh,XW1,qa,qb]
  exact fun _=>⟨qV,by omega,h⟩
 | false=>
  rcases Classical.em (e=0) with c|c
  ·subst c
   simp+contextual only [↓U75,vD,hg,hs2,hs3,↓U75.1,↓XP,qh,XW1,qa,qb]
   exact fun _=>⟨qV,by omega,h⟩
  ·rw [decide_eq_true (show e≠0 from c)] at h
   simp+contextual only [↓U75,vD,hg,hs2,hs3,eq_false c,↓U75.1,↓XP,qh,XW1,qa,qb]
   exact fun _=>⟨qV,by omega,h⟩
def yF (b:List UInt8) (bad:Bool) (many:Int) (by':Nat):Bool:=bad||decide ((jz b).2.2≠0)||decide ((0<=many∧((jz b).1.length:Int)≠many)∨(jz b).1.length % by'≠0)
def YQ (b:List UInt8) (bad:Bool) (many:Int) (by':Nat):List Int:=if yF b bad many by'=true then List.replicate many.toNat 0 else (jz b).1
theorem Qq (hB:b.length<=1000000000) (hm:many<=1000) (h0:0<by') (hby:by'<=1000) (hg:qn H br=some (oC b bad))
  (h:∀d:D,d.view= .slc (ints (YQ b bad many by'))->R d (qM H br (oC (b.drop (jz b).2.1) (yF b bad many by')))):ACall Tryz.prog 73 [.ptr br 0,.i many,.i by'] H R:=by
 refine b73 fun hf=>?_
 have hbig:=qk
 have hle:=ints_le (b:=b)
 have hg':=hg
 unfold oC at hg'
 have hs2:∀o,qn (qM H br o) br=some o:=fun o=>Jp (by rw [hg];rfl)
 have hs3:∀o o',qM (qM H br o) br o'=qM H br o':=fun o o'=>Qo
 simp+contextual only [x73,hg',↓FM,↓tz,↓XP,qh,qa,qb]
 refine fun _=>ZN hB ?_
 simp+contextual only [jh,↓FM,↓tz,↓XP,qp,XW1]
 refine fun _ _ _=>Vq hle.1 hg ?_
 generalize (jz b).2.1=k at hle h ⊢
 unfold yF YQ yF at h
 generalize (jz b).2.2=e at h ⊢
 generalize (jz b).1=l at hle h ⊢
 have hb1:(bad=true∨e≠0∨(0<=many∧(l.length:Int)≠many)∨l.length % by'≠0)->R (.own (List.replicate many.toNat [.i 0])) (qM H br (.cells [.slc ((b.drop k).map ql),.bool true])):=fun hc=>by
  have e1:(bad||decide (e≠0)||decide ((0<=many∧(l.length:Int)≠many)∨l.length % by'≠0))=true:=by simpa [or_assoc] using hc
  rw [e1,if_pos rfl] at h
  exact h _ (by rw [show ints (List.replicate many.toNat 0)=List.replicate many.toNat [.i 0] by simp [ints]];rfl)
 have hb2:¬(bad=true∨e≠0∨(0<=many∧(l.length:Int)≠many)∨l.length % by'≠0)->R (.slc (ints l)) (qM H br (.cells [.slc ((b.drop k).map ql),.bool false])):=fun hc=>by
  have e1:(bad||decide (e≠0)||decide ((0<=many∧(l.length:Int)≠many)∨l.length % by'≠0))=false:=by
   rw [<-Bool.not_eq_true]
   intro hh
   exact hc (by simpa [or_assoc] using hh)
  rw [e1,if_neg (by simp)] at h
  exact h _ rfl
 clear h
 obtain ⟨i,i1,i2⟩:∃i,Tryz.prog.info? 3=some i∧i.bytes=8:=⟨_,rfl,rfl⟩
 have m1:(if 0>many then (0:Int) else many)=(many.toNat:Int):=by split<;>omega
 have m2:(0<=(many.toNat:Int))=True:=qo
 have m3:(((8:Nat):Int)*(many.toNat:Int)<=140737488355328)=True:=qo
 have m4:((many.toNat:Int)<=140737488355328)=True:=qo
 have m5:((by':Int)=0)=False:=qy
 have m6:((l.length:Int)).tmod (by':Int)=((l.length % by':Nat):Int):=rfl
 have go:∀{p q:Prop},(p->q)->(¬p->q)->q:=fun a b=>(Classical.em _).elim a b
 refine go (p:=e=0) (fun c2=>?_) (fun c2=>?_)<;>refine go (p:=0<=many) (fun c3=>?_) (fun c3=>?_)<;>refine go (p:=(l.length:Int)=many) (fun c4=>?_) (fun c4=>?_)<;>refine go (p:=l.length % by'=0) (fun c5=>?_) (fun c5=>?_)<;>cases bad
 all_goals
  first
   |have c2':=eq_false c2
   |have c2':=eq_true c2
  first
   |have c3':=eq_false c3
   |have c3':=eq_true c3
  first
   |have c4':=eq_false c4
   |have c4':=eq_true c4
  first
   |have c5':(((l.length % by':Nat):Int)=0)=True:=qo
   |have c5':(((l.length % by':Nat):Int)=0)=False:=qy
  simp+contextual only [hs2,hs3,jh,oC,i1,i2,m1,m2,m3,m4,m5,m6,c2',c3',c4',c5',Nh,↓FM,↓tz,↓XP,qh,XW1,qb]
  intros
  first
   |(exfalso;omega)
   |exact hb1 (by simp [*])
   |exact hb2 (by simp [*])
def sml (n:Int):Prop:= -2000000<=n∧n<=2000000
theorem Vt (h:sml n):wP .i64 n:=by
 rw [kX]
 unfold sml at h
 omega
theorem KI (h:yI x∨x=Ja):sml x.o∧sml x.s∧sml x.i:=by
 unfold sml
 rcases h with h|h
 ·unfold yI at h;omega
 ·subst h;simp [Ja]
theorem rF (h:uses k≠ []):1<=k∧k<=18:=by
 refine Classical.byContradiction fun hc=>h ?_
 unfold uses
 repeat rw [if_neg (by omega)]
theorem ip (h:WO o):(∀x∈wE o,sml x)∧(∀x∈o.ids,sml x.o∧sml x.s∧sml x.i)∧o.ids.length<=4∧o.name.length<=16∧o.text.length<=1024:=by
 obtain ⟨⟨h1,h2,h3,h4,h5⟩,⟨g1,g2,g3,g4⟩,⟨i1,i2,i3,i4⟩,⟨j1,j2⟩,_⟩:=h
 have hk:=rF h1
 have hon:yI o.on∨o.on=Ja:=by
  by_cases c:79∈uses o.k
  ·exact .inl (h2 c)
  ·exact .inr (h3 c)
 have hto:yI o.to∨o.to=Ja:=by
  by_cases c:84∈uses o.k
  ·exact .inl (h4 c)
  ·exact .inr (h5 c)
 have hil:o.ids.length<=4:=by
  by_cases c:73∈uses o.k
  ·obtain ⟨_,_,c3,c4⟩:=g3 c
   by_cases c5:o.k=18
   ·have:=c3 c5;omega
   ·exact (c4 c5).2
  ·rw [g4 c];simp
 have hids:∀x∈o.ids,sml x.o∧sml x.s∧sml x.i:=by
  intro x hx
  by_cases c:73∈uses o.k
  ·exact KI (.inl ((g3 c).1 x hx).1)
  ·rw [g4 c] at hx;simp at hx
 have hn:sml o.n:=by
  by_cases c:78∈uses o.k
  ·obtain ⟨c1,c2⟩:=g1 c
   unfold QR at c1
   unfold zG at c2
   unfold sml
   constructor
   ·split at c1<;>omega
   ·repeat' (split at c2)
    all_goals omega
  ·rw [g2 c];unfold sml;omega
 have hab:sml o.a∧sml o.b:=by
  unfold sml
  by_cases c:83∈uses o.k
  ·have:=j1 c;unfold yi at this;omega
  ·have:=j2 c;omega
 have hk2:sml o.k:=by unfold sml;omega
 have a1:=KI hon
 have a2:=KI hto
 refine ⟨?_,hids,hil,?_,?_⟩
 ·intro x hx
  simp only [wE,uU,N2,N1,Nv,N4,or_false] at hx
  rcases hx with rfl|rfl|rfl|rfl|rfl|rfl|rfl|rfl|rfl|rfl
  ·exact hk2
  ·exact a1.1
  ·exact a1.2.1
  ·exact a1.2.2
  ·exact a2.1
  ·exact a2.2.1
  ·exact a2.2.2
  ·exact hn
  ·exact hab.1
  ·exact hab.2
 ·by_cases c:65∈uses o.k
  ·exact (i1 c).2
  ·rw [i2 c];simp
 ·by_cases c:88∈uses o.k
  ·exact i3 c
  ·rw [i4 c];simp
def triple (l:List Int) (j:Nat):Id3:=⟨l.getD (3*j) 0,l.getD (3*j+1) 0,l.getD (3*j+2) 0⟩
def triples (l:List Int):List Id3:=(List.range (l.length / 3)).map (triple l)
def pair (l:List Int) (j:Nat):Rf:=⟨l.getD (2*j) 0,l.getD (2*j+1) 0⟩
def pairs (l:List Int):List Rf:=(List.range (l.length / 2)).map (pair l)
theorem Qi:∀(l:List Id3),triples (l.flatMap uU)=l
 | []=>rfl
 | x::l=>by
  have h:=Qi l
  unfold triples at h ⊢
  rw [vN] at h ⊢
  rw [show 3*(x::l).length / 3=l.length+1 by rw [Nj];omega,List.range_succ_eq_map,List.map_cons,N3]
  rw [show 3*l.length / 3=l.length by omega] at h
  rw [show triple ((x::l).flatMap uU) 0=x from rfl]
  exact congrArg _ h
theorem KB:∀(l:List Rf),pairs (jj l)=l
 | []=>rfl
 | x::l=>by
  have h:=KB l
  unfold pairs at h ⊢
  rw [wB] at h ⊢
  rw [show 2*(x::l).length / 2=l.length+1 by rw [Nj];omega,List.range_succ_eq_map,List.map_cons,N3]
  rw [show 2*l.length / 2=l.length by omega] at h
  rw [show pair (jj (x::l)) 0=x from rfl]
  exact congrArg _ h
theorem VN (h:∀x∈l,wP .i64 x) (hb:l.length<=140737488355328) (hm:0<=many->(l.length:Int)=many) (hy:l.length % by'=0):
  yF (qK l++r) false many by'=false∧YQ (qK l++r) false many by'=l∧(qK l++r).drop (jz (qK l++r)).2.1=r:=by
 have e:=la (rest:=r) h hb
 have e1:yF (qK l++r) false many by'=false:=by
  unfold yF
  rw [e]
  simp [hy]
  exact hm
 refine ⟨e1,?_,?_⟩
 ·unfold YQ
  rw [e1,e]
  rfl
 ·rw [e]
  exact List.drop_left
def E3 (l:List Int) (ids:List Id3) (name text:List UInt8):OpP:=⟨l.getD 0 0,⟨l.getD 1 0,l.getD 2 0,l.getD 3 0⟩,⟨l.getD 4 0,l.getD 5 0,l.getD 6 0⟩,ids,l.getD 7 0,name,text,l.getD 8 0,l.getD 9 0⟩
def KP (l m:List Int) (b2:List UInt8) (x2:Bool):OpP×List UInt8×Bool:=
 if (kj b2).1.length=2 then (E3 l (triples m) ((kj b2).1.getD 0 []) ((kj b2).1.getD 1 []),b2.drop (kj b2).2.1,x2||decide ((kj b2).2.2≠0))
 else (E3 l (triples m) [] [],b2.drop (kj b2).2.1,true)
def VO (l:List Int) (b1:List UInt8) (x1:Bool):OpP×List UInt8×Bool:=KP l (YQ b1 x1 (-1) 3) (b1.drop (jz b1).2.1) (yF b1 x1 (-1) 3)
def jC (b:List UInt8) (bad:Bool):OpP×List UInt8×Bool:=VO (YQ b bad 10 1) (b.drop (jz b).2.1) (yF b bad 10 1)
theorem sP (h:WO o):jC (jM o++r) false=(o,r,false):=by
 obtain ⟨h1,h2,h3,h4,h5⟩:=ip h
 have e:jM o++r=qK (wE o)++(qK (o.ids.flatMap uU)++(yt [o.name,o.text]++r)):=by simp only [jM,No]
 have l10:(wE o).length=10:=rfl
 obtain ⟨a1,a2,a3⟩:=VN (l:=wE o) (r:=qK (o.ids.flatMap uU)++(yt [o.name,o.text]++r)) (many:=10) (by':=1) (fun x hx=>Vt (h1 x hx)) (by omega) (fun _=>by rw [l10];rfl) (by omega)
 have hi:∀x∈o.ids.flatMap uU,wP .i64 x:=by
  intro x hx
  obtain ⟨y,hy,hx⟩:=List.mem_flatMap.1 hx
  have:=h2 y hy
  simp only [uU,Nv,N4,or_false] at hx
  rcases hx with rfl|rfl|rfl
  ·exact Vt this.1
  ·exact Vt this.2.1
  ·exact Vt this.2.2
 obtain ⟨b1,b2,b3⟩:=VN (l:=o.ids.flatMap uU) (r:=yt [o.name,o.text]++r) (many:= -1) (by':=3) hi (by rw [vN];omega) (fun hc=>by omega) (by rw [vN];omega)
 have s1:=i9 (l:= [o.name,o.text]) (rest:=r) (by
  intro x hx
  simp only [Nv,N4,or_false] at hx
  rcases hx with rfl|rfl<;>omega) (by simp)
 unfold jC VO
 rw [e,a1,a2,a3,b1,b2,b3]
 unfold KP
 rw [s1,Qi]
 dsimp only
 rw [if_pos (by rfl),List.drop_left]
 rfl
def oE:Nat->List UInt8->Bool->List OpP×List UInt8×Bool
 |0,b,bad=>([],b,bad)
 |c+1,b,bad=>if bad=true then ([],b,bad) else ((jC b bad).1::(oE c (jC b bad).2.1 (jC b bad).2.2).1,(oE c (jC b bad).2.1 (jC b bad).2.2).2)
theorem U9:∀(l:List OpP) (r:List UInt8),(∀o∈l,WO o)->oE l.length (l.flatMap jM++r) false=(l,r,false)
 | [],r,_=>rfl
 | o::l,r,h=>by
  have e:=sP (r:=l.flatMap jM++r) (h o (.head _))
  have e2:=U9 l r (fun x hx=>h x (.tail _ hx))
  rw [show (o::l).flatMap jM++r=jM o++(l.flatMap jM++r) by simp,Nj]
  unfold oE
  rw [e]
  dsimp only
  rw [e2]
  rfl
def vc (many:Int):Nat:=min many.toNat 17
def fD (l m:List Int) (ops:List OpP) (b4:List UInt8) (x4:Bool):Pt×Bool:=(⟨l.getD 0 0,l.getD 1 0,l.getD 2 0,pairs m,ops,(ja b4).1⟩,x4||decide ((ja b4).2.2≠0))
def Gx (l m:List Int) (b2:List UInt8) (x2:Bool):Pt×Bool:=
 fD l m (oE (vc (qD b2).1) (b2.drop (qD b2).2.1) (x2||decide ((qD b2).2.2≠0))).1 (oE (vc (qD b2).1) (b2.drop (qD b2).2.1) (x2||decide ((qD b2).2.2≠0))).2.1 (oE (vc (qD b2).1) (b2.drop (qD b2).2.1) (x2||decide ((qD b2).2.2≠0))).2.2
def G5 (l:List Int) (b1:List UInt8) (x1:Bool):Pt×Bool:=Gx l (YQ b1 x1 (-1) 2) (b1.drop (jz b1).2.1) (yF b1 x1 (-1) 2)
def zg (b:List UInt8):Pt×Bool:=G5 (YQ b false 3 1) (b.drop (jz b).2.1) (yF b false 3 1)
def Good (p:Pt):Prop:=JL p=0
theorem Gj (h:Good p):yR p∧p.needs.length<=8∧p.ops.length<=16∧ud p∧gq p∧p.sl.length<=1200:=by
 unfold Good JL at h
 by_cases c:jl p=0
 ·rw [if_neg (fun d=>d c)] at h
  have hs:p.sl.length<=1200:=by
   split at h
   ·simp at h
   ·omega
  unfold jl at c
  by_cases c1:yR p
  ·rw [if_neg (fun d=>d c1)] at c
   by_cases c2:8<p.needs.length∨16<p.ops.length
   ·rw [if_pos c2] at c;simp at c
   rw [if_neg c2] at c
   by_cases c3:p.ops= []
   ·rw [if_pos c3] at c;simp at c
   rw [if_neg c3] at c
   by_cases c4:ud p
   ·rw [if_neg (fun d=>d c4)] at c
    by_cases c5:gq p
    ·exact ⟨c1,by omega,by omega,c4,c5,hs⟩
    ·rw [if_pos c5] at c;simp at c
   ·rw [if_pos c4] at c;simp at c
  ·rw [if_pos c1] at c;simp at c
 ·rw [if_pos c] at h;exact (c h).elim
theorem tJ (h:Good p):zg (jK p)=(p,false):=by
 obtain ⟨h1,h2,h3,h4,h5,h6⟩:=Gj h
 unfold yR at h1
 have e:jK p=qK [p.o,p.s,p.day]++(qK (jj p.needs)++(qr p.ops.length++(p.ops.flatMap jM++(qF p.sl++ [])))):=by simp only [jK,No,N0]
 obtain ⟨a1,a2,a3⟩:=VN (l:= [p.o,p.s,p.day]) (r:=qK (jj p.needs)++(qr p.ops.length++(p.ops.flatMap jM++(qF p.sl++ [])))) (many:=3) (by':=1) (by
  intro x hx
  simp only [Nv,N4,or_false] at hx
  rw [kX]
  rcases hx with rfl|rfl|rfl<;>omega) (by simp) (fun _=>rfl) (by simp)
 obtain ⟨b1,b2,b3⟩:=VN (l:=jj p.needs) (r:=qr p.ops.length++(p.ops.flatMap jM++(qF p.sl++ []))) (many:= -1) (by':=2) (by
  intro x hx
  obtain ⟨y,hy,hx⟩:=List.mem_flatMap.1 hx
  obtain ⟨i,hi,hy⟩:=List.getElem_of_mem hy
  have hv:=h4 i hi
  unfold yJ at hv
  rw [jB hi,hy] at hv
  simp only [Nv,N4,or_false] at hx
  rw [kX]
  rcases hx with rfl|rfl<;>omega) (by rw [wB];omega) (fun hc=>by omega) (by rw [wB];omega)
 have c1:=Kc (m:=(p.ops.length:Int)) (rest:=p.ops.flatMap jM++(qF p.sl++ [])) (G9 (by omega))
 have d1:=U9 p.ops (qF p.sl++ []) h5
 have f1:=Wu (s:=p.sl) (rest:= []) (by omega)
 unfold zg G5
 rw [e,a1,a2,a3,b1,b2,b3]
 unfold Gx
 rw [c1,show vc ((p.ops.length:Int),(qr (p.ops.length:Int)).length,(0:Int)).1=p.ops.length by simp [vc];omega,List.drop_left]
 rw [show (false||decide (((p.ops.length:Int),(qr (p.ops.length:Int)).length,(0:Int)).2.2≠0))=false from rfl,d1]
 unfold fD
 rw [f1,KB]
 rfl
noncomputable def Qg (b:List UInt8):Pt×Int:=open Classical in if (zg b).2=false∧JL (zg b).1=0∧jK (zg b).1=b then ((zg b).1,0) else (pt0,2)
theorem Zn (h:Good p):Qg (jK p)=(p,0):=by
 unfold Qg
 rw [tJ h,if_pos ⟨rfl,h,rfl⟩]
theorem r74 (h:facts args->xcode Tryz.prog (B6 0) (args++List.replicate (9 - args.length) (.tup [])) H (Um Tryz.prog [(.tmp 4)] R)):ACall Tryz.prog 74 args H R:=
 yV hm Tryz.func74 rfl (by kernel_rfl) (by kernel_rfl) (by kernel_rfl) (by kernel_rfl) (by kernel_rfl) (by kernel_rfl) h
theorem GV (hfi:fi=117) (hk:1<=k) (h:∀b2 b3,qH H b2->(b2≠b3∧qH H b3)->R (.fn fi [.ptr b2 0,.ptr b3 0]) ((b3,.cells [.i k])::(b2,.cells [.slc xs])::H)):ACall Tryz.prog 74 [.slc xs,.i k] H R:=by
 refine r74 fun hf=>?_
 subst hfi
 simp+contextual only [↓U74,zM,QT,show (k<1)=False from qy,↓U74,↓XP,qh,XW1,qa,qb]
 refine fun b2 h2 b3 h3 _=>⟨_,Sbn.sub (List.Sublist.refl _),h b2 b3 h2 h3⟩
theorem aq {b:List UInt8} {bad:Bool} {m:Nat}:(YQ b bad (m:Int) 1).length=m:=by
 unfold YQ
 split
 ·simp
 ·next h=>
  unfold yF at h
  simp at h
  omega
theorem im:(YQ b bad (-1) k).length % k=0:=by
 unfold YQ
 split
 ·simp
 ·next h=>
  unfold yF at h
  simp at h
  exact h.2
theorem Gn:(YQ b bad (-1) k).length<=b.length:=by
 unfold YQ
 split
 ·simp
 ·exact ints_le.2
theorem ij (h:l.length=10):∃a0 a1 a2 a3 a4 a5 a6 a7 a8 a9,l= [a0,a1,a2,a3,a4,a5,a6,a7,a8,a9]:=by
 match l,h with
 | [a0,a1,a2,a3,a4,a5,a6,a7,a8,a9],_=>exact ⟨_,_,_,_,_,_,_,_,_,_,rfl⟩
theorem mq (h3:m.length % 3=0) (hj:j<uF (ints m).length 3):(jV (ints m) 3 j).length=3∧(jV (ints m) 3 j).getD 0 []= [.i (triple m j).o]∧(jV (ints m) 3 j).getD 1 []= [.i (triple m j).s]∧(jV (ints m) 3 j).getD 2 []= [.i (triple m j).i]:=by
 unfold uF at hj
 rw [jh] at hj
 have hlt:j*3+2<m.length:=by omega
 have hg:∀i,i<3->(jV (ints m) 3 j).getD i []= [.i (m.getD (3*j+i) 0)]:=by
  intro i hi
  unfold jV
  rw [Na,List.getElem?_take_of_lt hi,List.getElem?_drop,ints,Nf,Nb (show j*3+i<m.length by omega)]
  rw [Na,Nb (show 3*j+i<m.length by omega)]
  simp only [Option.map_some,Ng,Nat.mul_comm j 3]
 refine ⟨?_,hg 0 (by omega),hg 1 (by omega),hg 2 (by omega)⟩
 unfold jV
 rw [Ny,List.length_drop,jh]
 omega
theorem pX (h3:m.length % 3=0):uF (ints m).length 3=m.length / 3:=by
 unfold uF
 rw [jh]
 omega
theorem HM {b:List UInt8} {bad:Bool} {br:Nat} {H:AH} (hB:b.length<=1000000000) (hg:qn H br=some (oC b bad)) (h:R (.agg (jC b bad).1.d) (qM H br (oC (jC b bad).2.1 (jC b bad).2.2))):ACall Tryz.prog 76 [.ptr br 0] H R:=by
 refine b76 fun hf=>?_
 have hbig:=qk
 simp+contextual only [x76,↓xf,↓yX,↓YU,↓XP,qh,qa]
 intro b2 h2
 have e2:br≠b2:=fun e=>by
  have:=js h2
  rw [<-e,hg] at this
  simp at this
 refine Qq (b:=b) (bad:=bad) (many:=((10:Nat):Int)) (by':=1) hB (by omega) (by omega) (by omega) (by rw [qg e2];exact hg) fun d hd=>?_
 rw [qm e2]
 have hg1:∀o,qn (qM H br o) br=some o:=fun o=>Jp (by rw [hg];rfl)
 have hl:=aq (b:=b) (bad:=bad) (m:=10)
 obtain ⟨l,hl0⟩:∃l,YQ b bad ((10:Nat):Int) 1=l:=⟨_,rfl⟩
 obtain ⟨bad1,hbad1⟩:∃x,yF b bad ((10:Nat):Int) 1=x:=⟨_,rfl⟩
 obtain ⟨c1,hc1⟩:∃x,b.drop (jz b).2.1=x:=⟨_,rfl⟩
 rw [hl0] at hl hd
 rw [hbad1,hc1]
 obtain ⟨a0,a1,a2,a3,a4,a5,a6,a7,a8,a9,rfl⟩:=ij hl
 have hB1:c1.length<=1000000000:=by rw [<-hc1];simp;omega
 clear hl
 obtain ⟨xs,hxs,hx10,x0,x1,x2,x3,x4,x5,x6,x7,x8,x9⟩:∃xs,ints [a0,a1,a2,a3,a4,a5,a6,a7,a8,a9]=xs∧xs.length=10∧xs.getD 0 []= [.i a0]∧xs.getD 1 []= [.i a1]∧xs.getD 2 []= [.i a2]∧xs.getD 3 []= [.i a3]∧xs.getD 4 []= [.i a4]∧xs.getD 5 []= [.i a5]∧xs.getD 6 []= [.i a6]∧xs.getD 7 []= [.i a7]∧xs.getD 8 []= [.i a8]∧xs.getD 9 []= [.i a9]:=⟨_,rfl,rfl,rfl,rfl,rfl,rfl,rfl,rfl,rfl,rfl,rfl,rfl⟩
 rw [hxs] at hd
 simp+contextual only [hd,hx10,x0,x1,x2,x3,x4,x5,x6,x7,x8,x9,show ((10:Nat):Int)=10 from rfl,Nr,Nt,Nu,↓xf,↓yX,↓YU,↓XP,qh,XW1,qb,qe]
 refine fun _ _ _ _ _ _ _ _ _ _ _=>⟨by omega,fun b4 hb4=>?_⟩
 obtain ⟨h24,h4⟩:=hb4
 have e4:br≠b4:=fun e=>by
  have:=js h4
  rw [<-e,hg] at this
  simp at this
 rw [Jx]
 refine Gz.take (j:=7) rfl (fun h=>(h rfl).elim) ?_
 simp only [jF,if_true]
 simp+contextual only [↓yX,↓YU,↓XP,qp]
 refine Qq (b:=c1) (bad:=bad1) (many:= -1) (by':=3) hB1 (by omega) (by omega) (by omega) (by rw [qg e4,qg e2];exact hg1 _) fun d2 hd2=>?_
 rw [qm e4,qm e2,Qo]
 have hm3:=im (b:=c1) (bad:=bad1) (k:=3)
 have hml:=Gn (b:=c1) (bad:=bad1) (k:=3)
 obtain ⟨m,hm0⟩:∃m,YQ c1 bad1 (-1) ((3:Nat):Int).toNat=m:=⟨_,rfl⟩
 rw [show ((3:Nat):Int).toNat=3 from rfl] at hm0
 obtain ⟨bad2,hbad2⟩:∃x,yF c1 bad1 (-1) 3=x:=⟨_,rfl⟩
 obtain ⟨c2,hc2⟩:∃x,c1.drop (jz c1).2.1=x:=⟨_,rfl⟩
 have hB2:c2.length<=1000000000:=by rw [<-hc2];simp;omega
 rw [hm0] at hm3 hml hd2
 rw [hbad2,hc2]
 obtain ⟨fi,hfi⟩:∃fi,fi=117:=⟨_,rfl⟩
 simp+contextual only [jh,hd2,↓yX,↓YU,↓XP,qp]
 refine fun _=>GV (fi:=fi) hfi (by omega) fun bA bB hA hB'=>?_
 simp+contextual only [↓yX,↓YU,↓XP,qp,XW1]
 have hAB:bA≠bB:=hB'.1
 refine XRF.chunkK hm (by rw [hfi];exact pM) (p:=48) (t:=5) (k:=3) (xs:=ints m) (b1:=bA) (b2:=bB) (f:=fi) rfl (by show (48:Nat)<93;omega) (by rw [qg hAB];exact ji) ji (by omega) (by omega) vH
  (fun pre H'=>H'=((b4,AO.cells [.i a0,.i a1,.i a2,.i a3,.i a4,.i a5,.i a6,.own (j5 (pre.map (triple m))),.i a7,.str [],.str [],.i a8,.i a9])::(b2,AO.cells [.i 0,.i 0,.i 0,.i 0,.i 0,.i 0,.i 0,.own [],.i 0,.str [],.str [],.i 0,.i 0])::qM H br (oC c2 bad2)))
  _ (by rw [uk hAB,vY,vY];exact Sbn.sub (List.Sublist.refl _)) rfl ?_ ?_
 ·intro pre j H' hI hj hpl hfact K hK
  subst hI
  obtain ⟨y3,y0,y1,y2⟩:=mq hm3 hj
  rw [pX hm3] at hj hpl
  generalize jV (ints m) 3 j=ys at y3 y0 y1 y2 ⊢
  have nx:=fun F' H''=>hK F' H'' _ (Sbn.sub (List.Sublist.refl _)) 
  clear hK
  rw [Nn,List.map_cons,List.map_nil,<-Vy] at nx
  have il:(j5 (pre.map (triple m))).length=pre.length:=by simp [j5]
  have hac:=Uu (l:=pre.map (triple m))
  generalize j5 (pre.map (triple m))=acc at nx il hac ⊢
  generalize triple m j=tj at nx y0 y1 y2
  simp+contextual only [y3,y0,y1,y2,hd,hd2,show ((3:Nat):Int)=3 from rfl,Nr,Nt,Nu,↓xf,↓yX,↓YU,↓XP,qh,XW1,qb,qc,qe]
  have n4:qn ((b2,AO.cells [.i 0,.i 0,.i 0,.i 0,.i 0,.i 0,.i 0,.own [],.i 0,.str [],.str [],.i 0,.i 0])::qM H br (oC c2 bad2)) b4=none:=by
   rw [qg (Ne.symm h24),aM (Ne.symm e4)]
   exact js h4
  exact ⟨.inl n4,fun _ _ _=>⟨hac,by omega,by omega,nx _ _ rfl⟩⟩
 ·intro H' hI
  subst hI
  rw [pX hm3,show (List.range (m.length / 3)).map (triple m)=triples m from rfl]
  have hg5:qn ((b4,AO.cells [.i a0,.i a1,.i a2,.i a3,.i a4,.i a5,.i a6,.own (j5 (triples m)),.i a7,.str [],.str [],.i a8,.i a9])::(b2,AO.cells [.i 0,.i 0,.i 0,.i 0,.i 0,.i 0,.i 0,.own [],.i 0,.str [],.str [],.i 0,.i 0])::qM H br (oC c2 bad2)) br=some (oC c2 bad2):=by
   rw [qg e4,qg e2]
   exact hg1 _
  have hg5':=hg5
  unfold oC at hg5'
  simp+contextual only [hd,hd2,hg5',oC,↓xf,↓yX,↓YU,↓XP,qh]
  refine fun _=>YR hB2 ?_
  simp+contextual only [↓xf,↓yX,↓YU,↓XP,qp,XW1]
  refine fun _ _ _=>Vq (b:=c2) (bad:=bad2) strs_le.1 hg5 ?_
  rw [qm e4,qm e2,Qo]
  obtain ⟨ss,hss⟩:∃s,kj c2=s:=⟨_,rfl⟩
  rw [hss]
  obtain ⟨ss,kk,ee⟩:=ss
  dsimp only
  have sl:(strs ss).length=ss.length:=jd
  have hp:jC b bad=KP [a0,a1,a2,a3,a4,a5,a6,a7,a8,a9] m c2 bad2:=by
   unfold jC VO
   rw [show YQ b bad 10 1=_ from hl0,show yF b bad 10 1=_ from hbad1,hc1,hm0,hc2,hbad2]
  rw [hp] at h
  clear hp
  unfold KP at h
  rw [hss] at h
  dsimp only at h
  by_cases c2l:ss.length=2
  ·have s0:=kq (l:=ss) (i:=0) (by omega)
   have s1:=kq (l:=ss) (i:=1) (by omega)
   have c2':((ss.length:Int)=2)=True:=qo
   rw [if_pos c2l] at h
   have n4:∀o,qn ((b2,AO.cells [.i 0,.i 0,.i 0,.i 0,.i 0,.i 0,.i 0,.own [],.i 0,.str [],.str [],.i 0,.i 0])::qM H br o) b4=none:=fun o=>by
    rw [qg (Ne.symm h24),aM (Ne.symm e4)]
    exact js h4
   simp+contextual only [sl,c2l,s0,s1,n4,qg h24,qm h24,show ((2:Nat):Int)=2 from rfl,show (9<13)=True from qo,show (10<13)=True from qo,Nr,Nt,Nu,↓xf,↓yX,↓YU,↓XP,qh,XW1,qb]
   exact fun _ _ _=>h
  ·have c2':((ss.length:Int)=2)=False:=qy
   rw [if_neg c2l] at h
   simp+contextual only [sl,c2',qg e4,qg e2,hg1,oC,qm e4,qm e2,Qo,qg h24,qm h24,↓xf,↓yX,↓YU,↓XP,qh,XW1,qb]
   exact fun _=>h
theorem Uv {α:Type} {f:List UInt8->α×Nat×Int} {p:α->Prop} {B:Nat} (hf:∀b,b.length<=B->p (f b).1):∀(n:Nat) (b:List UInt8),b.length<=B->∀x∈(QH f n b).1,p x
 |0,b,_=>by simp [QH]
 | n+1,b,hb=>by
  have h2:=Uv hf n (b.drop (f b).2.1) (by simp;omega)
  unfold QH
  split
  ·simp
  ·split
   ·simp
   ·intro x hx
    rcases List.mem_cons.1 hx with rfl|hx
    ·exact hf b hb
    ·exact h2 x hx
theorem eI {b:List UInt8} {B:Nat} (hb:b.length<=B):∀x∈(kj b).1,x.length<=B:=by
 unfold kj zW
 split
 ·simp
 ·split
  ·simp
  ·exact Uv (f:=ja) (p:=fun x:List UInt8=>x.length<=B) (B:=B) (fun b hb=>Np Ui hb) _ _ (by rw [List.length_drop];omega)
theorem WA {l:List (List UInt8)} {B i:Nat} (h:∀x∈l,x.length<=B):(l.getD i []).length<=B:=by
 rw [Na]
 cases e:l[i]? with
 |none=>simp
 |some x=>exact h x (List.mem_of_getElem? e)
theorem pY {b:List UInt8} {bad:Bool} {B:Nat} (hb:b.length<=B):(jC b bad).1.ids.length<=B∧(jC b bad).1.name.length<=B∧(jC b bad).1.text.length<=B∧(jC b bad).2.1.length<=b.length:=by
 unfold jC VO KP
 obtain ⟨c1,h1⟩:∃x,b.drop (jz b).2.1=x:=⟨_,rfl⟩
 have l1:c1.length<=b.length:=by rw [<-h1];simp
 rw [h1]
 obtain ⟨c2,h2⟩:∃x,c1.drop (jz c1).2.1=x:=⟨_,rfl⟩
 have l2:c2.length<=c1.length:=by rw [<-h2];simp
 rw [h2]
 have h3:=Gn (b:=c1) (bad:=yF b bad 10 1) (k:=3)
 have h4:(triples (YQ c1 (yF b bad 10 1) (-1) 3)).length<=B:=by unfold triples;rw [Nl,Nz];omega
 have h5:=eI (b:=c2) (B:=B) (by omega)
 split
 ·refine ⟨h4,WA h5,WA h5,?_⟩
  show (c2.drop _).length<=_
  rw [List.length_drop]
  omega
 ·refine ⟨h4,Nat.zero_le _,Nat.zero_le _,?_⟩
  show (c2.drop _).length<=_
  rw [List.length_drop]
  omega
theorem aX:∀(c:Nat) (b:List UInt8) (bad:Bool),b.length<=B->(oE c b bad).1.length<=c∧(oE c b bad).2.1.length<=b.length∧∀o∈(oE c b bad).1,o.ids.length<=B∧o.name.length<=B∧o.text.length<=B
 |0,b,bad,hb=>by simp [oE]
 | c+1,b,bad,hb=>by
  unfold oE
  split
  ·simp
  ·have h1:=pY (b:=b) (bad:=bad) hb
   have h2:=aX (B:=B) c (jC b bad).2.1 (jC b bad).2.2 (by omega)
   refine ⟨by simp;exact h2.1,by dsimp only;omega,?_⟩
   intro o ho
   rcases List.mem_cons.1 ho with rfl|ho
   ·exact ⟨h1.1,h1.2.1,h1.2.2.1⟩
   ·exact h2.2.2 o ho
theorem ZQ (h:l.length=3):∃a0 a1 a2,l= [a0,a1,a2]:=by
 match l,h with
 | [a0,a1,a2],_=>exact ⟨_,_,_,rfl⟩
theorem n8 (h2:m.length % 2=0) (hj:j<uF (ints m).length 2):(jV (ints m) 2 j).length=2∧(jV (ints m) 2 j).getD 0 []= [.i (pair m j).o]∧(jV (ints m) 2 j).getD 1 []= [.i (pair m j).s]:=by
 unfold uF at hj
 rw [jh] at hj
 have hlt:j*2+1<m.length:=by omega
 have hg:∀i,i<2->(jV (ints m) 2 j).getD i []= [.i (m.getD (2*j+i) 0)]:=by
  intro i hi
  unfold jV
  rw [Na,List.getElem?_take_of_lt hi,List.getElem?_drop,ints,Nf,Nb (show j*2+i<m.length by omega)]
  rw [Na,Nb (show 2*j+i<m.length by omega)]
  simp only [Option.map_some,Ng,Nat.mul_comm j 2]
 refine ⟨?_,hg 0 (by omega),hg 1 (by omega)⟩
 unfold jV
 rw [Ny,List.length_drop,jh]
 omega
theorem pH (h2:m.length % 2=0):uF (ints m).length 2=m.length / 2:=by
 unfold uF
 rw [jh]
 omega
theorem aB {a b:List UInt8} {H:AH} (h:R (.bool (decide (a=b))) H):ACall Tryz.prog 78 [.slc (a.map ql),.slc (b.map ql)] H R:=by
 refine b78 fun hf=>?_
 simp+contextual only [↓U78,K5,↓U78.1,↓XP,qh,qa,qb]
 exact ⟨Qh,fun _=>⟨Qh,fun _=>h⟩⟩
theorem KK:∀n:Nat,jq l out n<n∧ -1<=jq l out n
 |0=>by simp [jq]
 | n+1=>by
  have:=KK (l:=l) (out:=out) n
  unfold jq
  split<;>omega
theorem J8:∀n:Nat,∀p∈(j6 l n).1,p∈l
 |0=>by simp [j6]
 | n+1=>by
  have h:=J8 (l:=l) n
  unfold j6
  dsimp only
  split
  ·split
   ·exact h
   ·rename_i hc
    intro p hp
    rcases List.mem_append.1 hp with hp|hp
    ·exact h p hp
    ·rw [List.mem_singleton.1 hp]
     have:=KK (l:=l) (out:=(j6 l n).1) l.length
     exact Ul (by omega)
  ·exact h
theorem WH (hr:ready out (l.getD i default)=true) (hk:known out (l.getD i default).o (l.getD i default).s=false):∀n:Nat,i<n->0<=jq l out n
 |0,h=>by omega
 | n+1,h=>by
  unfold jq
  split
  ·omega
  ·rename_i hc
   by_cases e:i=n
   ·subst e
    refine Classical.byContradiction fun hneg=>hc ?_
    unfold better
    dsimp only
    rw [hr,hk]
    simp
    left
    left
    omega
   ·exact WH hr hk n (by omega)
theorem V1 (h:(j6 l n).1≠ []):(j6 l (n+1)).1≠ []:=by
 unfold j6
 dsimp only
 split
 ·split
  ·exact h
  ·simp
 ·exact h
theorem GG (h0:0<l.length) (h1:(l.getD 0 default).needs= []) (h2:(l.getD 0 default).s=1):ordered l≠ []:=by
 have hb:0<=jq l [] l.length:=WH (i:=0) (by unfold ready;rw [h1,h2];simp) (by simp [known]) _ h0
 have base:(j6 l 1).1≠ []:=by
  have hb':¬(jq l (j6 l 0).1 l.length<0):=by
   show ¬(jq l [] l.length<0)
   omega
  unfold j6
  dsimp only
  rw [if_pos (show (j6 l 0).2=true from rfl),if_neg hb']
  simp
 have go:∀n:Nat,(j6 l (n+1)).1≠ []:=by
  intro n
  induction n with
  |zero=>exact base
  |succ n ih=>exact V1 ih
 unfold ordered
 obtain ⟨n,hn⟩:∃n,l.length=n+1:=⟨l.length - 1,by omega⟩
 rw [hn]
 exact go n
theorem Kj:∀q:Nat,(qE ⟨[],[]⟩ o m q).p={pt0 with o:=o,s:=1,day:=1}
 |0=>rfl
 | q+1=>by
  have h:=Kj (o:=o) (m:=m) q
  simp only [qE]
  unfold yq
  dsimp only
  rw [if_pos (.inl (by simp [last,va]))]
  exact h
theorem Zd (l:List Int):∀i:Nat,0<i->((jc l offices i).l.getD 0 default).needs= []∧((jc l offices i).l.getD 0 default).s=1
 |0,h=>by omega
 | 1,_=>by
  have hg:=GInv.nil
  have e:(jc l offices 1).l=(next ⟨[],[]⟩ offices (l.drop (2+32*0))).l:=rfl
  rw [e]
  unfold Go.Proofs.YtgopigkdcmhbbaaGreatDoor.next
  dsimp only
  have hr:=Kj (o:=qG (l.drop (2+32*0)) 0 offices) (m:=l.drop (2+32*0)) offices
  obtain ⟨_,g2,_,_⟩:=kr (x:=⟨[],[]⟩) (o:=qG (l.drop (2+32*0)) 0 offices) (m:=l.drop (2+32*0)) offices
  obtain ⟨h1,_⟩:=wI hg (o:=qG (l.drop (2+32*0)) 0 offices) (m:=l.drop (2+32*0)) offices
  generalize qE ⟨[],[]⟩ (qG (l.drop (2+32*0)) 0 offices) (l.drop (2+32*0)) offices=s at hr g2 h1 ⊢
  obtain ⟨more,e1,_⟩:=uQ (x:=⟨[],[]⟩) (seen:=s.seen) (p:={s.p with day:=s.p.day+qG (l.drop (2+32*0)) 4 4}) (m:=l.drop (2+32*0)) g2 (VOk.base hg h1 g2) (1+jR (l.drop (2+32*0)) 5 2)
  have e3:=e1.eq
  generalize jr ⟨[],[]⟩ s.seen {s.p with day:=s.p.day+qG (l.drop (2+32*0)) 4 4} (l.drop (2+32*0)) (1+jR (l.drop (2+32*0)) 5 2)=p at e3 ⊢
  simp only [N1,Nd]
  rw [e3]
  dsimp only
  rw [hr]
  exact ⟨rfl,rfl⟩
 | i+2,_=>by
  have h:=Zd l (offices:=offices) (i+1) (by omega)
  have e:(jc l offices (i+2)).l=(next (jc l offices (i+1)) offices (l.drop (2+32*(i+1)))).l:=rfl
  rw [e]
  unfold Go.Proofs.YtgopigkdcmhbbaaGreatDoor.next
  dsimp only
  rw [wj ?_]
  ·exact h
  ·have e2:(jc l offices (i+1)).l=(next (jc l offices i) offices (l.drop (2+32*i))).l:=rfl
   rw [e2,UE]
   omega
theorem tV {b3 b6} (hb3:b3.length<=3000000) (nr6:br≠b6) (n26:b2≠b6) (h6:qH H b6) (nbr:br≠b2) (hr:qH H br)
  (hF:∀i:Nat,i=0->Fr 116 [(0,.slc xb),(2,.ptr b2 0),(4,.ptr br 0),(6,.ptr b6 0),(8,.i many),(11,.i (i:Int))] F)
  (hE:∀(os:List OpP) (bb:List UInt8) (bad:Bool),oE (vc many) b3 x3=(os,bb,bad)->∀F',Fr 116 [(0,.slc xb),(2,.ptr b2 0),(4,.ptr br 0),(6,.ptr b6 0)] F'->Q (.exit 2) F' ((b6,AO.cells [.i a0,.i a1,.i a2,nd,.own (qw os),.str []])::(br,oC bb bad)::(b2,zo)::H)):
  XW Tryz.prog x36_L3 F ((b6,AO.cells [.i a0,.i a1,.i a2,nd,.own [],.str []])::(br,oC b3 x3)::(b2,zo)::H) Q:=by
 have hbig:=qk
 have hc17:vc many<=17:=by unfold vc;omega
 refine XW.loopK hmm (fun F H'=>∃(i:Nat) (os:List OpP) (bb:List UInt8) (bad:Bool),i<=vc many∧os.length=i∧bb.length<=3000000∧oE (vc many) b3 x3=(os++(oE (vc many - i) bb bad).1,(oE (vc many - i) bb bad).2)∧Fr 116 [(0,.slc xb),(2,.ptr b2 0),(4,.ptr br 0),(6,.ptr b6 0),(8,.i many),(11,.i (i:Int))] F∧H'=((b6,AO.cells [.i a0,.i a1,.i a2,nd,.own (qw os),.str []])::(br,oC bb bad)::(b2,zo)::H)) (fun F H=>match F.getD 11 .any with| .int _ n'=>17 - n'.toNat|_=>0) ⟨0,[],b3,x3,by omega,rfl,hb3,by simp,hF 0 rfl,rfl⟩ ?_
 rintro _ _ ⟨i,os,bb,bad,hi,hos,hbb,hcon,hF,rfl⟩ K hN hE' hR
 obtain ⟨z,rfl⟩:=hF.fl rfl
 try dsimp only [fl,zz,qa,qb] at*
 clear hF hR
 have ol:(qw os).length=os.length:=qQ
 have nb6:qn ((b2,zo)::H) b6=none:=js ⟨Ne.symm n26,h6⟩
 have nb7:qn ((b2,zo)::H) br=none:=js ⟨nbr,hr⟩
 by_cases hlt:i<vc many∧bad=false
 ·obtain ⟨hlt,hbd⟩:=hlt
  subst hbd
  have m1:((i:Int)<many)=True:=eq_true (by unfold vc at hlt;omega)
  have m2:((i:Int)<=16)=True:=qo
  have hle:=pY (b:=bb) (bad:=false) hbb
  have nx:∀F' H',back ((b6,AO.cells [.i a0,.i a1,.i a2,nd,.own (qw os),.str []])::(br,oC bb false)::(b2,zo)::H).length H'=((b6,AO.cells [.i a0,.i a1,.i a2,nd,.own (qw (os++ [(jC bb false).1])),.str []])::(br,oC (jC bb false).2.1 (jC bb false).2.2)::(b2,zo)::H)->Fr 116 [(0,.slc xb),(2,.ptr b2 0),(4,.ptr br 0),(6,.ptr b6 0),(8,.i many),(11,.i ((i+1:Nat):Int))] F'->K .normal F' H':=fun F' H' hH hF'=>hN _ _ ⟨i+1,os++ [(jC bb false).1],(jC bb false).2.1,(jC bb false).2.2,hlt,by simp [hos],by omega,by
    obtain ⟨q,hq⟩:∃q,vc many - i=q+1:=⟨vc many - i - 1,by omega⟩
    rw [hcon,hq,show vc many - (i+1)=q by omega]
    simp [oE],hF',hH⟩ (by
   rw [Na,hF'.2.2.2.2.2.2.1]
   simp only [Nc,Nd,Ng]
   omega)
  clear hN hE hE' hcon
  have hcall:∀H1,qn H1 br=some (AO.cells [.slc (bb.map ql),.bool false])->ACall Tryz.prog 76 [.ptr br 0] H1 (fun d' H'=>d'= .agg (jC bb false).1.d∧H'=qM H1 br (oC (jC bb false).2.1 (jC bb false).2.2)):=fun H1 hg=>HM (b:=bb) (bad:=false) (by omega) hg ⟨rfl,rfl⟩
  have hod:(jC bb false).1.d.length=13:=rfl
  simp+contextual only [m1,m2,oC,qg nr6,↓VX,↓vK,↓XP,qh,XW1]
  refine ⟨.inl nb6,_,br,_,_,nb7,.inr (by simpa using nr6),by rw [qg nr6];exact ji,hcall,?_⟩
  generalize (jC bb false).2.1=bb' at nx ⊢
  generalize (jC bb false).2.2=bad' at nx ⊢
  generalize (jC bb false).1=o at nx ⊢
  rw [<-Vu] at nx
  have hod:o.d= [.i o.k,.i o.on.o,.i o.on.s,.i o.on.i,.i o.to.o,.i o.to.s,.i o.to.i,.slc (j5 o.ids),.i o.n,.str o.name,.str o.text,.i o.a,.i o.b]:=rfl
  simp+contextual only [hod,oC,qm nr6,qj (show i<=big by omega),ol,↓VX,↓vK,↓XP,qh,XW1,qb,qc,qe]
  refine ⟨kT,by omega,by omega,nx _ _ (qz rfl) ?_⟩
  exact ⟨rfl,rfl,rfl,rfl,rfl,rfl,rfl,trivial⟩
 ·have e0:oE (vc many - i) bb bad=([],bb,bad):=by
   rcases Classical.em (bad=true) with hb|hb
   ·subst hb
    cases vc many - i<;>rfl
   ·have:vc many - i=0:=by
     have:¬i<vc many:=fun h=>hlt ⟨h,by simpa using hb⟩
     omega
    rw [this]
    rfl
  rw [e0,N0] at hcon
  have fin:=fun F'=>hE os bb bad hcon F'
  clear hN hE hcon e0
  by_cases c1:(i:Int)<many
  ·by_cases c2:i<=16
   ·have hb:bad=true:=by
     refine Classical.byContradiction fun hb=>hlt ⟨?_,by simpa using hb⟩
     unfold vc
     omega
    subst hb
    simp+contextual only [eq_true c1,show ((i:Int)<=16)=True from qo,oC,qg nr6,↓VX,↓vK,↓XP,qh,XW1]
    exact hE' _ _ _ (fin _ ⟨rfl,rfl,rfl,rfl,rfl,trivial⟩)
   ·simp+contextual only [eq_true c1,show ((i:Int)<=16)=False from qy,oC,↓VX,↓vK,↓XP,qp]
    exact hE' _ _ _ (fin _ ⟨rfl,rfl,rfl,rfl,rfl,trivial⟩)
  ·simp+contextual only [eq_false c1,oC,↓VX,↓vK,↓XP,qp]
   exact hE' _ _ _ (fin _ ⟨rfl,rfl,rfl,rfl,rfl,trivial⟩)
theorem i6 (hB:b.length<=3000000) (h:R (.tup [.agg (Qg b).1.d,.i (Qg b).2]) H):ACall Tryz.prog 36 [.slc (b.map ql)] H R:=by
 refine b36 fun hf=>?_
 have hbig:=qk
 simp+contextual only [ZD,↓VX,↓vK,↓XP,qh,XW1,qa,qb,qe]
 intro b2 h2 br hr
 have e2:b2≠br:=hr.1
 have hr2:=hr.2
 refine Qq (b:=b) (bad:=false) (many:=((3:Nat):Int)) (by':=1) (by omega) (by omega) (by omega) (by omega) ji fun d hd=>?_
 rw [wT]
 have hl:=aq (b:=b) (bad:=false) (m:=3)
 obtain ⟨l,hl0⟩:∃l,YQ b false ((3:Nat):Int) 1=l:=⟨_,rfl⟩
 obtain ⟨bad1,hbad1⟩:∃x,yF b false ((3:Nat):Int) 1=x:=⟨_,rfl⟩
 obtain ⟨c1,hc1⟩:∃x,b.drop (jz b).2.1=x:=⟨_,rfl⟩
 rw [hl0] at hl hd
 rw [hbad1,hc1]
 obtain ⟨a0,a1,a2,rfl⟩:=ZQ hl
 have hB1:c1.length<=b.length:=by rw [<-hc1];simp
 clear hl
 obtain ⟨xs,hxs,hx3,x0,x1,x2⟩:∃xs,ints [a0,a1,a2]=xs∧xs.length=3∧xs.getD 0 []= [.i a0]∧xs.getD 1 []= [.i a1]∧xs.getD 2 []= [.i a2]:=⟨_,rfl,rfl,rfl,rfl,rfl⟩
 rw [hxs] at hd
 simp+contextual only [hd,hx3,x0,x1,x2,show ((3:Nat):Int)=3 from rfl,Nr,Nt,Nu,↓VX,↓vK,↓XP,qh,XW1,qb,qe]
 intro _ _ _ _
 refine ⟨by omega,?_⟩
 rintro b6 ⟨nr6,n26,h6⟩
 obtain ⟨zo,hzz⟩:∃zo,AO.cells [.i 0,.i 0,.i 0,.own [],.own [],.str []]=zo:=⟨_,rfl⟩
 rw [Jx]
 refine Gz.bind (k:=fun F'' H''=>F''=_∧H''=_) (Gz.take (j:=3) rfl (fun h=>(h rfl).elim) ⟨rfl,rfl⟩) ?_
 rintro _ _ ⟨rfl,rfl⟩
 refine Gz.take (j:=4) rfl (fun h=>(h rfl).elim) ?_
 simp only [jF,if_true]
 rw [hzz]
 simp+contextual only [↓vK,↓XP,qp]
 refine Qq (b:=c1) (bad:=bad1) (many:= -1) (by':=2) (by omega) (by omega) (by omega) (by omega) (by rw [qg nr6];exact ji) fun d2 hd2=>?_
 rw [qm nr6,wT]
 have hm2:=im (b:=c1) (bad:=bad1) (k:=2)
 have hml:=Gn (b:=c1) (bad:=bad1) (k:=2)
 obtain ⟨m,hm0⟩:∃m,YQ c1 bad1 (-1) 2=m:=⟨_,rfl⟩
 obtain ⟨bad2,hbad2⟩:∃x,yF c1 bad1 (-1) 2=x:=⟨_,rfl⟩
 obtain ⟨c2,hc2⟩:∃x,c1.drop (jz c1).2.1=x:=⟨_,rfl⟩
 have hB2:c2.length<=c1.length:=by rw [<-hc2];simp
 rw [hm0] at hm2 hml hd2
 rw [hbad2,hc2]
 obtain ⟨fi,hfi⟩:∃fi,fi=117:=⟨_,rfl⟩
 simp+contextual only [jh,hd2,↓vK,↓XP,qp]
 refine fun _=>GV (fi:=fi) hfi (by omega) fun bA bB hA hB'=>?_
 have hAB:bA≠bB:=hB'.1
 simp+contextual only [↓vK,↓XP,qp,XW1]
 refine XRF.chunkK hm (by rw [hfi];exact pM) (p:=32) (t:=7) (k:=2) (xs:=ints m) (b1:=bA) (b2:=bB) (f:=fi) rfl (by show (32:Nat)<116;omega) (by rw [qg hAB];exact ji) ji (by omega) (by omega) vH
  (fun pre H'=>H'=((b6,AO.cells [.i a0,.i a1,.i a2,.own (qv (pre.map (pair m))),.own [],.str []])::(br,oC c2 bad2)::(b2,zo)::H))
  _ (by rw [uk hAB,vY,vY];exact Sbn.sub (List.Sublist.refl _)) rfl ?_ ?_
 ·intro pre j H' hI hj hpl hfact K hK
  subst hI
  obtain ⟨y2,y0,y1⟩:=n8 hm2 hj
  rw [pH hm2] at hj hpl
  generalize jV (ints m) 2 j=ys at y2 y0 y1 ⊢
  have nx:=fun F' H''=>hK F' H'' _ (Sbn.sub (List.Sublist.refl _)) 
  clear hK
  rw [Nn,List.map_cons,List.map_nil,<-UQ] at nx
  have il:(qv (pre.map (pair m))).length=pre.length:=by simp [qv]
  have hac:=gV (l:=pre.map (pair m))
  generalize qv (pre.map (pair m))=acc at nx il hac ⊢
  generalize pair m j=tj at nx y0 y1
  simp+contextual only [y2,y0,y1,hd,hd2,show ((2:Nat):Int)=2 from rfl,Nr,Nt,Nu,↓VX,↓vK,↓XP,qh,XW1,qb,qc,qe]
  have n6:qn ((br,oC c2 bad2)::(b2,zo)::H) b6=none:=js ⟨Ne.symm nr6,Ne.symm n26,h6⟩
  exact ⟨.inl n6,fun _ _=>⟨hac,by omega,by omega,nx _ _ rfl⟩⟩
 ·intro H' hI
  subst hI
  rw [pH hm2,show (List.range (m.length / 2)).map (pair m)=pairs m from rfl]
  simp+contextual only [hd,hd2,oC,qg nr6,↓VX,↓vK,↓XP,qh]
  refine fun _=>zt ?_
  simp+contextual only [↓VX,↓vK,↓XP,qp,XW1]
  have hr0:qn ((b6,AO.cells [.i a0,.i a1,.i a2,.own (qv (pairs m)),.own [],.str []])::(br,oC c2 bad2)::(b2,zo)::H) br=some (oC c2 bad2):=by rw [qg nr6];exact ji
  refine fun _ _ _=>Vq (b:=c2) (bad:=bad2) zn hr0 ?_
  rw [qm nr6,wT]
  have hle3:(c2.drop (qD c2).2.1).length<=c2.length:=by simp
  obtain ⟨t,ht⟩:∃t,qD c2=t:=⟨_,rfl⟩
  rw [ht] at hle3 ⊢
  obtain ⟨many,kk,ee⟩:=t
  dsimp only at hle3 ⊢
  simp+contextual only [↓vK,↓XP,qp,XW1]
  refine tV (xb:=b.map ql) (by omega) nr6 n26 h6 (Ne.symm e2) hr2 (fun i hi=>by subst hi;exact ⟨rfl,rfl,rfl,rfl,rfl,rfl,rfl,trivial⟩) fun os bb bad hops F' hF'=>?_
  obtain ⟨z,rfl⟩:∃z:Nat->D,_=(let xb:=b.map ql; [.slc xb,z 1,.ptr b2 0,z 3,.ptr br 0,z 5,.ptr b6 0,z 7,z 8,z 9,z 10,z 11,z 12,z 13,z 14,z 15,z 16,z 17,z 18,z 19,z 20,z 21,z 22,z 23,z 24,z 25,z 26,z 27,z 28,z 29,z 30,z 31,z 32,z 33,z 34,z 35,z 36,z 37,z 38,z 39,z 40,z 41,z 42,z 43,z 44,z 45,z 46,z 47,z 48,z 49,z 50,z 51,z 52,z 53,z 54,z 55,z 56,z 57,z 58,z 59,z 60,z 61,z 62,z 63,z 64,z 65,z 66,z 67,z 68,z 69,z 70,z 71,z 72,z 73,z 74,z 75,z 76,z 77,z 78,z 79,z 80,z 81,z 82,z 83,z 84,z 85,z 86,z 87,z 88,z 89,z 90,z 91,z 92,z 93,z 94,z 95,z 96,z 97,z 98,z 99,z 100,z 101,z 102,z 103,z 104,z 105,z 106,z 107,z 108,z 109,z 110,z 111,z 112,z 113,z 114,z 115]):=hF'.lit
  clear hF'
  have hor:=aX (B:=3000000) (vc many) (c2.drop kk) (bad2||decide (ee≠0)) (by omega)
  rw [hops] at hor
  obtain ⟨o1,o2,o3⟩:=hor
  dsimp only at o1 o2 o3
  simp+contextual only [oC,qg nr6,↓VX,↓vK,↓XP,qh,XW1]
  refine fun _=>Js ?_
  simp+contextual only [↓VX,↓vK,↓XP,qp,XW1]
  have hr1:qn ((b6,AO.cells [.i a0,.i a1,.i a2,.own (qv (pairs m)),.own (qw os),.str []])::(br,oC bb bad)::(b2,zo)::H) br=some (oC bb bad):=by rw [qg nr6];exact ji
  refine fun _ _ _=>Vq (b:=bb) (bad:=bad) Y9 hr1 ?_
  rw [qm nr6,wT]
  have hsl:=Ui (b:=bb)
  have hp:zg b=(⟨a0,a1,a2,pairs m,os,(ja bb).1⟩,bad||decide ((ja bb).2.2≠0)):=by
   unfold zg G5
   rw [show YQ b false 3 1=_ from hl0,show yF b false 3 1=_ from hbad1,hc1,hm0,hc2,hbad2]
   unfold Gx
   rw [ht,hops]
   rfl
  unfold Qg at h
  rw [hp] at h
  clear hp
  dsimp only at h
  generalize (ja bb).2.2=e5 at h ⊢
  generalize (ja bb).2.1=k5 at h ⊢
  generalize (ja bb).1=sl at h hsl ⊢
  obtain ⟨bad5,hbad5⟩:∃x,(bad||decide (e5≠0))=x:=⟨_,rfl⟩
  rw [hbad5] at h ⊢
  clear hbad5
  subst hzz
  cases bad5 with
  | true=>
   rw [if_neg (by simp)] at h
   simp+contextual only [oC,qg nr6,qg n26,qm n26,qg e2,qm e2,↓VX,↓vK,↓XP,qh,XW1,qb]
   exact h
  | false=>
   simp+contextual only [oC,qg nr6,↓VX,↓vK,↓XP,qh,XW1,qb]
   obtain ⟨p,hp⟩:∃p:Pt,(⟨a0,a1,a2,pairs m,os,sl⟩:Pt)=p:=⟨_,rfl⟩
   have hpd: [D.i a0,.i a1,.i a2,.slc (qv (pairs m)),.slc (qw os),.str sl]=p.d:=by rw [<-hp];rfl
   have hfit:Fit p:=by
    rw [<-hp]
    have:vc many<=17:=by unfold vc;omega
    exact ⟨by show os.length<=1000;omega,by show (pairs m).length<=3000000;unfold pairs;rw [Nl,Nz];omega,fun o ho=>(o3 o ho).1,fun o ho=>(o3 o ho).2.1,fun o ho=>(o3 o ho).2.2,by show sl.length<=3000000;omega⟩
   rw [hp] at h
   rw [hpd]
   refine W5 hfit ?_
   rcases Classical.em (JL p=0) with g1|g1
   ·rw [if_pos g1,g1]
    rcases Classical.em (jK p=b) with g2|g2
    ·rw [if_pos ⟨rfl,g1,g2⟩] at h
     have g3:decide (b=jK p)=true:=decide_eq_true g2.symm
     simp+contextual only [↓VX,↓vK,↓XP,qp,XW1]
     refine fun _ _=>aB ?_
     rw [g3]
     simp+contextual only [qg n26,qm n26,qg e2,qm e2,↓VX,↓vK,↓XP,qh,XW1,qb]
     rw [hpd]
     exact h
    ·rw [if_neg (fun h=>g2 h.2.2)] at h
     have g3:decide (b=jK p)=false:=decide_eq_false (fun h=>g2 h.symm)
     simp+contextual only [↓VX,↓vK,↓XP,qp,XW1]
     refine fun _ _=>aB ?_
     rw [g3]
     simp+contextual only [qg n26,qm n26,qg e2,qm e2,↓VX,↓vK,↓XP,qh,XW1,qb]
     exact h
   ·rw [if_neg g1]
    rw [if_neg (fun h=>g1 h.2.1)] at h
    simp+contextual only [eq_false g1,qg n26,qm n26,qg e2,qm e2,↓VX,↓vK,↓XP,qh,XW1,qb]
    exact fun _ _=>h
theorem Kn {a b:List UInt8} {H:AH} (h:R (.bool (decide (a=b))) H):ACall Tryz.prog 38 [.slc (a.map ql),.slc (b.map ql)] H R:=by
 refine b38 fun hf=>?_
 have hbig:=qk
 have hk:∀c,decide (a=b)=c->R (.bool c) H:=fun c hc=>hc▸h
 clear h
 rcases Classical.em (a.length=b.length) with hl|hl
 ·simp+contextual only [↓te,show ((a.length:Int)=(b.length:Int))=True from qo,↓te,↓XP,qh,qa,qb]
  refine fun _ _=>XW.loopK hmm (fun F H'=>∃(i:Nat),i<=a.length∧a.take i=b.take i∧Fr 26 [(0,.slc (a.map ql)),(1,.slc (b.map ql)),(5,.i (i:Int))] F∧H=H') (fun F H=>match F.getD 5 .any with| .int _ n'=>a.length - n'.toNat|_=>0) ⟨0,by omega,by simp,⟨rfl,rfl,rfl,rfl,trivial⟩,rfl⟩ ?_
  rintro _ _ ⟨i,hi,hv,hF,rfl⟩ K hN hE hR
  obtain ⟨z,rfl⟩:=hF.fl rfl
  try dsimp only [fl,zz,qa,qb] at*
  clear hF
  rcases Classical.em (i<a.length) with hlt|hlt
  ·have q1:=vC hlt
   have q2:=vC (l:=b) (i:=i) (by omega)
   have e1:a.take (i+1)=a.take i++ [a.getD i 0]:=by rw [List.take_add_one];simp [hlt]
   have e2:b.take (i+1)=b.take i++ [b.getD i 0]:=by rw [List.take_add_one];simp [show i<b.length by omega]
   have nx:a.getD i 0=b.getD i 0->∀F',Fr 26 [(0,.slc (a.map ql)),(1,.slc (b.map ql)),(5,.i ((i+1:Nat):Int))] F'->K .normal F' H:=fun he F' hF'=>hN _ _ ⟨i+1,hlt,by rw [e1,e2,hv,he],hF',(qz rfl).symm⟩ (by
    rw [Na,hF'.2.2.2.1]
    simp only [Nc,Nd,Ng]
    omega)
   have bad:a.getD i 0≠b.getD i 0->R (.bool false) H:=fun he=>hk false (decide_eq_false fun h=>he (by rw [h]))
   clear hN hE hk
   generalize a.getD i 0=x at q1 nx bad
   generalize b.getD i 0=y at q2 nx bad
   have hlb:(((i:Nat):Int)<(b.length:Int))=True:=qo
   rcases Classical.em (x=y) with hxy|hxy
   ·have c1:((x.toNat:Int)=(y.toNat:Int))=True:=eq_true (by rw [hxy])
    simp+contextual only [hlt,hlb,Int.ofNat_lt,q1,q2,c1,qj (show i<=big by omega),↓te,↓XP,qh]
    exact fun _ _ _=>nx hxy _ ⟨rfl,rfl,rfl,rfl,trivial⟩
   ·have c1:((x.toNat:Int)=(y.toNat:Int))=False:=eq_false (fun h=>hxy (UInt8.toNat_inj.1 (by omega)))
    simp+contextual only [hlt,hlb,Int.ofNat_lt,q1,q2,c1,↓te,↓XP,qh]
    refine fun _ _ _=>hR _ _ ?_
    simp+contextual only [↓XP,qp]
    exact bad hxy
  ·have hik:i=a.length:=by omega
   subst hik
   clear hN
   rw [List.take_length,hl,List.take_length] at hv
   simp+contextual only [↓te,↓XP,qh]
   refine fun _=>hE _ _ _ ?_
   simp+contextual only [↓XP,qp,XW1]
   exact hk true (decide_eq_true hv)
 ·simp+contextual only [↓te,show ((a.length:Int)=(b.length:Int))=False from qy,↓te,↓XP,qh,qa,qb]
  exact fun _ _=>hk false (decide_eq_false fun h=>hl (by rw [h]))
theorem cd (h:R (.bool true) H):ACall Tryz.prog 72 [.slc (j5 l),.slc (j5 l)] H R:=by
 refine b72 fun hf=>?_
 have hbig:=qk
 simp+contextual only [↓EA,qJ,↓EA,↓XP,qh,XW1,qa,qb]
 refine fun _=>XW.loopK hmm (fun F H'=>∃(i:Nat),i<=l.length∧Fr 26 [(0,.slc (j5 l)),(1,.slc (j5 l)),(5,.i (i:Int))] F∧H=H') (fun F H=>match F.getD 5 .any with| .int _ n'=>l.length - n'.toNat|_=>0) ⟨0,by omega,⟨rfl,rfl,rfl,rfl,trivial⟩,rfl⟩ ?_
 rintro _ _ ⟨i,hi,hF,rfl⟩ K hN hE hR
 obtain ⟨z,rfl⟩:=hF.fl rfl
 try dsimp only [fl,zz,qa,qb] at*
 clear hF
 rcases Classical.em (i<l.length) with hlt|hlt
 ·have q1:=yp hlt
  have nx:∀F',Fr 26 [(0,.slc (j5 l)),(1,.slc (j5 l)),(5,.i ((i+1:Nat):Int))] F'->K .normal F' H:=fun F' hF'=>hN _ _ ⟨i+1,hlt,hF',(qz rfl).symm⟩ (by
   rw [Na,hF'.2.2.2.1]
   simp only [Nc,Nd,Ng]
   omega)
  clear hN hE hR
  generalize l.getD i default=x at q1 nx
  have hx:x.d= [.i x.o,.i x.s,.i x.i]:=rfl
  simp+contextual only [qJ,hlt,Int.ofNat_lt,q1,hx,qj (show i<=big by omega),↓EA,↓XP,qh,qb]
  exact fun _=>nx _ ⟨rfl,rfl,rfl,rfl,trivial⟩
 ·have hik:i=l.length:=by omega
  subst hik
  clear hN
  simp+contextual only [qJ,↓EA,↓XP,qh]
  refine fun _=>hE _ _ _ ?_
  simp+contextual only [↓XP,qp,XW1]
  exact h
theorem eK {o:OpP} {H:AH} (h:R (.bool true) H):ACall Tryz.prog 35 [.agg o.d,.agg o.d] H R:=by
 refine b35 fun hf=>?_
 have hbig:=qk
 have hod:o.d= [.i o.k,.i o.on.o,.i o.on.s,.i o.on.i,.i o.to.o,.i o.to.s,.i o.to.i,.slc (j5 o.ids),.i o.n,.str o.name,.str o.text,.i o.a,.i o.b]:=rfl
 simp+contextual only [↓U35,hod,qJ,↓U35.1,↓XP,qh,XW1,qa,qb,qe]
 refine fun b2 _ b3 _ _ _ _ _ _=>cd ?_
 simp+contextual only [↓XP,qp,XW1]
 exact h
theorem l9 {p:Pt} {H:AH} (h:R (.bool true) H):ACall Tryz.prog 14 [.agg p.d,.agg p.d] H R:=by
 refine cn fun hf=>?_
 have hbig:=qk
 have hd:p.d= [.i p.o,.i p.s,.i p.day,.slc (qv p.needs),.slc (qw p.ops),.str p.sl]:=rfl
 simp+contextual only [↓pG,hd,j9,qQ,↓pG,↓XP,qh,XW1,qa,qb]
 rintro b2 h2 b3 ⟨n23,h3⟩
 intros
 simp only [<-hd]
 refine XW.loopK hmm (fun F H'=>∃(i:Nat),i<=p.needs.length∧Fr 88 [(2,.ptr b2 0),(3,.ptr b3 0),(5,.i (i:Int))] F∧((b3,AO.cells p.d)::(b2,AO.cells p.d)::H)=H') (fun F H=>match F.getD 5 .any with| .int _ n'=>p.needs.length - n'.toNat|_=>0) ⟨0,by omega,⟨rfl,rfl,rfl,rfl,trivial⟩,rfl⟩ ?_
 rintro _ _ ⟨i,hi,hF,rfl⟩ K hN hE hR
 obtain ⟨z,rfl⟩:=hF.fl rfl
 try dsimp only [fl,zz,qa,qb] at*
 clear hF hR
 rcases Classical.em (i<p.needs.length) with hlt|hlt
 ·have q1:=wM hlt
  have nx:∀F',Fr 88 [(2,.ptr b2 0),(3,.ptr b3 0),(5,.i ((i+1:Nat):Int))] F'->K .normal F' ((b3,AO.cells p.d)::(b2,AO.cells p.d)::H):=fun F' hF'=>hN _ _ ⟨i+1,hlt,hF',(qz rfl).symm⟩ (by
   rw [Na,hF'.2.2.2.1]
   simp only [Nc,Nd,Ng]
   omega)
  clear hN hE
  generalize p.needs.getD i default=x at q1 nx
  have hx:x.d= [.i x.o,.i x.s]:=rfl
  simp+contextual only [hd,j9,hlt,Int.ofNat_lt,qg n23,q1,hx,qj (show i<=big by omega),↓pG,↓XP,qh,XW1,qb]
  simp only [<-hd]
  exact fun _=>nx _ ⟨rfl,rfl,rfl,rfl,trivial⟩
 ·have hik:i=p.needs.length:=by omega
  subst hik
  clear hN
  simp+contextual only [hd,j9,qg n23,↓pG,↓XP,qh,XW1]
  simp only [<-hd]
  refine fun _=>hE _ _ _ ?_
  clear hE
  simp+contextual only [hd,↓pG,↓XP,qp,XW1]
  simp only [<-hd]
  refine XW.loopK hmm (fun F H'=>∃(i:Nat),i<=p.ops.length∧Fr 88 [(2,.ptr b2 0),(3,.ptr b3 0),(6,.i (i:Int))] F∧((b3,AO.cells p.d)::(b2,AO.cells p.d)::H)=H') (fun F H=>match F.getD 6 .any with| .int _ n'=>p.ops.length - n'.toNat|_=>0) ⟨0,by omega,⟨rfl,rfl,rfl,rfl,trivial⟩,rfl⟩ ?_
  rintro _ _ ⟨i,hi,hF,rfl⟩ K hN hE hR
  obtain ⟨z,rfl⟩:=hF.fl rfl
  try dsimp only [fl,zz,qa,qb] at*
  clear hF hR
  rcases Classical.em (i<p.ops.length) with hlt|hlt
  ·have q1:=kO hlt
   have nx:∀F',Fr 88 [(2,.ptr b2 0),(3,.ptr b3 0),(6,.i ((i+1:Nat):Int))] F'->K .normal F' ((b3,AO.cells p.d)::(b2,AO.cells p.d)::H):=fun F' hF'=>hN _ _ ⟨i+1,hlt,hF',(qz rfl).symm⟩ (by
    rw [Na,hF'.2.2.2.1]
    simp only [Nc,Nd,Ng]
    omega)
   clear hN hE
   generalize p.ops.getD i default=o at q1 nx
   have hod:o.d= [.i o.k,.i o.on.o,.i o.on.s,.i o.on.i,.i o.to.o,.i o.to.s,.i o.to.i,.slc (j5 o.ids),.i o.n,.str o.name,.str o.text,.i o.a,.i o.b]:=rfl
   simp+contextual only [hd,qQ,hlt,Int.ofNat_lt,qg n23,q1,hod,↓pG,↓XP,qh,XW1,qb]
   refine fun _=>⟨_,fun _ _=>eK (o:=o) ⟨rfl,rfl⟩,?_⟩
   simp+contextual only [qj (show i<=big by omega),↓pG,↓XP,qp,XW1]
   simp only [<-hd]
   exact nx _ ⟨rfl,rfl,rfl,rfl,trivial⟩
  ·have hik:i=p.ops.length:=by omega
   subst hik
   clear hN
   simp+contextual only [hd,qQ,qg n23,↓pG,↓XP,qh,XW1]
   simp only [<-hd]
   refine fun _=>hE _ _ _ ?_
   simp+contextual only [hd,↓XP,qp,XW1]
   exact h
def Kb:List D:= [.int .u8 0,.int .u8 0,.int .u8 0,.int .u8 0,.int .u8 0,.int .u8 0,.int .u8 0,.int .u8 0,.int .u8 0,.int .u8 0,.int .u8 0,.int .u8 0,.int .u8 0,.int .u8 0,.int .u8 0,.int .u8 0]
def shortK:List UInt8:= [115,104,111,114,116]
theorem Vk (h:R (.tup [.agg Kb,.i 1]) H):ACall Tryz.prog 20 [.str shortK,.i 2] H R:=by
 refine b20 fun hf=>?_
 have hbig:=qk
 have hl:shortK.length=5:=rfl
 simp+contextual only [↓pP,hl,show (((5:Nat):Int)=32)=False from qy,↓pP,↓XP,qh,XW1,qa,qb]
 exact fun b hb _=>h
theorem ej (h:R (.tup [.agg (Kb++ [.i 0]),.i 1]) H):ACall Tryz.prog 10 [.agg [.str shortK,.i 2]] H R:=by
 refine zV fun hf=>?_
 have hbig:=qk
 have hl:shortK.length=5:=rfl
 simp+contextual only [↓nf,hl,show ((4:Int)<2)=False from by simp,↓nf,↓XP,qh,XW1,qa]
 refine fun b1 h1 b2 h2 _ _=>Vk ?_
 simp+contextual only [Kb,show ((1:Int)=0)=False from by simp,↓nf,↓XP,qh,XW1,qb]
 exact fun _ _ _=>h
theorem G7 {p:Pt} {o:OpP} {H:AH} (hp:p.ops= [o]) (h1:1<=o.k) (h4:o.k<=4) (h:R (.own (j5 [⟨p.o,p.s,0⟩])) H):ACall Tryz.prog 37 [.agg p.d] H R:=by
 refine b37 fun hf=>?_
 have hbig:=qk
 have hd:p.d= [.i p.o,.i p.s,.i p.day,.slc (qv p.needs),.slc (qw p.ops),.str p.sl]:=rfl
 rw [hp] at hd
 have ol:(qw [o]).length=1:=rfl
 have q0:(qw [o]).getD 0 []=o.d:=rfl
 have hod:o.d= [.i o.k,.i o.on.o,.i o.on.s,.i o.on.i,.i o.to.o,.i o.to.s,.i o.to.i,.slc (j5 o.ids),.i o.n,.str o.name,.str o.text,.i o.a,.i o.b]:=rfl
 simp+contextual only [↓DF,ol,hd,↓DF,↓XP,qh,XW1,qa]
 intro b1 hb1 _
 obtain ⟨ids,hids⟩:∃ids:List Id3,[⟨p.o,p.s,0⟩]=ids:=⟨_,rfl⟩
 refine XW.loopK hmm (fun F H'=>∃(i:Nat),i<=1∧Fr 28 [(1,.ptr b1 0),(3,.own (j5 (ids.take i))),(7,.slc (qw [o])),(8,.i 1),(9,.i (i:Int))] F∧((b1,AO.cells [.i p.o,.i p.s,.i p.day,.slc (qv p.needs),.slc (qw [o]),.str p.sl])::H)=H') (fun F H=>match F.getD 9 .any with| .int _ n'=>1 - n'.toNat|_=>0) ⟨0,by omega,by subst hids;exact ⟨rfl,rfl,rfl,rfl,rfl,rfl,trivial⟩,rfl⟩ ?_
 rintro _ _ ⟨i,hi,hF,rfl⟩ K hN hE hR
 obtain ⟨z,rfl⟩:=hF.fl rfl
 try dsimp only [fl,zz,qa,qb] at*
 clear hF hR
 rcases Classical.em (i=0) with hlt|hlt
 ·subst hlt
  simp+contextual only [ol,q0,hod,show (((0:Nat):Int)<1)=True from qo,show ((0:Nat):Int).toNat=0 from rfl,List.take_zero,↓DF,↓XP,qh,XW1,qb]
  refine ⟨by omega,fun b5 hb5 _=>?_⟩
  refine wn ?_
  simp+contextual only [decide_eq_true (show 1<=o.k∧o.k<=4 from ⟨h1,h4⟩),qg hb5.1,qj (show 0<=big by omega),show (j5 ([]:List Id3))= [] from rfl,↓DF,↓XP,qh,XW1,qb,qc,qe]
  refine fun _ _=>hN _ _ ⟨1,by omega,?_,(kK rfl).symm⟩ ?_
  ·subst hids
   exact ⟨rfl,rfl,rfl,rfl,rfl,rfl,trivial⟩
  ·simp only [Nc,Nd]
   omega
 ·have hik:i=1:=by omega
  subst hik
  clear hN
  simp+contextual only [show (((1:Nat):Int)<1)=False from qy,↓DF,↓XP,qp]
  refine hE _ _ _ ?_
  simp+contextual only [↓XP,qp,XW1]
  subst hids
  exact h
def mG:OpP:=⟨1,Ja,Ja,[],0,[110],[99,97,116],0,0⟩
def ptL:Pt:=⟨1,1,3,[],[mG],[]⟩
theorem Dn:qr 0= [128]:=by
 unfold qr mag
 simp [kf]
theorem GL {n:Nat} (h0:0<n) (h:n<256):qr (n:Int)= [129,UInt8.ofNat n]:=by
 unfold qr mag
 have e:digs (n:Int).toNat= [UInt8.ofNat n]:=by
  rw [Nh,yK (by omega),Nat.mod_eq_of_lt h,Nat.div_eq_of_lt h,kf]
 rw [if_neg (by omega),if_neg (by omega),e]
 have:decide ((n:Int)<0)=false:=decide_eq_false (by omega)
 rw [this]
 rfl
theorem CX:qr 1= [129,1]:=GL (n:=1) (by omega) (by omega)
theorem BM:qr 2= [129,2]:=GL (n:=2) (by omega) (by omega)
theorem Bo:qr 3= [129,3]:=GL (n:=3) (by omega) (by omega)
theorem sV:qr 10= [129,10]:=GL (n:=10) (by omega) (by omega)
theorem tg:jK ptL= [129,3,129,1,129,1,129,3,128,129,1,129,10,129,1,128,128,128,128,128,128,128,128,128,128,129,2,129,1,110,129,3,99,97,116,128]:=by
 simp [jK,ptL,mG,qK,jM,yt,qF,wE,jj,uU,Ja,Dn,CX,BM,Bo,sV]
theorem fo:jl ptL=0:=by
 unfold jl
 have h1:yR ptL:=by decide
 have h2:ud ptL:=fun i hi=>absurd hi (by simp [ptL])
 have h3:gq ptL:=fun o ho=>by
  have:o=mG:=by simpa [ptL] using ho
  subst this
  decide
 have h4:bare ptL=ptL:=rfl
 rw [if_neg (fun d=>d h1),if_neg (by simp [ptL]),if_neg (by simp [ptL]),if_neg (fun d=>d h2),if_neg (fun d=>d h3),h4,tg,if_neg (by decide)]
theorem A8:jl pt0=5:=by
 unfold jl
 rw [if_pos (by decide)]
theorem rp:Good ptL:=by
 unfold Good JL
 rw [fo,if_neg (by simp),if_neg (by simp [ptL])]
theorem IS:Fit pt0:=⟨by simp [pt0],by simp [pt0],by simp [pt0],by simp [pt0],by simp [pt0],by simp [pt0]⟩
theorem BJ:Fit ptL:=⟨by simp [ptL],by simp [ptL],by simp [ptL,mG],by simp [ptL,mG],by simp [ptL,mG],by simp [ptL]⟩
theorem aH (h:R (.bool true) H):ACall Tryz.prog 15 [] H R:=by
 refine AT fun hf=>?_
 have hbig:=qk
 have hop:qw [mG]= [[D.i 1,.i 0,.i 0,.i 0,.i 0,.i 0,.i 0,.slc [],.i 0,.str [110],.str [99,97,116],.i 0,.i 0]]:=rfl
 have hd:ptL.d= [D.i 1,.i 1,.i 3,.slc [],.slc (qw [mG]),.str []]:=rfl
 obtain ⟨eb,heb⟩:∃eb,jK ptL=eb:=⟨_,rfl⟩
 have hel:eb.length=36:=by rw [<-heb,tg];rfl
 have het:((eb.map ql).take 10).drop 0=([129,3,129,1,129,1,129,3,128,129]:List UInt8).map ql:=by rw [<-heb,tg];rfl
 simp+contextual only [↓mO,↓mO,↓XP,qh,XW1,qa,qb,qc,qe]
 intro b1 h1
 simp only [<-hop]
 refine W5 (p:=ptL) BJ ?_
 have hg:JL ptL=0:=rp
 rw [hg,if_pos rfl,heb]
 simp+contextual only [↓mO,↓XP,qp,XW1]
 refine fun _ _=>i6 (b:=eb) (by omega) ?_
 rw [<-heb,Zn rp,heb]
 simp+contextual only [hd,↓mO,↓XP,qh,XW1,qb,qe]
 intro _ b4 h4
 have hb1:jT Tryz.prog 40 1=some (1,false,1):=by kernel_rfl
 try simp+contextual only [↓mO,Kf,hd,hb1,↓mO,↓XP,↓XU,qh,XW1,qa,qb,qc,qd,qe,qf,reduceCtorEq]
 refine ej ?_
 simp+contextual only [Kb,↓mO,↓XP,qh,XW1,qb]
 intro _ b6 h6
 have n14:b1≠b4:=h4.1
 have n46:b4≠b6:=h6.1
 have n16:b1≠b6:=h6.2.1
 simp+contextual only [qg n14,qg n16,↓XP,qp,qb]
 refine G7 (p:=ptL) (o:=mG) rfl (by decide) (by decide) ?_
 have hid:j5 [⟨ptL.o,ptL.s,0⟩]= [[D.i 1,.i 1,.i 0]]:=rfl
 rw [hid]
 simp+contextual only [qg n14,qg n16,qg n46,hel,show (((36:Nat):Int)=36)=True from eq_true rfl,↓mO,↓XP,qh,qb]
 refine fun _ _=>l9 (p:=ptL) ?_
 simp+contextual only [hel,show (((1:Nat):Int)=1)=True from eq_true rfl,show ((0:Int)<((1:Nat):Int))=True from qo,show ((10:Int)<=((36:Nat):Int))=True from qo,Nr,Nt,het,↓mO,↓XP,qh,XW1,qb,qc,qe]
 refine fun _=>⟨qV,Kn (a:= [129,3,129,1,129,1,129,3,128,129]) (b:= [129,3,129,1,129,1,129,3,128,129]) ?_⟩
 rw [decide_eq_true rfl]
 simp+contextual only [qg n14,qg n16,↓XP,qh,XW1,qb]
 refine zd (p:=ptL) BJ ?_
 rw [fo]
 simp+contextual only [↓XP,qh]
 intro _
 refine zd (p:=pt0) IS ?_
 rw [A8]
 simp+contextual only [↓XP,qp]
 exact fun _=>h
theorem o7:∀k,(upto (kE p ok) k).length<=k:=fun k=>by
 have:=zm (f:=kE p ok) (c:=1) (fun k=>by unfold kE;split<;>simp) k
 omega
theorem WM {x:Gs} {seen:List Bool} (ho:∀q∈x.l,q.ops.length<=1000) (i:Nat):(upto (fun i=>yj (x.l.getD i default) (seen.getD i false)) i).length<=1000*i:=by
 have:=zm (f:=fun i=>yj (x.l.getD i default) (seen.getD i false)) (c:=1000) (fun k=>by
  have h1:=o7 (p:=x.l.getD k default) (ok:=seen.getD k false) (x.l.getD k default).ops.length
  have h2:(x.l.getD k default).ops.length<=1000:=uC (p:=fun q:Pt=>q.ops.length<=1000) ho (by decide) k
  unfold yj
  omega) i
 omega
theorem iU {x:Gs} {seen:List Bool} {p:Pt} {H:AH} (hs:x.l.length<=seen.length) (hb:x.l.length<=100) (ho:∀q∈x.l,q.ops.length<=1000) (hp:p.ops.length<=1000) (h:R (.own (qw (splits x seen p))) H):ACall Tryz.prog 131 [.agg x.d,.slc (jL seen),.agg p.d] H R:=by
 refine Lu fun hf=>?_
 have hbig:=qk
 have hx:x.d= [.slc (jk x.l),.slc (jg x.past)]:=rfl
 have hd:p.d= [.i p.o,.i p.s,.i p.day,.slc (qv p.needs),.slc (qw p.ops),.str p.sl]:=rfl
 simp+contextual only [↓Y6,hx,hd,↓Y6,↓XP,qh,XW1,qa,qb]
 rintro b1 h1 b2 ⟨n12,h2⟩
 simp only [<-hx,<-hd]
 refine XW.loopK hm (fun F H'=>∃(i:Nat),i<=x.l.length∧Fr 81 [(1,.slc (jL seen)),(3,.ptr b1 0),(5,.ptr b2 0),(7,.own (qw (upto (fun i=>yj (x.l.getD i default) (seen.getD i false)) i))),(8,.i i)] F∧((b2,AO.cells p.d)::(b1,AO.cells x.d)::H)=H') (fun F H=>match F.getD 8 .any with| .int _ n'=>x.l.length - n'.toNat|_=>0) ⟨0,by omega,⟨rfl,rfl,rfl,rfl,rfl,rfl,trivial⟩,rfl⟩ ?_
 rintro _ _ ⟨i,hi,hF,rfl⟩ K hN hE hR
 obtain ⟨z,rfl⟩:=hF.fl rfl
 try dsimp only [fl,zz,qa,qb] at*
 clear hF
 have hv:=WM (x:=x) (seen:=seen) ho i
 by_cases hlt:i<x.l.length
 ·have nx:∀F',Fr 81 [(1,.slc (jL seen)),(3,.ptr b1 0),(5,.ptr b2 0),(7,.own (qw (upto (fun i=>yj (x.l.getD i default) (seen.getD i false)) (i+1)))),(8,.i ((i+1:Nat):Int))] F'->K .normal F' ((b2,AO.cells p.d)::(b1,AO.cells x.d)::H):=fun F' hF'=>hN _ _ ⟨i+1,hlt,hF',(qz rfl).symm⟩ (by
   rw [Na,hF'.2.2.2.2.2.1]
   simp only [Nc,Nd,Ng]
   omega)
  clear hN hE hR
  have q1:=u5 hlt
  have q2:=J6 (l:=seen) (i:=i) (by omega)
  have hqo:(x.l.getD i default).ops.length<=1000:=uC (p:=fun q:Pt=>q.ops.length<=1000) ho (by decide) i
  have hun:upto (fun i=>yj (x.l.getD i default) (seen.getD i false)) (i+1)=upto (fun i=>yj (x.l.getD i default) (seen.getD i false)) i++yj (x.l.getD i default) (seen.getD i false):=rfl
  rw [hun] at nx
  generalize upto (fun i=>yj (x.l.getD i default) (seen.getD i false)) i=ac at nx hv
  generalize x.l.getD i default=q at q1 hqo nx
  generalize seen.getD i false=ok at q2 nx
  have hq:q.d= [.i q.o,.i q.s,.i q.day,.slc (qv q.needs),.slc (qw q.ops),.str q.sl]:=rfl
  simp+contextual only [hx,hd,jG,qg,n12,↓Y6,↓XP,qh,XW1]
  refine fun _=>⟨fun _=>?_,fun hge=>absurd (by omega) hge⟩
  simp only [<-hx,<-hd]
  refine XW.loopK hm (fun F H'=>∃(k:Nat),k<=q.ops.length∧Fr 81 [(1,.slc (jL seen)),(3,.ptr b1 0),(5,.ptr b2 0),(7,.own (qw (ac++upto (kE q ok) k))),(8,.i i),(9,.i k)] F∧((b2,AO.cells p.d)::(b1,AO.cells x.d)::H)=H') (fun F H=>match F.getD 9 .any with| .int _ n'=>q.ops.length - n'.toNat|_=>0) ⟨0,by omega,by rw [upto,N0];exact ⟨rfl,rfl,rfl,rfl,rfl,rfl,rfl,trivial⟩,rfl⟩ ?_
  rintro _ _ ⟨k,hk,hF,rfl⟩ K2 hN hE hR
  obtain ⟨z2,rfl⟩:∃z2:Nat->D,_=(let z:=z2; [z 0,.slc (jL seen),z 2,.ptr b1 0,z 4,.ptr b2 0,z 6,.own (qw (ac++upto (kE q ok) k)),.i i,.i k,z 10,z 11,z 12,z 13,z 14,z 15,z 16,z 17,z 18,z 19,z 20,z 21,z 22,z 23,z 24,z 25,z 26,z 27,z 28,z 29,z 30,z 31,z 32,z 33,z 34,z 35,z 36,z 37,z 38,z 39,z 40,z 41,z 42,z 43,z 44,z 45,z 46,z 47,z 48,z 49,z 50,z 51,z 52,z 53,z 54,z 55,z 56,z 57,z 58,z 59,z 60,z 61,z 62,z 63,z 64,z 65,z 66,z 67,z 68,z 69,z 70,z 71,z 72,z 73,z 74,z 75,z 76,z 77,z 78,z 79,z 80]):=hF.lit
  clear hF
  have hv3:=o7 (p:=q) (ok:=ok) k
  by_cases hlk:k<q.ops.length
  ·have nx3:∀F',Fr 81 [(1,.slc (jL seen)),(3,.ptr b1 0),(5,.ptr b2 0),(7,.own (qw (ac++upto (kE q ok) (k+1)))),(8,.i i),(9,.i ((k+1:Nat):Int))] F'->K2 .normal F' ((b2,AO.cells p.d)::(b1,AO.cells x.d)::H):=fun F' hF'=>hN _ _ ⟨k+1,hlk,hF',(qz rfl).symm⟩ (by
    rw [Na,hF'.2.2.2.2.2.2.1]
    simp only [Nc,Nd,Ng]
    omega)
   clear hN hE hR nx
   have q3:=kO hlk
   have hu3:upto (kE q ok) (k+1)=upto (kE q ok) k++kE q ok k:=rfl
   rw [hu3] at nx3
   have ho3:kE q ok k=if ok=true∧(q.ops.getD k default).k=16 then [q.ops.getD k default] else []:=rfl
   rw [ho3] at nx3
   generalize q.ops.getD k default=o at q3 nx3
   have hod:o.d= [.i o.k,.i o.on.o,.i o.on.s,.i o.on.i,.i o.to.o,.i o.to.s,.i o.to.i,.slc (j5 o.ids),.i o.n,.str o.name,.str o.text,.i o.a,.i o.b]:=rfl
   generalize upto (kE q ok) k=ac3 at nx3 hv3
   have hac:(ac++ac3).length<=200000:=by rw [Ni];omega
   rcases ok with _|_
   ·simp+contextual only [hx,hd,qQ,jG,qg,n12,qj (show k<=big by omega),q1,q2,hq,vv,↓Y6,↓XP,qh,XW1,qb,qe]
    refine fun _=>⟨by omega,fun _=>⟨fun _=>⟨by omega,?_⟩,fun hge=>absurd (by omega) hge⟩⟩
    rw [if_neg (by simp),N0] at nx3
    exact nx3 _ ⟨rfl,rfl,rfl,rfl,rfl,rfl,rfl,trivial⟩
   ·simp+contextual only [hx,hd,qQ,jG,qg,n12,qj (show k<=big by omega),q1,q2,hq,q3,hod,vv,↓Y6,↓XP,qh,XW1,qb,qc,qe]
    refine fun _=>⟨by omega,fun _=>⟨fun _=>⟨by omega,by omega,fun _=>⟨fun hk'=>⟨by omega,kT,by omega,?_⟩,fun hk'=>?_⟩⟩,fun hge=>absurd (by omega) hge⟩⟩
    ·rw [if_pos ⟨rfl,hk'⟩,<-No,<-Vu,show qw [o]= [o.d] from rfl,hod,hk'] at nx3
     exact nx3 _ ⟨rfl,rfl,rfl,rfl,rfl,rfl,rfl,trivial⟩
    ·rw [if_neg (fun hc=>hk' hc.2),N0] at nx3
     exact nx3 _ ⟨rfl,rfl,rfl,rfl,rfl,rfl,rfl,trivial⟩
  ·have hik:k=q.ops.length:=by omega
   subst hik
   simp+contextual only [hx,hd,qQ,jG,qg,n12,q1,hq,↓Y6,↓XP,qh,XW1,qb,qe]
   refine fun _=>⟨by omega,fun _=>hE _ _ _ ?_⟩
   clear hN hE hR
   simp+contextual only [qj (show i<=big by omega),↓Y6,↓XP,qp,XW1,qf]
   exact nx _ ⟨rfl,rfl,rfl,rfl,rfl,rfl,trivial⟩
 ·have hik:i=x.l.length:=by omega
  subst hik
  clear hN
  simp+contextual only [hx,hd,jG,qg,n12,↓Y6,↓XP,qh,XW1]
  refine fun _=>hE _ _ _ ?_
  clear hE hR
  have hv0:splits x seen p=upto (fun i=>yj (x.l.getD i default) (seen.getD i false)) x.l.length++yj p true:=rfl
  rw [hv0] at h
  generalize upto (fun i=>yj (x.l.getD i default) (seen.getD i false)) x.l.length=ac at h hv ⊢
  simp+contextual only [↓Y6,↓XP,qp,XW1]
  simp only [<-hx,<-hd]
  refine XW.loopK hm (fun F H'=>∃(k:Nat),k<=p.ops.length∧Fr 81 [(5,.ptr b2 0),(7,.own (qw (ac++upto (kE p true) k))),(10,.i k)] F∧((b2,AO.cells p.d)::(b1,AO.cells x.d)::H)=H') (fun F H=>match F.getD 10 .any with| .int _ n'=>p.ops.length - n'.toNat|_=>0) ⟨0,by omega,by rw [upto,N0];exact ⟨rfl,rfl,rfl,rfl,trivial⟩,rfl⟩ ?_
  rintro _ _ ⟨k,hk,hF,rfl⟩ K hN hE hR
  obtain ⟨z,rfl⟩:=hF.fl rfl
  try dsimp only [fl,zz,qa,qb] at*
  clear hF
  have hv3:=o7 (p:=p) (ok:=true) k
  by_cases hlk:k<p.ops.length
  ·have nx3:∀F',Fr 81 [(5,.ptr b2 0),(7,.own (qw (ac++upto (kE p true) (k+1)))),(10,.i ((k+1:Nat):Int))] F'->K .normal F' ((b2,AO.cells p.d)::(b1,AO.cells x.d)::H):=fun F' hF'=>hN _ _ ⟨k+1,hlk,hF',(qz rfl).symm⟩ (by
    rw [Na,hF'.2.2.2.1]
    simp only [Nc,Nd,Ng]
    omega)
   clear hN hE hR
   have q3:=kO hlk
   have hu3:upto (kE p true) (k+1)=upto (kE p true) k++kE p true k:=rfl
   rw [hu3] at nx3
   have ho3:kE p true k=if true=true∧(p.ops.getD k default).k=16 then [p.ops.getD k default] else []:=rfl
   rw [ho3] at nx3
   generalize p.ops.getD k default=o at q3 nx3
   have hod:o.d= [.i o.k,.i o.on.o,.i o.on.s,.i o.on.i,.i o.to.o,.i o.to.s,.i o.to.i,.slc (j5 o.ids),.i o.n,.str o.name,.str o.text,.i o.a,.i o.b]:=rfl
   generalize upto (kE p true) k=ac3 at nx3 hv3
   have hac:(ac++ac3).length<=200000:=by rw [Ni];omega
   simp+contextual only [hx,hd,qQ,qj (show k<=big by omega),q3,hod,↓Y6,↓XP,qh,XW1,qb,qc,qe]
   refine fun _=>⟨fun _ _=>⟨fun hk'=>⟨kT,by omega,?_⟩,fun hk'=>?_⟩,fun hge=>absurd (by omega) hge⟩
   ·rw [if_pos ⟨rfl,hk'⟩,<-No,<-Vu,show qw [o]= [o.d] from rfl,hod,hk'] at nx3
    exact nx3 _ ⟨rfl,rfl,rfl,rfl,trivial⟩
   ·rw [if_neg (fun hc=>hk' hc.2),N0] at nx3
    exact nx3 _ ⟨rfl,rfl,rfl,rfl,trivial⟩
  ·have hik:k=p.ops.length:=by omega
   subst hik
   simp+contextual only [hx,hd,qQ,↓Y6,↓XP,qh,XW1]
   refine fun _=>hE _ _ _ ?_
   clear hN hE hR
   simp+contextual only [↓XP,qp,XW1]
   exact h
theorem VW (x:Int):(if x<1 then x else 1)=min 1 x:=by
 by_cases h:x<1
 ·rw [if_pos h];omega
 ·rw [if_neg h];omega
theorem JZ (h:R (.agg (small sense other n m).d) H):ACall Tryz.prog 132 [.agg sense.d,.agg other.d,.i n,.slc (ints m)] H R:=by
 refine Lo fun hf=>?_
 have hbig:=qk
 have ho:sense.d= [.i sense.o,.i sense.s,.i sense.i]:=rfl
 have ho2:other.d= [.i other.o,.i other.s,.i other.i]:=rfl
 simp+contextual only [Do,ho,ho2,↓M6,↓XP,qh,XW1,qa,qb,qc,qe]
 have r9:=qN (l:=m) (i:=3) (most:=9) (by omega)
 have r3:=qN (l:=m) (i:=3) (most:=3) (by omega)
 have r2:=qN (l:=m) (i:=3) (most:=2) (by omega)
 have e3:([[.str [102,114]],[.str [102,114]],[.str [100,101]]]:List (List D))=strs lang3:=rfl
 have e2:([[.str [114,97,114,101]],[.str [108,97,119]]]:List (List D))=strs lab2:=rfl
 have s3:=kq (show (qG m 3 3).toNat<lang3.length by show _<3;omega)
 have s2:=kq (show (qG m 3 2).toNat<lab2.length by show _<2;omega)
 have l3:lang3.length=3:=rfl
 have l2:lab2.length=2:=rfl
 rintro b1 h1 b2 ⟨n12,h2⟩ b3 ⟨n23,n13,h3⟩
 refine ⟨?_,fun c0=>⟨?_,fun c1=>⟨?_,fun c2=>⟨?_,fun c3=>⟨?_,fun c4=>⟨?_,fun c5=>⟨?_,fun c6=>⟨?_,fun c7=>⟨?_,fun c8=>⟨?_,?_⟩⟩⟩⟩⟩⟩⟩⟩⟩⟩
 ·rintro rfl
  refine ⟨_,fun _ _=>kx (n:=3) ⟨rfl,rfl⟩,?_⟩
  simp+contextual only [↓XP,qp]
  refine fun _=>⟨_,fun _ _=>uX ⟨rfl,rfl⟩,?_⟩
  simp+contextual only [↓XP,qh,XW1,qb,qe]
  intros
  exact h
 ·rintro rfl
  refine ⟨_,fun _ _=>kx (n:=3) ⟨rfl,rfl⟩,?_⟩
  simp+contextual only [↓XP,qp]
  refine fun _=>⟨_,fun _ _=>uX ⟨rfl,rfl⟩,?_⟩
  simp+contextual only [↓XP,qh,XW1,qb,qe]
  intros
  exact h
 ·rintro rfl
  refine ⟨_,fun _ _=>jS (i:=3) (by omega) ⟨rfl,rfl⟩,?_⟩
  simp+contextual only [↓XP,qh,XW1,qb,qe]
  intros
  exact h
 ·rintro rfl
  refine ⟨_,fun _ _=>jS (i:=3) (by omega) ⟨rfl,rfl⟩,?_⟩
  simp+contextual only [qi (show -9223372036854775808<=1+qG m 3 9 by omega) (by omega),↓XP,qh,XW1,qb,qe]
  intros
  exact h
 ·rintro rfl
  refine ⟨_,fun _ _=>jS (i:=3) (by omega) ⟨rfl,rfl⟩,?_⟩
  simp+contextual only [e3,s3,l3,jd,↓XP,qh]
  refine fun _=>⟨by omega,by omega,fun _=>?_⟩
  refine ⟨_,fun _ _=>kx (n:=4) ⟨rfl,rfl⟩,?_⟩
  simp+contextual only [↓XP,qp]
  refine fun _=>⟨_,fun _ _=>uX ⟨rfl,rfl⟩,?_⟩
  simp+contextual only [↓XP,qh,XW1,qb,qe]
  intros
  exact h
 ·rintro rfl
  refine ⟨_,fun _ _=>jS (i:=3) (by omega) ⟨rfl,rfl⟩,?_⟩
  simp+contextual only [e2,s2,l2,jd,↓XP,qh]
  refine fun _=>⟨by omega,by omega,fun _=>?_⟩
  refine ⟨_,fun _ _=>jS (i:=4) (by omega) ⟨rfl,rfl⟩,?_⟩
  simp+contextual only [VW,↓XP,qh,XW1,qb,qe]
  intros
  exact h
 ·rintro rfl
  refine ⟨_,fun _ _=>jS (i:=3) (by omega) ⟨rfl,rfl⟩,?_⟩
  simp+contextual only [e2,s2,l2,jd,↓XP,qh]
  refine fun _=>⟨by omega,by omega,fun _=>?_⟩
  refine ⟨_,fun _ _=>jS (i:=4) (by omega) ⟨rfl,rfl⟩,?_⟩
  simp+contextual only [VW,↓XP,qh,XW1,qb,qe]
  intros
  exact h
 ·rintro rfl
  refine ⟨_,fun _ _=>jS (i:=3) (by omega) ⟨rfl,rfl⟩,?_⟩
  simp+contextual only [VW,↓XP,qh,XW1,qb,qe]
  intros
  exact h
 ·rintro rfl
  refine ⟨_,fun _ _=>jS (i:=3) (by omega) ⟨rfl,rfl⟩,?_⟩
  simp+contextual only [VW,↓XP,qh,XW1,qb,qe]
  intros
  exact h
 ·rintro rfl
  refine ⟨_,fun _ _=>jS (i:=3) (by omega) ⟨rfl,rfl⟩,?_⟩
  simp+contextual only [↓XP,qh,XW1,qb,qe]
  intros
  exact h
 ·intro c9
  have hs:small sense other n m={yB with k:=8,on:=sense,n:=qG m 3 5}:=by
   unfold small
   simp only [c0,c1,c2,c3,c4,c5,c6,c7,c8,c9,or_self,if_false]
  rw [hs] at h
  refine ⟨_,fun _ _=>jS (i:=3) (by omega) ⟨rfl,rfl⟩,?_⟩
  simp+contextual only [↓XP,qh,XW1,qb,qe]
  intros
  exact h
theorem Je:(meaning p on m).ops.length<=p.ops.length+3:=by
 unfold meaning
 simp only
 split<;>simp only [vQ]<;>omega
theorem cC (hl:p.ops.length<=800) (h:R (.agg (divided p entry sense m).d) H):ACall Tryz.prog 130 [.agg p.d,.agg entry.d,.agg sense.d,.slc (ints m)] H R:=by
 refine IK fun hf=>?_
 have hbig:=qk
 have hd:p.d= [.i p.o,.i p.s,.i p.day,.slc (qv p.needs),.slc (qw p.ops),.str p.sl]:=rfl
 have he:entry.d= [.i entry.o,.i entry.s,.i entry.i]:=rfl
 have hs:sense.d= [.i sense.o,.i sense.s,.i sense.i]:=rfl
 simp+contextual only [↓mV,hd,he,hs,qQ,qg,↓mV,↓XP,qh,XW1,qa,qb,qe]
 rintro b1 h1 b2 ⟨n12,h2⟩ b3 ⟨n23,n13,h3⟩ b4 ⟨n34,n24,n14,h4⟩ _ _ _ b5 ⟨n45,n35,n25,n15,h5⟩
 refine vz (p:=p) (on:=entry) (m:=m) (by omega) ?_
 obtain ⟨p1,hp1⟩:∃q,q=meaning p entry m:=⟨_,rfl⟩
 have l1:p1.ops.length<=p.ops.length+3:=by rw [hp1];exact Je
 have hdv:divided p entry sense m=je (meaning p1 entry (m.drop 1)) {yB with k:=16,on:=sense,ids:= [jQ p,jQ p1],n:=qG m 4 3 - 1}:=by rw [hp1];rfl
 rw [<-hp1]
 clear hp1
 have hd1:p1.d= [.i p1.o,.i p1.s,.i p1.day,.slc (qv p1.needs),.slc (qw p1.ops),.str p1.sl]:=rfl
 simp+contextual only [hd1,qQ,qg,qm,n12,n13,n23,n14,n24,n15,n25,↓mV,↓XP,qh,XW1,qb,qe]
 rintro _ _ _ b6 ⟨n56,n46,n36,n26,n16,h6⟩
 refine ⟨_,fun _ _=>kx (n:=1) ⟨rfl,rfl⟩,?_⟩
 simp+contextual only [↓XP,qp]
 refine fun _=>⟨_,fun _ _=>vz (p:=p1) (on:=entry) (m:=m.drop 1) (by omega) ⟨rfl,rfl⟩,?_⟩
 have l2:=Je (p:=p1) (on:=entry) (m:=m.drop 1)
 rw [hdv] at h
 generalize meaning p1 entry (m.drop 1)=p2 at h l2 ⊢
 have hd2:p2.d= [.i p2.o,.i p2.s,.i p2.day,.slc (qv p2.needs),.slc (qw p2.ops),.str p2.sl]:=rfl
 simp+contextual only [hd2,qg,qm,n12,n13,n14,n34,n15,n35,n16,n36,n56,↓mV,↓XP,qh,XW1,qb,qc,qe]
 have r3:=qN (l:=m) (i:=4) (most:=3) (by omega)
 refine ⟨_,fun _ _=>jS (i:=4) (by omega) ⟨rfl,rfl⟩,?_⟩
 have w3:IntKind.i64.wrap (qG m 4 3 - 1)=qG m 4 3 - 1:=qi (by omega) (by omega)
 simp+contextual only [w3,↓XP,qh,qb,qe]
 refine fun _=>⟨_,fun _ _=>kG (p:=p2) (o:={yB with k:=16,on:=sense,ids:= [jQ p,jQ p1],n:=qG m 4 3 - 1}) (by omega) ⟨rfl,rfl⟩,?_⟩
 generalize je p2 {yB with k:=16,on:=sense,ids:= [jQ p,jQ p1],n:=qG m 4 3 - 1}=p3 at h ⊢
 have hd3:p3.d= [.i p3.o,.i p3.s,.i p3.day,.slc (qv p3.needs),.slc (qw p3.ops),.str p3.sl]:=rfl
 simp+contextual only [hd3,qg,qm,n45,n46,↓XP,qh,XW1,qb]
 intros
 exact h
theorem JR {x:Gs} {seen:List Bool} {p:Pt} {kind:Int} (ho:∀q∈x.l,q.ops.length<=1000) (hb:x.l.length<=100) (hp:p.ops.length<=1000):(visible x seen p kind).length<=101000:=by
 have h1:=W6 (x:=x) (seen:=seen) (kind:=kind) ho x.l.length
 have h2:=uV (p:=p) (kind:=kind) (ok:=true) p.ops.length
 unfold visible
 rw [Ni]
 unfold kv at h1 ⊢
 omega
theorem Ub {x:Gs} {seen:List Bool} {p:Pt} {sense:Id3} {m:List Int} {H:AH} (hs:x.l.length<=seen.length) (hb:x.l.length<=100) (ho:∀q∈x.l,q.ops.length<=1000) (hp:p.ops.length<=800) (h:R (.agg (quoted x seen p sense m).d) H):ACall Tryz.prog 129 [.agg x.d,.slc (jL seen),.agg p.d,.agg sense.d,.slc (ints m)] H R:=by
 refine FI fun hf=>?_
 have hbig:=qk
 have hx:x.d= [.slc (jk x.l),.slc (jg x.past)]:=rfl
 have hd:p.d= [.i p.o,.i p.s,.i p.day,.slc (qv p.needs),.slc (qw p.ops),.str p.sl]:=rfl
 have he:sense.d= [.i sense.o,.i sense.s,.i sense.i]:=rfl
 simp+contextual only [↓Vc,hx,hd,he,qg,↓Vc,↓XP,qh,XW1,qa,qb]
 rintro b1 h1 b2 ⟨n12,h2⟩ b3 ⟨n23,n13,h3⟩ b4 ⟨n34,n24,n14,h4⟩
 refine zR (x:=x) (p:=p) hs hb ho (by omega) ?_
 have hvl:(visible x seen p 3).length<=101000:=JR ho hb (by omega)
 unfold quoted at h
 simp only at h
 generalize visible x seen p 3=src at h hvl ⊢
 simp+contextual only [qQ,qJ,qg,n23,n24,↓Vc,↓XP,qh,XW1,qb,qe]
 rintro _ _ _ _ b5 ⟨n45,n35,n25,n15,h5⟩
 have r2:=qN (l:=m) (i:=2) (most:=60) (by omega)
 have r3:=qN (l:=m) (i:=3) (most:=3) (by omega)
 have r4:=qN (l:=m) (i:=4) (most:=8) (by omega)
 have r5:=qN (l:=m) (i:=5) (most:=90) (by omega)
 have w1:IntKind.i64.wrap (400*qG m 2 60)=400*qG m 2 60:=qi (by omega) (by omega)
 have w2:IntKind.i64.wrap (600000+400*qG m 2 60)=600000+400*qG m 2 60:=qi (by omega) (by omega)
 have w3:IntKind.i64.wrap (300*qG m 4 8)=300*qG m 4 8:=qi (by omega) (by omega)
 have w4:IntKind.i64.wrap (600000+400*qG m 2 60+300*qG m 4 8)=600000+400*qG m 2 60+300*qG m 4 8:=qi (by omega) (by omega)
 have w5:IntKind.i64.wrap (1+qG m 5 90)=1+qG m 5 90:=qi (by omega) (by omega)
 have e3:([[.str [112,114,101,115,115]],[.str [104,101,105,114,115]],[.str [99,114,111,119,110]]]:List (List D))=strs names3:=rfl
 have s3:=kq (show (qG m 3 3).toNat<names3.length by show _<3;omega)
 have l3:names3.length=3:=rfl
 refine ⟨fun h0=>?_,fun h0=>?_⟩
 ·rw [if_pos (.inl (by omega))] at h
  refine jS (i:=2) (by omega) ?_
  simp+contextual only [qg,n23,n24,n25,w1,w2,↓Vc,↓XP,qh,XW1,qb,qc,qe]
  refine fun _=>⟨_,fun _ _=>jS (i:=3) (by omega) ⟨rfl,rfl⟩,?_⟩
  simp+contextual only [e3,s3,l3,jd,↓XP,qh]
  refine fun _=>⟨by omega,by omega,fun _=>?_⟩
  refine ⟨_,fun _ _=>jS (i:=4) (by omega) ⟨rfl,rfl⟩,?_⟩
  simp+contextual only [w3,w4,↓XP,qh,qb,qe]
  refine fun _=>⟨_,fun _ _=>kG (p:=p) (o:={yB with k:=3,name:=names3.getD (jR m 3 3) [],text:= [97,110,110,97,108,115],a:=600000+400*qG m 2 60,b:=600000+400*qG m 2 60+300*qG m 4 8}) (by omega) ⟨rfl,rfl⟩,?_⟩
  generalize hp1:je p {yB with k:=3,name:=names3.getD (jR m 3 3) [],text:= [97,110,110,97,108,115],a:=600000+400*qG m 2 60,b:=600000+400*qG m 2 60+300*qG m 4 8}=p1 at h ⊢
  have lp1:p1.ops.length<=801:=by rw [<-hp1,vQ];omega
  have hd1:p1.d= [.i p1.o,.i p1.s,.i p1.day,.slc (qv p1.needs),.slc (qw p1.ops),.str p1.sl]:=rfl
  simp+contextual only [hd1,qg,qm,n23,n24,n34,n25,n35,↓Vc,↓XP,qh,XW1,qb]
  refine ⟨_,fun _ _=>jS (i:=5) (by omega) ⟨rfl,rfl⟩,?_⟩
  simp+contextual only [w5,↓XP,qp]
  refine fun _=>⟨_,fun _ _=>kx (n:=6) ⟨rfl,rfl⟩,?_⟩
  simp+contextual only [↓XP,qp]
  refine fun _=>⟨_,fun _ _=>uX ⟨rfl,rfl⟩,?_⟩
  simp+contextual only [↓XP,qh,qb,qe]
  refine fun _=>⟨_,fun _ _=>kG (p:=p1) (o:={yB with k:=4,on:=sense,to:=jQ p,n:=1+qG m 5 90,text:=gloss (m.drop 6)}) (by omega) ⟨rfl,rfl⟩,?_⟩
  generalize je p1 {yB with k:=4,on:=sense,to:=jQ p,n:=1+qG m 5 90,text:=gloss (m.drop 6)}=p3 at h ⊢
  have hd3:p3.d= [.i p3.o,.i p3.s,.i p3.day,.slc (qv p3.needs),.slc (qw p3.ops),.str p3.sl]:=rfl
  simp+contextual only [hd3,qg,qm,n45,↓XP,qh,XW1,qb]
  intros
  exact h
 ·refine jS (i:=1) (by omega) ?_
  simp+contextual only [qJ,↓Vc,↓XP,qh]
  refine fun _=>⟨fun h1=>?_,fun h1=>?_⟩
  ·rw [if_pos (.inr h1)] at h
   refine jS (i:=2) (by omega) ?_
   simp+contextual only [qg,n23,n24,n25,w1,w2,↓Vc,↓XP,qh,XW1,qb,qc,qe]
   refine fun _=>⟨_,fun _ _=>jS (i:=3) (by omega) ⟨rfl,rfl⟩,?_⟩
   simp+contextual only [e3,s3,l3,jd,↓XP,qh]
   refine fun _=>⟨by omega,by omega,fun _=>?_⟩
   refine ⟨_,fun _ _=>jS (i:=4) (by omega) ⟨rfl,rfl⟩,?_⟩
   simp+contextual only [w3,w4,↓XP,qh,qb,qe]
   refine fun _=>⟨_,fun _ _=>kG (p:=p) (o:={yB with k:=3,name:=names3.getD (jR m 3 3) [],text:= [97,110,110,97,108,115],a:=600000+400*qG m 2 60,b:=600000+400*qG m 2 60+300*qG m 4 8}) (by omega) ⟨rfl,rfl⟩,?_⟩
   generalize hp1:je p {yB with k:=3,name:=names3.getD (jR m 3 3) [],text:= [97,110,110,97,108,115],a:=600000+400*qG m 2 60,b:=600000+400*qG m 2 60+300*qG m 4 8}=p1 at h ⊢
   have lp1:p1.ops.length<=801:=by rw [<-hp1,vQ];omega
   have hd1:p1.d= [.i p1.o,.i p1.s,.i p1.day,.slc (qv p1.needs),.slc (qw p1.ops),.str p1.sl]:=rfl
   simp+contextual only [hd1,qg,qm,n23,n24,n34,n25,n35,↓Vc,↓XP,qh,XW1,qb]
   refine ⟨_,fun _ _=>jS (i:=5) (by omega) ⟨rfl,rfl⟩,?_⟩
   simp+contextual only [w5,↓XP,qp]
   refine fun _=>⟨_,fun _ _=>kx (n:=6) ⟨rfl,rfl⟩,?_⟩
   simp+contextual only [↓XP,qp]
   refine fun _=>⟨_,fun _ _=>uX ⟨rfl,rfl⟩,?_⟩
   simp+contextual only [↓XP,qh,qb,qe]
   refine fun _=>⟨_,fun _ _=>kG (p:=p1) (o:={yB with k:=4,on:=sense,to:=jQ p,n:=1+qG m 5 90,text:=gloss (m.drop 6)}) (by omega) ⟨rfl,rfl⟩,?_⟩
   generalize je p1 {yB with k:=4,on:=sense,to:=jQ p,n:=1+qG m 5 90,text:=gloss (m.drop 6)}=p3 at h ⊢
   have hd3:p3.d= [.i p3.o,.i p3.s,.i p3.day,.slc (qv p3.needs),.slc (qw p3.ops),.str p3.sl]:=rfl
   simp+contextual only [hd3,qg,qm,n45,↓XP,qh,XW1,qb]
   intros
   exact h
  ·rw [if_neg (by rintro (hc|hc);exact h0 (by omega);exact h1 hc)] at h
   have r6:=qN (l:=m) (i:=2) (most:=(src.length:Int)) (by omega)
   have s6:=yp (show (qG m 2 src.length).toNat<src.length by omega)
   refine fun _=>jS (i:=2) (most:=(src.length:Int)) (by omega) ?_
   unfold jR at h
   generalize src.getD (qG m 2 src.length).toNat default=to at s6 h
   have hto:to.d= [.i to.o,.i to.s,.i to.i]:=rfl
   simp+contextual only [qJ,qg,n23,n24,n34,n25,n35,s6,hto,↓Vc,↓XP,qh,XW1,qb]
   refine fun _=>⟨by omega,by omega,?_⟩
   refine ⟨_,fun _ _=>jS (i:=5) (by omega) ⟨rfl,rfl⟩,?_⟩
   simp+contextual only [w5,↓XP,qp]
   refine fun _=>⟨_,fun _ _=>kx (n:=6) ⟨rfl,rfl⟩,?_⟩
   simp+contextual only [↓XP,qp]
   refine fun _=>⟨_,fun _ _=>uX ⟨rfl,rfl⟩,?_⟩
   simp+contextual only [↓XP,qh,qb,qe]
   refine fun _=>⟨_,fun _ _=>kG (p:=p) (o:={yB with k:=4,on:=sense,to:=to,n:=1+qG m 5 90,text:=gloss (m.drop 6)}) (by omega) ⟨rfl,rfl⟩,?_⟩
   generalize je p {yB with k:=4,on:=sense,to:=to,n:=1+qG m 5 90,text:=gloss (m.drop 6)}=p3 at h ⊢
   have hd3:p3.d= [.i p3.o,.i p3.s,.i p3.day,.slc (qv p3.needs),.slc (qw p3.ops),.str p3.sl]:=rfl
   simp+contextual only [hd3,qg,qm,n45,↓XP,qh,XW1,qb]
   intros
   exact h
theorem sr {x1 x2 x3 x4 x5 x6 x7:Nat×AO} (h:H.length=n):back n (x1::x2::x3::x4::x5::x6::x7::H)=H:=by
 rw [wz (by simp;omega),iX h]
theorem Dw {a b:Id3}:(decide (a.o=b.o)&&(decide (a.s=b.s)&&decide (a.i=b.i)))=decide (a=b):=by
 cases a;cases b
 simp only [Id3.mk.injEq,Bool.decide_and]
theorem nT {x:Gs} {seen:List Bool} {p:Pt} (ho:∀q∈x.l,q.ops.length<=1000) (hb:x.l.length<=100) (hp:p.ops.length<=1000):(splits x seen p).length<=101000:=by
 have h1:=WM (x:=x) (seen:=seen) ho x.l.length
 have h2:=o7 (p:=p) (ok:=true) p.ops.length
 unfold splits
 rw [Ni]
 unfold yj at h1 ⊢
 omega
theorem tH {x:Gs} {seen:List Bool} {p:Pt} {m:List Int} {H:AH} (hs:x.l.length<=seen.length) (hb:x.l.length<=100) (ho:∀q∈x.l,q.ops.length<=1000) (hp:p.ops.length<=700) (hen:(visible x seen p 2).length≠0->(visible x seen p 1).length≠0) (hsp:∀o∈splits x seen p,o.ids.length=2) (h:R (.agg (step x seen p m).d) H):ACall Tryz.prog 98 [.agg x.d,.slc (jL seen),.agg p.d,.slc (ints m)] H R:=by
 refine b98 fun hf=>?_
 have hbig:=qk
 have hx:x.d= [.slc (jk x.l),.slc (jg x.past)]:=rfl
 have hd:p.d= [.i p.o,.i p.s,.i p.day,.slc (qv p.needs),.slc (qw p.ops),.str p.sl]:=rfl
 simp+contextual only [↓JP,hx,hd,qg,↓JP,↓XP,qh,XW1,qa,qb]
 rintro b1 h1 b2 ⟨n12,h2⟩ b3 ⟨n23,n13,h3⟩
 refine zR (x:=x) (p:=p) hs hb ho (by omega) ?_
 have hvl1:(visible x seen p 1).length<=101000:=JR ho hb (by omega)
 have hvl2:(visible x seen p 2).length<=101000:=JR ho hb (by omega)
 have hvl3:(visible x seen p 3).length<=101000:=JR ho hb (by omega)
 have r0:=qN (l:=m) (i:=0) (most:=24) (by omega)
 have r15:=qN (l:=m) (i:=1) (most:=5) (by omega)
 have r28:=qN (l:=m) (i:=2) (most:=8) (by omega)
 have r38:=qN (l:=m) (i:=3) (most:=8) (by omega)
 have r32:=qN (l:=m) (i:=3) (most:=2) (by omega)
 have r360:=qN (l:=m) (i:=3) (most:=60) (by omega)
 have e5:([[.str [110]],[.str [110]],[.str [110]],[.str [118]],[.str [120]]]:List (List D))=strs cls5:=rfl
 have e2:([[.str [110]],[.str [118]]]:List (List D))=strs cls2:=rfl
 have l5:cls5.length=5:=rfl
 have l2:cls2.length=2:=rfl
 have l8:heads8.length=8:=rfl
 have s15:=kq (show (qG m 1 5).toNat<cls5.length by rw [l5];omega)
 have s28:=kq (show (qG m 2 8).toNat<heads8.length by rw [l8];omega)
 have s38:=kq (show (qG m 3 8).toNat<heads8.length by rw [l8];omega)
 have s32:=kq (show (qG m 3 2).toNat<cls2.length by rw [l2];omega)
 unfold step at h
 simp only at h
 generalize visible x seen p 1=en at h hvl1 hen ⊢
 simp+contextual only [qJ,qg,n12,n13,n23,↓JP,↓XP,qh,XW1,qb]
 refine fun _=>zR (x:=x) (p:=p) hs hb ho (by omega) ?_
 generalize visible x seen p 2=se at h hvl2 hen ⊢
 simp+contextual only [qJ,↓JP,↓XP,qp]
 refine fun _=>jS (i:=0) (by omega) ?_
 generalize qG m 0 24=c at h r0 ⊢
 simp+contextual only [qQ,qJ,qg,n23,↓JP,↓XP,qh,XW1,qb,qc,qe]
 refine fun _ _=>⟨fun h0=>?_,fun h0=>⟨fun h5=>?_,fun h5=>?_⟩⟩
 ·rw [if_pos (.inl (by omega))] at h
  rintro _ _ _ b4 ⟨n34,n24,n14,h4⟩
  refine ⟨_,fun _ _=>jS (i:=1) (by omega) ⟨rfl,rfl⟩,?_⟩
  simp+contextual only [e5,s15,l5,jd,↓XP,qh]
  refine fun _=>⟨by omega,by omega,fun _=>?_⟩
  refine ⟨_,fun _ _=>JM ⟨rfl,rfl⟩,?_⟩
  simp+contextual only [l8,jd,↓XP,qp]
  refine fun _=>⟨_,fun _ _=>jS (i:=2) (by omega) ⟨rfl,rfl⟩,?_⟩
  simp+contextual only [s28,l8,jd,↓XP,qh,qb,qe]
  refine fun _=>⟨by omega,by omega,fun _=>?_⟩
  refine ⟨_,fun _ _=>kG (p:=p) (o:={yB with k:=1,name:=cls5.getD (jR m 1 5) [],text:=heads8.getD (jR m 2 8) []}) (by omega) ⟨rfl,rfl⟩,?_⟩
  generalize hp1:je p {yB with k:=1,name:=cls5.getD (jR m 1 5) [],text:=heads8.getD (jR m 2 8) []}=p1 at h ⊢
  have lp1:p1.ops.length<=801:=by rw [<-hp1,vQ];omega
  have hd1:p1.d= [.i p1.o,.i p1.s,.i p1.day,.slc (qv p1.needs),.slc (qw p1.ops),.str p1.sl]:=rfl
  simp+contextual only [hd1,qg,qm,n23,n24,↓JP,↓XP,qh,XW1,qb]
  refine ⟨_,fun _ _=>kx (n:=3) ⟨rfl,rfl⟩,?_⟩
  simp+contextual only [↓XP,qp]
  refine fun _=>⟨_,fun _ _=>vz (p:=p1) (on:=jQ p) (m:=m.drop 3) (by omega) ⟨rfl,rfl⟩,?_⟩
  generalize meaning p1 (jQ p) (m.drop 3)=p3 at h ⊢
  have hd3:p3.d= [.i p3.o,.i p3.s,.i p3.day,.slc (qv p3.needs),.slc (qw p3.ops),.str p3.sl]:=rfl
  simp+contextual only [hd3,qg,qm,n34,↓XP,qh,XW1,qb]
  intros
  exact h
 ·rw [if_pos (.inr (by omega))] at h
  rintro _ _ _ b4 ⟨n34,n24,n14,h4⟩
  refine ⟨_,fun _ _=>jS (i:=1) (by omega) ⟨rfl,rfl⟩,?_⟩
  simp+contextual only [e5,s15,l5,jd,↓XP,qh]
  refine fun _=>⟨by omega,by omega,fun _=>?_⟩
  refine ⟨_,fun _ _=>JM ⟨rfl,rfl⟩,?_⟩
  simp+contextual only [l8,jd,↓XP,qp]
  refine fun _=>⟨_,fun _ _=>jS (i:=2) (by omega) ⟨rfl,rfl⟩,?_⟩
  simp+contextual only [s28,l8,jd,↓XP,qh,qb,qe]
  refine fun _=>⟨by omega,by omega,fun _=>?_⟩
  refine ⟨_,fun _ _=>kG (p:=p) (o:={yB with k:=1,name:=cls5.getD (jR m 1 5) [],text:=heads8.getD (jR m 2 8) []}) (by omega) ⟨rfl,rfl⟩,?_⟩
  generalize hp1:je p {yB with k:=1,name:=cls5.getD (jR m 1 5) [],text:=heads8.getD (jR m 2 8) []}=p1 at h ⊢
  have lp1:p1.ops.length<=801:=by rw [<-hp1,vQ];omega
  have hd1:p1.d= [.i p1.o,.i p1.s,.i p1.day,.slc (qv p1.needs),.slc (qw p1.ops),.str p1.sl]:=rfl
  simp+contextual only [hd1,qg,qm,n23,n24,↓JP,↓XP,qh,XW1,qb]
  refine ⟨_,fun _ _=>kx (n:=3) ⟨rfl,rfl⟩,?_⟩
  simp+contextual only [↓XP,qp]
  refine fun _=>⟨_,fun _ _=>vz (p:=p1) (on:=jQ p) (m:=m.drop 3) (by omega) ⟨rfl,rfl⟩,?_⟩
  generalize meaning p1 (jQ p) (m.drop 3)=p3 at h ⊢
  have hd3:p3.d= [.i p3.o,.i p3.s,.i p3.day,.slc (qv p3.needs),.slc (qw p3.ops),.str p3.sl]:=rfl
  simp+contextual only [hd3,qg,qm,n34,↓XP,qh,XW1,qb]
  intros
  exact h
 ·rw [if_neg (by rintro (hc|hc);exact h0 (by omega);exact h5 (by omega))] at h
  have hen':=hen (by omega)
  clear hen
  have ra:=qN (l:=m) (i:=1) (most:=(en.length:Int)) (by omega)
  have rb:=qN (l:=m) (i:=1) (most:=(se.length:Int)) (by omega)
  have rc:=qN (l:=m) (i:=2) (most:=(se.length:Int)) (by omega)
  have sa:(j5 en).getD (qG m 1 en.length).toNat []=(en.getD (jR m 1 en.length) default).d:=yp (show (qG m 1 en.length).toNat<en.length by omega)
  have sb:(j5 se).getD (qG m 1 se.length).toNat []=(se.getD (jR m 1 se.length) default).d:=yp (show (qG m 1 se.length).toNat<se.length by omega)
  have sc:(j5 se).getD (qG m 2 se.length).toNat []=(se.getD (jR m 2 se.length) default).d:=yp (show (qG m 2 se.length).toNat<se.length by omega)
  generalize en.getD (jR m 1 en.length) default=ent at h sa
  generalize se.getD (jR m 1 se.length) default=sen at h sb
  generalize se.getD (jR m 2 se.length) default=oth at h sc
  have he1:ent.d= [.i ent.o,.i ent.s,.i ent.i]:=rfl
  have he2:sen.d= [.i sen.o,.i sen.s,.i sen.i]:=rfl
  have he3:oth.d= [.i oth.o,.i oth.s,.i oth.i]:=rfl
  refine fun _=>jS (i:=1) (most:=(en.length:Int)) (by omega) ?_
  simp+contextual only [qJ,sa,he1,↓JP,↓XP,qh,XW1,qb]
  refine fun _=>⟨by omega,by omega,?_⟩
  rintro b4 ⟨n34,n24,n14,h4⟩
  refine fun _=>jS (i:=1) (most:=(se.length:Int)) (by omega) ?_
  simp+contextual only [qJ,sb,he2,↓JP,↓XP,qh,XW1,qb]
  refine fun _=>⟨by omega,by omega,?_⟩
  rintro b5 ⟨n45,n35,n25,n15,h5⟩
  have hc:c=6∨c=7∨c=8∨c=9∨c=10∨c=11∨c=12∨c=13∨c=14∨14<c:=by omega
  refine fun _=>jS (i:=2) (most:=(se.length:Int)) (by omega) ?_
  rcases hc with rfl|rfl|rfl|rfl|rfl|rfl|rfl|rfl|rfl|hc
  ·clear h0 h5 r0
   have q7:((6:Int)=7)=False:=by decide
   have q8:((6:Int)=8)=False:=by decide
   have q9:((6:Int)=9)=False:=by decide
   have q10:((6:Int)=10)=False:=by decide
   have q11:((6:Int)=11)=False:=by decide
   have q12:((6:Int)=12)=False:=by decide
   have q13:((6:Int)=13)=False:=by decide
   have q14:((6:Int)=14)=False:=by decide
   rw [if_pos (by omega)] at h
   simp+contextual only [qJ,qg,n23,sc,he3,n24,n25,n45,↓JP,↓XP,qh,XW1,qb]
   refine fun _=>⟨by omega,by omega,?_⟩
   rintro b6 ⟨n56,n46,n36,n26,n16,h6⟩
   refine ⟨_,fun _ _=>kx (n:=2) ⟨rfl,rfl⟩,?_⟩
   simp+contextual only [↓XP,qp]
   refine fun _=>⟨_,fun _ _=>vz (p:=p) (on:=ent) (m:=m.drop 2) (by omega) ⟨rfl,rfl⟩,?_⟩
   generalize meaning p ent (m.drop 2)=p3 at h ⊢
   have hd3:p3.d= [.i p3.o,.i p3.s,.i p3.day,.slc (qv p3.needs),.slc (qw p3.ops),.str p3.sl]:=rfl
   simp+contextual only [hd3,qg,qm,n34,n35,n36,↓XP,qh,XW1,qb]
   intros
   exact h
  ·clear h0 h5 r0
   have q6:((7:Int)=6)=False:=by decide
   have q8:((7:Int)=8)=False:=by decide
   have q9:((7:Int)=9)=False:=by decide
   have q10:((7:Int)=10)=False:=by decide
   have q11:((7:Int)=11)=False:=by decide
   have q12:((7:Int)=12)=False:=by decide
   have q13:((7:Int)=13)=False:=by decide
   have q14:((7:Int)=14)=False:=by decide
   rw [if_neg (by omega),if_pos (by omega)] at h
   simp+contextual only [qJ,qg,n23,sc,he3,n24,n25,q6,↓JP,↓XP,qh,XW1,qb]
   refine fun _=>⟨by omega,by omega,?_⟩
   rintro b6 ⟨n56,n46,n36,n26,n16,h6⟩
   refine ⟨_,fun _ _=>kx (n:=2) ⟨rfl,rfl⟩,?_⟩
   simp+contextual only [↓XP,qp]
   refine fun _=>⟨_,fun _ _=>vz (p:=p) (on:=sen) (m:=m.drop 2) (by omega) ⟨rfl,rfl⟩,?_⟩
   generalize meaning p sen (m.drop 2)=p3 at h ⊢
   have hd3:p3.d= [.i p3.o,.i p3.s,.i p3.day,.slc (qv p3.needs),.slc (qw p3.ops),.str p3.sl]:=rfl
   simp+contextual only [hd3,qg,qm,n34,n35,n36,↓XP,qh,XW1,qb]
   intros
   exact h
  ·clear h0 h5 r0
   have q6:((8:Int)=6)=False:=by decide
   have q7:((8:Int)=7)=False:=by decide
   have q9:((8:Int)=9)=False:=by decide
   have q10:((8:Int)=10)=False:=by decide
   have q11:((8:Int)=11)=False:=by decide
   have q12:((8:Int)=12)=False:=by decide
   have q13:((8:Int)=13)=False:=by decide
   have q14:((8:Int)=14)=False:=by decide
   rw [if_neg (by omega),if_neg (by omega),if_pos (by omega)] at h
   simp+contextual only [qJ,qg,n12,n13,n23,sc,he3,n14,n24,n15,n25,q6,q7,↓JP,↓XP,qh,XW1,qb]
   refine fun _=>⟨by omega,by omega,?_⟩
   rintro b6 ⟨n56,n46,n36,n26,n16,h6⟩
   refine ⟨_,fun _ _=>kx (n:=2) ⟨rfl,rfl⟩,?_⟩
   simp+contextual only [↓XP,qp]
   refine fun _=>⟨_,fun _ _=>Ub (x:=x) (p:=p) (sense:=sen) (m:=m.drop 2) hs hb ho (by omega) ⟨rfl,rfl⟩,?_⟩
   generalize quoted x seen p sen (m.drop 2)=p3 at h ⊢
   have hd3:p3.d= [.i p3.o,.i p3.s,.i p3.day,.slc (qv p3.needs),.slc (qw p3.ops),.str p3.sl]:=rfl
   simp+contextual only [hd3,qg,qm,n34,n35,n36,↓XP,qh,XW1,qb]
   intros
   exact h
  ·clear h0 h5 r0
   have q6:((9:Int)=6)=False:=by decide
   have q7:((9:Int)=7)=False:=by decide
   have q8:((9:Int)=8)=False:=by decide
   have q10:((9:Int)=10)=False:=by decide
   have q11:((9:Int)=11)=False:=by decide
   have q12:((9:Int)=12)=False:=by decide
   have q13:((9:Int)=13)=False:=by decide
   have q14:((9:Int)=14)=False:=by decide
   rw [if_neg (by omega),if_neg (by omega),if_pos (by omega)] at h
   simp+contextual only [qJ,qg,n12,n13,n23,sc,he3,n14,n24,n15,n25,q6,q7,q8,↓JP,↓XP,qh,XW1,qb]
   refine fun _=>⟨by omega,by omega,?_⟩
   rintro b6 ⟨n56,n46,n36,n26,n16,h6⟩
   refine ⟨_,fun _ _=>kx (n:=2) ⟨rfl,rfl⟩,?_⟩
   simp+contextual only [↓XP,qp]
   refine fun _=>⟨_,fun _ _=>Ub (x:=x) (p:=p) (sense:=sen) (m:=m.drop 2) hs hb ho (by omega) ⟨rfl,rfl⟩,?_⟩
   generalize quoted x seen p sen (m.drop 2)=p3 at h ⊢
   have hd3:p3.d= [.i p3.o,.i p3.s,.i p3.day,.slc (qv p3.needs),.slc (qw p3.ops),.str p3.sl]:=rfl
   simp+contextual only [hd3,qg,qm,n34,n35,n36,↓XP,qh,XW1,qb]
   intros
   exact h
  ·clear h0 h5 r0
   have q6:((10:Int)=6)=False:=by decide
   have q7:((10:Int)=7)=False:=by decide
   have q8:((10:Int)=8)=False:=by decide
   have q9:((10:Int)=9)=False:=by decide
   have q11:((10:Int)=11)=False:=by decide
   have q12:((10:Int)=12)=False:=by decide
   have q13:((10:Int)=13)=False:=by decide
   have q14:((10:Int)=14)=False:=by decide
   rw [if_neg (by omega),if_neg (by omega),if_neg (by omega),if_pos (by omega)] at h
   simp+contextual only [qJ,qg,n23,sc,he3,n24,n25,n45,q6,q7,q8,q9,↓JP,↓XP,qh,XW1,qb]
   refine fun _=>⟨by omega,by omega,?_⟩
   rintro b6 ⟨n56,n46,n36,n26,n16,h6⟩
   refine ⟨_,fun _ _=>kx (n:=2) ⟨rfl,rfl⟩,?_⟩
   simp+contextual only [↓XP,qp]
   refine fun _=>⟨_,fun _ _=>cC (p:=p) (entry:=ent) (sense:=sen) (m:=m.drop 2) (by omega) ⟨rfl,rfl⟩,?_⟩
   generalize divided p ent sen (m.drop 2)=p3 at h ⊢
   have hd3:p3.d= [.i p3.o,.i p3.s,.i p3.day,.slc (qv p3.needs),.slc (qw p3.ops),.str p3.sl]:=rfl
   simp+contextual only [hd3,qg,qm,n34,n35,n36,↓XP,qh,XW1,qb]
   intros
   exact h
  ·clear h0 h5 r0
   have q6:((11:Int)=6)=False:=by decide
   have q7:((11:Int)=7)=False:=by decide
   have q8:((11:Int)=8)=False:=by decide
   have q9:((11:Int)=9)=False:=by decide
   have q10:((11:Int)=10)=False:=by decide
   have q12:((11:Int)=12)=False:=by decide
   have q13:((11:Int)=13)=False:=by decide
   have q14:((11:Int)=14)=False:=by decide
   rw [if_neg (by omega),if_neg (by omega),if_neg (by omega),if_neg (by omega),if_pos (by omega)] at h
   simp+contextual only [qJ,qg,n23,sc,he3,n24,n25,q6,q7,q8,q9,q10,↓JP,↓XP,qh,XW1,qb,qe]
   refine fun _=>⟨by omega,by omega,?_⟩
   rintro b6 ⟨n56,n46,n36,n26,n16,h6⟩
   rw [Dw]
   refine ⟨fun hq=>?_,fun hq=>?_⟩
   ·rw [if_neg (of_decide_eq_false hq)] at h
    refine kG (p:=p) (o:={yB with k:=17,on:=sen,to:=oth}) (by omega) ?_
    generalize je p {yB with k:=17,on:=sen,to:=oth}=p3 at h ⊢
    have hd3:p3.d= [.i p3.o,.i p3.s,.i p3.day,.slc (qv p3.needs),.slc (qw p3.ops),.str p3.sl]:=rfl
    simp+contextual only [hd3,qg,qm,n34,n35,n36,↓XP,qh,XW1,qb]
    intros
    exact h
   ·rw [if_pos (of_decide_eq_true hq)] at h
    unfold yH at h
    refine ⟨by decide,_,fun _ _=>kx (n:=1) ⟨rfl,rfl⟩,?_⟩
    simp+contextual only [↓XP,qp]
    refine fun _=>⟨_,fun _ _=>JZ (sense:=sen) (other:=oth) (n:=((11:Int).tmod 11)) (m:=m.drop 1) ⟨rfl,rfl⟩,?_⟩
    generalize small sen oth ((11:Int).tmod 11) (m.drop 1)=o at h ⊢
    have hod:o.d= [.i o.k,.i o.on.o,.i o.on.s,.i o.on.i,.i o.to.o,.i o.to.s,.i o.to.i,.slc (j5 o.ids),.i o.n,.str o.name,.str o.text,.i o.a,.i o.b]:=rfl
    simp+contextual only [hod,↓XP,qp,XW1]
    refine ⟨_,fun _ _=>kG (p:=p) (o:=o) (by omega) ⟨rfl,rfl⟩,?_⟩
    generalize je p o=p3 at h ⊢
    have hd3:p3.d= [.i p3.o,.i p3.s,.i p3.day,.slc (qv p3.needs),.slc (qw p3.ops),.str p3.sl]:=rfl
    simp+contextual only [hd3,qg,qm,n34,n35,n36,↓XP,qh,XW1,qb]
    intros
    exact h
  ·clear h0 h5 r0
   have q6:((12:Int)=6)=False:=by decide
   have q7:((12:Int)=7)=False:=by decide
   have q8:((12:Int)=8)=False:=by decide
   have q9:((12:Int)=9)=False:=by decide
   have q10:((12:Int)=10)=False:=by decide
   have q11:((12:Int)=11)=False:=by decide
   have q13:((12:Int)=13)=False:=by decide
   have q14:((12:Int)=14)=False:=by decide
   rw [if_neg (by omega),if_neg (by omega),if_neg (by omega),if_neg (by omega),if_neg (by omega),if_pos (by omega)] at h
   simp+contextual only [qJ,qg,n12,n13,n23,sc,he3,n14,n24,n15,n25,q6,q7,q8,q9,q10,q11,↓JP,↓XP,qh,XW1,qb]
   refine fun _=>⟨by omega,by omega,?_⟩
   rintro b6 ⟨n56,n46,n36,n26,n16,h6⟩
   refine iU (x:=x) (p:=p) hs hb ho (by omega) ?_
   have hspl:(splits x seen p).length<=101000:=nT ho hb (by omega)
   generalize splits x seen p=spl at h hsp hspl ⊢
   simp+contextual only [qQ,qg,n23,n24,n25,n26,n56,↓JP,↓XP,qh,XW1,qb]
   refine fun _=>⟨fun hl0=>?_,fun hl0=>?_⟩
   ·rw [if_neg (by omega)] at h
    have rd:=qN (l:=m) (i:=3) (most:=(spl.length:Int)) (by omega)
    have hlt:jR m 3 spl.length<spl.length:=by unfold jR;omega
    have sd:(qw spl).getD (qG m 3 spl.length).toNat []=(spl.getD (jR m 3 spl.length) default).d:=kO hlt
    have hi2:(spl.getD (jR m 3 spl.length) default).ids.length=2:=hsp _ (by rw [jB hlt];exact List.getElem_mem _)
    generalize spl.getD (jR m 3 spl.length) default=o at h sd hi2
    have hod:o.d= [.i o.k,.i o.on.o,.i o.on.s,.i o.on.i,.i o.to.o,.i o.to.s,.i o.to.i,.slc (j5 o.ids),.i o.n,.str o.name,.str o.text,.i o.a,.i o.b]:=rfl
    refine jS (i:=3) (most:=(spl.length:Int)) (by omega) ?_
    simp+contextual only [sd,hod,qQ,qJ,qg,n23,n24,n25,n26,n56,↓JP,↓XP,qh,XW1,qb,qe]
    refine fun _=>⟨by omega,by omega,?_⟩
    rintro b7 ⟨n67,n57,n47,n37,n27,n17,h7⟩
    have rf:=qN (l:=m) (i:=4) (most:=(o.ids.length:Int)) (by omega)
    have hlf:jR m 4 o.ids.length<o.ids.length:=by unfold jR;omega
    have sf:(j5 o.ids).getD (qG m 4 o.ids.length).toNat []=(o.ids.getD (jR m 4 o.ids.length) default).d:=yp hlf
    generalize o.ids.getD (jR m 4 o.ids.length) default=it at h sf
    have hit:it.d= [.i it.o,.i it.s,.i it.i]:=rfl
    refine fun _=>⟨_,fun _ _=>jS (i:=4) (most:=(o.ids.length:Int)) (by omega) ⟨rfl,rfl⟩,?_⟩
    simp+contextual only [qJ,sf,hit,↓XP,qh,XW1,qb,qc,qe]
    refine fun _=>⟨by omega,by omega,?_⟩
    refine ⟨_,fun _ _=>kG (p:=p) (o:={yB with k:=18,on:=sen,to:=o.on,ids:= [it]}) (by omega) ⟨rfl,rfl⟩,?_⟩
    generalize je p {yB with k:=18,on:=sen,to:=o.on,ids:= [it]}=p3 at h ⊢
    have hd3:p3.d= [.i p3.o,.i p3.s,.i p3.day,.slc (qv p3.needs),.slc (qw p3.ops),.str p3.sl]:=rfl
    simp+contextual only [hd3,qg,qm,n34,n35,n36,sr,n37,↓XP,qh,XW1,qb]
    intros
    exact h
   ·rw [if_pos (by omega)] at h
    unfold yH at h
    refine ⟨by decide,_,fun _ _=>kx (n:=1) ⟨rfl,rfl⟩,?_⟩
    simp+contextual only [↓XP,qp]
    refine fun _=>⟨_,fun _ _=>JZ (sense:=sen) (other:=oth) (n:=((12:Int).tmod 11)) (m:=m.drop 1) ⟨rfl,rfl⟩,?_⟩
    generalize small sen oth ((12:Int).tmod 11) (m.drop 1)=o at h ⊢
    have hod:o.d= [.i o.k,.i o.on.o,.i o.on.s,.i o.on.i,.i o.to.o,.i o.to.s,.i o.to.i,.slc (j5 o.ids),.i o.n,.str o.name,.str o.text,.i o.a,.i o.b]:=rfl
    simp+contextual only [hod,↓XP,qp,XW1]
    refine ⟨_,fun _ _=>kG (p:=p) (o:=o) (by omega) ⟨rfl,rfl⟩,?_⟩
    generalize je p o=p3 at h ⊢
    have hd3:p3.d= [.i p3.o,.i p3.s,.i p3.day,.slc (qv p3.needs),.slc (qw p3.ops),.str p3.sl]:=rfl
    simp+contextual only [hd3,qg,qm,n34,n35,n36,↓XP,qh,XW1,qb]
    intros
    exact h
  ·clear h0 h5 r0
   have q6:((13:Int)=6)=False:=by decide
   have q7:((13:Int)=7)=False:=by decide
   have q8:((13:Int)=8)=False:=by decide
   have q9:((13:Int)=9)=False:=by decide
   have q10:((13:Int)=10)=False:=by decide
   have q11:((13:Int)=11)=False:=by decide
   have q12:((13:Int)=12)=False:=by decide
   have q14:((13:Int)=14)=False:=by decide
   rw [if_neg (by omega),if_neg (by omega),if_neg (by omega),if_neg (by omega),if_neg (by omega),if_neg (by omega),if_pos (by omega)] at h
   simp+contextual only [qJ,sc,he3,q6,q7,q8,q9,q10,q11,q12,↓JP,↓XP,qh,XW1,qb]
   refine fun _=>⟨by omega,by omega,?_⟩
   rintro b6 ⟨n56,n46,n36,n26,n16,h6⟩
   refine jS (i:=2) (by omega) ?_
   simp+contextual only [qg,n23,n24,n25,n45,n26,n46,↓JP,↓XP,qh,XW1,qb,qc,qe]
   refine fun _=>⟨fun hq=>?_,fun hq=>?_⟩
   ·rw [if_pos (by omega)] at h
    refine ⟨_,fun _ _=>JM ⟨rfl,rfl⟩,?_⟩
    simp+contextual only [l8,jd,↓XP,qp]
    refine fun _=>⟨_,fun _ _=>jS (i:=3) (by omega) ⟨rfl,rfl⟩,?_⟩
    simp+contextual only [s38,l8,jd,↓XP,qh,qb,qe]
    refine fun _=>⟨by omega,by omega,fun _=>?_⟩
    refine ⟨_,fun _ _=>kG (p:=p) (o:={yB with k:=5,on:=ent,text:=heads8.getD (jR m 3 8) []}) (by omega) ⟨rfl,rfl⟩,?_⟩
    generalize je p {yB with k:=5,on:=ent,text:=heads8.getD (jR m 3 8) []}=p3 at h ⊢
    have hd3:p3.d= [.i p3.o,.i p3.s,.i p3.day,.slc (qv p3.needs),.slc (qw p3.ops),.str p3.sl]:=rfl
    simp+contextual only [hd3,qg,qm,n34,n35,n36,↓XP,qh,XW1,qb]
    intros
    exact h
   ·rw [if_neg (by omega)] at h
    refine ⟨_,fun _ _=>jS (i:=3) (by omega) ⟨rfl,rfl⟩,?_⟩
    simp+contextual only [s32,l2,e2,jd,↓XP,qh,qb,qe]
    refine fun _=>⟨by omega,by omega,fun _=>?_⟩
    refine ⟨_,fun _ _=>kG (p:=p) (o:={yB with k:=6,on:=ent,name:=cls2.getD (jR m 3 2) []}) (by omega) ⟨rfl,rfl⟩,?_⟩
    generalize je p {yB with k:=6,on:=ent,name:=cls2.getD (jR m 3 2) []}=p3 at h ⊢
    have hd3:p3.d= [.i p3.o,.i p3.s,.i p3.day,.slc (qv p3.needs),.slc (qw p3.ops),.str p3.sl]:=rfl
    simp+contextual only [hd3,qg,qm,n34,n35,n36,↓XP,qh,XW1,qb]
    intros
    exact h
  ·clear h0 h5 r0
   have q6:((14:Int)=6)=False:=by decide
   have q7:((14:Int)=7)=False:=by decide
   have q8:((14:Int)=8)=False:=by decide
   have q9:((14:Int)=9)=False:=by decide
   have q10:((14:Int)=10)=False:=by decide
   have q11:((14:Int)=11)=False:=by decide
   have q12:((14:Int)=12)=False:=by decide
   have q13:((14:Int)=13)=False:=by decide
   rw [if_neg (by omega),if_neg (by omega),if_neg (by omega),if_neg (by omega),if_neg (by omega),if_neg (by omega),if_neg (by omega),if_pos (by omega)] at h
   simp+contextual only [qJ,qg,n12,n13,n23,sc,he3,n14,n24,n15,n25,q6,q7,q8,q9,q10,q11,q12,q13,↓JP,↓XP,qh,XW1,qb]
   refine fun _=>⟨by omega,by omega,?_⟩
   rintro b6 ⟨n56,n46,n36,n26,n16,h6⟩
   refine zR (x:=x) (p:=p) hs hb ho (by omega) ?_
   generalize visible x seen p 3=src at h hvl3 ⊢
   simp+contextual only [qJ,qg,n23,n24,n25,n26,n56,↓JP,↓XP,qh,XW1,qb]
   refine fun _=>⟨fun hl0=>?_,fun hl0=>?_⟩
   ·rw [if_neg (by omega)] at h
    have w1:IntKind.i64.wrap (500*qG m 3 60)=500*qG m 3 60:=qi (by omega) (by omega)
    have w2:IntKind.i64.wrap (600000+500*qG m 3 60)=600000+500*qG m 3 60:=qi (by omega) (by omega)
    have w3:IntKind.i64.wrap (600000+500*qG m 3 60+99)=600000+500*qG m 3 60+99:=qi (by omega) (by omega)
    have rd:=qN (l:=m) (i:=2) (most:=(src.length:Int)) (by omega)
    have hlt:jR m 2 src.length<src.length:=by unfold jR;omega
    have sd:(j5 src).getD (qG m 2 src.length).toNat []=(src.getD (jR m 2 src.length) default).d:=yp hlt
    generalize src.getD (jR m 2 src.length) default=it at h sd
    have hit:it.d= [.i it.o,.i it.s,.i it.i]:=rfl
    refine jS (i:=3) (by omega) ?_
    simp+contextual only [qJ,qg,n23,n24,n25,n26,w1,w2,↓JP,↓XP,qh,XW1,qb]
    refine fun _ _=>⟨_,fun _ _=>jS (i:=2) (most:=(src.length:Int)) (by omega) ⟨rfl,rfl⟩,?_⟩
    simp+contextual only [qJ,sd,hit,w3,↓XP,qh,qb,qe]
    refine fun _=>⟨by omega,by omega,?_⟩
    refine ⟨_,fun _ _=>kG (p:=p) (o:={yB with k:=11,on:=it,a:=600000+500*qG m 3 60,b:=600000+500*qG m 3 60+99}) (by omega) ⟨rfl,rfl⟩,?_⟩
    generalize je p {yB with k:=11,on:=it,a:=600000+500*qG m 3 60,b:=600000+500*qG m 3 60+99}=p3 at h ⊢
    have hd3:p3.d= [.i p3.o,.i p3.s,.i p3.day,.slc (qv p3.needs),.slc (qw p3.ops),.str p3.sl]:=rfl
    simp+contextual only [hd3,qg,qm,n34,n35,n36,↓XP,qh,XW1,qb]
    intros
    exact h
   ·rw [if_pos (by omega)] at h
    unfold yH at h
    refine ⟨by decide,_,fun _ _=>kx (n:=1) ⟨rfl,rfl⟩,?_⟩
    simp+contextual only [↓XP,qp]
    refine fun _=>⟨_,fun _ _=>JZ (sense:=sen) (other:=oth) (n:=((14:Int).tmod 11)) (m:=m.drop 1) ⟨rfl,rfl⟩,?_⟩
    generalize small sen oth ((14:Int).tmod 11) (m.drop 1)=o at h ⊢
    have hod:o.d= [.i o.k,.i o.on.o,.i o.on.s,.i o.on.i,.i o.to.o,.i o.to.s,.i o.to.i,.slc (j5 o.ids),.i o.n,.str o.name,.str o.text,.i o.a,.i o.b]:=rfl
    simp+contextual only [hod,↓XP,qp,XW1]
    refine ⟨_,fun _ _=>kG (p:=p) (o:=o) (by omega) ⟨rfl,rfl⟩,?_⟩
    generalize je p o=p3 at h ⊢
    have hd3:p3.d= [.i p3.o,.i p3.s,.i p3.day,.slc (qv p3.needs),.slc (qw p3.ops),.str p3.sl]:=rfl
    simp+contextual only [hd3,qg,qm,n34,n35,n36,↓XP,qh,XW1,qb]
    intros
    exact h
  ·have q6:(c=6)=False:=qy
   have q7:(c=7)=False:=qy
   have q8:(c=8)=False:=qy
   have q9:(c=9)=False:=qy
   have q10:(c=10)=False:=qy
   have q11:(c=11)=False:=qy
   have q12:(c=12)=False:=qy
   have q13:(c=13)=False:=qy
   have q14:(c=14)=False:=qy
   rw [if_neg (by omega),if_neg (by omega),if_neg (by omega),if_neg (by omega),if_neg (by omega),if_neg (by omega),if_neg (by omega),if_neg (by omega)] at h
   simp+contextual only [qJ,qg,n23,sc,he3,n24,n25,q6,q7,q8,q9,q10,q11,q12,q13,q14,↓JP,↓XP,qh,XW1,qb]
   refine fun _=>⟨by omega,by omega,?_⟩
   rintro b6 ⟨n56,n46,n36,n26,n16,h6⟩
   unfold yH at h
   refine ⟨by decide,_,fun _ _=>kx (n:=1) ⟨rfl,rfl⟩,?_⟩
   simp+contextual only [↓XP,qp]
   refine fun _=>⟨_,fun _ _=>JZ (sense:=sen) (other:=oth) (n:=(c.tmod 11)) (m:=m.drop 1) ⟨rfl,rfl⟩,?_⟩
   generalize small sen oth (c.tmod 11) (m.drop 1)=o at h ⊢
   have hod:o.d= [.i o.k,.i o.on.o,.i o.on.s,.i o.on.i,.i o.to.o,.i o.to.s,.i o.to.i,.slc (j5 o.ids),.i o.n,.str o.name,.str o.text,.i o.a,.i o.b]:=rfl
   simp+contextual only [hod,↓XP,qp,XW1]
   refine ⟨_,fun _ _=>kG (p:=p) (o:=o) (by omega) ⟨rfl,rfl⟩,?_⟩
   generalize je p o=p3 at h ⊢
   have hd3:p3.d= [.i p3.o,.i p3.s,.i p3.day,.slc (qv p3.needs),.slc (qw p3.ops),.str p3.sl]:=rfl
   simp+contextual only [hd3,qg,qm,n34,n35,n36,↓XP,qh,XW1,qb]
   intros
   exact h
theorem mT {x:Gs} {seen:List Bool} {p:Pt} {m:List Int} {b3 b6 b8:Nat} {c6:AO} {H:AH} {Q:AQ} {F:List D} (hx:GInv x) (hb:x.l.length<=20) (hs:seen.length=x.l.length) (hp:p.ops= []) (hv:VOk x seen p) (n38:b3≠b8) (n36:b3≠b6) (n68:b6≠b8)
  (hF:Fr 139 [(2,.slc (ints m)),(3,.ptr b3 0),(6,.ptr b6 0),(8,.ptr b8 0),(9,.slc (jL seen)),(13,.i 0)] F) (hE:∀F',Fr 139 [(2,.slc (ints m)),(3,.ptr b3 0),(6,.ptr b6 0),(8,.ptr b8 0),(9,.slc (jL seen))] F'->∀i,i=1+jR m 5 2->Q (.exit 4) F' ((b8,AO.cells (jr x seen p m i).d)::(b6,c6)::(b3,AO.cells [.own (jk x.l),.own (jg x.past)])::H)):
  ∀i,i=0->XW Tryz.prog (zS 61) F ((b8,AO.cells (jr x seen p m i).d)::(b6,c6)::(b3,AO.cells [.own (jk x.l),.own (jg x.past)])::H) Q:=by
 intro i0 hi0
 have hbig:=qk
 have a5:=qN (l:=m) (i:=5) (most:=2) (by omega)
 obtain ⟨n,hn⟩:∃n:Nat,1+jR m 5 2=n:=⟨_,rfl⟩
 have hn2:n<=2:=by unfold jR at hn;omega
 have hne:1+qG m 5 2=(n:Int):=by unfold jR at hn;omega
 have w1:IntKind.i64.wrap (1+qG m 5 2)=(n:Int):=by rw [hne];exact qi (by omega) (by omega)
 refine XW.loopK hm (fun F H'=>∃(i:Nat),i<=n∧Fr 139 [(2,.slc (ints m)),(3,.ptr b3 0),(6,.ptr b6 0),(8,.ptr b8 0),(9,.slc (jL seen)),(13,.i (i:Int))] F∧((b8,AO.cells (jr x seen p m i).d)::(b6,c6)::(b3,AO.cells [.own (jk x.l),.own (jg x.past)])::H)=H') (fun F H=>match F.getD 13 .any with| .int _ n'=>n - n'.toNat|_=>0) ⟨0,by omega,hF,by rw [hi0]⟩ ?_
 clear hF hi0
 rintro _ _ ⟨i,hi,hF,rfl⟩ K hN hE' hR
 obtain ⟨z,rfl⟩:=hF.fl rfl
 try dsimp only [fl,zz,qa,qb] at*
 clear hF hR
 by_cases hlt:i<n
 ·have nx:∀F',Fr 139 [(2,.slc (ints m)),(3,.ptr b3 0),(6,.ptr b6 0),(8,.ptr b8 0),(9,.slc (jL seen)),(13,.i ((i+1:Nat):Int))] F'->∀j,j=i+1->K .normal F' ((b8,AO.cells (jr x seen p m j).d)::(b6,c6)::(b3,AO.cells [.own (jk x.l),.own (jg x.past)])::H):=fun F' hF' j hj=>hN _ _ ⟨i+1,hlt,hF',by rw [hj];exact (qz rfl).symm⟩ (by
   rw [Na,hF'.2.2.2.2.2.2.1]
   simp only [Nc,Nd,Ng]
   omega)
  have nx2:=nx
  clear hN hE' hE nx
  obtain ⟨more,g1,g2⟩:=uQ (x:=x) (seen:=seen) (p:=p) (m:=m) hp hv i
  have nx:=fun F' hF'=>nx2 F' hF' (i+1) rfl
  simp only [jr] at nx
  clear nx2
  generalize jr x seen p m i=q at g1 g2 nx ⊢
  have hqo:q.ops=more:=by rw [g1.eq];simp only [hp,N1]
  have hql:=g1.len
  have hqk:=g1.ok
  rw [<-hqo] at hql hqk
  have hspl:=cB hx (seen:=seen) (p:=q) hqk
  have w2:IntKind.i64.wrap (13*(i:Int))=13*(i:Int):=qi (by omega) (by omega)
  have w3:IntKind.i64.wrap (6+13*(i:Int))=((6+13*i:Nat):Int):=by rw [qi (by omega) (by omega)];omega
  have hd:q.d= [.i q.o,.i q.s,.i q.day,.slc (qv q.needs),.slc (qw q.ops),.str q.sl]:=rfl
  simp+contextual only [↓Wo,↓wu,↓XP,qp]
  refine jS (i:=5) (by omega) ?_
  simp+contextual only [qg,n38,n36,w1,hd,↓Wo,↓wu,↓XP,qh,XW1,qb]
  refine fun _=>⟨fun _=>?_,fun hge=>absurd (by omega) hge⟩
  simp+contextual only [w2,w3]
  refine ⟨_,fun _ _=>kx ⟨rfl,rfl⟩,?_⟩
  simp+contextual only [↓wu,↓XP,qp]
  refine fun _=>⟨_,fun _ _=>tH (x:=x) (p:=q) (by omega) (by omega) (fun q hq=>by have:=hx.op q hq;omega) (by omega) g2 hspl ⟨rfl,rfl⟩,?_⟩
  generalize step x seen q (List.drop (6+13*i) m)=p3 at nx ⊢
  have hd3:p3.d= [.i p3.o,.i p3.s,.i p3.day,.slc (qv p3.needs),.slc (qw p3.ops),.str p3.sl]:=rfl
  simp only [hd3] at nx
  simp+contextual only [hd3,qj (show i<=big by omega),↓Wo,↓wu,↓XP,qh,XW1,qb]
  exact nx _ ⟨rfl,rfl,rfl,rfl,rfl,rfl,rfl,trivial⟩
 ·have hik:i=n:=by omega
  subst hik
  clear hN
  simp+contextual only [↓Wo,↓wu,↓XP,qp]
  refine jS (i:=5) (by omega) ?_
  simp+contextual only [w1,↓wu,↓XP,qp]
  exact fun _=>hE' _ _ _ (hE _ ⟨rfl,rfl,rfl,rfl,rfl,rfl,trivial⟩ _ hn.symm)
theorem Yv (h:xs≠ []->b≠c):jF ((c,o)::H) b xs=(c,o)::jF H b xs:=by
 unfold jF
 split
 ·rfl
 ·rename_i hx
  rw [uk (h hx)]
theorem cH (h:xs≠ []->c≠b) (hg:qn H c=some o):qn (jF H b xs) c=some o:=by
 unfold jF
 split
 ·exact hg
 ·rename_i hx
  have hne:=h hx
  induction H with
  |nil=>cases hg
  | cons p r ih=>
   obtain ⟨e,o'⟩:=p
   unfold qT
   by_cases he:b=e
   ·rw [if_pos he]
    subst he
    rwa [qg hne] at hg
   ·rw [if_neg he]
    by_cases hc:c=e
    ·subst hc
     rw [ji] at hg ⊢
     exact hg
    ·rw [qg hc] at hg ⊢
     exact ih hg
theorem Gz.take2 {b3 b6} {k:List D->AH->Prop} (h3:qH H b3) (h6:qH H b6) (hl:xs≠ []->qn H bl=some (.room cl xs)) (hp:ys≠ []->qn H bp=some (.room cp ys)) (hne:xs≠ []->ys≠ []->bl≠bp)
  (h:∀Hr:AH,Hr=jF (jF H bl xs) bp ys->Hr.Sublist H->k F ((b6,c6)::(b3,.cells [.own xs,.own ys])::Hr)):Gz F ((b6,c6)::(b3,.cells [.osl bl cl xs,.osl bp cp ys])::H) k:=by
 have f3:∀{b o},qn H b=some o->b≠b3:=fun hg=>qO h3 hg
 have f6:∀{b o},qn H b=some o->b≠b6:=fun hg=>qO h6 hg
 refine Gz.bind (k:=fun F' H'=>F'=F∧H'=(b3,.cells [.osl bl cl xs,.osl bp cp ys])::(b6,c6)::H) (Gz.sb (fun hn=>?_) ⟨rfl,rfl⟩) ?_
 ·refine ⟨?_,fun p hp=>?_⟩
  ·simp only [List.map_cons,List.nodup_cons,Nv,not_or] at hn ⊢
   exact ⟨⟨fun e=>hn.1.1 e.symm,hn.2.1⟩,hn.1.2,hn.2.2⟩
  ·simp only [Nv] at hp ⊢
   rcases hp with h|h|h
   ·exact .inr (.inl h)
   ·exact .inl h
   ·exact .inr (.inr h)
 intro F2 H2 hh
 rw [hh.1,hh.2]
 clear hh
 refine Gz.bind (k:=fun F'' H''=>F''=F∧H''=(b3,.cells [.own xs,.osl bp cp ys])::(b6,c6)::jF H bl xs) (Gz.take (j:=0) rfl (fun hx=>by rw [qg (f6 (hl hx))];exact hl hx) ⟨rfl,by rw [Yv (fun hx=>f6 (hl hx))];rfl⟩) ?_
 intro F2 H2 hh
 rw [hh.1,hh.2]
 clear hh
 have hp2:ys≠ []->qn (jF H bl xs) bp=some (.room cp ys):=fun hy=>cH (fun hx=>(hne hx hy).symm) (hp hy)
 refine Gz.bind (k:=fun F'' H''=>F''=F∧H''=(b3,.cells [.own xs,.own ys])::(b6,c6)::jF (jF H bl xs) bp ys) (Gz.take (j:=1) rfl (fun hy=>by rw [qg (f6 (hp hy))];exact hp2 hy) ⟨rfl,by rw [Yv (fun hy=>f6 (hp hy))];rfl⟩) ?_
 intro F2 H2 hh
 rw [hh.1,hh.2]
 clear hh
 refine Gz.sb (fun hn=>?_) (h (jF (jF H bl xs) bp ys) rfl (dropR_sub.trans dropR_sub))
 refine ⟨?_,fun p hp=>?_⟩
 ·simp only [List.map_cons,List.nodup_cons,Nv,not_or] at hn ⊢
  exact ⟨⟨fun e=>hn.1.1 e.symm,hn.2.1⟩,hn.1.2,hn.2.2⟩
 ·simp only [Nv] at hp ⊢
  rcases hp with h|h|h
  ·exact .inr (.inl h)
  ·exact .inl h
  ·exact .inr (.inr h)
theorem Gz.view1 {k:List D->AH->Prop} (hg:qn H bx=some (.cells cs)) (h:k F (qM H bx (.cells (cs.map D.view1)))):Gz F H k:=by
 intro K w t hs
 refine ⟨F,_,K,h,.refl K w,hs.krel,⟨by rw [jW];exact hs.hrel.nd,fun c' o' hm'=>?_⟩,hs.len,hs.slot⟩
 rcases kY hs.hrel.nd hm' with ⟨rfl,rfl⟩|⟨hne,hm'⟩
 ·obtain ⟨hpb,c,T,hb,hcs,hrc⟩:=hs.hrel.ok c' _ (qW hg)
  refine ⟨hpb,c,T,hb,by simpa using hcs,fun j d hd=>?_⟩
  rw [Nf,Option.map_eq_some_iff] at hd
  obtain ⟨d',e1,rfl⟩:=hd
  obtain ⟨u,f1,f2,f3⟩:=hrc j d' e1
  refine ⟨u,f1,f2,?_⟩
  cases d'<;>first|exact f3|exact OwnAt.rep f3
 ·exact hs.hrel.ok c' o' hm'
theorem bn:(List.replicate n [D.bool false]).flatten=(List.replicate n false).map D.bool:=by
 induction n with
 |zero=>rfl
 |succ n ih=>rw [List.replicate_succ,List.replicate_succ,N5,ih];rfl
theorem ZZ:l.map D.bool=(jL l).flatten++ []:=by
 induction l with
 |nil=>rfl
 |cons b r ih=>simp only [List.map_cons,jL,N5,N2,N1];rw [ih];simp [jL]
theorem J3:jF H b []=H:=by simp [jF]
theorem Gz.then {k:List D->AH->Prop} (h:Gz F H fun F' H'=>Gz F' H' k):Gz F H k:=Gz.bind h fun _ _ h=>h
theorem rJ:(Tryz.prog.info? 4).map (·.bytes)=some 1:=by kernel_rfl
theorem Et (h:n<=1000):match Tryz.prog.info? 4 with|some i=>(i.bytes:Int)*n<=140737488355328∧n<=140737488355328|none=>False:=by
 have h4:=rJ
 cases hq:Tryz.prog.info? 4 with
 |none=>rw [hq] at h4;cases h4
 | some i=>
  rw [hq] at h4
  simp only [Option.map_some,Option.some.injEq] at h4
  simp only [h4]
  omega
theorem tQ (hx:GInv x) (hb:x.l.length<=20) (hof:1<=offices) (hof':offices<=10)
  (hr1:jk x.l≠ []->qn H bl=some (.room cl (jk x.l))) (hr2:jg x.past≠ []->qn H bp=some (.room cp (jg x.past)))
  (h:∀bl' cl' bp' cp',bl'≠bp'->qH (jF (jF H bl (jk x.l)) bp (jg x.past)) bl'->qH (jF (jF H bl (jk x.l)) bp (jg x.past)) bp'->R (.agg [.osl bl' cl' (jk (next x offices m).l),.osl bp' cp' (jg (next x offices m).past)]) ((bp',.room cp' (jg (next x offices m).past))::(bl',.room cl' (jk (next x offices m).l))::jF (jF H bl (jk x.l)) bp (jg x.past))):
  ACall Tryz.prog 58 [.agg [.osl bl cl (jk x.l),.osl bp cp (jg x.past)],.i offices,.slc (ints m)] H R:=by
 have hbig:=qk
 have hne:jk x.l≠ []->jg x.past≠ []->bl≠bp:=fun h1 h2 e=>by
  have e1:=hr1 h1
  rw [e,hr2 h2] at e1
  injection e1 with e1
  injection e1 with e1 e2
  cases hl:x.l with
  |nil=>rw [hl] at h1;exact h1 rfl
  | cons p r=>
   cases hq:x.past with
   |nil=>rw [hq] at h2;exact h2 rfl
   |cons p' r'=>rw [hl,hq] at e2;simp [jk,jg,Pt.d] at e2
 refine r58 fun hf=>?_
 simp+contextual only [x58,↓Wo,↓wu,↓yX,↓XP,qh,XW1,qa,qb]
 rintro b3 h3 b6 ⟨n36,h6⟩
 rw [Jx]
 refine Gz.take2 h3 h6 hr1 hr2 hne fun Hr hHe hHr=>?_
 rw [<-hHe] at h
 simp+contextual only [↓wu,↓yX,↓XP,qp]
 refine jS (i:=0) (by omega) ?_
 have a0:=qN (l:=m) (i:=0) (most:=(offices:Int)) (by omega)
 simp+contextual only [↓Wo,↓wu,↓yX,↓XP,qh,XW1,qb,qe]
 intro _ b8 hh
 obtain ⟨n68,n38,h8⟩:=hh
 rw [Jx]
 refine Gz.then (Gz.take (j:=3) rfl (fun h=>(h rfl).elim) (Gz.weak ji ?_))
 rw [J3]
 simp+contextual only [qg,n36,n38,D.wk,jG,↓wu,↓yX,↓XP,qh,XW1]
 refine fun _=>⟨Et (by omega),fun b9 hh=>?_⟩
 obtain ⟨n89,n69,n39,h9⟩:=hh
 rw [bn]
 have hrn:=kr (x:=x) (o:=qG m 0 offices) (m:=m) offices
 have hri:=wI hx (o:=qG m 0 offices) (m:=m) offices
 refine pt (x:=x) (offices:=offices) (n:=x.l.length) ⟨n39,n38,n36,n89,n69,n68⟩ hof' (by omega) rfl hx.np hx.pk (fun p hp=>by have:=hx.sq p hp;omega) (js h8) ⟨rfl,rfl,rfl,rfl,rfl,rfl,rfl,rfl,rfl,trivial⟩ (fun F' hF' s hs=>?_) (qE x (qG m 0 offices) m 0) rfl
 have hnx:next x offices m=⟨x.l++ [jr x s.seen {s.p with day:=s.p.day+qG m 4 4} m (1+jR m 5 2)],x.past++ [s.seen]⟩:=by rw [hs];rfl
 rw [hnx] at h
 have hp14:=Wi hx hof' (m:=m)
 rw [<-hs] at hrn hri hp14
 obtain ⟨z,rfl⟩:=hF'.fl rfl
 try dsimp only [fl,zz,qa,qb] at*
 clear hF' hnx hs
 obtain ⟨g1,g2,g3,g4⟩:=hrn
 obtain ⟨i1,i2,i3,i4,i5⟩:=hri
 have hdn:s.p.dn= [.i s.p.o,.i s.p.s,.i s.p.day,.own (qv s.p.needs),.slc [],.str []]:=rfl
 have a4:=qN (l:=m) (i:=4) (most:=4) (by omega)
 have wd:IntKind.i64.wrap (s.p.day+qG m 4 4)=s.p.day+qG m 4 4:=qi (by omega) (by omega)
 simp+contextual only [qg,n89,hdn,↓Wo,↓wu,↓yX,↓XP,qh,XW1]
 refine fun _=>⟨_,fun _ _=>jS (i:=4) (by omega) ⟨rfl,rfl⟩,?_⟩
 simp+contextual only [qg,qm,n89,wd,↓wu,↓yX,↓XP,qh,XW1,qb]
 refine fun _=>⟨by omega,?_⟩
 rw [Jx]
 refine Gz.then (Gz.of_fz (Fz.freeze (s:=9) (b:=b9) (n:=x.l.length) (sz:=1) (xs:=jL s.seen) (rest:= []) rfl ji ZZ (by rw [vv,g4]) pf (by omega) (fun y hy d hd=>by
  obtain ⟨t,_,rfl⟩:=List.mem_map.1 hy
  rw [List.mem_singleton.1 hd]
  rfl)) ?_)
 rw [vY]
 refine Gz.view1 (bx:=b8) ji ?_
 obtain ⟨p,hpp⟩:∃p:Pt,p={s.p with day:=s.p.day+qG m 4 4}:=⟨_,rfl⟩
 have hpo:p.ops= []:=by rw [hpp];exact g2
 have hd0:p.d= [.i s.p.o,.i s.p.s,.i (s.p.day+qG m 4 4),.slc (qv s.p.needs),.slc [],.str []]:=by
  rw [hpp]
  simp only [Pt.d,g2,g3]
  rfl
 rw [<-hpp] at h hp14
 simp+contextual only [↓wu,↓yX,↓XP,qp]
 rw [<-hd0]
 refine mT (x:=x) (seen:=s.seen) (p:=p) hx hb g4 hpo (VOk.base hx i1 hpo) n38 n36 n68 ⟨rfl,rfl,rfl,rfl,rfl,rfl,rfl,trivial⟩ (fun F' hF' i hi=>?_) 0 rfl
 rw [hi]
 clear hi i hd0
 obtain ⟨more,e1,-⟩:=hp14
 generalize jr x s.seen p m (1+jR m 5 2)=q at h e1 ⊢
 obtain ⟨z,rfl⟩:=hF'.fl rfl
 try dsimp only [fl,zz,qa,qb] at*
 clear hF'
 have hd:q.d= [.i q.o,.i q.s,.i q.day,.slc (qv q.needs),.slc (qw q.ops),.str q.sl]:=rfl
 simp+contextual only [qg,qm,n36,n38,hd,Zt,jG,↓Wo,↓wu,↓yX,↓XP,qh,XW1,qb,qc,qe]
 have hnp:=hx.np
 refine ⟨pw,by omega,xu,by omega,?_⟩
 rw [<-hd,show [q.d]=jk [q] from rfl,aO,show [[D.slc (jL s.seen)]]=jg [s.seen] from rfl,show jg x.past++jg [s.seen]=jg (x.past++ [s.seen]) by simp [jg]]
 rw [Jx]
 have hx1:jk (x.l++ [q])≠ []:=by simp [jk]
 have hx2:jg (x.past++ [s.seen])≠ []:=by simp [jg]
 try dsimp only at h
 generalize hX:jk (x.l++ [q])=X at h hx1 ⊢
 generalize hY:jg (x.past++ [s.seen])=Y at h hx2 ⊢
 refine Gz.then (Gz.give (bx:=b3) (j:=0) (xs:=X) hx1 (by rw [qg n38,qg n36,ji]) rfl (fun bl' cl' f1=>?_))
 simp only [nH] at f1
 obtain ⟨t8,t6,t3,tr⟩:=f1
 rw [qm n38,qm n36,wT]
 refine Gz.give (bx:=b3) (j:=1) (xs:=Y) hx2 (by rw [qg t3,qg n38,qg n36,ji]) rfl (fun bp' cp' f2=>?_)
 simp only [nH] at f2
 obtain ⟨ul,u8,u6,u3,ur⟩:=f2
 rw [qm t3,qm n38,qm n36,wT]
 simp+contextual only [qg,qm,zM,QT,n36,n68,n38,t6,t3,u6,u3,↓wu,↓yX,↓XP,qh,XW1,qb]
 exact ⟨_,Sbn.sub (List.Sublist.cons_cons _ (List.Sublist.cons_cons _ (List.Sublist.cons _ (List.Sublist.cons _ (List.Sublist.cons _ (List.Sublist.refl _)))))),h bl' cl' bp' cp' ul tr ur⟩
theorem oo:∀i,-1<=jq l out i∧jq l out i<i
 |0=>⟨by simp [jq],by simp [jq]⟩
 | i+1=>by
  have:=oo (l:=l) (out:=out) i
  unfold jq
  split
  ·omega
  ·omega
theorem Wz:∀n,(j6 l n).1.length<=n
 |0=>by simp [j6]
 | n+1=>by
  have:=Wz (l:=l) n
  simp only [j6]
  split
  ·split
   ·simp only [];omega
   ·simp only [Ni,Nj,Nk];omega
  ·omega
theorem Ya (h:(j6 l n).2=false):∀k,j6 l (n+k)=j6 l n
 |0=>rfl
 | k+1=>by
  have ih:=Ya h k
  show j6 l (n+k+1)=_
  simp only [j6,ih,h,Bool.false_eq_true,if_false]
theorem co (hb:l.length<=100) (hl:∀p∈l,0<=p.s∧p.s<=1000000∧p.needs.length<=1000000) (h:R (.own (jk (ordered l))) H):ACall Tryz.prog 60 [.slc (jk l)] H R:=by
 refine b60 fun hf=>?_
 have hbig:=qk
 simp+contextual only [↓db,↓db,↓XP,qp,qa]
 refine XW.loopK hm (fun F H'=>∃(n:Nat) (out:List Pt),n<=l.length∧j6 l n=(out,true)∧Fr 82 [(0,.slc (jk l)),(3,.own (jk out)),(4,.i n)] F∧H=H') (fun F H=>match F.getD 4 .any with| .int _ n'=>l.length - n'.toNat|_=>0) ⟨0,[],by omega,rfl,⟨rfl,rfl,rfl,rfl,trivial⟩,rfl⟩ ?_
 rintro _ _ ⟨n,out,hn,ho,hF,rfl⟩ K hN hE hR
 obtain ⟨z,rfl⟩:=hF.fl rfl
 try dsimp only [fl,zz,qa,qb] at*
 clear hF
 have hol:=Wz (l:=l) n
 rw [ho] at hol
 simp only at hol
 by_cases hlt:n<l.length
 ·have hsn:j6 l (n+1)=(if jq l out l.length<0 then (out,false) else (out++ [l.getD (jq l out l.length).toNat default],true)):=by
   simp only [j6,ho,if_true]
  simp+contextual only [jG,↓db,↓XP,qh]
  refine fun _=>⟨fun _=>?_,fun hge=>absurd (by omega) hge⟩
  refine XW.loopK hm (fun F H'=>∃(i:Nat),i<=l.length∧Fr 82 [(0,.slc (jk l)),(3,.own (jk out)),(4,.i n),(5,.i (jq l out i)),(6,.i i)] F∧H=H') (fun F H=>match F.getD 6 .any with| .int _ n'=>l.length - n'.toNat|_=>0) ⟨0,by omega,⟨rfl,rfl,rfl,rfl,rfl,rfl,trivial⟩,rfl⟩ ?_
  rintro _ _ ⟨i,hi,hF,rfl⟩ K2 hN2 hE2 hR2
  obtain ⟨z2,rfl⟩:∃z2:Nat->D,_=(let z:=z2; [.slc (jk l),z 1,z 2,.own (jk out),.i n,.i (jq l out i),.i i,z 7,z 8,z 9,z 10,z 11,z 12,z 13,z 14,z 15,z 16,z 17,z 18,z 19,z 20,z 21,z 22,z 23,z 24,z 25,z 26,z 27,z 28,z 29,z 30,z 31,z 32,z 33,z 34,z 35,z 36,z 37,z 38,z 39,z 40,z 41,z 42,z 43,z 44,z 45,z 46,z 47,z 48,z 49,z 50,z 51,z 52,z 53,z 54,z 55,z 56,z 57,z 58,z 59,z 60,z 61,z 62,z 63,z 64,z 65,z 66,z 67,z 68,z 69,z 70,z 71,z 72,z 73,z 74,z 75,z 76,z 77,z 78,z 79,z 80,z 81]):=hF.lit
  clear hF
  by_cases hli:i<l.length
  ·have nx:∀F' b c,Fr 82 [(0,.slc (jk l)),(3,.own (jk out)),(4,.i n),(5,.i (jq l out (i+1))),(6,.i ((i+1:Nat):Int))] F'->K2 .normal F' ((b,c)::H):=fun F' b c hF'=>hN2 _ _ ⟨i+1,hli,hF',(kK rfl).symm⟩ (by
    rw [Na,hF'.2.2.2.2.2.1]
    simp only [Nc,Nd,Ng]
    omega)
   clear hN2 hE2 hR2 hN hE hR h
   obtain ⟨r1,r2⟩:=oo (l:=l) (out:=out) i
   have hstep:jq l out (i+1)=if better l out i (jq l out i)=true then (i:Int) else jq l out i:=rfl
   rw [hstep] at nx
   have hbt:better l out i (jq l out i)=(ready out (l.getD i default)&& !known out (l.getD i default).o (l.getD i default).s&&(decide (jq l out i<0)||decide ((l.getD i default).o<(l.getD (jq l out i).toNat default).o)||(decide ((l.getD i default).o=(l.getD (jq l out i).toNat default).o)&&decide ((l.getD i default).s<(l.getD (jq l out i).toNat default).s)))):=rfl
   rw [hbt] at nx
   clear hbt hstep
   generalize jq l out i=bb at r1 r2 nx
   have q1:=u5 hli
   have q2:0<=bb->(jk l).getD bb.toNat []=(l.getD bb.toNat default).d:=fun h=>u5 (by omega)
   obtain ⟨e1,e2,e3⟩:=hl (l.getD i default) (by rw [jB hli];exact List.getElem_mem hli)
   generalize l.getD i default=e at q1 nx e1 e2 e3
   generalize l.getD bb.toNat default=lb at q2 nx
   have hd:e.d= [.i e.o,.i e.s,.i e.day,.slc (qv e.needs),.slc (qw e.ops),.str e.sl]:=rfl
   have hdl:lb.d= [.i lb.o,.i lb.s,.i lb.day,.slc (qv lb.needs),.slc (qw lb.ops),.str lb.sl]:=rfl
   simp+contextual only [jG,q1,hd,↓db,↓XP,qh,qb]
   refine fun _=>⟨fun _ b1 h1=>?_,fun hge=>absurd (by omega) hge⟩
   refine ⟨_,fun _ _=>mX (p:=e) e1 e2 e3 ⟨rfl,rfl⟩,?_⟩
   rcases hr:ready out e with _|_
   ·simp+contextual only [qj (show i<=big by omega),↓db,↓XP,qp,XW1]
    refine nx _ _ _ ?_
    simp only [hr,Bool.false_and,Bool.false_eq_true,if_false]
    exact ⟨rfl,rfl,rfl,rfl,rfl,rfl,trivial⟩
   simp+contextual only [↓XP,qh,XW1]
   refine fun _ _=>⟨_,fun _ _=>VB ⟨rfl,rfl⟩,?_⟩
   rcases hk:known out e.o e.s with _|_
   rotate_left
   ·simp+contextual only [qj (show i<=big by omega),↓db,↓XP,qp,XW1]
    refine nx _ _ _ ?_
    simp only [hr,hk,Bool.not_true,Bool.and_false,Bool.false_and,Bool.false_eq_true,if_false]
    exact ⟨rfl,rfl,rfl,rfl,rfl,rfl,trivial⟩
   simp only [hr,hk,Bool.not_false,Bool.and_true,Bool.true_and] at nx
   by_cases hb0:bb<0
   ·simp only [hb0,decide_true,Bool.true_or,if_true] at nx
    simp+contextual only [hb0,qj (show i<=big by omega),↓db,↓XP,qp,XW1]
    exact nx _ _ _ ⟨rfl,rfl,rfl,rfl,rfl,rfl,trivial⟩
   ·have q3:=q2 (by omega)
    simp only [hb0,decide_false,Bool.false_or] at nx
    simp+contextual only [jG,q3,hdl,hb0,qj (show i<=big by omega),↓db,↓XP,qh,XW1,qb,qe]
    refine fun _=>⟨by omega,by omega,fun _=>⟨fun c1=>?_,fun c1=>⟨by omega,by omega,fun c2 _=>⟨by omega,by omega,fun _=>⟨fun c3=>?_,fun c3=>?_⟩⟩,fun c2=>?_⟩⟩⟩
    ·rw [if_pos (by simp [c1])] at nx
     exact nx _ _ _ ⟨rfl,rfl,rfl,rfl,rfl,rfl,trivial⟩
    ·rw [if_pos (by simp [c2,c3])] at nx
     exact nx _ _ _ ⟨rfl,rfl,rfl,rfl,rfl,rfl,trivial⟩
    ·rw [if_neg (by simp [c1,c3])] at nx
     exact nx _ _ _ ⟨rfl,rfl,rfl,rfl,rfl,rfl,trivial⟩
    ·rw [if_neg (by simp [c1,c2])] at nx
     exact nx _ _ _ ⟨rfl,rfl,rfl,rfl,rfl,rfl,trivial⟩
  ·have hik:i=l.length:=by omega
   subst hik
   clear hN2
   simp+contextual only [jG,↓db,↓XP,qh]
   refine fun _=>hE2 _ _ _ ?_
   clear hE2 hR2
   obtain ⟨r1,r2⟩:=oo (l:=l) (out:=out) l.length
   rw [show n+1=n+1 from rfl] at hsn
   by_cases hb0:jq l out l.length<0
   ·rw [if_pos hb0] at hsn
    have hor:ordered l=out:=by
     unfold ordered
     have:=Ya (l:=l) (n:=n+1) (by rw [hsn]) (l.length - (n+1))
     rw [show n+1+(l.length - (n+1))=l.length by omega,hsn] at this
     rw [this]
    rw [hor] at h
    clear hN hE
    generalize jq l out l.length=bb at r1 r2 hb0 ⊢
    simp+contextual only [hb0,↓db,↓XP,qp,XW1,qf]
    refine hR _ _ ?_
    simp+contextual only [↓XP,qp]
    exact h
   ·rw [if_neg hb0] at hsn
    have nx:∀F',Fr 82 [(0,.slc (jk l)),(3,.own (jk (out++ [l.getD (jq l out l.length).toNat default]))),(4,.i ((n+1:Nat):Int))] F'->K .normal F' H:=fun F' hF'=>hN _ _ ⟨n+1,_,hlt,hsn,hF',(qz rfl).symm⟩ (by
     rw [Na,hF'.2.2.2.1]
     simp only [Nc,Nd,Ng]
     omega)
    clear hN hE hR h
    have q2:(jk l).getD (jq l out l.length).toNat []=(l.getD (jq l out l.length).toNat default).d:=u5 (by omega)
    generalize jq l out l.length=bb at r1 r2 hb0 q2 nx ⊢
    generalize l.getD bb.toNat default=e at q2 nx
    have hd:e.d= [.i e.o,.i e.s,.i e.day,.slc (qv e.needs),.slc (qw e.ops),.str e.sl]:=rfl
    simp+contextual only [jG,hb0,q2,hd,qj (show n<=big by omega),↓db,↓XP,qh,XW1,qb,qc,qe,qf]
    refine ⟨by omega,by omega,pw,by omega,?_⟩
    rw [<-aO,show jk [e]= [e.d] from rfl,hd] at nx
    exact nx _ ⟨rfl,rfl,rfl,rfl,trivial⟩
 ·have hik:n=l.length:=by omega
  subst hik
  clear hN
  simp+contextual only [jG,↓db,↓XP,qh]
  refine fun _=>hE _ _ _ ?_
  rw [show ordered l=out by unfold ordered;rw [ho]] at h
  simp+contextual only [↓XP,qp,XW1]
  exact h
theorem Sbn.perm (h:H'.Perm H):Sbn H' H:=fun hn=>⟨(h.map _).nodup_iff.2 hn,fun p hp=>h.subset hp⟩
theorem zj (ho:offices<=10):∀i,GInv (jc l offices i)∧(jc l offices i).l.length=i
 |0=>⟨GInv.nil,rfl⟩
 | i+1=>by
  obtain ⟨h1,h2⟩:=zj (l:=l) ho i
  exact ⟨h1.next ho _,by simp [jc,next,h2]⟩
def Rooms (b4:Nat) (x:Gs) (bl cl bp cp:Nat) (Hm H:AH):Prop:=
 (x.l= []∧x.past= []∧Hm= [])∨(x.l≠ []∧x.past≠ []∧bl≠bp∧bl≠b4∧bp≠b4∧Hm= [(bp,.room cp (jg x.past)),(bl,.room cl (jk x.l))])
theorem pts_nil:jk l= []↔l= []:=by simp [jk]
theorem past_nil:jg l= []↔l= []:=by simp [jg]
theorem iW (h:facts args->xcode Tryz.prog x25 (args++List.replicate (28 - args.length) (.tup [])) H (Um Tryz.prog [.tmp 2] R)):ACall Tryz.prog 25 args H R:=
 yV hm Tryz.func25 rfl (by kernel_rfl) (by kernel_rfl) (by kernel_rfl) (by kernel_rfl) (by kernel_rfl) (by kernel_rfl) h
theorem bK (h:R (.own (jk (patches l))) H):ACall Tryz.prog 25 [.slc (ints l)] H R:=by
 refine iW fun hf=>?_
 have hbig:=qk
 have a0:=qN (l:=l) (i:=0) (most:=8) (by omega)
 have a1:=qN (l:=l) (i:=1) (most:=2) (by omega)
 simp+contextual only [x25,↓sX,↓Kt,↓XP,qp,qa]
 refine jS (i:=1) (by omega) ?_
 obtain ⟨o,ho⟩:∃o:Nat,2+jR l 1 2=o:=⟨_,rfl⟩
 obtain ⟨n,hn⟩:∃n:Nat,2+jR l 0 8=n:=⟨_,rfl⟩
 have w1:IntKind.i64.wrap (2+qG l 1 2)=(o:Int):=by rw [qi (by omega) (by omega)];unfold jR at ho;omega
 have w0:IntKind.i64.wrap (2+qG l 0 8)=(n:Int):=by rw [qi (by omega) (by omega)];unfold jR at hn;omega
 have ho':o<=10∧1<=o:=by unfold jR at ho;omega
 have hn':n<=9:=by unfold jR at hn;omega
 have hpt:patches l=ordered (jc l o n).l:=by unfold patches;rw [ho,hn]
 rw [hpt] at h
 simp+contextual only [w1,↓sX,↓Kt,↓XP,qh,qb]
 intro _ b4 h4
 refine XW.loopKR hm (fun F H'=>∃(i:Nat) (x:Gs) (bl cl bp cp:Nat) (Hm:AH),i<=n∧x=jc l o i∧Rooms b4 x bl cl bp cp Hm H∧Fr 28 [(0,.slc (ints l)),(3,.i o),(4,.ptr b4 0),(5,.i (i:Int))] F∧((b4,AO.cells [.osl bl cl (jk x.l),.osl bp cp (jg x.past)])::(Hm++H))=H') (fun F H=>match F.getD 5 .any with| .int _ n'=>n - n'.toNat|_=>0) ⟨0,⟨[],[]⟩,0,0,0,0,[],by omega,rfl,.inl ⟨rfl,rfl,rfl⟩,⟨rfl,rfl,rfl,rfl,rfl,trivial⟩,rfl⟩ ?_
 rintro _ _ ⟨i,x,bl,cl,bp,cp,Hm,hi,hx,hr,hF,rfl⟩ K hN hE hR
 obtain ⟨z,rfl⟩:=hF.fl rfl
 try dsimp only [fl,zz,qa,qb] at*
 clear hF hR
 obtain ⟨gi,gl⟩:=zj (l:=l) (offices:=o) ho'.1 i
 rw [<-hx] at gi gl
 by_cases hlt:i<n
 ·have w2:IntKind.i64.wrap (32*(i:Int))=32*(i:Int):=qi (by omega) (by omega)
  have w3:IntKind.i64.wrap (2+32*(i:Int))=((2+32*i:Nat):Int):=by rw [qi (by omega) (by omega)];omega
  simp+contextual only [↓sX,↓Kt,↓XP,qp]
  refine jS (i:=0) (by omega) ?_
  simp+contextual only [w0,w2,w3,↓sX,↓Kt,↓XP,qh,qb]
  refine fun _=>⟨fun _=>⟨_,fun _ _=>kx ⟨rfl,rfl⟩,?_⟩,fun hge=>absurd (by omega) hge⟩
  simp+contextual only [↓Kt,↓XP,qp]
  have hr1:jk x.l≠ []->qn ((b4,AO.cells [.osl bl cl (jk x.l),.osl bp cp (jg x.past)])::(Hm++H)) bl=some (.room cl (jk x.l)):=fun hne=>by
   rcases hr with ⟨e,_⟩|⟨_,_,e1,e2,e3,rfl⟩
   ·exact (hne (pts_nil.2 e)).elim
   ·show qn ((b4,_)::(bp,_)::(bl,_)::H) bl=_
    rw [qg e2,qg e1,ji]
  have hr2:jg x.past≠ []->qn ((b4,AO.cells [.osl bl cl (jk x.l),.osl bp cp (jg x.past)])::(Hm++H)) bp=some (.room cp (jg x.past)):=fun hne=>by
   rcases hr with ⟨_,e,_⟩|⟨_,_,e1,e2,e3,rfl⟩
   ·exact (hne (past_nil.2 e)).elim
   ·show qn ((b4,_)::(bp,_)::(bl,_)::H) bp=_
    rw [qg e3,ji]
  have hdr:jF (jF ((b4,AO.cells [.osl bl cl (jk x.l),.osl bp cp (jg x.past)])::(Hm++H)) bl (jk x.l)) bp (jg x.past)=(b4,AO.cells [.osl bl cl (jk x.l),.osl bp cp (jg x.past)])::H:=by
   rcases hr with ⟨e,e',rfl⟩|⟨e0,e0',e1,e2,e3,rfl⟩
   ·rw [pts_nil.2 e,past_nil.2 e',J3,J3];rfl
   ·show jF (jF ((b4,_)::(bp,_)::(bl,_)::H) bl (jk x.l)) bp (jg x.past)=_
    unfold jF
    rw [if_neg (fun e=>e0 (pts_nil.1 e)),if_neg (fun e=>e0' (past_nil.1 e)),uk e2,uk e1,vY,uk e3,vY]
  refine fun _=>tQ gi (by omega) ho'.2 ho'.1 hr1 hr2 (fun bl' cl' bp' cp' t1 t2 t3=>?_)
  rw [hdr] at t2 t3 ⊢
  simp only [nH] at t2 t3
  obtain ⟨u1,t2⟩:=t2
  obtain ⟨u2,t3⟩:=t3
  have hx2:next x o (l.drop (2+32*i))=jc l o (i+1):=by rw [hx];rfl
  rw [hx2]
  obtain ⟨gi2,gl2⟩:=zj (l:=l) (offices:=o) ho'.1 (i+1)
  have hne1:(jc l o (i+1)).l≠ []:=fun e=>by rw [e] at gl2;simp at gl2
  have hne2:(jc l o (i+1)).past≠ []:=fun e=>by have:=gi2.np;rw [e,gl2] at this;simp at this
  simp+contextual only [qg,qm,u1,u2,qj (show i<=big by omega),↓sX,↓Kt,↓XP,qh,XW1,qb]
  refine hN _ _ ((b4,AO.cells [.osl bl' cl' (jk (jc l o (i+1)).l),.osl bp' cp' (jg (jc l o (i+1)).past)])::([(bp',AO.room cp' (jg (jc l o (i+1)).past)),(bl',AO.room cl' (jk (jc l o (i+1)).l))]++H)) ?_ ⟨i+1,_,bl',cl',bp',cp',_,hlt,rfl,.inr ⟨hne1,hne2,t1,Ne.symm u1,Ne.symm u2,rfl⟩,⟨rfl,rfl,rfl,rfl,rfl,trivial⟩,rfl⟩ ?_
  ·exact Sbn.perm ((List.Perm.swap _ _ _).trans ((List.Perm.swap _ _ _).cons _))
  ·simp only [Nc,Nd]
   omega
 ·have hik:i=n:=by omega
  subst hik
  clear hN
  simp+contextual only [↓sX,↓Kt,↓XP,qp]
  refine jS (i:=0) (by omega) ?_
  simp+contextual only [w0,↓Kt,↓XP,qp]
  refine fun _=>hE _ _ _ ?_
  simp+contextual only [↓sX,↓Kt,↓XP,qp,XW1]
  rw [Jx]
  refine Gz.weak ji ?_
  simp+contextual only [D.wk,↓Kt,↓XP,qh]
  rw [<-hx] at h
  refine fun _=>co (by omega) (fun p hp=>?_) ?_
  ·have h1:=gi.sq p hp
   have h2:=gi.ne p hp
   omega
  ·simp+contextual only [zM,QT,↓Kt,↓XP,qp]
   exact fun _=>⟨H,Sbn.sub ((List.sublist_append_right _ _).cons _),h⟩
theorem pk4 {l:List Int} {B:Int} {r:Nat} (h:(∀x∈l,x<=B)∧0<=B):l.getD r 0<=B:=by
 rcases Nat.lt_or_ge r l.length with c|c
 ·have e:l.getD r 0=l[r]:=by simp [c]
  rw [e];exact h.1 _ (List.getElem_mem c)
 ·have e:l.getD r 0=0:=by simp [List.getD,List.getElem?_eq_none c]
  rw [e];exact h.2
theorem rV {n kk:Nat} {p:Pt} {near bb:Int} (hn:n<=900) (hp:Sz n p) (hk:kk<p.ops.length):Sz (n+14) ({p with o:=near}):=by
 have ho:=qX hk
 have o1:=hp.ids _ ho
 have o2:=hp.name _ ho
 have o3:=hp.text _ ho
 exact hp.same rfl rfl rfl
theorem rH {n kk:Nat} {p:Pt} {near bb:Int} (hn:n<=900) (hp:Sz n p) (hk:kk<p.ops.length):Sz (n+14) ({p with s:=near}):=by
 have ho:=qX hk
 have o1:=hp.ids _ ho
 have o2:=hp.name _ ho
 have o3:=hp.text _ ho
 exact hp.same rfl rfl rfl
theorem xH {n kk:Nat} {p:Pt} {near bb:Int} (hn:n<=900) (hp:Sz n p) (hk:kk<p.ops.length):Sz (n+14) ({p with day:=([0,1,1048576,1048577,bb]:List Int).getD (around bb 5).toNat 0}):=by
 have ho:=qX hk
 have o1:=hp.ids _ ho
 have o2:=hp.name _ ho
 have o3:=hp.text _ ho
 exact hp.same rfl rfl rfl
theorem rQ {n kk:Nat} {p:Pt} {near bb:Int} (hn:n<=900) (hp:Sz n p) (hk:kk<p.ops.length):Sz (n+14) ({p with needs:=p.needs++ [⟨IntKind.i64.wrap (around bb 10 - 1),IntKind.i64.wrap (around (IntKind.i64.wrap (bb.tdiv 10)) 19 - 1)⟩]}):=by
 have ho:=qX hk
 have o1:=hp.ids _ ho
 have o2:=hp.name _ ho
 have o3:=hp.text _ ho
 exact ⟨by have:=hp.ops;simp only;omega,by have:=hp.needs;simp only [Ni,Nm];omega,fun o ho=>by have:=hp.ids o ho;omega,hp.name,hp.text,hp.sl⟩
theorem Aj {n kk:Nat} {p:Pt} {near bb:Int} (hn:n<=900) (hp:Sz n p) (hk:kk<p.ops.length):Sz (n+14) ({p with ops:= []}):=by
 have ho:=qX hk
 have o1:=hp.ids _ ho
 have o2:=hp.name _ ho
 have o3:=hp.text _ ho
 exact ⟨Nat.zero_le _,by have:=hp.needs;simp only;omega,(by simp),(by simp),(by simp),hp.sl⟩
theorem Ay {n kk:Nat} {p:Pt} {near bb:Int} (hn:n<=900) (hp:Sz n p) (hk:kk<p.ops.length):Sz (n+14) ({p with ops:=p.ops++List.replicate 14 (p.ops.getD kk default)}):=by
 have ho:=qX hk
 have o1:=hp.ids _ ho
 have o2:=hp.name _ ho
 have o3:=hp.text _ ho
 exact hp.more (m:=14) (by simp) (fun o h=>by rw [(List.mem_replicate.1 h).2];exact o1) (fun o h=>by rw [(List.mem_replicate.1 h).2];exact o2) (fun o h=>by rw [(List.mem_replicate.1 h).2];exact o3)
theorem xt {n kk:Nat} {p:Pt} {near bb:Int} (hn:n<=900) (hp:Sz n p) (hk:kk<p.ops.length):Sz (n+14) ({p with ops:=p.ops.set kk {(p.ops.getD kk default) with k:=near}}):=by
 have ho:=qX hk
 have o1:=hp.ids _ ho
 have o2:=hp.name _ ho
 have o3:=hp.text _ ho
 exact (hp.setOp (by simp only;omega) (by simp only;omega) (by simp only;omega))
theorem xy {n kk:Nat} {p:Pt} {near bb:Int} (hn:n<=900) (hp:Sz n p) (hk:kk<p.ops.length):Sz (n+14) ({p with ops:=p.ops.set kk {(p.ops.getD kk default) with on:=⟨near,around bb 19,IntKind.i64.wrap (around (IntKind.i64.wrap (bb.tdiv 5)) 18 - 1)⟩}}):=by
 have ho:=qX hk
 have o1:=hp.ids _ ho
 have o2:=hp.name _ ho
 have o3:=hp.text _ ho
 exact (hp.setOp (by simp only;omega) (by simp only;omega) (by simp only;omega))
theorem sB {n kk:Nat} {p:Pt} {near bb:Int} (hn:n<=900) (hp:Sz n p) (hk:kk<p.ops.length):Sz (n+14) ({p with ops:=p.ops.set kk {(p.ops.getD kk default) with to:=⟨around bb 9,near,IntKind.i64.wrap (around (IntKind.i64.wrap (bb.tdiv 5)) 18 - 1)⟩}}):=by
 have ho:=qX hk
 have o1:=hp.ids _ ho
 have o2:=hp.name _ ho
 have o3:=hp.text _ ho
 exact (hp.setOp (by simp only;omega) (by simp only;omega) (by simp only;omega))
theorem sC {n kk:Nat} {p:Pt} {near bb:Int} (hn:n<=900) (hp:Sz n p) (hk:kk<p.ops.length):Sz (n+14) ({p with ops:=p.ops.set kk {(p.ops.getD kk default) with to:=(p.ops.getD kk default).on}}):=by
 have ho:=qX hk
 have o1:=hp.ids _ ho
 have o2:=hp.name _ ho
 have o3:=hp.text _ ho
 exact (hp.setOp (by simp only;omega) (by simp only;omega) (by simp only;omega))
theorem mc {n kk:Nat} {p:Pt} {near bb:Int} (hn:n<=900) (hp:Sz n p) (hk:kk<p.ops.length):Sz (n+14) ({p with ops:=p.ops.set kk {(p.ops.getD kk default) with n:=([-2,-1,0,1,2,1023,1024,1048576,1048577,bb]:List Int).getD (around bb 10).toNat 0}}):=by
 have ho:=qX hk
 have o1:=hp.ids _ ho
 have o2:=hp.name _ ho
 have o3:=hp.text _ ho
 exact (hp.setOp (by simp only;omega) (by simp only;omega) (by simp only;omega))
theorem lM {n kk:Nat} {p:Pt} {near bb:Int} (hn:n<=900) (hp:Sz n p) (hk:kk<p.ops.length):Sz (n+14) ({p with ops:=p.ops.set kk {(p.ops.getD kk default) with name:=List.take (around bb 18).toNat [115,105,120,116,101,101,110,32,108,101,116,116,101,114,115,33,33]}}):=by
 have ho:=qX hk
 have o1:=hp.ids _ ho
 have o2:=hp.name _ ho
 have o3:=hp.text _ ho
 exact (hp.setOp (by simp only;omega) (by simp only [Ny,Nj,Nk];omega) (by simp only;omega))
theorem lu {n kk:Nat} {p:Pt} {near bb:Int} (hn:n<=900) (hp:Sz n p) (hk:kk<p.ops.length):Sz (n+14) ({p with ops:=p.ops.set kk {(p.ops.getD kk default) with text:=List.map unbyte (List.replicate (([0,1,1024,1025]:List Int).getD (around bb 4).toNat 0).toNat [D.int .u8 0])}}):=by
 have ho:=qX hk
 have o1:=hp.ids _ ho
 have o2:=hp.name _ ho
 have o3:=hp.text _ ho
 exact hp.setOp (by simp only;omega) (by simp only;omega) (by have:=pk4 (l:= [0,1,1024,1025]) (B:=1201) (r:=(around bb 4).toNat) (by simp);simp only [Nl,N6];omega)
theorem ph {n kk:Nat} {p:Pt} {near bb:Int} (hn:n<=900) (hp:Sz n p) (hk:kk<p.ops.length):Sz (n+14) ({p with ops:=p.ops.set kk {(p.ops.getD kk default) with a:=around bb 3,b:=around bb 5}}):=by
 have ho:=qX hk
 have o1:=hp.ids _ ho
 have o2:=hp.name _ ho
 have o3:=hp.text _ ho
 exact (hp.setOp (by simp only;omega) (by simp only;omega) (by simp only;omega))
theorem lJ {n kk:Nat} {p:Pt} {near bb:Int} (hn:n<=900) (hp:Sz n p) (hk:kk<p.ops.length):Sz (n+14) ({p with ops:=p.ops.set kk {(p.ops.getD kk default) with ids:=⟨1,1,near⟩::(p.ops.getD kk default).ids}}):=by
 have ho:=qX hk
 have o1:=hp.ids _ ho
 have o2:=hp.name _ ho
 have o3:=hp.text _ ho
 exact (hp.setOp (by simp only [Nj];omega) (by simp only;omega) (by simp only;omega))
theorem nt {n kk:Nat} {p:Pt} {near bb:Int} (hn:n<=900) (hp:Sz n p) (hk:kk<p.ops.length):Sz (n+14) ({p with ops:=p.ops.set kk ⟨16,⟨1,1,0⟩,Ja,[⟨1,1,2⟩,⟨1,1,around bb 4⟩],IntKind.i64.wrap (around (IntKind.i64.wrap (bb.tdiv 4)) 5 - 2),[],[],0,0⟩}):=by
 have ho:=qX hk
 have o1:=hp.ids _ ho
 have o2:=hp.name _ ho
 have o3:=hp.text _ ho
 exact (hp.setOp (by simp only [Nj,Nk];omega) (by simp) (by simp))
theorem mK {n kk:Nat} {p:Pt} {near bb:Int} (hn:n<=900) (hp:Sz n p) (hk:kk<p.ops.length):Sz (n+14) ({p with ops:=p.ops++List.replicate 7 (ld bb)}):=by
 have ho:=qX hk
 have o1:=hp.ids _ ho
 have o2:=hp.name _ ho
 have o3:=hp.text _ ho
 exact hp.more (m:=14) (by simp) (fun o h=>by rw [(List.mem_replicate.1 h).2];simp [ld,yB]) (fun o h=>by rw [(List.mem_replicate.1 h).2];simp [ld,yB]) (fun o h=>by rw [(List.mem_replicate.1 h).2];obtain ⟨r1,r2⟩:=j4 (n:=bb) (most:=125) (by omega);simp only [ld,Nl,N6];omega)
theorem mZ {n kk:Nat} {p:Pt} {near bb:Int} (hn:n<=900) (hp:Sz n p) (hk:kk<p.ops.length):Sz (n+14) ({p with sl:=(List.replicate (([0,1,1200,1201]:List Int).getD (around bb 4).toNat 0).toNat [D.int .u8 0]).map unbyte}):=by
 have ho:=qX hk
 have o1:=hp.ids _ ho
 have o2:=hp.name _ ho
 have o3:=hp.text _ ho
 exact ⟨by have:=hp.ops;simp only;omega,by have:=hp.needs;simp only;omega,fun o ho=>by have:=hp.ids o ho;omega,hp.name,hp.text,by have:=pk4 (l:= [0,1,1200,1201]) (B:=1201) (r:=(around bb 4).toNat) (by simp);simp only [Nl,N6];omega⟩
theorem nU {n kk:Nat} {p:Pt} {near bb:Int} (hn:n<=900) (hp:Sz n p) (hk:kk<p.ops.length):Sz (n+14) ({p with needs:=YH (7+around bb 4).toNat}):=by
 have ho:=qX hk
 have o1:=hp.ids _ ho
 have o2:=hp.name _ ho
 have o3:=hp.text _ ho
 exact ⟨by have:=hp.ops;simp only;omega,by obtain ⟨r1,r2⟩:=j4 (n:=bb) (most:=4) (by omega);simp only [UI];omega,fun o ho=>by have:=hp.ids o ho;omega,hp.name,hp.text,hp.sl⟩
theorem n5 {n kk:Nat} {p:Pt} {near bb:Int} (hn:n<=900) (hp:Sz n p) (hk:kk<p.ops.length):Sz (n+14) ({p with ops:=p.ops.set kk {(p.ops.getD kk default) with k:=IntKind.i64.wrap (1+around bb 18)}}):=by
 have ho:=qX hk
 have o1:=hp.ids _ ho
 have o2:=hp.name _ ho
 have o3:=hp.text _ ho
 exact (hp.setOp (by simp only;omega) (by simp only;omega) (by simp only;omega))
theorem fO {n:Nat} {p:Pt} (a how bb:Int) (hn:n<=900) (hp:Sz n p) (hne:0<p.ops.length):∃q,Sz (n+14) q∧∀{H:AH} {R:D->AH->Prop},R (.agg q.d) H->ACall Tryz.prog 6 [.agg p.d,.i a,.i how,.i bb] H R:=by
 obtain ⟨r1,r2⟩:=j4 (n:=how) (most:=20) (by omega)
 obtain ⟨k0,k1⟩:=j4 (n:=a) (most:=(p.ops.length:Int)) (by omega)
 obtain ⟨kk,hkk⟩:=Nw k0
 obtain ⟨near,hnr⟩:∃x,around bb 22 - 2=x:=⟨_,rfl⟩
 have hk:kk<p.ops.length:=by omega
 obtain ⟨m,hm⟩:∃m,around how 20=m:=⟨_,rfl⟩
 rw [hm] at r1 r2
 rcases (show m=0∨m=1∨m=2∨m=3∨m=4∨m=5∨m=6∨m=7∨m=8∨m=9∨m=10∨m=11∨m=12∨m=13∨m=14∨m=15∨m=16∨m=17∨m=18∨m=19 by omega) with rfl|rfl|rfl|rfl|rfl|rfl|rfl|rfl|rfl|rfl|rfl|rfl|rfl|rfl|rfl|rfl|rfl|rfl|rfl|rfl
 ·exact ⟨_,rV (near:=near) (bb:=bb) hn hp hk,fun h=>lP hn hp hne hkk hnr fun b4 b8 F n48 hF=>BU hm hn hp n48 hF h⟩
 ·exact ⟨_,rH (near:=near) (bb:=bb) hn hp hk,fun h=>lP hn hp hne hkk hnr fun b4 b8 F n48 hF=>Ea hm hn hp n48 hF h⟩
 ·exact ⟨_,xH (near:=near) (bb:=bb) hn hp hk,fun h=>lP hn hp hne hkk hnr fun b4 b8 F n48 hF=>Dk hm hn hp n48 hF h⟩
 ·exact ⟨_,rQ (near:=near) (bb:=bb) hn hp hk,fun h=>lP hn hp hne hkk hnr fun b4 b8 F n48 hF=>CB hm hn hp n48 hF h⟩
 ·exact ⟨_,Aj (near:=near) (bb:=bb) hn hp hk,fun h=>lP hn hp hne hkk hnr fun b4 b8 F n48 hF=>Be hm hn hp n48 hF h⟩
 ·exact ⟨_,Ay (near:=near) (bb:=bb) hn hp hk,fun h=>lP hn hp hne hkk hnr fun b4 b8 F n48 hF=>Da hm hn hp n48 hk hF h⟩
 ·exact ⟨_,xt (near:=near) (bb:=bb) hn hp hk,fun h=>eW hn hp hne hkk hnr fun b b4 b8 m cp F n48 n4b n8b hF=>BT hm hn hp n48 n4b n8b hk hF h⟩
 ·exact ⟨_,xy (near:=near) (bb:=bb) hn hp hk,fun h=>eW hn hp hne hkk hnr fun b b4 b8 m cp F n48 n4b n8b hF=>Dh hm hn hp n48 n4b n8b hk hF h⟩
 ·exact ⟨_,sB (near:=near) (bb:=bb) hn hp hk,fun h=>eW hn hp hne hkk hnr fun b b4 b8 m cp F n48 n4b n8b hF=>E1 hm hn hp n48 n4b n8b hk hF h⟩
 ·exact ⟨_,sC (near:=near) (bb:=bb) hn hp hk,fun h=>eW hn hp hne hkk hnr fun b b4 b8 m cp F n48 n4b n8b hF=>Eq hm hn hp n48 n4b n8b hk hF h⟩
 ·exact ⟨_,mc (near:=near) (bb:=bb) hn hp hk,fun h=>eW hn hp hne hkk hnr fun b b4 b8 m cp F n48 n4b n8b hF=>rX hm hn hp n48 n4b n8b hk hF h⟩
 ·exact ⟨_,lM (near:=near) (bb:=bb) hn hp hk,fun h=>eW hn hp hne hkk hnr fun b b4 b8 m cp F n48 n4b n8b hF=>xq hm hn hp n48 n4b n8b hk hF h⟩
 ·exact ⟨_,lu (near:=near) (bb:=bb) hn hp hk,fun h=>eW hn hp hne hkk hnr fun b b4 b8 m cp F n48 n4b n8b hF=>AF hm hn hp n48 n4b n8b hk hF h⟩
 ·exact ⟨_,ph (near:=near) (bb:=bb) hn hp hk,fun h=>eW hn hp hne hkk hnr fun b b4 b8 m cp F n48 n4b n8b hF=>sR hm hn hp n48 n4b n8b hk hF h⟩
 ·exact ⟨_,lJ (near:=near) (bb:=bb) hn hp hk,fun h=>eW hn hp hne hkk hnr fun b b4 b8 m cp F n48 n4b n8b hF=>tR hm hn hp n48 n4b n8b hk hF h⟩
 ·exact ⟨_,nt (near:=near) (bb:=bb) hn hp hk,fun h=>eW hn hp hne hkk hnr fun b b4 b8 m cp F n48 n4b n8b hF=>xY hm hn hp n48 n4b n8b hk hF h⟩
 ·exact ⟨_,mK (near:=near) (bb:=bb) hn hp hk,fun h=>lP hn hp hne hkk hnr fun b4 b8 F n48 hF=>xG hm hn hp n48 hk hF h⟩
 ·exact ⟨_,mZ (near:=near) (bb:=bb) hn hp hk,fun h=>lP hn hp hne hkk hnr fun b4 b8 F n48 hF=>xV hm hn hp n48 hF h⟩
 ·exact ⟨_,nU (near:=near) (bb:=bb) hn hp hk,fun h=>lP hn hp hne hkk hnr fun b4 b8 F n48 hF=>rB hm hn hp n48 hk hF h⟩
 ·exact ⟨_,n5 (near:=near) (bb:=bb) hn hp hk,fun h=>eW hn hp hne hkk hnr fun b b4 b8 m cp F n48 n4b n8b hF=>rt hm hn hp n48 n4b n8b hk hF h⟩
theorem GW {n:Nat} {p:Pt} {a how bb:Int} {H:AH} (hn:n<=900) (hp:Sz n p) (hne:0<p.ops.length) (h:∀q,Sz (n+14) q->R (.agg q.d) H):ACall Tryz.prog 6 [.agg p.d,.i a,.i how,.i bb] H R:=by
 obtain ⟨q,hq,hc⟩:=fO a how bb hn hp hne
 exact hc (h q hq)
theorem Sz.fit (h:Sz n p) (hn:n<=1000):Fit p:=
 ⟨by have:=h.ops;omega,by have:=h.needs;omega,fun o ho=>by have:=h.ids o ho;omega,fun o ho=>by have:=h.name o ho;omega,fun o ho=>by have:=h.text o ho;omega,by have:=h.sl;omega⟩
structure SOp (o:OpP):Prop where
 n:o.name.length<=60
 t:o.text.length<=60
 i:o.ids.length<=2
def AllS (p:Pt):Prop:=∀o∈p.ops,SOp o
theorem AllS.with' (h:AllS p) (ho:SOp o):AllS (je p o):=fun x hx=>by
 rcases List.mem_append.1 hx with hx|hx
 ·exact h x hx
 ·rw [List.mem_singleton.1 hx];exact ho
theorem nm {l:List (List UInt8)} {i:Nat} (h:∀x∈l,x.length<=5):(l.getD i []).length<=60:=Np (JY h) (by omega)
theorem zN (h:AllS p):AllS (meaning p on m):=by
 have z:=Nat.zero_le
 unfold meaning
 dsimp only
 split
 ·exact (h.with' ⟨z _,z _,z _⟩).with' ⟨z _,vB,z _⟩
 ·exact ((h.with' ⟨z _,z _,z _⟩).with' ⟨z _,vB,z _⟩).with' ⟨z _,z _,z _⟩
theorem eO {x:Gs} {seen:List Bool} {p:Pt} {sense:Id3} {m:List Int} (h:AllS p):AllS (quoted x seen p sense m):=by
 have z:=Nat.zero_le
 unfold quoted
 dsimp only
 split
 ·exact (h.with' ⟨nm (by decide),by simp,z _⟩).with' ⟨z _,vB,z _⟩
 ·exact h.with' ⟨z _,vB,z _⟩
theorem cY (h:AllS p):AllS (divided p entry sense m):=by
 have z:=Nat.zero_le
 unfold divided
 dsimp only
 exact (zN (zN h)).with' ⟨z _,z _,Nat.le_refl _⟩
theorem lK {sense other:Id3} {n:Int} {m:List Int}:SOp (small sense other n m):=by
 have z:=Nat.zero_le
 unfold small
 repeat' split
 all_goals first|exact ⟨z _,z _,z _⟩|exact ⟨z _,vB,z _⟩|exact ⟨nm (by decide),vB,z _⟩|exact ⟨nm (by decide),z _,z _⟩
theorem Cj {c:Prop} [Decidable c] (h1:AllS a) (h2:AllS b):AllS (if c then a else b):=by
 by_cases h:c
 ·rw [if_pos h];exact h1
 ·rw [if_neg h];exact h2
theorem rW {x:Gs} {seen:List Bool} {p:Pt} {m:List Int} (h:AllS p):AllS (step x seen p m):=by
 have z:=Nat.zero_le
 have r:∀{a b n m},AllS (yH p a b n m):=h.with' lK
 have h8:∀i:Nat,(heads8.getD i []).length<=60:=fun i=>nm (by decide)
 unfold step
 dsimp only
 repeat' with_reducible apply Cj
 all_goals first|exact zN h|exact eO h|exact cY h|exact r|exact h.with' ⟨z _,z _,z _⟩|exact zN (h.with' ⟨nm (by decide),h8 _,z _⟩)|exact h.with' ⟨z _,h8 _,z _⟩|exact h.with' ⟨nm (by decide),z _,z _⟩|exact h.with' ⟨z _,z _,show 1<=2 by omega⟩
theorem aT {x:Gs} {seen:List Bool} {p:Pt} {m:List Int} (hp:p.ops= []):∀i:Nat,AllS (jr x seen p m i)
 | 0=>fun o ho=>by
  unfold jr at ho
  rw [hp] at ho
  simp at ho
 |i+1=>rW (aT hp i)
structure QS (q:Pt):Prop where
 S:AllS q
 ne:q.ops≠ []
 nl:q.needs.length<=3
 sl:q.sl= []
theorem QS.next {x:Gs} (hx:GInv x) (hv:∀p∈x.l,QS p) {offices:Nat} (ho':offices<=3) (m:List Int):∀p∈(next x offices m).l,QS p:=by
 unfold Go.Proofs.YtgopigkdcmhbbaaGreatDoor.next
 dsimp only
 generalize qG m 0 (offices:Int)=o
 obtain ⟨h1,_⟩:=wI hx (o:=o) (m:=m) offices
 obtain ⟨g1,g2,g3,g4⟩:=kr (x:=x) (o:=o) (m:=m) offices
 generalize qE x o m offices=s at h1 g1 g2 g3 g4 ⊢
 have hb:VOk x s.seen {s.p with day:=s.p.day+qG m 4 4}:=VOk.base hx h1 g2
 have hT:=aT (x:=x) (seen:=s.seen) (m:=m) (p:={s.p with day:=s.p.day+qG m 4 4}) g2 (1+jR m 5 2)
 obtain ⟨more,e1,e2⟩:=uQ (x:=x) (seen:=s.seen) (p:={s.p with day:=s.p.day+qG m 4 4}) (m:=m) g2 hb (1+jR m 5 2)
 have hne:(jr x s.seen {s.p with day:=s.p.day+qG m 4 4} m (1+jR m 5 2)).ops≠ []:=by
  rw [Nat.add_comm]
  exact nh
 have e3:=e1.eq
 generalize jr x s.seen {s.p with day:=s.p.day+qG m 4 4} m (1+jR m 5 2)=p at hT hne e3 ⊢
 intro q hq
 rcases List.mem_append.1 hq with hq|hq
 ·exact hv q hq
 ·rw [List.mem_singleton.1 hq]
  exact ⟨hT,hne,by rw [e3];show s.p.needs.length<=3;omega,by rw [e3];exact g3⟩
theorem E2 (l:List Int) (ho':offices<=3):∀i:Nat,GInv (jc l offices i)∧(∀p∈(jc l offices i).l,QS p)∧(jc l offices i).l.length=i
 |0=>⟨GInv.nil,fun p hp=>absurd hp (by simp [jc]),rfl⟩
 | i+1=>by
  obtain ⟨h1,h2,h3⟩:=E2 l ho' i
  refine ⟨h1.next (by omega) _,QS.next h1 h2 ho' _,?_⟩
  unfold jc
  rw [UE,h3]
theorem QS.sz (h:QS p) (hl:p.ops.length<=14):Sz 20 p:=
 ⟨by omega,by have:=h.nl;omega,fun o ho=>by have:=(h.S o ho).i;omega,fun o ho=>by have:=(h.S o ho).n;omega,fun o ho=>by have:=(h.S o ho).t;omega,by rw [h.sl];simp⟩
theorem bV (l:List Int):(∀p∈patches l,Sz 20 p∧0<p.ops.length)∧0<(patches l).length∧(patches l).length<=9:=by
 have a1:jR l 1 2<2:=ZS (l:=l) (i:=1) (n:=2) (by omega)
 have a0:jR l 0 8<8:=ZS (l:=l) (i:=0) (n:=8) (by omega)
 obtain ⟨h1,h2,h3⟩:=E2 l (offices:=2+jR l 1 2) (by omega) (2+jR l 0 8)
 obtain ⟨f1,f2⟩:=Zd l (offices:=2+jR l 1 2) (2+jR l 0 8) (by omega)
 unfold patches
 generalize jc l (2+jR l 1 2) (2+jR l 0 8)=x at h1 h2 h3 f1 f2 ⊢
 refine ⟨fun p hp=>?_,List.length_pos_iff.2 (GG (by omega) f1 f2),?_⟩
 ·have hm:=J8 _ p hp
  exact ⟨(h2 p hm).sz (h1.op p hm),List.length_pos_iff.2 (h2 p hm).ne⟩
 ·have:∀n:Nat,(j6 x.l n).1.length<=n:=by
   intro n
   induction n with
   |zero=>simp [j6]
   | succ n ih=>
    unfold j6
    dsimp only
    split
    ·split
     ·dsimp only;omega
     ·rw [Ni,Nm];omega
    ·omega
  have:=this x.l.length
  unfold ordered
  omega
end Go.Proofs.YtgopigkdcmhbbaaGreatDoor
end
noncomputable section
namespace Go.Proofs.YtgopigkdcmhbbaaGreatDoor
open Go.Xs
open Go Go.Aw
def y3:=yy Tryz.f3
def CV:XC:=(.seq (.regT [] [([m 15 101,m 16 102,j 31 101 102 103,l 9 103 104,m 17 105,l 26 13 106,k3 13 104 105 106 9 3 26 107,m 107 100,E 100 0 108,E 100 1 109],a (.alloc 26) 24,false),([],w 26 24 108,false)] [] [n 109 25]) (y3 48))
def Eg:XC:=(.seq (.regT [] [([m 15 90,m 16 91,j 31 90 91 92,l 9 92 93,m 17 94,a (.build 40 #[(0,(t 93)),(1,(t 94))]) 95,l 26 13 96,k2 12 95 96 40 26 97,m 97 89,E 89 0 98,E 89 1 99],a (.alloc 26) 22,false),([],w 26 22 98,false)] [] [n 99 23]) CV)
def Dd:XC:=(.seq (y3 42) (C 88 Eg .skip))
def BO:XC:=(.seq (.seq (y3 35) (C 82 (R [a (.assign (.const (.bool false))) 12] .ret) .skip)) Dd)
def E0:XC:=(.seq (y3 32) BO)
def DE:XC:=(.seq (y3 30) E0)
def Dl:XC:=(.seq (.seq (y3 25) (C 55 (.reg [A 2 17]) .skip)) DE)
def C7:XC:=(.seq (.block 1 (.seq (y3 22) Dl)) (y3 56))
def sI:XC:=(.seq (R [m 16 42,q .lss 3 42 5 43] (C 43 .skip (.exit 0))) C7)
def sW:XC:=(.seq (R [A 0 16] (.block 0 (.loop sI))) (R [b (k 15 #[] #[]) 119,n 119 12] .ret))
def xN:XC:=(.seq (y3 7) sW)
def rY:XC:=(R [m 3 33,b (.buildSlice 22 5 #[(0,(i 0)),(1,(i 1)),(2,(i 5)),(3,(t 33)),(4,(i (-1)))]) 34,n 34 14] xN)
def AG:XC:=(.seq (y3 3) rY)
def x3:XC:=(R [a (.assign (.const (.bool false))) 12] AG)
theorem b3:Bt 3 120 x3 [(.tmp 12)]:=bt Tryz.func3 rfl
end Go.Proofs.YtgopigkdcmhbbaaGreatDoor
end
section
namespace Go.Proofs.YtgopigkdcmhbbaaGreatDoor
open Go Go.Aw
theorem lZ {R:D->AH->Prop} (h:∀p,Sz 20 p->0<p.ops.length->R (.agg p.d) H):ACall Tryz.prog 7 [.slc (ints l),.i a] H R:=by
 refine b7 fun hf=>?_
 have hbig:=qk
 obtain ⟨h1,h2,h3⟩:=bV l
 have pl:(jk (patches l)).length=(patches l).length:=by simp [jk]
 simp+contextual only [↓U7,↓U7,↓XP,qh,qa,qb]
 intro b4 h4
 refine bK ?_
 simp+contextual only [pl,↓U7,↓XP,qh,XW1]
 refine fun _=>qL (by omega) ?_
 obtain ⟨r1,r2⟩:=j4 (n:=a) (most:=((patches l).length:Int)) (by omega)
 obtain ⟨k,hk⟩:=Nw r1
 rw [hk] at r2 ⊢
 have hkl:k<(patches l).length:=by omega
 have q1:(jk (patches l)).getD k []=((patches l).getD k default).d:=by simp [jk,hkl]
 have hp:=h1 _ (Ul (d:=default) hkl)
 generalize (patches l).getD k default=p at q1 hp
 have hd:p.d= [.i p.o,.i p.s,.i p.day,.slc (qv p.needs),.slc (qw p.ops),.str p.sl]:=rfl
 simp+contextual only [pl,q1,hd,hkl,Int.ofNat_lt,↓XP,qh,XW1,qb]
 exact fun _=>h p hp.1 hp.2
theorem K6:∀(B A:List UInt8),val (A++B)=val A*256 ^ B.length+val B
 | [],A=>by simp [val]
 | d::r,A=>by
  have h1:=K6 r (A++ [d])
  have h2:=K6 r [d]
  rw [oZ] at h1
  rw [show A++d::r=A++ [d]++r by simp,h1,show d::r= [d]++r from rfl,h2,Ni,Nm]
  have e:val [d]=d.toNat:=by simp [val]
  rw [e,Nat.add_mul,Nat.add_comm 1,Nat.pow_succ,show 256*val A*256 ^ r.length=val A*(256 ^ r.length*256) by rw [Nat.mul_comm 256 (val A),Nat.mul_assoc,Nat.mul_comm 256]]
  omega
theorem aY (h:d≠0) (r:List UInt8):val (d::r)≠0:=by
 rw [show d::r= [d]++r from rfl,K6]
 have e:val [d]=d.toNat:=by simp [val]
 have hd:d.toNat≠0:=fun e=>h (UInt8.toNat_inj.1 e)
 have:0<256 ^ r.length:=Nat.pow_pos (by omega)
 have:0<val [d]*256 ^ r.length:=Nat.mul_pos (by omega) this
 omega
theorem eN:∀(L:List UInt8),(∀d r,L=d::r->d≠0)->(digs (val L)).reverse=L:=by
 intro L
 induction h:L.length generalizing L with
 | zero=>
  intro _
  rw [List.eq_nil_of_length_eq_zero h]
  simp [val,kf]
 | succ n ih=>
  intro hd
  rcases List.eq_nil_or_concat L with rfl|⟨A,d,rfl⟩
  ·simp at h
  ·rw [List.concat_eq_append] at h hd ⊢
   have hA:∀e r,A=e::r->e≠0:=fun e r he=>hd e (r++ [d]) (by rw [he];rfl)
   have hv:val (A++ [d])≠0:=by
    cases A with
    |nil=>exact aY (hd d [] rfl) []
    |cons e r=>exact aY (hA e r rfl) _
   rw [yK hv,oZ,List.reverse_cons]
   have hdl:=d.toNat_lt
   rw [show (256*val A+d.toNat) / 256=val A by omega,show (256*val A+d.toNat) % 256=d.toNat by omega,ih A (by simp at h;omega) hA]
   simp
theorem dP (h:qC c<=r.length):(body c r).length=qC c:=by
 simp [body]
 omega
theorem d4 (h8:qC c<=8) (hl:qC c<=r.length) (h0:¬(0<qC c∧qU (turned c) (r.getD 0 0)=0)) (hv:val (body c r)<9223372036854775808):
  qr (if turned c=true then -1 - (val (body c r):Int) else (val (body c r):Int))=c::r.take (qC c):=by
 have hd:(digs (val (body c r))).reverse=body c r:=by
  apply eN
  intro d t hdt
  cases r with
  |nil=>simp [body] at hdt
  | cons x y=>
   unfold body at hdt
   cases hk:qC c with
   |zero=>rw [hk] at hdt;simp at hdt
   | succ k=>
    rw [hk] at hdt
    simp only [List.take_succ_cons,List.map_cons,List.cons.injEq] at hdt
    intro e
    refine h0 ⟨by omega,?_⟩
    simp only [Nd]
    rw [hdt.1,e]
 have hlen:(digs (val (body c r))).length=qC c:=by
  have:=congrArg List.length hd
  rwa [List.length_reverse,dP hl] at this
 have hc:=c.toNat_lt
 have hmap:(body c r).map (qU (turned c))=r.take (qC c):=by
  unfold body
  rw [N3]
  exact (List.map_congr_left fun x _=>VY).trans (List.map_id _)
 unfold qr
 by_cases ht:turned c=true
 ·have ht':c.toNat<128:=of_decide_eq_true ht
  rw [if_pos ht]
  have hm:mag (-1 - (val (body c r):Int))=val (body c r):=by unfold mag;rw [if_pos (by omega)];omega
  rw [hm,hd,hlen,if_pos (by omega),show decide (-1 - (val (body c r):Int)<0)=turned c by rw [ht];exact decide_eq_true (by omega),hmap]
  congr 1
  apply UInt8.toNat_inj.1
  have:qC c=127 - c.toNat:=by unfold qC;rw [if_pos ht']
  rw [UInt8.toNat_ofNat']
  omega
 ·have ht':¬c.toNat<128:=fun h=>ht (decide_eq_true h)
  rw [if_neg ht]
  have hm:mag (val (body c r):Int)=val (body c r):=by unfold mag;rw [if_neg (by omega)];omega
  rw [hm,hd,hlen,if_neg (by omega),show decide ((val (body c r):Int)<0)=turned c by
   have:turned c=false:=by simpa using ht
   rw [this];exact decide_eq_false (by omega),hmap]
  congr 1
  apply UInt8.toNat_inj.1
  have:qC c=c.toNat - 128:=by unfold qC;rw [if_neg ht']
  rw [UInt8.toNat_ofNat']
  omega
theorem mj (h8:qC c<=8) (hl:qC c<=r.length) (hv:val (body c r)<9223372036854775808) (hn:n=if turned c=true then -1 - (val (body c r):Int) else (val (body c r):Int)):
  qD (c::r)=if qr n=(c::r).take (qC c+1) then (n,qC c+1,0) else (0,0,2):=by
 have hin:wP .i64 n:=by rw [hn,kX];split<;>omega
 split
 ·next he=>
  have h1:c::r=qr n++r.drop (qC c):=by
   rw [he,List.take_succ_cons,N2,List.take_append_drop]
  have h2:(qr n).length=qC c+1:=by rw [he];simp;omega
  rw [h1,Kc hin,h2]
 ·next he=>
  unfold qD
  dsimp only
  rw [if_neg (by omega),if_neg (by omega)]
  split
  ·rfl
  ·next h0=>exact (he (by rw [hn,d4 h8 hl h0 hv,List.take_succ_cons])).elim
theorem iY (h8:qC c<=8) (hl:qC c<=r.length) (hj:j<qC c) (hm:36028797018963967<val ((r.take j).map (qU (turned c)))):qD (c::r)=(0,0,2):=by
 have hb:body c r=(r.take j).map (qU (turned c))++((r.take (qC c)).drop j).map (qU (turned c)):=by
  unfold body
  rw [<-Nn]
  congr 1
  have:r.take j=(r.take (qC c)).take j:=by rw [List.take_take,Nat.min_eq_left (by omega)]
  rw [this,List.take_append_drop]
 have hv:9223372036854775808<=val (body c r):=by
  rw [hb,K6]
  have h1:(256:Nat) ^ 1<=256 ^ (((r.take (qC c)).drop j).map (qU (turned c))).length:=Nat.pow_le_pow_right (by omega) (by simp;omega)
  have h2:=Nat.mul_le_mul (show 36028797018963968<=val ((r.take j).map (qU (turned c))) by omega) h1
  omega
 unfold qD
 dsimp only
 rw [if_neg (by omega),if_neg (by omega)]
 split
 ·rfl
 ·first|rfl|rw [if_pos hv]
end Go.Proofs.YtgopigkdcmhbbaaGreatDoor
end
