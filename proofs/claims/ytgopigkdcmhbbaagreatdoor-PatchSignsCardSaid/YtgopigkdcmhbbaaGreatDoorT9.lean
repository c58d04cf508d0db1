/- PatchSigns: for every input the call returns true. -/
import Derived.Test.YtgopigkdcmhbbaaGreatDoorT8
set_option autoImplicit true
set_option relaxedAutoImplicit true
set_option linter.unusedVariables false
set_option linter.unusedSimpArgs false
set_option maxRecDepth 100000
set_option maxHeartbeats 16000000
open List renaming getD_cons_succ -> Na,length_append -> Nd,range_succ -> Ni,nil_append -> Nj
open Int renaming cast_ofNat_Int -> Nb,toNat_natCast -> Nc,eq_ofNat_of_zero_le -> Nh
open Bool renaming and_eq_true -> Nf
open Nat renaming le_refl -> Ng,reduceSub -> qa,reduceAdd -> qb,reduceMul -> qc,reduceEqDiff -> qd,reduceLeDiff -> qe,reduceBEq -> qf
section
namespace Go.Proofs.YtgopigkdcmhbbaaGreatDoor
open Go Go.Aw
variable {R:D->AH->Prop}
theorem Lk (h8:qC c<=8) (hl:qC c<=r.length) (hxl:xs.length=r.length+1) (h1:∀x∈xs,x.length=1) (hL:r.length+1<=big)
  (hx:∀j,j<r.length->xs.getD (j+1) []= [.int .u8 ((r.getD j 0).toNat:Int)]) (hj:j=0) (hF:Fr 71 [(0,.slc xs),(5,.i (c.toNat:Int)),(6,.i (qC c:Int)),(7,.i (val ((r.take j).map (qU (turned c))):Int)),(8,.i ((j+1:Nat):Int))] F)
  (hE:∀F',Fr 71 [(0,.slc xs),(5,.i (c.toNat:Int)),(6,.i (qC c:Int)),(7,.i (val (body c r):Int))] F'->val (body c r)<9223372036854775808->Q (.exit 0) F' H) (hRt:∀F',Fr 71 [(2,.i 0),(3,.i 0),(4,.i 2)] F'->qD (c::r)=(0,0,2)->Q .ret F' H):XW Tryz.prog (vu 43) F H Q:=by
 have hbig:=qk
 refine XW.loopK hmm (fun F H'=>∃(j:Nat),j<=qC c∧val ((r.take j).map (qU (turned c)))<9223372036854775808∧Fr 71 [(0,.slc xs),(5,.i (c.toNat:Int)),(6,.i (qC c:Int)),(7,.i (val ((r.take j).map (qU (turned c))):Int)),(8,.i ((j+1:Nat):Int))] F∧H=H') (fun F H=>match F.getD 8 .any with| .int _ n'=>9 - n'.toNat|_=>0) ⟨0,by omega,by simp [val],by subst hj;exact hF,rfl⟩ ?_
 clear hF hj j
 rintro _ _ ⟨j,hj,hv,hF,rfl⟩ K hN hE' hR
 obtain ⟨z,rfl⟩:=hF.fl rfl
 try dsimp only [fl,zz,qa,qb] at*
 clear hF
 by_cases hlt:j<qC c
 ·have q1:=hx j (by omega)
  have over:=fun h=>iY (c:=c) (r:=r) (j:=j) h8 hl hlt h
  have nx:∀F',Fr 71 [(0,.slc xs),(5,.i (c.toNat:Int)),(6,.i (qC c:Int)),(7,.i ((256*val ((r.take j).map (qU (turned c)))+(qU (turned c) (r.getD j 0)).toNat:Nat):Int)),(8,.i ((j+1+1:Nat):Int))] F'->256*val ((r.take j).map (qU (turned c)))+(qU (turned c) (r.getD j 0)).toNat<9223372036854775808->K .normal F' H:=fun F' hF' hv'=>hN _ _ ⟨j+1,hlt,by
    have:(r.take (j+1)).map (qU (turned c))=(r.take j).map (qU (turned c))++ [qU (turned c) (r.getD j 0)]:=by
     rw [List.take_add_one,List.map_append]
     simp [show j<r.length by omega]
    rw [this,oZ]
    exact ⟨hv',hF',(qz rfl).symm⟩⟩ (by
   rw [List.getD_eq_getElem?_getD,hF'.2.2.2.2.2.1]
   simp only [Na,List.getD_cons_zero,Option.getD_some]
   omega)
  clear hN hE hE'
  generalize val ((r.take j).map (qU (turned c)))=v at nx hv over ⊢
  generalize r.getD j 0=d at q1 nx
  have hd:=d.toNat_lt
  have hc:=c.toNat_lt
  have k1:(((j+1:Nat):Int)<=(qC c:Int))=True:=qo
  have k2:(((j+1:Nat):Int)<(xs.length:Int))=True:=qo
  have fl:((qU (turned c) d).toNat:Int)=if (c.toNat:Int)<128 then 255 - (d.toNat:Int) else (d.toNat:Int):=by
   unfold turned qU
   by_cases hc2:c.toNat<128
   ·rw [if_pos (by simpa using hc2),if_pos (by omega),UInt8.toNat_sub_of_le _ _ (by rw [UInt8.le_iff_toNat_le];simp;omega)]
    simp
    omega
   ·rw [if_neg (by simpa using hc2),if_neg (by omega)]
  generalize hfd:(qU (turned c) d).toNat=fd at fl nx
  by_cases hc2:(c.toNat:Int)<128
  ·rw [if_pos hc2] at fl
   by_cases hov:36028797018963967<v
   ·simp+contextual only [k1,k2,q1,show ((c.toNat:Int)<128)=True from eq_true hc2,show ((v:Int)>36028797018963967)=True from qo,↓JE,↓XP,qh]
    intro _
    refine hR _ _ (hRt _ ?_ (over hov))
    exact ⟨rfl,rfl,rfl,rfl,trivial⟩
   ·simp+contextual only [k1,k2,q1,show ((c.toNat:Int)<128)=True from eq_true hc2,show ((v:Int)>36028797018963967)=False from qy,↓JE,↓XP,qh]
    intro _
    have w1:IntKind.i64.wrap (d.toNat:Int)=(d.toNat:Int):=qi (by omega) (by omega)
    have w2:IntKind.i64.wrap (255 - (d.toNat:Int))=(fd:Int):=by rw [qi (by omega) (by omega)];omega
    have w3:IntKind.i64.wrap (256*(v:Int))=256*(v:Int):=qi (by omega) (by omega)
    have w4:IntKind.i64.wrap (256*(v:Int)+(fd:Int))=((256*v+fd:Nat):Int):=by rw [qi (by omega) (by omega)];omega
    rw [w1,w2,w3,w4,qj (by omega)]
    refine nx _ ?_ (by omega)
    exact ⟨rfl,rfl,rfl,rfl,rfl,rfl,trivial⟩
  ·rw [if_neg hc2] at fl
   by_cases hov:36028797018963967<v
   ·simp+contextual only [k1,k2,q1,show ((c.toNat:Int)<128)=False from eq_false hc2,show ((v:Int)>36028797018963967)=True from qo,↓JE,↓XP,qh]
    intro _
    refine hR _ _ (hRt _ ?_ (over hov))
    exact ⟨rfl,rfl,rfl,rfl,trivial⟩
   ·simp+contextual only [k1,k2,q1,show ((c.toNat:Int)<128)=False from eq_false hc2,show ((v:Int)>36028797018963967)=False from qy,↓JE,↓XP,qh]
    intro _
    have w1:IntKind.i64.wrap (d.toNat:Int)=(d.toNat:Int):=qi (by omega) (by omega)
    have w2:(d.toNat:Int)=(fd:Int):=fl.symm
    have w3:IntKind.i64.wrap (256*(v:Int))=256*(v:Int):=qi (by omega) (by omega)
    have w4:IntKind.i64.wrap (256*(v:Int)+(fd:Int))=((256*v+fd:Nat):Int):=by rw [qi (by omega) (by omega)];omega
    rw [w1,w3,w2,w4,qj (by omega)]
    refine nx _ ?_ (by omega)
    exact ⟨rfl,rfl,rfl,rfl,rfl,rfl,trivial⟩
 ·have hik:j=qC c:=by omega
  subst hik
  clear hN
  simp+contextual only [show (((qC c+1:Nat):Int)<=(qC c:Int))=False from qy,↓JE,↓XP,qp]
  refine hE' _ _ _ (hE _ ?_ hv)
  exact ⟨rfl,rfl,rfl,rfl,rfl,trivial⟩
theorem aW (h:c.toNat<128):qC c=127 - c.toNat:=if_pos h
theorem aQ (h:¬c.toNat<128):qC c=c.toNat - 128:=if_neg h
theorem MD (hxl:xs.length=r.length+1) (h1:∀x∈xs,x.length=1)
  (hx0:xs.getD 0 []= [.int .u8 (c.toNat:Int)]) (hx:∀j,j<r.length->xs.getD (j+1) []= [.int .u8 ((r.getD j 0).toNat:Int)]) (htk:xs.take (qC c+1)=((c::r).take (qC c+1)).map ql)
  (h:∀t,qD (c::r)=t->R (.tup [.i t.1,.i (t.2.1:Int),.i t.2.2]) H):ACall Tryz.prog 79 [.slc xs] H R:=by
 refine b79 fun hf=>?_
 have hbig:=qk
 have hL:r.length+1<=big:=by
  have:=hf.1
  rw [l7,hxl] at this
  exact this
 have hc:=c.toNat_lt
 have wc:IntKind.i64.wrap (c.toNat:Int)=(c.toNat:Int):=qi (by omega) (by omega)
 have z0:(((r.length+1:Nat):Int)=0)=False:=qy
 have z1:((0:Int)<((r.length+1:Nat):Int))=True:=qo
 by_cases c1:c.toNat<119
 ·have e:qD (c::r)=(0,0,2):=by
   unfold qD
   dsimp only
   rw [if_pos (by rw [aW (by omega)];omega)]
  simp+contextual only [↓JE,hxl,hx0,wc,z0,z1,show ((c.toNat:Int)<119)=True from qo,↓JE,↓XP,qh,qa]
  intros
  exact h _ e
 by_cases c2:136<c.toNat
 ·have e:qD (c::r)=(0,0,2):=by
   unfold qD
   dsimp only
   rw [if_pos (by rw [aQ (by omega)];omega)]
  simp+contextual only [↓JE,hxl,hx0,wc,z0,z1,show ((c.toNat:Int)<119)=False from qy,show ((c.toNat:Int)>136)=True from qo,↓JE,↓XP,qh,qa]
  intros
  exact h _ e
 have h8:qC c<=8:=by unfold qC;split<;>omega
 have wk:((c.toNat:Int)<128)∧IntKind.i64.wrap (127 - (c.toNat:Int))=(qC c:Int)∨¬((c.toNat:Int)<128)∧IntKind.i64.wrap ((c.toNat:Int) - 128)=(qC c:Int):=by
  by_cases hc2:c.toNat<128
  ·exact .inl ⟨by omega,by rw [qi (by omega) (by omega),aW hc2];omega⟩
  ·exact .inr ⟨by omega,by rw [qi (by omega) (by omega),aQ hc2];omega⟩
 have wk1:IntKind.i64.wrap ((qC c:Int)+1)=((qC c+1:Nat):Int):=by rw [qi (by omega) (by omega)];omega
 have w128:IntKind.i64.wrap ((c.toNat:Int) - 128)=(c.toNat:Int) - 128:=qi (by omega) (by omega)
 have after:∀F,Fr 71 [(0,.slc xs),(5,.i (c.toNat:Int)),(6,.i (qC c:Int)),(7,.i 0),(8,.i 1)] F->qC c<=r.length->XW Tryz.prog (vu 43) F H (kU 0 (Vg Tryz.prog (vu 69) (jX Tryz.prog [.tmp 2,.tmp 3,.tmp 4] H.length R))):=by
  intro F hF hl
  have hv0:((val ((r.take 0).map (qU (turned c))):Nat):Int)=0:=by simp [val]
  refine Lk (j:=0) h8 hl hxl h1 hL hx rfl (by rw [hv0];exact hF) (fun F' hF' hv=>?_) (fun F' hF' e=>?_)
  ·obtain ⟨z,rfl⟩:∃z:Nat->D,_= [.slc xs,z 1,z 2,z 3,z 4,.i (c.toNat:Int),.i (qC c:Int),.i (val (body c r):Int),z 8,z 9,z 10,z 11,z 12,z 13,z 14,z 15,z 16,z 17,z 18,z 19,z 20,z 21,z 22,z 23,z 24,z 25,z 26,z 27,z 28,z 29,z 30,z 31,z 32,z 33,z 34,z 35,z 36,z 37,z 38,z 39,z 40,z 41,z 42,z 43,z 44,z 45,z 46,z 47,z 48,z 49,z 50,z 51,z 52,z 53,z 54,z 55,z 56,z 57,z 58,z 59,z 60,z 61,z 62,z 63,z 64,z 65,z 66,z 67,z 68,z 69,z 70]:=hF'.lit
   clear hF' hF
   have rd:=fun n hn=>mj (c:=c) (r:=r) (n:=n) h8 hl hv hn
   generalize val (body c r)=v at hv rd ⊢
   rcases wk with ⟨k1,k2⟩|⟨k1,k2⟩
   ·have ht:turned c=true:=decide_eq_true (by omega)
    have r1:=rd (-1 - (v:Int)) (by rw [if_pos ht])
    have wv:IntKind.i64.wrap (-1 - (v:Int))= -1 - (v:Int):=qi (by omega) (by omega)
    generalize hn: -1 - (v:Int)=n at r1 wv
    simp+contextual only [hn,wv,eq_true k1,↓JE,↓XP,qp,XW1]
    refine ⟨_,fun _ _=>oa (n:=n) (fun _=>⟨rfl,rfl⟩),?_⟩
    simp+contextual only [wk1,hxl,htk,show (0<=((qC c+1:Nat):Int))=True from qo,show (((qC c+1:Nat):Int)<=((r.length+1:Nat):Int))=True from qo,↓XP,qh]
    refine fun _=>⟨h1,_,fun _ _=>Kn (a:=qr n) (b:=(c::r).take (qC c+1)) ⟨rfl,rfl⟩,?_⟩
    rcases Classical.em (qr n=(c::r).take (qC c+1)) with he|he
    ·rw [if_pos he] at r1
     rw [decide_eq_true he]
     simp+contextual only [wk1,↓JE,↓XP,qp,XW1,↓XH]
     exact h _ r1
    ·rw [if_neg he] at r1
     rw [decide_eq_false he]
     simp+contextual only [↓JE,↓XP,qp,XW1,↓XH]
     exact h _ r1
   ·have ht:turned c=false:=decide_eq_false (by omega)
    have r1:=rd (v:Int) (by rw [if_neg (by rw [ht];simp)])
    generalize (v:Int)=n at r1 ⊢
    simp+contextual only [eq_false k1,↓JE,↓XP,qp,XW1]
    refine ⟨_,fun _ _=>oa (n:=n) (fun _=>⟨rfl,rfl⟩),?_⟩
    simp+contextual only [wk1,hxl,htk,show (0<=((qC c+1:Nat):Int))=True from qo,show (((qC c+1:Nat):Int)<=((r.length+1:Nat):Int))=True from qo,↓XP,qh]
    refine fun _=>⟨h1,_,fun _ _=>Kn (a:=qr n) (b:=(c::r).take (qC c+1)) ⟨rfl,rfl⟩,?_⟩
    rcases Classical.em (qr n=(c::r).take (qC c+1)) with he|he
    ·rw [if_pos he] at r1
     rw [decide_eq_true he]
     simp+contextual only [wk1,↓JE,↓XP,qp,XW1,↓XH]
     exact h _ r1
    ·rw [if_neg he] at r1
     rw [decide_eq_false he]
     simp+contextual only [↓JE,↓XP,qp,XW1,↓XH]
     exact h _ r1
  ·obtain ⟨z,rfl⟩:∃z:Nat->D,_= [z 0,z 1,.i 0,.i 0,.i 2,z 5,z 6,z 7,z 8,z 9,z 10,z 11,z 12,z 13,z 14,z 15,z 16,z 17,z 18,z 19,z 20,z 21,z 22,z 23,z 24,z 25,z 26,z 27,z 28,z 29,z 30,z 31,z 32,z 33,z 34,z 35,z 36,z 37,z 38,z 39,z 40,z 41,z 42,z 43,z 44,z 45,z 46,z 47,z 48,z 49,z 50,z 51,z 52,z 53,z 54,z 55,z 56,z 57,z 58,z 59,z 60,z 61,z 62,z 63,z 64,z 65,z 66,z 67,z 68,z 69,z 70]:=hF'.lit
   clear hF' hF
   simp+contextual only [↓XP,qp]
   exact h _ e
 by_cases hl:r.length<qC c
 ·have e:qD (c::r)=(0,0,3):=by
   unfold qD
   dsimp only
   rw [if_neg (by omega),if_pos hl]
  rcases wk with ⟨k1,k2⟩|⟨k1,k2⟩
  ·simp+contextual only [↓JE,hxl,hx0,wc,z0,z1,w128,k2,wk1,eq_true k1,show ((c.toNat:Int)<119)=False from qy,show ((c.toNat:Int)>136)=False from qy,show (((r.length+1:Nat):Int)<((qC c+1:Nat):Int))=True from qo,↓JE,↓XP,qh,XW1,qa]
   intros
   exact h _ e
  ·simp+contextual only [↓JE,hxl,hx0,wc,z0,z1,k2,wk1,eq_false k1,show ((c.toNat:Int)<119)=False from qy,show ((c.toNat:Int)>136)=False from qy,show (((r.length+1:Nat):Int)<((qC c+1:Nat):Int))=True from qo,↓JE,↓XP,qh,XW1,qa]
   intros
   exact h _ e
 ·rcases wk with ⟨k1,k2⟩|⟨k1,k2⟩
  ·simp+contextual only [↓JE,hxl,hx0,wc,z0,z1,w128,k2,wk1,eq_true k1,show ((c.toNat:Int)<119)=False from qy,show ((c.toNat:Int)>136)=False from qy,show (((r.length+1:Nat):Int)<((qC c+1:Nat):Int))=False from qy,↓JE,↓XP,qh,XW1,qa]
   intros
   refine after _ ?_ (by omega)
   exact ⟨rfl,rfl,rfl,rfl,rfl,rfl,trivial⟩
  ·simp+contextual only [↓JE,hxl,hx0,wc,z0,z1,k2,wk1,eq_false k1,show ((c.toNat:Int)<119)=False from qy,show ((c.toNat:Int)>136)=False from qy,show (((r.length+1:Nat):Int)<((qC c+1:Nat):Int))=False from qy,↓JE,↓XP,qh,XW1,qa]
   intros
   refine after _ ?_ (by omega)
   exact ⟨rfl,rfl,rfl,rfl,rfl,rfl,trivial⟩
theorem cb (h:R (.tup [.i (qD b).1,.i ((qD b).2.1:Int),.i (qD b).2.2]) H):ACall Tryz.prog 79 [.slc (b.map ql)] H R:=by
 cases b with
 | nil=>
  refine b79 fun hf=>?_
  simp+contextual only [↓JE,List.length_nil,show ((((0:Nat):Int))=0)=True from eq_true rfl,↓JE,↓XP,qh,qa]
  exact fun _=>h
 | cons c r=>
  refine MD (c:=c) (r:=r) (by simp) qV (by simp [ql]) (fun j hj=>?_) (by rw [List.map_take]) (fun t ht=>by rw [<-ht];exact h)
  rw [List.map_cons,Na]
  exact vC hj
def vE (rest:List UInt8) (k:Nat):List UInt8:=(rest.drop (16*k)).take 16
theorem K8 (h:16*(k+1)<=rest.length):(vE rest k).length=16:=by
 unfold vE
 rw [List.length_take,List.length_drop]
 omega
def Yp (i:Int) (d rest:List UInt8) (s c:Nat):List UInt8:=wi i c (vE rest c) (vU d s c) (3 - vU d s c)
def QU (rest:List UInt8) (i:Nat) (v:List UInt8):Nat->List UInt8
 |0=>v
 |l+1=>if i / 2 ^ l % 2=1 then jE 2 [vE rest (68+l),QU rest i v l] else jE 2 [QU rest i v l,vE rest (68+l)]
theorem JO (h:v.length=16):∀l,(QU rest i v l).length=16
 |0=>h
 | l+1=>by
  rw [QU]
  split<;>exact jO _ _
def eQ (pub:List UInt8) (i:Nat) (m rest:List UInt8) (ht:Nat):List UInt8:=
 QU rest i (jE 1 [jE 9 [jm (Yp i (uL pub i m) rest (oK (uL pub i m) 64)) 68]]) ht
def YS (pub:List UInt8) (ht:Int) (m sig:List UInt8):Int×Int:=
 if WK ht=false then (0,1)
 else if (qD sig).2.2≠0 then (0,(qD sig).2.2)
 else if (qD sig).1<0∨((2 ^ ht.toNat:Nat):Int)<=(qD sig).1∨(sig.drop (qD sig).2.1).length≠(68+ht.toNat)*16 then (0,2)
 else if eQ pub (qD sig).1.toNat m (sig.drop (qD sig).2.1) ht.toNat=pub then ((qD sig).1,0) else (0,10)
theorem dK:∀{a b:List UInt8},eqCells (jf a) (jf b)=decide (a=b)
 | [],[]=>rfl
 | [],_::_=>rfl
 |_::_,[]=>rfl
 | x::a,y::b=>by
  have h:=dK (a:=a) (b:=b)
  simp only [jf,List.map_cons,bD,eqCells,cellEq] at h ⊢
  rw [h]
  by_cases e:x=y
  ·subst e;by_cases e2:a=b<;>simp [e2]
  ·have:¬((x.toNat:Int)=(y.toNat:Int)):=fun c=>e (UInt8.toNat_inj.1 (Int.ofNat_inj.1 c))
   simp [e,this]
theorem K7 (h:l.length=16):Aw.fits [CT.i,CT.i,CT.i,CT.i,CT.i,CT.i,CT.i,CT.i,CT.i,CT.i,CT.i,CT.i,CT.i,CT.i,CT.i,CT.i] (jf l):=by
 have go:∀l:List UInt8,Aw.fits (List.replicate l.length CT.i) (jf l):=fun l=>by
  induction l with
  |nil=>trivial
  |cons x r ih=>exact ih
 have:=go l
 rw [h] at this
 exact this
theorem Vr:∀{a b:List UInt8},sameK (jf a) (jf b)
 | [],[]=>trivial
 | [],_::_=>trivial
 |_::_,[]=>trivial
 |x::a,y::b=>⟨rfl,Vr (a:=a) (b:=b)⟩
theorem AC (hg:Kst0 H) (hp:pub.length=16) (hm:m.length<=100000) (hs:sig.length<=100000)
  (h:R (.tup [.int .i64 (YS pub ht m sig).1,.int .i64 (YS pub ht m sig).2]) H):ACall Tryz.prog 39 [.agg (jf pub),.int .i64 ht,.str m,.str sig] H R:=by
 refine b39 fun hf=>?_
 have hbig:=qk
 simp+contextual only [↓ZA,↓ZA,↓XP,qh,qa,qb]
 intro b4 h4
 unfold YS at h
 by_cases hk:WK ht=true
 ·rw [if_neg (by rw [hk];decide)] at h
  obtain ⟨hk1,hk2⟩:0<=ht∧ht<=6:=by
   unfold WK at hk
   simp only [Nf,decide_eq_true_eq] at hk
   exact hk
  have l1:(ht<0)=False:=qy
  have l2:(6<ht)=False:=qy
  have l3:((1048576:Int)<(m.length:Int))=False:=qy
  simp+contextual only [l1,l2,l3,qp,XW1]
  refine fun _ _=>cb (b:=sig) ?_
  have hle:=zn (b:=sig)
  obtain ⟨i0,n0,e0,hdec⟩:∃i0 n0 e0,qD sig=(i0,n0,e0):=⟨_,_,_,rfl⟩
  rw [hdec] at h hle ⊢
  dsimp only at h hle ⊢
  rcases Classical.em (e0=0) with he|he
  ·rw [he] at h ⊢
   clear he hdec
   rw [if_neg (fun c=>c rfl)] at h
   have n1:((0:Int)<=(n0:Int))=True:=qo
   have n2:((n0:Int)<=(sig.length:Int))=True:=qo
   obtain ⟨t,rfl⟩:=Nh hk1
   rw [Nc] at h
   obtain ⟨hp1,hp2,hp3⟩:=ua (ht:=t) (by omega)
   have hrl:(sig.drop n0).length<=sig.length:=by rw [List.length_drop];omega
   have hw1:IntKind.i64.wrap (68+(t:Int))=68+(t:Int):=qi (by omega) (by omega)
   have hw2:IntKind.i64.wrap ((68+(t:Int))*16)=(68+(t:Int))*16:=qi (by omega) (by omega)
   have htk:List.take sig.length sig=sig:=List.take_length
   simp+contextual only [qt,n1,n2,hw1,hw2,hp1,htk,Nc,↓ZA,↓XP,qh,XW1]
   generalize sig.drop n0=rest at h hrl ⊢
   refine fun hii _ _=>⟨fun c=>?_,fun c1=>⟨fun c=>?_,fun c2 _=>⟨fun c=>?_,fun c3=>⟨by omega,?_⟩⟩⟩⟩
   ·rw [if_pos (.inl c)] at h;exact h
   ·rw [if_pos (.inr (.inl c))] at h;exact h
   ·rw [if_pos (.inr (.inr (by omega)))] at h;exact h
   have hrl2:rest.length=(68+t)*16:=by omega
   rw [if_neg (by omega)] at h
   clear c3 hrl
   obtain ⟨i,rfl⟩:=Nh (show 0<=i0 by omega)
   rw [Nc] at h
   rw [show eQ pub i m rest t=QU rest i (jE 1 [jE 9 [jm (Yp i (uL pub i m) rest (oK (uL pub i m) 64)) 68]]) t from rfl] at h
   have hi2:i<2 ^ t:=by omega
   have hg1:=hg.push (o:= .cells (jf pub)) h4
   rw [qI hp,j3]
   refine fq hg1 hp hm ?_
   have nd:=Qn pub i m
   generalize uL pub i m=d at nd h
   simp+contextual only [↓XP,qp,XW1]
   refine Wy nd ?_
   generalize oK d 64=s at h
   simp+contextual only [yY,↓ZA,↓XP,qp]
   intro _
   obtain ⟨q,hq⟩:∃q:Nat,q=68:=⟨_,rfl⟩
   have h2:R (.tup [.int .i64 (if QU rest i (jE 1 [jE 9 [jm (Yp i d rest s) q]]) t=pub then ((i:Int),(0:Int)) else (0,10)).1,.int .i64 (if QU rest i (jE 1 [jE 9 [jm (Yp i d rest s) q]]) t=pub then ((i:Int),(0:Int)) else (0,10)).2]) H:=by rw [hq];exact h
   clear h
   have hcl:∀c,c<68+t->(vE rest c).length=16:=fun c hc=>K8 (by omega)
   have hvl:∀c,c<68->(Yp i d rest s c).length=16:=fun c hc=>yG (hcl c (by omega)) _
   refine XW.loopS hmm 118 (fun n:Nat=>[(1,.int .i64 (t:Int)),(4,.ptr b4 0),(10,.int .i64 (i:Int)),(13,.str rest),(14,.own (vb (vU d s))),(15,.str (jm (Yp i d rest s) n)),(16,.int .i64 (n:Int))]) (fun _=>(b4,.cells (jf pub))::H) (fun n=>q - n) (fun n=>n<=q) 0 (Nat.zero_le _) ⟨rfl,rfl,rfl,rfl,rfl,rfl,rfl,rfl,trivial⟩ rfl ?_
   intro n z hn K hN hE hR
   dsimp only [fl,zz,qa,qb]
   have hst:jm (Yp i d rest s) (n+1)=jm (Yp i d rest s) n++Yp i d rest s n:=rfl
   have hwl:n<=68->(jm (Yp i d rest s) n).length=16*n:=by
    clear hN hE hR hst
    intro hn
    induction n with
    |zero=>rfl
    |succ n ih=>rw [jm,Nd,ih (by omega) (by omega),hvl n (by omega)];omega
   have h3:n=q->R (.tup [.int .i64 (if QU rest i (jE 1 [jE 9 [jm (Yp i d rest s) n]]) t=pub then ((i:Int),(0:Int)) else (0,10)).1,.int .i64 (if QU rest i (jE 1 [jE 9 [jm (Yp i d rest s) n]]) t=pub then ((i:Int),(0:Int)) else (0,10)).2]) H:=fun e=>by rw [e];exact h2
   generalize jm (Yp i d rest s) n=w at hst hwl h3 ⊢
   rcases Classical.em (n<q) with hlt|hlt
   ·have hlt':((n:Int)<68)=True:=qo
    have hlt2:(n<68)=True:=qo
    have hn00:((0:Int)<=(n:Int))=True:=qo
    have g:=Q0 (f:=vU d s) (i:=n) (by omega)
    have hd3:=Vv d s n
    have hw3:IntKind.i64.wrap (16*(n:Int))=((16*n:Nat):Int):=by rw [qi (by omega) (by omega)];omega
    have hsl0:((0:Int)<=((16*n:Nat):Int))=True:=qo
    have hsl1:(((16*n:Nat):Int)<=(rest.length:Int))=True:=qo
    have hsl2:(16*n<=rest.length)=True:=qo
    have htk2:List.take rest.length rest=rest:=List.take_length
    simp+contextual only [yY,Nb,hlt',hn00,g,hw3,hsl0,hsl1,htk2,Nc,↓ZA,↓XP,qh]
    refine fun _=>⟨_,fun _ _=>Yb (s:=rest.drop (16*n)) (by rw [List.length_drop];omega) (by rw [List.length_drop];omega) ⟨rfl,rfl⟩,?_⟩
    rw [show List.take 16 (List.drop (16*n) rest)=vE rest n from rfl]
    have hc:=hcl n (by omega)
    have hv1:Yp i d rest s n=wi i n (vE rest n) (vU d s n) (3 - vU d s n):=rfl
    generalize vE rest n=u at hc hv1 ⊢
    simp+contextual only [↓XP,qp,XW1]
    refine ⟨_,fun H1 hs1=>G6 (n:=3 - vU d s n) (by omega) (hg1.sub hs1) hc (by omega) (by omega) ⟨rfl,rfl⟩,?_⟩
    rw [<-hv1]
    have hv2:=hvl n (by omega)
    generalize Yp i d rest s n=v at hv2 hst ⊢
    simp+contextual only [↓XP,qp,XW1]
    refine ⟨_,fun H1 hs1=>un hv2 ⟨rfl,rfl⟩,?_⟩
    simp+contextual only [<-hst,↓ZA,↓XP,qp]
    rw [qj (by omega)]
    have hw9:=hwl (by omega)
    exact fun _=>⟨by omega,hN (n+1) _ _ (by omega) (by omega) ⟨rfl,rfl,rfl,rfl,rfl,rfl,rfl,rfl,trivial⟩ (qz rfl)⟩
   ·have hnq:n=q:=by omega
    have hlt':((n:Int)<68)=False:=qy
    have h:=h3 hnq
    have hw9:=hwl (by omega)
    simp+contextual only [hlt',↓ZA,↓XP,qp]
    apply hE
    clear hE hN hR h3 h2 hst hwl hvl hlt'
    simp+contextual only [Nat.mul_one,↓ZA,↓XP,qh,XW1,qe]
    refine KQ (c:=9) (l:= [w]) hg1 (by decide) (by simp) (fun x hx=>by rw [List.mem_singleton.1 hx];omega) ?_
    have h9:=jO 9 [w]
    generalize jE 9 [w]=k9 at h9 h
    simp+contextual only [qt,h9,↓ZA,↓XP,qh,XW1,qb]
    intro Cd h17
    obtain ⟨n17,f17⟩:=h17
    have hg2:Kst0 ((Cd,.cells (jf k9))::(b4,.cells (jf pub))::H):=hg1.push ⟨Ne.symm n17,f17⟩
    rw [qI h9,j3]
    refine un h9 ?_
    simp+contextual only [Nat.mul_one,h9,↓XP,qh,XW1,qe]
    refine fun _=>KQ (c:=1) (l:= [k9]) hg2 (by decide) (by simp) (fun x hx=>by rw [List.mem_singleton.1 hx];omega) ?_
    have h10:=jO 1 [k9]
    generalize jE 1 [k9]=v0 at h10 h
    simp+contextual only [qt,h10,↓ZA,↓XP,qh,XW1,qb]
    intro BZ h18
    obtain ⟨n187,n184,f18⟩:=h18
    clear hnq hlt
    refine XW.loopS hmm 118 (fun l:Nat=>[(1,.int .i64 (t:Int)),(4,.ptr b4 0),(10,.int .i64 (i:Int)),(13,.str rest),(18,.ptr BZ 0),(19,.int .i64 ((i / 2 ^ l:Nat):Int)),(20,.int .i64 (l:Int))]) (fun l=>(BZ,.cells (jf (QU rest i v0 l)))::(Cd,.cells (jf k9))::(b4,.cells (jf pub))::H) (fun l=>t - l) (fun l=>l<=t) 0 (Nat.zero_le _) ?_ rfl ?_
    ·rw [show i / 2 ^ 0=i by simp]
     exact ⟨rfl,rfl,rfl,rfl,rfl,rfl,rfl,rfl,trivial⟩
    intro l z hl K hN hE hR
    dsimp only [fl,zz,qa,qb]
    have hul:=JO (rest:=rest) (i:=i) h10 l
    have hst:QU rest i v0 (l+1)=if i / 2 ^ l % 2=1 then jE 2 [vE rest (68+l),QU rest i v0 l] else jE 2 [QU rest i v0 l,vE rest (68+l)]:=rfl
    have h3:l=t->R (.tup [.int .i64 (if QU rest i v0 l=pub then ((i:Int),(0:Int)) else (0,10)).1,.int .i64 (if QU rest i v0 l=pub then ((i:Int),(0:Int)) else (0,10)).2]) H:=fun e=>by rw [e];exact h
    generalize QU rest i v0 l=u at hul hst h3 ⊢
    rcases Classical.em (l<t) with hlt|hlt
    ·have hlt':((l:Int)<(t:Int))=True:=qo
     have hw3:IntKind.i64.wrap (68+(l:Int))=((68+l:Nat):Int):=by rw [qi (by omega) (by omega)];omega
     have hw4:IntKind.i64.wrap (16*((68+l:Nat):Int))=((16*(68+l):Nat):Int):=by rw [qi (by omega) (by omega)];omega
     have hsl0:((0:Int)<=((16*(68+l):Nat):Int))=True:=qo
     have hsl1:(((16*(68+l):Nat):Int)<=(rest.length:Int))=True:=qo
     have htk2:List.take rest.length rest=rest:=List.take_length
     simp+contextual only [hlt',hw3,hw4,hsl0,hsl1,htk2,Nc,↓ZA,↓XP,qh]
     refine Yb (s:=rest.drop (16*(68+l))) (by rw [List.length_drop];omega) (by rw [List.length_drop];omega) ?_
     rw [show List.take 16 (List.drop (16*(68+l)) rest)=vE rest (68+l) from rfl]
     have hc:=hcl (68+l) (by omega)
     generalize vE rest (68+l)=o at hc hst ⊢
     have hdv:i / 2 ^ (l+1)=i / 2 ^ l / 2:=by rw [Nat.pow_succ,Nat.div_div_eq_div_mul]
     have hdl:i / 2 ^ l<=i:=Nat.div_le_self _ _
     generalize i / 2 ^ l=y at hst hdv hdl ⊢
     have hmd:(y:Int).tmod 2=((y % 2:Nat):Int):=by rw [Int.tmod_eq_emod_of_nonneg (by omega)];omega
     have hdq:(y:Int).tdiv 2=((i / 2 ^ (l+1):Nat):Int):=by rw [Int.tdiv_eq_ediv_of_nonneg (by omega),hdv];omega
     have hdw:IntKind.i64.wrap ((i / 2 ^ (l+1):Nat):Int)=((i / 2 ^ (l+1):Nat):Int):=qi (by omega) (by omega)
     generalize he2:i / 2 ^ (l+1)=y2 at hdq hdw hdv ⊢
     have hud:(jf u).drop 16= []:=List.drop_of_length_le (by rw [qt,hul];exact Ng _)
     simp+contextual only [qt,qg,hc,↓ZA,↓XP,qh,XW1,qb]
     intro MB h21
     obtain ⟨n218,n217,n214,f21⟩:=h21
     have hg4:Kst0 ((MB,.cells (jf o))::(BZ,.cells (jf u))::(Cd,.cells (jf k9))::(b4,.cells (jf pub))::H):=(hg2.push ⟨Ne.symm n187,Ne.symm n184,f18⟩).push ⟨Ne.symm n218,Ne.symm n217,Ne.symm n214,f21⟩
     rcases Nat.mod_two_eq_zero_or_one y with hy|hy
     case' inl=>
      have hy2:(((y % 2:Nat):Int)=1)=False:=qy
      rw [if_neg (by omega)] at hst
      simp+contextual only [hmd,hy2,hul,qI hc,qI hul,j3,qp,XW1]
      refine ⟨by decide,VC hg4 hul hc ?_⟩
     case' inr=>
      have hy2:(((y % 2:Nat):Int)=1)=True:=qo
      rw [if_pos hy] at hst
      simp+contextual only [hmd,hy2,hul,qI hc,qI hul,j3,qp,XW1]
      refine ⟨by decide,VC hg4 hc hul ?_⟩
     all_goals rw [<-hst]
     all_goals have hn2:=JO (rest:=rest) (i:=i) h10 (l+1)
     all_goals generalize hnv:QU rest i v0 (l+1)=nv at hn2 ⊢
     all_goals simp+contextual only [qt,qg,qm,qg,qm,n218,hn2,hul,hud,hdq,hdw,↓ZA,↓XP,qh,XW1]
     all_goals rw [qj (by omega)]
     all_goals subst he2 hnv
     all_goals exact ⟨by decide,hN (l+1) _ _ (by omega) (by omega) ⟨rfl,rfl,rfl,rfl,rfl,rfl,rfl,rfl,trivial⟩ (kK rfl)⟩
    ·have hlt2:l=t:=by omega
     have hlt':((l:Int)<(t:Int))=False:=qy
     have h:=h3 hlt2
     simp+contextual only [hlt',↓ZA,↓XP,qp]
     apply hE
     clear hE hN hR h3 hst
     have hfu:=K7 hul
     have hfp:=K7 hp
     have hsk:=Vr (a:=u) (b:=pub)
     have heq:=dK (a:=u) (b:=pub)
     simp+contextual only [qt,qg,n17,n184,hul,hp,qI hul,qI hp,j3,hfu,hfp,hsk,heq,↓ZA,↓XP,qh,XW1]
     rcases Classical.em (u=pub) with e|e
     ·rw [if_pos e] at h
      exact ⟨fun c=>absurd e c,fun _=>h⟩
     ·rw [if_neg e] at h
      exact ⟨fun _=>h,fun c=>absurd c e⟩
  ·rw [if_pos he] at h
   simp+contextual only [eq_false he,↓ZA,↓XP,qp,XW1]
   intros
   exact h
 ·have hk':WK ht=false:=by simpa using hk
  rw [if_pos hk'] at h
  by_cases c1:ht<0
  ·simp+contextual only [eq_true c1,qp,XW1]
   exact h
  ·have c2:6<ht:=by
    by_cases c2:6<ht
    ·exact c2
    ·exact absurd (show WK ht=true by unfold WK;rw [decide_eq_true (by omega),decide_eq_true (by omega)];rfl) hk
   simp+contextual only [eq_false c1,eq_true c2,qp,XW1]
   exact h
theorem aN (hx:x.view1= .slc (rest.map ql)) (hb:qn H b=some (.cells [x])) (hk:16*(k+1)<=rest.length) (hl:rest.length<=200000) (h:R (.agg (jf (vE rest k))) H):
  ACall Tryz.prog 50 [.int .i64 (k:Int),.ptr b 0] H R:=by
 refine b50 fun hf=>?_
 have hbig:=qk
 have hw1:IntKind.i64.wrap ((k:Int)*16)=((16*k:Nat):Int):=by rw [qi (by omega) (by omega)];omega
 have hw2:IntKind.i64.wrap ((k:Int)+1)=((k+1:Nat):Int):=by rw [qi (by omega) (by omega)];omega
 have hw3:IntKind.i64.wrap (((k+1:Nat):Int)*16)=((16*(k+1):Nat):Int):=by rw [qi (by omega) (by omega)];omega
 have c0:((0:Int)<=((16*k:Nat):Int))=True:=qo
 have c1:(((16*k:Nat):Int)<=((16*(k+1):Nat):Int))=True:=qo
 have c2:(((16*(k+1):Nat):Int)<=(rest.length:Int))=True:=qo
 have hck:=K8 hk
 have heq:List.drop (16*k) (List.take (16*(k+1)) (rest.map ql))=(vE rest k).map ql:=by
  rw [List.drop_take,show 16*(k+1) - 16*k=16 by omega,vE,List.map_take,List.map_drop]
 generalize vE rest k=w at hck heq h
 have hwm:(w.map ql).take 16=w.map ql:=List.take_of_length_le (by simp [hck])
 simp+contextual only [↓U50,↓U50.1,↓XP,qh,qa,qb]
 intro b3 h3
 have hb3:=qO h3 hb
 simp+contextual only [qt,qg hb3,hb,hx,hw1,hw2,hw3,c0,c1,c2,heq,hwm,au,hck,qI hck,j3,Nc,↓XP,qh,XW1,qb,↓XH]
 exact fun _=>⟨Vn _,Vn _,h⟩
theorem ZY (x:D):x.view1.view1=x.view1:=by cases x<;>rfl
theorem Za (h:qn H b=some (.cells [x])) (hx:x.view1=d) (hs:Aw.Sub H H1):∃x',x'.view1=d∧qn H1 b=some (.cells [x']):=by
 obtain ⟨o',g1,g2⟩:=hs _ _ h
 rcases g2 with rfl|g2
 ·exact ⟨x,hx,g1⟩
 ·cases o' with
  | cells cs=>
   simp only [Up,AO.cells.injEq] at g2
   match cs,g2 with
   | [y],g2=>
    simp only [List.map_cons,List.map_nil,List.cons.injEq,and_true] at g2
    exact ⟨y,by rw [<-hx,g2,ZY],g1⟩
   | [],g2=>simp at g2
   |_::_::_,g2=>simp at g2
  |_=>simp [Up] at g2
structure VrfH (H:AH) (i:Int) (rest d:List UInt8) (s bi br bf bd:Nat):Prop where
 i:qn H bi=some (.cells [.int .i64 i])
 r:∃x:D,x.view1= .slc (rest.map ql)∧qn H br=some (.cells [x])
 f:qn H bf=some (.cells [.fn 50 [.ptr br 0]])
 d:∃x:D,x.view1= .slc (vb (vU d s))∧qn H bd=some (.cells [x])
theorem VrfH.sub {H H1:AH} {i:Int} {rest d:List UInt8} {s bi br bf bd:Nat} (h:VrfH H i rest d s bi br bf bd) (hs:Aw.Sub H H1):VrfH H1 i rest d s bi br bf bd:=by
 obtain ⟨x,hx,gx⟩:=h.r
 obtain ⟨y,hy,gy⟩:=h.d
 exact ⟨dM h.i hs,Za gx hx hs,Kz (fun x hx=>by cases x<;>simp_all [D.view1]) h.f hs,Za gy hy hs⟩
theorem VrfH.push {H:AH} {i:Int} {rest d:List UInt8} {s bi br bf bd b:Nat} {o:AO} (h:VrfH H i rest d s bi br bf bd) (hb:qH H b):VrfH ((b,o)::H) i rest d s bi br bf bd:=by
 obtain ⟨x,hx,gx⟩:=h.r
 obtain ⟨y,hy,gy⟩:=h.d
 exact ⟨(qg (qO hb h.i)).trans h.i,⟨x,hx,(qg (qO hb gx)).trans gx⟩,(qg (qO hb h.f)).trans h.f,⟨y,hy,(qg (qO hb gy)).trans gy⟩⟩
theorem BV (hg:Kst H) (hv:VrfH H i rest d s bi br bf bd) (hn:n<68) (hl:16*68<=rest.length) (hl2:rest.length<=200000) (h:R (.agg (jf (Yp i d rest s n))) H):
  ACall Tryz.prog 54 [.int .i64 (n:Int),.ptr bi 0,.ptr bd 0,.ptr bf 0] H R:=by
 refine b54 fun hf=>?_
 have hbig:=qk
 simp+contextual only [↓U54,↓U54.1,↓XP,qh,qa,qb]
 intro b5 h5
 have hv5:=hv.push (o:= .cells (barr 16 [])) h5
 obtain ⟨y,hy,gy⟩:=hv.d
 have e1:=qO h5 hv.i
 have e2:=qO h5 hv.f
 have e3:=qO h5 gy
 have g:=Q0 (f:=vU d s) (i:=n) hn
 have c0:((0:Int)<=(n:Int))=True:=qo
 have c1:((n:Int)<68)=True:=qo
 have c2:(n<68)=True:=eq_true hn
 have hd3:=Vv d s n
 simp+contextual only [yY,Nb,qg e1,qg e2,qg e3,hv.i,hv.f,gy,hy,g,c0,c1,Nc,↓XP,qh,XW1]
 have hg5:Kst ((b5,.cells (barr 16 []))::H):=hg.push h5
 refine fun _ _ _=>⟨_,fun H1 hs=>by
  obtain ⟨x,hx,gx⟩:=(hv5.sub hs).r
  exact aN hx gx (by omega) hl2 ⟨rfl,rfl⟩,?_⟩
 have hck:=K8 (rest:=rest) (k:=n) (by omega)
 rw [show Yp i d rest s n=wi i n (vE rest n) (vU d s n) (3 - vU d s n) from rfl] at h
 generalize vE rest n=u at hck h ⊢
 simp+contextual only [↓XP,qp,XW1]
 refine ⟨_,fun H1 hs=>eR (n:=3 - vU d s n) (by omega) (hg5.sub hs) hck (by omega) (by omega) ⟨rfl,rfl⟩,?_⟩
 have hal:=yG (i:=i) (c:=n) (f:=vU d s n) hck (3 - vU d s n)
 generalize wi i n u (vU d s n) (3 - vU d s n)=a at hal h ⊢
 simp+contextual only [qt,hal,qI hal,j3,↓XP,qh,XW1,qb]
 exact h
theorem L4:∀v:Fin 64,bits .and .i64 ((v.val:Nat):Int) 1=((v.val % 2:Nat):Int):=by decide
theorem nS {i l t:Nat} (hh:t<=6) (hl:l<t) (hi:i<2 ^ t) (hp:2 ^ t<=64):bits .and .i64 ((i:Int).fdiv (2 ^ min l IntKind.i64.bits)) 1=((i / 2 ^ l % 2:Nat):Int):=by
 have h1:min l IntKind.i64.bits=l:=Nat.min_eq_left (show l<=64 by omega)
 have h2:(i:Int).fdiv (2 ^ l)=((i / 2 ^ l:Nat):Int):=by
  rw [show ((2:Int) ^ l)=((2 ^ l:Nat):Int) by simp,Int.fdiv_eq_ediv_of_nonneg _ (Int.natCast_nonneg _)]
  exact (Int.natCast_ediv _ _).symm
 rw [h1,h2]
 exact L4 ⟨i / 2 ^ l,Nat.lt_of_le_of_lt (Nat.div_le_self _ _) (by omega)⟩
theorem KC:∀{n:Nat},(∀k,k<n->f k=g k)->jm f n=jm g n
 |0,_=>rfl
 |n+1,h=>by rw [jm,jm,KC (fun k hk=>h k (by omega)),h n (by omega)]
theorem sY {pub m sig:List UInt8} {ht:Int} {H:AH} (hg:Kst H) (hp:pub.length=16) (hm:m.length<=100000) (hs:sig.length<=100000)
  (h:R (.tup [.int .i64 (YS pub ht m sig).1,.int .i64 (YS pub ht m sig).2]) H):ACall Tryz.prog 24 [.agg (jf pub),.int .i64 ht,.str m,.str sig] H R:=by
 refine b24 fun hf=>?_
 have hbig:=qk
 simp+contextual only [↓nO,↓nO,↓XP,qp,qa,qb]
 intro b4 h4
 refine Yc ?_
 unfold YS at h
 rcases Classical.em (WK ht=true) with hk|hk
 ·rw [if_neg (by rw [hk];decide)] at h
  obtain ⟨hk1,hk2⟩:0<=ht∧ht<=6:=by
   unfold WK at hk
   simp only [Nf,decide_eq_true_eq] at hk
   exact hk
  have l3:((1048576:Int)<(m.length:Int))=False:=qy
  simp+contextual only [hk,l3,↓nO,↓XP,qh,XW1,↓XH]
  refine fun _ _=>zt (b:=sig) ?_
  have hle:=zn (b:=sig)
  obtain ⟨i0,n0,e0,hdec⟩:∃i0 n0 e0,qD sig=(i0,n0,e0):=⟨_,_,_,rfl⟩
  rw [hdec] at h hle ⊢
  dsimp only at h hle ⊢
  rcases Classical.em (e0=0) with he|he
  ·rw [he] at h ⊢
   clear he hdec
   rw [if_neg (fun c=>c rfl)] at h
   have n1:((0:Int)<=(n0:Int))=True:=qo
   have n2:((n0:Int)<=(sig.length:Int))=True:=qo
   obtain ⟨t,rfl⟩:=Nh hk1
   rw [Nc] at h
   obtain ⟨hp1,hp2,hp3⟩:=ua (ht:=t) (by omega)
   have hrl:(sig.drop n0).length<=sig.length:=by rw [List.length_drop];omega
   have hw1:IntKind.i64.wrap (68+(t:Int))=68+(t:Int):=qi (by omega) (by omega)
   have hw2:IntKind.i64.wrap ((68+(t:Int))*16)=(68+(t:Int))*16:=qi (by omega) (by omega)
   have htk:List.take sig.length sig=sig:=List.take_length
   simp+contextual only [n1,n2,hw1,hw2,hp1,htk,Nc,↓nO,↓XP,qh,XW1]
   generalize sig.drop n0=rest at h hrl ⊢
   intro hii _ _ zV h10 _ dk h13
   obtain ⟨n104,f10⟩:=h10
   obtain ⟨n1310,n134,f13⟩:=h13
   refine ⟨fun c=>?_,fun c1=>⟨fun c=>?_,fun c2=>⟨fun c=>?_,fun c3=>?_⟩⟩⟩
   ·rw [if_pos (.inl c)] at h;exact h
   ·rw [if_pos (.inr (.inl c))] at h;exact h
   ·rw [if_pos (.inr (.inr (by omega)))] at h;exact h
   have hrl2:rest.length=(68+t)*16:=by omega
   rw [if_neg (by omega)] at h
   clear c3 hrl
   obtain ⟨i,rfl⟩:=Nh (show 0<=i0 by omega)
   rw [Nc] at h
   rw [show eQ pub i m rest t=QU rest i (jE 1 [jE 9 [jm (Yp i (uL pub i m) rest (oK (uL pub i m) 64)) 68]]) t from rfl] at h
   have hi2:i<2 ^ t:=by omega
   intro cn h14
   obtain ⟨n1413,n1410,n144,f14⟩:=h14
   have hg3:Kst ((cn,.cells [.fn 50 [.ptr dk 0]])::(dk,.cells [.slc (rest.map ql)])::(zV,.cells [.int .i64 (i:Int)])::(b4,.cells (jf pub))::H):=
    (((hg.push h4).push ⟨Ne.symm n104,f10⟩).push ⟨Ne.symm n1310,Ne.symm n134,f13⟩).push ⟨Ne.symm n1413,Ne.symm n1410,Ne.symm n144,f14⟩
   simp+contextual only [qt,qg,n104,n1310,n134,n1410,n144,hp,qI hp,j3,↓XP,qh,XW1]
   refine fun _=>pZ hg3 hp hm ?_
   have nd:=Qn pub i m
   generalize uL pub i m=d at nd h
   simp+contextual only [↓XP,qp,XW1]
   refine Ua nd ?_
   generalize oK d 64=s at h
   simp+contextual only [yY,↓nO,↓XP,qh,XW1]
   intro _ AT h15
   obtain ⟨n1514,n1513,n1510,n154,f15⟩:=h15
   have hg4:=hg3.push (b:=AT) (o:= .cells [.slc (vb (vU d s))]) ⟨Ne.symm n1514,Ne.symm n1513,Ne.symm n1510,Ne.symm n154,f15⟩
   have hv4:VrfH ((AT,.cells [.slc (vb (vU d s))])::(cn,.cells [.fn 50 [.ptr dk 0]])::(dk,.cells [.slc (rest.map ql)])::(zV,.cells [.int .i64 (i:Int)])::(b4,.cells (jf pub))::H) i rest d s zV dk cn AT:=
    ⟨by rw [qg n1510,qg n1410,qg n1310,ji],⟨_,rfl,by rw [qg n1513,qg n1413,ji]⟩,by rw [qg n1514,ji],⟨_,rfl,ji⟩⟩
   have hcl:∀c,c<68+t->(vE rest c).length=16:=fun c hc=>K8 (by omega)
   have hvl:∀c,(if c<68 then Yp i d rest s c else pub).length=16:=fun c=>by
    split
    ·exact yG (hcl c (by omega)) _
    ·exact hp
   rw [show jm (Yp i d rest s) 68=jm (fun c=>if c<68 then Yp i d rest s c else pub) 68 from KC fun k hk=>(if_pos hk).symm] at h
   refine iO (val:=fun c=>if c<68 then Yp i d rest s c else pub) hg4 hvl (fun n hn2 H1 hs1 R1 hr1=>BV (hg4.sub hs1) (hv4.sub hs1) hn2 (by omega) (by omega) (by rw [if_pos hn2] at hr1;exact hr1)) ?_
   generalize hv0:jE 1 [jE 9 [jm (fun c=>if c<68 then Yp i d rest s c else pub) 68]]=v0 at h ⊢
   have h10:v0.length=16:=by rw [<-hv0];exact jO _ _
   clear hv0 hvl
   simp+contextual only [qt,h10,↓XP,qh,XW1,qb]
   intro rA h16
   obtain ⟨n1615,n1614,n1613,n1610,n164,f16⟩:=h16
   refine XW.loopS hmm 90 (fun l:Nat=>[(1,.int .i64 (t:Int)),(4,.ptr b4 0),(10,.ptr zV 0),(14,.ptr cn 0),(16,.ptr rA 0),(64,.int .i64 (t:Int)),(65,.int .i64 (l:Int))]) (fun l=>(rA,.cells (jf (QU rest i v0 l)))::(AT,.cells [.slc (vb (vU d s))])::(cn,.cells [.fn 50 [.ptr dk 0]])::(dk,.cells [.slc (rest.map ql)])::(zV,.cells [.int .i64 (i:Int)])::(b4,.cells (jf pub))::H) (fun l=>t - l) (fun l=>l<=t) 0 (Nat.zero_le _) ⟨rfl,rfl,rfl,rfl,rfl,rfl,rfl,rfl,trivial⟩ rfl ?_
   intro l z hl K hN hE hR
   dsimp only [fl,zz,qa,qb]
   have hul:=JO (rest:=rest) (i:=i) h10 l
   have hst:QU rest i v0 (l+1)=if i / 2 ^ l % 2=1 then jE 2 [vE rest (68+l),QU rest i v0 l] else jE 2 [QU rest i v0 l,vE rest (68+l)]:=rfl
   have h3:l=t->R (.tup [.int .i64 (if QU rest i v0 l=pub then ((i:Int),(0:Int)) else (0,10)).1,.int .i64 (if QU rest i v0 l=pub then ((i:Int),(0:Int)) else (0,10)).2]) H:=fun e=>by rw [e];exact h
   generalize QU rest i v0 l=u at hul hst h3 ⊢
   have hg5:=hg4.push (b:=rA) (o:= .cells (jf u)) ⟨Ne.symm n1615,Ne.symm n1614,Ne.symm n1613,Ne.symm n1610,Ne.symm n164,f16⟩
   have hv5:=hv4.push (b:=rA) (o:= .cells (jf u)) ⟨Ne.symm n1615,Ne.symm n1614,Ne.symm n1613,Ne.symm n1610,Ne.symm n164,f16⟩
   have hud:(jf u).drop 16= []:=List.drop_of_length_le (by rw [qt,hul];exact Ng _)
   rcases Classical.em (l<t) with hlt|hlt
   ·have hlt':((l:Int)<(t:Int))=True:=qo
    have hl0:((0:Int)<=(l:Int))=True:=qo
    have hbit:=nS (i:=i) (by omega) hlt hi2 hp2
    have hw3:IntKind.i64.wrap (68+(l:Int))=((68+l:Nat):Int):=by rw [qi (by omega) (by omega)];omega
    have hc:=hcl (68+l) (by omega)
    have hn2:=JO (rest:=rest) (i:=i) h10 (l+1)
    rcases Nat.mod_two_eq_zero_or_one (i / 2 ^ l) with hy|hy
    case' inl=>
     have hy2:(((i / 2 ^ l % 2:Nat):Int)=1)=False:=qy
     rw [if_neg (by omega)] at hst
    case' inr=>
     have hy2:(((i / 2 ^ l % 2:Nat):Int)=1)=True:=qo
     rw [if_pos hy] at hst
    all_goals simp+contextual only [qt,qg,n1310,n1410,qg,n1514,n1510,qg,n1614,n1610,hlt',hl0,hbit,hy2,hw3,hul,qI hul,j3,Nc,↓nO,↓XP,qh,XW1]
    all_goals refine fun _=>⟨_,fun H1 hs1=>by
     obtain ⟨x,hx,gx⟩:=(hv5.sub hs1).r
     exact aN hx gx (by omega) (by omega) ⟨rfl,rfl⟩,?_⟩
    all_goals generalize vE rest (68+l)=o at hc hst ⊢
    all_goals simp+contextual only [qt,hul,qI hul,j3,↓XP,qh,XW1]
    all_goals first
     |refine ⟨_,fun H1 hs1=>ZF (a:=o) (b:=u) (hg5.sub hs1) hc hul ⟨rfl,rfl⟩,?_⟩
     |refine ⟨_,fun H1 hs1=>ZF (a:=u) (b:=o) (hg5.sub hs1) hul hc ⟨rfl,rfl⟩,?_⟩
    all_goals rw [<-hst]
    all_goals generalize hnv:QU rest i v0 (l+1)=nv at hn2 ⊢
    all_goals simp+contextual only [qt,hn2,hul,hud,↓XP,qh,XW1]
    all_goals rw [qj (by omega)]
    all_goals subst hnv
    all_goals exact hN (l+1) _ _ (by omega) (by omega) ⟨rfl,rfl,rfl,rfl,rfl,rfl,rfl,rfl,trivial⟩ (qz rfl)
   ·have hlt2:l=t:=by omega
    have hlt':((l:Int)<(t:Int))=False:=qy
    have h:=h3 hlt2
    simp+contextual only [hlt',↓nO,↓XP,qp]
    apply hE
    clear hE hN hR h3 hst
    have hfu:=K7 hul
    have hfp:=K7 hp
    have hsk:=Vr (a:=u) (b:=pub)
    have heq:=dK (a:=u) (b:=pub)
    simp+contextual only [qt,qg,n104,n1310,n134,n1410,n144,qg,n1510,n154,qg,n1610,n164,hul,hp,qI hul,qI hp,j3,hfu,hfp,hsk,heq,↓nO,↓XP,qh,XW1]
    rcases Classical.em (u=pub) with e|e
    ·rw [if_pos e] at h
     exact ⟨fun c=>absurd e c,fun _ _=>h⟩
    ·rw [if_neg e] at h
     exact ⟨fun _=>h,fun c=>absurd c e⟩
  ·rw [if_pos he] at h
   simp+contextual only [eq_false he,↓nO,↓XP,qh,XW1]
   intros
   exact h
 ·have hk':WK ht=false:=by simpa using hk
  rw [if_pos hk'] at h
  simp+contextual only [hk',↓XP,qp,XW1,↓XH]
  exact h
end Go.Proofs.YtgopigkdcmhbbaaGreatDoor
end
noncomputable section
namespace Go.Proofs.YtgopigkdcmhbbaaGreatDoor
open Go.Xs
open Go Go.Aw
def dA:=yy Tryz.f17
def V17:=PLift.up (aI (aI (@unf (dA 19) (r [x,u,u,v,u]) rfl) (aI (@unf (dA 20) (r [u,v,u]) rfl) (@unf (dA 15) (X (O (R [u,u,u,u,v,v,u,u,u] (dA 19))) (dA 20)) rfl))) (aI (@unf (dA 9) (X (R [u,u,u] I) (dA 15)) rfl) (aI (@unf (dA 4) (X (R [u] (U (dA 9))) (F [v,u])) rfl) (@unf (dA 0) (R [u] (R [u] (dA 4))) rfl))))
theorem Di:type_of% V17.down:=V17.down
theorem Cd:Bt 17 23 (dA 0) [(.tmp 2)]:=bt Tryz.func17 rfl
def dh:=yy Tryz.f18
def V18:=PLift.up (aI (aI (@unf (dh 5) (R [u,u] (T (F [v,u]))) rfl) (aI (@unf (dh 22) (X (R [u,u,u,z 40,z 40,z 40,z 40,z 40,u] (T (F [u]))) (F [u])) rfl) (@unf (dh 20) (X (G [u,u,u,u,u,u,u,u,u,u,u,u,u,u,u,u,u,u,v,v,u,u]) (dh 22)) rfl))) (aI (@unf (dh 12) (X (R [u,u,u,u,u] (T (F [u]))) (dh 20)) rfl) (aI (@unf (dh 2) (X (R [u,v,u] (dh 5)) (dh 12)) rfl) (@unf (dh 0) (R [u,u] (dh 2)) rfl))))
theorem B1:type_of% V18.down:=V18.down
theorem BZ:Bt 18 47 (dh 0) [(.tmp 4)]:=bt Tryz.func18 rfl
def dw:=yy Tryz.f19
def V19:=PLift.up (aI (aI (@unf (dw 22) (X (R [u,u,u,z 40,z 40,z 40,z 40,z 40,u] (T (F [u]))) (F [u])) rfl) (aI (@unf (dw 20) (X (G [u,u,u,u,u,u,u,u,u,u,u,u,u,u,u,u,u,u,v,v,u,u]) (dw 22)) rfl) (@unf (dw 12) (X (R [u,u,u,u,u] (T (F [u]))) (dw 20)) rfl))) (aI (@unf (dw 4) (X (R [u,u] (T (F [v,u]))) (dw 12)) rfl) (aI (@unf (dw 2) (R [u,v,u] (dw 4)) rfl) (@unf (dw 0) (R [u,u] (dw 2)) rfl))))
theorem AS:type_of% V19.down:=V19.down
theorem b19:Bt 19 47 (dw 0) [(.tmp 4)]:=bt Tryz.func19 rfl
end Go.Proofs.YtgopigkdcmhbbaaGreatDoor
end
section
namespace Go.Proofs.YtgopigkdcmhbbaaGreatDoor
open Go Go.Aw
variable {R:D->AH->Prop}
abbrev cu:=List UInt8×Int
def fG (x:cu):List D:=jf x.1++ [.int .i64 x.2]
def oz (l:List cu):List (List D):=l.map fG
theorem oY:(oz l).length=l.length:=by simp [oz]
theorem Zb (h:i<l.length):(oz l).getD i []=fG (l.getD i ([],0)):=by simp [oz,List.getD,h]
theorem Wc (h:w.length=16) (x:D):List.drop 16 (jf w++ [x])= [x]:=by
 rw [List.drop_append_of_le_length (by rw [qt,h];exact Ng _),List.drop_of_length_le (by rw [qt,h];exact Ng _),Nj]
noncomputable def EZ (l:List cu) (p:Pt):Int:=
 if jl p≠0 then jl p
 else if (l.length:Int)<=p.o then 6
 else if (YS (l.getD p.o.toNat ([],0)).1 (l.getD p.o.toNat ([],0)).2 (jK (bare p)) p.sl).2≠0∨(YS (l.getD p.o.toNat ([],0)).1 (l.getD p.o.toNat ([],0)).2 (jK (bare p)) p.sl).1≠p.s - 1 then 10 else 0
theorem Kg (hg:Kst0 H) (hl:∀x∈l,x.1.length=16) (hp:Fit p) (hs:p.sl.length<=100000) (h:R (.int .i64 (EZ l p)) H):ACall Tryz.prog 19 [.slc (oz l),.agg p.d] H R:=by
 refine b19 fun hf=>?_
 have hbig:=qk
 have hd:=@dE p
 simp+contextual only [↓AS,hd,↓AS,↓XP,qh,qa,qb]
 intro b3 h3
 simp only [<-hd]
 refine Uf hp ?_
 unfold EZ at h
 rcases Classical.em (jl p=0) with hv|hv
 ·obtain ⟨hh,hml⟩:=QA hv
  obtain ⟨ho0,ho7,hs1,hs16,_⟩:=hh
  rw [if_neg (fun c=>c hv)] at h
  rw [hv]
  rcases Classical.em ((l.length:Int)<=p.o) with ho|ho
  ·rw [if_pos ho] at h
   simp+contextual only [oY,hd,eq_true ho,↓AS,↓XP,qh]
   exact fun _ _ _=>h
  ·rw [if_neg ho] at h
   obtain ⟨k,hk⟩:=Nh ho0
   have hkl:k<l.length:=by omega
   have hkt:p.o.toNat=k:=by omega
   rw [hkt] at h
   have g:=Zb hkl
   have ha:=hl _ (show l.getD k ([],0)∈l by simp [List.getD,hkl])
   obtain ⟨a,ht⟩:∃a:cu,l.getD k ([],0)=a:=⟨_,rfl⟩
   rw [ht] at h g ha
   obtain ⟨a,e⟩:=a
   dsimp only [fG] at h g ha
   have c0:((0:Int)<=p.o)=True:=qo
   have c1:(p.o<(l.length:Int))=True:=qo
   have c2:((l.length:Int)<=p.o)=False:=qy
   have hw:IntKind.i64.wrap (p.s - 1)=p.s - 1:=qi (by omega) (by omega)
   simp+contextual only [oY,hd,hkt,c0,c1,c2,g,vf ha,JT ha,Wc ha,↓AS,↓XP,qh,XW1,qb,qe]
   refine fun _ _ _ _=>⟨_,fun H1 hs=>fT hp ⟨rfl,rfl⟩,?_⟩
   generalize jK (bare p)=msg at hml h ⊢
   have hg3:=hg.push (o:= .cells [D.int IntKind.i64 p.o,D.int IntKind.i64 p.s,D.int IntKind.i64 p.day,D.slc (qv p.needs),D.slc (qw p.ops),D.str p.sl]) h3
   simp+contextual only [↓XP,qh]
   refine fun _ _=>⟨_,fun H1 hs1=>AC (hg3.sub hs1) ha (by omega) hs ⟨rfl,rfl⟩,?_⟩
   obtain ⟨r1,r2,hr⟩:∃r1 r2,YS a e msg p.sl=(r1,r2):=⟨_,_,rfl⟩
   rw [hr] at h ⊢
   dsimp only at h ⊢
   simp+contextual only [hw,↓AS,↓XP,qh,XW1]
   refine fun _ _=>⟨fun c _=>⟨fun c2=>?_,fun c2=>?_⟩,fun c=>?_⟩
   ·rw [if_pos (.inr c2)] at h;exact h
   ·rw [if_neg (fun d=>d.elim (fun d=>d c) (fun d=>d c2))] at h;exact h
   ·rw [if_pos (.inl c)] at h;exact h
 ·rw [if_pos hv] at h
  generalize jl p=e at hv h ⊢
  simp+contextual only [hd,hv,↓AS,↓XP,qp]
  exact fun _=>h
theorem Gh (hg:Kst H) (hl:∀x∈l,x.1.length=16) (hp:Fit p) (hs:p.sl.length<=100000) (h:R (.int .i64 (EZ l p)) H):ACall Tryz.prog 18 [.slc (oz l),.agg p.d] H R:=by
 refine BZ fun hf=>?_
 have hbig:=qk
 have hd:=@dE p
 simp+contextual only [↓B1,hd,↓B1,↓XP,qh,qa,qb]
 intro b3 h3
 simp only [<-hd]
 refine zd hp ?_
 unfold EZ at h
 rcases Classical.em (jl p=0) with hv|hv
 ·obtain ⟨hh,hml⟩:=QA hv
  obtain ⟨ho0,ho7,hs1,hs16,_⟩:=hh
  rw [if_neg (fun c=>c hv)] at h
  rw [hv]
  rcases Classical.em ((l.length:Int)<=p.o) with ho|ho
  ·rw [if_pos ho] at h
   simp+contextual only [oY,hd,eq_true ho,↓B1,↓XP,qh]
   exact fun _ _ _=>h
  ·rw [if_neg ho] at h
   obtain ⟨k,hk⟩:=Nh ho0
   have hkl:k<l.length:=by omega
   have hkt:p.o.toNat=k:=by omega
   rw [hkt] at h
   have g:=Zb hkl
   have ha:=hl _ (show l.getD k ([],0)∈l by simp [List.getD,hkl])
   obtain ⟨a,ht⟩:∃a:cu,l.getD k ([],0)=a:=⟨_,rfl⟩
   rw [ht] at h g ha
   obtain ⟨a,e⟩:=a
   dsimp only [fG] at h g ha
   have c0:((0:Int)<=p.o)=True:=qo
   have c1:(p.o<(l.length:Int))=True:=qo
   have c2:((l.length:Int)<=p.o)=False:=qy
   have hw:IntKind.i64.wrap (p.s - 1)=p.s - 1:=qi (by omega) (by omega)
   simp+contextual only [oY,hd,hkt,c0,c1,c2,g,vf ha,JT ha,Wc ha,↓B1,↓XP,qh,XW1,qb,qe]
   refine fun _ _ _ _=>⟨_,fun H1 hs=>iN hp ⟨rfl,rfl⟩,?_⟩
   generalize jK (bare p)=msg at hml h ⊢
   have hg3:=hg.push (o:= .cells [D.int IntKind.i64 p.o,D.int IntKind.i64 p.s,D.int IntKind.i64 p.day,D.slc (qv p.needs),D.slc (qw p.ops),D.str p.sl]) h3
   simp+contextual only [↓XP,qh]
   refine fun _ _=>⟨_,fun H1 hs1=>sY (hg3.sub hs1) ha (by omega) hs ⟨rfl,rfl⟩,?_⟩
   obtain ⟨r1,r2,hr⟩:∃r1 r2,YS a e msg p.sl=(r1,r2):=⟨_,_,rfl⟩
   rw [hr] at h ⊢
   dsimp only at h ⊢
   simp+contextual only [hw,↓B1,↓XP,qh,XW1]
   refine fun _ _=>⟨fun c _=>⟨fun c2=>?_,fun c2=>?_⟩,fun c=>?_⟩
   ·rw [if_pos (.inr c2)] at h;exact h
   ·rw [if_neg (fun d=>d.elim (fun d=>d c) (fun d=>d c2))] at h;exact h
   ·rw [if_pos (.inl c)] at h;exact h
 ·rw [if_pos hv] at h
  generalize jl p=e at hv h ⊢
  simp+contextual only [hd,hv,↓B1,↓XP,qp]
  exact fun _=>h
def VU (n:Nat):List cu:=(List.range n).map fun (i:Nat)=>(jp (oy (i:Int) 32) 2 0,(2:Int))
theorem ef (n:Nat):(VU n).length=n:=by simp [VU]
theorem GT:∀x∈VU n,x.1.length=16:=fun x hx=>by
 obtain ⟨k,_,rfl⟩:=List.mem_map.1 hx
 exact jI _ _ _
theorem bH (n:Nat):oz (VU n)++ [jf (jp (oy (n:Int) 32) 2 0)++ [.int .i64 2]]=oz (VU (n+1)):=by simp [VU,oz,fG,Ni]
theorem lr (h:∀x∈l,x.1.length=16):∀y∈oz l,y.length=17:=fun y hy=>by
 obtain ⟨x,hx,rfl⟩:=List.mem_map.1 hy
 exact vf (h x hx) _
theorem cO (hg:Kst0 H) (hn:n<=100) (h:R (.own (oz (VU n))) H):ACall Tryz.prog 17 [.int .i64 (n:Int)] H R:=by
 refine Cd fun hf=>?_
 have hbig:=qk
 simp+contextual only [↓Di,↓Di,↓XP,qp,qa]
 refine XW.loopS hmm 23 (fun i:Nat=>[(0,.int .i64 (n:Int)),(3,.own (oz (VU i))),(4,.int .i64 (i:Int))]) (fun _=>H) (fun i=>n - i) (fun i=>i<=n) 0 (Nat.zero_le _) ⟨rfl,rfl,rfl,rfl,trivial⟩ rfl ?_
 intro i z hi K hN hE hR
 dsimp only [fl,zz,qa,qb]
 rcases Classical.em (i<n) with hlt|hlt
 ·have hlt':((i:Int)<(n:Int))=True:=qo
  simp+contextual only [hlt',↓Di,↓XP,qp]
  refine sZ (by omega) (by omega) ?_
  simp+contextual only [↓XP,qp]
  refine fun _=>Jo hg ?_
  have hok:v8 (oy (i:Int) 32) 2=true:=decide_eq_true ⟨W8 _ _,by decide,by decide⟩
  rw [Ky hok (by decide)]
  have hst:=bH i
  have nr:=jI (oy (i:Int) 32) 2 0
  rw [show Int.toNat 2=2 from rfl]
  generalize jp (oy (i:Int) 32) 2 0=w at hst nr ⊢
  simp+contextual only [oY,ef,↓Di,↓XP,qh,XW1,qb,qc,qe]
  intro _ b5 h5
  simp+contextual only [vf nr,ZL nr,U0,hst,qp,XW1]
  rw [qj (by omega)]
  exact ⟨lr GT,by omega,hN (i+1) _ _ (by omega) (by omega) ⟨rfl,rfl,rfl,rfl,trivial⟩ (kK rfl)⟩
 ·have hin:i=n:=by omega
  have hlt':((i:Int)<(n:Int))=False:=qy
  simp+contextual only [hlt',↓Di,↓XP,qp]
  apply hE
  rw [hin]
  simp+contextual only [↓XP,qp,XW1]
  exact h
def Yn (o:Int) (i:Nat):Int:=IntKind.u8.wrap (IntKind.i64.wrap (65+Int.tmod (IntKind.i64.wrap (IntKind.i64.wrap (7*o)+i)) 60))
def Jn (o:Int) (n:Nat):List UInt8:=(List.range n).map fun (i:Nat)=>UInt8.ofNat (Yn o i).toNat
theorem bQ (o:Int) (n:Nat):(Jn o n).length=n:=by simp [Jn]
theorem mA (h:R (.str (Jn o 32)) H):ACall Tryz.prog 8 [.int .i64 o] H R:=by
 refine b8 fun hf=>?_
 have hbig:=qk
 simp+contextual only [↓U8,↓U8,↓XP,qp,qa]
 refine XW.loopS hmm 21 (fun i:Nat=>[(0,.int .i64 o),(3,.str (Jn o i)),(4,.int .i64 (i:Int))]) (fun _=>H) (fun i=>32 - i) (fun i=>i<=32) 0 (Nat.zero_le _) ⟨rfl,rfl,rfl,rfl,trivial⟩ rfl ?_
 intro i z hi K hN hE hR
 dsimp only [fl,zz,qa,qb]
 by_cases hlt:i<32
 ·have hlt':((i:Int)<32)=True:=qo
  have hss:Jn o i++ [UInt8.ofNat (Yn o i).toNat]=Jn o (i+1):=by simp [Jn,Ni]
  have e0:IntKind.u8.wrap (IntKind.i64.wrap (65+Int.tmod (IntKind.i64.wrap (IntKind.i64.wrap (7*o)+i)) 60))=Yn o i:=rfl
  have e6:Yn o i=((UInt8.ofNat (Yn o i).toNat).toNat:Int):=by
   unfold Yn
   generalize IntKind.i64.wrap (65+Int.tmod (IntKind.i64.wrap (IntKind.i64.wrap (7*o)+i)) 60)=z
   have hw:IntKind.u8.wrap z=z % 256:=by
    simp only [IntKind.wrap]
    rw [if_neg (by simp [IntKind.signed])]
    rfl
   rw [hw]
   simp only [UInt8.toNat_ofNat']
   omega
  rw [e6] at e0
  generalize UInt8.ofNat (Yn o i).toNat=c at e0 hss
  have e7:unbyte [.int .u8 (c.toNat:Int)]=c:=by
   have:=unb [c]
   simpa [ql] using this
  have e8:yQ [.int .u8 (c.toNat:Int)]:=isb [c] _ (by simp [ql])
  simp+contextual only [Nat.mul_one,hlt',e0,e7,hss,↓U8,↓XP,qh,XW1,qe]
  rw [qj (by omega)]
  exact ⟨by decide,e8,fun _=>⟨by rw [bQ];omega,hN (i+1) _ _ (by omega) (by omega) ⟨rfl,rfl,rfl,rfl,trivial⟩ (qz rfl)⟩⟩
 ·have hi2:i=32:=by omega
  have hlt':((i:Int)<32)=False:=qy
  simp+contextual only [hlt',↓U8,↓XP,qp]
  apply hE
  rw [hi2]
  simp+contextual only [Nb,↓XP,qp,XW1]
  exact h
theorem iJ {seed m:List UInt8} {ht i:Nat} (hi:wP .i64 (i:Int)):(JB seed ht i m).length<=9+16*68+16*ht:=by
 have h1:=kL hi
 unfold JB
 simp only [Nd,wO (VR seed (i:Int) _ _),wO (QK seed i)]
 omega
theorem A3 {seed:List UInt8} {n:Nat} {p:Pt} (hp:Sz n p) (h:(Km seed 2 p).2=0):(Km seed 2 p).1=Q8 seed 2 p∧Sz n (Q8 seed 2 p)∧0<p.ops.length:=by
 have hv:jl p=0:=by
  unfold Km at h
  by_cases hv:jl p=0
  ·exact hv
  ·rw [if_pos hv] at h
   exact h
 obtain ⟨hh,_⟩:=QA hv
 have hne:p.ops≠ []:=fun e=>by
  unfold jl at hv
  rw [if_neg (fun c=>c hh)] at hv
  repeat' split at hv
  all_goals first|omega|simp_all
 have hs:p.s<=16:=hh.2.2.2.1
 have hs1:1<=p.s:=hh.2.2.1
 have hl:(Q8 seed 2 p).sl.length<=2000:=by
  have:=@iJ seed (jK (bare p)) 2 (p.s - 1).toNat (by rw [kX];omega)
  have e:(Q8 seed 2 p).sl=JB seed 2 (p.s - 1).toNat (jK (bare p)):=rfl
  rw [e]
  omega
 refine ⟨?_,⟨hp.ops,hp.needs,hp.ids,hp.name,hp.text,hl⟩,List.length_pos_iff.2 hne⟩
 unfold Km at h ⊢
 rw [if_neg (fun c=>c hv)] at h ⊢
 split at h
 ·simp at h
 ·rename_i h2
  rw [if_neg h2]
  split at h
  ·simp at h
  ·rename_i h3
   rw [if_neg h3]
end Go.Proofs.YtgopigkdcmhbbaaGreatDoor
end
noncomputable section
namespace Go.Proofs.YtgopigkdcmhbbaaGreatDoor
open Go.Xs
open Go Go.Aw
def y4:=yy Tryz.f4
def x4_s9:XC:=(R [f 26 9 1 30,l 3 30 31,b (.call ⟨(.builtin .min),#[t 31,i 5],#[3,3]⟩) 32,f 26 9 1 33,w 3 33 32] (y4 12))
def x4_s10:XC:=(.seq (.seq (y4 6) (C 23 (y4 8) .skip)) x4_s9)
def x4_s11:XC:=(.seq (y4 3) x4_s10)
def x4:XC:=(R [a (.assign (.const (.bool false))) 8] x4_s11)
def V4r:=PLift.up (aI (@unf (y4 6) (r [u,u,u,u]) rfl) (@unf (y4 3) (r [u,u,v,u,u]) rfl))
theorem YM:type_of% V4r.down:=V4r.down
def V4:=PLift.up (aI (aI (aI (@unf (y4 8) (r [u,u,u,u,u,v,u]) rfl) (aI (@unf (y4 32) (X (G [u,u,u,u,u,u,u,u,y 73,v,u]) .ret) rfl) (@unf (y4 38) (X (G [u,u,u,u,u,u,u,u,y 90,y 90,y 90,y 90,y 90,y 90,y 90,u,u,y 99,v,u]) .ret) rfl))) (aI (@unf (y4 36) (R [u,u,u,u,u,u,v,u,u] (y4 38)) rfl) (aI (@unf (y4 26) (R [u,u,u,v,u] (X (R [u,u] (T (y4 32))) (y4 36))) rfl) (@unf (y4 18) (X (R [u,u,u,u,z 54,z 54,z 54,z 54,u] (T (F [u]))) (y4 26)) rfl)))) (aI (aI (@unf (y4 16) (R [u,u,u,u,u,v,v,u,u,u] (y4 18)) rfl) (aI (@unf (y4 14) (R [u,u,u,u,v,v,u,u,u] (y4 16)) rfl) (@unf (y4 12) (R [u,u,u,v,u,u] (y4 14)) rfl))) (aI (@unf _ _ x4_s9.eq_1) (aI (@unf _ _ x4_s10.eq_1) (@unf _ _ x4_s11.eq_1)))))
theorem U4:type_of% V4.down:=V4.down
theorem b4:Bt 4 102 x4 [(.tmp 8)]:=bt Tryz.func4 rfl
def y5:=yy Tryz.f5
def DY:XC:=(.seq (.block 1 (.reg [N 21 121,f 35 11 0 122,l 33 122 123,m 22 124,a (.call ⟨(.value (.func 23)),#[t 123,t 124,(.const (.string ⟨#[111,116,104,101,114]⟩))],#[33,3,9]⟩) 125,m 2 126,a (k 16 #[t 126,i 9] #[3,3]) 127,q .sub 3 127 2 128,a (.build 35 #[(0,(t 125)),(1,(t 128))]) 129,a (.buildSlice 49 1 #[(0,(t 129))]) 130,b (.call ⟨(.builtin .append),#[t 121,t 130],#[49,49,0]⟩) 131,n 131 21])) (y5 56))
def C8:XC:=(.seq (.seq (y5 49) (C 118 .skip (.exit 0))) DY)
def Dp:XC:=(.seq (.gh (y5 60)) (y5 61))
def DX:XC:=(.seq (y5 58) Dp)
def DS:XC:=(R [Z 21] (.seq (R [A 0 22] (.block 0 (.loop C8))) DX))
def CU:XC:=(.seq (.seq (y5 34) (C 114 (R [a (.assign (.const (.bool false))) 6] .ret) .skip)) DS)
def CD:XC:=(.seq (y5 31) CU)
def Cz:XC:=(.seq (y5 29) CD)
def xa:XC:=(R [L 26 7 57,a (.alloc 26) 16,w 26 16 57] (R [f 26 16 5 58,s (.store 9 (t 58) (.const (.string ⟨#[]⟩)))] Cz))
def Af:XC:=(.seq (y5 23) xa)
def sH:XC:=(.seq (y5 19) (R [L 26 9 53,a (.alloc 26) 15,w 26 15 53] Af))
def Au:XC:=(.seq (y5 17) sH)
def rT:XC:=(.seq (y5 15) Au)
def Am:XC:=(.seq (y5 13) rT)
def At:XC:=(.seq (R [f 26 7 1 28,l 3 28 29,q .gtr 3 29 4 30] (C 30 (R [b (k 15 #[] #[]) 31,n 31 6] .ret) .skip)) Am)
def tc:XC:=(.seq (y5 3) At)
def x5:XC:=(R [a (.assign (.const (.bool false))) 6] tc)
theorem b5:Bt 5 164 x5 [(.tmp 6)]:=bt Tryz.func5 rfl
end Go.Proofs.YtgopigkdcmhbbaaGreatDoor
end
section
namespace Go.Proofs.YtgopigkdcmhbbaaGreatDoor
open Go Go.Aw
theorem HY {l:List Int} {a how bb:Int} {H:AH} {R:D->AH->Prop} (hg:Kst H) (hg0:Kst0 H) (h:R (.bool true) H):
  ACall Tryz.prog 4 [.slc (ints l),.int .i64 a,.int .i64 how,.int .i64 bb] H R:=by
 refine b4 fun hf=>?_
 have hbig:=qk
 obtain ⟨n,hn,hn4⟩:∃n:Nat,IntKind.i64.wrap (around bb 2+2)=(n:Int)∧n<=4:=by
  obtain ⟨r1,r2⟩:=j4 (n:=bb) (most:=2) (by omega)
  exact ⟨(around bb 2+2).toNat,by rw [qi (by omega) (by omega)];omega,by omega⟩
 simp+contextual only [x4,↓U4,↓YM,↓XP,qp,qa,qb]
 refine lZ fun p hp hne=>?_
 have hd:=@dE p
 simp+contextual only [hd,↓U4,↓YM,↓XP,qh,XW1,qb]
 intro b9 h9
 refine ⟨by decide,qL (by decide) ?_⟩
 by_cases hm:around (IntKind.i64.wrap (how.tdiv 20)) 3=0
 case' pos=>
  simp+contextual only [hm,↓U4,↓YM,↓XP,qh,XW1,qb]
  refine fun _=>⟨by decide,GW (n:=20) (by omega) hp hne fun q hq=>?_⟩
  have hdq:=@dE q
  simp+contextual only [Nat.reduceLT,hdq,↓U4,↓YM,↓XP,qh,XW1,qb]
  intros
  clear hp hne hd hdq hm
 case' neg=>
  simp+contextual only [Nat.reduceLT,eq_false hm,↓U4,↓YM,↓XP,qh,qb]
  intros
  have hq:Sz (20+14) p:=hp.le (by omega)
  clear hp hne hd hm
  generalize p=q at hq ⊢
 all_goals refine mA ?_
 all_goals generalize Jn q.o 32=sd
 all_goals generalize (if (5:Int)<q.s then 5 else q.s)=s5
 all_goals obtain ⟨w,hz,hwd⟩:∃w:Pt,Sz 34 w∧ [D.int .i64 q.o,.int .i64 s5,.int .i64 q.day,.slc (qv q.needs),.slc (qw q.ops),.str q.sl]=w.d:=⟨{q with s:=s5},⟨hq.ops,hq.needs,hq.ids,hq.name,hq.text,hq.sl⟩,rfl⟩
 all_goals rw [hwd]
 all_goals have hd:=@dE w
 all_goals clear hq hwd
 all_goals simp+contextual only [hd,↓U4,↓YM,↓XP,qh,XW1,qb,qe]
 all_goals intro _ zV h10
 all_goals obtain ⟨n10,f10⟩:=h10
 all_goals have g1:Kst ((zV,AO.cells [.str sd,.int .i64 2])::(b9,AO.cells w.d)::H):=(hg.push h9).push ⟨Ne.symm n10,f10⟩
 all_goals have g2:Kst0 ((zV,AO.cells [.str sd,.int .i64 2])::(b9,AO.cells w.d)::H):=(hg0.push h9).push ⟨Ne.symm n10,f10⟩
 all_goals refine A6 (p:=w) g1 (hz.fit (by omega)) ?_
 all_goals obtain ⟨qs,qe,hsg⟩:∃qs qe,Km sd 2 w=(qs,qe):=⟨_,_,rfl⟩
 all_goals rw [hsg]
 all_goals have hds:=@dE qs
 all_goals simp+contextual only [qg,n10,hds,↓U4,↓YM,↓XP,qh,XW1,qb]
 all_goals intro _ AN h11 _
 all_goals obtain ⟨n11,n11',f11⟩:=h11
 all_goals have g3:Kst ((AN,AO.cells qs.d)::(zV,AO.cells [.str sd,.int .i64 2])::(b9,AO.cells w.d)::H):=g1.push ⟨Ne.symm n11,Ne.symm n11',f11⟩
 all_goals have g4:Kst0 ((AN,AO.cells qs.d)::(zV,AO.cells [.str sd,.int .i64 2])::(b9,AO.cells w.d)::H):=g2.push ⟨Ne.symm n11,Ne.symm n11',f11⟩
 all_goals refine xJ (p:=w) g4 (hz.fit (by omega)) ?_
 all_goals rw [hsg]
 all_goals simp+contextual only [qg,qg,hds,↓U4,↓YM,↓XP,qh,XW1,qb]
 all_goals intro _ dk h13
 all_goals obtain ⟨n13,n13',n13'',f13⟩:=h13
 all_goals have g5:Kst ((dk,AO.cells qs.d)::(AN,AO.cells qs.d)::(zV,AO.cells [.str sd,.int .i64 2])::(b9,AO.cells w.d)::H):=g3.push ⟨Ne.symm n13,Ne.symm n13',Ne.symm n13'',f13⟩
 all_goals have g6:Kst0 ((dk,AO.cells qs.d)::(AN,AO.cells qs.d)::(zV,AO.cells [.str sd,.int .i64 2])::(b9,AO.cells w.d)::H):=g4.push ⟨Ne.symm n13,Ne.symm n13',Ne.symm n13'',f13⟩
 all_goals refine l9 (p:=qs) ?_
 all_goals simp+contextual only [↓U4,↓YM,↓XP,qp,XW1,↓XH]
 all_goals refine qL (by decide) ?_
 all_goals simp+contextual only [hn,↓YM,↓XP,qp]
 all_goals refine fun _=>cO g6 (by omega) ?_
 all_goals have hpl:=@GT n
 all_goals generalize VU n=pl at hpl ⊢
 all_goals
  by_cases hqe:qe=0
  ·subst hqe
   obtain ⟨hq1,hq2,hq3⟩:=A3 hz (by rw [hsg])
   rw [hsg] at hq1
   dsimp only at hq1
   rw [<-hq1] at hq2
   simp+contextual only [↓U4,↓YM,↓XP,qh,XW1,qb]
   refine fun _=>⟨by decide,by decide,GW (n:=34) (p:=qs) (by omega) hq2 (by rw [hq1];exact hq3) fun tq htq=>?_⟩
   have hdt:=@dE tq
   simp+contextual only [qg,qg,qg,hdt,↓U4,↓YM,↓XP,qh,XW1,qb]
   intro rA h16
   obtain ⟨n16,n16',n16'',n16''',f16⟩:=h16
   have g7:=g5.push (o:= .cells tq.d) ⟨Ne.symm n16,Ne.symm n16',Ne.symm n16'',Ne.symm n16''',f16⟩
   have g8:=g6.push (o:= .cells tq.d) ⟨Ne.symm n16,Ne.symm n16',Ne.symm n16'',Ne.symm n16''',f16⟩
   refine ⟨_,fun H1 hs1=>Gh (p:=qs) (g7.sub hs1) hpl (hq2.fit (by omega)) (by have:=hq2.sl;omega) ⟨rfl,rfl⟩,?_⟩
   simp+contextual only [qg,qg,qg,qg,n16,↓YM,↓XP,qh,XW1,qb]
   refine fun _=>⟨_,fun H1 hs1=>Kg (p:=qs) (g8.sub hs1) hpl (hq2.fit (by omega)) (by have:=hq2.sl;omega) ⟨rfl,rfl⟩,?_⟩
   simp+contextual only [↓YM,↓XP,qh,qb]
   refine fun _=>⟨_,fun H1 hs1=>Gh (p:=tq) (g7.sub hs1) hpl (htq.fit (by omega)) (by have:=htq.sl;omega) ⟨rfl,rfl⟩,?_⟩
   simp+contextual only [↓YM,↓XP,qh,qb]
   refine fun _=>⟨_,fun H1 hs1=>Kg (p:=tq) (g8.sub hs1) hpl (htq.fit (by omega)) (by have:=htq.sl;omega) ⟨rfl,rfl⟩,?_⟩
   simp+contextual only [↓YM,↓XP,qp]
   refine fun _=>⟨_,fun H1 hs1=>aH ⟨rfl,rfl⟩,?_⟩
   simp+contextual only [↓YM,↓XP,qp,XW1]
   exact h
  ·simp+contextual only [qg,n10,qg,n11',qg,n13'',eq_false hqe,↓U4,↓YM,↓XP,qh,XW1,qb]
   refine fun _=>⟨_,fun H1 hs1=>Gh (p:=w) (g5.sub hs1) hpl (hz.fit (by omega)) (by have:=hz.sl;omega) ⟨rfl,rfl⟩,?_⟩
   simp+contextual only [qg,n10,qg,n11',qg,n13'',↓YM,↓XP,qh,XW1,qb]
   refine fun _=>⟨_,fun H1 hs1=>Kg (p:=w) (g6.sub hs1) hpl (hz.fit (by omega)) (by have:=hz.sl;omega) ⟨rfl,rfl⟩,?_⟩
   simp+contextual only [↓YM,↓XP,qp]
   refine fun _=>⟨_,fun H1 hs1=>aH ⟨rfl,rfl⟩,?_⟩
   simp+contextual only [↓YM,↓XP,qp,XW1]
   exact h
end Go.Proofs.YtgopigkdcmhbbaaGreatDoor
end
section
namespace Go.Proofs.YtgopigkdcmhbbaaGreatDoor.ps
open Go Go.Aw Go.RowKit Go.ChangeShapes Go.WideShapes Go.ChangeAt
theorem dO (os:Os):laidMet Tryz.prog Rows.patchSignsRow.laid ((J2 os).forCall (fun _ _=>0) ⟨#[],#[.slice none 0 0,.int .i64 0,.int .i64 0,.int .i64 0],[]⟩).memory:=
 laidMet_of_run' 70 (by kernel_rfl) (by kernel_rfl)
theorem contract (H:Type) (enc:TypeId×Value->H) (W:World) (base:Nat) (args:Array Value) (ds gs:List (DataW H)) (before:List MemPlace)
  (hval:∀(j:Nat) t v,Tryz.f4.params[j]?=some t->args[j]?=some v->Value.okWide Tryz.prog W .any base t v)
  (hW:DataW.Whole enc Tryz.prog Tryz.f4.params.toList Rows.patchSignsSpec.vars false W args.toList ds gs before) (hL:laidMetH Tryz.prog Rows.patchSignsRow.laid W) (hk:(DataW.weightsEach Tryz.prog (Tryz.f4.params.toList++Rows.patchSignsSpec.plain.varTypes Tryz.prog) (ds++gs)).all (·<=reachBytes)=true):
  Calls Tryz.prog 4 args W fun e W'=>∃v,e= .returned v∧Rows.patchSignsSpec.post enc Tryz.prog Tryz.f4 false true false false W args v W':=by
 have hW':=hW
 obtain ⟨p,q,hA0,hV,rfl,hfz,hnd⟩:=hW
 have hA:DataW.TrodAll enc Tryz.prog W 0 (fun _=>true) true Tryz.f4.params.toList args.toList ds p:=hA0
 rw [Tryz.params4] at hA hval hk
 obtain ⟨v0,vs0,d0,ds0,p0,q0,hargs,rfl,rfl,h0,r0⟩:=trodAll_cons hA
 obtain ⟨v1,vs1,d1,ds1,p1,q1,rfl,rfl,rfl,h1,r1⟩:=trodAll_cons r0
 obtain ⟨v2,vs2,d2,ds2,p2,q2,rfl,rfl,rfl,h2,r2⟩:=trodAll_cons r1
 obtain ⟨v3,vs3,d3,ds3,p3,q3,rfl,rfl,rfl,h3,r3⟩:=trodAll_cons r2
 obtain ⟨rfl,rfl,rfl⟩:=trodAll_nil r3
 obtain rfl:args=#[v0,v1,v2,v3]:=by cases args;simp_all
 obtain ⟨rfl,rfl⟩:=trodVars_none hV
 simp only [List.append_nil,List.cons_append,Nj,DataW.weightsEach,List.all_append,Nf] at hk
 obtain ⟨k0,k1,k2,k3,_⟩:=hk
 obtain ⟨a0,e0⟩:=rw_ints.arg1 (by kernel_rfl) (hval 0 _ v0 rfl rfl) h0 k0
 obtain ⟨a1,e1⟩:=rw_int.arg1 (by kernel_rfl) (hval 1 _ v1 rfl rfl) h1 k1
 obtain ⟨a2,e2⟩:=rw_int.arg1 (by kernel_rfl) (hval 2 _ v2 rfl rfl) h2 k2
 obtain ⟨a3,e3⟩:=rw_int.arg1 (by kernel_rfl) (hval 3 _ v3 rfl rfl) h3 k3
 refine (rC (HY (l:=a0) (a:=a1) (how:=a2) (bb:=a3) (H:=H0) (R:=fun d H=>d= .bool true) MO D4 rfl) W _ (Ee hL) rfl ?_).mono ?_
 ·intro j d v hd hv
  match j with
  |0=>cases hd;cases hv;exact e0
  |1=>cases hd;cases hv;exact e1
  |2=>cases hd;cases hv;exact e2
  |3=>cases hd;cases hv;exact e3
  |j+4=>cases hd
 ·rintro e W' ⟨v,d,H',K',rfl,rfl,hb,hr⟩
  have hv:v= .bool true:=by cases hr with|bool=>rfl
  subst hv
  exact ⟨_,rfl,cg kids full (by rw [Tryz.params4];decide) hW' rfl hb rfl Tryz.underlying4 rfl⟩
theorem reads (os:Os) {H:Type} (enc:TypeId×Value->H):∃places,DataW.whole enc Tryz.prog ((J2 os).forCall (fun _ _=>0) ⟨#[],#[.slice none 0 0,.int .i64 0,.int .i64 0,.int .i64 0],[]⟩).memory Tryz.f4.params.toList Rows.patchSignsSpec.vars false #[Value.slice none 0 0,Value.int .i64 0,Value.int .i64 0,Value.int .i64 0].toList 8=some ([.nil,.lit (.int .i64 0),.lit (.int .i64 0),.lit (.int .i64 0)],[],places):=
 ⟨[],by kernel_rfl⟩
theorem lifted (os:Os) (started:os.Started) (H:Type) (enc:TypeId×Value->H) (F:Stop.Interp):
  ReturnsInHanded {} Tryz.checked os 4 .any ((OpenSpec.ofChange Rows.patchSignsSpec).preRow enc Tryz.prog Tryz.f4 Rows.patchSignsRow.domain false Rows.patchSignsRow.laid) (((OpenSpec.ofChange Rows.patchSignsSpec).at F).post enc Tryz.prog Tryz.f4 false true false false):=by
 obtain ⟨places,hx⟩:=reads os enc
 refine returnsInHanded_of_row (C:=Tryz.checked) (s:=OpenSpec.ofChange Rows.patchSignsSpec) own started (by kernel_rfl) Tryz.func4
  (witness_row_at (enc:=enc) (C:=Tryz.checked) false (J2 os) #[.slice none 0 0,.int .i64 0,.int .i64 0,.int .i64 0] rfl (by kernel_rfl) (by kernel_rfl) (by kernel_rfl)
   (OpenSpec.preRow_of_cond 8 hx (by kernel_rfl) (fun k hk=>by cases hk) (by kernel_rfl) (dO os))) ?_
 intro W base args ds gs before hval hW _ _ hz hL _ _
 exact contract H enc W base args ds gs before hval hW hL hz
theorem said:Rows.PatchSignsSaid:=
 OpenClaim.holds_of_cond 4 Tryz.f4 rfl rfl rfl rfl rfl rfl rfl ⟨rfl,rfl,rfl,rfl,rfl⟩ rfl rfl rfl rfl rfl (by kernel_rfl) Tryz.func4 (by kernel_rfl)
  (of_decide_eq_true (by kernel_rfl)) (by unfold Func.isWrapper;first|(rw [if_pos (by decide+kernel)];kernel_rfl)|(rw [if_neg (by decide+kernel)];exact ⟨rfl,rfl⟩))
  (fun os started H enc _ F=>by rw [OpenClaim.pre_eq_preRow];exact lifted os started H enc F)
theorem plain (f : FuncId) (fn : Func) (hf : Tryz.pinned.checked.prog.funcNamed "wordbook/wordbooklaw17.PatchSigns" = some f) (hfn : Tryz.pinned.checked.prog.funcs[f]? = some fn) :
  false=Tryz.pinned.checked.prog.looks []∧∀(j:Nat) t,fn.params[j]?=some t->Tryz.pinned.checked.prog.wantsStandIn t=false:=by
 obtain rfl : f = 4 := Option.some.inj ((show Tryz.prog.funcNamed "wordbook/wordbooklaw17.PatchSigns" = some 4 by kernel_rfl).symm.trans hf) |>.symm
 obtain rfl:fn=Tryz.f4:=(Option.some.inj (Tryz.func4.symm.trans hfn)).symm
 refine ⟨by kernel_rfl,fun j t ht=>?_⟩
 rw [Tryz.params4] at ht
 have hm:=Array.mem_of_getElem? ht
 have hall:∀t∈ [22,3,3,3],Tryz.prog.wantsStandIn t=false:=by
  intro t ht
  simp only [List.mem_cons,List.not_mem_nil,or_false] at ht
  rcases ht with rfl|rfl|rfl|rfl<;>kernel_rfl
 exact hall t (by simpa using hm)
theorem card:Rows.PatchSignsCardSaid:=
 Claim7.holds_tied_plain_at .later [] _ _ _ _ said (fun _ h=>by cases h) (by kernel_rfl) (fun _ h=>by cases h) patchSigns_row_tie rfl ⟨rfl,rfl⟩ (by kernel_rfl) rfl plain (by kernel_rfl)
end Go.Proofs.YtgopigkdcmhbbaaGreatDoor.ps
end
