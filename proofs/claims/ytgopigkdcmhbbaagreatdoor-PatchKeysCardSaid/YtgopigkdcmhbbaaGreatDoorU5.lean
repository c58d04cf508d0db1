/- A part of the proof of what the last text says: Ka6, Ka7, Ka8, Ka9, XcJ, Kc1, Kc2, Kc3, Kc4, Kc5, Gp0, Rh1, Gp1, Gf1, XcB, Gw1, Gw2, Gm0, XcC, Gm1, Gm2, Kb1, Kc6, Kc7, Kc8, Kp1, Kd1, Kd2, Kd3, Kd4, Kd5, Kd6, XcK. Conditions: those in each theorem. -/
import Derived.Test.YtgopigkdcmhbbaaGreatDoorU4
import Derived.Laws.BitsAllLaws
set_option autoImplicit true
set_option relaxedAutoImplicit true
set_option linter.unusedVariables false
set_option linter.unusedSimpArgs false
set_option maxRecDepth 100000
set_option maxHeartbeats 16000000
open List renaming getD_eq_getElem?_getD -> Ma,getElem?_eq_getElem -> Mb,getD_cons_succ -> Mc,getD_cons_zero -> Md,length_append -> Mh,length_cons -> Mi,length_map -> Mj,getElem?_append_left -> Mm,getElem?_append_right -> Mn,map_append -> Mo,append_assoc -> Mp,take_of_length_le -> Mt,mem_cons -> Mx,getElem?_eq_none -> My,length_take -> M0,range_succ -> M3,append_nil -> M4,nil_append -> M5,map_map -> M6,map_congr_left -> M7,not_mem_nil -> M8
open Option renaming getD_some -> Me
open Int renaming cast_ofNat_Int -> Mf,toNat_natCast -> Mg,natCast_nonneg -> Ml,reduceToNat -> Mu,reduceLE -> Mv,reduceLT -> Mw,eq_ofNat_of_zero_le -> Mz
open Nat renaming le_trans -> Mq,lt_of_lt_of_le -> Mr,le_refl -> Ms,reduceSub -> qa,reduceAdd -> qb,reduceMul -> qc,reduceEqDiff -> qd,reduceLeDiff -> qe,reduceBEq -> qf
section
namespace Go.Proofs.YtgopigkdcmhbbaaGreatDoor
open Go Go.Aw
theorem KG (h:0<=n) (h':n<18446744073709551616):IntKind.u64.wrap n=n:=by
 rw [show IntKind.u64.wrap n=n % 18446744073709551616 by simp [IntKind.wrap,IntKind.bits,IntKind.signed]]
 omega
theorem tb {R:D->AH->Prop} (hg:Kst H) (hp:Blk H p o m) (h:R (.agg (vY s m).D) H):ACall Tryz.prog 142 [.agg s.D,.hso p o 64] H R:=by
 obtain ⟨cs,h1,h2⟩:=hp
 exact Zr hg h1 h2 h
theorem Jv {s:Str} (h:s.blk.length=64):s.D.take 73=s.D:=Mt (by rw [yr h];exact Ms _)
theorem Jo {s:Str}:s.D.map D.view1=s.D:=by
 unfold Str.D jp
 rw [Mo,Mo,M6,S8.D_view]
 rfl
def zst:Str:=⟨z8,List.replicate 64 0,0⟩
theorem Kp {s:Str} {t:List UInt8} {H:AH} {R:D->AH->Prop} (hg:Kst H) (hb:s.blk.length=64) (hn:s.n+t.length<=big) (h:R (.agg (ym s t).D) H):ACall Tryz.prog 123 [.agg s.D,.str t] H R:=by
 refine Hj fun hf=>?_
 have hbig:=qj
 simp+contextual only [C7,↓YG,↓XP,qh,XW1,qa,qb]
 intro b2 h2 b4 h4
 obtain ⟨n42,f4⟩:=h4
 refine XW.loopS hmm 38 (fun q:Str×List UInt8=>[(1,.str q.2),(2,.ptr b2 0),(4,.ptr b4 0)]) (fun q=>(b4,.cells zst.D)::(b2,.cells q.1.D)::H) (fun q=>q.2.length) (fun q=>q.1.blk.length=64∧q.1.n+q.2.length<=big∧ym q.1 q.2=ym s t) (s,t) ⟨hb,hn,rfl⟩ ⟨rfl,rfl,rfl,rfl,trivial⟩ rfl ?_
 rintro ⟨s,t⟩ z ⟨hb,hn,hs⟩ K hN hE hR
 dsimp only at hb hn hs
 dsimp only [fl,zz,qa,qb]
 by_cases ht:t= []
 ·have ht':decide (t= [])=true:=decide_eq_true ht
  simp+contextual only [ht',↓tI,↓YG,↓XP,qo]
  apply hE
  subst ht
  rw [eh] at hs
  simp+contextual only [qg,n42,yr hb,Jv hb,Jo,show zst.D.drop 73= [] from rfl,show zst.D.length=73 from rfl,↓YG,↓XP,qh,XW1]
  rw [hs]
  exact h
 ·have ht':decide (t= [])=false:=decide_eq_false ht
  have hk:=z7 (s:=s) ht
  have hk2:=WM (s:=s) (t:=t)
  have hm:=Nat.mod_lt s.n (show 0<64 by decide)
  have e1:IntKind.i64.wrap ((s.n:Int).tmod 64)=((s.n % 64:Nat):Int):=by rw [Int.tmod_eq_emod_of_nonneg (Ml _),qm (by omega) (by omega)];omega
  have ek:min t.length (64 - s.n % 64)=yh s t:=rfl
  have ec:s.D.take (8+s.n % 64)++((t.take (64 - s.n % 64)).map (fun c=>D.int .u8 c.toNat)++s.D.drop (8+s.n % 64+yh s t))=Str.D ⟨s.st,wx s t,s.n⟩:=lV hb hm t
  have hb':(wx s t).length=64:=K5 hb t
  have e2:IntKind.u64.wrap ((yh s t:Nat):Int)=((yh s t:Nat):Int):=KG (by omega) (by omega)
  have e3:IntKind.u64.wrap ((s.n:Int)+((yh s t:Nat):Int))=((s.n+yh s t:Nat):Int):=by rw [KG (by omega) (by omega)];omega
  have e4:IntKind.i64.wrap (((s.n % 64:Nat):Int)+((yh s t:Nat):Int))=((s.n % 64+yh s t:Nat):Int):=by rw [qm (by omega) (by omega)];omega
  have e5:(Str.D ⟨s.st,wx s t,s.n⟩)[72]?=some (.int .u64 s.n):=aF (s:=⟨s.st,wx s t,s.n⟩) hb'
  have e6:=lU (s:=⟨s.st,wx s t,s.n⟩) hb' (s.n+yh s t)
  have e7:(Str.D ⟨s.st,wx s t,s.n⟩).length=73:=yr (s:=⟨s.st,wx s t,s.n⟩) hb'
  have hst:ym (vO s t) (t.drop (yh s t))=ym s t:=(QI ht).symm
  have hi64:((64:Nat):Int)=64:=rfl
  have e8:(Str.D ⟨s.st,wx s t,s.n+yh s t⟩).take 8=s.st.D:=C0 (s:=⟨s.st,wx s t,s.n+yh s t⟩)
  have e9:=fun r=>cE (s:=⟨s.st,wx s t,s.n+yh s t⟩) r
  have e10:(Str.D ⟨s.st,wx s t,s.n+yh s t⟩).length=73:=yr (s:=⟨s.st,wx s t,s.n+yh s t⟩) hb'
  have hl':(t.drop (yh s t)).length=t.length - yh s t:=List.length_drop
  by_cases h64:s.n % 64+yh s t=64
  ·have h64':decide (((s.n % 64+yh s t:Nat):Int)=64)=true:=decide_eq_true (by omega)
   simp+contextual only [Nat.mul_one,Nat.sub_zero,Mf,ht',aF hb,e1,ek,ec,e2,e3,e4,e5,e6,e7,e8,e10,S8.D_view,h64',List.take_length,yr hb,qg,qk,n42,↓tI,↓YG,↓Jt,qh,XW1,qe,↓XH]
   refine fun _=>⟨by decide,by omega,hm,by omega,fun _=>⟨by omega,?_⟩⟩
   have hK:Kst ((b4,.cells zst.D)::(b2,.cells (Str.D ⟨s.st,wx s t,s.n+yh s t⟩))::H):=(Kst.push hg h2).push ⟨Ne.symm n42,f4⟩
   have hB:Blk ((b4,.cells zst.D)::(b2,.cells (Str.D ⟨s.st,wx s t,s.n+yh s t⟩))::H) b2 8 (wx s t):=⟨_,by rw [qg n42,jf],pa (s:=⟨s.st,wx s t,s.n+yh s t⟩) hb'⟩
   obtain ⟨c,hc⟩:∃c,vY s.st (wx s t)=c:=⟨_,rfl⟩
   refine ⟨.agg c.D,fun H1 hH1=>tb (hK.sub hH1) (hB.sub hH1) ⟨by rw [hc],rfl⟩,?_⟩
   simp+contextual only [e9,e10,S8.D_len,qg,qk,n42,↓YG,↓XP,qh,XW1,qe]
   have he:vO s t=⟨c,wx s t,s.n+yh s t⟩:=by rw [vO,if_pos h64,hc]
   exact hN (vO s t,t.drop (yh s t)) _ _ ⟨by rw [he];exact hb',by rw [he];show s.n+yh s t+(t.drop (yh s t)).length<=big;omega,hst.trans hs⟩ (by show (t.drop (yh s t)).length<t.length;omega) ⟨rfl,rfl,rfl,rfl,trivial⟩ (by show back _ _=(b4,AO.cells zst.D)::(b2,AO.cells (vO s t).D)::H;rw [he];exact qz rfl)
  ·have h64':decide (((s.n % 64+yh s t:Nat):Int)=64)=false:=decide_eq_false (by omega)
   simp+contextual only [Nat.mul_one,Mf,ht',aF hb,e1,ek,ec,e2,e3,e4,e5,e6,e7,h64',List.take_length,yr hb,qg,qk,n42,↓tI,↓YG,↓Jt,qh,XW1,qe,↓XH]
   refine fun _=>⟨by decide,by omega,hm,by omega,fun _=>⟨by omega,?_⟩⟩
   have he:vO s t=⟨s.st,wx s t,s.n+yh s t⟩:=by rw [vO,if_neg h64]
   exact hN (vO s t,t.drop (yh s t)) _ _ ⟨by rw [he];exact hb',by rw [he];show s.n+yh s t+(t.drop (yh s t)).length<=big;omega,hst.trans hs⟩ (by show (t.drop (yh s t)).length<t.length;omega) ⟨rfl,rfl,rfl,rfl,trivial⟩ (by show back _ _=(b4,AO.cells zst.D)::(b2,AO.cells (vO s t).D)::H;rw [he];exact qz rfl)
theorem unb (l:List UInt8):(l.map ql).map unbyte=l:=by
 rw [M6]
 conv=>rhs;rw [<-List.map_id l]
 apply M7
 intro c _
 show UInt8.ofNat ((c.toNat:Int)).toNat=c
 simp
theorem isb (l:List UInt8):∀x∈l.map ql,yT x:=by
 intro x hx
 obtain ⟨c,_,rfl⟩:=List.mem_map.1 hx
 have:=c.toNat_lt
 show 0<=(c.toNat:Int)∧(c.toNat:Int)<=255
 omega
theorem Un (l:List UInt8):∀x∈l.map ql,x.length=1:=by
 intro x hx
 obtain ⟨c,_,rfl⟩:=List.mem_map.1 hx
 rfl
theorem Vg (l:List UInt8) (c:UInt8):l.map ql++ [[.int .u8 (c.toNat:Int)]]=(l++ [c]).map ql:=by simp [ql]
def nM (m k:Nat):UInt8:=UInt8.ofNat (m / 2 ^ k)
theorem G5 (m k:Nat):IntKind.u8.wrap ((m:Int).fdiv (2 ^ k))=((nM m k).toNat:Int):=by
 rw [IntKind.wrap_u8',nM,UInt8.toNat_ofNat']
 have h2:((2:Int) ^ k)=((2 ^ k:Nat):Int):=by simp
 rw [h2,Int.fdiv_eq_ediv_of_nonneg _ (Ml _)]
 have:=(Int.natCast_ediv m (2 ^ k)).symm
 omega
def zP (n:Nat):Nat:=(119 - n % 64) % 64
def Q5 (n:Nat):List UInt8:=128::(List.replicate (zP n) 0++(List.range 8).map fun i=>nM (8*n) (56 - 8*i))
def S8.w (s:S8) (j:Nat):W:= [s.a,s.b,s.c,s.d,s.e,s.f,s.g,s.h].getD j 0
def ZG (s:S8) (i:Nat):UInt8:=nM (s.w (i / 4)).toNat (24 - 8*(i % 4))
def QA (s:S8) (i:Nat):List UInt8:=(List.range i).map (ZG s)
theorem uq (s:S8) (i:Nat):(QA s i).length=i:=by simp [QA]
theorem YA (s:S8) (i:Nat):QA s i++ [ZG s i]=QA s (i+1):=by simp [QA,M3]
def KB (s:S8):List UInt8:=(List.range 32).map (ZG s)
def gZ (s:Str):List UInt8:=KB (ym s (Q5 s.n)).st
theorem Kj (n:Nat):(Q5 n).length=zP n+9:=by simp [Q5]
def barr (n:Nat) (l:List UInt8):List D:=jp l++List.replicate (n - l.length) (bD 0)
theorem gX (h:l.length<=n):(barr n l).length=n:=by simp [barr,jp];omega
theorem KP (h:l.length<n):(barr n l).set l.length (bD c)=barr n (l++ [c]):=by
 unfold barr
 rw [show n - l.length=(n - (l++ [c]).length)+1 by simp;omega,List.replicate_succ,List.set_append_right _ _ (by simp [jp])]
 simp [jp]
theorem zr (h:l.length=n):barr n l=jp l:=by simp [barr,h]
theorem qV (h:l.length=n):(jp l).take n=jp l:=Mt (by rw [qw,h];exact Ms _)
theorem jj (l:List UInt8):(jp l).map D.view1=jp l:=by
 unfold jp
 rw [M6]
 rfl
theorem S8.get (s:S8) (h:j<8):s.D[j]?=some (wD (s.w j)):=by
 obtain rfl|rfl|rfl|rfl|rfl|rfl|rfl|rfl:j=0∨j=1∨j=2∨j=3∨j=4∨j=5∨j=6∨j=7:=by omega
 all_goals rfl
theorem EJ {s:Str} {j:Nat} (h:j<8):s.D[j]?=some (wD (s.st.w j)):=by
 unfold Str.D
 rw [Mm (by rw [S8.D_len];exact h),S8.get _ h]
theorem wE:∀(k:Nat) (s:Str) (t:List UInt8),t.length<=k->s.blk.length=64->(ym s t).blk.length=64∧(ym s t).n=s.n+t.length:=by
 intro k
 induction k with
 | zero=>
  intro s t h hb
  obtain rfl:=List.eq_nil_of_length_eq_zero (Nat.le_zero.1 h)
  exact ⟨hb,rfl⟩
 | succ k ih=>
  intro s t h hb
  by_cases ht:t= []
  ·subst ht;exact ⟨hb,rfl⟩
  ·have hp:=z7 (s:=s) ht
   have hk:=WM (s:=s) (t:=t)
   rw [QI ht]
   obtain ⟨h1,h2⟩:=ih (vO s t) (t.drop (yh s t)) (by rw [List.length_drop];omega) (K5 hb t)
   refine ⟨h1,?_⟩
   rw [h2,List.length_drop]
   show s.n+yh s t+_=_
   omega
def pd (j:Nat):List (List D):=(128::List.replicate j 0).map ql
theorem rX (j:Nat):(pd j).length=j+1:=by simp [pd]
theorem xq (j:Nat):pd j++ [[.int .u8 0]]=pd (j+1):=by simp [pd,ql,List.replicate_succ']
theorem Et (j:Nat):∀x∈pd j,x.length=1:=Un _
def pq (n z i:Nat):List (List D):=((128::List.replicate z 0)++(List.range i).map fun k=>nM (8*n) (56 - 8*k)).map ql
theorem dP (n z i:Nat):(pq n z i).length=z+1+i:=by simp [pq];omega
theorem rn (n z i:Nat):pq n z i++ [[.int .u8 ((nM (8*n) (56 - 8*i)).toNat:Int)]]=pq n z (i+1):=by simp [pq,ql,M3]
theorem FI (n z i:Nat):∀x∈pq n z i,x.length=1:=Un _
theorem mE (n:Nat):pq n (zP n) 8=(Q5 n).map ql:=rfl
theorem Ac (n z:Nat):pd z=pq n z 0:=by simp [pd,pq]
theorem dt {s:Str} {H:AH} {R:D->AH->Prop} (hg:Kst H) (hb:s.blk.length=64) (hn:s.n+80<=big) (h:R (.agg (jp (gZ s))) H):ACall Tryz.prog 124 [.agg s.D] H R:=by
 refine Ii fun hf=>?_
 have hbig:=qj
 simp+contextual only [↓KJ,↓KJ,↓XP,qh,XW1,qa]
 intro b1 h1 b2 h2
 obtain ⟨n21,f2⟩:=h2
 have e8:IntKind.u64.wrap (8*(s.n:Int))=((8*s.n:Nat):Int):=by rw [KG (by omega) (by omega)];omega
 simp+contextual only [Nat.mul_one,aF hb,e8,↓KJ,↓XP,qh,XW1,qe]
 intro _
 refine XW.loopS hmm 58 (fun j:Nat=>[(1,.ptr b1 0),(2,.ptr b2 0),(3,.int .u64 ((8*s.n:Nat):Int)),(4,.own (pd ((j:Nat))))]) (fun j=>(b2,.cells (barr 32 []))::(b1,.cells s.D)::H) (fun j=>zP s.n - j) (fun j=>j<=zP s.n) 0 (Nat.zero_le _) ⟨rfl,rfl,rfl,rfl,rfl,trivial⟩ rfl ?_
 intro j z hj K hN hE hR
 dsimp only [fl,zz,qa,qb]
 have hz:zP s.n<64:=Nat.mod_lt _ (by decide)
 have w1:IntKind.i64.wrap (s.n:Int)=(s.n:Int):=qm (by omega) (by omega)
 have w2:IntKind.i64.wrap ((s.n:Int)+((j+1:Nat):Int))=((s.n+(j+1):Nat):Int):=by rw [qm (by omega) (by omega)];omega
 have w3:((s.n+(j+1):Nat):Int).tmod 64=(((s.n+(j+1)) % 64:Nat):Int):=by rw [Int.tmod_eq_emod_of_nonneg (Ml _)];omega
 by_cases hlt:j<zP s.n
 ·have ht:decide ((((s.n+(j+1)) % 64:Nat):Int)=56)=false:=decide_eq_false (by unfold zP at hlt;omega)
  simp+contextual only [Nat.mul_one,qg,n21,aF hb,w1,w2,w3,ht,rX,xq,↓KJ,↓XP,qh,XW1,qe]
  exact fun _ _=>⟨by decide,Et j,by omega,hN (j+1) _ _ (by omega) (by omega) ⟨rfl,rfl,rfl,rfl,rfl,trivial⟩ (qz rfl)⟩
 ·obtain rfl:j=zP s.n:=by omega
  have ht:decide ((((s.n+(zP s.n+1)) % 64:Nat):Int)=56)=true:=decide_eq_true (by unfold zP;omega)
  simp+contextual only [qg,n21,aF hb,w1,w2,w3,ht,Ac s.n (zP s.n),dP,↓KJ,↓XP,qh,XW1]
  refine fun _ _=>⟨by decide,?_⟩
  apply hE
  simp+contextual only [↓XP,qo,XW1]
  refine XW.loopS hmm 58 (fun i:Nat=>[(1,.ptr b1 0),(2,.ptr b2 0),(3,.int .u64 ((8*s.n:Nat):Int)),(4,.own (pq s.n (zP s.n) ((i:Nat)))),(23,.i (i:Int))]) (fun j=>(b2,.cells (barr 32 []))::(b1,.cells s.D)::H) (fun i=>8 - i) (fun i=>i<=8) 0 (Nat.zero_le _) ⟨rfl,rfl,rfl,rfl,rfl,rfl,trivial⟩ rfl ?_
  intro i z hi K hN hE hR
  dsimp only [fl,zz,qa,qb]
  by_cases hlt:i<8
  ·have hlt':((i:Int)<8)=True:=eq_true (by omega)
   have w4:IntKind.i64.wrap (8*(i:Int))=((8*i:Nat):Int):=by rw [qm (by omega) (by omega)];omega
   have w5:IntKind.i64.wrap (56 - ((8*i:Nat):Int))=((56 - 8*i:Nat):Int):=by rw [qm (by omega) (by omega)];omega
   have w6:min (56 - 8*i) IntKind.u64.bits=56 - 8*i:=Nat.min_eq_left (by show _<=64;omega)
   simp+contextual only [Nat.mul_one,hlt',w4,w5,w6,G5,dP,rn,↓KJ,↓XP,qh,XW1,qe]
   rw [qi (by omega)]
   exact ⟨FI _ _ _,by omega,hN (i+1) _ _ (by omega) (by omega) ⟨rfl,rfl,rfl,rfl,rfl,rfl,trivial⟩ (qz rfl)⟩
  ·obtain rfl:i=8:=by omega
   have hlt':(((8:Nat):Int)<8)=False:=eq_false (by decide)
   simp+contextual only [Mf,↓KJ,↓XP,qo]
   apply hE
   simp+contextual only [qg,n21,yr hb,Jv hb,Jo,mE,unb,↓KJ,↓XP,qh,XW1]
   refine ⟨isb _,fun _=>?_⟩
   have hpl:=Kj s.n
   have hql:=wE _ s (Q5 s.n) (Ms _) hb
   obtain ⟨q,hq⟩:∃q,ym s (Q5 s.n)=q:=⟨_,rfl⟩
   rw [hq] at hql
   refine Kp ((Kst.push hg h1).push ⟨Ne.symm n21,f2⟩) hb (by omega) ?_
   rw [hq]
   have hqb:=hql.1
   simp+contextual only [qg,qk,n21,yr hb,yr hqb,show s.D.drop 73= [] from List.drop_of_length_le (by rw [yr hb];exact Ms _),↓KJ,↓XP,qh,XW1]
   intro b6 h6
   obtain ⟨n26,n16,f6⟩:=h6
   have hsum:gZ s=KB q.st:=by rw [gZ,hq]
   rw [hsum] at h
   refine XW.loopS hmm 58 (fun i:Nat=>[(1,.ptr b1 0),(2,.ptr b2 0),(6,.ptr b6 0),(40,.i ((i:Nat):Int))]) (fun i=>(b6,.cells (barr 32 (QA q.st i)))::(b2,.cells (barr 32 []))::(b1,.cells q.D)::H) (fun i=>32 - i) (fun i=>i<=32) 0 (Nat.zero_le _) ⟨rfl,rfl,rfl,rfl,rfl,trivial⟩ rfl ?_
   intro i z hi K hN hE hR
   dsimp only [fl,zz,qa,qb]
   by_cases hlt:i<32
   ·have hlt':((i:Int)<32)=True:=eq_true (by omega)
    have x1:IntKind.i64.wrap ((i:Int).tdiv 4)=((i / 4:Nat):Int):=by rw [Int.tdiv_eq_ediv_of_nonneg (Ml _),qm (by omega) (by omega)];omega
    have x2:(i:Int).tmod 4=((i % 4:Nat):Int):=by rw [Int.tmod_eq_emod_of_nonneg (Ml _)];omega
    have x3:IntKind.i64.wrap (8*((i % 4:Nat):Int))=((8*(i % 4):Nat):Int):=by rw [qm (by omega) (by omega)];omega
    have x4:IntKind.i64.wrap (24 - ((8*(i % 4):Nat):Int))=((24 - 8*(i % 4):Nat):Int):=by rw [qm (by omega) (by omega)];omega
    have x5:min (24 - 8*(i % 4)) IntKind.u32.bits=24 - 8*(i % 4):=Nat.min_eq_left (by show _<=32;omega)
    have x6:=EJ (s:=q) (j:=i / 4) (by omega)
    have x7:(barr 32 (QA q.st i)).length=32:=gX (by rw [uq];omega)
    have x8:=KP (n:=32) (l:=QA q.st i) (c:=ZG q.st i) (by rw [uq];exact hlt)
    rw [uq,YA] at x8
    unfold bD ZG at x8
    simp+contextual only [Nat.mul_one,Mf,qg,n21,n16,hlt',x1,x2,x3,x4,x5,x6,x7,x8,wD,G5,↓KJ,↓XP,qh,XW1]
    rw [qi (by omega)]
    exact ⟨by decide,by omega,fun _=>⟨by decide,by omega,hN (i+1) _ _ (by omega) (by omega) ⟨rfl,rfl,rfl,rfl,rfl,trivial⟩ (qz rfl)⟩⟩
   ·obtain rfl:i=32:=by omega
    have hlt':(((32:Nat):Int)<32)=False:=eq_false (by decide)
    simp+contextual only [Mf,↓KJ,↓XP,qo]
    apply hE
    have ho:QA q.st 32=KB q.st:=rfl
    have hol:(KB q.st).length=32:=by simp [KB]
    have hob:=zr hol
    simp+contextual only [qg,qk,n26,ho,hob,qw,hol,qV hol,jj,show (barr 32 []).drop 32= [] from rfl,show (barr 32 []).length=32 from rfl,↓XP,qh,XW1]
    exact h
theorem fv (x y:UInt8):bits .xor .u8 (x.toNat:Int) (y.toNat:Int)=((x ^^^ y).toNat:Int):=by rw [u8_xor_nat _ _ x.toNat_lt y.toNat_lt,UInt8.toNat_xor]
theorem oR (l:List UInt8):∀d∈jp l,yT [d]:=by
 intro d hd
 obtain ⟨c,_,rfl⟩:=List.mem_map.1 hd
 have:=c.toNat_lt
 show 0<=(c.toNat:Int)∧(c.toNat:Int)<=255
 omega
theorem zV (l:List UInt8):(jp l).map (fun d=>unbyte [d])=l:=by
 unfold jp
 rw [M6]
 conv=>rhs;rw [<-List.map_id l]
 apply M7
 intro c _
 show UInt8.ofNat ((c.toNat:Int)).toNat=c
 simp
theorem QF (h:i<l.length):(jp l)[i]?=some (bD (l.getD i 0)):=by
 simp [jp,List.getD,Mb h]
theorem p7 (l:List UInt8) (i:Nat) (c:UInt8):(jp l).set i (bD c)=jp (l.set i c):=by simp [jp,List.map_set]
def zpad (k:List UInt8):List UInt8:=k++List.replicate (64 - k.length) 0
def yt (k:List UInt8) (w:UInt8):List UInt8:=(zpad k).map (· ^^^ w)
theorem K7 (h:k.length<=64):(zpad k).length=64:=by simp [zpad];omega
def xI (m:List UInt8) (w:UInt8) (i:Nat):List UInt8:=(m.take i).map (· ^^^ w)++m.drop i
theorem tQ (m:List UInt8) (w:UInt8) (i:Nat):(xI m w i).length=m.length:=by simp [xI];omega
theorem nT (h:i<m.length):(xI m w i).getD i 0=m.getD i 0:=by
 have h1:((m.take i).map (· ^^^ w)).length=i:=by simp;omega
 unfold xI List.getD
 rw [Mn (by omega),h1,Nat.sub_self,List.getElem?_drop,Nat.add_zero]
theorem sJ (h:i<m.length):(xI m w i).set i (m.getD i 0 ^^^ w)=xI m w (i+1):=by
 unfold xI
 have h1:(m.take i).length=i:=by simp;omega
 rw [List.set_append_right _ _ (by simp;omega),Mj,h1,Nat.sub_self,List.drop_eq_getElem_cons h,List.set_cons_zero,List.take_add_one,Mb h,Mo,Mp]
 simp [List.getD,Mb h]
theorem Hy (m:List UInt8) (w:UInt8):xI m w 0=m:=by simp [xI]
theorem lc (h:m.length=n):xI m w n=m.map (· ^^^ w):=by subst h;simp [xI]
theorem Uy {R:D->AH->Prop} (hb:qn H b=some (.cells [.str k])) (hk:k.length<=64) (h:R (.str (yt k w)) H):ACall Tryz.prog 135 [.int .u8 (w.toNat:Int),.ptr b 0] H R:=by
 refine HF fun hf=>?_
 have hbig:=qj
 simp+contextual only [BE,Nat.mul_one,Nat.sub_zero,↓ij,↓XP,qh,qa,qb,qe,↓XH]
 intro b4 h4
 have n4:=qT h4 hb
 simp+contextual only [qg n4,hb,↓Jt,qh,XW1,qb,↓XH]
 intro _
 have hz:(List.map (fun c=>D.int .u8 (c.toNat:Int)) (List.take 64 k)++List.drop (min k.length 64) (jp (List.replicate 64 0)))=jp (zpad k):=by
  have e:List.drop k.length (jp (List.replicate 64 0))=jp (List.replicate (64 - k.length) 0):=by unfold jp;rw [<-List.map_drop,List.drop_replicate]
  rw [Mt hk,Nat.min_eq_left hk,zpad,e]
  unfold jp
  rw [Mo]
  rfl
 have hl:=K7 hk
 have hr:yt k w=(zpad k).map (· ^^^ w):=rfl
 rw [hr] at h
 generalize zpad k=m at hz hl h
 refine XW.loopS hmm 21 (fun i:Nat=>[(0,.int .u8 (w.toNat:Int)),(4,.ptr b4 0),(9,.i ((i:Nat):Int))]) (fun i=>(b4,.cells (jp (xI m w i)))::H) (fun i=>64 - i) (fun i=>i<=64) 0 (Nat.zero_le _) ⟨rfl,rfl,rfl,rfl,trivial⟩ ?_ ?_
 ·show (b4,AO.cells (jp (xI m w 0)))::H=_
  rw [Hy,<-hz]
  rfl
 intro i z hi K hN hE hR
 dsimp only [fl,zz,qa,qb]
 have hxl:=tQ m w i
 by_cases hlt:i<64
 ·have hlt':((i:Int)<64)=True:=eq_true (by omega)
  have g:=QF (l:=xI m w i) (i:=i) (by omega)
  rw [nT (by omega)] at g
  have st:=p7 (xI m w i) i (m.getD i 0 ^^^ w)
  rw [sJ (by omega)] at st
  unfold bD at g st
  simp+contextual only [Nat.mul_one,Mf,hlt',g,st,fv,qw,hxl,hl,↓ij,↓XP,qh]
  rw [qi (by omega)]
  exact fun _=>⟨hlt,hN (i+1) _ _ (by omega) (by omega) ⟨rfl,rfl,rfl,rfl,trivial⟩ (qz rfl)⟩
 ·obtain rfl:i=64:=by omega
  have hlt':(((64:Nat):Int)<64)=False:=eq_false (by decide)
  simp+contextual only [Mf,↓ij,↓XP,qo]
  apply hE
  rw [lc hl]
  have hl2:(m.map (· ^^^ w)).length=64:=by simp [hl]
  generalize m.map (· ^^^ w)=m2 at hl2 h
  simp+contextual only [Nat.mul_one,Nat.sub_zero,qw,qV hl2,hl2,zV,↓ij,↓Jt,qh,XW1,qe,↓XH]
  exact ⟨oR _,fun _=>h⟩
theorem zb:beg.blk.length=64:=rfl
theorem Wa:beg.n=0:=rfl
def CP (k t:List UInt8):List UInt8:=gZ (ym (ym beg (yt k 0x36)) t)
def iN (k t:List UInt8):List UInt8:=gZ (ym (ym beg (yt k 0x5c)) (CP k t))
theorem vp (h:k.length<=64):(yt k w).length=64:=by simp [yt,K7 h]
theorem JR (s:S8):(KB s).length=32:=by simp [KB]
theorem Kw (s:Str):(gZ s).length=32:=JR _
theorem fq (h:qn H b=some (.cells [.str k])) (hs:Sub H H1):qn H1 b=some (.cells [.str k]):=by
 obtain ⟨o',g1,g2⟩:=hs _ _ h
 rcases g2 with g2|g2
 ·rw [<-g2] at g1;exact g1
 ·cases o' with
  | cells cs=>
   injection g2 with g2
   match cs,g2 with
   | [],g2=>cases g2
   |_::_::_,g2=>simp at g2
   | [d],g2=>
    simp only [List.map_cons,List.map_nil,List.cons.injEq,and_true] at g2
    cases d<;>simp only [D.view1] at g2<;>first|(rw [g1,<-g2];done)|cases g2
  |_=>cases g2
theorem B7 {R:D->AH->Prop} (hg:Kst H) (hk:k.length<=64) (ht:t.length<=4294967296) (h:R (.str (iN k t)) H):ACall Tryz.prog 103 [.str k,.str t] H R:=by
 refine Fh fun hf=>?_
 have hbig:=qj
 have hk':decide ((64:Int)<(k.length:Int))=false:=decide_eq_false (by omega)
 simp+contextual only [Bx,hk',↓nX,↓oL,↓XP,qh,XW1,qa,qb]
 intro b2 h2 _
 have hK2:=Kst.push (o:= .cells [.str k]) hg h2
 refine WY ?_
 simp+contextual only [↓oL,↓XP,qo,XW1]
 refine Uy (w:=0x36) jf hk ?_
 simp+contextual only [↓oL,↓XP,qo]
 intro _
 have l1:=wE _ beg (yt k 0x36) (Ms _) zb
 rw [vp hk,Wa] at l1
 have hmac:iN k t=gZ (ym (ym beg (yt k 0x5c)) (gZ (ym (ym beg (yt k 0x36)) t))):=rfl
 rw [hmac] at h
 refine Kp hK2 zb (by rw [vp hk,Wa];omega) ?_
 generalize ym beg (yt k 0x36)=s1 at l1 h
 simp+contextual only [↓oL,↓XP,qo,XW1]
 have l2:=wE _ s1 t (Ms _) l1.1
 refine Kp hK2 l1.1 (by omega) ?_
 generalize ym s1 t=s2 at l2 h
 simp+contextual only [↓oL,↓XP,qo,XW1]
 refine dt hK2 l2.1 (by omega) ?_
 have l3:=Kw s2
 generalize gZ s2=s3 at l3 h
 simp+contextual only [↓nX,↓oL,↓XP,qh,XW1,qb]
 intro b7 h7
 obtain ⟨n27,f7⟩:=h7
 have hK7:=Kst.push (o:= .cells (jp s3)) hK2 (b:=b7) ⟨Ne.symm n27,f7⟩
 have hb2:qn ((b7,AO.cells (jp s3))::(b2,AO.cells [D.str k])::H) b2=some (.cells [.str k]):=by rw [qg n27,jf]
 refine ⟨by rw [qw,l3],?_⟩
 refine ⟨_,fun _ _=>WY ⟨rfl,rfl⟩,?_⟩
 simp+contextual only [↓oL,↓XP,qo,XW1]
 refine ⟨_,fun H1 hs=>Uy (w:=0x5c) (fq hb2 hs) hk ⟨rfl,rfl⟩,?_⟩
 simp+contextual only [↓oL,↓XP,qo]
 intro _
 have l4:=wE _ beg (yt k 0x5c) (Ms _) zb
 rw [vp hk,Wa] at l4
 refine ⟨_,fun H1 hs=>Kp (hK7.sub hs) zb (by rw [vp hk,Wa];omega) ⟨rfl,rfl⟩,?_⟩
 generalize ym beg (yt k 0x5c)=s4 at l4 h
 simp+contextual only [Nat.mul_one,Nat.sub_zero,qw,l3,qV l3,zV,↓oL,↓Jt,qh,XW1,qe,↓XH]
 refine ⟨oR _,fun _=>?_⟩
 have l5:=wE _ s4 s3 (Ms _) l4.1
 refine ⟨_,fun H1 hs=>Kp (hK7.sub hs) l4.1 (by omega) ⟨rfl,rfl⟩,?_⟩
 generalize ym s4 s3=s5 at l5 h
 simp+contextual only [↓oL,↓XP,qo,XW1]
 refine ⟨_,fun H1 hs=>dt (hK7.sub hs) l5.1 (by omega) ⟨rfl,rfl⟩,?_⟩
 have l6:=Kw s5
 generalize gZ s5=s6 at l6 h
 simp+contextual only [Nat.mul_one,Nat.sub_zero,Nat.reduceLT,qw,l6,qV l6,zV,↓nX,↓oL,↓Jt,qh,XW1,qb,qe,↓XH]
 exact fun b _=>⟨oR _,fun _=>h⟩
end Go.Proofs.YtgopigkdcmhbbaaGreatDoor
end
noncomputable section
namespace Go.Proofs.YtgopigkdcmhbbaaGreatDoor
open Go.Xs
open Go Go.Aw
noncomputable def iY:=yy Tryz.f141
def V141:=PLift.up (aI (@unf (iY 2) (X (G [u,u,u,u,u,u,u,v,u]) .ret) rfl) (@unf (iY 0) (R [u] (iY 2)) rfl))
theorem U141:type_of% V141.down:=V141.down
theorem Hp:Bt 141 13 (iY 0) [(.tmp 4)]:=bt Tryz.func141 rfl
noncomputable def uD:=yy Tryz.f140
def V140:=PLift.up (aI (aI (aI (@unf (uD 18) (r [u,v,u]) rfl) (@unf (uD 15) (X (O (G [u,u,u,u,u,u,u,u,u,u,u,u,u,u,u,u,u,u,u,u,u,u,u,u,u,u,u,u,u,u,u,u,u,v,u,u])) (uD 18)) rfl)) (aI (@unf (uD 9) (X (R [u,u] I) (uD 15)) rfl) (aI (@unf (uD 36) (G [u,u,u,u,u,u,u,u,u,u,u,u,u,v,u,u]) rfl) (@unf (uD 34) (X (G [u,u,u,u,u,u,u,u,u,u,u,u,u,u,u,u,v,u]) (uD 36)) rfl)))) (aI (aI (@unf (uD 37) (r [u,v,u]) rfl) (@unf (uD 30) (X (O (X (G [u,u,u,u,u,u,u,u,u,u,u,u,u,u,u,u,v,u]) (uD 34))) (uD 37)) rfl)) (aI (@unf (uD 24) (X (R [u,u] I) (uD 30)) rfl) (aI (@unf (uD 19) (X (R [u] (U (uD 24))) (F [v,u])) rfl) (@unf (uD 0) (R [u] (R [u] (X (R [u] (U (uD 9))) (uD 19)))) rfl)))))
theorem Up:type_of% V140.down:=V140.down
theorem Ic:Bt 140 101 (uD 0) [(.cell 2 203)]:=bt Tryz.func140 rfl
noncomputable def uB:=yy Tryz.f139
def V139:=PLift.up (aI (aI (aI (@unf (uB 15) (O (r [x,u,v,u])) rfl) (@unf (uB 9) (X (R [u,u,u,u] I) (uB 15)) rfl)) (aI (@unf (uB 33) (r [u,v,u]) rfl) (aI (@unf (uB 30) (X (O (r [x,u,u,u,u,u,u,u,v,u])) (uB 33)) rfl) (@unf (uB 24) (X (R [u,u] I) (uB 30)) rfl)))) (aI (aI (@unf (uB 19) (X (R [u] (U (uB 24))) (F [v,u])) rfl) (@unf (uB 17) (R [u,u,u,v,u] (uB 19)) rfl)) (aI (@unf (uB 4) (R [x,u,v,u] (X (U (uB 9)) (uB 17))) rfl) (aI (@unf (uB 2) (R [x,u,v,u] (uB 4)) rfl) (@unf (uB 0) (R [u] (uB 2)) rfl)))))
theorem ZK:type_of% V139.down:=V139.down
theorem IK:Bt 139 37 (uB 0) [(.tmp 2)]:=bt Tryz.func139 rfl
noncomputable def kx:=yy Tryz.f121
def V121:=PLift.up (aI (aI (aI (aI (@unf (kx 54) (r [u,u,v,u]) rfl) (@unf (kx 50) (R [v,u] (R [v,u] (kx 54))) rfl)) (aI (@unf (kx 46) (R [u,u,v,u] (R [v,u] (kx 50))) rfl) (aI (@unf (kx 42) (R [v,u] (R [v,u] (kx 46))) rfl) (@unf (kx 38) (R [u,u,u,u,u,u,u,u,u,u,u,u,u,u,u,u,u,u,u,v,u] (R [v,u] (kx 42))) rfl)))) (aI (aI (@unf (kx 55) (r [u,v,u]) rfl) (@unf (kx 34) (X (O (X (G [u,u,u,u,u,u,u,u,u,u,u,u,u,u,u,u,u,u,u,u,u,u,u,u,u,u,v,u]) (kx 38))) (kx 55)) rfl)) (aI (@unf (kx 28) (X (R [u,u] I) (kx 34)) rfl) (aI (@unf (kx 56) (r [u,u,u,u,u,u,u,u,u,u,u,u,u,u,u,u,u,u,u,u,u,u,u,u,u,u,u,u,u,u,u,u,v,u]) rfl) (@unf (kx 21) (X (G [u,v,u,v,u,v,u,v,u,v,u,v,u,v,u,v,u,u,u,u,u,u,u,u]) (X (R [u] (U (kx 28))) (kx 56))) rfl))))) (aI (aI (aI (@unf (kx 57) (r [u,v,u]) rfl) (@unf (kx 17) (X (O (R [u,u,u,u,u,v,u,u] (kx 21))) (kx 57)) rfl)) (aI (@unf (kx 11) (X (R [u,u,u,u] I) (kx 17)) rfl) (aI (@unf (kx 74) (r [u,v,u]) rfl) (@unf (kx 71) (X (O (r [u,u,u,u,u,u,u,u,u,u,v,u,u])) (kx 74)) rfl)))) (aI (aI (@unf (kx 65) (X (R [u,u] I) (kx 71)) rfl) (@unf (kx 60) (X (R [u] (U (kx 65))) (F [v,u])) rfl)) (aI (@unf (kx 4) (R [u,v,u] (X (R [u] (U (kx 11))) (R [u] (kx 60)))) rfl) (aI (@unf (kx 2) (R [v,u,u] (kx 4)) rfl) (@unf (kx 0) (R [u] (kx 2)) rfl))))))
theorem Qw:type_of% V121.down:=V121.down
theorem Ih:Bt 121 164 (kx 0) [(.cell 2 177)]:=bt Tryz.func121 rfl
noncomputable def Vs:=yy Tryz.f137
def V137:=PLift.up (aI (aI (@unf (Vs 15) (X (O (r [x,u,u,u,u,v,u])) (r [u,v,u])) rfl) (@unf (Vs 9) (X (R [u,u] I) (Vs 15)) rfl)) (aI (@unf (Vs 4) (X (R [u] (U (Vs 9))) (F [u,v,u])) rfl) (@unf (Vs 0) (R [u,u] (R [u] (Vs 4))) rfl)))
theorem mb:type_of% V137.down:=V137.down
theorem EW:Bt 137 17 (Vs 0) [(.tmp 2)]:=bt Tryz.func137 rfl
noncomputable def oc:=yy Tryz.f136
def V136:=PLift.up (aI (aI (aI (@unf (oc 8) (r [u,u,u,v,u]) rfl) (@unf (oc 30) (T (r [u,u,v,u])) rfl)) (aI (@unf (oc 33) (r [x,u,u,u,u,v,u]) rfl) (@unf (oc 27) (X (R [u,u,u,u] (oc 30)) (oc 33)) rfl))) (aI (aI (@unf (oc 34) (r [u,v,u]) rfl) (@unf (oc 17) (X (R [u,u] I) (X (O (R [u] (oc 27))) (oc 34))) rfl)) (aI (@unf (oc 12) (X (R [u] (U (oc 17))) (F [v,u])) rfl) (aI (@unf (oc 4) (X (R [u,u,u] (T (oc 8))) (R [u] (oc 12))) rfl) (@unf (oc 0) (R [u] (R [v,u] (oc 4))) rfl)))))
theorem fG:type_of% V136.down:=V136.down
theorem IT:Bt 136 35 (oc 0) [(.tmp 4)]:=bt Tryz.func136 rfl
noncomputable def Ja:=yy Tryz.f115
def V115:=PLift.up (aI (aI (@unf (Ja 10) (F [u,u,v,u]) rfl) (aI (@unf (Ja 8) (R [x,u,u,u,v,u] (Ja 10)) rfl) (@unf (Ja 6) (R [u,v,u] (Ja 8)) rfl))) (aI (@unf (Ja 4) (R [x,u,v,u] (Ja 6)) rfl) (aI (@unf (Ja 2) (R [u,v,u] (Ja 4)) rfl) (@unf (Ja 0) (R [u] (Ja 2)) rfl))))
theorem eA:type_of% V115.down:=V115.down
theorem Iq:Bt 115 22 (Ja 0) [(.tmp 4)]:=bt Tryz.func115 rfl
noncomputable def bW:=yy Tryz.f93
def V93:=PLift.up (aI (aI (@unf (bW 20) (r [u,v,u]) rfl) (aI (@unf (bW 17) (X (O (r [u,u,u,v,u,u])) (bW 20)) rfl) (@unf (bW 11) (X (R [u,u] I) (bW 17)) rfl))) (aI (@unf (bW 6) (X (R [u] (U (bW 11))) (F [v,u])) rfl) (aI (@unf (bW 2) (R [u,v,u,u] (R [v,u,u] (bW 6))) rfl) (@unf (bW 0) (R [u] (bW 2)) rfl))))
theorem xL:type_of% V93.down:=V93.down
theorem b93:Bt 93 19 (bW 0) [(.cell 2 33)]:=bt Tryz.func93 rfl
noncomputable def bY:=yy Tryz.f94
def V94:=PLift.up (aI (aI (@unf (bY 18) (r [u,v,u]) rfl) (aI (@unf (bY 15) (X (O (r [x,u,u,u,u,u,v,u])) (bY 18)) rfl) (@unf (bY 9) (X (R [u,u,u,u] I) (bY 15)) rfl))) (aI (@unf (bY 4) (X (R [u] (U (bY 9))) (F [v,u])) rfl) (aI (@unf (bY 2) (R [u,u,v,u] (bY 4)) rfl) (@unf (bY 0) (R [u] (bY 2)) rfl))))
theorem Bq:type_of% V94.down:=V94.down
theorem b94:Bt 94 24 (bY 0) [(.tmp 4)]:=bt Tryz.func94 rfl
noncomputable def Dx:=yy Tryz.f46
def V46:=PLift.up (aI (@unf (Dx 2) (F [u,u,u,v,u]) rfl) (@unf (Dx 0) (R [u] (Dx 2)) rfl))
theorem U46:type_of% V46.down:=V46.down
theorem b46:Bt 46 9 (Dx 0) [(.cell 4 33)]:=bt Tryz.func46 rfl
noncomputable def nR:=yy Tryz.f47
def V47:=PLift.up (aI (aI (@unf (nR 15) (X (O (r [x,u,u,u,u,v,u])) (r [u,v,u])) rfl) (@unf (nR 9) (X (R [u,u] I) (nR 15)) rfl)) (aI (@unf (nR 4) (X (R [u] (U (nR 9))) (F [u,v,u])) rfl) (@unf (nR 0) (R [u,u] (R [u] (nR 4))) rfl)))
theorem Dh:type_of% V47.down:=V47.down
theorem b47:Bt 47 17 (nR 0) [(.tmp 2)]:=bt Tryz.func47 rfl
noncomputable def nh:=yy Tryz.f80
def V80:=PLift.up (aI (aI (@unf (nh 15) (X (O (r [u,u,u,v,u,u])) (r [u,v,u])) rfl) (@unf (nh 9) (X (R [u,u] I) (nh 15)) rfl)) (aI (@unf (nh 4) (X (R [u] (U (nh 9))) (F [v,u])) rfl) (@unf (nh 0) (R [u] (R [u] (nh 4))) rfl)))
theorem DA:type_of% V80.down:=V80.down
theorem b80:Bt 80 15 (nh 0) [(.cell 2 33)]:=bt Tryz.func80 rfl
noncomputable def ii:=yy Tryz.f114
def V114:=PLift.up (aI (@unf (ii 2) (F [u,u,v,u]) rfl) (@unf (ii 0) (R [u] (ii 2)) rfl))
theorem U114:type_of% V114.down:=V114.down
theorem Ho:Bt 114 6 (ii 0) [(.tmp 2)]:=bt Tryz.func114 rfl
noncomputable def fU:=yy Tryz.f70
def V70:=PLift.up (aI (aI (@unf (fU 16) (r [u,v,u]) rfl) (@unf (fU 13) (X (O (G [u,u,u,u,u,u,u,u,v,u])) (fU 16)) rfl)) (aI (@unf (fU 7) (X (R [u,u,u] I) (fU 13)) rfl) (aI (@unf (fU 2) (X (R [v,u] (U (fU 7))) (F [v,u])) rfl) (@unf (fU 0) (R [u,u] (fU 2)) rfl))))
theorem AL:type_of% V70.down:=V70.down
theorem b70:Bt 70 28 (fU 0) [(.cell 10 33)]:=bt Tryz.func70 rfl
noncomputable def D6:=yy Tryz.f71
def V71:=PLift.up (aI (@unf (D6 2) (F [u,u,u,u,u,u,u,v,u]) rfl) (@unf (D6 0) (R [u] (D6 2)) rfl))
theorem U71:type_of% V71.down:=V71.down
theorem b71:Bt 71 15 (D6 0) [(.cell 6 33)]:=bt Tryz.func71 rfl
noncomputable def gQ:=yy Tryz.f101
def V101:=PLift.up (aI (aI (@unf (gQ 18) (r [u,v,u]) rfl) (aI (@unf (gQ 15) (X (O (r [u,u,u,u,u,u,u,u,u,v,u])) (gQ 18)) rfl) (@unf (gQ 9) (X (R [u,u] I) (gQ 15)) rfl))) (aI (aI (@unf (gQ 21) (F [u,u,u,v,u]) rfl) (@unf (gQ 19) (R [u,u,v,u,u] (gQ 21)) rfl)) (aI (@unf (gQ 2) (R [u] (X (R [u] (U (gQ 9))) (gQ 19))) rfl) (@unf (gQ 0) (R [u] (gQ 2)) rfl))))
theorem Zh:type_of% V101.down:=V101.down
theorem Eq:Bt 101 29 (gQ 0) [(.cell 4 33)]:=bt Tryz.func101 rfl
noncomputable def De:=yy Tryz.f81
def V81:=PLift.up (aI (@unf (De 2) (X (G [u,u,u,u,u,v,u]) .ret) rfl) (@unf (De 0) (R [u,u,u] (De 2)) rfl))
theorem U81:type_of% V81.down:=V81.down
theorem b81:Bt 81 11 (De 0) [(.cell 4 33)]:=bt Tryz.func81 rfl
noncomputable def Qi:=yy Tryz.f62
def V62:=PLift.up (aI (aI (aI (@unf (Qi 18) (r [u,v,u]) rfl) (aI (@unf (Qi 15) (X (O (r [x,u,u,u,u,v,u])) (Qi 18)) rfl) (@unf (Qi 9) (X (R [u,u,u,u] I) (Qi 15)) rfl))) (aI (aI (@unf (Qi 50) (r [u,v,u]) rfl) (@unf (Qi 47) (X (O (G [x,u,u,u,u,u,u,u,u,u,u,u,u,u,u,u,u,u,v,u])) (Qi 50)) rfl)) (aI (@unf (Qi 41) (X (R [u,u,u,u,u,u,u,u] I) (Qi 47)) rfl) (@unf (Qi 51) (r [x,u,u,v,u]) rfl)))) (aI (aI (@unf (Qi 52) (r [u,v,u]) rfl) (aI (@unf (Qi 32) (X (O (R [u] (X (R [u] (U (Qi 41))) (Qi 51)))) (Qi 52)) rfl) (@unf (Qi 26) (X (R [u,u,u] I) (Qi 32)) rfl))) (aI (aI (@unf (Qi 21) (X (R [u] (U (Qi 26))) (F [v,u])) rfl) (@unf (Qi 19) (R [u,v,u] (Qi 21)) rfl)) (aI (@unf (Qi 2) (R [u] (X (R [u] (U (Qi 9))) (Qi 19))) rfl) (@unf (Qi 0) (R [u] (Qi 2)) rfl)))))
theorem bU:type_of% V62.down:=V62.down
theorem b62:Bt 62 64 (Qi 0) [(.tmp 4)]:=bt Tryz.func62 rfl
noncomputable def CY:=yy Tryz.f61
def V61:=PLift.up (aI (@unf (CY 2) (F [u,u,u,u,y 8,y 8,u,u,y 12,y 12,v,u]) rfl) (@unf (CY 0) (R [u] (CY 2)) rfl))
theorem U61:type_of% V61.down:=V61.down
theorem b61:Bt 61 16 (CY 0) [(.tmp 4)]:=bt Tryz.func61 rfl
noncomputable def nE:=yy Tryz.f26
def V26:=PLift.up (aI (aI (@unf (nE 7) (T (F [v,u,u])) rfl) (@unf (nE 12) (F [u,u,u,u,u,u,u,v,u,u]) rfl)) (aI (@unf (nE 2) (R [u,u,v,u] (X (R [u,u] (nE 7)) (nE 12))) rfl) (@unf (nE 0) (R [u,u] (nE 2)) rfl)))
theorem xE:type_of% V26.down:=V26.down
theorem b26:Bt 26 21 (nE 0) [(.cell 4 33),(.tmp 5)]:=bt Tryz.func26 rfl
noncomputable def fS:=yy Tryz.f11
def V11:=PLift.up (aI (aI (@unf (fS 5) (T (F [v,u,u])) rfl) (@unf (fS 15) (T (F [v,v,u,u])) rfl)) (aI (@unf (fS 20) (F [u,u,v,u,u]) rfl) (aI (@unf (fS 10) (R [u,u,u,u,v,v,u,u,u] (X (R [u,u] (fS 15)) (fS 20))) rfl) (@unf (fS 0) (R [u,u] (X (R [u,u] (fS 5)) (fS 10))) rfl))))
theorem xJ:type_of% V11.down:=V11.down
theorem b11:Bt 11 24 (fS 0) [(.cell 4 35),(.tmp 5)]:=bt Tryz.func11 rfl
noncomputable def y8:=yy Tryz.f8
def V8:=PLift.up (aI (aI (@unf (y8 15) (X (O (r [u,u,u,u,u,u,u,u,u,u,v,u])) (r [u,v,u])) rfl) (@unf (y8 9) (X (R [u,u] I) (y8 15)) rfl)) (aI (@unf (y8 4) (X (R [u] (U (y8 9))) (F [v,u])) rfl) (@unf (y8 0) (R [u] (R [u] (y8 4))) rfl)))
theorem U8:type_of% V8.down:=V8.down
theorem b8:Bt 8 21 (y8 0) [(.tmp 2)]:=bt Tryz.func8 rfl
end Go.Proofs.YtgopigkdcmhbbaaGreatDoor
end
section
namespace Go.Proofs.YtgopigkdcmhbbaaGreatDoor
open Go Go.Aw
theorem vZ {R:D->AH->Prop} (hn:0<n) (hn2:n<32) (h:R (wD (rotr x n)) H):ACall Tryz.prog 141 [wD x,.i (n:Int)] H R:=by
 refine Hp fun hf=>?_
 have hbig:=qj
 have e1:IntKind.i64.wrap (32 - (n:Int))=((32 - n:Nat):Int):=by rw [qm (by omega) (by omega)];omega
 simp+contextual only [↓U141,wD,e1,↓U141.1,↓XP,qo,qa,qb]
 rw [eX,Nat.min_eq_left (by omega),Nat.min_eq_left (by omega),Wd x _ (by omega),Yu x _ hn2,lG]
 exact h
theorem vM (c:UInt8):c.toUInt32.toNat=c.toNat:=UInt8.toNat_toUInt32 c
theorem WL (x:W) (k:Nat) (hk:k<32) (h:x.toNat*2 ^ k<4294967296):(x<<<UInt32.ofNat k).toNat=x.toNat*2 ^ k:=by
 rw [UInt32.toNat_shiftLeft,Nat.shiftLeft_eq]
 have h2:(UInt32.ofNat k).toNat % 32=k:=by rw [UInt32.toNat_ofNat'];omega
 rw [h2]
 exact Nat.mod_eq_of_lt h
theorem zX (x y:W) (i:Nat) (hx:x.toNat % 2 ^ i=0) (hy:y.toNat<2 ^ i):(x|||y).toNat=x.toNat+y.toNat:=by rw [UInt32.toNat_or];exact nat_join i _ _ hx hy
theorem nj (m:List UInt8) (t:Nat):o0 m t 4=((((m.getD (4*t) 0).toUInt32<<<24)|||((m.getD (4*t+1) 0).toUInt32<<<16))|||((m.getD (4*t+2) 0).toUInt32<<<8))|||(m.getD (4*t+3) 0).toUInt32:=by
 show ((((((((0:W)<<<8)|||(m.getD (4*t+0) 0).toUInt32)<<<8)|||(m.getD (4*t+1) 0).toUInt32)<<<8)|||(m.getD (4*t+2) 0).toUInt32)<<<8)|||(m.getD (4*t+3) 0).toUInt32=_
 rw [Nat.add_zero]
 generalize m.getD (4*t) 0=a
 generalize m.getD (4*t+1) 0=b
 generalize m.getD (4*t+2) 0=c
 generalize m.getD (4*t+3) 0=d
 have ha:=a.toNat_lt
 have hb:=b.toNat_lt
 have hc:=c.toNat_lt
 have hd:=d.toNat_lt
 have k8:∀x:W,x.toNat<16777216->(x<<<8).toNat=x.toNat*256:=fun x h=>WL x 8 (by decide) (by omega)
 apply UInt32.toNat_inj.1
 have e0:(((0:W)<<<8)|||a.toUInt32).toNat=a.toNat:=by
  rw [zX _ _ 8 (by rfl) (by rw [vM];exact ha),vM]
  show 0+a.toNat=a.toNat
  omega
 have e1:((((0:W)<<<8)|||a.toUInt32)<<<8|||b.toUInt32).toNat=a.toNat*256+b.toNat:=by
  rw [zX _ _ 8 (by rw [k8 _ (by rw [e0];omega)];omega) (by rw [vM];exact hb),k8 _ (by rw [e0];omega),e0,vM]
 have e2:(((((0:W)<<<8)|||a.toUInt32)<<<8|||b.toUInt32)<<<8|||c.toUInt32).toNat=(a.toNat*256+b.toNat)*256+c.toNat:=by
  rw [zX _ _ 8 (by rw [k8 _ (by rw [e1];omega)];omega) (by rw [vM];exact hc),k8 _ (by rw [e1];omega),e1,vM]
 have f0:(a.toUInt32<<<24).toNat=a.toNat*16777216:=by rw [show (24:W)=UInt32.ofNat 24 from rfl,WL _ 24 (by decide) (by rw [vM];omega),vM]
 have f1:(b.toUInt32<<<16).toNat=b.toNat*65536:=by rw [show (16:W)=UInt32.ofNat 16 from rfl,WL _ 16 (by decide) (by rw [vM];omega),vM]
 have f2:(c.toUInt32<<<8).toNat=c.toNat*256:=by rw [k8 _ (by rw [vM];omega),vM]
 have g1:(a.toUInt32<<<24|||b.toUInt32<<<16).toNat=a.toNat*16777216+b.toNat*65536:=by rw [zX _ _ 24 (by rw [f0];omega) (by rw [f1];omega),f0,f1]
 have g2:(a.toUInt32<<<24|||b.toUInt32<<<16|||c.toUInt32<<<8).toNat=a.toNat*16777216+b.toNat*65536+c.toNat*256:=by rw [zX _ _ 16 (by rw [g1];omega) (by rw [f2];omega),g1,f2]
 rw [zX _ _ 8 (by rw [k8 _ (by rw [e2];omega)];omega) (by rw [vM];exact hd),k8 _ (by rw [e2];omega),e2,zX _ _ 8 (by rw [g2];omega) (by rw [vM];exact hd),g2]
 omega
theorem Kv {l:List UInt8} {i:Nat} (h:i<l.length):(l.map ql).getD i []= [.int .u8 ((l.getD i 0).toNat:Int)]:=by
 simp [List.getD,Mb h,ql]
theorem xQ (x:W):IntKind.u32.wrap ((x.toNat:Int)*2 ^ min 24 IntKind.u32.bits)=((x<<<24).toNat:Int):=Wd x 24 (by decide)
theorem Cp (x:W):IntKind.u32.wrap ((x.toNat:Int)*2 ^ min 16 IntKind.u32.bits)=((x<<<16).toNat:Int):=Wd x 16 (by decide)
theorem C1 (x:W):IntKind.u32.wrap ((x.toNat:Int)*2 ^ min 8 IntKind.u32.bits)=((x<<<8).toNat:Int):=Wd x 8 (by decide)
theorem Bn (x:W):((x.toNat:Int)).fdiv (2 ^ min 3 IntKind.u32.bits)=((x>>>3).toNat:Int):=Yu x 3 (by decide)
theorem pQ (x:W):((x.toNat:Int)).fdiv (2 ^ min 10 IntKind.u32.bits)=((x>>>10).toNat:Int):=Yu x 10 (by decide)
theorem mQ {m:List UInt8} {H:AH} {R:D->AH->Prop} (hm:m.length=64) (h:R (.agg ((wg m 64).map wD)) H):ACall Tryz.prog 140 [.slc (m.map ql)] H R:=by
 refine Ic fun hf=>?_
 have hbig:=qj
 simp+contextual only [↓Up,↓XP,qh,XW1,qa]
 intro b hb b1 hb1
 obtain ⟨n1,f1⟩:=hb1
 refine XW.loopS hmm 101 (fun t:Nat=>[(0,.slc (m.map ql)),(2,.ptr b 0),(3,.ptr b1 0),(4,.i ((t:Nat):Int))]) (fun t=>(b1,.cells (arr (wg m t)))::(b,.cells (arr []))::H) (fun t=>16 - t) (fun t=>t<=16) 0 (by omega) ⟨rfl,rfl,rfl,rfl,rfl,trivial⟩ rfl ?_
 intro t z ht K hN hE hR
 dsimp only [fl,zz,qa,qb]
 by_cases hlt:t<16
 ·have hlt':((t:Int)<16)=True:=eq_true (by omega)
  have v0:IntKind.i64.wrap (4*(t:Int))=((4*t:Nat):Int):=by rw [qm (by omega) (by omega)];omega
  have v1:IntKind.i64.wrap (((4*t:Nat):Int)+1)=((4*t+1:Nat):Int):=by rw [qm (by omega) (by omega)];omega
  have v2:IntKind.i64.wrap (((4*t:Nat):Int)+2)=((4*t+2:Nat):Int):=by rw [qm (by omega) (by omega)];omega
  have v3:IntKind.i64.wrap (((4*t:Nat):Int)+3)=((4*t+3:Nat):Int):=by rw [qm (by omega) (by omega)];omega
  have q0:=Kv (l:=m) (i:=4*t) (by omega)
  have q1:=Kv (l:=m) (i:=4*t+1) (by omega)
  have q2:=Kv (l:=m) (i:=4*t+2) (by omega)
  have q3:=Kv (l:=m) (i:=4*t+3) (by omega)
  have al:(arr (wg m t)).length=64:=JF (by rw [jh];omega)
  have g3:=WV (l:=wg m t) (y:=o0 m t 4) (by rw [jh];omega)
  rw [jh,nj] at g3
  have hw:wg m t++ [o0 m t 4]=wg m (t+1):=by rw [wg,UP,if_pos hlt]
  rw [nj] at hw
  rw [hw] at g3
  simp+contextual only [Nat.mul_one,Mu,Mv,Mf,GI,lG,hlt',v0,v1,v2,v3,q0,q1,q2,q3,hm,mU,xQ,Cp,C1,al,↓Up,↓XP,qh,XW1]
  unfold wD at g3
  rw [qi (by omega),g3]
  exact ⟨by omega,by omega,by omega,by omega,by omega,by omega,hN (t+1) _ _ (by omega) (by omega) ⟨rfl,rfl,rfl,rfl,rfl,trivial⟩ (qz rfl)⟩
 ·obtain rfl:t=16:=by omega
  have hlt':(((16:Nat):Int)<16)=False:=eq_false (by decide)
  simp+contextual only [Mf,↓Up,↓XP,qo]
  apply hE
  simp+contextual only [↓Up,↓XP,qo,XW1]
  refine XW.loopS hmm 101 (fun t:Nat=>[(2,.ptr b 0),(3,.ptr b1 0),(5,.i ((t:Nat):Int))]) (fun t=>(b1,.cells (arr (wg m t)))::(b,.cells (arr []))::H) (fun t=>64 - t) (fun t=>16<=t∧t<=64) 16 ⟨by omega,by omega⟩ ⟨rfl,rfl,rfl,rfl,trivial⟩ rfl ?_
  rintro t z ⟨ht1,ht⟩ K hN hE hR
  dsimp only [fl,zz,qa,qb]
  by_cases hlt:t<64
  ·have hlt':((t:Int)<64)=True:=eq_true (by omega)
   have v15:IntKind.i64.wrap ((t:Int) - 15)=((t - 15:Nat):Int):=by rw [qm (by omega) (by omega)];omega
   have v2:IntKind.i64.wrap ((t:Int) - 2)=((t - 2:Nat):Int):=by rw [qm (by omega) (by omega)];omega
   have v16:IntKind.i64.wrap ((t:Int) - 16)=((t - 16:Nat):Int):=by rw [qm (by omega) (by omega)];omega
   have v7:IntKind.i64.wrap ((t:Int) - 7)=((t - 7:Nat):Int):=by rw [qm (by omega) (by omega)];omega
   have c15:(((t - 15:Nat):Int)<64)=True:=eq_true (by omega)
   have c2:(((t - 2:Nat):Int)<64)=True:=eq_true (by omega)
   have c16:(((t - 16:Nat):Int)<64)=True:=eq_true (by omega)
   have c7:(((t - 7:Nat):Int)<64)=True:=eq_true (by omega)
   have g15:=wZ (l:=wg m t) (i:=t - 15) (by rw [jh];omega)
   have g2:=wZ (l:=wg m t) (i:=t - 2) (by rw [jh];omega)
   have g16:=wZ (l:=wg m t) (i:=t - 16) (by rw [jh];omega)
   have g7:=wZ (l:=wg m t) (i:=t - 7) (by rw [jh];omega)
   have al:(arr (wg m t)).length=64:=JF (by rw [jh];omega)
   have hw:wg m (t+1)=wg m t++ [(wg m t).getD (t - 16) 0+sE ((wg m t).getD (t - 15) 0)+(wg m t).getD (t - 7) 0+pt ((wg m t).getD (t - 2) 0)]:=by rw [wg,UP,if_neg (by omega)]
   have g3:=WV (l:=wg m t) (y:=(wg m t).getD (t - 16) 0+sE ((wg m t).getD (t - 15) 0)+(wg m t).getD (t - 7) 0+pt ((wg m t).getD (t - 2) 0)) (by rw [jh];exact hlt)
   rw [jh,<-hw] at g3
   unfold sE pt wD at g3
   simp+contextual only [wD,Nat.mul_one,Mf,yo,hlt',v15,c15,g15,↓Up,↓XP,qh,XW1]
   refine ⟨_,fun _ _=>vZ (n:=7) (by decide) (by decide) ⟨rfl,rfl⟩,?_⟩
   simp+contextual only [wD,Nat.mul_one,Mf,yo,v15,c15,g15,↓XP,qh,XW1]
   refine ⟨_,fun _ _=>vZ (n:=18) (by decide) (by decide) ⟨rfl,rfl⟩,?_⟩
   simp+contextual only [wD,Nat.mul_one,Mu,Mv,Mf,yo,vV,v15,c15,g15,v2,c2,g2,Bn,↓Up,↓XP,qh,XW1]
   refine ⟨_,fun _ _=>vZ (n:=17) (by decide) (by decide) ⟨rfl,rfl⟩,?_⟩
   simp+contextual only [wD,Nat.mul_one,Mf,yo,v2,c2,g2,↓XP,qh,XW1]
   refine ⟨_,fun _ _=>vZ (n:=19) (by decide) (by decide) ⟨rfl,rfl⟩,?_⟩
   simp+contextual only [wD,Nat.mul_one,Mu,Mv,Mf,yo,vV,oz,hlt',v2,c2,g2,v16,c16,g16,v7,c7,g7,pQ,al,↓Up,↓XP,qh,XW1]
   rw [qi (by omega),g3]
   exact ⟨hlt,hN (t+1) _ _ ⟨by omega,by omega⟩ (by omega) ⟨rfl,rfl,rfl,rfl,trivial⟩ (qz rfl)⟩
  ·obtain rfl:t=64:=by omega
   have hlt':(((64:Nat):Int)<64)=False:=eq_false (by decide)
   simp+contextual only [Mf,↓Up,↓XP,qo]
   apply hE
   simp+contextual only [qg,qk,n1,VO (jh m 64),wt (jh m 64),wv,Ud,jh,↓XP,qh,XW1]
   exact ⟨Ms _,h⟩
theorem ln (l:List UInt8):l.map ql++ [[.int .u8 0]]=(l++ [0]).map ql:=Vg l 0
theorem au (l:List UInt8):l.map ql++ [[.int .u8 128]]=(l++ [128]).map ql:=Vg l 128
def pz (m:List UInt8) (j:Nat):List UInt8:=m++128::List.replicate j 0
theorem Zb (m:List UInt8) (j:Nat):(pz m j).length=m.length+(j+1):=by simp [pz]
theorem sZ (m:List UInt8) (j:Nat):pz m j++ [0]=pz m (j+1):=by simp [pz,List.replicate_succ']
def pe (m:List UInt8) (i:Nat):List UInt8:=pz m (zP m.length)++(List.range i).map fun k=>nM (8*m.length) (56 - 8*k)
theorem tg (m:List UInt8) (i:Nat):(pe m i).length=m.length+(zP m.length+1)+i:=by simp [pe,Zb]
theorem xj (m:List UInt8) (i:Nat):pe m i++ [nM (8*m.length) (56 - 8*i)]=pe m (i+1):=by simp [pe,M3]
theorem EZ (m:List UInt8):pz m (zP m.length)=pe m 0:=by simp [pe]
theorem EG (m:List UInt8):pe m 8=m++Q5 m.length:=by
 unfold pe pz Q5
 rw [Mp,List.cons_append]
theorem bQ {R:D->AH->Prop} (hm:m.length<=4294967296) (h:R (.own ((m++Q5 m.length).map ql)) H):ACall Tryz.prog 139 [.slc (m.map ql)] H R:=by
 refine IK fun hf=>?_
 have hbig:=qj
 have hz:zP m.length<64:=Nat.mod_lt _ (by decide)
 simp+contextual only [↓ZK,Nat.mul_one,au,M5,↓ZK,↓XP,qh,XW1,qa,qe]
 refine ⟨Un _,by omega,Un _,by omega,?_⟩
 refine XW.loopS hmm 37 (fun j:Nat=>[(0,.slc (m.map ql)),(3,.own ((pz m ((j:Nat))).map ql))]) (fun _=>H) (fun j=>zP m.length - j) (fun j=>j<=zP m.length) 0 (Nat.zero_le _) ⟨rfl,rfl,rfl,trivial⟩ rfl ?_
 intro j z hj K hN hE hR
 dsimp only [fl,zz,qa,qb]
 have w2:IntKind.i64.wrap ((m.length+(j+1):Nat):Int)=((m.length+(j+1):Nat):Int):=qm (by omega) (by omega)
 have w3:((m.length+(j+1):Nat):Int).tmod 64=(((m.length+(j+1)) % 64:Nat):Int):=by rw [Int.tmod_eq_emod_of_nonneg (Ml _)];omega
 by_cases hlt:j<zP m.length
 ·have ht:decide ((((m.length+(j+1)) % 64:Nat):Int)=56)=false:=decide_eq_false (by unfold zP at hlt;omega)
  simp+contextual only [Nat.mul_one,ln,w3,ht,Zb,sZ,↓ZK,↓XP,qh,XW1,qe]
  exact fun _=>⟨by decide,Un _,by omega,hN (j+1) _ _ (by omega) (by omega) ⟨rfl,rfl,rfl,trivial⟩ (qz rfl)⟩
 ·have hj2:j=zP m.length:=by omega
  have ht:decide ((((m.length+(j+1)) % 64:Nat):Int)=56)=true:=decide_eq_true (by rw [hj2];unfold zP;omega)
  simp+contextual only [w3,ht,Zb,↓ZK,↓XP,qh,XW1]
  refine fun _=>⟨by decide,?_⟩
  apply hE
  have w5:IntKind.u64.wrap (m.length:Int)=(m.length:Int):=KG (by omega) (by omega)
  have w6:IntKind.u64.wrap (8*(m.length:Int))=((8*m.length:Nat):Int):=by rw [KG (by omega) (by omega)];omega
  rw [hj2,EZ]
  simp+contextual only [w5,w6,↓ZK,↓XP,qh,XW1]
  refine fun _=>?_
  refine XW.loopS hmm 37 (fun i:Nat=>[(3,.own ((pe m ((i:Nat))).map ql)),(4,.int .u64 ((8*m.length:Nat):Int)),(5,.i (i:Int))]) (fun _=>H) (fun i=>8 - i) (fun i=>i<=8) 0 (Nat.zero_le _) ⟨rfl,rfl,rfl,rfl,trivial⟩ rfl ?_
  intro i z hi K hN hE hR
  dsimp only [fl,zz,qa,qb]
  by_cases hlt:i<8
  ·have hlt':((i:Int)<8)=True:=eq_true (by omega)
   have v4:IntKind.i64.wrap (8*(i:Int))=((8*i:Nat):Int):=by rw [qm (by omega) (by omega)];omega
   have v5:IntKind.i64.wrap (56 - ((8*i:Nat):Int))=((56 - 8*i:Nat):Int):=by rw [qm (by omega) (by omega)];omega
   have v6:min (56 - 8*i) IntKind.u64.bits=56 - 8*i:=Nat.min_eq_left (by show _<=64;omega)
   simp+contextual only [Nat.mul_one,Vg,hlt',v4,v5,v6,G5,tg,xj,↓ZK,↓XP,qh,XW1,qe]
   rw [qi (by omega)]
   exact ⟨Un _,by omega,hN (i+1) _ _ (by omega) (by omega) ⟨rfl,rfl,rfl,rfl,trivial⟩ (qz rfl)⟩
  ·have hi8:i=8:=by omega
   have hlt':((i:Int)<8)=False:=eq_false (by omega)
   simp+contextual only [hlt',↓ZK,↓XP,qo]
   apply hE
   rw [hi8,EG]
   simp+contextual only [Mf,↓XP,qo,XW1]
   exact h
def Kst0 (H:AH):Prop:=qn H 0=some (.cst kD)
theorem Kst0.sub (h:Kst0 H) (hs:Sub H H1):Kst0 H1:=by
 obtain ⟨o',g1,g2⟩:=hs _ _ h
 rcases g2 with g2|g2
 ·rw [<-g2] at g1;exact g1
 ·cases o' with
  |cst cs=>injection g2 with g2;rw [<-g2] at g1;exact g1
  |_=>simp [ZL] at g2
theorem Kst0.push (h:Kst0 H) (hb:qD H b):Kst0 ((b,o)::H):=(qg (qT hb h)).trans h
theorem mO (h:t<64):kD[t]?=some (wD (kW.getD t 0)):=by
 have h2:t<kW.length:=by rw [Vd];exact h
 simp [kD,List.getD,Mb h2]
theorem sF {mp:List UInt8} {s:S8} {ws:List W} {b2 b3 b6 a5:Nat} {H:AH} {F:List D} (hg:Kst0 H) (hw6:qn H b6=some (.cells (ws.map wD))) (hwl:ws.length=64) (hF:Fr 164 [(2,.ptr b2 0),(3,.ptr b3 0),(4,.own (mp.map ql)),(5,.i (a5:Int)),(6,.ptr b6 0),(7,wD s.a),(8,wD s.b),(9,wD s.c),(10,wD s.d),(11,wD s.e),(12,wD s.f),(13,wD s.g),(14,wD s.h),(15,.i 0)] F) {Q:AQ}
  (hQ:∀F' t r,t=64->rnds s ws t=r->Fr 164 [(2,.ptr b2 0),(3,.ptr b3 0),(4,.own (mp.map ql)),(5,.i (a5:Int)),(7,wD r.a),(8,wD r.b),(9,wD r.c),(10,wD r.d),(11,wD r.e),(12,wD r.f),(13,wD r.g),(14,wD r.h)] F'->Q (.exit 2) F' H):XW Tryz.prog (kx 28) F H Q:=by
 have hbig:=qj
 refine XW.loopS hmm 164 (fun t:Nat=>[(2,.ptr b2 0),(3,.ptr b3 0),(4,.own (mp.map ql)),(5,.i (a5:Int)),(6,.ptr b6 0),(7,wD (rnds s ws t).a),(8,wD (rnds s ws t).b),(9,wD (rnds s ws t).c),(10,wD (rnds s ws t).d),(11,wD (rnds s ws t).e),(12,wD (rnds s ws t).f),(13,wD (rnds s ws t).g),(14,wD (rnds s ws t).h),(15,.i ((t:Nat):Int))]) (fun _=>H) (fun t=>64 - t) (fun t=>t<=64) 0 (Nat.zero_le _) hF rfl ?_
 intro t z ht K hN hE hR
 have hr1:rnds s ws (t+1)=rnd (rnds s ws t) (kW.getD t 0) (ws.getD t 0):=rfl
 have hr0:rnds s ws t=rnds s ws t:=rfl
 dsimp only [fl,zz,qa,qb]
 generalize hrr:rnds s ws t=r at hr1
 by_cases hlt:t<64
 ·have hlt':((t:Int)<64)=True:=eq_true (by omega)
  have hk:=mO hlt
  have hw:(ws.map wD)[t]?=some (wD (ws.getD t 0)):=by
   have h2:t<ws.length:=by omega
   simp [List.getD,List.getElem?_map,Mb h2]
  have hg':qn H 0=some (.cst kD):=hg
  have hx:(0xffffffff:W).toNat=4294967295:=rfl
  have hx2:∀x:W,bits .xor .u32 (x.toNat:Int) 4294967295=((x ^^^ 0xffffffff).toNat:Int):=fun x=>vV x 0xffffffff
  generalize kW.getD t 0=kk at hk hr1
  generalize ws.getD t 0=ww at hw hr1
  simp+contextual only [wD,hlt',↓Qw,↓XP,qo]
  refine ⟨_,fun _ _=>vZ (n:=6) (by decide) (by decide) ⟨rfl,rfl⟩,?_⟩
  simp+contextual only [wD,yo,↓XP,qo,XW1]
  refine ⟨_,fun _ _=>vZ (n:=11) (by decide) (by decide) ⟨rfl,rfl⟩,?_⟩
  simp+contextual only [wD,yo,vV,↓XP,qo,XW1]
  refine ⟨_,fun _ _=>vZ (n:=25) (by decide) (by decide) ⟨rfl,rfl⟩,?_⟩
  simp+contextual only [wD,Nat.mul_one,Mf,yo,vV,Gv,oz,hlt',hg',hw6,hk,hw,hx2,↓Qw,↓XP,qh,XW1,↓XH]
  refine vZ (n:=2) (by decide) (by decide) ?_
  simp+contextual only [wD,yo,↓XP,qo,XW1]
  refine vZ (n:=13) (by decide) (by decide) ?_
  simp+contextual only [wD,yo,vV,↓XP,qo,XW1]
  refine vZ (n:=22) (by decide) (by decide) ?_
  simp+contextual only [wD,yo,vV,Gv,oz,↓Qw,↓XP,qo,XW1]
  rw [qi (by omega)]
  refine hN (t+1) _ _ (by omega) (by omega) ?_ (qz rfl)
  show Fr 164 [(2,.ptr b2 0),(3,.ptr b3 0),(4,.own (mp.map ql)),(5,.i (a5:Int)),(6,.ptr b6 0),(7,wD (rnds s ws (t+1)).a),(8,wD (rnds s ws (t+1)).b),(9,wD (rnds s ws (t+1)).c),(10,wD (rnds s ws (t+1)).d),(11,wD (rnds s ws (t+1)).e),(12,wD (rnds s ws (t+1)).f),(13,wD (rnds s ws (t+1)).g),(14,wD (rnds s ws (t+1)).h),(15,.i ((t+1:Nat):Int))] _
  rw [hr1]
  exact ⟨rfl,rfl,rfl,rfl,rfl,rfl,rfl,rfl,rfl,rfl,rfl,rfl,rfl,rfl,rfl,trivial⟩
 ·have ht64:t=64:=by omega
  have hlt':((t:Int)<64)=False:=eq_false (by omega)
  simp+contextual only [wD,hlt',↓Qw,↓XP,qo]
  exact hE _ _ _ (hQ _ t r ht64 hrr ⟨rfl,rfl,rfl,rfl,rfl,rfl,rfl,rfl,rfl,rfl,rfl,rfl,rfl,trivial⟩)
def oQ (st:S8) (m:List UInt8):Nat->S8
 |0=>st
 |k+1=>vY (oQ st m k) ((m.drop (64*k)).take 64)
def gf (m:List UInt8):List UInt8:=KB (oQ iv (m++Q5 m.length) ((m.length+zP m.length+9) / 64))
theorem oh (m:List UInt8):(gf m).length=32:=JR _
theorem rq {l:List UInt8} {a:Nat}:((l.map ql).take (a+64)).drop a=((l.drop a).take 64).map ql:=by
 rw [<-List.map_take,<-List.map_drop,List.drop_take,show a+64 - a=64 by omega]
theorem Zl {m:List UInt8} {H:AH} {R:D->AH->Prop} (hg:Kst0 H) (hm:m.length<=4294967296) (h:R (.agg (jp (gf m))) H):ACall Tryz.prog 121 [.slc (m.map ql)] H R:=by
 refine Ih fun hf=>?_
 have hbig:=qj
 simp+contextual only [↓Qw,↓Qw,↓XP,qh,XW1,qa,qb,qe]
 intro b2 h2 b3 h3
 obtain ⟨n32,f3⟩:=h3
 refine bQ hm ?_
 have hmpl:(m++Q5 m.length).length=m.length+zP m.length+9:=by rw [Mh,Kj];omega
 have hz:zP m.length<64:=Nat.mod_lt _ (by decide)
 have hdiv:(m.length+zP m.length+9) % 64=0:=by unfold zP;omega
 rw [show gf m=KB (oQ iv (m++Q5 m.length) ((m.length+zP m.length+9) / 64)) from rfl] at h
 generalize m++Q5 m.length=mp at hmpl h
 simp+contextual only [↓XP,qo]
 intro _
 refine XW.loopS hmm 164 (fun k:Nat=>[(2,.ptr b2 0),(3,.ptr b3 0),(4,.own (mp.map ql)),(5,.i ((64*k:Nat):Int))]) (fun k=>(b3,.cells (oQ iv mp k).D)::(b2,.cells (barr 32 []))::H) (fun k=>(m.length+zP m.length+9) / 64 - k) (fun k=>k<=(m.length+zP m.length+9) / 64) 0 (Nat.zero_le _) ⟨rfl,rfl,rfl,rfl,rfl,trivial⟩ rfl ?_
 intro k z hk K hN hE hR
 dsimp only [fl,zz,qa,qb]
 have hr1:oQ iv mp (k+1)=vY (oQ iv mp k) ((mp.drop (64*k)).take 64):=rfl
 have hr0:k=(m.length+zP m.length+9) / 64->oQ iv mp ((m.length+zP m.length+9) / 64)=oQ iv mp k:=fun e=>by rw [e]
 by_cases hlt:k<(m.length+zP m.length+9) / 64
 ·have hlt':(((64*k:Nat):Int)<(mp.length:Int))=True:=eq_true (by omega)
  have v1:IntKind.i64.wrap (((64*k:Nat):Int)+64)=((64*k+64:Nat):Int):=by rw [qm (by omega) (by omega)];omega
  have hbl:((mp.drop (64*k)).take 64).length=64:=by rw [M0,List.length_drop];omega
  obtain ⟨bl,hbe⟩:∃bl,(mp.drop (64*k)).take 64=bl:=⟨_,rfl⟩
  rw [hbe] at hr1 hbl
  generalize oQ iv mp k=s at hr1
  simp+contextual only [hlt',v1,rq,hbe,↓Qw,↓XP,qh]
  refine fun _=>⟨Un _,by omega,by omega,mQ hbl ?_⟩
  have hwl:=jh bl 64
  obtain ⟨c,hc⟩:∃c,vY s bl=c:=⟨_,rfl⟩
  rw [hc] at hr1
  rw [vY] at hc
  generalize wg bl 64=ws at hwl hc
  simp+contextual only [Nat.mul_one,Mw,Mf,hwl,↓Qw,↓XP,qh,XW1,qb]
  intro b6 h6
  obtain ⟨n63,n62,f6⟩:=h6
  have hsd:s.D= [wD s.a,wD s.b,wD s.c,wD s.d,wD s.e,wD s.f,wD s.g,wD s.h]:=rfl
  simp+contextual only [wD,Nat.mul_one,Mu,Mv,Mw,Mf,yo,hsd,qg,n63,↓XP,qh,XW1]
  refine sF (s:=s) (ws:=ws) (a5:=64*k) (b6:=b6) (((Kst0.push hg h2).push ⟨Ne.symm n32,f3⟩).push ⟨Ne.symm n63,Ne.symm n62,f6⟩) jf hwl ⟨rfl,rfl,rfl,rfl,rfl,rfl,rfl,rfl,rfl,rfl,rfl,rfl,rfl,rfl,rfl,trivial⟩ fun F' t r ht64 hr hF'=>?_
  rw [ht64] at hr
  rw [hr] at hc
  obtain ⟨z,rfl⟩:=hF'.lit
  show y5 2 _ (.exit 2) [z 0,z 1,.ptr b2 0,.ptr b3 0,.own (mp.map ql),.i ((64*k:Nat):Int),z 6,wD r.a,wD r.b,wD r.c,wD r.d,wD r.e,wD r.f,wD r.g,wD r.h,z 15,z 16,z 17,z 18,z 19,z 20,z 21,z 22,z 23,z 24,z 25,z 26,z 27,z 28,z 29,z 30,z 31,z 32,z 33,z 34,z 35,z 36,z 37,z 38,z 39,z 40,z 41,z 42,z 43,z 44,z 45,z 46,z 47,z 48,z 49,z 50,z 51,z 52,z 53,z 54,z 55,z 56,z 57,z 58,z 59,z 60,z 61,z 62,z 63,z 64,z 65,z 66,z 67,z 68,z 69,z 70,z 71,z 72,z 73,z 74,z 75,z 76,z 77,z 78,z 79,z 80,z 81,z 82,z 83,z 84,z 85,z 86,z 87,z 88,z 89,z 90,z 91,z 92,z 93,z 94,z 95,z 96,z 97,z 98,z 99,z 100,z 101,z 102,z 103,z 104,z 105,z 106,z 107,z 108,z 109,z 110,z 111,z 112,z 113,z 114,z 115,z 116,z 117,z 118,z 119,z 120,z 121,z 122,z 123,z 124,z 125,z 126,z 127,z 128,z 129,z 130,z 131,z 132,z 133,z 134,z 135,z 136,z 137,z 138,z 139,z 140,z 141,z 142,z 143,z 144,z 145,z 146,z 147,z 148,z 149,z 150,z 151,z 152,z 153,z 154,z 155,z 156,z 157,z 158,z 159,z 160,z 161,z 162,z 163] _
  simp+contextual only [wD,Nat.mul_one,Mu,Mv,Mw,Mf,yo,oz,qg,qk,n63,↓Qw,↓XP,qh,XW1,qb,qe,qf]
  rw [v1]
  refine hN (k+1) _ _ (by omega) (by omega) ⟨rfl,rfl,rfl,rfl,rfl,trivial⟩ ?_
  show back _ _=(b3,AO.cells (oQ iv mp (k+1)).D)::(b2,AO.cells (barr 32 []))::H
  rw [hr1,<-hc]
  exact kV rfl
 ·have hkn:k=(m.length+zP m.length+9) / 64:=by omega
  have hlt':(((64*k:Nat):Int)<(mp.length:Int))=False:=eq_false (by omega)
  rw [<-hkn] at h
  generalize oQ iv mp k=s at h
  simp+contextual only [hlt',↓Qw,↓XP,qh]
  refine fun _=>?_
  apply hE
  simp+contextual only [↓Qw,↓XP,qh,XW1]
  intro b8 h8
  obtain ⟨n83,n82,f8⟩:=h8
  refine XW.loopS hmm 164 (fun i:Nat=>[(2,.ptr b2 0),(3,.ptr b3 0),(18,.ptr b8 0),(19,.i ((i:Nat):Int))]) (fun i=>(b8,.cells (barr 32 (QA s i)))::(b3,.cells s.D)::(b2,.cells (barr 32 []))::H) (fun i=>32 - i) (fun i=>i<=32) 0 (Nat.zero_le _) ⟨rfl,rfl,rfl,rfl,rfl,trivial⟩ rfl ?_
  intro i z hi K hN hE hR
  dsimp only [fl,zz,qa,qb]
  by_cases hlt:i<32
  ·have hlt':((i:Int)<32)=True:=eq_true (by omega)
   have x1:IntKind.i64.wrap ((i:Int).tdiv 4)=((i / 4:Nat):Int):=by rw [Int.tdiv_eq_ediv_of_nonneg (Ml _),qm (by omega) (by omega)];omega
   have x2:(i:Int).tmod 4=((i % 4:Nat):Int):=by rw [Int.tmod_eq_emod_of_nonneg (Ml _)];omega
   have x3:IntKind.i64.wrap (8*((i % 4:Nat):Int))=((8*(i % 4):Nat):Int):=by rw [qm (by omega) (by omega)];omega
   have x4:IntKind.i64.wrap (24 - ((8*(i % 4):Nat):Int))=((24 - 8*(i % 4):Nat):Int):=by rw [qm (by omega) (by omega)];omega
   have x5:min (24 - 8*(i % 4)) IntKind.u32.bits=24 - 8*(i % 4):=Nat.min_eq_left (by show _<=32;omega)
   have x6:=S8.get s (j:=i / 4) (by omega)
   have x7:(barr 32 (QA s i)).length=32:=gX (by rw [uq];omega)
   have x8:=KP (n:=32) (l:=QA s i) (c:=ZG s i) (by rw [uq];exact hlt)
   have x9:(((i / 4:Nat):Int)<8)=True:=eq_true (by omega)
   rw [uq,YA] at x8
   unfold bD ZG at x8
   simp+contextual only [wD,Nat.mul_one,Mf,yo,qg,n83,hlt',x1,x2,x3,x4,x5,x6,x7,x8,x9,G5,↓Qw,↓XP,qh,XW1]
   rw [qi (by omega)]
   exact ⟨by decide,by decide,hlt,hN (i+1) _ _ (by omega) (by omega) ⟨rfl,rfl,rfl,rfl,rfl,trivial⟩ (qz rfl)⟩
  ·have hi32:i=32:=by omega
   have hlt':((i:Int)<32)=False:=eq_false (by omega)
   simp+contextual only [hlt',↓Qw,↓XP,qo]
   apply hE
   have ho:QA s i=KB s:=by rw [hi32];rfl
   have hol:(KB s).length=32:=JR s
   have hob:=zr hol
   rw [ho]
   simp+contextual only [qg,qk,n32,n82,hob,qw,hol,qV hol,jj,show (barr 32 []).drop 32= [] from rfl,show (barr 32 []).length=32 from rfl,↓XP,qh,XW1]
   exact h
structure Id3 where
 o:Int
 s:Int
 i:Int
 deriving DecidableEq
structure Rf where
 o:Int
 s:Int
 deriving DecidableEq
structure OpP where
 k:Int
 on:Id3
 to:Id3
 ids:List Id3
 n:Int
 name:List UInt8
 text:List UInt8
 a:Int
 b:Int
 deriving DecidableEq
structure Pt where
 o:Int
 s:Int
 day:Int
 needs:List Rf
 ops:List OpP
 sl:List UInt8
 deriving DecidableEq
def QJ:Id3:=⟨0,0,0⟩
def yu:OpP:=⟨0,QJ,QJ,[],0,[],[],0,0⟩
def pt0:Pt:=⟨0,0,0,[],[],[]⟩
instance:Inhabited Id3:=⟨QJ⟩
instance:Inhabited Rf:=⟨⟨0,0⟩⟩
instance:Inhabited OpP:=⟨yu⟩
instance:Inhabited Pt:=⟨pt0⟩
def Id3.d (x:Id3):List D:= [.i x.o,.i x.s,.i x.i]
def Rf.d (x:Rf):List D:= [.i x.o,.i x.s]
def qW (l:List Id3):List (List D):=l.map Id3.d
def qt (l:List Rf):List (List D):=l.map Rf.d
def OpP.d (x:OpP):List D:= [.i x.k,.i x.on.o,.i x.on.s,.i x.on.i,.i x.to.o,.i x.to.s,.i x.to.i,.slc (qW x.ids),.i x.n,.str x.name,.str x.text,.i x.a,.i x.b]
def qu (l:List OpP):List (List D):=l.map OpP.d
def Pt.d (p:Pt):List D:= [.i p.o,.i p.s,.i p.day,.slc (qt p.needs),.slc (qu p.ops),.str p.sl]
def je (l:List Pt):List (List D):=l.map Pt.d
def jG (l:List Bool):List (List D):=l.map fun b=>[.bool b]
def jc (l:List (List Bool)):List (List D):=l.map fun x=>[.slc (jG x)]
def upto {α:Type} (f:Nat->List α):Nat->List α
 |0=>[]
 |k+1=>upto f k++f k
theorem ou {α:Type} {f:Nat->List α} {c:Nat} (h:∀k,(f k).length<=c):∀k,(upto f k).length<=k*c
 |0=>by simp [upto]
 | k+1=>by
  have:=ou h k
  have:=h k
  rw [upto,Mh,Nat.add_mul]
  omega
theorem upto_mem {α:Type} {f:Nat->List α} {x:α}:∀{k:Nat},x∈upto f k↔∃i,i<k∧x∈f i
 |0=>by simp [upto]
 | k+1=>by
  rw [upto,List.mem_append,upto_mem]
  constructor
  ·rintro (⟨i,h1,h2⟩|h)
   ·exact ⟨i,by omega,h2⟩
   ·exact ⟨k,by omega,h⟩
  ·rintro ⟨i,h1,h2⟩
   by_cases e:i<k
   ·exact .inl ⟨i,e,h2⟩
   ·obtain rfl:i=k:=by omega
    exact .inr h2
theorem jx {α:Type} {l:List α} {i:Nat} {d:α} (h:i<l.length):l.getD i d=l[i]:=by simp [h]
theorem qE:(qW l).length=l.length:=by simp [qW]
theorem j4:(qt l).length=l.length:=by simp [qt]
theorem qI:(qu l).length=l.length:=by simp [qu]
theorem jC:(je l).length=l.length:=by simp [je]
theorem vj:(jG l).length=l.length:=by simp [jG]
theorem UQ:(jc l).length=l.length:=by simp [jc]
theorem yj (h:i<l.length):(qW l).getD i []=(l.getD i default).d:=by simp [qW,h]
theorem wB (h:i<l.length):(qt l).getD i []=(l.getD i default).d:=by simp [qt,h]
theorem kJ (h:i<l.length):(qu l).getD i []=(l.getD i default).d:=by simp [qu,h]
theorem vR (h:i<l.length):(je l).getD i []=(l.getD i default).d:=by simp [je,h]
theorem Qt (h:i<l.length):(jG l).getD i []= [.bool (l.getD i false)]:=by simp [jG,h]
theorem co (h:i<l.length):(jc l).getD i []= [.slc (jG (l.getD i []))]:=by simp [jc,h]
theorem Us:∀x∈qW l,x.length=3:=by
 intro x hx
 obtain ⟨t,_,rfl⟩:=List.mem_map.1 hx
 rfl
theorem zW:∀x∈qt l,x.length=2:=by
 intro x hx
 obtain ⟨t,_,rfl⟩:=List.mem_map.1 hx
 rfl
theorem kP:∀x∈qu l,x.length=13:=by
 intro x hx
 obtain ⟨t,_,rfl⟩:=List.mem_map.1 hx
 rfl
theorem mY:∀x∈je l,x.length=6:=by
 intro x hx
 obtain ⟨t,_,rfl⟩:=List.mem_map.1 hx
 rfl
theorem mL:∀x∈jG l,x.length=1:=by
 intro x hx
 obtain ⟨t,_,rfl⟩:=List.mem_map.1 hx
 rfl
theorem tq:∀x∈jc l,x.length=1:=by
 intro x hx
 obtain ⟨t,_,rfl⟩:=List.mem_map.1 hx
 rfl
theorem WD:qW a++qW b=qW (a++b):=by simp [qW]
theorem Vu:qt a++qt b=qt (a++b):=by simp [qt]
theorem Wp:qu a++qu b=qu (a++b):=by simp [qu]
theorem Gi:je a++je b=je (a++b):=by simp [je]
def around (n most:Int):Int:=(if n<0 then -(n+1) else n).tmod most
theorem j3 (h:0<most):0<=around n most∧around n most<most:=by
 unfold around
 have h0:0<=(if n<0 then -(n+1) else n):=by split<;>omega
 rw [Int.tmod_eq_emod_of_nonneg h0]
 exact ⟨Int.emod_nonneg _ (by omega),Int.emod_lt_of_pos _ h⟩
theorem qJ {R:D->AH->Prop} (hm:0<most) (h:R (.int .i64 (around n most)) H):ACall Tryz.prog 16 [.int .i64 n,.int .i64 most] H R:=by
 refine b16 fun hf=>?_
 have hn:=hf.1
 rw [nN,yG] at hn
 simp+contextual only [↓U16,↓U16,↓XP,qh,XW1,qa,qb]
 unfold around at h
 refine ⟨fun h0=>?_,fun h0=>?_⟩
 ·rw [qm (n:=n+1) (by omega) (by omega),qm (n:=0 - (n+1)) (by omega) (by omega)]
  rw [if_pos h0] at h
  refine ⟨by omega,?_⟩
  rw [show 0 - (n+1)= -(n+1) by omega]
  exact h
 ·rw [if_neg h0] at h
  exact ⟨by omega,h⟩
def ints (l:List Int):List (List D):=l.map fun n=>[.int .i64 n]
theorem jb:(ints l).length=l.length:=by simp [ints]
theorem cF (h:i<l.length):(ints l).getD i []= [.int .i64 l[i]]:=by simp [ints,h]
def qC (l:List Int) (i:Nat) (most:Int):Int:=match l[i]? with
 |some n=>around n most
 |none=>0
theorem qG (h:0<most):0<=qC l i most∧qC l i most<most:=by
 unfold qC
 split
 ·exact j3 h
 ·omega
theorem jN {R:D->AH->Prop} (hm:0<most) (h:R (.int .i64 (qC l i most)) H):ACall Tryz.prog 57 [.slc (ints l),.int .i64 i,.int .i64 most] H R:=by
 refine b57 fun hf=>?_
 by_cases hi:i<l.length
 ·simp+contextual only [↓D3,jb,cF hi,↓D3,↓XP,qh,qa,qb]
  refine ⟨fun hneg=>absurd hneg (by omega),fun _ _=>⟨fun hge=>absurd hge (by omega),fun _=>?_⟩⟩
  refine ⟨by omega,fun _=>qJ hm ?_⟩
  simp+contextual only [↓XP,qo]
  intro _
  unfold qC at h
  rw [Mb hi] at h
  exact h
 ·simp+contextual only [↓D3,jb,↓D3,↓XP,qh,qa,qb]
  refine ⟨fun hneg=>absurd hneg (by omega),fun _ _=>⟨fun hge=>?_,fun hlt=>absurd (by omega) hlt⟩⟩
  unfold qC at h
  rw [My (by omega)] at h
  exact h
def heads8:List (List UInt8):= [[99,97,116],[97,110,116],[98,101,116],[110,101,115,116],[116,101,110],[116,101,101],[99,104,101],[115,101,116]]
def core4:List (List UInt8):= [[97],[97,110],[98,101],[99]]
def words16:List (List UInt8):=core4++heads8++ [[99,97,116,115],[97,110,116,115],[98,101,116,115,116],[120,121,122]]
def seps3:List (List UInt8):= [[32],[44,32],[32]]
def jM (l:List Int) (i:Nat) (most:Int):Nat:=(qC l i most).toNat
def yE (l:List Int):Nat->List UInt8
 |0=>words16.getD (jM l 0 16) []
 |i+1=>yE l i++(seps3.getD (jM l (2+i) 3) []++words16.getD (jM l (4+i) (6+i)) [])
def gloss (l:List Int):List UInt8:=if qC l 6 19=18 then [] else yE l (jM l 1 3)
def j9 (p:Pt) (o:OpP):Pt:={p with ops:=p.ops++ [o]}
def jL (p:Pt):Id3:=⟨p.o,p.s,p.ops.length⟩
def meaning (p:Pt) (on:Id3) (m:List Int):Pt:=
 let p1:=j9 p {yu with k:=2,on:=on,n:=qC m 2 5}
 let p2:=j9 p1 {yu with k:=7,on:=jL p,text:=gloss (m.drop 3)}
 if qC m 1 9=5 then p2 else j9 p2 {yu with k:=9,on:=jL p,n:=1}
structure Gs where
 l:List Pt
 past:List (List Bool)
def kn (p:Pt) (kind:Int) (ok:Bool):Nat->List Id3:=fun k=>if ok=true∧(p.ops.getD k default).k=kind then [⟨p.o,p.s,k⟩] else []
def kr (p:Pt) (kind:Int) (ok:Bool):List Id3:=upto (kn p kind ok) p.ops.length
def visible (x:Gs) (seen:List Bool) (p:Pt) (kind:Int):List Id3:=upto (fun i=>kr (x.l.getD i default) kind (seen.getD i false)) x.l.length++kr p kind true
def kA (p:Pt) (ok:Bool):Nat->List OpP:=fun k=>if ok=true∧(p.ops.getD k default).k=16 then [p.ops.getD k default] else []
def ye (p:Pt) (ok:Bool):List OpP:=upto (kA p ok) p.ops.length
def splits (x:Gs) (seen:List Bool) (p:Pt):List OpP:=upto (fun i=>ye (x.l.getD i default) (seen.getD i false)) x.l.length++ye p true
def names3:List (List UInt8):= [[112,114,101,115,115],[104,101,105,114,115],[99,114,111,119,110]]
def quoted (x:Gs) (seen:List Bool) (p:Pt) (sense:Id3) (m:List Int):Pt:=
 let sources:=visible x seen p 3
 if sources.length=0∨qC m 1 4=1 then
  let from_:=600000+400*qC m 2 60
  let p1:=j9 p {yu with k:=3,name:=names3.getD (jM m 3 3) [],text:= [97,110,110,97,108,115],a:=from_,b:=from_+300*qC m 4 8}
  j9 p1 {yu with k:=4,on:=sense,to:=jL p,n:=1+qC m 5 90,text:=gloss (m.drop 6)}
 else j9 p {yu with k:=4,on:=sense,to:=sources.getD (jM m 2 sources.length) default,n:=1+qC m 5 90,text:=gloss (m.drop 6)}
def divided (p:Pt) (entry sense:Id3) (m:List Int):Pt:=
 let p1:=meaning p entry m
 let p2:=meaning p1 entry (m.drop 1)
 j9 p2 {yu with k:=16,on:=sense,ids:= [jL p,jL p1],n:=qC m 4 3 - 1}
def lang3:List (List UInt8):= [[102,114],[102,114],[100,101]]
def lab2:List (List UInt8):= [[114,97,114,101],[108,97,119]]
def small (sense other:Id3) (n:Int) (m:List Int):OpP:=
 if n=0∨n=1 then {yu with k:=7,on:=sense,text:=gloss (m.drop 3)}
 else if n=2 then {yu with k:=9,on:=sense,n:=qC m 3 2}
 else if n=3 then {yu with k:=10,on:=sense,n:=1+qC m 3 9}
 else if n=4 then {yu with k:=12,on:=sense,name:=lang3.getD (jM m 3 3) [],text:=gloss (m.drop 4)}
 else if n=5∨n=6 then {yu with k:=14,on:=sense,name:=lab2.getD (jM m 3 2) [],n:=min 1 (qC m 4 4)}
 else if n=7∨n=8 then {yu with k:=15,on:=sense,to:=other,n:=min 1 (qC m 3 5)}
 else if n=9 then {yu with k:=13,on:=sense,to:=other,n:=qC m 3 3}
 else {yu with k:=8,on:=sense,n:=qC m 3 5}
def strs (l:List (List UInt8)):List (List D):=l.map fun s=>[.str s]
theorem j8:(strs l).length=l.length:=by simp [strs]
theorem kg (h:i<l.length):(strs l).getD i []= [.str (l.getD i [])]:=by simp [strs,h]
theorem Wr:∀x∈strs l,x.length=1:=by
 intro x hx
 obtain ⟨t,_,rfl⟩:=List.mem_map.1 hx
 rfl
theorem vA:∀x∈ints l,x.length=1:=by
 intro x hx
 obtain ⟨t,_,rfl⟩:=List.mem_map.1 hx
 rfl
theorem ko {l:List Int} {n:Nat} {H:AH} {R:D->AH->Prop} (h:R (.slc (ints (l.drop n))) H):ACall Tryz.prog 59 [.slc (ints l),.i n] H R:=by
 refine b59 fun hf=>?_
 have hbig:=qj
 simp+contextual only [x59,jb,↓nV,↓XP,qh,qa,qb]
 refine fun _=>⟨vA,?_⟩
 rw [Mt (show (ints l).length<=l.length by rw [jb];exact Ms _)]
 by_cases hc:(l.length:Int)<(n:Int)
 ·simp only [if_pos hc,Mg]
  refine ⟨by omega,by omega,?_⟩
  rw [List.drop_of_length_le (show (ints l).length<=l.length by rw [jb];exact Ms _)]
  rw [List.drop_of_length_le (show l.length<=n by omega)] at h
  exact h
 ·simp only [if_neg hc,Mg]
  refine ⟨by omega,by omega,?_⟩
  rw [show List.drop n (ints l)=ints (l.drop n) from List.map_drop.symm]
  exact h
theorem rM {R:D->AH->Prop} (h:R (.own (strs core4)) H):ACall Tryz.prog 147 [] H R:=by
 refine IY fun hf=>?_
 simp+contextual only [↓U147,↓U147.1,↓XP,qh,XW1,qa,qc,qe]
 intros
 exact h
theorem JE {R:D->AH->Prop} (h:R (.own (strs heads8)) H):ACall Tryz.prog 127 [] H R:=by
 refine Es fun hf=>?_
 simp+contextual only [↓U127,↓U127.1,↓XP,qh,XW1,qa,qc,qe]
 intros
 exact h
theorem uz {α:Type} {l:List α} {d:α} {p:α->Prop} (h:∀x∈l,p x) (hd:p d) (i:Nat):p (l.getD i d):=by
 rcases Nat.lt_or_ge i l.length with hi|hi
 ·rw [jx hi];exact h _ (List.getElem_mem hi)
 ·rw [show l.getD i d=d by simp [List.getD,My hi]];exact hd
theorem Ko (i:Nat):(words16.getD i []).length<=5:=uz (p:=fun x:List UInt8=>x.length<=5) (by decide) (by decide) i
theorem GD (i:Nat):(seps3.getD i []).length<=2:=uz (p:=fun x:List UInt8=>x.length<=2) (by decide) (by decide) i
theorem J2:∀i,(yE l i).length<=5+7*i
 | 0=>by
  have:=Ko (jM l 0 16)
  simp only [yE]
  omega
 | i+1=>by
  have h1:=J2 (l:=l) i
  have h2:=GD (jM l (2+i) 3)
  have h3:=Ko (jM l (4+i) (6+i))
  simp only [yE,Mh]
  omega
theorem uZ {R:D->AH->Prop} (h:R (.str (gloss l)) H):ACall Tryz.prog 143 [.slc (ints l)] H R:=by
 refine E5 fun hf=>?_
 have hbig:=qj
 simp+contextual only [↓Uc,↓Uc,↓XP,qo,qa]
 refine rM ?_
 simp+contextual only [↓XP,qo]
 intros
 refine JE ?_
 simp+contextual only [j8,↓Uc,↓XP,qh,XW1,qb,qc,qe]
 have e:strs core4++strs heads8++ [[.str [99,97,116,115]],[.str [97,110,116,115]],[.str [98,101,116,115,116]],[.str [120,121,122]]]=strs words16:=rfl
 have hw:words16.length=16:=rfl
 have e2:(strs core4++strs heads8).length=12:=rfl
 have c8:core4.length=4:=rfl
 have h8:heads8.length=8:=rfl
 rw [e,e2,c8,h8]
 refine fun _=>⟨Wr,Wr,by omega,Wr (l:=core4++heads8),by omega,fun _=>?_⟩
 rw [j8,hw,show ((16:Nat):Int)=(16:Int) from rfl]
 have a0:=qG (l:=l) (i:=0) (most:=16) (by omega)
 have a1:=qG (l:=l) (i:=1) (most:=3) (by omega)
 refine jN (i:=0) (by omega) ?_
 simp+contextual only [j8,kg (show (qC l 0 16).toNat<words16.length by rw [hw];omega),hw,↓Uc,↓XP,qh]
 refine fun _=>⟨by omega,by omega,fun _=>jN (i:=1) (by omega) ?_⟩
 simp+contextual only [↓XP,qo]
 obtain ⟨n,hn⟩:∃n:Nat,qC l 1 3=n:=⟨(qC l 1 3).toNat,by omega⟩
 have hn':jM l 1 3=n:=by unfold jM;omega
 rw [hn]
 intros
 refine XW.loopK hm (fun F H'=>∃(i:Nat),i<=n∧Fr 50 [(0,.slc (ints l)),(3,.own (strs words16)),(4,.str (yE l i)),(5,.i n),(6,.i i)] F∧H=H') (fun F H=>match F.getD 6 .any with| .int _ n'=>n - n'.toNat|_=>0) ⟨0,by omega,⟨rfl,rfl,rfl,rfl,rfl,rfl,trivial⟩,rfl⟩ ?_
 rintro _ _ ⟨i,hi,hF,rfl⟩ K hN hE hR
 obtain ⟨z,rfl⟩:=hF.fl rfl
 try dsimp only [fl,zz,qa,qb] at*
 clear hF
 by_cases hlt:i<n
 ·have nx:∀F',Fr 50 [(0,.slc (ints l)),(3,.own (strs words16)),(4,.str (yE l (i+1))),(5,.i n),(6,.i ((i+1:Nat):Int))] F'->K .normal F' H:=fun F' hF'=>hN _ _ ⟨i+1,hlt,hF',(qz rfl).symm⟩ (by
   rw [Ma,hF'.2.2.2.2.2.1]
   simp only [Mc,Md,Me]
   omega)
  clear hN hE hR
  have w2:IntKind.i64.wrap (2+(i:Int))=((2+i:Nat):Int):=by rw [qm (by omega) (by omega)];omega
  have w4:IntKind.i64.wrap (4+(i:Int))=((4+i:Nat):Int):=by rw [qm (by omega) (by omega)];omega
  have w6:IntKind.i64.wrap (6+(i:Int))=6+(i:Int):=qm (by omega) (by omega)
  have b0:=qG (l:=l) (i:=2+i) (most:=3) (by omega)
  have b1:=qG (l:=l) (i:=4+i) (most:=6+(i:Int)) (by omega)
  simp+contextual only [w2,↓Uc,↓XP,qh,XW1,qc,qe]
  have g0:=J2 (l:=l) i
  have g2:=GD (jM l (2+i) 3)
  have g3:=Ko (jM l (4+i) (6+i))
  have hse:([[.str [32]],[.str [44,32]],[.str [32]]]:List (List D))=strs seps3:=rfl
  have hs3:seps3.length=3:=rfl
  have s1:=kg (show (qC l (2+i) 3).toNat<seps3.length by rw [hs3];omega)
  have s2:=kg (show (qC l (4+i) (6+(i:Int))).toNat<words16.length by rw [hw];omega)
  refine ⟨fun _=>⟨_,fun _ _=>jN (by omega) ⟨rfl,rfl⟩,?_⟩,fun hge=>absurd (by omega) hge⟩
  simp+contextual only [w4,w6,hse,hs3,s1,j8,↓XP,qh]
  refine fun _=>⟨by omega,by omega,fun _=>⟨?_,⟨_,fun _ _=>jN (by omega) ⟨rfl,rfl⟩,?_⟩⟩⟩
  ·unfold jM at g2
   omega
  simp+contextual only [hw,s2,j8,qi (show i<=big by omega),↓Uc,↓XP,qh]
  have hu:yE l i++seps3.getD (qC l (2+i) 3).toNat []++words16.getD (qC l (4+i) (6+(i:Int))).toNat []=yE l (i+1):=by
   rw [yE,Mp]
   rfl
  rw [hu]
  unfold jM at g2 g3
  refine fun _=>⟨by omega,by omega,fun _=>⟨by simp only [Mh];omega,nx _ ⟨rfl,rfl,rfl,rfl,rfl,rfl,trivial⟩⟩⟩
 ·have hin:i=n:=by omega
  subst hin
  simp+contextual only [↓Uc,↓XP,qo]
  refine hE _ _ _ ?_
  simp+contextual only [↓Uc,↓XP,qo,XW1]
  refine jN (i:=6) (by omega) ?_
  simp+contextual only [↓XP,qo]
  unfold gloss at h
  rw [hn'] at h
  refine fun _=>⟨fun h18=>?_,fun h18=>?_⟩
  ·rw [if_pos h18] at h
   exact h
  ·rw [if_neg h18] at h
   exact h
end Go.Proofs.YtgopigkdcmhbbaaGreatDoor
end
noncomputable section
namespace Go.Proofs.YtgopigkdcmhbbaaGreatDoor
open Go.Xs
open Go Go.Aw
noncomputable def lF:=yy Tryz.f106
def V106:=PLift.up (aI (@unf (lF 2) (F [u,u,u,u,y 6,y 6,y 6,u,u,y 11,y 11,y 11,u,u,y 16,y 16,y 16,u,u,y 21,y 21,y 21,u,u,y 26,y 26,y 26,v,u]) rfl) (@unf (lF 0) (R [u,u] (lF 2)) rfl))
theorem U106:type_of% V106.down:=V106.down
theorem E0:Bt 106 31 (lF 0) [(.tmp 2)]:=bt Tryz.func106 rfl
noncomputable def zj:=yy Tryz.f48
def V48:=PLift.up (aI (aI (aI (aI (@unf (zj 7) (T (r [u,v,u])) rfl) (@unf (zj 24) (r [u,v,u]) rfl)) (aI (@unf (zj 21) (O (R [x,u,u,u,u,v,u] (zj 24))) rfl) (@unf (zj 15) (X (R [u,u] I) (zj 21)) rfl))) (aI (aI (@unf (zj 33) (r [x,u,u,u,u,v,u]) rfl) (@unf (zj 34) (r [x,u,u,u,u,v,u]) rfl)) (aI (@unf (zj 53) (T (r [u,v,u])) rfl) (@unf (zj 56) (r [x,u,u,v,u]) rfl)))) (aI (aI (aI (@unf (zj 57) (r [u,v,u]) rfl) (@unf (zj 46) (X (O (R [u,u,u,v,u] (X (R [u,u] (zj 53)) (zj 56)))) (zj 57)) rfl)) (aI (@unf (zj 40) (X (R [u,u] I) (zj 46)) rfl) (@unf (zj 35) (X (R [u,v,u] (U (zj 40))) (F [v,u])) rfl))) (aI (aI (@unf (zj 29) (X (R [u,u] (V (zj 33) (zj 34))) (zj 35)) rfl) (@unf (zj 25) (R [u,v,u] (R [u] (zj 29))) rfl)) (aI (@unf (zj 4) (X (R [u,u] (zj 7)) (R [u] (X (U (zj 15)) (zj 25)))) rfl) (@unf (zj 0) (R [u] (R [v,u] (zj 4))) rfl)))))
theorem eG:type_of% V48.down:=V48.down
theorem b48:Bt 48 59 (zj 0) [(.tmp 2)]:=bt Tryz.func48 rfl
noncomputable def yz:=yy Tryz.f104
def V104:=PLift.up (aI (aI (aI (aI (@unf (yz 21) (R [v,u] (V .skip (r [v,u]))) rfl) (@unf (yz 15) (V .skip (R [v,u] (V .skip (yz 21)))) rfl)) (aI (@unf (yz 94) (V (F [u]) (R [v,u] (T (F [u])))) rfl) (@unf (yz 88) (V (F [u]) (R [v,u] (yz 94))) rfl))) (aI (aI (@unf (yz 82) (V (F [u]) (R [v,u] (yz 88))) rfl) (@unf (yz 76) (V (F [u]) (R [v,u] (yz 82))) rfl)) (aI (@unf (yz 70) (X (R [v,u] (V .skip (r [v,u]))) (yz 76)) rfl) (@unf (yz 60) (V (F [u]) (R [v,u] (V (F [u]) (yz 70)))) rfl)))) (aI (aI (aI (@unf (yz 54) (V (F [u]) (R [v,u] (yz 60))) rfl) (@unf (yz 48) (V (F [u]) (R [v,u] (yz 54))) rfl)) (aI (@unf (yz 42) (X (R [v,u] (V .skip (r [v,u]))) (yz 48)) rfl) (@unf (yz 32) (V (F [u]) (R [v,u] (V (F [u]) (yz 42)))) rfl))) (aI (aI (@unf (yz 26) (V (F [u]) (R [v,u] (yz 32))) rfl) (@unf (yz 8) (V (F [u]) (X (R [v,u] (yz 15)) (yz 26))) rfl)) (aI (@unf (yz 2) (X (R [u] (O (R [v,u] (yz 8)))) (F [u])) rfl) (@unf (yz 0) (R [u] (yz 2)) rfl)))))
theorem CU:type_of% V104.down:=V104.down
theorem Eb:Bt 104 35 (yz 0) [(.tmp 2)]:=bt Tryz.func104 rfl
noncomputable def Yf:=yy Tryz.f105
def V105:=PLift.up (aI (aI (@unf (Yf 22) (r [u,v,u]) rfl) (@unf (Yf 13) (X (O (R [u,u,u,u,u] (T (F [u])))) (Yf 22)) rfl)) (aI (@unf (Yf 7) (X (R [u,u,u,u] I) (Yf 13)) rfl) (aI (@unf (Yf 2) (X (R [u] (U (Yf 7))) (F [u])) rfl) (@unf (Yf 0) (R [u] (Yf 2)) rfl))))
theorem lh:type_of% V105.down:=V105.down
theorem IE:Bt 105 17 (Yf 0) [(.tmp 4)]:=bt Tryz.func105 rfl
noncomputable def zA:=yy Tryz.f107
def V107:=PLift.up (aI (aI (aI (@unf (zA 15) (R [v,u] (V .skip (r [v,u]))) rfl) (@unf (zA 31) (r [u,u,u,v,u]) rfl)) (aI (@unf (zA 24) (V (r [u]) (R [v,u] (T (R [u] (zA 31))))) rfl) (@unf (zA 20) (V (r [u]) (R [v,u] (zA 24))) rfl))) (aI (aI (@unf (zA 9) (O (X (R [v,u] (V .skip (zA 15))) (zA 20))) rfl) (@unf (zA 33) (F [u,u,u,u,u,y 23,y 23,y 23,y 23,v,u]) rfl)) (aI (@unf (zA 4) (R [u] (X (R [u,u] (zA 9)) (zA 33))) rfl) (@unf (zA 0) (R [u,u] (R [u] (zA 4))) rfl))))
theorem Cq:type_of% V107.down:=V107.down
theorem IF:Bt 107 29 (zA 0) [(.tmp 2)]:=bt Tryz.func107 rfl
noncomputable def vI:=yy Tryz.f108
def V108:=PLift.up (aI (aI (aI (@unf (vI 42) (r [u,v,u]) rfl) (@unf (vI 33) (X (O (X (G [u,u,u,u,u,u,u,u,u,u,u]) (T (F [u])))) (vI 42)) rfl)) (aI (@unf (vI 27) (X (R [u,u,u] I) (vI 33)) rfl) (aI (@unf (vI 43) (r [u,v,u]) rfl) (@unf (vI 13) (X (O (X (X (G [u,u,u,u,u,u,u,u,z 19,z 19,z 19,z 19,y 23,y 23,y 23,y 23,y 23,y 23,y 23,y 23,z 19,u]) (T (F [u]))) (R [u] (U (vI 27))))) (vI 43)) rfl)))) (aI (aI (@unf (vI 7) (X (R [u,u,u,u,u] I) (vI 13)) rfl) (@unf (vI 48) (F [u,u,u,v,u]) rfl)) (aI (@unf (vI 52) (F [u,u,u,u,u,y 61,y 61,y 61,y 61,v,u]) rfl) (aI (@unf (vI 44) (X (R [u,u,u] (T (vI 48))) (vI 52)) rfl) (@unf (vI 0) (R [u,u] (X (R [u] (U (vI 7))) (vI 44))) rfl)))))
theorem VA:type_of% V108.down:=V108.down
theorem Hl:Bt 108 67 (vI 0) [(.tmp 2)]:=bt Tryz.func108 rfl
noncomputable def ia:=yy Tryz.f109
def V109:=PLift.up (aI (@unf (ia 2) (F [u,u,u,u,y 6,y 6,y 6,y 6,y 6,u,u,y 13,y 13,y 13,v,u]) rfl) (@unf (ia 0) (R [u,u] (ia 2)) rfl))
theorem U109:type_of% V109.down:=V109.down
theorem Io:Bt 109 18 (ia 0) [(.tmp 2)]:=bt Tryz.func109 rfl
noncomputable def J8:=yy Tryz.f110
def V110:=PLift.up (aI (aI (@unf (J8 18) (r [u,v,u]) rfl) (aI (@unf (J8 15) (X (O (r [x,u,u,u,u,u,v,u])) (J8 18)) rfl) (@unf (J8 9) (X (R [u,u,u,u] I) (J8 15)) rfl))) (aI (@unf (J8 4) (X (R [u] (U (J8 9))) (F [v,u])) rfl) (aI (@unf (J8 2) (R [u,u,v,u] (J8 4)) rfl) (@unf (J8 0) (R [u] (J8 2)) rfl))))
theorem aW:type_of% V110.down:=V110.down
theorem DY:Bt 110 22 (J8 0) [(.tmp 2)]:=bt Tryz.func110 rfl
noncomputable def mr:=yy Tryz.f111
def V111:=PLift.up (aI (@unf (mr 2) (F [u,u,u,u,u,u,v,u]) rfl) (@unf (mr 0) (R [u,u] (mr 2)) rfl))
theorem U111:type_of% V111.down:=V111.down
theorem IQ:Bt 111 10 (mr 0) [(.tmp 2)]:=bt Tryz.func111 rfl
noncomputable def Ji:=yy Tryz.f112
def V112:=PLift.up (aI (aI (@unf (Ji 18) (r [u,v,u]) rfl) (aI (@unf (Ji 15) (X (O (r [x,u,u,u,u,u,v,u])) (Ji 18)) rfl) (@unf (Ji 9) (X (R [u,u,u,u] I) (Ji 15)) rfl))) (aI (@unf (Ji 4) (X (R [u] (U (Ji 9))) (F [v,u])) rfl) (aI (@unf (Ji 2) (R [u,u,v,u] (Ji 4)) rfl) (@unf (Ji 0) (R [u] (Ji 2)) rfl))))
theorem bC:type_of% V112.down:=V112.down
theorem Ft:Bt 112 22 (Ji 0) [(.tmp 2)]:=bt Tryz.func112 rfl
noncomputable def m9:=yy Tryz.f113
def V113:=PLift.up (aI (@unf (m9 2) (F [u,u,x,u,u,v,u]) rfl) (@unf (m9 0) (R [u] (m9 2)) rfl))
theorem U113:type_of% V113.down:=V113.down
theorem IH:Bt 113 9 (m9 0) [(.tmp 2)]:=bt Tryz.func113 rfl
noncomputable def Ku:=yy Tryz.f67
def V67:=PLift.up (aI (aI (@unf (Ku 38) (F [u,u,u,u,z 162,z 162,z 162,z 162,z 162,v,u]) rfl) (aI (@unf (Ku 30) (X (R [u,u,u,y 136,y 136,y 136,y 136,u,u,z 142,z 142,z 142,z 142,y 146,y 146,y 146,y 146,y 146,z 151,z 151,z 151,z 151,y 146,z 142,u] (T (F [u]))) (Ku 38)) rfl) (@unf (Ku 22) (X (R [u,u,u,y 92,y 92,y 92,y 92,y 92,z 97,z 97,z 97,z 97,y 92,u,u,z 104,z 104,z 104,z 104,y 108,y 108,y 108,z 104,u,u,z 114,z 114,z 114,y 117,y 117,y 117,y 117,z 114,u,u,z 124,z 124,z 124,z 124,y 128,y 128,y 128,z 124,u] (T (F [u]))) (Ku 30)) rfl))) (aI (aI (@unf (Ku 14) (X (R [u,u,u,y 55,y 55,y 55,u,u,z 60,z 60,z 60,z 60,y 64,y 64,y 64,z 60,u,u,z 70,z 70,z 70,y 73,y 73,y 73,z 70,u,u,z 79,z 79,z 79,z 79,y 83,y 83,y 83,y 83,z 79,u] (T (F [u]))) (Ku 22)) rfl) (@unf (Ku 6) (X (R [u,u,u,z 11,z 11,z 11,y 14,y 14,y 14,y 14,z 11,u,u,z 21,z 21,z 21,z 21,y 25,y 25,y 25,y 25,z 21,u,u,z 32,z 32,z 32,y 35,y 35,y 35,y 35,z 32,u,u,z 42,z 42,z 42,z 42,y 46,y 46,y 46,y 46,z 42,u] (T (F [u]))) (Ku 14)) rfl)) (aI (@unf (Ku 2) (R [u,u,v,u] (R [v,u,u] (Ku 6))) rfl) (@unf (Ku 0) (R [u,u] (Ku 2)) rfl))))
theorem U67:type_of% V67.down:=V67.down
theorem b67:Bt 67 169 (Ku 0) [(.tmp 2)]:=bt Tryz.func67 rfl
noncomputable def vb:=yy Tryz.f68
def V68:=PLift.up (aI (aI (aI (aI (@unf (vb 20) (r [u,v,u]) rfl) (@unf (vb 17) (X (O (G [x,u,u,u,u,u,u,u,u,u,u,u,u,u,v,u])) (vb 20)) rfl)) (aI (@unf (vb 11) (X (R [u,u,u,u,u] I) (vb 17)) rfl) (aI (@unf (vb 64) (r [u,v,u]) rfl) (@unf (vb 61) (X (O (r [x,u,u,u,u,u,u,v,u])) (vb 64)) rfl)))) (aI (aI (@unf (vb 55) (X (R [u,u,u,u,u] I) (vb 61)) rfl) (aI (@unf (vb 69) (r [x,u,u,u,u,u,u,v,u]) rfl) (@unf (vb 67) (R [x,u,u,v,u] (vb 69)) rfl))) (aI (@unf (vb 65) (R [x,u,u,v,u] (vb 67)) rfl) (aI (@unf (vb 48) (R [u] (X (R [u] (U (vb 55))) (vb 65))) rfl) (@unf (vb 46) (R [x,u,u,u,u,u,u,u,u,u,v,u] (vb 48)) rfl))))) (aI (aI (aI (@unf (vb 44) (R [x,u,u,u,v,u] (vb 46)) rfl) (aI (@unf (vb 42) (R [x,u,u,u,v,u] (vb 44)) rfl) (@unf (vb 40) (R [u,u,v,u] (vb 42)) rfl))) (aI (@unf (vb 70) (r [u,v,u]) rfl) (aI (@unf (vb 36) (X (O (R [u,u,u,u,v,u,u] (vb 40))) (vb 70)) rfl) (@unf (vb 30) (X (R [u,u,u,u,u] I) (vb 36)) rfl)))) (aI (aI (@unf (vb 71) (F [x,u,u,u,v,u]) rfl) (aI (@unf (vb 23) (R [x,u,u,u,u,v,u] (X (R [u] (U (vb 30))) (vb 71))) rfl) (@unf (vb 21) (R [x,u,u,v,u] (vb 23)) rfl))) (aI (@unf (vb 4) (R [u] (X (R [u] (U (vb 11))) (vb 21))) rfl) (aI (@unf (vb 2) (R [u,u,u,u,u,u,u,v,u] (vb 4)) rfl) (@unf (vb 0) (R [u,u] (vb 2)) rfl))))))
theorem Wf:type_of% V68.down:=V68.down
theorem b68:Bt 68 123 (vb 0) [(.tmp 2)]:=bt Tryz.func68 rfl
noncomputable def J3:=yy Tryz.f32
def V32:=PLift.up (aI (aI (aI (@unf (J3 41) (X (G [u,u,u,u,z 63,z 63,z 63,u,u,z 68,z 68,z 68,z 68,z 68,u,u,z 75,z 75,z 75,u,u,z 80,z 80,z 80,u,u,z 85,z 85,z 85,y 88,y 88,y 88,y 88,y 88,y 88,y 88,y 88,y 88,y 88,z 85,u]) (T (F [u]))) rfl) (aI (@unf (J3 48) (r [u,v,u]) rfl) (@unf (J3 37) (X (O (R [u,u,u,u,v,u,u] (J3 41))) (J3 48)) rfl))) (aI (@unf (J3 31) (X (R [u,u,u,u,u] I) (J3 37)) rfl) (aI (@unf (J3 69) (r [u,v,u]) rfl) (@unf (J3 60) (X (O (R [u,u,u,u,u,u,u] (T (F [u])))) (J3 69)) rfl)))) (aI (aI (@unf (J3 54) (X (R [u,u,u,u,u] I) (J3 60)) rfl) (aI (@unf (J3 72) (X (R [u,u,u,u] (T (F [u]))) (F [u])) rfl) (@unf (J3 49) (X (R [u] (U (J3 54))) (R [u,u] (J3 72))) rfl))) (aI (aI (@unf (J3 18) (X (R [u,u,u,u] (T (F [u]))) (X (R [u] (U (J3 31))) (J3 49))) rfl) (@unf (J3 10) (X (R [u,u,u,u,u,z 38,z 38,z 38,z 38,u] (T (F [u]))) (J3 18)) rfl)) (aI (@unf (J3 2) (X (R [u,u,u,u,z 9,z 9,z 9,u,u,z 14,z 14,z 14,u,u,z 19,z 19,z 19,u,u,z 24,z 24,z 24,u,u,z 29,z 29,z 29,u] (T (F [u]))) (J3 10)) rfl) (@unf (J3 0) (R [u,u] (J3 2)) rfl)))))
theorem Vl:type_of% V32.down:=V32.down
theorem b32:Bt 32 120 (J3 0) [(.tmp 2)]:=bt Tryz.func32 rfl
noncomputable def Dj:=yy Tryz.f34
def V34:=PLift.up (aI (@unf (Dj 4) (F [u,u,v,u]) rfl) (@unf (Dj 0) (R [u,u] (R [u,u] (Dj 4))) rfl))
theorem U34:type_of% V34.down:=V34.down
theorem b34:Bt 34 7 (Dj 0) [(.tmp 2)]:=bt Tryz.func34 rfl
end Go.Proofs.YtgopigkdcmhbbaaGreatDoor
end
section
namespace Go.Proofs.YtgopigkdcmhbbaaGreatDoor
open Go Go.Aw
def digs (m:Nat):List UInt8:=if h:m=0 then [] else UInt8.ofNat (m % 256)::digs (m / 256)
termination_by m
decreasing_by exact Nat.div_lt_self (by omega) (by omega)
def ja (neg:Bool) (x:UInt8):UInt8:=if neg=true then 255 - x else x
def mag (n:Int):Nat:=if n<0 then (-1 - n).toNat else n.toNat
def qr (n:Int):List UInt8:=
 UInt8.ofNat (if n<0 then 127 - (digs (mag n)).length else 128+(digs (mag n)).length)::(digs (mag n)).reverse.map (ja (decide (n<0)))
def qB (s:List UInt8):List UInt8:=qr s.length++s
def qF (l:List Int):List UInt8:=qr l.length++l.flatMap qr
def yn (l:List (List UInt8)):List UInt8:=qr l.length++l.flatMap qB
theorem kw:digs 0= []:=by rw [digs];rfl
theorem yY (h:m≠0):digs m=UInt8.ofNat (m % 256)::digs (m / 256):=by rw [digs,dif_neg h]
theorem KH:∀(k m:Nat),m<256 ^ k->(digs m).length<=k
 | 0,m,h=>by
  have:m=0:=by simpa using h
  rw [this,kw];exact Ms _
 | k+1,m,h=>by
  by_cases hm:m=0
  ·rw [hm,kw];exact Nat.zero_le _
  ·rw [yY hm,Mi]
   have:=KH k (m / 256) (by rw [Nat.div_lt_iff_lt_mul (by omega)];rw [Nat.pow_succ] at h;exact h)
   omega
theorem WX (h:wX .i64 n):mag n<9223372036854775808:=by
 rw [yG] at h
 unfold mag
 split<;>omega
theorem Js (h:wX .i64 n):(digs (mag n)).length<=8:=KH 8 _ (by have:=WX h;omega)
theorem yc (h:wX .i64 n):(qr n).length<=9:=by
 have:=Js h
 simp only [qr,Mi,Mj,List.length_reverse]
 omega
theorem gG (h:0<=n) (h':n<256):IntKind.u8.wrap n=n:=Go.IntWalk.u8_in n ⟨h,by omega⟩
theorem gF {n:Nat} (h:n<256): [D.int .u8 (n:Int)]=ql (UInt8.ofNat n):=by
 unfold ql
 rw [UInt8.toNat_ofNat',Nat.mod_eq_of_lt h]
theorem qO {l:List UInt8}:∀x∈l.map ql,x.length=1:=by
 intro x hx
 obtain ⟨t,_,rfl⟩:=List.mem_map.1 hx
 rfl
theorem dB {n:Int} {m0:Nat} {H:AH} {Q:AQ} {F:List D} (hm:m0<9223372036854775808) (hF:Fr 59 [(0,.i n),(3,.i (m0:Int)),(4,.own [])] F) (hE:∀F',Fr 59 [(0,.i n),(4,.own ((digs m0).map ql))] F'->Q (.exit 0) F' H):XW Tryz.prog (zj 15) F H Q:=by
 have hbig:=qj
 have hl0:=KH 8 m0 (by omega)
 refine XW.loopK hmm (fun F H'=>∃(pre:List UInt8) (m:Nat),digs m0=pre++digs m∧m<9223372036854775808∧Fr 59 [(0,.i n),(3,.i (m:Int)),(4,.own (pre.map ql))] F∧H=H') (fun F H=>match F.getD 3 .any with| .int _ n'=>n'.toNat|_=>0) ⟨[],m0,rfl,hm,hF,rfl⟩ ?_
 rintro _ _ ⟨pre,m,hd,hml,hF,rfl⟩ K hN hE' hR
 obtain ⟨z,rfl⟩:=hF.fl rfl
 try dsimp only [fl,zz,qa,qb] at*
 clear hF hR
 by_cases h0:m=0
 ·subst h0
  clear hN
  rw [kw,M4] at hd
  simp+contextual only [show ((0:Int)<((0:Nat):Int))=False from by simp,↓eG,↓XP,qo]
  rw [<-hd]
  exact hE' _ _ _ (hE _ ⟨rfl,rfl,rfl,trivial⟩)
 ·rw [yY h0] at hd
  have hpl:pre.length<=8:=by rw [hd,Mh] at hl0;omega
  have e1:((m:Int)).tmod 256=((m % 256:Nat):Int):=rfl
  have e2:IntKind.i64.wrap ((m:Int).tdiv 256)=((m / 256:Nat):Int):=by
   rw [Go.IntWalk.i64_quo _ _ ⟨by omega,by omega,by omega⟩]
   omega
  have e3:IntKind.u8.wrap ((m % 256:Nat):Int)=((m % 256:Nat):Int):=gG (by omega) (by omega)
  simp+contextual only [show ((0:Int)<(m:Int))=True from by simp;omega,e1,e2,e3,show ((256:Int)=0)=False from by decide,↓eG,↓XP,qh,XW1,qc,qe]
  refine ⟨qO,by omega,?_⟩
  rw [gF (by omega),show [ql (UInt8.ofNat (m % 256))]= [UInt8.ofNat (m % 256)].map ql from rfl,<-Mo]
  refine hN _ _ ⟨pre++ [UInt8.ofNat (m % 256)],m / 256,by rw [hd];simp,by omega,⟨rfl,rfl,rfl,rfl,trivial⟩,(qz rfl).symm⟩ ?_
  simp only [Mc,Md]
  omega
theorem iO:(if b=true then 255 - (x.toNat:Int) else (x.toNat:Int))=((ja b x).toNat:Int):=by
 have:=x.toNat_lt
 cases b with
 |false=>rfl
 | true=>
  simp only [ja,if_true]
  rw [UInt8.toNat_sub_of_le _ _ (by rw [UInt8.le_iff_toNat_le];simp;omega)]
  simp
  omega
theorem VM {α:Type} {d:List α} {j:Nat} (h:j<d.length):(d.drop j).reverse=(d.drop (j+1)).reverse++ [d[j]]:=by
 rw [List.drop_eq_getElem_cons h,List.reverse_cons]
theorem n7 {n:Int} {hd:UInt8} {d:List UInt8} {H:AH} {Q:AQ} {F:List D} (hl:d.length<=8) (hF:Fr 59 [(0,.i n),(4,.own (d.map ql)),(6,.own ([hd].map ql)),(7,.i ((d.length:Int) - 1))] F) (hE:∀F',Fr 59 [(6,.own ((hd::d.reverse.map (ja (decide (n<0)))).map ql))] F'->Q (.exit 2) F' H):XW Tryz.prog (zj 40) F H Q:=by
 have hbig:=qj
 refine XW.loopK hmm (fun F H'=>∃(j:Nat),j<=d.length∧Fr 59 [(0,.i n),(4,.own (d.map ql)),(6,.own ((hd::(d.drop j).reverse.map (ja (decide (n<0)))).map ql)),(7,.i ((j:Int) - 1))] F∧H=H') (fun F H=>match F.getD 7 .any with| .int _ n'=>(n'+1).toNat|_=>0) ⟨d.length,by omega,by rw [List.drop_length];exact hF,rfl⟩ ?_
 rintro _ _ ⟨j,hj,hF,rfl⟩ K hN hE' hR
 obtain ⟨z,rfl⟩:=hF.fl rfl
 try dsimp only [fl,zz,qa,qb] at*
 clear hF hR
 rcases j with _|j
 ·clear hN
  simp+contextual only [show ((0:Nat):Int) - 1= -1 from rfl,show (0<=(-1:Int))=False from by simp,↓eG,↓XP,qo]
  exact hE' _ _ _ (hE _ ⟨rfl,rfl,trivial⟩)
 ·have e0:((j+1:Nat):Int) - 1=(j:Int):=by omega
  have nx:∀F',Fr 59 [(0,.i n),(4,.own (d.map ql)),(6,.own ((hd::(d.drop j).reverse.map (ja (decide (n<0)))).map ql)),(7,.i ((j:Int) - 1))] F'->K .normal F' H:=fun F' hF'=>hN _ _ ⟨j,by omega,hF',(qz rfl).symm⟩ (by
   rw [Ma,hF'.2.2.2.2.1]
   simp only [Mc,Md,Me]
   omega)
  clear hN hE hE'
  rw [VM (show j<d.length by omega)] at nx
  rw [e0]
  have q1:(d.map ql).getD j []= [.int .u8 ((d[j].toNat:Nat):Int)]:=by
   simp [show j<d.length by omega,ql]
  have q2:=iO (b:=decide (n<0)) (x:=d[j])
  have q3:=(d[j]).toNat_lt
  have hlen:(List.map ql (hd::(d.drop (j+1)).reverse.map (ja (decide (n<0))))).length<=9:=by
   simp only [Mj,Mi,List.length_reverse,List.length_drop]
   omega
  have w1:IntKind.i64.wrap ((j:Int) - 1)=(j:Int) - 1:=qm (by omega) (by omega)
  generalize d[j]=x at nx q1 q2 q3
  have w2:IntKind.u8.wrap (255 - (x.toNat:Int))=255 - (x.toNat:Int):=gG (by omega) (by omega)
  simp only [Mo,List.map_cons,List.map_nil] at nx
  by_cases hn:n<0
  ·simp only [hn,decide_true,if_true] at q2 nx ⊢
   rw [q2] at w2
   have w2':IntKind.u8.wrap (255 - (x.toNat:Int))=((ja true x).toNat:Int):=by rw [q2];exact w2
   simp+contextual only [q1,w1,w2',hn,↓eG,↓XP,qh,XW1,qc,qe]
   exact ⟨by omega,fun _=>⟨⟨rfl,qO⟩,by simp only [List.length_reverse,List.length_drop];omega,nx _ ⟨rfl,rfl,rfl,rfl,rfl,trivial⟩⟩⟩
  ·simp only [hn,decide_false,Bool.false_eq_true,if_false] at q2 nx ⊢
   simp+contextual only [q1,w1,hn,↓eG,↓XP,qh,XW1,qc,qe]
   exact ⟨by omega,fun _=>⟨⟨rfl,qO⟩,by simp only [List.length_reverse,List.length_drop];omega,nx _ ⟨rfl,rfl,rfl,rfl,rfl,trivial⟩⟩⟩
theorem gd {R:D->AH->Prop} (h:wX .i64 n->R (.own ((qr n).map ql)) H):ACall Tryz.prog 48 [.i n] H R:=by
 refine b48 fun hf=>?_
 have hbig:=qj
 have hin:wX .i64 n:=hf.1
 have hr:=hin
 rw [yG] at hr
 replace h:=h hin
 have hlen:=Js hin
 have hm:=WX hin
 obtain ⟨m0,hm0⟩:∃m0,mag n=m0:=⟨_,rfl⟩
 have hdl:(((digs m0).length:Nat):Int)<=8:=by rw [<-hm0];omega
 have w3:IntKind.i64.wrap (((digs m0).length:Int) - 1)=((digs m0).length:Int) - 1:=qm (by omega) (by omega)
 have hl9:(List.map ql (digs m0)).length=(digs m0).length:=Mj ..
 rw [qr,hm0] at h
 have hd9:(digs m0).length<=8:=by omega
 by_cases hn:n<0
 ·have w1:IntKind.i64.wrap (-1 - n)=((m0:Nat):Int):=by
   rw [qm (by omega) (by omega),<-hm0]
   unfold mag
   rw [if_pos hn]
   omega
  have hn2:¬(0<=n):=by omega
  have w4:IntKind.i64.wrap (127 - ((digs m0).length:Int))=((127 - (digs m0).length:Nat):Int):=by rw [qm (by omega) (by omega)];omega
  have w5:IntKind.u8.wrap ((127 - (digs m0).length:Nat):Int)=((127 - (digs m0).length:Nat):Int):=gG (by omega) (by omega)
  rw [if_pos hn] at h
  simp+contextual only [↓eG,w1,hn,↓eG,↓XP,qo,qa]
  refine dB (m0:=m0) (n:=n) (by omega) ⟨rfl,rfl,rfl,rfl,trivial⟩ (fun F' hF'=>?_)
  obtain ⟨z,rfl⟩:=hF'.fl rfl
  try dsimp only [fl,zz,qa,qb] at*
  simp+contextual only [w3,w4,w5,hl9,hn2,↓eG,↓XP,qh,XW1,qc,qe]
  refine fun _=>?_
  rw [gF (by omega)]
  refine n7 (hd:=UInt8.ofNat (127 - (digs m0).length)) (d:=digs m0) (n:=n) hd9 ⟨rfl,rfl,rfl,rfl,rfl,trivial⟩ (fun F' hF'=>?_)
  obtain ⟨z,rfl⟩:∃z:Nat->D,_=(let d:=digs m0;let hd:=UInt8.ofNat (127 - (digs m0).length); [z 0,z 1,z 2,z 3,z 4,z 5,.own ((hd::d.reverse.map (ja (decide (n<0)))).map ql),z 7,z 8,z 9,z 10,z 11,z 12,z 13,z 14,z 15,z 16,z 17,z 18,z 19,z 20,z 21,z 22,z 23,z 24,z 25,z 26,z 27,z 28,z 29,z 30,z 31,z 32,z 33,z 34,z 35,z 36,z 37,z 38,z 39,z 40,z 41,z 42,z 43,z 44,z 45,z 46,z 47,z 48,z 49,z 50,z 51,z 52,z 53,z 54,z 55,z 56,z 57,z 58]):=hF'.lit
  simp+contextual only [↓XP,qo,XW1]
  exact h
 ·have w1:n=((m0:Nat):Int):=by
   rw [<-hm0]
   unfold mag
   rw [if_neg hn]
   omega
  have hn2:0<=n:=by omega
  have w4:IntKind.i64.wrap (128+((digs m0).length:Int))=((128+(digs m0).length:Nat):Int):=by rw [qm (by omega) (by omega)];omega
  have w5:IntKind.u8.wrap ((128+(digs m0).length:Nat):Int)=((128+(digs m0).length:Nat):Int):=gG (by omega) (by omega)
  rw [if_neg hn] at h
  simp+contextual only [↓eG,hn,↓eG,↓XP,qo,qa]
  refine dB (m0:=m0) (n:=n) (by omega) (by refine ⟨rfl,rfl,?_,rfl,trivial⟩;show _=some (D.i (m0:Int));rw [<-w1];rfl) (fun F' hF'=>?_)
  obtain ⟨z,rfl⟩:=hF'.fl rfl
  try dsimp only [fl,zz,qa,qb] at*
  simp+contextual only [w3,w4,w5,hl9,hn2,↓eG,↓XP,qh,XW1,qc,qe]
  refine fun _=>?_
  rw [gF (by omega)]
  refine n7 (hd:=UInt8.ofNat (128+(digs m0).length)) (d:=digs m0) (n:=n) hd9 ⟨rfl,rfl,rfl,rfl,rfl,trivial⟩ (fun F' hF'=>?_)
  obtain ⟨z,rfl⟩:∃z:Nat->D,_=(let d:=digs m0;let hd:=UInt8.ofNat (128+(digs m0).length); [z 0,z 1,z 2,z 3,z 4,z 5,.own ((hd::d.reverse.map (ja (decide (n<0)))).map ql),z 7,z 8,z 9,z 10,z 11,z 12,z 13,z 14,z 15,z 16,z 17,z 18,z 19,z 20,z 21,z 22,z 23,z 24,z 25,z 26,z 27,z 28,z 29,z 30,z 31,z 32,z 33,z 34,z 35,z 36,z 37,z 38,z 39,z 40,z 41,z 42,z 43,z 44,z 45,z 46,z 47,z 48,z 49,z 50,z 51,z 52,z 53,z 54,z 55,z 56,z 57,z 58]):=hF'.lit
  simp+contextual only [↓XP,qo,XW1]
  exact h
theorem JO {l:List UInt8}:(l.map ql).length=l.length:=Mj ..
theorem Zd {n:Nat} (h:n<=140737488355328):wX .i64 (n:Int):=by rw [yG];omega
theorem kZ {n:Nat} (h:n<=140737488355328):(qr (n:Int)).length<=9:=yc (Zd h)
theorem Ka {R:D->AH->Prop} (hs:s.length<=3000000000) (h:R (.own ((qB s).map ql)) H):ACall Tryz.prog 113 [.str s] H R:=by
 refine IH fun hf=>?_
 have hbig:=qj
 have hl:=kZ (n:=s.length) (by omega)
 simp+contextual only [↓U113,↓U113.1,↓XP,qh,qa]
 refine fun _=>gd fun _=>?_
 simp+contextual only [↓XP,qh]
 refine fun _ _=>⟨qO,qO,by omega,?_⟩
 rw [<-Mo]
 exact h
theorem YE (h:i<l.length):(ints l).getD i []= [.i (l.getD i 0)]:=by simp [ints,h]
theorem yO {α:Type} {l:List α} {f:α->List UInt8} {i:Nat} {d:α} (h:i<l.length):(l.take (i+1)).flatMap f=(l.take i).flatMap f++f (l.getD i d):=by
 rw [List.take_add_one,List.flatMap_append]
 simp [h]
theorem ug:∀{l:List Int},(∀x∈l,wX .i64 x)->(l.flatMap qr).length<=9*l.length
 | [],_=>by simp
 | x::r,h=>by
  have h1:=yc (h x (.head _))
  have h2:=ug (l:=r) (fun y hy=>h y (.tail _ hy))
  simp only [List.flatMap_cons,Mh,Mi]
  omega
theorem gL {l:List Int} {H:AH} {R:D->AH->Prop} (hl:l.length<=30000000) (h:(qF l).length<=9+9*l.length->R (.own ((qF l).map ql)) H):ACall Tryz.prog 110 [.slc (ints l)] H R:=by
 refine DY fun hf=>?_
 have hbig:=qj
 have hle:=kZ (n:=l.length) (by omega)
 simp+contextual only [↓aW,jb,↓aW,↓XP,qh,qa]
 refine fun _=>gd fun _=>?_
 simp+contextual only [↓aW,↓XP,qo]
 refine fun _=>XW.loopK hmm (fun F H'=>∃(i:Nat),i<=l.length∧(∀x∈l.take i,wX .i64 x)∧Fr 22 [(0,.slc (ints l)),(3,.own ((qr l.length++(l.take i).flatMap qr).map ql)),(4,.i i)] F∧H=H') (fun F H=>match F.getD 4 .any with| .int _ n'=>l.length - n'.toNat|_=>0) ⟨0,by omega,by simp,by simp only [List.take_zero,List.flatMap_nil,M4];exact ⟨rfl,rfl,rfl,rfl,trivial⟩,rfl⟩ ?_
 rintro _ _ ⟨i,hi,hr,hF,rfl⟩ K hN hE hR
 obtain ⟨z,rfl⟩:=hF.fl rfl
 try dsimp only [fl,zz,qa,qb] at*
 clear hF hR
 by_cases hlt:i<l.length
 ·have nx:wX .i64 (l.getD i 0)->∀F',Fr 22 [(0,.slc (ints l)),(3,.own ((qr l.length++(l.take i).flatMap qr++qr (l.getD i 0)).map ql)),(4,.i ((i+1:Nat):Int))] F'->K .normal F' H:=fun hx F' hF'=>hN _ _ ⟨i+1,hlt,fun x hx'=>by
   rw [List.take_add_one] at hx'
   rcases List.mem_append.1 hx' with hx'|hx'
   ·exact hr x hx'
   ·simp [hlt] at hx'
    rw [hx']
    simpa [hlt] using hx,by rw [yO (d:=0) hlt,<-Mp];exact hF',(qz rfl).symm⟩ (by
   rw [Ma,hF'.2.2.2.1]
   simp only [Mc,Md,Me]
   omega)
  clear hN hE
  have q1:=YE (l:=l) hlt
  have hfl:=ug hr
  rw [M0] at hfl
  generalize l.getD i 0=x at q1 nx
  have hal:(qr (l.length:Int)++(l.take i).flatMap qr).length<=9+9*i:=by rw [Mh];omega
  generalize qr (l.length:Int)++(l.take i).flatMap qr=ac at nx hal ⊢
  simp+contextual only [jb,q1,↓aW,↓XP,qh]
  refine fun _=>⟨fun _ hx=>gd fun _=>?_,fun hge=>absurd (by omega) hge⟩
  have hxl:=yc hx
  simp+contextual only [qi (show i<=big by omega),↓aW,↓XP,qh]
  refine fun _=>⟨qO,qO,by omega,?_⟩
  rw [<-Mo]
  exact nx hx _ ⟨rfl,rfl,rfl,rfl,trivial⟩
 ·have hik:i=l.length:=by omega
  subst hik
  clear hN
  simp+contextual only [jb,↓aW,↓XP,qh]
  refine fun _=>hE _ _ _ ?_
  rw [List.take_length] at hr ⊢
  simp+contextual only [↓XP,qo,XW1]
  refine h ?_
  have:=ug hr
  rw [qF,Mh]
  omega
theorem z6:∀{l:List (List UInt8)} {c:Nat},(∀x∈l,x.length<=c)->c<=3000000000->(l.flatMap qB).length<=(9+c)*l.length
 | [],_,_,_=>by simp
 | x::r,c,h,hc=>by
  have h1:=kZ (n:=x.length) (by have:=h x (.head _);omega)
  have h3:=h x (.head _)
  have h2:=z6 (l:=r) (fun y hy=>h y (.tail _ hy)) hc
  simp only [List.flatMap_cons,Mh,Mi,qB,Nat.mul_add,Nat.mul_one]
  omega
theorem Yk (h:i<l.length):(strs l).getD i []= [.str (l.getD i [])]:=by simp [strs,h]
theorem Z4 {l:List (List UInt8)} {H:AH} {R:D->AH->Prop} (hl:l.length<=1000) (hs:∀x∈l,x.length<=3000000) (h:R (.own ((yn l).map ql)) H):ACall Tryz.prog 112 [.slc (strs l)] H R:=by
 refine Ft fun hf=>?_
 have hbig:=qj
 have hle:=kZ (n:=l.length) (by omega)
 simp+contextual only [↓bC,j8,↓bC,↓XP,qh,qa]
 refine fun _=>gd fun _=>?_
 simp+contextual only [↓bC,↓XP,qo]
 refine fun _=>XW.loopK hmm (fun F H'=>∃(i:Nat),i<=l.length∧Fr 22 [(0,.slc (strs l)),(3,.own ((qr l.length++(l.take i).flatMap qB).map ql)),(4,.i i)] F∧H=H') (fun F H=>match F.getD 4 .any with| .int _ n'=>l.length - n'.toNat|_=>0) ⟨0,by omega,by simp only [List.take_zero,List.flatMap_nil,M4];exact ⟨rfl,rfl,rfl,rfl,trivial⟩,rfl⟩ ?_
 rintro _ _ ⟨i,hi,hF,rfl⟩ K hN hE hR
 obtain ⟨z,rfl⟩:=hF.fl rfl
 try dsimp only [fl,zz,qa,qb] at*
 clear hF hR
 by_cases hlt:i<l.length
 ·have nx:∀F',Fr 22 [(0,.slc (strs l)),(3,.own ((qr l.length++(l.take i).flatMap qB++qB (l.getD i [])).map ql)),(4,.i ((i+1:Nat):Int))] F'->K .normal F' H:=fun F' hF'=>hN _ _ ⟨i+1,hlt,by rw [yO (d:= []) hlt,<-Mp];exact hF',(qz rfl).symm⟩ (by
   rw [Ma,hF'.2.2.2.1]
   simp only [Mc,Md,Me]
   omega)
  clear hN hE
  have q1:=Yk (l:=l) hlt
  have hfl:=z6 (l:=l.take i) (c:=3000000) (fun x hx=>hs x (List.mem_of_mem_take hx)) (by omega)
  have hx1:(l.getD i []).length<=3000000:=hs _ (by rw [jx hlt];exact List.getElem_mem hlt)
  rw [M0] at hfl
  generalize l.getD i []=x at q1 nx hx1
  have hal:(qr (l.length:Int)++(l.take i).flatMap qB).length<=9+3000009*1000:=by
   rw [Mh]
   have:(9+3000000)*min i l.length<=3000009*1000:=Nat.mul_le_mul_left _ (by omega)
   omega
  generalize qr (l.length:Int)++(l.take i).flatMap qB=ac at nx hal ⊢
  simp+contextual only [j8,q1,↓bC,↓XP,qh]
  refine fun _=>⟨fun _ _=>Ka (by omega) ?_,fun hge=>absurd (by omega) hge⟩
  have hxl:(qB x).length<=9+3000000:=by
   have:=kZ (n:=x.length) (by omega)
   simp only [qB,Mh]
   omega
  simp+contextual only [qi (show i<=big by omega),↓bC,↓XP,qh]
  refine fun _=>⟨qO,qO,by omega,?_⟩
  rw [<-Mo]
  exact nx _ ⟨rfl,rfl,rfl,rfl,trivial⟩
 ·have hik:i=l.length:=by omega
  subst hik
  clear hN
  simp+contextual only [j8,↓bC,↓XP,qh]
  refine fun _=>hE _ _ _ ?_
  rw [List.take_length]
  simp+contextual only [↓XP,qo,XW1]
  exact h
theorem V0 {x:Id3} {H:AH} {R:D->AH->Prop} (h:R (.own (ints [x.o,x.s,x.i])) H):ACall Tryz.prog 111 [.agg x.d] H R:=by
 refine IQ fun hf=>?_
 have hd:x.d= [.i x.o,.i x.s,.i x.i]:=rfl
 simp+contextual only [↓U111,hd,↓U111.1,↓XP,qh,XW1,qa,qc,qe]
 exact fun _ _ _ _ _=>h
theorem nA (h:x<18446744073709551616):18446744073709551615 ^^^ x=18446744073709551615 - x:=by
 apply Nat.eq_of_testBit_eq
 intro i
 have e1:(18446744073709551615:Nat)=2 ^ 64 - 1:=rfl
 have e2:(18446744073709551615:Nat) - x=2 ^ 64 - (x+1):=by omega
 rw [Nat.testBit_xor,e2,e1,Nat.testBit_two_pow_sub_one,Nat.testBit_two_pow_sub_succ h]
 by_cases hi:i<64
 ·simp [hi]
 ·have:x.testBit i=false:=Nat.testBit_lt_two_pow (Mr (show x<2 ^ 64 from h) (Nat.pow_le_pow_right (by decide) (Nat.le_of_not_lt hi)))
  simp [hi,this]
theorem Ig (h:x<256):x ^^^ 255=255 - x:=by
 apply Nat.eq_of_testBit_eq
 intro i
 have e1:(255:Nat)=2 ^ 8 - 1:=rfl
 have e2:(255:Nat) - x=2 ^ 8 - (x+1):=by omega
 rw [Nat.testBit_xor,e2,e1,Nat.testBit_two_pow_sub_one,Nat.testBit_two_pow_sub_succ h]
 by_cases hi:i<8
 ·simp [hi]
 ·have:x.testBit i=false:=Nat.testBit_lt_two_pow (Mr (show x<2 ^ 8 from h) (Nat.pow_le_pow_right (by decide) (Nat.le_of_not_lt hi)))
  simp [hi,this]
def KW (b:Bool):Int:=if b=true then 255 else 0
theorem sV {b:Bool} {x:Nat} (h:x<256):bits .xor .u8 (x:Int) (KW b)=((ja b (UInt8.ofNat x)).toNat:Int):=by
 cases b with
 | false=>
  have:=u8_xor_nat x 0 h (by omega)
  simp only [Nat.xor_zero] at this
  simp only [KW,ja,Bool.false_eq_true,if_false]
  rw [show ((0:Int))=((0:Nat):Int) from rfl,this,UInt8.toNat_ofNat',Nat.mod_eq_of_lt h]
 | true=>
  have:=u8_xor_nat x 255 h (by omega)
  rw [Ig h] at this
  have hx:(UInt8.ofNat x).toNat=x:=by rw [UInt8.toNat_ofNat',Nat.mod_eq_of_lt h]
  simp only [KW,ja,if_true]
  rw [show ((255:Int))=((255:Nat):Int) from rfl,this,UInt8.toNat_sub_of_le _ _ (by rw [UInt8.le_iff_toNat_le,hx];simp;omega),hx]
  simp
theorem G7:∀(m k:Nat),(digs m).length<=k↔m<256 ^ k
 | m,0=>by
  by_cases hm:m=0
  ·subst hm;simp [kw]
  ·rw [yY hm];simp;omega
 | m,k+1=>by
  by_cases hm:m=0
  ·subst hm;simp [kw,Nat.pow_pos]
  ·rw [yY hm,Mi,Nat.succ_le_succ_iff,G7 (m / 256) k,Nat.div_lt_iff_lt_mul (by omega),Nat.pow_succ]
theorem UC:∀(i m:Nat),i<(digs m).length->(digs m).getD i 0=UInt8.ofNat (m / 256 ^ i % 256)
 | i,m,h=>by
  by_cases hm:m=0
  ·subst hm;simp [kw] at h
  ·rw [yY hm] at h ⊢
   cases i with
   |zero=>simp
   | succ i=>
    rw [Mc,UC i (m / 256) (by simpa using h),Nat.div_div_eq_div_mul,Nat.pow_succ,Nat.mul_comm]
theorem GS {m i:Nat} (hi:i<=8):((m:Int)).fdiv (2 ^ (min ((8*(i:Int)).toNat) IntKind.u64.bits))=((m / 256 ^ i:Nat):Int):=by
 have e1:(8*(i:Int)).toNat=8*i:=by omega
 have e2:min (8*i) IntKind.u64.bits=8*i:=by
  have:IntKind.u64.bits=64:=rfl
  omega
 rw [e1,e2,show (256:Nat)=2 ^ 8 from rfl,<-Nat.pow_mul]
 rw [Int.fdiv_eq_ediv_of_nonneg _ (by exact Int.le_of_lt (Int.pow_pos (by omega)))]
 norm_cast
theorem GY (h:wX .i64 n):IntKind.u64.wrap n=(if n<0 then n+18446744073709551616 else n):=by
 rw [yG] at h
 rw [IntKind.wrap_u64]
 split<;>omega
theorem cY:IntKind.u8.wrap ((x:Nat):Int)=((x % 256:Nat):Int):=by
 rw [IntKind.wrap_u8']
 omega
end Go.Proofs.YtgopigkdcmhbbaaGreatDoor
end
noncomputable section
namespace Go.Proofs.YtgopigkdcmhbbaaGreatDoor
open Go.Xs
open Go Go.Aw
noncomputable def J1:=yy Tryz.f22
def V22:=PLift.up (aI (aI (aI (@unf (J1 41) (X (G [u,u,u,u,u,u,u,z 47,z 47,z 47,z 47,z 47,u,u,z 54,z 54,z 54,y 57,y 57,y 57,y 57,y 57,y 57,y 57,y 57,y 57,y 57,z 54,u]) (T (F [u]))) rfl) (aI (@unf (J1 37) (X (O (R [v,u,v,u,u,u] (J1 41))) (r [u,u])) rfl) (@unf (J1 31) (R [u] (X I (J1 37))) rfl))) (aI (@unf (J1 64) (R [u,u,u] (T (F [u]))) rfl) (aI (@unf (J1 60) (X (O (R [u,v,u,u] (J1 64))) (r [u,u])) rfl) (@unf (J1 54) (R [u] (X I (J1 60))) rfl)))) (aI (aI (@unf (J1 72) (X (R [u,u,u,u] (T (F [u]))) (F [u])) rfl) (aI (@unf (J1 49) (X (R [u,u,u,u] (U (J1 54))) (J1 72)) rfl) (@unf (J1 26) (X (R [u,u,u,u] (U (J1 31))) (J1 49)) rfl))) (aI (aI (@unf (J1 18) (X (R [u,u,u,u] (T (F [u]))) (J1 26)) rfl) (@unf (J1 10) (X (R [u,u,u,u,u,z 23,z 23,z 23,z 23,u] (T (F [u]))) (J1 18)) rfl)) (aI (@unf (J1 2) (X (R [u,u,u,u,u,u,u,z 13,z 13,z 13,z 13,u] (T (F [u]))) (J1 10)) rfl) (@unf (J1 0) (R [u,u] (J1 2)) rfl)))))
theorem mJ:type_of% V22.down:=V22.down
theorem Ht:Bt 22 86 (J1 0) [(.tmp 2)]:=bt Tryz.func22 rfl
noncomputable def Dz:=yy Tryz.f43
def V43:=PLift.up (aI (@unf (Dz 2) (F [u,u,u,y 7,y 7,v,u]) rfl) (@unf (Dz 0) (R [u] (Dz 2)) rfl))
theorem U43:type_of% V43.down:=V43.down
theorem b43:Bt 43 11 (Dz 0) [(.tmp 4)]:=bt Tryz.func43 rfl
noncomputable def DC:=yy Tryz.f44
def V44:=PLift.up (aI (@unf (DC 2) (F [u,u,u,u,y 10,y 10,y 10,v,u]) rfl) (@unf (DC 0) (R [u] (DC 2)) rfl))
theorem U44:type_of% V44.down:=V44.down
theorem b44:Bt 44 15 (DC 0) [(.tmp 6)]:=bt Tryz.func44 rfl
noncomputable def zG:=yy Tryz.f45
def V45:=PLift.up (aI (aI (aI (@unf (zG 51) (X (G [u,u,u,u,z 135,z 135,z 135,z 135,z 135,z 135,u,u,z 143,z 143,z 143,z 143,y 147,y 147,y 147,y 147,z 143,u]) (T (F [u]))) rfl) (@unf (zG 47) (X (O (R [v,u,v,u,u,u] (zG 51))) (r [u,u])) rfl)) (aI (@unf (zG 41) (R [u] (X I (zG 47))) rfl) (aI (@unf (zG 59) (F [u,u,u,u,z 158,z 158,z 158,z 158,z 158,v,u]) rfl) (@unf (zG 36) (X (R [u,u,u,u] (U (zG 41))) (zG 59)) rfl)))) (aI (aI (@unf (zG 28) (X (R [u,u,u,y 98,y 98,y 98,y 98,u,u,z 104,z 104,z 104,y 107,y 107,y 107,y 107,z 104,u,u,z 114,z 114,z 114,y 117,y 117,y 117,y 117,z 114,u] (T (F [u]))) (zG 36)) rfl) (aI (@unf (zG 20) (X (X (G [u,u,u,u,u,u,u,u,z 78,z 78,z 78,z 78,z 78,z 78,z 78,u,u,z 87,z 87,z 87,z 87,z 87,z 87,z 87,u]) (T (F [u]))) (zG 28)) rfl) (@unf (zG 12) (X (X (G [u,u,u,u,u,u,u,u,z 51,z 51,z 51,z 51,y 55,y 55,y 55,z 51,u,u,z 61,z 61,z 61,z 61,y 65,y 65,y 65,z 61,u]) (T (F [u]))) (zG 20)) rfl))) (aI (@unf (zG 4) (X (R [u,u,u,z 14,z 14,z 14,z 14,z 14,z 14,z 14,z 14,u,u,z 24,z 24,z 24,z 24,z 24,z 24,z 24,z 24,z 24,z 24,z 24,u,u,z 37,z 37,z 37,z 37,z 37,u] (T (F [u]))) (zG 12)) rfl) (aI (@unf (zG 2) (R [u,u,u,v,v,u,u,u] (zG 4)) rfl) (@unf (zG 0) (R [u,u] (zG 2)) rfl)))))
theorem U45:type_of% V45.down:=V45.down
theorem b45:Bt 45 165 (zG 0) [(.tmp 2)]:=bt Tryz.func45 rfl
noncomputable def DP:=yy Tryz.f28
def V28:=PLift.up (aI (@unf (DP 4) (F [u,u,v,u]) rfl) (@unf (DP 0) (R [u,u] (R [u,u] (DP 4))) rfl))
theorem U28:type_of% V28.down:=V28.down
theorem b28:Bt 28 7 (DP 0) [(.tmp 2)]:=bt Tryz.func28 rfl
noncomputable def W8:=yy Tryz.f89
def x89_c4:XC:=(.regT [4] [([f 71 1 3 56,l 67 56 57,e 67 57 58,Q .sub 3 58 1 59,b (.build 136 #[(0,(i 2)),(1,(i 4))]) 60,f 145 4 5 61],s (.store 3 (t 61) (i (-1))),false),([f 145 4 6 62],w 3 62 59,true)] [f 145 4 7 63] [w 136 63 60])
def x89_c5:XC:=(R [Q .eql 3 7 16 55,n 55 54] (C 54 x89_c4 (R [Q .eql 3 7 17 65,n 65 64] (W8 74))))
def x89_s6:XC:=(C 50 (W8 67) x89_c5)
def x89_s7:XC:=(C 46 (W8 63) (R [Q .eql 3 7 15 51,n 51 50] x89_s6))
def x89_s8:XC:=(C 42 (W8 59) (R [Q .eql 3 7 14 47,n 47 46] x89_s7))
def x89_s9:XC:=(C 38 (W8 55) (R [Q .eql 3 7 13 43,n 43 42] x89_s8))
def x89_s10:XC:=(C 35 (.reg [f 145 4 4 37,s (.store 4 (t 37) (.const (.bool true)))]) (R [Q .eql 3 7 12 39,n 39 38] x89_s9))
def x89_s11:XC:=(C 32 (.reg [f 145 4 6 34,s (.store 3 (t 34) (i 1))]) (R [Q .eql 3 7 11 36,n 36 35] x89_s10))
def x89_s12:XC:=(C 29 (.reg [f 145 4 2 31,s (.store 4 (t 31) (.const (.bool true)))]) (R [Q .eql 3 7 9 33,n 33 32] x89_s11))
def x89_s13:XC:=(C 25 (.reg [f 145 4 3 28,s (.store 4 (t 28) (.const (.bool true)))]) (R [Q .eql 3 7 6 30,n 30 29] x89_s12))
def x89_c14:XC:=(.seq (R [Q .eql 3 7 5 26,n 26 25] (C 25 .skip (.reg [Q .eql 3 7 7 27,n 27 25]))) x89_s13)
def x89_c16:XC:=(.seq (R [Q .eql 3 7 2 21,n 21 20] (C 20 .skip (W8 25))) (C 20 (.reg [f 145 4 6 24,s (.store 3 (t 24) (i 1048576))]) x89_c14))
def x89_s17:XC:=(C 12 (.reg [b (.build 145 #[(2,(.const (.bool true))),(3,(.const (.bool true))),(4,(.const (.bool true)))]) 14,w 145 4 14]) (R [Q .eql 3 7 4 16,n 16 15] (C 15 (W8 19) x89_c16)))
def x89_s18:XC:=(C 9 (.reg [b (.build 145 #[(2,(.const (.bool true))),(3,(.const (.bool true)))]) 11,w 145 4 11]) (R [Q .eql 3 7 3 13,n 13 12] x89_s17))
def x89_s20:XC:=(.seq (R [f 71 1 0 6,l 3 6 7] (.block 0 (R [Q .eql 3 7 1 10,n 10 9] x89_s18))) (W8 83))
def x89_s21:XC:=(R [b (.build 145 #[(0,(.const (.bool true)))]) 5,a (.alloc 145) 4,w 145 4 5] x89_s20)
def x89:XC:=(R [B 71 0 1,a (.alloc 145) 2,a (.assign (.const (.bool false))) 3] x89_s21)
def V89r:=PLift.up (aI (aI (@unf (W8 67) (r [u,u,u,u]) rfl) (@unf (W8 63) (r [u,u,u,u]) rfl)) (aI (@unf (W8 59) (r [u,u,u,u]) rfl) (@unf (W8 55) (r [u,u,u,u]) rfl)))
theorem I0:type_of% V89r.down:=V89r.down
def V89:=PLift.up (aI (aI (aI (aI (@unf (W8 25) (R [v,u] (V .skip (r [v,u]))) rfl) (@unf (W8 79) (r [v,u,u,u,u]) rfl)) (aI (@unf (W8 78) (V (W8 79) (F [v,u,u])) rfl) (aI (@unf (W8 74) (V (r [u,u]) (R [v,u] (W8 78))) rfl) (@unf _ _ x89_c4.eq_1)))) (aI (aI (@unf _ _ x89_c5.eq_1) (aI (@unf _ _ x89_s6.eq_1) (@unf _ _ x89_s7.eq_1))) (aI (@unf _ _ x89_s8.eq_1) (aI (@unf _ _ x89_s9.eq_1) (@unf _ _ x89_s10.eq_1))))) (aI (aI (aI (@unf _ _ x89_s11.eq_1) (@unf _ _ x89_s12.eq_1)) (aI (@unf _ _ x89_s13.eq_1) (aI (@unf _ _ x89_c14.eq_1) (@unf (W8 19) (r [u,u,u,u,u,u]) rfl)))) (aI (aI (@unf _ _ x89_c16.eq_1) (aI (@unf _ _ x89_s17.eq_1) (@unf _ _ x89_s18.eq_1))) (aI (@unf (W8 83) (F [v,u,u]) rfl) (aI (@unf _ _ x89_s20.eq_1) (@unf _ _ x89_s21.eq_1))))))
theorem U89:type_of% V89.down:=V89.down
theorem b89:Bt 89 73 x89 [(.cell 2 145),(.tmp 3)]:=bt Tryz.func89 rfl
noncomputable def DH:=yy Tryz.f90
def V90:=PLift.up (aI (@unf (DH 2) (F [u,u,u,u,u,u,y 8,y 8,y 8,v,u]) rfl) (@unf (DH 0) (R [u,u] (DH 2)) rfl))
theorem U90:type_of% V90.down:=V90.down
theorem b90:Bt 90 13 (DH 0) [(.tmp 2)]:=bt Tryz.func90 rfl
noncomputable def DI:=yy Tryz.f91
def V91:=PLift.up (aI (@unf (DI 2) (F [u,u,u,u,y 6,y 6,y 6,y 6,y 6,u,u,y 13,y 13,y 13,v,u]) rfl) (@unf (DI 0) (R [u,u] (DI 2)) rfl))
theorem U91:type_of% V91.down:=V91.down
theorem b91:Bt 91 18 (DI 0) [(.tmp 2)]:=bt Tryz.func91 rfl
noncomputable def DE:=yy Tryz.f92
def V92:=PLift.up (aI (@unf (DE 2) (F [u,u,u,v,u]) rfl) (@unf (DE 0) (R [u,u] (DE 2)) rfl))
theorem U92:type_of% V92.down:=V92.down
theorem b92:Bt 92 9 (DE 0) [(.tmp 4)]:=bt Tryz.func92 rfl
noncomputable def Y3:=yy Tryz.f120
def V120:=PLift.up (aI (aI (@unf (Y3 17) (X (G [u,u,u,u,u,u]) (T (F [v,u]))) rfl) (@unf (Y3 13) (X (O (R [v,u] (Y3 17))) (r [u,u])) rfl)) (aI (@unf (Y3 7) (R [u] (X I (Y3 13))) rfl) (aI (@unf (Y3 2) (X (R [u,u,u] (U (Y3 7))) (F [u])) rfl) (@unf (Y3 0) (R [u,u] (Y3 2)) rfl))))
theorem cK:type_of% V120.down:=V120.down
theorem EN:Bt 120 19 (Y3 0) [(.tmp 4)]:=bt Tryz.func120 rfl
noncomputable def gn:=yy Tryz.f42
def x42_s8:XC:=(.seq (.gh (.reg [f 71 8 1 55,l 66 55 56,k2 85 9 56 139 66 57])) (gn 46))
def x42_s9:XC:=(R [f 71 8 0 51,l 3 51 52,a (.call ⟨(.builtin .real),#[t 52],#[22]⟩) 53,b (.build 139 #[(0,(t 53))]) 54,a (.alloc 139) 9,w 139 9 54] x42_s8)
def x42_s10:XC:=(.seq (.block 3 (.seq (gn 41) x42_s9)) (.reg [q .add 3 47 1 93,m 93 47]))
theorem iU:type_of% (@unf _ _ x42_s10.eq_1):=unf x42_s10.eq_1
def x42_L11:XC:=(R [p .lss 3 47 46 48] (.seq (C 48 .skip (.exit 2)) x42_s10))
def x42_s13:XC:=(.seq (.seq (gn 29) (.block 2 (.loop x42_L11))) (gn 58))
def x42_s14:XC:=(.seq (gn 26) x42_s13)
def x42_s15:XC:=(.seq (gn 24) x42_s14)
def x42_s16:XC:=(.seq (.seq (gn 8) (.block 0 (.loop (gn 11)))) x42_s15)
def x42_s17:XC:=(.seq (gn 3) (R [Z 4] x42_s16))
def x42:XC:=(R [B 26 0 1,Z 2] x42_s17)
def V42r:=PLift.up (aI (aI (@unf (gn 41) (r [u,v,u,u]) rfl) (aI (@unf (gn 29) (r [u,u,u,u]) rfl) (@unf (gn 26) (r [x,u,u,u,u,v,u]) rfl))) (aI (@unf (gn 24) (r [x,u,u,v,u]) rfl) (aI (@unf (gn 8) (r [u,u,u,u]) rfl) (@unf (gn 3) (r [u,u,u,u,u,u,u,v,u]) rfl))))
theorem u4:type_of% V42r.down:=V42r.down
def V42:=PLift.up (aI (aI (aI (aI (@unf (gn 21) (r [x,u,u,u,u,u,v,u]) rfl) (@unf (gn 17) (X (O (R [u,v,u,u] (gn 21))) (r [u,u])) rfl)) (aI (@unf (gn 11) (R [u] (X I (gn 17))) rfl) (@unf (gn 56) (r [x,u,u,u,u,u,u,v,u]) rfl))) (aI (aI (@unf (gn 54) (R [x,u,u,u,v,u] (gn 56)) rfl) (@unf (gn 52) (R [u,u,u,u] (gn 54)) rfl)) (aI (@unf (gn 48) (R [x,u,x,u,u,u,u,u,u,u,u,u,u,u,v,u] (R [u] (gn 52))) rfl) (aI (@unf (gn 46) (R [u,u,u] (gn 48)) rfl) (@unf _ _ x42_s8.eq_1))))) (aI (aI (aI (@unf _ _ x42_s9.eq_1) (@unf _ _ x42_s10.eq_1)) (aI (@unf _ _ x42_L11.eq_1) (@unf (gn 58) (F [x,u,u,u,v,u]) rfl))) (aI (aI (@unf _ _ x42_s13.eq_1) (@unf _ _ x42_s14.eq_1)) (aI (@unf _ _ x42_s15.eq_1) (aI (@unf _ _ x42_s16.eq_1) (@unf _ _ x42_s17.eq_1))))))
theorem Z2:type_of% V42.down:=V42.down
theorem b42:Bt 42 99 x42 [(.tmp 2)]:=bt Tryz.func42 rfl
noncomputable def cn:=yy Tryz.f84
def V84:=PLift.up (aI (aI (@unf (cn 19) (r [x,u,u,v,u]) rfl) (aI (@unf (cn 15) (X (O (R [u,v,u] (cn 19))) (r [u,u])) rfl) (@unf (cn 9) (R [u] (X I (cn 15))) rfl))) (aI (@unf (cn 4) (X (R [u,u,u] (U (cn 9))) (F [v,u])) rfl) (aI (@unf (cn 2) (R [u,u,v,u] (cn 4)) rfl) (@unf (cn 0) (R [u] (cn 2)) rfl))))
theorem BQ:type_of% V84.down:=V84.down
theorem b84:Bt 84 21 (cn 0) [(.tmp 2)]:=bt Tryz.func84 rfl
noncomputable def QT:=yy Tryz.f64
def V64:=PLift.up (aI (aI (aI (@unf (QT 8) (T (r [u,v,u,u])) rfl) (aI (@unf (QT 31) (r [u,v,u]) rfl) (@unf (QT 24) (O (X (R [u,u,u,u,u,u] (T (.exit _))) (QT 31))) rfl))) (aI (@unf (QT 18) (X (R [u,u] I) (QT 24)) rfl) (aI (@unf (QT 48) (r [u,v,u]) rfl) (@unf (QT 45) (X (O (r [x,u,u,u,u,u,u,u,u,v,u])) (QT 48)) rfl)))) (aI (aI (@unf (QT 39) (X (R [u,u] I) (QT 45)) rfl) (aI (@unf (QT 34) (X (R [u,v,u] (U (QT 39))) (F [v,u])) rfl) (@unf (QT 32) (R [u,u,u,u,u,v,u] (QT 34)) rfl))) (aI (@unf (QT 5) (X (R [u,u] (QT 8)) (R [u] (X .skip (X (U (QT 18)) (QT 32))))) rfl) (aI (@unf (QT 2) (.scope (R [u,v,u,u] (QT 5))) rfl) (@unf (QT 0) (R [u] (QT 2)) rfl)))))
theorem dx:type_of% V64.down:=V64.down
theorem b64:Bt 64 47 (QT 0) [(.tmp 2)]:=bt Tryz.func64 rfl
def x85_s0:XC:=(.regT [0] [([m 0 4,m 0 5,a (.nilCheck (t 5)) 6,f 139 6 0 7],c (.load 22 (t 7)) 8,false)] [f 66 3 0 9,l 3 9 10,f 66 3 1 11,l 3 11 12,f 66 3 2 13,l 3 13 14,a (.buildSlice 22 3 #[(0,(t 10)),(1,(t 12)),(2,(t 14))]) 15,b (.call ⟨(.builtin .append),#[t 8,t 15],#[22,22]⟩) 16,a (.nilCheck (t 4)) 17,f 139 17 0 18] [w 22 18 16])
theorem fp:type_of% (@unf _ _ x85_s0.eq_1):=unf x85_s0.eq_1
def EK:XC:=(R [B 66 1 3] x85_s0)
theorem b85:Bt 85 19 EK []:=bt Tryz.func85 rfl
noncomputable def ce:=yy Tryz.f87
def V87:=PLift.up (aI (aI (@unf (ce 19) (r [x,u,u,v,u]) rfl) (aI (@unf (ce 15) (X (O (R [u,v,u] (ce 19))) (r [u,u])) rfl) (@unf (ce 9) (R [u] (X I (ce 15))) rfl))) (aI (@unf (ce 4) (X (R [u,u,u] (U (ce 9))) (F [v,u])) rfl) (aI (@unf (ce 2) (R [u,u,v,u] (ce 4)) rfl) (@unf (ce 0) (R [u] (ce 2)) rfl))))
theorem Al:type_of% V87.down:=V87.down
theorem b87:Bt 87 21 (ce 0) [(.tmp 2)]:=bt Tryz.func87 rfl
noncomputable def Dw:=yy Tryz.f88
def V88:=PLift.up (aI (@unf (Dw 2) (F [u,u,x,u,v,u]) rfl) (@unf (Dw 0) (R [u] (Dw 2)) rfl))
theorem U88:type_of% V88.down:=V88.down
theorem b88:Bt 88 8 (Dw 0) [(.tmp 2)]:=bt Tryz.func88 rfl
noncomputable def xD:=yy Tryz.f29
def V29:=PLift.up (aI (@unf (xD 10) (F [x,u,v,u]) rfl) (aI (@unf (xD 2) (X (R [u,u] (T (F [u]))) (xD 10)) rfl) (@unf (xD 0) (R [u] (xD 2)) rfl)))
theorem U29:type_of% V29.down:=V29.down
theorem b29:Bt 29 8 (xD 0) [(.tmp 2)]:=bt Tryz.func29 rfl
noncomputable def xB:=yy Tryz.f31
def V31:=PLift.up (aI (@unf (xB 10) (F [x,u,v,u]) rfl) (aI (@unf (xB 2) (X (R [u,u] (T (F [u]))) (xB 10)) rfl) (@unf (xB 0) (R [u] (xB 2)) rfl)))
theorem U31:type_of% V31.down:=V31.down
theorem b31:Bt 31 8 (xB 0) [(.tmp 2)]:=bt Tryz.func31 rfl
end Go.Proofs.YtgopigkdcmhbbaaGreatDoor
end
section
namespace Go.Proofs.YtgopigkdcmhbbaaGreatDoor
open Go Go.Aw
theorem nu (hm:(digs m0).length<=8) (hF:Fr 47 [(3,.int .u64 (m0:Int)),(4,.int .u8 (KW b)),(5,.i 8)] F) (hE:∀F',Fr 47 [(3,.int .u64 (m0:Int)),(4,.int .u8 (KW b)),(5,.i ((digs m0).length:Int))] F'->Q (.exit 0) F' H):XW Tryz.prog (QT 18) F H Q:=by
 have hbig:=qj
 refine XW.loopK hmm (fun F H'=>∃(k:Nat),k<=8∧(digs m0).length<=k∧Fr 47 [(3,.int .u64 (m0:Int)),(4,.int .u8 (KW b)),(5,.i (k:Int))] F∧H=H') (fun F H=>match F.getD 5 .any with| .int _ n'=>n'.toNat|_=>0) ⟨8,by omega,hm,hF,rfl⟩ ?_
 rintro _ _ ⟨k,hk,hd,hF,rfl⟩ K hN hE' hR
 obtain ⟨z,rfl⟩:=hF.fl rfl
 try dsimp only [fl,zz,qa,qb] at*
 clear hF hR
 rcases k with _|k
 ·clear hN
  have hd0:(digs m0).length=0:=by omega
  simp+contextual only [show (0<((0:Nat):Int))=False from by simp,↓dx,↓XP,qo]
  exact hE' _ _ _ (hE _ (by rw [hd0];exact ⟨rfl,rfl,rfl,rfl,trivial⟩))
 ·have w1:IntKind.i64.wrap (((k+1:Nat):Int) - 1)=(k:Int):=by rw [qm (by omega) (by omega)];omega
  have w2:IntKind.i64.wrap (8*(k:Int))=8*(k:Int):=qm (by omega) (by omega)
  have w3:=GS (m:=m0) (i:=k) (by omega)
  have hc:=G7 m0 k
  by_cases hle:(digs m0).length<=k
  ·have hz:m0 / 256 ^ k=0:=Nat.div_eq_of_lt (hc.1 hle)
   rw [hz] at w3
   simp+contextual only [show (0<((k+1:Nat):Int))=True from eq_true (by omega),w1,w2,w3,show (0<=8*(k:Int))=True from eq_true (by omega),show (0<((0:Nat):Int))=False from by simp,↓dx,↓XP,qo]
   refine hN _ _ ⟨k,by omega,hle,⟨rfl,rfl,rfl,rfl,trivial⟩,(qz rfl).symm⟩ ?_
   simp only [Mc,Md]
   omega
  ·have hp:0<m0 / 256 ^ k:=by
    refine Nat.div_pos ?_ (Nat.pow_pos (by omega))
    have:=mt hc.2 hle
    omega
   have hlen:(digs m0).length=k+1:=by omega
   clear hN
   simp+contextual only [show (0<((k+1:Nat):Int))=True from eq_true (by omega),w1,w2,w3,show (0<=8*(k:Int))=True from eq_true (by omega),show (0<((m0 / 256 ^ k:Nat):Int))=True from eq_true (by omega),↓dx,↓XP,qo,qf]
   exact hE' _ _ _ (hE _ (by rw [hlen];exact ⟨rfl,rfl,rfl,rfl,trivial⟩))
theorem nP (hm:(digs m0).length<=8) (hF:Fr 47 [(3,.int .u64 (m0:Int)),(4,.int .u8 (KW b)),(6,.own ([hd].map ql)),(7,.i (((digs m0).length:Int) - 1))] F) (hE:∀F',Fr 47 [(6,.own ((hd::(digs m0).reverse.map (ja b)).map ql))] F'->Q (.exit 2) F' H):XW Tryz.prog (QT 39) F H Q:=by
 have hbig:=qj
 refine XW.loopK hmm (fun F H'=>∃(j:Nat),j<=(digs m0).length∧Fr 47 [(3,.int .u64 (m0:Int)),(4,.int .u8 (KW b)),(6,.own ((hd::((digs m0).drop j).reverse.map (ja b)).map ql)),(7,.i ((j:Int) - 1))] F∧H=H') (fun F H=>match F.getD 7 .any with| .int _ n'=>(n'+1).toNat|_=>0) ⟨(digs m0).length,by omega,by rw [List.drop_length];exact hF,rfl⟩ ?_
 rintro _ _ ⟨j,hj,hF,rfl⟩ K hN hE' hR
 obtain ⟨z,rfl⟩:=hF.fl rfl
 try dsimp only [fl,zz,qa,qb] at*
 clear hF hR
 rcases j with _|j
 ·clear hN
  simp+contextual only [show ((0:Nat):Int) - 1= -1 from rfl,show (0<=(-1:Int))=False from by simp,↓dx,↓XP,qo]
  exact hE' _ _ _ (hE _ ⟨rfl,rfl,trivial⟩)
 ·have e0:((j+1:Nat):Int) - 1=(j:Int):=by omega
  have nx:∀F',Fr 47 [(3,.int .u64 (m0:Int)),(4,.int .u8 (KW b)),(6,.own ((hd::((digs m0).drop j).reverse.map (ja b)).map ql)),(7,.i ((j:Int) - 1))] F'->K .normal F' H:=fun F' hF'=>hN _ _ ⟨j,by omega,hF',(qz rfl).symm⟩ (by
   rw [Ma,hF'.2.2.2.2.1]
   simp only [Mc,Md,Me]
   omega)
  clear hN hE hE'
  rw [VM (show j<(digs m0).length by omega)] at nx
  rw [e0]
  have q1:(digs m0)[j]=UInt8.ofNat (m0 / 256 ^ j % 256):=by
   rw [<-UC j m0 (by omega),Ma,Mb (show j<(digs m0).length by omega)]
   rfl
  have hlen:(List.map ql (hd::((digs m0).drop (j+1)).reverse.map (ja b))).length<=9:=by
   simp only [Mj,Mi,List.length_reverse,List.length_drop]
   omega
  have w1:IntKind.i64.wrap ((j:Int) - 1)=(j:Int) - 1:=qm (by omega) (by omega)
  have w2:IntKind.i64.wrap (8*(j:Int))=8*(j:Int):=qm (by omega) (by omega)
  have w3:=GS (m:=m0) (i:=j) (by omega)
  have w4:=cY (x:=m0 / 256 ^ j)
  have w5:=sV (b:=b) (x:=m0 / 256 ^ j % 256) (Nat.mod_lt _ (by omega))
  rw [<-q1] at w5
  rw [q1] at nx
  rw [q1] at w5
  simp only [Mo,List.map_cons,List.map_nil] at nx
  simp+contextual only [show (0<=(j:Int))=True from eq_true (by omega),w1,w2,w3,w4,w5,show (0<=8*(j:Int))=True from eq_true (by omega),↓dx,↓XP,qh,XW1,qc,qe]
  exact ⟨⟨rfl,qO⟩,by simp only [List.length_reverse,List.length_drop];omega,nx _ ⟨rfl,rfl,rfl,rfl,rfl,trivial⟩⟩
theorem zU {R:D->AH->Prop} (h:wX .i64 n->R (.own ((qr n).map ql)) H):ACall Tryz.prog 64 [.i n] H R:=by
 refine b64 fun hf=>?_
 have hbig:=qj
 have hin:wX .i64 n:=hf.1
 have hr:=hin
 rw [yG] at hr
 replace h:=h hin
 have hlen:=Js hin
 have hm:=WX hin
 obtain ⟨m0,hm0⟩:∃m0,mag n=m0:=⟨_,rfl⟩
 rw [qr,hm0] at h
 rw [hm0] at hlen hm
 have w0:=GY hin
 have w3:IntKind.i64.wrap (((digs m0).length:Int) - 1)=((digs m0).length:Int) - 1:=qm (by omega) (by omega)
 have w4:IntKind.i64.wrap (128+((digs m0).length:Int))=((128+(digs m0).length:Nat):Int):=by rw [qm (by omega) (by omega)];omega
 have w5:IntKind.u8.wrap ((128+(digs m0).length:Nat):Int)=((128+(digs m0).length:Nat):Int):=gG (by omega) (by omega)
 have w6:=fun c=>sV (b:=c) (x:=128+(digs m0).length) (by omega)
 by_cases hn:n<0
 ·have e1:n+18446744073709551616=((18446744073709551615 - m0:Nat):Int):=by
   have:m0=(-1 - n).toNat:=by rw [<-hm0,mag,if_pos hn]
   omega
  have ux:bits .xor .u64 (if IntKind.u64.signed=true then -1 else IntKind.u64.max) ((18446744073709551615 - m0:Nat):Int)=((m0:Nat):Int):=by
   rw [show (if IntKind.u64.signed=true then (-1:Int) else IntKind.u64.max)=((18446744073709551615:Nat):Int) from rfl,u64_xor_nat _ _ (by omega) (by omega),nA (by omega)]
   omega
  rw [if_pos hn] at h w0
  rw [e1] at w0
  rw [show 127 - (digs m0).length=(ja true (UInt8.ofNat (128+(digs m0).length))).toNat from by
   rw [ja,if_pos rfl,UInt8.toNat_sub_of_le _ _ (by rw [UInt8.le_iff_toNat_le,UInt8.toNat_ofNat'];simp;omega),UInt8.toNat_ofNat']
   simp
   omega,UInt8.ofNat_toNat,decide_eq_true hn] at h
  simp+contextual only [↓dx,w0,hn,ux,↓dx,↓XP,qh,qa]
  refine nu (b:=true) (m0:=m0) (by omega) ⟨rfl,rfl,rfl,rfl,trivial⟩ (fun F' hF'=>?_)
  obtain ⟨z,rfl⟩:∃z:Nat->D,_=(let b:=true; [z 0,z 1,z 2,.int .u64 (m0:Int),.int .u8 (KW b),.i ((digs m0).length:Int),z 6,z 7,z 8,z 9,z 10,z 11,z 12,z 13,z 14,z 15,z 16,z 17,z 18,z 19,z 20,z 21,z 22,z 23,z 24,z 25,z 26,z 27,z 28,z 29,z 30,z 31,z 32,z 33,z 34,z 35,z 36,z 37,z 38,z 39,z 40,z 41,z 42,z 43,z 44,z 45,z 46]):=hF'.lit
  simp+contextual only [w3,w4,w5,w6,↓dx,↓XP,qh,XW1,qc,qe]
  rw [gF (UInt8.toNat_lt _),UInt8.ofNat_toNat]
  refine nP (b:=true) (m0:=m0) (hd:=ja true (UInt8.ofNat (128+(digs m0).length))) (by omega) ⟨rfl,rfl,rfl,rfl,rfl,trivial⟩ (fun F' hF'=>?_)
  obtain ⟨z,rfl⟩:∃z:Nat->D,_=(let b:=true;let hd:=ja true (UInt8.ofNat (128+(digs m0).length)); [z 0,z 1,z 2,z 3,z 4,z 5,.own ((hd::(digs m0).reverse.map (ja b)).map ql),z 7,z 8,z 9,z 10,z 11,z 12,z 13,z 14,z 15,z 16,z 17,z 18,z 19,z 20,z 21,z 22,z 23,z 24,z 25,z 26,z 27,z 28,z 29,z 30,z 31,z 32,z 33,z 34,z 35,z 36,z 37,z 38,z 39,z 40,z 41,z 42,z 43,z 44,z 45,z 46]):=hF'.lit
  simp+contextual only [↓XP,qo,XW1]
  exact h
 ·have e1:n=((m0:Nat):Int):=by rw [<-hm0,mag,if_neg hn];omega
  rw [if_neg hn] at h w0
  rw [show 128+(digs m0).length=(ja false (UInt8.ofNat (128+(digs m0).length))).toNat from by
   rw [ja,if_neg (by simp),UInt8.toNat_ofNat']
   omega,UInt8.ofNat_toNat,decide_eq_false hn] at h
  replace w0:IntKind.u64.wrap n=(m0:Int):=w0.trans e1
  simp+contextual only [↓dx,w0,hn,↓dx,↓XP,qh,qa]
  refine nu (b:=false) (m0:=m0) (by omega) ⟨rfl,rfl,rfl,rfl,trivial⟩ (fun F' hF'=>?_)
  obtain ⟨z,rfl⟩:∃z:Nat->D,_=(let b:=false; [z 0,z 1,z 2,.int .u64 (m0:Int),.int .u8 (KW b),.i ((digs m0).length:Int),z 6,z 7,z 8,z 9,z 10,z 11,z 12,z 13,z 14,z 15,z 16,z 17,z 18,z 19,z 20,z 21,z 22,z 23,z 24,z 25,z 26,z 27,z 28,z 29,z 30,z 31,z 32,z 33,z 34,z 35,z 36,z 37,z 38,z 39,z 40,z 41,z 42,z 43,z 44,z 45,z 46]):=hF'.lit
  simp+contextual only [w3,w4,w5,w6,↓dx,↓XP,qh,XW1,qc,qe]
  rw [gF (UInt8.toNat_lt _),UInt8.ofNat_toNat]
  refine nP (b:=false) (m0:=m0) (hd:=ja false (UInt8.ofNat (128+(digs m0).length))) (by omega) ⟨rfl,rfl,rfl,rfl,rfl,trivial⟩ (fun F' hF'=>?_)
  obtain ⟨z,rfl⟩:∃z:Nat->D,_=(let b:=false;let hd:=ja false (UInt8.ofNat (128+(digs m0).length)); [z 0,z 1,z 2,z 3,z 4,z 5,.own ((hd::(digs m0).reverse.map (ja b)).map ql),z 7,z 8,z 9,z 10,z 11,z 12,z 13,z 14,z 15,z 16,z 17,z 18,z 19,z 20,z 21,z 22,z 23,z 24,z 25,z 26,z 27,z 28,z 29,z 30,z 31,z 32,z 33,z 34,z 35,z 36,z 37,z 38,z 39,z 40,z 41,z 42,z 43,z 44,z 45,z 46]):=hF'.lit
  simp+contextual only [↓XP,qo,XW1]
  exact h
theorem Kq {R:D->AH->Prop} (hs:s.length<=3000000000) (h:R (.own ((qB s).map ql)) H):ACall Tryz.prog 88 [.str s] H R:=by
 refine b88 fun hf=>?_
 have hbig:=qj
 have hl:=kZ (n:=s.length) (by omega)
 simp+contextual only [↓U88,↓U88.1,↓XP,qh,qa]
 refine fun _=>zU fun _=>?_
 simp+contextual only [↓XP,qh]
 refine fun _=>⟨qO,by omega,?_⟩
 rw [<-Mo]
 exact h
theorem gC {R:D->AH->Prop} (hl:l.length<=30000000) (h:(qF l).length<=9+9*l.length->R (.own ((qF l).map ql)) H):ACall Tryz.prog 84 [.slc (ints l)] H R:=by
 refine b84 fun hf=>?_
 have hbig:=qj
 have hle:=kZ (n:=l.length) (by omega)
 simp+contextual only [↓BQ,jb,↓BQ,↓XP,qh,qa]
 refine fun _=>zU fun _=>?_
 simp+contextual only [jb,↓BQ,↓XP,qh]
 refine fun _ _=>XW.loopK hmm (fun F H'=>∃(i:Nat),i<=l.length∧(∀x∈l.take i,wX .i64 x)∧Fr 21 [(3,.own ((qr l.length++(l.take i).flatMap qr).map ql)),(9,.slc (ints l)),(10,.i l.length),(11,.i i)] F∧H=H') (fun F H=>match F.getD 11 .any with| .int _ n'=>l.length - n'.toNat|_=>0) ⟨0,by omega,by simp,by simp only [List.take_zero,List.flatMap_nil,M4];exact ⟨rfl,rfl,rfl,rfl,rfl,trivial⟩,rfl⟩ ?_
 rintro _ _ ⟨i,hi,hr,hF,rfl⟩ K hN hE hR
 obtain ⟨z,rfl⟩:=hF.fl rfl
 try dsimp only [fl,zz,qa,qb] at*
 clear hF hR
 by_cases hlt:i<l.length
 ·have nx:wX .i64 (l.getD i 0)->∀F',Fr 21 [(3,.own ((qr l.length++(l.take i).flatMap qr++qr (l.getD i 0)).map ql)),(9,.slc (ints l)),(10,.i l.length),(11,.i ((i+1:Nat):Int))] F'->K .normal F' H:=fun hx F' hF'=>hN _ _ ⟨i+1,hlt,fun x hx'=>by
   rw [List.take_add_one] at hx'
   rcases List.mem_append.1 hx' with hx'|hx'
   ·exact hr x hx'
   ·simp [hlt] at hx'
    rw [hx']
    simpa [hlt] using hx,by rw [yO (d:=0) hlt,<-Mp];exact hF',(qz rfl).symm⟩ (by
   rw [Ma,hF'.2.2.2.2.1]
   simp only [Mc,Md,Me]
   omega)
  clear hN hE
  have q1:=YE (l:=l) hlt
  have hfl:=ug hr
  rw [M0] at hfl
  generalize l.getD i 0=x at q1 nx
  have hal:(qr (l.length:Int)++(l.take i).flatMap qr).length<=9+9*i:=by rw [Mh];omega
  generalize qr (l.length:Int)++(l.take i).flatMap qr=ac at nx hal ⊢
  simp+contextual only [jb,hlt,Int.ofNat_lt,q1,↓BQ,↓XP,qh]
  refine fun hx=>zU fun _=>?_
  have hxl:=yc hx
  simp+contextual only [qi (show i<=big by omega),↓XP,qh]
  refine fun _=>⟨qO,qO,by omega,?_⟩
  rw [<-Mo]
  exact nx hx _ ⟨rfl,rfl,rfl,rfl,rfl,trivial⟩
 ·have hik:i=l.length:=by omega
  subst hik
  clear hN
  simp+contextual only [↓BQ,↓XP,qo]
  refine hE _ _ _ ?_
  rw [List.take_length] at hr ⊢
  simp+contextual only [↓XP,qo,XW1]
  refine h ?_
  have:=ug hr
  rw [qF,Mh]
  omega
theorem ZU {R:D->AH->Prop} (hl:l.length<=1000) (hs:∀x∈l,x.length<=3000000) (h:R (.own ((yn l).map ql)) H):ACall Tryz.prog 87 [.slc (strs l)] H R:=by
 refine b87 fun hf=>?_
 have hbig:=qj
 have hle:=kZ (n:=l.length) (by omega)
 simp+contextual only [↓Al,j8,↓Al,↓XP,qh,qa]
 refine fun _=>zU fun _=>?_
 simp+contextual only [j8,↓Al,↓XP,qh]
 refine fun _ _=>XW.loopK hmm (fun F H'=>∃(i:Nat),i<=l.length∧Fr 21 [(3,.own ((qr l.length++(l.take i).flatMap qB).map ql)),(9,.slc (strs l)),(10,.i l.length),(11,.i i)] F∧H=H') (fun F H=>match F.getD 11 .any with| .int _ n'=>l.length - n'.toNat|_=>0) ⟨0,by omega,by simp only [List.take_zero,List.flatMap_nil,M4];exact ⟨rfl,rfl,rfl,rfl,rfl,trivial⟩,rfl⟩ ?_
 rintro _ _ ⟨i,hi,hF,rfl⟩ K hN hE hR
 obtain ⟨z,rfl⟩:=hF.fl rfl
 try dsimp only [fl,zz,qa,qb] at*
 clear hF hR
 by_cases hlt:i<l.length
 ·have nx:∀F',Fr 21 [(3,.own ((qr l.length++(l.take i).flatMap qB++qB (l.getD i [])).map ql)),(9,.slc (strs l)),(10,.i l.length),(11,.i ((i+1:Nat):Int))] F'->K .normal F' H:=fun F' hF'=>hN _ _ ⟨i+1,hlt,by rw [yO (d:= []) hlt,<-Mp];exact hF',(qz rfl).symm⟩ (by
   rw [Ma,hF'.2.2.2.2.1]
   simp only [Mc,Md,Me]
   omega)
  clear hN hE
  have q1:=Yk (l:=l) hlt
  have hfl:=z6 (l:=l.take i) (c:=3000000) (fun x hx=>hs x (List.mem_of_mem_take hx)) (by omega)
  have hx1:(l.getD i []).length<=3000000:=hs _ (by rw [jx hlt];exact List.getElem_mem hlt)
  rw [M0] at hfl
  generalize l.getD i []=x at q1 nx hx1
  have hal:(qr (l.length:Int)++(l.take i).flatMap qB).length<=9+3000009*1000:=by
   rw [Mh]
   have:(9+3000000)*min i l.length<=3000009*1000:=Nat.mul_le_mul_left _ (by omega)
   omega
  generalize qr (l.length:Int)++(l.take i).flatMap qB=ac at nx hal ⊢
  simp+contextual only [j8,hlt,Int.ofNat_lt,q1,↓Al,↓XP,qh]
  refine fun _=>Kq (by omega) ?_
  have hxl:(qB x).length<=9+3000000:=by
   have:=kZ (n:=x.length) (by omega)
   simp only [qB,Mh]
   omega
  simp+contextual only [qi (show i<=big by omega),↓XP,qh]
  refine fun _=>⟨qO,qO,by omega,?_⟩
  rw [<-Mo]
  exact nx _ ⟨rfl,rfl,rfl,rfl,rfl,trivial⟩
 ·have hik:i=l.length:=by omega
  subst hik
  clear hN
  simp+contextual only [↓Al,↓XP,qo]
  refine hE _ _ _ ?_
  rw [List.take_length]
  simp+contextual only [↓XP,qo,XW1]
  exact h
def vQ (s:Str) (l:List (List UInt8)):Str:=l.foldl (fun s p=>ym s (qB p)) s
def Ej (c:UInt8) (l:List (List UInt8)):Str:=vQ (ym beg [c]) l
def Dn (c:UInt8) (l:List (List UInt8)):List UInt8:=(gZ (Ej c l)).take 16
theorem Z5 {s:Str} {l:List (List UInt8)} {i:Nat} (h:i<l.length):vQ s (l.take (i+1))=ym (vQ s (l.take i)) (qB (l.getD i [])):=by
 have:l.take (i+1)=l.take i++ [l.getD i []]:=by rw [List.take_add_one,Mb h];simp [List.getD,Mb h]
 rw [this,vQ,List.foldl_append]
 rfl
theorem Q8 (h:x.length<=100000000):(qB x).length<=x.length+9:=by
 have:=kZ (n:=x.length) (by omega)
 simp only [qB,Mh]
 omega
theorem VX:∀(l:List (List UInt8)) (s:Str),s.blk.length=64->(∀x∈l,x.length<=100000000)->(vQ s l).blk.length=64∧(vQ s l).n<=s.n+l.length*100000009
 | [],s,hb,_=>⟨hb,by simp [vQ]⟩
 | x::l,s,hb,hx=>by
  obtain ⟨a1,a2⟩:=wE _ s (qB x) (Ms _) hb
  obtain ⟨b1,b2⟩:=VX l (ym s (qB x)) a1 (fun y hy=>hx y (.tail _ hy))
  have hl:=Q8 (hx x (.head _))
  have hxl:=hx x (.head _)
  refine ⟨b1,Mq b2 ?_⟩
  rw [Mi,Nat.succ_mul]
  omega
theorem FU {tag:Int} {c:UInt8} {l:List (List UInt8)} {H:AH} {R:D->AH->Prop} (hg:Kst H) (ht:IntKind.u8.wrap tag=(c.toNat:Int)) (hl:l.length<=100) (hs:∀x∈l,x.length<=100000000) (h:R (.agg (jp (Dn c l))) H):
  ACall Tryz.prog 95 [.i tag,.slc (strs l)] H R:=by
 refine b95 fun hf=>?_
 have hbig:=qj
 simp+contextual only [x95,↓xr,↓XP,qh,qa,qb]
 intro b4 h4
 refine ⟨_,fun _ _=>WY ⟨rfl,rfl⟩,?_⟩
 simp+contextual only [Nat.mul_one,ht,show yT [.int .u8 (c.toNat:Int)]=True from eq_true (isb [c] _ (.head _)),show unbyte [.int .u8 (c.toNat:Int)]=c from by have:=unb [c];simpa [ql] using this,↓XP,qh,XW1,qe]
 intro _
 have l0:=wE _ beg [c] (Ms _) zb
 rw [Wa] at l0
 refine ⟨_,fun H1 hs1=>Kp ((hg.push h4).sub hs1) zb (by rw [Wa];simp;omega) ⟨rfl,rfl⟩,?_⟩
 rw [Dn,Ej] at h
 generalize ym beg [c]=s0 at l0 h
 obtain ⟨l01,l02⟩:=l0
 rw [List.length_singleton] at l02
 simp+contextual only [Nat.reduceLT,yr l01,j8,↓xr,↓XP,qh,XW1,qb]
 intro b5 h5 _
 obtain ⟨n54,f5⟩:=h5
 refine XW.loopS hmm 32 (fun i:Nat=>[(1,.slc (strs l)),(4,.ptr b4 0),(5,.ptr b5 0),(15,.slc (strs l)),(16,.i (l.length:Int)),(17,.i ((i:Nat):Int))]) (fun i=>(b5,.cells (vQ s0 (l.take i)).D)::(b4,.cells (barr 16 []))::H) (fun i=>l.length - i) (fun i=>i<=l.length) 0 (Nat.zero_le _) ⟨rfl,rfl,rfl,rfl,rfl,rfl,rfl,trivial⟩ rfl ?_
 intro i z hi K hN hE hR
 dsimp only [fl,zz,qa,qb]
 have hq:=VX (l.take i) s0 l01 (fun x hx=>hs x (List.mem_of_mem_take hx))
 have htl:(l.take i).length<=100:=by rw [M0];omega
 have hK:Kst ((b5,.cells (vQ s0 (l.take i)).D)::(b4,.cells (barr 16 []))::H):=(Kst.push hg h4).push ⟨Ne.symm n54,f5⟩
 by_cases hlt:i<l.length
 ·have hlt':((i:Int)<(l.length:Int))=True:=eq_true (by omega)
  have hp:=Z5 (s:=s0) hlt
  have hx:(l.getD i []).length<=100000000:=hs _ (by rw [List.getD,Mb hlt];exact List.getElem_mem hlt)
  have hg1:=kg hlt
  generalize vQ s0 (l.take i)=q at hq hp hK
  generalize l.getD i []=x at hp hx hg1
  obtain ⟨hq1,hq2⟩:=hq
  have hq3:q.n<=20000000000:=by omega
  simp+contextual only [hlt',j8,hg1,yr hq1,Jv hq1,Jo,↓xr,↓XP,qh]
  refine fun _=>?_
  refine ⟨_,fun _ _=>Kq (by omega) ⟨rfl,rfl⟩,?_⟩
  simp+contextual only [unb,↓XP,qh,XW1]
  refine fun _=>⟨isb _,?_⟩
  have hel:=Q8 hx
  refine ⟨_,fun H1 hs1=>Kp (hK.sub hs1) hq1 (by omega) ⟨rfl,rfl⟩,?_⟩
  have hq4:=wE _ q (qB x) (Ms _) hq1
  generalize ym q (qB x)=q2 at hq4 hp
  obtain ⟨hq5,hq6⟩:=hq4
  simp+contextual only [yr hq5,yr hq1,show q.D.drop 73= [] from List.drop_of_length_le (by rw [yr hq1];exact Ms _),↓XP,qh,XW1]
  rw [qi (by omega)]
  exact hN (i+1) _ _ (by omega) (by omega) ⟨rfl,rfl,rfl,rfl,rfl,rfl,rfl,trivial⟩ (by show back _ _=(b5,AO.cells (vQ s0 (l.take (i+1))).D)::(b4,AO.cells (barr 16 []))::H;rw [hp];exact qz rfl)
 ·have hil:l.take i=l:=Mt (by omega)
  have hlt':((i:Int)<(l.length:Int))=False:=eq_false (by omega)
  rw [hil] at hq hK ⊢
  generalize vQ s0 l=q at hq hK h
  obtain ⟨hq1,hq2⟩:=hq
  simp+contextual only [hlt',↓xr,↓XP,qo]
  apply hE
  simp+contextual only [yr hq1,Jv hq1,Jo,↓xr,↓XP,qh,XW1]
  refine dt hK hq1 (by omega) ?_
  have hsl:=Kw q
  generalize gZ q=sm at h hsl
  simp+contextual only [Nat.mul_one,Nat.sub_zero,Mu,Mv,Mf,qg,qk,n54,qw,hsl,↓xr,↓Jt,qh,XW1,qb,qe,↓XH]
  intro b8 h8
  obtain ⟨n85,n84,f8⟩:=h8
  have hst:(jp sm).take 16=jp (sm.take 16):=by simp [jp,List.map_take]
  have hs2:(sm.take 16).length=16:=by simp [hsl]
  generalize sm.take 16=s2 at h hst hs2
  simp+contextual only [qw,hst,hs2,jj,qV hs2,show (barr 16 []).drop 16= [] from rfl,show (barr 16 []).length=16 from rfl,qo,XW1]
  exact h
theorem Jz (l:List UInt8) (c:UInt8):l.map ql++ [[.int .u8 (c.toNat:Int)]]=(l++ [c]).map ql:=Vg l c
theorem Jn {l:List UInt8} {i:Nat} (h:i<l.length):l.take i++ [l.getD i 0]=l.take (i+1):=by
 rw [List.take_add_one,Mb h];simp [List.getD,Mb h]
theorem oM {d:List UInt8} {H:AH} {R:D->AH->Prop} (hd:d.length=16) (h:R (.str d) H):ACall Tryz.prog 47 [.agg (jp d)] H R:=by
 refine b47 fun hf=>?_
 have hbig:=qj
 simp+contextual only [↓Dh,↓Dh,↓XP,qo,qa]
 intro b1 h1
 refine XW.loopS hmm 17 (fun i:Nat=>[(1,.ptr b1 0),(3,.own ((d.take ((i:Nat))).map ql)),(4,.i (i:Int))]) (fun _=>(b1,.cells (jp d))::H) (fun i=>16 - i) (fun i=>i<=16) 0 (Nat.zero_le _) ⟨rfl,rfl,rfl,rfl,trivial⟩ rfl ?_
 intro i z hi K hN hE hR
 dsimp only [fl,zz,qa,qb]
 by_cases hlt:i<16
 ·have hlt':((i:Int)<16)=True:=eq_true (by omega)
  have g:=QF (l:=d) (i:=i) (by omega)
  unfold bD at g
  simp+contextual only [Nat.mul_one,Mf,GI,Jz,hlt',g,Jn (l:=d) (i:=i) (by omega),↓Dh,↓XP,qh,XW1,qe]
  rw [qi (by omega)]
  refine ⟨Un _,?_,hN (i+1) _ _ (by omega) (by omega) ⟨rfl,rfl,rfl,rfl,trivial⟩ (qz rfl)⟩
  rw [M0];omega
 ·have hi2:i=16:=by omega
  have hlt':((i:Int)<16)=False:=eq_false (by omega)
  simp+contextual only [hlt',↓Dh,↓XP,qo]
  apply hE
  rw [hi2,Mt (by omega:d.length<=16)]
  simp+contextual only [Mf,unb,↓XP,qh,XW1]
  exact ⟨isb _,fun _=>h⟩
theorem ni {d:List UInt8} {H:AH} {R:D->AH->Prop} (hd:d.length=32) (h:R (.str d) H):ACall Tryz.prog 137 [.agg (jp d)] H R:=by
 refine EW fun hf=>?_
 have hbig:=qj
 simp+contextual only [↓mb,↓mb,↓XP,qo,qa]
 intro b1 h1
 refine XW.loopS hmm 17 (fun i:Nat=>[(1,.ptr b1 0),(3,.own ((d.take ((i:Nat))).map ql)),(4,.i (i:Int))]) (fun _=>(b1,.cells (jp d))::H) (fun i=>32 - i) (fun i=>i<=32) 0 (Nat.zero_le _) ⟨rfl,rfl,rfl,rfl,trivial⟩ rfl ?_
 intro i z hi K hN hE hR
 dsimp only [fl,zz,qa,qb]
 by_cases hlt:i<32
 ·have hlt':((i:Int)<32)=True:=eq_true (by omega)
  have g:=QF (l:=d) (i:=i) (by omega)
  unfold bD at g
  simp+contextual only [Nat.mul_one,Mf,GI,Jz,hlt',g,Jn (l:=d) (i:=i) (by omega),↓mb,↓XP,qh,XW1,qe]
  rw [qi (by omega)]
  refine ⟨Un _,?_,hN (i+1) _ _ (by omega) (by omega) ⟨rfl,rfl,rfl,rfl,trivial⟩ (qz rfl)⟩
  rw [M0];omega
 ·have hi2:i=32:=by omega
  have hlt':((i:Int)<32)=False:=eq_false (by omega)
  simp+contextual only [hlt',↓mb,↓XP,qo]
  apply hE
  rw [hi2,Mt (by omega:d.length<=32)]
  simp+contextual only [Mf,unb,↓XP,qh,XW1]
  exact ⟨isb _,fun _=>h⟩
theorem eJ (h:i<64) (hk:k.length<=64):(yt k w).getD i 0=(if i<k.length then k.getD i 0 else 0) ^^^ w:=by
 have h2:i<(zpad k).length:=by rw [K7 hk];exact h
 have h3:(yt k w).getD i 0=(zpad k).getD i 0 ^^^ w:=by simp [yt,List.getD,Mb h2]
 rw [h3]
 congr 1
 by_cases hi:i<k.length
 ·rw [if_pos hi]
  simp [zpad,List.getD,Mm hi]
 ·rw [if_neg hi]
  simp only [zpad,List.getD]
  rw [Mn (by omega)]
  simp [List.getElem?_replicate]
  split<;>rfl
theorem Um {R:D->AH->Prop} (hk:k.length<=64) (h:R (.own ((yt k w).map ql)) H):ACall Tryz.prog 136 [.str k,.int .u8 (w.toNat:Int)] H R:=by
 refine IT fun hf=>?_
 have hbig:=qj
 have hpl:(yt k w).length=64:=vp hk
 have hk':decide ((64:Int)<(k.length:Int))=false:=decide_eq_false (by omega)
 simp+contextual only [↓fG,hk',↓fG,↓XP,qh,qa,qb]
 intro _
 refine XW.loopS hmm 35 (fun i:Nat=>[(1,.int .u8 (w.toNat:Int)),(5,.str k),(6,.own (((yt k w).take ((i:Nat))).map ql)),(7,.i (i:Int))]) (fun _=>H) (fun i=>64 - i) (fun i=>i<=64) 0 (Nat.zero_le _) ⟨rfl,rfl,rfl,rfl,rfl,trivial⟩ rfl ?_
 intro i z hi K hN hE hR
 dsimp only [fl,zz,qa,qb]
 by_cases hlt:i<64
 ·have hlt':((i:Int)<64)=True:=eq_true (by omega)
  have g:=eJ (w:=w) hlt hk
  have ta:=Jn (l:=yt k w) (i:=i) (by omega)
  rw [g] at ta
  by_cases hil:i<k.length
  ·have hil':((i:Int)<(k.length:Int))=True:=eq_true (by omega)
   rw [if_pos hil] at ta
   simp+contextual only [Nat.mul_one,Jz,fv,hlt',hil',ta,↓fG,↓XP,qh,XW1,qe]
   rw [qi (by omega)]
   refine fun _=>⟨Un _,?_,hN (i+1) _ _ (by omega) (by omega) ⟨rfl,rfl,rfl,rfl,rfl,trivial⟩ (qz rfl)⟩
   rw [M0];omega
  ·have hil':((i:Int)<(k.length:Int))=False:=eq_false (by omega)
   rw [if_neg hil] at ta
   have hz:∀y:UInt8,bits .xor .u8 0 (y.toNat:Int)=((0 ^^^ y).toNat:Int):=fun y=>fv 0 y
   simp+contextual only [Nat.mul_one,Jz,hlt',hil',ta,hz,↓fG,↓XP,qh,XW1,qe]
   rw [qi (by omega)]
   refine fun _=>⟨Un _,?_,hN (i+1) _ _ (by omega) (by omega) ⟨rfl,rfl,rfl,rfl,rfl,trivial⟩ (qz rfl)⟩
   rw [M0];omega
 ·have hi2:i=64:=by omega
  have hlt':((i:Int)<64)=False:=eq_false (by omega)
  simp+contextual only [hlt',↓fG,↓XP,qo]
  apply hE
  rw [hi2,Mt (by omega:(yt k w).length<=64)]
  simp+contextual only [Mf,↓XP,qo,XW1]
  exact h
def zR (k t:List UInt8):List UInt8:=gf (yt k 0x5c++gf (yt k 0x36++t))
theorem KL (a b:List UInt8):a.map ql++b.map ql=(a++b).map ql:=by simp
theorem pS {R:D->AH->Prop} (hg:Kst0 H) (hk:k.length<=64) (ht:t.length<=4000000000) (h:R (.str (zR k t)) H):ACall Tryz.prog 115 [.str k,.str t] H R:=by
 refine Iq fun hf=>?_
 have hbig:=qj
 have l1:=vp (w:=0x36) hk
 have l2:=vp (w:=0x5c) hk
 simp+contextual only [↓eA,↓eA,↓XP,qo,qa,qb]
 refine Um (w:=0x36) hk ?_
 rw [show zR k t=gf (yt k 0x5c++gf (yt k 0x36++t)) from rfl] at h
 simp+contextual only [KL,↓eA,↓XP,qh]
 refine fun _=>⟨Un _,by rw [l1];omega,?_⟩
 refine Um (w:=0x5c) hk ?_
 simp+contextual only [↓eA,↓XP,qo]
 intro _
 refine Zl (m:=yt k 0x36++t) hg (by rw [Mh];omega) ?_
 have l3:=oh (yt k 0x36++t)
 generalize gf (yt k 0x36++t)=s3 at l3 h
 simp+contextual only [↓XP,qo,XW1]
 refine ni l3 ?_
 simp+contextual only [KL,↓eA,↓XP,qh]
 refine fun _=>⟨Un _,by rw [l2,l3];omega,?_⟩
 refine Zl (m:=yt k 0x5c++s3) hg (by rw [Mh];omega) ?_
 have l4:=oh (yt k 0x5c++s3)
 generalize gf (yt k 0x5c++s3)=s4 at l4 h
 simp+contextual only [↓XP,qo,XW1]
 refine ni l4 ?_
 simp+contextual only [↓XP,qo]
 exact fun _=>h
def inp (c:UInt8) (l:List (List UInt8)):List UInt8:=c::l.flatMap qB
theorem QE:∀(l:List (List UInt8)),(∀x∈l,x.length<=100000000)->(l.flatMap qB).length<=l.length*100000009
 | [],_=>by simp
 | x::l,h=>by
  have h1:=Q8 (h x (.head _))
  have h2:=h x (.head _)
  have h3:=QE l fun y hy=>h y (.tail _ hy)
  rw [List.flatMap_cons,Mh,Mi,Nat.succ_mul]
  omega
theorem ej {c:UInt8} {l:List (List UInt8)} {i:Nat} (h:i<l.length):inp c (l.take i)++qB (l.getD i [])=inp c (l.take (i+1)):=by
 have:l.take (i+1)=l.take i++ [l.getD i []]:=by rw [List.take_add_one,Mb h];simp [List.getD,Mb h]
 rw [this]
 simp [inp]
theorem ic {tag:Int} {c:UInt8} {l:List (List UInt8)} {H:AH} {R:D->AH->Prop} (ht:IntKind.u8.wrap tag=(c.toNat:Int)) (hl:l.length<=30) (hs:∀x∈l,x.length<=100000000) (h:R (.own ((inp c l).map ql)) H):
  ACall Tryz.prog 94 [.i tag,.slc (strs l)] H R:=by
 refine b94 fun hf=>?_
 have hbig:=qj
 simp+contextual only [↓Bq,Nat.mul_one,ht,↓Bq,↓XP,qh,XW1,qa,qb,qe]
 refine XW.loopS hmm 24 (fun i:Nat=>[(1,.slc (strs l)),(5,.own ((inp c (l.take ((i:Nat)))).map ql)),(6,.i (i:Int))]) (fun _=>H) (fun i=>l.length - i) (fun i=>i<=l.length) 0 (Nat.zero_le _) ⟨rfl,rfl,rfl,rfl,trivial⟩ rfl ?_
 intro i z hi K hN hE hR
 dsimp only [fl,zz,qa,qb]
 by_cases hlt:i<l.length
 ·have hlt':((i:Int)<(l.length:Int))=True:=eq_true (by omega)
  have hx:l.getD i []∈l:=by rw [List.getD,Mb hlt];exact List.getElem_mem hlt
  have hg1:=kg hlt
  have hst:=ej (c:=c) hlt
  have hel:=Q8 (hs _ hx)
  have hxl:=hs _ hx
  have hfl:=QE (l.take i) fun y hy=>hs y (List.mem_of_mem_take hy)
  have htl:(l.take i).length<=30:=by rw [M0];omega
  have hil:(inp c (l.take i)).length<=1+30*100000009:=by
   show (l.take i|>.flatMap qB).length+1<=_
   have:=Nat.mul_le_mul_right 100000009 htl
   omega
  generalize l.getD i []=x at hg1 hst hel hxl
  simp+contextual only [j8,hlt',hg1,↓Bq,↓XP,qh]
  refine fun _ _=>Ka (by omega) ?_
  simp+contextual only [Nat.mul_one,KL,hst,↓Bq,↓XP,qh]
  rw [qi (by omega)]
  exact fun _=>⟨Un _,Un _,by omega,hN (i+1) _ _ (by omega) (by omega) ⟨rfl,rfl,rfl,rfl,trivial⟩ (qz rfl)⟩
 ·have hi2:l.take i=l:=Mt (by omega)
  have hlt':((i:Int)<(l.length:Int))=False:=eq_false (by omega)
  simp+contextual only [j8,hlt',↓Bq,↓XP,qh]
  refine fun _=>?_
  apply hE
  rw [hi2]
  simp+contextual only [↓XP,qo,XW1]
  exact h
theorem W9 {n:Nat} {l:List UInt8} {i:Nat} (hi:i<n) (hl:i<l.length):(barr n (l.take i)).set i (.int .u8 ((l.getD i 0).toNat:Int))=barr n (l.take (i+1)):=by
 have h1:(l.take i).length=i:=by rw [M0];omega
 have h2:=KP (n:=n) (l:=l.take i) (c:=l.getD i 0) (by omega)
 rw [h1,Jn hl] at h2
 exact h2
def gA (m:List UInt8):List UInt8:=(gf m).take 16
theorem Kl (m:List UInt8):(gA m).length=16:=by simp [gA,oh]
theorem dU {m:List UInt8} {H:AH} {R:D->AH->Prop} (hg:Kst0 H) (hm:m.length<=4294967296) (h:R (.agg (jp (gA m))) H):ACall Tryz.prog 93 [.slc (m.map ql)] H R:=by
 refine b93 fun hf=>?_
 have hbig:=qj
 simp+contextual only [↓xL,↓xL,↓XP,qh,qa]
 intro b2 h2
 refine Zl (hg.push h2) hm ?_
 have hl:=oh m
 rw [show gA m=(gf m).take 16 from rfl] at h
 generalize gf m=s at hl h
 simp+contextual only [qw,hl,↓xL,↓XP,qh,XW1,qb]
 intro b3 h3 b4 h4
 obtain ⟨n32,f3⟩:=h3
 obtain ⟨n43,n42,f4⟩:=h4
 refine XW.loopS hmm 19 (fun i:Nat=>[(2,.ptr b2 0),(3,.ptr b3 0),(4,.ptr b4 0),(5,.i ((i:Nat):Int))]) (fun i=>(b4,.cells (barr 16 (s.take i)))::(b3,.cells (jp s))::(b2,.cells (barr 16 []))::H) (fun i=>16 - i) (fun i=>i<=16) 0 (Nat.zero_le _) ⟨rfl,rfl,rfl,rfl,rfl,trivial⟩ rfl ?_
 intro i z hi K hN hE hR
 dsimp only [fl,zz,qa,qb]
 by_cases hlt:i<16
 ·have hlt':((i:Int)<16)=True:=eq_true (by omega)
  have hlt2:((i:Int)<32)=True:=eq_true (by omega)
  have g:=QF (l:=s) (i:=i) (by omega)
  have g2:=W9 (n:=16) (l:=s) (i:=i) hlt (by omega)
  have g3:(barr 16 (s.take i)).length=16:=gX (by rw [M0];omega)
  unfold bD at g
  simp+contextual only [Nat.mul_one,Mf,GI,qg,n43,hlt',hlt2,g,g2,g3,↓xL,↓XP,qh,XW1]
  rw [qi (by omega)]
  exact ⟨hlt,hN (i+1) _ _ (by omega) (by omega) ⟨rfl,rfl,rfl,rfl,rfl,trivial⟩ (qz rfl)⟩
 ·have hi2:i=16:=by omega
  have hlt':((i:Int)<16)=False:=eq_false (by omega)
  simp+contextual only [hlt',↓xL,↓XP,qo]
  apply hE
  have hs2:(s.take 16).length=16:=by simp [hl]
  rw [hi2]
  generalize s.take 16=s2 at hs2 h
  simp+contextual only [Mf,qw,qg,qk,n32,n42,zr hs2,hs2,jj,qV hs2,show (barr 16 []).drop 16= [] from rfl,show (barr 16 []).length=16 from rfl,↓XP,qh,XW1]
  exact h
def kz (c:UInt8) (l:List (List UInt8)):List UInt8:=gA (inp c l)
theorem UV {R:D->AH->Prop} (hg:Kst0 H) (ht:IntKind.u8.wrap tag=(c.toNat:Int)) (hl:l.length<=30) (hs:∀x∈l,x.length<=100000000) (h:R (.agg (jp (kz c l))) H):
  ACall Tryz.prog 46 [.i tag,.slc (strs l)] H R:=by
 refine b46 fun hf=>?_
 have hbig:=qj
 simp+contextual only [↓U46,↓U46.1,↓XP,qh,qa,qb]
 intro b4 h4
 refine ic ht hl hs ?_
 simp+contextual only [↓XP,qo]
 intro _
 have hfl:=QE l hs
 have hil:(inp c l).length<=1+30*100000009:=by
  show (l.flatMap qB).length+1<=_
  have:=Nat.mul_le_mul_right 100000009 hl
  omega
 refine dU (hg.push h4) (by omega) ?_
 rw [show kz c l=gA (inp c l) from rfl] at h
 have hsl:=Kl (inp c l)
 generalize gA (inp c l)=s at hsl h
 simp+contextual only [qw,hsl,jj,qV hsl,↓XP,qh,XW1,qb]
 exact h
structure IsS (s:Str) (m:List UInt8):Prop where
 st:s.st=oQ iv m (m.length / 64)
 n:s.n=m.length
 len:s.blk.length=64
 blk:s.blk.take (m.length % 64)=m.drop (64*(m.length / 64))
theorem Kk:∀(k:Nat),64*k<=m.length->oQ iv (m++t) k=oQ iv m k
 |0,_=>rfl
 | k+1,h=>by
  have ih:=Kk (m:=m) (t:=t) k (by omega)
  show vY (oQ iv (m++t) k) (((m++t).drop (64*k)).take 64)=vY (oQ iv m k) ((m.drop (64*k)).take 64)
  rw [ih,List.drop_append_of_le_length (by omega),List.take_append_of_le_length (by rw [List.length_drop];omega)]
theorem Wy:IsS beg []:=⟨rfl,rfl,rfl,rfl⟩
theorem dM (h:IsS s m) (ht:t≠ []):IsS (vO s t) (m++t.take (yh s t)):=by
 have hp:=z7 (s:=s) ht
 have hk:=WM (s:=s) (t:=t)
 have hn:=h.n
 have hkd:yh s t=min t.length (64 - m.length % 64):=by rw [yh,hn]
 have ha:=Nat.mod_lt m.length (show 0<64 by decide)
 have hdm:=Nat.div_add_mod m.length 64
 have htl:(t.take (yh s t)).length=yh s t:=by rw [M0];omega
 have hml:(m++t.take (yh s t)).length=m.length+yh s t:=by rw [Mh,htl]
 have hbl:(s.blk.take (m.length % 64)).length=m.length % 64:=by rw [M0,h.len];omega
 have hbS:wx s t=s.blk.take (m.length % 64)++(t.take (64 - m.length % 64)++s.blk.drop (m.length % 64+yh s t)):=by rw [wx,hn]
 refine ⟨?_,?_,K5 h.len t,?_⟩
 ·show (if s.n % 64+yh s t=64 then vY s.st (wx s t) else s.st)=_
  rw [hml,hn]
  by_cases hc:m.length % 64+yh s t=64
  ·rw [if_pos hc]
   have hq:(m.length+yh s t) / 64=m.length / 64+1:=by omega
   rw [hq]
   show _=vY (oQ iv (m++t.take (yh s t)) (m.length / 64)) (((m++t.take (yh s t)).drop (64*(m.length / 64))).take 64)
   rw [Kk _ (by omega),<-h.st]
   congr 1
   rw [hbS,List.drop_append_of_le_length (by omega),<-h.blk,hc,List.drop_of_length_le (by rw [h.len];exact Ms _),M4,Mt (l:=s.blk.take (m.length % 64)++t.take (yh s t)) (by rw [Mh,hbl,htl];omega),show 64 - m.length % 64=yh s t by omega]
  ·rw [if_neg hc]
   have hq:(m.length+yh s t) / 64=m.length / 64:=by omega
   rw [hq,Kk _ (by omega)]
   exact h.st
 ·show s.n+yh s t=_
  rw [hml,hn]
 ·show (wx s t).take _=_
  rw [hml,hbS]
  by_cases hc:m.length % 64+yh s t=64
  ·have hq:(m.length+yh s t) / 64=m.length / 64+1:=by omega
   have hr:(m.length+yh s t) % 64=0:=by omega
   rw [hq,hr,List.take_zero,List.drop_of_length_le (by rw [hml];omega)]
  ·have hq:(m.length+yh s t) / 64=m.length / 64:=by omega
   have hr:(m.length+yh s t) % 64=m.length % 64+yh s t:=by omega
   have hkt:yh s t=t.length:=by omega
   rw [hq,hr,List.drop_append_of_le_length (by omega),<-h.blk,<-Mp,List.take_append_of_le_length (by rw [Mh,hbl,M0];omega)]
   rw [Mt (l:=s.blk.take (m.length % 64)++t.take (64 - m.length % 64)) (by rw [Mh,hbl,M0];omega),Mt (by omega:t.length<=64 - m.length % 64),hkt,List.take_length]
theorem uO:∀(k:Nat) {s:Str} {m t:List UInt8},t.length<=k->IsS s m->IsS (ym s t) (m++t):=by
 intro k
 induction k with
 | zero=>
  intro s m t h hs
  obtain rfl:=List.eq_nil_of_length_eq_zero (Nat.le_zero.1 h)
  rw [M4]
  exact hs
 | succ k ih=>
  intro s m t h hs
  by_cases ht:t= []
  ·subst ht;rw [M4];exact hs
  ·have hp:=z7 (s:=s) ht
   rw [QI ht]
   have:=ih (s:=vO s t) (m:=m++t.take (yh s t)) (t:=t.drop (yh s t)) (by rw [List.length_drop];omega) (dM hs ht)
   rwa [Mp,List.take_append_drop] at this
theorem Wz (h:IsS s m):gZ s=gf m:=by
 have h2:=uO _ (t:=Q5 m.length) (Ms _) h
 rw [gZ,h.n,gf,h2.st]
 congr 2
 rw [Mh,Kj,<-Nat.add_assoc]
theorem Uz:∀(l:List (List UInt8)) {s:Str} {m:List UInt8},IsS s m->IsS (vQ s l) (m++l.flatMap qB)
 | [],s,m,h=>by simpa [vQ] using h
 | x::l,s,m,h=>by
  have h2:=Uz l (uO _ (t:=qB x) (Ms _) h)
  rw [Mp] at h2
  rwa [List.flatMap_cons]
theorem xZ (c:UInt8) (l:List (List UInt8)):Dn c l=kz c l:=by
 have h1:=uO _ (t:= [c]) (Ms _) Wy
 rw [M5] at h1
 have h2:=Uz l h1
 rw [Dn,Ej,Wz h2]
 rfl
theorem tF (k t:List UInt8):iN k t=zR k t:=by
 have h1:=uO _ (t:=yt k 0x36) (Ms _) Wy
 rw [M5] at h1
 have h2:=Wz (uO _ (t:=t) (Ms _) h1)
 have h3:=uO _ (t:=yt k 0x5c) (Ms _) Wy
 rw [M5] at h3
 rw [iN,CP,h2,Wz (uO _ (t:=gf (yt k 0x36++t)) (Ms _) h3)]
 rfl
theorem UH {R:D->AH->Prop} (hg:Kst H) (ht:IntKind.u8.wrap tag=(c.toNat:Int)) (hl:l.length<=30) (hs:∀x∈l,x.length<=100000000) (h:R (.agg (jp (kz c l))) H):
  ACall Tryz.prog 95 [.i tag,.slc (strs l)] H R:=FU hg ht (by omega) hs (by rw [xZ];exact h)
theorem jW (c:UInt8) (l:List (List UInt8)):(kz c l).length=16:=Kl _
theorem ex {R:D->AH->Prop} (hl:l.length<=1000) (h:(qF l).length<=9+9*l.length->R (.str (qF l)) H):ACall Tryz.prog 96 [.slc (ints l)] H R:=by
 refine b96 fun hf=>?_
 have hbig:=qj
 simp+contextual only [↓U96,↓U96.1,↓XP,qo,qa]
 refine gC (by omega) fun hel=>?_
 simp+contextual only [unb,↓XP,qh,XW1]
 exact fun _=>⟨isb _,h hel⟩
theorem zM (hl:l.length<=100) (h:∀x∈l,wX .i64 x):(qF l).length<=909:=by
 have h1:=kZ (n:=l.length) (by omega)
 have h2:∀(l:List Int),(∀x∈l,wX .i64 x)->(l.flatMap qr).length<=l.length*9:=by
  intro l
  induction l with
  |nil=>intro _;simp
  | cons x l ih=>
   intro h
   have:=yc (h x (.head _))
   have:=ih fun y hy=>h y (.tail _ hy)
   rw [List.flatMap_cons,Mh,Mi,Nat.succ_mul]
   omega
 have:=h2 l h
 simp only [qF,Mh]
 omega
def wQ (i c:Int) (v:List UInt8) (f:Int):Nat->List UInt8
 |0=>v
 |n+1=>kz 8 [qF [i,c,f+n],wQ i c v f n]
theorem vG (h:v.length=16):∀n,(wQ i c v f n).length=16
 |0=>h
 |n+1=>jW _ _
theorem az {i c f:Int} {n:Nat} {v:List UInt8} {H:AH} {R:D->AH->Prop} (hg:Kst H) (hv:v.length=16) (hf0:0<=f) (hfn:f+n<=1000) (h:R (.agg (jp (wQ i c v f n))) H):
  ACall Tryz.prog 55 [.i i,.i c,.i f,.i (f+n),.agg (jp v)] H R:=by
 refine b55 fun hf=>?_
 have hbig:=qj
 simp+contextual only [↓B6,↓B6,↓XP,qh,XW1,qa,qb]
 intro b9 h9 YT h10
 obtain ⟨n19,f10⟩:=h10
 refine XW.loopS hmm 28 (fun k:Nat=>[(0,.i i),(1,.i c),(3,.i (f+(n:Nat))),(9,.ptr b9 0),(10,.ptr YT 0),(11,.i (f+(k:Nat)))]) (fun k=>(YT,.cells (barr 16 []))::(b9,.cells (jp (wQ i c v f k)))::H) (fun k=>n - k) (fun k=>k<=n) 0 (Nat.zero_le _) ?_ rfl ?_
 ·rw [show f+((0:Nat):Int)=f by omega]
  exact ⟨rfl,rfl,rfl,rfl,rfl,rfl,rfl,trivial⟩
 intro k z hk K hN hE hR
 dsimp only [fl,zz,qa,qb]
 have hal:=vG (i:=i) (c:=c) (f:=f) hv k
 have hs1:wQ i c v f (k+1)=kz 8 [qF [i,c,f+k],wQ i c v f k]:=rfl
 have hh:k=n->R (.agg (jp (wQ i c v f k))) H:=fun e=>by rw [e];exact h
 generalize wQ i c v f k=w at hal hs1 hh
 by_cases hlt:k<n
 ·have hlt':(f+(k:Int)<f+(n:Int))=True:=eq_true (by omega)
  simp+contextual only [Nat.mul_one,hlt',↓B6,↓XP,qh,XW1,qe]
  have hK:Kst ((YT,.cells (barr 16 []))::(b9,.cells (jp w))::H):=(hg.push h9).push ⟨Ne.symm n19,f10⟩
  refine ⟨_,fun _ _=>ex (l:= [i,c,f+k]) (by simp) fun _=>⟨rfl,rfl⟩,?_⟩
  simp+contextual only [qw,Nat.mul_one,Nat.sub_zero,qg,n19,hal,qV hal,zV,↓Jt,qh,XW1,qe,↓XH]
  refine fun he=>⟨oR _,fun _=>?_⟩
  refine ⟨_,fun H1 hs=>UH (c:=8) (l:= [qF [i,c,f+k],w]) (hK.sub hs) (by decide) (by simp) (fun x hx=>?_) ⟨rfl,rfl⟩,?_⟩
  ·simp only [Mx,M8,or_false] at hx
   rcases hx with rfl|rfl
   ·refine Mq (zM (l:= [i,c,f+k]) (by simp) fun x hx=>?_) (by decide)
    simp only [Mx,M8,or_false] at hx
    rcases hx with rfl|rfl|rfl
    ·exact hf.1
    ·exact hf.2.1
    ·rw [yG];omega
   ·omega
  rw [<-hs1]
  have hal2:=jW 8 [qF [i,c,f+k],w]
  rw [<-hs1] at hal2
  simp+contextual only [qw,qg,qk,n19,hal,hal2,show (jp w).drop 16= [] from List.drop_of_length_le (by rw [qw,hal];exact Ms _),↓B6,↓XP,qh,XW1]
  rw [show IntKind.i64.wrap (f+(k:Int)+1)=f+((k+1:Nat):Int) by rw [qm (by omega) (by omega)];omega]
  exact hN (k+1) _ _ (by omega) (by omega) ⟨rfl,rfl,rfl,rfl,rfl,rfl,rfl,trivial⟩ (qz rfl)
 ·have hkn:k=n:=by omega
  have hlt':(f+(k:Int)<f+(n:Int))=False:=eq_false (by omega)
  have h:=hh hkn
  simp+contextual only [hlt',↓B6,↓XP,qo]
  apply hE
  simp+contextual only [qw,qg,n19,hal,qV hal,jj,show (barr 16 []).drop 16= [] from rfl,show (barr 16 []).length=16 from rfl,↓XP,qh,XW1]
  exact h
theorem ly (l:List UInt8):(l.map ql).flatten=jp l:=by
 induction l with
 |nil=>rfl
 |cons x l ih=>simp only [List.map_cons,List.flatten_cons,ih,jp];rfl
theorem rU {R:D->AH->Prop} (hg:Kst H) (hk:k.length<=64) (ht:t.length<=4294967296) (h:R (.str (zR k t)) H):ACall Tryz.prog 103 [.str k,.str t] H R:=B7 hg hk ht (by rw [tF];exact h)
theorem Qz (k t:List UInt8):(zR k t).length=32:=oh _
def vq:List UInt8:= [99,104,97,105,110]
def kY (seed:List UInt8) (i c:Int):List UInt8:=(zR seed (vq++qF [i,c])).take 16
theorem yL (seed:List UInt8) (i c:Int):(kY seed i c).length=16:=by simp [kY,Qz]
theorem GJ {R:D->AH->Prop} (hg:Kst H) (hs:seed.length<=64) (h:R (.agg (jp (kY seed i c))) H):ACall Tryz.prog 65 [.str seed,.i i,.i c] H R:=by
 refine b65 fun hf=>?_
 have hbig:=qj
 simp+contextual only [↓U65,Nat.mul_one,↓U65.1,↓XP,qh,XW1,qa,qb,qe]
 intro b6 h6
 refine ex (l:= [i,c]) (by simp) fun hel=>?_
 have hl2:([i,c]:List Int).length=2:=rfl
 rw [hl2] at hel
 intro _
 refine ⟨by simp;omega,?_⟩
 refine rU (t:=vq++qF [i,c]) (hg.push h6) hs (by simp [vq];omega) ?_
 rw [show kY seed i c=(zR seed (vq++qF [i,c])).take 16 from rfl] at h
 have hl:=Qz seed (vq++qF [i,c])
 generalize zR seed (vq++qF [i,c])=m at hl h
 have hm:(m.take 16).length=16:=by simp [hl]
 simp+contextual only [Mu,Mv,Mf,hl,↓XP,qh,qb,↓XH]
 generalize m.take 16=w at hm h ⊢
 have hw:(w.map ql).take 16=w.map ql:=Mt (by simp [hm])
 intro _ _
 simp+contextual only [qw,hm,hw,ly,qV hm,jj,qo,XW1]
 exact ⟨fun x hx=>by obtain ⟨y,_,rfl⟩:=List.mem_map.1 hx;rfl,h⟩
theorem rk {R:D->AH->Prop} (hg:Kst H) (ha:a.length=16) (hb:b.length=16) (h:R (.agg (jp (kz 2 [a,b]))) H):ACall Tryz.prog 56 [.agg (jp a),.agg (jp b)] H R:=by
 refine b56 fun hf=>?_
 have hbig:=qj
 simp+contextual only [↓U56,Nat.mul_one,Nat.sub_zero,qw,↓U56.1,↓Jt,qh,XW1,qa,qb,qe,↓XH]
 intro b2 h2 b3 h3 b4 h4
 obtain ⟨n32,f3⟩:=h3
 obtain ⟨n43,n42,f4⟩:=h4
 simp+contextual only [qw,ha,hb,qV ha,qV hb,zV,qo,XW1]
 refine ⟨oR _,fun _=>⟨oR _,?_⟩⟩
 have hK:Kst ((b4,.cells (barr 16 []))::(b3,.cells (jp b))::(b2,.cells (jp a))::H):=((hg.push h2).push ⟨Ne.symm n32,f3⟩).push ⟨Ne.symm n43,Ne.symm n42,f4⟩
 refine ⟨_,fun H1 hs=>UH (c:=2) (l:= [a,b]) (hK.sub hs) (by decide) (by simp) (fun x hx=>?_) ⟨rfl,rfl⟩,?_⟩
 ·simp only [Mx,M8,or_false] at hx
  rcases hx with rfl|rfl<;>omega
 have hl:=jW 2 [a,b]
 generalize kz 2 [a,b]=s at hl h
 simp+contextual only [qw,hl,qV hl,jj,↓XP,qh,XW1,qb]
 exact h
theorem Ge {R:D->AH->Prop} (hl:l.length<=1000) (h:(qF l).length<=9+9*l.length->R (.str (qF l)) H):ACall Tryz.prog 114 [.slc (ints l)] H R:=by
 refine Ho fun hf=>?_
 have hbig:=qj
 simp+contextual only [↓U114,↓U114.1,↓XP,qo,qa]
 refine gL (by omega) fun hel=>?_
 simp+contextual only [unb,↓XP,qh,XW1]
 exact fun _=>⟨isb _,h hel⟩
theorem dY {R:D->AH->Prop} (hs:16<=s.length) (hm:s.length<=4294967296) (h:R (.agg (jp (s.take 16))) H):ACall Tryz.prog 80 [.str s] H R:=by
 refine b80 fun hf=>?_
 have hbig:=qj
 simp+contextual only [↓DA,↓DA,↓XP,qh,XW1,qa]
 intro b2 h2 b3 h3
 obtain ⟨n32,f3⟩:=h3
 refine XW.loopS hmm 15 (fun i:Nat=>[(0,.str s),(2,.ptr b2 0),(3,.ptr b3 0),(4,.i ((i:Nat):Int))]) (fun i=>(b3,.cells (barr 16 (s.take i)))::(b2,.cells (barr 16 []))::H) (fun i=>16 - i) (fun i=>i<=16) 0 (Nat.zero_le _) ⟨rfl,rfl,rfl,rfl,rfl,trivial⟩ rfl ?_
 intro i z hi K hN hE hR
 dsimp only [fl,zz,qa,qb]
 by_cases hlt:i<16
 ·have hlt':((i:Int)<16)=True:=eq_true (by omega)
  have hlt2:((i:Int)<(s.length:Int))=True:=eq_true (by omega)
  have g:=Kv (l:=s) (i:=i) (by omega)
  have g2:=W9 (n:=16) (l:=s) (i:=i) hlt (by omega)
  have g3:(barr 16 (s.take i)).length=16:=gX (by rw [M0];omega)
  simp+contextual only [Nat.mul_one,Mf,hlt',hlt2,g2,g3,↓DA,↓XP,qh]
  rw [qi (by omega)]
  exact ⟨hlt,hN (i+1) _ _ (by omega) (by omega) ⟨rfl,rfl,rfl,rfl,rfl,trivial⟩ (qz rfl)⟩
 ·have hi2:i=16:=by omega
  have hlt':((i:Int)<16)=False:=eq_false (by omega)
  simp+contextual only [hlt',↓DA,↓XP,qo]
  apply hE
  have hs2:(s.take 16).length=16:=by rw [M0];omega
  rw [hi2]
  generalize s.take 16=s2 at hs2 h
  simp+contextual only [Mf,qw,qg,qk,n32,zr hs2,hs2,jj,qV hs2,show (barr 16 []).drop 16= [] from rfl,show (barr 16 []).length=16 from rfl,↓XP,qh,XW1]
  exact h
theorem US {R:D->AH->Prop} (hg:Kst0 H) (hs:seed.length<=64) (h:R (.agg (jp (kY seed i c))) H):ACall Tryz.prog 71 [.str seed,.i i,.i c] H R:=by
 refine b71 fun hf=>?_
 have hbig:=qj
 simp+contextual only [↓U71,Nat.mul_one,↓U71.1,↓XP,qh,XW1,qa,qb,qe]
 intro b6 h6
 refine Ge (l:= [i,c]) (by simp) fun hel=>?_
 have hl2:([i,c]:List Int).length=2:=rfl
 rw [hl2] at hel
 simp+contextual only [↓XP,qo,qb]
 refine fun _=>⟨by omega,?_⟩
 refine pS (t:=vq++qF [i,c]) (hg.push h6) hs (by simp [vq];omega) ?_
 have hl:=Qz seed (vq++qF [i,c])
 rw [show kY seed i c=(zR seed (vq++qF [i,c])).take 16 from rfl] at h
 generalize zR seed (vq++qF [i,c])=m at hl h
 simp+contextual only [↓XP,qo]
 refine fun _=>dY (s:=m) (by omega) (by omega) ?_
 have hm:(m.take 16).length=16:=by simp [hl]
 generalize m.take 16=w at hm h ⊢
 simp+contextual only [qw,hm,qV hm,jj,↓XP,qh,XW1,qb]
 exact h
theorem Zg {i c f:Int} {n:Nat} {v:List UInt8} {H:AH} {R:D->AH->Prop} (hg:Kst0 H) (hv:v.length=16) (hf0:0<=f) (hfn:f+n<=1000) (h:R (.agg (jp (wQ i c v f n))) H):
  ACall Tryz.prog 70 [.i i,.i c,.i f,.i (f+n),.agg (jp v)] H R:=by
 refine b70 fun hf=>?_
 have hbig:=qj
 simp+contextual only [↓AL,↓AL,↓XP,qh,XW1,qa,qb]
 intro b9 h9 YT h10
 obtain ⟨n19,f10⟩:=h10
 refine XW.loopS hmm 28 (fun k:Nat=>[(0,.i i),(1,.i c),(3,.i (f+(n:Nat))),(9,.ptr b9 0),(10,.ptr YT 0),(11,.i (f+(k:Nat)))]) (fun k=>(YT,.cells (barr 16 []))::(b9,.cells (jp (wQ i c v f k)))::H) (fun k=>n - k) (fun k=>k<=n) 0 (Nat.zero_le _) ?_ rfl ?_
 ·rw [show f+((0:Nat):Int)=f by omega]
  exact ⟨rfl,rfl,rfl,rfl,rfl,rfl,rfl,trivial⟩
 intro k z hk K hN hE hR
 dsimp only [fl,zz,qa,qb]
 have hal:=vG (i:=i) (c:=c) (f:=f) hv k
 have hs1:wQ i c v f (k+1)=kz 8 [qF [i,c,f+k],wQ i c v f k]:=rfl
 have hh:k=n->R (.agg (jp (wQ i c v f k))) H:=fun e=>by rw [e];exact h
 generalize wQ i c v f k=w at hal hs1 hh
 by_cases hlt:k<n
 ·have hlt':(f+(k:Int)<f+(n:Int))=True:=eq_true (by omega)
  simp+contextual only [Nat.mul_one,hlt',↓AL,↓XP,qh,XW1,qe]
  have hK:Kst0 ((YT,.cells (barr 16 []))::(b9,.cells (jp w))::H):=(hg.push h9).push ⟨Ne.symm n19,f10⟩
  refine ⟨_,fun _ _=>Ge (l:= [i,c,f+k]) (by simp) fun _=>⟨rfl,rfl⟩,?_⟩
  simp+contextual only [qw,qg,n19,hal,qV hal,jj,↓XP,qh,XW1]
  refine fun _=>⟨_,fun _ _=>oM hal ⟨rfl,rfl⟩,?_⟩
  simp+contextual only [Nat.mul_one,hal,↓XP,qh,XW1,qe]
  refine fun _=>⟨_,fun H1 hs=>UV (c:=8) (l:= [qF [i,c,f+k],w]) (hK.sub hs) (by decide) (by simp) (fun x hx=>?_) ⟨rfl,rfl⟩,?_⟩
  ·simp only [Mx,M8,or_false] at hx
   rcases hx with rfl|rfl
   ·refine Mq (zM (l:= [i,c,f+k]) (by simp) fun x hx=>?_) (by decide)
    simp only [Mx,M8,or_false] at hx
    rcases hx with rfl|rfl|rfl
    ·exact hf.1
    ·exact hf.2.1
    ·rw [yG];omega
   ·omega
  rw [<-hs1]
  have hal2:=jW 8 [qF [i,c,f+k],w]
  rw [<-hs1] at hal2
  simp+contextual only [qw,qg,qk,n19,hal,hal2,show (jp w).drop 16= [] from List.drop_of_length_le (by rw [qw,hal];exact Ms _),↓AL,↓XP,qh,XW1]
  rw [show IntKind.i64.wrap (f+(k:Int)+1)=f+((k+1:Nat):Int) by rw [qm (by omega) (by omega)];omega]
  exact hN (k+1) _ _ (by omega) (by omega) ⟨rfl,rfl,rfl,rfl,rfl,rfl,rfl,trivial⟩ (qz rfl)
 ·have hkn:k=n:=by omega
  have hlt':(f+(k:Int)<f+(n:Int))=False:=eq_false (by omega)
  have h:=hh hkn
  simp+contextual only [hlt',↓AL,↓XP,qo]
  apply hE
  simp+contextual only [qw,qg,n19,hal,qV hal,jj,show (barr 16 []).drop 16= [] from rfl,show (barr 16 []).length=16 from rfl,↓XP,qh,XW1]
  exact h
theorem iK {R:D->AH->Prop} (hg:Kst0 H) (ha:a.length=16) (hb:b.length=16) (h:R (.agg (jp (kz 2 [a,b]))) H):ACall Tryz.prog 81 [.agg (jp a),.agg (jp b)] H R:=by
 refine b81 fun hf=>?_
 have hbig:=qj
 simp+contextual only [↓U81,qw,↓U81.1,↓XP,qh,XW1,qa,qb]
 intro b2 h2 b3 h3 b4 h4
 obtain ⟨n32,f3⟩:=h3
 obtain ⟨n43,n42,f4⟩:=h4
 have hK:Kst0 ((b4,.cells (barr 16 []))::(b3,.cells (jp b))::(b2,.cells (jp a))::H):=((hg.push h2).push ⟨Ne.symm n32,f3⟩).push ⟨Ne.symm n43,Ne.symm n42,f4⟩
 simp+contextual only [ha,qV ha,jj,qo]
 refine ⟨_,fun _ _=>oM ha ⟨rfl,rfl⟩,?_⟩
 simp+contextual only [qw,qg,n43,ha,hb,qV hb,jj,↓XP,qh,XW1]
 refine fun _=>⟨_,fun _ _=>oM hb ⟨rfl,rfl⟩,?_⟩
 simp+contextual only [Nat.mul_one,hb,↓XP,qh,XW1,qe]
 refine fun _=>⟨_,fun H1 hs=>UV (c:=2) (l:= [a,b]) (hK.sub hs) (by decide) (by simp) (fun x hx=>?_) ⟨rfl,rfl⟩,?_⟩
 ·simp only [Mx,M8,or_false] at hx
  rcases hx with rfl|rfl<;>omega
 have hl:=jW 2 [a,b]
 generalize kz 2 [a,b]=s at hl h
 simp+contextual only [qw,hl,qV hl,jj,↓XP,qh,XW1,qb]
 exact h
theorem db {i c f t:Int} {n:Nat} {v:List UInt8} {H:AH} {R:D->AH->Prop} (ht:t=f+n) (hg:Kst0 H) (hv:v.length=16) (hf0:0<=f) (hfn:f+n<=1000) (h:R (.agg (jp (wQ i c v f n))) H):
  ACall Tryz.prog 70 [.i i,.i c,.i f,.i t,.agg (jp v)] H R:=by
 subst ht
 exact Zg hg hv hf0 hfn h
def Jl (seed:List UInt8) (i:Int):Nat->List UInt8
 |0=>[]
 |n+1=>Jl seed i n++wQ i n (kY seed i n) 0 3
theorem VE (seed:List UInt8) (i:Int):∀n,(Jl seed i n).length=16*n
 |0=>rfl
 | n+1=>by
  rw [Jl,Mh,VE seed i n,vG (yL _ _ _)]
  omega
def W6 (seed:List UInt8) (i:Int):List UInt8:=kz 1 [kz 9 [Jl seed i 68]]
theorem Wb (seed:List UInt8) (i:Int):(W6 seed i).length=16:=jW _ _
theorem mj {seed:List UInt8} {i:Int} {H:AH} {R:D->AH->Prop} (hg:Kst0 H) (hs:seed.length<=64) (h:R (.agg (jp (W6 seed i))) H):ACall Tryz.prog 101 [.str seed,.i i] H R:=by
 refine Eq fun hf=>?_
 have hbig:=qj
 simp+contextual only [↓Zh,↓Zh,↓XP,qh,qa,qb]
 intro b4 h4
 obtain ⟨t,ht⟩:∃t:Nat,t=68:=⟨_,rfl⟩
 have hh:R (.agg (jp (kz 1 [kz 9 [Jl seed i t]]))) H:=by rw [ht];exact h
 clear h
 refine XW.loopS hmm 29 (fun n:Nat=>[(0,.str seed),(1,.i i),(4,.ptr b4 0),(5,.str (Jl seed i n)),(6,.i (n:Int))]) (fun n=>(b4,.cells (barr 16 []))::H) (fun n=>t - n) (fun n=>n<=t) 0 (Nat.zero_le _) ⟨rfl,rfl,rfl,rfl,rfl,rfl,trivial⟩ rfl ?_
 intro n z hn K hN hE hR
 dsimp only [fl,zz,qa,qb]
 have hkl:=VE seed i n
 have hst:Jl seed i (n+1)=Jl seed i n++wQ i n (kY seed i n) 0 3:=rfl
 have hh2:n=t->R (.agg (jp (kz 1 [kz 9 [Jl seed i n]]))) H:=fun e=>by rw [e];exact hh
 generalize Jl seed i n=w at hkl hst hh2
 have hg2:Kst0 ((b4,.cells (barr 16 []))::H):=hg.push h4
 by_cases hlt:n<t
 ·have hlt':((n:Int)<68)=True:=eq_true (by omega)
  simp+contextual only [hlt',↓Zh,↓XP,qo]
  refine US hg2 hs ?_
  have hsl:=yL seed i n
  generalize kY seed i n=u at hsl hst
  simp+contextual only [↓XP,qo,XW1]
  refine db (n:=3) rfl hg2 hsl (by omega) (by omega) ?_
  have hal:=vG (i:=i) (c:=n) (f:=0) hsl 3
  generalize wQ i n u 0 3=a at hal hst
  simp+contextual only [↓XP,qo,XW1]
  refine oM hal ?_
  simp+contextual only [hal,<-hst,↓Zh,↓XP,qo]
  rw [qi (by omega)]
  exact fun _=>⟨by omega,hN (n+1) _ _ (by omega) (by omega) ⟨rfl,rfl,rfl,rfl,rfl,rfl,trivial⟩ (qz rfl)⟩
 ·have hnt:n=t:=by omega
  have hlt':((n:Int)<68)=False:=eq_false (by omega)
  simp+contextual only [hlt',↓Zh,↓XP,qo]
  apply hE
  have h:=hh2 hnt
  simp+contextual only [Nat.mul_one,↓Zh,↓XP,qh,XW1,qe]
  refine UV (c:=9) (l:= [w]) hg2 (by decide) (by simp) (fun x hx=>by rw [List.mem_singleton.1 hx];omega) ?_
  have h9:=jW 9 [w]
  generalize kz 9 [w]=k9 at h9 h
  simp+contextual only [qw,h9,↓Zh,↓XP,qh,XW1,qb]
  intro b7 h7
  obtain ⟨n74,f7⟩:=h7
  simp+contextual only [qV h9,jj]
  have hg3:Kst0 ((b7,.cells (jp k9))::(b4,.cells (barr 16 []))::H):=hg2.push ⟨Ne.symm n74,f7⟩
  refine oM h9 ?_
  simp+contextual only [Nat.mul_one,↓XP,qh,XW1,qe]
  refine fun _=>UV (c:=1) (l:= [k9]) hg3 (by decide) (by simp) (fun x hx=>by rw [List.mem_singleton.1 hx];omega) ?_
  have h1:=jW 1 [k9]
  generalize kz 1 [k9]=k1 at h1 h
  simp+contextual only [qw,qg,qk,n74,h1,qV h1,jj,show (barr 16 []).drop 16= [] from rfl,show (barr 16 []).length=16 from rfl,↓XP,qh,XW1]
  exact h
def jn (seed:List UInt8):Nat->Nat->List UInt8
 |0,k=>W6 seed (k:Int)
 |l+1,k=>kz 2 [jn seed l (2*k),jn seed l (2*k+1)]
theorem jJ (seed:List UInt8):∀l k,(jn seed l k).length=16
 |0,k=>Wb _ _
 |l+1,k=>jW _ _
def Qh (seed:List UInt8) (l n:Nat):List (List D):=(List.range n).map fun k=>jp (jn seed l k)
theorem W0 (seed:List UInt8) (l n:Nat):Qh seed l n++ [jp (jn seed l n)]=Qh seed l (n+1):=by simp [Qh,M3]
theorem vH (seed:List UInt8) (l n:Nat):(Qh seed l n).length=n:=by simp [Qh]
theorem oV (h:k<n):(Qh seed l n).getD k []=jp (jn seed l k):=by simp [Qh,List.getD,h]
def gN (seed:List UInt8) (ht:Nat) (n:Nat):List (List D):=(List.range n).map fun l=>[.slc (Qh seed l (2 ^ (ht - l)))]
theorem aO (seed:List UInt8) (ht n:Nat):gN seed ht n++ [[.slc (Qh seed n (2 ^ (ht - n)))]]=gN seed ht (n+1):=by simp [gN,M3]
theorem uC (seed:List UInt8) (ht n:Nat):(gN seed ht n).length=n:=by simp [gN]
theorem G3:∀y∈Qh seed l n,y.length=16:=fun y hy=>by
 obtain ⟨k,_,rfl⟩:=List.mem_map.1 hy
 rw [qw,jJ]
theorem p9:∀y∈gN seed ht n,y.length=1:=fun y hy=>by
 obtain ⟨k,_,rfl⟩:=List.mem_map.1 hy
 rfl
theorem Q7 (h:l<n):(gN seed ht n).getD l []= [.slc (Qh seed l (2 ^ (ht - l)))]:=by simp [gN,List.getD,h]
theorem zd (h:ht<=6):IntKind.i64.wrap (1*2 ^ min ht IntKind.i64.bits)=((2 ^ ht:Nat):Int)∧2 ^ ht<=64∧1<=2 ^ ht:=by
 rcases ht with _|_|_|_|_|_|_|n
 all_goals first|decide|omega
theorem U0 {R:D->AH->Prop} (hg:Kst0 H) (hs:seed.length<=64) (hh:ht<=6) (h:R (.own (gN seed ht (ht+1))) H):ACall Tryz.prog 62 [.str seed,.i (ht:Int)] H R:=by
 refine b62 fun hf=>?_
 have hbig:=qj
 obtain ⟨hp1,hp2,hp3⟩:=zd hh
 have hrow0:1<=2 ^ (ht - 0):=hp3
 simp+contextual only [↓bU,↓bU,↓XP,qo,qa,qb]
 refine XW.loopS hmm 64 (fun i:Nat=>[(0,.str seed),(1,.i (ht:Int)),(5,.own (Qh seed 0 i)),(6,.i (i:Int))]) (fun _=>H) (fun i=>64 - i) (fun i=>i<=2 ^ ht) 0 (Nat.zero_le _) ⟨rfl,rfl,rfl,rfl,rfl,trivial⟩ rfl ?_
 intro i z hi K hN hE hR
 dsimp only [fl,zz,qa,qb]
 by_cases hlt:i<2 ^ ht
 ·have hlt':((i:Int)<((2 ^ ht:Nat):Int))=True:=eq_true (by omega)
  simp+contextual only [hp1,hlt',↓bU,↓XP,qo]
  refine mj hg hs ?_
  have hs2:=W0 seed 0 i
  rw [show jn seed 0 i=W6 seed (i:Int) from rfl] at hs2
  have hl2:=Wb seed (i:Int)
  generalize W6 seed (i:Int)=w at hs2 hl2
  simp+contextual only [qw,vH,hs2,hl2,↓bU,↓XP,qh,XW1,qc,qe]
  rw [qi (by omega)]
  exact ⟨G3,by omega,hN (i+1) _ _ (by omega) (by omega) ⟨rfl,rfl,rfl,rfl,rfl,trivial⟩ (qz rfl)⟩
 ·have hlt':((i:Int)<((2 ^ ht:Nat):Int))=False:=eq_false (by omega)
  have hi2:i=2 ^ ht:=by omega
  simp+contextual only [hp1,hlt',↓bU,↓XP,qo]
  apply hE
  rw [hi2]
  clear hN hE hR hi hlt hlt' hi2
  have hl1: [[D.slc (Qh seed 0 (2 ^ ht))]]=gN seed ht 1:=rfl
  simp+contextual only [Nat.mul_one,hl1,↓bU,↓XP,qh,XW1,qe]
  refine XW.loopS hmm 64 (fun l:Nat=>[(0,.str seed),(1,.i (ht:Int)),(7,.own (gN seed ht (l+1))),(8,.i (l:Int))]) (fun _=>H) (fun l=>ht - l) (fun l=>l<=ht) 0 (Nat.zero_le _) ⟨rfl,rfl,rfl,rfl,rfl,trivial⟩ rfl ?_
  intro l z hl K hN hE hR
  dsimp only [fl,zz,qa,qb]
  by_cases hlt:l<ht
  ·have hlt':((l:Int)<(ht:Int))=True:=eq_true (by omega)
   simp+contextual only [hlt',↓bU,↓XP,qo]
   have hgl:=Q7 (seed:=seed) (ht:=ht) (n:=l+1) (l:=l) (by omega)
   have hpw:2 ^ (ht - l)=2*2 ^ (ht - (l+1)):=by
    rw [show ht - l=(ht - (l+1))+1 by omega,Nat.pow_succ]
    omega
   have hpm:2 ^ (ht - (l+1))<=64:=Mq (Nat.pow_le_pow_right (by omega) (by omega:ht - (l+1)<=ht)) hp2
   have hst:=aO seed ht (l+1)
   generalize 2 ^ (ht - (l+1))=m at hpw hpm hst
   rw [hpw] at hgl
   refine XW.loopS hmm 64 (fun j:Nat=>[(0,.str seed),(1,.i (ht:Int)),(7,.own (gN seed ht (l+1))),(8,.i (l:Int)),(9,.own (Qh seed (l+1) j)),(10,.i ((2*j:Nat):Int))]) (fun _=>H) (fun j=>m - j) (fun j=>j<=m) 0 (Nat.zero_le _) ⟨rfl,rfl,rfl,rfl,rfl,rfl,rfl,trivial⟩ rfl ?_
   intro j z hj K hN' hE' hR'
   dsimp only [fl,zz,qa,qb]
   by_cases hlt2:j<m
   ·have hb1:((l:Int)<((l+1:Nat):Int))=True:=eq_true (by omega)
    have hw1:IntKind.i64.wrap (((2*j:Nat):Int)+1)=((2*j+1:Nat):Int):=qi (by omega)
    have hw2:IntKind.i64.wrap (((2*j:Nat):Int)+2)=((2*(j+1):Nat):Int):=by rw [qm (by omega) (by omega)];omega
    have hc0:(((2*j:Nat):Int)<((2*m:Nat):Int))=True:=eq_true (by omega)
    have hc1:(((2*j+1:Nat):Int)<((2*m:Nat):Int))=True:=eq_true (by omega)
    have g0:=oV (seed:=seed) (l:=l) (n:=2*m) (k:=2*j) (by omega)
    have g1:=oV (seed:=seed) (l:=l) (n:=2*m) (k:=2*j+1) (by omega)
    have n0:=jJ seed l (2*j)
    have n1:=jJ seed l (2*j+1)
    have hrs:=W0 seed (l+1) j
    rw [show jn seed (l+1) j=kz 2 [jn seed l (2*j),jn seed l (2*j+1)] from rfl] at hrs
    generalize jn seed l (2*j)=a at g0 n0 hrs
    generalize jn seed l (2*j+1)=b at g1 n1 hrs
    have n2:=jW 2 [a,b]
    simp+contextual only [qw,vH,uC,hb1,hgl,hw1,hc0,hc1,g0,g1,n0,n1,qV n0,qV n1,Mg,↓bU,↓XP,qh,XW1]
    refine fun _=>⟨_,fun H1 hs=>iK (hg.sub hs) n0 n1 ⟨rfl,rfl⟩,?_⟩
    generalize kz 2 [a,b]=c at hrs n2 ⊢
    simp+contextual only [qw,vH,hrs,n2,hw2,↓bU,↓XP,qh,XW1,qc,qe]
    exact ⟨G3,by omega,hN' (j+1) _ _ (by omega) (by omega) ⟨rfl,rfl,rfl,rfl,rfl,rfl,rfl,trivial⟩ (qz rfl)⟩
   ·have hjm:j=m:=by omega
    have hb1:((l:Int)<((l+1:Nat):Int))=True:=eq_true (by omega)
    have hw1:IntKind.i64.wrap (((2*j:Nat):Int)+1)=((2*j+1:Nat):Int):=qi (by omega)
    have hc1:(((2*j+1:Nat):Int)<((2*m:Nat):Int))=False:=eq_false (by omega)
    simp+contextual only [vH,uC,hb1,hgl,hw1,hc1,Mg,↓bU,↓XP,qh,XW1]
    intro _
    apply hE'
    rw [hjm]
    simp+contextual only [uC,Nat.mul_one,hst,↓bU,↓XP,qh,XW1,qe,qf]
    rw [qi (by omega)]
    exact ⟨p9,by omega,hN (l+1) _ _ (by omega) (by omega) ⟨rfl,rfl,rfl,rfl,rfl,trivial⟩ (qz rfl)⟩
  ·have hlt':((l:Int)<(ht:Int))=False:=eq_false (by omega)
   have hl2:l=ht:=by omega
   simp+contextual only [hlt',↓bU,↓XP,qo]
   apply hE
   rw [hl2]
   simp+contextual only [↓XP,qo,XW1]
   exact h
def wT (seed:List UInt8) (h:Int):Bool:=decide (seed.length=32∧0<=h∧h<=6)
theorem Zy {R:D->AH->Prop} (hR:R (.bool (wT seed h)) H):ACall Tryz.prog 61 [.str seed,.i h] H R:=by
 refine b61 fun hf=>?_
 have hbig:=qj
 by_cases h1:seed.length=32
 ·have e1:(((seed.length:Nat):Int)=32)=True:=eq_true (by omega)
  by_cases h2:0<=h
  ·have e2:((0:Int)<=h)=True:=eq_true h2
   by_cases h3:h<=6
   ·have e3:(h<=6)=True:=eq_true h3
    rw [wT,decide_eq_true ⟨h1,h2,h3⟩] at hR
    simp+contextual only [↓U61,e1,e2,e3,↓U61.1,↓XP,qh,qa,qb]
    exact fun _=>hR
   ·have e3:(h<=6)=False:=eq_false h3
    rw [wT,decide_eq_false (fun c=>h3 c.2.2)] at hR
    simp+contextual only [↓U61,e1,e2,e3,↓U61.1,↓XP,qh,qa,qb]
    exact fun _=>hR
  ·have e2:((0:Int)<=h)=False:=eq_false h2
   rw [wT,decide_eq_false (fun c=>h2 c.2.1)] at hR
   simp+contextual only [↓U61,e1,e2,↓U61.1,↓XP,qh,qa,qb]
   exact fun _=>hR
 ·have e1:(((seed.length:Nat):Int)=32)=False:=eq_false (by omega)
  rw [wT,decide_eq_false (fun c=>h1 c.1)] at hR
  simp+contextual only [↓U61,e1,↓U61.1,↓XP,qh,qa,qb]
  exact fun _=>hR
theorem bn {R:D->AH->Prop} (hg:Kst0 H) (hs:seed.length=32) (hh:ht<=6) (h:R (.tup [.agg (jp (jn seed ht 0)),.i 0]) H):ACall Tryz.prog 26 [.str seed,.i (ht:Int)] H R:=by
 refine b26 fun hf=>?_
 have hbig:=qj
 simp+contextual only [↓xE,↓xE,↓XP,qh,qa,qb]
 intro b4 h4
 refine Zy ?_
 have hgt:wT seed ht=true:=decide_eq_true ⟨hs,by omega,by omega⟩
 simp+contextual only [hgt,↓xE,↓XP,qo,XW1,↓XH]
 refine U0 (seed:=seed) (ht:=ht) (hg.push h4) (by omega) hh ?_
 have hl1:((ht:Int)<((ht+1:Nat):Int))=True:=eq_true (by omega)
 have g1:=Q7 (seed:=seed) (ht:=ht) (n:=ht+1) (l:=ht) (by omega)
 rw [Nat.sub_self] at g1
 have g2:=oV (seed:=seed) (l:=ht) (n:=2 ^ 0) (k:=0) (by decide)
 have n2:=jJ seed ht 0
 generalize jn seed ht 0=w at g2 n2 h
 simp+contextual only [uC,vH,hl1,g1,g2,n2,qw,show ((0:Int)<((2 ^ 0:Nat):Int))=True from by decide,qV n2,jj,↓XP,qh,XW1,qb]
 exact fun _ _=>h
theorem Zt {R:D->AH->Prop} (hn:wT seed i=false) (h:R (.tup [.agg (barr 16 []),.i 1]) H):ACall Tryz.prog 26 [.str seed,.i i] H R:=by
 refine b26 fun hf=>?_
 have hbig:=qj
 simp+contextual only [↓xE,↓xE,↓XP,qh,qa,qb]
 intro b4 h4
 refine Zy ?_
 simp+contextual only [hn,↓xE,↓XP,qh,XW1,qb,↓XH]
 exact h
def fL (seed:List UInt8) (i:Int):D:=if wT seed i=true∧i<=4 then .tup [.agg (jp (jn seed i.toNat 0)++ [.i i]),.i 0] else .tup [.agg (barr 16 []++ [.i 0]),.i 1]
theorem JL (h:wT seed i=true) (h4:i<=4):fL seed i= .tup [.agg (jp (jn seed i.toNat 0)++ [.i i]),.i 0]:=if_pos ⟨h,h4⟩
theorem g9 (h:¬(wT seed i=true∧i<=4)):fL seed i= .tup [.agg (barr 16 []++ [.i 0]),.i 1]:=if_neg h
theorem Gn (h:w.length=16) (x:D):List.take 16 (jp w++ [x])=jp w:=by
 rw [List.take_append_of_le_length (by rw [qw,h];exact Ms _),qV h]
theorem uN (h:w.length=16) (x:D):(jp w++ [x]).length=17:=by rw [Mh,qw,h];rfl
theorem G4 (h:w.length=16) (x:D):List.drop 17 (jp w++ [x])= []:=List.drop_of_length_le (by rw [uN h];exact Ms _)
theorem eR (h:w.length=16) (x:D):List.take 17 (jp w++ [x])=jp w++ [x]:=Mt (by rw [uN h];exact Ms _)
theorem Vh (i:Int):List.map D.view1 (jp w++ [.i i])=jp w++ [.i i]:=by
 rw [Mo,jj];rfl
theorem QP {R:D->AH->Prop} (hg:Kst0 H) (h:R (fL seed i) H):ACall Tryz.prog 11 [.str seed,.i i] H R:=by
 refine b11 fun hf=>?_
 have hbig:=qj
 by_cases h4:(4:Int)<i
 ·have e4:((4:Int)<i)=True:=eq_true h4
  rw [g9 (fun c=>by omega)] at h
  simp+contextual only [↓xJ,e4,↓xJ,↓XP,qh,XW1,qa,qb]
  exact fun _ _=>h
 ·have e4:((4:Int)<i)=False:=eq_false h4
  simp+contextual only [↓xJ,e4,↓xJ,↓XP,qh,qa,qb]
  intro b4 h4'
  by_cases hk:wT seed i=true
  ·obtain ⟨hk1,hk2,hk3⟩:seed.length=32∧0<=i∧i<=6:=of_decide_eq_true hk
   rw [JL hk (by omega)] at h
   obtain ⟨n,rfl⟩:=Mz hk2
   refine bn (seed:=seed) (ht:=n) (hg.push h4') hk1 (by omega) ?_
   rw [Mg] at h
   have n2:=jJ seed n 0
   generalize jn seed n 0=w at n2 h
   simp+contextual only [↓xJ,↓XP,qh,XW1,qb,qe]
   intro _ b6 h6
   obtain ⟨n64,f6⟩:=h6
   simp+contextual only [n2,qw,qV n2,jj,Gn n2,uN n2,G4 n2,eR n2,Vh,qo,XW1]
   exact h
  ·have hkf:wT seed i=false:=by simpa using hk
   rw [g9 (fun c=>hk c.1)] at h
   refine Zt hkf ?_
   simp+contextual only [↓xJ,↓XP,qh,XW1,qb,qe]
   exact fun _ _ _=>⟨rfl,fun _=>h,fun c=>absurd c (by decide)⟩
def oD (o:Int) (n:Nat):List UInt8:=(List.range n).map fun (i:Nat)=>UInt8.ofNat (65+(7*o+i) % 60).toNat
theorem bv (o:Int) (n:Nat):(oD o n).length=n:=by simp [oD]
theorem Vi {R:D->AH->Prop} (ho:0<=o) (ho2:o<=1000) (h:R (.str (oD o 32)) H):ACall Tryz.prog 8 [.i o] H R:=by
 refine b8 fun hf=>?_
 have hbig:=qj
 simp+contextual only [↓U8,↓U8,↓XP,qo,qa]
 refine XW.loopS hmm 21 (fun i:Nat=>[(0,.i o),(3,.str (oD o i)),(4,.i (i:Int))]) (fun _=>H) (fun i=>32 - i) (fun i=>i<=32) 0 (Nat.zero_le _) ⟨rfl,rfl,rfl,rfl,trivial⟩ rfl ?_
 intro i z hi K hN hE hR
 dsimp only [fl,zz,qa,qb]
 by_cases hlt:i<32
 ·have hlt':((i:Int)<32)=True:=eq_true (by omega)
  have e1:IntKind.i64.wrap (7*o)=7*o:=qm (by omega) (by omega)
  have e2:IntKind.i64.wrap (7*o+i)=7*o+i:=qm (by omega) (by omega)
  have e3:Int.tmod (7*o+i) 60=(7*o+i) % 60:=by rw [Int.tmod_eq_emod_of_nonneg (by omega)]
  have hq:0<=(7*o+i) % 60∧(7*o+i) % 60<60:=⟨Int.emod_nonneg _ (by decide),Int.emod_lt_of_pos _ (by decide)⟩
  have hss:oD o i++ [UInt8.ofNat (65+(7*o+i) % 60).toNat]=oD o (i+1):=by simp [oD,M3]
  generalize (7*o+i) % 60=q at e3 hq hss
  have e4:IntKind.i64.wrap (65+q)=65+q:=qm (by omega) (by omega)
  have e5:IntKind.i64.wrap q=q:=qm (by omega) (by omega)
  have e6:IntKind.u8.wrap (65+q)=((UInt8.ofNat (65+q).toNat).toNat:Int):=by
   obtain ⟨m,rfl⟩:=Mz hq.1
   rw [show ((65:Int)+(m:Int)).toNat=65+m by omega]
   simp only [UInt8.toNat_ofNat']
   rw [show (65:Int)+(m:Int)=((65+m:Nat):Int) by omega]
   simp only [IntKind.wrap]
   rw [if_neg (by simp [IntKind.signed])]
   show ((65+m:Nat):Int) % 256=(((65+m) % 256:Nat):Int)
   omega
  generalize UInt8.ofNat (65+q).toNat=c at e6 hss
  have e7:unbyte [.int .u8 (c.toNat:Int)]=c:=by
   have:=unb [c]
   simpa [ql] using this
  have e8:yT [.int .u8 (c.toNat:Int)]:=isb [c] _ (by simp [ql])
  simp+contextual only [Nat.mul_one,hlt',e1,e2,e3,e4,e6,e7,hss,↓U8,↓XP,qh,XW1,qe]
  rw [qi (by omega)]
  exact ⟨by decide,e8,fun _=>⟨by rw [bv];omega,hN (i+1) _ _ (by omega) (by omega) ⟨rfl,rfl,rfl,rfl,trivial⟩ (qz rfl)⟩⟩
 ·have hi2:i=32:=by omega
  have hlt':((i:Int)<32)=False:=eq_false (by omega)
  simp+contextual only [hlt',↓U8,↓XP,qo]
  apply hE
  rw [hi2]
  simp+contextual only [Mf,↓XP,qo,XW1]
  exact h
end Go.Proofs.YtgopigkdcmhbbaaGreatDoor
end
noncomputable section
namespace Go.Proofs.YtgopigkdcmhbbaaGreatDoor
open Go.Xs
open Go Go.Aw
noncomputable def Dr:=yy Tryz.f40
def V40:=PLift.up (aI (@unf (Dr 2) (F [u,u,u,y 5,y 5,v,u]) rfl) (@unf (Dr 0) (R [u] (Dr 2)) rfl))
theorem U40:type_of% V40.down:=V40.down
theorem b40:Bt 40 9 (Dr 0) [(.tmp 2)]:=bt Tryz.func40 rfl
noncomputable def y41:=yy Tryz.f41
def x41_s1:XC:=(R [b (.makeMap 134 .none) 5,a (.alloc 134) 3,w 134 3 5] (.seq (.gh (.reg [a (.alloc 85) 4])) (y41 6)))
def x41:XC:=(R [B 9 0 1,a (.assign (.const .nilFunc)) 2] x41_s1)
def V41:=PLift.up (aI (@unf (y41 6) (R [v,u] (F [v,u])) rfl) (@unf _ _ x41_s1.eq_1))
theorem U41:type_of% V41.down:=V41.down
theorem r41 {args:List D} {H:AH} {R:D->AH->Prop} (h:facts args->xcode Tryz.prog x41 (args++List.replicate (8 - args.length) (.tup [])) H (VT Tryz.prog [(.tmp 2)] R)):ACall Tryz.prog 41 args H R:=
 yN hm Tryz.func41 rfl (by kernel_rfl) (by kernel_rfl) (by kernel_rfl) (by kernel_rfl) (by kernel_rfl) (by kernel_rfl) h
noncomputable def fP:=yy Tryz.f53
def x53_s5:XC:=(R [a (.call ⟨(.builtin .imag),#[],#[114]⟩) 3] (.seq (R [J 0 7] (.block 0 (.loop (fP 9)))) (fP 23)))
def x53:XC:=(R [a (.alloc 33) 2] x53_s5)
def V53:=PLift.up (aI (aI (@unf (fP 19) (R [u,u,v,u,u] (r [u,u])) rfl) (aI (@unf (fP 15) (X (O (R [v,u] (fP 19))) (r [u,u])) rfl) (@unf (fP 9) (R [u] (X I (fP 15))) rfl))) (aI (@unf (fP 25) (F [u,u,u,v,u]) rfl) (aI (@unf (fP 23) (R [u,u,v,u,u] (fP 25)) rfl) (@unf _ _ x53_s5.eq_1))))
theorem B2:type_of% V53.down:=V53.down
theorem b53:Bt 53 23 x53 [(.cell 2 33)]:=bt Tryz.func53 rfl
noncomputable def nt:=yy Tryz.f82
def x82_s0:XC:=(.seq (.gh (.reg [m 9 19])) (C 19 (R [L 33 8 20,w 33 7 20] .ret) .skip))
def x82_s3:XC:=(.seq (.gh (nt 21)) (.seq (.gh (.reg [L 33 10 44,w 33 7 44])) .ret))
def x82_s4:XC:=(R [a (.alloc 33) 10] (.seq (R [m 0 21,q .eql 3 21 0 22] (nt 17)) x82_s3))
def x82_s5:XC:=(.seq (.seq (.gh (nt 4)) x82_s0) x82_s4)
def x82:XC:=(R [B 3 1 6,a (.alloc 33) 7] x82_s5)
def V82r:=PLift.up (aI (@unf (nt 21) (r [u,u,u,u,u,u]) rfl) (@unf (nt 4) (r [u,u,u,u,u,u,v,v,u,u,u]) rfl))
theorem JX:type_of% V82r.down:=V82r.down
def V82:=PLift.up (aI (aI (@unf _ _ x82_s0.eq_1) (aI (@unf (nt 19) (G [u,u,u,u,u,u,u,u,u,u,u,u,u,v,u]) rfl) (@unf (nt 17) (V (r [u,v,u]) (nt 19)) rfl))) (aI (@unf _ _ x82_s3.eq_1) (aI (@unf _ _ x82_s4.eq_1) (@unf _ _ x82_s5.eq_1))))
theorem B4:type_of% V82.down:=V82.down
theorem b82:Bt 82 45 x82 [(.cell 7 33)]:=bt Tryz.func82 rfl
noncomputable def Dg:=yy Tryz.f83
def V83:=PLift.up (aI (@unf (Dg 2) (X (G [u,u,u,u,u,u,v,u]) .ret) rfl) (@unf (Dg 0) (R [u] (Dg 2)) rfl))
theorem U83:type_of% V83.down:=V83.down
theorem b83:Bt 83 12 (Dg 0) [(.cell 4 33)]:=bt Tryz.func83 rfl
end Go.Proofs.YtgopigkdcmhbbaaGreatDoor
end
