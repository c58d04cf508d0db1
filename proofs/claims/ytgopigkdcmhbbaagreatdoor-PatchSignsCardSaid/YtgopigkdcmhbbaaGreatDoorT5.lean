/- A part of the proof of what the last text says: Ka6, Ka7, Ka8, Ka9, XcJ, Kc1, Kc2, Kc3, Kc4, Kc5, Gp0, Rh1, Gp1, Gf1, XcB, Gw1, Gw2, Gm0, XcC, Gm1, Gm2, Kb1, Kc6, Kc7, Kc8, Kp1, Kd1, Kd2, Kd3, Kd4, Kd5, Kd6, XcK. Conditions: those in each theorem. -/
import Derived.Test.YtgopigkdcmhbbaaGreatDoorT4
import Derived.Laws.BitsAllLaws
set_option autoImplicit true
set_option relaxedAutoImplicit true
set_option linter.unusedVariables false
set_option linter.unusedSimpArgs false
set_option maxRecDepth 100000
set_option maxHeartbeats 16000000
open List renaming getD_eq_getElem?_getD -> Na,getElem?_eq_getElem -> Nb,getD_cons_succ -> Nc,getD_cons_zero -> Nd,length_append -> Ni,length_cons -> Nj,length_map -> Nk,getElem?_append_left -> Nm,getElem?_append_right -> Nn,map_append -> No,append_assoc -> Np,take_of_length_le -> Nu,mem_cons -> Nz,getElem?_eq_none -> N0,length_take -> N2,range_succ -> N3,append_nil -> N4,nil_append -> N5,map_map -> N6,map_congr_left -> N7,not_mem_nil -> N8
open Option renaming getD_some -> Nf
open Int renaming cast_ofNat_Int -> Ng,toNat_natCast -> Nh,natCast_nonneg -> Nl,reduceToNat -> Nv,reduceLE -> Nw,reduceLT -> Ny,eq_ofNat_of_zero_le -> N1
open Nat renaming le_trans -> Nq,lt_of_lt_of_le -> Nr,le_refl -> Nt,reduceSub -> qa,reduceAdd -> qb,reduceMul -> qc,reduceEqDiff -> qd,reduceLeDiff -> qe,reduceBEq -> qf
section
namespace Go.Proofs.YtgopigkdcmhbbaaGreatDoor
open Go Go.Aw
variable {R:D->AH->Prop}
theorem KX (h:0<=n) (h':n<18446744073709551616):IntKind.u64.wrap n=n:=by
 rw [show IntKind.u64.wrap n=n % 18446744073709551616 by simp [IntKind.wrap,IntKind.bits,IntKind.signed]]
 omega
theorem Ai (hg:Kst H) (hp:Blk H p o m) (h:R (.agg (uf s m).D) H):ACall Tryz.prog 142 [.agg s.D,.hso p o 64] H R:=by
 obtain ⟨cs,h1,h2⟩:=hp
 exact GJ hg h1 h2 h
theorem K9 {s:Str} (h:s.blk.length=64):s.D.take 73=s.D:=Nu (by rw [yz h];exact Nt _)
theorem JS {s:Str}:s.D.map D.view1=s.D:=by
 unfold Str.D jf
 rw [No,No,N6,S8.D_view]
 rfl
def zst:Str:=⟨z8,List.replicate 64 0,0⟩
theorem KL {s:Str} {t:List UInt8} {H:AH} (hg:Kst H) (hb:s.blk.length=64) (hn:s.n+t.length<=big) (h:R (.agg (yu s t).D) H):ACall Tryz.prog 123 [.agg s.D,.str t] H R:=by
 refine FW fun hf=>?_
 have hbig:=qk
 simp+contextual only [DJ,↓Wd,↓XP,qh,XW1,qa,qb]
 intro b2 h2 b4 h4
 obtain ⟨n42,f4⟩:=h4
 refine XW.loopS hmm 38 (fun q:Str×List UInt8=>[(1,.str q.2),(2,.ptr b2 0),(4,.ptr b4 0)]) (fun q=>(b4,.cells zst.D)::(b2,.cells q.1.D)::H) (fun q=>q.2.length) (fun q=>q.1.blk.length=64∧q.1.n+q.2.length<=big∧yu q.1 q.2=yu s t) (s,t) ⟨hb,hn,rfl⟩ ⟨rfl,rfl,rfl,rfl,trivial⟩ rfl ?_
 rintro ⟨s,t⟩ z ⟨hb,hn,hs⟩ K hN hE hR
 dsimp only at hb hn hs
 dsimp only [fl,zz,qa,qb]
 by_cases ht:t= []
 ·have ht':decide (t= [])=true:=decide_eq_true ht
  simp+contextual only [ht',↓Ak,↓Wd,↓XP,qp]
  apply hE
  subst ht
  rw [iu] at hs
  simp+contextual only [qg,n42,yz hb,K9 hb,JS,show zst.D.drop 73= [] from rfl,show zst.D.length=73 from rfl,↓Wd,↓XP,qh,XW1]
  rw [hs]
  exact h
 ·have ht':decide (t= [])=false:=decide_eq_false ht
  have hk:=zL (s:=s) ht
  have hk2:=Vx (s:=s) (t:=t)
  have hm:=Nat.mod_lt s.n (show 0<64 by decide)
  have e1:IntKind.i64.wrap ((s.n:Int).tmod 64)=((s.n % 64:Nat):Int):=by rw [Int.tmod_eq_emod_of_nonneg (Nl _),qi (by omega) (by omega)];omega
  have ek:min t.length (64 - s.n % 64)=yn s t:=rfl
  have ec:s.D.take (8+s.n % 64)++((t.take (64 - s.n % 64)).map (fun c=>D.int .u8 c.toNat)++s.D.drop (8+s.n % 64+yn s t))=Str.D ⟨s.st,wH s t,s.n⟩:=nJ hb hm t
  have hb':(wH s t).length=64:=KE hb t
  have e2:IntKind.u64.wrap ((yn s t:Nat):Int)=((yn s t:Nat):Int):=KX (by omega) (by omega)
  have e3:IntKind.u64.wrap ((s.n:Int)+((yn s t:Nat):Int))=((s.n+yn s t:Nat):Int):=by rw [KX (by omega) (by omega)];omega
  have e4:IntKind.i64.wrap (((s.n % 64:Nat):Int)+((yn s t:Nat):Int))=((s.n % 64+yn s t:Nat):Int):=by rw [qi (by omega) (by omega)];omega
  have e5:(Str.D ⟨s.st,wH s t,s.n⟩)[72]?=some (.int .u64 s.n):=bu (s:=⟨s.st,wH s t,s.n⟩) hb'
  have e6:=lA (s:=⟨s.st,wH s t,s.n⟩) hb' (s.n+yn s t)
  have e7:(Str.D ⟨s.st,wH s t,s.n⟩).length=73:=yz (s:=⟨s.st,wH s t,s.n⟩) hb'
  have hst:yu (uj s t) (t.drop (yn s t))=yu s t:=(QW ht).symm
  have hi64:((64:Nat):Int)=64:=rfl
  have e8:(Str.D ⟨s.st,wH s t,s.n+yn s t⟩).take 8=s.st.D:=Ck (s:=⟨s.st,wH s t,s.n+yn s t⟩)
  have e9:=fun r=>i7 (s:=⟨s.st,wH s t,s.n+yn s t⟩) r
  have e10:(Str.D ⟨s.st,wH s t,s.n+yn s t⟩).length=73:=yz (s:=⟨s.st,wH s t,s.n+yn s t⟩) hb'
  have hl':(t.drop (yn s t)).length=t.length - yn s t:=List.length_drop
  by_cases h64:s.n % 64+yn s t=64
  ·have h64':decide (((s.n % 64+yn s t:Nat):Int)=64)=true:=decide_eq_true (by omega)
   simp+contextual only [Nat.mul_one,Nat.sub_zero,Ng,ht',bu hb,e1,ek,ec,e2,e3,e4,e5,e6,e7,e8,e10,S8.D_view,h64',List.take_length,yz hb,qg,qm,n42,↓Ak,↓Wd,↓JX,qh,XW1,qe,↓XH]
   refine fun _=>⟨by decide,by omega,hm,by omega,fun _=>⟨by omega,?_⟩⟩
   have hK:Kst ((b4,.cells zst.D)::(b2,.cells (Str.D ⟨s.st,wH s t,s.n+yn s t⟩))::H):=(Kst.push hg h2).push ⟨Ne.symm n42,f4⟩
   have hB:Blk ((b4,.cells zst.D)::(b2,.cells (Str.D ⟨s.st,wH s t,s.n+yn s t⟩))::H) b2 8 (wH s t):=⟨_,by rw [qg n42,ji],sU (s:=⟨s.st,wH s t,s.n+yn s t⟩) hb'⟩
   obtain ⟨c,hc⟩:∃c,uf s.st (wH s t)=c:=⟨_,rfl⟩
   refine ⟨.agg c.D,fun H1 hH1=>Ai (hK.sub hH1) (hB.sub hH1) ⟨by rw [hc],rfl⟩,?_⟩
   simp+contextual only [e9,e10,S8.D_len,qg,qm,n42,↓Wd,↓XP,qh,XW1,qe]
   have he:uj s t=⟨c,wH s t,s.n+yn s t⟩:=by rw [uj,if_pos h64,hc]
   exact hN (uj s t,t.drop (yn s t)) _ _ ⟨by rw [he];exact hb',by rw [he];show s.n+yn s t+(t.drop (yn s t)).length<=big;omega,hst.trans hs⟩ (by show (t.drop (yn s t)).length<t.length;omega) ⟨rfl,rfl,rfl,rfl,trivial⟩ (by show back _ _=(b4,AO.cells zst.D)::(b2,AO.cells (uj s t).D)::H;rw [he];exact qz rfl)
  ·have h64':decide (((s.n % 64+yn s t:Nat):Int)=64)=false:=decide_eq_false (by omega)
   simp+contextual only [Nat.mul_one,Ng,ht',bu hb,e1,ek,ec,e2,e3,e4,e5,e6,e7,h64',List.take_length,yz hb,qg,qm,n42,↓Ak,↓Wd,↓JX,qh,XW1,qe,↓XH]
   refine fun _=>⟨by decide,by omega,hm,by omega,fun _=>⟨by omega,?_⟩⟩
   have he:uj s t=⟨s.st,wH s t,s.n+yn s t⟩:=by rw [uj,if_neg h64]
   exact hN (uj s t,t.drop (yn s t)) _ _ ⟨by rw [he];exact hb',by rw [he];show s.n+yn s t+(t.drop (yn s t)).length<=big;omega,hst.trans hs⟩ (by show (t.drop (yn s t)).length<t.length;omega) ⟨rfl,rfl,rfl,rfl,trivial⟩ (by show back _ _=(b4,AO.cells zst.D)::(b2,AO.cells (uj s t).D)::H;rw [he];exact qz rfl)
theorem unb (l:List UInt8):(l.map ql).map unbyte=l:=by
 rw [N6]
 conv=>rhs;rw [<-List.map_id l]
 apply N7
 intro c _
 show UInt8.ofNat ((c.toNat:Int)).toNat=c
 simp
theorem isb (l:List UInt8):∀x∈l.map ql,yQ x:=by
 intro x hx
 obtain ⟨c,_,rfl⟩:=List.mem_map.1 hx
 have:=c.toNat_lt
 show 0<=(c.toNat:Int)∧(c.toNat:Int)<=255
 omega
theorem Vn (l:List UInt8):∀x∈l.map ql,x.length=1:=by
 intro x hx
 obtain ⟨c,_,rfl⟩:=List.mem_map.1 hx
 rfl
theorem V9 (l:List UInt8) (c:UInt8):l.map ql++ [[.int .u8 (c.toNat:Int)]]=(l++ [c]).map ql:=by simp [ql]
def pL (m k:Nat):UInt8:=UInt8.ofNat (m / 2 ^ k)
theorem GM (m k:Nat):IntKind.u8.wrap ((m:Int).fdiv (2 ^ k))=((pL m k).toNat:Int):=by
 rw [IntKind.wrap_u8',pL,UInt8.toNat_ofNat']
 have h2:((2:Int) ^ k)=((2 ^ k:Nat):Int):=by simp
 rw [h2,Int.fdiv_eq_ediv_of_nonneg _ (Nl _)]
 have:=(Int.natCast_ediv m (2 ^ k)).symm
 omega
def zP (n:Nat):Nat:=(119 - n % 64) % 64
def Qe (n:Nat):List UInt8:=128::(List.replicate (zP n) 0++(List.range 8).map fun i=>pL (8*n) (56 - 8*i))
def S8.w (s:S8) (j:Nat):W:= [s.a,s.b,s.c,s.d,s.e,s.f,s.g,s.h].getD j 0
def ZE (s:S8) (i:Nat):UInt8:=pL (s.w (i / 4)).toNat (24 - 8*(i % 4))
def J1 (s:S8) (i:Nat):List UInt8:=(List.range i).map (ZE s)
theorem uS (s:S8) (i:Nat):(J1 s i).length=i:=by simp [J1]
theorem Wk (s:S8) (i:Nat):J1 s i++ [ZE s i]=J1 s (i+1):=by simp [J1,N3]
def Ki (s:S8):List UInt8:=(List.range 32).map (ZE s)
def Q5 (s:Str):List UInt8:=Ki (yu s (Qe s.n)).st
theorem Kk (n:Nat):(Qe n).length=zP n+9:=by simp [Qe]
def barr (n:Nat) (l:List UInt8):List D:=jf l++List.replicate (n - l.length) (bD 0)
theorem gZ (h:l.length<=n):(barr n l).length=n:=by simp [barr,jf];omega
theorem Kl (h:l.length<n):(barr n l).set l.length (bD c)=barr n (l++ [c]):=by
 unfold barr
 rw [show n - l.length=(n - (l++ [c]).length)+1 by simp;omega,List.replicate_succ,List.set_append_right _ _ (by simp [jf])]
 simp [jf]
theorem zy (h:l.length=n):barr n l=jf l:=by simp [barr,h]
theorem qI (h:l.length=n):(jf l).take n=jf l:=Nu (by rw [qt,h];exact Nt _)
theorem j3 (l:List UInt8):(jf l).map D.view1=jf l:=by
 unfold jf
 rw [N6]
 rfl
theorem S8.get (s:S8) (h:j<8):s.D[j]?=some (wD (s.w j)):=by
 obtain rfl|rfl|rfl|rfl|rfl|rfl|rfl|rfl:j=0∨j=1∨j=2∨j=3∨j=4∨j=5∨j=6∨j=7:=by omega
 all_goals rfl
theorem MH {s:Str} {j:Nat} (h:j<8):s.D[j]?=some (wD (s.st.w j)):=by
 unfold Str.D
 rw [Nm (by rw [S8.D_len];exact h),S8.get _ h]
theorem wZ:∀(k:Nat) (s:Str) (t:List UInt8),t.length<=k->s.blk.length=64->(yu s t).blk.length=64∧(yu s t).n=s.n+t.length:=by
 intro k
 induction k with
 | zero=>
  intro s t h hb
  obtain rfl:=List.eq_nil_of_length_eq_zero (Nat.le_zero.1 h)
  exact ⟨hb,rfl⟩
 | succ k ih=>
  intro s t h hb
  by_cases ht:t= []
  ·subst ht;exact ⟨hb,rfl⟩
  ·have hp:=zL (s:=s) ht
   have hk:=Vx (s:=s) (t:=t)
   rw [QW ht]
   obtain ⟨h1,h2⟩:=ih (uj s t) (t.drop (yn s t)) (by rw [List.length_drop];omega) (KE hb t)
   refine ⟨h1,?_⟩
   rw [h2,List.length_drop]
   show s.n+yn s t+_=_
   omega
def pd (j:Nat):List (List D):=(128::List.replicate j 0).map ql
theorem xS (j:Nat):(pd j).length=j+1:=by simp [pd]
theorem sM (j:Nat):pd j++ [[.int .u8 0]]=pd (j+1):=by simp [pd,ql,List.replicate_succ']
theorem Ha (j:Nat):∀x∈pd j,x.length=1:=Vn _
def pq (n z i:Nat):List (List D):=((128::List.replicate z 0)++(List.range i).map fun k=>pL (8*n) (56 - 8*k)).map ql
theorem dU (n z i:Nat):(pq n z i).length=z+1+i:=by simp [pq];omega
theorem tE (n z i:Nat):pq n z i++ [[.int .u8 ((pL (8*n) (56 - 8*i)).toNat:Int)]]=pq n z (i+1):=by simp [pq,ql,N3]
theorem Iz (n z i:Nat):∀x∈pq n z i,x.length=1:=Vn _
theorem mH (n:Nat):pq n (zP n) 8=(Qe n).map ql:=rfl
theorem DM (n z:Nat):pd z=pq n z 0:=by simp [pd,pq]
theorem iB {s:Str} {H:AH} (hg:Kst H) (hb:s.blk.length=64) (hn:s.n+80<=big) (h:R (.agg (jf (Q5 s))) H):ACall Tryz.prog 124 [.agg s.D] H R:=by
 refine Lq fun hf=>?_
 have hbig:=qk
 simp+contextual only [↓Yl,↓Yl,↓XP,qh,XW1,qa]
 intro b1 h1 b2 h2
 obtain ⟨n21,f2⟩:=h2
 have e8:IntKind.u64.wrap (8*(s.n:Int))=((8*s.n:Nat):Int):=by rw [KX (by omega) (by omega)];omega
 simp+contextual only [Nat.mul_one,bu hb,e8,↓Yl,↓XP,qh,XW1,qe]
 intro _
 refine XW.loopS hmm 58 (fun j:Nat=>[(1,.ptr b1 0),(2,.ptr b2 0),(3,.int .u64 ((8*s.n:Nat):Int)),(4,.own (pd ((j:Nat))))]) (fun j=>(b2,.cells (barr 32 []))::(b1,.cells s.D)::H) (fun j=>zP s.n - j) (fun j=>j<=zP s.n) 0 (Nat.zero_le _) ⟨rfl,rfl,rfl,rfl,rfl,trivial⟩ rfl ?_
 intro j z hj K hN hE hR
 dsimp only [fl,zz,qa,qb]
 have hz:zP s.n<64:=Nat.mod_lt _ (by decide)
 have w1:IntKind.i64.wrap (s.n:Int)=(s.n:Int):=qi (by omega) (by omega)
 have w2:IntKind.i64.wrap ((s.n:Int)+((j+1:Nat):Int))=((s.n+(j+1):Nat):Int):=by rw [qi (by omega) (by omega)];omega
 have w3:((s.n+(j+1):Nat):Int).tmod 64=(((s.n+(j+1)) % 64:Nat):Int):=by rw [Int.tmod_eq_emod_of_nonneg (Nl _)];omega
 by_cases hlt:j<zP s.n
 ·have ht:decide ((((s.n+(j+1)) % 64:Nat):Int)=56)=false:=decide_eq_false (by unfold zP at hlt;omega)
  simp+contextual only [Nat.mul_one,qg,n21,bu hb,w1,w2,w3,ht,xS,sM,↓Yl,↓XP,qh,XW1,qe]
  exact fun _ _=>⟨by decide,Ha j,by omega,hN (j+1) _ _ (by omega) (by omega) ⟨rfl,rfl,rfl,rfl,rfl,trivial⟩ (qz rfl)⟩
 ·obtain rfl:j=zP s.n:=by omega
  have ht:decide ((((s.n+(zP s.n+1)) % 64:Nat):Int)=56)=true:=decide_eq_true (by unfold zP;omega)
  simp+contextual only [qg,n21,bu hb,w1,w2,w3,ht,DM s.n (zP s.n),dU,↓Yl,↓XP,qh,XW1]
  refine fun _ _=>⟨by decide,?_⟩
  apply hE
  simp+contextual only [↓XP,qp,XW1]
  refine XW.loopS hmm 58 (fun i:Nat=>[(1,.ptr b1 0),(2,.ptr b2 0),(3,.int .u64 ((8*s.n:Nat):Int)),(4,.own (pq s.n (zP s.n) ((i:Nat)))),(23,.i (i:Int))]) (fun j=>(b2,.cells (barr 32 []))::(b1,.cells s.D)::H) (fun i=>8 - i) (fun i=>i<=8) 0 (Nat.zero_le _) ⟨rfl,rfl,rfl,rfl,rfl,rfl,trivial⟩ rfl ?_
  intro i z hi K hN hE hR
  dsimp only [fl,zz,qa,qb]
  by_cases hlt:i<8
  ·have hlt':((i:Int)<8)=True:=qo
   have w4:IntKind.i64.wrap (8*(i:Int))=((8*i:Nat):Int):=by rw [qi (by omega) (by omega)];omega
   have w5:IntKind.i64.wrap (56 - ((8*i:Nat):Int))=((56 - 8*i:Nat):Int):=by rw [qi (by omega) (by omega)];omega
   have w6:min (56 - 8*i) IntKind.u64.bits=56 - 8*i:=Nat.min_eq_left (by show _<=64;omega)
   simp+contextual only [Nat.mul_one,hlt',w4,w5,w6,GM,dU,tE,↓Yl,↓XP,qh,XW1,qe]
   rw [qj (by omega)]
   exact ⟨Iz _ _ _,by omega,hN (i+1) _ _ (by omega) (by omega) ⟨rfl,rfl,rfl,rfl,rfl,rfl,trivial⟩ (qz rfl)⟩
  ·obtain rfl:i=8:=by omega
   have hlt':(((8:Nat):Int)<8)=False:=eq_false (by decide)
   simp+contextual only [Ng,↓Yl,↓XP,qp]
   apply hE
   simp+contextual only [qg,n21,yz hb,K9 hb,JS,mH,unb,↓Yl,↓XP,qh,XW1]
   refine ⟨isb _,fun _=>?_⟩
   have hpl:=Kk s.n
   have hql:=wZ _ s (Qe s.n) (Nt _) hb
   obtain ⟨q,hq⟩:∃q,yu s (Qe s.n)=q:=⟨_,rfl⟩
   rw [hq] at hql
   refine KL ((Kst.push hg h1).push ⟨Ne.symm n21,f2⟩) hb (by omega) ?_
   rw [hq]
   have hqb:=hql.1
   simp+contextual only [qg,qm,n21,yz hb,yz hqb,show s.D.drop 73= [] from List.drop_of_length_le (by rw [yz hb];exact Nt _),↓Yl,↓XP,qh,XW1]
   intro b6 h6
   obtain ⟨n26,n16,f6⟩:=h6
   have hsum:Q5 s=Ki q.st:=by rw [Q5,hq]
   rw [hsum] at h
   refine XW.loopS hmm 58 (fun i:Nat=>[(1,.ptr b1 0),(2,.ptr b2 0),(6,.ptr b6 0),(40,.i ((i:Nat):Int))]) (fun i=>(b6,.cells (barr 32 (J1 q.st i)))::(b2,.cells (barr 32 []))::(b1,.cells q.D)::H) (fun i=>32 - i) (fun i=>i<=32) 0 (Nat.zero_le _) ⟨rfl,rfl,rfl,rfl,rfl,trivial⟩ rfl ?_
   intro i z hi K hN hE hR
   dsimp only [fl,zz,qa,qb]
   by_cases hlt:i<32
   ·have hlt':((i:Int)<32)=True:=qo
    have x1:IntKind.i64.wrap ((i:Int).tdiv 4)=((i / 4:Nat):Int):=by rw [Int.tdiv_eq_ediv_of_nonneg (Nl _),qi (by omega) (by omega)];omega
    have x2:(i:Int).tmod 4=((i % 4:Nat):Int):=by rw [Int.tmod_eq_emod_of_nonneg (Nl _)];omega
    have x3:IntKind.i64.wrap (8*((i % 4:Nat):Int))=((8*(i % 4):Nat):Int):=by rw [qi (by omega) (by omega)];omega
    have x4:IntKind.i64.wrap (24 - ((8*(i % 4):Nat):Int))=((24 - 8*(i % 4):Nat):Int):=by rw [qi (by omega) (by omega)];omega
    have x5:min (24 - 8*(i % 4)) IntKind.u32.bits=24 - 8*(i % 4):=Nat.min_eq_left (by show _<=32;omega)
    have x6:=MH (s:=q) (j:=i / 4) (by omega)
    have x7:(barr 32 (J1 q.st i)).length=32:=gZ (by rw [uS];omega)
    have x8:=Kl (n:=32) (l:=J1 q.st i) (c:=ZE q.st i) (by rw [uS];exact hlt)
    rw [uS,Wk] at x8
    unfold bD ZE at x8
    simp+contextual only [Nat.mul_one,Ng,qg,n21,n16,hlt',x1,x2,x3,x4,x5,x6,x7,x8,wD,GM,↓Yl,↓XP,qh,XW1]
    rw [qj (by omega)]
    exact ⟨by decide,by omega,fun _=>⟨by decide,by omega,hN (i+1) _ _ (by omega) (by omega) ⟨rfl,rfl,rfl,rfl,rfl,trivial⟩ (qz rfl)⟩⟩
   ·obtain rfl:i=32:=by omega
    have hlt':(((32:Nat):Int)<32)=False:=eq_false (by decide)
    simp+contextual only [Ng,↓Yl,↓XP,qp]
    apply hE
    have ho:J1 q.st 32=Ki q.st:=rfl
    have hol:(Ki q.st).length=32:=by simp [Ki]
    have hob:=zy hol
    simp+contextual only [qg,qm,n26,ho,hob,qt,hol,qI hol,j3,show (barr 32 []).drop 32= [] from rfl,show (barr 32 []).length=32 from rfl,↓XP,qh,XW1]
    exact h
theorem iy (x y:UInt8):bits .xor .u8 (x.toNat:Int) (y.toNat:Int)=((x ^^^ y).toNat:Int):=by rw [u8_xor_nat _ _ x.toNat_lt y.toNat_lt,UInt8.toNat_xor]
theorem zb (l:List UInt8):∀d∈jf l,yQ [d]:=by
 intro d hd
 obtain ⟨c,_,rfl⟩:=List.mem_map.1 hd
 have:=c.toNat_lt
 show 0<=(c.toNat:Int)∧(c.toNat:Int)<=255
 omega
theorem gB (l:List UInt8):(jf l).map (fun d=>unbyte [d])=l:=by
 unfold jf
 rw [N6]
 conv=>rhs;rw [<-List.map_id l]
 apply N7
 intro c _
 show UInt8.ofNat ((c.toNat:Int)).toNat=c
 simp
theorem QN (h:i<l.length):(jf l)[i]?=some (bD (l.getD i 0)):=by
 simp [jf,List.getD,Nb h]
theorem tA (l:List UInt8) (i:Nat) (c:UInt8):(jf l).set i (bD c)=jf (l.set i c):=by simp [jf,List.map_set]
def zpad (k:List UInt8):List UInt8:=k++List.replicate (64 - k.length) 0
def yx (k:List UInt8) (w:UInt8):List UInt8:=(zpad k).map (· ^^^ w)
theorem Kq (h:k.length<=64):(zpad k).length=64:=by simp [zpad];omega
def xI (m:List UInt8) (w:UInt8) (i:Nat):List UInt8:=(m.take i).map (· ^^^ w)++m.drop i
theorem tm (m:List UInt8) (w:UInt8) (i:Nat):(xI m w i).length=m.length:=by simp [xI];omega
theorem tD (h:i<m.length):(xI m w i).getD i 0=m.getD i 0:=by
 have h1:((m.take i).map (· ^^^ w)).length=i:=by simp;omega
 unfold xI List.getD
 rw [Nn (by omega),h1,Nat.sub_self,List.getElem?_drop,Nat.add_zero]
theorem A5 (h:i<m.length):(xI m w i).set i (m.getD i 0 ^^^ w)=xI m w (i+1):=by
 unfold xI
 have h1:(m.take i).length=i:=by simp;omega
 rw [List.set_append_right _ _ (by simp;omega),Nk,h1,Nat.sub_self,List.drop_eq_getElem_cons h,List.set_cons_zero,List.take_add_one,Nb h,No,Np]
 simp [List.getD,Nb h]
theorem FZ (m:List UInt8) (w:UInt8):xI m w 0=m:=by simp [xI]
theorem lH (h:m.length=n):xI m w n=m.map (· ^^^ w):=by subst h;simp [xI]
theorem UX (hb:qn H b=some (.cells [.str k])) (hk:k.length<=64) (h:R (.str (yx k w)) H):ACall Tryz.prog 135 [.int .u8 (w.toNat:Int),.ptr b 0] H R:=by
 refine Hc fun hf=>?_
 have hbig:=qk
 simp+contextual only [Cf,Nat.mul_one,Nat.sub_zero,↓mY,↓XP,qh,qa,qb,qe,↓XH]
 intro b4 h4
 have n4:=qO h4 hb
 simp+contextual only [qg n4,hb,↓JX,qh,XW1,qb,↓XH]
 intro _
 have hz:(List.map (fun c=>D.int .u8 (c.toNat:Int)) (List.take 64 k)++List.drop (min k.length 64) (jf (List.replicate 64 0)))=jf (zpad k):=by
  have e:List.drop k.length (jf (List.replicate 64 0))=jf (List.replicate (64 - k.length) 0):=by unfold jf;rw [<-List.map_drop,List.drop_replicate]
  rw [Nu hk,Nat.min_eq_left hk,zpad,e]
  unfold jf
  rw [No]
  rfl
 have hl:=Kq hk
 have hr:yx k w=(zpad k).map (· ^^^ w):=rfl
 rw [hr] at h
 generalize zpad k=m at hz hl h
 refine XW.loopS hmm 21 (fun i:Nat=>[(0,.int .u8 (w.toNat:Int)),(4,.ptr b4 0),(9,.i ((i:Nat):Int))]) (fun i=>(b4,.cells (jf (xI m w i)))::H) (fun i=>64 - i) (fun i=>i<=64) 0 (Nat.zero_le _) ⟨rfl,rfl,rfl,rfl,trivial⟩ ?_ ?_
 ·show (b4,AO.cells (jf (xI m w 0)))::H=_
  rw [FZ,<-hz]
  rfl
 intro i z hi K hN hE hR
 dsimp only [fl,zz,qa,qb]
 have hxl:=tm m w i
 by_cases hlt:i<64
 ·have hlt':((i:Int)<64)=True:=qo
  have g:=QN (l:=xI m w i) (i:=i) (by omega)
  rw [tD (by omega)] at g
  have st:=tA (xI m w i) i (m.getD i 0 ^^^ w)
  rw [A5 (by omega)] at st
  unfold bD at g st
  simp+contextual only [Nat.mul_one,Ng,hlt',g,st,iy,qt,hxl,hl,↓mY,↓XP,qh]
  rw [qj (by omega)]
  exact fun _=>⟨hlt,hN (i+1) _ _ (by omega) (by omega) ⟨rfl,rfl,rfl,rfl,trivial⟩ (qz rfl)⟩
 ·obtain rfl:i=64:=by omega
  have hlt':(((64:Nat):Int)<64)=False:=eq_false (by decide)
  simp+contextual only [Ng,↓mY,↓XP,qp]
  apply hE
  rw [lH hl]
  have hl2:(m.map (· ^^^ w)).length=64:=by simp [hl]
  generalize m.map (· ^^^ w)=m2 at hl2 h
  simp+contextual only [Nat.mul_one,Nat.sub_zero,qt,qI hl2,hl2,gB,↓mY,↓JX,qh,XW1,qe,↓XH]
  exact ⟨zb _,fun _=>h⟩
theorem zB:beg.blk.length=64:=rfl
theorem WI:beg.n=0:=rfl
def DL (k t:List UInt8):List UInt8:=Q5 (yu (yu beg (yx k 0x36)) t)
def lv (k t:List UInt8):List UInt8:=Q5 (yu (yu beg (yx k 0x5c)) (DL k t))
theorem vF (h:k.length<=64):(yx k w).length=64:=by simp [yx,Kq h]
theorem KW (s:S8):(Ki s).length=32:=by simp [Ki]
theorem KN (s:Str):(Q5 s).length=32:=KW _
theorem ep (h:qn H b=some (.cells [.str k])) (hs:Sub H H1):qn H1 b=some (.cells [.str k]):=by
 obtain ⟨o',g1,g2⟩:=hs _ _ h
 rcases g2 with g2|g2
 ·rw [<-g2] at g1;exact g1
 ·cases o' with
  | cells cs=>
   injection g2 with g2
   match cs,g2 with
   | [],g2=>cases g2
   |_::_::_,g2=>simp at g2
   | [d],g2=>
    simp only [List.map_cons,List.map_nil,List.cons.injEq,and_true] at g2
    cases d<;>simp only [D.view1] at g2<;>first|(rw [g1,<-g2];done)|cases g2
  |_=>cases g2
theorem Cu (hg:Kst H) (hk:k.length<=64) (ht:t.length<=4294967296) (h:R (.str (lv k t)) H):ACall Tryz.prog 103 [.str k,.str t] H R:=by
 refine Hl fun hf=>?_
 have hbig:=qk
 have hk':decide ((64:Int)<(k.length:Int))=false:=decide_eq_false (by omega)
 simp+contextual only [BQ,hk',↓AI,↓oR,↓XP,qh,XW1,qa,qb]
 intro b2 h2 _
 have hK2:=Kst.push (o:= .cells [.str k]) hg h2
 refine Vj ?_
 simp+contextual only [↓oR,↓XP,qp,XW1]
 refine UX (w:=0x36) ji hk ?_
 simp+contextual only [↓oR,↓XP,qp]
 intro _
 have l1:=wZ _ beg (yx k 0x36) (Nt _) zB
 rw [vF hk,WI] at l1
 have hmac:lv k t=Q5 (yu (yu beg (yx k 0x5c)) (Q5 (yu (yu beg (yx k 0x36)) t))):=rfl
 rw [hmac] at h
 refine KL hK2 zB (by rw [vF hk,WI];omega) ?_
 generalize yu beg (yx k 0x36)=s1 at l1 h
 simp+contextual only [↓oR,↓XP,qp,XW1]
 have l2:=wZ _ s1 t (Nt _) l1.1
 refine KL hK2 l1.1 (by omega) ?_
 generalize yu s1 t=s2 at l2 h
 simp+contextual only [↓oR,↓XP,qp,XW1]
 refine iB hK2 l2.1 (by omega) ?_
 have l3:=KN s2
 generalize Q5 s2=s3 at l3 h
 simp+contextual only [↓AI,↓oR,↓XP,qh,XW1,qb]
 intro b7 h7
 obtain ⟨n27,f7⟩:=h7
 have hK7:=Kst.push (o:= .cells (jf s3)) hK2 (b:=b7) ⟨Ne.symm n27,f7⟩
 have hb2:qn ((b7,AO.cells (jf s3))::(b2,AO.cells [D.str k])::H) b2=some (.cells [.str k]):=by rw [qg n27,ji]
 refine ⟨by rw [qt,l3],?_⟩
 refine ⟨_,fun _ _=>Vj ⟨rfl,rfl⟩,?_⟩
 simp+contextual only [↓oR,↓XP,qp,XW1]
 refine ⟨_,fun H1 hs=>UX (w:=0x5c) (ep hb2 hs) hk ⟨rfl,rfl⟩,?_⟩
 simp+contextual only [↓oR,↓XP,qp]
 intro _
 have l4:=wZ _ beg (yx k 0x5c) (Nt _) zB
 rw [vF hk,WI] at l4
 refine ⟨_,fun H1 hs=>KL (hK7.sub hs) zB (by rw [vF hk,WI];omega) ⟨rfl,rfl⟩,?_⟩
 generalize yu beg (yx k 0x5c)=s4 at l4 h
 simp+contextual only [Nat.mul_one,Nat.sub_zero,qt,l3,qI l3,gB,↓oR,↓JX,qh,XW1,qe,↓XH]
 refine ⟨zb _,fun _=>?_⟩
 have l5:=wZ _ s4 s3 (Nt _) l4.1
 refine ⟨_,fun H1 hs=>KL (hK7.sub hs) l4.1 (by omega) ⟨rfl,rfl⟩,?_⟩
 generalize yu s4 s3=s5 at l5 h
 simp+contextual only [↓oR,↓XP,qp,XW1]
 refine ⟨_,fun H1 hs=>iB (hK7.sub hs) l5.1 (by omega) ⟨rfl,rfl⟩,?_⟩
 have l6:=KN s5
 generalize Q5 s5=s6 at l6 h
 simp+contextual only [Nat.mul_one,Nat.sub_zero,Nat.reduceLT,qt,l6,qI l6,gB,↓AI,↓oR,↓JX,qh,XW1,qb,qe,↓XH]
 exact fun b _=>⟨zb _,fun _=>h⟩
end Go.Proofs.YtgopigkdcmhbbaaGreatDoor
end
noncomputable section
namespace Go.Proofs.YtgopigkdcmhbbaaGreatDoor
open Go.Xs
open Go Go.Aw
def nP:=yy Tryz.f141
def V141:=PLift.up (aI (@unf (nP 2) (X (G [u,u,u,u,u,u,u,v,u]) .ret) rfl) (@unf (nP 0) (R [u] (nP 2)) rfl))
theorem U141:type_of% V141.down:=V141.down
theorem FR:Bt 141 13 (nP 0) [(.tmp 4)]:=bt Tryz.func141 rfl
def uI:=yy Tryz.f140
def V140:=PLift.up (aI (aI (aI (@unf (uI 18) (r [u,v,u]) rfl) (@unf (uI 15) (X (O (G [u,u,u,u,u,u,u,u,u,u,u,u,u,u,u,u,u,u,u,u,u,u,u,u,u,u,u,u,u,u,u,u,u,v,u,u])) (uI 18)) rfl)) (aI (@unf (uI 9) (X (R [u,u] I) (uI 15)) rfl) (aI (@unf (uI 36) (G [u,u,u,u,u,u,u,u,u,u,u,u,u,v,u,u]) rfl) (@unf (uI 34) (X (G [u,u,u,u,u,u,u,u,u,u,u,u,u,u,u,u,v,u]) (uI 36)) rfl)))) (aI (aI (@unf (uI 37) (r [u,v,u]) rfl) (@unf (uI 30) (X (O (X (G [u,u,u,u,u,u,u,u,u,u,u,u,u,u,u,u,v,u]) (uI 34))) (uI 37)) rfl)) (aI (@unf (uI 24) (X (R [u,u] I) (uI 30)) rfl) (aI (@unf (uI 19) (X (R [u] (U (uI 24))) (F [v,u])) rfl) (@unf (uI 0) (R [u] (R [u] (X (R [u] (U (uI 9))) (uI 19)))) rfl)))))
theorem Uy:type_of% V140.down:=V140.down
theorem Ly:Bt 140 101 (uI 0) [(.cell 2 203)]:=bt Tryz.func140 rfl
def uE:=yy Tryz.f139
def V139:=PLift.up (aI (aI (aI (@unf (uE 15) (O (r [x,u,v,u])) rfl) (@unf (uE 9) (X (R [u,u,u,u] I) (uE 15)) rfl)) (aI (@unf (uE 33) (r [u,v,u]) rfl) (aI (@unf (uE 30) (X (O (r [x,u,u,u,u,u,u,u,v,u])) (uE 33)) rfl) (@unf (uE 24) (X (R [u,u] I) (uE 30)) rfl)))) (aI (aI (@unf (uE 19) (X (R [u] (U (uE 24))) (F [v,u])) rfl) (@unf (uE 17) (R [u,u,u,v,u] (uE 19)) rfl)) (aI (@unf (uE 4) (R [x,u,v,u] (X (U (uE 9)) (uE 17))) rfl) (aI (@unf (uE 2) (R [x,u,v,u] (uE 4)) rfl) (@unf (uE 0) (R [u] (uE 2)) rfl)))))
theorem Gv:type_of% V139.down:=V139.down
theorem Ig:Bt 139 37 (uE 0) [(.tmp 2)]:=bt Tryz.func139 rfl
def kA:=yy Tryz.f121
def V121:=PLift.up (aI (aI (aI (aI (@unf (kA 54) (r [u,u,v,u]) rfl) (@unf (kA 50) (R [v,u] (R [v,u] (kA 54))) rfl)) (aI (@unf (kA 46) (R [u,u,v,u] (R [v,u] (kA 50))) rfl) (aI (@unf (kA 42) (R [v,u] (R [v,u] (kA 46))) rfl) (@unf (kA 38) (R [u,u,u,u,u,u,u,u,u,u,u,u,u,u,u,u,u,u,u,v,u] (R [v,u] (kA 42))) rfl)))) (aI (aI (@unf (kA 55) (r [u,v,u]) rfl) (@unf (kA 34) (X (O (X (G [u,u,u,u,u,u,u,u,u,u,u,u,u,u,u,u,u,u,u,u,u,u,u,u,u,u,v,u]) (kA 38))) (kA 55)) rfl)) (aI (@unf (kA 28) (X (R [u,u] I) (kA 34)) rfl) (aI (@unf (kA 56) (r [u,u,u,u,u,u,u,u,u,u,u,u,u,u,u,u,u,u,u,u,u,u,u,u,u,u,u,u,u,u,u,u,v,u]) rfl) (@unf (kA 21) (X (G [u,v,u,v,u,v,u,v,u,v,u,v,u,v,u,v,u,u,u,u,u,u,u,u]) (X (R [u] (U (kA 28))) (kA 56))) rfl))))) (aI (aI (aI (@unf (kA 57) (r [u,v,u]) rfl) (@unf (kA 17) (X (O (R [u,u,u,u,u,v,u,u] (kA 21))) (kA 57)) rfl)) (aI (@unf (kA 11) (X (R [u,u,u,u] I) (kA 17)) rfl) (aI (@unf (kA 74) (r [u,v,u]) rfl) (@unf (kA 71) (X (O (r [u,u,u,u,u,u,u,u,u,u,v,u,u])) (kA 74)) rfl)))) (aI (aI (@unf (kA 65) (X (R [u,u] I) (kA 71)) rfl) (@unf (kA 60) (X (R [u] (U (kA 65))) (F [v,u])) rfl)) (aI (@unf (kA 4) (R [u,v,u] (X (R [u] (U (kA 11))) (R [u] (kA 60)))) rfl) (aI (@unf (kA 2) (R [v,u,u] (kA 4)) rfl) (@unf (kA 0) (R [u] (kA 2)) rfl))))))
theorem QV:type_of% V121.down:=V121.down
theorem LS:Bt 121 164 (kA 0) [(.cell 2 177)]:=bt Tryz.func121 rfl
def Zx:=yy Tryz.f137
def V137:=PLift.up (aI (aI (@unf (Zx 15) (X (O (r [x,u,u,u,u,v,u])) (r [u,v,u])) rfl) (@unf (Zx 9) (X (R [u,u] I) (Zx 15)) rfl)) (aI (@unf (Zx 4) (X (R [u] (U (Zx 9))) (F [u,v,u])) rfl) (@unf (Zx 0) (R [u,u] (R [u] (Zx 4))) rfl)))
theorem mD:type_of% V137.down:=V137.down
theorem Mf:Bt 137 17 (Zx 0) [(.tmp 2)]:=bt Tryz.func137 rfl
def oD:=yy Tryz.f136
def V136:=PLift.up (aI (aI (aI (@unf (oD 8) (r [u,u,u,v,u]) rfl) (@unf (oD 30) (T (r [u,u,v,u])) rfl)) (aI (@unf (oD 33) (r [x,u,u,u,u,v,u]) rfl) (@unf (oD 27) (X (R [u,u,u,u] (oD 30)) (oD 33)) rfl))) (aI (aI (@unf (oD 34) (r [u,v,u]) rfl) (@unf (oD 17) (X (R [u,u] I) (X (O (R [u] (oD 27))) (oD 34))) rfl)) (aI (@unf (oD 12) (X (R [u] (U (oD 17))) (F [v,u])) rfl) (aI (@unf (oD 4) (X (R [u,u,u] (T (oD 8))) (R [u] (oD 12))) rfl) (@unf (oD 0) (R [u] (R [v,u] (oD 4))) rfl)))))
theorem ic:type_of% V136.down:=V136.down
theorem Mr:Bt 136 35 (oD 0) [(.tmp 4)]:=bt Tryz.func136 rfl
def JF:=yy Tryz.f115
def V115:=PLift.up (aI (aI (@unf (JF 10) (F [u,u,v,u]) rfl) (aI (@unf (JF 8) (R [x,u,u,u,v,u] (JF 10)) rfl) (@unf (JF 6) (R [u,v,u] (JF 8)) rfl))) (aI (@unf (JF 4) (R [x,u,v,u] (JF 6)) rfl) (aI (@unf (JF 2) (R [u,v,u] (JF 4)) rfl) (@unf (JF 0) (R [u] (JF 2)) rfl))))
theorem fv:type_of% V115.down:=V115.down
theorem FS:Bt 115 22 (JF 0) [(.tmp 4)]:=bt Tryz.func115 rfl
def dt:=yy Tryz.f93
def V93:=PLift.up (aI (aI (@unf (dt 20) (r [u,v,u]) rfl) (aI (@unf (dt 17) (X (O (r [u,u,u,v,u,u])) (dt 20)) rfl) (@unf (dt 11) (X (R [u,u] I) (dt 17)) rfl))) (aI (@unf (dt 6) (X (R [u] (U (dt 11))) (F [v,u])) rfl) (aI (@unf (dt 2) (R [u,v,u,u] (R [v,u,u] (dt 6))) rfl) (@unf (dt 0) (R [u] (dt 2)) rfl))))
theorem Bd:type_of% V93.down:=V93.down
theorem b93:Bt 93 19 (dt 0) [(.cell 2 33)]:=bt Tryz.func93 rfl
def dB:=yy Tryz.f94
def V94:=PLift.up (aI (aI (@unf (dB 18) (r [u,v,u]) rfl) (aI (@unf (dB 15) (X (O (r [x,u,u,u,u,u,v,u])) (dB 18)) rfl) (@unf (dB 9) (X (R [u,u,u,u] I) (dB 15)) rfl))) (aI (@unf (dB 4) (X (R [u] (U (dB 9))) (F [v,u])) rfl) (aI (@unf (dB 2) (R [u,u,v,u] (dB 4)) rfl) (@unf (dB 0) (R [u] (dB 2)) rfl))))
theorem DD:type_of% V94.down:=V94.down
theorem b94:Bt 94 24 (dB 0) [(.tmp 4)]:=bt Tryz.func94 rfl
def Fp:=yy Tryz.f46
def V46:=PLift.up (aI (@unf (Fp 2) (F [u,u,u,v,u]) rfl) (@unf (Fp 0) (R [u] (Fp 2)) rfl))
theorem U46:type_of% V46.down:=V46.down
theorem b46:Bt 46 9 (Fp 0) [(.cell 4 33)]:=bt Tryz.func46 rfl
def pu:=yy Tryz.f47
def V47:=PLift.up (aI (aI (@unf (pu 15) (X (O (r [x,u,u,u,u,v,u])) (r [u,v,u])) rfl) (@unf (pu 9) (X (R [u,u] I) (pu 15)) rfl)) (aI (@unf (pu 4) (X (R [u] (U (pu 9))) (F [u,v,u])) rfl) (@unf (pu 0) (R [u,u] (R [u] (pu 4))) rfl)))
theorem ED:type_of% V47.down:=V47.down
theorem b47:Bt 47 17 (pu 0) [(.tmp 2)]:=bt Tryz.func47 rfl
def rq:=yy Tryz.f80
def V80:=PLift.up (aI (aI (@unf (rq 15) (X (O (r [u,u,u,v,u,u])) (r [u,v,u])) rfl) (@unf (rq 9) (X (R [u,u] I) (rq 15)) rfl)) (aI (@unf (rq 4) (X (R [u] (U (rq 9))) (F [v,u])) rfl) (@unf (rq 0) (R [u] (R [u] (rq 4))) rfl)))
theorem EM:type_of% V80.down:=V80.down
theorem b80:Bt 80 15 (rq 0) [(.cell 2 33)]:=bt Tryz.func80 rfl
def lU:=yy Tryz.f114
def V114:=PLift.up (aI (@unf (lU 2) (F [u,u,v,u]) rfl) (@unf (lU 0) (R [u] (lU 2)) rfl))
theorem U114:type_of% V114.down:=V114.down
theorem FN:Bt 114 6 (lU 0) [(.tmp 2)]:=bt Tryz.func114 rfl
def lj:=yy Tryz.f70
def V70:=PLift.up (aI (aI (@unf (lj 16) (r [u,v,u]) rfl) (@unf (lj 13) (X (O (G [u,u,u,u,u,u,u,u,v,u])) (lj 16)) rfl)) (aI (@unf (lj 7) (X (R [u,u,u] I) (lj 13)) rfl) (aI (@unf (lj 2) (X (R [v,u] (U (lj 7))) (F [v,u])) rfl) (@unf (lj 0) (R [u,u] (lj 2)) rfl))))
theorem BH:type_of% V70.down:=V70.down
theorem b70:Bt 70 28 (lj 0) [(.cell 10 33)]:=bt Tryz.func70 rfl
def EN:=yy Tryz.f71
def V71:=PLift.up (aI (@unf (EN 2) (F [u,u,u,u,u,u,u,v,u]) rfl) (@unf (EN 0) (R [u] (EN 2)) rfl))
theorem U71:type_of% V71.down:=V71.down
theorem b71:Bt 71 15 (EN 0) [(.cell 6 33)]:=bt Tryz.func71 rfl
def Qm:=yy Tryz.f101
def V101:=PLift.up (aI (aI (@unf (Qm 18) (r [u,v,u]) rfl) (aI (@unf (Qm 15) (X (O (r [u,u,u,u,u,u,u,u,u,v,u])) (Qm 18)) rfl) (@unf (Qm 9) (X (R [u,u] I) (Qm 15)) rfl))) (aI (aI (@unf (Qm 21) (F [u,u,u,v,u]) rfl) (@unf (Qm 19) (R [u,u,v,u,u] (Qm 21)) rfl)) (aI (@unf (Qm 2) (R [u] (X (R [u] (U (Qm 9))) (Qm 19))) rfl) (@unf (Qm 0) (R [u] (Qm 2)) rfl))))
theorem ZM:type_of% V101.down:=V101.down
theorem Ir:Bt 101 29 (Qm 0) [(.cell 4 33)]:=bt Tryz.func101 rfl
def Fq:=yy Tryz.f81
def V81:=PLift.up (aI (@unf (Fq 2) (X (G [u,u,u,u,u,v,u]) .ret) rfl) (@unf (Fq 0) (R [u,u,u] (Fq 2)) rfl))
theorem U81:type_of% V81.down:=V81.down
theorem b81:Bt 81 11 (Fq 0) [(.cell 4 33)]:=bt Tryz.func81 rfl
def QG:=yy Tryz.f62
def V62:=PLift.up (aI (aI (aI (@unf (QG 18) (r [u,v,u]) rfl) (aI (@unf (QG 15) (X (O (r [x,u,u,u,u,v,u])) (QG 18)) rfl) (@unf (QG 9) (X (R [u,u,u,u] I) (QG 15)) rfl))) (aI (aI (@unf (QG 50) (r [u,v,u]) rfl) (@unf (QG 47) (X (O (G [x,u,u,u,u,u,u,u,u,u,u,u,u,u,u,u,u,u,v,u])) (QG 50)) rfl)) (aI (@unf (QG 41) (X (R [u,u,u,u,u,u,u,u] I) (QG 47)) rfl) (@unf (QG 51) (r [x,u,u,v,u]) rfl)))) (aI (aI (@unf (QG 52) (r [u,v,u]) rfl) (aI (@unf (QG 32) (X (O (R [u] (X (R [u] (U (QG 41))) (QG 51)))) (QG 52)) rfl) (@unf (QG 26) (X (R [u,u,u] I) (QG 32)) rfl))) (aI (aI (@unf (QG 21) (X (R [u] (U (QG 26))) (F [v,u])) rfl) (@unf (QG 19) (R [u,v,u] (QG 21)) rfl)) (aI (@unf (QG 2) (R [u] (X (R [u] (U (QG 9))) (QG 19))) rfl) (@unf (QG 0) (R [u] (QG 2)) rfl)))))
theorem df:type_of% V62.down:=V62.down
theorem b62:Bt 62 64 (QG 0) [(.tmp 4)]:=bt Tryz.func62 rfl
def EX:=yy Tryz.f61
def V61:=PLift.up (aI (@unf (EX 2) (F [u,u,u,u,y 8,y 8,u,u,y 12,y 12,v,u]) rfl) (@unf (EX 0) (R [u] (EX 2)) rfl))
theorem U61:type_of% V61.down:=V61.down
theorem b61:Bt 61 16 (EX 0) [(.tmp 4)]:=bt Tryz.func61 rfl
def rj:=yy Tryz.f26
def V26:=PLift.up (aI (aI (@unf (rj 7) (T (F [v,u,u])) rfl) (@unf (rj 12) (F [u,u,u,u,u,u,u,v,u,u]) rfl)) (aI (@unf (rj 2) (R [u,u,v,u] (X (R [u,u] (rj 7)) (rj 12))) rfl) (@unf (rj 0) (R [u,u] (rj 2)) rfl)))
theorem AV:type_of% V26.down:=V26.down
theorem b26:Bt 26 21 (rj 0) [(.cell 4 33),(.tmp 5)]:=bt Tryz.func26 rfl
def lh:=yy Tryz.f11
def V11:=PLift.up (aI (aI (@unf (lh 5) (T (F [v,u,u])) rfl) (@unf (lh 15) (T (F [v,v,u,u])) rfl)) (aI (@unf (lh 20) (F [u,u,v,u,u]) rfl) (aI (@unf (lh 10) (R [u,u,u,u,v,v,u,u,u] (X (R [u,u] (lh 15)) (lh 20))) rfl) (@unf (lh 0) (R [u,u] (X (R [u,u] (lh 5)) (lh 10))) rfl))))
theorem AR:type_of% V11.down:=V11.down
theorem AN:Bt 11 24 (lh 0) [(.cell 4 35),(.tmp 5)]:=bt Tryz.func11 rfl
def y8:=yy Tryz.f8
def V8:=PLift.up (aI (aI (@unf (y8 15) (X (O (r [u,u,u,u,u,u,u,u,u,u,v,u])) (r [u,v,u])) rfl) (@unf (y8 9) (X (R [u,u] I) (y8 15)) rfl)) (aI (@unf (y8 4) (X (R [u] (U (y8 9))) (F [v,u])) rfl) (@unf (y8 0) (R [u] (R [u] (y8 4))) rfl)))
theorem U8:type_of% V8.down:=V8.down
theorem b8:Bt 8 21 (y8 0) [(.tmp 2)]:=bt Tryz.func8 rfl
end Go.Proofs.YtgopigkdcmhbbaaGreatDoor
end
section
namespace Go.Proofs.YtgopigkdcmhbbaaGreatDoor
open Go Go.Aw
variable {R:D->AH->Prop}
theorem um (hn:0<n) (hn2:n<32) (h:R (wD (rotr x n)) H):ACall Tryz.prog 141 [wD x,.i (n:Int)] H R:=by
 refine FR fun hf=>?_
 have hbig:=qk
 have e1:IntKind.i64.wrap (32 - (n:Int))=((32 - n:Nat):Int):=by rw [qi (by omega) (by omega)];omega
 simp+contextual only [↓U141,wD,e1,↓U141.1,↓XP,qp,qa,qb]
 rw [fZ,Nat.min_eq_left (by omega),Nat.min_eq_left (by omega),Wp x _ (by omega),WS x _ hn2,nX]
 exact h
theorem uc (c:UInt8):c.toUInt32.toNat=c.toNat:=UInt8.toNat_toUInt32 c
theorem U1 (x:W) (k:Nat) (hk:k<32) (h:x.toNat*2 ^ k<4294967296):(x<<<UInt32.ofNat k).toNat=x.toNat*2 ^ k:=by
 rw [UInt32.toNat_shiftLeft,Nat.shiftLeft_eq]
 have h2:(UInt32.ofNat k).toNat % 32=k:=by rw [UInt32.toNat_ofNat'];omega
 rw [h2]
 exact Nat.mod_eq_of_lt h
theorem gJ (x y:W) (i:Nat) (hx:x.toNat % 2 ^ i=0) (hy:y.toNat<2 ^ i):(x|||y).toNat=x.toNat+y.toNat:=by rw [UInt32.toNat_or];exact nat_join i _ _ hx hy
theorem pJ (m:List UInt8) (t:Nat):oB m t 4=((((m.getD (4*t) 0).toUInt32<<<24)|||((m.getD (4*t+1) 0).toUInt32<<<16))|||((m.getD (4*t+2) 0).toUInt32<<<8))|||(m.getD (4*t+3) 0).toUInt32:=by
 show ((((((((0:W)<<<8)|||(m.getD (4*t+0) 0).toUInt32)<<<8)|||(m.getD (4*t+1) 0).toUInt32)<<<8)|||(m.getD (4*t+2) 0).toUInt32)<<<8)|||(m.getD (4*t+3) 0).toUInt32=_
 rw [Nat.add_zero]
 generalize m.getD (4*t) 0=a
 generalize m.getD (4*t+1) 0=b
 generalize m.getD (4*t+2) 0=c
 generalize m.getD (4*t+3) 0=d
 have ha:=a.toNat_lt
 have hb:=b.toNat_lt
 have hc:=c.toNat_lt
 have hd:=d.toNat_lt
 have k8:∀x:W,x.toNat<16777216->(x<<<8).toNat=x.toNat*256:=fun x h=>U1 x 8 (by decide) (by omega)
 apply UInt32.toNat_inj.1
 have e0:(((0:W)<<<8)|||a.toUInt32).toNat=a.toNat:=by
  rw [gJ _ _ 8 (by rfl) (by rw [uc];exact ha),uc]
  show 0+a.toNat=a.toNat
  omega
 have e1:((((0:W)<<<8)|||a.toUInt32)<<<8|||b.toUInt32).toNat=a.toNat*256+b.toNat:=by
  rw [gJ _ _ 8 (by rw [k8 _ (by rw [e0];omega)];omega) (by rw [uc];exact hb),k8 _ (by rw [e0];omega),e0,uc]
 have e2:(((((0:W)<<<8)|||a.toUInt32)<<<8|||b.toUInt32)<<<8|||c.toUInt32).toNat=(a.toNat*256+b.toNat)*256+c.toNat:=by
  rw [gJ _ _ 8 (by rw [k8 _ (by rw [e1];omega)];omega) (by rw [uc];exact hc),k8 _ (by rw [e1];omega),e1,uc]
 have f0:(a.toUInt32<<<24).toNat=a.toNat*16777216:=by rw [show (24:W)=UInt32.ofNat 24 from rfl,U1 _ 24 (by decide) (by rw [uc];omega),uc]
 have f1:(b.toUInt32<<<16).toNat=b.toNat*65536:=by rw [show (16:W)=UInt32.ofNat 16 from rfl,U1 _ 16 (by decide) (by rw [uc];omega),uc]
 have f2:(c.toUInt32<<<8).toNat=c.toNat*256:=by rw [k8 _ (by rw [uc];omega),uc]
 have g1:(a.toUInt32<<<24|||b.toUInt32<<<16).toNat=a.toNat*16777216+b.toNat*65536:=by rw [gJ _ _ 24 (by rw [f0];omega) (by rw [f1];omega),f0,f1]
 have g2:(a.toUInt32<<<24|||b.toUInt32<<<16|||c.toUInt32<<<8).toNat=a.toNat*16777216+b.toNat*65536+c.toNat*256:=by rw [gJ _ _ 16 (by rw [g1];omega) (by rw [f2];omega),g1,f2]
 rw [gJ _ _ 8 (by rw [k8 _ (by rw [e2];omega)];omega) (by rw [uc];exact hd),k8 _ (by rw [e2];omega),e2,gJ _ _ 8 (by rw [g2];omega) (by rw [uc];exact hd),g2]
 omega
theorem Y1 {l:List UInt8} {i:Nat} (h:i<l.length):(l.map ql).getD i []= [.int .u8 ((l.getD i 0).toNat:Int)]:=by
 simp [List.getD,Nb h,ql]
theorem E9 (x:W):IntKind.u32.wrap ((x.toNat:Int)*2 ^ min 24 IntKind.u32.bits)=((x<<<24).toNat:Int):=Wp x 24 (by decide)
theorem Ev (x:W):IntKind.u32.wrap ((x.toNat:Int)*2 ^ min 16 IntKind.u32.bits)=((x<<<16).toNat:Int):=Wp x 16 (by decide)
theorem Eh (x:W):IntKind.u32.wrap ((x.toNat:Int)*2 ^ min 8 IntKind.u32.bits)=((x<<<8).toNat:Int):=Wp x 8 (by decide)
theorem D8 (x:W):((x.toNat:Int)).fdiv (2 ^ min 3 IntKind.u32.bits)=((x>>>3).toNat:Int):=WS x 3 (by decide)
theorem tb (x:W):((x.toNat:Int)).fdiv (2 ^ min 10 IntKind.u32.bits)=((x>>>10).toNat:Int):=WS x 10 (by decide)
theorem nV {m:List UInt8} {H:AH} (hm:m.length=64) (h:R (.agg ((wo m 64).map wD)) H):ACall Tryz.prog 140 [.slc (m.map ql)] H R:=by
 refine Ly fun hf=>?_
 have hbig:=qk
 simp+contextual only [↓Uy,↓XP,qh,XW1,qa]
 intro b hb b1 hb1
 obtain ⟨n1,f1⟩:=hb1
 refine XW.loopS hmm 101 (fun t:Nat=>[(0,.slc (m.map ql)),(2,.ptr b 0),(3,.ptr b1 0),(4,.i ((t:Nat):Int))]) (fun t=>(b1,.cells (arr (wo m t)))::(b,.cells (arr []))::H) (fun t=>16 - t) (fun t=>t<=16) 0 (by omega) ⟨rfl,rfl,rfl,rfl,rfl,trivial⟩ rfl ?_
 intro t z ht K hN hE hR
 dsimp only [fl,zz,qa,qb]
 by_cases hlt:t<16
 ·have hlt':((t:Int)<16)=True:=qo
  have v0:IntKind.i64.wrap (4*(t:Int))=((4*t:Nat):Int):=by rw [qi (by omega) (by omega)];omega
  have v1:IntKind.i64.wrap (((4*t:Nat):Int)+1)=((4*t+1:Nat):Int):=by rw [qi (by omega) (by omega)];omega
  have v2:IntKind.i64.wrap (((4*t:Nat):Int)+2)=((4*t+2:Nat):Int):=by rw [qi (by omega) (by omega)];omega
  have v3:IntKind.i64.wrap (((4*t:Nat):Int)+3)=((4*t+3:Nat):Int):=by rw [qi (by omega) (by omega)];omega
  have q0:=Y1 (l:=m) (i:=4*t) (by omega)
  have q1:=Y1 (l:=m) (i:=4*t+1) (by omega)
  have q2:=Y1 (l:=m) (i:=4*t+2) (by omega)
  have q3:=Y1 (l:=m) (i:=4*t+3) (by omega)
  have al:(arr (wo m t)).length=64:=JQ (by rw [jo];omega)
  have g3:=VT (l:=wo m t) (y:=oB m t 4) (by rw [jo];omega)
  rw [jo,pJ] at g3
  have hw:wo m t++ [oB m t 4]=wo m (t+1):=by rw [wo,Uh,if_pos hlt]
  rw [pJ] at hw
  rw [hw] at g3
  simp+contextual only [Nat.mul_one,Nv,Nw,Ng,aG,nX,hlt',v0,v1,v2,v3,q0,q1,q2,q3,hm,pI,E9,Ev,Eh,al,↓Uy,↓XP,qh,XW1]
  unfold wD at g3
  rw [qj (by omega),g3]
  exact ⟨by omega,by omega,by omega,by omega,by omega,by omega,hN (t+1) _ _ (by omega) (by omega) ⟨rfl,rfl,rfl,rfl,rfl,trivial⟩ (qz rfl)⟩
 ·obtain rfl:t=16:=by omega
  have hlt':(((16:Nat):Int)<16)=False:=eq_false (by decide)
  simp+contextual only [Ng,↓Uy,↓XP,qp]
  apply hE
  simp+contextual only [↓Uy,↓XP,qp,XW1]
  refine XW.loopS hmm 101 (fun t:Nat=>[(2,.ptr b 0),(3,.ptr b1 0),(5,.i ((t:Nat):Int))]) (fun t=>(b1,.cells (arr (wo m t)))::(b,.cells (arr []))::H) (fun t=>64 - t) (fun t=>16<=t∧t<=64) 16 ⟨by omega,by omega⟩ ⟨rfl,rfl,rfl,rfl,trivial⟩ rfl ?_
  rintro t z ⟨ht1,ht⟩ K hN hE hR
  dsimp only [fl,zz,qa,qb]
  by_cases hlt:t<64
  ·have hlt':((t:Int)<64)=True:=qo
   have v15:IntKind.i64.wrap ((t:Int) - 15)=((t - 15:Nat):Int):=by rw [qi (by omega) (by omega)];omega
   have v2:IntKind.i64.wrap ((t:Int) - 2)=((t - 2:Nat):Int):=by rw [qi (by omega) (by omega)];omega
   have v16:IntKind.i64.wrap ((t:Int) - 16)=((t - 16:Nat):Int):=by rw [qi (by omega) (by omega)];omega
   have v7:IntKind.i64.wrap ((t:Int) - 7)=((t - 7:Nat):Int):=by rw [qi (by omega) (by omega)];omega
   have c15:(((t - 15:Nat):Int)<64)=True:=qo
   have c2:(((t - 2:Nat):Int)<64)=True:=qo
   have c16:(((t - 16:Nat):Int)<64)=True:=qo
   have c7:(((t - 7:Nat):Int)<64)=True:=qo
   have g15:=vr (l:=wo m t) (i:=t - 15) (by rw [jo];omega)
   have g2:=vr (l:=wo m t) (i:=t - 2) (by rw [jo];omega)
   have g16:=vr (l:=wo m t) (i:=t - 16) (by rw [jo];omega)
   have g7:=vr (l:=wo m t) (i:=t - 7) (by rw [jo];omega)
   have al:(arr (wo m t)).length=64:=JQ (by rw [jo];omega)
   have hw:wo m (t+1)=wo m t++ [(wo m t).getD (t - 16) 0+tf ((wo m t).getD (t - 15) 0)+(wo m t).getD (t - 7) 0+sQ ((wo m t).getD (t - 2) 0)]:=by rw [wo,Uh,if_neg (by omega)]
   have g3:=VT (l:=wo m t) (y:=(wo m t).getD (t - 16) 0+tf ((wo m t).getD (t - 15) 0)+(wo m t).getD (t - 7) 0+sQ ((wo m t).getD (t - 2) 0)) (by rw [jo];exact hlt)
   rw [jo,<-hw] at g3
   unfold tf sQ wD at g3
   simp+contextual only [wD,Nat.mul_one,Ng,yw,hlt',v15,c15,g15,↓Uy,↓XP,qh,XW1]
   refine ⟨_,fun _ _=>um (n:=7) (by decide) (by decide) ⟨rfl,rfl⟩,?_⟩
   simp+contextual only [wD,Nat.mul_one,Ng,yw,v15,c15,g15,↓XP,qh,XW1]
   refine ⟨_,fun _ _=>um (n:=18) (by decide) (by decide) ⟨rfl,rfl⟩,?_⟩
   simp+contextual only [wD,Nat.mul_one,Nv,Nw,Ng,yw,ub,v15,c15,g15,v2,c2,g2,D8,↓Uy,↓XP,qh,XW1]
   refine ⟨_,fun _ _=>um (n:=17) (by decide) (by decide) ⟨rfl,rfl⟩,?_⟩
   simp+contextual only [wD,Nat.mul_one,Ng,yw,v2,c2,g2,↓XP,qh,XW1]
   refine ⟨_,fun _ _=>um (n:=19) (by decide) (by decide) ⟨rfl,rfl⟩,?_⟩
   simp+contextual only [wD,Nat.mul_one,Nv,Nw,Ng,yw,ub,zf,hlt',v2,c2,g2,v16,c16,g16,v7,c7,g7,tb,al,↓Uy,↓XP,qh,XW1]
   rw [qj (by omega),g3]
   exact ⟨hlt,hN (t+1) _ _ ⟨by omega,by omega⟩ (by omega) ⟨rfl,rfl,rfl,rfl,trivial⟩ (qz rfl)⟩
  ·obtain rfl:t=64:=by omega
   have hlt':(((64:Nat):Int)<64)=False:=eq_false (by decide)
   simp+contextual only [Ng,↓Uy,↓XP,qp]
   apply hE
   simp+contextual only [qg,qm,n1,UU (jo m 64),wt (jo m 64),wv,Zu,jo,↓XP,qh,XW1]
   exact ⟨Nt _,h⟩
theorem lz (l:List UInt8):l.map ql++ [[.int .u8 0]]=(l++ [0]).map ql:=V9 l 0
theorem cE (l:List UInt8):l.map ql++ [[.int .u8 128]]=(l++ [128]).map ql:=V9 l 128
def pz (m:List UInt8) (j:Nat):List UInt8:=m++128::List.replicate j 0
theorem Gu (m:List UInt8) (j:Nat):(pz m j).length=m.length+(j+1):=by simp [pz]
theorem AE (m:List UInt8) (j:Nat):pz m j++ [0]=pz m (j+1):=by simp [pz,List.replicate_succ']
def pe (m:List UInt8) (i:Nat):List UInt8:=pz m (zP m.length)++(List.range i).map fun k=>pL (8*m.length) (56 - 8*k)
theorem xR (m:List UInt8) (i:Nat):(pe m i).length=m.length+(zP m.length+1)+i:=by simp [pe,Gu]
theorem A4 (m:List UInt8) (i:Nat):pe m i++ [pL (8*m.length) (56 - 8*i)]=pe m (i+1):=by simp [pe,N3]
theorem Ip (m:List UInt8):pz m (zP m.length)=pe m 0:=by simp [pe]
theorem Mu (m:List UInt8):pe m 8=m++Qe m.length:=by
 unfold pe pz Qe
 rw [Np,List.cons_append]
theorem ct (hm:m.length<=4294967296) (h:R (.own ((m++Qe m.length).map ql)) H):ACall Tryz.prog 139 [.slc (m.map ql)] H R:=by
 refine Ig fun hf=>?_
 have hbig:=qk
 have hz:zP m.length<64:=Nat.mod_lt _ (by decide)
 simp+contextual only [↓Gv,Nat.mul_one,cE,N5,↓Gv,↓XP,qh,XW1,qa,qe]
 refine ⟨Vn _,by omega,Vn _,by omega,?_⟩
 refine XW.loopS hmm 37 (fun j:Nat=>[(0,.slc (m.map ql)),(3,.own ((pz m ((j:Nat))).map ql))]) (fun _=>H) (fun j=>zP m.length - j) (fun j=>j<=zP m.length) 0 (Nat.zero_le _) ⟨rfl,rfl,rfl,trivial⟩ rfl ?_
 intro j z hj K hN hE hR
 dsimp only [fl,zz,qa,qb]
 have w2:IntKind.i64.wrap ((m.length+(j+1):Nat):Int)=((m.length+(j+1):Nat):Int):=qi (by omega) (by omega)
 have w3:((m.length+(j+1):Nat):Int).tmod 64=(((m.length+(j+1)) % 64:Nat):Int):=by rw [Int.tmod_eq_emod_of_nonneg (Nl _)];omega
 by_cases hlt:j<zP m.length
 ·have ht:decide ((((m.length+(j+1)) % 64:Nat):Int)=56)=false:=decide_eq_false (by unfold zP at hlt;omega)
  simp+contextual only [Nat.mul_one,lz,w3,ht,Gu,AE,↓Gv,↓XP,qh,XW1,qe]
  exact fun _=>⟨by decide,Vn _,by omega,hN (j+1) _ _ (by omega) (by omega) ⟨rfl,rfl,rfl,trivial⟩ (qz rfl)⟩
 ·have hj2:j=zP m.length:=by omega
  have ht:decide ((((m.length+(j+1)) % 64:Nat):Int)=56)=true:=decide_eq_true (by rw [hj2];unfold zP;omega)
  simp+contextual only [w3,ht,Gu,↓Gv,↓XP,qh,XW1]
  refine fun _=>⟨by decide,?_⟩
  apply hE
  have w5:IntKind.u64.wrap (m.length:Int)=(m.length:Int):=KX (by omega) (by omega)
  have w6:IntKind.u64.wrap (8*(m.length:Int))=((8*m.length:Nat):Int):=by rw [KX (by omega) (by omega)];omega
  rw [hj2,Ip]
  simp+contextual only [w5,w6,↓Gv,↓XP,qh,XW1]
  refine fun _=>?_
  refine XW.loopS hmm 37 (fun i:Nat=>[(3,.own ((pe m ((i:Nat))).map ql)),(4,.int .u64 ((8*m.length:Nat):Int)),(5,.i (i:Int))]) (fun _=>H) (fun i=>8 - i) (fun i=>i<=8) 0 (Nat.zero_le _) ⟨rfl,rfl,rfl,rfl,trivial⟩ rfl ?_
  intro i z hi K hN hE hR
  dsimp only [fl,zz,qa,qb]
  by_cases hlt:i<8
  ·have hlt':((i:Int)<8)=True:=qo
   have v4:IntKind.i64.wrap (8*(i:Int))=((8*i:Nat):Int):=by rw [qi (by omega) (by omega)];omega
   have v5:IntKind.i64.wrap (56 - ((8*i:Nat):Int))=((56 - 8*i:Nat):Int):=by rw [qi (by omega) (by omega)];omega
   have v6:min (56 - 8*i) IntKind.u64.bits=56 - 8*i:=Nat.min_eq_left (by show _<=64;omega)
   simp+contextual only [Nat.mul_one,V9,hlt',v4,v5,v6,GM,xR,A4,↓Gv,↓XP,qh,XW1,qe]
   rw [qj (by omega)]
   exact ⟨Vn _,by omega,hN (i+1) _ _ (by omega) (by omega) ⟨rfl,rfl,rfl,rfl,trivial⟩ (qz rfl)⟩
  ·have hi8:i=8:=by omega
   have hlt':((i:Int)<8)=False:=qy
   simp+contextual only [hlt',↓Gv,↓XP,qp]
   apply hE
   rw [hi8,Mu]
   simp+contextual only [Ng,↓XP,qp,XW1]
   exact h
def Kst0 (H:AH):Prop:=qn H 0=some (.cst kD)
theorem Kst0.sub (h:Kst0 H) (hs:Sub H H1):Kst0 H1:=by
 obtain ⟨o',g1,g2⟩:=hs _ _ h
 rcases g2 with g2|g2
 ·rw [<-g2] at g1;exact g1
 ·cases o' with
  |cst cs=>injection g2 with g2;rw [<-g2] at g1;exact g1
  |_=>simp [Up] at g2
theorem Kst0.push (h:Kst0 H) (hb:qH H b):Kst0 ((b,o)::H):=(qg (qO hb h)).trans h
theorem mi (h:t<64):kD[t]?=some (wD (kW.getD t 0)):=by
 have h2:t<kW.length:=by rw [VA];exact h
 simp [kD,List.getD,Nb h2]
theorem rR {mp:List UInt8} {s:S8} {ws:List W} {b2 b3 b6 a5:Nat} {H:AH} {F:List D} (hg:Kst0 H) (hw6:qn H b6=some (.cells (ws.map wD))) (hwl:ws.length=64) (hF:Fr 164 [(2,.ptr b2 0),(3,.ptr b3 0),(4,.own (mp.map ql)),(5,.i (a5:Int)),(6,.ptr b6 0),(7,wD s.a),(8,wD s.b),(9,wD s.c),(10,wD s.d),(11,wD s.e),(12,wD s.f),(13,wD s.g),(14,wD s.h),(15,.i 0)] F) {Q:AQ}
  (hQ:∀F' t r,t=64->rnds s ws t=r->Fr 164 [(2,.ptr b2 0),(3,.ptr b3 0),(4,.own (mp.map ql)),(5,.i (a5:Int)),(7,wD r.a),(8,wD r.b),(9,wD r.c),(10,wD r.d),(11,wD r.e),(12,wD r.f),(13,wD r.g),(14,wD r.h)] F'->Q (.exit 2) F' H):XW Tryz.prog (kA 28) F H Q:=by
 have hbig:=qk
 refine XW.loopS hmm 164 (fun t:Nat=>[(2,.ptr b2 0),(3,.ptr b3 0),(4,.own (mp.map ql)),(5,.i (a5:Int)),(6,.ptr b6 0),(7,wD (rnds s ws t).a),(8,wD (rnds s ws t).b),(9,wD (rnds s ws t).c),(10,wD (rnds s ws t).d),(11,wD (rnds s ws t).e),(12,wD (rnds s ws t).f),(13,wD (rnds s ws t).g),(14,wD (rnds s ws t).h),(15,.i ((t:Nat):Int))]) (fun _=>H) (fun t=>64 - t) (fun t=>t<=64) 0 (Nat.zero_le _) hF rfl ?_
 intro t z ht K hN hE hR
 have hr1:rnds s ws (t+1)=rnd (rnds s ws t) (kW.getD t 0) (ws.getD t 0):=rfl
 have hr0:rnds s ws t=rnds s ws t:=rfl
 dsimp only [fl,zz,qa,qb]
 generalize hrr:rnds s ws t=r at hr1
 by_cases hlt:t<64
 ·have hlt':((t:Int)<64)=True:=qo
  have hk:=mi hlt
  have hw:(ws.map wD)[t]?=some (wD (ws.getD t 0)):=by
   have h2:t<ws.length:=by omega
   simp [List.getD,List.getElem?_map,Nb h2]
  have hg':qn H 0=some (.cst kD):=hg
  have hx:(0xffffffff:W).toNat=4294967295:=rfl
  have hx2:∀x:W,bits .xor .u32 (x.toNat:Int) 4294967295=((x ^^^ 0xffffffff).toNat:Int):=fun x=>ub x 0xffffffff
  generalize kW.getD t 0=kk at hk hr1
  generalize ws.getD t 0=ww at hw hr1
  simp+contextual only [wD,hlt',↓QV,↓XP,qp]
  refine ⟨_,fun _ _=>um (n:=6) (by decide) (by decide) ⟨rfl,rfl⟩,?_⟩
  simp+contextual only [wD,yw,↓XP,qp,XW1]
  refine ⟨_,fun _ _=>um (n:=11) (by decide) (by decide) ⟨rfl,rfl⟩,?_⟩
  simp+contextual only [wD,yw,ub,↓XP,qp,XW1]
  refine ⟨_,fun _ _=>um (n:=25) (by decide) (by decide) ⟨rfl,rfl⟩,?_⟩
  simp+contextual only [wD,Nat.mul_one,Ng,yw,ub,ai,zf,hlt',hg',hw6,hk,hw,hx2,↓QV,↓XP,qh,XW1,↓XH]
  refine um (n:=2) (by decide) (by decide) ?_
  simp+contextual only [wD,yw,↓XP,qp,XW1]
  refine um (n:=13) (by decide) (by decide) ?_
  simp+contextual only [wD,yw,ub,↓XP,qp,XW1]
  refine um (n:=22) (by decide) (by decide) ?_
  simp+contextual only [wD,yw,ub,ai,zf,↓QV,↓XP,qp,XW1]
  rw [qj (by omega)]
  refine hN (t+1) _ _ (by omega) (by omega) ?_ (qz rfl)
  show Fr 164 [(2,.ptr b2 0),(3,.ptr b3 0),(4,.own (mp.map ql)),(5,.i (a5:Int)),(6,.ptr b6 0),(7,wD (rnds s ws (t+1)).a),(8,wD (rnds s ws (t+1)).b),(9,wD (rnds s ws (t+1)).c),(10,wD (rnds s ws (t+1)).d),(11,wD (rnds s ws (t+1)).e),(12,wD (rnds s ws (t+1)).f),(13,wD (rnds s ws (t+1)).g),(14,wD (rnds s ws (t+1)).h),(15,.i ((t+1:Nat):Int))] _
  rw [hr1]
  exact ⟨rfl,rfl,rfl,rfl,rfl,rfl,rfl,rfl,rfl,rfl,rfl,rfl,rfl,rfl,rfl,trivial⟩
 ·have ht64:t=64:=by omega
  have hlt':((t:Int)<64)=False:=qy
  simp+contextual only [wD,hlt',↓QV,↓XP,qp]
  exact hE _ _ _ (hQ _ t r ht64 hrr ⟨rfl,rfl,rfl,rfl,rfl,rfl,rfl,rfl,rfl,rfl,rfl,rfl,rfl,trivial⟩)
def zh (st:S8) (m:List UInt8):Nat->S8
 |0=>st
 |k+1=>uf (zh st m k) ((m.drop (64*k)).take 64)
def gD (m:List UInt8):List UInt8:=Ki (zh iv (m++Qe m.length) ((m.length+zP m.length+9) / 64))
theorem zi (m:List UInt8):(gD m).length=32:=KW _
theorem xM {l:List UInt8} {a:Nat}:((l.map ql).take (a+64)).drop a=((l.drop a).take 64).map ql:=by
 rw [<-List.map_take,<-List.map_drop,List.drop_take,show a+64 - a=64 by omega]
theorem Gk {m:List UInt8} {H:AH} (hg:Kst0 H) (hm:m.length<=4294967296) (h:R (.agg (jf (gD m))) H):ACall Tryz.prog 121 [.slc (m.map ql)] H R:=by
 refine LS fun hf=>?_
 have hbig:=qk
 simp+contextual only [↓QV,↓QV,↓XP,qh,XW1,qa,qb,qe]
 intro b2 h2 b3 h3
 obtain ⟨n32,f3⟩:=h3
 refine ct hm ?_
 have hmpl:(m++Qe m.length).length=m.length+zP m.length+9:=by rw [Ni,Kk];omega
 have hz:zP m.length<64:=Nat.mod_lt _ (by decide)
 have hdiv:(m.length+zP m.length+9) % 64=0:=by unfold zP;omega
 rw [show gD m=Ki (zh iv (m++Qe m.length) ((m.length+zP m.length+9) / 64)) from rfl] at h
 generalize m++Qe m.length=mp at hmpl h
 simp+contextual only [↓XP,qp]
 intro _
 refine XW.loopS hmm 164 (fun k:Nat=>[(2,.ptr b2 0),(3,.ptr b3 0),(4,.own (mp.map ql)),(5,.i ((64*k:Nat):Int))]) (fun k=>(b3,.cells (zh iv mp k).D)::(b2,.cells (barr 32 []))::H) (fun k=>(m.length+zP m.length+9) / 64 - k) (fun k=>k<=(m.length+zP m.length+9) / 64) 0 (Nat.zero_le _) ⟨rfl,rfl,rfl,rfl,rfl,trivial⟩ rfl ?_
 intro k z hk K hN hE hR
 dsimp only [fl,zz,qa,qb]
 have hr1:zh iv mp (k+1)=uf (zh iv mp k) ((mp.drop (64*k)).take 64):=rfl
 have hr0:k=(m.length+zP m.length+9) / 64->zh iv mp ((m.length+zP m.length+9) / 64)=zh iv mp k:=fun e=>by rw [e]
 by_cases hlt:k<(m.length+zP m.length+9) / 64
 ·have hlt':(((64*k:Nat):Int)<(mp.length:Int))=True:=qo
  have v1:IntKind.i64.wrap (((64*k:Nat):Int)+64)=((64*k+64:Nat):Int):=by rw [qi (by omega) (by omega)];omega
  have hbl:((mp.drop (64*k)).take 64).length=64:=by rw [N2,List.length_drop];omega
  obtain ⟨bl,hbe⟩:∃bl,(mp.drop (64*k)).take 64=bl:=⟨_,rfl⟩
  rw [hbe] at hr1 hbl
  generalize zh iv mp k=s at hr1
  simp+contextual only [hlt',v1,xM,hbe,↓QV,↓XP,qh]
  refine fun _=>⟨Vn _,by omega,by omega,nV hbl ?_⟩
  have hwl:=jo bl 64
  obtain ⟨c,hc⟩:∃c,uf s bl=c:=⟨_,rfl⟩
  rw [hc] at hr1
  rw [uf] at hc
  generalize wo bl 64=ws at hwl hc
  simp+contextual only [Nat.mul_one,Ny,Ng,hwl,↓QV,↓XP,qh,XW1,qb]
  intro b6 h6
  obtain ⟨n63,n62,f6⟩:=h6
  have hsd:s.D= [wD s.a,wD s.b,wD s.c,wD s.d,wD s.e,wD s.f,wD s.g,wD s.h]:=rfl
  simp+contextual only [wD,Nat.mul_one,Nv,Nw,Ny,Ng,yw,hsd,qg,n63,↓XP,qh,XW1]
  refine rR (s:=s) (ws:=ws) (a5:=64*k) (b6:=b6) (((Kst0.push hg h2).push ⟨Ne.symm n32,f3⟩).push ⟨Ne.symm n63,Ne.symm n62,f6⟩) ji hwl ⟨rfl,rfl,rfl,rfl,rfl,rfl,rfl,rfl,rfl,rfl,rfl,rfl,rfl,rfl,rfl,trivial⟩ fun F' t r ht64 hr hF'=>?_
  rw [ht64] at hr
  rw [hr] at hc
  obtain ⟨z,rfl⟩:=hF'.lit
  show kU 2 _ (.exit 2) [z 0,z 1,.ptr b2 0,.ptr b3 0,.own (mp.map ql),.i ((64*k:Nat):Int),z 6,wD r.a,wD r.b,wD r.c,wD r.d,wD r.e,wD r.f,wD r.g,wD r.h,z 15,z 16,z 17,z 18,z 19,z 20,z 21,z 22,z 23,z 24,z 25,z 26,z 27,z 28,z 29,z 30,z 31,z 32,z 33,z 34,z 35,z 36,z 37,z 38,z 39,z 40,z 41,z 42,z 43,z 44,z 45,z 46,z 47,z 48,z 49,z 50,z 51,z 52,z 53,z 54,z 55,z 56,z 57,z 58,z 59,z 60,z 61,z 62,z 63,z 64,z 65,z 66,z 67,z 68,z 69,z 70,z 71,z 72,z 73,z 74,z 75,z 76,z 77,z 78,z 79,z 80,z 81,z 82,z 83,z 84,z 85,z 86,z 87,z 88,z 89,z 90,z 91,z 92,z 93,z 94,z 95,z 96,z 97,z 98,z 99,z 100,z 101,z 102,z 103,z 104,z 105,z 106,z 107,z 108,z 109,z 110,z 111,z 112,z 113,z 114,z 115,z 116,z 117,z 118,z 119,z 120,z 121,z 122,z 123,z 124,z 125,z 126,z 127,z 128,z 129,z 130,z 131,z 132,z 133,z 134,z 135,z 136,z 137,z 138,z 139,z 140,z 141,z 142,z 143,z 144,z 145,z 146,z 147,z 148,z 149,z 150,z 151,z 152,z 153,z 154,z 155,z 156,z 157,z 158,z 159,z 160,z 161,z 162,z 163] _
  simp+contextual only [wD,Nat.mul_one,Nv,Nw,Ny,Ng,yw,zf,qg,qm,n63,↓QV,↓XP,qh,XW1,qb,qe,qf]
  rw [v1]
  refine hN (k+1) _ _ (by omega) (by omega) ⟨rfl,rfl,rfl,rfl,rfl,trivial⟩ ?_
  show back _ _=(b3,AO.cells (zh iv mp (k+1)).D)::(b2,AO.cells (barr 32 []))::H
  rw [hr1,<-hc]
  exact kK rfl
 ·have hkn:k=(m.length+zP m.length+9) / 64:=by omega
  have hlt':(((64*k:Nat):Int)<(mp.length:Int))=False:=qy
  rw [<-hkn] at h
  generalize zh iv mp k=s at h
  simp+contextual only [hlt',↓QV,↓XP,qh]
  refine fun _=>?_
  apply hE
  simp+contextual only [↓QV,↓XP,qh,XW1]
  intro b8 h8
  obtain ⟨n83,n82,f8⟩:=h8
  refine XW.loopS hmm 164 (fun i:Nat=>[(2,.ptr b2 0),(3,.ptr b3 0),(18,.ptr b8 0),(19,.i ((i:Nat):Int))]) (fun i=>(b8,.cells (barr 32 (J1 s i)))::(b3,.cells s.D)::(b2,.cells (barr 32 []))::H) (fun i=>32 - i) (fun i=>i<=32) 0 (Nat.zero_le _) ⟨rfl,rfl,rfl,rfl,rfl,trivial⟩ rfl ?_
  intro i z hi K hN hE hR
  dsimp only [fl,zz,qa,qb]
  by_cases hlt:i<32
  ·have hlt':((i:Int)<32)=True:=qo
   have x1:IntKind.i64.wrap ((i:Int).tdiv 4)=((i / 4:Nat):Int):=by rw [Int.tdiv_eq_ediv_of_nonneg (Nl _),qi (by omega) (by omega)];omega
   have x2:(i:Int).tmod 4=((i % 4:Nat):Int):=by rw [Int.tmod_eq_emod_of_nonneg (Nl _)];omega
   have x3:IntKind.i64.wrap (8*((i % 4:Nat):Int))=((8*(i % 4):Nat):Int):=by rw [qi (by omega) (by omega)];omega
   have x4:IntKind.i64.wrap (24 - ((8*(i % 4):Nat):Int))=((24 - 8*(i % 4):Nat):Int):=by rw [qi (by omega) (by omega)];omega
   have x5:min (24 - 8*(i % 4)) IntKind.u32.bits=24 - 8*(i % 4):=Nat.min_eq_left (by show _<=32;omega)
   have x6:=S8.get s (j:=i / 4) (by omega)
   have x7:(barr 32 (J1 s i)).length=32:=gZ (by rw [uS];omega)
   have x8:=Kl (n:=32) (l:=J1 s i) (c:=ZE s i) (by rw [uS];exact hlt)
   have x9:(((i / 4:Nat):Int)<8)=True:=qo
   rw [uS,Wk] at x8
   unfold bD ZE at x8
   simp+contextual only [wD,Nat.mul_one,Ng,yw,qg,n83,hlt',x1,x2,x3,x4,x5,x6,x7,x8,x9,GM,↓QV,↓XP,qh,XW1]
   rw [qj (by omega)]
   exact ⟨by decide,by decide,hlt,hN (i+1) _ _ (by omega) (by omega) ⟨rfl,rfl,rfl,rfl,rfl,trivial⟩ (qz rfl)⟩
  ·have hi32:i=32:=by omega
   have hlt':((i:Int)<32)=False:=qy
   simp+contextual only [hlt',↓QV,↓XP,qp]
   apply hE
   have ho:J1 s i=Ki s:=by rw [hi32];rfl
   have hol:(Ki s).length=32:=KW s
   have hob:=zy hol
   rw [ho]
   simp+contextual only [qg,qm,n32,n82,hob,qt,hol,qI hol,j3,show (barr 32 []).drop 32= [] from rfl,show (barr 32 []).length=32 from rfl,↓XP,qh,XW1]
   exact h
structure Id3 where
 o:Int
 s:Int
 i:Int
 deriving DecidableEq
structure Rf where
 o:Int
 s:Int
 deriving DecidableEq
structure OpP where
 k:Int
 on:Id3
 to:Id3
 ids:List Id3
 n:Int
 name:List UInt8
 text:List UInt8
 a:Int
 b:Int
 deriving DecidableEq
structure Pt where
 o:Int
 s:Int
 day:Int
 needs:List Rf
 ops:List OpP
 sl:List UInt8
 deriving DecidableEq
def Ja:Id3:=⟨0,0,0⟩
def yB:OpP:=⟨0,Ja,Ja,[],0,[],[],0,0⟩
def pt0:Pt:=⟨0,0,0,[],[],[]⟩
instance:Inhabited Id3:=⟨Ja⟩
instance:Inhabited Rf:=⟨⟨0,0⟩⟩
instance:Inhabited OpP:=⟨yB⟩
instance:Inhabited Pt:=⟨pt0⟩
def Id3.d (x:Id3):List D:= [.i x.o,.i x.s,.i x.i]
def Rf.d (x:Rf):List D:= [.i x.o,.i x.s]
def j5 (l:List Id3):List (List D):=l.map Id3.d
def qv (l:List Rf):List (List D):=l.map Rf.d
def OpP.d (x:OpP):List D:= [.i x.k,.i x.on.o,.i x.on.s,.i x.on.i,.i x.to.o,.i x.to.s,.i x.to.i,.slc (j5 x.ids),.i x.n,.str x.name,.str x.text,.i x.a,.i x.b]
def qw (l:List OpP):List (List D):=l.map OpP.d
def Pt.d (p:Pt):List D:= [.i p.o,.i p.s,.i p.day,.slc (qv p.needs),.slc (qw p.ops),.str p.sl]
def jk (l:List Pt):List (List D):=l.map Pt.d
def jL (l:List Bool):List (List D):=l.map fun b=>[.bool b]
def jg (l:List (List Bool)):List (List D):=l.map fun x=>[.slc (jL x)]
def upto {α:Type} (f:Nat->List α):Nat->List α
 |0=>[]
 |k+1=>upto f k++f k
theorem zm {α:Type} {f:Nat->List α} {c:Nat} (h:∀k,(f k).length<=c):∀k,(upto f k).length<=k*c
 |0=>by simp [upto]
 | k+1=>by
  have:=zm h k
  have:=h k
  rw [upto,Ni,Nat.add_mul]
  omega
theorem upto_mem {α:Type} {f:Nat->List α} {x:α}:∀{k:Nat},x∈upto f k↔∃i,i<k∧x∈f i
 |0=>by simp [upto]
 | k+1=>by
  rw [upto,List.mem_append,upto_mem]
  constructor
  ·rintro (⟨i,h1,h2⟩|h)
   ·exact ⟨i,by omega,h2⟩
   ·exact ⟨k,by omega,h⟩
  ·rintro ⟨i,h1,h2⟩
   by_cases e:i<k
   ·exact .inl ⟨i,e,h2⟩
   ·obtain rfl:i=k:=by omega
    exact .inr h2
theorem jB {α:Type} {l:List α} {i:Nat} {d:α} (h:i<l.length):l.getD i d=l[i]:=by simp [h]
theorem qJ:(j5 l).length=l.length:=by simp [j5]
theorem j9:(qv l).length=l.length:=by simp [qv]
theorem qQ:(qw l).length=l.length:=by simp [qw]
theorem jG:(jk l).length=l.length:=by simp [jk]
theorem vv:(jL l).length=l.length:=by simp [jL]
theorem Zt:(jg l).length=l.length:=by simp [jg]
theorem yp (h:i<l.length):(j5 l).getD i []=(l.getD i default).d:=by simp [j5,h]
theorem wM (h:i<l.length):(qv l).getD i []=(l.getD i default).d:=by simp [qv,h]
theorem kO (h:i<l.length):(qw l).getD i []=(l.getD i default).d:=by simp [qw,h]
theorem u5 (h:i<l.length):(jk l).getD i []=(l.getD i default).d:=by simp [jk,h]
theorem J6 (h:i<l.length):(jL l).getD i []= [.bool (l.getD i false)]:=by simp [jL,h]
theorem fC (h:i<l.length):(jg l).getD i []= [.slc (jL (l.getD i []))]:=by simp [jg,h]
theorem Uu:∀x∈j5 l,x.length=3:=by
 intro x hx
 obtain ⟨t,_,rfl⟩:=List.mem_map.1 hx
 rfl
theorem gV:∀x∈qv l,x.length=2:=by
 intro x hx
 obtain ⟨t,_,rfl⟩:=List.mem_map.1 hx
 rfl
theorem kT:∀x∈qw l,x.length=13:=by
 intro x hx
 obtain ⟨t,_,rfl⟩:=List.mem_map.1 hx
 rfl
theorem pw:∀x∈jk l,x.length=6:=by
 intro x hx
 obtain ⟨t,_,rfl⟩:=List.mem_map.1 hx
 rfl
theorem pf:∀x∈jL l,x.length=1:=by
 intro x hx
 obtain ⟨t,_,rfl⟩:=List.mem_map.1 hx
 rfl
theorem xu:∀x∈jg l,x.length=1:=by
 intro x hx
 obtain ⟨t,_,rfl⟩:=List.mem_map.1 hx
 rfl
theorem Vy:j5 a++j5 b=j5 (a++b):=by simp [j5]
theorem UQ:qv a++qv b=qv (a++b):=by simp [qv]
theorem Vu:qw a++qw b=qw (a++b):=by simp [qw]
theorem aO:jk a++jk b=jk (a++b):=by simp [jk]
theorem dE {p:Pt}:p.d= [.int .i64 p.o,.int .i64 p.s,.int .i64 p.day,.slc (qv p.needs),.slc (qw p.ops),.str p.sl]:=rfl
def around (n most:Int):Int:=(if n<0 then -(n+1) else n).tmod most
theorem j4 (h:0<most):0<=around n most∧around n most<most:=by
 unfold around
 have h0:0<=(if n<0 then -(n+1) else n):=by split<;>omega
 rw [Int.tmod_eq_emod_of_nonneg h0]
 exact ⟨Int.emod_nonneg _ (by omega),Int.emod_lt_of_pos _ h⟩
theorem qL (hm:0<most) (h:R (.int .i64 (around n most)) H):ACall Tryz.prog 16 [.int .i64 n,.int .i64 most] H R:=by
 refine rA fun hf=>?_
 have hn:=hf.1
 rw [ri,kX] at hn
 simp+contextual only [↓U16,↓U16,↓XP,qh,XW1,qa,qb]
 unfold around at h
 refine ⟨fun h0=>?_,fun h0=>?_⟩
 ·rw [qi (n:=n+1) (by omega) (by omega),qi (n:=0 - (n+1)) (by omega) (by omega)]
  rw [if_pos h0] at h
  refine ⟨by omega,?_⟩
  rw [show 0 - (n+1)= -(n+1) by omega]
  exact h
 ·rw [if_neg h0] at h
  exact ⟨by omega,h⟩
def ints (l:List Int):List (List D):=l.map fun n=>[.int .i64 n]
theorem jh:(ints l).length=l.length:=by simp [ints]
theorem fh (h:i<l.length):(ints l).getD i []= [.int .i64 l[i]]:=by simp [ints,h]
def qG (l:List Int) (i:Nat) (most:Int):Int:=match l[i]? with
 |some n=>around n most
 |none=>0
theorem qN (h:0<most):0<=qG l i most∧qG l i most<most:=by
 unfold qG
 split
 ·exact j4 h
 ·omega
theorem jS (hm:0<most) (h:R (.int .i64 (qG l i most)) H):ACall Tryz.prog 57 [.slc (ints l),.int .i64 i,.int .i64 most] H R:=by
 refine b57 fun hf=>?_
 by_cases hi:i<l.length
 ·simp+contextual only [↓Fd,jh,fh hi,↓Fd,↓XP,qh,qa,qb]
  refine ⟨fun hneg=>absurd hneg (by omega),fun _ _=>⟨fun hge=>absurd hge (by omega),fun _=>?_⟩⟩
  refine ⟨by omega,fun _=>qL hm ?_⟩
  simp+contextual only [↓XP,qp]
  intro _
  unfold qG at h
  rw [Nb hi] at h
  exact h
 ·simp+contextual only [↓Fd,jh,↓Fd,↓XP,qh,qa,qb]
  refine ⟨fun hneg=>absurd hneg (by omega),fun _ _=>⟨fun hge=>?_,fun hlt=>absurd (by omega) hlt⟩⟩
  unfold qG at h
  rw [N0 (by omega)] at h
  exact h
def heads8:List (List UInt8):= [[99,97,116],[97,110,116],[98,101,116],[110,101,115,116],[116,101,110],[116,101,101],[99,104,101],[115,101,116]]
def core4:List (List UInt8):= [[97],[97,110],[98,101],[99]]
def words16:List (List UInt8):=core4++heads8++ [[99,97,116,115],[97,110,116,115],[98,101,116,115,116],[120,121,122]]
def seps3:List (List UInt8):= [[32],[44,32],[32]]
def jR (l:List Int) (i:Nat) (most:Int):Nat:=(qG l i most).toNat
def yL (l:List Int):Nat->List UInt8
 |0=>words16.getD (jR l 0 16) []
 |i+1=>yL l i++(seps3.getD (jR l (2+i) 3) []++words16.getD (jR l (4+i) (6+i)) [])
def gloss (l:List Int):List UInt8:=if qG l 6 19=18 then [] else yL l (jR l 1 3)
def je (p:Pt) (o:OpP):Pt:={p with ops:=p.ops++ [o]}
def jQ (p:Pt):Id3:=⟨p.o,p.s,p.ops.length⟩
def meaning (p:Pt) (on:Id3) (m:List Int):Pt:=
 let p1:=je p {yB with k:=2,on:=on,n:=qG m 2 5}
 let p2:=je p1 {yB with k:=7,on:=jQ p,text:=gloss (m.drop 3)}
 if qG m 1 9=5 then p2 else je p2 {yB with k:=9,on:=jQ p,n:=1}
structure Gs where
 l:List Pt
 past:List (List Bool)
def ku (p:Pt) (kind:Int) (ok:Bool):Nat->List Id3:=fun k=>if ok=true∧(p.ops.getD k default).k=kind then [⟨p.o,p.s,k⟩] else []
def kv (p:Pt) (kind:Int) (ok:Bool):List Id3:=upto (ku p kind ok) p.ops.length
def visible (x:Gs) (seen:List Bool) (p:Pt) (kind:Int):List Id3:=upto (fun i=>kv (x.l.getD i default) kind (seen.getD i false)) x.l.length++kv p kind true
def kE (p:Pt) (ok:Bool):Nat->List OpP:=fun k=>if ok=true∧(p.ops.getD k default).k=16 then [p.ops.getD k default] else []
def yj (p:Pt) (ok:Bool):List OpP:=upto (kE p ok) p.ops.length
def splits (x:Gs) (seen:List Bool) (p:Pt):List OpP:=upto (fun i=>yj (x.l.getD i default) (seen.getD i false)) x.l.length++yj p true
def names3:List (List UInt8):= [[112,114,101,115,115],[104,101,105,114,115],[99,114,111,119,110]]
def quoted (x:Gs) (seen:List Bool) (p:Pt) (sense:Id3) (m:List Int):Pt:=
 let sources:=visible x seen p 3
 if sources.length=0∨qG m 1 4=1 then
  let from_:=600000+400*qG m 2 60
  let p1:=je p {yB with k:=3,name:=names3.getD (jR m 3 3) [],text:= [97,110,110,97,108,115],a:=from_,b:=from_+300*qG m 4 8}
  je p1 {yB with k:=4,on:=sense,to:=jQ p,n:=1+qG m 5 90,text:=gloss (m.drop 6)}
 else je p {yB with k:=4,on:=sense,to:=sources.getD (jR m 2 sources.length) default,n:=1+qG m 5 90,text:=gloss (m.drop 6)}
def divided (p:Pt) (entry sense:Id3) (m:List Int):Pt:=
 let p1:=meaning p entry m
 let p2:=meaning p1 entry (m.drop 1)
 je p2 {yB with k:=16,on:=sense,ids:= [jQ p,jQ p1],n:=qG m 4 3 - 1}
def lang3:List (List UInt8):= [[102,114],[102,114],[100,101]]
def lab2:List (List UInt8):= [[114,97,114,101],[108,97,119]]
def small (sense other:Id3) (n:Int) (m:List Int):OpP:=
 if n=0∨n=1 then {yB with k:=7,on:=sense,text:=gloss (m.drop 3)}
 else if n=2 then {yB with k:=9,on:=sense,n:=qG m 3 2}
 else if n=3 then {yB with k:=10,on:=sense,n:=1+qG m 3 9}
 else if n=4 then {yB with k:=12,on:=sense,name:=lang3.getD (jR m 3 3) [],text:=gloss (m.drop 4)}
 else if n=5∨n=6 then {yB with k:=14,on:=sense,name:=lab2.getD (jR m 3 2) [],n:=min 1 (qG m 4 4)}
 else if n=7∨n=8 then {yB with k:=15,on:=sense,to:=other,n:=min 1 (qG m 3 5)}
 else if n=9 then {yB with k:=13,on:=sense,to:=other,n:=qG m 3 3}
 else {yB with k:=8,on:=sense,n:=qG m 3 5}
def strs (l:List (List UInt8)):List (List D):=l.map fun s=>[.str s]
theorem jd:(strs l).length=l.length:=by simp [strs]
theorem kq (h:i<l.length):(strs l).getD i []= [.str (l.getD i [])]:=by simp [strs,h]
theorem V3:∀x∈strs l,x.length=1:=by
 intro x hx
 obtain ⟨t,_,rfl⟩:=List.mem_map.1 hx
 rfl
theorem vH:∀x∈ints l,x.length=1:=by
 intro x hx
 obtain ⟨t,_,rfl⟩:=List.mem_map.1 hx
 rfl
theorem kx {l:List Int} {n:Nat} {H:AH} (h:R (.slc (ints (l.drop n))) H):ACall Tryz.prog 59 [.slc (ints l),.i n] H R:=by
 refine b59 fun hf=>?_
 have hbig:=qk
 simp+contextual only [x59,jh,↓A1,↓XP,qh,qa,qb]
 refine fun _=>⟨vH,?_⟩
 rw [Nu (show (ints l).length<=l.length by rw [jh];exact Nt _)]
 by_cases hc:(l.length:Int)<(n:Int)
 ·simp only [if_pos hc,Nh]
  refine ⟨by omega,by omega,?_⟩
  rw [List.drop_of_length_le (show (ints l).length<=l.length by rw [jh];exact Nt _)]
  rw [List.drop_of_length_le (show l.length<=n by omega)] at h
  exact h
 ·simp only [if_neg hc,Nh]
  refine ⟨by omega,by omega,?_⟩
  rw [show List.drop n (ints l)=ints (l.drop n) from List.map_drop.symm]
  exact h
theorem xC (h:R (.own (strs core4)) H):ACall Tryz.prog 147 [] H R:=by
 refine IT fun hf=>?_
 simp+contextual only [↓U147,↓U147.1,↓XP,qh,XW1,qa,qc,qe]
 intros
 exact h
theorem JM (h:R (.own (strs heads8)) H):ACall Tryz.prog 127 [] H R:=by
 refine MA fun hf=>?_
 simp+contextual only [↓U127,↓U127.1,↓XP,qh,XW1,qa,qc,qe]
 intros
 exact h
theorem uC {α:Type} {l:List α} {d:α} {p:α->Prop} (h:∀x∈l,p x) (hd:p d) (i:Nat):p (l.getD i d):=by
 rcases Nat.lt_or_ge i l.length with hi|hi
 ·rw [jB hi];exact h _ (List.getElem_mem hi)
 ·rw [show l.getD i d=d by simp [List.getD,N0 hi]];exact hd
theorem Y2 (i:Nat):(words16.getD i []).length<=5:=uC (p:=fun x:List UInt8=>x.length<=5) (by decide) (by decide) i
theorem av (i:Nat):(seps3.getD i []).length<=2:=uC (p:=fun x:List UInt8=>x.length<=2) (by decide) (by decide) i
theorem Jr:∀i,(yL l i).length<=5+7*i
 | 0=>by
  have:=Y2 (jR l 0 16)
  simp only [yL]
  omega
 | i+1=>by
  have h1:=Jr (l:=l) i
  have h2:=av (jR l (2+i) 3)
  have h3:=Y2 (jR l (4+i) (6+i))
  simp only [yL,Ni]
  omega
theorem uX (h:R (.str (gloss l)) H):ACall Tryz.prog 143 [.slc (ints l)] H R:=by
 refine Ii fun hf=>?_
 have hbig:=qk
 simp+contextual only [↓Zg,↓Zg,↓XP,qp,qa]
 refine xC ?_
 simp+contextual only [↓XP,qp]
 intros
 refine JM ?_
 simp+contextual only [jd,↓Zg,↓XP,qh,XW1,qb,qc,qe]
 have e:strs core4++strs heads8++ [[.str [99,97,116,115]],[.str [97,110,116,115]],[.str [98,101,116,115,116]],[.str [120,121,122]]]=strs words16:=rfl
 have hw:words16.length=16:=rfl
 have e2:(strs core4++strs heads8).length=12:=rfl
 have c8:core4.length=4:=rfl
 have h8:heads8.length=8:=rfl
 rw [e,e2,c8,h8]
 refine fun _=>⟨V3,V3,by omega,V3 (l:=core4++heads8),by omega,fun _=>?_⟩
 rw [jd,hw,show ((16:Nat):Int)=(16:Int) from rfl]
 have a0:=qN (l:=l) (i:=0) (most:=16) (by omega)
 have a1:=qN (l:=l) (i:=1) (most:=3) (by omega)
 refine jS (i:=0) (by omega) ?_
 simp+contextual only [jd,kq (show (qG l 0 16).toNat<words16.length by rw [hw];omega),hw,↓Zg,↓XP,qh]
 refine fun _=>⟨by omega,by omega,fun _=>jS (i:=1) (by omega) ?_⟩
 simp+contextual only [↓XP,qp]
 obtain ⟨n,hn⟩:∃n:Nat,qG l 1 3=n:=⟨(qG l 1 3).toNat,by omega⟩
 have hn':jR l 1 3=n:=by unfold jR;omega
 rw [hn]
 intros
 refine XW.loopK hm (fun F H'=>∃(i:Nat),i<=n∧Fr 50 [(0,.slc (ints l)),(3,.own (strs words16)),(4,.str (yL l i)),(5,.i n),(6,.i i)] F∧H=H') (fun F H=>match F.getD 6 .any with| .int _ n'=>n - n'.toNat|_=>0) ⟨0,by omega,⟨rfl,rfl,rfl,rfl,rfl,rfl,trivial⟩,rfl⟩ ?_
 rintro _ _ ⟨i,hi,hF,rfl⟩ K hN hE hR
 obtain ⟨z,rfl⟩:=hF.fl rfl
 try dsimp only [fl,zz,qa,qb] at*
 clear hF
 by_cases hlt:i<n
 ·have nx:∀F',Fr 50 [(0,.slc (ints l)),(3,.own (strs words16)),(4,.str (yL l (i+1))),(5,.i n),(6,.i ((i+1:Nat):Int))] F'->K .normal F' H:=fun F' hF'=>hN _ _ ⟨i+1,hlt,hF',(qz rfl).symm⟩ (by
   rw [Na,hF'.2.2.2.2.2.1]
   simp only [Nc,Nd,Nf]
   omega)
  clear hN hE hR
  have w2:IntKind.i64.wrap (2+(i:Int))=((2+i:Nat):Int):=by rw [qi (by omega) (by omega)];omega
  have w4:IntKind.i64.wrap (4+(i:Int))=((4+i:Nat):Int):=by rw [qi (by omega) (by omega)];omega
  have w6:IntKind.i64.wrap (6+(i:Int))=6+(i:Int):=qi (by omega) (by omega)
  have b0:=qN (l:=l) (i:=2+i) (most:=3) (by omega)
  have b1:=qN (l:=l) (i:=4+i) (most:=6+(i:Int)) (by omega)
  simp+contextual only [w2,↓Zg,↓XP,qh,XW1,qc,qe]
  have g0:=Jr (l:=l) i
  have g2:=av (jR l (2+i) 3)
  have g3:=Y2 (jR l (4+i) (6+i))
  have hse:([[.str [32]],[.str [44,32]],[.str [32]]]:List (List D))=strs seps3:=rfl
  have hs3:seps3.length=3:=rfl
  have s1:=kq (show (qG l (2+i) 3).toNat<seps3.length by rw [hs3];omega)
  have s2:=kq (show (qG l (4+i) (6+(i:Int))).toNat<words16.length by rw [hw];omega)
  refine ⟨fun _=>⟨_,fun _ _=>jS (by omega) ⟨rfl,rfl⟩,?_⟩,fun hge=>absurd (by omega) hge⟩
  simp+contextual only [w4,w6,hse,hs3,s1,jd,↓XP,qh]
  refine fun _=>⟨by omega,by omega,fun _=>⟨?_,⟨_,fun _ _=>jS (by omega) ⟨rfl,rfl⟩,?_⟩⟩⟩
  ·unfold jR at g2
   omega
  simp+contextual only [hw,s2,jd,qj (show i<=big by omega),↓Zg,↓XP,qh]
  have hu:yL l i++seps3.getD (qG l (2+i) 3).toNat []++words16.getD (qG l (4+i) (6+(i:Int))).toNat []=yL l (i+1):=by
   rw [yL,Np]
   rfl
  rw [hu]
  unfold jR at g2 g3
  refine fun _=>⟨by omega,by omega,fun _=>⟨by simp only [Ni];omega,nx _ ⟨rfl,rfl,rfl,rfl,rfl,rfl,trivial⟩⟩⟩
 ·have hin:i=n:=by omega
  subst hin
  simp+contextual only [↓Zg,↓XP,qp]
  refine hE _ _ _ ?_
  simp+contextual only [↓Zg,↓XP,qp,XW1]
  refine jS (i:=6) (by omega) ?_
  simp+contextual only [↓XP,qp]
  unfold gloss at h
  rw [hn'] at h
  refine fun _=>⟨fun h18=>?_,fun h18=>?_⟩
  ·rw [if_pos h18] at h
   exact h
  ·rw [if_neg h18] at h
   exact h
end Go.Proofs.YtgopigkdcmhbbaaGreatDoor
end
noncomputable section
namespace Go.Proofs.YtgopigkdcmhbbaaGreatDoor
open Go.Xs
open Go Go.Aw
def nA:=yy Tryz.f106
def V106:=PLift.up (aI (@unf (nA 2) (F [u,u,u,u,y 6,y 6,y 6,u,u,y 11,y 11,y 11,u,u,y 16,y 16,y 16,u,u,y 21,y 21,y 21,u,u,y 26,y 26,y 26,v,u]) rfl) (@unf (nA 0) (R [u,u] (nA 2)) rfl))
theorem U106:type_of% V106.down:=V106.down
theorem Iu:Bt 106 31 (nA 0) [(.tmp 2)]:=bt Tryz.func106 rfl
def zT:=yy Tryz.f48
def V48:=PLift.up (aI (aI (aI (aI (@unf (zT 7) (T (r [u,v,u])) rfl) (@unf (zT 24) (r [u,v,u]) rfl)) (aI (@unf (zT 21) (O (R [x,u,u,u,u,v,u] (zT 24))) rfl) (@unf (zT 15) (X (R [u,u] I) (zT 21)) rfl))) (aI (aI (@unf (zT 33) (r [x,u,u,u,u,v,u]) rfl) (@unf (zT 34) (r [x,u,u,u,u,v,u]) rfl)) (aI (@unf (zT 53) (T (r [u,v,u])) rfl) (@unf (zT 56) (r [x,u,u,v,u]) rfl)))) (aI (aI (aI (@unf (zT 57) (r [u,v,u]) rfl) (@unf (zT 46) (X (O (R [u,u,u,v,u] (X (R [u,u] (zT 53)) (zT 56)))) (zT 57)) rfl)) (aI (@unf (zT 40) (X (R [u,u] I) (zT 46)) rfl) (@unf (zT 35) (X (R [u,v,u] (U (zT 40))) (F [v,u])) rfl))) (aI (aI (@unf (zT 29) (X (R [u,u] (V (zT 33) (zT 34))) (zT 35)) rfl) (@unf (zT 25) (R [u,v,u] (R [u] (zT 29))) rfl)) (aI (@unf (zT 4) (X (R [u,u] (zT 7)) (R [u] (X (U (zT 15)) (zT 25)))) rfl) (@unf (zT 0) (R [u] (R [v,u] (zT 4))) rfl)))))
theorem eH:type_of% V48.down:=V48.down
theorem b48:Bt 48 59 (zT 0) [(.tmp 2)]:=bt Tryz.func48 rfl
def vu:=yy Tryz.f79
def V79:=PLift.up (aI (aI (aI (aI (@unf (vu 5) (T (F [u,u,u])) rfl) (@unf (vu 15) (T (F [u,u,u])) rfl)) (aI (@unf (vu 25) (T (r [u,v,u])) rfl) (aI (@unf (vu 31) (T (F [u,u,u])) rfl) (@unf (vu 56) (T (r [u,v,u])) rfl)))) (aI (aI (@unf (vu 62) (T (F [u,u,u])) rfl) (aI (@unf (vu 67) (r [u,u,u,v,u]) rfl) (@unf (vu 53) (X (R [u,u] (vu 56)) (X (R [u,u] (vu 62)) (vu 67))) rfl))) (aI (@unf (vu 68) (r [u,v,u]) rfl) (aI (@unf (vu 49) (X (O (R [u,u,u,u,v,u] (vu 53))) (vu 68)) rfl) (@unf (vu 43) (X (R [u,u,u] I) (vu 49)) rfl))))) (aI (aI (aI (@unf (vu 74) (T (r [u,v,u])) rfl) (aI (@unf (vu 80) (T (F [u,u,u])) rfl) (@unf (vu 85) (F [v,u,v,u,u,u]) rfl))) (aI (@unf (vu 77) (X (X (G [u,u,u,u,u,u,u,u]) (vu 80)) (vu 85)) rfl) (aI (@unf (vu 69) (R [v,u] (X (R [u,u] (vu 74)) (vu 77))) rfl) (@unf (vu 36) (R [u] (X (R [u] (U (vu 43))) (vu 69))) rfl)))) (aI (aI (@unf (vu 28) (X (R [u,u,u,u,u] (vu 31)) (vu 36)) rfl) (aI (@unf (vu 20) (R [u,v,u] (X (R [u,u] (vu 25)) (vu 28))) rfl) (@unf (vu 12) (X (R [u,u,u,z 20,z 20,u] (vu 15)) (vu 20)) rfl))) (aI (@unf (vu 10) (R [u,u,u,v,u] (vu 12)) rfl) (aI (@unf (vu 2) (X (R [u,u,u] (vu 5)) (vu 10)) rfl) (@unf (vu 0) (R [u,u,u] (vu 2)) rfl))))))
theorem JE:type_of% V79.down:=V79.down
theorem b79:Bt 79 71 (vu 0) [(.tmp 2),(.tmp 3),(.tmp 4)]:=bt Tryz.func79 rfl
def yC:=yy Tryz.f104
def V104:=PLift.up (aI (aI (aI (aI (@unf (yC 21) (R [v,u] (V .skip (r [v,u]))) rfl) (@unf (yC 15) (V .skip (R [v,u] (V .skip (yC 21)))) rfl)) (aI (@unf (yC 94) (V (F [u]) (R [v,u] (T (F [u])))) rfl) (@unf (yC 88) (V (F [u]) (R [v,u] (yC 94))) rfl))) (aI (aI (@unf (yC 82) (V (F [u]) (R [v,u] (yC 88))) rfl) (@unf (yC 76) (V (F [u]) (R [v,u] (yC 82))) rfl)) (aI (@unf (yC 70) (X (R [v,u] (V .skip (r [v,u]))) (yC 76)) rfl) (@unf (yC 60) (V (F [u]) (R [v,u] (V (F [u]) (yC 70)))) rfl)))) (aI (aI (aI (@unf (yC 54) (V (F [u]) (R [v,u] (yC 60))) rfl) (@unf (yC 48) (V (F [u]) (R [v,u] (yC 54))) rfl)) (aI (@unf (yC 42) (X (R [v,u] (V .skip (r [v,u]))) (yC 48)) rfl) (@unf (yC 32) (V (F [u]) (R [v,u] (V (F [u]) (yC 42)))) rfl))) (aI (aI (@unf (yC 26) (V (F [u]) (R [v,u] (yC 32))) rfl) (@unf (yC 8) (V (F [u]) (X (R [v,u] (yC 15)) (yC 26))) rfl)) (aI (@unf (yC 2) (X (R [u] (O (R [v,u] (yC 8)))) (F [u])) rfl) (@unf (yC 0) (R [u] (yC 2)) rfl)))))
theorem Bs:type_of% V104.down:=V104.down
theorem HD:Bt 104 35 (yC 0) [(.tmp 2)]:=bt Tryz.func104 rfl
def YK:=yy Tryz.f105
def V105:=PLift.up (aI (aI (@unf (YK 22) (r [u,v,u]) rfl) (@unf (YK 13) (X (O (R [u,u,u,u,u] (T (F [u])))) (YK 22)) rfl)) (aI (@unf (YK 7) (X (R [u,u,u,u] I) (YK 13)) rfl) (aI (@unf (YK 2) (X (R [u] (U (YK 7))) (F [u])) rfl) (@unf (YK 0) (R [u] (YK 2)) rfl))))
theorem mf:type_of% V105.down:=V105.down
theorem LG:Bt 105 17 (YK 0) [(.tmp 4)]:=bt Tryz.func105 rfl
def zX:=yy Tryz.f107
def V107:=PLift.up (aI (aI (aI (@unf (zX 15) (R [v,u] (V .skip (r [v,u]))) rfl) (@unf (zX 31) (r [u,u,u,v,u]) rfl)) (aI (@unf (zX 24) (V (r [u]) (R [v,u] (T (R [u] (zX 31))))) rfl) (@unf (zX 20) (V (r [u]) (R [v,u] (zX 24))) rfl))) (aI (aI (@unf (zX 9) (O (X (R [v,u] (V .skip (zX 15))) (zX 20))) rfl) (@unf (zX 33) (F [u,u,u,u,u,y 23,y 23,y 23,y 23,v,u]) rfl)) (aI (@unf (zX 4) (R [u] (X (R [u,u] (zX 9)) (zX 33))) rfl) (@unf (zX 0) (R [u,u] (R [u] (zX 4))) rfl))))
theorem BA:type_of% V107.down:=V107.down
theorem Hv:Bt 107 29 (zX 0) [(.tmp 2)]:=bt Tryz.func107 rfl
def vV:=yy Tryz.f108
def V108:=PLift.up (aI (aI (aI (@unf (vV 42) (r [u,v,u]) rfl) (@unf (vV 33) (X (O (X (G [u,u,u,u,u,u,u,u,u,u,u]) (T (F [u])))) (vV 42)) rfl)) (aI (@unf (vV 27) (X (R [u,u,u] I) (vV 33)) rfl) (aI (@unf (vV 43) (r [u,v,u]) rfl) (@unf (vV 13) (X (O (X (X (G [u,u,u,u,u,u,u,u,z 19,z 19,z 19,z 19,y 23,y 23,y 23,y 23,y 23,y 23,y 23,y 23,z 19,u]) (T (F [u]))) (R [u] (U (vV 27))))) (vV 43)) rfl)))) (aI (aI (@unf (vV 7) (X (R [u,u,u,u,u] I) (vV 13)) rfl) (@unf (vV 48) (F [u,u,u,v,u]) rfl)) (aI (@unf (vV 52) (F [u,u,u,u,u,y 61,y 61,y 61,y 61,v,u]) rfl) (aI (@unf (vV 44) (X (R [u,u,u] (T (vV 48))) (vV 52)) rfl) (@unf (vV 0) (R [u,u] (X (R [u] (U (vV 7))) (vV 44))) rfl)))))
theorem Z0:type_of% V108.down:=V108.down
theorem HC:Bt 108 67 (vV 0) [(.tmp 2)]:=bt Tryz.func108 rfl
def lY:=yy Tryz.f109
def V109:=PLift.up (aI (@unf (lY 2) (F [u,u,u,u,y 6,y 6,y 6,y 6,y 6,u,u,y 13,y 13,y 13,v,u]) rfl) (@unf (lY 0) (R [u,u] (lY 2)) rfl))
theorem U109:type_of% V109.down:=V109.down
theorem H7:Bt 109 18 (lY 0) [(.tmp 2)]:=bt Tryz.func109 rfl
def JJ:=yy Tryz.f110
def V110:=PLift.up (aI (aI (@unf (JJ 18) (r [u,v,u]) rfl) (aI (@unf (JJ 15) (X (O (r [x,u,u,u,u,u,v,u])) (JJ 18)) rfl) (@unf (JJ 9) (X (R [u,u,u,u] I) (JJ 15)) rfl))) (aI (@unf (JJ 4) (X (R [u] (U (JJ 9))) (F [v,u])) rfl) (aI (@unf (JJ 2) (R [u,u,v,u] (JJ 4)) rfl) (@unf (JJ 0) (R [u] (JJ 2)) rfl))))
theorem cy:type_of% V110.down:=V110.down
theorem MG:Bt 110 22 (JJ 0) [(.tmp 2)]:=bt Tryz.func110 rfl
def mr:=yy Tryz.f111
def V111:=PLift.up (aI (@unf (mr 2) (F [u,u,u,u,u,u,v,u]) rfl) (@unf (mr 0) (R [u,u] (mr 2)) rfl))
theorem U111:type_of% V111.down:=V111.down
theorem In:Bt 111 10 (mr 0) [(.tmp 2)]:=bt Tryz.func111 rfl
def JH:=yy Tryz.f112
def V112:=PLift.up (aI (aI (@unf (JH 18) (r [u,v,u]) rfl) (aI (@unf (JH 15) (X (O (r [x,u,u,u,u,u,v,u])) (JH 18)) rfl) (@unf (JH 9) (X (R [u,u,u,u] I) (JH 15)) rfl))) (aI (@unf (JH 4) (X (R [u] (U (JH 9))) (F [v,u])) rfl) (aI (@unf (JH 2) (R [u,u,v,u] (JH 4)) rfl) (@unf (JH 0) (R [u] (JH 2)) rfl))))
theorem cL:type_of% V112.down:=V112.down
theorem LD:Bt 112 22 (JH 0) [(.tmp 2)]:=bt Tryz.func112 rfl
def nC:=yy Tryz.f113
def V113:=PLift.up (aI (@unf (nC 2) (F [u,u,x,u,u,v,u]) rfl) (@unf (nC 0) (R [u] (nC 2)) rfl))
theorem U113:type_of% V113.down:=V113.down
theorem Li:Bt 113 9 (nC 0) [(.tmp 2)]:=bt Tryz.func113 rfl
def Kr:=yy Tryz.f67
def V67:=PLift.up (aI (aI (@unf (Kr 38) (F [u,u,u,u,z 162,z 162,z 162,z 162,z 162,v,u]) rfl) (aI (@unf (Kr 30) (X (R [u,u,u,y 136,y 136,y 136,y 136,u,u,z 142,z 142,z 142,z 142,y 146,y 146,y 146,y 146,y 146,z 151,z 151,z 151,z 151,y 146,z 142,u] (T (F [u]))) (Kr 38)) rfl) (@unf (Kr 22) (X (R [u,u,u,y 92,y 92,y 92,y 92,y 92,z 97,z 97,z 97,z 97,y 92,u,u,z 104,z 104,z 104,z 104,y 108,y 108,y 108,z 104,u,u,z 114,z 114,z 114,y 117,y 117,y 117,y 117,z 114,u,u,z 124,z 124,z 124,z 124,y 128,y 128,y 128,z 124,u] (T (F [u]))) (Kr 30)) rfl))) (aI (aI (@unf (Kr 14) (X (R [u,u,u,y 55,y 55,y 55,u,u,z 60,z 60,z 60,z 60,y 64,y 64,y 64,z 60,u,u,z 70,z 70,z 70,y 73,y 73,y 73,z 70,u,u,z 79,z 79,z 79,z 79,y 83,y 83,y 83,y 83,z 79,u] (T (F [u]))) (Kr 22)) rfl) (@unf (Kr 6) (X (R [u,u,u,z 11,z 11,z 11,y 14,y 14,y 14,y 14,z 11,u,u,z 21,z 21,z 21,z 21,y 25,y 25,y 25,y 25,z 21,u,u,z 32,z 32,z 32,y 35,y 35,y 35,y 35,z 32,u,u,z 42,z 42,z 42,z 42,y 46,y 46,y 46,y 46,z 42,u] (T (F [u]))) (Kr 14)) rfl)) (aI (@unf (Kr 2) (R [u,u,v,u] (R [v,u,u] (Kr 6))) rfl) (@unf (Kr 0) (R [u,u] (Kr 2)) rfl))))
theorem U67:type_of% V67.down:=V67.down
theorem b67:Bt 67 169 (Kr 0) [(.tmp 2)]:=bt Tryz.func67 rfl
def vt:=yy Tryz.f68
def V68:=PLift.up (aI (aI (aI (aI (@unf (vt 20) (r [u,v,u]) rfl) (@unf (vt 17) (X (O (G [x,u,u,u,u,u,u,u,u,u,u,u,u,u,v,u])) (vt 20)) rfl)) (aI (@unf (vt 11) (X (R [u,u,u,u,u] I) (vt 17)) rfl) (aI (@unf (vt 64) (r [u,v,u]) rfl) (@unf (vt 61) (X (O (r [x,u,u,u,u,u,u,v,u])) (vt 64)) rfl)))) (aI (aI (@unf (vt 55) (X (R [u,u,u,u,u] I) (vt 61)) rfl) (aI (@unf (vt 69) (r [x,u,u,u,u,u,u,v,u]) rfl) (@unf (vt 67) (R [x,u,u,v,u] (vt 69)) rfl))) (aI (@unf (vt 65) (R [x,u,u,v,u] (vt 67)) rfl) (aI (@unf (vt 48) (R [u] (X (R [u] (U (vt 55))) (vt 65))) rfl) (@unf (vt 46) (R [x,u,u,u,u,u,u,u,u,u,v,u] (vt 48)) rfl))))) (aI (aI (aI (@unf (vt 44) (R [x,u,u,u,v,u] (vt 46)) rfl) (aI (@unf (vt 42) (R [x,u,u,u,v,u] (vt 44)) rfl) (@unf (vt 40) (R [u,u,v,u] (vt 42)) rfl))) (aI (@unf (vt 70) (r [u,v,u]) rfl) (aI (@unf (vt 36) (X (O (R [u,u,u,u,v,u,u] (vt 40))) (vt 70)) rfl) (@unf (vt 30) (X (R [u,u,u,u,u] I) (vt 36)) rfl)))) (aI (aI (@unf (vt 71) (F [x,u,u,u,v,u]) rfl) (aI (@unf (vt 23) (R [x,u,u,u,u,v,u] (X (R [u] (U (vt 30))) (vt 71))) rfl) (@unf (vt 21) (R [x,u,u,v,u] (vt 23)) rfl))) (aI (@unf (vt 4) (R [u] (X (R [u] (U (vt 11))) (vt 21))) rfl) (aI (@unf (vt 2) (R [u,u,u,u,u,u,u,v,u] (vt 4)) rfl) (@unf (vt 0) (R [u,u] (vt 2)) rfl))))))
theorem WZ:type_of% V68.down:=V68.down
theorem b68:Bt 68 123 (vt 0) [(.tmp 2)]:=bt Tryz.func68 rfl
def Ji:=yy Tryz.f32
def V32:=PLift.up (aI (aI (aI (@unf (Ji 41) (X (G [u,u,u,u,z 63,z 63,z 63,u,u,z 68,z 68,z 68,z 68,z 68,u,u,z 75,z 75,z 75,u,u,z 80,z 80,z 80,u,u,z 85,z 85,z 85,y 88,y 88,y 88,y 88,y 88,y 88,y 88,y 88,y 88,y 88,z 85,u]) (T (F [u]))) rfl) (aI (@unf (Ji 48) (r [u,v,u]) rfl) (@unf (Ji 37) (X (O (R [u,u,u,u,v,u,u] (Ji 41))) (Ji 48)) rfl))) (aI (@unf (Ji 31) (X (R [u,u,u,u,u] I) (Ji 37)) rfl) (aI (@unf (Ji 69) (r [u,v,u]) rfl) (@unf (Ji 60) (X (O (R [u,u,u,u,u,u,u] (T (F [u])))) (Ji 69)) rfl)))) (aI (aI (@unf (Ji 54) (X (R [u,u,u,u,u] I) (Ji 60)) rfl) (aI (@unf (Ji 72) (X (R [u,u,u,u] (T (F [u]))) (F [u])) rfl) (@unf (Ji 49) (X (R [u] (U (Ji 54))) (R [u,u] (Ji 72))) rfl))) (aI (aI (@unf (Ji 18) (X (R [u,u,u,u] (T (F [u]))) (X (R [u] (U (Ji 31))) (Ji 49))) rfl) (@unf (Ji 10) (X (R [u,u,u,u,u,z 38,z 38,z 38,z 38,u] (T (F [u]))) (Ji 18)) rfl)) (aI (@unf (Ji 2) (X (R [u,u,u,u,z 9,z 9,z 9,u,u,z 14,z 14,z 14,u,u,z 19,z 19,z 19,u,u,z 24,z 24,z 24,u,u,z 29,z 29,z 29,u] (T (F [u]))) (Ji 10)) rfl) (@unf (Ji 0) (R [u,u] (Ji 2)) rfl)))))
theorem U3:type_of% V32.down:=V32.down
theorem b32:Bt 32 120 (Ji 0) [(.tmp 2)]:=bt Tryz.func32 rfl
def EH:=yy Tryz.f34
def V34:=PLift.up (aI (@unf (EH 4) (F [u,u,v,u]) rfl) (@unf (EH 0) (R [u,u] (R [u,u] (EH 4))) rfl))
theorem U34:type_of% V34.down:=V34.down
theorem b34:Bt 34 7 (EH 0) [(.tmp 2)]:=bt Tryz.func34 rfl
end Go.Proofs.YtgopigkdcmhbbaaGreatDoor
end
section
namespace Go.Proofs.YtgopigkdcmhbbaaGreatDoor
open Go Go.Aw
variable {R:D->AH->Prop}
def digs (m:Nat):List UInt8:=if h:m=0 then [] else UInt8.ofNat (m % 256)::digs (m / 256)
termination_by m
decreasing_by exact Nat.div_lt_self (by omega) (by omega)
def qU (neg:Bool) (x:UInt8):UInt8:=if neg=true then 255 - x else x
def mag (n:Int):Nat:=if n<0 then (-1 - n).toNat else n.toNat
def qr (n:Int):List UInt8:=
 UInt8.ofNat (if n<0 then 127 - (digs (mag n)).length else 128+(digs (mag n)).length)::(digs (mag n)).reverse.map (qU (decide (n<0)))
def qF (s:List UInt8):List UInt8:=qr s.length++s
def qK (l:List Int):List UInt8:=qr l.length++l.flatMap qr
def yt (l:List (List UInt8)):List UInt8:=qr l.length++l.flatMap qF
theorem kf:digs 0= []:=by rw [digs];rfl
theorem yK (h:m≠0):digs m=UInt8.ofNat (m % 256)::digs (m / 256):=by rw [digs,dif_neg h]
theorem KS:∀(k m:Nat),m<256 ^ k->(digs m).length<=k
 | 0,m,h=>by
  have:m=0:=by simpa using h
  rw [this,kf];exact Nt _
 | k+1,m,h=>by
  by_cases hm:m=0
  ·rw [hm,kf];exact Nat.zero_le _
  ·rw [yK hm,Nj]
   have:=KS k (m / 256) (by rw [Nat.div_lt_iff_lt_mul (by omega)];rw [Nat.pow_succ] at h;exact h)
   omega
theorem VF (h:wP .i64 n):mag n<9223372036854775808:=by
 rw [kX] at h
 unfold mag
 split<;>omega
theorem Ka (h:wP .i64 n):(digs (mag n)).length<=8:=KS 8 _ (by have:=VF h;omega)
theorem kL (h:wP .i64 n):(qr n).length<=9:=by
 have:=Ka h
 simp only [qr,Nj,Nk,List.length_reverse]
 omega
theorem Qu (h:0<=n) (h':n<256):IntKind.u8.wrap n=n:=Go.IntWalk.u8_in n ⟨h,by omega⟩
theorem QB {n:Nat} (h:n<256): [D.int .u8 (n:Int)]=ql (UInt8.ofNat n):=by
 unfold ql
 rw [UInt8.toNat_ofNat',Nat.mod_eq_of_lt h]
theorem qV {l:List UInt8}:∀x∈l.map ql,x.length=1:=by
 intro x hx
 obtain ⟨t,_,rfl⟩:=List.mem_map.1 hx
 rfl
theorem dW {n:Int} {m0:Nat} {H:AH} {Q:AQ} {F:List D} (hm:m0<9223372036854775808) (hF:Fr 59 [(0,.i n),(3,.i (m0:Int)),(4,.own [])] F) (hE:∀F',Fr 59 [(0,.i n),(4,.own ((digs m0).map ql))] F'->Q (.exit 0) F' H):XW Tryz.prog (zT 15) F H Q:=by
 have hbig:=qk
 have hl0:=KS 8 m0 (by omega)
 refine XW.loopK hmm (fun F H'=>∃(pre:List UInt8) (m:Nat),digs m0=pre++digs m∧m<9223372036854775808∧Fr 59 [(0,.i n),(3,.i (m:Int)),(4,.own (pre.map ql))] F∧H=H') (fun F H=>match F.getD 3 .any with| .int _ n'=>n'.toNat|_=>0) ⟨[],m0,rfl,hm,hF,rfl⟩ ?_
 rintro _ _ ⟨pre,m,hd,hml,hF,rfl⟩ K hN hE' hR
 obtain ⟨z,rfl⟩:=hF.fl rfl
 try dsimp only [fl,zz,qa,qb] at*
 clear hF hR
 by_cases h0:m=0
 ·subst h0
  clear hN
  rw [kf,N4] at hd
  simp+contextual only [show ((0:Int)<((0:Nat):Int))=False from by simp,↓eH,↓XP,qp]
  rw [<-hd]
  exact hE' _ _ _ (hE _ ⟨rfl,rfl,rfl,trivial⟩)
 ·rw [yK h0] at hd
  have hpl:pre.length<=8:=by rw [hd,Ni] at hl0;omega
  have e1:((m:Int)).tmod 256=((m % 256:Nat):Int):=rfl
  have e2:IntKind.i64.wrap ((m:Int).tdiv 256)=((m / 256:Nat):Int):=by
   rw [Go.IntWalk.i64_quo _ _ ⟨by omega,by omega,by omega⟩]
   omega
  have e3:IntKind.u8.wrap ((m % 256:Nat):Int)=((m % 256:Nat):Int):=Qu (by omega) (by omega)
  simp+contextual only [show ((0:Int)<(m:Int))=True from by simp;omega,e1,e2,e3,show ((256:Int)=0)=False from by decide,↓eH,↓XP,qh,XW1,qc,qe]
  refine ⟨qV,by omega,?_⟩
  rw [QB (by omega),show [ql (UInt8.ofNat (m % 256))]= [UInt8.ofNat (m % 256)].map ql from rfl,<-No]
  refine hN _ _ ⟨pre++ [UInt8.ofNat (m % 256)],m / 256,by rw [hd];simp,by omega,⟨rfl,rfl,rfl,rfl,trivial⟩,(qz rfl).symm⟩ ?_
  simp only [Nc,Nd]
  omega
theorem mF:(if b=true then 255 - (x.toNat:Int) else (x.toNat:Int))=((qU b x).toNat:Int):=by
 have:=x.toNat_lt
 cases b with
 |false=>rfl
 | true=>
  simp only [qU,if_true]
  rw [UInt8.toNat_sub_of_le _ _ (by rw [UInt8.le_iff_toNat_le];simp;omega)]
  simp
  omega
theorem Uq {α:Type} {d:List α} {j:Nat} (h:j<d.length):(d.drop j).reverse=(d.drop (j+1)).reverse++ [d[j]]:=by
 rw [List.drop_eq_getElem_cons h,List.reverse_cons]
theorem pv {n:Int} {hd:UInt8} {d:List UInt8} {H:AH} {Q:AQ} {F:List D} (hl:d.length<=8) (hF:Fr 59 [(0,.i n),(4,.own (d.map ql)),(6,.own ([hd].map ql)),(7,.i ((d.length:Int) - 1))] F) (hE:∀F',Fr 59 [(6,.own ((hd::d.reverse.map (qU (decide (n<0)))).map ql))] F'->Q (.exit 2) F' H):XW Tryz.prog (zT 40) F H Q:=by
 have hbig:=qk
 refine XW.loopK hmm (fun F H'=>∃(j:Nat),j<=d.length∧Fr 59 [(0,.i n),(4,.own (d.map ql)),(6,.own ((hd::(d.drop j).reverse.map (qU (decide (n<0)))).map ql)),(7,.i ((j:Int) - 1))] F∧H=H') (fun F H=>match F.getD 7 .any with| .int _ n'=>(n'+1).toNat|_=>0) ⟨d.length,by omega,by rw [List.drop_length];exact hF,rfl⟩ ?_
 rintro _ _ ⟨j,hj,hF,rfl⟩ K hN hE' hR
 obtain ⟨z,rfl⟩:=hF.fl rfl
 try dsimp only [fl,zz,qa,qb] at*
 clear hF hR
 rcases j with _|j
 ·clear hN
  simp+contextual only [show ((0:Nat):Int) - 1= -1 from rfl,show (0<=(-1:Int))=False from by simp,↓eH,↓XP,qp]
  exact hE' _ _ _ (hE _ ⟨rfl,rfl,trivial⟩)
 ·have e0:((j+1:Nat):Int) - 1=(j:Int):=by omega
  have nx:∀F',Fr 59 [(0,.i n),(4,.own (d.map ql)),(6,.own ((hd::(d.drop j).reverse.map (qU (decide (n<0)))).map ql)),(7,.i ((j:Int) - 1))] F'->K .normal F' H:=fun F' hF'=>hN _ _ ⟨j,by omega,hF',(qz rfl).symm⟩ (by
   rw [Na,hF'.2.2.2.2.1]
   simp only [Nc,Nd,Nf]
   omega)
  clear hN hE hE'
  rw [Uq (show j<d.length by omega)] at nx
  rw [e0]
  have q1:(d.map ql).getD j []= [.int .u8 ((d[j].toNat:Nat):Int)]:=by
   simp [show j<d.length by omega,ql]
  have q2:=mF (b:=decide (n<0)) (x:=d[j])
  have q3:=(d[j]).toNat_lt
  have hlen:(List.map ql (hd::(d.drop (j+1)).reverse.map (qU (decide (n<0))))).length<=9:=by
   simp only [Nk,Nj,List.length_reverse,List.length_drop]
   omega
  have w1:IntKind.i64.wrap ((j:Int) - 1)=(j:Int) - 1:=qi (by omega) (by omega)
  generalize d[j]=x at nx q1 q2 q3
  have w2:IntKind.u8.wrap (255 - (x.toNat:Int))=255 - (x.toNat:Int):=Qu (by omega) (by omega)
  simp only [No,List.map_cons,List.map_nil] at nx
  by_cases hn:n<0
  ·simp only [hn,decide_true,if_true] at q2 nx ⊢
   rw [q2] at w2
   have w2':IntKind.u8.wrap (255 - (x.toNat:Int))=((qU true x).toNat:Int):=by rw [q2];exact w2
   simp+contextual only [q1,w1,w2',hn,↓eH,↓XP,qh,XW1,qc,qe]
   exact ⟨by omega,fun _=>⟨⟨rfl,qV⟩,by simp only [List.length_reverse,List.length_drop];omega,nx _ ⟨rfl,rfl,rfl,rfl,rfl,trivial⟩⟩⟩
  ·simp only [hn,decide_false,Bool.false_eq_true,if_false] at q2 nx ⊢
   simp+contextual only [q1,w1,hn,↓eH,↓XP,qh,XW1,qc,qe]
   exact ⟨by omega,fun _=>⟨⟨rfl,qV⟩,by simp only [List.length_reverse,List.length_drop];omega,nx _ ⟨rfl,rfl,rfl,rfl,rfl,trivial⟩⟩⟩
theorem oa (h:wP .i64 n->R (.own ((qr n).map ql)) H):ACall Tryz.prog 48 [.i n] H R:=by
 refine b48 fun hf=>?_
 have hbig:=qk
 have hin:wP .i64 n:=hf.1
 have hr:=hin
 rw [kX] at hr
 replace h:=h hin
 have hlen:=Ka hin
 have hm:=VF hin
 obtain ⟨m0,hm0⟩:∃m0,mag n=m0:=⟨_,rfl⟩
 have hdl:(((digs m0).length:Nat):Int)<=8:=by rw [<-hm0];omega
 have w3:IntKind.i64.wrap (((digs m0).length:Int) - 1)=((digs m0).length:Int) - 1:=qi (by omega) (by omega)
 have hl9:(List.map ql (digs m0)).length=(digs m0).length:=Nk ..
 rw [qr,hm0] at h
 have hd9:(digs m0).length<=8:=by omega
 by_cases hn:n<0
 ·have w1:IntKind.i64.wrap (-1 - n)=((m0:Nat):Int):=by
   rw [qi (by omega) (by omega),<-hm0]
   unfold mag
   rw [if_pos hn]
   omega
  have hn2:¬(0<=n):=by omega
  have w4:IntKind.i64.wrap (127 - ((digs m0).length:Int))=((127 - (digs m0).length:Nat):Int):=by rw [qi (by omega) (by omega)];omega
  have w5:IntKind.u8.wrap ((127 - (digs m0).length:Nat):Int)=((127 - (digs m0).length:Nat):Int):=Qu (by omega) (by omega)
  rw [if_pos hn] at h
  simp+contextual only [↓eH,w1,hn,↓eH,↓XP,qp,qa]
  refine dW (m0:=m0) (n:=n) (by omega) ⟨rfl,rfl,rfl,rfl,trivial⟩ (fun F' hF'=>?_)
  obtain ⟨z,rfl⟩:=hF'.fl rfl
  try dsimp only [fl,zz,qa,qb] at*
  simp+contextual only [w3,w4,w5,hl9,hn2,↓eH,↓XP,qh,XW1,qc,qe]
  refine fun _=>?_
  rw [QB (by omega)]
  refine pv (hd:=UInt8.ofNat (127 - (digs m0).length)) (d:=digs m0) (n:=n) hd9 ⟨rfl,rfl,rfl,rfl,rfl,trivial⟩ (fun F' hF'=>?_)
  obtain ⟨z,rfl⟩:∃z:Nat->D,_=(let d:=digs m0;let hd:=UInt8.ofNat (127 - (digs m0).length); [z 0,z 1,z 2,z 3,z 4,z 5,.own ((hd::d.reverse.map (qU (decide (n<0)))).map ql),z 7,z 8,z 9,z 10,z 11,z 12,z 13,z 14,z 15,z 16,z 17,z 18,z 19,z 20,z 21,z 22,z 23,z 24,z 25,z 26,z 27,z 28,z 29,z 30,z 31,z 32,z 33,z 34,z 35,z 36,z 37,z 38,z 39,z 40,z 41,z 42,z 43,z 44,z 45,z 46,z 47,z 48,z 49,z 50,z 51,z 52,z 53,z 54,z 55,z 56,z 57,z 58]):=hF'.lit
  simp+contextual only [↓XP,qp,XW1]
  exact h
 ·have w1:n=((m0:Nat):Int):=by
   rw [<-hm0]
   unfold mag
   rw [if_neg hn]
   omega
  have hn2:0<=n:=by omega
  have w4:IntKind.i64.wrap (128+((digs m0).length:Int))=((128+(digs m0).length:Nat):Int):=by rw [qi (by omega) (by omega)];omega
  have w5:IntKind.u8.wrap ((128+(digs m0).length:Nat):Int)=((128+(digs m0).length:Nat):Int):=Qu (by omega) (by omega)
  rw [if_neg hn] at h
  simp+contextual only [↓eH,hn,↓eH,↓XP,qp,qa]
  refine dW (m0:=m0) (n:=n) (by omega) (by refine ⟨rfl,rfl,?_,rfl,trivial⟩;show _=some (D.i (m0:Int));rw [<-w1];rfl) (fun F' hF'=>?_)
  obtain ⟨z,rfl⟩:=hF'.fl rfl
  try dsimp only [fl,zz,qa,qb] at*
  simp+contextual only [w3,w4,w5,hl9,hn2,↓eH,↓XP,qh,XW1,qc,qe]
  refine fun _=>?_
  rw [QB (by omega)]
  refine pv (hd:=UInt8.ofNat (128+(digs m0).length)) (d:=digs m0) (n:=n) hd9 ⟨rfl,rfl,rfl,rfl,rfl,trivial⟩ (fun F' hF'=>?_)
  obtain ⟨z,rfl⟩:∃z:Nat->D,_=(let d:=digs m0;let hd:=UInt8.ofNat (128+(digs m0).length); [z 0,z 1,z 2,z 3,z 4,z 5,.own ((hd::d.reverse.map (qU (decide (n<0)))).map ql),z 7,z 8,z 9,z 10,z 11,z 12,z 13,z 14,z 15,z 16,z 17,z 18,z 19,z 20,z 21,z 22,z 23,z 24,z 25,z 26,z 27,z 28,z 29,z 30,z 31,z 32,z 33,z 34,z 35,z 36,z 37,z 38,z 39,z 40,z 41,z 42,z 43,z 44,z 45,z 46,z 47,z 48,z 49,z 50,z 51,z 52,z 53,z 54,z 55,z 56,z 57,z 58]):=hF'.lit
  simp+contextual only [↓XP,qp,XW1]
  exact h
theorem Kf {l:List UInt8}:(l.map ql).length=l.length:=Nk ..
theorem G9 {n:Nat} (h:n<=140737488355328):wP .i64 (n:Int):=by rw [kX];omega
theorem yd {n:Nat} (h:n<=140737488355328):(qr (n:Int)).length<=9:=kL (G9 h)
theorem KZ (hs:s.length<=3000000000) (h:R (.own ((qF s).map ql)) H):ACall Tryz.prog 113 [.str s] H R:=by
 refine Li fun hf=>?_
 have hbig:=qk
 have hl:=yd (n:=s.length) (by omega)
 simp+contextual only [↓U113,↓U113.1,↓XP,qh,qa]
 refine fun _=>oa fun _=>?_
 simp+contextual only [↓XP,qh]
 refine fun _ _=>⟨qV,qV,by omega,?_⟩
 rw [<-No]
 exact h
theorem Wh (h:i<l.length):(ints l).getD i []= [.i (l.getD i 0)]:=by simp [ints,h]
theorem yU {α:Type} {l:List α} {f:α->List UInt8} {i:Nat} {d:α} (h:i<l.length):(l.take (i+1)).flatMap f=(l.take i).flatMap f++f (l.getD i d):=by
 rw [List.take_add_one,List.flatMap_append]
 simp [h]
theorem uK:∀{l:List Int},(∀x∈l,wP .i64 x)->(l.flatMap qr).length<=9*l.length
 | [],_=>by simp
 | x::r,h=>by
  have h1:=kL (h x (.head _))
  have h2:=uK (l:=r) (fun y hy=>h y (.tail _ hy))
  simp only [List.flatMap_cons,Ni,Nj]
  omega
theorem Qz {l:List Int} {H:AH} (hl:l.length<=30000000) (h:(qK l).length<=9+9*l.length->R (.own ((qK l).map ql)) H):ACall Tryz.prog 110 [.slc (ints l)] H R:=by
 refine MG fun hf=>?_
 have hbig:=qk
 have hle:=yd (n:=l.length) (by omega)
 simp+contextual only [↓cy,jh,↓cy,↓XP,qh,qa]
 refine fun _=>oa fun _=>?_
 simp+contextual only [↓cy,↓XP,qp]
 refine fun _=>XW.loopK hmm (fun F H'=>∃(i:Nat),i<=l.length∧(∀x∈l.take i,wP .i64 x)∧Fr 22 [(0,.slc (ints l)),(3,.own ((qr l.length++(l.take i).flatMap qr).map ql)),(4,.i i)] F∧H=H') (fun F H=>match F.getD 4 .any with| .int _ n'=>l.length - n'.toNat|_=>0) ⟨0,by omega,by simp,by simp only [List.take_zero,List.flatMap_nil,N4];exact ⟨rfl,rfl,rfl,rfl,trivial⟩,rfl⟩ ?_
 rintro _ _ ⟨i,hi,hr,hF,rfl⟩ K hN hE hR
 obtain ⟨z,rfl⟩:=hF.fl rfl
 try dsimp only [fl,zz,qa,qb] at*
 clear hF hR
 by_cases hlt:i<l.length
 ·have nx:wP .i64 (l.getD i 0)->∀F',Fr 22 [(0,.slc (ints l)),(3,.own ((qr l.length++(l.take i).flatMap qr++qr (l.getD i 0)).map ql)),(4,.i ((i+1:Nat):Int))] F'->K .normal F' H:=fun hx F' hF'=>hN _ _ ⟨i+1,hlt,fun x hx'=>by
   rw [List.take_add_one] at hx'
   rcases List.mem_append.1 hx' with hx'|hx'
   ·exact hr x hx'
   ·simp [hlt] at hx'
    rw [hx']
    simpa [hlt] using hx,by rw [yU (d:=0) hlt,<-Np];exact hF',(qz rfl).symm⟩ (by
   rw [Na,hF'.2.2.2.1]
   simp only [Nc,Nd,Nf]
   omega)
  clear hN hE
  have q1:=Wh (l:=l) hlt
  have hfl:=uK hr
  rw [N2] at hfl
  generalize l.getD i 0=x at q1 nx
  have hal:(qr (l.length:Int)++(l.take i).flatMap qr).length<=9+9*i:=by rw [Ni];omega
  generalize qr (l.length:Int)++(l.take i).flatMap qr=ac at nx hal ⊢
  simp+contextual only [jh,q1,↓cy,↓XP,qh]
  refine fun _=>⟨fun _ hx=>oa fun _=>?_,fun hge=>absurd (by omega) hge⟩
  have hxl:=kL hx
  simp+contextual only [qj (show i<=big by omega),↓cy,↓XP,qh]
  refine fun _=>⟨qV,qV,by omega,?_⟩
  rw [<-No]
  exact nx hx _ ⟨rfl,rfl,rfl,rfl,trivial⟩
 ·have hik:i=l.length:=by omega
  subst hik
  clear hN
  simp+contextual only [jh,↓cy,↓XP,qh]
  refine fun _=>hE _ _ _ ?_
  rw [List.take_length] at hr ⊢
  simp+contextual only [↓XP,qp,XW1]
  refine h ?_
  have:=uK hr
  rw [qK,Ni]
  omega
theorem zK:∀{l:List (List UInt8)} {c:Nat},(∀x∈l,x.length<=c)->c<=3000000000->(l.flatMap qF).length<=(9+c)*l.length
 | [],_,_,_=>by simp
 | x::r,c,h,hc=>by
  have h1:=yd (n:=x.length) (by have:=h x (.head _);omega)
  have h3:=h x (.head _)
  have h2:=zK (l:=r) (fun y hy=>h y (.tail _ hy)) hc
  simp only [List.flatMap_cons,Ni,Nj,qF,Nat.mul_add,Nat.mul_one]
  omega
theorem WB (h:i<l.length):(strs l).getD i []= [.str (l.getD i [])]:=by simp [strs,h]
theorem G3 {l:List (List UInt8)} {H:AH} (hl:l.length<=1000) (hs:∀x∈l,x.length<=3000000) (h:R (.own ((yt l).map ql)) H):ACall Tryz.prog 112 [.slc (strs l)] H R:=by
 refine LD fun hf=>?_
 have hbig:=qk
 have hle:=yd (n:=l.length) (by omega)
 simp+contextual only [↓cL,jd,↓cL,↓XP,qh,qa]
 refine fun _=>oa fun _=>?_
 simp+contextual only [↓cL,↓XP,qp]
 refine fun _=>XW.loopK hmm (fun F H'=>∃(i:Nat),i<=l.length∧Fr 22 [(0,.slc (strs l)),(3,.own ((qr l.length++(l.take i).flatMap qF).map ql)),(4,.i i)] F∧H=H') (fun F H=>match F.getD 4 .any with| .int _ n'=>l.length - n'.toNat|_=>0) ⟨0,by omega,by simp only [List.take_zero,List.flatMap_nil,N4];exact ⟨rfl,rfl,rfl,rfl,trivial⟩,rfl⟩ ?_
 rintro _ _ ⟨i,hi,hF,rfl⟩ K hN hE hR
 obtain ⟨z,rfl⟩:=hF.fl rfl
 try dsimp only [fl,zz,qa,qb] at*
 clear hF hR
 by_cases hlt:i<l.length
 ·have nx:∀F',Fr 22 [(0,.slc (strs l)),(3,.own ((qr l.length++(l.take i).flatMap qF++qF (l.getD i [])).map ql)),(4,.i ((i+1:Nat):Int))] F'->K .normal F' H:=fun F' hF'=>hN _ _ ⟨i+1,hlt,by rw [yU (d:= []) hlt,<-Np];exact hF',(qz rfl).symm⟩ (by
   rw [Na,hF'.2.2.2.1]
   simp only [Nc,Nd,Nf]
   omega)
  clear hN hE
  have q1:=WB (l:=l) hlt
  have hfl:=zK (l:=l.take i) (c:=3000000) (fun x hx=>hs x (List.mem_of_mem_take hx)) (by omega)
  have hx1:(l.getD i []).length<=3000000:=hs _ (by rw [jB hlt];exact List.getElem_mem hlt)
  rw [N2] at hfl
  generalize l.getD i []=x at q1 nx hx1
  have hal:(qr (l.length:Int)++(l.take i).flatMap qF).length<=9+3000009*1000:=by
   rw [Ni]
   have:(9+3000000)*min i l.length<=3000009*1000:=Nat.mul_le_mul_left _ (by omega)
   omega
  generalize qr (l.length:Int)++(l.take i).flatMap qF=ac at nx hal ⊢
  simp+contextual only [jd,q1,↓cL,↓XP,qh]
  refine fun _=>⟨fun _ _=>KZ (by omega) ?_,fun hge=>absurd (by omega) hge⟩
  have hxl:(qF x).length<=9+3000000:=by
   have:=yd (n:=x.length) (by omega)
   simp only [qF,Ni]
   omega
  simp+contextual only [qj (show i<=big by omega),↓cL,↓XP,qh]
  refine fun _=>⟨qV,qV,by omega,?_⟩
  rw [<-No]
  exact nx _ ⟨rfl,rfl,rfl,rfl,trivial⟩
 ·have hik:i=l.length:=by omega
  subst hik
  clear hN
  simp+contextual only [jd,↓cL,↓XP,qh]
  refine fun _=>hE _ _ _ ?_
  rw [List.take_length]
  simp+contextual only [↓XP,qp,XW1]
  exact h
theorem VL {x:Id3} {H:AH} (h:R (.own (ints [x.o,x.s,x.i])) H):ACall Tryz.prog 111 [.agg x.d] H R:=by
 refine In fun hf=>?_
 have hd:x.d= [.i x.o,.i x.s,.i x.i]:=rfl
 simp+contextual only [↓U111,hd,↓U111.1,↓XP,qh,XW1,qa,qc,qe]
 exact fun _ _ _ _ _=>h
theorem pF (h:x<18446744073709551616):18446744073709551615 ^^^ x=18446744073709551615 - x:=by
 apply Nat.eq_of_testBit_eq
 intro i
 have e1:(18446744073709551615:Nat)=2 ^ 64 - 1:=rfl
 have e2:(18446744073709551615:Nat) - x=2 ^ 64 - (x+1):=by omega
 rw [Nat.testBit_xor,e2,e1,Nat.testBit_two_pow_sub_one,Nat.testBit_two_pow_sub_succ h]
 by_cases hi:i<64
 ·simp [hi]
 ·have:x.testBit i=false:=Nat.testBit_lt_two_pow (Nr (show x<2 ^ 64 from h) (Nat.pow_le_pow_right (by decide) (Nat.le_of_not_lt hi)))
  simp [hi,this]
theorem LR (h:x<256):x ^^^ 255=255 - x:=by
 apply Nat.eq_of_testBit_eq
 intro i
 have e1:(255:Nat)=2 ^ 8 - 1:=rfl
 have e2:(255:Nat) - x=2 ^ 8 - (x+1):=by omega
 rw [Nat.testBit_xor,e2,e1,Nat.testBit_two_pow_sub_one,Nat.testBit_two_pow_sub_succ h]
 by_cases hi:i<8
 ·simp [hi]
 ·have:x.testBit i=false:=Nat.testBit_lt_two_pow (Nr (show x<2 ^ 8 from h) (Nat.pow_le_pow_right (by decide) (Nat.le_of_not_lt hi)))
  simp [hi,this]
def YA (b:Bool):Int:=if b=true then 255 else 0
theorem Ac {b:Bool} {x:Nat} (h:x<256):bits .xor .u8 (x:Int) (YA b)=((qU b (UInt8.ofNat x)).toNat:Int):=by
 cases b with
 | false=>
  have:=u8_xor_nat x 0 h (by omega)
  simp only [Nat.xor_zero] at this
  simp only [YA,qU,Bool.false_eq_true,if_false]
  rw [show ((0:Int))=((0:Nat):Int) from rfl,this,UInt8.toNat_ofNat',Nat.mod_eq_of_lt h]
 | true=>
  have:=u8_xor_nat x 255 h (by omega)
  rw [LR h] at this
  have hx:(UInt8.ofNat x).toNat=x:=by rw [UInt8.toNat_ofNat',Nat.mod_eq_of_lt h]
  simp only [YA,qU,if_true]
  rw [show ((255:Int))=((255:Nat):Int) from rfl,this,UInt8.toNat_sub_of_le _ _ (by rw [UInt8.le_iff_toNat_le,hx];simp;omega),hx]
  simp
theorem aa:∀(m k:Nat),(digs m).length<=k↔m<256 ^ k
 | m,0=>by
  by_cases hm:m=0
  ·subst hm;simp [kf]
  ·rw [yK hm];simp;omega
 | m,k+1=>by
  by_cases hm:m=0
  ·subst hm;simp [kf,Nat.pow_pos]
  ·rw [yK hm,Nj,Nat.succ_le_succ_iff,aa (m / 256) k,Nat.div_lt_iff_lt_mul (by omega),Nat.pow_succ]
theorem Z5:∀(i m:Nat),i<(digs m).length->(digs m).getD i 0=UInt8.ofNat (m / 256 ^ i % 256)
 | i,m,h=>by
  by_cases hm:m=0
  ·subst hm;simp [kf] at h
  ·rw [yK hm] at h ⊢
   cases i with
   |zero=>simp
   | succ i=>
    rw [Nc,Z5 i (m / 256) (by simpa using h),Nat.div_div_eq_div_mul,Nat.pow_succ,Nat.mul_comm]
theorem aE {m i:Nat} (hi:i<=8):((m:Int)).fdiv (2 ^ (min ((8*(i:Int)).toNat) IntKind.u64.bits))=((m / 256 ^ i:Nat):Int):=by
 have e1:(8*(i:Int)).toNat=8*i:=by omega
 have e2:min (8*i) IntKind.u64.bits=8*i:=by
  have:IntKind.u64.bits=64:=rfl
  omega
 rw [e1,e2,show (256:Nat)=2 ^ 8 from rfl,<-Nat.pow_mul]
 rw [Int.fdiv_eq_ediv_of_nonneg _ (by exact Int.le_of_lt (Int.pow_pos (by omega)))]
 norm_cast
theorem bR (h:wP .i64 n):IntKind.u64.wrap n=(if n<0 then n+18446744073709551616 else n):=by
 rw [kX] at h
 rw [IntKind.wrap_u64]
 split<;>omega
theorem iK:IntKind.u8.wrap ((x:Nat):Int)=((x % 256:Nat):Int):=by
 rw [IntKind.wrap_u8']
 omega
end Go.Proofs.YtgopigkdcmhbbaaGreatDoor
end
noncomputable section
namespace Go.Proofs.YtgopigkdcmhbbaaGreatDoor
open Go.Xs
open Go Go.Aw
def Ju:=yy Tryz.f22
def V22:=PLift.up (aI (aI (aI (@unf (Ju 41) (X (G [u,u,u,u,u,u,u,z 47,z 47,z 47,z 47,z 47,u,u,z 54,z 54,z 54,y 57,y 57,y 57,y 57,y 57,y 57,y 57,y 57,y 57,y 57,z 54,u]) (T (F [u]))) rfl) (aI (@unf (Ju 37) (X (O (R [v,u,v,u,u,u] (Ju 41))) (r [u,u])) rfl) (@unf (Ju 31) (R [u] (X I (Ju 37))) rfl))) (aI (@unf (Ju 64) (R [u,u,u] (T (F [u]))) rfl) (aI (@unf (Ju 60) (X (O (R [u,v,u,u] (Ju 64))) (r [u,u])) rfl) (@unf (Ju 54) (R [u] (X I (Ju 60))) rfl)))) (aI (aI (@unf (Ju 72) (X (R [u,u,u,u] (T (F [u]))) (F [u])) rfl) (aI (@unf (Ju 49) (X (R [u,u,u,u] (U (Ju 54))) (Ju 72)) rfl) (@unf (Ju 26) (X (R [u,u,u,u] (U (Ju 31))) (Ju 49)) rfl))) (aI (aI (@unf (Ju 18) (X (R [u,u,u,u] (T (F [u]))) (Ju 26)) rfl) (@unf (Ju 10) (X (R [u,u,u,u,u,z 23,z 23,z 23,z 23,u] (T (F [u]))) (Ju 18)) rfl)) (aI (@unf (Ju 2) (X (R [u,u,u,u,u,u,u,z 13,z 13,z 13,z 13,u] (T (F [u]))) (Ju 10)) rfl) (@unf (Ju 0) (R [u,u] (Ju 2)) rfl)))))
theorem nQ:type_of% V22.down:=V22.down
theorem b22:Bt 22 86 (Ju 0) [(.tmp 2)]:=bt Tryz.func22 rfl
def EU:=yy Tryz.f43
def V43:=PLift.up (aI (@unf (EU 2) (F [u,u,u,y 7,y 7,v,u]) rfl) (@unf (EU 0) (R [u] (EU 2)) rfl))
theorem U43:type_of% V43.down:=V43.down
theorem b43:Bt 43 11 (EU 0) [(.tmp 4)]:=bt Tryz.func43 rfl
def ES:=yy Tryz.f44
def V44:=PLift.up (aI (@unf (ES 2) (F [u,u,u,u,y 10,y 10,y 10,v,u]) rfl) (@unf (ES 0) (R [u] (ES 2)) rfl))
theorem U44:type_of% V44.down:=V44.down
theorem b44:Bt 44 15 (ES 0) [(.tmp 6)]:=bt Tryz.func44 rfl
def g9:=yy Tryz.f45
def V45:=PLift.up (aI (aI (aI (@unf (g9 51) (X (G [u,u,u,u,z 135,z 135,z 135,z 135,z 135,z 135,u,u,z 143,z 143,z 143,z 143,y 147,y 147,y 147,y 147,z 143,u]) (T (F [u]))) rfl) (@unf (g9 47) (X (O (R [v,u,v,u,u,u] (g9 51))) (r [u,u])) rfl)) (aI (@unf (g9 41) (R [u] (X I (g9 47))) rfl) (aI (@unf (g9 59) (F [u,u,u,u,z 158,z 158,z 158,z 158,z 158,v,u]) rfl) (@unf (g9 36) (X (R [u,u,u,u] (U (g9 41))) (g9 59)) rfl)))) (aI (aI (@unf (g9 28) (X (R [u,u,u,y 98,y 98,y 98,y 98,u,u,z 104,z 104,z 104,y 107,y 107,y 107,y 107,z 104,u,u,z 114,z 114,z 114,y 117,y 117,y 117,y 117,z 114,u] (T (F [u]))) (g9 36)) rfl) (aI (@unf (g9 20) (X (X (G [u,u,u,u,u,u,u,u,z 78,z 78,z 78,z 78,z 78,z 78,z 78,u,u,z 87,z 87,z 87,z 87,z 87,z 87,z 87,u]) (T (F [u]))) (g9 28)) rfl) (@unf (g9 12) (X (X (G [u,u,u,u,u,u,u,u,z 51,z 51,z 51,z 51,y 55,y 55,y 55,z 51,u,u,z 61,z 61,z 61,z 61,y 65,y 65,y 65,z 61,u]) (T (F [u]))) (g9 20)) rfl))) (aI (@unf (g9 4) (X (R [u,u,u,z 14,z 14,z 14,z 14,z 14,z 14,z 14,z 14,u,u,z 24,z 24,z 24,z 24,z 24,z 24,z 24,z 24,z 24,z 24,z 24,u,u,z 37,z 37,z 37,z 37,z 37,u] (T (F [u]))) (g9 12)) rfl) (aI (@unf (g9 2) (R [u,u,u,v,v,u,u,u] (g9 4)) rfl) (@unf (g9 0) (R [u,u] (g9 2)) rfl)))))
theorem U45:type_of% V45.down:=V45.down
theorem b45:Bt 45 165 (g9 0) [(.tmp 2)]:=bt Tryz.func45 rfl
def F6:=yy Tryz.f28
def V28:=PLift.up (aI (@unf (F6 4) (F [u,u,v,u]) rfl) (@unf (F6 0) (R [u,u] (R [u,u] (F6 4))) rfl))
theorem U28:type_of% V28.down:=V28.down
theorem b28:Bt 28 7 (F6 0) [(.tmp 2)]:=bt Tryz.func28 rfl
def W4:=yy Tryz.f89
def x89_c4:XC:=(.regT [4] [([f 71 1 3 56,l 67 56 57,e 67 57 58,Q .sub 3 58 1 59,b (.build 136 #[(0,(i 2)),(1,(i 4))]) 60,f 145 4 5 61],s (.store 3 (t 61) (i (-1))),false),([f 145 4 6 62],w 3 62 59,true)] [f 145 4 7 63] [w 136 63 60])
def x89_c5:XC:=(R [Q .eql 3 7 16 55,n 55 54] (C 54 x89_c4 (R [Q .eql 3 7 17 65,n 65 64] (W4 74))))
def x89_s6:XC:=(C 50 (W4 67) x89_c5)
def x89_s7:XC:=(C 46 (W4 63) (R [Q .eql 3 7 15 51,n 51 50] x89_s6))
def x89_s8:XC:=(C 42 (W4 59) (R [Q .eql 3 7 14 47,n 47 46] x89_s7))
def x89_s9:XC:=(C 38 (W4 55) (R [Q .eql 3 7 13 43,n 43 42] x89_s8))
def x89_s10:XC:=(C 35 (.reg [f 145 4 4 37,s (.store 4 (t 37) (.const (.bool true)))]) (R [Q .eql 3 7 12 39,n 39 38] x89_s9))
def x89_s11:XC:=(C 32 (.reg [f 145 4 6 34,s (.store 3 (t 34) (i 1))]) (R [Q .eql 3 7 11 36,n 36 35] x89_s10))
def x89_s12:XC:=(C 29 (.reg [f 145 4 2 31,s (.store 4 (t 31) (.const (.bool true)))]) (R [Q .eql 3 7 9 33,n 33 32] x89_s11))
def x89_s13:XC:=(C 25 (.reg [f 145 4 3 28,s (.store 4 (t 28) (.const (.bool true)))]) (R [Q .eql 3 7 6 30,n 30 29] x89_s12))
def x89_c14:XC:=(.seq (R [Q .eql 3 7 5 26,n 26 25] (C 25 .skip (.reg [Q .eql 3 7 7 27,n 27 25]))) x89_s13)
def x89_c16:XC:=(.seq (R [Q .eql 3 7 2 21,n 21 20] (C 20 .skip (W4 25))) (C 20 (.reg [f 145 4 6 24,s (.store 3 (t 24) (i 1048576))]) x89_c14))
def x89_s17:XC:=(C 12 (.reg [b (.build 145 #[(2,(.const (.bool true))),(3,(.const (.bool true))),(4,(.const (.bool true)))]) 14,w 145 4 14]) (R [Q .eql 3 7 4 16,n 16 15] (C 15 (W4 19) x89_c16)))
def x89_s18:XC:=(C 9 (.reg [b (.build 145 #[(2,(.const (.bool true))),(3,(.const (.bool true)))]) 11,w 145 4 11]) (R [Q .eql 3 7 3 13,n 13 12] x89_s17))
def x89_s20:XC:=(.seq (R [f 71 1 0 6,l 3 6 7] (.block 0 (R [Q .eql 3 7 1 10,n 10 9] x89_s18))) (W4 83))
def x89_s21:XC:=(R [b (.build 145 #[(0,(.const (.bool true)))]) 5,a (.alloc 145) 4,w 145 4 5] x89_s20)
def x89:XC:=(R [B 71 0 1,a (.alloc 145) 2,a (.assign (.const (.bool false))) 3] x89_s21)
def V89r:=PLift.up (aI (aI (@unf (W4 67) (r [u,u,u,u]) rfl) (@unf (W4 63) (r [u,u,u,u]) rfl)) (aI (@unf (W4 59) (r [u,u,u,u]) rfl) (@unf (W4 55) (r [u,u,u,u]) rfl)))
theorem He:type_of% V89r.down:=V89r.down
def V89:=PLift.up (aI (aI (aI (aI (@unf (W4 25) (R [v,u] (V .skip (r [v,u]))) rfl) (@unf (W4 79) (r [v,u,u,u,u]) rfl)) (aI (@unf (W4 78) (V (W4 79) (F [v,u,u])) rfl) (aI (@unf (W4 74) (V (r [u,u]) (R [v,u] (W4 78))) rfl) (@unf _ _ x89_c4.eq_1)))) (aI (aI (@unf _ _ x89_c5.eq_1) (aI (@unf _ _ x89_s6.eq_1) (@unf _ _ x89_s7.eq_1))) (aI (@unf _ _ x89_s8.eq_1) (aI (@unf _ _ x89_s9.eq_1) (@unf _ _ x89_s10.eq_1))))) (aI (aI (aI (@unf _ _ x89_s11.eq_1) (@unf _ _ x89_s12.eq_1)) (aI (@unf _ _ x89_s13.eq_1) (aI (@unf _ _ x89_c14.eq_1) (@unf (W4 19) (r [u,u,u,u,u,u]) rfl)))) (aI (aI (@unf _ _ x89_c16.eq_1) (aI (@unf _ _ x89_s17.eq_1) (@unf _ _ x89_s18.eq_1))) (aI (@unf (W4 83) (F [v,u,u]) rfl) (aI (@unf _ _ x89_s20.eq_1) (@unf _ _ x89_s21.eq_1))))))
theorem U89:type_of% V89.down:=V89.down
theorem b89:Bt 89 73 x89 [(.cell 2 145),(.tmp 3)]:=bt Tryz.func89 rfl
def EV:=yy Tryz.f90
def V90:=PLift.up (aI (@unf (EV 2) (F [u,u,u,u,u,u,y 8,y 8,y 8,v,u]) rfl) (@unf (EV 0) (R [u,u] (EV 2)) rfl))
theorem U90:type_of% V90.down:=V90.down
theorem b90:Bt 90 13 (EV 0) [(.tmp 2)]:=bt Tryz.func90 rfl
def EE:=yy Tryz.f91
def V91:=PLift.up (aI (@unf (EE 2) (F [u,u,u,u,y 6,y 6,y 6,y 6,y 6,u,u,y 13,y 13,y 13,v,u]) rfl) (@unf (EE 0) (R [u,u] (EE 2)) rfl))
theorem U91:type_of% V91.down:=V91.down
theorem b91:Bt 91 18 (EE 0) [(.tmp 2)]:=bt Tryz.func91 rfl
def Fg:=yy Tryz.f92
def V92:=PLift.up (aI (@unf (Fg 2) (F [u,u,u,v,u]) rfl) (@unf (Fg 0) (R [u,u] (Fg 2)) rfl))
theorem U92:type_of% V92.down:=V92.down
theorem b92:Bt 92 9 (Fg 0) [(.tmp 4)]:=bt Tryz.func92 rfl
def YY:=yy Tryz.f120
def V120:=PLift.up (aI (aI (@unf (YY 17) (X (G [u,u,u,u,u,u]) (T (F [v,u]))) rfl) (@unf (YY 13) (X (O (R [v,u] (YY 17))) (r [u,u])) rfl)) (aI (@unf (YY 7) (R [u] (X I (YY 13))) rfl) (aI (@unf (YY 2) (X (R [u,u,u] (U (YY 7))) (F [u])) rfl) (@unf (YY 0) (R [u,u] (YY 2)) rfl))))
theorem eX:type_of% V120.down:=V120.down
theorem LT:Bt 120 19 (YY 0) [(.tmp 4)]:=bt Tryz.func120 rfl
def gG:=yy Tryz.f42
def x42_s8:XC:=(.seq (.gh (.reg [f 71 8 1 55,l 66 55 56,k2 85 9 56 139 66 57])) (gG 46))
def x42_s9:XC:=(R [f 71 8 0 51,l 3 51 52,a (.call ⟨(.builtin .real),#[t 52],#[22]⟩) 53,b (.build 139 #[(0,(t 53))]) 54,a (.alloc 139) 9,w 139 9 54] x42_s8)
def x42_s10:XC:=(.seq (.block 3 (.seq (gG 41) x42_s9)) (.reg [q .add 3 47 1 93,m 93 47]))
theorem nj:type_of% (@unf _ _ x42_s10.eq_1):=unf x42_s10.eq_1
def x42_L11:XC:=(R [p .lss 3 47 46 48] (.seq (C 48 .skip (.exit 2)) x42_s10))
def x42_s13:XC:=(.seq (.seq (gG 29) (.block 2 (.loop x42_L11))) (gG 58))
def x42_s14:XC:=(.seq (gG 26) x42_s13)
def x42_s15:XC:=(.seq (gG 24) x42_s14)
def x42_s16:XC:=(.seq (.seq (gG 8) (.block 0 (.loop (gG 11)))) x42_s15)
def x42_s17:XC:=(.seq (gG 3) (R [Z 4] x42_s16))
def x42:XC:=(R [B 26 0 1,Z 2] x42_s17)
def V42r:=PLift.up (aI (aI (@unf (gG 41) (r [u,v,u,u]) rfl) (aI (@unf (gG 29) (r [u,u,u,u]) rfl) (@unf (gG 26) (r [x,u,u,u,u,v,u]) rfl))) (aI (@unf (gG 24) (r [x,u,u,v,u]) rfl) (aI (@unf (gG 8) (r [u,u,u,u]) rfl) (@unf (gG 3) (r [u,u,u,u,u,u,u,v,u]) rfl))))
theorem uo:type_of% V42r.down:=V42r.down
def V42:=PLift.up (aI (aI (aI (aI (@unf (gG 21) (r [x,u,u,u,u,u,v,u]) rfl) (@unf (gG 17) (X (O (R [u,v,u,u] (gG 21))) (r [u,u])) rfl)) (aI (@unf (gG 11) (R [u] (X I (gG 17))) rfl) (@unf (gG 56) (r [x,u,u,u,u,u,u,v,u]) rfl))) (aI (aI (@unf (gG 54) (R [x,u,u,u,v,u] (gG 56)) rfl) (@unf (gG 52) (R [u,u,u,u] (gG 54)) rfl)) (aI (@unf (gG 48) (R [x,u,x,u,u,u,u,u,u,u,u,u,u,u,v,u] (R [u] (gG 52))) rfl) (aI (@unf (gG 46) (R [u,u,u] (gG 48)) rfl) (@unf _ _ x42_s8.eq_1))))) (aI (aI (aI (@unf _ _ x42_s9.eq_1) (@unf _ _ x42_s10.eq_1)) (aI (@unf _ _ x42_L11.eq_1) (@unf (gG 58) (F [x,u,u,u,v,u]) rfl))) (aI (aI (@unf _ _ x42_s13.eq_1) (@unf _ _ x42_s14.eq_1)) (aI (@unf _ _ x42_s15.eq_1) (aI (@unf _ _ x42_s16.eq_1) (@unf _ _ x42_s17.eq_1))))))
theorem Gi:type_of% V42.down:=V42.down
theorem b42:Bt 42 99 x42 [(.tmp 2)]:=bt Tryz.func42 rfl
def dl:=yy Tryz.f84
def V84:=PLift.up (aI (aI (@unf (dl 19) (r [x,u,u,v,u]) rfl) (aI (@unf (dl 15) (X (O (R [u,v,u] (dl 19))) (r [u,u])) rfl) (@unf (dl 9) (R [u] (X I (dl 15))) rfl))) (aI (@unf (dl 4) (X (R [u,u,u] (U (dl 9))) (F [v,u])) rfl) (aI (@unf (dl 2) (R [u,u,v,u] (dl 4)) rfl) (@unf (dl 0) (R [u] (dl 2)) rfl))))
theorem CL:type_of% V84.down:=V84.down
theorem b84:Bt 84 21 (dl 0) [(.tmp 2)]:=bt Tryz.func84 rfl
def Jk:=yy Tryz.f64
def V64:=PLift.up (aI (aI (aI (@unf (Jk 8) (T (r [u,v,u,u])) rfl) (aI (@unf (Jk 31) (r [u,v,u]) rfl) (@unf (Jk 24) (O (X (R [u,u,u,u,u,u] (T (.exit _))) (Jk 31))) rfl))) (aI (@unf (Jk 18) (X (R [u,u] I) (Jk 24)) rfl) (aI (@unf (Jk 48) (r [u,v,u]) rfl) (@unf (Jk 45) (X (O (r [x,u,u,u,u,u,u,u,u,v,u])) (Jk 48)) rfl)))) (aI (aI (@unf (Jk 39) (X (R [u,u] I) (Jk 45)) rfl) (aI (@unf (Jk 34) (X (R [u,v,u] (U (Jk 39))) (F [v,u])) rfl) (@unf (Jk 32) (R [u,u,u,u,u,v,u] (Jk 34)) rfl))) (aI (@unf (Jk 5) (X (R [u,u] (Jk 8)) (R [u] (X .skip (X (U (Jk 18)) (Jk 32))))) rfl) (aI (@unf (Jk 2) (.scope (R [u,v,u,u] (Jk 5))) rfl) (@unf (Jk 0) (R [u] (Jk 2)) rfl)))))
theorem iG:type_of% V64.down:=V64.down
theorem b64:Bt 64 47 (Jk 0) [(.tmp 2)]:=bt Tryz.func64 rfl
def x85_s0:XC:=(.regT [0] [([m 0 4,m 0 5,a (.nilCheck (t 5)) 6,f 139 6 0 7],c (.load 22 (t 7)) 8,false)] [f 66 3 0 9,l 3 9 10,f 66 3 1 11,l 3 11 12,f 66 3 2 13,l 3 13 14,a (.buildSlice 22 3 #[(0,(t 10)),(1,(t 12)),(2,(t 14))]) 15,b (.call ⟨(.builtin .append),#[t 8,t 15],#[22,22]⟩) 16,a (.nilCheck (t 4)) 17,f 139 17 0 18] [w 22 18 16])
theorem ig:type_of% (@unf _ _ x85_s0.eq_1):=unf x85_s0.eq_1
def LO:XC:=(R [B 66 1 3] x85_s0)
theorem b85:Bt 85 19 LO []:=bt Tryz.func85 rfl
def dc:=yy Tryz.f87
def V87:=PLift.up (aI (aI (@unf (dc 19) (r [x,u,u,v,u]) rfl) (aI (@unf (dc 15) (X (O (R [u,v,u] (dc 19))) (r [u,u])) rfl) (@unf (dc 9) (R [u] (X I (dc 15))) rfl))) (aI (@unf (dc 4) (X (R [u,u,u] (U (dc 9))) (F [v,u])) rfl) (aI (@unf (dc 2) (R [u,u,v,u] (dc 4)) rfl) (@unf (dc 0) (R [u] (dc 2)) rfl))))
theorem Cg:type_of% V87.down:=V87.down
theorem b87:Bt 87 21 (dc 0) [(.tmp 2)]:=bt Tryz.func87 rfl
def EO:=yy Tryz.f88
def V88:=PLift.up (aI (@unf (EO 2) (F [u,u,x,u,v,u]) rfl) (@unf (EO 0) (R [u] (EO 2)) rfl))
theorem U88:type_of% V88.down:=V88.down
theorem b88:Bt 88 8 (EO 0) [(.tmp 2)]:=bt Tryz.func88 rfl
def AL:=yy Tryz.f29
def V29:=PLift.up (aI (@unf (AL 10) (F [x,u,v,u]) rfl) (aI (@unf (AL 2) (X (R [u,u] (T (F [u]))) (AL 10)) rfl) (@unf (AL 0) (R [u] (AL 2)) rfl)))
theorem U29:type_of% V29.down:=V29.down
theorem b29:Bt 29 8 (AL 0) [(.tmp 2)]:=bt Tryz.func29 rfl
def B0:=yy Tryz.f31
def V31:=PLift.up (aI (@unf (B0 10) (F [x,u,v,u]) rfl) (aI (@unf (B0 2) (X (R [u,u] (T (F [u]))) (B0 10)) rfl) (@unf (B0 0) (R [u] (B0 2)) rfl)))
theorem U31:type_of% V31.down:=V31.down
theorem b31:Bt 31 8 (B0 0) [(.tmp 2)]:=bt Tryz.func31 rfl
end Go.Proofs.YtgopigkdcmhbbaaGreatDoor
end
section
namespace Go.Proofs.YtgopigkdcmhbbaaGreatDoor
open Go Go.Aw
variable {R:D->AH->Prop}
theorem rh (hm:(digs m0).length<=8) (hF:Fr 47 [(3,.int .u64 (m0:Int)),(4,.int .u8 (YA b)),(5,.i 8)] F) (hE:∀F',Fr 47 [(3,.int .u64 (m0:Int)),(4,.int .u8 (YA b)),(5,.i ((digs m0).length:Int))] F'->Q (.exit 0) F' H):XW Tryz.prog (Jk 18) F H Q:=by
 have hbig:=qk
 refine XW.loopK hmm (fun F H'=>∃(k:Nat),k<=8∧(digs m0).length<=k∧Fr 47 [(3,.int .u64 (m0:Int)),(4,.int .u8 (YA b)),(5,.i (k:Int))] F∧H=H') (fun F H=>match F.getD 5 .any with| .int _ n'=>n'.toNat|_=>0) ⟨8,by omega,hm,hF,rfl⟩ ?_
 rintro _ _ ⟨k,hk,hd,hF,rfl⟩ K hN hE' hR
 obtain ⟨z,rfl⟩:=hF.fl rfl
 try dsimp only [fl,zz,qa,qb] at*
 clear hF hR
 rcases k with _|k
 ·clear hN
  have hd0:(digs m0).length=0:=by omega
  simp+contextual only [show (0<((0:Nat):Int))=False from by simp,↓iG,↓XP,qp]
  exact hE' _ _ _ (hE _ (by rw [hd0];exact ⟨rfl,rfl,rfl,rfl,trivial⟩))
 ·have w1:IntKind.i64.wrap (((k+1:Nat):Int) - 1)=(k:Int):=by rw [qi (by omega) (by omega)];omega
  have w2:IntKind.i64.wrap (8*(k:Int))=8*(k:Int):=qi (by omega) (by omega)
  have w3:=aE (m:=m0) (i:=k) (by omega)
  have hc:=aa m0 k
  by_cases hle:(digs m0).length<=k
  ·have hz:m0 / 256 ^ k=0:=Nat.div_eq_of_lt (hc.1 hle)
   rw [hz] at w3
   simp+contextual only [show (0<((k+1:Nat):Int))=True from qo,w1,w2,w3,show (0<=8*(k:Int))=True from qo,show (0<((0:Nat):Int))=False from by simp,↓iG,↓XP,qp]
   refine hN _ _ ⟨k,by omega,hle,⟨rfl,rfl,rfl,rfl,trivial⟩,(qz rfl).symm⟩ ?_
   simp only [Nc,Nd]
   omega
  ·have hp:0<m0 / 256 ^ k:=by
    refine Nat.div_pos ?_ (Nat.pow_pos (by omega))
    have:=mt hc.2 hle
    omega
   have hlen:(digs m0).length=k+1:=by omega
   clear hN
   simp+contextual only [show (0<((k+1:Nat):Int))=True from qo,w1,w2,w3,show (0<=8*(k:Int))=True from qo,show (0<((m0 / 256 ^ k:Nat):Int))=True from qo,↓iG,↓XP,qp,qf]
   exact hE' _ _ _ (hE _ (by rw [hlen];exact ⟨rfl,rfl,rfl,rfl,trivial⟩))
theorem pR (hm:(digs m0).length<=8) (hF:Fr 47 [(3,.int .u64 (m0:Int)),(4,.int .u8 (YA b)),(6,.own ([hd].map ql)),(7,.i (((digs m0).length:Int) - 1))] F) (hE:∀F',Fr 47 [(6,.own ((hd::(digs m0).reverse.map (qU b)).map ql))] F'->Q (.exit 2) F' H):XW Tryz.prog (Jk 39) F H Q:=by
 have hbig:=qk
 refine XW.loopK hmm (fun F H'=>∃(j:Nat),j<=(digs m0).length∧Fr 47 [(3,.int .u64 (m0:Int)),(4,.int .u8 (YA b)),(6,.own ((hd::((digs m0).drop j).reverse.map (qU b)).map ql)),(7,.i ((j:Int) - 1))] F∧H=H') (fun F H=>match F.getD 7 .any with| .int _ n'=>(n'+1).toNat|_=>0) ⟨(digs m0).length,by omega,by rw [List.drop_length];exact hF,rfl⟩ ?_
 rintro _ _ ⟨j,hj,hF,rfl⟩ K hN hE' hR
 obtain ⟨z,rfl⟩:=hF.fl rfl
 try dsimp only [fl,zz,qa,qb] at*
 clear hF hR
 rcases j with _|j
 ·clear hN
  simp+contextual only [show ((0:Nat):Int) - 1= -1 from rfl,show (0<=(-1:Int))=False from by simp,↓iG,↓XP,qp]
  exact hE' _ _ _ (hE _ ⟨rfl,rfl,trivial⟩)
 ·have e0:((j+1:Nat):Int) - 1=(j:Int):=by omega
  have nx:∀F',Fr 47 [(3,.int .u64 (m0:Int)),(4,.int .u8 (YA b)),(6,.own ((hd::((digs m0).drop j).reverse.map (qU b)).map ql)),(7,.i ((j:Int) - 1))] F'->K .normal F' H:=fun F' hF'=>hN _ _ ⟨j,by omega,hF',(qz rfl).symm⟩ (by
   rw [Na,hF'.2.2.2.2.1]
   simp only [Nc,Nd,Nf]
   omega)
  clear hN hE hE'
  rw [Uq (show j<(digs m0).length by omega)] at nx
  rw [e0]
  have q1:(digs m0)[j]=UInt8.ofNat (m0 / 256 ^ j % 256):=by
   rw [<-Z5 j m0 (by omega),Na,Nb (show j<(digs m0).length by omega)]
   rfl
  have hlen:(List.map ql (hd::((digs m0).drop (j+1)).reverse.map (qU b))).length<=9:=by
   simp only [Nk,Nj,List.length_reverse,List.length_drop]
   omega
  have w1:IntKind.i64.wrap ((j:Int) - 1)=(j:Int) - 1:=qi (by omega) (by omega)
  have w2:IntKind.i64.wrap (8*(j:Int))=8*(j:Int):=qi (by omega) (by omega)
  have w3:=aE (m:=m0) (i:=j) (by omega)
  have w4:=iK (x:=m0 / 256 ^ j)
  have w5:=Ac (b:=b) (x:=m0 / 256 ^ j % 256) (Nat.mod_lt _ (by omega))
  rw [<-q1] at w5
  rw [q1] at nx
  rw [q1] at w5
  simp only [No,List.map_cons,List.map_nil] at nx
  simp+contextual only [show (0<=(j:Int))=True from qo,w1,w2,w3,w4,w5,show (0<=8*(j:Int))=True from qo,↓iG,↓XP,qh,XW1,qc,qe]
  exact ⟨⟨rfl,qV⟩,by simp only [List.length_reverse,List.length_drop];omega,nx _ ⟨rfl,rfl,rfl,rfl,rfl,trivial⟩⟩
theorem gQ (h:wP .i64 n->R (.own ((qr n).map ql)) H):ACall Tryz.prog 64 [.i n] H R:=by
 refine b64 fun hf=>?_
 have hbig:=qk
 have hin:wP .i64 n:=hf.1
 have hr:=hin
 rw [kX] at hr
 replace h:=h hin
 have hlen:=Ka hin
 have hm:=VF hin
 obtain ⟨m0,hm0⟩:∃m0,mag n=m0:=⟨_,rfl⟩
 rw [qr,hm0] at h
 rw [hm0] at hlen hm
 have w0:=bR hin
 have w3:IntKind.i64.wrap (((digs m0).length:Int) - 1)=((digs m0).length:Int) - 1:=qi (by omega) (by omega)
 have w4:IntKind.i64.wrap (128+((digs m0).length:Int))=((128+(digs m0).length:Nat):Int):=by rw [qi (by omega) (by omega)];omega
 have w5:IntKind.u8.wrap ((128+(digs m0).length:Nat):Int)=((128+(digs m0).length:Nat):Int):=Qu (by omega) (by omega)
 have w6:=fun c=>Ac (b:=c) (x:=128+(digs m0).length) (by omega)
 by_cases hn:n<0
 ·have e1:n+18446744073709551616=((18446744073709551615 - m0:Nat):Int):=by
   have:m0=(-1 - n).toNat:=by rw [<-hm0,mag,if_pos hn]
   omega
  have ux:bits .xor .u64 (if IntKind.u64.signed=true then -1 else IntKind.u64.max) ((18446744073709551615 - m0:Nat):Int)=((m0:Nat):Int):=by
   rw [show (if IntKind.u64.signed=true then (-1:Int) else IntKind.u64.max)=((18446744073709551615:Nat):Int) from rfl,u64_xor_nat _ _ (by omega) (by omega),pF (by omega)]
   omega
  rw [if_pos hn] at h w0
  rw [e1] at w0
  rw [show 127 - (digs m0).length=(qU true (UInt8.ofNat (128+(digs m0).length))).toNat from by
   rw [qU,if_pos rfl,UInt8.toNat_sub_of_le _ _ (by rw [UInt8.le_iff_toNat_le,UInt8.toNat_ofNat'];simp;omega),UInt8.toNat_ofNat']
   simp
   omega,UInt8.ofNat_toNat,decide_eq_true hn] at h
  simp+contextual only [↓iG,w0,hn,ux,↓iG,↓XP,qh,qa]
  refine rh (b:=true) (m0:=m0) (by omega) ⟨rfl,rfl,rfl,rfl,trivial⟩ (fun F' hF'=>?_)
  obtain ⟨z,rfl⟩:∃z:Nat->D,_=(let b:=true; [z 0,z 1,z 2,.int .u64 (m0:Int),.int .u8 (YA b),.i ((digs m0).length:Int),z 6,z 7,z 8,z 9,z 10,z 11,z 12,z 13,z 14,z 15,z 16,z 17,z 18,z 19,z 20,z 21,z 22,z 23,z 24,z 25,z 26,z 27,z 28,z 29,z 30,z 31,z 32,z 33,z 34,z 35,z 36,z 37,z 38,z 39,z 40,z 41,z 42,z 43,z 44,z 45,z 46]):=hF'.lit
  simp+contextual only [w3,w4,w5,w6,↓iG,↓XP,qh,XW1,qc,qe]
  rw [QB (UInt8.toNat_lt _),UInt8.ofNat_toNat]
  refine pR (b:=true) (m0:=m0) (hd:=qU true (UInt8.ofNat (128+(digs m0).length))) (by omega) ⟨rfl,rfl,rfl,rfl,rfl,trivial⟩ (fun F' hF'=>?_)
  obtain ⟨z,rfl⟩:∃z:Nat->D,_=(let b:=true;let hd:=qU true (UInt8.ofNat (128+(digs m0).length)); [z 0,z 1,z 2,z 3,z 4,z 5,.own ((hd::(digs m0).reverse.map (qU b)).map ql),z 7,z 8,z 9,z 10,z 11,z 12,z 13,z 14,z 15,z 16,z 17,z 18,z 19,z 20,z 21,z 22,z 23,z 24,z 25,z 26,z 27,z 28,z 29,z 30,z 31,z 32,z 33,z 34,z 35,z 36,z 37,z 38,z 39,z 40,z 41,z 42,z 43,z 44,z 45,z 46]):=hF'.lit
  simp+contextual only [↓XP,qp,XW1]
  exact h
 ·have e1:n=((m0:Nat):Int):=by rw [<-hm0,mag,if_neg hn];omega
  rw [if_neg hn] at h w0
  rw [show 128+(digs m0).length=(qU false (UInt8.ofNat (128+(digs m0).length))).toNat from by
   rw [qU,if_neg (by simp),UInt8.toNat_ofNat']
   omega,UInt8.ofNat_toNat,decide_eq_false hn] at h
  replace w0:IntKind.u64.wrap n=(m0:Int):=w0.trans e1
  simp+contextual only [↓iG,w0,hn,↓iG,↓XP,qh,qa]
  refine rh (b:=false) (m0:=m0) (by omega) ⟨rfl,rfl,rfl,rfl,trivial⟩ (fun F' hF'=>?_)
  obtain ⟨z,rfl⟩:∃z:Nat->D,_=(let b:=false; [z 0,z 1,z 2,.int .u64 (m0:Int),.int .u8 (YA b),.i ((digs m0).length:Int),z 6,z 7,z 8,z 9,z 10,z 11,z 12,z 13,z 14,z 15,z 16,z 17,z 18,z 19,z 20,z 21,z 22,z 23,z 24,z 25,z 26,z 27,z 28,z 29,z 30,z 31,z 32,z 33,z 34,z 35,z 36,z 37,z 38,z 39,z 40,z 41,z 42,z 43,z 44,z 45,z 46]):=hF'.lit
  simp+contextual only [w3,w4,w5,w6,↓iG,↓XP,qh,XW1,qc,qe]
  rw [QB (UInt8.toNat_lt _),UInt8.ofNat_toNat]
  refine pR (b:=false) (m0:=m0) (hd:=qU false (UInt8.ofNat (128+(digs m0).length))) (by omega) ⟨rfl,rfl,rfl,rfl,rfl,trivial⟩ (fun F' hF'=>?_)
  obtain ⟨z,rfl⟩:∃z:Nat->D,_=(let b:=false;let hd:=qU false (UInt8.ofNat (128+(digs m0).length)); [z 0,z 1,z 2,z 3,z 4,z 5,.own ((hd::(digs m0).reverse.map (qU b)).map ql),z 7,z 8,z 9,z 10,z 11,z 12,z 13,z 14,z 15,z 16,z 17,z 18,z 19,z 20,z 21,z 22,z 23,z 24,z 25,z 26,z 27,z 28,z 29,z 30,z 31,z 32,z 33,z 34,z 35,z 36,z 37,z 38,z 39,z 40,z 41,z 42,z 43,z 44,z 45,z 46]):=hF'.lit
  simp+contextual only [↓XP,qp,XW1]
  exact h
theorem KG (hs:s.length<=3000000000) (h:R (.own ((qF s).map ql)) H):ACall Tryz.prog 88 [.str s] H R:=by
 refine b88 fun hf=>?_
 have hbig:=qk
 have hl:=yd (n:=s.length) (by omega)
 simp+contextual only [↓U88,↓U88.1,↓XP,qh,qa]
 refine fun _=>gQ fun _=>?_
 simp+contextual only [↓XP,qh]
 refine fun _=>⟨qV,by omega,?_⟩
 rw [<-No]
 exact h
theorem Q7 (hl:l.length<=30000000) (h:(qK l).length<=9+9*l.length->R (.own ((qK l).map ql)) H):ACall Tryz.prog 84 [.slc (ints l)] H R:=by
 refine b84 fun hf=>?_
 have hbig:=qk
 have hle:=yd (n:=l.length) (by omega)
 simp+contextual only [↓CL,jh,↓CL,↓XP,qh,qa]
 refine fun _=>gQ fun _=>?_
 simp+contextual only [jh,↓CL,↓XP,qh]
 refine fun _ _=>XW.loopK hmm (fun F H'=>∃(i:Nat),i<=l.length∧(∀x∈l.take i,wP .i64 x)∧Fr 21 [(3,.own ((qr l.length++(l.take i).flatMap qr).map ql)),(9,.slc (ints l)),(10,.i l.length),(11,.i i)] F∧H=H') (fun F H=>match F.getD 11 .any with| .int _ n'=>l.length - n'.toNat|_=>0) ⟨0,by omega,by simp,by simp only [List.take_zero,List.flatMap_nil,N4];exact ⟨rfl,rfl,rfl,rfl,rfl,trivial⟩,rfl⟩ ?_
 rintro _ _ ⟨i,hi,hr,hF,rfl⟩ K hN hE hR
 obtain ⟨z,rfl⟩:=hF.fl rfl
 try dsimp only [fl,zz,qa,qb] at*
 clear hF hR
 by_cases hlt:i<l.length
 ·have nx:wP .i64 (l.getD i 0)->∀F',Fr 21 [(3,.own ((qr l.length++(l.take i).flatMap qr++qr (l.getD i 0)).map ql)),(9,.slc (ints l)),(10,.i l.length),(11,.i ((i+1:Nat):Int))] F'->K .normal F' H:=fun hx F' hF'=>hN _ _ ⟨i+1,hlt,fun x hx'=>by
   rw [List.take_add_one] at hx'
   rcases List.mem_append.1 hx' with hx'|hx'
   ·exact hr x hx'
   ·simp [hlt] at hx'
    rw [hx']
    simpa [hlt] using hx,by rw [yU (d:=0) hlt,<-Np];exact hF',(qz rfl).symm⟩ (by
   rw [Na,hF'.2.2.2.2.1]
   simp only [Nc,Nd,Nf]
   omega)
  clear hN hE
  have q1:=Wh (l:=l) hlt
  have hfl:=uK hr
  rw [N2] at hfl
  generalize l.getD i 0=x at q1 nx
  have hal:(qr (l.length:Int)++(l.take i).flatMap qr).length<=9+9*i:=by rw [Ni];omega
  generalize qr (l.length:Int)++(l.take i).flatMap qr=ac at nx hal ⊢
  simp+contextual only [jh,hlt,Int.ofNat_lt,q1,↓CL,↓XP,qh]
  refine fun hx=>gQ fun _=>?_
  have hxl:=kL hx
  simp+contextual only [qj (show i<=big by omega),↓XP,qh]
  refine fun _=>⟨qV,qV,by omega,?_⟩
  rw [<-No]
  exact nx hx _ ⟨rfl,rfl,rfl,rfl,rfl,trivial⟩
 ·have hik:i=l.length:=by omega
  subst hik
  clear hN
  simp+contextual only [↓CL,↓XP,qp]
  refine hE _ _ _ ?_
  rw [List.take_length] at hr ⊢
  simp+contextual only [↓XP,qp,XW1]
  refine h ?_
  have:=uK hr
  rw [qK,Ni]
  omega
theorem ZG (hl:l.length<=1000) (hs:∀x∈l,x.length<=3000000) (h:R (.own ((yt l).map ql)) H):ACall Tryz.prog 87 [.slc (strs l)] H R:=by
 refine b87 fun hf=>?_
 have hbig:=qk
 have hle:=yd (n:=l.length) (by omega)
 simp+contextual only [↓Cg,jd,↓Cg,↓XP,qh,qa]
 refine fun _=>gQ fun _=>?_
 simp+contextual only [jd,↓Cg,↓XP,qh]
 refine fun _ _=>XW.loopK hmm (fun F H'=>∃(i:Nat),i<=l.length∧Fr 21 [(3,.own ((qr l.length++(l.take i).flatMap qF).map ql)),(9,.slc (strs l)),(10,.i l.length),(11,.i i)] F∧H=H') (fun F H=>match F.getD 11 .any with| .int _ n'=>l.length - n'.toNat|_=>0) ⟨0,by omega,by simp only [List.take_zero,List.flatMap_nil,N4];exact ⟨rfl,rfl,rfl,rfl,rfl,trivial⟩,rfl⟩ ?_
 rintro _ _ ⟨i,hi,hF,rfl⟩ K hN hE hR
 obtain ⟨z,rfl⟩:=hF.fl rfl
 try dsimp only [fl,zz,qa,qb] at*
 clear hF hR
 by_cases hlt:i<l.length
 ·have nx:∀F',Fr 21 [(3,.own ((qr l.length++(l.take i).flatMap qF++qF (l.getD i [])).map ql)),(9,.slc (strs l)),(10,.i l.length),(11,.i ((i+1:Nat):Int))] F'->K .normal F' H:=fun F' hF'=>hN _ _ ⟨i+1,hlt,by rw [yU (d:= []) hlt,<-Np];exact hF',(qz rfl).symm⟩ (by
   rw [Na,hF'.2.2.2.2.1]
   simp only [Nc,Nd,Nf]
   omega)
  clear hN hE
  have q1:=WB (l:=l) hlt
  have hfl:=zK (l:=l.take i) (c:=3000000) (fun x hx=>hs x (List.mem_of_mem_take hx)) (by omega)
  have hx1:(l.getD i []).length<=3000000:=hs _ (by rw [jB hlt];exact List.getElem_mem hlt)
  rw [N2] at hfl
  generalize l.getD i []=x at q1 nx hx1
  have hal:(qr (l.length:Int)++(l.take i).flatMap qF).length<=9+3000009*1000:=by
   rw [Ni]
   have:(9+3000000)*min i l.length<=3000009*1000:=Nat.mul_le_mul_left _ (by omega)
   omega
  generalize qr (l.length:Int)++(l.take i).flatMap qF=ac at nx hal ⊢
  simp+contextual only [jd,hlt,Int.ofNat_lt,q1,↓Cg,↓XP,qh]
  refine fun _=>KG (by omega) ?_
  have hxl:(qF x).length<=9+3000000:=by
   have:=yd (n:=x.length) (by omega)
   simp only [qF,Ni]
   omega
  simp+contextual only [qj (show i<=big by omega),↓XP,qh]
  refine fun _=>⟨qV,qV,by omega,?_⟩
  rw [<-No]
  exact nx _ ⟨rfl,rfl,rfl,rfl,rfl,trivial⟩
 ·have hik:i=l.length:=by omega
  subst hik
  clear hN
  simp+contextual only [↓Cg,↓XP,qp]
  refine hE _ _ _ ?_
  rw [List.take_length]
  simp+contextual only [↓XP,qp,XW1]
  exact h
def ue (s:Str) (l:List (List UInt8)):Str:=l.foldl (fun s p=>yu s (qF p)) s
def ML (c:UInt8) (l:List (List UInt8)):Str:=ue (yu beg [c]) l
def EK (c:UInt8) (l:List (List UInt8)):List UInt8:=(Q5 (ML c l)).take 16
theorem ZO {s:Str} {l:List (List UInt8)} {i:Nat} (h:i<l.length):ue s (l.take (i+1))=yu (ue s (l.take i)) (qF (l.getD i [])):=by
 have:l.take (i+1)=l.take i++ [l.getD i []]:=by rw [List.take_add_one,Nb h];simp [List.getD,Nb h]
 rw [this,ue,List.foldl_append]
 rfl
theorem gY (h:x.length<=100000000):(qF x).length<=x.length+9:=by
 have:=yd (n:=x.length) (by omega)
 simp only [qF,Ni]
 omega
theorem Zc:∀(l:List (List UInt8)) (s:Str),s.blk.length=64->(∀x∈l,x.length<=100000000)->(ue s l).blk.length=64∧(ue s l).n<=s.n+l.length*100000009
 | [],s,hb,_=>⟨hb,by simp [ue]⟩
 | x::l,s,hb,hx=>by
  obtain ⟨a1,a2⟩:=wZ _ s (qF x) (Nt _) hb
  obtain ⟨b1,b2⟩:=Zc l (yu s (qF x)) a1 (fun y hy=>hx y (.tail _ hy))
  have hl:=gY (hx x (.head _))
  have hxl:=hx x (.head _)
  refine ⟨b1,Nq b2 ?_⟩
  rw [Nj,Nat.succ_mul]
  omega
theorem Mg {tag:Int} {c:UInt8} {l:List (List UInt8)} {H:AH} (hg:Kst H) (ht:IntKind.u8.wrap tag=(c.toNat:Int)) (hl:l.length<=100) (hs:∀x∈l,x.length<=100000000) (h:R (.agg (jf (EK c l))) H):
  ACall Tryz.prog 95 [.i tag,.slc (strs l)] H R:=by
 refine b95 fun hf=>?_
 have hbig:=qk
 simp+contextual only [x95,↓AP,↓XP,qh,qa,qb]
 intro b4 h4
 refine ⟨_,fun _ _=>Vj ⟨rfl,rfl⟩,?_⟩
 simp+contextual only [Nat.mul_one,ht,show yQ [.int .u8 (c.toNat:Int)]=True from eq_true (isb [c] _ (.head _)),show unbyte [.int .u8 (c.toNat:Int)]=c from by have:=unb [c];simpa [ql] using this,↓XP,qh,XW1,qe]
 intro _
 have l0:=wZ _ beg [c] (Nt _) zB
 rw [WI] at l0
 refine ⟨_,fun H1 hs1=>KL ((hg.push h4).sub hs1) zB (by rw [WI];simp;omega) ⟨rfl,rfl⟩,?_⟩
 rw [EK,ML] at h
 generalize yu beg [c]=s0 at l0 h
 obtain ⟨l01,l02⟩:=l0
 rw [List.length_singleton] at l02
 simp+contextual only [Nat.reduceLT,yz l01,jd,↓AP,↓XP,qh,XW1,qb]
 intro b5 h5 _
 obtain ⟨n54,f5⟩:=h5
 refine XW.loopS hmm 32 (fun i:Nat=>[(1,.slc (strs l)),(4,.ptr b4 0),(5,.ptr b5 0),(15,.slc (strs l)),(16,.i (l.length:Int)),(17,.i ((i:Nat):Int))]) (fun i=>(b5,.cells (ue s0 (l.take i)).D)::(b4,.cells (barr 16 []))::H) (fun i=>l.length - i) (fun i=>i<=l.length) 0 (Nat.zero_le _) ⟨rfl,rfl,rfl,rfl,rfl,rfl,rfl,trivial⟩ rfl ?_
 intro i z hi K hN hE hR
 dsimp only [fl,zz,qa,qb]
 have hq:=Zc (l.take i) s0 l01 (fun x hx=>hs x (List.mem_of_mem_take hx))
 have htl:(l.take i).length<=100:=by rw [N2];omega
 have hK:Kst ((b5,.cells (ue s0 (l.take i)).D)::(b4,.cells (barr 16 []))::H):=(Kst.push hg h4).push ⟨Ne.symm n54,f5⟩
 by_cases hlt:i<l.length
 ·have hlt':((i:Int)<(l.length:Int))=True:=qo
  have hp:=ZO (s:=s0) hlt
  have hx:(l.getD i []).length<=100000000:=hs _ (by rw [List.getD,Nb hlt];exact List.getElem_mem hlt)
  have hg1:=kq hlt
  generalize ue s0 (l.take i)=q at hq hp hK
  generalize l.getD i []=x at hp hx hg1
  obtain ⟨hq1,hq2⟩:=hq
  have hq3:q.n<=20000000000:=by omega
  simp+contextual only [hlt',jd,hg1,yz hq1,K9 hq1,JS,↓AP,↓XP,qh]
  refine fun _=>?_
  refine ⟨_,fun _ _=>KG (by omega) ⟨rfl,rfl⟩,?_⟩
  simp+contextual only [unb,↓XP,qh,XW1]
  refine fun _=>⟨isb _,?_⟩
  have hel:=gY hx
  refine ⟨_,fun H1 hs1=>KL (hK.sub hs1) hq1 (by omega) ⟨rfl,rfl⟩,?_⟩
  have hq4:=wZ _ q (qF x) (Nt _) hq1
  generalize yu q (qF x)=q2 at hq4 hp
  obtain ⟨hq5,hq6⟩:=hq4
  simp+contextual only [yz hq5,yz hq1,show q.D.drop 73= [] from List.drop_of_length_le (by rw [yz hq1];exact Nt _),↓XP,qh,XW1]
  rw [qj (by omega)]
  exact hN (i+1) _ _ (by omega) (by omega) ⟨rfl,rfl,rfl,rfl,rfl,rfl,rfl,trivial⟩ (by show back _ _=(b5,AO.cells (ue s0 (l.take (i+1))).D)::(b4,AO.cells (barr 16 []))::H;rw [hp];exact qz rfl)
 ·have hil:l.take i=l:=Nu (by omega)
  have hlt':((i:Int)<(l.length:Int))=False:=qy
  rw [hil] at hq hK ⊢
  generalize ue s0 l=q at hq hK h
  obtain ⟨hq1,hq2⟩:=hq
  simp+contextual only [hlt',↓AP,↓XP,qp]
  apply hE
  simp+contextual only [yz hq1,K9 hq1,JS,↓AP,↓XP,qh,XW1]
  refine iB hK hq1 (by omega) ?_
  have hsl:=KN q
  generalize Q5 q=sm at h hsl
  simp+contextual only [Nat.mul_one,Nat.sub_zero,Nv,Nw,Ng,qg,qm,n54,qt,hsl,↓AP,↓JX,qh,XW1,qb,qe,↓XH]
  intro b8 h8
  obtain ⟨n85,n84,f8⟩:=h8
  have hst:(jf sm).take 16=jf (sm.take 16):=by simp [jf,List.map_take]
  have hs2:(sm.take 16).length=16:=by simp [hsl]
  generalize sm.take 16=s2 at h hst hs2
  simp+contextual only [qt,hst,hs2,j3,qI hs2,show (barr 16 []).drop 16= [] from rfl,show (barr 16 []).length=16 from rfl,qp,XW1]
  exact h
theorem JV (l:List UInt8) (c:UInt8):l.map ql++ [[.int .u8 (c.toNat:Int)]]=(l++ [c]).map ql:=V9 l c
theorem JN {l:List UInt8} {i:Nat} (h:i<l.length):l.take i++ [l.getD i 0]=l.take (i+1):=by
 rw [List.take_add_one,Nb h];simp [List.getD,Nb h]
theorem un {d:List UInt8} {H:AH} (hd:d.length=16) (h:R (.str d) H):ACall Tryz.prog 47 [.agg (jf d)] H R:=by
 refine b47 fun hf=>?_
 have hbig:=qk
 simp+contextual only [↓ED,↓ED,↓XP,qp,qa]
 intro b1 h1
 refine XW.loopS hmm 17 (fun i:Nat=>[(1,.ptr b1 0),(3,.own ((d.take ((i:Nat))).map ql)),(4,.i (i:Int))]) (fun _=>(b1,.cells (jf d))::H) (fun i=>16 - i) (fun i=>i<=16) 0 (Nat.zero_le _) ⟨rfl,rfl,rfl,rfl,trivial⟩ rfl ?_
 intro i z hi K hN hE hR
 dsimp only [fl,zz,qa,qb]
 by_cases hlt:i<16
 ·have hlt':((i:Int)<16)=True:=qo
  have g:=QN (l:=d) (i:=i) (by omega)
  unfold bD at g
  simp+contextual only [Nat.mul_one,Ng,aG,JV,hlt',g,JN (l:=d) (i:=i) (by omega),↓ED,↓XP,qh,XW1,qe]
  rw [qj (by omega)]
  refine ⟨Vn _,?_,hN (i+1) _ _ (by omega) (by omega) ⟨rfl,rfl,rfl,rfl,trivial⟩ (qz rfl)⟩
  rw [N2];omega
 ·have hi2:i=16:=by omega
  have hlt':((i:Int)<16)=False:=qy
  simp+contextual only [hlt',↓ED,↓XP,qp]
  apply hE
  rw [hi2,Nu (by omega:d.length<=16)]
  simp+contextual only [Ng,unb,↓XP,qh,XW1]
  exact ⟨isb _,fun _=>h⟩
theorem pU {d:List UInt8} {H:AH} (hd:d.length=32) (h:R (.str d) H):ACall Tryz.prog 137 [.agg (jf d)] H R:=by
 refine Mf fun hf=>?_
 have hbig:=qk
 simp+contextual only [↓mD,↓mD,↓XP,qp,qa]
 intro b1 h1
 refine XW.loopS hmm 17 (fun i:Nat=>[(1,.ptr b1 0),(3,.own ((d.take ((i:Nat))).map ql)),(4,.i (i:Int))]) (fun _=>(b1,.cells (jf d))::H) (fun i=>32 - i) (fun i=>i<=32) 0 (Nat.zero_le _) ⟨rfl,rfl,rfl,rfl,trivial⟩ rfl ?_
 intro i z hi K hN hE hR
 dsimp only [fl,zz,qa,qb]
 by_cases hlt:i<32
 ·have hlt':((i:Int)<32)=True:=qo
  have g:=QN (l:=d) (i:=i) (by omega)
  unfold bD at g
  simp+contextual only [Nat.mul_one,Ng,aG,JV,hlt',g,JN (l:=d) (i:=i) (by omega),↓mD,↓XP,qh,XW1,qe]
  rw [qj (by omega)]
  refine ⟨Vn _,?_,hN (i+1) _ _ (by omega) (by omega) ⟨rfl,rfl,rfl,rfl,trivial⟩ (qz rfl)⟩
  rw [N2];omega
 ·have hi2:i=32:=by omega
  have hlt':((i:Int)<32)=False:=qy
  simp+contextual only [hlt',↓mD,↓XP,qp]
  apply hE
  rw [hi2,Nu (by omega:d.length<=32)]
  simp+contextual only [Ng,unb,↓XP,qh,XW1]
  exact ⟨isb _,fun _=>h⟩
theorem ik (h:i<64) (hk:k.length<=64):(yx k w).getD i 0=(if i<k.length then k.getD i 0 else 0) ^^^ w:=by
 have h2:i<(zpad k).length:=by rw [Kq hk];exact h
 have h3:(yx k w).getD i 0=(zpad k).getD i 0 ^^^ w:=by simp [yx,List.getD,Nb h2]
 rw [h3]
 congr 1
 by_cases hi:i<k.length
 ·rw [if_pos hi]
  simp [zpad,List.getD,Nm hi]
 ·rw [if_neg hi]
  simp only [zpad,List.getD]
  rw [Nn (by omega)]
  simp [List.getElem?_replicate]
  split<;>rfl
theorem Ur (hk:k.length<=64) (h:R (.own ((yx k w).map ql)) H):ACall Tryz.prog 136 [.str k,.int .u8 (w.toNat:Int)] H R:=by
 refine Mr fun hf=>?_
 have hbig:=qk
 have hpl:(yx k w).length=64:=vF hk
 have hk':decide ((64:Int)<(k.length:Int))=false:=decide_eq_false (by omega)
 simp+contextual only [↓ic,hk',↓ic,↓XP,qh,qa,qb]
 intro _
 refine XW.loopS hmm 35 (fun i:Nat=>[(1,.int .u8 (w.toNat:Int)),(5,.str k),(6,.own (((yx k w).take ((i:Nat))).map ql)),(7,.i (i:Int))]) (fun _=>H) (fun i=>64 - i) (fun i=>i<=64) 0 (Nat.zero_le _) ⟨rfl,rfl,rfl,rfl,rfl,trivial⟩ rfl ?_
 intro i z hi K hN hE hR
 dsimp only [fl,zz,qa,qb]
 by_cases hlt:i<64
 ·have hlt':((i:Int)<64)=True:=qo
  have g:=ik (w:=w) hlt hk
  have ta:=JN (l:=yx k w) (i:=i) (by omega)
  rw [g] at ta
  by_cases hil:i<k.length
  ·have hil':((i:Int)<(k.length:Int))=True:=qo
   rw [if_pos hil] at ta
   simp+contextual only [Nat.mul_one,JV,iy,hlt',hil',ta,↓ic,↓XP,qh,XW1,qe]
   rw [qj (by omega)]
   refine fun _=>⟨Vn _,?_,hN (i+1) _ _ (by omega) (by omega) ⟨rfl,rfl,rfl,rfl,rfl,trivial⟩ (qz rfl)⟩
   rw [N2];omega
  ·have hil':((i:Int)<(k.length:Int))=False:=qy
   rw [if_neg hil] at ta
   have hz:∀y:UInt8,bits .xor .u8 0 (y.toNat:Int)=((0 ^^^ y).toNat:Int):=fun y=>iy 0 y
   simp+contextual only [Nat.mul_one,JV,hlt',hil',ta,hz,↓ic,↓XP,qh,XW1,qe]
   rw [qj (by omega)]
   refine fun _=>⟨Vn _,?_,hN (i+1) _ _ (by omega) (by omega) ⟨rfl,rfl,rfl,rfl,rfl,trivial⟩ (qz rfl)⟩
   rw [N2];omega
 ·have hi2:i=64:=by omega
  have hlt':((i:Int)<64)=False:=qy
  simp+contextual only [hlt',↓ic,↓XP,qp]
  apply hE
  rw [hi2,Nu (by omega:(yx k w).length<=64)]
  simp+contextual only [Ng,↓XP,qp,XW1]
  exact h
def gj (k t:List UInt8):List UInt8:=gD (yx k 0x5c++gD (yx k 0x36++t))
theorem KH (a b:List UInt8):a.map ql++b.map ql=(a++b).map ql:=by simp
theorem xe (hg:Kst0 H) (hk:k.length<=64) (ht:t.length<=4000000000) (h:R (.str (gj k t)) H):ACall Tryz.prog 115 [.str k,.str t] H R:=by
 refine FS fun hf=>?_
 have hbig:=qk
 have l1:=vF (w:=0x36) hk
 have l2:=vF (w:=0x5c) hk
 simp+contextual only [↓fv,↓fv,↓XP,qp,qa,qb]
 refine Ur (w:=0x36) hk ?_
 rw [show gj k t=gD (yx k 0x5c++gD (yx k 0x36++t)) from rfl] at h
 simp+contextual only [KH,↓fv,↓XP,qh]
 refine fun _=>⟨Vn _,by rw [l1];omega,?_⟩
 refine Ur (w:=0x5c) hk ?_
 simp+contextual only [↓fv,↓XP,qp]
 intro _
 refine Gk (m:=yx k 0x36++t) hg (by rw [Ni];omega) ?_
 have l3:=zi (yx k 0x36++t)
 generalize gD (yx k 0x36++t)=s3 at l3 h
 simp+contextual only [↓XP,qp,XW1]
 refine pU l3 ?_
 simp+contextual only [KH,↓fv,↓XP,qh]
 refine fun _=>⟨Vn _,by rw [l2,l3];omega,?_⟩
 refine Gk (m:=yx k 0x5c++s3) hg (by rw [Ni];omega) ?_
 have l4:=zi (yx k 0x5c++s3)
 generalize gD (yx k 0x5c++s3)=s4 at l4 h
 simp+contextual only [↓XP,qp,XW1]
 refine pU l4 ?_
 simp+contextual only [↓XP,qp]
 exact fun _=>h
def inp (c:UInt8) (l:List (List UInt8)):List UInt8:=c::l.flatMap qF
theorem QM:∀(l:List (List UInt8)),(∀x∈l,x.length<=100000000)->(l.flatMap qF).length<=l.length*100000009
 | [],_=>by simp
 | x::l,h=>by
  have h1:=gY (h x (.head _))
  have h2:=h x (.head _)
  have h3:=QM l fun y hy=>h y (.tail _ hy)
  rw [List.flatMap_cons,Ni,Nj,Nat.succ_mul]
  omega
theorem ir {c:UInt8} {l:List (List UInt8)} {i:Nat} (h:i<l.length):inp c (l.take i)++qF (l.getD i [])=inp c (l.take (i+1)):=by
 have:l.take (i+1)=l.take i++ [l.getD i []]:=by rw [List.take_add_one,Nb h];simp [List.getD,Nb h]
 rw [this]
 simp [inp]
theorem mo {tag:Int} {c:UInt8} {l:List (List UInt8)} {H:AH} (ht:IntKind.u8.wrap tag=(c.toNat:Int)) (hl:l.length<=30) (hs:∀x∈l,x.length<=100000000) (h:R (.own ((inp c l).map ql)) H):
  ACall Tryz.prog 94 [.i tag,.slc (strs l)] H R:=by
 refine b94 fun hf=>?_
 have hbig:=qk
 simp+contextual only [↓DD,Nat.mul_one,ht,↓DD,↓XP,qh,XW1,qa,qb,qe]
 refine XW.loopS hmm 24 (fun i:Nat=>[(1,.slc (strs l)),(5,.own ((inp c (l.take ((i:Nat)))).map ql)),(6,.i (i:Int))]) (fun _=>H) (fun i=>l.length - i) (fun i=>i<=l.length) 0 (Nat.zero_le _) ⟨rfl,rfl,rfl,rfl,trivial⟩ rfl ?_
 intro i z hi K hN hE hR
 dsimp only [fl,zz,qa,qb]
 by_cases hlt:i<l.length
 ·have hlt':((i:Int)<(l.length:Int))=True:=qo
  have hx:l.getD i []∈l:=by rw [List.getD,Nb hlt];exact List.getElem_mem hlt
  have hg1:=kq hlt
  have hst:=ir (c:=c) hlt
  have hel:=gY (hs _ hx)
  have hxl:=hs _ hx
  have hfl:=QM (l.take i) fun y hy=>hs y (List.mem_of_mem_take hy)
  have htl:(l.take i).length<=30:=by rw [N2];omega
  have hil:(inp c (l.take i)).length<=1+30*100000009:=by
   show (l.take i|>.flatMap qF).length+1<=_
   have:=Nat.mul_le_mul_right 100000009 htl
   omega
  generalize l.getD i []=x at hg1 hst hel hxl
  simp+contextual only [jd,hlt',hg1,↓DD,↓XP,qh]
  refine fun _ _=>KZ (by omega) ?_
  simp+contextual only [Nat.mul_one,KH,hst,↓DD,↓XP,qh]
  rw [qj (by omega)]
  exact fun _=>⟨Vn _,Vn _,by omega,hN (i+1) _ _ (by omega) (by omega) ⟨rfl,rfl,rfl,rfl,trivial⟩ (qz rfl)⟩
 ·have hi2:l.take i=l:=Nu (by omega)
  have hlt':((i:Int)<(l.length:Int))=False:=qy
  simp+contextual only [jd,hlt',↓DD,↓XP,qh]
  refine fun _=>?_
  apply hE
  rw [hi2]
  simp+contextual only [↓XP,qp,XW1]
  exact h
theorem Wq {n:Nat} {l:List UInt8} {i:Nat} (hi:i<n) (hl:i<l.length):(barr n (l.take i)).set i (.int .u8 ((l.getD i 0).toNat:Int))=barr n (l.take (i+1)):=by
 have h1:(l.take i).length=i:=by rw [N2];omega
 have h2:=Kl (n:=n) (l:=l.take i) (c:=l.getD i 0) (by omega)
 rw [h1,JN hl] at h2
 exact h2
def gO (m:List UInt8):List UInt8:=(gD m).take 16
theorem KO (m:List UInt8):(gO m).length=16:=by simp [gO,zi]
theorem iQ {m:List UInt8} {H:AH} (hg:Kst0 H) (hm:m.length<=4294967296) (h:R (.agg (jf (gO m))) H):ACall Tryz.prog 93 [.slc (m.map ql)] H R:=by
 refine b93 fun hf=>?_
 have hbig:=qk
 simp+contextual only [↓Bd,↓Bd,↓XP,qh,qa]
 intro b2 h2
 refine Gk (hg.push h2) hm ?_
 have hl:=zi m
 rw [show gO m=(gD m).take 16 from rfl] at h
 generalize gD m=s at hl h
 simp+contextual only [qt,hl,↓Bd,↓XP,qh,XW1,qb]
 intro b3 h3 b4 h4
 obtain ⟨n32,f3⟩:=h3
 obtain ⟨n43,n42,f4⟩:=h4
 refine XW.loopS hmm 19 (fun i:Nat=>[(2,.ptr b2 0),(3,.ptr b3 0),(4,.ptr b4 0),(5,.i ((i:Nat):Int))]) (fun i=>(b4,.cells (barr 16 (s.take i)))::(b3,.cells (jf s))::(b2,.cells (barr 16 []))::H) (fun i=>16 - i) (fun i=>i<=16) 0 (Nat.zero_le _) ⟨rfl,rfl,rfl,rfl,rfl,trivial⟩ rfl ?_
 intro i z hi K hN hE hR
 dsimp only [fl,zz,qa,qb]
 by_cases hlt:i<16
 ·have hlt':((i:Int)<16)=True:=qo
  have hlt2:((i:Int)<32)=True:=qo
  have g:=QN (l:=s) (i:=i) (by omega)
  have g2:=Wq (n:=16) (l:=s) (i:=i) hlt (by omega)
  have g3:(barr 16 (s.take i)).length=16:=gZ (by rw [N2];omega)
  unfold bD at g
  simp+contextual only [Nat.mul_one,Ng,aG,qg,n43,hlt',hlt2,g,g2,g3,↓Bd,↓XP,qh,XW1]
  rw [qj (by omega)]
  exact ⟨hlt,hN (i+1) _ _ (by omega) (by omega) ⟨rfl,rfl,rfl,rfl,rfl,trivial⟩ (qz rfl)⟩
 ·have hi2:i=16:=by omega
  have hlt':((i:Int)<16)=False:=qy
  simp+contextual only [hlt',↓Bd,↓XP,qp]
  apply hE
  have hs2:(s.take 16).length=16:=by simp [hl]
  rw [hi2]
  generalize s.take 16=s2 at hs2 h
  simp+contextual only [Ng,qt,qg,qm,n32,n42,zy hs2,hs2,j3,qI hs2,show (barr 16 []).drop 16= [] from rfl,show (barr 16 []).length=16 from rfl,↓XP,qh,XW1]
  exact h
def jE (c:UInt8) (l:List (List UInt8)):List UInt8:=gO (inp c l)
theorem KQ (hg:Kst0 H) (ht:IntKind.u8.wrap tag=(c.toNat:Int)) (hl:l.length<=30) (hs:∀x∈l,x.length<=100000000) (h:R (.agg (jf (jE c l))) H):
  ACall Tryz.prog 46 [.i tag,.slc (strs l)] H R:=by
 refine b46 fun hf=>?_
 have hbig:=qk
 simp+contextual only [↓U46,↓U46.1,↓XP,qh,qa,qb]
 intro b4 h4
 refine mo ht hl hs ?_
 simp+contextual only [↓XP,qp]
 intro _
 have hfl:=QM l hs
 have hil:(inp c l).length<=1+30*100000009:=by
  show (l.flatMap qF).length+1<=_
  have:=Nat.mul_le_mul_right 100000009 hl
  omega
 refine iQ (hg.push h4) (by omega) ?_
 rw [show jE c l=gO (inp c l) from rfl] at h
 have hsl:=KO (inp c l)
 generalize gO (inp c l)=s at hsl h
 simp+contextual only [qt,hsl,j3,qI hsl,↓XP,qh,XW1,qb]
 exact h
structure IsS (s:Str) (m:List UInt8):Prop where
 st:s.st=zh iv m (m.length / 64)
 n:s.n=m.length
 len:s.blk.length=64
 blk:s.blk.take (m.length % 64)=m.drop (64*(m.length / 64))
theorem Ke:∀(k:Nat),64*k<=m.length->zh iv (m++t) k=zh iv m k
 |0,_=>rfl
 | k+1,h=>by
  have ih:=Ke (m:=m) (t:=t) k (by omega)
  show uf (zh iv (m++t) k) (((m++t).drop (64*k)).take 64)=uf (zh iv m k) ((m.drop (64*k)).take 64)
  rw [ih,List.drop_append_of_le_length (by omega),List.take_append_of_le_length (by rw [List.length_drop];omega)]
theorem Va:IsS beg []:=⟨rfl,rfl,rfl,rfl⟩
theorem dY (h:IsS s m) (ht:t≠ []):IsS (uj s t) (m++t.take (yn s t)):=by
 have hp:=zL (s:=s) ht
 have hk:=Vx (s:=s) (t:=t)
 have hn:=h.n
 have hkd:yn s t=min t.length (64 - m.length % 64):=by rw [yn,hn]
 have ha:=Nat.mod_lt m.length (show 0<64 by decide)
 have hdm:=Nat.div_add_mod m.length 64
 have htl:(t.take (yn s t)).length=yn s t:=by rw [N2];omega
 have hml:(m++t.take (yn s t)).length=m.length+yn s t:=by rw [Ni,htl]
 have hbl:(s.blk.take (m.length % 64)).length=m.length % 64:=by rw [N2,h.len];omega
 have hbS:wH s t=s.blk.take (m.length % 64)++(t.take (64 - m.length % 64)++s.blk.drop (m.length % 64+yn s t)):=by rw [wH,hn]
 refine ⟨?_,?_,KE h.len t,?_⟩
 ·show (if s.n % 64+yn s t=64 then uf s.st (wH s t) else s.st)=_
  rw [hml,hn]
  by_cases hc:m.length % 64+yn s t=64
  ·rw [if_pos hc]
   have hq:(m.length+yn s t) / 64=m.length / 64+1:=by omega
   rw [hq]
   show _=uf (zh iv (m++t.take (yn s t)) (m.length / 64)) (((m++t.take (yn s t)).drop (64*(m.length / 64))).take 64)
   rw [Ke _ (by omega),<-h.st]
   congr 1
   rw [hbS,List.drop_append_of_le_length (by omega),<-h.blk,hc,List.drop_of_length_le (by rw [h.len];exact Nt _),N4,Nu (l:=s.blk.take (m.length % 64)++t.take (yn s t)) (by rw [Ni,hbl,htl];omega),show 64 - m.length % 64=yn s t by omega]
  ·rw [if_neg hc]
   have hq:(m.length+yn s t) / 64=m.length / 64:=by omega
   rw [hq,Ke _ (by omega)]
   exact h.st
 ·show s.n+yn s t=_
  rw [hml,hn]
 ·show (wH s t).take _=_
  rw [hml,hbS]
  by_cases hc:m.length % 64+yn s t=64
  ·have hq:(m.length+yn s t) / 64=m.length / 64+1:=by omega
   have hr:(m.length+yn s t) % 64=0:=by omega
   rw [hq,hr,List.take_zero,List.drop_of_length_le (by rw [hml];omega)]
  ·have hq:(m.length+yn s t) / 64=m.length / 64:=by omega
   have hr:(m.length+yn s t) % 64=m.length % 64+yn s t:=by omega
   have hkt:yn s t=t.length:=by omega
   rw [hq,hr,List.drop_append_of_le_length (by omega),<-h.blk,<-Np,List.take_append_of_le_length (by rw [Ni,hbl,N2];omega)]
   rw [Nu (l:=s.blk.take (m.length % 64)++t.take (64 - m.length % 64)) (by rw [Ni,hbl,N2];omega),Nu (by omega:t.length<=64 - m.length % 64),hkt,List.take_length]
theorem oq:∀(k:Nat) {s:Str} {m t:List UInt8},t.length<=k->IsS s m->IsS (yu s t) (m++t):=by
 intro k
 induction k with
 | zero=>
  intro s m t h hs
  obtain rfl:=List.eq_nil_of_length_eq_zero (Nat.le_zero.1 h)
  rw [N4]
  exact hs
 | succ k ih=>
  intro s m t h hs
  by_cases ht:t= []
  ·subst ht;rw [N4];exact hs
  ·have hp:=zL (s:=s) ht
   rw [QW ht]
   have:=ih (s:=uj s t) (m:=m++t.take (yn s t)) (t:=t.drop (yn s t)) (by rw [List.length_drop];omega) (dY hs ht)
   rwa [Np,List.take_append_drop] at this
theorem WY (h:IsS s m):Q5 s=gD m:=by
 have h2:=oq _ (t:=Qe m.length) (Nt _) h
 rw [Q5,h.n,gD,h2.st]
 congr 2
 rw [Ni,Kk,<-Nat.add_assoc]
theorem UZ:∀(l:List (List UInt8)) {s:Str} {m:List UInt8},IsS s m->IsS (ue s l) (m++l.flatMap qF)
 | [],s,m,h=>by simpa [ue] using h
 | x::l,s,m,h=>by
  have h2:=UZ l (oq _ (t:=qF x) (Nt _) h)
  rw [Np] at h2
  rwa [List.flatMap_cons]
theorem BW (c:UInt8) (l:List (List UInt8)):EK c l=jE c l:=by
 have h1:=oq _ (t:= [c]) (Nt _) Va
 rw [N5] at h1
 have h2:=UZ l h1
 rw [EK,ML,WY h2]
 rfl
theorem A2 (k t:List UInt8):lv k t=gj k t:=by
 have h1:=oq _ (t:=yx k 0x36) (Nt _) Va
 rw [N5] at h1
 have h2:=WY (oq _ (t:=t) (Nt _) h1)
 have h3:=oq _ (t:=yx k 0x5c) (Nt _) Va
 rw [N5] at h3
 rw [lv,DL,h2,WY (oq _ (t:=gD (yx k 0x36++t)) (Nt _) h3)]
 rfl
theorem Ut (hg:Kst H) (ht:IntKind.u8.wrap tag=(c.toNat:Int)) (hl:l.length<=30) (hs:∀x∈l,x.length<=100000000) (h:R (.agg (jf (jE c l))) H):
  ACall Tryz.prog 95 [.i tag,.slc (strs l)] H R:=Mg hg ht (by omega) hs (by rw [BW];exact h)
theorem jO (c:UInt8) (l:List (List UInt8)):(jE c l).length=16:=KO _
theorem eu (hl:l.length<=1000) (h:(qK l).length<=9+9*l.length->R (.str (qK l)) H):ACall Tryz.prog 96 [.slc (ints l)] H R:=by
 refine b96 fun hf=>?_
 have hbig:=qk
 simp+contextual only [↓U96,↓U96.1,↓XP,qp,qa]
 refine Q7 (by omega) fun hel=>?_
 simp+contextual only [unb,↓XP,qh,XW1]
 exact fun _=>⟨isb _,h hel⟩
theorem gd (hl:l.length<=100) (h:∀x∈l,wP .i64 x):(qK l).length<=909:=by
 have h1:=yd (n:=l.length) (by omega)
 have h2:∀(l:List Int),(∀x∈l,wP .i64 x)->(l.flatMap qr).length<=l.length*9:=by
  intro l
  induction l with
  |nil=>intro _;simp
  | cons x l ih=>
   intro h
   have:=kL (h x (.head _))
   have:=ih fun y hy=>h y (.tail _ hy)
   rw [List.flatMap_cons,Ni,Nj,Nat.succ_mul]
   omega
 have:=h2 l h
 simp only [qK,Ni]
 omega
def wi (i c:Int) (v:List UInt8) (f:Int):Nat->List UInt8
 |0=>v
 |n+1=>jE 8 [qK [i,c,f+n],wi i c v f n]
theorem yG (h:v.length=16):∀n,(wi i c v f n).length=16
 |0=>h
 |n+1=>jO _ _
theorem cZ {i c f:Int} {n:Nat} {v:List UInt8} {H:AH} (hg:Kst H) (hv:v.length=16) (hf0:0<=f) (hfn:f+n<=1000) (h:R (.agg (jf (wi i c v f n))) H):
  ACall Tryz.prog 55 [.i i,.i c,.i f,.i (f+n),.agg (jf v)] H R:=by
 refine b55 fun hf=>?_
 have hbig:=qk
 simp+contextual only [↓BL,↓BL,↓XP,qh,XW1,qa,qb]
 intro b9 h9 zV h10
 obtain ⟨n19,f10⟩:=h10
 refine XW.loopS hmm 28 (fun k:Nat=>[(0,.i i),(1,.i c),(3,.i (f+(n:Nat))),(9,.ptr b9 0),(10,.ptr zV 0),(11,.i (f+(k:Nat)))]) (fun k=>(zV,.cells (barr 16 []))::(b9,.cells (jf (wi i c v f k)))::H) (fun k=>n - k) (fun k=>k<=n) 0 (Nat.zero_le _) ?_ rfl ?_
 ·rw [show f+((0:Nat):Int)=f by omega]
  exact ⟨rfl,rfl,rfl,rfl,rfl,rfl,rfl,trivial⟩
 intro k z hk K hN hE hR
 dsimp only [fl,zz,qa,qb]
 have hal:=yG (i:=i) (c:=c) (f:=f) hv k
 have hs1:wi i c v f (k+1)=jE 8 [qK [i,c,f+k],wi i c v f k]:=rfl
 have hh:k=n->R (.agg (jf (wi i c v f k))) H:=fun e=>by rw [e];exact h
 generalize wi i c v f k=w at hal hs1 hh
 by_cases hlt:k<n
 ·have hlt':(f+(k:Int)<f+(n:Int))=True:=qo
  simp+contextual only [Nat.mul_one,hlt',↓BL,↓XP,qh,XW1,qe]
  have hK:Kst ((zV,.cells (barr 16 []))::(b9,.cells (jf w))::H):=(hg.push h9).push ⟨Ne.symm n19,f10⟩
  refine ⟨_,fun _ _=>eu (l:= [i,c,f+k]) (by simp) fun _=>⟨rfl,rfl⟩,?_⟩
  simp+contextual only [qt,Nat.mul_one,Nat.sub_zero,qg,n19,hal,qI hal,gB,↓JX,qh,XW1,qe,↓XH]
  refine fun he=>⟨zb _,fun _=>?_⟩
  refine ⟨_,fun H1 hs=>Ut (c:=8) (l:= [qK [i,c,f+k],w]) (hK.sub hs) (by decide) (by simp) (fun x hx=>?_) ⟨rfl,rfl⟩,?_⟩
  ·simp only [Nz,N8,or_false] at hx
   rcases hx with rfl|rfl
   ·refine Nq (gd (l:= [i,c,f+k]) (by simp) fun x hx=>?_) (by decide)
    simp only [Nz,N8,or_false] at hx
    rcases hx with rfl|rfl|rfl
    ·exact hf.1
    ·exact hf.2.1
    ·rw [kX];omega
   ·omega
  rw [<-hs1]
  have hal2:=jO 8 [qK [i,c,f+k],w]
  rw [<-hs1] at hal2
  simp+contextual only [qt,qg,qm,n19,hal,hal2,show (jf w).drop 16= [] from List.drop_of_length_le (by rw [qt,hal];exact Nt _),↓BL,↓XP,qh,XW1]
  rw [show IntKind.i64.wrap (f+(k:Int)+1)=f+((k+1:Nat):Int) by rw [qi (by omega) (by omega)];omega]
  exact hN (k+1) _ _ (by omega) (by omega) ⟨rfl,rfl,rfl,rfl,rfl,rfl,rfl,trivial⟩ (qz rfl)
 ·have hkn:k=n:=by omega
  have hlt':(f+(k:Int)<f+(n:Int))=False:=qy
  have h:=hh hkn
  simp+contextual only [hlt',↓BL,↓XP,qp]
  apply hE
  simp+contextual only [qt,qg,n19,hal,qI hal,j3,show (barr 16 []).drop 16= [] from rfl,show (barr 16 []).length=16 from rfl,↓XP,qh,XW1]
  exact h
theorem au (l:List UInt8):(l.map ql).flatten=jf l:=by
 induction l with
 |nil=>rfl
 |cons x l ih=>simp only [List.map_cons,List.flatten_cons,ih,jf];rfl
theorem sN (hg:Kst H) (hk:k.length<=64) (ht:t.length<=4294967296) (h:R (.str (gj k t)) H):ACall Tryz.prog 103 [.str k,.str t] H R:=Cu hg hk ht (by rw [A2];exact h)
theorem QI (k t:List UInt8):(gj k t).length=32:=zi _
def vI:List UInt8:= [99,104,97,105,110]
def yh (seed:List UInt8) (i c:Int):List UInt8:=(gj seed (vI++qK [i,c])).take 16
theorem yO (seed:List UInt8) (i c:Int):(yh seed i c).length=16:=by simp [yh,QI]
theorem ae (hg:Kst H) (hs:seed.length<=64) (h:R (.agg (jf (yh seed i c))) H):ACall Tryz.prog 65 [.str seed,.i i,.i c] H R:=by
 refine b65 fun hf=>?_
 have hbig:=qk
 simp+contextual only [↓U65,Nat.mul_one,↓U65.1,↓XP,qh,XW1,qa,qb,qe]
 intro b6 h6
 refine eu (l:= [i,c]) (by simp) fun hel=>?_
 have hl2:([i,c]:List Int).length=2:=rfl
 rw [hl2] at hel
 intro _
 refine ⟨by simp;omega,?_⟩
 refine sN (t:=vI++qK [i,c]) (hg.push h6) hs (by simp [vI];omega) ?_
 rw [show yh seed i c=(gj seed (vI++qK [i,c])).take 16 from rfl] at h
 have hl:=QI seed (vI++qK [i,c])
 generalize gj seed (vI++qK [i,c])=m at hl h
 have hm:(m.take 16).length=16:=by simp [hl]
 simp+contextual only [Nv,Nw,Ng,hl,↓XP,qh,qb,↓XH]
 generalize m.take 16=w at hm h ⊢
 have hw:(w.map ql).take 16=w.map ql:=Nu (by simp [hm])
 intro _ _
 simp+contextual only [qt,hm,hw,au,qI hm,j3,qp,XW1]
 exact ⟨fun x hx=>by obtain ⟨y,_,rfl⟩:=List.mem_map.1 hx;rfl,h⟩
theorem ZF (hg:Kst H) (ha:a.length=16) (hb:b.length=16) (h:R (.agg (jf (jE 2 [a,b]))) H):ACall Tryz.prog 56 [.agg (jf a),.agg (jf b)] H R:=by
 refine b56 fun hf=>?_
 have hbig:=qk
 simp+contextual only [↓U56,Nat.mul_one,Nat.sub_zero,qt,↓U56.1,↓JX,qh,XW1,qa,qb,qe,↓XH]
 intro b2 h2 b3 h3 b4 h4
 obtain ⟨n32,f3⟩:=h3
 obtain ⟨n43,n42,f4⟩:=h4
 simp+contextual only [qt,ha,hb,qI ha,qI hb,gB,qp,XW1]
 refine ⟨zb _,fun _=>⟨zb _,?_⟩⟩
 have hK:Kst ((b4,.cells (barr 16 []))::(b3,.cells (jf b))::(b2,.cells (jf a))::H):=((hg.push h2).push ⟨Ne.symm n32,f3⟩).push ⟨Ne.symm n43,Ne.symm n42,f4⟩
 refine ⟨_,fun H1 hs=>Ut (c:=2) (l:= [a,b]) (hK.sub hs) (by decide) (by simp) (fun x hx=>?_) ⟨rfl,rfl⟩,?_⟩
 ·simp only [Nz,N8,or_false] at hx
  rcases hx with rfl|rfl<;>omega
 have hl:=jO 2 [a,b]
 generalize jE 2 [a,b]=s at hl h
 simp+contextual only [qt,hl,qI hl,j3,↓XP,qh,XW1,qb]
 exact h
theorem aP (hl:l.length<=1000) (h:(qK l).length<=9+9*l.length->R (.str (qK l)) H):ACall Tryz.prog 114 [.slc (ints l)] H R:=by
 refine FN fun hf=>?_
 have hbig:=qk
 simp+contextual only [↓U114,↓U114.1,↓XP,qp,qa]
 refine Qz (by omega) fun hel=>?_
 simp+contextual only [unb,↓XP,qh,XW1]
 exact fun _=>⟨isb _,h hel⟩
theorem Yb (hs:16<=s.length) (hm:s.length<=4294967296) (h:R (.agg (jf (s.take 16))) H):ACall Tryz.prog 80 [.str s] H R:=by
 refine b80 fun hf=>?_
 have hbig:=qk
 simp+contextual only [↓EM,↓EM,↓XP,qh,XW1,qa]
 intro b2 h2 b3 h3
 obtain ⟨n32,f3⟩:=h3
 refine XW.loopS hmm 15 (fun i:Nat=>[(0,.str s),(2,.ptr b2 0),(3,.ptr b3 0),(4,.i ((i:Nat):Int))]) (fun i=>(b3,.cells (barr 16 (s.take i)))::(b2,.cells (barr 16 []))::H) (fun i=>16 - i) (fun i=>i<=16) 0 (Nat.zero_le _) ⟨rfl,rfl,rfl,rfl,rfl,trivial⟩ rfl ?_
 intro i z hi K hN hE hR
 dsimp only [fl,zz,qa,qb]
 by_cases hlt:i<16
 ·have hlt':((i:Int)<16)=True:=qo
  have hlt2:((i:Int)<(s.length:Int))=True:=qo
  have g:=Y1 (l:=s) (i:=i) (by omega)
  have g2:=Wq (n:=16) (l:=s) (i:=i) hlt (by omega)
  have g3:(barr 16 (s.take i)).length=16:=gZ (by rw [N2];omega)
  simp+contextual only [Nat.mul_one,Ng,hlt',hlt2,g2,g3,↓EM,↓XP,qh]
  rw [qj (by omega)]
  exact ⟨hlt,hN (i+1) _ _ (by omega) (by omega) ⟨rfl,rfl,rfl,rfl,rfl,trivial⟩ (qz rfl)⟩
 ·have hi2:i=16:=by omega
  have hlt':((i:Int)<16)=False:=qy
  simp+contextual only [hlt',↓EM,↓XP,qp]
  apply hE
  have hs2:(s.take 16).length=16:=by rw [N2];omega
  rw [hi2]
  generalize s.take 16=s2 at hs2 h
  simp+contextual only [Ng,qt,qg,qm,n32,zy hs2,hs2,j3,qI hs2,show (barr 16 []).drop 16= [] from rfl,show (barr 16 []).length=16 from rfl,↓XP,qh,XW1]
  exact h
theorem UL (hg:Kst0 H) (hs:seed.length<=64) (h:R (.agg (jf (yh seed i c))) H):ACall Tryz.prog 71 [.str seed,.i i,.i c] H R:=by
 refine b71 fun hf=>?_
 have hbig:=qk
 simp+contextual only [↓U71,Nat.mul_one,↓U71.1,↓XP,qh,XW1,qa,qb,qe]
 intro b6 h6
 refine aP (l:= [i,c]) (by simp) fun hel=>?_
 have hl2:([i,c]:List Int).length=2:=rfl
 rw [hl2] at hel
 simp+contextual only [↓XP,qp,qb]
 refine fun _=>⟨by omega,?_⟩
 refine xe (t:=vI++qK [i,c]) (hg.push h6) hs (by simp [vI];omega) ?_
 have hl:=QI seed (vI++qK [i,c])
 rw [show yh seed i c=(gj seed (vI++qK [i,c])).take 16 from rfl] at h
 generalize gj seed (vI++qK [i,c])=m at hl h
 simp+contextual only [↓XP,qp]
 refine fun _=>Yb (s:=m) (by omega) (by omega) ?_
 have hm:(m.take 16).length=16:=by simp [hl]
 generalize m.take 16=w at hm h ⊢
 simp+contextual only [qt,hm,qI hm,j3,↓XP,qh,XW1,qb]
 exact h
theorem Ga {i c f:Int} {n:Nat} {v:List UInt8} {H:AH} (hg:Kst0 H) (hv:v.length=16) (hf0:0<=f) (hfn:f+n<=1000) (h:R (.agg (jf (wi i c v f n))) H):
  ACall Tryz.prog 70 [.i i,.i c,.i f,.i (f+n),.agg (jf v)] H R:=by
 refine b70 fun hf=>?_
 have hbig:=qk
 simp+contextual only [↓BH,↓BH,↓XP,qh,XW1,qa,qb]
 intro b9 h9 zV h10
 obtain ⟨n19,f10⟩:=h10
 refine XW.loopS hmm 28 (fun k:Nat=>[(0,.i i),(1,.i c),(3,.i (f+(n:Nat))),(9,.ptr b9 0),(10,.ptr zV 0),(11,.i (f+(k:Nat)))]) (fun k=>(zV,.cells (barr 16 []))::(b9,.cells (jf (wi i c v f k)))::H) (fun k=>n - k) (fun k=>k<=n) 0 (Nat.zero_le _) ?_ rfl ?_
 ·rw [show f+((0:Nat):Int)=f by omega]
  exact ⟨rfl,rfl,rfl,rfl,rfl,rfl,rfl,trivial⟩
 intro k z hk K hN hE hR
 dsimp only [fl,zz,qa,qb]
 have hal:=yG (i:=i) (c:=c) (f:=f) hv k
 have hs1:wi i c v f (k+1)=jE 8 [qK [i,c,f+k],wi i c v f k]:=rfl
 have hh:k=n->R (.agg (jf (wi i c v f k))) H:=fun e=>by rw [e];exact h
 generalize wi i c v f k=w at hal hs1 hh
 by_cases hlt:k<n
 ·have hlt':(f+(k:Int)<f+(n:Int))=True:=qo
  simp+contextual only [Nat.mul_one,hlt',↓BH,↓XP,qh,XW1,qe]
  have hK:Kst0 ((zV,.cells (barr 16 []))::(b9,.cells (jf w))::H):=(hg.push h9).push ⟨Ne.symm n19,f10⟩
  refine ⟨_,fun _ _=>aP (l:= [i,c,f+k]) (by simp) fun _=>⟨rfl,rfl⟩,?_⟩
  simp+contextual only [qt,qg,n19,hal,qI hal,j3,↓XP,qh,XW1]
  refine fun _=>⟨_,fun _ _=>un hal ⟨rfl,rfl⟩,?_⟩
  simp+contextual only [Nat.mul_one,hal,↓XP,qh,XW1,qe]
  refine fun _=>⟨_,fun H1 hs=>KQ (c:=8) (l:= [qK [i,c,f+k],w]) (hK.sub hs) (by decide) (by simp) (fun x hx=>?_) ⟨rfl,rfl⟩,?_⟩
  ·simp only [Nz,N8,or_false] at hx
   rcases hx with rfl|rfl
   ·refine Nq (gd (l:= [i,c,f+k]) (by simp) fun x hx=>?_) (by decide)
    simp only [Nz,N8,or_false] at hx
    rcases hx with rfl|rfl|rfl
    ·exact hf.1
    ·exact hf.2.1
    ·rw [kX];omega
   ·omega
  rw [<-hs1]
  have hal2:=jO 8 [qK [i,c,f+k],w]
  rw [<-hs1] at hal2
  simp+contextual only [qt,qg,qm,n19,hal,hal2,show (jf w).drop 16= [] from List.drop_of_length_le (by rw [qt,hal];exact Nt _),↓BH,↓XP,qh,XW1]
  rw [show IntKind.i64.wrap (f+(k:Int)+1)=f+((k+1:Nat):Int) by rw [qi (by omega) (by omega)];omega]
  exact hN (k+1) _ _ (by omega) (by omega) ⟨rfl,rfl,rfl,rfl,rfl,rfl,rfl,trivial⟩ (qz rfl)
 ·have hkn:k=n:=by omega
  have hlt':(f+(k:Int)<f+(n:Int))=False:=qy
  have h:=hh hkn
  simp+contextual only [hlt',↓BH,↓XP,qp]
  apply hE
  simp+contextual only [qt,qg,n19,hal,qI hal,j3,show (barr 16 []).drop 16= [] from rfl,show (barr 16 []).length=16 from rfl,↓XP,qh,XW1]
  exact h
theorem VC (hg:Kst0 H) (ha:a.length=16) (hb:b.length=16) (h:R (.agg (jf (jE 2 [a,b]))) H):ACall Tryz.prog 81 [.agg (jf a),.agg (jf b)] H R:=by
 refine b81 fun hf=>?_
 have hbig:=qk
 simp+contextual only [↓U81,qt,↓U81.1,↓XP,qh,XW1,qa,qb]
 intro b2 h2 b3 h3 b4 h4
 obtain ⟨n32,f3⟩:=h3
 obtain ⟨n43,n42,f4⟩:=h4
 have hK:Kst0 ((b4,.cells (barr 16 []))::(b3,.cells (jf b))::(b2,.cells (jf a))::H):=((hg.push h2).push ⟨Ne.symm n32,f3⟩).push ⟨Ne.symm n43,Ne.symm n42,f4⟩
 simp+contextual only [ha,qI ha,j3,qp]
 refine ⟨_,fun _ _=>un ha ⟨rfl,rfl⟩,?_⟩
 simp+contextual only [qt,qg,n43,ha,hb,qI hb,j3,↓XP,qh,XW1]
 refine fun _=>⟨_,fun _ _=>un hb ⟨rfl,rfl⟩,?_⟩
 simp+contextual only [Nat.mul_one,hb,↓XP,qh,XW1,qe]
 refine fun _=>⟨_,fun H1 hs=>KQ (c:=2) (l:= [a,b]) (hK.sub hs) (by decide) (by simp) (fun x hx=>?_) ⟨rfl,rfl⟩,?_⟩
 ·simp only [Nz,N8,or_false] at hx
  rcases hx with rfl|rfl<;>omega
 have hl:=jO 2 [a,b]
 generalize jE 2 [a,b]=s at hl h
 simp+contextual only [qt,hl,qI hl,j3,↓XP,qh,XW1,qb]
 exact h
theorem G6 {i c f t:Int} {n:Nat} {v:List UInt8} {H:AH} (ht:t=f+n) (hg:Kst0 H) (hv:v.length=16) (hf0:0<=f) (hfn:f+n<=1000) (h:R (.agg (jf (wi i c v f n))) H):
  ACall Tryz.prog 70 [.i i,.i c,.i f,.i t,.agg (jf v)] H R:=by
 subst ht
 exact Ga hg hv hf0 hfn h
def JK (seed:List UInt8) (i:Int):Nat->List UInt8
 |0=>[]
 |n+1=>JK seed i n++wi i n (yh seed i n) 0 3
theorem Z2 (seed:List UInt8) (i:Int):∀n,(JK seed i n).length=16*n
 |0=>rfl
 | n+1=>by
  rw [JK,Ni,Z2 seed i n,yG (yO _ _ _)]
  omega
def WC (seed:List UInt8) (i:Int):List UInt8:=jE 1 [jE 9 [JK seed i 68]]
theorem Wn (seed:List UInt8) (i:Int):(WC seed i).length=16:=jO _ _
theorem lq {seed:List UInt8} {i:Int} {H:AH} (hg:Kst0 H) (hs:seed.length<=64) (h:R (.agg (jf (WC seed i))) H):ACall Tryz.prog 101 [.str seed,.i i] H R:=by
 refine Ir fun hf=>?_
 have hbig:=qk
 simp+contextual only [↓ZM,↓ZM,↓XP,qh,qa,qb]
 intro b4 h4
 obtain ⟨t,ht⟩:∃t:Nat,t=68:=⟨_,rfl⟩
 have hh:R (.agg (jf (jE 1 [jE 9 [JK seed i t]]))) H:=by rw [ht];exact h
 clear h
 refine XW.loopS hmm 29 (fun n:Nat=>[(0,.str seed),(1,.i i),(4,.ptr b4 0),(5,.str (JK seed i n)),(6,.i (n:Int))]) (fun n=>(b4,.cells (barr 16 []))::H) (fun n=>t - n) (fun n=>n<=t) 0 (Nat.zero_le _) ⟨rfl,rfl,rfl,rfl,rfl,rfl,trivial⟩ rfl ?_
 intro n z hn K hN hE hR
 dsimp only [fl,zz,qa,qb]
 have hkl:=Z2 seed i n
 have hst:JK seed i (n+1)=JK seed i n++wi i n (yh seed i n) 0 3:=rfl
 have hh2:n=t->R (.agg (jf (jE 1 [jE 9 [JK seed i n]]))) H:=fun e=>by rw [e];exact hh
 generalize JK seed i n=w at hkl hst hh2
 have hg2:Kst0 ((b4,.cells (barr 16 []))::H):=hg.push h4
 by_cases hlt:n<t
 ·have hlt':((n:Int)<68)=True:=qo
  simp+contextual only [hlt',↓ZM,↓XP,qp]
  refine UL hg2 hs ?_
  have hsl:=yO seed i n
  generalize yh seed i n=u at hsl hst
  simp+contextual only [↓XP,qp,XW1]
  refine G6 (n:=3) rfl hg2 hsl (by omega) (by omega) ?_
  have hal:=yG (i:=i) (c:=n) (f:=0) hsl 3
  generalize wi i n u 0 3=a at hal hst
  simp+contextual only [↓XP,qp,XW1]
  refine un hal ?_
  simp+contextual only [hal,<-hst,↓ZM,↓XP,qp]
  rw [qj (by omega)]
  exact fun _=>⟨by omega,hN (n+1) _ _ (by omega) (by omega) ⟨rfl,rfl,rfl,rfl,rfl,rfl,trivial⟩ (qz rfl)⟩
 ·have hnt:n=t:=by omega
  have hlt':((n:Int)<68)=False:=qy
  simp+contextual only [hlt',↓ZM,↓XP,qp]
  apply hE
  have h:=hh2 hnt
  simp+contextual only [Nat.mul_one,↓ZM,↓XP,qh,XW1,qe]
  refine KQ (c:=9) (l:= [w]) hg2 (by decide) (by simp) (fun x hx=>by rw [List.mem_singleton.1 hx];omega) ?_
  have h9:=jO 9 [w]
  generalize jE 9 [w]=k9 at h9 h
  simp+contextual only [qt,h9,↓ZM,↓XP,qh,XW1,qb]
  intro b7 h7
  obtain ⟨n74,f7⟩:=h7
  simp+contextual only [qI h9,j3]
  have hg3:Kst0 ((b7,.cells (jf k9))::(b4,.cells (barr 16 []))::H):=hg2.push ⟨Ne.symm n74,f7⟩
  refine un h9 ?_
  simp+contextual only [Nat.mul_one,↓XP,qh,XW1,qe]
  refine fun _=>KQ (c:=1) (l:= [k9]) hg3 (by decide) (by simp) (fun x hx=>by rw [List.mem_singleton.1 hx];omega) ?_
  have h1:=jO 1 [k9]
  generalize jE 1 [k9]=k1 at h1 h
  simp+contextual only [qt,qg,qm,n74,h1,qI h1,j3,show (barr 16 []).drop 16= [] from rfl,show (barr 16 []).length=16 from rfl,↓XP,qh,XW1]
  exact h
def jp (seed:List UInt8):Nat->Nat->List UInt8
 |0,k=>WC seed (k:Int)
 |l+1,k=>jE 2 [jp seed l (2*k),jp seed l (2*k+1)]
theorem jI (seed:List UInt8):∀l k,(jp seed l k).length=16
 |0,k=>Wn _ _
 |l+1,k=>jO _ _
def Ql (seed:List UInt8) (l n:Nat):List (List D):=(List.range n).map fun k=>jf (jp seed l k)
theorem WE (seed:List UInt8) (l n:Nat):Ql seed l n++ [jf (jp seed l n)]=Ql seed l (n+1):=by simp [Ql,N3]
theorem vG (seed:List UInt8) (l n:Nat):(Ql seed l n).length=n:=by simp [Ql]
theorem z7 (h:k<n):(Ql seed l n).getD k []=jf (jp seed l k):=by simp [Ql,List.getD,h]
def Q2 (seed:List UInt8) (ht:Nat) (n:Nat):List (List D):=(List.range n).map fun l=>[.slc (Ql seed l (2 ^ (ht - l)))]
theorem cV (seed:List UInt8) (ht n:Nat):Q2 seed ht n++ [[.slc (Ql seed n (2 ^ (ht - n)))]]=Q2 seed ht (n+1):=by simp [Q2,N3]
theorem uH (seed:List UInt8) (ht n:Nat):(Q2 seed ht n).length=n:=by simp [Q2]
theorem GX:∀y∈Ql seed l n,y.length=16:=fun y hy=>by
 obtain ⟨k,_,rfl⟩:=List.mem_map.1 hy
 rw [qt,jI]
theorem xr:∀y∈Q2 seed ht n,y.length=1:=fun y hy=>by
 obtain ⟨k,_,rfl⟩:=List.mem_map.1 hy
 rfl
theorem gW (h:l<n):(Q2 seed ht n).getD l []= [.slc (Ql seed l (2 ^ (ht - l)))]:=by simp [Q2,List.getD,h]
theorem ua (h:ht<=6):IntKind.i64.wrap (1*2 ^ min ht IntKind.i64.bits)=((2 ^ ht:Nat):Int)∧2 ^ ht<=64∧1<=2 ^ ht:=by
 rcases ht with _|_|_|_|_|_|_|n
 all_goals first|decide|omega
theorem UC (hg:Kst0 H) (hs:seed.length<=64) (hh:ht<=6) (h:R (.own (Q2 seed ht (ht+1))) H):ACall Tryz.prog 62 [.str seed,.i (ht:Int)] H R:=by
 refine b62 fun hf=>?_
 have hbig:=qk
 obtain ⟨hp1,hp2,hp3⟩:=ua hh
 have hrow0:1<=2 ^ (ht - 0):=hp3
 simp+contextual only [↓df,↓df,↓XP,qp,qa,qb]
 refine XW.loopS hmm 64 (fun i:Nat=>[(0,.str seed),(1,.i (ht:Int)),(5,.own (Ql seed 0 i)),(6,.i (i:Int))]) (fun _=>H) (fun i=>64 - i) (fun i=>i<=2 ^ ht) 0 (Nat.zero_le _) ⟨rfl,rfl,rfl,rfl,rfl,trivial⟩ rfl ?_
 intro i z hi K hN hE hR
 dsimp only [fl,zz,qa,qb]
 by_cases hlt:i<2 ^ ht
 ·have hlt':((i:Int)<((2 ^ ht:Nat):Int))=True:=qo
  simp+contextual only [hp1,hlt',↓df,↓XP,qp]
  refine lq hg hs ?_
  have hs2:=WE seed 0 i
  rw [show jp seed 0 i=WC seed (i:Int) from rfl] at hs2
  have hl2:=Wn seed (i:Int)
  generalize WC seed (i:Int)=w at hs2 hl2
  simp+contextual only [qt,vG,hs2,hl2,↓df,↓XP,qh,XW1,qc,qe]
  rw [qj (by omega)]
  exact ⟨GX,by omega,hN (i+1) _ _ (by omega) (by omega) ⟨rfl,rfl,rfl,rfl,rfl,trivial⟩ (qz rfl)⟩
 ·have hlt':((i:Int)<((2 ^ ht:Nat):Int))=False:=qy
  have hi2:i=2 ^ ht:=by omega
  simp+contextual only [hp1,hlt',↓df,↓XP,qp]
  apply hE
  rw [hi2]
  clear hN hE hR hi hlt hlt' hi2
  have hl1: [[D.slc (Ql seed 0 (2 ^ ht))]]=Q2 seed ht 1:=rfl
  simp+contextual only [Nat.mul_one,hl1,↓df,↓XP,qh,XW1,qe]
  refine XW.loopS hmm 64 (fun l:Nat=>[(0,.str seed),(1,.i (ht:Int)),(7,.own (Q2 seed ht (l+1))),(8,.i (l:Int))]) (fun _=>H) (fun l=>ht - l) (fun l=>l<=ht) 0 (Nat.zero_le _) ⟨rfl,rfl,rfl,rfl,rfl,trivial⟩ rfl ?_
  intro l z hl K hN hE hR
  dsimp only [fl,zz,qa,qb]
  by_cases hlt:l<ht
  ·have hlt':((l:Int)<(ht:Int))=True:=qo
   simp+contextual only [hlt',↓df,↓XP,qp]
   have hgl:=gW (seed:=seed) (ht:=ht) (n:=l+1) (l:=l) (by omega)
   have hpw:2 ^ (ht - l)=2*2 ^ (ht - (l+1)):=by
    rw [show ht - l=(ht - (l+1))+1 by omega,Nat.pow_succ]
    omega
   have hpm:2 ^ (ht - (l+1))<=64:=Nq (Nat.pow_le_pow_right (by omega) (by omega:ht - (l+1)<=ht)) hp2
   have hst:=cV seed ht (l+1)
   generalize 2 ^ (ht - (l+1))=m at hpw hpm hst
   rw [hpw] at hgl
   refine XW.loopS hmm 64 (fun j:Nat=>[(0,.str seed),(1,.i (ht:Int)),(7,.own (Q2 seed ht (l+1))),(8,.i (l:Int)),(9,.own (Ql seed (l+1) j)),(10,.i ((2*j:Nat):Int))]) (fun _=>H) (fun j=>m - j) (fun j=>j<=m) 0 (Nat.zero_le _) ⟨rfl,rfl,rfl,rfl,rfl,rfl,rfl,trivial⟩ rfl ?_
   intro j z hj K hN' hE' hR'
   dsimp only [fl,zz,qa,qb]
   by_cases hlt2:j<m
   ·have hb1:((l:Int)<((l+1:Nat):Int))=True:=qo
    have hw1:IntKind.i64.wrap (((2*j:Nat):Int)+1)=((2*j+1:Nat):Int):=qj (by omega)
    have hw2:IntKind.i64.wrap (((2*j:Nat):Int)+2)=((2*(j+1):Nat):Int):=by rw [qi (by omega) (by omega)];omega
    have hc0:(((2*j:Nat):Int)<((2*m:Nat):Int))=True:=qo
    have hc1:(((2*j+1:Nat):Int)<((2*m:Nat):Int))=True:=qo
    have g0:=z7 (seed:=seed) (l:=l) (n:=2*m) (k:=2*j) (by omega)
    have g1:=z7 (seed:=seed) (l:=l) (n:=2*m) (k:=2*j+1) (by omega)
    have n0:=jI seed l (2*j)
    have n1:=jI seed l (2*j+1)
    have hrs:=WE seed (l+1) j
    rw [show jp seed (l+1) j=jE 2 [jp seed l (2*j),jp seed l (2*j+1)] from rfl] at hrs
    generalize jp seed l (2*j)=a at g0 n0 hrs
    generalize jp seed l (2*j+1)=b at g1 n1 hrs
    have n2:=jO 2 [a,b]
    simp+contextual only [qt,vG,uH,hb1,hgl,hw1,hc0,hc1,g0,g1,n0,n1,qI n0,qI n1,Nh,↓df,↓XP,qh,XW1]
    refine fun _=>⟨_,fun H1 hs=>VC (hg.sub hs) n0 n1 ⟨rfl,rfl⟩,?_⟩
    generalize jE 2 [a,b]=c at hrs n2 ⊢
    simp+contextual only [qt,vG,hrs,n2,hw2,↓df,↓XP,qh,XW1,qc,qe]
    exact ⟨GX,by omega,hN' (j+1) _ _ (by omega) (by omega) ⟨rfl,rfl,rfl,rfl,rfl,rfl,rfl,trivial⟩ (qz rfl)⟩
   ·have hjm:j=m:=by omega
    have hb1:((l:Int)<((l+1:Nat):Int))=True:=qo
    have hw1:IntKind.i64.wrap (((2*j:Nat):Int)+1)=((2*j+1:Nat):Int):=qj (by omega)
    have hc1:(((2*j+1:Nat):Int)<((2*m:Nat):Int))=False:=qy
    simp+contextual only [vG,uH,hb1,hgl,hw1,hc1,Nh,↓df,↓XP,qh,XW1]
    intro _
    apply hE'
    rw [hjm]
    simp+contextual only [uH,Nat.mul_one,hst,↓df,↓XP,qh,XW1,qe,qf]
    rw [qj (by omega)]
    exact ⟨xr,by omega,hN (l+1) _ _ (by omega) (by omega) ⟨rfl,rfl,rfl,rfl,rfl,trivial⟩ (qz rfl)⟩
  ·have hlt':((l:Int)<(ht:Int))=False:=qy
   have hl2:l=ht:=by omega
   simp+contextual only [hlt',↓df,↓XP,qp]
   apply hE
   rw [hl2]
   simp+contextual only [↓XP,qp,XW1]
   exact h
def v8 (seed:List UInt8) (h:Int):Bool:=decide (seed.length=32∧0<=h∧h<=6)
theorem Gf (hR:R (.bool (v8 seed h)) H):ACall Tryz.prog 61 [.str seed,.i h] H R:=by
 refine b61 fun hf=>?_
 have hbig:=qk
 by_cases h1:seed.length=32
 ·have e1:(((seed.length:Nat):Int)=32)=True:=qo
  by_cases h2:0<=h
  ·have e2:((0:Int)<=h)=True:=eq_true h2
   by_cases h3:h<=6
   ·have e3:(h<=6)=True:=eq_true h3
    rw [v8,decide_eq_true ⟨h1,h2,h3⟩] at hR
    simp+contextual only [↓U61,e1,e2,e3,↓U61.1,↓XP,qh,qa,qb]
    exact fun _=>hR
   ·have e3:(h<=6)=False:=eq_false h3
    rw [v8,decide_eq_false (fun c=>h3 c.2.2)] at hR
    simp+contextual only [↓U61,e1,e2,e3,↓U61.1,↓XP,qh,qa,qb]
    exact fun _=>hR
  ·have e2:((0:Int)<=h)=False:=eq_false h2
   rw [v8,decide_eq_false (fun c=>h2 c.2.1)] at hR
   simp+contextual only [↓U61,e1,e2,↓U61.1,↓XP,qh,qa,qb]
   exact fun _=>hR
 ·have e1:(((seed.length:Nat):Int)=32)=False:=qy
  rw [v8,decide_eq_false (fun c=>h1 c.1)] at hR
  simp+contextual only [↓U61,e1,↓U61.1,↓XP,qh,qa,qb]
  exact fun _=>hR
theorem cI (hg:Kst0 H) (hs:seed.length=32) (hh:ht<=6) (h:R (.tup [.agg (jf (jp seed ht 0)),.i 0]) H):ACall Tryz.prog 26 [.str seed,.i (ht:Int)] H R:=by
 refine b26 fun hf=>?_
 have hbig:=qk
 simp+contextual only [↓AV,↓AV,↓XP,qh,qa,qb]
 intro b4 h4
 refine Gf ?_
 have hgt:v8 seed ht=true:=decide_eq_true ⟨hs,by omega,by omega⟩
 simp+contextual only [hgt,↓AV,↓XP,qp,XW1,↓XH]
 refine UC (seed:=seed) (ht:=ht) (hg.push h4) (by omega) hh ?_
 have hl1:((ht:Int)<((ht+1:Nat):Int))=True:=qo
 have g1:=gW (seed:=seed) (ht:=ht) (n:=ht+1) (l:=ht) (by omega)
 rw [Nat.sub_self] at g1
 have g2:=z7 (seed:=seed) (l:=ht) (n:=2 ^ 0) (k:=0) (by decide)
 have n2:=jI seed ht 0
 generalize jp seed ht 0=w at g2 n2 h
 simp+contextual only [uH,vG,hl1,g1,g2,n2,qt,show ((0:Int)<((2 ^ 0:Nat):Int))=True from by decide,qI n2,j3,↓XP,qh,XW1,qb]
 exact fun _ _=>h
theorem ZU (hn:v8 seed i=false) (h:R (.tup [.agg (barr 16 []),.i 1]) H):ACall Tryz.prog 26 [.str seed,.i i] H R:=by
 refine b26 fun hf=>?_
 have hbig:=qk
 simp+contextual only [↓AV,↓AV,↓XP,qh,qa,qb]
 intro b4 h4
 refine Gf ?_
 simp+contextual only [hn,↓AV,↓XP,qh,XW1,qb,↓XH]
 exact h
def lx (seed:List UInt8) (i:Int):D:=if v8 seed i=true∧i<=4 then .tup [.agg (jf (jp seed i.toNat 0)++ [.i i]),.i 0] else .tup [.agg (barr 16 []++ [.i 0]),.i 1]
theorem Ky (h:v8 seed i=true) (h4:i<=4):lx seed i= .tup [.agg (jf (jp seed i.toNat 0)++ [.i i]),.i 0]:=if_pos ⟨h,h4⟩
theorem QO (h:¬(v8 seed i=true∧i<=4)):lx seed i= .tup [.agg (barr 16 []++ [.i 0]),.i 1]:=if_neg h
theorem JT (h:w.length=16) (x:D):List.take 16 (jf w++ [x])=jf w:=by
 rw [List.take_append_of_le_length (by rw [qt,h];exact Nt _),qI h]
theorem vf (h:w.length=16) (x:D):(jf w++ [x]).length=17:=by rw [Ni,qt,h];rfl
theorem aJ (h:w.length=16) (x:D):List.drop 17 (jf w++ [x])= []:=List.drop_of_length_le (by rw [vf h];exact Nt _)
theorem ZL (h:w.length=16) (x:D):List.take 17 (jf w++ [x])=jf w++ [x]:=Nu (by rw [vf h];exact Nt _)
theorem U0 (i:Int):List.map D.view1 (jf w++ [.i i])=jf w++ [.i i]:=by
 rw [No,j3];rfl
theorem Jo (hg:Kst0 H) (h:R (lx seed i) H):ACall Tryz.prog 11 [.str seed,.i i] H R:=by
 refine AN fun hf=>?_
 have hbig:=qk
 by_cases h4:(4:Int)<i
 ·have e4:((4:Int)<i)=True:=eq_true h4
  rw [QO (fun c=>by omega)] at h
  simp+contextual only [↓AR,e4,↓AR,↓XP,qh,XW1,qa,qb]
  exact fun _ _=>h
 ·have e4:((4:Int)<i)=False:=eq_false h4
  simp+contextual only [↓AR,e4,↓AR,↓XP,qh,qa,qb]
  intro b4 h4'
  by_cases hk:v8 seed i=true
  ·obtain ⟨hk1,hk2,hk3⟩:seed.length=32∧0<=i∧i<=6:=of_decide_eq_true hk
   rw [Ky hk (by omega)] at h
   obtain ⟨n,rfl⟩:=N1 hk2
   refine cI (seed:=seed) (ht:=n) (hg.push h4') hk1 (by omega) ?_
   rw [Nh] at h
   have n2:=jI seed n 0
   generalize jp seed n 0=w at n2 h
   simp+contextual only [↓AR,↓XP,qh,XW1,qb,qe]
   intro _ b6 h6
   obtain ⟨n64,f6⟩:=h6
   simp+contextual only [n2,qt,qI n2,j3,JT n2,vf n2,aJ n2,ZL n2,U0,qp,XW1]
   exact h
  ·have hkf:v8 seed i=false:=by simpa using hk
   rw [QO (fun c=>hk c.1)] at h
   refine ZU hkf ?_
   simp+contextual only [↓AR,↓XP,qh,XW1,qb,qe]
   exact fun _ _ _=>⟨rfl,fun _=>h,fun c=>absurd c (by decide)⟩
def oy (o:Int) (n:Nat):List UInt8:=(List.range n).map fun (i:Nat)=>UInt8.ofNat (65+(7*o+i) % 60).toNat
theorem W8 (o:Int) (n:Nat):(oy o n).length=n:=by simp [oy]
theorem sZ (ho:0<=o) (ho2:o<=1000) (h:R (.str (oy o 32)) H):ACall Tryz.prog 8 [.i o] H R:=by
 refine b8 fun hf=>?_
 have hbig:=qk
 simp+contextual only [↓U8,↓U8,↓XP,qp,qa]
 refine XW.loopS hmm 21 (fun i:Nat=>[(0,.i o),(3,.str (oy o i)),(4,.i (i:Int))]) (fun _=>H) (fun i=>32 - i) (fun i=>i<=32) 0 (Nat.zero_le _) ⟨rfl,rfl,rfl,rfl,trivial⟩ rfl ?_
 intro i z hi K hN hE hR
 dsimp only [fl,zz,qa,qb]
 by_cases hlt:i<32
 ·have hlt':((i:Int)<32)=True:=qo
  have e1:IntKind.i64.wrap (7*o)=7*o:=qi (by omega) (by omega)
  have e2:IntKind.i64.wrap (7*o+i)=7*o+i:=qi (by omega) (by omega)
  have e3:Int.tmod (7*o+i) 60=(7*o+i) % 60:=by rw [Int.tmod_eq_emod_of_nonneg (by omega)]
  have hq:0<=(7*o+i) % 60∧(7*o+i) % 60<60:=⟨Int.emod_nonneg _ (by decide),Int.emod_lt_of_pos _ (by decide)⟩
  have hss:oy o i++ [UInt8.ofNat (65+(7*o+i) % 60).toNat]=oy o (i+1):=by simp [oy,N3]
  generalize (7*o+i) % 60=q at e3 hq hss
  have e4:IntKind.i64.wrap (65+q)=65+q:=qi (by omega) (by omega)
  have e5:IntKind.i64.wrap q=q:=qi (by omega) (by omega)
  have e6:IntKind.u8.wrap (65+q)=((UInt8.ofNat (65+q).toNat).toNat:Int):=by
   obtain ⟨m,rfl⟩:=N1 hq.1
   rw [show ((65:Int)+(m:Int)).toNat=65+m by omega]
   simp only [UInt8.toNat_ofNat']
   rw [show (65:Int)+(m:Int)=((65+m:Nat):Int) by omega]
   simp only [IntKind.wrap]
   rw [if_neg (by simp [IntKind.signed])]
   show ((65+m:Nat):Int) % 256=(((65+m) % 256:Nat):Int)
   omega
  generalize UInt8.ofNat (65+q).toNat=c at e6 hss
  have e7:unbyte [.int .u8 (c.toNat:Int)]=c:=by
   have:=unb [c]
   simpa [ql] using this
  have e8:yQ [.int .u8 (c.toNat:Int)]:=isb [c] _ (by simp [ql])
  simp+contextual only [Nat.mul_one,hlt',e1,e2,e3,e4,e6,e7,hss,↓U8,↓XP,qh,XW1,qe]
  rw [qj (by omega)]
  exact ⟨by decide,e8,fun _=>⟨by rw [W8];omega,hN (i+1) _ _ (by omega) (by omega) ⟨rfl,rfl,rfl,rfl,trivial⟩ (qz rfl)⟩⟩
 ·have hi2:i=32:=by omega
  have hlt':((i:Int)<32)=False:=qy
  simp+contextual only [hlt',↓U8,↓XP,qp]
  apply hE
  rw [hi2]
  simp+contextual only [Ng,↓XP,qp,XW1]
  exact h
end Go.Proofs.YtgopigkdcmhbbaaGreatDoor
end
noncomputable section
namespace Go.Proofs.YtgopigkdcmhbbaaGreatDoor
open Go.Xs
open Go Go.Aw
def EC:=yy Tryz.f40
def V40:=PLift.up (aI (@unf (EC 2) (F [u,u,u,y 5,y 5,v,u]) rfl) (@unf (EC 0) (R [u] (EC 2)) rfl))
theorem U40:type_of% V40.down:=V40.down
theorem b40:Bt 40 9 (EC 0) [(.tmp 2)]:=bt Tryz.func40 rfl
def y41:=yy Tryz.f41
def x41_s1:XC:=(R [b (.makeMap 134 .none) 5,a (.alloc 134) 3,w 134 3 5] (.seq (.gh (.reg [a (.alloc 85) 4])) (y41 6)))
def x41:XC:=(R [B 9 0 1,a (.assign (.const .nilFunc)) 2] x41_s1)
def V41:=PLift.up (aI (@unf (y41 6) (R [v,u] (F [v,u])) rfl) (@unf _ _ x41_s1.eq_1))
theorem U41:type_of% V41.down:=V41.down
theorem r41 {args:List D} {H:AH} {R:D->AH->Prop} (h:facts args->xcode Tryz.prog x41 (args++List.replicate (8 - args.length) (.tup [])) H (Um Tryz.prog [(.tmp 2)] R)):ACall Tryz.prog 41 args H R:=
 yV hm Tryz.func41 rfl (by kernel_rfl) (by kernel_rfl) (by kernel_rfl) (by kernel_rfl) (by kernel_rfl) (by kernel_rfl) h
def lg:=yy Tryz.f53
def x53_s5:XC:=(R [a (.call ⟨(.builtin .imag),#[],#[114]⟩) 3] (.seq (R [J 0 7] (.block 0 (.loop (lg 9)))) (lg 23)))
def x53:XC:=(R [a (.alloc 33) 2] x53_s5)
def V53:=PLift.up (aI (aI (@unf (lg 19) (R [u,u,v,u,u] (r [u,u])) rfl) (aI (@unf (lg 15) (X (O (R [v,u] (lg 19))) (r [u,u])) rfl) (@unf (lg 9) (R [u] (X I (lg 15))) rfl))) (aI (@unf (lg 25) (F [u,u,u,v,u]) rfl) (aI (@unf (lg 23) (R [u,u,v,u,u] (lg 25)) rfl) (@unf _ _ x53_s5.eq_1))))
theorem By:type_of% V53.down:=V53.down
theorem b53:Bt 53 23 x53 [(.cell 2 33)]:=bt Tryz.func53 rfl
def px:=yy Tryz.f82
def x82_s0:XC:=(.seq (.gh (.reg [m 9 19])) (C 19 (R [L 33 8 20,w 33 7 20] .ret) .skip))
def x82_s3:XC:=(.seq (.gh (px 21)) (.seq (.gh (.reg [L 33 10 44,w 33 7 44])) .ret))
def x82_s4:XC:=(R [a (.alloc 33) 10] (.seq (R [m 0 21,q .eql 3 21 0 22] (px 17)) x82_s3))
def x82_s5:XC:=(.seq (.seq (.gh (px 4)) x82_s0) x82_s4)
def x82:XC:=(R [B 3 1 6,a (.alloc 33) 7] x82_s5)
def V82r:=PLift.up (aI (@unf (px 21) (r [u,u,u,u,u,u]) rfl) (@unf (px 4) (r [u,u,u,u,u,u,v,v,u,u,u]) rfl))
theorem KR:type_of% V82r.down:=V82r.down
def V82:=PLift.up (aI (aI (@unf _ _ x82_s0.eq_1) (aI (@unf (px 19) (G [u,u,u,u,u,u,u,u,u,u,u,u,u,v,u]) rfl) (@unf (px 17) (V (r [u,v,u]) (px 19)) rfl))) (aI (@unf _ _ x82_s3.eq_1) (aI (@unf _ _ x82_s4.eq_1) (@unf _ _ x82_s5.eq_1))))
theorem CY:type_of% V82.down:=V82.down
theorem b82:Bt 82 45 x82 [(.cell 7 33)]:=bt Tryz.func82 rfl
def F8:=yy Tryz.f83
def V83:=PLift.up (aI (@unf (F8 2) (X (G [u,u,u,u,u,u,v,u]) .ret) rfl) (@unf (F8 0) (R [u] (F8 2)) rfl))
theorem U83:type_of% V83.down:=V83.down
theorem b83:Bt 83 12 (F8 0) [(.cell 4 33)]:=bt Tryz.func83 rfl
end Go.Proofs.YtgopigkdcmhbbaaGreatDoor
end
