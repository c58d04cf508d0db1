/- A part of the proof of what the last text says: Ka6, Ka7, Ka8, Ka9, XcJ, Kc1, Kc2, Kc3, Kc4, Kc5, Gp0, Rh1, Gp1, Gf1, XcB, Gw1, Gw2, Gm0, XcC, Gm1, Gm2, Kb1, Kc6, Kc7, Kc8, Kp1, Kd1, Kd2, Kd3, Kd4, Kd5, Kd6, XcK, XcE, Ks1, Ks2, Ks3, Ks4, Ke1, Em0. Conditions: those in each theorem. -/
import Derived.Test.YtgopigkdcmhbbaaGreatDoorS4
import Derived.Laws.BitsAllLaws
import Derived.Shelf.Strings.Builder1
import Derived.TacticsIn
import Derived.Lib.UnsafeStr
import Derived.Shelf.RegionOpenPlain
set_option autoImplicit true
set_option relaxedAutoImplicit true
set_option linter.unusedVariables false
set_option linter.unusedSimpArgs false
set_option maxRecDepth 100000
set_option maxHeartbeats 16000000
open List renaming getD_eq_getElem?_getD -> Ma,getElem?_eq_getElem -> Mb,getD_cons_succ -> Mc,getD_cons_zero -> Md,getElem?_map -> Me,length_append -> Mi,length_cons -> Mj,length_map -> Ml,getElem?_cons_zero -> Mm,map_append -> Mo,append_assoc -> Mp,take_of_length_le -> Mt,mem_cons -> Mx,getElem?_eq_none -> My,length_take -> Mz,range_succ -> M0,append_nil -> M3,nil_append -> M4,map_map -> M5,map_congr_left -> M6,not_mem_nil -> M7
open Option renaming getD_some -> Mf
open Int renaming cast_ofNat_Int -> Mg,toNat_natCast -> Mh,natCast_nonneg -> Mn,reduceToNat -> Mu,reduceLE -> Mv,reduceLT -> Mw
open Nat renaming le_trans -> Mq,lt_of_lt_of_le -> Mr,le_refl -> Ms,reduceSub -> qa,reduceAdd -> qb,reduceMul -> qc,reduceEqDiff -> qd,reduceLeDiff -> qe,reduceBEq -> qf
section
namespace Go.Proofs.YtgopigkdcmhbbaaGreatDoor
open Go Go.Aw
variable {R:D->AH->Prop}
theorem Ks (h:0<=n) (h':n<18446744073709551616):IntKind.u64.wrap n=n:=by
 rw [show IntKind.u64.wrap n=n % 18446744073709551616 by simp [IntKind.wrap,IntKind.bits,IntKind.signed]]
 omega
theorem sG (hg:Kst H) (hp:Blk H p o m) (h:R (.agg (vT s m).D) H):ACall Tryz.prog 142 [.agg s.D,.hso p o 64] H R:=by
 obtain ⟨cs,h1,h2⟩:=hp
 exact Uz hg h1 h2 h
theorem J1 {s:Str} (h:s.blk.length=64):s.D.take 73=s.D:=Mt (by rw [yv h];exact Ms _)
theorem J7 {s:Str}:s.D.map D.view1=s.D:=by
 unfold Str.D jr
 rw [Mo,Mo,M5,S8.D_view]
 rfl
def zst:Str:=⟨z8,List.replicate 64 0,0⟩
theorem Ji {s:Str} {t:List UInt8} {H:AH} (hg:Kst H) (hb:s.blk.length=64) (hn:s.n+t.length<=big) (h:R (.agg (yo s t).D) H):ACall Tryz.prog 123 [.agg s.D,.str t] H R:=by
 refine F0 fun hf=>?_
 have hbig:=qn
 simp+contextual only [B5,↓YB,↓XP,ql,XW1,qa,qb]
 intro b2 h2 b4 h4
 obtain ⟨n42,f4⟩:=h4
 refine XW.loopS hmm 38 (fun q:Str×List UInt8=>[(1,.str q.2),(2,.ptr b2 0),(4,.ptr b4 0)]) (fun q=>(b4,.cells zst.D)::(b2,.cells q.1.D)::H) (fun q=>q.2.length) (fun q=>q.1.blk.length=64∧q.1.n+q.2.length<=big∧yo q.1 q.2=yo s t) (s,t) ⟨hb,hn,rfl⟩ ⟨rfl,rfl,rfl,rfl,trivial⟩ rfl ?_
 rintro ⟨s,t⟩ z ⟨hb,hn,hs⟩ K hN hE hR
 dsimp only at hb hn hs
 dsimp only [fl,zz,qa,qb]
 by_cases ht:t= []
 ·have ht':decide (t= [])=true:=decide_eq_true ht
  simp+contextual only [ht',↓sn,↓YB,↓XP,qA]
  apply hE
  subst ht
  rw [eg] at hs
  simp+contextual only [qg,n42,yv hb,J1 hb,J7,show zst.D.drop 73= [] from rfl,show zst.D.length=73 from rfl,↓YB,↓XP,ql,XW1]
  rw [hs]
  exact h
 ·have ht':decide (t= [])=false:=decide_eq_false ht
  have hk:=oR (s:=s) ht
  have hk2:=YN (s:=s) (t:=t)
  have hm:=Nat.mod_lt s.n (show 0<64 by decide)
  have e1:IntKind.i64.wrap ((s.n:Int).tmod 64)=((s.n % 64:Nat):Int):=by rw [Int.tmod_eq_emod_of_nonneg (Mn _),qj (by omega) (by omega)];omega
  have ek:min t.length (64 - s.n % 64)=ym s t:=rfl
  have ec:s.D.take (8+s.n % 64)++((t.take (64 - s.n % 64)).map (fun c=>D.int .u8 c.toNat)++s.D.drop (8+s.n % 64+ym s t))=Str.D ⟨s.st,wx s t,s.n⟩:=fm hb hm t
  have hb':(wx s t).length=64:=Kr hb t
  have e2:IntKind.u64.wrap ((ym s t:Nat):Int)=((ym s t:Nat):Int):=Ks (by omega) (by omega)
  have e3:IntKind.u64.wrap ((s.n:Int)+((ym s t:Nat):Int))=((s.n+ym s t:Nat):Int):=by rw [Ks (by omega) (by omega)];omega
  have e4:IntKind.i64.wrap (((s.n % 64:Nat):Int)+((ym s t:Nat):Int))=((s.n % 64+ym s t:Nat):Int):=by rw [qj (by omega) (by omega)];omega
  have e5:(Str.D ⟨s.st,wx s t,s.n⟩)[72]?=some (.int .u64 s.n):=GG (s:=⟨s.st,wx s t,s.n⟩) hb'
  have e6:=eR (s:=⟨s.st,wx s t,s.n⟩) hb' (s.n+ym s t)
  have e7:(Str.D ⟨s.st,wx s t,s.n⟩).length=73:=yv (s:=⟨s.st,wx s t,s.n⟩) hb'
  have hst:yo (vL s t) (t.drop (ym s t))=yo s t:=(Qb ht).symm
  have hi64:((64:Nat):Int)=64:=rfl
  have e8:(Str.D ⟨s.st,wx s t,s.n+ym s t⟩).take 8=s.st.D:=Ad (s:=⟨s.st,wx s t,s.n+ym s t⟩)
  have e9:=fun r=>dF (s:=⟨s.st,wx s t,s.n+ym s t⟩) r
  have e10:(Str.D ⟨s.st,wx s t,s.n+ym s t⟩).length=73:=yv (s:=⟨s.st,wx s t,s.n+ym s t⟩) hb'
  have hl':(t.drop (ym s t)).length=t.length - ym s t:=List.length_drop
  by_cases h64:s.n % 64+ym s t=64
  ·have h64':decide (((s.n % 64+ym s t:Nat):Int)=64)=true:=decide_eq_true (by omega)
   simp+contextual only [Nat.mul_one,Nat.sub_zero,Mg,ht',GG hb,e1,ek,ec,e2,e3,e4,e5,e6,e7,e8,e10,S8.D_view,h64',List.take_length,yv hb,qg,qi,n42,↓sn,↓YB,↓J5,ql,XW1,qe,↓XH]
   refine fun _=>⟨by decide,by omega,hm,by omega,fun _=>⟨by omega,?_⟩⟩
   have hK:Kst ((b4,.cells zst.D)::(b2,.cells (Str.D ⟨s.st,wx s t,s.n+ym s t⟩))::H):=(Kst.push hg h2).push ⟨Ne.symm n42,f4⟩
   have hB:Blk ((b4,.cells zst.D)::(b2,.cells (Str.D ⟨s.st,wx s t,s.n+ym s t⟩))::H) b2 8 (wx s t):=⟨_,by rw [qg n42,jl],mj (s:=⟨s.st,wx s t,s.n+ym s t⟩) hb'⟩
   obtain ⟨c,hc⟩:∃c,vT s.st (wx s t)=c:=⟨_,rfl⟩
   refine ⟨.agg c.D,fun H1 hH1=>sG (hK.sub hH1) (hB.sub hH1) ⟨by rw [hc],rfl⟩,?_⟩
   simp+contextual only [e9,e10,S8.D_len,qg,qi,n42,↓YB,↓XP,ql,XW1,qe]
   have he:vL s t=⟨c,wx s t,s.n+ym s t⟩:=by rw [vL,if_pos h64,hc]
   exact hN (vL s t,t.drop (ym s t)) _ _ ⟨by rw [he];exact hb',by rw [he];show s.n+ym s t+(t.drop (ym s t)).length<=big;omega,hst.trans hs⟩ (by show (t.drop (ym s t)).length<t.length;omega) ⟨rfl,rfl,rfl,rfl,trivial⟩ (by show back _ _=(b4,AO.cells zst.D)::(b2,AO.cells (vL s t).D)::H;rw [he];exact qL rfl)
  ·have h64':decide (((s.n % 64+ym s t:Nat):Int)=64)=false:=decide_eq_false (by omega)
   simp+contextual only [Nat.mul_one,Mg,ht',GG hb,e1,ek,ec,e2,e3,e4,e5,e6,e7,h64',List.take_length,yv hb,qg,qi,n42,↓sn,↓YB,↓J5,ql,XW1,qe,↓XH]
   refine fun _=>⟨by decide,by omega,hm,by omega,fun _=>⟨by omega,?_⟩⟩
   have he:vL s t=⟨s.st,wx s t,s.n+ym s t⟩:=by rw [vL,if_neg h64]
   exact hN (vL s t,t.drop (ym s t)) _ _ ⟨by rw [he];exact hb',by rw [he];show s.n+ym s t+(t.drop (ym s t)).length<=big;omega,hst.trans hs⟩ (by show (t.drop (ym s t)).length<t.length;omega) ⟨rfl,rfl,rfl,rfl,trivial⟩ (by show back _ _=(b4,AO.cells zst.D)::(b2,AO.cells (vL s t).D)::H;rw [he];exact qL rfl)
theorem unb (l:List UInt8):(l.map qh).map unbyte=l:=by
 rw [M5]
 conv=>rhs;rw [<-List.map_id l]
 apply M6
 intro c _
 show UInt8.ofNat ((c.toNat:Int)).toNat=c
 simp
theorem isb (l:List UInt8):∀x∈l.map qh,wn x:=by
 intro x hx
 obtain ⟨c,_,rfl⟩:=List.mem_map.1 hx
 have:=c.toNat_lt
 show 0<=(c.toNat:Int)∧(c.toNat:Int)<=255
 omega
theorem Zo (l:List UInt8):∀x∈l.map qh,x.length=1:=by
 intro x hx
 obtain ⟨c,_,rfl⟩:=List.mem_map.1 hx
 rfl
theorem WL (l:List UInt8) (c:UInt8):l.map qh++ [[.int .u8 (c.toNat:Int)]]=(l++ [c]).map qh:=by simp [qh]
def lO (m k:Nat):UInt8:=UInt8.ofNat (m / 2 ^ k)
theorem G6 (m k:Nat):IntKind.u8.wrap ((m:Int).fdiv (2 ^ k))=((lO m k).toNat:Int):=by
 rw [IntKind.wrap_u8',lO,UInt8.toNat_ofNat']
 have h2:((2:Int) ^ k)=((2 ^ k:Nat):Int):=by simp
 rw [h2,Int.fdiv_eq_ediv_of_nonneg _ (Mn _)]
 have:=(Int.natCast_ediv m (2 ^ k)).symm
 omega
def zP (n:Nat):Nat:=(119 - n % 64) % 64
def gm (n:Nat):List UInt8:=128::(List.replicate (zP n) 0++(List.range 8).map fun i=>lO (8*n) (56 - 8*i))
def S8.w (s:S8) (j:Nat):W:= [s.a,s.b,s.c,s.d,s.e,s.f,s.g,s.h].getD j 0
def Zb (s:S8) (i:Nat):UInt8:=lO (s.w (i / 4)).toNat (24 - 8*(i % 4))
def Qg (s:S8) (i:Nat):List UInt8:=(List.range i).map (Zb s)
theorem ut (s:S8) (i:Nat):(Qg s i).length=i:=by simp [Qg]
theorem YK (s:S8) (i:Nat):Qg s i++ [Zb s i]=Qg s (i+1):=by simp [Qg,M0]
def JV (s:S8):List UInt8:=(List.range 32).map (Zb s)
def gX (s:Str):List UInt8:=JV (yo s (gm s.n)).st
theorem JQ (n:Nat):(gm n).length=zP n+9:=by simp [gm]
def barr (n:Nat) (l:List UInt8):List D:=jr l++List.replicate (n - l.length) (bD 0)
theorem Jm (h:l.length<=n):(barr n l).length=n:=by simp [barr,jr];omega
theorem Kk (h:l.length<n):(barr n l).set l.length (bD c)=barr n (l++ [c]):=by
 unfold barr
 rw [show n - l.length=(n - (l++ [c]).length)+1 by simp;omega,List.replicate_succ,List.set_append_right _ _ (by simp [jr])]
 simp [jr]
theorem Qd (h:l.length=n):barr n l=jr l:=by simp [barr,h]
theorem qZ (h:l.length=n):(jr l).take n=jr l:=Mt (by rw [qx,h];exact Ms _)
theorem jp (l:List UInt8):(jr l).map D.view1=jr l:=by
 unfold jr
 rw [M5]
 rfl
theorem S8.get (s:S8) (h:j<8):s.D[j]?=some (wD (s.w j)):=by
 obtain rfl|rfl|rfl|rfl|rfl|rfl|rfl|rfl:j=0∨j=1∨j=2∨j=3∨j=4∨j=5∨j=6∨j=7:=by omega
 all_goals rfl
theorem E0 {s:Str} {j:Nat} (h:j<8):s.D[j]?=some (wD (s.st.w j)):=by
 unfold Str.D
 rw [List.getElem?_append_left (by rw [S8.D_len];exact h),S8.get _ h]
theorem wO:∀(k:Nat) (s:Str) (t:List UInt8),t.length<=k->s.blk.length=64->(yo s t).blk.length=64∧(yo s t).n=s.n+t.length:=by
 intro k
 induction k with
 | zero=>
  intro s t h hb
  obtain rfl:=List.eq_nil_of_length_eq_zero (Nat.le_zero.1 h)
  exact ⟨hb,rfl⟩
 | succ k ih=>
  intro s t h hb
  by_cases ht:t= []
  ·subst ht;exact ⟨hb,rfl⟩
  ·have hp:=oR (s:=s) ht
   have hk:=YN (s:=s) (t:=t)
   rw [Qb ht]
   obtain ⟨h1,h2⟩:=ih (vL s t) (t.drop (ym s t)) (by rw [List.length_drop];omega) (Kr hb t)
   refine ⟨h1,?_⟩
   rw [h2,List.length_drop]
   show s.n+ym s t+_=_
   omega
def pd (j:Nat):List (List D):=(128::List.replicate j 0).map qh
theorem pn (j:Nat):(pd j).length=j+1:=by simp [pd]
theorem sE (j:Nat):pd j++ [[.int .u8 0]]=pd (j+1):=by simp [pd,qh,List.replicate_succ']
theorem CQ (j:Nat):∀x∈pd j,x.length=1:=Zo _
def pq (n z i:Nat):List (List D):=((128::List.replicate z 0)++(List.range i).map fun k=>lO (8*n) (56 - 8*k)).map qh
theorem eo (n z i:Nat):(pq n z i).length=z+1+i:=by simp [pq];omega
theorem nP (n z i:Nat):pq n z i++ [[.int .u8 ((lO (8*n) (56 - 8*i)).toNat:Int)]]=pq n z (i+1):=by simp [pq,qh,M0]
theorem DB (n z i:Nat):∀x∈pq n z i,x.length=1:=Zo _
theorem fo (n:Nat):pq n (zP n) 8=(gm n).map qh:=rfl
theorem tS (n z:Nat):pd z=pq n z 0:=by simp [pd,pq]
theorem bF {s:Str} {H:AH} (hg:Kst H) (hb:s.blk.length=64) (hn:s.n+80<=big) (h:R (.agg (jr (gX s))) H):ACall Tryz.prog 124 [.agg s.D] H R:=by
 refine EW fun hf=>?_
 have hbig:=qn
 simp+contextual only [↓Km,↓Km,↓XP,ql,XW1,qa]
 intro b1 h1 b2 h2
 obtain ⟨n21,f2⟩:=h2
 have e8:IntKind.u64.wrap (8*(s.n:Int))=((8*s.n:Nat):Int):=by rw [Ks (by omega) (by omega)];omega
 simp+contextual only [Nat.mul_one,GG hb,e8,↓Km,↓XP,ql,XW1,qe]
 intro _
 refine XW.loopS hmm 58 (fun j:Nat=>[(1,.ptr b1 0),(2,.ptr b2 0),(3,.int .u64 ((8*s.n:Nat):Int)),(4,.own (pd ((j:Nat))))]) (fun j=>(b2,.cells (barr 32 []))::(b1,.cells s.D)::H) (fun j=>zP s.n - j) (fun j=>j<=zP s.n) 0 (Nat.zero_le _) ⟨rfl,rfl,rfl,rfl,rfl,trivial⟩ rfl ?_
 intro j z hj K hN hE hR
 dsimp only [fl,zz,qa,qb]
 have hz:zP s.n<64:=Nat.mod_lt _ (by decide)
 have w1:IntKind.i64.wrap (s.n:Int)=(s.n:Int):=qj (by omega) (by omega)
 have w2:IntKind.i64.wrap ((s.n:Int)+((j+1:Nat):Int))=((s.n+(j+1):Nat):Int):=by rw [qj (by omega) (by omega)];omega
 have w3:((s.n+(j+1):Nat):Int).tmod 64=(((s.n+(j+1)) % 64:Nat):Int):=by rw [Int.tmod_eq_emod_of_nonneg (Mn _)];omega
 by_cases hlt:j<zP s.n
 ·have ht:decide ((((s.n+(j+1)) % 64:Nat):Int)=56)=false:=decide_eq_false (by unfold zP at hlt;omega)
  simp+contextual only [Nat.mul_one,qg,n21,GG hb,w1,w2,w3,ht,pn,sE,↓Km,↓XP,ql,XW1,qe]
  exact fun _ _=>⟨by decide,CQ j,by omega,hN (j+1) _ _ (by omega) (by omega) ⟨rfl,rfl,rfl,rfl,rfl,trivial⟩ (qL rfl)⟩
 ·obtain rfl:j=zP s.n:=by omega
  have ht:decide ((((s.n+(zP s.n+1)) % 64:Nat):Int)=56)=true:=decide_eq_true (by unfold zP;omega)
  simp+contextual only [qg,n21,GG hb,w1,w2,w3,ht,tS s.n (zP s.n),eo,↓Km,↓XP,ql,XW1]
  refine fun _ _=>⟨by decide,?_⟩
  apply hE
  simp+contextual only [↓XP,qA,XW1]
  refine XW.loopS hmm 58 (fun i:Nat=>[(1,.ptr b1 0),(2,.ptr b2 0),(3,.int .u64 ((8*s.n:Nat):Int)),(4,.own (pq s.n (zP s.n) ((i:Nat)))),(23,.i (i:Int))]) (fun j=>(b2,.cells (barr 32 []))::(b1,.cells s.D)::H) (fun i=>8 - i) (fun i=>i<=8) 0 (Nat.zero_le _) ⟨rfl,rfl,rfl,rfl,rfl,rfl,trivial⟩ rfl ?_
  intro i z hi K hN hE hR
  dsimp only [fl,zz,qa,qb]
  by_cases hlt:i<8
  ·have hlt':((i:Int)<8)=True:=qC
   have w4:IntKind.i64.wrap (8*(i:Int))=((8*i:Nat):Int):=by rw [qj (by omega) (by omega)];omega
   have w5:IntKind.i64.wrap (56 - ((8*i:Nat):Int))=((56 - 8*i:Nat):Int):=by rw [qj (by omega) (by omega)];omega
   have w6:min (56 - 8*i) IntKind.u64.bits=56 - 8*i:=Nat.min_eq_left (by show _<=64;omega)
   simp+contextual only [Nat.mul_one,hlt',w4,w5,w6,G6,eo,nP,↓Km,↓XP,ql,XW1,qe]
   rw [qm (by omega)]
   exact ⟨DB _ _ _,by omega,hN (i+1) _ _ (by omega) (by omega) ⟨rfl,rfl,rfl,rfl,rfl,rfl,trivial⟩ (qL rfl)⟩
  ·obtain rfl:i=8:=by omega
   have hlt':(((8:Nat):Int)<8)=False:=eq_false (by decide)
   simp+contextual only [Mg,↓Km,↓XP,qA]
   apply hE
   simp+contextual only [qg,n21,yv hb,J1 hb,J7,fo,unb,↓Km,↓XP,ql,XW1]
   refine ⟨isb _,fun _=>?_⟩
   have hpl:=JQ s.n
   have hql:=wO _ s (gm s.n) (Ms _) hb
   obtain ⟨q,hq⟩:∃q,yo s (gm s.n)=q:=⟨_,rfl⟩
   rw [hq] at hql
   refine Ji ((Kst.push hg h1).push ⟨Ne.symm n21,f2⟩) hb (by omega) ?_
   rw [hq]
   have hqb:=hql.1
   simp+contextual only [qg,qi,n21,yv hb,yv hqb,show s.D.drop 73= [] from List.drop_of_length_le (by rw [yv hb];exact Ms _),↓Km,↓XP,ql,XW1]
   intro b6 h6
   obtain ⟨n26,n16,f6⟩:=h6
   have hsum:gX s=JV q.st:=by rw [gX,hq]
   rw [hsum] at h
   refine XW.loopS hmm 58 (fun i:Nat=>[(1,.ptr b1 0),(2,.ptr b2 0),(6,.ptr b6 0),(40,.i ((i:Nat):Int))]) (fun i=>(b6,.cells (barr 32 (Qg q.st i)))::(b2,.cells (barr 32 []))::(b1,.cells q.D)::H) (fun i=>32 - i) (fun i=>i<=32) 0 (Nat.zero_le _) ⟨rfl,rfl,rfl,rfl,rfl,trivial⟩ rfl ?_
   intro i z hi K hN hE hR
   dsimp only [fl,zz,qa,qb]
   by_cases hlt:i<32
   ·have hlt':((i:Int)<32)=True:=qC
    have x1:IntKind.i64.wrap ((i:Int).tdiv 4)=((i / 4:Nat):Int):=by rw [Int.tdiv_eq_ediv_of_nonneg (Mn _),qj (by omega) (by omega)];omega
    have x2:(i:Int).tmod 4=((i % 4:Nat):Int):=by rw [Int.tmod_eq_emod_of_nonneg (Mn _)];omega
    have x3:IntKind.i64.wrap (8*((i % 4:Nat):Int))=((8*(i % 4):Nat):Int):=by rw [qj (by omega) (by omega)];omega
    have x4:IntKind.i64.wrap (24 - ((8*(i % 4):Nat):Int))=((24 - 8*(i % 4):Nat):Int):=by rw [qj (by omega) (by omega)];omega
    have x5:min (24 - 8*(i % 4)) IntKind.u32.bits=24 - 8*(i % 4):=Nat.min_eq_left (by show _<=32;omega)
    have x6:=E0 (s:=q) (j:=i / 4) (by omega)
    have x7:(barr 32 (Qg q.st i)).length=32:=Jm (by rw [ut];omega)
    have x8:=Kk (n:=32) (l:=Qg q.st i) (c:=Zb q.st i) (by rw [ut];exact hlt)
    rw [ut,YK] at x8
    unfold bD Zb at x8
    simp+contextual only [Nat.mul_one,Mg,qg,n21,n16,hlt',x1,x2,x3,x4,x5,x6,x7,x8,wD,G6,↓Km,↓XP,ql,XW1]
    rw [qm (by omega)]
    exact ⟨by decide,by omega,fun _=>⟨by decide,by omega,hN (i+1) _ _ (by omega) (by omega) ⟨rfl,rfl,rfl,rfl,rfl,trivial⟩ (qL rfl)⟩⟩
   ·obtain rfl:i=32:=by omega
    have hlt':(((32:Nat):Int)<32)=False:=eq_false (by decide)
    simp+contextual only [Mg,↓Km,↓XP,qA]
    apply hE
    have ho:Qg q.st 32=JV q.st:=rfl
    have hol:(JV q.st).length=32:=by simp [JV]
    have hob:=Qd hol
    simp+contextual only [qg,qi,n26,ho,hob,qx,hol,qZ hol,jp,show (barr 32 []).drop 32= [] from rfl,show (barr 32 []).length=32 from rfl,↓XP,ql,XW1]
    exact h
theorem Bn (x y:UInt8):bits .xor .u8 (x.toNat:Int) (y.toNat:Int)=((x ^^^ y).toNat:Int):=by rw [u8_xor_nat _ _ x.toNat_lt y.toNat_lt,UInt8.toNat_xor]
theorem od (l:List UInt8):∀d∈jr l,wn [d]:=by
 intro d hd
 obtain ⟨c,_,rfl⟩:=List.mem_map.1 hd
 have:=c.toNat_lt
 show 0<=(c.toNat:Int)∧(c.toNat:Int)<=255
 omega
theorem zQ (l:List UInt8):(jr l).map (fun d=>unbyte [d])=l:=by
 unfold jr
 rw [M5]
 conv=>rhs;rw [<-List.map_id l]
 apply M6
 intro c _
 show UInt8.ofNat ((c.toNat:Int)).toNat=c
 simp
theorem Wb (h:i<l.length):(jr l)[i]?=some (bD (l.getD i 0)):=by
 simp [jr,List.getD,Mb h]
theorem nL (l:List UInt8) (i:Nat) (c:UInt8):(jr l).set i (bD c)=jr (l.set i c):=by simp [jr,List.map_set]
def zpad (k:List UInt8):List UInt8:=k++List.replicate (64 - k.length) 0
def oM (k:List UInt8) (w:UInt8):List UInt8:=(zpad k).map (· ^^^ w)
theorem Uh (h:k.length<=64):(zpad k).length=64:=by simp [zpad];omega
def xI (m:List UInt8) (w:UInt8) (i:Nat):List UInt8:=(m.take i).map (· ^^^ w)++m.drop i
theorem mz (m:List UInt8) (w:UInt8) (i:Nat):(xI m w i).length=m.length:=by simp [xI];omega
theorem nO (h:i<m.length):(xI m w i).getD i 0=m.getD i 0:=by
 have h1:((m.take i).map (· ^^^ w)).length=i:=by simp;omega
 unfold xI List.getD
 rw [List.getElem?_append_right (by omega),h1,Nat.sub_self,List.getElem?_drop,Nat.add_zero]
theorem mJ (h:i<m.length):(xI m w i).set i (m.getD i 0 ^^^ w)=xI m w (i+1):=by
 unfold xI
 have h1:(m.take i).length=i:=by simp;omega
 rw [List.set_append_right _ _ (by simp;omega),Ml,h1,Nat.sub_self,List.drop_eq_getElem_cons h,List.set_cons_zero,List.take_add_one,Mb h,Mo,Mp]
 simp [List.getD,Mb h]
theorem En (m:List UInt8) (w:UInt8):xI m w 0=m:=by simp [xI]
theorem la (h:m.length=n):xI m w n=m.map (· ^^^ w):=by subst h;simp [xI]
theorem VN (hb:qk H b=some (.cells [.str k])) (hk:k.length<=64) (h:R (.str (oM k w)) H):ACall Tryz.prog 135 [.int .u8 (w.toNat:Int),.ptr b 0] H R:=by
 refine Hw fun hf=>?_
 have hbig:=qn
 simp+contextual only [Ap,Nat.mul_one,Nat.sub_zero,↓iA,↓XP,ql,qa,qb,qe,↓XH]
 intro b4 h4
 have n4:=qD h4 hb
 simp+contextual only [qg n4,hb,↓J5,ql,XW1,qb,↓XH]
 intro _
 have hz:(List.map (fun c=>D.int .u8 (c.toNat:Int)) (List.take 64 k)++List.drop (min k.length 64) (jr (List.replicate 64 0)))=jr (zpad k):=by
  have e:List.drop k.length (jr (List.replicate 64 0))=jr (List.replicate (64 - k.length) 0):=by unfold jr;rw [<-List.map_drop,List.drop_replicate]
  rw [Mt hk,Nat.min_eq_left hk,zpad,e]
  unfold jr
  rw [Mo]
  rfl
 have hl:=Uh hk
 have hr:oM k w=(zpad k).map (· ^^^ w):=rfl
 rw [hr] at h
 generalize zpad k=m at hz hl h
 refine XW.loopS hmm 21 (fun i:Nat=>[(0,.int .u8 (w.toNat:Int)),(4,.ptr b4 0),(9,.i ((i:Nat):Int))]) (fun i=>(b4,.cells (jr (xI m w i)))::H) (fun i=>64 - i) (fun i=>i<=64) 0 (Nat.zero_le _) ⟨rfl,rfl,rfl,rfl,trivial⟩ ?_ ?_
 ·show (b4,AO.cells (jr (xI m w 0)))::H=_
  rw [En,<-hz]
  rfl
 intro i z hi K hN hE hR
 dsimp only [fl,zz,qa,qb]
 have hxl:=mz m w i
 by_cases hlt:i<64
 ·have hlt':((i:Int)<64)=True:=qC
  have g:=Wb (l:=xI m w i) (i:=i) (by omega)
  rw [nO (by omega)] at g
  have st:=nL (xI m w i) i (m.getD i 0 ^^^ w)
  rw [mJ (by omega)] at st
  unfold bD at g st
  simp+contextual only [Nat.mul_one,Mg,hlt',g,st,Bn,qx,hxl,hl,↓iA,↓XP,ql]
  rw [qm (by omega)]
  exact fun _=>⟨hlt,hN (i+1) _ _ (by omega) (by omega) ⟨rfl,rfl,rfl,rfl,trivial⟩ (qL rfl)⟩
 ·obtain rfl:i=64:=by omega
  have hlt':(((64:Nat):Int)<64)=False:=eq_false (by decide)
  simp+contextual only [Mg,↓iA,↓XP,qA]
  apply hE
  rw [la hl]
  have hl2:(m.map (· ^^^ w)).length=64:=by simp [hl]
  generalize m.map (· ^^^ w)=m2 at hl2 h
  simp+contextual only [Nat.mul_one,Nat.sub_zero,qx,qZ hl2,hl2,zQ,↓iA,↓J5,ql,XW1,qe,↓XH]
  exact ⟨od _,fun _=>h⟩
theorem oU:beg.blk.length=64:=rfl
theorem Ye:beg.n=0:=rfl
def AJ (k t:List UInt8):List UInt8:=gX (yo (yo beg (oM k 0x36)) t)
def l9 (k t:List UInt8):List UInt8:=gX (yo (yo beg (oM k 0x5c)) (AJ k t))
theorem gG (h:k.length<=64):(oM k w).length=64:=by simp [oM,Uh h]
theorem Kh (s:S8):(JV s).length=32:=by simp [JV]
theorem Jl (s:Str):(gX s).length=32:=Kh _
theorem ei (h:qk H b=some (.cells [.str k])) (hs:Sub H H1):qk H1 b=some (.cells [.str k]):=by
 obtain ⟨o',g1,g2⟩:=hs _ _ h
 rcases g2 with g2|g2
 ·rw [<-g2] at g1;exact g1
 ·cases o' with
  | cells cs=>
   injection g2 with g2
   match cs,g2 with
   | [],g2=>cases g2
   |_::_::_,g2=>simp at g2
   | [d],g2=>
    simp only [List.map_cons,List.map_nil,List.cons.injEq,and_true] at g2
    cases d<;>simp only [D.view1] at g2<;>first|(rw [g1,<-g2];done)|cases g2
  |_=>cases g2
theorem Bl (hg:Kst H) (hk:k.length<=64) (ht:t.length<=4294967296) (h:R (.str (l9 k t)) H):ACall Tryz.prog 103 [.str k,.str t] H R:=by
 refine Fl fun hf=>?_
 have hbig:=qn
 have hk':decide ((64:Int)<(k.length:Int))=false:=decide_eq_false (by omega)
 simp+contextual only [Bh,hk',↓mN,↓oh,↓XP,ql,XW1,qa,qb]
 intro b2 h2 _
 have hK2:=Kst.push (o:= .cells [.str k]) hg h2
 refine Wt ?_
 simp+contextual only [↓oh,↓XP,qA,XW1]
 refine VN (w:=0x36) jl hk ?_
 simp+contextual only [↓oh,↓XP,qA]
 intro _
 have l1:=wO _ beg (oM k 0x36) (Ms _) oU
 rw [gG hk,Ye] at l1
 have hmac:l9 k t=gX (yo (yo beg (oM k 0x5c)) (gX (yo (yo beg (oM k 0x36)) t))):=rfl
 rw [hmac] at h
 refine Ji hK2 oU (by rw [gG hk,Ye];omega) ?_
 generalize yo beg (oM k 0x36)=s1 at l1 h
 simp+contextual only [↓oh,↓XP,qA,XW1]
 have l2:=wO _ s1 t (Ms _) l1.1
 refine Ji hK2 l1.1 (by omega) ?_
 generalize yo s1 t=s2 at l2 h
 simp+contextual only [↓oh,↓XP,qA,XW1]
 refine bF hK2 l2.1 (by omega) ?_
 have l3:=Jl s2
 generalize gX s2=s3 at l3 h
 simp+contextual only [↓mN,↓oh,↓XP,ql,XW1,qb]
 intro b7 h7
 obtain ⟨n27,f7⟩:=h7
 have hK7:=Kst.push (o:= .cells (jr s3)) hK2 (b:=b7) ⟨Ne.symm n27,f7⟩
 have hb2:qk ((b7,AO.cells (jr s3))::(b2,AO.cells [D.str k])::H) b2=some (.cells [.str k]):=by rw [qg n27,jl]
 refine ⟨by rw [qx,l3],?_⟩
 refine ⟨_,fun _ _=>Wt ⟨rfl,rfl⟩,?_⟩
 simp+contextual only [↓oh,↓XP,qA,XW1]
 refine ⟨_,fun H1 hs=>VN (w:=0x5c) (ei hb2 hs) hk ⟨rfl,rfl⟩,?_⟩
 simp+contextual only [↓oh,↓XP,qA]
 intro _
 have l4:=wO _ beg (oM k 0x5c) (Ms _) oU
 rw [gG hk,Ye] at l4
 refine ⟨_,fun H1 hs=>Ji (hK7.sub hs) oU (by rw [gG hk,Ye];omega) ⟨rfl,rfl⟩,?_⟩
 generalize yo beg (oM k 0x5c)=s4 at l4 h
 simp+contextual only [Nat.mul_one,Nat.sub_zero,qx,l3,qZ l3,zQ,↓oh,↓J5,ql,XW1,qe,↓XH]
 refine ⟨od _,fun _=>?_⟩
 have l5:=wO _ s4 s3 (Ms _) l4.1
 refine ⟨_,fun H1 hs=>Ji (hK7.sub hs) l4.1 (by omega) ⟨rfl,rfl⟩,?_⟩
 generalize yo s4 s3=s5 at l5 h
 simp+contextual only [↓oh,↓XP,qA,XW1]
 refine ⟨_,fun H1 hs=>bF (hK7.sub hs) l5.1 (by omega) ⟨rfl,rfl⟩,?_⟩
 have l6:=Jl s5
 generalize gX s5=s6 at l6 h
 simp+contextual only [Nat.mul_one,Nat.sub_zero,Nat.reduceLT,qx,l6,qZ l6,zQ,↓mN,↓oh,↓J5,ql,XW1,qb,qe,↓XH]
 exact fun b _=>⟨od _,fun _=>h⟩
end Go.Proofs.YtgopigkdcmhbbaaGreatDoor
end
noncomputable section
namespace Go.Proofs.YtgopigkdcmhbbaaGreatDoor
open Go.Xs
open Go Go.Aw
def iT:=yy Tryz.f141
def V141:=PLift.up (aI (@unf (iT 2) (X (G [u,u,u,u,u,u,u,v,u]) .ret) rfl) (@unf (iT 0) (R [u] (iT 2)) rfl))
theorem U141:type_of% V141.down:=V141.down
theorem Eu:Bt 141 13 (iT 0) [(.tmp 4)]:=bt Tryz.func141 rfl
def uz:=yy Tryz.f140
def V140:=PLift.up (aI (aI (aI (@unf (uz 18) (r [u,v,u]) rfl) (@unf (uz 15) (X (O (G [u,u,u,u,u,u,u,u,u,u,u,u,u,u,u,u,u,u,u,u,u,u,u,u,u,u,u,u,u,u,u,u,u,v,u,u])) (uz 18)) rfl)) (aI (@unf (uz 9) (X (R [u,u] I) (uz 15)) rfl) (aI (@unf (uz 36) (G [u,u,u,u,u,u,u,u,u,u,u,u,u,v,u,u]) rfl) (@unf (uz 34) (X (G [u,u,u,u,u,u,u,u,u,u,u,u,u,u,u,u,v,u]) (uz 36)) rfl)))) (aI (aI (@unf (uz 37) (r [u,v,u]) rfl) (@unf (uz 30) (X (O (X (G [u,u,u,u,u,u,u,u,u,u,u,u,u,u,u,u,v,u]) (uz 34))) (uz 37)) rfl)) (aI (@unf (uz 24) (X (R [u,u] I) (uz 30)) rfl) (aI (@unf (uz 19) (X (R [u] (U (uz 24))) (F [v,u])) rfl) (@unf (uz 0) (R [u] (R [u] (X (R [u] (U (uz 9))) (uz 19)))) rfl)))))
theorem Vt:type_of% V140.down:=V140.down
theorem DJ:Bt 140 101 (uz 0) [(.cell 2 203)]:=bt Tryz.func140 rfl
def uc:=yy Tryz.f139
def V139:=PLift.up (aI (aI (aI (@unf (uc 15) (O (r [x,u,v,u])) rfl) (@unf (uc 9) (X (R [u,u,u,u] I) (uc 15)) rfl)) (aI (@unf (uc 33) (r [u,v,u]) rfl) (aI (@unf (uc 30) (X (O (r [x,u,u,u,u,u,u,u,v,u])) (uc 33)) rfl) (@unf (uc 24) (X (R [u,u] I) (uc 30)) rfl)))) (aI (aI (@unf (uc 19) (X (R [u] (U (uc 24))) (F [v,u])) rfl) (@unf (uc 17) (R [u,u,u,v,u] (uc 19)) rfl)) (aI (@unf (uc 4) (R [x,u,v,u] (X (U (uc 9)) (uc 17))) rfl) (aI (@unf (uc 2) (R [x,u,v,u] (uc 4)) rfl) (@unf (uc 0) (R [u] (uc 2)) rfl)))))
theorem UG:type_of% V139.down:=V139.down
theorem Fb:Bt 139 37 (uc 0) [(.tmp 2)]:=bt Tryz.func139 rfl
def kA:=yy Tryz.f121
def V121:=PLift.up (aI (aI (aI (aI (@unf (kA 54) (r [u,u,v,u]) rfl) (@unf (kA 50) (R [v,u] (R [v,u] (kA 54))) rfl)) (aI (@unf (kA 46) (R [u,u,v,u] (R [v,u] (kA 50))) rfl) (aI (@unf (kA 42) (R [v,u] (R [v,u] (kA 46))) rfl) (@unf (kA 38) (R [u,u,u,u,u,u,u,u,u,u,u,u,u,u,u,u,u,u,u,v,u] (R [v,u] (kA 42))) rfl)))) (aI (aI (@unf (kA 55) (r [u,v,u]) rfl) (@unf (kA 34) (X (O (X (G [u,u,u,u,u,u,u,u,u,u,u,u,u,u,u,u,u,u,u,u,u,u,u,u,u,u,v,u]) (kA 38))) (kA 55)) rfl)) (aI (@unf (kA 28) (X (R [u,u] I) (kA 34)) rfl) (aI (@unf (kA 56) (r [u,u,u,u,u,u,u,u,u,u,u,u,u,u,u,u,u,u,u,u,u,u,u,u,u,u,u,u,u,u,u,u,v,u]) rfl) (@unf (kA 21) (X (G [u,v,u,v,u,v,u,v,u,v,u,v,u,v,u,v,u,u,u,u,u,u,u,u]) (X (R [u] (U (kA 28))) (kA 56))) rfl))))) (aI (aI (aI (@unf (kA 57) (r [u,v,u]) rfl) (@unf (kA 17) (X (O (R [u,u,u,u,u,v,u,u] (kA 21))) (kA 57)) rfl)) (aI (@unf (kA 11) (X (R [u,u,u,u] I) (kA 17)) rfl) (aI (@unf (kA 74) (r [u,v,u]) rfl) (@unf (kA 71) (X (O (r [u,u,u,u,u,u,u,u,u,u,v,u,u])) (kA 74)) rfl)))) (aI (aI (@unf (kA 65) (X (R [u,u] I) (kA 71)) rfl) (@unf (kA 60) (X (R [u] (U (kA 65))) (F [v,u])) rfl)) (aI (@unf (kA 4) (R [u,v,u] (X (R [u] (U (kA 11))) (R [u] (kA 60)))) rfl) (aI (@unf (kA 2) (R [v,u,u] (kA 4)) rfl) (@unf (kA 0) (R [u] (kA 2)) rfl))))))
theorem Qf:type_of% V121.down:=V121.down
theorem Dj:Bt 121 164 (kA 0) [(.cell 2 177)]:=bt Tryz.func121 rfl
def aZ:=yy Tryz.f93
def V93:=PLift.up (aI (aI (@unf (aZ 20) (r [u,v,u]) rfl) (aI (@unf (aZ 17) (X (O (r [u,u,u,v,u,u])) (aZ 20)) rfl) (@unf (aZ 11) (X (R [u,u] I) (aZ 17)) rfl))) (aI (@unf (aZ 6) (X (R [u] (U (aZ 11))) (F [v,u])) rfl) (aI (@unf (aZ 2) (R [u,v,u,u] (R [v,u,u] (aZ 6))) rfl) (@unf (aZ 0) (R [u] (aZ 2)) rfl))))
theorem B6:type_of% V93.down:=V93.down
theorem b93:Bt 93 19 (aZ 0) [(.cell 2 33)]:=bt Tryz.func93 rfl
def bc:=yy Tryz.f94
def V94:=PLift.up (aI (aI (@unf (bc 18) (r [u,v,u]) rfl) (aI (@unf (bc 15) (X (O (r [x,u,u,u,u,u,v,u])) (bc 18)) rfl) (@unf (bc 9) (X (R [u,u,u,u] I) (bc 15)) rfl))) (aI (@unf (bc 4) (X (R [u] (U (bc 9))) (F [v,u])) rfl) (aI (@unf (bc 2) (R [u,u,v,u] (bc 4)) rfl) (@unf (bc 0) (R [u] (bc 2)) rfl))))
theorem xk:type_of% V94.down:=V94.down
theorem b94:Bt 94 24 (bc 0) [(.tmp 4)]:=bt Tryz.func94 rfl
def BG:=yy Tryz.f46
def V46:=PLift.up (aI (@unf (BG 2) (F [u,u,u,v,u]) rfl) (@unf (BG 0) (R [u] (BG 2)) rfl))
theorem U46:type_of% V46.down:=V46.down
theorem b46:Bt 46 9 (BG 0) [(.cell 4 33)]:=bt Tryz.func46 rfl
def lV:=yy Tryz.f47
def V47:=PLift.up (aI (aI (@unf (lV 15) (X (O (r [x,u,u,u,u,v,u])) (r [u,v,u])) rfl) (@unf (lV 9) (X (R [u,u] I) (lV 15)) rfl)) (aI (@unf (lV 4) (X (R [u] (U (lV 9))) (F [u,v,u])) rfl) (@unf (lV 0) (R [u,u] (R [u] (lV 4))) rfl)))
theorem BZ:type_of% V47.down:=V47.down
theorem b47:Bt 47 17 (lV 0) [(.tmp 2)]:=bt Tryz.func47 rfl
def y11:=yy Tryz.f11
theorem BJ:Bt 11 24 (y11 0) [(.cell 4 35),(.tmp 5)]:=bt Tryz.func11 rfl
def y8:=yy Tryz.f8
def V8:=PLift.up (aI (aI (@unf (y8 15) (X (O (r [u,u,u,u,u,u,u,u,u,u,v,u])) (r [u,v,u])) rfl) (@unf (y8 9) (X (R [u,u] I) (y8 15)) rfl)) (aI (@unf (y8 4) (X (R [u] (U (y8 9))) (F [v,u])) rfl) (@unf (y8 0) (R [u] (R [u] (y8 4))) rfl)))
theorem U8:type_of% V8.down:=V8.down
theorem b8:Bt 8 21 (y8 0) [(.tmp 2)]:=bt Tryz.func8 rfl
end Go.Proofs.YtgopigkdcmhbbaaGreatDoor
end
section
namespace Go.Proofs.YtgopigkdcmhbbaaGreatDoor
open Go Go.Aw
variable {R:D->AH->Prop}
theorem vZ (hn:0<n) (hn2:n<32) (h:R (wD (rotr x n)) H):ACall Tryz.prog 141 [wD x,.i (n:Int)] H R:=by
 refine Eu fun hf=>?_
 have hbig:=qn
 have e1:IntKind.i64.wrap (32 - (n:Int))=((32 - n:Nat):Int):=by rw [qj (by omega) (by omega)];omega
 simp+contextual only [↓U141,wD,e1,↓U141.1,↓XP,qA,qa,qb]
 rw [cT,Nat.min_eq_left (by omega),Nat.min_eq_left (by omega),Yd x _ (by omega),Yo x _ hn2,fu]
 exact h
theorem vH (c:UInt8):c.toUInt32.toNat=c.toNat:=UInt8.toNat_toUInt32 c
theorem We (x:W) (k:Nat) (hk:k<32) (h:x.toNat*2 ^ k<4294967296):(x<<<UInt32.ofNat k).toNat=x.toNat*2 ^ k:=by
 rw [UInt32.toNat_shiftLeft,Nat.shiftLeft_eq]
 have h2:(UInt32.ofNat k).toNat % 32=k:=by rw [UInt32.toNat_ofNat'];omega
 rw [h2]
 exact Nat.mod_eq_of_lt h
theorem zY (x y:W) (i:Nat) (hx:x.toNat % 2 ^ i=0) (hy:y.toNat<2 ^ i):(x|||y).toNat=x.toNat+y.toNat:=by rw [UInt32.toNat_or];exact nat_join i _ _ hx hy
theorem lu (m:List UInt8) (t:Nat):uZ m t 4=((((m.getD (4*t) 0).toUInt32<<<24)|||((m.getD (4*t+1) 0).toUInt32<<<16))|||((m.getD (4*t+2) 0).toUInt32<<<8))|||(m.getD (4*t+3) 0).toUInt32:=by
 show ((((((((0:W)<<<8)|||(m.getD (4*t+0) 0).toUInt32)<<<8)|||(m.getD (4*t+1) 0).toUInt32)<<<8)|||(m.getD (4*t+2) 0).toUInt32)<<<8)|||(m.getD (4*t+3) 0).toUInt32=_
 rw [Nat.add_zero]
 generalize m.getD (4*t) 0=a
 generalize m.getD (4*t+1) 0=b
 generalize m.getD (4*t+2) 0=c
 generalize m.getD (4*t+3) 0=d
 have ha:=a.toNat_lt
 have hb:=b.toNat_lt
 have hc:=c.toNat_lt
 have hd:=d.toNat_lt
 have k8:∀x:W,x.toNat<16777216->(x<<<8).toNat=x.toNat*256:=fun x h=>We x 8 (by decide) (by omega)
 apply UInt32.toNat_inj.1
 have e0:(((0:W)<<<8)|||a.toUInt32).toNat=a.toNat:=by
  rw [zY _ _ 8 (by rfl) (by rw [vH];exact ha),vH]
  show 0+a.toNat=a.toNat
  omega
 have e1:((((0:W)<<<8)|||a.toUInt32)<<<8|||b.toUInt32).toNat=a.toNat*256+b.toNat:=by
  rw [zY _ _ 8 (by rw [k8 _ (by rw [e0];omega)];omega) (by rw [vH];exact hb),k8 _ (by rw [e0];omega),e0,vH]
 have e2:(((((0:W)<<<8)|||a.toUInt32)<<<8|||b.toUInt32)<<<8|||c.toUInt32).toNat=(a.toNat*256+b.toNat)*256+c.toNat:=by
  rw [zY _ _ 8 (by rw [k8 _ (by rw [e1];omega)];omega) (by rw [vH];exact hc),k8 _ (by rw [e1];omega),e1,vH]
 have f0:(a.toUInt32<<<24).toNat=a.toNat*16777216:=by rw [show (24:W)=UInt32.ofNat 24 from rfl,We _ 24 (by decide) (by rw [vH];omega),vH]
 have f1:(b.toUInt32<<<16).toNat=b.toNat*65536:=by rw [show (16:W)=UInt32.ofNat 16 from rfl,We _ 16 (by decide) (by rw [vH];omega),vH]
 have f2:(c.toUInt32<<<8).toNat=c.toNat*256:=by rw [k8 _ (by rw [vH];omega),vH]
 have g1:(a.toUInt32<<<24|||b.toUInt32<<<16).toNat=a.toNat*16777216+b.toNat*65536:=by rw [zY _ _ 24 (by rw [f0];omega) (by rw [f1];omega),f0,f1]
 have g2:(a.toUInt32<<<24|||b.toUInt32<<<16|||c.toUInt32<<<8).toNat=a.toNat*16777216+b.toNat*65536+c.toNat*256:=by rw [zY _ _ 16 (by rw [g1];omega) (by rw [f2];omega),g1,f2]
 rw [zY _ _ 8 (by rw [k8 _ (by rw [e2];omega)];omega) (by rw [vH];exact hd),k8 _ (by rw [e2];omega),e2,zY _ _ 8 (by rw [g2];omega) (by rw [vH];exact hd),g2]
 omega
theorem WA {l:List UInt8} {i:Nat} (h:i<l.length):(l.map qh).getD i []= [.int .u8 ((l.getD i 0).toNat:Int)]:=by
 simp [List.getD,Mb h,qh]
theorem tT (x:W):IntKind.u32.wrap ((x.toNat:Int)*2 ^ min 24 IntKind.u32.bits)=((x<<<24).toNat:Int):=Yd x 24 (by decide)
theorem t7 (x:W):IntKind.u32.wrap ((x.toNat:Int)*2 ^ min 16 IntKind.u32.bits)=((x<<<16).toNat:Int):=Yd x 16 (by decide)
theorem Bi (x:W):IntKind.u32.wrap ((x.toNat:Int)*2 ^ min 8 IntKind.u32.bits)=((x<<<8).toNat:Int):=Yd x 8 (by decide)
theorem Am (x:W):((x.toNat:Int)).fdiv (2 ^ min 3 IntKind.u32.bits)=((x>>>3).toNat:Int):=Yo x 3 (by decide)
theorem nQ (x:W):((x.toNat:Int)).fdiv (2 ^ min 10 IntKind.u32.bits)=((x>>>10).toNat:Int):=Yo x 10 (by decide)
theorem fL {m:List UInt8} {H:AH} (hm:m.length=64) (h:R (.agg ((wb m 64).map wD)) H):ACall Tryz.prog 140 [.slc (m.map qh)] H R:=by
 refine DJ fun hf=>?_
 have hbig:=qn
 simp+contextual only [↓Vt,↓XP,ql,XW1,qa]
 intro b hb b1 hb1
 obtain ⟨n1,f1⟩:=hb1
 refine XW.loopS hmm 101 (fun t:Nat=>[(0,.slc (m.map qh)),(2,.ptr b 0),(3,.ptr b1 0),(4,.i ((t:Nat):Int))]) (fun t=>(b1,.cells (arr (wb m t)))::(b,.cells (arr []))::H) (fun t=>16 - t) (fun t=>t<=16) 0 (by omega) ⟨rfl,rfl,rfl,rfl,rfl,trivial⟩ rfl ?_
 intro t z ht K hN hE hR
 dsimp only [fl,zz,qa,qb]
 by_cases hlt:t<16
 ·have hlt':((t:Int)<16)=True:=qC
  have v0:IntKind.i64.wrap (4*(t:Int))=((4*t:Nat):Int):=by rw [qj (by omega) (by omega)];omega
  have v1:IntKind.i64.wrap (((4*t:Nat):Int)+1)=((4*t+1:Nat):Int):=by rw [qj (by omega) (by omega)];omega
  have v2:IntKind.i64.wrap (((4*t:Nat):Int)+2)=((4*t+2:Nat):Int):=by rw [qj (by omega) (by omega)];omega
  have v3:IntKind.i64.wrap (((4*t:Nat):Int)+3)=((4*t+3:Nat):Int):=by rw [qj (by omega) (by omega)];omega
  have q0:=WA (l:=m) (i:=4*t) (by omega)
  have q1:=WA (l:=m) (i:=4*t+1) (by omega)
  have q2:=WA (l:=m) (i:=4*t+2) (by omega)
  have q3:=WA (l:=m) (i:=4*t+3) (by omega)
  have al:(arr (wb m t)).length=64:=J2 (by rw [jh];omega)
  have g3:=Wn (l:=wb m t) (y:=uZ m t 4) (by rw [jh];omega)
  rw [jh,lu] at g3
  have hw:wb m t++ [uZ m t 4]=wb m (t+1):=by rw [wb,Vd,if_pos hlt]
  rw [lu] at hw
  rw [hw] at g3
  simp+contextual only [Nat.mul_one,Mu,Mv,Mg,bq,fu,hlt',v0,v1,v2,v3,q0,q1,q2,q3,hm,lA,tT,t7,Bi,al,↓Vt,↓XP,ql,XW1]
  unfold wD at g3
  rw [qm (by omega),g3]
  exact ⟨by omega,by omega,by omega,by omega,by omega,by omega,hN (t+1) _ _ (by omega) (by omega) ⟨rfl,rfl,rfl,rfl,rfl,trivial⟩ (qL rfl)⟩
 ·obtain rfl:t=16:=by omega
  have hlt':(((16:Nat):Int)<16)=False:=eq_false (by decide)
  simp+contextual only [Mg,↓Vt,↓XP,qA]
  apply hE
  simp+contextual only [↓Vt,↓XP,qA,XW1]
  refine XW.loopS hmm 101 (fun t:Nat=>[(2,.ptr b 0),(3,.ptr b1 0),(5,.i ((t:Nat):Int))]) (fun t=>(b1,.cells (arr (wb m t)))::(b,.cells (arr []))::H) (fun t=>64 - t) (fun t=>16<=t∧t<=64) 16 ⟨by omega,by omega⟩ ⟨rfl,rfl,rfl,rfl,trivial⟩ rfl ?_
  rintro t z ⟨ht1,ht⟩ K hN hE hR
  dsimp only [fl,zz,qa,qb]
  by_cases hlt:t<64
  ·have hlt':((t:Int)<64)=True:=qC
   have v15:IntKind.i64.wrap ((t:Int) - 15)=((t - 15:Nat):Int):=by rw [qj (by omega) (by omega)];omega
   have v2:IntKind.i64.wrap ((t:Int) - 2)=((t - 2:Nat):Int):=by rw [qj (by omega) (by omega)];omega
   have v16:IntKind.i64.wrap ((t:Int) - 16)=((t - 16:Nat):Int):=by rw [qj (by omega) (by omega)];omega
   have v7:IntKind.i64.wrap ((t:Int) - 7)=((t - 7:Nat):Int):=by rw [qj (by omega) (by omega)];omega
   have c15:(((t - 15:Nat):Int)<64)=True:=qC
   have c2:(((t - 2:Nat):Int)<64)=True:=qC
   have c16:(((t - 16:Nat):Int)<64)=True:=qC
   have c7:(((t - 7:Nat):Int)<64)=True:=qC
   have g15:=ve (l:=wb m t) (i:=t - 15) (by rw [jh];omega)
   have g2:=ve (l:=wb m t) (i:=t - 2) (by rw [jh];omega)
   have g16:=ve (l:=wb m t) (i:=t - 16) (by rw [jh];omega)
   have g7:=ve (l:=wb m t) (i:=t - 7) (by rw [jh];omega)
   have al:(arr (wb m t)).length=64:=J2 (by rw [jh];omega)
   have hw:wb m (t+1)=wb m t++ [(wb m t).getD (t - 16) 0+mr ((wb m t).getD (t - 15) 0)+(wb m t).getD (t - 7) 0+mw ((wb m t).getD (t - 2) 0)]:=by rw [wb,Vd,if_neg (by omega)]
   have g3:=Wn (l:=wb m t) (y:=(wb m t).getD (t - 16) 0+mr ((wb m t).getD (t - 15) 0)+(wb m t).getD (t - 7) 0+mw ((wb m t).getD (t - 2) 0)) (by rw [jh];exact hlt)
   rw [jh,<-hw] at g3
   unfold mr mw wD at g3
   simp+contextual only [wD,Nat.mul_one,Mg,yt,hlt',v15,c15,g15,↓Vt,↓XP,ql,XW1]
   refine ⟨_,fun _ _=>vZ (n:=7) (by decide) (by decide) ⟨rfl,rfl⟩,?_⟩
   simp+contextual only [wD,Nat.mul_one,Mg,yt,v15,c15,g15,↓XP,ql,XW1]
   refine ⟨_,fun _ _=>vZ (n:=18) (by decide) (by decide) ⟨rfl,rfl⟩,?_⟩
   simp+contextual only [wD,Nat.mul_one,Mu,Mv,Mg,yt,vK,v15,c15,g15,v2,c2,g2,Am,↓Vt,↓XP,ql,XW1]
   refine ⟨_,fun _ _=>vZ (n:=17) (by decide) (by decide) ⟨rfl,rfl⟩,?_⟩
   simp+contextual only [wD,Nat.mul_one,Mg,yt,v2,c2,g2,↓XP,ql,XW1]
   refine ⟨_,fun _ _=>vZ (n:=19) (by decide) (by decide) ⟨rfl,rfl⟩,?_⟩
   simp+contextual only [wD,Nat.mul_one,Mu,Mv,Mg,yt,vK,oF,hlt',v2,c2,g2,v16,c16,g16,v7,c7,g7,nQ,al,↓Vt,↓XP,ql,XW1]
   rw [qm (by omega),g3]
   exact ⟨hlt,hN (t+1) _ _ ⟨by omega,by omega⟩ (by omega) ⟨rfl,rfl,rfl,rfl,trivial⟩ (qL rfl)⟩
  ·obtain rfl:t=64:=by omega
   have hlt':(((64:Nat):Int)<64)=False:=eq_false (by decide)
   simp+contextual only [Mg,↓Vt,↓XP,qA]
   apply hE
   simp+contextual only [qg,qi,n1,WW (jh m 64),wt (jh m 64),wv,VV,jh,↓XP,ql,XW1]
   exact ⟨Ms _,h⟩
theorem lc (l:List UInt8):l.map qh++ [[.int .u8 0]]=(l++ [0]).map qh:=WL l 0
theorem GC (l:List UInt8):l.map qh++ [[.int .u8 128]]=(l++ [128]).map qh:=WL l 128
def pz (m:List UInt8) (j:Nat):List UInt8:=m++128::List.replicate j 0
theorem UA (m:List UInt8) (j:Nat):(pz m j).length=m.length+(j+1):=by simp [pz]
theorem mG (m:List UInt8) (j:Nat):pz m j++ [0]=pz m (j+1):=by simp [pz,List.replicate_succ']
def pe (m:List UInt8) (i:Nat):List UInt8:=pz m (zP m.length)++(List.range i).map fun k=>lO (8*m.length) (56 - 8*k)
theorem p6 (m:List UInt8) (i:Nat):(pe m i).length=m.length+(zP m.length+1)+i:=by simp [pe,UA]
theorem pw (m:List UInt8) (i:Nat):pe m i++ [lO (8*m.length) (56 - 8*i)]=pe m (i+1):=by simp [pe,M0]
theorem CS (m:List UInt8):pz m (zP m.length)=pe m 0:=by simp [pe]
theorem DH (m:List UInt8):pe m 8=m++gm m.length:=by
 unfold pe pz gm
 rw [Mp,List.cons_append]
theorem GI (hm:m.length<=4294967296) (h:R (.own ((m++gm m.length).map qh)) H):ACall Tryz.prog 139 [.slc (m.map qh)] H R:=by
 refine Fb fun hf=>?_
 have hbig:=qn
 have hz:zP m.length<64:=Nat.mod_lt _ (by decide)
 simp+contextual only [↓UG,Nat.mul_one,GC,M4,↓UG,↓XP,ql,XW1,qa,qe]
 refine ⟨Zo _,by omega,Zo _,by omega,?_⟩
 refine XW.loopS hmm 37 (fun j:Nat=>[(0,.slc (m.map qh)),(3,.own ((pz m ((j:Nat))).map qh))]) (fun _=>H) (fun j=>zP m.length - j) (fun j=>j<=zP m.length) 0 (Nat.zero_le _) ⟨rfl,rfl,rfl,trivial⟩ rfl ?_
 intro j z hj K hN hE hR
 dsimp only [fl,zz,qa,qb]
 have w2:IntKind.i64.wrap ((m.length+(j+1):Nat):Int)=((m.length+(j+1):Nat):Int):=qj (by omega) (by omega)
 have w3:((m.length+(j+1):Nat):Int).tmod 64=(((m.length+(j+1)) % 64:Nat):Int):=by rw [Int.tmod_eq_emod_of_nonneg (Mn _)];omega
 by_cases hlt:j<zP m.length
 ·have ht:decide ((((m.length+(j+1)) % 64:Nat):Int)=56)=false:=decide_eq_false (by unfold zP at hlt;omega)
  simp+contextual only [Nat.mul_one,lc,w3,ht,UA,mG,↓UG,↓XP,ql,XW1,qe]
  exact fun _=>⟨by decide,Zo _,by omega,hN (j+1) _ _ (by omega) (by omega) ⟨rfl,rfl,rfl,trivial⟩ (qL rfl)⟩
 ·have hj2:j=zP m.length:=by omega
  have ht:decide ((((m.length+(j+1)) % 64:Nat):Int)=56)=true:=decide_eq_true (by rw [hj2];unfold zP;omega)
  simp+contextual only [w3,ht,UA,↓UG,↓XP,ql,XW1]
  refine fun _=>⟨by decide,?_⟩
  apply hE
  have w5:IntKind.u64.wrap (m.length:Int)=(m.length:Int):=Ks (by omega) (by omega)
  have w6:IntKind.u64.wrap (8*(m.length:Int))=((8*m.length:Nat):Int):=by rw [Ks (by omega) (by omega)];omega
  rw [hj2,CS]
  simp+contextual only [w5,w6,↓UG,↓XP,ql,XW1]
  refine fun _=>?_
  refine XW.loopS hmm 37 (fun i:Nat=>[(3,.own ((pe m ((i:Nat))).map qh)),(4,.int .u64 ((8*m.length:Nat):Int)),(5,.i (i:Int))]) (fun _=>H) (fun i=>8 - i) (fun i=>i<=8) 0 (Nat.zero_le _) ⟨rfl,rfl,rfl,rfl,trivial⟩ rfl ?_
  intro i z hi K hN hE hR
  dsimp only [fl,zz,qa,qb]
  by_cases hlt:i<8
  ·have hlt':((i:Int)<8)=True:=qC
   have v4:IntKind.i64.wrap (8*(i:Int))=((8*i:Nat):Int):=by rw [qj (by omega) (by omega)];omega
   have v5:IntKind.i64.wrap (56 - ((8*i:Nat):Int))=((56 - 8*i:Nat):Int):=by rw [qj (by omega) (by omega)];omega
   have v6:min (56 - 8*i) IntKind.u64.bits=56 - 8*i:=Nat.min_eq_left (by show _<=64;omega)
   simp+contextual only [Nat.mul_one,WL,hlt',v4,v5,v6,G6,p6,pw,↓UG,↓XP,ql,XW1,qe]
   rw [qm (by omega)]
   exact ⟨Zo _,by omega,hN (i+1) _ _ (by omega) (by omega) ⟨rfl,rfl,rfl,rfl,trivial⟩ (qL rfl)⟩
  ·have hi8:i=8:=by omega
   have hlt':((i:Int)<8)=False:=qY
   simp+contextual only [hlt',↓UG,↓XP,qA]
   apply hE
   rw [hi8,DH]
   simp+contextual only [Mg,↓XP,qA,XW1]
   exact h
def Kst0 (H:AH):Prop:=qk H 0=some (.cst kD)
theorem Kst0.push (h:Kst0 H) (hb:qz H b):Kst0 ((b,o)::H):=(qg (qD hb h)).trans h
theorem iV (h:t<64):kD[t]?=some (wD (kW.getD t 0)):=by
 have h2:t<kW.length:=by rw [Wk];exact h
 simp [kD,List.getD,Mb h2]
theorem mP {mp:List UInt8} {s:S8} {ws:List W} {b2 b3 b6 a5:Nat} {H:AH} {F:List D} (hg:Kst0 H) (hw6:qk H b6=some (.cells (ws.map wD))) (hwl:ws.length=64) (hF:Fr 164 [(2,.ptr b2 0),(3,.ptr b3 0),(4,.own (mp.map qh)),(5,.i (a5:Int)),(6,.ptr b6 0),(7,wD s.a),(8,wD s.b),(9,wD s.c),(10,wD s.d),(11,wD s.e),(12,wD s.f),(13,wD s.g),(14,wD s.h),(15,.i 0)] F) {Q:AQ}
  (hQ:∀F' t r,t=64->rnds s ws t=r->Fr 164 [(2,.ptr b2 0),(3,.ptr b3 0),(4,.own (mp.map qh)),(5,.i (a5:Int)),(7,wD r.a),(8,wD r.b),(9,wD r.c),(10,wD r.d),(11,wD r.e),(12,wD r.f),(13,wD r.g),(14,wD r.h)] F'->Q (.exit 2) F' H):XW Tryz.prog (kA 28) F H Q:=by
 have hbig:=qn
 refine XW.loopS hmm 164 (fun t:Nat=>[(2,.ptr b2 0),(3,.ptr b3 0),(4,.own (mp.map qh)),(5,.i (a5:Int)),(6,.ptr b6 0),(7,wD (rnds s ws t).a),(8,wD (rnds s ws t).b),(9,wD (rnds s ws t).c),(10,wD (rnds s ws t).d),(11,wD (rnds s ws t).e),(12,wD (rnds s ws t).f),(13,wD (rnds s ws t).g),(14,wD (rnds s ws t).h),(15,.i ((t:Nat):Int))]) (fun _=>H) (fun t=>64 - t) (fun t=>t<=64) 0 (Nat.zero_le _) hF rfl ?_
 intro t z ht K hN hE hR
 have hr1:rnds s ws (t+1)=rnd (rnds s ws t) (kW.getD t 0) (ws.getD t 0):=rfl
 have hr0:rnds s ws t=rnds s ws t:=rfl
 dsimp only [fl,zz,qa,qb]
 generalize hrr:rnds s ws t=r at hr1
 by_cases hlt:t<64
 ·have hlt':((t:Int)<64)=True:=qC
  have hk:=iV hlt
  have hw:(ws.map wD)[t]?=some (wD (ws.getD t 0)):=by
   have h2:t<ws.length:=by omega
   simp [List.getD,Me,Mb h2]
  have hg':qk H 0=some (.cst kD):=hg
  have hx:(0xffffffff:W).toNat=4294967295:=rfl
  have hx2:∀x:W,bits .xor .u32 (x.toNat:Int) 4294967295=((x ^^^ 0xffffffff).toNat:Int):=fun x=>vK x 0xffffffff
  generalize kW.getD t 0=kk at hk hr1
  generalize ws.getD t 0=ww at hw hr1
  simp+contextual only [wD,hlt',↓Qf,↓XP,qA]
  refine ⟨_,fun _ _=>vZ (n:=6) (by decide) (by decide) ⟨rfl,rfl⟩,?_⟩
  simp+contextual only [wD,yt,↓XP,qA,XW1]
  refine ⟨_,fun _ _=>vZ (n:=11) (by decide) (by decide) ⟨rfl,rfl⟩,?_⟩
  simp+contextual only [wD,yt,vK,↓XP,qA,XW1]
  refine ⟨_,fun _ _=>vZ (n:=25) (by decide) (by decide) ⟨rfl,rfl⟩,?_⟩
  simp+contextual only [wD,Nat.mul_one,Mg,yt,vK,Zu,oF,hlt',hg',hw6,hk,hw,hx2,↓Qf,↓XP,ql,XW1,↓XH]
  refine vZ (n:=2) (by decide) (by decide) ?_
  simp+contextual only [wD,yt,↓XP,qA,XW1]
  refine vZ (n:=13) (by decide) (by decide) ?_
  simp+contextual only [wD,yt,vK,↓XP,qA,XW1]
  refine vZ (n:=22) (by decide) (by decide) ?_
  simp+contextual only [wD,yt,vK,Zu,oF,↓Qf,↓XP,qA,XW1]
  rw [qm (by omega)]
  refine hN (t+1) _ _ (by omega) (by omega) ?_ (qL rfl)
  show Fr 164 [(2,.ptr b2 0),(3,.ptr b3 0),(4,.own (mp.map qh)),(5,.i (a5:Int)),(6,.ptr b6 0),(7,wD (rnds s ws (t+1)).a),(8,wD (rnds s ws (t+1)).b),(9,wD (rnds s ws (t+1)).c),(10,wD (rnds s ws (t+1)).d),(11,wD (rnds s ws (t+1)).e),(12,wD (rnds s ws (t+1)).f),(13,wD (rnds s ws (t+1)).g),(14,wD (rnds s ws (t+1)).h),(15,.i ((t+1:Nat):Int))] _
  rw [hr1]
  exact ⟨rfl,rfl,rfl,rfl,rfl,rfl,rfl,rfl,rfl,rfl,rfl,rfl,rfl,rfl,rfl,trivial⟩
 ·have ht64:t=64:=by omega
  have hlt':((t:Int)<64)=False:=qY
  simp+contextual only [wD,hlt',↓Qf,↓XP,qA]
  exact hE _ _ _ (hQ _ t r ht64 hrr ⟨rfl,rfl,rfl,rfl,rfl,rfl,rfl,rfl,rfl,rfl,rfl,rfl,rfl,trivial⟩)
def oQ (st:S8) (m:List UInt8):Nat->S8
 |0=>st
 |k+1=>vT (oQ st m k) ((m.drop (64*k)).take 64)
def JB (m:List UInt8):List UInt8:=JV (oQ iv (m++gm m.length) ((m.length+zP m.length+9) / 64))
theorem Ju (m:List UInt8):(JB m).length=32:=Kh _
theorem r8 {l:List UInt8} {a:Nat}:((l.map qh).take (a+64)).drop a=((l.drop a).take 64).map qh:=by
 rw [<-List.map_take,<-List.map_drop,List.drop_take,show a+64 - a=64 by omega]
theorem my {m:List UInt8} {H:AH} (hg:Kst0 H) (hm:m.length<=4294967296) (h:R (.agg (jr (JB m))) H):ACall Tryz.prog 121 [.slc (m.map qh)] H R:=by
 refine Dj fun hf=>?_
 have hbig:=qn
 simp+contextual only [↓Qf,↓Qf,↓XP,ql,XW1,qa,qb,qe]
 intro b2 h2 b3 h3
 obtain ⟨n32,f3⟩:=h3
 refine GI hm ?_
 have hmpl:(m++gm m.length).length=m.length+zP m.length+9:=by rw [Mi,JQ];omega
 have hz:zP m.length<64:=Nat.mod_lt _ (by decide)
 have hdiv:(m.length+zP m.length+9) % 64=0:=by unfold zP;omega
 rw [show JB m=JV (oQ iv (m++gm m.length) ((m.length+zP m.length+9) / 64)) from rfl] at h
 generalize m++gm m.length=mp at hmpl h
 simp+contextual only [↓XP,qA]
 intro _
 refine XW.loopS hmm 164 (fun k:Nat=>[(2,.ptr b2 0),(3,.ptr b3 0),(4,.own (mp.map qh)),(5,.i ((64*k:Nat):Int))]) (fun k=>(b3,.cells (oQ iv mp k).D)::(b2,.cells (barr 32 []))::H) (fun k=>(m.length+zP m.length+9) / 64 - k) (fun k=>k<=(m.length+zP m.length+9) / 64) 0 (Nat.zero_le _) ⟨rfl,rfl,rfl,rfl,rfl,trivial⟩ rfl ?_
 intro k z hk K hN hE hR
 dsimp only [fl,zz,qa,qb]
 have hr1:oQ iv mp (k+1)=vT (oQ iv mp k) ((mp.drop (64*k)).take 64):=rfl
 have hr0:k=(m.length+zP m.length+9) / 64->oQ iv mp ((m.length+zP m.length+9) / 64)=oQ iv mp k:=fun e=>by rw [e]
 by_cases hlt:k<(m.length+zP m.length+9) / 64
 ·have hlt':(((64*k:Nat):Int)<(mp.length:Int))=True:=qC
  have v1:IntKind.i64.wrap (((64*k:Nat):Int)+64)=((64*k+64:Nat):Int):=by rw [qj (by omega) (by omega)];omega
  have hbl:((mp.drop (64*k)).take 64).length=64:=by rw [Mz,List.length_drop];omega
  obtain ⟨bl,hbe⟩:∃bl,(mp.drop (64*k)).take 64=bl:=⟨_,rfl⟩
  rw [hbe] at hr1 hbl
  generalize oQ iv mp k=s at hr1
  simp+contextual only [hlt',v1,r8,hbe,↓Qf,↓XP,ql]
  refine fun _=>⟨Zo _,by omega,by omega,fL hbl ?_⟩
  have hwl:=jh bl 64
  obtain ⟨c,hc⟩:∃c,vT s bl=c:=⟨_,rfl⟩
  rw [hc] at hr1
  rw [vT] at hc
  generalize wb bl 64=ws at hwl hc
  simp+contextual only [Nat.mul_one,Mw,Mg,hwl,↓Qf,↓XP,ql,XW1,qb]
  intro b6 h6
  obtain ⟨n63,n62,f6⟩:=h6
  have hsd:s.D= [wD s.a,wD s.b,wD s.c,wD s.d,wD s.e,wD s.f,wD s.g,wD s.h]:=rfl
  simp+contextual only [wD,Nat.mul_one,Mu,Mv,Mw,Mg,yt,hsd,qg,n63,↓XP,ql,XW1]
  refine mP (s:=s) (ws:=ws) (a5:=64*k) (b6:=b6) (((Kst0.push hg h2).push ⟨Ne.symm n32,f3⟩).push ⟨Ne.symm n63,Ne.symm n62,f6⟩) jl hwl ⟨rfl,rfl,rfl,rfl,rfl,rfl,rfl,rfl,rfl,rfl,rfl,rfl,rfl,rfl,rfl,trivial⟩ fun F' t r ht64 hr hF'=>?_
  rw [ht64] at hr
  rw [hr] at hc
  obtain ⟨z,rfl⟩:=hF'.lit
  show yI 2 _ (.exit 2) [z 0,z 1,.ptr b2 0,.ptr b3 0,.own (mp.map qh),.i ((64*k:Nat):Int),z 6,wD r.a,wD r.b,wD r.c,wD r.d,wD r.e,wD r.f,wD r.g,wD r.h,z 15,z 16,z 17,z 18,z 19,z 20,z 21,z 22,z 23,z 24,z 25,z 26,z 27,z 28,z 29,z 30,z 31,z 32,z 33,z 34,z 35,z 36,z 37,z 38,z 39,z 40,z 41,z 42,z 43,z 44,z 45,z 46,z 47,z 48,z 49,z 50,z 51,z 52,z 53,z 54,z 55,z 56,z 57,z 58,z 59,z 60,z 61,z 62,z 63,z 64,z 65,z 66,z 67,z 68,z 69,z 70,z 71,z 72,z 73,z 74,z 75,z 76,z 77,z 78,z 79,z 80,z 81,z 82,z 83,z 84,z 85,z 86,z 87,z 88,z 89,z 90,z 91,z 92,z 93,z 94,z 95,z 96,z 97,z 98,z 99,z 100,z 101,z 102,z 103,z 104,z 105,z 106,z 107,z 108,z 109,z 110,z 111,z 112,z 113,z 114,z 115,z 116,z 117,z 118,z 119,z 120,z 121,z 122,z 123,z 124,z 125,z 126,z 127,z 128,z 129,z 130,z 131,z 132,z 133,z 134,z 135,z 136,z 137,z 138,z 139,z 140,z 141,z 142,z 143,z 144,z 145,z 146,z 147,z 148,z 149,z 150,z 151,z 152,z 153,z 154,z 155,z 156,z 157,z 158,z 159,z 160,z 161,z 162,z 163] _
  simp+contextual only [wD,Nat.mul_one,Mu,Mv,Mw,Mg,yt,oF,qg,qi,n63,↓Qf,↓XP,ql,XW1,qb,qe,qf]
  rw [v1]
  refine hN (k+1) _ _ (by omega) (by omega) ⟨rfl,rfl,rfl,rfl,rfl,trivial⟩ ?_
  show back _ _=(b3,AO.cells (oQ iv mp (k+1)).D)::(b2,AO.cells (barr 32 []))::H
  rw [hr1,<-hc]
  exact yX rfl
 ·have hkn:k=(m.length+zP m.length+9) / 64:=by omega
  have hlt':(((64*k:Nat):Int)<(mp.length:Int))=False:=qY
  rw [<-hkn] at h
  generalize oQ iv mp k=s at h
  simp+contextual only [hlt',↓Qf,↓XP,ql]
  refine fun _=>?_
  apply hE
  simp+contextual only [↓Qf,↓XP,ql,XW1]
  intro b8 h8
  obtain ⟨n83,n82,f8⟩:=h8
  refine XW.loopS hmm 164 (fun i:Nat=>[(2,.ptr b2 0),(3,.ptr b3 0),(18,.ptr b8 0),(19,.i ((i:Nat):Int))]) (fun i=>(b8,.cells (barr 32 (Qg s i)))::(b3,.cells s.D)::(b2,.cells (barr 32 []))::H) (fun i=>32 - i) (fun i=>i<=32) 0 (Nat.zero_le _) ⟨rfl,rfl,rfl,rfl,rfl,trivial⟩ rfl ?_
  intro i z hi K hN hE hR
  dsimp only [fl,zz,qa,qb]
  by_cases hlt:i<32
  ·have hlt':((i:Int)<32)=True:=qC
   have x1:IntKind.i64.wrap ((i:Int).tdiv 4)=((i / 4:Nat):Int):=by rw [Int.tdiv_eq_ediv_of_nonneg (Mn _),qj (by omega) (by omega)];omega
   have x2:(i:Int).tmod 4=((i % 4:Nat):Int):=by rw [Int.tmod_eq_emod_of_nonneg (Mn _)];omega
   have x3:IntKind.i64.wrap (8*((i % 4:Nat):Int))=((8*(i % 4):Nat):Int):=by rw [qj (by omega) (by omega)];omega
   have x4:IntKind.i64.wrap (24 - ((8*(i % 4):Nat):Int))=((24 - 8*(i % 4):Nat):Int):=by rw [qj (by omega) (by omega)];omega
   have x5:min (24 - 8*(i % 4)) IntKind.u32.bits=24 - 8*(i % 4):=Nat.min_eq_left (by show _<=32;omega)
   have x6:=S8.get s (j:=i / 4) (by omega)
   have x7:(barr 32 (Qg s i)).length=32:=Jm (by rw [ut];omega)
   have x8:=Kk (n:=32) (l:=Qg s i) (c:=Zb s i) (by rw [ut];exact hlt)
   have x9:(((i / 4:Nat):Int)<8)=True:=qC
   rw [ut,YK] at x8
   unfold bD Zb at x8
   simp+contextual only [wD,Nat.mul_one,Mg,yt,qg,n83,hlt',x1,x2,x3,x4,x5,x6,x7,x8,x9,G6,↓Qf,↓XP,ql,XW1]
   rw [qm (by omega)]
   exact ⟨by decide,by decide,hlt,hN (i+1) _ _ (by omega) (by omega) ⟨rfl,rfl,rfl,rfl,rfl,trivial⟩ (qL rfl)⟩
  ·have hi32:i=32:=by omega
   have hlt':((i:Int)<32)=False:=qY
   simp+contextual only [hlt',↓Qf,↓XP,qA]
   apply hE
   have ho:Qg s i=JV s:=by rw [hi32];rfl
   have hol:(JV s).length=32:=Kh s
   have hob:=Qd hol
   rw [ho]
   simp+contextual only [qg,qi,n32,n82,hob,qx,hol,qZ hol,jp,show (barr 32 []).drop 32= [] from rfl,show (barr 32 []).length=32 from rfl,↓XP,ql,XW1]
   exact h
structure Id3 where
 o:Int
 s:Int
 i:Int
 deriving DecidableEq
structure Rf where
 o:Int
 s:Int
 deriving DecidableEq
structure OpP where
 k:Int
 on:Id3
 to:Id3
 ids:List Id3
 n:Int
 name:List UInt8
 text:List UInt8
 a:Int
 b:Int
 deriving DecidableEq
structure Pt where
 o:Int
 s:Int
 day:Int
 needs:List Rf
 ops:List OpP
 sl:List UInt8
 deriving DecidableEq
def oc:Id3:=⟨0,0,0⟩
def jQ:OpP:=⟨0,oc,oc,[],0,[],[],0,0⟩
def pt0:Pt:=⟨0,0,0,[],[],[]⟩
instance:Inhabited Id3:=⟨oc⟩
instance:Inhabited Rf:=⟨⟨0,0⟩⟩
instance:Inhabited OpP:=⟨jQ⟩
instance:Inhabited Pt:=⟨pt0⟩
def Id3.d (x:Id3):List D:= [.i x.o,.i x.s,.i x.i]
def Rf.d (x:Rf):List D:= [.i x.o,.i x.s]
def je (l:List Id3):List (List D):=l.map Id3.d
def qF (l:List Rf):List (List D):=l.map Rf.d
def OpP.d (x:OpP):List D:= [.i x.k,.i x.on.o,.i x.on.s,.i x.on.i,.i x.to.o,.i x.to.s,.i x.to.i,.slc (je x.ids),.i x.n,.str x.name,.str x.text,.i x.a,.i x.b]
def qM (l:List OpP):List (List D):=l.map OpP.d
def Pt.d (p:Pt):List D:= [.i p.o,.i p.s,.i p.day,.slc (qF p.needs),.slc (qM p.ops),.str p.sl]
def jd (l:List Pt):List (List D):=l.map Pt.d
def jK (l:List Bool):List (List D):=l.map fun b=>[.bool b]
def ja (l:List (List Bool)):List (List D):=l.map fun x=>[.slc (jK x)]
def upto {α:Type} (f:Nat->List α):Nat->List α
 |0=>[]
 |k+1=>upto f k++f k
theorem oJ {α:Type} {f:Nat->List α} {c:Nat} (h:∀k,(f k).length<=c):∀k,(upto f k).length<=k*c
 |0=>by simp [upto]
 | k+1=>by
  have:=oJ h k
  have:=h k
  rw [upto,Mi,Nat.add_mul]
  omega
theorem upto_mem {α:Type} {f:Nat->List α} {x:α}:∀{k:Nat},x∈upto f k↔∃i,i<k∧x∈f i
 |0=>by simp [upto]
 | k+1=>by
  rw [upto,List.mem_append,upto_mem]
  constructor
  ·rintro (⟨i,h1,h2⟩|h)
   ·exact ⟨i,by omega,h2⟩
   ·exact ⟨k,by omega,h⟩
  ·rintro ⟨i,h1,h2⟩
   by_cases e:i<k
   ·exact .inl ⟨i,e,h2⟩
   ·obtain rfl:i=k:=by omega
    exact .inr h2
theorem jJ {α:Type} {l:List α} {i:Nat} {d:α} (h:i<l.length):l.getD i d=l[i]:=by simp [h]
theorem qP:(je l).length=l.length:=by simp [je]
theorem jY:(qF l).length=l.length:=by simp [qF]
theorem j9:(qM l).length=l.length:=by simp [qM]
theorem jG:(jd l).length=l.length:=by simp [jd]
theorem vf:(jK l).length=l.length:=by simp [jK]
theorem VE:(ja l).length=l.length:=by simp [ja]
theorem wC (h:i<l.length):(je l).getD i []=(l.getD i default).d:=by simp [je,h]
theorem ow (h:i<l.length):(qF l).getD i []=(l.getD i default).d:=by simp [qF,h]
theorem wA (h:i<l.length):(qM l).getD i []=(l.getD i default).d:=by simp [qM,h]
theorem vO (h:i<l.length):(jd l).getD i []=(l.getD i default).d:=by simp [jd,h]
theorem Ql (h:i<l.length):(jK l).getD i []= [.bool (l.getD i false)]:=by simp [jK,h]
theorem bn (h:i<l.length):(ja l).getD i []= [.slc (jK (l.getD i []))]:=by simp [ja,h]
theorem Zl:∀x∈je l,x.length=3:=by
 intro x hx
 obtain ⟨t,_,rfl⟩:=List.mem_map.1 hx
 rfl
theorem Uy:∀x∈qF l,x.length=2:=by
 intro x hx
 obtain ⟨t,_,rfl⟩:=List.mem_map.1 hx
 rfl
theorem vX:∀x∈qM l,x.length=13:=by
 intro x hx
 obtain ⟨t,_,rfl⟩:=List.mem_map.1 hx
 rfl
theorem lv:∀x∈jd l,x.length=6:=by
 intro x hx
 obtain ⟨t,_,rfl⟩:=List.mem_map.1 hx
 rfl
theorem eT:∀x∈jK l,x.length=1:=by
 intro x hx
 obtain ⟨t,_,rfl⟩:=List.mem_map.1 hx
 rfl
theorem rW:∀x∈ja l,x.length=1:=by
 intro x hx
 obtain ⟨t,_,rfl⟩:=List.mem_map.1 hx
 rfl
theorem Wo:je a++je b=je (a++b):=by simp [je]
theorem Vc:qF a++qF b=qF (a++b):=by simp [qF]
theorem Wd:qM a++qM b=qM (a++b):=by simp [qM]
theorem ZT:jd a++jd b=jd (a++b):=by simp [jd]
theorem dE {p:Pt}:p.d= [.int .i64 p.o,.int .i64 p.s,.int .i64 p.day,.slc (qF p.needs),.slc (qM p.ops),.str p.sl]:=rfl
def around (n most:Int):Int:=(if n<0 then -(n+1) else n).tmod most
theorem gJ (h:0<most):0<=around n most∧around n most<most:=by
 unfold around
 have h0:0<=(if n<0 then -(n+1) else n):=by split<;>omega
 rw [Int.tmod_eq_emod_of_nonneg h0]
 exact ⟨Int.emod_nonneg _ (by omega),Int.emod_lt_of_pos _ h⟩
theorem gj (hm:0<most) (h:R (.int .i64 (around n most)) H):ACall Tryz.prog 16 [.int .i64 n,.int .i64 most] H R:=by
 refine fM fun hf=>?_
 have hn:=hf.1
 rw [lS,kX] at hn
 simp+contextual only [↓U16,↓U16,↓XP,ql,XW1,qa,qb]
 unfold around at h
 refine ⟨fun h0=>?_,fun h0=>?_⟩
 ·rw [qj (n:=n+1) (by omega) (by omega),qj (n:=0 - (n+1)) (by omega) (by omega)]
  rw [if_pos h0] at h
  refine ⟨by omega,?_⟩
  rw [show 0 - (n+1)= -(n+1) by omega]
  exact h
 ·rw [if_neg h0] at h
  exact ⟨by omega,h⟩
def ints (l:List Int):List (List D):=l.map fun n=>[.int .i64 n]
theorem jq:(ints l).length=l.length:=by simp [ints]
theorem cq (h:i<l.length):(ints l).getD i []= [.int .i64 l[i]]:=by simp [ints,h]
def qy (l:List Int) (i:Nat) (most:Int):Int:=match l[i]? with
 |some n=>around n most
 |none=>0
theorem qp (h:0<most):0<=qy l i most∧qy l i most<most:=by
 unfold qy
 split
 ·exact gJ h
 ·omega
theorem jR (hm:0<most) (h:R (.int .i64 (qy l i most)) H):ACall Tryz.prog 57 [.slc (ints l),.int .i64 i,.int .i64 most] H R:=by
 refine b57 fun hf=>?_
 by_cases hi:i<l.length
 ·simp+contextual only [↓Cd,jq,cq hi,↓Cd,↓XP,ql,qa,qb]
  refine ⟨fun hneg=>absurd hneg (by omega),fun _ _=>⟨fun hge=>absurd hge (by omega),fun _=>?_⟩⟩
  refine ⟨by omega,fun _=>gj hm ?_⟩
  simp+contextual only [↓XP,qA]
  intro _
  unfold qy at h
  rw [Mb hi] at h
  exact h
 ·simp+contextual only [↓Cd,jq,↓Cd,↓XP,ql,qa,qb]
  refine ⟨fun hneg=>absurd hneg (by omega),fun _ _=>⟨fun hge=>?_,fun hlt=>absurd (by omega) hlt⟩⟩
  unfold qy at h
  rw [My (by omega)] at h
  exact h
def heads8:List (List UInt8):= [[99,97,116],[97,110,116],[98,101,116],[110,101,115,116],[116,101,110],[116,101,101],[99,104,101],[115,101,116]]
def core4:List (List UInt8):= [[97],[97,110],[98,101],[99]]
def words16:List (List UInt8):=core4++heads8++ [[99,97,116,115],[97,110,116,115],[98,101,116,115,116],[120,121,122]]
def seps3:List (List UInt8):= [[32],[44,32],[32]]
def jL (l:List Int) (i:Nat) (most:Int):Nat:=(qy l i most).toNat
def yC (l:List Int):Nat->List UInt8
 |0=>words16.getD (jL l 0 16) []
 |i+1=>yC l i++(seps3.getD (jL l (2+i) 3) []++words16.getD (jL l (4+i) (6+i)) [])
def gloss (l:List Int):List UInt8:=if qy l 6 19=18 then [] else yC l (jL l 1 3)
def qU (p:Pt) (o:OpP):Pt:={p with ops:=p.ops++ [o]}
def jA (p:Pt):Id3:=⟨p.o,p.s,p.ops.length⟩
def meaning (p:Pt) (on:Id3) (m:List Int):Pt:=
 let p1:=qU p {jQ with k:=2,on:=on,n:=qy m 2 5}
 let p2:=qU p1 {jQ with k:=7,on:=jA p,text:=gloss (m.drop 3)}
 if qy m 1 9=5 then p2 else qU p2 {jQ with k:=9,on:=jA p,n:=1}
structure Gs where
 l:List Pt
 past:List (List Bool)
def kx (p:Pt) (kind:Int) (ok:Bool):Nat->List Id3:=fun k=>if ok=true∧(p.ops.getD k default).k=kind then [⟨p.o,p.s,k⟩] else []
def kw (p:Pt) (kind:Int) (ok:Bool):List Id3:=upto (kx p kind ok) p.ops.length
def visible (x:Gs) (seen:List Bool) (p:Pt) (kind:Int):List Id3:=upto (fun i=>kw (x.l.getD i default) kind (seen.getD i false)) x.l.length++kw p kind true
def kr (p:Pt) (ok:Bool):Nat->List OpP:=fun k=>if ok=true∧(p.ops.getD k default).k=16 then [p.ops.getD k default] else []
def kP (p:Pt) (ok:Bool):List OpP:=upto (kr p ok) p.ops.length
def splits (x:Gs) (seen:List Bool) (p:Pt):List OpP:=upto (fun i=>kP (x.l.getD i default) (seen.getD i false)) x.l.length++kP p true
def names3:List (List UInt8):= [[112,114,101,115,115],[104,101,105,114,115],[99,114,111,119,110]]
def quoted (x:Gs) (seen:List Bool) (p:Pt) (sense:Id3) (m:List Int):Pt:=
 let sources:=visible x seen p 3
 if sources.length=0∨qy m 1 4=1 then
  let from_:=600000+400*qy m 2 60
  let p1:=qU p {jQ with k:=3,name:=names3.getD (jL m 3 3) [],text:= [97,110,110,97,108,115],a:=from_,b:=from_+300*qy m 4 8}
  qU p1 {jQ with k:=4,on:=sense,to:=jA p,n:=1+qy m 5 90,text:=gloss (m.drop 6)}
 else qU p {jQ with k:=4,on:=sense,to:=sources.getD (jL m 2 sources.length) default,n:=1+qy m 5 90,text:=gloss (m.drop 6)}
def divided (p:Pt) (entry sense:Id3) (m:List Int):Pt:=
 let p1:=meaning p entry m
 let p2:=meaning p1 entry (m.drop 1)
 qU p2 {jQ with k:=16,on:=sense,ids:= [jA p,jA p1],n:=qy m 4 3 - 1}
def lang3:List (List UInt8):= [[102,114],[102,114],[100,101]]
def lab2:List (List UInt8):= [[114,97,114,101],[108,97,119]]
def small (sense other:Id3) (n:Int) (m:List Int):OpP:=
 if n=0∨n=1 then {jQ with k:=7,on:=sense,text:=gloss (m.drop 3)}
 else if n=2 then {jQ with k:=9,on:=sense,n:=qy m 3 2}
 else if n=3 then {jQ with k:=10,on:=sense,n:=1+qy m 3 9}
 else if n=4 then {jQ with k:=12,on:=sense,name:=lang3.getD (jL m 3 3) [],text:=gloss (m.drop 4)}
 else if n=5∨n=6 then {jQ with k:=14,on:=sense,name:=lab2.getD (jL m 3 2) [],n:=min 1 (qy m 4 4)}
 else if n=7∨n=8 then {jQ with k:=15,on:=sense,to:=other,n:=min 1 (qy m 3 5)}
 else if n=9 then {jQ with k:=13,on:=sense,to:=other,n:=qy m 3 3}
 else {jQ with k:=8,on:=sense,n:=qy m 3 5}
def strs (l:List (List UInt8)):List (List D):=l.map fun s=>[.str s]
theorem jc:(strs l).length=l.length:=by simp [strs]
theorem kn (h:i<l.length):(strs l).getD i []= [.str (l.getD i [])]:=by simp [strs,h]
theorem Wa:∀x∈strs l,x.length=1:=by
 intro x hx
 obtain ⟨t,_,rfl⟩:=List.mem_map.1 hx
 rfl
theorem og:∀x∈ints l,x.length=1:=by
 intro x hx
 obtain ⟨t,_,rfl⟩:=List.mem_map.1 hx
 rfl
theorem kv {l:List Int} {n:Nat} {H:AH} (h:R (.slc (ints (l.drop n))) H):ACall Tryz.prog 59 [.slc (ints l),.i n] H R:=by
 refine b59 fun hf=>?_
 have hbig:=qn
 simp+contextual only [x59,jq,↓mo,↓XP,ql,qa,qb]
 refine fun _=>⟨og,?_⟩
 rw [Mt (show (ints l).length<=l.length by rw [jq];exact Ms _)]
 by_cases hc:(l.length:Int)<(n:Int)
 ·simp only [if_pos hc,Mh]
  refine ⟨by omega,by omega,?_⟩
  rw [List.drop_of_length_le (show (ints l).length<=l.length by rw [jq];exact Ms _)]
  rw [List.drop_of_length_le (show l.length<=n by omega)] at h
  exact h
 ·simp only [if_neg hc,Mh]
  refine ⟨by omega,by omega,?_⟩
  rw [show List.drop n (ints l)=ints (l.drop n) from List.map_drop.symm]
  exact h
theorem rX (h:R (.own (strs core4)) H):ACall Tryz.prog 147 [] H R:=by
 refine Em fun hf=>?_
 simp+contextual only [↓U147,↓U147.1,↓XP,ql,XW1,qa,qc,qe]
 intros
 exact h
theorem J6 (h:R (.own (strs heads8)) H):ACall Tryz.prog 127 [] H R:=by
 refine Ey fun hf=>?_
 simp+contextual only [↓U127,↓U127.1,↓XP,ql,XW1,qa,qc,qe]
 intros
 exact h
theorem u7 {α:Type} {l:List α} {d:α} {p:α->Prop} (h:∀x∈l,p x) (hd:p d) (i:Nat):p (l.getD i d):=by
 rcases Nat.lt_or_ge i l.length with hi|hi
 ·rw [jJ hi];exact h _ (List.getElem_mem hi)
 ·rw [show l.getD i d=d by simp [List.getD,My hi]];exact hd
theorem Jv (i:Nat):(words16.getD i []).length<=5:=u7 (p:=fun x:List UInt8=>x.length<=5) (by decide) (by decide) i
theorem Ga (i:Nat):(seps3.getD i []).length<=2:=u7 (p:=fun x:List UInt8=>x.length<=2) (by decide) (by decide) i
theorem QL:∀i,(yC l i).length<=5+7*i
 | 0=>by
  have:=Jv (jL l 0 16)
  simp only [yC]
  omega
 | i+1=>by
  have h1:=QL (l:=l) i
  have h2:=Ga (jL l (2+i) 3)
  have h3:=Jv (jL l (4+i) (6+i))
  simp only [yC,Mi]
  omega
theorem uG (h:R (.str (gloss l)) H):ACall Tryz.prog 143 [.slc (ints l)] H R:=by
 refine Dn fun hf=>?_
 have hbig:=qn
 simp+contextual only [↓VU,↓VU,↓XP,qA,qa]
 refine rX ?_
 simp+contextual only [↓XP,qA]
 intros
 refine J6 ?_
 simp+contextual only [jc,↓VU,↓XP,ql,XW1,qb,qc,qe]
 have e:strs core4++strs heads8++ [[.str [99,97,116,115]],[.str [97,110,116,115]],[.str [98,101,116,115,116]],[.str [120,121,122]]]=strs words16:=rfl
 have hw:words16.length=16:=rfl
 have e2:(strs core4++strs heads8).length=12:=rfl
 have c8:core4.length=4:=rfl
 have h8:heads8.length=8:=rfl
 rw [e,e2,c8,h8]
 refine fun _=>⟨Wa,Wa,by omega,Wa (l:=core4++heads8),by omega,fun _=>?_⟩
 rw [jc,hw,show ((16:Nat):Int)=(16:Int) from rfl]
 have a0:=qp (l:=l) (i:=0) (most:=16) (by omega)
 have a1:=qp (l:=l) (i:=1) (most:=3) (by omega)
 refine jR (i:=0) (by omega) ?_
 simp+contextual only [jc,kn (show (qy l 0 16).toNat<words16.length by rw [hw];omega),hw,↓VU,↓XP,ql]
 refine fun _=>⟨by omega,by omega,fun _=>jR (i:=1) (by omega) ?_⟩
 simp+contextual only [↓XP,qA]
 obtain ⟨n,hn⟩:∃n:Nat,qy l 1 3=n:=⟨(qy l 1 3).toNat,by omega⟩
 have hn':jL l 1 3=n:=by unfold jL;omega
 rw [hn]
 intros
 refine XW.loopK hm (fun F H'=>∃(i:Nat),i<=n∧Fr 50 [(0,.slc (ints l)),(3,.own (strs words16)),(4,.str (yC l i)),(5,.i n),(6,.i i)] F∧H=H') (fun F H=>match F.getD 6 .any with| .int _ n'=>n - n'.toNat|_=>0) ⟨0,by omega,⟨rfl,rfl,rfl,rfl,rfl,rfl,trivial⟩,rfl⟩ ?_
 rintro _ _ ⟨i,hi,hF,rfl⟩ K hN hE hR
 obtain ⟨z,rfl⟩:=hF.fl rfl
 try dsimp only [fl,zz,qa,qb] at*
 clear hF
 by_cases hlt:i<n
 ·have nx:∀F',Fr 50 [(0,.slc (ints l)),(3,.own (strs words16)),(4,.str (yC l (i+1))),(5,.i n),(6,.i ((i+1:Nat):Int))] F'->K .normal F' H:=fun F' hF'=>hN _ _ ⟨i+1,hlt,hF',(qL rfl).symm⟩ (by
   rw [Ma,hF'.2.2.2.2.2.1]
   simp only [Mc,Md,Mf]
   omega)
  clear hN hE hR
  have w2:IntKind.i64.wrap (2+(i:Int))=((2+i:Nat):Int):=by rw [qj (by omega) (by omega)];omega
  have w4:IntKind.i64.wrap (4+(i:Int))=((4+i:Nat):Int):=by rw [qj (by omega) (by omega)];omega
  have w6:IntKind.i64.wrap (6+(i:Int))=6+(i:Int):=qj (by omega) (by omega)
  have b0:=qp (l:=l) (i:=2+i) (most:=3) (by omega)
  have b1:=qp (l:=l) (i:=4+i) (most:=6+(i:Int)) (by omega)
  simp+contextual only [w2,↓VU,↓XP,ql,XW1,qc,qe]
  have g0:=QL (l:=l) i
  have g2:=Ga (jL l (2+i) 3)
  have g3:=Jv (jL l (4+i) (6+i))
  have hse:([[.str [32]],[.str [44,32]],[.str [32]]]:List (List D))=strs seps3:=rfl
  have hs3:seps3.length=3:=rfl
  have s1:=kn (show (qy l (2+i) 3).toNat<seps3.length by rw [hs3];omega)
  have s2:=kn (show (qy l (4+i) (6+(i:Int))).toNat<words16.length by rw [hw];omega)
  refine ⟨fun _=>⟨_,fun _ _=>jR (by omega) ⟨rfl,rfl⟩,?_⟩,fun hge=>absurd (by omega) hge⟩
  simp+contextual only [w4,w6,hse,hs3,s1,jc,↓XP,ql]
  refine fun _=>⟨by omega,by omega,fun _=>⟨?_,⟨_,fun _ _=>jR (by omega) ⟨rfl,rfl⟩,?_⟩⟩⟩
  ·unfold jL at g2
   omega
  simp+contextual only [hw,s2,jc,qm (show i<=big by omega),↓VU,↓XP,ql]
  have hu:yC l i++seps3.getD (qy l (2+i) 3).toNat []++words16.getD (qy l (4+i) (6+(i:Int))).toNat []=yC l (i+1):=by
   rw [yC,Mp]
   rfl
  rw [hu]
  unfold jL at g2 g3
  refine fun _=>⟨by omega,by omega,fun _=>⟨by simp only [Mi];omega,nx _ ⟨rfl,rfl,rfl,rfl,rfl,rfl,trivial⟩⟩⟩
 ·have hin:i=n:=by omega
  subst hin
  simp+contextual only [↓VU,↓XP,qA]
  refine hE _ _ _ ?_
  simp+contextual only [↓VU,↓XP,qA,XW1]
  refine jR (i:=6) (by omega) ?_
  simp+contextual only [↓XP,qA]
  unfold gloss at h
  rw [hn'] at h
  refine fun _=>⟨fun h18=>?_,fun h18=>?_⟩
  ·rw [if_pos h18] at h
   exact h
  ·rw [if_neg h18] at h
   exact h
end Go.Proofs.YtgopigkdcmhbbaaGreatDoor
end
noncomputable section
namespace Go.Proofs.YtgopigkdcmhbbaaGreatDoor
open Go.Xs
open Go Go.Aw
def oV:=yy Tryz.f48
def V48:=PLift.up (aI (aI (aI (aI (@unf (oV 7) (T (r [u,v,u])) rfl) (@unf (oV 24) (r [u,v,u]) rfl)) (aI (@unf (oV 21) (O (R [x,u,u,u,u,v,u] (oV 24))) rfl) (@unf (oV 15) (X (R [u,u] I) (oV 21)) rfl))) (aI (aI (@unf (oV 33) (r [x,u,u,u,u,v,u]) rfl) (@unf (oV 34) (r [x,u,u,u,u,v,u]) rfl)) (aI (@unf (oV 53) (T (r [u,v,u])) rfl) (@unf (oV 56) (r [x,u,u,v,u]) rfl)))) (aI (aI (aI (@unf (oV 57) (r [u,v,u]) rfl) (@unf (oV 46) (X (O (R [u,u,u,v,u] (X (R [u,u] (oV 53)) (oV 56)))) (oV 57)) rfl)) (aI (@unf (oV 40) (X (R [u,u] I) (oV 46)) rfl) (@unf (oV 35) (X (R [u,v,u] (U (oV 40))) (F [v,u])) rfl))) (aI (aI (@unf (oV 29) (X (R [u,u] (V (oV 33) (oV 34))) (oV 35)) rfl) (@unf (oV 25) (R [u,v,u] (R [u] (oV 29))) rfl)) (aI (@unf (oV 4) (X (R [u,u] (oV 7)) (R [u] (X (U (oV 15)) (oV 25)))) rfl) (@unf (oV 0) (R [u] (R [v,u] (oV 4))) rfl)))))
theorem dp:type_of% V48.down:=V48.down
theorem b48:Bt 48 59 (oV 0) [(.tmp 2)]:=bt Tryz.func48 rfl
def ff:=yy Tryz.f113
def V113:=PLift.up (aI (@unf (ff 2) (F [u,u,x,u,u,v,u]) rfl) (@unf (ff 0) (R [u] (ff 2)) rfl))
theorem U113:type_of% V113.down:=V113.down
theorem EC:Bt 113 9 (ff 0) [(.tmp 2)]:=bt Tryz.func113 rfl
end Go.Proofs.YtgopigkdcmhbbaaGreatDoor
end
section
namespace Go.Proofs.YtgopigkdcmhbbaaGreatDoor
open Go Go.Aw
def digs (m:Nat):List UInt8:=if h:m=0 then [] else UInt8.ofNat (m % 256)::digs (m / 256)
termination_by m
decreasing_by exact Nat.div_lt_self (by omega) (by omega)
def j8 (neg:Bool) (x:UInt8):UInt8:=if neg=true then 255 - x else x
def mag (n:Int):Nat:=if n<0 then (-1 - n).toNat else n.toNat
def qv (n:Int):List UInt8:=
 UInt8.ofNat (if n<0 then 127 - (digs (mag n)).length else 128+(digs (mag n)).length)::(digs (mag n)).reverse.map (j8 (decide (n<0)))
def qB (s:List UInt8):List UInt8:=qv s.length++s
def qN (l:List Int):List UInt8:=qv l.length++l.flatMap qv
def yE (l:List (List UInt8)):List UInt8:=qv l.length++l.flatMap qB
theorem kB:digs 0= []:=by rw [digs];rfl
theorem yV (h:m≠0):digs m=UInt8.ofNat (m % 256)::digs (m / 256):=by rw [digs,dif_neg h]
theorem gf:∀(k m:Nat),m<256 ^ k->(digs m).length<=k
 | 0,m,h=>by
  have:m=0:=by simpa using h
  rw [this,kB];exact Ms _
 | k+1,m,h=>by
  by_cases hm:m=0
  ·rw [hm,kB];exact Nat.zero_le _
  ·rw [yV hm,Mj]
   have:=gf k (m / 256) (by rw [Nat.div_lt_iff_lt_mul (by omega)];rw [Nat.pow_succ] at h;exact h)
   omega
theorem Ww (h:wS .i64 n):mag n<9223372036854775808:=by
 rw [kX] at h
 unfold mag
 split<;>omega
theorem J0 (h:wS .i64 n):(digs (mag n)).length<=8:=gf 8 _ (by have:=Ww h;omega)
theorem yh (h:wS .i64 n):(qv n).length<=9:=by
 have:=J0 h
 simp only [qv,Mj,Ml,List.length_reverse]
 omega
theorem gO (h:0<=n) (h':n<256):IntKind.u8.wrap n=n:=Go.IntWalk.u8_in n ⟨h,by omega⟩
theorem gY {n:Nat} (h:n<256): [D.int .u8 (n:Int)]=qh (UInt8.ofNat n):=by
 unfold qh
 rw [UInt8.toNat_ofNat',Nat.mod_eq_of_lt h]
theorem ji {l:List UInt8}:∀x∈l.map qh,x.length=1:=by
 intro x hx
 obtain ⟨t,_,rfl⟩:=List.mem_map.1 hx
 rfl
theorem cS {n:Int} {m0:Nat} {H:AH} {Q:AQ} {F:List D} (hm:m0<9223372036854775808) (hF:Fr 59 [(0,.i n),(3,.i (m0:Int)),(4,.own [])] F) (hE:∀F',Fr 59 [(0,.i n),(4,.own ((digs m0).map qh))] F'->Q (.exit 0) F' H):XW Tryz.prog (oV 15) F H Q:=by
 have hbig:=qn
 have hl0:=gf 8 m0 (by omega)
 refine XW.loopK hmm (fun F H'=>∃(pre:List UInt8) (m:Nat),digs m0=pre++digs m∧m<9223372036854775808∧Fr 59 [(0,.i n),(3,.i (m:Int)),(4,.own (pre.map qh))] F∧H=H') (fun F H=>match F.getD 3 .any with| .int _ n'=>n'.toNat|_=>0) ⟨[],m0,rfl,hm,hF,rfl⟩ ?_
 rintro _ _ ⟨pre,m,hd,hml,hF,rfl⟩ K hN hE' hR
 obtain ⟨z,rfl⟩:=hF.fl rfl
 try dsimp only [fl,zz,qa,qb] at*
 clear hF hR
 by_cases h0:m=0
 ·subst h0
  clear hN
  rw [kB,M3] at hd
  simp+contextual only [show ((0:Int)<((0:Nat):Int))=False from by simp,↓dp,↓XP,qA]
  rw [<-hd]
  exact hE' _ _ _ (hE _ ⟨rfl,rfl,rfl,trivial⟩)
 ·rw [yV h0] at hd
  have hpl:pre.length<=8:=by rw [hd,Mi] at hl0;omega
  have e1:((m:Int)).tmod 256=((m % 256:Nat):Int):=rfl
  have e2:IntKind.i64.wrap ((m:Int).tdiv 256)=((m / 256:Nat):Int):=by
   rw [Go.IntWalk.i64_quo _ _ ⟨by omega,by omega,by omega⟩]
   omega
  have e3:IntKind.u8.wrap ((m % 256:Nat):Int)=((m % 256:Nat):Int):=gO (by omega) (by omega)
  simp+contextual only [show ((0:Int)<(m:Int))=True from by simp;omega,e1,e2,e3,show ((256:Int)=0)=False from by decide,↓dp,↓XP,ql,XW1,qc,qe]
  refine ⟨ji,by omega,?_⟩
  rw [gY (by omega),show [qh (UInt8.ofNat (m % 256))]= [UInt8.ofNat (m % 256)].map qh from rfl,<-Mo]
  refine hN _ _ ⟨pre++ [UInt8.ofNat (m % 256)],m / 256,by rw [hd];simp,by omega,⟨rfl,rfl,rfl,rfl,trivial⟩,(qL rfl).symm⟩ ?_
  simp only [Mc,Md]
  omega
theorem eZ:(if b=true then 255 - (x.toNat:Int) else (x.toNat:Int))=((j8 b x).toNat:Int):=by
 have:=x.toNat_lt
 cases b with
 |false=>rfl
 | true=>
  simp only [j8,if_true]
  rw [UInt8.toNat_sub_of_le _ _ (by rw [UInt8.le_iff_toNat_le];simp;omega)]
  simp
  omega
theorem VB {α:Type} {d:List α} {j:Nat} (h:j<d.length):(d.drop j).reverse=(d.drop (j+1)).reverse++ [d[j]]:=by
 rw [List.drop_eq_getElem_cons h,List.reverse_cons]
theorem lD {n:Int} {hd:UInt8} {d:List UInt8} {H:AH} {Q:AQ} {F:List D} (hl:d.length<=8) (hF:Fr 59 [(0,.i n),(4,.own (d.map qh)),(6,.own ([hd].map qh)),(7,.i ((d.length:Int) - 1))] F) (hE:∀F',Fr 59 [(6,.own ((hd::d.reverse.map (j8 (decide (n<0)))).map qh))] F'->Q (.exit 2) F' H):XW Tryz.prog (oV 40) F H Q:=by
 have hbig:=qn
 refine XW.loopK hmm (fun F H'=>∃(j:Nat),j<=d.length∧Fr 59 [(0,.i n),(4,.own (d.map qh)),(6,.own ((hd::(d.drop j).reverse.map (j8 (decide (n<0)))).map qh)),(7,.i ((j:Int) - 1))] F∧H=H') (fun F H=>match F.getD 7 .any with| .int _ n'=>(n'+1).toNat|_=>0) ⟨d.length,by omega,by rw [List.drop_length];exact hF,rfl⟩ ?_
 rintro _ _ ⟨j,hj,hF,rfl⟩ K hN hE' hR
 obtain ⟨z,rfl⟩:=hF.fl rfl
 try dsimp only [fl,zz,qa,qb] at*
 clear hF hR
 rcases j with _|j
 ·clear hN
  simp+contextual only [show ((0:Nat):Int) - 1= -1 from rfl,show (0<=(-1:Int))=False from by simp,↓dp,↓XP,qA]
  exact hE' _ _ _ (hE _ ⟨rfl,rfl,trivial⟩)
 ·have e0:((j+1:Nat):Int) - 1=(j:Int):=by omega
  have nx:∀F',Fr 59 [(0,.i n),(4,.own (d.map qh)),(6,.own ((hd::(d.drop j).reverse.map (j8 (decide (n<0)))).map qh)),(7,.i ((j:Int) - 1))] F'->K .normal F' H:=fun F' hF'=>hN _ _ ⟨j,by omega,hF',(qL rfl).symm⟩ (by
   rw [Ma,hF'.2.2.2.2.1]
   simp only [Mc,Md,Mf]
   omega)
  clear hN hE hE'
  rw [VB (show j<d.length by omega)] at nx
  rw [e0]
  have q1:(d.map qh).getD j []= [.int .u8 ((d[j].toNat:Nat):Int)]:=by
   simp [show j<d.length by omega,qh]
  have q2:=eZ (b:=decide (n<0)) (x:=d[j])
  have q3:=(d[j]).toNat_lt
  have hlen:(List.map qh (hd::(d.drop (j+1)).reverse.map (j8 (decide (n<0))))).length<=9:=by
   simp only [Ml,Mj,List.length_reverse,List.length_drop]
   omega
  have w1:IntKind.i64.wrap ((j:Int) - 1)=(j:Int) - 1:=qj (by omega) (by omega)
  generalize d[j]=x at nx q1 q2 q3
  have w2:IntKind.u8.wrap (255 - (x.toNat:Int))=255 - (x.toNat:Int):=gO (by omega) (by omega)
  simp only [Mo,List.map_cons,List.map_nil] at nx
  by_cases hn:n<0
  ·simp only [hn,decide_true,if_true] at q2 nx ⊢
   rw [q2] at w2
   have w2':IntKind.u8.wrap (255 - (x.toNat:Int))=((j8 true x).toNat:Int):=by rw [q2];exact w2
   simp+contextual only [q1,w1,w2',hn,↓dp,↓XP,ql,XW1,qc,qe]
   exact ⟨by omega,fun _=>⟨⟨rfl,ji⟩,by simp only [List.length_reverse,List.length_drop];omega,nx _ ⟨rfl,rfl,rfl,rfl,rfl,trivial⟩⟩⟩
  ·simp only [hn,decide_false,Bool.false_eq_true,if_false] at q2 nx ⊢
   simp+contextual only [q1,w1,hn,↓dp,↓XP,ql,XW1,qc,qe]
   exact ⟨by omega,fun _=>⟨⟨rfl,ji⟩,by simp only [List.length_reverse,List.length_drop];omega,nx _ ⟨rfl,rfl,rfl,rfl,rfl,trivial⟩⟩⟩
theorem bS {R:D->AH->Prop} (h:wS .i64 n->R (.own ((qv n).map qh)) H):ACall Tryz.prog 48 [.i n] H R:=by
 refine b48 fun hf=>?_
 have hbig:=qn
 have hin:wS .i64 n:=hf.1
 have hr:=hin
 rw [kX] at hr
 replace h:=h hin
 have hlen:=J0 hin
 have hm:=Ww hin
 obtain ⟨m0,hm0⟩:∃m0,mag n=m0:=⟨_,rfl⟩
 have hdl:(((digs m0).length:Nat):Int)<=8:=by rw [<-hm0];omega
 have w3:IntKind.i64.wrap (((digs m0).length:Int) - 1)=((digs m0).length:Int) - 1:=qj (by omega) (by omega)
 have hl9:(List.map qh (digs m0)).length=(digs m0).length:=Ml ..
 rw [qv,hm0] at h
 have hd9:(digs m0).length<=8:=by omega
 by_cases hn:n<0
 ·have w1:IntKind.i64.wrap (-1 - n)=((m0:Nat):Int):=by
   rw [qj (by omega) (by omega),<-hm0]
   unfold mag
   rw [if_pos hn]
   omega
  have hn2:¬(0<=n):=by omega
  have w4:IntKind.i64.wrap (127 - ((digs m0).length:Int))=((127 - (digs m0).length:Nat):Int):=by rw [qj (by omega) (by omega)];omega
  have w5:IntKind.u8.wrap ((127 - (digs m0).length:Nat):Int)=((127 - (digs m0).length:Nat):Int):=gO (by omega) (by omega)
  rw [if_pos hn] at h
  simp+contextual only [↓dp,w1,hn,↓dp,↓XP,qA,qa]
  refine cS (m0:=m0) (n:=n) (by omega) ⟨rfl,rfl,rfl,rfl,trivial⟩ (fun F' hF'=>?_)
  obtain ⟨z,rfl⟩:=hF'.fl rfl
  try dsimp only [fl,zz,qa,qb] at*
  simp+contextual only [w3,w4,w5,hl9,hn2,↓dp,↓XP,ql,XW1,qc,qe]
  refine fun _=>?_
  rw [gY (by omega)]
  refine lD (hd:=UInt8.ofNat (127 - (digs m0).length)) (d:=digs m0) (n:=n) hd9 ⟨rfl,rfl,rfl,rfl,rfl,trivial⟩ (fun F' hF'=>?_)
  obtain ⟨z,rfl⟩:∃z:Nat->D,_=(let d:=digs m0;let hd:=UInt8.ofNat (127 - (digs m0).length); [z 0,z 1,z 2,z 3,z 4,z 5,.own ((hd::d.reverse.map (j8 (decide (n<0)))).map qh),z 7,z 8,z 9,z 10,z 11,z 12,z 13,z 14,z 15,z 16,z 17,z 18,z 19,z 20,z 21,z 22,z 23,z 24,z 25,z 26,z 27,z 28,z 29,z 30,z 31,z 32,z 33,z 34,z 35,z 36,z 37,z 38,z 39,z 40,z 41,z 42,z 43,z 44,z 45,z 46,z 47,z 48,z 49,z 50,z 51,z 52,z 53,z 54,z 55,z 56,z 57,z 58]):=hF'.lit
  simp+contextual only [↓XP,qA,XW1]
  exact h
 ·have w1:n=((m0:Nat):Int):=by
   rw [<-hm0]
   unfold mag
   rw [if_neg hn]
   omega
  have hn2:0<=n:=by omega
  have w4:IntKind.i64.wrap (128+((digs m0).length:Int))=((128+(digs m0).length:Nat):Int):=by rw [qj (by omega) (by omega)];omega
  have w5:IntKind.u8.wrap ((128+(digs m0).length:Nat):Int)=((128+(digs m0).length:Nat):Int):=gO (by omega) (by omega)
  rw [if_neg hn] at h
  simp+contextual only [↓dp,hn,↓dp,↓XP,qA,qa]
  refine cS (m0:=m0) (n:=n) (by omega) (by refine ⟨rfl,rfl,?_,rfl,trivial⟩;show _=some (D.i (m0:Int));rw [<-w1];rfl) (fun F' hF'=>?_)
  obtain ⟨z,rfl⟩:=hF'.fl rfl
  try dsimp only [fl,zz,qa,qb] at*
  simp+contextual only [w3,w4,w5,hl9,hn2,↓dp,↓XP,ql,XW1,qc,qe]
  refine fun _=>?_
  rw [gY (by omega)]
  refine lD (hd:=UInt8.ofNat (128+(digs m0).length)) (d:=digs m0) (n:=n) hd9 ⟨rfl,rfl,rfl,rfl,rfl,trivial⟩ (fun F' hF'=>?_)
  obtain ⟨z,rfl⟩:∃z:Nat->D,_=(let d:=digs m0;let hd:=UInt8.ofNat (128+(digs m0).length); [z 0,z 1,z 2,z 3,z 4,z 5,.own ((hd::d.reverse.map (j8 (decide (n<0)))).map qh),z 7,z 8,z 9,z 10,z 11,z 12,z 13,z 14,z 15,z 16,z 17,z 18,z 19,z 20,z 21,z 22,z 23,z 24,z 25,z 26,z 27,z 28,z 29,z 30,z 31,z 32,z 33,z 34,z 35,z 36,z 37,z 38,z 39,z 40,z 41,z 42,z 43,z 44,z 45,z 46,z 47,z 48,z 49,z 50,z 51,z 52,z 53,z 54,z 55,z 56,z 57,z 58]):=hF'.lit
  simp+contextual only [↓XP,qA,XW1]
  exact h
theorem JY {l:List UInt8}:(l.map qh).length=l.length:=Ml ..
theorem Ux {n:Nat} (h:n<=140737488355328):wS .i64 (n:Int):=by rw [kX];omega
theorem vE {n:Nat} (h:n<=140737488355328):(qv (n:Int)).length<=9:=yh (Ux h)
theorem cB {R:D->AH->Prop} (hs:s.length<=3000000000) (h:R (.own ((qB s).map qh)) H):ACall Tryz.prog 113 [.str s] H R:=by
 refine EC fun hf=>?_
 have hbig:=qn
 have hl:=vE (n:=s.length) (by omega)
 simp+contextual only [↓U113,↓U113.1,↓XP,ql,qa]
 refine fun _=>bS fun _=>?_
 simp+contextual only [↓XP,ql]
 refine fun _ _=>⟨ji,ji,by omega,?_⟩
 rw [<-Mo]
 exact h
theorem GS (h:i<l.length):(ints l).getD i []= [.i (l.getD i 0)]:=by simp [ints,h]
theorem oT {α:Type} {l:List α} {f:α->List UInt8} {i:Nat} {d:α} (h:i<l.length):(l.take (i+1)).flatMap f=(l.take i).flatMap f++f (l.getD i d):=by
 rw [List.take_add_one,List.flatMap_append]
 simp [h]
theorem Qn:∀{l:List Int},(∀x∈l,wS .i64 x)->(l.flatMap qv).length<=9*l.length
 | [],_=>by simp
 | x::r,h=>by
  have h1:=yh (h x (.head _))
  have h2:=Qn (l:=r) (fun y hy=>h y (.tail _ hy))
  simp only [List.flatMap_cons,Mi,Mj]
  omega
theorem Qp:∀{l:List (List UInt8)} {c:Nat},(∀x∈l,x.length<=c)->c<=3000000000->(l.flatMap qB).length<=(9+c)*l.length
 | [],_,_,_=>by simp
 | x::r,c,h,hc=>by
  have h1:=vE (n:=x.length) (by have:=h x (.head _);omega)
  have h3:=h x (.head _)
  have h2:=Qp (l:=r) (fun y hy=>h y (.tail _ hy)) hc
  simp only [List.flatMap_cons,Mi,Mj,qB,Nat.mul_add,Nat.mul_one]
  omega
theorem GA (h:i<l.length):(strs l).getD i []= [.str (l.getD i [])]:=by simp [strs,h]
theorem ls (h:x<18446744073709551616):18446744073709551615 ^^^ x=18446744073709551615 - x:=by
 apply Nat.eq_of_testBit_eq
 intro i
 have e1:(18446744073709551615:Nat)=2 ^ 64 - 1:=rfl
 have e2:(18446744073709551615:Nat) - x=2 ^ 64 - (x+1):=by omega
 rw [Nat.testBit_xor,e2,e1,Nat.testBit_two_pow_sub_one,Nat.testBit_two_pow_sub_succ h]
 by_cases hi:i<64
 ·simp [hi]
 ·have:x.testBit i=false:=Nat.testBit_lt_two_pow (Mr (show x<2 ^ 64 from h) (Nat.pow_le_pow_right (by decide) (Nat.le_of_not_lt hi)))
  simp [hi,this]
theorem Hi (h:x<256):x ^^^ 255=255 - x:=by
 apply Nat.eq_of_testBit_eq
 intro i
 have e1:(255:Nat)=2 ^ 8 - 1:=rfl
 have e2:(255:Nat) - x=2 ^ 8 - (x+1):=by omega
 rw [Nat.testBit_xor,e2,e1,Nat.testBit_two_pow_sub_one,Nat.testBit_two_pow_sub_succ h]
 by_cases hi:i<8
 ·simp [hi]
 ·have:x.testBit i=false:=Nat.testBit_lt_two_pow (Mr (show x<2 ^ 8 from h) (Nat.pow_le_pow_right (by decide) (Nat.le_of_not_lt hi)))
  simp [hi,this]
def KE (b:Bool):Int:=if b=true then 255 else 0
theorem rr {b:Bool} {x:Nat} (h:x<256):bits .xor .u8 (x:Int) (KE b)=((j8 b (UInt8.ofNat x)).toNat:Int):=by
 cases b with
 | false=>
  have:=u8_xor_nat x 0 h (by omega)
  simp only [Nat.xor_zero] at this
  simp only [KE,j8,Bool.false_eq_true,if_false]
  rw [show ((0:Int))=((0:Nat):Int) from rfl,this,UInt8.toNat_ofNat',Nat.mod_eq_of_lt h]
 | true=>
  have:=u8_xor_nat x 255 h (by omega)
  rw [Hi h] at this
  have hx:(UInt8.ofNat x).toNat=x:=by rw [UInt8.toNat_ofNat',Nat.mod_eq_of_lt h]
  simp only [KE,j8,if_true]
  rw [show ((255:Int))=((255:Nat):Int) from rfl,this,UInt8.toNat_sub_of_le _ _ (by rw [UInt8.le_iff_toNat_le,hx];simp;omega),hx]
  simp
theorem Gb:∀(m k:Nat),(digs m).length<=k↔m<256 ^ k
 | m,0=>by
  by_cases hm:m=0
  ·subst hm;simp [kB]
  ·rw [yV hm];simp;omega
 | m,k+1=>by
  by_cases hm:m=0
  ·subst hm;simp [kB,Nat.pow_pos]
  ·rw [yV hm,Mj,Nat.succ_le_succ_iff,Gb (m / 256) k,Nat.div_lt_iff_lt_mul (by omega),Nat.pow_succ]
theorem V1:∀(i m:Nat),i<(digs m).length->(digs m).getD i 0=UInt8.ofNat (m / 256 ^ i % 256)
 | i,m,h=>by
  by_cases hm:m=0
  ·subst hm;simp [kB] at h
  ·rw [yV hm] at h ⊢
   cases i with
   |zero=>simp
   | succ i=>
    rw [Mc,V1 i (m / 256) (by simpa using h),Nat.div_div_eq_div_mul,Nat.pow_succ,Nat.mul_comm]
theorem ZK {m i:Nat} (hi:i<=8):((m:Int)).fdiv (2 ^ (min ((8*(i:Int)).toNat) IntKind.u64.bits))=((m / 256 ^ i:Nat):Int):=by
 have e1:(8*(i:Int)).toNat=8*i:=by omega
 have e2:min (8*i) IntKind.u64.bits=8*i:=by
  have:IntKind.u64.bits=64:=rfl
  omega
 rw [e1,e2,show (256:Nat)=2 ^ 8 from rfl,<-Nat.pow_mul]
 rw [Int.fdiv_eq_ediv_of_nonneg _ (by exact Int.le_of_lt (Int.pow_pos (by omega)))]
 norm_cast
theorem GH (h:wS .i64 n):IntKind.u64.wrap n=(if n<0 then n+18446744073709551616 else n):=by
 rw [kX] at h
 rw [IntKind.wrap_u64]
 split<;>omega
theorem dY:IntKind.u8.wrap ((x:Nat):Int)=((x % 256:Nat):Int):=by
 rw [IntKind.wrap_u8']
 omega
end Go.Proofs.YtgopigkdcmhbbaaGreatDoor
end
noncomputable section
namespace Go.Proofs.YtgopigkdcmhbbaaGreatDoor
open Go.Xs
open Go Go.Aw
def Qv:=yy Tryz.f22
def V22:=PLift.up (aI (aI (aI (@unf (Qv 41) (X (G [u,u,u,u,u,u,u,z 47,z 47,z 47,z 47,z 47,u,u,z 54,z 54,z 54,y 57,y 57,y 57,y 57,y 57,y 57,y 57,y 57,y 57,y 57,z 54,u]) (T (F [u]))) rfl) (aI (@unf (Qv 37) (X (O (R [v,u,v,u,u,u] (Qv 41))) (r [u,u])) rfl) (@unf (Qv 31) (R [u] (X I (Qv 37))) rfl))) (aI (@unf (Qv 64) (R [u,u,u] (T (F [u]))) rfl) (aI (@unf (Qv 60) (X (O (R [u,v,u,u] (Qv 64))) (r [u,u])) rfl) (@unf (Qv 54) (R [u] (X I (Qv 60))) rfl)))) (aI (aI (@unf (Qv 72) (X (R [u,u,u,u] (T (F [u]))) (F [u])) rfl) (aI (@unf (Qv 49) (X (R [u,u,u,u] (U (Qv 54))) (Qv 72)) rfl) (@unf (Qv 26) (X (R [u,u,u,u] (U (Qv 31))) (Qv 49)) rfl))) (aI (aI (@unf (Qv 18) (X (R [u,u,u,u] (T (F [u]))) (Qv 26)) rfl) (@unf (Qv 10) (X (R [u,u,u,u,u,z 23,z 23,z 23,z 23,u] (T (F [u]))) (Qv 18)) rfl)) (aI (@unf (Qv 2) (X (R [u,u,u,u,u,u,u,z 13,z 13,z 13,z 13,u] (T (F [u]))) (Qv 10)) rfl) (@unf (Qv 0) (R [u,u] (Qv 2)) rfl)))))
theorem iy:type_of% V22.down:=V22.down
theorem b22:Bt 22 86 (Qv 0) [(.tmp 2)]:=bt Tryz.func22 rfl
def C5:=yy Tryz.f43
def V43:=PLift.up (aI (@unf (C5 2) (F [u,u,u,y 7,y 7,v,u]) rfl) (@unf (C5 0) (R [u] (C5 2)) rfl))
theorem U43:type_of% V43.down:=V43.down
theorem b43:Bt 43 11 (C5 0) [(.tmp 4)]:=bt Tryz.func43 rfl
def Ct:=yy Tryz.f44
def V44:=PLift.up (aI (@unf (Ct 2) (F [u,u,u,u,y 10,y 10,y 10,v,u]) rfl) (@unf (Ct 0) (R [u] (Ct 2)) rfl))
theorem U44:type_of% V44.down:=V44.down
theorem b44:Bt 44 15 (Ct 0) [(.tmp 6)]:=bt Tryz.func44 rfl
def zl:=yy Tryz.f45
def V45:=PLift.up (aI (aI (aI (@unf (zl 51) (X (G [u,u,u,u,z 135,z 135,z 135,z 135,z 135,z 135,u,u,z 143,z 143,z 143,z 143,y 147,y 147,y 147,y 147,z 143,u]) (T (F [u]))) rfl) (@unf (zl 47) (X (O (R [v,u,v,u,u,u] (zl 51))) (r [u,u])) rfl)) (aI (@unf (zl 41) (R [u] (X I (zl 47))) rfl) (aI (@unf (zl 59) (F [u,u,u,u,z 158,z 158,z 158,z 158,z 158,v,u]) rfl) (@unf (zl 36) (X (R [u,u,u,u] (U (zl 41))) (zl 59)) rfl)))) (aI (aI (@unf (zl 28) (X (R [u,u,u,y 98,y 98,y 98,y 98,u,u,z 104,z 104,z 104,y 107,y 107,y 107,y 107,z 104,u,u,z 114,z 114,z 114,y 117,y 117,y 117,y 117,z 114,u] (T (F [u]))) (zl 36)) rfl) (aI (@unf (zl 20) (X (X (G [u,u,u,u,u,u,u,u,z 78,z 78,z 78,z 78,z 78,z 78,z 78,u,u,z 87,z 87,z 87,z 87,z 87,z 87,z 87,u]) (T (F [u]))) (zl 28)) rfl) (@unf (zl 12) (X (X (G [u,u,u,u,u,u,u,u,z 51,z 51,z 51,z 51,y 55,y 55,y 55,z 51,u,u,z 61,z 61,z 61,z 61,y 65,y 65,y 65,z 61,u]) (T (F [u]))) (zl 20)) rfl))) (aI (@unf (zl 4) (X (R [u,u,u,z 14,z 14,z 14,z 14,z 14,z 14,z 14,z 14,u,u,z 24,z 24,z 24,z 24,z 24,z 24,z 24,z 24,z 24,z 24,z 24,u,u,z 37,z 37,z 37,z 37,z 37,u] (T (F [u]))) (zl 12)) rfl) (aI (@unf (zl 2) (R [u,u,u,v,v,u,u,u] (zl 4)) rfl) (@unf (zl 0) (R [u,u] (zl 2)) rfl)))))
theorem U45:type_of% V45.down:=V45.down
theorem b45:Bt 45 165 (zl 0) [(.tmp 2)]:=bt Tryz.func45 rfl
def Cr:=yy Tryz.f28
def V28:=PLift.up (aI (@unf (Cr 4) (F [u,u,v,u]) rfl) (@unf (Cr 0) (R [u,u] (R [u,u] (Cr 4))) rfl))
theorem U28:type_of% V28.down:=V28.down
theorem b28:Bt 28 7 (Cr 0) [(.tmp 2)]:=bt Tryz.func28 rfl
def Y8:=yy Tryz.f89
def x89_c4:XC:=(.regT [4] [([f 71 1 3 56,l 67 56 57,e 67 57 58,Q .sub 3 58 1 59,b (.build 136 #[(0,(i 2)),(1,(i 4))]) 60,f 145 4 5 61],s (.store 3 (t 61) (i (-1))),false),([f 145 4 6 62],w 3 62 59,true)] [f 145 4 7 63] [w 136 63 60])
def x89_c5:XC:=(R [Q .eql 3 7 16 55,n 55 54] (C 54 x89_c4 (R [Q .eql 3 7 17 65,n 65 64] (Y8 74))))
def x89_s6:XC:=(C 50 (Y8 67) x89_c5)
def x89_s7:XC:=(C 46 (Y8 63) (R [Q .eql 3 7 15 51,n 51 50] x89_s6))
def x89_s8:XC:=(C 42 (Y8 59) (R [Q .eql 3 7 14 47,n 47 46] x89_s7))
def x89_s9:XC:=(C 38 (Y8 55) (R [Q .eql 3 7 13 43,n 43 42] x89_s8))
def x89_s10:XC:=(C 35 (.reg [f 145 4 4 37,s (.store 4 (t 37) (.const (.bool true)))]) (R [Q .eql 3 7 12 39,n 39 38] x89_s9))
def x89_s11:XC:=(C 32 (.reg [f 145 4 6 34,s (.store 3 (t 34) (i 1))]) (R [Q .eql 3 7 11 36,n 36 35] x89_s10))
def x89_s12:XC:=(C 29 (.reg [f 145 4 2 31,s (.store 4 (t 31) (.const (.bool true)))]) (R [Q .eql 3 7 9 33,n 33 32] x89_s11))
def x89_s13:XC:=(C 25 (.reg [f 145 4 3 28,s (.store 4 (t 28) (.const (.bool true)))]) (R [Q .eql 3 7 6 30,n 30 29] x89_s12))
def x89_c14:XC:=(.seq (R [Q .eql 3 7 5 26,n 26 25] (C 25 .skip (.reg [Q .eql 3 7 7 27,n 27 25]))) x89_s13)
def x89_c16:XC:=(.seq (R [Q .eql 3 7 2 21,n 21 20] (C 20 .skip (Y8 25))) (C 20 (.reg [f 145 4 6 24,s (.store 3 (t 24) (i 1048576))]) x89_c14))
def x89_s17:XC:=(C 12 (.reg [b (.build 145 #[(2,(.const (.bool true))),(3,(.const (.bool true))),(4,(.const (.bool true)))]) 14,w 145 4 14]) (R [Q .eql 3 7 4 16,n 16 15] (C 15 (Y8 19) x89_c16)))
def x89_s18:XC:=(C 9 (.reg [b (.build 145 #[(2,(.const (.bool true))),(3,(.const (.bool true)))]) 11,w 145 4 11]) (R [Q .eql 3 7 3 13,n 13 12] x89_s17))
def x89_s20:XC:=(.seq (R [f 71 1 0 6,l 3 6 7] (.block 0 (R [Q .eql 3 7 1 10,n 10 9] x89_s18))) (Y8 83))
def x89_s21:XC:=(R [b (.build 145 #[(0,(.const (.bool true)))]) 5,a (.alloc 145) 4,w 145 4 5] x89_s20)
def x89:XC:=(R [B 71 0 1,a (.alloc 145) 2,a (.assign (.const (.bool false))) 3] x89_s21)
def V89r:=PLift.up (aI (aI (@unf (Y8 67) (r [u,u,u,u]) rfl) (@unf (Y8 63) (r [u,u,u,u]) rfl)) (aI (@unf (Y8 59) (r [u,u,u,u]) rfl) (@unf (Y8 55) (r [u,u,u,u]) rfl)))
theorem DL:type_of% V89r.down:=V89r.down
def V89:=PLift.up (aI (aI (aI (aI (@unf (Y8 25) (R [v,u] (V .skip (r [v,u]))) rfl) (@unf (Y8 79) (r [v,u,u,u,u]) rfl)) (aI (@unf (Y8 78) (V (Y8 79) (F [v,u,u])) rfl) (aI (@unf (Y8 74) (V (r [u,u]) (R [v,u] (Y8 78))) rfl) (@unf _ _ x89_c4.eq_1)))) (aI (aI (@unf _ _ x89_c5.eq_1) (aI (@unf _ _ x89_s6.eq_1) (@unf _ _ x89_s7.eq_1))) (aI (@unf _ _ x89_s8.eq_1) (aI (@unf _ _ x89_s9.eq_1) (@unf _ _ x89_s10.eq_1))))) (aI (aI (aI (@unf _ _ x89_s11.eq_1) (@unf _ _ x89_s12.eq_1)) (aI (@unf _ _ x89_s13.eq_1) (aI (@unf _ _ x89_c14.eq_1) (@unf (Y8 19) (r [u,u,u,u,u,u]) rfl)))) (aI (aI (@unf _ _ x89_c16.eq_1) (aI (@unf _ _ x89_s17.eq_1) (@unf _ _ x89_s18.eq_1))) (aI (@unf (Y8 83) (F [v,u,u]) rfl) (aI (@unf _ _ x89_s20.eq_1) (@unf _ _ x89_s21.eq_1))))))
theorem U89:type_of% V89.down:=V89.down
theorem b89:Bt 89 73 x89 [(.cell 2 145),(.tmp 3)]:=bt Tryz.func89 rfl
def BV:=yy Tryz.f90
def V90:=PLift.up (aI (@unf (BV 2) (F [u,u,u,u,u,u,y 8,y 8,y 8,v,u]) rfl) (@unf (BV 0) (R [u,u] (BV 2)) rfl))
theorem U90:type_of% V90.down:=V90.down
theorem b90:Bt 90 13 (BV 0) [(.tmp 2)]:=bt Tryz.func90 rfl
def Cv:=yy Tryz.f91
def V91:=PLift.up (aI (@unf (Cv 2) (F [u,u,u,u,y 6,y 6,y 6,y 6,y 6,u,u,y 13,y 13,y 13,v,u]) rfl) (@unf (Cv 0) (R [u,u] (Cv 2)) rfl))
theorem U91:type_of% V91.down:=V91.down
theorem b91:Bt 91 18 (Cv 0) [(.tmp 2)]:=bt Tryz.func91 rfl
def Cf:=yy Tryz.f92
def V92:=PLift.up (aI (@unf (Cf 2) (F [u,u,u,v,u]) rfl) (@unf (Cf 0) (R [u,u] (Cf 2)) rfl))
theorem U92:type_of% V92.down:=V92.down
theorem b92:Bt 92 9 (Cf 0) [(.tmp 4)]:=bt Tryz.func92 rfl
def KJ:=yy Tryz.f120
def V120:=PLift.up (aI (aI (@unf (KJ 17) (X (G [u,u,u,u,u,u]) (T (F [v,u]))) rfl) (@unf (KJ 13) (X (O (R [v,u] (KJ 17))) (r [u,u])) rfl)) (aI (@unf (KJ 7) (R [u] (X I (KJ 13))) rfl) (aI (@unf (KJ 2) (X (R [u,u,u] (U (KJ 7))) (F [u])) rfl) (@unf (KJ 0) (R [u,u] (KJ 2)) rfl))))
theorem bX:type_of% V120.down:=V120.down
theorem Dr:Bt 120 19 (KJ 0) [(.tmp 4)]:=bt Tryz.func120 rfl
def zR:=yy Tryz.f42
def x42_s8:XC:=(.seq (.gh (.reg [f 71 8 1 55,l 66 55 56,k2 85 9 56 139 66 57])) (zR 46))
def x42_s9:XC:=(R [f 71 8 0 51,l 3 51 52,a (.call ⟨(.builtin .real),#[t 52],#[22]⟩) 53,b (.build 139 #[(0,(t 53))]) 54,a (.alloc 139) 9,w 139 9 54] x42_s8)
def x42_s10:XC:=(.seq (.block 3 (.seq (zR 41) x42_s9)) (.reg [q .add 3 47 1 93,m 93 47]))
theorem ld:type_of% (@unf _ _ x42_s10.eq_1):=unf x42_s10.eq_1
def x42_L11:XC:=(R [p .lss 3 47 46 48] (.seq (C 48 .skip (.exit 2)) x42_s10))
def x42_s13:XC:=(.seq (.seq (zR 29) (.block 2 (.loop x42_L11))) (zR 58))
def x42_s14:XC:=(.seq (zR 26) x42_s13)
def x42_s15:XC:=(.seq (zR 24) x42_s14)
def x42_s16:XC:=(.seq (.seq (zR 8) (.block 0 (.loop (zR 11)))) x42_s15)
def x42_s17:XC:=(.seq (zR 3) (R [Z 4] x42_s16))
def x42:XC:=(R [B 26 0 1,Z 2] x42_s17)
def V42r:=PLift.up (aI (aI (@unf (zR 41) (r [u,v,u,u]) rfl) (aI (@unf (zR 29) (r [u,u,u,u]) rfl) (@unf (zR 26) (r [x,u,u,u,u,v,u]) rfl))) (aI (@unf (zR 24) (r [x,u,u,v,u]) rfl) (aI (@unf (zR 8) (r [u,u,u,u]) rfl) (@unf (zR 3) (r [u,u,u,u,u,u,u,v,u]) rfl))))
theorem vV:type_of% V42r.down:=V42r.down
def V42:=PLift.up (aI (aI (aI (aI (@unf (zR 21) (r [x,u,u,u,u,u,v,u]) rfl) (@unf (zR 17) (X (O (R [u,v,u,u] (zR 21))) (r [u,u])) rfl)) (aI (@unf (zR 11) (R [u] (X I (zR 17))) rfl) (@unf (zR 56) (r [x,u,u,u,u,u,u,v,u]) rfl))) (aI (aI (@unf (zR 54) (R [x,u,u,u,v,u] (zR 56)) rfl) (@unf (zR 52) (R [u,u,u,u] (zR 54)) rfl)) (aI (@unf (zR 48) (R [x,u,x,u,u,u,u,u,u,u,u,u,u,u,v,u] (R [u] (zR 52))) rfl) (aI (@unf (zR 46) (R [u,u,u] (zR 48)) rfl) (@unf _ _ x42_s8.eq_1))))) (aI (aI (aI (@unf _ _ x42_s9.eq_1) (@unf _ _ x42_s10.eq_1)) (aI (@unf _ _ x42_L11.eq_1) (@unf (zR 58) (F [x,u,u,u,v,u]) rfl))) (aI (aI (@unf _ _ x42_s13.eq_1) (@unf _ _ x42_s14.eq_1)) (aI (@unf _ _ x42_s15.eq_1) (aI (@unf _ _ x42_s16.eq_1) (@unf _ _ x42_s17.eq_1))))))
theorem Z0:type_of% V42.down:=V42.down
theorem b42:Bt 42 99 x42 [(.tmp 2)]:=bt Tryz.func42 rfl
def aP:=yy Tryz.f84
def V84:=PLift.up (aI (aI (@unf (aP 19) (r [x,u,u,v,u]) rfl) (aI (@unf (aP 15) (X (O (R [u,v,u] (aP 19))) (r [u,u])) rfl) (@unf (aP 9) (R [u] (X I (aP 15))) rfl))) (aI (@unf (aP 4) (X (R [u,u,u] (U (aP 9))) (F [v,u])) rfl) (aI (@unf (aP 2) (R [u,u,v,u] (aP 4)) rfl) (@unf (aP 0) (R [u] (aP 2)) rfl))))
theorem tf:type_of% V84.down:=V84.down
theorem b84:Bt 84 21 (aP 0) [(.tmp 2)]:=bt Tryz.func84 rfl
def QK:=yy Tryz.f64
def V64:=PLift.up (aI (aI (aI (@unf (QK 8) (T (r [u,v,u,u])) rfl) (aI (@unf (QK 31) (r [u,v,u]) rfl) (@unf (QK 24) (O (X (R [u,u,u,u,u,u] (T (.exit _))) (QK 31))) rfl))) (aI (@unf (QK 18) (X (R [u,u] I) (QK 24)) rfl) (aI (@unf (QK 48) (r [u,v,u]) rfl) (@unf (QK 45) (X (O (r [x,u,u,u,u,u,u,u,u,v,u])) (QK 48)) rfl)))) (aI (aI (@unf (QK 39) (X (R [u,u] I) (QK 45)) rfl) (aI (@unf (QK 34) (X (R [u,v,u] (U (QK 39))) (F [v,u])) rfl) (@unf (QK 32) (R [u,u,u,u,u,v,u] (QK 34)) rfl))) (aI (@unf (QK 5) (X (R [u,u] (QK 8)) (R [u] (X .skip (X (U (QK 18)) (QK 32))))) rfl) (aI (@unf (QK 2) (.scope (R [u,v,u,u] (QK 5))) rfl) (@unf (QK 0) (R [u] (QK 2)) rfl)))))
theorem ct:type_of% V64.down:=V64.down
theorem b64:Bt 64 47 (QK 0) [(.tmp 2)]:=bt Tryz.func64 rfl
def x85_s0:XC:=(.regT [0] [([m 0 4,m 0 5,a (.nilCheck (t 5)) 6,f 139 6 0 7],c (.load 22 (t 7)) 8,false)] [f 66 3 0 9,l 3 9 10,f 66 3 1 11,l 3 11 12,f 66 3 2 13,l 3 13 14,a (.buildSlice 22 3 #[(0,(t 10)),(1,(t 12)),(2,(t 14))]) 15,b (.call ⟨(.builtin .append),#[t 8,t 15],#[22,22]⟩) 16,a (.nilCheck (t 4)) 17,f 139 17 0 18] [w 22 18 16])
theorem bW:type_of% (@unf _ _ x85_s0.eq_1):=unf x85_s0.eq_1
def Dp:XC:=(R [B 66 1 3] x85_s0)
theorem b85:Bt 85 19 Dp []:=bt Tryz.func85 rfl
def aO:=yy Tryz.f87
def V87:=PLift.up (aI (aI (@unf (aO 19) (r [x,u,u,v,u]) rfl) (aI (@unf (aO 15) (X (O (R [u,v,u] (aO 19))) (r [u,u])) rfl) (@unf (aO 9) (R [u] (X I (aO 15))) rfl))) (aI (@unf (aO 4) (X (R [u,u,u] (U (aO 9))) (F [v,u])) rfl) (aI (@unf (aO 2) (R [u,u,v,u] (aO 4)) rfl) (@unf (aO 0) (R [u] (aO 2)) rfl))))
theorem BC:type_of% V87.down:=V87.down
theorem b87:Bt 87 21 (aO 0) [(.tmp 2)]:=bt Tryz.func87 rfl
def BR:=yy Tryz.f88
def V88:=PLift.up (aI (@unf (BR 2) (F [u,u,x,u,v,u]) rfl) (@unf (BR 0) (R [u] (BR 2)) rfl))
theorem U88:type_of% V88.down:=V88.down
theorem b88:Bt 88 8 (BR 0) [(.tmp 2)]:=bt Tryz.func88 rfl
def sN:=yy Tryz.f29
def V29:=PLift.up (aI (@unf (sN 10) (F [x,u,v,u]) rfl) (aI (@unf (sN 2) (X (R [u,u] (T (F [u]))) (sN 10)) rfl) (@unf (sN 0) (R [u] (sN 2)) rfl)))
theorem U29:type_of% V29.down:=V29.down
theorem b29:Bt 29 8 (sN 0) [(.tmp 2)]:=bt Tryz.func29 rfl
def sU:=yy Tryz.f31
def V31:=PLift.up (aI (@unf (sU 10) (F [x,u,v,u]) rfl) (aI (@unf (sU 2) (X (R [u,u] (T (F [u]))) (sU 10)) rfl) (@unf (sU 0) (R [u] (sU 2)) rfl)))
theorem U31:type_of% V31.down:=V31.down
theorem b31:Bt 31 8 (sU 0) [(.tmp 2)]:=bt Tryz.func31 rfl
end Go.Proofs.YtgopigkdcmhbbaaGreatDoor
end
section
namespace Go.Proofs.YtgopigkdcmhbbaaGreatDoor
open Go Go.Aw
variable {R:D->AH->Prop}
theorem mc (hm:(digs m0).length<=8) (hF:Fr 47 [(3,.int .u64 (m0:Int)),(4,.int .u8 (KE b)),(5,.i 8)] F) (hE:∀F',Fr 47 [(3,.int .u64 (m0:Int)),(4,.int .u8 (KE b)),(5,.i ((digs m0).length:Int))] F'->Q (.exit 0) F' H):XW Tryz.prog (QK 18) F H Q:=by
 have hbig:=qn
 refine XW.loopK hmm (fun F H'=>∃(k:Nat),k<=8∧(digs m0).length<=k∧Fr 47 [(3,.int .u64 (m0:Int)),(4,.int .u8 (KE b)),(5,.i (k:Int))] F∧H=H') (fun F H=>match F.getD 5 .any with| .int _ n'=>n'.toNat|_=>0) ⟨8,by omega,hm,hF,rfl⟩ ?_
 rintro _ _ ⟨k,hk,hd,hF,rfl⟩ K hN hE' hR
 obtain ⟨z,rfl⟩:=hF.fl rfl
 try dsimp only [fl,zz,qa,qb] at*
 clear hF hR
 rcases k with _|k
 ·clear hN
  have hd0:(digs m0).length=0:=by omega
  simp+contextual only [show (0<((0:Nat):Int))=False from by simp,↓ct,↓XP,qA]
  exact hE' _ _ _ (hE _ (by rw [hd0];exact ⟨rfl,rfl,rfl,rfl,trivial⟩))
 ·have w1:IntKind.i64.wrap (((k+1:Nat):Int) - 1)=(k:Int):=by rw [qj (by omega) (by omega)];omega
  have w2:IntKind.i64.wrap (8*(k:Int))=8*(k:Int):=qj (by omega) (by omega)
  have w3:=ZK (m:=m0) (i:=k) (by omega)
  have hc:=Gb m0 k
  by_cases hle:(digs m0).length<=k
  ·have hz:m0 / 256 ^ k=0:=Nat.div_eq_of_lt (hc.1 hle)
   rw [hz] at w3
   simp+contextual only [show (0<((k+1:Nat):Int))=True from qC,w1,w2,w3,show (0<=8*(k:Int))=True from qC,show (0<((0:Nat):Int))=False from by simp,↓ct,↓XP,qA]
   refine hN _ _ ⟨k,by omega,hle,⟨rfl,rfl,rfl,rfl,trivial⟩,(qL rfl).symm⟩ ?_
   simp only [Mc,Md]
   omega
  ·have hp:0<m0 / 256 ^ k:=by
    refine Nat.div_pos ?_ (Nat.pow_pos (by omega))
    have:=mt hc.2 hle
    omega
   have hlen:(digs m0).length=k+1:=by omega
   clear hN
   simp+contextual only [show (0<((k+1:Nat):Int))=True from qC,w1,w2,w3,show (0<=8*(k:Int))=True from qC,show (0<((m0 / 256 ^ k:Nat):Int))=True from qC,↓ct,↓XP,qA,qf]
   exact hE' _ _ _ (hE _ (by rw [hlen];exact ⟨rfl,rfl,rfl,rfl,trivial⟩))
theorem lK (hm:(digs m0).length<=8) (hF:Fr 47 [(3,.int .u64 (m0:Int)),(4,.int .u8 (KE b)),(6,.own ([hd].map qh)),(7,.i (((digs m0).length:Int) - 1))] F) (hE:∀F',Fr 47 [(6,.own ((hd::(digs m0).reverse.map (j8 b)).map qh))] F'->Q (.exit 2) F' H):XW Tryz.prog (QK 39) F H Q:=by
 have hbig:=qn
 refine XW.loopK hmm (fun F H'=>∃(j:Nat),j<=(digs m0).length∧Fr 47 [(3,.int .u64 (m0:Int)),(4,.int .u8 (KE b)),(6,.own ((hd::((digs m0).drop j).reverse.map (j8 b)).map qh)),(7,.i ((j:Int) - 1))] F∧H=H') (fun F H=>match F.getD 7 .any with| .int _ n'=>(n'+1).toNat|_=>0) ⟨(digs m0).length,by omega,by rw [List.drop_length];exact hF,rfl⟩ ?_
 rintro _ _ ⟨j,hj,hF,rfl⟩ K hN hE' hR
 obtain ⟨z,rfl⟩:=hF.fl rfl
 try dsimp only [fl,zz,qa,qb] at*
 clear hF hR
 rcases j with _|j
 ·clear hN
  simp+contextual only [show ((0:Nat):Int) - 1= -1 from rfl,show (0<=(-1:Int))=False from by simp,↓ct,↓XP,qA]
  exact hE' _ _ _ (hE _ ⟨rfl,rfl,trivial⟩)
 ·have e0:((j+1:Nat):Int) - 1=(j:Int):=by omega
  have nx:∀F',Fr 47 [(3,.int .u64 (m0:Int)),(4,.int .u8 (KE b)),(6,.own ((hd::((digs m0).drop j).reverse.map (j8 b)).map qh)),(7,.i ((j:Int) - 1))] F'->K .normal F' H:=fun F' hF'=>hN _ _ ⟨j,by omega,hF',(qL rfl).symm⟩ (by
   rw [Ma,hF'.2.2.2.2.1]
   simp only [Mc,Md,Mf]
   omega)
  clear hN hE hE'
  rw [VB (show j<(digs m0).length by omega)] at nx
  rw [e0]
  have q1:(digs m0)[j]=UInt8.ofNat (m0 / 256 ^ j % 256):=by
   rw [<-V1 j m0 (by omega),Ma,Mb (show j<(digs m0).length by omega)]
   rfl
  have hlen:(List.map qh (hd::((digs m0).drop (j+1)).reverse.map (j8 b))).length<=9:=by
   simp only [Ml,Mj,List.length_reverse,List.length_drop]
   omega
  have w1:IntKind.i64.wrap ((j:Int) - 1)=(j:Int) - 1:=qj (by omega) (by omega)
  have w2:IntKind.i64.wrap (8*(j:Int))=8*(j:Int):=qj (by omega) (by omega)
  have w3:=ZK (m:=m0) (i:=j) (by omega)
  have w4:=dY (x:=m0 / 256 ^ j)
  have w5:=rr (b:=b) (x:=m0 / 256 ^ j % 256) (Nat.mod_lt _ (by omega))
  rw [<-q1] at w5
  rw [q1] at nx
  rw [q1] at w5
  simp only [Mo,List.map_cons,List.map_nil] at nx
  simp+contextual only [show (0<=(j:Int))=True from qC,w1,w2,w3,w4,w5,show (0<=8*(j:Int))=True from qC,↓ct,↓XP,ql,XW1,qc,qe]
  exact ⟨⟨rfl,ji⟩,by simp only [List.length_reverse,List.length_drop];omega,nx _ ⟨rfl,rfl,rfl,rfl,rfl,trivial⟩⟩
theorem zN (h:wS .i64 n->R (.own ((qv n).map qh)) H):ACall Tryz.prog 64 [.i n] H R:=by
 refine b64 fun hf=>?_
 have hbig:=qn
 have hin:wS .i64 n:=hf.1
 have hr:=hin
 rw [kX] at hr
 replace h:=h hin
 have hlen:=J0 hin
 have hm:=Ww hin
 obtain ⟨m0,hm0⟩:∃m0,mag n=m0:=⟨_,rfl⟩
 rw [qv,hm0] at h
 rw [hm0] at hlen hm
 have w0:=GH hin
 have w3:IntKind.i64.wrap (((digs m0).length:Int) - 1)=((digs m0).length:Int) - 1:=qj (by omega) (by omega)
 have w4:IntKind.i64.wrap (128+((digs m0).length:Int))=((128+(digs m0).length:Nat):Int):=by rw [qj (by omega) (by omega)];omega
 have w5:IntKind.u8.wrap ((128+(digs m0).length:Nat):Int)=((128+(digs m0).length:Nat):Int):=gO (by omega) (by omega)
 have w6:=fun c=>rr (b:=c) (x:=128+(digs m0).length) (by omega)
 by_cases hn:n<0
 ·have e1:n+18446744073709551616=((18446744073709551615 - m0:Nat):Int):=by
   have:m0=(-1 - n).toNat:=by rw [<-hm0,mag,if_pos hn]
   omega
  have ux:bits .xor .u64 (if IntKind.u64.signed=true then -1 else IntKind.u64.max) ((18446744073709551615 - m0:Nat):Int)=((m0:Nat):Int):=by
   rw [show (if IntKind.u64.signed=true then (-1:Int) else IntKind.u64.max)=((18446744073709551615:Nat):Int) from rfl,u64_xor_nat _ _ (by omega) (by omega),ls (by omega)]
   omega
  rw [if_pos hn] at h w0
  rw [e1] at w0
  rw [show 127 - (digs m0).length=(j8 true (UInt8.ofNat (128+(digs m0).length))).toNat from by
   rw [j8,if_pos rfl,UInt8.toNat_sub_of_le _ _ (by rw [UInt8.le_iff_toNat_le,UInt8.toNat_ofNat'];simp;omega),UInt8.toNat_ofNat']
   simp
   omega,UInt8.ofNat_toNat,decide_eq_true hn] at h
  simp+contextual only [↓ct,w0,hn,ux,↓ct,↓XP,ql,qa]
  refine mc (b:=true) (m0:=m0) (by omega) ⟨rfl,rfl,rfl,rfl,trivial⟩ (fun F' hF'=>?_)
  obtain ⟨z,rfl⟩:∃z:Nat->D,_=(let b:=true; [z 0,z 1,z 2,.int .u64 (m0:Int),.int .u8 (KE b),.i ((digs m0).length:Int),z 6,z 7,z 8,z 9,z 10,z 11,z 12,z 13,z 14,z 15,z 16,z 17,z 18,z 19,z 20,z 21,z 22,z 23,z 24,z 25,z 26,z 27,z 28,z 29,z 30,z 31,z 32,z 33,z 34,z 35,z 36,z 37,z 38,z 39,z 40,z 41,z 42,z 43,z 44,z 45,z 46]):=hF'.lit
  simp+contextual only [w3,w4,w5,w6,↓ct,↓XP,ql,XW1,qc,qe]
  rw [gY (UInt8.toNat_lt _),UInt8.ofNat_toNat]
  refine lK (b:=true) (m0:=m0) (hd:=j8 true (UInt8.ofNat (128+(digs m0).length))) (by omega) ⟨rfl,rfl,rfl,rfl,rfl,trivial⟩ (fun F' hF'=>?_)
  obtain ⟨z,rfl⟩:∃z:Nat->D,_=(let b:=true;let hd:=j8 true (UInt8.ofNat (128+(digs m0).length)); [z 0,z 1,z 2,z 3,z 4,z 5,.own ((hd::(digs m0).reverse.map (j8 b)).map qh),z 7,z 8,z 9,z 10,z 11,z 12,z 13,z 14,z 15,z 16,z 17,z 18,z 19,z 20,z 21,z 22,z 23,z 24,z 25,z 26,z 27,z 28,z 29,z 30,z 31,z 32,z 33,z 34,z 35,z 36,z 37,z 38,z 39,z 40,z 41,z 42,z 43,z 44,z 45,z 46]):=hF'.lit
  simp+contextual only [↓XP,qA,XW1]
  exact h
 ·have e1:n=((m0:Nat):Int):=by rw [<-hm0,mag,if_neg hn];omega
  rw [if_neg hn] at h w0
  rw [show 128+(digs m0).length=(j8 false (UInt8.ofNat (128+(digs m0).length))).toNat from by
   rw [j8,if_neg (by simp),UInt8.toNat_ofNat']
   omega,UInt8.ofNat_toNat,decide_eq_false hn] at h
  replace w0:IntKind.u64.wrap n=(m0:Int):=w0.trans e1
  simp+contextual only [↓ct,w0,hn,↓ct,↓XP,ql,qa]
  refine mc (b:=false) (m0:=m0) (by omega) ⟨rfl,rfl,rfl,rfl,trivial⟩ (fun F' hF'=>?_)
  obtain ⟨z,rfl⟩:∃z:Nat->D,_=(let b:=false; [z 0,z 1,z 2,.int .u64 (m0:Int),.int .u8 (KE b),.i ((digs m0).length:Int),z 6,z 7,z 8,z 9,z 10,z 11,z 12,z 13,z 14,z 15,z 16,z 17,z 18,z 19,z 20,z 21,z 22,z 23,z 24,z 25,z 26,z 27,z 28,z 29,z 30,z 31,z 32,z 33,z 34,z 35,z 36,z 37,z 38,z 39,z 40,z 41,z 42,z 43,z 44,z 45,z 46]):=hF'.lit
  simp+contextual only [w3,w4,w5,w6,↓ct,↓XP,ql,XW1,qc,qe]
  rw [gY (UInt8.toNat_lt _),UInt8.ofNat_toNat]
  refine lK (b:=false) (m0:=m0) (hd:=j8 false (UInt8.ofNat (128+(digs m0).length))) (by omega) ⟨rfl,rfl,rfl,rfl,rfl,trivial⟩ (fun F' hF'=>?_)
  obtain ⟨z,rfl⟩:∃z:Nat->D,_=(let b:=false;let hd:=j8 false (UInt8.ofNat (128+(digs m0).length)); [z 0,z 1,z 2,z 3,z 4,z 5,.own ((hd::(digs m0).reverse.map (j8 b)).map qh),z 7,z 8,z 9,z 10,z 11,z 12,z 13,z 14,z 15,z 16,z 17,z 18,z 19,z 20,z 21,z 22,z 23,z 24,z 25,z 26,z 27,z 28,z 29,z 30,z 31,z 32,z 33,z 34,z 35,z 36,z 37,z 38,z 39,z 40,z 41,z 42,z 43,z 44,z 45,z 46]):=hF'.lit
  simp+contextual only [↓XP,qA,XW1]
  exact h
theorem JP (hs:s.length<=3000000000) (h:R (.own ((qB s).map qh)) H):ACall Tryz.prog 88 [.str s] H R:=by
 refine b88 fun hf=>?_
 have hbig:=qn
 have hl:=vE (n:=s.length) (by omega)
 simp+contextual only [↓U88,↓U88.1,↓XP,ql,qa]
 refine fun _=>zN fun _=>?_
 simp+contextual only [↓XP,ql]
 refine fun _=>⟨ji,by omega,?_⟩
 rw [<-Mo]
 exact h
theorem gu (hl:l.length<=30000000) (h:(qN l).length<=9+9*l.length->R (.own ((qN l).map qh)) H):ACall Tryz.prog 84 [.slc (ints l)] H R:=by
 refine b84 fun hf=>?_
 have hbig:=qn
 have hle:=vE (n:=l.length) (by omega)
 simp+contextual only [↓tf,jq,↓tf,↓XP,ql,qa]
 refine fun _=>zN fun _=>?_
 simp+contextual only [jq,↓tf,↓XP,ql]
 refine fun _ _=>XW.loopK hmm (fun F H'=>∃(i:Nat),i<=l.length∧(∀x∈l.take i,wS .i64 x)∧Fr 21 [(3,.own ((qv l.length++(l.take i).flatMap qv).map qh)),(9,.slc (ints l)),(10,.i l.length),(11,.i i)] F∧H=H') (fun F H=>match F.getD 11 .any with| .int _ n'=>l.length - n'.toNat|_=>0) ⟨0,by omega,by simp,by simp only [List.take_zero,List.flatMap_nil,M3];exact ⟨rfl,rfl,rfl,rfl,rfl,trivial⟩,rfl⟩ ?_
 rintro _ _ ⟨i,hi,hr,hF,rfl⟩ K hN hE hR
 obtain ⟨z,rfl⟩:=hF.fl rfl
 try dsimp only [fl,zz,qa,qb] at*
 clear hF hR
 by_cases hlt:i<l.length
 ·have nx:wS .i64 (l.getD i 0)->∀F',Fr 21 [(3,.own ((qv l.length++(l.take i).flatMap qv++qv (l.getD i 0)).map qh)),(9,.slc (ints l)),(10,.i l.length),(11,.i ((i+1:Nat):Int))] F'->K .normal F' H:=fun hx F' hF'=>hN _ _ ⟨i+1,hlt,fun x hx'=>by
   rw [List.take_add_one] at hx'
   rcases List.mem_append.1 hx' with hx'|hx'
   ·exact hr x hx'
   ·simp [hlt] at hx'
    rw [hx']
    simpa [hlt] using hx,by rw [oT (d:=0) hlt,<-Mp];exact hF',(qL rfl).symm⟩ (by
   rw [Ma,hF'.2.2.2.2.1]
   simp only [Mc,Md,Mf]
   omega)
  clear hN hE
  have q1:=GS (l:=l) hlt
  have hfl:=Qn hr
  rw [Mz] at hfl
  generalize l.getD i 0=x at q1 nx
  have hal:(qv (l.length:Int)++(l.take i).flatMap qv).length<=9+9*i:=by rw [Mi];omega
  generalize qv (l.length:Int)++(l.take i).flatMap qv=ac at nx hal ⊢
  simp+contextual only [jq,hlt,Int.ofNat_lt,q1,↓tf,↓XP,ql]
  refine fun hx=>zN fun _=>?_
  have hxl:=yh hx
  simp+contextual only [qm (show i<=big by omega),↓XP,ql]
  refine fun _=>⟨ji,ji,by omega,?_⟩
  rw [<-Mo]
  exact nx hx _ ⟨rfl,rfl,rfl,rfl,rfl,trivial⟩
 ·have hik:i=l.length:=by omega
  subst hik
  clear hN
  simp+contextual only [↓tf,↓XP,qA]
  refine hE _ _ _ ?_
  rw [List.take_length] at hr ⊢
  simp+contextual only [↓XP,qA,XW1]
  refine h ?_
  have:=Qn hr
  rw [qN,Mi]
  omega
theorem Z7 (hl:l.length<=1000) (hs:∀x∈l,x.length<=3000000) (h:R (.own ((yE l).map qh)) H):ACall Tryz.prog 87 [.slc (strs l)] H R:=by
 refine b87 fun hf=>?_
 have hbig:=qn
 have hle:=vE (n:=l.length) (by omega)
 simp+contextual only [↓BC,jc,↓BC,↓XP,ql,qa]
 refine fun _=>zN fun _=>?_
 simp+contextual only [jc,↓BC,↓XP,ql]
 refine fun _ _=>XW.loopK hmm (fun F H'=>∃(i:Nat),i<=l.length∧Fr 21 [(3,.own ((qv l.length++(l.take i).flatMap qB).map qh)),(9,.slc (strs l)),(10,.i l.length),(11,.i i)] F∧H=H') (fun F H=>match F.getD 11 .any with| .int _ n'=>l.length - n'.toNat|_=>0) ⟨0,by omega,by simp only [List.take_zero,List.flatMap_nil,M3];exact ⟨rfl,rfl,rfl,rfl,rfl,trivial⟩,rfl⟩ ?_
 rintro _ _ ⟨i,hi,hF,rfl⟩ K hN hE hR
 obtain ⟨z,rfl⟩:=hF.fl rfl
 try dsimp only [fl,zz,qa,qb] at*
 clear hF hR
 by_cases hlt:i<l.length
 ·have nx:∀F',Fr 21 [(3,.own ((qv l.length++(l.take i).flatMap qB++qB (l.getD i [])).map qh)),(9,.slc (strs l)),(10,.i l.length),(11,.i ((i+1:Nat):Int))] F'->K .normal F' H:=fun F' hF'=>hN _ _ ⟨i+1,hlt,by rw [oT (d:= []) hlt,<-Mp];exact hF',(qL rfl).symm⟩ (by
   rw [Ma,hF'.2.2.2.2.1]
   simp only [Mc,Md,Mf]
   omega)
  clear hN hE
  have q1:=GA (l:=l) hlt
  have hfl:=Qp (l:=l.take i) (c:=3000000) (fun x hx=>hs x (List.mem_of_mem_take hx)) (by omega)
  have hx1:(l.getD i []).length<=3000000:=hs _ (by rw [jJ hlt];exact List.getElem_mem hlt)
  rw [Mz] at hfl
  generalize l.getD i []=x at q1 nx hx1
  have hal:(qv (l.length:Int)++(l.take i).flatMap qB).length<=9+3000009*1000:=by
   rw [Mi]
   have:(9+3000000)*min i l.length<=3000009*1000:=Nat.mul_le_mul_left _ (by omega)
   omega
  generalize qv (l.length:Int)++(l.take i).flatMap qB=ac at nx hal ⊢
  simp+contextual only [jc,hlt,Int.ofNat_lt,q1,↓BC,↓XP,ql]
  refine fun _=>JP (by omega) ?_
  have hxl:(qB x).length<=9+3000000:=by
   have:=vE (n:=x.length) (by omega)
   simp only [qB,Mi]
   omega
  simp+contextual only [qm (show i<=big by omega),↓XP,ql]
  refine fun _=>⟨ji,ji,by omega,?_⟩
  rw [<-Mo]
  exact nx _ ⟨rfl,rfl,rfl,rfl,rfl,trivial⟩
 ·have hik:i=l.length:=by omega
  subst hik
  clear hN
  simp+contextual only [↓BC,↓XP,qA]
  refine hE _ _ _ ?_
  rw [List.take_length]
  simp+contextual only [↓XP,qA,XW1]
  exact h
def vU (s:Str) (l:List (List UInt8)):Str:=l.foldl (fun s p=>yo s (qB p)) s
def FD (c:UInt8) (l:List (List UInt8)):Str:=vU (yo beg [c]) l
def BH (c:UInt8) (l:List (List UInt8)):List UInt8:=(gX (FD c l)).take 16
theorem UB {s:Str} {l:List (List UInt8)} {i:Nat} (h:i<l.length):vU s (l.take (i+1))=yo (vU s (l.take i)) (qB (l.getD i [])):=by
 have:l.take (i+1)=l.take i++ [l.getD i []]:=by rw [List.take_add_one,Mb h];simp [List.getD,Mb h]
 rw [this,vU,List.foldl_append]
 rfl
theorem gz (h:x.length<=100000000):(qB x).length<=x.length+9:=by
 have:=vE (n:=x.length) (by omega)
 simp only [qB,Mi]
 omega
theorem WY:∀(l:List (List UInt8)) (s:Str),s.blk.length=64->(∀x∈l,x.length<=100000000)->(vU s l).blk.length=64∧(vU s l).n<=s.n+l.length*100000009
 | [],s,hb,_=>⟨hb,by simp [vU]⟩
 | x::l,s,hb,hx=>by
  obtain ⟨a1,a2⟩:=wO _ s (qB x) (Ms _) hb
  obtain ⟨b1,b2⟩:=WY l (yo s (qB x)) a1 (fun y hy=>hx y (.tail _ hy))
  have hl:=gz (hx x (.head _))
  have hxl:=hx x (.head _)
  refine ⟨b1,Mq b2 ?_⟩
  rw [Mj,Nat.succ_mul]
  omega
theorem EL {tag:Int} {c:UInt8} {l:List (List UInt8)} {H:AH} (hg:Kst H) (ht:IntKind.u8.wrap tag=(c.toNat:Int)) (hl:l.length<=100) (hs:∀x∈l,x.length<=100000000) (h:R (.agg (jr (BH c l))) H):
  ACall Tryz.prog 95 [.i tag,.slc (strs l)] H R:=by
 refine b95 fun hf=>?_
 have hbig:=qn
 simp+contextual only [x95,↓sR,↓XP,ql,qa,qb]
 intro b4 h4
 refine ⟨_,fun _ _=>Wt ⟨rfl,rfl⟩,?_⟩
 simp+contextual only [Nat.mul_one,ht,show wn [.int .u8 (c.toNat:Int)]=True from eq_true (isb [c] _ (.head _)),show unbyte [.int .u8 (c.toNat:Int)]=c from by have:=unb [c];simpa [qh] using this,↓XP,ql,XW1,qe]
 intro _
 have l0:=wO _ beg [c] (Ms _) oU
 rw [Ye] at l0
 refine ⟨_,fun H1 hs1=>Ji ((hg.push h4).sub hs1) oU (by rw [Ye];simp;omega) ⟨rfl,rfl⟩,?_⟩
 rw [BH,FD] at h
 generalize yo beg [c]=s0 at l0 h
 obtain ⟨l01,l02⟩:=l0
 rw [List.length_singleton] at l02
 simp+contextual only [Nat.reduceLT,yv l01,jc,↓sR,↓XP,ql,XW1,qb]
 intro b5 h5 _
 obtain ⟨n54,f5⟩:=h5
 refine XW.loopS hmm 32 (fun i:Nat=>[(1,.slc (strs l)),(4,.ptr b4 0),(5,.ptr b5 0),(15,.slc (strs l)),(16,.i (l.length:Int)),(17,.i ((i:Nat):Int))]) (fun i=>(b5,.cells (vU s0 (l.take i)).D)::(b4,.cells (barr 16 []))::H) (fun i=>l.length - i) (fun i=>i<=l.length) 0 (Nat.zero_le _) ⟨rfl,rfl,rfl,rfl,rfl,rfl,rfl,trivial⟩ rfl ?_
 intro i z hi K hN hE hR
 dsimp only [fl,zz,qa,qb]
 have hq:=WY (l.take i) s0 l01 (fun x hx=>hs x (List.mem_of_mem_take hx))
 have htl:(l.take i).length<=100:=by rw [Mz];omega
 have hK:Kst ((b5,.cells (vU s0 (l.take i)).D)::(b4,.cells (barr 16 []))::H):=(Kst.push hg h4).push ⟨Ne.symm n54,f5⟩
 by_cases hlt:i<l.length
 ·have hlt':((i:Int)<(l.length:Int))=True:=qC
  have hp:=UB (s:=s0) hlt
  have hx:(l.getD i []).length<=100000000:=hs _ (by rw [List.getD,Mb hlt];exact List.getElem_mem hlt)
  have hg1:=kn hlt
  generalize vU s0 (l.take i)=q at hq hp hK
  generalize l.getD i []=x at hp hx hg1
  obtain ⟨hq1,hq2⟩:=hq
  have hq3:q.n<=20000000000:=by omega
  simp+contextual only [hlt',jc,hg1,yv hq1,J1 hq1,J7,↓sR,↓XP,ql]
  refine fun _=>?_
  refine ⟨_,fun _ _=>JP (by omega) ⟨rfl,rfl⟩,?_⟩
  simp+contextual only [unb,↓XP,ql,XW1]
  refine fun _=>⟨isb _,?_⟩
  have hel:=gz hx
  refine ⟨_,fun H1 hs1=>Ji (hK.sub hs1) hq1 (by omega) ⟨rfl,rfl⟩,?_⟩
  have hq4:=wO _ q (qB x) (Ms _) hq1
  generalize yo q (qB x)=q2 at hq4 hp
  obtain ⟨hq5,hq6⟩:=hq4
  simp+contextual only [yv hq5,yv hq1,show q.D.drop 73= [] from List.drop_of_length_le (by rw [yv hq1];exact Ms _),↓XP,ql,XW1]
  rw [qm (by omega)]
  exact hN (i+1) _ _ (by omega) (by omega) ⟨rfl,rfl,rfl,rfl,rfl,rfl,rfl,trivial⟩ (by show back _ _=(b5,AO.cells (vU s0 (l.take (i+1))).D)::(b4,AO.cells (barr 16 []))::H;rw [hp];exact qL rfl)
 ·have hil:l.take i=l:=Mt (by omega)
  have hlt':((i:Int)<(l.length:Int))=False:=qY
  rw [hil] at hq hK ⊢
  generalize vU s0 l=q at hq hK h
  obtain ⟨hq1,hq2⟩:=hq
  simp+contextual only [hlt',↓sR,↓XP,qA]
  apply hE
  simp+contextual only [yv hq1,J1 hq1,J7,↓sR,↓XP,ql,XW1]
  refine bF hK hq1 (by omega) ?_
  have hsl:=Jl q
  generalize gX q=sm at h hsl
  simp+contextual only [Nat.mul_one,Nat.sub_zero,Mu,Mv,Mg,qg,qi,n54,qx,hsl,↓sR,↓J5,ql,XW1,qb,qe,↓XH]
  intro b8 h8
  obtain ⟨n85,n84,f8⟩:=h8
  have hst:(jr sm).take 16=jr (sm.take 16):=by simp [jr,List.map_take]
  have hs2:(sm.take 16).length=16:=by simp [hsl]
  generalize sm.take 16=s2 at h hst hs2
  simp+contextual only [qx,hst,hs2,jp,qZ hs2,show (barr 16 []).drop 16= [] from rfl,show (barr 16 []).length=16 from rfl,qA,XW1]
  exact h
theorem iE (l:List UInt8) (c:UInt8):l.map qh++ [[.int .u8 (c.toNat:Int)]]=(l++ [c]).map qh:=WL l c
theorem G8 {l:List UInt8} {i:Nat} (h:i<l.length):l.take i++ [l.getD i 0]=l.take (i+1):=by
 rw [List.take_add_one,Mb h];simp [List.getD,Mb h]
theorem nh {d:List UInt8} {H:AH} (hd:d.length=16) (h:R (.str d) H):ACall Tryz.prog 47 [.agg (jr d)] H R:=by
 refine b47 fun hf=>?_
 have hbig:=qn
 simp+contextual only [↓BZ,↓BZ,↓XP,qA,qa]
 intro b1 h1
 refine XW.loopS hmm 17 (fun i:Nat=>[(1,.ptr b1 0),(3,.own ((d.take ((i:Nat))).map qh)),(4,.i (i:Int))]) (fun _=>(b1,.cells (jr d))::H) (fun i=>16 - i) (fun i=>i<=16) 0 (Nat.zero_le _) ⟨rfl,rfl,rfl,rfl,trivial⟩ rfl ?_
 intro i z hi K hN hE hR
 dsimp only [fl,zz,qa,qb]
 by_cases hlt:i<16
 ·have hlt':((i:Int)<16)=True:=qC
  have g:=Wb (l:=d) (i:=i) (by omega)
  unfold bD at g
  simp+contextual only [Nat.mul_one,Mg,bq,iE,hlt',g,G8 (l:=d) (i:=i) (by omega),↓BZ,↓XP,ql,XW1,qe]
  rw [qm (by omega)]
  refine ⟨Zo _,?_,hN (i+1) _ _ (by omega) (by omega) ⟨rfl,rfl,rfl,rfl,trivial⟩ (qL rfl)⟩
  rw [Mz];omega
 ·have hi2:i=16:=by omega
  have hlt':((i:Int)<16)=False:=qY
  simp+contextual only [hlt',↓BZ,↓XP,qA]
  apply hE
  rw [hi2,Mt (by omega:d.length<=16)]
  simp+contextual only [Mg,unb,↓XP,ql,XW1]
  exact ⟨isb _,fun _=>h⟩
def YD (k t:List UInt8):List UInt8:=JB (oM k 0x5c++JB (oM k 0x36++t))
theorem cv (a b:List UInt8):a.map qh++b.map qh=(a++b).map qh:=by simp
def inp (c:UInt8) (l:List (List UInt8)):List UInt8:=c::l.flatMap qB
theorem Qo:∀(l:List (List UInt8)),(∀x∈l,x.length<=100000000)->(l.flatMap qB).length<=l.length*100000009
 | [],_=>by simp
 | x::l,h=>by
  have h1:=gz (h x (.head _))
  have h2:=h x (.head _)
  have h3:=Qo l fun y hy=>h y (.tail _ hy)
  rw [List.flatMap_cons,Mi,Mj,Nat.succ_mul]
  omega
theorem dA {c:UInt8} {l:List (List UInt8)} {i:Nat} (h:i<l.length):inp c (l.take i)++qB (l.getD i [])=inp c (l.take (i+1)):=by
 have:l.take (i+1)=l.take i++ [l.getD i []]:=by rw [List.take_add_one,Mb h];simp [List.getD,Mb h]
 rw [this]
 simp [inp]
theorem io {tag:Int} {c:UInt8} {l:List (List UInt8)} {H:AH} (ht:IntKind.u8.wrap tag=(c.toNat:Int)) (hl:l.length<=30) (hs:∀x∈l,x.length<=100000000) (h:R (.own ((inp c l).map qh)) H):
  ACall Tryz.prog 94 [.i tag,.slc (strs l)] H R:=by
 refine b94 fun hf=>?_
 have hbig:=qn
 simp+contextual only [↓xk,Nat.mul_one,ht,↓xk,↓XP,ql,XW1,qa,qb,qe]
 refine XW.loopS hmm 24 (fun i:Nat=>[(1,.slc (strs l)),(5,.own ((inp c (l.take ((i:Nat)))).map qh)),(6,.i (i:Int))]) (fun _=>H) (fun i=>l.length - i) (fun i=>i<=l.length) 0 (Nat.zero_le _) ⟨rfl,rfl,rfl,rfl,trivial⟩ rfl ?_
 intro i z hi K hN hE hR
 dsimp only [fl,zz,qa,qb]
 by_cases hlt:i<l.length
 ·have hlt':((i:Int)<(l.length:Int))=True:=qC
  have hx:l.getD i []∈l:=by rw [List.getD,Mb hlt];exact List.getElem_mem hlt
  have hg1:=kn hlt
  have hst:=dA (c:=c) hlt
  have hel:=gz (hs _ hx)
  have hxl:=hs _ hx
  have hfl:=Qo (l.take i) fun y hy=>hs y (List.mem_of_mem_take hy)
  have htl:(l.take i).length<=30:=by rw [Mz];omega
  have hil:(inp c (l.take i)).length<=1+30*100000009:=by
   show (l.take i|>.flatMap qB).length+1<=_
   have:=Nat.mul_le_mul_right 100000009 htl
   omega
  generalize l.getD i []=x at hg1 hst hel hxl
  simp+contextual only [jc,hlt',hg1,↓xk,↓XP,ql]
  refine fun _ _=>cB (by omega) ?_
  simp+contextual only [Nat.mul_one,cv,hst,↓xk,↓XP,ql]
  rw [qm (by omega)]
  exact fun _=>⟨Zo _,Zo _,by omega,hN (i+1) _ _ (by omega) (by omega) ⟨rfl,rfl,rfl,rfl,trivial⟩ (qL rfl)⟩
 ·have hi2:l.take i=l:=Mt (by omega)
  have hlt':((i:Int)<(l.length:Int))=False:=qY
  simp+contextual only [jc,hlt',↓xk,↓XP,ql]
  refine fun _=>?_
  apply hE
  rw [hi2]
  simp+contextual only [↓XP,qA,XW1]
  exact h
theorem aJ {n:Nat} {l:List UInt8} {i:Nat} (hi:i<n) (hl:i<l.length):(barr n (l.take i)).set i (.int .u8 ((l.getD i 0).toNat:Int))=barr n (l.take (i+1)):=by
 have h1:(l.take i).length=i:=by rw [Mz];omega
 have h2:=Kk (n:=n) (l:=l.take i) (c:=l.getD i 0) (by omega)
 rw [h1,G8 hl] at h2
 exact h2
def zK (m:List UInt8):List UInt8:=(JB m).take 16
theorem JM (m:List UInt8):(zK m).length=16:=by simp [zK,Ju]
theorem dO {m:List UInt8} {H:AH} (hg:Kst0 H) (hm:m.length<=4294967296) (h:R (.agg (jr (zK m))) H):ACall Tryz.prog 93 [.slc (m.map qh)] H R:=by
 refine b93 fun hf=>?_
 have hbig:=qn
 simp+contextual only [↓B6,↓B6,↓XP,ql,qa]
 intro b2 h2
 refine my (hg.push h2) hm ?_
 have hl:=Ju m
 rw [show zK m=(JB m).take 16 from rfl] at h
 generalize JB m=s at hl h
 simp+contextual only [qx,hl,↓B6,↓XP,ql,XW1,qb]
 intro b3 h3 b4 h4
 obtain ⟨n32,f3⟩:=h3
 obtain ⟨n43,n42,f4⟩:=h4
 refine XW.loopS hmm 19 (fun i:Nat=>[(2,.ptr b2 0),(3,.ptr b3 0),(4,.ptr b4 0),(5,.i ((i:Nat):Int))]) (fun i=>(b4,.cells (barr 16 (s.take i)))::(b3,.cells (jr s))::(b2,.cells (barr 16 []))::H) (fun i=>16 - i) (fun i=>i<=16) 0 (Nat.zero_le _) ⟨rfl,rfl,rfl,rfl,rfl,trivial⟩ rfl ?_
 intro i z hi K hN hE hR
 dsimp only [fl,zz,qa,qb]
 by_cases hlt:i<16
 ·have hlt':((i:Int)<16)=True:=qC
  have hlt2:((i:Int)<32)=True:=qC
  have g:=Wb (l:=s) (i:=i) (by omega)
  have g2:=aJ (n:=16) (l:=s) (i:=i) hlt (by omega)
  have g3:(barr 16 (s.take i)).length=16:=Jm (by rw [Mz];omega)
  unfold bD at g
  simp+contextual only [Nat.mul_one,Mg,bq,qg,n43,hlt',hlt2,g,g2,g3,↓B6,↓XP,ql,XW1]
  rw [qm (by omega)]
  exact ⟨hlt,hN (i+1) _ _ (by omega) (by omega) ⟨rfl,rfl,rfl,rfl,rfl,trivial⟩ (qL rfl)⟩
 ·have hi2:i=16:=by omega
  have hlt':((i:Int)<16)=False:=qY
  simp+contextual only [hlt',↓B6,↓XP,qA]
  apply hE
  have hs2:(s.take 16).length=16:=by simp [hl]
  rw [hi2]
  generalize s.take 16=s2 at hs2 h
  simp+contextual only [Mg,qx,qg,qi,n32,n42,Qd hs2,hs2,jp,qZ hs2,show (barr 16 []).drop 16= [] from rfl,show (barr 16 []).length=16 from rfl,↓XP,ql,XW1]
  exact h
def ky (c:UInt8) (l:List (List UInt8)):List UInt8:=zK (inp c l)
theorem xB (hg:Kst0 H) (ht:IntKind.u8.wrap tag=(c.toNat:Int)) (hl:l.length<=30) (hs:∀x∈l,x.length<=100000000) (h:R (.agg (jr (ky c l))) H):
  ACall Tryz.prog 46 [.i tag,.slc (strs l)] H R:=by
 refine b46 fun hf=>?_
 have hbig:=qn
 simp+contextual only [↓U46,↓U46.1,↓XP,ql,qa,qb]
 intro b4 h4
 refine io ht hl hs ?_
 simp+contextual only [↓XP,qA]
 intro _
 have hfl:=Qo l hs
 have hil:(inp c l).length<=1+30*100000009:=by
  show (l.flatMap qB).length+1<=_
  have:=Nat.mul_le_mul_right 100000009 hl
  omega
 refine dO (hg.push h4) (by omega) ?_
 rw [show ky c l=zK (inp c l) from rfl] at h
 have hsl:=JM (inp c l)
 generalize zK (inp c l)=s at hsl h
 simp+contextual only [qx,hsl,jp,qZ hsl,↓XP,ql,XW1,qb]
 exact h
structure IsS (s:Str) (m:List UInt8):Prop where
 st:s.st=oQ iv m (m.length / 64)
 n:s.n=m.length
 len:s.blk.length=64
 blk:s.blk.take (m.length % 64)=m.drop (64*(m.length / 64))
theorem JF:∀(k:Nat),64*k<=m.length->oQ iv (m++t) k=oQ iv m k
 |0,_=>rfl
 | k+1,h=>by
  have ih:=JF (m:=m) (t:=t) k (by omega)
  show vT (oQ iv (m++t) k) (((m++t).drop (64*k)).take 64)=vT (oQ iv m k) ((m.drop (64*k)).take 64)
  rw [ih,List.drop_append_of_le_length (by omega),List.take_append_of_le_length (by rw [List.length_drop];omega)]
theorem Wx:IsS beg []:=⟨rfl,rfl,rfl,rfl⟩
theorem dR (h:IsS s m) (ht:t≠ []):IsS (vL s t) (m++t.take (ym s t)):=by
 have hp:=oR (s:=s) ht
 have hk:=YN (s:=s) (t:=t)
 have hn:=h.n
 have hkd:ym s t=min t.length (64 - m.length % 64):=by rw [ym,hn]
 have ha:=Nat.mod_lt m.length (show 0<64 by decide)
 have hdm:=Nat.div_add_mod m.length 64
 have htl:(t.take (ym s t)).length=ym s t:=by rw [Mz];omega
 have hml:(m++t.take (ym s t)).length=m.length+ym s t:=by rw [Mi,htl]
 have hbl:(s.blk.take (m.length % 64)).length=m.length % 64:=by rw [Mz,h.len];omega
 have hbS:wx s t=s.blk.take (m.length % 64)++(t.take (64 - m.length % 64)++s.blk.drop (m.length % 64+ym s t)):=by rw [wx,hn]
 refine ⟨?_,?_,Kr h.len t,?_⟩
 ·show (if s.n % 64+ym s t=64 then vT s.st (wx s t) else s.st)=_
  rw [hml,hn]
  by_cases hc:m.length % 64+ym s t=64
  ·rw [if_pos hc]
   have hq:(m.length+ym s t) / 64=m.length / 64+1:=by omega
   rw [hq]
   show _=vT (oQ iv (m++t.take (ym s t)) (m.length / 64)) (((m++t.take (ym s t)).drop (64*(m.length / 64))).take 64)
   rw [JF _ (by omega),<-h.st]
   congr 1
   rw [hbS,List.drop_append_of_le_length (by omega),<-h.blk,hc,List.drop_of_length_le (by rw [h.len];exact Ms _),M3,Mt (l:=s.blk.take (m.length % 64)++t.take (ym s t)) (by rw [Mi,hbl,htl];omega),show 64 - m.length % 64=ym s t by omega]
  ·rw [if_neg hc]
   have hq:(m.length+ym s t) / 64=m.length / 64:=by omega
   rw [hq,JF _ (by omega)]
   exact h.st
 ·show s.n+ym s t=_
  rw [hml,hn]
 ·show (wx s t).take _=_
  rw [hml,hbS]
  by_cases hc:m.length % 64+ym s t=64
  ·have hq:(m.length+ym s t) / 64=m.length / 64+1:=by omega
   have hr:(m.length+ym s t) % 64=0:=by omega
   rw [hq,hr,List.take_zero,List.drop_of_length_le (by rw [hml];omega)]
  ·have hq:(m.length+ym s t) / 64=m.length / 64:=by omega
   have hr:(m.length+ym s t) % 64=m.length % 64+ym s t:=by omega
   have hkt:ym s t=t.length:=by omega
   rw [hq,hr,List.drop_append_of_le_length (by omega),<-h.blk,<-Mp,List.take_append_of_le_length (by rw [Mi,hbl,Mz];omega)]
   rw [Mt (l:=s.blk.take (m.length % 64)++t.take (64 - m.length % 64)) (by rw [Mi,hbl,Mz];omega),Mt (by omega:t.length<=64 - m.length % 64),hkt,List.take_length]
theorem uS:∀(k:Nat) {s:Str} {m t:List UInt8},t.length<=k->IsS s m->IsS (yo s t) (m++t):=by
 intro k
 induction k with
 | zero=>
  intro s m t h hs
  obtain rfl:=List.eq_nil_of_length_eq_zero (Nat.le_zero.1 h)
  rw [M3]
  exact hs
 | succ k ih=>
  intro s m t h hs
  by_cases ht:t= []
  ·subst ht;rw [M3];exact hs
  ·have hp:=oR (s:=s) ht
   rw [Qb ht]
   have:=ih (s:=vL s t) (m:=m++t.take (ym s t)) (t:=t.drop (ym s t)) (by rw [List.length_drop];omega) (dR hs ht)
   rwa [Mp,List.take_append_drop] at this
theorem W4 (h:IsS s m):gX s=JB m:=by
 have h2:=uS _ (t:=gm m.length) (Ms _) h
 rw [gX,h.n,JB,h2.st]
 congr 2
 rw [Mi,JQ,<-Nat.add_assoc]
theorem Vk:∀(l:List (List UInt8)) {s:Str} {m:List UInt8},IsS s m->IsS (vU s l) (m++l.flatMap qB)
 | [],s,m,h=>by simpa [vU] using h
 | x::l,s,m,h=>by
  have h2:=Vk l (uS _ (t:=qB x) (Ms _) h)
  rw [Mp] at h2
  rwa [List.flatMap_cons]
theorem Bb (c:UInt8) (l:List (List UInt8)):BH c l=ky c l:=by
 have h1:=uS _ (t:= [c]) (Ms _) Wx
 rw [M4] at h1
 have h2:=Vk l h1
 rw [BH,FD,W4 h2]
 rfl
theorem rg (k t:List UInt8):l9 k t=YD k t:=by
 have h1:=uS _ (t:=oM k 0x36) (Ms _) Wx
 rw [M4] at h1
 have h2:=W4 (uS _ (t:=t) (Ms _) h1)
 have h3:=uS _ (t:=oM k 0x5c) (Ms _) Wx
 rw [M4] at h3
 rw [l9,AJ,h2,W4 (uS _ (t:=JB (oM k 0x36++t)) (Ms _) h3)]
 rfl
theorem WZ (hg:Kst H) (ht:IntKind.u8.wrap tag=(c.toNat:Int)) (hl:l.length<=30) (hs:∀x∈l,x.length<=100000000) (h:R (.agg (jr (ky c l))) H):
  ACall Tryz.prog 95 [.i tag,.slc (strs l)] H R:=EL hg ht (by omega) hs (by rw [Bb];exact h)
theorem kR (c:UInt8) (l:List (List UInt8)):(ky c l).length=16:=JM _
theorem ew (hl:l.length<=1000) (h:(qN l).length<=9+9*l.length->R (.str (qN l)) H):ACall Tryz.prog 96 [.slc (ints l)] H R:=by
 refine b96 fun hf=>?_
 have hbig:=qn
 simp+contextual only [↓U96,↓U96.1,↓XP,qA,qa]
 refine gu (by omega) fun hel=>?_
 simp+contextual only [unb,↓XP,ql,XW1]
 exact fun _=>⟨isb _,h hel⟩
theorem KV (hl:l.length<=100) (h:∀x∈l,wS .i64 x):(qN l).length<=909:=by
 have h1:=vE (n:=l.length) (by omega)
 have h2:∀(l:List Int),(∀x∈l,wS .i64 x)->(l.flatMap qv).length<=l.length*9:=by
  intro l
  induction l with
  |nil=>intro _;simp
  | cons x l ih=>
   intro h
   have:=yh (h x (.head _))
   have:=ih fun y hy=>h y (.tail _ hy)
   rw [List.flatMap_cons,Mi,Mj,Nat.succ_mul]
   omega
 have:=h2 l h
 simp only [qN,Mi]
 omega
def wU (i c:Int) (v:List UInt8) (f:Int):Nat->List UInt8
 |0=>v
 |n+1=>ky 8 [qN [i,c,f+n],wU i c v f n]
theorem u9 (h:v.length=16):∀n,(wU i c v f n).length=16
 |0=>h
 |n+1=>kR _ _
theorem GR {i c f:Int} {n:Nat} {v:List UInt8} {H:AH} (hg:Kst H) (hv:v.length=16) (hf0:0<=f) (hfn:f+n<=1000) (h:R (.agg (jr (wU i c v f n))) H):
  ACall Tryz.prog 55 [.i i,.i c,.i f,.i (f+n),.agg (jr v)] H R:=by
 refine b55 fun hf=>?_
 have hbig:=qn
 simp+contextual only [↓AA,↓AA,↓XP,ql,XW1,qa,qb]
 intro b9 h9 KF h10
 obtain ⟨n19,f10⟩:=h10
 refine XW.loopS hmm 28 (fun k:Nat=>[(0,.i i),(1,.i c),(3,.i (f+(n:Nat))),(9,.ptr b9 0),(10,.ptr KF 0),(11,.i (f+(k:Nat)))]) (fun k=>(KF,.cells (barr 16 []))::(b9,.cells (jr (wU i c v f k)))::H) (fun k=>n - k) (fun k=>k<=n) 0 (Nat.zero_le _) ?_ rfl ?_
 ·rw [show f+((0:Nat):Int)=f by omega]
  exact ⟨rfl,rfl,rfl,rfl,rfl,rfl,rfl,trivial⟩
 intro k z hk K hN hE hR
 dsimp only [fl,zz,qa,qb]
 have hal:=u9 (i:=i) (c:=c) (f:=f) hv k
 have hs1:wU i c v f (k+1)=ky 8 [qN [i,c,f+k],wU i c v f k]:=rfl
 have hh:k=n->R (.agg (jr (wU i c v f k))) H:=fun e=>by rw [e];exact h
 generalize wU i c v f k=w at hal hs1 hh
 by_cases hlt:k<n
 ·have hlt':(f+(k:Int)<f+(n:Int))=True:=qC
  simp+contextual only [Nat.mul_one,hlt',↓AA,↓XP,ql,XW1,qe]
  have hK:Kst ((KF,.cells (barr 16 []))::(b9,.cells (jr w))::H):=(hg.push h9).push ⟨Ne.symm n19,f10⟩
  refine ⟨_,fun _ _=>ew (l:= [i,c,f+k]) (by simp) fun _=>⟨rfl,rfl⟩,?_⟩
  simp+contextual only [qx,Nat.mul_one,Nat.sub_zero,qg,n19,hal,qZ hal,zQ,↓J5,ql,XW1,qe,↓XH]
  refine fun he=>⟨od _,fun _=>?_⟩
  refine ⟨_,fun H1 hs=>WZ (c:=8) (l:= [qN [i,c,f+k],w]) (hK.sub hs) (by decide) (by simp) (fun x hx=>?_) ⟨rfl,rfl⟩,?_⟩
  ·simp only [Mx,M7,or_false] at hx
   rcases hx with rfl|rfl
   ·refine Mq (KV (l:= [i,c,f+k]) (by simp) fun x hx=>?_) (by decide)
    simp only [Mx,M7,or_false] at hx
    rcases hx with rfl|rfl|rfl
    ·exact hf.1
    ·exact hf.2.1
    ·rw [kX];omega
   ·omega
  rw [<-hs1]
  have hal2:=kR 8 [qN [i,c,f+k],w]
  rw [<-hs1] at hal2
  simp+contextual only [qx,qg,qi,n19,hal,hal2,show (jr w).drop 16= [] from List.drop_of_length_le (by rw [qx,hal];exact Ms _),↓AA,↓XP,ql,XW1]
  rw [show IntKind.i64.wrap (f+(k:Int)+1)=f+((k+1:Nat):Int) by rw [qj (by omega) (by omega)];omega]
  exact hN (k+1) _ _ (by omega) (by omega) ⟨rfl,rfl,rfl,rfl,rfl,rfl,rfl,trivial⟩ (qL rfl)
 ·have hkn:k=n:=by omega
  have hlt':(f+(k:Int)<f+(n:Int))=False:=qY
  have h:=hh hkn
  simp+contextual only [hlt',↓AA,↓XP,qA]
  apply hE
  simp+contextual only [qx,qg,n19,hal,qZ hal,jp,show (barr 16 []).drop 16= [] from rfl,show (barr 16 []).length=16 from rfl,↓XP,ql,XW1]
  exact h
theorem ZC (l:List UInt8):(l.map qh).flatten=jr l:=by
 induction l with
 |nil=>rfl
 |cons x l ih=>simp only [List.map_cons,List.flatten_cons,ih,jr];rfl
theorem mE (hg:Kst H) (hk:k.length<=64) (ht:t.length<=4294967296) (h:R (.str (YD k t)) H):ACall Tryz.prog 103 [.str k,.str t] H R:=Bl hg hk ht (by rw [rg];exact h)
theorem Y4 (k t:List UInt8):(YD k t).length=32:=Ju _
def Q5:List UInt8:= [99,104,97,105,110]
def yQ (seed:List UInt8) (i c:Int):List UInt8:=(YD seed (Q5++qN [i,c])).take 16
theorem uM (seed:List UInt8) (i c:Int):(yQ seed i c).length=16:=by simp [yQ,Y4]
theorem Zp (hg:Kst H) (hs:seed.length<=64) (h:R (.agg (jr (yQ seed i c))) H):ACall Tryz.prog 65 [.str seed,.i i,.i c] H R:=by
 refine b65 fun hf=>?_
 have hbig:=qn
 simp+contextual only [↓U65,Nat.mul_one,↓U65.1,↓XP,ql,XW1,qa,qb,qe]
 intro b6 h6
 refine ew (l:= [i,c]) (by simp) fun hel=>?_
 have hl2:([i,c]:List Int).length=2:=rfl
 rw [hl2] at hel
 intro _
 refine ⟨by simp;omega,?_⟩
 refine mE (t:=Q5++qN [i,c]) (hg.push h6) hs (by simp [Q5];omega) ?_
 rw [show yQ seed i c=(YD seed (Q5++qN [i,c])).take 16 from rfl] at h
 have hl:=Y4 seed (Q5++qN [i,c])
 generalize YD seed (Q5++qN [i,c])=m at hl h
 have hm:(m.take 16).length=16:=by simp [hl]
 simp+contextual only [Mu,Mv,Mg,hl,↓XP,ql,qb,↓XH]
 generalize m.take 16=w at hm h ⊢
 have hw:(w.map qh).take 16=w.map qh:=Mt (by simp [hm])
 intro _ _
 simp+contextual only [qx,hm,hw,ZC,qZ hm,jp,qA,XW1]
 exact ⟨fun x hx=>by obtain ⟨y,_,rfl⟩:=List.mem_map.1 hx;rfl,h⟩
theorem Uw (hg:Kst H) (ha:a.length=16) (hb:b.length=16) (h:R (.agg (jr (ky 2 [a,b]))) H):ACall Tryz.prog 56 [.agg (jr a),.agg (jr b)] H R:=by
 refine b56 fun hf=>?_
 have hbig:=qn
 simp+contextual only [↓U56,Nat.mul_one,Nat.sub_zero,qx,↓U56.1,↓J5,ql,XW1,qa,qb,qe,↓XH]
 intro b2 h2 b3 h3 b4 h4
 obtain ⟨n32,f3⟩:=h3
 obtain ⟨n43,n42,f4⟩:=h4
 simp+contextual only [qx,ha,hb,qZ ha,qZ hb,zQ,qA,XW1]
 refine ⟨od _,fun _=>⟨od _,?_⟩⟩
 have hK:Kst ((b4,.cells (barr 16 []))::(b3,.cells (jr b))::(b2,.cells (jr a))::H):=((hg.push h2).push ⟨Ne.symm n32,f3⟩).push ⟨Ne.symm n43,Ne.symm n42,f4⟩
 refine ⟨_,fun H1 hs=>WZ (c:=2) (l:= [a,b]) (hK.sub hs) (by decide) (by simp) (fun x hx=>?_) ⟨rfl,rfl⟩,?_⟩
 ·simp only [Mx,M7,or_false] at hx
  rcases hx with rfl|rfl<;>omega
 have hl:=kR 2 [a,b]
 generalize ky 2 [a,b]=s at hl h
 simp+contextual only [qx,hl,qZ hl,jp,↓XP,ql,XW1,qb]
 exact h
def VL (seed:List UInt8) (i:Int):Nat->List UInt8
 |0=>[]
 |n+1=>VL seed i n++wU i n (yQ seed i n) 0 3
def eB (seed:List UInt8) (i:Int):List UInt8:=ky 1 [ky 9 [VL seed i 68]]
theorem aq (seed:List UInt8) (i:Int):(eB seed i).length=16:=kR _ _
def jB (seed:List UInt8):Nat->Nat->List UInt8
 |0,k=>eB seed (k:Int)
 |l+1,k=>ky 2 [jB seed l (2*k),jB seed l (2*k+1)]
theorem yp (seed:List UInt8):∀l k,(jB seed l k).length=16
 |0,k=>aq _ _
 |l+1,k=>kR _ _
theorem QX (h:ht<=6):IntKind.i64.wrap (1*2 ^ min ht IntKind.i64.bits)=((2 ^ ht:Nat):Int)∧2 ^ ht<=64∧1<=2 ^ ht:=by
 rcases ht with _|_|_|_|_|_|_|n
 all_goals first|decide|omega
def Qe (seed:List UInt8) (h:Int):Bool:=decide (seed.length=32∧0<=h∧h<=6)
def pC (seed:List UInt8) (i:Int):D:=if Qe seed i=true∧i<=4 then .tup [.agg (jr (jB seed i.toNat 0)++ [.i i]),.i 0] else .tup [.agg (barr 16 []++ [.i 0]),.i 1]
theorem UZ (h:Qe seed i=true) (h4:i<=4):pC seed i= .tup [.agg (jr (jB seed i.toNat 0)++ [.i i]),.i 0]:=if_pos ⟨h,h4⟩
theorem Z4 (h:¬(Qe seed i=true∧i<=4)):pC seed i= .tup [.agg (barr 16 []++ [.i 0]),.i 1]:=if_neg h
theorem uU (h:w.length=16) (x:D):List.take 16 (jr w++ [x])=jr w:=by
 rw [List.take_append_of_le_length (by rw [qx,h];exact Ms _),qZ h]
theorem yu (h:w.length=16) (x:D):(jr w++ [x]).length=17:=by rw [Mi,qx,h];rfl
theorem Jd (h:w.length=16) (x:D):List.drop 17 (jr w++ [x])= []:=List.drop_of_length_le (by rw [yu h];exact Ms _)
theorem US (h:w.length=16) (x:D):List.take 17 (jr w++ [x])=jr w++ [x]:=Mt (by rw [yu h];exact Ms _)
theorem Wi (i:Int):List.map D.view1 (jr w++ [.i i])=jr w++ [.i i]:=by
 rw [Mo,jp];rfl
def Qz (o:Int) (n:Nat):List UInt8:=(List.range n).map fun (i:Nat)=>UInt8.ofNat (65+(7*o+i) % 60).toNat
theorem Y7 (o:Int) (n:Nat):(Qz o n).length=n:=by simp [Qz]
theorem mh (ho:0<=o) (ho2:o<=1000) (h:R (.str (Qz o 32)) H):ACall Tryz.prog 8 [.i o] H R:=by
 refine b8 fun hf=>?_
 have hbig:=qn
 simp+contextual only [↓U8,↓U8,↓XP,qA,qa]
 refine XW.loopS hmm 21 (fun i:Nat=>[(0,.i o),(3,.str (Qz o i)),(4,.i (i:Int))]) (fun _=>H) (fun i=>32 - i) (fun i=>i<=32) 0 (Nat.zero_le _) ⟨rfl,rfl,rfl,rfl,trivial⟩ rfl ?_
 intro i z hi K hN hE hR
 dsimp only [fl,zz,qa,qb]
 by_cases hlt:i<32
 ·have hlt':((i:Int)<32)=True:=qC
  have e1:IntKind.i64.wrap (7*o)=7*o:=qj (by omega) (by omega)
  have e2:IntKind.i64.wrap (7*o+i)=7*o+i:=qj (by omega) (by omega)
  have e3:Int.tmod (7*o+i) 60=(7*o+i) % 60:=by rw [Int.tmod_eq_emod_of_nonneg (by omega)]
  have hq:0<=(7*o+i) % 60∧(7*o+i) % 60<60:=⟨Int.emod_nonneg _ (by decide),Int.emod_lt_of_pos _ (by decide)⟩
  have hss:Qz o i++ [UInt8.ofNat (65+(7*o+i) % 60).toNat]=Qz o (i+1):=by simp [Qz,M0]
  generalize (7*o+i) % 60=q at e3 hq hss
  have e4:IntKind.i64.wrap (65+q)=65+q:=qj (by omega) (by omega)
  have e5:IntKind.i64.wrap q=q:=qj (by omega) (by omega)
  have e6:IntKind.u8.wrap (65+q)=((UInt8.ofNat (65+q).toNat).toNat:Int):=by
   obtain ⟨m,rfl⟩:=Int.eq_ofNat_of_zero_le hq.1
   rw [show ((65:Int)+(m:Int)).toNat=65+m by omega]
   simp only [UInt8.toNat_ofNat']
   rw [show (65:Int)+(m:Int)=((65+m:Nat):Int) by omega]
   simp only [IntKind.wrap]
   rw [if_neg (by simp [IntKind.signed])]
   show ((65+m:Nat):Int) % 256=(((65+m) % 256:Nat):Int)
   omega
  generalize UInt8.ofNat (65+q).toNat=c at e6 hss
  have e7:unbyte [.int .u8 (c.toNat:Int)]=c:=by
   have:=unb [c]
   simpa [qh] using this
  have e8:wn [.int .u8 (c.toNat:Int)]:=isb [c] _ (by simp [qh])
  simp+contextual only [Nat.mul_one,hlt',e1,e2,e3,e4,e6,e7,hss,↓U8,↓XP,ql,XW1,qe]
  rw [qm (by omega)]
  exact ⟨by decide,e8,fun _=>⟨by rw [Y7];omega,hN (i+1) _ _ (by omega) (by omega) ⟨rfl,rfl,rfl,rfl,trivial⟩ (qL rfl)⟩⟩
 ·have hi2:i=32:=by omega
  have hlt':((i:Int)<32)=False:=qY
  simp+contextual only [hlt',↓U8,↓XP,qA]
  apply hE
  rw [hi2]
  simp+contextual only [Mg,↓XP,qA,XW1]
  exact h
end Go.Proofs.YtgopigkdcmhbbaaGreatDoor
end
noncomputable section
namespace Go.Proofs.YtgopigkdcmhbbaaGreatDoor
open Go.Xs
open Go Go.Aw
def BT:=yy Tryz.f40
def V40:=PLift.up (aI (@unf (BT 2) (F [u,u,u,y 5,y 5,v,u]) rfl) (@unf (BT 0) (R [u] (BT 2)) rfl))
theorem U40:type_of% V40.down:=V40.down
theorem b40:Bt 40 9 (BT 0) [(.tmp 2)]:=bt Tryz.func40 rfl
def y41:=yy Tryz.f41
def x41_s1:XC:=(R [b (.makeMap 134 .none) 5,a (.alloc 134) 3,w 134 3 5] (.seq (.gh (.reg [a (.alloc 85) 4])) (y41 6)))
def x41:XC:=(R [B 9 0 1,a (.assign (.const .nilFunc)) 2] x41_s1)
def V41:=PLift.up (aI (@unf (y41 6) (R [v,u] (F [v,u])) rfl) (@unf _ _ x41_s1.eq_1))
theorem U41:type_of% V41.down:=V41.down
theorem r41 {args:List D} {H:AH} {R:D->AH->Prop} (h:facts args->xcode Tryz.prog x41 (args++List.replicate (8 - args.length) (.tup [])) H (VQ Tryz.prog [(.tmp 2)] R)):ACall Tryz.prog 41 args H R:=
 yM hm Tryz.func41 rfl (by kernel_rfl) (by kernel_rfl) (by kernel_rfl) (by kernel_rfl) (by kernel_rfl) (by kernel_rfl) h
def eP:=yy Tryz.f53
def x53_s5:XC:=(R [a (.call ⟨(.builtin .imag),#[],#[114]⟩) 3] (.seq (R [J 0 7] (.block 0 (.loop (eP 9)))) (eP 23)))
def x53:XC:=(R [a (.alloc 33) 2] x53_s5)
def V53:=PLift.up (aI (aI (@unf (eP 19) (R [u,u,v,u,u] (r [u,u])) rfl) (aI (@unf (eP 15) (X (O (R [v,u] (eP 19))) (r [u,u])) rfl) (@unf (eP 9) (R [u] (X I (eP 15))) rfl))) (aI (@unf (eP 25) (F [u,u,u,v,u]) rfl) (aI (@unf (eP 23) (R [u,u,v,u,u] (eP 25)) rfl) (@unf _ _ x53_s5.eq_1))))
theorem tX:type_of% V53.down:=V53.down
theorem b53:Bt 53 23 x53 [(.cell 2 33)]:=bt Tryz.func53 rfl
def lY:=yy Tryz.f82
def x82_s0:XC:=(.seq (.gh (.reg [m 9 19])) (C 19 (R [L 33 8 20,w 33 7 20] .ret) .skip))
def x82_s3:XC:=(.seq (.gh (lY 21)) (.seq (.gh (.reg [L 33 10 44,w 33 7 44])) .ret))
def x82_s4:XC:=(R [a (.alloc 33) 10] (.seq (R [m 0 21,q .eql 3 21 0 22] (lY 17)) x82_s3))
def x82_s5:XC:=(.seq (.seq (.gh (lY 4)) x82_s0) x82_s4)
def x82:XC:=(R [B 3 1 6,a (.alloc 33) 7] x82_s5)
def V82r:=PLift.up (aI (@unf (lY 21) (r [u,u,u,u,u,u]) rfl) (@unf (lY 4) (r [u,u,u,u,u,u,v,v,u,u,u]) rfl))
theorem JC:type_of% V82r.down:=V82r.down
def V82:=PLift.up (aI (aI (@unf _ _ x82_s0.eq_1) (aI (@unf (lY 19) (G [u,u,u,u,u,u,u,u,u,u,u,u,u,v,u]) rfl) (@unf (lY 17) (V (r [u,v,u]) (lY 19)) rfl))) (aI (@unf _ _ x82_s3.eq_1) (aI (@unf _ _ x82_s4.eq_1) (@unf _ _ x82_s5.eq_1))))
theorem xa:type_of% V82.down:=V82.down
theorem b82:Bt 82 45 x82 [(.cell 7 33)]:=bt Tryz.func82 rfl
def BN:=yy Tryz.f83
def V83:=PLift.up (aI (@unf (BN 2) (X (G [u,u,u,u,u,u,v,u]) .ret) rfl) (@unf (BN 0) (R [u] (BN 2)) rfl))
theorem U83:type_of% V83.down:=V83.down
theorem b83:Bt 83 12 (BN 0) [(.cell 4 33)]:=bt Tryz.func83 rfl
end Go.Proofs.YtgopigkdcmhbbaaGreatDoor
end
noncomputable section
namespace Go.Proofs.YtgopigkdcmhbbaaGreatDoor
open Go.Xs
open Go Go.Aw
def Un:=yy Tryz.f15
def V15:=PLift.up (aI (aI (aI (@unf (Un 20) (F [u,u,u,u,u,y 66,y 66,y 66,u,u,y 71,y 71,y 71,v,u]) rfl) (@unf (Un 12) (X (R [u,u,u,z 31,z 31,u,u,z 35,z 35,u,u,z 39,z 39,z 39,u,u,z 44,z 44,z 44,z 44,u,u,z 50,z 50,z 50,u,u,z 55,z 55,z 55,z 55,z 55,u] (T (F [u]))) (Un 20)) rfl)) (aI (@unf (Un 10) (R [u,v,u] (Un 12)) rfl) (@unf (Un 8) (R [u,u,u,v,v,u,u,u] (Un 10)) rfl))) (aI (aI (@unf (Un 6) (R [u,u,u,v,v,u,u,u] (Un 8)) rfl) (@unf (Un 4) (R [u,u,u,v,v,u,u] (Un 6)) rfl)) (aI (@unf (Un 2) (R [u,u,v,u,u] (Un 4)) rfl) (@unf (Un 0) (R [u] (Un 2)) rfl))))
theorem ig:type_of% V15.down:=V15.down
theorem iB:Bt 15 76 (Un 0) [(.tmp 0)]:=bt Tryz.func15 rfl
def eJ:=yy Tryz.f21
def V21:=PLift.up (aI (aI (@unf (eJ 7) (T (F [v,u,u])) rfl) (@unf (eJ 20) (F [u,v,u,u]) rfl)) (aI (@unf (eJ 12) (X (R [u,u,u,u] (T (F [u,u]))) (eJ 20)) rfl) (aI (@unf (eJ 2) (X (R [u,v,u] (R [u,u] (eJ 7))) (eJ 12)) rfl) (@unf (eJ 0) (R [u,u,u] (eJ 2)) rfl))))
theorem Cq:type_of% V21.down:=V21.down
theorem b21:Bt 21 16 (eJ 0) [(.tmp 2),(.tmp 3)]:=bt Tryz.func21 rfl
def QH:=yy Tryz.f36
def x36_G0:XC:=(.block 1 (.regT [6] [([f 26 6 3 33],c (.load 23 (t 33)) 34,false)] [m 7 35,a (.indexAddr 22 (t 35) (i 0)) 36,l 3 36 37,m 7 38,a (.indexAddr 22 (t 38) (i 1)) 39,l 3 39 40,a (.build 64 #[(0,(t 37)),(1,(t 40))]) 41,a (.buildSlice 23 1 #[(0,(t 41))]) 42,b (.call ⟨(.builtin .append),#[t 34,t 42],#[23,23]⟩) 43,f 26 6 3 44] [w 23 44 43]))
def x36_s2:XC:=(.seq (.block 3 (.regT [6,4] [([f 26 6 4 74],c (.load 24 (t 74)) 75,false),([m 4 76],k1 76 76 122 77,false)] [a (.buildSlice 24 1 #[(0,(t 77))]) 78,b (.call ⟨(.builtin .append),#[t 75,t 78],#[24,24]⟩) 79,f 26 6 4 80] [w 24 80 79])) (QH 31))
def x36_L3:XC:=(.seq (.seq (QH 24) (C 71 .skip (.exit 2))) x36_s2)
def x36_s12:XC:=(.seq (QH 16) (.seq (R [A 0 11] (.block 2 (.loop x36_L3))) (QH 32)))
def x36_s13:XC:=(.seq (QH 14) x36_s12)
def x36_s14:XC:=(.seq (.seq (.gh (.reg [m 4 29,a (k 73 #[t 29,(i (-1)),i 2] #[122,3,3]) 30,a (k 74 #[t 30,i 2] #[22,3]) 31])) (.block 0 (.rgf (t 31) 32 7 x36_G0))) x36_s13)
def x36_s15:XC:=(.seq (.regT [] [([m 5 19,a (.indexAddr 22 (t 19) (i 0)) 20,l 3 20 21,m 5 22,a (.indexAddr 22 (t 22) (i 1)) 23,l 3 23 24,m 5 25,a (.indexAddr 22 (t 25) (i 2)) 26,l 3 26 27],b (.build 26 #[(0,(t 21)),(1,(t 24)),(2,(t 27))]) 28,false),([],a (.alloc 26) 6,false)] [] [w 26 6 28]) x36_s14)
def x36_s16:XC:=(R [m 4 17,b (k 73 #[t 17,i 3,i 1] #[122,3,3]) 18,n 18 5] x36_s15)
def x36_s17:XC:=(.seq (QH 3) x36_s16)
def eK:XC:=(R [a (.alloc 26) 2,A 0 3] x36_s17)
def V36r:=PLift.up (aI (aI (@unf (QH 24) (r [u,u,u,u,y 61,y 61,u,u,y 65,y 65,y 65,y 65,y 65,u]) rfl) (@unf (QH 16) (r [u,u,u,u]) rfl)) (aI (@unf (QH 14) (r [u,u,u,u,u,u,v,v,v,u,u,u]) rfl) (@unf (QH 3) (r [u,u,v,u]) rfl)))
theorem vF:type_of% V36r.down:=V36r.down
def V36:=PLift.up (aI (aI (aI (aI (@unf _ _ x36_G0.eq_1) (@unf (QH 31) (r [u,v,u]) rfl)) (aI (@unf _ _ x36_s2.eq_1) (@unf _ _ x36_L3.eq_1))) (aI (aI (@unf (QH 41) (T (F [v,u,u])) rfl) (@unf (QH 51) (T (F [v,u,u])) rfl)) (aI (@unf (QH 56) (F [v,u,u]) rfl) (aI (@unf (QH 48) (X (R [u,u,u,z 108,z 108,z 108,z 108,u] (QH 51)) (QH 56)) rfl) (@unf (QH 46) (R [u,u,u,v,v,u,u] (QH 48)) rfl))))) (aI (aI (aI (@unf (QH 38) (X (R [u,u,u,u] (QH 41)) (QH 46)) rfl) (@unf (QH 34) (R [u,u,u,u] (R [v,u,u] (QH 38))) rfl)) (aI (@unf (QH 32) (R [u,u,u,u,u,u,v,v,v,u,u,u] (QH 34)) rfl) (@unf _ _ x36_s12.eq_1))) (aI (aI (@unf _ _ x36_s13.eq_1) (@unf _ _ x36_s14.eq_1)) (aI (@unf _ _ x36_s15.eq_1) (aI (@unf _ _ x36_s16.eq_1) (@unf _ _ x36_s17.eq_1))))))
theorem YT:type_of% V36.down:=V36.down
theorem b36:Bt 36 116 eK [(.cell 2 26),(.tmp 3)]:=bt Tryz.func36 rfl
def WM:=yy Tryz.f14
def V14:=PLift.up (aI (aI (aI (@unf (WM 30) (r [u,v,u]) rfl) (@unf (WM 21) (X (O (X (G [u,u,u,u,u,u,u,u,u,u,u]) (T (F [u])))) (WM 30)) rfl)) (aI (@unf (WM 15) (X (R [u,u,u,u,u] I) (WM 21)) rfl) (@unf (WM 51) (r [u,v,u]) rfl))) (aI (aI (@unf (WM 42) (X (O (X (G [u,u,u,u,u,u,u,u,u,u,u,u]) (T (F [u])))) (WM 51)) rfl) (@unf (WM 36) (X (R [u,u,u,u,u] I) (WM 42)) rfl)) (aI (@unf (WM 31) (X (R [u] (U (WM 36))) (F [u])) rfl) (aI (@unf (WM 2) (X (R [u,u,u,u,u,u,z 12,z 12,z 12,z 12,z 12,u,u,z 19,z 19,z 19,z 19,z 19,u,u,z 26,z 26,z 26,z 26,z 26,u,u,z 33,z 33,z 33,z 33,z 33,z 33,z 33,u,u,z 42,z 42,z 42,z 42,z 42,z 42,z 42,u] (T (F [u]))) (X (R [u] (U (WM 15))) (WM 31))) rfl) (@unf (WM 0) (R [u,u,u] (WM 2)) rfl)))))
theorem lU:type_of% V14.down:=V14.down
theorem Gl:Bt 14 88 (WM 0) [(.tmp 4)]:=bt Tryz.func14 rfl
def aW:=yy Tryz.f38
def V38:=PLift.up (aI (aI (@unf (aW 30) (r [u,v,u]) rfl) (aI (@unf (aW 21) (X (O (X (G [u,u,u,u,u,u,u,u,u]) (T (F [u])))) (aW 30)) rfl) (@unf (aW 15) (X (R [u,u,u,u] I) (aW 21)) rfl))) (aI (@unf (aW 10) (X (R [u] (U (aW 15))) (F [u])) rfl) (aI (@unf (aW 2) (X (R [u,u,u,u,u] (T (F [u]))) (aW 10)) rfl) (@unf (aW 0) (R [u] (aW 2)) rfl))))
theorem mB:type_of% V38.down:=V38.down
theorem b38:Bt 38 26 (aW 0) [(.tmp 4)]:=bt Tryz.func38 rfl
def aX:=yy Tryz.f10
def V10:=PLift.up (aI (aI (@unf (aX 5) (T (F [v,u,u])) rfl) (aI (@unf (aX 15) (T (F [v,v,u,u])) rfl) (@unf (aX 20) (F [u,u,u,v,u,u]) rfl))) (aI (@unf (aX 10) (R [u,u,u,u,u,u,v,v,u,u,u] (X (R [u,u] (aX 15)) (aX 20))) rfl) (aI (@unf (aX 2) (X (R [u,u,u] (aX 5)) (aX 10)) rfl) (@unf (aX 0) (R [u,u,u] (aX 2)) rfl))))
theorem iz:type_of% V10.down:=V10.down
theorem KF:Bt 10 26 (aX 0) [(.cell 2 35),(.tmp 3)]:=bt Tryz.func10 rfl
def aV:=yy Tryz.f37
def V37:=PLift.up (aI (aI (@unf (aV 22) (r [x,u,u,u,u,u,u,u,v,u]) rfl) (aI (@unf (aV 19) (R [u,u,u] (T (aV 22))) rfl) (@unf (aV 15) (X (O (R [v,u,v,u,u,u] (aV 19))) (r [u,u])) rfl))) (aI (@unf (aV 9) (R [u] (X I (aV 15))) rfl) (aI (@unf (aV 4) (X (R [u,u,u,u] (U (aV 9))) (F [v,u])) rfl) (@unf (aV 0) (R [u,u] (R [u] (aV 4))) rfl))))
theorem By:type_of% V37.down:=V37.down
theorem b37:Bt 37 28 (aV 0) [(.tmp 2)]:=bt Tryz.func37 rfl
def eN:=yy Tryz.f73
def x73_c1:XC:=(R [m 1 45,a (.call ⟨(.builtin .max),#[t 45,i 0],#[3,3]⟩) 46,b (.makeSlice 22 (t 46) (t 46)) 47,n 47 6] .ret)
def x73_s2:XC:=(.seq (.seq (eN 14) (C 44 x73_c1 .skip)) (R [M 7 48,n 48 6] .ret))
def x73_s3:XC:=(.seq (.seq (eN 8) (eN 9)) x73_s2)
def x73_s4:XC:=(.seq (eN 5) x73_s3)
def x73_s5:XC:=(.seq (eN 3) x73_s4)
def x73:XC:=(R [Z 6] x73_s5)
def V73r:=PLift.up (aI (aI (@unf (eN 14) (r [u,u,u,u]) rfl) (@unf (eN 8) (r [u,u,u,y 25,y 25,y 25,y 25,u,u,z 31,z 31,z 31,z 31,z 31,u]) rfl)) (aI (@unf (eN 5) (r [u,u,u,u]) rfl) (@unf (eN 3) (r [u,u,u,u,u,u,v,v,v,u,u,u]) rfl)))
theorem pT:type_of% V73r.down:=V73r.down
def V73:=PLift.up (aI (aI (@unf (eN 9) (T (r [u,u,u,u])) rfl) (aI (@unf _ _ x73_c1.eq_1) (@unf _ _ x73_s2.eq_1))) (aI (@unf _ _ x73_s3.eq_1) (aI (@unf _ _ x73_s4.eq_1) (@unf _ _ x73_s5.eq_1))))
theorem D1:type_of% V73.down:=V73.down
theorem b73:Bt 73 49 x73 [(.tmp 6)]:=bt Tryz.func73 rfl
def sY:=yy Tryz.f74
def V74:=PLift.up (aI (@unf (sY 5) (T (r [u,u])) rfl) (aI (@unf (sY 2) (X (R [u,u] (sY 5)) (F [v,u])) rfl) (@unf (sY 0) (R [u,u,u] (sY 2)) rfl)))
theorem U74:type_of% V74.down:=V74.down
def u5:=yy Tryz.f49
def V49:=PLift.up (aI (aI (aI (aI (@unf (u5 5) (T (F [u,u,u])) rfl) (@unf (u5 36) (T (F [u,u,u])) rfl)) (aI (@unf (u5 34) (R [u,u,u,y 35,y 35,y 35,y 35,y 35,y 35,v,u] (u5 36)) rfl) (@unf (u5 30) (V (F [u,u,u]) (u5 34)) rfl))) (aI (aI (@unf (u5 28) (R [u,u,u,v,u] (u5 30)) rfl) (@unf (u5 24) (V (F [u,u,u]) (u5 28)) rfl)) (aI (@unf (u5 58) (r [u,u,u,u,u,u,v,u]) rfl) (aI (@unf (u5 54) (X (O (R [u,v,u] (u5 58))) (r [u,u])) rfl) (@unf (u5 48) (R [u] (X I (u5 54))) rfl))))) (aI (aI (aI (@unf (u5 63) (T (F [u,u,u])) rfl) (@unf (u5 71) (T (r [u,v,u])) rfl)) (aI (@unf (u5 74) (F [u,v,u,v,u,u,u]) rfl) (aI (@unf (u5 60) (X (R [u,u,u] (u5 63)) (X (R [u,u] (u5 71)) (u5 74))) rfl) (@unf (u5 43) (X (R [u,u,u,u,u,u] (U (u5 48))) (u5 60)) rfl)))) (aI (aI (@unf (u5 20) (X (O (R [u,v,u] (u5 24))) (R [u] (u5 43))) rfl) (@unf (u5 18) (R [u,u,u,u,u,u,v,u] (u5 20)) rfl)) (aI (@unf (u5 12) (X (R [u,u,u,u] (T (r [u]))) (u5 18)) rfl) (aI (@unf (u5 2) (X (R [u,u,u] (u5 5)) (R [u] (u5 12))) rfl) (@unf (u5 0) (R [u,u,u] (u5 2)) rfl))))))
theorem U49:type_of% V49.down:=V49.down
theorem b49:Bt 49 71 (u5 0) [(.tmp 2),(.tmp 3),(.tmp 4)]:=bt Tryz.func49 rfl
def BS:=yy Tryz.f75
def V75:=PLift.up (aI (@unf (BS 2) (r [u,u,u,u,u,u,z 20,z 20,v,u,u,u]) rfl) (@unf (BS 0) (R [u,u,u,u,u,u,v,u,u,u] (BS 2)) rfl))
theorem U75:type_of% V75.down:=V75.down
theorem b75:Bt 75 26 (BS 0) []:=bt Tryz.func75 rfl
def sS:=yy Tryz.f76
def x76_G0:XC:=(.block 1 (.regT [4] [([f 71 4 3 49],c (.load 67 (t 49)) 50,false)] [m 5 51,a (.indexAddr 22 (t 51) (i 0)) 52,l 3 52 53,m 5 54,a (.indexAddr 22 (t 54) (i 1)) 55,l 3 55 56,m 5 57,a (.indexAddr 22 (t 57) (i 2)) 58,l 3 58 59,a (.build 66 #[(0,(t 53)),(1,(t 56)),(2,(t 59))]) 60,a (.buildSlice 67 1 #[(0,(t 60))]) 61,b (.call ⟨(.builtin .append),#[t 50,t 61],#[67,67]⟩) 62,f 71 4 3 63] [w 67 63 62]))
def x76_s2:XC:=(.seq (.regT [4] [([m 6 84,a (.indexAddr 31 (t 84) (i 0)) 85,L 9 85 86,m 6 87,a (.indexAddr 31 (t 87) (i 1)) 88,L 9 88 89,f 71 4 5 90],w 9 90 86,false)] [] [f 71 4 6 91,w 9 91 89]) (R [L 71 4 92,w 71 2 92] .ret))
def x76_s3:XC:=(.seq (R [m 6 77,e 31 77 78,q .neq 3 78 2 79] (C 79 (sS 19) .skip)) x76_s2)
def x76_s4:XC:=(.seq (sS 14) x76_s3)
def x76_s5:XC:=(.seq (sS 12) x76_s4)
def x76_s6:XC:=(.seq (.seq (.gh (.reg [m 0 45,a (k 73 #[t 45,(i (-1)),i 3] #[122,3,3]) 46,a (k 74 #[t 46,i 3] #[22,3]) 47])) (.block 0 (.rgf (t 47) 48 5 x76_G0))) x76_s5)
def x76_s7:XC:=(.seq (.regT [] [([m 3 11,a (.indexAddr 22 (t 11) (i 0)) 12,l 3 12 13,m 3 14,a (.indexAddr 22 (t 14) (i 1)) 15,l 3 15 16,m 3 17,a (.indexAddr 22 (t 17) (i 2)) 18,l 3 18 19,m 3 20,a (.indexAddr 22 (t 20) (i 3)) 21,l 3 21 22,a (.build 66 #[(0,(t 16)),(1,(t 19)),(2,(t 22))]) 23,m 3 24,a (.indexAddr 22 (t 24) (i 4)) 25,l 3 25 26,m 3 27,a (.indexAddr 22 (t 27) (i 5)) 28,l 3 28 29,m 3 30,a (.indexAddr 22 (t 30) (i 6)) 31,l 3 31 32,a (.build 66 #[(0,(t 26)),(1,(t 29)),(2,(t 32))]) 33,m 3 34,a (.indexAddr 22 (t 34) (i 7)) 35,l 3 35 36,m 3 37,a (.indexAddr 22 (t 37) (i 8)) 38,l 3 38 39,m 3 40,a (.indexAddr 22 (t 40) (i 9)) 41,l 3 41 42,a (.build 69 #[(0,(t 39)),(1,(t 42))]) 43],b (.build 71 #[(0,(t 13)),(1,(t 23)),(2,(t 33)),(4,(t 36)),(7,(t 43))]) 44,false),([],a (.alloc 71) 4,false)] [] [w 71 4 44]) x76_s6)
def x76_s8:XC:=(R [m 0 9,b (k 73 #[t 9,i 10,i 1] #[122,3,3]) 10,n 10 3] x76_s7)
def x76:XC:=(R [a (.alloc 71) 2] x76_s8)
def V76r:=PLift.up (aI (@unf (sS 14) (r [u,u,u,u]) rfl) (@unf (sS 12) (r [u,u,u,u,u,u,v,v,v,u,u,u]) rfl))
theorem KP:type_of% V76r.down:=V76r.down
def V76:=PLift.up (aI (aI (aI (@unf _ _ x76_G0.eq_1) (@unf (sS 19) (R [u,u,u,u] (F [v,u])) rfl)) (aI (@unf _ _ x76_s2.eq_1) (@unf _ _ x76_s3.eq_1))) (aI (aI (@unf _ _ x76_s4.eq_1) (@unf _ _ x76_s5.eq_1)) (aI (@unf _ _ x76_s6.eq_1) (aI (@unf _ _ x76_s7.eq_1) (@unf _ _ x76_s8.eq_1)))))
theorem sr:type_of% V76.down:=V76.down
theorem b76:Bt 76 93 x76 [(.cell 2 71)]:=bt Tryz.func76 rfl
def lx:=yy Tryz.f77
def V77:=PLift.up (aI (aI (@unf (lx 7) (T (F [v,u,u,u])) rfl) (@unf (lx 12) (F [u,u,u,u,u,u,v,u,u,v,u,u,u]) rfl)) (aI (@unf (lx 2) (R [u,u,u,v,v,v,u,u,u] (X (R [u,u] (lx 7)) (lx 12))) rfl) (@unf (lx 0) (R [u,u,u] (lx 2)) rfl)))
theorem C3:type_of% V77.down:=V77.down
theorem b77:Bt 77 27 (lx 0) [(.tmp 2),(.tmp 3),(.tmp 4)]:=bt Tryz.func77 rfl
def Cj:=yy Tryz.f35
def V35:=PLift.up (aI (@unf (Cj 2) (F [u,u,u,u,u,u,y 10,y 10,y 10,y 10,y 10,u,u,y 17,y 17,y 17,y 17,y 17,u,u,y 24,y 24,y 24,y 24,y 24,u,u,y 31,y 31,y 31,y 31,y 31,u,u,y 38,y 38,y 38,y 38,y 38,u,u,y 45,y 45,y 45,y 45,y 45,u,u,y 52,y 52,y 52,y 52,y 52,v,u]) rfl) (@unf (Cj 0) (R [u,u,u] (Cj 2)) rfl))
theorem U35:type_of% V35.down:=V35.down
theorem b35:Bt 35 59 (Cj 0) [(.tmp 4)]:=bt Tryz.func35 rfl
def uo:=yy Tryz.f116
def V116:=PLift.up (aI (aI (aI (@unf (uo 7) (T (F [v,u,u,u])) rfl) (@unf (uo 34) (T (F [v,u,u,u])) rfl)) (aI (@unf (uo 39) (r [x,u,u,v,v,u,u]) rfl) (aI (@unf (uo 27) (X (O (R [u,u,u,v,v,v,u,u,u] (X (R [u,u] (uo 34)) (uo 39)))) (r [u,u])) rfl) (@unf (uo 21) (R [u] (X I (uo 27))) rfl)))) (aI (aI (@unf (uo 41) (F [v,v,u,u,u]) rfl) (@unf (uo 14) (R [u] (X (R [u,u] (U (uo 21))) (uo 41))) rfl)) (aI (@unf (uo 12) (R [u,u,v,u] (uo 14)) rfl) (aI (@unf (uo 2) (R [u,u,u,v,v,v,u,u,u] (X (R [u,u] (uo 7)) (uo 12))) rfl) (@unf (uo 0) (R [u,u,u] (uo 2)) rfl)))))
theorem KI:type_of% V116.down:=V116.down
theorem ET:Bt 116 45 (uo 0) [(.tmp 2),(.tmp 3),(.tmp 4)]:=bt Tryz.func116 rfl
def oa:=yy Tryz.f118
def V118:=PLift.up (aI (aI (aI (@unf (oa 7) (T (F [v,u,u,u])) rfl) (@unf (oa 32) (T (F [v,u,u,u])) rfl)) (aI (@unf (oa 37) (r [x,u,u,v,u,u,v,u,u]) rfl) (@unf (oa 25) (X (O (R [u,u,u,u,u,v,v,v,u,u,u] (X (R [u,u] (oa 32)) (oa 37)))) (r [u,u])) rfl))) (aI (aI (@unf (oa 19) (R [u] (X I (oa 25))) rfl) (@unf (oa 39) (F [v,v,u,u,u]) rfl)) (aI (@unf (oa 12) (R [u] (X (R [u,u] (U (oa 19))) (oa 39))) rfl) (aI (@unf (oa 2) (R [u,u,u,v,v,v,u,u,u] (X (R [u,u] (oa 7)) (oa 12))) rfl) (@unf (oa 0) (R [u,u,u] (oa 2)) rfl)))))
theorem WC:type_of% V118.down:=V118.down
theorem Ea:Bt 118 45 (oa 0) [(.tmp 2),(.tmp 3),(.tmp 4)]:=bt Tryz.func118 rfl
def QU:=yy Tryz.f119
def V119:=PLift.up (aI (aI (@unf (QU 14) (R [u,u,u,u,u,u,u,v,u] (T (r [u]))) rfl) (aI (@unf (QU 10) (R [u,v,u] (V (r [u]) (QU 14))) rfl) (@unf (QU 19) (F [v,v,v,u,u,u]) rfl))) (aI (@unf (QU 4) (X (O (R [u,v,u] (V .skip (QU 10)))) (QU 19)) rfl) (aI (@unf (QU 2) (R [u,u,u,v,v,v,u,u,u] (QU 4)) rfl) (@unf (QU 0) (R [u,u,u] (QU 2)) rfl))))
theorem d4:type_of% V119.down:=V119.down
theorem CM:Bt 119 31 (QU 0) [(.tmp 4),(.tmp 5),(.tmp 6)]:=bt Tryz.func119 rfl
def aS:=yy Tryz.f72
def V72:=PLift.up (aI (aI (@unf (aS 30) (r [u,v,u]) rfl) (aI (@unf (aS 21) (X (O (X (G [u,u,u,u,u,u,u,u,u]) (T (F [u])))) (aS 30)) rfl) (@unf (aS 15) (X (R [u,u,u,u] I) (aS 21)) rfl))) (aI (@unf (aS 10) (X (R [u] (U (aS 15))) (F [u])) rfl) (aI (@unf (aS 2) (X (R [u,u,u,u,u] (T (F [u]))) (aS 10)) rfl) (@unf (aS 0) (R [u] (aS 2)) rfl))))
theorem BX:type_of% V72.down:=V72.down
theorem b72:Bt 72 26 (aS 0) [(.tmp 4)]:=bt Tryz.func72 rfl
def As:=yy Tryz.f138
def V138:=PLift.up (aI (@unf (As 0) (R [u,u,u] (F [v,u])) rfl) trivial)
theorem Fx:type_of% V138.down:=V138.down
def Vw:=yy Tryz.f144
def V144:=PLift.up (aI (aI (@unf (Vw 6) (X (G [v,v,v,u,u,u]) .ret) rfl) (@unf (Vw 4) (R [u,u,v,u] (Vw 6)) rfl)) (aI (@unf (Vw 2) (R [u,u,u,u,u,v,v,v,u,u,u] (Vw 4)) rfl) (@unf (Vw 0) (R [u,u,u] (Vw 2)) rfl)))
theorem n5:type_of% V144.down:=V144.down
theorem Fu:Bt 144 22 (Vw 0) [(.tmp 2),(.tmp 3),(.tmp 4)]:=bt Tryz.func144 rfl
def lB:=yy Tryz.f20
def V20:=PLift.up (aI (aI (@unf (lB 5) (T (F [v,u,u])) rfl) (@unf (lB 10) (F [u,u,u,v,u,u]) rfl)) (aI (@unf (lB 2) (X (R [u,u,u,u,z 9,z 9,z 9,u] (lB 5)) (lB 10)) rfl) (@unf (lB 0) (R [u,u] (lB 2)) rfl)))
theorem mb:type_of% V20.down:=V20.down
theorem b20:Bt 20 19 (lB 0) [(.cell 4 33),(.tmp 5)]:=bt Tryz.func20 rfl
def C6:=yy Tryz.f78
def V78:=PLift.up (aI (@unf (C6 2) (F [u,u,u,u,v,u]) rfl) (@unf (C6 0) (R [u] (C6 2)) rfl))
theorem U78:type_of% V78.down:=V78.down
theorem b78:Bt 78 10 (C6 0) [(.tmp 4)]:=bt Tryz.func78 rfl
def y9:=yy Tryz.f9
theorem b9:Bt 9 13 (y9 0) [(.tmp 4)]:=bt Tryz.func9 rfl
end Go.Proofs.YtgopigkdcmhbbaaGreatDoor
end
section
namespace Go.Proofs.YtgopigkdcmhbbaaGreatDoor
open Go Go.Aw Go.Shelf Go.RowKit Go.Proofs
def bren:Ren:=⟨fun|240=>102|276=>133|169=>66|n=>n,fun|20=>20|37=>55|70=>112|72=>114|127=>165|164=>195|n=>n,fun|n=>n⟩
theorem lG:Lays.n240 Tryz.prog bren:={
 mixed:=by kernel_rfl
 f240:=Tryz.func102.trans (congrArg some (by kernel_rfl))
 f276:=Tryz.func133.trans (congrArg some (by kernel_rfl))
 t0:=Tryz.underlying0
 a0:=Tryz.isAgg0
 z0:=Tryz.sizeOf0
 v0:=Tryz.zeroValue0
 t4:=Tryz.underlying4
 a4:=Tryz.isAgg4
 z4:=Tryz.sizeOf4
 v4:=Tryz.zeroValue4
 t9:=Tryz.underlying9
 a9:=Tryz.isAgg9
 z9:=Tryz.sizeOf9
 v9:=Tryz.zeroValue9
 t20:=Tryz.underlying20
 a20:=Tryz.isAgg20
 z20:=Tryz.sizeOf20
 v20:=Tryz.zeroValue20
 t70:=Tryz.underlying112
 a70:=Tryz.isAgg112
 z70:=Tryz.sizeOf112
 v70:=Tryz.zeroValue112
 t72:=Tryz.underlying114
 a72:=Tryz.isAgg114
 z72:=Tryz.sizeOf114
 v72:=Tryz.zeroValue114
 t164:=Tryz.underlying195
 a164:=Tryz.isAgg195
 z164:=Tryz.sizeOf195
 v164:=Tryz.zeroValue195}
theorem blX:Builder.X72 Tryz.prog bren:=⟨by kernel_rfl,by kernel_rfl⟩
theorem QC {T:TypeId} (J:Nat->List D->(Nat->BK)->World->Prop) (hJ:∀b K w,K b= .tok 0 (.cell b 0)->w.heap[b]?=some (.cells #[.pointer none,.slice none 0 0] T (0,0))->J b [] K w) (hok:∀b,iF b (J b)) (hz:∀w,(zeroValue T).run P w= .ok (.agg #[.pointer none,.slice none 0 0]) w)
  (h:∀b,qz H b->k (F.set d (.ptr b 0)) ((b,.lp (J b) [])::H)):Wl P (.alloc T) (some d) F H k:=by
 intro o K w a Q ho hd hs
 obtain ⟨hp,hk'⟩:=yH (K:=K) (w:=w) hs.krel (.cells #[.pointer none,.slice none 0 0] T) (x:= .tok 0 (.cell w.heap.size 0)) (by simp)
 have hold:=hs.hrel.pres hs.krel hp
 refine qH (v:= .pointer (some ⟨w.heap.size,0,none⟩)) (w':=w.alloc (.cells #[.pointer none,.slice none 0 0] T)) ?_ ⟨_,_,_,h _ (hs.hrel.fresh hs.krel),hp.fk hs.krel,?_,qt _ _⟩
 ·simp [execOp,ho,Instr.alloc,hz,newVar,newRow,Value.cells]
 ·rw [hd]
  refine hs.put (hp.keep hs.krel) (fun _ _ h=>h) hk' ⟨?_,fun b o hm=>?_⟩ (some d) (fun i _=>RepV.viewO (.ptr _ _))
  ·simp only [List.map_cons,List.nodup_cons]
   refine ⟨fun hm=>?_,hold.nd⟩
   rw [List.mem_map] at hm
   obtain ⟨⟨b,o⟩,h1,h2⟩:=hm
   have:=hs.hrel.lt hs.krel h1
   simp only [] at h2
   omega
  ·rcases List.mem_cons.1 hm with h|h
   ·injection h with h1 h2
    subst h1 h2
    exact ⟨⟨0,0,jx _ _ _⟩,hJ _ _ _ (jx _ _ _) (heap_alloc_new w _),hok _⟩
   ·exact hold.ok b o h
structure One (b:Nat) (w w':World):Prop where
 os:w'.os=w.os
 tape:w'.tape=w.tape
 output:w'.output=w.output∧w.drawn<=w'.drawn
 size:w'.heap.size=w.heap.size
 other:∀c,c≠b->w'.heap[c]?=w.heap[c]?
theorem One.set (b i:Nat) (w:World) (v:Value):One b w (w.setCell ⟨b,i,none⟩ v):=⟨rfl,rfl,⟨rfl,Ms _⟩,by simp,fun c hc=>Below.heap_setCell _ _ _ _ hc⟩
theorem nY (hw:w.heap[b]?=some (.cells #[p,v] 114 (0,0))) (hp:p= .pointer none∨p= .pointer (some ⟨b,0,none⟩)):
  Calls Tryz.prog 102 #[.pointer (some ⟨b,0,none⟩)] w fun e w'=>e= .returned (.tuple #[])∧w'.heap[b]?=some (.cells #[.pointer (some ⟨b,0,none⟩),v] 114 (0,0))∧One b w w':=by
 rcases hp with rfl|rfl
 ·have c0:w.cell? ⟨b,0,none⟩=some (.pointer none):=by rw [Lib.cell_of_heap hw];rfl
  have c1:w.shape? b=some (bren.t 72,2):=by simp [World.shape?,hw];rfl
  refine (Any.Builder_copyCheck_fresh lG blX b w c0 c1 (Lib.frozen_of_heap hw 0)).mono ?_
  rintro e w' ⟨rfl,rfl⟩
  exact ⟨rfl,heap_setCell_same w b 0 _ _ _ hw,One.set b 0 w _⟩
 ·have c0:w.cell? ⟨b,0,none⟩=some (.pointer (some ⟨b,0,none⟩)):=by rw [Lib.cell_of_heap hw];rfl
  refine (Any.Builder_copyCheck_used lG blX b w c0).mono ?_
  rintro e w' ⟨rfl,rfl⟩
  exact ⟨rfl,hw,rfl,rfl,⟨rfl,Ms _⟩,rfl,fun _ _=>rfl⟩
end Go.Proofs.YtgopigkdcmhbbaaGreatDoor
end
section
namespace Go.Proofs.YtgopigkdcmhbbaaGreatDoor
open Go Go.Aw Go.Shelf Go.RowKit Go.Proofs
def BldJ (b:Nat) (l:List UInt8):List D->(Nat->BK)->World->Prop:=fun _ K w=>K b= .tok 0 (.cell b 0)∧∃p v,w.heap[b]?=some (.cells #[p,v] 114 (0,0))∧(p= .pointer none∨p= .pointer (some ⟨b,0,none⟩))∧OwnAt K w (.cell b 1) (l.map qh) v∧
 ((l= []∧v= .slice none 0 0)∨∃g cap c,l≠ []∧v= .slice (some ⟨g,0,none⟩) l.length cap∧w.heap[g]?=some (.cells c 5 (0,0)))
theorem JW {K K':Nat->BK} {w w':World} {o:Who} {l:List UInt8} {v:Value} (h:OwnAt K w o (l.map qh) v) (hk:∀c n,K c= .tok n o->K' c= .tok n o∧w'.heap[c]?=w.heap[c]?):OwnAt K' w' o (l.map qh) v:=by
 rcases h with h|⟨b,cap,sz,c,T,hv,h1,h2,h3,h4,h5,h6,h7,h8,h9⟩
 ·exact .inl h
 ·obtain ⟨g1,g2⟩:=hk b _ h1
  refine .inr ⟨b,cap,sz,c,T,hv,g1,g2.trans h2,h3,h4,h5,h6,h7,h8,fun i x hi j d hj=>?_⟩
  obtain ⟨u,e1,e2,e3⟩:=h9 i x hi j d hj
  refine ⟨u,e1,e2,?_⟩
  have hx:=List.mem_of_getElem? hi
  obtain ⟨y,_,rfl⟩:=List.mem_map.1 hx
  match j,hj with
  | 0,hj=>
   simp only [qh,Mm,Option.some.injEq] at hj
   subst hj
   obtain ⟨rfl,hin⟩:=e3.int_inv
   exact .int _ _ hin
  |j+1,hj=>simp [qh] at hj
theorem BldJ.ok:iF b (BldJ b l):=by
 intro pre K w K' w' h hk
 obtain ⟨h1,p,v,h2,h3,h4,h5⟩:=h
 have g:=hk b 0 0 h1
 refine ⟨g.1,p,v,g.2.trans h2,h3,JW h4 fun c n hc=>hk c n 1 hc,?_⟩
 rcases h5 with h5|⟨g,cap,c,hl,rfl,hg⟩
 ·exact .inl h5
 ·rcases h4 with ⟨h4,a,e⟩|⟨b',cap',sz,c',T,hv,q1,q2,_⟩
  ·injection e with e1 e2 e3
   have:l= []:=by simpa using h4
   exact (hl this).elim
  ·injection hv with e1 _ _
   injection e1 with e1
   injection e1 with e1
   subst e1
   exact .inr ⟨_,cap,c,hl,rfl,(hk g _ 1 q1).2.trans hg⟩
theorem UO {Q:Exit->Act->World->Prop} (hgd:o.guard=none) (s x:Operand) (t u:TypeId)
  (ho:o.op= .call {callee:= .builtin .append,args:=#[s,x],argTypes:=#[t,u]}) (hs:a.eval s=v) (hx:a.eval x=y)
  (hr:(Builtin.append_ #[t,u] o.type #[v,y]).run P w= .ok r w') (h:wpList P ops Q rest (a.put o.dst r) w'):wpList P ops Q (o::rest) a w:=
 wpList_plain hgd fun K hK=>by
  unfold Oper.wp execOp
  simp only [ho,resolve,invoke,builtin,Sem.run_bind,Sem.run_pure,Result.andThen_ok,List.map_toArray,List.map_cons,List.map_nil,hs,hx,hr]
  exact hK _ _ h
theorem Gx (hw:w.heap[b]?=some (.cells #[p,v] 114 (0,0))) (hp:p= .pointer none∨p= .pointer (some ⟨b,0,none⟩))
  {Good:World->Value->World->Prop} (happ:∀w1:World,w1.heap[b]?=some (.cells #[.pointer (some ⟨b,0,none⟩),v] 114 (0,0))->One b w w1->
   ∃r w2,(Builtin.append_ #[55,55] 55 #[v,.slice (some ad) m cx]).run Tryz.prog w1= .ok r w2∧(∃a n c,r= .slice a n c)∧w2.heap[b]?=w1.heap[b]?∧Good w1 r w2):
  Calls Tryz.prog 63 #[.pointer (some ⟨b,0,none⟩),.slice (some ad) m cx] w fun e w3=>e= .returned (.tuple #[.int .i64 m,.nilIface])∧
   ∃w1 r w2,w1.heap[b]?=some (.cells #[.pointer (some ⟨b,0,none⟩),v] 114 (0,0))∧One b w w1∧w2.heap[b]?=w1.heap[b]?∧Good w1 r w2∧w3=w2.setCell ⟨b,1,none⟩ r:=by
 go_enter Tryz.func63,Tryz.ntmps63
 go_wp2_with (go_at_call 102;refine (nY hw hp).mono ?_)
 rintro e w1 ⟨rfl,hb1,ho1⟩
 obtain ⟨r,w2,hr,⟨ar,nr,cr,rfl⟩,hb2,hG⟩:=happ w1 hb1 ho1
 have c0:w1.cell? ⟨b,0,none⟩=some (.pointer (some ⟨b,0,none⟩)):=by rw [Lib.cell_of_heap hb1];rfl
 have c1:w1.cell? ⟨b,1,none⟩=some v:=by rw [Lib.cell_of_heap hb1];rfl
 have hb2':=hb2.trans hb1
 have d1:w2.cell? ⟨b,1,none⟩=some v:=by rw [Lib.cell_of_heap hb2'];rfl
 have f1:w2.frozen? ⟨b,1,none⟩=false:=Lib.frozen_of_heap hb2' 1
 go_wp2_with (at_builtin;refine UO rfl _ _ _ _ rfl rfl rfl hr ?_)
 go_ret2
 exact ⟨rfl,w1,_,w2,hb1,ho1,hb2,hG,rfl⟩
end Go.Proofs.YtgopigkdcmhbbaaGreatDoor
end
section
namespace Go.Proofs.YtgopigkdcmhbbaaGreatDoor
open Go Go.Aw Go.Shelf Go.RowKit Go.Proofs
theorem VX:∀{H:AH} {c:Nat} {o:AO},(c,o)∈H->c≠b->(c,o)∈qI H b
 | (c',o')::r,c,o,h,hne=>by
  unfold qI
  split
  ·rename_i e
   rcases List.mem_cons.1 h with h|h
   ·injection h with h1 _;exact (hne (h1.trans e.symm)).elim
   ·exact h
  ·rcases List.mem_cons.1 h with h|h
   ·exact h▸ .head _
   ·exact .tail _ (VX h hne)
theorem apB:KT Tryz.prog 55 55=some (5,1,1):=by kernel_rfl
theorem FN:∃i,Tryz.prog.info? 5=some i∧i.zero=some (.int .u8 0)∧i.size=1∧i.bytes=1:=by
 have h:(Tryz.prog.info? 5).map (fun i=>(i.zero,i.size,i.bytes))=some (some (.int .u8 0),1,1):=by kernel_rfl
 obtain ⟨i,h1,h2⟩:=Option.map_eq_some_iff.1 h
 injection h2 with h2 h3
 injection h3 with h3 h4
 exact ⟨i,h1,h2,h3,h4⟩
theorem cz (hk:KRel K w) (hh:HRel K w H) (ho:OwnAt K w (.slot 0 0) (l.map qh) v)
  (ht:(l= []∧v= .slice none 0 0)∨∃g cap c,l≠ []∧v= .slice (some ⟨g,0,none⟩) l.length cap∧w.heap[g]?=some (.cells c 5 (0,0))) (hm:m≠ []) (hlen:l.length+m.length<=1000000)
  (hs:Src Tryz.prog w K 1 (m.map qh) x) (hx:x= .slice (some ad) m.length cx) (hc:∀j y,m[j]?=some y->w.cell? (ad.add j)=some (.int .u8 y.toNat)):
  ∃ r K' w',(Builtin.append_ #[55,55] 55 #[v,x]).run Tryz.prog w= .ok r w'∧Keep (fun o=>o= .slot 0 0) aN K w K' w'∧KRel K' w'∧HRel K' w' H∧OwnAt K' w' (.slot 1 0) ((l++m).map qh) r∧
   ∃g cap c,l++m≠ []∧r= .slice (some ⟨g,0,none⟩) (l++m).length cap∧w'.heap[g]?=some (.cells c 5 (0,0)):=by
 obtain ⟨r,K',w',h1,h2,h3,h4,h5⟩:=Yc (P:=Tryz.prog) (ty:=55) hk hh apB (s:= .slot 0 0) (d:= .slot 1 0) (by simp) (by simp) (by simp) ho (Zo l) hs (by simp;omega)
 obtain ⟨i,i1,i2,i3,i4⟩:=FN
 have hown:w.ownsRow 0 5 1 v l.length (l.map fun c=>.int .u8 (c.toNat:Int)):=by
  refine ⟨by simp,?_⟩
  rcases ht with ⟨rfl,rfl⟩|⟨g,cap,c,hl,rfl,hg⟩
  ·exact .inl ⟨rfl,rfl⟩
  ·rcases ho with ⟨ho,_⟩|⟨g',cap',sz,c',T,hv,q1,q2,q3,q4,q5,q6,q7,q8,q9⟩
   ·exact (hl (by simpa using ho)).elim
   ·injection hv with e1 e2 e3
    injection e1 with e1
    injection e1 with e1
    subst e1 e3
    rw [q2] at hg
    injection hg with hg
    injection hg with hc1 hc2
    subst hc1 hc2
    have hsz:sz=1:=by
     have:=q8 0 _ (Mb q4)
     simpa [qh] using this.symm
    subst hsz
    refine .inr ⟨_,cap,_,rfl,Nat.zero_le _,q2,by simpa using q5,q6,q3,?_⟩
    apply List.ext_getElem?
    intro j
    rw [List.getElem?_take]
    by_cases hj:j<l.length
    ·rw [if_pos (by omega)]
     obtain ⟨u,g1,_,g3⟩:=q9 j (qh (l[j])) (by rw [Me,Mb hj];rfl) 0 _ rfl
     obtain ⟨rfl,_⟩:=g3.int_inv
     rw [Me,Mb hj]
     simpa using g1
    ·rw [if_neg (by omega),My (by simp;omega)]
 obtain ⟨v2,w2,g1,g2,_,g4⟩:=run_append_own (P:=Tryz.prog) (w:=w) 0 55 55 5 i (.int .u8 0) 1 1 (jo (oL apB).1).1 i1 i2 i3 i4 rfl (by decide) v l.length _ hown ad m.length cx (m.map fun c=>.int .u8 (c.toNat:Int)) (by simp) (fun j u hu=>by
  rw [Me,Option.map_eq_some_iff] at hu
  obtain ⟨y,hy,rfl⟩:=hu
  exact hc j y hy) (fun u hu=>by
  obtain ⟨y,_,rfl⟩:=List.mem_map.1 hu
  rfl) (by unfold maxLen;omega) (by omega) (Nat.zero_le _)
 subst hx
 rw [h1] at g1
 injection g1 with e1 e2
 subst e1 e2
 have hlm:l++m≠ []:=by simp [hm]
 have hml:0<m.length:=List.length_pos_iff.2 hm
 refine ⟨r,K',w',h1,h2,h3,h4,by rw [Mo];exact h5,?_⟩
 rcases g2.2 with ⟨_,q⟩|⟨g,cap,cur,q1,_,q2,_⟩
 ·omega
 ·exact ⟨g,cap,cur,hlm,by rw [q1,Mi],q2⟩
def wφ (b:Nat):Who->Who:=fun o=>if o= .cell b 1 then .slot 0 0 else o
def wψ (b:Nat):Who->Who:=fun o=>if o= .slot 1 0 then .cell b 1 else o
theorem gr {R:D->AH->Prop} (hg:qk H b=some (.lp (BldJ b l) [])) (hm:m≠ []) (hlen:l.length+m.length<=1000000)
  (hda:∀K w v,HRel K w (qI H b)->RepV K w da v->Src Tryz.prog w K 1 (m.map qh) v∧∃ad c,v= .slice (some ad) m.length c∧∀j x,m[j]?=some x->w.cell? (ad.add j)=some (.int .u8 x.toNat))
  (h:R (.tup [.int .i64 m.length,.any]) (qE H b (.lp (BldJ b (l++m)) []))):ACall Tryz.prog 63 [.ptr b 0,da] H R:=by
 refine ⟨by kernel_rfl,fun K w vs hk hns hh hl hr=>?_⟩
 obtain ⟨v0,x,rfl⟩:∃v x,vs=#[v,x]:=by
  obtain ⟨l⟩:=vs
  match l,hl with
  | [v,x],_=>exact ⟨v,x,rfl⟩
 have hv:v0= .pointer (some ⟨b,0,none⟩):=(hr 0 _ v0 rfl rfl).ptr_inv
 subst hv
 have hrx:=hr 1 _ x rfl rfl
 obtain ⟨_,⟨hK,p,v,hw,hp,ho,ht⟩,_⟩:=hh.ok b _ (qR hg)
 have hbl:b<w.heap.size:=(Array.getElem?_eq_some_iff.1 hw).1
 have hsub:HRel K w (qI H b):=⟨(erase_sub.map (·.1)).nodup hh.nd,fun c o hm=>hh.ok c o (erase_sub.subset hm)⟩
 obtain ⟨_,ad,cx,hx,_⟩:=hda K w x hsub hrx
 -- the world behind copyCheck
 have hstep:∀w1:World,One b w w1->Keep (fun o=>∃j,o= .cell b j) (fun c=>c=b) K w (relab (wφ b) K) w1:=by
  intro w1 h1
  have hne:∀{c:Nat} {y:BK},K c=y->y≠ .tok 0 (.cell b 0)->c≠b:=fun q1 q2 e=>by rw [e,hK] at q1;exact q2 q1.symm
  refine ⟨⟨h1.os,h1.tape,h1.output,by rw [h1.size];exact Ms _,fun c _ hc=>⟨relab_imm.2 hc,h1.other c (hne hc (by simp))⟩,fun c n o hc hn=>⟨n,_,qK hc,Ms _,fun i _=>qX (h1.other c (hne hc (by intro e;injection e with e1 _;omega))) i⟩,fun c hc=>.inl (relab_priv.2 hc)⟩,fun c n o hc hnE=>?_,fun c n hc=>?_,fun c hc hcb=>⟨relab_priv.2 hc,h1.other c hcb⟩⟩
  ·refine ⟨?_,h1.other c (hne hc (by intro e;injection e with _ e2;exact hnE ⟨0,e2⟩))⟩
   rw [qK hc,wφ,if_neg (fun e=>hnE ⟨1,e⟩)]
  ·obtain ⟨o',q1,q2⟩:=ku hc
   unfold wφ at q2
   split at q2
   ·cases q2
   ·exact q2▸q1
 subst hx
 have hwr:=Gx (m:=m.length) (cx:=cx) (ad:=ad) hw hp (Good:=fun w1 r w2=>∃K',Keep (fun o=>o= .slot 0 0) aN (relab (wφ b) K) w1 K' w2∧KRel K' w2∧HRel K' w2 (qI H b)∧OwnAt K' w2 (.slot 1 0) ((l++m).map qh) r∧
   ∃g cap c,l++m≠ []∧r= .slice (some ⟨g,0,none⟩) (l++m).length cap∧w2.heap[g]?=some (.cells c 5 (0,0))) (fun w1 hb1 ho1=>by
  have hk1:=hstep w1 ho1
  have hkr:KRel (relab (wφ b) K) w1:=fun c hc=>relab_imm.2 (hk c (by rw [<-ho1.size];exact hc))
  have hh1:HRel (relab (wφ b) K) w1 (qI H b):=hsub.keep hk1 (fun c o hm=>⟨kJ hh.nd hm,fun j ⟨q,e⟩=>kJ hh.nd hm (by injection e)⟩)
  obtain ⟨hs,ad',cx',e1,e2⟩:=hda _ w1 _ hh1 (hrx.mono hk1.ext)
  injection e1 with e3 e4 e5
  injection e3 with e3
  subst e3 e5
  have hgne:∀c n,K c= .tok n (.cell b 1)->c≠b:=fun c n hc e=>by subst e;rw [hK] at hc;injection hc with _ e;injection e with _ e;cases e
  have ho1':OwnAt (relab (wφ b) K) w1 (.slot 0 0) (l.map qh) v:=by
   have q:OwnAt K w1 (.cell b 1) (l.map qh) v:=JW ho fun c n hc=>⟨hc,ho1.other c (hgne c n hc)⟩
   have:=ue (φ:=wφ b) q
   simpa [wφ] using this
  have ht1:(l= []∧v= .slice none 0 0)∨∃g cap c,l≠ []∧v= .slice (some ⟨g,0,none⟩) l.length cap∧w1.heap[g]?=some (.cells c 5 (0,0)):=by
   rcases ht with ht|⟨g,cap,c,q1,q2,q3⟩
   ·exact .inl ht
   ·refine .inr ⟨g,cap,c,q1,q2,?_⟩
    rw [ho1.other g (fun e=>by subst e;rw [hw] at q3;injection q3 with q3;injection q3 with _ q3;exact absurd q3 (by decide))]
    exact q3
  obtain ⟨r,K',w2,g1,g2,g3,g4,g5,g6⟩:=cz hkr hh1 ho1' ht1 hm hlen hs rfl e2
  refine ⟨r,w2,g1,?_,?_,K',g2,g3,g4,g5,g6⟩
  ·obtain ⟨g,cap,c,_,q,_⟩:=g6
   exact ⟨_,_,_,q⟩
  ·exact (g2.own b 0 (.cell b 0) (by rw [qK hK];simp [wφ]) (by simp)).2)
 refine hwr.mono ?_
 rintro e w3 ⟨rfl,w1,r,w2,hb1,ho1,hb2,⟨K',g2,g3,g4,g5,g6⟩,rfl⟩
 have hk1:=hstep w1 ho1
 have hbK:=g2.own b 0 (.cell b 0) (by rw [qK hK];simp [wφ]) (by simp)
 have hw2:w2.heap[b]?=some (.cells #[.pointer (some ⟨b,0,none⟩),v] 114 (0,0)):=hb2.trans hb1
 have hnew:=heap_setCell_same w2 b 1 _ _ r hw2
 have ho3:=One.set b 1 w2 r
 have hbl2:b<w2.heap.size:=(Array.getElem?_eq_some_iff.1 hw2).1
 generalize hw3:w2.setCell ⟨b,1,none⟩ r=w3 at hnew ho3 ⊢
 have hne:∀{c:Nat} {y:BK},K' c=y->y≠ .tok 0 (.cell b 0)->c≠b:=fun q1 q2 e=>by rw [e,hbK.1] at q1;exact q2 q1.symm
 have hk3:Keep (fun o=>o= .slot 1 0∨∃j,o= .cell b j) (fun c=>c=b) K' w2 (relab (wψ b) K') w3:=by
  refine ⟨⟨ho3.os,ho3.tape,ho3.output,by rw [ho3.size];exact Ms _,fun c _ hc=>⟨relab_imm.2 hc,ho3.other c (hne hc (by simp))⟩,fun c n o hc hn=>⟨n,_,qK hc,Ms _,fun i _=>qX (ho3.other c (hne hc (by intro e;injection e with e1 _;omega))) i⟩,fun c hc=>.inl (relab_priv.2 hc)⟩,fun c n o hc hnE=>?_,fun c n hc=>?_,fun c hc hcb=>⟨relab_priv.2 hc,ho3.other c hcb⟩⟩
  ·refine ⟨?_,ho3.other c (hne hc (by intro e;injection e with _ e2;exact hnE (.inr ⟨0,e2⟩)))⟩
   rw [qK hc,wψ,if_neg (fun e=>hnE (.inl e))]
  ·obtain ⟨o',q1,q2⟩:=ku hc
   unfold wψ at q2
   split at q2
   ·cases q2
   ·exact q2▸q1
 have hh3:HRel (relab (wψ b) K') w3 (qI H b):=g4.keep hk3 (fun c o hm=>⟨kJ hh.nd hm,fun j e=>by
  rcases e with e|⟨q,e⟩
  ·cases e
  ·exact kJ hh.nd hm (by injection e)⟩)
 refine ⟨_,_,_,relab (wψ b) K',rfl,h,?_,fun c hc=>relab_imm.2 (g3 c (by rw [<-ho3.size];exact hc)),⟨by rw [ko];exact hh.nd,fun c o hm=>?_⟩,?_⟩
 ·exact ((hk1.fk (fun ⟨_,e⟩=>by cases e)).trans (g2.fk (by simp))).trans (hk3.fk (by simp))
 ·rcases yD hh.nd hm with ⟨rfl,rfl⟩|⟨q1,q2⟩
  ·have hbk:relab (wψ c) K' c= .tok 0 (.cell c 0):=by rw [qK hbK.1];simp [wψ]
   refine ⟨⟨0,0,hbk⟩,⟨hbk,_,r,hnew,.inr rfl,?_,.inr ?_⟩,BldJ.ok⟩
   ·have q:OwnAt K' w3 (.slot 1 0) ((l++m).map qh) r:=JW g5 fun d n hd=>⟨hd,ho3.other d (hne hd (by simp))⟩
    have:=ue (φ:=wψ c) q
    simpa [wψ] using this
   ·obtain ⟨g,cap,cc,q3,q4,q5⟩:=g6
    refine ⟨g,cap,cc,q3,q4,?_⟩
    rw [ho3.other g (fun e=>by subst e;rw [hw2] at q5;injection q5 with q5;injection q5 with _ q5;exact absurd q5 (by decide))]
    exact q5
  ·exact hh3.ok c o (VX q2 q1)
 ·refine ⟨_,rfl,rfl,fun i d u hd hu=>?_⟩
  match i,hd,hu with
  | 0,hd,hu=>
   simp only [Mm,Option.some.injEq] at hd
   subst hd
   simp at hu
   subst hu
   exact .int _ _ (by rw [kX];omega)
  | 1,hd,hu=>
   simp only [List.getElem?_cons_succ,Mm,Option.some.injEq] at hd
   subst hd
   exact .any _
  |i+2,hd,hu=>simp at hd
end Go.Proofs.YtgopigkdcmhbbaaGreatDoor
end
section
namespace Go.Proofs.YtgopigkdcmhbbaaGreatDoor
open Go Go.Aw Go.Shelf Go.RowKit Go.Proofs
theorem fH (hw:w.heap[b]?=some (.cells #[p,.slice (some ⟨g,0,none⟩) l.length cap] 114 (0,0))) (h0:l≠ []) (hlen:l.length<=1000000)
  (hg:w.heap[g]?=some (.cells cur 5 (0,0))) (hnc:l.length<=cap) (hcs:cur.size=cap) (hc:∀j x,l[j]?=some x->w.cell? ⟨g,j,none⟩=some (.int .u8 x.toNat)):
  Calls Tryz.prog 66 #[.pointer (some ⟨b,0,none⟩)] w fun e w'=>e= .returned (.string ⟨l.toArray⟩)∧w'=w.drew.freeze ⟨g,0,none⟩ l.length:=by
 have hl0:0<l.length:=List.length_pos_iff.2 h0
 have c1:w.drew.cell? ⟨b,1,none⟩=some (.slice (some ⟨g,0,none⟩) l.length cap):=by
  have:w.drew.heap[b]?=some (.cells #[p,.slice (some ⟨g,0,none⟩) l.length cap] 114 (0,0)):=hw
  rw [Lib.cell_of_heap this];rfl
 have hSD:(Builtin.unsafeSliceData_ #[55] 165 #[.slice (some ⟨g,0,none⟩) l.length cap]).run Tryz.prog w.drew= .ok (.pointer (some ⟨g,0,none⟩)) w.drew:=
  Lib.run_unsafeSliceData_row _ _ _ _ _ _ (by omega)
 have hUS:(Builtin.unsafeString_ #[165,3] 9 #[.pointer (some ⟨g,0,none⟩),.int .i64 l.length]).run Tryz.prog w.drew= .ok (.string ⟨l.toArray⟩) (w.drew.freeze ⟨g,0,none⟩ l.length):=by
  refine Lib.run_unsafeString_row w.drew 165 3 9 5 (by kernel_rfl) (by kernel_rfl) g cur.size (by have hg':w.drew.heap[g]?=some (.cells cur 5 (0,0)):=hg;simp [World.shape?,hg']) l h0 (by omega) (by omega) ?_
  intro j x hx
  have:=hc j x hx
  by_cases hj:j=0
  ·subst hj;simpa [Addr.add] using this
  ·simpa [Addr.add,hj] using this
 have mixed:Tryz.prog.follows .mixedOrders=true:=hmm
 go_enter Tryz.func66,Tryz.ntmps66
 go_wp2
 go_region_o
 all_goals (go_wp2;go_ret;exact ⟨rfl,rfl⟩)
theorem fj (h:l.length<=big):RepV K w (.str l) (.string ⟨l.toArray⟩):=by
 have:=@RepV.str K w l h
 exact this
theorem YH {R:D->AH->Prop} (hg:qk H b=some (.lp (BldJ b l) [])) (h0:l≠ []) (hlen:l.length<=1000000) (h:R (.str l) (qI H b)):ACall Tryz.prog 66 [.ptr b 0] H R:=by
 have hbig:=qn
 refine ⟨by kernel_rfl,fun K w vs hk hns hh hl hr=>?_⟩
 obtain ⟨v0,rfl⟩:∃v,vs=#[v]:=by
  obtain ⟨l⟩:=vs
  match l,hl with
  | [v],_=>exact ⟨v,rfl⟩
 have hv:v0= .pointer (some ⟨b,0,none⟩):=(hr 0 _ v0 rfl rfl).ptr_inv
 subst hv
 obtain ⟨_,⟨hK,p,v,hw,hp,ho,ht⟩,_⟩:=hh.ok b _ (qR hg)
 rcases ht with ⟨e,_⟩|⟨g,cap,c,_,rfl,hgc⟩
 ·exact (h0 e).elim
 rcases ho with ⟨ho,_⟩|⟨g',cap',sz,c',T,hv,q1,q2,q3,q4,q5,q6,q7,q8,q9⟩
 ·exact (h0 (by simpa using ho)).elim
 injection hv with e1 e2 e3
 injection e1 with e1
 injection e1 with e1
 subst e1 e3
 rw [q2] at hgc
 injection hgc with hgc
 injection hgc with hc1 hc2
 subst hc1 hc2
 have hsz:sz=1:=by
  have:=q8 0 _ (Mb q4)
  simpa [qh] using this.symm
 subst hsz
 have hgne:∀{d:Nat} {y:BK},K d=y->(∀n,y≠ .tok n (.cell b 1))->d≠g:=fun e1 e2 e=>by rw [e,q1] at e1;exact e2 _ e1.symm
 refine (fH hw h0 hlen q2 (by simpa using q5) (by simpa using q3) (fun j x hx=>?_)).mono ?_
 ·obtain ⟨u,g1,_,g3⟩:=q9 j (qh x) (by rw [Me,hx];rfl) 0 _ rfl
  obtain ⟨rfl,_⟩:=g3.int_inv
  rw [jT q2]
  simpa using g1
 ·rintro e w' ⟨rfl,rfl⟩
  have hoth:∀d,d≠g->(w.drew.freeze ⟨g,0,none⟩ l.length).heap[d]?=w.heap[d]?:=fun d hd=>by
   unfold World.freeze
   split
   ·rfl
   ·simp only [Array.getElem?_modify]
    rw [if_neg (fun e=>hd e.symm)]
    rfl
  have hcell:∀d j,(w.drew.freeze ⟨g,0,none⟩ l.length).cell? ⟨d,j,none⟩=w.cell? ⟨d,j,none⟩:=fun d j=>by
   by_cases e:d=g
   ·subst e
    unfold World.freeze
    split
    ·rfl
    ·simp only [World.cell?,Array.getElem?_modify,if_true]
     have:w.drew.heap[d]?=w.heap[d]?:=rfl
     rw [this,q2]
     rfl
   ·exact qX (hoth d e) j
  have hsz:(w.drew.freeze ⟨g,0,none⟩ l.length).heap.size=w.heap.size:=by
   unfold World.freeze
   split
   ·rfl
   ·simp only [Array.size_modify]
    rfl
  have hos:(w.drew.freeze ⟨g,0,none⟩ l.length).os=w.os∧(w.drew.freeze ⟨g,0,none⟩ l.length).tape=w.tape∧(w.drew.freeze ⟨g,0,none⟩ l.length).output=w.output∧w.drawn<=(w.drew.freeze ⟨g,0,none⟩ l.length).drawn:=by
   unfold World.freeze
   split
   ·exact ⟨rfl,rfl,rfl,Nat.le_succ _⟩
   ·exact ⟨rfl,rfl,rfl,Nat.le_succ _⟩
  generalize w.drew.freeze ⟨g,0,none⟩ l.length=w' at hoth hcell hsz hos ⊢
  have hkeep:Keep (fun o=>∃j,o= .cell b j) aN K w K w':=by
   refine ⟨⟨hos.1,hos.2.1,hos.2.2,by omega,fun d _ hd=>⟨hd,hoth d (hgne hd (by simp))⟩,fun d n o hd _=>⟨n,o,hd,Ms _,fun j _=>hcell d j⟩,fun d hd=>.inl hd⟩,fun d n o hd hE=>⟨hd,hoth d (hgne hd (fun m e=>by injection e with _ e;exact hE ⟨1,e⟩))⟩,fun _ _ h=>h,fun d hd _=>⟨hd,hoth d (hgne hd (by simp))⟩⟩
  have hsub:HRel K w (qI H b):=⟨(erase_sub.map (·.1)).nodup hh.nd,fun c o hm=>hh.ok c o (erase_sub.subset hm)⟩
  exact ⟨_,_,_,K,rfl,h,hkeep.fk (fun ⟨_,e⟩=>by cases e),fun d hd=>hk d (by omega),hsub.keep hkeep (fun d o hm=>⟨fun h=>h,fun j ⟨q,e⟩=>kJ hh.nd hm (by injection e)⟩),fj (by omega)⟩
end Go.Proofs.YtgopigkdcmhbbaaGreatDoor
end
section
namespace Go.Proofs.YtgopigkdcmhbbaaGreatDoor
open Go Go.Aw
theorem dk (hb:qz H b):Aw.Sub H ((b,o)::H):=Sub.of fun c x hc=>(qg (qD hb hc)).trans hc
theorem GU (h:Aw.Sub H H1) (g:∀b o,qk H1 b=some o->qk H2 b=some o):Aw.Sub H H2:=fun b o hb=>by
 obtain ⟨o',h1,h2⟩:=h b o hb
 exact ⟨o',g b o' h1,h2⟩
def jD (val:Nat->List UInt8):Nat->List UInt8
 |0=>[]
 |n+1=>jD val n++val n
theorem yj (h:∀n,(val n).length=16):∀n,(jD val n).length=16*n
 |0=>rfl
 |n+1=>by rw [jD,Mi,yj h n,h];omega
theorem VG (seed:List UInt8) (i:Int):∀n,VL seed i n=jD (fun c=>wU i c (yQ seed i c) 0 3) n
 |0=>rfl
 |n+1=>by rw [VL,jD,VG seed i n]
theorem Wz {b5} (hg:qk (qI H b) b5=some (.cells (jr v))) (hv:v.length=16) (K:Nat->BK) (w:World) (x:Value) (hh:HRel K w (qI H b)) (hr:RepV K w (.hso b5 0 16) x):
  Src Tryz.prog w K 1 (v.map qh) x∧∃ad c,x= .slice (some ad) v.length c∧∀j y,v[j]?=some y->w.cell? (ad.add j)=some (.int .u8 y.toNat):=by
 have h1:=JJ (P:=Tryz.prog) hh hr hg (by rw [qx,hv];exact Ms _)
 have he:(((jr v).drop 0).take 16).map (fun e=>[e.view1])=v.map qh:=by
  rw [List.drop_zero,qZ hv]
  simp only [jr,M5]
  rfl
 rw [he] at h1
 refine ⟨h1,?_⟩
 obtain ⟨cap,rfl,_,_,_,_⟩:=hr.hso_inv
 obtain ⟨_,c,T,hb,hc,hcell⟩:=hh.ok b5 _ (qR hg)
 refine ⟨_,cap,by rw [hv],fun j y hj=>?_⟩
 obtain ⟨u,e1,_,e3⟩:=hcell j (.int .u8 (y.toNat:Int)) (by simp [jr,hj,bD])
 obtain ⟨rfl,_⟩:=e3.int_inv
 have:w.cell? ⟨b5,j,none⟩=some (.int .u8 (y.toNat:Int)):=by rw [jT hb];exact e1
 by_cases hj0:j=0
 ·subst hj0;simpa [Addr.add] using this
 ·simpa [Addr.add,hj0] using this
theorem ce {R:D->AH->Prop} (hg:Kst H) (hl:∀n,(val n).length=16)
  (hval:∀n:Nat,n<68->∀H1,Aw.Sub H H1->∀R:D->AH->Prop,R (.agg (jr (val n))) H1->ACall Tryz.prog g (um [.i (n:Int)] caps) H1 R)
  (h:R (.agg (jr (ky 1 [ky 9 [jD val 68]]))) H):ACall Tryz.prog 53 [.fn g caps] H R:=by
 refine b53 fun hf=>?_
 have hbig:=qn
 simp+contextual only [x53,↓tX,↓XP,ql,qa,↓XI]
 intro b2 h2
 refine QC (fun b=>BldJ b []) (fun b K w h1 h2=>⟨h1,_,_,h2,.inl rfl,.inl ⟨rfl,none,rfl⟩,.inl ⟨rfl,rfl⟩⟩) (fun b=>BldJ.ok) (by intro w;exact Tryz.zeroValue114 w) ?_
 intro b3 h3
 obtain ⟨n32,f3⟩:=h3
 simp+contextual only [qA]
 obtain ⟨t,ht⟩:∃t:Nat,t=68:=⟨_,rfl⟩
 have hh:R (.agg (jr (ky 1 [ky 9 [jD val t]]))) H:=by rw [ht];exact h
 clear h
 refine XW.loopS hmm 23 (fun n:Nat=>[(0,.fn g caps),(2,.ptr b2 0),(3,.ptr b3 0),(7,.i (n:Int))]) (fun n=>(b3,.lp (BldJ b3 (jD val n)) [])::(b2,.cells (barr 16 []))::H) (fun n=>t - n) (fun n=>n<=t) 0 (Nat.zero_le _) ⟨rfl,rfl,rfl,rfl,rfl,trivial⟩ rfl ?_
 intro n z hn K hN hE hR
 dsimp only [fl,zz,qa,qb]
 have hkl:=yj hl n
 have hst:jD val (n+1)=jD val n++val n:=rfl
 have hh2:n=t->R (.agg (jr (ky 1 [ky 9 [jD val n]]))) H:=fun e=>by rw [e];exact hh
 generalize jD val n=w at hkl hst hh2
 have hg2:Kst ((b2,.cells (barr 16 []))::H):=hg.push h2
 have hs3:Aw.Sub H ((b3,.lp (BldJ b3 w) [])::(b2,.cells (barr 16 []))::H):=GU (dk h2) fun c o hc=>(qg (qD (H:=(b2,.cells (barr 16 []))::H) ⟨n32,f3⟩ hc)).trans hc
 by_cases hlt:n<t
 ·have hlt':((n:Int)<68)=True:=qC
  simp+contextual only [hlt',↓tX,↓XP,qA]
  refine hval n (by omega) _ hs3 _ ?_
  have hvl:=hl n
  generalize val n=v at hvl hst
  simp+contextual only [qx,Nat.mul_one,Nat.sub_zero,hvl,↓J5,ql,XW1,qb,qe,↓XH]
  intro b5 h5
  obtain ⟨n53,n52,f5⟩:=h5
  have hge:qk (qI ((b5,.cells (jr v))::(b3,.lp (BldJ b3 w) [])::(b2,.cells (barr 16 []))::H) b3) b5=some (.cells (jr v)):=by simp [qI,qk,n53]
  refine gr (l:=w) (m:=v) (by simp [qk,n53]) (by intro e;rw [e] at hvl;simp at hvl) (by omega) (Wz hge hvl) ?_
  simp+contextual only [qi,n53,<-hst,↓XP,qA,XW1]
  rw [qm (by omega)]
  exact hN (n+1) _ _ (by omega) (by omega) ⟨rfl,rfl,rfl,rfl,rfl,trivial⟩ (yX rfl)
 ·have hnt:n=t:=by omega
  have hlt':((n:Int)<68)=False:=qY
  simp+contextual only [hlt',↓tX,↓XP,qA]
  apply hE
  have h:=hh2 hnt
  simp+contextual only [↓tX,↓XP,qA,XW1]
  have hwn:w≠ []:=by intro e;rw [e] at hkl;simp at hkl;omega
  refine YH (l:=w) (by simp [qk]) hwn (by omega) ?_
  simp+contextual only [Nat.mul_one,uB,↓XP,ql,XW1,qe]
  refine fun _=>WZ (c:=9) (l:= [w]) hg2 (by decide) (by simp) (fun x hx=>by rw [List.mem_singleton.1 hx];omega) ?_
  have h9:=kR 9 [w]
  generalize ky 9 [w]=k9 at h9 h
  simp+contextual only [qx,Nat.mul_one,Nat.sub_zero,h9,↓tX,↓J5,ql,XW1,qb,qe,↓XH]
  intro b6 h6
  obtain ⟨n62,f6⟩:=h6
  simp+contextual only [qx,h9,qZ h9,zQ]
  have hg3:Kst ((b6,.cells (jr k9))::(b2,.cells (barr 16 []))::H):=hg2.push ⟨Ne.symm n62,f6⟩
  refine ⟨od _,fun _=>WZ (c:=1) (l:= [k9]) hg3 (by decide) (by simp) (fun x hx=>by rw [List.mem_singleton.1 hx];omega) ?_⟩
  have h1:=kR 1 [k9]
  generalize ky 1 [k9]=k1 at h1 h
  simp+contextual only [qx,qg,qi,n62,h1,qZ h1,jp,show (barr 16 []).drop 16= [] from rfl,show (barr 16 []).length=16 from rfl,↓XP,ql,XW1]
  exact h
end Go.Proofs.YtgopigkdcmhbbaaGreatDoor
end
section
namespace Go.Aw
open Go Go.RowKit
theorem XW.loopSR (hm:P.follows .mixedOrders=true) {σ:Type} (n:Nat) (fr:σ->List (Nat×D)) (hp:σ->AH) (μ:σ->Nat) (inv:σ->Prop) (s0:σ)
  (i0:inv s0) (f0:Fr n (fr s0) F) (e0:hp s0=H)
  (round:∀s (z:Nat->D),inv s->∀K:AQ,(∀s' F' H',inv s'->μ s'<μ s->Fr n (fr s') F'->Sbn (hp s') H'->K .normal F' H')->(∀i F' H',Q (.exit i) F' H'->K (.exit i) F' H')->(∀F' H',Q .ret F' H'->K .ret F' H')->
   xcode P x (fl (fr s) z 0 n) (hp s) K) (hs:∀s,fso (fr s) 0 n=true:=by exact fun _=>rfl):XW P x F H Q:=by
 let I:Nat->List D->AH->Prop:=fun m F H=>∃s,inv s∧Fr n (fr s) F∧hp s=H∧μ s=m
 refine XW.loopKR hm (fun F H=>∃m,I m F H) (fun F H=>open Classical in if h:∃m,I m F H then Classical.choose (least (fun m=>I m F H) h.choose h.choose_spec) else 0) ⟨_,s0,i0,f0,e0,rfl⟩ ?_
 intro F H hI K hN hE hR
 have hmin:=Classical.choose_spec (least (fun m=>I m F H) hI.choose hI.choose_spec)
 simp only [dif_pos hI] at hN
 generalize Classical.choose (least (fun m=>I m F H) hI.choose hI.choose_spec)=m at hmin hN
 obtain ⟨⟨s,h1,h2,h3,h4⟩,hl⟩:=hmin
 obtain ⟨z,rfl⟩:=h2.fl (hs _)
 subst h3 h4
 refine round s z h1 K (fun s' F' H' g1 g2 g3 g4=>hN F' H' _ g4 ⟨_,s',g1,g3,rfl,rfl⟩ ?_) hE hR
 have hex:∃m,I m F' (hp s'):=⟨_,s',g1,g3,rfl,rfl⟩
 simp only [dif_pos hex]
 have hmin':=Classical.choose_spec (least (fun m=>I m F' (hp s')) hex.choose hex.choose_spec)
 generalize Classical.choose (least (fun m=>I m F' (hp s')) hex.choose hex.choose_spec)=m' at hmin'
 have:m'<=μ s':=Nat.le_of_not_lt fun hlt=>hmin'.2 _ hlt ⟨s',g1,g3,rfl,rfl⟩
 omega
section
variable {κ α:Type} [DecidableEq κ]
def QJ:List (κ×α)->κ->Option α
 | [],_=>none
 |p::r,k=>if k=p.1 then some p.2 else QJ r k
def YY:List (κ×α)->κ->α->List (κ×α)
 | [],k,v=>[(k,v)]
 |p::r,k,v=>if k=p.1 then (k,v)::r else p::YY r k v
theorem eG {m:List (κ×α)} {k:κ} {v:α} (h:QJ m k=some v):(k,v)∈m:=by
 induction m with
 |nil=>cases h
 | cons p r ih=>
  simp only [QJ] at h
  split at h
  ·rename_i e
   injection h with h
   subst e h
   exact .head _
  ·exact .tail _ (ih h)
theorem fW {m:List (κ×α)} {k:κ} {v:α} {p:κ×α} (h:p∈YY m k v):p=(k,v)∨p∈m:=by
 induction m with
 |nil=>exact .inl (by simpa [YY] using h)
 | cons q r ih=>
  unfold YY at h
  split at h
  ·rcases List.mem_cons.1 h with h|h
   ·exact .inl h
   ·exact .inr (.tail _ h)
  ·rcases List.mem_cons.1 h with h|h
   ·exact .inr (h▸ .head _)
   ·rcases ih h with h|h
    ·exact .inl h
    ·exact .inr (.tail _ h)
structure KeyOk (kc:κ->List D) (l:List CT):Prop where
 eq:∀a b,eqCells (kc a) (kc b)=decide (a=b)
 fit:∀a,fits l (kc a)
 same:∀a b,sameK (kc a) (kc b)
variable {kc:κ->List D} {l:List CT} {vd:α->D} {m:List (κ×α)} {k:κ}
def wV (kc:κ->List D) (vd:α->D) (m:List (κ×α)):List (D×D):=m.map fun p=>(.agg (kc p.1),vd p.2)
theorem Y2 (h:KeyOk kc l):ya true l (wV kc vd m) (.agg (kc k)):=by
 refine ⟨rfl,h.fit k,fun p hp=>?_⟩
 obtain ⟨q,_,rfl⟩:=List.mem_map.1 hp
 exact ⟨rfl,h.fit _,h.same _ _⟩
theorem GZ (h:KeyOk kc l):kY (wV kc vd m) (kc k)=(QJ m k).map vd:=by
 induction m with
 |nil=>rfl
 | cons p r ih=>
  show (if eqCells (kc k) (cellsOf (.agg (kc p.1)))=true then some (vd p.2) else kY (wV kc vd r) (kc k))=_
  rw [show cellsOf (.agg (kc p.1))=kc p.1 from rfl,h.eq,ih]
  simp only [QJ,decide_eq_true_eq]
  split<;>rfl
theorem dC (h:KeyOk kc l):o5 (wV kc vd m) (.agg (kc k)) (vd v)=wV kc vd (YY m k v):=by
 induction m with
 |nil=>rfl
 | cons p r ih=>
  show (if eqCells (kc k) (cellsOf (.agg (kc p.1)))=true then (.agg (kc k),vd v)::wV kc vd r else (.agg (kc p.1),vd p.2)::o5 (wV kc vd r) (.agg (kc k)) (vd v))=_
  rw [show cellsOf (.agg (kc p.1))=kc p.1 from rfl,h.eq,ih]
  simp only [YY,decide_eq_true_eq]
  split<;>rfl
end
end Go.Aw
end
