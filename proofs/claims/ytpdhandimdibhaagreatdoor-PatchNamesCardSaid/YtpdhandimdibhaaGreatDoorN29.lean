/- A part of the proof of what the last text says: Gu1, Gt7, Ha6, Ha7, Ha8, Ha9. Conditions: those in each theorem. -/
import Derived.Test.YtpdhandimdibhaaGreatDoorN28
set_option linter.unusedVariables false
set_option linter.unusedSimpArgs false
set_option maxRecDepth 100000
set_option maxHeartbeats 16000000
open Nat renaming reduceSub → qa,reduceAdd → qb,reduceMul → qc,reduceEqDiff → qd,reduceLeDiff → qe,reduceBEq → qf
section
namespace Go.Proofs.YtpdhandimdibhaaGreatDoor
open Go Go.Aw
theorem pk4 {l:List Int} {B:Int} {r:Nat} (h:(∀x∈l,x≤B)∧0≤B):l.getD r 0≤B:=by
 rcases Nat.lt_or_ge r l.length with c|c
 ·have e:l.getD r 0=l[r]:=by simp [c]
  rw [e];exact h.1 _ (List.getElem_mem c)
 ·have e:l.getD r 0=0:=by simp [List.getD,List.getElem?_eq_none c]
  rw [e];exact h.2
theorem sp_sz0 {n kk:Nat} {p:Pt} {near bb:Int} (hn:n≤900) (hp:Sz n p) (hk:kk<p.ops.length):Sz (n+14) ({p with o:=near}):=by
 have ho:=qN hk
 have o1:=hp.ids _ ho
 have o2:=hp.name _ ho
 have o3:=hp.text _ ho
 exact hp.same rfl rfl rfl
theorem sp_sz1 {n kk:Nat} {p:Pt} {near bb:Int} (hn:n≤900) (hp:Sz n p) (hk:kk<p.ops.length):Sz (n+14) ({p with s:=near}):=by
 have ho:=qN hk
 have o1:=hp.ids _ ho
 have o2:=hp.name _ ho
 have o3:=hp.text _ ho
 exact hp.same rfl rfl rfl
theorem sp_sz2 {n kk:Nat} {p:Pt} {near bb:Int} (hn:n≤900) (hp:Sz n p) (hk:kk<p.ops.length):Sz (n+14) ({p with day:=([0,1,1048576,1048577,bb]:List Int).getD (around bb 5).toNat 0}):=by
 have ho:=qN hk
 have o1:=hp.ids _ ho
 have o2:=hp.name _ ho
 have o3:=hp.text _ ho
 exact hp.same rfl rfl rfl
theorem sp_sz3 {n kk:Nat} {p:Pt} {near bb:Int} (hn:n≤900) (hp:Sz n p) (hk:kk<p.ops.length):Sz (n+14) ({p with needs:=p.needs++ [⟨IntKind.i64.wrap (around bb 10 - 1),IntKind.i64.wrap (around (IntKind.i64.wrap (bb.tdiv 10)) 19 - 1)⟩]}):=by
 have ho:=qN hk
 have o1:=hp.ids _ ho
 have o2:=hp.name _ ho
 have o3:=hp.text _ ho
 exact ⟨by have:=hp.ops;simp only;omega,by have:=hp.needs;simp only [List.length_append,List.length_singleton];omega,fun o ho=>by have:=hp.ids o ho;omega,hp.name,hp.text,hp.sl⟩
theorem sp_sz4 {n kk:Nat} {p:Pt} {near bb:Int} (hn:n≤900) (hp:Sz n p) (hk:kk<p.ops.length):Sz (n+14) ({p with ops:= []}):=by
 have ho:=qN hk
 have o1:=hp.ids _ ho
 have o2:=hp.name _ ho
 have o3:=hp.text _ ho
 exact ⟨Nat.zero_le _,by have:=hp.needs;simp only;omega,(by simp),(by simp),(by simp),hp.sl⟩
theorem sp_sz5 {n kk:Nat} {p:Pt} {near bb:Int} (hn:n≤900) (hp:Sz n p) (hk:kk<p.ops.length):Sz (n+14) ({p with ops:=p.ops++List.replicate 14 (p.ops.getD kk default)}):=by
 have ho:=qN hk
 have o1:=hp.ids _ ho
 have o2:=hp.name _ ho
 have o3:=hp.text _ ho
 exact hp.more (m:=14) (by simp) (fun o h=>by rw [(List.mem_replicate.1 h).2];exact o1) (fun o h=>by rw [(List.mem_replicate.1 h).2];exact o2) (fun o h=>by rw [(List.mem_replicate.1 h).2];exact o3)
theorem sp_sz6 {n kk:Nat} {p:Pt} {near bb:Int} (hn:n≤900) (hp:Sz n p) (hk:kk<p.ops.length):Sz (n+14) ({p with ops:=p.ops.set kk {(p.ops.getD kk default) with k:=near}}):=by
 have ho:=qN hk
 have o1:=hp.ids _ ho
 have o2:=hp.name _ ho
 have o3:=hp.text _ ho
 exact (hp.setOp (by simp only;omega) (by simp only;omega) (by simp only;omega))
theorem sp_sz7 {n kk:Nat} {p:Pt} {near bb:Int} (hn:n≤900) (hp:Sz n p) (hk:kk<p.ops.length):Sz (n+14) ({p with ops:=p.ops.set kk {(p.ops.getD kk default) with on:=⟨near,around bb 19,IntKind.i64.wrap (around (IntKind.i64.wrap (bb.tdiv 5)) 18 - 1)⟩}}):=by
 have ho:=qN hk
 have o1:=hp.ids _ ho
 have o2:=hp.name _ ho
 have o3:=hp.text _ ho
 exact (hp.setOp (by simp only;omega) (by simp only;omega) (by simp only;omega))
theorem sp_sz8 {n kk:Nat} {p:Pt} {near bb:Int} (hn:n≤900) (hp:Sz n p) (hk:kk<p.ops.length):Sz (n+14) ({p with ops:=p.ops.set kk {(p.ops.getD kk default) with to:=⟨around bb 9,near,IntKind.i64.wrap (around (IntKind.i64.wrap (bb.tdiv 5)) 18 - 1)⟩}}):=by
 have ho:=qN hk
 have o1:=hp.ids _ ho
 have o2:=hp.name _ ho
 have o3:=hp.text _ ho
 exact (hp.setOp (by simp only;omega) (by simp only;omega) (by simp only;omega))
theorem sp_sz9 {n kk:Nat} {p:Pt} {near bb:Int} (hn:n≤900) (hp:Sz n p) (hk:kk<p.ops.length):Sz (n+14) ({p with ops:=p.ops.set kk {(p.ops.getD kk default) with to:=(p.ops.getD kk default).on}}):=by
 have ho:=qN hk
 have o1:=hp.ids _ ho
 have o2:=hp.name _ ho
 have o3:=hp.text _ ho
 exact (hp.setOp (by simp only;omega) (by simp only;omega) (by simp only;omega))
theorem sp_sz10 {n kk:Nat} {p:Pt} {near bb:Int} (hn:n≤900) (hp:Sz n p) (hk:kk<p.ops.length):Sz (n+14) ({p with ops:=p.ops.set kk {(p.ops.getD kk default) with n:=([-2,-1,0,1,2,1023,1024,1048576,1048577,bb]:List Int).getD (around bb 10).toNat 0}}):=by
 have ho:=qN hk
 have o1:=hp.ids _ ho
 have o2:=hp.name _ ho
 have o3:=hp.text _ ho
 exact (hp.setOp (by simp only;omega) (by simp only;omega) (by simp only;omega))
theorem sp_sz11 {n kk:Nat} {p:Pt} {near bb:Int} (hn:n≤900) (hp:Sz n p) (hk:kk<p.ops.length):Sz (n+14) ({p with ops:=p.ops.set kk {(p.ops.getD kk default) with name:=List.take (around bb 18).toNat [115,105,120,116,101,101,110,32,108,101,116,116,101,114,115,33,33]}}):=by
 have ho:=qN hk
 have o1:=hp.ids _ ho
 have o2:=hp.name _ ho
 have o3:=hp.text _ ho
 exact (hp.setOp (by simp only;omega) (by simp only [List.length_take,List.length_cons,List.length_nil];omega) (by simp only;omega))
theorem sp_sz12 {n kk:Nat} {p:Pt} {near bb:Int} (hn:n≤900) (hp:Sz n p) (hk:kk<p.ops.length):Sz (n+14) ({p with ops:=p.ops.set kk {(p.ops.getD kk default) with text:=List.map unbyte (List.replicate (([0,1,1024,1025]:List Int).getD (around bb 4).toNat 0).toNat [D.int .u8 0])}}):=by
 have ho:=qN hk
 have o1:=hp.ids _ ho
 have o2:=hp.name _ ho
 have o3:=hp.text _ ho
 exact hp.setOp (by simp only;omega) (by simp only;omega) (by have:=pk4 (l:= [0,1,1024,1025]) (B:=1201) (r:=(around bb 4).toNat) (by simp);simp only [List.length_map,List.length_replicate];omega)
theorem sp_sz13 {n kk:Nat} {p:Pt} {near bb:Int} (hn:n≤900) (hp:Sz n p) (hk:kk<p.ops.length):Sz (n+14) ({p with ops:=p.ops.set kk {(p.ops.getD kk default) with a:=around bb 3,b:=around bb 5}}):=by
 have ho:=qN hk
 have o1:=hp.ids _ ho
 have o2:=hp.name _ ho
 have o3:=hp.text _ ho
 exact (hp.setOp (by simp only;omega) (by simp only;omega) (by simp only;omega))
theorem sp_sz14 {n kk:Nat} {p:Pt} {near bb:Int} (hn:n≤900) (hp:Sz n p) (hk:kk<p.ops.length):Sz (n+14) ({p with ops:=p.ops.set kk {(p.ops.getD kk default) with ids:=⟨1,1,near⟩::(p.ops.getD kk default).ids}}):=by
 have ho:=qN hk
 have o1:=hp.ids _ ho
 have o2:=hp.name _ ho
 have o3:=hp.text _ ho
 exact (hp.setOp (by simp only [List.length_cons];omega) (by simp only;omega) (by simp only;omega))
theorem sp_sz15 {n kk:Nat} {p:Pt} {near bb:Int} (hn:n≤900) (hp:Sz n p) (hk:kk<p.ops.length):Sz (n+14) ({p with ops:=p.ops.set kk ⟨16,⟨1,1,0⟩,wE,[⟨1,1,2⟩,⟨1,1,around bb 4⟩],IntKind.i64.wrap (around (IntKind.i64.wrap (bb.tdiv 4)) 5 - 2),[],[],0,0⟩}):=by
 have ho:=qN hk
 have o1:=hp.ids _ ho
 have o2:=hp.name _ ho
 have o3:=hp.text _ ho
 exact (hp.setOp (by simp only [List.length_cons,List.length_nil];omega) (by simp) (by simp))
theorem sp_sz16 {n kk:Nat} {p:Pt} {near bb:Int} (hn:n≤900) (hp:Sz n p) (hk:kk<p.ops.length):Sz (n+14) ({p with ops:=p.ops++List.replicate 7 (glO bb)}):=by
 have ho:=qN hk
 have o1:=hp.ids _ ho
 have o2:=hp.name _ ho
 have o3:=hp.text _ ho
 exact hp.more (m:=14) (by simp) (fun o h=>by rw [(List.mem_replicate.1 h).2];simp [glO,jI]) (fun o h=>by rw [(List.mem_replicate.1 h).2];simp [glO,jI]) (fun o h=>by rw [(List.mem_replicate.1 h).2];obtain ⟨r1,r2⟩:=qU (n:=bb) (most:=125) (by omega);simp only [glO,List.length_map,List.length_replicate];omega)
theorem sp_sz17 {n kk:Nat} {p:Pt} {near bb:Int} (hn:n≤900) (hp:Sz n p) (hk:kk<p.ops.length):Sz (n+14) ({p with sl:=(List.replicate (([0,1,1200,1201]:List Int).getD (around bb 4).toNat 0).toNat [D.int .u8 0]).map unbyte}):=by
 have ho:=qN hk
 have o1:=hp.ids _ ho
 have o2:=hp.name _ ho
 have o3:=hp.text _ ho
 exact ⟨by have:=hp.ops;simp only;omega,by have:=hp.needs;simp only;omega,fun o ho=>by have:=hp.ids o ho;omega,hp.name,hp.text,by have:=pk4 (l:= [0,1,1200,1201]) (B:=1201) (r:=(around bb 4).toNat) (by simp);simp only [List.length_map,List.length_replicate];omega⟩
theorem sp_sz18 {n kk:Nat} {p:Pt} {near bb:Int} (hn:n≤900) (hp:Sz n p) (hk:kk<p.ops.length):Sz (n+14) ({p with needs:=QT (7+around bb 4).toNat}):=by
 have ho:=qN hk
 have o1:=hp.ids _ ho
 have o2:=hp.name _ ho
 have o3:=hp.text _ ho
 exact ⟨by have:=hp.ops;simp only;omega,by obtain ⟨r1,r2⟩:=qU (n:=bb) (most:=4) (by omega);simp only [Yr];omega,fun o ho=>by have:=hp.ids o ho;omega,hp.name,hp.text,hp.sl⟩
theorem sp_sz19 {n kk:Nat} {p:Pt} {near bb:Int} (hn:n≤900) (hp:Sz n p) (hk:kk<p.ops.length):Sz (n+14) ({p with ops:=p.ops.set kk {(p.ops.getD kk default) with k:=IntKind.i64.wrap (1+around bb 18)}}):=by
 have ho:=qN hk
 have o1:=hp.ids _ ho
 have o2:=hp.name _ ho
 have o3:=hp.text _ ho
 exact (hp.setOp (by simp only;omega) (by simp only;omega) (by simp only;omega))
theorem UI {n:Nat} {p:Pt} (a how bb:Int) (hn:n≤900) (hp:Sz n p) (hne:0<p.ops.length):∃q,Sz (n+14) q∧∀{H:AH} {R:D→AH→Prop},R (.agg q.d) H→ACall Tryz.prog 5 [.agg p.d,.int .i64 a,.int .i64 how,.int .i64 bb] H R:=by
 obtain ⟨r1,r2⟩:=qU (n:=how) (most:=20) (by omega)
 obtain ⟨k0,k1⟩:=qU (n:=a) (most:=(p.ops.length:Int)) (by omega)
 obtain ⟨kk,hkk⟩:=Int.eq_ofNat_of_zero_le k0
 obtain ⟨near,hnr⟩:∃x,around bb 22 - 2=x:=⟨_,rfl⟩
 have hk:kk<p.ops.length:=by omega
 obtain ⟨m,hm⟩:∃m,around how 20=m:=⟨_,rfl⟩
 rw [hm] at r1 r2
 rcases (show m=0∨m=1∨m=2∨m=3∨m=4∨m=5∨m=6∨m=7∨m=8∨m=9∨m=10∨m=11∨m=12∨m=13∨m=14∨m=15∨m=16∨m=17∨m=18∨m=19 by omega) with rfl|rfl|rfl|rfl|rfl|rfl|rfl|rfl|rfl|rfl|rfl|rfl|rfl|rfl|rfl|rfl|rfl|rfl|rfl|rfl
 ·exact ⟨_,sp_sz0 (near:=near) (bb:=bb) hn hp hk,fun h=>spA hn hp hne hkk hnr fun b4 b8 F n48 hF=>spA_0 hm hn hp n48 hF h⟩
 ·exact ⟨_,sp_sz1 (near:=near) (bb:=bb) hn hp hk,fun h=>spA hn hp hne hkk hnr fun b4 b8 F n48 hF=>spA_1 hm hn hp n48 hF h⟩
 ·exact ⟨_,sp_sz2 (near:=near) (bb:=bb) hn hp hk,fun h=>spA hn hp hne hkk hnr fun b4 b8 F n48 hF=>spA_2 hm hn hp n48 hF h⟩
 ·exact ⟨_,sp_sz3 (near:=near) (bb:=bb) hn hp hk,fun h=>spA hn hp hne hkk hnr fun b4 b8 F n48 hF=>spA_3 hm hn hp n48 hF h⟩
 ·exact ⟨_,sp_sz4 (near:=near) (bb:=bb) hn hp hk,fun h=>spA hn hp hne hkk hnr fun b4 b8 F n48 hF=>spA_4 hm hn hp n48 hF h⟩
 ·exact ⟨_,sp_sz5 (near:=near) (bb:=bb) hn hp hk,fun h=>spA hn hp hne hkk hnr fun b4 b8 F n48 hF=>spA_5 hm hn hp n48 hk hF h⟩
 ·exact ⟨_,sp_sz6 (near:=near) (bb:=bb) hn hp hk,fun h=>UL hn hp hne hkk hnr fun b b4 b8 m cp F n48 n4b n8b hF=>spB_6 hm hn hp n48 n4b n8b hk hF h⟩
 ·exact ⟨_,sp_sz7 (near:=near) (bb:=bb) hn hp hk,fun h=>UL hn hp hne hkk hnr fun b b4 b8 m cp F n48 n4b n8b hF=>spB_7 hm hn hp n48 n4b n8b hk hF h⟩
 ·exact ⟨_,sp_sz8 (near:=near) (bb:=bb) hn hp hk,fun h=>UL hn hp hne hkk hnr fun b b4 b8 m cp F n48 n4b n8b hF=>spB_8 hm hn hp n48 n4b n8b hk hF h⟩
 ·exact ⟨_,sp_sz9 (near:=near) (bb:=bb) hn hp hk,fun h=>UL hn hp hne hkk hnr fun b b4 b8 m cp F n48 n4b n8b hF=>spB_9 hm hn hp n48 n4b n8b hk hF h⟩
 ·exact ⟨_,sp_sz10 (near:=near) (bb:=bb) hn hp hk,fun h=>UL hn hp hne hkk hnr fun b b4 b8 m cp F n48 n4b n8b hF=>spB_10 hm hn hp n48 n4b n8b hk hF h⟩
 ·exact ⟨_,sp_sz11 (near:=near) (bb:=bb) hn hp hk,fun h=>UL hn hp hne hkk hnr fun b b4 b8 m cp F n48 n4b n8b hF=>spB_11 hm hn hp n48 n4b n8b hk hF h⟩
 ·exact ⟨_,sp_sz12 (near:=near) (bb:=bb) hn hp hk,fun h=>UL hn hp hne hkk hnr fun b b4 b8 m cp F n48 n4b n8b hF=>spB_12 hm hn hp n48 n4b n8b hk hF h⟩
 ·exact ⟨_,sp_sz13 (near:=near) (bb:=bb) hn hp hk,fun h=>UL hn hp hne hkk hnr fun b b4 b8 m cp F n48 n4b n8b hF=>spB_13 hm hn hp n48 n4b n8b hk hF h⟩
 ·exact ⟨_,sp_sz14 (near:=near) (bb:=bb) hn hp hk,fun h=>UL hn hp hne hkk hnr fun b b4 b8 m cp F n48 n4b n8b hF=>spB_14 hm hn hp n48 n4b n8b hk hF h⟩
 ·exact ⟨_,sp_sz15 (near:=near) (bb:=bb) hn hp hk,fun h=>UL hn hp hne hkk hnr fun b b4 b8 m cp F n48 n4b n8b hF=>spB_15 hm hn hp n48 n4b n8b hk hF h⟩
 ·exact ⟨_,sp_sz16 (near:=near) (bb:=bb) hn hp hk,fun h=>spA hn hp hne hkk hnr fun b4 b8 F n48 hF=>spA_16 hm hn hp n48 hk hF h⟩
 ·exact ⟨_,sp_sz17 (near:=near) (bb:=bb) hn hp hk,fun h=>spA hn hp hne hkk hnr fun b4 b8 F n48 hF=>spA_17 hm hn hp n48 hF h⟩
 ·exact ⟨_,sp_sz18 (near:=near) (bb:=bb) hn hp hk,fun h=>spA hn hp hne hkk hnr fun b4 b8 F n48 hF=>spA_18 hm hn hp n48 hk hF h⟩
 ·exact ⟨_,sp_sz19 (near:=near) (bb:=bb) hn hp hk,fun h=>UL hn hp hne hkk hnr fun b b4 b8 m cp F n48 n4b n8b hF=>spB_19 hm hn hp n48 n4b n8b hk hF h⟩
end Go.Proofs.YtpdhandimdibhaaGreatDoor
end
section
namespace Go.Proofs.YtpdhandimdibhaaGreatDoor
open Go Go.Aw
theorem Sz.fit {n:Nat} {p:Pt} (h:Sz n p) (hn:n≤1000):Fit p:=
 ⟨by have:=h.ops;omega,by have:=h.needs;omega,fun o ho=>by have:=h.ids o ho;omega,fun o ho=>by have:=h.name o ho;omega,fun o ho=>by have:=h.text o ho;omega,by have:=h.sl;omega⟩
theorem FV.sz {p:Pt} (h:FV p):Sz 20 p:=by
 have hv:=fun o ho=>(vJ (o:=o) (h.q.T o ho).v).2.2
 exact ⟨by have:=h.ol;omega,by have:=h.nl;omega,fun o ho=>by have:=(hv o ho).1;omega,fun o ho=>by have:=(hv o ho).2.1;omega,fun o ho=>by have:=(hv o ho).2.2;omega,by rw [h.sl];simp⟩
theorem FV.ne {p:Pt} (h:FV p):0<p.ops.length:=by
 have:=h.q.ne
 cases e:p.ops with
 |nil=>exact (this e).elim
 |cons a l=>simp
end Go.Proofs.YtpdhandimdibhaaGreatDoor
end
section
namespace Go.Proofs.YtpdhandimdibhaaGreatDoor
open Go Go.Aw
def vD (p:Pt) (o:OpP):List Id3:=(o.on::o.to::o.ids).filter fun x=>decide (ye p x)
def y9 (p:Pt):List Id3:=p.ops.flatMap (vD p)
theorem Vz {p:Pt} {o:OpP}:(vD p o).length≤o.ids.length+2:=by
 have:=List.length_filter_le (fun x=>decide (ye p x)) (o.on::o.to::o.ids)
 simp only [List.length_cons] at this
 unfold vD;omega
theorem uV {p:Pt}:∀{l:List OpP} {B:Nat},(∀o∈l,o.ids.length≤B)→(l.flatMap (vD p)).length≤l.length*(B+2)
 | [],B,_=>by simp
 | o::l,B,h=>by
  have h1:=uV (p:=p) (l:=l) (B:=B) fun o ho=>h o (.tail _ ho)
  have h2:=Vz (p:=p) (o:=o)
  have h3:=h o (.head _)
  rw [List.flatMap_cons,List.length_append,List.length_cons,Nat.succ_mul]
  omega
theorem Out.get {s:Out} {p:Pt} {b1 b3 b:Nat} {o:AO} {H:AH} (h3:b≠b3) (h1:b≠b1) (hb:s.xs≠ []→b≠s.ob):qu (s.h p b1 b3 ((b,o)::H)) b=some o:=by
 obtain ⟨xs,ob,cap,rest⟩:=s
 unfold Out.h Out.r
 rw [qg h3,qg h1]
 cases xs with
 |nil=>exact jS
 | cons x r=>
  show qu ((ob,_)::(b,o)::H) b=_
  rw [qg (hb (by simp))]
  exact jS
theorem Out.ne {s:Out} {b1 b3 b:Nat} {o:AO} {H:AH} (h:s.ok b1 b3 ((b,o)::H)) (e:s.xs≠ []):b≠s.ob:=by
 have:=(h.2.2 e).2.2.1
 rw [Jz] at this
 exact this.1
theorem Out.get' {s:Out} {p:Pt} {b1 b3 b:Nat} {o:AO} {H:AH} (h:s.ok b1 b3 ((b,o)::H)) (h3:b≠b3) (h1:b≠b1):qu (s.h p b1 b3 ((b,o)::H)) b=some o:=Out.get h3 h1 (Out.ne h)
def nmF:Nat:=17
theorem Uv {p:Pt} {n:Nat} {H:AH} {R:D→AH→Prop} (hp:Sz n p) (hn:n≤1000) (h:R (.slc (qI (srt (y9 p)))) H):ACall Tryz.prog 7 [.agg p.d] H R:=by
 refine b7 fun hf=>?_
 have hbig:=qt
 have hd:=@dE p
 have hlen:=hp.ops
 have hB:(y9 p).length≤1000*1102:=Nat.le_trans (uV (B:=100+n) hp.ids) (Nat.mul_le_mul (by omega) (by omega))
 simp+contextual only [x7,hd,qi,qg,qh,↓U7,↓XP,↓XU,qn,XW1,qa,qb,qc,qd,qe,qf,reduceCtorEq]
 rintro b1 h1 b3 ⟨n13,h3⟩
 intros
 refine XW.loopSR Go.Proofs.YtpdhandimdibhaaGreatDoor.hm 32 (fun s:Nat×Out=>[(1,.ptr b1 0),(2,.own []),(3,.ptr b3 0),(4,.fn nmF [.ptr b1 0,.ptr b3 0]),(9,.slc (qE p.ops)),(10,.int .i64 p.ops.length),(11,.int .i64 ((s.1:Nat):Int))]) (fun s=>s.2.h p b1 b3 H) (fun s=>p.ops.length - s.1) (fun s=>s.1≤p.ops.length∧s.2.ok b1 b3 H∧s.2.xs=(p.ops.take s.1).flatMap (vD p)) (0,⟨[],0,0,[]⟩) ⟨by simp,Out.nil (Ne.symm n13),by simp⟩ ⟨rfl,rfl,rfl,rfl,rfl,rfl,rfl,rfl,trivial⟩ rfl ?_
 rintro ⟨i,s⟩ z ⟨hi,hs,hx⟩ K hN hE hR
 dsimp only at hi hs hx
 show xcode _ _ [z 0,.ptr b1 0,.own [],.ptr b3 0,.fn nmF [.ptr b1 0,.ptr b3 0],z 5,z 6,z 7,z 8,.slc (qE p.ops),.int .i64 p.ops.length,.int .i64 ((i:Nat):Int),z 12,z 13,z 14,z 15,z 16,z 17,z 18,z 19,z 20,z 21,z 22,z 23,z 24,z 25,z 26,z 27,z 28,z 29,z 30,z 31] (s.h p b1 b3 H) K
 by_cases hlt:i<p.ops.length
 ·have g:=ke hlt
  have hlt':((i:Int)<(p.ops.length:Int))=True:=eq_true (by omega)
  have hts:=yX hlt
  have hmm:=qN hlt
  generalize p.ops.getD i default=o at g hts hmm
  have hod:o.d= [.int .i64 o.k,.int .i64 o.on.o,.int .i64 o.on.s,.int .i64 o.on.i,.int .i64 o.to.o,.int .i64 o.to.s,.int .i64 o.to.i,.slc (qI o.ids),.int .i64 o.n,.str o.name,.str o.text,.int .i64 o.a,.int .i64 o.b]:=rfl
  simp+contextual only [x7,hd,qi,qg,qh,g,hod,hlt',↓U7,↓XP,↓XU,qn,XW1,qa,qb,qc,qd,qe,qf,reduceCtorEq]
  intro b6 hb
  obtain ⟨k3,k1,_,_⟩:=Out.fr.1 hb
  have hsl:s.xs.length≤1000*1102:=by
   rw [hx]
   exact Nat.le_trans (uV (B:=100+n) fun o ho=>hp.ids o (List.mem_of_mem_take ho)) (Nat.mul_le_mul (by rw [List.length_take];omega) (by omega))
  have hil:=hp.ids o hmm
  have one:∀{xs:List Id3} {x:Id3},(if ye p x then xs++ [x] else xs)=xs++ [x].filter (fun x=>decide (ye p x)):=fun {xs x}=>by
   by_cases hk:ye p x
   ·rw [if_pos hk,List.filter_cons_of_pos (by simpa using hk),List.filter_nil]
   ·rw [if_neg hk,List.filter_cons_of_neg (by simpa using hk),List.filter_nil,List.append_nil]
  have ol:∀x:Id3,([x].filter (fun x=>decide (ye p x))).length≤1:=fun x=>List.length_filter_le _ _
  refine ACall.perm Out.mid (UD (x:=o.on) (Out.in_ hs hb) (by omega) fun s1 hs1 hx1=>?_)
  have g1:=Out.get' (p:=p) hs1 (Ne.symm k3) (Ne.symm k1)
  rw [one] at hx1
  have hl1:=congrArg List.length hx1
  rw [List.length_append] at hl1
  have:=ol o.on
  simp+contextual only [x7,hd,qi,qg,qh,g1,↓U7,↓XP,↓XU,qn,XW1,qa,qb,qc,qd,qe,qf,reduceCtorEq]
  intros
  refine UD (x:=o.to) hs1 (by omega) fun s2 hs2 hx2=>?_
  have g2:=Out.get' (p:=p) hs2 (Ne.symm k3) (Ne.symm k1)
  rw [one] at hx2
  have hl2:=congrArg List.length hx2
  rw [List.length_append] at hl2
  have:=ol o.to
  simp+contextual only [x7,hd,qi,qg,qh,g2,↓U7,↓XP,↓XU,qn,XW1,qa,qb,qc,qd,qe,qf,reduceCtorEq]
  intros
  refine f_eachA rfl hs2 (by omega) fun s3 hs3 hx3=>?_
  simp+contextual only [x7,hd,qi,qg,qh,qp (show i≤big by omega),↓U7,↓XP,↓XU,qn,XW1,qa,qb,qc,qd,qe,qf,reduceCtorEq]
  intros
  refine hN (i+1,s3) _ _ ⟨hlt,Out.out hs3,?_⟩ (by dsimp only;omega) ⟨rfl,rfl,rfl,rfl,rfl,rfl,rfl,rfl,trivial⟩ (Sbn.sub Out.sub)
  dsimp only
  rw [hx3,hx2,hx1,hx,hts,List.flatMap_append,List.flatMap_cons,List.flatMap_nil,List.append_nil]
  unfold vD
  rw [show o.on::o.to::o.ids= [o.on]++([o.to]++o.ids) from rfl,List.filter_append,List.filter_append]
  simp only [List.append_assoc]
 ·have hin:i=p.ops.length:=by omega
  subst hin
  rw [List.take_length] at hx
  simp+contextual only [x7,hd,qi,qg,qh,↓U7,↓XP,↓XU,qn,XW1,qa,qb,qc,qd,qe,qf,reduceCtorEq]
  intros
  refine hE _ _ _ ?_
  simp+contextual only [x7,hd,qi,qg,qh,↓U7,↓XP,↓XU,qn,XW1,qa,qb,qc,qd,qe,qf,reduceCtorEq]
  obtain ⟨n31,⟨hxl,hok⟩,hob⟩:=hs
  obtain ⟨xs,ob,cap,rest⟩:=s
  dsimp only at hx hxl hok hob
  have hk:∀q,srt (y9 p)=q→R (.slc (qI q)) H:=fun q hq=>hq▸h
  rcases xs with _|⟨x,r⟩
  ·show xcode _ _ _ ((b3,.cells [.own []])::(b1,.cells p.d)::H) _
   refine jV Fz.refl ?_
   simp+contextual only [x7,hd,qi,qg,qh,↓U7,↓XP,↓XU,qn,XW1,qa,qb,qc,qd,qe,qf,reduceCtorEq]
   intros
   refine f_sort0 rfl ?_
   simp+contextual only [x7,hd,qi,qg,qh,↓U7,↓XP,↓XU,qn,XW1,qa,qb,qc,qd,qe,qf,reduceCtorEq]
   refine fun _=>YB (l:= []) (by simp) ?_
   simp+contextual only [x7,hd,qi,qg,qh,↓U7,↓XP,↓XU,qn,XW1,qa,qb,qc,qd,qe,qf,reduceCtorEq]
   intros
   refine hk [] ?_
   rw [y9,←hx]
   rfl
  ·obtain ⟨o3,o1,of_,ocap⟩:=hob (by simp)
   show xcode _ _ _ ((b3,.cells [.hgs ob (r.length+1) cap])::(b1,.cells p.d)::(ob,.cells (row (x::r) rest))::H) _
   rw [zA]
   refine gz_th (Gz.sb (H':=(ob,.cells (row (x::r) rest))::(b3,.cells [.hgs ob (r.length+1) cap])::(b1,.cells p.d)::H) (Sbn.of (List.perm_middle (l₁:= [(b3,AO.cells [D.hgs ob (r.length+1) cap]),(b1,AO.cells p.d)]) (a:=(ob,AO.cells (row (x::r) rest))) (l₂:=H)).symm (List.Sublist.refl _)) ?_)
   have hz:=Fz.hgsC (F:= [z 0,.ptr b1 0,.own [],.ptr b3 0,.fn nmF [.ptr b1 0,.ptr b3 0],z 5,z 6,z 7,z 8,.slc (qE p.ops),.int .i64 p.ops.length,.int .i64 p.ops.length,.bool false,z 13,z 14,z 15,z 16,z 17,z 18,z 19,z 20,z 21,z 22,z 23,z 24,z 25,z 26,z 27,z 28,z 29,z 30,z 31]) (H:=(ob,.cells (row (x::r) rest))::(b3,.cells [.hgs ob (r.length+1) cap])::(b1,.cells p.d)::H) (b':=b3) (j:=0) (b:=ob) (n:=r.length+1) (cap:=cap) (ds:= [.hgs ob (r.length+1) cap]) (by rw [qg (Ne.symm o3)];exact jS) rfl
   rw [qh (Ne.symm o3),uw] at hz
   refine Gz.of_fz hz ?_
   simp+contextual only [x7,hd,qi,qg,qh,o3,Ne.symm o3,↓U7,↓XP,↓XU,qn,XW1,qa,qb,qc,qd,qe,qf,reduceCtorEq]
   intros
   refine f_sort (l:=x::r) ZO rfl (by kernel_rfl) (fun x y _ _=>f_order rfl) rfl hok (by omega) (fun m2 hp2 hs2=>?_)
   simp+contextual only [x7,hd,qi,qg,qh,o3,Ne.symm o3,↓U7,↓XP,↓XU,qn,XW1,qa,qb,qc,qd,qe,qf,reduceCtorEq]
   intros
   refine VS (l:=m2) hp2.length_eq (by omega) (by omega) ?_
   simp+contextual only [x7,hd,qi,qg,qh,↓U7,↓XP,↓XU,qn,XW1,qa,qb,qc,qd,qe,qf,reduceCtorEq]
   intros
   refine hk _ ?_
   rw [y9,←hx]
   exact (dd_srt hp2 (hs2.imp fun {x y} hxy hlt=>hxy (ordI_neg.2 hlt))).symm
end Go.Proofs.YtpdhandimdibhaaGreatDoor
end
section
namespace Go.Proofs.YtpdhandimdibhaaGreatDoor
open Go Go.Aw
def oI (p:Pt) (i:Nat):List Id3:=if 1≤(p.ops.getD i default).k∧(p.ops.getD i default).k≤4 then [⟨p.o,p.s,i⟩] else []
def wn (p:Pt):List Id3:=upto (oI p) p.ops.length
theorem Z1 {p:Pt} {i:Nat}:(oI p i).length≤1:=by
 unfold oI
 split<;>simp
theorem zt {p:Pt} {i:Nat}:(upto (oI p) i).length≤i:=by
 have:=vp (f:=oI p) (c:=1) (fun k=>Z1) i
 omega
theorem YF {p:Pt} {n:Nat} {H:AH} {R:D→AH→Prop} (hp:Sz n p) (hn:n≤1000) (h:R (.slc (qI (wn p))) H):ACall Tryz.prog 6 [.agg p.d] H R:=by
 refine ACall.view (b6 fun hf=>?_)
 have hbig:=qt
 have hd:=@dE p
 have hlen:=hp.ops
 simp+contextual only [x6,hd,qi,qk,qg,qh,jP,↓U6,↓XP,↓XU,qn,XW1,qa,qb,qc,qd,qe,qf,reduceCtorEq]
 intro b1 h1
 intros
 refine XW.loopS Go.Proofs.YtpdhandimdibhaaGreatDoor.hm 28 (fun i:Nat=>[(1,.ptr b1 0),(3,.own (qI (upto (oI p) i))),(7,.slc (qE p.ops)),(8,.int .i64 p.ops.length),(9,.int .i64 ((i:Nat):Int))]) (fun i=>(b1,AO.cells p.d)::H) (fun i=>p.ops.length - i) (fun i=>i≤p.ops.length) 0 (by omega) ⟨rfl,rfl,rfl,rfl,rfl,rfl,trivial⟩ rfl ?_
 rintro i z hi K hN hE hR
 show xcode _ _ [z 0,.ptr b1 0,z 2,.own (qI (upto (oI p) i)),z 4,z 5,z 6,.slc (qE p.ops),.int .i64 p.ops.length,.int .i64 ((i:Nat):Int),z 10,z 11,z 12,z 13,z 14,z 15,z 16,z 17,z 18,z 19,z 20,z 21,z 22,z 23,z 24,z 25,z 26,z 27] _ K
 by_cases hlt:i<p.ops.length
 ·have g:=ke hlt
  have hlt':((i:Int)<(p.ops.length:Int))=True:=eq_true (by omega)
  have hst:upto (oI p) (i+1)=upto (oI p) i++(if 1≤(p.ops.getD i default).k∧(p.ops.getD i default).k≤4 then [⟨p.o,p.s,(i:Int)⟩] else []):=rfl
  have hcl:=zt (p:=p) (i:=i)
  generalize p.ops.getD i default=o at g hst
  have hod:o.d= [.int .i64 o.k,.int .i64 o.on.o,.int .i64 o.on.s,.int .i64 o.on.i,.int .i64 o.to.o,.int .i64 o.to.s,.int .i64 o.to.i,.slc (qI o.ids),.int .i64 o.n,.str o.name,.str o.text,.int .i64 o.a,.int .i64 o.b]:=rfl
  simp+contextual only [x6,hd,qi,qk,qg,qh,jP,g,hod,hlt',↓U6,↓XP,↓XU,qn,XW1,qa,qb,qc,qd,qe,qf,reduceCtorEq]
  intro b5 hb5
  intros
  refine yq ?_
  by_cases hk:1≤o.k∧o.k≤4
  ·rw [if_pos hk] at hst
   simp+contextual only [x6,hd,qi,qk,qg,qh,jP,decide_eq_true hk,qg hb5.1,Ne.symm hb5.1,WX (x:=⟨p.o,p.s,(i:Int)⟩),uL,qp (show i≤big by omega),↓U6,↓XP,↓XU,qn,XW1,qa,qb,qc,qd,qe,qf,reduceCtorEq]
   repeat' (first|exact zV|apply And.intro|intro _)
   all_goals first
    |omega
    |skip
   exact hN (i+1) _ _ hlt (by omega) (by rw [hst];exact ⟨rfl,rfl,rfl,rfl,rfl,rfl,trivial⟩) (kW rfl)
  ·rw [if_neg hk,List.append_nil] at hst
   simp+contextual only [x6,hd,qi,qk,qg,qh,jP,decide_eq_false hk,qp (show i≤big by omega),↓U6,↓XP,↓XU,qn,XW1,qa,qb,qc,qd,qe,qf,reduceCtorEq]
   intros
   exact hN (i+1) _ _ hlt (by omega) (by rw [hst];exact ⟨rfl,rfl,rfl,rfl,rfl,rfl,trivial⟩) (kW rfl)
 ·have hin:i=p.ops.length:=by omega
  subst hin
  simp+contextual only [x6,hd,qi,qk,qg,qh,jP,↓U6,↓XP,↓XU,qn,XW1,qa,qb,qc,qd,qe,qf,reduceCtorEq]
  intros
  refine hE _ _ _ ?_
  simp+contextual only [x6,hd,qi,qk,qg,qh,jP,↓U6,↓XP,↓XU,qn,XW1,qa,qb,qc,qd,qe,qf,reduceCtorEq]
  intros
  exact h
theorem YU {p:Pt} {n:Nat} {H:AH} {R:D→AH→Prop} (hp:Sz n p) (hn:n≤1000) (h:R (.slc (qI (wn p))) H):ACall Tryz.prog 9 [.agg p.d] H R:=by
 refine ACall.view (b9 fun hf=>?_)
 have hbig:=qt
 have hd:=@dE p
 have hlen:=hp.ops
 simp+contextual only [x9,hd,qi,qk,qg,qh,jP,↓U9,↓XP,↓XU,qn,XW1,qa,qb,qc,qd,qe,qf,reduceCtorEq]
 intro b1 h1
 intros
 refine XW.loopS Go.Proofs.YtpdhandimdibhaaGreatDoor.hm 43 (fun i:Nat=>[(1,.ptr b1 0),(3,.own (qI (upto (oI p) i))),(4,.int .i64 ((i:Nat):Int))]) (fun i=>(b1,AO.cells p.d)::H) (fun i=>p.ops.length - i) (fun i=>i≤p.ops.length) 0 (by omega) ⟨rfl,rfl,rfl,rfl,trivial⟩ rfl ?_
 rintro i z hi K hN hE hR
 show xcode _ _ [z 0,.ptr b1 0,z 2,.own (qI (upto (oI p) i)),.int .i64 ((i:Nat):Int),z 5,z 6,z 7,z 8,z 9,z 10,z 11,z 12,z 13,z 14,z 15,z 16,z 17,z 18,z 19,z 20,z 21,z 22,z 23,z 24,z 25,z 26,z 27,z 28,z 29,z 30,z 31,z 32,z 33,z 34,z 35,z 36,z 37,z 38,z 39,z 40,z 41,z 42] _ K
 by_cases hlt:i<p.ops.length
 ·have g:=ke hlt
  have hlt':((i:Int)<(p.ops.length:Int))=True:=eq_true (by omega)
  have hst:upto (oI p) (i+1)=upto (oI p) i++(if 1≤(p.ops.getD i default).k∧(p.ops.getD i default).k≤4 then [⟨p.o,p.s,(i:Int)⟩] else []):=rfl
  have hcl:=zt (p:=p) (i:=i)
  generalize p.ops.getD i default=o at g hst
  have hod:o.d= [.int .i64 o.k,.int .i64 o.on.o,.int .i64 o.on.s,.int .i64 o.on.i,.int .i64 o.to.o,.int .i64 o.to.s,.int .i64 o.to.i,.slc (qI o.ids),.int .i64 o.n,.str o.name,.str o.text,.int .i64 o.a,.int .i64 o.b]:=rfl
  rcases (show o.k=1∨o.k=2∨o.k=3∨o.k=4∨(o.k≠1∧o.k≠2∧o.k≠3∧o.k≠4) by omega) with e|e|e|e|⟨e1,e2,e3,e4⟩
  case inr.inr.inr.inr=>
   rw [if_neg (by omega),List.append_nil] at hst
   simp+contextual only [x9,hd,qi,qk,qg,qh,jP,g,hod,hlt',eq_false e1,eq_false e2,eq_false e3,eq_false e4,qp (show i≤big by omega),↓U9,↓XP,↓XU,qn,XW1,qa,qb,qc,qd,qe,qf,reduceCtorEq]
   repeat' (first|apply And.intro|intro _)
   all_goals first
    |omega
    |exact hN (i+1) _ _ hlt (by omega) (by rw [hst];exact ⟨rfl,rfl,rfl,rfl,trivial⟩) (j7 rfl)
    |skip
  all_goals
   rw [if_pos (by omega)] at hst
   rw [e] at hod
   simp+contextual only [x9,hd,qi,qk,qg,qh,jP,g,hod,hlt',show ((1:Int)=2)=False from by decide,show ((2:Int)=1)=False from by decide,show ((3:Int)=1)=False from by decide,show ((3:Int)=2)=False from by decide,show ((4:Int)=1)=False from by decide,show ((4:Int)=2)=False from by decide,show ((4:Int)=3)=False from by decide,WX (x:=⟨p.o,p.s,(i:Int)⟩),uL,qp (show i≤big by omega),↓U9,↓XP,↓XU,qn,XW1,qa,qb,qc,qd,qe,qf,reduceCtorEq]
   repeat' (first|exact zV|apply And.intro|intro _)
   all_goals first
    |omega
    |exact hN (i+1) _ _ hlt (by omega) (by rw [hst];exact ⟨rfl,rfl,rfl,rfl,trivial⟩) (j7 rfl)
    |skip
 ·have hin:i=p.ops.length:=by omega
  subst hin
  simp+contextual only [x9,hd,qi,qk,qg,qh,jP,↓U9,↓XP,↓XU,qn,XW1,qa,qb,qc,qd,qe,qf,reduceCtorEq]
  intros
  refine hE _ _ _ ?_
  simp+contextual only [x9,hd,qi,qk,qg,qh,jP,↓U9,↓XP,↓XU,qn,XW1,qa,qb,qc,qd,qe,qf,reduceCtorEq]
  intros
  exact h
end Go.Proofs.YtpdhandimdibhaaGreatDoor
end
section
namespace Go.Proofs.YtpdhandimdibhaaGreatDoor
open Go Go.Aw
theorem Zh {a:List Id3} {x:Id3}:srt (a++ [x])=wB x (srt a):=by simp [srt,List.foldl_append]
def Vg (p:Pt) (x:Id3):Bool:=decide (ye p x)
theorem Z4 {p:Pt} {o:OpP}:vD p o=(o.on::o.to::o.ids).filter (Vg p):=rfl
def Lst (d:D) (l:List Id3):Prop:=d= .slc (qI l)∨(d= .own []∧l= [])
theorem ZJ {p:Pt} {n:Nat} {H:AH} {R:D→AH→Prop} (hp:Sz n p) (hn:n≤1000) (h:R (.slc (qI (srt (y9 p)))) H):ACall Tryz.prog 10 [.agg p.d] H R:=by
 refine ACall.view (b10 fun hf=>?_)
 have hbig:=qt
 have hd:=@dE p
 have hlen:=hp.ops
 simp+contextual only [Kp,hd,qi,qk,qg,qh,jP,↓KN,↓XP,↓XU,qn,XW1,qa,qb,qc,qd,qe,qf,reduceCtorEq]
 intro b1 h1
 intros
 refine XW.loopS Go.Proofs.YtpdhandimdibhaaGreatDoor.hm 67 (fun s:Nat×D=>[(1,.ptr b1 0),(3,s.2),(4,.int .i64 ((s.1:Nat):Int))]) (fun s=>(b1,AO.cells p.d)::H) (fun s=>p.ops.length - s.1) (fun s=>s.1≤p.ops.length∧Lst s.2 (srt ((p.ops.take s.1).flatMap (vD p)))) (0,.own []) ⟨by simp,.inr ⟨rfl,by simp [srt]⟩⟩ ⟨rfl,rfl,rfl,rfl,trivial⟩ rfl ?_
 rintro ⟨i,d3⟩ z ⟨hi,h3⟩ K hN hE hR
 dsimp only at hi h3
 show xcode _ _ [z 0,.ptr b1 0,z 2,d3,.int .i64 ((i:Nat):Int),z 5,z 6,z 7,z 8,z 9,z 10,z 11,z 12,z 13,z 14,z 15,z 16,z 17,z 18,z 19,z 20,z 21,z 22,z 23,z 24,z 25,z 26,z 27,z 28,z 29,z 30,z 31,z 32,z 33,z 34,z 35,z 36,z 37,z 38,z 39,z 40,z 41,z 42,z 43,z 44,z 45,z 46,z 47,z 48,z 49,z 50,z 51,z 52,z 53,z 54,z 55,z 56,z 57,z 58,z 59,z 60,z 61,z 62,z 63,z 64,z 65,z 66] _ K
 by_cases hlt:i<p.ops.length
 ·have g:=ke hlt
  have hlt':((i:Int)<(p.ops.length:Int))=True:=eq_true (by omega)
  have hts:=yX hlt
  have hmm:=qN hlt
  generalize p.ops.getD i default=o at g hts hmm
  have hod:o.d= [.int .i64 o.k,.int .i64 o.on.o,.int .i64 o.on.s,.int .i64 o.on.i,.int .i64 o.to.o,.int .i64 o.to.s,.int .i64 o.to.i,.slc (qI o.ids),.int .i64 o.n,.str o.name,.str o.text,.int .i64 o.a,.int .i64 o.b]:=rfl
  have hil:=hp.ids o hmm
  have hsl:((p.ops.take i).flatMap (vD p)).length≤1000*1102:=
   Nat.le_trans (uV (B:=100+n) fun o ho=>hp.ids o (List.mem_of_mem_take ho)) (Nat.mul_le_mul (by rw [List.length_take];omega) (by omega))
  have hn1:(p.ops.take (i+1)).flatMap (vD p)=(p.ops.take i).flatMap (vD p)++vD p o:=by
   rw [hts,List.flatMap_append,List.flatMap_cons,List.flatMap_nil,List.append_nil]
  rw [Z4] at hn1
  generalize (p.ops.take i).flatMap (vD p)=A at h3 hsl hn1
  have two: [[D.int .i64 o.on.o,D.int .i64 o.on.s,D.int .i64 o.on.i],[D.int .i64 o.to.o,D.int .i64 o.to.s,D.int .i64 o.to.i]]=qI [o.on,o.to]:=rfl
  have hall: [o.on,o.to]++o.ids=o.on::o.to::o.ids:=rfl
  simp+contextual only [Kp,hd,qi,qk,qg,qh,jP,g,hod,hlt',two,uL,↓KN,↓XP,↓XU,qn,XW1,qa,qb,qc,qd,qe,qf,reduceCtorEq]
  refine fun _ _=>⟨zV,zV,by omega,?_⟩
  have hal:(o.on::o.to::o.ids).length≤1102:=by simp only [List.length_cons];omega
  generalize o.on::o.to::o.ids=all at hn1 hal ⊢
  refine XW.loopS Go.Proofs.YtpdhandimdibhaaGreatDoor.hm 67 (fun s:Nat×D=>[(1,.ptr b1 0),(3,s.2),(4,.int .i64 ((i:Nat):Int)),(5,.own (qI all)),(6,.int .i64 ((s.1:Nat):Int))]) (fun s=>(b1,AO.cells p.d)::H) (fun s=>all.length - s.1) (fun s=>s.1≤all.length∧Lst s.2 (srt (A++(all.take s.1).filter (Vg p)))) (0,d3) ⟨by simp,by simpa using h3⟩ ⟨rfl,rfl,rfl,rfl,rfl,rfl,trivial⟩ rfl ?_
  clear h3 g
  rintro ⟨k,d4⟩ z ⟨hk,h4⟩ K2 hN2 hE2 hR2
  dsimp only at hk h4
  show xcode _ _ [z 0,.ptr b1 0,z 2,d4,.int .i64 ((i:Nat):Int),.own (qI all),.int .i64 ((k:Nat):Int),z 7,z 8,z 9,z 10,z 11,z 12,z 13,z 14,z 15,z 16,z 17,z 18,z 19,z 20,z 21,z 22,z 23,z 24,z 25,z 26,z 27,z 28,z 29,z 30,z 31,z 32,z 33,z 34,z 35,z 36,z 37,z 38,z 39,z 40,z 41,z 42,z 43,z 44,z 45,z 46,z 47,z 48,z 49,z 50,z 51,z 52,z 53,z 54,z 55,z 56,z 57,z 58,z 59,z 60,z 61,z 62,z 63,z 64,z 65,z 66] _ K2
  by_cases hlt2:k<all.length
  ·have g2:=kL hlt2
   have hlt2':((k:Int)<(all.length:Int))=True:=eq_true (by omega)
   have hts2:=yX hlt2
   generalize all.getD k default=x at g2 hts2
   have hx:x.d= [.int .i64 x.o,.int .i64 x.s,.int .i64 x.i]:=rfl
   have hz:=jC (x:=x)
   have hf2:A++(all.take (k+1)).filter (Vg p)=(A++(all.take k).filter (Vg p))++ [x].filter (Vg p):=by
    rw [hts2,List.filter_append,List.append_assoc]
   have hal2:(srt (A++(all.take k).filter (Vg p))).length≤1200000:=by
    refine Nat.le_trans srt_len ?_
    have:=List.length_filter_le (Vg p) (all.take k)
    rw [List.length_take] at this
    rw [List.length_append]
    omega
   have non:¬ye p x→srt (A++(all.take (k+1)).filter (Vg p))=srt (A++(all.take k).filter (Vg p)):=fun hh=>by
    rw [hf2,List.filter_cons_of_neg (by simpa [Vg] using hh),List.filter_nil,List.append_nil]
   have ins:ye p x→srt (A++(all.take (k+1)).filter (Vg p))=wB x (srt (A++(all.take k).filter (Vg p))):=fun hh=>by
    rw [hf2,List.filter_cons_of_pos (by simpa [Vg] using hh),List.filter_nil,Zh]
   generalize srt (A++(all.take k).filter (Vg p))=l at h4 hal2 non ins
   by_cases h0:x=wE
   ·have hnn:=non fun e=>e.1 h0
    simp+contextual only [Kp,hd,qi,qk,qg,qh,jP,g2,hx,hz,hlt2',decide_eq_true h0,qp (show k≤big by omega),↓KN,↓XP,↓XU,qn,XW1,qa,qb,qc,qd,qe,qf,reduceCtorEq]
    intros
    exact hN2 (k+1,d4) _ _ ⟨hlt2,by dsimp only;rw [hnn];exact h4⟩ (by dsimp only;omega) ⟨rfl,rfl,rfl,rfl,rfl,rfl,trivial⟩ (kW rfl)
   ·rcases (show (x.o=p.o∧x.s=p.s)∨(x.o=p.o∧x.s≠p.s)∨x.o≠p.o by omega) with ⟨e1,e2⟩|⟨e1,e2⟩|e1
    ·have hnn:=non fun e=>by rcases e.2 with h|h;exact h e1;exact h e2
     simp+contextual only [Kp,hd,qi,qk,qg,qh,jP,g2,hx,hz,hlt2',decide_eq_false h0,eq_true e1,eq_true e2,qp (show k≤big by omega),↓KN,↓XP,↓XU,qn,XW1,qa,qb,qc,qd,qe,qf,reduceCtorEq]
     intros
     exact hN2 (k+1,d4) _ _ ⟨hlt2,by dsimp only;rw [hnn];exact h4⟩ (by dsimp only;omega) ⟨rfl,rfl,rfl,rfl,rfl,rfl,trivial⟩ (kW rfl)
    ·have hin:=ins ⟨h0,.inr e2⟩
     rcases h4 with rfl|⟨rfl,e⟩
     ·simp+contextual only [Kp,hd,qi,qk,qg,qh,jP,g2,hx,hz,hlt2',decide_eq_false h0,eq_true e1,eq_false e2,qp (show k≤big by omega),↓KN,↓XP,↓XU,qn,XW1,qa,qb,qc,qd,qe,qf,reduceCtorEq]
      intro _ b7 hb7
      intros
      refine z6 (l:=l) (x:=x) (by omega) ?_
      simp+contextual only [Kp,hd,qi,qk,qg,qh,jP,qp (show k≤big by omega),↓KN,↓XP,↓XU,qn,XW1,qa,qb,qc,qd,qe,qf,reduceCtorEq]
      intros
      exact hN2 (k+1,.slc (qI (wB x l))) _ _ ⟨hlt2,by dsimp only;rw [hin];exact .inl rfl⟩ (by dsimp only;omega) ⟨rfl,rfl,rfl,rfl,rfl,rfl,trivial⟩ (kW rfl)
     ·simp+contextual only [Kp,hd,qi,qk,qg,qh,jP,g2,hx,hz,hlt2',decide_eq_false h0,eq_true e1,eq_false e2,qp (show k≤big by omega),↓KN,↓XP,↓XU,qn,XW1,qa,qb,qc,qd,qe,qf,reduceCtorEq]
      intro _ b7 hb7
      intros
      refine z6 (l:= []) (x:=x) (by simp) ?_
      simp+contextual only [Kp,hd,qi,qk,qg,qh,jP,qp (show k≤big by omega),↓KN,↓XP,↓XU,qn,XW1,qa,qb,qc,qd,qe,qf,reduceCtorEq]
      intros
      exact hN2 (k+1,.slc (qI (wB x []))) _ _ ⟨hlt2,by dsimp only;rw [hin,e];exact .inl rfl⟩ (by dsimp only;omega) ⟨rfl,rfl,rfl,rfl,rfl,rfl,trivial⟩ (kW rfl)
    ·have hin:=ins ⟨h0,.inl e1⟩
     rcases h4 with rfl|⟨rfl,e⟩
     ·simp+contextual only [Kp,hd,qi,qk,qg,qh,jP,g2,hx,hz,hlt2',decide_eq_false h0,eq_false e1,qp (show k≤big by omega),↓KN,↓XP,↓XU,qn,XW1,qa,qb,qc,qd,qe,qf,reduceCtorEq]
      intro _ b7 hb7
      intros
      refine z6 (l:=l) (x:=x) (by omega) ?_
      simp+contextual only [Kp,hd,qi,qk,qg,qh,jP,qp (show k≤big by omega),↓KN,↓XP,↓XU,qn,XW1,qa,qb,qc,qd,qe,qf,reduceCtorEq]
      intros
      exact hN2 (k+1,.slc (qI (wB x l))) _ _ ⟨hlt2,by dsimp only;rw [hin];exact .inl rfl⟩ (by dsimp only;omega) ⟨rfl,rfl,rfl,rfl,rfl,rfl,trivial⟩ (kW rfl)
     ·simp+contextual only [Kp,hd,qi,qk,qg,qh,jP,g2,hx,hz,hlt2',decide_eq_false h0,eq_false e1,qp (show k≤big by omega),↓KN,↓XP,↓XU,qn,XW1,qa,qb,qc,qd,qe,qf,reduceCtorEq]
      intro _ b7 hb7
      intros
      refine z6 (l:= []) (x:=x) (by simp) ?_
      simp+contextual only [Kp,hd,qi,qk,qg,qh,jP,qp (show k≤big by omega),↓KN,↓XP,↓XU,qn,XW1,qa,qb,qc,qd,qe,qf,reduceCtorEq]
      intros
      exact hN2 (k+1,.slc (qI (wB x []))) _ _ ⟨hlt2,by dsimp only;rw [hin,e];exact .inl rfl⟩ (by dsimp only;omega) ⟨rfl,rfl,rfl,rfl,rfl,rfl,trivial⟩ (kW rfl)
  ·have hkn:k=all.length:=by omega
   subst hkn
   rw [List.take_length,←hn1] at h4
   simp+contextual only [Kp,hd,qi,qk,qg,qh,jP,↓KN,↓XP,↓XU,qn,XW1,qa,qb,qc,qd,qe,qf,reduceCtorEq]
   intros
   refine hE2 _ _ _ ?_
   simp+contextual only [Kp,hd,qi,qk,qg,qh,jP,qp (show i≤big by omega),↓KN,↓XP,↓XU,qn,XW1,qa,qb,qc,qd,qe,qf,reduceCtorEq]
   intros
   exact hN (i+1,d4) _ _ ⟨hlt,h4⟩ (by dsimp only;omega) ⟨rfl,rfl,rfl,rfl,trivial⟩ (j7 rfl)
 ·have hin:i=p.ops.length:=by omega
  subst hin
  rw [List.take_length] at h3
  simp+contextual only [Kp,hd,qi,qk,qg,qh,jP,↓KN,↓XP,↓XU,qn,XW1,qa,qb,qc,qd,qe,qf,reduceCtorEq]
  intros
  refine hE _ _ _ ?_
  rcases h3 with rfl|⟨rfl,e⟩
  ·simp+contextual only [Kp,hd,qi,qk,qg,qh,jP,↓KN,↓XP,↓XU,qn,XW1,qa,qb,qc,qd,qe,qf,reduceCtorEq]
   intros
   exact h
  ·rw [y9,e] at h
   simp+contextual only [Kp,hd,qi,qk,qg,qh,jP,↓KN,↓XP,↓XU,qn,XW1,qa,qb,qc,qd,qe,qf,reduceCtorEq]
   intros
   exact h
end Go.Proofs.YtpdhandimdibhaaGreatDoor
end
section
namespace Go.Proofs.YtpdhandimdibhaaGreatDoor
open Go Go.Aw
theorem WG {α:Type} {f:Nat→List α} {x:α}:∀{n:Nat},x∈upto f n→∃k,x∈f k
 |0,h=>by simp [upto] at h
 | n+1,h=>by
  rcases List.mem_append.1 (show x∈upto f n++f n from h) with h|h
  ·exact WG h
  ·exact ⟨n,h⟩
theorem cre_own {p:Pt} {x:Id3} (h:x∈wn p):x.o=p.o∧x.s=p.s:=by
 obtain ⟨k,hk⟩:=WG h
 unfold oI at hk
 split at hk
 ·rw [List.mem_singleton.1 hk];exact ⟨rfl,rfl⟩
 ·simp at hk
theorem WA {p:Pt} {y:Id3} (h:y∈srt (y9 p)):ye p y∧∃o∈p.ops,y∈o.on::o.to::o.ids:=by
 obtain ⟨o,ho,hy⟩:=List.mem_flatMap.1 (srt_mem.1 h)
 obtain ⟨h1,h2⟩:=List.mem_filter.1 hy
 exact ⟨of_decide_eq_true h2,o,ho,h1⟩
theorem Yk {p:Pt} {x y:Id3} (hx:x∈wn p) (hy:y∈srt (y9 p)):x≠y:=fun e=>by
 subst e
 obtain ⟨h1,h2⟩:=cre_own hx
 rcases (WA hy).1.2 with h|h
 ·exact h h1
 ·exact h h2
theorem name_ok {p:Pt} {y:Id3} (hv:kr p=0) (hy:y∈srt (y9 p)):jy y:=by
 obtain ⟨hk,o,ho,hm⟩:=WA hy
 have hop:o5 p:=by
  unfold kr at hv
  by_cases c:o5 p
  ·exact c
  ·rw [if_pos c] at hv
   repeat' split at hv
   all_goals omega
 obtain ⟨h1,h2,_⟩:=hop o ho
 obtain ⟨_,a1,a2,a3,a4⟩:=h1
 obtain ⟨_,_,b1,b2⟩:=h2
 rcases List.mem_cons.1 hm with rfl|hm
 ·by_cases c:79∈uses o.k
  ·exact a1 c
  ·exact absurd (a2 c) hk.1
 rcases List.mem_cons.1 hm with rfl|hm
 ·by_cases c:84∈uses o.k
  ·exact a3 c
  ·exact absurd (a4 c) hk.1
 by_cases c:73∈uses o.k
 ·exact ((b1 c).1 y hm).1
 ·rw [b2 c] at hm;simp at hm
theorem sz0:Sz 34 uB:=⟨by simp [uB],by simp [uB],by simp [uB],by simp [uB],by simp [uB],by simp [uB]⟩
theorem f_pn {l:List Int} {a how bb:Int} {H:AH} {R:D→AH→Prop} (h:R (.bool true) H):ACall Tryz.prog 3 [.slc (ints l),.int .i64 a,.int .i64 how,.int .i64 bb] H R:=by
 refine b3 fun hf=>?_
 have hbig:=qt
 simp+contextual only [x3,qk,qm,qg,qh,↓U3,↓XP,↓XU,qn,XW1,qa,qb,qc,qd,qe,qf,reduceCtorEq]
 intros
 refine f_some fun p hp=>?_
 have hd:=@dE p
 obtain ⟨q,hq,hc⟩:=UI (n:=20) (IntKind.i64.wrap (a.tdiv 5)) how bb (by omega) hp.sz hp.ne
 have hqd:q.d= [.int .i64 q.o,.int .i64 q.s,.int .i64 q.day,.slc (qM q.needs),.slc (qE q.ops),.str q.sl]:=rfl
 simp+contextual only [x3,qk,qm,qg,qh,hd,↓U3,↓XP,↓XU,qn,XW1,qa,qb,qc,qd,qe,qf,reduceCtorEq]
 intro b9 h9
 refine ⟨by decide,_,fun _ _=>hc ⟨rfl,rfl⟩,?_⟩
 have h3: [[D.int .i64 p.o,.int .i64 p.s,.int .i64 p.day,.slc (qM p.needs),.slc (qE p.ops),.str p.sl],[D.int .i64 q.o,.int .i64 q.s,.int .i64 q.day,.slc (qM q.needs),.slc (qE q.ops),.str q.sl],[D.int .i64 0,.int .i64 0,.int .i64 0,.slc [],.slc [],.str []]]=qY [p,q,uB]:=rfl
 simp+contextual only [x3,qk,qm,qg,qh,hd,hqd,h3,↓U3,↓XP,↓XU,qn,XW1,qa,qb,qc,qd,qe,qf,reduceCtorEq]
 have hsz:∀r∈ [p,q,uB],Sz 34 r:=fun r hr=>by
  simp only [List.mem_cons,List.not_mem_nil,or_false] at hr
  rcases hr with rfl|rfl|rfl
  ·exact hp.sz.le (by omega)
  ·exact hq
  ·exact sz0
 refine XW.loopS Go.Proofs.YtpdhandimdibhaaGreatDoor.hm 96 (fun i:Nat=>[(10,.own (qY [p,q,uB])),(11,.int .i64 ((i:Nat):Int))]) (fun i=>(b9,AO.cells p.d)::H) (fun i=>3 - i) (fun i=>i≤3) 0 (by omega) ⟨rfl,rfl,rfl,trivial⟩ rfl ?_
 rintro i z hi K hN hE hR
 show xcode _ _ [z 0,z 1,z 2,z 3,z 4,z 5,z 6,z 7,z 8,z 9,.own (qY [p,q,uB]),.int .i64 ((i:Nat):Int),z 12,z 13,z 14,z 15,z 16,z 17,z 18,z 19,z 20,z 21,z 22,z 23,z 24,z 25,z 26,z 27,z 28,z 29,z 30,z 31,z 32,z 33,z 34,z 35,z 36,z 37,z 38,z 39,z 40,z 41,z 42,z 43,z 44,z 45,z 46,z 47,z 48,z 49,z 50,z 51,z 52,z 53,z 54,z 55,z 56,z 57,z 58,z 59,z 60,z 61,z 62,z 63,z 64,z 65,z 66,z 67,z 68,z 69,z 70,z 71,z 72,z 73,z 74,z 75,z 76,z 77,z 78,z 79,z 80,z 81,z 82,z 83,z 84,z 85,z 86,z 87,z 88,z 89,z 90,z 91,z 92,z 93,z 94,z 95] _ K
 by_cases hlt:i<3
 ·have g:=wK (l:= [p,q,uB]) (i:=i) hlt
  have hr:=hsz _ (jU (d:=default) (l:= [p,q,uB]) (i:=i) hlt)
  generalize [p,q,uB].getD i default=r at g hr
  have hrd:r.d= [.int .i64 r.o,.int .i64 r.s,.int .i64 r.day,.slc (qM r.needs),.slc (qE r.ops),.str r.sl]:=rfl
  have hlt':((i:Int)<3)=True:=eq_true (by omega)
  simp+contextual only [x3,qk,qm,qg,qh,g,hrd,hlt',List.length_cons,List.length_nil,↓U3,↓XP,↓XU,qn,XW1,qa,qb,qc,qd,qe,qf,reduceCtorEq]
  refine ⟨by omega,YF hr (by omega) ?_⟩
  simp+contextual only [x3,qk,qm,qg,qh,g,hrd,hlt',List.length_cons,List.length_nil,↓U3,↓XP,↓XU,qn,XW1,qa,qb,qc,qd,qe,qf,reduceCtorEq]
  intros
  refine ⟨by omega,Uv hr (by omega) ?_⟩
  simp+contextual only [x3,qk,qm,qg,qh,g,hrd,hlt',List.length_cons,List.length_nil,↓U3,↓XP,↓XU,qn,XW1,qa,qb,qc,qd,qe,qf,reduceCtorEq]
  intros
  refine ⟨by omega,YU hr (by omega) ?_⟩
  simp+contextual only [x3,qk,qm,qg,qh,g,hrd,hlt',List.length_cons,List.length_nil,↓U3,↓XP,↓XU,qn,XW1,qa,qb,qc,qd,qe,qf,reduceCtorEq]
  intros
  refine zI ?_
  simp+contextual only [x3,qk,qm,qg,qh,g,hrd,hlt',List.length_cons,List.length_nil,↓U3,↓XP,↓XU,qn,XW1,qa,qb,qc,qd,qe,qf,reduceCtorEq]
  intros
  refine ⟨by omega,ZJ hr (by omega) ?_⟩
  simp+contextual only [x3,qk,qm,qg,qh,g,hrd,hlt',List.length_cons,List.length_nil,↓U3,↓XP,↓XU,qn,XW1,qa,qb,qc,qd,qe,qf,reduceCtorEq]
  intros
  refine zI ?_
  simp+contextual only [x3,qk,qm,qg,qh,g,hrd,hlt',List.length_cons,List.length_nil,↓U3,↓XP,↓XU,qn,XW1,qa,qb,qc,qd,qe,qf,reduceCtorEq]
  intros
  refine XW.loopS Go.Proofs.YtpdhandimdibhaaGreatDoor.hm 96 (fun k:Nat=>[(10,.own (qY [p,q,uB])),(11,.int .i64 ((i:Nat):Int)),(12,.slc (qI (wn r))),(13,.slc (qI (srt (y9 r)))),(14,.int .i64 ((k:Nat):Int))]) (fun k=>(b9,AO.cells p.d)::H) (fun k=>(srt (y9 r)).length - k) (fun k=>k≤(srt (y9 r)).length) 0 (by omega) ⟨rfl,rfl,rfl,rfl,rfl,rfl,trivial⟩ rfl ?_
  rintro k z hk K2 hN2 hE2 hR2
  show xcode _ _ [z 0,z 1,z 2,z 3,z 4,z 5,z 6,z 7,z 8,z 9,.own (qY [p,q,uB]),.int .i64 ((i:Nat):Int),.slc (qI (wn r)),.slc (qI (srt (y9 r))),.int .i64 ((k:Nat):Int),z 15,z 16,z 17,z 18,z 19,z 20,z 21,z 22,z 23,z 24,z 25,z 26,z 27,z 28,z 29,z 30,z 31,z 32,z 33,z 34,z 35,z 36,z 37,z 38,z 39,z 40,z 41,z 42,z 43,z 44,z 45,z 46,z 47,z 48,z 49,z 50,z 51,z 52,z 53,z 54,z 55,z 56,z 57,z 58,z 59,z 60,z 61,z 62,z 63,z 64,z 65,z 66,z 67,z 68,z 69,z 70,z 71,z 72,z 73,z 74,z 75,z 76,z 77,z 78,z 79,z 80,z 81,z 82,z 83,z 84,z 85,z 86,z 87,z 88,z 89,z 90,z 91,z 92,z 93,z 94,z 95] _ K2
  by_cases hlt2:k<(srt (y9 r)).length
  ·have g2:=kL hlt2
   have hy:=jU (d:=default) hlt2
   have hlt2':((k:Int)<((srt (y9 r)).length:Int))=True:=eq_true (by omega)
   generalize (srt (y9 r)).getD k default=y at g2 hy
   have hyd:y.d= [.int .i64 y.o,.int .i64 y.s,.int .i64 y.i]:=rfl
   simp+contextual only [x3,qk,qm,qg,qh,g,hrd,hlt2',g2,hyd,↓U3,↓XP,↓XU,qn,XW1,qa,qb,qc,qd,qe,qf,reduceCtorEq]
   intro hlb
   refine ⟨by omega,oW (hr.fit (by omega)) ?_⟩
   have hcb:(wn r).length≤1000:=by
    have h1:=zt (p:=r) (i:=r.ops.length)
    have h2:=hr.ops
    unfold wn;omega
   by_cases hv:kr r=0
   ·simp+contextual only [x3,qk,qm,qg,qh,eq_true hv,hlt2',g2,hyd,↓U3,↓XP,↓XU,qn,XW1,qa,qb,qc,qd,qe,qf,reduceCtorEq]
    intros
    refine f_rID (x:=y) ?_
    simp+contextual only [x3,qk,qm,qg,qh,decide_eq_true (name_ok hv hy),hlt2',g2,hyd,↓U3,↓XP,↓XU,qn,XW1,qa,qb,qc,qd,qe,qf,reduceCtorEq]
    intros
    refine XW.loopS Go.Proofs.YtpdhandimdibhaaGreatDoor.hm 96 (fun j:Nat=>[(10,.own (qY [p,q,uB])),(11,.int .i64 ((i:Nat):Int)),(12,.slc (qI (wn r))),(13,.slc (qI (srt (y9 r)))),(14,.int .i64 ((k:Nat):Int)),(15,.int .i64 ((j:Nat):Int))]) (fun j=>(b9,AO.cells p.d)::H) (fun j=>(wn r).length - j) (fun j=>j≤(wn r).length) 0 (by omega) ⟨rfl,rfl,rfl,rfl,rfl,rfl,rfl,trivial⟩ rfl ?_
    rintro j z hj K3 hN3 hE3 hR3
    show xcode _ _ [z 0,z 1,z 2,z 3,z 4,z 5,z 6,z 7,z 8,z 9,.own (qY [p,q,uB]),.int .i64 ((i:Nat):Int),.slc (qI (wn r)),.slc (qI (srt (y9 r))),.int .i64 ((k:Nat):Int),.int .i64 ((j:Nat):Int),z 16,z 17,z 18,z 19,z 20,z 21,z 22,z 23,z 24,z 25,z 26,z 27,z 28,z 29,z 30,z 31,z 32,z 33,z 34,z 35,z 36,z 37,z 38,z 39,z 40,z 41,z 42,z 43,z 44,z 45,z 46,z 47,z 48,z 49,z 50,z 51,z 52,z 53,z 54,z 55,z 56,z 57,z 58,z 59,z 60,z 61,z 62,z 63,z 64,z 65,z 66,z 67,z 68,z 69,z 70,z 71,z 72,z 73,z 74,z 75,z 76,z 77,z 78,z 79,z 80,z 81,z 82,z 83,z 84,z 85,z 86,z 87,z 88,z 89,z 90,z 91,z 92,z 93,z 94,z 95] _ K3
    by_cases hlt3:j<(wn r).length
    ·have g3:=kL hlt3
     have hx:=jU (d:=default) hlt3
     have hlt3':((j:Int)<((wn r).length:Int))=True:=eq_true (by omega)
     generalize (wn r).getD j default=x at g3 hx
     have hxd:x.d= [.int .i64 x.o,.int .i64 x.s,.int .i64 x.i]:=rfl
     have hxy:=jz (x:=x) (y:=y)
     have hne:=Yk hx hy
     simp+contextual only [x3,qk,qm,qg,qh,hlt3',hlt2',g2,g3,hyd,hxd,hxy,decide_eq_false hne,qp (show j≤big by omega),↓U3,↓XP,↓XU,qn,XW1,qa,qb,qc,qd,qe,qf,reduceCtorEq]
     repeat' (first|apply And.intro|intro _)
     all_goals first
      |omega
      |exact hN3 (j+1) _ _ (by omega) (by omega) ⟨rfl,rfl,rfl,rfl,rfl,rfl,rfl,trivial⟩ (j7 rfl)
      |skip
    ·have hjn:j=(wn r).length:=by omega
     simp+contextual only [x3,qk,qm,qg,qh,show ((j:Int)<((wn r).length:Int))=False from eq_false (by omega),↓U3,↓XP,↓XU,qn,XW1,qa,qb,qc,qd,qe,qf,reduceCtorEq]
     intros
     refine hE3 _ _ _ ?_
     simp+contextual only [x3,qk,qm,qg,qh,qp (show k≤big by omega),↓U3,↓XP,↓XU,qn,XW1,qa,qb,qc,qd,qe,qf,reduceCtorEq]
     intros
     exact hN2 (k+1) _ _ (by omega) (by omega) ⟨rfl,rfl,rfl,rfl,rfl,rfl,trivial⟩ (j7 rfl)
   ·simp+contextual only [x3,qk,qm,qg,qh,eq_false hv,hlt2',g2,hyd,↓U3,↓XP,↓XU,qn,XW1,qa,qb,qc,qd,qe,qf,reduceCtorEq]
    intros
    refine XW.loopS Go.Proofs.YtpdhandimdibhaaGreatDoor.hm 96 (fun j:Nat=>[(10,.own (qY [p,q,uB])),(11,.int .i64 ((i:Nat):Int)),(12,.slc (qI (wn r))),(13,.slc (qI (srt (y9 r)))),(14,.int .i64 ((k:Nat):Int)),(15,.int .i64 ((j:Nat):Int))]) (fun j=>(b9,AO.cells p.d)::H) (fun j=>(wn r).length - j) (fun j=>j≤(wn r).length) 0 (by omega) ⟨rfl,rfl,rfl,rfl,rfl,rfl,rfl,trivial⟩ rfl ?_
    rintro j z hj K3 hN3 hE3 hR3
    show xcode _ _ [z 0,z 1,z 2,z 3,z 4,z 5,z 6,z 7,z 8,z 9,.own (qY [p,q,uB]),.int .i64 ((i:Nat):Int),.slc (qI (wn r)),.slc (qI (srt (y9 r))),.int .i64 ((k:Nat):Int),.int .i64 ((j:Nat):Int),z 16,z 17,z 18,z 19,z 20,z 21,z 22,z 23,z 24,z 25,z 26,z 27,z 28,z 29,z 30,z 31,z 32,z 33,z 34,z 35,z 36,z 37,z 38,z 39,z 40,z 41,z 42,z 43,z 44,z 45,z 46,z 47,z 48,z 49,z 50,z 51,z 52,z 53,z 54,z 55,z 56,z 57,z 58,z 59,z 60,z 61,z 62,z 63,z 64,z 65,z 66,z 67,z 68,z 69,z 70,z 71,z 72,z 73,z 74,z 75,z 76,z 77,z 78,z 79,z 80,z 81,z 82,z 83,z 84,z 85,z 86,z 87,z 88,z 89,z 90,z 91,z 92,z 93,z 94,z 95] _ K3
    by_cases hlt3:j<(wn r).length
    ·have g3:=kL hlt3
     have hx:=jU (d:=default) hlt3
     have hlt3':((j:Int)<((wn r).length:Int))=True:=eq_true (by omega)
     generalize (wn r).getD j default=x at g3 hx
     have hxd:x.d= [.int .i64 x.o,.int .i64 x.s,.int .i64 x.i]:=rfl
     have hxy:=jz (x:=x) (y:=y)
     have hne:=Yk hx hy
     simp+contextual only [x3,qk,qm,qg,qh,hlt3',hlt2',g2,g3,hyd,hxd,hxy,decide_eq_false hne,qp (show j≤big by omega),↓U3,↓XP,↓XU,qn,XW1,qa,qb,qc,qd,qe,qf,reduceCtorEq]
     repeat' (first|apply And.intro|intro _)
     all_goals first
      |omega
      |exact hN3 (j+1) _ _ (by omega) (by omega) ⟨rfl,rfl,rfl,rfl,rfl,rfl,rfl,trivial⟩ (j7 rfl)
      |skip
    ·have hjn:j=(wn r).length:=by omega
     simp+contextual only [x3,qk,qm,qg,qh,show ((j:Int)<((wn r).length:Int))=False from eq_false (by omega),↓U3,↓XP,↓XU,qn,XW1,qa,qb,qc,qd,qe,qf,reduceCtorEq]
     intros
     refine hE3 _ _ _ ?_
     simp+contextual only [x3,qk,qm,qg,qh,qp (show k≤big by omega),↓U3,↓XP,↓XU,qn,XW1,qa,qb,qc,qd,qe,qf,reduceCtorEq]
     intros
     exact hN2 (k+1) _ _ (by omega) (by omega) ⟨rfl,rfl,rfl,rfl,rfl,rfl,trivial⟩ (j7 rfl)
  ·have hkn:k=(srt (y9 r)).length:=by omega
   simp+contextual only [x3,qk,qm,qg,qh,show ((k:Int)<((srt (y9 r)).length:Int))=False from eq_false (by omega),↓U3,↓XP,↓XU,qn,XW1,qa,qb,qc,qd,qe,qf,reduceCtorEq]
   intros
   refine hE2 _ _ _ ?_
   simp+contextual only [x3,qk,qm,qg,qh,qp (show i≤big by omega),↓U3,↓XP,↓XU,qn,XW1,qa,qb,qc,qd,qe,qf,reduceCtorEq]
   intros
   exact hN (i+1) _ _ (by omega) (by omega) ⟨rfl,rfl,rfl,trivial⟩ (j7 rfl)
 ·have hin:i=3:=by omega
  subst hin
  simp+contextual only [x3,qk,qm,qg,qh,show (((3:Nat):Int)<3)=False from eq_false (by omega),↓U3,↓XP,↓XU,qn,XW1,qa,qb,qc,qd,qe,qf,reduceCtorEq]
  intros
  refine hE _ _ _ ?_
  simp+contextual only [x3,qk,qm,qg,qh,↓U3,↓XP,↓XU,qn,XW1,qa,qb,qc,qd,qe,qf,reduceCtorEq]
  refine f_lives ?_
  simp+contextual only [x3,qk,qm,qg,qh,↓U3,↓XP,↓XU,qn,XW1,qa,qb,qc,qd,qe,qf,reduceCtorEq]
  intros
  exact h
end Go.Proofs.YtpdhandimdibhaaGreatDoor
end
