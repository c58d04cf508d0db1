/- A part of the proof of what the last text says: Gq6, Gr7, Gs1, Gs2, Gf5, Gf2. Conditions: those in each theorem. -/
import Derived.Test.YtpdhandimdibhaaGreatDoorN22
set_option linter.unusedVariables false
set_option linter.unusedSimpArgs false
set_option maxRecDepth 100000
set_option maxHeartbeats 16000000
open Nat renaming reduceSub → qa,reduceAdd → qb,reduceMul → qc,reduceEqDiff → qd,reduceLeDiff → qe,reduceBEq → qf
section
namespace Go.Proofs.YtpdhandimdibhaaGreatDoor
open Go Go.Aw
theorem vX {n:Int} (h:sml n):(qQ n).length≤4:=by
 have:(digs (mag n)).length≤3:=Qa 3 _ (by unfold sml at h;unfold mag;split<;>omega)
 simp only [qQ,List.length_cons,List.length_map,List.length_reverse]
 omega
theorem KF:∀{l:List Int},(∀x∈l,sml x)→(l.flatMap qQ).length≤4*l.length
 | [],_=>by simp
 | x::r,h=>by
  have h1:=vX (h x (.head _))
  have h2:=KF (l:=r) (fun y hy=>h y (.tail _ hy))
  simp only [List.flatMap_cons,List.length_append,List.length_cons]
  omega
theorem oZ {l:List Int} (h:∀x∈l,sml x) (hl:l.length≤1000):(jg l).length≤4+4*l.length:=by
 have h1:=KF h
 have h2:=vX (n:=(l.length:Int)) (by unfold sml;omega)
 simp only [jg,List.length_append]
 omega
theorem op_sml {o:OpP} (h:TOp o):(jM o).length≤200:=by
 obtain ⟨h1,h2,h3,h4,h5⟩:=vJ h.v
 have h6:=h.tx
 have e1:=oZ (l:=wu o) h1 (by show (10:Nat)≤1000;omega)
 have e2:=oZ (l:=o.ids.flatMap uX) (by
  intro x hx
  obtain ⟨y,hy,hx⟩:=List.mem_flatMap.1 hx
  have:=h2 y hy
  simp only [uX,List.mem_cons,List.not_mem_nil,or_false] at hx
  rcases hx with rfl|rfl|rfl
  ·exact this.1
  ·exact this.2.1
  ·exact this.2.2) (by rw [wU];omega)
 have e3:=vX (n:=(o.name.length:Int)) (by unfold sml;omega)
 have e4:=vX (n:=(o.text.length:Int)) (by unfold sml;omega)
 have e5:=vX (n:=((2:Nat):Int)) (by unfold sml;omega)
 rw [show (wu o).length=10 from rfl] at e1
 rw [wU] at e2
 simp only [jM,yv,j6,List.length_append,List.flatMap_cons,List.flatMap_nil,List.length_cons,List.length_nil,Nat.zero_add,Nat.reduceAdd] at*
 omega
theorem WQ:∀{l:List OpP},(∀o∈l,TOp o)→(l.flatMap jM).length≤200*l.length
 | [],_=>by simp
 | x::r,h=>by
  have h1:=op_sml (h x (.head _))
  have h2:=WQ (l:=r) (fun y hy=>h y (.tail _ hy))
  simp only [List.flatMap_cons,List.length_append,List.length_cons]
  omega
structure FV (p:Pt):Prop where
 v:kr p=0
 sl:p.sl= []
 fit:Fit p
 ol:p.ops.length≤14
 nl:p.needs.length≤3
 q:QV p
 s:p.s≤16
 dy:1≤p.day∧p.day≤100
theorem fv_of {p:Pt} (h:QV p) (hs:p.s≤16) (hd:1≤p.day∧p.day≤100) (hl:p.ops.length≤14):FV p:=by
 have hnl:=h.nl
 have h1:wz p:=by
  unfold wz
  have:=h.oo
  have:=h.ss
  omega
 have h2:vN p:=by
  intro i hi
  obtain ⟨g1,g2,g3,g4,g5,g6⟩:=h.nd i hi
  exact ⟨g1,by omega,g3,g4,g5,g6⟩
 have h3:o5 p:=fun o ho=>(h.T o ho).v
 have hlen:(yn (bare p)).length≤6800:=by
  have:=h.oo
  have:=h.ss
  have e1:=oZ (l:= [p.o,p.s,p.day]) (by
   intro x hx
   simp only [List.mem_cons,List.not_mem_nil,or_false] at hx
   unfold sml
   rcases hx with rfl|rfl|rfl<;>omega) (by simp)
  have e2:=oZ (l:=jo p.needs) (by
   intro x hx
   obtain ⟨y,hy,hx⟩:=List.mem_flatMap.1 hx
   obtain ⟨i,hi,hy⟩:=List.getElem_of_mem hy
   have hv:=h.nd i hi
   rw [js hi,hy] at hv
   simp only [List.mem_cons,List.not_mem_nil,or_false] at hx
   unfold sml
   rcases hx with rfl|rfl<;>omega) (by rw [yP];omega)
  have e3:=vX (n:=(p.ops.length:Int)) (by unfold sml;omega)
  have e4:=WQ h.T
  have e5:=vX (n:=((0:Nat):Int)) (by unfold sml;omega)
  rw [yP] at e2
  simp only [yn,bare,j6,List.length_append,List.length_cons,List.length_nil,Nat.zero_add,Nat.reduceAdd] at*
  omega
 refine ⟨?_,h.sl,⟨by omega,by omega,fun o ho=>?_,fun o ho=>?_,fun o ho=>?_,by rw [h.sl];simp⟩,hl,hnl,h,hs,hd⟩
 ·unfold kr
  rw [if_neg (fun d=>d h1),if_neg (by omega),if_neg h.ne,if_neg (fun d=>d h2),if_neg (fun d=>d h3),if_neg (by omega)]
 ·have:=(vJ (h.T o ho).v).2.2.1;omega
 ·have:=(vJ (h.T o ho).v).2.2.2.1;omega
 ·have:=(vJ (h.T o ho).v).2.2.2.2;omega
theorem Qq {l out:List Pt}:∀n:Nat,jd l out n<n∧ -1≤jd l out n
 |0=>by simp [jd]
 | n+1=>by
  have:=Qq (l:=l) (out:=out) n
  unfold jd
  split<;>omega
theorem g9 {l:List Pt}:∀n:Nat,∀p∈(qT l n).1,p∈l
 |0=>by simp [qT]
 | n+1=>by
  have h:=g9 (l:=l) n
  unfold qT
  dsimp only
  split
  ·split
   ·exact h
   ·rename_i hc
    intro p hp
    rcases List.mem_append.1 hp with hp|hp
    ·exact h p hp
    ·rw [List.mem_singleton.1 hp]
     have:=Qq (l:=l) (out:=(qT l n).1) l.length
     exact jU (by omega)
  ·exact h
theorem J5 {l out:List Pt} {i:Nat} (hr:ready out (l.getD i default)=true) (hk:known out (l.getD i default).o (l.getD i default).s=false):∀n:Nat,i<n→0≤jd l out n
 |0,h=>by omega
 | n+1,h=>by
  unfold jd
  split
  ·omega
  ·rename_i hc
   by_cases e:i=n
   ·subst e
    refine Classical.byContradiction fun hneg=>hc ?_
    unfold better
    dsimp only
    rw [hr,hk]
    simp
    left
    left
    omega
   ·exact J5 hr hk n (by omega)
theorem Jy {l:List Pt} {n:Nat} (h:(qT l n).1≠ []):(qT l (n+1)).1≠ []:=by
 unfold qT
 dsimp only
 split
 ·split
  ·exact h
  ·simp
 ·exact h
theorem Wr {l:List Pt} (h0:0<l.length) (h1:(l.getD 0 default).needs= []) (h2:(l.getD 0 default).s=1):ordered l≠ []:=by
 have hb:0≤jd l [] l.length:=J5 (i:=0) (by unfold ready;rw [h1,h2];simp) (by simp [known]) _ h0
 have base:(qT l 1).1≠ []:=by
  have hb':¬(jd l (qT l 0).1 l.length<0):=by
   show ¬(jd l [] l.length<0)
   omega
  unfold qT
  dsimp only
  rw [if_pos (show (qT l 0).2=true from rfl),if_neg hb']
  simp
 have go:∀n:Nat,(qT l (n+1)).1≠ []:=by
  intro n
  induction n with
  |zero=>exact base
  |succ n ih=>exact Jy ih
 unfold ordered
 obtain ⟨n,hn⟩:∃n,l.length=n+1:=⟨l.length - 1,by omega⟩
 rw [hn]
 exact go n
theorem gW {o:Int} {m:List Int}:∀q:Nat,(qw ⟨[],[]⟩ o m q).p={uB with o:=o,s:=1,day:=1}
 |0=>rfl
 | q+1=>by
  have h:=gW (o:=o) (m:=m) q
  simp only [qw]
  unfold kU
  dsimp only
  rw [if_pos (.inl (by simp [last,kA]))]
  exact h
theorem KG (l:List Int) {offices:Nat}:∀i:Nat,0<i→((qZ l offices i).l.getD 0 default).needs= []∧((qZ l offices i).l.getD 0 default).s=1
 |0,h=>by omega
 | 1,_=>by
  have hg:=GInv.nil
  have e:(qZ l offices 1).l=(next ⟨[],[]⟩ offices (l.drop (2+32*0))).l:=rfl
  rw [e]
  unfold Go.Proofs.YtpdhandimdibhaaGreatDoor.next
  dsimp only
  have hr:=gW (o:=qB (l.drop (2+32*0)) 0 offices) (m:=l.drop (2+32*0)) offices
  obtain ⟨_,g2,_,_⟩:=kn (x:=⟨[],[]⟩) (o:=qB (l.drop (2+32*0)) 0 offices) (m:=l.drop (2+32*0)) offices
  obtain ⟨h1,_⟩:=yR hg (o:=qB (l.drop (2+32*0)) 0 offices) (m:=l.drop (2+32*0)) offices
  generalize qw ⟨[],[]⟩ (qB (l.drop (2+32*0)) 0 offices) (l.drop (2+32*0)) offices=s at hr g2 h1 ⊢
  obtain ⟨more,e1,_⟩:=wM (x:=⟨[],[]⟩) (seen:=s.seen) (p:={s.p with day:=s.p.day+qB (l.drop (2+32*0)) 4 4}) (m:=l.drop (2+32*0)) g2 (VOk.base hg h1 g2) (1+jG (l.drop (2+32*0)) 5 2)
  have e3:=e1.eq
  generalize j9 ⟨[],[]⟩ s.seen {s.p with day:=s.p.day+qB (l.drop (2+32*0)) 4 4} (l.drop (2+32*0)) (1+jG (l.drop (2+32*0)) 5 2)=p at e3 ⊢
  simp only [List.nil_append,List.getD_cons_zero]
  rw [e3]
  dsimp only
  rw [hr]
  exact ⟨rfl,rfl⟩
 | i+2,_=>by
  have h:=KG l (offices:=offices) (i+1) (by omega)
  have e:(qZ l offices (i+2)).l=(next (qZ l offices (i+1)) offices (l.drop (2+32*(i+1)))).l:=rfl
  rw [e]
  unfold Go.Proofs.YtpdhandimdibhaaGreatDoor.next
  dsimp only
  rw [jT ?_]
  ·exact h
  ·have e2:(qZ l offices (i+1)).l=(next (qZ l offices i) offices (l.drop (2+32*i))).l:=rfl
   rw [e2,KP]
   omega
theorem Yx (l:List Int):(∀p∈patches l,FV p)∧0<(patches l).length∧(patches l).length≤9:=by
 have a1:=wy (l:=l) (i:=1) (n:=2) (by omega)
 have a1':jG l 1 2<2:=a1
 have a0:=wy (l:=l) (i:=0) (n:=8) (by omega)
 have a0':jG l 0 8<8:=a0
 obtain ⟨h1,h2,h3⟩:=Z6 l (offices:=2+jG l 1 2) (by omega) (by omega) (2+jG l 0 8) (by omega)
 obtain ⟨f1,f2⟩:=KG l (offices:=2+jG l 1 2) (2+jG l 0 8) (by omega)
 unfold patches
 generalize qZ l (2+jG l 1 2) (2+jG l 0 8)=x at h1 h2 h3 f1 f2 ⊢
 refine ⟨fun p hp=>?_,List.length_pos_iff.2 (Wr (by omega) f1 f2),?_⟩
 ·have hm:=g9 _ p hp
  have hs:=h1.sq p hm
  have hd:=h1.dy p hm
  exact fv_of (h2.q p hm) (by omega) (by omega) (h1.op p hm)
 ·have:∀n:Nat,(qT x.l n).1.length≤n:=by
   intro n
   induction n with
   |zero=>simp [qT]
   | succ n ih=>
    unfold qT
    dsimp only
    split
    ·split
     ·dsimp only;omega
     ·rw [List.length_append,List.length_singleton];omega
    ·omega
  have:=this x.l.length
  unfold ordered
  omega
end Go.Proofs.YtpdhandimdibhaaGreatDoor
end
section
namespace Go.Proofs.YtpdhandimdibhaaGreatDoor
open Go Go.Aw
theorem w_dops {xb:List (List D)} {a0 a1 a2 many:Int} {nd:D} {zo:AO} {b2 br b6:Nat} {b3:List UInt8} {x3:Bool} {H:AH} {Q:AQ} {F:List D} (hb3:b3.length≤3000000) (nr6:br≠b6) (n26:b2≠b6) (h6:qD H b6) (nbr:br≠b2) (hr:qD H br)
  (hF:∀i:Nat,i=0→Fr 116 [(0,.slc xb),(2,.ptr b2 0),(4,.ptr br 0),(6,.ptr b6 0),(8,.int .i64 many),(11,.int .i64 (i:Int))] F)
  (hE:∀(os:List OpP) (bb:List UInt8) (bad:Bool),ua (wA many) b3 x3=(os,bb,bad)→∀F',Fr 116 [(0,.slc xb),(2,.ptr b2 0),(4,.ptr br 0),(6,.ptr b6 0)] F'→Q (.exit 2) F' ((b6,AO.cells [.int .i64 a0,.int .i64 a1,.int .i64 a2,nd,.own (qE os),.str []])::(br,vn bb bad)::(b2,zo)::H)):
  XW Tryz.prog x27_L3 F ((b6,AO.cells [.int .i64 a0,.int .i64 a1,.int .i64 a2,nd,.own [],.str []])::(br,vn b3 x3)::(b2,zo)::H) Q:=by
 have hbig:=qt
 have hc17:wA many≤17:=by unfold wA;omega
 refine XW.loopK Go.Proofs.YtpdhandimdibhaaGreatDoor.hm (fun F H'=>∃(i:Nat) (os:List OpP) (bb:List UInt8) (bad:Bool),i≤wA many∧os.length=i∧bb.length≤3000000∧ua (wA many) b3 x3=(os++(ua (wA many - i) bb bad).1,(ua (wA many - i) bb bad).2)∧Fr 116 [(0,.slc xb),(2,.ptr b2 0),(4,.ptr br 0),(6,.ptr b6 0),(8,.int .i64 many),(11,.int .i64 (i:Int))] F∧H'=((b6,AO.cells [.int .i64 a0,.int .i64 a1,.int .i64 a2,nd,.own (qE os),.str []])::(br,vn bb bad)::(b2,zo)::H)) (fun F H=>match F.getD 11 .any with| .int _ n'=>17 - n'.toNat|_=>0) ⟨0,[],b3,x3,by omega,rfl,hb3,by simp,hF 0 rfl,rfl⟩ ?_
 rintro _ _ ⟨i,os,bb,bad,hi,hos,hbb,hcon,hF,rfl⟩ K hN hE' hR
 obtain ⟨z,rfl⟩:∃z:Nat→D,_= .slc xb::z 1:: .ptr b2 0::z 3:: .ptr br 0::z 5:: .ptr b6 0::z 7:: .int .i64 many::zz z 9 2 (.int .i64 (i:Int)::zz z 12 104 []):=hF.lit
 try dsimp only [zz,qb] at*
 clear hF hR
 have ol:(qE os).length=os.length:=qi
 have nb6:qu ((b2,zo)::H) b6=none:=jf ⟨Ne.symm n26,h6⟩
 have nb7:qu ((b2,zo)::H) br=none:=jf ⟨nbr,hr⟩
 by_cases hlt:i<wA many∧bad=false
 ·obtain ⟨hlt,hbd⟩:=hlt
  subst hbd
  have m1:((i:Int)<many)=True:=eq_true (by unfold wA at hlt;omega)
  have m2:((i:Int)≤16)=True:=eq_true (by omega)
  have hle:=op_le (b:=bb) (bad:=false) hbb
  have nx:∀F' H',back ((b6,AO.cells [.int .i64 a0,.int .i64 a1,.int .i64 a2,nd,.own (qE os),.str []])::(br,vn bb false)::(b2,zo)::H).length H'=((b6,AO.cells [.int .i64 a0,.int .i64 a1,.int .i64 a2,nd,.own (qE (os++ [(jv bb false).1])),.str []])::(br,vn (jv bb false).2.1 (jv bb false).2.2)::(b2,zo)::H)→Fr 116 [(0,.slc xb),(2,.ptr b2 0),(4,.ptr br 0),(6,.ptr b6 0),(8,.int .i64 many),(11,.int .i64 ((i+1:Nat):Int))] F'→K .normal F' H':=fun F' H' hH hF'=>hN _ _ ⟨i+1,os++ [(jv bb false).1],(jv bb false).2.1,(jv bb false).2.2,hlt,by simp [hos],by omega,by
    obtain ⟨q,hq⟩:∃q,wA many - i=q+1:=⟨wA many - i - 1,by omega⟩
    rw [hcon,hq,show wA many - (i+1)=q by omega]
    simp [ua],hF',hH⟩ (by
   rw [List.getD_eq_getElem?_getD,hF'.2.2.2.2.2.2.1]
   simp only [List.getD_cons_succ,List.getD_cons_zero,Option.getD_some]
   omega)
  clear hN hE hE' hcon
  have hcall:∀H1,qu H1 br=some (AO.cells [.slc (bb.map qA),.bool false])→ACall Tryz.prog 49 [.ptr br 0] H1 (fun d' H'=>d'= .agg (jv bb false).1.d∧H'=qF H1 br (vn (jv bb false).2.1 (jv bb false).2.2)):=fun H1 hg=>f_op (b:=bb) (bad:=false) (by omega) hg ⟨rfl,rfl⟩
  have hod:(jv bb false).1.d.length=13:=rfl
  simp+contextual only [gn,qj,qr,qi,yg,yh,m1,m2,vn,qg nr6,↓gP,↓XP,↓XU,qn,XW1,qa,qb,qc,qd,qe,qf,reduceCtorEq]
  refine ⟨.inl nb6,_,br,_,_,nb7,.inr (by simpa using nr6),by rw [qg nr6];exact jS,hcall,?_⟩
  generalize (jv bb false).2.1=bb' at nx ⊢
  generalize (jv bb false).2.2=bad' at nx ⊢
  generalize (jv bb false).1=o at nx ⊢
  rw [←JW] at nx
  have hod:o.d= [.int .i64 o.k,.int .i64 o.on.o,.int .i64 o.on.s,.int .i64 o.on.i,.int .i64 o.to.o,.int .i64 o.to.s,.int .i64 o.to.i,.slc (qI o.ids),.int .i64 o.n,.str o.name,.str o.text,.int .i64 o.a,.int .i64 o.b]:=rfl
  simp+contextual only [gn,qj,qr,qi,yg,yh,hod,vn,qh nr6,qp (show i≤big by omega),ol,↓gP,↓XP,↓XU,qn,XW1,qa,qb,qc,qd,qe,qf,reduceCtorEq]
  refine ⟨yi,by omega,by omega,nx _ _ (j7 rfl) ?_⟩
  exact ⟨rfl,rfl,rfl,rfl,rfl,rfl,rfl,trivial⟩
 ·have e0:ua (wA many - i) bb bad=([],bb,bad):=by
   rcases Classical.em (bad=true) with hb|hb
   ·subst hb
    cases wA many - i<;>rfl
   ·have:wA many - i=0:=by
     have:¬i<wA many:=fun h=>hlt ⟨h,by simpa using hb⟩
     omega
    rw [this]
    rfl
  rw [e0,List.append_nil] at hcon
  have fin:=fun F'=>hE os bb bad hcon F'
  clear hN hE hcon e0
  by_cases c1:(i:Int)<many
  ·by_cases c2:i≤16
   ·have hb:bad=true:=by
     refine Classical.byContradiction fun hb=>hlt ⟨?_,by simpa using hb⟩
     unfold wA
     omega
    subst hb
    simp+contextual only [gn,qj,qr,qi,yg,yh,eq_true c1,show ((i:Int)≤16)=True from eq_true (by omega),vn,qg nr6,↓gP,↓XP,↓XU,qn,XW1,qa,qb,qc,qd,qe,qf,reduceCtorEq]
    exact hE' _ _ _ (fin _ ⟨rfl,rfl,rfl,rfl,rfl,trivial⟩)
   ·simp+contextual only [gn,qj,qr,qi,yg,yh,eq_true c1,show ((i:Int)≤16)=False from eq_false (by omega),vn,qg nr6,↓gP,↓XP,↓XU,qn,XW1,qa,qb,qc,qd,qe,qf,reduceCtorEq]
    exact hE' _ _ _ (fin _ ⟨rfl,rfl,rfl,rfl,rfl,trivial⟩)
  ·simp+contextual only [gn,qj,qr,qi,yg,yh,eq_false c1,vn,qg nr6,↓gP,↓XP,↓XU,qn,XW1,qa,qb,qc,qd,qe,qf,reduceCtorEq]
   exact hE' _ _ _ (fin _ ⟨rfl,rfl,rfl,rfl,rfl,trivial⟩)
theorem Ge {b:List UInt8} {H:AH} {R:D→AH→Prop} (hB:b.length≤3000000) (h:R (.tup [.agg (oR b).1.d,.int .i64 (oR b).2]) H):ACall Tryz.prog 27 [.slc (b.map qA)] H R:=by
 refine b27 fun hf=>?_
 have hbig:=qt
 simp+contextual only [gn,qj,qr,yg,yh,↓gP,↓XP,↓XU,qn,XW1,qa,qb,qc,qd,qe,qf,reduceCtorEq]
 intro b2 h2 br hr
 have e2:b2≠br:=hr.1
 have hr2:=hr.2
 refine oG (b:=b) (bad:=false) (many:=((3:Nat):Int)) (by':=1) (by omega) (by omega) (by omega) (by omega) jS fun d hd=>?_
 rw [uw]
 have hl:=Vn (b:=b) (bad:=false) (m:=3)
 obtain ⟨l,hl0⟩:∃l,QS b false ((3:Nat):Int) 1=l:=⟨_,rfl⟩
 obtain ⟨bad1,hbad1⟩:∃x,yl b false ((3:Nat):Int) 1=x:=⟨_,rfl⟩
 obtain ⟨c1,hc1⟩:∃x,b.drop (jn b).2.1=x:=⟨_,rfl⟩
 rw [hl0] at hl hd
 rw [hbad1,hc1]
 obtain ⟨a0,a1,a2,rfl⟩:=Wg hl
 have hB1:c1.length≤b.length:=by rw [←hc1];simp
 clear hl
 obtain ⟨xs,hxs,hx3,x0,x1,x2⟩:∃xs,ints [a0,a1,a2]=xs∧xs.length=3∧xs.getD 0 []= [.int .i64 a0]∧xs.getD 1 []= [.int .i64 a1]∧xs.getD 2 []= [.int .i64 a2]:=⟨_,rfl,rfl,rfl,rfl,rfl⟩
 rw [hxs] at hd
 simp+contextual only [gn,qj,qr,yg,yh,hd,hx3,x0,x1,x2,show ((3:Nat):Int)=3 from rfl,Int.reduceToNat,Int.reduceLE,Int.reduceLT,↓gP,↓XP,↓XU,qn,XW1,qa,qb,qc,qd,qe,qf,reduceCtorEq]
 intro _ _ _ _
 refine ⟨by omega,?_⟩
 rintro b6 ⟨nr6,n26,h6⟩
 obtain ⟨zo,hzz⟩:∃zo,AO.cells [.int .i64 0,.int .i64 0,.int .i64 0,.own [],.own [],.str []]=zo:=⟨_,rfl⟩
 rw [zA]
 refine Gz.bind (k:=fun F'' H''=>F''=_∧H''=_) (Gz.take (j:=3) rfl (fun h=>(h rfl).elim) ⟨rfl,rfl⟩) ?_
 rintro _ _ ⟨rfl,rfl⟩
 refine Gz.take (j:=4) rfl (fun h=>(h rfl).elim) ?_
 simp only [jx,if_true]
 rw [hzz]
 simp+contextual only [gn,qj,qr,yg,yh,↓gP,↓XP,↓XU,qn,XW1,qa,qb,qc,qd,qe,qf,reduceCtorEq]
 refine oG (b:=c1) (bad:=bad1) (many:= -1) (by':=2) (by omega) (by omega) (by omega) (by omega) (by rw [qg nr6];exact jS) fun d2 hd2=>?_
 rw [qh nr6,uw]
 have hm2:=ZE (b:=c1) (bad:=bad1) (k:=2)
 have hml:=YH (b:=c1) (bad:=bad1) (k:=2)
 obtain ⟨m,hm0⟩:∃m,QS c1 bad1 (-1) 2=m:=⟨_,rfl⟩
 obtain ⟨bad2,hbad2⟩:∃x,yl c1 bad1 (-1) 2=x:=⟨_,rfl⟩
 obtain ⟨c2,hc2⟩:∃x,c1.drop (jn c1).2.1=x:=⟨_,rfl⟩
 have hB2:c2.length≤c1.length:=by rw [←hc2];simp
 rw [hm0] at hm2 hml hd2
 rw [hbad2,hc2]
 obtain ⟨fi,hfi⟩:∃fi,fi=76:=⟨_,rfl⟩
 simp+contextual only [gn,qj,qr,yg,yh,hd2,↓gP,↓XP,↓XU,qn,XW1,qa,qb,qc,qd,qe,qf,reduceCtorEq]
 refine fun _=>WM (fi:=fi) hfi (by omega) fun bA bB hA hB'=>?_
 have hAB:bA≠bB:=hB'.1
 simp+contextual only [gn,qj,qr,yg,yh,↓gP,↓XP,↓XU,qn,XW1,qa,qb,qc,qd,qe,qf,reduceCtorEq]
 refine XRF.chunkK hm (by rw [hfi];exact it76) (p:=32) (t:=7) (k:=2) (xs:=ints m) (b1:=bA) (b2:=bB) (f:=fi) rfl (by show (32:Nat)<116;omega) (by rw [qg hAB];exact jS) jS (by omega) (by omega) ug
  (fun pre H'=>H'=((b6,AO.cells [.int .i64 a0,.int .i64 a1,.int .i64 a2,.own (qM (pre.map (pair m))),.own [],.str []])::(br,vn c2 bad2)::(b2,zo)::H))
  _ (by rw [jK hAB,vK,vK];exact Sbn.sub (List.Sublist.refl _)) rfl ?_ ?_
 ·intro pre j H' hI hj hpl hfact K hK
  subst hI
  obtain ⟨y2,y0,y1⟩:=chunk_2 hm2 hj
  rw [cnt_2 hm2] at hj hpl
  generalize jO (ints m) 2 j=ys at y2 y0 y1 ⊢
  have nx:=fun F' H''=>hK F' H'' _ (Sbn.sub (List.Sublist.refl _)) 
  clear hK
  rw [List.map_append,List.map_cons,List.map_nil,←Y7] at nx
  have il:(qM (pre.map (pair m))).length=pre.length:=by simp [qM]
  have hac:=zJ (l:=pre.map (pair m))
  generalize qM (pre.map (pair m))=acc at nx il hac ⊢
  generalize pair m j=tj at nx y0 y1
  simp+contextual only [gn,qj,qr,yg,yh,y2,y0,y1,hd,hd2,show ((2:Nat):Int)=2 from rfl,Int.reduceToNat,Int.reduceLE,Int.reduceLT,↓gP,↓XP,↓XU,qn,XW1,qa,qb,qc,qd,qe,qf,reduceCtorEq]
  have n6:qu ((br,vn c2 bad2)::(b2,zo)::H) b6=none:=jf ⟨Ne.symm nr6,Ne.symm n26,h6⟩
  exact ⟨.inl n6,fun _ _=>⟨hac,by omega,by omega,nx _ _ rfl⟩⟩
 ·intro H' hI
  subst hI
  rw [cnt_2 hm2,show (List.range (m.length / 2)).map (pair m)=pairs m from rfl]
  simp+contextual only [gn,qj,qr,yg,yh,hd,hd2,vn,qg nr6,↓gP,↓XP,↓XU,qn,XW1,qa,qb,qc,qd,qe,qf,reduceCtorEq]
  refine fun _=>zp ?_
  simp+contextual only [gn,qj,qr,yg,yh,hd,hd2,↓gP,↓XP,↓XU,qn,XW1,qa,qb,qc,qd,qe,qf,reduceCtorEq]
  have hr0:qu ((b6,AO.cells [.int .i64 a0,.int .i64 a1,.int .i64 a2,.own (qM (pairs m)),.own [],.str []])::(br,vn c2 bad2)::(b2,zo)::H) br=some (vn c2 bad2):=by rw [qg nr6];exact jS
  refine fun _ _ _=>JT (b:=c2) (bad:=bad2) zy hr0 ?_
  rw [qh nr6,uw]
  have hle3:(c2.drop (qP c2).2.1).length≤c2.length:=by simp
  obtain ⟨t,ht⟩:∃t,qP c2=t:=⟨_,rfl⟩
  rw [ht] at hle3 ⊢
  obtain ⟨many,kk,ee⟩:=t
  dsimp only at hle3 ⊢
  simp+contextual only [gn,qj,qr,yg,yh,hd,hd2,↓gP,↓XP,↓XU,qn,XW1,qa,qb,qc,qd,qe,qf,reduceCtorEq]
  refine w_dops (xb:=b.map qA) (by omega) nr6 n26 h6 (Ne.symm e2) hr2 (fun i hi=>by subst hi;exact ⟨rfl,rfl,rfl,rfl,rfl,rfl,rfl,trivial⟩) fun os bb bad hops F' hF'=>?_
  obtain ⟨z,rfl⟩:∃z:Nat→D,_=(let xb:=b.map qA; [.slc xb,z 1,.ptr b2 0,z 3,.ptr br 0,z 5,.ptr b6 0,z 7,z 8,z 9,z 10,z 11,z 12,z 13,z 14,z 15,z 16,z 17,z 18,z 19,z 20,z 21,z 22,z 23,z 24,z 25,z 26,z 27,z 28,z 29,z 30,z 31,z 32,z 33,z 34,z 35,z 36,z 37,z 38,z 39,z 40,z 41,z 42,z 43,z 44,z 45,z 46,z 47,z 48,z 49,z 50,z 51,z 52,z 53,z 54,z 55,z 56,z 57,z 58,z 59,z 60,z 61,z 62,z 63,z 64,z 65,z 66,z 67,z 68,z 69,z 70,z 71,z 72,z 73,z 74,z 75,z 76,z 77,z 78,z 79,z 80,z 81,z 82,z 83,z 84,z 85,z 86,z 87,z 88,z 89,z 90,z 91,z 92,z 93,z 94,z 95,z 96,z 97,z 98,z 99,z 100,z 101,z 102,z 103,z 104,z 105,z 106,z 107,z 108,z 109,z 110,z 111,z 112,z 113,z 114,z 115]):=hF'.lit
  clear hF'
  have hor:=Ww (B:=3000000) (wA many) (c2.drop kk) (bad2||decide (ee≠0)) (by omega)
  rw [hops] at hor
  obtain ⟨o1,o2,o3⟩:=hor
  dsimp only at o1 o2 o3
  simp+contextual only [gn,qj,qr,yg,yh,vn,qg nr6,↓gP,↓XP,↓XU,qn,XW1,qa,qb,qc,qd,qe,qf,reduceCtorEq]
  refine fun _=>zW ?_
  simp+contextual only [gn,qj,qr,yg,yh,qg nr6,↓gP,↓XP,↓XU,qn,XW1,qa,qb,qc,qd,qe,qf,reduceCtorEq]
  have hr1:qu ((b6,AO.cells [.int .i64 a0,.int .i64 a1,.int .i64 a2,.own (qM (pairs m)),.own (qE os),.str []])::(br,vn bb bad)::(b2,zo)::H) br=some (vn bb bad):=by rw [qg nr6];exact jS
  refine fun _ _ _=>JT (b:=bb) (bad:=bad) Qj hr1 ?_
  rw [qh nr6,uw]
  have hsl:=Ky (b:=bb)
  have hp:ut b=(⟨a0,a1,a2,pairs m,os,(qX bb).1⟩,bad||decide ((qX bb).2.2≠0)):=by
   unfold ut W9
   rw [show QS b false 3 1=_ from hl0,show yl b false 3 1=_ from hbad1,hc1,hm0,hc2,hbad2]
   unfold Wn
   rw [ht,hops]
   rfl
  unfold oR at h
  rw [hp] at h
  clear hp
  dsimp only at h
  generalize (qX bb).2.2=e5 at h ⊢
  generalize (qX bb).2.1=k5 at h ⊢
  generalize (qX bb).1=sl at h hsl ⊢
  obtain ⟨bad5,hbad5⟩:∃x,(bad||decide (e5≠0))=x:=⟨_,rfl⟩
  rw [hbad5] at h ⊢
  clear hbad5
  subst hzz
  cases bad5 with
  | true=>
   rw [if_neg (by simp)] at h
   simp+contextual only [gn,qj,qr,yg,yh,vn,qg nr6,qg n26,qh n26,qg e2,qh e2,↓gP,↓XP,↓XU,qn,XW1,qa,qb,qc,qd,qe,qf,reduceCtorEq]
   exact h
  | false=>
   simp+contextual only [gn,qj,qr,yg,yh,vn,qg nr6,↓gP,↓XP,↓XU,qn,XW1,qa,qb,qc,qd,qe,qf,reduceCtorEq]
   obtain ⟨p,hp⟩:∃p:Pt,(⟨a0,a1,a2,pairs m,os,sl⟩:Pt)=p:=⟨_,rfl⟩
   have hpd: [D.int .i64 a0,.int .i64 a1,.int .i64 a2,.slc (qM (pairs m)),.slc (qE os),.str sl]=p.d:=by rw [←hp];rfl
   have hfit:Fit p:=by
    rw [←hp]
    have:wA many≤17:=by unfold wA;omega
    exact ⟨by show os.length≤1000;omega,by show (pairs m).length≤3000000;unfold pairs;rw [List.length_map,List.length_range];omega,fun o ho=>(o3 o ho).1,fun o ho=>(o3 o ho).2.1,fun o ho=>(o3 o ho).2.2,by show sl.length≤3000000;omega⟩
   rw [hp] at h
   rw [hpd]
   refine Jp hfit ?_
   rcases Classical.em (gj p=0) with g1|g1
   ·rw [if_pos g1,g1]
    rcases Classical.em (yn p=b) with g2|g2
    ·rw [if_pos ⟨rfl,g1,g2⟩] at h
     have g3:decide (b=yn p)=true:=decide_eq_true g2.symm
     simp+contextual only [gn,qj,qr,yg,yh,vn,qg nr6,↓gP,↓XP,↓XU,qn,XW1,qa,qb,qc,qd,qe,qf,reduceCtorEq]
     refine fun _ _=>WI ?_
     rw [g3]
     simp+contextual only [gn,qj,qr,yg,yh,vn,qg nr6,qg n26,qh n26,qg e2,qh e2,↓gP,↓XP,↓XU,qn,XW1,qa,qb,qc,qd,qe,qf,reduceCtorEq]
     rw [hpd]
     exact h
    ·rw [if_neg (fun h=>g2 h.2.2)] at h
     have g3:decide (b=yn p)=false:=decide_eq_false (fun h=>g2 h.symm)
     simp+contextual only [gn,qj,qr,yg,yh,vn,qg nr6,↓gP,↓XP,↓XU,qn,XW1,qa,qb,qc,qd,qe,qf,reduceCtorEq]
     refine fun _ _=>WI ?_
     rw [g3]
     simp+contextual only [gn,qj,qr,yg,yh,vn,qg nr6,qg n26,qh n26,qg e2,qh e2,↓gP,↓XP,↓XU,qn,XW1,qa,qb,qc,qd,qe,qf,reduceCtorEq]
     exact h
   ·rw [if_neg g1]
    rw [if_neg (fun h=>g1 h.2.1)] at h
    simp+contextual only [gn,qj,qr,yg,yh,vn,eq_false g1,qg nr6,qg n26,qh n26,qg e2,qh e2,↓gP,↓XP,↓XU,qn,XW1,qa,qb,qc,qd,qe,qf,reduceCtorEq]
    exact fun _ _=>h
end Go.Proofs.YtpdhandimdibhaaGreatDoor
end
section
namespace Go.Proofs.YtpdhandimdibhaaGreatDoor
open Go Go.Aw
theorem ZX {a b:List UInt8} {H:AH} {R:D→AH→Prop} (h:R (.bool (decide (a=b))) H):ACall Tryz.prog 30 [.slc (a.map qA),.slc (b.map qA)] H R:=by
 refine b30 fun hf=>?_
 have hbig:=qt
 have hk:∀c,decide (a=b)=c→R (.bool c) H:=fun c hc=>hc▸h
 clear h
 rcases Classical.em (a.length=b.length) with hl|hl
 ·simp+contextual only [x30,qj,show ((a.length:Int)=(b.length:Int))=True from eq_true (by omega),↓U30,↓XP,↓XU,qn,XW1,qa,qb,qc,qd,qe,qf,reduceCtorEq]
  refine fun _ _=>XW.loopK Go.Proofs.YtpdhandimdibhaaGreatDoor.hm (fun F H'=>∃(i:Nat),i≤a.length∧a.take i=b.take i∧Fr 26 [(0,.slc (a.map qA)),(1,.slc (b.map qA)),(5,.int .i64 (i:Int))] F∧H=H') (fun F H=>match F.getD 5 .any with| .int _ n'=>a.length - n'.toNat|_=>0) ⟨0,by omega,by simp,⟨rfl,rfl,rfl,rfl,trivial⟩,rfl⟩ ?_
  rintro _ _ ⟨i,hi,hv,hF,rfl⟩ K hN hE hR
  obtain ⟨z,rfl⟩:∃z:Nat→D,_= .slc (a.map qA):: .slc (b.map qA)::zz z 2 3 (.int .i64 (i:Int)::zz z 6 20 []):=hF.lit
  try dsimp only [zz,qb] at*
  clear hF
  rcases Classical.em (i<a.length) with hlt|hlt
  ·have q1:=vM hlt
   have q2:=vM (l:=b) (i:=i) (by omega)
   have e1:a.take (i+1)=a.take i++ [a.getD i 0]:=by rw [List.take_add_one];simp [hlt]
   have e2:b.take (i+1)=b.take i++ [b.getD i 0]:=by rw [List.take_add_one];simp [show i<b.length by omega]
   have nx:a.getD i 0=b.getD i 0→∀F',Fr 26 [(0,.slc (a.map qA)),(1,.slc (b.map qA)),(5,.int .i64 ((i+1:Nat):Int))] F'→K .normal F' H:=fun he F' hF'=>hN _ _ ⟨i+1,hlt,by rw [e1,e2,hv,he],hF',(j7 rfl).symm⟩ (by
    rw [List.getD_eq_getElem?_getD,hF'.2.2.2.1]
    simp only [List.getD_cons_succ,List.getD_cons_zero,Option.getD_some]
    omega)
   have bad:a.getD i 0≠b.getD i 0→R (.bool false) H:=fun he=>hk false (decide_eq_false fun h=>he (by rw [h]))
   clear hN hE hk
   generalize a.getD i 0=x at q1 nx bad
   generalize b.getD i 0=y at q2 nx bad
   have hlb:(((i:Nat):Int)<(b.length:Int))=True:=eq_true (by omega)
   rcases Classical.em (x=y) with hxy|hxy
   ·have c1:((x.toNat:Int)=(y.toNat:Int))=True:=eq_true (by rw [hxy])
    simp+contextual only [x30,qj,hlt,hlb,Int.ofNat_lt,q1,q2,c1,qp (show i≤big by omega),↓U30,↓XP,↓XU,qn,XW1,qa,qb,qc,qd,qe,qf,reduceCtorEq]
    exact fun _ _ _=>nx hxy _ ⟨rfl,rfl,rfl,rfl,trivial⟩
   ·have c1:((x.toNat:Int)=(y.toNat:Int))=False:=eq_false (fun h=>hxy (UInt8.toNat_inj.1 (by omega)))
    simp+contextual only [x30,qj,hlt,hlb,Int.ofNat_lt,q1,q2,c1,qp (show i≤big by omega),↓U30,↓XP,↓XU,qn,XW1,qa,qb,qc,qd,qe,qf,reduceCtorEq]
    refine fun _ _ _=>hR _ _ ?_
    simp+contextual only [x30,qj,↓U30,↓XP,↓XU,qn,XW1,qa,qb,qc,qd,qe,qf,reduceCtorEq]
    exact bad hxy
  ·have hik:i=a.length:=by omega
   subst hik
   clear hN
   rw [List.take_length,hl,List.take_length] at hv
   simp+contextual only [x30,qj,↓U30,↓XP,↓XU,qn,XW1,qa,qb,qc,qd,qe,qf,reduceCtorEq]
   refine fun _=>hE _ _ _ ?_
   simp+contextual only [x30,qj,↓U30,↓XP,↓XU,qn,XW1,qa,qb,qc,qd,qe,qf,reduceCtorEq]
   exact hk true (decide_eq_true hv)
 ·simp+contextual only [x30,qj,show ((a.length:Int)=(b.length:Int))=False from eq_false (by omega),↓U30,↓XP,↓XU,qn,XW1,qa,qb,qc,qd,qe,qf,reduceCtorEq]
  exact fun _ _=>hk false (decide_eq_false fun h=>hl (by rw [h]))
theorem zI {l:List Id3} {H:AH} {R:D→AH→Prop} (h:R (.bool true) H):ACall Tryz.prog 8 [.slc (qI l),.slc (qI l)] H R:=by
 refine b8 fun hf=>?_
 have hbig:=qt
 simp+contextual only [x8,qk,↓U8,↓XP,↓XU,qn,XW1,qa,qb,qc,qd,qe,qf,reduceCtorEq]
 refine fun _=>XW.loopK Go.Proofs.YtpdhandimdibhaaGreatDoor.hm (fun F H'=>∃(i:Nat),i≤l.length∧Fr 26 [(0,.slc (qI l)),(1,.slc (qI l)),(5,.int .i64 (i:Int))] F∧H=H') (fun F H=>match F.getD 5 .any with| .int _ n'=>l.length - n'.toNat|_=>0) ⟨0,by omega,⟨rfl,rfl,rfl,rfl,trivial⟩,rfl⟩ ?_
 rintro _ _ ⟨i,hi,hF,rfl⟩ K hN hE hR
 obtain ⟨z,rfl⟩:∃z:Nat→D,_= .slc (qI l):: .slc (qI l)::zz z 2 3 (.int .i64 (i:Int)::zz z 6 20 []):=hF.lit
 try dsimp only [zz,qb] at*
 clear hF
 rcases Classical.em (i<l.length) with hlt|hlt
 ·have q1:=kL hlt
  have nx:∀F',Fr 26 [(0,.slc (qI l)),(1,.slc (qI l)),(5,.int .i64 ((i+1:Nat):Int))] F'→K .normal F' H:=fun F' hF'=>hN _ _ ⟨i+1,hlt,hF',(j7 rfl).symm⟩ (by
   rw [List.getD_eq_getElem?_getD,hF'.2.2.2.1]
   simp only [List.getD_cons_succ,List.getD_cons_zero,Option.getD_some]
   omega)
  clear hN hE hR
  generalize l.getD i default=x at q1 nx
  have hx:x.d= [.int .i64 x.o,.int .i64 x.s,.int .i64 x.i]:=rfl
  simp+contextual only [x8,qk,hlt,Int.ofNat_lt,q1,hx,qp (show i≤big by omega),↓U8,↓XP,↓XU,qn,XW1,qa,qb,qc,qd,qe,qf,reduceCtorEq]
  exact fun _=>nx _ ⟨rfl,rfl,rfl,rfl,trivial⟩
 ·have hik:i=l.length:=by omega
  subst hik
  clear hN
  simp+contextual only [x8,qk,↓U8,↓XP,↓XU,qn,XW1,qa,qb,qc,qd,qe,qf,reduceCtorEq]
  refine fun _=>hE _ _ _ ?_
  simp+contextual only [x8,qk,↓U8,↓XP,↓XU,qn,XW1,qa,qb,qc,qd,qe,qf,reduceCtorEq]
  exact h
theorem Zg {o:OpP} {H:AH} {R:D→AH→Prop} (h:R (.bool true) H):ACall Tryz.prog 53 [.agg o.d,.agg o.d] H R:=by
 refine b53 fun hf=>?_
 have hbig:=qt
 have hod:o.d= [.int .i64 o.k,.int .i64 o.on.o,.int .i64 o.on.s,.int .i64 o.on.i,.int .i64 o.to.o,.int .i64 o.to.s,.int .i64 o.to.i,.slc (qI o.ids),.int .i64 o.n,.str o.name,.str o.text,.int .i64 o.a,.int .i64 o.b]:=rfl
 simp+contextual only [x53,hod,qk,↓Zz,↓XP,↓XU,qn,XW1,qa,qb,qc,qd,qe,qf,reduceCtorEq]
 refine fun b2 _ b3 _ _ _ _ _ _=>zI ?_
 simp+contextual only [x53,hod,qk,↓Zz,↓XP,↓XU,qn,XW1,qa,qb,qc,qd,qe,qf,reduceCtorEq]
 exact h
theorem f_same {p:Pt} {H:AH} {R:D→AH→Prop} (h:R (.bool true) H):ACall Tryz.prog 29 [.agg p.d,.agg p.d] H R:=by
 refine b29 fun hf=>?_
 have hbig:=qt
 have hd:=@dE p
 simp+contextual only [x29,hd,ql,qi,↓U29,↓XP,↓XU,qn,XW1,qa,qb,qc,qd,qe,qf,reduceCtorEq]
 rintro b2 h2 b3 ⟨n23,h3⟩
 intros
 simp only [←hd]
 refine XW.loopK Go.Proofs.YtpdhandimdibhaaGreatDoor.hm (fun F H'=>∃(i:Nat),i≤p.needs.length∧Fr 88 [(2,.ptr b2 0),(3,.ptr b3 0),(5,.int .i64 (i:Int))] F∧((b3,AO.cells p.d)::(b2,AO.cells p.d)::H)=H') (fun F H=>match F.getD 5 .any with| .int _ n'=>p.needs.length - n'.toNat|_=>0) ⟨0,by omega,⟨rfl,rfl,rfl,rfl,trivial⟩,rfl⟩ ?_
 rintro _ _ ⟨i,hi,hF,rfl⟩ K hN hE hR
 obtain ⟨z,rfl⟩:∃z:Nat→D,_=zz z 0 2 (.ptr b2 0:: .ptr b3 0::z 4:: .int .i64 (i:Int)::zz z 6 82 []):=hF.lit
 try dsimp only [zz,qb] at*
 clear hF hR
 rcases Classical.em (i<p.needs.length) with hlt|hlt
 ·have q1:=uv hlt
  have nx:∀F',Fr 88 [(2,.ptr b2 0),(3,.ptr b3 0),(5,.int .i64 ((i+1:Nat):Int))] F'→K .normal F' ((b3,AO.cells p.d)::(b2,AO.cells p.d)::H):=fun F' hF'=>hN _ _ ⟨i+1,hlt,hF',(j7 rfl).symm⟩ (by
   rw [List.getD_eq_getElem?_getD,hF'.2.2.2.1]
   simp only [List.getD_cons_succ,List.getD_cons_zero,Option.getD_some]
   omega)
  clear hN hE
  generalize p.needs.getD i default=x at q1 nx
  have hx:x.d= [.int .i64 x.o,.int .i64 x.s]:=rfl
  simp+contextual only [x29,hd,ql,qi,hlt,Int.ofNat_lt,qg n23,q1,hx,qp (show i≤big by omega),↓U29,↓XP,↓XU,qn,XW1,qa,qb,qc,qd,qe,qf,reduceCtorEq]
  simp only [←hd]
  exact fun _=>nx _ ⟨rfl,rfl,rfl,rfl,trivial⟩
 ·have hik:i=p.needs.length:=by omega
  subst hik
  clear hN
  simp+contextual only [x29,hd,ql,qi,qg n23,↓U29,↓XP,↓XU,qn,XW1,qa,qb,qc,qd,qe,qf,reduceCtorEq]
  simp only [←hd]
  refine fun _=>hE _ _ _ ?_
  clear hE
  simp+contextual only [x29,hd,ql,qi,qg n23,↓U29,↓XP,↓XU,qn,XW1,qa,qb,qc,qd,qe,qf,reduceCtorEq]
  simp only [←hd]
  refine XW.loopK Go.Proofs.YtpdhandimdibhaaGreatDoor.hm (fun F H'=>∃(i:Nat),i≤p.ops.length∧Fr 88 [(2,.ptr b2 0),(3,.ptr b3 0),(6,.int .i64 (i:Int))] F∧((b3,AO.cells p.d)::(b2,AO.cells p.d)::H)=H') (fun F H=>match F.getD 6 .any with| .int _ n'=>p.ops.length - n'.toNat|_=>0) ⟨0,by omega,⟨rfl,rfl,rfl,rfl,trivial⟩,rfl⟩ ?_
  rintro _ _ ⟨i,hi,hF,rfl⟩ K hN hE hR
  obtain ⟨z,rfl⟩:∃z:Nat→D,_=zz z 0 2 (.ptr b2 0:: .ptr b3 0::zz z 4 2 (.int .i64 (i:Int)::zz z 7 81 [])):=hF.lit
  try dsimp only [zz,qb] at*
  clear hF hR
  rcases Classical.em (i<p.ops.length) with hlt|hlt
  ·have q1:=ke hlt
   have nx:∀F',Fr 88 [(2,.ptr b2 0),(3,.ptr b3 0),(6,.int .i64 ((i+1:Nat):Int))] F'→K .normal F' ((b3,AO.cells p.d)::(b2,AO.cells p.d)::H):=fun F' hF'=>hN _ _ ⟨i+1,hlt,hF',(j7 rfl).symm⟩ (by
    rw [List.getD_eq_getElem?_getD,hF'.2.2.2.1]
    simp only [List.getD_cons_succ,List.getD_cons_zero,Option.getD_some]
    omega)
   clear hN hE
   generalize p.ops.getD i default=o at q1 nx
   have hod:o.d= [.int .i64 o.k,.int .i64 o.on.o,.int .i64 o.on.s,.int .i64 o.on.i,.int .i64 o.to.o,.int .i64 o.to.s,.int .i64 o.to.i,.slc (qI o.ids),.int .i64 o.n,.str o.name,.str o.text,.int .i64 o.a,.int .i64 o.b]:=rfl
   simp+contextual only [x29,hd,ql,qi,hlt,Int.ofNat_lt,qg n23,q1,hod,qp (show i≤big by omega),↓U29,↓XP,↓XU,qn,XW1,qa,qb,qc,qd,qe,qf,reduceCtorEq]
   refine fun _=>⟨_,fun _ _=>Zg (o:=o) ⟨rfl,rfl⟩,?_⟩
   simp+contextual only [x29,hd,ql,qi,qp (show i≤big by omega),↓U29,↓XP,↓XU,qn,XW1,qa,qb,qc,qd,qe,qf,reduceCtorEq]
   simp only [←hd]
   exact nx _ ⟨rfl,rfl,rfl,rfl,trivial⟩
  ·have hik:i=p.ops.length:=by omega
   subst hik
   clear hN
   simp+contextual only [x29,hd,ql,qi,qg n23,↓U29,↓XP,↓XU,qn,XW1,qa,qb,qc,qd,qe,qf,reduceCtorEq]
   simp only [←hd]
   refine fun _=>hE _ _ _ ?_
   simp+contextual only [x29,hd,ql,qi,↓U29,↓XP,↓XU,qn,XW1,qa,qb,qc,qd,qe,qf,reduceCtorEq]
   exact h
def gx:List D:= [.int .u8 0,.int .u8 0,.int .u8 0,.int .u8 0,.int .u8 0,.int .u8 0,.int .u8 0,.int .u8 0,.int .u8 0,.int .u8 0,.int .u8 0,.int .u8 0,.int .u8 0,.int .u8 0,.int .u8 0,.int .u8 0]
def shortK:List UInt8:= [115,104,111,114,116]
theorem JR {H:AH} {R:D→AH→Prop} (h:R (.tup [.agg gx,.int .i64 1]) H):ACall Tryz.prog 52 [.str shortK,.int .i64 2] H R:=by
 refine b52 fun hf=>?_
 have hbig:=qt
 have hl:shortK.length=5:=rfl
 simp+contextual only [x52,hl,show (((5:Nat):Int)=32)=False from eq_false (by omega),↓U52,↓XP,↓XU,qn,XW1,qa,qb,qc,qd,qe,qf,reduceCtorEq]
 exact fun b hb _=>h
theorem ZL {H:AH} {R:D→AH→Prop} (h:R (.tup [.agg (gx++ [.int .i64 0]),.int .i64 1]) H):ACall Tryz.prog 28 [.agg [.str shortK,.int .i64 2]] H R:=by
 refine b28 fun hf=>?_
 have hbig:=qt
 have hl:shortK.length=5:=rfl
 simp+contextual only [x28,hl,show ((4:Int)<2)=False from by simp,show ((2:Int)>4)=False from by simp,↓U28,↓XP,↓XU,qn,XW1,qa,qb,qc,qd,qe,qf,reduceCtorEq]
 refine fun b1 h1 b2 h2 _ _=>JR ?_
 simp+contextual only [x28,hl,gx,show ((1:Int)=0)=False from by simp,qg h2.1,qh h2.1,↓U28,↓XP,↓XU,qn,XW1,qa,qb,qc,qd,qe,qf,reduceCtorEq]
 exact fun _ _ _=>h
theorem Wh {p:Pt} {o:OpP} {H:AH} {R:D→AH→Prop} (hp:p.ops= [o]) (h1:1≤o.k) (h4:o.k≤4) (h:R (.own (qI [⟨p.o,p.s,0⟩])) H):ACall Tryz.prog 6 [.agg p.d] H R:=by
 refine b6 fun hf=>?_
 have hbig:=qt
 have hd:=@dE p
 rw [hp] at hd
 have ol:(qE [o]).length=1:=rfl
 have q0:(qE [o]).getD 0 []=o.d:=rfl
 have hod:o.d= [.int .i64 o.k,.int .i64 o.on.o,.int .i64 o.on.s,.int .i64 o.on.i,.int .i64 o.to.o,.int .i64 o.to.s,.int .i64 o.to.i,.slc (qI o.ids),.int .i64 o.n,.str o.name,.str o.text,.int .i64 o.a,.int .i64 o.b]:=rfl
 simp+contextual only [x6,ol,qk,hd,↓U6,↓XP,↓XU,qn,XW1,qa,qb,qc,qd,qe,qf,reduceCtorEq]
 intro b1 hb1 _
 obtain ⟨ids,hids⟩:∃ids:List Id3,[⟨p.o,p.s,0⟩]=ids:=⟨_,rfl⟩
 refine XW.loopK Go.Proofs.YtpdhandimdibhaaGreatDoor.hm (fun F H'=>∃(i:Nat),i≤1∧Fr 28 [(1,.ptr b1 0),(3,.own (qI (ids.take i))),(7,.slc (qE [o])),(8,.int .i64 1),(9,.int .i64 (i:Int))] F∧((b1,AO.cells [.int .i64 p.o,.int .i64 p.s,.int .i64 p.day,.slc (qM p.needs),.slc (qE [o]),.str p.sl])::H)=H') (fun F H=>match F.getD 9 .any with| .int _ n'=>1 - n'.toNat|_=>0) ⟨0,by omega,by subst hids;exact ⟨rfl,rfl,rfl,rfl,rfl,rfl,trivial⟩,rfl⟩ ?_
 rintro _ _ ⟨i,hi,hF,rfl⟩ K hN hE hR
 obtain ⟨z,rfl⟩:∃z:Nat→D,_=z 0:: .ptr b1 0::z 2:: .own (qI (ids.take i))::zz z 4 3 (.slc (qE [o]):: .int .i64 1:: .int .i64 (i:Int)::zz z 10 18 []):=hF.lit
 try dsimp only [zz,qb] at*
 clear hF hR
 rcases Classical.em (i=0) with hlt|hlt
 ·subst hlt
  simp+contextual only [x6,ol,qk,hd,q0,hod,show (((0:Nat):Int)<1)=True from eq_true (by omega),show ((0:Nat):Int).toNat=0 from rfl,List.take_zero,↓U6,↓XP,↓XU,qn,XW1,qa,qb,qc,qd,qe,qf,reduceCtorEq]
  refine ⟨by omega,fun b5 hb5 _=>?_⟩
  refine yq ?_
  simp+contextual only [x6,ol,qk,decide_eq_true (show 1≤o.k∧o.k≤4 from ⟨h1,h4⟩),qg hb5.1,qp (show 0≤big by omega),show (qI ([]:List Id3))= [] from rfl,↓U6,↓XP,↓XU,qn,XW1,qa,qb,qc,qd,qe,qf,reduceCtorEq]
  refine fun _ _=>hN _ _ ⟨1,by omega,?_,(kW rfl).symm⟩ ?_
  ·subst hids
   exact ⟨rfl,rfl,rfl,rfl,rfl,rfl,trivial⟩
  ·simp only [List.getD_cons_succ,List.getD_cons_zero]
   omega
 ·have hik:i=1:=by omega
  subst hik
  clear hN
  simp+contextual only [x6,ol,qk,hd,show (((1:Nat):Int)<1)=False from eq_false (by omega),↓U6,↓XP,↓XU,qn,XW1,qa,qb,qc,qd,qe,qf,reduceCtorEq]
  refine hE _ _ _ ?_
  simp+contextual only [x6,ol,qk,↓U6,↓XP,↓XU,qn,XW1,qa,qb,qc,qd,qe,qf,reduceCtorEq]
  subst hids
  exact h
end Go.Proofs.YtpdhandimdibhaaGreatDoor
end
section
namespace Go.Proofs.YtpdhandimdibhaaGreatDoor
open Go Go.Aw
def opL:OpP:=⟨1,wE,wE,[],0,[110],[99,97,116],0,0⟩
def ptL:Pt:=⟨1,1,3,[],[opL],[]⟩
theorem enc_0:qQ 0= [128]:=by
 unfold qQ mag
 simp [kT]
theorem WY {n:Nat} (h0:0<n) (h:n<256):qQ (n:Int)= [129,UInt8.ofNat n]:=by
 unfold qQ mag
 have e:digs (n:Int).toNat= [UInt8.ofNat n]:=by
  rw [Int.toNat_natCast,wh (by omega),Nat.mod_eq_of_lt h,Nat.div_eq_of_lt h,kT]
 rw [if_neg (by omega),if_neg (by omega),e]
 have:decide ((n:Int)<0)=false:=decide_eq_false (by omega)
 rw [this]
 rfl
theorem enc_1:qQ 1= [129,1]:=WY (n:=1) (by omega) (by omega)
theorem enc_2:qQ 2= [129,2]:=WY (n:=2) (by omega) (by omega)
theorem enc_3:qQ 3= [129,3]:=WY (n:=3) (by omega) (by omega)
theorem enc_10:qQ 10= [129,10]:=WY (n:=10) (by omega) (by omega)
theorem encL:yn ptL= [129,3,129,1,129,1,129,3,128,129,1,129,10,129,1,128,128,128,128,128,128,128,128,128,128,129,2,129,1,110,129,3,99,97,116,128]:=by
 simp [yn,ptL,opL,jg,jM,yv,j6,wu,jo,uX,wE,enc_0,enc_1,enc_2,enc_3,enc_10]
theorem Z5:kr ptL=0:=by
 unfold kr
 have h1:wz ptL:=by decide
 have h2:vN ptL:=fun i hi=>absurd hi (by simp [ptL])
 have h3:o5 ptL:=fun o ho=>by
  have:o=opL:=by simpa [ptL] using ho
  subst this
  decide
 have h4:bare ptL=ptL:=rfl
 rw [if_neg (fun d=>d h1),if_neg (by simp [ptL]),if_neg (by simp [ptL]),if_neg (fun d=>d h2),if_neg (fun d=>d h3),h4,encL,if_neg (by decide)]
theorem valid0:kr uB=5:=by
 unfold kr
 rw [if_pos (by decide)]
theorem goodL:Good ptL:=by
 unfold Good gj
 rw [Z5,if_neg (by simp),if_neg (by simp [ptL])]
theorem fit0:Fit uB:=⟨by simp [uB],by simp [uB],by simp [uB],by simp [uB],by simp [uB],by simp [uB]⟩
theorem fitL:Fit ptL:=⟨by simp [ptL],by simp [ptL],by simp [ptL,opL],by simp [ptL,opL],by simp [ptL,opL],by simp [ptL]⟩
theorem f_lives {H:AH} {R:D→AH→Prop} (h:R (.bool true) H):ACall Tryz.prog 13 [] H R:=by
 refine b13 fun hf=>?_
 have hbig:=qt
 have hop:qE [opL]= [[D.int .i64 1,.int .i64 0,.int .i64 0,.int .i64 0,.int .i64 0,.int .i64 0,.int .i64 0,.slc [],.int .i64 0,.str [110],.str [99,97,116],.int .i64 0,.int .i64 0]]:=rfl
 have hd:ptL.d= [D.int .i64 1,.int .i64 1,.int .i64 3,.slc [],.slc (qE [opL]),.str []]:=rfl
 obtain ⟨eb,heb⟩:∃eb,yn ptL=eb:=⟨_,rfl⟩
 have hel:eb.length=36:=by rw [←heb,encL];rfl
 have het:((eb.map qA).take 10).drop 0=([129,3,129,1,129,1,129,3,128,129]:List UInt8).map qA:=by rw [←heb,encL];rfl
 simp+contextual only [Uk,qj,↓UW,↓XP,↓XU,qn,XW1,qa,qb,qc,qd,qe,qf,reduceCtorEq]
 intro b1 h1
 simp only [←hop]
 refine Jp (p:=ptL) fitL ?_
 have hg:gj ptL=0:=goodL
 rw [hg,if_pos rfl,heb]
 simp+contextual only [Uk,qj,↓UW,↓XP,↓XU,qn,XW1,qa,qb,qc,qd,qe,qf,reduceCtorEq]
 refine fun _ _=>Ge (b:=eb) (by omega) ?_
 rw [←heb,Ys goodL,heb]
 simp+contextual only [Uk,qj,hd,↓UW,↓XP,↓XU,qn,XW1,qa,qb,qc,qd,qe,qf,reduceCtorEq]
 intro _ b4 h4
 have hb1:kQ Tryz.prog 70 1=some (1,false,1):=by kernel_rfl
 simp+contextual only [Uk,qj,hd,hb1,↓UW,↓XP,↓XU,qn,XW1,qa,qb,qc,qd,qe,qf,reduceCtorEq]
 refine ZL ?_
 simp+contextual only [Uk,qj,gx,↓UW,↓XP,↓XU,qn,XW1,qa,qb,qc,qd,qe,qf,reduceCtorEq]
 intro _ b6 h6
 have n14:b1≠b4:=h4.1
 have n46:b4≠b6:=h6.1
 have n16:b1≠b6:=h6.2.1
 simp+contextual only [Uk,qj,qg n14,qg n16,↓UW,↓XP,↓XU,qn,XW1,qa,qb,qc,qd,qe,qf,reduceCtorEq]
 refine Wh (p:=ptL) (o:=opL) rfl (by decide) (by decide) ?_
 have hid:qI [⟨ptL.o,ptL.s,0⟩]= [[D.int .i64 1,.int .i64 1,.int .i64 0]]:=rfl
 rw [hid]
 simp+contextual only [Uk,qj,qg n14,qg n16,qg n46,hel,show (((36:Nat):Int)=36)=True from eq_true rfl,↓UW,↓XP,↓XU,qn,XW1,qa,qb,qc,qd,qe,qf,reduceCtorEq]
 refine fun _ _=>f_same (p:=ptL) ?_
 simp+contextual only [Uk,qj,qg n14,qg n16,qg n46,hel,show (((1:Nat):Int)=1)=True from eq_true rfl,show ((0:Int)<((1:Nat):Int))=True from eq_true (by omega),show ((10:Int)≤((36:Nat):Int))=True from eq_true (by omega),Int.reduceToNat,Int.reduceLE,Int.reduceLT,het,↓UW,↓XP,↓XU,qn,XW1,qa,qb,qc,qd,qe,qf,reduceCtorEq]
 refine fun _=>⟨jr,ZX (a:= [129,3,129,1,129,1,129,3,128,129]) (b:= [129,3,129,1,129,1,129,3,128,129]) ?_⟩
 rw [decide_eq_true rfl]
 simp+contextual only [Uk,qj,qg n14,qg n16,qg n46,↓UW,↓XP,↓XU,qn,XW1,qa,qb,qc,qd,qe,qf,reduceCtorEq]
 refine oW (p:=ptL) fitL ?_
 rw [Z5]
 simp+contextual only [Uk,qj,qg n14,qg n16,qg n46,↓UW,↓XP,↓XU,qn,XW1,qa,qb,qc,qd,qe,qf,reduceCtorEq]
 intro _
 refine oW (p:=uB) fit0 ?_
 rw [valid0]
 simp+contextual only [Uk,qj,↓UW,↓XP,↓XU,qn,XW1,qa,qb,qc,qd,qe,qf,reduceCtorEq]
 trace_state
 exact fun _=>h
end Go.Proofs.YtpdhandimdibhaaGreatDoor
end
section
namespace Go.Proofs.YtpdhandimdibhaaGreatDoor
open Go Go.Aw
theorem u5 {p:Pt} {ok:Bool}:∀k,(upto (jX p ok) k).length≤k:=fun k=>by
 have:=vp (f:=jX p ok) (c:=1) (fun k=>by unfold jX;split<;>simp) k
 omega
theorem Jk {x:Gs} {seen:List Bool} (ho:∀q∈x.l,q.ops.length≤1000) (i:Nat):(upto (fun i=>kD (x.l.getD i default) (seen.getD i false)) i).length≤1000*i:=by
 have:=vp (f:=fun i=>kD (x.l.getD i default) (seen.getD i false)) (c:=1000) (fun k=>by
  have h1:=u5 (p:=x.l.getD k default) (ok:=seen.getD k false) (x.l.getD k default).ops.length
  have h2:(x.l.getD k default).ops.length≤1000:=vq (p:=fun q:Pt=>q.ops.length≤1000) ho (by decide) k
  unfold kD
  omega) i
 omega
theorem ZC {x:Gs} {seen:List Bool} {p:Pt} {H:AH} {R:D→AH→Prop} (hs:x.l.length≤seen.length) (hb:x.l.length≤100) (ho:∀q∈x.l,q.ops.length≤1000) (hp:p.ops.length≤1000) (h:R (.own (qE (splits x seen p))) H):ACall Tryz.prog 87 [.agg x.d,.slc (jm seen),.agg p.d] H R:=by
 refine b87 fun hf=>?_
 have hbig:=qt
 have hx:x.d= [.slc (qY x.l),.slc (j5 x.past)]:=rfl
 have hd:=@dE p
 simp+contextual only [x87,hx,hd,qi,qm,↓ZD,↓XP,↓XU,qn,XW1,qa,qb,qc,qd,qe,qf,reduceCtorEq]
 rintro b1 h1 b2 ⟨n12,h2⟩
 simp only [←hx,←hd]
 refine XW.loopK hm (fun F H'=>∃(i:Nat),i≤x.l.length∧Fr 81 [(1,.slc (jm seen)),(3,.ptr b1 0),(5,.ptr b2 0),(7,.own (qE (upto (fun i=>kD (x.l.getD i default) (seen.getD i false)) i))),(8,.int .i64 i)] F∧((b2,AO.cells p.d)::(b1,AO.cells x.d)::H)=H') (fun F H=>match F.getD 8 .any with| .int _ n'=>x.l.length - n'.toNat|_=>0) ⟨0,by omega,⟨rfl,rfl,rfl,rfl,rfl,rfl,trivial⟩,rfl⟩ ?_
 rintro _ _ ⟨i,hi,hF,rfl⟩ K hN hE hR
 obtain ⟨z,rfl⟩:∃z:Nat→D,_=z 0:: .slc (jm seen)::z 2:: .ptr b1 0::z 4:: .ptr b2 0::z 6:: .own (qE (upto (fun i=>kD (x.l.getD i default) (seen.getD i false)) i)):: .int .i64 i::zz z 9 72 []:=hF.lit
 try dsimp only [zz,qb] at*
 clear hF
 have hv:=Jk (x:=x) (seen:=seen) ho i
 by_cases hlt:i<x.l.length
 ·have nx:∀F',Fr 81 [(1,.slc (jm seen)),(3,.ptr b1 0),(5,.ptr b2 0),(7,.own (qE (upto (fun i=>kD (x.l.getD i default) (seen.getD i false)) (i+1)))),(8,.int .i64 ((i+1:Nat):Int))] F'→K .normal F' ((b2,AO.cells p.d)::(b1,AO.cells x.d)::H):=fun F' hF'=>hN _ _ ⟨i+1,hlt,hF',(j7 rfl).symm⟩ (by
   rw [List.getD_eq_getElem?_getD,hF'.2.2.2.2.2.1]
   simp only [List.getD_cons_succ,List.getD_cons_zero,Option.getD_some]
   omega)
  clear hN hE hR
  have q1:=wK hlt
  have q2:=zr (l:=seen) (i:=i) (by omega)
  have hqo:(x.l.getD i default).ops.length≤1000:=vq (p:=fun q:Pt=>q.ops.length≤1000) ho (by decide) i
  have hun:upto (fun i=>kD (x.l.getD i default) (seen.getD i false)) (i+1)=upto (fun i=>kD (x.l.getD i default) (seen.getD i false)) i++kD (x.l.getD i default) (seen.getD i false):=rfl
  rw [hun] at nx
  generalize upto (fun i=>kD (x.l.getD i default) (seen.getD i false)) i=ac at nx hv
  generalize x.l.getD i default=q at q1 hqo nx
  generalize seen.getD i false=ok at q2 nx
  have hq:q.d= [.int .i64 q.o,.int .i64 q.s,.int .i64 q.day,.slc (qM q.needs),.slc (qE q.ops),.str q.sl]:=rfl
  simp+contextual only [hx,hd,qi,qm,qg,qh,n12,qp (show i≤big by omega),q1,q2,hq,↓ZD,↓XP,↓XU,qn,XW1,qa,qb,qc,qd,qe,qf,reduceCtorEq]
  refine fun _=>⟨fun _=>?_,fun hge=>absurd (by omega) hge⟩
  simp only [←hx,←hd]
  refine XW.loopK hm (fun F H'=>∃(k:Nat),k≤q.ops.length∧Fr 81 [(1,.slc (jm seen)),(3,.ptr b1 0),(5,.ptr b2 0),(7,.own (qE (ac++upto (jX q ok) k))),(8,.int .i64 i),(9,.int .i64 k)] F∧((b2,AO.cells p.d)::(b1,AO.cells x.d)::H)=H') (fun F H=>match F.getD 9 .any with| .int _ n'=>q.ops.length - n'.toNat|_=>0) ⟨0,by omega,by rw [upto,List.append_nil];exact ⟨rfl,rfl,rfl,rfl,rfl,rfl,rfl,trivial⟩,rfl⟩ ?_
  rintro _ _ ⟨k,hk,hF,rfl⟩ K2 hN hE hR
  obtain ⟨z2,rfl⟩:∃z2:Nat→D,_=(let z:=z2; [z 0,.slc (jm seen),z 2,.ptr b1 0,z 4,.ptr b2 0,z 6,.own (qE (ac++upto (jX q ok) k)),.int .i64 i,.int .i64 k,z 10,z 11,z 12,z 13,z 14,z 15,z 16,z 17,z 18,z 19,z 20,z 21,z 22,z 23,z 24,z 25,z 26,z 27,z 28,z 29,z 30,z 31,z 32,z 33,z 34,z 35,z 36,z 37,z 38,z 39,z 40,z 41,z 42,z 43,z 44,z 45,z 46,z 47,z 48,z 49,z 50,z 51,z 52,z 53,z 54,z 55,z 56,z 57,z 58,z 59,z 60,z 61,z 62,z 63,z 64,z 65,z 66,z 67,z 68,z 69,z 70,z 71,z 72,z 73,z 74,z 75,z 76,z 77,z 78,z 79,z 80]):=hF.lit
  clear hF
  have hv3:=u5 (p:=q) (ok:=ok) k
  by_cases hlk:k<q.ops.length
  ·have nx3:∀F',Fr 81 [(1,.slc (jm seen)),(3,.ptr b1 0),(5,.ptr b2 0),(7,.own (qE (ac++upto (jX q ok) (k+1)))),(8,.int .i64 i),(9,.int .i64 ((k+1:Nat):Int))] F'→K2 .normal F' ((b2,AO.cells p.d)::(b1,AO.cells x.d)::H):=fun F' hF'=>hN _ _ ⟨k+1,hlk,hF',(j7 rfl).symm⟩ (by
    rw [List.getD_eq_getElem?_getD,hF'.2.2.2.2.2.2.1]
    simp only [List.getD_cons_succ,List.getD_cons_zero,Option.getD_some]
    omega)
   clear hN hE hR nx
   have q3:=ke hlk
   have hu3:upto (jX q ok) (k+1)=upto (jX q ok) k++jX q ok k:=rfl
   rw [hu3] at nx3
   have ho3:jX q ok k=if ok=true∧(q.ops.getD k default).k=16 then [q.ops.getD k default] else []:=rfl
   rw [ho3] at nx3
   generalize q.ops.getD k default=o at q3 nx3
   have hod:o.d= [.int .i64 o.k,.int .i64 o.on.o,.int .i64 o.on.s,.int .i64 o.on.i,.int .i64 o.to.o,.int .i64 o.to.s,.int .i64 o.to.i,.slc (qI o.ids),.int .i64 o.n,.str o.name,.str o.text,.int .i64 o.a,.int .i64 o.b]:=rfl
   generalize upto (jX q ok) k=ac3 at nx3 hv3
   have hac:(ac++ac3).length≤200000:=by rw [List.length_append];omega
   rcases ok with _|_
   ·simp+contextual only [hx,hd,qi,qm,qg,qh,n12,qp (show k≤big by omega),q1,q2,hq,q3,jt,↓ZD,↓XP,↓XU,qn,XW1,qa,qb,qc,qd,qe,qf,reduceCtorEq]
    refine fun _=>⟨by omega,fun _=>⟨fun _=>⟨by omega,?_⟩,fun hge=>absurd (by omega) hge⟩⟩
    rw [if_neg (by simp),List.append_nil] at nx3
    exact nx3 _ ⟨rfl,rfl,rfl,rfl,rfl,rfl,rfl,trivial⟩
   ·simp+contextual only [hx,hd,qi,qm,qg,qh,n12,qp (show k≤big by omega),q1,q2,hq,q3,hod,jt,↓ZD,↓XP,↓XU,qn,XW1,qa,qb,qc,qd,qe,qf,reduceCtorEq]
    refine fun _=>⟨by omega,fun _=>⟨fun _=>⟨by omega,by omega,fun _=>⟨fun hk'=>⟨by omega,yi,by omega,?_⟩,fun hk'=>?_⟩⟩,fun hge=>absurd (by omega) hge⟩⟩
    ·rw [if_pos ⟨rfl,hk'⟩,←List.append_assoc,←JW,show qE [o]= [o.d] from rfl,hod,hk'] at nx3
     exact nx3 _ ⟨rfl,rfl,rfl,rfl,rfl,rfl,rfl,trivial⟩
    ·rw [if_neg (fun hc=>hk' hc.2),List.append_nil] at nx3
     exact nx3 _ ⟨rfl,rfl,rfl,rfl,rfl,rfl,rfl,trivial⟩
  ·have hik:k=q.ops.length:=by omega
   subst hik
   simp+contextual only [hx,hd,qi,qm,qg,qh,n12,q1,q2,hq,↓ZD,↓XP,↓XU,qn,XW1,qa,qb,qc,qd,qe,qf,reduceCtorEq]
   refine fun _=>⟨by omega,fun _=>hE _ _ _ ?_⟩
   clear hN hE hR
   simp+contextual only [hx,hd,qi,qm,qg,qh,n12,qp (show i≤big by omega),↓ZD,↓XP,↓XU,qn,XW1,qa,qb,qc,qd,qe,qf,reduceCtorEq]
   exact nx _ ⟨rfl,rfl,rfl,rfl,rfl,rfl,trivial⟩
 ·have hik:i=x.l.length:=by omega
  subst hik
  clear hN
  simp+contextual only [hx,hd,qi,qm,qg,qh,n12,↓ZD,↓XP,↓XU,qn,XW1,qa,qb,qc,qd,qe,qf,reduceCtorEq]
  refine fun _=>hE _ _ _ ?_
  clear hE hR
  have hv0:splits x seen p=upto (fun i=>kD (x.l.getD i default) (seen.getD i false)) x.l.length++kD p true:=rfl
  rw [hv0] at h
  generalize upto (fun i=>kD (x.l.getD i default) (seen.getD i false)) x.l.length=ac at h hv ⊢
  simp+contextual only [hx,hd,qi,qm,qg,qh,n12,↓ZD,↓XP,↓XU,qn,XW1,qa,qb,qc,qd,qe,qf,reduceCtorEq]
  simp only [←hx,←hd]
  refine XW.loopK hm (fun F H'=>∃(k:Nat),k≤p.ops.length∧Fr 81 [(5,.ptr b2 0),(7,.own (qE (ac++upto (jX p true) k))),(10,.int .i64 k)] F∧((b2,AO.cells p.d)::(b1,AO.cells x.d)::H)=H') (fun F H=>match F.getD 10 .any with| .int _ n'=>p.ops.length - n'.toNat|_=>0) ⟨0,by omega,by rw [upto,List.append_nil];exact ⟨rfl,rfl,rfl,rfl,trivial⟩,rfl⟩ ?_
  rintro _ _ ⟨k,hk,hF,rfl⟩ K hN hE hR
  obtain ⟨z,rfl⟩:∃z:Nat→D,_=zz z 0 5 (.ptr b2 0::z 6:: .own (qE (ac++upto (jX p true) k))::zz z 8 2 (.int .i64 k::zz z 11 70 [])):=hF.lit
  try dsimp only [zz,qb] at*
  clear hF
  have hv3:=u5 (p:=p) (ok:=true) k
  by_cases hlk:k<p.ops.length
  ·have nx3:∀F',Fr 81 [(5,.ptr b2 0),(7,.own (qE (ac++upto (jX p true) (k+1)))),(10,.int .i64 ((k+1:Nat):Int))] F'→K .normal F' ((b2,AO.cells p.d)::(b1,AO.cells x.d)::H):=fun F' hF'=>hN _ _ ⟨k+1,hlk,hF',(j7 rfl).symm⟩ (by
    rw [List.getD_eq_getElem?_getD,hF'.2.2.2.1]
    simp only [List.getD_cons_succ,List.getD_cons_zero,Option.getD_some]
    omega)
   clear hN hE hR
   have q3:=ke hlk
   have hu3:upto (jX p true) (k+1)=upto (jX p true) k++jX p true k:=rfl
   rw [hu3] at nx3
   have ho3:jX p true k=if true=true∧(p.ops.getD k default).k=16 then [p.ops.getD k default] else []:=rfl
   rw [ho3] at nx3
   generalize p.ops.getD k default=o at q3 nx3
   have hod:o.d= [.int .i64 o.k,.int .i64 o.on.o,.int .i64 o.on.s,.int .i64 o.on.i,.int .i64 o.to.o,.int .i64 o.to.s,.int .i64 o.to.i,.slc (qI o.ids),.int .i64 o.n,.str o.name,.str o.text,.int .i64 o.a,.int .i64 o.b]:=rfl
   generalize upto (jX p true) k=ac3 at nx3 hv3
   have hac:(ac++ac3).length≤200000:=by rw [List.length_append];omega
   simp+contextual only [hx,hd,qi,qm,qg,qh,n12,qp (show k≤big by omega),q3,hod,↓ZD,↓XP,↓XU,qn,XW1,qa,qb,qc,qd,qe,qf,reduceCtorEq]
   refine fun _=>⟨fun _ _=>⟨fun hk'=>⟨yi,by omega,?_⟩,fun hk'=>?_⟩,fun hge=>absurd (by omega) hge⟩
   ·rw [if_pos ⟨rfl,hk'⟩,←List.append_assoc,←JW,show qE [o]= [o.d] from rfl,hod,hk'] at nx3
    exact nx3 _ ⟨rfl,rfl,rfl,rfl,trivial⟩
   ·rw [if_neg (fun hc=>hk' hc.2),List.append_nil] at nx3
    exact nx3 _ ⟨rfl,rfl,rfl,rfl,trivial⟩
  ·have hik:k=p.ops.length:=by omega
   subst hik
   simp+contextual only [hx,hd,qi,qm,qg,qh,n12,↓ZD,↓XP,↓XU,qn,XW1,qa,qb,qc,qd,qe,qf,reduceCtorEq]
   refine fun _=>hE _ _ _ ?_
   clear hN hE hR
   simp+contextual only [hx,hd,qi,qm,qg,qh,n12,↓ZD,↓XP,↓XU,qn,XW1,qa,qb,qc,qd,qe,qf,reduceCtorEq]
   exact h
end Go.Proofs.YtpdhandimdibhaaGreatDoor
end
section
namespace Go.Proofs.YtpdhandimdibhaaGreatDoor
open Go Go.Aw
theorem kv {p:Pt} {o:OpP} {H:AH} {R:D→AH→Prop} (hl:p.ops.length≤1000) (h:R (.agg (qV p o).d) H):ACall Tryz.prog 82 [.agg p.d,.agg o.d] H R:=by
 refine b82 fun hf=>?_
 have hbig:=qt
 simp+contextual only [x82,Pt.d,OpP.d,↓U82,↓XP,↓XU,qn,XW1,qa,qb,qc,qd,qe,qf,reduceCtorEq]
 intro b1 h1 b2 h2 b3 h3
 have e:qE p.ops++ [[.int .i64 o.k,.int .i64 o.on.o,.int .i64 o.on.s,.int .i64 o.on.i,.int .i64 o.to.o,.int .i64 o.to.s,.int .i64 o.to.i,.slc (qI o.ids),.int .i64 o.n,.str o.name,.str o.text,.int .i64 o.a,.int .i64 o.b]]=qE (p.ops++ [o]):=by simp [qE,OpP.d]
 refine fun _=>⟨yi,by rw [qi];omega,yi,by rw [qi];omega,by omega,?_⟩
 rw [e]
 exact h
theorem wT {p:Pt} {o:OpP}:(qV p o).ops.length=p.ops.length+1:=by simp [qV]
theorem wP {p:Pt} {on:Id3} {m:List Int} {H:AH} {R:D→AH→Prop} (hl:p.ops.length≤900) (h:R (.agg (meaning p on m).d) H):ACall Tryz.prog 84 [.agg p.d,.agg on.d,.slc (ints m)] H R:=by
 refine b84 fun hf=>?_
 have hbig:=qt
 have hd:=@dE p
 have ho:on.d= [.int .i64 on.o,.int .i64 on.s,.int .i64 on.i]:=rfl
 simp+contextual only [x84,hd,ho,qi,↓U84,↓XP,↓XU,qn,XW1,qa,qb,qc,qd,qe,qf,reduceCtorEq]
 rintro b1 h1 b2 ⟨n12,h2⟩ b3 ⟨n23,n13,h3⟩ _ _ _ b4 ⟨n34,n24,n14,h4⟩
 simp+contextual only [hd,ho,qi,qg,qh,n12,n13,n23,n14,n24,n34,↓U84,↓XP,↓XU,qn,XW1,qa,qb,qc,qd,qe,qf,reduceCtorEq]
 refine ⟨_,fun _ _=>jJ (i:=2) (by omega) ⟨rfl,rfl⟩,?_⟩
 simp+contextual only [hd,ho,qi,qg,qh,n12,n13,n23,n14,n24,n34,↓U84,↓XP,↓XU,qn,XW1,qa,qb,qc,qd,qe,qf,reduceCtorEq]
 refine fun _=>⟨_,fun _ _=>kv (p:=p) (o:={jI with k:=2,on:=on,n:=qB m 2 5}) (by omega) ⟨rfl,rfl⟩,?_⟩
 obtain ⟨p1,hp1⟩:∃q,q=qV p {jI with k:=2,on:=on,n:=qB m 2 5}:=⟨_,rfl⟩
 have l1:p1.ops.length=p.ops.length+1:=by rw [hp1,wT]
 rw [←hp1]
 have hd1:=@dE p1
 simp+contextual only [hd1,hd,ho,qi,qg,qh,n12,n13,n23,n14,n24,n34,↓U84,↓XP,↓XU,qn,XW1,qa,qb,qc,qd,qe,qf,reduceCtorEq]
 intros
 refine ⟨_,fun _ _=>ku (n:=3) ⟨rfl,rfl⟩,?_⟩
 simp+contextual only [hd1,hd,ho,qi,qg,qh,n12,n13,n23,n14,n24,n34,↓U84,↓XP,↓XU,qn,XW1,qa,qb,qc,qd,qe,qf,reduceCtorEq]
 refine fun _=>⟨_,fun _ _=>vR ⟨rfl,rfl⟩,?_⟩
 simp+contextual only [hd1,hd,ho,qi,qg,qh,n12,n13,n23,n14,n24,n34,↓U84,↓XP,↓XU,qn,XW1,qa,qb,qc,qd,qe,qf,reduceCtorEq]
 refine fun _=>⟨_,fun _ _=>kv (p:=p1) (o:={jI with k:=7,on:=jp p,text:=gloss (m.drop 3)}) (by omega) ⟨rfl,rfl⟩,?_⟩
 obtain ⟨p2,hp2⟩:∃q,q=qV p1 {jI with k:=7,on:=jp p,text:=gloss (m.drop 3)}:=⟨_,rfl⟩
 have l2:p2.ops.length=p1.ops.length+1:=by rw [hp2,wT]
 rw [←hp2]
 have hd2:=@dE p2
 simp+contextual only [hd2,hd1,hd,ho,qi,qg,qh,n12,n13,n23,n14,n24,n34,↓U84,↓XP,↓XU,qn,XW1,qa,qb,qc,qd,qe,qf,reduceCtorEq]
 intros
 refine jJ (i:=1) (by omega) ?_
 have hm:meaning p on m=if qB m 1 9=5 then p2 else qV p2 {jI with k:=9,on:=jp p,n:=1}:=by
  unfold meaning
  simp only
  rw [←hp1,←hp2]
 rw [hm] at h
 simp+contextual only [hd2,hd1,hd,ho,qi,qg,qh,n12,n13,n23,n14,n24,n34,↓U84,↓XP,↓XU,qn,XW1,qa,qb,qc,qd,qe,qf,reduceCtorEq]
 refine fun _=>⟨fun h5=>kv (p:=p2) (o:={jI with k:=9,on:=jp p,n:=1}) (by omega) ?_,fun h5=>?_⟩
 ·rw [if_neg h5] at h
  obtain ⟨p3,hp3⟩:∃q,q=qV p2 {jI with k:=9,on:=jp p,n:=1}:=⟨_,rfl⟩
  rw [←hp3] at h ⊢
  have hd3:=@dE p3
  simp+contextual only [hd3,hd2,hd1,hd,ho,qi,qg,qh,n12,n13,n23,n14,n24,n34,↓U84,↓XP,↓XU,qn,XW1,qa,qb,qc,qd,qe,qf,reduceCtorEq]
  intros
  exact h
 ·rw [if_pos h5] at h
  exact h
end Go.Proofs.YtpdhandimdibhaaGreatDoor
end
