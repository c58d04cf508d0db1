/- A part of the proof of what the last text says: AwS, Hs0, Ha3, Ha4, Ha5, Gt0, Gt1. Conditions: those in each theorem. -/
import Derived.Test.YtpdhandimdibhaaGreatDoorN25
import Derived.Shelf.SlSortCmp.WholeK
import Derived.Shelf.SlGeneric
import Derived.Test.YtpdhandimdibhaaGreatDoorChecked
import Derived.Shelf.SlSortCmp.NoneTotal
set_option linter.unusedVariables false
set_option linter.unusedSimpArgs false
set_option maxRecDepth 100000
set_option maxHeartbeats 16000000
open Nat renaming reduceSub → qa,reduceAdd → qb,reduceMul → qc,reduceEqDiff → qd,reduceLeDiff → qe,reduceBEq → qf
section
namespace Go.Aw
open Go Go.RowKit Go.Shelf Go.Sort Go.Proofs
def Kt:D→Value
 | .int k n=>.int k n
 | .bool b=>.bool b
 | .str s=>.string ⟨⟨s⟩⟩
 |_=>undef
theorem Zy {K:Nat→BK} {w:World} {d:D} {v:Value} (h:gf d=true) (hr:RepV K w d v):v=Kt d:=by
 cases d<;>simp only [gf,Bool.false_eq_true] at h
 ·exact hr.int_inv.1
 ·exact hr.bool_inv
 ·exact hr.str_inv.1
theorem KQ {K:Nat→BK} {w:World} {d:D} (h:gf d=true) (hf:fact d):RepV K w d (Kt d):=by
 cases d<;>simp only [gf,Bool.false_eq_true] at h
 ·exact .int _ _ hf
 ·exact .bool _
 ·exact .str _ hf
theorem Q4 {d:D} (h:gf d=true):(Kt d).oneCell'=true:=by
 cases d<;>simp only [gf,Bool.false_eq_true] at h<;>rfl
def Qd (K:Nat→BK):Nat→BK:=fun b=>match K b with
 | .imm=>.imm
 | .priv=>.tok 0 .outer
 | .tok n _=>.tok n .outer
theorem grow_of {w w':World} (h1:w'.os=w.os) (h2:w'.tape=w.tape) (h3:w'.output=w.output) (h4:w.drawn≤w'.drawn) (h5:w.heap.size≤w'.heap.size) (h6:∀b,b<w.heap.size→w'.heap[b]?=w.heap[b]?):
  ∃q os',w'=Sort.grow (w.drewN q) os':=by
 refine ⟨w'.drawn - w.drawn,w'.heap.extract w.heap.size w'.heap.size,?_⟩
 obtain ⟨heap,tape,drawn,os,output⟩:=w'
 obtain ⟨heap',tape',drawn',os',output'⟩:=w
 simp only at h1 h2 h3 h4 h5 h6
 subst h1 h2 h3
 simp only [Sort.grow,World.drewN,World.mk.injEq,and_true,true_and]
 refine ⟨?_,by omega⟩
 apply Array.ext_getElem?
 intro i
 rw [Array.getElem?_append]
 split
 ·rename_i hlt
  exact h6 i hlt
 ·rename_i hge
  rw [Array.getElem?_extract]
  by_cases hi:i<heap.size
  ·rw [if_pos (by omega)]
   congr 1
   omega
  ·rw [if_neg (by omega)]
   exact Array.getElem?_eq_none (by omega)
theorem ACall.pure {P:Program} {g:FuncId} {args:List D} {R:D→AH→Prop} (h:ACall P g args [] R) {K:Nat→BK} {w W:World} (hk:KRel K w) (hsz:w.heap.size≤W.heap.size) (he:ExtV K w (Qd K) W) {vs:Array Value} (hl:vs.size=args.length)
  (hr:∀(j:Nat) (d:D) (v:Value),args[j]?=some d→vs[j]?=some v→RepV K w d v):
  Calls P g vs W fun e w'=>∃v d H' K',e= .returned v∧R d H'∧(∃q os',w'=Sort.grow (W.drewN q) os')∧RepO K' w' 0 d v:=by
 have hkr:KRel (Qd K) W:=fun b hb=>by simp [Qd,hk b (Nat.le_trans hsz hb)]
 refine (h.2 (Qd K) W vs hkr (fun b n i j e=>?_) ⟨by simp,fun b o hm=>by simp at hm⟩ hl (fun j d v hd hv=>(hr j d v hd hv).mono he)).mono fun e w' ⟨v,d,H',K',g1,g2,g3,g4,g5,g6⟩=>⟨v,d,H',K',g1,g2,?_,g6⟩
 ·unfold Qd at e
  split at e<;>cases e
 ·refine grow_of g3.ext.os g3.ext.tape g3.ext.output.1 g3.ext.output.2 g3.ext.size fun b hb=>?_
  cases hkb:K b with
  |imm=>exact (g3.ext.imm b hb (by simp [Qd,hkb])).2
  |priv=>exact (g3.own b 0 (by simp [Qd,hkb])).2
  |tok n o=>exact (g3.own b n (by simp [Qd,hkb])).2
section
variable {P:Program} {ρ:Ren} {α:Type} [Inhabited α] {k:Nat} {dv:α→List D}
def wo (dv:α→List D) (x:α):List Value:=(dv x).map Kt
theorem Vi (hk0:0<k) (hk:∀x,(dv x).length=k) {xs:List α} {j:Nat} (h:j<xs.length*k) (rest:List D):∃d,((xs.map dv).flatten++rest)[j]?=some d∧d∈dv (xs.toArray[j / k]!)∧(flatK (wo dv) k xs.toArray)[j]! =Kt d:=by
 have hj:j / k<xs.length:=(Nat.div_lt_iff_lt_mul hk0).2 h
 have hm:j % k<k:=Nat.mod_lt _ hk0
 have hlen:∀x∈xs.map dv,x.length=k:=fun x hx=>by
  obtain ⟨y,_,rfl⟩:=List.mem_map.1 hx
  exact hk y
 have hfl:=yD (sz:=k) hlen
 rw [List.length_map] at hfl
 have hx:xs.toArray[j / k]! =xs[j / k]:=by simp [getElem!_pos xs.toArray (j / k) (by simpa using hj)]
 have hm':j % k<(dv xs[j / k]).length:=by rw [hk];exact hm
 refine ⟨(dv xs[j / k])[j % k],?_,?_,?_⟩
 ·rw [List.getElem?_append_left (by rw [hfl];exact h),vu hk0 hlen,List.getElem?_map,List.getElem?_eq_getElem hj]
  simp [List.getElem?_eq_getElem hm']
 ·rw [hx];exact List.getElem_mem hm'
 ·rw [get_flatK (wo dv) k xs.toArray j (by simpa using h),hx]
  unfold wo
  rw [getElem!_pos ((dv xs[j / k]).map Kt) (j % k) (by simpa using hm')]
  simp
theorem Ki (F c:Array Value) (j:Nat) (h:F.size≤c.size):(putCells id 0 F c)[j]?=if j<F.size then some F[j]! else c[j]?:=by
 unfold putCells
 rw [Array.getElem?_mapIdx]
 by_cases hj:j<F.size
 ·rw [if_pos hj,Array.getElem?_eq_getElem (by omega)]
  simp [hj]
 ·rw [if_neg hj]
  cases c[j]? with
  |none=>rfl
  |some x=>simp [hj]
theorem sortW {w:World} {b:Nat} {c:Array Value} {T:TypeId} (hb:w.heap[b]?=some (.cells c T (0,0))) (m:Nat) (os:Array Obj) (dk:Array α):(sortWorldK (wo dv) k w b 0 m dk os).os=w.os∧(sortWorldK (wo dv) k w b 0 m dk os).tape=w.tape∧(sortWorldK (wo dv) k w b 0 m dk os).output=w.output∧
   w.drawn≤(sortWorldK (wo dv) k w b 0 m dk os).drawn∧w.heap.size≤(sortWorldK (wo dv) k w b 0 m dk os).heap.size∧(∀b',b'<w.heap.size→b'≠b→(sortWorldK (wo dv) k w b 0 m dk os).heap[b']?=w.heap[b']?)∧
   (sortWorldK (wo dv) k w b 0 m dk os).heap[b]?=some (.cells (putCells id 0 (flatK (wo dv) k dk) c) T (0,0)):=by
 have hblk:b<w.heap.size:=(Array.getElem?_eq_some_iff.1 hb).1
 generalize hF:flatK (wo dv) k dk=Fl
 unfold sortWorldK putRowK putRow mapBlock Sort.ahead Sort.grow
 rw [hF]
 refine ⟨rfl,rfl,rfl,Nat.le_add_right _ _,by simp,fun b' hlt hne=>?_,?_⟩
 ·show (Array.modify _ _ _++_)[b']?=_
  rw [Array.getElem?_append_left (by simpa using hlt),Array.getElem?_modify,if_neg (Ne.symm hne)]
 ·show (Array.modify _ _ _++_)[b]?=_
  rw [Array.getElem?_append_left (by simpa using hblk),Array.getElem?_modify,if_pos rfl,hb]
  rfl
theorem ACall.sort (L:SlLaysF0.n6 P ρ) (hk0:0<k) (hty:wb P (ρ.t 24)=some (true,k)) (hc6:wR P (ρ.f 6)=true) (hk:∀x,(dv x).length=k) (hlit:∀x,∀d∈dv x,gf d=true∧fact d) {cf:α→α→Int} (hO:SWO (ltOf cf)) {g:FuncId} {caps:List D} (hisb:Uo caps=false) (hg:wR P g=true)
  (hcmp:∀x y,ACall P g (wx [.agg (dv x),.agg (dv y)] caps) [] fun d _=>d= .int .i64 (cf x y))
  {b n:Nat} {xs:List α} {rest:List D} {H:AH} (hn:xs.length=n) (hbig:n<4611686018427387904) {R:D→AH→Prop}
  (hR:∀ys:List α,ys.Perm xs→ys.Pairwise (fun x y=>ltOf cf y x=false)→R (.tup []) ((b,.cells ((ys.map dv).flatten++rest))::H)):
  ACall P (ρ.f 6) [.hsl b n,.fn g caps] ((b,.cells ((xs.map dv).flatten++rest))::H) R:=by
 refine ⟨hc6,fun K w vs hK hns hH hl hr=>?_⟩
 obtain ⟨v0,v1,rfl⟩:=Q8 hl
 obtain ⟨cap,rfl,hcap,hmax,_⟩:=(hr 0 _ v0 rfl rfl).hsl_inv
 obtain ⟨lb,rfl,hlsz,hlb⟩:=(hr 1 _ v1 rfl rfl).fn_inv hisb
 obtain ⟨hpb,c,T,hb,hcs,hrc⟩:=hH.ok b _ (.head _)
 have hblk:b<w.heap.size:=(Array.getElem?_eq_some_iff.1 hb).1
 have hlen:∀(zs:List α),∀x∈zs.map dv,x.length=k:=fun zs x hx=>by
  obtain ⟨y,_,rfl⟩:=List.mem_map.1 hx
  exact hk y
 have hfl:∀zs:List α,((zs.map dv).flatten).length=zs.length*k:=fun zs=>by
  have:=yD (sz:=k) (hlen zs)
  rwa [List.length_map] at this
 have hcsz:c.size=n*k+rest.length:=by rw [hcs,List.length_append,hfl,hn]
 have hcell:∀j,j<xs.length*k→c[j]?=some (flatK (wo dv) k xs.toArray)[j]!:=fun j hj=>by
  obtain ⟨d,h1,h2,h3⟩:=Vi hk0 hk hj rest
  obtain ⟨u,e1,e2,e3⟩:=hrc j d h1
  have hl:=hlit _ d h2
  have e4:RepV K w d.view1 u:=e3.rep
  have hv:d.view1=d:=by have:=hl.1;cases d<;>first|rfl|(simp [gf] at this)
  rw [hv] at e4
  rw [e1,h3,←Zy hl.1 e4]
 have hHo:HoldsK (wo dv) k w b 0 xs.toArray:=fun j hj=>by
  have hj':j<xs.length*k:=by simpa using hj
  refine ⟨?_,by simp [World.frozen?,hb]⟩
  rw [Nat.zero_add,kO hb,hcell j hj']
  rfl
 have eg:∀args W,(callFunc g args).run P W= .ok (.enter g args) W:=fun args W=>by
  unfold wR at hg
  split at hg
  ·rename_i fn hfn
   simp only [Bool.and_eq_true,Bool.not_eq_true'] at hg
   have hbb:fn.body.isNone=false:=by cases hbb:fn.body<;>simp_all
   simp only [callFunc,Sem.run_bind,run_program,Result.andThen_ok,hfn,hg.2,hbb,Bool.false_eq_true,if_false]
   rfl
  ·cases hg
 have hcapE:∀l:List D,wx l caps=l++caps:=fun l=>by
  unfold wx
  split
  ·cases hisb
  ·rfl
 have world:=sortW (dv:=dv) (k:=k) hb
 have hcl:CmpLays P g lb (wo dv) k cf b 0 xs.toArray.size w:=fun m os dk hdk x y=>by
  obtain ⟨w1,w2,w3,w4,w5,w6,w7⟩:=world m os dk
  have hext:ExtV K w (Qd K) (sortWorldK (wo dv) k w b 0 m dk os):=by
   refine ⟨w1,w2,⟨w3,w4⟩,w5,fun b' hlt hi=>⟨by simp [Qd,hi],w6 b' hlt (fun e=>by subst e;rw [hpb] at hi;cases hi)⟩,fun b' q o hb' _=>?_,fun b' hb'=>.inr ?_⟩
   ·have hlt:=hK.lt_of (b:=b') (by rw [hb'];simp)
    exact ⟨q,.outer,by simp [Qd,hb'],Nat.le_refl _,fun j _=>j3 (w6 b' hlt (fun e=>by subst e;rw [hpb] at hb';cases hb')) j⟩
   ·exact Nat.lt_of_lt_of_le (hK.lt_of (b:=b') (by rw [hb'];simp)) w5
  have hagg:∀z:α,RepV K w (.agg (dv z)) (.agg (wo dv z).toArray):=fun z=>by
   refine .agg _ _ (by simp [wo]) (fun j u hu=>?_) (fun j d u hd hu=>?_)
   all_goals
    simp only [wo,List.getElem?_toArray,List.getElem?_map] at hu
    obtain ⟨d',hd',rfl⟩:=Option.map_eq_some_iff.1 hu
   ·exact Q4 (hlit z d' (List.mem_of_getElem? hd')).1
   ·rw [hd] at hd';cases hd'
    have:=hlit z d (List.mem_of_getElem? hd)
    exact KQ this.1 this.2
  generalize sortWorldK (wo dv) k w b 0 m dk os=W at w1 w2 w3 w4 w5 w6 w7 hext ⊢
  refine Calls.mono (ACall.pure (hcmp x y) hK w5 hext ?_ (fun j d v hj hv=>?_)) ?_
  ·rw [hcapE];simp [hlsz];omega
  ·rw [hcapE] at hj
   match j with
   | 0=>
    rw [Array.getElem?_append_left (by simp)] at hv
    simp only [List.cons_append,List.getElem?_cons_zero,Option.some.injEq,List.getElem?_toArray] at hj hv
    subst hj hv
    exact hagg x
   | 1=>
    rw [Array.getElem?_append_left (by simp)] at hv
    simp only [List.cons_append,List.getElem?_cons_succ,List.getElem?_cons_zero,Option.some.injEq,List.getElem?_toArray] at hj hv
    subst hj hv
    exact hagg y
   | j+2=>
    have hj':caps[j]?=some d:=by simpa using hj
    rw [Array.getElem?_append_right (by simp)] at hv
    exact hlb j d v hj' (by simpa using hv)
  ·rintro e w' ⟨v,d,H',K',rfl,rfl,hg',hro⟩
   exact ⟨by rw [(show RepV K' w' (.int .i64 (cf x y)) v from hro).int_inv.1],hg'⟩
 obtain ⟨ha1,ha2⟩:=wg hty
 have hcon:=AnyQ.slices_SortFunc L k ha1 ha2 (wo dv) (fun x=>by simp [wo,hk]) (fun x v hv=>by
  obtain ⟨d,hd,rfl⟩:=List.mem_map.1 hv
  exact Q4 (hlit x d hd).1) cf hO g lb b 0 cap xs.toArray w eg hcl hHo hblk (by simpa [hn] using hbig)
 have hsz0:xs.toArray.size=n:=by simpa using hn
 rw [hsz0] at hcon
 refine hcon.mono ?_
 rintro e w' ⟨rfl,d',m,os,hperm,hsort,rfl⟩
 obtain ⟨w1,w2,w3,w4,w5,w6,w7⟩:=world m os d'
 generalize sortWorldK (wo dv) k w b 0 m d' os=W at w1 w2 w3 w4 w5 w6 w7
 have hd'sz:d'.size=n:=hperm.1.trans hsz0
 have hkeep:Keep noE (fun x=>x=b) K w K W:=by
  have lt:∀{b':Nat},K b'≠ .imm→b'<w.heap.size:=fun h=>hK.lt_of h
  refine ⟨⟨w1,w2,⟨w3,w4⟩,w5,fun b' hlt hi=>⟨hi,w6 b' hlt (fun e=>by subst e;rw [hpb] at hi;cases hi)⟩,fun b' q o hb' _=>⟨q,o,hb',Nat.le_refl _,fun j _=>j3 (w6 b' (lt (by rw [hb'];simp)) (fun e=>by subst e;rw [hpb] at hb';cases hb')) j⟩,fun b' hb'=>.inl hb'⟩,
   fun b' q o hb' _=>⟨hb',w6 b' (lt (by rw [hb'];simp)) (fun e=>by subst e;rw [hpb] at hb';cases hb')⟩,fun b' q h=>h,fun b' hb' hne=>⟨hb',w6 b' (lt (by rw [hb'];simp)) hne⟩⟩
 have hys:(d'.toList).Perm xs:=by
  have:=hperm.2.2
  rw [←hd'sz] at this
  have e1:d'.extract 0 d'.size=d':=by simp
  have e2:xs.toArray.extract 0 d'.size=xs.toArray:=by
   rw [hd'sz,←hsz0];simp
  rw [e1,e2] at this
  simpa using this
 have hpw:(d'.toList).Pairwise (fun x y=>ltOf cf y x=false):=by
  rw [List.pairwise_iff_getElem]
  intro i j hi hj hij
  have:=hsort i j (Nat.zero_le _) hij (by rw [←hd'sz];simpa using hj)
  rw [getElem!_pos d' j (by simpa using hj),getElem!_pos d' i (by simpa using hi)] at this
  simpa using this
 refine ⟨_,_,_,K,rfl,hR d'.toList hys hpw,hkeep.fk (fun h=>h),fun b' hb'=>hK b' (Nat.le_trans w5 hb'),⟨hH.nd,fun b' o' hm=>?_⟩,RepV.viewO (.tup [] #[] rfl (fun j d u hd=>by simp at hd))⟩
 have hnd:=hH.nd
 simp only [List.map_cons,List.nodup_cons] at hnd
 rcases List.mem_cons.1 hm with h|h
 ·injection h with h1 h2
  subst h1 h2
  have hFs:(flatK (wo dv) k d').size=n*k:=by rw [size_flatK,hd'sz]
  refine ⟨hpb,_,T,w7,?_,fun j d hd=>?_⟩
  ·rw [List.length_append,hfl,Array.length_toList,hd'sz]
   simp [putCells,hcsz]
  ·rw [Ki _ _ _ (by rw [hFs,hcsz];omega),hFs]
   by_cases hj:j<n*k
   ·rw [if_pos hj]
    obtain ⟨d2,h1,h2,h3⟩:=Vi (xs:=d'.toList) hk0 hk (by rw [Array.length_toList,hd'sz];exact hj) rest
    rw [hd] at h1
    cases h1
    have hl:=hlit _ d h2
    have e3:(flatK (wo dv) k d')[j]! =Kt d:=by simpa using h3
    refine ⟨_,rfl,by rw [e3];exact Q4 hl.1,?_⟩
    rw [e3]
    have hrv:RepV K W d (Kt d):=KQ hl.1 hl.2
    exact hrv.repC (fun xs e=>by rw [e] at hrv;exact hrv.not_own)
   ·rw [if_neg hj]
    rw [List.getElem?_append_right (by rw [hfl,Array.length_toList,hd'sz];omega),hfl,Array.length_toList,hd'sz] at hd
    obtain ⟨u,e1,e2,e3⟩:=hrc j d (by rw [List.getElem?_append_right (by rw [hfl,hn];omega),hfl,hn];exact hd)
    exact ⟨u,e1,e2,e3.keep hkeep (fun h=>h)⟩
 ·have hne:b'≠b:=fun e=>by subst e;exact hnd.1 (List.mem_map.2 ⟨_,h,rfl⟩)
  exact AO.keep hkeep hne (fun _ h=>h) (hH.ok b' o' (.tail _ h))
end
end Go.Aw
end
section
namespace Go.Proofs
open Go.Shelf
def Tryz.sortID_ren:Go.Shelf.Ren:=⟨fun|6=>19|15=>36|14=>35|28=>66|29=>67|20=>58|21=>59|22=>60|23=>61|24=>62|25=>63|26=>64|27=>65|46=>89|47=>90|48=>91|49=>92|50=>93|57=>102|n=>n,fun|22=>30|24=>37|25=>53|3=>3|39=>82|0=>0|53=>123|55=>125|4=>4|46=>116|45=>115|50=>120|5=>5|9=>9|66=>151|70=>155|76=>168|77=>169|n=>n,fun|n=>n⟩
theorem Tryz.sortID:Go.Proofs.SlLaysF0.n6 Tryz.prog Tryz.sortID_ren:={
 mixed:=by kernel_rfl
 f6:=⟨Tryz.f19.name,by decide,Tryz.func19.trans (congrArg some (by kernel_rfl))⟩
 f14:=⟨Tryz.f35.name,by decide,Tryz.func35.trans (congrArg some (by kernel_rfl))⟩
 f15:=Tryz.func36.trans (congrArg some (by kernel_rfl))
 f20:=⟨Tryz.f58.name,by decide,Tryz.func58.trans (congrArg some (by kernel_rfl))⟩
 f21:=⟨Tryz.f59.name,by decide,Tryz.func59.trans (congrArg some (by kernel_rfl))⟩
 f22:=⟨Tryz.f60.name,by decide,Tryz.func60.trans (congrArg some (by kernel_rfl))⟩
 f23:=⟨Tryz.f61.name,by decide,Tryz.func61.trans (congrArg some (by kernel_rfl))⟩
 f24:=⟨Tryz.f62.name,by decide,Tryz.func62.trans (congrArg some (by kernel_rfl))⟩
 f25:=⟨Tryz.f63.name,by decide,Tryz.func63.trans (congrArg some (by kernel_rfl))⟩
 f26:=⟨Tryz.f64.name,by decide,Tryz.func64.trans (congrArg some (by kernel_rfl))⟩
 f27:=⟨Tryz.f65.name,by decide,Tryz.func65.trans (congrArg some (by kernel_rfl))⟩
 f28:=Tryz.func66.trans (congrArg some (by kernel_rfl))
 f29:=Tryz.func67.trans (congrArg some (by kernel_rfl))
 f46:=⟨Tryz.f89.name,by decide,Tryz.func89.trans (congrArg some (by kernel_rfl))⟩
 f47:=Tryz.func90.trans (congrArg some (by kernel_rfl))
 f48:=Tryz.func91.trans (congrArg some (by kernel_rfl))
 f49:=⟨Tryz.f92.name,by decide,Tryz.func92.trans (congrArg some (by kernel_rfl))⟩
 f50:=⟨Tryz.f93.name,by decide,Tryz.func93.trans (congrArg some (by kernel_rfl))⟩
 f57:=⟨Tryz.f102.name,by decide,Tryz.func102.trans (congrArg some (by kernel_rfl))⟩
 t0:=Tryz.underlying0
 a0:=Tryz.isAgg0
 z0:=Tryz.sizeOf0
 v0:=Tryz.zeroValue0
 t3:=Tryz.underlying3
 a3:=Tryz.isAgg3
 z3:=Tryz.sizeOf3
 v3:=Tryz.zeroValue3
 t4:=Tryz.underlying4
 a4:=Tryz.isAgg4
 z4:=Tryz.sizeOf4
 v4:=Tryz.zeroValue4
 t5:=Tryz.underlying5
 a5:=Tryz.isAgg5
 z5:=Tryz.sizeOf5
 v5:=Tryz.zeroValue5
 t9:=Tryz.underlying9
 a9:=Tryz.isAgg9
 z9:=Tryz.sizeOf9
 v9:=Tryz.zeroValue9
 t22:=Tryz.underlying30
 a22:=Tryz.isAgg30
 z22:=Tryz.sizeOf30
 v22:=Tryz.zeroValue30
 t25:=Tryz.underlying53
 a25:=Tryz.isAgg53
 z25:=Tryz.sizeOf53
 v25:=Tryz.zeroValue53
 t39:=Tryz.underlying82
 a39:=Tryz.isAgg82
 z39:=Tryz.sizeOf82
 v39:=Tryz.zeroValue82
 t45:=Tryz.underlying115
 a45:=Tryz.isAgg115
 z45:=Tryz.sizeOf115
 v45:=Tryz.zeroValue115
 t46:=Tryz.underlying116
 a46:=Tryz.isAgg116
 z46:=Tryz.sizeOf116
 v46:=Tryz.zeroValue116
 t50:=Tryz.underlying120
 a50:=Tryz.isAgg120
 z50:=Tryz.sizeOf120
 v50:=Tryz.zeroValue120
 t53:=Tryz.underlying123
 a53:=Tryz.isAgg123
 z53:=Tryz.sizeOf123
 v53:=Tryz.zeroValue123
 t55:=Tryz.underlying125
 a55:=Tryz.isAgg125
 z55:=Tryz.sizeOf125
 v55:=Tryz.zeroValue125
 t66:=Tryz.underlying151
 a66:=Tryz.isAgg151
 z66:=Tryz.sizeOf151
 v66:=Tryz.zeroValue151
 t70:=Tryz.underlying155
 a70:=Tryz.isAgg155
 z70:=Tryz.sizeOf155
 v70:=Tryz.zeroValue155
 t76:=Tryz.underlying168
 a76:=Tryz.isAgg168
 z76:=Tryz.sizeOf168
 v76:=Tryz.zeroValue168
 t77:=Tryz.underlying169
 a77:=Tryz.isAgg169
 z77:=Tryz.sizeOf169
 v77:=Tryz.zeroValue169}
end Go.Proofs
end
section
namespace Go.Proofs.YtpdhandimdibhaaGreatDoor
open Go Go.Aw
open Go.Sort
theorem oki_of {x:Id3} (h: -9223372036854775808≤x.o∧x.o≤9223372036854775807∧ -9223372036854775808≤x.s∧x.s≤9223372036854775807∧ -9223372036854775808≤x.i∧x.i≤9223372036854775807):Un x:=by
 simp only [Un,wI];omega
theorem oki0:Un wE:=oki_of (by simp [wE])
instance:Inhabited {x:Id3 // Un x}:=⟨⟨wE,oki0⟩⟩
theorem f_sort {cf:Id3→Id3→Int} (hO:SWO (ltOf cf)) {g:FuncId} {caps:List D} (hisb:Uo caps=false) (hg:wR Tryz.prog g=true)
  (hcmp:∀x y,Un x→Un y→ACall Tryz.prog g (wx [.agg x.d,.agg y.d] caps) [] fun d _=>d= .int .i64 (cf x y))
  {b n:Nat} {l:List Id3} {rest:List D} {H:AH} (hn:l.length=n) (hok:∀x∈l,Un x) (hbig:n<4611686018427387904) {R:D→AH→Prop}
  (hR:∀m:List Id3,m.Perm l→m.Pairwise (fun x y=>¬cf y x<0)→R (.tup []) ((b,.cells ((jH Id3.d m).flatten++rest))::H)):
  ACall Tryz.prog 19 [.hsl b n,.fn g caps] ((b,.cells ((jH Id3.d l).flatten++rest))::H) R:=by
 obtain ⟨l',rfl⟩:=V1 hok
 have e1:∀q:List {x:Id3 // Un x},jH Id3.d (q.map (·.1))=q.map fun x=>x.1.d:=fun q=>by simp [jH]
 rw [e1]
 have hO':SWO (ltOf fun x y:{x:Id3 // Un x}=>cf x.1 y.1):=⟨fun x=>hO.irrefl x.1,fun x y z=>hO.trans x.1 y.1 z.1,fun x y z=>hO.ntrans x.1 y.1 z.1⟩
 have h:=ACall.sort (P:=Tryz.prog) (ρ:=Go.Proofs.Tryz.sortID_ren) (k:=3) (dv:=fun x:{x:Id3 // Un x}=>x.1.d) Go.Proofs.Tryz.sortID (by decide) Jm (by kernel_rfl) (fun _=>rfl) (fun x d hd=>by
  obtain ⟨x,h1,h2,h3⟩:=x
  simp only [Id3.d,List.mem_cons,List.not_mem_nil,or_false] at hd
  rcases hd with rfl|rfl|rfl
  ·exact ⟨rfl,h1⟩
  ·exact ⟨rfl,h2⟩
  ·exact ⟨rfl,h3⟩) hO' (g:=g) (caps:=caps) hisb hg (fun x y=>hcmp x.1 y.1 x.2 y.2) (b:=b) (n:=n) (xs:=l') (rest:=rest) (H:=H) (by simpa using hn) hbig (R:=R) (fun ys hp hs=>by
  rw [←e1]
  refine hR _ (hp.map _) ?_
  rw [List.pairwise_map]
  refine hs.imp fun {x y} hxy=>?_
  simpa [ltOf] using hxy)
 exact h
def row (l:List Id3) (rest:List D):List D:=(jH Id3.d l).flatten++rest
theorem vI {x:Id3} {l:List Id3} {rest:List D}:row (x::l) rest= .int .i64 x.o:: .int .i64 x.s:: .int .i64 x.i::row l rest:=rfl
theorem oP {rest:List D}:∀{l:List Id3},(row l rest).length=l.length*3+rest.length
 | []=>by simp [row,jH]
 | x::l=>by
  rw [vI]
  simp only [List.length_cons,oP (l:=l)]
  omega
theorem gH {rest:List D}:∀{l:List Id3} {i:Nat},i<l.length→((row l rest).drop (i*3)).take 3=(l.getD i default).d
 |x::l,0,_=>rfl
 | x::l,i+1,h=>by
  rw [vI,show (i+1)*3=i*3+3 by omega]
  simp only [List.drop_succ_cons,List.drop_zero]
  rw [gH (l:=l) (i:=i) (by simp at h;omega)]
  rfl
theorem WE {y:Id3} {rest:List D}:∀{l:List Id3} {i:Nat},i<l.length→(row l rest).take (i*3)++(y.d++(row l rest).drop (i*3+3))=row (l.set i y) rest
 |x::l,0,_=>rfl
 | x::l,i+1,h=>by
  rw [vI,show (i+1)*3=i*3+3 by omega,show i*3+3+3=(i*3+3)+3 by omega]
  simp only [List.drop_succ_cons,List.take_succ_cons,List.cons_append,List.set_cons_succ,vI]
  rw [WE (l:=l) (i:=i) (by simp at h;omega)]
theorem zM {rest:List D}:∀{l:List Id3} {i:Nat},i≤l.length→(row l rest).take (i*3)++((List.replicate (l.length - i) [D.int .i64 0,D.int .i64 0,D.int .i64 0]).flatten++(row l rest).drop (i*3+(l.length - i)*3))=row (l.take i++List.replicate (l.length - i) wE) rest
 | [],0,_=>by simp [row,jH]
 | x::l,0,_=>by
  have:=zM (rest:=rest) (l:=l) (i:=0) (by omega)
  simp only [Nat.zero_mul,List.take_zero,Nat.sub_zero,List.nil_append,Nat.zero_add] at this
  simp only [Nat.zero_mul,List.take_zero,Nat.sub_zero,List.nil_append,Nat.zero_add,List.length_cons,List.replicate_succ,List.flatten_cons,List.cons_append,vI,show (l.length+1)*3=l.length*3+3 by omega,List.drop_succ_cons]
  rw [this]
  rfl
 | x::l,i+1,h=>by
  have:=zM (rest:=rest) (l:=l) (i:=i) (by simp at h;omega)
  simp only [List.length_cons,show l.length+1 - (i+1)=l.length - i by omega,show (i+1)*3=i*3+3 by omega,show i*3+3+(l.length - i)*3=i*3+(l.length - i)*3+3 by omega,vI,List.take_succ_cons,List.drop_succ_cons,List.cons_append]
  rw [this]
theorem YB {l:List Id3} {H:AH} {R:D→AH→Prop} (hl:l.length<2) (h:R (.slc (jH Id3.d l)) H):ACall Tryz.prog 21 [.slc (jH Id3.d l)] H R:=by
 refine b21 fun hf=>?_
 have hbig:=qt
 have h2:((l.length:Int)<2)=True:=eq_true (by omega)
 simp+contextual only [KE,jB,h2,↓Yv,↓XP,↓XU,qn,XW1,qa,qb,qc,qd,qe,qf,reduceCtorEq]
 intros
 refine jV Fz.refl ?_
 simp+contextual only [KE,jB,↓Yv,↓XP,↓XU,qn,XW1,qa,qb,qc,qd,qe,qf,reduceCtorEq]
 exact h
theorem W4 {s b n:Nat} {m:List Id3} {rest:List D} {F:List D} {H:AH} (hF:F.getD s .any= .hsl b n) (hn:m.length=n):Fz F ((b,.cells (row m rest))::H) (F.set s (.slc (jH Id3.d m))) H:=by
 have h:=Fz.freeze (F:=F) (H:=(b,.cells (row m rest))::H) (sz:=3) (xs:=jH Id3.d m) (rest:=rest) hF (cs:=row m rest) (by simp [qu]) rfl (by rw [jB];exact hn) (JX fun _=>rfl) (by omega) (fun x hx d hd=>by
  obtain ⟨t,_,rfl⟩:=List.mem_map.1 hx
  simp only [Id3.d,List.mem_cons,List.not_mem_nil,or_false] at hd
  rcases hd with rfl|rfl|rfl<;>rfl)
 rwa [vK] at h
theorem zG {n:Nat} {H:AH} (h:H.length≤n):back n H=H:=by
 unfold back
 rw [show H.length - n=0 by omega]
 rfl
theorem Y0 {rest:List D} {l:List Id3} {i j:Nat} (h:i+j<l.length):((row l rest).drop (i*3+j*3)).take 3=(l.getD (i+j) default).d:=by
 rw [←Nat.add_mul,gH h]
theorem Kc {l m:List Id3} {i j:Nat} (h:m.drop i=l.drop i) (hij:i≤j):m.getD j default=l.getD j default:=by
 have e:∀q:List Id3,q.getD j default=(q.drop i).getD (j - i) default:=fun q=>by
  simp only [List.getD_eq_getElem?_getD,List.getElem?_drop,show i+(j - i)=j by omega]
 rw [e m,e l,h]
theorem VS {l:List Id3} {b n:Nat} {rest:List D} {H:AH} {R:D→AH→Prop} (hn:l.length=n) (h0:0<n) (hb:n≤1073741824) (h:R (.slc (jH Id3.d (dd l))) H):ACall Tryz.prog 21 [.hsl b n] ((b,.cells (row l rest))::H) R:=by
 refine b21 fun hf=>?_
 have hbig:=qt
 have hk:∀q,dd l=q→R (.slc (jH Id3.d q)) H:=fun q hq=>hq▸h
 by_cases h2:n<2
 ·have h2':((n:Int)<2)=True:=eq_true (by omega)
  simp+contextual only [KE,h2',↓Yv,↓XP,↓XU,qn,XW1,qa,qb,qc,qd,qe,qf,reduceCtorEq]
  refine jV (W4 (s:=0) rfl hn) ?_
  simp+contextual only [KE,↓Yv,↓XP,↓XU,qn,XW1,qa,qb,qc,qd,qe,qf,reduceCtorEq]
  rw [zG (by omega)]
  refine hk _ ?_
  match l,hn with
  | [x],_=>rfl
  | [],hn=>simp at hn;omega
  |x::y::r,hn=>simp at hn;omega
 ·have h2':((n:Int)<2)=False:=eq_false (by omega)
  simp+contextual only [KE,h2',↓Yv,↓XP,↓XU,qn,XW1,qa,qb,qc,qd,qe,qf,reduceCtorEq]
  have hd0:l.take 1++dd.go (l.getD 0 default) (l.drop 1)=dd l:=by
   cases l with
   |nil=>simp at hn;omega
   |cons x r=>rfl
  refine XW.loopS Go.Proofs.YtpdhandimdibhaaGreatDoor.hm 61 (fun j:Nat=>[(0,.hsl b n),(3,.int .i64 ((j+1:Nat):Int))]) (fun j=>(b,AO.cells (row l rest))::H) (fun j=>n - j) (fun j=>j+1≤n∧l.take (j+1)++dd.go (l.getD j default) (l.drop (j+1))=dd l) 0 ⟨by omega,hd0⟩ ⟨rfl,rfl,rfl,trivial⟩ rfl ?_
  rintro j z ⟨hj,hd⟩ K hN hE hR
  show xcode _ _ [.hsl b n,z 1,z 2,.int .i64 ((j+1:Nat):Int),z 4,z 5,z 6,z 7,z 8,z 9,z 10,z 11,z 12,z 13,z 14,z 15,z 16,z 17,z 18,z 19,z 20,z 21,z 22,z 23,z 24,z 25,z 26,z 27,z 28,z 29,z 30,z 31,z 32,z 33,z 34,z 35,z 36,z 37,z 38,z 39,z 40,z 41,z 42,z 43,z 44,z 45,z 46,z 47,z 48,z 49,z 50,z 51,z 52,z 53,z 54,z 55,z 56,z 57,z 58,z 59,z 60] _ K
  by_cases hlt:j+1<n
  ·have hlt':(((j+1:Nat):Int)<(n:Int))=True:=eq_true (by omega)
   have g1:=gH (rest:=rest) (l:=l) (i:=j+1) (by omega)
   have g2:=gH (rest:=rest) (l:=l) (i:=j) (by omega)
   have hw:IntKind.i64.wrap (((j+1:Nat):Int) - 1)=(j:Int):=by rw [qJ (by omega) (by omega)];omega
   have hdr:=uT (l:=l) (i:=j+1) (by omega)
   have htk:=yX (l:=l) (i:=j+1) (by omega)
   have hlen:=oP (l:=l) (rest:=rest)
   have hdr0:=hdr
   rw [hdr] at hd
   generalize hy:l.getD (j+1) default=y at g1 hd htk hdr0
   generalize hx:l.getD j default=x at g2 hd
   have hyd:y.d= [.int .i64 y.o,.int .i64 y.s,.int .i64 y.i]:=rfl
   have hxd:x.d= [.int .i64 x.o,.int .i64 x.s,.int .i64 x.i]:=rfl
   have hid:=jz (x:=y) (y:=x)
   rw [show dd.go x (y::l.drop (j+1+1))=if y=x then dd.go x (l.drop (j+1+1)) else y::dd.go y (l.drop (j+1+1)) from rfl] at hd
   by_cases hyx:y=x
   ·rw [if_pos hyx] at hd
    simp+contextual only [KE,hlt',hw,Int.toNat_natCast,g1,g2,hyd,hxd,hid,eq_true hyx,↓Yv,↓XP,↓XU,qn,XW1,qa,qb,qc,qd,qe,qf,reduceCtorEq]
    refine ⟨by omega,by omega,by omega,by omega,by omega,?_⟩
    have hst:l.take (j+1)++dd.go (l.getD (j+1) default) (l.drop (j+1+1))=dd l:=by rw [hy,hyx];exact hd
    refine XW.loopS Go.Proofs.YtpdhandimdibhaaGreatDoor.hm 61 (fun s:Nat×Nat×List Id3=>[(0,.hsl b n),(3,.int .i64 ((s.2.1:Nat):Int)),(4,.hso b ((j+1)*3) (n - (j+1))),(5,.int .i64 ((s.1+1:Nat):Int))]) (fun s=>(b,AO.cells (row s.2.2 rest))::H) (fun s=>n - s.1) (fun s=>s.2.2.length=n∧j+1+(s.1+1)≤n∧j+1≤s.2.1∧s.2.1≤j+1+s.1∧s.2.2.take s.2.1++dd.go (l.getD (j+1+s.1) default) (l.drop (j+1+s.1+1))=dd l∧s.2.2.drop (j+1+s.1)=l.drop (j+1+s.1)) (0,j+1,l) ⟨hn,by dsimp only;omega,by dsimp only;omega,by dsimp only;omega,hst,rfl⟩ ⟨rfl,rfl,rfl,rfl,rfl,trivial⟩ rfl ?_
    clear hN hst hd g1 g2 hdr hdr0 htk
    rintro ⟨q,k,m⟩ z2 ⟨hm,hq,hk1,hk2,hd,hdm⟩ K2 hN hE2 hR2
    dsimp only at hm hq hk1 hk2 hd hdm hN
    show xcode _ _ ((List.range 61).map (frm [(0,.hsl b n),(3,.int .i64 ((k:Nat):Int)),(4,.hso b ((j+1)*3) (n - (j+1))),(5,.int .i64 ((q+1:Nat):Int))] z2)) ((b,AO.cells (row m rest))::H) _
    generalize hz:z2=z
    show xcode _ _ [.hsl b n,z 1,z 2,.int .i64 ((k:Nat):Int),.hso b ((j+1)*3) (n - (j+1)),.int .i64 ((q+1:Nat):Int),z 6,z 7,z 8,z 9,z 10,z 11,z 12,z 13,z 14,z 15,z 16,z 17,z 18,z 19,z 20,z 21,z 22,z 23,z 24,z 25,z 26,z 27,z 28,z 29,z 30,z 31,z 32,z 33,z 34,z 35,z 36,z 37,z 38,z 39,z 40,z 41,z 42,z 43,z 44,z 45,z 46,z 47,z 48,z 49,z 50,z 51,z 52,z 53,z 54,z 55,z 56,z 57,z 58,z 59,z 60] _ K2
    have hlen:=oP (l:=m) (rest:=rest)
    by_cases hlt2:j+1+(q+1)<n
    ·have hlt2':(((q+1:Nat):Int)<((n - (j+1):Nat):Int))=True:=eq_true (by omega)
     have g1:=Y0 (rest:=rest) (l:=m) (i:=j+1) (j:=q+1) (by omega)
     have g2:=Y0 (rest:=rest) (l:=m) (i:=j+1) (j:=q) (by omega)
     have g3:((row m rest).drop ((j+1)*3+(q+1)*3)).take 3=(m.getD (j+1+(q+1)) default).d:=g1
     rw [Kc hdm (by omega)] at g1 g2
     have hw2:IntKind.i64.wrap (((q+1:Nat):Int) - 1)=(q:Int):=by rw [qJ (by omega) (by omega)];omega
     have hdr:=uT (l:=l) (i:=j+1+q+1) (by omega)
     rw [hdr] at hd
     have hdm2:m.drop (j+1+(q+1))=l.drop (j+1+(q+1)):=by
      have:=congrArg (List.drop 1) hdm
      rw [List.drop_drop,List.drop_drop] at this
      exact this
     rw [show j+1+(q+1)=j+1+q+1 by omega] at g1
     generalize hy2:l.getD (j+1+q+1) default=y2 at g1 hd
     generalize l.getD (j+1+q) default=x2 at g2 hd
     have hyd2:y2.d= [.int .i64 y2.o,.int .i64 y2.s,.int .i64 y2.i]:=rfl
     have hxd2:x2.d= [.int .i64 x2.o,.int .i64 x2.s,.int .i64 x2.i]:=rfl
     have hid2:=jz (x:=y2) (y:=x2)
     rw [show dd.go x2 (y2::l.drop (j+1+q+1+1))=if y2=x2 then dd.go x2 (l.drop (j+1+q+1+1)) else y2::dd.go y2 (l.drop (j+1+q+1+1)) from rfl] at hd
     by_cases hyx2:y2=x2
     ·rw [if_pos hyx2] at hd
      simp+contextual only [KE,hlt2',hw2,Int.toNat_natCast,g1,g2,hyd2,hxd2,hid2,eq_true hyx2,qp (show q+1≤big by omega),↓Yv,↓XP,↓XU,qn,XW1,qa,qb,qc,qd,qe,qf,reduceCtorEq]
      repeat' (first|apply And.intro|intro _)
      all_goals first
       |omega
       |skip
      refine hN (q+1,k,m) _ _ ⟨hm,by dsimp only;omega,hk1,by dsimp only;omega,?_,hdm2⟩ (by dsimp only;omega) ⟨rfl,rfl,rfl,rfl,rfl,trivial⟩ (j7 rfl)
      have hd':m.take k++dd.go (l.getD (j+1+q+1) default) (l.drop (j+1+q+1+1))=dd l:=by rw [hy2,hyx2];exact hd
      exact hd'
     ·rw [if_neg hyx2] at hd
      have hrs:(row m rest).take (k*3)++ .int .i64 y2.o:: .int .i64 y2.s:: .int .i64 y2.i::(row m rest).drop (k*3+3)=row (m.set k y2) rest:=WE (rest:=rest) (l:=m) (i:=k) (y:=y2) (by omega)
      simp+contextual only [KE,hlt2',hw2,Int.toNat_natCast,g1,g2,hyd2,hxd2,hid2,eq_false hyx2,hrs,qp (show q+1≤big by omega),qp (show k≤big by omega),↓Yv,↓XP,↓XU,qn,XW1,qa,qb,qc,qd,qe,qf,reduceCtorEq]
      repeat' (first|apply And.intro|intro _)
      all_goals first
       |omega
       |skip
      have hd':(m.set k y2).take (k+1)++dd.go (l.getD (j+1+q+1) default) (l.drop (j+1+q+1+1))=dd l:=by
       rw [yX (by rw [List.length_set];omega),List.take_set_of_le (by omega),hy2,List.append_assoc]
       have e:(m.set k y2).getD k default=y2:=by simp [show k<m.length by omega]
       rw [e]
       exact hd
      refine hN (q+1,k+1,m.set k y2) _ _ ⟨by dsimp only;rw [List.length_set];exact hm,by dsimp only;omega,by dsimp only;omega,by dsimp only;omega,hd',?_⟩ (by dsimp only;omega) ⟨rfl,rfl,rfl,rfl,rfl,trivial⟩ (j7 rfl)
      dsimp only
      rw [List.drop_set_of_lt (by omega)]
      exact hdm2
    ·have hqn:j+1+(q+1)=n:=by omega
     have hlt2':(((q+1:Nat):Int)<((n - (j+1):Nat):Int))=False:=eq_false (by omega)
     rw [show l.drop (j+1+q+1)= [] from List.drop_of_length_le (by omega)] at hd
     rw [show dd.go (l.getD (j+1+q) default) []= [] from rfl,List.append_nil] at hd
     have hcl:=zM (rest:=rest) (l:=m) (i:=k) (by omega)
     rw [hm] at hcl
     simp+contextual only [KE,hlt2',↓Yv,↓XP,↓XU,qn,XW1,qa,qb,qc,qd,qe,qf,reduceCtorEq]
     intros
     refine hE2 _ _ _ ?_
     simp+contextual only [KE,Int.toNat_natCast,hcl,↓Yv,↓XP,↓XU,qn,XW1,qa,qb,qc,qd,qe,qf,reduceCtorEq]
     refine ⟨by omega,by omega,by omega,jV (W4 (s:=0) rfl (by simp;omega)) ?_⟩
     have htk2:(m.take k++List.replicate (n - k) wE).take k=m.take k:=by
      rw [List.take_append_of_le_length (by simp;omega),List.take_take,Nat.min_self]
     simp+contextual only [KE,jB,uQ,uU,Int.toNat_natCast,List.drop_zero,htk2,↓Yv,↓XP,↓XU,qn,XW1,qa,qb,qc,qd,qe,qf,reduceCtorEq]
     refine ⟨JX fun _=>rfl,by simp;omega,hR _ _ ?_⟩
     simp+contextual only [KE,↓Yv,↓XP,↓XU,qn,XW1,qa,qb,qc,qd,qe,qf,reduceCtorEq]
     rw [zG (by omega)]
     exact hk _ hd.symm
   ·rw [if_neg hyx] at hd
    simp+contextual only [KE,hlt',hw,Int.toNat_natCast,g1,g2,hyd,hxd,hid,eq_false hyx,qp (show j+1≤big by omega),↓Yv,↓XP,↓XU,qn,XW1,qa,qb,qc,qd,qe,qf,reduceCtorEq]
    repeat' (first|apply And.intro|intro _)
    all_goals first
     |omega
     |skip
    refine hN (j+1) _ _ ⟨by omega,?_⟩ (by omega) ⟨rfl,rfl,rfl,trivial⟩ (j7 rfl)
    rw [htk,List.append_assoc,hy]
    exact hd
  ·have hjn:j+1=n:=by omega
   have hlt':(((j+1:Nat):Int)<(n:Int))=False:=eq_false (by omega)
   simp+contextual only [KE,hlt',↓Yv,↓XP,↓XU,qn,XW1,qa,qb,qc,qd,qe,qf,reduceCtorEq]
   intros
   refine hE _ _ _ ?_
   simp+contextual only [KE,↓Yv,↓XP,↓XU,qn,XW1,qa,qb,qc,qd,qe,qf,reduceCtorEq]
   refine jV (W4 (s:=0) rfl hn) ?_
   simp+contextual only [KE,↓Yv,↓XP,↓XU,qn,XW1,qa,qb,qc,qd,qe,qf,reduceCtorEq]
   rw [zG (by omega)]
   refine hk _ ?_
   rw [←hd,List.take_of_length_le (by omega),List.drop_of_length_le (by omega)]
   simp [dd.go]
theorem ZO:SWO (ltOf Zn):=by
 have e:∀x y,ltOf Zn x y=decide (x.lt y):=fun x y=>by
  unfold ltOf
  exact decide_eq_decide.2 ordI_neg
 refine ⟨fun x=>?_,fun x y z h1 h2=>?_,fun x y z h1 h2=>?_⟩
 ·rw [e];exact decide_eq_false Km
 ·rw [e] at*;simp only [decide_eq_true_eq] at*;exact uy h1 h2
 ·rw [e] at*
  simp only [decide_eq_false_iff_not] at*
  intro h3
  rcases YE (a:=x) (b:=y) with h|h|h
  ·exact h1 h
  ·subst h;exact h2 h3
  ·exact h2 (uy h h3)
theorem f_sort0 {g:FuncId} {caps:List D} (hisb:Uo caps=false) {H:AH} {R:D→AH→Prop} (h:R (.tup []) H):ACall Tryz.prog 19 [.slc [],.fn g caps] H R:=by
 refine ⟨by kernel_rfl,fun K w vs hK hns hH hl hr=>?_⟩
 match vs,hl with
 | ⟨[v0,v1]⟩,_=>
  have h0:=hr 0 _ v0 rfl rfl
  have h1:=hr 1 _ v1 rfl rfl
  rcases h0.slc_inv with ⟨_,a,rfl⟩|⟨b,off,cap,sz,f,he,hc,_⟩
  ·refine (AnyF.slices_SortFunc_none Go.Proofs.Tryz.sortID a 0 v1 w).mono ?_
   rintro e w' ⟨rfl,rfl⟩
   exact ⟨_,_,H,K,rfl,h,.refl K w',hK,hH,RepV.viewO (.tup [] #[] rfl (fun j d u hd=>by simp at hd))⟩
  ·subst he
   refine (AnyF.slices_SortFunc_none Go.Proofs.Tryz.sortID (some ⟨b,off,none⟩) cap v1 w).mono ?_
   rintro e w' ⟨rfl,rfl⟩
   exact ⟨_,_,H,K,rfl,h,.refl K w',hK,hH,RepV.viewO (.tup [] #[] rfl (fun j d u hd=>by simp at hd))⟩
end Go.Proofs.YtpdhandimdibhaaGreatDoor
end
section
namespace Go.Aw
theorem Sbn.of {H' H2 H:AH} (h:H'.Perm H2) (h2:H2.Sublist H):Sbn H' H:=fun hn=>⟨(h.map (·.1)).nodup_iff.2 ((h2.map (·.1)).nodup hn),fun _ hp=>h2.subset (h.subset hp)⟩
open Go Go.RowKit
theorem ACall.agg3 {P:Program} {f:FuncId} {a b c:Int} {r:List D} {H:AH} {R:D→AH→Prop} (hc:wR P f=true) (h:vk .i64 a→vk .i64 b→vk .i64 c→ACall P f (.agg [.int .i64 a,.int .i64 b,.int .i64 c]::r) H R):ACall P f (.agg [.int .i64 a,.int .i64 b,.int .i64 c]::r) H R:=
  ⟨hc,fun K w vs h1 h2 h3 h4 h5=>by
    have hlt:0<vs.size:=by rw [h4];simp
    have hv:=h5 0 _ vs[0] rfl (Array.getElem?_eq_getElem hlt)
    generalize vs[0]=v at hv
    cases hv with
    | agg cs us hl hone hrep=>
      have hz:us.size=3:=hl
      have q0:=(hrep 0 _ us[0] rfl (Array.getElem?_eq_getElem (by omega))).fact
      have q1:=(hrep 1 _ us[1] rfl (Array.getElem?_eq_getElem (by omega))).fact
      have q2:=(hrep 2 _ us[2] rfl (Array.getElem?_eq_getElem (by omega))).fact
      exact (h q0 q1 q2).2 K w vs h1 h2 h3 h4 h5⟩
end Go.Aw
namespace Go.Proofs.YtpdhandimdibhaaGreatDoor
open Go Go.Aw
def ye (p:Pt) (x:Id3):Prop:=x≠wE∧(x.o≠p.o∨x.s≠p.s)
instance (p:Pt) (x:Id3):Decidable (ye p x):=by unfold ye;exact inferInstance
structure Out where
  xs:List Id3
  ob:Nat
  cap:Nat
  rest:List D
def Out.c (s:Out):D:=match s.xs with
  | []=>.own []
  |x::r=>.hgs s.ob (r.length+1) s.cap
def Out.r (s:Out):AH:=match s.xs with
  | []=>[]
  |x::r=>[(s.ob,.cells (row (x::r) s.rest))]
def Out.h (s:Out) (p:Pt) (b1 b3:Nat) (H:AH):AH:=(b3,.cells [s.c])::(b1,.cells p.d)::(s.r++H)
def Out.ok (s:Out) (b1 b3:Nat) (H:AH):Prop:=b3≠b1∧(s.xs.length≤1073741824∧∀y∈s.xs,Un y)∧(s.xs≠ []→s.ob≠b3∧s.ob≠b1∧qD H s.ob∧(row s.xs s.rest).length=s.cap*3)
theorem id_flat {l:List Id3}:(jH Id3.d l).flatten.length=l.length*3:=by
  induction l with
  |nil=>rfl
  |cons x l ih=>simp only [jH,List.map_cons,List.flatten_cons,List.length_append,List.length_cons] at ih ⊢;rw [ih];simp only [Id3.d,List.length_cons,List.length_nil];omega
theorem K5 {l:List Id3} {rest:List D}:((jH Id3.d l).flatten++rest).take (l.length*3)=(jH Id3.d l).flatten:=by
  rw [←id_flat,List.take_left]
theorem KI {l:List Id3}:(jH Id3.d l).flatten.all plain=true:=by
  rw [List.all_eq_true]
  intro d hd
  obtain ⟨r,hr,hd⟩:=List.mem_flatten.1 hd
  obtain ⟨t,_,rfl⟩:=List.mem_map.1 hr
  simp only [Id3.d,List.mem_cons,List.not_mem_nil,or_false] at hd
  rcases hd with rfl|rfl|rfl<;>rfl
theorem UD {p:Pt} {x:Id3} {b1 b3:Nat} {s:Out} {H:AH} {R:D→AH→Prop} (ho:s.ok b1 b3 H) (hl:s.xs.length<1073741824)
    (h:∀s':Out,s'.ok b1 b3 H→s'.xs=(if ye p x then s.xs++ [x] else s.xs)→R (.tup []) (s'.h p b1 b3 H)):
    ACall Tryz.prog 17 [.agg x.d,.ptr b1 0,.ptr b3 0] (s.h p b1 b3 H) R:=by
  obtain ⟨n31,⟨hxl,hok⟩,hob⟩:=ho
  refine ACall.agg3 (a:=x.o) (b:=x.s) (c:=x.i) (by kernel_rfl) fun i1 i2 i3=>?_
  have oki:Un x:=⟨i1,i2,i3⟩
  refine r17 fun hf=>?_
  have hbig:=qt
  have hd:=@dE p
  have hx:x.d= [.int .i64 x.o,.int .i64 x.s,.int .i64 x.i]:=rfl
  have hz:=jC (x:=x)
  obtain ⟨xs,ob,cap,rest⟩:=s
  dsimp only at hxl hob hl h hok
  rcases xs with _|⟨y,r⟩
  · show xcode _ _ _ ((b3,.cells [.own []])::(b1,.cells p.d)::H) _
    by_cases h0:x=wE
    · simp+contextual only [x17,hd,hx,hz,qg,qh,n31,Ne.symm n31,kN,j8,ji,decide_eq_true h0,↓U17,↓XP,↓XU,qn,XW1,qa,qb,qc,qd,qe,qf,reduceCtorEq]
      intros
      refine ⟨_,Sbn.sub (List.sublist_cons_self _ _),h ⟨[],ob,cap,rest⟩ ⟨n31,by simp,fun e=>absurd rfl e⟩ ?_⟩
      rw [if_neg (fun e=>e.1 h0)]
    · simp+contextual only [x17,hd,hx,hz,qg,qh,n31,Ne.symm n31,kN,j8,ji,decide_eq_false h0,↓U17,↓XP,↓XU,qn,XW1,qa,qb,qc,qd,qe,qf,reduceCtorEq]
      intros
      have fin:ye p x→∀bx b cap m,¬bx=b∧¬b3=b∧¬b1=b∧qD H b→3+m=cap*3→∃H',Sbn H' ((b,AO.cells ([[D.int .i64 x.o,D.int .i64 x.s,D.int .i64 x.i]].flatten++List.replicate m D.any))::(bx,AO.cells x.d)::(b3,AO.cells [D.hgs b 1 cap])::(b1,AO.cells p.d)::H)∧R (.tup []) H':=fun hk bx b cap m hb hc=>
        ⟨_,Sbn.of (List.perm_middle (l₁:= [(b3,AO.cells [D.hgs b 1 cap]),(b1,AO.cells p.d)]) (a:=(b,AO.cells (row [x] (List.replicate m .any)))) (l₂:=H)) ((List.sublist_cons_self _ _).cons_cons _),h ⟨[x],b,cap,List.replicate m .any⟩ ⟨n31,by simp [oki],fun _=>⟨Ne.symm hb.2.1,Ne.symm hb.2.2.1,hb.2.2.2,by simp [oP];omega⟩⟩ (by rw [if_pos hk];rfl)⟩
      have non:¬ye p x→∀bx,∃H',Sbn H' ((bx,AO.cells x.d)::(b3,AO.cells [D.own []])::(b1,AO.cells p.d)::H)∧R (.tup []) H':=fun hk bx=>
        ⟨_,Sbn.sub (List.sublist_cons_self _ _),h ⟨[],ob,cap,rest⟩ ⟨n31,by simp,fun e=>absurd rfl e⟩ (by rw [if_neg hk])⟩
      rw [hx,hd] at fin non
      repeat' (first|apply And.intro|intro _)
      all_goals first
        |exact fin ⟨h0,.inl (by assumption)⟩ _ _ _ _ (by assumption) (by assumption)
        | (have e:x.o=p.o:=by assumption
           rw [e] at fin non
           first
             |exact fin ⟨h0,.inr (by assumption)⟩ _ _ _ _ (by assumption) (by assumption)
             | (have e2:x.s=p.s:=by assumption
                rw [e2] at non
                exact non (by unfold ye;omega) _))
        |skip
  · obtain ⟨o3,o1,of_,ocap⟩:=hob (by simp)
    have hl2:r.length+1<1073741824:=hl
    show xcode _ _ _ ((b3,.cells [.hgs ob (r.length+1) cap])::(b1,.cells p.d)::(ob,.cells (row (y::r) rest))::H) _
    by_cases h0:x=wE
    · simp+contextual only [x17,hd,hx,hz,qg,qh,n31,Ne.symm n31,kN,j8,ji,decide_eq_true h0,↓U17,↓XP,↓XU,qn,XW1,qa,qb,qc,qd,qe,qf,reduceCtorEq]
      intros
      refine ⟨_,Sbn.sub (List.sublist_cons_self _ _),h ⟨y::r,ob,cap,rest⟩ ⟨n31,⟨by simp only [List.length_cons];omega,hok⟩,fun _=>⟨o3,o1,of_,ocap⟩⟩ ?_⟩
      rw [if_neg (fun e=>e.1 h0)]
    · have ert:∀m,List.take ((r.length+1)*3) (row (y::r) rest)++([[D.int .i64 x.o,D.int .i64 x.s,D.int .i64 x.i]].flatten++List.replicate m D.any)=row (y::(r++ [x])) (List.replicate m .any):=fun m=>by
        have e:=K5 (l:=y::r) (rest:=rest)
        rw [show (y::r).length=r.length+1 from rfl] at e
        show List.take ((r.length+1)*3) ((jH Id3.d (y::r)).flatten++rest)++_=_
        rw [e]
        show _=(jH Id3.d ((y::r)++ [x])).flatten++_
        simp [jH,Id3.d]
      have fin:ye p x→∀bx nb nc m,nb≠b3→nb≠b1→qD H nb→(r.length+1)*3+3+m=nc*3→∃H',Sbn H' ((nb,AO.cells (List.take ((r.length+1)*3) (row (y::r) rest)++([[D.int .i64 x.o,D.int .i64 x.s,D.int .i64 x.i]].flatten++List.replicate m D.any)))::(bx,AO.cells x.d)::(b3,AO.cells [D.hgs nb (r.length+1+1) nc])::(b1,AO.cells p.d)::H)∧R (.tup []) H':=fun hk bx nb nc m k3 k1 kf hc=>by
        rw [ert]
        refine ⟨_,Sbn.of (List.perm_middle (l₁:= [(b3,AO.cells [D.hgs nb (r.length+1+1) nc]),(b1,AO.cells p.d)]) (a:=(nb,AO.cells (row (y::(r++ [x])) (List.replicate m .any)))) (l₂:=H)) ((List.sublist_cons_self _ _).cons_cons _),?_⟩
        have hh:=h ⟨y::(r++ [x]),nb,nc,List.replicate m .any⟩ ⟨n31,⟨by simp only [List.length_cons,List.length_append,List.length_nil];omega,fun z hz=>(by rcases List.mem_append.1 (show z∈(y::r)++ [x] from hz) with hz|hz;exact hok z hz;rw [List.mem_singleton.1 hz];exact oki)⟩,fun _=>⟨k3,k1,kf,by dsimp only;rw [oP];simp only [List.length_cons,List.length_append,List.length_nil,List.length_replicate];omega⟩⟩ (by rw [if_pos hk];rfl)
        unfold Out.h Out.c Out.r at hh
        dsimp only at hh
        rw [show (r++ [x]).length+1=r.length+1+1 by simp] at hh
        exact hh
      rw [hx,hd] at fin
      rcases (show (x.o=p.o∧x.s=p.s)∨(x.o=p.o∧x.s≠p.s)∨x.o≠p.o by omega) with ⟨e1,e2⟩|⟨e1,e2⟩|e1
      · simp+contextual only [x17,hd,hx,hz,qg,qh,n31,Ne.symm n31,kN,j8,ji,decide_eq_false h0,o3,o1,Ne.symm o3,Ne.symm o1,eq_true e1,eq_true e2,↓U17,↓XP,↓XU,qn,XW1,qa,qb,qc,qd,qe,qf,reduceCtorEq]
        intros
        exact ⟨_,Sbn.sub (List.sublist_cons_self _ _),h ⟨y::r,ob,cap,rest⟩ ⟨n31,⟨by simp only [List.length_cons];omega,hok⟩,fun _=>⟨o3,o1,of_,ocap⟩⟩ (by rw [if_neg (by unfold ye;omega)])⟩
      · simp+contextual only [x17,hd,hx,hz,qg,qh,n31,Ne.symm n31,kN,j8,ji,decide_eq_false h0,o3,o1,Ne.symm o3,Ne.symm o1,eq_true e1,eq_false e2,↓U17,↓XP,↓XU,qn,XW1,qa,qb,qc,qd,qe,qf,reduceCtorEq]
        rintro bx ⟨q3,q1,qo,qf⟩
        intros
        refine ⟨ocap,by omega,by rw [show row (y::r) rest=(jH Id3.d (y::r)).flatten++rest from rfl,show r.length+1=(y::r).length from rfl,K5];exact KI,fun nb nc m hnf hcap=>?_⟩
        simp only [jK qo,jK o3,jK o1,vK] at hnf ⊢
        obtain ⟨kx,k3,k1,kf⟩:nb≠bx∧nb≠b3∧nb≠b1∧qD H nb:=by
          simpa [qD] using hnf
        simp+contextual only [x17,hd,hx,hz,qg,qh,n31,Ne.symm n31,kN,j8,ji,k3,Ne.symm k3,q3,↓U17,↓XP,↓XU,qn,XW1,qa,qb,qc,qd,qe,qf,reduceCtorEq]
        exact fin ⟨h0,by omega⟩ _ _ _ _ k3 k1 kf hcap
      · simp+contextual only [x17,hd,hx,hz,qg,qh,n31,Ne.symm n31,kN,j8,ji,decide_eq_false h0,o3,o1,Ne.symm o3,Ne.symm o1,eq_false e1,↓U17,↓XP,↓XU,qn,XW1,qa,qb,qc,qd,qe,qf,reduceCtorEq]
        rintro bx ⟨q3,q1,qo,qf⟩
        intros
        refine ⟨ocap,by omega,by rw [show row (y::r) rest=(jH Id3.d (y::r)).flatten++rest from rfl,show r.length+1=(y::r).length from rfl,K5];exact KI,fun nb nc m hnf hcap=>?_⟩
        simp only [jK qo,jK o3,jK o1,vK] at hnf ⊢
        obtain ⟨kx,k3,k1,kf⟩:nb≠bx∧nb≠b3∧nb≠b1∧qD H nb:=by
          simpa [qD] using hnf
        simp+contextual only [x17,hd,hx,hz,qg,qh,n31,Ne.symm n31,kN,j8,ji,k3,Ne.symm k3,q3,↓U17,↓XP,↓XU,qn,XW1,qa,qb,qc,qd,qe,qf,reduceCtorEq]
        exact fin ⟨h0,by omega⟩ _ _ _ _ k3 k1 kf hcap
end Go.Proofs.YtpdhandimdibhaaGreatDoor
end
section
namespace Go.Aw
theorem ACall.perm {P:Program} {f:FuncId} {args:List D} {H G:AH} {R:D→AH→Prop} (hp:G.Perm H) (h:ACall P f args G R):ACall P f args H R:=
 ⟨h.1,fun K w vs h1 h2 h3 h4 h5=>h.2 K w vs h1 h2 ⟨(hp.map (·.1)).nodup_iff.2 h3.nd,fun b o hm=>h3.ok b o (hp.subset hm)⟩ h4 h5⟩
end Go.Aw
namespace Go.Proofs.YtpdhandimdibhaaGreatDoor
open Go Go.Aw
theorem Out.nil {H:AH} {b1 b3:Nat} (h:b3≠b1):Out.ok ⟨[],0,0,[]⟩ b1 b3 H:=⟨h,by simp,fun e=>absurd rfl e⟩
theorem Out.out {s:Out} {b1 b3 b:Nat} {o:AO} {H:AH} (h:s.ok b1 b3 ((b,o)::H)):s.ok b1 b3 H:=⟨h.1,h.2.1,fun e=>⟨(h.2.2 e).1,(h.2.2 e).2.1,by have:=(h.2.2 e).2.2.1;rw [Jz] at this;exact this.2,(h.2.2 e).2.2.2⟩⟩
theorem Out.fr {s:Out} {p:Pt} {b1 b3 b:Nat} {H:AH}:qD (s.h p b1 b3 H) b↔b3≠b∧b1≠b∧(s.xs≠ []→s.ob≠b)∧qD H b:=by
 obtain ⟨xs,ob,cap,rest⟩:=s
 cases xs with
 |nil=>simp [Out.h,Out.r,Jz]
 |cons x r=>simp [Out.h,Out.r,Jz]
theorem Out.in_ {s:Out} {p:Pt} {b1 b3 b:Nat} {o:AO} {H:AH} (h:s.ok b1 b3 H) (hb:qD (s.h p b1 b3 H) b):s.ok b1 b3 ((b,o)::H):=⟨h.1,h.2.1,fun e=>⟨(h.2.2 e).1,(h.2.2 e).2.1,by rw [Jz];exact ⟨Ne.symm ((Out.fr.1 hb).2.2.1 e),(h.2.2 e).2.2.1⟩,(h.2.2 e).2.2.2⟩⟩
theorem Out.mid {s:Out} {p:Pt} {b1 b3:Nat} {x:Nat×AO} {H:AH}:(s.h p b1 b3 (x::H)).Perm (x::s.h p b1 b3 H):=by
 unfold Out.h
 exact List.perm_middle (l₁:=(b3,AO.cells [s.c])::(b1,AO.cells p.d)::s.r)
theorem Out.sub {s:Out} {p:Pt} {b1 b3:Nat} {x:Nat×AO} {H:AH}:(s.h p b1 b3 H).Sublist (s.h p b1 b3 (x::H)):=by
 unfold Out.h
 exact (((List.sublist_cons_self x H).append_left s.r).cons_cons _).cons_cons _
theorem f_eachA {fi:Nat} {ids:List Id3} {p:Pt} {b1 b3:Nat} {s0:Out} {H:AH} {R:D→AH→Prop} (hfi:fi=17) (ho:s0.ok b1 b3 H) (hl:s0.xs.length+ids.length<1073741824)
  (h:∀s':Out,s'.ok b1 b3 H→s'.xs=s0.xs++ids.filter (fun x=>decide (ye p x))→R (.tup []) (s'.h p b1 b3 H)):
  ACall Tryz.prog 18 [.slc (qI ids),.fn fi [.ptr b1 0,.ptr b3 0]] (s0.h p b1 b3 H) R:=by
 refine r18 fun hf=>?_
 have hbig:=qt
 simp+contextual only [Ul,qk,kN,j8,ji,↓U18,↓XP,↓XU,qn,XW1,qa,qb,qc,qd,qe,qf,reduceCtorEq]
 intros
 refine XW.loopSR Go.Proofs.YtpdhandimdibhaaGreatDoor.hm 16 (fun s:Nat×Out=>[(1,.fn fi [.ptr b1 0,.ptr b3 0]),(6,.slc (qI ids)),(7,.int .i64 ids.length),(8,.int .i64 ((s.1:Nat):Int))]) (fun s=>s.2.h p b1 b3 H) (fun s=>ids.length - s.1) (fun s=>s.1≤ids.length∧s.2.ok b1 b3 H∧s.2.xs=s0.xs++(ids.take s.1).filter (fun x=>decide (ye p x))) (0,s0) ⟨by simp,ho,by simp⟩ ⟨rfl,rfl,rfl,rfl,rfl,trivial⟩ rfl ?_
 rintro ⟨i,s⟩ z ⟨hi,hs,hx⟩ K hN hE hR
 dsimp only at hi hs hx
 show xcode _ _ [z 0,.fn fi [.ptr b1 0,.ptr b3 0],z 2,z 3,z 4,z 5,.slc (qI ids),.int .i64 ids.length,.int .i64 ((i:Nat):Int),z 9,z 10,z 11,z 12,z 13,z 14,z 15] (s.h p b1 b3 H) K
 by_cases hlt:i<ids.length
 ·have g:=kL hlt
  have hlt':((i:Int)<(ids.length:Int))=True:=eq_true (by omega)
  have hts:=yX hlt
  generalize ids.getD i default=e at g hts
  have he:e.d= [.int .i64 e.o,.int .i64 e.s,.int .i64 e.i]:=rfl
  simp+contextual only [Ul,qk,kN,j8,ji,g,he,hlt',↓U18,↓XP,↓XU,qn,XW1,qa,qb,qc,qd,qe,qf,reduceCtorEq]
  intro b hb
  subst hfi
  refine ACall.perm Out.mid (UD (x:=e) (Out.in_ hs hb) ?_ fun s' hs2 hx2=>?_)
  ·rw [hx,List.length_append]
   have:=List.length_filter_le (fun x=>decide (ye p x)) (ids.take i)
   rw [List.length_take] at this
   omega
  ·simp+contextual only [Ul,qk,kN,j8,ji,qp (show i≤big by omega),↓U18,↓XP,↓XU,qn,XW1,qa,qb,qc,qd,qe,qf,reduceCtorEq]
   intros
   refine hN (i+1,s') _ _ ⟨hlt,Out.out hs2,?_⟩ (by dsimp only;omega) ⟨rfl,rfl,rfl,rfl,rfl,trivial⟩ (Sbn.sub Out.sub)
   rw [hx2,hts,List.filter_append,←List.append_assoc,←hx]
   by_cases hk:ye p e
   ·rw [if_pos hk,List.filter_cons_of_pos (by simpa using hk),List.filter_nil]
   ·rw [if_neg hk,List.filter_cons_of_neg (by simpa using hk),List.filter_nil,List.append_nil]
 ·have hin:i=ids.length:=by omega
  subst hin
  rw [List.take_length] at hx
  simp+contextual only [Ul,qk,kN,j8,ji,↓U18,↓XP,↓XU,qn,XW1,qa,qb,qc,qd,qe,qf,reduceCtorEq]
  intros
  refine hE _ _ _ ?_
  simp+contextual only [Ul,qk,kN,j8,ji,↓U18,↓XP,↓XU,qn,XW1,qa,qb,qc,qd,qe,qf,reduceCtorEq]
  exact ⟨_,Sbn.sub (List.Sublist.refl _),h s hs hx⟩
end Go.Proofs.YtpdhandimdibhaaGreatDoor
end
section
namespace Go.Aw
open Go Go.RowKit
section
variable {F:List D} {H:AH} {k:List D→AH→Prop}
theorem Gz.give0 {bx j:Nat} {cs:List D} (hg:qu H bx=some (.cells cs)) (hj:cs[j]?=some (.own [])) (h:k F (qF H bx (.cells (cs.set j (.osl 0 0 []))))):Gz F H k:=by
 intro K w t hs
 refine ⟨F,_,K,h,.refl K w,hs.krel,⟨by rw [ko];exact hs.hrel.nd,fun c' o' hm'=>?_⟩,hs.len,hs.slot⟩
 rcases yu hs.hrel.nd hm' with ⟨rfl,rfl⟩|⟨hne,hm'⟩
 ·obtain ⟨hpb,c,T,hb,hcs,hrc⟩:=hs.hrel.ok c' _ (j4 hg)
  refine ⟨hpb,c,T,hb,by simpa using hcs,fun q d hd=>?_⟩
  rcases getElem?_set_some hd with ⟨rfl,rfl,_⟩|⟨_,hd⟩
  ·obtain ⟨u,f1,f2,f3⟩:=hrc _ _ hj
   have f4:OwnAt K w _ [] u:=f3
   refine ⟨u,f1,f2,?_⟩
   rcases f4 with ⟨_,a,rfl⟩|⟨b,cap,sz,c2,T2,_,_,_,_,hp,_⟩
   ·exact .oslnil 0 0 a
   ·simp at hp
  ·exact hrc q d hd
 ·exact hs.hrel.ok c' o' hm'
theorem Gz.giveA {bx j:Nat} {cs:List D} {xs:List (List D)} (hg:qu H bx=some (.cells cs)) (hj:cs[j]?=some (.own xs))
  (h:∀b cap H',qu H' bx=some (.cells (cs.set j (.osl b cap xs)))→(xs≠ []→qu H' b=some (.room cap xs))→jx H' b xs=qF H bx (.cells (cs.set j (.osl b cap xs)))→k F H'):Gz F H k:=by
 rcases Classical.em (xs= []) with hx|hx
 ·subst hx
  exact Gz.give0 hg hj (h 0 0 _ (Ji (by rw [hg];rfl)) (fun e=>(e rfl).elim) (by simp only [jx,if_true]))
 ·refine Gz.give hx hg hj fun b cap hf=>h b cap _ ?_ (fun _=>jS) (by simp only [jx,if_neg hx,vK])
  rw [qg (fun e=>vY hf (j4 hg) e),Ji (by rw [hg];rfl)]
end
theorem Fz.hgsC {F:List D} {H:AH} {b' j b n cap:Nat} {ds:List D} (hd:qu H b'=some (.cells ds)) (hj:ds[j]?=some (.hgs b n cap)):Fz F H F (qF H b' (.cells (ds.set j (.hsl b n)))):=by
 intro K w t hs
 refine ⟨K,.refl K w,hs.krel,⟨by rw [ko];exact hs.hrel.nd,fun c' o' hm=>?_⟩,hs.len,hs.slot⟩
 rcases yu hs.hrel.nd hm with ⟨rfl,rfl⟩|⟨hne',hm⟩
 ·obtain ⟨g1,c',T',g2,g3,g4⟩:=hs.hrel.ok c' _ (j4 hd)
  refine ⟨g1,c',T',g2,by simpa using g3,fun q d' hd'=>?_⟩
  rcases getElem?_set_some hd' with ⟨rfl,rfl,_⟩|⟨hnq,hd'⟩
  ·obtain ⟨u,e1,e2,e3⟩:=g4 j _ hj
   obtain ⟨rfl,h1,h2,h3⟩:=RepV.hgs_inv e3
   exact ⟨_,e1,e2,.hsl b n cap h1 h2 h3⟩
  ·exact g4 q d' hd'
 ·exact hs.hrel.ok c' o' hm
end Go.Aw
end
section
namespace Go.Proofs.YtpdhandimdibhaaGreatDoor
open Go Go.Aw
structure Sz (n:Nat) (p:Pt):Prop where
 ops:p.ops.length≤n
 needs:p.needs.length≤n
 ids:∀o∈p.ops,o.ids.length≤100+n
 name:∀o∈p.ops,o.name.length≤2000
 text:∀o∈p.ops,o.text.length≤2000
 sl:p.sl.length≤2000
theorem Sz.le {n m:Nat} {p:Pt} (h:Sz n p) (hn:n≤m):Sz m p:=
 ⟨by have:=h.ops;omega,by have:=h.needs;omega,fun o ho=>by have:=h.ids o ho;omega,h.name,h.text,h.sl⟩
theorem Sz.setOp {n:Nat} {p:Pt} (h:Sz n p) {k:Nat} {o:OpP} (h1:o.ids.length≤114+n) (h2:o.name.length≤2000) (h3:o.text.length≤2000):Sz (n+14) {p with ops:=p.ops.set k o}:=by
 refine ⟨by simp only [List.length_set];have:=h.ops;omega,by have:=h.needs;simp only;omega,fun x hx=>?_,fun x hx=>?_,fun x hx=>?_,h.sl⟩
 ·rcases List.mem_or_eq_of_mem_set hx with hx|rfl
  ·have:=h.ids x hx;omega
  ·omega
 ·rcases List.mem_or_eq_of_mem_set hx with hx|rfl
  ·exact h.name x hx
  ·exact h2
 ·rcases List.mem_or_eq_of_mem_set hx with hx|rfl
  ·exact h.text x hx
  ·exact h3
theorem Sz.more {n:Nat} {p:Pt} (h:Sz n p) {l:List OpP} {m:Nat} (hl:l.length≤m) (h1:∀o∈l,o.ids.length≤100+n) (h2:∀o∈l,o.name.length≤2000) (h3:∀o∈l,o.text.length≤2000):Sz (n+m) {p with ops:=p.ops++l}:=by
 refine ⟨by simp only [List.length_append];have:=h.ops;omega,by have:=h.needs;simp only;omega,fun x hx=>?_,fun x hx=>?_,fun x hx=>?_,h.sl⟩
 ·rcases List.mem_append.1 hx with hx|hx
  ·have:=h.ids x hx;omega
  ·have:=h1 x hx;omega
 ·exact (List.mem_append.1 hx).elim (h.name x) (h2 x)
 ·exact (List.mem_append.1 hx).elim (h.text x) (h3 x)
theorem oJ {xs:List (List D)} {sz k:Nat} (hs:∀x∈xs,x.length=sz) (hk:k<xs.length) (rest:List D):
  xs.flatten++rest=(xs.take k).flatten++(xs.getD k []++((xs.drop (k+1)).flatten++rest))∧(xs.take k).flatten.length=k*sz∧(xs.getD k []).length=sz:=by
 have e:xs=xs.take k++(xs.getD k []::xs.drop (k+1)):=by
  have h1:xs.getD k []=xs[k]:=by simp [hk]
  rw [h1,List.getElem_cons_drop,List.take_append_drop]
 refine ⟨?_,?_,?_⟩
 ·conv=>lhs;rw [e]
  simp only [List.flatten_append,List.flatten_cons,List.append_assoc]
 ·rw [yD (sz:=sz) (fun x hx=>hs x (List.mem_of_mem_take hx)),List.length_take,Nat.min_eq_left (by omega)]
 ·have h1:xs.getD k []=xs[k]:=by simp [hk]
  rw [h1]
  exact hs _ (List.getElem_mem hk)
theorem WS {xs:List (List D)} {k:Nat} (hk:k<xs.length) (y rest:List D):(xs.take k).flatten++(y++((xs.drop (k+1)).flatten++rest))=(xs.set k y).flatten++rest:=by
 rw [List.set_eq_take_append_cons_drop,if_pos hk]
 simp only [List.flatten_append,List.flatten_cons,List.append_assoc]
theorem fl_set {xs:List (List D)} {sz k j:Nat} {v:D} {rest:List D} (hs:∀x∈xs,x.length=sz) (hk:k<xs.length) (hj:j<sz):
  (xs.flatten++rest).set (k*sz+j) v=(xs.set k ((xs.getD k []).set j v)).flatten++rest:=by
 obtain ⟨h1,h2,h3⟩:=oJ hs hk rest
 rw [h1,←WS hk,List.set_append_right _ _ (by omega),h2,Nat.add_sub_cancel_left,List.set_append_left _ _ (by omega)]
theorem ap_sets {A x r v:List D} {a j m sz:Nat} (ha:A.length=a) (hx:x.length=sz) (hj:j+m≤sz):
  (A++(x++r)).take (a+j)++(v++(A++(x++r)).drop (a+j+m))=A++((x.take j++(v++x.drop (j+m)))++r):=by
 subst ha
 rw [List.take_length_add_append,Nat.add_assoc,List.drop_length_add_append,List.take_append_of_le_length (by omega),List.drop_append_of_le_length (by omega)]
 simp only [List.append_assoc]
theorem ap_gets {A x r:List D} {a j m sz:Nat} (ha:A.length=a) (hx:x.length=sz) (hj:j+m≤sz):
  ((A++(x++r)).drop (a+j)).take m=(x.drop j).take m:=by
 subst ha
 rw [List.drop_length_add_append,List.drop_append_of_le_length (by omega),List.take_append_of_le_length (by rw [List.length_drop];omega)]
theorem fl_sets {xs:List (List D)} {sz k j m:Nat} {v:List D} {rest:List D} (hs:∀x∈xs,x.length=sz) (hk:k<xs.length) (hj:j+m≤sz):
  (xs.flatten++rest).take (k*sz+j)++(v++(xs.flatten++rest).drop (k*sz+j+m))=(xs.set k ((xs.getD k []).take j++(v++(xs.getD k []).drop (j+m)))).flatten++rest:=by
 obtain ⟨h1,h2,h3⟩:=oJ hs hk rest
 rw [h1,←WS hk]
 exact ap_sets h2 h3 hj
theorem fl_gets {xs:List (List D)} {sz k j m:Nat} {rest:List D} (hs:∀x∈xs,x.length=sz) (hk:k<xs.length) (hj:j+m≤sz):
  ((xs.flatten++rest).drop (k*sz+j)).take m=((xs.getD k []).drop j).take m:=by
 obtain ⟨h1,h2,h3⟩:=oJ hs hk rest
 rw [h1]
 exact ap_gets h2 h3 hj
theorem fl_get {xs:List (List D)} {sz k j:Nat} {rest:List D} (hs:∀x∈xs,x.length=sz) (hk:k<xs.length) (hj:j<sz):
  (xs.flatten++rest)[k*sz+j]?=(xs.getD k [])[j]?:=by
 obtain ⟨h1,h2,h3⟩:=oJ hs hk rest
 rw [h1,List.getElem?_append_right (by omega),h2,Nat.add_sub_cancel_left,List.getElem?_append_left (by omega)]
theorem Vc {l:List OpP} {k:Nat} {o:OpP}:(qE l).set k o.d=qE (l.set k o):=by simp only [qE,List.map_set]
end Go.Proofs.YtpdhandimdibhaaGreatDoor
end
