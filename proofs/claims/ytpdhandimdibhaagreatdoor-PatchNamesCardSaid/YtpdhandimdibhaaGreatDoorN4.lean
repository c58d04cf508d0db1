/- A part of the proof of what the last text says: Aw8, Aw9. Conditions: those in each theorem. -/
import Derived.Test.YtpdhandimdibhaaGreatDoorN3
set_option linter.unusedVariables false
set_option linter.unusedSimpArgs false
set_option maxRecDepth 100000
set_option maxHeartbeats 16000000
open Nat renaming reduceSub → qa,reduceAdd → qb,reduceMul → qc,reduceEqDiff → qd,reduceLeDiff → qe,reduceBEq → qf
section
namespace Go.Aw
open Go Go.RowKit
structure FK (K:Nat→BK) (w:World) (K':Nat→BK) (w':World):Prop where
  ext:ExtV K w K' w'
  own:∀b n,K b= .tok n .outer→K' b= .tok n .outer∧w'.heap[b]?=w.heap[b]?
  new:∀b n,K' b= .tok n .outer→K b= .tok n .outer
theorem FK.refl (K:Nat→BK) (w:World):FK K w K w:=⟨.refl K w,fun _ _ h=>⟨h,rfl⟩,fun _ _ h=>h⟩
theorem FK.trans {K K' K'':Nat→BK} {w w' w'':World} (h:FK K w K' w') (g:FK K' w' K'' w''):FK K w K'' w'':=
  ⟨h.ext.trans g.ext,fun b n hb=>⟨(g.own b n (h.own b n hb).1).1,(g.own b n (h.own b n hb).1).2.trans (h.own b n hb).2⟩,fun b n hb=>h.new b n (g.new b n hb)⟩
theorem Keep.fk {E:Who→Prop} {B:Nat→Prop} {K K':Nat→BK} {w w':World} (h:Keep E B K w K' w') (he:¬E .outer):FK K w K' w':=
  ⟨h.ext,fun b n hb=>h.own b n _ hb he,h.new⟩
structure St (K:Nat→BK) (w:World) (F:List D) (H:AH) (t:Array Value):Prop where
  krel:KRel K w
  hrel:HRel K w H
  len:t.size=F.length
  slot:∀(i:Nat) (d:D) (v:Value),F[i]?=some d→t[i]?=some v→RepO K w i d v
def ev (F:List D):Operand→D
  | .tmp t=>F.getD t .any
  | .const v=>jj v
  | .global g=>.ptr g 0
  | .func f=>.fn f []
def rv (F:List D) (x:Operand):D:=(ev F x).view
def qG (F:List D) (dst:Option Tmp) (d:D):List D:=match dst with
  |some i=>F.set i d
  |none=>F
def jL:Operand→Bool
  | .const v=>yH v
  |_=>true
theorem Y4 (v:Value):(jj v).view=(jj v).view1:=by unfold jj;split<;>rfl
theorem St.rep {K:Nat→BK} {w:World} {F:List D} {H:AH} {a:Act} (h:St K w F H a.tmps) {x:Operand} (hx:jL x=true):RepV K w (rv F x) (a.eval x):=by
  cases x with
  | tmp t=>
    simp only [rv,ev,Act.eval]
    rcases Nat.lt_or_ge t F.length with hlt|hge
    · have h1:F[t]?=some (F.getD t .any):=by simp [List.getD,List.getElem?_eq_getElem hlt]
      have h2:a.tmps[t]?=some (a.tmps.getD t undef):=by
        have:t<a.tmps.size:=by rw [h.len];exact hlt
        simp [Array.getElem?_eq_getElem this]
      exact (h.slot t _ _ h1 h2).rep
    · have:F.getD t .any= .any:=by simp [List.getD,List.getElem?_eq_none hge]
      rw [this]
      exact .any _
  |const v=>simp only [rv,ev,Act.eval,Y4];exact (y4 (o:= .outer) hx).rep
  |global g=>exact .ptr g 0
  |func f=>exact .fn f [] #[] rfl rfl (fun j d v hd=>by simp at hd)
theorem St.ops {K:Nat→BK} {w:World} {F:List D} {H:AH} {a:Act} (h:St K w F H a.tmps) {xs:Array Operand} (hx:xs.all jL=true):∀x∈xs.toList,RepV K w (rv F x) (a.eval x):=
  fun x hm=>h.rep ((Array.all_eq_true'.1 hx) x (by simpa using hm))
theorem getElem?_set_some {F:List D} {i j:Nat} {d d':D} (h:(F.set i d)[j]?=some d'):(i=j∧d'=d∧i<F.length)∨(i≠j∧F[j]?=some d'):=by
  rw [List.getElem?_set] at h
  split at h
  · rename_i e
    split at h
    · rename_i hl
      simp only [Option.some.injEq] at h
      exact .inl ⟨e,h.symm,hl⟩
    · cases h
  · rename_i e;exact .inr ⟨e,h⟩
theorem St.put {E:Who→Prop} {B:Nat→Prop} {K K':Nat→BK} {w w':World} {F:List D} {H H':AH} {a:Act} (h:St K w F H a.tmps) (hk:Keep E B K w K' w') (hE:∀i j,¬E (.slot i j)) (hk':KRel K' w') (hh':HRel K' w' H')
    (dst:Option Tmp) {d:D} {v:Value} (hr:∀i,dst=some i→RepO K' w' i d v):St K' w' (qG F dst d) H' (a.put dst v).tmps:=by
  cases dst with
  |none=>exact ⟨hk',hh',h.len,fun i d v hd hv=>(h.slot i d v hd hv).keep hk (hE i)⟩
  | some t=>
    refine ⟨hk',hh',by simpa [Act.put,qG] using h.len,fun i d' u hd hu=>?_⟩
    simp only [Act.put] at hu
    rcases getElem?_set_some hd with ⟨rfl,rfl,hl⟩|⟨hne,hd⟩
    · rw [Array.getElem?_setIfInBounds_self_of_lt (by rw [h.len];exact hl)] at hu
      obtain rfl:=Option.some.inj hu
      exact hr t rfl
    · rw [Array.getElem?_setIfInBounds_ne hne] at hu
      exact (h.slot i d' u hd hu).keep hk (hE i)
def relab (φ:Who→Who) (K:Nat→BK):Nat→BK:=fun b=>match K b with
  | .tok n o=>.tok n (φ o)
  |x=>x
structure Nice (φ:Who→Who):Prop where
  cell:∀b j,φ (.cell b j)= .cell b j
  outer:φ .outer= .outer
theorem relab_imm {φ:Who→Who} {K:Nat→BK} {b:Nat}:relab φ K b= .imm↔K b= .imm:=by unfold relab;split<;>simp_all
theorem relab_priv {φ:Who→Who} {K:Nat→BK} {b:Nat}:relab φ K b= .priv↔K b= .priv:=by unfold relab;split<;>simp_all
theorem qR {φ:Who→Who} {K:Nat→BK} {b n:Nat} {o:Who} (h:K b= .tok n o):relab φ K b= .tok n (φ o):=by simp [relab,h]
theorem ym {φ:Who→Who} {K:Nat→BK} {b n:Nat} {o:Who} (h:relab φ K b= .tok n o):∃o',K b= .tok n o'∧φ o'=o:=by
  unfold relab at h
  split at h
  · rename_i n' o' hb;injection h with h1 h2;subst h1;exact ⟨o',hb,h2⟩
  · rename_i x hx;exact (hx n o h).elim
theorem qC (φ:Who→Who) (K:Nat→BK) (w:World):ExtV K w (relab φ K) w:=
  ⟨rfl,rfl,⟨rfl,Nat.le_refl _⟩,Nat.le_refl _,fun b _ h=>⟨relab_imm.2 h,rfl⟩,fun b n o h _=>⟨n,φ o,qR h,Nat.le_refl _,fun _ _=>rfl⟩,fun b h=>.inl (relab_priv.2 h)⟩
theorem jE {φ:Who→Who} {K:Nat→BK} {w:World} (h:KRel K w):KRel (relab φ K) w:=fun b hb=>relab_imm.2 (h b hb)
theorem zB {φ:Who→Who} {K:Nat→BK} {w:World} {o:Who} {xs:List (List D)} {v:Value} (h:OwnAt K w o xs v):OwnAt (relab φ K) w (φ o) xs v:=by
  rcases h with h|⟨b,cap,sz,c,T,hv,hk,hh,hcs,hp,hl,hm,hb,hs,hrep⟩
  · exact .inl h
  · refine .inr ⟨b,cap,sz,c,T,hv,qR hk,hh,hcs,hp,hl,hm,hb,hs,fun i x hi j d hj=>?_⟩
    obtain ⟨u,e1,e2,e3⟩:=hrep i x hi j d hj
    exact ⟨u,e1,e2,e3.mono (qC φ K w)⟩
theorem Qh {φ:Who→Who} {K:Nat→BK} {w:World} {o:Who} {d:D} {v:Value} (h:RepC K w o d v):RepC (relab φ K) w (φ o) d v:=by
  cases d<;>first|exact zB h|exact RepV.mono (qC φ K w) h
theorem yw {φ:Who→Who} (hn:Nice φ) {K:Nat→BK} {w:World} {H:AH} (h:HRel K w H):HRel (relab φ K) w H:=by
  refine ⟨h.nd,fun b o ho=>?_⟩
  have:=h.ok b o ho
  cases o with
  | cells cs=>
    obtain ⟨hk,c,T,hh,hc,hr⟩:=this
    refine ⟨relab_priv.2 hk,c,T,hh,hc,fun j d hd=>?_⟩
    obtain ⟨u,e1,e2,e3⟩:=hr j d hd
    have:=Qh (φ:=φ) e3
    rw [hn.cell] at this
    exact ⟨u,e1,e2,this⟩
  | room cap xs=>
    have h2:=zB (φ:=φ) this.2
    rw [hn.cell] at h2
    exact ⟨this.1,h2⟩
  |mp es=>exact ⟨relab_priv.2 this.1,this.2.ext (qC φ K w) rfl⟩
  | lp J pre=>
    have hc:∀c n j,K c= .tok n (.cell b j)→relab φ K c= .tok n (.cell b j):=fun c n j h=>by rw [qR h,hn.cell]
    obtain ⟨⟨n,j,h1⟩,h2,h3⟩:=this
    exact ⟨⟨n,j,hc _ _ _ h1⟩,h3 pre K w _ w h2 fun c n j h=>⟨hc c n j h,rfl⟩,h3⟩
theorem gU {φ:Who→Who} {K:Nat→BK} {w:World} {i i':Nat} (hi:∀j,φ (.slot i j)= .slot i' j) {d:D} {v:Value} (h:RepO K w i d v):RepO (relab φ K) w i' d v:=by
  cases d<;>first
    | (have:=zB (φ:=φ) h
       rw [hi] at this
       exact this)
    |exact RepV.mono (qC φ K w) h
    | (obtain ⟨vs,hv,hl,hh⟩:=h
       refine ⟨vs,hv,hl,fun j d u hd hu=>?_⟩
       have:=Qh (φ:=φ) (hh j d u hd hu)
       rw [hi] at this
       exact this)
section
variable {P:Program} {w:World}
theorem oT (t u ty e:TypeId) (i:TypeInfo) (ht:P.underlying t=some (.slice e)) (hu:(P.underlying u).isSome=true) (hun:∀k,P.underlying u≠some (.int k)) (hi:P.info? e=some i)
    (x:Value) (m:Nat) (news:List Value) (hlen:∀w',(Builtin.lenOf x).run P w'= .ok m w') (hl:news.length=m*i.size) (hfc:(Builtin.firstCells i.size m x).run P w= .ok news.toArray w) (h1:∀v∈news,v.oneCell'=true)
    (g len cap:Nat) (cur:Array Value) (T:TypeId) (hg:w.heap[g]?=some (.cells cur T (0,0))) (hroom:len+m≤cap) (hfit:len*i.size+news.length≤cur.size):
    (Builtin.append_ #[t,u] ty #[.slice (some ⟨g,0,none⟩) len cap,x]).run P w= .ok (.slice (some ⟨g,0,none⟩) (len+m) cap) (w.setRow g (cur.toList.take (len*i.size)++news++cur.toList.drop (len*i.size+news.length)).toArray):=by
  obtain ⟨du,hdu⟩:=Option.isSome_iff_exists.1 hu
  have hst:=run_storeCells_at P g (len*i.size) T news 0 cur w hg (by simpa using hfit) h1
  simp only [Nat.add_zero] at hst
  cases du<;>first|exact (hun _ hdu).elim|skip
  all_goals simp only [Builtin.append_,List.getElem?_toArray,List.getElem?_cons_zero,List.getElem?_cons_succ,Sem.run_bind,run_underlying ht,Result.andThen_ok,sizeOf,typeInfo,run_program,hi,Sem.run_pure,run_underlying hdu,Bool.false_eq_true,if_false,hlen,hroom,if_true,Bool.not_false,hfc,Addr.add_lit,Nat.zero_add,hst]
theorem vU (t u ty e:TypeId) (i:TypeInfo) (z:Value) (ht:P.underlying t=some (.slice e)) (hu:(P.underlying u).isSome=true) (hun:∀k,P.underlying u≠some (.int k)) (hi:P.info? e=some i) (hz0:i.zero=some z)
    (x:Value) (m:Nat) (news:List Value) (hlen:∀w',(Builtin.lenOf x).run P w'= .ok m w') (hfc:(Builtin.firstCells i.size m x).run P w.drew= .ok news.toArray w.drew)
    (a:Option Addr) (len cap:Nat) (olds:List Value) (hfo:(Builtin.firstCells i.size len (.slice a len cap)).run P w.drew= .ok olds.toArray w.drew) (hgrow:cap<len+m) (hb:(len+m)*i.bytes≤140737488355328) (hbp:0<i.bytes):
    (Builtin.append_ #[t,u] ty #[.slice a len cap,x]).run P w= .ok (.slice (some ⟨w.heap.size,0,none⟩) (len+m) (grownCap w (len+m) cap e))
      (w.drew.alloc (.cells (olds.toArray++news.toArray++Builtin.zeroCells z.cells (grownCap w (len+m) cap e - (len+m))) e)):=by
  obtain ⟨du,hdu⟩:=Option.isSome_iff_exists.1 hu
  have hn:¬(len+m≤cap):=by omega
  have hfit:=growslice_fits hgrow hb
  have h48:¬(Builtin.nextslicecap (len+m) cap*i.bytes>2 ^ 48):=by omega
  have hle:len+m≤(len+m)*i.bytes:=Nat.le_mul_of_pos_right _ hbp
  have h63:¬(((len+m:Nat):Int)>IntKind.i64.max∧((false=true)∨i.bytes=0)):=by
    rintro ⟨_,h|h⟩
    · cases h
    · omega
  cases du<;>first|exact (hun _ hdu).elim|skip
  all_goals
   simp only [Builtin.append_,List.getElem?_toArray,List.getElem?_cons_zero,List.getElem?_cons_succ,Sem.run_bind,run_underlying ht,Result.andThen_ok,sizeOf,typeInfo,run_program,hi,Sem.run_pure,run_underlying hdu,Bool.false_eq_true,if_false,hlen,hn,Bool.not_false,if_true]
   simp only [Sem.run_ite,Sem.run_bind,run_program,Result.andThen_ok,hi,Sem.run_pure,h48,if_false]
   rw [if_neg (by simpa using h63)]
   simp [Question.forced,hfo,hfc,zeroValue,typeInfo,hi,hz0,newRow,grownCap]
   congr 2
   apply Array.ext'
   simp [List.append_assoc]
theorem zN (t u ty e:TypeId) (i:TypeInfo) (ht:P.underlying t=some (.slice e)) (hu:(P.underlying u).isSome=true) (hun:∀k,P.underlying u≠some (.int k)) (hi:P.info? e=some i)
    (x:Value) (hlen:∀w',(Builtin.lenOf x).run P w'= .ok 0 w') (hfc:(Builtin.firstCells i.size 0 x).run P w= .ok #[] w) (a:Option Addr):
    (Builtin.append_ #[t,u] ty #[.slice a 0 0,x]).run P w= .ok (.slice a 0 0) w:=by
  obtain ⟨du,hdu⟩:=Option.isSome_iff_exists.1 hu
  cases du<;>first|exact (hun _ hdu).elim|skip
  all_goals
   simp only [Builtin.append_,List.getElem?_toArray,List.getElem?_cons_zero,List.getElem?_cons_succ,Sem.run_bind,run_underlying ht,Result.andThen_ok,sizeOf,typeInfo,run_program,hi,Sem.run_pure,run_underlying hdu,Bool.false_eq_true,if_false,hlen,Nat.add_zero,Nat.le_refl,Bool.not_false,if_true,hfc]
   cases a<;>simp [storeCells]
end
def UC (P:Program) (u:TypeId):Bool:=match P.underlying u with|some (.int _)=>true|_=>false
def Ke (P:Program) (t u:TypeId):Option (TypeId×Nat×Nat):=
  match kY P t with
  | some (e,sz)=>match P.info? e with
    |some i=>if (yK P e).isSome∧0<i.bytes∧(P.underlying u).isSome∧UC P u=false then some (e,sz,i.bytes) else none
    |none=>none
  |none=>none
theorem zd {P:Program} {t u e:TypeId} {sz by_:Nat} (h:Ke P t u=some (e,sz,by_)):kY P t=some (e,sz)∧∃i zc,P.info? e=some i∧i.size=sz∧i.bytes=by_∧yK P e=some zc∧0<by_∧(P.underlying u).isSome=true∧∀k,P.underlying u≠some (.int k):=by
  unfold Ke at h
  split at h
  · rename_i e' sz' hs
    split at h
    · rename_i i hi
      split at h
      · rename_i hc
        simp only [Option.some.injEq,Prod.mk.injEq] at h
        obtain ⟨rfl,rfl,rfl⟩:=h
        obtain ⟨_,_,i',hi',his⟩:=ju hs
        rw [hi] at hi'
        obtain rfl:=Option.some.inj hi'
        obtain ⟨zc,hz⟩:=Option.isSome_iff_exists.1 hc.1
        refine ⟨hs,i,zc,hi,his,rfl,hz,hc.2.1,hc.2.2.1,fun k hk=>?_⟩
        have:=hc.2.2.2
        simp [UC,hk] at this
      · cases h
    · cases h
  · cases h
def Src (P:Program) (w:World) (K:Nat→BK) (sz:Nat) (ys:List (List D)) (x:Value):Prop:=
  ∃ news:List Value,(∀w',(Builtin.lenOf x).run P w'= .ok ys.length w')∧news.length=ys.length*sz∧(∀w',w'.heap=w.heap→(Builtin.firstCells sz ys.length x).run P w'= .ok news.toArray w')∧
    (∀(i:Nat) (y:List D),ys[i]?=some y→y.length=sz)∧(∀v∈news,v.oneCell'=true)∧
    ∀(i:Nat) (y:List D),ys[i]?=some y→∀(j:Nat) (d:D),y[j]?=some d→∃u,news[i*sz+j]?=some u∧RepV K w d u
theorem ou {P:Program} {w:World} {K:Nat→BK} {sz:Nat} {ys:List (List D)} {x:Value} (hr:RepV K w (.slc ys) x) (hs:∀y∈ys,y.length=sz) (hpos:0<sz):Src P w K sz ys x:=by
  have hs':∀(i:Nat) (y:List D),ys[i]?=some y→y.length=sz:=fun i y hi=>hs y (List.mem_of_getElem? hi)
  rcases hr.slc_inv with ⟨rfl,a,rfl⟩|⟨b,off,cap,sz',f,rfl,hc,hm,hsz,hv,hcell,hone,hrep⟩
  · refine ⟨[],fun w'=>by simp [Builtin.lenOf],by simp,fun w' _=>?_,by simp,by simp,by simp⟩
    cases a<;>simp [Builtin.firstCells,loadCells,loadCellsFrom]
  · have hq:∀q,q<ys.length*sz→∃y d,ys[q / sz]?=some y∧y[q % sz]?=some d:=fun q hq=>by
      have h1:q / sz<ys.length:=Nat.div_lt_of_lt_mul (by rw [Nat.mul_comm];exact hq)
      have h2:q % sz<sz:=Nat.mod_lt _ hpos
      have h3:=List.getElem?_eq_getElem h1
      have h4:=hs' _ _ h3
      exact ⟨_,_,h3,List.getElem?_eq_getElem (by rw [h4];exact h2)⟩
    have hszz:0<ys.length→sz'=sz:=fun h0=>by
      have h3:=List.getElem?_eq_getElem h0
      rw [←hsz _ _ h3,hs' _ _ h3]
    refine ⟨(List.range (ys.length*sz)).map fun q=>f (q / sz) (q % sz),fun w'=>by simp [Builtin.lenOf],by simp,fun w' hw=>?_,hs',fun v hv=>?_,fun i y hi j d hj=>?_⟩
    · have h:=run_loadCells (P:=P) w' ⟨b,off,none⟩ (ys.length*sz) (fun q=>f (q / sz) (q % sz)) (fun q hq'=>by
        obtain ⟨y,d,h1,h2⟩:=hq q hq'
        have hp:0<ys.length:=by
          exact Nat.lt_of_le_of_lt (Nat.zero_le _) (List.getElem?_eq_some_iff.1 h1).1
        have e:=hszz hp
        subst e
        have:=hcell _ y h1 _ d h2
        rw [Addr.add_lit]
        have hw':∀a,w'.cell? a=w.cell? a:=fun a=>by simp [World.cell?,hw]
        rw [hw',←this]
        congr 2
        have:=Nat.div_add_mod q sz'
        rw [Nat.mul_comm] at this
        omega)
      simpa [Builtin.firstCells] using h
    · rw [List.mem_map] at hv
      obtain ⟨q,hq',rfl⟩:=hv
      obtain ⟨y,d,h1,h2⟩:=hq q (by simpa using hq')
      exact hone _ y h1 _ d h2
    · have hlt:=JF hi (hs' i y hi) hj
      have hjs:j<sz:=by rw [←hs' i y hi];exact (List.getElem?_eq_some_iff.1 hj).1
      have e1:(i*sz+j) / sz=i:=by
        rw [Nat.mul_comm,Nat.mul_add_div hpos,Nat.div_eq_of_lt hjs,Nat.add_zero]
      have e2:(i*sz+j) % sz=j:=by rw [Nat.mul_comm,Nat.mul_add_mod,Nat.mod_eq_of_lt hjs]
      refine ⟨f i j,?_,hrep i y hi j d hj⟩
      rw [List.getElem?_map,List.getElem?_range hlt]
      simp [e1,e2]
theorem Wd {P:Program} {w:World} {K:Nat→BK} {l:List UInt8} {x:Value} (hr:RepV K w (.str l) x):Src P w K 1 (l.map qA) x:=by
  obtain ⟨rfl,hb⟩:=hr.str_inv
  have hsz:(⟨⟨l⟩⟩:ByteArray).size=l.length:=rfl
  refine ⟨l.map fun b=>.int .u8 b.toNat,fun w'=>by simp [Builtin.lenOf,hsz],by simp,fun w' _=>?_,fun i y hi=>?_,fun v hv=>?_,fun i y hi j d hj=>?_⟩
  · have:(⟨⟨l⟩⟩:ByteArray).extract 0 l.length=⟨⟨l⟩⟩:=by
      apply ByteArray.ext
      rw [ByteArray.data_extract]
      apply Array.ext'
      simp
    simp [Builtin.firstCells,this]
  · rw [List.getElem?_map,Option.map_eq_some_iff] at hi
    obtain ⟨c,_,rfl⟩:=hi
    rfl
  · rw [List.mem_map] at hv
    obtain ⟨c,_,rfl⟩:=hv
    rfl
  · rw [List.getElem?_map,Option.map_eq_some_iff] at hi
    obtain ⟨c,hc,rfl⟩:=hi
    cases j with
    | zero=>
      simp only [qA,List.getElem?_cons_zero,Option.some.injEq] at hj
      subst hj
      refine ⟨.int .u8 c.toNat,by simp [hc],.int _ _ ?_⟩
      have:=c.toNat_lt
      exact WalkArith.wf_u8 (by omega)
    |succ j=>simp [qA] at hj
theorem VM {P:Program} {K:Nat→BK} {w:World} {H:AH} (hk:KRel K w) (hh:HRel K w H) {t u ty e:TypeId} {sz by_:Nat} (hap:Ke P t u=some (e,sz,by_)) {s d:Who} (hsc:∀b j,s≠ .cell b j) (hso:s≠ .outer) (hdo:d≠ .outer)
    {xs ys:List (List D)} {v x:Value} (ho:OwnAt K w s xs v) (hxs:∀y∈xs,y.length=sz) (hsrc:Src P w K sz ys x) (hb:(xs.length+ys.length)*by_≤140737488355328):
    ∃r K' w',(Builtin.append_ #[t,u] ty #[v,x]).run P w= .ok r w'∧Keep (fun o=>o=s) noB K w K' w'∧KRel K' w'∧HRel K' w' H∧OwnAt K' w' d (xs++ys) r:=by
  obtain ⟨hsl,i,zc,hi,his,hib,hz,hbp,hus,hun⟩:=zd hap
  obtain ⟨hu,hpos,_,_,_⟩:=ju hsl
  obtain ⟨i',z,hi',hz0,z1,z2,z3,z4⟩:=y7 hz
  rw [hi] at hi'
  obtain rfl:=Option.some.inj hi'
  obtain ⟨news,s1,s2,s3,s4,s5,s6⟩:=hsrc
  subst his hib
  have hlb:xs.length+ys.length≤(xs.length+ys.length)*i.bytes:=Nat.le_mul_of_pos_right _ hbp
  have hkeepH:∀{K':Nat→BK} {w':World},Keep (fun o=>o=s) noB K w K' w'→HRel K' w' H:=fun h=>hh.keep h (fun b o _=>⟨fun h=>h,fun j e=>hsc b j e.symm⟩)
  have hsall:∀(i':Nat) (y:List D),(xs++ys)[i']?=some y→y.length=i.size:=fun q y hq=>by
    rcases List.mem_append.1 (List.mem_of_getElem? hq) with h|h
    · exact hxs y h
    · obtain ⟨q',hq',he⟩:=List.mem_iff_getElem.1 h
      exact s4 q' y (by rw [List.getElem?_eq_getElem hq',he])
  -- a new block
  have grow:∀(a:Option Addr) (cap:Nat) (olds:List Value),v= .slice a xs.length cap→cap<xs.length+ys.length→olds.length=xs.length*i.size→(Builtin.firstCells i.size xs.length (.slice a xs.length cap)).run P w.drew= .ok olds.toArray w.drew→
      (∀(q:Nat) (y:List D),xs[q]?=some y→∀(j:Nat) (d:D),y[j]?=some d→∃u,olds[q*i.size+j]?=some u∧u.oneCell'=true∧RepV K w d u)→
      ∃r K' w',(Builtin.append_ #[t,u] ty #[v,x]).run P w= .ok r w'∧Keep (fun o=>o=s) noB K w K' w'∧KRel K' w'∧HRel K' w' H∧OwnAt K' w' d (xs++ys) r:=by
    intro a cap olds hv hgr hol hfo hor
    subst hv
    have hrun:=vU (P:=P) (w:=w) t u ty e i z hu hus hun hi hz0 x ys.length news s1 (s3 w.drew rfl) a xs.length cap olds hfo hgr hb hbp
    have hge:=grownCap_ge w (xs.length+ys.length) cap e
    have hle:=grownCap_le_maxLen w (xs.length+ys.length) cap e (by unfold maxLen;omega)
    generalize grownCap w (xs.length+ys.length) cap e=nc at hrun hge hle
    obtain ⟨hp,hk'⟩:=yQ (K:=K) (w:=w.drew) hk (.cells (olds.toArray++news.toArray++Builtin.zeroCells z.cells (nc - (xs.length+ys.length))) e) (x:= .tok ((xs.length+ys.length)*i.size) d) (by intro n h;injection h with _ h;exact hdo h)
    have hp':Pres K w (Qg K w.heap.size (.tok ((xs.length+ys.length)*i.size) d)) (w.drew.alloc (.cells (olds.toArray++news.toArray++Builtin.zeroCells z.cells (nc - (xs.length+ys.length))) e)):=⟨hp.os,hp.tape,⟨hp.output.1,Nat.le_trans (Nat.le_succ _) hp.output.2⟩,hp.size,hp.old,hp.new⟩
    have hkp:=hp'.keep hk
    have hkp':Keep (fun o=>o=s) noB K w _ _:=⟨hkp.ext,fun b n o h1 _=>hkp.own b n o h1 (fun h=>h),hkp.new,hkp.box⟩
    refine ⟨_,_,_,hrun,hkp',hk',hkeepH hkp',.inr ⟨w.heap.size,nc,i.size,_,e,by simp,?_,heap_alloc_new w.drew _,?_,by simp;omega,by simpa using hge,hle,?_,hsall,fun q y hq j dd hj=>?_⟩⟩
    · rw [List.length_append];exact jR _ _ _
    · simp only [Array.size_append,List.size_toArray,size_zeroCells,z1,hol,s2,←z2,←Nat.add_mul]
      congr 1
      omega
    · rw [List.length_append];unfold big;omega
    · have hjl:j<i.size:=by rw [←hsall q y hq];exact (List.getElem?_eq_some_iff.1 hj).1
      rw [List.getElem?_append] at hq
      split at hq
      · rename_i hlt
        obtain ⟨uu,e1,e2,e3⟩:=hor q y hq j dd hj
        refine ⟨uu,?_,e2,e3.mono hkp.ext⟩
        have hlt2:q*i.size+j<olds.length:=(List.getElem?_eq_some_iff.1 e1).1
        rw [Array.getElem?_append_left (by simp;omega),Array.getElem?_append_left (by simpa using hlt2)]
        simpa using e1
      · rename_i hge'
        obtain ⟨uu,e1,e3⟩:=s6 _ y hq j dd hj
        refine ⟨uu,?_,s5 _ (List.mem_of_getElem? e1),e3.mono hkp.ext⟩
        have hlt2:=(List.getElem?_eq_some_iff.1 e1).1
        have hsub:(q - xs.length)*i.size=q*i.size - xs.length*i.size:=Nat.sub_mul _ _ _
        have hmul:xs.length*i.size≤q*i.size:=Nat.mul_le_mul_right _ (by omega)
        rw [Array.getElem?_append_left (by simp;omega),Array.getElem?_append_right (by simp;omega)]
        rw [←e1]
        simp only [List.size_toArray,List.getElem?_toArray]
        congr 1
        omega
  rcases ho with ⟨rfl,a,rfl⟩|⟨b,cap,sz',c,T,rfl,hkb,hhb,hcs,hp,hl,hm,hbg,hs,hrep⟩
  · by_cases hy:ys.length=0
    · have hyn:ys= []:=List.eq_nil_of_length_eq_zero hy
      subst hyn
      have hn:news= []:=List.eq_nil_of_length_eq_zero (by simpa using s2)
      subst hn
      have hrun:=zN (P:=P) (w:=w) t u ty e i hu hus hun hi x s1 (s3 w rfl) a
      have hkp:=(Pres.refl K w).keep hk
      exact ⟨_,K,w,hrun,⟨hkp.ext,fun b n o h1 _=>hkp.own b n o h1 (fun h=>h),hkp.new,hkp.box⟩,hk,hh,.inl ⟨rfl,a,rfl⟩⟩
    · exact grow a 0 [] rfl (by simp;omega) (by simp) (by cases a<;>simp [Builtin.firstCells,loadCells,loadCellsFrom]) (by simp)
  · have h3:=List.getElem?_eq_getElem hp
    have hszz:sz'=i.size:=by rw [←hs _ _ h3,hxs _ (List.mem_of_getElem? h3)]
    subst hszz
    have holdc:∀(q:Nat),q<xs.length*i.size→∃uu,c[q]?=some uu∧uu.oneCell'=true:=fun q hq=>by
      have hlt:q<c.size:=by
        have:xs.length*i.size≤cap*i.size:=Nat.mul_le_mul_right _ hl
        omega
      have h1:q / i.size<xs.length:=Nat.div_lt_of_lt_mul (by rw [Nat.mul_comm];exact hq)
      have h4:=List.getElem?_eq_getElem h1
      have h5:q % i.size<xs[q / i.size].length:=by rw [hs _ _ h4];exact Nat.mod_lt _ hpos
      obtain ⟨uu,e1,e2,_⟩:=hrep _ _ h4 _ _ (List.getElem?_eq_getElem h5)
      have:=Nat.div_add_mod q i.size
      rw [Nat.mul_comm] at this
      rw [this] at e1
      exact ⟨uu,e1,e2⟩
    by_cases hroom:xs.length+ys.length≤cap
    · have hcap:(xs.length+ys.length)*i.size≤cap*i.size:=Nat.mul_le_mul_right _ hroom
      rw [Nat.add_mul] at hcap
      have hfit:xs.length*i.size+news.length≤c.size:=by rw [s2,hcs];exact hcap
      have hrun:=oT (P:=P) (w:=w) t u ty e i hu hus hun hi x ys.length news s1 s2 (s3 w rfl) s5 b xs.length cap c T hhb hroom hfit
      generalize hcc:(c.toList.take (xs.length*i.size)++news++c.toList.drop (xs.length*i.size+news.length)).toArray=c' at hrun
      have hcs':c'.size=cap*i.size:=by
        rw [←hcc,←hcs]
        simp only [List.size_toArray,List.length_append,List.length_take,List.length_drop,Array.length_toList]
        omega
      have hold:∀q,q<xs.length*i.size→c'[q]?=c[q]?:=fun q hq=>by
        rw [←hcc]
        simp only [List.getElem?_toArray]
        rw [List.append_assoc,List.getElem?_append_left (by simp;omega),List.getElem?_take,if_pos hq]
        simp
      have hnew:∀q,q<news.length→c'[xs.length*i.size+q]?=news[q]?:=fun q hq=>by
        rw [←hcc]
        simp only [List.getElem?_toArray]
        have hl1:(c.toList.take (xs.length*i.size)).length=xs.length*i.size:=by simp;omega
        rw [List.append_assoc,List.getElem?_append_right (by rw [hl1];omega),List.getElem?_append_left (by rw [hl1];omega),hl1]
        congr 1
        omega
      have hblt:b<w.heap.size:=(Array.getElem?_eq_some_iff.1 hhb).1
      have hsame:=setRow_heap w b c c' T (0,0) hhb
      have hoth:∀b',b'≠b→(w.setRow b c').heap[b']?=w.heap[b']?:=fun b' h=>setRow_other w b b' c' h
      have hkp:Keep (fun o=>o=s) noB K w (Qg K b (.tok ((xs.length+ys.length)*i.size) d)) (w.setRow b c'):=by
        refine ⟨⟨rfl,rfl,⟨rfl,Nat.le_refl _⟩,by simp,fun b' hb' hi'=>?_,fun b' n o hb' _=>?_,fun b' hb'=>?_⟩,fun b' n o hb' hne=>?_,fun b' n hb'=>?_,fun b' hb' _=>?_⟩
        · have hne:b'≠b:=fun e=>by subst e;rw [hkb] at hi';cases hi'
          exact ⟨by rw [jh _ _ hne];exact hi',hoth b' hne⟩
        · by_cases hbb:b'=b
          · subst hbb
            rw [hkb] at hb'
            injection hb' with hn1 hn2
            subst hn1
            refine ⟨_,d,jR _ _ _,Nat.mul_le_mul_right _ (Nat.le_add_right _ _),fun j hj=>?_⟩
            rw [kO hsame,kO hhb,hold j hj]
          · exact ⟨n,o,by rw [jh _ _ hbb];exact hb',Nat.le_refl _,fun j _=>j3 (hoth b' hbb) j⟩
        · have hne:b'≠b:=fun e=>by subst e;rw [hkb] at hb';cases hb'
          exact .inl (by rw [jh _ _ hne];exact hb')
        · have hbb:b'≠b:=fun e=>by
            subst e
            rw [hkb] at hb'
            injection hb' with _ h2
            exact hne h2.symm
          exact ⟨by rw [jh _ _ hbb];exact hb',hoth b' hbb⟩
        · by_cases hbb:b'=b
          · subst hbb
            rw [jR] at hb'
            injection hb' with _ h2
            exact (hdo h2).elim
          · rwa [jh _ _ hbb] at hb'
        · have hne:b'≠b:=fun e=>by subst e;rw [hkb] at hb';cases hb'
          exact ⟨by rw [jh _ _ hne];exact hb',hoth b' hne⟩
      refine ⟨_,_,_,hrun,hkp,fun b' hb'=>?_,hkeepH hkp,.inr ⟨b,cap,i.size,c',T,by simp,?_,hsame,hcs',by simp;omega,by simpa using hroom,hm,?_,hsall,fun q y hq j dd hj=>?_⟩⟩
      · have hlt':w.heap.size≤b':=by simpa using hb'
        rw [jh _ _ (by omega)]
        exact hk b' hlt'
      · rw [List.length_append];exact jR _ _ _
      · rw [List.length_append];unfold big;omega
      · have hjl:j<i.size:=by rw [←hsall q y hq];exact (List.getElem?_eq_some_iff.1 hj).1
        rw [List.getElem?_append] at hq
        split at hq
        · rename_i hlt
          obtain ⟨uu,e1,e2,e3⟩:=hrep q y hq j dd hj
          refine ⟨uu,?_,e2,e3.mono hkp.ext⟩
          have hqq:q*i.size+j<xs.length*i.size:=by
            have:(q+1)*i.size≤xs.length*i.size:=Nat.mul_le_mul_right _ hlt
            rw [Nat.add_mul] at this
            omega
          rw [hold _ hqq]
          exact e1
        · rename_i hge'
          obtain ⟨uu,e1,e3⟩:=s6 _ y hq j dd hj
          refine ⟨uu,?_,s5 _ (List.mem_of_getElem? e1),e3.mono hkp.ext⟩
          have hlt2:=(List.getElem?_eq_some_iff.1 e1).1
          have hsub:(q - xs.length)*i.size=q*i.size - xs.length*i.size:=Nat.sub_mul _ _ _
          have hmul:xs.length*i.size≤q*i.size:=Nat.mul_le_mul_right _ (by omega)
          have hidx:q*i.size+j=xs.length*i.size+((q - xs.length)*i.size+j):=by omega
          rw [hidx,hnew _ hlt2]
          exact e1
    · refine grow (some ⟨b,0,none⟩) cap (c.toList.take (xs.length*i.size)) rfl (by omega) ?_ ?_ ?_
      · have:xs.length*i.size≤cap*i.size:=Nat.mul_le_mul_right _ hl
        simp;omega
      · have hlen:(c.toList.take (xs.length*i.size)).length=xs.length*i.size:=by
          have:xs.length*i.size≤cap*i.size:=Nat.mul_le_mul_right _ hl
          simp;omega
        exact run_firstCells_some (P:=P) w.drew i.size xs.length ⟨b,0,none⟩ xs.length cap _ hlen (fun j v hv=>by
          rw [Addr.add_lit,Nat.zero_add]
          have:w.drew.cell? ⟨b,j,none⟩=w.cell? ⟨b,j,none⟩:=rfl
          rw [this,kO hhb]
          rw [List.getElem?_take] at hv
          split at hv
          · simpa using hv
          · cases hv)
      · intro q y hq j dd hj
        obtain ⟨uu,e1,e2,e3⟩:=hrep q y hq j dd hj
        refine ⟨uu,?_,e2,e3⟩
        have hqq:=JF hq (hs q y hq) hj
        rw [List.getElem?_take,if_pos hqq]
        simpa using e1
end Go.Aw
end
section
namespace Go.Aw
open Go Go.RowKit
section
variable {K K':Nat→BK} {w:World}
theorem OwnAt.conv {o o':Who} (h:ExtV K w K' w) (ho:∀b n,K b= .tok n o→K' b= .tok n o') {xs:List (List D)} {v:Value} (hr:OwnAt K w o xs v):OwnAt K' w o' xs v:=by
  rcases hr with hr|⟨b,cap,sz,c,T,hv,hk,hh,hcs,hp,hl,hm,hb,hs,hrep⟩
  · exact .inl hr
  · refine .inr ⟨b,cap,sz,c,T,hv,ho b _ hk,hh,hcs,hp,hl,hm,hb,hs,fun i x hi j d hj=>?_⟩
    obtain ⟨u,e1,e2,e3⟩:=hrep i x hi j d hj
    exact ⟨u,e1,e2,e3.mono h⟩
theorem RepC.conv {o o':Who} (h:ExtV K w K' w) (ho:∀b n,K b= .tok n o→K' b= .tok n o') {d:D} {v:Value} (hr:RepC K w o d v):RepC K' w o' d v:=by
  cases d<;>first|exact OwnAt.conv h ho hr|exact RepV.mono h hr
theorem RepO.conv {i i':Nat} (h:ExtV K w K' w) (ho:∀b n j,K b= .tok n (.slot i j)→K' b= .tok n (.slot i' j)) {d:D} {v:Value} (hr:RepO K w i d v):RepO K' w i' d v:=by
  cases d<;>first
    |exact OwnAt.conv h (fun b n hb=>ho b n 0 hb) hr
    |exact RepV.mono h hr
    | (obtain ⟨vs,hv,hl,hh⟩:=hr
       exact ⟨vs,hv,hl,fun j d u hd hu=>(hh j d u hd hu).conv h (fun b n hb=>ho b n _ hb)⟩)
theorem HRel.conv {H:AH} (h:ExtV K w K' w) (hp:∀b,K b= .priv→K' b= .priv) (ho:∀b n c j,K b= .tok n (.cell c j)→K' b= .tok n (.cell c j)) (hr:HRel K w H):HRel K' w H:=by
  refine ⟨hr.nd,fun b o hbo=>?_⟩
  have:=hr.ok b o hbo
  cases o with
  | cells cs=>
    obtain ⟨hk,c,T,hh,hc,hh2⟩:=this
    refine ⟨hp b hk,c,T,hh,hc,fun j d hd=>?_⟩
    obtain ⟨u,e1,e2,e3⟩:=hh2 j d hd
    exact ⟨u,e1,e2,e3.conv h (fun b' n hb'=>ho b' n b j hb')⟩
  |room cap xs=>exact ⟨this.1,this.2.conv h (fun b' n hb'=>ho b' n b 0 hb')⟩
  |mp es=>exact ⟨hp b this.1,this.2.ext h rfl⟩
  | lp J pre=>
    obtain ⟨⟨n,j,h1⟩,h2,h3⟩:=this
    exact ⟨⟨n,j,ho _ _ _ _ h1⟩,h3 pre K w _ w h2 fun c n j h=>⟨ho _ _ _ _ h,rfl⟩,h3⟩
end
def ZM (K:Nat→BK):Prop:=∀b n i j,K b≠ .tok n (.slot i j)
def wR (P:Program) (f:FuncId):Bool:=match P.funcs[f]? with
  | some fn=>fn.body.isSome && !(fn.name == "runtime.NumGoroutine")
  |none=>false
def ACall (P:Program) (f:FuncId) (args:List D) (H:AH) (R:D→AH→Prop):Prop:=
  wR P f=true∧∀(K:Nat→BK) (w:World) (vs:Array Value),KRel K w→ZM K→HRel K w H→vs.size=args.length→(∀(j:Nat) (d:D) (v:Value),args[j]?=some d→vs[j]?=some v→RepV K w d v)→
    Calls P f vs w fun e w'=>∃v d H' K',e= .returned v∧R d H'∧FK K w K' w'∧KRel K' w'∧HRel K' w' H'∧RepO K' w' 0 d v
theorem ACall.mono {P:Program} {f:FuncId} {args:List D} {H:AH} {R R':D→AH→Prop} (h:ACall P f args H R) (hr:∀d H',R d H'→R' d H'):ACall P f args H R':=
  ⟨h.1,fun K w vs h1 h2 h3 h4 h5=>(h.2 K w vs h1 h2 h3 h4 h5).mono fun e w' ⟨v,d,H',K',g1,g2,g3⟩=>⟨v,d,H',K',g1,hr d H' g2,g3⟩⟩
def outerize:Who→Who
  | .slot _ _=>.outer
  |o=>o
def Ecell:Who→Prop
  | .cell _ _=>True
  |_=>False
def kG (K K':Nat→BK) (dst:Nat):Nat→BK:=fun b=>match K' b with
  | .tok n (.slot _ j)=>.tok n (.slot dst j)
  | .tok n .outer=>K b
  |x=>x
theorem relab_outer {K:Nat→BK} {b n:Nat}:relab outerize K b= .tok n .outer↔(K b= .tok n .outer∨∃i j,K b= .tok n (.slot i j)):=by
  constructor
  · intro h
    obtain ⟨o',h1,h2⟩:=ym h
    cases o' with
    |slot i j=>exact .inr ⟨i,j,h1⟩
    |cell b j=>simp [outerize] at h2
    |outer=>exact .inl h1
  · rintro (h|⟨i,j,h⟩)<;>rw [qR h]<;>rfl
theorem wN {K K':Nat→BK} {w w':World} (hfk:FK (relab outerize K) w K' w') (dst:Nat):Keep Ecell (fun _=>True) K w (kG K K' dst) w'∧ExtV K' w' (kG K K' dst) w':=by
  have hout:∀b n,K' b= .tok n .outer→∃o,K b= .tok n o∧(o= .outer∨∃i j,o= .slot i j):=fun b n h=>by
    rcases relab_outer.1 (hfk.new b n h) with h1|⟨i,j,h1⟩
    · exact ⟨_,h1,.inl rfl⟩
    · exact ⟨_,h1,.inr ⟨i,j,rfl⟩⟩
  have htok:∀b m o',K' b= .tok m o'→∃o'',kG K K' dst b= .tok m o'':=fun b m o' h=>by
    cases o' with
    |slot i j=>exact ⟨_,by simp [kG,h];rfl⟩
    |cell c j=>exact ⟨_,by simp [kG,h];rfl⟩
    | outer=>
      obtain ⟨o,h1,_⟩:=hout b m h
      exact ⟨o,by simp [kG,h,h1]⟩
  have hext:ExtV K' w' (kG K K' dst) w':=
    ⟨rfl,rfl,⟨rfl,Nat.le_refl _⟩,Nat.le_refl _,fun b _ h=>⟨by simp [kG,h],rfl⟩,fun b n o h _=>by
      obtain ⟨o'',h1⟩:=htok b n o h
      exact ⟨n,o'',h1,Nat.le_refl _,fun _ _=>rfl⟩,fun b h=>.inl (by simp [kG,h])⟩
  have hfull:ExtV K w (kG K K' dst) w':=((qC outerize K w).trans hfk.ext).trans hext
  refine ⟨⟨hfull,fun b n o hb ho=>?_,fun b n hb=>?_,fun b _ h=>(h trivial).elim⟩,hext⟩
  · have ho1:relab outerize K b= .tok n .outer:=by
      cases o with
      |slot i j=>exact relab_outer.2 (.inr ⟨i,j,hb⟩)
      |cell c j=>exact (ho trivial).elim
      |outer=>exact relab_outer.2 (.inl hb)
    obtain ⟨h1,h2⟩:=hfk.own b n ho1
    exact ⟨by simp [kG,h1,hb],h2⟩
  · unfold kG at hb
    split at hb
    · injection hb with _ h;cases h
    · exact hb
    · rename_i x h1 h2
      exact (h2 n hb).elim
theorem z7 (K:Nat→BK):ZM (relab outerize K):=fun b n i j h=>by
  obtain ⟨o',_,h2⟩:=ym h
  cases o'<;>simp [outerize] at h2
def OKd (k:List D→AH→Prop) (K:Nat→BK) (w:World) (ds:List Deferred):Act→World→Prop:=
  fun a' w'=>∃F' H' K',k F' H'∧FK K w K' w'∧St K' w' F' H' a'.tmps∧a'.defers=ds
def J8 (x:Option Operand) (d:Nat):Bool:=match x with|some (.tmp t)=>t==d|_=>false
def takes (ops:List Oper) (d:Nat):Bool:=ops.any fun o=>match o.op with
  | .call c=>(match c.callee with| .builtin .append=>J8 c.args[0]? d|_=>false)
  | .assign x=>J8 (some x) d
  | .store _ _ x=>J8 (some x) d
  |_=>false
def YT (ops:List Oper) (d:Nat):Bool:=ops.any fun o=>match o.op with
  | .call c=>(match c.callee with| .builtin .append=>J8 c.args[0]? d|_=>false)
  |_=>false
def qD:AH→Nat→Prop
  | [],_=>True
  |(c,_)::r,b=>b≠c∧qD r b
def one1:D→Bool
  | .tup _=>false
  | .agg _=>false
  | .any=>false
  |_=>true
def od:Operand→Bool
  | .const (.slice none 0 0)=>true
  |_=>false
def nilcmp (P:Program) (op:BinOp) (t:TypeId) (x:D) (k:D→Prop):Prop:=match x with
  | .slc xs=>(kY P t).isSome=true∧(match op with
    | .eql=>(xs= []→k (.bool true))∧k (.bool false)
    | .neq=>(xs= []→k (.bool false))∧k (.bool true)
    |_=>False)
  |_=>False
def VR (es:List (D×D)) (n:Nat) (v:D):List (D×D):=es.modify n fun p=>(p.1,v)
def mkmO (r:Option Operand) (H:AH) (k:D→AH→Prop):Prop:=r=none∧∀b,qD H b→k (.mp (some b)) ((b,.mp [])::H)
def mupO (P:Program) (t:TypeId) (H:AH) (m i v:D) (k:AH→Prop):Prop:=match VN P t,m with
  | some (ag,l,z),.mp (some b)=>match qu H b with
    |some (.mp es)=>kX ag l es i∧k (qF H b (.mp (uk es i v)))
    |_=>False
  |_,_=>False
def menO (P:Program) (t:TypeId) (H:AH) (m i:D) (k:D→AH→Prop):Prop:=match VN P t,m with
  | some (ag,l,z),.mp (some b)=>match qu H b with
    |some (.mp es)=>kX ag l es i∧es.length≤140737488355328∧k (.tup [(kw es (cellsOf i)).getD z,.int .i64 ((yA es (cellsOf i)).getD es.length:Nat)]) (qF H b (.mp (uk es i ((kw es (cellsOf i)).getD z))))
    |_=>False
  |_,_=>False
def mesO (H:AH) (m s v:D) (k:AH→Prop):Prop:=match m,s with
  | .mp (some b),.int .i64 n=>match qu H b with
    |some (.mp es)=>0≤n∧n<es.length∧k (qF H b (.mp (VR es n.toNat v)))
    |_=>False
  |_,_=>False
def clrO (P:Program) (H:AH) (args:List D) (tys:List TypeId) (k:AH→Prop):Prop:=match args,tys with
  | [.hso b off n],[t]=>match kY P t with
    | some (e,sz)=>match yK P e,qu H b with
      |some z,some (.cells cs)=>z.length=sz∧off+n*sz≤cs.length∧k (qF H b (.cells (cs.take off++((List.replicate n (z.map D.view1)).flatten++cs.drop (off+n*sz)))))
      |_,_=>False
    |none=>False
  |_,_=>False
def aop (P:Program) (ops:List Oper) (o:Oper) (F:List D) (H:AH) (k:List D→AH→Prop):Prop:=
  match o.op with
  | .move (.tmp s)=>match o.dst with
    |some d=>if takes ops d=true then k ((F.set s (rv F (.tmp s))).set d (ev F (.tmp s))) H else k (F.set d (rv F (.tmp s))) H
    |none=>k F H
  | .assign (.tmp s)=>match o.dst with
    |some d=>k ((F.set s (rv F (.tmp s))).set d (ev F (.tmp s))) H
    |none=>k F H
  | .move x=>k (qG F o.dst (ev F x)) H
  | .assign x=>k (qG F o.dst (ev F x)) H
  | .extract (.tmp s) ix=>match o.dst,ev F (.tmp s) with
    | some d,.tup ds=>match ds[ix]? with
      |some c=>if takes ops d=true then fact c.view1→k ((F.set s (.tup (ds.set ix c.view1))).set d c) H else fact c.view1→k (F.set d c.view1) H
      |none=>False
    |_,_=>False
  | .alloc t=>match yK P t with
    |some z=>∀b,qD H b→k (qG F o.dst (.ptr b 0)) ((b,.cells z)::H)
    |none=>False
  | .box t x=>okc (rv F x)=true∧∀b,qD H b→k (qG F o.dst (.ptr b 0)) ((b,.cells (cellsOf (rv F x)))::H)
  | .makeMap t r=>mkmO r H fun d H'=>k (qG F o.dst d) H'
  | .mapUpdate t m i v=>mupO P t H (rv F m) (rv F i) (rv F v) fun H'=>k (qG F o.dst (.tup [])) H'
  | .mapEntry t m i=>menO P t H (rv F m) (rv F i) fun d H'=>k (qG F o.dst d) H'
  | .entryStore t m s v=>mesO H (rv F m) (rv F s) (rv F v) fun H'=>k (qG F o.dst (.tup [])) H'
  | .store t a x=>match wb P t,rv F a with
    | some (true,n),.ptr b off=>match qu H b with
      |some (.cells cs)=>okc (rv F x)=true∧(cellsOf (rv F x)).length=n∧off+n≤cs.length∧k (qG F o.dst (.tup [])) (qF H b (.cells (cs.take off++(cellsOf (rv F x)++cs.drop (off+n)))))
      |_=>False
    | some (false,n),.ptr b off=>match qu H b with
      | some (.cells cs)=>n=1∧off<cs.length∧one1 (ev F x)=true∧o.dst=none∧(match x with
        | .tmp s=>k (F.set s (rv F x)) (qF H b (.cells (cs.set off (ev F x))))
        |_=>k F (qF H b (.cells (cs.set off (ev F x)))))
      |_=>False
    |_,_=>False
  | .call c=>match c.callee with
    | .value f=>match rv F f with
      | .fn g caps=>ACall P g (wx (c.args.toList.map (rv F)) caps) H fun d H'=>fact d.view→k (qG F o.dst d) H'
      |_=>False
    | .builtin .append=>match c.args.toList,c.argTypes.toList,o.dst with
      | [.tmp s,x],[t,u],some d=>match ev F (.tmp s),Ke P t u with
        | .own xs,some (_,sz,bs)=>match rv F x with
          | .slc ys=>(∀y∈xs,y.length=sz)∧(∀y∈ys,y.length=sz)∧(xs.length+ys.length)*bs≤140737488355328∧k ((F.set s (.slc xs)).set d (.own (xs++ys))) H
          | .str l=>sz=1∧(∀y∈xs,y.length=1)∧(xs.length+l.length)*bs≤140737488355328∧k ((F.set s (.slc xs)).set d (.own (xs++l.map qA))) H
          |_=>False
        |_,_=>False
      |_,_,_=>False
    | .builtin .clear=>clrO P H (c.args.toList.map (rv F)) c.argTypes.toList fun H'=>k (qG F o.dst (.tup [])) H'
    |_=>qO P (rv F) H o.op fun d=>k (qG F o.dst d) H
  | .binOp bo t x y _=>if od y=true then nilcmp P bo t (rv F x) fun d=>k (qG F o.dst d) H else qO P (rv F) H o.op fun d=>k (qG F o.dst d) H
  | .load t (.tmp s)=>match o.dst with
    | some d=>if YT ops d=true then (match wb P t,rv F (.tmp s) with
        | some (false,_),.ptr b off=>match qu H b with
          | some (.cells cs)=>match cs[off]? with
            |some (.own xs)=>k (F.set d (.own xs)) (qF H b (.cells (cs.set off (.slc xs))))
            |some (.hgs b' n c)=>k (F.set d (.hgs b' n c)) H
            |_=>False
          |_=>False
        |_,_=>False)
      else qO P (rv F) H o.op fun c=>k (qG F o.dst c) H
    |none=>qO P (rv F) H o.op fun c=>k (qG F o.dst c) H
  |_=>qO P (rv F) H o.op fun d=>k (qG F o.dst d) H
def jq (o:Oper):Bool:=o.op.operands.all jL&&(match o.op with| .call c=>c.args.all jL|_=>true)
section
variable {P:Program} {ops:List Oper} {o:Oper} {F:List D} {H:AH} {k:List D→AH→Prop} {K:Nat→BK} {w:World} {a:Act} {Q:Exit→Act→World→Prop}
theorem uM {b:Nat}:∀{H:AH},(∀x∈H,x.1≠b)→qD H b
  | [],_=>trivial
  |(c,_)::r,h=>⟨fun e=>h (c,_) (.head _) e.symm,uM (fun x hx=>h x (.tail _ hx))⟩
theorem HRel.lt (hk:KRel K w) (hh:HRel K w H) {b:Nat} {o:AO} (hm:(b,o)∈H):b<w.heap.size:=by
  have:=hh.ok b o hm
  cases o with
  | cells cs=>
    obtain ⟨h1,_⟩:=this
    exact hk.lt_of (by rw [h1];simp)
  | room cap xs=>
    rcases this.2 with ⟨h1,_⟩|⟨b',cap',sz,c,T,h1,h2,_⟩
    · have:=this.1;rw [h1] at this;simp at this
    · injection h1 with h1;injection h1 with h1;injection h1 with h1;subst h1
      exact hk.lt_of (by rw [h2];simp)
  |mp es=>exact hk.lt_of (by rw [this.1];simp)
  | lp J pre=>
    obtain ⟨⟨n,j,h1⟩,_⟩:=this
    exact hk.lt_of (by rw [h1];simp)
theorem HRel.fresh (hk:KRel K w) (hh:HRel K w H):qD H w.heap.size:=
  uM fun x hx e=>by have:=hh.lt hk (b:=x.1) (o:=x.2) hx;omega
theorem qL {v:Value} {w':World} (hrun:(execOp a.eval o).run P w= .ok (.value v) w') {next:Act→World→Prop} (h:next (a.put o.dst v) w'):o.wp P a w next Q:=by
  unfold Oper.wp
  rw [hrun,Oper.upon_value]
  exact h
theorem vV {w':World} (hrun:(execOp a.eval o).run P w= .ok .skip w') {next:Act→World→Prop} (h:next (a.put o.dst undef) w'):o.wp P a w next Q:=by
  unfold Oper.wp
  rw [hrun,Oper.upon_skip]
  exact h
theorem qy (dst:Option Tmp) (v:Value):(a.put dst v).defers=a.defers:=by cases dst<;>rfl
theorem Pres.fk {K':Nat→BK} {w':World} (hk:KRel K w) (h:Pres K w K' w'):FK K w K' w':=(h.keep hk).fk (fun h=>h)
theorem wJ (hs:St K w F H a.tmps) (hok:jq o=true) (h:qO P (rv F) H o.op fun d=>k (qG F o.dst d) H):o.wp P a w (OKd k K w a.defers) Q:=by
  have hr:=hs.ops (xs:=o.op.operands) (by unfold jq at hok;simp only [Bool.and_eq_true] at hok;exact hok.1)
  obtain ⟨d,hd,hy⟩:=oA h ⟨K,w,a.eval,hs.krel,hs.hrel,hr⟩
  cases hdst:o.dst with
  | none=>
    obtain ⟨v,K',w',h1,h2,h3,h4⟩:=hy K w a.eval 0 hs.krel hs.hrel hr
    exact qL h1 ⟨_,H,K',hd,h2.fk hs.krel,hs.put (h2.keep hs.krel) (fun _ _ h=>h) h3 (hs.hrel.pres hs.krel h2) o.dst (fun i hi=>by rw [hdst] at hi;cases hi),qy _ _⟩
  | some t=>
    obtain ⟨v,K',w',h1,h2,h3,h4⟩:=hy K w a.eval t hs.krel hs.hrel hr
    exact qL h1 ⟨_,H,K',hd,h2.fk hs.krel,hs.put (h2.keep hs.krel) (fun _ _ h=>h) h3 (hs.hrel.pres hs.krel h2) o.dst (fun i hi=>by rw [hdst] at hi;obtain rfl:=Option.some.inj hi;exact h4),qy _ _⟩
def mvφ (s d:Who):Who→Who:=fun o=>if o=s then d else o
theorem gL {s d:Who} (hs:s≠ .outer) (hd:d≠ .outer):FK K w (relab (mvφ s d) K) w:=by
  refine ⟨qC _ K w,fun b n h=>⟨?_,rfl⟩,fun b n h=>?_⟩
  · rw [qR h]
    simp [mvφ,Ne.symm hs]
  · obtain ⟨o',h1,h2⟩:=ym h
    unfold mvφ at h2
    split at h2
    · exact (hd h2).elim
    · rw [h1,h2]
theorem mv_hrel {s d:Who} (hs:∀b j,s≠ .cell b j) (hh:HRel K w H):HRel (relab (mvφ s d) K) w H:=
  hh.conv (qC _ K w) (fun b h=>relab_priv.2 h) (fun b n c j h=>by rw [qR h];simp [mvφ,Ne.symm (hs c j)])
theorem uF {s d:Who} {i:Nat} (hi:∀j,s≠ .slot i j) {x:D} {v:Value} (h:RepO K w i x v):RepO (relab (mvφ s d) K) w i x v:=
  h.conv (qC _ K w) (fun b n j hb=>by rw [qR hb];simp [mvφ,Ne.symm (hi j)])
theorem St.mv (hs:St K w F H a.tmps) (s d:Nat):∃K',FK K w K' w∧St K' w ((F.set s (rv F (.tmp s))).set d (ev F (.tmp s))) H (a.put (some d) (a.eval (.tmp s))).tmps:=by
  by_cases hlt:s<F.length
  · have hF:F[s]?=some (ev F (.tmp s)):=by simp [ev,List.getD,List.getElem?_eq_getElem hlt]
    have hts:s<a.tmps.size:=by rw [hs.len];exact hlt
    have hT:a.tmps[s]?=some (a.eval (.tmp s)):=by simp [Act.eval,Array.getElem?_eq_getElem hts]
    have hr:=hs.slot s _ _ hF hT
    -- all the tokens of slot s go to slot d
    let φ:Who→Who:=fun o=>match o with
      | .slot i j=>if i=s then .slot d j else .slot i j
      |x=>x
    have hφ:Nice φ:=⟨fun _ _=>rfl,rfl⟩
    have hfk:FK K w (relab φ K) w:=by
      refine ⟨qC _ K w,fun b n h=>⟨qR h,rfl⟩,fun b n h=>?_⟩
      obtain ⟨o',h1,h2⟩:=ym h
      cases o' with
      |slot i j=>simp only [φ] at h2;split at h2<;>cases h2
      |cell c j=>cases h2
      |outer=>exact h1
    refine ⟨relab φ K,hfk,jE hs.krel,yw hφ hs.hrel,by simpa [Act.put] using hs.len,fun i x v hx hv=>?_⟩
    simp only [Act.put] at hv
    rcases getElem?_set_some hx with ⟨rfl,rfl,hl⟩|⟨hne,hx⟩
    · rw [Array.getElem?_setIfInBounds_self_of_lt (by rw [hs.len];simpa using hl)] at hv
      obtain rfl:=Option.some.inj hv
      exact gU (fun j=>by simp [φ]) hr
    · rw [Array.getElem?_setIfInBounds_ne hne] at hv
      rcases getElem?_set_some hx with ⟨rfl,rfl,hl⟩|⟨hne2,hx⟩
      · rw [hT] at hv
        obtain rfl:=Option.some.inj hv
        exact (RepV.mono (qC φ K w) hr.rep).viewO
      · exact gU (fun j=>by simp [φ,Ne.symm hne2]) (hs.slot i x v hx hv)
  · have hge:F.length≤s:=Nat.le_of_not_lt hlt
    have hev:ev F (.tmp s)= .any:=by simp [ev,List.getD,List.getElem?_eq_none hge]
    refine ⟨K,.refl K w,?_⟩
    rw [List.set_eq_of_length_le hge,hev]
    exact hs.put (d:= .any) ((Pres.refl K w).keep hs.krel) (fun _ _ h=>h) hs.krel hs.hrel (some d) (fun i _=>RepV.viewO (.any _))
theorem UU (hs:St K w F H a.tmps) {s:Nat} (ho:o.op= .move (.tmp s)) (h:aop P ops o F H k):o.wp P a w (OKd k K w a.defers) Q:=by
  simp only [aop,ho] at h
  have hrun:(execOp a.eval o).run P w= .ok (.value (a.eval (.tmp s))) w:=by simp [execOp,ho]
  cases hd:o.dst with
  | none=>
    simp only [hd] at h
    exact qL hrun ⟨F,H,K,h,.refl K w,by rw [hd];exact hs,qy _ _⟩
  | some d=>
    simp only [hd] at h
    split at h
    · obtain ⟨K',h1,h2⟩:=hs.mv s d
      exact qL hrun ⟨_,H,K',h,h1,by rw [hd];exact h2,qy _ _⟩
    · refine qL hrun ⟨_,H,K,h,.refl K w,?_,qy _ _⟩
      rw [hd]
      exact hs.put ((Pres.refl K w).keep hs.krel) (fun _ _ h=>h) hs.krel hs.hrel (some d) (fun i _=>(hs.rep (x:= .tmp s) rfl).viewO)
theorem YG (hs:St K w F H a.tmps) {s:Nat} (ho:o.op= .assign (.tmp s)) (h:aop P ops o F H k):o.wp P a w (OKd k K w a.defers) Q:=by
  simp only [aop,ho] at h
  have hrun:(execOp a.eval o).run P w= .ok (.value (a.eval (.tmp s))) w:=by simp [execOp,ho]
  cases hd:o.dst with
  | none=>
    simp only [hd] at h
    exact qL hrun ⟨F,H,K,h,.refl K w,by rw [hd];exact hs,qy _ _⟩
  | some d=>
    simp only [hd] at h
    obtain ⟨K',h1,h2⟩:=hs.mv s d
    exact qL hrun ⟨_,H,K',h,h1,by rw [hd];exact h2,qy _ _⟩
theorem zR (v:Value) (hv:yH v=true) (i:Nat):RepO K w i (jj v) v:=by
  have h:=y4 (K:=K) (w:=w) (o:= .slot i 0) hv
  generalize jj v=d at h
  cases d<;>first|exact h|exact RepV.viewO h
theorem Jl (hs:St K w F H a.tmps) {x:Operand} (hx:jL x=true) (hn:∀s,x≠ .tmp s) (hrun:(execOp a.eval o).run P w= .ok (.value (a.eval x)) w) (h:k (qG F o.dst (ev F x)) H):o.wp P a w (OKd k K w a.defers) Q:=by
  refine qL hrun ⟨_,H,K,h,.refl K w,hs.put ((Pres.refl K w).keep hs.krel) (fun _ _ h=>h) hs.krel hs.hrel o.dst (fun i _=>?_),qy _ _⟩
  cases x with
  |tmp s=>exact (hn s rfl).elim
  |const v=>exact zR v hx i
  |global g=>exact RepV.viewO (.ptr g 0)
  |func f=>exact RepV.viewO (hs.rep (x:= .func f) rfl)
end
end Go.Aw
end
