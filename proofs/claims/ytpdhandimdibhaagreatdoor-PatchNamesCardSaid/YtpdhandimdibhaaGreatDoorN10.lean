/- A part of the proof of what the last text says: Aw16, AwY. Conditions: those in each theorem. -/
import Derived.Test.YtpdhandimdibhaaGreatDoorN9
import Derived.Scope
import Derived.RangeFuncWrites
set_option linter.unusedVariables false
set_option linter.unusedSimpArgs false
set_option maxRecDepth 100000
set_option maxHeartbeats 16000000
open Nat renaming reduceSub → qa,reduceAdd → qb,reduceMul → qc,reduceEqDiff → qd,reduceLeDiff → qe,reduceBEq → qf
section
namespace Go.Aw
open Go Go.RowKit
structure XO where
  op:Op
  dst:Option Tmp
  g:Option (Option (Tmp×Bool))
  tk:Bool
  ta:Bool
inductive XC where
  |skip
  |reg (l:List XO)
  |regD (l:List XO)
  |seq (x y:XC)
  |cond (c:Operand) (x y:XC)
  |block (id:Nat) (c:XC)
  |exit (id:Nat)
  |ret
  |loop (c:XC)
  |gh (c:XC)
  |scope (c:XC)
  |regV (l tail:List XO)
  |regW (q:Tmp) (segs:List (List XO×XO×Bool)) (last tail:List XO)
  |regT (qs:List Tmp) (segs:List (List XO×XO×Bool)) (last tail:List XO)
  |rgf (g:Operand) (p t:Tmp) (c:XC)
  |rga (g:Operand) (p:Tmp) (a c:XC)
  |regY (pre:List XO) (y:XO) (post:List XO)
  |bad
def xof (ops:List Oper) (o:Oper):XO:=
  ⟨o.op,o.dst,(match o.guard with|none=>none|some (j,want)=>match (ops[j]?).bind (·.dst) with|some t=>some (some (t,want))|none=>some none),
    (match o.dst with|some d=>takes ops d|none=>false),(match o.dst with|some d=>YT ops d|none=>false)⟩
def KL:Code→Option (Tmp×Tmp)
  | .region _ ops false=>match ops.toList with
    | [o]=>match o.op,o.dst,o.guard with
      | .assign (.tmp p),some t,none=>some (p,t)
      |_,_,_=>none
    |_=>none
  |_=>none
def Q6 (g:Operand) (ps:Array Tmp) (asg:Code) (z x:XC):XC:=match ps.toList,KL asg with
  | [p],some (p',t)=>if p'=p then .rgf g p t x else .bad
  | [p],none=>.rga g p z x
  |_,_=>.bad
def cmp:Code→XC
  | .skip=>.skip
  | .label _=>.skip
  | .region _ ops false=>.reg (ops.toList.map (xof ops.toList))
  | .region _ ops true=>.regD (ops.toList.map (xof ops.toList))
  | .seq x y=>.seq (cmp x) (cmp y)
  | .cond c x y=>.cond c (cmp x) (cmp y)
  | .block id c=>.block id (cmp c)
  | .exit id=>.exit id
  | .ret=>.ret
  | .loop c=>.loop (cmp c)
  | .scope c=>.scope (cmp c)
  | .rangeFunc g ps asg c=>Q6 g ps asg (cmp asg) (cmp c)
  |_=>.bad
def kB:XC→Bool
  | .rgf _ _ _ _=>true
  | .rga _ _ _ _=>true
  | .bad=>true
  |_=>false
theorem jc {g:Operand} {ps:Array Tmp} {asg:Code} {x y z:XC} (h:Q6 g ps asg z x=y):kB y=true:=by
  subst h
  unfold Q6
  split
  · split<;>rfl
  · rfl
  · rfl
theorem rgf_inv {g g':Operand} {ps:Array Tmp} {asg:Code} {p t:Tmp} {x y z:XC} (h:Q6 g ps asg z x= .rgf g' p t y):g=g'∧ps.toList= [p]∧KL asg=some (p,t)∧x=y:=by
  unfold Q6 at h
  split at h
  · rename_i h1 h2
    split at h
    · rename_i e
      injection h with a1 a2 a3 a4
      subst a1 a2 a3 a4 e
      exact ⟨rfl,h1,h2,rfl⟩
    · cases h
  · cases h
  · cases h
theorem rga_inv {g g':Operand} {ps:Array Tmp} {asg:Code} {p:Tmp} {x y z a:XC} (h:Q6 g ps asg z x= .rga g' p a y):g=g'∧ps.toList= [p]∧z=a∧x=y:=by
  unfold Q6 at h
  split at h
  · split at h<;>cases h
  · rename_i h1 h2
    injection h with a1 a2 a3 a4
    subst a1 a2 a3 a4
    exact ⟨rfl,h1,rfl,rfl⟩
  · cases h
def VX:XC→Bool
  | .skip=>true
  | .reg _=>true
  | .regT _ _ _ _=>true
  | .seq x y=>VX x&&VX y
  | .block _ x=>VX x
  | .gh x=>VX x
  |_=>false
def zm:Code→Bool
  | .region _ ops _=>ops.toList.all fun o=>match o.op with
    | .defer _=>false
    |_=>true
  | .seq x y=>zm x&&zm y
  | .block _ c=>zm c
  |_=>true
abbrev HK:=List D→AH→Prop
def yL (P:Program) (m:Bool) (x:XO) (F:List D) (H:AH) (k:HK):Prop:=
  match x.op with
  | .move (.tmp s)=>match x.dst with
    |some d=>if x.tk=true then k ((F.set s (rv F (.tmp s))).set d (ev F (.tmp s))) H else k (F.set d (rv F (.tmp s))) H
    |none=>k F H
  | .assign (.tmp s)=>match x.dst with
    |some d=>k ((F.set s (rv F (.tmp s))).set d (ev F (.tmp s))) H
    |none=>k F H
  | .move y=>k (qG F x.dst (ev F y)) H
  | .assign y=>k (qG F x.dst (ev F y)) H
  | .extract (.tmp s) ix=>match x.dst,ev F (.tmp s) with
    | some d,.tup ds=>match ds[ix]? with
      |some c=>if (x.tk&& !m)=true then fact c.view1→k ((F.set s (.tup (ds.set ix c.view1))).set d c) H else fact c.view1→k (F.set d c.view1) H
      |none=>False
    |_,_=>False
  | .alloc t=>m=false∧match yK P t with
    |some z=>∀b,qD H b→k (qG F x.dst (.ptr b 0)) ((b,.cells z)::H)
    |none=>False
  | .makeMap t r=>m=false∧mkmO r H fun d H'=>k (qG F x.dst d) H'
  | .mapUpdate t q i v=>m=false∧mupO P t H (rv F q) (rv F i) (rv F v) fun H'=>k (qG F x.dst (.tup [])) H'
  | .mapEntry t q i=>m=false∧menO P t H (rv F q) (rv F i) fun d H'=>k (qG F x.dst d) H'
  | .entryStore t q s v=>m=false∧mesO H (rv F q) (rv F s) (rv F v) fun H'=>k (qG F x.dst (.tup [])) H'
  | .box t y=>m=false∧okc (rv F y)=true∧∀b,qD H b→k (qG F x.dst (.ptr b 0)) ((b,.cells (cellsOf (rv F y)))::H)
  | .store t a y=>m=false∧match wb P t,rv F a with
    | some (true,n),.ptr b off=>match qu H b with
      |some (.cells cs)=>okc (rv F y)=true∧(cellsOf (rv F y)).length=n∧off+n≤cs.length∧k (qG F x.dst (.tup [])) (qF H b (.cells (cs.take off++(cellsOf (rv F y)++cs.drop (off+n)))))
      |_=>False
    | some (false,n),.ptr b off=>match qu H b with
      | some (.cells cs)=>n=1∧off<cs.length∧one1 (ev F y)=true∧x.dst=none∧(match y with
        | .tmp s=>k (F.set s (rv F y)) (qF H b (.cells (cs.set off (ev F y))))
        |_=>k F (qF H b (.cells (cs.set off (ev F y)))))
      |_=>False
    |_,_=>False
  | .call c=>match c.callee with
    | .value f=>match rv F f with
      | .fn g caps=>if m=true then ∃d,(∀H1,Sub H H1→ACall P g (wx (c.args.toList.map (rv F)) caps) H1 (fun d' H'=>d'=d∧H'=H1))∧(fact d.view→k (qG F x.dst d) H)
        else ACall P g (wx (c.args.toList.map (rv F)) caps) H fun d H'=>fact d.view→k (qG F x.dst d) H'
      |_=>False
    | .builtin .append=>match c.args.toList,c.argTypes.toList,x.dst with
      | [.tmp s,y],[t,u],some d=>match ev F (.tmp s),Ke P t u with
        | .own xs,some (_,sz,bs)=>match rv F y with
          | .slc ys=>(∀y∈xs,y.length=sz)∧(∀y∈ys,y.length=sz)∧(xs.length+ys.length)*bs≤140737488355328∧k ((F.set s (.slc xs)).set d (.own (xs++ys))) H
          | .str l=>sz=1∧(∀y∈xs,y.length=1)∧(xs.length+l.length)*bs≤140737488355328∧k ((F.set s (.slc xs)).set d (.own (xs++l.map qA))) H
          |_=>False
        |_,_=>False
      |_,_,_=>False
    | .builtin .clear=>m=false∧clrO P H (c.args.toList.map (rv F)) c.argTypes.toList fun H'=>k (qG F x.dst (.tup [])) H'
    |_=>qO P (rv F) H x.op fun d=>k (qG F x.dst d) H
  | .binOp bo t y z _=>if m=false∧od z=true then nilcmp P bo t (rv F y) fun d=>k (qG F x.dst d) H else qO P (rv F) H x.op fun d=>k (qG F x.dst d) H
  | .load t (.tmp s)=>match x.dst with
    | some d=>if m=false∧x.ta=true then (match wb P t,rv F (.tmp s) with
        | some (false,_),.ptr b off=>match qu H b with
          | some (.cells cs)=>match cs[off]? with
            |some (.own xs)=>k (F.set d (.own xs)) (qF H b (.cells (cs.set off (.slc xs))))
            |some (.hgs b' n c)=>k (F.set d (.hgs b' n c)) H
            |_=>False
          |_=>False
        |_,_=>False)
      else qO P (rv F) H x.op fun c=>k (qG F x.dst c) H
    |none=>qO P (rv F) H x.op fun c=>k (qG F x.dst c) H
  |_=>qO P (rv F) H x.op fun d=>k (qG F x.dst d) H
def nilr (F:List D) (x:Operand):D:=if od x=true then .osl 0 0 [] else rv F x
def UA (P:Program) (f:D) (args:List D) (dst:Option Tmp) (F:List D) (H:AH) (k:HK):Prop:=match f with
  | .fn g caps=>ACall P g (wx args caps) H fun d H'=>fact d.view→k (qG F dst d) H'
  |_=>False
theorem Ux {K:Nat→BK} {w:World} {F:List D} {H:AH} {a:Act} (hs:St K w F H a.tmps) {x:Operand} (hx:jL x=true):RepV K w (nilr F x) (a.eval x):=by
  unfold nilr
  split
  · rename_i h
    unfold od at h
    split at h
    · exact .oslnil 0 0 none
    · cases h
  · exact hs.rep hx
theorem Vu {P:Program} {o:Oper} {F:List D} {H:AH} {k:HK} {K:Nat→BK} {w:World} {a:Act} {Q:Exit→Act→World→Prop} (hs:St K w F H a.tmps) (hok:jq o=true) {c:Call} {f:Operand} (ho:o.op= .call c) (hf:c.callee= .value f) (h:UA P (rv F f) (c.args.toList.map (nilr F)) o.dst F H k):o.wp P a w (OKd k K w a.defers) Q:=by
  unfold UA at h
  split at h
  · rename_i g caps hg
    have hall:jL f=true∧c.args.all jL=true:=by
      unfold jq at hok
      simp only [ho,Op.operands,Call.operands,hf,Bool.and_eq_true] at hok
      exact ⟨(Array.all_eq_true'.1 hok.1) f (by simp),hok.2⟩
    obtain ⟨fs,vs,hv,hcap⟩:=(hg▸hs.rep hall.1).fn_call
    obtain ⟨hcall,hR⟩:=h
    unfold wR at hcall
    split at hcall
    · rename_i fn hfn
      simp only [Bool.and_eq_true,Bool.not_eq_true'] at hcall
      have hrun:(execOp a.eval o).run P w= .ok (.enter g (fs++c.args.map a.eval++vs)) w:=by
        have hb:fn.body.isNone=false:=by cases hbb:fn.body<;>simp_all
        simp only [execOp,ho,resolve,hf,hv,Deferred.ofValue,Sem.run_bind,Sem.run_pure,Result.andThen_ok,invoke,callFunc,run_program,hfn,hcall.2,hb,Bool.false_eq_true,if_false]
      obtain ⟨hl,hcap⟩:=hcap (c.args.toList.map (nilr F)) (c.args.map a.eval) (by simp) (fun j d v hd hv'=>by
        rw [List.getElem?_map,Option.map_eq_some_iff] at hd
        rw [Array.getElem?_map,Option.map_eq_some_iff] at hv'
        obtain ⟨x,h1,rfl⟩:=hd
        obtain ⟨y,h2,rfl⟩:=hv'
        rw [Array.getElem?_toList,h2] at h1
        obtain rfl:=Option.some.inj h1
        exact Ux hs ((Array.all_eq_true'.1 hall.2) _ (Array.mem_of_getElem? h2)))
      have hc:=hR (relab outerize K) w (fs++c.args.map a.eval++vs) (jE hs.krel) (z7 K) (yw ⟨fun _ _=>rfl,rfl⟩ hs.hrel) hl (fun j d v hd hv'=>(hcap j d v hd hv').mono (qC outerize K w))
      unfold Oper.wp
      rw [hrun,Oper.upon_enter]
      refine hc.mono fun e w' ⟨v,d,H',K',he,hk,hfk,hk',hh',hr⟩=>?_
      subst he
      have key:∀dst,(∀i,o.dst=some i→i=dst)→St (kG K K' dst) w' (qG F o.dst d) H' (a.put o.dst v).tmps:=by
        intro dst hd
        obtain ⟨hkeep,hext⟩:=wN hfk dst
        have hkr:KRel (kG K K' dst) w':=fun b hb=>by simp [kG,hk' b hb]
        have hhr:HRel (kG K K' dst) w' H':=hh'.conv hext (fun b h=>by simp [kG,h]) (fun b n c j hb=>by simp [kG,hb])
        exact hs.put hkeep (fun _ _ h=>h) hkr hhr o.dst (fun i hi=>by
            obtain rfl:=hd i hi
            exact hr.conv hext (fun b n j hb=>by simp [kG,hb]))
      have hkk:=hk hr.rep.fact
      cases hd:o.dst with
      |none=>exact ⟨_,H',_,hkk,(wN hfk 0).1.fk (fun h=>h),hd▸key 0 (fun i hi=>by rw [hd] at hi;cases hi),qy _ _⟩
      |some t=>exact ⟨_,H',_,hkk,(wN hfk t).1.fk (fun h=>h),hd▸key t (fun i hi=>by rw [hd] at hi;exact (Option.some.inj hi).symm),qy _ _⟩
    · cases hcall
  · exact h.elim
def kE:Op→Option Op
  | .call ⟨.builtin .append,args,tys⟩=>match args.toList,tys.toList with
    | [l,c],[t]=>some (.makeSlice t l c)
    | [x,y],[t,u,_]=>some (.call ⟨.builtin .append,#[x,y],#[t,u]⟩)
    | [x,y],[t,u,_,_]=>some (.call ⟨.builtin .append,#[x,y],#[t,u]⟩)
    |_,_=>none
  | .call ⟨.builtin .imag,args,tys⟩=>match args.toList,tys.toList with
    | [m,i],[t]=>some (.lookup t m i false)
    | [m,s,v],[t]=>some (.entryStore t m s v)
    |_,_=>none
  | .call ⟨.builtin .complex,args,tys⟩=>match tys.toList with
    |t::is=>some (.build t (is.zip args.toList).toArray)
    | []=>none
  | .call ⟨.builtin .real,args,tys⟩=>match tys.toList with
    | [t]=>some (.buildSlice t args.toList.length ((List.range args.toList.length).zip args.toList).toArray)
    |_=>none
  | .call ⟨.builtin .println,args,tys⟩=>match args.toList with
    |f::as=>some (.call ⟨.value f,as.toArray,tys⟩)
    | []=>none
  |_=>none
def Gf (P:Program) (op:Op) (dst:Option Tmp) (F:List D) (H:AH) (k:HK):Prop:=match op with
  | .call ⟨.builtin .append,args,tys⟩=>match args.toList,tys.toList with
    | [l,c],[t]=>mkH P t l c dst F H k
    | [x,y],[t,u,_]=>apH P t u x y dst F H k
    | [x,y],[t,u,_,_]=>Gz F H fun F' H'=>yL P false ⟨.call ⟨.builtin .append,#[x,y],#[t,u]⟩,dst,none,false,false⟩ F' H' k
    |_,_=>False
  | .call ⟨.builtin .imag,args,tys⟩=>match args.toList,tys.toList with
    | [m,i],[t]=>gS P false t H (rv F m) (rv F i) false fun d=>k (qG F dst d) H
    | [m,s,v],[t]=>Gz F H fun F' H'=>yL P false ⟨.entryStore t m s v,dst,none,false,false⟩ F' H' k
    |_,_=>False
  | .call ⟨.builtin .complex,args,tys⟩=>match tys.toList with
    |t::is=>zbH P t (is.zip args.toList) dst F H k
    | []=>False
  | .call ⟨.builtin .real,args,tys⟩=>match tys.toList with
    | [t]=>bsR P t args.toList dst F H k
    |_=>False
  | .call ⟨.builtin .println,args,tys⟩=>match args.toList with
    |f::as=>UA P (rv F f) (as.map (nilr F)) dst F H k
    | []=>False
  |_=>False
def KA (x:XO):XO:=match kE x.op with
  |some op=>{x with op:=op}
  |none=>x
def xop (P:Program) (m:Bool) (x:XO) (F:List D) (H:AH) (k:HK):Prop:=match kE x.op with
  |some _=>m=false∧Gf P x.op x.dst F H k
  |none=>yL P m x F H k
def u7:List (List XO×XO×Bool)→List XO
  | []=>[]
  |(l,x,_)::r=>l++x::u7 r
def oz (x:XO):Bool:=(kE x.op).isNone&& !o0 x.op
def UT (x:XO):Bool:=(kE x.op).isNone&&x.g.isNone
def tOk (segs:List (List XO×XO×Bool)) (last:List XO):Bool:=segs.all (fun p=>p.1.all oz&&UT p.2.1)&&last.all oz
def gb:List (List XO×XO×Bool)→List Nat
  | []=>[]
  | (_,x,_)::r=>match x.op,x.dst with
    | .alloc _,some d=>d::gb r
    |_,_=>gb r
def Ve (ops:Array Oper) (n:Nat) (al:List Nat):Bool:=(ops.toList.take n).all fun o=>
  if wj al o.op=true then o.guard.isNone&&(match o.op with
    | .store _ _ y=>al.all fun d=>!(J8 (some y) d)&&o.dst !=some d
    |_=>true)
  else al.all fun d=>!(o.looksAt ops).contains d&&o.dst !=some d
def KB (x:XO) (seen:List Nat):List Nat:=match x.op,x.dst with
  | .alloc _,some d=>d::seen
  |_,_=>seen
def Zv (al:List Nat):List Nat→List (List XO×XO×Bool)→Bool
  |_,[]=>true
  | seen,(_,x,_)::r=>(match x.op with
    | .store _ (.tmp d) _=>!al.contains d||seen.contains d
    |_=>true)&&Zv al (KB x seen) r
def Qu (ops:Array Oper):Nat→List Nat→List (List XO×XO×Bool)→Bool
  |_,_,[]=>true
  |k,ps,(l,_,fl)::r=>(!fl||ps.all fun i=>match ops[k+l.length]? with|some o=>Y2 .any o i|none=>false)&&Qu ops (k+l.length+1) ((k+l.length)::ps) r
def vOk (l:List XO):Bool:=l.all fun x=>(kE x.op).isNone&& !o0 x.op
def er:XC→XC
  | .regV l tail=>if vOk l=true then .regD (l++tail.map KA) else .gh .bad
  | .regW _ segs last tail=>if tOk segs last=true then .regD ((u7 segs++last)++tail.map KA) else .gh .bad
  | .regT _ segs last tail=>if tOk segs last=true then .regD ((u7 segs++last)++tail.map KA) else .gh .bad
  | .regY pre y post=>if (kE y.op).isNone=true then .reg (pre.map KA++y::post.map KA) else .gh .bad
  | .reg l=>.reg (l.map KA)
  | .regD l=>if l.all (fun x=>(kE x.op).isNone)=true then .regD l else .gh .bad
  | .seq x y=>.seq (er x) (er y)
  | .cond c x y=>.cond c (er x) (er y)
  | .block id c=>.block id (er c)
  | .loop c=>.loop (er c)
  | .gh c=>er c
  | .scope c=>.scope (er c)
  | .rgf g p t c=>.rgf g p t (er c)
  | .rga g p a c=>.rga g p (er a) (er c)
  |x=>x
def jl:Code→Bool
  | .region _ ops _=>ops.all jq
  | .seq x y=>jl x&&jl y
  | .cond c x y=>jL c&&jl x&&jl y
  | .block _ c=>jl c
  | .loop c=>jl c
  | .scope c=>jl c
  | .rangeFunc _ _ a c=>jl a&&jl c
  |_=>true
def QC (fn:Func):Bool:=match fn.body with
  |some c=>jl c&&rOk fn.results.toList
  |none=>false
def u9:XC→Code→Bool
  | .regV l _,.region _ ops true=>oC ops l.length
  | .regD _,.region _ ops true=>KZ ops
  | .regY _ _ _,.region _ ops false=>ops.toList.all vv
  | .regW _ segs last _,.region _ ops true=>oC ops (u7 segs++last).length&&Qu ops 0 [] segs&&(Ve ops (u7 segs++last).length (gb segs)&&Zv (gb segs) [] segs)
  | .regT _ segs last _,.region _ ops true=>oC ops (u7 segs++last).length&&Qu ops 0 [] segs&&(Ve ops (u7 segs++last).length (gb segs)&&Zv (gb segs) [] segs)
  | .seq x y,.seq c d=>u9 x c&&u9 y d
  | .cond _ x y,.cond _ c d=>u9 x c&&u9 y d
  | .block _ x,.block _ c=>u9 x c
  | .loop x,.loop c=>u9 x c
  | .gh x,c=>u9 x c
  | .scope x,.scope c=>u9 x c
  | .rgf _ _ _ x,.rangeFunc _ _ _ c=>u9 x c&&VX x&&zm c
  | .rga _ _ x y,.rangeFunc _ _ a c=>u9 x a&&u9 y c&&VX x&&VX y&&zm a&&zm c
  |_,_=>true
def xops (P:Program):Bool→List XO→List D→AH→HK→Prop
  |_,[],F,H,k=>k F H
  | m,x::r,F,H,k=>match x.g with
    |none=>xop P (!o0 x.op&&m) x F H fun F' H'=>xops P (!o0 x.op&&m) r F' H' k
    |some none=>xops P m r (qG F x.dst (.tup [])) H k
    | some (some (t,want))=>match F.getD t .any with
      | .bool b=>(b=want→xop P (!o0 x.op&&m) x (F.set t (.bool want)) H fun F' H'=>xops P (!o0 x.op&&m) r F' H' k)∧(b=(!want)→xops P m r (qG (F.set t (.bool (!want))) x.dst (.tup [])) H k)
      | .tup _=>xops P m r (qG F x.dst (.tup [])) H k
      |_=>False
theorem yp {F:List D} {t:Nat} {d:D} (h:F.getD t .any=d) (hd:d≠ .any):F.set t d=F:=by
  rcases Nat.lt_or_ge t F.length with h'|h'
  · rw [List.getD_eq_getElem?_getD,List.getElem?_eq_getElem h'] at h
    simp only [Option.getD_some] at h
    rw [←h,List.set_getElem_self]
  · rw [List.set_eq_of_length_le h']
section
variable {P:Program} {ops:List Oper} {o:Oper} {F:List D} {H:AH}
theorem Kr {k:HK}:yL P false (xof ops o) F H k=aop P ops o F H k:=by
  obtain ⟨dst,op,ty,pos,af,g⟩:=o
  unfold yL aop
  simp only [xof,Bool.false_eq_true,if_false,true_and,Bool.not_false,Bool.and_true]
  cases dst<;>cases op
  all_goals first
    |rfl
    |(rename_i x;cases x<;>rfl)
    |(rename_i x y;cases x<;>rfl)
    | (rename_i c
       obtain ⟨callee,cargs,ctys⟩:=c
       cases callee<;>first|rfl|(rename_i b;cases b<;>rfl))
    |(rename_i x y;cases y<;>rfl)
    | (rename_i x y;cases x<;>first
        |rfl
        |(dsimp only;generalize ev F _=e;cases e<;>rfl))
theorem VY {k:HK}:yL P true (xof ops o) F H k=jD P ops o F H (fun F'=>k F' H):=by
  obtain ⟨dst,op,ty,pos,af,g⟩:=o
  unfold yL jD
  simp only [xof,Bool.true_eq_false,if_true,false_and,if_false,Bool.not_true,Bool.and_false,Bool.false_eq_true]
  cases dst<;>cases op
  all_goals first
    |rfl
    |(rename_i x;cases x<;>rfl)
    |(rename_i x y;cases x<;>rfl)
    | (rename_i c
       obtain ⟨callee,cargs,ctys⟩:=c
       cases callee<;>first|rfl|(rename_i b;cases b<;>rfl))
    |(rename_i x y;cases y<;>rfl)
    | (rename_i x y;cases x<;>first
        |rfl
        |(dsimp only [aop];generalize ev F _=e;cases e<;>rfl))
theorem KX {F:List D} {t:Nat} {want:Bool} {A B:List D→Prop} {N T:Prop}:
    (match F.getD t .any with
      | .bool b=>(b=want→A (F.set t (.bool want)))∧(b=(!want)→B (F.set t (.bool (!want))))
      | .tup _=>T
      |_=>N)=
    (match F.getD t .any with
      | .bool b=>(b=want→A F)∧(b=(!want)→B F)
      | .tup _=>T
      |_=>N):=by
  generalize he:F.getD t .any=e
  cases e<;>try rfl
  rename_i b
  have h1:b=want→F.set t (.bool want)=F:=fun hb=>yp (by rw [he,hb]) (by simp)
  have h2:b=(!want)→F.set t (.bool (!want))=F:=fun hb=>yp (by rw [he,hb]) (by simp)
  simp only [eq_iff_iff]
  exact ⟨fun h=>⟨fun hb=>by rw [←h1 hb];exact h.1 hb,fun hb=>by rw [←h2 hb];exact h.2 hb⟩,fun h=>⟨fun hb=>by rw [h1 hb];exact h.1 hb,fun hb=>by rw [h2 hb];exact h.2 hb⟩⟩
theorem Jq {x:XO} {k:HK} {K:Nat→BK} {w:World} {a:Act} {Q:Exit→Act→World→Prop} (hs:St K w F H a.tmps) (hok:jq o=true) (he:KA x=xof ops o) (h:xop P false x F H k):o.wp P a w (OKd k K w a.defers) Q:=by
  unfold KA at he
  unfold xop at h
  cases hal:kE x.op with
  | none=>
    simp only [hal] at he h
    subst he
    rw [Kr] at h
    exact kS hs hok h
  | some op=>
    simp only [hal] at he h
    have ho:o.op=op:=(congrArg XO.op he).symm
    have hd:o.dst=x.dst:=(congrArg XO.dst he).symm
    obtain ⟨_,h⟩:=h
    unfold kE at hal
    unfold Gf at h
    split at hal
    · rename_i args tys hxo
      rw [hxo] at h
      simp only at h
      split at hal
      · rename_i l c t h1 h2
        simp only [Option.some.injEq] at hal
        simp only [h1,h2] at h
        rw [←hd] at h
        exact stp_mkH hs hok (ho.trans hal.symm) h
      · rename_i x1 y1 t u v h1 h2
        simp only [Option.some.injEq] at hal
        simp only [h1,h2] at h
        rw [←hd] at h
        exact stp_apH hs hok (ho.trans hal.symm) rfl rfl rfl h
      · rename_i x1 y1 t u v1 v2 h1 h2
        simp only [Option.some.injEq] at hal
        simp only [h1,h2] at h
        rw [←hd] at h
        obtain ⟨F',H',K',g1,g2,g3⟩:=h K w a.tmps hs
        have g4:aop P ops o F' H' k:=by
          simp only [aop,ho.trans hal.symm]
          exact g1
        refine Oper.wp_mono (fun a2 w2 h2=>?_) (gR g3 hok (ho.trans hal.symm) rfl g4)
        obtain ⟨F'',H'',K'',q1,q2,q3,q4⟩:=h2
        exact ⟨F'',H'',K'',q1,g2.trans q2,q3,q4⟩
      · cases hal
    · rename_i args tys hxo
      rw [hxo] at h
      simp only at h
      split at hal
      · rename_i m i t h1 h2
        simp only [Option.some.injEq] at hal
        simp only [h1,h2] at h
        rw [←hd] at h
        exact VJ hs hok (ho.trans hal.symm) h
      · rename_i m s v t h1 h2
        simp only [Option.some.injEq] at hal
        simp only [h1,h2] at h
        rw [←hd] at h
        obtain ⟨F',H',K',g1,g2,g3⟩:=h K w a.tmps hs
        have g4:aop P ops o F' H' k:=by
          simp only [aop,ho.trans hal.symm]
          exact g1.2
        refine Oper.wp_mono (fun a2 w2 h2=>?_) (uh g3 hok (ho.trans hal.symm) g4)
        obtain ⟨F'',H'',K'',q1,q2,q3,q4⟩:=h2
        exact ⟨F'',H'',K'',q1,g2.trans q2,q3,q4⟩
      · cases hal
    · rename_i args tys hxo
      rw [hxo] at h
      simp only at h
      split at hal
      · rename_i t is h2
        simp only [Option.some.injEq] at hal
        simp only [h2] at h
        rw [←hd] at h
        exact WN hs hok (ho.trans hal.symm) (by simpa using h)
      · cases hal
    · rename_i args tys hxo
      rw [hxo] at h
      simp only at h
      split at hal
      · rename_i t h2
        simp only [Option.some.injEq] at hal
        simp only [h2] at h
        rw [←hd] at h
        exact stp_bsR (ops:=ops) hs hok (ho.trans hal.symm) h
      · cases hal
    · rename_i args tys hxo
      rw [hxo] at h
      simp only at h
      split at hal
      · rename_i f as h2
        simp only [Option.some.injEq] at hal
        simp only [h2] at h
        rw [←hd] at h
        exact Vu hs hok (ho.trans hal.symm) rfl (by simpa using h)
      · cases hal
    · cases hal
theorem yY {k:HK} {K:Nat→BK} {w:World} {a:Act} {Q:Exit→Act→World→Prop} {opA:Array Oper} (hQ:∀a' w',OKd k K w a.defers a' w'→Q .normal a' w'):∀(l:List XO) (os:List Oper) (F:List D) (H:AH) (K1:Nat→BK) (w1:World) (a1:Act),l.map KA=os.map (xof opA.toList)→(∀o∈os,jq o=true)→St K1 w1 F H a1.tmps→FK K w K1 w1→a1.defers=a.defers→
    xops P false l F H k→wpList P opA Q os a1 w1
  | [],[],F,H,K1,w1,a1,_,_,hs,hfk,hd,h=>wpList_nil (hQ a1 w1 ⟨F,H,K1,h,hfk,hs,hd⟩)
  | [],o::os,F,H,K1,w1,a1,hl,_,hs,hfk,hd,h=>by simp at hl
  |x::r,[],F,H,K1,w1,a1,hl,_,hs,hfk,hd,h=>by simp at hl
  | x::r,o::os,F,H,K1,w1,a1,hl,hok,hs,hfk,hd,h=>by
    simp only [List.map_cons,List.cons.injEq] at hl
    obtain ⟨hx,hl⟩:=hl
    have hgo:∀F1,St K1 w1 F1 H a1.tmps→xop P false x F1 H (fun F' H'=>xops P false r F' H' k)→o.wp P a1 w1 (wpList P opA Q os) Q:=fun F1 hs h=>by
      refine Oper.wp_mono (fun a2 w2 h2=>?_) (Jq (ops:=opA.toList) (Q:=Q) hs (hok o (.head _)) hx h)
      obtain ⟨F',H',K',g1,g2,g3,g4⟩:=h2
      exact yY hQ r os F' H' K' w2 a2 hl (fun o ho=>hok o (.tail _ ho)) g3 (hfk.trans g2) (g4.trans hd) g1
    have hdst:x.dst=o.dst:=by
      have:=congrArg XO.dst hx
      unfold KA at this
      split at this<;>exact this
    have hgx:x.g=(xof opA.toList o).g:=by
      have:=congrArg XO.g hx
      unfold KA at this
      split at this<;>exact this
    have hskip:∀F1,St K1 w1 F1 H a1.tmps→xops P false r (qG F1 x.dst (.tup [])) H k→wpList P opA Q os (a1.put o.dst undef) w1:=fun F1 hs h=>
      yY hQ r os _ H K1 w1 _ hl (fun o ho=>hok o (.tail _ ho)) (by rw [hdst];exact w8 hs o.dst) hfk ((qy o.dst undef).trans hd) h
    have hw:=fun b=>k8 (ops:=opA) (o:=o) hs (b:=b)
    unfold gst at hw
    unfold wpList
    simp only [xops,hgx,Bool.and_false] at h
    cases hg:o.guard with
    | none=>
      simp only [xof,hg] at h
      simp only [hg] at hw
      rw [if_pos (hw true rfl)]
      exact .inl (hgo F hs h)
    | some g=>
      obtain ⟨j,want⟩:=g
      simp only [xof,hg] at h
      simp only [hg] at hw
      cases hdd:(opA.toList[j]?).bind (·.dst) with
      | none=>
        simp only [hdd] at h hw
        rw [if_neg (by rw [hw false rfl];simp)]
        exact hskip F hs h
      | some t=>
        simp only [hdd] at h hw
        split at h
        · rename_i b hb
          simp only [hb] at hw
          by_cases e:b=want
          · rw [if_pos (by rw [hw true (by simp [e])])]
            exact .inl (hgo F hs (by have:=h.1 e;rwa [yp (by rw [hb,e]) (by simp)] at this))
          · rw [if_neg (by rw [hw false (by simp [e])];simp)]
            have hbw:b=(!want):=by cases b<;>cases want<;>simp_all
            exact hskip F hs (by have:=h.2 hbw;rwa [yp (by rw [hb,hbw]) (by simp)] at this)
        · rename_i ds hb
          simp only [hb] at hw
          rw [if_neg (by rw [hw false rfl];simp)]
          exact hskip F hs h
        · exact h.elim
theorem uW {k:HK}:∀(l:List Oper) (F:List D) (H:AH),(∀o∈l,kE o.op=none)→xops P false (l.map (xof ops)) F H k=aops P ops l F H k
  | [],F,H,_=>rfl
  | o::r,F,H,hn=>by
    have ih:(fun F' H'=>xops P false (r.map (xof ops)) F' H' k)=fun F' H'=>aops P ops r F' H' k:=funext fun F'=>funext fun H'=>uW r F' H' (fun o ho=>hn o (.tail _ ho))
    have hx0:∀{F':List D} {H':AH} {k':HK},xop P false (xof ops o) F' H' k'=aop P ops o F' H' k':=fun {F' H' k'}=>by
      unfold xop
      have:kE (xof ops o).op=none:=hn o (.head _)
      rw [this]
      exact Kr
    simp only [List.map_cons,xops,Bool.and_false]
    unfold aops
    cases hg:o.guard with
    | none=>
      have hx:(xof ops o).g=none:=by simp [xof,hg]
      simp only [hx,hx0,ih]
    | some g=>
      obtain ⟨j,want⟩:=g
      simp only
      cases hd:(ops[j]?).bind (·.dst) with
      | none=>
        have hx:(xof ops o).g=some none:=by simp [xof,hg,hd]
        simp only [hx]
        exact uW r _ _ (fun o ho=>hn o (.tail _ ho))
      | some t=>
        have hx:(xof ops o).g=some (some (t,want)):=by simp [xof,hg,hd]
        simp only [hx,hx0,ih]
        have h1:∀F',xops P false (r.map (xof ops)) F' H k=aops P ops r F' H k:=fun F'=>uW r F' H (fun o ho=>hn o (.tail _ ho))
        simp only [h1]
        exact KX (A:=fun F=>aop P ops o F H fun F' H'=>aops P ops r F' H' k) (B:=fun F=>aops P ops r (qG F (xof ops o).dst (.tup [])) H k)
theorem VB {x:XO} {r:List XO} {k:HK} (h:o0 x.op=true) (hg:x.g=none):xops P true (x::r) F H k=xops P false (x::r) F H k:=by
  simp only [xops,hg,h,Bool.not_true,Bool.false_and]
theorem oy {k:HK}:∀(l:List Oper) (F:List D),(∀o∈l,kE o.op=none)→(∀o∈l,o0 o.op=true→o.guard=none)→xops P true (l.map (xof ops)) F H k=ya P ops (yx l) F H (fun F'=>aops P ops (vB l) F' H k)
  | [],F,_,_=>rfl
  | o::r,F,hn,hgd=>by
    cases hp:o0 o.op with
    | true=>
      have e1:yx (o::r)= []:=by simp [yx,hp]
      have e2:vB (o::r)=o::r:=by simp [vB,hp]
      rw [e1,e2,List.map_cons,VB (x:=xof ops o) hp (by simp [xof,hgd o (.head _) hp]),←List.map_cons,uW (o::r) F H hn]
      rfl
    | false=>
      have e1:yx (o::r)=o::yx r:=by simp [yx,hp]
      have e2:vB (o::r)=vB r:=by simp [vB,hp]
      rw [e1,e2]
      have hpx:o0 (xof ops o).op=false:=hp
      have h1:∀F',xops P true (r.map (xof ops)) F' H k=ya P ops (yx r) F' H (fun F'=>aops P ops (vB r) F' H k):=fun F'=>oy r F' (fun o ho=>hn o (.tail _ ho)) (fun o ho=>hgd o (.tail _ ho))
      have hx0:∀{F':List D} {k':HK},xop P true (xof ops o) F' H k'=jD P ops o F' H (fun F'=>k' F' H):=fun {F' k'}=>by
        unfold xop
        have:kE (xof ops o).op=none:=hn o (.head _)
        rw [this]
        exact VY
      simp only [List.map_cons,xops,hpx,Bool.not_false,Bool.true_and]
      unfold ya
      cases hg:o.guard with
      | none=>
        have hx:(xof ops o).g=none:=by simp [xof,hg]
        simp only [hx,hx0,h1]
      | some g=>
        obtain ⟨j,want⟩:=g
        simp only
        cases hd:(ops[j]?).bind (·.dst) with
        | none=>
          have hx:(xof ops o).g=some none:=by simp [xof,hg,hd]
          simp only [hx]
          exact h1 _
        | some t=>
          have hx:(xof ops o).g=some (some (t,want)):=by simp [xof,hg,hd]
          simp only [hx,hx0,h1]
          exact KX (A:=fun F=>jD P ops o F H fun F'=>ya P ops (yx r) F' H (fun F'=>aops P ops (vB r) F' H k)) (B:=fun F=>ya P ops (yx r) (qG F (xof ops o).dst (.tup [])) H (fun F'=>aops P ops (vB r) F' H k))
end
end Go.Aw
end
section
namespace Go.Aw
open Go Go.RowKit
section
variable {P:Program} {ops:List Oper} {o:Oper} {F:List D} {H:AH}
theorem op_inW {Q:Exit→Act→World→Prop} {n:Nat} {o:Oper} {a:Act} {w:World} {K:Act→World→Prop} (hd:vv o=true) (h:o.wp P a w K Q):o.wpIn Fence.wide n P a w K Q:=by
 refine ⟨fun _ _=>trivial,?_⟩
 rw [Oper.semAt_eq _ _ _ (KY hd)]
 unfold Oper.wp at h
 generalize (execOp a.eval o).run P w=r at h
 cases r with
 | ok x w'=>
  cases x<;>simp only [Oper.upon,Oper.uponIn] at h ⊢<;>first
   |exact h
   |exact h.elim
   |exact ⟨fun h=>(by cases h),callsIn_wide.2 h⟩
   |exact ⟨fun h=>(by cases h),fun c cs _=>let ⟨v,w',r,s⟩:=h c cs;⟨v,w',r,stepsIn_wide.2 s⟩⟩
 |halt x w'=>cases x<;>simp only [Oper.upon,Oper.uponIn] at h ⊢<;>first|exact h|exact h.elim
theorem vc {n:Nat} {rest:List Oper} {k:HK} {K:Nat→BK} {w:World} {a:Act} {Q:Exit→Act→World→Prop} {opA:Array Oper} (hQ:∀a' w',OKd k K w a.defers a' w'→wpListIn Fence.wide n P opA Q rest a' w'):∀(l:List XO) (os:List Oper) (F:List D) (H:AH) (K1:Nat→BK) (w1:World) (a1:Act),l.map KA=os.map (xof opA.toList)→(∀o∈os,jq o=true)→(∀o∈os,vv o=true)→St K1 w1 F H a1.tmps→FK K w K1 w1→a1.defers=a.defers→
  xops P false l F H k→wpListIn Fence.wide n P opA Q (os++rest) a1 w1
 | [],[],F,H,K1,w1,a1,_,_,_,hs,hfk,hd,h=>hQ a1 w1 ⟨F,H,K1,h,hfk,hs,hd⟩
 | [],o::os,F,H,K1,w1,a1,hl,_,_,hs,hfk,hd,h=>by simp at hl
 |x::r,[],F,H,K1,w1,a1,hl,_,_,hs,hfk,hd,h=>by simp at hl
 | x::r,o::os,F,H,K1,w1,a1,hl,hok,hnd,hs,hfk,hd,h=>by
  simp only [List.map_cons,List.cons.injEq] at hl
  obtain ⟨hx,hl⟩:=hl
  have hgo:∀F1,St K1 w1 F1 H a1.tmps→xop P false x F1 H (fun F' H'=>xops P false r F' H' k)→o.wpIn Fence.wide n P a1 w1 (wpListIn Fence.wide n P opA Q (os++rest)) Q:=fun F1 hs h=>by
   refine op_inW (hnd o (.head _)) (Oper.wp_mono (fun a2 w2 h2=>?_) (Jq (ops:=opA.toList) (Q:=Q) hs (hok o (.head _)) hx h))
   obtain ⟨F',H',K',g1,g2,g3,g4⟩:=h2
   exact vc hQ r os F' H' K' w2 a2 hl (fun o ho=>hok o (.tail _ ho)) (fun o ho=>hnd o (.tail _ ho)) g3 (hfk.trans g2) (g4.trans hd) g1
  have hdst:x.dst=o.dst:=by
   have:=congrArg XO.dst hx
   unfold KA at this
   split at this<;>exact this
  have hgx:x.g=(xof opA.toList o).g:=by
   have:=congrArg XO.g hx
   unfold KA at this
   split at this<;>exact this
  have hskip:∀F1,St K1 w1 F1 H a1.tmps→xops P false r (qG F1 x.dst (.tup [])) H k→wpListIn Fence.wide n P opA Q (os++rest) (a1.put o.dst undef) w1:=fun F1 hs h=>
   vc hQ r os _ H K1 w1 _ hl (fun o ho=>hok o (.tail _ ho)) (fun o ho=>hnd o (.tail _ ho)) (by rw [hdst];exact w8 hs o.dst) hfk ((qy o.dst undef).trans hd) h
  have hw:=fun b=>k8 (ops:=opA) (o:=o) hs (b:=b)
  unfold gst at hw
  rw [List.cons_append]
  unfold wpListIn
  simp only [xops,hgx,Bool.and_false] at h
  cases hg:o.guard with
  | none=>
   simp only [xof,hg] at h
   simp only [hg] at hw
   rw [if_pos (hw true rfl)]
   exact (hgo F hs h)
  | some g=>
   obtain ⟨j,want⟩:=g
   simp only [xof,hg] at h
   simp only [hg] at hw
   cases hdd:(opA.toList[j]?).bind (·.dst) with
   | none=>
    simp only [hdd] at h hw
    rw [if_neg (by rw [hw false rfl];simp)]
    exact ⟨fun _ _=>trivial,hskip F hs h⟩
   | some t=>
    simp only [hdd] at h hw
    split at h
    ·rename_i b hb
     simp only [hb] at hw
     by_cases e:b=want
     ·rw [if_pos (by rw [hw true (by simp [e])])]
      exact (hgo F hs (by have:=h.1 e;rwa [yp (by rw [hb,e]) (by simp)] at this))
     ·rw [if_neg (by rw [hw false (by simp [e])];simp)]
      have hbw:b=(!want):=by cases b<;>cases want<;>simp_all
      exact ⟨fun _ _=>trivial,hskip F hs (by have:=h.2 hbw;rwa [yp (by rw [hb,hbw]) (by simp)] at this)⟩
    ·rename_i ds hb
     simp only [hb] at hw
     rw [if_neg (by rw [hw false rfl];simp)]
     exact ⟨fun _ _=>trivial,hskip F hs h⟩
    ·exact h.elim
def YStep (P:Program) (l:Nat) (J:List D→(Nat→BK)→World→Prop) (pre:List D) (x:D):Prop:=∀(m:Nat) (K:Nat→BK) (w:World) (v:Value),KRel K w→J pre K w→RepV K w x v→
 YieldAt Fence.wide m P l #[v] w fun e w'=>e= .returned (.bool true)∧∃K',J (pre++ [x]) K' w'∧Keep (fun o=>∃j,o= .cell l j) noB K w K' w'∧KRel K' w'∧∃n j,K' l= .tok n (.cell l j)
def yldC (P:Program) (l:Nat) (x:D) (o:Option AO) (dst:Option Tmp) (F:List D) (H:AH) (k:HK):Prop:=match o with
 |some (.lp J pre)=>YStep P l J pre x∧k (qG F dst (.bool true)) (qF H l (.lp J (pre++ [x])))
 |_=>False
def Up (P:Program) (c:Call) (dst:Option Tmp) (F:List D) (H:AH) (k:HK):Prop:=match c.callee,c.args.toList with
 | .value f,[x]=>match rv F f with
  | .yld l=>yldC P l (rv F x) (qu H l) dst F H k
  |_=>False
 |_,_=>False
def Zo (P:Program) (y:XO) (F:List D) (H:AH) (k:HK):Prop:=match y.op with
 | .call c=>match y.g with
  |none=>Up P c y.dst F H k
  | some (some (t,want))=>match F.getD t .any with
   | .bool b=>(b=want→Up P c y.dst (F.set t (.bool want)) H k)∧(b=(!want)→k (qG (F.set t (.bool (!want))) y.dst (.tup [])) H)
   |_=>False
  |_=>False
 |_=>False
theorem RepV.yld_inv {K:Nat→BK} {w:World} {l:Nat} {v:Value} (h:RepV K w (.yld l) v):v= .func (.yield l) #[] #[]:=by cases h;rfl
theorem Vw {k:HK} {K:Nat→BK} {w:World} {a:Act} {n:Nat} {Q:Exit→Act→World→Prop} (hs:St K w F H a.tmps) (hok:jq o=true) {c:Call} (ho:o.op= .call c) (h:Up P c o.dst F H k):o.wpIn Fence.wide n P a w (OKd k K w a.defers) Q:=by
 unfold Up at h
 split at h
 ·rename_i f x hc hx
  split at h
  ·rename_i l hf
   unfold yldC at h
   split at h
   ·rename_i J pre hg
    obtain ⟨hy,h⟩:=h
    obtain ⟨⟨n0,j0,hl⟩,hJ,hJs⟩:=hs.hrel.ok l _ (j4 hg)
    have hxs:c.args=#[x]:=by apply Array.ext';simpa using hx
    have hops:o.op.operands=#[f,x]:=by rw [ho];simp [Op.operands,Call.operands,hc,hxs]
    obtain ⟨of,ox⟩:=UY hok hops
    have hfv:a.eval f= .func (.yield l) #[] #[]:=(hf▸hs.rep of).yld_inv
    obtain ⟨fn,tmps,asg,body,h1,h2⟩:=hy (n - 1) K w (a.eval x) hs.krel hJ (hs.rep ox)
    refine ⟨fun _ _=>trivial,?_⟩
    rw [Oper.semAt_eq _ _ _ (fun c' e=>by rw [ho] at e;cases e)]
    have hrun:(execOp a.eval o).run P w= .ok (.round l fn tmps asg body) w:=by
     simp only [execOp,ho,resolve,hc,hfv,hxs,Deferred.ofValue,Sem.run_bind,Sem.run_pure,Result.andThen_ok,invoke]
     simpa using h1
    rw [hrun]
    refine ⟨fun h=>(by cases h),h2.mono ?_⟩
    rintro e w' ⟨rfl,K',g1,g2,g3,g4⟩
    refine ⟨_,_,K',h,g2.fk (fun ⟨j,h⟩=>by cases h),hs.put g2 (fun i j ⟨q,h⟩=>by cases h) g3 ⟨by rw [ko];exact hs.hrel.nd,fun b' o' hm=>?_⟩ o.dst (fun i _=>RepV.viewO (.bool true)),qy _ _⟩
    rcases yu hs.hrel.nd hm with ⟨rfl,rfl⟩|⟨hne,hm⟩
    ·exact ⟨g4,g1,hJs⟩
    ·exact AO.keep g2 (fun h=>h) (fun j ⟨q,h⟩=>by injection h with h _;exact hne h) (hs.hrel.ok b' o' hm)
   ·exact h.elim
  ·exact h.elim
 ·exact h.elim
theorem YK {opA:Array Oper} {id:Nat} {pre post:List XO} {y:XO} {k:HK} {K:Nat→BK} {w:World} {a:Act} {Q:Exit→Act→World→Prop} (hs:St K w F H a.tmps)
  (hy:kE y.op=none) (he:opA.toList.map (xof opA.toList)=pre.map KA++y::post.map KA) (hok:∀o∈opA.toList,jq o=true) (hnd:∀o∈opA.toList,vv o=true)
  (hQ:∀a' w',OKd k K w a.defers a' w'→Q .normal a' w') (h:xops P false pre F H fun F' H'=>Zo P y F' H' fun F'' H''=>xops P false post F'' H'' k):(Code.region id opA false).wp P Q a w:=by
 refine (wpIn_wide (n:=1)).1 (wpIn_region_list ?_)
 obtain ⟨os1,os2,h1,h2,h3⟩:=List.map_eq_append_iff.1 he
 obtain ⟨o,os3,rfl,h4,h5⟩:=List.map_eq_cons_iff.1 h3
 rw [h1] at hok hnd ⊢
 refine vc (k:=fun F' H'=>Zo P y F' H' fun F'' H''=>xops P false post F'' H'' k) (K:=K) (w:=w) (a:=a) (fun a1 w1 ⟨F1,H1,K1,g1,g2,g3,g4⟩=>?_) pre os1 F H K w a h2.symm (fun o ho=>hok o (List.mem_append_left _ ho)) (fun o ho=>hnd o (List.mem_append_left _ ho)) hs (.refl K w) rfl h
 have hyok:=hok o (List.mem_append_right _ (.head _))
 have rest:∀F2 H2 K2 w2 a2,xops P false post F2 H2 k→FK K1 w1 K2 w2→St K2 w2 F2 H2 a2.tmps→a2.defers=a1.defers→wpListIn Fence.wide 1 P opA Q os3 a2 w2:=fun F2 H2 K2 w2 a2 q1 q2 q3 q4=>by
  have:=vc (rest:= []) (n:=1) (k:=k) (K:=K) (w:=w) (a:=a) (Q:=Q) (opA:=opA) (fun a' w' hh=>hQ a' w' hh) post os3 F2 H2 K2 w2 a2 h5.symm (fun o ho=>hok o (List.mem_append_right _ (.tail _ ho))) (fun o ho=>hnd o (List.mem_append_right _ (.tail _ ho))) q3 (g2.trans q2) (q4.trans g4) q1
  rwa [List.append_nil] at this
 have hdst:o.dst=y.dst:=congrArg XO.dst h4
 have hop:o.op=y.op:=congrArg XO.op h4
 have hw:=fun b=>k8 (ops:=opA) (o:=o) g3 (b:=b)
 unfold gst at hw
 unfold wpListIn
 unfold Zo at g1
 split at g1
 ·rename_i c hc
  have hoc:o.op= .call c:=hop.trans hc
  have go:∀F1',St K1 w1 F1' H1 a1.tmps→Up P c y.dst F1' H1 (fun F'' H''=>xops P false post F'' H'' k)→o.wpIn Fence.wide 1 P a1 w1 (wpListIn Fence.wide 1 P opA Q os3) Q:=fun F1' hs1 hh=>by
   rw [←hdst] at hh
   refine Oper.wpIn_mono (fun a2 w2 ⟨F2,H2,K2,q1,q2,q3,q4⟩=>rest F2 H2 K2 w2 a2 q1 q2 q3 q4) (Vw hs1 hyok hoc hh)
  have hg4:=congrArg XO.g h4
  cases hg:o.guard with
  | none=>
   simp only [xof,hg] at hg4
   simp only [hg] at hw
   rw [←hg4] at g1
   rw [if_pos (hw true rfl)]
   exact go F1 g3 g1
  | some g=>
   obtain ⟨j,want⟩:=g
   simp only [xof,hg] at hg4
   simp only [hg] at hw
   cases hdd:(opA.toList[j]?).bind (·.dst) with
   | none=>
    simp only [hdd] at hg4
    rw [←hg4] at g1
    exact g1.elim
   | some t=>
    simp only [hdd] at hg4
    simp only [hdd] at hw
    rw [←hg4] at g1
    simp only at g1
    split at g1
    ·rename_i b hb
     simp only [hb] at hw
     by_cases e:b=want
     ·rw [if_pos (by rw [hw true (by simp [e])])]
      exact go F1 g3 (by have:=g1.1 e;rwa [yp (by rw [hb,e]) (by simp)] at this)
     ·rw [if_neg (by rw [hw false (by simp [e])];simp)]
      have hbw:b=(!want):=by cases b<;>cases want<;>simp_all
      exact ⟨fun _ _=>trivial,rest _ H1 K1 w1 _ (by have:=g1.2 hbw;rwa [yp (by rw [hb,hbw]) (by simp)] at this) (.refl K1 w1) (by rw [←hdst];exact w8 g3 o.dst) (qy o.dst undef)⟩
    ·exact g1.elim
 ·exact g1.elim
end
end Go.Aw
end
