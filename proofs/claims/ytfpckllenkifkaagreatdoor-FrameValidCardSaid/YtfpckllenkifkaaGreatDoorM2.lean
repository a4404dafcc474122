/- Parts of the proof, one behind the other. -/
import Derived.Test.YtfpckllenkifkaaGreatDoorM1
import Derived.Below
import Derived.LoopNIn
import Derived.Scope
set_option linter.all false
set_option maxRecDepth 10000
set_option maxHeartbeats 16000000
open And renaming intro -> zA0
open Option renaming bind_eq_bind -> zA1, bind_eq_some_iff -> zA2, bind_some -> zA3, map_some -> zA5, map_eq_some_iff -> zA6
open Bool renaming and_eq_true -> zA4, false_eq_true -> zB7, and_self -> zD6
open List renaming getElem?_eq_getElem -> zA7, length_cons -> zB0, mem_cons -> zB1, map_cons -> zB3, mem_singleton -> zB4, mem_cons_of_mem -> zB5, mem_cons_self -> zB9, mem_of_getElem? -> zC2, all_eq_true -> zC4, getElem?_cons_zero -> zC5, getElem?_eq_none -> zC6, drop_zero -> zC7, length_append -> zC8, mem_append -> zC9, getElem?_cons_succ -> zD0, length_replicate -> zD2, eq_nil_of_length_eq_zero -> zD4, nil_append -> zD5, length_nil -> zD7, map_congr_left -> zD8, mem_map -> zE0, flatMap_cons -> zE1, append_nil -> zE2, length_take -> zE3, length_drop -> zE4
open Nat renaming le_refl -> zA8, zero_le -> zA9, le_of_ble_eq_true -> zB2, lt_or_ge -> zB6, le_trans -> zB8, zero_add -> zC0, lt_succ_self -> zC1, lt_of_lt_of_le -> zC3, min -> zD1, add_zero -> zD3, eq_of_beq_eq_true -> zD9

namespace Go.Ax
section
variable {P : Program} {ρ : Ren} {H : AHeap} {w : World}
theorem hasBody_run {f:FuncId} {args:Array Value} (h:hasBody P f=true):(callFunc f args).run P w=.ok (.enter f args) w:=by
 unfold hasBody at h
 split at h
 ·rename_i fn hf
  simp only[zA4]at h
  have h1:(fn.name == "runtime.NumGoroutine")=false:=by
   have:=zC4.1 h.2 fn (Array.mem_toList_iff.2 (Array.mem_of_getElem? hf))
   simpa using this
  have h2:fn.body.isNone=false:=by
   cases hb:fn.body with
   |none=>simp[hb]at h
   |some c=>rfl
  simp only[callFunc,Sem.run_bind,run_program,Result.andThen_ok,hf,h1,zB7,if_false,h2,Sem.run_pure]
 ·cases h
theorem enterN_run (r:Rel P ρ H w) {f:FuncId} {args:List Value} {x:ANext} (h:enterN P f args=some x):NOk P ρ H w (callFunc f (args.map ρ.val).toArray) x H:=by
 unfold enterN at h
 split at h
 ·rename_i hb
  simp only[Option.some.injEq]at h
  subst h
  exact⟨ρ,w,St.refl r,hasBody_run hb⟩
 ·cases h
theorem zipSet_run (ρ:Ren):∀ (ts:List Tmp) (vs:List Value) (e:RV),((ts.zip (vs.map ρ.val)).foldl (fun tmps (p:Tmp × Value)=>tmps.setIfInBounds p.1 p.2) (ρ.tmps e))=ρ.tmps (zipSet ts vs e)
 |[],vs,e=>by simp[zipSet]
 |t::ts,[],e=>by simp[zipSet]
 |t::ts,v::vs,e=>by
  simp only[zB3,List.zip_cons_cons,List.foldl_cons,zipSet,tmps_set]
  exact zipSet_run ρ ts vs _
theorem run_getLoop (r:Rel P ρ H w) {l:Nat} {lp:Loop} {o:Bool} {e:RV} (h:H.get l=some ⟨.loop lp,o,e⟩) :
  ∃ fn,w.heap[ρ.blk l]?=some (.loop {lp with fn:=fn,tmps:=ρ.tmps e,defers:=ρ.blk lp.defers}) /\
   (Instr.getLoop (ρ.blk l)).run P w=.ok {lp with fn:=fn,tmps:=ρ.tmps e,defers:=ρ.blk lp.defers} w:=by
 obtain⟨o',hw,hf⟩:=r.obj _ _ h
 simp only[Fits]at hf
 obtain⟨fn,rfl⟩:=hf
 refine⟨fn,hw,?_⟩
 simp[Instr.getLoop,getObj,Sem.run,hw]
theorem aYield_run (r:Rel P ρ H w) {l:Nat} {args:List Value} {x:ANext} (h:aYield H l args=some x):NOk P ρ H w (Instr.yield (ρ.blk l) (args.map ρ.val).toArray) x H:=by
 unfold aYield at h
 split at h
 ·rename_i lp o e hg
  split at h
  ·rename_i hlen
   simp only[Option.some.injEq]at h
   subst h
   obtain⟨fn,hw,hgl⟩:=run_getLoop r hg
   refine⟨ρ,w,St.refl r,fn,?_⟩
   have hz:=zipSet_run ρ lp.params.toList args e
   have hsz:(args.map ρ.val).toArray.size=lp.params.size:=by simpa using hlen
   simp only[Instr.yield,Sem.run_bind,hgl,Result.andThen_ok,hsz,ne_eq,not_true,if_false,Sem.run_pure]
   congr 2
   rw[<-hz,<-Array.foldl_toList]
   simp
  ·cases h
 ·cases h
theorem aRecv_run (r:Rel P ρ H w) {t:TypeId} {v x:Value} {ptr:Bool} (h:aRecv P H t v ptr=some x) (wrap:Option String) :
  (receiverAt t (.val (ρ.val v)) ptr wrap).run P w=.ok (ρ.val x) w:=by
 unfold aRecv at h
 split at h
 ·rename_i e hu
  simp only[Option.some.injEq]at h
  subst h
  simp[receiverAt,run_und hu,Place.get]
 ·rename_i e a hu
  obtain⟨n,off,hp⟩:=aLoad_ptr h
  simp only[Value.pointer.injEq,Option.some.injEq]at hp
  subst hp
  have hl:=aLoad_var r h
  cases wrap with
  |none=>simp[receiverAt,run_und hu,Place.get,val_ptr,asAddr,hl]
  |some s =>
   have hs:∀ b:Addr,(Builtin.ssaWrapNilChk_ #[t] t #[.pointer (some b),strVal "", strVal s]).run P w=.ok (.pointer (some b)) w:=fun _=>rfl
   simp[receiverAt,run_und hu,Place.get,val_ptr,asAddr,hl,hs]
 ·cases h
 ·rename_i d hnp hu hne
  simp only[Option.some.injEq]at h
  subst h
  cases d<;>first
   |(exact absurd rfl (hnp _))
   |simp[receiverAt,run_und hu,Place.get]
 ·cases h
theorem follow_nil (t:TypeId) (x:Place):(follow [] t x).run P w=.ok (t,x) w:=by simp[follow]
theorem aMethod_run (r:Rel P ρ H w) {t:TypeId} {name:String} {f:FuncId} {ptr:Bool} {v x:Value} (h:aMethod P t name=some (f,ptr)) (hx:aRecv P H t v ptr=some x) :
  (method (P.types.size+Made.depth) t (ρ.val v) name).run P w=.ok (f,ρ.val x) w:=by
 obtain⟨k,hk⟩:∃ k,P.types.size+Made.depth=k+1:=⟨P.types.size+(Made.depth-1),by
  have:0<Made.depth:=by decide
  omega⟩
 rw[hk]
 unfold aMethod at h
 split at h
 ·rename_i i hi
  split at h
  ·rename_i m hm
   split at h
   ·rename_i hp
    have hp':m.path.toList=[]:=by simpa using hp
    simp only[method,Sem.run_bind,run_info hi,Result.andThen_ok,hm,hp',follow_nil,h,aRecv_run r hx,Sem.run_pure]
   ·cases h
  ·cases h
 ·cases h
theorem aInvoke_run (r:Rel P ρ H w) {fn:Fn} {args captured:List Value} {x:ANext} (h:aInvoke P H fn args captured=some x) :
  NOk P ρ H w (invoke (.fn (ρ.fn fn) (captured.map ρ.val).toArray) (args.map ρ.val).toArray) x H:=by
 unfold aInvoke at h
 split at h
 ·rename_i f args
  have:=enterN_run r h
  simpa[invoke,Ren.fn]using this
 ·rename_i l args
  have:=aYield_run r h
  simpa[invoke,Ren.fn]using this
 ·rename_i name t v rest
  simp only[zA1,zA2]at h
  obtain⟨⟨f,ptr⟩,hm,y,hy,h⟩:=h
  obtain⟨ρ1,w1,hst,hr⟩:=enterN_run r h
  refine⟨ρ1,w1,hst,?_⟩
  have hmr:=aMethod_run r hm hy
  have e1:((Value.iface t v::rest).map ρ.val).toArray[0]?=some (.iface t (ρ.val v)):=by simp[Ren.val]
  have e2:((Value.iface t v::rest).map ρ.val).toArray.extract 1 ((Value.iface t v::rest).map ρ.val).toArray.size=(rest.map ρ.val).toArray:=by
   apply Array.ext'
   simp
   exact List.take_of_length_le (by simp)
  have e3:#[ρ.val y]++(rest.map ρ.val).toArray=((y::rest).map ρ.val).toArray:=by
   apply Array.ext'
   simp
  simp only[invoke,Ren.fn,e1,e2,callMethod,Sem.run_bind,run_program,Result.andThen_ok,hmr,e3]
  exact hr
 ·rename_i t path f ptr v rest
  split at h
  ·rename_i hp
   have hp':path.toList=[]:=by simpa using hp
   simp only[zA1,zA2]at h
   obtain⟨y,hy,h⟩:=h
   obtain⟨ρ1,w1,hst,hr⟩:=enterN_run r h
   refine⟨ρ1,w1,hst,?_⟩
   have e1:((v::rest).map ρ.val).toArray[0]?=some (ρ.val v):=by simp
   have e2:((v::rest).map ρ.val).toArray.extract 1 ((v::rest).map ρ.val).toArray.size=(rest.map ρ.val).toArray:=by
    apply Array.ext'
    simp
    exact List.take_of_length_le (by simp)
   have e3:#[ρ.val y]++(rest.map ρ.val).toArray=((y::rest).map ρ.val).toArray:=by
    apply Array.ext'
    simp
   simp only[invoke,Ren.fn,e1,e2,receiverVia,hp',Sem.run_bind,follow_nil,Result.andThen_ok,aRecv_run r hy,e3]
   exact hr
  ·cases h
 ·cases h
theorem callV_run (r:Rel P ρ H w) {f:Value} {args:List Value} {x:ANext} {H1:AHeap} (h:callV P H f args=some (x,H1)) :
  NOk P ρ H w (do let d <-Deferred.ofValue (ρ.val f) (args.map ρ.val).toArray; invoke d.target d.args) x H1:=by
 unfold callV at h
 split at h
 ·rename_i fn first captured
  simp only[zA6,Prod.mk.injEq]at h
  obtain⟨y,hy,rfl,rfl⟩:=h
  obtain⟨ρ1,w1,hst,hr⟩:=aInvoke_run r hy
  refine⟨ρ1,w1,hst,?_⟩
  have e1:ρ.val (.func fn first captured)=.func (ρ.fn fn) (first.map ρ.val) (captured.map ρ.val):=by rw[Ren.val,Ren.valA_eq,Ren.valA_eq]
  have e2:first.map ρ.val++(args.map ρ.val).toArray=((first.toList++args).map ρ.val).toArray:=by apply Array.ext'; simp
  have e3:captured.map ρ.val=(captured.toList.map ρ.val).toArray:=by apply Array.ext'; simp
  rw[e1]
  simp only[Deferred.ofValue,Sem.run_bind,Sem.run_pure,Result.andThen_ok,e2,e3]
  exact hr
 ·cases h
theorem externV_run (r:Rel P ρ H w) {f:Value} {args:List Value} {x:ANext} {H1:AHeap} (h:externV P H f args=some (x,H1)) :
  NOk P ρ H w (do let d <-Deferred.ofValue (ρ.val f) (args.map ρ.val).toArray; invoke d.target d.args) x H1:=by
 have key:∀ {g:FuncId},externW P H g args=some (x,H1)->NOk P ρ H w (do let d <-Deferred.ofValue (ρ.val (.func (.func g) #[] #[])) (args.map ρ.val).toArray; invoke d.target d.args) x H1:=by
  intro g hw
  have:=externW_run r hw
  have e1:ρ.val (.func (.func g) #[] #[])=.func (.func g) #[] #[]:=by simp[Ren.val,Ren.fn,Ren.valA,Ren.valL]
  rw[e1]
  obtain⟨ρ1,w1,hst,hr⟩:=this
  refine⟨ρ1,w1,hst,?_⟩
  simp only[Deferred.ofValue,Sem.run_bind,Sem.run_pure,Result.andThen_ok,invoke]
  simpa using hr
 unfold externV at h
 split at h
 ·rename_i g
  split at h
  ·rename_i ha
   split at h
   ·rename_i v hv
    split at h
    ·rename_i hav
     simp only[Option.some.injEq,Prod.mk.injEq]at h
     obtain⟨rfl,rfl⟩:=h
     refine⟨ρ,w,St.refl r,?_⟩
     have e1:(args.map ρ.val)=args:=by rw[<-Ren.valL_eq]; exact valL_af ρ args ha
     rw[e1]
     have e2:=peval_run _ hv w
     simp only[NRun,Ren.val,Ren.fn,Ren.valA,Ren.valL,Deferred.ofValue,Sem.run_bind,Sem.run_pure,Result.andThen_ok,invoke,val_af ρ v hav]
     simpa using e2
    ·cases h
   ·exact key h
  ·exact key h
 ·cases h
theorem xCall_run (r:Rel P ρ H w) {a:AAct} {c:Call} {ty:TypeId} {x:ANext} {H1:AHeap} (h:xCall c P a H=some (x,H1)) :
  NOk P ρ H w (do let d <-resolve (ρ.act a).eval c ty; invoke d.target d.args) x H1:=by
 simp only[xCall,zA1,zA2]at h
 obtain⟨args,hargs,h⟩:=h
 have hA:c.args.map (ρ.act a).eval=(args.map ρ.val).toArray:=by
  apply Array.ext'
  rw[Array.toList_map]
  exact aevals_run r hargs
 split at h
 ·rename_i b hc
  simp only[rvh,zA6,Prod.mk.injEq]at h
  obtain⟨⟨v,H2⟩,hv,rfl,rfl⟩:=h
  obtain⟨ρ1,w1,hst,hr⟩:=aBuiltin_run (ty:=ty) (cs:=c.args.map fun|.const _=>true|_=>false) r hv
  refine⟨ρ1,w1,hst,?_⟩
  simp only[resolve,hc,Sem.run_bind,Sem.run_pure,Result.andThen_ok,invoke,hA]
  exact hr
 ·rename_i recv name hc
  simp only[zA2,zA6,Prod.mk.injEq]at h
  obtain⟨rv,hrv,y,hy,rfl,rfl⟩:=h
  obtain⟨ρ1,w1,hst,hr⟩:=aInvoke_run r hy
  refine⟨ρ1,w1,hst,?_⟩
  have e1:#[ρ.val rv]++(args.map ρ.val).toArray=((rv::args).map ρ.val).toArray:=by apply Array.ext'; simp
  simp only[resolve,hc,Sem.run_bind,Sem.run_pure,Result.andThen_ok,hA,aeval_run r hrv,e1]
  simpa[Ren.fn]using hr
 ·rename_i f hc
  simp only[zA2]at h
  obtain⟨fv,hfv,h⟩:=h
  have hmain:NOk P ρ H w (do let d <-Deferred.ofValue (ρ.val fv) (args.map ρ.val).toArray; invoke d.target d.args) x H1:=by
   split at h
   ·rename_i y hy
    simp only[Option.some.injEq]at h
    subst h
    exact callV_run r hy
   ·exact externV_run r h
  simp only[resolve,hc,hA,aeval_run r hfv]
  exact hmain
theorem run_skip {s:Sem Unit} {w1:World} (h:s.run P w=.ok () w1):(do s; pure Next.skip:Sem Next).run P w=.ok .skip w1:=by simp[h]
theorem nilV_run (r:Rel P ρ H w) {v:Value} {x:ANext} {H1:AHeap} (h:nilV P H v=some (x,H1)) {o:Oper} {y:Operand} {e:Operand->Value} (he:e y=ρ.val v) (ho:o.op=.nilCheck y) :
  NOk P ρ H w (execOp e o) x H1:=by
 have hpanic:∀ (α:Type),(runtimePanic .nilDeref:Sem α).run P w=.halt (.panic (nilPanic P)) w:=fun α=>rfl
 have haf:ρ.val (nilPanic P)=nilPanic P:=val_af ρ _ rfl
 unfold nilV at h
 split at h
 ·simp only[Option.some.injEq,Prod.mk.injEq]at h
  obtain⟨rfl,rfl⟩:=h
  refine⟨ρ,w,St.refl r,?_⟩
  simp only[NRun,execOp,ho,he,Ren.val,haf]
  exact hpanic _
 ·simp only[Option.some.injEq,Prod.mk.injEq]at h
  obtain⟨rfl,rfl⟩:=h
  refine⟨ρ,w,St.refl r,?_⟩
  simp only[NRun,execOp,ho,he,Ren.val,haf]
  exact hpanic _
 ·simp only[Option.some.injEq,Prod.mk.injEq]at h
  obtain⟨rfl,rfl⟩:=h
  refine⟨ρ,w,St.refl r,?_⟩
  simp only[NRun,execOp,ho,he,Ren.val,haf]
  exact hpanic _
 ·cases h
 ·cases h
 ·rename_i h1 h2 h3 h4 h5
  simp only[Option.some.injEq,Prod.mk.injEq]at h
  obtain⟨rfl,rfl⟩:=h
  refine⟨ρ,w,St.refl r,?_⟩
  simp only[NRun,execOp,ho,he]
  cases v with
  |pointer a=>cases a with
   |none=>exact absurd rfl h1
   |some a=>simp[Ren.val]
  |nilIface=>exact absurd rfl h2
  |nilFunc=>exact absurd rfl h3
  |func f a b =>
   cases f with
   |method n=>exact absurd rfl (h4 _ _ _)
   |_=>simp[Ren.val,Ren.fn]
  |slice a _ _=>cases a<;>simp[Ren.val]
  |map a=>cases a<;>simp[Ren.val]
  |chan a=>exact absurd rfl (h5 a)
  |_=>simp[Ren.val]
theorem aop_run (r:Rel P ρ H w) {a:AAct} {o:Oper} {x:ANext} {H1:AHeap} (h:aop o.op P a H=some (x,H1)):NOk P ρ H w (execOp (ρ.act a).eval o) x H1/\∀ c,o.op≠.defer c:=by
 obtain⟨dst,op,ty,pos,after,guard⟩:=o
 simp only at h
 cases op with
 |move y =>
  simp only[aop,xMove,rv,zA6,Prod.mk.injEq]at h
  obtain⟨v,hv,rfl,rfl⟩:=h
  exact⟨⟨ρ,w,St.refl r,by simp[NRun,execOp,aeval_run r hv]⟩,fun c=>by simp⟩
 |assign y =>
  simp only[aop,xMove,rv,zA6,Prod.mk.injEq]at h
  obtain⟨v,hv,rfl,rfl⟩:=h
  exact⟨⟨ρ,w,St.refl r,by simp[NRun,execOp,aeval_run r hv]⟩,fun c=>by simp⟩
 |pick c y z =>
  simp only[aop,xPick,zA1,zA2]at h
  obtain⟨b,hb,h⟩:=h
  split at h
  ·simp only[rv,zA6,Prod.mk.injEq]at h
   obtain⟨v,hv,rfl,rfl⟩:=h
   exact⟨⟨ρ,w,St.refl r,by simp[NRun,execOp,aeval_run r hv,aeval_run r hb,Ren.val,asBool]⟩,fun c=>by simp⟩
  ·simp only[rv,zA6,Prod.mk.injEq]at h
   obtain⟨v,hv,rfl,rfl⟩:=h
   exact⟨⟨ρ,w,St.refl r,by simp[NRun,execOp,aeval_run r hv,aeval_run r hb,Ren.val,asBool]⟩,fun c=>by simp⟩
  ·cases h
 |alloc t =>
  simp only[aop,xAlloc,xBox,zA1,zA2,Option.some.injEq,Prod.mk.injEq]at h
  obtain⟨z,hz,g,hg,rfl,rfl⟩:=h
  obtain⟨hzr,hza⟩:=run_zeroOf (w:=w) hz
  refine⟨⟨_,_,aNew_shut r hg,?_⟩,fun c=>by simp⟩
  simp only[NRun,execOp,Instr.alloc,Sem.run_bind,hzr,Result.andThen_ok,newVar,newRow,run_newObj,Sem.run_pure,val_new,af_list ρ hza]
  rfl
 |box t y =>
  simp only[aop,xBoxOp,xBox,zA1,zA2,Option.some.injEq,Prod.mk.injEq]at h
  obtain⟨z,hz,g,hg,rfl,rfl⟩:=h
  refine⟨⟨_,_,aNew_shut r hg,?_⟩,fun c=>by simp⟩
  have hm:(ρ.val z).cells=(z.cells.toList.map ρ.val).toArray:=by rw[Ren.val_cells]; apply Array.ext'; simp
  simp only[NRun,execOp,Instr.box,Sem.run_bind,aeval_run r hz,Result.andThen_ok,newVar,newRow,run_newObj,Sem.run_pure,val_new,hm]
  rfl
 |build t ps =>
  simp only[aop,xBuild,rv,zA1,zA2,zA6,Prod.mk.injEq]at h
  obtain⟨vs,hvs,v,hv,rfl,rfl⟩:=h
  have hp:(ps.map fun (p:Nat × Operand)=>(p.1,(ρ.act a).eval p.2))=(vs.map fun p=>(p.1,ρ.val p.2)).toArray:=by
   apply Array.ext'
   rw[Array.toList_map]
   exact pairs_run r hvs
  refine⟨?_,fun c=>by simp⟩
  simp only[execOp,hp]
  exact NOk.val r (aBuild_run hv)
 |buildSlice t n ps =>
  simp only[aop,xBuildSlice,rvh,zA1,zA2,zA6,Prod.mk.injEq]at h
  obtain⟨vs,hvs,⟨v,H2⟩,hv,rfl,rfl⟩:=h
  have hp:(ps.map fun (p:Nat × Operand)=>(p.1,(ρ.act a).eval p.2))=(vs.map fun p=>(p.1,ρ.val p.2)).toArray:=by
   apply Array.ext'
   rw[Array.toList_map]
   exact pairs_run r hvs
  refine⟨?_,fun c=>by simp⟩
  simp only[execOp,hp]
  exact NOk.ofV (aBuildSlice_run r hv)
 |load t y =>
  simp only[aop,xLoad,rv,zA1,zA2,zA6,Prod.mk.injEq]at h
  obtain⟨p,hp,v,hv,rfl,rfl⟩:=h
  refine⟨?_,fun c=>by simp⟩
  simp only[execOp,aeval_run r hp]
  exact NOk.val r (aLoad_run r hv)
 |store t y z =>
  simp only[aop,xStore,ruh,zA1,zA2,zA6,Prod.mk.injEq]at h
  obtain⟨p,hp,q,hq,g,hg,rfl,rfl⟩:=h
  obtain⟨w1,hst,hrun⟩:=aStore_run r hg
  refine⟨⟨ρ,w1,hst,?_⟩,fun c=>by simp⟩
  simp only[NRun,execOp,aeval_run r hp,aeval_run r hq]
  exact run_skip hrun
 |nilCheck y =>
  simp only[aop,xNil,zA1,zA2]at h
  obtain⟨v,hv,h⟩:=h
  exact⟨nilV_run r h (aeval_run r hv) rfl,fun c=>by simp⟩
 |binOp op t y z t2 =>
  simp only[aop,xBin,zA1,zA2]at h
  obtain⟨p,hp,q,hq,h⟩:=h
  refine⟨?_,fun c=>by simp⟩
  simp only[execOp,aeval_run r hp,aeval_run r hq]
  exact NOk.of (binV_run r h)
 |unOp op t y =>
  simp only[aop,xUn,zA1,zA2]at h
  obtain⟨p,hp,h⟩:=h
  refine⟨?_,fun c=>by simp⟩
  simp only[execOp,aeval_run r hp]
  exact NOk.of (unV_run r h)
 |makeInterface t y =>
  simp only[aop,xIface,zA1,zA2]at h
  obtain⟨p,hp,h⟩:=h
  unfold ifaceV at h
  split at h
  ·cases h
  ·rename_i d hne hu
   simp only[Option.some.injEq,Prod.mk.injEq]at h
   obtain⟨rfl,rfl⟩:=h
   refine⟨?_,fun c=>by simp⟩
   simp only[execOp,aeval_run r hp]
   refine NOk.val r ?_
   cases d<;>first
    |(exact absurd rfl (hne _))
    |simp[Instr.makeInterface,run_und hu,Ren.val]
  ·cases h
 |makeFunc fn first captured =>
  simp only[aop,xFunc,zA1,zA2]at h
  obtain⟨p,hp,q,hq,h⟩:=h
  have e1:first.map (ρ.act a).eval=(p.map ρ.val).toArray:=by apply Array.ext'; rw[Array.toList_map]; exact aevals_run r hp
  have e2:captured.map (ρ.act a).eval=(q.map ρ.val).toArray:=by apply Array.ext'; rw[Array.toList_map]; exact aevals_run r hq
  refine⟨?_,fun c=>by simp⟩
  unfold funcV at h
  split at h
  ·cases h
  ·rename_i hne
   simp only[Option.some.injEq,Prod.mk.injEq]at h
   obtain⟨rfl,rfl⟩:=h
   simp only[execOp,e1,e2]
   refine NOk.val r ?_
   cases fn<;>first
    |(exact absurd rfl (hne _))
    |simp[Instr.makeFunc,Ren.val,Ren.fn,Ren.valA,Ren.valL_eq]
 |makeSlice t l c =>
  simp only[aop,xMakeSlice,rvh,zA1,zA2,zA6,Prod.mk.injEq]at h
  obtain⟨p,hp,q,hq,⟨v,H2⟩,hv,rfl,rfl⟩:=h
  refine⟨?_,fun c=>by simp⟩
  simp only[execOp,aeval_run r hp,aeval_run r hq]
  exact NOk.ofV (aMakeSlice_run r hv)
 |slice t y lo hi mx =>
  simp only[aop,xSlice,rvh,zA1,zA2,zA6,Prod.mk.injEq]at h
  obtain⟨p,hp,l,hl,hh,hhh,m,hm,⟨v,H2⟩,hv,rfl,rfl⟩:=h
  refine⟨?_,fun c=>by simp⟩
  simp only[execOp,aeval_run r hp,optEval_run r hl,optEval_run r hhh,optEval_run r hm]
  exact NOk.ofV (aSlice_run r hv)
 |fieldAddr t y f =>
  simp only[aop,xFieldAddr,rv,zA1,zA2,zA6,Prod.mk.injEq]at h
  obtain⟨p,hp,v,hv,rfl,rfl⟩:=h
  refine⟨?_,fun c=>by simp⟩
  simp only[execOp,aeval_run r hp]
  exact NOk.val r (aFieldAddr_run hv)
 |field t y f =>
  simp only[aop,xField,rv,zA1,zA2,zA6,Prod.mk.injEq]at h
  obtain⟨p,hp,v,hv,rfl,rfl⟩:=h
  refine⟨?_,fun c=>by simp⟩
  simp only[execOp,aeval_run r hp]
  exact NOk.val r (aField_run hv)
 |indexAddr t y i =>
  simp only[aop,xIndexAddr,rv,zA1,zA2,zA6,Prod.mk.injEq]at h
  obtain⟨p,hp,q,hq,v,hv,rfl,rfl⟩:=h
  refine⟨?_,fun c=>by simp⟩
  simp only[execOp,aeval_run r hp,aeval_run r hq]
  exact NOk.val r (aIndexAddr_run hv)
 |index t y i =>
  simp only[aop,xIndex,zA1,zA2]at h
  obtain⟨p,hp,q,hq,h⟩:=h
  refine⟨?_,fun c=>by simp⟩
  simp only[execOp,aeval_run r hp,aeval_run r hq]
  exact NOk.of (indexV_run r h)
 |typeAssert y xt t ok =>
  simp only[aop,xTypeAssert,rv,zA1,zA2,zA6,Prod.mk.injEq]at h
  obtain⟨p,hp,v,hv,rfl,rfl⟩:=h
  refine⟨?_,fun c=>by simp⟩
  simp only[execOp,aeval_run r hp]
  exact NOk.val r (aTypeAssert_run hv)
 |extract y i =>
  simp only[aop,xExtract,zA1,zA2]at h
  obtain⟨p,hp,h⟩:=h
  unfold extractV at h
  split at h
  ·rename_i vs
   simp only[rv,zA6,Prod.mk.injEq]at h
   obtain⟨v,hv,rfl,rfl⟩:=h
   refine⟨?_,fun c=>by simp⟩
   simp only[execOp,aeval_run r hp]
   refine NOk.val r ?_
   have hv':vs[i]?=some v:=by simpa using hv
   simp[Ren.val,Ren.valA_eq,Instr.extract,hv']
  ·cases h
 |call c =>
  simp only[aop]at h
  exact⟨by simp only[execOp]; exact xCall_run r h,fun c=>by simp⟩
 |panic y =>
  simp only[aop,xPanic,zA1,zA2]at h
  obtain⟨p,hp,h⟩:=h
  unfold panicV at h
  split at h
  ·simp only[Option.some.injEq,Prod.mk.injEq]at h
   obtain⟨rfl,rfl⟩:=h
   refine⟨⟨ρ,w,St.refl r,?_⟩,fun c=>by simp⟩
   simp[NRun,execOp,aeval_run r hp,Ren.val,Instr.panic]
  ·cases h
 |convert s d y =>
  simp only[aop,xConvert,rvh,zA1,zA2,zA6,Prod.mk.injEq]at h
  obtain⟨p,hp,⟨v,H2⟩,hv,rfl,rfl⟩:=h
  refine⟨?_,fun c=>by simp⟩
  simp only[execOp,aeval_run r hp]
  exact NOk.ofV (aConvert_run r hv)
 |makeMap t m =>
  refine⟨?_,fun c=>by simp⟩
  simp only[aop,xMakeMap]at h
  cases m with
  |none =>
   simp only[mapNew,Option.some.injEq,Prod.mk.injEq]at h
   obtain⟨rfl,rfl⟩:=h
   exact NOk.ofV (mapNew_run r)
  |some y =>
   simp only[zA1,zA2]at h
   obtain⟨d,hu,h⟩:=h
   split at h
   ·rename_i key elem
    simp only[zA2]at h
    obtain⟨q,hq,h⟩:=h
    split at h
    ·rename_i n
     simp only[mapNew,Option.some.injEq,Prod.mk.injEq]at h
     obtain⟨rfl,rfl⟩:=h
     obtain⟨ρ1,w1,hst,hr⟩:=mapNew_run r
     refine NOk.ofV ⟨ρ1,w1,hst,?_⟩
     rw[<-hr]
     simp[Instr.makeMap,aeval_run r hq,run_und hu,Ren.val,asInt,asIntOf]
    ·cases h
   ·cases h
 |lookup t y k ok =>
  simp only[aop,xLookup,rv,zA1,zA2,zA6,Prod.mk.injEq]at h
  obtain⟨p,hp,q,hq,v,hv,rfl,rfl⟩:=h
  refine⟨?_,fun c=>by simp⟩
  simp only[execOp,aeval_run r hp,aeval_run r hq]
  exact NOk.val r (aLookup_run r hv)
 |mapUpdate t m k y =>
  simp only[aop,xMapUpdate,ruh,zA1,zA2,zA6,Prod.mk.injEq]at h
  obtain⟨p,hp,q,hq,s,hs,H2,hv,rfl,rfl⟩:=h
  refine⟨?_,fun c=>by simp⟩
  obtain⟨w1,hst,hr⟩:=aMapUpdate_run r hv
  exact⟨ρ,w1,hst,by simp[NRun,execOp,aeval_run r hp,aeval_run r hq,aeval_run r hs,hr]⟩
 |insert t m k y =>
  simp only[aop,xMapUpdate,ruh,zA1,zA2,zA6,Prod.mk.injEq]at h
  obtain⟨p,hp,q,hq,s,hs,H2,hv,rfl,rfl⟩:=h
  refine⟨?_,fun c=>by simp⟩
  obtain⟨w1,hst,hr⟩:=aMapUpdate_run r hv
  exact⟨ρ,w1,hst,by simp[NRun,execOp,aeval_run r hp,aeval_run r hq,aeval_run r hs,hr]⟩
 |range t y =>
  simp only[aop,xRange,rvh,zA1,zA2,zA6,Prod.mk.injEq]at h
  obtain⟨p,hp,⟨v,H2⟩,hv,rfl,rfl⟩:=h
  refine⟨?_,fun c=>by simp⟩
  simp only[execOp,aeval_run r hp]
  exact NOk.ofV (aRange_run r hv)
 |next y s =>
  simp only[aop,xNext,rvh,zA1,zA2,zA6,Prod.mk.injEq]at h
  obtain⟨p,hp,⟨v,H2⟩,hv,rfl,rfl⟩:=h
  refine⟨?_,fun c=>by simp⟩
  simp only[execOp,aeval_run r hp]
  exact NOk.ofV (aNext_run r hv)
 |_=>simp[aop,xNone]at h
end
def scD (N:Nat) (d:Deferred):Prop :=
 (∃ r,d=⟨.collected r,#[]⟩/\r<N)\/∃ f cap as0,d=⟨.fn (.func f) cap,as0⟩/\scbA N cap=true/\scbA N as0=true
theorem scD.mono {N M:Nat} {d:Deferred} (h:scD N d) (hle:N<=M):scD M d:=by
 rcases h with⟨r,e,hr⟩|⟨f,cap,as0,e,h1,h2⟩
 ·exact .inl ⟨r,e,by omega⟩
 ·exact .inr ⟨f,cap,as0,e,scbA_mono hle _ h1,scbA_mono hle _ h2⟩
theorem dfr_ext {N:Nat} {ρ ρ':Ren} (e:Ext N ρ ρ') {d:Deferred} (h:scD N d):ρ'.dfr d=ρ.dfr d:=by
 rcases h with⟨r,rfl,hr⟩|⟨f,cap,as0,rfl,h1,h2⟩
 ·simp[Ren.dfr,e.blk r hr]
 ·simp[Ren.dfr,Ren.fn,valA_ext e _ h1,valA_ext e _ h2]
def scA (N:Nat) (a:AAct):Prop:=(∀ i,i<a.env.n->scb N (a.env.get i)=true)/\∀ d∈a.defers,scD N d
theorem scA.mono {N M:Nat} {a:AAct} (h:scA N a) (hle:N<=M):scA M a :=
 ⟨fun i hi=>scb_mono hle _ (h.1 i hi),fun d hd=>(h.2 d hd).mono hle⟩
theorem act_ext {N:Nat} {ρ ρ':Ren} (e:Ext N ρ ρ') {a:AAct} (h:scA N a):ρ'.act a=ρ.act a:=by
 unfold Ren.act
 rw[Ren.tmps_ext e _ h.1]
 congr 1
 apply zD8
 intro d hd
 exact dfr_ext e (h.2 d hd)
theorem scA.put {N:Nat} {a:AAct} (h:scA N a) (dst:Option Tmp) {v:Value} (hv:scb N v=true):scA N (a.put dst v):=by
 cases dst with
 |none=>exact h
 |some d =>
  simp only[AAct.put_eq]
  split
  ·refine⟨fun i hi=>?_,h.2⟩
   simp only[RV.n_set]at hi
   simp only[RV.get_set]
   split
   ·exact hv
   ·exact h.1 i hi
  ·exact h
theorem aeval_sc {P:Program} {N:Nat} {a:AAct} (hg:P.globals.size<=N) (hs:scA N a) {x:Operand} {v:Value} (h:aeval P a x=some v):scb N v=true:=by
 cases x with
 |tmp t =>
  simp only[aeval,Option.some.injEq]at h
  subst h
  unfold AAct.tmp
  split
  ·rename_i hb; exact hs.1 t (blt_lt hb)
  ·exact scb_undef N
 |const c =>
  simp only[aeval]at h
  split at h
  ·rename_i ha
   simp only[Option.some.injEq]at h
   subst h
   exact scb_of_af _ ha
  ·cases h
 |global g =>
  simp only[aeval]at h
  split at h
  ·rename_i hb
   simp only[Option.some.injEq]at h
   subst h
   exact blt_of (zC3 (blt_lt hb) hg)
  ·cases h
 |func f=>simp only[aeval,Option.some.injEq]at h; subst h; simp[scb,scbA,scbL]
theorem aevals_sc {P:Program} {N:Nat} {a:AAct} (hg:P.globals.size<=N) (hs:scA N a):∀ {xs:List Operand} {vs:List Value},aevals P a xs=some vs->scbL N vs=true
 |[],vs,h=>by simp only[aevals,Option.some.injEq]at h; subst h; rfl
 |x::xs,vs,h=>by
  simp only[aevals,zA1,zA2,Option.some.injEq]at h
  obtain⟨v,hv,us,hu,rfl⟩:=h
  rw[scbL,aeval_sc hg hs hv,aevals_sc hg hs hu]; rfl
theorem scbL_append {N:Nat} {a b:List Value} (ha:scbL N a=true) (hb:scbL N b=true):scbL N (a++b)=true :=
 scbL_iff.2 fun v hv=>(zC9.1 hv).elim (scbL_iff.1 ha v) (scbL_iff.1 hb v)
def Dom (H:AHeap):Prop:=∀ n o,H.get n=some o->n<H.next/\sco H.next o
def scN (N:Nat):ANext->Prop
 |.value v=>scb N v=true
 |.skip=>True
 |.enter _ args=>scbL N args=true
 |.round r=>r.l<N/\∀ i,i<r.env.n->scb N (r.env.get i)=true
 |.panic v=>scb N v=true
section
variable {P : Program} {H : AHeap} {a : AAct} {N : Nat}
theorem scb_cells {v:Value} (h:scb N v=true):scbL N v.cells.toList=true:=by
 cases v with
 |agg cs=>obtain⟨l⟩:=cs; simpa[scb,scbA,Value.cells]using h
 |_=>simp[Value.cells,scbL,h]
theorem scbA_list {l:List Value}:scbA N ⟨l⟩=scbL N l:=by rw[scbA]
theorem scbA_of {c:Array Value}:scbA N c=scbL N c.toList:=by obtain⟨l⟩:=c; rw[scbA]
theorem scbL_mem {l:List Value} (h:scbL N l=true) {v:Value} (hv:v∈l):scb N v=true:=scbL_iff.1 h v hv
theorem scbL_sub {l m:List Value} (h:scbL N l=true) (hs:∀ v∈m,v∈l):scbL N m=true:=scbL_iff.2 fun v hv=>scbL_mem h (hs v hv)
theorem cells_sc (hd:Dom H) {n:Nat} {c:RV} {e:TypeId} {o:Bool} (h:cellsR H n=some (c,e,o)):∀ i,i<c.n->scb H.next (c.get i)=true:=by
 unfold cellsR at h
 split at h
 ·rename_i x e' z o' v hg
  simp only[Option.some.injEq,Prod.mk.injEq]at h
  obtain⟨rfl,rfl,rfl⟩:=h
  exact (hd _ _ hg).2
 ·cases h
theorem gets_sc {c:RV} (h:∀ i,i<c.n->scb N (c.get i)=true) {off k:Nat} (hle:off+k<=c.n):scbL N (c.gets off k)=true:=by
 refine scbL_iff.2 fun v hv=>?_
 rw[RV.gets_eq]at hv
 obtain⟨j,hj,rfl⟩:=zE0.1 hv
 exact h _ (by have:=List.mem_range.1 hj; omega)
theorem aLoad_sc (hd:Dom H) {t:TypeId} {p v:Value} (h:aLoad P H t p=some v):scb H.next v=true:=by
 unfold aLoad at h
 split at h
 ·rename_i n off
  simp only[zA1,zA2]at h
  obtain⟨⟨c,e,o⟩,hc,b,hb,h⟩:=h
  have hcs:=cells_sc hd hc
  cases b with
  |true =>
   simp only[zA2]at h
   obtain⟨sz,hsz,h⟩:=h
   split at h
   ·rename_i hle
    simp only[Option.some.injEq]at h
    subst h
    rw[scb,scbA_list]
    exact gets_sc hcs (ble_le hle)
   ·cases h
  |false =>
   simp only at h
   split at h
   ·rename_i hlt
    simp only[Option.some.injEq]at h
    subst h
    exact hcs _ (blt_lt hlt)
   ·cases h
 ·cases h
theorem aPart_sc {t:TypeId} {cs:List Value} {off:Nat} {v:Value} (hs:scbL N cs=true) (h:aPart P t cs off=some v):scb N v=true:=by
 unfold aPart at h
 simp only[zA1,zA2]at h
 obtain⟨b,hb,h⟩:=h
 cases b with
 |true =>
  simp only[zA2,Option.some.injEq]at h
  obtain⟨sz,_,rfl⟩:=h
  rw[scb,scbA_list]
  exact scbL_sub hs fun v hv=>List.mem_of_mem_drop (List.mem_of_mem_take hv)
 |false=>exact scbL_mem hs (zC2 h)
theorem zeroOf_sc {t:TypeId} {v:Value} (h:zeroOf P t=some v):scb N v=true:=by
 unfold zeroOf at h
 split at h
 ·split at h
  ·split at h
   ·rename_i ha
    simp only[Option.some.injEq]at h
    subst h
    exact scb_of_af _ ha
   ·cases h
  ·cases h
 ·cases h
theorem setIfs_sc {cs:Array Value} (hc:scbL N cs.toList=true):∀ (l:List (Value × Nat)) (off:Nat),(∀ x∈l,scb N x.1=true)->scbL N (l.foldl (fun cs (c,j)=>cs.setIfInBounds (off+j) c) cs).toList=true:=by
 intro l
 induction l generalizing cs with
 |nil=>exact fun _ _=>hc
 |cons x l ih =>
  intro off h
  simp only[List.foldl_cons]
  refine ih ?_ off (fun y hy=>h y (zB5 _ hy))
  refine scbL_iff.2 fun v hv=>?_
  rw[Array.toList_setIfInBounds]at hv
  rcases List.mem_or_eq_of_mem_set hv with hv|rfl
  ·exact scbL_mem hc hv
  ·exact h x (zB9 ..)
theorem fill_sc {place:Nat->Option (Nat × Nat)}:∀ (parts:List (Nat × Value)) (cells:Array Value) (c:Array Value),scbL N cells.toList=true->(∀ p∈parts,scb N p.2=true)->Instr.fill place cells parts=some c->scbL N c.toList=true
 |[],cells,c,h,_,hf=>by simp only[Instr.fill,Option.some.injEq]at hf; subst hf; exact h
 |(i,v)::parts,cells,c,h,hp,hf=>by
  simp only[Instr.fill]at hf
  split at hf
  ·cases hf
  ·split at hf
   ·cases hf
   ·refine fill_sc parts _ c ?_ (fun p h'=>hp p (zB5 _ h')) hf
    rw[<-Array.foldl_toList]
    refine setIfs_sc h _ _ (fun x hx=>?_)
    have hv:=scb_cells (hp (i,v) (zB9 ..))
    refine scbL_mem hv ?_
    rw[Array.toList_zipIdx]at hx
    obtain⟨x1,x2⟩:=x
    have:=List.mem_zipIdx hx
    rw[this.2.2]
    exact List.getElem_mem _
theorem aBuild_sc {t:TypeId} {parts:List (Nat × Value)} {v:Value} (hp:∀ p∈parts,scb N p.2=true) (h:aBuild P t parts=some v):scb N v=true:=by
 unfold aBuild at h
 simp only[zA1,zA2]at h
 obtain⟨z,hz,h⟩:=h
 have hzs:scbL N z.cells.toList=true:=scb_cells (zeroOf_sc hz)
 split at h
 ·simp only[zA2,zA6]at h
  obtain⟨pl,_,c,hc,rfl⟩:=h
  rw[scb,scbA_of]
  exact fill_sc parts _ c hzs hp hc
 ·simp only[zA2,zA6]at h
  obtain⟨pl,_,c,hc,rfl⟩:=h
  rw[scb,scbA_of]
  exact fill_sc parts _ c hzs hp hc
 ·cases h
theorem pairs_sc (hg:P.globals.size<=N) (hs:scA N a):∀ {ps:List (Nat × Operand)} {l:List (Nat × Value)},pairs P a ps=some l->∀ p∈l,scb N p.2=true
 |[],l,h=>by simp only[pairs,Option.some.injEq]at h; subst h; simp
 |(i,x)::ps,l,h=>by
  simp only[pairs,zA1,zA2,Option.some.injEq]at h
  obtain⟨v,hv,vs,hvs,rfl⟩:=h
  intro p hp
  rcases zB1.1 hp with rfl|hp
  ·exact aeval_sc hg hs hv
  ·exact pairs_sc hg hs hvs p hp
theorem intBin_sc {op:BinOp} {k:IntKind} {x y:Int} {v:Value} (h:intBin op k x y=some v):scb N v=true:=by
 cases op<;>simp only[intBin,Option.some.injEq,reduceCtorEq]at h<;>first|(subst h; simp only[scb])|(split at h<;>first|(cases h; done)|(simp only[Option.some.injEq]at h; subst h; simp only[scb]))
theorem eqOp_sc {op:BinOp} {b:Bool} {v:Value} (h:eqOp op b=some v):scb N v=true:=by
 cases op<;>simp only[eqOp,Option.some.injEq,reduceCtorEq]at h<;>(subst h; simp only[scb])
theorem aBin_sc {op:BinOp} {t:TypeId} {x y v:Value} (h:aBin P H op t x y=some v):scb N v=true:=by
 unfold aBin at h
 split at h
 ·split at h
  ·exact intBin_sc h
  ·cases h
 ·split at h
  ·exact eqOp_sc h
  ·cases h
 ·unfold aBinAddr at h
  split at h
  ·cases h
  ·cases h
  ·simp only[zA2]at h
   obtain⟨b,_,h⟩:=h
   exact eqOp_sc h
theorem aPlain_sc {s:Sem Value} {x:ANext} (h:aPlain P s=some x):scN N x:=by
 unfold aPlain at h
 split at h
 ·split at h
  ·rename_i ha
   simp only[Option.some.injEq]at h
   subst h
   exact scb_of_af _ ha
  ·cases h
 ·split at h
  ·split at h
   ·rename_i ha
    simp only[Option.some.injEq]at h
    subst h
    exact scb_of_af _ ha
   ·cases h
  ·cases h
theorem mapNext {x:Option ANext} {y:ANext} {H1:AHeap} (h:(x.map fun r=>(r,H))=some (y,H1)):x=some y/\H1=H:=by
 cases x with
 |none=>cases h
 |some z=>simp only[zA5,Option.some.injEq,Prod.mk.injEq]at h; exact⟨by rw[h.1],h.2.symm⟩
theorem rv_sc {x:Option Value} {y:ANext} {H1:AHeap} (hx:∀ v,x=some v->scb H.next v=true) (h:rv H x=some (y,H1)):scN H1.next y:=by
 simp only[rv,zA6,Prod.mk.injEq]at h
 obtain⟨v,hv,rfl,rfl⟩:=h
 exact hx v hv
theorem rvh_sc {x:Option (Value × AHeap)} {y:ANext} {H1:AHeap} (hx:∀ v g,x=some (v,g)->scb g.next v=true) (h:rvh x=some (y,H1)):scN H1.next y:=by
 simp only[rvh,zA6,Prod.mk.injEq]at h
 obtain⟨⟨v,g⟩,hv,rfl,rfl⟩:=h
 exact hx v g hv
theorem aNew_next {e:TypeId} {c:List Value} {o:Bool} {g:AHeap} (h:aNew H e c o=some g):g.next=H.next+1:=by
 unfold aNew at h
 split at h
 ·simp only[Option.some.injEq]at h; subst h; rfl
 ·cases h
theorem aWrite_next {n off:Nat} {vs:List Value} {g:AHeap} (h:aWrite H n off vs=some g):g.next=H.next:=by
 unfold aWrite at h
 simp only[zA1,zA2]at h
 obtain⟨⟨c,e,o⟩,_,h⟩:=h
 simp only at h
 split at h
 ·simp only[Option.some.injEq]at h; subst h; rfl
 ·cases h
theorem scb_int (k:IntKind) (n:Int):scb N (.int k n)=true:=by simp[scb]
theorem scb_goInt (n:Int):scb N (goInt n)=true:=by simp[goInt,scb]
theorem aAppend2_sc {e:TypeId} {sz len cap n:Nat} {base:Option Addr} {new:List Value} {v:Value} {g:AHeap} (hb:scb H.next (.slice base len cap)=true) (h:aAppend2 H e sz base len cap n new=some (v,g)):scb g.next v=true:=by
 unfold aAppend2 at h
 split at h
 ·split at h
  ·split at h
   ·simp only[Option.some.injEq,Prod.mk.injEq]at h
    obtain⟨rfl,rfl⟩:=h
    simp[scb]
   ·cases h
  ·simp only[zA1,zA2,Option.some.injEq,Prod.mk.injEq]at h
   obtain⟨g',hg,rfl,rfl⟩:=h
   rw[aWrite_next hg]
   simpa[scb]using hb
 ·simp only[zA1,zA2]at h
  obtain⟨old,_,h⟩:=h
  have key:∀ {K g':AHeap} {c:List Value} {len cap:Nat},K.next=H.next->aNew K e c true=some g'->scb g'.next (.slice (some ⟨H.next,0,Option.none⟩) len cap)=true:=by
   intro K g' c len cap hk hg
   rw[aNew_next hg,hk]
   simp only[scb]
   exact blt_of (zC1 _)
  split at h
  ·split at h
   ·simp only[zA2,Option.some.injEq,Prod.mk.injEq]at h
    obtain⟨g',hg,rfl,rfl⟩:=h
    exact key rfl hg
   ·simp only[zA2]at h
    obtain⟨b,_,h⟩:=h
    cases b with
    |true =>
     simp only[zA2,Option.some.injEq,Prod.mk.injEq]at h
     obtain⟨g',hg,rfl,rfl⟩:=h
     exact key rfl hg
    |false =>
     simp only[zA2]at h
     obtain⟨⟨v',e',o'⟩,_,h⟩:=h
     simp only at h
     split at h
     ·simp only[zA2,Option.some.injEq,Prod.mk.injEq]at h
      obtain⟨g',hg,rfl,rfl⟩:=h
      exact key (K:=H.upd _ Option.none) rfl hg
     ·cases h
  ·cases h
theorem aBuiltin_sc {b:Builtin} {ts:Array TypeId} {args:List Value} {v:Value} {g:AHeap} (hs:scbL H.next args=true) (h:aBuiltin P H b ts args=some (v,g)):scb g.next v=true:=by
 have m1:∀ {x:Option Value},(x.map fun v=>(v,H))=some (v,g)->∃ u,x=some u/\v=u/\g=H:=by
  intro x hx
  simp only[zA6,Prod.mk.injEq]at hx
  obtain⟨u,h1,h2,h3⟩:=hx
  exact⟨u,h1,h2.symm,h3.symm⟩
 unfold aBuiltin at h
 split at h
 ·obtain⟨u,h1,rfl,rfl⟩:=m1 h
  unfold aSliceData at h1
  have hx:=scbL_mem hs (zB9 ..)
  split at h1
  ·cases h1; rfl
  ·cases h1; exact hx
  ·cases h1
 ·have hstr:∀ s N,scb N (.string s)=true:=fun _ _=>rfl
  unfold aUnsafeStr at h
  split at h
  ·simp only[Option.some.injEq,Prod.mk.injEq]at h; obtain⟨rfl,rfl⟩:=h; rfl
  ·simp only[zA1,zA2]at h
   obtain⟨_,_,h⟩:=h
   split at h
   ·simp only[zA2]at h
    obtain⟨_,_,h⟩:=h
    split at h
    ·simp only[zA2]at h
     obtain⟨_,_,h⟩:=h
     split at h
     ·split at h
      ·split at h
       ·simp only[Option.some.injEq,Prod.mk.injEq]at h; obtain⟨rfl,rfl⟩:=h; rfl
       ·split at h
        ·simp only[zA2,Option.some.injEq,Prod.mk.injEq]at h
         obtain⟨_,_,rfl,rfl⟩:=h
         rfl
        ·cases h
      ·cases h
     ·cases h
    ·cases h
   ·cases h
  ·cases h
 ·-- append
  rename_i s x
  unfold aAppend at h
  split at h
  ·rename_i st xt rest base len cap
   have hb:=scbL_mem hs (zB9 ..)
   simp only[zA1,zA2]at h
   obtain⟨u,_,h⟩:=h
   split at h
   ·simp only[zA2]at h
    obtain⟨sz,_,by1,_,zs,_,it,_,h⟩:=h
    split at h
    ·split at h
     ·exact aAppend2_sc hb h
     ·cases h
    ·cases h
    ·simp only[zA2]at h
     obtain⟨n,_,new,_,h⟩:=h
     split at h
     ·exact aAppend2_sc hb h
     ·cases h
   ·cases h
  ·cases h
 ·-- copy
  unfold aCopy at h
  split at h
  ·simp only[zA1,zA2]at h
   obtain⟨u,_,h⟩:=h
   split at h
   ·simp only[zA2]at h
    obtain⟨sz,_,sl,_,cs,_,h⟩:=h
    split at h
    ·simp only[Option.some.injEq,Prod.mk.injEq]at h
     obtain⟨rfl,rfl⟩:=h
     exact scb_goInt _
    ·split at h
     ·simp only[zA2,Option.some.injEq,Prod.mk.injEq]at h
      obtain⟨g',_,rfl,rfl⟩:=h
      exact scb_goInt _
     ·simp only[Option.some.injEq,Prod.mk.injEq]at h
      obtain⟨rfl,rfl⟩:=h
      exact scb_goInt _
   ·cases h
  ·cases h
 ·-- len
  split at h
  ·obtain⟨u,h1,rfl,rfl⟩:=m1 h
   unfold aLen at h1
   split at h1<;>first|(simp only[Option.some.injEq]at h1; subst h1; exact scb_goInt _)|(split at h1<;>first|(simp only[Option.some.injEq]at h1; subst h1; exact scb_goInt _)|cases h1)|cases h1
  ·cases h
 ·-- cap
  split at h
  ·obtain⟨u,h1,rfl,rfl⟩:=m1 h
   unfold aCap at h1
   split at h1<;>first|(simp only[Option.some.injEq]at h1; subst h1; exact scb_goInt _)|(split at h1<;>first|(simp only[Option.some.injEq]at h1; subst h1; exact scb_goInt _)|cases h1)|cases h1
  ·cases h
 ·-- delete
  split at h
  ·unfold aDelete at h
   split at h
   ·split at h
    ·simp only[zA1,zA2]at h
     obtain⟨kd,_,h⟩:=h
     split at h
     ·split at h<;>first|(simp only[Option.some.injEq,Prod.mk.injEq]at h; obtain⟨rfl,rfl⟩:=h; simp only[scb,scbA,scbL])|(cases h; done)
     ·cases h
    ·cases h
   ·cases h
  ·cases h
 ·-- clear
  split at h
  ·unfold aClear at h
   split at h
   ·simp only[Option.some.injEq,Prod.mk.injEq]at h
    obtain⟨rfl,rfl⟩:=h
    simp[scb,scbA,scbL]
   ·split at h
    ·simp only[Option.some.injEq,Prod.mk.injEq]at h
     obtain⟨rfl,rfl⟩:=h
     simp[scb,scbA,scbL]
    ·simp only[zA1,zA2,Option.some.injEq,Prod.mk.injEq]at h
     obtain⟨z,_,g',_,rfl,rfl⟩:=h
     simp[scb,scbA,scbL]
   ·cases h
  ·cases h
 ·obtain⟨u,h1,rfl,rfl⟩:=m1 h
  unfold aMinMax at h1
  split at h1
  ·simp only[Option.some.injEq]at h1; subst h1; exact scb_int _ _
  ·cases h1
 ·obtain⟨u,h1,rfl,rfl⟩:=m1 h
  unfold aMinMax at h1
  split at h1
  ·simp only[Option.some.injEq]at h1; subst h1; exact scb_int _ _
  ·cases h1
 ·cases h
theorem enterN_sc {f:FuncId} {args:List Value} {x:ANext} (hs:scbL N args=true) (h:enterN P f args=some x):scN N x:=by
 unfold enterN at h
 split at h
 ·simp only[Option.some.injEq]at h; subst h; exact hs
 ·cases h
theorem aRecv_sc (hd:Dom H) {t:TypeId} {v x:Value} {ptr:Bool} (hs:scb H.next v=true) (h:aRecv P H t v ptr=some x):scb H.next x=true:=by
 unfold aRecv at h
 split at h
 ·simp only[Option.some.injEq]at h; subst h; exact hs
 ·exact aLoad_sc hd h
 ·cases h
 ·simp only[Option.some.injEq]at h; subst h; exact hs
 ·cases h
theorem zipSet_sc:∀ (ts:List Tmp) (vs:List Value) (e:RV),scbL N vs=true->(∀ i,i<e.n->scb N (e.get i)=true)->∀ i,i<(zipSet ts vs e).n->scb N ((zipSet ts vs e).get i)=true
 |[],vs,e,_,h=>by cases vs<;>exact h
 |_::_,[],e,_,h=>h
 |t::ts,v::vs,e,hv,h=>by
  simp only[scbL,zA4]at hv
  simp only[zipSet]
  refine zipSet_sc ts vs _ hv.2 ?_
  split
  ·intro i hi
   rw[RV.n_set]at hi
   rw[RV.get_set]
   split
   ·exact hv.1
   ·exact h i hi
  ·exact h
theorem aInvoke_sc (hd:Dom H) {fn:Fn} {args captured:List Value} {x:ANext} (hl:∀ l,fn=.yield l->l<H.next) (hs:scbL H.next args=true) (hc:scbL H.next captured=true) (h:aInvoke P H fn args captured=some x):scN H.next x:=by
 unfold aInvoke at h
 split at h
 ·exact enterN_sc (scbL_append hs hc) h
 ·unfold aYield at h
  split at h
  ·rename_i hg
   split at h
   ·simp only[Option.some.injEq]at h
    subst h
    refine⟨hl _ rfl,zipSet_sc _ _ _ hs ?_⟩
    have:=(hd _ _ hg).2
    simp only[sco]at this
    exact this.2
   ·cases h
  ·cases h
 ·rename_i name t v r
  simp only[zA1,zA2]at h
  obtain⟨⟨f,ptr⟩,_,y,hy,h⟩:=h
  simp only[scbL,zA4]at hs
  have h1:scb H.next v=true:=by have:=hs.1; rw[scb]at this; exact this
  refine enterN_sc ?_ h
  rw[scbL,aRecv_sc hd h1 hy,hs.2]; rfl
 ·rename_i t path f ptr y r
  split at h
  ·simp only[zA1,zA2]at h
   obtain⟨z,hz,h⟩:=h
   simp only[scbL,zA4]at hs
   refine enterN_sc ?_ h
   rw[scbL,aRecv_sc hd hs.1 hz,hs.2]; rfl
  ·cases h
 ·cases h
theorem func_sc {fn:Fn} {p q:Array Value} (h:scb N (.func fn p q)=true):(∀ l,fn=.yield l->l<N)/\scbL N p.toList=true/\scbL N q.toList=true:=by
 cases fn with
 |yield l =>
  simp only[scb,zA4,scbA_of]at h
  exact⟨fun l' e=>by cases e; exact blt_lt h.1.1,h.1.2,h.2⟩
 |_ =>
  simp only[scb,zA4,scbA_of]at h
  exact⟨fun l' e=>(by cases e),h.1,h.2⟩
theorem xCall_sc (hg:P.globals.size<=H.next) (hd:Dom H) (hs:scA H.next a) {c:Call} {x:ANext} {H1:AHeap} (h:xCall c P a H=some (x,H1)):scN H1.next x:=by
 unfold xCall at h
 simp only[zA1,zA2]at h
 obtain⟨args,hargs,h⟩:=h
 have hsa:=aevals_sc hg hs hargs
 split at h
 ·exact rvh_sc (fun v g hv=>aBuiltin_sc hsa hv) h
 ·simp only[zA2]at h
  obtain⟨r,hr,h⟩:=h
  obtain⟨h1,rfl⟩:=mapNext h
  refine aInvoke_sc hd (fun l e=>by cases e) ?_ rfl h1
  rw[scbL,aeval_sc hg hs hr,hsa]; rfl
 ·simp only[zA2]at h
  obtain⟨f,hf,h⟩:=h
  have hfs:=aeval_sc hg hs hf
  split at h
  ·rename_i r hr
   simp only[Option.some.injEq]at h
   subst h
   unfold callV at hr
   split at hr
   ·obtain⟨h1,rfl⟩:=mapNext hr
    obtain⟨k1,k2,k3⟩:=func_sc hfs
    exact aInvoke_sc hd k1 (scbL_append k2 hsa) k3 h1
   ·cases hr
  ·have key:∀ {g:FuncId},externW P H g args=some (x,H1)->scN H1.next x:=by
    intro g h
    unfold externW at h
    split at h
    ·split at h
     ·simp only[Option.some.injEq,Prod.mk.injEq]at h
      obtain⟨rfl,rfl⟩:=h
      exact scbL_mem hsa (zB9 ..)
     ·cases h
    ·split at h
     ·split at h
      ·split at h
       ·split at h
        ·split at h
         ·simp only[Option.some.injEq,Prod.mk.injEq]at h
          obtain⟨rfl,rfl⟩:=h
          exact blt_of (zC1 _)
         ·cases h
        ·cases h
       ·cases h
      ·cases h
     ·cases h
    ·cases h
   unfold externV at h
   split at h
   ·split at h
    ·split at h
     ·split at h
      ·rename_i ha
       simp only[Option.some.injEq,Prod.mk.injEq]at h
       obtain⟨rfl,rfl⟩:=h
       exact scb_of_af _ ha
      ·cases h
     ·exact key h
    ·exact key h
   ·cases h
theorem aSlice2_sc {sz len cap:Nat} {ad:Option Addr} {lo hi:Option Value} {v:Value} {g:AHeap} (hb:∀ x,ad=some x->x.block<H.next) (h:aSlice2 H sz ad len cap lo hi=some (v,g)):scb g.next v=true:=by
 unfold aSlice2 at h
 simp only[zA1,zA2]at h
 obtain⟨l,_,k,_,h⟩:=h
 split at h
 ·split at h
  ·simp only[Option.some.injEq,Prod.mk.injEq]at h
   obtain⟨rfl,rfl⟩:=h
   simp[scb]
  ·rename_i x
   have hx:=hb x rfl
   obtain⟨ob,hb⟩:=Go.Ax.exq (exactAt H x)
   simp only[hb]at h
   cases ob with
   |none =>
    simp only at h
    split at h
    ·simp only[Option.some.injEq,Prod.mk.injEq]at h
     obtain⟨rfl,rfl⟩:=h
     simp only[scb]; exact blt_of hx
    ·cases h
   |some b =>
    cases b with
    |true =>
    simp only[Option.some.injEq,Prod.mk.injEq]at h
    obtain⟨rfl,rfl⟩:=h
    simp only[scb]; exact blt_of hx
    |false =>
    simp only at h
    split at h
    ·simp only[Option.some.injEq,Prod.mk.injEq]at h
     obtain⟨rfl,rfl⟩:=h
     simp only[scb]; exact blt_of hx
    ·split at h
     ·simp only[Option.some.injEq,Prod.mk.injEq]at h
      obtain⟨rfl,rfl⟩:=h
      simp only[scb]; exact blt_of hx
     ·split at h
      ·cases h
      simp only[Option.some.injEq,Prod.mk.injEq]at h
      obtain⟨rfl,rfl⟩:=h
      simp only[scb]; exact blt_of hx
 ·cases h
theorem addr_of_slice {x:Option Addr} {n m:Nat} (h:scb N (.slice x n m)=true):∀ y,x=some y->y.block<N:=by
 rintro y rfl
 simp only[scb]at h
 exact blt_lt h
theorem aSlice_sc {t:TypeId} {x:Value} {lo hi mx:Option Value} {v:Value} {g:AHeap} (hx:scb H.next x=true) (h:aSlice P H t x lo hi mx=some (v,g)):scb g.next v=true:=by
 unfold aSlice at h
 split at h
 ·simp only[zA1,zA2]at h
  obtain⟨l,_,k,_,h⟩:=h
  split at h
  ·simp only[Option.some.injEq,Prod.mk.injEq]at h
   obtain⟨rfl,rfl⟩:=h
   simp[scb]
  ·cases h
 ·simp only[zA1,zA2]at h
  obtain⟨sz,_,h⟩:=h
  exact aSlice2_sc (addr_of_slice hx) h
 ·split at h
  ·simp only[zA1,zA2]at h
   obtain⟨sz,_,h⟩:=h
   unfold aSlice3 at h
   simp only[zA1,zA2]at h
   obtain⟨l,_,k,_,h⟩:=h
   split at h
   ·split at h
    ·simp only[Option.some.injEq,Prod.mk.injEq]at h
     obtain⟨rfl,rfl⟩:=h
     simp[scb]
    ·simp only[Option.some.injEq,Prod.mk.injEq]at h
     obtain⟨rfl,rfl⟩:=h
     simp only[scb]; exact blt_of (addr_of_slice hx _ rfl)
   ·cases h
  ·cases h
 ·simp only[zA1,zA2]at h
  obtain⟨l,_,k,_,sz,_,h⟩:=h
  split at h
  ·simp only[Option.some.injEq,Prod.mk.injEq]at h
   obtain⟨rfl,rfl⟩:=h
   simp only[scb]at hx ⊢
   exact hx
  ·cases h
 ·cases h
theorem aConvert_sc {s d:TypeId} {x v:Value} {g:AHeap} (hx:scb H.next x=true) (h:aConvert P H s d x=some (v,g)):scb g.next v=true:=by
 have key:∀ {g':AHeap} {e:TypeId} {c:List Value} {len cap:Nat},aNew H e c true=some g'->scb g'.next (.slice (some ⟨H.next,0,Option.none⟩) len cap)=true:=by
  intro g' e c len cap hg
  rw[aNew_next hg]
  simp only[scb]
  exact blt_of (zC1 _)
 unfold aConvert at h
 split at h
 ·simp only[Option.some.injEq,Prod.mk.injEq]at h; obtain⟨rfl,rfl⟩:=h; simp[scb]
 ·simp only[Option.some.injEq,Prod.mk.injEq]at h; obtain⟨rfl,rfl⟩:=h; simp[scb]
 ·simp only[Option.some.injEq,Prod.mk.injEq]at h; obtain⟨rfl,rfl⟩:=h; simp[scb]
 ·split at h
  ·simp only[zA1,zA2]at h
   obtain⟨z,_,h⟩:=h
   split at h
   ·split at h
    ·simp only[zA2,Option.some.injEq,Prod.mk.injEq]at h
     obtain⟨g',hg,rfl,rfl⟩:=h
     exact key hg
    ·cases h
   ·cases h
  ·simp only[zA1,zA2]at h
   obtain⟨z,_,h⟩:=h
   split at h
   ·split at h
    ·simp only[zA2,Option.some.injEq,Prod.mk.injEq]at h
     obtain⟨g',hg,rfl,rfl⟩:=h
     exact key hg
    ·cases h
   ·cases h
  ·cases h
 ·simp only[zA1,zA2]at h
  obtain⟨cs,_,h⟩:=h
  split at h
  ·simp only[zA6,Prod.mk.injEq]at h; obtain⟨l,_,rfl,rfl⟩:=h; simp[scb]
  ·simp only[zA6,Prod.mk.injEq]at h; obtain⟨l,_,rfl,rfl⟩:=h; simp[scb]
  ·cases h
 ·simp only[zA1,zA2]at h
  obtain⟨u,_,h⟩:=h
  split at h
  ·split at h
   ·split at h
    ·simp only[Option.some.injEq,Prod.mk.injEq]at h; obtain⟨rfl,rfl⟩:=h; exact hx
    ·cases h
   ·cases h
  ·cases h
 ·simp only[Option.some.injEq,Prod.mk.injEq]at h; obtain⟨rfl,rfl⟩:=h; exact hx
 ·simp only[zA1,zA2]at h
  obtain⟨sz,_,c,_,h⟩:=h
  split at h
  ·simp only[Option.some.injEq,Prod.mk.injEq]at h; obtain⟨rfl,rfl⟩:=h; exact hx
  ·cases h
 ·simp only[Option.some.injEq,Prod.mk.injEq]at h; obtain⟨rfl,rfl⟩:=h; exact hx
 ·simp only[zA1,zA2]at h
  obtain⟨sz,_,h⟩:=h
  split at h
  ·split at h
   ·simp only[Option.some.injEq,Prod.mk.injEq]at h; obtain⟨rfl,rfl⟩:=h; exact hx
   ·cases h
  ·cases h
 ·cases h
theorem findNow_mem {kd:TypeDesc} {k:Value}:∀ (l:List MapEntry) (i:Nat) {j:Nat} {v:Value},Instr.findNow kd k l i=some (some (j,v))->∃ e∈l,e.val=v
 |[],i,j,v,h=>by simp[Instr.findNow]at h
 |e::l,i,j,v,h=>by
  simp only[Instr.findNow]at h
  split at h
  ·simp only[Option.some.injEq,Prod.mk.injEq]at h
   exact⟨e,zB9 ..,h.2⟩
  ·obtain⟨e',h1,h2⟩:=findNow_mem l (i+1) h
   exact⟨e',zB5 _ h1,h2⟩
  ·cases h
theorem scb_pair {v:Value} {b:Bool} (h:scb N v=true):scb N (.tuple #[v,.bool b])=true:=by
 simp only[scb,scbA,scbL,h,zD6]
theorem aLookup_sc (hd:Dom H) {t:TypeId} {x k v:Value} {ok:Bool} (h:aLookup P H t x k ok=some v):scb H.next v=true:=by
 unfold aLookup at h
 split at h
 ·rename_i key elem r
  simp only[zA1,zA2]at h
  obtain⟨es,hes,kd,_,h⟩:=h
  split at h
  ·split at h
   ·rename_i j u hf
    obtain⟨e,he,rfl⟩:=findNow_mem _ _ hf
    have hes':∀ e∈es,scb H.next e.val=true:=by
     unfold mapAt at hes
     split at hes
     ·simp only[Option.some.injEq]at hes; subst hes; intro e he; simp at he
     ·split at hes
      ·rename_i es' c o v' hg
       simp only[Option.some.injEq]at hes
       subst hes
       have:=(hd _ _ hg).2
       simp only[sco]at this
       exact fun e he=>(this e he).2
      ·cases hes
    have hev:=hes' e (by simpa using he)
    simp only[Option.some.injEq]at h
    subst h
    split
    ·exact scb_pair hev
    ·exact hev
   ·simp only[zA6]at h
    obtain⟨z,hz,rfl⟩:=h
    split
    ·exact scb_pair (zeroOf_sc hz)
    ·exact zeroOf_sc hz
   ·cases h
  ·cases h
 ·cases h
theorem aTypeAssert_sc {x v:Value} {u:TypeId} {ok:Bool} (hx:scb N x=true) (h:aTypeAssert P x u ok=some v):scb N v=true:=by
 have z:∀ {w:Option Value} {v:Value},w=zeroOf P u->(w.map fun z=>(.tuple #[z,.bool false]:Value))=some v->scb N v=true:=by
  intro w v hw h
  simp only[zA6]at h
  obtain⟨z,hz,rfl⟩:=h
  exact scb_pair (zeroOf_sc (hw▸hz))
 unfold aTypeAssert at h
 split at h
 ·split at h
  ·split at h
   ·simp only[Option.some.injEq]at h
    subst h
    split
    ·exact scb_pair hx
    ·exact hx
   ·split at h
    ·exact z rfl h
    ·cases h
  ·cases h
 ·split at h
  ·exact z rfl h
  ·cases h
 ·rename_i t w _ _
  have hw:scb N w=true:=by rw[scb]at hx; exact hx
  split at h
  ·simp only[Option.some.injEq]at h
   subst h
   split
   ·exact scb_pair hw
   ·exact hw
  ·split at h
   ·exact z rfl h
   ·cases h
 ·cases h
theorem aop_sc (hg:P.globals.size<=H.next) (hd:Dom H) (hs:scA H.next a) {op:Op} {x:ANext} {H1:AHeap} (h:aop op P a H=some (x,H1)):scN H1.next x:=by
 have box:∀ {t:TypeId} {v:Value} {x:ANext} {H1:AHeap},xBox t v H=some (x,H1)->scN H1.next x:=by
  intro t v x H1 h
  simp only[xBox,zA1,zA2,Option.some.injEq,Prod.mk.injEq]at h
  obtain⟨g,hg,rfl,rfl⟩:=h
  show scb g.next (.pointer (some ⟨H.next,0,Option.none⟩))=true
  rw[aNew_next hg]
  simp only[scb]
  exact blt_of (zC1 _)
 have newp:∀ {g:AHeap} {e:TypeId} {c:List Value} {o:Bool} {s:Option Nat} {len cap:Nat},aNew H e c o=some g->scb g.next (.slice (some ⟨H.next,0,s⟩) len cap)=true:=by
  intro g e c o s len cap hg
  rw[aNew_next hg]
  simp only[scb]
  exact blt_of (zC1 _)
 cases op with
 |move y=>exact rv_sc (fun v hv=>aeval_sc hg hs hv) h
 |assign y=>exact rv_sc (fun v hv=>aeval_sc hg hs hv) h
 |pick c y z =>
  simp only[aop,xPick,zA1,zA2]at h
  obtain⟨cv,_,h⟩:=h
  split at h
  ·exact rv_sc (fun v hv=>aeval_sc hg hs hv) h
  ·exact rv_sc (fun v hv=>aeval_sc hg hs hv) h
  ·cases h
 |alloc t =>
  simp only[aop,xAlloc,zA1,zA2]at h
  obtain⟨z,_,h⟩:=h
  exact box h
 |box t y =>
  simp only[aop,xBoxOp,zA1,zA2]at h
  obtain⟨z,_,h⟩:=h
  exact box h
 |build t ps =>
  simp only[aop,xBuild,zA1,zA2]at h
  obtain⟨l,hl,h⟩:=h
  exact rv_sc (fun v hv=>aBuild_sc (pairs_sc hg hs hl) hv) h
 |buildSlice t n ps =>
  simp only[aop,xBuildSlice,zA1,zA2]at h
  obtain⟨l,hl,h⟩:=h
  refine rvh_sc (fun v g hv=>?_) h
  unfold aBuildSlice at hv
  simp only[zA1,zA2]at hv
  obtain⟨u,_,hv⟩:=hv
  split at hv
  ·simp only[zA2]at hv
   obtain⟨sz,_,z,_,hv⟩:=hv
   split at hv
   ·simp only[zA2,Option.some.injEq,Prod.mk.injEq]at hv
    obtain⟨c,_,g',hg,rfl,rfl⟩:=hv
    exact newp hg
   ·cases hv
  ·cases hv
 |load t y =>
  simp only[aop,xLoad,zA1,zA2]at h
  obtain⟨z,_,h⟩:=h
  exact rv_sc (fun v hv=>aLoad_sc hd hv) h
 |store t y z =>
  simp only[aop,xStore,ruh,zA1,zA2,zA6,Prod.mk.injEq]at h
  obtain⟨p,_,q,_,g,_,rfl,rfl⟩:=h
  trivial
 |nilCheck y =>
  simp only[aop,xNil,zA1,zA2]at h
  obtain⟨v,hv,h⟩:=h
  have hvs:=aeval_sc hg hs hv
  have hn:scb H.next (nilPanic P)=true:=by simp only[nilPanic,strVal,scb]
  unfold nilV at h
  split at h
  all_goals first
   |(cases h; done)
   |(simp only[Option.some.injEq,Prod.mk.injEq]at h; obtain⟨rfl,rfl⟩:=h; first|exact hn|exact hvs)
 |binOp op t y z u =>
  simp only[aop,xBin,zA1,zA2]at h
  obtain⟨p,hp,q,hq,h⟩:=h
  unfold binV at h
  split at h
  ·rename_i v hv
   simp only[Option.some.injEq,Prod.mk.injEq]at h
   obtain⟨rfl,rfl⟩:=h
   exact aBin_sc hv
  ·split at h
   ·obtain⟨h1,rfl⟩:=mapNext h
    exact aPlain_sc h1
   ·cases h
 |unOp op t y =>
  simp only[aop,xUn,zA1,zA2]at h
  obtain⟨p,hp,h⟩:=h
  unfold unV at h
  split at h
  ·simp only[Option.some.injEq,Prod.mk.injEq]at h; obtain⟨rfl,rfl⟩:=h; simp only[scN,scb]
  ·simp only[Option.some.injEq,Prod.mk.injEq]at h; obtain⟨rfl,rfl⟩:=h; simp only[scN,scb]
  ·split at h
   ·obtain⟨h1,rfl⟩:=mapNext h
    exact aPlain_sc h1
   ·cases h
 |convert s d y =>
  simp only[aop,xConvert,zA1,zA2]at h
  obtain⟨p,hp,h⟩:=h
  exact rvh_sc (fun v g hv=>aConvert_sc (aeval_sc hg hs hp) hv) h
 |makeInterface t y =>
  simp only[aop,xIface,zA1,zA2]at h
  obtain⟨p,hp,h⟩:=h
  unfold ifaceV at h
  split at h
  ·cases h
  ·simp only[Option.some.injEq,Prod.mk.injEq]at h
   obtain⟨rfl,rfl⟩:=h
   simp only[scN,scb]; exact aeval_sc hg hs hp
  ·cases h
 |makeFunc fn p q =>
  simp only[aop,xFunc,zA1,zA2]at h
  obtain⟨u,hu,v,hv,h⟩:=h
  unfold funcV at h
  split at h
  ·cases h
  ·rename_i hne
   simp only[Option.some.injEq,Prod.mk.injEq]at h
   obtain⟨rfl,rfl⟩:=h
   have h1:=aevals_sc hg hs hu
   have h2:=aevals_sc hg hs hv
   cases fn with
   |yield l=>exact absurd rfl (hne l)
   |_=>simp only[scN,scb,scbA,h1,h2,zD6]
 |makeMap t r =>
  have hm:∀ {x:ANext} {H1:AHeap},mapNew H=some (x,H1)->scN H1.next x:=by
   intro x H1 h
   simp only[mapNew,Option.some.injEq,Prod.mk.injEq]at h
   obtain⟨rfl,rfl⟩:=h
   simp only[scN,scb]
   exact blt_of (zC1 _)
  cases r with
  |none=>exact hm h
  |some y =>
   simp only[aop,xMakeMap,zA1,zA2]at h
   obtain⟨u,_,h⟩:=h
   split at h
   ·simp only[zA2]at h
    obtain⟨v,_,h⟩:=h
    split at h
    ·exact hm h
    ·cases h
   ·cases h
 |makeSlice t l c =>
  simp only[aop,xMakeSlice,zA1,zA2]at h
  obtain⟨p,hp,q,hq,h⟩:=h
  refine rvh_sc (fun v g hv=>?_) h
  unfold aMakeSlice at hv
  split at hv
  ·simp only[zA1,zA2]at hv
   obtain⟨u,_,hv⟩:=hv
   split at hv
   ·simp only[zA2]at hv
    obtain⟨by1,_,sz,_,z,_,hv⟩:=hv
    split at hv
    ·simp only[zA2,Option.some.injEq,Prod.mk.injEq]at hv
     obtain⟨g',hg,rfl,rfl⟩:=hv
     exact newp hg
    ·cases hv
   ·cases hv
  ·cases hv
 |slice t y lo hi mx =>
  simp only[aop,xSlice,zA1,zA2]at h
  obtain⟨p,hp,l,_,k,_,m,_,h⟩:=h
  exact rvh_sc (fun v g hv=>aSlice_sc (aeval_sc hg hs hp) hv) h
 |fieldAddr t y f =>
  simp only[aop,xFieldAddr,zA1,zA2]at h
  obtain⟨p,hp,h⟩:=h
  refine rv_sc (fun v hv=>?_) h
  have hps:=aeval_sc hg hs hp
  unfold aFieldAddr at hv
  split at hv
  ·split at hv
   ·split at hv
    ·cases hv
    ·simp only[Option.some.injEq]at hv
     subst hv
     simp only[scb,Addr.add]at hps ⊢
     split<;>exact hps
    ·cases hv
   ·cases hv
  ·cases hv
 |field t y f =>
  simp only[aop,xField,zA1,zA2]at h
  obtain⟨p,hp,h⟩:=h
  refine rv_sc (fun v hv=>?_) h
  have hps:=aeval_sc hg hs hp
  unfold aField at hv
  split at hv
  ·split at hv
   ·refine aPart_sc ?_ hv
    rw[scb,scbA_of]at hps; exact hps
   ·cases hv
  ·cases hv
 |indexAddr t y i =>
  simp only[aop,xIndexAddr,zA1,zA2]at h
  obtain⟨p,hp,q,hq,h⟩:=h
  refine rv_sc (fun v hv=>?_) h
  have hps:=aeval_sc hg hs hp
  unfold aIndexAddr at hv
  split at hv
  ·simp only[zA1,zA2]at hv
   obtain⟨sz,_,hv⟩:=hv
   split at hv
   ·simp only[Option.some.injEq]at hv
    subst hv
    simp only[scb,Addr.add]at hps ⊢
    split<;>exact hps
   ·cases hv
  ·simp only[zA1,zA2]at hv
   obtain⟨sz,_,hv⟩:=hv
   split at hv
   ·simp only[Option.some.injEq]at hv
    subst hv
    simp only[scb]at hps ⊢
    exact hps
   ·cases hv
  ·cases hv
 |index t y i =>
  simp only[aop,xIndex,zA1,zA2]at h
  obtain⟨p,hp,q,hq,h⟩:=h
  have hps:=aeval_sc hg hs hp
  unfold indexV at h
  split at h
  ·rename_i v hv
   simp only[Option.some.injEq,Prod.mk.injEq]at h
   obtain⟨rfl,rfl⟩:=h
   unfold aIndex at hv
   split at hv
   ·simp only[zA1,zA2]at hv
    obtain⟨sz,_,hv⟩:=hv
    split at hv
    ·refine aPart_sc ?_ hv
     rw[scb,scbA_of]at hps; exact hps
    ·cases hv
   ·split at hv
    ·obtain⟨b,_,rfl⟩:=zA6.1 hv
     rfl
    ·cases hv
   ·cases hv
  ·split at h
   ·obtain⟨h1,rfl⟩:=mapNext h
    exact aPlain_sc h1
   ·cases h
 |lookup t y k ok =>
  simp only[aop,xLookup,zA1,zA2]at h
  obtain⟨p,hp,q,hq,h⟩:=h
  exact rv_sc (fun v hv=>aLookup_sc hd hv) h
 |mapUpdate t m k y =>
  simp only[aop,xMapUpdate,ruh,zA1,zA2,zA6,Prod.mk.injEq]at h
  obtain⟨p,_,q,_,r,_,g,_,rfl,rfl⟩:=h
  trivial
 |insert t m k y =>
  simp only[aop,xMapUpdate,ruh,zA1,zA2,zA6,Prod.mk.injEq]at h
  obtain⟨p,_,q,_,r,_,g,_,rfl,rfl⟩:=h
  trivial
 |range t y =>
  simp only[aop,xRange,zA1,zA2]at h
  obtain⟨p,hp,h⟩:=h
  refine rvh_sc (fun v g hv=>?_) h
  unfold aRange at hv
  split at hv
  ·simp only[Option.some.injEq,Prod.mk.injEq]at hv
   obtain⟨rfl,rfl⟩:=hv
   simp only[scb]
   exact blt_of (zC1 _)
  ·cases hv
 |next it s =>
  simp only[aop,xNext,zA1,zA2]at h
  obtain⟨p,hp,h⟩:=h
  refine rvh_sc (fun v g hv=>?_) h
  unfold aNext at hv
  split at hv
  ·split at hv
   ·split at hv
    ·simp only[Option.some.injEq,Prod.mk.injEq]at hv
     obtain⟨rfl,rfl⟩:=hv
     simp only[scb,scbA,scbL,goInt,zD6]
    ·simp only[Option.some.injEq,Prod.mk.injEq]at hv
     obtain⟨rfl,rfl⟩:=hv
     simp only[scb,scbA,scbL,zD6]
   ·cases hv
  ·cases hv
 |typeAssert y t u ok =>
  simp only[aop,xTypeAssert,zA1,zA2]at h
  obtain⟨p,hp,h⟩:=h
  exact rv_sc (fun v hv=>aTypeAssert_sc (aeval_sc hg hs hp) hv) h
 |extract y i =>
  simp only[aop,xExtract,zA1,zA2]at h
  obtain⟨p,hp,h⟩:=h
  have hps:=aeval_sc hg hs hp
  unfold extractV at h
  split at h
  ·refine rv_sc (fun v hv=>?_) h
   rw[scb,scbA_of]at hps
   exact scbL_mem hps (zC2 hv)
  ·cases h
 |call c=>exact xCall_sc hg hd hs h
 |panic y =>
  simp only[aop,xPanic,zA1,zA2]at h
  obtain⟨p,hp,h⟩:=h
  have hps:=aeval_sc hg hs hp
  unfold panicV at h
  split at h
  ·simp only[Option.some.injEq,Prod.mk.injEq]at h
   obtain⟨rfl,rfl⟩:=h
   exact hps
  ·cases h
 |_=>simp[aop,xNone]at h
theorem resVal_sc (hg:P.globals.size<=H.next) (hd:Dom H) (hs:scA H.next a):∀ {rs:List ResultVar} {vs:List Value},resVal P H a rs=some vs->scbL H.next vs=true
 |[],vs,h=>by simp only[resVal,Option.some.injEq]at h; subst h; rfl
 |.tmp t::rs,vs,h=>by
  simp only[resVal,zA1,zA2,Option.some.injEq]at h
  obtain⟨us,hu,rfl⟩:=h
  rw[scbL,resVal_sc hg hd hs hu]
  have:scb H.next (a.tmp t)=true:=by
   unfold AAct.tmp
   split
   ·rename_i hb; exact hs.1 t (blt_lt hb)
   ·exact scb_undef _
  rw[this]; rfl
 |.cell y t::rs,vs,h=>by
  simp only[resVal,zA1,zA2,Option.some.injEq]at h
  obtain⟨v,hv,us,hu,rfl⟩:=h
  rw[scbL,resVal_sc hg hd hs hu,aLoad_sc hd hv]; rfl
theorem tup_sc {vs:List Value} (h:scbL N vs=true):scb N (tup vs)=true:=by
 unfold tup
 split
 ·exact scbL_mem h (zB9 ..)
 ·rw[scb,scbA_list]; exact h
end
def Ren.pe (ρ:Ren) (p:PanicEntry):PanicEntry:={p with v:=ρ.val p.v}
def Ren.exit (ρ:Ren):Exit->Exit
 |.panic ch=>.panic (ch.map ρ.pe)
 |e=>e
def scX (N:Nat):Exit->Prop
 |.panic ch=>∀ p∈ch,scb N p.v=true
 |_=>True
structure WideF (F:Fence):Prop where
 fn:∀ f,F.fn f
 depth:F.depth=none
 alive:F.alive=false
theorem WideF.inRound {F:Fence} (h:WideF F) (l:Nat):WideF (F.inRound l):=⟨h.fn,h.depth,h.alive⟩
theorem WideF.plain {F:Fence} (h:WideF F):WideF F.plain:=⟨h.fn,h.depth,h.alive⟩
theorem WideF.all {F:Fence} (h:WideF F) (P:Program) (m:Machine):m.fenced P F:=by
 intro g _
 refine⟨fun e=>?_,Or.inl (h.fn _),fun _ _=>h.fn _,fun _ e=>?_⟩
 ·rw[h.alive]at e; cases e
 ·rw[h.depth]at e; cases e
theorem WideF.calls {F:Fence} (h:WideF F) {n:Nat} {P:Program} {f:FuncId} {args:Array Value} {w:World} {R:Ending->World->Prop} (hc:Calls P f args w R):CallsIn F n P f args w R:=by
 refine⟨h.fn f,fun cs _=>?_⟩
 obtain⟨e,w',fr,r,s,x⟩:=hc cs
 refine⟨e,w',fr,r,?_,x⟩
 cases e with
 |returned v=>exact (StepsIn.of_steps s).mono fun m _=>h.all P m
 |panicked chain=>exact (StepsIn.of_steps s).mono fun m _=>h.all P m
 |outgrown=>exact s
theorem WideF.deep {F:Fence} (h:WideF F) {n:Nat}:F.depth.isSome=true->1<=n:=fun e=>by rw[h.depth]at e; cases e
def Runs (P:Program) (ro:Option Nat) (c:Code) (a:AAct) (H:AHeap) (e:Exit) (a1:AAct) (H1:AHeap):Prop :=
 ∀ (ρ:Ren) (w:World) (F:Fence) (n:Nat) (Q:Exit->Act->World->Prop),WideF F->F.round=ro.map ρ.blk->(∀ l,ro=some l->l<H.next)->Rel P ρ H w->scA H.next a ->
  (∀ ρ1 w1,St P ρ H w ρ1 H1 w1->scA H1.next a1->scX H1.next e->Q (ρ1.exit e) (ρ1.act a1) w1)->c.wpIn F n P Q (ρ.act a) w
def OutR (P:Program) (ρ:Ren) (H:AHeap) (w:World) (out:Out) (H1:AHeap) (R:Ending->World->Prop):Prop :=
 ∀ ρ1 w1,St P ρ H w ρ1 H1 w1->match out with
  |.ok v=>scb H1.next v=true->R (.returned (ρ1.val v)) w1
  |.error ch=>(∀ p∈ch,scb H1.next p.v=true)->R (.panicked (ch.map ρ1.pe)) w1
def CallS (P:Program) (f:FuncId) (args:List Value) (H:AHeap) (out:Out) (H1:AHeap):Prop :=
 ∀ (ρ:Ren) (w:World),Rel P ρ H w->scbL H.next args=true->∀ (F:Fence) (n:Nat) (R:Ending->World->Prop),WideF F->OutR P ρ H w out H1 R->CallsIn F n P f (args.map ρ.val).toArray w R
structure Sound (P:Program) (rec:Rec):Prop where
 run:∀ (ro:Option Nat) (c:Code) (a:AAct) (H:AHeap) (e:Exit) (a1:AAct) (H1:AHeap),rec.run ro c a H=some (e,a1,H1)->Runs P ro c a H e a1 H1
 know:∀ (f:FuncId) (args:List Value) (v:Value) (H H1:AHeap),rec.know f args H=some (v,H1)->CallS P f args H (.ok v) H1
section
variable {P : Program} {ρ : Ren} {H : AHeap} {w : World}
theorem args_tmps (ρ:Ren) (args:List Value) (n:Nat) (h:args.length<=n) :
  (args.map ρ.val).toArray++Array.replicate (n-(args.map ρ.val).toArray.size) undef=ρ.tmps {RV.ofList args with n:=n}:=by
 apply Array.ext_getElem?
 intro i
 rw[tmps_get?]
 have hg:({RV.ofList args with n:=n}:RV).get i=args.getD i undef:=RV.get_ofList args i
 rw[hg]
 by_cases h1:i<args.length
 ·rw[Array.getElem?_append_left (by simpa using h1),if_pos (by show i<n; omega)]
  simp[h1]
 ·rw[Array.getElem?_append_right (by simpa using h1)]
  by_cases h2:i<n
  ·rw[if_pos h2,Array.getElem?_replicate]
   simp only[List.size_toArray,List.length_map]
   rw[if_pos (by omega)]
   simp[List.getD,zC6 (Nat.not_lt.1 h1)]
  ·rw[if_neg h2,Array.getElem?_replicate]
   simp only[List.size_toArray,List.length_map]
   rw[if_neg (by omega)]
theorem scA_args {args:List Value} {n N:Nat} (h:scbL N args=true):scA N ⟨{RV.ofList args with n:=n},[]⟩:=by
 refine⟨fun i _=>?_,fun d hd=>by cases hd⟩
 have hg:({RV.ofList args with n:=n}:RV).get i=args.getD i undef:=RV.get_ofList args i
 simp only[hg]
 by_cases h1:i<args.length
 ·exact scbL_iff.1 h _ (by simp only[List.getD,zA7 h1,Option.getD_some]; exact List.getElem_mem _)
 ·rw[List.getD,zC6 (Nat.not_lt.1 h1)]; exact scb_undef N
theorem yielded_act (ρ:Ren) (ops:Array Oper) (a:AAct) (j:Nat) :
  yielded ops (ρ.act a).tmps j=match (ops[j]?).bind (·.dst) with
   |some d=>(match a.tmp d with
    |.bool b=>some b
    |_=>none)
   |none=>none:=by
 unfold yielded
 cases hd:(ops[j]?).bind (·.dst) with
 |none=>simp
 |some d =>
  simp only[zA3,Ren.act,tmps_get?,AAct.tmp]
  by_cases h:d<a.env.n
  ·rw[if_pos h,blt_of h,if_pos rfl]
   cases hv:a.env.get d with
   |bool b=>simp[Ren.val]
   |pointer p=>cases p<;>simp[Ren.val]
   |slice p _ _=>cases p<;>simp[Ren.val]
   |map p=>cases p<;>simp[Ren.val]
   |chan p =>
    cases p with
    |none=>simp[Ren.val]
    |some k =>
     have h1:=ρ.op1 k
     rw[Ren.val]
     cases hk:ρ.op k with
     |bool b=>rw[hk]at h1; cases h1
     |_=>rfl
   |_=>simp[Ren.val]
  ·rw[if_neg h,blt_false h]
   simp[undef]
theorem want_run (ρ:Ren) {ops:Array Oper} {a:AAct} {o:Oper} {b:Bool} (h:wantA ops a o=some b):Region.wanted o (yielded ops (ρ.act a).tmps)=b:=by
 unfold wantA at h
 unfold Region.wanted
 split at h
 ·rename_i hg
  simp only[Option.some.injEq]at h
  rw[hg]; simpa using h
 ·rename_i j want hg
  rw[hg]
  simp only[yielded_act]
  split at h
  ·rename_i oj hoj
   rw[hoj]
   simp only[zA3]
   split at h
   ·rename_i d hd
    rw[hd]
    simp only
    split at h
    ·rename_i bb hb
     simp only[Option.some.injEq]at h
     rw[hb]
     simpa using h
    ·rename_i hb
     simp only[Option.some.injEq]at h
     subst h
     split
     ·rename_i bb hbb; exact absurd hbb (hb bb)
     ·rfl
   ·rename_i hd
    simp only[Option.some.injEq]at h
    subst h
    rw[hd]; rfl
  ·rename_i hoj
   simp only[Option.some.injEq]at h
   subst h
   rw[hoj]; rfl
def resSem (tmps:Array Value):ResultVar->Sem Value
 |.tmp t=>pure (tmps.getD t undef)
 |.cell x t=>do loadVar t (<-asAddr (tmps.getD x undef))
theorem resVal_run (r:Rel P ρ H w) {a:AAct}:∀ {rs:List ResultVar} {vs:List Value},resVal P H a rs=some vs->(rs.mapM (resSem (ρ.act a).tmps)).run P w=.ok (vs.map ρ.val) w
 |[],vs,h=>by simp only[resVal,Option.some.injEq]at h; subst h; simp
 |.tmp t::rs,vs,h=>by
  simp only[resVal,zA1,zA2,Option.some.injEq]at h
  obtain⟨us,hu,rfl⟩:=h
  rw[List.mapM_cons]
  have h0:resSem (ρ.act a).tmps (.tmp t)=pure (ρ.val (a.tmp t)):=by simp only[resSem,act_tmp]
  simp[resVal_run r hu,h0]
 |.cell x t::rs,vs,h=>by
  simp only[resVal,zA1,zA2,Option.some.injEq]at h
  obtain⟨v,hv,us,hu,rfl⟩:=h
  rw[List.mapM_cons]
  obtain⟨n,off,hp⟩:=aLoad_ptr hv
  have hl:=aLoad_var r (by rw[<-hp]; exact hv)
  have h0:(resSem (ρ.act a).tmps (.cell x t)).run P w=.ok (ρ.val v) w:=by
   simp only[resSem,act_tmp,hp,val_ptr,asAddr,Sem.run_bind,Sem.run_pure,Result.andThen_ok,hl]
  simp[resVal_run r hu,h0]
theorem tup_val (ρ:Ren) (vs:List Value):(if h:(vs.map ρ.val).toArray.size=1 then (vs.map ρ.val).toArray[0] else .tuple (vs.map ρ.val).toArray)=ρ.val (tup vs):=by
 cases vs with
 |nil=>simp[tup,Ren.val,Ren.valA,Ren.valL]
 |cons v r =>
  cases r with
  |nil=>simp[tup]
  |cons u r=>simp[tup,Ren.val,Ren.valA,Ren.valL_eq]
theorem results_run (r:Rel P ρ H w) {a:AAct} {fn:Func} {vs:List Value} (h:resVal P H a fn.results.toList=some vs) :
  (results fn (ρ.act a).tmps).run P w=.ok (ρ.val (tup vs)) w:=by
 have h1:=resVal_run r h
 have h2:results fn (ρ.act a).tmps=(do
   let vs <-fn.results.mapM (resSem (ρ.act a).tmps)
   pure (if h:vs.size=1 then vs[0] else .tuple vs)):=by
  unfold results
  congr 2
 rw[h2,Array.mapM_eq_mapM_toList]
 simp only[Sem.run_bind,Sem.run_map,h1,Result.andThen_ok,Sem.run_pure,tup_val]
theorem RCalls.plain {F:Fence} {n:Nat} {f:FuncId} {args:Array Value} {R:Ending->World->Prop} (h:CallsIn F.plain n P f args w R):CallsIn F n P f args w R:=h
theorem Rel.doms (r:Rel P ρ H w):Dom H:=r.dom
def Ren.mode (ρ:Ren):FrameMode->FrameMode
 |.panicking ch=>.panicking (ch.map ρ.pe)
 |u=>u
def scM (N:Nat):FrameMode->Prop
 |.panicking ch=>∀ p∈ch,scb N p.v=true
 |_=>True
theorem scM.mono {N M:Nat} {u:FrameMode} (h:scM N u) (hle:N<=M):scM M u:=by
 cases u with
 |panicking ch=>exact fun p hp=>scb_mono hle _ (h p hp)
 |_=>trivial
theorem pes_ext {N:Nat} {ρ ρ':Ren} (e:Ext N ρ ρ') {ch:List PanicEntry} (h:∀ p∈ch,scb N p.v=true):ch.map ρ'.pe=ch.map ρ.pe:=by
 apply zD8
 intro p hp
 simp only[Ren.pe,val_ext e _ (h p hp)]
theorem mode_ext {N:Nat} {ρ ρ':Ren} (e:Ext N ρ ρ') {u:FrameMode} (h:scM N u):ρ'.mode u=ρ.mode u:=by
 cases u with
 |panicking ch=>simp only[Ren.mode,pes_ext e h]
 |_=>rfl
theorem drop_pes (ρ:Ren):∀ (l:List PanicEntry),(l.map ρ.pe).dropWhile (!·.goexit)=(l.dropWhile (!·.goexit)).map ρ.pe
 |[]=>rfl
 |p::l=>by
  simp only[zB3,List.dropWhile_cons,Ren.pe]
  split
  ·exact drop_pes ρ l
  ·rfl
theorem mem_drop {l:List PanicEntry} {p:PanicEntry} (h:p∈l.dropWhile (!·.goexit)):p∈l:=(List.dropWhile_sublist _).subset h
theorem settle_mode (ρ:Ren) (u:FrameMode):settle (ρ.mode u)=ρ.mode (settle u):=by
 cases u with
 |panicking ch =>
  cases ch with
  |nil=>rfl
  |cons p l =>
   obtain⟨v,r,g⟩:=p
   cases r with
   |false=>rfl
   |true =>
    simp only[Ren.mode,zB3,Ren.pe,settle]
    rw[show List.map ρ.pe l=l.map ρ.pe from rfl,drop_pes]
    cases l.dropWhile (!·.goexit)<;>rfl
 |_=>rfl
theorem scM_settle {N:Nat} {u:FrameMode} (h:scM N u):scM N (settle u):=by
 cases u with
 |panicking ch =>
  cases ch with
  |nil=>exact h
  |cons p l =>
   obtain⟨v,r,g⟩:=p
   cases r with
   |false=>exact h
   |true =>
    simp only[settle]
    cases e:l.dropWhile (!·.goexit) with
    |nil=>trivial
    |cons q l' =>
     intro p hp
     exact h p (zB5 _ (mem_drop (by rw[e]; exact hp)))
 |_=>trivial
theorem raised_mode (ρ:Ren) (u:FrameMode) (ch:List PanicEntry):raised (ρ.mode u) (ch.map ρ.pe)=ρ.mode (raised u ch):=by
 cases u<;>simp[Ren.mode,raised]
theorem scM_raised {N:Nat} {u:FrameMode} {ch:List PanicEntry} (h:scM N u) (hc:∀ p∈ch,scb N p.v=true):scM N (raised u ch):=by
 cases u with
 |panicking old =>
  intro p hp
  rcases zC9.1 hp with hp|hp
  ·exact hc p hp
  ·exact h p hp
 |_=>exact hc
theorem isRec_run {e:Operand->Value} {o:Oper} (h:isRec o.op=true):(execOp e o).run P w=.ok .recover w:=by
 obtain⟨dst,op,ty,af,gd,ps⟩:=o
 simp only at h
 unfold isRec at h
 split at h
 ·simp[execOp,resolve,invoke,builtin]
 ·cases h
theorem recoverU_run (ρ:Ren) {c0:Frame} {u:FrameMode} (hu:c0.mode=ρ.mode u) (cs:List Frame) :
  recoverD (c0::cs)=some (ρ.val (recoverU u).1,{c0 with mode:=ρ.mode (recoverU u).2}::cs)\/(recoverD (c0::cs)=none/\recoverU u=(.nilIface,u)):=by
 cases u with
 |panicking ch =>
  cases ch with
  |nil=>right; simp only[Ren.mode,List.map_nil]at hu; simp[recoverD,hu,recoverU]
  |cons p l =>
   obtain⟨v,r,g⟩:=p
   simp only[Ren.mode,zB3,Ren.pe]at hu
   cases r with
   |true=>right; simp[recoverD,hu,recoverU]
   |false =>
    cases g with
    |true=>right; simp[recoverD,hu,recoverU]
    |false=>left; simp[recoverD,hu,recoverU,Ren.mode,Ren.pe]
 |run=>right; simp only[Ren.mode]at hu; simp[recoverD,hu,recoverU]
 |returning=>right; simp only[Ren.mode]at hu; simp[recoverD,hu,recoverU]
theorem scM_recoverU {N:Nat} {u:FrameMode} (h:scM N u):scb N (recoverU u).1=true/\scM N (recoverU u).2:=by
 unfold recoverU
 split
 ·rename_i v older
  refine⟨h _ (zB9 ..),fun p hp=>?_⟩
  rcases zB1.1 hp with rfl|hp
  ·exact h ⟨v,false,false⟩ (zB9 ..)
  ·exact h p (zB5 _ hp)
 ·exact⟨by simp[scb],h⟩
def DefQ (P:Program) (ρ:Ren) (H:AHeap) (w:World) (c0:Frame) (cs:List Frame) (e:Exit) (a1:AAct) (u1:FrameMode) (H1:AHeap) (Q:Exit->Act->List Frame->World->Prop):Prop :=
 ∀ ρ1 w1,St P ρ H w ρ1 H1 w1->scA H1.next a1->scX H1.next e->scM H1.next u1->Q (ρ1.exit e) (ρ1.act a1) ({c0 with mode:=ρ1.mode u1}::cs) w1
theorem mode_self {c:Frame} {u:FrameMode} (h:c.mode=u):({c with mode:=u}:Frame)=c:=by subst h; rfl
theorem runOpsS_run {ops:Array Oper} {F:Fence} {n:Nat} {Q:Exit->Act->List Frame->World->Prop} (hF:WideF F) {cs:List Frame} :
  ∀ (rest:List Oper) (k:Nat) (ρ:Ren) (H:AHeap) (w:World) (a:AAct) (u:FrameMode) (c0:Frame) (e:Exit) (a1:AAct) (u1:FrameMode) (H1:AHeap),ops.toList.drop k=rest->runOpsS P ops rest a u H=some (e,a1,u1,H1) ->
   Rel P ρ H w->scA H.next a->scM H.next u->c0.mode=ρ.mode u->DefQ P ρ H w c0 cs e a1 u1 H1 Q->wpOpsSIn F n P ops Q (List.range' k rest.length) (ρ.act a) (c0::cs) w
 |[],k,ρ,H,w,a,u,c0,e,a1,u1,H1,_,h,r,hs,hm,hu,hQ=>by
  simp only[runOpsS,Option.some.injEq,Prod.mk.injEq]at h
  obtain⟨rfl,rfl,rfl,rfl⟩:=h
  have:=hQ ρ w (St.refl r) hs trivial hm
  rw[mode_self hu]at this
  exact this
 |o::rest,k,ρ,H,w,a,u,c0,e,a1,u1,H1,hd,h,r,hs,hm,hu,hQ=>by
  have hk:ops[k]?=some o:=by
   have:=congrArg (·[0]?) hd
   simpa using this
  have hd':ops.toList.drop (k+1)=rest:=by
   have:=congrArg List.tail hd
   simpa using this
  have next:∀ (ρ1:Ren) (g:AHeap) (w1:World) (v:Value) (u':FrameMode) (c1:Frame),St P ρ H w ρ1 g w1->scb g.next v=true->scM g.next u'->c1.mode=ρ1.mode u'->(∀ m,({c1 with mode:=m}:Frame)={c0 with mode:=m}) ->
    runOpsS P ops rest (a.put o.dst v) u' g=some (e,a1,u1,H1)->wpOpsSIn F n P ops Q (List.range' (k+1) rest.length) ((ρ.act a).put o.dst (ρ1.val v)) (c1::cs) w1:=by
   intro ρ1 g w1 v u' c1 s hsc hm' hu' hc hrun
   rw[<-act_ext s.ext hs,act_put]
   refine runOpsS_run hF rest (k+1) ρ1 g w1 _ u' c1 e a1 u1 H1 hd' hrun s.rel ((hs.mono s.le.next).put _ hsc) hm' hu' ?_
   intro ρ2 w2 s2 h1 h2 h3
   rw[hc]
   exact hQ ρ2 w2 (s.trans s2) h1 h2 h3
  simp only[zB0,List.range'_succ,wpOpsSIn,hk]
  refine⟨fun f _=>hF.fn f,?_⟩
  simp only[runOpsS]at h
  split at h
  ·rename_i hw
   rw[want_run ρ hw,if_pos rfl]
   split at h
   ·rename_i hrec
    rw[isRec_run hrec]
    simp only
    obtain⟨q1,q2⟩:=scM_recoverU hm
    rcases recoverU_run ρ hu cs with h0|⟨h0,h1⟩
    ·rw[h0]
     exact next ρ H w _ _ _ (St.refl r) q1 q2 rfl (fun _=>rfl) h
    ·rw[h0]
     rw[h1]at h
     have:=next ρ H w .nilIface u c0 (St.refl r) (by simp[scb]) hm hu (fun _=>rfl) h
     rw[show ρ.val .nilIface=.nilIface from by simp[Ren.val]]at this
     exact this
   ·split at h
    ·rename_i v g hx
     obtain⟨⟨ρ1,w1,s,hrun⟩,_⟩:=aop_run r hx
     simp only[NRun]at hrun
     rw[hrun]
     exact next ρ1 g w1 v u c0 s (aop_sc r.glob.1 r.doms hs hx) (hm.mono s.le.next) (by rw[hu,mode_ext s.ext hm]) (fun _=>rfl) h
    ·rename_i g hx
     obtain⟨⟨ρ1,w1,s,hrun⟩,_⟩:=aop_run r hx
     simp only[NRun]at hrun
     rw[hrun]
     have:=next ρ1 g w1 undef u c0 s (scb_undef _) (hm.mono s.le.next) (by rw[hu,mode_ext s.ext hm]) (fun _=>rfl) h
     rw[Ren.val_undef]at this
     exact this
    ·rename_i v g hx
     obtain⟨⟨ρ1,w1,s,hrun⟩,_⟩:=aop_run r hx
     simp only[NRun]at hrun
     rw[hrun]
     have hsc:scb g.next v=true:=aop_sc r.glob.1 r.doms hs hx
     simp only[Option.some.injEq,Prod.mk.injEq]at h
     obtain⟨rfl,rfl,rfl,rfl⟩:=h
     have:=hQ ρ1 w1 s (hs.mono s.le.next) (fun p hp=>by simp at hp; subst hp; exact hsc) (hm.mono s.le.next)
     rw[act_ext s.ext hs,mode_ext s.ext hm,mode_self hu]at this
     exact this
    ·cases h
  ·rename_i hw
   rw[want_run ρ hw]
   simp only[zB7,if_false]
   have:=next ρ H w undef u c0 (St.refl r) (scb_undef _) hm hu (fun _=>rfl) h
   rw[Ren.val_undef]at this
   exact this
  ·cases h
theorem runS_run {rec:Rec} (hrec:Sound P rec) {F:Fence} {n:Nat} (hF:WideF F) (hFr:F.round=none) {cs:List Frame} :
  ∀ (c:Code) (ρ:Ren) (H:AHeap) (w:World) (a:AAct) (u:FrameMode) (c0:Frame) (e:Exit) (a1:AAct) (u1:FrameMode) (H1:AHeap) (Q:Exit->Act->List Frame->World->Prop),runS P rec c a u H=some (e,a1,u1,H1) ->
   Rel P ρ H w->scA H.next a->scM H.next u->c0.mode=ρ.mode u->DefQ P ρ H w c0 cs e a1 u1 H1 Q->c.wpSIn F n P Q (ρ.act a) (c0::cs) w:=by
 have lift:∀ (c:Code) (ρ:Ren) (H:AHeap) (w:World) (a:AAct) (u:FrameMode) (c0:Frame) (e:Exit) (a1:AAct) (u1:FrameMode) (H1:AHeap) (Q:Exit->Act->List Frame->World->Prop),
   (rec.run none c a H).map (fun r=>(r.1,r.2.1,u,r.2.2))=some (e,a1,u1,H1) ->
   Rel P ρ H w->scA H.next a->scM H.next u->c0.mode=ρ.mode u->DefQ P ρ H w c0 cs e a1 u1 H1 Q->c.wpSIn F n P Q (ρ.act a) (c0::cs) w:=by
  intro c ρ H w a u c0 e a1 u1 H1 Q h r hs hm hu hQ
  simp only[zA6,Prod.mk.injEq]at h
  obtain⟨⟨e',a',H'⟩,hr,rfl,rfl,rfl,rfl⟩:=h
  refine wpSIn_of_wpIn hFr (hrec.run none c a H _ _ _ hr ρ w F n _ hF (by rw[hFr]; rfl) (fun l hl=>by cases hl) r hs ?_)
  intro ρ1 w1 s h1 h2
  have:=hQ ρ1 w1 s h1 h2 (hm.mono s.le.next)
  rw[mode_ext s.ext hm,mode_self hu]at this
  exact this
 intro c
 induction c with
 |seq x y ihx ihy =>
  intro ρ H w a u c0 e a1 u1 H1 Q h r hs hm hu hQ
  simp only[runS]at h
  refine wpSIn_seq ?_
  split at h
  ·rename_i a2 u2 H2 hx
   refine ihx ρ H w a u c0 .normal a2 u2 H2 _ hx r hs hm hu ?_
   intro ρ1 w1 s h1 _ h3
   refine ihy ρ1 H2 w1 a2 u2 _ e a1 u1 H1 Q h s.rel h1 h3 rfl ?_
   intro ρ2 w2 s2 k1 k2 k3
   exact hQ ρ2 w2 (s.trans s2) k1 k2 k3
  ·rename_i hne
   refine ihx ρ H w a u c0 e a1 u1 H1 _ h r hs hm hu ?_
   intro ρ1 w1 s h1 h2 h3
   have:=hQ ρ1 w1 s h1 h2 h3
   cases e with
   |normal=>exact absurd h (hne a1 u1 H1)
   |_=>exact this
 |cond c x y ihx ihy =>
  intro ρ H w a u c0 e a1 u1 H1 Q h r hs hm hu hQ
  simp only[runS]at h
  split at h
  ·rename_i hc
   refine wpSIn_cond (t:=true) (by rw[aeval_run r hc]; simp[Ren.val]) ?_
   exact ihx ρ H w a u c0 e a1 u1 H1 Q h r hs hm hu hQ
  ·rename_i hc
   refine wpSIn_cond (t:=false) (by rw[aeval_run r hc]; simp[Ren.val]) ?_
   exact ihy ρ H w a u c0 e a1 u1 H1 Q h r hs hm hu hQ
  ·cases h
 |region id ops draw =>
  intro ρ H w a u c0 e a1 u1 H1 Q h r hs hm hu hQ
  cases draw with
  |true=>exact lift _ ρ H w a u c0 e a1 u1 H1 Q h r hs hm hu hQ
  |false =>
   simp only[runS]at h
   split at h
   ·refine wpSIn_region ?_
    rw[List.range_eq_range']
    have:=runOpsS_run (n:=n) (Q:=Q) hF (cs:=cs) ops.toList 0 ρ H w a u c0 e a1 u1 H1 (by simp) h r hs hm hu hQ
    simpa using this
   ·exact lift _ ρ H w a u c0 e a1 u1 H1 Q h r hs hm hu hQ
 |_ =>
  intro ρ H w a u c0 e a1 u1 H1 Q h r hs hm hu hQ
  exact lift _ ρ H w a u c0 e a1 u1 H1 Q h r hs hm hu hQ
def OutD (P:Program) (ρ:Ren) (H:AHeap) (w:World) (out:Out) (u1:FrameMode) (H1:AHeap) (R:Ending->FrameMode->World->Prop):Prop :=
 ∀ ρ1 w1,St P ρ H w ρ1 H1 w1->scM H1.next u1->match out with
  |.ok v=>R (.returned (ρ1.val v)) (ρ1.mode u1) w1
  |.error ch=>(∀ p∈ch,scb H1.next p.v=true)->R (.panicked (ch.map ρ1.pe)) (ρ1.mode u1) w1
theorem enterD_run {rec:Rec} (hrec:Sound P rec) (r:Rel P ρ H w) {f:FuncId} {args:List Value} {u:FrameMode} {out:Out} {u1:FrameMode} {H1:AHeap} (h:enterD P rec f args u H=some (out,u1,H1)) (hsc:scbL H.next args=true) (hm:scM H.next u)
  {F:Fence} {n:Nat} {R:Ending->FrameMode->World->Prop} (hF:WideF F) (hFr:F.round=none) (hR:OutD P ρ H w out u1 H1 R):CallsDIn F n P f (args.map ρ.val).toArray (ρ.mode u) w R:=by
 simp only[enterD,zA1,zA2]at h
 obtain⟨fn,hfn,c,hc,h⟩:=h
 split at h
 ·rename_i hle
  have hle:=ble_le hle
  simp only[zA2]at h
  obtain⟨⟨e,a1,u2,H2⟩,hr,h⟩:=h
  refine callsDIn_of_wpSIn hfn hc (hF.fn f) (fun c0 cs hu=>?_)
  have hact:({tmps:=(args.map ρ.val).toArray++Array.replicate (fn.ntmps-(args.map ρ.val).toArray.size) undef,defers:=[]}:Act)=ρ.act ⟨{RV.ofList args with n:=fn.ntmps},[]⟩:=by
   rw[args_tmps ρ args fn.ntmps hle]; rfl
  rw[hact]
  refine runS_run hrec hF hFr c ρ H w _ u c0 e a1 u2 H2 _ hr r (scA_args hsc) hm hu ?_
  intro ρ1 w1 s h1 h2 h3
  obtain⟨env,ds⟩:=a1
  unfold endD at h
  split at h
  ·rename_i e' u' H' heq
   simp only[Prod.mk.injEq,AAct.mk.injEq]at heq
   obtain⟨rfl,⟨rfl,rfl⟩,rfl,rfl⟩:=heq
   simp only[zA6,Prod.mk.injEq]at h
   obtain⟨vs,hvs,rfl,rfl,rfl⟩:=h
   exact⟨rfl,_,rfl,_,results_run s.rel hvs,hR ρ1 w1 s h3⟩
  ·rename_i e' u' H' heq
   simp only[Prod.mk.injEq,AAct.mk.injEq]at heq
   obtain⟨rfl,⟨rfl,rfl⟩,rfl,rfl⟩:=heq
   simp only[zA6,Prod.mk.injEq]at h
   obtain⟨vs,hvs,rfl,rfl,rfl⟩:=h
   exact⟨rfl,_,rfl,_,results_run s.rel hvs,hR ρ1 w1 s h3⟩
  ·rename_i ch e' u' H' heq
   simp only[Prod.mk.injEq,AAct.mk.injEq]at heq
   obtain⟨rfl,⟨rfl,rfl⟩,rfl,rfl⟩:=heq
   simp only[Option.some.injEq,Prod.mk.injEq]at h
   obtain⟨rfl,rfl,rfl⟩:=h
   exact⟨rfl,_,rfl,hR ρ1 w1 s h3 h2⟩
  ·cases h
 ·cases h
theorem map_run (ρ:Ren) (c:Array Value):ρ.valA c=(c.toList.map ρ.val).toArray:=by
 rw[Ren.valA_eq]; apply Array.ext'; simp
theorem leaveF_run {rec:Rec} (hrec:Sound P rec) {F:Fence} {n:Nat} (hF:WideF F) (hFr:F.round=none) {fn:Func} {a1:AAct} {R:Ending->World->Prop} :
  ∀ (ds:List Deferred) (u:FrameMode) (H:AHeap) (w:World) (ρ:Ren) (out:Out) (H1:AHeap),leaveF P rec fn a1 ds u H=some (out,H1)->Rel P ρ H w->scA H.next a1->(∀ d∈ds,scD H.next d)->scM H.next u ->
   OutR P ρ H w out H1 R->LeavesInM F n P fn (ρ.act a1).tmps R (ds.map ρ.dfr) (ρ.mode u) w
 |[],u,H,w,ρ,out,H1,h,r,hs,hd,hm,hR=>by
  cases u with
  |run=>simp[leaveF]at h
  |returning =>
   simp only[leaveF,zA6,Prod.mk.injEq]at h
   obtain⟨vs,hvs,rfl,rfl⟩:=h
   exact⟨_,results_run r hvs,hR ρ w (St.refl r) (tup_sc (resVal_sc r.glob.1 r.doms hs hvs))⟩
  |panicking ch =>
   simp only[leaveF,Option.some.injEq,Prod.mk.injEq]at h
   obtain⟨rfl,rfl⟩:=h
   exact hR ρ w (St.refl r) hm
 |d::ds,u,H,w,ρ,out,H1,h,r,hs,hd,hm,hR=>by
  have hne:ρ.mode u≠.run:=by
   cases u with
   |run=>simp[leaveF]at h
   |_=>simp[Ren.mode]
  refine⟨hne,?_⟩
  rcases hd d (zB9 ..) with⟨x,rfl,hx⟩|⟨f,cap,as0,rfl,hcap,has⟩
  ·have h' : (match (generalizing := false) H.get x with
     |some ⟨.deferred (some []),_,_⟩=>leaveF P rec fn a1 ds u (H.upd x (some ⟨.deferred none,false,⟨[],0⟩⟩))
     |_=>none)=some (out,H1):=by
    cases u with
    |run=>simp[leaveF]at h
    |_=>simp only[leaveF]at h; exact h
   clear h
   split at h'
   ·rename_i o v hg
    obtain⟨o',hw,hf⟩:=r.obj _ _ hg
    simp only[Fits]at hf
    subst hf
    obtain⟨k1,k2,k3⟩:=setObj_heap (w:=w) (ρ.blk x) _ (.deferred none) hw
    have hst:St P ρ H w ρ (H.upd x (some ⟨.deferred none,false,⟨[],0⟩⟩)) {w with heap:=w.heap.setIfInBounds (ρ.blk x) (.deferred none)} :=
     St.upd r (ne_none hg) (nz_of hg rfl) (by simp[sco]) (by simp[Fits]) k1 k2 k3 rfl rfl rfl
    have ih:=leaveF_run hrec hF hFr (n:=n) (R:=R) ds u _ _ ρ out H1 h' hst.rel hs (fun d hd'=>hd d (zB5 _ hd')) hm (fun ρ1 w1 s=>hR ρ1 w1 (hst.trans s))
    refine .inl ⟨ρ.blk x,_,rfl,?_,ih⟩
    simp[Instr.takeDeferred,getObj,Sem.run,hw,run_setObj (P:=P) (o':=.deferred none) hw (fun _ _ _=>by simp)]
   ·cases h'
  ·have h' : (if hasBody P f then
     match (generalizing:=false) enterD P rec f (as0.toList++cap.toList) u H with
     |some (.ok _,u1,H1)=>leaveF P rec fn a1 ds (settle u1) H1
     |some (.error ch,u1,H1)=>leaveF P rec fn a1 ds (raised u1 ch) H1
     |none=>none
    else none)=some (out,H1):=by
    cases u with
    |run=>simp[leaveF]at h
    |_=>simp only[leaveF]at h; exact h
   clear h
   split at h'
   ·rename_i hb
    have hsas:scbL H.next (as0.toList++cap.toList)=true:=scbL_append (by rw[<-scbA_of]; exact has) (by rw[<-scbA_of]; exact hcap)
    have hargs:ρ.valA as0++ρ.valA cap=((as0.toList++cap.toList).map ρ.val).toArray:=by
     rw[map_run,map_run]; simp
    refine .inr ⟨hF.deep,.func f,ρ.valA cap,f,((as0.toList++cap.toList).map ρ.val).toArray,rfl,?_,fun g _=>hF.fn g,?_⟩
    ·simp only[Ren.dfr,Ren.fn,invoke,hargs]
     exact hasBody_run hb
    ·split at h'
     ·rename_i v u1 H2 hen
      refine enterD_run hrec r hen hsas hm hF hFr ?_
      intro ρ1 w1 s hm1
      simp only
      rw[settle_mode,<-act_ext s.ext hs,show ds.map ρ.dfr=ds.map ρ1.dfr from zD8 fun d hd'=>(dfr_ext s.ext (hd d (zB5 _ hd'))).symm]
      exact leaveF_run hrec hF hFr ds _ H2 w1 ρ1 out H1 h' s.rel (hs.mono s.le.next) (fun d hd'=>(hd d (zB5 _ hd')).mono s.le.next) (scM_settle hm1) (fun ρ2 w2 s2=>hR ρ2 w2 (s.trans s2))
     ·rename_i ch u1 H2 hen
      refine enterD_run hrec r hen hsas hm hF hFr ?_
      intro ρ1 w1 s hm1 hch
      simp only
      rw[raised_mode,<-act_ext s.ext hs,show ds.map ρ.dfr=ds.map ρ1.dfr from zD8 fun d hd'=>(dfr_ext s.ext (hd d (zB5 _ hd'))).symm]
      exact leaveF_run hrec hF hFr ds _ H2 w1 ρ1 out H1 h' s.rel (hs.mono s.le.next) (fun d hd'=>(hd d (zB5 _ hd')).mono s.le.next) (scM_raised hm1 hch) (fun ρ2 w2 s2=>hR ρ2 w2 (s.trans s2))
     ·cases h'
   ·cases h'
theorem enter_core {rec:Rec} (hrec:Sound P rec) {f:FuncId} {args:List Value} {fn:Func} {c:Code} {e:Exit} {a1:AAct} {H2 H1:AHeap} {out:Out} (hfn:P.funcs[f]?=some fn) (hc:fn.body=some c) (hle:args.length<=fn.ntmps)
  (hr:Runs P none c ⟨{RV.ofList args with n:=fn.ntmps},[]⟩ H e a1 H2) (h:endF P rec fn (e,a1,H2)=some (out,H1)):CallS P f args H out H1:=by
 intro ρ w r hsc F n R hF hR
 refine RCalls.plain (callsIn_of_wp_marks hfn hc (hF.plain.fn f) ?_ rfl)
 have hact:({tmps:=(args.map ρ.val).toArray++Array.replicate (fn.ntmps-(args.map ρ.val).toArray.size) undef,defers:=[]}:Act)=ρ.act ⟨{RV.ofList args with n:=fn.ntmps},[]⟩:=by
  rw[args_tmps ρ args fn.ntmps hle]; rfl
 rw[hact]
 refine hr ρ w F.plain n _ hF.plain rfl (fun l hl=>by cases hl) r (scA_args hsc) ?_
 intro ρ1 w1 hst hsa hsx
 have key:∀ (u:FrameMode),leaveF P rec fn a1 a1.defers u H2=some (out,H1)->scM H2.next u->LeavesInM F.plain n P fn (ρ1.act a1).tmps R (ρ1.act a1).defers (ρ1.mode u) w1 :=
  fun u hl hu=>leaveF_run hrec hF.plain rfl a1.defers u H2 w1 ρ1 out H1 hl hst.rel hsa hsa.2 hu (fun ρ2 w2 s2=>hR ρ2 w2 (hst.trans s2))
 cases e with
 |normal=>exact key .returning h trivial
 |ret=>exact key .returning h trivial
 |panic ch=>exact key (.panicking ch) h hsx
 |exit id=>simp[endF]at h
 |goto l=>simp[endF]at h
 |outgrown=>simp[endF]at h
theorem enterF_run {rec:Rec} (hrec:Sound P rec) (r:Rel P ρ H w) {f:FuncId} {args:List Value} {out:Out} {H1:AHeap} (h:enterF P rec f args H=some (out,H1)) (hsc:scbL H.next args=true)
  {F:Fence} {n:Nat} {R:Ending->World->Prop} (hF:WideF F) (hR:OutR P ρ H w out H1 R):CallsIn F n P f (args.map ρ.val).toArray w R:=by
 simp only[enterF,zA1,zA2]at h
 obtain⟨fn,hfn,c,hc,h⟩:=h
 split at h
 ·rename_i hle
  simp only[zA2]at h
  obtain⟨⟨e,a1,H2⟩,hr,h⟩:=h
  exact enter_core hrec hfn hc (ble_le hle) (hrec.run none c _ H e a1 H2 hr) h ρ w r hsc F n R hF hR
 ·cases h
theorem getLoop_get {l:Nat} {lp:Loop} {e:RV} (h:getLoop H l=some (lp,e)):∃ o,H.get l=some ⟨.loop lp,o,e⟩:=by
 unfold getLoop at h
 split at h
 ·rename_i r o e' hg
  simp only[Option.some.injEq,Prod.mk.injEq]at h
  obtain⟨rfl,rfl⟩:=h
  exact⟨o,hg⟩
 ·cases h
theorem setLoop_run (r:Rel P ρ H w) {l:Nat} {lp lp':Loop} {e:RV} (h:getLoop H l=some (lp,e)) (hd:lp'.defers=lp.defers) :
  ∃ fn,(Instr.getLoop (ρ.blk l)).run P w=.ok {lp with fn:=fn,tmps:=ρ.tmps e,defers:=ρ.blk lp.defers} w /\
   ∃ w1,(setObj (ρ.blk l) (.loop {lp' with fn:=fn,tmps:=ρ.tmps e,defers:=ρ.blk lp.defers})).run P w=.ok () w1/\St P ρ H w ρ (setLoop H l lp' e) w1:=by
 obtain⟨o,hg⟩:=getLoop_get h
 obtain⟨fn,hw,hgl⟩:=run_getLoop r hg
 refine⟨fn,hgl,_,run_setObj hw (fun _ _ _=>by simp),?_⟩
 obtain⟨k1,k2,k3⟩:=setObj_heap (w:=w) (ρ.blk l) _ (.loop {lp' with fn:=fn,tmps:=ρ.tmps e,defers:=ρ.blk lp.defers}) hw
 have hs:=(r.dom _ _ hg).2
 simp only[sco]at hs
 refine St.upd r (ne_none hg) (nz_of hg rfl) ?_ ?_ k1 k2 k3 rfl rfl rfl
 ·simp only[sco,hd]; exact hs
 ·simp only[Fits,hd]; exact⟨fn,rfl⟩
theorem St.below (r:Rel P ρ H w) {w1:World} (h:RowKit.Below w.heap.size w w1):St P ρ H w ρ H w1:=by
 refine⟨Ext.refl _ _,Le.refl _,⟨r.base,r.glob,r.inj,r.dom,fun n o ho=>?_⟩,h.os,h.tape,h.output,h.size,fun b hb _=>h.block b hb,fun n hn hg=>absurd (r.lt hg) (by omega),fun _ _=>⟨id,rfl⟩⟩
 rw[h.block _ (r.blk_lt (ne_none ho))]
 exact r.obj n o ho
theorem map_af (ρ:Ren):∀ (l:List Value),(∀ x∈l,af x=true)->l.map ρ.val=l
 |[],_=>rfl
 |x::l,h=>by
  rw[zB3,val_af ρ x (h x (zB9 ..)),map_af ρ l (fun y hy=>h y (zB5 _ hy))]
theorem callF_run {rec:Rec} (hrec:Sound P rec) (r:Rel P ρ H w) {f:FuncId} {args:List Value} {out:Out} {H1:AHeap} (h:callF P rec f args H=some (out,H1)) (hsc:scbL H.next args=true)
  {F:Fence} {n:Nat} {R:Ending->World->Prop} (hF:WideF F) (hR:OutR P ρ H w out H1 R):CallsIn F n P f (args.map ρ.val).toArray w R:=by
 unfold callF at h
 split at h
 ·rename_i v g hk
  simp only[Option.some.injEq,Prod.mk.injEq]at h
  obtain⟨rfl,rfl⟩:=h
  exact hrec.know f args v H g hk ρ w r hsc F n R hF hR
 ·exact enterF_run hrec r h hsc hF hR
def RoundS (P:Program) (rd:Round) (H:AHeap) (out:Out) (H1:AHeap):Prop :=
 ∀ (ρ:Ren) (w:World),Rel P ρ H w->rd.l<H.next->(∀ i,i<rd.env.n->scb H.next (rd.env.get i)=true)->∀ (F:Fence) (n:Nat) (f:FuncId) (R:Ending->World->Prop),WideF F->OutR P ρ H w out H1 R->RoundIn F n P (ρ.blk rd.l) f (ρ.tmps rd.env) rd.assign rd.body w R
theorem round_core {rd:Round} {a1 a2:AAct} {H2 H3:AHeap} {e2:Exit} {lp lp2:Loop} {le le2:RV} {j:Option Code} (hr:Runs P (some rd.l) rd.assign ⟨rd.env,[]⟩ H .normal a1 H2)
  (hlp:getLoop H2 rd.l=some (lp,le)) (hready:lp.state=.ready) (hr2:Runs P (some rd.l) rd.body a1 (setLoop H2 rd.l {lp with state:=.busy} le) e2 a2 H3) (hj:jumpOf e2=some j) (hlp2:getLoop H3 rd.l=some (lp2,le2)) :
  RoundS P rd H (.ok (.bool j.isNone)) (setLoop H3 rd.l {lp2 with state:=if j.isNone then .ready else .done,pending:=j} le2):=by
 intro ρ w r hl hsc F n f R hF hR
 refine roundIn_of_wpIn (hF.fn f) ?_
 have hact:({tmps:=ρ.tmps rd.env,defers:=[]}:Act)=ρ.act ⟨rd.env,[]⟩:=rfl
 rw[hact]
 refine hr ρ w (F.inRound (ρ.blk rd.l)) n _ (hF.inRound _) rfl (fun l e=>by cases e; exact hl) r ⟨hsc,fun d hd=>by cases hd⟩ ?_
 intro ρ1 w1 hst hsa hsx
 have hblk:ρ1.blk rd.l=ρ.blk rd.l:=hst.ext.blk _ hl
 obtain⟨fn,hgl,w2,hset,hst2⟩:=setLoop_run hst.rel (lp':={lp with state:=.busy}) hlp rfl
 rw[hblk]at hgl hset
 refine⟨w2,?_,?_⟩
 ·simp only[Instr.beginRound,Sem.run_bind,hgl,Result.andThen_ok]
  rw[show ({({lp with fn:=fn,tmps:=ρ1.tmps le,defers:=ρ1.blk lp.defers}:Loop) with state:=.busy}:Loop)={({lp with state:=.busy}:Loop) with fn:=fn,tmps:=ρ1.tmps le,defers:=ρ1.blk lp.defers} from rfl,hset]
  simp[hready]
 ·have hn2:(setLoop H2 rd.l {lp with state:=.busy} le).next=H2.next:=rfl
  have hl2:rd.l<H2.next:=zC3 hl hst.le.next
  refine hr2 ρ1 w2 (F.inRound (ρ.blk rd.l)) n _ (hF.inRound _) (by simp[hblk]) (fun l e=>by cases e; rw[hn2]; exact hl2) hst2.rel hsa ?_
  intro ρ2 w3 hst3 hsa3 hsx3
  have hblk2:ρ2.blk rd.l=ρ.blk rd.l:=(hst3.ext.blk _ (by rw[hn2]; exact hl2)).trans hblk
  obtain⟨fn2,hgl2,w4,hset4,hst4⟩:=setLoop_run hst3.rel (lp':={lp2 with state:=if j.isNone then .ready else .done,pending:=j}) hlp2 rfl
  rw[hblk2]at hgl2 hset4
  have hend:(Instr.endRound (ρ.blk rd.l) j).run P w3=.ok (.bool j.isNone) w4:=by
   simp only[Instr.endRound,Sem.run_bind,hgl2,Result.andThen_ok]
   rw[show ({({lp2 with fn:=fn2,tmps:=ρ2.tmps le2,defers:=ρ2.blk lp2.defers}:Loop) with state:=if j.isNone then .ready else .done,pending:=j}:Loop) =
    {({lp2 with state:=if j.isNone then .ready else .done,pending:=j}:Loop) with fn:=fn2,tmps:=ρ2.tmps le2,defers:=ρ2.blk lp2.defers} from rfl,hset4]
   simp
  have hfin:=hR ρ2 w4 (((hst.trans hst2).trans hst3).trans hst4) (by simp only[scb])
  simp only[Ren.val]at hfin
  cases e2 with
  |normal=>simp only[jumpOf,Option.some.injEq]at hj; subst hj; exact⟨_,_,hend,hfin⟩
  |ret=>simp only[jumpOf,Option.some.injEq]at hj; subst hj; exact⟨_,_,hend,hfin⟩
  |exit id=>simp only[jumpOf,Option.some.injEq]at hj; subst hj; exact⟨_,_,hend,hfin⟩
  |goto t=>simp only[jumpOf,Option.some.injEq]at hj; subst hj; exact⟨_,_,hend,hfin⟩
  |panic ch=>simp[jumpOf]at hj
  |outgrown=>simp[jumpOf]at hj
theorem roundF_runS {rec:Rec} (hrec:Sound P rec) {rd:Round} {out:Out} {H1:AHeap} (h:roundF rec rd H=some (out,H1)):RoundS P rd H out H1:=by
 unfold roundF at h
 simp only[zA1,zA2]at h
 obtain⟨⟨e,a1,H2⟩,hr,h⟩:=h
 cases e with
 |normal =>
  simp only[zA2]at h
  obtain⟨⟨lp,le⟩,hlp,h⟩:=h
  simp only at h
  split at h
  ·rename_i hready
   simp only[zA2]at h
   obtain⟨⟨e2,a2,H3⟩,hr2,j,hj,⟨lp2,le2⟩,hlp2,h⟩:=h
   simp only[Option.some.injEq,Prod.mk.injEq]at h
   obtain⟨rfl,rfl⟩:=h
   exact round_core (hrec.run _ _ _ _ _ _ _ hr) hlp hready (hrec.run _ _ _ _ _ _ _ hr2) hj hlp2
  ·cases h
 |exit id=>cases h
 |goto l=>cases h
 |ret=>cases h
 |panic ch=>cases h
 |outgrown=>cases h
end
section
variable {P : Program} {ρ : Ren} {H : AHeap} {w : World}
def OpR (P:Program) (ρ:Ren) (H:AHeap) (w:World) (a:Act) (dst:Option Tmp) (out:Out) (H1:AHeap) (K:Act->World->Prop) (Q:Exit->Act->World->Prop):Prop :=
 ∀ ρ1 w1,St P ρ H w ρ1 H1 w1->match out with
  |.ok v=>scb H1.next v=true->K (a.put dst (ρ1.val v)) w1
  |.error ch=>(∀ p∈ch,scb H1.next p.v=true)->Q (.panic (ch.map ρ1.pe)) a w1
theorem opF_runG {rec:Rec} (hrec:Sound P rec) (r:Rel P ρ H w) {a:AAct} (hs:scA H.next a) {o:Oper} {out:Out} {H1:AHeap} (h:opF P rec a H o=some (out,H1)) {ca:Act} (hca:∀ x∈o.op.operands,ca.eval x=(ρ.act a).eval x)
  {F:Fence} {n:Nat} {K:Act->World->Prop} {Q:Exit->Act->World->Prop} (hF:WideF F) (hR:OpR P ρ H w ca o.dst out H1 K Q):o.wpIn F n P ca w K Q:=by
 simp only[opF,zA2]at h
 obtain⟨⟨x,g⟩,hx,h⟩:=h
 have hsn:=aop_sc r.glob.1 r.doms hs hx
 obtain⟨⟨ρ1,w1,hst,hrun⟩,hnd⟩:=aop_run r hx
 refine⟨fun f _=>hF.fn f,?_⟩
 have hsel:∀ cs b,o.op≠.select cs b:=fun cs b e=>by rw[e]at hx; simp[aop,xNone]at hx
 rw[Oper.semAt_eq _ _ _ hnd,execOp_congr o hsel hca]
 cases x with
 |value v =>
  simp only[doN,Option.some.injEq,Prod.mk.injEq]at h
  obtain⟨rfl,rfl⟩:=h
  simp only[NRun]at hrun
  rw[hrun,Oper.uponIn_value]
  exact hR ρ1 w1 hst hsn
 |skip =>
  simp only[doN,Option.some.injEq,Prod.mk.injEq]at h
  obtain⟨rfl,rfl⟩:=h
  simp only[NRun]at hrun
  rw[hrun,Oper.uponIn_skip]
  have:=hR ρ1 w1 hst (scb_undef _)
  simpa using this
 |enter f args =>
  simp only[doN]at h
  simp only[NRun]at hrun
  rw[hrun,Oper.uponIn_enter]
  refine⟨hF.deep,callF_run hrec hst.rel h hsn hF ?_⟩
  intro ρ2 w2 hst2
  cases out with
  |ok v=>exact hR ρ2 w2 (hst.trans hst2)
  |error ch=>exact hR ρ2 w2 (hst.trans hst2)
 |round rd =>
  simp only[doN]at h
  simp only[NRun]at hrun
  obtain⟨fn,hrun⟩:=hrun
  rw[hrun,Oper.uponIn_round]
  refine⟨hF.deep,roundF_runS hrec h ρ1 w1 hst.rel hsn.1 hsn.2 _ _ _ _ hF ?_⟩
  intro ρ2 w2 hst2
  cases out with
  |ok v=>exact hR ρ2 w2 (hst.trans hst2)
  |error ch=>exact hR ρ2 w2 (hst.trans hst2)
 |panic v =>
  simp only[doN,Option.some.injEq,Prod.mk.injEq]at h
  obtain⟨rfl,rfl⟩:=h
  simp only[NRun]at hrun
  rw[hrun,Oper.uponIn_panic]
  exact hR ρ1 w1 hst (fun p hp=>by simp at hp; subst hp; exact hsn)
def OpS (P:Program) (a:AAct) (H:AHeap) (o:Oper) (out:Out) (H1:AHeap):Prop :=
 ∀ (ρ:Ren) (w:World),Rel P ρ H w->scA H.next a->∀ (ca:Act),(∀ x∈o.op.operands,ca.eval x=(ρ.act a).eval x) ->
  ∀ (F:Fence) (n:Nat) (K:Act->World->Prop) (Q:Exit->Act->World->Prop),WideF F->OpR P ρ H w ca o.dst out H1 K Q->o.wpIn F n P ca w K Q
theorem opF_opS {rec:Rec} (hrec:Sound P rec) {a:AAct} {o:Oper} {out:Out} {H1:AHeap} (h:opF P rec a H o=some (out,H1)):OpS P a H o out H1 :=
 fun _ _ r hs _ hca _ _ _ _ hF hR=>opF_runG hrec r hs h hca hF hR
theorem opF_run {rec:Rec} (hrec:Sound P rec) (r:Rel P ρ H w) {a:AAct} (hs:scA H.next a) {o:Oper} {out:Out} {H1:AHeap} (h:opF P rec a H o=some (out,H1))
  {F:Fence} {n:Nat} {K:Act->World->Prop} {Q:Exit->Act->World->Prop} (hF:WideF F) (hR:OpR P ρ H w (ρ.act a) o.dst out H1 K Q):o.wpIn F n P (ρ.act a) w K Q :=
 opF_runG hrec r hs h (fun _ _=>rfl) hF hR
theorem aDefer_run (r:Rel P ρ H w) {a:AAct} (hs:scA H.next a) {o:Oper} {d:Deferred} (h:aDefer P a o.op=some d):(execOp (ρ.act a).eval o).run P w=.ok (.defer (ρ.dfr d)) w/\scD H.next d:=by
 obtain⟨dst,op,ty,after,gd,ps⟩:=o
 simp only at h
 unfold aDefer at h
 split at h
 ·rename_i c
  split at h
  ·rename_i f hcal
   simp only[zA1,zA2]at h
   obtain⟨args,hargs,fv,hfv,h⟩:=h
   unfold deferV at h
   split at h
   ·rename_i g first captured
    simp only[Option.some.injEq]at h
    subst h
    have hf:=aeval_sc r.glob.1 hs hfv
    simp only[scb,zA4]at hf
    refine⟨?_,.inr ⟨g,captured,_,rfl,hf.2,?_⟩⟩
    ·have h1:=aeval_run r hfv
     have h2:=aevals_run r hargs
     obtain⟨callee,cargs,cty⟩:=c
     simp only at hcal h2
     subst hcal
     simp only[execOp,resolve,h1,Ren.val,Deferred.ofValue,Ren.fn,Sem.run_bind,Sem.run_pure,Result.andThen_ok,Ren.dfr]
     congr 3
     rw[map_run,map_run,List.map_append]
     have h3:cargs.map (ρ.act a).eval=(args.map ρ.val).toArray:=by
      apply Array.ext'
      simpa using h2
     rw[h3]; simp
    ·obtain⟨fl⟩:=first
     rw[scbA]at hf ⊢
     exact scbL_append hf.1 (aevals_sc r.glob.1 hs hargs)
   ·cases h
  ·cases h
 ·cases h
theorem runSeq_run {rec:Rec} (hrec:Sound P rec) {top:Bool} {ops:Array Oper} {F:Fence} {n:Nat} {Q:Exit->Act->World->Prop} (hF:WideF F) (htop:top=true->F.round=none) :
  ∀ (rest:List Oper) (k:Nat) (ρ:Ren) (H:AHeap) (w:World) (a:AAct) (e:Exit) (a1:AAct) (H1:AHeap),ops.toList.drop k=rest->runSeq P rec top ops rest a H=some (e,a1,H1)->Rel P ρ H w->scA H.next a ->
   (∀ ρ1 w1,St P ρ H w ρ1 H1 w1->scA H1.next a1->scX H1.next e->Q (ρ1.exit e) (ρ1.act a1) w1)->wpOpsIn F n P ops Q (List.range' k rest.length) (ρ.act a) w
 |[],k,ρ,H,w,a,e,a1,H1,_,h,r,hs,hQ=>by
  simp only[runSeq,Option.some.injEq,Prod.mk.injEq]at h
  obtain⟨rfl,rfl,rfl⟩:=h
  exact hQ ρ w (St.refl r) hs trivial
 |o::rest,k,ρ,H,w,a,e,a1,H1,hd,h,r,hs,hQ=>by
  have hk:ops[k]?=some o:=by
   have:=congrArg (·[0]?) hd
   simpa using this
  have hd':ops.toList.drop (k+1)=rest:=by
   have:=congrArg List.tail hd
   simpa using this
  simp only[zB0,List.range'_succ,wpOpsIn,hk]
  simp only[runSeq]at h
  split at h
  ·rename_i hw
   rw[want_run ρ hw,if_pos rfl]
   split at h
   ·rename_i v g hop
    refine opF_run hrec r hs hop hF ?_
    intro ρ1 w1 hst hsc
    have hs1:scA g.next a:=hs.mono hst.le.next
    rw[<-act_ext hst.ext hs,act_put]
    refine runSeq_run hrec hF htop rest (k+1) ρ1 g w1 (a.put o.dst v) e a1 H1 hd' h hst.rel (hs1.put _ hsc) ?_
    intro ρ2 w2 hst2 h1 h2
    exact hQ ρ2 w2 (hst.trans hst2) h1 h2
   ·rename_i ch g hop
    simp only[Option.some.injEq,Prod.mk.injEq]at h
    obtain⟨rfl,rfl,rfl⟩:=h
    refine opF_run hrec r hs hop hF ?_
    intro ρ1 w1 hst hsc
    have:=hQ ρ1 w1 hst (hs.mono hst.le.next) hsc
    rw[act_ext hst.ext hs]at this
    exact this
   ·split at h
    ·rename_i d hd1
     obtain⟨hrun,hsd⟩:=aDefer_run r hs hd1
     refine⟨fun f _=>hF.fn f,?_⟩
     rw[htop rfl,Oper.semAt_none,hrun]
     have hp:=act_put ρ ⟨a.env,d::a.defers⟩ o.dst undef
     rw[Ren.val_undef]at hp
     have hs':scA H.next ⟨a.env,d::a.defers⟩:=⟨hs.1,fun d' hd'=>by
      rcases zB1.1 hd' with rfl|hd'
      ·exact hsd
      ·exact hs.2 d' hd'⟩
     have:=runSeq_run (n:=n) (Q:=Q) hrec hF htop rest (k+1) ρ H w (AAct.put ⟨a.env,d::a.defers⟩ o.dst undef) e a1 H1 hd' h r (hs'.put _ (scb_undef _)) hQ
     rw[<-hp]at this
     exact this
    ·cases h
  ·rename_i hw
   rw[want_run ρ hw]
   simp only[zB7,if_false]
   refine⟨fun f _=>hF.fn f,?_⟩
   have hp:=act_put ρ a o.dst undef
   rw[Ren.val_undef]at hp
   rw[hp]
   exact runSeq_run hrec hF htop rest (k+1) ρ H w (a.put o.dst undef) e a1 H1 hd' h r (hs.put _ (scb_undef _)) hQ
  ·cases h
theorem enterLoop_run (r:Rel P ρ H w) {ro:Option Nat} {a:AAct} {ps:Array Tmp} {assign body:Code} {l:Nat} {mark:List Deferred} {H1:AHeap} (hro:∀ l,ro=some l->l<H.next) (hsc:∀ i,i<a.env.n->scb H.next (a.env.get i)=true)
  (h:enterLoop ro a ps assign body H=some (l,mark,H1)) (fn:FuncId) :
  ∃ ρ1 w1,St P ρ H w ρ1 H1 w1/\(Instr.enterLoop fn (ρ.act a).tmps ps assign body (ro.map ρ.blk)).run P w=.ok (ρ1.blk l,mark.map ρ1.dfr) w1/\l<H1.next/\∀ d∈mark,scD H1.next d:=by
 unfold enterLoop at h
 ·split at h
  ·simp only[Option.some.injEq,Prod.mk.injEq]at h
   obtain⟨rfl,rfl,rfl⟩:=h
   have s1:=St.new r ⟨.deferred (some []),false,⟨[],0⟩⟩ (.deferred (some [])) 0 0 (by simp[sco]) (by simp[Fits])
   have hn1:(H.new ⟨.deferred (some []),false,⟨[],0⟩⟩).next=H.next+1:=rfl
   have s2:=St.new s1.rel (newLoop a ps assign body H.next)
    (.loop {state:=.ready,pending:=none,fn:=fn,tmps:=ρ.tmps a.env,params:=ps,assign,body,defers:=w.heap.size}) 0 0
    (by
     simp only[newLoop,sco,hn1]
     exact⟨zC1 _,fun i hi=>scb_mono (Nat.le_succ _) _ (hsc i hi)⟩)
    (by
     simp only[newLoop,Fits,hn1]
     refine⟨fn,?_⟩
     have e1:Ext H.next ρ ((ρ.at H.next w.heap.size 0 0).at (H.next+1) (w.alloc (.deferred (some []))).heap.size 0 0) :=
      (Ren.at_ext ρ H.next w.heap.size 0 0).trans (Ren.at_ext _ (H.next+1) _ 0 0) (Nat.le_succ _)
     rw[Ren.tmps_ext e1 _ hsc,(Ren.at_ext (ρ.at H.next w.heap.size 0 0) (H.next+1) _ 0 0).blk _ (zC1 _),Ren.at_blk])
   refine⟨_,_,s1.trans s2,?_,zC1 _,fun d hd=>by simp at hd; subst hd; exact .inl ⟨_,rfl,by show H.next<H.next+1+1; omega⟩⟩
   have hb:((ρ.at H.next w.heap.size 0 0).at (H.next+1) (w.alloc (.deferred (some []))).heap.size 0 0).blk (H.next+1)=w.heap.size+1:=by rw[Ren.at_blk]; simp
   have hb2:((ρ.at H.next w.heap.size 0 0).at (H.next+1) (w.alloc (.deferred (some []))).heap.size 0 0).blk H.next=w.heap.size:=by
    rw[(Ren.at_ext (ρ.at H.next w.heap.size 0 0) (H.next+1) _ 0 0).blk _ (zC1 _),Ren.at_blk]
   simp only[Instr.enterLoop,Option.map_none,Sem.run_bind,run_newObj,Result.andThen_ok,Sem.run_pure,hn1,hb]
   simp only[zB3,List.map_nil,Ren.dfr,hb2]
   simp[Ren.act]
   rfl
  ·rename_i l0
   simp only[zA1,zA2]at h
   obtain⟨⟨lp,le⟩,hlp,h⟩:=h
   simp only at h
   split at h
   ·rename_i hd
    have hd:=blt_lt hd
    simp only[Option.some.injEq,Prod.mk.injEq]at h
    obtain⟨rfl,rfl,rfl⟩:=h
    obtain⟨o,hg⟩:=getLoop_get hlp
    obtain⟨fn0,hw0,hgl⟩:=run_getLoop r hg
    have s2:=St.new r (newLoop a ps assign body lp.defers)
     (.loop {state:=.ready,pending:=none,fn:=fn,tmps:=ρ.tmps a.env,params:=ps,assign,body,defers:=ρ.blk lp.defers}) 0 0
     (by
      simp only[newLoop,sco]
      exact⟨hd,hsc⟩)
     (by
      simp only[newLoop,Fits]
      refine⟨fn,?_⟩
      rw[Ren.tmps_ext (Ren.at_ext ρ H.next w.heap.size 0 0) _ hsc,(Ren.at_ext ρ H.next w.heap.size 0 0).blk _ hd])
    refine⟨_,_,s2,?_,zC1 _,fun d hd=>by cases hd⟩
    simp only[Instr.enterLoop,zA5,Sem.run_bind,hgl,run_newObj,Result.andThen_ok,Sem.run_pure,Ren.at_blk,List.map_nil]
    simp[Ren.act]
   ·cases h
end
mutual
theorem ids_of_scb {N:Nat}:∀ v,scb N v=true->∀ n∈idsV v,n<N
 |.bool _,_,n,hn=>by simp[idsV]at hn
 |.int _ _,_,n,hn=>by simp[idsV]at hn
 |.float _ _,_,n,hn=>by simp[idsV]at hn
 |.complex _ _ _,_,n,hn=>by simp[idsV]at hn
 |.string _,_,n,hn=>by simp[idsV]at hn
 |.pointer none,_,n,hn=>by simp[idsV]at hn
 |.pointer (some a),h,n,hn=>by
  simp only[idsV,zB4]at hn
  subst hn
  exact blt_lt (by simpa[scb]using h)
 |.slice none _ _,_,n,hn=>by simp[idsV]at hn
 |.slice (some a) _ _,h,n,hn=>by
  simp only[idsV,zB4]at hn
  subst hn
  exact blt_lt (by simpa[scb]using h)
 |.map none,_,n,hn=>by simp[idsV]at hn
 |.map (some r),h,n,hn=>by
  simp only[idsV,zB4]at hn
  subst hn
  exact blt_lt (by simpa[scb]using h)
 |.chan none,_,n,hn=>by simp[idsV]at hn
 |.chan (some r),h,n,hn=>by
  simp only[idsV,zB4]at hn
  subst hn
  exact blt_lt (by simpa[scb]using h)
 |.func f a b,h,n,hn=>by
  cases f with
  |yield l =>
   simp only[scb,zA4]at h
   simp only[idsV,zB1,zC9]at hn
   rcases hn with rfl|hn|hn
   ·exact blt_lt h.1.1
   ·exact idsA_of_scb a h.1.2 n hn
   ·exact idsA_of_scb b h.2 n hn
  |_ =>
   simp only[scb,zA4]at h
   simp only[idsV,zC9]at hn
   rcases hn with hn|hn
   ·exact idsA_of_scb a h.1 n hn
   ·exact idsA_of_scb b h.2 n hn
 |.nilFunc,_,n,hn=>by simp[idsV]at hn
 |.iface t v,h,n,hn=>ids_of_scb v (by simpa[scb]using h) n (by simpa[idsV]using hn)
 |.nilIface,_,n,hn=>by simp[idsV]at hn
 |.agg cs,h,n,hn=>idsA_of_scb cs (by simpa[scb]using h) n (by simpa[idsV]using hn)
 |.tuple cs,h,n,hn=>idsA_of_scb cs (by simpa[scb]using h) n (by simpa[idsV]using hn)
theorem idsA_of_scb {N:Nat}:∀ c,scbA N c=true->∀ n∈idsA c,n<N
 |⟨l⟩,h,n,hn=>idsL_of_scb l (by simpa[scbA]using h) n (by simpa[idsA]using hn)
theorem idsL_of_scb {N:Nat}:∀ l,scbL N l=true->∀ n∈idsL l,n<N
 |[],_,n,hn=>by simp[idsL]at hn
 |v::r,h,n,hn=>by
  simp only[scbL,zA4]at h
  simp only[idsL,zC9]at hn
  rcases hn with hn|hn
  ·exact ids_of_scb v h.1 n hn
  ·exact idsL_of_scb r h.2 n hn
end
def Agree (ρ ρ':Ren) (n:Nat):Prop:=ρ'.blk n=ρ.blk n/\ρ'.sh n=ρ.sh n/\ρ'.ex n=ρ.ex n/\ρ'.op n=ρ.op n
mutual
theorem val_ids {ρ ρ':Ren}:∀ v,(∀ n∈idsV v,Agree ρ ρ' n)->ρ'.val v=ρ.val v
 |.bool _,_=>by rw[Ren.val,Ren.val]
 |.int _ _,_=>by rw[Ren.val,Ren.val]
 |.float _ _,_=>by rw[Ren.val,Ren.val]
 |.complex _ _ _,_=>by rw[Ren.val,Ren.val]
 |.string _,_=>by rw[Ren.val,Ren.val]
 |.pointer none,_=>by rw[Ren.val,Ren.val]
 |.pointer (some a),h=>by
  obtain⟨h1,h2,h3,h4⟩:=h a.block (by simp[idsV])
  simp only[Ren.val,h1,h2]
 |.slice none _ _,_=>by rw[Ren.val,Ren.val]
 |.slice (some a) _ _,h=>by
  obtain⟨h1,h2,h3,h4⟩:=h a.block (by simp[idsV])
  simp only[Ren.val,Ren.offS,Ren.capS,Ren.spS,h1,h2,h3,h4]
 |.map none,_=>by rw[Ren.val,Ren.val]
 |.map (some r),h=>by
  obtain⟨h1,h2,h3,h4⟩:=h r (by simp[idsV])
  simp only[Ren.val,h1]
 |.chan none,_=>by rw[Ren.val,Ren.val]
 |.chan (some r),h=>by
  obtain⟨h1,h2,h3,h4⟩:=h r (by simp[idsV])
  simp only[Ren.val,h4]
 |.func f a b,h=>by
  cases f with
  |yield l =>
   simp only[idsV,zB1,zC9]at h
   simp only[Ren.val,Ren.fn,(h l (.inl rfl)).1,valA_ids a (fun n hn=>h n (.inr (.inl hn))),valA_ids b (fun n hn=>h n (.inr (.inr hn)))]
  |_ =>
   simp only[idsV,zC9]at h
   simp only[Ren.val,Ren.fn,valA_ids a (fun n hn=>h n (.inl hn)),valA_ids b (fun n hn=>h n (.inr hn))]
 |.nilFunc,_=>by rw[Ren.val,Ren.val]
 |.iface t v,h=>by rw[Ren.val,Ren.val,val_ids v (fun n hn=>h n (by simpa[idsV]using hn))]
 |.nilIface,_=>by rw[Ren.val,Ren.val]
 |.agg cs,h=>by rw[Ren.val,Ren.val,valA_ids cs (fun n hn=>h n (by simpa[idsV]using hn))]
 |.tuple cs,h=>by rw[Ren.val,Ren.val,valA_ids cs (fun n hn=>h n (by simpa[idsV]using hn))]
theorem valA_ids {ρ ρ':Ren}:∀ c,(∀ n∈idsA c,Agree ρ ρ' n)->ρ'.valA c=ρ.valA c
 |⟨l⟩,h=>by rw[Ren.valA,Ren.valA,valL_ids l (fun n hn=>h n (by simpa[idsA]using hn))]
theorem valL_ids {ρ ρ':Ren}:∀ l,(∀ n∈idsL l,Agree ρ ρ' n)->ρ'.valL l=ρ.valL l
 |[],_=>rfl
 |v::r,h=>by
  simp only[idsL,zC9]at h
  rw[Ren.valL,Ren.valL,val_ids v (fun n hn=>h n (.inl hn)),valL_ids r (fun n hn=>h n (.inr hn))]
end
theorem mem_idsL {l:List Value} {v:Value} (h:v∈l) {n:Nat} (hn:n∈idsV v):n∈idsL l:=by
 induction l with
 |nil=>cases h
 |cons x r ih =>
  simp only[idsL,zC9]
  rcases zB1.1 h with rfl|h
  ·exact .inl hn
  ·exact .inr (ih h)
theorem of_mem_idsL {l:List Value} {n:Nat} (hn:n∈idsL l):∃ v∈l,n∈idsV v:=by
 induction l with
 |nil=>simp[idsL]at hn
 |cons x r ih =>
  simp only[idsL,zC9]at hn
  rcases hn with hn|hn
  ·exact⟨x,zB9 ..,hn⟩
  ·obtain⟨v,hv,h⟩:=ih hn; exact⟨v,zB5 _ hv,h⟩
theorem mem_gets {v:RV} {i:Nat} (h:i<v.n):v.get i∈v.gets 0 v.n:=by
 rw[RV.gets_eq]
 exact zE0.2 ⟨i,List.mem_range.2 h,by simp⟩
theorem of_mem_gets {v:RV} {x:Value} (h:x∈v.gets 0 v.n):∃ i,i<v.n/\x=v.get i:=by
 rw[RV.gets_eq]at h
 obtain⟨i,hi,rfl⟩:=zE0.1 h
 exact⟨i,List.mem_range.1 hi,by simp⟩
theorem ids_key {k:Value} (h:keyOk k=true):idsV k=[]:=by cases k<;>simp_all [keyOk,idsV]
theorem ids_of_sco {N:Nat} {o:AObj} (h:sco N o):∀ n∈idsO o,n<N:=by
 obtain⟨ob,op,v⟩:=o
 intro n hn
 cases ob with
 |cells c e f =>
  simp only[sco]at h
  simp only[idsO]at hn
  obtain⟨x,hx,hnx⟩:=of_mem_idsL hn
  obtain⟨i,hi,rfl⟩:=of_mem_gets hx
  exact ids_of_scb _ (h i hi) n hnx
 |map es clock =>
  simp only[sco]at h
  simp only[idsO,List.mem_flatMap]at hn
  obtain⟨e,he,hn⟩:=hn
  have:=h e (by simpa using he)
  rw[ids_key this.1,zD5]at hn
  exact ids_of_scb _ this.2 n hn
 |loop r =>
  simp only[sco]at h
  simp only[idsO,zB1]at hn
  rcases hn with rfl|hn
  ·exact h.1
  ·obtain⟨x,hx,hnx⟩:=of_mem_idsL hn
   obtain⟨i,hi,rfl⟩:=of_mem_gets hx
   exact ids_of_scb _ (h.2 i hi) n hnx
 |_=>simp[idsO]at hn
theorem Fits.agree {P:Program} {ρ ρ':Ren} {n:Nat} {o:AObj} {o':Obj} (h:Fits P ρ n o o') (hn:Agree ρ ρ' n) (hi:∀ k∈idsO o,Agree ρ ρ' k):Fits P ρ' n o o':=by
 obtain⟨ob,op,v⟩:=o
 cases ob with
 |cells c0 t f0 =>
  simp only[Fits]at h ⊢
  obtain⟨c,fz,h1,h2,h3,h4⟩:=h
  refine⟨c,fz,h1,fun i hi'=>?_,?_,?_⟩
  ·rw[hn.2.1,h2 i hi',val_ids _ (fun k hk=>hi k (by simp only[idsO]; exact mem_idsL (mem_gets hi') hk))]
  ·rw[hn.2.1,hn.2.2.1]; exact h3
  ·rw[hn.2.1,hn.2.2.1]; exact h4
 |map es clock =>
  simp only[Fits]at h ⊢
  rw[h]
  congr 1
  apply Array.map_congr_left
  intro x hx
  simp only[Ren.entry]
  rw[val_ids _ (fun k hk=>hi k (by simp only[idsO,List.mem_flatMap]; exact⟨x,by simpa using hx,List.mem_append_right _ hk⟩))]
 |loop r =>
  simp only[Fits]at h ⊢
  obtain⟨fn,h⟩:=h
  refine⟨fn,?_⟩
  have ht:ρ'.tmps v=ρ.tmps v:=by
   unfold Ren.tmps
   congr 1
   funext i
   exact val_ids _ (fun k hk=>hi k (by simp only[idsO,zB1]; exact .inr (mem_idsL (mem_gets i.2) hk)))
  rw[h,ht,(hi r.defers (by simp[idsO])).1]
 |stringIter s p=>exact⟨h.1,by rw[hn.2.1]; exact h.2⟩
 |deferred ds =>
  cases ds with
  |none=>exact h
  |some l=>cases l<;>exact h
 |_=>exact h
theorem memN_iff {n:Nat} {l:List Nat}:memN n l=true ↔ n∈l:=by
 induction l with
 |nil=>simp[memN]
 |cons m r ih =>
  rw[memN,Bool.or_eq_true,ih,zB1]
  constructor
  ·rintro (h|h)
   ·exact .inl (zD9 h).symm
   ·exact .inr h
  ·rintro (h|h)
   ·exact .inl (by rw[h]; exact Nat.beq_refl m)
   ·exact .inr h
theorem lay_get (H:AHeap):∀ (F:List Nat) (g:AHeap) (n:Nat),(AHeap.lay g H F).get n=if n∈F then H.get n else g.get n
 |[],g,n=>by simp[AHeap.lay]
 |m::r,g,n=>by
  rw[AHeap.lay,lay_get H r,AHeap.get_put]
  by_cases h1:n∈r
  ·simp[h1]
  ·by_cases h2:n=m
   ·subst h2; simp
   ·simp[h1,h2]
theorem none_get (N n:Nat):(AHeap.none N).get n=none:=by simp[AHeap.none,AHeap.get]
theorem restrict_get (H:AHeap) (F:List Nat) (n:Nat):(H.restrict F).get n=if n∈F then H.get n else none:=by
 rw[AHeap.restrict,lay_get,none_get]
theorem lay_next (H:AHeap):∀ (F:List Nat) (g:AHeap),(AHeap.lay g H F).next=g.next/\(AHeap.lay g H F).base=g.base/\(AHeap.lay g H F).dirty=g.dirty
 |[],g=>⟨rfl,rfl,rfl⟩
 |m::r,g=>lay_next H r (g.put m (H.get m))
theorem restrict_next (H:AHeap) (F:List Nat):(H.restrict F).next=H.next/\(H.restrict F).base=H.next/\(H.restrict F).dirty=[]:=lay_next H F _
theorem mergeW_get (g:AHeap):∀ (W:List Nat) (H:AHeap) (n:Nat),(AHeap.mergeW H g W).get n=if n∈W then g.get n else H.get n
 |[],H,n=>by simp[AHeap.mergeW]
 |m::r,H,n=>by
  rw[AHeap.mergeW,mergeW_get g r,AHeap.get_upd]
  by_cases h1:n∈r
  ·simp[h1]
  ·by_cases h2:n=m
   ·subst h2; simp
   ·simp[h1,h2]
theorem mergeW_next (g:AHeap):∀ (W:List Nat) (H:AHeap),(AHeap.mergeW H g W).next=H.next/\(AHeap.mergeW H g W).base=H.base/\(∀ n,n∈H.dirty->n∈(AHeap.mergeW H g W).dirty)/\(∀ n∈W,n<H.base->n∈(AHeap.mergeW H g W).dirty)
 |[],H=>⟨rfl,rfl,fun _ h=>h,fun _ h=>by cases h⟩
 |m::r,H=>by
  obtain⟨h1,h2,h3,h4⟩:=mergeW_next g r (H.upd m (g.get m))
  refine⟨h1,h2,fun n hn=>h3 n ?_,fun n hn hb=>?_⟩
  ·simp only[AHeap.upd_eq]; split
   ·exact zB5 _ hn
   ·exact hn
  ·rcases zB1.1 hn with rfl|hn
   ·exact h3 n (by simp[AHeap.upd_eq,blt_of hb])
   ·exact h4 n hn hb
theorem mergeN_get (g:AHeap):∀ (k n0:Nat) (H:AHeap) (n:Nat),(AHeap.mergeN H g n0 k).get n=if n0<=n/\n<n0+k then g.get n else H.get n
 |0,n0,H,n=>by rw[AHeap.mergeN,if_neg (by omega)]
 |k+1,n0,H,n=>by
  rw[AHeap.mergeN,mergeN_get g k (n0+1),AHeap.get_put]
  by_cases h1:n0+1<=n/\n<n0+1+k
  ·rw[if_pos h1,if_pos (by omega)]
  ·rw[if_neg h1]
   by_cases h2:n=n0
   ·subst h2; rw[if_pos rfl,if_pos (by omega)]
   ·rw[if_neg h2,if_neg (by omega)]
theorem mergeN_next (g:AHeap):∀ (k n0:Nat) (H:AHeap),(AHeap.mergeN H g n0 k).base=H.base/\(AHeap.mergeN H g n0 k).dirty=H.dirty
 |0,n0,H=>⟨rfl,rfl⟩
 |k+1,n0,H=>mergeN_next g k (n0+1) (H.put n0 (g.get n0))
def Wrt (H g:AHeap) (n:Nat):Prop:=n∈g.dirty\/(H.next<=n/\n<g.next)
instance (H g:AHeap) (n:Nat):Decidable (Wrt H g n):=by unfold Wrt; exact inferInstance
theorem merge_get (H g:AHeap) (hle:H.next<=g.next) (n:Nat):(H.merge g).get n=if Wrt H g n then g.get n else H.get n:=by
 have h:(H.merge g).get n=(AHeap.mergeN (AHeap.mergeW H g g.dirty) g H.next (g.next-H.next)).get n:=rfl
 rw[h,mergeN_get,mergeW_get]
 by_cases h1:H.next<=n/\n<g.next
 ·have hw:Wrt H g n:=Or.inr h1
  rw[if_pos (by omega),if_pos hw]
 ·rw[if_neg (by omega)]
  by_cases h2:n∈g.dirty
  ·have hw:Wrt H g n:=Or.inl h2
   rw[if_pos h2,if_pos hw]
  ·have hw:¬Wrt H g n:=fun h=>h.elim h2 h1
   rw[if_neg h2,if_neg hw]
theorem merge_facts (H g:AHeap):(H.merge g).next=g.next/\(H.merge g).base=H.base/\(∀ n,n∈H.dirty->n∈(H.merge g).dirty)/\(∀ n∈g.dirty,n<H.base->n∈(H.merge g).dirty):=by
 obtain⟨h1,h2,h3,h4⟩:=mergeW_next g g.dirty H
 obtain⟨k1,k2⟩:=mergeN_next g (g.next-H.next) H.next (AHeap.mergeW H g g.dirty)
 refine⟨rfl,k1.trans h2,fun n hn=>?_,fun n hn hb=>?_⟩
 ·show n∈(AHeap.mergeN (AHeap.mergeW H g g.dirty) g H.next (g.next-H.next)).dirty
  rw[k2]; exact h3 n hn
 ·show n∈(AHeap.mergeN (AHeap.mergeW H g g.dirty) g H.next (g.next-H.next)).dirty
  rw[k2]; exact h4 n hn hb
theorem mergeW_dirty (g:AHeap):∀ (l:List Nat) (H:AHeap) (n:Nat),n∈(AHeap.mergeW H g l).dirty->n∈H.dirty\/n∈l
 |[],H,n,h=>.inl h
 |m::l,H,n,h=>by
  rcases mergeW_dirty g l _ n h with h|h
  ·simp only[AHeap.upd_eq]at h
   split at h
   ·rcases zB1.1 h with h|h
    ·exact .inr (by simp[h])
    ·exact .inl h
   ·exact .inl h
  ·exact .inr (by simp[h])
theorem merge_dirty (H g:AHeap) {n:Nat} (h:n∈(H.merge g).dirty):n∈H.dirty\/n∈g.dirty:=by
 have h:n∈(AHeap.mergeN (AHeap.mergeW H g g.dirty) g H.next (g.next-H.next)).dirty:=h
 rw[(mergeN_next g (g.next-H.next) H.next (AHeap.mergeW H g g.dirty)).2]at h
 exact mergeW_dirty g _ _ _ h
theorem merge_pos (H g:AHeap) (hle:H.next<=g.next) {n:Nat} (h:Wrt H g n):(H.merge g).get n=g.get n:=by rw[merge_get H g hle,if_pos h]
theorem merge_neg (H g:AHeap) (hle:H.next<=g.next) {n:Nat} (h:¬Wrt H g n):(H.merge g).get n=H.get n:=by rw[merge_get H g hle,if_neg h]
section
variable {P : Program} {ρ : Ren} {H : AHeap} {w : World}
theorem restrict_rel (r:Rel P ρ H w) (F:List Nat):Rel P ρ (H.restrict F) w:=by
 obtain⟨h1,h2,h3⟩:=restrict_next H F
 have hg:∀ n o,(H.restrict F).get n=some o->H.get n=some o:=fun n o h=>by
  rw[restrict_get]at h
  split at h
  ·exact h
  ·cases h
 have hg':∀ n,(H.restrict F).get n≠none->H.get n≠none:=fun n h=>by
  cases e:(H.restrict F).get n with
  |none=>exact absurd e h
  |some o=>exact ne_none (hg n o e)
 have hge:∀ n,(H.restrict F).get n≠none->(H.restrict F).get n=H.get n:=fun n h=>by
  rw[restrict_get]at h ⊢
  split at h
  ·rename_i hn; rw[if_pos hn]
  ·exact absurd rfl h
 refine⟨by rw[h1,h2]; exact zA8 _,by rw[h1]; exact r.glob,fun m n hm hn he=>(r.inj m n (hg' m hm) (hg' n hn) he).imp id fun⟨a,b⟩=>⟨by rw[hge m hm]; exact a,by rw[hge n hn]; exact b⟩,fun n o ho=>?_,fun n o ho=>r.obj n o (hg n o ho)⟩
 rw[h1]; exact r.dom n o (hg n o ho)
theorem merge_st (r:Rel P ρ H w) {F:List Nat} {ρ1:Ren} {g:AHeap} {w1:World} (hF:∀ n∈F,H.get n≠none) (s:St P ρ (H.restrict F) w ρ1 g w1) (hd:∀ n∈g.dirty,n∈F) :
  St P ρ H w ρ1 (H.merge g) w1:=by
 obtain⟨k1,k2,k3⟩:=restrict_next H F
 have hle:H.next<=g.next:=by have:=s.le.next; rw[k1]at this; exact this
 obtain⟨m1,m2,m3,m4⟩:=merge_facts H g
 have hLin:∀ n,n∈F->(H.restrict F).get n=H.get n:=fun n hn=>by rw[restrict_get,if_pos hn]
 have hLout:∀ n,n∉F->(H.restrict F).get n=none:=fun n hn=>by rw[restrict_get,if_neg hn]
 -- of a block that was not written: it lies in the part unturned, or outside
 have hkeep:∀ n,n∈F->¬Wrt H g n->g.get n=H.get n:=fun n hn hw=>by
  rw[<-hLin n hn]
  exact s.le.keep n (by rw[k2]; exact r.lt (hF n hn)) (fun h=>hw (.inl h))
 have hro:∀ n∈F,Fz (H.get n)->n∉g.dirty/\g.get n=H.get n:=fun n hn h=>by
  obtain⟨a,b⟩:=s.ro n (by rw[hLin n hn]; exact h)
  rw[k3]at a
  exact⟨fun h=>(by cases a h),by rw[b,hLin n hn]⟩
 have hext:Ext H.next ρ ρ1:=by have:=s.ext; rw[k1]at this; exact this
 -- where a block of the merged heap comes from
 have hfrom:∀ n o,(H.merge g).get n=some o->(g.get n=some o/\(n∈F\/H.next<=n))\/(n∉F/\n<H.next/\H.get n=some o):=by
  intro n o ho
  by_cases hw:Wrt H g n
  ·rw[merge_pos H g hle hw]at ho
   refine .inl ⟨ho,?_⟩
   rcases hw with h|h
   ·exact .inl (hd n h)
   ·exact .inr h.1
  ·rw[merge_neg H g hle hw]at ho
   by_cases hf:n∈F
   ·exact .inl ⟨by rw[hkeep n hf hw]; exact ho,.inl hf⟩
   ·exact .inr ⟨hf,(r.dom n o ho).1,ho⟩
 have hout:∀ n,n∉F->H.get n≠none->w1.heap[ρ.blk n]?=w.heap[ρ.blk n]?:=fun n hf hn=>by
  refine s.old _ (r.blk_lt hn) fun m hm hdm hgm=>?_
  rw[k1]at hm
  have hmF:m∈F:=by
   rcases Classical.em (m∈F) with h|h
   ·exact h
   ·exact absurd (hLout m h) hgm
  have hmd:m∈g.dirty:=hdm.elim (fun h=>by rw[k2]at h; omega) id
  exact fun e=>(r.inj m n (hF m hmF) hn e).elim (fun e=>hf (e▸hmF)) fun h=>(hro m hmF h.1).1 hmd
 refine⟨hext,⟨by rw[m1]; exact hle,m2,m3,fun n hb hn=>?_,fun n hn h0=>?_⟩,⟨?_,?_,?_,?_,?_⟩,s.os,s.tape,s.output,s.size,?_,?_,fun n hz=>?_⟩
 ·refine merge_neg H g hle (fun hw=>?_)
  rcases hw with h|h
  ·exact hn (m4 n h hb)
  ·have:=r.base; omega
 ·by_cases hw:Wrt H g n
  ·rw[merge_pos H g hle hw]
   rcases hw with h|h
   ·exact absurd h0 (hF n (hd n h))
   ·omega
  ·rw[merge_neg H g hle hw]; exact h0
 ·rw[m1,m2]; exact zB8 r.base hle
 ·rw[m1]; exact⟨zB8 r.glob.1 hle,s.rel.glob.2⟩
 ·-- one to one
  intro a b ha hb he
  obtain⟨oa,hoa⟩:∃ o,(H.merge g).get a=some o:=Option.ne_none_iff_exists'.1 ha
  obtain⟨ob,hob⟩:∃ o,(H.merge g).get b=some o:=Option.ne_none_iff_exists'.1 hb
  have cross:∀ x y ox oy,g.get x=some ox->(x∈F\/H.next<=x)->y∉F->y<H.next->H.get y=some oy->ρ1.blk x=ρ1.blk y->Fz (g.get x)/\Fz (H.get y):=by
   intro x y ox oy hx hxF hy hyn hoy he
   rw[hext.blk y hyn]at he
   rcases zB6 x H.next with hlt|hge
   ·have hxF:x∈F:=hxF.elim id (fun h=>by omega)
    rw[hext.blk x hlt]at he
    rcases r.inj x y (hF x hxF) (ne_none hoy) he with e|⟨e1,e2⟩
    ·exact absurd (e▸hxF) hy
    ·exact⟨by rw[(hro x hxF e1).2]; exact e1,e2⟩
   ·rcases s.fresh x (by rw[k1]; exact hge) (ne_none hx) with h|⟨m,hm1,hm2,hm3,hm4⟩
    ·have:=r.blk_lt (ne_none hoy); omega
    ·rw[hm4]at he
     have hmF:m∈F:=by
      rcases Classical.em (m∈F) with h|h
      ·exact h
      ·exact absurd (hLout m h) hm2
     have hmd:m∈g.dirty:=hm3.elim (fun h=>by rw[k2]at h; rw[k1]at hm1; omega) id
     exact (r.inj m y (hF m hmF) (ne_none hoy) he).elim (fun e=>absurd (e▸hmF) hy) fun h=>absurd hmd (hro m hmF h.1).1
  rcases hfrom a oa hoa with⟨h1,h2⟩|⟨h1,h2,h3⟩<;>rcases hfrom b ob hob with⟨j1,j2⟩|⟨j1,j2,j3⟩
  ·rw[hoa,hob,<-h1,<-j1]; exact s.rel.inj a b (ne_none h1) (ne_none j1) he
  ·rw[hoa,hob,<-h1,<-j3]; exact .inr (cross a b oa ob h1 h2 j1 j2 j3 he)
  ·rw[hoa,hob,<-h3,<-j1]; exact .inr (cross b a ob oa j1 j2 h1 h2 h3 he.symm).symm
  ·rw[hext.blk a h2,hext.blk b j2]at he
   rw[hoa,hob,<-h3,<-j3]; exact r.inj a b (ne_none h3) (ne_none j3) he
 ·intro n o ho
  rw[m1]
  rcases hfrom n o ho with⟨h1,_⟩|⟨_,h2,h3⟩
  ·exact s.rel.dom n o h1
  ·exact⟨zC3 h2 hle,(r.dom n o h3).2.mono hle⟩
 ·intro n o ho
  rcases hfrom n o ho with⟨h1,_⟩|⟨h1,h2,h3⟩
  ·exact s.rel.obj n o h1
  ·obtain⟨o',hw,hf⟩:=r.obj n o h3
   have hdm:=r.dom n o h3
   refine⟨o',?_,hf.ext hdm.1 hdm.2 hext⟩
   rw[hext.blk n h2,hout n h1 (ne_none h3)]; exact hw
 ·intro b hb hc
  refine s.old b hb fun m hm hdm hgm=>?_
  rw[k1]at hm
  have hmF:m∈F:=by
   rcases Classical.em (m∈F) with h|h
   ·exact h
   ·exact absurd (hLout m h) hgm
  rcases hdm with h|h
  ·rw[k2]at h; omega
  ·refine hc m hm ?_ (hF m hmF)
   rcases zB6 m H.base with hb'|hb'
   ·exact .inr (m4 m h hb')
   ·exact .inl hb'
 ·intro n hn hgn
  obtain⟨o,ho⟩:∃ o,(H.merge g).get n=some o:=Option.ne_none_iff_exists'.1 hgn
  rcases hfrom n o ho with⟨h1,_⟩|⟨_,h2,_⟩
  ·rcases s.fresh n (by rw[k1]; exact hn) (ne_none h1) with h|⟨m,hm1,hm2,hm3,hm4⟩
   ·exact .inl h
   ·rw[k1]at hm1
    have hmF:m∈F:=by
     rcases Classical.em (m∈F) with h|h
     ·exact h
     ·exact absurd (hLout m h) hm2
    refine .inr ⟨m,hm1,hF m hmF,?_,hm4⟩
    rcases hm3 with h|h
    ·rw[k2]at h; omega
    ·rcases zB6 m H.base with hb'|hb'
     ·exact .inr (m4 m h hb')
     ·exact .inl hb'
  ·omega
 ·have hnd:n∉g.dirty:=fun h=>(hro n (hd n h) hz).1 h
  have hw:¬Wrt H g n:=fun h=>h.elim hnd fun h=>absurd (r.lt hz.ne) (by omega)
  exact⟨fun h=>(merge_dirty H g h).resolve_right hnd,merge_neg H g hle hw⟩
end
structure OpD where
 on:Bool
 v:Value
 F:List Nat
 g:AHeap
 bad:Bool
def OpFact (P:Program) (ops:Array Oper) (D:Nat->OpD) (A:Nat->AAct) (HH:Nat->AHeap) (i:Nat):Prop :=
 ∃ o,ops[i]?=some o/\A (i+1)=(A i).put o.dst (D i).v/\((D i).bad=false->wantA ops (A i) o=some (D i).on) /\
  ((D i).on=true->OpS P (A i) ((HH i).restrict (D i).F) o (.ok (D i).v) (D i).g/\(∀ n∈(D i).F,(HH i).get n≠none)/\(∀ n∈(D i).g.dirty,n∈(D i).F)/\HH (i+1)=(HH i).merge (D i).g) /\
  ((D i).on=false->(D i).v=undef/\HH (i+1)=HH i)
def fpAt (D:Nat->OpD) (HH:Nat->AHeap) (i:Nat):Fp:=⟨i,(D i).F,(D i).g.dirty,(HH i).next,(D i).g.next⟩
def PairFact (anc:List Nat) (D:Nat->OpD) (HH:Nat->AHeap) (j:Nat) (r:Fp):Prop :=
 (D j).on=true->fpOk (anc.getD j 0) (D j).F (D j).v (D j).g (HH j).next r=true
theorem runDraw_text {P:Program} {rec:Rec} (hrec:Sound P rec) {ops:Array Oper} {anc:List Nat}:∀ (rest:List Oper) (k:Nat) (fps:List Fp) (a:AAct) (H:AHeap) (a1:AAct) (H1:AHeap),
  (∃ tl,ops.toList.drop k=rest++tl)->runDraw P rec ops anc rest k fps a H=some (a1,H1) ->
  ∃ (D:Nat->OpD) (A:Nat->AAct) (HH:Nat->AHeap),A k=a/\HH k=H/\A (k+rest.length)=a1/\HH (k+rest.length)=H1 /\
   (∀ i,k<=i->i<k+rest.length->OpFact P ops D A HH i) /\
   (∀ i j,k<=i->i<j->j<k+rest.length->(D i).on=true->PairFact anc D HH j (fpAt D HH i)) /\
   (∀ r∈fps,∀ j,k<=j->j<k+rest.length->PairFact anc D HH j r)/\(∀ i,(D i).bad=false)
 |[],k,fps,a,H,a1,H1,_,h=>by
  simp only[runDraw,Option.some.injEq,Prod.mk.injEq]at h
  obtain⟨rfl,rfl⟩:=h
  refine⟨fun _=>⟨false,undef,[],H,false⟩,fun _=>a,fun _=>H,rfl,rfl,rfl,rfl,?_,?_,?_,fun _=>rfl⟩
  ·intro i h1 h2; simp at h2; omega
  ·intro i j h1 h2 h3; simp at h3; omega
  ·intro r _ j h1 h2; simp at h2; omega
 |o::rest,k,fps,a,H,a1,H1,hd,h=>by
  obtain⟨tl,hd⟩:=hd
  have hk:ops[k]?=some o:=by
   have:=congrArg (·[0]?) hd
   simpa using this
  have hd':∃ tl,ops.toList.drop (k+1)=rest++tl:=⟨tl,by
   have:=congrArg List.tail hd
   simpa using this⟩
  -- the operation's own record laid before those of the rest
  have build:∀ (d:OpD) (fps':List Fp) (H2:AHeap),(∀ r∈fps,r∈fps')->runDraw P rec ops anc rest (k+1) fps' (a.put o.dst d.v) H2=some (a1,H1) ->
    wantA ops a o=some d.on->d.bad=false ->
    (d.on=true->OpS P a (H.restrict d.F) o (.ok d.v) d.g/\(∀ n∈d.F,H.get n≠none)/\(∀ n∈d.g.dirty,n∈d.F)/\H2=H.merge d.g/\(⟨k,d.F,d.g.dirty,H.next,d.g.next⟩:Fp)∈fps' /\
     ∀ r∈fps,fpOk (anc.getD k 0) d.F d.v d.g H.next r=true) ->
    (d.on=false->d.v=undef/\H2=H) ->
    ∃ (D:Nat->OpD) (A:Nat->AAct) (HH:Nat->AHeap),A k=a/\HH k=H/\A (k+(o::rest).length)=a1/\HH (k+(o::rest).length)=H1 /\
     (∀ i,k<=i->i<k+(o::rest).length->OpFact P ops D A HH i) /\
     (∀ i j,k<=i->i<j->j<k+(o::rest).length->(D i).on=true->PairFact anc D HH j (fpAt D HH i)) /\
     (∀ r∈fps,∀ j,k<=j->j<k+(o::rest).length->PairFact anc D HH j r)/\(∀ i,(D i).bad=false):=by
   intro d fps' H2 hsub hrun hwant hbad hon hoff
   obtain⟨D,A,HH,e1,e2,e3,e4,f1,f2,f3,f4⟩:=runDraw_text hrec rest (k+1) fps' _ H2 a1 H1 hd' hrun
   have hlen:k+(o::rest).length=k+1+rest.length:=by simp only[zB0]; omega
   have hne:∀ {i},k+1<=i->¬i=k:=fun h=>by omega
   refine⟨fun i=>if i=k then d else D i,fun i=>if i=k then a else A i,fun i=>if i=k then H else HH i,by simp,by simp,?_,?_,?_,?_,?_,fun i=>by by_cases e:i=k<;>simp[e,hbad,f4]⟩
   ·rw[hlen]; show (if k+1+rest.length=k then a else A (k+1+rest.length))=a1
    rw[if_neg (by omega)]; exact e3
   ·rw[hlen]; show (if k+1+rest.length=k then H else HH (k+1+rest.length))=H1
    rw[if_neg (by omega)]; exact e4
   ·intro i h1 h2
    rw[hlen]at h2
    by_cases e:i=k
    ·subst e
     refine⟨o,hk,?_,?_,?_,?_⟩
     ·simp only[if_pos,if_neg (show ¬i+1=i by omega)]; rw[e1]
     ·simp only[if_pos]; exact fun _=>hwant
     ·simp only[if_pos,if_neg (show ¬i+1=i by omega)]
      intro h; obtain⟨x1,x2,x3,x4,_⟩:=hon h
      exact⟨x1,x2,x3,by rw[e2]; exact x4⟩
     ·simp only[if_pos,if_neg (show ¬i+1=i by omega)]
      intro h; obtain⟨x1,x2⟩:=hoff h
      exact⟨x1,by rw[e2]; exact x2⟩
    ·obtain⟨o',y1,y2,y3,y4,y5⟩:=f1 i (by omega) h2
     refine⟨o',y1,?_,?_,?_,?_⟩
     ·simp only[if_neg e,if_neg (show ¬i+1=k by omega)]; exact y2
     ·simp only[if_neg e]; exact y3
     ·simp only[if_neg e,if_neg (show ¬i+1=k by omega)]; exact y4
     ·simp only[if_neg e,if_neg (show ¬i+1=k by omega)]; exact y5
   ·intro i j h1 h2 h3 h4
    rw[hlen]at h3
    have hj:¬j=k:=by omega
    by_cases e:i=k
    ·subst e
     simp only[if_pos]at h4
     obtain⟨_,_,_,_,x5,_⟩:=hon h4
     have:=f3 _ x5 j (by omega) h3
     simp only[PairFact,fpAt,if_neg hj,if_pos]at this ⊢
     exact this
    ·simp only[if_neg e]at h4
     have:=f2 i j (by omega) h2 h3 h4
     simp only[PairFact,fpAt,if_neg hj,if_neg e]at this ⊢
     exact this
   ·intro r hr j h1 h2
    rw[hlen]at h2
    by_cases e:j=k
    ·subst e
     simp only[PairFact,if_pos]
     intro h
     exact (hon h).2.2.2.2.2 r hr
    ·have:=f3 r (hsub r hr) j (by omega) h2
     simp only[PairFact,if_neg e]at this ⊢
     exact this
  simp only[runDraw]at h
  split at h
  ·rename_i hw
   split at h
   ·rename_i v g hop
    split at h
    ·rename_i hc
     simp only[zA4,zC4]at hc
     obtain⟨⟨c1,c2⟩,c3⟩:=hc
     refine build ⟨true,v,foot P o.op a H,g,false⟩ _ _ (fun r hr=>zB5 _ hr) h hw rfl (fun _=>⟨opF_opS hrec hop,fun n hn=>?_,fun n hn=>memN_iff.1 (c2 n hn),rfl,zB9 ..,c3⟩) (fun h=>by cases h)
     have:=c1 n hn
     intro e
     rw[e]at this
     cases this
    ·cases h
   ·cases h
  ·rename_i hw
   exact build ⟨false,undef,[],H,false⟩ fps H (fun r hr=>hr) h hw rfl (fun h=>by cases h) (fun _=>⟨rfl,rfl⟩)
  ·cases h
section
variable {P : Program} {ρ : Ren} {H : AHeap} {w : World}
theorem wideF_wide:WideF Fence.wide:=⟨fun _=>trivial,rfl,rfl⟩
theorem wpIn_const {n:Nat} {a:Act} {o:Oper} {φ:Prop} (h:o.wpIn Fence.wide n P a w (fun _ _=>φ) (fun _ _ _=>φ)):φ:=by
 obtain⟨_,h⟩:=h
 generalize (o.semAt Fence.wide.round a.eval).run P w=res at h
 cases res with
 |ok x w' =>
  cases x with
  |value v=>exact h
  |skip=>exact h
  |defer d=>exact h
  |enter f args =>
   obtain⟨_,_,hc⟩:=h
   obtain⟨e,w1,fr,hR,_⟩:=hc [] (room_wide _)
   cases e with
   |returned v=>exact hR
   |panicked c=>exact hR
   |outgrown=>obtain⟨_,_,h⟩:=hR; exact h
  |row r args =>
   obtain⟨_,hc⟩:=h
   obtain⟨v,w1,hR,_⟩:=hc default [] (room_wide _)
   exact hR
  |round l f tmps assign body =>
   obtain⟨_,_,hc⟩:=h
   obtain⟨e,w1,hR,_⟩:=hc default [] (room_wide _)
   cases e with
   |returned v=>exact hR
   |panicked c=>exact hR
   |outgrown=>obtain⟨_,_,h⟩:=hR; exact h
  |_=>exact h.elim
 |halt x w' =>
  cases x with
  |panic v=>exact h
  |_=>exact h.elim
theorem opS_ex (r:Rel P ρ H w) {a:AAct} (hs:scA H.next a) {o:Oper} {v:Value} {g:AHeap} (h:OpS P a H o (.ok v) g) :
  ∃ ρ1 w1,St P ρ H w ρ1 g w1/\scb g.next v=true:=by
 refine wpIn_const (P:=P) (w:=w) (n:=0) (o:=o) (a:=ρ.act a) (h ρ w r hs _ (fun _ _=>rfl) _ _ _ _ wideF_wide ?_)
 intro ρ1 w1 hst hsc
 exact⟨ρ1,w1,hst,hsc⟩
theorem text_ex (r:Rel P ρ H w) {ops:Array Oper} {D:Nat->OpD} {A:Nat->AAct} {HH:Nat->AHeap} {m:Nat} (h0:HH 0=H) (hs:scA H.next (A 0))
  (hf:∀ i,i<m->OpFact P ops D A HH i):∀ i,i<=m->∃ ρi wi,St P ρ H w ρi (HH i) wi/\scA (HH i).next (A i):=by
 intro i
 induction i with
 |zero=>intro _; exact⟨ρ,w,by rw[h0]; exact St.refl r,by rw[h0]; exact hs⟩
 |succ i ih =>
  intro hi
  obtain⟨ρi,wi,hst,hsa⟩:=ih (by omega)
  obtain⟨o,h1,h2,h3,h4,h5⟩:=hf i (by omega)
  cases hon:(D i).on with
  |true =>
   obtain⟨x1,x2,x3,x4⟩:=h4 hon
   obtain⟨ρ1,w1,hst1,hsc⟩:=opS_ex (restrict_rel hst.rel (D i).F) (by rw[(restrict_next _ _).1]; exact hsa) x1
   have hm:=merge_st hst.rel x2 hst1 x3
   have hn:((HH i).merge (D i).g).next=(D i).g.next:=(merge_facts _ _).1
   refine⟨ρ1,w1,by rw[x4]; exact hst.trans hm,?_⟩
   rw[x4,hn,h2]
   refine (hsa.mono ?_).put _ hsc
   have:=hm.le.next
   rw[hn]at this
   exact this
  |false =>
   obtain⟨x1,x2⟩:=h5 hon
   refine⟨ρi,wi,by rw[x2]; exact hst,?_⟩
   rw[x2,h2,x1]
   exact hsa.put _ (scb_undef _)
end
theorem edgeBits_spec {acc:List Nat} {k:Nat}:∀ (es:List Edge) (s:Nat),(edgeBits acc es s).testBit k=true->s.testBit k=true\/∃ e∈es,Region.binds .any e=true/\(k=e.on\/(acc.getD e.on 0).testBit k=true)
 |[],s,h=>.inl h
 |e::es,s,h=>by
  rcases edgeBits_spec es _ h with h|⟨e',he,hb,hk⟩
  ·split at h
   ·rename_i hb
    rw[Nat.testBit_or,Nat.testBit_or,Bool.or_eq_true,Bool.or_eq_true]at h
    rcases h with (h|h)|h
    ·exact .inl h
    ·refine .inr ⟨e,zB9 ..,hb,.inl ?_⟩
     rw[Nat.testBit_shiftLeft,zA4]at h
     have h1:e.on<=k:=by simpa using h.1
     have h2:k-e.on=0:=by
      have:=h.2
      rcases Nat.eq_zero_or_pos (k-e.on) with h0|h0
      ·exact h0
      ·obtain⟨j,hj⟩:∃ j,k-e.on=j+1:=⟨k-e.on-1,by omega⟩
       rw[hj,Nat.testBit_succ]at this
       simp at this
     omega
    ·exact .inr ⟨e,zB9 ..,hb,.inr h⟩
   ·exact .inl h
  ·exact .inr ⟨e',zB5 _ he,hb,hk⟩
theorem ancsFrom_spec:∀ (l:List Oper) (acc:List Nat),(∀ j,j<acc.length->(ancsFrom l acc).getD j 0=acc.getD j 0)/\(ancsFrom l acc).length=acc.length+l.length /\
  ∀ i o,l[i]?=some o->∃ acc',(ancsFrom l acc).getD (acc.length+i) 0=edgeBits acc' o.after.toList 0/\∀ j,(acc'.getD j 0)≠0->acc'.getD j 0=(ancsFrom l acc).getD j 0
 |[],acc=>⟨fun _ _=>rfl,by simp[ancsFrom],fun i o h=>by simp at h⟩
 |o::l,acc=>by
  obtain⟨h1,h2,h3⟩:=ancsFrom_spec l (acc++[edgeBits acc o.after.toList 0])
  simp only[ancsFrom]
  refine⟨fun j hj=>?_,?_,fun i o' ho=>?_⟩
  ·rw[h1 j (by simp; omega),List.getD,List.getD,List.getElem?_append_left hj]
  ·rw[h2]; simp; omega
  ·cases i with
   |zero =>
    simp only[zC5,Option.some.injEq]at ho
    subst ho
    refine⟨acc,?_,fun j hj=>?_⟩
    ·rw[zD3,h1 acc.length (by simp),List.getD,List.getElem?_append_right (zA8 _)]; simp
    ·have hlt:j<acc.length:=by
      rcases zB6 j acc.length with h|h
      ·exact h
      ·exact absurd (by simp[List.getD,zC6 h]) hj
     rw[h1 j (by simp; omega),List.getD,List.getD,List.getElem?_append_left hlt]
   |succ i =>
    simp only[zD0]at ho
    obtain⟨acc',g1,g2⟩:=h3 i o' ho
    refine⟨acc',?_,g2⟩
    rw[<-g1]
    congr 1
    simp; omega
theorem ancs_spec {ops:Array Oper} {j k:Nat} {o:Oper} (ho:ops[j]?=some o) (h:((ancs ops).getD j 0).testBit k=true) :
  ∃ e∈o.after,Region.binds .any e=true/\(k=e.on\/((ancs ops).getD e.on 0).testBit k=true):=by
 obtain⟨_,_,h3⟩:=ancsFrom_spec ops.toList []
 obtain⟨acc',g1,g2⟩:=h3 j o (by simpa using ho)
 simp only[zD7,zC0]at g1
 unfold ancs at h ⊢
 rw[g1]at h
 rcases edgeBits_spec _ _ h with h|⟨e,he,hb,hk⟩
 ·simp at h
 ·refine⟨e,by simpa using he,hb,hk.imp id (fun hk=>?_)⟩
  rw[<-g2 e.on (fun h0=>by rw[h0]at hk; simp at hk)]; exact hk
theorem maskL_bit {t:Nat}:∀ (l:List Nat),(maskL l).testBit t=true ↔ t∈l
 |[]=>by simp[maskL]
 |u::l=>by
  rw[maskL,Nat.testBit_or,Bool.or_eq_true,maskL_bit l,zB1]
  refine or_congr ?_ Iff.rfl
  rw[Nat.testBit_shiftLeft,zA4]
  constructor
  ·rintro⟨h1,h2⟩
   have h1:u<=t:=by simpa using h1
   rcases Nat.eq_zero_or_pos (t-u) with h0|h0
   ·omega
   ·obtain⟨k,hk⟩:∃ k,t-u=k+1:=⟨t-u-1,by omega⟩
    rw[hk,Nat.testBit_succ]at h2
    simp at h2
  ·rintro rfl
   simp
theorem and_zero {x y:Nat} (h:Nat.beq (x &&& y) 0=true) {t:Nat} (hx:x.testBit t=true):y.testBit t=false:=by
 have h0:=zD9 h
 have:=Nat.testBit_and x y t
 rw[h0,hx,Nat.zero_testBit]at this
 simpa using this.symm
theorem apartM_apart {ops:Array Oper} {x y:Oper} (h:apartM (maskO ops x) (maskO ops y)=true):x.apart ops y=true:=by
 simp only[apartM,maskO,zA4]at h
 obtain⟨h1,h2⟩:=h
 have a1:∀ d,x.dst=some d->d∉y.looksAt ops/\y.dst≠some d:=by
  intro d hd
  have hb:(maskL x.dst.toList).testBit d=true:=(maskL_bit _).2 (by simp[hd])
  have:=and_zero h1 hb
  rw[Nat.testBit_or,Bool.or_eq_false_iff]at this
  refine⟨fun hm=>?_,fun hm=>?_⟩
  ·rw[(maskL_bit _).2 hm]at this; cases this.1
  ·rw[(maskL_bit (t:=d) y.dst.toList).2 (by simp[hm])]at this; cases this.2
 have a2:∀ d,y.dst=some d->d∉x.looksAt ops:=by
  intro d hd hm
  have hb:(maskL y.dst.toList).testBit d=true:=(maskL_bit _).2 (by simp[hd])
  have:=and_zero h2 hb
  rw[(maskL_bit _).2 hm]at this; cases this
 unfold Oper.apart
 rw[zA4]
 constructor
 ·cases hd:x.dst with
  |none=>rfl
  |some d =>
   obtain⟨h3,h4⟩:=a1 d hd
   simp only[zA4,Bool.not_eq_true',bne_iff_ne,ne_eq]
   exact⟨by simpa using h3,h4⟩
 ·cases hd:y.dst with
  |none=>rfl
  |some d=>simpa using a2 d hd
theorem masks_get (ops:Array Oper):∀ (l:List Oper) (i:Nat),(Go.Ax.masks ops l)[i]?=(l[i]?).map (maskO ops)
 |[],i=>by simp[Go.Ax.masks]
 |o::l,0=>by simp[Go.Ax.masks]
 |o::l,i+1=>by simp only[Go.Ax.masks,zD0]; exact masks_get ops l i
theorem edgesOk_spec {j:Nat}:∀ (l:List Edge),edgesOk j l=true->∀ e∈l,Region.binds .any e=true->e.on<j
 |[],_,e,he,_=>by cases he
 |x::l,h,e,he,hb=>by
  simp only[edgesOk,zA4]at h
  rcases zB1.1 he with rfl|he
  ·have:=h.1
   rw[hb]at this
   simp only[Bool.not_true,Bool.false_or]at this
   exact blt_lt this
  ·exact edgesOk_spec l h.2 e he hb
theorem static_spec {ops:Array Oper} {anc:List Nat}:∀ (l:List Oper) (k:Nat),ops.toList.drop k=l->staticFrom (Go.Ax.masks ops ops.toList) anc l k=true ->
  ∀ j oj,k<=j->ops[j]?=some oj->(∀ i oi,i<j->ops[i]?=some oi->(anc.getD j 0).testBit i=true\/oi.apart ops oj=true)/\∀ e∈oj.after,Region.binds .any e=true->e.on<j
 |[],k,hd,_,j,oj,hj,ho=>by
  have:ops.size<=k:=by
   have:=congrArg List.length hd
   simp at this
   omega
  have hlt:j<ops.size:=by
   rcases zB6 j ops.size with h|h
   ·exact h
   ·simp[Array.getElem?_eq_none h]at ho
  omega
 |o::l,k,hd,h,j,oj,hj,ho=>by
  have hk:ops[k]?=some o:=by
   have:=congrArg (·[0]?) hd
   simpa using this
  have hd':ops.toList.drop (k+1)=l:=by
   have:=congrArg List.tail hd
   simpa using this
  simp only[staticFrom,zA4]at h
  obtain⟨⟨h1,h2⟩,h3⟩:=h
  by_cases e:j=k
  ·subst e
   rw[hk]at ho
   cases ho
   have hmj:(Go.Ax.masks ops ops.toList).getD j ⟨0,0⟩=maskO ops o:=by
    rw[List.getD,masks_get]; simp[hk]
   rw[hmj]at h1
   refine⟨fun i oi hi hoi=>?_,fun e he hb=>edgesOk_spec _ h2 e (by simpa using he) hb⟩
   have key:∀ (l:List Mask) (b i:Nat) (m:Mask),pairsOk (maskO ops o) (anc.getD j 0) l b=true->l[i]?=some m->(anc.getD j 0).testBit (b+i)=true\/apartM m (maskO ops o)=true:=by
    intro l
    induction l with
    |nil=>intro b i m _ h; simp at h
    |cons x l ih =>
     intro b i m hp hx
     simp only[pairsOk,zA4,Bool.or_eq_true]at hp
     cases i with
     |zero=>simp at hx; subst hx; exact hp.1
     |succ i =>
      have:=ih (b+1) i m hp.2 (by simpa using hx)
      rw[show b+(i+1)=b+1+i from by omega]; exact this
   have:=key _ 0 i (maskO ops oi) h1 (by rw[List.getElem?_take_of_lt hi,masks_get]; simp[hoi])
   rw[zC0]at this
   exact this.imp id apartM_apart
  ·exact static_spec l (k+1) hd' h3 j oj (by omega) ho
def WrtD (D:Nat->OpD) (HH:Nat->AHeap) (i n:Nat):Prop:=(D i).on=true/\Wrt (HH i) (D i).g n
instance (D:Nat->OpD) (HH:Nat->AHeap) (i n:Nat):Decidable (WrtD D HH i n):=by unfold WrtD; exact inferInstance
def hx (D:Nat->OpD) (HH:Nat->AHeap) (X:Nat->Bool):Nat->Nat->Option AObj
 |0,n=>(HH 0).get n
 |k+1,n=>if X k=true/\WrtD D HH k n then (D k).g.get n else hx D HH X k n
def dstAt (ops:Array Oper) (k:Nat):Option Tmp:=(ops[k]?).bind (·.dst)
def ax (ops:Array Oper) (D:Nat->OpD) (a:AAct) (X:Nat->Bool):Nat->AAct
 |0=>a
 |k+1=>if X k=true then (ax ops D a X k).put (dstAt ops k) (D k).v else ax ops D a X k
theorem put_n (a:AAct) (d:Option Tmp) (v:Value):(a.put d v).env.n=a.env.n/\(a.put d v).defers=a.defers:=by
 cases d with
 |none=>exact⟨rfl,rfl⟩
 |some d=>simp only[AAct.put_eq]; split<;>exact⟨rfl,rfl⟩
theorem put_get (a:AAct) (d:Option Tmp) (v:Value) (t:Nat) (ht:t<a.env.n):(a.put d v).env.get t=if d=some t then v else a.env.get t:=by
 cases d with
 |none=>simp[AAct.put_eq]
 |some d =>
  simp only[AAct.put_eq]
  by_cases h:d<a.env.n
  ·rw[if_pos (blt_of h)]
   simp only[RV.get_set,Option.some.injEq]
   by_cases e:t=d
   ·subst e; simp
   ·rw[if_neg e,if_neg (fun h=>e h.symm)]
  ·rw[if_neg (by rw[blt_false h]; simp)]
   rw[if_neg (fun e=>h (by cases e; exact ht))]
section
variable {ops : Array Oper} {D : Nat -> OpD} {HH : Nat -> AHeap} {a : AAct}
theorem hx_congr {X Y:Nat->Bool} {n:Nat}:∀ k,(∀ j,j<k->WrtD D HH j n->X j=Y j)->hx D HH X k n=hx D HH Y k n
 |0,_=>rfl
 |k+1,h=>by
  rw[hx,hx,hx_congr k (fun j hj=>h j (by omega))]
  by_cases hw:WrtD D HH k n
  ·rw[h k (zC1 _) hw]
  ·simp[hw]
theorem hx_upto {i n:Nat}:∀ k,i<=k->hx D HH (fun j=>decide (j<i)) k n=hx D HH (fun _=>true) i n
 |0,h=>by
  have:i=0:=by omega
  subst this; rfl
 |k+1,h=>by
  by_cases e:i=k+1
  ·subst e
   exact hx_congr (k+1) (fun j hj _=>by simp[hj])
  ·rw[hx,if_neg (by simp; omega)]
   exact hx_upto k (by omega)
theorem hx_insert {X X':Nat->Bool} {i n:Nat} (hi:X i=false) (hi':X' i=true) (hX:∀ j,j≠i->X' j=X j):∀ k,i<k->(∀ j,i<j->j<k->WrtD D HH j n->WrtD D HH i n->X j=false) ->
  hx D HH X' k n=if WrtD D HH i n then (D i).g.get n else hx D HH X k n
 |0,h,_=>by omega
 |k+1,h,hc=>by
  by_cases e:k=i
  ·subst e
   rw[hx,hx,hx_congr (X:=X') (Y:=X) k (fun j hj _=>hX j (by omega))]
   by_cases hw:WrtD D HH k n
   ·rw[if_pos ⟨hi',hw⟩,if_pos hw]
   ·rw[if_neg (fun h=>hw h.2),if_neg hw,if_neg (fun h=>hw h.2)]
  ·rw[hx,hx,hx_insert hi hi' hX k (by omega) (fun j h1 h2=>hc j h1 (by omega)),hX k e]
   by_cases hk:X k=true/\WrtD D HH k n
   ·rw[if_pos hk,if_pos hk]
    by_cases hw:WrtD D HH i n
    ·have:=hc k (by omega) (zC1 _) hk.2 hw
     rw[hk.1]at this; cases this
    ·rw[if_neg hw]
   ·rw[if_neg hk,if_neg hk]
theorem ax_n {X:Nat->Bool}:∀ k,(ax ops D a X k).env.n=a.env.n/\(ax ops D a X k).defers=a.defers
 |0=>⟨rfl,rfl⟩
 |k+1=>by
  rw[ax]
  split
  ·obtain⟨h1,h2⟩:=put_n (ax ops D a X k) (dstAt ops k) (D k).v
   obtain⟨h3,h4⟩:=ax_n (X:=X) k
   exact⟨h1.trans h3,h2.trans h4⟩
  ·exact ax_n k
theorem ax_congr {X Y:Nat->Bool} {t:Nat} (ht:t<a.env.n):∀ k,(∀ j,j<k->dstAt ops j=some t->X j=Y j)->(ax ops D a X k).env.get t=(ax ops D a Y k).env.get t
 |0,_=>rfl
 |k+1,h=>by
  have ih:=ax_congr ht k (fun j hj=>h j (by omega))
  have hn1:=(ax_n (ops:=ops) (D:=D) (a:=a) (X:=X) k).1
  have hn2:=(ax_n (ops:=ops) (D:=D) (a:=a) (X:=Y) k).1
  rw[ax,ax]
  by_cases hd:dstAt ops k=some t
  ·rw[h k (zC1 _) hd]
   split
   ·rw[put_get _ _ _ _ (by rw[hn1]; exact ht),put_get _ _ _ _ (by rw[hn2]; exact ht),if_pos hd,if_pos hd]
   ·exact ih
  ·have e1:(if X k=true then (ax ops D a X k).put (dstAt ops k) (D k).v else ax ops D a X k).env.get t=(ax ops D a X k).env.get t:=by
    split
    ·rw[put_get _ _ _ _ (by rw[hn1]; exact ht),if_neg hd]
    ·rfl
   have e2:(if Y k=true then (ax ops D a Y k).put (dstAt ops k) (D k).v else ax ops D a Y k).env.get t=(ax ops D a Y k).env.get t:=by
    split
    ·rw[put_get _ _ _ _ (by rw[hn2]; exact ht),if_neg hd]
    ·rfl
   rw[e1,e2,ih]
theorem ax_upto {i t:Nat} (ht:t<a.env.n):∀ k,i<=k->(ax ops D a (fun j=>decide (j<i)) k).env.get t=(ax ops D a (fun _=>true) i).env.get t
 |0,h=>by
  have:i=0:=by omega
  subst this; rfl
 |k+1,h=>by
  by_cases e:i=k+1
  ·subst e
   exact ax_congr ht (k+1) (fun j hj _=>by simp[hj])
  ·rw[ax,if_neg (by simp; omega)]
   exact ax_upto ht k (by omega)
theorem ax_insert {X X':Nat->Bool} {i t:Nat} (ht:t<a.env.n) (hi:X i=false) (hi':X' i=true) (hX:∀ j,j≠i->X' j=X j):∀ k,i<k->(∀ j,i<j->j<k->dstAt ops j=some t->dstAt ops i=some t->X j=false) ->
  (ax ops D a X' k).env.get t=if dstAt ops i=some t then (D i).v else (ax ops D a X k).env.get t
 |0,h,_=>by omega
 |k+1,h,hc=>by
  have hn1:=(ax_n (ops:=ops) (D:=D) (a:=a) (X:=X) k).1
  have hn2:=(ax_n (ops:=ops) (D:=D) (a:=a) (X:=X') k).1
  by_cases e:k=i
  ·subst e
   have hcong:=ax_congr (ops:=ops) (D:=D) (X:=X') (Y:=X) ht k (fun j hj _=>hX j (by omega))
   rw[ax,ax,if_pos hi',if_neg (show ¬X k=true by rw[hi]; simp),put_get _ _ _ _ (by rw[hn2]; exact ht),hcong]
  ·have ih:=ax_insert ht hi hi' hX k (by omega) (fun j h1 h2=>hc j h1 (by omega))
   rw[ax,ax,hX k e]
   by_cases hk:X k=true
   ·rw[if_pos hk,if_pos hk,put_get _ _ _ _ (by rw[hn2]; exact ht),put_get _ _ _ _ (by rw[hn1]; exact ht),ih]
    by_cases hd:dstAt ops k=some t
    ·rw[if_pos hd,if_pos hd]
     by_cases hdi:dstAt ops i=some t
     ·have:=hc k (by omega) (zC1 _) hd hdi
      rw[hk]at this; cases this
     ·rw[if_neg hdi]
    ·rw[if_neg hd,if_neg hd]
   ·rw[if_neg hk,if_neg hk]; exact ih
end
theorem if_op (ρ ρ1:Ren) (p:Prop) [Decidable p] (n:Nat):opq (if p then ρ1.op n else ρ.op n)=true:=by
 split
 ·exact ρ1.op1 n
 ·exact ρ.op1 n
def Ren.mix (ρ ρ1:Ren) (lo hi:Nat):Ren :=
 ⟨fun n=>if lo<=n/\n<hi then ρ1.blk n else ρ.blk n,fun n=>if lo<=n/\n<hi then ρ1.sh n else ρ.sh n,fun n=>if lo<=n/\n<hi then ρ1.ex n else ρ.ex n,fun n=>if lo<=n/\n<hi then ρ1.op n else ρ.op n,fun n=>(if_op ρ ρ1 _ n)⟩
theorem mix_out (ρ ρ1:Ren) {lo hi n:Nat} (h:¬(lo<=n/\n<hi)):Agree ρ (ρ.mix ρ1 lo hi) n:=by simp only[Agree,Ren.mix,if_neg h,and_self]
theorem mix_in (ρ ρ1:Ren) {lo hi n:Nat} (he:Ext lo ρ ρ1) (h:n<hi):Agree ρ1 (ρ.mix ρ1 lo hi) n:=by
 by_cases h1:lo<=n
 ·simp only[Agree,Ren.mix,if_pos (zA0 h1 h),and_self]
 ·have:¬(lo<=n/\n<hi):=fun h=>h1 h.1
  simp only[Agree,Ren.mix,if_neg this,he.blk n (by omega),he.sh n (by omega),he.ex n (by omega),he.op n (by omega),and_self]
theorem filt_lt (p q:Nat->Bool):∀ (l:List Nat),(∀ j∈l,q j=true->p j=true)->∀ i∈l,p i=true->q i=false->(l.filter q).length<(l.filter p).length
 |[],_,i,hi,_,_=>by cases hi
 |x::l,h,i,hi,hp,hq=>by
  have hle:∀ l:List Nat,(∀ j∈l,q j=true->p j=true)->(l.filter q).length<=(l.filter p).length:=by
   intro l
   induction l with
   |nil=>intro _; simp
   |cons y l ih =>
    intro h
    have:=ih (fun j hj=>h j (zB5 _ hj))
    by_cases hy:q y=true
    ·have hpy:=h y (zB9 ..) hy
     simp[hy,hpy,this]
    ·by_cases hpy:p y=true
     ·simp[hy,hpy]; omega
     ·simp[hy,hpy]; omega
  rcases zB1.1 hi with rfl|hi
  ·have:=hle l (fun j hj=>h j (zB5 _ hj))
   simp only[List.filter_cons,hp,hq,if_true,zB7,if_false,zB0]
   omega
  ·have ih:=filt_lt p q l (fun j hj=>h j (zB5 _ hj)) i hi hp hq
   by_cases hy:q x=true
   ·have hpy:=h x (zB9 ..) hy
    simp[hy,hpy,ih]
   ·by_cases hpy:p x=true
    ·simp[hy,hpy]; omega
    ·simp[hy,hpy]; omega
theorem disj_spec {a b:List Nat} (h:disj a b=true) {n:Nat} (hn:n∈a):n∉b:=fun hb=>by
 have:=zC4.1 h n hn
 rw[memN_iff.2 hb]at this
 cases this
theorem avoids_spec {lo hi:Nat} {l:List Nat} (h:avoids lo hi l=true) {n:Nat} (hn:n∈l):n<lo\/hi<=n:=by
 have:=zC4.1 h n hn
 simp only[Bool.or_eq_true]at this
 exact this.imp blt_lt ble_le
theorem fpOk_spec {anc:Nat} {F:List Nat} {v:Value} {g:AHeap} {next:Nat} {r:Fp} (h:fpOk anc F v g next r=true) (ha:anc.testBit r.i=false) :
  (∀ n∈r.W,n∉F)/\(∀ n∈r.F,n∉g.dirty)/\(r.lo<r.hi->(∀ n∈F,n<r.lo\/r.hi<=n)/\∀ n∈outIds v g next,n<r.lo\/r.hi<=n):=by
 simp only[fpOk,ha,Bool.false_or,zA4]at h
 obtain⟨⟨h1,h2⟩,h3⟩:=h
 refine⟨fun n hn=>disj_spec h1 hn,fun n hn=>disj_spec h2 hn,fun hlt=>?_⟩
 simp only[Bool.or_eq_true,zA4]at h3
 rcases h3 with h3|h3
 ·have:=ble_le h3; omega
 ·exact⟨fun n hn=>avoids_spec h3.1 hn,fun n hn=>avoids_spec h3.2 hn⟩
theorem mem_rangeFrom {n:Nat}:∀ (k a:Nat),a<=n->n<a+k->n∈rangeFrom a k
 |0,a,h1,h2=>by omega
 |k+1,a,h1,h2=>by
  rw[rangeFrom,zB1]
  by_cases e:n=a
  ·exact .inl e
  ·exact .inr (mem_rangeFrom k (a+1) (by omega) (by omega))
structure Txt (P:Program) (ops:Array Oper) (D:Nat->OpD) (A:Nat->AAct) (HH:Nat->AHeap) (ρ0:Ren) (w0:World):Prop where
 rel:Rel P ρ0 (HH 0) w0
 sc:scA (HH 0).next (A 0)
 fact:∀ i,i<ops.size->OpFact P ops D A HH i
 pair:∀ i j,i<j->j<ops.size->(D i).on=true->PairFact (ancs ops) D HH j (fpAt D HH i)
 stat:∀ j oj,ops[j]?=some oj->(∀ i oi,i<j->ops[i]?=some oi->((ancs ops).getD j 0).testBit i=true\/oi.apart ops oj=true)/\∀ e∈oj.after,Region.binds .any e=true->e.on<j
 ex:∀ i,i<=ops.size->∃ ρi wi,St P ρ0 (HH 0) w0 ρi (HH i) wi/\scA (HH i).next (A i)
section
variable {P : Program} {ops : Array Oper} {D : Nat -> OpD} {A : Nat -> AAct} {HH : Nat -> AHeap} {ρ0 : Ren} {w0 : World}
structure Loc (P:Program) (D:Nat->OpD) (HH:Nat->AHeap) (i:Nat):Prop where
 F:∀ n∈(D i).F,(HH i).get n≠none
 W:∀ n∈(D i).g.dirty,n∈(D i).F
 merge:HH (i+1)=(HH i).merge (D i).g
 le:(HH i).next<=(D i).g.next
 lt:∀ n,(HH i).get n≠none->n<(HH i).next
 dom:∀ n o,(D i).g.get n=some o->n<(D i).g.next/\sco (D i).g.next o
 domH:∀ n o,(HH i).get n=some o->n<(HH i).next/\sco (HH i).next o
 keep:∀ n,n∈(D i).F->n∉(D i).g.dirty->(D i).g.get n=(HH i).get n
 gone:∀ n,n<(HH i).next->n∉(D i).F->(D i).g.get n=none
 v:scb (D i).g.next (D i).v=true
 glob:P.globals.size<=(HH i).next
theorem Txt.loc (T:Txt P ops D A HH ρ0 w0) {i:Nat} (hi:i<ops.size) (hon:(D i).on=true):Loc P D HH i:=by
 obtain⟨o,h1,h2,h3,h4,_⟩:=T.fact i hi
 obtain⟨x1,x2,x3,x4⟩:=h4 hon
 obtain⟨ρi,wi,hst,hsa⟩:=T.ex i (by omega)
 obtain⟨ρ1,w1,s,hsc⟩:=opS_ex (restrict_rel hst.rel (D i).F) (by rw[(restrict_next _ _).1]; exact hsa) x1
 obtain⟨k1,k2,k3⟩:=restrict_next (HH i) (D i).F
 refine⟨x2,x3,x4,by have:=s.le.next; rw[k1]at this; exact this,fun n hn=>hst.rel.lt hn,s.rel.dom,hst.rel.dom,fun n hn hd=>?_,fun n hn hf=>?_,hsc,hst.rel.glob.1⟩
 ·rw[s.le.keep n (by rw[k2]; exact hst.rel.lt (x2 n hn)) hd,restrict_get,if_pos hn]
 ·exact s.le.gone n (by rw[k1]; exact hn) (by rw[restrict_get,if_neg hf])
theorem Txt.step (T:Txt P ops D A HH ρ0 w0) {i:Nat} (hi:i<ops.size) :
  (HH i).next<=(HH (i+1)).next/\((D i).on=true->(HH (i+1)).next=(D i).g.next)/\((D i).on=false->HH (i+1)=HH i)/\(HH (i+1)).base=(HH i).base/\(∀ n,n∈(HH i).dirty->n∈(HH (i+1)).dirty) /\
   ((D i).on=true->∀ n∈(D i).g.dirty,n<(HH i).base->n∈(HH (i+1)).dirty):=by
 obtain⟨o,h1,h2,h3,h4,h5⟩:=T.fact i hi
 cases hon:(D i).on with
 |true =>
  have L:=T.loc hi hon
  obtain⟨m1,m2,m3,m4⟩:=merge_facts (HH i) (D i).g
  rw[L.merge]
  exact⟨by rw[m1]; exact L.le,fun _=>m1,(fun h=>by cases h),m2,m3,fun _=>m4⟩
 |false =>
  obtain⟨x1,x2⟩:=h5 hon
  rw[x2]
  exact⟨zA8 _,(fun h=>by cases h),fun _=>rfl,rfl,fun _ h=>h,(fun h=>by cases h)⟩
theorem Txt.mono (T:Txt P ops D A HH ρ0 w0) {i:Nat}:∀ {j:Nat},i<=j->j<=ops.size->(HH i).next<=(HH j).next/\(HH j).base=(HH i).base/\∀ n,n∈(HH i).dirty->n∈(HH j).dirty
 |0,h,_=>by
  have:i=0:=by omega
  subst this; exact⟨zA8 _,rfl,fun _ h=>h⟩
 |j+1,h,hj=>by
  by_cases e:i=j+1
  ·subst e; exact⟨zA8 _,rfl,fun _ h=>h⟩
  ·obtain⟨h1,h2,h3⟩:=Txt.mono T (i:=i) (j:=j) (by omega) (by omega)
   obtain⟨s1,_,_,s4,s5,_⟩:=T.step (i:=j) (by omega)
   exact⟨zB8 h1 s1,s4.trans h2,fun n hn=>s5 n (h3 n hn)⟩
theorem Txt.hx_all (T:Txt P ops D A HH ρ0 w0) {n:Nat}:∀ k,k<=ops.size->hx D HH (fun _=>true) k n=(HH k).get n
 |0,_=>rfl
 |k+1,hk=>by
  rw[hx,Txt.hx_all T k (by omega)]
  cases hon:(D k).on with
  |true =>
   have L:=T.loc (i:=k) (by omega) hon
   rw[L.merge,merge_get _ _ L.le]
   by_cases hw:Wrt (HH k) (D k).g n
   ·rw[if_pos ⟨rfl,hon,hw⟩,if_pos hw]
   ·rw[if_neg (fun h=>hw h.2.2),if_neg hw]
  |false =>
   rw[if_neg (fun h=>by have:=h.2.1; rw[hon]at this; cases this),(T.step (i:=k) (by omega)).2.2.1 hon]
theorem Txt.ax_all (T:Txt P ops D A HH ρ0 w0):∀ k,k<=ops.size->ax ops D (A 0) (fun _=>true) k=A k
 |0,_=>rfl
 |k+1,hk=>by
  obtain⟨o,h1,h2,_⟩:=T.fact k (by omega)
  rw[ax,if_pos rfl,Txt.ax_all T k (by omega),h2,dstAt,h1]
  rfl
theorem Txt.env_n (T:Txt P ops D A HH ρ0 w0) {k:Nat} (hk:k<=ops.size):(A k).env.n=(A 0).env.n/\(A k).defers=(A 0).defers:=by
 rw[<-T.ax_all k hk]; exact ax_n k
def Closed (ops:Array Oper) (X:Nat->Bool):Prop:=∀ j oj,ops[j]?=some oj->X j=true->∀ e∈oj.after,Region.binds .any e=true->X e.on=true
theorem Txt.anc (T:Txt P ops D A HH ρ0 w0) {X:Nat->Bool} (hc:Closed ops X) {k:Nat}:∀ (j:Nat),j<ops.size->X j=true->((ancs ops).getD j 0).testBit k=true->X k=true:=by
 intro j
 induction j using Nat.strongRecOn with
 |_ j ih =>
  intro hj hX h
  obtain⟨oj,hoj⟩:∃ o,ops[j]?=some o:=⟨ops[j],by simp[hj]⟩
  obtain⟨e,he,hb,hk⟩:=ancs_spec hoj h
  have hlt:=(T.stat j oj hoj).2 e he hb
  have hXe:=hc j oj hoj hX e he hb
  rcases hk with rfl|hk
  ·exact hXe
  ·exact ih e.on hlt (by omega) hXe hk
theorem Txt.anc_ready (T:Txt P ops D A HH ρ0 w0) {X:Nat->Bool} (hc:Closed ops X) {i k:Nat} {o:Oper} (ho:ops[i]?=some o) (hr:∀ e∈o.after,Region.binds .any e=true->X e.on=true) (hi:i<ops.size)
  (h:((ancs ops).getD i 0).testBit k=true):X k=true:=by
 obtain⟨e,he,hb,hk⟩:=ancs_spec ho h
 have hlt:=(T.stat i o ho).2 e he hb
 rcases hk with rfl|hk
 ·exact hr e he hb
 ·exact T.anc hc e.on (by omega) (hr e he hb) hk
def Named (ops:Array Oper) (HH:Nat->AHeap) (X:Nat->Bool) (n:Nat):Prop:=n<(HH 0).next\/∃ k,k<ops.size/\X k=true/\(HH k).next<=n/\n<(HH (k+1)).next
theorem Txt.part (T:Txt P ops D A HH ρ0 w0) {n:Nat}:∀ k,k<=ops.size->n<(HH k).next->n<(HH 0).next\/∃ j,j<k/\(HH j).next<=n/\n<(HH (j+1)).next
 |0,_,h=>.inl h
 |k+1,hk,h=>by
  rcases zB6 n (HH k).next with h1|h1
  ·rcases Txt.part T k (by omega) h1 with h2|⟨j,h2,h3⟩
   ·exact .inl h2
   ·exact .inr ⟨j,by omega,h3⟩
  ·exact .inr ⟨k,zC1 _,h1,h⟩
structure Ready (ops:Array Oper) (X X':Nat->Bool) (i:Nat) (o:Oper):Prop where
 lt:i<ops.size
 at_:ops[i]?=some o
 not:X i=false
 now:X' i=true
 rest:∀ j,j≠i->X' j=X j
 edges:∀ e∈o.after,Region.binds .any e=true->X e.on=true
 closed:Closed ops X
theorem Ready.after (T:Txt P ops D A HH ρ0 w0) {X X':Nat->Bool} {i:Nat} {o:Oper} (r:Ready ops X X' i o) {j:Nat} (hj:j<ops.size) (hX:X j=true):((ancs ops).getD j 0).testBit i=false:=by
 cases h:((ancs ops).getD j 0).testBit i with
 |false=>rfl
 |true =>
  have:=T.anc r.closed j hj hX h
  rw[r.not]at this; cases this
theorem Ready.foot (T:Txt P ops D A HH ρ0 w0) {X X':Nat->Bool} {i:Nat} {o:Oper} (r:Ready ops X X' i o) (hon:(D i).on=true) {n:Nat} (hn:n∈(D i).F) {j:Nat} (hj:j<ops.size) (hw:WrtD D HH j n) :
  X j=decide (j<i):=by
 have L:=T.loc r.lt hon
 obtain⟨hj1,hw⟩:=hw
 rcases Nat.lt_trichotomy j i with h|h|h
 ·rw[decide_eq_true h]
  cases ha:((ancs ops).getD i 0).testBit j with
  |true=>exact T.anc_ready r.closed r.at_ r.edges r.lt ha
  |false =>
   obtain⟨p1,p2,p3⟩:=fpOk_spec (T.pair j i h r.lt hj1 hon) ha
   rcases hw with hw|hw
   ·exact absurd hn (p1 n hw)
   ·have:=(p3 (by show (HH j).next<(D j).g.next; omega)).1 n hn
    simp only[fpAt]at this
    omega
 ·subst h; rw[r.not]; simp
 ·rw[decide_eq_false (by omega)]
  cases hX:X j with
  |false=>rfl
  |true =>
   obtain⟨p1,p2,p3⟩:=fpOk_spec (T.pair i j h hj hon hj1) (r.after T hj hX)
   rcases hw with hw|hw
   ·exact absurd hw (p2 n hn)
   ·have h1:=L.lt n (L.F n hn)
    have h2:=(T.mono (i:=i) (j:=j) (by omega) (by omega)).1
    omega
theorem Ready.ins (T:Txt P ops D A HH ρ0 w0) {X X':Nat->Bool} {i:Nat} {o:Oper} (r:Ready ops X X' i o) {n j:Nat} (hij:i<j) (hj:j<ops.size) (hw:WrtD D HH j n) (hwi:WrtD D HH i n):X j=false:=by
 obtain⟨hj1,hw⟩:=hw
 obtain⟨hon,hwi⟩:=hwi
 have L:=T.loc r.lt hon
 have Lj:=T.loc hj hj1
 have hm:=(T.mono (i:=i+1) (j:=j) (by omega) (by omega)).1
 have hs:=(T.step r.lt).2.1 hon
 cases hX:X j with
 |false=>rfl
 |true =>
  obtain⟨p1,p2,p3⟩:=fpOk_spec (T.pair i j hij hj hon hj1) (r.after T hj hX)
  rcases hwi with hwi|hwi<;>rcases hw with hw|hw
  ·exact absurd (Lj.W n hw) (p1 n hwi)
  ·have:=L.lt n (L.F n (L.W n hwi)); have:=L.le; omega
  ·have:=(p3 (by show (HH i).next<(D i).g.next; omega)).1 n (Lj.W n hw)
   simp only[fpAt]at this
   omega
  ·omega
theorem Ready.looks (T:Txt P ops D A HH ρ0 w0) {X X':Nat->Bool} {i:Nat} {o:Oper} (r:Ready ops X X' i o) {t:Nat} (ht:t∈o.looksAt ops) {j:Nat} (hj:j<ops.size) (hd:dstAt ops j=some t):X j=decide (j<i):=by
 obtain⟨oj,hoj⟩:∃ o,ops[j]?=some o:=⟨ops[j],by simp[hj]⟩
 have hdj:oj.dst=some t:=by simpa[dstAt,hoj]using hd
 rcases Nat.lt_trichotomy j i with h|h|h
 ·rw[decide_eq_true h]
  rcases (T.stat i o r.at_).1 j oj h hoj with ha|ha
  ·exact T.anc_ready r.closed r.at_ r.edges r.lt ha
  ·exact absurd ht ((Oper.apart_spec ha).1 t hdj)
 ·subst h; rw[r.not]; simp
 ·rw[decide_eq_false (by omega)]
  cases hX:X j with
  |false=>rfl
  |true =>
   rcases (T.stat j oj hoj).1 i o h r.at_ with ha|ha
   ·rw[r.after T hj hX]at ha; cases ha
   ·exact absurd ht ((Oper.apart_spec ha).2.2 t hdj)
theorem Ready.dst (T:Txt P ops D A HH ρ0 w0) {X X':Nat->Bool} {i:Nat} {o:Oper} (r:Ready ops X X' i o) {t j:Nat} (hij:i<j) (hj:j<ops.size) (hd:dstAt ops j=some t) (hdi:dstAt ops i=some t):X j=false:=by
 obtain⟨oj,hoj⟩:∃ o,ops[j]?=some o:=⟨ops[j],by simp[hj]⟩
 have hdj:oj.dst=some t:=by simpa[dstAt,hoj]using hd
 have hdi':o.dst=some t:=by simpa[dstAt,r.at_]using hdi
 cases hX:X j with
 |false=>rfl
 |true =>
  rcases (T.stat j oj hoj).1 i o hij r.at_ with ha|ha
  ·rw[r.after T hj hX]at ha; cases ha
  ·exact absurd hdj ((Oper.apart_spec ha).2.1 t hdi')
theorem Ready.tmp (T:Txt P ops D A HH ρ0 w0) {X X':Nat->Bool} {i:Nat} {o:Oper} (r:Ready ops X X' i o) {t:Nat} (ht:t∈o.looksAt ops):(ax ops D (A 0) X ops.size).tmp t=(A i).tmp t:=by
 have hn1:=(ax_n (ops:=ops) (D:=D) (a:=A 0) (X:=X) ops.size).1
 have hn2:=(T.env_n (k:=i) (by have:=r.lt; omega)).1
 unfold AAct.tmp
 rw[hn1,hn2]
 by_cases h:t<(A 0).env.n
 ·rw[blt_of h]
  simp only[if_true]
  rw[ax_congr (Y:=fun j=>decide (j<i)) h ops.size (fun j hj hd=>r.looks T ht hj hd),ax_upto h ops.size (by have:=r.lt; omega),T.ax_all i (by have:=r.lt; omega)]
 ·rw[blt_false h]; simp
theorem Ready.want (T:Txt P ops D A HH ρ0 w0) {X X':Nat->Bool} {i:Nat} {o:Oper} (r:Ready ops X X' i o) (hb:(D i).bad=false) (ρ:Ren):Region.wanted o (yielded ops (ρ.act (ax ops D (A 0) X ops.size)).tmps)=(D i).on:=by
 obtain⟨o',h1,h2,h3,_⟩:=T.fact i r.lt
 rw[r.at_]at h1
 cases h1
 rw[<-want_run ρ (h3 hb)]
 unfold Region.wanted
 cases hg:o.guard with
 |none=>rfl
 |some gw =>
  obtain⟨j,want⟩:=gw
  simp only[yielded_act]
  cases hd:(ops[j]?).bind (·.dst) with
  |none=>rfl
  |some d=>simp only[r.tmp T (t:=d) (by simp[Oper.looksAt,hg,hd])]
theorem Ready.evals (T:Txt P ops D A HH ρ0 w0) {X X':Nat->Bool} {i:Nat} {o:Oper} (r:Ready ops X X' i o) (ρ:Ren):∀ x∈o.op.operands,(ρ.act (ax ops D (A 0) X ops.size)).eval x=(ρ.act (A i)).eval x:=by
 intro x hx
 cases x with
 |tmp t =>
  show (ρ.act (ax ops D (A 0) X ops.size)).tmps.getD t undef=(ρ.act (A i)).tmps.getD t undef
  rw[act_tmp,act_tmp,r.tmp T (t:=t) (List.mem_append_left _ (List.mem_filterMap.2 ⟨.tmp t,by simpa using hx,rfl⟩))]
 |_=>rfl
end
section
variable {P : Program} {ops : Array Oper} {D : Nat -> OpD} {A : Nat -> AAct} {HH : Nat -> AHeap} {ρ0 : Ren} {w0 : World}
def Own (ops:Array Oper) (HH:Nat->AHeap) (n:Nat):Prop:=(HH 0).base<=n\/n∈(HH ops.size).dirty
structure Inv (P:Program) (ops:Array Oper) (D:Nat->OpD) (A:Nat->AAct) (HH:Nat->AHeap) (ρ0:Ren) (w0:World) (X:Nat->Bool) (ρ:Ren) (w:World):Prop where
 glob:∀ g,g<P.globals.size->ρ.blk g=g/\ρ.sh g=0
 inj:∀ a b,hx D HH X ops.size a≠none->hx D HH X ops.size b≠none->ρ.blk a=ρ.blk b->a=b\/Fz (hx D HH X ops.size a)/\Fz (hx D HH X ops.size b)
 ro:∀ n,Fz ((HH 0).get n)->hx D HH X ops.size n=(HH 0).get n
 dom:∀ n o,hx D HH X ops.size n=some o->Named ops HH X n/\∀ k∈idsO o,Named ops HH X k
 obj:∀ n o,hx D HH X ops.size n=some o->∃ o',w.heap[ρ.blk n]?=some o'/\Fits P ρ n o o'
 env:∀ t,t<(A 0).env.n->∀ k∈idsV ((ax ops D (A 0) X ops.size).env.get t),Named ops HH X k
 ext:Ext (HH 0).next ρ0 ρ
 os:w.os=w0.os
 tape:w.tape=w0.tape
 output:w.output=w0.output
 size:w0.heap.size<=w.heap.size
 old:∀ b,b<w0.heap.size->(∀ n,n<(HH 0).next->Own ops HH n->(HH 0).get n≠none->ρ0.blk n≠b)->w.heap[b]?=w0.heap[b]?
 fresh:∀ n,(HH 0).next<=n->hx D HH X ops.size n≠none->w0.heap.size<=ρ.blk n\/∃ k,k<(HH 0).next/\(HH 0).get k≠none/\Own ops HH k/\ρ.blk n=ρ0.blk k
 gone:∀ n,n<(HH 0).next->(HH 0).get n=none->hx D HH X ops.size n=none
theorem Named.mono {X X':Nat->Bool} (h:∀ j,X j=true->X' j=true) {n:Nat} (hn:Named ops HH X n):Named ops HH X' n :=
 hn.imp id (fun⟨k,h1,h2,h3⟩=>⟨k,h1,h k h2,h3⟩)
theorem act_same (ρ ρ':Ren) {a b:AAct} (hn:a.env.n=b.env.n) (hd:a.defers.map ρ.dfr=b.defers.map ρ'.dfr) (hg:∀ t,t<b.env.n->ρ.val (a.env.get t)=ρ'.val (b.env.get t)):ρ.act a=ρ'.act b:=by
 unfold Ren.act
 rw[hd]
 congr 1
 apply Array.ext_getElem?
 intro i
 rw[tmps_get?,tmps_get?,hn]
 split
 ·rename_i h; rw[hg i h]
 ·rfl
theorem Ready.up {X X':Nat->Bool} {i:Nat} {o:Oper} (r:Ready ops X X' i o):∀ j,X j=true->X' j=true:=fun j h=>by
 by_cases e:j=i
 ·rw[e]; exact r.now
 ·rw[r.rest j e]; exact h
theorem dfr_agree (T:Txt P ops D A HH ρ0 w0) {ρ ρ':Ren} (h:Ext (HH 0).next ρ0 ρ) (h':Ext (HH 0).next ρ0 ρ'):(A 0).defers.map ρ'.dfr=(A 0).defers.map ρ.dfr:=by
 apply zD8
 intro d hd
 rw[dfr_ext h (T.sc.2 d hd),dfr_ext h' (T.sc.2 d hd)]
theorem Ready.off (T:Txt P ops D A HH ρ0 w0) {X X':Nat->Bool} {i:Nat} {o:Oper} (r:Ready ops X X' i o) (hoff:(D i).on=false) {ρ:Ren} {w:World} (I:Inv P ops D A HH ρ0 w0 X ρ w) :
  Inv P ops D A HH ρ0 w0 X' ρ w/\(ρ.act (ax ops D (A 0) X ops.size)).put o.dst undef=ρ.act (ax ops D (A 0) X' ops.size):=by
 have hh:∀ n,hx D HH X' ops.size n=hx D HH X ops.size n:=fun n=>hx_congr _ (fun j _ hw=>r.rest j (fun e=>by rw[e]at hw; have:=hw.1; rw[hoff]at this; cases this))
 obtain⟨o',f1,f2,f3,f4,f5⟩:=T.fact i r.lt
 rw[r.at_]at f1
 cases f1
 have hv:=(f5 hoff).1
 have hdi:dstAt ops i=o.dst:=by simp[dstAt,r.at_]
 have he:∀ t,t<(A 0).env.n->(ax ops D (A 0) X' ops.size).env.get t=if o.dst=some t then undef else (ax ops D (A 0) X ops.size).env.get t:=fun t ht=>by
  rw[ax_insert ht r.not r.now r.rest ops.size r.lt (fun j h1 h2 h3 h4=>r.dst T h1 h2 h3 h4),hdi,hv]
 refine⟨⟨I.glob,fun a b ha hb=>by rw[hh,hh]; exact I.inj a b (by rw[<-hh]; exact ha) (by rw[<-hh]; exact hb),fun n hn=>by rw[hh]; exact I.ro n hn,fun n o ho=>?_,fun n o ho=>I.obj n o (by rw[<-hh]; exact ho),fun t ht k hk=>?_,I.ext,I.os,I.tape,I.output,I.size,I.old,fun n h1 h2=>I.fresh n h1 (by rw[<-hh]; exact h2),fun n h1 h2=>by rw[hh]; exact I.gone n h1 h2⟩,?_⟩
 ·have:=I.dom n o (by rw[<-hh]; exact ho)
  exact⟨this.1.mono r.up,fun k hk=>(this.2 k hk).mono r.up⟩
 ·rw[he t ht]at hk
  split at hk
  ·simp[undef,idsV,idsA,idsL]at hk
  ·exact (I.env t ht k hk).mono r.up
 ·have hp:=act_put ρ (ax ops D (A 0) X ops.size) o.dst undef
  rw[Ren.val_undef]at hp
  rw[hp]
  obtain⟨p1,p2⟩:=put_n (ax ops D (A 0) X ops.size) o.dst undef
  obtain⟨q1,q2⟩:=ax_n (ops:=ops) (D:=D) (a:=A 0) (X:=X) ops.size
  obtain⟨s1,s2⟩:=ax_n (ops:=ops) (D:=D) (a:=A 0) (X:=X') ops.size
  refine act_same ρ ρ (by rw[p1,q1,s1]) (by rw[p2,q2,s2]) (fun t ht=>?_)
  rw[s1]at ht
  rw[put_get _ _ _ _ (by rw[q1]; exact ht),he t ht]
theorem Ready.same (T:Txt P ops D A HH ρ0 w0) {X X':Nat->Bool} {i:Nat} {o:Oper} (r:Ready ops X X' i o) (hon:(D i).on=true) {n:Nat} (hn:n∈(D i).F):hx D HH X ops.size n=(HH i).get n:=by
 have hi:=r.lt
 rw[hx_congr (Y:=fun j=>decide (j<i)) ops.size (fun j hj hw=>r.foot T hon hn hj hw),hx_upto ops.size (by omega),T.hx_all i (by omega)]
theorem Ready.rel (T:Txt P ops D A HH ρ0 w0) {X X':Nat->Bool} {i:Nat} {o:Oper} (r:Ready ops X X' i o) (hon:(D i).on=true) {ρ:Ren} {w:World} (I:Inv P ops D A HH ρ0 w0 X ρ w) :
  Rel P ρ ((HH i).restrict (D i).F) w:=by
 have L:=T.loc r.lt hon
 obtain⟨k1,k2,k3⟩:=restrict_next (HH i) (D i).F
 have hF:∀ n x,((HH i).restrict (D i).F).get n=some x->n∈(D i).F/\(HH i).get n=some x:=fun n x h=>by
  rw[restrict_get]at h
  split at h
  ·rename_i hn; exact⟨hn,h⟩
  ·cases h
 have hF':∀ n,((HH i).restrict (D i).F).get n≠none->hx D HH X ops.size n≠none:=fun n h=>by
  obtain⟨x,hx'⟩:=Option.ne_none_iff_exists'.1 h
  obtain⟨h1,h2⟩:=hF n x hx'
  rw[r.same T hon h1,h2]; simp
 refine⟨by rw[k1,k2]; exact zA8 _,by rw[k1]; exact⟨L.glob,I.glob⟩,fun a b ha hb he=>by
  obtain⟨xa,hxa⟩:=Option.ne_none_iff_exists'.1 ha
  obtain⟨xb,hxb⟩:=Option.ne_none_iff_exists'.1 hb
  obtain⟨a1,a2⟩:=hF a xa hxa
  obtain⟨b1,b2⟩:=hF b xb hxb
  have:=I.inj a b (hF' a ha) (hF' b hb) he
  rw[r.same T hon a1,r.same T hon b1,a2,b2]at this
  rw[hxa,hxb]; exact this,fun n x hx'=>?_,fun n x hx'=>?_⟩
 ·rw[k1]; exact L.domH n x (hF n x hx').2
 ·obtain⟨h1,h2⟩:=hF n x hx'
  exact I.obj n x (by rw[r.same T hon h1]; exact h2)
theorem Ready.out (T:Txt P ops D A HH ρ0 w0) {X X':Nat->Bool} {i:Nat} {o:Oper} (r:Ready ops X X' i o) (hon:(D i).on=true) {n:Nat} (hn:n∈outIds (D i).v (D i).g (HH i).next):Named ops HH X' n:=by
 have L:=T.loc r.lt hon
 have hi:=r.lt
 have hs:=(T.step r.lt).2.1 hon
 have hlt:n<(D i).g.next:=by
  rw[outIds,zC9]at hn
  rcases hn with hn|hn
  ·exact ids_of_scb _ L.v n hn
  ·obtain⟨x,_,hx⟩:=List.mem_flatMap.1 hn
   unfold idsAt at hx
   split at hx
   ·rename_i ob hob; exact ids_of_sco (L.dom x ob hob).2 n hx
   ·cases hx
 rcases T.part (i+1) (by omega) (by rw[hs]; exact hlt) with h|⟨j,h1,h2,h3⟩
 ·exact .inl h
 ·by_cases e:j=i
  ·subst e; exact .inr ⟨j,r.lt,r.now,h2,h3⟩
  ·have hj:j<i:=by omega
   refine .inr ⟨j,by omega,?_,h2,h3⟩
   rw[r.rest j e]
   cases ha:((ancs ops).getD i 0).testBit j with
   |true=>exact T.anc_ready r.closed r.at_ r.edges r.lt ha
   |false =>
    have hjo:(D j).on=true:=by
     cases hjo:(D j).on with
     |true=>rfl
     |false =>
      have:=(T.step (i:=j) (by omega)).2.2.1 hjo
      rw[this]at h3; omega
    have hsj:=(T.step (i:=j) (by omega)).2.1 hjo
    obtain⟨p1,p2,p3⟩:=fpOk_spec (T.pair j i hj r.lt hjo hon) ha
    have:=(p3 (by show (HH j).next<(D j).g.next; omega)).2 n hn
    simp only[fpAt]at this
    omega
theorem Ready.notNew (T:Txt P ops D A HH ρ0 w0) {X X':Nat->Bool} {i:Nat} {o:Oper} (r:Ready ops X X' i o) (hon:(D i).on=true) {n:Nat} (hn:Named ops HH X n):¬((HH i).next<=n/\n<(D i).g.next):=by
 have hi:=r.lt
 have hs:=(T.step r.lt).2.1 hon
 rcases hn with h|⟨k,h1,h2,h3,h4⟩
 ·have:=(T.mono (i:=0) (j:=i) (by omega) (by omega)).1; omega
 ·rcases Nat.lt_trichotomy k i with h|h|h
  ·have:=(T.mono (i:=k+1) (j:=i) (by omega) (by omega)).1; omega
  ·subst h; rw[r.not]at h2; cases h2
  ·have:=(T.mono (i:=i+1) (j:=k) (by omega) (by omega)).1; omega
theorem Txt.own (T:Txt P ops D A HH ρ0 w0) {i:Nat} (hi:i<ops.size) (hon:(D i).on=true) {n:Nat} (hn:n∈(D i).g.dirty):Own ops HH n:=by
 have hb:=(T.mono (i:=0) (j:=i) (by omega) (by omega)).2.1
 rcases zB6 n (HH 0).base with h|h
 ·right
  have:=(T.step hi).2.2.2.2.2 hon n hn (by rw[hb]; exact h)
  exact (T.mono (i:=i+1) (j:=ops.size) (by omega) (by omega)).2.2 n this
 ·exact .inl h
theorem Ready.on (T:Txt P ops D A HH ρ0 w0) {X X':Nat->Bool} {i:Nat} {o:Oper} (r:Ready ops X X' i o) (hon:(D i).on=true) {ρ:Ren} {w:World} (I:Inv P ops D A HH ρ0 w0 X ρ w)
  {ρ1:Ren} {w1:World} (s:St P ρ ((HH i).restrict (D i).F) w ρ1 (D i).g w1) :
  Inv P ops D A HH ρ0 w0 X' (ρ.mix ρ1 (HH i).next (D i).g.next) w1/\(ρ.act (ax ops D (A 0) X ops.size)).put o.dst (ρ1.val (D i).v)=(ρ.mix ρ1 (HH i).next (D i).g.next).act (ax ops D (A 0) X' ops.size):=by
 have L:=T.loc r.lt hon
 have hi:=r.lt
 have hs:=(T.step r.lt).2.1 hon
 have hlo:=(T.mono (i:=0) (j:=i) (by omega) (by omega)).1
 obtain⟨k1,k2,k3⟩:=restrict_next (HH i) (D i).F
 have hext:Ext (HH i).next ρ ρ1:=by have:=s.ext; rw[k1]at this; exact this
 obtain⟨o',f1,f2,f3,f4,f5⟩:=T.fact i r.lt
 rw[r.at_]at f1
 cases f1
 have hdi:dstAt ops i=o.dst:=by simp[dstAt,r.at_]
 have hLF:∀ m,((HH i).restrict (D i).F).get m≠none->m∈(D i).F:=fun m h=>by
  rw[restrict_get]at h
  split at h
  ·rename_i hm; exact hm
  ·exact absurd rfl h
 have hXF:∀ n∈(D i).F,hx D HH X ops.size n≠none:=fun n hn=>by rw[r.same T hon hn]; exact L.F n hn
 -- memory behind the operation
 have hh:∀ n,hx D HH X' ops.size n=if WrtD D HH i n then (D i).g.get n else hx D HH X ops.size n:=fun n =>
  hx_insert r.not r.now r.rest ops.size r.lt (fun j h1 h2 h3 h4=>r.ins T h1 h2 h3 h4)
 have hfrom:∀ n x,hx D HH X' ops.size n=some x->((D i).g.get n=some x/\(n∈(D i).F\/(HH i).next<=n))\/(n∉(D i).F/\hx D HH X ops.size n=some x):=fun n x hx'=>by
  rw[hh]at hx'
  split at hx'
  ·rename_i hw
   refine .inl ⟨hx',?_⟩
   rcases hw.2 with h|h
   ·exact .inl (L.W n h)
   ·exact .inr h.1
  ·rename_i hw
   by_cases hf:n∈(D i).F
   ·refine .inl ⟨?_,.inl hf⟩
    rw[L.keep n hf (fun h=>hw ⟨hon,.inl h⟩),<-r.same T hon hf]; exact hx'
   ·exact .inr ⟨hf,hx'⟩
 -- how the renamings agree
 have g1:∀ n,n<(D i).g.next->Agree ρ1 (ρ.mix ρ1 (HH i).next (D i).g.next) n:=fun n hn=>mix_in ρ ρ1 hext hn
 have g2:∀ n,Named ops HH X n->Agree ρ (ρ.mix ρ1 (HH i).next (D i).g.next) n:=fun n hn=>mix_out ρ ρ1 (r.notNew T hon hn)
 have hblk:∀ n,hx D HH X ops.size n≠none->ρ.blk n<w.heap.size:=fun n hn=>by
  obtain⟨x,hx'⟩:=Option.ne_none_iff_exists'.1 hn
  obtain⟨y,hy,_⟩:=I.obj n x hx'
  rcases zB6 (ρ.blk n) w.heap.size with h|h
  ·exact h
  ·simp[Array.getElem?_eq_none h]at hy
 have hFL:∀ m∈(D i).F,((HH i).restrict (D i).F).get m=(HH i).get m:=fun m h=>by rw[restrict_get,if_pos h]
 have hro:∀ m∈(D i).F,Fz (hx D HH X ops.size m)->m∉(D i).g.dirty/\(D i).g.get m=hx D HH X ops.size m:=fun m h hz=>by
  rw[r.same T hon h]at hz ⊢
  obtain⟨a,b⟩:=s.ro m (by rw[hFL m h]; exact hz)
  rw[k3]at a
  exact⟨fun h=>(by cases a h),by rw[b,hFL m h]⟩
 -- the blocks that the operation has written or made anew, by where they came from
 have hnew:∀ n x,(D i).g.get n=some x->(HH i).next<=n->w.heap.size<=ρ1.blk n\/∃ m,m∈(D i).F/\m∈(D i).g.dirty/\m<(HH i).next/\ρ1.blk n=ρ.blk m:=fun n x hx' hn=>by
  rcases s.fresh n (by rw[k1]; exact hn) (ne_none hx') with h|⟨m,h1,h2,h3,h4⟩
  ·exact .inl h
  ·refine .inr ⟨m,hLF m h2,?_,by rw[k1]at h1; exact h1,h4⟩
   rcases h3 with h3|h3
   ·rw[k2]at h3; rw[k1]at h1; omega
   ·exact h3
 have he:∀ t,t<(A 0).env.n->(ax ops D (A 0) X' ops.size).env.get t=if o.dst=some t then (D i).v else (ax ops D (A 0) X ops.size).env.get t:=fun t ht=>by
  rw[ax_insert ht r.not r.now r.rest ops.size r.lt (fun j h1 h2 h3 h4=>r.dst T h1 h2 h3 h4),hdi]
 have hvout:∀ k∈idsV (D i).v,Named ops HH X' k:=fun k hk=>r.out T hon (by rw[outIds]; exact List.mem_append_left _ hk)
 have hext':Ext (HH 0).next ρ0 (ρ.mix ρ1 (HH i).next (D i).g.next):=by
  have ha:∀ n,n<(HH 0).next->Agree ρ (ρ.mix ρ1 (HH i).next (D i).g.next) n:=fun n hn=>g2 n (.inl hn)
  exact⟨fun n hn=>(ha n hn).1.trans (I.ext.blk n hn),fun n hn=>(ha n hn).2.1.trans (I.ext.sh n hn),fun n hn=>(ha n hn).2.2.1.trans (I.ext.ex n hn),fun n hn=>(ha n hn).2.2.2.trans (I.ext.op n hn)⟩
 have hglob:P.globals.size<=(HH 0).next:=T.rel.glob.1
 refine⟨⟨fun g hg=>?_,?_,fun n hz=>?_,?_,?_,?_,hext',s.os.trans I.os,s.tape.trans I.tape,s.output.trans I.output,zB8 I.size s.size,?_,?_,?_⟩,?_⟩
 ·have ha:=g2 g (.inl (by omega))
  rw[ha.1,ha.2.1]; exact I.glob g hg
 ·-- one to one
  intro a b ha hb heq
  obtain⟨xa,hxa⟩:=Option.ne_none_iff_exists'.1 ha
  obtain⟨xb,hxb⟩:=Option.ne_none_iff_exists'.1 hb
  have cross:∀ x y ox oy,(D i).g.get x=some ox->(x∈(D i).F\/(HH i).next<=x)->y∉(D i).F->hx D HH X ops.size y=some oy->(ρ.mix ρ1 (HH i).next (D i).g.next).blk x=(ρ.mix ρ1 (HH i).next (D i).g.next).blk y->Fz ((D i).g.get x)/\Fz (hx D HH X ops.size y):=by
   intro x y ox oy hox hxF hyF hoy heq
   rw[(g1 x (L.dom x ox hox).1).1,(g2 y (I.dom y oy hoy).1).1]at heq
   rcases zB6 x (HH i).next with hlt|hge
   ·have hxF:x∈(D i).F:=hxF.elim id (fun h=>by omega)
    rw[hext.blk x hlt]at heq
    rcases I.inj x y (hXF x hxF) (ne_none hoy) heq with e|⟨e1,e2⟩
    ·exact absurd (e▸hxF) hyF
    ·exact⟨by rw[(hro x hxF e1).2]; exact e1,e2⟩
   ·rcases hnew x ox hox hge with h|⟨m,h1,h2,h3,h4⟩
    ·have:=hblk y (ne_none hoy); omega
    ·rw[h4]at heq
     exact (I.inj m y (hXF m h1) (ne_none hoy) heq).elim (fun e=>absurd (e▸h1) hyF) fun h=>absurd h2 (hro m h1 h.1).1
  rcases hfrom a xa hxa with⟨h1,h2⟩|⟨h1,h2⟩<;>rcases hfrom b xb hxb with⟨j1,j2⟩|⟨j1,j2⟩
  ·rw[(g1 a (L.dom a xa h1).1).1,(g1 b (L.dom b xb j1).1).1]at heq
   rw[hxa,hxb,<-h1,<-j1]
   exact s.rel.inj a b (ne_none h1) (ne_none j1) heq
  ·rw[hxa,hxb,<-h1,<-j2]
   exact .inr (cross a b xa xb h1 h2 j1 j2 heq)
  ·rw[hxa,hxb,<-h2,<-j1]
   exact .inr (cross b a xb xa j1 j2 h1 h2 heq.symm).symm
  ·rw[(g2 a (I.dom a xa h2).1).1,(g2 b (I.dom b xb j2).1).1]at heq
   rw[hxa,hxb,<-h2,<-j2]
   exact I.inj a b (ne_none h2) (ne_none j2) heq
 ·-- what is for reading only
  have h0:=I.ro n hz
  rw[hh]
  split
  ·rename_i hw
   have hz':Fz (hx D HH X ops.size n):=by rw[h0]; exact hz
   rcases hw.2 with h|h
   ·exact absurd h (hro n (L.W n h) hz').1
   ·have:=T.rel.lt hz.ne; omega
  ·exact h0
 ·-- what is named
  intro n x hx'
  have hx0:=hx'
  rw[hh]at hx'
  split at hx'
  ·rename_i hw
   have hd:=L.dom n x hx'
   refine⟨?_,fun k hk=>r.out T hon ?_⟩
   ·rcases hw.2 with h|h
    ·obtain⟨y,hy⟩:=Option.ne_none_iff_exists'.1 (hXF n (L.W n h))
     exact (I.dom n y hy).1.mono r.up
    ·exact .inr ⟨i,r.lt,r.now,h.1,by rw[hs]; exact h.2⟩
   ·rw[outIds]
    refine List.mem_append_right _ (List.mem_flatMap.2 ⟨n,?_,by simp only[idsAt,hx']; exact hk⟩)
    rcases hw.2 with h|h
    ·exact List.mem_append_left _ h
    ·exact List.mem_append_right _ (mem_rangeFrom _ _ h.1 (by omega))
  ·have:=I.dom n x hx'
   exact⟨this.1.mono r.up,fun k hk=>(this.2 k hk).mono r.up⟩
 ·-- the objects
  intro n x hx'
  rcases hfrom n x hx' with⟨h1,_⟩|⟨h1,h2⟩
  ·obtain⟨y,hy,hf⟩:=s.rel.obj n x h1
   have hd:=L.dom n x h1
   refine⟨y,by rw[(g1 n hd.1).1]; exact hy,hf.agree (g1 n hd.1) (fun k hk=>g1 k (ids_of_sco hd.2 k hk))⟩
  ·obtain⟨y,hy,hf⟩:=I.obj n x h2
   have hd:=I.dom n x h2
   refine⟨y,?_,hf.agree (g2 n hd.1) (fun k hk=>g2 k (hd.2 k hk))⟩
   rw[(g2 n hd.1).1,<-hy]
   refine s.old _ (hblk n (ne_none h2)) fun m hm hdm hgm e=>?_
   have hmF:=hLF m hgm
   have hmd:m∈(D i).g.dirty:=hdm.elim (fun h=>by rw[k2]at h; rw[k1]at hm; omega) id
   exact (I.inj m n (hXF m hmF) (ne_none h2) e).elim (fun e=>h1 (e▸hmF)) fun h=>(hro m hmF h.1).1 hmd
 ·-- the temporaries
  intro t ht k hk
  rw[he t ht]at hk
  split at hk
  ·exact hvout k hk
  ·exact (I.env t ht k hk).mono r.up
 ·-- what was there before
  intro b hb hc
  rw[<-I.old b hb hc]
  refine s.old b (zC3 hb I.size) fun m hm hdm hgm=>?_
  have hmF:=hLF m hgm
  have hmd:m∈(D i).g.dirty:=by
   rcases hdm with h|h
   ·rw[k2]at h; rw[k1]at hm; omega
   ·exact h
  have hown:=T.own r.lt hon hmd
  rcases zB6 m (HH 0).next with h|h
  ·rw[I.ext.blk m h]
   exact hc m h hown (fun e=>hXF m hmF (I.gone m h e))
  ·rcases I.fresh m h (hXF m hmF) with h'|⟨q,h1,h2,h3,h4⟩
   ·omega
   ·rw[h4]; exact hc q h1 h3 h2
 ·-- what is new
  intro n hn hne
  obtain⟨x,hx'⟩:=Option.ne_none_iff_exists'.1 hne
  rcases hfrom n x hx' with⟨h1,h2⟩|⟨h1,h2⟩
  ·rw[(g1 n (L.dom n x h1).1).1]
   rcases zB6 n (HH i).next with hlt|hge
   ·have hnF:n∈(D i).F:=h2.elim id (fun h=>by omega)
    rw[hext.blk n hlt]
    exact I.fresh n hn (hXF n hnF)
   ·rcases hnew n x h1 hge with h|⟨m,m1,m2,m3,m4⟩
    ·exact .inl (zB8 I.size h)
    ·rw[m4]
     have hown:=T.own r.lt hon m2
     rcases zB6 m (HH 0).next with h|h
     ·exact .inr ⟨m,h,fun e=>hXF m m1 (I.gone m h e),hown,I.ext.blk m h⟩
     ·exact I.fresh m h (hXF m m1)
  ·rw[(g2 n (I.dom n x h2).1).1]
   exact I.fresh n hn (ne_none h2)
 ·-- what is gone
  intro n hn h0
  rw[hh]
  split
  ·rename_i hw
   rcases hw.2 with h|h
   ·exact absurd (I.gone n hn h0) (hXF n (L.W n h))
   ·omega
  ·exact I.gone n hn h0
 ·-- the frame
  have hval:ρ1.val (D i).v=(ρ.mix ρ1 (HH i).next (D i).g.next).val (D i).v:=(val_ids _ (fun k hk=>g1 k (ids_of_scb _ L.v k hk))).symm
  have hmid:ρ.act (ax ops D (A 0) X ops.size)=(ρ.mix ρ1 (HH i).next (D i).g.next).act (ax ops D (A 0) X ops.size):=by
   obtain⟨q1,q2⟩:=ax_n (ops:=ops) (D:=D) (a:=A 0) (X:=X) ops.size
   refine act_same _ _ rfl ?_ (fun t ht=>?_)
   ·rw[q2]; exact dfr_agree T hext' I.ext
   ·rw[q1]at ht
    exact (val_ids _ (fun k hk=>g2 k (I.env t ht k hk))).symm
  rw[hmid,hval,act_put]
  obtain⟨p1,p2⟩:=put_n (ax ops D (A 0) X ops.size) o.dst (D i).v
  obtain⟨q1,q2⟩:=ax_n (ops:=ops) (D:=D) (a:=A 0) (X:=X) ops.size
  obtain⟨s1,s2⟩:=ax_n (ops:=ops) (D:=D) (a:=A 0) (X:=X') ops.size
  refine act_same _ _ (by rw[p1,q1,s1]) (by rw[p2,q2,s2]) (fun t ht=>?_)
  rw[s1]at ht
  rw[put_get _ _ _ _ (by rw[q1]; exact ht),he t ht]
end
section
variable {P : Program} {ops : Array Oper} {D : Nat -> OpD} {A : Nat -> AAct} {HH : Nat -> AHeap} {ρ0 : Ren} {w0 : World}
def listedX (l:Array Bool) (j:Nat):Bool:=l.getD j false
def left (m:Nat) (X:Nat->Bool):Nat:=((List.range m).filter fun i=>!X i).length
theorem mem_ready' {listed:Array Bool} {i:Nat} (hsz:listed.size=ops.size) (h:i∈Region.ready .any ops listed):i<ops.size/\listedX listed i=false/\∃ o,ops[i]?=some o/\∀ e∈o.after,Region.binds .any e=true->listedX listed e.on=true:=by
 obtain⟨h1,o,h2,h3⟩:=mem_ready.1 h
 have hlt:i<ops.size:=by
  rcases zB6 i ops.size with h|h
  ·exact h
  ·simp[Array.getElem?_eq_none h]at h2
 refine⟨hlt,?_,o,h2,fun e he hb=>h3 e he hb⟩
 have hl:i<listed.size:=by omega
 simp only[listedX,Array.getD_eq_getD_getElem?,Array.getElem?_eq_getElem hl,Option.getD_some]at h1 ⊢
 exact h1
theorem ready_of {listed:Array Bool} {i:Nat} {o:Oper} (hsz:listed.size=ops.size) (hi:i<ops.size) (h1:listedX listed i=false) (ho:ops[i]?=some o) (he:∀ e∈o.after,Region.binds .any e=true->listedX listed e.on=true):i∈Region.ready .any ops listed:=by
 refine mem_ready.2 ⟨?_,o,ho,fun e h hb=>he e h hb⟩
 have hl:i<listed.size:=by omega
 simp only[listedX,Array.getD_eq_getD_getElem?,Array.getElem?_eq_getElem hl,Option.getD_some]at h1 ⊢
 exact h1
theorem all_run (T:Txt P ops D A HH ρ0 w0) {listed:Array Bool} (hsz:listed.size=ops.size) (h:Region.ready .any ops listed=[]):∀ i,i<ops.size->listedX listed i=true:=by
 intro i
 induction i using Nat.strongRecOn with
 |_ i ih =>
  intro hi
  cases hX:listedX listed i with
  |true=>rfl
  |false =>
   obtain⟨o,ho⟩:∃ o,ops[i]?=some o:=⟨ops[i],by simp[hi]⟩
   have:i∈Region.ready .any ops listed:=ready_of hsz hi hX ho (fun e he hb=>by
    have hlt:=(T.stat i o ho).2 e he hb
    exact ih e.on hlt (by omega))
   rw[h]at this; cases this
theorem inv_end (T:Txt P ops D A HH ρ0 w0) {X:Nat->Bool} (hX:∀ i,i<ops.size->X i=true) {ρ:Ren} {w:World} (I:Inv P ops D A HH ρ0 w0 X ρ w) :
  St P ρ0 (HH 0) w0 ρ (HH ops.size) w/\ρ.act (ax ops D (A 0) X ops.size)=ρ.act (A ops.size):=by
 have hh:∀ n,hx D HH X ops.size n=(HH ops.size).get n:=fun n=>by
  rw[hx_congr (Y:=fun _=>true) ops.size (fun j hj _=>hX j hj),T.hx_all ops.size (zA8 _)]
 obtain⟨ρm,wm,hst,hsa⟩:=T.ex ops.size (zA8 _)
 refine⟨⟨I.ext,hst.le,⟨hst.rel.base,⟨hst.rel.glob.1,I.glob⟩,fun a b ha hb=>by rw[<-hh,<-hh]; exact I.inj a b (by rw[hh]; exact ha) (by rw[hh]; exact hb),hst.rel.dom,fun n o ho=>I.obj n o (by rw[hh]; exact ho)⟩,I.os,I.tape,I.output,I.size,
  fun b hb hc=>I.old b hb hc,fun n hn hg=>?_,hst.ro⟩,?_⟩
 ·rcases I.fresh n hn (by rw[hh]; exact hg) with h|⟨k,h1,h2,h3,h4⟩
  ·exact .inl h
  ·exact .inr ⟨k,h1,h2,h3,h4⟩
 ·obtain⟨q1,q2⟩:=ax_n (ops:=ops) (D:=D) (a:=A 0) (X:=X) ops.size
  obtain⟨e1,e2⟩:=T.env_n (k:=ops.size) (zA8 _)
  refine act_same _ _ (by rw[q1,e1]) (by rw[q2,e2]) (fun t ht=>?_)
  rw[e1]at ht
  rw[ax_congr (Y:=fun _=>true) ht ops.size (fun j hj _=>hX j hj),T.ax_all ops.size (zA8 _)]
theorem inv_start (T:Txt P ops D A HH ρ0 w0) {X:Nat->Bool} (hX:∀ i,X i=false) {w:World} (h1:w.heap=w0.heap) (h2:w.os=w0.os) (h3:w.tape=w0.tape) (h4:w.output=w0.output) :
  Inv P ops D A HH ρ0 w0 X ρ0 w/\ax ops D (A 0) X ops.size=A 0:=by
 have hh:∀ k n,hx D HH X k n=(HH 0).get n:=fun k n=>by
  induction k with
  |zero=>rfl
  |succ k ih=>rw[hx,if_neg (fun h=>by rw[hX]at h; cases h.1),ih]
 have ha:∀ k,ax ops D (A 0) X k=A 0:=fun k=>by
  induction k with
  |zero=>rfl
  |succ k ih=>rw[ax,if_neg (by rw[hX]; simp),ih]
 refine⟨⟨T.rel.glob.2,fun a b ha' hb=>by rw[hh ops.size,hh ops.size]; exact T.rel.inj a b (by rw[<-hh ops.size]; exact ha') (by rw[<-hh ops.size]; exact hb),fun n _=>hh ops.size n,fun n o ho=>?_,fun n o ho=>by rw[h1]; exact T.rel.obj n o (by rw[<-hh ops.size]; exact ho),fun t ht k hk=>?_,Ext.refl _ _,h2,h3,h4,
  by rw[h1]; exact zA8 _,fun b _ _=>by rw[h1],fun n hn hne=>?_,fun n _ h0=>by rw[hh]; exact h0⟩,ha ops.size⟩
 ·have:=T.rel.dom n o (by rw[<-hh ops.size]; exact ho)
  exact⟨.inl this.1,fun k hk=>.inl (ids_of_sco this.2 k hk)⟩
 ·rw[ha]at hk
  exact .inl (ids_of_scb _ (T.sc.1 t ht) k hk)
 ·rw[hh]at hne
  exact absurd (T.rel.lt hne) (by omega)
theorem set_X {listed:Array Bool} {i:Nat} (hi:i<listed.size) (j:Nat):listedX (listed.setIfInBounds i true) j=if j=i then true else listedX listed j:=by
 unfold listedX
 rw[Array.getD_eq_getD_getElem?,Array.getD_eq_getD_getElem?,Array.getElem?_setIfInBounds]
 by_cases e:i=j
 ·subst e; simp[hi]
 ·rw[if_neg e,if_neg (fun h=>e h.symm)]
theorem any_run (T:Txt P ops D A HH ρ0 w0) {F:Fence} {n:Nat} (hF:WideF F) {Q:Exit->Act->World->Prop}
  (hA:∀ i,i<ops.size->(D i).bad=true->∀ j,j<ops.size->j≠i->((ancs ops).getD i 0).testBit j=true)
  (hB:∀ i o,ops[i]?=some o->(D i).bad=true->∀ (X X':Nat->Bool) (ρ:Ren) (w:World),(∀ j,j<ops.size->j≠i->X j=true)->Ready ops X X' i o->Inv P ops D A HH ρ0 w0 X ρ w ->
   Region.wanted o (yielded ops (ρ.act (ax ops D (A 0) X ops.size)).tmps)=true/\∀ K:Act->World->Prop,(∀ act w',Q .normal act w'->K act w')->o.wpIn F n P (ρ.act (ax ops D (A 0) X ops.size)) w K Q)
  (hQ:(∀ i,i<ops.size->(D i).bad=false)->∀ ρ1 w1,St P ρ0 (HH 0) w0 ρ1 (HH ops.size) w1->Q .normal (ρ1.act (A ops.size)) w1) :
  ∀ (fuel:Nat) (listed:Array Bool) (ρ:Ren) (w:World),listed.size=ops.size->left ops.size (listedX listed)<=fuel->Closed ops (listedX listed)->(∀ i,listedX listed i=true->(D i).bad=false)->Inv P ops D A HH ρ0 w0 (listedX listed) ρ w ->
   wpAnyIn F n P .any ops Q fuel listed (ρ.act (ax ops D (A 0) (listedX listed) ops.size)) w:=by
 have hend:∀ (listed:Array Bool) (ρ:Ren) (w:World),listed.size=ops.size->(∀ i,listedX listed i=true->(D i).bad=false)->Inv P ops D A HH ρ0 w0 (listedX listed) ρ w->Region.ready .any ops listed=[]->Q .normal (ρ.act (ax ops D (A 0) (listedX listed) ops.size)) w:=by
  intro listed ρ w hsz hb I hr
  obtain⟨h1,h2⟩:=inv_end T (all_run T hsz hr) I
  rw[h2]; exact hQ (fun i hi=>hb i (all_run T hsz hr i hi)) ρ w h1
 intro fuel
 induction fuel with
 |zero =>
  intro listed ρ w hsz hl hc hb I
  have hr:Region.ready .any ops listed=[]:=by
   cases e:Region.ready .any ops listed with
   |nil=>rfl
   |cons i l =>
    obtain⟨hi,hX,_⟩:=mem_ready' hsz (i:=i) (by rw[e]; exact zB9 ..)
    have:i∈(List.range ops.size).filter fun i=>!listedX listed i:=List.mem_filter.2 ⟨List.mem_range.2 hi,by rw[hX]; rfl⟩
    have h0:(List.range ops.size).filter (fun i=>!listedX listed i)=[]:=zD4 (by unfold left at hl; omega)
    rw[h0]at this; cases this
  exact⟨hr,hend listed ρ w hsz hb I hr⟩
 |succ fuel ih =>
  intro listed ρ w hsz hl hc hb I
  refine⟨fun hr=>hend listed ρ w hsz hb I hr,fun i hi=>?_⟩
  obtain⟨hlt,hX,o,ho,hedge⟩:=mem_ready' hsz hi
  have hset:=set_X (listed:=listed) (i:=i) (by omega)
  have r:Ready ops (listedX listed) (listedX (listed.setIfInBounds i true)) i o :=
   ⟨hlt,ho,hX,by rw[hset]; simp,fun j hj=>by rw[hset,if_neg hj],hedge,hc⟩
  have hsz':(listed.setIfInBounds i true).size=ops.size:=by simp[hsz]
  have hl':left ops.size (listedX (listed.setIfInBounds i true))<=fuel:=by
   have:=filt_lt (fun j=>!listedX listed j) (fun j=>!listedX (listed.setIfInBounds i true) j) (List.range ops.size) (fun j _ h=>by
    simp only[Bool.not_eq_true']at h ⊢
    cases e:listedX listed j with
    |false=>rfl
    |true=>have:=r.up j e; rw[h]at this; cases this) i (List.mem_range.2 hlt) (by simp[hX]) (by simp[r.now])
   unfold left at hl ⊢
   omega
  have hc':Closed ops (listedX (listed.setIfInBounds i true)):=by
   intro j oj hoj hXj e he hb
   by_cases hji:j=i
   ·subst hji
    rw[ho]at hoj
    cases hoj
    exact r.up _ (hedge e he hb)
   ·rw[r.rest j hji]at hXj
    exact r.up _ (hc j oj hoj hXj e he hb)
  unfold wpOpIn
  simp only[ho]
  cases hbi:(D i).bad with
  |true =>
   obtain⟨hw,hk⟩:=hB i o ho hbi _ _ ρ w (fun j hj hne=>T.anc_ready r.closed r.at_ r.edges r.lt (hA i hlt hbi j hj hne)) r I
   rw[hw]
   simp only[if_true]
   have hall:∀ j,j<ops.size->listedX (listed.setIfInBounds i true) j=true:=fun j hj=>by
    by_cases e:j=i
    ·rw[e]; exact r.now
    ·rw[r.rest j e]; exact T.anc_ready r.closed r.at_ r.edges r.lt (hA i hlt hbi j hj e)
   have hr0:Region.ready .any ops (listed.setIfInBounds i true)=[]:=by
    cases e:Region.ready .any ops (listed.setIfInBounds i true) with
    |nil=>rfl
    |cons j l =>
     obtain⟨hj,hX,_⟩:=mem_ready' hsz' (i:=j) (by rw[e]; exact zB9 ..)
     rw[hall j hj]at hX; cases hX
   refine hk _ (fun act w' hq=>?_)
   cases fuel with
   |zero=>exact⟨hr0,hq⟩
   |succ fuel=>exact⟨fun _=>hq,fun i hi=>by rw[hr0]at hi; cases hi⟩
  |false =>
  have hb':∀ j,listedX (listed.setIfInBounds i true) j=true->(D j).bad=false:=fun j hj=>by
   by_cases e:j=i
   ·rw[e]; exact hbi
   ·rw[r.rest j e]at hj; exact hb j hj
  rw[r.want T hbi ρ]
  cases hon:(D i).on with
  |false =>
   simp only[zB7,if_false]
   obtain⟨I',ha⟩:=r.off T hon I
   exact⟨fun f _=>hF.fn f,by rw[ha]; exact ih _ ρ w hsz' hl' hc' hb' I'⟩
  |true =>
   simp only[if_true]
   obtain⟨o',f1,f2,f3,f4,f5⟩:=T.fact i hlt
   rw[ho]at f1
   cases f1
   obtain⟨_,_,_,hsa⟩:=T.ex i (by omega)
   refine (f4 hon).1 _ _ (r.rel T hon I) (by rw[(restrict_next _ _).1]; exact hsa) _ (r.evals T ρ) _ _ _ _ hF ?_
   intro ρ1 w1 s _
   obtain⟨I',ha⟩:=r.on T hon I s
   rw[ha]
   exact ih _ _ w1 hsz' hl' hc' hb' I'
end
section
variable {P : Program} {ρ : Ren} {H : AHeap} {w : World}
theorem runDraw_run {rec:Rec} (hmix:P.follows .mixedOrders=true) (hrec:Sound P rec) {ops:Array Oper} {id:Nat} (hst:staticOk ops=true) {a a1:AAct} {H1:AHeap} (h:runDraw P rec ops (ancs ops) ops.toList 0 [] a H=some (a1,H1)) (r:Rel P ρ H w) (hs:scA H.next a)
  {F:Fence} {n:Nat} {Q:Exit->Act->World->Prop} (hF:WideF F) (hQ:∀ ρ1 w1,St P ρ H w ρ1 H1 w1->scA H1.next a1->Q .normal (ρ1.act a1) w1):(Code.region id ops true).wpIn F n P Q (ρ.act a) w:=by
 obtain⟨D,A,HH,e1,e2,e3,e4,f1,f2,_,hnb⟩:=runDraw_text hrec ops.toList 0 [] a H a1 H1 ⟨[],by simp⟩ h
 simp only[zC0,Array.length_toList]at e3 e4 f1 f2
 have hfact:∀ i,i<ops.size->OpFact P ops D A HH i:=fun i hi=>f1 i (zA9 _) hi
 have hex:=text_ex r (ops:=ops) (D:=D) (A:=A) (HH:=HH) (m:=ops.size) e2 (by rw[e1]; exact hs) hfact
 have T:Txt P ops D A HH ρ w:=by
  refine⟨by rw[e2]; exact r,by rw[e2,e1]; exact hs,hfact,fun i j hij hj hi=>f2 i j (zA9 _) hij hj hi,fun j oj hoj=>static_spec ops.toList 0 (by simp) hst j oj (zA9 _) hoj,?_⟩
  rw[e2]; exact hex
 obtain⟨ρm,wm,hstm,hsa⟩:=hex ops.size (zA8 _)
 rw[e3,e4]at hsa
 refine wpIn_region_any hmix ?_
 have hX0:∀ j,listedX (Array.replicate ops.size false) j=false:=fun j=>by
  unfold listedX
  rw[Array.getD_eq_getD_getElem?,Array.getElem?_replicate]
  split<;>rfl
 obtain⟨I,ha⟩:=inv_start (w:={w with drawn:=w.drawn+1}) T hX0 rfl rfl rfl rfl
 have:=any_run T (n:=n) hF (Q:=Q) (fun i hi h=>by rw[hnb]at h; cases h) (fun i o hi h=>by rw[hnb]at h; cases h) (fun _ ρ1 w1 h1=>by
  rw[e2,e4]at h1
  rw[e3]
  exact hQ ρ1 w1 h1 hsa) ops.size (Array.replicate ops.size false) ρ _ (by simp) (by unfold left; exact zB8 (List.length_filter_le _ _) (by simp)) (fun j oj _ hX=>by rw[hX0]at hX; cases hX) (fun j _=>hnb j) I
 rw[ha,e1]at this
 exact this
theorem panic_core (hmix:P.follows .mixedOrders=true) {ops:Array Oper} {id:Nat} (hst:staticOk ops=true) {a a2:AAct} {ch:List PanicEntry} {H2 H3:AHeap} {l:List Oper} {o:Oper} (hsplit:ops.toList=l++[o])
  (hanc:(List.range (ops.size-1)).all (fun j=>((ancs ops).getD (ops.size-1) 0).testBit j)=true) {D0:Nat->OpD} {A0:Nat->AAct} {HH0:Nat->AHeap} (e1:A0 0=a) (e2:HH0 0=H) (e3:A0 (0+l.length)=a2) (e4:HH0 (0+l.length)=H2)
  (f1:∀ i,0<=i->i<0+l.length->OpFact P ops D0 A0 HH0 i) (f2:∀ i j,0<=i->i<j->j<0+l.length->(D0 i).on=true->PairFact (ancs ops) D0 HH0 j (fpAt D0 HH0 i)) (hnb:∀ i,(D0 i).bad=false)
  (hwant:wantA ops a2 o=some true) (hop:OpS P a2 H2 o (.error ch) H3) (r:Rel P ρ H w) (hs:scA H.next a)
  {F:Fence} {n:Nat} {Q:Exit->Act->World->Prop} (hF:WideF F) (hQ:∀ ρ1 w1,St P ρ H w ρ1 H3 w1->scA H3.next a2->scX H3.next (.panic ch)->Q (ρ1.exit (.panic ch)) (ρ1.act a2) w1):(Code.region id ops true).wpIn F n P Q (ρ.act a) w:=by
 have hsz:ops.size=l.length+1:=by
  rw[<-Array.length_toList]
  conv=>lhs; rw[hsplit]
  simp
 obtain⟨m,hm⟩:=Go.Ax.exq l.length
 rw[hm]at hsz e3 e4 f1 f2
 simp only[zC0]at e3 e4 f1 f2
 have hom:ops[m]?=some o:=by
  rw[<-Array.getElem?_toList,hsplit,List.getElem?_append_right (by omega),hm]
  simp
 have hD:∀ i,i≠m->(fun i=>if i=m then (⟨false,undef,[],H2,true⟩:OpD) else D0 i) i=D0 i:=fun i h=>if_neg h
 obtain⟨D,hDe⟩:∃ D:Nat->OpD,D=fun i=>if i=m then⟨false,undef,[],H2,true⟩ else D0 i:=⟨_,rfl⟩
 obtain⟨A,hAe⟩:∃ A:Nat->AAct,A=fun i=>if i=m+1 then a2.put o.dst undef else A0 i:=⟨_,rfl⟩
 obtain⟨HH,hHe⟩:∃ HH:Nat->AHeap,HH=fun i=>if i=m+1 then H2 else HH0 i:=⟨_,rfl⟩
 have dm:D m=⟨false,undef,[],H2,true⟩:=by rw[hDe]; simp
 have dn:∀ i,i≠m->D i=D0 i:=fun i h=>by rw[hDe]; simp[h]
 have am:A (m+1)=a2.put o.dst undef:=by rw[hAe]; simp
 have an:∀ i,i≠m+1->A i=A0 i:=fun i h=>by rw[hAe]; simp[h]
 have xm:HH (m+1)=H2:=by rw[hHe]; simp
 have xn:∀ i,i≠m+1->HH i=HH0 i:=fun i h=>by rw[hHe]; simp[h]
 clear hD hDe hAe hHe
 have am0:A m=a2:=by rw[an m (by omega)]; exact e3
 have xm0:HH m=H2:=by rw[xn m (by omega)]; exact e4
 have a00:A 0=a:=by rw[an 0 (by omega)]; exact e1
 have x00:HH 0=H:=by rw[xn 0 (by omega)]; exact e2
 have hfact:∀ i,i<ops.size->OpFact P ops D A HH i:=fun i hi=>by
  by_cases e:i=m
  ·subst e
   exact⟨o,hom,by rw[am,am0,dm],fun h=>(by rw[dm]at h; cases h),fun h=>(by rw[dm]at h; cases h),fun _=>⟨by rw[dm],by rw[xm,xm0]⟩⟩
  ·obtain⟨o',g1,g2,g3,g4,g5⟩:=f1 i (zA9 _) (by omega)
   refine⟨o',g1,?_,?_,?_,?_⟩
   ·rw[an _ (by omega),an _ (by omega),dn i e]; exact g2
   ·rw[an _ (by omega),dn i e]; exact g3
   ·rw[an _ (by omega),dn i e,xn _ (by omega),xn _ (by omega)]; exact g4
   ·rw[dn i e,xn _ (by omega),xn _ (by omega)]; exact g5
 have hex:=text_ex r (ops:=ops) (D:=D) (A:=A) (HH:=HH) (m:=ops.size) x00 (by rw[a00]; exact hs) hfact
 have T:Txt P ops D A HH ρ w:=by
  refine⟨by rw[x00]; exact r,by rw[x00,a00]; exact hs,hfact,fun i j hij hj hi=>?_,fun j oj hoj=>static_spec ops.toList 0 (by simp) hst j oj (zA9 _) hoj,?_⟩
  ·by_cases e:j=m
   ·intro h; rw[e,dm]at h; cases h
   ·have:=f2 i j (zA9 _) hij (by omega) (by rw[<-dn i (by omega)]; exact hi)
    simp only[PairFact,fpAt,dn j e,dn i (by omega),xn i (by omega),xn j (by omega)]at this ⊢
    exact this
  ·rw[x00]; exact hex
 obtain⟨ρm,wm,hstm,hsa⟩:=hex m (by omega)
 rw[am0,xm0]at hsa
 have hsx:HH ops.size=H2:=by rw[hsz,xm]
 refine wpIn_region_any hmix ?_
 have hX0:∀ j,listedX (Array.replicate ops.size false) j=false:=fun j=>by
  unfold listedX
  rw[Array.getD_eq_getD_getElem?,Array.getElem?_replicate]
  split<;>rfl
 obtain⟨I,ha⟩:=inv_start (w:={w with drawn:=w.drawn+1}) T hX0 rfl rfl rfl rfl
 have hbm:∀ i,(D i).bad=true->i=m:=fun i h=>by
  by_cases e:i=m
  ·exact e
  ·rw[dn i e,hnb]at h; cases h
 have:=any_run T (n:=n) hF (Q:=Q) (fun i hi h j hj hne=>?_) (fun i o' ho' h X X' ρ1 w1 hX r' I=>?_) (fun hall=>by have:=hall m (by omega); rw[dm]at this; cases this) ops.size (Array.replicate ops.size false) ρ _ (by simp) (by unfold left; exact zB8 (List.length_filter_le _ _) (by simp)) (fun j oj _ hX=>by rw[hX0]at hX; cases hX) (fun j hj=>by rw[hX0]at hj; cases hj) I
 ·rw[ha,a00]at this
  exact this
 ·obtain rfl:=hbm i h
  have:=zC4.1 hanc j (List.mem_range.2 (by omega))
  rw[show ops.size-1=i by omega]at this
  exact this
 ·obtain rfl:=hbm i h
  rw[hom]at ho'
  obtain rfl:=Option.some.inj ho'
  obtain⟨I',_⟩:=r'.off T (by rw[dm]) I
  obtain⟨hst1,_⟩:=inv_end T (fun j hj=>by
   by_cases e:j=i
   ·rw[e]; exact r'.now
   ·rw[r'.rest j e]; exact hX j hj e) I'
  rw[x00,hsx]at hst1
  have hact:ρ1.act (ax ops D (A 0) X ops.size)=ρ1.act a2:=by
   rw[<-am0]
   obtain⟨q1,q2⟩:=ax_n (ops:=ops) (D:=D) (a:=A 0) (X:=X) ops.size
   obtain⟨z1,z2⟩:=T.env_n (k:=i) (by omega)
   refine act_same _ _ (by rw[q1,z1]) (by rw[q2,z2]) (fun t ht=>?_)
   rw[z1]at ht
   rw[ax_congr (Y:=fun j=>decide (j<i)) ht ops.size (fun j hj _=>?_),ax_upto ht ops.size (by omega),T.ax_all i (by omega)]
   by_cases e:j=i
   ·rw[e,r'.not]; simp
   ·rw[hX j hj e]; exact (decide_eq_true (by omega)).symm
  rw[hact]
  refine⟨want_run ρ1 hwant,fun K _=>hop ρ1 w1 hst1.rel hsa (ρ1.act a2) (fun _ _=>rfl) F n K Q hF (fun ρ2 w2 hst2 hp=>?_)⟩
  have:=hQ ρ2 w2 (hst1.trans hst2) (hsa.mono hst2.le.next) hp
  rw[act_ext hst2.ext hsa]at this
  exact this
theorem last_core (hmix:P.follows .mixedOrders=true) {ops:Array Oper} {id:Nat} (hst:staticOk ops=true) {a a2:AAct} {v:Value} {H2 H3:AHeap} {l:List Oper} {o:Oper} (hsplit:ops.toList=l++[o])
  (hanc:(List.range (ops.size-1)).all (fun j=>((ancs ops).getD (ops.size-1) 0).testBit j)=true) {D0:Nat->OpD} {A0:Nat->AAct} {HH0:Nat->AHeap} (e1:A0 0=a) (e2:HH0 0=H) (e3:A0 (0+l.length)=a2) (e4:HH0 (0+l.length)=H2)
  (f1:∀ i,0<=i->i<0+l.length->OpFact P ops D0 A0 HH0 i) (f2:∀ i j,0<=i->i<j->j<0+l.length->(D0 i).on=true->PairFact (ancs ops) D0 HH0 j (fpAt D0 HH0 i)) (hnb:∀ i,(D0 i).bad=false)
  (hwant:wantA ops a2 o=some true) (hop:OpS P a2 H2 o (.ok v) H3) (r:Rel P ρ H w) (hs:scA H.next a)
  {F:Fence} {n:Nat} {Q:Exit->Act->World->Prop} (hF:WideF F) (hQ:∀ ρ1 w1,St P ρ H w ρ1 H3 w1->scA H3.next (a2.put o.dst v)->Q .normal (ρ1.act (a2.put o.dst v)) w1):(Code.region id ops true).wpIn F n P Q (ρ.act a) w:=by
 have hsz:ops.size=l.length+1:=by
  rw[<-Array.length_toList]
  conv=>lhs; rw[hsplit]
  simp
 obtain⟨m,hm⟩:=Go.Ax.exq l.length
 rw[hm]at hsz e3 e4 f1 f2
 simp only[zC0]at e3 e4 f1 f2
 have hom:ops[m]?=some o:=by
  rw[<-Array.getElem?_toList,hsplit,List.getElem?_append_right (by omega),hm]
  simp
 have hD:∀ i,i≠m->(fun i=>if i=m then (⟨false,undef,[],H2,true⟩:OpD) else D0 i) i=D0 i:=fun i h=>if_neg h
 obtain⟨D,hDe⟩:∃ D:Nat->OpD,D=fun i=>if i=m then⟨false,undef,[],H2,true⟩ else D0 i:=⟨_,rfl⟩
 obtain⟨A,hAe⟩:∃ A:Nat->AAct,A=fun i=>if i=m+1 then a2.put o.dst undef else A0 i:=⟨_,rfl⟩
 obtain⟨HH,hHe⟩:∃ HH:Nat->AHeap,HH=fun i=>if i=m+1 then H2 else HH0 i:=⟨_,rfl⟩
 have dm:D m=⟨false,undef,[],H2,true⟩:=by rw[hDe]; simp
 have dn:∀ i,i≠m->D i=D0 i:=fun i h=>by rw[hDe]; simp[h]
 have am:A (m+1)=a2.put o.dst undef:=by rw[hAe]; simp
 have an:∀ i,i≠m+1->A i=A0 i:=fun i h=>by rw[hAe]; simp[h]
 have xm:HH (m+1)=H2:=by rw[hHe]; simp
 have xn:∀ i,i≠m+1->HH i=HH0 i:=fun i h=>by rw[hHe]; simp[h]
 clear hD hDe hAe hHe
 have am0:A m=a2:=by rw[an m (by omega)]; exact e3
 have xm0:HH m=H2:=by rw[xn m (by omega)]; exact e4
 have a00:A 0=a:=by rw[an 0 (by omega)]; exact e1
 have x00:HH 0=H:=by rw[xn 0 (by omega)]; exact e2
 have hfact:∀ i,i<ops.size->OpFact P ops D A HH i:=fun i hi=>by
  by_cases e:i=m
  ·subst e
   exact⟨o,hom,by rw[am,am0,dm],fun h=>(by rw[dm]at h; cases h),fun h=>(by rw[dm]at h; cases h),fun _=>⟨by rw[dm],by rw[xm,xm0]⟩⟩
  ·obtain⟨o',g1,g2,g3,g4,g5⟩:=f1 i (zA9 _) (by omega)
   refine⟨o',g1,?_,?_,?_,?_⟩
   ·rw[an _ (by omega),an _ (by omega),dn i e]; exact g2
   ·rw[an _ (by omega),dn i e]; exact g3
   ·rw[an _ (by omega),dn i e,xn _ (by omega),xn _ (by omega)]; exact g4
   ·rw[dn i e,xn _ (by omega),xn _ (by omega)]; exact g5
 have hex:=text_ex r (ops:=ops) (D:=D) (A:=A) (HH:=HH) (m:=ops.size) x00 (by rw[a00]; exact hs) hfact
 have T:Txt P ops D A HH ρ w:=by
  refine⟨by rw[x00]; exact r,by rw[x00,a00]; exact hs,hfact,fun i j hij hj hi=>?_,fun j oj hoj=>static_spec ops.toList 0 (by simp) hst j oj (zA9 _) hoj,?_⟩
  ·by_cases e:j=m
   ·intro h; rw[e,dm]at h; cases h
   ·have:=f2 i j (zA9 _) hij (by omega) (by rw[<-dn i (by omega)]; exact hi)
    simp only[PairFact,fpAt,dn j e,dn i (by omega),xn i (by omega),xn j (by omega)]at this ⊢
    exact this
  ·rw[x00]; exact hex
 obtain⟨ρm,wm,hstm,hsa⟩:=hex m (by omega)
 rw[am0,xm0]at hsa
 have hsx:HH ops.size=H2:=by rw[hsz,xm]
 refine wpIn_region_any hmix ?_
 have hX0:∀ j,listedX (Array.replicate ops.size false) j=false:=fun j=>by
  unfold listedX
  rw[Array.getD_eq_getD_getElem?,Array.getElem?_replicate]
  split<;>rfl
 obtain⟨I,ha⟩:=inv_start (w:={w with drawn:=w.drawn+1}) T hX0 rfl rfl rfl rfl
 have hbm:∀ i,(D i).bad=true->i=m:=fun i h=>by
  by_cases e:i=m
  ·exact e
  ·rw[dn i e,hnb]at h; cases h
 have:=any_run T (n:=n) hF (Q:=Q) (fun i hi h j hj hne=>?_) (fun i o' ho' h X X' ρ1 w1 hX r' I=>?_) (fun hall=>by have:=hall m (by omega); rw[dm]at this; cases this) ops.size (Array.replicate ops.size false) ρ _ (by simp) (by unfold left; exact zB8 (List.length_filter_le _ _) (by simp)) (fun j oj _ hX=>by rw[hX0]at hX; cases hX) (fun j hj=>by rw[hX0]at hj; cases hj) I
 ·rw[ha,a00]at this
  exact this
 ·obtain rfl:=hbm i h
  have:=zC4.1 hanc j (List.mem_range.2 (by omega))
  rw[show ops.size-1=i by omega]at this
  exact this
 ·obtain rfl:=hbm i h
  rw[hom]at ho'
  obtain rfl:=Option.some.inj ho'
  obtain⟨I',_⟩:=r'.off T (by rw[dm]) I
  obtain⟨hst1,_⟩:=inv_end T (fun j hj=>by
   by_cases e:j=i
   ·rw[e]; exact r'.now
   ·rw[r'.rest j e]; exact hX j hj e) I'
  rw[x00,hsx]at hst1
  have hact:ρ1.act (ax ops D (A 0) X ops.size)=ρ1.act a2:=by
   rw[<-am0]
   obtain⟨q1,q2⟩:=ax_n (ops:=ops) (D:=D) (a:=A 0) (X:=X) ops.size
   obtain⟨z1,z2⟩:=T.env_n (k:=i) (by omega)
   refine act_same _ _ (by rw[q1,z1]) (by rw[q2,z2]) (fun t ht=>?_)
   rw[z1]at ht
   rw[ax_congr (Y:=fun j=>decide (j<i)) ht ops.size (fun j hj _=>?_),ax_upto ht ops.size (by omega),T.ax_all i (by omega)]
   by_cases e:j=i
   ·rw[e,r'.not]; simp
   ·rw[hX j hj e]; exact (decide_eq_true (by omega)).symm
  rw[hact]
  refine⟨want_run ρ1 hwant,fun K hK=>hop ρ1 w1 hst1.rel hsa (ρ1.act a2) (fun _ _=>rfl) F n K Q hF (fun ρ2 w2 hst2 hp=>?_)⟩
  rw[<-act_ext hst2.ext hsa,act_put]
  exact hK _ _ (hQ ρ2 w2 (hst1.trans hst2) ((hsa.mono hst2.le.next).put _ hp))
theorem drawPanic_run {rec:Rec} (hmix:P.follows .mixedOrders=true) (hrec:Sound P rec) {ops:Array Oper} {id:Nat} (hst:staticOk ops=true) {a a1:AAct} {e:Exit} {H1:AHeap} (h:drawPanic P rec ops a H=some (e,a1,H1)) (r:Rel P ρ H w) (hs:scA H.next a)
  {F:Fence} {n:Nat} {Q:Exit->Act->World->Prop} (hF:WideF F) (hQ:∀ ρ1 w1,St P ρ H w ρ1 H1 w1->scA H1.next a1->scX H1.next e->Q (ρ1.exit e) (ρ1.act a1) w1):(Code.region id ops true).wpIn F n P Q (ρ.act a) w:=by
 unfold drawPanic at h
 split at h
 ·rename_i o a2 H2 hlast hrun
  split at h
  ·rename_i hanc
   split at h
   ·rename_i ch H3 hwant hop
    simp only[Option.some.injEq,Prod.mk.injEq]at h
    obtain⟨rfl,rfl,rfl⟩:=h
    have hsplit:ops.toList=ops.toList.dropLast++[o]:=by
     obtain⟨ys,hys⟩:=List.getLast?_eq_some_iff.1 hlast
     rw[hys,List.dropLast_concat]
    obtain⟨D0,A0,HH0,e1,e2,e3,e4,f1,f2,_,hnb⟩:=runDraw_text hrec ops.toList.dropLast 0 [] a H a2 H2 ⟨[o],by simpa using hsplit⟩ hrun
    exact panic_core hmix hst hsplit hanc e1 e2 e3 e4 f1 f2 hnb hwant (opF_opS hrec hop) r hs hF hQ
   ·cases h
  ·cases h
 ·cases h
theorem rangeG_run {rec:Rec} (hrec:Sound P rec) {ro:Option Nat} {g:Operand} {fv:Value} {ps:Array Tmp} {assign body:Code} {a a1:AAct} {e:Exit} {H1:AHeap} (hg:aeval P a g=some fv)
  (h:rangeG P rec ro fv ps assign body a H=some (e,a1,H1)) (r:Rel P ρ H w) (hs:scA H.next a) (hro:∀ l,ro=some l->l<H.next)
  {F:Fence} {n:Nat} {Q:Exit->Act->World->Prop} (hF:WideF F) (hFr:F.round=ro.map ρ.blk) (hQ:∀ ρ1 w1,St P ρ H w ρ1 H1 w1->scA H1.next a1->scX H1.next e->Q (ρ1.exit e) (ρ1.act a1) w1) :
  (Code.rangeFunc g ps assign body).wpIn F n P Q (ρ.act a) w:=by
 unfold rangeG at h
 split at h
 ·rename_i fn first captured
  simp only[zA1,zA2]at h
  obtain⟨⟨l,mark,H2⟩,hen,res,hres,h⟩:=h
  simp only at hres h
  split at h
  ·rename_i f args
   simp only[zA2]at h
   obtain⟨⟨out,H3⟩,hcall,haft⟩:=h
   refine wpIn_rangeFunc (fun fnid _=>?_)
   obtain⟨ρ1,w1,s1,hrun,hl,hmk⟩:=enterLoop_run r hro hs.1 hen fnid
   obtain⟨ρ2,w2,s2,hinv⟩:=aInvoke_run s1.rel hres
   have hfsc:=aeval_sc r.glob.1 hs hg
   have hf2:=func_sc (scb_mono s1.le.next _ hfsc)
   have hsargs:scbL H2.next args=true:=aInvoke_sc s1.rel.doms hf2.1 (scbL_append hf2.2.1 (by simp only[scbL,scb,scbA,Bool.and_true]; exact blt_of hl)) hf2.2.2 hres
   have hfv:(ρ.act a).eval g=ρ1.val (.func fn first captured):=by rw[aeval_run r hg,val_ext s1.ext _ hfsc]
   have e1:ρ1.val (.func fn first captured)=.func (ρ1.fn fn) (first.map ρ1.val) (captured.map ρ1.val):=by rw[Ren.val,Ren.valA_eq,Ren.valA_eq]
   have e2:first.map ρ1.val++#[(.func (.yield (ρ1.blk l)) #[] #[]:Value)]=((first.toList++[(.func (.yield l) #[] #[]:Value)]).map ρ1.val).toArray:=by
    apply Array.ext'
    simp[Ren.val,Ren.fn,Ren.valA,Ren.valL]
   have e3:captured.map ρ1.val=(captured.toList.map ρ1.val).toArray:=by apply Array.ext'; simp
   simp only[NRun]at hinv
   have hs1:scA H2.next a:=hs.mono s1.le.next
   have hs2:scA H2.next {a with defers:=mark++a.defers}:=⟨hs1.1,fun d hd=>by
    rcases zC9.1 hd with hd|hd
    ·exact hmk d hd
    ·exact hs1.2 d hd⟩
   have hsame:({ρ.act a with defers:=mark.map ρ1.dfr++(ρ.act a).defers}:Act)=ρ1.act {a with defers:=mark++a.defers}:=by
    have h1:=act_ext s1.ext hs
    have h2:(ρ.act a).tmps=ρ1.tmps a.env:=by rw[<-h1]; rfl
    have h3:(ρ.act a).defers=a.defers.map ρ1.dfr:=by rw[<-h1]; rfl
    show (⟨(ρ.act a).tmps,mark.map ρ1.dfr++(ρ.act a).defers⟩:Act)=⟨ρ1.tmps a.env,(mark++a.defers).map ρ1.dfr⟩
    rw[h2,h3,List.map_append]
   refine⟨ρ1.blk l,mark.map ρ1.dfr,w1,{target:=.fn (ρ1.fn fn) (captured.map ρ1.val),args:=first.map ρ1.val++#[(.func (.yield (ρ1.blk l)) #[] #[]:Value)]},w1,f,_,w2,?_,?_,fun f' _=>hF.fn f',?_,hF.deep,callF_run hrec s2.rel hcall hsargs hF ?_⟩
   ·rw[hFr]; exact hrun
   ·simp only[resolve,hfv,e1]
    simp[Act.eval,Deferred.ofValue]
   ·simp only[e2,e3]; exact hinv
   ·intro ρ3 w3 s3
    have hn2:H2.next<=H3.next:=(s2.trans s3).le.next
    have hlb:ρ3.blk l=ρ1.blk l:=((s2.trans s3).ext.blk l hl)
    have hs3:scA H3.next {a with defers:=mark++a.defers}:=hs2.mono hn2
    have hact3:ρ3.act {a with defers:=mark++a.defers}=ρ1.act {a with defers:=mark++a.defers}:=act_ext (s2.trans s3).ext hs2
    have stot:=(s1.trans s2).trans s3
    cases out with
    |ok v =>
     simp only[afterRange,zA1,zA2]at haft
     obtain⟨⟨lp,le⟩,hlp,haft⟩:=haft
     simp only at haft
     have hnb:lp.state≠.busy:=by intro hb; rw[hb]at haft; cases haft
     obtain⟨fn3,hgl,w4,hset,s4⟩:=setLoop_run s3.rel (lp':={lp with state:=.exhausted}) hlp rfl
     rw[hlb]at hgl hset
     have hn4:(setLoop H3 l {lp with state:=.exhausted} le).next=H3.next:=rfl
     have hendl:(Instr.endLoop (ρ1.blk l)).run P w3=.ok lp.pending w4:=by
      have hb:(lp.state == .busy)=false:=by simpa using hnb
      simp only[Instr.endLoop,Sem.run_bind,hgl,Result.andThen_ok,hb,zB7,if_false]
      rw[show ({({lp with fn:=fn3,tmps:=ρ3.tmps le,defers:=ρ3.blk lp.defers}:Loop) with state:=.exhausted}:Loop) =
       {({lp with state:=.exhausted}:Loop) with fn:=fn3,tmps:=ρ3.tmps le,defers:=ρ3.blk lp.defers} from rfl,hset]
      simp
     intro _
     refine⟨lp.pending,w4,hendl,?_⟩
     rw[hsame,<-hact3]
     have hcase:(match lp.pending with
       |none=>some (Exit.normal,({a with defers:=mark++a.defers}:AAct),setLoop H3 l {lp with state:=.exhausted} le)
       |some c=>rec.run ro c {a with defers:=mark++a.defers} (setLoop H3 l {lp with state:=.exhausted} le))=some (e,a1,H1):=by
      cases hst:lp.state with
      |busy=>exact absurd hst hnb
      |ready=>rw[hst]at haft; exact haft
      |done=>rw[hst]at haft; exact haft
      |exhausted=>rw[hst]at haft; exact haft
     generalize setLoop H3 l {lp with state:=.exhausted} le=H4 at s4 hn4 hcase
     split
     ·rename_i hp
      rw[hp]at hcase
      simp only[Option.some.injEq,Prod.mk.injEq]at hcase
      obtain⟨rfl,rfl,rfl⟩:=hcase
      exact hQ ρ3 w4 (stot.trans s4) (hs3.mono (Nat.le_of_eq hn4.symm)) trivial
     ·rename_i c hp
      rw[hp]at hcase
      have hro4:∀ l0,ro=some l0->l0<H4.next:=fun l0 h0=>by
       rw[hn4]; exact zC3 (hro l0 h0) stot.le.next
      have hFr4:F.round=ro.map ρ3.blk:=by
       rw[hFr]
       cases ro with
       |none=>rfl
       |some l0=>simp only[zA5]; rw[stot.ext.blk l0 (hro l0 rfl)]
      refine hrec.run ro c _ _ e a1 H1 hcase ρ3 w4 F n Q hF hFr4 hro4 s4.rel (hs3.mono (Nat.le_of_eq hn4.symm)) ?_
      intro ρ5 w5 s5 h1 h2
      exact hQ ρ5 w5 ((stot.trans s4).trans s5) h1 h2
    |error ch =>
     intro hch
     simp only[afterRange,Option.some.injEq,Prod.mk.injEq]at haft
     obtain⟨rfl,rfl,rfl⟩:=haft
     show Q (.panic (ch.map ρ3.pe)) _ w3
     rw[hsame,<-hact3]
     exact hQ ρ3 w3 stot hs3 hch
  ·cases h
 ·cases h
theorem stepR_scope {b:Frame} {a:Act} {k:List Item} {cs:List Frame} {c:Code}:Go.step P (lone (b.atR a (.code (.scope c)::k)) cs w)=.next (lone (b.atR a (.code c::.inScope c::k)) cs w) :=
 step_lone_go (by simp[stepG,stepG.exec,Frame.atR])
theorem stepR_inScope {b:Frame} {a:Act} {k:List Item} {cs:List Frame} {c:Code}:Go.step P (lone (b.atR a (.inScope c::k)) cs w)=.next (lone (b.atR a k) cs w) :=
 step_lone_go (by simp[stepG,stepG.exec,Frame.atR])
theorem wpIn_scope {F:Fence} {n:Nat} {Q:Exit->Act->World->Prop} {a:Act} {c:Code} (h:c.wpIn F n P (Exit.noGoto Q) a w):(Code.scope c).wpIn F n P Q a w:=by
 intro b k cs hro hb hr
 have h0:(lone (b.atR a (.code (.scope c)::k)) cs w).fenced P F:=fenced_calm hb hr rfl
 obtain⟨e,a₁,w₁,hq,harr⟩:=h b (.inScope c::k) cs hro hb hr
 cases e with
 |normal=>exact⟨.normal,a₁,w₁,hq,.head h0 stepR_scope (StepsIn.trans harr (.one (fenced_calm hb hr rfl) stepR_inScope))⟩
 |exit id =>
  have hx:exitTo id (.inScope c::k)=exitTo id k:=by simp[exitTo]
  exact⟨.exit id,a₁,w₁,hq,fun k' hk=>.head h0 stepR_scope (harr.1 k' (by rw[hx]; exact hk)),
    fun hr' hk=>let ⟨k₁,h1,h2⟩:=harr.2 hr' (by rw[hx]; exact hk); ⟨k₁,h1,.head h0 stepR_scope h2⟩⟩
 |goto l=>exact hq.elim
 |ret=>exact⟨_,a₁,w₁,hq,.of_steps (.one h0 stepR_scope) harr⟩
 |panic ch=>exact⟨_,a₁,w₁,hq,.of_steps (.one h0 stepR_scope) harr⟩
 |outgrown=>exact⟨_,a₁,w₁,hq,.of_steps (.one h0 stepR_scope) harr⟩
def LoopSound (P:Program) (rec:Rec) (m:Nat):Prop :=
 ∀ (ro:Option Nat) (b:Code) (a:AAct) (H:AHeap) (e:Exit) (a1:AAct) (H1:AHeap),rec.run ro (.loop b) a H=some (e,a1,H1) ->
  ∀ (ρ:Ren) (w:World) (F:Fence) (n:Nat) (Q:Exit->Act->World->Prop),WideF F->F.round=ro.map ρ.blk->(∀ l,ro=some l->l<H.next)->Rel P ρ H w->scA H.next a ->
   (∀ ρ1 w1,St P ρ H w ρ1 H1 w1->scA H1.next a1->scX H1.next e->Q (ρ1.exit e) (ρ1.act a1) w1)->Code.roundsIn F n P b Q m (ρ.act a) w
theorem loop_sound {rec:Rec} (hrec:Sound P rec) {m:Nat} (hl:LoopSound P rec m):LoopSound P ⟨fun ro c a H=>step c P rec ro a H,rec.know⟩ (m+1):=by
 intro ro b a H e a1 H1 h ρ w F n Q hF hFr hro r hs hQ
 simp only[step,stLoop]at h
 rw[roundsIn_succ]
 split at h
 ·rename_i a2 H2 hx
  refine hrec.run ro b a H .normal a2 H2 hx ρ w F n _ hF hFr hro r hs ?_
  intro ρ1 w1 s1 h1 _
  have hFr1:F.round=ro.map ρ1.blk:=by
   rw[hFr]
   cases ro with
   |none=>rfl
   |some l0=>simp only[zA5]; rw[s1.ext.blk l0 (hro l0 rfl)]
  refine hl ro b a2 H2 e a1 H1 h ρ1 w1 F n Q hF hFr1 (fun l hl=>zC3 (hro l hl) s1.le.next) s1.rel h1 ?_
  intro ρ2 w2 s2 h2 h3
  exact hQ ρ2 w2 (s1.trans s2) h2 h3
 ·rename_i hne
  refine hrec.run ro b a H e a1 H1 h ρ w F n _ hF hFr hro r hs ?_
  intro ρ1 w1 s1 h1 h2
  have:=hQ ρ1 w1 s1 h1 h2
  cases e with
  |normal=>exact absurd h (hne a1 H1)
  |_=>exact this
theorem step_sound (hmix:P.follows .mixedOrders=true) {rec:Rec} (hrec:Sound P rec) {m:Nat} (hl:LoopSound P rec m):Sound P ⟨fun ro c a H=>step c P rec ro a H,rec.know⟩:=by
 refine⟨?_,hrec.know⟩
 intro ro c a H e a1 H1 h ρ w F n Q hF hFr hro r hs hQ
 simp only at h
 cases c with
 |skip =>
  simp only[step,stEnd,Option.some.injEq,Prod.mk.injEq]at h
  obtain⟨rfl,rfl,rfl⟩:=h
  exact wpIn_skip (hQ ρ w (St.refl r) hs trivial)
 |label l =>
  simp only[step,stEnd,Option.some.injEq,Prod.mk.injEq]at h
  obtain⟨rfl,rfl,rfl⟩:=h
  exact wpIn_label (hQ ρ w (St.refl r) hs trivial)
 |exit id =>
  simp only[step,stEnd,Option.some.injEq,Prod.mk.injEq]at h
  obtain⟨rfl,rfl,rfl⟩:=h
  exact wpIn_exit (hQ ρ w (St.refl r) hs trivial)
 |goto l =>
  simp only[step,stEnd,Option.some.injEq,Prod.mk.injEq]at h
  obtain⟨rfl,rfl,rfl⟩:=h
  exact wpIn_goto (hQ ρ w (St.refl r) hs trivial)
 |ret =>
  simp only[step,stEnd,Option.some.injEq,Prod.mk.injEq]at h
  obtain⟨rfl,rfl,rfl⟩:=h
  exact wpIn_ret (hQ ρ w (St.refl r) hs trivial)
 |seq x y =>
  simp only[step,stSeq]at h
  refine wpIn_seq ?_
  split at h
  ·rename_i a2 H2 hx
   refine hrec.run ro x a H .normal a2 H2 hx ρ w F n _ hF hFr hro r hs ?_
   intro ρ1 w1 s1 h1 _
   have hFr1:F.round=ro.map ρ1.blk:=by
    rw[hFr]
    cases ro with
    |none=>rfl
    |some l0=>simp only[zA5]; rw[s1.ext.blk l0 (hro l0 rfl)]
   refine hrec.run ro y a2 H2 e a1 H1 h ρ1 w1 F n Q hF hFr1 (fun l hl=>zC3 (hro l hl) s1.le.next) s1.rel h1 ?_
   intro ρ2 w2 s2 h2 h3
   exact hQ ρ2 w2 (s1.trans s2) h2 h3
  ·rename_i hne
   refine hrec.run ro x a H e a1 H1 h ρ w F n _ hF hFr hro r hs ?_
   intro ρ1 w1 s1 h1 h2
   have:=hQ ρ1 w1 s1 h1 h2
   cases e with
   |normal=>exact absurd h (hne a1 H1)
   |_=>exact this
 |cond c x y =>
  simp only[step,stCond]at h
  split at h
  ·rename_i hc
   refine wpIn_cond_true (by rw[aeval_run r hc]; simp[Ren.val]) ?_
   exact hrec.run ro x a H e a1 H1 h ρ w F n Q hF hFr hro r hs hQ
  ·rename_i hc
   refine wpIn_cond_false (by rw[aeval_run r hc]; simp[Ren.val]) ?_
   exact hrec.run ro y a H e a1 H1 h ρ w F n Q hF hFr hro r hs hQ
  ·cases h
 |block id b =>
  simp only[step,stBlock]at h
  refine wpIn_block ?_
  split at h
  ·rename_i k a2 H2 hb
   refine hrec.run ro b a H (.exit k) a2 H2 hb ρ w F n _ hF hFr hro r hs ?_
   intro ρ1 w1 s1 h1 _
   simp only[Ren.exit,Exit.inBlock]
   split at h
   ·rename_i hk
    simp only[Option.some.injEq,Prod.mk.injEq]at h
    obtain⟨rfl,rfl,rfl⟩:=h
    rw[if_pos hk]; exact hQ ρ1 w1 s1 h1 trivial
   ·rename_i hk
    simp only[Option.some.injEq,Prod.mk.injEq]at h
    obtain⟨rfl,rfl,rfl⟩:=h
    rw[if_neg hk]; exact hQ ρ1 w1 s1 h1 trivial
  ·rename_i hne
   refine hrec.run ro b a H e a1 H1 h ρ w F n _ hF hFr hro r hs ?_
   intro ρ1 w1 s1 h1 h2
   have:=hQ ρ1 w1 s1 h1 h2
   cases e with
   |exit k=>exact absurd h (hne k a1 H1)
   |_=>exact this
 |loop b =>
  exact wpIn_loop_rounds (m+1) (loop_sound hrec hl ro b a H e a1 H1 h ρ w F n Q hF hFr hro r hs hQ)
 |region id ops draw =>
  simp only[step,stRegion]at h
  cases draw with
  |true =>
   simp only at h
   split at h
   ·rename_i hst
    split at h
    ·rename_i q hrun
     simp only[Option.some.injEq,Prod.mk.injEq]at h
     obtain⟨rfl,rfl,rfl⟩:=h
     exact runDraw_run hmix hrec hst hrun r hs hF (fun ρ1 w1 s1 h1=>hQ ρ1 w1 s1 h1 trivial)
    ·exact drawPanic_run hmix hrec hst h r hs hF hQ
   ·cases h
  |false =>
   simp only at h
   refine wpIn_region ?_
   rw[List.range_eq_range']
   have:=runSeq_run hrec (n:=n) (Q:=Q) hF (fun ht=>by rw[hFr]; cases ro with|none=>rfl|some l=>cases ht) ops.toList 0 ρ H w a e a1 H1 (by simp) h r hs hQ
   simpa using this
 |rangeFunc f ps assign body =>
  simp only[step,stRange,zA1,zA2]at h
  obtain⟨fv,hfv,h⟩:=h
  exact rangeG_run hrec hfv h r hs hro hF hFr hQ
 |scope b =>
  simp only[step,stScope]at h
  refine wpIn_scope ?_
  split at h
  ·cases h
  ·rename_i hne
   refine hrec.run ro b a H e a1 H1 h ρ w F n _ hF hFr hro r hs ?_
   intro ρ1 w1 s1 h1 h2
   have:=hQ ρ1 w1 s1 h1 h2
   cases e with
   |goto k=>exact absurd h (hne k a1 H1)
   |_=>exact this
 |refuse s=>simp[step,stNone]at h
def KnownX (P:Program) (K:FuncId->List Value->AHeap->Option (Value × AHeap)):Prop :=
 ∀ (f:FuncId) (args:List Value) (v:Value) (H H1:AHeap),K f args H=some (v,H1)->CallS P f args H (.ok v) H1
def Known (P:Program) (K:FuncId->List Value->AHeap->Option Value):Prop :=
 ∀ (f:FuncId) (args:List Value) (v:Value) (H:AHeap),K f args H=some v->af v=true /\
  ∀ (ρ:Ren) (F:Fence) (n:Nat) (w:World),Rel P ρ H w->scbL H.next args=true->WideF F->CallsIn F n P f (args.map ρ.val).toArray w (fun e w'=>e=.returned v/\RowKit.Below w.heap.size w w')
theorem Known.lift {K:FuncId->List Value->AHeap->Option Value} (hK:Known P K):KnownX P (liftK K):=by
 intro f args v H H1 h ρ w r hsc F n R hF hR
 unfold liftK at h
 split at h
 ·rename_i v' hk
  simp only[Option.some.injEq,Prod.mk.injEq]at h
  obtain⟨rfl,rfl⟩:=h
  obtain⟨h2,h3⟩:=hK f args v' _ hk
  refine (h3 ρ F n w r hsc hF).mono ?_
  rintro e w1 ⟨rfl,hb⟩
  have:=hR ρ w1 (St.below r hb)
  simp only[val_af ρ v' h2]at this
  exact this (scb_of_af _ h2)
 ·cases h
theorem execX_sound (hmix:P.follows .mixedOrders=true) {K:FuncId->List Value->AHeap->Option (Value × AHeap)} (hK:KnownX P K):∀ fuel,Sound P (execX P K fuel)/\LoopSound P (execX P K fuel) fuel
 |0=>⟨⟨fun ro c a H e a1 H1 h=>by simp[execX]at h,hK⟩,fun ro b a H e a1 H1 h=>by simp[execX]at h⟩
 |n+1=>by
  obtain⟨i1,i2⟩:=execX_sound hmix hK n
  have hk:(execX P K n).know=K:=by cases n<;>rfl
  have h1:=step_sound hmix i1 i2
  have h2:=loop_sound i1 i2
  rw[hk]at h1 h2
  exact⟨h1,h2⟩
theorem exec_sound (hmix:P.follows .mixedOrders=true) {K:FuncId->List Value->AHeap->Option Value} (hK:Known P K) (fuel:Nat):Sound P (exec P K fuel)/\LoopSound P (exec P K fuel) fuel:=execX_sound hmix hK.lift fuel
end
end Go.Ax
