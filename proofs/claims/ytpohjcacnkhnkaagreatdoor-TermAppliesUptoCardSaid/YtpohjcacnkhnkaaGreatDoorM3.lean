/- Parts of the proof, one behind the other. -/
import Derived.Test.YtpohjcacnkhnkaaGreatDoorM2
import Derived.Laws.StructEq
import Derived.Test.YtpohjcacnkhnkaaGreatDoorProg
import Derived.KernelRfl
import Derived.Below
import Derived.WideShapes
import Derived.ChangeSlices
import Derived.ChangeAnyMap
import GoSem.ClaimJoined
import Derived.Shelf.Spec.SlicesInsertGrow
set_option linter.all false
set_option maxRecDepth 10000
set_option maxHeartbeats 16000000
open And renaming intro -> zA0
open Option renaming bind_eq_bind -> zA1, bind_eq_some_iff -> zA2, bind_some -> zA3, map_some -> zA9, map_eq_some_iff -> zB3
open Bool renaming and_eq_true -> zA4, false_eq_true -> zC4, not_true -> zE0, and_self -> zE3, not_false -> zG2
open List renaming mem_singleton -> zA5, mem_cons -> zA7, length_cons -> zB0, getElem?_eq_getElem -> zB1, mem_append -> zB2, length_append -> zB4, mem_map -> zB5, length_nil -> zB6, mem_of_getElem? -> zB9, map_cons -> zC0, nil_append -> zC1, getElem?_eq_none -> zC5, all_eq_true -> zC6, mem_cons_of_mem -> zC7, getD_eq_getElem?_getD -> zC8, nodup_cons -> zC9, append_nil -> zD0, drop_zero -> zD1, not_mem_nil -> zD2, append_assoc -> zD3, nodup_append -> zD4, take_of_length_le -> zD6, length_map -> zD7, length_drop -> zD8, mem_flatMap -> zE2, length_replicate -> zE4, mem_cons_self -> zE5, cons_append -> zE7, eq_nil_of_length_eq_zero -> zE9, getElem?_map -> zF0, drop_eq_nil_of_le -> zF1, length_set -> zF3, map_nil -> zF4, getElem?_cons_zero -> zF5, mem_of_mem_take -> zF6, mem_of_mem_drop -> zF9, mem_range -> zG0, getElem?_eq_some_iff -> zG1, drop_drop -> zG3, getElem?_cons_succ -> zG4, getElem_mem -> zG7, take_append_drop -> zG8
open Nat renaming le_of_ble_eq_true -> zA6, le_refl -> zA8, zero_le -> zB7, zero_add -> zB8, lt_or_ge -> zC2, le_trans -> zC3, lt_of_lt_of_le -> zD5, lt_succ_self -> zD9, add_zero -> zE1, ble_eq -> zE6, mul_one -> zE8, min -> zF2, zero_mul -> zF7, add_sub_cancel_left -> zF8, sub_self -> zG5
open Int renaming toNat_natCast -> zG6

namespace Go.Ax
section
variable {P : Program} {ro : Option Nat} {H : aa} {Q : Exit -> ag -> aa -> Prop} {a : ag} {N : Nat} {E : Env} {ds : List Deferred}
def Br (P:Program) (ro:Option Nat) (y:Code) (Q:Exit->ag->aa->Prop):Exit->ag->aa->Prop:=zf (fun a1 H1=>gO P ro y Q a1 H1) Q
def lT (id:Nat) (Q:Exit->ag->aa->Prop):Exit->ag->aa->Prop:=fun e a1 H1=>Q (Ct id e) a1 H1
def qw (P:Program) (ro:Option Nat) (x y:Code) (Q:Exit->ag->aa->Prop) (a:ag) (H:aa) (v:Value):Prop:=IA (some v) (gO P ro x Q a H) (gO P ro y Q a H)
theorem L6 {x y:Code}:gO P ro (.seq x y) Q a H=gO P ro x (Br P ro y Q) a H:=Eq.trans rfl rfl
theorem MX:gO P ro .skip Q a H=Q .normal a H:=Eq.trans rfl rfl
theorem Ph:gO P ro .ret Q a H=Q .ret a H:=Eq.trans rfl rfl
theorem Ni {id:Nat}:gO P ro (.exit id) Q a H=Q (.exit id) a H:=Eq.trans rfl rfl
theorem Cu {id:Nat} {b:Code}:gO P ro (.block id b) Q a H=gO P ro b (lT id Q) a H:=Eq.trans rfl rfl
theorem Kr {t:Nat} {x y:Code} (ht:t<N):gO P ro (.cond (.tmp t) x y) Q (bA N E ds) H=qw P ro x y Q (bA N E ds) H (E t):=by
 simp only[gO,qw,zl N E ds t ht]
theorem D4 {id:Nat} {l:List Oper}:gO P ro (.region id ⟨l⟩ false) Q a H=wpOps P ro ⟨l⟩ l a H Q:=Eq.trans rfl rfl
theorem uc {y:Code}:Br P ro y Q .normal a H=gO P ro y Q a H:=Eq.trans rfl rfl
theorem Ey {y:Code}:Br P ro y Q .ret a H=Q .ret a H:=Eq.trans rfl rfl
theorem tI {y:Code} {id:Nat}:Br P ro y Q (.exit id) a H=Q (.exit id) a H:=Eq.trans rfl rfl
theorem cy {y:Code} {ch:List PanicEntry}:Br P ro y Q (.panic ch) a H=Q (.panic ch) a H:=Eq.trans rfl rfl
theorem qc {id:Nat}:lT id Q .normal a H=Q .normal a H:=Eq.trans rfl rfl
theorem xd {id:Nat}:lT id Q .ret a H=Q .ret a H:=Eq.trans rfl rfl
theorem iH {id:Nat} {ch:List PanicEntry}:lT id Q (.panic ch) a H=Q (.panic ch) a H:=Eq.trans rfl rfl
theorem oX {id:Nat}:lT id Q (.exit id) a H=Q .normal a H:=by simp[lT,Ct]
theorem BG {id k:Nat} (h:k≠id):lT id Q (.exit k) a H=Q (.exit k) a H:=by simp[lT,Ct,h]
theorem qG {x y:Code}:qw P ro x y Q a H (.bool true)=gO P ro x Q a H:=Eq.trans rfl rfl
theorem o8 {x y:Code}:qw P ro x y Q a H (.bool false)=gO P ro y Q a H:=Eq.trans rfl rfl
theorem uQ {fn:Func} {R:Out->aa->Prop}:Jk P fn R .normal (bA N E ds) H=fB P fn (bA N E ds) ds .returning H R:=Eq.trans rfl rfl
theorem CD {fn:Func} {R:Out->aa->Prop}:Jk P fn R .ret (bA N E ds) H=fB P fn (bA N E ds) ds .returning H R:=Eq.trans rfl rfl
def EP (P:Program) (ro:Option Nat) (ops:Array Oper) (rest:List Oper) (a:ag) (dst:Option Tmp) (Q:Exit->ag->aa->Prop):Out->aa->Prop
 |.ok v,H1=>wpOps P ro ops rest (a.put dst v) H1 Q
 |.error ch,H1=>Q (.panic ch) a H1
def vV:Op->Bool
 |.defer _=>true
 |_=>false
theorem CB {a:ag} {op:Op} (h:vV op=false):px P a op=none:=by
 cases op<;>first|rfl|cases h
theorem xc {ops:Array Oper} {o:Oper} {rest:List Oper} (hg:o.guard=none) (hd:vV o.op=false):wpOps P ro ops (o::rest) a H Q=zi P o.op a H (EP P ro ops rest a o.dst Q):=by
 have e : (fun out H1 => match out with
    |.ok v=>wpOps P ro ops rest (a.put o.dst v) H1 Q
    |.error ch=>Q (.panic ch) a H1)=EP P ro ops rest a o.dst Q:=by
  funext out H1
  cases out<;>rfl
 simp only[wpOps,cw,hg,CB hd,<-e]<;>(cases ro<;>rfl)
theorem Pm {ops:Array Oper}:wpOps P ro ops [] a H Q=Q .normal a H:=Eq.trans rfl rfl
def jo (P:Program) (ro:Option Nat) (ops:Array Oper) (o:Oper) (rest:List Oper) (N:Nat) (E:Env) (ds:List Deferred) (H:aa) (Q:Exit->ag->aa->Prop) (want:Bool):Value->Prop
 |.bool b=>if b=want then wpOps P ro ops (o::rest) (bA N E ds) H Q else wpOps P ro ops rest ((bA N E ds).put o.dst undef) H Q
 |_=>wpOps P ro ops rest ((bA N E ds).put o.dst undef) H Q
def lO (ops:Array Oper) (j:Nat):Option Nat:=(ops[j]?).bind (·.dst)
theorem NK {ops:Array Oper} {dst:Option Tmp} {op:Op} {ty:TypeId} {pos:String} {after:Array Edge} {j d:Nat} {want:Bool} {rest:List Oper} (hj:lO ops j=some d) (hd:d<N) :
  wpOps P ro ops (⟨dst,op,ty,pos,after,some (j,want)⟩::rest) (bA N E ds) H Q=jo P ro ops ⟨dst,op,ty,pos,after,none⟩ rest N E ds H Q want (E d):=by
 unfold lO at hj
 cases ho:ops[j]? with
 |none=>rw[ho]at hj; cases hj
 |some oj =>
  rw[ho]at hj
  simp only[zA3]at hj
  have hw:cw ops (bA N E ds) ⟨dst,op,ty,pos,after,some (j,want)⟩=(match E d with
    |.bool b=>some (b == want)
    |_=>some false):=by
   simp only[cw,ho,hj,x7 N E ds d hd]
   cases E d<;>rfl
  have hn:cw ops (bA N E ds) ⟨dst,op,ty,pos,after,none⟩=some true:=Eq.trans rfl rfl
  cases hv:E d with
  |bool b =>
   rw[hv]at hw
   simp only[jo]
   by_cases h:b=want
   ·rw[if_pos h]
    have:(b == want)=true:=by simpa using h
    simp only[wpOps,hw,this,hn]
   ·rw[if_neg h]
    have:(b == want)=false:=by simpa using h
    simp only[wpOps,hw,this]
  |_=>rw[hv]at hw; simp only[wpOps,hw,jo]
def mr (P:Program) (ro:Option Nat) (ops:Array Oper) (rest:List Oper) (N:Nat) (E:Env) (ds:List Deferred) (d:Nat) (H:aa) (Q:Exit->ag->aa->Prop):Option Value->Prop
 |some v=>wpOps P ro ops rest (bA N (cE E d v) ds) H Q
 |none=>False
theorem kx {ops:Array Oper} {rest:List Oper} {d:Nat} {v:Value}:mr P ro ops rest N E ds d H Q (some v)=wpOps P ro ops rest (bA N (cE E d v) ds) H Q:=Eq.trans rfl rfl
def pf (P:Program) (ro:Option Nat) (ops:Array Oper) (rest:List Oper) (N:Nat) (E:Env) (ds:List Deferred) (dst:Option Nat) (Q:Exit->ag->aa->Prop):Option (Value × aa)->Prop
 |some (v,H1)=>wpOps P ro ops rest ((bA N E ds).put dst v) H1 Q
 |none=>False
theorem wM {ops:Array Oper} {rest:List Oper} {d:Nat} {v:Value} {H1:aa} (hd:d<N):pf P ro ops rest N E ds (some d) Q (some (v,H1))=wpOps P ro ops rest (bA N (cE E d v) ds) H1 Q:=by
 simp only[pf,dG N E ds d v hd]
section
variable {ops : Array Oper} {d : Nat} {ty : TypeId} {pos : String} {after : Array Edge} {rest : List Oper}
theorem sq {op:Op} {x:Option Value} (hx:vV op=false) (h:ck op P (bA N E ds) H=rv H x) (hd:d<N):wpOps P ro ops (⟨some d,op,ty,pos,after,none⟩::rest) (bA N E ds) H Q=mr P ro ops rest N E ds d H Q x:=by
 rw[xc rfl hx]
 simp only[zi,h,rv]
 cases x with
 |none=>rfl
 |some v=>simp only[zA9,mn,EP,mr,dG N E ds d v hd]
theorem uo {op:Op} {dst:Option Nat} {x:Option (Value × aa)} (hx:vV op=false) (h:ck op P (bA N E ds) H=sI x):wpOps P ro ops (⟨dst,op,ty,pos,after,none⟩::rest) (bA N E ds) H Q=pf P ro ops rest N E ds dst Q x:=by
 rw[xc rfl hx]
 simp only[zi,h,sI]
 cases x with
 |none=>rfl
 |some v=>obtain⟨v,H1⟩:=v; rfl
def cm (E:Env):Operand->Value
 |.tmp t=>E t
 |.const v=>v
 |.func f=>.func (.func f) #[] #[]
 |.global g=>.pointer (some ⟨g,0,none⟩)
def bj (P:Program) (N:Nat):Operand->Bool
 |.tmp t=>Nat.blt t N
 |.const v=>af v
 |.func _=>true
 |.global g=>Nat.blt g P.globals.size
theorem aE {x:Operand} (h:bj P N x=true):aK P (bA N E ds) x=some (cm E x):=by
 cases x with
 |tmp t=>exact zl N E ds t (bN h)
 |const v=>simp only[bj]at h; simp only[aK,h,if_true,cm]
 |func f=>rfl
 |global g=>simp only[bj]at h; simp only[aK,h,if_true,cm]
theorem cp:∀ {xs:List Operand},xs.all (bj P N)=true->fc P (bA N E ds) xs=some (xs.map (cm E))
 |[],_=>rfl
 |x::xs,h=>by
  simp only[List.all_cons,zA4]at h
  simp only[fc,aE h.1,cp h.2,zA1,zA3,zC0]
theorem LN {t:Nat} (h:t<N):bj P N (.tmp t)=true:=a8 h
theorem ok_int {k:IntKind} {n:Int}:bj P N (.const (.int k n))=true:=by simp only[bj,af]
theorem Hn {b:Bool}:bj P N (.const (.bool b))=true:=by simp only[bj,af]
theorem AA {s:ByteArray}:bj P N (.const (.string s))=true:=by simp only[bj,af]
theorem AX:bj P N (.const (.pointer none))=true:=by simp only[bj,af]
theorem uP {n m:Nat}:bj P N (.const (.slice none n m))=true:=by simp only[bj,af]
theorem zB:bj P N (.const (.map none))=true:=by simp only[bj,af]
theorem II {f:FuncId}:bj P N (.func f)=true:=by simp only[bj]
theorem all_nil:([]:List Operand).all (bj P N)=true:=by simp only[List.all_nil]
theorem all_cons {x:Operand} {r:List Operand}:(x::r).all (bj P N)=(bj P N x&&r.all (bj P N)):=by simp only[List.all_cons]
theorem Kv {b:Bool}:(true&&b)=b:=by simp only[Bool.true_and]
theorem HR {t:Nat}:cm E (.tmp t)=E t:=by simp only[cm]
theorem zZ {v:Value}:cm E (.const v)=v:=by simp only[cm]
theorem wY {g:Nat}:cm E (.global g)=.pointer (some ⟨g,0,none⟩):=by simp only[cm]
theorem Ek {f:FuncId}:cm E (.func f)=.func (.func f) #[] #[]:=by simp only[cm]
theorem KT {x:Operand} (hx:bj P N x=true) (hd:d<N):wpOps P ro ops (⟨some d,.move x,ty,pos,after,none⟩::rest) (bA N E ds) H Q=wpOps P ro ops rest (bA N (cE E d (cm E x)) ds) H Q :=
 (sq (x:=some (cm E x)) rfl (by simp only[ck,qn,aE hx]) hd).trans kx
theorem El {x:Operand} (hx:bj P N x=true) (hd:d<N):wpOps P ro ops (⟨some d,.assign x,ty,pos,after,none⟩::rest) (bA N E ds) H Q=wpOps P ro ops rest (bA N (cE E d (cm E x)) ds) H Q :=
 (sq (x:=some (cm E x)) rfl (by simp only[ck,qn,aE hx]) hd).trans kx
theorem vp {x:Operand} {t:TypeId} {f:Nat} (hx:bj P N x=true) (hd:d<N):wpOps P ro ops (⟨some d,.fieldAddr t x f,ty,pos,after,none⟩::rest) (bA N E ds) H Q=mr P ro ops rest N E ds d H Q (aH P t (cm E x) f) :=
 sq rfl (by simp only[ck,jh,aE hx,zA1,zA3]) hd
theorem uU {x i:Operand} {t:TypeId} (hx:bj P N x=true) (hi:bj P N i=true) (hd:d<N):wpOps P ro ops (⟨some d,.indexAddr t x i,ty,pos,after,none⟩::rest) (bA N E ds) H Q=mr P ro ops rest N E ds d H Q (aP P t (cm E x) (cm E i)) :=
 sq rfl (by simp only[ck,jq,aE hx,aE hi,zA1,zA3]) hd
theorem MM {x:Operand} {t:TypeId} (hx:bj P N x=true) (hd:d<N):wpOps P ro ops (⟨some d,.load t x,ty,pos,after,none⟩::rest) (bA N E ds) H Q=mr P ro ops rest N E ds d H Q (ga P H t (cm E x)) :=
 sq rfl (by simp only[ck,Dq,aE hx,zA1,zA3]) hd
def RJ (i:Nat):Value->Option Value
 |.tuple l=>l.toList[i]?
 |_=>none
theorem zy {i:Nat} {l:List Value}:RJ i (.tuple ⟨l⟩)=l[i]?:=by simp only[RJ]
theorem zU {x:Operand} {i:Nat} (hx:bj P N x=true) (hd:d<N):wpOps P ro ops (⟨some d,.extract x i,ty,pos,after,none⟩::rest) (bA N E ds) H Q=mr P ro ops rest N E ds d H Q (RJ i (cm E x)) :=
 sq rfl (by
  simp only[ck,mN,aE hx,zA1,zA3,kR]
  cases cm E x<;>rfl) hd
def AQ (x y:Value):Value->Option Value
 |.bool true=>some x
 |.bool false=>some y
 |_=>none
theorem x9 {x y:Value}:AQ x y (.bool true)=some x:=by simp only[AQ]
theorem uY {x y:Value}:AQ x y (.bool false)=some y:=by simp only[AQ]
theorem Ng {c x y:Operand} (hc:bj P N c=true) (hx:bj P N x=true) (hy:bj P N y=true) (hd:d<N):wpOps P ro ops (⟨some d,.pick c x y,ty,pos,after,none⟩::rest) (bA N E ds) H Q=mr P ro ops rest N E ds d H Q (AQ (cm E x) (cm E y) (cm E c)) :=
 sq rfl (by
  simp only[ck,zK,aE hc,aE hx,aE hy,zA1,zA3]
  cases cm E c with
  |bool b=>cases b<;>rfl
  |_=>rfl) hd
def Cx (P:Program) (v:Value):Option Value :=
 match y9 P (aa.none 0) v with
 |some (.value y,_)=>some y
 |_=>none
theorem CA {p:Addr}:Cx P (.pointer (some p))=some (.pointer (some p)):=by simp only[Cx,y9]
theorem xz {x:Operand} (hx:bj P N x=true) (hd:d<N) (h:(Cx P (cm E x)).isSome=true):wpOps P ro ops (⟨some d,.nilCheck x,ty,pos,after,none⟩::rest) (bA N E ds) H Q=mr P ro ops rest N E ds d H Q (Cx P (cm E x)) :=
 sq rfl (by
  simp only[ck,JS,aE hx,zA1,zA3]
  simp only[Cx]at h ⊢
  unfold y9 at h ⊢
  split<;>simp_all [rv]) hd
def OL:Value->Option Value
 |.bool b=>some (.bool !b)
 |_=>none
theorem zG {b:Bool}:OL (.bool b)=some (.bool !b):=by simp only[OL]
theorem O3 {x:Operand} {t:TypeId} (hx:bj P N x=true) (hd:d<N) (h:(OL (cm E x)).isSome=true):wpOps P ro ops (⟨some d,.unOp .not t x,ty,pos,after,none⟩::rest) (bA N E ds) H Q=mr P ro ops rest N E ds d H Q (OL (cm E x)) :=
 sq rfl (by
  simp only[ck,QO,aE hx,zA1,zA3]
  cases hv:cm E x with
  |bool b=>rfl
  |_=>rw[hv]at h; cases h) hd
theorem O4 {op:BinOp} {t u:TypeId} {x y:Operand} (hx:bj P N x=true) (hy:bj P N y=true) (hd:d<N) (h:(fu P H op t (cm E x) (cm E y)).isSome=true):wpOps P ro ops (⟨some d,.binOp op t x y u,ty,pos,after,none⟩::rest) (bA N E ds) H Q=mr P ro ops rest N E ds d H Q (fu P H op t (cm E x) (cm E y)):=by
 cases hv:fu P H op t (cm E x) (cm E y) with
 |none=>rw[hv]at h; cases h
 |some v=>exact sq (x:=some v) rfl (by simp only[ck,Gt,aE hx,aE hy,zA1,zA3,Ec,hv]; rfl) hd
theorem isSome_some {α:Type} {v:α}:(some v).isSome=true:=by simp only[Option.isSome_some]
theorem HC {t:TypeId} {k:IntKind} {x y:Int}:fu P H .add t (.int k x) (.int k y)=some (.int k (k.wrap (x+y))):=by simp[fu,eD]
theorem GD {t:TypeId} {k:IntKind} {x y:Int}:fu P H .sub t (.int k x) (.int k y)=some (.int k (k.wrap (x-y))):=by simp[fu,eD]
theorem Hw {t:TypeId} {k:IntKind} {x y:Int}:fu P H .mul t (.int k x) (.int k y)=some (.int k (k.wrap (x*y))):=by simp[fu,eD]
theorem H8 {t:TypeId} {k:IntKind} {x y:Int}:fu P H .eql t (.int k x) (.int k y)=some (.bool (decide (x=y))):=by simp[fu,eD]; rfl
theorem Ib {t:TypeId} {k:IntKind} {x y:Int}:fu P H .neq t (.int k x) (.int k y)=some (.bool (decide (x≠y))):=by
 have:(x != y)=decide (x≠y):=by by_cases h:x=y<;>simp[h]
 simp[fu,eD,this]
theorem G5 {t:TypeId} {k:IntKind} {x y:Int}:fu P H .lss t (.int k x) (.int k y)=some (.bool (decide (x<y))):=by simp[fu,eD]
theorem GI {t:TypeId} {k:IntKind} {x y:Int}:fu P H .leq t (.int k x) (.int k y)=some (.bool (decide (x<=y))):=by simp[fu,eD]
theorem H5 {t:TypeId} {k:IntKind} {x y:Int}:fu P H .gtr t (.int k x) (.int k y)=some (.bool (decide (y<x))):=by simp[fu,eD]
theorem Io {t:TypeId} {k:IntKind} {x y:Int}:fu P H .geq t (.int k x) (.int k y)=some (.bool (decide (y<=x))):=by simp[fu,eD]
theorem Hu {t:TypeId} {l:List (Nat × Operand)} (hd:d<N):wpOps P ro ops (⟨some d,.build t ⟨l⟩,ty,pos,after,none⟩::rest) (bA N E ds) H Q=mr P ro ops rest N E ds d H Q ((gH P (bA N E ds) l).bind (er P t)) :=
 sq rfl (by
  simp only[ck,tR,zA1]
  cases gH P (bA N E ds) l<;>rfl) hd
def Fk (P:Program) (t:TypeId) (v:Value):Option Value :=
 match P.underlying t with
 |some (.interface _)=>none
 |some _=>some (.iface t v)
 |none=>none
theorem GZ {t:TypeId} {x:Operand} (hx:bj P N x=true) (hd:d<N):wpOps P ro ops (⟨some d,.makeInterface t x,ty,pos,after,none⟩::rest) (bA N E ds) H Q=mr P ro ops rest N E ds d H Q (Fk P t (cm E x)) :=
 sq rfl (by
  simp only[ck,xk,aE hx,zA1,zA3,sX,Fk]
  cases P.underlying t with
  |none=>rfl
  |some td=>cases td<;>rfl) hd
def ti (H:aa) (t:TypeId):Option Value->Option (Value × aa)
 |some z=>(cF H t z.cells.toList false).map fun g=>(.pointer (some ⟨H.next,0,none⟩),g)
 |none=>none
theorem uR {t:TypeId} {z:Value} (hs:aO H.next z.cells.toList=true):ti H t (some z)=some (.pointer (some ⟨H.next,0,none⟩),nw H t z.cells.toList false):=by simp only[ti,BW hs,zA9]
theorem He {t:TypeId} {dst:Option Nat}:wpOps P ro ops (⟨dst,.alloc t,ty,pos,after,none⟩::rest) (bA N E ds) H Q=pf P ro ops rest N E ds dst Q (ti H t (zeroOf P t)) :=
 uo rfl (by
  simp only[ck,wj,zA1]
  cases zeroOf P t with
  |none=>rfl
  |some z =>
   simp only[zA3,xT,ti,sI,zA1]
   cases cF H t z.cells.toList false<;>rfl)
def sV (P:Program) (ro:Option Nat) (ops:Array Oper) (rest:List Oper) (a:ag) (Q:Exit->ag->aa->Prop):Option aa->Prop
 |some H1=>wpOps P ro ops rest a H1 Q
 |none=>False
theorem ve {H1:aa}:sV P ro ops rest a Q (some H1)=wpOps P ro ops rest a H1 Q:=by simp only[sV]
theorem Ha {x y:Operand} {t:TypeId} (hx:bj P N x=true) (hy:bj P N y=true):wpOps P ro ops (⟨none,.store t x y,ty,pos,after,none⟩::rest) (bA N E ds) H Q=sV P ro ops rest (bA N E ds) Q (eW P H t (cm E x) (cm E y)):=by
 rw[xc rfl rfl]
 simp only[zi,ck,sK,aE hx,aE hy,Kp,zA1,zA3]
 cases eW P H t (cm E x) (cm E y) with
 |none=>rfl
 |some H1=>simp only[zA9,mn,EP,xi,sV]
def Pf (P:Program) (N:Nat):List (Nat × Operand)->Bool
 |[]=>true
 |(_,x)::r=>bj P N x&&Pf P N r
def pmap (E:Env):List (Nat × Operand)->List (Nat × Value)
 |[]=>[]
 |(i,x)::r=>(i,cm E x)::pmap E r
theorem HA:Pf P N []=true:=by simp only[Pf]
theorem EC {i:Nat} {x:Operand} {r:List (Nat × Operand)}:Pf P N ((i,x)::r)=(bj P N x&&Pf P N r):=by simp only[Pf]
theorem pmap_nil:pmap E []=[]:=by simp only[pmap]
theorem pmap_cons {i:Nat} {x:Operand} {r:List (Nat × Operand)}:pmap E ((i,x)::r)=(i,cm E x)::pmap E r:=by simp only[pmap]
theorem wB:∀ {l:List (Nat × Operand)},Pf P N l=true->gH P (bA N E ds) l=some (pmap E l)
 |[],_=>rfl
 |(i,x)::r,h=>by
  simp only[Pf,zA4]at h
  simp only[gH,aE h.1,wB h.2,zA1,zA3,pmap]
theorem ME {f:FuncId} {args:List Operand} {ts:Array TypeId} {dst:Option Nat} (ha:args.all (bj P N)=true) (hb:aF P f=true) :
  wpOps P ro ops (⟨dst,.call ⟨.value (.func f),⟨args⟩,ts⟩,ty,pos,after,none⟩::rest) (bA N E ds) H Q=bF P f (args.map (cm E)) H (EP P ro ops rest (bA N E ds) dst Q):=by
 rw[xc rfl rfl]
 simp only[zi,ck,kc,cp ha,aK,zA1,zA3,oA,fq,iU,hb,if_true,zC1,zD0,zA9,mn]
theorem Ks {v:Value} (hd:d<N):EP P ro ops rest (bA N E ds) (some d) Q (.ok v) H=wpOps P ro ops rest (bA N (cE E d v) ds) H Q:=by simp only[EP,dG N E ds d v hd]
theorem Ab {b:Builtin} {args:List Operand} {ts:Array TypeId} {dst:Option Nat} (ha:args.all (bj P N)=true) :
  wpOps P ro ops (⟨dst,.call ⟨.builtin b,⟨args⟩,ts⟩,ty,pos,after,none⟩::rest) (bA N E ds) H Q=pf P ro ops rest N E ds dst Q (aD P H b ts (args.map (cm E))) :=
 uo rfl (by simp only[ck,kc,cp ha,zA1,zA3])
theorem O7 {x:Operand} {t:TypeId} (hx:bj P N x=true) (hd:d<N) (hs:aO H.next (cm E x).cells.toList=true):wpOps P ro ops (⟨some d,.box t x,ty,pos,after,none⟩::rest) (bA N E ds) H Q =
  wpOps P ro ops rest (bA N (cE E d (.pointer (some ⟨H.next,0,none⟩))) ds) (nw H t (cm E x).cells.toList false) Q:=by
 rw[xc rfl rfl]
 simp only[zi,ck,sQ,aE hx,zA1,zA3,xT,BW hs,mn,EP,dG N E ds d _ hd]
end
end
section
variable {P : Program} {ro : Option Nat} {H : aa} {N : Nat} {E : Env} {ds : List Deferred}
def BA (P:Program) (o:Oper) (a:ag) (H:aa) (anc i:Nat) (fps:List Fp) (K:List Fp->Value->aa->Prop):Prop :=
 ∃ F v g,ET P a (H.restrict F) o (.ok v) g/\(∀ n∈F,H.get n≠none)/\(∀ n∈g.dirty,n∈F)/\(∀ r∈fps,tC anc F v g H.next r=true)/\K (⟨i,F,g.dirty,H.next,g.next⟩::fps) v (H.merge g)
def K9 (P:Program) (t:TypeId) (H:aa) (anc i:Nat) (fps:List Fp) (K:List Fp->Value->aa->Prop):Option Value->Prop
 |some (.pointer (some ⟨n,off,none⟩))=>(match ga P H t (.pointer (some ⟨n,off,none⟩)) with
  |some v=>(∀ r∈fps,cQ anc [n] [] (ae v) r)/\K (⟨i,[n],[],H.next,H.next⟩::fps) v H
  |none=>False)
 |_=>False
def Md (K:List Fp->Value->aa->Prop) (H:aa) (anc:Nat) (fps:List Fp):dU->Prop
 |some (.value v,_)=>iD anc fps (ae v)/\K fps v H
 |_=>False
def ee (P:Program) (op:BinOp) (t:TypeId):Value->Value->Option Value
 |.int k p,.int k' q=>if k=k' then eD op k p q else none
 |.bool p,.bool q=>(match P.underlying t with
  |some .bool=>wv op (p == q)
  |_=>none)
 |_,_=>none
theorem Ew {op:BinOp} {t:TypeId} {p q v:Value} (h:ee P op t p q=some v) (G:aa):fu P G op t p q=some v:=by
 unfold ee at h
 split at h
 ·simp only[fu]; exact h
 ·simp only[fu]; exact h
 ·cases h
def Oq (P:Program) (op:BinOp) (t:TypeId) (K:List Fp->Value->aa->Prop) (H:aa) (anc:Nat) (fps:List Fp) (D:Prop):Option Value->Option Value->Prop
 |some p,some q=>(match ee P op t p q with
  |some v=>iD anc fps (ae v)/\K fps v H
  |none=>D)
 |_,_=>D
def FU (P:Program) (t:TypeId) (H:aa) (anc i:Nat) (fps:List Fp) (K:List Fp->Value->aa->Prop):Option Value->Option Value->Prop
 |some (.pointer (some ⟨n,off,none⟩)),some v=>(match eW P H t (.pointer (some ⟨n,off,none⟩)) v with
  |some H1=>n<H.next/\(∀ r∈fps,cQ anc [n] [n] (fk H1 n) r)/\K (⟨i,[n],[n],H.next,H.next⟩::fps) undef H1
  |none=>False)
 |_,_=>False
def p9:Op->Bool
 |.alloc _=>true
 |.box _ _=>true
 |.buildSlice _ _ _=>true
 |.makeSlice _ _ _=>true
 |_=>false
theorem OG {op:Op} (hp:p9 op=true) (a:ag):∃ f:Nat->Option (Value × dw),∀ G:aa,ck op P a G=(f G.next).map fun x=>(.value x.1,G.new x.2):=by
 have key:∀ (t:TypeId) (v:Value),∃ f:Nat->Option (Value × dw),∀ G:aa,xT t v G=(f G.next).map fun x=>(.value x.1,G.new x.2):=by
  intro t v
  refine⟨fun n=>if aO n v.cells.toList then some (.pointer (some ⟨n,0,none⟩),⟨.cells #[] t,false,RV.ofList v.cells.toList⟩) else none,fun G=>?_⟩
  simp only[xT,cF,zA1]
  split<;>rfl
 cases op with
 |alloc t =>
  simp only[ck,wj]
  cases zeroOf P t with
  |none=>exact⟨fun _=>none,fun G=>rfl⟩
  |some z=>exact key t z
 |box t x =>
  simp only[ck,sQ]
  cases aK P a x with
  |none=>exact⟨fun _=>none,fun G=>rfl⟩
  |some z=>exact key t z
 |buildSlice t n ps =>
  simp only[ck,iz]
  cases gH P a ps.toList with
  |none=>exact⟨fun _=>none,fun G=>rfl⟩
  |some l =>
   simp only[zA1,zA3,b7]
   cases hu:P.underlying t with
   |none=>exact⟨fun _=>none,fun G=>rfl⟩
   |some td =>
    cases td with
    |slice e =>
     simp only[zA3]
     cases hsz:bh P e with
     |none=>exact⟨fun _=>none,fun G=>rfl⟩
     |some sz =>
      cases hz:zeroOf P e with
      |none=>exact⟨fun _=>none,fun G=>rfl⟩
      |some z =>
       simp only[zA3]
       split
       ·cases hf:Instr.fill (fun i=>some (i*sz,sz)) (aV z.cells.toList n).toArray l with
        |none=>exact⟨fun _=>none,fun G=>rfl⟩
        |some cells =>
         refine⟨fun m=>if aO m cells.toList then some (.slice (some ⟨m,0,some 0⟩) n n,⟨.cells #[] e,false,RV.ofList cells.toList⟩) else none,fun G=>?_⟩
         simp only[zA3,cF,sI]
         split<;>rfl
       ·exact⟨fun _=>none,fun G=>rfl⟩
    |_=>exact⟨fun _=>none,fun G=>rfl⟩
 |makeSlice t l c =>
  simp only[ck,kE]
  cases aK P a l with
  |none=>exact⟨fun _=>none,fun G=>rfl⟩
  |some l =>
   cases aK P a c with
   |none=>exact⟨fun _=>none,fun G=>rfl⟩
   |some c =>
    simp only[zA1,zA3]
    unfold fG
    split
    ·rename_i l c
     cases hu:P.underlying t with
     |none=>exact⟨fun _=>none,fun G=>rfl⟩
     |some td =>
      cases td with
      |slice e =>
       simp only[zA1,zA3]
       cases hby:bytesOf P e with
       |none=>exact⟨fun _=>none,fun G=>rfl⟩
       |some by1 =>
        cases hsz:bh P e with
        |none=>exact⟨fun _=>none,fun G=>rfl⟩
        |some sz =>
         cases hz:zeroOf P e with
         |none=>exact⟨fun _=>none,fun G=>rfl⟩
         |some z =>
          simp only[zA3]
          split
          ·refine⟨fun m=>if aO m (aV z.cells.toList c.toNat) then some (.slice (some ⟨m,0,some 0⟩) l.toNat c.toNat,⟨.cells #[] e,false,RV.ofList (aV z.cells.toList c.toNat)⟩) else none,fun G=>?_⟩
           simp only[cF,sI]
           split<;>rfl
          ·exact⟨fun _=>none,fun G=>rfl⟩
      |_=>exact⟨fun _=>none,fun G=>rfl⟩
    ·exact⟨fun _=>none,fun G=>rfl⟩
 |_=>cases hp
def PE (H:aa) (anc i:Nat) (fps:List Fp) (K:List Fp->Value->aa->Prop):dU->Prop
 |some (.value v,H1)=>(∀ r∈fps,cQ anc [] [] (ae v++fk H1 H.next) r)/\K (⟨i,[],[],H.next,H.next+1⟩::fps) v H1
 |_=>False
def kU (P:Program) (b:Builtin) (ts:Array TypeId) (vs:List Value):Option Value :=
 match b with
 |.len=>(match ts.toList,vs with
  |t::_,[x]=>(match P.underlying t,x with
   |some (.slice _),.slice _ n _=>some (goInt n)
   |some .string,.string s=>some (goInt s.size)
   |_,_=>none)
  |_,_=>none)
 |.max=>fT true vs
 |.min=>fT false vs
 |_=>none
theorem yL {b:Builtin} {ts:Array TypeId} {vs:List Value} {v:Value} (h:kU P b ts vs=some v) (G:aa):aD P G b ts vs=some (v,G):=by
 unfold kU at h
 split at h
 ·split at h
  ·rename_i t _ x hts
   split at h
   ·rename_i hu
    simp only[aD,hts,EW,hu]
    simp only[Option.some.injEq]at h
    rw[h]; rfl
   ·rename_i hu
    simp only[aD,hts,EW,hu]
    simp only[Option.some.injEq]at h
    rw[h]; rfl
   ·cases h
  ·cases h
 ·simp only[aD,h,zA9]
 ·simp only[aD,h,zA9]
 ·cases h
def QJ (P:Program) (b:Builtin) (ts:Array TypeId) (K:List Fp->Value->aa->Prop) (H:aa) (anc:Nat) (fps:List Fp) (D:Prop):Option (List Value)->Prop
 |some vs=>(match kU P b ts vs with
  |some v=>iD anc fps (ae v)/\K fps v H
  |none=>D)
 |none=>D
def pj (P:Program) (o:Oper) (a:ag) (H:aa) (anc i:Nat) (fps:List Fp) (K:List Fp->Value->aa->Prop):Prop :=
 match p9 o.op with
 |true=>PE H anc i fps K (ck o.op P a H)
 |false=>(match o.op with
  |.call ⟨.builtin b,args,ts⟩=>QJ P b ts K H anc fps (BA P o a H anc i fps K) (fc P a args.toList)
  |_=>BA P o a H anc i fps K)
def ja (P:Program) (o:Oper) (a:ag) (H:aa) (anc i:Nat) (fps:List Fp) (K:List Fp->Value->aa->Prop):Prop :=
 match ib o.op with
 |true=>Md K H anc fps (ck o.op P a H)
 |false=>(match o.op with
  |.load t x=>K9 P t H anc i fps K (aK P a x)
  |.store t x y=>FU P t H anc i fps K (aK P a x) (aK P a y)
  |.binOp op t x y _=>Oq P op t K H anc fps (BA P o a H anc i fps K) (aK P a x) (aK P a y)
  |_=>pj P o a H anc i fps K)
def fH (P:Program) (ops:Array Oper) (anc:List Nat):List Oper->Nat->List Fp->ag->aa->(ag->aa->Prop)->Prop
 |[],_,_,a,H,Q=>Q a H
 |o::rest,i,fps,a,H,Q =>
  match cw ops a o with
  |some true=>ja P o a H (anc.getD i 0) i fps fun fps' v H1=>fH P ops anc rest (i+1) fps' (a.put o.dst v) H1 Q
  |some false=>fH P ops anc rest (i+1) fps (a.put o.dst undef) H Q
  |none=>False
theorem Ch {ops:Array Oper} {anc:List Nat} {o:Oper} {rest:List Oper} {i:Nat} {fps:List Fp} {a:ag} {Q:ag->aa->Prop} {t:TypeId} {x y:Operand} {v:Value} {n off:Nat} {H1:aa} (ho:o.op=.store t x y) (hw:cw ops a o=some true)
  (hx:aK P a x=some (.pointer (some ⟨n,off,none⟩))) (hy:aK P a y=some v) (hs:eW P H t (.pointer (some ⟨n,off,none⟩)) v=some H1) (hlt:n<H.next) (hm:∀ r∈fps,cQ (anc.getD i 0) [n] [n] (fk H1 n) r)
  (h:ct P ops anc rest (i+1) (⟨i,[n],[n],H.next,H.next⟩::fps) (a.put o.dst undef) H1 Q):ct P ops anc (o::rest) i fps a H Q:=by
 have hn:=aL H [n]
 have hgn:(H.restrict [n]).get n=H.get n:=by rw[aU]; simp
 simp only[eW,zA1]at hs
 cases hsz:bh P t with
 |none=>rw[hsz]at hs; cases hs
 |some sz =>
  rw[hsz]at hs
  simp only[zA3]at hs
  split at hs
  ·rename_i hl
   subst hl
   simp only[dV,zA1]at hs
   cases hc:bH H n with
   |none=>rw[hc]at hs; cases hs
   |some z =>
    obtain⟨rv,e,ob⟩:=z
    rw[hc]at hs
    simp only[zA3]at hs
    split at hs
    ·rename_i hcond
     simp only[Option.some.injEq]at hs
     subst hs
     have hcr:bH (H.restrict [n]) n=some (rv,e,ob):=by rw[<-hc]; simp only[bH,hgn]
     have hst:eW P (H.restrict [n]) t (.pointer (some ⟨n,off,none⟩)) v=some ((H.restrict [n]).cE n (some ⟨.cells #[] e,ob,rv.ft off v.cells.toList⟩)):=by
      simp only[eW,hsz,zA1,zA3,if_true,dV,hcr,hn.1,hcond]
     have hd:((H.restrict [n]).cE n (some ⟨.cells #[] e,ob,rv.ft off v.cells.toList⟩)).dirty=[n]:=by
      simp only[aa.et,hn.2.1,hn.2.2,a8 hlt,if_true]
     have hnx:((H.restrict [n]).cE n (some ⟨.cells #[] e,ob,rv.ft off v.cells.toList⟩)).next=H.next:=hn.1
     have hgg:((H.restrict [n]).cE n (some ⟨.cells #[] e,ob,rv.ft off v.cells.toList⟩)).get n=some ⟨.cells #[] e,ob,rv.ft off v.cells.toList⟩:=by rw[aa.eY,if_pos rfl]
     have hmg:H.merge ((H.restrict [n]).cE n (some ⟨.cells #[] e,ob,rv.ft off v.cells.toList⟩))=H.cE n (some ⟨.cells #[] e,ob,rv.ft off v.cells.toList⟩):=by
      unfold aa.merge
      rw[hd,hnx,zG5]
      simp only[aa.ey,aa.cJ,hgg]
      rfl
     simp only[ct,hw]
     refine⟨[n],undef,_,fP (x:=.skip) (g:=(H.restrict [n]).cE n (some ⟨.cells #[] e,ob,rv.ft off v.cells.toList⟩)) ?_ ⟨rfl,rfl⟩,?_,by rw[hd]; simp,fun r hr=>iS ?_,?_⟩
     ·rw[ho]
      simp only[ck,sK,hx,hy,hst,Kp,zA1,zA3,zA9]
     ·intro m hm'
      simp only[zA5]at hm'
      subst hm'
      intro hg
      simp[bH,hg]at hc
     ·have hi:fk ((H.restrict [n]).cE n (some ⟨.cells #[] e,ob,rv.ft off v.cells.toList⟩)) n=fk (H.cE n (some ⟨.cells #[] e,ob,rv.ft off v.cells.toList⟩)) n:=by
       simp only[fk,aa.eY,if_true]
      have:fZ undef ((H.restrict [n]).cE n (some ⟨.cells #[] e,ob,rv.ft off v.cells.toList⟩)) H.next=fk (H.cE n (some ⟨.cells #[] e,ob,rv.ft off v.cells.toList⟩)) n:=by
       simp only[fZ,hnx,hd,zG5,da,zD0,List.flatMap_cons,List.flatMap_nil,undef,ae,rf,gk,zC1]
       exact hi
      rw[hd,this]
      exact hm r hr
     ·rw[hmg,hd,hnx]; exact h
    ·cases hs
  ·cases hs
theorem Ft {ops:Array Oper} {anc:List Nat} {o:Oper} {rest:List Oper} {i:Nat} {fps:List Fp} {a:ag} {Q:ag->aa->Prop} {v:Value} {H1:aa} (hp:p9 o.op=true) (hw:cw ops a o=some true)
  (hx:ck o.op P a H=some (.value v,H1)) (hm:∀ r∈fps,cQ (anc.getD i 0) [] [] (ae v++fk H1 H.next) r)
  (h:ct P ops anc rest (i+1) (⟨i,[],[],H.next,H.next+1⟩::fps) (a.put o.dst v) H1 Q):ct P ops anc (o::rest) i fps a H Q:=by
 obtain⟨f,hf⟩:=OG (P:=P) hp a
 have hn:=aL H []
 rw[hf H]at hx
 cases hfn:f H.next with
 |none=>rw[hfn]at hx; cases hx
 |some z =>
  obtain⟨u,ob⟩:=z
  rw[hfn]at hx
  simp only[zA9,Option.some.injEq,Prod.mk.injEq,cP.value.injEq]at hx
  obtain⟨rfl,rfl⟩:=hx
  have hd:((H.restrict []).new ob).dirty=[]:=hn.2.2
  have hnx:((H.restrict []).new ob).next=H.next+1:=by simp only[aa.oK,hn.1]
  have hg:((H.restrict []).new ob).get H.next=some ob:=by rw[aa.fA,if_pos hn.1.symm]
  have hmg:H.merge ((H.restrict []).new ob)=H.new ob:=by
   unfold aa.merge
   rw[hd,hnx,zF8]
   simp only[aa.ey,aa.cJ,hg]
   rfl
  simp only[ct,hw]
  refine⟨[],u,(H.restrict []).new ob,fP (x:=.value u) (g:=(H.restrict []).new ob) ?_ ⟨rfl,rfl⟩,by simp,by rw[hd]; simp,fun r hr=>iS ?_,?_⟩
  ·rw[hf,hn.1,hfn]; rfl
  ·have hi:fk ((H.restrict []).new ob) H.next=fk (H.new ob) H.next:=by
    simp only[fk,hg,aa.fA,if_true]
   have:fZ u ((H.restrict []).new ob) H.next=ae u++fk (H.new ob) H.next:=by
    simp only[fZ,hnx,hd,zF8,da,zC1,List.flatMap_cons,List.flatMap_nil,zD0,hi]
   rw[hd,this]
   exact hm r hr
  ·rw[hmg,hd,hnx]; exact h
theorem gb {ops:Array Oper} {anc:List Nat} {Q:ag->aa->Prop}:∀ (rest:List Oper) (i:Nat) (fps:List Fp) (a:ag) (H:aa),fH P ops anc rest i fps a H Q->ct P ops anc rest i fps a H Q
 |[],_,_,_,_,h=>h
 |o::rest,i,fps,a,H,h=>by
  simp only[fH]at h
  split at h
  ·rename_i hw
   unfold ja at h
   split at h
   ·rename_i hp
    unfold Md at h
    split at h
    ·rename_i v g hx
     obtain⟨f,hf⟩:=CI (P:=P) hp a
     have hg:g=H:=by
      have:=hf H
      rw[hx]at this
      cases f with
      |none=>cases this
      |some y=>simp only[zA9,Option.some.injEq,Prod.mk.injEq]at this; exact this.2
     subst hg
     exact EG hp hw hx h.1 (gb rest _ _ _ _ h.2)
    ·exact h.elim
   ·split at h
    ·rename_i t x hop
     unfold K9 at h
     split at h
     ·rename_i n off hx
      split at h
      ·rename_i v hl
       exact Du hop hw hx hl h.1 (gb rest _ _ _ _ h.2)
      ·exact h.elim
     ·exact h.elim
    ·rename_i t x y hop
     unfold FU at h
     split at h
     ·rename_i n off v hx hy
      split at h
      ·rename_i H1 hs
       exact Ch hop hw hx hy hs h.1 h.2.1 (gb rest _ _ _ _ h.2.2)
      ·exact h.elim
     ·exact h.elim
    ·rename_i op t x y u hop
     have gen:BA P o a H (anc.getD i 0) i fps (fun fps' v H1=>fH P ops anc rest (i+1) fps' (a.put o.dst v) H1 Q)->ct P ops anc (o::rest) i fps a H Q:=by
      rintro⟨F,v,g,h1,h2,h3,h4,h5⟩
      simp only[ct,hw]
      exact⟨F,v,g,h1,h2,h3,h4,gb rest _ _ _ _ h5⟩
     unfold Oq at h
     split at h
     ·rename_i p q hx hy
      split at h
      ·rename_i v hv
       refine qE hw (fun G=>?_) h.1 (gb rest _ _ _ _ h.2)
       rw[hop]
       simp only[ck,Gt,hx,hy,zA1,zA3,Ec,Ew hv G]
      ·exact gen h
     ·exact gen h
    ·have gen:BA P o a H (anc.getD i 0) i fps (fun fps' v H1=>fH P ops anc rest (i+1) fps' (a.put o.dst v) H1 Q)->ct P ops anc (o::rest) i fps a H Q:=by
      rintro⟨F,v,g,h1,h2,h3,h4,h5⟩
      simp only[ct,hw]
      exact⟨F,v,g,h1,h2,h3,h4,gb rest _ _ _ _ h5⟩
     unfold pj at h
     split at h
     ·rename_i hp
      unfold PE at h
      split at h
      ·rename_i v H1 hx
       exact Ft hp hw hx h.1 (gb rest _ _ _ _ h.2)
      ·exact h.elim
     ·split at h
      ·rename_i b args ts hop
       unfold QJ at h
       split at h
       ·rename_i vs hvs
        split at h
        ·rename_i v hv
         refine qE hw (fun G=>?_) h.1 (gb rest _ _ _ _ h.2)
         rw[hop]
         simp only[ck,kc,hvs,zA1,zA3,yL hv G,sI,zA9]
        ·exact gen h
       ·exact gen h
      ·exact gen h
  ·rename_i hw
   simp only[ct,hw]
   exact gb rest _ _ _ _ h
  ·exact h.elim
section
variable {ops : Array Oper} {anc : List Nat} {d : Nat} {ty : TypeId} {pos : String} {after : Array Edge} {rest : List Oper} {i : Nat} {fps : List Fp} {Q : ag -> aa -> Prop}
def pX (P:Program) (ops:Array Oper) (anc:List Nat) (rest:List Oper) (i:Nat) (fps:List Fp) (N:Nat) (E:Env) (ds:List Deferred) (d:Nat) (H:aa) (Q:ag->aa->Prop):Option Value->Prop
 |some v=>iD (anc.getD i 0) fps (ae v)/\fH P ops anc rest (i+1) fps (bA N (cE E d v) ds) H Q
 |none=>False
theorem Az {v:Value}:pX P ops anc rest i fps N E ds d H Q (some v)=(iD (anc.getD i 0) fps (ae v)/\fH P ops anc rest (i+1) fps (bA N (cE E d v) ds) H Q):=by simp only[pX]
theorem Qp {Q:Exit->ag->aa->Prop} {id:Nat} {l:List Oper} {a:ag} (hst:gj ⟨l⟩=true) (h:fH P ⟨l⟩ (gS ⟨l⟩) l 0 [] a H (Q .normal)):gO P ro (.region id ⟨l⟩ true) Q a H :=
 ⟨hst,.inl (gb l 0 [] a H h)⟩
theorem Gj {a:ag}:fH P ops anc [] i fps a H Q=Q a H:=by simp only[fH]
theorem uG {op:Op} {x:Option Value} (hp:ib op=true) (h:ck op P (bA N E ds) H=rv H x) (hd:d<N):fH P ops anc (⟨some d,op,ty,pos,after,none⟩::rest) i fps (bA N E ds) H Q=pX P ops anc rest i fps N E ds d H Q x:=by
 simp only[fH,cw,ja,hp,h,rv]
 cases x with
 |none=>rfl
 |some v=>simp only[zA9,Md,dG N E ds d v hd,pX]
theorem GY {x:Operand} (hx:bj P N x=true) (hd:d<N):fH P ops anc (⟨some d,.move x,ty,pos,after,none⟩::rest) i fps (bA N E ds) H Q=pX P ops anc rest i fps N E ds d H Q (some (cm E x)) :=
 uG rfl (by simp only[ck,qn,aE hx]) hd
theorem Aw {x:Operand} (hx:bj P N x=true) (hd:d<N):fH P ops anc (⟨some d,.assign x,ty,pos,after,none⟩::rest) i fps (bA N E ds) H Q=pX P ops anc rest i fps N E ds d H Q (some (cm E x)) :=
 uG rfl (by simp only[ck,qn,aE hx]) hd
theorem sj {x:Operand} {t:TypeId} {f:Nat} (hx:bj P N x=true) (hd:d<N):fH P ops anc (⟨some d,.fieldAddr t x f,ty,pos,after,none⟩::rest) i fps (bA N E ds) H Q=pX P ops anc rest i fps N E ds d H Q (aH P t (cm E x) f) :=
 uG rfl (by simp only[ck,jh,aE hx,zA1,zA3]) hd
theorem r4 {x y:Operand} {t:TypeId} (hx:bj P N x=true) (hi:bj P N y=true) (hd:d<N):fH P ops anc (⟨some d,.indexAddr t x y,ty,pos,after,none⟩::rest) i fps (bA N E ds) H Q=pX P ops anc rest i fps N E ds d H Q (aP P t (cm E x) (cm E y)) :=
 uG rfl (by simp only[ck,jq,aE hx,aE hi,zA1,zA3]) hd
theorem xW {x:Operand} {k:Nat} (hx:bj P N x=true) (hd:d<N):fH P ops anc (⟨some d,.extract x k,ty,pos,after,none⟩::rest) i fps (bA N E ds) H Q=pX P ops anc rest i fps N E ds d H Q (RJ k (cm E x)) :=
 uG rfl (by
  simp only[ck,mN,aE hx,zA1,zA3,kR]
  cases cm E x<;>rfl) hd
theorem ug {x:Operand} (hx:bj P N x=true) (hd:d<N) (h:(Cx P (cm E x)).isSome=true):fH P ops anc (⟨some d,.nilCheck x,ty,pos,after,none⟩::rest) i fps (bA N E ds) H Q=pX P ops anc rest i fps N E ds d H Q (Cx P (cm E x)) :=
 uG rfl (by
  simp only[ck,JS,aE hx,zA1,zA3]
  simp only[Cx]at h ⊢
  unfold y9 at h ⊢
  split<;>simp_all [rv]) hd
theorem EI {t:TypeId} {l:List (Nat × Operand)} (hd:d<N):fH P ops anc (⟨some d,.build t ⟨l⟩,ty,pos,after,none⟩::rest) i fps (bA N E ds) H Q=pX P ops anc rest i fps N E ds d H Q ((gH P (bA N E ds) l).bind (er P t)) :=
 uG rfl (by
  simp only[ck,tR,zA1]
  cases gH P (bA N E ds) l<;>rfl) hd
theorem HB {c x y:Operand} (hc:bj P N c=true) (hx:bj P N x=true) (hy:bj P N y=true) (hd:d<N):fH P ops anc (⟨some d,.pick c x y,ty,pos,after,none⟩::rest) i fps (bA N E ds) H Q=pX P ops anc rest i fps N E ds d H Q (AQ (cm E x) (cm E y) (cm E c)) :=
 uG rfl (by
  simp only[ck,zK,aE hc,aE hx,aE hy,zA1,zA3]
  cases cm E c with
  |bool b=>cases b<;>rfl
  |_=>rfl) hd
theorem MA {op:BinOp} {t u:TypeId} {x y:Operand} (hx:bj P N x=true) (hy:bj P N y=true) (hd:d<N) (h:(ee P op t (cm E x) (cm E y)).isSome=true):fH P ops anc (⟨some d,.binOp op t x y u,ty,pos,after,none⟩::rest) i fps (bA N E ds) H Q=pX P ops anc rest i fps N E ds d H Q (ee P op t (cm E x) (cm E y)):=by
 cases hv:ee P op t (cm E x) (cm E y) with
 |none=>rw[hv]at h; cases h
 |some v=>simp only[fH,cw,ja,ib,Oq,aE hx,aE hy,hv,dG N E ds d v hd,pX]
def Hj (P:Program) (ops:Array Oper) (anc:List Nat) (rest:List Oper) (i:Nat) (fps:List Fp) (N:Nat) (E:Env) (ds:List Deferred) (d:Nat) (H:aa) (Q:ag->aa->Prop) (n:Nat):Option Value->Prop
 |some v=>(∀ r∈fps,cQ (anc.getD i 0) [n] [] (ae v) r)/\fH P ops anc rest (i+1) (⟨i,[n],[],H.next,H.next⟩::fps) (bA N (cE E d v) ds) H Q
 |none=>False
theorem wS {n:Nat} {v:Value}:Hj P ops anc rest i fps N E ds d H Q n (some v)=((∀ r∈fps,cQ (anc.getD i 0) [n] [] (ae v) r)/\fH P ops anc rest (i+1) (⟨i,[n],[],H.next,H.next⟩::fps) (bA N (cE E d v) ds) H Q):=by simp only[Hj]
def Km:Value->Nat
 |.pointer (some a)=>a.block
 |_=>0
def mO:Value->Bool
 |.pointer (some ⟨_,_,none⟩)=>true
 |_=>false
theorem HS {n off:Nat}:Km (.pointer (some ⟨n,off,none⟩))=n:=by simp only[Km]
theorem ux {n off:Nat}:mO (.pointer (some ⟨n,off,none⟩))=true:=by simp only[mO]
theorem Hv {x:Operand} {t:TypeId} (hx:bj P N x=true) (hd:d<N) (hp:mO (cm E x)=true):fH P ops anc (⟨some d,.load t x,ty,pos,after,none⟩::rest) i fps (bA N E ds) H Q=Hj P ops anc rest i fps N E ds d H Q (Km (cm E x)) (ga P H t (cm E x)):=by
 simp only[fH,cw,ja,ib,aE hx]
 unfold mO at hp
 split at hp
 ·rename_i n off heq
  rw[heq]
  simp only[K9,Km]
  cases ga P H t (.pointer (some ⟨n,off,none⟩)) with
  |none=>rfl
  |some v=>simp only[dG N E ds d v hd,Hj]
 ·cases hp
def nA (P:Program) (ops:Array Oper) (anc:List Nat) (o:Oper) (rest:List Oper) (i:Nat) (fps:List Fp) (a:ag) (H:aa) (Q:ag->aa->Prop):Prop :=
 BA P o a H (anc.getD i 0) i fps fun fps' v H1=>fH P ops anc rest (i+1) fps' (a.put o.dst v) H1 Q
theorem Ie {f:Operand} {args:Array Operand} {ts:Array TypeId} {dst:Option Nat}:fH P ops anc (⟨dst,.call ⟨.value f,args,ts⟩,ty,pos,after,none⟩::rest) i fps (bA N E ds) H Q=nA P ops anc ⟨dst,.call ⟨.value f,args,ts⟩,ty,pos,after,none⟩ rest i fps (bA N E ds) H Q:=by
 simp only[fH,cw,ja,ib,pj,p9,nA]
theorem bx {f:FuncId} {args:List Operand} {ts:Array TypeId} {v:Value} (F:List Nat) (ha:args.all (bj P N)=true) (hb:aF P f=true) (hd:d<N) (hF:∀ n∈F,H.get n≠none)
  (hc:∀ G:aa,G.next=H.next->(∀ n∈F,G.get n=H.get n)->br P f (args.map (cm E)) G (.ok v) G) (hm:∀ r∈fps,cQ (anc.getD i 0) F [] (ae v) r)
  (h:fH P ops anc rest (i+1) (⟨i,F,[],H.next,H.next⟩::fps) (bA N (cE E d v) ds) H Q):nA P ops anc ⟨some d,.call ⟨.value (.func f),⟨args⟩,ts⟩,ty,pos,after,none⟩ rest i fps (bA N E ds) H Q:=by
 have hn:=aL H F
 refine⟨F,v,H.restrict F,?_,hF,(by rw[hn.2.2]; simp),fun r hr=>iS ?_,?_⟩
 ·refine fP (x:=.enter f (args.map (cm E))) (g:=H.restrict F) ?_ (hc _ hn.1 (fun n hn'=>by rw[aU,if_pos hn']))
  simp only[ck,kc,cp ha,aK,zA1,zA3,oA,fq,iU,hb,if_true,zC1,zD0,zA9]
 ·simp only[fZ,hn.2.2,hn.1,zG5,da,zD0,List.flatMap_nil]
  exact hm r hr
 ·rw[nv,hn.2.2,hn.1]
  simp only[dG N E ds d v hd]
  exact h
theorem HG {t:TypeId} {k:IntKind} {x y:Int}:ee P .add t (.int k x) (.int k y)=some (.int k (k.wrap (x+y))):=by simp[ee,eD]
theorem GH {t:TypeId} {k:IntKind} {x y:Int}:ee P .sub t (.int k x) (.int k y)=some (.int k (k.wrap (x-y))):=by simp[ee,eD]
theorem HE {t:TypeId} {k:IntKind} {x y:Int}:ee P .lss t (.int k x) (.int k y)=some (.bool (decide (x<y))):=by simp[ee,eD]
theorem GQ {t:TypeId} {k:IntKind} {x y:Int}:ee P .leq t (.int k x) (.int k y)=some (.bool (decide (x<=y))):=by simp[ee,eD]
theorem Hs {t:TypeId} {k:IntKind} {x y:Int}:ee P .gtr t (.int k x) (.int k y)=some (.bool (decide (y<x))):=by simp[ee,eD]
theorem GC {t:TypeId} {k:IntKind} {x y:Int}:ee P .geq t (.int k x) (.int k y)=some (.bool (decide (y<=x))):=by simp[ee,eD]
theorem Hq {t:TypeId} {k:IntKind} {x y:Int}:ee P .eql t (.int k x) (.int k y)=some (.bool (decide (x=y))):=by simp[ee,eD]; rfl
theorem Nh {ts:Array TypeId} {k:IntKind} {x y:Int}:aD P H .max ts [.int k x,.int k y]=some (.int k (max x y),H):=by
 have:(if y>x then y else x)=max x y:=by split<;>omega
 simp[aD,fT,this]
theorem LW {ts:Array TypeId} {k:IntKind} {x y:Int}:aD P H .min ts [.int k x,.int k y]=some (.int k (min x y),H):=by
 have:(if y<x then y else x)=min x y:=by split<;>omega
 simp[aD,fT,this]
def B0 (P:Program) (ops:Array Oper) (anc:List Nat) (rest:List Oper) (i:Nat) (fps:List Fp) (a:ag) (H:aa) (Q:ag->aa->Prop) (n:Nat):Option aa->Prop
 |some H1=>n<H.next/\(∀ r∈fps,cQ (anc.getD i 0) [n] [n] (fk H1 n) r)/\fH P ops anc rest (i+1) (⟨i,[n],[n],H.next,H.next⟩::fps) a H1 Q
 |none=>False
theorem uk {n:Nat} {a:ag} {H1:aa}:B0 P ops anc rest i fps a H Q n (some H1)=(n<H.next/\(∀ r∈fps,cQ (anc.getD i 0) [n] [n] (fk H1 n) r)/\fH P ops anc rest (i+1) (⟨i,[n],[n],H.next,H.next⟩::fps) a H1 Q):=by simp only[B0]
theorem CW {x y:Operand} {t:TypeId} (hx:bj P N x=true) (hy:bj P N y=true) (hp:mO (cm E x)=true):fH P ops anc (⟨none,.store t x y,ty,pos,after,none⟩::rest) i fps (bA N E ds) H Q=B0 P ops anc rest i fps (bA N E ds) H Q (Km (cm E x)) (eW P H t (cm E x) (cm E y)):=by
 simp only[fH,cw,ja,ib,aE hx,aE hy]
 unfold mO at hp
 split at hp
 ·rename_i n off heq
  rw[heq]
  simp only[FU,Km]
  cases eW P H t (.pointer (some ⟨n,off,none⟩)) (cm E y) with
  |none=>rfl
  |some H1=>simp only[xi,B0]
 ·cases hp
def Kj (P:Program) (ops:Array Oper) (anc:List Nat) (rest:List Oper) (i:Nat) (fps:List Fp) (N:Nat) (E:Env) (ds:List Deferred) (d:Nat) (H:aa) (Q:ag->aa->Prop):Option (Value × aa)->Prop
 |some (v,H1)=>(∀ r∈fps,cQ (anc.getD i 0) [] [] (ae v++fk H1 H.next) r)/\fH P ops anc rest (i+1) (⟨i,[],[],H.next,H.next+1⟩::fps) (bA N (cE E d v) ds) H1 Q
 |none=>False
theorem AE {v:Value} {H1:aa}:Kj P ops anc rest i fps N E ds d H Q (some (v,H1))=((∀ r∈fps,cQ (anc.getD i 0) [] [] (ae v++fk H1 H.next) r)/\fH P ops anc rest (i+1) (⟨i,[],[],H.next,H.next+1⟩::fps) (bA N (cE E d v) ds) H1 Q):=by simp only[Kj]
theorem KA {op:Op} {x:Option (Value × aa)} (hp:p9 op=true) (h:ck op P (bA N E ds) H=sI x) (hd:d<N):fH P ops anc (⟨some d,op,ty,pos,after,none⟩::rest) i fps (bA N E ds) H Q=Kj P ops anc rest i fps N E ds d H Q x:=by
 have h1:ib op=false:=by cases op<;>first|rfl|cases hp
 have h2:ja P ⟨some d,op,ty,pos,after,none⟩ (bA N E ds) H=pj P ⟨some d,op,ty,pos,after,none⟩ (bA N E ds) H:=by
  funext anc i fps K
  cases op<;>first|rfl|cases hp
 simp only[fH,cw,h2,pj,hp,h,sI]
 cases x with
 |none=>rfl
 |some v=>simp only[zA9,PE,dG N E ds d v.1 hd,Kj]
theorem MD {t:TypeId} {x:Operand} (hx:bj P N x=true) (hd:d<N):fH P ops anc (⟨some d,.box t x,ty,pos,after,none⟩::rest) i fps (bA N E ds) H Q=Kj P ops anc rest i fps N E ds d H Q (ti H t (some (cm E x))) :=
 KA rfl (by
  simp only[ck,sQ,aE hx,zA1,zA3,xT,ti,sI]
  cases cF H t (cm E x).cells.toList false<;>rfl) hd
theorem qq {t:TypeId} {n:Nat} {l:List (Nat × Operand)} (hd:d<N):fH P ops anc (⟨some d,.buildSlice t n ⟨l⟩,ty,pos,after,none⟩::rest) i fps (bA N E ds) H Q=Kj P ops anc rest i fps N E ds d H Q ((gH P (bA N E ds) l).bind (b7 P H t n)) :=
 KA rfl (by
  simp only[ck,iz,zA1]
  cases gH P (bA N E ds) l<;>rfl) hd
theorem xN {b:Builtin} {args:List Operand} {ts:Array TypeId} (ha:args.all (bj P N)=true) (hd:d<N) (h:(kU P b ts (args.map (cm E))).isSome=true) :
  fH P ops anc (⟨some d,.call ⟨.builtin b,⟨args⟩,ts⟩,ty,pos,after,none⟩::rest) i fps (bA N E ds) H Q=pX P ops anc rest i fps N E ds d H Q (kU P b ts (args.map (cm E))):=by
 cases hv:kU P b ts (args.map (cm E)) with
 |none=>rw[hv]at h; cases h
 |some v=>simp only[fH,cw,ja,ib,pj,p9,QJ,cp ha,hv,dG N E ds d v hd,pX]
theorem MG {ts:Array TypeId} {k:IntKind} {x y:Int}:kU P .max ts [.int k x,.int k y]=some (.int k (max x y)):=by
 have:(if y>x then y else x)=max x y:=by split<;>omega
 simp[kU,fT,this]
theorem M1 {ts:Array TypeId} {k:IntKind} {x y:Int}:kU P .min ts [.int k x,.int k y]=some (.int k (min x y)):=by
 have:(if y<x then y else x)=min x y:=by split<;>omega
 simp[kU,fT,this]
def je (P:Program) (ops:Array Oper) (anc:List Nat) (o:Oper) (rest:List Oper) (i:Nat) (fps:List Fp) (N:Nat) (E:Env) (ds:List Deferred) (H:aa) (Q:ag->aa->Prop) (want:Bool):Value->Prop
 |.bool b=>if b=want then fH P ops anc (o::rest) i fps (bA N E ds) H Q else fH P ops anc rest (i+1) fps ((bA N E ds).put o.dst undef) H Q
 |_=>fH P ops anc rest (i+1) fps ((bA N E ds).put o.dst undef) H Q
theorem FW {op:Op} {dst:Option Nat} {g:Option (Nat × Bool)} {a:ag} {anc i:Nat} {K:List Fp->Value->aa->Prop}:BA P ⟨dst,op,ty,pos,after,g⟩ a H anc i fps K=BA P ⟨dst,op,ty,pos,after,none⟩ a H anc i fps K:=rfl
theorem Dt {op:Op} {dst:Option Nat} {g:Option (Nat × Bool)} {a:ag} {anc i:Nat} {K:List Fp->Value->aa->Prop}:ja P ⟨dst,op,ty,pos,after,g⟩ a H anc i fps K=ja P ⟨dst,op,ty,pos,after,none⟩ a H anc i fps K:=by
 unfold ja pj
 simp only[FW (g:=g)]
theorem KJ {dst:Option Tmp} {op:Op} {j d:Nat} {want:Bool} (hj:lO ops j=some d) (hd:d<N) :
  fH P ops anc (⟨dst,op,ty,pos,after,some (j,want)⟩::rest) i fps (bA N E ds) H Q=je P ops anc ⟨dst,op,ty,pos,after,none⟩ rest i fps N E ds H Q want (E d):=by
 unfold lO at hj
 cases ho:ops[j]? with
 |none=>rw[ho]at hj; cases hj
 |some oj =>
  rw[ho]at hj
  simp only[zA3]at hj
  have hw:cw ops (bA N E ds) ⟨dst,op,ty,pos,after,some (j,want)⟩=(match E d with
    |.bool b=>some (b == want)
    |_=>some false):=by
   simp only[cw,ho,hj,x7 N E ds d hd]
   cases E d<;>rfl
  have hn:cw ops (bA N E ds) ⟨dst,op,ty,pos,after,none⟩=some true:=rfl
  cases hv:E d with
  |bool b =>
   rw[hv]at hw
   simp only[je]
   by_cases h:b=want
   ·rw[if_pos h]
    have:(b == want)=true:=by simpa using h
    simp only[fH,hw,this,hn]
    exact Dt
   ·rw[if_neg h]
    have:(b == want)=false:=by simpa using h
    simp only[fH,hw,this]
  |_=>rw[hv]at hw; simp only[fH,hw,je]
theorem Al {anc:Nat} {O:List Nat}:iD anc [] O=True:=by simp[iD]
theorem uq {anc j n:Nat} {F W O:List Nat}:iD anc (⟨j,F,W,n,n⟩::fps) O=iD anc fps O:=by simp[iD]
end
end
structure Grow (H H1:aa):Prop where
 next:H.next<=H1.next
 get:∀ n,n<H.next->H1.get n=H.get n
 base:H1.base=H.base
 dirty:H1.dirty=H.dirty
theorem uT {anc:Nat} {fps:List Fp}:iD anc fps []=True:=by simp[iD]
theorem HO {k:IntKind} {n:Int}:ae (.int k n)=[]:=by simp only[ae]
theorem Er {b:Bool}:ae (.bool b)=[]:=by simp only[ae]
theorem HQ {a:Addr}:ae (.pointer (some a))=[a.block]:=by simp only[ae]
theorem Hf {l:List Value}:ae (.agg ⟨l⟩)=gk l:=by simp only[ae,rf]
theorem Dm {f:FuncId}:ae (.func (.func f) ⟨[]⟩ ⟨[]⟩)=[]:=by simp[ae,rf,gk]
theorem Dv:gk []=[]:=by simp only[gk]
theorem AO {v:Value} {r:List Value}:gk (v::r)=ae v++gk r:=by simp only[gk]
section
variable {P : Program} {H : aa} {N : Nat} {E : Env} {ds : List Deferred} {ops : Array Oper} {anc : List Nat} {d : Nat} {ty : TypeId} {pos : String} {after : Array Edge} {rest : List Oper} {i : Nat} {fps : List Fp} {Q : ag -> aa -> Prop}
end
theorem eK {α:Type} (d v w:α):∀ (l:List α) (i:Nat),fV d (fV d l i v) i w=fV d l i w
 |[],0=>rfl
 |[],i+1=>by simp only[fV,eK d v w [] i]
 |_::_,0=>rfl
 |x::r,i+1=>by simp only[fV,eK d v w r i]
theorem jl {α:Type} (d v w:α):∀ (l:List α) (i j:Nat),i≠j->fV d (fV d l i v) j w=fV d (fV d l j w) i v
 |[],0,0,h=>absurd rfl h
 |[],0,_+1,_=>rfl
 |[],_+1,0,_=>rfl
 |[],i+1,j+1,h=>by simp only[fV,jl d v w [] i j (by omega)]
 |_::_,0,0,h=>absurd rfl h
 |_::_,0,_+1,_=>rfl
 |_::_,_+1,0,_=>rfl
 |x::r,i+1,j+1,h=>by simp only[fV,jl d v w r i j (by omega)]
theorem Bz (R:List (List (List (Option dw)))) (n:Nat) (o o':Option dw):ek (ek R n o) n o'=ek R n o':=by
 simp only[ek,eI,if_true,eK]
theorem Bk (R:List (List (List (Option dw)))) {n m:Nat} (o o':Option dw) (h:n≠m):ek (ek R n o) m o'=ek (ek R m o') n o:=by
 simp only[ek,eI]
 by_cases h1:m / 256=n / 256
 ·rw[if_pos h1,if_pos h1.symm]
  simp only[eI]
  by_cases h2:m / 16 % 16=n / 16 % 16
  ·rw[if_pos h2,if_pos h2.symm,h1,h2,eK,eK,eK,eK,jl none o o' _ _ _ (by omega)]
  ·rw[if_neg h2,if_neg (fun e=>h2 e.symm),h1,eK,eK,jl _ _ _ _ _ _ (fun e=>h2 e.symm)]
 ·rw[if_neg h1,if_neg (fun e=>h1 e.symm),jl _ _ _ _ _ _ (fun e=>h1 e.symm)]
theorem RV.MJ (v:RV) (i:Nat) (x y:Value):(v.set i x).set i y=v.set i y:=by
 simp only[RV.FV,eI,if_true,eK]
theorem RV.set_comm (v:RV) {i j:Nat} (x y:Value) (h:i≠j):(v.set i x).set j y=(v.set j y).set i x:=by
 simp only[RV.FV,eI]
 by_cases h1:j / 16=i / 16
 ·rw[if_pos h1,if_pos h1.symm,h1,eK,eK,jl _ _ _ _ _ _ (by omega)]
 ·rw[if_neg h1,if_neg (fun e=>h1 e.symm),jl _ _ _ _ _ _ (fun e=>h1 e.symm)]
theorem RV.Lv (l:List Value):∀ (v:RV) (i j:Nat) (y:Value),j<i->(v.ft i l).set j y=(v.set j y).ft i l:=by
 induction l with
 |nil=>intros; rfl
 |cons x r ih =>
  intro v i j y h
  simp only[RV.ft]
  rw[ih _ _ _ _ (by omega),RV.set_comm _ _ _ (by omega)]
def cL:List Value->Nat->List Value->List Value
 |[],_,_=>[]
 |x::r,0,[]=>x::r
 |_::r,0,y::ys=>y::cL r 0 ys
 |x::r,k+1,vs=>x::cL r k vs
theorem jP:∀ (l:List Value) (off:Nat) (vs:List Value),(cL l off vs).length=l.length
 |[],_,_=>rfl
 |_::_,0,[]=>rfl
 |_::r,0,y::ys=>by simp only[cL,zB0,jP r 0 ys]
 |x::r,k+1,vs=>by simp only[cL,zB0,jP r k vs]
theorem oW:∀ (l:List Value) (off:Nat) (vs:List Value),off+vs.length<=l.length->cL l off vs=tE l off vs
 |[],off,vs,h=>by
  simp only[zB6]at h
  have h1:off=0:=by omega
  have h2:vs=[]:=List.length_eq_zero_iff.1 (by omega)
  subst h1 h2; rfl
 |x::r,0,[],_=>by simp[cL,tE]
 |x::r,0,y::ys,h=>by
  have:=oW r 0 ys (by simp only[zB0]at h; omega)
  simp only[tE,List.take_zero,zC1,zB8]at this
  simp[cL,tE,this]
 |x::r,k+1,vs,h=>by
  have:=oW r k vs (by simp only[zB0]at h; omega)
  rw[cL,this]
  simp[tE,Nat.add_right_comm k 1 vs.length]
theorem RV.we:∀ (l:List Value) (v:RV) (k off:Nat) (vs:List Value),off+vs.length<=l.length->(v.ft k l).ft (k+off) vs=v.ft k (cL l off vs)
 |[],v,k,off,vs,h=>by
  have h2:vs=[]:=List.length_eq_zero_iff.1 (by simp only[zB6]at h; omega)
  subst h2
  rfl
 |x::r,v,k,0,[],_=>rfl
 |x::r,v,k,0,y::ys,h=>by
  have ih:=RV.we r (v.set k y) (k+1) 0 ys (by simp only[zB0]at h; omega)
  simp only[RV.ft,cL,zE1]at ih ⊢
  rw[RV.Lv _ _ _ _ _ (zD9 k),RV.MJ]
  exact ih
 |x::r,v,k,off+1,vs,h=>by
  have ih:=RV.we r (v.set k x) (k+1) off vs (by simp only[zB0]at h; omega)
  simp only[RV.ft,cL]
  rw[show k+(off+1)=k+1+off by omega]
  exact ih
theorem RV.LF (l:List Value):∀ (t:List (List Value)) (n m i:Nat),({RV.ft ⟨t,n⟩ i l with n:=m}:RV)=RV.ft ⟨t,m⟩ i l:=by
 induction l with
 |nil=>intros; rfl
 |cons x r ih=>intro t n m i; simp only[RV.ft,RV.FV]; exact ih _ n m _
theorem RV.Dx (l:List Value) (off:Nat) (vs:List Value) (h:off+vs.length<=l.length):(RV.ofList l).ft off vs=RV.ofList (cL l off vs):=by
 rw[RV.ofList_eq,RV.ofList_eq]
 rw[RV.LF,RV.LF,jP]
 have:=RV.we l ⟨[],l.length⟩ 0 off vs h
 rw[zB8]at this
 exact this
theorem RV.jA (l:List Value):(RV.ofList l).jK 0 l.length=l:=by
 apply List.ext_getElem?
 intro i
 rw[RV.gA]
 by_cases hi:i<l.length
 ·simp[hi,RV.cb,List.getD]
 ·rw[zC5 (by simpa using hi),zC5 (by omega)]
structure Bl where
 e:TypeId
 o:Bool
 l:List Value
def Bl.obj (b:Bl):dw:=⟨.cells #[] b.e,b.o,RV.ofList b.l⟩
def ext (H:aa):List Bl->aa
 |[]=>H
 |b::r=>ext (nw H b.e b.l b.o) r
section
variable {P : Program} {H : aa} {L : List Bl}
theorem ext_nil:ext H []=H:=rfl
theorem ai:∀ {L:List Bl} {H:aa},(ext H L).next=H.next+L.length
 |[],_=>rfl
 |b::r,H=>by rw[ext,ai,iW,zB0]; omega
theorem xE:∀ {L:List Bl} {H:aa},(ext H L).base=H.base
 |[],_=>rfl
 |b::r,H=>by rw[ext,xE,Ii]
theorem gv:∀ {L:List Bl} {H:aa},(ext H L).dirty=H.dirty
 |[],_=>rfl
 |b::r,H=>by rw[ext,gv,Lw]
theorem bK:∀ {L:List Bl} {H:aa} {n:Nat},n<H.next->(ext H L).get n=H.get n
 |[],_,_,_=>rfl
 |b::r,H,n,h=>by rw[ext,bK (by rw[iW]; omega),Mi _ _ _ (by omega)]
theorem fh:∀ {L:List Bl} {H:aa} {i:Nat},i<L.length->(ext H L).get (H.next+i)=L[i]?.map Bl.obj
 |[],_,_,h=>absurd h (by simp)
 |b::r,H,0,_=>by
  rw[ext,bK (by rw[iW]; omega),nw,aa.fA,if_pos (by omega)]
  rfl
 |b::r,H,i+1,h=>by
  have:=fh (L:=r) (H:=nw H b.e b.l b.o) (i:=i) (by simpa using h)
  rw[iW]at this
  rw[ext,show H.next+(i+1)=H.next+1+i by omega,this]
  simp
theorem oV:∀ {L:List Bl} {H:aa} {n:Nat},H.next+L.length<=n->(ext H L).get n=H.get n
 |[],_,_,_=>rfl
 |b::r,H,n,h=>by
  rw[zB0]at h
  rw[ext,oV (by rw[iW]; omega),Mi _ _ _ (by omega)]
theorem yS:∀ {L:List Bl} {H:aa} (e:TypeId) (l:List Value) (o:Bool),nw (ext H L) e l o=ext H (L++[⟨e,o,l⟩])
 |[],_,_,_,_=>rfl
 |b::r,H,e,l,o=>by rw[ext,yS,zE7,ext]
theorem jr:∀ {L M:List Bl} {H:aa},ext (ext H L) M=ext H (L++M)
 |[],_,_=>rfl
 |b::r,M,H=>by rw[ext,jr,zE7,ext]
theorem Ov {n:Nat} {o:Option dw} {x:dw} (h:n<H.next):(H.new x).cE n o=(H.cE n o).new x:=by
 simp only[aa.et,aa.oK]
 rw[Bk _ _ _ (Nat.ne_of_gt h)]
theorem ln:∀ {L:List Bl} {H:aa} {n:Nat} {o:Option dw},n<H.next->(ext H L).cE n o=ext (H.cE n o) L
 |[],_,_,_,_=>rfl
 |b::r,H,n,o,h=>by
  rw[ext,ln (by rw[iW]; omega),ext]
  congr 1
  exact Ov h
theorem GN {o x:dw} (h:H.base<=H.next):(H.new x).cE H.next (some o)=H.new o:=by
 have:Nat.blt H.next H.base=false:=by
  cases hb:Nat.blt H.next H.base with
  |false=>rfl
  |true=>have:=bN hb; omega
 simp only[aa.et,aa.oK,Bz,this,zC4,if_false]
theorem uy:∀ {L:List Bl} {H:aa} {i:Nat} {b:Bl},H.base<=H.next->i<L.length->(ext H L).cE (H.next+i) (some b.obj)=ext H (L.set i b)
 |[],_,_,_,_,h=>absurd h (by simp)
 |c::r,H,0,b,hb,_=>by
  rw[ext,ln (by rw[iW]; omega),List.set_cons_zero,ext]
  congr 1
  exact GN hb
 |c::r,H,i+1,b,hb,h=>by
  have:=uy (L:=r) (H:=nw H c.e c.l c.o) (i:=i) (b:=b) (by rw[iW,Ii]; omega) (by simpa using h)
  rw[iW]at this
  rw[ext,show H.next+(i+1)=H.next+1+i by omega,this,List.set_cons_succ,ext]
def bk (H:aa) (n:Nat):Option Bl:=(bH H n).map fun x=>⟨x.2.1,x.2.2,x.1.jK 0 x.1.n⟩
theorem bg {H G:aa} {n:Nat} (h:H.get n=G.get n):bk H n=bk G n:=by simp only[bk,bH,h]
theorem dT {n:Nat} {b:Bl} (h:bk H n=some b):H.get n≠none:=by
 intro hg
 simp[bk,bH,hg]at h
theorem qY {n:Nat} {b:Bl} (h:bk H n=some b):QI H n b.e b.o b.l:=by
 unfold bk at h
 cases hc:bH H n with
 |none=>rw[hc]at h; cases h
 |some x =>
  rw[hc]at h
  obtain⟨rv,e,o⟩:=x
  cases h
  exact⟨rv,hc,by simp,fun i hi=>by rw[RV.length_gets]at hi; rw[RV.pV _ _ _ _ hi,zB8]⟩
theorem PM {n:Nat} {e:TypeId} {o:Bool} {l:List Value} (h:QI H n e o l):bk H n=some ⟨e,o,l⟩:=by
 obtain⟨rv,hc,hn,hg⟩:=h
 simp only[bk,hc,zA9]
 rw[hn,QI.jK hn hg 0 l.length (by omega)]
 simp
theorem iN {n:Nat} (h:n<H.next):bk (ext H L) n=bk H n:=bg (bK h)
theorem QC {b i:Nat} (h:H.next=b):bk (ext H L) (b+i)=if i<L.length then L[i]? else bk H (b+i):=by
 subst h
 by_cases hi:i<L.length
 ·rw[if_pos hi]
  simp only[bk,bH,fh hi]
  rw[zB1 hi]
  simp only[zA9,Bl.obj,RV.n_ofList,RV.jA]
 ·rw[if_neg hi]
  exact bg (oV (by omega))
def qk (H:aa) (n:Nat):Option Bl :=
 match H.get n with
 |some ⟨.cells _ e (_+1,_),o,v⟩=>some ⟨e,o,v.jK 0 v.n⟩
 |_=>none
def EO:Option Bl->Option Bl->Option Bl
 |some b,_=>some b
 |none,x=>x
theorem iM {b:Bl} {x:Option Bl}:EO (some b) x=some b:=rfl
abbrev rk (H:aa) (n:Nat):Option Bl:=EO (bk H n) (qk H n)
theorem Ld {H G:aa} {n:Nat} (h:H.get n=G.get n):qk H n=qk G n:=by simp only[qk,h]
theorem nf {H G:aa} {n:Nat} (h:H.get n=G.get n):rk H n=rk G n:=by simp only[rk,bg h,Ld h]
theorem jR {n:Nat} {b:Bl} (h:bk H n=some b):rk H n=some b:=by simp only[rk,h,EO]
theorem G4 {n:Nat}:rk H n=(aR H n).map fun x=>⟨x.2.1,x.2.2,x.1.jK 0 x.1.n⟩:=by
 unfold rk bk qk bH aR
 cases H.get n with
 |none=>rfl
 |some o =>
  obtain⟨ob,op,v⟩:=o
  cases ob with
  |cells c e f =>
   obtain⟨k,g⟩:=f
   cases k<;>rfl
  |_=>rfl
theorem L3 {n:Nat} {b:Bl} (h:rk H n=some b):H.get n≠none:=by
 intro hg
 rw[G4]at h
 simp[aR,hg]at h
theorem KC {n:Nat} {b:Bl} (h:rk H n=some b):∃ rv,aR H n=some (rv,b.e,b.o)/\rv.n=b.l.length/\∀ i,i<b.l.length->rv.get i=b.l.getD i undef:=by
 rw[G4]at h
 cases hc:aR H n with
 |none=>rw[hc]at h; cases h
 |some x =>
  rw[hc]at h
  obtain⟨rv,e,o⟩:=x
  cases h
  exact⟨rv,rfl,by simp,fun i hi=>by rw[RV.length_gets]at hi; rw[RV.pV _ _ _ _ hi,zB8]⟩
theorem dQ {n:Nat} (h:n<H.next):qk (ext H L) n=qk H n:=Ld (bK h)
theorem Lg {n:Nat} (h:n<H.next):rk (ext H L) n=rk H n:=nf (bK h)
def oL (P:Program) (t:TypeId) (off:Nat):Option Bl->Option Value
 |none=>none
 |some b=>(match eX P t with
  |some true=>(bh P t).bind fun sz=>if off+sz<=b.l.length then some (.agg ⟨(b.l.drop off).take sz⟩) else none
  |some false=>b.l[off]?
  |none=>none)
theorem Hi {t:TypeId} {n off:Nat}:ga P H t (.pointer (some ⟨n,off,none⟩))=oL P t off (EO (bk H n) (qk H n)):=by
 show _=oL P t off (rk H n)
 cases hb:rk H n with
 |none =>
  have:aR H n=none:=by
   rw[G4]at hb
   simpa using hb
  simp only[ga,this,oL,zA1,Option.bind_none]
 |some b =>
  have hblk:=KC hb
  simp only[oL]
  obtain⟨rv,h1,h2,h3⟩:=hblk
  simp only[ga,h1,zA1,zA3]
  cases eX P t with
  |none=>rfl
  |some x =>
   cases x with
   |false =>
    simp only[zA3]
    by_cases h:off<b.l.length
    ·rw[if_pos (a8 (by omega)),h3 off h]
     simp[List.getD,h]
    ·rw[if_neg (fun e=>h (by have:=bN e; omega)),zC5 (by omega)]
   |true =>
    simp only[zA3]
    cases bh P t with
    |none=>rfl
    |some sz =>
     simp only[zA3]
     by_cases h:off+sz<=b.l.length
     ·rw[if_pos (by rw[zE6]; omega),if_pos h,QI.jK h2 h3 off sz h]
     ·rw[if_neg (by rw[zE6]; omega),if_neg h]
theorem kF {t e:TypeId} {o:Bool} {l:List Value} {off:Nat} (h:eX P t=some false):oL P t off (some ⟨e,o,l⟩)=l[off]?:=by simp only[oL,h]
theorem sJ {t e:TypeId} {o:Bool} {l:List Value} {off:Nat} (h:eX P t=some true):oL P t off (some ⟨e,o,l⟩)=(bh P t).bind fun sz=>if off+sz<=l.length then some (.agg ((l.drop off).take sz).toArray) else none:=by simp only[oL,h]
structure WF (P:Program) (H:aa):Prop where
 base:H.base<=H.next
 glob:P.globals.size<=H.next
 dom:∀ n o,H.get n=some o->n<H.next/\ki H.next o
theorem WF.lt (w:WF P H) {n:Nat} {b:Bl} (h:bk H n=some b):n<H.next:=by
 cases hg:H.get n with
 |none=>exact absurd hg (dT h)
 |some o=>exact (w.dom n o hg).1
theorem eN {e:TypeId} {l:List Value} {o:Bool} (h:aO (H.next+L.length) l=true):cF (ext H L) e l o=some (ext H (L++[⟨e,o,l⟩])):=by
 rw[BW (by rw[ai]; exact h),yS]
theorem z8 {b i off:Nat} {vs:List Value} {e:TypeId} {o:Bool} {l:List Value} (hH:H.next=b) (hb:H.base<=H.next) (hi:L[i]?=some ⟨e,o,l⟩) (hoff:off+vs.length<=l.length) (h1:vs.all one=true) (h2:aO (b+L.length) vs=true) :
  dV (ext H L) (b+i) off vs=some (ext H (L.set i ⟨e,o,cL l off vs⟩)):=by
 subst hH
 have hlt:i<L.length:=by
  rcases zC2 i L.length with h|h
  ·exact h
  ·rw[zC5 h]at hi; cases hi
 have hg:bH (ext H L) (H.next+i)=some (RV.ofList l,e,o):=by
  simp only[bH,fh hlt,hi,zA9,Bl.obj]
 have hble:Nat.ble (off+vs.length) (RV.ofList l).n=true:=by rw[zE6]; exact hoff
 simp only[dV,hg,zA1,zA3,hble,h1,ai,h2,zE3,if_true]
 rw[RV.Dx l off vs hoff]
 exact congrArg some (uy (b:=⟨e,o,cL l off vs⟩) hb hlt)
def uw (H:aa) (n off:Nat) (vs:List Value):aa :=
 match bH H n with
 |some (rv,e,o)=>H.cE n (some ⟨.cells #[] e,o,rv.ft off vs⟩)
 |none=>H
theorem b6 {n off:Nat} {vs:List Value}:(uw H n off vs).next=H.next:=by unfold uw; split<;>rfl
theorem Oe {n off:Nat} {vs:List Value}:(uw H n off vs).base=H.base:=by unfold uw; split<;>rfl
theorem KB {n off:Nat} {vs:List Value} {m:Nat} (h:m∈(uw H n off vs).dirty):m∈H.dirty\/(m=n/\n<H.base):=by
 unfold uw at h
 split at h
 ·simp only[aa.et]at h
  split at h
  ·rename_i hb
   rcases zA7.1 h with h|h
   ·exact .inr ⟨h,bN hb⟩
   ·exact .inl h
  ·exact .inl h
 ·exact .inl h
theorem gL {n off:Nat} {vs:List Value} {m:Nat} (h:m≠n):(uw H n off vs).get m=H.get m:=by
 unfold uw
 split
 ·rw[aa.eY,if_neg h]
 ·rfl
theorem oC {n m off:Nat} {vs:List Value} (h:m≠n):bk (uw H n off vs) m=bk H m:=bg (gL h)
def Og (off:Nat) (vs:List Value) (b:Bl):Bl:=⟨b.e,b.o,cL b.l off vs⟩
theorem vJ {off:Nat} {vs:List Value} {e:TypeId} {o:Bool} {l:List Value}:Og off vs ⟨e,o,l⟩=⟨e,o,cL l off vs⟩:=rfl
theorem xP:∀ (l:List Value) (off:Nat) (vs:List Value) (j:Nat),j<l.length->(cL l off vs)[j]?=if off<=j/\j<off+vs.length then vs[j-off]? else l[j]?
 |[],_,_,j,h=>absurd h (by simp)
 |x::r,0,[],j,_=>by simp only[cL,zB6,zE1]; rw[if_neg (by omega)]
 |x::r,0,y::ys,0,_=>by simp[cL]
 |x::r,0,y::ys,j+1,h=>by
  have:=xP r 0 ys j (by simpa using h)
  simp only[cL,zG4,zB0,zB8,zB7,true_and,Nat.add_lt_add_iff_right,Nat.sub_zero]at this ⊢
  exact this
 |x::r,k+1,vs,0,_=>by simp[cL]
 |x::r,k+1,vs,j+1,h=>by
  have:=xP r k vs j (by simpa using h)
  simp only[cL,zG4,Nat.add_le_add_iff_right,Nat.add_right_comm k 1,Nat.add_lt_add_iff_right,Nat.add_sub_add_right]
  exact this
theorem bR {n off:Nat} {vs:List Value}:bk (uw H n off vs) n=(bk H n).map (Og off vs):=by
 unfold bk
 cases hc:bH H n with
 |none=>simp[uw,hc]
 |some x =>
  obtain⟨rv,e,o⟩:=x
  have h1:uw H n off vs=H.cE n (some ⟨.cells #[] e,o,rv.ft off vs⟩):=by simp only[uw,hc]
  have h2:bH (uw H n off vs) n=some (rv.ft off vs,e,o):=by rw[h1]; simp[bH,aa.eY]
  rw[h2]
  simp only[zA9,Og,RV.o9]
  congr 2
  apply List.ext_getElem?
  intro j
  by_cases hj:j<rv.n
  ·rw[xP _ _ _ _ (by simpa using hj),RV.gA,RV.gA]
   simp only[zF0,List.getElem?_range hj,zA9,zB8,RV.mJ]
   split
   ·rename_i hh
    rw[zB1 (by omega)]
    simp[List.getD,zB1 (show j-off<vs.length by omega)]
   ·rfl
  ·rw[zC5 (by simpa using hj),zC5 (by rw[jP]; simpa using hj)]
theorem ku {n off:Nat} {vs:List Value} {b:Bl} (hn:n<H.next) (h:bk H n=some b) (hoff:off+vs.length<=b.l.length) (h1:vs.all one=true) (h3:aO (H.next+L.length) vs=true) :
  dV (ext H L) n off vs=some (ext (uw H n off vs) L):=by
 obtain⟨rv,hc,hn2,_⟩:=qY h
 have hc':bH (ext H L) n=some (rv,b.e,b.o):=by
  rw[<-hc]; simp only[bH,bK hn]
 have hb:Nat.ble (off+vs.length) rv.n=true:=by rw[zE6]; omega
 simp only[dV,hc',zA1,zA3,hb,h1,ai,h3,zE3,if_true]
 rw[ln hn]
 simp only[uw,hc]
def vw (P:Program) (t:TypeId) (N off:Nat) (v:Value):Option Bl->Option Bl
 |some ⟨e,o,l⟩=>if bh P t=some v.cells.toList.length/\off+v.cells.toList.length<=l.length/\v.cells.toList.all one=true/\aO N v.cells.toList=true then some ⟨e,o,cL l off v.cells.toList⟩ else none
 |none=>none
theorem l5 {t e:TypeId} {o:Bool} {l:List Value} {N off:Nat} {v:Value} (h1:bh P t=some v.cells.toList.length) (h2:off+v.cells.toList.length<=l.length) (h3:v.cells.toList.all one=true) (h4:aO N v.cells.toList=true) :
  vw P t N off v (some ⟨e,o,l⟩)=some ⟨e,o,cL l off v.cells.toList⟩:=by simp only[vw,h1,h2,h3,h4,and_self,if_true]
theorem yy {n off:Nat} {vs:List Value} {rv:RV} {e:TypeId} {o:Bool} (hc:bH H n=some (rv,e,o)) (h:¬(off+vs.length<=rv.n/\vs.all one=true/\aO H.next vs=true)):dV H n off vs=none:=by
 simp only[dV,hc,zA1,zA3]
 rw[if_neg]
 intro hh
 simp only[zA4,zE6]at hh
 exact h ⟨hh.1.1,hh.1.2,hh.2⟩
theorem tp {t:TypeId} {b i off:Nat} {v:Value} (hH:H.next=b) (hb:H.base<=H.next) (hi:i<L.length) :
  eW P (ext H L) t (.pointer (some ⟨b+i,off,none⟩)) v=(vw P t (b+L.length) off v L[i]?).map fun x=>ext H (L.set i x):=by
 obtain⟨⟨e,o,l⟩,hL⟩:∃ x,L[i]?=some x:=⟨_,zB1 hi⟩
 rw[hL]
 simp only[vw]
 split
 ·rename_i hc
  simp only[eW,hc.1,zA1,zA3,if_true,zA9]
  exact z8 hH hb hL hc.2.1 hc.2.2.1 hc.2.2.2
 ·rename_i hc
  simp only[eW,zA1,Option.map_none]
  cases hsz:bh P t with
  |none=>rfl
  |some sz =>
   simp only[zA3]
   split
   ·rename_i hl
    subst hH
    refine yy (rv:=RV.ofList l) (e:=e) (o:=o) (by simp only[bH,fh hi,hL,zA9,Bl.obj]) ?_
    rw[ai]
    exact fun hh=>hc ⟨by rw[hsz,hl],hh.1,hh.2.1,hh.2.2⟩
   ·rfl
theorem AH {t:TypeId} {n off:Nat} {v:Value} (hn:n<H.next) :
  eW P (ext H L) t (.pointer (some ⟨n,off,none⟩)) v=(vw P t (H.next+L.length) off v (bk H n)).map fun _=>ext (uw H n off v.cells.toList) L:=by
 cases hbk:bk H n with
 |none =>
  have:bH H n=none:=by unfold bk at hbk; simpa using hbk
  have hc':bH (ext H L) n=none:=by rw[<-this]; simp only[bH,bK hn]
  simp only[eW,vw,zA1,Option.map_none]
  cases bh P t with
  |none=>rfl
  |some sz=>simp only[zA3,dV,hc',zA1,Option.bind_none,ite_self]
 |some bl =>
  obtain⟨e,o,l⟩:=bl
  simp only[vw]
  split
  ·rename_i hc
   simp only[eW,hc.1,zA1,zA3,if_true,zA9]
   exact ku hn hbk hc.2.1 hc.2.2.1 hc.2.2.2
  ·rename_i hc
   simp only[eW,zA1,Option.map_none]
   cases hsz:bh P t with
   |none=>rfl
   |some sz =>
    simp only[zA3]
    split
    ·rename_i hl
     obtain⟨rv,hc2,hn2,_⟩:=qY hbk
     refine yy (rv:=rv) (e:=e) (o:=o) (by rw[<-hc2]; simp only[bH,bK hn]) ?_
     rw[ai,hn2]
     exact fun hh=>hc ⟨by rw[hsz,hl],hh.1,hh.2.1,hh.2.2⟩
    ·rfl
end
def RI (σ:Nat->Nat):Fn->Fn
 |.yield l=>.yield (σ l)
 |f=>f
mutual
def kK (σ:Nat->Nat):Value->Value
 |.pointer (some a)=>.pointer (some ⟨σ a.block,a.off,a.spot⟩)
 |.slice (some a) len cap=>.slice (some ⟨σ a.block,a.off,a.spot⟩) len cap
 |.map (some r)=>.map (some (σ r))
 |.func f a b=>.func (RI σ f) (Pn σ a) (Pn σ b)
 |.iface t v=>.iface t (kK σ v)
 |.agg cs=>.agg (Pn σ cs)
 |.tuple cs=>.tuple (Pn σ cs)
 |.bool b=>.bool b
 |.int k n=>.int k n
 |.float k b=>.float k b
 |.complex k a b=>.complex k a b
 |.string s=>.string s
 |.pointer none=>.pointer none
 |.slice none len cap=>.slice none len cap
 |.map none=>.map none
 |.chan none=>.chan none
 |.chan (some k)=>.chan (some (σ k))
 |.nilFunc=>.nilFunc
 |.nilIface=>.nilIface
def Pn (σ:Nat->Nat):Array Value->Array Value
 |⟨l⟩=>⟨QH σ l⟩
def QH (σ:Nat->Nat):List Value->List Value
 |[]=>[]
 |v::r=>kK σ v::QH σ r
end
def Ren.comp (ρ:Ren) (σ:Nat->Nat):Ren:=⟨fun n=>ρ.blk (σ n),fun n=>ρ.sh (σ n),fun n=>ρ.ex (σ n),fun n=>ρ.op (σ n),fun n=>ρ.op1 (σ n)⟩
theorem NV (ρ:Ren) (σ:Nat->Nat) (f:Fn):ρ.fn (RI σ f)=(ρ.comp σ).fn f:=by cases f<;>rfl
mutual
theorem rW (ρ:Ren) (σ:Nat->Nat):∀ v,ρ.val (kK σ v)=(ρ.comp σ).val v
 |.bool _=>by rw[kK,Ren.val,Ren.val]
 |.int _ _=>by rw[kK,Ren.val,Ren.val]
 |.float _ _=>by rw[kK,Ren.val,Ren.val]
 |.complex _ _ _=>by rw[kK,Ren.val,Ren.val]
 |.string _=>by rw[kK,Ren.val,Ren.val]
 |.pointer none=>by rw[kK,Ren.val,Ren.val]
 |.pointer (some a)=>by rw[kK,Ren.val,Ren.val]; rfl
 |.slice none _ _=>by rw[kK,Ren.val,Ren.val]
 |.slice (some a) _ _=>by rw[kK,Ren.val,Ren.val]; rfl
 |.map none=>by rw[kK,Ren.val,Ren.val]
 |.map (some r)=>by rw[kK,Ren.val,Ren.val]; rfl
 |.chan none=>by rw[kK,Ren.val,Ren.val]
 |.chan (some k)=>by rw[kK,Ren.val,Ren.val]; rfl
 |.func f a b=>by rw[kK,Ren.val,Ren.val,pP ρ σ a,pP ρ σ b,NV]
 |.nilFunc=>by rw[kK,Ren.val,Ren.val]
 |.iface t v=>by rw[kK,Ren.val,Ren.val,rW ρ σ v]
 |.nilIface=>by rw[kK,Ren.val,Ren.val]
 |.agg cs=>by rw[kK,Ren.val,Ren.val,pP ρ σ cs]
 |.tuple cs=>by rw[kK,Ren.val,Ren.val,pP ρ σ cs]
theorem pP (ρ:Ren) (σ:Nat->Nat):∀ c,ρ.ez (Pn σ c)=(ρ.comp σ).ez c
 |⟨l⟩=>by rw[Pn,Ren.ez,Ren.ez,Ay ρ σ l]
theorem Ay (ρ:Ren) (σ:Nat->Nat):∀ l,ρ.gM (QH σ l)=(ρ.comp σ).gM l
 |[]=>rfl
 |v::r=>by rw[QH,Ren.gM,Ren.gM,rW ρ σ v,Ay ρ σ r]
end
mutual
theorem vM {σ:Nat->Nat} {N:Nat} (h:∀ n,n<N->σ n=n):∀ v,aS N v=true->kK σ v=v
 |.bool _,_=>by rw[kK]
 |.int _ _,_=>by rw[kK]
 |.float _ _,_=>by rw[kK]
 |.complex _ _ _,_=>by rw[kK]
 |.string _,_=>by rw[kK]
 |.pointer none,_=>by rw[kK]
 |.pointer (some a),hs=>by
  have h':=bN (by simpa[aS]using hs)
  simp only[kK,h _ h']
 |.slice none _ _,_=>by rw[kK]
 |.slice (some a) _ _,hs=>by
  have h':=bN (by simpa[aS]using hs)
  simp only[kK,h _ h']
 |.map none,_=>by rw[kK]
 |.map (some r),hs=>by
  have h':=bN (by simpa[aS]using hs)
  simp only[kK,h _ h']
 |.chan none,_=>by rw[kK]
 |.chan (some k),hs=>by
  have h':=bN (by simpa[aS]using hs)
  simp only[kK,h _ h']
 |.func f a b,hs=>by
  cases f with
  |yield l =>
   simp only[aS,zA4]at hs
   simp only[kK,RI,h _ (bN hs.1.1),pH h a hs.1.2,pH h b hs.2]
  |_ =>
   simp only[aS,zA4]at hs
   simp only[kK,RI,pH h a hs.1,pH h b hs.2]
 |.nilFunc,_=>by rw[kK]
 |.iface t v,hs=>by rw[kK,vM h v (by simpa[aS]using hs)]
 |.nilIface,_=>by rw[kK]
 |.agg cs,hs=>by rw[kK,pH h cs (by simpa[aS]using hs)]
 |.tuple cs,hs=>by rw[kK,pH h cs (by simpa[aS]using hs)]
theorem pH {σ:Nat->Nat} {N:Nat} (h:∀ n,n<N->σ n=n):∀ c,fb N c=true->Pn σ c=c
 |⟨l⟩,hs=>by rw[Pn,GR h l (by simpa[fb]using hs)]
theorem GR {σ:Nat->Nat} {N:Nat} (h:∀ n,n<N->σ n=n):∀ l,aO N l=true->QH σ l=l
 |[],_=>rfl
 |v::r,hs=>by
  simp only[aO,zA4]at hs
  rw[QH,vM h v hs.1,GR h r hs.2]
end
def BS (σ:Nat->Nat) (o1 o2:dw):Prop :=
 (∃ c e k z c' z',o1.obj=.cells c e (k,z)/\o2.obj=.cells c' e (k,z'))/\o1.opn=o2.opn/\o1.rv.n=o2.rv.n/\∀ i,i<o2.rv.n->o1.rv.get i=kK σ (o2.rv.get i)
theorem Ot {P:Program} {ρ:Ren} {σ:Nat->Nat} {n:Nat} {o1 o2:dw} {o':Obj} (h:Fits P ρ (σ n) o1 o') (hc:BS σ o1 o2):Fits P (ρ.comp σ) n o2 o':=by
 obtain⟨⟨c,e,k,z,c',z',h1,h2⟩,h3,h4,h5⟩:=hc
 unfold Fits at h ⊢
 rw[h1]at h
 rw[h2]
 obtain⟨d,fz,hd,hv,ha,hb⟩:=h
 refine⟨d,fz,hd,fun i hi=>?_,?_,?_⟩
 ·have:=hv i (by omega)
  rw[h5 i hi,rW]at this
  exact this
 ·rw[h3,h4]at ha
  exact ha
 ·rw[h3,h4]at hb
  exact hb
theorem Px {σ:Nat->Nat} {o1 o2:dw} (hc:BS σ o1 o2):O6 o2=O6 o1:=by
 obtain⟨⟨c,e,k,z,c',z',h1,h2⟩,h3,_⟩:=hc
 obtain⟨a,b,d⟩:=o1
 obtain⟨a',b',d'⟩:=o2
 simp only at h1 h2 h3
 subst h1 h2 h3
 cases k<;>cases b<;>rfl
section
variable {P : Program} {H H1 H2 : aa} {f : FuncId} {args : List Value}
structure Rn (σ:Nat->Nat) (H H1 H2:aa):Prop where
 low:∀ n,n<H.next->σ n=n
 next:H.next<=H2.next
 base:H2.base=H.base
 dirty:∀ n,n∈H.dirty->n∈H2.dirty
 dirt1:∀ n,n∈H1.dirty->n∈H2.dirty
 get:∀ n o2,H2.get n=some o2->(n<H.next/\H.get n=some o2/\H1.get n=some o2) \/
  (n<H2.next/\ki H2.next o2/\(n<H.base->n∈H2.dirty)/\(n<H.next->H.get n≠none)/\(H.next<=n->H.next<=σ n)/\∃ o1,H1.get (σ n)=some o1/\BS σ o1 o2)
 keep:∀ n,n<H.base->H2.get n=none->H.get n=none\/n∈H2.dirty
 inj:∀ m n,H2.get m≠none->H2.get n≠none->σ m=σ n->m=n
 ro:∀ n,Fz (H.get n)->(n∈H2.dirty->n∈H.dirty\/n∈H1.dirty)/\(H1.get n=H.get n->H2.get n=H.get n)
theorem MT {N M:Nat} (h:N<=M) {o:dw} (hs:ki N o):ki M o:=by
 unfold ki at *
 split at hs
 ·exact fun i hi=>cM h _ (hs i hi)
 ·exact fun e he=>⟨(hs e he).1,cM h _ (hs e he).2⟩
 ·exact⟨by omega,fun i hi=>cM h _ (hs.2 i hi)⟩
 ·trivial
theorem Rel.wf {ρ:Ren} {w:World} (r:Rel P ρ H w):WF P H:=⟨r.base,r.glob.1,r.dom⟩
theorem Rn.st {σ:Nat->Nat} {ρ ρ1:Ren} {w w1:World} (c:Rn σ H H1 H2) (r:Rel P ρ H w) (s:St P ρ H w ρ1 H1 w1):St P ρ H w (ρ1.comp σ) H2 w1:=by
 have ext1:Ext H.next ρ1 (ρ1.comp σ):=⟨fun n hn=>by simp only[Ren.comp,c.low n hn],fun n hn=>by simp only[Ren.comp,c.low n hn],fun n hn=>by simp only[Ren.comp,c.low n hn],fun n hn=>by simp only[Ren.comp,c.low n hn]⟩
 have g1:∀ n,H2.get n≠none->H1.get (σ n)≠none:=by
  intro n hn
  cases h2:H2.get n with
  |none=>exact absurd h2 hn
  |some o2 =>
   rcases c.get n o2 h2 with⟨hlt,_,h1⟩|⟨_,_,_,_,_,o1,h1,_⟩
   ·rw[c.low n hlt,h1]; simp
   ·rw[h1]; simp
 refine⟨s.ext.trans ext1 (zA8 _),⟨c.next,c.base,c.dirty,fun n hb hd=>?_,fun n hn hg=>?_⟩,⟨?_,?_,?_,?_,?_⟩,s.os,s.tape,s.output,s.size,?_,?_,fun n hz=>?_⟩
 ·cases h2:H2.get n with
  |none =>
   rcases c.keep n hb h2 with h|h
   ·rw[h]
   ·exact absurd h hd
  |some o2 =>
   rcases c.get n o2 h2 with⟨_,h,_⟩|⟨_,_,h,_⟩
   ·rw[h]
   ·exact absurd (h hb) hd
 ·cases h2:H2.get n with
  |none=>rfl
  |some o2 =>
   rcases c.get n o2 h2 with⟨_,h,_⟩|⟨_,_,_,h,_⟩
   ·rw[hg]at h; cases h
   ·exact absurd hg (h hn)
 ·have:=r.base; have:=c.next; rw[c.base]; omega
 ·refine⟨zC3 r.glob.1 c.next,fun g hg=>?_⟩
  have hlt:g<H.next:=zD5 hg r.glob.1
  have:=s.rel.glob.2 g hg
  simp only[Ren.comp,c.low g hlt]
  exact this
 ·intro m n hm hn he
  have back:∀ m,H2.get m≠none->Fz (H1.get (σ m))->Fz (H2.get m):=fun m hm hz=>by
   cases h2:H2.get m with
   |none=>exact absurd h2 hm
   |some o2 =>
    obtain⟨o,ho,hf⟩:=hz
    rcases c.get m o2 h2 with⟨hlt,_,h1⟩|⟨_,_,_,_,_,o1,h1,hc⟩
    ·rw[c.low m hlt,h1]at ho
     cases ho
     exact⟨_,rfl,hf⟩
    ·rw[h1]at ho
     cases ho
     exact⟨_,rfl,(Px hc).trans hf⟩
  exact (s.rel.inj _ _ (g1 m hm) (g1 n hn) he).imp (c.inj m n hm hn) fun⟨a,b⟩=>⟨back m hm a,back n hn b⟩
 ·intro n o2 h2
  rcases c.get n o2 h2 with⟨hlt,h,_⟩|⟨h1,h2',_⟩
  ·exact⟨zD5 hlt c.next,MT c.next (r.dom n o2 h).2⟩
  ·exact⟨h1,h2'⟩
 ·intro n o2 h2
  rcases c.get n o2 h2 with⟨hlt,h,h1⟩|⟨_,_,_,_,_,o1,h1,hc⟩
  ·obtain⟨o',ho,hf⟩:=s.rel.obj n o2 h1
   exact⟨o',by simp only[Ren.comp,c.low n hlt]; exact ho,hf.ext hlt (r.dom n o2 h).2 ext1⟩
  ·obtain⟨o',ho,hf⟩:=s.rel.obj (σ n) o1 h1
   exact⟨o',ho,Ot hf hc⟩
 ·intro b hb hh
  exact s.fX b hb fun n hn hd hg=>hh n hn (hd.imp id (c.dirt1 n)) hg
 ·intro n hn hg
  have hσ:H.next<=σ n:=by
   cases h2:H2.get n with
   |none=>exact absurd h2 hg
   |some o2 =>
    rcases c.get n o2 h2 with⟨hlt,_⟩|⟨_,_,_,_,h,_⟩
    ·omega
    ·exact h hn
  rcases s.fresh (σ n) hσ (g1 n hg) with h|⟨m,h1,h2,h3,h4⟩
  ·exact .inl h
  ·exact .inr ⟨m,h1,h2,h3.imp id (c.dirt1 m),h4⟩
 ·obtain⟨a,b⟩:=c.ro n hz
  obtain⟨a',b'⟩:=s.ro n hz
  exact⟨fun h=>(a h).elim id a',b b'⟩
theorem br.rn {σ:Nat->Nat} {v:Value} (h:br P f args H (.ok (kK σ v)) H1) (c:WF P H->Rn σ H H1 H2) (hv:aS H2.next v=true):br P f args H (.ok v) H2:=by
 intro ρ w r hsc F n R hF hR
 refine h ρ w r hsc F n R hF fun ρ1 w1 s _=>?_
 have:=hR (ρ1.comp σ) w1 ((c r.wf).st r s) hv
 rw[rW]
 exact this
theorem Rn.drop {L:List Bl} (w:WF P H):Rn id H (ext H L) H where
 low:=fun _ _=>rfl
 next:=zA8 _
 base:=rfl
 dirty:=fun _ h=>h
 dirt1:=fun n h=>by rw[gv]at h; exact h
 get:=fun n o2 h=>.inl ⟨(w.dom n o2 h).1,h,by rw[bK (w.dom n o2 h).1,h]⟩
 keep:=fun n _ h=>.inl h
 inj:=fun m n _ _ h=>h
 ro:=fun n _=>⟨.inl,fun _=>rfl⟩
theorem PQ {N:Nat} {v:Value} (h:aS N v=true):kK id v=v:=vM (fun _ _=>rfl) v h
theorem br.drop {L:List Bl} {v:Value} (h:br P f args H (.ok v) (ext H L)) (hv:aS H.next v=true):br P f args H (.ok v) H:=by
 refine br.rn (σ:=id) (H1:=ext H L) ?_ Rn.drop hv
 rw[PQ hv]; exact h
def kp (N:Nat) (ks:List Nat) (n:Nat):Nat:=if n<N then n else N+ks.getD (n-N) 0
def Fin (P:Program) (f:FuncId) (args:List Value) (H:aa) (v:Value) (H2:aa):Out->aa->Prop:=fun out H1=>br P f args H out H1->br P f args H (.ok v) H2
theorem Fin.pure {L:List Bl} {v:Value} (hv:aS H.next v=true):Fin P f args H v H (.ok v) (ext H L):=fun h=>h.drop hv
theorem Fin.cz {L:List Bl} {v v1:Value} (he:v1=v) (hv:aS H.next v=true):Fin P f args H v H (.ok v1) (ext H L):=by rw[he]; exact Fin.pure hv
theorem bJ (hmix:P.follows .mixedOrders=true) {fn:Func} {c:Code} {N:Nat} {v:Value} (hfn:P.funcs[f]?=some fn) (hc:fn.body=some c) (hN:fn.ntmps=N) (hle:args.length<=N)
  (h:WF P H->aO H.next args=true->gO P none c (Jk P fn (Fin P f args H v H2)) (bA N (fO Ow 0 args) []) (ext H [])):br P f args H (.ok v) H2:=by
 intro ρ w r hsc
 obtain⟨out,H1,h1,h2⟩:=Cy hmix hfn hc hN hle (h r.wf hsc)
 exact h2 h1 ρ w r hsc
theorem aG (hmix:P.follows .mixedOrders=true) {fn:Func} {c:Code} {N:Nat} {R:Out->aa->Prop} (hfn:P.funcs[f]?=some fn) (hc:fn.body=some c) (hN:fn.ntmps=N) (hle:args.length<=N)
  (h:gO P none c (Jk P fn R) (bA N (fO Ow 0 args) []) (ext H [])):bF P f args H R:=Cy hmix hfn hc hN hle h
theorem br.to {v:Value} {R:Out->aa->Prop} (h:br P f args H (.ok v) H1) (k:R (.ok v) H1):bF P f args H R:=⟨_,_,h,k⟩
end
section
variable {P : Program} {ro : Option Nat} {H : aa} {L : List Bl} {N : Nat} {E : Env} {ds : List Deferred}
def xI (R:Out->aa->Prop) (H:aa):Option (List Value)->Prop
 |some vs=>R (.ok (Bv vs)) H
 |none=>False
theorem ud {R:Out->aa->Prop} {vs:List Value}:xI R H (some vs)=R (.ok (Bv vs)) H:=by simp only[xI]
theorem K0 {fn:Func} {a:ag} {R:Out->aa->Prop}:fB P fn a [] .returning H R=xI R H (cV P H a fn.results.toList):=by
 simp only[fB]
 cases cV P H a fn.results.toList with
 |none=>simp[xI]
 |some vs=>simp[xI]
theorem A5:cV P H (bA N E ds) []=some []:=by simp only[cV]
theorem B1 {t:Nat} {rs:List ResultVar} (ht:t<N):cV P H (bA N E ds) (.tmp t::rs)=(cV P H (bA N E ds) rs).map (E t::·):=by
 simp only[cV,zA1,x7 N E ds t ht]
 cases cV P H (bA N E ds) rs<;>rfl
theorem Iu {t:Nat} {u:TypeId} {rs:List ResultVar} (ht:t<N):cV P H (bA N E ds) (.cell t u::rs)=(ga P H u (E t)).bind fun v=>(cV P H (bA N E ds) rs).map (v::·):=by
 simp only[cV,zA1,x7 N E ds t ht]
 cases ga P H u (E t) with
 |none=>rfl
 |some v=>cases cV P H (bA N E ds) rs<;>rfl
theorem Iv:Bv []=.tuple ⟨[]⟩:=by simp only[Bv]
theorem vF {v:Value}:Bv [v]=v:=by simp only[Bv]
theorem HD {v u:Value} {r:List Value}:Bv (v::u::r)=.tuple ⟨v::u::r⟩:=by simp only[Bv]
theorem zY {k:IntKind} {n:Int}:(Value.int k n).cells.toList=[.int k n]:=by simp only[Value.cells]
theorem xX {b:Bool}:(Value.bool b).cells.toList=[.bool b]:=by simp only[Value.cells]
theorem vl {a:Option Addr} {n c:Nat}:(Value.slice a n c).cells.toList=[.slice a n c]:=by simp only[Value.cells]
theorem ko {l:List Value}:(Value.agg ⟨l⟩).cells.toList=l:=by simp only[Value.cells]
theorem wE:([]:List Value).all one=true:=by simp only[List.all_nil]
theorem vo {v:Value} {l:List Value}:(v::l).all one=(one v&&l.all one):=by simp only[List.all_cons]
theorem HW {k:IntKind} {n:Int}:one (.int k n)=true:=by simp only[one]
theorem DN {b:Bool}:one (.bool b)=true:=by simp only[one]
theorem Av {a:Option Addr} {n c:Nat}:one (.slice a n c)=true:=by simp only[one]
theorem yN {s:ByteArray}:one (.string s)=true:=by simp only[one]
theorem Db {f:Fn} {a b:Array Value}:one (.func f a b)=true:=by simp only[one]
theorem Kx {M:Nat}:aO M []=true:=by simp only[aO]
theorem HM {M:Nat} {v:Value} {l:List Value}:aO M (v::l)=(aS M v&&aO M l):=by simp only[aO]
theorem M7 {M:Nat} {k:IntKind} {n:Int}:aS M (.int k n)=true:=by simp only[aS]
theorem HN {M:Nat} {b:Bool}:aS M (.bool b)=true:=by simp only[aS]
theorem zI {M:Nat} {s:ByteArray}:aS M (.string s)=true:=by simp only[aS]
theorem uV {M n c:Nat}:aS M (.slice none n c)=true:=by simp only[aS]
theorem yi {M:Nat}:aS M .nilFunc=true:=by simp only[aS]
theorem Ir {M:Nat} {f:FuncId} {a b:List Value}:aS M (.func (.func f) ⟨a⟩ ⟨b⟩)=(aO M a&&aO M b):=by simp only[aS,fb]
theorem Mk {M n off:Nat} {s:Option Nat} (h:n<M):aS M (.pointer (some ⟨n,off,s⟩))=true:=by simp only[aS,a8 h]
theorem DZ {M n off l c:Nat} {s:Option Nat} (h:n<M):aS M (.slice (some ⟨n,off,s⟩) l c)=true:=by simp only[aS,a8 h]
theorem LI {b k:Nat} {v:Value} (h:aS b v=true):aS (b+k) v=true:=cM (Nat.le_add_right _ _) v h
theorem Ml {b i k:Nat}:(b+i<b+k)=(i<k):=by simp
theorem LG {n b k:Nat} (h:n<b):(n<b+k)=True:=by simp; omega
theorem Mu {b i k:Nat}:(b+i=b+k)=(i=k):=by simp
theorem HX {n b k:Nat} (h:n<b):(b+k=n)=False:=by simp; omega
theorem add_add {b i k:Nat}:b+i+k=b+(i+k):=Nat.add_assoc b i k
theorem bu {b i:Nat} (h:H.next=b) (hi:i<L.length):bk (ext H L) (b+i)=L[i]?:=by rw[QC h,if_pos hi]
theorem Mm {e:TypeId} {l:List Value} {o:Bool}:nw (ext H L) e l o=ext H (L++[⟨e,o,l⟩]):=yS e l o
theorem yg {anc:Nat} {F W O:List Nat} {r0:Fp} {fps:List Fp}:(∀ r∈r0::fps,cQ anc F W O r)=(cQ anc F W O r0/\∀ r∈fps,cQ anc F W O r):=by simp
theorem re {anc j n:Nat} {F W O F' W':List Nat}:cQ anc F W O ⟨j,F',W',n,n⟩=(anc.testBit j=true\/((∀ n∈W',n∉F)/\(∀ n∈F',n∉W))):=by simp[cQ]
theorem lB {anc j lo hi:Nat} {F W O F' W':List Nat}:cQ anc F W O ⟨j,F',W',lo,hi⟩=(anc.testBit j=true\/((∀ n∈W',n∉F)/\(∀ n∈F',n∉W)/\(lo<hi->(∀ n∈F,n<lo\/hi<=n)/\(∀ n∈O,n<lo\/hi<=n)))):=by simp only[cQ]
theorem ON {b i:Nat} (h:H.next=b) (hi:i<L.length):fk (ext H L) (b+i)=(match L[i]? with
  |some x=>gk x.l
  |none=>[]):=by
 subst h
 simp only[fk,fh hi,zB1 hi,zA9,Bl.obj,pZ,RV.n_ofList,RV.jA]
theorem bf {Q:Exit->ag->aa->Prop} {id:Nat} {l:List Oper} {a:ag} (bits gs:List (Nat × Nat)) (hst:gj ⟨l⟩=true) (hb:(bits.all fun p=>((gS ⟨l⟩).getD p.1 0).testBit p.2)=true) (hg:(gs.all fun p=>lO ⟨l⟩ p.1 == some p.2)=true)
  (h:∀ ops anc,(∀ p∈bits,(anc.getD p.1 0).testBit p.2=true)->(∀ p∈gs,lO ops p.1=some p.2)->fH P ops anc l 0 [] a H (Q .normal)):gO P ro (.region id ⟨l⟩ true) Q a H :=
 Qp hst (h _ _ (fun p hp=>by simpa using zC6.1 hb p hp) (fun p hp=>by simpa using zC6.1 hg p hp))
def uH (P:Program) (ro:Option Nat) (ops:Array Oper):List Oper->ag->aa->(Exit->ag->aa->Prop)->Prop
 |[],_,_,_=>False
 |[o],a,H,Q=>o.guard=none/\vk o.op=false/\wpOps P ro ops [o] a H Q
 |_::o::l,a,H,Q=>uH P ro ops (o::l) a H Q
theorem eZ {ops:Array Oper} {d:Option Nat} {op:Op} {ty:TypeId} {pos:String} {after:Array Edge} {a:ag} {Q:Exit->ag->aa->Prop}:uH P ro ops [⟨d,op,ty,pos,after,none⟩] a H Q=(vk op=false/\wpOps P ro ops [⟨d,op,ty,pos,after,none⟩] a H Q):=by simp only[uH,true_and]
theorem dP {ops:Array Oper} {o o2:Oper} {l:List Oper} {a:ag} {Q:Exit->ag->aa->Prop}:uH P ro ops (o::o2::l) a H Q=uH P ro ops (o2::l) a H Q:=by simp only[uH]
theorem c7 {o:Oper}:[o].dropLast=[]:=by simp only[List.dropLast]
theorem cD {o o2:Oper} {l:List Oper}:(o::o2::l).dropLast=o::(o2::l).dropLast:=by simp only[List.dropLast]
theorem ej {c:Call}:vk (.call c)=false:=by simp only[vk]
theorem yM (P:Program) (ro:Option Nat) (ops:Array Oper):∀ l:List Oper,l≠[]->∃ o,l=l.dropLast++[o]/\∀ (a:ag) (H:aa) (Q:Exit->ag->aa->Prop),uH P ro ops l a H Q->o.guard=none/\vk o.op=false/\wpOps P ro ops [o] a H Q
 |[],h=>absurd rfl h
 |[o],_=>⟨o,rfl,fun a H Q h=>h⟩
 |o::o2::l,_=>by
  obtain⟨q,h1,h2⟩:=yM P ro ops (o2::l) (by simp)
  refine⟨q,?_,fun a H Q h=>by rw[dP]at h; exact h2 a H Q h⟩
  rw[cD,zE7,<-h1]
theorem iV {Q:Exit->ag->aa->Prop} {id:Nat} {l:List Oper} {a:ag} (bits gs:List (Nat × Nat)) (hst:gj ⟨l⟩=true) (hanc:((List.range (l.length-1)).all (fun j=>((gS ⟨l⟩).getD (l.length-1) 0).testBit j))=true) (hb:(bits.all fun p=>((gS ⟨l⟩).getD p.1 0).testBit p.2)=true) (hg:(gs.all fun p=>lO ⟨l⟩ p.1 == some p.2)=true)
  (h:∀ ops anc,(∀ p∈bits,(anc.getD p.1 0).testBit p.2=true)->(∀ p∈gs,lO ops p.1=some p.2)->fH P ops anc l.dropLast 0 [] a H (fun a1 H1=>uH P ro ops l a1 H1 Q)) (cR:l≠[]) (hdf:(l.getLast cR).guard=none/\vk (l.getLast cR).op=false):gO P ro (.region id ⟨l⟩ true) Q a H:=by
 have h1:=gb _ _ _ _ _ (h ⟨l⟩ (gS ⟨l⟩) (fun p hp=>by simpa using zC6.1 hb p hp) (fun p hp=>by simpa using zC6.1 hg p hp))
 obtain⟨o,h2,h3⟩:=yM P ro ⟨l⟩ l cR
 have ho:l.getLast cR=o:=by
  have:l.getLast?=some o:=by rw[h2]; simp
  rw[List.getLast?_eq_some_getLast cR]at this
  exact Option.some.inj this
 rw[ho]at hdf
 refine⟨hst,.inr ⟨l.dropLast,o,h2,hanc,hdf.2,jN (fun a1 H1 h=>⟨by simp only[cw,hdf.1],(h3 a1 H1 Q h).2.2⟩) _ _ _ _ _ h1⟩⟩
theorem cx {α:Type} {p:α->Prop}:(∀ x∈([]:List α),p x)=True:=by simp
theorem aw {α:Type} {p:α->Prop} {y:α} {l:List α}:(∀ x∈y::l,p x)=(p y/\∀ x∈l,p x):=by simp
theorem xv {n:Nat}:(n∉([]:List Nat))=True:=by simp
theorem Ef {n m:Nat}:(n∉[m])=¬n=m:=by simp
theorem H9 {t:TypeId} {k:IntKind} {x y:Int} (h:y≠0):ee P .rem t (.int k x) (.int k y)=some (.int k (x.tmod y)):=by simp[ee,eD,h]
theorem rp {ops:Array Oper} {rest:List Oper} {dst:Option Nat} {ty:TypeId} {pos:String} {after:Array Edge} {Q:Exit->ag->aa->Prop} {t:TypeId} {n:Nat} {l:List (Nat × Operand)}:wpOps P ro ops (⟨dst,.buildSlice t n ⟨l⟩,ty,pos,after,none⟩::rest) (bA N E ds) H Q=pf P ro ops rest N E ds dst Q ((gH P (bA N E ds) l).bind (b7 P H t n)) :=
 uo rfl (by
  simp only[ck,iz,zA1]
  cases gH P (bA N E ds) l<;>rfl)
theorem vq {ops:Array Oper} {rest:List Oper} {dst:Option Nat} {ty:TypeId} {pos:String} {after:Array Edge} {Q:Exit->ag->aa->Prop} {t:TypeId} {x y:Operand} (hx:bj P N x=true) (hy:bj P N y=true):wpOps P ro ops (⟨dst,.makeSlice t x y,ty,pos,after,none⟩::rest) (bA N E ds) H Q=pf P ro ops rest N E ds dst Q (fG P H t (cm E x) (cm E y)) :=
 uo rfl (by simp only[ck,kE,aE hx,aE hy,zA1,zA3])
def qF (E:Env):Option Operand->Option Value
 |none=>none
 |some x=>some (cm E x)
def iu (P:Program) (N:Nat):Option Operand->Bool
 |none=>true
 |some x=>bj P N x
theorem jj:qF E none=none:=by simp only[qF]
theorem jk {x:Operand}:qF E (some x)=some (cm E x):=by simp only[qF]
theorem uS:iu P N none=true:=by simp only[iu]
theorem lM {x:Operand}:iu P N (some x)=bj P N x:=by simp only[iu]
theorem kD {x:Option Operand} (h:iu P N x=true):lF P (bA N E ds) x=some (qF E x):=by
 cases x with
 |none=>rfl
 |some x=>simp only[iu]at h; simp only[lF,aE h,qF,zA9]
theorem GP {ops:Array Oper} {rest:List Oper} {dst:Option Nat} {ty:TypeId} {pos:String} {after:Array Edge} {Q:Exit->ag->aa->Prop} {t:TypeId} {x:Operand} {lo hi mx:Option Operand} (hx:bj P N x=true) (h1:iu P N lo=true) (h2:iu P N hi=true) (h3:iu P N mx=true):wpOps P ro ops (⟨dst,.slice t x lo hi mx,ty,pos,after,none⟩::rest) (bA N E ds) H Q=pf P ro ops rest N E ds dst Q (cg P H t (cm E x) (qF E lo) (qF E hi) (qF E mx)) :=
 uo rfl (by simp only[ck,yj,aE hx,kD h1,kD h2,kD h3,zA1,zA3])
theorem Dr {l:List Oper} {j:Nat}:lO ⟨l⟩ j=(l[j]?).bind (·.dst):=by simp[lO]
theorem uE {ops:Array Oper} {o:Oper} {rest:List Oper} {Q:Exit->ag->aa->Prop} {want:Bool}:jo P ro ops o rest N E ds H Q want (.bool want)=wpOps P ro ops (o::rest) (bA N E ds) H Q:=by simp only[jo,if_true]
theorem zM {ops:Array Oper} {o:Oper} {rest:List Oper} {Q:Exit->ag->aa->Prop}:jo P ro ops o rest N E ds H Q true (.bool false)=wpOps P ro ops rest ((bA N E ds).put o.dst undef) H Q:=by simp only[jo,zC4,if_false]
theorem zR {ops:Array Oper} {o:Oper} {rest:List Oper} {Q:Exit->ag->aa->Prop}:jo P ro ops o rest N E ds H Q false (.bool true)=wpOps P ro ops rest ((bA N E ds).put o.dst undef) H Q:=by simp only[jo,Bool.true_eq_false,if_false]
theorem uf {ops:Array Oper} {anc:List Nat} {o:Oper} {rest:List Oper} {i:Nat} {fps:List Fp} {Q:ag->aa->Prop} {want:Bool}:je P ops anc o rest i fps N E ds H Q want (.bool want)=fH P ops anc (o::rest) i fps (bA N E ds) H Q:=by simp only[je,if_true]
theorem zE {ops:Array Oper} {anc:List Nat} {o:Oper} {rest:List Oper} {i:Nat} {fps:List Fp} {Q:ag->aa->Prop}:je P ops anc o rest i fps N E ds H Q true (.bool false)=fH P ops anc rest (i+1) fps ((bA N E ds).put o.dst undef) H Q:=by simp only[je,zC4,if_false]
theorem Am {ops:Array Oper} {anc:List Nat} {o:Oper} {rest:List Oper} {i:Nat} {fps:List Fp} {Q:ag->aa->Prop}:je P ops anc o rest i fps N E ds H Q false (.bool true)=fH P ops anc rest (i+1) fps ((bA N E ds).put o.dst undef) H Q:=by simp only[je,Bool.true_eq_false,if_false]
def Hz (P:Program) (ro:Option Nat) (ops:Array Oper) (o:Oper) (rest:List Oper) (a:ag) (H:aa) (Q:Exit->ag->aa->Prop):Prop:=wpOps P ro ops (o::rest) a H Q
def QX (P:Program) (ro:Option Nat) (ops:Array Oper) (o:Oper) (j:Nat) (want:Bool) (rest:List Oper) (N:Nat) (E:Env) (ds:List Deferred) (H:aa) (Q:Exit->ag->aa->Prop):Option Nat->Prop
 |some d=>if d<N then jo P ro ops o rest N E ds H Q want (E d) else Hz P ro ops {o with guard:=some (j,want)} rest (bA N E ds) H Q
 |none=>Hz P ro ops {o with guard:=some (j,want)} rest (bA N E ds) H Q
theorem Eo {ops:Array Oper} {o:Oper} {j d:Nat} {want:Bool} {rest:List Oper} {Q:Exit->ag->aa->Prop} (h:d<N):QX P ro ops o j want rest N E ds H Q (some d)=jo P ro ops o rest N E ds H Q want (E d):=by simp only[QX,h,if_true]
theorem Q7 {ops:Array Oper} {dst:Option Tmp} {op:Op} {ty:TypeId} {pos:String} {after:Array Edge} {j:Nat} {want:Bool} {rest:List Oper} {Q:Exit->ag->aa->Prop} :
  wpOps P ro ops (⟨dst,op,ty,pos,after,some (j,want)⟩::rest) (bA N E ds) H Q=QX P ro ops ⟨dst,op,ty,pos,after,none⟩ j want rest N E ds H Q (lO ops j):=by
 cases hj:lO ops j with
 |none=>simp only[QX,Hz]
 |some d =>
  simp only[QX]
  split
  ·rename_i hd
   exact NK hj hd
  ·simp only[Hz]
def GO (P:Program) (ops:Array Oper) (anc:List Nat) (o:Oper) (rest:List Oper) (i:Nat) (fps:List Fp) (a:ag) (H:aa) (Q:ag->aa->Prop):Prop:=fH P ops anc (o::rest) i fps a H Q
def RH (P:Program) (ops:Array Oper) (anc:List Nat) (o:Oper) (j:Nat) (want:Bool) (rest:List Oper) (i:Nat) (fps:List Fp) (N:Nat) (E:Env) (ds:List Deferred) (H:aa) (Q:ag->aa->Prop):Option Nat->Prop
 |some d=>if d<N then je P ops anc o rest i fps N E ds H Q want (E d) else GO P ops anc {o with guard:=some (j,want)} rest i fps (bA N E ds) H Q
 |none=>GO P ops anc {o with guard:=some (j,want)} rest i fps (bA N E ds) H Q
theorem DW {ops:Array Oper} {anc:List Nat} {o:Oper} {j d:Nat} {want:Bool} {rest:List Oper} {i:Nat} {fps:List Fp} {Q:ag->aa->Prop} (h:d<N):RH P ops anc o j want rest i fps N E ds H Q (some d)=je P ops anc o rest i fps N E ds H Q want (E d):=by simp only[RH,h,if_true]
theorem Pd {ops:Array Oper} {anc:List Nat} {dst:Option Tmp} {op:Op} {ty:TypeId} {pos:String} {after:Array Edge} {j:Nat} {want:Bool} {rest:List Oper} {i:Nat} {fps:List Fp} {Q:ag->aa->Prop} :
  fH P ops anc (⟨dst,op,ty,pos,after,some (j,want)⟩::rest) i fps (bA N E ds) H Q=RH P ops anc ⟨dst,op,ty,pos,after,none⟩ j want rest i fps N E ds H Q (lO ops j):=by
 cases hj:lO ops j with
 |none=>simp only[RH,GO]
 |some d =>
  simp only[RH]
  split
  ·rename_i hd
   exact KJ hj hd
  ·simp only[GO]
theorem K4 {d:Nat} {v:Value} (h:d<N):(bA N E ds).put (some d) v=bA N (cE E d v) ds:=dG N E ds d v h
def qy (N:Nat) (ds:List Deferred) (K:Env->aa->Prop) (Q:Exit->ag->aa->Prop):Exit->ag->aa->Prop:=zf (fun a1 H1=>∃ E',a1=bA N E' ds/\K E' H1) Q
theorem A9 {K:Env->aa->Prop} {Q:Exit->ag->aa->Prop}:qy N ds K Q .normal (bA N E ds) H=∃ E',bA N E ds=bA N E' ds/\K E' H:=by simp only[qy,zf]
theorem qS {K:Env->aa->Prop} {Q:Exit->ag->aa->Prop} {id:Nat} {a:ag}:qy N ds K Q (.exit id) a H=Q (.exit id) a H:=by simp only[qy,zf]
theorem Ae {K:Env->aa->Prop} {Q:Exit->ag->aa->Prop} {a:ag}:qy N ds K Q .ret a H=Q .ret a H:=by simp only[qy,zf]
theorem jQ {K:Env->aa->Prop} {Q:Exit->ag->aa->Prop} {ch:List PanicEntry} {a:ag}:qy N ds K Q (.panic ch) a H=Q (.panic ch) a H:=by simp only[qy,zf]
theorem cU {σ:Type} (I:σ->Env->aa->Prop) (m:σ->Nat) (s0:σ) {b:Code} {Q:Exit->ag->aa->Prop} (h0:I s0 E H)
  (h:∀ s E H,I s E H->gO P ro b (qy N ds (fun E' H'=>∃ s',m s'<m s/\I s' E' H') Q) (bA N E ds) H):gO P ro (.loop b) Q (bA N E ds) H:=by
 refine K2 (I:=fun k a H=>∃ s E,a=bA N E ds/\m s=k/\I s E H) (k:=m s0) ⟨s0,E,rfl,rfl,h0⟩ ?_
 rintro k a H ⟨s,E,rfl,rfl,hI⟩
 refine mI b _ H (fun e a1 H1 h1=>?_) (h s E H hI)
 cases e with
 |normal =>
  obtain⟨E',rfl,s',hlt,hI'⟩:=h1
  exact⟨m s',hlt,s',E',rfl,rfl,hI'⟩
 |_=>exact h1
theorem vK {f:FuncId} {x:Operand} {args:List Operand} {ts:Array TypeId} {dst:Option Nat} {ops:Array Oper} {rest:List Oper} {ty:TypeId} {pos:String} {after:Array Edge} {Q:Exit->ag->aa->Prop} {ca:List Value} (hx:bj P N x=true) (hv:cm E x=.func (.func f) ⟨[]⟩ ⟨ca⟩) (ha:args.all (bj P N)=true) (hb:aF P f=true)
  (h:bF P f (args.map (cm E)++ca) H (EP P ro ops rest (bA N E ds) dst Q)) :
  wpOps P ro ops (⟨dst,.call ⟨.value x,⟨args⟩,ts⟩,ty,pos,after,none⟩::rest) (bA N E ds) H Q:=by
 rw[xc rfl rfl]
 simp only[zi,ck,kc,cp ha,aE hx,hv,zA1,zA3,oA,fq,iU,hb,if_true,zC1,zA9,mn]
 exact h
theorem sw {ops:Array Oper} {anc:List Nat} {d:Nat} {ty:TypeId} {pos:String} {after:Array Edge} {rest:List Oper} {i:Nat} {fps:List Fp} {Q:ag->aa->Prop} {f:FuncId} {args:List Operand} {ts:Array TypeId} {v:Value} {M:List Bl} (F:List Nat) (ha:args.all (bj P N)=true) (hb:aF P f=true) (hd:d<N) (hF:∀ n∈F,H.get n≠none)
  (hc:∀ G:aa,G.next=H.next->(∀ n∈F,G.get n=H.get n)->br P f (args.map (cm E)) G (.ok v) (ext G M)) (hm:∀ r∈fps,cQ (anc.getD i 0) F [] (ae v++M.flatMap fun x=>gk x.l) r)
  (h:fH P ops anc rest (i+1) (⟨i,F,[],H.next,H.next+M.length⟩::fps) (bA N (cE E d v) ds) (ext H M) Q):nA P ops anc ⟨some d,.call ⟨.value (.func f),⟨args⟩,ts⟩,ty,pos,after,none⟩ rest i fps (bA N E ds) H Q:=by
 have hn:=aL H F
 have hd':(ext (H.restrict F) M).dirty=[]:=by rw[gv,hn.2.2]
 have hnx:(ext (H.restrict F) M).next=H.next+M.length:=by rw[ai,hn.1]
 have hget:∀ j,j<M.length->(ext (H.restrict F) M).get (H.next+j)=M[j]?.map Bl.obj:=by
  intro j hj
  rw[<-hn.1]
  exact fh hj
 have hmn:∀ (M:List Bl) (K g:aa) (m:Nat),K.next=m->(∀ j,j<M.length->g.get (m+j)=M[j]?.map Bl.obj)->∀ h',h'=aa.cJ K g m M.length->(⟨h'.root,m+M.length,h'.base,h'.dirty⟩:aa)=ext K M:=by
  intro M
  induction M with
  |nil=>intro K g m hK _ h' hh; subst hK; subst hh; rfl
  |cons x M ih =>
   intro K g m hK hg h' hh
   have h0:=hg 0 (by simp)
   simp only[zE1,zF5,zA9]at h0
   rw[zB0]at hh
   simp only[aa.cJ,h0]at hh
   have:=ih (nw K x.e x.l x.o) g (m+1) (by rw[iW,hK]) (fun j hj=>by
    have:=hg (j+1) (by simpa using hj)
    simp only[zG4]at this
    rw[show m+1+j=m+(j+1) by omega]
    exact this) (aa.cJ (nw K x.e x.l x.o) g (m+1) M.length) rfl
   have key:∀ (A B:aa) (n k:Nat),A.root=B.root->A.base=B.base->A.dirty=B.dirty->(aa.cJ A g n k).root=(aa.cJ B g n k).root/\(aa.cJ A g n k).base=(aa.cJ B g n k).base/\(aa.cJ A g n k).dirty=(aa.cJ B g n k).dirty:=by
    intro A B n k
    induction k generalizing A B n with
    |zero=>exact fun h1 h2 h3=>⟨h1,h2,h3⟩
    |succ k ihk =>
     intro h1 h2 h3
     simp only[aa.cJ]
     exact ihk _ _ _ (by simp only[aa.put_eq,h1]) h2 h3
   have k2:=key (nw K x.e x.l x.o) (K.put m (some x.obj)) (m+1) M.length (by simp only[nw,aa.oK,aa.put_eq,hK,Bl.obj]) rfl rfl
   rw[ext,<-this,hh,k2.1,k2.2.1,k2.2.2,zB0,show m+(M.length+1)=m+1+M.length by omega]
 have hmg:H.merge (ext (H.restrict F) M)=ext H M:=by
  unfold aa.merge
  rw[hd',hnx,zF8]
  simp only[aa.ey]
  exact hmn M H _ H.next rfl hget _ rfl
 refine⟨F,v,ext (H.restrict F) M,?_,hF,(by rw[hd']; simp),fun r hr=>iS ?_,?_⟩
 ·refine fP (x:=.enter f (args.map (cm E))) (g:=H.restrict F) ?_ (hc _ hn.1 (fun n hn'=>by rw[aU,if_pos hn']))
  simp only[ck,kc,cp ha,aK,zA1,zA3,oA,fq,iU,hb,if_true,zC1,zD0,zA9]
 ·have hids:∀ (k s:Nat),s+k=M.length->(da (H.next+s) k).flatMap (fk (ext (H.restrict F) M))=(M.drop s).flatMap fun x=>gk x.l:=by
   intro k
   induction k with
   |zero=>intro s hs; rw[da,zF1 (by omega)]; rfl
   |succ k ih =>
    intro s hs
    have hlt:s<M.length:=by omega
    rw[da,List.flatMap_cons,List.drop_eq_getElem_cons hlt,List.flatMap_cons]
    have:=ih (s+1) (by omega)
    rw[show H.next+(s+1)=H.next+s+1 by omega]at this
    rw[this]
    congr 1
    simp only[fk,hget s hlt,zB1 hlt,zA9,Bl.obj,pZ,RV.n_ofList,RV.jA]
  have:=hids M.length 0 (by omega)
  simp only[zE1,zD1]at this
  rw[hd']
  simp only[fZ,hd',hnx,zF8,zC1,this]
  exact hm r hr
 ·rw[hmg,hd',hnx]
  simp only[dG N E ds d v hd]
  exact h
end
structure Mod (W:List Nat) (H H1:aa):Prop where
 next:H.next<=H1.next
 base:H1.base=H.base
 get:∀ n,n<H.next->n∉W->H1.get n=H.get n
 sub:∀ n,n∈H.dirty->n∈H1.dirty
 dirty:∀ n,n∈H1.dirty->n∈H.dirty\/(n∈W/\n<H.base)
 keep:∀ n,n<H.base->n∉H1.dirty->H1.get n=H.get n
section
variable {P : Program} {H H1 H2 : aa} {W : List Nat} {L : List Bl}
theorem Mod.refl:Mod W H H:=⟨zA8 _,rfl,fun _ _ _=>rfl,fun _ h=>h,fun _ h=>.inl h,fun _ _ _=>rfl⟩
theorem Mod.trans (a:Mod W H H1) (b:Mod W H1 H2):Mod W H H2 where
 next:=zC3 a.next b.next
 base:=b.base.trans a.base
 get:=fun n hn hW=>(b.get n (zD5 hn a.next) hW).trans (a.get n hn hW)
 sub:=fun n h=>b.sub n (a.sub n h)
 dirty:=fun n h=>(b.dirty n h).elim (a.dirty n) (fun h=>.inr ⟨h.1,a.base▸h.2⟩)
 keep:=fun n hn hd=>(b.keep n (by rw[a.base]; exact hn) hd).trans (a.keep n hn (fun h=>hd (b.sub n h)))
theorem Mod.mono {W':List Nat} (a:Mod W H H1) (h:∀ n∈W,n∈W'):Mod W' H H1 :=
 ⟨a.next,a.base,fun n hn hW=>a.get n hn (fun h'=>hW (h n h')),a.sub,fun n hn=>(a.dirty n hn).imp id (fun h'=>⟨h n h'.1,h'.2⟩),a.keep⟩
theorem Mod.ext (hb:H.base<=H.next):Mod W H (Go.Ax.ext H L) :=
 ⟨by rw[ai]; omega,xE,fun n hn _=>bK hn,fun n h=>by rw[gv]; exact h,fun n h=>by rw[gv]at h; exact .inl h,fun n hn _=>bK (by omega)⟩
theorem PX {n off:Nat} {vs:List Value} {m:Nat} (h:m∈H.dirty):m∈(uw H n off vs).dirty:=by
 unfold uw
 split
 ·simp only[aa.et]
  split
  ·exact zC7 _ h
  ·exact h
 ·exact h
theorem Mod.uw {n off:Nat} {vs:List Value} (hn:n∈W):Mod W H (Go.Ax.uw H n off vs) where
 next:=by rw[b6]; exact zA8 _
 base:=Oe
 get:=fun m _ hm=>gL (fun e=>hm (e▸hn))
 sub:=fun m h=>PX h
 dirty:=fun m h=>by
  rcases KB h with h|⟨rfl,h⟩
  ·exact .inl h
  ·exact .inr ⟨hn,h⟩
 keep:=fun m hm hd=>by
  by_cases e:m=n
  ·subst e
   unfold Go.Ax.uw at hd ⊢
   split at hd
   ·simp only[aa.et,a8 hm,if_true]at hd
    exact absurd zE5 hd
   ·rfl
  ·exact gL e
theorem Mod.bk (m:Mod W H H1) {n:Nat} (hn:n<H.next) (hW:n∉W):Go.Ax.bk H1 n=Go.Ax.bk H n:=bg (m.get n hn hW)
theorem Mod.lt (m:Mod W H H1) {n:Nat} (hn:n<H.next):n<H1.next:=zD5 hn m.next
theorem Mod.ok (m:Mod W H H1) (h:H.base<=H.next):H1.base<=H1.next:=by have:=m.next; rw[m.base]; omega
theorem rU (g:aa):∀ (l:List Nat) (H:aa) (n:Nat),n∈(aa.ey H g l).dirty->n∈H.dirty\/(n∈l/\n<H.base)
 |[],_,_,h=>.inl h
 |m::r,H,n,h=>by
  rcases rU g r _ n h with h|h
  ·simp only[aa.et]at h
   split at h
   ·rename_i hb
    rcases zA7.1 h with rfl|h
    ·exact .inr ⟨zE5,bN hb⟩
    ·exact .inl h
   ·exact .inl h
  ·exact .inr ⟨zC7 _ h.1,h.2⟩
theorem uJ (H g:aa) (n:Nat) (h:n∈(H.merge g).dirty):n∈H.dirty\/(n∈g.dirty/\n<H.base):=by
 have k:=(lx g (g.next-H.next) H.next (aa.ey H g g.dirty)).2
 refine rU g g.dirty H n ?_
 rw[<-k]
 exact h
theorem oM {N:Nat} {E:Env} {ds:List Deferred} {ops:Array Oper} {anc:List Nat} {dst:Option Nat} {ty:TypeId} {pos:String} {after:Array Edge} {rest:List Oper} {i:Nat} {fps:List Fp} {Q:ag->aa->Prop} {f:FuncId} {args:List Operand} {ts:Array TypeId} {v:Value} {g:aa}
  (F:List Nat) (hok:H.base<=H.next) (ha:args.all (bj P N)=true) (hb:aF P f=true) (hF:∀ n∈F,H.get n≠none) (hlt:∀ n∈F,n<H.next) (hW:∀ n∈W,n∈F)
  (hc:br P f (args.map (cm E)) (H.restrict F) (.ok v) g) (hmod:Mod W (H.restrict F) g)
  (hm:∀ r∈fps,(anc.getD i 0).testBit r.i=true\/(r.hi<=r.lo/\(∀ n∈r.W,n∉F)/\(∀ n∈r.F,n∉W)))
  (h:∀ H' D,Mod W H H'->(∀ n∈F,H'.get n=g.get n)->(∀ n,H.next<=n->n<g.next->H'.get n=g.get n)->H'.next=g.next->(∀ n∈D,n∈W)->fH P ops anc rest (i+1) (⟨i,F,D,H.next,g.next⟩::fps) ((bA N E ds).put dst v) H' Q) :
  nA P ops anc ⟨dst,.call ⟨.value (.func f),⟨args⟩,ts⟩,ty,pos,after,none⟩ rest i fps (bA N E ds) H Q:=by
 have hn:=aL H F
 have hd:∀ n∈g.dirty,n∈W:=by
  intro n hg
  rcases hmod.dirty n hg with h|h
  ·rw[hn.2.2]at h; cases h
  ·exact h.1
 have hle:H.next<=g.next:=by have:=hmod.next; rw[hn.1]at this; exact this
 have hgF:∀ n∈F,(H.merge g).get n=g.get n:=by
  intro n hnF
  by_cases hgd:n∈g.dirty
  ·exact ky H g hle (.inl hgd)
  ·rw[fM H g hle]
   ·rw[hmod.keep n (by rw[hn.2.1]; exact hlt n hnF) hgd,aU,if_pos hnF]
   ·rintro (h'|h')
    ·exact hgd h'
    ·have:=hlt n hnF; omega
 have hmf:=jT H g
 refine⟨F,v,g,?_,hF,fun n h'=>hW n (hd n h'),fun r hr=>iS ?_,?_⟩
 ·refine fP (x:=.enter f (args.map (cm E))) (g:=H.restrict F) ?_ hc
  simp only[ck,kc,cp ha,aK,zA1,zA3,oA,fq,iU,hb,if_true,zC1,zD0,zA9]
 ·rcases hm r hr with h'|⟨h1,h2,h3⟩
  ·exact .inl h'
  ·exact .inr ⟨h2,fun n hnr hng=>h3 n hnr (hd n hng),fun hlt'=>absurd hlt' (by omega)⟩
 ·refine h (H.merge g) g.dirty ⟨by rw[hmf.1]; exact hle,hmf.2.1,fun n hnl hnW=>?_,hmf.2.2.1,fun n hnd=>?_,fun n hnb hnd=>?_⟩ hgF (fun n h1 h2=>ky H g hle (.inr ⟨h1,h2⟩)) hmf.1 hd
  ·rw[fM H g hle]
   rintro (h'|h')
   ·exact hnW (hd n h')
   ·omega
  ·rcases uJ H g n hnd with h'|h'
   ·exact .inl h'
   ·exact .inr ⟨hd n h'.1,h'.2⟩
  ·by_cases hgd:n∈g.dirty
   ·exact absurd (hmf.2.2.2 n hgd hnb) hnd
   ·rw[fM H g hle]
    rintro (h'|h')
    ·exact hgd h'
    ·omega
theorem Mod.step {W':List Nat} (a:Mod W H H1) (b:Mod W' H1 H2) (hok:H.base<=H.next) (h:∀ n∈W',n∈W\/H.next<=n):Mod W H H2 where
 next:=zC3 a.next b.next
 base:=b.base.trans a.base
 get:=fun n hn hW=>(b.get n (zD5 hn a.next) (fun h'=>(h n h').elim hW (by omega))).trans (a.get n hn hW)
 sub:=fun n h=>b.sub n (a.sub n h)
 dirty:=fun n h'=>by
  rcases b.dirty n h' with h'|⟨h1,h2⟩
  ·exact a.dirty n h'
  ·rw[a.base]at h2
   exact .inr ⟨(h n h1).elim id (by omega),h2⟩
 keep:=fun n hn hd=>(b.keep n (by rw[a.base]; exact hn) hd).trans (a.keep n hn (fun h=>hd (b.sub n h)))
theorem Mod.cE {n:Nat} {o:Option dw} (hn:n∈W):Mod W H (H.cE n o) where
 next:=zA8 _
 base:=rfl
 get:=fun m _ hm=>by
  have cR:m≠n:=by rintro rfl; exact hm hn
  rw[aa.eY,if_neg cR]
 sub:=fun m h=>by
  simp only[aa.et]
  split
  ·exact zC7 _ h
  ·exact h
 dirty:=fun m h=>by
  simp only[aa.et]at h
  split at h
  ·rename_i hb
   rcases zA7.1 h with rfl|h
   ·exact .inr ⟨hn,bN hb⟩
   ·exact .inl h
  ·exact .inl h
 keep:=fun m hm hd=>by
  by_cases e:m=n
  ·subst e
   simp only[aa.et,a8 hm,if_true]at hd
   exact absurd zE5 hd
  ·rw[aa.eY,if_neg e]
theorem Mod.new {o:dw} (hok:H.base<=H.next):Mod W H (H.new o) :=
 ⟨Nat.le_succ _,rfl,fun n hn _=>by rw[aa.fA,if_neg (by omega)],fun _ h=>h,fun _ h=>.inl h,fun n hn _=>by rw[aa.fA,if_neg (by omega)]⟩
theorem Mod.one (w:WF P H) (m:Mod [] H H1) {k:Nat} {b:Bl} (hk:H.next<=k) (hb:Go.Ax.bk H1 k=some b) (hs:aO H.next b.l=true):Rn (fun n=>if n<H.next then n else k) H H1 (Go.Ax.ext H [b]):=by
 have hnew:∀ n o2,H.next<=n->(Go.Ax.ext H [b]).get n=some o2->n=H.next/\o2=b.obj:=by
  intro n o2 hn h
  by_cases hi:n=H.next
  ·subst hi
   have:=fh (L:=[b]) (H:=H) (i:=0) (by simp)
   simp only[zE1,zF5,zA9]at this
   rw[this]at h
   exact⟨rfl,(Option.some.inj h).symm⟩
  ·rw[oV (by simp; omega)]at h
   have:=(w.dom _ _ h).1
   omega
 have hall:∀ (l:List Value),aO H.next l=true->∀ j,j<l.length->aS H.next (l.getD j undef)=true:=by
  intro l
  induction l with
  |nil=>intro _ j hj; simp at hj
  |cons x r ih =>
   intro hl j hj
   simp only[aO,zA4]at hl
   cases j with
   |zero=>simpa using hl.1
   |succ j =>
    have:=ih hl.2 j (by simpa using hj)
    simpa using this
 refine⟨fun n hn=>if_pos hn,by rw[ai]; omega,by rw[xE],fun n h=>by rw[gv]; exact h,fun n h=>by rw[gv]; exact (m.dirty n h).elim id (fun h=>by cases h.1),?_,?_,?_,fun n hz=>⟨fun h=>.inl (by rw[gv]at h; exact h),fun _=>bK (by
  obtain⟨o,ho,_⟩:=hz
  exact (w.dom n o ho).1)⟩⟩
 ·intro n o2 h
  rcases zC2 n H.next with hn|hn
  ·rw[bK hn]at h
   exact .inl ⟨hn,h,by rw[m.get n hn (by simp),h]⟩
  ·obtain⟨rfl,rfl⟩:=hnew n o2 hn h
   obtain⟨rv,hc,hn1,hg⟩:=qY hb
   refine .inr ⟨by rw[ai]; simp,?_,fun h=>absurd w.base (by omega),fun h=>absurd h (by omega),fun _=>by rw[if_neg (by omega)]; exact hk,?_⟩
   ·simp only[Bl.obj,ki,RV.n_ofList]
    intro j hj
    rw[RV.cb,ai]
    exact cM (by omega) _ (hall _ hs j hj)
   ·rw[if_neg (Nat.lt_irrefl _)]
    unfold bH at hc
    split at hc
    ·rename_i c e z o v hg1
     cases hc
     refine⟨_,hg1,⟨c,b.e,0,z,#[],0,rfl,rfl⟩,rfl,?_,?_⟩
     ·simp only[Bl.obj,RV.n_ofList]; exact hn1
     ·intro j hj
      simp only[Bl.obj,RV.n_ofList]at hj
      simp only[Bl.obj,RV.cb]
      rw[hg j hj,vM (N:=H.next) (fun n hn=>if_pos hn) _ (hall _ hs j hj)]
    ·cases hc
 ·intro n hb' h
  have hn:n<H.next:=zD5 hb' w.base
  rw[bK hn]at h
  exact .inl h
 ·have cls:∀ n,(Go.Ax.ext H [b]).get n≠none->n<H.next\/n=H.next:=by
   intro n hn
   rcases zC2 n H.next with h|h
   ·exact .inl h
   ·cases hg:(Go.Ax.ext H [b]).get n with
    |none=>exact absurd hg hn
    |some o2=>exact .inr (hnew n o2 h hg).1
  intro m' n' hm hn he
  rcases cls m' hm with h1|rfl<;>rcases cls n' hn with h2|rfl
  ·rw[if_pos h1,if_pos h2]at he; exact he
  ·rw[if_pos h1,if_neg (Nat.lt_irrefl _)]at he; omega
  ·rw[if_pos h2,if_neg (Nat.lt_irrefl _)]at he; omega
  ·rfl
variable {f : FuncId} {args : List Value}
theorem jd {b:Bl} {n c:Nat} {s:Option Nat} (h:WF P H->aO H.next args=true->bF P f args H fun out H1=>∃ k,out=.ok (.slice (some ⟨k,0,s⟩) n c)/\H.next<=k/\Go.Ax.bk H1 k=some b/\Mod [] H H1) (hs:WF P H->aO H.next args=true->aO H.next b.l=true) :
  br P f args H (.ok (.slice (some ⟨H.next,0,s⟩) n c)) (Go.Ax.ext H [b]):=by
 intro ρ w r hsc
 obtain⟨_,H1,h1,k,rfl,hk,hb,m⟩:=h r.wf hsc
 refine br.rn (σ:=fun n=>if n<H.next then n else k) (H1:=H1) ?_ (fun w=>m.one w hk hb (hs r.wf hsc)) (by rw[ai]; exact a8 (zD9 _)) ρ w r hsc
 simp only[kK,Nat.lt_irrefl,if_false]
 exact h1
end
section
variable {P : Program} {ro : Option Nat} {H : aa} {N : Nat} {E : Env} {ds : List Deferred} {L : List Bl}
def Rw (P:Program) (l:Nat) (args:List Value) (H:aa) (R:Out->aa->Prop):Prop :=
 match wz H l args with
 |some (.round rd)=>M3 P rd H R
 |_=>False
theorem eT {c:Code} {Q:Exit->ag->aa->Prop} (h:∀ E',E'=E->gO P ro c Q (bA N E' ds) H):gO P ro c Q (bA N E ds) H:=h E rfl
theorem M8 {f:FuncId} {first captured:List Operand} {ops:Array Oper} {rest:List Oper} {d:Nat} {ty:TypeId} {pos:String} {after:Array Edge} {Q:Exit->ag->aa->Prop} (h1:first.all (bj P N)=true) (h2:captured.all (bj P N)=true) (hd:d<N) :
  wpOps P ro ops (⟨some d,.makeFunc (.func f) ⟨first⟩ ⟨captured⟩,ty,pos,after,none⟩::rest) (bA N E ds) H Q=wpOps P ro ops rest (bA N (cE E d (.func (.func f) ⟨first.map (cm E)⟩ ⟨captured.map (cm E)⟩)) ds) H Q:=by
 rw[xc rfl rfl]
 simp only[zi,ck,Dw,cp h1,cp h2,zA1,zA3,zQ,mn,EP,dG N E ds d _ hd]
theorem yI:bj P N (.const .nilFunc)=true:=by simp only[bj,af]
theorem lG {l:List Value} (h:l.all one=true) (a b:Nat):((l.drop a).take b).all one=true:=by
 rw[zC6]at h ⊢
 exact fun x hx=>h x (zF9 (zF6 hx))
theorem jH {sz cnt n off len cap:Nat} {s:Option Nat} {b:Bl} (h:rk H n=some b) (hle:off+cnt*sz<=b.l.length):cO H sz cnt (.slice (some ⟨n,off,s⟩) len cap)=some ((b.l.drop off).take (cnt*sz)):=by
 obtain⟨rv,h1,h2,h3⟩:=KC h
 by_cases hc:cnt=0
 ·subst hc
  rw[zF7,List.take_zero]
  simp only[cO,if_true]
 simp only[cO,if_neg hc,h1,zA1,zA3]
 rw[if_pos (by rw[zE6]; omega),QI.jK h2 h3 _ _ hle]
theorem fI {sz cnt n off len cap:Nat} {s:Option Nat} {b:Bl} (h:bk H n=some b) (hle:off+cnt*sz<=b.l.length):cO H sz cnt (.slice (some ⟨n,off,s⟩) len cap)=some ((b.l.drop off).take (cnt*sz)):=jH (jR h) hle
theorem Lp {st xt e:TypeId} {sz by1 n off cnt cap:Nat} {s:Option Nat} {z:Value} {b:Bl} (hu:P.underlying st=some (.slice e)) (hsz:bh P e=some sz) (hby:bytesOf P e=some by1) (hz:zeroOf P e=some z) (hzl:z.cells.toList.length=sz) (hi:fj P xt=some false)
  (hb:rk H n=some b) (hle:off+cnt*sz<=b.l.length) (hone:b.l.all one=true) (hc:0<cnt) (hsm:small cnt by1=true) :
  aD P H .append ⟨[st,xt]⟩ [.slice none 0 0,.slice (some ⟨n,off,s⟩) cnt cap]=(cF H e ((b.l.drop off).take (cnt*sz)) true).map fun g=>(.slice (some ⟨H.next,0,none⟩) cnt cnt,g):=by
 have hl:((b.l.drop off).take (cnt*sz)).length=cnt*sz:=by simp; omega
 simp only[aD,eP,hu,hsz,hby,hz,hi,zA1,zA3,iY,jH hb hle,hl,hzl,zB8,hsm,and_self,if_true,cW]
 rw[if_neg (by omega)]
 simp only[cO,zA3,zB6,zF7,List.all_nil,lG hone,decide_true,zE3,if_true,zC1]
 cases cF H e ((b.l.drop off).take (cnt*sz)) true<;>rfl
theorem Il {st xt e:TypeId} {sz by1 n off cnt cap:Nat} {s:Option Nat} {z:Value} {b:Bl} (hu:P.underlying st=some (.slice e)) (hsz:bh P e=some sz) (hby:bytesOf P e=some by1) (hz:zeroOf P e=some z) (hzl:z.cells.toList.length=sz) (hi:fj P xt=some false)
  (hb:bk H n=some b) (hle:off+cnt*sz<=b.l.length) (hone:b.l.all one=true) (hc:0<cnt) (hsm:small cnt by1=true) :
  aD P H .append ⟨[st,xt]⟩ [.slice none 0 0,.slice (some ⟨n,off,s⟩) cnt cap]=(cF H e ((b.l.drop off).take (cnt*sz)) true).map fun g=>(.slice (some ⟨H.next,0,none⟩) cnt cnt,g):=Lp hu hsz hby hz hzl hi (jR hb) hle hone hc hsm
theorem J0 {st xt e:TypeId} {sz by1 m k n off cnt cap:Nat} {s:Option Nat} {z:Value} {b:Bl} {fX:List Value} (hu:P.underlying st=some (.slice e)) (hsz:bh P e=some sz) (hby:bytesOf P e=some by1) (hz:zeroOf P e=some z) (hzl:z.cells.toList.length=sz) (hi:fj P xt=some false)
  (hm:bk H m=some ⟨e,true,fX⟩) (ho:fX.length=k*sz) (hoo:fX.all one=true)
  (hb:rk H n=some b) (hle:off+cnt*sz<=b.l.length) (hone:b.l.all one=true) (hc:0<cnt) (hsm:small (k+cnt) by1=true) :
  aD P H .append ⟨[st,xt]⟩ [.slice (some ⟨m,0,none⟩) k k,.slice (some ⟨n,off,s⟩) cnt cap]=(cF (H.cE m none) e (fX++(b.l.drop off).take (cnt*sz)) true).map fun g=>(.slice (some ⟨H.next,0,none⟩) (k+cnt) (k+cnt),g):=by
 have hl:((b.l.drop off).take (cnt*sz)).length=cnt*sz:=by simp; omega
 obtain⟨rv,h1,h2,h3⟩:=qY hm
 have hop:il H m=some true:=by
  obtain⟨c0,f0,hg⟩:=dW h1
  simp only[il,hg]
 simp only at h1 h2 h3
 have hf:=fI (sz:=sz) (cnt:=k) (off:=0) (len:=k) (cap:=k) (s:=none) hm (by simp only; omega)
 simp only[zD1]at hf
 rw[zD6 (by omega)]at hf
 simp only[aD,eP,hu,hsz,hby,hz,hi,zA1,zA3,iY,jH hb hle,hl,hzl,hsm,and_self,if_true,cW]
 rw[if_neg (by omega)]
 simp only[hf,zA3,ho,hoo,lG hone,decide_true,zE3,if_true,fC,cY,hop,zA9,zE0,h1]
 rw[if_pos ⟨trivial,by rw[zE6]; omega⟩]
 cases cF (H.cE m none) e (fX++(b.l.drop off).take (cnt*sz)) true<;>rfl
theorem C0 {st xt e:TypeId} {sz by1 m k n off cnt cap:Nat} {s:Option Nat} {z:Value} {b:Bl} {fX:List Value} (hu:P.underlying st=some (.slice e)) (hsz:bh P e=some sz) (hby:bytesOf P e=some by1) (hz:zeroOf P e=some z) (hzl:z.cells.toList.length=sz) (hi:fj P xt=some false)
  (hm:bk H m=some ⟨e,true,fX⟩) (ho:fX.length=k*sz) (hoo:fX.all one=true)
  (hb:bk H n=some b) (hle:off+cnt*sz<=b.l.length) (hone:b.l.all one=true) (hc:0<cnt) (hsm:small (k+cnt) by1=true) :
  aD P H .append ⟨[st,xt]⟩ [.slice (some ⟨m,0,none⟩) k k,.slice (some ⟨n,off,s⟩) cnt cap]=(cF (H.cE m none) e (fX++(b.l.drop off).take (cnt*sz)) true).map fun g=>(.slice (some ⟨H.next,0,none⟩) (k+cnt) (k+cnt),g):=J0 hu hsz hby hz hzl hi hm ho hoo (jR hb) hle hone hc hsm
theorem Gp {st xt e:TypeId} {sz by1 m k n off cnt cap:Nat} {s:Option Nat} {z:Value} {b bm:Bl} (hu:P.underlying st=some (.slice e)) (hsz:bh P e=some sz) (hby:bytesOf P e=some by1) (hz:zeroOf P e=some z) (hzl:z.cells.toList.length=sz) (hi:fj P xt=some false)
  (hm:bk H m=some bm) (ho:k*sz<=bm.l.length) (hoo:bm.l.all one=true)
  (hb:rk H n=some b) (hle:off+cnt*sz<=b.l.length) (hone:b.l.all one=true) (hc:0<cnt) (hsm:small (k+cnt) by1=true) :
  aD P H .append ⟨[st,xt]⟩ [.slice (some ⟨m,0,some 0⟩) k k,.slice (some ⟨n,off,s⟩) cnt cap]=(cF H e (bm.l.take (k*sz)++(b.l.drop off).take (cnt*sz)) true).map fun g=>(.slice (some ⟨H.next,0,none⟩) (k+cnt) (k+cnt),g):=by
 have hl:((b.l.drop off).take (cnt*sz)).length=cnt*sz:=by simp; omega
 have hl2:(bm.l.take (k*sz)).length=k*sz:=by simp; omega
 have hf:=fI (sz:=sz) (cnt:=k) (off:=0) (len:=k) (cap:=k) (s:=some 0) hm (by omega)
 simp only[zD1]at hf
 have hoo2:=lG hoo 0 (k*sz)
 simp only[zD1]at hoo2
 simp only[aD,eP,hu,hsz,hby,hz,hi,zA1,zA3,iY,jH hb hle,hl,hzl,hsm,and_self,if_true,cW]
 rw[if_neg (by omega)]
 simp only[hf,zA3,hl2,hoo2,lG hone,decide_true,zE3,if_true,fC,cY]
 cases cF H e (bm.l.take (k*sz)++(b.l.drop off).take (cnt*sz)) true<;>rfl
theorem pI {st xt e:TypeId} {sz by1 m k n off cnt cap:Nat} {s:Option Nat} {z:Value} {b bm:Bl} (hu:P.underlying st=some (.slice e)) (hsz:bh P e=some sz) (hby:bytesOf P e=some by1) (hz:zeroOf P e=some z) (hzl:z.cells.toList.length=sz) (hi:fj P xt=some false)
  (hm:bk H m=some bm) (ho:k*sz<=bm.l.length) (hoo:bm.l.all one=true)
  (hb:bk H n=some b) (hle:off+cnt*sz<=b.l.length) (hone:b.l.all one=true) (hc:0<cnt) (hsm:small (k+cnt) by1=true) :
  aD P H .append ⟨[st,xt]⟩ [.slice (some ⟨m,0,some 0⟩) k k,.slice (some ⟨n,off,s⟩) cnt cap]=(cF H e (bm.l.take (k*sz)++(b.l.drop off).take (cnt*sz)) true).map fun g=>(.slice (some ⟨H.next,0,none⟩) (k+cnt) (k+cnt),g):=Gp hu hsz hby hz hzl hi hm ho hoo (jR hb) hle hone hc hsm
def dp (H:aa) (m:Nat):aa:=H.cE m none
theorem iO {m:Nat}:(dp H m).next=H.next:=rfl
theorem Py {m n:Nat} (h:n≠m):(dp H m).get n=H.get n:=by rw[dp,aa.eY,if_neg h]
theorem Ge {m:Nat} (h:m<H.next):(ext H L).cE m none=ext (dp H m) L:=ln h
structure SB (P:Program) (l:Nat) (α:Type) (enc:α->List Value) (go:α->Bool) (cap:Nat) where
 Inv:List α->List Nat->List Nat->aa->Prop
 sub:∀ {rs F W G},Inv rs F W G->∀ n∈W,n∈F
 dom:∀ {rs F W G},Inv rs F W G->∀ n∈F,G.get n≠none/\n<G.next
 loc:∀ {rs F W G G'},Inv rs F W G->G.next<=G'.next->(∀ n∈F,G'.get n=G.get n)->Inv rs F W G'
 step:∀ {rs F W G r},Inv rs F W G->(∀ x∈rs,go x=true)->rs.length<cap->G.base<=G.next->Rw P l (enc r) G (fun out G'=>out=.ok (.bool (go r))/\∃ F' W',Inv (rs++[r]) F' W' G'/\Mod W G G'/\(∀ n∈F',n∈F\/G.next<=n)/\(∀ n∈W',n∈W\/G.next<=n))
def upto {α:Type} (go:α->Bool):List α->List α
 |[]=>[]
 |x::r=>if go x then x::upto go r else [x]
def Pz:Option Bl->List Nat
 |some x=>gk x.l
 |none=>[]
theorem Hh {e:TypeId} {o:Bool} {l:List Value}:Pz (some ⟨e,o,l⟩)=gk l:=by simp only[Pz]
theorem K7 {b i:Nat} (h:H.next=b) (hi:i<L.length):fk (ext H L) (b+i)=Pz L[i]?:=by
 rw[ON h hi]
 cases L[i]?<;>rfl
def P7 (n:Nat):Option TypeDesc->Option Value
 |some (.slice _)=>some (goInt n)
 |some (.array m _)=>some (goInt m)
 |_=>none
def PF (n:Nat):Option TypeDesc->Option Value
 |some (.slice _)=>some (goInt n)
 |_=>none
theorem yA {n:Nat} {e:TypeId}:P7 n (some (.slice e))=some (goInt n):=by simp only[P7]
theorem yJ {n:Nat} {e:TypeId}:PF n (some (.slice e))=some (goInt n):=by simp only[PF]
theorem HI {t:TypeId} {x:Option Addr} {n c:Nat}:aD P H .len ⟨[t]⟩ [.slice x n c]=(P7 n (P.underlying t)).map fun v=>(v,H):=by
 simp only[aD,EW]
 cases P.underlying t with
 |none=>rfl
 |some d=>cases d<;>rfl
theorem GL {t:TypeId} {x:Option Addr} {n c:Nat}:kU P .len ⟨[t]⟩ [.slice x n c]=PF n (P.underlying t):=by
 simp only[kU]
 cases P.underlying t with
 |none=>rfl
 |some d=>cases d<;>rfl
theorem KF {n:Int}:goInt n=.int .i64 n:=by simp only[goInt]
theorem gl {t e:TypeId} {sz n off len cap:Nat} {s:Option Nat} {k:IntKind} {i:Int} (hu:P.underlying t=some (.slice e)) (hsz:bh P e=some sz) (h0:0<=i) (h1:i<len):aP P t (.slice (some ⟨n,off,s⟩) len cap) (.int k i)=some (.pointer (some ⟨n,off+i.toNat*sz,none⟩)):=by
 simp only[aP,hu,hsz,zA1,zA3,h0,h1,and_self,if_true]
theorem Ao {anc j lo hi:Nat} {F W O:List Nat} {fps:List Fp}:iD anc (⟨j,F,W,lo,hi⟩::fps) O=((lo<hi->anc.testBit j=true\/∀ n∈O,n<lo\/hi<=n)/\iD anc fps O):=by simp[iD]
theorem Ar {anc j lo hi:Nat} {F W O:List Nat} {fps:List Fp} (h:anc.testBit j=true):iD anc (⟨j,F,W,lo,hi⟩::fps) O=iD anc fps O:=by simp[iD,h]
theorem zT {anc j lo hi:Nat} {F W F' W' O:List Nat} (h:anc.testBit j=true):cQ anc F W O ⟨j,F',W',lo,hi⟩=True:=by simp[cQ,h]
end
section
variable {P : Program} {ro : Option Nat} {H : aa} {N : Nat} {E : Env} {ds : List Deferred} {L : List Bl}
theorem jt {n:Nat} {b:Bl} (h:bk H n=some b):il H n=some b.o:=by
 unfold bk at h
 cases hc:bH H n with
 |none=>rw[hc]at h; cases h
 |some x =>
  rw[hc]at h
  obtain⟨rv,e,o⟩:=x
  cases h
  obtain⟨c0,f0,hg⟩:=dW hc
  simp only[il,hg]
section
variable {ops : Array Oper} {anc : List Nat} {d : Nat} {ty : TypeId} {pos : String} {after : Array Edge} {rest : List Oper} {i : Nat} {fps : List Fp} {Q : ag -> aa -> Prop}
end
end
section
variable {P : Program} {ro : Option Nat} {H : aa} {N : Nat} {E : Env} {ds : List Deferred} {L : List Bl}
def w8 (N:Nat) (ds:List Deferred) (J:Env->aa->Prop) (Q:Exit->ag->aa->Prop):Exit->ag->aa->Prop
 |.normal,a,H=>∃ E,a=bA N E ds/\J E H
 |e,a,H=>Q e a H
theorem aj {J:Env->aa->Prop} {Q:Exit->ag->aa->Prop} (h:J E H):w8 N ds J Q .normal (bA N E ds) H:=⟨E,rfl,h⟩
theorem eF {J:Env->aa->Prop} {Q:Exit->ag->aa->Prop} {a:ag}:w8 N ds J Q .ret a H=Q .ret a H:=Eq.trans rfl rfl
theorem pS {J:Env->aa->Prop} {Q:Exit->ag->aa->Prop} {z:Code} (h3:∀ E H,J E H->gO P ro z Q (bA N E ds) H):∀ e a H,w8 N ds J Q e a H->Br P ro z Q e a H:=by
 intro e a H h
 cases e with
 |normal =>
  obtain⟨E',rfl,hI⟩:=h
  exact h3 E' H hI
 |_=>exact h
theorem gZ {x y z:Code} {Q:Exit->ag->aa->Prop} {v:Value} (J:Env->aa->Prop) (h1:qw P ro x y (w8 N ds J Q) (bA N E ds) H v) (h3:∀ E H,J E H->gO P ro z Q (bA N E ds) H):qw P ro x y (Br P ro z Q) (bA N E ds) H v:=by
 cases v with
 |bool b =>
  cases b with
  |true=>rw[qG]at h1 ⊢; exact mI x _ H (pS h3) h1
  |false=>rw[o8]at h1 ⊢; exact mI y _ H (pS h3) h1
 |_=>exact h1
theorem bE {c z:Code} {id:Nat} {Q:Exit->ag->aa->Prop} (J:Env->aa->Prop) (h1:gO P ro c (lT id (w8 N ds J Q)) (bA N E ds) H) (h3:∀ E H,J E H->gO P ro z Q (bA N E ds) H):gO P ro c (lT id (Br P ro z Q)) (bA N E ds) H:=by
 refine mI c _ H (fun e a H h=>?_) h1
 exact pS h3 _ _ _ h
theorem kH {c z:Code} {Q:Exit->ag->aa->Prop} (J:Env->aa->Prop) (h1:gO P ro c (w8 N ds J Q) (bA N E ds) H) (h3:∀ E H,J E H->gO P ro z Q (bA N E ds) H):gO P ro c (Br P ro z Q) (bA N E ds) H :=
 mI c _ H (pS h3) h1
theorem aM {K:Env->aa->Prop} {Q:Exit->ag->aa->Prop} (h:K E H):qy N ds K Q .normal (bA N E ds) H:=by
 rw[A9]
 exact⟨E,rfl,h⟩
end
section
variable {P : Program}
theorem dx {α β:Type} (s:Sem α) (f:α->Sem β):cS P (s >>= f)=(cS P s).bind fun a=>cS P (f a):=by
 show cS P (Sem.bind s f)=_
 induction s with
 |pure x=>rfl
 |program k ih=>simp only[Sem.bind,cS]; exact ih P
 |mark m k ih=>simp only[Sem.bind,cS]; exact ih
 |load|store|new|shape|freeze|frozen|getObj|setObj|choose|sys|halt=>simp[Sem.bind,cS]
theorem dv {α:Type} (a:α):cS P (pure a:Sem α)=some a:=rfl
theorem jz:cS P Go.program=some P:=rfl
theorem mM {t:TypeId} {d:TypeDesc} (h:P.underlying t=some d):cS P (underlying t)=some d:=by
 simp only[underlying,dx,jz,zA3,h,dv]
theorem AB {t:TypeId} {b:Bool} (h:eX P t=some b):cS P (isAgg t)=some b:=by
 unfold eX at h
 cases e:P.underlying t with
 |none=>rw[e]at h; cases h
 |some d =>
  rw[e]at h
  simp only[isAgg,dx,mM e,zA3]
  cases d<;>simp only[dv]<;>simpa using h
theorem EX {t:TypeId} {n:Nat} (h:bh P t=some n):cS P (sizeOf t)=some n:=by
 unfold bh at h
 cases e:P.info? t with
 |none=>rw[e]at h; cases h
 |some i =>
  rw[e]at h
  simp only[sizeOf,typeInfo,dx,jz,zA3,e,dv]
  simpa using h
def qI (P:Program) (t:TypeId) (v:Value):Bool :=
 match P.underlying t,v with
 |some .bool,.bool _=>true
 |some (.int k),.int k' _=>k == k'
 |some .string,.string _=>true
 |_,_=>false
def fits (P:Program):List TypeId->List Value->Bool
 |[],[]=>true
 |t::ts,v::vs=>qI P t v&&fits P ts vs
 |_,_=>false
def O5:Value->Value->Bool
 |.bool a,.bool b=>a == b
 |.int _ a,.int _ b=>a == b
 |.string a,.string b=>a == b
 |_,_=>false
def ES:List Value->List Value->Bool
 |[],[]=>true
 |x::xs,y::ys=>O5 x y&&ES xs ys
 |_,_=>false
def lN (P:Program) (fl:TypeId->Option (List TypeId)):List Field->Nat->Option (List TypeId)
 |[],_=>some []
 |f::fs,o =>
  if f.name ≠ "_" /\ f.offset=o then
   (match fl f.type with
   |some a=>if bh P f.type=some a.length then (match lN P fl fs (o+a.length) with
    |some b=>some (a++b)
    |none=>none) else none
   |none=>none)
  else none
def flat (P:Program):Nat->TypeId->Option (List TypeId)
 |0,_=>none
 |d+1,t =>
  match P.underlying t with
  |some .bool=>some [t]
  |some (.int _)=>some [t]
  |some .string=>some [t]
  |some (.struct fs)=>if P.stoodInHeld t then none else lN P (flat P d) fs.toList 0
  |_=>none
theorem JG {d:Nat} {t:TypeId} {x y:Value} (hx:qI P t x=true) (hy:qI P t y=true):cS P (Op.equalIn (d+1) t x y)=some (O5 x y):=by
 unfold qI at hx hy
 split at hx
 ·rename_i a e
  rw[e]at hy
  cases y<;>simp only[zC4]at hy
  simp only[Op.equalIn,dx,mM e,zA3,dv,O5]
 ·rename_i k k1 a e
  rw[e]at hy
  cases y<;>simp only[zC4]at hy
  simp only[Op.equalIn,dx,mM e,zA3,O5]
  rw[if_pos ((eq_of_beq hx).symm.trans (eq_of_beq hy))]
  rfl
 ·rename_i a e
  rw[e]at hy
  cases y<;>simp only[zC4]at hy
  simp only[Op.equalIn,dx,mM e,zA3,dv,O5]
 ·cases hx
theorem qV:∀ {ts us:List TypeId} {vs:List Value},fits P (ts++us) vs=true->fits P ts (vs.take ts.length)=true/\fits P us (vs.drop ts.length)=true/\ts.length<=vs.length
 |[],us,vs,h=>by simpa[fits]using h
 |t::ts,us,[],h=>by simp[fits]at h
 |t::ts,us,v::vs,h=>by
  simp only[zE7,fits,zA4]at h
  have:=qV h.2
  simp only[zB0,List.take_succ_cons,List.drop_succ_cons,fits,h.1,this.1,this.2.1,zE3,true_and]
  omega
theorem zu:∀ {n:Nat} {xs ys:List Value},n<=xs.length->n<=ys.length->ES xs ys=(ES (xs.take n) (ys.take n)&&ES (xs.drop n) (ys.drop n))
 |0,xs,ys,_,_=>by simp[ES]
 |n+1,[],_,h,_=>by simp at h
 |n+1,_::_,[],_,h=>by simp at h
 |n+1,x::xs,y::ys,h1,h2=>by
  simp only[zB0,Nat.add_le_add_iff_right]at h1 h2
  simp only[List.take_succ_cons,List.drop_succ_cons,ES,zu h1 h2,Bool.and_assoc]
theorem lP:∀ {ts:List TypeId} {vs:List Value},fits P ts vs=true->ts.length=vs.length
 |[],[],_=>rfl
 |[],_::_,h=>by simp[fits]at h
 |_::_,[],h=>by simp[fits]at h
 |t::ts,v::vs,h=>by
  simp only[fits,zA4]at h
  simp only[zB0,lP h.2]
theorem BI {d:Nat} {t:TypeId} {xs ys:Array Value} {fs:Array Field} (ht:P.underlying t=some (.struct fs)) (hp:P.stoodInHeld t=false) :
  cS P (Op.equalIn (d+1) t (.agg xs) (.agg ys))=cS P (Op.eqFields d xs ys fs.toList):=by
 simp only[Op.equalIn,dx,mM ht,zA3,jz,hp,zC4,if_false]
 rw[<-Array.forIn_toList]
 generalize fs.toList=l
 clear ht
 induction l with
 |nil=>simp[Op.eqFields,dv]
 |cons f fs ih =>
  simp only[List.forIn_cons,Op.eqFields,dx]
  split
  ·simp only[dx]
   cases cS P (part f.type xs f.offset) with
   |none=>rfl
   |some a =>
    simp only[zA3]
    cases cS P (part f.type ys f.offset) with
    |none=>rfl
    |some b =>
     simp only[zA3]
     cases cS P (Op.equalIn d f.type a b) with
     |none=>rfl
     |some r =>
      cases r
      ·simp[dv]
      ·simp only[zA3,zE0,zC4,if_false,dv]
       rw[<-ih]
  ·simp only[dv,zA3]
   rw[<-ih]
theorem yd {t:TypeId} {sz o:Nat} {b:Bool} {xs:List Value} (ha:eX P t=some b) (hs:bh P t=some sz) (h1:b=false->sz=1) (hle:o+sz<=xs.length) :
  cS P (part t ⟨xs⟩ o)=some (if b then .agg ⟨(xs.drop o).take sz⟩ else xs.getD o undef):=by
 cases b with
 |true => 
  simp only[part,dx,AB ha,zA3,if_true,EX hs,dv,Option.some.injEq,Value.agg.injEq]
  apply Array.ext'
  simp[List.extract_eq_take_drop]
 |false =>
  have:=h1 rfl
  have hlt:o<xs.length:=by omega
  simp only[part,dx,AB ha,zA3,zC4,if_false]
  simp[zB1 hlt,dv,zC8]
theorem uK {d:Nat} {t:TypeId} {ts:List TypeId} (h:flat P (d+1) t=some ts) (ha:eX P t=some false):ts=[t]:=by
 simp only[flat]at h
 unfold eX at ha
 cases e:P.underlying t with
 |none=>rw[e]at ha; cases ha
 |some td=>rw[e]at h ha; cases td<;>simp_all
theorem Mt {d:Nat} {t:TypeId} {ts:List TypeId} (h:flat P (d+1) t=some ts):∃ b,eX P t=some b:=by
 simp only[flat]at h
 unfold eX
 cases e:P.underlying t with
 |none=>rw[e]at h; cases h
 |some td=>rw[e]at h; cases td<;>simp_all
theorem sf {d:Nat} (ih:∀ t ts xs ys,flat P d t=some ts->eX P t=some true->fits P ts xs=true->fits P ts ys=true->cS P (Op.equalIn d t (.agg ⟨xs⟩) (.agg ⟨ys⟩))=some (ES xs ys)) :
  ∀ (fs:List Field) (o:Nat) (ts:List TypeId) (xs ys:List Value),lN P (flat P d) fs o=some ts->o<=xs.length->o<=ys.length->fits P ts (xs.drop o)=true->fits P ts (ys.drop o)=true->cS P (Op.eqFields d ⟨xs⟩ ⟨ys⟩ fs)=some (ES (xs.drop o) (ys.drop o))
 |[],o,ts,xs,ys,h,_,_,hx,hy=>by
  simp only[lN,Option.some.injEq]at h
  subst h
  have h1:=lP hx
  have h2:=lP hy
  rw[zE9 h1.symm,zE9 h2.symm]
  rfl
 |f::fs,o,ts,xs,ys,h,hox,hoy,hx,hy=>by
  simp only[lN]at h
  split at h
  ·rename_i hf
   obtain⟨hn,ho⟩:=hf
   cases e1:flat P d f.type with
   |none=>rw[e1]at h; cases h
   |some a =>
    rw[e1]at h
    simp only at h
    split at h
    ·rename_i hsz
     cases e2:lN P (flat P d) fs (o+a.length) with
     |none=>rw[e2]at h; cases h
     |some b =>
      rw[e2]at h
      simp only[Option.some.injEq]at h
      subst h
      obtain⟨hx1,hx2,hxl⟩:=qV hx
      obtain⟨hy1,hy2,hyl⟩:=qV hy
      have hsp:=zu hxl hyl
      rw[zG3]at hx2 hy2
      rw[zG3,zG3]at hsp
      rw[zD8]at hxl hyl
      have key:=sf ih fs (o+a.length) b xs ys e2 (by omega) (by omega) hx2 hy2
      cases d with
      |zero=>simp[flat]at e1
      |succ d =>
       obtain⟨bb,hag⟩:=Mt e1
       have h1:bb=false->a.length=1:=fun hb=>by subst hb; rw[uK e1 hag]; rfl
       simp only[Op.eqFields,hn,ne_eq,not_false_eq_true,if_true,dx,ho]
       rw[yd hag hsz h1 (by omega),yd hag hsz h1 (by omega)]
       simp only[zA3]
       have hr:cS P (Op.equalIn (d+1) f.type (if bb then .agg ⟨(xs.drop o).take a.length⟩ else xs.getD o undef) (if bb then .agg ⟨(ys.drop o).take a.length⟩ else ys.getD o undef))=some (ES ((xs.drop o).take a.length) ((ys.drop o).take a.length)):=by
        cases bb with
        |true=>simp only[if_true]; exact ih f.type a _ _ e1 hag hx1 hy1
        |false =>
         have ha:=uK e1 hag
         have hl:=h1 rfl
         subst ha
         have hlx:o<xs.length:=by omega
         have hly:o<ys.length:=by omega
         have gx:(xs.drop o).take 1=[xs.getD o undef]:=by rw[List.take_one,List.head?_drop,zB1 hlx,zC8,zB1 hlx]; rfl
         have gy:(ys.drop o).take 1=[ys.getD o undef]:=by rw[List.take_one,List.head?_drop,zB1 hly,zC8,zB1 hly]; rfl
         simp only[List.length_singleton,gx,gy,fits,Bool.and_true]at hx1 hy1 ⊢
         simp only[zC4,if_false,JG hx1 hy1,ES,Bool.and_true]
       rw[hr,zA3,hsp]
       cases ES ((xs.drop o).take a.length) ((ys.drop o).take a.length) with
       |true=>simp only[zE0,zC4,if_false,Bool.true_and]; exact key
       |false=>simp only[zG2,if_true,dv,Bool.false_and]
    ·cases h
  ·cases h
theorem zO:∀ (d:Nat) (t:TypeId) (ts:List TypeId) (xs ys:List Value),flat P d t=some ts->eX P t=some true->fits P ts xs=true->fits P ts ys=true->cS P (Op.equalIn d t (.agg ⟨xs⟩) (.agg ⟨ys⟩))=some (ES xs ys)
 |0,t,ts,xs,ys,h,_,_,_=>by simp[flat]at h
 |d+1,t,ts,xs,ys,h,ha,hx,hy=>by
  simp only[flat]at h
  unfold eX at ha
  cases e:P.underlying t with
  |none=>rw[e]at ha; cases ha
  |some td =>
   rw[e]at h ha
   cases td<;>simp only[reduceCtorEq,Option.some.injEq,zC4]at ha h
   rename_i fs
   split at h
   ·cases h
   ·rename_i hp
    rw[BI e (by simpa using hp)]
    exact sf (zO d) fs.toList 0 ts xs ys h (zB7 _) (zB7 _) hx hy
theorem JP {op:BinOp} {t:TypeId} {ts:List TypeId} {xs ys:List Value} {x y:Operand} {r:Bool} (h:flat P 10000 t=some ts) (ha:eX P t=some true) (hg:P.eqGuardType P.depth t=false) (hx:fits P ts xs=true) (hy:fits P ts ys=true) (hop:wv op (ES xs ys)=some (.bool r)) :
  jX P (do eqGuard op t x y (.agg ⟨xs⟩) (.agg ⟨ys⟩); binOp op t (.agg ⟨xs⟩) (.agg ⟨ys⟩))=some (.value (.bool r)):=by
 have key:=zO 10000 t ts xs ys h ha hx hy
 cases op<;>simp only[wv,Option.some.injEq,Value.bool.injEq,reduceCtorEq]at hop
 all_goals
  subst hop
  simp only[jX,dx,eqGuard,jz,dv,zA3,hg,zG2,zE0,if_true,zC4,if_false,binOp,Op.equal,Op.maxDepth,key,af]
theorem MU {H:aa} {op:BinOp} {t:TypeId} {xs:Array Value} {y:Value}:fu P H op t (.agg xs) y=none:=by
 cases y<;>rfl
theorem BN:∀ {ts:List TypeId} {vs:List Value},fits P ts vs=true->Cg vs=true
 |[],[],_=>rfl
 |[],_::_,h=>by simp[fits]at h
 |_::_,[],h=>by simp[fits]at h
 |t::ts,v::vs,h=>by
  simp only[fits,zA4]at h
  have h1:=h.1
  unfold qI at h1
  have:af v=true:=by split at h1<;>first|rfl|cases h1
  simp only[Cg,this,BN h.2,zE3]
variable {ro : Option Nat} {H : aa} {N : Nat} {E : Env} {ds : List Deferred}
theorem Ox {op:Op} {ops:Array Oper} {anc:List Nat} {d:Nat} {ty:TypeId} {pos:String} {after:Array Edge} {rest:List Oper} {i:Nat} {fps:List Fp} {Q:ag->aa->Prop} {v:Value}
  (hn:ja P ⟨some d,op,ty,pos,after,none⟩ (bA N E ds) H (anc.getD i 0) i fps=BA P ⟨some d,op,ty,pos,after,none⟩ (bA N E ds) H (anc.getD i 0) i fps) (hx:∀ G,ck op P (bA N E ds) G=some (.value v,G)) (hv:ae v=[]) (hd:d<N)
  (h:fH P ops anc rest (i+1) (⟨i,[],[],H.next,H.next⟩::fps) (bA N (cE E d v) ds) H Q):fH P ops anc (⟨some d,op,ty,pos,after,none⟩::rest) i fps (bA N E ds) H Q:=by
 have hr:=aL H []
 simp only[fH,cw]
 rw[hn]
 refine⟨[],v,H.restrict [],fP (hx _) ⟨rfl,rfl⟩,by simp,(by rw[hr.2.2]; simp),fun r _=>iS ?_,?_⟩
 ·simp only[fZ,hr.2.2,hr.1,zG5,da,zD0,List.flatMap_nil,hv]
  exact .inr ⟨by simp,by simp,fun _=>⟨by simp,by simp⟩⟩
 ·rw[nv,hr.2.2,hr.1]
  simp only[dG N E ds d _ hd]
  exact h
theorem Nc {op:BinOp} {t u:TypeId} {x y:Operand} {ts:List TypeId} {xs ys:List Value} {r:Bool} {ops:Array Oper} {anc:List Nat} {d:Nat} {ty:TypeId} {pos:String} {after:Array Edge} {rest:List Oper} {i:Nat} {fps:List Fp} {Q:ag->aa->Prop}
  (h:flat P 10000 t=some ts) (ha:eX P t=some true) (hg:P.eqGuardType P.depth t=false) (hop:wv op (ES xs ys)=some (.bool r)) (hx:bj P N x=true) (hy:bj P N y=true) (hd:d<N) (hvx:cm E x=.agg ⟨xs⟩) (hvy:cm E y=.agg ⟨ys⟩) (fx:fits P ts xs=true) (fy:fits P ts ys=true)
  (hk:fH P ops anc rest (i+1) (⟨i,[],[],H.next,H.next⟩::fps) (bA N (cE E d (.bool r)) ds) H Q):fH P ops anc (⟨some d,.binOp op t x y u,ty,pos,after,none⟩::rest) i fps (bA N E ds) H Q:=by
 refine Ox ?_ (fun G=>?_) rfl hd hk
 ·funext K
  simp only[ja,ib,Oq,aE hx,aE hy,hvx,hvy,ee]
 ·simp only[ck,Gt,aE hx,aE hy,hvx,hvy,zA1,zA3,Ec,MU,af,MO,BN fx,BN fy,zE3,if_true,JP h ha hg fx fy hop,zA9]
end
section
variable {P : Program} {ro : Option Nat} {H : aa}
variable {N : Nat} {E : Env} {ds : List Deferred} {ops : Array Oper} {anc : List Nat} {ty : TypeId} {pos : String} {after : Array Edge} {rest : List Oper} {i : Nat} {fps : List Fp}
end
section
variable {P : Program} {H : aa}
theorem LU {st xt e:TypeId} {sz by1 m off k cap n:Nat} {sp:Option Nat} {z x:Value} {new:List Value} (hu:P.underlying st=some (.slice e)) (hsz:bh P e=some sz) (hby:bytesOf P e=some by1) (hz:zeroOf P e=some z) (hzl:z.cells.toList.length=sz) (hi:fj P xt=some false)
  (hx:iY x=some n) (hf:cO H sz n x=some new) (hl:new.length=n*sz) (hc:k+n<=cap) (hsm:small (k+n) by1=true) :
  aD P H .append ⟨[st,xt]⟩ [.slice (some ⟨m,off,sp⟩) k cap,x]=(dV H m (off+k*sz) new).map fun g=>(.slice (some ⟨m,off,sp⟩) (k+n) cap,g):=by
 simp only[aD,eP,hu,hsz,hby,hz,hi,zA1,zA3,hx,hf,hl,hzl,hsm,and_self,if_true,cW,hc]
 cases dV H m (off+k*sz) new<;>rfl
theorem Qa {st xt e:TypeId} {sz by1:Nat} {z x:Value} (hu:P.underlying st=some (.slice e)) (hsz:bh P e=some sz) (hby:bytesOf P e=some by1) (hz:zeroOf P e=some z) (hzl:z.cells.toList.length=sz) (hi:fj P xt=some false)
  (hx:iY x=some 0) (hf:cO H sz 0 x=some []) :
  aD P H .append ⟨[st,xt]⟩ [.slice none 0 0,x]=some (.slice none 0 0,H):=by
 have hsm:small (0+0) by1=true:=by simp[small]
 simp only[aD,eP,hu,hsz,hby,hz,hi,zA1,zA3,hx,hf,zB6,zF7,hzl,hsm,and_self,if_true,cW,zA8,zB8]
theorem KH {st xt e:TypeId} {sz by1 n:Nat} {z:Value} (hu:P.underlying st=some (.slice e)) (hsz:bh P e=some sz) (hby:bytesOf P e=some by1) (hz:zeroOf P e=some z) (hzl:z.cells.toList.length=sz) (hi:fj P xt=some true)
  (hn:0<n) (ho:(aV z.cells.toList n).all one=true) (hsm:small n by1=true) :
  aD P H .append ⟨[st,xt]⟩ [.slice none 0 0,.int .i64 (n:Int)]=(cF H e (aV z.cells.toList n) true).map fun g=>(.slice (some ⟨H.next,0,none⟩) n n,g):=by
 have h0:(0:Int)<=(n:Int):=by omega
 simp only[aD,eP,hu,hsz,hby,hz,hi,zA1,zA3,hzl,zG6,zB8,hsm,h0,and_self,if_true,cW]
 rw[if_neg (by omega)]
 simp only[cO,zA3,zB6,zF7,List.all_nil,ho,decide_true,zE3,if_true,zC1]
 cases cF H e (aV z.cells.toList n) true<;>rfl
theorem Ou {t e:TypeId} {l c:Nat} (h:P.underlying t=some (.slice e)):aD P H .cap ⟨[t]⟩ [.slice none l c]=some (goInt c,H):=by
 simp only[aD,La,h,zA9]
theorem Qc {t e:TypeId} {sz l c:Nat} (h:P.underlying t=some (.slice e)) (hs:bh P e=some sz):cg P H t (.slice none l c) none (some (.int .i64 0)) none=some (.slice none 0 c,H):=by
 simp only[cg,h,hs,zA1,zA3,fm,bound,Int.le_refl,if_true,Int.toNat_zero,zB7,and_self,Nat.sub_zero]
theorem O0 {t e:TypeId} {sz n off l c:Nat} {b:Bl} (h:P.underlying t=some (.slice e)) (hs:bh P e=some sz) (hb:bk H n=some b) (ho:b.o=true):cg P H t (.slice (some ⟨n,off,none⟩) l c) none (some (.int .i64 0)) none=some (.slice (some ⟨n,off,none⟩) 0 c,H):=by
 simp only[cg,h,hs,zA1,zA3,fm,bound,Int.le_refl,if_true,Int.toNat_zero,zB7,and_self,cY,jt hb,ho,zA9,zE0]
theorem qz {z:List Value}:∀ n,(aV z n).length=n*z.length
 |0=>by simp[aV]
 |n+1=>by simp only[aV,zB4,qz n,Nat.succ_mul]; omega
theorem wC {z:List Value} (h:z.all one=true):∀ n,(aV z n).all one=true
 |0=>rfl
 |n+1=>by simp only[aV,List.all_append,h,wC h n,zE3]
theorem zx {z:List Value} {N:Nat} (h:aO N z=true):∀ n,aO N (aV z n)=true
 |0=>rfl
 |n+1=>cB h (zx h n)
theorem uM {z:List Value}:∀ n k,(aV z n).drop (k*z.length)=aV z (n-k)
 |n,0=>by simp
 |0,k+1=>by simp[aV]
 |n+1,k+1=>by
  rw[show (k+1)*z.length=z.length+k*z.length by rw[Nat.succ_mul]; omega,<-zG3]
  simp only[aV,List.drop_left,Nat.reduceSubDiff]
  exact uM n k
theorem mQ {N:Nat} {E:Env} {ds:List Deferred} {ops:Array Oper} {anc:List Nat} {o:Oper} {W:List Nat} {rest:List Oper} {i:Nat} {fps:List Fp} {Q:ag->aa->Prop} {v:Value} {g:aa}
  (F:List Nat) (hok:H.base<=H.next) (hF:∀ n∈F,H.get n≠none) (hlt:∀ n∈F,n<H.next) (hW:∀ n∈W,n∈F)
  (hc:ET P (bA N E ds) (H.restrict F) o (.ok v) g) (hmod:Mod W (H.restrict F) g)
  (hm:∀ r∈fps,(anc.getD i 0).testBit r.i=true\/(r.hi<=r.lo/\(∀ n∈r.W,n∉F)/\(∀ n∈r.F,n∉W)))
  (h:∀ H' D,Mod W H H'->(∀ n∈F,H'.get n=g.get n)->(∀ n,H.next<=n->n<g.next->H'.get n=g.get n)->H'.next=g.next->(∀ n∈D,n∈W)->fH P ops anc rest (i+1) (⟨i,F,D,H.next,g.next⟩::fps) ((bA N E ds).put o.dst v) H' Q) :
  nA P ops anc o rest i fps (bA N E ds) H Q:=by
 have hn:=aL H F
 have hd:∀ n∈g.dirty,n∈W:=by
  intro n hg
  rcases hmod.dirty n hg with h|h
  ·rw[hn.2.2]at h; cases h
  ·exact h.1
 have hle:H.next<=g.next:=by have:=hmod.next; rw[hn.1]at this; exact this
 have hgF:∀ n∈F,(H.merge g).get n=g.get n:=by
  intro n hnF
  by_cases hgd:n∈g.dirty
  ·exact ky H g hle (.inl hgd)
  ·rw[fM H g hle]
   ·rw[hmod.keep n (by rw[hn.2.1]; exact hlt n hnF) hgd,aU,if_pos hnF]
   ·rintro (h'|h')
    ·exact hgd h'
    ·have:=hlt n hnF; omega
 have hmf:=jT H g
 refine⟨F,v,g,?_,hF,fun n h'=>hW n (hd n h'),fun r hr=>iS ?_,?_⟩
 ·exact hc
 ·rcases hm r hr with h'|⟨h1,h2,h3⟩
  ·exact .inl h'
  ·exact .inr ⟨h2,fun n hnr hng=>h3 n hnr (hd n hng),fun hlt'=>absurd hlt' (by omega)⟩
 ·refine h (H.merge g) g.dirty ⟨by rw[hmf.1]; exact hle,hmf.2.1,fun n hnl hnW=>?_,hmf.2.2.1,fun n hnd=>?_,fun n hnb hnd=>?_⟩ hgF (fun n h1 h2=>ky H g hle (.inr ⟨h1,h2⟩)) hmf.1 hd
  ·rw[fM H g hle]
   rintro (h'|h')
   ·exact hnW (hd n h')
   ·omega
  ·rcases uJ H g n hnd with h'|h'
   ·exact .inl h'
   ·exact .inr ⟨hd n h'.1,h'.2⟩
  ·by_cases hgd:n∈g.dirty
   ·exact absurd (hmf.2.2.2 n hgd hnb) hnd
   ·rw[fM H g hle]
    rintro (h'|h')
    ·exact hgd h'
    ·omega
theorem Ls {N:Nat} {E:Env} {ds:List Deferred} {ops:Array Oper} {anc:List Nat} {ty:TypeId} {pos:String} {after:Array Edge} {rest:List Oper} {i:Nat} {fps:List Fp} {Q:ag->aa->Prop} {args:List Operand} {ts:Array TypeId} {dst:Option Nat} (ha:args.all (bj P N)=true):fH P ops anc (⟨dst,.call ⟨.builtin .append,⟨args⟩,ts⟩,ty,pos,after,none⟩::rest) i fps (bA N E ds) H Q=nA P ops anc ⟨dst,.call ⟨.builtin .append,⟨args⟩,ts⟩,ty,pos,after,none⟩ rest i fps (bA N E ds) H Q:=by
 simp only[fH,cw,ja,ib,pj,p9,nA,cp ha,QJ,kU]
theorem M5 {N:Nat} {E:Env} {ds:List Deferred} {ty:TypeId} {pos:String} {after:Array Edge} {args:List Operand} {ts:Array TypeId} {dst:Option Nat} {v:Value} {G:aa} (ha:args.all (bj P N)=true) (h:aD P H .append ts (args.map (cm E))=some (v,G)):ET P (bA N E ds) H ⟨dst,.call ⟨.builtin .append,⟨args⟩,ts⟩,ty,pos,after,none⟩ (.ok v) G :=
 fP (x:=.value v) (g:=G) (by simp only[ck,kc,cp ha,zA1,zA3,h,sI,zA9]) ⟨rfl,rfl⟩
theorem tz {N:Nat} {E:Env} {ds:List Deferred} {ops:Array Oper} {anc:List Nat} {o:Oper} {d:Nat} {rest:List Oper} {i:Nat} {fps:List Fp} {Q:ag->aa->Prop} {v:Value} {M:List Bl} (F:List Nat) (hdst:o.dst=some d) (hd:d<N) (hF:∀ n∈F,H.get n≠none)
  (hc:∀ G:aa,G.next=H.next->(∀ n∈F,G.get n=H.get n)->ET P (bA N E ds) G o (.ok v) (ext G M)) (hm:∀ r∈fps,cQ (anc.getD i 0) F [] (ae v++M.flatMap fun x=>gk x.l) r)
  (h:fH P ops anc rest (i+1) (⟨i,F,[],H.next,H.next+M.length⟩::fps) (bA N (cE E d v) ds) (ext H M) Q):nA P ops anc o rest i fps (bA N E ds) H Q:=by
 have hn:=aL H F
 have hd':(ext (H.restrict F) M).dirty=[]:=by rw[gv,hn.2.2]
 have hnx:(ext (H.restrict F) M).next=H.next+M.length:=by rw[ai,hn.1]
 have hget:∀ j,j<M.length->(ext (H.restrict F) M).get (H.next+j)=M[j]?.map Bl.obj:=by
  intro j hj
  rw[<-hn.1]
  exact fh hj
 have hmn:∀ (M:List Bl) (K g:aa) (m:Nat),K.next=m->(∀ j,j<M.length->g.get (m+j)=M[j]?.map Bl.obj)->∀ h',h'=aa.cJ K g m M.length->(⟨h'.root,m+M.length,h'.base,h'.dirty⟩:aa)=ext K M:=by
  intro M
  induction M with
  |nil=>intro K g m hK _ h' hh; subst hK; subst hh; rfl
  |cons x M ih =>
   intro K g m hK hg h' hh
   have h0:=hg 0 (by simp)
   simp only[zE1,zF5,zA9]at h0
   rw[zB0]at hh
   simp only[aa.cJ,h0]at hh
   have:=ih (nw K x.e x.l x.o) g (m+1) (by rw[iW,hK]) (fun j hj=>by
    have:=hg (j+1) (by simpa using hj)
    simp only[zG4]at this
    rw[show m+1+j=m+(j+1) by omega]
    exact this) (aa.cJ (nw K x.e x.l x.o) g (m+1) M.length) rfl
   have key:∀ (A B:aa) (n k:Nat),A.root=B.root->A.base=B.base->A.dirty=B.dirty->(aa.cJ A g n k).root=(aa.cJ B g n k).root/\(aa.cJ A g n k).base=(aa.cJ B g n k).base/\(aa.cJ A g n k).dirty=(aa.cJ B g n k).dirty:=by
    intro A B n k
    induction k generalizing A B n with
    |zero=>exact fun h1 h2 h3=>⟨h1,h2,h3⟩
    |succ k ihk =>
     intro h1 h2 h3
     simp only[aa.cJ]
     exact ihk _ _ _ (by simp only[aa.put_eq,h1]) h2 h3
   have k2:=key (nw K x.e x.l x.o) (K.put m (some x.obj)) (m+1) M.length (by simp only[nw,aa.oK,aa.put_eq,hK,Bl.obj]) rfl rfl
   rw[ext,<-this,hh,k2.1,k2.2.1,k2.2.2,zB0,show m+(M.length+1)=m+1+M.length by omega]
 have hmg:H.merge (ext (H.restrict F) M)=ext H M:=by
  unfold aa.merge
  rw[hd',hnx,zF8]
  simp only[aa.ey]
  exact hmn M H _ H.next rfl hget _ rfl
 refine⟨F,v,ext (H.restrict F) M,?_,hF,(by rw[hd']; simp),fun r hr=>iS ?_,?_⟩
 ·exact hc _ hn.1 (fun n hn'=>by rw[aU,if_pos hn'])
 ·have hids:∀ (k s:Nat),s+k=M.length->(da (H.next+s) k).flatMap (fk (ext (H.restrict F) M))=(M.drop s).flatMap fun x=>gk x.l:=by
   intro k
   induction k with
   |zero=>intro s hs; rw[da,zF1 (by omega)]; rfl
   |succ k ih =>
    intro s hs
    have hlt:s<M.length:=by omega
    rw[da,List.flatMap_cons,List.drop_eq_getElem_cons hlt,List.flatMap_cons]
    have:=ih (s+1) (by omega)
    rw[show H.next+(s+1)=H.next+s+1 by omega]at this
    rw[this]
    congr 1
    simp only[fk,hget s hlt,zB1 hlt,zA9,Bl.obj,pZ,RV.n_ofList,RV.jA]
  have:=hids M.length 0 (by omega)
  simp only[zE1,zD1]at this
  rw[hd']
  simp only[fZ,hd',hnx,zF8,zC1,this]
  exact hm r hr
 ·rw[hmg,hd',hnx]
  simp only[hdst,dG N E ds d v hd]
  exact h
theorem nH:∀ (pre fX new:List Value),new.length<=fX.length->cL (pre++fX) pre.length new=pre++(new++fX.drop new.length)
 |[],fX,new,h=>by
  simp only[zC1,zB6]
  induction new generalizing fX with
  |nil=>cases fX<;>rfl
  |cons y ys ih =>
   cases fX with
   |nil=>simp at h
   |cons x xs =>
    simp only[zB0,Nat.add_le_add_iff_right]at h
    simp only[cL,ih xs h,zB0,List.drop_succ_cons,zE7]
 |p::pre,fX,new,h=>by
  simp only[zE7,zB0,cL,nH pre fX new h]
end
section
variable {P : Program} {ro : Option Nat} {H : aa} {N : Nat} {E : Env} {ds : List Deferred}
variable {ops : Array Oper} {anc : List Nat} {d : Nat} {ty : TypeId} {pos : String} {after : Array Edge} {rest : List Oper} {i : Nat} {fps : List Fp} {Q : ag -> aa -> Prop}
theorem Aq {N:Nat} {E:Env} {ds:List Deferred} {ro:Option Nat} {ops:Array Oper} {o:Oper} {rest:List Oper} {Q:Exit->ag->aa->Prop} {want:Bool}:jo P ro ops o rest N E ds H Q want undef=wpOps P ro ops rest ((bA N E ds).put o.dst undef) H Q:=by simp only[jo,undef]
theorem z7 {N:Nat} {E:Env} {ds:List Deferred} {ops:Array Oper} {anc:List Nat} {o:Oper} {rest:List Oper} {i:Nat} {fps:List Fp} {Q:ag->aa->Prop} {want:Bool}:je P ops anc o rest i fps N E ds H Q want undef=fH P ops anc rest (i+1) fps ((bA N E ds).put o.dst undef) H Q:=by simp only[je,undef]
end
theorem uj {α β:Type} (a:α) (f:α->Option β):(some a).bind f=f a:=rfl
theorem yf {α β:Type} (a:α) (f:α->β):(some a).map f=some (f a):=rfl
theorem xo {α β:Type} (f:α->β) (a:α) (l:List α):(a::l).map f=f a::l.map f:=rfl
theorem AL {α β:Type} (f:α->β):([]:List α).map f=[]:=rfl
theorem j9 {α:Type} (a:α) (l:List α):(a::l)[0]?=some a:=rfl
theorem ke {α:Type} (a:α) (l:List α) (i:Nat):(a::l)[i+1]?=l[i]?:=zG4
theorem Ho {α:Type} (a b:α):(a≠b)=¬a=b:=rfl
theorem kf:(¬False)=True:=not_false_eq_true
theorem ur:(!false)=true:=rfl
theorem wo:(!true)=false:=rfl
theorem qt {α:Type} (a:α) (l:List α):(a::l).length=l.length+1:=rfl
theorem sk {α:Type}:([]:List α).length=0:=rfl
theorem n6 {α:Type} (a b:α) (l:List α):(a::l).set 0 b=b::l:=rfl
theorem n9 {α:Type} (a b:α) (l:List α) (i:Nat):(a::l).set (i+1) b=a::l.set i b:=rfl
theorem sE {α:Type} (l:List α):[]++l=l:=rfl
theorem qu {α:Type} (a:α) (l m:List α):(a::l)++m=a::(l++m):=rfl
theorem mf {α:Type} (a:α) (l:List α) (i:Nat):(a::l).drop (i+1)=l.drop i:=rfl
theorem uu {α:Type} (l:List α):l.drop 0=l:=rfl
theorem mm {α:Type} (a:α) (l:List α) (i:Nat):(a::l).take (i+1)=a::l.take i:=rfl
theorem ue {α:Type} (l:List α):l.take 0=[]:=List.take_zero
theorem z6 {α:Type} (a b:α):(if True then a else b)=a:=if_true a b
theorem yR (p:Prop):(True/\p)=p:=true_and p
theorem yK (p:Prop):(p/\True)=p:=and_true p
theorem AV (p:Prop):(p\/True)=True:=or_true p
theorem zV (p:Prop):(True\/p)=True:=true_or p
theorem xg (p:Prop):(p/\p)=p:=and_self p
theorem pg (p:Prop):(p->True)=True:=eq_true fun _=>trivial
theorem oO (p:Prop):(True->p)=p:=propext ⟨fun h=>h trivial,fun h _=>h⟩
theorem w7 {α:Type}:(α->True)=True:=eq_true fun _=>trivial
theorem aW:type_of% (zA0 (zA0 (zA0 (zA0 (zA0 (@yB) (@wh)) (zA0 (@LN) (@ok_int))) (zA0 (zA0 (@Hn) (@AA)) (zA0 (@AX) (@uP)))) (zA0 (zA0 (zA0 (@zB) (@yI)) (zA0 (@II) (@zZ))) (zA0 (zA0 (@HR) (@Ek)) (zA0 (@wY) (@all_nil))))) (zA0 (zA0 (zA0 (zA0 (@all_cons) (@Kv)) (zA0 (@HA) (@EC))) (zA0 (zA0 (@pmap_nil) (@pmap_cons)) (zA0 (@wB) (@isSome_some)))) (zA0 (zA0 (zA0 (@uj) (@xo)) (zA0 (@AL) (@j9))) (zA0 (zA0 (@ke) (@Ho)) (zA0 (@kf) (zA0 (@ur) (@wo))))))) :=
 zA0 (zA0 (zA0 (zA0 (zA0 (@yB) (@wh)) (zA0 (@LN) (@ok_int))) (zA0 (zA0 (@Hn) (@AA)) (zA0 (@AX) (@uP)))) (zA0 (zA0 (zA0 (@zB) (@yI)) (zA0 (@II) (@zZ))) (zA0 (zA0 (@HR) (@Ek)) (zA0 (@wY) (@all_nil))))) (zA0 (zA0 (zA0 (zA0 (@all_cons) (@Kv)) (zA0 (@HA) (@EC))) (zA0 (zA0 (@pmap_nil) (@pmap_cons)) (zA0 (@wB) (@isSome_some)))) (zA0 (zA0 (zA0 (@uj) (@xo)) (zA0 (@AL) (@j9))) (zA0 (zA0 (@ke) (@Ho)) (zA0 (@kf) (zA0 (@ur) (@wo))))))
theorem lh:type_of% (zA0 (zA0 (zA0 (zA0 (zA0 (zA0 (zA0 (@Q7) (@Eo)) (zA0 (@uE) (@zM))) (zA0 (zA0 (@zR) (@Aq)) (zA0 (@K4) (@Dr)))) (zA0 (zA0 (zA0 (@L6) (@D4)) (zA0 (@KT) (@El))) (zA0 (zA0 (@Pm) (@Kr)) (zA0 (@Ph) (zA0 (@MX) (@Ni)))))) (zA0 (zA0 (zA0 (zA0 (@Cu) (@zU)) (zA0 (@O3) (@Hu))) (zA0 (zA0 (@ME) (@Ab)) (zA0 (@O4) (zA0 (@xz) (@vp))))) (zA0 (zA0 (zA0 (@uU) (@MM)) (zA0 (@Ha) (@O7))) (zA0 (zA0 (@He) (@rp)) (zA0 (@vq) (zA0 (@GP) (@jj))))))) (zA0 (zA0 (zA0 (zA0 (zA0 (@jk) (@uS)) (zA0 (@lM) (@Ng))) (zA0 (zA0 (@GZ) (@M8)) (zA0 (@kx) (zA0 (@wM) (@ve))))) (zA0 (zA0 (zA0 (@uc) (@Ey)) (zA0 (@tI) (@qc))) (zA0 (zA0 (@xd) (@oX)) (zA0 (@qS) (zA0 (@Ae) (@qG)))))) (zA0 (zA0 (zA0 (zA0 (@o8) (@CD)) (zA0 (@uQ) (@Ks))) (zA0 (zA0 (@zy) (@zG)) (zA0 (@CA) (zA0 (@x9) (@uY))))) (zA0 (zA0 (zA0 (@HC) (@GD)) (zA0 (@Hw) (@H8))) (zA0 (zA0 (@Ib) (@G5)) (zA0 (@GI) (zA0 (@H5) (@Io)))))))) (zA0 (zA0 (zA0 (zA0 (zA0 (zA0 (@Nh) (@LW)) (zA0 (@HI) (@yA))) (zA0 (zA0 (@yJ) (@KF)) (zA0 (@Mm) (@jr)))) (zA0 (zA0 (zA0 (@ai) (@Hi)) (zA0 (@iM) (@bu))) (zA0 (zA0 (@iN) (@kF)) (zA0 (@sJ) (zA0 (@tp) (@AH)))))) (zA0 (zA0 (zA0 (zA0 (@l5) (@b6)) (zA0 (@oC) (@bR))) (zA0 (zA0 (@vJ) (@uR)) (zA0 (@eN) (zA0 (@yf) (@zY))))) (zA0 (zA0 (zA0 (@xX) (@vl)) (zA0 (@ko) (@wE))) (zA0 (zA0 (@vo) (@HW)) (zA0 (@DN) (zA0 (@Av) (@yN))))))) (zA0 (zA0 (zA0 (zA0 (zA0 (@Db) (@Kx)) (zA0 (@HM) (@M7))) (zA0 (zA0 (@HN) (@zI)) (zA0 (@uV) (zA0 (@yi) (@Ir))))) (zA0 (zA0 (zA0 (@Mk) (@DZ)) (zA0 (@LI) (@Ml))) (zA0 (zA0 (@LG) (@Mu)) (zA0 (@HX) (zA0 (@add_add) (@qt)))))) (zA0 (zA0 (zA0 (zA0 (@sk) (@n6)) (zA0 (@n9) (@sE))) (zA0 (zA0 (@qu) (@mf)) (zA0 (@uu) (zA0 (@mm) (@ue))))) (zA0 (zA0 (zA0 (@z6) (@K0)) (zA0 (@ud) (@A5))) (zA0 (zA0 (@B1) (@Iu)) (zA0 (@Iv) (zA0 (@vF) (@HD))))))))) :=
 zA0 (zA0 (zA0 (zA0 (zA0 (zA0 (zA0 (@Q7) (@Eo)) (zA0 (@uE) (@zM))) (zA0 (zA0 (@zR) (@Aq)) (zA0 (@K4) (@Dr)))) (zA0 (zA0 (zA0 (@L6) (@D4)) (zA0 (@KT) (@El))) (zA0 (zA0 (@Pm) (@Kr)) (zA0 (@Ph) (zA0 (@MX) (@Ni)))))) (zA0 (zA0 (zA0 (zA0 (@Cu) (@zU)) (zA0 (@O3) (@Hu))) (zA0 (zA0 (@ME) (@Ab)) (zA0 (@O4) (zA0 (@xz) (@vp))))) (zA0 (zA0 (zA0 (@uU) (@MM)) (zA0 (@Ha) (@O7))) (zA0 (zA0 (@He) (@rp)) (zA0 (@vq) (zA0 (@GP) (@jj))))))) (zA0 (zA0 (zA0 (zA0 (zA0 (@jk) (@uS)) (zA0 (@lM) (@Ng))) (zA0 (zA0 (@GZ) (@M8)) (zA0 (@kx) (zA0 (@wM) (@ve))))) (zA0 (zA0 (zA0 (@uc) (@Ey)) (zA0 (@tI) (@qc))) (zA0 (zA0 (@xd) (@oX)) (zA0 (@qS) (zA0 (@Ae) (@qG)))))) (zA0 (zA0 (zA0 (zA0 (@o8) (@CD)) (zA0 (@uQ) (@Ks))) (zA0 (zA0 (@zy) (@zG)) (zA0 (@CA) (zA0 (@x9) (@uY))))) (zA0 (zA0 (zA0 (@HC) (@GD)) (zA0 (@Hw) (@H8))) (zA0 (zA0 (@Ib) (@G5)) (zA0 (@GI) (zA0 (@H5) (@Io)))))))) (zA0 (zA0 (zA0 (zA0 (zA0 (zA0 (@Nh) (@LW)) (zA0 (@HI) (@yA))) (zA0 (zA0 (@yJ) (@KF)) (zA0 (@Mm) (@jr)))) (zA0 (zA0 (zA0 (@ai) (@Hi)) (zA0 (@iM) (@bu))) (zA0 (zA0 (@iN) (@kF)) (zA0 (@sJ) (zA0 (@tp) (@AH)))))) (zA0 (zA0 (zA0 (zA0 (@l5) (@b6)) (zA0 (@oC) (@bR))) (zA0 (zA0 (@vJ) (@uR)) (zA0 (@eN) (zA0 (@yf) (@zY))))) (zA0 (zA0 (zA0 (@xX) (@vl)) (zA0 (@ko) (@wE))) (zA0 (zA0 (@vo) (@HW)) (zA0 (@DN) (zA0 (@Av) (@yN))))))) (zA0 (zA0 (zA0 (zA0 (zA0 (@Db) (@Kx)) (zA0 (@HM) (@M7))) (zA0 (zA0 (@HN) (@zI)) (zA0 (@uV) (zA0 (@yi) (@Ir))))) (zA0 (zA0 (zA0 (@Mk) (@DZ)) (zA0 (@LI) (@Ml))) (zA0 (zA0 (@LG) (@Mu)) (zA0 (@HX) (zA0 (@add_add) (@qt)))))) (zA0 (zA0 (zA0 (zA0 (@sk) (@n6)) (zA0 (@n9) (@sE))) (zA0 (zA0 (@qu) (@mf)) (zA0 (@uu) (zA0 (@mm) (@ue))))) (zA0 (zA0 (zA0 (@z6) (@K0)) (zA0 (@ud) (@A5))) (zA0 (zA0 (@B1) (@Iu)) (zA0 (@Iv) (zA0 (@vF) (@HD))))))))
theorem b9:type_of% (zA0 (zA0 (zA0 (zA0 (zA0 (zA0 (@CW) (@uk)) (zA0 (@MD) (@qq))) (zA0 (zA0 (@AE) (@xN)) (zA0 (@MG) (@M1)))) (zA0 (zA0 (zA0 (@GL) (@Pd)) (zA0 (@DW) (@uf))) (zA0 (zA0 (@zE) (@Am)) (zA0 (@z7) (zA0 (@GY) (@Aw)))))) (zA0 (zA0 (zA0 (zA0 (@Gj) (@ug)) (zA0 (@sj) (@r4))) (zA0 (zA0 (@Hv) (@Ie)) (zA0 (@xW) (@EI)))) (zA0 (zA0 (zA0 (@HB) (@MA)) (zA0 (@HG) (@GH))) (zA0 (zA0 (@H9) (@HE)) (zA0 (@GQ) (zA0 (@Hs) (@GC))))))) (zA0 (zA0 (zA0 (zA0 (zA0 (@Hq) (@Az)) (zA0 (@wS) (@ux))) (zA0 (zA0 (@HS) (@Al)) (zA0 (@uq) (@uT)))) (zA0 (zA0 (zA0 (@HO) (@Er)) (zA0 (@Dm) (@HQ))) (zA0 (zA0 (@yR) (@Ar)) (zA0 (@Ao) (zA0 (@oO) (@zT)))))) (zA0 (zA0 (zA0 (zA0 (@re) (@lB)) (zA0 (@K7) (@Hh))) (zA0 (zA0 (@Hf) (@Dv)) (zA0 (@AO) (@cx)))) (zA0 (zA0 (zA0 (@aw) (@Ef)) (zA0 (@xv) (@pg))) (zA0 (zA0 (@yK) (@AV)) (zA0 (@zV) (zA0 (@xg) (@w7)))))))) :=
 zA0 (zA0 (zA0 (zA0 (zA0 (zA0 (@CW) (@uk)) (zA0 (@MD) (@qq))) (zA0 (zA0 (@AE) (@xN)) (zA0 (@MG) (@M1)))) (zA0 (zA0 (zA0 (@GL) (@Pd)) (zA0 (@DW) (@uf))) (zA0 (zA0 (@zE) (@Am)) (zA0 (@z7) (zA0 (@GY) (@Aw)))))) (zA0 (zA0 (zA0 (zA0 (@Gj) (@ug)) (zA0 (@sj) (@r4))) (zA0 (zA0 (@Hv) (@Ie)) (zA0 (@xW) (@EI)))) (zA0 (zA0 (zA0 (@HB) (@MA)) (zA0 (@HG) (@GH))) (zA0 (zA0 (@H9) (@HE)) (zA0 (@GQ) (zA0 (@Hs) (@GC))))))) (zA0 (zA0 (zA0 (zA0 (zA0 (@Hq) (@Az)) (zA0 (@wS) (@ux))) (zA0 (zA0 (@HS) (@Al)) (zA0 (@uq) (@uT)))) (zA0 (zA0 (zA0 (@HO) (@Er)) (zA0 (@Dm) (@HQ))) (zA0 (zA0 (@yR) (@Ar)) (zA0 (@Ao) (zA0 (@oO) (@zT)))))) (zA0 (zA0 (zA0 (zA0 (@re) (@lB)) (zA0 (@K7) (@Hh))) (zA0 (zA0 (@Hf) (@Dv)) (zA0 (@AO) (@cx)))) (zA0 (zA0 (zA0 (@aw) (@Ef)) (zA0 (@xv) (@pg))) (zA0 (zA0 (@yK) (@AV)) (zA0 (@zV) (zA0 (@xg) (@w7)))))))
end Go.Ax
namespace Go.Proofs.YtpohjcacnkhnkaaGreatDoor
open Go.Ax
set_option maxRecDepth 100000
theorem Sn:Tryz.prog.underlying 4=some .bool:=by kernel_rfl
theorem mixed:Tryz.prog.follows .mixedOrders=true:=by kernel_rfl
theorem Se :
  (∀ n off:Nat,aH Tryz.prog 41 (.pointer (some ⟨n,off,none⟩)) 0=some (.pointer (some ⟨n,off,none⟩))) /\
  (∀ n off:Nat,aH Tryz.prog 41 (.pointer (some ⟨n,off,none⟩)) 1=some (.pointer (some ⟨n,off+1,none⟩))) /\
  (∀ n off:Nat,aH Tryz.prog 41 (.pointer (some ⟨n,off,none⟩)) 2=some (.pointer (some ⟨n,off+2,none⟩))) /\
  (∀ n off:Nat,aH Tryz.prog 44 (.pointer (some ⟨n,off,none⟩)) 0=some (.pointer (some ⟨n,off,none⟩))) /\
  (∀ n off:Nat,aH Tryz.prog 44 (.pointer (some ⟨n,off,none⟩)) 1=some (.pointer (some ⟨n,off+1,none⟩))) /\
  (∀ n off:Nat,aH Tryz.prog 44 (.pointer (some ⟨n,off,none⟩)) 2=some (.pointer (some ⟨n,off+2,none⟩))) /\
  (∀ n off:Nat,aH Tryz.prog 44 (.pointer (some ⟨n,off,none⟩)) 3=some (.pointer (some ⟨n,off+3,none⟩))) /\
  (∀ n off:Nat,aH Tryz.prog 44 (.pointer (some ⟨n,off,none⟩)) 4=some (.pointer (some ⟨n,off+4,none⟩))) /\
  (∀ n off:Nat,aH Tryz.prog 58 (.pointer (some ⟨n,off,none⟩)) 0=some (.pointer (some ⟨n,off,none⟩))) /\
  (∀ n off:Nat,aH Tryz.prog 58 (.pointer (some ⟨n,off,none⟩)) 1=some (.pointer (some ⟨n,off+1,none⟩))) /\
  (∀ n off:Nat,aH Tryz.prog 58 (.pointer (some ⟨n,off,none⟩)) 2=some (.pointer (some ⟨n,off+2,none⟩))) /\
  (∀ n off:Nat,aH Tryz.prog 58 (.pointer (some ⟨n,off,none⟩)) 3=some (.pointer (some ⟨n,off+3,none⟩))) /\
  (∀ n off:Nat,aH Tryz.prog 58 (.pointer (some ⟨n,off,none⟩)) 4=some (.pointer (some ⟨n,off+4,none⟩))) /\
  (∀ n off:Nat,aH Tryz.prog 58 (.pointer (some ⟨n,off,none⟩)) 5=some (.pointer (some ⟨n,off+9,none⟩))) /\
  (∀ n off:Nat,aH Tryz.prog 64 (.pointer (some ⟨n,off,none⟩)) 0=some (.pointer (some ⟨n,off,none⟩))) /\
  (∀ n off:Nat,aH Tryz.prog 64 (.pointer (some ⟨n,off,none⟩)) 1=some (.pointer (some ⟨n,off+1,none⟩))) /\
  (∀ n off:Nat,aH Tryz.prog 64 (.pointer (some ⟨n,off,none⟩)) 2=some (.pointer (some ⟨n,off+2,none⟩))) /\
  (∀ n off:Nat,aH Tryz.prog 66 (.pointer (some ⟨n,off,none⟩)) 0=some (.pointer (some ⟨n,off,none⟩))) /\
  (∀ n off:Nat,aH Tryz.prog 66 (.pointer (some ⟨n,off,none⟩)) 1=some (.pointer (some ⟨n,off+7,none⟩))) /\
  (∀ n off:Nat,aH Tryz.prog 66 (.pointer (some ⟨n,off,none⟩)) 2=some (.pointer (some ⟨n,off+14,none⟩))) /\
  (∀ n off:Nat,aH Tryz.prog 66 (.pointer (some ⟨n,off,none⟩)) 3=some (.pointer (some ⟨n,off+15,none⟩))) /\
  (∀ n off:Nat,aH Tryz.prog 66 (.pointer (some ⟨n,off,none⟩)) 4=some (.pointer (some ⟨n,off+16,none⟩))) /\
  (∀ n off:Nat,aH Tryz.prog 66 (.pointer (some ⟨n,off,none⟩)) 5=some (.pointer (some ⟨n,off+17,none⟩))) /\
  (∀ n off:Nat,aH Tryz.prog 66 (.pointer (some ⟨n,off,none⟩)) 6=some (.pointer (some ⟨n,off+18,none⟩))) /\
  (∀ n off:Nat,aH Tryz.prog 66 (.pointer (some ⟨n,off,none⟩)) 7=some (.pointer (some ⟨n,off+19,none⟩))) /\
  (∀ n off:Nat,aH Tryz.prog 66 (.pointer (some ⟨n,off,none⟩)) 8=some (.pointer (some ⟨n,off+20,none⟩))) /\
  (∀ n off:Nat,aH Tryz.prog 66 (.pointer (some ⟨n,off,none⟩)) 9=some (.pointer (some ⟨n,off+21,none⟩))) /\
  (∀ n off:Nat,aH Tryz.prog 66 (.pointer (some ⟨n,off,none⟩)) 10=some (.pointer (some ⟨n,off+22,none⟩))) /\
  (∀ n off:Nat,aH Tryz.prog 77 (.pointer (some ⟨n,off,none⟩)) 0=some (.pointer (some ⟨n,off,none⟩))) /\
  (∀ n off:Nat,aH Tryz.prog 77 (.pointer (some ⟨n,off,none⟩)) 1=some (.pointer (some ⟨n,off+1,none⟩))) /\
  (∀ n off:Nat,aH Tryz.prog 83 (.pointer (some ⟨n,off,none⟩)) 0=some (.pointer (some ⟨n,off,none⟩))) /\
  (∀ n off:Nat,aH Tryz.prog 83 (.pointer (some ⟨n,off,none⟩)) 1=some (.pointer (some ⟨n,off+3,none⟩))) /\
  (∀ n off:Nat,aH Tryz.prog 83 (.pointer (some ⟨n,off,none⟩)) 2=some (.pointer (some ⟨n,off+8,none⟩))) /\
  (∀ n off:Nat,aH Tryz.prog 83 (.pointer (some ⟨n,off,none⟩)) 3=some (.pointer (some ⟨n,off+9,none⟩))) /\
  (∀ n off:Nat,aH Tryz.prog 83 (.pointer (some ⟨n,off,none⟩)) 4=some (.pointer (some ⟨n,off+10,none⟩))) /\
  (∀ n off:Nat,aH Tryz.prog 150 (.pointer (some ⟨n,off,none⟩)) 0=some (.pointer (some ⟨n,off,none⟩))) /\
  (∀ n off:Nat,aH Tryz.prog 150 (.pointer (some ⟨n,off,none⟩)) 1=some (.pointer (some ⟨n,off+1,none⟩))) /\
  (∀ n off:Nat,aH Tryz.prog 163 (.pointer (some ⟨n,off,none⟩)) 0=some (.pointer (some ⟨n,off,none⟩))) /\
  (∀ n off:Nat,aH Tryz.prog 163 (.pointer (some ⟨n,off,none⟩)) 1=some (.pointer (some ⟨n,off+1,none⟩))):=by
 refine⟨?_,?_,?_,?_,?_,?_,?_,?_,?_,?_,?_,?_,?_,?_,?_,?_,?_,?_,?_,?_,?_,?_,?_,?_,?_,?_,?_,?_,?_,?_,?_,?_,?_,?_,?_,?_,?_,?_,?_⟩
 all_goals first|trivial|(intros; kernel_rfl)
theorem R9 :
  (True):=by
 refine ?_
 all_goals first|trivial|(intros; kernel_rfl)
theorem Su :
  (True):=by
 refine ?_
 all_goals first|trivial|(intros; kernel_rfl)
theorem Sr :
  (bh Tryz.prog 3=some 1) /\
  (eX Tryz.prog 3=some false) /\
  (bh Tryz.prog 4=some 1) /\
  (eX Tryz.prog 4=some false) /\
  (bh Tryz.prog 5=some 1) /\
  (eX Tryz.prog 5=some false) /\
  (eX Tryz.prog 9=some false) /\
  (bh Tryz.prog 25=some 1) /\
  (eX Tryz.prog 25=some false) /\
  (bh Tryz.prog 39=some 1) /\
  (eX Tryz.prog 39=some false) /\
  (bh Tryz.prog 41=some 3) /\
  (eX Tryz.prog 41=some true) /\
  (bh Tryz.prog 44=some 5) /\
  (eX Tryz.prog 44=some true) /\
  (eX Tryz.prog 56=some false) /\
  (bh Tryz.prog 58=some 10) /\
  (eX Tryz.prog 58=some true) /\
  (bh Tryz.prog 64=some 7) /\
  (eX Tryz.prog 64=some true) /\
  (bh Tryz.prog 77=some 6) /\
  (eX Tryz.prog 77=some true) /\
  (bh Tryz.prog 86=some 5) /\
  (bh Tryz.prog 150=some 2) /\
  (bh Tryz.prog 164=some 14) /\
  (bh Tryz.prog 165=some 28) /\
  (eX Tryz.prog 167=some false):=by
 refine⟨?_,?_,?_,?_,?_,?_,?_,?_,?_,?_,?_,?_,?_,?_,?_,?_,?_,?_,?_,?_,?_,?_,?_,?_,?_,?_,?_⟩
 all_goals first|trivial|(intros; kernel_rfl)
theorem xZ :
  (zeroOf Tryz.prog 3=some (.int .i64 0)) /\
  (zeroOf Tryz.prog 41=some (.agg #[.slice none 0 0,.int .i64 0,.int .i64 0])) /\
  (zeroOf Tryz.prog 58=some (.agg #[.int .i64 0,.int .i64 0,.int .i64 0,.int .i64 0,.int .i64 0,.int .i64 0,.bool false,.bool false,.bool false,.string .empty])) /\
  (zeroOf Tryz.prog 86=some (.agg #[.nilFunc,.nilFunc,.nilFunc,.nilFunc,.nilFunc])) /\
  (zeroOf Tryz.prog 121=some (.agg #[.nilFunc,.nilFunc,.nilFunc,.nilFunc,.nilFunc,.nilFunc,.nilFunc,.nilFunc,.nilFunc])) /\
  (zeroOf Tryz.prog 150=some (.agg #[.int .u8 0,.int .u8 0])) /\
  (zeroOf Tryz.prog 164=some (.agg #[.int .i64 0,.int .i64 0,.int .i64 0,.int .i64 0,.int .i64 0,.int .i64 0,.int .i64 0,.int .i64 0,.int .i64 0,.int .i64 0,.int .i64 0,.int .i64 0,.int .i64 0,.int .i64 0])) /\
  (zeroOf Tryz.prog 165=some (.agg #[.int .i64 0,.int .i64 0,.int .i64 0,.int .i64 0,.int .i64 0,.int .i64 0,.int .i64 0,.int .i64 0,.int .i64 0,.int .i64 0,.int .i64 0,.int .i64 0,.int .i64 0,.int .i64 0,.int .i64 0,.int .i64 0,.int .i64 0,.int .i64 0,.int .i64 0,.int .i64 0,.int .i64 0,.int .i64 0,.int .i64 0,.int .i64 0,.int .i64 0,.int .i64 0,.int .i64 0,.int .i64 0])) /\
  (zeroOf Tryz.prog 189=some (.agg #[.int .u8 0,.int .u8 0,.int .u8 0,.int .u8 0,.int .u8 0,.int .u8 0,.int .u8 0,.int .u8 0,.int .u8 0,.int .u8 0,.int .u8 0,.int .u8 0,.int .u8 0,.int .u8 0,.int .u8 0,.int .u8 0,.int .u8 0,.int .u8 0,.int .u8 0,.int .u8 0,.int .u8 0,.int .u8 0,.int .u8 0,.int .u8 0])):=by
 refine⟨?_,?_,?_,?_,?_,?_,?_,?_,?_⟩
 all_goals first|trivial|(intros; kernel_rfl)
theorem Sg :
  (Tryz.prog.underlying 22=some (.slice 3)) /\
  (Tryz.prog.underlying 23=some (.slice 58)) /\
  (Tryz.prog.underlying 25=some (.slice 5)) /\
  (Tryz.prog.underlying 39=some (.slice 56)) /\
  (Tryz.prog.underlying 56=some (.slice 77)) /\
  (Tryz.prog.underlying 167=some (.slice 163)) /\
  (Tryz.prog.underlying 186=some (.slice 39)):=by
 refine⟨?_,?_,?_,?_,?_,?_,?_⟩
 all_goals first|trivial|(intros; kernel_rfl)
theorem Sb :
  (er Tryz.prog 41 []=some (.agg #[.slice none 0 0,.int .i64 0,.int .i64 0])) /\
  (∀ (x1:Int),er Tryz.prog 41 [(1,.int .i64 x1)]=some (.agg #[.slice none 0 0,.int .i64 x1,.int .i64 0])) /\
  (er Tryz.prog 44 []=some (.agg #[.int .i64 0,.int .i64 0,.bool false,.bool false,.bool false])) /\
  (∀ (x14:Int),er Tryz.prog 66 [(5,.int .i64 x14)]=some (.agg #[.int .i64 0,.int .i64 0,.int .i64 0,.int .i64 0,.bool false,.bool false,.bool false,.int .i64 0,.int .i64 0,.int .i64 0,.int .i64 0,.bool false,.bool false,.bool false,.slice none 0 0,.bool false,.int .i64 0,.int .i64 x14,.int .i64 0,.slice none 0 0,.slice none 0 0,.bool false,.int .u8 0])) /\
  (∀ (x16:Int),er Tryz.prog 77 [(0,.int .i64 x16)]=some (.agg #[.int .i64 x16,.int .i64 0,.int .i64 0,.bool false,.bool false,.bool false])) /\
  (∀ (x17:Int) (c18_0 c18_1 c18_2 c18_3 c18_4:Value),er Tryz.prog 77 [(0,.int .i64 x17),(1,.agg #[c18_0,c18_1,c18_2,c18_3,c18_4])]=some (.agg #[.int .i64 x17,c18_0,c18_1,c18_2,c18_3,c18_4])) /\
  (∀ (c19_0 c19_1 c19_2:Value) (x20:Int) (x21:Int) (x22:Bool),er Tryz.prog 83 [(0,.agg #[c19_0,c19_1,c19_2]),(2,.int .i64 x20),(3,.int .i64 x21),(4,.bool x22)]=some (.agg #[c19_0,c19_1,c19_2,.int .i64 0,.int .i64 0,.bool false,.bool false,.bool false,.int .i64 x20,.int .i64 x21,.bool x22])) /\
  (∀ (x23:Fn) (y23 z23:Array Value) (x24:Fn) (y24 z24:Array Value) (x25:Fn) (y25 z25:Array Value) (x26:Fn) (y26 z26:Array Value) (x27:Fn) (y27 z27:Array Value),er Tryz.prog 86 [(0,.func x23 y23 z23),(1,.func x24 y24 z24),(2,.func x25 y25 z25),(3,.func x26 y26 z26),(4,.func x27 y27 z27)]=some (.agg #[.func x23 y23 z23,.func x24 y24 z24,.func x25 y25 z25,.func x26 y26 z26,.func x27 y27 z27])) /\
  (er Tryz.prog 118 []=some (.agg #[])) /\
  (∀ (x28:Int) (x29:Int),er Tryz.prog 163 [(0,.int .i64 x28),(1,.int .i64 x29)]=some (.agg #[.int .i64 x28,.int .i64 x29])) /\
  (∀ (c30_0 c30_1:Value) (c31_0 c31_1:Value) (c32_0 c32_1:Value) (c33_0 c33_1:Value) (c34_0 c34_1:Value) (c35_0 c35_1:Value) (c36_0 c36_1:Value),er Tryz.prog 164 [(0,.agg #[c30_0,c30_1]),(1,.agg #[c31_0,c31_1]),(2,.agg #[c32_0,c32_1]),(3,.agg #[c33_0,c33_1]),(4,.agg #[c34_0,c34_1]),(5,.agg #[c35_0,c35_1]),(6,.agg #[c36_0,c36_1])]=some (.agg #[c30_0,c30_1,c31_0,c31_1,c32_0,c32_1,c33_0,c33_1,c34_0,c34_1,c35_0,c35_1,c36_0,c36_1])) /\
  (∀ (c37_0 c37_1:Value) (c38_0 c38_1:Value) (c39_0 c39_1:Value) (c40_0 c40_1:Value) (c41_0 c41_1:Value) (c42_0 c42_1:Value) (c43_0 c43_1:Value) (c44_0 c44_1:Value) (c45_0 c45_1:Value) (c46_0 c46_1:Value) (c47_0 c47_1:Value) (c48_0 c48_1:Value) (c49_0 c49_1:Value) (c50_0 c50_1:Value),er Tryz.prog 165 [(0,.agg #[c37_0,c37_1]),(1,.agg #[c38_0,c38_1]),(2,.agg #[c39_0,c39_1]),(3,.agg #[c40_0,c40_1]),(4,.agg #[c41_0,c41_1]),(5,.agg #[c42_0,c42_1]),(6,.agg #[c43_0,c43_1]),(7,.agg #[c44_0,c44_1]),(8,.agg #[c45_0,c45_1]),(9,.agg #[c46_0,c46_1]),(10,.agg #[c47_0,c47_1]),(11,.agg #[c48_0,c48_1]),(12,.agg #[c49_0,c49_1]),(13,.agg #[c50_0,c50_1])]=some (.agg #[c37_0,c37_1,c38_0,c38_1,c39_0,c39_1,c40_0,c40_1,c41_0,c41_1,c42_0,c42_1,c43_0,c43_1,c44_0,c44_1,c45_0,c45_1,c46_0,c46_1,c47_0,c47_1,c48_0,c48_1,c49_0,c49_1,c50_0,c50_1])):=by
 refine⟨?_,?_,?_,?_,?_,?_,?_,?_,?_,?_,?_,?_⟩
 all_goals first|trivial|(intros; kernel_rfl)
theorem R8 :
  (∀ H:aa,∀ (x51:Int),b7 Tryz.prog H 22 1 [(0,.int .i64 x51)]=(cF H 3 [.int .i64 x51] false).map fun g=>(.slice (some ⟨H.next,0,some 0⟩) 1 1,g)) /\
  (∀ H:aa,∀ (x52:Int) (x53:Int),b7 Tryz.prog H 22 2 [(0,.int .i64 x52),(1,.int .i64 x53)]=(cF H 3 [.int .i64 x52,.int .i64 x53] false).map fun g=>(.slice (some ⟨H.next,0,some 0⟩) 2 2,g)) /\
  (∀ H:aa,∀ (x54:Int) (x55:Int) (x56:Int),b7 Tryz.prog H 22 3 [(0,.int .i64 x54),(1,.int .i64 x55),(2,.int .i64 x56)]=(cF H 3 [.int .i64 x54,.int .i64 x55,.int .i64 x56] false).map fun g=>(.slice (some ⟨H.next,0,some 0⟩) 3 3,g)) /\
  (∀ H:aa,∀ (x100:Int),b7 Tryz.prog H 25 1 [(0,.int .u8 x100)]=(cF H 5 [.int .u8 x100] false).map fun g=>(.slice (some ⟨H.next,0,some 0⟩) 1 1,g)) /\
  (∀ H:aa,∀ (x101:Int) (x102:Int),b7 Tryz.prog H 25 2 [(0,.int .u8 x101),(1,.int .u8 x102)]=(cF H 5 [.int .u8 x101,.int .u8 x102] false).map fun g=>(.slice (some ⟨H.next,0,some 0⟩) 2 2,g)) /\
  (∀ H:aa,∀ (x124:Option Addr) (y124 z124:Nat),b7 Tryz.prog H 39 1 [(0,.slice x124 y124 z124)]=(cF H 56 [.slice x124 y124 z124] false).map fun g=>(.slice (some ⟨H.next,0,some 0⟩) 1 1,g)) /\
  (∀ H:aa,b7 Tryz.prog H 56 0 []=(cF H 77 [] false).map fun g=>(.slice (some ⟨H.next,0,some 0⟩) 0 0,g)) /\
  (∀ H:aa,∀ (c125_0 c125_1 c125_2 c125_3 c125_4 c125_5:Value),b7 Tryz.prog H 56 1 [(0,.agg #[c125_0,c125_1,c125_2,c125_3,c125_4,c125_5])]=(cF H 77 [c125_0,c125_1,c125_2,c125_3,c125_4,c125_5] false).map fun g=>(.slice (some ⟨H.next,0,some 0⟩) 1 1,g)) /\
  (∀ H:aa,∀ (x129:Option Addr) (y129 z129:Nat) (x130:Option Addr) (y130 z130:Nat),b7 Tryz.prog H 186 2 [(0,.slice x129 y129 z129),(1,.slice x130 y130 z130)]=(cF H 39 [.slice x129 y129 z129,.slice x130 y130 z130] false).map fun g=>(.slice (some ⟨H.next,0,some 0⟩) 2 2,g)) /\
  (∀ H:aa,∀ (x131:Option Addr) (y131 z131:Nat) (x132:Option Addr) (y132 z132:Nat) (x133:Option Addr) (y133 z133:Nat),b7 Tryz.prog H 186 3 [(0,.slice x131 y131 z131),(1,.slice x132 y132 z132),(2,.slice x133 y133 z133)]=(cF H 39 [.slice x131 y131 z131,.slice x132 y132 z132,.slice x133 y133 z133] false).map fun g=>(.slice (some ⟨H.next,0,some 0⟩) 3 3,g)):=by
 refine⟨?_,?_,?_,?_,?_,?_,?_,?_,?_,?_⟩
 all_goals first|trivial|(intros; kernel_rfl)
theorem Ss :
  (True):=by
 refine ?_
 all_goals first|trivial|(intros; kernel_rfl)
theorem Sc :
  (∀ v:Value,Fk Tryz.prog 118 v=some (.iface 118 v)):=by
 refine ?_
 all_goals first|trivial|(intros; kernel_rfl)
theorem R7 :
  (∀ (H:aa) (a:Addr),fu Tryz.prog H .neq 30 (.pointer (some a)) (.pointer none)=some (.bool true)) /\
  (∀ (H:aa) (a:Addr) (n c:Nat),fu Tryz.prog H .eql 56 (.slice (some a) n c) (.slice none 0 0)=some (.bool false)) /\
  (∀ (H:aa) (f:Fn) (a b:Array Value),fu Tryz.prog H .neq 153 (.func f a b) (.nilFunc)=some (.bool true)):=by
 refine⟨?_,?_,?_⟩
 all_goals first|trivial|(intros; kernel_rfl)
theorem So :
  (aF Tryz.prog 6=true) /\
  (aF Tryz.prog 7=true) /\
  (aF Tryz.prog 10=true) /\
  (aF Tryz.prog 19=true) /\
  (aF Tryz.prog 20=true) /\
  (aF Tryz.prog 21=true) /\
  (aF Tryz.prog 24=true) /\
  (aF Tryz.prog 26=true) /\
  (aF Tryz.prog 32=true) /\
  (aF Tryz.prog 34=true) /\
  (aF Tryz.prog 36=true) /\
  (aF Tryz.prog 37=true) /\
  (aF Tryz.prog 39=true) /\
  (aF Tryz.prog 40=true) /\
  (aF Tryz.prog 50=true) /\
  (aF Tryz.prog 51=true) /\
  (aF Tryz.prog 52=true) /\
  (aF Tryz.prog 53=true) /\
  (aF Tryz.prog 61=true) /\
  (aF Tryz.prog 71=true) /\
  (aF Tryz.prog 73=true) /\
  (aF Tryz.prog 75=true) /\
  (aF Tryz.prog 77=true) /\
  (aF Tryz.prog 78=true) /\
  (aF Tryz.prog 79=true) /\
  (aF Tryz.prog 80=true) /\
  (aF Tryz.prog 81=true) /\
  (aF Tryz.prog 83=true) /\
  (aF Tryz.prog 87=true) /\
  (aF Tryz.prog 88=true) /\
  (aF Tryz.prog 89=true) /\
  (aF Tryz.prog 92=true) /\
  (aF Tryz.prog 100=true) /\
  (aF Tryz.prog 101=true) /\
  (aF Tryz.prog 102=true) /\
  (aF Tryz.prog 112=true) /\
  (aF Tryz.prog 113=true) /\
  (aF Tryz.prog 114=true) /\
  (aF Tryz.prog 115=true) /\
  (aF Tryz.prog 121=true) /\
  (aF Tryz.prog 122=true) /\
  (aF Tryz.prog 123=true) /\
  (aF Tryz.prog 124=true) /\
  (aF Tryz.prog 129=true) /\
  (aF Tryz.prog 131=true) /\
  (aF Tryz.prog 132=true) /\
  (aF Tryz.prog 133=true) /\
  (aF Tryz.prog 135=true) /\
  (aF Tryz.prog 137=true) /\
  (aF Tryz.prog 146=true) /\
  (aF Tryz.prog 152=true) /\
  (aF Tryz.prog 153=true) /\
  (aF Tryz.prog 156=true) /\
  (aF Tryz.prog 157=true) /\
  (aF Tryz.prog 158=true) /\
  (aF Tryz.prog 159=true) /\
  (aF Tryz.prog 160=true) /\
  (aF Tryz.prog 161=true) /\
  (aF Tryz.prog 163=true) /\
  (aF Tryz.prog 164=true) /\
  (aF Tryz.prog 165=true):=by
 refine⟨?_,?_,?_,?_,?_,?_,?_,?_,?_,?_,?_,?_,?_,?_,?_,?_,?_,?_,?_,?_,?_,?_,?_,?_,?_,?_,?_,?_,?_,?_,?_,?_,?_,?_,?_,?_,?_,?_,?_,?_,?_,?_,?_,?_,?_,?_,?_,?_,?_,?_,?_,?_,?_,?_,?_,?_,?_,?_,?_,?_,?_⟩
 all_goals first|trivial|(intros; kernel_rfl)
theorem Sk :
  (∀ N:Nat,bj Tryz.prog N (.global 0)=true) /\
  (∀ N:Nat,bj Tryz.prog N (.global 1)=true):=by
 refine⟨?_,?_⟩
 all_goals first|trivial|(intros; kernel_rfl)
theorem xF:type_of% (zA0 @Se ( zA0 @R9 ( zA0 @Su ( zA0 @Sr ( zA0 @xZ ( zA0 @Sg ( zA0 @Sb ( zA0 @R8 ( zA0 @Ss ( zA0 @Sc ( zA0 @R7 ( zA0 @So ( zA0 @Sk (@Sn)))))))))))))) :=
 zA0 @Se ( zA0 @R9 ( zA0 @Su ( zA0 @Sr ( zA0 @xZ ( zA0 @Sg ( zA0 @Sb ( zA0 @R8 ( zA0 @Ss ( zA0 @Sc ( zA0 @R7 ( zA0 @So ( zA0 @Sk (@Sn)))))))))))))
end Go.Proofs.YtpohjcacnkhnkaaGreatDoor
theorem Go.Ax.Sv (a:Nat) (b:List Go.Value):Go.Ax.cL [] a b=[]:=rfl
theorem Go.Ax.Si (x:Go.Value) (r:List Go.Value):Go.Ax.cL (x::r) 0 []=x::r:=rfl
theorem Go.Ax.Sf (x y:Go.Value) (r s:List Go.Value):Go.Ax.cL (x::r) 0 (y::s)=y::Go.Ax.cL r 0 s:=rfl
theorem Go.Ax.Sd (x:Go.Value) (r s:List Go.Value) (k:Nat):Go.Ax.cL (x::r) (k+1) s=x::Go.Ax.cL r k s:=rfl
theorem Go.Ax.Sp (E:Go.Ax.Env) (k:Nat):Go.Ax.fO E k []=E:=rfl
theorem Go.Ax.Sj (E:Go.Ax.Env) (k:Nat) (v:Go.Value) (r:List Go.Value):Go.Ax.fO E k (v::r)=Go.Ax.fO (Go.Ax.cE E k v) (k+1) r:=rfl
theorem Go.Ax.zW:type_of% (zA0 @Go.Ax.aW (zA0 @Go.Ax.lh (zA0 @Go.Proofs.YtpohjcacnkhnkaaGreatDoor.xF (zA0 @Go.Ax.Sp (zA0 @Go.Ax.Sj (zA0 @Go.Ax.Sv (zA0 @Go.Ax.Si (zA0 @Go.Ax.Sf @Go.Ax.Sd)))))))) :=
 zA0 @Go.Ax.aW (zA0 @Go.Ax.lh (zA0 @Go.Proofs.YtpohjcacnkhnkaaGreatDoor.xF (zA0 @Go.Ax.Sp (zA0 @Go.Ax.Sj (zA0 @Go.Ax.Sv (zA0 @Go.Ax.Si (zA0 @Go.Ax.Sf @Go.Ax.Sd)))))))
namespace Go.Proofs.YtpohjcacnkhnkaaGreatDoor.Tq
structure Lk where
 fore:Int
 back:Int
 bold:Bool
 under:Bool
 inv:Bool
deriving DecidableEq
def Lk.no:Lk:=⟨0,0,false,false,false⟩
structure Ce where
 rune:Int
 look:Lk
deriving DecidableEq
def sp:Ce:=⟨32,Lk.no⟩
structure yY where
 wd:Int->Nat
 full:List UInt8->Bool
 dec:List UInt8->Int × Nat
structure Tm where
 row:Int
 col:Int
 pen:Lk
 srow:Int
 scol:Int
 spen:Lk
 ah:List (List Ce)
 shown:Bool
 top:Int
 bottom:Int
 mode:Nat
 rest:List UInt8
 params:List UInt8
 middle:Bool
 last:UInt8
deriving DecidableEq
def Tm.new (h w:Nat):Tm:=⟨0,0,.no,0,0,.no,List.replicate h (List.replicate w sp),false,0,h-1,0,[],[],false,0⟩
def Tm.bS (t:Tm):Int:=t.ah.length
def Tm.width (t:Tm):Int:=(t.ah.headD []).length
def Tm.inside (t:Tm):Int:=min t.col (t.width-1)
def iR (l:List Ce) (a b:Nat):List Ce :=
 let l:=if a<b/\(l.getD a sp).rune=-1 then l.set (a-1) sp else l
 let l:=if a<b/\b<l.length/\(l.getD b sp).rune=-1 then l.set b sp else l
 l.take a++List.replicate (b-a) sp++l.drop (max a b)
def Tm.Ev (t:Tm) (k:Nat) (f:List Ce->List Ce):Tm:={t with ah:=t.ah.set k (f (t.ah.getD k []))}
def Tm.blank (t:Tm) (k a b:Int):Tm:=t.Ev k.toNat fun l=>iR l a.toNat b.toNat
def Tm.write (u:yY) (t:Tm) (c:Int):Tm :=
 let n:=u.wd c
 if n=0\/t.col+n>t.width then t else
 let t:=t.blank t.row t.col (t.col+n)
 let t:=t.Ev t.row.toNat fun l=>l.set t.col.toNat ⟨c,t.pen⟩
 let t:=if n=2 then t.Ev t.row.toNat fun l=>l.set (t.col.toNat+1) ⟨-1,t.pen⟩ else t
 {t with col:=t.col+n}
def iZ (w:Nat) (g:List (List Ce)) (top bottom n:Nat) (up:Bool):List (List Ce) :=
 let len:=bottom+1-top
 let n:=min n len
 let seg:=(g.drop top).take len
 let new:=List.replicate n (List.replicate w sp)
 g.take top++(if up then seg.drop n++new else new++seg.take (len-n))++g.drop (top+len)
def Tm.fN (t:Tm) (top bottom n:Int) (up:Bool):Tm:={t with ah:=iZ t.width.toNat t.ah top.toNat bottom.toNat n.toNat up}
def Tm.control (t:Tm) (c:Int):Tm :=
 if c=8 then {t with col:=max 0 (t.inside-1)}
 else if c=9 then {t with col:=min (t.width-1) (t.col-t.col % 8+8)}
 else if c=10 then (if t.row=t.bottom then t.fN t.top t.bottom 1 true else {t with row:=min (t.row+1) (t.bS-1)})
 else if c=13 then {t with col:=0}
 else t
def Tm.character (u:yY) (t:Tm) (c:Int):Tm:=if c<32\/c=127 then t.control c else t.write u c
def Tm.drain (u:yY):Nat->Tm->Tm × Nat
 |0,t=>(t,0)
 |k+1,t =>
  if t.rest≠[]/\u.full t.rest=true then
   if t.rest.headD 0=27 then ({t with rest:=[]},1)
   else
    let (r,n):=u.dec t.rest
    let t:=if r≠65533\/n>1 then t.character u r else t
    Tm.drain u k {t with rest:=t.rest.drop n}
  else (t,0)
def Tm.plain (u:yY) (t:Tm) (c:UInt8):Tm × Nat:=Tm.drain u (t.rest.length+2) {t with rest:=t.rest++[c]}
def Tm.second (t:Tm) (c:UInt8):Tm × Nat :=
 if c=91 then ({t with params:=[],middle:=false},3)
 else if c=93 then ({t with last:=0},4)
 else if c=27 then (t,1)
 else if 32<=c/\c<48 then (t,2)
 else if c=55 then ({t with srow:=t.row,scol:=t.col,spen:=t.pen},0)
 else if c=56 then ({t with row:=t.srow,col:=t.scol,pen:=t.spen},0)
 else if c=99 then (Tm.new t.bS.toNat t.width.toNat,0)
 else if c=77/\t.row=t.top then (t.fN t.top t.bottom 1 false,0)
 else if c=77 then ({t with row:=max 0 (t.row-1)},0)
 else (t,0)
def count (p:List Int):Int:=max 1 (p.headD 0)
def snd (p:List Int):Int:=p.getD 1 0
def Tm.cn (t:Tm) (r c:Int):Tm:={t with row:=max 0 (min r (t.bS-1)),col:=max 0 (min c (t.width-1))}
def Tm.cX (t:Tm) (p:List Int):Tm :=
 if p.headD 0=0 then t.blank t.row t.inside t.width
 else if p.headD 0=1 then t.blank t.row 0 (t.inside+1)
 else if p.headD 0=2 then t.blank t.row 0 t.width
 else t
def Tm.eJ (p:List Int):Nat->Nat->Tm->Tm
 |_,0,t=>t
 |i,k+1,t =>
  let m:=p.headD 0
  let t:=if (i<t.row/\(m=1\/m=2))\/(i>t.row/\(m=0\/m=2)) then t.blank i 0 t.width else t
  Tm.eJ p (i+1) k t
def Tm.kO (t:Tm) (p:List Int):Tm:=Tm.eJ p 0 t.ah.length (t.cX p)
def Tm.lines (t:Tm) (n:Int) (up:Bool):Tm:=if t.row ≥ t.top/\t.row<=t.bottom then t.fN t.row t.bottom n up else t
def Tm.region (t:Tm) (p:List Int):Tm :=
 let top:=count p-1
 let b:=snd p-1
 let b:=if b<0\/b ≥ t.bS then t.bS-1 else b
 if top<=b then Tm.cn {t with top:=top,bottom:=b} 0 0 else t
def Lk.attribute (l:Lk) (n:Int):Lk :=
 if n=0 then .no
 else if n=1\/n=22 then {l with bold:=n=1}
 else if n=4\/n=24 then {l with under:=n=4}
 else if n=7\/n=27 then {l with inv:=n=7}
 else if n=39 then {l with fore:=0}
 else if n=49 then {l with back:=0}
 else l
def Lk.attributes:List Int->Lk->Lk
 |[],l=>l
 |n::p,l =>
  if n=38\/n=48 then
   (match p with
   |a::b::p=>if a≠5\/b>255 then l else Lk.attributes p (if n=38 then {l with fore:=b+1} else {l with back:=b+1})
   |_=>l)
  else if 30<=n/\n<=37 then Lk.attributes p {l with fore:=n-29}
  else if 40<=n/\n<=47 then Lk.attributes p {l with back:=n-39}
  else Lk.attributes p (l.attribute n)
def numbers:List UInt8->List Int->Int->Option (List Int)
 |[],done,last=>some (done++[last])
 |c::r,done,last =>
  if c=59 then numbers r (done++[last]) 0
  else if 48<=c/\c<=57 then numbers r done (min 9999 (last*10+((c.toNat:Int)-48)))
  else none
def Tm.dK (t:Tm) (f:UInt8) (p:List Int):Tm :=
 if f=65 then t.cn (t.row-count p) t.col
 else if f=66 then t.cn (t.row+count p) t.col
 else if f=67 then t.cn t.row (t.inside+count p)
 else if f=68 then t.cn t.row (t.inside-count p)
 else if f=71 then t.cn t.row (count p-1)
 else if f=100 then t.cn (count p-1) t.col
 else if f=72\/f=102 then t.cn (count p-1) (max 1 (snd p)-1)
 else if f=74 then t.kO p
 else if f=75 then t.cX p
 else if f=76 then t.lines (count p) false
 else if f=77 then t.lines (count p) true
 else if f=109 then {t with pen:=Lk.attributes p t.pen}
 else if f=114 then t.region p
 else t
def Tm.fw (t:Tm) (f:UInt8):Tm :=
 if t.params=[63,50,53]/\(f=104\/f=108) then {t with shown:=f=104}
 else match numbers t.params [] 0 with
  |some p=>t.dK f p
  |none=>t
def Tm.parameter (t:Tm) (c:UInt8):Tm × Nat :=
 if c=27 then (t,1)
 else if 64<=c/\c<=126 then (if t.params.length<=64 then t.fw c else t,0)
 else if c<32\/c>126\/(c ≥ 48/\t.middle=true) then (t,0)
 else
  let t:={t with middle:=t.middle||c<48}
  ((if t.params.length<=64 then {t with params:=t.params++[c]} else t),3)
def Tm.ignore (t:Tm) (c:UInt8):Tm × Nat:=if c=7\/(c=92/\t.last=27) then (t,0) else ({t with last:=c},4)
def Tm.step (u:yY) (t:Tm) (c:UInt8):Tm :=
 let (t,m):=match t.mode with
  |0=>t.plain u c
  |1=>t.second c
  |2=>(t,0)
  |3=>t.parameter c
  |_=>t.ignore c
 {t with mode:=m}
def Tm.feed (u:yY) (t:Tm) (b:List UInt8):Tm:=b.foldl (Tm.step u) t
theorem Tm.dY (u:yY) (t:Tm) (a b:List UInt8):t.feed u (a++b)=(t.feed u a).feed u b:=List.foldl_append
def dg (d:Nat):UInt8:=UInt8.ofNat (48+d)
def gD (n:Nat):List UInt8 :=
 if n<10 then [dg n] else if n<100 then [dg (n / 10),dg (n % 10)] else if n<1000 then [dg (n / 100),dg (n / 10 % 10),dg (n % 10)]
 else [dg (n / 1000),dg (n / 100 % 10),dg (n / 10 % 10),dg (n % 10)]
theorem MR {d:Nat} (h:d<10):(dg d).toNat=48+d:=by
 unfold dg
 rw[UInt8.toNat_ofNat']
 omega
theorem lR {d:Nat} (h:d<10) (r:List UInt8) (done:List Int) (last:Int) (hl:last*10+(d:Int)<=9999):numbers (dg d::r) done last=numbers r done (last*10+(d:Int)):=by
 have e:=MR h
 rw[numbers]
 have h1:¬dg d=59:=fun hc=>by rw[hc]at e; have:(59:UInt8).toNat=59:=rfl; omega
 have h2:48<=dg d/\dg d<=57:=by
  constructor
  ·rw[UInt8.le_iff_toNat_le]; have:(48:UInt8).toNat=48:=rfl; omega
  ·rw[UInt8.le_iff_toNat_le]; have:(57:UInt8).toNat=57:=rfl; omega
 rw[if_neg h1,if_pos h2,e]
 congr 1
 omega
theorem De {n:Nat} (h:n<=9999) (r:List UInt8) (done:List Int):numbers (gD n++r) done 0=numbers r done (n:Int):=by
 unfold gD
 split
 ·rename_i h1
  rw[zE7,zC1,lR h1 _ _ _ (by omega)]
  congr 1
  omega
 split
 ·rw[zE7,zE7,zC1,lR (by omega) _ _ _ (by omega),lR (by omega) _ _ _ (by omega)]
  congr 1
  omega
 split
 ·rw[zE7,zE7,zE7,zC1,lR (by omega) _ _ _ (by omega),lR (by omega) _ _ _ (by omega),lR (by omega) _ _ _ (by omega)]
  congr 1
  omega
 ·rw[zE7,zE7,zE7,zE7,zC1,lR (by omega) _ _ _ (by omega),lR (by omega) _ _ _ (by omega),lR (by omega) _ _ _ (by omega),lR (by omega) _ _ _ (by omega)]
  congr 1
  omega
def dH:List Nat->List UInt8
 |[]=>[]
 |[n]=>gD n
 |n::l=>gD n++59::dH l
theorem Nd (r:List UInt8) (done:List Int) (last:Int):numbers (59::r) done last=numbers r (done++[last]) 0:=by
 rw[numbers,if_pos rfl]
theorem CL:∀ (l:List Nat) (done:List Int),l≠[]->(∀ n∈l,n<=9999)->numbers (dH l) done 0=some (done++l.map Int.ofNat)
 |[n],done,_,h=>by
  have:=De (h n (by simp)) [] done
  rw[zD0]at this
  rw[dH,this,numbers]
  rfl
 |n::m::l,done,_,h=>by
  rw[dH,De (h n (by simp)),Nd,CL (m::l) _ (by simp) fun k hk=>h k (by simp[hk])]
  ·simp
  ·simp
def JM (c:UInt8):Prop:=48<=c/\c<64
theorem Bq {d:Nat} (h:d<10):JM (dg d):=by
 have e:=MR h
 constructor
 ·rw[UInt8.le_iff_toNat_le]; have:(48:UInt8).toNat=48:=rfl; omega
 ·rw[UInt8.lt_iff_toNat_lt]; have:(64:UInt8).toNat=64:=rfl; omega
theorem Em (n:Nat) (h:n<=9999):(∀ c∈gD n,JM c)/\(gD n).length<=4:=by
 unfold gD
 refine⟨fun c hc=>?_,?_⟩
 ·split at hc
  ·simp only[zA5]at hc; rw[hc]; exact Bq (by omega)
  split at hc
  ·simp only[zA7,zD2,or_false]at hc; rcases hc with rfl|rfl<;>exact Bq (by omega)
  split at hc
  ·simp only[zA7,zD2,or_false]at hc; rcases hc with rfl|rfl|rfl<;>exact Bq (by omega)
  ·simp only[zA7,zD2,or_false]at hc; rcases hc with rfl|rfl|rfl|rfl<;>exact Bq (by omega)
 ·split
  ·simp
  split
  ·simp
  split<;>simp
theorem EK:∀ (l:List Nat),(∀ n∈l,n<=9999)->(∀ c∈dH l,JM c)/\(dH l).length<=5*l.length
 |[],_=>⟨(fun c hc=>by cases hc),by simp[dH]⟩
 |[n],h=>by
  have:=Em n (h n (by simp))
  exact⟨this.1,by simp only[dH,List.length_singleton]; omega⟩
 |n::m::l,h=>by
  obtain⟨a1,a2⟩:=Em n (h n (by simp))
  obtain⟨b1,b2⟩:=EK (m::l) fun k hk=>h k (by simp[hk])
  rw[dH]
  ·refine⟨fun c hc=>?_,?_⟩
   ·rcases zB2.1 hc with h|h
    ·exact a1 c h
    ·rcases zA7.1 h with rfl|h
     ·exact⟨by decide,by decide⟩
     ·exact b1 c h
   ·simp only[zB4,zB0]at b2 ⊢
    omega
  ·simp
section
variable {u : yY}
structure Idle (t:Tm):Prop where
 mode:t.mode=0
 rest:t.rest=[]
theorem D8 (hu:u.full [27]=true) {t:Tm} (i:Idle t):t.step u 27={t with mode:=1}:=by
 obtain⟨h1,h2⟩:=i
 cases t
 simp only at h1 h2
 subst h1 h2
 simp[Tm.step,Tm.plain,Tm.drain,hu]
theorem J5 {t:Tm} (h:t.mode=1):t.step u 91={t with params:=[],middle:=false,mode:=3}:=by
 unfold Tm.step Tm.second
 rw[h]
 rfl
theorem Me {t:Tm} (h:t.mode=3) {c:UInt8} (hc:JM c) (hm:t.middle=false) (hl:t.params.length<=64):t.step u c={t with params:=t.params++[c]}:=by
 obtain⟨c1,c2⟩:=hc
 have n1:¬c=27:=fun e=>by subst e; exact absurd c1 (by decide)
 rw[UInt8.le_iff_toNat_le]at c1
 rw[UInt8.lt_iff_toNat_lt]at c2
 have e48:(48:UInt8).toNat=48:=rfl
 have e64:(64:UInt8).toNat=64:=rfl
 have n2:¬(64<=c/\c<=126):=fun e=>by have:=UInt8.le_iff_toNat_le.1 e.1; omega
 have n3:¬(c<32\/c>126\/(c ≥ 48/\t.middle=true)):=fun e=>by
  have e32:(32:UInt8).toNat=32:=rfl
  have e126:(126:UInt8).toNat=126:=rfl
  rcases e with e|e|e
  ·have:=UInt8.lt_iff_toNat_lt.1 e; omega
  ·have:=UInt8.lt_iff_toNat_lt.1 (show (126:UInt8)<c from e); omega
  ·rw[hm]at e; exact absurd e.2 (by decide)
 have n4:¬c<48:=fun e=>by have:=UInt8.lt_iff_toNat_lt.1 e; omega
 unfold Tm.step Tm.parameter
 rw[h]
 simp only[if_neg n1,if_neg n2,if_neg n3]
 rw[if_pos hl]
 cases t
 simp only at hm h
 simp[hm,n4]
theorem DH:∀ (ps:List UInt8) {t:Tm},t.mode=3->t.middle=false->(∀ c∈ps,JM c)->t.params.length+ps.length<=65->t.feed u ps={t with params:=t.params++ps}
 |[],t,_,_,_,_=>by simp[Tm.feed]
 |c::ps,t,h,hm,hp,hl=>by
  simp only[zB0]at hl
  have h1:=Me (u:=u) h (hp c (by simp)) hm (by omega)
  show Tm.feed u (t.step u c) ps=_
  rw[h1,DH ps (t:={t with params:=t.params++[c]}) h hm (fun d hd=>hp d (by simp[hd])) (by simp; omega)]
  simp
def Tm.m0 (t:Tm):Tm:={t with mode:=0}
theorem Ed (hu:u.full [27]=true) {t:Tm} (i:Idle t) {ps:List UInt8} {f:UInt8} (hp:∀ c∈ps,JM c) (hl:ps.length<=64) (hf:64<=f/\f<=126) :
  t.feed u (27::91::(ps++[f]))=(({t with mode:=3,params:=ps,middle:=false}:Tm).fw f).m0:=by
 have s1:=D8 hu i
 have s2:=J5 (u:=u) (t:={t with mode:=1}) rfl
 have s3:=DH (u:=u) ps (t:={t with params:=[],middle:=false,mode:=3}) rfl rfl hp (by simp; omega)
 have hn:¬f=27:=fun e=>by subst e; exact absurd hf.1 (by decide)
 show Tm.feed u ((t.step u 27).step u 91) (ps++[f])=_
 rw[s1,s2,Tm.dY,s3]
 simp only[Tm.feed,List.foldl_cons,List.foldl_nil]
 unfold Tm.step Tm.parameter
 simp only[if_neg hn,if_pos hf,zC1]
 rw[if_pos hl]
 rfl
theorem DY (hu:u.full [27]=true) {t:Tm} (i:Idle t) (c:UInt8):t.feed u [27,c]=({t with mode:=1}:Tm).step u c:=by
 show (t.step u 27).step u c=_
 rw[D8 hu i]
end
end Go.Proofs.YtpohjcacnkhnkaaGreatDoor.Tq
namespace Go.Ax
def Ren.same:Ren:=⟨fun n=>n,fun _=>0,fun _=>0,fun _=>.nilIface,fun _=>rfl⟩
theorem K6 (P:Program) (w:World):Rel P Ren.same (aa.none P.globals.size) w :=
 ⟨zA8 _,⟨zA8 _,fun _ _=>⟨rfl,rfl⟩⟩,fun m _ h=>absurd (ow _ m) h,fun n o h=>(by rw[ow]at h; cases h),fun n o h=>(by rw[ow]at h; cases h)⟩
theorem IM:cZ Fence.wide:=⟨fun _=>trivial,rfl,rfl⟩
theorem N5 {P:Program} (hmix:P.follows .mixedOrders=true) {K:FuncId->List Value->aa->Option Value} (hK:yr P K) {fuel:Nat} {f:FuncId} {args:List Value} {v:Value} {H H1:aa} {ρ:Ren} {w:World} (r:Rel P ρ H w)
  (h:call P K fuel f args H=some (.ok v,H1)) (hsc:aO H.next args=true) {F:Fence} {n:Nat} (hF:cZ F):CallsIn F n P f (args.map ρ.val).toArray w (fun e w'=>∃ ρ1,e=.returned (ρ1.val v)/\St P ρ H w ρ1 H1 w') :=
 yU (xA hmix hK fuel).1 r h hsc hF (fun ρ1 w1 s _=>⟨ρ1,rfl,s⟩)
theorem DG {u v:Value} (h:Ip u v=true):u=v/\af v=true:=by
 unfold Ip at h
 split at h
 ·simp only[zA4,decide_eq_true_eq]at h
  obtain⟨rfl,rfl⟩:=h
  exact⟨rfl,rfl⟩
 ·simp only[beq_iff_eq]at h
  subst h
  exact⟨rfl,rfl⟩
 ·cases h
theorem xr:∀ {u v:List Value},CJ u v=true->u=v/\∀ x∈v,af x=true
 |[],[],_=>⟨rfl,fun _ h=>by cases h⟩
 |a::r,b::q,h=>by
  simp only[CJ,zA4]at h
  obtain⟨h1,h2⟩:=DG h.1
  obtain⟨h3,h4⟩:=xr h.2
  refine⟨by rw[h1,h3],fun x hx=>?_⟩
  rcases zA7.1 hx with rfl|hx
  ·exact h2
  ·exact h4 x hx
 |[],_::_,h=>by cases h
 |_::_,[],h=>by cases h
theorem yq:∀ {l:List Value},(∀ x∈l,af x=true)->Cg l=true
 |[],_=>rfl
 |x::l,h=>by rw[Cg,h x (zE5 ..),yq fun y hy=>h y (zC7 _ hy)]; rfl
theorem Mc {u v:Value} (h:GJ u v=true):u=v/\af v=true:=by
 unfold GJ at h
 split at h
 ·rename_i a b
  obtain⟨h1,h2⟩:=xr h
  obtain⟨a⟩:=a
  obtain⟨b⟩:=b
  simp only at h1 h2
  subst h1
  exact⟨rfl,by rw[af,MO]; exact yq h2⟩
 ·rename_i a b
  obtain⟨h1,h2⟩:=xr h
  obtain⟨a⟩:=a
  obtain⟨b⟩:=b
  simp only at h1 h2
  subst h1
  exact⟨rfl,by rw[af,MO]; exact yq h2⟩
 ·exact DG h
theorem Kn (P:Program):yr P (Lb []):=fun f args v H h=>by cases h
open Go.ChangeShapes
section
variable {P : Program} {K : Type} {enc : TypeId × Value -> K} {w : World} {base : Nat} {spare : Nat -> Bool} {held : Bool}
theorem mapM_each {α β:Type} {g:α->Option β}:∀ {l:List α} {r:List β},l.mapM g=some r->∀ x∈l,∃ y,g x=some y
 |[],_,_,x,hx=>by cases hx
 |a::l,r,h,x,hx=>by
  rw[List.mapM_cons]at h
  cases hg:g a with
  |none=>rw[hg]at h; cases h
  |some y =>
   rw[hg]at h
   cases hl:l.mapM g with
   |none=>simp[hl]at h
   |some r' =>
    rcases zA7.1 hx with rfl|hx
    ·exact⟨y,hg⟩
    ·exact mapM_each hl x hx
theorem vf:∀ {ts us:List TypeId} {a b:List Value},fits P ts a=true->fits P us b=true->fits P (ts++us) (a++b)=true
 |[],us,[],b,_,h=>h
 |[],_,_::_,_,h,_=>by simp[fits]at h
 |_::_,_,[],_,h,_=>by simp[fits]at h
 |t::ts,us,v::a,b,h,h2=>by
  simp only[fits,zA4]at h
  simp only[zE7,fits,h.1,vf h.2 h2,zE3]
theorem rh {fuel d:Nat} {cs:List Value} (ih:∀ (t:TypeId) (ts:List TypeId) (cs:List Value) (x:DataW K × List MemPlace),flat P d t=some ts->bh P t=some ts.length->DataW.trod enc P w base spare held fuel t cs=some x->fits P ts cs=true) :
  ∀ (fs:List Field) (o:Nat) (ts:List TypeId),lN P (flat P d) fs o=some ts->(∀ f∈fs,∃ y,DataW.trod enc P w base spare held fuel f.type ((cs.drop f.offset).take (P.cellsOf f.type))=some y)->o+ts.length<=cs.length->fits P ts ((cs.drop o).take ts.length)=true
 |[],o,ts,h,_,_=>by
  simp only[lN,Option.some.injEq]at h
  subst h
  rfl
 |f::fs,o,ts,h,hy,hle=>by
  simp only[lN]at h
  split at h
  ·rename_i hf
   obtain⟨_,ho⟩:=hf
   cases e1:flat P d f.type with
   |none=>rw[e1]at h; cases h
   |some a =>
    rw[e1]at h
    simp only at h
    split at h
    ·rename_i hsz
     cases e2:lN P (flat P d) fs (o+a.length) with
     |none=>rw[e2]at h; cases h
     |some b =>
      rw[e2]at h
      simp only[Option.some.injEq]at h
      subst h
      rw[zB4]at hle
      obtain⟨y,hy0⟩:=hy f (by simp)
      rw[ho,bd hsz]at hy0
      have h1:=ih f.type a _ y e1 hsz hy0
      have h2:=rh ih fs (o+a.length) b e2 (fun g hg=>hy g (by simp[hg])) (by omega)
      have:(cs.drop o).take (a++b).length=(cs.drop o).take a.length++(cs.drop (o+a.length)).take b.length:=by
       rw[zB4,List.take_add,zG3]
      rw[this]
      exact vf h1 h2
    ·cases h
  ·cases h
theorem sS:∀ (fuel d:Nat) (t:TypeId) (ts:List TypeId) (cs:List Value) (x:DataW K × List MemPlace),flat P d t=some ts->bh P t=some ts.length->DataW.trod enc P w base spare held fuel t cs=some x->fits P ts cs=true
 |0,_,_,_,_,_,_,_,h=>by simp[DataW.trod]at h
 |_+1,0,_,_,_,_,h,_,_=>by simp[flat]at h
 |fuel+1,d+1,t,ts,cs,x,hf,hs,h=>by
  simp only[flat]at hf
  unfold DataW.trod at h
  cases e:P.underlying t with
  |none=>rw[e]at hf; cases hf
  |some td =>
   rw[e]at hf h
   cases td with
   |bool =>
    simp only[Option.some.injEq]at hf
    subst hf
    split at h<;>first|cases h|skip
    all_goals first|(rename_i hh; cases hh; done)|skip
    all_goals simp_all [fits,qI]
   |int k =>
    simp only[Option.some.injEq]at hf
    subst hf
    split at h<;>simp_all [fits,qI]
   |string =>
    simp only[Option.some.injEq]at hf
    subst hf
    split at h<;>simp_all [fits,qI]
   |struct fs =>
    simp only at hf
    split at hf
    ·cases hf
    ·simp only at h
     split at h
     ·rename_i hlen
      rw[bd hs]at hlen
      cases hm:fs.toList.mapM fun f=>DataW.trod enc P w base spare held fuel f.type ((cs.drop f.offset).take (P.cellsOf f.type)) with
      |none=>rw[hm]at h; cases h
      |some xs =>
       have:=rh (cs:=cs) (fun t ts cs x=>sS fuel d t ts cs x) fs.toList 0 ts hf (mapM_each hm) (by omega)
       rw[zD1,zD6 (by omega)]at this
       exact this
     ·cases h
   |_=>simp at hf
theorem trod_slice {fuel:Nat} {t e:TypeId} {ts:List TypeId} {D:Nat} (ht:P.underlying t=some (.slice e)) (hsz:bh P e=some ts.length) (hfl:flat P D e=some ts) {b off len cap:Nat} {x:DataW K × List MemPlace}
  (h:DataW.trod enc P w 0 spare held fuel t [.slice (some ⟨b,off,none⟩) len cap]=some x) (hnf:w.noneFrozen x.2) :
  len<=cap/\(len*ts.length=0\/∃ (c:Array Value) (e':TypeId) (fz:Nat × Nat) (vs:List Value),w.heap[b]?=some (.cells c e' fz)/\vs.length=len*ts.length/\(∀ i,i<vs.length->c[off+i]?=some (vs.getD i undef)) /\
   (∀ i,i<len->fits P ts ((vs.drop (i*ts.length)).take ts.length)=true)/\∀ i,off<=i->i<off+len*ts.length->¬(fz.1<=i/\i<fz.2)):=by
 cases fuel with
 |zero=>simp[DataW.trod]at h
 |succ fuel =>
  unfold DataW.trod at h
  rw[ht]at h
  simp only[bd hsz]at h
  split at h
  ·rename_i hc
   refine⟨hc.2.1,?_⟩
   by_cases h0:len*ts.length=0
   ·exact .inl h0
   right
   cases hm:(List.range len).mapM fun i=>(w.cells? 0 ((⟨b,off,none⟩:Addr).add (i*ts.length)) ts.length).bind (DataW.trod enc P w 0 spare held fuel e) with
   |none=>rw[hm]at h; cases h
   |some elems =>
    rw[hm,zA3]at h
    have hel:elems.length=len:=by have:=mapM_len hm; simpa using this
    have each:∀ i,i<len->∃ cs y,w.cells? 0 ((⟨b,off,none⟩:Addr).add (i*ts.length)) ts.length=some cs/\DataW.trod enc P w 0 spare held fuel e cs=some y:=fun i hi=>by
     obtain⟨y,hy⟩:=mapM_each hm i (by simpa using hi)
     cases hcs:w.cells? 0 ((⟨b,off,none⟩:Addr).add (i*ts.length)) ts.length with
     |none=>rw[hcs]at hy; cases hy
     |some cs=>rw[hcs]at hy; exact⟨cs,y,rfl,hy⟩
    have cell:∀ i,i<len*ts.length->∃ v,w.cell? ⟨b,off+i,none⟩=some v:=fun i hi=>by
     have hp:0<ts.length:=Nat.pos_of_ne_zero fun h=>h0 (by rw[h,Nat.mul_zero])
     have hq:i / ts.length<len:=(Nat.div_lt_iff_lt_mul hp).2 hi
     obtain⟨cs,y,hcs,_⟩:=each _ hq
     unfold World.cells? at hcs
     rw[if_pos (zB7 _)]at hcs
     obtain⟨v,hv⟩:=mapM_each hcs (i % ts.length) (by simpa using Nat.mod_lt _ hp)
     rw[dR,dR]at hv
     have:off+i / ts.length*ts.length+i % ts.length=off+i:=by rw[Nat.add_assoc,Nat.mul_comm,Nat.div_add_mod]
     rw[this]at hv
     exact⟨v,hv⟩
    obtain⟨v0,hv0⟩:=cell 0 (by omega)
    unfold World.cell? at hv0
    cases hb:w.heap[b]? with
    |none=>simp[hb]at hv0
    |some o =>
     cases o with
     |cells c e' fz =>
      have cell':∀ i,i<len*ts.length->∃ v,c[off+i]?=some v:=fun i hi=>by
       obtain⟨v,hv⟩:=cell i hi
       simp only[World.cell?,hb]at hv
       exact⟨v,by simpa using hv⟩
      obtain⟨vs,hvs⟩:∃ vs:List Value,vs=(List.range (len*ts.length)).map fun i=>(c[off+i]?).getD undef:=⟨_,rfl⟩
      have hvl:vs.length=len*ts.length:=by simp[hvs]
      have hvg:∀ i,i<vs.length->c[off+i]?=some (vs.getD i undef):=fun i hi=>by
       rw[hvl]at hi
       obtain⟨v,hv⟩:=cell' i hi
       simp[hvs,hi,hv,zC8]
      refine⟨c,e',fz,vs,rfl,hvl,hvg,fun i hi=>?_,fun i h1 h2=>?_⟩
      ·obtain⟨cs,y,hcs,hy⟩:=each i hi
       have hcs':(vs.drop (i*ts.length)).take ts.length=cs:=by
        unfold World.cells? at hcs
        rw[if_pos (zB7 _)]at hcs
        have hin:i*ts.length+ts.length<=len*ts.length:=by rw[<-Nat.succ_mul]; exact Nat.mul_le_mul_right _ hi
        have hr:=mapM_range_of (f:=fun j=>w.cell? (((⟨b,off,none⟩:Addr).add (i*ts.length)).add j)) (g:=fun j=>vs.getD (i*ts.length+j) undef) ts.length (fun j hj=>by
         have h3:=hvg (i*ts.length+j) (by rw[hvl]; omega)
         rw[dR,dR,Nat.add_assoc]
         simp[World.cell?,hb,h3])
        rw[hr]at hcs
        cases hcs
        apply List.ext_getElem?
        intro j
        by_cases hj:j<ts.length
        ·rw[List.getElem?_take,if_pos hj,List.getElem?_drop,zF0,List.getElem?_range hj,zB1 (by rw[hvl]; omega)]
         simp only[zA9,zC8]
         rw[zB1 (by rw[hvl]; omega)]
         rfl
        ·rw[zC5 (by simp; omega),zC5 (by simp; omega)]
       rw[hcs']
       exact sS fuel D e ts cs y hfl hsz hy
      ·have hmem:MemPlace.cell b i∈x.2:=by
        cases hrest:(if spare b then (List.range (cap-len)).mapM fun j=>(w.cells? 0 ((⟨b,off,none⟩:Addr).add ((len+j)*ts.length)) ts.length).bind (DataW.trod enc P w 0 spare held fuel e) else some []) with
        |none=>rw[hrest]at h; cases h
        |some rest =>
         rw[hrest]at h
         simp only[zA9,Option.some.injEq]at h
         subst h
         simp only[zB2]
         left
         unfold MemPlace.row
         rw[zB5]
         refine⟨i-off,?_,by simp only[MemPlace.cell.injEq,true_and]; omega⟩
         rw[zG0,hel,Nat.add_mul]
         omega
       have:=hnf b i hmem
       intro hh
       simp only[World.frozen?,hb]at this
       simp[hh.1,hh.2]at this
     |_=>simp[hb]at hv0
  ·cases h
theorem J8 {f:FuncId} {args:List Value} {H:aa} {ρ:Ren} (r:Rel P ρ H w) (hsc:aO H.next args=true) (hbase:H.base=H.next) (hd:H.dirty=[]) (h:bF P f args H fun out H1=>out=.ok (.bool true)/\Mod [] H H1) :
  Calls P f (args.map ρ.val).toArray w (fun e w'=>e=.returned (.bool true)/\RowKit.Below w.heap.size w w'):=by
 obtain⟨_,H1,hc,rfl,m⟩:=h
 refine (callsIn_wide (n:=0)).1 (hc ρ w r hsc Fence.wide 0 _ IM ?_)
 intro ρ1 w1 s _
 refine⟨by rw[Ren.val],s.os,s.tape,s.output,s.size,fun b hb=>s.fX b hb fun n hn hor _=>?_⟩
 rcases hor with h|h
 ·omega
 ·rcases m.dirty n h with h|h
  ·rw[hd]at h; cases h
  ·exact absurd h.1 (by simp)
end
section
variable {P : Program} {K : Type} {enc : TypeId × Value -> K} {w : World} {base : Nat} {spare : Nat -> Bool} {held : Bool}
mutual
def dc:DataW K->List Value
 |.lit (.int k z)=>[.int k z]
 |.lit (.bool b)=>[.bool b]
 |.agg l=>Qi l
 |_=>[]
def Qi:List (DataW K)->List Value
 |[]=>[]
 |d::r=>dc d++Qi r
end
mutual
def Np:DataW K->Bool
 |.lit (.int _ _)=>true
 |.lit (.bool _)=>true
 |.agg l=>Jf l
 |_=>false
def Jf:List (DataW K)->Bool
 |[]=>true
 |d::r=>Np d&&Jf r
end
theorem po {α β:Type} {g:α->Option β} {a:α} {l:List α} {r:List β} (h:(a::l).mapM g=some r):∃ y ys,g a=some y/\l.mapM g=some ys/\r=y::ys:=by
 rw[List.mapM_cons]at h
 cases hg:g a with
 |none=>rw[hg]at h; cases h
 |some y =>
  rw[hg]at h
  cases hl:l.mapM g with
  |none=>simp[hl]at h
  |some ys=>simp[hl]at h; exact⟨y,ys,rfl,rfl,h.symm⟩
theorem sx {fuel d:Nat} {cs:List Value} (ih:∀ (t:TypeId) (ts:List TypeId) (cs:List Value) (x:DataW K × List MemPlace),flat P d t=some ts->bh P t=some ts.length->DataW.trod enc P w base spare held fuel t cs=some x->Np x.1=true->cs=dc x.1) :
  ∀ (fs:List Field) (o:Nat) (ts:List TypeId) (xs:List (DataW K × List MemPlace)),lN P (flat P d) fs o=some ts->(fs.mapM fun f=>DataW.trod enc P w base spare held fuel f.type ((cs.drop f.offset).take (P.cellsOf f.type)))=some xs->Jf (xs.map (·.1))=true->o+ts.length<=cs.length->(cs.drop o).take ts.length=Qi (xs.map (·.1))
 |[],o,ts,xs,h,hm,_,_=>by
  simp only[lN,Option.some.injEq]at h
  subst h
  simp at hm
  subst hm
  simp[Qi]
 |f::fs,o,ts,xs,h,hm,hk,hle=>by
  simp only[lN]at h
  split at h
  ·rename_i hf
   obtain⟨_,ho⟩:=hf
   cases e1:flat P d f.type with
   |none=>rw[e1]at h; cases h
   |some a =>
    rw[e1]at h
    simp only at h
    split at h
    ·rename_i hsz
     cases e2:lN P (flat P d) fs (o+a.length) with
     |none=>rw[e2]at h; cases h
     |some b =>
      rw[e2]at h
      simp only[Option.some.injEq]at h
      subst h
      rw[zB4]at hle
      obtain⟨y,ys,hy,hys,rfl⟩:=po hm
      simp only[zC0,Jf,zA4]at hk
      rw[ho,bd hsz]at hy
      have h1:=ih f.type a _ y e1 hsz hy hk.1
      have h2:=sx ih fs (o+a.length) b ys e2 hys hk.2 (by omega)
      have:(cs.drop o).take (a++b).length=(cs.drop o).take a.length++(cs.drop (o+a.length)).take b.length:=by
       rw[zB4,List.take_add,zG3]
      rw[this,h1,h2]
      simp only[zC0,Qi]
    ·cases h
  ·cases h
theorem IG:∀ (fuel d:Nat) (t:TypeId) (ts:List TypeId) (cs:List Value) (x:DataW K × List MemPlace),flat P d t=some ts->bh P t=some ts.length->DataW.trod enc P w base spare held fuel t cs=some x->Np x.1=true->cs=dc x.1
 |0,_,_,_,_,_,_,_,h,_=>by simp[DataW.trod]at h
 |_+1,0,_,_,_,_,h,_,_,_=>by simp[flat]at h
 |fuel+1,d+1,t,ts,cs,x,hf,hs,h,hk=>by
  simp only[flat]at hf
  unfold DataW.trod at h
  cases e:P.underlying t with
  |none=>rw[e]at hf; cases hf
  |some td =>
   rw[e]at hf h
   cases td with
   |bool =>
    simp only at h
    split at h<;>first|(simp only[Option.some.injEq]at h; subst h; rfl)|cases h|skip
    all_goals (rename_i hh; cases hh)
   |int k =>
    simp only at h
    split at h<;>first|(simp only[Option.some.injEq]at h; subst h; simp_all []; done)|cases h|skip
    all_goals simp_all []
    all_goals (obtain⟨h1,rfl⟩:=h; simp[dc])
   |string =>
    simp only at h
    split at h<;>first|(simp only[Option.some.injEq]at h; subst h; simp[Np]at hk; done)|cases h|skip
    all_goals simp_all
    all_goals (obtain⟨_,rfl⟩:=h; simp[Np]at hk)
   |struct fs =>
    simp only at hf
    split at hf
    ·cases hf
    ·simp only at h
     split at h
     ·rename_i hlen
      rw[bd hs]at hlen
      cases hm:fs.toList.mapM fun f=>DataW.trod enc P w base spare held fuel f.type ((cs.drop f.offset).take (P.cellsOf f.type)) with
      |none=>rw[hm]at h; cases h
      |some xs =>
       rw[hm]at h
       simp only[zA9,Option.some.injEq]at h
       subst h
       simp only[Np]at hk
       have:=sx (cs:=cs) (fun t ts cs x=>IG fuel d t ts cs x) fs.toList 0 ts xs hf hm hk (by omega)
       rw[zD1,zD6 (by omega)]at this
       rw[this,dc]
     ·cases h
   |_=>simp at hf
theorem wQ {α:Type} {m:Nat}:∀ (n:Nat) (cs:List α),cs.length=n*m->cs=((List.range n).map fun i=>(cs.drop (i*m)).take m).flatten
 |0,cs,h=>by
  have:cs=[]:=zE9 (by simpa using h)
  subst this
  rfl
 |n+1,cs,h=>by
  have h1:(cs.drop m).length=n*m:=by rw[zD8,h,Nat.succ_mul]; omega
  have h2:=wQ n (cs.drop m) h1
  rw[List.range_succ_eq_map,zC0,List.flatten_cons,List.map_map,zF7,zD1]
  have:((List.range n).map ((fun i=>(cs.drop (i*m)).take m) ∘ Nat.succ))=(List.range n).map fun i=>((cs.drop m).drop (i*m)).take m:=by
   apply List.map_congr_left
   intro i _
   simp only[Function.comp,zG3,Nat.succ_mul]
   rw[Nat.add_comm]
  rw[this,<-h2,zG8]
theorem D6:∀ (ds:List (DataW K)),Qi ds=(ds.map dc).flatten
 |[]=>rfl
 |d::r=>by simp only[Qi,zC0,List.flatten_cons,D6 r]
theorem Ea:∀ {ds:List (DataW K)},Jf ds=true->∀ d∈ds,Np d=true
 |[],_,_,h=>by cases h
 |d::r,h,x,hx=>by
  simp only[Jf,zA4]at h
  rcases zA7.1 hx with rfl|hx
  ·exact h.1
  ·exact Ea h.2 x hx
theorem mapM_map {α β γ:Type} {f:α->Option β} {g:α->γ} {h:β->γ}:∀ {l:List α} {r:List β},l.mapM f=some r->(∀ a∈l,∀ b∈r,f a=some b->g a=h b)->l.map g=r.map h
 |[],r,hm,_=>by simp at hm; subst hm; rfl
 |a::l,r,hm,hg=>by
  obtain⟨y,ys,h1,h2,rfl⟩:=po hm
  rw[zC0,zC0,hg a (by simp) y (by simp) h1,mapM_map h2 fun a ha b hb=>hg a (by simp[ha]) b (by simp[hb])]
theorem KX {fuel:Nat} {t e:TypeId} {ts:List TypeId} {D n:Nat} {cs:List Value} {x:DataW K × List MemPlace} (hu:P.underlying t=some (.array n e)) (hsz:bh P e=some ts.length) (hfl:flat P D e=some ts) (hst:bh P t=some (n*ts.length))
  (h:DataW.trod enc P w base spare held fuel t cs=some x) (hk:Np x.1=true):cs=dc x.1:=by
 cases fuel with
 |zero=>simp[DataW.trod]at h
 |succ fuel =>
  unfold DataW.trod at h
  rw[hu]at h
  simp only[bd hsz,bd hst]at h
  split at h
  ·rename_i hl
   cases hm:(List.range n).mapM fun i=>DataW.trod enc P w base spare held fuel e ((cs.drop (i*ts.length)).take ts.length) with
   |none=>rw[hm]at h; cases h
   |some xs =>
    rw[hm]at h
    simp only[zA9,Option.some.injEq]at h
    subst h
    simp only[Np]at hk
    rw[dc,D6,List.map_map]
    refine (wQ n cs hl).trans (congrArg List.flatten (mapM_map hm fun i _ y hy hf=>?_))
    exact IG fuel D e ts _ y hfl hsz hf (Ea hk _ (List.mem_map_of_mem hy))
  ·cases h
theorem HV:∀ {laid:List (String × DataW Unit)} {ps:List MemPlace},DataW.LaidVars P w laid ps->∀ {x:String × DataW Unit},x∈laid->∃ g t cs fuel p,P.globalNamed x.1=some g/\(P.globals[g]?).map (·.type)=some t/\w.var? P x.1=some cs/\DataW.trod (fun _=>()) P w 0 (fun _=>true) false fuel t cs.toList=some (x.2,p)/\∀ y∈MemPlace.row ⟨g,0,none⟩ cs.size,y∈ps
 |[],_,_,_,hx=>by cases hx
 |(n,d)::r,ps,h,x,hx=>by
  obtain⟨g,t,cs,fuel,p,q,h1,h2,h3,h4,h5,rfl⟩:=h
  rcases zA7.1 hx with rfl|hx
  ·exact⟨g,t,cs,fuel,p,h1,h2,h3,h4,fun y hy=>by simp[hy]⟩
  ·obtain⟨g,t,cs,fuel,p,k1,k2,k3,k4,k5⟩:=HV h5 hx
   exact⟨g,t,cs,fuel,p,k1,k2,k3,k4,fun y hy=>by simp[k5 y hy]⟩
theorem yW {laid:List (String × DataW Unit)} (h:laidMet P laid w) {name:String} {d:DataW Unit} (hx:(name,d)∈laid) {g:Nat} {t e:TypeId} {ts:List TypeId} {D n:Nat} (hg:P.globalNamed name=some g) (ht:(P.globals[g]?).map (·.type)=some t)
  (hu:P.underlying t=some (.array n e)) (hsz:bh P e=some ts.length) (hfl:flat P D e=some ts) (hst:bh P t=some (n*ts.length)) (hk:Np d=true) (hpos:0<(dc d).length) :
  ∃ (c:Array Value) (ty:TypeId),w.heap[g]?=some (.cells c ty (0,0))/\c.toList=dc d:=by
 obtain⟨ps,hl,_,hz⟩:=h
 obtain⟨g',t',cs,fuel,p,h1,h2,h3,h4,h5⟩:=HV hl hx
 obtain rfl:=Option.some.inj (hg.symm.trans h1)
 obtain rfl:=Option.some.inj (ht.symm.trans h2)
 have hcs:=KX hu hsz hfl hst h4 hk
 have hpos':0<cs.size:=by rw[<-hcs]at hpos; simpa using hpos
 obtain⟨⟨c,ty,hb⟩,_⟩:=hz g 0 (h5 _ (by unfold MemPlace.row; rw[zB5]; exact⟨0,by simpa using hpos',rfl⟩))
 refine⟨c,ty,hb,?_⟩
 have:w.var? P name=some c:=by simp only[World.var?,hg,zA3,hb]
 obtain rfl:=Option.some.inj (this.symm.trans h3)
 exact hcs
def Ca (e:TypeId) (vs:List Value):dw:=⟨.cells #[] e,false,RV.ofList vs⟩
theorem NS {ρ:Ren} {H:aa} {g:Nat} {e:TypeId} {c:Array Value} {vs:List Value} (r:Rel P ρ H w) (hg:g<P.globals.size) (hex:ρ.ex g=0) (hinj:∀ n,H.get n≠none->ρ.blk n=g->n=g)
  (hb:w.heap[g]?=some (.cells c e (0,0))) (hc:c.toList=vs) (ha:Cg vs=true):Rel P ρ (H.put g (some (Ca e vs))) w:=by
 obtain⟨hbk,hsh⟩:=r.glob.2 g hg
 have hav:∀ x∈vs,af x=true:=by
  intro x hx
  clear hc hinj
  induction vs with
  |nil=>cases hx
  |cons y ys ih =>
   simp only[Cg,zA4]at ha
   rcases zA7.1 hx with rfl|hx
   ·exact ha.1
   ·exact ih ha.2 hx
 have hgd:∀ i,i<vs.length->af (vs.getD i undef)=true:=fun i hi=>hav _ (by simp[zC8,zB1 hi])
 have hget:∀ m,(H.put g (some (Ca e vs))).get m=if m=g then some (Ca e vs) else H.get m:=fun m=>aa.pE H g _ m
 refine⟨r.base,r.glob,fun m n hm hn he=>?_,fun n o hn=>?_,fun n o hn=>?_⟩
 ·rw[hget]at hm hn
  by_cases h1:m=g
  ·subst h1
   by_cases h2:n=m
   ·exact .inl h2.symm
   ·rw[if_neg h2]at hn
    exact .inl (hinj n hn (he.symm.trans hbk)).symm
  ·rw[if_neg h1]at hm
   by_cases h2:n=g
   ·subst h2
    exact .inl (hinj m hm (he.trans hbk))
   ·rw[if_neg h2]at hn
    rw[hget,hget,if_neg h1,if_neg h2]
    exact r.inj m n hm hn he
 ·rw[hget]at hn
  by_cases h:n=g
  ·subst h
   rw[if_pos rfl]at hn
   cases hn
   refine⟨zD5 hg r.glob.1,?_⟩
   simp only[ki,Ca,RV.n_ofList,RV.cb]
   intro i hi
   exact fK _ (hgd i hi)
  ·rw[if_neg h]at hn
   exact r.dom n o hn
 ·rw[hget]at hn
  by_cases h:n=g
  ·subst h
   rw[if_pos rfl]at hn
   cases hn
   refine⟨_,by rw[hbk]; exact hb,?_⟩
   have hcs:c.size=vs.length:=by rw[<-hc]; simp
   simp only[Fits,Ca]
   refine⟨c,(0,0),rfl,fun i hi=>?_,fun _=>⟨by rw[RV.n_ofList,hcs],hsh,hex,rfl⟩,fun h=>(by cases h)⟩
   simp only[RV.n_ofList]at hi
   rw[RV.cb,df _ _ (hgd i hi),hsh,zE1]
   subst hc
   have:i<c.size:=by simpa using hi
   simp[zC8,this]
  ·rw[if_neg h]at hn
   exact r.obj n o hn
def qa (N:Nat):List (Nat × TypeId × List Value)->aa
 |[]=>aa.none N
 |(g,e,vs)::r=>(qa N r).put g (some (Ca e vs))
theorem nT (N:Nat):∀ T,(qa N T).next=N/\(qa N T).base=N/\(qa N T).dirty=[]
 |[]=>⟨rfl,rfl,rfl⟩
 |(_,_,_)::r=>nT N r
def NL (P:Program) (K:FuncId->List Value->aa->Option Value) (fuel:Nat) (f:FuncId) (args:List Value) (v:Value) (T:List (Nat × TypeId × List Value)):Bool :=
 match call P K fuel f args (qa P.globals.size T) with
 |some (.ok u,H1)=>GJ u v&&H1.dirty.isEmpty
 |_=>false
theorem wW:∀ (T:List (Nat × TypeId × List Value)),(∀ x∈T,x.1<P.globals.size/\Cg x.2.2=true/\∃ c,w.heap[x.1]?=some (.cells c x.2.1 (0,0))/\c.toList=x.2.2)->Rel P Ren.same (qa P.globals.size T) w
 |[],_=>K6 P w
 |(g,e,vs)::r,h=>by
  obtain⟨h1,h2,c,h3,h4⟩:=h (g,e,vs) (by simp)
  exact NS (wW r fun x hx=>h x (by simp[hx])) h1 rfl (fun n _ hn=>hn) h3 h4 h2
theorem NB (hmix:P.follows .mixedOrders=true) {L:FuncId->List Value->aa->Option Value} (hK:yr P L) {fuel:Nat} {f:FuncId} {args:List Value} {v:Value} {T:List (Nat × TypeId × List Value)} (ha:args.all af=true) (h:NL P L fuel f args v T=true)
  (hT:∀ x∈T,x.1<P.globals.size/\Cg x.2.2=true/\∃ c,w.heap[x.1]?=some (.cells c x.2.1 (0,0))/\c.toList=x.2.2) (F:Fence) (n:Nat) (hF:cZ F) :
  CallsIn F n P f args.toArray w (fun e w'=>e=.returned v/\RowKit.Below w.heap.size w w')/\af v=true:=by
 unfold NL at h
 split at h
 ·rename_i u H1 hc
  simp only[zA4]at h
  obtain⟨h,hd⟩:=h
  obtain⟨rfl,hv⟩:=Mc h
  refine⟨?_,hv⟩
  have:=N5 hmix hK (wW T hT) hc (nR _ (yq fun x hx=>zC6.1 ha x hx)) (F:=F) (n:=n) hF
  rw[tg _ args (fun x hx=>zC6.1 ha x hx)]at this
  refine this.mono ?_
  rintro e w' ⟨ρ1,rfl,s⟩
  refine⟨by rw[df ρ1 _ hv],s.os,s.tape,s.output,s.size,fun b hb=>s.fX b hb fun n hn hor _=>?_⟩
  obtain⟨t1,t2,_⟩:=nT P.globals.size T
  rcases hor with h|h
  ·omega
  ·rw[List.isEmpty_iff.1 hd]at h
   cases h
 ·cases h
theorem pz {ρ:Ren} {H:aa} {g:Nat} {e:TypeId} {vs:List Value} (r:Rel P ρ H w) (hg:g<P.globals.size) (hb:bk H g=some ⟨e,false,vs⟩) (ha:Cg vs=true):∃ c,w.heap[g]?=some (.cells c e (0,0))/\c.toList=vs:=by
 obtain⟨hbk,hsh⟩:=r.glob.2 g hg
 have hav:∀ x∈vs,af x=true:=by
  intro x hx
  clear hb
  induction vs with
  |nil=>cases hx
  |cons y ys ih =>
   simp only[Cg,zA4]at ha
   rcases zA7.1 hx with rfl|hx
   ·exact ha.1
   ·exact ih ha.2 hx
 simp only[bk,zB3]at hb
 obtain⟨⟨rv,e',o⟩,hc,hx⟩:=hb
 simp only[Bl.mk.injEq]at hx
 obtain⟨rfl,rfl,rfl⟩:=hx
 obtain⟨z,q,hgt⟩:=dW hc
 obtain⟨o',hw,hfit⟩:=r.obj _ _ hgt
 simp only[Fits]at hfit
 obtain⟨c,fz,rfl,hcs,hcl,_⟩:=hfit
 obtain⟨k1,k2,k3,rfl⟩:=hcl trivial
 rw[hbk]at hw
 refine⟨c,hw,?_⟩
 apply List.ext_getElem?
 intro i
 rw[RV.gA]
 by_cases hi:i<rv.n
 ·have h1:=hcs i hi
  rw[k2,zE1]at h1
  have h2:rv.get i∈rv.jK 0 rv.n:=by rw[RV.gA,zB5]; exact⟨i,by simpa using hi,by simp⟩
  rw[df ρ _ (hav _ h2)]at h1
  rw[zF0,List.getElem?_range hi]
  simpa using h1
 ·rw[zC5 (by simp; omega),zC5 (by simp; omega)]
theorem Js (hmix:P.follows .mixedOrders=true) {L:FuncId->List Value->aa->Option Value} (hK:yr P L) {fuel:Nat} {f:FuncId} {args:List Value} {v:Value} {T:List (Nat × TypeId × List Value)} {H:aa} (ha:args.all af=true) (h:NL P L fuel f args v T=true)
  (hT:∀ x∈T,x.1<P.globals.size/\Cg x.2.2=true/\bk H x.1=some ⟨x.2.1,false,x.2.2⟩):br P f args H (.ok v) H:=by
 intro ρ w r hsc F n R hF hR
 rw[tg ρ args (fun x hx=>zC6.1 ha x hx)]
 obtain⟨h1,hv⟩:=NB (w:=w) hmix hK ha h (fun x hx=>⟨(hT x hx).1,(hT x hx).2.1,pz r (hT x hx).1 (hT x hx).2.2 (hT x hx).2.1⟩) F n hF
 refine h1.mono ?_
 rintro e w' ⟨rfl,hb⟩
 have:=hR ρ w' (St.below r hb) (fK _ hv)
 rwa [df ρ _ hv]at this
end
section
variable {P : Program} {ro : Option Nat} {H : aa} {N : Nat} {E : Env} {ds : List Deferred} {ops : Array Oper} {rest : List Oper} {d : Nat} {ty : TypeId} {pos : String} {after : Array Edge} {Q : Exit -> ag -> aa -> Prop}
theorem nL {op:BinOp} {t u:TypeId} {x y:Operand} {p q v:Value} (hx:bj P N x=true) (hy:bj P N y=true) (hp:cm E x=p) (hq:cm E y=q) (hd:d<N) (h0:fu P H op t p q=none) (h1:af p=true) (h2:af q=true) (h:cS P (do eqGuard op t x y p q; binOp op t p q)=some v) (h3:af v=true) :
  wpOps P ro ops (⟨some d,.binOp op t x y u,ty,pos,after,none⟩::rest) (bA N E ds) H Q=wpOps P ro ops rest (bA N (cE E d v) ds) H Q :=
 (sq (x:=some v) rfl (by simp only[ck,Gt,aE hx,aE hy,hp,hq,zA1,zA3,Ec,h0,h1,h2,jX,h,h3,zE3,if_true,zA9]; rfl) hd).trans kx
def fe (k:IntKind) (x y:Int):Int:=k.wrap ((BitVec.ofInt k.bits x &&& BitVec.ofInt k.bits y).toNat:Int)
def Jo (k:IntKind) (x y:Int):Int:=k.wrap ((BitVec.ofInt k.bits x ||| BitVec.ofInt k.bits y).toNat:Int)
def NA (k:IntKind) (x y:Int):Int:=k.wrap ((BitVec.ofInt k.bits x &&& ~~~BitVec.ofInt k.bits y).toNat:Int)
def vz (k:IntKind) (x:Int) (n:Nat):Int:=k.wrap (x*2 ^ (min n k.bits))
def jZ (k:IntKind) (x:Int) (n:Nat):Int:=x.fdiv (2 ^ (min n k.bits))
def ju (op:BinOp):Value->Value->Option Value
 |.int k a,.int k' b=>(match op with
  |.and=>if k=k' then some (.int k (fe k a b)) else none
  |.or=>if k=k' then some (.int k (Jo k a b)) else none
  |.andNot=>if k=k' then some (.int k (NA k a b)) else none
  |.shl=>if 0<=b then some (.int k (vz k a b.toNat)) else none
  |.shr=>if 0<=b then some (.int k (jZ k a b.toNat)) else none
  |_=>none)
 |.string a,.string b=>(match op with
  |.eql=>some (.bool (a.toList == b.toList))
  |_=>none)
 |_,_=>none
theorem KP {op:BinOp} {t u:TypeId} {x y:Operand} {p q v:Value} (hx:bj P N x=true) (hy:bj P N y=true) (hp:cm E x=p) (hq:cm E y=q) (hd:d<N) (h:ju op p q=some v) (h0:fu P H op t p q=none) :
  wpOps P ro ops (⟨some d,.binOp op t x y u,ty,pos,after,none⟩::rest) (bA N E ds) H Q=wpOps P ro ops rest (bA N (cE E d v) ds) H Q:=by
 unfold ju at h
 split at h
 ·rename_i k a k' b
  split at h<;>try split at h
  ·rename_i hk
   subst hk
   simp only[Option.some.injEq]at h
   subst h
   exact nL hx hy hp hq hd h0 rfl rfl (by simp[eqGuard,binOp,cS,Op.intBits,fe,pure,bind,Sem.bind]) rfl
  ·cases h
  ·rename_i hk
   subst hk
   simp only[Option.some.injEq]at h
   subst h
   exact nL hx hy hp hq hd h0 rfl rfl (by simp[eqGuard,binOp,cS,Op.intBits,Jo,pure,bind,Sem.bind]) rfl
  ·cases h
  ·rename_i hk
   subst hk
   simp only[Option.some.injEq]at h
   subst h
   exact nL hx hy hp hq hd h0 rfl rfl (by simp[eqGuard,binOp,cS,Op.intBits,NA,pure,bind,Sem.bind]) rfl
  ·cases h
  ·rename_i hb
   simp only[Option.some.injEq]at h
   subst h
   exact nL hx hy hp hq hd h0 rfl rfl (by simp[eqGuard,binOp,cS,Op.shift,vz,pure,bind,Sem.bind,show ¬b<0 by omega]) rfl
  ·cases h
  ·rename_i hb
   simp only[Option.some.injEq]at h
   subst h
   exact nL hx hy hp hq hd h0 rfl rfl (by simp[eqGuard,binOp,cS,Op.shift,jZ,pure,bind,Sem.bind,show ¬b<0 by omega]) rfl
  ·cases h
  all_goals cases h
 ·rename_i a b
  split at h
  ·simp only[Option.some.injEq]at h
   subst h
   exact nL hx hy hp hq hd h0 rfl rfl (by simp[eqGuard,binOp,cS,Op.stringOp,pure,bind,Sem.bind]) rfl
  ·cases h
 ·cases h
theorem IZ {op:BinOp} {t:TypeId} {p q v:Value} (hop:op=.and\/op=.or\/op=.andNot\/op=.shl\/op=.shr) (h:ju op p q=some v):fu P H op t p q=none:=by
 unfold ju at h
 split at h
 ·rename_i k a k' b
  simp only[fu]
  split
  ·rcases hop with rfl|rfl|rfl|rfl|rfl<;>rfl
  ·rfl
 ·rcases hop with rfl|rfl|rfl|rfl|rfl<;>cases h
 ·cases h
theorem Da {op:BinOp} {t u:TypeId} {x y:Operand} (hop:op=.and\/op=.or\/op=.andNot\/op=.shl\/op=.shr) (hx:bj P N x=true) (hy:bj P N y=true) (hd:d<N) (h:(ju op (cm E x) (cm E y)).isSome=true) :
  wpOps P ro ops (⟨some d,.binOp op t x y u,ty,pos,after,none⟩::rest) (bA N E ds) H Q=mr P ro ops rest N E ds d H Q (ju op (cm E x) (cm E y)):=by
 cases hv:ju op (cm E x) (cm E y) with
 |none=>rw[hv]at h; cases h
 |some v=>exact (KP hx hy rfl rfl hd hv (IZ hop hv)).trans kx.symm
theorem ou {t u:TypeId} {x y:Operand} (hx:bj P N x=true) (hy:bj P N y=true) (hd:d<N) (h:(ju .and (cm E x) (cm E y)).isSome=true):wpOps P ro ops (⟨some d,.binOp .and t x y u,ty,pos,after,none⟩::rest) (bA N E ds) H Q=mr P ro ops rest N E ds d H Q (ju .and (cm E x) (cm E y)):=Da (by simp) hx hy hd h
theorem OM {t u:TypeId} {x y:Operand} (hx:bj P N x=true) (hy:bj P N y=true) (hd:d<N) (h:(ju .or (cm E x) (cm E y)).isSome=true):wpOps P ro ops (⟨some d,.binOp .or t x y u,ty,pos,after,none⟩::rest) (bA N E ds) H Q=mr P ro ops rest N E ds d H Q (ju .or (cm E x) (cm E y)):=Da (by simp) hx hy hd h
theorem Na {t u:TypeId} {x y:Operand} (hx:bj P N x=true) (hy:bj P N y=true) (hd:d<N) (h:(ju .andNot (cm E x) (cm E y)).isSome=true):wpOps P ro ops (⟨some d,.binOp .andNot t x y u,ty,pos,after,none⟩::rest) (bA N E ds) H Q=mr P ro ops rest N E ds d H Q (ju .andNot (cm E x) (cm E y)):=Da (by simp) hx hy hd h
theorem GK {t u:TypeId} {x y:Operand} (hx:bj P N x=true) (hy:bj P N y=true) (hd:d<N) (h:(ju .shl (cm E x) (cm E y)).isSome=true):wpOps P ro ops (⟨some d,.binOp .shl t x y u,ty,pos,after,none⟩::rest) (bA N E ds) H Q=mr P ro ops rest N E ds d H Q (ju .shl (cm E x) (cm E y)):=Da (by simp) hx hy hd h
theorem oG {t u:TypeId} {x y:Operand} (hx:bj P N x=true) (hy:bj P N y=true) (hd:d<N) (h:(ju .shr (cm E x) (cm E y)).isSome=true):wpOps P ro ops (⟨some d,.binOp .shr t x y u,ty,pos,after,none⟩::rest) (bA N E ds) H Q=mr P ro ops rest N E ds d H Q (ju .shr (cm E x) (cm E y)):=Da (by simp) hx hy hd h
theorem iT {k:IntKind} {a b:Int}:ju .and (.int k a) (.int k b)=some (.int k (fe k a b)):=by simp only[ju,if_true]
theorem Bd {k:IntKind} {a b:Int}:ju .or (.int k a) (.int k b)=some (.int k (Jo k a b)):=by simp only[ju,if_true]
theorem FH {k:IntKind} {a b:Int}:ju .andNot (.int k a) (.int k b)=some (.int k (NA k a b)):=by simp only[ju,if_true]
theorem vQ {k k':IntKind} {a b:Int} (h:0<=b):ju .shl (.int k a) (.int k' b)=some (.int k (vz k a b.toNat)):=by simp only[ju,h,if_true]
theorem iQ {k k':IntKind} {a b:Int} (h:0<=b):ju .shr (.int k a) (.int k' b)=some (.int k (jZ k a b.toNat)):=by simp only[ju,h,if_true]
theorem IC {t u:TypeId} {x y:Operand} {a b:ByteArray} (hx:bj P N x=true) (hy:bj P N y=true) (hp:cm E x=.string a) (hq:cm E y=.string b) (hd:d<N) (h0:fu P H .eql t (.string a) (.string b)=none):wpOps P ro ops (⟨some d,.binOp .eql t x y u,ty,pos,after,none⟩::rest) (bA N E ds) H Q=wpOps P ro ops rest (bA N (cE E d (.bool (a.toList == b.toList))) ds) H Q :=
 KP hx hy hp hq hd rfl h0
def fE (es:List MapEntry) (c:Nat):dw:=⟨.map ⟨es⟩ c,false,⟨[],0⟩⟩
theorem NM {t:TypeId} (hd:d<N):wpOps P ro ops (⟨some d,.makeMap t none,ty,pos,after,none⟩::rest) (bA N E ds) H Q=wpOps P ro ops rest (bA N (cE E d (.map (some H.next))) ds) (H.new (fE [] 0)) Q:=by
 rw[xc rfl rfl]
 simp only[zi,ck,rF,qH,mn,EP,dG N E ds d _ hd]
 rfl
theorem Ri {t:TypeId} {x k y:Operand} (hx:bj P N x=true) (hk:bj P N k=true) (hy:bj P N y=true):wpOps P ro ops (⟨none,.insert t x k y,ty,pos,after,none⟩::rest) (bA N E ds) H Q=sV P ro ops rest (bA N E ds) Q (bM P H t (cm E x) (cm E k) (cm E y)):=by
 rw[xc rfl rfl]
 simp only[zi,ck,ik,aE hx,aE hk,aE hy,Kp,zA1,zA3]
 cases bM P H t (cm E x) (cm E k) (cm E y) with
 |none=>rfl
 |some H1=>simp only[zA9,mn,EP,xi,sV]
theorem CK {t:TypeId} {x k:Operand} {ok:Bool} (hx:bj P N x=true) (hk:bj P N k=true) (hd:d<N):wpOps P ro ops (⟨some d,.lookup t x k ok,ty,pos,after,none⟩::rest) (bA N E ds) H Q=mr P ro ops rest N E ds d H Q (lK P H t (cm E x) (cm E k) ok) :=
 sq rfl (by simp only[ck,vT,aE hx,aE hk,zA1,zA3]) hd
theorem Gs {t key el:TypeId} {kd:TypeDesc} {k v:Value} {es:List MapEntry} {c m:Nat} (hm:H.next=m) (hok:H.base<=H.next) (hu:P.underlying t=some (.map key el)) (hk:P.underlying key=some kd) (h1:(o7 k&&lA kd)=true) (h2:aS (H.next+1) v=true) (hf:Instr.findNow kd k es 0=some none) :
  bM P (H.new (fE es c)) t (.map (some m)) k v=some (H.new (fE (es++[{key:=k,val:=v,born:=c}]) (c+1))):=by
 subst hm
 have hg:(H.new (fE es c)).get H.next=some ⟨.map ⟨es⟩ c,false,⟨[],0⟩⟩:=by rw[aa.fA,if_pos rfl]; rfl
 have h3:(o7 k&&lA kd&&aS (H.new (fE es c)).next v)=true:=by rw[h1,Bool.true_and]; exact h2
 have e:=GN (H:=H) (x:=fE es c) (o:=fE (es++[{key:=k,val:=v,born:=c}]) (c+1)) hok
 unfold bM
 rw[hu]
 simp only[hg,hk,zA1,zA3,h3,if_true,hf]
 rw[<-e]
 simp[fE]
end
section
variable {P : Program} {H : aa} {N : Nat} {E : Env} {ds : List Deferred} {ro : Option Nat} {ops : Array Oper} {rest : List Oper} {d : Nat} {ty : TypeId} {pos : String} {after : Array Edge}
theorem bQ {Q:Exit->ag->aa->Prop} {x:Operand} {s t:TypeId} (hx:bj P N x=true):wpOps P ro ops (⟨some d,.convert s t x,ty,pos,after,none⟩::rest) (bA N E ds) H Q=pf P ro ops rest N E ds (some d) Q (cj P H s t (cm E x)) :=
 uo rfl (by simp only[ck,rj,aE hx,zA1,zA3])
theorem iL {s t:TypeId} {u:TypeDesc} {k k0:IntKind} {n:Int} (hs:P.underlying s=some u) (ht:P.underlying t=some (.int k)):cj P H s t (.int k0 n)=some (.int k (k.wrap n),H):=by
 simp only[cj,hs,ht]
theorem LP {t e:TypeId} {sz by1 n:Nat} {z:Value} (hu:P.underlying t=some (.slice e)) (hsz:bh P e=some sz) (hby:bytesOf P e=some by1) (hz:zeroOf P e=some z) (hzl:z.cells.toList.length=sz) (hsm:small n by1=true) :
  fG P H t (.int .i64 (n:Int)) (.int .i64 (n:Int))=(cF H e (aV z.cells.toList n) false).map fun g=>(.slice (some ⟨H.next,0,some 0⟩) n n,g):=by
 simp only[fG,hu,hsz,hby,hz,zA1,zA3,zG6]
 rw[if_pos ⟨by omega,Int.le_refl _,hsm,hzl⟩]
 cases cF H e (aV z.cells.toList n) false<;>rfl
theorem Jl {dt st e:TypeId} {sz m off dl dc n off2 sl sc:Nat} {s s2:Option Nat} {b:Bl} (hu:P.underlying dt=some (.slice e)) (hsz:bh P e=some sz) (hs:s.getD 0=0) (hb:rk H n=some b) (hle:off2+zF2 sl dl*sz<=b.l.length) :
  aD P H .copy ⟨[dt,st]⟩ [.slice (some ⟨m,off,s⟩) dl dc,.slice (some ⟨n,off2,s2⟩) sl sc]=(dV H m off ((b.l.drop off2).take (zF2 sl dl*sz))).map fun g=>(goInt (zF2 sl dl),g):=by
 simp only[aD,Ai,hu,hsz,zA1,zA3,iY,jH hb hle]
 rw[if_pos (.inl hs)]
 cases dV H m off ((b.l.drop off2).take (zF2 sl dl*sz))<;>rfl
theorem w6 {dt st e:TypeId} {sz m off dl dc n off2 sl sc:Nat} {s s2:Option Nat} {b:Bl} (hu:P.underlying dt=some (.slice e)) (hsz:bh P e=some sz) (hs:s.getD 0=0) (hb:bk H n=some b) (hle:off2+zF2 sl dl*sz<=b.l.length) :
  aD P H .copy ⟨[dt,st]⟩ [.slice (some ⟨m,off,s⟩) dl dc,.slice (some ⟨n,off2,s2⟩) sl sc]=(dV H m off ((b.l.drop off2).take (zF2 sl dl*sz))).map fun g=>(goInt (zF2 sl dl),g):=Jl hu hsz hs (jR hb) hle
theorem ym {t e:TypeId} {sz n off len cap:Nat} {lo hi:Option Value} {l h:Nat} (hu:P.underlying t=some (.slice e)) (hsz:bh P e=some sz) (hl:bound 0 lo=some l) (hh:bound len hi=some h) (h1:h<=cap) (h2:l<=h) (h3:l<cap) :
  cg P H t (.slice (some ⟨n,off,some 0⟩) len cap) lo hi none=some (.slice (some ⟨n,off+l*sz,some 0⟩) (h-l) (cap-l),H):=by
 simp only[cg,hu,hsz,fm,hl,hh,zA1,zA3,cY]
 rw[if_pos ⟨h1,h2⟩,if_neg (by omega)]
theorem ph {Q:ag->aa->Prop} {i:Nat} {fps:List Fp} {anc:List Nat} {t:TypeId} {x:Operand} {lo hi mx:Option Operand} {dst:Option Nat} :
  fH P ops anc (⟨dst,.slice t x lo hi mx,ty,pos,after,none⟩::rest) i fps (bA N E ds) H Q=nA P ops anc ⟨dst,.slice t x lo hi mx,ty,pos,after,none⟩ rest i fps (bA N E ds) H Q:=by
 simp only[fH,cw,ja,ib,pj,p9,nA]
theorem NR {Q:ag->aa->Prop} {i:Nat} {fps:List Fp} {anc:List Nat} {args:List Operand} {ts:Array TypeId} {dst:Option Nat} (ha:args.all (bj P N)=true) :
  fH P ops anc (⟨dst,.call ⟨.builtin .copy,⟨args⟩,ts⟩,ty,pos,after,none⟩::rest) i fps (bA N E ds) H Q=nA P ops anc ⟨dst,.call ⟨.builtin .copy,⟨args⟩,ts⟩,ty,pos,after,none⟩ rest i fps (bA N E ds) H Q:=by
 simp only[fH,cw,ja,ib,pj,p9,nA,cp ha,QJ,kU]
theorem Dd {o:Oper} {Q:ag->aa->Prop} {i:Nat} {fps:List Fp} {anc:List Nat} {v:Value} (hdst:o.dst=some d) (hd:d<N) (hop:∀ G,ck o.op P (bA N E ds) G=some (.value v,G)) (hm:∀ r∈fps,cQ (anc.getD i 0) [] [] (ae v++([]:List Bl).flatMap fun x=>gk x.l) r)
  (h:fH P ops anc rest (i+1) (⟨i,[],[],H.next,H.next+0⟩::fps) (bA N (cE E d v) ds) H Q):nA P ops anc o rest i fps (bA N E ds) H Q :=
 tz (v:=v) (M:=[]) [] hdst hd (fun _ h=>by cases h) (fun G _ _=>fP (x:=.value v) (g:=G) (hop G) ⟨rfl,rfl⟩) hm h
theorem sN {t:TypeId} {x:Operand} {lo hi mx:Option Operand} {v:Value} {G:aa} (hx:bj P N x=true) (h1:iu P N lo=true) (h2:iu P N hi=true) (h3:iu P N mx=true) (h:cg P G t (cm E x) (qF E lo) (qF E hi) (qF E mx)=some (v,G)) :
  ck (.slice t x lo hi mx) P (bA N E ds) G=some (.value v,G):=by
 simp only[ck,yj,aE hx,kD h1,kD h2,kD h3,zA1,zA3,h,sI,zA9]
theorem qQ {args:List Operand} {b:Builtin} {ts:Array TypeId} {dst:Option Nat} {v:Value} {G:aa} (ha:args.all (bj P N)=true) (h:aD P H b ts (args.map (cm E))=some (v,G)):ET P (bA N E ds) H ⟨dst,.call ⟨.builtin b,⟨args⟩,ts⟩,ty,pos,after,none⟩ (.ok v) G :=
 fP (x:=.value v) (g:=G) (by simp only[ck,kc,cp ha,zA1,zA3,h,sI,zA9]) ⟨rfl,rfl⟩
end
section
variable {P : Program} {ro : Option Nat} {H : aa} {N : Nat} {E : Env} {ds : List Deferred} {ops : Array Oper} {rest : List Oper} {d : Nat} {ty : TypeId} {pos : String} {after : Array Edge}
theorem CH {Q:Exit->ag->aa->Prop} {x:Operand} {t:TypeId} (hx:bj P N x=true):wpOps P ro ops (⟨some d,.range t x,ty,pos,after,none⟩::rest) (bA N E ds) H Q=pf P ro ops rest N E ds (some d) Q (qP P H t (cm E x)) :=
 uo rfl (by simp only[ck,Bo,aE hx,zA1,zA3])
theorem pQ {Q:Exit->ag->aa->Prop} {x:Operand} {s:Bool} (hx:bj P N x=true):wpOps P ro ops (⟨some d,.next x s,ty,pos,after,none⟩::rest) (bA N E ds) H Q=pf P ro ops rest N E ds (some d) Q (rY H (cm E x) s) :=
 uo rfl (by simp only[ck,Iz,aE hx,zA1,zA3])
def F0 (s:ByteArray) (p:Nat):dw:=⟨.stringIter s p,false,⟨[],0⟩⟩
theorem AT {t:TypeId} {s:ByteArray} (hu:P.underlying t=some .string):qP P H t (.string s)=some (.pointer (some ⟨H.next,0,none⟩),H.new (F0 s 0)):=by simp only[qP,hu,F0]
theorem DP {n p:Nat} {s:ByteArray} (h:H.get n=some (F0 s p)) (hp:p<s.size):rY H (.pointer (some ⟨n,0,none⟩)) true=some (.tuple #[.bool true,goInt p,.int .i32 (Utf8.decode s p).1],H.cE n (some (F0 s (p+(Utf8.decode s p).2)))):=by
 simp only[rY,h,F0]
 rw[if_pos hp]
theorem EJ {n p:Nat} {s:ByteArray} (h:H.get n=some (F0 s p)) (hp:¬p<s.size):rY H (.pointer (some ⟨n,0,none⟩)) true=some (.tuple #[.bool false],H):=by
 simp only[rY,h,F0]
 rw[if_neg hp]
theorem lz {n:Nat} {b:Bl} (h:bk H n=some b):∃ rv,bH H n=some (rv,b.e,b.o)/\rv.n=b.l.length:=by
 obtain⟨rv,h1,h2,h3⟩:=qY h
 exact⟨rv,h1,h2⟩
theorem Mx {st xt e:TypeId} {sz by1 m off k n off2 cnt cap:Nat} {sp s:Option Nat} {z:Value} {b bm:Bl} (hu:P.underlying st=some (.slice e)) (hsz:bh P e=some sz) (hby:bytesOf P e=some by1) (hz:zeroOf P e=some z) (hzl:z.cells.toList.length=sz) (hi:fj P xt=some false)
  (hm:bk H m=some bm) (he:bm.e=e) (ho:bm.o=true) (hle:off+k*sz<=bm.l.length) (hone:((bm.l.drop off).take (k*sz)).all one=true) (hsp:sp=none\/(∃ j,sp=some (j+1))/\k=0)
  (hb:rk H n=some b) (hle2:off2+cnt*sz<=b.l.length) (hone2:((b.l.drop off2).take (cnt*sz)).all one=true) (hc:0<cnt) (hsm:small (k+cnt) by1=true) :
  aD P H .append ⟨[st,xt]⟩ [.slice (some ⟨m,off,sp⟩) k k,.slice (some ⟨n,off2,s⟩) cnt cap]=(cF (H.cE m none) e ((bm.l.drop off).take (k*sz)++(b.l.drop off2).take (cnt*sz)) true).map fun g=>(.slice (some ⟨H.next,0,none⟩) (k+cnt) (k+cnt),g):=by
 have hl:((b.l.drop off2).take (cnt*sz)).length=cnt*sz:=by simp; omega
 have hl2:((bm.l.drop off).take (k*sz)).length=k*sz:=by simp; omega
 obtain⟨rv,hcm,hrn⟩:=lz hm
 have hop:=jt hm
 rw[ho]at hop
 have hf:=fI (sz:=sz) (cnt:=k) (off:=off) (len:=k) (cap:=k) (s:=sp) hm hle
 have hex:fC H ⟨m,off,sp⟩ k k=some false:=by
  rcases hsp with rfl|⟨⟨j,rfl⟩,rfl⟩
  ·simp only[fC,cY,hop,zA9,zE0]
  ·simp only[fC,hop]
   rfl
 simp only[aD,eP,hu,hsz,hby,hz,hi,zA1,zA3,iY,jH hb hle2,hl,hzl,hsm,and_self,if_true,cW]
 rw[if_neg (by omega)]
 simp only[hf,zA3,hl2,hone,hone2,decide_true,zE3,if_true,hex,hcm]
 rw[if_pos ⟨he,by rw[zE6,hrn]; omega⟩]
 cases cF (H.cE m none) e ((bm.l.drop off).take (k*sz)++(b.l.drop off2).take (cnt*sz)) true<;>rfl
theorem LX {st xt e:TypeId} {sz by1 n off cnt cap:Nat} {s:Option Nat} {z:Value} {b:Bl} (hu:P.underlying st=some (.slice e)) (hsz:bh P e=some sz) (hby:bytesOf P e=some by1) (hz:zeroOf P e=some z) (hzl:z.cells.toList.length=sz) (hi:fj P xt=some false)
  (hb:rk H n=some b) (hle:off+cnt*sz<=b.l.length) (hone:((b.l.drop off).take (cnt*sz)).all one=true) (hc:0<cnt) (hsm:small cnt by1=true) :
  aD P H .append ⟨[st,xt]⟩ [.slice none 0 0,.slice (some ⟨n,off,s⟩) cnt cap]=(cF H e ((b.l.drop off).take (cnt*sz)) true).map fun g=>(.slice (some ⟨H.next,0,none⟩) cnt cnt,g):=by
 have hl:((b.l.drop off).take (cnt*sz)).length=cnt*sz:=by simp; omega
 simp only[aD,eP,hu,hsz,hby,hz,hi,zA1,zA3,iY,jH hb hle,hl,hzl,zB8,hsm,and_self,if_true,cW]
 rw[if_neg (by omega)]
 simp only[cO,zA3,zB6,zF7,List.all_nil,hone,decide_true,zE3,if_true,zC1]
 cases cF H e ((b.l.drop off).take (cnt*sz)) true<;>rfl
def du (H:aa) (e:TypeId) (sz:Nat) (v:Value) (vs:List Value) (cnt:Nat):Prop :=
 vs.length=cnt*sz/\vs.all one=true/\((cnt=0/\v=.slice none 0 0)\/(0<cnt/\∃ n,v=.slice (some ⟨n,0,none⟩) cnt cnt/\bk H n=some ⟨e,true,vs⟩/\n<H.next))
theorem du.nil {e:TypeId} {sz:Nat}:du H e sz (.slice none 0 0) [] 0:=⟨by simp,rfl,.inl ⟨rfl,rfl⟩⟩
theorem du.of {G:aa} {e:TypeId} {sz cnt:Nat} {v:Value} {vs:List Value} (h:du H e sz v vs cnt) (hn:H.next<=G.next) (hg:∀ n∈ae v,G.get n=H.get n):du G e sz v vs cnt:=by
 obtain⟨h1,h2,⟨rfl,rfl⟩|⟨h0,n,rfl,hb,hlt⟩⟩:=h
 ·exact⟨h1,h2,.inl ⟨rfl,rfl⟩⟩
 ·exact⟨h1,h2,.inr ⟨h0,n,rfl,(bg (hg n (by simp[ae]))).trans hb,by omega⟩⟩
theorem du.ne {e:TypeId} {sz cnt:Nat} {v:Value} {vs:List Value} (h:du H e sz v vs cnt):∀ n∈ae v,H.get n≠none/\n<H.next:=by
 obtain⟨h1,h2,⟨rfl,rfl⟩|⟨h0,n,rfl,hb,hlt⟩⟩:=h<;>intro m hm<;>simp only[ae,zA5,zD2]at hm
 subst hm; exact⟨dT hb,hlt⟩
theorem du.sc {e:TypeId} {sz cnt:Nat} {v:Value} {vs:List Value} (h:du H e sz v vs cnt):aS H.next v=true:=by
 obtain⟨h1,h2,⟨rfl,rfl⟩|⟨h0,n,rfl,hb,hlt⟩⟩:=h
 ·rfl
 ·exact a8 hlt
theorem du.len {e:TypeId} {sz cnt:Nat} {v:Value} {vs:List Value} (h:du H e sz v vs cnt):∃ a,v=.slice a cnt cnt:=by
 obtain⟨h1,h2,⟨rfl,rfl⟩|⟨h0,n,rfl,hb,hlt⟩⟩:=h
 ·exact⟨_,rfl⟩
 ·exact⟨_,rfl⟩
theorem ta {st xt e:TypeId} {sz by1 n off cnt cnt2 cap x:Nat} {s:Option Nat} {z v:Value} {b:Bl} {vs ws:List Value} (hu:P.underlying st=some (.slice e)) (hsz:bh P e=some sz) (hby:bytesOf P e=some by1) (hz:zeroOf P e=some z) (hzl:z.cells.toList.length=sz) (hi:fj P xt=some false)
  (h:du H e sz v vs cnt) (hb:rk H n=some b) (hle:off+cnt2*sz<=b.l.length) (hws:(b.l.drop off).take (cnt2*sz)=ws) (hone:ws.all one=true) (hc:0<cnt2) (hsm:small (cnt+cnt2) by1=true) (hx:H.next=x) (hsc:aO H.next (vs++ws)=true) :
  ∃ G,aD P H .append ⟨[st,xt]⟩ [v,.slice (some ⟨n,off,s⟩) cnt2 cap]=some (.slice (some ⟨x,0,none⟩) (cnt+cnt2) (cnt+cnt2),G)/\du G e sz (.slice (some ⟨x,0,none⟩) (cnt+cnt2) (cnt+cnt2)) (vs++ws) (cnt+cnt2)/\(H.base<=H.next->Mod (ae v) H G)/\G.next=x+1/\(∀ m,m<x->m∉ae v->G.get m=H.get m):=by
 have hwl:ws.length=cnt2*sz:=by rw[<-hws]; simp; omega
 obtain⟨h1,h2,⟨rfl,rfl⟩|⟨h0,m,rfl,hm,hlt⟩⟩:=h
 ·have hv:vs=[]:=zE9 (by simpa using h1)
  subst hv
  rw[zC1]at hsc ⊢
  have happ:=LX (H:=H) (st:=st) (xt:=xt) (n:=n) (off:=off) (cnt:=cnt2) (cap:=cap) (s:=s) hu hsz hby hz hzl hi hb hle (by rw[hws]; exact hone) hc (by simpa using hsm)
  have hn:=eN (H:=H) (L:=[]) (e:=e) (l:=ws) (o:=true) (by simpa using hsc)
  rw[hws,show cF H e ws true=cF (ext H []) e ws true from rfl,hn,zA9,hx]at happ
  refine⟨ext H [⟨e,true,ws⟩],by rw[zB8]; exact happ,⟨by rw[hwl,zB8],hone,.inr ⟨by omega,x,rfl,?_,by rw[ai,hx]; simp⟩⟩,fun hok=>Mod.ext hok,by rw[ai,hx]; rfl,fun m hm _=>bK (by omega)⟩
  rw[show x=x+0 from rfl,bu hx (by simp)]; rfl
 ·have hdr:(vs.drop 0).take (cnt*sz)=vs:=by rw[zD1]; exact zD6 (by omega)
  have happ:=Mx (H:=H) (st:=st) (xt:=xt) (m:=m) (off:=0) (k:=cnt) (sp:=none) (n:=n) (off2:=off) (cnt:=cnt2) (cap:=cap) (s:=s) hu hsz hby hz hzl hi hm rfl rfl (by simp only; omega) (by simp only[hdr]; exact h2) (.inl rfl) hb hle (by rw[hws]; exact hone) hc hsm
  simp only[hdr,hws]at happ
  have hn:=eN (H:=dp H m) (L:=[]) (e:=e) (l:=vs++ws) (o:=true) (by rw[iO]; simpa using hsc)
  rw[show H.cE m none=ext (dp H m) [] from rfl,hn,zA9,hx]at happ
  have mD:Mod (ae (.slice (some ⟨m,0,none⟩) cnt cnt)) H (dp H m):=Mod.cE (by simp[ae])
  refine⟨ext (dp H m) [⟨e,true,vs++ws⟩],happ,⟨by rw[zB4,h1,hwl,Nat.add_mul],by rw[List.all_append,h2,hone]; rfl,.inr ⟨by omega,x,rfl,?_,by rw[ai,iO,hx]; simp⟩⟩,fun hok=>mD.trans (Mod.ext (mD.ok hok)),by rw[ai,iO,hx]; rfl,fun q hq hqn=>?_⟩
  ·rw[show x=x+0 from rfl,bu (show (dp H m).next=x from hx) (by simp)]; rfl
  ·rw[bK (by rw[iO]; omega),Py (by simpa[ae]using hqn)]
end
open Go.Proofs
section
variable {P : Program} {ρ : Ren} {H : aa} {w : World}
end
end Go.Ax
namespace Go.Proofs.YtpohjcacnkhnkaaGreatDoor
open Go.Ax
abbrev Pure (f:FuncId) (args:List Value) (H:aa) (v:Value):Prop:=br Tryz.prog f args H (.ok v) H
abbrev QW (n:Int):Int:=IntKind.i64.wrap n
theorem aQ {n:Int} (h1:-4000000000000<n) (h2:n<4000000000000):QW n=n:=by
 simp only[QW,IntKind.wrap,IntKind.signed,IntKind.bits]
 simp
 omega
theorem CV {k:Nat} (h:k<4000000):IntKind.i64.wrap ((k:Int)+1)=((k+1:Nat):Int):=by
 have:=aQ (n:=(k:Int)+1) (by omega) (by omega)
 rw[show IntKind.i64.wrap ((k:Int)+1)=_ from this]; omega
theorem bO {k:Nat} (h:k<1000000):IntKind.i64.wrap ((k:Int)+1)=((k+1:Nat):Int):=by
 have:=aQ (n:=(k:Int)+1) (by omega) (by omega)
 rw[show IntKind.i64.wrap ((k:Int)+1)=_ from this]; omega
end Go.Proofs.YtpohjcacnkhnkaaGreatDoor
