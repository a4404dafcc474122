/- Parts of the proof, one behind the other. -/
import Derived.Test.YtnigelgcjfhghaaGreatDoorM3
import Derived.Shelf.Spec.SlicesInsertGrow
import Derived.Test.YtnigelgcjfhghaaGreatDoorRows
import Derived.Shelf.Strings.Repeat
import Derived.ChangeArms
import Derived.Shelf.Strings.Search3
import Derived.Shelf.Small.Strs
import Derived.Shelf.Small.Wraps
import Derived.Shelf.Strconv.Itoa3
import Derived.Shelf.Strings.Count
import Derived.Sort.Grow
import Derived.Lib.ItoaLen
import Derived.ProofKit
import Derived.Carry
import Derived.OpenShut
import Derived.LaidMore
import Derived.Lay
set_option linter.all false
set_option maxRecDepth 10000
set_option maxHeartbeats 16000000
open And renaming intro → zA0
open Option renaming bind_eq_bind → zA1, bind_eq_some_iff → zA2, bind_some → zA3, map_some → zA5, map_eq_some_iff → zA6
open Bool renaming and_eq_true → zA4, false_eq_true → zB2
open List renaming mem_singleton → zA7, length_cons → zA9, getElem?_eq_getElem → zB0, mem_cons → zB1, length_append → zB3, mem_cons_of_mem → zB5, all_eq_true → zB6, mem_cons_self → zB7, map_cons → zB9, length_singleton → zC0, mem_append → zC2, getD_eq_getElem?_getD → zC3, length_nil → zC4, nil_append → zC5, flatMap_cons → zD4, append_nil → zD5, getElem?_cons_succ → zD6, getElem?_eq_none → zD7, take_of_length_le → zD8
open Nat renaming le_refl → zA8, zero_le → zB4, le_of_ble_eq_true → zB8, eq_of_beq_eq_true → zC6, lt_succ_self → zC7, zero_add → zC8, lt_or_ge → zC9, add_zero → zD0, le_trans → zD1, lt_of_lt_of_le → zD2, mul_one → zD3
open Int renaming toNat_natCast → zC1

namespace Go.Ax
def sameBy:List UInt8→List UInt8→Bool
 |[],[]=>true
 |a::r,b::q=>Nat.beq a.toNat b.toNat&&sameBy r q
 |_,_=>false
theorem sameBy_eq:∀ {u v:List UInt8},sameBy u v=true→u=v
 |[],[],_=>rfl
 |a::r,b::q,h=>by
  simp only[sameBy,zA4]at h
  rw[UInt8.toNat_inj.1 (zC6 h.1),sameBy_eq h.2]
 |[],_::_,h=>by cases h
 |_::_,[],h=>by cases h
def sameSp:Option Nat→Option Nat→Bool
 |none,none=>true
 |some a,some b=>Nat.beq a b
 |_,_=>false
theorem sameSp_eq:∀ {u v:Option Nat},sameSp u v=true→u=v
 |none,none,_=>rfl
 |some a,some b,h=>by rw[zC6 h]
 |none,some _,h=>by cases h
 |some _,none,h=>by cases h
def sameAd (a b:Addr):Bool:=Nat.beq a.block b.block&&Nat.beq a.off b.off&&sameSp a.spot b.spot
theorem sameAd_eq {a b:Addr} (h:sameAd a b=true):a=b:=by
 simp only[sameAd,zA4]at h
 obtain⟨x,y,z⟩:=a
 obtain⟨x',y',z'⟩:=b
 simp only at h
 rw[zC6 h.1.1,zC6 h.1.2,sameSp_eq h.2]
mutual
def sameX:Value→Value→Bool
 |.bool a,.bool b=>a == b
 |.int k a,.int l b=>decide (k=l)&&decide (a=b)
 |.string a,.string b=>sameBy a.data.toList b.data.toList
 |.pointer none,.pointer none=>true
 |.pointer (some a),.pointer (some b)=>sameAd a b
 |.slice none m n,.slice none p q=>Nat.beq m p&&Nat.beq n q
 |.slice (some a) m n,.slice (some b) p q=>sameAd a b&&Nat.beq m p&&Nat.beq n q
 |.agg a,.agg b=>sameXA a b
 |_,_=>false
def sameXA:Array Value→Array Value→Bool
 |⟨l⟩,⟨m⟩=>sameXL l m
def sameXL:List Value→List Value→Bool
 |[],[]=>true
 |a::r,b::q=>sameX a b&&sameXL r q
 |_,_=>false
end
mutual
theorem sameX_eq:∀ (u v:Value),sameX u v=true→u=v
 |.bool a,v,h=>by cases v<;>first|(simp[sameX]at h; done)|(rw[sameX,beq_iff_eq]at h; rw[h])
 |.int k a,v,h=>by cases v<;>first|(simp[sameX]at h; done)|(rw[sameX,zA4,decide_eq_true_eq,decide_eq_true_eq]at h; rw[h.1,h.2])
 |.string ⟨⟨a⟩⟩,v,h=>by
  cases v<;>first|(simp[sameX]at h; done)|skip
  rename_i b
  obtain⟨⟨b⟩⟩:=b
  rw[sameX]at h
  have h:sameBy a b=true:=h
  rw[sameBy_eq h]
 |.pointer none,v,h=>by cases v<;>first|(simp[sameX]at h; done)|(rename_i b; cases b<;>first|rfl|(simp[sameX]at h; done))
 |.pointer (some a),v,h=>by cases v<;>first|(simp[sameX]at h; done)|(rename_i b; cases b<;>first|(simp[sameX]at h; done)|(rw[sameX]at h; rw[sameAd_eq h]))
 |.slice none m n,v,h=>by cases v<;>first|(simp[sameX]at h; done)|(rename_i b _ _; cases b<;>first|(rw[sameX,zA4]at h; rw[zC6 h.1,zC6 h.2])|(simp[sameX]at h; done))
 |.slice (some a) m n,v,h=>by cases v<;>first|(simp[sameX]at h; done)|(rename_i b _ _; cases b<;>first|(rw[sameX,zA4,zA4]at h; rw[sameAd_eq h.1.1,zC6 h.1.2,zC6 h.2])|(simp[sameX]at h; done))
 |.agg a,.agg b,h=>by
  rw[sameX]at h
  rw[sameXA_eq a b h]
 |.agg a,.bool _,h=>by simp[sameX]at h
 |.agg a,.int _ _,h=>by simp[sameX]at h
 |.agg a,.string _,h=>by simp[sameX]at h
 |.agg a,.pointer _,h=>by simp[sameX]at h
 |.agg a,.slice _ _ _,h=>by simp[sameX]at h
 |.agg a,.float _ _,h=>by simp[sameX]at h
 |.agg a,.complex _ _ _,h=>by simp[sameX]at h
 |.agg a,.map _,h=>by simp[sameX]at h
 |.agg a,.chan _,h=>by simp[sameX]at h
 |.agg a,.func _ _ _,h=>by simp[sameX]at h
 |.agg a,.nilFunc,h=>by simp[sameX]at h
 |.agg a,.iface _ _,h=>by simp[sameX]at h
 |.agg a,.nilIface,h=>by simp[sameX]at h
 |.agg a,.tuple _,h=>by simp[sameX]at h
 |.float _ _,v,h=>by simp[sameX]at h
 |.complex _ _ _,v,h=>by simp[sameX]at h
 |.map _,v,h=>by simp[sameX]at h
 |.chan _,v,h=>by simp[sameX]at h
 |.func _ _ _,v,h=>by simp[sameX]at h
 |.nilFunc,v,h=>by simp[sameX]at h
 |.iface _ _,v,h=>by simp[sameX]at h
 |.nilIface,v,h=>by simp[sameX]at h
 |.tuple _,v,h=>by simp[sameX]at h
theorem sameXA_eq:∀ (u v:Array Value),sameXA u v=true→u=v
 |⟨l⟩,⟨m⟩,h=>by
  rw[sameXA]at h
  rw[sameXL_eq l m h]
theorem sameXL_eq:∀ (u v:List Value),sameXL u v=true→u=v
 |[],[],_=>rfl
 |a::r,b::q,h=>by
  simp only[sameXL,zA4]at h
  rw[sameX_eq a b h.1,sameXL_eq r q h.2]
 |[],_::_,h=>by simp[sameXL]at h
 |_::_,[],h=>by simp[sameXL]at h
end
structure Ent where
 f:FuncId
 args:List Value
 next:Nat
 blks:List (Nat × Bl)
def objIs (H:AHeap) (n:Nat) (o:Bool) (l:List Value):Option TypeId :=
 match H.get n with
 |some ⟨.cells _ e (0,_),o',rv⟩=>if (o == o')&&sameXL l (rv.gets 0 rv.n) then some e else none
 |_=>none
def blkIs (H:AHeap) (x:Nat × Bl):Bool :=
 match objIs H x.1 x.2.o x.2.l with
 |some e=>Nat.beq e x.2.e
 |none=>false
def entOk (T:List (Nat × List Value)) (e:Ent) (f:FuncId) (args:List Value) (H:AHeap):Bool :=
 Nat.beq e.f f&&sameXL e.args args&&Nat.beq e.next H.next&&e.blks.all (blkIs H)&&T.all fun x=>(objIs H x.1 false x.2).isSome
def layB (g:AHeap):List (Nat × Bl)→AHeap
 |[]=>g
 |x::r=>layB (g.put x.1 (some x.2.obj)) r
def entHeap (T:List (Nat × List Value)) (ee:Nat→TypeId) (e:Ent):AHeap :=
 layB (AHeap.none e.next) ((T.map fun x=>(x.1,⟨ee x.1,false,x.2⟩))++e.blks)
theorem layB_get:∀ (l:List (Nat × Bl)) (g:AHeap) (n:Nat) (o:AObj),(layB g l).get n=some o→g.get n=some o∨∃ x∈l,x.1=n∧o=x.2.obj
 |[],g,n,o,h=>.inl h
 |x::r,g,n,o,h=>by
  rcases layB_get r _ n o h with h|⟨y,hy,h1,h2⟩
  ·rw[AHeap.get_put]at h
   split at h
   ·rename_i e
    cases h
    exact .inr ⟨x,by simp,e.symm,rfl⟩
   ·exact .inl h
  ·exact .inr ⟨y,by simp[hy],h1,h2⟩
theorem layB_next:∀ (l:List (Nat × Bl)) (g:AHeap),(layB g l).next=g.next∧(layB g l).base=g.base∧(layB g l).dirty=g.dirty
 |[],_=>⟨rfl,rfl,rfl⟩
 |x::r,g=>layB_next r (g.put x.1 (some x.2.obj))
def SameO (a b:AObj):Prop:=∃ c e z c' z',a.obj=.cells c e (0,z)∧b.obj=.cells c' e (0,z')∧a.opn=b.opn∧a.rv.n=b.rv.n∧∀ i,i<b.rv.n→a.rv.get i=b.rv.get i
theorem objIs_same {H:AHeap} {n:Nat} {o:Bool} {l:List Value} {e:TypeId} (h:objIs H n o l=some e):∃ a,H.get n=some a∧SameO a (Bl.obj ⟨e,o,l⟩):=by
 unfold objIs at h
 split at h
 ·rename_i c t z o' rv hg
  split at h
  ·rename_i hc
   simp only[zA4,beq_iff_eq]at hc
   obtain⟨rfl,hl⟩:=hc
   simp only[Option.some.injEq]at h
   subst h
   have hl:=sameXL_eq _ _ hl
   refine⟨_,hg,c,t,z,#[],0,rfl,rfl,rfl,?_,fun i hi=>?_⟩
   ·simp only[Bl.obj,RV.n_ofList,hl,RV.length_gets]
   ·simp only[Bl.obj,RV.n_ofList]at hi
    simp only[Bl.obj,RV.get_ofList]
    have hi':i<rv.n:=by rw[hl,RV.length_gets]at hi; exact hi
    rw[hl,RV.gets_getD _ _ _ _ hi',zC8]
  ·cases h
 ·cases h
theorem SameO.sco {N:Nat} {a b:AObj} (h:SameO a b) (hs:sco N a):sco N b:=by
 obtain⟨c,e,z,c',z',h1,h2,h3,h4,h5⟩:=h
 unfold Go.Ax.sco at hs ⊢
 rw[h1]at hs
 rw[h2]
 intro i hi
 rw[←h5 i hi]
 exact hs i (by omega)
theorem SameO.fits {P:Program} {ρ:Ren} {n:Nat} {a b:AObj} {o':Obj} (h:SameO a b) (hs:Fits P ρ n a o'):Fits P ρ n b o':=by
 obtain⟨c,e,z,c',z',h1,h2,h3,h4,h5⟩:=h
 unfold Fits at hs ⊢
 rw[h1]at hs
 rw[h2]
 obtain⟨d,fz,hd,hv,ha,hb⟩:=hs
 refine⟨d,fz,hd,fun i hi=>?_,?_,?_⟩
 ·rw[←h5 i hi]; exact hv i (by omega)
 ·rw[←h3,←h4]; exact ha
 ·rw[←h3,←h4]; exact hb
theorem SameO.nz {a b:AObj} (h:SameO a b):¬Fz (some a):=by
 obtain⟨c,e,z,c',z',h1,h2,h3,h4,h5⟩:=h
 rintro⟨o,ho,hf⟩
 cases ho
 obtain⟨x,y,q⟩:=a
 simp only at h1
 subst h1
 cases y<;>simp[frz]at hf
theorem sub_rel {P:Program} {ρ:Ren} {H G:AHeap} {w:World} (r:Rel P ρ H w) (hn:G.next=H.next) (hb:G.base=G.next) (hg:∀ n o,G.get n=some o→∃ a,H.get n=some a∧SameO a o):Rel P ρ G w:=by
 refine⟨Nat.le_of_eq hb,by rw[hn]; exact r.glob,fun m n h1 h2 he=>?_,fun n o ho=>?_,fun n o ho=>?_⟩
 ·obtain⟨x,hx⟩:=Option.ne_none_iff_exists'.1 h1
  obtain⟨y,hy⟩:=Option.ne_none_iff_exists'.1 h2
  obtain⟨a,ha,hs⟩:=hg m x hx
  obtain⟨b,hb,ht⟩:=hg n y hy
  rcases r.inj m n (ne_none ha) (ne_none hb) he with h|⟨h,_⟩
  ·exact .inl h
  ·rw[ha]at h
   exact absurd h hs.nz
 ·obtain⟨a,ha,hs⟩:=hg n o ho
  rw[hn]
  exact⟨(r.dom n a ha).1,hs.sco (r.dom n a ha).2⟩
 ·obtain⟨a,ha,hs⟩:=hg n o ho
  obtain⟨o',h1,h2⟩:=r.obj n a ha
  exact⟨o',h1,hs.fits h2⟩
abbrev KX:=FuncId→List Value→AHeap→Option (Value × AHeap)
def orX (K L:KX):KX:=fun f args H=>match K f args H with
 |some r=>some r
 |none=>L f args H
section
variable {P : Program}
theorem known_orX {K L:KX} (hK:KnownX P K) (hL:KnownX P L):KnownX P (orX K L):=by
 intro f args v H H1 h
 unfold orX at h
 split at h
 ·rename_i r hr
  cases h
  exact hK _ _ _ _ _ hr
 ·exact hL _ _ _ _ _ h
theorem callX_in (hmix:P.follows .mixedOrders=true) {K:KX} (hK:KnownX P K) {fuel:Nat} {f:FuncId} {args:List Value} {v:Value} {H H1:AHeap} {ρ:Ren} {w:World} (r:Rel P ρ H w)
  (h:callX P K fuel f args H=some (.ok v,H1)) (hsc:scbL H.next args=true) {F:Fence} {n:Nat} (hF:WideF F):CallsIn F n P f (args.map ρ.val).toArray w (fun e w'=>∃ ρ1,e=.returned (ρ1.val v)∧St P ρ H w ρ1 H1 w') :=
 enterF_run (execX_sound hmix hK fuel).1 r h hsc hF (fun ρ1 w1 s _=>⟨ρ1,rfl,s⟩)
def ansTX (P:Program) (K:KX) (fuel:Nat) (f:FuncId) (args:List Value) (v:Value) (T:List (Nat × TypeId × List Value)):Bool :=
 match callX P K fuel f args (tabsH P.globals.size T) with
 |some (.ok u,H1)=>sameW u v&&H1.dirty.isEmpty
 |_=>false
theorem ansTX_in {w:World} (hmix:P.follows .mixedOrders=true) {L:KX} (hK:KnownX P L) {fuel:Nat} {f:FuncId} {args:List Value} {v:Value} {T:List (Nat × TypeId × List Value)} (ha:args.all af=true) (h:ansTX P L fuel f args v T=true)
  (hT:∀ x∈T,x.1<P.globals.size∧afL x.2.2=true∧∃ c,w.heap[x.1]?=some (.cells c x.2.1 (0,0))∧c.toList=x.2.2) (F:Fence) (n:Nat) (hF:WideF F) :
  CallsIn F n P f args.toArray w (fun e w'=>e=.returned v∧RowKit.Below w.heap.size w w')∧af v=true:=by
 unfold ansTX at h
 split at h
 ·rename_i u H1 hc
  simp only[zA4]at h
  obtain⟨h,hd⟩:=h
  obtain⟨rfl,hv⟩:=sameW_eq h
  refine⟨?_,hv⟩
  have:=callX_in hmix hK (rel_tabs T hT) hc (scbL_of_af _ (afL_of fun x hx=>zB6.1 ha x hx)) (F:=F) (n:=n) hF
  rw[map_af _ args (fun x hx=>zB6.1 ha x hx)]at this
  refine this.mono ?_
  rintro e w' ⟨ρ1,rfl,s⟩
  refine⟨by rw[val_af ρ1 _ hv],s.os,s.tape,s.output,s.size,fun b hb=>s.old b hb fun n hn hor _=>?_⟩
  obtain⟨t1,t2,_⟩:=tabsH_next P.globals.size T
  rcases hor with h|h
  ·omega
  ·rw[List.isEmpty_iff.1 hd]at h
   cases h
 ·cases h
theorem callS_tabX (hmix:P.follows .mixedOrders=true) {L:KX} (hK:KnownX P L) {fuel:Nat} {f:FuncId} {args:List Value} {v:Value} {T:List (Nat × TypeId × List Value)} {H:AHeap} (ha:args.all af=true) (h:ansTX P L fuel f args v T=true)
  (hT:∀ x∈T,x.1<P.globals.size∧afL x.2.2=true∧bk H x.1=some ⟨x.2.1,false,x.2.2⟩):CallS P f args H (.ok v) H:=by
 intro ρ w r hsc F n R hF hR
 rw[map_af ρ args (fun x hx=>zB6.1 ha x hx)]
 obtain⟨h1,hv⟩:=ansTX_in (w:=w) hmix hK ha h (fun x hx=>⟨(hT x hx).1,(hT x hx).2.1,tab_world r (hT x hx).1 (hT x hx).2.2 (hT x hx).2.1⟩) F n hF
 refine h1.mono ?_
 rintro e w' ⟨rfl,hb⟩
 have:=hR ρ w' (St.below r hb) (scb_of_af _ hv)
 rwa [val_af ρ _ hv]at this
def lookX (T:List (Nat × List Value)) (K:KX):List Ent→KX
 |[],f,args,H=>K f args H
 |e::r,f,args,H=>if entOk T e f args H then some (.bool true,H) else lookX T K r f args H
def entRunX (P:Program) (K:KX) (fuel:Nat) (T:List (Nat × List Value)) (ee:Nat→TypeId) (e:Ent):Bool :=
 match callX P K fuel e.f e.args (entHeap T ee e) with
 |some (.ok (.bool true),H1)=>H1.dirty.isEmpty
 |_=>false
theorem known_heapX (hmix:P.follows .mixedOrders=true) {T:List (Nat × List Value)} {K:KX} {l:List Ent} (hK:KnownX P (lookX T K l)) (fuel:Nat) {e:Ent} (h:∀ ee,entRunX P (lookX T K l) fuel T ee e=true):KnownX P (lookX T K (e::l)):=by
 intro g bs u H H1' hu
 unfold lookX at hu
 split at hu
 ·rename_i hc
  simp only[Option.some.injEq,Prod.mk.injEq]at hu
  obtain⟨rfl,rfl⟩:=hu
  intro ρ w r hsc F n R hF hR
  simp only[entOk,zA4,zB6]at hc
  obtain⟨⟨⟨⟨c1,c2⟩,c3⟩,c4⟩,c5⟩:=hc
  have c1:=zC6 c1
  have c2:=sameXL_eq _ _ c2
  have c3:=zC6 c3
  subst c1 c2
  obtain⟨ee,hee⟩:∃ ee:Nat→TypeId,∀ x∈T,objIs H x.1 false x.2=some (ee x.1):=by
   refine⟨fun n=>match H.get n with
    |some ⟨.cells _ t _,_,_⟩=>t
    |_=>0,fun x hx=>?_⟩
   have:=c5 x hx
   unfold objIs at this ⊢
   split at this
   ·rename_i c t z o' rv hg
    simp only[hg]
    split at this
    ·rename_i hh; rw[if_pos hh]
    ·simp at this
   ·simp at this
  have hrun:=h ee
  obtain⟨n1,n2,n3⟩:=layB_next ((T.map fun x=>(x.1,(⟨ee x.1,false,x.2⟩:Bl)))++e.blks) (AHeap.none e.next)
  have hr:Rel P ρ (entHeap T ee e) w:=by
   refine sub_rel r (by unfold entHeap; rw[n1]; exact c3) (by unfold entHeap; rw[n1,n2]; rfl) fun n o ho=>?_
   rcases layB_get _ _ n o ho with ho|⟨x,hx,rfl,rfl⟩
   ·rw[none_get]at ho; cases ho
   ·rcases zC2.1 hx with hx|hx
    ·obtain⟨y,hy,rfl⟩:=List.mem_map.1 hx
     exact objIs_same (hee y hy)
    ·have:=c4 x hx
     unfold blkIs at this
     split at this
     ·rename_i t ht
      have:=zC6 this
      subst this
      exact objIs_same ht
     ·cases this
  unfold entRunX at hrun
  split at hrun
  ·rename_i H1 hcl
   refine (callX_in hmix hK hr hcl (by unfold entHeap; rw[n1]; rw[show (AHeap.none e.next).next=e.next from rfl,c3]; exact hsc) hF).mono ?_
   rintro e' w' ⟨ρ1,rfl,s⟩
   have hb:RowKit.Below w.heap.size w w':=by
    refine⟨s.os,s.tape,s.output,s.size,fun b hb=>s.old b hb fun n hn hor _=>?_⟩
    rw[List.isEmpty_iff.1 hrun]at hor
    unfold entHeap at hn hor
    rw[n1]at hn
    rw[n2]at hor
    rcases hor with h|h
    ·exact absurd hn (Nat.not_lt.2 h)
    ·cases h
   have:=hR ρ w' (St.below r hb) rfl
   simpa[Ren.val]using this
  ·cases hrun
 ·exact hK _ _ _ _ _ hu
def lookP (K:KX):List (FuncId × List Value × Value)→KX
 |[],f,args,H=>K f args H
 |(g,xs,v)::r,f,args,H=>if Nat.beq g f&&sameXL xs args then some (v,H) else lookP K r f args H
theorem known_nilP {K:KX} (hK:KnownX P K):KnownX P (lookP K []):=fun f args v H H1 h=>hK f args v H H1 h
theorem known_baseX {T:List (Nat × List Value)} {K:KX} (hK:KnownX P K):KnownX P (lookX T K []):=fun f args v H H1 h=>hK f args v H H1 h
end
section
variable {P : Program} {ro : Option Nat} {H : AHeap} {N : Nat} {E : Env} {ds : List Deferred} {ops : Array Oper} {rest : List Oper} {d : Nat} {ty : TypeId} {pos : String} {after : Array Edge} {Q : Exit → AAct → AHeap → Prop}
theorem w_plain {op:BinOp} {t u:TypeId} {x y:Operand} {p q v:Value} (hx:opOk P N x=true) (hy:opOk P N y=true) (hp:opv E x=p) (hq:opv E y=q) (hd:d<N) (h0:aBin P H op t p q=none) (h1:af p=true) (h2:af q=true) (h:peval P (do eqGuard op t x y p q; binOp op t p q)=some v) (h3:af v=true) :
  wpOps P ro ops (⟨some d,.binOp op t x y u,ty,pos,after,none⟩::rest) (mkA N E ds) H Q=wpOps P ro ops rest (mkA N (upd E d v) ds) H Q :=
 (w_rv (x:=some v) rfl (by simp only[aop,xBin,aeval_opv hx,aeval_opv hy,hp,hq,zA1,zA3,binV,h0,h1,h2,aPlain,h,h3,Bool.and_self,if_true,zA5]; rfl) hd).trans valC_some
def bAnd (k:IntKind) (x y:Int):Int:=k.wrap ((BitVec.ofInt k.bits x &&& BitVec.ofInt k.bits y).toNat:Int)
def bOr (k:IntKind) (x y:Int):Int:=k.wrap ((BitVec.ofInt k.bits x ||| BitVec.ofInt k.bits y).toNat:Int)
def bNot (k:IntKind) (x y:Int):Int:=k.wrap ((BitVec.ofInt k.bits x &&& ~~~BitVec.ofInt k.bits y).toNat:Int)
def bShl (k:IntKind) (x:Int) (n:Nat):Int:=k.wrap (x*2 ^ (min n k.bits))
def bShr (k:IntKind) (x:Int) (n:Nat):Int:=x.fdiv (2 ^ (min n k.bits))
def bitV (op:BinOp):Value→Value→Option Value
 |.int k a,.int k' b=>(match op with
  |.and=>if k=k' then some (.int k (bAnd k a b)) else none
  |.or=>if k=k' then some (.int k (bOr k a b)) else none
  |.andNot=>if k=k' then some (.int k (bNot k a b)) else none
  |.shl=>if 0≤b then some (.int k (bShl k a b.toNat)) else none
  |.shr=>if 0≤b then some (.int k (bShr k a b.toNat)) else none
  |_=>none)
 |.string a,.string b=>(match op with
  |.eql=>some (.bool (a.toList == b.toList))
  |_=>none)
 |_,_=>none
theorem w_bits {op:BinOp} {t u:TypeId} {x y:Operand} {p q v:Value} (hx:opOk P N x=true) (hy:opOk P N y=true) (hp:opv E x=p) (hq:opv E y=q) (hd:d<N) (h:bitV op p q=some v) (h0:aBin P H op t p q=none) :
  wpOps P ro ops (⟨some d,.binOp op t x y u,ty,pos,after,none⟩::rest) (mkA N E ds) H Q=wpOps P ro ops rest (mkA N (upd E d v) ds) H Q:=by
 unfold bitV at h
 split at h
 ·rename_i k a k' b
  split at h<;>try split at h
  ·rename_i hk
   subst hk
   simp only[Option.some.injEq]at h
   subst h
   exact w_plain hx hy hp hq hd h0 rfl rfl (by simp[eqGuard,binOp,peval,Op.intBits,bAnd,pure,bind,Sem.bind]) rfl
  ·cases h
  ·rename_i hk
   subst hk
   simp only[Option.some.injEq]at h
   subst h
   exact w_plain hx hy hp hq hd h0 rfl rfl (by simp[eqGuard,binOp,peval,Op.intBits,bOr,pure,bind,Sem.bind]) rfl
  ·cases h
  ·rename_i hk
   subst hk
   simp only[Option.some.injEq]at h
   subst h
   exact w_plain hx hy hp hq hd h0 rfl rfl (by simp[eqGuard,binOp,peval,Op.intBits,bNot,pure,bind,Sem.bind]) rfl
  ·cases h
  ·rename_i hb
   simp only[Option.some.injEq]at h
   subst h
   exact w_plain hx hy hp hq hd h0 rfl rfl (by simp[eqGuard,binOp,peval,Op.shift,bShl,pure,bind,Sem.bind,show ¬b<0 by omega]) rfl
  ·cases h
  ·rename_i hb
   simp only[Option.some.injEq]at h
   subst h
   exact w_plain hx hy hp hq hd h0 rfl rfl (by simp[eqGuard,binOp,peval,Op.shift,bShr,pure,bind,Sem.bind,show ¬b<0 by omega]) rfl
  ·cases h
  all_goals cases h
 ·rename_i a b
  split at h
  ·simp only[Option.some.injEq]at h
   subst h
   exact w_plain hx hy hp hq hd h0 rfl rfl (by simp[eqGuard,binOp,peval,Op.stringOp,pure,bind,Sem.bind]) rfl
  ·cases h
 ·cases h
theorem bin_nobit {op:BinOp} {t:TypeId} {p q v:Value} (hop:op=.and∨op=.or∨op=.andNot∨op=.shl∨op=.shr) (h:bitV op p q=some v):aBin P H op t p q=none:=by
 unfold bitV at h
 split at h
 ·rename_i k a k' b
  simp only[aBin]
  split
  ·rcases hop with rfl|rfl|rfl|rfl|rfl<;>rfl
  ·rfl
 ·rcases hop with rfl|rfl|rfl|rfl|rfl<;>cases h
 ·cases h
theorem w_bit {op:BinOp} {t u:TypeId} {x y:Operand} (hop:op=.and∨op=.or∨op=.andNot∨op=.shl∨op=.shr) (hx:opOk P N x=true) (hy:opOk P N y=true) (hd:d<N) (h:(bitV op (opv E x) (opv E y)).isSome=true) :
  wpOps P ro ops (⟨some d,.binOp op t x y u,ty,pos,after,none⟩::rest) (mkA N E ds) H Q=valC P ro ops rest N E ds d H Q (bitV op (opv E x) (opv E y)):=by
 cases hv:bitV op (opv E x) (opv E y) with
 |none=>rw[hv]at h; cases h
 |some v=>exact (w_bits hx hy rfl rfl hd hv (bin_nobit hop hv)).trans valC_some.symm
theorem w_shr {t u:TypeId} {x y:Operand} (hx:opOk P N x=true) (hy:opOk P N y=true) (hd:d<N) (h:(bitV .shr (opv E x) (opv E y)).isSome=true):wpOps P ro ops (⟨some d,.binOp .shr t x y u,ty,pos,after,none⟩::rest) (mkA N E ds) H Q=valC P ro ops rest N E ds d H Q (bitV .shr (opv E x) (opv E y)):=w_bit (by simp) hx hy hd h
theorem bit_shr {k k':IntKind} {a b:Int} (h:0≤b):bitV .shr (.int k a) (.int k' b)=some (.int k (bShr k a b.toNat)):=by simp only[bitV,h,if_true]
theorem w_eqStr {t u:TypeId} {x y:Operand} {a b:ByteArray} (hx:opOk P N x=true) (hy:opOk P N y=true) (hp:opv E x=.string a) (hq:opv E y=.string b) (hd:d<N) (h0:aBin P H .eql t (.string a) (.string b)=none):wpOps P ro ops (⟨some d,.binOp .eql t x y u,ty,pos,after,none⟩::rest) (mkA N E ds) H Q=wpOps P ro ops rest (mkA N (upd E d (.bool (a.toList == b.toList))) ds) H Q :=
 w_bits hx hy hp hq hd rfl h0
end
open Go.Proofs
section
variable {P : Program} {ρ : Ren} {H : AHeap} {w : World}
theorem setCells_heap (b:Nat) {e:TypeId} {fz:Nat × Nat}:∀ (vs:List Value) (o:Nat) (w:World) (c:Array Value),w.heap[b]?=some (.cells c e fz) →
  (w.setCells b o vs).heap[b]?=some (.cells (wrA c o vs) e fz)∧(w.setCells b o vs).heap.size=w.heap.size∧(∀ b',b'≠b→(w.setCells b o vs).heap[b']?=w.heap[b']?)∧(w.setCells b o vs).os=w.os∧(w.setCells b o vs).tape=w.tape∧(w.setCells b o vs).output=w.output
 |[],o,w,c,h=>⟨h,rfl,fun _ _=>rfl,rfl,rfl,rfl⟩
 |v::r,o,w,c,h=>by
  have h1:(w.setCell ⟨b,o,none⟩ v).heap[b]?=some (.cells (c.setIfInBounds o v) e fz):=by
   unfold World.setCell
   simp[Array.getElem?_modify,h]
  have h2:(w.setCell ⟨b,o,none⟩ v).heap.size=w.heap.size:=by
   unfold World.setCell
   simp
  have h3:∀ b',b'≠b→(w.setCell ⟨b,o,none⟩ v).heap[b']?=w.heap[b']?:=fun b' hb=>by
   unfold World.setCell
   simp only[Array.getElem?_modify]
   rw[if_neg (fun e=>hb e.symm)]
  obtain⟨k1,k2,k3,k4,k5,k6⟩:=setCells_heap b r (o+1) _ _ h1
  exact⟨k1,k2.trans h2,fun b' hb=>(k3 b' hb).trans (h3 b' hb),k4,k5,k6⟩
def isI64:Value→Bool
 |.int .i64 _=>true
 |_=>false
theorem isI64_of {v:Value} (h:isI64 v=true):∃ n,v=.int .i64 n:=by
 cases v<;>try cases h
 rename_i k n
 cases k<;>first|exact⟨n,rfl⟩|cases h
def insK (F:FuncId) (ti:TypeId) (f:FuncId) (args:List Value) (H:AHeap):Option (Value × AHeap) :=
 match args with
 |[.slice (some ⟨a,off,none⟩) n cap,.int .i64 i,.slice (some ⟨vb,voff,some 0⟩) 1 1] =>
  if Nat.beq f F&&decide (0≤i)&&Nat.blt i.toNat n&&Nat.ble cap 1000000 then
   match cellsAt H a,H.get vb with
   |some (v,e,true),some ⟨.cells _ _ _,false,u⟩ =>
    if Nat.beq e ti&&Nat.ble n cap&&Nat.ble (off+cap) v.n&&Nat.blt voff u.n&&!(Nat.beq a vb)&&(v.gets off n).all isI64&&isI64 (u.get voff) then
     some (.slice (some ⟨H.next,0,none⟩) (n+1) (n+1),(H.upd a none).new ⟨.cells #[] e,true,RV.ofList ((v.gets off n).take i.toNat++(u.get voff::(v.gets off n).drop i.toNat))⟩)
    else none
   |_,_=>none
  else none
 |_=>none
theorem ins_get {l:List Value} {x:Value} {i n:Nat} (hl:l.length=n) (hi:i<n) (j:Nat):(l.take i++(x::l.drop i))[j]?=if j<i then l[j]? else if j=i then some x else l[j-1]?:=by
 by_cases h1:j<i
 ·rw[if_pos h1,List.getElem?_append_left (by rw[List.length_take]; omega),List.getElem?_take,if_pos h1]
 ·rw[if_neg h1,List.getElem?_append_right (by rw[List.length_take]; omega),List.length_take,Nat.min_eq_left (by omega)]
  by_cases h2:j=i
  ·rw[if_pos h2,h2,Nat.sub_self]; rfl
  ·rw[if_neg h2]
   obtain⟨k,rfl⟩:∃ k,j=i+1+k:=⟨j-i-1,by omega⟩
   rw[show i+1+k-i=k+1 by omega,zD6,List.getElem?_drop]
   congr 1
   omega
theorem wrA_ins {c:Array Value} {O n i:Nat} {l:List Value} {x:Value} (hl:l.length=n) (hi:i<n) (hc:∀ j,j<n→c[O+j]?=l[j]?) (hs:O+n+1≤c.size) :
  ∀ j,j<n+1→(wrA (wrA c (O+(i+1)) (l.drop i)) (O+i) [x])[O+j]?=(l.take i++(x::l.drop i))[j]?:=by
 intro j hj
 have hd:(l.drop i).length=n-i:=by rw[List.length_drop,hl]
 rw[ins_get hl hi,wrA_get _ _ _ _ (by rw[wrA_size]; simp only[zC0]; omega)]
 by_cases h1:j<i
 ·rw[if_neg (by simp only[zC0]; omega),if_pos h1,wrA_get _ _ _ _ (by omega),if_neg (by omega)]
  exact hc j (by omega)
 ·by_cases h2:j=i
  ·subst h2
   rw[if_pos (by simp only[zC0]; omega),if_neg h1,if_pos rfl,Nat.sub_self]
   rfl
  ·rw[if_neg (by simp only[zC0]; omega),if_neg h1,if_neg h2,wrA_get _ _ _ _ (by omega),if_pos (by omega),List.getElem?_drop]
   congr 1
   omega
theorem ins_known {rho:Go.Shelf.Ren} (L:Lays2.n21 P rho) {e3:TypeId} (h3:rho.t 3=e3):KnownX P (insK (rho.f 21) e3):=by
 intro f args v0 H H1 h ρ w r hsc F m R hF hR
 unfold insK at h
 split at h
 ·rename_i a off n cap i vb voff
  split at h
  ·rename_i hcond
   simp only[zA4,decide_eq_true_eq]at hcond
   obtain⟨⟨⟨hf,h0⟩,hin⟩,hn⟩:=hcond
   have hf:=zC6 hf
   subst hf
   have hin:=blt_lt hin
   have hn9:=ble_le hn
   obtain⟨i,rfl⟩:∃ k:Nat,i=k:=⟨i.toNat,by omega⟩
   rw[zC1]at hin h
   split at h
   ·rename_i v e z1 z2 z3 u hca hgv
    split at h
    ·rename_i hc2
     simp only[zA4,Bool.not_eq_true']at hc2
     obtain⟨⟨⟨⟨⟨⟨he,hnc⟩,hcap⟩,hvo⟩,hab⟩,hall⟩,hx⟩:=hc2
     have he:=zC6 he
     subst he
     have hnc:=ble_le hnc
     have hcap:=ble_le hcap
     have hvo:=blt_lt hvo
     have hab:a≠vb:=fun e=>by subst e; simp at hab
     obtain⟨x,hx⟩:=isI64_of hx
     simp only[Option.some.injEq,Prod.mk.injEq]at h
     obtain⟨rfl,rfl⟩:=h
     obtain⟨c,fz,hC⟩:=r.cells hca
     obtain⟨hsize,hfz⟩:=hC.open_ rfl
     obtain⟨cc,ff,hg0⟩:=cellsAt_get hca
     obtain⟨ov,hwv,hfit⟩:=r.obj _ _ hgv
     simp only[Fits]at hfit
     obtain⟨c2,fz2,rfl,hcs2,hsh2,_⟩:=hfit
     obtain⟨k1,k2,k3,rfl⟩:=hsh2 trivial
     have hnz:¬Fz (H.get a):=cellsAt_nz hca
     have hne:ρ.blk vb≠ρ.blk a:=fun e=>by
      rcases r.inj vb a (ne_none hgv) (ne_none hg0) e with h|h
      ·exact hab h.symm
      ·exact hnz h.2
     have h31:P.cellsOf e=1:=by
      obtain⟨i0,hi0,hz0,hzs,hzb⟩:=info_parts L.i3
      rw[h3]at hi0
      exact cellsOf_szOf (by simp[szOf,hi0,hzs])
     rw[h31,zD3]at hsize hfz
     obtain⟨l,hl⟩:∃ l,l=v.gets off n:=⟨_,rfl⟩
     rw[←hl]at hall hR
     have hll:l.length=n:=by rw[hl]; simp
     have hlj:∀ j,j<n→l[j]?=some (v.get (off+j)):=fun j hj=>by
      rw[hl,RV.gets_eq]; simp[hj]
     have haf:∀ j,j<n→∃ k,v.get (off+j)=.int .i64 k:=fun j hj=>isI64_of (zB6.1 hall _ (List.mem_of_getElem? (hlj j hj)))
     have hcl:∀ j,j<n→c[off+ρ.sh a+j]?=l[j]?:=fun j hj=>by
      have:=hC.cell (off+j) (by omega)
      obtain⟨k,hk⟩:=haf j hj
      rw[hlj j hj,show off+ρ.sh a+j=off+j+ρ.sh a by omega,this,hk,Ren.val]
     have hvv:c2[voff]?=some (.int .i64 x):=by
      have:=hcs2 voff hvo
      rw[k2,hx,Ren.val]at this
      exact this
     have hA:[Value.slice (some ⟨a,off,none⟩) n cap,.int .i64 (i:Int),.slice (some ⟨vb,voff,some 0⟩) 1 1].map ρ.val=[.slice (some ⟨ρ.blk a,off+ρ.sh a,none⟩) n (cap+ρ.ex a),.int .i64 (i:Int),.slice (some ⟨ρ.blk vb,voff,none⟩) 1 1]:=by
      simp[Ren.val,k2]
     have hins:∀ j,j<n+1→∃ k,(l.take i++(u.get voff::l.drop i))[j]?=some (.int .i64 k):=fun j hj=>by
      rw[ins_get hll hin]
      split
      ·obtain⟨k,hk⟩:=haf j (by omega)
       exact⟨k,by rw[hlj j (by omega),hk]⟩
      ·split
       ·exact⟨x,by rw[hx]⟩
       ·obtain⟨k,hk⟩:=haf (j-1) (by omega)
        exact⟨k,by rw[hlj (j-1) (by omega),hk]⟩
     have hlen:(l.take i++(u.get voff::l.drop i)).length=n+1:=by
      rw[zB3,zA9,List.length_take,List.length_drop]; omega
     have hone:∀ y∈l,y.oneCell'=true:=fun y hy=>by
      obtain⟨k,rfl⟩:=isI64_of (zB6.1 hall y hy); rfl
     have hcellA:∀ j y,l[j]?=some y→w.cell? ⟨ρ.blk a,off+ρ.sh a+j,none⟩=some y:=fun j y hy=>by
      have hj:j<n:=by have:=(List.getElem?_eq_some_iff.1 hy).1; omega
      simp only[World.cell?,hC.at_]
      rw[←hy]; exact hcl j hj
     have hcellV:∀ j y,[Value.int .i64 x][j]?=some y→w.cell? ⟨ρ.blk vb,voff+j,none⟩=some y:=fun j y hy=>by
      cases j with
      |zero=>simp only[World.cell?,hwv]; rw[zD0]; simpa[←hy]using hvv
      |succ j=>simp at hy
     have hoS:sco H.next ⟨.cells #[] e,true,RV.ofList (l.take i++(u.get voff::l.drop i))⟩:=by
      simp only[sco,RV.n_ofList,RV.get_ofList]
      intro j hj
      rw[hlen]at hj
      obtain⟨k,hk⟩:=hins j hj
      simp[zC3,hk,scb]
     rw[hA]
     by_cases hroom:n+1≤cap+ρ.ex a
     ·have hc63:cap+ρ.ex a≤9223372036854775807:=by
       by_cases h0:ρ.ex a=0
       ·omega
       ·have:=hC.room rfl h0
        rw[h31]at this
        omega
      have hc:=Any2.slices_Insert_int_shift L (ρ.blk a) (off+ρ.sh a) n (cap+ρ.ex a) i (ρ.blk vb) voff 1 1 l [.int .i64 x] w hin (by omega) hroom hc63 hne hll rfl hcellA
       (fun j hj=>by simp only[World.cell?,hC.at_]; simp; omega)
       (fun j hj=>by
        have:=hfz (off+ρ.sh a+j) (by omega) (by omega)
        simp only[World.frozen?,hC.at_]
        simp only[Bool.and_eq_false_imp,decide_eq_true_eq,decide_eq_false_iff_not]
        intro h1 h2; exact this ⟨h1,h2⟩)
       hcellV hone (by simp[Value.oneCell']) z2 e c2.size c.size (by simp only[World.shape?,hwv]) (by simp only[World.shape?,hC.at_]) (by omega) (by simp[World.frozen?,hwv]) (by simp[World.frozen?,hwv])
      refine (hF.calls hc).mono ?_
      rintro en w' ⟨rfl,rfl⟩
      obtain⟨a1,a2,a3,a4,a5,a6⟩:=setCells_heap (ρ.blk a) (l.drop i) (off+ρ.sh a+(i+1)) w.drew c hC.at_
      obtain⟨b1,b2,b3,b4,b5,b6⟩:=setCells_heap (ρ.blk a) [.int .i64 x] (off+ρ.sh a+i) _ _ a1
      have hst:=St.move r (off+ρ.sh a) (cap+ρ.ex a-(n+1)) (ne_none hg0) hnz hoS (o':=_) (by
       simp only[Fits]
       refine⟨_,fz,rfl,fun j hj=>?_,fun h=>(by cases h),fun _ _=>⟨?_,fun j h1 h2=>?_⟩⟩
       ·rw[RV.n_ofList,hlen]at hj
        have:=wrA_ins (x:=.int .i64 x) hll hin hcl (by omega) j hj
        obtain⟨k,hk⟩:=hins j hj
        rw[RV.get_ofList,Ren.at_sh,Nat.add_comm j,this,←hx,hk,zC3,hk]
        simp[Ren.val]
       ·rw[wrA_size,wrA_size,Ren.at_sh,Ren.at_ex,RV.n_ofList,hlen,h31]; omega
       ·rw[Ren.at_sh,Ren.at_ex,RV.n_ofList,hlen,h31]at h2
        rw[Ren.at_sh]at h1
        exact hfz j (by omega) (by omega)) b1 (b2.trans a2) (fun b' hb=>(b3 b' hb).trans (a3 b' hb)) (b4.trans a4) (b5.trans a5) (b6.trans a6)
      have:=hR _ _ hst (by simp only[scb]; exact blt_of (zC7 _))
      rw[val_fresh,show n+1+(cap+ρ.ex a-(n+1))=cap+ρ.ex a by omega]at this
      exact this
     ·have hc:=Any2.slices_Insert_int_grow L (ρ.blk a) (off+ρ.sh a) n (cap+ρ.ex a) i (ρ.blk vb) voff 1 1 l [.int .i64 x] w hin (by omega) (by omega) (by omega) (by omega) hll rfl hcellA hcellV hone (by simp[Value.oneCell'])
      refine (hF.calls hc).mono ?_
      rintro en w' ⟨rfl,hw'⟩
      obtain⟨G,hG⟩:∃ G,grownCap w (n+1) (cap+ρ.ex a) (rho.t 3)=G:=⟨_,rfl⟩
      have hG1:n+1≤G:=hG▸grownCap_ge w (n+1) _ _
      have hG2:G≤9223372036854775807:=by
       have:=grownCap_le_maxLen w (n+1) (cap+ρ.ex a) (rho.t 3) (by simp only[maxLen]; omega)
       simp only[maxLen]at this
       omega
      rw[hG,h3]at hw'
      rw[hG]
      have hzs:∀ k,Builtin.zeroCells (Value.int .i64 0).cells k=(zerosL [.int .i64 0] k).toArray:=fun k=>zeros_range _ _
      rw[hzs,hzs]at hw'
      obtain⟨A,hA⟩:∃ A,(l.take i).toArray++(zerosL [.int .i64 0] (n+1-i)).toArray++(zerosL [Value.int .i64 0] (G-(n+1))).toArray=A:=⟨_,rfl⟩
      rw[hA]at hw'
      have hAs:A.size=G:=by
       rw[←hA]
       simp only[Array.size_append,List.size_toArray,List.length_take,zerosL_len,zC0]
       omega
      have hAi:∀ j,j<i→A[j]?=l[j]?:=fun j hj=>by
       rw[←hA,Array.getElem?_append_left (by simp only[Array.size_append,List.size_toArray,List.length_take]; omega),Array.getElem?_append_left (by simp only[List.size_toArray,List.length_take]; omega)]
       simp[hj]
      have q0:(w.alloc (.cells A e)).drew.heap[w.heap.size]?=some (.cells A e (0,0)):=by
       show (w.heap.push _)[w.heap.size]?=_
       simp
      obtain⟨a1,a2,a3,a4,a5,a6⟩:=setCells_heap w.heap.size [.int .i64 x] i (w.alloc (.cells A e)).drew A q0
      obtain⟨b1,b2,b3,b4,b5,b6⟩:=setCells_heap w.heap.size (l.drop i) (i+1) ((w.alloc (.cells A e)).drew.setCells w.heap.size i [.int .i64 x]).drew _ a1
      rw[←hw']at b1 b2 b3 b4 b5 b6
      have s1:=St.del r a hnz
      have s3:=St.new s1.rel ⟨.cells #[] e,true,RV.ofList (l.take i++(u.get voff::l.drop i))⟩ (.cells (wrA (wrA A i [.int .i64 x]) (i+1) (l.drop i)) e (0,0)) 0 (G-(n+1)) hoS (by
       simp only[Fits]
       refine⟨_,(0,0),rfl,fun j hj=>?_,fun h=>(by cases h),fun _ _=>⟨⟨?_,fun _=>?_⟩,fun j h1 h2=>by simp only; omega⟩⟩
       ·rw[RV.n_ofList,hlen]at hj
        obtain⟨k,hk⟩:=hins j hj
        rw[RV.get_ofList,Ren.at_sh,show j+0=j from rfl,zC3,hk]
        rw[ins_get hll hin]at hk
        have hdl:(l.drop i).length=n-i:=by rw[List.length_drop,hll]
        rw[wrA_get _ _ _ _ (by rw[wrA_size]; omega)]
        by_cases h1:j<i
        ·rw[if_pos h1]at hk
         rw[if_neg (by omega),wrA_get _ _ _ _ (by simp only[zC0]; omega),if_neg (by omega),hAi j h1,hk]
         simp[Ren.val]
        ·rw[if_neg h1]at hk
         by_cases h2:j=i
         ·rw[if_pos h2,hx]at hk
          rw[if_neg (by omega),wrA_get _ _ _ _ (by simp only[zC0]; omega),if_pos (by simp only[zC0]; omega),h2,Nat.sub_self]
          simpa[Ren.val]using hk
         ·rw[if_neg h2]at hk
          rw[if_pos (by omega),List.getElem?_drop,show i+(j-(i+1))=j-1 by omega,hk]
          simp[Ren.val]
       ·rw[wrA_size,wrA_size,hAs,Ren.at_sh,Ren.at_ex,RV.n_ofList,hlen,h31]; omega
       ·rw[Ren.at_ex,RV.n_ofList,hlen,h31]; omega)
      have s4:=St.world (w1:=w') s3.rel (by
       apply Array.ext_getElem?
       intro k
       by_cases hk:k=w.heap.size
       ·rw[hk,b1]
        show _=(w.heap.push _)[w.heap.size]?
        simp
       ·rw[b3 k hk]
        show ((w.alloc (.cells A e)).drew.setCells w.heap.size i [.int .i64 x]).heap[k]?=_
        rw[a3 k hk]
        show (w.heap.push _)[k]?=(w.heap.push _)[k]?
        rw[Array.getElem?_push,Array.getElem?_push,if_neg hk,if_neg hk]) (b4.trans a4) (b5.trans a5) (b6.trans a6)
      have:=hR _ _ (s1.trans (s3.trans s4)) (by simp only[scb]; exact blt_of (zC7 _))
      rw[show (H.upd a none).next=H.next from rfl,val_fresh,show n+1+(G-(n+1))=G by omega]at this
      exact this
    ·cases h
   ·cases h
  ·cases h
 ·cases h
end
end Go.Ax
namespace Go.Proofs.YtnigelgcjfhghaaGreatDoor
open Go.Ax
set_option maxRecDepth 100000
def rhoR:Go.Shelf.Ren:=⟨fun n=>if n=99 then 135 else if n=105 then 111 else if n=165 then 136 else if n=166 then 53 else if n=169 then 56 else if n=170 then 137 else if n=206 then 154 else if n=212 then 134 else if n=240 then 86 else if n=241 then 155 else if n=263 then 152 else if n=264 then 153 else if n=276 then 112 else if n=277 then 163 else 0,fun n=>if n=37 then 23 else if n=46 then 80 else if n=51 then 201 else if n=53 then 190 else if n=70 then 108 else if n=72 then 110 else if n=75 then 117 else if n=76 then 118 else if n=80 then 122 else if n=109 then 186 else if n=127 then 146 else if n=146 then 202 else if n=148 then 204 else if n=164 then 169 else n,fun n=>n⟩
theorem laysR:Go.Proofs.Lays.n105 Tryz.prog rhoR:=by
 constructor
 all_goals first
  |exact mixed
  |kernel_rfl
  |(intro w; kernel_rfl)
theorem extraR:Go.Proofs.Builder.Extra Tryz.prog rhoR:=by
 refine⟨⟨?_,?_⟩,?_,?_,?_,?_,?_,?_,?_,?_⟩
 all_goals first
  |kernel_rfl
  |(intro w; kernel_rfl)
  |decide
def rhoI:Go.Shelf.Ren:=⟨fun n=>if n=21 then 98 else if n=27 then 121 else if n=28 then 122 else if n=35 then 149 else if n=39 then 162 else 0,fun n=>if n=22 then 35 else n,fun n=>n⟩
theorem laysI:Go.Proofs.Lays2.n21 Tryz.prog rhoI:=by
 constructor
 all_goals first
  |exact mixed
  |kernel_rfl
  |(intro w; kernel_rfl)
def repK:KX:=fun f args H =>
 match args with
 |[.string s,.int .i64 n]=>if Nat.beq f 111&&decide (0≤n)&&decide (n≤1000)&&Nat.ble s.size 1000 then some (.string ⟨(Go.Lib.repeatL s.data.toList n.toNat).toArray⟩,H) else none
 |_=>none
theorem repeat_s (H:AHeap) (s:ByteArray) (k:Nat) (hs:s.size*k≤140737488355328) (hk:k≤9223372036854775807):CallS Tryz.prog 111 [.string s,.int .i64 (k:Int)] H (.ok (.string ⟨(Go.Lib.repeatL s.data.toList k).toArray⟩)) H:=by
 intro ρ w r hsc F m R hF hR
 have hc:=Go.Proofs.Any.strings_Repeat laysR extraR s k w hk hs
 have e1:[Value.string s,Value.int .i64 (k:Int)].map ρ.val=[Value.string s,Value.int .i64 (k:Int)]:=map_af ρ _ (fun x hx=>by simp only[zB1,List.not_mem_nil,or_false]at hx; rcases hx with rfl|rfl<;>rfl)
 rw[e1]
 refine (hF.calls hc).mono ?_
 rintro e w' ⟨rfl,hb⟩
 have:=hR ρ w' (St.below r hb) rfl
 rwa [val_af ρ _ rfl]at this
theorem known_rep:KnownX Tryz.prog repK:=by
 intro f args v H H1 h
 unfold repK at h
 split at h
 ·rename_i s n
  split at h
  ·rename_i hc
   simp only[zA4,decide_eq_true_eq]at hc
   obtain⟨⟨⟨hf,h0⟩,h1⟩,h2⟩:=hc
   have hf:=zC6 hf
   subst hf
   have h2:=zB8 h2
   obtain⟨k,rfl⟩:∃ k:Nat,n=k:=⟨n.toNat,by omega⟩
   cases h
   have hm:s.size*k≤1000*1000:=Nat.mul_le_mul h2 (by omega)
   rw[zC1]
   exact repeat_s _ s k (by omega) (by omega)
  ·cases h
 ·cases h
def shaK:KX:=fun f args H =>
 match args with
 |[]=>if Nat.beq f 52 then some (.agg ⟨shV H.next⟩,ext H (shB H.next)) else none
 |_=>none
theorem known_sha:KnownX Tryz.prog shaK:=by
 intro f args v H H1 h
 unfold shaK at h
 split at h
 ·split at h
  ·rename_i hf
   have hf:=zC6 hf
   subst hf
   cases h
   exact shapes_c _
  ·cases h
 ·cases h
def baseK:KX:=orX shaK (orX repK (insK 98 3))
theorem known_bK:KnownX Tryz.prog baseK:=known_orX known_sha (known_orX known_rep (ins_known laysI rfl))
end Go.Proofs.YtnigelgcjfhghaaGreatDoor
namespace Go.Ax
section
variable {P : Program} {H : AHeap} {N : Nat} {E : Env} {ds : List Deferred} {ro : Option Nat} {ops : Array Oper} {rest : List Oper} {d : Nat} {ty : TypeId} {pos : String} {after : Array Edge}
theorem w_convert {Q:Exit→AAct→AHeap→Prop} {x:Operand} {s t:TypeId} (hx:opOk P N x=true):wpOps P ro ops (⟨some d,.convert s t x,ty,pos,after,none⟩::rest) (mkA N E ds) H Q=heapC P ro ops rest N E ds (some d) Q (aConvert P H s t (opv E x)) :=
 w_rvh rfl (by simp only[aop,xConvert,aeval_opv hx,zA1,zA3])
theorem cv_int {s t:TypeId} {u:TypeDesc} {k k0:IntKind} {n:Int} (hs:P.underlying s=some u) (ht:P.underlying t=some (.int k)):aConvert P H s t (.int k0 n)=some (.int k (k.wrap n),H):=by
 simp only[aConvert,hs,ht]
theorem sl_exact {t e:TypeId} {sz n off len cap:Nat} {lo hi:Option Value} {l h:Nat} (hu:P.underlying t=some (.slice e)) (hsz:szOf P e=some sz) (hl:bound 0 lo=some l) (hh:bound len hi=some h) (h1:h≤cap) (h2:l≤h) (h3:l<cap) :
  aSlice P H t (.slice (some ⟨n,off,some 0⟩) len cap) lo hi none=some (.slice (some ⟨n,off+l*sz,some 0⟩) (h-l) (cap-l),H):=by
 simp only[aSlice,hu,hsz,aSlice2,hl,hh,zA1,zA3,exactAt]
 rw[if_pos ⟨h1,h2⟩,if_neg (by omega)]
theorem genV_val {o:Oper} {Q:AAct→AHeap→Prop} {i:Nat} {fps:List Fp} {anc:List Nat} {v:Value} (hdst:o.dst=some d) (hd:d<N) (hop:∀ G,aop o.op P (mkA N E ds) G=some (.value v,G)) (hm:∀ r∈fps,Meets (anc.getD i 0) [] [] (idsV v++([]:List Bl).flatMap fun x=>idsL x.l) r)
  (h:wkD P ops anc rest (i+1) (⟨i,[],[],H.next,H.next+0⟩::fps) (mkA N (upd E d v) ds) H Q):genV P ops anc o rest i fps (mkA N E ds) H Q :=
 genV_extO (v:=v) (M:=[]) [] hdst hd (fun _ h=>by cases h) (fun G _ _=>opS_of (x:=.value v) (g:=G) (hop G) ⟨rfl,rfl⟩) hm h
end
section
variable {P : Program} {ro : Option Nat} {H : AHeap} {N : Nat} {E : Env} {ds : List Deferred} {ops : Array Oper} {rest : List Oper} {d : Nat} {ty : TypeId} {pos : String} {after : Array Edge}
theorem ix_str {t:TypeId} {s:ByteArray} {i:Int} {k:Nat} {c:UInt8} {kd:IntKind} (hu:P.underlying t=some .string) (hi:i=k) (hc:s.data.toList[k]?=some c):aIndex P t (.string s) (.int kd i)=some (.int .u8 (c.toNat:Int)):=by
 subst hi
 simp only[aIndex,hu]
 rw[if_pos (Int.natCast_nonneg k),zC1,hc]
 rfl
theorem bt_lenStr {t:TypeId} {s:ByteArray} (hu:P.underlying t=some .string):aBuiltin P H .len ⟨[t]⟩ [.string s]=some (goInt s.size,H):=by simp[aBuiltin,aLen,hu]
theorem rb_lenStr {t:TypeId} {s:ByteArray} (hu:P.underlying t=some .string):regBt P .len ⟨[t]⟩ [.string s]=some (goInt s.size):=by simp[regBt,hu]
theorem wd_convert {Q:AAct→AHeap→Prop} {i:Nat} {fps:List Fp} {anc:List Nat} {x:Operand} {s t:TypeId} {dst:Option Nat} :
  wkD P ops anc (⟨dst,.convert s t x,ty,pos,after,none⟩::rest) i fps (mkA N E ds) H Q=genV P ops anc ⟨dst,.convert s t x,ty,pos,after,none⟩ rest i fps (mkA N E ds) H Q:=by
 simp only[wkD,wantA,stepD,pureOp,restD,newOp,genV]
theorem wd_cvint {Q:AAct→AHeap→Prop} {i:Nat} {fps:List Fp} {anc:List Nat} {x:Operand} {s t:TypeId} {u:TypeDesc} {k k0:IntKind} {n:Int} (hx:opOk P N x=true) (hd:d<N) (hs:P.underlying s=some u) (ht:P.underlying t=some (.int k)) (hv:opv E x=.int k0 n)
  (h:wkD P ops anc rest (i+1) (⟨i,[],[],H.next,H.next+0⟩::fps) (mkA N (upd E d (.int k (k.wrap n))) ds) H Q):wkD P ops anc (⟨some d,.convert s t x,ty,pos,after,none⟩::rest) i fps (mkA N E ds) H Q:=by
 rw[wd_convert]
 refine genV_val rfl hd (fun G=>by simp only[aop,xConvert,aeval_opv hx,hv,cv_int hs ht,rvh,zA1,zA3,zA5]) (fun r _=>?_) h
 right
 exact⟨fun _ _ h=>(by cases h),fun _ _ h=>(by cases h),fun _=>⟨fun _ h=>(by cases h),fun _ h=>(by cases h)⟩⟩
theorem cells_of_bk {n:Nat} {b:Bl} (h:bk H n=some b):∃ rv,cellsAt H n=some (rv,b.e,b.o)∧rv.n=b.l.length:=by
 obtain⟨rv,h1,h2,h3⟩:=bk_blk h
 exact⟨rv,h1,h2⟩
theorem app_opnR {st xt e:TypeId} {sz by1 m off k n off2 cnt cap:Nat} {sp s:Option Nat} {z:Value} {b bm:Bl} (hu:P.underlying st=some (.slice e)) (hsz:szOf P e=some sz) (hby:bytesOf P e=some by1) (hz:zeroOf P e=some z) (hzl:z.cells.toList.length=sz) (hi:intTy P xt=some false)
  (hm:bk H m=some bm) (he:bm.e=e) (ho:bm.o=true) (hle:off+k*sz≤bm.l.length) (hone:((bm.l.drop off).take (k*sz)).all one=true) (hsp:sp=none∨(∃ j,sp=some (j+1))∧k=0)
  (hb:rk H n=some b) (hle2:off2+cnt*sz≤b.l.length) (hone2:((b.l.drop off2).take (cnt*sz)).all one=true) (hc:0<cnt) (hsm:small (k+cnt) by1=true) :
  aBuiltin P H .append ⟨[st,xt]⟩ [.slice (some ⟨m,off,sp⟩) k k,.slice (some ⟨n,off2,s⟩) cnt cap]=(aNew (H.upd m none) e ((bm.l.drop off).take (k*sz)++(b.l.drop off2).take (cnt*sz)) true).map fun g=>(.slice (some ⟨H.next,0,none⟩) (k+cnt) (k+cnt),g):=by
 have hl:((b.l.drop off2).take (cnt*sz)).length=cnt*sz:=by simp; omega
 have hl2:((bm.l.drop off).take (k*sz)).length=k*sz:=by simp; omega
 obtain⟨rv,hcm,hrn⟩:=cells_of_bk hm
 have hop:=isOpen_bk hm
 rw[ho]at hop
 have hf:=first_bk (sz:=sz) (cnt:=k) (off:=off) (len:=k) (cap:=k) (s:=sp) hm hle
 have hex:exactAp H ⟨m,off,sp⟩ k k=some false:=by
  rcases hsp with rfl|⟨⟨j,rfl⟩,rfl⟩
  ·simp only[exactAp,exactAt,hop,zA5,Bool.not_true]
  ·simp only[exactAp,hop]
   rfl
 simp only[aBuiltin,aAppend,hu,hsz,hby,hz,hi,zA1,zA3,lenV,first_rk hb hle2,hl,hzl,hsm,and_self,if_true,aAppend2]
 rw[if_neg (by omega)]
 simp only[hf,zA3,hl2,hone,hone2,decide_true,Bool.and_self,if_true,hex,hcm]
 rw[if_pos ⟨he,by rw[Nat.ble_eq,hrn]; omega⟩]
 cases aNew (H.upd m none) e ((bm.l.drop off).take (k*sz)++(b.l.drop off2).take (cnt*sz)) true<;>rfl
theorem app_nilP {st xt e:TypeId} {sz by1 n off cnt cap:Nat} {s:Option Nat} {z:Value} {b:Bl} (hu:P.underlying st=some (.slice e)) (hsz:szOf P e=some sz) (hby:bytesOf P e=some by1) (hz:zeroOf P e=some z) (hzl:z.cells.toList.length=sz) (hi:intTy P xt=some false)
  (hb:rk H n=some b) (hle:off+cnt*sz≤b.l.length) (hone:((b.l.drop off).take (cnt*sz)).all one=true) (hc:0<cnt) (hsm:small cnt by1=true) :
  aBuiltin P H .append ⟨[st,xt]⟩ [.slice none 0 0,.slice (some ⟨n,off,s⟩) cnt cap]=(aNew H e ((b.l.drop off).take (cnt*sz)) true).map fun g=>(.slice (some ⟨H.next,0,none⟩) cnt cnt,g):=by
 have hl:((b.l.drop off).take (cnt*sz)).length=cnt*sz:=by simp; omega
 simp only[aBuiltin,aAppend,hu,hsz,hby,hz,hi,zA1,zA3,lenV,first_rk hb hle,hl,hzl,zC8,hsm,and_self,if_true,aAppend2]
 rw[if_neg (by omega)]
 simp only[firstC,zA3,zC4,Nat.zero_mul,List.all_nil,hone,decide_true,Bool.and_self,if_true,zC5]
 cases aNew H e ((b.l.drop off).take (cnt*sz)) true<;>rfl
def VsAt (H:AHeap) (e:TypeId) (sz:Nat) (v:Value) (vs:List Value) (cnt:Nat):Prop :=
 vs.length=cnt*sz∧vs.all one=true∧((cnt=0∧v=.slice none 0 0)∨(0<cnt∧∃ n,v=.slice (some ⟨n,0,none⟩) cnt cnt∧bk H n=some ⟨e,true,vs⟩∧n<H.next))
theorem VsAt.nil {e:TypeId} {sz:Nat}:VsAt H e sz (.slice none 0 0) [] 0:=⟨by simp,rfl,.inl ⟨rfl,rfl⟩⟩
theorem VsAt.of {G:AHeap} {e:TypeId} {sz cnt:Nat} {v:Value} {vs:List Value} (h:VsAt H e sz v vs cnt) (hn:H.next≤G.next) (hg:∀ n∈idsV v,G.get n=H.get n):VsAt G e sz v vs cnt:=by
 obtain⟨h1,h2,⟨rfl,rfl⟩|⟨h0,n,rfl,hb,hlt⟩⟩:=h
 ·exact⟨h1,h2,.inl ⟨rfl,rfl⟩⟩
 ·exact⟨h1,h2,.inr ⟨h0,n,rfl,(bk_get (hg n (by simp[idsV]))).trans hb,by omega⟩⟩
theorem VsAt.ne {e:TypeId} {sz cnt:Nat} {v:Value} {vs:List Value} (h:VsAt H e sz v vs cnt):∀ n∈idsV v,H.get n≠none∧n<H.next:=by
 obtain⟨h1,h2,⟨rfl,rfl⟩|⟨h0,n,rfl,hb,hlt⟩⟩:=h<;>intro m hm<;>simp only[idsV,zA7,List.not_mem_nil]at hm
 subst hm; exact⟨bk_ne hb,hlt⟩
theorem VsAt.sc {e:TypeId} {sz cnt:Nat} {v:Value} {vs:List Value} (h:VsAt H e sz v vs cnt):scb H.next v=true:=by
 obtain⟨h1,h2,⟨rfl,rfl⟩|⟨h0,n,rfl,hb,hlt⟩⟩:=h
 ·rfl
 ·exact blt_of hlt
theorem VsAt.len {e:TypeId} {sz cnt:Nat} {v:Value} {vs:List Value} (h:VsAt H e sz v vs cnt):∃ a,v=.slice a cnt cnt:=by
 obtain⟨h1,h2,⟨rfl,rfl⟩|⟨h0,n,rfl,hb,hlt⟩⟩:=h
 ·exact⟨_,rfl⟩
 ·exact⟨_,rfl⟩
theorem vs_app {st xt e:TypeId} {sz by1 n off cnt cnt2 cap x:Nat} {s:Option Nat} {z v:Value} {b:Bl} {vs ws:List Value} (hu:P.underlying st=some (.slice e)) (hsz:szOf P e=some sz) (hby:bytesOf P e=some by1) (hz:zeroOf P e=some z) (hzl:z.cells.toList.length=sz) (hi:intTy P xt=some false)
  (h:VsAt H e sz v vs cnt) (hb:rk H n=some b) (hle:off+cnt2*sz≤b.l.length) (hws:(b.l.drop off).take (cnt2*sz)=ws) (hone:ws.all one=true) (hc:0<cnt2) (hsm:small (cnt+cnt2) by1=true) (hx:H.next=x) (hsc:scbL H.next (vs++ws)=true) :
  ∃ G,aBuiltin P H .append ⟨[st,xt]⟩ [v,.slice (some ⟨n,off,s⟩) cnt2 cap]=some (.slice (some ⟨x,0,none⟩) (cnt+cnt2) (cnt+cnt2),G)∧VsAt G e sz (.slice (some ⟨x,0,none⟩) (cnt+cnt2) (cnt+cnt2)) (vs++ws) (cnt+cnt2)∧(H.base≤H.next→Mod (idsV v) H G)∧G.next=x+1∧(∀ m,m<x→m∉idsV v→G.get m=H.get m):=by
 have hwl:ws.length=cnt2*sz:=by rw[←hws]; simp; omega
 obtain⟨h1,h2,⟨rfl,rfl⟩|⟨h0,m,rfl,hm,hlt⟩⟩:=h
 ·have hv:vs=[]:=List.eq_nil_of_length_eq_zero (by simpa using h1)
  subst hv
  rw[zC5]at hsc ⊢
  have happ:=app_nilP (H:=H) (st:=st) (xt:=xt) (n:=n) (off:=off) (cnt:=cnt2) (cap:=cap) (s:=s) hu hsz hby hz hzl hi hb hle (by rw[hws]; exact hone) hc (by simpa using hsm)
  have hn:=new_ext (H:=H) (L:=[]) (e:=e) (l:=ws) (o:=true) (by simpa using hsc)
  rw[hws,show aNew H e ws true=aNew (ext H []) e ws true from rfl,hn,zA5,hx]at happ
  refine⟨ext H [⟨e,true,ws⟩],by rw[zC8]; exact happ,⟨by rw[hwl,zC8],hone,.inr ⟨by omega,x,rfl,?_,by rw[ext_next,hx]; simp⟩⟩,fun hok=>Mod.ext hok,by rw[ext_next,hx]; rfl,fun m hm _=>ext_get_old (by omega)⟩
  rw[show x=x+0 from rfl,bk_at hx (by simp)]; rfl
 ·have hdr:(vs.drop 0).take (cnt*sz)=vs:=by rw[List.drop_zero]; exact zD8 (by omega)
  have happ:=app_opnR (H:=H) (st:=st) (xt:=xt) (m:=m) (off:=0) (k:=cnt) (sp:=none) (n:=n) (off2:=off) (cnt:=cnt2) (cap:=cap) (s:=s) hu hsz hby hz hzl hi hm rfl rfl (by simp only; omega) (by simp only[hdr]; exact h2) (.inl rfl) hb hle (by rw[hws]; exact hone) hc hsm
  simp only[hdr,hws]at happ
  have hn:=new_ext (H:=dp H m) (L:=[]) (e:=e) (l:=vs++ws) (o:=true) (by rw[dp_next]; simpa using hsc)
  rw[show H.upd m none=ext (dp H m) [] from rfl,hn,zA5,hx]at happ
  have mD:Mod (idsV (.slice (some ⟨m,0,none⟩) cnt cnt)) H (dp H m):=Mod.upd (by simp[idsV])
  refine⟨ext (dp H m) [⟨e,true,vs++ws⟩],happ,⟨by rw[zB3,h1,hwl,Nat.add_mul],by rw[List.all_append,h2,hone]; rfl,.inr ⟨by omega,x,rfl,?_,by rw[ext_next,dp_next,hx]; simp⟩⟩,fun hok=>mD.trans (Mod.ext (mD.ok hok)),by rw[ext_next,dp_next,hx]; rfl,fun q hq hqn=>?_⟩
  ·rw[show x=x+0 from rfl,bk_at (show (dp H m).next=x from hx) (by simp)]; rfl
  ·rw[ext_get_old (by rw[dp_next]; omega),dp_get (by simpa[idsV]using hqn)]
end
variable {P : Program} {H X : AHeap} {f : FuncId} {args : List Value}
theorem Rn.dropM (w:WF P H) (m:Mod [] H X):Rn id H X H where
 low:=fun _ _=>rfl
 next:=zA8 _
 base:=rfl
 dirty:=fun _ h=>h
 dirt1:=fun n h=>by
  rcases m.dirty n h with h|h
  ·exact h
  ·simp at h
 get:=fun n o2 h=>.inl ⟨(w.dom n o2 h).1,h,by rw[m.get n (w.dom n o2 h).1 (by simp),h]⟩
 keep:=fun n _ h=>.inl h
 inj:=fun m n _ _ h=>h
 ro:=fun n _=>⟨.inl,fun _=>rfl⟩
theorem CallS.dropM {v:Value} (h:CallS P f args H (.ok v) X) (m:Mod [] H X) (hv:scb H.next v=true):CallS P f args H (.ok v) H:=by
 refine CallS.rn (σ:=id) (H1:=X) ?_ (fun w=>Rn.dropM w m) hv
 rw[rnV_id hv]; exact h
theorem Fin.mod {v v1:Value} (he:v1=v) (m:Mod [] H X) (hv:scb H.next v=true):Fin P f args H v H (.ok v1) X:=fun h=>by
 rw[he]at h
 exact h.dropM m hv
end Go.Ax
namespace Go.Ax
open Go.ChangeShapes
section
variable {P : Program} {ρ : Ren} {H : AHeap} {w : World}
def isU8:Value→Bool
 |.int .u8 _=>true
 |_=>false
structure Ro (P:Program) (ρ:Ren) (H:AHeap) (w:World):Prop where
 rel:Rel P ρ H w
 base:H.base=H.next
 dirty:H.dirty=[]
 al:∀ n,H.get n≠none→Fz (H.get n)∨n<P.globals.size∧∃ c e,w.heap[n]?=some (.cells c e (0,0))∧∀ v∈c.toList,isU8 v=true
structure Gro (H H1:AHeap):Prop where
 next:H.next≤H1.next
 get:∀ n,n<H.next→H1.get n=H.get n
variable {K : Type} {enc : TypeId × Value → K} {spare : Nat → Bool} {held : Bool} {fuel : Nat}
end
def RdAt (H:AHeap) (sz:Nat) (v:Value) (vs:List Value) (cnt:Nat):Prop :=
 vs.length=cnt*sz∧((cnt=0∧∃ a c,v=.slice a 0 c)∨(0<cnt∧∃ n off s c e o M,v=.slice (some ⟨n,off,s⟩) cnt c∧rk H n=some ⟨e,o,M⟩∧n<H.next∧off+cnt*sz≤M.length∧(M.drop off).take (cnt*sz)=vs))
section
variable {P : Program} {H G : AHeap} {sz cnt : Nat} {v : Value} {vs : List Value}
theorem RdAt.sl (h:RdAt H sz v vs cnt):∃ a c,v=.slice a cnt c:=by
 obtain⟨_,⟨rfl,a,c,rfl⟩|⟨_,n,off,s,c,e,o,M,rfl,_⟩⟩:=h
 ·exact⟨_,_,rfl⟩
 ·exact⟨_,_,rfl⟩
theorem RdAt.nil {a:Option Addr} {c:Nat}:RdAt H sz (.slice a 0 c) [] 0:=⟨by simp,.inl ⟨rfl,_,_,rfl⟩⟩
def rdF (v:Value) (cnt:Nat):List Nat:=if cnt=0 then [] else idsV v
theorem RdAt.of (h:RdAt H sz v vs cnt) (hn:H.next≤G.next) (hg:∀ n∈rdF v cnt,G.get n=H.get n):RdAt G sz v vs cnt:=by
 obtain⟨h1,h|⟨h0,n,off,s,c,e,o,M,rfl,h2,h3,h4⟩⟩:=h
 ·exact⟨h1,.inl h⟩
 ·exact⟨h1,.inr ⟨h0,n,off,s,c,e,o,M,rfl,(rk_get (hg n (by rw[rdF,if_neg (by omega)]; simp[idsV]))).trans h2,by omega,h4⟩⟩
theorem RdAt.ne (h:RdAt H sz v vs cnt):∀ n∈rdF v cnt,H.get n≠none∧n<H.next:=by
 obtain⟨h1,⟨rfl,a,c,rfl⟩|⟨h0,n,off,s,c,e,o,M,rfl,h2,h3,h4⟩⟩:=h
 ·intro n hn; simp[rdF]at hn
 ·intro m hm
  rw[rdF,if_neg (by omega)]at hm
  simp only[idsV,zA7]at hm
  subst hm
  exact⟨rk_ne h2,h3⟩
theorem RdAt.mod0 (h:RdAt H sz v vs cnt) (m:Mod [] H G):RdAt G sz v vs cnt:=h.of m.next fun n hn=>m.get n (h.ne n hn).2 (by simp)
theorem RdAt.ext {L:List Bl} (h:RdAt H sz v vs cnt):RdAt (Go.Ax.ext H L) sz v vs cnt:=h.of (by rw[ext_next]; omega) fun n hn=>ext_get_old (h.ne n hn).2
theorem VsAt.rd {e:TypeId} (h:VsAt H e sz v vs cnt):RdAt H sz v vs cnt:=by
 obtain⟨h1,h2,⟨rfl,rfl⟩|⟨h0,n,rfl,hb,hlt⟩⟩:=h
 ·exact⟨h1,.inl ⟨rfl,_,_,rfl⟩⟩
 ·exact⟨h1,.inr ⟨h0,n,0,none,cnt,e,true,vs,rfl,rk_of hb,hlt,by omega,by rw[List.drop_zero,zD8 (by omega)]⟩⟩
theorem RdAt.at_ (h:RdAt H sz v vs cnt) {i:Nat} (hi:i<cnt):∃ n off s c e o M,v=.slice (some ⟨n,off,s⟩) cnt c∧n<H.next∧rk H n=some ⟨e,o,M⟩∧off+i*sz+sz≤M.length∧(M.drop (off+i*sz)).take sz=(vs.drop (i*sz)).take sz:=by
 obtain⟨h1,⟨rfl,_⟩|⟨h0,n,off,s,c,e,o,M,rfl,h2,h3,h4,h5⟩⟩:=h
 ·omega
 have hm:i*sz+sz≤cnt*sz:=by rw[←Nat.succ_mul]; exact Nat.mul_le_mul_right _ hi
 refine⟨n,off,s,c,e,o,M,rfl,h3,h2,by omega,?_⟩
 rw[←h5,List.drop_take,List.drop_drop,List.take_take,Nat.min_eq_left (by omega)]
theorem RdAt.one (h:RdAt H 1 v vs cnt) {i:Nat} (hi:i<cnt):∃ n off s c e o M,v=.slice (some ⟨n,off,s⟩) cnt c∧n<H.next∧rk H n=some ⟨e,o,M⟩∧M[off+i]?=vs[i]?:=by
 obtain⟨n,off,s,c,e,o,M,h1,h2,h3,h4,h5⟩:=h.at_ hi
 refine⟨n,off,s,c,e,o,M,h1,h2,h3,?_⟩
 rw[zD3]at h5
 have:=congrArg (fun l=>l[0]?) h5
 simpa using this
theorem ia_of {t e:TypeId} {k:IntKind} {i n off len cap:Nat} {s:Option Nat} (hu:P.underlying t=some (.slice e)) (hs:szOf P e=some sz) (hi:i<len) :
  aIndexAddr P t (.slice (some ⟨n,off,s⟩) len cap) (.int k (i:Int))=some (.pointer (some ⟨n,off+i*sz,none⟩)):=by
 simp only[aIndexAddr,hu,hs,zA1,zA3,zC1]
 rw[if_pos ⟨by omega,by omega⟩]
theorem w_cat {ro:Option Nat} {N:Nat} {E:Env} {ds:List Deferred} {ops:Array Oper} {rest:List Oper} {d:Nat} {ty:TypeId} {pos:String} {after:Array Edge} {Q:Exit→AAct→AHeap→Prop} {t u:TypeId} {x y:Operand} {a b:ByteArray} (hu:P.underlying t=some .string) (hx:opOk P N x=true) (hy:opOk P N y=true) (hp:opv E x=.string a) (hq:opv E y=.string b) (hd:d<N) (hs:a.size+b.size≤1000000000)
  (h:wpOps P ro ops rest (mkA N (upd E d (.string (a++b))) ds) H Q):wpOps P ro ops (⟨some d,.binOp .add t x y u,ty,pos,after,none⟩::rest) (mkA N E ds) H Q:=by
 have h0:aBin P H .add t (.string a) (.string b)=none:=by
  have:aEq P H (99+1) t (.string a) (.string b)=none:=by
   unfold aEq
   rw[hu]
  show (aEq P H (99+1) t (.string a) (.string b)).bind _=none
  rw[this]
  rfl
 have:=w_plain (ro:=ro) (H:=H) (ds:=ds) (ops:=ops) (rest:=rest) (ty:=ty) (pos:=pos) (after:=after) (Q:=Q) (u:=u) hx hy hp hq hd h0 rfl rfl (v:=.string (a++b)) (by
  have hs2:¬((9223372036854775807:Int)<(a.size:Int)+(b.size:Int)):=by omega
  simp[eqGuard,binOp,Op.stringOp,pure,bind,Sem.bind,hs2]
  rfl) rfl
 rw[this]
 exact h
theorem wd_appV {N:Nat} {E:Env} {ds:List Deferred} {ops:Array Oper} {anc:List Nat} {rest:List Oper} {d i:Nat} {fps:List Fp} {ty:TypeId} {pos:String} {after:Array Edge} {Q:AAct→AHeap→Prop} {args:List Operand} {st xt e:TypeId} {by1 n off cnt2 cap:Nat} {s:Option Nat} {z:Value} {b:Bl} {ws:List Value}
  (hu:P.underlying st=some (.slice e)) (hsz:szOf P e=some sz) (hby:bytesOf P e=some by1) (hz:zeroOf P e=some z) (hzl:z.cells.toList.length=sz) (hi:intTy P xt=some false)
  (ha:args.all (opOk P N)=true) (hargs:args.map (opv E)=[v,.slice (some ⟨n,off,s⟩) cnt2 cap]) (hd:d<N)
  (h:VsAt H e sz v vs cnt) (hb:rk H n=some b) (hn:n<H.next) (hle:off+cnt2*sz≤b.l.length) (hws:(b.l.drop off).take (cnt2*sz)=ws) (hone:ws.all one=true) (hc:0<cnt2) (hsm:small (cnt+cnt2) by1=true) (hsc:scbL H.next (vs++ws)=true) (hok:H.base≤H.next)
  (hm:∀ r∈fps,(anc.getD i 0).testBit r.i=true∨(r.hi≤r.lo∧(∀ k∈r.W,k∉n::idsV v)∧(∀ k∈r.F,k∉idsV v)))
  (hk:∀ Z D,VsAt Z e sz (.slice (some ⟨H.next,0,none⟩) (cnt+cnt2) (cnt+cnt2)) (vs++ws) (cnt+cnt2)→Mod (idsV v) H Z→(∀ k∈D,k∈idsV v)→Z.next=H.next+1 →
   wkD P ops anc rest (i+1) (⟨i,n::idsV v,D,H.next,H.next+1⟩::fps) (mkA N (upd E d (.slice (some ⟨H.next,0,none⟩) (cnt+cnt2) (cnt+cnt2))) ds) Z Q) :
  wkD P ops anc (⟨some d,.call ⟨.builtin .append,⟨args⟩,⟨[st,xt]⟩⟩,ty,pos,after,none⟩::rest) i fps (mkA N E ds) H Q:=by
 rw[wd_app ha]
 have hF:∀ k∈n::idsV v,H.get k≠none∧k<H.next:=fun k hk=>by
  rcases zB1.1 hk with rfl|hk
  ·exact⟨rk_ne hb,hn⟩
  ·exact h.ne k hk
 have hrn:=restrict_next H (n::idsV v)
 have hv:=h.of (G:=H.restrict (n::idsV v)) (Nat.le_of_eq hrn.1.symm) (fun k hk=>by rw[restrict_get,if_pos (by simp[hk])])
 obtain⟨G,k1,k2,k3,k4,k5⟩:=vs_app (x:=H.next) (cap:=cap) hu hsz hby hz hzl hi hv (show rk (H.restrict (n::idsV v)) n=some b from (rk_get (by rw[restrict_get,if_pos (by simp)])).trans hb) hle hws hone hc hsm hrn.1 (by rw[hrn.1]; exact hsc)
 refine genV_modO (H:=H) (W:=idsV v) (n::idsV v) hok (fun k hk=>(hF k hk).1) (fun k hk=>(hF k hk).2) (fun k hk=>by simp[hk]) (app_op (v:=_) (G:=G) ha (by rw[hargs]; exact k1)) (k3 (by rw[hrn.1,hrn.2.1]; exact zA8 _)) hm fun Z D mZ hFZ hNZ hnZ hDZ=>?_
 rw[k4]at hnZ hNZ
 rw[k4]
 have:=hk Z D ?_ mZ hDZ hnZ
 ·simp only[put_some N E ds d _ hd]
  exact this
 ·obtain⟨j1,j2,⟨j0,_⟩|⟨j0,q,j3,j4,j5⟩⟩:=k2
  ·omega
  ·cases j3
   exact⟨j1,j2,.inr ⟨j0,H.next,rfl,(bk_get (hNZ _ (zA8 _) (by omega))).trans j4,by omega⟩⟩
end
end Go.Ax
namespace Go.Proofs.YtnigelgcjfhghaaGreatDoor
open Go.Ax
abbrev Pure (f:FuncId) (args:List Value) (H:AHeap) (v:Value):Prop:=CallS Tryz.prog f args H (.ok v) H
abbrev w64 (n:Int):Int:=IntKind.i64.wrap n
theorem wrap_sm {n:Int} (h1:-4000000000000<n) (h2:n<4000000000000):w64 n=n:=by
 simp only[w64,IntKind.wrap,IntKind.signed,IntKind.bits]
 simp
 omega
theorem wrap_nat {n:Nat} (h:n<4000000000000):IntKind.i64.wrap (n:Int)=(n:Int):=wrap_sm (by omega) (by omega)
theorem wrap_succ {k:Nat} (h:k<1000000000):IntKind.i64.wrap ((k:Int)+1)=((k+1:Nat):Int):=by
 have:=wrap_sm (n:=(k:Int)+1) (by omega) (by omega)
 rw[show IntKind.i64.wrap ((k:Int)+1)=_ from this]; omega
def iv (l:List Int):List Value:=l.map (.int .i64)
def bv (l:List UInt8):List Value:=l.map fun b=>.int .u8 (b.toNat:Int)
theorem iv_get {l:List Int} {i:Nat}:(iv l)[i]?=l[i]?.map (.int .i64):=by simp[iv]
theorem bv_get {l:List UInt8} {i:Nat}:(bv l)[i]?=l[i]?.map fun b=>.int .u8 (b.toNat:Int):=by simp[bv]
theorem u35:Tryz.prog.underlying 35=some (.slice 3):=by kernel_rfl
theorem u23:Tryz.prog.underlying 23=some (.slice 5):=by kernel_rfl
theorem u42:Tryz.prog.underlying 42=some (.slice 59):=by kernel_rfl
theorem u9:Tryz.prog.underlying 9=some .string:=by kernel_rfl
theorem s3:szOf Tryz.prog 3=some 1:=by kernel_rfl
theorem s5:szOf Tryz.prog 5=some 1:=by kernel_rfl
theorem s59:szOf Tryz.prog 59=some 3:=by kernel_rfl
set_option maxRecDepth 100000
theorem fixed1_c (H:AHeap) (av:Value) (n:Nat) (s:ByteArray) (hn:bk H n=some ⟨9,false,[.string s]⟩) (hl:n<H.next):Pure 110 [av,.pointer (some ⟨n,0,none⟩)] H (.string s):=by
 obtain⟨b,hb⟩:∃ b,H.next=b:=⟨_,rfl⟩
 rw[hb]at hl
 refine callS_fn mixed Tryz.func110 rfl Tryz.ntmps110 (zB8 rfl) fun wf hsc=>?_
 simp (maxDischargeDepth:=6) only[hb,hn,hl,Tryz.results110,ruW,putL,Nat.reduceLeDiff,xF,ruU,entryE,Nat.reduceLT,Nat.reduceAdd,Nat.reduceMul,Nat.reduceEqDiff]
 exact Fin.pureE rfl rfl
theorem fin_str {P:Program} {f:FuncId} {args:List Value} {H:AHeap} {L:List Bl} {s:ByteArray} {v1:Value} (h:v1=.string s):Fin P f args H (.string s) H (.ok v1) (ext H L):=Fin.pureE h rfl
abbrev repB (l:List UInt8) (n:Nat):List UInt8:=Go.Lib.repeatL l n
theorem rep_len (l:List UInt8) (n:Nat):(repB l n).length=n*l.length:=Go.Lib.repeatL_length l n
theorem rep_small (a:ByteArray) (l:List UInt8) (n:Nat) (hn:n≤1000000) (hl:l.length≤2) (ha:a.size≤2):a.size+(⟨(repB l n).toArray⟩:ByteArray).size≤1000000000:=by
 have h1:(⟨(repB l n).toArray⟩:ByteArray).size=(repB l n).length:=rfl
 have h2:n*l.length≤n*2:=Nat.mul_le_mul_left n hl
 rw[h1,rep_len]
 omega
def guardR (args:List Int):List UInt8:=if args=[] then [110] else [110]++repB [107,116] (args.getD 0 0).toNat
def envR (args:List Int):List UInt8:=if args.length<2 then [107,110] else [107,110]++repB [105] (args.getD 1 0).toNat
theorem guards_c (H:AHeap) (av:Value) (args:List Int) (ha:RdAt H 1 av (iv args) args.length) (hs:args.getD 0 0≤1000000):Pure 84 [av] H (.string ⟨(guardR args).toArray⟩):=by
 obtain⟨b,hb⟩:∃ b,H.next=b:=⟨_,rfl⟩
 obtain⟨a0,c0,e0⟩:=ha.sl
 refine callS_fn mixed Tryz.func84 rfl Tryz.ntmps84 (zB8 rfl) fun wf hsc=>?_
 by_cases h0:args=[]
 ·rw[e0]
  have hd:decide ((args.length:Int)=0)=true:=by rw[h0]; rfl
  simp (maxDischargeDepth:=6) only[hb,hd,Tryz.results84,ruW,putL,Nat.reduceLeDiff,xF,ruU,entryE,Nat.reduceLT,Nat.reduceAdd,Nat.reduceMul,Nat.reduceEqDiff]
  refine fin_str ?_
  rw[guardR,if_pos h0]
 ·have hp:=List.length_pos_iff.2 h0
  have hd:decide ((args.length:Int)=0)=false:=decide_eq_false (by omega)
  obtain⟨n,off,s,c,e,o,M,e1,n1,r1,m1⟩:=ha.one hp
  rw[iv_get,zB0 hp,zA5]at m1
  have hg:args.getD 0 0=args[0]:=by rw[zC3,zB0 hp]; rfl
  have i0:aIndexAddr Tryz.prog 35 (.slice (some ⟨n,off,s⟩) args.length c) (.int .i64 0)=some (.pointer (some ⟨n,off+0,none⟩)):=ia_of (i:=0) u35 s3 hp
  have hmx:max (0:Int) args[0]=((args.getD 0 0).toNat:Int):=by rw[hg]; omega
  rw[e1]
  rw[hb]at n1
  simp (maxDischargeDepth:=6) only[hb,hd,i0,r1,n1,m1,hmx,qk_old,ruW,putL,Nat.reduceLeDiff,xF,ruU,entryE,Nat.reduceLT,Nat.reduceAdd,Nat.reduceMul,Nat.reduceEqDiff]
  refine (repeat_s (ext H []) ⟨#[107,116]⟩ (args.getD 0 0).toNat (by show 2*_≤_; omega) (by omega)).to ?_
  simp (maxDischargeDepth:=6) only[ruW,putL,Nat.reduceLeDiff,xF,ruU,entryE,Nat.reduceLT,Nat.reduceAdd,Nat.reduceMul,Nat.reduceEqDiff]
  refine w_cat (a:=⟨#[110]⟩) (b:=⟨(repB [107,116] (args.getD 0 0).toNat).toArray⟩) u9 rfl rfl (by simp only[ruU,entryE,Nat.reduceLT,Nat.reduceAdd,Nat.reduceMul,Nat.reduceEqDiff]) (by simp only[ruU,entryE,Nat.reduceLT,Nat.reduceAdd,Nat.reduceMul,Nat.reduceEqDiff]) (by decide) (rep_small _ _ _ (by omega) (by decide) (by decide)) ?_
  simp (maxDischargeDepth:=6) only[Tryz.results84,ruW,putL,Nat.reduceLeDiff,xF,ruU,entryE,Nat.reduceLT,Nat.reduceAdd,Nat.reduceMul,Nat.reduceEqDiff]
  refine fin_str ?_
  rw[guardR,if_neg h0]
  rfl
theorem envs_c (H:AHeap) (av:Value) (args:List Int) (ha:RdAt H 1 av (iv args) args.length) (hs:args.getD 1 0≤1000000):Pure 85 [av] H (.string ⟨(envR args).toArray⟩):=by
 obtain⟨b,hb⟩:∃ b,H.next=b:=⟨_,rfl⟩
 obtain⟨a0,c0,e0⟩:=ha.sl
 refine callS_fn mixed Tryz.func85 rfl Tryz.ntmps85 (zB8 rfl) fun wf hsc=>?_
 by_cases h0:args.length<2
 ·rw[e0]
  have hd:decide ((args.length:Int)<2)=true:=decide_eq_true (by omega)
  simp (maxDischargeDepth:=6) only[hb,hd,Tryz.results85,ruW,putL,Nat.reduceLeDiff,xF,ruU,entryE,Nat.reduceLT,Nat.reduceAdd,Nat.reduceMul,Nat.reduceEqDiff]
  refine fin_str ?_
  rw[envR,if_pos h0]
 ·have hp:1<args.length:=by omega
  have hd:decide ((args.length:Int)<2)=false:=decide_eq_false (by omega)
  obtain⟨n,off,s,c,e,o,M,e1,n1,r1,m1⟩:=ha.one hp
  rw[iv_get,zB0 hp,zA5]at m1
  have hg:args.getD 1 0=args[1]:=by rw[zC3,zB0 hp]; rfl
  have i0:aIndexAddr Tryz.prog 35 (.slice (some ⟨n,off,s⟩) args.length c) (.int .i64 1)=some (.pointer (some ⟨n,off+1,none⟩)):=ia_of (i:=1) u35 s3 hp
  have hmx:max (0:Int) args[1]=((args.getD 1 0).toNat:Int):=by rw[hg]; omega
  rw[e1]
  rw[hb]at n1
  simp (maxDischargeDepth:=6) only[hb,hd,i0,r1,n1,m1,hmx,qk_old,ruW,putL,Nat.reduceLeDiff,xF,ruU,entryE,Nat.reduceLT,Nat.reduceAdd,Nat.reduceMul,Nat.reduceEqDiff]
  refine (repeat_s (ext H []) ⟨#[105]⟩ (args.getD 1 0).toNat (by show 1*_≤_; omega) (by omega)).to ?_
  simp (maxDischargeDepth:=6) only[ruW,putL,Nat.reduceLeDiff,xF,ruU,entryE,Nat.reduceLT,Nat.reduceAdd,Nat.reduceMul,Nat.reduceEqDiff]
  refine w_cat (a:=⟨#[107,110]⟩) (b:=⟨(repB [105] (args.getD 1 0).toNat).toArray⟩) u9 rfl rfl (by simp only[ruU,entryE,Nat.reduceLT,Nat.reduceAdd,Nat.reduceMul,Nat.reduceEqDiff]) (by simp only[ruU,entryE,Nat.reduceLT,Nat.reduceAdd,Nat.reduceMul,Nat.reduceEqDiff]) (by decide) (rep_small _ _ _ (by omega) (by decide) (by decide)) ?_
  simp (maxDischargeDepth:=6) only[Tryz.results85,ruW,putL,Nat.reduceLeDiff,xF,ruU,entryE,Nat.reduceLT,Nat.reduceAdd,Nat.reduceMul,Nat.reduceEqDiff]
  refine fin_str ?_
  rw[envR,if_neg h0]
  rfl
def ShAt (H:AHeap) (s:Nat):Prop:=∀ i b,(shB s)[i]?=some b→bk H (s+i)=some b∧s+i<H.next
theorem ShAt.new {H:AHeap} {L:List Bl}:ShAt (ext (ext H (shB H.next)) L) H.next:=fun i b hb=>by
 have hi:i<27:=by have:=(List.getElem?_eq_some_iff.1 hb).1; simpa[shB]using this
 have h1:(ext H (shB H.next)).next=H.next+27:=by rw[ext_next]; rfl
 refine⟨?_,by rw[ext_next,h1]; omega⟩
 rw[bk_old (by rw[h1]; omega),bk_at rfl (by simpa[shB]using hi)]
 exact hb
def kindsR (op:Nat) (args:List Int):List UInt8 :=
 match opsL[op]? with
 |some (_,some k)=>k.data.toList
 |some (_,none)=>if op=17 then guardR args else envR args
 |none=>[]
def cntR (op:Nat) (args:List Int):Int:=if op=17 then args.getD 0 0 else if op=24 then args.getD 1 0 else 0
theorem kinds_c (s:Nat) (op:Nat) (hop:op<28):∃ (f:FuncId) (ca:List Value) (F:List Nat),(shV s)[2*op+1]?=some (.func (.func f) ⟨[]⟩ ⟨ca⟩)∧hasBody Tryz.prog f=true∧(∀ n∈F,s≤n∧n<s+27) ∧
  ∀ (H:AHeap) (av:Value) (args:List Int),(∀ i b,(shB s)[i]?=some b→s+i∈F→bk H (s+i)=some b∧s+i<H.next)→RdAt H 1 av (iv args) args.length→cntR op args≤1000000→Pure f (av::ca) H (.string ⟨(kindsR op args).toArray⟩):=by
 have fx:∀ (op j:Nat) (k:ByteArray) (nm:ByteArray),opsL[op]?=some (nm,some k)→(shV s)[2*op+1]?=some (fxV (s+j))→(shB s)[j]?=some ⟨9,false,[.string k]⟩→j<27→∃ (f:FuncId) (ca:List Value) (F:List Nat),(shV s)[2*op+1]?=some (.func (.func f) ⟨[]⟩ ⟨ca⟩)∧hasBody Tryz.prog f=true∧(∀ n∈F,s≤n∧n<s+27) ∧
   ∀ (H:AHeap) (av:Value) (args:List Int),(∀ i b,(shB s)[i]?=some b→s+i∈F→bk H (s+i)=some b∧s+i<H.next)→RdAt H 1 av (iv args) args.length→cntR op args≤1000000→Pure f (av::ca) H (.string ⟨(kindsR op args).toArray⟩):=by
  intro op j k nm h1 h2 h3 h4
  refine⟨110,_,[s+j],h2,by kernel_rfl,fun n hn=>by simp only[zA7]at hn; omega,fun H av args hb _ _=>?_⟩
  obtain⟨b1,b2⟩:=hb j _ h3 (by simp)
  have:=fixed1_c H av (s+j) k b1 b2
  unfold kindsR
  rw[h1]
  exact this
 match op,hop with
 |0,_=>exact fx 0 1 _ _ rfl rfl rfl (by decide)
 |1,_=>exact fx 1 2 _ _ rfl rfl rfl (by decide)
 |2,_=>exact fx 2 3 _ _ rfl rfl rfl (by decide)
 |3,_=>exact fx 3 4 _ _ rfl rfl rfl (by decide)
 |4,_=>exact fx 4 5 _ _ rfl rfl rfl (by decide)
 |5,_=>exact fx 5 6 _ _ rfl rfl rfl (by decide)
 |6,_=>exact fx 6 7 _ _ rfl rfl rfl (by decide)
 |7,_=>exact fx 7 8 _ _ rfl rfl rfl (by decide)
 |8,_=>exact fx 8 9 _ _ rfl rfl rfl (by decide)
 |9,_=>exact fx 9 10 _ _ rfl rfl rfl (by decide)
 |10,_=>exact fx 10 11 _ _ rfl rfl rfl (by decide)
 |11,_=>exact fx 11 12 _ _ rfl rfl rfl (by decide)
 |12,_=>exact fx 12 13 _ _ rfl rfl rfl (by decide)
 |13,_=>exact fx 13 14 _ _ rfl rfl rfl (by decide)
 |14,_=>exact fx 14 15 _ _ rfl rfl rfl (by decide)
 |15,_=>exact fx 15 16 _ _ rfl rfl rfl (by decide)
 |16,_=>exact fx 16 17 _ _ rfl rfl rfl (by decide)
 |17,_=>exact⟨84,[],[],rfl,by kernel_rfl,fun n hn=>by simp at hn,fun H av args _ h1 h2=>guards_c H av args h1 h2⟩
 |18,_=>exact fx 18 18 _ _ rfl rfl rfl (by decide)
 |19,_=>exact fx 19 19 _ _ rfl rfl rfl (by decide)
 |20,_=>exact fx 20 20 _ _ rfl rfl rfl (by decide)
 |21,_=>exact fx 21 21 _ _ rfl rfl rfl (by decide)
 |22,_=>exact fx 22 22 _ _ rfl rfl rfl (by decide)
 |23,_=>exact fx 23 23 _ _ rfl rfl rfl (by decide)
 |24,_=>exact⟨85,[],[],rfl,by kernel_rfl,fun n hn=>by simp at hn,fun H av args _ h1 h2=>envs_c H av args h1 h2⟩
 |25,_=>exact fx 25 24 _ _ rfl rfl rfl (by decide)
 |26,_=>exact fx 26 25 _ _ rfl rfl rfl (by decide)
 |27,_=>exact fx 27 26 _ _ rfl rfl rfl (by decide)
 |n+28,h=>omega
structure Ins where
 pos:Int
 op:Int
 args:List Int
theorem cntR_small {op:Nat} {args:List Int} (h:∀ x∈args,0≤x∧x≤65535):cntR op args≤65535:=by
 have key:∀ i,args.getD i 0≤65535:=fun i=>by
  rw[zC3]
  cases hi:args[i]? with
  |none=>simp
  |some x=>simpa using (h x (List.mem_of_getElem? hi)).2
 unfold cntR
 split
 ·exact key 0
 ·split
  ·exact key 1
  ·omega
set_option maxRecDepth 100000
def rhoX:Go.Shelf.Ren:=⟨fun n=>if n=143 then 93 else if n=217 then 114 else if n=219 then 116 else if n=224 then 144 else if n=225 then 143 else if n=266 then 142 else if n=267 then 145 else if n=314 then 161 else 0,fun n=>if n=46 then 80 else if n=51 then 201 else if n=146 then 202 else n,fun n=>if n=1 then 2 else n⟩
theorem laysX:Go.Proofs.Lays.n143 Tryz.prog rhoX:=by
 constructor
 all_goals first
  |exact mixed
  |kernel_rfl
  |(intro w; kernel_rfl)
def rhoC:Go.Shelf.Ren:=⟨fun n=>if n=104 then 41 else if n=207 then 94 else if n=211 then 66 else 0,fun n=>if n=24 then 76 else n,fun n=>n⟩
theorem laysC:Go.Proofs.Lays.n104 Tryz.prog rhoC:=by
 constructor
 all_goals first
  |exact mixed
  |kernel_rfl
  |(intro w; kernel_rfl)
theorem pure_kit {f:FuncId} {args:List Value} {H:AHeap} {v:Value} (ha:∀ x∈args,af x=true) (hv:af v=true) (hs:∀ n,scb n v=true) (hc:∀ w,Calls Tryz.prog f ⟨args⟩ w fun e w'=>e=.returned v∧w'=w):Pure f args H v:=by
 intro ρ w r hsc F m R hF hR
 rw[map_af ρ _ ha]
 refine (hF.calls (hc w)).mono ?_
 rintro e w' ⟨rfl,rfl⟩
 have:=hR ρ w' (St.below r ⟨rfl,rfl,rfl,zA8 _,fun _ _=>rfl⟩) (hs _)
 rwa [val_af ρ _ hv]at this
theorem index1_c (H:AHeap) (s:ByteArray) (c:UInt8):Pure 93 [.string s,.string ⟨#[c]⟩] H (.int .i64 (Go.Lib.indexByte s.data.toList c)) :=
 pure_kit (fun x hx=>by simp only[zB1,List.not_mem_nil,or_false]at hx; rcases hx with rfl|rfl<;>rfl) rfl (fun _=>rfl) fun w=>Go.Proofs.Any.strings_Index_one laysX s c w
theorem cutSuffix_c (H:AHeap) (s p:ByteArray) (hs:s.size≤1000000000):Pure 41 [.string s,.string p] H (.tuple #[.string ⟨(Go.Lib.trimSuffix s.data.toList p.data.toList).toArray⟩,.bool (Go.Lib.hasSuffix s.data.toList p.data.toList)]) :=
 pure_kit (fun x hx=>by simp only[zB1,List.not_mem_nil,or_false]at hx; rcases hx with rfl|rfl<;>rfl) rfl (fun _=>rfl) fun w=>Go.Proofs.Any.strings_CutSuffix laysC s p w (by omega)
def opndR (x:Int):Bool:=decide (0≤x)&&decide (x≤65535)
theorem operand_c (H:AHeap) (x:Int):Pure 89 [.int .i64 x] H (.bool (opndR x)):=by
 obtain⟨d,hd⟩:∃ d,decide (0≤x)=d:=⟨_,rfl⟩
 obtain⟨e,he⟩:∃ e,decide (x≤65535)=e:=⟨_,rfl⟩
 refine callS_fn mixed Tryz.func89 rfl Tryz.ntmps89 (zB8 rfl) fun wf hsc=>?_
 cases d<;>simp (maxDischargeDepth:=6) only[hd,he,Tryz.results89,ruW,putL,Nat.reduceLeDiff,xF,ruU,entryE,Nat.reduceLT,Nat.reduceAdd,Nat.reduceMul,Nat.reduceEqDiff]<;>exact Fin.pureE (by rw[opndR,hd,he]; rfl) rfl
theorem bytes_app (a b:List UInt8):(⟨a.toArray⟩:ByteArray)++⟨b.toArray⟩=⟨(a++b).toArray⟩:=by
 apply ByteArray.ext
 simp
theorem bytes_size (a:List UInt8):(⟨a.toArray⟩:ByteArray).size=a.length:=by
 show a.toArray.size=_
 simp
set_option maxRecDepth 100000
abbrev powD:DataW Unit:=Rows.laid_internal_strconv_uint64pow10
def Pow (H:AHeap):Prop:=3<H.next∧∃ e,bk H 3=some ⟨e,false,dc powD⟩
def rhoK:Go.Shelf.Ren:=⟨fun n=>if n=138 then 118 else if n=143 then 93 else if n=195 then 146 else if n=217 then 114 else if n=218 then 147 else if n=219 then 116 else if n=224 then 144 else if n=225 then 143 else if n=266 then 142 else if n=267 then 145 else if n=314 then 161 else 0,fun n=>if n=46 then 80 else if n=51 then 201 else if n=146 then 202 else n,fun n=>if n=1 then 2 else n⟩
theorem laysK:Go.Proofs.Lays.n138 Tryz.prog rhoK:=by
 constructor
 all_goals first
  |exact mixed
  |kernel_rfl
  |(intro w; kernel_rfl)
theorem count_c (H:AHeap) (s:ByteArray) (c:UInt8):Pure 118 [.string s,.string ⟨#[c]⟩] H (.int .i64 (Go.Lib.countByte s.data.toList c)) :=
 pure_kit (fun x hx=>by simp only[zB1,List.not_mem_nil,or_false]at hx; rcases hx with rfl|rfl<;>rfl) rfl (fun _=>rfl) fun w=>Go.Proofs.Any.strings_Count_one laysK s c w
set_option maxRecDepth 100000
abbrev fltV (e a:Int):Value:=.agg ⟨[.int .i64 e,.int .i64 a]⟩
set_option maxRecDepth 100000
def encA (op:Int) (args:List Int):Int :=
 if op<0∨28≤op then 5 else
 if args.length<(kindsR op.toNat []).length then 5 else
 if (op=17∧opndR (args.getD 0 0)=false)∨(op=24∧opndR (args.getD 1 0)=false) then 3 else
 if args.length≠(kindsR op.toNat args).length then 5 else
 if args.all opndR then 0 else 3
theorem ix114 {b op:Nat} {nm kv:Value} (h:op<28) (h1:(shV b)[2*op]?=some nm) (h2:(shV b)[2*op+1]?=some kv):aIndex Tryz.prog 114 (.agg ⟨shV b⟩) (.int .i64 (op:Int))=some (.agg ⟨[nm,kv]⟩):=by
 have hu:Tryz.prog.underlying 114=some (.array 28 113):=by kernel_rfl
 have hs:szOf Tryz.prog 113=some 2:=by kernel_rfl
 have ht:aggT Tryz.prog 113=some true:=by kernel_rfl
 have e:((shV b).drop (2*op)).take 2=[nm,kv]:=by
  apply List.ext_getElem?
  intro i
  rw[List.getElem?_take]
  split
  ·rw[List.getElem?_drop]
   match i with
   |0=>exact h1
   |1=>exact h2
   |i+2=>omega
  ·rw[zD7 (by simp; omega)]
 simp only[aIndex,hu,hs,zA1,zA3,aPart,ht,zC1]
 rw[if_pos ⟨by omega,by omega⟩,Nat.mul_comm op 2,e]
theorem sc_agg3 {b:Nat} {i j:Int} {v:Value} (h:scb b (.agg ⟨[.int .i64 i,.int .i64 j,v]⟩)=true):scb b v=true:=by
 have:(true&&(true&&(scb b v&&true)))=true:=h
 simpa using this
set_option maxRecDepth 100000
abbrev Iv:=Ins × Value
def ivC (x:Iv):List Value:=[.int .i64 x.1.pos,.int .i64 x.1.op,x.2]
def ivV (x:Iv):Value:=.agg ⟨ivC x⟩
def insC (ls:List Iv):List Value:=ls.flatMap ivC
theorem insC_at:∀ {ls:List Iv} {i:Nat} {x:Iv},ls[i]?=some x→((insC ls).drop (i*3)).take 3=ivC x
 |y::r,0,x,h=>by
  simp only[List.getElem?_cons_zero,Option.some.injEq]at h
  subst h
  rfl
 |y::r,i+1,x,h=>by
  rw[zD6]at h
  rw[show (i+1)*3=3+i*3 by omega,insC,zD4,List.drop_append,List.drop_eq_nil_of_le (by simp[ivC])]
  simp only[ivC,zA9,zC4,zC5]
  rw[show 3+i*3-(0+1+1+1)=i*3 by omega]
  exact insC_at h
structure InsRd (H:AHeap) (v:Value) (ls:List Iv):Prop where
 rd:RdAt H 3 v (insC ls) ls.length
 av:∀ x∈ls,RdAt H 1 x.2 (iv x.1.args) x.1.args.length
 sc:∀ x∈ls,scb H.next x.2=true
section
variable {H G : AHeap} {v : Value} {ls : List Iv}
theorem InsRd.mod0 (h:InsRd H v ls) (m:Mod [] H G):InsRd G v ls:=⟨h.rd.mod0 m,fun x hx=>(h.av x hx).mod0 m,fun x hx=>scb_mono m.next _ (h.sc x hx)⟩
end
theorem byte_app {X:AHeap} {v:Value} {l ws:List UInt8} {x:Nat} (h:VsAt X 5 1 v (bv l) l.length) (hx:X.next=x) (hb:X.base≤X.next) (hw:0<ws.length) (hlen:l.length+ws.length≤1000000000) :
  ∃ G,aBuiltin Tryz.prog (ext X [⟨5,false,bv ws⟩]) .append ⟨[23,23]⟩ [v,.slice (some ⟨x+0,0,some 0⟩) ws.length ws.length]=some (.slice (some ⟨x+1,0,none⟩) (l.length+ws.length) (l.length+ws.length),ext G [])∧VsAt G 5 1 (.slice (some ⟨x+1,0,none⟩) (l.length+ws.length) (l.length+ws.length)) (bv (l++ws)) (l++ws).length∧Mod (idsV v) X G∧G.next=x+2:=by
 have h2:VsAt (ext X [⟨5,false,bv ws⟩]) 5 1 v (bv l) l.length:=h.of (by rw[ext_next]; omega) (fun n hn=>ext_get_old (h.ne n hn).2)
 have hk:bk (ext X [⟨5,false,bv ws⟩]) (x+0)=some ⟨5,false,bv ws⟩:=by rw[bk_at hx (by simp)]; rfl
 have hsm:small (l.length+ws.length) 1=true:=by simp only[small,zA4,Nat.ble_eq]; omega
 have hbl:(bv ws).length=ws.length:=by simp[bv]
 have hone:∀ ws:List UInt8,(bv ws).all one=true:=fun ws=>by simp[bv,one]
 have hsc:∀ n,∀ ws:List UInt8,scbL n (bv ws)=true:=fun n ws=>by
  rw[scbL_iff]
  intro v' hv'
  obtain⟨w',_,rfl⟩:=List.mem_map.1 hv'
  rfl
 obtain⟨G,k1,k2,k3,k4,_⟩:=vs_app (P:=Tryz.prog) (H:=ext X [⟨5,false,bv ws⟩]) (st:=23) (xt:=23) (e:=5) (sz:=1) (by1:=1) (z:=.int .u8 0) (n:=x+0) (off:=0) (cnt2:=ws.length) (cap:=ws.length) (s:=some 0) (x:=x+1) (ws:=bv ws) (b:=⟨5,false,bv ws⟩)
  u23 s5 (by kernel_rfl) (by kernel_rfl) rfl (by kernel_rfl) h2 (rk_of hk) (by simp only; omega) (by rw[List.drop_zero]; exact zD8 (by simp only; omega)) (hone ws) hw hsm (by rw[ext_next,hx]; rfl) (scbL_append (hsc _ _) (hsc _ _))
 have e1:bv l++bv ws=bv (l++ws):=by simp[bv]
 rw[e1]at k2
 refine⟨G,k1,by rw[zB3]; exact k2,(Mod.ext hb).trans (k3 ((Mod.ext (W:=[]) hb).ok hb)),k4⟩
def encB (x:Ins):List UInt8:=x.op.toNat.toUInt8::x.args.flatMap fun a=>[a.toNat.toUInt8,(a.toNat / 256).toUInt8]
def encBad:Nat→List Ins→Option (Int × Int)
 |_,[]=>none
 |i,x::r=>if encA x.op x.args≠0 then some (encA x.op x.args,(i:Int)) else encBad (i+1) r
theorem encBad_at:∀ {ls:List Ins} {k:Nat},(∀ (i:Nat) (x:Ins),ls[i]?=some x→encA x.op x.args=0)→encBad k ls=none
 |[],_,_=>rfl
 |x::r,k,h=>by
  rw[encBad,if_neg (by rw[h 0 x rfl]; simp)]
  exact encBad_at fun i y hy=>h (i+1) y (by simpa using hy)
theorem encBad_some:∀ {ls:List Ins} {k j:Nat} {x:Ins},(∀ i,i<j→∀ x:Ins,ls[i]?=some x→encA x.op x.args=0)→ls[j]?=some x→encA x.op x.args≠0→encBad k ls=some (encA x.op x.args,((k+j:Nat):Int))
 |y::r,k,0,x,_,hx,hb=>by
  simp only[List.getElem?_cons_zero,Option.some.injEq]at hx
  subst hx
  rw[encBad,if_pos hb]
  rfl
 |y::r,k,j+1,x,h,hx,hb=>by
  rw[encBad,if_neg (by rw[h 0 (by omega) y rfl]; simp),encBad_some (j:=j) (fun i hi z hz=>h (i+1) (by omega) z (by simpa using hz)) (by simpa using hx) hb]
  congr 2
  omega
theorem byte_val {n:Int} (h0:0≤n) (h1:n≤65535):IntKind.u8.wrap n=((n.toNat.toUInt8).toNat:Int):=by
 obtain⟨k,rfl⟩:∃ k:Nat,n=k:=⟨n.toNat,by omega⟩
 rw[zC1,show k.toUInt8.toNat=k % 256 from UInt8.toNat_ofNat' ..]
 simp only[IntKind.wrap,IntKind.signed,IntKind.bits]
 simp
theorem shr8 {n:Int} (h0:0≤n) (h1:n≤65535):bShr .i64 n 8=((n.toNat / 256:Nat):Int):=by
 obtain⟨k,rfl⟩:∃ k:Nat,n=k:=⟨n.toNat,by omega⟩
 rw[zC1]
 simp only[bShr,IntKind.bits]
 rw[Int.fdiv_eq_ediv_of_nonneg _ (by decide)]
 simp
theorem encA_ok {op:Int} {args:List Int} (h:encA op args=0):0≤op∧op<28∧args.length=(kindsR op.toNat args).length∧∀ y∈args,0≤y∧y≤65535:=by
 unfold encA at h
 split at h
 ·cases h
 ·split at h
  ·cases h
  ·split at h
   ·cases h
   ·split at h
    ·cases h
    ·split at h
     ·rename_i h1 _ _ h4 h5
      rw[zB6]at h5
      refine⟨by omega,by omega,by omega,fun y hy=>?_⟩
      have:=h5 y hy
      simp only[opndR,zA4,decide_eq_true_eq]at this
      exact this
     ·cases h
end Go.Proofs.YtnigelgcjfhghaaGreatDoor
namespace Go.Ax
structure YldP (P:Program) (l:Nat) (α:Type) (enc:α→List Value) (go:α→Bool) (cap:Nat) (pre:α→Prop) where
 Inv:List α→List Nat→List Nat→AHeap→Prop
 sub:∀ {rs F W G},Inv rs F W G→∀ n∈W,n∈F
 dom:∀ {rs F W G},Inv rs F W G→∀ n∈F,G.get n≠none∧n<G.next
 loc:∀ {rs F W G G'},Inv rs F W G→G.next≤G'.next→(∀ n∈F,G'.get n=G.get n)→Inv rs F W G'
 step:∀ {rs F W G r},Inv rs F W G→(∀ x∈rs,go x=true)→rs.length<cap→G.base≤G.next→pre r→CallY P l (enc r) G (fun out G'=>out=.ok (.bool (go r))∧∃ F' W',Inv (rs++[r]) F' W' G'∧Mod W G G'∧(∀ n∈F',n∈F∨G.next≤n)∧(∀ n∈W',n∈W∨G.next≤n))
end Go.Ax
namespace Go.Proofs.YtnigelgcjfhghaaGreatDoor
open Go.Ax
set_option maxRecDepth 100000
def linesR:List UInt8→List (List UInt8)
 |[]=>[[]]
 |c::r=>if c=10 then [c]::linesR r else match linesR r with
  |h::t=>(c::h)::t
  |[]=>[[c]]
theorem lines_none:∀ {s:List UInt8},Go.Lib.indexByte s 10=-1→linesR s=[s]
 |[],_=>rfl
 |c::r,h=>by
  unfold Go.Lib.indexByte at h
  by_cases hc:c=10
  ·subst hc; simp at h
  ·have hc':(c == 10)=false:=by simpa using hc
   rw[hc']at h
   simp only[zB2,if_false]at h
   have hg:=Go.Lib.indexByte_ge r 10
   have h2:Go.Lib.indexByte r 10=-1:=by
    split at h
    ·rename_i h3; simpa using h3
    ·omega
   rw[linesR,if_neg hc,lines_none h2]
theorem lines_some:∀ {s:List UInt8} {i:Nat},Go.Lib.indexByte s 10=(i:Int)→i<s.length∧linesR s=s.take (i+1)::linesR (s.drop (i+1))
 |[],i,h=>by simp[Go.Lib.indexByte]at h
 |c::r,i,h=>by
  unfold Go.Lib.indexByte at h
  by_cases hc:c=10
  ·subst hc
   have:i=0:=by simp at h; omega
   subst this
   refine⟨by simp,?_⟩
   rw[linesR,if_pos rfl]
   rfl
  ·have hc':(c == 10)=false:=by simpa using hc
   rw[hc']at h
   simp only[zB2,if_false]at h
   split at h
   ·omega
   ·rename_i h3
    have h3:Go.Lib.indexByte r 10≠-1:=by simpa using h3
    have hge:=Go.Lib.indexByte_ge r 10
    obtain⟨k,rfl⟩:∃ k,i=k+1:=⟨i-1,by omega⟩
    obtain⟨h4,h5⟩:=lines_some (s:=r) (i:=k) (by omega)
    refine⟨by simp only[zA9]; omega,?_⟩
    rw[linesR,if_neg hc,h5]
    rfl
theorem lines_len:∀ s:List UInt8,(linesR s).length≤s.length+1
 |[]=>by simp[linesR]
 |c::r=>by
  have:=lines_len r
  rw[linesR]
  split
  ·simp only[zA9]; omega
  ·split
   ·rename_i h; rw[h]at this; simp only[zA9]at this ⊢; omega
   ·simp
abbrev bs (l:List UInt8):ByteArray:=⟨l.toArray⟩
theorem bs_size (l:List UInt8):(bs l).size=l.length:=bytes_size l
theorem bs_take (l:List UInt8) (n:Nat):(bs l).extract 0 n=bs (l.take n):=by
 apply ByteArray.ext
 apply Array.ext'
 rw[ByteArray.data_extract,Array.toList_extract,List.extract_eq_take_drop]
 simp
theorem bs_drop (l:List UInt8) (n:Nat):(bs l).extract n (bs l).size=bs (l.drop n):=by
 apply ByteArray.ext
 apply Array.ext'
 rw[ByteArray.data_extract,Array.toList_extract,List.extract_eq_take_drop,bs_size]
 simp
 exact zD8 (by simp)
theorem sl_to {H:AHeap} {l:List UInt8} {n:Nat} (h:n≤l.length):aSlice Tryz.prog H 9 (.string (bs l)) none (some (.int .i64 (n:Int))) none=some (.string (bs (l.take n)),H):=by
 simp only[aSlice,u9,bound,zA1,zA3]
 rw[if_pos (by omega),zA3,zC1,if_pos ⟨by rw[bs_size]; exact h,by omega⟩,bs_take]
theorem sl_from {H:AHeap} {l:List UInt8} {n:Nat} (h:n≤l.length):aSlice Tryz.prog H 9 (.string (bs l)) (some (.int .i64 (n:Int))) none none=some (.string (bs (l.drop n)),H):=by
 simp only[aSlice,u9,bound,zA1,zA3]
 rw[if_pos (by omega),zA3,zC1,if_pos ⟨by rw[bs_size]; omega,by rw[bs_size]; exact h⟩,bs_drop]
def encS (l:List UInt8):List Value:=[.string (bs l)]
theorem lines_c {lp cap:Nat} {go:List UInt8→Bool} {pre:List UInt8→Prop} (Y:YldP Tryz.prog lp (List UInt8) encS go cap pre) (H:AHeap) (q1 q2 q3:Nat) (s:List UInt8) (F0 W0:List Nat) (hinv:Y.Inv [] F0 W0 H) (hok:H.base≤H.next) (hpre:∀ x∈linesR s,pre x) (hs:s.length≤100000000) (hcap:(linesR s).length≤cap)
  (b1:bk H q1=some ⟨9,false,[.string (bs [10])]⟩) (b2:bk H q2=some ⟨9,false,[.string (bs s)]⟩) (b3:bk H q3=some ⟨3,false,[.int .i64 1]⟩) (l1:q1<H.next) (l2:q2<H.next) (l3:q3<H.next) (f1:q1∉F0) (f2:q2∉F0) (f3:q3∉F0) (d12:q1≠q2) (d32:q3≠q2) :
  CallA Tryz.prog 91 [.func (.yield lp) ⟨[]⟩ ⟨[]⟩,.pointer (some ⟨q1,0,none⟩),.pointer (some ⟨q2,0,none⟩),.pointer (some ⟨q3,0,none⟩)] H (fun out X=>out=.ok (.tuple #[])∧∃ F W,Y.Inv (upto go (linesR s)) F W X∧Mod (q2::W0) H X):=by
 have h01:((0+1:Nat):Int)=1:=rfl
 refine callE_fn mixed Tryz.func91 rfl Tryz.ntmps91 (zB8 rfl) ?_
 have hz:decide (((1:Nat):Int)=0)=false:=by decide
 obtain⟨b,hbn⟩:∃ b,H.next=b:=⟨_,rfl⟩
 rw[hbn]at l1 l2 l3
 simp (maxDischargeDepth:=6) only[hbn,b1,l1,bs_size,rb_lenStr u9,bt_lenStr u9,zA9,zC4,hz,ruW,putL,Nat.reduceLeDiff,xF,ruU,entryE,Nat.reduceLT,Nat.reduceAdd,Nat.reduceMul,Nat.reduceEqDiff]
 refine w_env fun E hE=>?_
 have g0:E 0=.func (.yield lp) ⟨[]⟩ ⟨[]⟩:=by rw[hE]; simp only[ruU,entryE,Nat.reduceLT,Nat.reduceAdd,Nat.reduceMul,Nat.reduceEqDiff]
 have g1:E 1=.pointer (some ⟨q1,0,none⟩):=by rw[hE]; simp only[ruU,entryE,Nat.reduceLT,Nat.reduceAdd,Nat.reduceMul,Nat.reduceEqDiff]
 have g2:E 2=.pointer (some ⟨q2,0,none⟩):=by rw[hE]; simp only[ruU,entryE,Nat.reduceLT,Nat.reduceAdd,Nat.reduceMul,Nat.reduceEqDiff]
 have g3:E 3=.pointer (some ⟨q3,0,none⟩):=by rw[hE]; simp only[ruU,entryE,Nat.reduceLT,Nat.reduceAdd,Nat.reduceMul,Nat.reduceEqDiff]
 clear hE
 have hF0:∀ n∈F0,n<b:=fun n hn=>hbn▸(Y.dom hinv n hn).2
 refine blockC_meet (fun E' X=>∃ rs t F W,Y.Inv rs F W X∧(∀ x∈rs,go x=true)∧rs++[t]=linesR s∧Mod (q2::W0) H X∧(∀ n∈W,n∈W0∨b≤n)∧(∀ n∈F,n∈F0∨b≤n)∧bk X q2=some ⟨9,false,[.string (bs t)]⟩∧E' 0=.func (.yield lp) ⟨[]⟩ ⟨[]⟩∧E' 2=.pointer (some ⟨q2,0,none⟩)) ?_ ?_
 ·refine w_loop (fun (z:List (List UInt8) × List UInt8 × List Nat × List Nat) E' X=>Y.Inv z.1 z.2.2.1 z.2.2.2 X∧(∀ x∈z.1,go x=true)∧z.1++linesR z.2.1=linesR s∧z.2.1.length≤s.length∧Mod (q2::W0) H X∧(∀ n∈z.2.2.2,n∈W0∨b≤n)∧(∀ n∈z.2.2.1,n∈F0∨b≤n)∧bk X q2=some ⟨9,false,[.string (bs z.2.1)]⟩∧bk X q1=some ⟨9,false,[.string (bs [10])]⟩∧bk X q3=some ⟨3,false,[.int .i64 1]⟩∧E' 0=.func (.yield lp) ⟨[]⟩ ⟨[]⟩∧E' 1=.pointer (some ⟨q1,0,none⟩)∧E' 2=.pointer (some ⟨q2,0,none⟩)∧E' 3=.pointer (some ⟨q3,0,none⟩)) (fun z=>z.2.1.length) ([],s,F0,W0)
   ⟨hinv,fun x hx=>by simp at hx,rfl,zA8 _,Mod.refl,fun n hn=>.inl hn,fun n hn=>.inl hn,b2,b1,b3,g0,g1,g2,g3⟩ ?_
  clear g0 g1 g2 g3 E
  rintro⟨rs,t,F,W⟩ E X ⟨hI,hgo,htot,hts,m,hW,hF,k2,k1,k3,g0,g1,g2,g3⟩
  simp only at hI hgo htot hts hW hF k2
  obtain⟨x,hx⟩:∃ x,X.next=x:=⟨_,rfl⟩
  have hxb:b≤x:=by have:=m.next; omega
  have y1:q1<x:=by omega
  have y2:q2<x:=by omega
  have y3:q3<x:=by omega
  rw[show X=ext X [] from rfl]
  simp (maxDischargeDepth:=6) only[g0,g1,g2,g3,hx,y1,y2,y3,k1,k2,k3,ruW,putL,Nat.reduceLeDiff,xF,ruU,entryE,Nat.reduceLT,Nat.reduceAdd,Nat.reduceMul,Nat.reduceEqDiff]
  refine (index1_c (ext X []) (bs t) 10).to ?_
  obtain⟨i0,hi0⟩:∃ i0,Go.Lib.indexByte (bs t).data.toList 10=i0:=⟨_,rfl⟩
  rw[hi0]
  have hi0':Go.Lib.indexByte t 10=i0:=hi0
  by_cases hneg:i0<0
  ·have hd:decide (i0<0)=true:=decide_eq_true hneg
   have hge:=Go.Lib.indexByte_ge t 10
   rw[lines_none (by omega)]at htot
   simp (maxDischargeDepth:=6) only[g0,g1,g2,g3,hd,blockC_other (show (2:Nat)≠3 by decide),ruW,putL,Nat.reduceLeDiff,xF,ruU,entryE,Nat.reduceLT,Nat.reduceAdd,Nat.reduceMul,Nat.reduceEqDiff]
   refine joinR_normal ?_
   exact⟨rs,t,F,W,hI,hgo,htot,m,hW,hF,k2,by simp only[g0,ruU,entryE,Nat.reduceLT,Nat.reduceAdd,Nat.reduceMul,Nat.reduceEqDiff],by simp only[g2,ruU,entryE,Nat.reduceLT,Nat.reduceAdd,Nat.reduceMul,Nat.reduceEqDiff]⟩
  ·have hd:decide (i0<0)=false:=decide_eq_false hneg
   obtain⟨i,rfl⟩:∃ i:Nat,i0=i:=⟨i0.toNat,by omega⟩
   obtain⟨hil,hln⟩:=lines_some hi0'
   have hw:IntKind.i64.wrap ((i:Int)+1)=((i+1:Nat):Int):=wrap_succ (by omega)
   have s1:∀ G:AHeap,aSlice Tryz.prog G 9 (.string (bs t)) none (some (.int .i64 ((i+1:Nat):Int))) none=some (.string (bs (t.take (i+1))),G):=fun G=>sl_to (by omega)
   have s2:∀ G:AHeap,aSlice Tryz.prog G 9 (.string (bs t)) (some (.int .i64 ((i+1:Nat):Int))) none none=some (.string (bs (t.drop (i+1))),G):=fun G=>sl_from (by omega)
   simp (maxDischargeDepth:=6) only[g0,g1,g2,g3,hx,y1,y2,y3,k1,k2,k3,hd,hw,s1,s2,w_slice,bnds_none,bnds_some,bndsOk_none,bndsOk_some,ruW,putL,Nat.reduceLeDiff,xF,ruU,entryE,Nat.reduceLT,Nat.reduceAdd,Nat.reduceMul,Nat.reduceEqDiff]
   refine w_callY (l:=lp) (by simp only[ruU,entryE,Nat.reduceLT,Nat.reduceAdd,Nat.reduceMul,Nat.reduceEqDiff]) (by simp only[g0,ruU,entryE,Nat.reduceLT,Nat.reduceAdd,Nat.reduceMul,Nat.reduceEqDiff]) (by simp only[ruU,entryE,Nat.reduceLT,Nat.reduceAdd,Nat.reduceMul,Nat.reduceEqDiff]) ?_
   simp only[g0,ruU,entryE,Nat.reduceLT,Nat.reduceAdd,Nat.reduceMul,Nat.reduceEqDiff]
   have hlen:=congrArg List.length htot
   rw[hln,zB3,zA9]at hlen
   refine (Y.step (r:=t.take (i+1)) hI hgo (by omega) (m.ok hok) (hpre _ (by rw[←htot,hln]; simp))).mono ?_
   rintro _ G' ⟨rfl,F',W',h1,h2,h3,h4⟩
   have mG:Mod (q2::W0) H G':=m.step h2 hok fun n hn=>(hW n hn).imp (fun h=>zB5 _ h) (fun h=>by rw[hbn]; exact h)
   have hnF:∀ n,n<b→n∉F0→n∉F:=fun n h1 h2 hn=>(hF n hn).elim h2 (by omega)
   have hnW:∀ n,n<b→n∉F0→n∉W:=fun n h1 h2 hn=>hnF n h1 h2 (Y.sub hI n hn)
   have k1':=(h2.bk (by omega) (hnW q1 l1 f1)).trans k1
   have k2':=(h2.bk (by omega) (hnW q2 l2 f2)).trans k2
   have k3':=(h2.bk (by omega) (hnW q3 l3 f3)).trans k3
   have z1:q1<G'.next:=by have:=h2.next; omega
   have z2:q2<G'.next:=by have:=h2.next; omega
   rw[hln]at htot
   have hall:rs.all go=true:=zB6.2 hgo
   rw[show G'=ext G' [] from rfl]
   obtain⟨d,hdg⟩:∃ d,go (t.take (i+1))=d:=⟨_,rfl⟩
   cases d with
   |false =>
    simp (maxDischargeDepth:=6) only[g0,g1,g2,g3,hdg,Bool.not_false,joinR_ret,Tryz.results91,ruW,putL,Nat.reduceLeDiff,xF,ruU,entryE,Nat.reduceLT,Nat.reduceAdd,Nat.reduceMul,Nat.reduceEqDiff]
    refine⟨trivial,F',W',?_,mG⟩
    rw[←htot,upto_append hall]
    simp only[upto,hdg,zB2,if_false]
    exact h1
   |true =>
    simp (maxDischargeDepth:=6) only[g0,g1,g2,g3,hdg,Bool.not_true,z1,z2,k1',k2',k3',hw,s2,h01,bs_size,rb_lenStr u9,bt_lenStr u9,zA9,zC4,w_slice,bnds_none,bnds_some,bndsOk_none,bndsOk_some,ruW,putL,Nat.reduceLeDiff,xF,ruU,entryE,Nat.reduceLT,Nat.reduceAdd,Nat.reduceMul,Nat.reduceEqDiff]
    have hin:Y.Inv (rs++[t.take (i+1)]) F' W' (uw G' q2 0 [.string (bs (t.drop (i+1)))]):=Y.loc h1 (by rw[uw_next]; exact zA8 _) fun n hn=>uw_get (by
     rcases h3 n hn with h|h
     ·exact fun e=>hnF q2 l2 f2 (e▸h)
     ·omega)
    have mU:Mod (q2::W0) H (uw G' q2 0 [.string (bs (t.drop (i+1)))]):=mG.step (W':=[q2]) (Mod.uw (by simp)) hok fun n hn=>.inl (by simp only[zA7]at hn; rw[hn]; exact zB7 ..)
    refine loopC_next ⟨(rs++[t.take (i+1)],t.drop (i+1),F',W'),by simp only[List.length_drop]; omega,hin,fun x hx=>?_,by rw[List.append_assoc]; exact htot,by simp only[List.length_drop]; omega,mU,fun n hn=>?_,fun n hn=>?_,?_,?_,?_,?_,?_,?_,?_⟩
    ·rcases zC2.1 hx with hx|hx
     ·exact hgo x hx
     ·rw[zA7]at hx; rw[hx]; exact hdg
    ·rcases h4 n hn with h|h
     ·exact hW n h
     ·exact .inr (by omega)
    ·rcases h3 n hn with h|h
     ·exact hF n h
     ·exact .inr (by omega)
    ·show bk (uw G' q2 0 _) q2=_
     rw[bk_uw_eq,k2']
     rfl
    ·exact (bk_get (uw_get d12)).trans k1'
    ·exact (bk_get (uw_get d32)).trans k3'
    all_goals simp only[g0,g1,g2,g3,ruU,entryE,Nat.reduceLT,Nat.reduceAdd,Nat.reduceMul,Nat.reduceEqDiff]
 ·clear g0 g1 g2 g3 E
  rintro E X ⟨rs,t,F,W,hI,hgo,htot,m,hW,hF,k2,g0,g2⟩
  have y2:q2<X.next:=by have:=m.next; omega
  have hall:rs.all go=true:=zB6.2 hgo
  have hlen:=congrArg List.length htot
  rw[zB3,zC0]at hlen
  rw[show X=ext X [] from rfl]
  simp (maxDischargeDepth:=6) only[g0,g2,y2,k2,ruW,putL,Nat.reduceLeDiff,xF,ruU,entryE,Nat.reduceLT,Nat.reduceAdd,Nat.reduceMul,Nat.reduceEqDiff]
  refine w_callY (l:=lp) (by simp only[ruU,entryE,Nat.reduceLT,Nat.reduceAdd,Nat.reduceMul,Nat.reduceEqDiff]) (by simp only[g0,ruU,entryE,Nat.reduceLT,Nat.reduceAdd,Nat.reduceMul,Nat.reduceEqDiff]) (by simp only[ruU,entryE,Nat.reduceLT,Nat.reduceAdd,Nat.reduceMul,Nat.reduceEqDiff]) ?_
  simp only[g0,ruU,entryE,Nat.reduceLT,Nat.reduceAdd,Nat.reduceMul,Nat.reduceEqDiff]
  refine (Y.step (r:=t) hI hgo (by omega) (m.ok hok) (hpre _ (by rw[←htot]; simp))).mono ?_
  rintro _ G' ⟨rfl,F',W',h1,h2,h3,h4⟩
  have mG:Mod (q2::W0) H G':=m.step h2 hok fun n hn=>(hW n hn).imp (fun h=>zB5 _ h) (fun h=>by rw[hbn]; exact h)
  rw[show G'=ext G' [] from rfl]
  simp (maxDischargeDepth:=6) only[Tryz.results91,ruW,putL,Nat.reduceLeDiff,xF,ruU,entryE,Nat.reduceLT,Nat.reduceAdd,Nat.reduceMul,Nat.reduceEqDiff]
  refine⟨trivial,F',W',?_,mG⟩
  rw[←htot,upto_append hall]
  simp only[upto,ite_self]
  exact h1
theorem splitSeq_c (H:AHeap) (s sep:ByteArray):CallS Tryz.prog 40 [.string s,.string sep] H (.ok (.func (.func 91) ⟨[]⟩ ⟨[.pointer (some ⟨H.next+1,0,none⟩),.pointer (some ⟨H.next+0,0,none⟩),.pointer (some ⟨H.next+2,0,none⟩)]⟩)) (ext H [⟨9,false,[.string s]⟩,⟨9,false,[.string sep]⟩,⟨3,false,[.int .i64 (sep.size:Int)]⟩]):=by
 have inner:∀ H:AHeap,CallS Tryz.prog 65 [.string s,.string sep,.int .i64 (sep.size:Int)] H (.ok (.func (.func 91) ⟨[]⟩ ⟨[.pointer (some ⟨H.next+1,0,none⟩),.pointer (some ⟨H.next+0,0,none⟩),.pointer (some ⟨H.next+2,0,none⟩)]⟩)) (ext H [⟨9,false,[.string s]⟩,⟨9,false,[.string sep]⟩,⟨3,false,[.int .i64 (sep.size:Int)]⟩]):=fun H=>by
  obtain⟨b,hb⟩:∃ b,H.next=b:=⟨_,rfl⟩
  refine callS_fn mixed Tryz.func65 rfl Tryz.ntmps65 (zB8 rfl) fun wf hsc=>?_
  have hbase:H.base≤b:=hb▸wf.base
  simp (maxDischargeDepth:=6) only[hb,hbase,w_func,Tryz.results65,ruW,putL,Nat.reduceLeDiff,xF,ruU,entryE,Nat.reduceLT,Nat.reduceAdd,Nat.reduceMul,Nat.reduceEqDiff]
  exact Fin.same
 obtain⟨b,hb⟩:∃ b,H.next=b:=⟨_,rfl⟩
 refine callS_fn mixed Tryz.func40 rfl Tryz.ntmps40 (zB8 rfl) fun wf hsc=>?_
 have hbase:H.base≤b:=hb▸wf.base
 simp (maxDischargeDepth:=6) only[hb,hbase,rb_lenStr u9,bt_lenStr u9,ruW,putL,Nat.reduceLeDiff,xF,ruU,entryE,Nat.reduceLT,Nat.reduceAdd,Nat.reduceMul,Nat.reduceEqDiff]
 refine (inner (ext H [])).to ?_
 simp (maxDischargeDepth:=6) only[hb,hbase,ext_next,zC4,Tryz.results40,ruW,putL,Nat.reduceLeDiff,xF,ruU,entryE,Nat.reduceLT,Nat.reduceAdd,Nat.reduceMul,Nat.reduceEqDiff]
 exact Fin.same
end Go.Proofs.YtnigelgcjfhghaaGreatDoor
namespace Go.Ax
section
variable {P : Program} {ro : Option Nat} {H : AHeap} {N : Nat} {E : Env} {ds : List Deferred}
end
end Go.Ax
namespace Go.Proofs.YtnigelgcjfhghaaGreatDoor
open Go.Ax
set_option maxRecDepth 100000
structure BldAt (H:AHeap) (n:Nat) (v:Value) (l:List UInt8):Prop where
 bk:∃ a,(a=none∨a=some ⟨n,0,none⟩)∧bk H n=some ⟨110,false,[.pointer a,v]⟩
 lt:n<H.next
 vs:VsAt H 5 1 v (bv l) l.length
 ne:n∉idsV v
end Go.Proofs.YtnigelgcjfhghaaGreatDoor
namespace Go.Ax
section
variable {P : Program} {H : AHeap} {N : Nat} {E : Env} {ds : List Deferred} {ops : Array Oper} {anc : List Nat} {rest : List Oper} {d i : Nat} {fps : List Fp} {ty : TypeId} {pos : String} {after : Array Edge} {Q : AAct → AHeap → Prop}
end
end Go.Ax
namespace Go.Proofs.YtnigelgcjfhghaaGreatDoor
open Go.Ax
set_option maxRecDepth 100000
set_option maxRecDepth 100000
def encL (ls:List Ins):List UInt8:=ls.flatMap encB
theorem encL_append (a b:List Ins):encL (a++b)=encL a++encL b:=by simp[encL]
def EncOut (H:AHeap) (ls:List Ins) (out:Out) (X:AHeap):Prop :=
 match encBad 0 ls with
 |some (e,i)=>out=.ok (.tuple #[.slice none 0 0,fltV e i])
 |none=>if 60000<(encL ls).length then out=.ok (.tuple #[.slice none 0 0,fltV 4 (ls.length:Int)]) else ∃ bs,out=.ok (.tuple #[bs,fltV 0 0])∧VsAt X 5 1 bs (bv (encL ls)) (encL ls).length∧∀ n∈idsV bs,H.next≤n
theorem encL_take {ls:List Ins} {i:Nat} {x:Ins} (h:ls[i]?=some x):encL (ls.take (i+1))=encL (ls.take i)++encB x:=by
 rw[List.take_add_one,h]
 simp[encL]
theorem encL_mono {ls:List Ins} (i:Nat):(encL (ls.take i)).length≤(encL ls).length:=by
 have:encL ls=encL (ls.take i)++encL (ls.drop i):=by rw[←encL_append,List.take_append_drop]
 rw[this,zB3]
 omega
end Go.Proofs.YtnigelgcjfhghaaGreatDoor
namespace Go.Ax
structure YldS (P:Program) (l:Nat) (α:Type) (enc:α→List Value) (go:α→Bool) (cap:Nat) (pre:List Nat→α→AHeap→Prop) where
 Inv:List α→List Nat→List Nat→AHeap→Prop
 sub:∀ {rs F W G},Inv rs F W G→∀ n∈W,n∈F
 dom:∀ {rs F W G},Inv rs F W G→∀ n∈F,G.get n≠none∧n<G.next
 loc:∀ {rs F W G G'},Inv rs F W G→G.next≤G'.next→(∀ n∈F,G'.get n=G.get n)→Inv rs F W G'
 step:∀ {rs F W G r},Inv rs F W G→(∀ x∈rs,go x=true)→rs.length<cap→G.base≤G.next→scbL G.next (enc r)=true→pre F r G→CallY P l (enc r) G (fun out G'=>out=.ok (.bool (go r))∧∃ F' W',Inv (rs++[r]) F' W' G'∧Mod W G G'∧(∀ n∈F',n∈F∨G.next≤n)∧(∀ n∈W',n∈W∨G.next≤n))
end Go.Ax
namespace Go.Proofs.YtnigelgcjfhghaaGreatDoor
open Go.Ax
set_option maxRecDepth 100000
abbrev It:=Ins × Value × Int
def encI (r:It):List Value:=[.agg ⟨[.int .i64 r.1.pos,.int .i64 r.1.op,r.2.1]⟩,.int .i64 r.2.2]
def goI (r:It):Bool:=decide (r.2.2=0)
def ArgA (H:AHeap) (av:Value) (args:List Int):Prop:=VsAt H 3 1 av (iv args) args.length
def preI (F:List Nat) (r:It) (G:AHeap):Prop:=ArgA G r.2.1 r.1.args∧∀ n∈idsV r.2.1,n∉F
structure ItI {lp:Nat} (Y:YldS Tryz.prog lp It encI goI 100000 preI) (H:AHeap) (b q sb:Nat) (bsv:Value) (l:List UInt8) (F0 W0:List Nat) (rs:List It) (F W:List Nat) (X:AHeap):Prop where
 inv:Y.Inv rs F W X
 m:Mod W0 H X
 wl:∀ n∈W,n∈W0∨b≤n
 fl:∀ n∈F,n∈F0∨b+28≤n
 lo:b+28≤X.next
 ok:X.base≤X.next
 sh:ShAt X b
 sbk:bk X (b+27)=some ⟨114,false,shV b⟩
 box:bk X q=some ⟨23,false,[bsv]⟩
 bs:RdAt X 1 bsv (bv l) l.length
 av:∀ r∈rs,ArgA X r.2.1 r.1.args∧∀ n∈idsV r.2.1,b+28≤n∧n∉F
 nd:(rs.flatMap fun r=>idsV r.2.1).Nodup
 go:∀ r∈rs,goI r=true
theorem ArgA.of {H G:AHeap} {av:Value} {args:List Int} (h:ArgA H av args) (hn:H.next≤G.next) (hg:∀ n∈idsV av,G.get n=H.get n):ArgA G av args:=VsAt.of h hn hg
theorem ArgA.ne {H:AHeap} {av:Value} {args:List Int} (h:ArgA H av args):∀ n∈idsV av,H.get n≠none∧n<H.next:=VsAt.ne h
theorem ArgA.rd {H:AHeap} {av:Value} {args:List Int} (h:ArgA H av args):RdAt H 1 av (iv args) args.length:=VsAt.rd h
section
variable {lp : Nat} {Y : YldS Tryz.prog lp It encI goI 100000 preI} {H : AHeap} {b q sb : Nat} {bsv : Value} {l : List UInt8} {F0 W0 : List Nat} {rs : List It} {F W : List Nat} {X X1 : AHeap}
end
set_option maxRecDepth 100000
theorem insC_sc {N:Nat}:∀ {ls:List Iv},(∀ x∈ls,scb N x.2=true)→scbL N (insC ls)=true
 |[],_=>rfl
 |x::r,h=>by
  rw[insC,zD4]
  refine scbL_append ?_ (insC_sc fun y hy=>h y (zB5 _ hy))
  have:=h x (zB7 ..)
  show (true&&(true&&(scb N x.2&&true)))=true
  rw[this]
  rfl
theorem ins_app {X:AHeap} {v:Value} {ls:List Iv} {y:Iv} {x:Nat} (h:VsAt X 59 3 v (insC ls) ls.length) (hx:X.next=x) (hb:X.base≤X.next) (hlen:ls.length≤1000000) (hs:∀ z∈ls,scb X.next z.2=true) (hy:scb X.next y.2=true) (ho:one y.2=true) :
  ∃ G,aBuiltin Tryz.prog (ext X [⟨59,false,ivC y⟩]) .append ⟨[42,42]⟩ [v,.slice (some ⟨x+0,0,some 0⟩) 1 1]=some (.slice (some ⟨x+1,0,none⟩) (ls.length+1) (ls.length+1),ext G [])∧VsAt G 59 3 (.slice (some ⟨x+1,0,none⟩) (ls.length+1) (ls.length+1)) (insC (ls++[y])) (ls++[y]).length∧Mod (idsV v) X G∧G.next=x+2:=by
 have h2:VsAt (ext X [⟨59,false,ivC y⟩]) 59 3 v (insC ls) ls.length:=h.of (by rw[ext_next]; omega) (fun n hn=>ext_get_old (h.ne n hn).2)
 have hk:bk (ext X [⟨59,false,ivC y⟩]) (x+0)=some ⟨59,false,ivC y⟩:=by rw[bk_at hx (by simp)]; rfl
 have hsm:small (ls.length+1) 40=true:=by simp only[small,zA4,Nat.ble_eq]; omega
 have hone:(ivC y).all one=true:=by simp only[ivC,List.all_cons,List.all_nil,ho,Bool.and_true]; rfl
 obtain⟨G,k1,k2,k3,k4,_⟩:=vs_app (P:=Tryz.prog) (H:=ext X [⟨59,false,ivC y⟩]) (st:=42) (xt:=42) (e:=59) (sz:=3) (by1:=40) (z:=.agg #[.int .i64 0,.int .i64 0,.slice none 0 0]) (n:=x+0) (off:=0) (cnt2:=1) (cap:=1) (s:=some 0) (x:=x+1) (ws:=ivC y) (b:=⟨59,false,ivC y⟩)
  u42 s59 (by kernel_rfl) (by kernel_rfl) rfl (by kernel_rfl) h2 (rk_of hk) (by simp[ivC]) rfl hone (by decide) hsm (by rw[ext_next,hx]; rfl) (scbL_append (insC_sc fun z hz=>scb_mono (by rw[ext_next]; omega) _ (hs z hz)) (by
   have:=scb_mono (show X.next≤(ext X [⟨59,false,ivC y⟩]).next by rw[ext_next]; omega) _ hy
   show (true&&(true&&(scb _ y.2&&true)))=true
   rw[this]
   rfl))
 have e1:insC ls++ivC y=insC (ls++[y]):=by simp[insC]
 rw[e1]at k2
 exact⟨G,k1,by rw[zB3]; exact k2,(Mod.ext hb).trans (k3 ((Mod.ext (W:=[]) hb).ok hb)),k4⟩
set_option maxRecDepth 100000
structure OwnI (b:Nat) (X:AHeap) (v:Value) (ls:List Iv):Prop where
 vs:VsAt X 59 3 v (insC ls) ls.length
 av:∀ x∈ls,ArgA X x.2 x.1.args
 lo:∀ n∈idsV v,b≤n
 alo:∀ x∈ls,∀ n∈idsV x.2,b≤n∧n∉idsV v
 nd:(ls.flatMap fun x=>idsV x.2).Nodup
def nameR (op:Nat):List UInt8:=match opsL[op]? with
 |some (n,_)=>n.data.toList
 |none=>[]
def splitR (c:UInt8):List UInt8→List (List UInt8)
 |[]=>[[]]
 |x::r=>if x=c then []::splitR c r else match splitR c r with
  |h::t=>(x::h)::t
  |[]=>[[x]]
theorem split_ne (c:UInt8):∀ s,splitR c s≠[]
 |[]=>by simp[splitR]
 |x::r=>by
  rw[splitR]
  split
  ·simp
  ·split<;>simp
theorem split_none {c:UInt8}:∀ {s:List UInt8},Go.Lib.indexByte s c=-1→splitR c s=[s]
 |[],_=>rfl
 |x::r,h=>by
  unfold Go.Lib.indexByte at h
  by_cases hc:x=c
  ·subst hc; simp at h
  ·have hc':(x == c)=false:=by simpa using hc
   rw[hc']at h
   simp only[zB2,if_false]at h
   have hg:=Go.Lib.indexByte_ge r c
   have h2:Go.Lib.indexByte r c=-1:=by
    split at h
    ·rename_i h3; simpa using h3
    ·omega
   rw[splitR,if_neg hc,split_none h2]
theorem split_some {c:UInt8}:∀ {s:List UInt8} {i:Nat},Go.Lib.indexByte s c=(i:Int)→i<s.length∧splitR c s=s.take i::splitR c (s.drop (i+1))
 |[],i,h=>by simp[Go.Lib.indexByte]at h
 |x::r,i,h=>by
  unfold Go.Lib.indexByte at h
  by_cases hc:x=c
  ·subst hc
   have:i=0:=by simp at h; omega
   subst this
   refine⟨by simp,?_⟩
   rw[splitR,if_pos rfl]
   rfl
  ·have hc':(x == c)=false:=by simpa using hc
   rw[hc']at h
   simp only[zB2,if_false]at h
   split at h
   ·omega
   ·rename_i h3
    have h3:Go.Lib.indexByte r c≠-1:=by simpa using h3
    have hge:=Go.Lib.indexByte_ge r c
    obtain⟨k,rfl⟩:∃ k,i=k+1:=⟨i-1,by omega⟩
    obtain⟨h4,h5⟩:=split_some (c:=c) (s:=r) (i:=k) (by omega)
    refine⟨by simp only[zA9]; omega,?_⟩
    rw[splitR,if_neg hc,h5]
    rfl
theorem split_free {c:UInt8}:∀ {l:List UInt8},(∀ x∈l,x≠c)→splitR c l=[l]
 |[],_=>rfl
 |x::r,h=>by rw[splitR,if_neg (h x (zB7 ..)),split_free fun y hy=>h y (zB5 _ hy)]
theorem split_at {c:UInt8} {t:List UInt8}:∀ {l:List UInt8},(∀ x∈l,x≠c)→splitR c (l++c::t)=l::splitR c t
 |[],_=>by rw[zC5,splitR,if_pos rfl]
 |x::r,h=>by rw[List.cons_append,splitR,if_neg (h x (zB7 ..)),split_at fun y hy=>h y (zB5 _ hy)]
theorem split_join {c:UInt8}:∀ {s h:List UInt8} {t:List (List UInt8)},splitR c s=h::t→s=h++t.flatMap fun w=>c::w
 |[],h,t,e=>by
  simp only[splitR,List.cons.injEq]at e
  obtain⟨rfl,rfl⟩:=e
  rfl
 |x::r,h,t,e=>by
  rw[splitR]at e
  by_cases hc:x=c
  ·rw[if_pos hc]at e
   simp only[List.cons.injEq]at e
   obtain⟨rfl,rfl⟩:=e
   obtain⟨h',t',e'⟩:=List.exists_cons_of_ne_nil (split_ne c r)
   have:=split_join e'
   rw[e',zD4,zC5,List.cons_append,←this,hc]
  ·rw[if_neg hc]at e
   obtain⟨h',t',e'⟩:=List.exists_cons_of_ne_nil (split_ne c r)
   rw[e']at e
   simp only[List.cons.injEq]at e
   obtain⟨rfl,rfl⟩:=e
   rw[List.cons_append,←split_join e']
def digR (c:UInt8):Bool:=decide (48≤c.toNat)&&decide (c.toNat≤57)
def valR (w:List UInt8):Nat:=w.foldl (fun n c=>10*n+(c.toNat-48)) 0
def shapeR (w:List UInt8):Bool:=decide (1≤w.length)&&decide (w.length≤5)&&!(decide (w.getD 0 0=48)&&decide (1<w.length))
def numR (w:List UInt8):Int × Int:=if shapeR w=true then (if w.all digR=true then (if valR w≤65535 then ((valR w:Int),0) else (0,3)) else (0,5)) else (0,5)
def opK (w:List UInt8):Nat→Int
 |0=>-1
 |k+1=>if nameR k=w then (k:Int) else opK w k
def argsR:List (List UInt8)→List Int→List Int × Int
 |[],a=>(a,0)
 |w::r,a=>if (numR w).2=0 then argsR r (a++[(numR w).1]) else (a,(numR w).2)
def lineR (s:List UInt8):Ins × Int :=
 if opK ((splitR 32 s).headD []) 28<0 then (⟨0,-1,[]⟩,5) else
 if (argsR (splitR 32 s).tail []).2≠0 then (⟨0,opK ((splitR 32 s).headD []) 28,(argsR (splitR 32 s).tail []).1⟩,(argsR (splitR 32 s).tail []).2) else
 if (argsR (splitR 32 s).tail []).1.length<(kindsR (opK ((splitR 32 s).headD []) 28).toNat []).length∨(argsR (splitR 32 s).tail []).1.length≠(kindsR (opK ((splitR 32 s).headD []) 28).toNat (argsR (splitR 32 s).tail []).1).length then (⟨0,opK ((splitR 32 s).headD []) 28,(argsR (splitR 32 s).tail []).1⟩,5) else
 (⟨0,opK ((splitR 32 s).headD []) 28,(argsR (splitR 32 s).tail []).1⟩,0)
abbrev ownR (l:List UInt8):List UInt8:=Go.Lib.trimSuffix l [10]
def goP (l:List UInt8):Bool:=!decide (l=[])&&Go.Lib.hasSuffix l [10]&&decide ((lineR (ownR l)).2=0)
def parseR:List (List UInt8)→Nat→List UInt8→List UInt8 × Int × Nat
 |[],k,out=>(out,0,k)
 |l::r,k,out =>
  if l=[] then (out,0,k) else
  if Go.Lib.hasSuffix l [10]=false then ([],5,k) else
  if (lineR (ownR l)).2≠0 then ([],(lineR (ownR l)).2,k) else parseR r (k+1) (out++encB (lineR (ownR l)).1)
def parsedR (s:List UInt8):List UInt8 × Int × Nat :=
 if (parseR (linesR s) 0 []).2.1≠0 then parseR (linesR s) 0 [] else
 if 60000<(parseR (linesR s) 0 []).1.length then ([],4,(parseR (linesR s) 0 []).2.2) else ((parseR (linesR s) 0 []).1,0,0)
abbrev aB (n:Int):List UInt8:=[n.toNat.toUInt8,(n.toNat / 256).toUInt8]
theorem encB_eq (x:Ins):encB x=x.op.toNat.toUInt8::x.args.flatMap aB:=rfl
theorem kinds_three {op:Nat} (h:op<28):(∃ k:List UInt8,k.length≤1∧∀ args,kindsR op args=k)∨(op=17∧∀ args,kindsR op args=guardR args)∨(op=24∧∀ args,kindsR op args=envR args):=by
 match op,h with
 |0,_=>exact .inl ⟨_,by decide,fun _=>rfl⟩
 |1,_=>exact .inl ⟨_,by decide,fun _=>rfl⟩
 |2,_=>exact .inl ⟨_,by decide,fun _=>rfl⟩
 |3,_=>exact .inl ⟨_,by decide,fun _=>rfl⟩
 |4,_=>exact .inl ⟨_,by decide,fun _=>rfl⟩
 |5,_=>exact .inl ⟨_,by decide,fun _=>rfl⟩
 |6,_=>exact .inl ⟨_,by decide,fun _=>rfl⟩
 |7,_=>exact .inl ⟨_,by decide,fun _=>rfl⟩
 |8,_=>exact .inl ⟨_,by decide,fun _=>rfl⟩
 |9,_=>exact .inl ⟨_,by decide,fun _=>rfl⟩
 |10,_=>exact .inl ⟨_,by decide,fun _=>rfl⟩
 |11,_=>exact .inl ⟨_,by decide,fun _=>rfl⟩
 |12,_=>exact .inl ⟨_,by decide,fun _=>rfl⟩
 |13,_=>exact .inl ⟨_,by decide,fun _=>rfl⟩
 |14,_=>exact .inl ⟨_,by decide,fun _=>rfl⟩
 |15,_=>exact .inl ⟨_,by decide,fun _=>rfl⟩
 |16,_=>exact .inl ⟨_,by decide,fun _=>rfl⟩
 |17,_=>exact .inr (.inl ⟨rfl,fun _=>rfl⟩)
 |18,_=>exact .inl ⟨_,by decide,fun _=>rfl⟩
 |19,_=>exact .inl ⟨_,by decide,fun _=>rfl⟩
 |20,_=>exact .inl ⟨_,by decide,fun _=>rfl⟩
 |21,_=>exact .inl ⟨_,by decide,fun _=>rfl⟩
 |22,_=>exact .inl ⟨_,by decide,fun _=>rfl⟩
 |23,_=>exact .inl ⟨_,by decide,fun _=>rfl⟩
 |24,_=>exact .inr (.inr ⟨rfl,fun _=>rfl⟩)
 |25,_=>exact .inl ⟨_,by decide,fun _=>rfl⟩
 |26,_=>exact .inl ⟨_,by decide,fun _=>rfl⟩
 |27,_=>exact .inl ⟨_,by decide,fun _=>rfl⟩
 |n+28,h=>omega
theorem guard_len0:(guardR []).length=1:=rfl
theorem guard_len {args:List Int} (h:args≠[]):(guardR args).length=1+2*(args.getD 0 0).toNat:=by
 rw[guardR,if_neg h,zB3,rep_len]
 simp only[zA9,zC4]
 omega
theorem env_len0 {args:List Int} (h:args.length<2):(envR args).length=2:=by rw[envR,if_pos h]; rfl
theorem env_len {args:List Int} (h:2≤args.length):(envR args).length=2+(args.getD 1 0).toNat:=by
 rw[envR,if_neg (by omega),zB3,rep_len]
 simp only[zA9,zC4]
 omega
theorem take_getD {args:List Int} {k i:Nat} (h:i<k):(args.take k).getD i 0=args.getD i 0:=by
 rw[zC3,zC3,List.getElem?_take,if_pos h]
theorem kinds_pre {op:Nat} {args:List Int} {k:Nat} (hop:op<28) (h:args.length=(kindsR op args).length) (hk:k<args.length):k<(kindsR op (args.take k)).length:=by
 rcases kinds_three hop with⟨q,_,e⟩|⟨_,e⟩|⟨_,e⟩
 ·rw[e]at h ⊢; omega
 ·rw[e]at h ⊢
  cases k with
  |zero=>rw[List.take_zero,guard_len0]; omega
  |succ k =>
   have h1:args≠[]:=fun e=>by rw[e]at hk; simp at hk
   have h2:args.take (k+1)≠[]:=fun e=>by have:=congrArg List.length e; rw[List.length_take]at this; simp only[zC4]at this; omega
   rw[guard_len h1]at h
   rw[guard_len h2,take_getD (by omega)]
   omega
 ·rw[e]at h ⊢
  by_cases h1:args.length<2
  ·rw[env_len0 h1]at h; omega
  ·rw[env_len (by omega)]at h
   by_cases h2:k<2
   ·rw[env_len0 (by rw[List.length_take]; omega)]; omega
   ·rw[env_len (by rw[List.length_take]; omega),take_getD (by omega)]
    omega
theorem kinds_least {op:Nat} {args:List Int} (hop:op<28) (h:args.length=(kindsR op args).length):(kindsR op []).length≤args.length:=by
 by_cases h0:args.length=0
 ·have:args=[]:=List.eq_nil_of_length_eq_zero h0
  rw[this]at h
  rw[←h]
  simp
 have:=kinds_pre hop h (k:=0) (by omega)
 rcases kinds_three hop with⟨q,_,e⟩|⟨_,e⟩|⟨_,e⟩
 ·rw[e]at h ⊢; omega
 ·rw[e]at h ⊢; rw[guard_len0]; omega
 ·rw[e]at h ⊢
  rw[env_len0 (by simp)]
  by_cases h4:args.length<2
  ·rw[env_len0 h4]at h; omega
  ·omega
theorem getD_small {args:List Int} (h:∀ y∈args,0≤y∧y≤65535) (i:Nat):0≤args.getD i 0∧args.getD i 0≤65535:=by
 rw[zC3]
 cases hi:args[i]? with
 |none=>simp
 |some y=>simpa using h y (List.mem_of_getElem? hi)
theorem opnd_ok {y:Int} (h:0≤y∧y≤65535):opndR y=true:=by
 simp only[opndR,zA4,decide_eq_true_eq]
 exact h
theorem encA_iff {op:Nat} {args:List Int} (hop:op<28) (h:args.length=(kindsR op args).length) (hs:∀ y∈args,0≤y∧y≤65535):encA (op:Int) args=0:=by
 have h1:=kinds_least hop h
 have h2:=opnd_ok (getD_small hs 0)
 have h3:=opnd_ok (getD_small hs 1)
 unfold encA
 rw[if_neg (by omega),zC1,if_neg (by omega),if_neg (by rw[h2,h3]; simp),if_neg (by omega),if_pos (zB6.2 fun y hy=>opnd_ok (hs y hy))]
theorem u8_dig {d:Nat} (h:d<10):(UInt8.ofNat (48+d)).toNat=48+d:=by
 rw[show (UInt8.ofNat (48+d)).toNat=(48+d) % 256 from UInt8.toNat_ofNat' ..]
 omega
theorem dec_cons {u:Nat} (h:¬u<10):Go.Lib.decDigits u=Go.Lib.decDigits (u / 10)++[UInt8.ofNat (48+u % 10)]:=by rw[Go.Lib.decDigits,dif_neg h]
theorem dig_iff {c:UInt8}:digR c=true ↔ 48≤c.toNat∧c.toNat≤57:=by simp[digR]
theorem val_snoc (a:List UInt8) (c:UInt8):valR (a++[c])=10*valR a+(c.toNat-48):=by simp[valR,List.foldl_append]
theorem val_one (c:UInt8):valR [c]=c.toNat-48:=by simp[valR]
theorem snoc_of {α:Type}:∀ {l:List α},l≠[]→∃ a c,l=a++[c]
 |[],h=>absurd rfl h
 |[x],_=>⟨[],x,rfl⟩
 |x::y::r,_=>by
  obtain⟨a,c,e⟩:=snoc_of (l:=y::r) (by simp)
  exact⟨x::a,c,by rw[e]; rfl⟩
theorem dec_back:∀ (n:Nat) {w:List UInt8},w.length≤n→w≠[]→(∀ c∈w,digR c=true)→(w.getD 0 0≠48∨w.length=1)→Go.Lib.decDigits (valR w)=w∧(w.getD 0 0≠48→1≤valR w)
 |0,w,h,hne,_,_=>absurd (List.eq_nil_of_length_eq_zero (by omega)) hne
 |n+1,w,h,hne,hd,hh=>by
  obtain⟨a,c,rfl⟩:=snoc_of hne
  have hc:=dig_iff.1 (hd c (by simp))
  have e1:UInt8.ofNat (48+(c.toNat-48))=c:=UInt8.toNat_inj.1 (by rw[u8_dig (by omega)]; omega)
  by_cases ha:a=[]
  ·subst ha
   rw[zC5,val_one,Go.Lib.decDigits_one (by omega),e1]
   refine⟨rfl,fun hz=>?_⟩
   have:c≠48:=hz
   have:c.toNat≠48:=fun e=>this (UInt8.toNat_inj.1 e)
   omega
  ·have hal:0<a.length:=List.length_pos_iff.2 ha
   have hg:(a++[c]).getD 0 0=a.getD 0 0:=by rw[zC3,List.getElem?_append_left hal,←zC3]
   have hz:a.getD 0 0≠48:=by
    rcases hh with hh|hh
    ·rw[←hg]; exact hh
    ·rw[zB3,zC0]at hh; omega
   obtain⟨i1,i2⟩:=dec_back n (w:=a) (by rw[zB3,zC0]at h; omega) ha (fun x hx=>hd x (by simp[hx])) (.inl hz)
   have i3:=i2 hz
   rw[val_snoc,dec_cons (by omega),show (10*valR a+(c.toNat-48)) / 10=valR a by omega,show (10*valR a+(c.toNat-48)) % 10=c.toNat-48 by omega,i1,e1]
   exact⟨rfl,fun _=>by omega⟩
theorem num_back {w:List UInt8} (h:(numR w).2=0):Go.Lib.itoa (numR w).1=w∧0≤(numR w).1∧(numR w).1≤65535:=by
 unfold numR at h ⊢
 by_cases h1:shapeR w=true
 ·rw[if_pos h1]at h ⊢
  by_cases h2:w.all digR=true
  ·rw[if_pos h2]at h ⊢
   by_cases h3:valR w≤65535
   ·rw[if_pos h3]
    simp only[shapeR,zA4,decide_eq_true_eq,Bool.not_eq_true',Bool.and_eq_false_iff,decide_eq_false_iff_not]at h1
    obtain⟨⟨k1,k2⟩,k3⟩:=h1
    have:=dec_back w.length (zA8 _) (fun e=>by rw[e]at k1; simp at k1) (zB6.1 h2) (k3.imp id fun h=>by omega)
    rw[Go.Lib.itoa_nonneg]
    exact⟨this.1,by simp only; omega,by simp only; omega⟩
   ·rw[if_neg h3]at h; cases h
  ·rw[if_neg h2]at h; cases h
 ·rw[if_neg h1]at h; cases h
theorem names_diff:((List.range 28).all fun i=>(List.range 28).all fun j=>decide (nameR i=nameR j→i=j))=true:=by decide +kernel
theorem name_inj {i j:Nat} (hi:i<28) (hj:j<28) (h:nameR i=nameR j):i=j:=by
 have:=zB6.1 (zB6.1 names_diff i (List.mem_range.2 hi)) j (List.mem_range.2 hj)
 exact of_decide_eq_true this h
theorem opK_name {i:Nat}:∀ {k:Nat},i<k→k≤28→opK (nameR i) k=i
 |0,h,_=>absurd h (by omega)
 |k+1,h,hk=>by
  rw[opK]
  by_cases e:nameR k=nameR i
  ·rw[if_pos e,name_inj (by omega) (by omega) e]
  ·rw[if_neg e]
   have:k≠i:=fun h=>e (by rw[h])
   exact opK_name (by omega) (by omega)
theorem opK_back {w:List UInt8}:∀ {k:Nat},0≤opK w k→∃ i:Nat,opK w k=(i:Int)∧i<k∧nameR i=w
 |0,h=>by rw[opK]at h; omega
 |k+1,h=>by
  rw[opK]at h ⊢
  by_cases e:nameR k=w
  ·rw[if_pos e]
   exact⟨k,rfl,by omega,e⟩
  ·rw[if_neg e]at h ⊢
   obtain⟨i,h1,h2,h3⟩:=opK_back h
   exact⟨i,h1,by omega,h3⟩
theorem opK_ge (w:List UInt8):∀ k:Nat,-1≤opK w k
 |0=>by rw[opK]; omega
 |k+1=>by
  rw[opK]
  split
  ·omega
  ·exact opK_ge w k
theorem args_back:∀ {ws:List (List UInt8)} {a:List Int},(argsR ws a).2=0→∃ ns,(argsR ws a).1=a++ns∧ws=ns.map Go.Lib.itoa∧∀ n∈ns,0≤n∧n≤65535
 |[],a,_=>⟨[],by simp[argsR],rfl,fun n hn=>by simp at hn⟩
 |w::r,a,h=>by
  rw[argsR]at h ⊢
  by_cases e:(numR w).2=0
  ·rw[if_pos e]at h ⊢
   obtain⟨ns,h1,h2,h3⟩:=args_back h
   obtain⟨k1,k2⟩:=num_back e
   refine⟨(numR w).1::ns,by rw[h1]; simp,by rw[zB9,k1,←h2],fun n hn=>?_⟩
   rcases zB1.1 hn with rfl|hn
   ·exact k2
   ·exact h3 n hn
  ·rw[if_neg e]at h
   exact absurd h e
def bodyI (x:Ins):List UInt8:=nameR x.op.toNat++x.args.flatMap fun n=>32::Go.Lib.itoa n
theorem suffix_snoc (b:List UInt8):Go.Lib.hasSuffix (b++[10]) [10]=true:=by
 unfold Go.Lib.hasSuffix
 rw[List.isSuffixOf_iff_suffix]
 exact⟨b,rfl⟩
theorem own_snoc (b:List UInt8):ownR (b++[10])=b:=by
 unfold ownR Go.Lib.trimSuffix
 rw[suffix_snoc,if_pos rfl]
 simp
theorem suffix_back {l:List UInt8} (h:Go.Lib.hasSuffix l [10]=true):∃ b,l=b++[10]:=by
 unfold Go.Lib.hasSuffix at h
 rw[List.isSuffixOf_iff_suffix]at h
 obtain⟨b,e⟩:=h
 exact⟨b,e.symm⟩
theorem line_back {b:List UInt8} (h:(lineR b).2=0):encA (lineR b).1.op (lineR b).1.args=0∧bodyI (lineR b).1=b:=by
 obtain⟨w,ws,e⟩:=List.exists_cons_of_ne_nil (split_ne 32 b)
 have hj:=split_join e
 simp only[lineR,e,List.headD_cons,List.tail_cons]at h ⊢
 by_cases h1:opK w 28<0
 ·rw[if_pos h1]at h; cases h
 rw[if_neg h1]at h ⊢
 by_cases h2:(argsR ws []).2≠0
 ·rw[if_pos h2]at h; exact absurd h h2
 rw[if_neg h2]at h ⊢
 obtain⟨i,o1,o2,o3⟩:=opK_back (show 0≤opK w 28 by omega)
 obtain⟨ns,a1,a2,a3⟩:=args_back (show (argsR ws []).2=0 from Decidable.of_not_not h2)
 rw[zC5]at a1
 rw[a1,o1,zC1]at h ⊢
 split at h
 ·cases h
 rename_i h3
 rw[if_neg h3]
 refine⟨encA_iff (args:=ns) o2 (by omega) a3,?_⟩
 rw[hj,a2]
 simp only[bodyI,zC1,o3,List.flatMap_map]
theorem lines_at {r:List UInt8}:∀ {l:List UInt8},(∀ c∈l,c≠10)→linesR (l++10::r)=(l++[10])::linesR r
 |[],_=>by rw[zC5,linesR,if_pos rfl]; rfl
 |c::l,h=>by
  rw[List.cons_append,linesR,if_neg (h c (zB7 ..)),lines_at fun y hy=>h y (zB5 _ hy)]
  rfl
theorem lines_flat:∀ s:List UInt8,(linesR s).flatten=s
 |[]=>rfl
 |c::r=>by
  have:=lines_flat r
  rw[linesR]
  split
  ·rw[List.flatten_cons,this]; rfl
  ·split
   ·rename_i h t e
    rw[e]at this
    rw[←this]; simp
   ·rename_i e
    rw[e]at this
    rw[←this]; simp
set_option maxRecDepth 100000
theorem ix_bs {l:List UInt8} {i:Nat} (h:i<l.length):aIndex Tryz.prog 9 (.string (bs l)) (.int .i64 (i:Int))=some (.int .u8 ((l.getD i 0).toNat:Int)):=by
 have:(bs l).data.toList[i]?=some (l.getD i 0):=by
  rw[zC3]
  show l[i]?=_
  rw[zB0 h]
  rfl
 exact ix_str u9 rfl this
theorem take_snoc {l:List UInt8} {j:Nat} (h:j<l.length):l.take (j+1)=l.take j++[l.getD j 0]:=by
 rw[List.take_add_one,zC3,zB0 h]
 rfl
theorem pow_small {j:Nat} (h:j≤5):10 ^ j≤100000:=Nat.pow_le_pow_right (by decide) h
theorem number_c (H:AHeap) (w:List UInt8):Pure 68 [.string (bs w)] H (.tuple #[.int .i64 (numR w).1,.int .i64 (numR w).2]):=by
 refine callS_fn mixed Tryz.func68 rfl Tryz.ntmps68 (zB8 rfl) fun wf hsc=>?_
 by_cases h1:w.length<1
 ·have e:numR w=(0,5):=by rw[numR,if_neg (by simp[shapeR]; omega)]
  have hd:decide ((w.length:Int)<1)=true:=decide_eq_true (by omega)
  rw[e]
  simp (maxDischargeDepth:=6) only[bt_lenStr u9,bs_size,hd,Tryz.results68,ruW,putL,Nat.reduceLeDiff,xF,ruU,entryE,Nat.reduceLT,Nat.reduceAdd,Nat.reduceMul,Nat.reduceEqDiff]
  exact Fin.pureE rfl rfl
 have hd1:decide ((w.length:Int)<1)=false:=decide_eq_false (by omega)
 by_cases h2:5<w.length
 ·have e:numR w=(0,5):=by rw[numR,if_neg (by simp[shapeR]; omega)]
  have hd:decide ((5:Int)<(w.length:Int))=true:=decide_eq_true (by omega)
  rw[e]
  simp (maxDischargeDepth:=6) only[bt_lenStr u9,bs_size,hd1,hd,Tryz.results68,ruW,putL,Nat.reduceLeDiff,xF,ruU,entryE,Nat.reduceLT,Nat.reduceAdd,Nat.reduceMul,Nat.reduceEqDiff]
  exact Fin.pureE rfl rfl
 have hd2:decide ((5:Int)<(w.length:Int))=false:=decide_eq_false (by omega)
 have i0:aIndex Tryz.prog 9 (.string (bs w)) (.int .i64 0)=some (.int .u8 ((w.getD 0 0).toNat:Int)):=ix_bs (i:=0) (by omega)
 obtain⟨z,hz⟩:∃ z,decide (((w.getD 0 0).toNat:Int)=48)=z:=⟨_,rfl⟩
 have hz':decide (w.getD 0 0=48)=z:=by
  rw[←hz]
  by_cases h:w.getD 0 0=48
  ·rw[h]; rfl
  ·rw[decide_eq_false h,decide_eq_false (fun e=>h (UInt8.toNat_inj.1 (by have h48:(48:UInt8).toNat=48:=rfl; omega)))]
 obtain⟨y,hy⟩:∃ y,decide ((1:Int)<(w.length:Int))=y:=⟨_,rfl⟩
 have hy':decide (1<w.length)=y:=by
  rw[←hy]
  by_cases h:1<w.length
  ·rw[decide_eq_true h,decide_eq_true (by omega)]
  ·rw[decide_eq_false h,decide_eq_false (by omega)]
 have hsh:shapeR w=!(z&&y):=by
  rw[shapeR,hz',hy',decide_eq_true (show 1≤w.length by omega),decide_eq_true (show w.length≤5 by omega)]
  rfl
 have key:shapeR w=true→numR w=(if w.all digR=true then (if valR w≤65535 then ((valR w:Int),0) else (0,3)) else (0,5)):=fun h=>by rw[numR,if_pos h]
 have hcase:(z=true∧y=true)∨(z=true∧y=false)∨z=false:=by cases z<;>cases y<;>simp
 rcases hcase with⟨rfl,rfl⟩|⟨rfl,rfl⟩|rfl
 ·have e:numR w=(0,5):=by rw[numR,if_neg (by rw[hsh]; simp)]
  rw[e]
  simp (maxDischargeDepth:=6) only[bt_lenStr u9,bs_size,hd1,hd2,i0,hz,hy,Tryz.results68,ruW,putL,Nat.reduceLeDiff,xF,ruU,entryE,Nat.reduceLT,Nat.reduceAdd,Nat.reduceMul,Nat.reduceEqDiff]
  exact Fin.pureE rfl rfl
 all_goals
  replace key:=key (by rw[hsh]; rfl)
  simp (maxDischargeDepth:=6) only[bt_lenStr u9,bs_size,hd1,hd2,i0,hz,hy,Tryz.results68,ruW,putL,Nat.reduceLeDiff,xF,ruU,entryE,Nat.reduceLT,Nat.reduceAdd,Nat.reduceMul,Nat.reduceEqDiff]
  refine w_env fun E hE=>?_
  have g0:E 0=.string (bs w):=by rw[hE]; simp only[ruU,entryE,Nat.reduceLT,Nat.reduceAdd,Nat.reduceMul,Nat.reduceEqDiff]
  have g4:E 4=.int .i64 ((0:Nat):Int):=by rw[hE]; (simp only[ruU,entryE,Nat.reduceLT,Nat.reduceAdd,Nat.reduceMul,Nat.reduceEqDiff]<;>rfl)
  have g25:E 25=.int .i64 (w.length:Int):=by rw[hE]; simp only[ruU,entryE,Nat.reduceLT,Nat.reduceAdd,Nat.reduceMul,Nat.reduceEqDiff]
  have g26:E 26=.int .i64 ((0:Nat):Int):=by rw[hE]; (simp only[ruU,entryE,Nat.reduceLT,Nat.reduceAdd,Nat.reduceMul,Nat.reduceEqDiff]<;>rfl)
  clear hE
  refine w_loop (fun (j:Nat) E' H'=>H'=ext H []∧j≤w.length∧(∀ c∈w.take j,digR c=true)∧valR (w.take j)<10 ^ j∧E' 0=.string (bs w)∧E' 4=.int .i64 (valR (w.take j):Int)∧E' 25=.int .i64 (w.length:Int)∧E' 26=.int .i64 (j:Int)) (fun j=>w.length-j) 0
   ⟨rfl,zB4 _,by simp,by simp[valR],g0,by rw[g4]; rfl,g25,g26⟩ ?_
  clear g0 g4 g25 g26 E
  rintro j E H' ⟨hH,hj,hdg,hv,g0,g4,g25,g26⟩
  rw[hH]
  by_cases hje:j=w.length
  ·have hdj:decide ((j:Int)<(w.length:Int))=false:=decide_eq_false (by omega)
   rw[zD8 (by omega)]at g4 hdg hv
   rw[if_pos (zB6.2 hdg)]at key
   simp (maxDischargeDepth:=6) only[g0,g4,g25,g26,hdj,ruW,putL,Nat.reduceLeDiff,xF,ruU,entryE,Nat.reduceLT,Nat.reduceAdd,Nat.reduceMul,Nat.reduceEqDiff]
   refine (operand_c (ext H []) (valR w:Int)).to ?_
   obtain⟨o,ho⟩:∃ o,opndR (valR w:Int)=o:=⟨_,rfl⟩
   have ho':=ho
   simp only[opndR]at ho'
   rw[decide_eq_true (show (0:Int)≤(valR w:Int) by omega),Bool.true_and]at ho'
   cases o with
   |true =>
    rw[if_pos (by have:=of_decide_eq_true ho'; omega)]at key
    rw[key]
    simp (maxDischargeDepth:=6) only[g0,g4,ho,Tryz.results68,ruW,putL,Nat.reduceLeDiff,xF,ruU,entryE,Nat.reduceLT,Nat.reduceAdd,Nat.reduceMul,Nat.reduceEqDiff]
    exact Fin.pureE rfl rfl
   |false =>
    rw[if_neg (by have:=of_decide_eq_false ho'; omega)]at key
    rw[key]
    simp (maxDischargeDepth:=6) only[g0,g4,ho,Tryz.results68,ruW,putL,Nat.reduceLeDiff,xF,ruU,entryE,Nat.reduceLT,Nat.reduceAdd,Nat.reduceMul,Nat.reduceEqDiff]
    exact Fin.pureE rfl rfl
  ·have hjl:j<w.length:=by omega
   have hdj:decide ((j:Int)<(w.length:Int))=true:=decide_eq_true (by omega)
   have ij:=ix_bs hjl
   have hp:=pow_small (show j≤5 by omega)
   obtain⟨c,hc⟩:∃ c,w.getD j 0=c:=⟨_,rfl⟩
   rw[hc]at ij
   have hcl:=c.toNat_lt
   have hcm:c∈w:=by
    rw[←hc,zC3,zB0 hjl]
    exact List.getElem_mem hjl
   obtain⟨p,hpd⟩:∃ p,decide ((c.toNat:Int)<48)=p:=⟨_,rfl⟩
   obtain⟨q,hqd⟩:∃ q,decide ((57:Int)<(c.toNat:Int))=q:=⟨_,rfl⟩
   have hw:IntKind.i64.wrap ((j:Int)+1)=((j+1:Nat):Int):=wrap_succ (by omega)
   have hbad:¬(48≤c.toNat∧c.toNat≤57)→numR w=(0,5):=fun h=>by
    rw[key,if_neg]
    intro h2
    exact h (dig_iff.1 (zB6.1 h2 c hcm))
   cases p with
   |true =>
    rw[hbad (by have:=of_decide_eq_true hpd; omega)]
    simp (maxDischargeDepth:=6) only[g0,g4,g25,g26,hdj,ij,hpd,Tryz.results68,ruW,putL,Nat.reduceLeDiff,xF,ruU,entryE,Nat.reduceLT,Nat.reduceAdd,Nat.reduceMul,Nat.reduceEqDiff]
    exact Fin.pureE rfl rfl
   |false =>
    cases q with
    |true =>
     rw[hbad (by have:=of_decide_eq_true hqd; omega)]
     simp (maxDischargeDepth:=6) only[g0,g4,g25,g26,hdj,ij,hpd,hqd,Tryz.results68,ruW,putL,Nat.reduceLeDiff,xF,ruU,entryE,Nat.reduceLT,Nat.reduceAdd,Nat.reduceMul,Nat.reduceEqDiff]
     exact Fin.pureE rfl rfl
    |false =>
     have a1:=of_decide_eq_false hpd
     have a2:=of_decide_eq_false hqd
     have hm:IntKind.i64.wrap (10*(valR (w.take j):Int))=((10*valR (w.take j):Nat):Int):=by rw[show (10*(valR (w.take j):Int))=((10*valR (w.take j):Nat):Int) by omega]; exact wrap_nat (by omega)
     have hs8:IntKind.u8.wrap ((c.toNat:Int)-48)=((c.toNat-48:Nat):Int):=by
      simp only[IntKind.wrap,IntKind.signed,IntKind.bits]
      simp
      omega
     have hcv:∀ G:AHeap,aConvert Tryz.prog G 5 3 (.int .u8 ((c.toNat-48:Nat):Int))=some (.int .i64 ((c.toNat-48:Nat):Int),G):=fun G=>by
      rw[cv_int (u:=.int .u8) (k:=.i64) (by kernel_rfl) (by kernel_rfl),wrap_nat (by omega)]
     have ha:IntKind.i64.wrap (((10*valR (w.take j):Nat):Int)+((c.toNat-48:Nat):Int))=((10*valR (w.take j)+(c.toNat-48):Nat):Int):=by rw[←Int.natCast_add]; exact wrap_nat (by omega)
     have hts:=take_snoc hjl
     rw[hc]at hts
     simp (maxDischargeDepth:=6) only[g0,g4,g25,g26,hdj,ij,hpd,hqd,hm,hs8,hcv,ha,hw,w_convert,ruW,putL,Nat.reduceLeDiff,xF,ruU,entryE,Nat.reduceLT,Nat.reduceAdd,Nat.reduceMul,Nat.reduceEqDiff]
     refine loopC_next ⟨j+1,by omega,rfl,by omega,fun x hx=>?_,?_,?_,?_,?_,?_⟩
     ·rw[hts,zC2,zA7]at hx
      rcases hx with hx|rfl
      ·exact hdg x hx
      ·exact dig_iff.2 ⟨by omega,by omega⟩
     ·rw[hts,val_snoc,Nat.pow_succ]
      omega
     ·simp only[g0,ruU,entryE,Nat.reduceLT,Nat.reduceAdd,Nat.reduceMul,Nat.reduceEqDiff]
     ·rw[hts,val_snoc]; simp only[ruU,entryE,Nat.reduceLT,Nat.reduceAdd,Nat.reduceMul,Nat.reduceEqDiff]
     ·simp only[g25,ruU,entryE,Nat.reduceLT,Nat.reduceAdd,Nat.reduceMul,Nat.reduceEqDiff]
     ·simp only[ruU,entryE,Nat.reduceLT,Nat.reduceAdd,Nat.reduceMul,Nat.reduceEqDiff]
set_option maxRecDepth 100000
def nmV:List Value:=(List.range 28).map fun i=>.string (bs (nameR i))
theorem nm_len:nmV.length=28:=rfl
theorem nm_get {i:Nat} (h:i<28):nmV[i]?=some (.string (bs (nameR i))):=by
 rw[nmV,List.getElem?_map,List.getElem?_range h]
 rfl
theorem sh_name {s i:Nat} (h:i<28):(shV s)[2*i]?=some (.string (bs (nameR i))):=by
 match i,h with
 |0,_=>rfl
 |1,_=>rfl
 |2,_=>rfl
 |3,_=>rfl
 |4,_=>rfl
 |5,_=>rfl
 |6,_=>rfl
 |7,_=>rfl
 |8,_=>rfl
 |9,_=>rfl
 |10,_=>rfl
 |11,_=>rfl
 |12,_=>rfl
 |13,_=>rfl
 |14,_=>rfl
 |15,_=>rfl
 |16,_=>rfl
 |17,_=>rfl
 |18,_=>rfl
 |19,_=>rfl
 |20,_=>rfl
 |21,_=>rfl
 |22,_=>rfl
 |23,_=>rfl
 |24,_=>rfl
 |25,_=>rfl
 |26,_=>rfl
 |27,_=>rfl
 |n+28,h=>omega
theorem sh_sc {s N:Nat} (h:s+27≤N):scbL N (shV s)=true:=by
 have:∀ j,1≤j→j<27→scb N (fxV (s+j))=true:=fun j h1 h2=>by
  have:decide (s+j<N)=true:=decide_eq_true (by omega)
  have:Nat.blt (s+j) N=true:=blt_of (by omega)
  simp[scb,scbA,scbL,this]
 rw[scbL_iff]
 intro v hv
 simp only[shV,zB1,List.not_mem_nil,or_false]at hv
 rcases hv with rfl|rfl|rfl|rfl|rfl|rfl|rfl|rfl|rfl|rfl|rfl|rfl|rfl|rfl|rfl|rfl|rfl|rfl|rfl|rfl|rfl|rfl|rfl|rfl|rfl|rfl|rfl|rfl|rfl|rfl|rfl|rfl|rfl|rfl|rfl|rfl|rfl|rfl|rfl|rfl|rfl|rfl|rfl|rfl|rfl|rfl|rfl|rfl|rfl|rfl|rfl|rfl|rfl|rfl|rfl|rfl
 all_goals first|rfl|exact this _ (by decide) (by decide)
theorem sh_kv {s N i:Nat} {kv:Value} (h:s+27≤N) (hk:(shV s)[2*i+1]?=some kv):scb N kv=true:=by
 have:=sh_sc h
 rw[scbL_iff]at this
 exact this kv (List.mem_of_getElem? hk)
theorem u54:Tryz.prog.underlying 54=some (.slice 9):=by kernel_rfl
theorem s9:szOf Tryz.prog 9=some 1:=by kernel_rfl
theorem nm_sc {N k:Nat}:scbL N (nmV.take k)=true:=by
 rw[scbL_iff]
 intro v hv
 obtain⟨i,_,rfl⟩:=List.mem_map.1 (List.mem_of_mem_take hv)
 rfl
theorem str_app {X:AHeap} {v:Value} {vs:List Value} {cnt x:Nat} (h:VsAt X 9 1 v vs cnt) (hx:X.next=x) (hb:X.base≤X.next) (hlen:cnt≤1000000) (hs:scbL X.next vs=true) (w:ByteArray) :
  ∃ G,aBuiltin Tryz.prog (ext X [⟨9,false,[.string w]⟩]) .append ⟨[54,54]⟩ [v,.slice (some ⟨x+0,0,some 0⟩) 1 1]=some (.slice (some ⟨x+1,0,none⟩) (cnt+1) (cnt+1),ext G [])∧VsAt G 9 1 (.slice (some ⟨x+1,0,none⟩) (cnt+1) (cnt+1)) (vs++[.string w]) (cnt+1)∧Mod (idsV v) X G∧G.next=x+2:=by
 have h2:VsAt (ext X [⟨9,false,[.string w]⟩]) 9 1 v vs cnt:=h.of (by rw[ext_next]; omega) (fun n hn=>ext_get_old (h.ne n hn).2)
 have hk:bk (ext X [⟨9,false,[.string w]⟩]) (x+0)=some ⟨9,false,[.string w]⟩:=by rw[bk_at hx (by simp)]; rfl
 have hsm:small (cnt+1) 16=true:=by simp only[small,zA4,Nat.ble_eq]; omega
 obtain⟨G,k1,k2,k3,k4,_⟩:=vs_app (P:=Tryz.prog) (H:=ext X [⟨9,false,[.string w]⟩]) (st:=54) (xt:=54) (e:=9) (sz:=1) (by1:=16) (z:=.string .empty) (n:=x+0) (off:=0) (cnt2:=1) (cap:=1) (s:=some 0) (x:=x+1) (ws:=[.string w]) (b:=⟨9,false,[.string w]⟩)
  u54 s9 (by kernel_rfl) (by kernel_rfl) rfl (by kernel_rfl) h2 (rk_of hk) (by simp) rfl rfl (by decide) hsm (by rw[ext_next,hx]; rfl) (scbL_append (by rw[ext_next]; exact scbL_mono (by omega) _ hs) rfl)
 exact⟨G,k1,k2,(Mod.ext hb).trans (k3 ((Mod.ext (W:=[]) hb).ok hb)),k4⟩
theorem names_c (H:AHeap) (hok:H.base≤H.next):CallA Tryz.prog 33 [] H (fun out X=>∃ v,out=.ok v∧VsAt X 9 1 v nmV 28∧Mod [] H X∧∀ n∈idsV v,H.next≤n):=by
 obtain⟨b,hbn⟩:∃ b,H.next=b:=⟨_,rfl⟩
 have hbase:H.base≤b:=hbn▸hok
 refine callE_fn mixed Tryz.func33 rfl Tryz.ntmps33 (zB8 rfl) ?_
 simp (maxDischargeDepth:=6) only[hbn,hbase,ruW,putL,Nat.reduceLeDiff,xF,ruU,entryE,Nat.reduceLT,Nat.reduceAdd,Nat.reduceMul,Nat.reduceEqDiff]
 refine (shapes_c (ext H [])).to ?_
 simp (maxDischargeDepth:=6) only[hbn,hbase,ext_next,zC4,zD0,ruW,putL,Nat.reduceLeDiff,xF,ruU,entryE,Nat.reduceLT,Nat.reduceAdd,Nat.reduceMul,Nat.reduceEqDiff]
 refine w_env fun E hE=>?_
 have g1:E 1=.slice none 0 0:=by rw[hE]; simp only[ruU,entryE,Nat.reduceLT,Nat.reduceAdd,Nat.reduceMul,Nat.reduceEqDiff]
 have g4:E 4=.agg ⟨shV b⟩:=by rw[hE]; simp only[ruU,entryE,Nat.reduceLT,Nat.reduceAdd,Nat.reduceMul,Nat.reduceEqDiff]
 have g5:E 5=.int .i64 ((0:Nat):Int):=by rw[hE]; (simp only[ruU,entryE,Nat.reduceLT,Nat.reduceAdd,Nat.reduceMul,Nat.reduceEqDiff]<;>rfl)
 clear hE
 generalize hX0:ext _ _=X0
 have m0:Mod [] H X0:=by
  rw[←hX0]
  first
   |exact Mod.ext hok
   |exact (Mod.ext hok).trans (Mod.ext ((Mod.ext (W:=[]) hok).ok hok))
 have n0:b+27≤X0.next:=by rw[←hX0]; simp only[ext_next,hbn,shB,zA9,zC4]; omega
 clear hX0
 refine w_loop (fun (z:Nat × Value) E' X=>Mod [] H X∧b+27≤X.next∧VsAt X 9 1 z.2 (nmV.take z.1) z.1∧(∀ n∈idsV z.2,b≤n)∧z.1≤28∧E' 1=z.2∧E' 4=.agg ⟨shV b⟩∧E' 5=.int .i64 (z.1:Int)) (fun z=>28-z.1) (0,.slice none 0 0)
  ⟨m0,n0,VsAt.nil,fun n hn=>by simp[idsV]at hn,by decide,g1,g4,g5⟩ ?_
 clear g1 g4 g5 m0 n0 X0 E
 rintro⟨i,v⟩ E X ⟨m,nx,hv,hvi,hi,g1,g4,g5⟩
 simp only at hv hvi hi g1 g5
 obtain⟨x,hx⟩:∃ x,X.next=x:=⟨_,rfl⟩
 have hxb:X.base≤x:=hx▸m.ok hok
 rw[hx]at nx
 obtain⟨va,ev⟩:=hv.len
 rw[show X=ext X [] from rfl]
 by_cases hie:i=28
 ·have hd:decide ((i:Int)<28)=false:=decide_eq_false (by omega)
  rw[ev]at g1
  simp (maxDischargeDepth:=6) only[g1,g4,g5,hd,Tryz.results33,ruW,putL,Nat.reduceLeDiff,xF,ruU,entryE,Nat.reduceLT,Nat.reduceAdd,Nat.reduceMul,Nat.reduceEqDiff]
  rw[←ev]
  subst hie
  refine⟨v,rfl,?_,m,hvi⟩
  rw[zD8 (by rw[nm_len]; omega)]at hv
  exact hv
 ·have hil:i<28:=by omega
  have hd:decide ((i:Int)<28)=true:=decide_eq_true (by omega)
  obtain⟨f,ca,Fk,hkv,hkb,hkF,hkc⟩:=kinds_c b i hil
  have hix:=ix114 hil (sh_name hil) hkv
  have hks:∀ N,x≤N→scb N (.func (.func f) ⟨[]⟩ ⟨ca⟩)=true:=fun N h=>sh_kv (by omega) hkv
  have hcs:∀ N,x≤N→scbL N ca=true:=fun N h=>by
   have:=hks N h
   rw[sc_func,zA4]at this
   exact this.2
  have hc0:=hcs x (zA8 _)
  have hc1:=hcs (x+1) (by omega)
  obtain⟨Y,hY⟩:∃ Y,ext X [⟨113,false,[.string (bs (nameR i)),.func (.func f) ⟨[]⟩ ⟨ca⟩]⟩]=Y:=⟨_,rfl⟩
  have mY:Mod [] X Y:=hY▸Mod.ext (by omega)
  have nY:Y.next=x+1:=by rw[←hY,ext_next,hx]; rfl
  have hvY:VsAt Y 9 1 v (nmV.take i) i:=hv.of mY.next fun n hn=>mY.get n (hv.ne n hn).2 (by simp)
  obtain⟨G,k1,vG,mG,nG⟩:=str_app hvY nY (mY.ok (by omega)) (by omega) nm_sc (bs (nameR i))
  have hAB:ext X [⟨113,false,[.string (bs (nameR i)),.func (.func f) ⟨[]⟩ ⟨ca⟩]⟩,⟨9,false,[.string (bs (nameR i))]⟩]=ext Y [⟨9,false,[.string (bs (nameR i))]⟩]:=by rw[←hY,ext_append]; rfl
  rw[←hAB]at k1
  replace k1:aBuiltin Tryz.prog (ext X [⟨113,false,[.string (bs (nameR i)),.func (.func f) ⟨[]⟩ ⟨ca⟩]⟩,⟨9,false,[.string (bs (nameR i))]⟩]) .append ⟨[54,54]⟩ [v,.slice (some ⟨x+1,0,some 0⟩) 1 1]=some (.slice (some ⟨x+1+1,0,none⟩) (i+1) (i+1),ext G []):=k1
  have hw:IntKind.i64.wrap ((i:Int)+1)=((i+1:Nat):Int):=wrap_succ (by omega)
  rw[ev]at g1 k1
  simp (maxDischargeDepth:=6) only[g1,g4,g5,hd,hix,hx,hxb,hc0,hc1,k1,hw,ruW,putL,Nat.reduceLeDiff,xF,ruU,entryE,Nat.reduceLT,Nat.reduceAdd,Nat.reduceMul,Nat.reduceEqDiff]
  have hts:nmV.take (i+1)=nmV.take i++[.string (bs (nameR i))]:=by rw[List.take_add_one,nm_get hil]; rfl
  have mm:=m.trans mY
  refine loopC_next ⟨(i+1,.slice (some ⟨x+1+1,0,none⟩) (i+1) (i+1)),by simp only; omega,mm.step mG hok fun n hn=>.inr (by have:=hvi n hn; omega),by rw[ext_nil,nG]; omega,by rw[hts]; exact vG,fun n hn=>by simp only[idsV,zA7]at hn; omega,by simp only; omega,?_,?_,?_⟩
  all_goals simp only[g4,ruU,entryE,Nat.reduceLT,Nat.reduceAdd,Nat.reduceMul,Nat.reduceEqDiff]
set_option maxRecDepth 100000
open Go.ChangeShapes Go.WideShapes Go.ChangeAt Go.RowKit Go.Ax
section
variable {P : Program} {w : World} {r : Reach} {base : Nat}
theorem ok_strB {t:TypeId} {v:Value} (ht:P.underlying t=some .string) (h:Value.okWide P w r base t v):∃ s,v=.string s:=by
 unfold Value.okWide at h
 rw[ht]at h
 unfold Cell.okWide Cell.ok at h
 cases v<;>simp[ht]at h
 exact⟨_,rfl⟩
end
theorem trodAll_carryB {K:Type} {enc:TypeId × Value→K} {P:Program} (hl:laidOutB P=true) {W W':World} (hb:Below W.heap.size W W'):∀ {ts:List TypeId} {vs:List Value} {ds:List (DataW K)} {ps:List MemPlace},
  (ts.all fun t=>P.readableRec t&&Nat.blt t P.types.size)=true→DataW.TrodAll enc P W 0 (fun _=>true) true ts vs ds ps→(∀ x∈ps,x.block<W.heap.size)→DataW.TrodAll enc P W' 0 (fun b=>decide (b<W.heap.size)) true ts vs ds ps
 |[],[],[],ps,_,h,_=>h
 |t::ts,v::vs,d::ds,ps,ht,h,hp=>by
  obtain⟨p,q,h1,h2,rfl⟩:=h
  simp only[List.all_cons,zA4]at ht
  exact⟨p,q,Below.trod hl ht.1.1 (blt_lt ht.1.2) h1 hb (fun x hx=>hp x (by simp[hx])),trodAll_carryB hl hb (by simpa using ht.2) h2 (fun x hx=>hp x (by simp[hx])),rfl⟩
theorem ownB:ownKnob Tryz.prog.godebug=none:=by kernel_rfl
theorem laidOutBz:laidOutB Tryz.prog=true:=by kernel_rfl
def LaidP (w:World) (e:TypeId):Prop:=∃ c,w.heap[3]?=some (.cells c e (0,0))∧c.toList=dc powD
theorem tab_laidP {w:World} {laid:List (String × DataW Unit)} (h:laidMet Tryz.prog laid w) (hx:("internal/strconv.uint64pow10", powD)∈laid):∃ e,LaidP w e:=by
 obtain⟨c1,t1,a1,b1⟩:=laid_tab h (name := "internal/strconv.uint64pow10") (d:=powD) hx (g:=3) (t:=207) (e:=190) (ts:=[190]) (D:=1000) (n:=20) (by kernel_rfl) (by kernel_rfl) (by kernel_rfl) (by kernel_rfl) (by kernel_rfl) (by kernel_rfl) (by kernel_rfl) (blt_lt (by kernel_rfl))
 exact⟨t1,c1,a1,b1⟩
theorem bk_put_eqB {H:AHeap} {g:Nat} {e:TypeId} {vs:List Value}:bk (H.put g (some (tabO e vs))) g=some ⟨e,false,vs⟩:=by
 refine blk_bk ⟨RV.ofList vs,?_,RV.n_ofList _,fun i hi=>?_⟩
 ·simp only[cellsAt,AHeap.get_put,if_true,tabO]
 ·rw[RV.get_ofList]
theorem add_pow {ρ:Ren} {H:AHeap} {W:World} {e:TypeId} (r:Rel Tryz.prog ρ H W) (hl:LaidP W e) (hex:∀ g,ρ.ex g=0) (hi:∀ n,H.get n≠none→ρ.blk n=3→n=3) (hn:3<H.next) :
  ∃ H1,Rel Tryz.prog ρ H1 W∧H1.next=H.next∧H1.base=H.base∧H1.dirty=H.dirty∧Pow H1∧∀ n,n≠3→H1.get n=H.get n:=by
 obtain⟨c1,a1,b1⟩:=hl
 have r1:=rel_tab r (g:=3) (show 3<Tryz.prog.globals.size by decide +kernel) (hex 3) hi a1 b1 (by kernel_rfl)
 exact⟨_,r1,rfl,rfl,rfl,⟨hn,e,bk_put_eqB⟩,fun n hn=>by rw[AHeap.get_put,if_neg hn]⟩
theorem nomemB (W:World) {e:TypeId} (hl:LaidP W e) (N b off:Nat) (hN:Tryz.prog.globals.size≤N):∃ H:AHeap,Rel Tryz.prog (enR N b off) H W∧H.base=H.next∧H.dirty=[]∧H.next=N+1∧Pow H:=by
 have h2:6≤N:=zD1 (zB8 (by kernel_rfl)) hN
 have r:Rel Tryz.prog (enR N b off) (AHeap.none (N+1)) W:=⟨zA8 _,⟨Nat.le_succ_of_le hN,fun g hg=>by
   have:g≠N:=by omega
   exact⟨if_neg this,if_neg this⟩⟩,fun m _ hm=>absurd (none_get _ m) hm,fun n o ho=>(by rw[none_get]at ho; cases ho),fun n o ho=>(by rw[none_get]at ho; cases ho)⟩
 obtain⟨H1,k1,k2,k3,k4,k5,_⟩:=add_pow r hl (fun _=>rfl) (fun n h=>absurd (none_get _ n) h) (by show 3<N+1; omega)
 exact⟨H1,k1,by rw[k3,k2]; rfl,by rw[k4]; rfl,by rw[k2]; rfl,k5⟩
theorem law_callsP {f:FuncId} {W:World} {e:TypeId} (hl:LaidP W e) (args:List Value) (h1:args.all af=true)
  (walk:∀ (H:AHeap),H.base≤H.next→Pow H→CallA Tryz.prog f args H fun out H1=>out=.ok (.bool true)∧Mod [] H H1) :
  Calls Tryz.prog f args.toArray W (fun e w'=>e=.returned (.bool true)∧RowKit.Below W.heap.size W w'):=by
 obtain⟨H,hr,hb,hd,hn,ht⟩:=nomemB W hl Tryz.prog.globals.size 0 0 (zA8 _)
 have:=rel_calls hr (args:=args) (scbL_of_af _ (afL_of fun x hx=>zB6.1 h1 x hx)) hb hd (walk H (Nat.le_of_eq hb) ht)
 rw[map_af _ args (fun x hx=>zB6.1 h1 x hx)]at this
 exact this
set_option maxRecDepth 100000
theorem split_len (c:UInt8):∀ s,(splitR c s).length=Go.Lib.countByte s c+1
 |[]=>rfl
 |x::r=>by
  have:=split_len c r
  rw[splitR]
  unfold Go.Lib.countByte at this ⊢
  by_cases h:x=c
  ·subst h
   rw[if_pos rfl,List.count_cons_self,zA9,this]
  ·rw[if_neg h,List.count_cons_of_ne h]
   obtain⟨a,t,e⟩:=List.exists_cons_of_ne_nil (split_ne c r)
   rw[e]at this ⊢
   simpa using this
theorem split_one {c:UInt8} {s:List UInt8} (h:(splitR c s).length=1):splitR c s=[s]:=by
 obtain⟨a,t,e⟩:=List.exists_cons_of_ne_nil (split_ne c s)
 have hj:=split_join e
 rw[e,zA9]at h
 have:t=[]:=List.eq_nil_of_length_eq_zero (by omega)
 subst this
 rw[e,hj]
 simp
theorem count_le (c:UInt8) (s:List UInt8):Go.Lib.countByte s c≤s.length:=List.count_le_length ..
def strV (l:List (List UInt8)):List Value:=l.map fun w=>.string (bs w)
def splV (ws:List (List UInt8)) (k:Nat):List Value:=strV ws++List.replicate k (.string .empty)
theorem splV_len (ws:List (List UInt8)) (k:Nat):(splV ws k).length=ws.length+k:=by simp[splV,strV]
theorem putL_mid:∀ (A L:List Value) (x v:Value),putL (A++x::L) A.length [v]=A++v::L
 |[],L,x,v=>by cases L<;>rfl
 |y::A,L,x,v=>by
  show y::putL (A++x::L) A.length [v]=_
  rw[putL_mid A L x v]
  rfl
theorem splV_put (ws:List (List UInt8)) (k:Nat) (w:List UInt8):putL (splV ws (k+1)) ws.length [.string (bs w)]=splV (ws++[w]) k:=by
 have hl:(strV ws).length=ws.length:=by simp[strV]
 rw[splV,List.replicate_succ,←hl,putL_mid]
 simp[splV,strV]
theorem zeros_rep (n:Nat):zerosL [.string .empty] n=splV [] n:=by
 have:∀ n,zerosL [.string .empty] n=List.replicate n (Value.string .empty):=fun n=>by
  induction n with
  |zero=>rfl
  |succ n ih=>rw[zerosL,ih,List.replicate_succ]; rfl
 rw[this]
 rfl
theorem rep_sc {N:Nat} (ws:List (List UInt8)) (n:Nat):scbL N (splV ws n)=true:=by
 rw[scbL_iff]
 intro v hv
 rcases zC2.1 hv with hv|hv
 ·obtain⟨w,_,rfl⟩:=List.mem_map.1 hv
  rfl
 ·rw[(List.mem_replicate.1 hv).2]
  rfl
theorem u54':Tryz.prog.underlying 54=some (.slice 9):=by kernel_rfl
theorem s9':szOf Tryz.prog 9=some 1:=by kernel_rfl
theorem eqb_none {H:AHeap} {a b:ByteArray}:aBin Tryz.prog H .eql 9 (.string a) (.string b)=none:=by kernel_rfl
theorem eqb_bs (a b:List UInt8):((bs a).toList == (bs b).toList)=decide (a=b):=by
 have h1:∀ l:List UInt8,(bs l).toList=l:=fun l=>by rw[Go.Lib.toList_data]
 rw[h1,h1]
 by_cases h:a=b
 ·subst h; simp
 ·simp[h]
theorem mkS_c {H:AHeap} {L:List Bl} {n b:Nat} (hb:H.next=b) (hn:n≤1000000):aMakeSlice Tryz.prog (ext H L) 54 (.int .i64 (n:Int)) (.int .i64 (n:Int))=some (.slice (some ⟨b+L.length,0,some 0⟩) n n,ext H (L++[⟨9,false,splV [] n⟩])):=by
 have hy:bytesOf Tryz.prog 9=some 16:=by kernel_rfl
 have hz:zeroOf Tryz.prog 9=some (.string .empty):=by kernel_rfl
 have hsm:small n 16=true:=by simp only[small,zA4,Nat.ble_eq]; omega
 have hc:(Value.string .empty).cells.toList=[.string .empty]:=rfl
 simp only[aMakeSlice,u54',hy,s9',hz,zA1,zA3,zC1,hsm,hc,zeros_rep]
 rw[if_pos (by simp),new_ext (rep_sc _ _),zA3,ext_next,hb]
theorem genSplit_c (H:AHeap) (s:List UInt8) (hs:s.length≤900000) (hok:H.base≤H.next):CallA Tryz.prog 95 [.string (bs s),.string (bs [32]),.int .i64 0,.int .i64 (-1)] H (fun out X=>∃ x,H.next≤x∧x<X.next∧out=.ok (.slice (some ⟨x,0,some 0⟩) (splitR 32 s).length (splitR 32 s).length)∧bk X x=some ⟨9,false,strV (splitR 32 s)⟩∧Mod [] H X):=by
 obtain⟨b,hbn⟩:∃ b,H.next=b:=⟨_,rfl⟩
 have hbase:H.base≤b:=hbn▸hok
 have hz0:decide ((-1:Int)=0)=false:=by decide
 have hz1:decide ((-1:Int)<0)=true:=by decide
 have hc:=split_len 32 s
 have hcl:=count_le 32 s
 obtain⟨n,hn⟩:∃ n,(splitR 32 s).length=n:=⟨_,rfl⟩
 rw[hn]at hc ⊢
 refine callE_fn mixed Tryz.func95 rfl Tryz.ntmps95 (zB8 rfl) ?_
 simp (maxDischargeDepth:=6) only[hbn,hbase,hz0,ruW,putL,Nat.reduceLeDiff,xF,ruU,entryE,Nat.reduceLT,Nat.reduceAdd,Nat.reduceMul,Nat.reduceEqDiff]
 refine (w_eqStr (a:=bs [32]) (b:=bs []) (by simp only[ruU,entryE,Nat.reduceLT,Nat.reduceAdd,Nat.reduceMul,Nat.reduceEqDiff]) (by simp only[ruU,entryE,Nat.reduceLT,Nat.reduceAdd,Nat.reduceMul,Nat.reduceEqDiff]) (by simp only[ruU,entryE,Nat.reduceLT,Nat.reduceAdd,Nat.reduceMul,Nat.reduceEqDiff]) (by simp only[ruU,entryE,Nat.reduceLT,Nat.reduceAdd,Nat.reduceMul,Nat.reduceEqDiff]<;>rfl) (by decide) eqb_none).mpr ?_
 rw[eqb_bs,show decide (([32]:List UInt8)=[])=false from rfl]
 simp (maxDischargeDepth:=6) only[hbn,hbase,hz1,ruW,putL,Nat.reduceLeDiff,xF,ruU,entryE,Nat.reduceLT,Nat.reduceAdd,Nat.reduceMul,Nat.reduceEqDiff]
 refine (count_c (ext H []) (bs s) 32).to ?_
 have hw1:IntKind.i64.wrap ((Go.Lib.countByte (bs s).data.toList 32:Int)+1)=(n:Int):=by
  have e:((Go.Lib.countByte (bs s).data.toList 32:Int)+1)=(n:Int):=by
   show ((Go.Lib.countByte s 32:Int)+1)=(n:Int)
   omega
  rw[e]
  exact wrap_nat (by omega)
 have hw2:IntKind.i64.wrap ((s.length:Int)+1)=((s.length+1:Nat):Int):=wrap_succ (by omega)
 have hmin:min (n:Int) ((s.length+1:Nat):Int)=(n:Int):=by omega
 have hw3:IntKind.i64.wrap ((n:Int)-1)=((n-1:Nat):Int):=(wrap_sm (by omega) (by omega)).trans (by omega)
 simp (maxDischargeDepth:=6) only[hbn,hbase,hw1,hw2,hmin,hw3,rb_lenStr u9,bt_lenStr u9,bs_size,w_makeSlice,mkS_c (L:=[]) hbn (show n≤1000000 by omega),ruW,putL,Nat.reduceLeDiff,xF,ruU,entryE,Nat.reduceLT,Nat.reduceAdd,Nat.reduceMul,Nat.reduceEqDiff]
 refine w_env fun E hE=>?_
 have g0:E 0=.string (bs s):=by rw[hE]; simp only[ruU,entryE,Nat.reduceLT,Nat.reduceAdd,Nat.reduceMul,Nat.reduceEqDiff]
 have g1:E 1=.string (bs [32]):=by rw[hE]; simp only[ruU,entryE,Nat.reduceLT,Nat.reduceAdd,Nat.reduceMul,Nat.reduceEqDiff]
 have g2:E 2=.int .i64 0:=by rw[hE]; simp only[ruU,entryE,Nat.reduceLT,Nat.reduceAdd,Nat.reduceMul,Nat.reduceEqDiff]
 have g3:E 3=.int .i64 ((n-1:Nat):Int):=by rw[hE]; simp only[ruU,entryE,Nat.reduceLT,Nat.reduceAdd,Nat.reduceMul,Nat.reduceEqDiff]
 have g9:E 9=.slice (some ⟨b+0,0,some 0⟩) n n:=by rw[hE]; (simp only[ruU,entryE,Nat.reduceLT,Nat.reduceAdd,Nat.reduceMul,Nat.reduceEqDiff]<;>rfl)
 have g10:E 10=.int .i64 ((0:Nat):Int):=by rw[hE]; (simp only[ruU,entryE,Nat.reduceLT,Nat.reduceAdd,Nat.reduceMul,Nat.reduceEqDiff]<;>rfl)
 clear hE
 generalize hX0:ext H _=X0
 have m0:Mod [] H X0:=hX0▸Mod.ext hok
 have n0:b+1≤X0.next:=by rw[←hX0,ext_next,hbn]; simp
 have k0:bk X0 (b+0)=some ⟨9,false,splV [] n⟩:=by rw[←hX0,bk_at hbn (by simp)]; rfl
 clear hX0
 refine blockC_meet (fun E' X=>∃ ws t,Mod [] H X∧b+1≤X.next∧bk X (b+0)=some ⟨9,false,splV ws 1⟩∧ws++[t]=splitR 32 s∧E' 0=.string (bs t)∧E' 9=.slice (some ⟨b+0,0,some 0⟩) n n∧E' 10=.int .i64 (ws.length:Int)) ?_ ?_
 ·refine w_loop (fun (z:List (List UInt8) × List UInt8) E' X=>Mod [] H X∧b+1≤X.next∧bk X (b+0)=some ⟨9,false,splV z.1 (n-z.1.length)⟩∧z.1++splitR 32 z.2=splitR 32 s∧z.2.length≤s.length∧E' 0=.string (bs z.2)∧E' 1=.string (bs [32])∧E' 2=.int .i64 0∧E' 3=.int .i64 ((n-1:Nat):Int)∧E' 9=.slice (some ⟨b+0,0,some 0⟩) n n∧E' 10=.int .i64 (z.1.length:Int)) (fun z=>n-z.1.length) ([],s)
   ⟨m0,n0,k0,rfl,zA8 _,g0,g1,g2,g3,g9,g10⟩ ?_
  clear g0 g1 g2 g3 g9 g10 m0 n0 k0 X0 E
  rintro⟨ws,t⟩ E X ⟨m,nx,k,htot,htl,g0,g1,g2,g3,g9,g10⟩
  simp only at k htot htl g0 g10
  have hlen:=congrArg List.length htot
  rw[zB3,hn]at hlen
  have hpos:=List.length_pos_iff.2 (split_ne 32 t)
  obtain⟨x,hx⟩:∃ x,X.next=x:=⟨_,rfl⟩
  rw[hx]at nx
  have hbx:b+0<x:=by omega
  rw[show X=ext X [] from rfl]
  by_cases hie:ws.length=n-1
  ·have hd:decide ((ws.length:Int)<((n-1:Nat):Int))=false:=decide_eq_false (by omega)
   have h1:=split_one (c:=32) (s:=t) (by omega)
   rw[h1]at htot
   rw[show n-ws.length=1 by omega]at k
   simp (maxDischargeDepth:=6) only[g0,g1,g2,g3,g9,g10,hd,ruW,putL,Nat.reduceLeDiff,xF,ruU,entryE,Nat.reduceLT,Nat.reduceAdd,Nat.reduceMul,Nat.reduceEqDiff]
   refine joinR_normal ⟨ws,t,m,by rw[ext_nil,hx]; exact nx,k,htot,?_,?_,?_⟩<;>simp only[g0,g9,g10,ruU,entryE,Nat.reduceLT,Nat.reduceAdd,Nat.reduceMul,Nat.reduceEqDiff]
  ·have hd:decide ((ws.length:Int)<((n-1:Nat):Int))=true:=decide_eq_true (by omega)
   simp (maxDischargeDepth:=6) only[g0,g1,g2,g3,g9,g10,hd,ruW,putL,Nat.reduceLeDiff,xF,ruU,entryE,Nat.reduceLT,Nat.reduceAdd,Nat.reduceMul,Nat.reduceEqDiff]
   refine (index1_c (ext X []) (bs t) 32).to ?_
   obtain⟨i0,hi0⟩:∃ i0,Go.Lib.indexByte (bs t).data.toList 32=i0:=⟨_,rfl⟩
   rw[hi0]
   have hi0':Go.Lib.indexByte t 32=i0:=hi0
   by_cases hneg:i0<0
   ·have hge:=Go.Lib.indexByte_ge t 32
    have h1:=split_none (c:=32) (s:=t) (by omega)
    rw[h1,zC0]at hlen
    exact absurd (show ws.length=n-1 by omega) hie
   ·have hd2:decide (i0<0)=false:=decide_eq_false hneg
    obtain⟨i,rfl⟩:∃ i:Nat,i0=i:=⟨i0.toNat,by omega⟩
    obtain⟨hil,hsp⟩:=split_some hi0'
    have hw0:IntKind.i64.wrap ((i:Int)+0)=(i:Int):=(wrap_sm (by omega) (by omega)).trans (by omega)
    have hw1:IntKind.i64.wrap ((i:Int)+((1:Nat):Int))=((i+1:Nat):Int):=(wrap_sm (by omega) (by omega)).trans (by omega)
    have hw4:IntKind.i64.wrap ((ws.length:Int)+1)=((ws.length+1:Nat):Int):=wrap_succ (by omega)
    have s1:∀ G:AHeap,aSlice Tryz.prog G 9 (.string (bs t)) none (some (.int .i64 (i:Int))) none=some (.string (bs (t.take i)),G):=fun G=>sl_to (by omega)
    have s2:∀ G:AHeap,aSlice Tryz.prog G 9 (.string (bs t)) (some (.int .i64 ((i+1:Nat):Int))) none none=some (.string (bs (t.drop (i+1))),G):=fun G=>sl_from (by omega)
    have hia:aIndexAddr Tryz.prog 54 (.slice (some ⟨b+0,0,some 0⟩) n n) (.int .i64 (ws.length:Int))=some (.pointer (some ⟨b+0,0+ws.length*1,none⟩)):=ia_of u54' s9' (by omega)
    rw[zD3,zC8]at hia
    have hsb:0+ws.length+1≤(splV ws (n-ws.length)).length:=by rw[splV_len]; omega
    have hput:putL (splV ws (n-ws.length)) ws.length [.string (bs (t.take i))]=splV (ws++[t.take i]) (n-(ws.length+1)):=by
     rw[show n-ws.length=(n-(ws.length+1))+1 by omega]
     exact splV_put ws _ _
    have hle:ws.length+1≤(splV ws (n-ws.length)).length:=by rw[splV_len]; omega
    simp (maxDischargeDepth:=6) only[g0,g1,g2,g3,g9,g10,hd2,hx,hbx,k,hw0,hw1,hw4,s1,s2,hia,hle,w_slice,bnds_none,bnds_some,bndsOk_none,bndsOk_some,bs_size,rb_lenStr u9,bt_lenStr u9,ruW,putL,Nat.reduceLeDiff,xF,ruU,entryE,Nat.reduceLT,Nat.reduceAdd,Nat.reduceMul,Nat.reduceEqDiff]
    rw[hsp]at htot
    refine loopC_next ⟨(ws++[t.take i],t.drop (i+1)),by simp only[zB3,zC0]; omega,?_,?_,?_,by rw[List.append_assoc]; exact htot,by simp only[List.length_drop]; omega,?_,?_,?_,?_,?_,?_⟩
    ·exact m.step (W':=[b+0]) (Mod.uw (by simp)) hok fun q hq=>.inr (by simp only[zA7]at hq; omega)
    ·rw[ext_nil,uw_next,hx]; exact nx
    ·rw[ext_nil,bk_uw_eq,k,zB3,zC0,←hput]
     rfl
    all_goals simp only[g1,g2,g3,g9,zB3,zC0,ruU,entryE,Nat.reduceLT,Nat.reduceAdd,Nat.reduceMul,Nat.reduceEqDiff]
 ·clear g0 g1 g2 g3 g9 g10 m0 n0 k0 X0 E
  rintro E X ⟨ws,t,m,nx,k,htot,g0,g9,g10⟩
  have hlen:=congrArg List.length htot
  rw[zB3,hn,zC0]at hlen
  obtain⟨x,hx⟩:∃ x,X.next=x:=⟨_,rfl⟩
  rw[hx]at nx
  have hbx:b+0<x:=by omega
  rw[show X=ext X [] from rfl]
  have hw4:IntKind.i64.wrap ((ws.length:Int)+1)=(n:Int):=(wrap_succ (by omega)).trans (by omega)
  have hia:aIndexAddr Tryz.prog 54 (.slice (some ⟨b+0,0,some 0⟩) n n) (.int .i64 (ws.length:Int))=some (.pointer (some ⟨b+0,0+ws.length*1,none⟩)):=ia_of u54' s9' (by omega)
  rw[zD3,zC8]at hia
  have hle:ws.length+1≤(splV ws 1).length:=by rw[splV_len]; omega
  have hsl:∀ G:AHeap,aSlice Tryz.prog G 54 (.slice (some ⟨b+0,0,some 0⟩) n n) none (some (.int .i64 (n:Int))) none=some (.slice (some ⟨b+0,0,some 0⟩) n n,G):=fun G=>by
   have:=sl_exact (P:=Tryz.prog) (H:=G) (t:=54) (n:=b+0) (off:=0) (len:=n) (cap:=n) (lo:=none) (hi:=some (.int .i64 (n:Int))) (l:=0) (h:=n) u54' s9' rfl (by simp[bound]) (zA8 _) (zB4 _) (by omega)
   simpa using this
  simp (maxDischargeDepth:=6) only[g0,g9,g10,hx,hbx,k,hw4,hia,hle,hsl,w_slice,bnds_none,bnds_some,bndsOk_none,bndsOk_some,Tryz.results95,ruW,putL,Nat.reduceLeDiff,xF,ruU,entryE,Nat.reduceLT,Nat.reduceAdd,Nat.reduceMul,Nat.reduceEqDiff]
  refine⟨b,zA8 _,?_,rfl,?_,?_⟩
  ·omega
  ·show bk (uw X (b+0) ws.length _) (b+0)=_
   rw[bk_uw_eq,k,←htot]
   show some (putB _ _ _)=_
   rw[putB_eq,splV_put]
   simp[splV]
  ·exact m.step (W':=[b+0]) (Mod.uw (by simp)) hok fun q hq=>.inr (by simp only[zA7]at hq; omega)
theorem split_c (H:AHeap) (s:List UInt8) (hs:s.length≤900000) (hok:H.base≤H.next):CallA Tryz.prog 67 [.string (bs s),.string (bs [32])] H (fun out X=>∃ x,H.next≤x∧x<X.next∧out=.ok (.slice (some ⟨x,0,some 0⟩) (splitR 32 s).length (splitR 32 s).length)∧bk X x=some ⟨9,false,strV (splitR 32 s)⟩∧Mod [] H X):=by
 obtain⟨b,hbn⟩:∃ b,H.next=b:=⟨_,rfl⟩
 have hbase:H.base≤b:=hbn▸hok
 refine callE_fn mixed Tryz.func67 rfl Tryz.ntmps67 (zB8 rfl) ?_
 simp (maxDischargeDepth:=6) only[ruW,putL,Nat.reduceLeDiff,xF,ruU,entryE,Nat.reduceLT,Nat.reduceAdd,Nat.reduceMul,Nat.reduceEqDiff]
 refine (genSplit_c (ext H []) s hs hok).mono ?_
 rintro _ X ⟨x,h1,h2,rfl,h3,h4⟩
 rw[show X=ext X [] from rfl]
 simp (maxDischargeDepth:=6) only[Tryz.results67,ruW,putL,Nat.reduceLeDiff,xF,ruU,entryE,Nat.reduceLT,Nat.reduceAdd,Nat.reduceMul,Nat.reduceEqDiff]
 exact⟨x,h1,h2,rfl,h3,h4⟩
set_option maxRecDepth 100000
def LineOut (b:Nat) (s:List UInt8) (out:Out) (X:AHeap):Prop:=∃ v,out=.ok (.tuple #[.agg ⟨[.int .i64 0,.int .i64 (lineR s).1.op,v]⟩,.int .i64 (lineR s).2])∧ArgA X v (lineR s).1.args∧∀ n∈idsV v,b≤n
theorem int_app {X:AHeap} {v:Value} {l:List Int} {x:Nat} (h:ArgA X v l) (hx:X.next=x) (hb:X.base≤X.next) (hlen:l.length≤10000000) (n:Int) :
  ∃ G,aBuiltin Tryz.prog (ext X [⟨3,false,[.int .i64 n]⟩]) .append ⟨[35,35]⟩ [v,.slice (some ⟨x+0,0,some 0⟩) 1 1]=some (.slice (some ⟨x+1,0,none⟩) (l.length+1) (l.length+1),ext G [])∧ArgA G (.slice (some ⟨x+1,0,none⟩) (l.length+1) (l.length+1)) (l++[n])∧Mod (idsV v) X G∧G.next=x+2:=by
 have h2:VsAt (ext X [⟨3,false,[.int .i64 n]⟩]) 3 1 v (iv l) l.length:=VsAt.of h (by rw[ext_next]; omega) (fun n hn=>ext_get_old (h.ne n hn).2)
 have hk:bk (ext X [⟨3,false,[.int .i64 n]⟩]) (x+0)=some ⟨3,false,[.int .i64 n]⟩:=by rw[bk_at hx (by simp)]; rfl
 have hsm:small (l.length+1) 8=true:=by simp only[small,zA4,Nat.ble_eq]; omega
 have hsc:scbL (ext X [⟨3,false,[.int .i64 n]⟩]).next (iv l++[.int .i64 n])=true:=by
  rw[scbL_iff]
  intro v' hv'
  rcases zC2.1 hv' with hv'|hv'
  ·obtain⟨w',_,rfl⟩:=List.mem_map.1 hv'; rfl
  ·rw[zA7]at hv'; rw[hv']; rfl
 obtain⟨G,k1,k2,k3,k4,_⟩:=vs_app (P:=Tryz.prog) (H:=ext X [⟨3,false,[.int .i64 n]⟩]) (st:=35) (xt:=35) (e:=3) (sz:=1) (by1:=8) (z:=.int .i64 0) (n:=x+0) (off:=0) (cnt2:=1) (cap:=1) (s:=some 0) (x:=x+1) (ws:=[.int .i64 n]) (b:=⟨3,false,[.int .i64 n]⟩)
  u35 s3 (by kernel_rfl) (by kernel_rfl) rfl (by kernel_rfl) h2 (rk_of hk) (by simp) rfl rfl (by decide) hsm (by rw[ext_next,hx]; rfl) hsc
 refine⟨G,k1,?_,(Mod.ext hb).trans (k3 ((Mod.ext (W:=[]) hb).ok hb)),k4⟩
 show VsAt G 3 1 _ (iv (l++[n])) (l++[n]).length
 rw[zB3,show iv (l++[n])=iv l++[.int .i64 n] by simp[iv]]
 exact k2
theorem sl_tail (w n:Nat) (hn:1≤n) (G:AHeap):aSlice Tryz.prog G 54 (.slice (some ⟨w,0,some 0⟩) n n) (some (.int .i64 1)) none none=some (.slice (some ⟨w,if n=1 then 0 else 0+1*1,some 0⟩) (n-1) (n-1),G):=by
 simp only[aSlice,u54',s9',aSlice2,bound,zA1,zA3,exactAt]
 rw[if_pos (by omega),zA3]
 rw[if_pos ⟨zA8 _,hn⟩]
 rfl
theorem rd_tail {G:AHeap} {w:Nat} {h:List UInt8} {t:List (List UInt8)} (hb:bk G w=some ⟨9,false,strV (h::t)⟩) (hl:w<G.next):RdAt G 1 (.slice (some ⟨w,if t.length+1=1 then 0 else 0+1*1,some 0⟩) t.length t.length) (strV t) t.length:=by
 have hs:(strV t).length=t.length:=by simp[strV]
 refine⟨by rw[hs,zD3],?_⟩
 by_cases h0:t.length=0
 ·exact .inl ⟨h0,_,_,by rw[h0]⟩
 ·refine .inr ⟨by omega,w,0+1*1,some 0,t.length,9,false,strV (h::t),?_,rk_of hb,hl,?_,?_⟩
  ·rw[if_neg (by omega)]
  ·simp[strV]; omega
  ·show ((strV t).take (t.length*1))=_
   exact zD8 (by omega)
theorem parse_c (H:AHeap) (s:List UInt8) (hs:s.length≤900000) (hok:H.base≤H.next):CallA Tryz.prog 42 [.string (bs s)] H (fun out X=>LineOut H.next s out X∧Mod [] H X):=by
 obtain⟨b,hbn⟩:∃ b,H.next=b:=⟨_,rfl⟩
 have hbase:H.base≤b:=hbn▸hok
 obtain⟨h,t,hht⟩:=List.exists_cons_of_ne_nil (split_ne 32 s)
 have hline:∀ r,lineR s=r→(lineR s).1=r.1∧(lineR s).2=r.2:=fun r e=>by rw[e]; exact⟨rfl,rfl⟩
 have hL:lineR s=(if opK h 28<0 then (⟨0,-1,[]⟩,5) else
   if (argsR t []).2≠0 then (⟨0,opK h 28,(argsR t []).1⟩,(argsR t []).2) else
   if (argsR t []).1.length<(kindsR (opK h 28).toNat []).length∨(argsR t []).1.length≠(kindsR (opK h 28).toNat (argsR t []).1).length then (⟨0,opK h 28,(argsR t []).1⟩,5) else
   (⟨0,opK h 28,(argsR t []).1⟩,0)):=by simp only[lineR,hht,List.headD_cons,List.tail_cons]
 refine callE_fn mixed Tryz.func42 rfl Tryz.ntmps42 (zB8 rfl) ?_
 rw[hbn]
 simp (maxDischargeDepth:=6) only[hbn,hbase,ruW,putL,Nat.reduceLeDiff,xF,ruU,entryE,Nat.reduceLT,Nat.reduceAdd,Nat.reduceMul,Nat.reduceEqDiff]
 have mH:Mod [] H (ext H [⟨59,false,[.int .i64 0,.int .i64 0,.slice none 0 0]⟩]):=Mod.ext hok
 refine (split_c (ext H [⟨59,false,[.int .i64 0,.int .i64 0,.slice none 0 0]⟩]) s hs (mH.ok hok)).mono ?_
 rintro _ X ⟨w,hw1,hw2,rfl,kw,m1⟩
 rw[ext_next,hbn,zC0]at hw1
 have mX:=mH.trans m1
 have kb:bk X (b+0)=some ⟨59,false,[.int .i64 0,.int .i64 0,.slice none 0 0]⟩:=(m1.bk (by rw[ext_next,hbn]; simp) (by simp)).trans (by rw[bk_at hbn (by simp)]; rfl)
 rw[hht]at kw ⊢
 obtain⟨n,hn⟩:∃ n,(h::t).length=n:=⟨_,rfl⟩
 have hnt:n=t.length+1:=by rw[←hn,zA9]
 rw[hn]
 obtain⟨x,hx⟩:∃ x,X.next=x:=⟨_,rfl⟩
 have hxb:X.base≤x:=hx▸mX.ok hok
 rw[hx]at hw2
 clear m1 mH
 rw[show X=ext X [] from rfl]
 simp (maxDischargeDepth:=6) only[hx,hxb,ruW,putL,Nat.reduceLeDiff,xF,ruU,entryE,Nat.reduceLT,Nat.reduceAdd,Nat.reduceMul,Nat.reduceEqDiff]
 obtain⟨Z,hZ⟩:∃ Z,ext X [⟨59,false,[.int .i64 0,.int .i64 (-1),.slice none 0 0]⟩]=Z:=⟨_,rfl⟩
 have mZ:Mod [] X Z:=hZ▸Mod.ext (by omega)
 have nZ:Z.next=x+1:=by rw[←hZ,ext_next,hx]; rfl
 have kZ:bk Z (x+0)=some ⟨59,false,[.int .i64 0,.int .i64 (-1),.slice none 0 0]⟩:=by rw[←hZ,bk_at hx (by simp)]; rfl
 rw[hZ]
 clear hZ
 have mHZ:=mX.trans mZ
 have kbZ:=(mZ.bk (by omega) (by simp)).trans kb
 have kwZ:=(mZ.bk (by omega) (by simp)).trans kw
 refine (names_c Z (mHZ.ok hok)).mono ?_
 rintro _ X2 ⟨nv,rfl,hnv,m2,hni⟩
 rw[nZ]at hni
 have n2:=m2.next
 rw[nZ]at n2
 have kx2:=(m2.bk (by omega) (by simp)).trans kZ
 have kb2:=(m2.bk (by omega) (by simp)).trans kbZ
 have kw2:=(m2.bk (by omega) (by simp)).trans kwZ
 have mH2:=mHZ.trans m2
 obtain⟨na,ena⟩:=hnv.len
 subst ena
 rw[show X2=ext X2 [] from rfl]
 simp (maxDischargeDepth:=6) only[ruW,putL,Nat.reduceLeDiff,xF,ruU,entryE,Nat.reduceLT,Nat.reduceAdd,Nat.reduceMul,Nat.reduceEqDiff]
 refine w_env fun E hE=>?_
 have g2:E 2=.pointer (some ⟨b+0,0,none⟩):=by rw[hE]; simp only[ruU,entryE,Nat.reduceLT,Nat.reduceAdd,Nat.reduceMul,Nat.reduceEqDiff]
 have g4:E 4=.slice (some ⟨w,0,some 0⟩) n n:=by rw[hE]; simp only[ruU,entryE,Nat.reduceLT,Nat.reduceAdd,Nat.reduceMul,Nat.reduceEqDiff]
 have g5:E 5=.pointer (some ⟨x+0,0,none⟩):=by rw[hE]; simp only[ruU,entryE,Nat.reduceLT,Nat.reduceAdd,Nat.reduceMul,Nat.reduceEqDiff]
 have g16:E 16=.slice na 28 28:=by rw[hE]; simp only[ruU,entryE,Nat.reduceLT,Nat.reduceAdd,Nat.reduceMul,Nat.reduceEqDiff]
 have g17:E 17=.int .i64 ((28:Nat):Int):=by rw[hE]; (simp only[ruU,entryE,Nat.reduceLT,Nat.reduceAdd,Nat.reduceMul,Nat.reduceEqDiff]<;>rfl)
 have g18:E 18=.int .i64 ((0:Nat):Int):=by rw[hE]; (simp only[ruU,entryE,Nat.reduceLT,Nat.reduceAdd,Nat.reduceMul,Nat.reduceEqDiff]<;>rfl)
 clear hE
 rw[ext_nil]
 have hnix:∀ q∈idsV (.slice na 28 28),q∉[x+0]:=fun q hq=>by have:=hni q hq; simp; omega
 refine blockC_meet (fun E' X'=>Mod [x+0] X2 X'∧bk X' (x+0)=some ⟨59,false,[.int .i64 0,.int .i64 (opK h 28),.slice none 0 0]⟩∧E' 2=.pointer (some ⟨b+0,0,none⟩)∧E' 4=.slice (some ⟨w,0,some 0⟩) n n∧E' 5=.pointer (some ⟨x+0,0,none⟩)) ?_ ?_
 ·refine w_loop (fun (i:Nat) E' X'=>Mod [x+0] X2 X'∧bk X' (x+0)=some ⟨59,false,[.int .i64 0,.int .i64 (opK h i),.slice none 0 0]⟩∧i≤28∧E' 2=.pointer (some ⟨b+0,0,none⟩)∧E' 4=.slice (some ⟨w,0,some 0⟩) n n∧E' 5=.pointer (some ⟨x+0,0,none⟩)∧E' 16=.slice na 28 28∧E' 17=.int .i64 ((28:Nat):Int)∧E' 18=.int .i64 (i:Int)) (fun i=>28-i) 0
   ⟨Mod.refl,kx2,by decide,g2,g4,g5,g16,g17,g18⟩ ?_
  clear g2 g4 g5 g16 g17 g18 E
  rintro i E X3 ⟨m3,k3,hi,g2,g4,g5,g16,g17,g18⟩
  obtain⟨y,hy⟩:∃ y,X3.next=y:=⟨_,rfl⟩
  have hyx:x+1≤y:=by have:=m3.next; omega
  have hxy:x+0<y:=by omega
  rw[show X3=ext X3 [] from rfl]
  by_cases hie:i=28
  ·have hd:decide ((i:Int)<((28:Nat):Int))=false:=decide_eq_false (by omega)
   simp (maxDischargeDepth:=6) only[g2,g4,g5,g16,g17,g18,hd,ruW,putL,Nat.reduceLeDiff,xF,ruU,entryE,Nat.reduceLT,Nat.reduceAdd,Nat.reduceMul,Nat.reduceEqDiff]
   rw[hie]at k3
   refine joinR_normal ⟨m3,k3,?_,?_,?_⟩<;>simp only[g2,g4,g5,ruU,entryE,Nat.reduceLT,Nat.reduceAdd,Nat.reduceMul,Nat.reduceEqDiff]
  ·have hil:i<28:=by omega
   have hd:decide ((i:Int)<((28:Nat):Int))=true:=decide_eq_true (by omega)
   have hnr:RdAt X3 1 (.slice na 28 28) nmV 28:=(hnv.of m3.next fun q hq=>m3.get q (hnv.ne q hq).2 (hnix q hq)).rd
   obtain⟨n',off',s',c',e',o',M',e3,n3',r3,m3'⟩:=hnr.one hil
   cases e3
   rw[nm_get hil]at m3'
   have i3:=ia_of (P:=Tryz.prog) (k:=.i64) (i:=i) (n:=n') (off:=off') (len:=28) (cap:=28) (s:=s') u54' s9' hil
   rw[zD3]at i3
   have i4:aIndexAddr Tryz.prog 54 (.slice (some ⟨w,0,some 0⟩) n n) (.int .i64 0)=some (.pointer (some ⟨w,0+0*1,none⟩)):=ia_of (i:=0) u54' s9' (by omega)
   have kw3:bk X3 w=some ⟨9,false,strV (h::t)⟩:=(m3.bk (by omega) (by simp; omega)).trans kw2
   have hwy:w<y:=by omega
   have hw0:(strV (h::t))[0+0*1]?=some (.string (bs h)):=rfl
   have hw:IntKind.i64.wrap ((i:Int)+1)=((i+1:Nat):Int):=wrap_succ (by omega)
   rw[hy]at n3'
   simp (maxDischargeDepth:=6) only[g2,g4,g5,g16,g17,g18,hd,i3,i4,n3',r3,m3',kw3,hwy,hw0,hy,qk_old,ruW,putL,Nat.reduceLeDiff,xF,ruU,entryE,Nat.reduceLT,Nat.reduceAdd,Nat.reduceMul,Nat.reduceEqDiff]
   refine (w_eqStr (a:=bs (nameR i)) (b:=bs h) (by simp only[ruU,entryE,Nat.reduceLT,Nat.reduceAdd,Nat.reduceMul,Nat.reduceEqDiff]) (by simp only[ruU,entryE,Nat.reduceLT,Nat.reduceAdd,Nat.reduceMul,Nat.reduceEqDiff]) (by simp only[ruU,entryE,Nat.reduceLT,Nat.reduceAdd,Nat.reduceMul,Nat.reduceEqDiff]) (by simp only[ruU,entryE,Nat.reduceLT,Nat.reduceAdd,Nat.reduceMul,Nat.reduceEqDiff]) (by decide) eqb_none).mpr ?_
   rw[eqb_bs]
   obtain⟨d,hdd⟩:∃ d,decide (nameR i=h)=d:=⟨_,rfl⟩
   cases d with
   |true =>
    have he:=of_decide_eq_true hdd
    simp (maxDischargeDepth:=6) only[g2,g4,g5,g16,g17,g18,hdd,hy,hxy,k3,hw,ruW,putL,Nat.reduceLeDiff,xF,ruU,entryE,Nat.reduceLT,Nat.reduceAdd,Nat.reduceMul,Nat.reduceEqDiff]
    refine loopC_next ⟨i+1,by omega,m3.trans (Mod.uw (by simp)),?_,by omega,?_,?_,?_,?_,?_,?_⟩
    ·rw[ext_nil,bk_uw_eq,k3,opK,if_pos he]; rfl
    all_goals simp only[g2,g4,g5,g16,g17,ruU,entryE,Nat.reduceLT,Nat.reduceAdd,Nat.reduceMul,Nat.reduceEqDiff]
   |false =>
    have he:=of_decide_eq_false hdd
    simp (maxDischargeDepth:=6) only[g2,g4,g5,g16,g17,g18,hdd,hw,ruW,putL,Nat.reduceLeDiff,xF,ruU,entryE,Nat.reduceLT,Nat.reduceAdd,Nat.reduceMul,Nat.reduceEqDiff]
    refine loopC_next ⟨i+1,by omega,m3,?_,by omega,?_,?_,?_,?_,?_,?_⟩
    ·rw[opK,if_neg he]; exact k3
    all_goals simp only[g2,g4,g5,g16,g17,ruU,entryE,Nat.reduceLT,Nat.reduceAdd,Nat.reduceMul,Nat.reduceEqDiff]
 clear g2 g4 g5 g16 g17 g18 E
 rintro E X3 ⟨m3,k3,g2,g4,g5⟩
 have kb3:=(m3.bk (by omega) (by simp; omega)).trans kb2
 have kw3:=(m3.bk (by omega) (by simp; omega)).trans kw2
 have mH3:Mod [] H X3:=mH2.step m3 hok fun q hq=>.inr (by simp only[zA7]at hq; omega)
 obtain⟨y,hy⟩:∃ y,X3.next=y:=⟨_,rfl⟩
 have hyx:x+1≤y:=by have:=m3.next; omega
 have hxy:x+0<y:=by omega
 have hby:b+0<y:=by omega
 clear m3 kx2 kb2 kw2 mH2 n2 m2 hnv hni hnix X2 kZ nZ mZ mHZ kbZ kwZ Z
 rw[show X3=ext X3 [] from rfl]
 by_cases hneg:opK h 28<0
 ·have hd:decide (opK h 28<0)=true:=decide_eq_true hneg
  have hm1:opK h 28=-1:=by have:=opK_ge h 28; omega
  rw[if_pos hneg]at hL
  simp (maxDischargeDepth:=6) only[g2,g4,g5,hy,hxy,hby,k3,kb3,hd,Tryz.results42,ruW,putL,Nat.reduceLeDiff,xF,ruU,entryE,Nat.reduceLT,Nat.reduceAdd,Nat.reduceMul,Nat.reduceEqDiff]
  refine⟨⟨.slice none 0 0,?_,by rw[hL]; exact VsAt.nil,fun q hq=>by simp[idsV]at hq⟩,mH3.step (W':=[b+0]) (Mod.uw (by simp)) hok fun q hq=>.inr (by simp only[zA7]at hq; omega)⟩
  rw[hL,hm1]
 ·have hd:decide (opK h 28<0)=false:=decide_eq_false hneg
  obtain⟨k,hk,hk28,hkn⟩:=opK_back (show 0≤opK h 28 by omega)
  rw[if_neg hneg]at hL
  rw[hk]at k3 hL hd
  rw[zC1]at hL
  have hsl:=sl_tail w n (by omega)
  obtain⟨tv,htv⟩:∃ tv,Value.slice (some ⟨w,if n=1 then 0 else 0+1*1,some 0⟩) (n-1) (n-1)=tv:=⟨_,rfl⟩
  have htr:∀ G:AHeap,bk G w=some ⟨9,false,strV (h::t)⟩→w<G.next→RdAt G 1 tv (strV t) t.length:=fun G g1 g2=>by
   rw[←htv,hnt]
   exact rd_tail g1 g2
  rw[htv]at hsl
  obtain⟨ta,tc,etv⟩:=(htr X3 kw3 (by omega)).sl
  rw[etv]at hsl
  simp (maxDischargeDepth:=6) only[g2,g4,g5,hy,hxy,hby,k3,kb3,hd,hsl,w_slice,bnds_none,bnds_some,bndsOk_none,bndsOk_some,ruW,putL,Nat.reduceLeDiff,xF,ruU,entryE,Nat.reduceLT,Nat.reduceAdd,Nat.reduceMul,Nat.reduceEqDiff]
  refine w_env fun E2 hE=>?_
  have h2:E2 2=.pointer (some ⟨b+0,0,none⟩):=by rw[hE]; simp only[g2,ruU,entryE,Nat.reduceLT,Nat.reduceAdd,Nat.reduceMul,Nat.reduceEqDiff]
  have h5:E2 5=.pointer (some ⟨x+0,0,none⟩):=by rw[hE]; simp only[g5,ruU,entryE,Nat.reduceLT,Nat.reduceAdd,Nat.reduceMul,Nat.reduceEqDiff]
  have h36:E2 36=tv:=by rw[hE,etv]; simp only[ruU,entryE,Nat.reduceLT,Nat.reduceAdd,Nat.reduceMul,Nat.reduceEqDiff]
  have h37:E2 37=.int .i64 (t.length:Int):=by rw[hE]; simp only[ruU,entryE,Nat.reduceLT,Nat.reduceAdd,Nat.reduceMul,Nat.reduceEqDiff]
  have h38:E2 38=.int .i64 ((0:Nat):Int):=by rw[hE]; (simp only[ruU,entryE,Nat.reduceLT,Nat.reduceAdd,Nat.reduceMul,Nat.reduceEqDiff]<;>rfl)
  clear hE g2 g4 g5 E
  rw[ext_nil]
  have htl:t.length≤900000:=by
   have h1:=split_len 32 s
   have h2:=count_le 32 s
   rw[hht,zA9]at h1
   omega
  refine blockC_meet (fun E' X'=>∃ a v,Mod [] H X'∧bk X' (b+0)=some ⟨59,false,[.int .i64 0,.int .i64 0,.slice none 0 0]⟩∧bk X' (x+0)=some ⟨59,false,[.int .i64 0,.int .i64 (k:Int),v]⟩∧x+1≤X'.next∧ArgA X' v a∧(∀ q∈idsV v,x+1≤q)∧argsR t []=(a,0)∧(∀ q∈a,0≤q∧q≤65535)∧a.length≤900000∧E' 2=.pointer (some ⟨b+0,0,none⟩)∧E' 5=.pointer (some ⟨x+0,0,none⟩)) ?_ ?_
  ·refine w_loop (fun (z:Nat × List Int × Value) E' X'=>Mod [] H X'∧bk X' (b+0)=some ⟨59,false,[.int .i64 0,.int .i64 0,.slice none 0 0]⟩∧bk X' w=some ⟨9,false,strV (h::t)⟩∧bk X' (x+0)=some ⟨59,false,[.int .i64 0,.int .i64 (k:Int),z.2.2]⟩∧x+1≤X'.next∧ArgA X' z.2.2 z.2.1∧(∀ q∈idsV z.2.2,x+1≤q)∧argsR (t.drop z.1) z.2.1=argsR t []∧(∀ q∈z.2.1,0≤q∧q≤65535)∧z.2.1.length=z.1∧z.1≤t.length∧E' 2=.pointer (some ⟨b+0,0,none⟩)∧E' 5=.pointer (some ⟨x+0,0,none⟩)∧E' 36=tv∧E' 37=.int .i64 (t.length:Int)∧E' 38=.int .i64 (z.1:Int)) (fun z=>t.length-z.1) (0,[],.slice none 0 0)
    ⟨mH3,kb3,kw3,k3,by omega,VsAt.nil,fun q hq=>by simp[idsV]at hq,rfl,fun q hq=>by simp at hq,rfl,zB4 _,h2,h5,h36,h37,h38⟩ ?_
   clear h2 h5 h36 h37 h38 mH3 kb3 kw3 k3 hxy hby hyx hy hsl E2
   rintro⟨j,a,v⟩ E X4 ⟨m4,kb4,kw4,k4,nx4,hv,hvi,hag,hsm,haj,hj,g2,g5,g36,g37,g38⟩
   simp only at k4 hv hvi hag hsm haj hj g38
   clear hxb hx kb kw mX X y X3
   obtain⟨y,hy⟩:∃ y,X4.next=y:=⟨_,rfl⟩
   have hyb:X4.base≤y:=hy▸m4.ok hok
   rw[hy]at nx4
   have hxy:x+0<y:=by omega
   have hby:b+0<y:=by omega
   obtain⟨va,ev⟩:=hv.len
   rw[show X4=ext X4 [] from rfl]
   by_cases hje:j=t.length
   ·have hd:decide ((j:Int)<(t.length:Int))=false:=decide_eq_false (by omega)
    rw[hje,List.drop_length]at hag
    simp (maxDischargeDepth:=6) only[g2,g5,g36,g37,g38,hd,ruW,putL,Nat.reduceLeDiff,xF,ruU,entryE,Nat.reduceLT,Nat.reduceAdd,Nat.reduceMul,Nat.reduceEqDiff]
    refine joinR_normal ⟨a,v,m4,kb4,k4,by rw[ext_nil,hy]; exact nx4,hv,hvi,hag.symm,hsm,by omega,?_,?_⟩<;>simp only[g2,g5,ruU,entryE,Nat.reduceLT,Nat.reduceAdd,Nat.reduceMul,Nat.reduceEqDiff]
   ·have hjl:j<t.length:=by omega
    have hd:decide ((j:Int)<(t.length:Int))=true:=decide_eq_true (by omega)
    have hrd:=htr X4 kw4 (by omega)
    rw[etv]at hrd g36
    obtain⟨n',off',s',c',e',o',M',e3,n3',r3,m3'⟩:=hrd.one hjl
    cases e3
    obtain⟨q,hq⟩:∃ q,t[j]=q:=⟨_,rfl⟩
    have hqs:(strV t)[j]?=some (.string (bs q)):=by rw[strV,List.getElem?_map,zB0 hjl,hq]; rfl
    rw[hqs]at m3'
    have i3:=ia_of (P:=Tryz.prog) (k:=.i64) (i:=j) (n:=n') (off:=off') (len:=t.length) (cap:=tc) (s:=s') u54' s9' hjl
    rw[zD3]at i3
    rw[hy]at n3'
    have hdr:t.drop j=q::t.drop (j+1):=by rw[List.drop_eq_getElem_cons hjl,hq]
    rw[hdr,argsR]at hag
    have hsv:scb y v=true:=hy▸VsAt.sc hv
    simp (maxDischargeDepth:=6) only[g2,g5,g36,g37,g38,hd,i3,n3',r3,m3',hy,qk_old,ruW,putL,Nat.reduceLeDiff,xF,ruU,entryE,Nat.reduceLT,Nat.reduceAdd,Nat.reduceMul,Nat.reduceEqDiff]
    refine (number_c (ext X4 []) q).to ?_
    obtain⟨m,e,hme⟩:∃ m e,numR q=(m,e):=⟨_,_,rfl⟩
    have hnb:e=0→0≤m∧m≤65535:=fun h=>by
     have:=(num_back (w:=q) (by rw[hme]; exact h)).2
     rw[hme]at this
     exact this
    rw[hme]at hag ⊢
    simp only at hag ⊢
    obtain⟨d,hdd⟩:∃ d,decide (¬e=0)=d:=⟨_,rfl⟩
    cases d with
    |true =>
     have he:=of_decide_eq_true hdd
     rw[if_neg he]at hag
     rw[←hag]at hL
     rw[if_pos he]at hL
     rw[ev]at k4 hsv
     simp (maxDischargeDepth:=6) only[g2,g5,g36,g37,g38,hdd,hy,hyb,hxy,hby,k4,kb4,hsv,joinR_ret,Tryz.results42,ruW,putL,Nat.reduceLeDiff,xF,ruU,entryE,Nat.reduceLT,Nat.reduceAdd,Nat.reduceMul,Nat.reduceEqDiff]
     refine⟨⟨v,?_,?_,fun q hq=>by have:=hvi q hq; omega⟩,m4.step (W':=[b+0]) (Mod.uw (by simp)) hok fun q hq=>.inr (by simp only[zA7]at hq; omega)⟩
     ·rw[hL,ev]
     ·rw[hL]
      exact hv.of (by rw[ext_nil,uw_next]; exact zA8 _) fun q hq=>uw_get (by have:=hvi q hq; omega)
    |false =>
     have he:=Decidable.of_not_not (of_decide_eq_false hdd)
     rw[if_pos he]at hag
     obtain⟨G,e1,vG,mG,nG⟩:=int_app hv hy (by omega) (by omega) m
     have kG:bk G (x+0)=some ⟨59,false,[.int .i64 0,.int .i64 (k:Int),v]⟩:=(mG.bk (by omega) (fun h=>by have:=hvi _ h; omega)).trans k4
     have kbG:=(mG.bk (by omega) (fun h=>by have:=hvi _ h; omega)).trans kb4
     have kwG:=(mG.bk (by omega) (fun h=>by have:=hvi _ h; omega)).trans kw4
     have mHG:Mod [] H G:=m4.step mG hok fun q hq=>.inr (by have:=hvi q hq; omega)
     have gx:x+0<y+2:=by omega
     have gx1:x+0<y+1:=by omega
     have hsG:scb (y+2) (.slice (some ⟨y+1,0,none⟩) (a.length+1) (a.length+1))=true:=by simp[scb]
     have hw:IntKind.i64.wrap ((j:Int)+1)=((j+1:Nat):Int):=wrap_succ (by omega)
     have kG':=kG
     rw[ev]at k4 hsv e1 kG'
     replace e1:aBuiltin Tryz.prog (ext X4 [⟨3,false,[.int .i64 m]⟩]) .append ⟨[35,35]⟩ [.slice va a.length a.length,.slice (some ⟨y+0,0,some 0⟩) 1 1]=some (.slice (some ⟨y+1,0,none⟩) (a.length+1) (a.length+1),ext G []):=e1
     simp (maxDischargeDepth:=6) only[g2,g5,g36,g37,g38,hdd,hy,hyb,hxy,hby,k4,kb4,hsv,e1,nG,gx,gx1,kG',hsG,hw,ruW,putL,Nat.reduceLeDiff,xF,ruU,entryE,Nat.reduceLT,Nat.reduceAdd,Nat.reduceMul,Nat.reduceEqDiff]
     refine loopC_next ⟨(j+1,a++[m],.slice (some ⟨y+1,0,none⟩) (a.length+1) (a.length+1)),by simp only; omega,mHG.step (W':=[x+0]) (Mod.uw (by simp)) hok fun q hq=>.inr (by simp only[zA7]at hq; omega),?_,?_,?_,by rw[ext_nil,uw_next,nG]; omega,?_,fun q hq=>by simp only[idsV,zA7]at hq; omega,hag,fun p hp=>?_,by simp only[zB3,zC0]; omega,by simp only; omega,?_,?_,?_,?_,?_⟩
     ·exact (bk_get (uw_get (by omega))).trans kbG
     ·exact (bk_get (uw_get (by omega))).trans kwG
     ·rw[ext_nil,bk_uw_eq,kG]; rfl
     ·exact ArgA.of vG (by rw[ext_nil,uw_next]; exact zA8 _) fun q hq=>uw_get (by simp only[idsV,zA7]at hq; omega)
     ·rcases zC2.1 hp with hp|hp
      ·exact hsm p hp
      ·rw[zA7]at hp
       rw[hp]
       exact hnb he
     ·simp only[g2,ruU,entryE,Nat.reduceLT,Nat.reduceAdd,Nat.reduceMul,Nat.reduceEqDiff]
     ·simp only[g5,ruU,entryE,Nat.reduceLT,Nat.reduceAdd,Nat.reduceMul,Nat.reduceEqDiff]
     ·simp only[g36,ruU,entryE,Nat.reduceLT,Nat.reduceAdd,Nat.reduceMul,Nat.reduceEqDiff]; exact etv.symm
     ·simp only[g37,ruU,entryE,Nat.reduceLT,Nat.reduceAdd,Nat.reduceMul,Nat.reduceEqDiff]
     ·simp only[ruU,entryE,Nat.reduceLT,Nat.reduceAdd,Nat.reduceMul,Nat.reduceEqDiff]
  ·clear h2 h5 h36 h37 h38 mH3 kb3 kw3 k3 hxy hby hyx hy hsl E2
   rintro E X4 ⟨a,v,m4,kb4,k4,nx4,hv,hvi,hag,hsm,hal,g2,g5⟩
   clear hxb hx kb kw mX X y X3
   rw[hag]at hL
   rw[if_neg (by simp)]at hL
   simp only at hL
   obtain⟨y,hy⟩:∃ y,X4.next=y:=⟨_,rfl⟩
   have hyb:X4.base≤y:=hy▸m4.ok hok
   rw[hy]at nx4
   have hxy:x+0<y:=by omega
   have hby:b+0<y:=by omega
   obtain⟨va,ev⟩:=hv.len
   have hsv:scb y v=true:=hy▸VsAt.sc hv
   rw[show X4=ext X4 [] from rfl]
   have hvX:=hv.rd
   simp only[w_seq]
   refine w_drawB [(3,0),(4,0),(5,0)] [] (by kernel_rfl) (by kernel_rfl) rfl fun ops anc hA hG=>?_
   simp only[all2_cons]at hA
   simp (maxDischargeDepth:=6) only[g2,g5,hy,hyb,hA,ruD,ruW,putL,Nat.reduceLeDiff,xF,ruU,entryE,Nat.reduceLT,Nat.reduceAdd,Nat.reduceMul,Nat.reduceEqDiff]
   refine genV_ext (v:=.agg ⟨shV y⟩) (M:=shB y) [] (by simp only[ruU,entryE,Nat.reduceLT,Nat.reduceAdd,Nat.reduceMul,Nat.reduceEqDiff]) (by kernel_rfl) (by decide) (by simp) (fun G hG _=>?_) (by simp[Meets]) ?_
   ·have:=shapes_c G
    rw[hG,ext_next,zC4,zD0,hy]at this
    simp only[ruU,entryE,Nat.reduceLT,Nat.reduceAdd,Nat.reduceMul,Nat.reduceEqDiff]
    exact this
   obtain⟨f,ca,Fk,hkv,hkb,hkF,hkc⟩:=kinds_c y k hk28
   have hix:=ix114 hk28 (sh_name hk28) hkv
   have sX:ShAt (ext (ext X4 []) (shB y)) y:=by
    have:=ShAt.new (H:=ext X4 []) (L:=[])
    rw[ext_nil,ext_nil,hy]at this
    exact this
   have mX5:Mod [] X4 (ext (ext X4 []) (shB y)):=Mod.ext (H:=ext X4 []) (by rw[ext_nil,hy]; exact hyb)
   have nX5:(ext (ext X4 []) (shB y)).next=y+27:=by rw[ext_next,ext_nil,hy]; rfl
   generalize hX5:ext (ext X4 []) (shB y)=X5 at sX mX5 nX5 ⊢
   clear hX5
   have k5:=(mX5.bk (by omega) (by simp)).trans k4
   have kb5:=(mX5.bk (by omega) (by simp)).trans kb4
   have hv5:ArgA X5 v a:=hv.of mX5.next fun q hq=>mX5.get q (hv.ne q hq).2 (by simp)
   have mH5:=m4.trans mX5
   have x5b:X5.base≤y+27:=nX5▸mH5.ok hok
   have hsv5:scb (y+27) v=true:=scb_mono (by omega) _ hsv
   have hxy5:x+0<y+27:=by omega
   have hby5:b+0<y+27:=by omega
   have hk5:=k5
   rw[ev]at k5 hsv5
   have fin:∀ vs e,lineR s=(⟨0,k,a⟩,e)→LineOut b s (.ok (.tuple ⟨[.agg ⟨[.int .i64 0,.int .i64 (k:Int),.slice va a.length a.length]⟩,.int .i64 e]⟩)) (ext (uw X5 (b+0) 0 vs) [])∧Mod [] H (ext (uw X5 (b+0) 0 vs) []):=fun vs e he=>by
    refine⟨⟨v,?_,?_,fun q hq=>by have:=hvi q hq; omega⟩,mH5.step (W':=[b+0]) (Mod.uw (by simp)) hok fun q hq=>.inr (by simp only[zA7]at hq; omega)⟩
    ·rw[he,ev]
    ·rw[he]
     exact hv5.of (by rw[ext_nil,uw_next]; exact zA8 _) fun q hq=>uw_get (by have:=hvi q hq; omega)
   rw[show X5=ext X5 [] from rfl]
   have e0:(ext X4 []).next=y:=by rw[ext_nil,hy]
   rw[e0]
   have hxy0:x+0<y:=hxy
   simp (maxDischargeDepth:=6) only[g2,g5,nX5,k5,hxy5,hxy0,hix,hA,qk_old,ruD,ruW,putL,Nat.reduceLeDiff,xF,ruU,entryE,Nat.reduceLT,Nat.reduceAdd,Nat.reduceMul,Nat.reduceEqDiff]
   refine w_drawB [] [(7,70)] (by kernel_rfl) (by kernel_rfl) (by kernel_rfl) fun ops2 anc2 hA2 hG2=>?_
   simp only[all2_cons]at hG2
   simp (maxDischargeDepth:=6) only[g2,g5,nX5,k5,hxy5,hG2,qk_old,ruD,ruW,putL,Nat.reduceLeDiff,xF,ruU,entryE,Nat.reduceLT,Nat.reduceAdd,Nat.reduceMul,Nat.reduceEqDiff]
   have hFk:∀ q∈Fk,(ext X5 []).get q≠none:=fun q hq=>by
    have hkk:=hkF q hq
    obtain⟨j,rfl⟩:∃ j,q=y+j:=⟨q-y,by omega⟩
    exact bk_ne (sX j _ (zB0 (by simp[shB]; omega))).1
   have hsh:∀ G:AHeap,G.next=X5.next→(∀ q∈Fk,G.get q=X5.get q)→∀ i b',(shB y)[i]?=some b'→y+i∈Fk→bk G (y+i)=some b'∧y+i<G.next:=fun G hG hg i b' h1 h2=>by
    obtain⟨h3,h4⟩:=sX i b' h1
    exact⟨(bk_get (hg _ h2)).trans h3,by rw[hG]; exact h4⟩
   have hc0:cntR k []≤1000000:=by have:=cntR_small (op:=k) (args:=[]) (fun x hx=>by simp at hx); omega
   have hca:cntR k a≤1000000:=by have:=cntR_small (op:=k) hsm; omega
   refine genV_quietV (v:=.string ⟨(kindsR k []).toArray⟩) (ca:=ca) Fk (by simp only[ruU,entryE,Nat.reduceLT,Nat.reduceAdd,Nat.reduceMul,Nat.reduceEqDiff]) (by simp only[ruU,entryE,Nat.reduceLT,Nat.reduceAdd,Nat.reduceMul,Nat.reduceEqDiff]) (by simp only[ruU,entryE,Nat.reduceLT,Nat.reduceAdd,Nat.reduceMul,Nat.reduceEqDiff]) hkb (by decide) hFk (fun G hG hg=>by simp only[ruU,entryE,Nat.reduceLT,Nat.reduceAdd,Nat.reduceMul,Nat.reduceEqDiff]; exact hkc G _ [] (hsh G hG hg) RdAt.nil hc0) (by simp[Meets]) ?_
   have hks:∀ a,(⟨(kindsR k a).toArray⟩:ByteArray).size=(kindsR k a).length:=fun _=>rfl
   obtain⟨d1,hd1⟩:∃ d1,decide ((a.length:Int)<((kindsR k []).length:Int))=d1:=⟨_,rfl⟩
   cases d1 with
   |true =>
    have h1:=of_decide_eq_true hd1
    rw[if_pos (.inl (by omega))]at hL
    simp (maxDischargeDepth:=6) only[g2,g5,nX5,x5b,k5,kb5,hsv5,hxy5,hby5,hG2,rb_lenStr u9,hks,hd1,qk_old,Tryz.results42,ruD,ruW,putL,Nat.reduceLeDiff,xF,ruU,entryE,Nat.reduceLT,Nat.reduceAdd,Nat.reduceMul,Nat.reduceEqDiff]
    exact fin _ _ hL
   |false =>
    have h1:=of_decide_eq_false hd1
    simp (maxDischargeDepth:=6) only[g2,g5,nX5,k5,hxy5,hG2,rb_lenStr u9,hks,hd1,qk_old,ruD,ruW,putL,Nat.reduceLeDiff,xF,ruU,entryE,Nat.reduceLT,Nat.reduceAdd,Nat.reduceMul,Nat.reduceEqDiff]
    have hFr:∀ q∈rdF (.slice va a.length a.length) a.length++Fk,(ext X5 []).get q≠none:=fun q hq=>by
     rcases zC2.1 hq with hq|hq
     ·rw[←ev]at hq
      exact (hv5.rd.ne q hq).1
     ·exact hFk q hq
    refine genV_quietV (v:=.string ⟨(kindsR k a).toArray⟩) (ca:=ca) (rdF (.slice va a.length a.length) a.length++Fk) (by simp only[ruU,entryE,Nat.reduceLT,Nat.reduceAdd,Nat.reduceMul,Nat.reduceEqDiff]) (by simp only[ruU,entryE,Nat.reduceLT,Nat.reduceAdd,Nat.reduceMul,Nat.reduceEqDiff]) (by simp only[ruU,entryE,Nat.reduceLT,Nat.reduceAdd,Nat.reduceMul,Nat.reduceEqDiff]) hkb (by decide) hFr (fun G hG hg=>by
     simp only[ruU,entryE,Nat.reduceLT,Nat.reduceAdd,Nat.reduceMul,Nat.reduceEqDiff]
     rw[←ev]
     exact hkc G v a (hsh G hG fun q hq=>hg q (List.mem_append_right _ hq)) (hv5.rd.of (Nat.le_of_eq hG.symm) fun q hq=>hg q (List.mem_append_left _ (by rw[←ev]; exact hq))) hca) (by simp[Meets]) ?_
    obtain⟨d2,hd2⟩:∃ d2,decide (¬(a.length:Int)=((kindsR k a).length:Int))=d2:=⟨_,rfl⟩
    cases d2 with
    |true =>
     have h2:=of_decide_eq_true hd2
     rw[if_pos (.inr (by omega))]at hL
     simp (maxDischargeDepth:=6) only[g2,g5,nX5,x5b,k5,kb5,hsv5,hxy5,hby5,hG2,rb_lenStr u9,hks,hd2,qk_old,Tryz.results42,ruD,ruW,putL,Nat.reduceLeDiff,xF,ruU,entryE,Nat.reduceLT,Nat.reduceAdd,Nat.reduceMul,Nat.reduceEqDiff]
     exact fin _ _ hL
    |false =>
     have h2:=of_decide_eq_false hd2
     rw[if_neg (by omega)]at hL
     simp (maxDischargeDepth:=6) only[g2,g5,nX5,x5b,k5,kb5,hsv5,hxy5,hby5,hG2,rb_lenStr u9,hks,hd2,qk_old,Tryz.results42,ruD,ruW,putL,Nat.reduceLeDiff,xF,ruU,entryE,Nat.reduceLT,Nat.reduceAdd,Nat.reduceMul,Nat.reduceEqDiff]
     exact fin _ _ hL
set_option maxRecDepth 100000
def fixI (op:Nat):Int:=((kindsR op []).length:Int)
theorem fix_is {op:Nat} (h:op<28):fixI op=if op=3∨op=15∨op=19∨op=20∨op=26∨op=27 then 0 else if op=24 then 2 else 1:=by
 have:∀ i:Fin 28,fixI i.val=if i.val=3∨i.val=15∨i.val=19∨i.val=20∨i.val=26∨i.val=27 then 0 else if i.val=24 then 2 else 1:=by decide +kernel
 exact this ⟨op,h⟩
theorem fixed50_c (H:AHeap) (op:Nat) (hop:op<28):Pure 50 [.int .i64 (op:Int)] H (.int .i64 (fixI op)):=by
 have hd:∀ k:Nat,decide ((op:Int)=(k:Int))=decide (op=k):=fun k=>by
  by_cases h:op=k
  ·rw[decide_eq_true h,decide_eq_true (by omega)]
  ·rw[decide_eq_false h,decide_eq_false (by omega)]
 have d3:decide ((op:Int)=3)=decide (op=3):=hd 3
 have d15:decide ((op:Int)=15)=decide (op=15):=hd 15
 have d19:decide ((op:Int)=19)=decide (op=19):=hd 19
 have d20:decide ((op:Int)=20)=decide (op=20):=hd 20
 have d26:decide ((op:Int)=26)=decide (op=26):=hd 26
 have d27:decide ((op:Int)=27)=decide (op=27):=hd 27
 have d24:decide ((op:Int)=24)=decide (op=24):=hd 24
 have hf:=fix_is hop
 refine callS_fn mixed Tryz.func50 rfl Tryz.ntmps50 (zB8 rfl) fun wf hsc=>?_
 by_cases h3:op=3
 ·rw[if_pos (by omega)]at hf
  simp (maxDischargeDepth:=6) only[d3,decide_eq_true h3,Tryz.results50,ruW,putL,Nat.reduceLeDiff,xF,ruU,entryE,Nat.reduceLT,Nat.reduceAdd,Nat.reduceMul,Nat.reduceEqDiff]
  exact Fin.pureE (by rw[hf]) rfl
 by_cases h15:op=15
 ·rw[if_pos (by omega)]at hf
  simp (maxDischargeDepth:=6) only[d3,d15,decide_eq_false h3,decide_eq_true h15,Tryz.results50,ruW,putL,Nat.reduceLeDiff,xF,ruU,entryE,Nat.reduceLT,Nat.reduceAdd,Nat.reduceMul,Nat.reduceEqDiff]
  exact Fin.pureE (by rw[hf]) rfl
 by_cases h19:op=19
 ·rw[if_pos (by omega)]at hf
  simp (maxDischargeDepth:=6) only[d3,d15,d19,decide_eq_false h3,decide_eq_false h15,decide_eq_true h19,Tryz.results50,ruW,putL,Nat.reduceLeDiff,xF,ruU,entryE,Nat.reduceLT,Nat.reduceAdd,Nat.reduceMul,Nat.reduceEqDiff]
  exact Fin.pureE (by rw[hf]) rfl
 by_cases h20:op=20
 ·rw[if_pos (by omega)]at hf
  simp (maxDischargeDepth:=6) only[d3,d15,d19,d20,decide_eq_false h3,decide_eq_false h15,decide_eq_false h19,decide_eq_true h20,Tryz.results50,ruW,putL,Nat.reduceLeDiff,xF,ruU,entryE,Nat.reduceLT,Nat.reduceAdd,Nat.reduceMul,Nat.reduceEqDiff]
  exact Fin.pureE (by rw[hf]) rfl
 by_cases h26:op=26
 ·rw[if_pos (by omega)]at hf
  simp (maxDischargeDepth:=6) only[d3,d15,d19,d20,d26,decide_eq_false h3,decide_eq_false h15,decide_eq_false h19,decide_eq_false h20,decide_eq_true h26,Tryz.results50,ruW,putL,Nat.reduceLeDiff,xF,ruU,entryE,Nat.reduceLT,Nat.reduceAdd,Nat.reduceMul,Nat.reduceEqDiff]
  exact Fin.pureE (by rw[hf]) rfl
 by_cases h27:op=27
 ·rw[if_pos (by omega)]at hf
  simp (maxDischargeDepth:=6) only[d3,d15,d19,d20,d26,d27,decide_eq_false h3,decide_eq_false h15,decide_eq_false h19,decide_eq_false h20,decide_eq_false h26,decide_eq_true h27,Tryz.results50,ruW,putL,Nat.reduceLeDiff,xF,ruU,entryE,Nat.reduceLT,Nat.reduceAdd,Nat.reduceMul,Nat.reduceEqDiff]
  exact Fin.pureE (by rw[hf]) rfl
 rw[if_neg (by omega)]at hf
 by_cases h24:op=24
 ·rw[if_pos h24]at hf
  simp (maxDischargeDepth:=6) only[d3,d15,d19,d20,d26,d27,d24,decide_eq_false h3,decide_eq_false h15,decide_eq_false h19,decide_eq_false h20,decide_eq_false h26,decide_eq_false h27,decide_eq_true h24,Tryz.results50,ruW,putL,Nat.reduceLeDiff,xF,ruU,entryE,Nat.reduceLT,Nat.reduceAdd,Nat.reduceMul,Nat.reduceEqDiff]
  exact Fin.pureE (by rw[hf]) rfl
 ·rw[if_neg h24]at hf
  simp (maxDischargeDepth:=6) only[d3,d15,d19,d20,d26,d27,d24,decide_eq_false h3,decide_eq_false h15,decide_eq_false h19,decide_eq_false h20,decide_eq_false h26,decide_eq_false h27,decide_eq_false h24,Tryz.results50,ruW,putL,Nat.reduceLeDiff,xF,ruU,entryE,Nat.reduceLT,Nat.reduceAdd,Nat.reduceMul,Nat.reduceEqDiff]
  exact Fin.pureE (by rw[hf]) rfl
theorem many_is {op:Nat} {args:List Int} (hop:op<28) (hl:(kindsR op []).length≤args.length) (hc:0≤cntR op args∧cntR op args≤65535):((kindsR op args).length:Int)=if op=17 then 1+2*args.getD 0 0 else if op=24 then 2+args.getD 1 0 else fixI op:=by
 rcases kinds_three hop with⟨q,_,e⟩|⟨rfl,e⟩|⟨rfl,e⟩
 ·have h17:op≠17:=fun h=>by
   subst h
   have h1:(kindsR 17 []).length=(kindsR 17 [1]).length:=by rw[e,e]
   exact absurd h1 (by decide)
  have h24:op≠24:=fun h=>by
   subst h
   have h1:(kindsR 24 []).length=(kindsR 24 [1,1]).length:=by rw[e,e]
   exact absurd h1 (by decide)
  rw[if_neg h17,if_neg h24,fixI,e,e]
 ·rw[if_pos rfl,e]
  rw[e,guard_len0]at hl
  have hne:args≠[]:=fun h=>by rw[h]at hl; simp at hl
  simp only[cntR,if_true]at hc
  rw[guard_len hne]
  omega
 ·rw[if_neg (by decide),if_pos rfl,e]
  rw[e,env_len0 (by simp)]at hl
  have hc':0≤args.getD 1 0∧args.getD 1 0≤65535:=hc
  rw[env_len hl]
  omega
theorem many_c (H:AHeap) (op:Nat) (av:Value) (args:List Int) (hop:op<28) (ha:RdAt H 1 av (iv args) args.length) (hl:(kindsR op []).length≤args.length) (hc:0≤cntR op args∧cntR op args≤65535):Pure 51 [.int .i64 (op:Int),av] H (.int .i64 ((kindsR op args).length:Int)):=by
 have hm:=many_is hop hl hc
 obtain⟨a0,c0,e0⟩:=ha.sl
 obtain⟨b,hb⟩:∃ b,H.next=b:=⟨_,rfl⟩
 refine callS_fn mixed Tryz.func51 rfl Tryz.ntmps51 (zB8 rfl) fun wf hsc=>?_
 by_cases h17:op=17
 ·subst h17
  rw[if_pos rfl]at hm
  have h0:0<args.length:=by have:(kindsR 17 []).length=1:=rfl; omega
  obtain⟨n,off,s,c,e,o,M,e1,n1,r1,m1⟩:=ha.one h0
  rw[e1]
  rw[iv_get,zB0 h0,zA5]at m1
  have hg:args.getD 0 0=args[0]:=by rw[zC3,zB0 h0]; rfl
  have i1:aIndexAddr Tryz.prog 35 (.slice (some ⟨n,off,s⟩) args.length c) (.int .i64 0)=some (.pointer (some ⟨n,off+0,none⟩)):=ia_of (i:=0) u35 s3 h0
  obtain⟨p,hp⟩:∃ p,args[0]=p:=⟨_,rfl⟩
  rw[hp]at m1 hg
  have hc':0≤args.getD 0 0∧args.getD 0 0≤65535:=hc
  rw[hg]at hc'
  have hd:decide (((17:Nat):Int)=17)=true:=by decide
  have w1:IntKind.i64.wrap (2*p)=2*p:=wrap_sm (by omega) (by omega)
  have w2:IntKind.i64.wrap (1+2*p)=1+2*p:=wrap_sm (by omega) (by omega)
  rw[hb]at n1
  simp (maxDischargeDepth:=6) only[hb,hd,i1,n1,r1,m1,w1,w2,qk_old,Tryz.results51,ruW,putL,Nat.reduceLeDiff,xF,ruU,entryE,Nat.reduceLT,Nat.reduceAdd,Nat.reduceMul,Nat.reduceEqDiff]
  exact Fin.pureE (by rw[hm,hg]) rfl
 ·rw[if_neg h17]at hm
  have hd:decide ((op:Int)=17)=false:=decide_eq_false (by omega)
  by_cases h24:op=24
  ·subst h24
   rw[if_pos rfl]at hm
   have h0:1<args.length:=by have:(kindsR 24 []).length=2:=rfl; omega
   obtain⟨n,off,s,c,e,o,M,e1,n1,r1,m1⟩:=ha.one h0
   rw[e1]
   rw[iv_get,zB0 h0,zA5]at m1
   have hg:args.getD 1 0=args[1]:=by rw[zC3,zB0 h0]; rfl
   have i1:aIndexAddr Tryz.prog 35 (.slice (some ⟨n,off,s⟩) args.length c) (.int .i64 1)=some (.pointer (some ⟨n,off+1,none⟩)):=ia_of (i:=1) u35 s3 h0
   obtain⟨p,hp⟩:∃ p,args[1]=p:=⟨_,rfl⟩
   rw[hp]at m1 hg
   have hc':0≤args.getD 1 0∧args.getD 1 0≤65535:=hc
   rw[hg]at hc'
   have hd2:decide (((24:Nat):Int)=24)=true:=by decide
   have w2:IntKind.i64.wrap (2+p)=2+p:=wrap_sm (by omega) (by omega)
   rw[hb]at n1
   simp (maxDischargeDepth:=6) only[hb,hd,hd2,i1,n1,r1,m1,w2,qk_old,Tryz.results51,ruW,putL,Nat.reduceLeDiff,xF,ruU,entryE,Nat.reduceLT,Nat.reduceAdd,Nat.reduceMul,Nat.reduceEqDiff]
   exact Fin.pureE (by rw[hm,hg]) rfl
  ·rw[if_neg h24]at hm
   have hd2:decide ((op:Int)=24)=false:=decide_eq_false (by omega)
   rw[e0]
   simp (maxDischargeDepth:=6) only[hb,hd,hd2,ruW,putL,Nat.reduceLeDiff,xF,ruU,entryE,Nat.reduceLT,Nat.reduceAdd,Nat.reduceMul,Nat.reduceEqDiff]
   refine (fixed50_c (ext H []) op hop).to ?_
   simp (maxDischargeDepth:=6) only[Tryz.results51,ruW,putL,Nat.reduceLeDiff,xF,ruU,entryE,Nat.reduceLT,Nat.reduceAdd,Nat.reduceMul,Nat.reduceEqDiff]
   exact Fin.pureE (by rw[hm]) rfl
theorem number70_c (H:AHeap) (w:List UInt8):Pure 70 [.string (bs w)] H (.tuple #[.int .i64 (numR w).1,.int .i64 (numR w).2]):=by
 refine callS_fn mixed Tryz.func70 rfl Tryz.ntmps70 (zB8 rfl) fun wf hsc=>?_
 by_cases h1:w.length<1
 ·have e:numR w=(0,5):=by rw[numR,if_neg (by simp[shapeR]; omega)]
  have hd:decide ((w.length:Int)<1)=true:=decide_eq_true (by omega)
  rw[e]
  simp (maxDischargeDepth:=6) only[bt_lenStr u9,bs_size,hd,Tryz.results70,ruW,putL,Nat.reduceLeDiff,xF,ruU,entryE,Nat.reduceLT,Nat.reduceAdd,Nat.reduceMul,Nat.reduceEqDiff]
  exact Fin.pureE rfl rfl
 have hd1:decide ((w.length:Int)<1)=false:=decide_eq_false (by omega)
 by_cases h2:5<w.length
 ·have e:numR w=(0,5):=by rw[numR,if_neg (by simp[shapeR]; omega)]
  have hd:decide ((5:Int)<(w.length:Int))=true:=decide_eq_true (by omega)
  rw[e]
  simp (maxDischargeDepth:=6) only[bt_lenStr u9,bs_size,hd1,hd,Tryz.results70,ruW,putL,Nat.reduceLeDiff,xF,ruU,entryE,Nat.reduceLT,Nat.reduceAdd,Nat.reduceMul,Nat.reduceEqDiff]
  exact Fin.pureE rfl rfl
 have hd2:decide ((5:Int)<(w.length:Int))=false:=decide_eq_false (by omega)
 have i0:aIndex Tryz.prog 9 (.string (bs w)) (.int .i64 0)=some (.int .u8 ((w.getD 0 0).toNat:Int)):=ix_bs (i:=0) (by omega)
 obtain⟨z,hz⟩:∃ z,decide (((w.getD 0 0).toNat:Int)=48)=z:=⟨_,rfl⟩
 have hz':decide (w.getD 0 0=48)=z:=by
  rw[←hz]
  by_cases h:w.getD 0 0=48
  ·rw[h]; rfl
  ·rw[decide_eq_false h,decide_eq_false (fun e=>h (UInt8.toNat_inj.1 (by have h48:(48:UInt8).toNat=48:=rfl; omega)))]
 obtain⟨y,hy⟩:∃ y,decide ((1:Int)<(w.length:Int))=y:=⟨_,rfl⟩
 have hy':decide (1<w.length)=y:=by
  rw[←hy]
  by_cases h:1<w.length
  ·rw[decide_eq_true h,decide_eq_true (by omega)]
  ·rw[decide_eq_false h,decide_eq_false (by omega)]
 have hsh:shapeR w=!(z&&y):=by
  rw[shapeR,hz',hy',decide_eq_true (show 1≤w.length by omega),decide_eq_true (show w.length≤5 by omega)]
  rfl
 have key:shapeR w=true→numR w=(if w.all digR=true then (if valR w≤65535 then ((valR w:Int),0) else (0,3)) else (0,5)):=fun h=>by rw[numR,if_pos h]
 have hcase:(z=true∧y=true)∨(z=true∧y=false)∨z=false:=by cases z<;>cases y<;>simp
 rcases hcase with⟨rfl,rfl⟩|⟨rfl,rfl⟩|rfl
 ·have e:numR w=(0,5):=by rw[numR,if_neg (by rw[hsh]; simp)]
  rw[e]
  simp (maxDischargeDepth:=6) only[bt_lenStr u9,bs_size,hd1,hd2,i0,hz,hy,Tryz.results70,ruW,putL,Nat.reduceLeDiff,xF,ruU,entryE,Nat.reduceLT,Nat.reduceAdd,Nat.reduceMul,Nat.reduceEqDiff]
  exact Fin.pureE rfl rfl
 all_goals
  replace key:=key (by rw[hsh]; rfl)
  simp (maxDischargeDepth:=6) only[bt_lenStr u9,bs_size,hd1,hd2,i0,hz,hy,Tryz.results70,ruW,putL,Nat.reduceLeDiff,xF,ruU,entryE,Nat.reduceLT,Nat.reduceAdd,Nat.reduceMul,Nat.reduceEqDiff]
  refine w_env fun E hE=>?_
  have g0:E 0=.string (bs w):=by rw[hE]; simp only[ruU,entryE,Nat.reduceLT,Nat.reduceAdd,Nat.reduceMul,Nat.reduceEqDiff]
  have g4:E 4=.int .i64 ((0:Nat):Int):=by rw[hE]; (simp only[ruU,entryE,Nat.reduceLT,Nat.reduceAdd,Nat.reduceMul,Nat.reduceEqDiff]<;>rfl)
  have g5:E 5=.int .i64 ((0:Nat):Int):=by rw[hE]; (simp only[ruU,entryE,Nat.reduceLT,Nat.reduceAdd,Nat.reduceMul,Nat.reduceEqDiff]<;>rfl)
  clear hE
  refine w_loop (fun (j:Nat) E' H'=>H'=ext H []∧j≤w.length∧(∀ c∈w.take j,digR c=true)∧valR (w.take j)<10 ^ j∧E' 0=.string (bs w)∧E' 4=.int .i64 (valR (w.take j):Int)∧E' 5=.int .i64 (j:Int)) (fun j=>w.length-j) 0
   ⟨rfl,zB4 _,by simp,by simp[valR],g0,by rw[g4]; rfl,g5⟩ ?_
  clear g0 g4 g5 E
  rintro j E H' ⟨hH,hj,hdg,hv,g0,g4,g5⟩
  rw[hH]
  by_cases hje:j=w.length
  ·have hdj:decide ((j:Int)<(w.length:Int))=false:=decide_eq_false (by omega)
   rw[zD8 (by omega)]at g4 hdg hv
   rw[if_pos (zB6.2 hdg)]at key
   obtain⟨o,ho⟩:∃ o,decide ((65535:Int)<(valR w:Int))=o:=⟨_,rfl⟩
   cases o with
   |true =>
    rw[if_neg (by have:=of_decide_eq_true ho; omega)]at key
    rw[key]
    simp (maxDischargeDepth:=6) only[g0,g4,g5,hdj,ho,bt_lenStr u9,bs_size,Tryz.results70,ruW,putL,Nat.reduceLeDiff,xF,ruU,entryE,Nat.reduceLT,Nat.reduceAdd,Nat.reduceMul,Nat.reduceEqDiff]
    exact Fin.pureE rfl rfl
   |false =>
    rw[if_pos (by have:=of_decide_eq_false ho; omega)]at key
    rw[key]
    simp (maxDischargeDepth:=6) only[g0,g4,g5,hdj,ho,bt_lenStr u9,bs_size,Tryz.results70,ruW,putL,Nat.reduceLeDiff,xF,ruU,entryE,Nat.reduceLT,Nat.reduceAdd,Nat.reduceMul,Nat.reduceEqDiff]
    exact Fin.pureE rfl rfl
  ·have hjl:j<w.length:=by omega
   have hdj:decide ((j:Int)<(w.length:Int))=true:=decide_eq_true (by omega)
   have ij:=ix_bs hjl
   have hp:=pow_small (show j≤5 by omega)
   obtain⟨c,hc⟩:∃ c,w.getD j 0=c:=⟨_,rfl⟩
   rw[hc]at ij
   have hcl:=c.toNat_lt
   have hcm:c∈w:=by
    rw[←hc,zC3,zB0 hjl]
    exact List.getElem_mem hjl
   obtain⟨p,hpd⟩:∃ p,decide ((c.toNat:Int)<48)=p:=⟨_,rfl⟩
   obtain⟨q,hqd⟩:∃ q,decide ((57:Int)<(c.toNat:Int))=q:=⟨_,rfl⟩
   have hw:IntKind.i64.wrap ((j:Int)+1)=((j+1:Nat):Int):=wrap_succ (by omega)
   have hbad:¬(48≤c.toNat∧c.toNat≤57)→numR w=(0,5):=fun h=>by
    rw[key,if_neg]
    intro h2
    exact h (dig_iff.1 (zB6.1 h2 c hcm))
   cases p with
   |true =>
    rw[hbad (by have:=of_decide_eq_true hpd; omega)]
    simp (maxDischargeDepth:=6) only[g0,g4,g5,hdj,ij,hpd,bt_lenStr u9,bs_size,Tryz.results70,ruW,putL,Nat.reduceLeDiff,xF,ruU,entryE,Nat.reduceLT,Nat.reduceAdd,Nat.reduceMul,Nat.reduceEqDiff]
    exact Fin.pureE rfl rfl
   |false =>
    cases q with
    |true =>
     rw[hbad (by have:=of_decide_eq_true hqd; omega)]
     simp (maxDischargeDepth:=6) only[g0,g4,g5,hdj,ij,hpd,hqd,bt_lenStr u9,bs_size,Tryz.results70,ruW,putL,Nat.reduceLeDiff,xF,ruU,entryE,Nat.reduceLT,Nat.reduceAdd,Nat.reduceMul,Nat.reduceEqDiff]
     exact Fin.pureE rfl rfl
    |false =>
     have a1:=of_decide_eq_false hpd
     have a2:=of_decide_eq_false hqd
     have hm:IntKind.i64.wrap (10*(valR (w.take j):Int))=((10*valR (w.take j):Nat):Int):=by rw[show (10*(valR (w.take j):Int))=((10*valR (w.take j):Nat):Int) by omega]; exact wrap_nat (by omega)
     have hs8:IntKind.u8.wrap ((c.toNat:Int)-48)=((c.toNat-48:Nat):Int):=by
      simp only[IntKind.wrap,IntKind.signed,IntKind.bits]
      simp
      omega
     have hcv:∀ G:AHeap,aConvert Tryz.prog G 5 3 (.int .u8 ((c.toNat-48:Nat):Int))=some (.int .i64 ((c.toNat-48:Nat):Int),G):=fun G=>by
      rw[cv_int (u:=.int .u8) (k:=.i64) (by kernel_rfl) (by kernel_rfl),wrap_nat (by omega)]
     have ha:IntKind.i64.wrap (((10*valR (w.take j):Nat):Int)+((c.toNat-48:Nat):Int))=((10*valR (w.take j)+(c.toNat-48):Nat):Int):=by rw[←Int.natCast_add]; exact wrap_nat (by omega)
     have hts:=take_snoc hjl
     rw[hc]at hts
     simp (maxDischargeDepth:=6) only[g0,g4,g5,hdj,ij,hpd,hqd,hm,hs8,hcv,ha,hw,w_convert,bt_lenStr u9,bs_size,ruW,putL,Nat.reduceLeDiff,xF,ruU,entryE,Nat.reduceLT,Nat.reduceAdd,Nat.reduceMul,Nat.reduceEqDiff]
     refine loopC_next ⟨j+1,by omega,rfl,by omega,fun x hx=>?_,?_,?_,?_,?_⟩
     ·rw[hts,zC2,zA7]at hx
      rcases hx with hx|rfl
      ·exact hdg x hx
      ·exact dig_iff.2 ⟨by omega,by omega⟩
     ·rw[hts,val_snoc,Nat.pow_succ]
      omega
     ·simp only[g0,ruU,entryE,Nat.reduceLT,Nat.reduceAdd,Nat.reduceMul,Nat.reduceEqDiff]
     ·rw[hts,val_snoc]; simp only[ruU,entryE,Nat.reduceLT,Nat.reduceAdd,Nat.reduceMul,Nat.reduceEqDiff]
     ·simp only[ruU,entryE,Nat.reduceLT,Nat.reduceAdd,Nat.reduceMul,Nat.reduceEqDiff]
theorem opK_none {w:List UInt8}:∀ {k:Nat},(∀ j,j<k→nameR j≠w)→opK w k=-1
 |0,_=>rfl
 |k+1,h=>by rw[opK,if_neg (h k (by omega)),opK_none fun j hj=>h j (by omega)]
theorem opcode_c (H:AHeap) (w:List UInt8):Pure 69 [.string (bs w)] H (.int .i64 (opK w 28)):=by
 obtain⟨b,hb⟩:∃ b,H.next=b:=⟨_,rfl⟩
 have names:∀ H:AHeap,CallS Tryz.prog 34 [] H (.ok (.slice (some ⟨H.next+0,0,some 0⟩) 28 28)) (ext H [⟨9,false,nmV⟩]):=fun H=>by
  obtain⟨b,hb⟩:∃ b,H.next=b:=⟨_,rfl⟩
  refine callS_fn mixed Tryz.func34 rfl Tryz.ntmps34 (zB8 rfl) fun wf hsc=>?_
  have hbase:H.base≤b:=hb▸wf.base
  simp (maxDischargeDepth:=6) only[hb,hbase,Tryz.results34,ruW,putL,Nat.reduceLeDiff,xF,ruU,entryE,Nat.reduceLT,Nat.reduceAdd,Nat.reduceMul,Nat.reduceEqDiff]
  exact Fin.same
 refine callS_fn mixed Tryz.func69 rfl Tryz.ntmps69 (zB8 rfl) fun wf hsc=>?_
 have hbase:H.base≤b:=hb▸wf.base
 simp (maxDischargeDepth:=6) only[ruW,putL,Nat.reduceLeDiff,xF,ruU,entryE,Nat.reduceLT,Nat.reduceAdd,Nat.reduceMul,Nat.reduceEqDiff]
 refine (names (ext H [])).to ?_
 simp (maxDischargeDepth:=6) only[hb,ext_next,zC4,zD0,ruW,putL,Nat.reduceLeDiff,xF,ruU,entryE,Nat.reduceLT,Nat.reduceAdd,Nat.reduceMul,Nat.reduceEqDiff]
 refine w_env fun E hE=>?_
 have g0:E 0=.string (bs w):=by rw[hE]; simp only[ruU,entryE,Nat.reduceLT,Nat.reduceAdd,Nat.reduceMul,Nat.reduceEqDiff]
 have g3:E 3=.slice (some ⟨b,0,some 0⟩) 28 28:=by rw[hE]; simp only[ruU,entryE,Nat.reduceLT,Nat.reduceAdd,Nat.reduceMul,Nat.reduceEqDiff]
 have g4:E 4=.int .i64 ((0:Nat):Int):=by rw[hE]; (simp only[ruU,entryE,Nat.reduceLT,Nat.reduceAdd,Nat.reduceMul,Nat.reduceEqDiff]<;>rfl)
 clear hE
 refine w_loop (fun (i:Nat) E' H'=>H'=ext H [⟨9,false,nmV⟩]∧i≤28∧(∀ j,j<i→nameR j≠w)∧E' 0=.string (bs w)∧E' 3=.slice (some ⟨b,0,some 0⟩) 28 28∧E' 4=.int .i64 (i:Int)) (fun i=>28-i) 0
  ⟨rfl,by decide,fun j hj=>absurd hj (by omega),g0,g3,g4⟩ ?_
 clear g0 g3 g4 E
 rintro i E H' ⟨hH,hi,hno,g0,g3,g4⟩
 rw[hH]
 by_cases hie:i=28
 ·have hd:decide ((i:Int)<((28:Nat):Int))=false:=decide_eq_false (by omega)
  subst hie
  simp (maxDischargeDepth:=6) only[g0,g3,g4,hd,Tryz.results69,ruW,putL,Nat.reduceLeDiff,xF,ruU,entryE,Nat.reduceLT,Nat.reduceAdd,Nat.reduceMul,Nat.reduceEqDiff]
  exact Fin.pureE (by rw[opK_none hno]) rfl
 ·have hd:decide ((i:Int)<((28:Nat):Int))=true:=decide_eq_true (by omega)
  have i4:aIndexAddr Tryz.prog 54 (.slice (some ⟨b,0,some 0⟩) 28 28) (.int .i64 (i:Int))=some (.pointer (some ⟨b+0,0+i*1,none⟩)):=ia_of u54' s9' (by omega)
  rw[zD3,zC8]at i4
  have kn:bk (ext H [⟨9,false,nmV⟩]) (b+0)=some ⟨9,false,nmV⟩:=by rw[bk_at hb (by simp)]; rfl
  have hnm:=nm_get (show i<28 by omega)
  have hw:IntKind.i64.wrap ((i:Int)+1)=((i+1:Nat):Int):=wrap_succ (by omega)
  generalize hX:ext H [⟨9,false,nmV⟩]=X at kn ⊢
  have nX:b+0<X.next:=by rw[←hX,ext_next,hb]; simp
  rw[show X=ext X [] from rfl]
  simp (maxDischargeDepth:=6) only[g0,g3,g4,hd,i4,kn,nX,hnm,hw,qk_old,ruW,putL,Nat.reduceLeDiff,xF,ruU,entryE,Nat.reduceLT,Nat.reduceAdd,Nat.reduceMul,Nat.reduceEqDiff]
  refine (w_eqStr (a:=bs (nameR i)) (b:=bs w) (by simp only[ruU,entryE,Nat.reduceLT,Nat.reduceAdd,Nat.reduceMul,Nat.reduceEqDiff]) (by simp only[ruU,entryE,Nat.reduceLT,Nat.reduceAdd,Nat.reduceMul,Nat.reduceEqDiff]) (by simp only[ruU,entryE,Nat.reduceLT,Nat.reduceAdd,Nat.reduceMul,Nat.reduceEqDiff]) (by simp only[g0,ruU,entryE,Nat.reduceLT,Nat.reduceAdd,Nat.reduceMul,Nat.reduceEqDiff]) (by decide) eqb_none).mpr ?_
  rw[eqb_bs]
  obtain⟨d,hdd⟩:∃ d,decide (nameR i=w)=d:=⟨_,rfl⟩
  cases d with
  |true =>
   have he:=of_decide_eq_true hdd
   simp (maxDischargeDepth:=6) only[g0,g3,g4,hdd,Tryz.results69,ruW,putL,Nat.reduceLeDiff,xF,ruU,entryE,Nat.reduceLT,Nat.reduceAdd,Nat.reduceMul,Nat.reduceEqDiff]
   rw[←hX]
   exact Fin.pureE (by rw[←he,opK_name (by omega) (zA8 _)]) rfl
  |false =>
   have he:=of_decide_eq_false hdd
   simp (maxDischargeDepth:=6) only[g0,g3,g4,hdd,hw,ruW,putL,Nat.reduceLeDiff,xF,ruU,entryE,Nat.reduceLT,Nat.reduceAdd,Nat.reduceMul,Nat.reduceEqDiff]
   refine loopC_next ⟨i+1,by omega,rfl,by omega,fun j hj=>?_,?_,?_,?_⟩
   ·by_cases h:j=i
    ·rw[h]; exact he
    ·exact hno j (by omega)
   all_goals simp only[g0,g3,ruU,entryE,Nat.reduceLT,Nat.reduceAdd,Nat.reduceMul,Nat.reduceEqDiff]
set_option maxRecDepth 100000
theorem drop_snoc {s:List UInt8} {i:Nat} (h:i<s.length):s.drop i=s.getD i 0::s.drop (i+1):=by
 rw[List.drop_eq_getElem_cons h,zC3,zB0 h]
 rfl
theorem sl_one {H:AHeap} {l:List UInt8} {i:Nat} (h:i<l.length):aSlice Tryz.prog H 9 (.string (bs l)) (some (.int .i64 (i:Int))) (some (.int .i64 ((i+1:Nat):Int))) none=some (.string (bs [l.getD i 0]),H):=by
 simp only[aSlice,u9,bound,zA1,zA3]
 rw[if_pos (by omega),if_pos (by omega),zA3,zA3,zC1,zC1,if_pos ⟨by rw[bs_size]; omega,by omega⟩]
 have:(bs l).extract i (i+1)=bs [l.getD i 0]:=by
  apply ByteArray.ext
  apply Array.ext'
  rw[ByteArray.data_extract,Array.toList_extract,List.extract_eq_take_drop]
  show (l.drop i).take (i+1-i)=[l.getD i 0]
  rw[drop_snoc h,show i+1-i=1 by omega]
  rfl
 rw[this]
theorem cntR_nn {op:Nat} {args:List Int} (h:∀ x∈args,0≤x∧x≤65535):0≤cntR op args∧cntR op args≤65535:=by
 refine⟨?_,cntR_small h⟩
 unfold cntR
 split
 ·exact (getD_small h 0).1
 ·split
  ·exact (getD_small h 1).1
  ·omega
theorem line_c (H:AHeap) (s:List UInt8) (hs:s.length≤900000) (hok:H.base≤H.next):CallA Tryz.prog 43 [.string (bs s)] H (fun out X=>LineOut H.next s out X∧Mod [] H X):=by
 obtain⟨b,hbn⟩:∃ b,H.next=b:=⟨_,rfl⟩
 have hbase:H.base≤b:=hbn▸hok
 obtain⟨h,t,hht⟩:=List.exists_cons_of_ne_nil (split_ne 32 s)
 have hL:lineR s=(if opK h 28<0 then (⟨0,-1,[]⟩,5) else
   if (argsR t []).2≠0 then (⟨0,opK h 28,(argsR t []).1⟩,(argsR t []).2) else
   if (argsR t []).1.length<(kindsR (opK h 28).toNat []).length∨(argsR t []).1.length≠(kindsR (opK h 28).toNat (argsR t []).1).length then (⟨0,opK h 28,(argsR t []).1⟩,5) else
   (⟨0,opK h 28,(argsR t []).1⟩,0)):=by simp only[lineR,hht,List.headD_cons,List.tail_cons]
 refine callE_fn mixed Tryz.func43 rfl Tryz.ntmps43 (zB8 rfl) ?_
 rw[hbn]
 simp (maxDischargeDepth:=6) only[hbn,hbase,ruW,putL,Nat.reduceLeDiff,xF,ruU,entryE,Nat.reduceLT,Nat.reduceAdd,Nat.reduceMul,Nat.reduceEqDiff]
 refine w_env fun E hE=>?_
 have g0:E 0=.string (bs s):=by rw[hE]; simp only[ruU,entryE,Nat.reduceLT,Nat.reduceAdd,Nat.reduceMul,Nat.reduceEqDiff]
 have g2:E 2=.pointer (some ⟨b+0,0,none⟩):=by rw[hE]; simp only[ruU,entryE,Nat.reduceLT,Nat.reduceAdd,Nat.reduceMul,Nat.reduceEqDiff]
 have g4:E 4=.pointer (some ⟨b+1,0,none⟩):=by rw[hE]; simp only[ruU,entryE,Nat.reduceLT,Nat.reduceAdd,Nat.reduceMul,Nat.reduceEqDiff]
 have g5:E 5=.string (bs []):=by rw[hE]; (simp only[ruU,entryE,Nat.reduceLT,Nat.reduceAdd,Nat.reduceMul,Nat.reduceEqDiff]<;>rfl)
 have g6:E 6=.bool true:=by rw[hE]; simp only[ruU,entryE,Nat.reduceLT,Nat.reduceAdd,Nat.reduceMul,Nat.reduceEqDiff]
 have g7:E 7=.int .i64 ((0:Nat):Int):=by rw[hE]; (simp only[ruU,entryE,Nat.reduceLT,Nat.reduceAdd,Nat.reduceMul,Nat.reduceEqDiff]<;>rfl)
 clear hE
 generalize hX0:ext H _=X0
 have m0:Mod [] H X0:=hX0▸Mod.ext hok
 have n0:b+2≤X0.next:=by rw[←hX0,ext_next,hbn]; simp
 have k0:bk X0 (b+0)=some ⟨59,false,[.int .i64 0,.int .i64 0,.slice none 0 0]⟩:=by rw[←hX0,bk_at hbn (by simp)]; rfl
 have k1:bk X0 (b+1)=some ⟨59,false,[.int .i64 0,.int .i64 0,.slice none 0 0]⟩:=by rw[←hX0,bk_at hbn (by simp)]; rfl
 clear hX0
 refine blockC_meet (fun E' X=>∃ (k:Nat) (a:List Int) (v:Value),k<28∧opK h 28=(k:Int)∧Mod [] H X∧b+2≤X.next∧bk X (b+0)=some ⟨59,false,[.int .i64 0,.int .i64 0,.slice none 0 0]⟩∧bk X (b+1)=some ⟨59,false,[.int .i64 0,.int .i64 (k:Int),v]⟩∧ArgA X v a∧(∀ q∈idsV v,b+2≤q)∧argsR t []=(a,0)∧(∀ q∈a,0≤q∧q≤65535)∧E' 2=.pointer (some ⟨b+0,0,none⟩)∧E' 4=.pointer (some ⟨b+1,0,none⟩)) ?_ ?_
 ·refine w_loop (fun (z:Nat × List UInt8 × Bool × Int × List Int × Value) E' X=>z.1≤s.length+1∧(∀ c∈z.2.1,c≠32)∧z.2.1.length≤z.1∧(z.1≤s.length→if z.2.2.1 then splitR 32 (z.2.1++s.drop z.1)=h::t∧z.2.2.2.1=0∧z.2.2.2.2.1=[]∧z.2.2.2.2.2=.slice none 0 0 else opK h 28=z.2.2.2.1∧0≤z.2.2.2.1∧argsR (splitR 32 (z.2.1++s.drop z.1)) z.2.2.2.2.1=argsR t [])∧(z.1=s.length+1→z.2.2.1=false∧opK h 28=z.2.2.2.1∧0≤z.2.2.2.1∧argsR t []=(z.2.2.2.2.1,0))∧Mod [] H X∧b+2≤X.next∧bk X (b+0)=some ⟨59,false,[.int .i64 0,.int .i64 0,.slice none 0 0]⟩∧bk X (b+1)=some ⟨59,false,[.int .i64 0,.int .i64 z.2.2.2.1,z.2.2.2.2.2]⟩∧ArgA X z.2.2.2.2.2 z.2.2.2.2.1∧(∀ q∈idsV z.2.2.2.2.2,b+2≤q)∧(∀ q∈z.2.2.2.2.1,0≤q∧q≤65535)∧z.2.2.2.2.1.length≤z.1∧E' 0=.string (bs s)∧E' 2=.pointer (some ⟨b+0,0,none⟩)∧E' 4=.pointer (some ⟨b+1,0,none⟩)∧E' 5=.string (bs z.2.1)∧E' 6=.bool z.2.2.1∧E' 7=.int .i64 (z.1:Int)) (fun z=>s.length+1-z.1) (0,[],true,0,[],.slice none 0 0)
   ⟨zB4 _,fun c hc=>by simp at hc,zB4 _,fun _=>by rw[if_pos rfl]; exact⟨hht,rfl,rfl,rfl⟩,fun h=>absurd h (by omega),m0,n0,k0,k1,VsAt.nil,fun q hq=>by simp[idsV]at hq,fun q hq=>by simp at hq,zB4 _,g0,g2,g4,g5,g6,g7⟩ ?_
  clear g0 g2 g4 g5 g6 g7 m0 n0 k0 k1 X0 E
  rintro⟨i,w,fst,op,a,v⟩ E X ⟨hi,hwf,hwl,hin,hout,m,nx,k0,k1,hv,hvi,hsm,hal,g0,g2,g4,g5,g6,g7⟩
  simp only at hi hwf hwl hin hout k1 hv hvi hsm hal g5 g6 g7
  obtain⟨y,hy⟩:∃ y,X.next=y:=⟨_,rfl⟩
  have hyb:X.base≤y:=hy▸m.ok hok
  rw[hy]at nx
  have l0:b+0<y:=by omega
  have l1:b+1<y:=by omega
  obtain⟨va,ev⟩:=hv.len
  rw[show X=ext X [] from rfl]
  by_cases hie:i=s.length+1
  ·obtain⟨rfl,h1,h2,h3⟩:=hout hie
   obtain⟨k,rfl⟩:∃ k:Nat,op=k:=⟨op.toNat,by omega⟩
   obtain⟨k',e1,e2,_⟩:=opK_back (show 0≤opK h 28 by omega)
   have hd:decide ((i:Int)≤(s.length:Int))=false:=decide_eq_false (by omega)
   simp (maxDischargeDepth:=6) only[g0,g2,g4,g5,g6,g7,hd,bt_lenStr u9,bs_size,ruW,putL,Nat.reduceLeDiff,xF,ruU,entryE,Nat.reduceLT,Nat.reduceAdd,Nat.reduceMul,Nat.reduceEqDiff]
   refine joinR_normal ⟨k,a,v,by omega,h1,m,by rw[ext_nil,hy]; exact nx,k0,k1,hv,hvi,h3,hsm,?_,?_⟩<;>simp only[g2,g4,ruU,entryE,Nat.reduceLT,Nat.reduceAdd,Nat.reduceMul,Nat.reduceEqDiff]
  ·have hd:decide ((i:Int)≤(s.length:Int))=true:=decide_eq_true (by omega)
   replace hin:=hin (by omega)
   have hw:IntKind.i64.wrap ((i:Int)+1)=((i+1:Nat):Int):=wrap_succ (by omega)
   have hA:(∃ hil:i<s.length,s.getD i 0≠32)∨∃ rest,splitR 32 (w++s.drop i)=w::rest∧(i<s.length→s.getD i 0=32∧rest=splitR 32 (s.drop (i+1)))∧(i=s.length→rest=[]):=by
    by_cases hil:i<s.length
    ·by_cases h32:s.getD i 0=32
     ·right
      refine⟨splitR 32 (s.drop (i+1)),?_,fun _=>⟨h32,rfl⟩,fun h=>absurd h (by omega)⟩
      rw[drop_snoc hil,h32,split_at hwf]
     ·exact .inl ⟨hil,h32⟩
    ·right
     refine⟨[],?_,fun h=>absurd h hil,fun _=>rfl⟩
     rw[List.drop_of_length_le (by omega),zD5,split_free hwf]
   have h32i:∀ c:UInt8,decide (¬(c.toNat:Int)=32)=!decide (c=32):=fun c=>by
    by_cases h:c=32
    ·rw[h]; rfl
    ·have h2:¬(c.toNat:Int)=32:=fun e=>h (UInt8.toNat_inj.1 (by have h32:(32:UInt8).toNat=32:=rfl; omega))
     rw[decide_eq_false h]
     exact decide_eq_true h2
   rcases hA with⟨hil,h32⟩|⟨rest,hsp,hr1,hr2⟩
   ·have hd1:decide ((i:Int)<(s.length:Int))=true:=decide_eq_true (by omega)
    have ix:=ix_bs hil
    have hd2:=h32i (s.getD i 0)
    rw[decide_eq_false h32,Bool.not_false]at hd2
    have hsl:∀ G:AHeap,aSlice Tryz.prog G 9 (.string (bs s)) (some (.int .i64 (i:Int))) (some (.int .i64 ((i+1:Nat):Int))) none=some (.string (bs [s.getD i 0]),G):=fun G=>sl_one hil
    simp (maxDischargeDepth:=6) only[g0,g2,g4,g5,g6,g7,hd,hd1,hd2,ix,hw,hsl,w_slice,bnds_none,bnds_some,bndsOk_none,bndsOk_some,bt_lenStr u9,bs_size,ruW,putL,Nat.reduceLeDiff,xF,ruU,entryE,Nat.reduceLT,Nat.reduceAdd,Nat.reduceMul,Nat.reduceEqDiff]
    refine w_cat (a:=bs w) (b:=bs [s.getD i 0]) u9 rfl rfl (by simp only[g5,ruU,entryE,Nat.reduceLT,Nat.reduceAdd,Nat.reduceMul,Nat.reduceEqDiff]) (by simp only[ruU,entryE,Nat.reduceLT,Nat.reduceAdd,Nat.reduceMul,Nat.reduceEqDiff]) (by decide) (by rw[bs_size,bs_size,zC0]; omega) ?_
    rw[bytes_app]
    simp (maxDischargeDepth:=6) only[g0,g2,g4,g5,g6,g7,hw,ruW,putL,Nat.reduceLeDiff,xF,ruU,entryE,Nat.reduceLT,Nat.reduceAdd,Nat.reduceMul,Nat.reduceEqDiff]
    have hdr:(w++[s.getD i 0])++s.drop (i+1)=w++s.drop i:=by rw[drop_snoc hil,List.append_assoc]; rfl
    refine loopC_next ⟨(i+1,w++[s.getD i 0],fst,op,a,v),by simp only; omega,by simp only; omega,fun c hc=>?_,by simp only[zB3,zC0]; omega,fun _=>by simp only; rw[hdr]; exact hin,fun h=>absurd h (by simp only; omega),m,by rw[ext_nil,hy]; exact nx,k0,k1,hv,hvi,hsm,by simp only; omega,?_,?_,?_,?_,?_,?_⟩
    ·rcases zC2.1 hc with hc|hc
     ·exact hwf c hc
     ·rw[zA7]at hc; rw[hc]; exact h32
    all_goals simp only[g0,g2,g4,g5,g6,g7,ruU,entryE,Nat.reduceLT,Nat.reduceAdd,Nat.reduceMul,Nat.reduceEqDiff]
   ·rw[hsp]at hin
    have hcond:∃ p1,decide ((i:Int)<(s.length:Int))=p1∧(p1=true→aIndex Tryz.prog 9 (.string (bs s)) (.int .i64 (i:Int))=some (.int .u8 ((s.getD i 0).toNat:Int))∧decide (¬((s.getD i 0).toNat:Int)=32)=false):=by
     refine⟨_,rfl,fun hp=>?_⟩
     have hil:i<s.length:=by have:=of_decide_eq_true hp; omega
     refine⟨ix_bs hil,?_⟩
     rw[h32i,(hr1 hil).1]
     rfl
    obtain⟨p1,hp1,hix⟩:=hcond
    cases fst with
    |true =>
     rw[if_pos rfl]at hin
     obtain⟨hin,rfl,rfl,rfl⟩:=hin
     simp only[List.cons.injEq]at hin
     obtain⟨rfl,rfl⟩:=hin
     cases p1 with
     |true =>
      obtain⟨hix,hd2⟩:=hix rfl
      simp (maxDischargeDepth:=6) only[g0,g2,g4,g5,g6,g7,hd,hp1,hd2,hix,bt_lenStr u9,bs_size,ruW,putL,Nat.reduceLeDiff,xF,ruU,entryE,Nat.reduceLT,Nat.reduceAdd,Nat.reduceMul,Nat.reduceEqDiff]
      refine (opcode_c (ext X []) w).to ?_
      by_cases hneg:opK w 28<0
      ·have hdn:decide (opK w 28<0)=true:=decide_eq_true hneg
       have hm1:opK w 28=-1:=by have:=opK_ge w 28; omega
       rw[if_pos hneg]at hL
       simp (maxDischargeDepth:=6) only[g0,g2,g4,g5,g6,g7,hy,l0,l1,k0,k1,hdn,joinR_ret,Tryz.results43,ruW,putL,Nat.reduceLeDiff,xF,ruU,entryE,Nat.reduceLT,Nat.reduceAdd,Nat.reduceMul,Nat.reduceEqDiff]
       refine⟨⟨.slice none 0 0,by rw[hL,hm1],by rw[hL]; exact VsAt.nil,fun q hq=>by simp[idsV]at hq⟩,(m.step (W':=[b+1]) (Mod.uw (by simp)) hok fun q hq=>.inr (by simp only[zA7]at hq; omega)).step (W':=[b+0]) (Mod.uw (by simp)) hok fun q hq=>.inr (by simp only[zA7]at hq; omega)⟩
      ·have hdn:decide (opK w 28<0)=false:=decide_eq_false hneg
       simp (maxDischargeDepth:=6) only[g0,g2,g4,g5,g6,g7,hy,l0,l1,k0,k1,hdn,hw,ruW,putL,Nat.reduceLeDiff,xF,ruU,entryE,Nat.reduceLT,Nat.reduceAdd,Nat.reduceMul,Nat.reduceEqDiff]
       refine loopC_next ⟨(i+1,[],false,opK w 28,[],.slice none 0 0),by simp only; omega,by simp only; omega,fun c hc=>by simp at hc,zB4 _,fun hle=>?_,fun he=>?_,m.step (W':=[b+1]) (Mod.uw (by simp)) hok fun q hq=>.inr (by simp only[zA7]at hq; omega),by rw[ext_nil,uw_next,hy]; exact nx,(bk_uw_ne (by omega)).trans k0,?_,VsAt.nil,fun q hq=>by simp[idsV]at hq,fun q hq=>by simp at hq,zB4 _,?_,?_,?_,?_,?_,?_⟩
       ·simp only[zB2,if_false,zC5]at hle ⊢
        refine⟨trivial,by omega,?_⟩
        rw[(hr1 (by omega)).2]
       ·simp only at he
        refine⟨rfl,rfl,by simp only; omega,?_⟩
        rw[hr2 (by omega)]
        rfl
       ·rw[ext_nil,bk_uw_eq,k1]; rfl
       all_goals simp only[g0,g2,g4,ruU,entryE,Nat.reduceLT,Nat.reduceAdd,Nat.reduceMul,Nat.reduceEqDiff]<;>rfl
     |false =>
      simp (maxDischargeDepth:=6) only[g0,g2,g4,g5,g6,g7,hd,hp1,bt_lenStr u9,bs_size,ruW,putL,Nat.reduceLeDiff,xF,ruU,entryE,Nat.reduceLT,Nat.reduceAdd,Nat.reduceMul,Nat.reduceEqDiff]
      refine (opcode_c (ext X []) w).to ?_
      by_cases hneg:opK w 28<0
      ·have hdn:decide (opK w 28<0)=true:=decide_eq_true hneg
       have hm1:opK w 28=-1:=by have:=opK_ge w 28; omega
       rw[if_pos hneg]at hL
       simp (maxDischargeDepth:=6) only[g0,g2,g4,g5,g6,g7,hy,l0,l1,k0,k1,hdn,joinR_ret,Tryz.results43,ruW,putL,Nat.reduceLeDiff,xF,ruU,entryE,Nat.reduceLT,Nat.reduceAdd,Nat.reduceMul,Nat.reduceEqDiff]
       refine⟨⟨.slice none 0 0,by rw[hL,hm1],by rw[hL]; exact VsAt.nil,fun q hq=>by simp[idsV]at hq⟩,(m.step (W':=[b+1]) (Mod.uw (by simp)) hok fun q hq=>.inr (by simp only[zA7]at hq; omega)).step (W':=[b+0]) (Mod.uw (by simp)) hok fun q hq=>.inr (by simp only[zA7]at hq; omega)⟩
      ·have hdn:decide (opK w 28<0)=false:=decide_eq_false hneg
       simp (maxDischargeDepth:=6) only[g0,g2,g4,g5,g6,g7,hy,l0,l1,k0,k1,hdn,hw,ruW,putL,Nat.reduceLeDiff,xF,ruU,entryE,Nat.reduceLT,Nat.reduceAdd,Nat.reduceMul,Nat.reduceEqDiff]
       refine loopC_next ⟨(i+1,[],false,opK w 28,[],.slice none 0 0),by simp only; omega,by simp only; omega,fun c hc=>by simp at hc,zB4 _,fun hle=>?_,fun he=>?_,m.step (W':=[b+1]) (Mod.uw (by simp)) hok fun q hq=>.inr (by simp only[zA7]at hq; omega),by rw[ext_nil,uw_next,hy]; exact nx,(bk_uw_ne (by omega)).trans k0,?_,VsAt.nil,fun q hq=>by simp[idsV]at hq,fun q hq=>by simp at hq,zB4 _,?_,?_,?_,?_,?_,?_⟩
       ·simp only[zB2,if_false,zC5]at hle ⊢
        refine⟨trivial,by omega,?_⟩
        rw[(hr1 (by omega)).2]
       ·simp only at he
        refine⟨rfl,rfl,by simp only; omega,?_⟩
        rw[hr2 (by omega)]
        rfl
       ·rw[ext_nil,bk_uw_eq,k1]; rfl
       all_goals simp only[g0,g2,g4,ruU,entryE,Nat.reduceLT,Nat.reduceAdd,Nat.reduceMul,Nat.reduceEqDiff]<;>rfl
    |false =>
     rw[if_neg (by simp)]at hin
     obtain⟨hop,hop0,hag⟩:=hin
     rw[argsR]at hag
     have hsv:scb y v=true:=hy▸VsAt.sc hv
     cases p1 with
     |true =>
      obtain⟨hix,hd2⟩:=hix rfl
      simp (maxDischargeDepth:=6) only[g0,g2,g4,g5,g6,g7,hd,hp1,hd2,hix,bt_lenStr u9,bs_size,ruW,putL,Nat.reduceLeDiff,xF,ruU,entryE,Nat.reduceLT,Nat.reduceAdd,Nat.reduceMul,Nat.reduceEqDiff]
      refine (number70_c (ext X []) w).to ?_
      obtain⟨m',e,hme⟩:∃ m' e,numR w=(m',e):=⟨_,_,rfl⟩
      have hnb:e=0→0≤m'∧m'≤65535:=fun h=>by
       have:=(num_back (w:=w) (by rw[hme]; exact h)).2
       rw[hme]at this
       exact this
      rw[hme]at hag ⊢
      simp only at hag ⊢
      obtain⟨d,hdd⟩:∃ d,decide (¬e=0)=d:=⟨_,rfl⟩
      cases d with
      |true =>
       have he:=of_decide_eq_true hdd
       rw[if_neg he]at hag
       rw[if_neg (by omega),←hag,if_pos he,hop]at hL
       rw[ev]at k1 hsv
       simp (maxDischargeDepth:=6) only[g0,g2,g4,g5,g6,g7,hy,hyb,l0,l1,k0,k1,hdd,hsv,joinR_ret,Tryz.results43,ruW,putL,Nat.reduceLeDiff,xF,ruU,entryE,Nat.reduceLT,Nat.reduceAdd,Nat.reduceMul,Nat.reduceEqDiff]
       refine⟨⟨v,?_,?_,fun q hq=>by have:=hvi q hq; omega⟩,m.step (W':=[b+0]) (Mod.uw (by simp)) hok fun q hq=>.inr (by simp only[zA7]at hq; omega)⟩
       ·rw[hL,ev]
       ·rw[hL]
        exact hv.of (by rw[ext_nil,uw_next]; exact zA8 _) fun q hq=>uw_get (by have:=hvi q hq; omega)
      |false =>
       have he:=Decidable.of_not_not (of_decide_eq_false hdd)
       rw[if_pos he]at hag
       obtain⟨G,e1,vG,mG,nG⟩:=int_app hv hy (by omega) (by omega) m'
       have kG:bk G (b+1)=some ⟨59,false,[.int .i64 0,.int .i64 op,v]⟩:=(mG.bk (by omega) (fun h=>by have:=hvi _ h; omega)).trans k1
       have kbG:=(mG.bk (by omega) (fun h=>by have:=hvi _ h; omega)).trans k0
       have mHG:Mod [] H G:=m.step mG hok fun q hq=>.inr (by have:=hvi q hq; omega)
       have gx:b+1<y+2:=by omega
       have gx1:b+1<y+1:=by omega
       have hsG:scb (y+2) (.slice (some ⟨y+1,0,none⟩) (a.length+1) (a.length+1))=true:=by simp[scb]
       have kG':=kG
       rw[ev]at k1 hsv e1 kG'
       replace e1:aBuiltin Tryz.prog (ext X [⟨3,false,[.int .i64 m']⟩]) .append ⟨[35,35]⟩ [.slice va a.length a.length,.slice (some ⟨y+0,0,some 0⟩) 1 1]=some (.slice (some ⟨y+1,0,none⟩) (a.length+1) (a.length+1),ext G []):=e1
       simp (maxDischargeDepth:=6) only[g0,g2,g4,g5,g6,g7,hy,hyb,l0,l1,k0,k1,hdd,hsv,e1,nG,gx,gx1,kG',hsG,hw,ruW,putL,Nat.reduceLeDiff,xF,ruU,entryE,Nat.reduceLT,Nat.reduceAdd,Nat.reduceMul,Nat.reduceEqDiff]
       refine loopC_next ⟨(i+1,[],false,op,a++[m'],.slice (some ⟨y+1,0,none⟩) (a.length+1) (a.length+1)),by simp only; omega,by simp only; omega,fun c hc=>by simp at hc,zB4 _,fun hle=>?_,fun he'=>?_,mHG.step (W':=[b+1]) (Mod.uw (by simp)) hok fun q hq=>.inr (by simp only[zA7]at hq; omega),by rw[ext_nil,uw_next,nG]; omega,(bk_uw_ne (by omega)).trans kbG,?_,?_,fun q hq=>by simp only[idsV,zA7]at hq; omega,fun q hq=>?_,by simp only[zB3,zC0]; omega,?_,?_,?_,?_,?_,?_⟩
       ·simp only[zB2,if_false,zC5]at hle ⊢
        refine⟨hop,hop0,?_⟩
        rw[←hag,(hr1 (by omega)).2]
       ·simp only at he'
        refine⟨rfl,hop,hop0,?_⟩
        rw[←hag,hr2 (by omega)]
        rfl
       ·rw[ext_nil,bk_uw_eq,kG]; rfl
       ·exact ArgA.of vG (by rw[ext_nil,uw_next]; exact zA8 _) fun q hq=>uw_get (by simp only[idsV,zA7]at hq; omega)
       ·rcases zC2.1 hq with hq|hq
        ·exact hsm q hq
        ·rw[zA7]at hq
         rw[hq]
         exact hnb he
       all_goals simp only[g0,g2,g4,ruU,entryE,Nat.reduceLT,Nat.reduceAdd,Nat.reduceMul,Nat.reduceEqDiff]<;>rfl
     |false =>
      simp (maxDischargeDepth:=6) only[g0,g2,g4,g5,g6,g7,hd,hp1,bt_lenStr u9,bs_size,ruW,putL,Nat.reduceLeDiff,xF,ruU,entryE,Nat.reduceLT,Nat.reduceAdd,Nat.reduceMul,Nat.reduceEqDiff]
      refine (number70_c (ext X []) w).to ?_
      obtain⟨m',e,hme⟩:∃ m' e,numR w=(m',e):=⟨_,_,rfl⟩
      have hnb:e=0→0≤m'∧m'≤65535:=fun h=>by
       have:=(num_back (w:=w) (by rw[hme]; exact h)).2
       rw[hme]at this
       exact this
      rw[hme]at hag ⊢
      simp only at hag ⊢
      obtain⟨d,hdd⟩:∃ d,decide (¬e=0)=d:=⟨_,rfl⟩
      cases d with
      |true =>
       have he:=of_decide_eq_true hdd
       rw[if_neg he]at hag
       rw[if_neg (by omega),←hag,if_pos he,hop]at hL
       rw[ev]at k1 hsv
       simp (maxDischargeDepth:=6) only[g0,g2,g4,g5,g6,g7,hy,hyb,l0,l1,k0,k1,hdd,hsv,joinR_ret,Tryz.results43,ruW,putL,Nat.reduceLeDiff,xF,ruU,entryE,Nat.reduceLT,Nat.reduceAdd,Nat.reduceMul,Nat.reduceEqDiff]
       refine⟨⟨v,?_,?_,fun q hq=>by have:=hvi q hq; omega⟩,m.step (W':=[b+0]) (Mod.uw (by simp)) hok fun q hq=>.inr (by simp only[zA7]at hq; omega)⟩
       ·rw[hL,ev]
       ·rw[hL]
        exact hv.of (by rw[ext_nil,uw_next]; exact zA8 _) fun q hq=>uw_get (by have:=hvi q hq; omega)
      |false =>
       have he:=Decidable.of_not_not (of_decide_eq_false hdd)
       rw[if_pos he]at hag
       obtain⟨G,e1,vG,mG,nG⟩:=int_app hv hy (by omega) (by omega) m'
       have kG:bk G (b+1)=some ⟨59,false,[.int .i64 0,.int .i64 op,v]⟩:=(mG.bk (by omega) (fun h=>by have:=hvi _ h; omega)).trans k1
       have kbG:=(mG.bk (by omega) (fun h=>by have:=hvi _ h; omega)).trans k0
       have mHG:Mod [] H G:=m.step mG hok fun q hq=>.inr (by have:=hvi q hq; omega)
       have gx:b+1<y+2:=by omega
       have gx1:b+1<y+1:=by omega
       have hsG:scb (y+2) (.slice (some ⟨y+1,0,none⟩) (a.length+1) (a.length+1))=true:=by simp[scb]
       have kG':=kG
       rw[ev]at k1 hsv e1 kG'
       replace e1:aBuiltin Tryz.prog (ext X [⟨3,false,[.int .i64 m']⟩]) .append ⟨[35,35]⟩ [.slice va a.length a.length,.slice (some ⟨y+0,0,some 0⟩) 1 1]=some (.slice (some ⟨y+1,0,none⟩) (a.length+1) (a.length+1),ext G []):=e1
       simp (maxDischargeDepth:=6) only[g0,g2,g4,g5,g6,g7,hy,hyb,l0,l1,k0,k1,hdd,hsv,e1,nG,gx,gx1,kG',hsG,hw,ruW,putL,Nat.reduceLeDiff,xF,ruU,entryE,Nat.reduceLT,Nat.reduceAdd,Nat.reduceMul,Nat.reduceEqDiff]
       refine loopC_next ⟨(i+1,[],false,op,a++[m'],.slice (some ⟨y+1,0,none⟩) (a.length+1) (a.length+1)),by simp only; omega,by simp only; omega,fun c hc=>by simp at hc,zB4 _,fun hle=>?_,fun he'=>?_,mHG.step (W':=[b+1]) (Mod.uw (by simp)) hok fun q hq=>.inr (by simp only[zA7]at hq; omega),by rw[ext_nil,uw_next,nG]; omega,(bk_uw_ne (by omega)).trans kbG,?_,?_,fun q hq=>by simp only[idsV,zA7]at hq; omega,fun q hq=>?_,by simp only[zB3,zC0]; omega,?_,?_,?_,?_,?_,?_⟩
       ·simp only[zB2,if_false,zC5]at hle ⊢
        refine⟨hop,hop0,?_⟩
        rw[←hag,(hr1 (by omega)).2]
       ·simp only at he'
        refine⟨rfl,hop,hop0,?_⟩
        rw[←hag,hr2 (by omega)]
        rfl
       ·rw[ext_nil,bk_uw_eq,kG]; rfl
       ·exact ArgA.of vG (by rw[ext_nil,uw_next]; exact zA8 _) fun q hq=>uw_get (by simp only[idsV,zA7]at hq; omega)
       ·rcases zC2.1 hq with hq|hq
        ·exact hsm q hq
        ·rw[zA7]at hq
         rw[hq]
         exact hnb he
       all_goals simp only[g0,g2,g4,ruU,entryE,Nat.reduceLT,Nat.reduceAdd,Nat.reduceMul,Nat.reduceEqDiff]<;>rfl
 ·clear g0 g2 g4 g5 g6 g7 m0 n0 k0 k1 X0 E
  rintro E X ⟨k,a,v,hk28,hk,m,nx,k0,k1,hv,hvi,hag,hsm,g2,g4⟩
  obtain⟨y,hy⟩:∃ y,X.next=y:=⟨_,rfl⟩
  have hyb:X.base≤y:=hy▸m.ok hok
  rw[hy]at nx
  have l0:b+0<y:=by omega
  have l1:b+1<y:=by omega
  obtain⟨va,ev⟩:=hv.len
  have hsv:scb y v=true:=hy▸VsAt.sc hv
  rw[hag,if_neg (by omega),if_neg (by simp),hk,zC1]at hL
  simp only at hL
  have fin:∀ vs e,lineR s=(⟨0,k,a⟩,e)→LineOut b s (.ok (.tuple ⟨[.agg ⟨[.int .i64 0,.int .i64 (k:Int),.slice va a.length a.length]⟩,.int .i64 e]⟩)) (ext (uw X (b+0) 0 vs) [])∧Mod [] H (ext (uw X (b+0) 0 vs) []):=fun vs e he=>by
   refine⟨⟨v,?_,?_,fun q hq=>by have:=hvi q hq; omega⟩,m.step (W':=[b+0]) (Mod.uw (by simp)) hok fun q hq=>.inr (by simp only[zA7]at hq; omega)⟩
   ·rw[he,ev]
   ·rw[he]
    exact hv.of (by rw[ext_nil,uw_next]; exact zA8 _) fun q hq=>uw_get (by have:=hvi q hq; omega)
  have hk1:=k1
  rw[ev]at k1 hsv
  rw[show X=ext X [] from rfl]
  simp only[w_seq]
  refine w_drawB [] [(7,63)] (by kernel_rfl) (by kernel_rfl) (by kernel_rfl) fun ops anc hA hG=>?_
  simp only[all2_cons]at hG
  simp (maxDischargeDepth:=6) only[g2,g4,hy,l1,k1,hG,qk_old,ruD,ruW,putL,Nat.reduceLeDiff,xF,ruU,entryE,Nat.reduceLT,Nat.reduceAdd,Nat.reduceMul,Nat.reduceEqDiff]
  refine genV_quiet (v:=.int .i64 (fixI k)) [] (by simp only[ruU,entryE,Nat.reduceLT,Nat.reduceAdd,Nat.reduceMul,Nat.reduceEqDiff]) (by kernel_rfl) (by decide) (fun q hq=>by simp at hq) (fun G hG hg=>by simp only[ruU,entryE,Nat.reduceLT,Nat.reduceAdd,Nat.reduceMul,Nat.reduceEqDiff]; exact fixed50_c G k hk28) (by simp[Meets]) ?_
  obtain⟨d1,hd1⟩:∃ d1,decide ((a.length:Int)<fixI k)=d1:=⟨_,rfl⟩
  cases d1 with
  |true =>
   have h1:=of_decide_eq_true hd1
   simp only[fixI]at h1
   rw[if_pos (.inl (by omega))]at hL
   simp (maxDischargeDepth:=6) only[g2,g4,hy,hyb,l0,l1,k0,k1,hsv,hG,hd1,qk_old,Tryz.results43,ruD,ruW,putL,Nat.reduceLeDiff,xF,ruU,entryE,Nat.reduceLT,Nat.reduceAdd,Nat.reduceMul,Nat.reduceEqDiff]
   exact fin _ _ hL
  |false =>
   have h1:=of_decide_eq_false hd1
   simp only[fixI]at h1
   simp (maxDischargeDepth:=6) only[g2,g4,hy,l1,k1,hG,hd1,qk_old,ruD,ruW,putL,Nat.reduceLeDiff,xF,ruU,entryE,Nat.reduceLT,Nat.reduceAdd,Nat.reduceMul,Nat.reduceEqDiff]
   have hFr:∀ q∈rdF (.slice va a.length a.length) a.length,(ext X []).get q≠none:=fun q hq=>by
    rw[←ev]at hq
    exact (hv.rd.ne q hq).1
   refine genV_quiet (v:=.int .i64 ((kindsR k a).length:Int)) (rdF (.slice va a.length a.length) a.length) (by simp only[ruU,entryE,Nat.reduceLT,Nat.reduceAdd,Nat.reduceMul,Nat.reduceEqDiff]) (by kernel_rfl) (by decide) hFr (fun G hG hg=>by
    simp only[ruU,entryE,Nat.reduceLT,Nat.reduceAdd,Nat.reduceMul,Nat.reduceEqDiff]
    rw[←ev]
    exact many_c G k v a hk28 (hv.rd.of (Nat.le_of_eq hG.symm) fun q hq=>hg q (by rw[←ev]; exact hq)) (by omega) (cntR_nn hsm)) (by simp[Meets]) ?_
   obtain⟨d2,hd2⟩:∃ d2,decide (¬(a.length:Int)=((kindsR k a).length:Int))=d2:=⟨_,rfl⟩
   cases d2 with
   |true =>
    have h2:=of_decide_eq_true hd2
    rw[if_pos (.inr (by omega))]at hL
    simp (maxDischargeDepth:=6) only[g2,g4,hy,hyb,l0,l1,k0,k1,hsv,hG,hd2,qk_old,Tryz.results43,ruD,ruW,putL,Nat.reduceLeDiff,xF,ruU,entryE,Nat.reduceLT,Nat.reduceAdd,Nat.reduceMul,Nat.reduceEqDiff]
    exact fin _ _ hL
   |false =>
    have h2:=of_decide_eq_false hd2
    rw[if_neg (by omega)]at hL
    simp (maxDischargeDepth:=6) only[g2,g4,hy,hyb,l0,l1,k0,k1,hsv,hG,hd2,qk_old,Tryz.results43,ruD,ruW,putL,Nat.reduceLeDiff,xF,ruU,entryE,Nat.reduceLT,Nat.reduceAdd,Nat.reduceMul,Nat.reduceEqDiff]
    exact fin _ _ hL
end Go.Proofs.YtnigelgcjfhghaaGreatDoor
