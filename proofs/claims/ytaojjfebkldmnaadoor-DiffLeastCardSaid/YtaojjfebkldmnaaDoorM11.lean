/- Parts of the proof, one behind the other. -/
import Derived.Test.YtaojjfebkldmnaaDoorM4
import Derived.Test.YtaojjfebkldmnaaDoorM10
import Derived.Test.YtaojjfebkldmnaaDoorM6
set_option linter.all false
set_option maxRecDepth 10000
set_option maxHeartbeats 16000000
open And renaming intro → zA0
open Option renaming bind_eq_bind → zA1, bind_eq_some_iff → zA2, bind_some → zA3, map_some → zA7, map_eq_some_iff → zB1
open Bool renaming and_eq_true → zA4, false_eq_true → zC2, not_true → zC8, and_self → zD1, not_false → zD6
open Nat renaming le_refl → zA5, le_of_ble_eq_true → zA9, zero_le → zB0, zero_add → zC1, lt_or_ge → zC4, lt_succ_self → zC6, add_zero → zC7, lt_of_lt_of_le → zC9, le_of_eq → zD2, le_trans → zD9, zero_mul → zE1, sub_self → zE9, eq_of_beq_eq_true → zF4
open List renaming getElem?_eq_getElem → zA6, mem_singleton → zA8, mem_cons → zB2, mem_cons_of_mem → zB3, mem_append → zB4, length_cons → zB5, length_append → zB6, map_cons → zB7, nil_append → zB8, mem_of_getElem? → zB9, all_eq_true → zC0, length_nil → zC3, eq_nil_of_length_eq_zero → zC5, append_nil → zD0, drop_zero → zD3, mem_append_left → zD4, mem_append_right → zD5, mem_cons_self → zD7, length_drop → zD8, getElem?_eq_none → zE0, getElem?_eq_some_iff → zE2, mem_flatMap → zE3, mem_of_mem_take → zE4, mem_of_mem_drop → zE5, take_of_length_le → zE6, drop_eq_nil_of_le → zE7, getD_eq_getElem?_getD → zE8, drop_eq_getElem_cons → zF0, mem_range → zF1, map_nil → zF2, cons_append → zF3, getElem?_cons_zero → zF5, length_take → zF6, take_length → zF7, flatMap_cons → zF8, getElem?_cons_succ → zF9

namespace Go.Ax
def sameBy:List UInt8→List UInt8→Bool
 |[],[]=>true
 |a::r,b::q=>Nat.beq a.toNat b.toNat&&sameBy r q
 |_,_=>false
theorem sameBy_eq:∀ {u v:List UInt8},sameBy u v=true→u=v
 |[],[],_=>rfl
 |a::r,b::q,h=>by
  simp only[sameBy,zA4]at h
  rw[UInt8.toNat_inj.1 (zF4 h.1),sameBy_eq h.2]
 |[],_::_,h=>by cases h
 |_::_,[],h=>by cases h
def sameSp:Option Nat→Option Nat→Bool
 |none,none=>true
 |some a,some b=>Nat.beq a b
 |_,_=>false
theorem sameSp_eq:∀ {u v:Option Nat},sameSp u v=true→u=v
 |none,none,_=>rfl
 |some a,some b,h=>by rw[zF4 h]
 |none,some _,h=>by cases h
 |some _,none,h=>by cases h
def sameAd (a b:Addr):Bool:=Nat.beq a.block b.block&&Nat.beq a.off b.off&&sameSp a.spot b.spot
theorem sameAd_eq {a b:Addr} (h:sameAd a b=true):a=b:=by
 simp only[sameAd,zA4]at h
 obtain⟨x,y,z⟩:=a
 obtain⟨x',y',z'⟩:=b
 simp only at h
 rw[zF4 h.1.1,zF4 h.1.2,sameSp_eq h.2]
mutual
def sameX:Value→Value→Bool
 |.bool a,.bool b=>a == b
 |.int k a,.int l b=>decide (k=l)&&decide (a=b)
 |.string a,.string b=>sameBy a.data.toList b.data.toList
 |.pointer none,.pointer none=>true
 |.pointer (some a),.pointer (some b)=>sameAd a b
 |.slice none m n,.slice none p q=>Nat.beq m p&&Nat.beq n q
 |.slice (some a) m n,.slice (some b) p q=>sameAd a b&&Nat.beq m p&&Nat.beq n q
 |.agg a,.agg b=>sameXA a b
 |_,_=>false
def sameXA:Array Value→Array Value→Bool
 |⟨l⟩,⟨m⟩=>sameXL l m
def sameXL:List Value→List Value→Bool
 |[],[]=>true
 |a::r,b::q=>sameX a b&&sameXL r q
 |_,_=>false
end
mutual
theorem sameX_eq:∀ (u v:Value),sameX u v=true→u=v
 |.bool a,v,h=>by cases v<;>first|(simp[sameX]at h; done)|(rw[sameX,beq_iff_eq]at h; rw[h])
 |.int k a,v,h=>by cases v<;>first|(simp[sameX]at h; done)|(rw[sameX,zA4,decide_eq_true_eq,decide_eq_true_eq]at h; rw[h.1,h.2])
 |.string ⟨⟨a⟩⟩,v,h=>by
  cases v<;>first|(simp[sameX]at h; done)|skip
  rename_i b
  obtain⟨⟨b⟩⟩:=b
  rw[sameX]at h
  have h:sameBy a b=true:=h
  rw[sameBy_eq h]
 |.pointer none,v,h=>by cases v<;>first|(simp[sameX]at h; done)|(rename_i b; cases b<;>first|rfl|(simp[sameX]at h; done))
 |.pointer (some a),v,h=>by cases v<;>first|(simp[sameX]at h; done)|(rename_i b; cases b<;>first|(simp[sameX]at h; done)|(rw[sameX]at h; rw[sameAd_eq h]))
 |.slice none m n,v,h=>by cases v<;>first|(simp[sameX]at h; done)|(rename_i b _ _; cases b<;>first|(rw[sameX,zA4]at h; rw[zF4 h.1,zF4 h.2])|(simp[sameX]at h; done))
 |.slice (some a) m n,v,h=>by cases v<;>first|(simp[sameX]at h; done)|(rename_i b _ _; cases b<;>first|(rw[sameX,zA4,zA4]at h; rw[sameAd_eq h.1.1,zF4 h.1.2,zF4 h.2])|(simp[sameX]at h; done))
 |.agg a,.agg b,h=>by
  rw[sameX]at h
  rw[sameXA_eq a b h]
 |.agg a,.bool _,h=>by simp[sameX]at h
 |.agg a,.int _ _,h=>by simp[sameX]at h
 |.agg a,.string _,h=>by simp[sameX]at h
 |.agg a,.pointer _,h=>by simp[sameX]at h
 |.agg a,.slice _ _ _,h=>by simp[sameX]at h
 |.agg a,.float _ _,h=>by simp[sameX]at h
 |.agg a,.complex _ _ _,h=>by simp[sameX]at h
 |.agg a,.map _,h=>by simp[sameX]at h
 |.agg a,.chan _,h=>by simp[sameX]at h
 |.agg a,.func _ _ _,h=>by simp[sameX]at h
 |.agg a,.nilFunc,h=>by simp[sameX]at h
 |.agg a,.iface _ _,h=>by simp[sameX]at h
 |.agg a,.nilIface,h=>by simp[sameX]at h
 |.agg a,.tuple _,h=>by simp[sameX]at h
 |.float _ _,v,h=>by simp[sameX]at h
 |.complex _ _ _,v,h=>by simp[sameX]at h
 |.map _,v,h=>by simp[sameX]at h
 |.chan _,v,h=>by simp[sameX]at h
 |.func _ _ _,v,h=>by simp[sameX]at h
 |.nilFunc,v,h=>by simp[sameX]at h
 |.iface _ _,v,h=>by simp[sameX]at h
 |.nilIface,v,h=>by simp[sameX]at h
 |.tuple _,v,h=>by simp[sameX]at h
theorem sameXA_eq:∀ (u v:Array Value),sameXA u v=true→u=v
 |⟨l⟩,⟨m⟩,h=>by
  rw[sameXA]at h
  rw[sameXL_eq l m h]
theorem sameXL_eq:∀ (u v:List Value),sameXL u v=true→u=v
 |[],[],_=>rfl
 |a::r,b::q,h=>by
  simp only[sameXL,zA4]at h
  rw[sameX_eq a b h.1,sameXL_eq r q h.2]
 |[],_::_,h=>by simp[sameXL]at h
 |_::_,[],h=>by simp[sameXL]at h
end
structure Ent where
 f:FuncId
 args:List Value
 next:Nat
 blks:List (Nat × Bl)
def objIs (H:AHeap) (n:Nat) (o:Bool) (l:List Value):Option TypeId :=
 match H.get n with
 |some ⟨.cells _ e (0,_),o',rv⟩=>if (o == o')&&sameXL l (rv.gets 0 rv.n) then some e else none
 |_=>none
def blkIs (H:AHeap) (x:Nat × Bl):Bool :=
 match objIs H x.1 x.2.o x.2.l with
 |some e=>Nat.beq e x.2.e
 |none=>false
def entOk (T:List (Nat × List Value)) (e:Ent) (f:FuncId) (args:List Value) (H:AHeap):Bool :=
 Nat.beq e.f f&&sameXL e.args args&&Nat.beq e.next H.next&&e.blks.all (blkIs H)&&T.all fun x=>(objIs H x.1 false x.2).isSome
def lookH (T:List (Nat × List Value)) (K:FuncId→List Value→AHeap→Option Value):List Ent→FuncId→List Value→AHeap→Option Value
 |[],f,args,H=>K f args H
 |e::r,f,args,H=>if entOk T e f args H then some (.bool true) else lookH T K r f args H
def layB (g:AHeap):List (Nat × Bl)→AHeap
 |[]=>g
 |x::r=>layB (g.put x.1 (some x.2.obj)) r
def entHeap (T:List (Nat × List Value)) (ee:Nat→TypeId) (e:Ent):AHeap :=
 layB (AHeap.none e.next) ((T.map fun x=>(x.1,⟨ee x.1,false,x.2⟩))++e.blks)
def entRun (P:Program) (K:FuncId→List Value→AHeap→Option Value) (fuel:Nat) (T:List (Nat × List Value)) (ee:Nat→TypeId) (e:Ent):Bool :=
 match call P K fuel e.f e.args (entHeap T ee e) with
 |some (.ok (.bool true),H1)=>H1.dirty.isEmpty
 |_=>false
theorem layB_get:∀ (l:List (Nat × Bl)) (g:AHeap) (n:Nat) (o:AObj),(layB g l).get n=some o→g.get n=some o∨∃ x∈l,x.1=n∧o=x.2.obj
 |[],g,n,o,h=>.inl h
 |x::r,g,n,o,h=>by
  rcases layB_get r _ n o h with h|⟨y,hy,h1,h2⟩
  ·rw[AHeap.get_put]at h
   split at h
   ·rename_i e
    cases h
    exact .inr ⟨x,by simp,e.symm,rfl⟩
   ·exact .inl h
  ·exact .inr ⟨y,by simp[hy],h1,h2⟩
theorem layB_next:∀ (l:List (Nat × Bl)) (g:AHeap),(layB g l).next=g.next∧(layB g l).base=g.base∧(layB g l).dirty=g.dirty
 |[],_=>⟨rfl,rfl,rfl⟩
 |x::r,g=>layB_next r (g.put x.1 (some x.2.obj))
def SameO (a b:AObj):Prop:=∃ c e z c' z',a.obj=.cells c e (0,z)∧b.obj=.cells c' e (0,z')∧a.opn=b.opn∧a.rv.n=b.rv.n∧∀ i,i<b.rv.n→a.rv.get i=b.rv.get i
theorem objIs_same {H:AHeap} {n:Nat} {o:Bool} {l:List Value} {e:TypeId} (h:objIs H n o l=some e):∃ a,H.get n=some a∧SameO a (Bl.obj ⟨e,o,l⟩):=by
 unfold objIs at h
 split at h
 ·rename_i c t z o' rv hg
  split at h
  ·rename_i hc
   simp only[zA4,beq_iff_eq]at hc
   obtain⟨rfl,hl⟩:=hc
   simp only[Option.some.injEq]at h
   subst h
   have hl:=sameXL_eq _ _ hl
   refine⟨_,hg,c,t,z,#[],0,rfl,rfl,rfl,?_,fun i hi=>?_⟩
   ·simp only[Bl.obj,RV.n_ofList,hl,RV.length_gets]
   ·simp only[Bl.obj,RV.n_ofList]at hi
    simp only[Bl.obj,RV.get_ofList]
    have hi':i<rv.n:=by rw[hl,RV.length_gets]at hi; exact hi
    rw[hl,RV.gets_getD _ _ _ _ hi',zC1]
  ·cases h
 ·cases h
theorem SameO.sco {N:Nat} {a b:AObj} (h:SameO a b) (hs:sco N a):sco N b:=by
 obtain⟨c,e,z,c',z',h1,h2,h3,h4,h5⟩:=h
 unfold Go.Ax.sco at hs ⊢
 rw[h1]at hs
 rw[h2]
 intro i hi
 rw[←h5 i hi]
 exact hs i (by omega)
theorem SameO.fits {P:Program} {ρ:Ren} {n:Nat} {a b:AObj} {o':Obj} (h:SameO a b) (hs:Fits P ρ n a o'):Fits P ρ n b o':=by
 obtain⟨c,e,z,c',z',h1,h2,h3,h4,h5⟩:=h
 unfold Fits at hs ⊢
 rw[h1]at hs
 rw[h2]
 obtain⟨d,fz,hd,hv,ha,hb⟩:=hs
 refine⟨d,fz,hd,fun i hi=>?_,?_,?_⟩
 ·rw[←h5 i hi]; exact hv i (by omega)
 ·rw[←h3,←h4]; exact ha
 ·rw[←h3,←h4]; exact hb
theorem SameO.nz {a b:AObj} (h:SameO a b):¬Fz (some a):=by
 obtain⟨c,e,z,c',z',h1,h2,h3,h4,h5⟩:=h
 rintro⟨o,ho,hf⟩
 cases ho
 obtain⟨x,y,q⟩:=a
 simp only at h1
 subst h1
 cases y<;>simp[frz]at hf
theorem sub_rel {P:Program} {ρ:Ren} {H G:AHeap} {w:World} (r:Rel P ρ H w) (hn:G.next=H.next) (hb:G.base=G.next) (hg:∀ n o,G.get n=some o→∃ a,H.get n=some a∧SameO a o):Rel P ρ G w:=by
 refine⟨zD2 hb,by rw[hn]; exact r.glob,fun m n h1 h2 he=>?_,fun n o ho=>?_,fun n o ho=>?_⟩
 ·obtain⟨x,hx⟩:=Option.ne_none_iff_exists'.1 h1
  obtain⟨y,hy⟩:=Option.ne_none_iff_exists'.1 h2
  obtain⟨a,ha,hs⟩:=hg m x hx
  obtain⟨b,hb,ht⟩:=hg n y hy
  rcases r.inj m n (ne_none ha) (ne_none hb) he with h|⟨h,_⟩
  ·exact .inl h
  ·rw[ha]at h
   exact absurd h hs.nz
 ·obtain⟨a,ha,hs⟩:=hg n o ho
  rw[hn]
  exact⟨(r.dom n a ha).1,hs.sco (r.dom n a ha).2⟩
 ·obtain⟨a,ha,hs⟩:=hg n o ho
  obtain⟨o',h1,h2⟩:=r.obj n a ha
  exact⟨o',h1,hs.fits h2⟩
theorem known_heap {P:Program} (hmix:P.follows .mixedOrders=true) {T:List (Nat × List Value)} {K:FuncId→List Value→AHeap→Option Value} {l:List Ent} (hK:Known P (lookH T K l)) (fuel:Nat) {e:Ent} (h:∀ ee,entRun P (lookH T K l) fuel T ee e=true):Known P (lookH T K (e::l)):=by
 intro g bs u H hu
 unfold lookH at hu
 split at hu
 ·rename_i hc
  simp only[Option.some.injEq]at hu
  subst hu
  refine⟨rfl,fun ρ F n w r hsc hF=>?_⟩
  simp only[entOk,zA4,zC0]at hc
  obtain⟨⟨⟨⟨c1,c2⟩,c3⟩,c4⟩,c5⟩:=hc
  have c1:=zF4 c1
  have c2:=sameXL_eq _ _ c2
  have c3:=zF4 c3
  subst c1 c2
  obtain⟨ee,hee⟩:∃ ee:Nat→TypeId,∀ x∈T,objIs H x.1 false x.2=some (ee x.1):=by
   refine⟨fun n=>match H.get n with
    |some ⟨.cells _ t _,_,_⟩=>t
    |_=>0,fun x hx=>?_⟩
   have:=c5 x hx
   unfold objIs at this ⊢
   split at this
   ·rename_i c t z o' rv hg
    simp only[hg]
    split at this
    ·rename_i hh; rw[if_pos hh]
    ·simp at this
   ·simp at this
  have hrun:=h ee
  obtain⟨n1,n2,n3⟩:=layB_next ((T.map fun x=>(x.1,(⟨ee x.1,false,x.2⟩:Bl)))++e.blks) (AHeap.none e.next)
  have hr:Rel P ρ (entHeap T ee e) w:=by
   refine sub_rel r (by unfold entHeap; rw[n1]; exact c3) (by unfold entHeap; rw[n1,n2]; rfl) fun n o ho=>?_
   rcases layB_get _ _ n o ho with ho|⟨x,hx,rfl,rfl⟩
   ·rw[none_get]at ho; cases ho
   ·rcases zB4.1 hx with hx|hx
    ·obtain⟨y,hy,rfl⟩:=List.mem_map.1 hx
     exact objIs_same (hee y hy)
    ·have:=c4 x hx
     unfold blkIs at this
     split at this
     ·rename_i t ht
      have:=zF4 this
      subst this
      exact objIs_same ht
     ·cases this
  unfold entRun at hrun
  split at hrun
  ·rename_i H1 hcl
   refine (call_in hmix hK hr hcl (by unfold entHeap; rw[n1]; rw[show (AHeap.none e.next).next=e.next from rfl,c3]; exact hsc) hF).mono ?_
   rintro e' w' ⟨ρ1,rfl,s⟩
   refine⟨by rw[Ren.val],s.os,s.tape,s.output,s.size,fun b hb=>s.old b hb fun n hn hor _=>?_⟩
   rw[List.isEmpty_iff.1 hrun]at hor
   unfold entHeap at hn hor
   rw[n1]at hn
   rw[n2]at hor
   rcases hor with h|h
   ·exact absurd hn (Nat.not_lt.2 h)
   ·cases h
  ·cases hrun
 ·exact hK g bs u H hu
theorem known_base {P:Program} {T:List (Nat × List Value)} {K:FuncId→List Value→AHeap→Option Value} (hK:Known P K):Known P (lookH T K []):=fun f args v H h=>hK f args v H h
end Go.Ax
namespace Go.Proofs.YtaojjfebkldmnaaDoor
open Go.Ax
abbrev tabE:List (Nat × List Value):=[(0,dc fstD),(1,dc accD)]
abbrev enl0:List Ent:=[]
theorem knh0:Known Tryd.prog (lookH tabE (lookK kanA) enl0):=known_base knoA
def ent1:Ent:=⟨28,[.agg #[.slice (some ⟨47,0,none⟩) 3 3,.int .i64 (-1),.int .i64 0],.agg #[.slice (some ⟨93,0,none⟩) 3 3,.int .i64 (-1),.int .i64 0],.slice (some ⟨96,0,some 0⟩) 4 4],97,[(96,⟨47,false,[.int .i64 6,.int .i64 1,.int .i64 2,.int .i64 1,.int .i64 0,.int .i64 0,.bool false,.bool false,.bool false,.string ⟨#[]⟩,.int .i64 1,.int .i64 1,.int .i64 0,.int .i64 0,.int .i64 0,.int .i64 0,.bool false,.bool false,.bool false,.string ⟨#[]⟩,.int .i64 3,.int .i64 0,.int .i64 0,.int .i64 0,.int .i64 0,.int .i64 0,.bool false,.bool false,.bool false,.string ⟨#[120,120]⟩,.int .i64 8,.int .i64 0,.int .i64 0,.int .i64 0,.int .i64 0,.int .i64 0,.bool false,.bool false,.bool false,.string ⟨#[]⟩]⟩),(91,⟨55,true,[.int .i64 99,.int .i64 0,.int .i64 0,.bool false,.bool false,.bool false,.int .i64 100,.int .i64 0,.int .i64 0,.bool false,.bool false,.bool false,.int .i64 32,.int .i64 0,.int .i64 0,.bool false,.bool false,.bool false,.int .i64 32,.int .i64 0,.int .i64 0,.bool false,.bool false,.bool false,.int .i64 32,.int .i64 0,.int .i64 0,.bool false,.bool false,.bool false,.int .i64 32,.int .i64 0,.int .i64 0,.bool false,.bool false,.bool false]⟩),(77,⟨55,true,[.int .i64 120,.int .i64 0,.int .i64 0,.bool false,.bool false,.bool false,.int .i64 120,.int .i64 0,.int .i64 0,.bool false,.bool false,.bool false,.int .i64 32,.int .i64 0,.int .i64 0,.bool false,.bool false,.bool false,.int .i64 32,.int .i64 0,.int .i64 0,.bool false,.bool false,.bool false,.int .i64 32,.int .i64 0,.int .i64 0,.bool false,.bool false,.bool false,.int .i64 32,.int .i64 0,.int .i64 0,.bool false,.bool false,.bool false]⟩),(63,⟨55,true,[.int .i64 97,.int .i64 0,.int .i64 0,.bool false,.bool false,.bool false,.int .i64 98,.int .i64 0,.int .i64 0,.bool false,.bool false,.bool false,.int .i64 32,.int .i64 0,.int .i64 0,.bool false,.bool false,.bool false,.int .i64 32,.int .i64 0,.int .i64 0,.bool false,.bool false,.bool false,.int .i64 32,.int .i64 0,.int .i64 0,.bool false,.bool false,.bool false,.int .i64 32,.int .i64 0,.int .i64 0,.bool false,.bool false,.bool false]⟩),(93,⟨56,true,[.slice (some ⟨63,0,none⟩) 6 6,.slice (some ⟨77,0,none⟩) 6 6,.slice (some ⟨91,0,none⟩) 6 6]⟩),(45,⟨55,true,[.int .i64 101,.int .i64 0,.int .i64 0,.bool false,.bool false,.bool false,.int .i64 102,.int .i64 0,.int .i64 0,.bool false,.bool false,.bool false,.int .i64 32,.int .i64 0,.int .i64 0,.bool false,.bool false,.bool false,.int .i64 32,.int .i64 0,.int .i64 0,.bool false,.bool false,.bool false,.int .i64 32,.int .i64 0,.int .i64 0,.bool false,.bool false,.bool false,.int .i64 32,.int .i64 0,.int .i64 0,.bool false,.bool false,.bool false]⟩),(31,⟨55,true,[.int .i64 99,.int .i64 0,.int .i64 0,.bool false,.bool false,.bool false,.int .i64 100,.int .i64 0,.int .i64 0,.bool false,.bool false,.bool false,.int .i64 32,.int .i64 0,.int .i64 0,.bool false,.bool false,.bool false,.int .i64 32,.int .i64 0,.int .i64 0,.bool false,.bool false,.bool false,.int .i64 32,.int .i64 0,.int .i64 0,.bool false,.bool false,.bool false,.int .i64 32,.int .i64 0,.int .i64 0,.bool false,.bool false,.bool false]⟩),(17,⟨55,true,[.int .i64 97,.int .i64 0,.int .i64 0,.bool false,.bool false,.bool false,.int .i64 98,.int .i64 0,.int .i64 0,.bool false,.bool false,.bool false,.int .i64 32,.int .i64 0,.int .i64 0,.bool false,.bool false,.bool false,.int .i64 32,.int .i64 0,.int .i64 0,.bool false,.bool false,.bool false,.int .i64 32,.int .i64 0,.int .i64 0,.bool false,.bool false,.bool false,.int .i64 32,.int .i64 0,.int .i64 0,.bool false,.bool false,.bool false]⟩),(47,⟨56,true,[.slice (some ⟨17,0,none⟩) 6 6,.slice (some ⟨31,0,none⟩) 6 6,.slice (some ⟨45,0,none⟩) 6 6]⟩)]⟩
abbrev enl1:List Ent:=ent1::enl0
def ent2:Ent:=⟨28,[.agg #[.slice (some ⟨141,0,none⟩) 3 3,.int .i64 (-1),.int .i64 0],.agg #[.slice (some ⟨186,0,none⟩) 3 3,.int .i64 (-1),.int .i64 0],.slice (some ⟨188,0,some 0⟩) 3 3],189,[(188,⟨47,false,[.int .i64 1,.int .i64 0,.int .i64 2,.int .i64 0,.int .i64 0,.int .i64 0,.bool false,.bool false,.bool false,.string ⟨#[]⟩,.int .i64 4,.int .i64 0,.int .i64 0,.int .i64 0,.int .i64 0,.int .i64 0,.bool false,.bool false,.bool false,.string ⟨#[]⟩,.int .i64 8,.int .i64 0,.int .i64 0,.int .i64 0,.int .i64 0,.int .i64 0,.bool false,.bool false,.bool false,.string ⟨#[]⟩]⟩),(184,⟨55,true,[.int .i64 32,.int .i64 0,.int .i64 0,.bool false,.bool false,.bool false,.int .i64 32,.int .i64 0,.int .i64 0,.bool false,.bool false,.bool false,.int .i64 32,.int .i64 0,.int .i64 0,.bool false,.bool false,.bool false,.int .i64 32,.int .i64 0,.int .i64 0,.bool false,.bool false,.bool false,.int .i64 32,.int .i64 0,.int .i64 0,.bool false,.bool false,.bool false,.int .i64 32,.int .i64 0,.int .i64 0,.bool false,.bool false,.bool false]⟩),(170,⟨55,true,[.int .i64 32,.int .i64 0,.int .i64 0,.bool false,.bool false,.bool false,.int .i64 32,.int .i64 0,.int .i64 0,.bool false,.bool false,.bool false,.int .i64 32,.int .i64 0,.int .i64 0,.bool false,.bool false,.bool false,.int .i64 32,.int .i64 0,.int .i64 0,.bool false,.bool false,.bool false,.int .i64 32,.int .i64 0,.int .i64 0,.bool false,.bool false,.bool false,.int .i64 32,.int .i64 0,.int .i64 0,.bool false,.bool false,.bool false]⟩),(156,⟨55,true,[.int .i64 97,.int .i64 0,.int .i64 0,.bool false,.bool false,.bool false,.int .i64 98,.int .i64 0,.int .i64 0,.bool false,.bool false,.bool false,.int .i64 32,.int .i64 0,.int .i64 0,.bool false,.bool false,.bool false,.int .i64 32,.int .i64 0,.int .i64 0,.bool false,.bool false,.bool false,.int .i64 32,.int .i64 0,.int .i64 0,.bool false,.bool false,.bool false,.int .i64 32,.int .i64 0,.int .i64 0,.bool false,.bool false,.bool false]⟩),(186,⟨56,true,[.slice (some ⟨156,0,none⟩) 6 6,.slice (some ⟨170,0,none⟩) 6 6,.slice (some ⟨184,0,none⟩) 6 6]⟩),(139,⟨55,true,[.int .i64 32,.int .i64 0,.int .i64 0,.bool false,.bool false,.bool false,.int .i64 32,.int .i64 0,.int .i64 0,.bool false,.bool false,.bool false,.int .i64 32,.int .i64 0,.int .i64 0,.bool false,.bool false,.bool false,.int .i64 32,.int .i64 0,.int .i64 0,.bool false,.bool false,.bool false,.int .i64 32,.int .i64 0,.int .i64 0,.bool false,.bool false,.bool false,.int .i64 32,.int .i64 0,.int .i64 0,.bool false,.bool false,.bool false]⟩),(125,⟨55,true,[.int .i64 32,.int .i64 0,.int .i64 0,.bool false,.bool false,.bool false,.int .i64 32,.int .i64 0,.int .i64 0,.bool false,.bool false,.bool false,.int .i64 32,.int .i64 0,.int .i64 0,.bool false,.bool false,.bool false,.int .i64 32,.int .i64 0,.int .i64 0,.bool false,.bool false,.bool false,.int .i64 32,.int .i64 0,.int .i64 0,.bool false,.bool false,.bool false,.int .i64 32,.int .i64 0,.int .i64 0,.bool false,.bool false,.bool false]⟩),(111,⟨55,true,[.int .i64 97,.int .i64 0,.int .i64 0,.bool false,.bool false,.bool false,.int .i64 98,.int .i64 0,.int .i64 0,.bool false,.bool false,.bool false,.int .i64 99,.int .i64 0,.int .i64 0,.bool false,.bool false,.bool false,.int .i64 100,.int .i64 0,.int .i64 0,.bool false,.bool false,.bool false,.int .i64 101,.int .i64 0,.int .i64 0,.bool false,.bool false,.bool false,.int .i64 102,.int .i64 0,.int .i64 0,.bool false,.bool false,.bool false]⟩),(141,⟨56,true,[.slice (some ⟨111,0,none⟩) 6 6,.slice (some ⟨125,0,none⟩) 6 6,.slice (some ⟨139,0,none⟩) 6 6]⟩)]⟩
abbrev enl2:List Ent:=ent2::enl1
def ent3:Ent:=⟨28,[.agg #[.slice (some ⟨205,0,none⟩) 1 1,.int .i64 (-1),.int .i64 0],.agg #[.slice (some ⟨222,0,none⟩) 1 1,.int .i64 (-1),.int .i64 0],.slice (some ⟨225,0,some 0⟩) 3 3],226,[(225,⟨47,false,[.int .i64 1,.int .i64 0,.int .i64 1,.int .i64 0,.int .i64 0,.int .i64 0,.bool false,.bool false,.bool false,.string ⟨#[]⟩,.int .i64 3,.int .i64 0,.int .i64 0,.int .i64 0,.int .i64 0,.int .i64 0,.bool false,.bool false,.bool false,.string ⟨#[120,99]⟩,.int .i64 8,.int .i64 0,.int .i64 0,.int .i64 0,.int .i64 0,.int .i64 0,.bool false,.bool false,.bool false,.string ⟨#[]⟩]⟩),(220,⟨55,true,[.int .i64 97,.int .i64 0,.int .i64 0,.bool false,.bool false,.bool false,.int .i64 120,.int .i64 0,.int .i64 0,.bool false,.bool false,.bool false,.int .i64 99,.int .i64 0,.int .i64 0,.bool false,.bool false,.bool false,.int .i64 32,.int .i64 0,.int .i64 0,.bool false,.bool false,.bool false,.int .i64 32,.int .i64 0,.int .i64 0,.bool false,.bool false,.bool false,.int .i64 32,.int .i64 0,.int .i64 0,.bool false,.bool false,.bool false]⟩),(222,⟨56,true,[.slice (some ⟨220,0,none⟩) 6 6]⟩),(203,⟨55,true,[.int .i64 97,.int .i64 0,.int .i64 0,.bool false,.bool false,.bool false,.int .i64 98,.int .i64 0,.int .i64 0,.bool false,.bool false,.bool false,.int .i64 32,.int .i64 0,.int .i64 0,.bool false,.bool false,.bool false,.int .i64 32,.int .i64 0,.int .i64 0,.bool false,.bool false,.bool false,.int .i64 32,.int .i64 0,.int .i64 0,.bool false,.bool false,.bool false,.int .i64 32,.int .i64 0,.int .i64 0,.bool false,.bool false,.bool false]⟩),(205,⟨56,true,[.slice (some ⟨203,0,none⟩) 6 6]⟩)]⟩
abbrev enl3:List Ent:=ent3::enl2
def ent4:Ent:=⟨31,[.agg #[.slice (some ⟨270,0,none⟩) 3 3,.int .i64 (-1),.int .i64 0],.slice (some ⟨273,0,some 0⟩) 2 2],274,[(273,⟨47,false,[.int .i64 1,.int .i64 1,.int .i64 4,.int .i64 0,.int .i64 0,.int .i64 0,.bool false,.bool false,.bool false,.string ⟨#[]⟩,.int .i64 3,.int .i64 0,.int .i64 0,.int .i64 0,.int .i64 0,.int .i64 0,.bool false,.bool false,.bool false,.string ⟨#[97,98]⟩]⟩),(268,⟨55,true,[.int .i64 32,.int .i64 0,.int .i64 0,.bool false,.bool false,.bool false,.int .i64 32,.int .i64 0,.int .i64 0,.bool false,.bool false,.bool false,.int .i64 32,.int .i64 0,.int .i64 0,.bool false,.bool false,.bool false,.int .i64 32,.int .i64 0,.int .i64 0,.bool false,.bool false,.bool false,.int .i64 32,.int .i64 0,.int .i64 0,.bool false,.bool false,.bool false,.int .i64 32,.int .i64 0,.int .i64 0,.bool false,.bool false,.bool false]⟩),(254,⟨55,true,[.int .i64 32,.int .i64 0,.int .i64 0,.bool false,.bool false,.bool false,.int .i64 32,.int .i64 0,.int .i64 0,.bool false,.bool false,.bool false,.int .i64 32,.int .i64 0,.int .i64 0,.bool false,.bool false,.bool false,.int .i64 32,.int .i64 0,.int .i64 0,.bool false,.bool false,.bool false,.int .i64 97,.int .i64 0,.int .i64 0,.bool false,.bool false,.bool false,.int .i64 98,.int .i64 0,.int .i64 0,.bool false,.bool false,.bool false]⟩),(240,⟨55,true,[.int .i64 32,.int .i64 0,.int .i64 0,.bool false,.bool false,.bool false,.int .i64 32,.int .i64 0,.int .i64 0,.bool false,.bool false,.bool false,.int .i64 32,.int .i64 0,.int .i64 0,.bool false,.bool false,.bool false,.int .i64 32,.int .i64 0,.int .i64 0,.bool false,.bool false,.bool false,.int .i64 32,.int .i64 0,.int .i64 0,.bool false,.bool false,.bool false,.int .i64 32,.int .i64 0,.int .i64 0,.bool false,.bool false,.bool false]⟩),(270,⟨56,true,[.slice (some ⟨240,0,none⟩) 6 6,.slice (some ⟨254,0,none⟩) 6 6,.slice (some ⟨268,0,none⟩) 6 6]⟩)]⟩
abbrev enl4:List Ent:=ent4::enl3
def ent5:Ent:=⟨32,[.int .i64 1,.slice (some ⟨276,0,some 0⟩) 2 2],277,[(276,⟨47,false,[.int .i64 1,.int .i64 1,.int .i64 4,.int .i64 0,.int .i64 0,.int .i64 0,.bool false,.bool false,.bool false,.string ⟨#[]⟩,.int .i64 3,.int .i64 0,.int .i64 0,.int .i64 0,.int .i64 0,.int .i64 0,.bool false,.bool false,.bool false,.string ⟨#[97,98,99]⟩]⟩)]⟩
abbrev enl5:List Ent:=ent5::enl4
def ent6:Ent:=⟨31,[.agg #[.slice (some ⟨321,0,none⟩) 3 3,.int .i64 (-1),.int .i64 0],.slice (some ⟨326,0,some 0⟩) 4 4],327,[(326,⟨47,false,[.int .i64 1,.int .i64 0,.int .i64 0,.int .i64 0,.int .i64 0,.int .i64 0,.bool false,.bool false,.bool false,.string ⟨#[]⟩,.int .i64 3,.int .i64 0,.int .i64 0,.int .i64 0,.int .i64 0,.int .i64 0,.bool false,.bool false,.bool false,.string ⟨#[230,188,162]⟩,.int .i64 1,.int .i64 0,.int .i64 1,.int .i64 0,.int .i64 0,.int .i64 0,.bool false,.bool false,.bool false,.string ⟨#[]⟩,.int .i64 3,.int .i64 0,.int .i64 0,.int .i64 0,.int .i64 0,.int .i64 0,.bool false,.bool false,.bool false,.string ⟨#[97]⟩]⟩),(319,⟨55,true,[.int .i64 32,.int .i64 0,.int .i64 0,.bool false,.bool false,.bool false,.int .i64 32,.int .i64 0,.int .i64 0,.bool false,.bool false,.bool false,.int .i64 32,.int .i64 0,.int .i64 0,.bool false,.bool false,.bool false,.int .i64 32,.int .i64 0,.int .i64 0,.bool false,.bool false,.bool false,.int .i64 32,.int .i64 0,.int .i64 0,.bool false,.bool false,.bool false,.int .i64 32,.int .i64 0,.int .i64 0,.bool false,.bool false,.bool false]⟩),(305,⟨55,true,[.int .i64 32,.int .i64 0,.int .i64 0,.bool false,.bool false,.bool false,.int .i64 32,.int .i64 0,.int .i64 0,.bool false,.bool false,.bool false,.int .i64 32,.int .i64 0,.int .i64 0,.bool false,.bool false,.bool false,.int .i64 32,.int .i64 0,.int .i64 0,.bool false,.bool false,.bool false,.int .i64 32,.int .i64 0,.int .i64 0,.bool false,.bool false,.bool false,.int .i64 32,.int .i64 0,.int .i64 0,.bool false,.bool false,.bool false]⟩),(291,⟨55,true,[.int .i64 32,.int .i64 0,.int .i64 0,.bool false,.bool false,.bool false,.int .i64 97,.int .i64 0,.int .i64 0,.bool false,.bool false,.bool false,.int .i64 32,.int .i64 0,.int .i64 0,.bool false,.bool false,.bool false,.int .i64 32,.int .i64 0,.int .i64 0,.bool false,.bool false,.bool false,.int .i64 32,.int .i64 0,.int .i64 0,.bool false,.bool false,.bool false,.int .i64 32,.int .i64 0,.int .i64 0,.bool false,.bool false,.bool false]⟩),(321,⟨56,true,[.slice (some ⟨291,0,none⟩) 6 6,.slice (some ⟨305,0,none⟩) 6 6,.slice (some ⟨319,0,none⟩) 6 6]⟩)]⟩
abbrev enl6:List Ent:=ent6::enl5
def ent7:Ent:=⟨31,[.agg #[.slice (some ⟨371,0,none⟩) 3 3,.int .i64 0,.int .i64 0],.slice (some ⟨373,0,some 0⟩) 1 1],374,[(373,⟨47,false,[.int .i64 7,.int .i64 0,.int .i64 0,.int .i64 0,.int .i64 0,.int .i64 0,.bool false,.bool false,.bool false,.string ⟨#[]⟩]⟩),(369,⟨55,true,[.int .i64 32,.int .i64 0,.int .i64 0,.bool false,.bool false,.bool false,.int .i64 32,.int .i64 0,.int .i64 0,.bool false,.bool false,.bool false,.int .i64 32,.int .i64 0,.int .i64 0,.bool false,.bool false,.bool false,.int .i64 32,.int .i64 0,.int .i64 0,.bool false,.bool false,.bool false,.int .i64 32,.int .i64 0,.int .i64 0,.bool false,.bool false,.bool false,.int .i64 32,.int .i64 0,.int .i64 0,.bool false,.bool false,.bool false]⟩),(355,⟨55,true,[.int .i64 32,.int .i64 0,.int .i64 0,.bool false,.bool false,.bool false,.int .i64 32,.int .i64 0,.int .i64 0,.bool false,.bool false,.bool false,.int .i64 32,.int .i64 0,.int .i64 0,.bool false,.bool false,.bool false,.int .i64 32,.int .i64 0,.int .i64 0,.bool false,.bool false,.bool false,.int .i64 32,.int .i64 0,.int .i64 0,.bool false,.bool false,.bool false,.int .i64 32,.int .i64 0,.int .i64 0,.bool false,.bool false,.bool false]⟩),(341,⟨55,true,[.int .i64 32,.int .i64 0,.int .i64 0,.bool false,.bool false,.bool false,.int .i64 32,.int .i64 0,.int .i64 0,.bool false,.bool false,.bool false,.int .i64 32,.int .i64 0,.int .i64 0,.bool false,.bool false,.bool false,.int .i64 32,.int .i64 0,.int .i64 0,.bool false,.bool false,.bool false,.int .i64 32,.int .i64 0,.int .i64 0,.bool false,.bool false,.bool false,.int .i64 32,.int .i64 0,.int .i64 0,.bool false,.bool false,.bool false]⟩),(371,⟨56,true,[.slice (some ⟨341,0,none⟩) 6 6,.slice (some ⟨355,0,none⟩) 6 6,.slice (some ⟨369,0,none⟩) 6 6]⟩)]⟩
abbrev enl7:List Ent:=ent7::enl6
def ent8:Ent:=⟨32,[.int .i64 1,.slice (some ⟨375,0,some 0⟩) 2 2],376,[(375,⟨47,false,[.int .i64 3,.int .i64 0,.int .i64 0,.int .i64 0,.int .i64 0,.int .i64 0,.bool false,.bool false,.bool false,.string ⟨#[97,98,99,100,101,102]⟩,.int .i64 4,.int .i64 0,.int .i64 0,.int .i64 0,.int .i64 0,.int .i64 0,.bool false,.bool false,.bool false,.string ⟨#[]⟩]⟩)]⟩
abbrev enl8:List Ent:=ent8::enl7
end Go.Proofs.YtaojjfebkldmnaaDoor
