/- Parts of the proof, one behind the other. -/
import Derived.Test.YtnigelgcjfhghaaGreatDoorM3
import Derived.Test.YtnigelgcjfhghaaGreatDoorM2
import Derived.Below
import Derived.WideShapes
import Derived.ChangeSlices
import Derived.ChangeAnyMap
import GoSem.ClaimJoined
import Derived.Shelf.Spec.SlicesInsertGrow
import Derived.Test.YtnigelgcjfhghaaGreatDoorRows
import Derived.Shelf.Strings.Repeat
import Derived.ChangeArms
import Derived.Shelf.Strings.Search3
import Derived.Shelf.Small.Strs
import Derived.Shelf.Small.Wraps
import Derived.Shelf.Strconv.Itoa3
import Derived.Shelf.Strings.Count
import Derived.Sort.Grow
import Derived.Lib.ItoaLen
import Derived.ProofKit
import Derived.Carry
import Derived.OpenShut
import Derived.LaidMore
import Derived.Lay
set_option linter.all false
set_option maxRecDepth 10000
set_option maxHeartbeats 16000000
open And renaming intro -> zA0
open Option renaming bind_eq_bind -> zA1, bind_eq_some_iff -> zA2, bind_some -> zA3, map_some -> zA6, map_eq_some_iff -> zB2
open List renaming mem_singleton -> zA4, getElem?_eq_getElem -> zA5, length_cons -> zA8, getD_eq_getElem?_getD -> zA9, mem_cons -> zB0, map_cons -> zB4, mem_append -> zB7, mem_cons_self -> zB8, mem_cons_of_mem -> zB9, length_nil -> zC5, length_append -> zC6, length_singleton -> zC7, length_map -> zC8, flatMap_cons -> zD1, all_eq_true -> zD4, mem_map -> zD5, nil_append -> zD6, getElem?_cons_succ -> zD7, length_take -> zE1, append_nil -> zE2, getElem?_eq_none -> zE3, not_mem_nil -> zE4, getElem?_map -> zE5, getElem?_eq_some_iff -> zE6, eq_nil_of_length_eq_zero -> zE7, take_of_length_le -> zE8, getElem?_cons_zero -> zE9, drop_zero -> zF0, mem_of_getElem? -> zF2, map_nil -> zF3, getElem_mem -> zF4, map_append -> zF5
open Bool renaming and_eq_true -> zA7, false_eq_true -> zC1, and_self -> zC9, or_eq_false_iff -> zF6
open Nat renaming le_refl -> zB1, le_of_ble_eq_true -> zB3, zero_le -> zC0, le_trans -> zC2, zero_add -> zC3, lt_succ_self -> zC4, mul_one -> zD0, lt_of_lt_of_le -> zD2, lt_or_ge -> zD3, eq_of_beq_eq_true -> zD8, ble_eq -> zD9, add_zero -> zE0, le_of_eq -> zF1
open Int renaming toNat_natCast -> zB5, cast_ofNat_Int -> zB6

namespace Go.Proofs.YtnigelgcjfhghaaGreatDoor
open Go.Ax
set_option maxRecDepth 100000
def opsL:List (ByteArray × Option ByteArray):=[(⟨#[99,111,110,115,116]⟩,some ⟨#[107]⟩),(⟨#[99,111,112,121]⟩,some ⟨#[105]⟩),(⟨#[115,116,111,114,101]⟩,some ⟨#[105]⟩),(⟨#[100,114,111,112]⟩,some ⟨#[]⟩),(⟨#[107,101,101,112]⟩,some ⟨#[110]⟩),(⟨#[118,97,114]⟩,some ⟨#[107]⟩),(⟨#[115,101,116,118,97,114]⟩,some ⟨#[107]⟩),(⟨#[98,105,110,100]⟩,some ⟨#[107]⟩),(⟨#[117,110,98,105,110,100]⟩,some ⟨#[110]⟩),(⟨#[99,97,108,108]⟩,some ⟨#[110]⟩),(⟨#[106,117,109,112]⟩,some ⟨#[116]⟩),(⟨#[105,102,110,105,108]⟩,some ⟨#[116]⟩),(⟨#[105,102,115,101,116]⟩,some ⟨#[116]⟩),(⟨#[105,102,110,105,108,107,101,101,112]⟩,some ⟨#[116]⟩),(⟨#[105,102,115,101,116,107,101,101,112]⟩,some ⟨#[116]⟩),(⟨#[114,101,116,117,114,110]⟩,some ⟨#[]⟩),(⟨#[99,97,116,99,104]⟩,some ⟨#[116]⟩),(⟨#[103,117,97,114,100]⟩,none),(⟨#[112,114,111,116,101,99,116]⟩,some ⟨#[116]⟩),(⟨#[100,111,110,101]⟩,some ⟨#[]⟩),(⟨#[114,101,115,117,109,101]⟩,some ⟨#[]⟩),(⟨#[112,97,105,114]⟩,some ⟨#[107]⟩),(⟨#[103,101,116]⟩,some ⟨#[105]⟩),(⟨#[112,117,116]⟩,some ⟨#[105]⟩),(⟨#[101,110,118]⟩,none),(⟨#[99,108,111,115,101]⟩,some ⟨#[107]⟩),(⟨#[99,97,114]⟩,some ⟨#[]⟩),(⟨#[99,100,114]⟩,some ⟨#[]⟩)]
abbrev fxV (n:Nat):Value:=.func (.func 110) ⟨[]⟩ ⟨[.pointer (some ⟨n,0,none⟩)]⟩
theorem fixed_c (H:AHeap) (s:ByteArray):CallS Tryz.prog 83 [.string s] H (.ok (fxV H.next)) (ext H [⟨9,false,[.string s]⟩]):=by
 obtain⟨b,hb⟩:=Go.Ax.exq H.next
 refine callS_fn mixed Tryz.func83 rfl Tryz.ntmps83 (zB3 rfl) fun wf hsc=>?_
 simp only[hb,Tryz.results83,ruW,ruU,entryE,Nat.reduceLT,Nat.reduceEqDiff]
 exact Fin.same
def shV (b:Nat):List Value:=[.string ⟨#[99,111,110,115,116]⟩,fxV (b+1),.string ⟨#[99,111,112,121]⟩,fxV (b+2),.string ⟨#[115,116,111,114,101]⟩,fxV (b+3),.string ⟨#[100,114,111,112]⟩,fxV (b+4),.string ⟨#[107,101,101,112]⟩,fxV (b+5),.string ⟨#[118,97,114]⟩,fxV (b+6),.string ⟨#[115,101,116,118,97,114]⟩,fxV (b+7),.string ⟨#[98,105,110,100]⟩,fxV (b+8),.string ⟨#[117,110,98,105,110,100]⟩,fxV (b+9),.string ⟨#[99,97,108,108]⟩,fxV (b+10),.string ⟨#[106,117,109,112]⟩,fxV (b+11),.string ⟨#[105,102,110,105,108]⟩,fxV (b+12),.string ⟨#[105,102,115,101,116]⟩,fxV (b+13),.string ⟨#[105,102,110,105,108,107,101,101,112]⟩,fxV (b+14),.string ⟨#[105,102,115,101,116,107,101,101,112]⟩,fxV (b+15),.string ⟨#[114,101,116,117,114,110]⟩,fxV (b+16),.string ⟨#[99,97,116,99,104]⟩,fxV (b+17),.string ⟨#[103,117,97,114,100]⟩,.func (.func 84) ⟨[]⟩ ⟨[]⟩,.string ⟨#[112,114,111,116,101,99,116]⟩,fxV (b+18),.string ⟨#[100,111,110,101]⟩,fxV (b+19),.string ⟨#[114,101,115,117,109,101]⟩,fxV (b+20),.string ⟨#[112,97,105,114]⟩,fxV (b+21),.string ⟨#[103,101,116]⟩,fxV (b+22),.string ⟨#[112,117,116]⟩,fxV (b+23),.string ⟨#[101,110,118]⟩,.func (.func 85) ⟨[]⟩ ⟨[]⟩,.string ⟨#[99,108,111,115,101]⟩,fxV (b+24),.string ⟨#[99,97,114]⟩,fxV (b+25),.string ⟨#[99,100,114]⟩,fxV (b+26)]
def shB (b:Nat):List Bl:=[⟨114,false,shV b⟩,⟨9,false,[.string ⟨#[107]⟩]⟩,⟨9,false,[.string ⟨#[105]⟩]⟩,⟨9,false,[.string ⟨#[105]⟩]⟩,⟨9,false,[.string ⟨#[]⟩]⟩,⟨9,false,[.string ⟨#[110]⟩]⟩,⟨9,false,[.string ⟨#[107]⟩]⟩,⟨9,false,[.string ⟨#[107]⟩]⟩,⟨9,false,[.string ⟨#[107]⟩]⟩,⟨9,false,[.string ⟨#[110]⟩]⟩,⟨9,false,[.string ⟨#[110]⟩]⟩,⟨9,false,[.string ⟨#[116]⟩]⟩,⟨9,false,[.string ⟨#[116]⟩]⟩,⟨9,false,[.string ⟨#[116]⟩]⟩,⟨9,false,[.string ⟨#[116]⟩]⟩,⟨9,false,[.string ⟨#[116]⟩]⟩,⟨9,false,[.string ⟨#[]⟩]⟩,⟨9,false,[.string ⟨#[116]⟩]⟩,⟨9,false,[.string ⟨#[116]⟩]⟩,⟨9,false,[.string ⟨#[]⟩]⟩,⟨9,false,[.string ⟨#[]⟩]⟩,⟨9,false,[.string ⟨#[107]⟩]⟩,⟨9,false,[.string ⟨#[105]⟩]⟩,⟨9,false,[.string ⟨#[105]⟩]⟩,⟨9,false,[.string ⟨#[107]⟩]⟩,⟨9,false,[.string ⟨#[]⟩]⟩,⟨9,false,[.string ⟨#[]⟩]⟩]
theorem zero114:zeroOf Tryz.prog 114=some (.agg #[.string .empty,.nilFunc,.string .empty,.nilFunc,.string .empty,.nilFunc,.string .empty,.nilFunc,.string .empty,.nilFunc,.string .empty,.nilFunc,.string .empty,.nilFunc,.string .empty,.nilFunc,.string .empty,.nilFunc,.string .empty,.nilFunc,.string .empty,.nilFunc,.string .empty,.nilFunc,.string .empty,.nilFunc,.string .empty,.nilFunc,.string .empty,.nilFunc,.string .empty,.nilFunc,.string .empty,.nilFunc,.string .empty,.nilFunc,.string .empty,.nilFunc,.string .empty,.nilFunc,.string .empty,.nilFunc,.string .empty,.nilFunc,.string .empty,.nilFunc,.string .empty,.nilFunc,.string .empty,.nilFunc,.string .empty,.nilFunc,.string .empty,.nilFunc,.string .empty,.nilFunc]):=by kernel_rfl
theorem shapes_c (H:AHeap):CallS Tryz.prog 52 [] H (.ok (.agg ⟨shV H.next⟩)) (ext H (shB H.next)):=by
 obtain⟨b,hb⟩:=Go.Ax.exq H.next
 refine callS_fn mixed Tryz.func52 rfl Tryz.ntmps52 (zB3 rfl) fun wf hsc=>?_
 have hbase:H.base<=b:=hb▸wf.base
 simp only[hb,zero114,ruW,xF,ruU,entryE,Nat.reduceLT]
 iterate 26
  refine (fixed_c (ext H _) _).to ?_
  simp only[hb,hbase,ext_next,Tryz.results52,ruW,putL,Nat.reduceLeDiff,xF,ruU,Nat.reduceLT,Nat.reduceAdd,Nat.reduceEqDiff]
 exact Fin.same
end Go.Proofs.YtnigelgcjfhghaaGreatDoor
namespace Go.Ax
def Ren.same:Ren:=⟨fun n=>n,fun _=>0,fun _=>0,fun _=>.nilIface,fun _=>rfl⟩
theorem rel_none (P:Program) (w:World):Rel P Ren.same (AHeap.none P.globals.size) w :=
 ⟨zB1 _,⟨zB1 _,fun _ _=>⟨rfl,rfl⟩⟩,fun m _ h=>absurd (none_get _ m) h,fun n o h=>(by rw[none_get]at h; cases h),fun n o h=>(by rw[none_get]at h; cases h)⟩
theorem wide_wide:WideF Fence.wide:=⟨fun _=>trivial,rfl,rfl⟩
theorem sameV_eq {u v:Value} (h:sameV u v=true):u=v/\af v=true:=by
 unfold sameV at h
 split at h
 ·simp only[zA7,decide_eq_true_eq]at h
  obtain⟨rfl,rfl⟩:=h
  exact⟨rfl,rfl⟩
 ·simp only[beq_iff_eq]at h
  subst h
  exact⟨rfl,rfl⟩
 ·cases h
theorem sameL_eq:∀ {u v:List Value},sameL u v=true->u=v/\∀ x∈v,af x=true
 |[],[],_=>⟨rfl,fun _ h=>by cases h⟩
 |a::r,b::q,h=>by
  simp only[sameL,zA7]at h
  obtain⟨h1,h2⟩:=sameV_eq h.1
  obtain⟨h3,h4⟩:=sameL_eq h.2
  refine⟨by rw[h1,h3],fun x hx=>?_⟩
  rcases zB0.1 hx with rfl|hx
  ·exact h2
  ·exact h4 x hx
 |[],_::_,h=>by cases h
 |_::_,[],h=>by cases h
theorem afL_of:∀ {l:List Value},(∀ x∈l,af x=true)->afL l=true
 |[],_=>rfl
 |x::l,h=>by rw[afL,h x (zB8 ..),afL_of fun y hy=>h y (zB9 _ hy)]; rfl
theorem sameW_eq {u v:Value} (h:sameW u v=true):u=v/\af v=true:=by
 unfold sameW at h
 split at h
 ·rename_i a b
  obtain⟨h1,h2⟩:=sameL_eq h
  obtain⟨a⟩:=a
  obtain⟨b⟩:=b
  simp only at h1 h2
  subst h1
  exact⟨rfl,by rw[af,afA]; exact afL_of h2⟩
 ·rename_i a b
  obtain⟨h1,h2⟩:=sameL_eq h
  obtain⟨a⟩:=a
  obtain⟨b⟩:=b
  simp only at h1 h2
  subst h1
  exact⟨rfl,by rw[af,afA]; exact afL_of h2⟩
 ·exact sameV_eq h
open Go.ChangeShapes
section
variable {P : Program} {K : Type} {enc : TypeId × Value -> K} {w : World} {base : Nat} {spare : Nat -> Bool} {held : Bool}
theorem mapM_each {α β:Type} {g:α->Option β}:∀ {l:List α} {r:List β},l.mapM g=some r->∀ x∈l,∃ y,g x=some y
 |[],_,_,x,hx=>by cases hx
 |a::l,r,h,x,hx=>by
  rw[List.mapM_cons]at h
  cases hg:g a with
  |none=>rw[hg]at h; cases h
  |some y =>
   rw[hg]at h
   cases hl:l.mapM g with
   |none=>simp[hl]at h
   |some r' =>
    rcases zB0.1 hx with rfl|hx
    ·exact⟨y,hg⟩
    ·exact mapM_each hl x hx
theorem fits_append:∀ {ts us:List TypeId} {a b:List Value},fits P ts a=true->fits P us b=true->fits P (ts++us) (a++b)=true
 |[],us,[],b,_,h=>h
 |[],_,_::_,_,h,_=>by simp[fits]at h
 |_::_,_,[],_,h,_=>by simp[fits]at h
 |t::ts,us,v::a,b,h,h2=>by
  simp only[fits,zA7]at h
  simp only[List.cons_append,fits,h.1,fits_append h.2 h2,zC9]
theorem trod_fieldsF {fuel d:Nat} {cs:List Value} (ih:∀ (t:TypeId) (ts:List TypeId) (cs:List Value) (x:DataW K × List MemPlace),flat P d t=some ts->szOf P t=some ts.length->DataW.trod enc P w base spare held fuel t cs=some x->fits P ts cs=true) :
  ∀ (fs:List Field) (o:Nat) (ts:List TypeId),flatF P (flat P d) fs o=some ts->(∀ f∈fs,∃ y,DataW.trod enc P w base spare held fuel f.type ((cs.drop f.offset).take (P.cellsOf f.type))=some y)->o+ts.length<=cs.length->fits P ts ((cs.drop o).take ts.length)=true
 |[],o,ts,h,_,_=>by
  simp only[flatF,Option.some.injEq]at h
  subst h
  rfl
 |f::fs,o,ts,h,hy,hle=>by
  simp only[flatF]at h
  split at h
  ·rename_i hf
   obtain⟨_,ho⟩:=hf
   cases e1:flat P d f.type with
   |none=>rw[e1]at h; cases h
   |some a =>
    rw[e1]at h
    simp only at h
    split at h
    ·rename_i hsz
     cases e2:flatF P (flat P d) fs (o+a.length) with
     |none=>rw[e2]at h; cases h
     |some b =>
      rw[e2]at h
      simp only[Option.some.injEq]at h
      subst h
      rw[zC6]at hle
      obtain⟨y,hy0⟩:=hy f (by simp)
      rw[ho,cellsOf_szOf hsz]at hy0
      have h1:=ih f.type a _ y e1 hsz hy0
      have h2:=trod_fieldsF ih fs (o+a.length) b e2 (fun g hg=>hy g (by simp[hg])) (by omega)
      have:(cs.drop o).take (a++b).length=(cs.drop o).take a.length++(cs.drop (o+a.length)).take b.length:=by
       rw[zC6,List.take_add,List.drop_drop]
      rw[this]
      exact fits_append h1 h2
    ·cases h
  ·cases h
theorem trod_fits:∀ (fuel d:Nat) (t:TypeId) (ts:List TypeId) (cs:List Value) (x:DataW K × List MemPlace),flat P d t=some ts->szOf P t=some ts.length->DataW.trod enc P w base spare held fuel t cs=some x->fits P ts cs=true
 |0,_,_,_,_,_,_,_,h=>by simp[DataW.trod]at h
 |_+1,0,_,_,_,_,h,_,_=>by simp[flat]at h
 |fuel+1,d+1,t,ts,cs,x,hf,hs,h=>by
  simp only[flat]at hf
  unfold DataW.trod at h
  cases e:P.underlying t with
  |none=>rw[e]at hf; cases hf
  |some td =>
   rw[e]at hf h
   cases td with
   |bool =>
    simp only[Option.some.injEq]at hf
    subst hf
    split at h<;>first|cases h|skip
    all_goals first|(rename_i hh; cases hh; done)|skip
    all_goals simp_all [fits,fit1]
   |int k =>
    simp only[Option.some.injEq]at hf
    subst hf
    split at h<;>simp_all [fits,fit1]
   |string =>
    simp only[Option.some.injEq]at hf
    subst hf
    split at h<;>simp_all [fits,fit1]
   |struct fs =>
    simp only at hf
    split at hf
    ·cases hf
    ·simp only at h
     split at h
     ·rename_i hlen
      rw[cellsOf_szOf hs]at hlen
      cases hm:fs.toList.mapM fun f=>DataW.trod enc P w base spare held fuel f.type ((cs.drop f.offset).take (P.cellsOf f.type)) with
      |none=>rw[hm]at h; cases h
      |some xs =>
       have:=trod_fieldsF (cs:=cs) (fun t ts cs x=>trod_fits fuel d t ts cs x) fs.toList 0 ts hf (mapM_each hm) (by omega)
       rw[zF0,zE8 (by omega)]at this
       exact this
     ·cases h
   |_=>simp at hf
theorem trod_slice {fuel:Nat} {t e:TypeId} {ts:List TypeId} {D:Nat} (ht:P.underlying t=some (.slice e)) (hsz:szOf P e=some ts.length) (hfl:flat P D e=some ts) {b off len cap:Nat} {x:DataW K × List MemPlace}
  (h:DataW.trod enc P w 0 spare held fuel t [.slice (some ⟨b,off,none⟩) len cap]=some x) (hnf:w.noneFrozen x.2) :
  len<=cap/\(len*ts.length=0\/∃ (c:Array Value) (e':TypeId) (fz:Nat × Nat) (vs:List Value),w.heap[b]?=some (.cells c e' fz)/\vs.length=len*ts.length/\(∀ i,i<vs.length->c[off+i]?=some (vs.getD i undef)) /\
   (∀ i,i<len->fits P ts ((vs.drop (i*ts.length)).take ts.length)=true)/\∀ i,off<=i->i<off+len*ts.length->¬(fz.1<=i/\i<fz.2)):=by
 cases fuel with
 |zero=>simp[DataW.trod]at h
 |succ fuel =>
  unfold DataW.trod at h
  rw[ht]at h
  simp only[cellsOf_szOf hsz]at h
  split at h
  ·rename_i hc
   refine⟨hc.2.1,?_⟩
   by_cases h0:len*ts.length=0
   ·exact .inl h0
   right
   cases hm:(List.range len).mapM fun i=>(w.cells? 0 ((⟨b,off,none⟩:Addr).add (i*ts.length)) ts.length).bind (DataW.trod enc P w 0 spare held fuel e) with
   |none=>rw[hm]at h; cases h
   |some elems =>
    rw[hm,zA3]at h
    have hel:elems.length=len:=by have:=mapM_len hm; simpa using this
    have each:∀ i,i<len->∃ cs y,w.cells? 0 ((⟨b,off,none⟩:Addr).add (i*ts.length)) ts.length=some cs/\DataW.trod enc P w 0 spare held fuel e cs=some y:=fun i hi=>by
     obtain⟨y,hy⟩:=mapM_each hm i (by simpa using hi)
     cases hcs:w.cells? 0 ((⟨b,off,none⟩:Addr).add (i*ts.length)) ts.length with
     |none=>rw[hcs]at hy; cases hy
     |some cs=>rw[hcs]at hy; exact⟨cs,y,rfl,hy⟩
    have cell:∀ i,i<len*ts.length->∃ v,w.cell? ⟨b,off+i,none⟩=some v:=fun i hi=>by
     have hp:0<ts.length:=Nat.pos_of_ne_zero fun h=>h0 (by rw[h,Nat.mul_zero])
     have hq:i / ts.length<len:=(Nat.div_lt_iff_lt_mul hp).2 hi
     obtain⟨cs,y,hcs,_⟩:=each _ hq
     unfold World.cells? at hcs
     rw[if_pos (zC0 _)]at hcs
     obtain⟨v,hv⟩:=mapM_each hcs (i % ts.length) (by simpa using Nat.mod_lt _ hp)
     rw[addr_add,addr_add]at hv
     have:off+i / ts.length*ts.length+i % ts.length=off+i:=by rw[Nat.add_assoc,Nat.mul_comm,Nat.div_add_mod]
     rw[this]at hv
     exact⟨v,hv⟩
    obtain⟨v0,hv0⟩:=cell 0 (by omega)
    unfold World.cell? at hv0
    cases hb:w.heap[b]? with
    |none=>simp[hb]at hv0
    |some o =>
     cases o with
     |cells c e' fz =>
      have cell':∀ i,i<len*ts.length->∃ v,c[off+i]?=some v:=fun i hi=>by
       obtain⟨v,hv⟩:=cell i hi
       simp only[World.cell?,hb]at hv
       exact⟨v,by simpa using hv⟩
      obtain⟨vs,hvs⟩:∃ vs:List Value,vs=(List.range (len*ts.length)).map fun i=>(c[off+i]?).getD undef:=⟨_,rfl⟩
      have hvl:vs.length=len*ts.length:=by simp[hvs]
      have hvg:∀ i,i<vs.length->c[off+i]?=some (vs.getD i undef):=fun i hi=>by
       rw[hvl]at hi
       obtain⟨v,hv⟩:=cell' i hi
       simp[hvs,hi,hv,zA9]
      refine⟨c,e',fz,vs,rfl,hvl,hvg,fun i hi=>?_,fun i h1 h2=>?_⟩
      ·obtain⟨cs,y,hcs,hy⟩:=each i hi
       have hcs':(vs.drop (i*ts.length)).take ts.length=cs:=by
        unfold World.cells? at hcs
        rw[if_pos (zC0 _)]at hcs
        have hin:i*ts.length+ts.length<=len*ts.length:=by rw[<-Nat.succ_mul]; exact Nat.mul_le_mul_right _ hi
        have hr:=mapM_range_of (f:=fun j=>w.cell? (((⟨b,off,none⟩:Addr).add (i*ts.length)).add j)) (g:=fun j=>vs.getD (i*ts.length+j) undef) ts.length (fun j hj=>by
         have h3:=hvg (i*ts.length+j) (by rw[hvl]; omega)
         rw[addr_add,addr_add,Nat.add_assoc]
         simp[World.cell?,hb,h3])
        rw[hr]at hcs
        cases hcs
        apply List.ext_getElem?
        intro j
        by_cases hj:j<ts.length
        ·rw[List.getElem?_take,if_pos hj,List.getElem?_drop,zE5,List.getElem?_range hj,zA5 (by rw[hvl]; omega)]
         simp only[zA6,zA9]
         rw[zA5 (by rw[hvl]; omega)]
         rfl
        ·rw[zE3 (by simp; omega),zE3 (by simp; omega)]
       rw[hcs']
       exact trod_fits fuel D e ts cs y hfl hsz hy
      ·have hmem:MemPlace.cell b i∈x.2:=by
        cases hrest:(if spare b then (List.range (cap-len)).mapM fun j=>(w.cells? 0 ((⟨b,off,none⟩:Addr).add ((len+j)*ts.length)) ts.length).bind (DataW.trod enc P w 0 spare held fuel e) else some []) with
        |none=>rw[hrest]at h; cases h
        |some rest =>
         rw[hrest]at h
         simp only[zA6,Option.some.injEq]at h
         subst h
         simp only[zB7]
         left
         unfold MemPlace.row
         rw[zD5]
         refine⟨i-off,?_,by simp only[MemPlace.cell.injEq,true_and]; omega⟩
         rw[List.mem_range,hel,Nat.add_mul]
         omega
       have:=hnf b i hmem
       intro hh
       simp only[World.frozen?,hb]at this
       simp[hh.1,hh.2]at this
     |_=>simp[hb]at hv0
  ·cases h
def enR (N b off:Nat):Ren:=⟨fun n=>if n=N then b else n,fun n=>if n=N then off else 0,fun _=>0,fun _=>.nilIface,fun _=>rfl⟩
theorem rel_calls {f:FuncId} {args:List Value} {H:AHeap} {ρ:Ren} (r:Rel P ρ H w) (hsc:scbL H.next args=true) (hbase:H.base=H.next) (hd:H.dirty=[]) (h:CallA P f args H fun out H1=>out=.ok (.bool true)/\Mod [] H H1) :
  Calls P f (args.map ρ.val).toArray w (fun e w'=>e=.returned (.bool true)/\RowKit.Below w.heap.size w w'):=by
 obtain⟨_,H1,hc,rfl,m⟩:=h
 refine (callsIn_wide (n:=0)).1 (hc ρ w r hsc Fence.wide 0 _ wide_wide ?_)
 intro ρ1 w1 s _
 refine⟨by rw[Ren.val],s.os,s.tape,s.output,s.size,fun b hb=>s.old b hb fun n hn hor _=>?_⟩
 rcases hor with h|h
 ·omega
 ·rcases m.dirty n h with h|h
  ·rw[hd]at h; cases h
  ·exact absurd h.1 (by simp)
end
section
variable {P : Program} {K : Type} {enc : TypeId × Value -> K} {w : World} {base : Nat} {spare : Nat -> Bool} {held : Bool}
mutual
def dc:DataW K->List Value
 |.lit (.int k z)=>[.int k z]
 |.lit (.bool b)=>[.bool b]
 |.agg l=>dcL l
 |_=>[]
def dcL:List (DataW K)->List Value
 |[]=>[]
 |d::r=>dc d++dcL r
end
mutual
def dok:DataW K->Bool
 |.lit (.int _ _)=>true
 |.lit (.bool _)=>true
 |.agg l=>dokL l
 |_=>false
def dokL:List (DataW K)->Bool
 |[]=>true
 |d::r=>dok d&&dokL r
end
theorem mapM_cons_some {α β:Type} {g:α->Option β} {a:α} {l:List α} {r:List β} (h:(a::l).mapM g=some r):∃ y ys,g a=some y/\l.mapM g=some ys/\r=y::ys:=by
 rw[List.mapM_cons]at h
 cases hg:g a with
 |none=>rw[hg]at h; cases h
 |some y =>
  rw[hg]at h
  cases hl:l.mapM g with
  |none=>simp[hl]at h
  |some ys=>simp[hl]at h; exact⟨y,ys,rfl,rfl,h.symm⟩
theorem trod_fieldsD {fuel d:Nat} {cs:List Value} (ih:∀ (t:TypeId) (ts:List TypeId) (cs:List Value) (x:DataW K × List MemPlace),flat P d t=some ts->szOf P t=some ts.length->DataW.trod enc P w base spare held fuel t cs=some x->dok x.1=true->cs=dc x.1) :
  ∀ (fs:List Field) (o:Nat) (ts:List TypeId) (xs:List (DataW K × List MemPlace)),flatF P (flat P d) fs o=some ts->(fs.mapM fun f=>DataW.trod enc P w base spare held fuel f.type ((cs.drop f.offset).take (P.cellsOf f.type)))=some xs->dokL (xs.map (·.1))=true->o+ts.length<=cs.length->(cs.drop o).take ts.length=dcL (xs.map (·.1))
 |[],o,ts,xs,h,hm,_,_=>by
  simp only[flatF,Option.some.injEq]at h
  subst h
  simp at hm
  subst hm
  simp[dcL]
 |f::fs,o,ts,xs,h,hm,hk,hle=>by
  simp only[flatF]at h
  split at h
  ·rename_i hf
   obtain⟨_,ho⟩:=hf
   cases e1:flat P d f.type with
   |none=>rw[e1]at h; cases h
   |some a =>
    rw[e1]at h
    simp only at h
    split at h
    ·rename_i hsz
     cases e2:flatF P (flat P d) fs (o+a.length) with
     |none=>rw[e2]at h; cases h
     |some b =>
      rw[e2]at h
      simp only[Option.some.injEq]at h
      subst h
      rw[zC6]at hle
      obtain⟨y,ys,hy,hys,rfl⟩:=mapM_cons_some hm
      simp only[zB4,dokL,zA7]at hk
      rw[ho,cellsOf_szOf hsz]at hy
      have h1:=ih f.type a _ y e1 hsz hy hk.1
      have h2:=trod_fieldsD ih fs (o+a.length) b ys e2 hys hk.2 (by omega)
      have:(cs.drop o).take (a++b).length=(cs.drop o).take a.length++(cs.drop (o+a.length)).take b.length:=by
       rw[zC6,List.take_add,List.drop_drop]
      rw[this,h1,h2]
      simp only[zB4,dcL]
    ·cases h
  ·cases h
theorem trod_dc:∀ (fuel d:Nat) (t:TypeId) (ts:List TypeId) (cs:List Value) (x:DataW K × List MemPlace),flat P d t=some ts->szOf P t=some ts.length->DataW.trod enc P w base spare held fuel t cs=some x->dok x.1=true->cs=dc x.1
 |0,_,_,_,_,_,_,_,h,_=>by simp[DataW.trod]at h
 |_+1,0,_,_,_,_,h,_,_,_=>by simp[flat]at h
 |fuel+1,d+1,t,ts,cs,x,hf,hs,h,hk=>by
  simp only[flat]at hf
  unfold DataW.trod at h
  cases e:P.underlying t with
  |none=>rw[e]at hf; cases hf
  |some td =>
   rw[e]at hf h
   cases td with
   |bool =>
    simp only at h
    split at h<;>first|(simp only[Option.some.injEq]at h; subst h; rfl)|cases h|skip
    all_goals (rename_i hh; cases hh)
   |int k =>
    simp only at h
    split at h<;>first|(simp only[Option.some.injEq]at h; subst h; simp_all []; done)|cases h|skip
    all_goals simp_all []
    all_goals (obtain⟨h1,rfl⟩:=h; simp[dc])
   |string =>
    simp only at h
    split at h<;>first|(simp only[Option.some.injEq]at h; subst h; simp[dok]at hk; done)|cases h|skip
    all_goals simp_all
    all_goals (obtain⟨_,rfl⟩:=h; simp[dok]at hk)
   |struct fs =>
    simp only at hf
    split at hf
    ·cases hf
    ·simp only at h
     split at h
     ·rename_i hlen
      rw[cellsOf_szOf hs]at hlen
      cases hm:fs.toList.mapM fun f=>DataW.trod enc P w base spare held fuel f.type ((cs.drop f.offset).take (P.cellsOf f.type)) with
      |none=>rw[hm]at h; cases h
      |some xs =>
       rw[hm]at h
       simp only[zA6,Option.some.injEq]at h
       subst h
       simp only[dok]at hk
       have:=trod_fieldsD (cs:=cs) (fun t ts cs x=>trod_dc fuel d t ts cs x) fs.toList 0 ts xs hf hm hk (by omega)
       rw[zF0,zE8 (by omega)]at this
       rw[this,dc]
     ·cases h
   |_=>simp at hf
theorem cut_flat {α:Type} {m:Nat}:∀ (n:Nat) (cs:List α),cs.length=n*m->cs=((List.range n).map fun i=>(cs.drop (i*m)).take m).flatten
 |0,cs,h=>by
  have:cs=[]:=zE7 (by simpa using h)
  subst this
  rfl
 |n+1,cs,h=>by
  have h1:(cs.drop m).length=n*m:=by rw[List.length_drop,h,Nat.succ_mul]; omega
  have h2:=cut_flat n (cs.drop m) h1
  rw[List.range_succ_eq_map,zB4,List.flatten_cons,List.map_map,Nat.zero_mul,zF0]
  have:((List.range n).map ((fun i=>(cs.drop (i*m)).take m) ∘ Nat.succ))=(List.range n).map fun i=>((cs.drop m).drop (i*m)).take m:=by
   apply List.map_congr_left
   intro i _
   simp only[Function.comp,List.drop_drop,Nat.succ_mul]
   rw[Nat.add_comm]
  rw[this,<-h2,List.take_append_drop]
theorem dcL_flat:∀ (ds:List (DataW K)),dcL ds=(ds.map dc).flatten
 |[]=>rfl
 |d::r=>by simp only[dcL,zB4,List.flatten_cons,dcL_flat r]
theorem dokL_all:∀ {ds:List (DataW K)},dokL ds=true->∀ d∈ds,dok d=true
 |[],_,_,h=>by cases h
 |d::r,h,x,hx=>by
  simp only[dokL,zA7]at h
  rcases zB0.1 hx with rfl|hx
  ·exact h.1
  ·exact dokL_all h.2 x hx
theorem mapM_map {α β γ:Type} {f:α->Option β} {g:α->γ} {h:β->γ}:∀ {l:List α} {r:List β},l.mapM f=some r->(∀ a∈l,∀ b∈r,f a=some b->g a=h b)->l.map g=r.map h
 |[],r,hm,_=>by simp at hm; subst hm; rfl
 |a::l,r,hm,hg=>by
  obtain⟨y,ys,h1,h2,rfl⟩:=mapM_cons_some hm
  rw[zB4,zB4,hg a (by simp) y (by simp) h1,mapM_map h2 fun a ha b hb=>hg a (by simp[ha]) b (by simp[hb])]
theorem trod_arr {fuel:Nat} {t e:TypeId} {ts:List TypeId} {D n:Nat} {cs:List Value} {x:DataW K × List MemPlace} (hu:P.underlying t=some (.array n e)) (hsz:szOf P e=some ts.length) (hfl:flat P D e=some ts) (hst:szOf P t=some (n*ts.length))
  (h:DataW.trod enc P w base spare held fuel t cs=some x) (hk:dok x.1=true):cs=dc x.1:=by
 cases fuel with
 |zero=>simp[DataW.trod]at h
 |succ fuel =>
  unfold DataW.trod at h
  rw[hu]at h
  simp only[cellsOf_szOf hsz,cellsOf_szOf hst]at h
  split at h
  ·rename_i hl
   cases hm:(List.range n).mapM fun i=>DataW.trod enc P w base spare held fuel e ((cs.drop (i*ts.length)).take ts.length) with
   |none=>rw[hm]at h; cases h
   |some xs =>
    rw[hm]at h
    simp only[zA6,Option.some.injEq]at h
    subst h
    simp only[dok]at hk
    rw[dc,dcL_flat,List.map_map]
    refine (cut_flat n cs hl).trans (congrArg List.flatten (mapM_map hm fun i _ y hy hf=>?_))
    exact trod_dc fuel D e ts _ y hfl hsz hf (dokL_all hk _ (List.mem_map_of_mem hy))
  ·cases h
theorem laid_at:∀ {laid:List (String × DataW Unit)} {ps:List MemPlace},DataW.LaidVars P w laid ps->∀ {x:String × DataW Unit},x∈laid->∃ g t cs fuel p,P.globalNamed x.1=some g/\(P.globals[g]?).map (·.type)=some t/\w.var? P x.1=some cs/\DataW.trod (fun _=>()) P w 0 (fun _=>true) false fuel t cs.toList=some (x.2,p)/\∀ y∈MemPlace.row ⟨g,0,none⟩ cs.size,y∈ps
 |[],_,_,_,hx=>by cases hx
 |(n,d)::r,ps,h,x,hx=>by
  obtain⟨g,t,cs,fuel,p,q,h1,h2,h3,h4,h5,rfl⟩:=h
  rcases zB0.1 hx with rfl|hx
  ·exact⟨g,t,cs,fuel,p,h1,h2,h3,h4,fun y hy=>by simp[hy]⟩
  ·obtain⟨g,t,cs,fuel,p,k1,k2,k3,k4,k5⟩:=laid_at h5 hx
   exact⟨g,t,cs,fuel,p,k1,k2,k3,k4,fun y hy=>by simp[k5 y hy]⟩
theorem laid_tab {laid:List (String × DataW Unit)} (h:laidMet P laid w) {name:String} {d:DataW Unit} (hx:(name,d)∈laid) {g:Nat} {t e:TypeId} {ts:List TypeId} {D n:Nat} (hg:P.globalNamed name=some g) (ht:(P.globals[g]?).map (·.type)=some t)
  (hu:P.underlying t=some (.array n e)) (hsz:szOf P e=some ts.length) (hfl:flat P D e=some ts) (hst:szOf P t=some (n*ts.length)) (hk:dok d=true) (hpos:0<(dc d).length) :
  ∃ (c:Array Value) (ty:TypeId),w.heap[g]?=some (.cells c ty (0,0))/\c.toList=dc d:=by
 obtain⟨ps,hl,_,hz⟩:=h
 obtain⟨g',t',cs,fuel,p,h1,h2,h3,h4,h5⟩:=laid_at hl hx
 obtain rfl:=Option.some.inj (hg.symm.trans h1)
 obtain rfl:=Option.some.inj (ht.symm.trans h2)
 have hcs:=trod_arr hu hsz hfl hst h4 hk
 have hpos':0<cs.size:=by rw[<-hcs]at hpos; simpa using hpos
 obtain⟨⟨c,ty,hb⟩,_⟩:=hz g 0 (h5 _ (by unfold MemPlace.row; rw[zD5]; exact⟨0,by simpa using hpos',rfl⟩))
 refine⟨c,ty,hb,?_⟩
 have:w.var? P name=some c:=by simp only[World.var?,hg,zA3,hb]
 obtain rfl:=Option.some.inj (this.symm.trans h3)
 exact hcs
def tabO (e:TypeId) (vs:List Value):AObj:=⟨.cells #[] e,false,RV.ofList vs⟩
theorem rel_tab {ρ:Ren} {H:AHeap} {g:Nat} {e:TypeId} {c:Array Value} {vs:List Value} (r:Rel P ρ H w) (hg:g<P.globals.size) (hex:ρ.ex g=0) (hinj:∀ n,H.get n≠none->ρ.blk n=g->n=g)
  (hb:w.heap[g]?=some (.cells c e (0,0))) (hc:c.toList=vs) (ha:afL vs=true):Rel P ρ (H.put g (some (tabO e vs))) w:=by
 obtain⟨hbk,hsh⟩:=r.glob.2 g hg
 have hav:∀ x∈vs,af x=true:=by
  intro x hx
  clear hc hinj
  induction vs with
  |nil=>cases hx
  |cons y ys ih =>
   simp only[afL,zA7]at ha
   rcases zB0.1 hx with rfl|hx
   ·exact ha.1
   ·exact ih ha.2 hx
 have hgd:∀ i,i<vs.length->af (vs.getD i undef)=true:=fun i hi=>hav _ (by simp[zA9,zA5 hi])
 have hget:∀ m,(H.put g (some (tabO e vs))).get m=if m=g then some (tabO e vs) else H.get m:=fun m=>AHeap.get_put H g _ m
 refine⟨r.base,r.glob,fun m n hm hn he=>?_,fun n o hn=>?_,fun n o hn=>?_⟩
 ·rw[hget]at hm hn
  by_cases h1:m=g
  ·subst h1
   by_cases h2:n=m
   ·exact .inl h2.symm
   ·rw[if_neg h2]at hn
    exact .inl (hinj n hn (he.symm.trans hbk)).symm
  ·rw[if_neg h1]at hm
   by_cases h2:n=g
   ·subst h2
    exact .inl (hinj m hm (he.trans hbk))
   ·rw[if_neg h2]at hn
    rw[hget,hget,if_neg h1,if_neg h2]
    exact r.inj m n hm hn he
 ·rw[hget]at hn
  by_cases h:n=g
  ·subst h
   rw[if_pos rfl]at hn
   cases hn
   refine⟨zD2 hg r.glob.1,?_⟩
   simp only[sco,tabO,RV.n_ofList,RV.get_ofList]
   intro i hi
   exact scb_of_af _ (hgd i hi)
  ·rw[if_neg h]at hn
   exact r.dom n o hn
 ·rw[hget]at hn
  by_cases h:n=g
  ·subst h
   rw[if_pos rfl]at hn
   cases hn
   refine⟨_,by rw[hbk]; exact hb,?_⟩
   have hcs:c.size=vs.length:=by rw[<-hc]; simp
   simp only[Fits,tabO]
   refine⟨c,(0,0),rfl,fun i hi=>?_,fun _=>⟨by rw[RV.n_ofList,hcs],hsh,hex,rfl⟩,fun h=>(by cases h)⟩
   simp only[RV.n_ofList]at hi
   rw[RV.get_ofList,val_af _ _ (hgd i hi),hsh,zE0]
   subst hc
   have:i<c.size:=by simpa using hi
   simp[zA9,this]
  ·rw[if_neg h]at hn
   exact r.obj n o hn
def tabsH (N:Nat):List (Nat × TypeId × List Value)->AHeap
 |[]=>AHeap.none N
 |(g,e,vs)::r=>(tabsH N r).put g (some (tabO e vs))
theorem tabsH_next (N:Nat):∀ T,(tabsH N T).next=N/\(tabsH N T).base=N/\(tabsH N T).dirty=[]
 |[]=>⟨rfl,rfl,rfl⟩
 |(_,_,_)::r=>tabsH_next N r
theorem rel_tabs:∀ (T:List (Nat × TypeId × List Value)),(∀ x∈T,x.1<P.globals.size/\afL x.2.2=true/\∃ c,w.heap[x.1]?=some (.cells c x.2.1 (0,0))/\c.toList=x.2.2)->Rel P Ren.same (tabsH P.globals.size T) w
 |[],_=>rel_none P w
 |(g,e,vs)::r,h=>by
  obtain⟨h1,h2,c,h3,h4⟩:=h (g,e,vs) (by simp)
  exact rel_tab (rel_tabs r fun x hx=>h x (by simp[hx])) h1 rfl (fun n _ hn=>hn) h3 h4 h2
theorem tab_world {ρ:Ren} {H:AHeap} {g:Nat} {e:TypeId} {vs:List Value} (r:Rel P ρ H w) (hg:g<P.globals.size) (hb:bk H g=some ⟨e,false,vs⟩) (ha:afL vs=true):∃ c,w.heap[g]?=some (.cells c e (0,0))/\c.toList=vs:=by
 obtain⟨hbk,hsh⟩:=r.glob.2 g hg
 have hav:∀ x∈vs,af x=true:=by
  intro x hx
  clear hb
  induction vs with
  |nil=>cases hx
  |cons y ys ih =>
   simp only[afL,zA7]at ha
   rcases zB0.1 hx with rfl|hx
   ·exact ha.1
   ·exact ih ha.2 hx
 simp only[bk,zB2]at hb
 obtain⟨⟨rv,e',o⟩,hc,hx⟩:=hb
 simp only[Bl.mk.injEq]at hx
 obtain⟨rfl,rfl,rfl⟩:=hx
 obtain⟨z,q,hgt⟩:=cellsAt_get hc
 obtain⟨o',hw,hfit⟩:=r.obj _ _ hgt
 simp only[Fits]at hfit
 obtain⟨c,fz,rfl,hcs,hcl,_⟩:=hfit
 obtain⟨k1,k2,k3,rfl⟩:=hcl trivial
 rw[hbk]at hw
 refine⟨c,hw,?_⟩
 apply List.ext_getElem?
 intro i
 rw[RV.gets_eq]
 by_cases hi:i<rv.n
 ·have h1:=hcs i hi
  rw[k2,zE0]at h1
  have h2:rv.get i∈rv.gets 0 rv.n:=by rw[RV.gets_eq,zD5]; exact⟨i,by simpa using hi,by simp⟩
  rw[val_af ρ _ (hav _ h2)]at h1
  rw[zE5,List.getElem?_range hi]
  simpa using h1
 ·rw[zE3 (by simp; omega),zE3 (by simp; omega)]
end
def sameBy:List UInt8->List UInt8->Bool
 |[],[]=>true
 |a::r,b::q=>Nat.beq a.toNat b.toNat&&sameBy r q
 |_,_=>false
theorem sameBy_eq:∀ {u v:List UInt8},sameBy u v=true->u=v
 |[],[],_=>rfl
 |a::r,b::q,h=>by
  simp only[sameBy,zA7]at h
  rw[UInt8.toNat_inj.1 (zD8 h.1),sameBy_eq h.2]
 |[],_::_,h=>by cases h
 |_::_,[],h=>by cases h
def sameSp:Option Nat->Option Nat->Bool
 |none,none=>true
 |some a,some b=>Nat.beq a b
 |_,_=>false
theorem sameSp_eq:∀ {u v:Option Nat},sameSp u v=true->u=v
 |none,none,_=>rfl
 |some a,some b,h=>by rw[zD8 h]
 |none,some _,h=>by cases h
 |some _,none,h=>by cases h
def sameAd (a b:Addr):Bool:=Nat.beq a.block b.block&&Nat.beq a.off b.off&&sameSp a.spot b.spot
theorem sameAd_eq {a b:Addr} (h:sameAd a b=true):a=b:=by
 simp only[sameAd,zA7]at h
 obtain⟨x,y,z⟩:=a
 obtain⟨x',y',z'⟩:=b
 simp only at h
 rw[zD8 h.1.1,zD8 h.1.2,sameSp_eq h.2]
mutual
def sameX:Value->Value->Bool
 |.bool a,.bool b=>a == b
 |.int k a,.int l b=>decide (k=l)&&decide (a=b)
 |.string a,.string b=>sameBy a.data.toList b.data.toList
 |.pointer none,.pointer none=>true
 |.pointer (some a),.pointer (some b)=>sameAd a b
 |.slice none m n,.slice none p q=>Nat.beq m p&&Nat.beq n q
 |.slice (some a) m n,.slice (some b) p q=>sameAd a b&&Nat.beq m p&&Nat.beq n q
 |.agg a,.agg b=>sameXA a b
 |_,_=>false
def sameXA:Array Value->Array Value->Bool
 |⟨l⟩,⟨m⟩=>sameXL l m
def sameXL:List Value->List Value->Bool
 |[],[]=>true
 |a::r,b::q=>sameX a b&&sameXL r q
 |_,_=>false
end
mutual
theorem sameX_eq:∀ (u v:Value),sameX u v=true->u=v
 |.bool a,v,h=>by cases v<;>first|(simp[sameX]at h; done)|(rw[sameX,beq_iff_eq]at h; rw[h])
 |.int k a,v,h=>by cases v<;>first|(simp[sameX]at h; done)|(rw[sameX,zA7,decide_eq_true_eq,decide_eq_true_eq]at h; rw[h.1,h.2])
 |.string ⟨⟨a⟩⟩,v,h=>by
  cases v<;>first|(simp[sameX]at h; done)|skip
  rename_i b
  obtain⟨⟨b⟩⟩:=b
  rw[sameX]at h
  have h:sameBy a b=true:=h
  rw[sameBy_eq h]
 |.pointer none,v,h=>by cases v<;>first|(simp[sameX]at h; done)|(rename_i b; cases b<;>first|rfl|(simp[sameX]at h; done))
 |.pointer (some a),v,h=>by cases v<;>first|(simp[sameX]at h; done)|(rename_i b; cases b<;>first|(simp[sameX]at h; done)|(rw[sameX]at h; rw[sameAd_eq h]))
 |.slice none m n,v,h=>by cases v<;>first|(simp[sameX]at h; done)|(rename_i b _ _; cases b<;>first|(rw[sameX,zA7]at h; rw[zD8 h.1,zD8 h.2])|(simp[sameX]at h; done))
 |.slice (some a) m n,v,h=>by cases v<;>first|(simp[sameX]at h; done)|(rename_i b _ _; cases b<;>first|(rw[sameX,zA7,zA7]at h; rw[sameAd_eq h.1.1,zD8 h.1.2,zD8 h.2])|(simp[sameX]at h; done))
 |.agg a,.agg b,h=>by
  rw[sameX]at h
  rw[sameXA_eq a b h]
 |.agg a,.bool _,h=>by simp[sameX]at h
 |.agg a,.int _ _,h=>by simp[sameX]at h
 |.agg a,.string _,h=>by simp[sameX]at h
 |.agg a,.pointer _,h=>by simp[sameX]at h
 |.agg a,.slice _ _ _,h=>by simp[sameX]at h
 |.agg a,.float _ _,h=>by simp[sameX]at h
 |.agg a,.complex _ _ _,h=>by simp[sameX]at h
 |.agg a,.map _,h=>by simp[sameX]at h
 |.agg a,.chan _,h=>by simp[sameX]at h
 |.agg a,.func _ _ _,h=>by simp[sameX]at h
 |.agg a,.nilFunc,h=>by simp[sameX]at h
 |.agg a,.iface _ _,h=>by simp[sameX]at h
 |.agg a,.nilIface,h=>by simp[sameX]at h
 |.agg a,.tuple _,h=>by simp[sameX]at h
 |.float _ _,v,h=>by simp[sameX]at h
 |.complex _ _ _,v,h=>by simp[sameX]at h
 |.map _,v,h=>by simp[sameX]at h
 |.chan _,v,h=>by simp[sameX]at h
 |.func _ _ _,v,h=>by simp[sameX]at h
 |.nilFunc,v,h=>by simp[sameX]at h
 |.iface _ _,v,h=>by simp[sameX]at h
 |.nilIface,v,h=>by simp[sameX]at h
 |.tuple _,v,h=>by simp[sameX]at h
theorem sameXA_eq:∀ (u v:Array Value),sameXA u v=true->u=v
 |⟨l⟩,⟨m⟩,h=>by
  rw[sameXA]at h
  rw[sameXL_eq l m h]
theorem sameXL_eq:∀ (u v:List Value),sameXL u v=true->u=v
 |[],[],_=>rfl
 |a::r,b::q,h=>by
  simp only[sameXL,zA7]at h
  rw[sameX_eq a b h.1,sameXL_eq r q h.2]
 |[],_::_,h=>by simp[sameXL]at h
 |_::_,[],h=>by simp[sameXL]at h
end
structure Ent where
 f:FuncId
 args:List Value
 next:Nat
 blks:List (Nat × Bl)
def objIs (H:AHeap) (n:Nat) (o:Bool) (l:List Value):Option TypeId :=
 match H.get n with
 |some ⟨.cells _ e (0,_),o',rv⟩=>if (o == o')&&sameXL l (rv.gets 0 rv.n) then some e else none
 |_=>none
def blkIs (H:AHeap) (x:Nat × Bl):Bool :=
 match objIs H x.1 x.2.o x.2.l with
 |some e=>Nat.beq e x.2.e
 |none=>false
def entOk (T:List (Nat × List Value)) (e:Ent) (f:FuncId) (args:List Value) (H:AHeap):Bool :=
 Nat.beq e.f f&&sameXL e.args args&&Nat.beq e.next H.next&&e.blks.all (blkIs H)&&T.all fun x=>(objIs H x.1 false x.2).isSome
def layB (g:AHeap):List (Nat × Bl)->AHeap
 |[]=>g
 |x::r=>layB (g.put x.1 (some x.2.obj)) r
def entHeap (T:List (Nat × List Value)) (ee:Nat->TypeId) (e:Ent):AHeap :=
 layB (AHeap.none e.next) ((T.map fun x=>(x.1,⟨ee x.1,false,x.2⟩))++e.blks)
theorem layB_get:∀ (l:List (Nat × Bl)) (g:AHeap) (n:Nat) (o:AObj),(layB g l).get n=some o->g.get n=some o\/∃ x∈l,x.1=n/\o=x.2.obj
 |[],g,n,o,h=>.inl h
 |x::r,g,n,o,h=>by
  rcases layB_get r _ n o h with h|⟨y,hy,h1,h2⟩
  ·rw[AHeap.get_put]at h
   split at h
   ·rename_i e
    cases h
    exact .inr ⟨x,by simp,e.symm,rfl⟩
   ·exact .inl h
  ·exact .inr ⟨y,by simp[hy],h1,h2⟩
theorem layB_next:∀ (l:List (Nat × Bl)) (g:AHeap),(layB g l).next=g.next/\(layB g l).base=g.base/\(layB g l).dirty=g.dirty
 |[],_=>⟨rfl,rfl,rfl⟩
 |x::r,g=>layB_next r (g.put x.1 (some x.2.obj))
def SameO (a b:AObj):Prop:=∃ c e z c' z',a.obj=.cells c e (0,z)/\b.obj=.cells c' e (0,z')/\a.opn=b.opn/\a.rv.n=b.rv.n/\∀ i,i<b.rv.n->a.rv.get i=b.rv.get i
theorem objIs_same {H:AHeap} {n:Nat} {o:Bool} {l:List Value} {e:TypeId} (h:objIs H n o l=some e):∃ a,H.get n=some a/\SameO a (Bl.obj ⟨e,o,l⟩):=by
 unfold objIs at h
 split at h
 ·rename_i c t z o' rv hg
  split at h
  ·rename_i hc
   simp only[zA7,beq_iff_eq]at hc
   obtain⟨rfl,hl⟩:=hc
   simp only[Option.some.injEq]at h
   subst h
   have hl:=sameXL_eq _ _ hl
   refine⟨_,hg,c,t,z,#[],0,rfl,rfl,rfl,?_,fun i hi=>?_⟩
   ·simp only[Bl.obj,RV.n_ofList,hl,RV.length_gets]
   ·simp only[Bl.obj,RV.n_ofList]at hi
    simp only[Bl.obj,RV.get_ofList]
    have hi':i<rv.n:=by rw[hl,RV.length_gets]at hi; exact hi
    rw[hl,RV.gets_getD _ _ _ _ hi',zC3]
  ·cases h
 ·cases h
theorem SameO.sco {N:Nat} {a b:AObj} (h:SameO a b) (hs:sco N a):sco N b:=by
 obtain⟨c,e,z,c',z',h1,h2,h3,h4,h5⟩:=h
 unfold Go.Ax.sco at hs ⊢
 rw[h1]at hs
 rw[h2]
 intro i hi
 rw[<-h5 i hi]
 exact hs i (by omega)
theorem SameO.fits {P:Program} {ρ:Ren} {n:Nat} {a b:AObj} {o':Obj} (h:SameO a b) (hs:Fits P ρ n a o'):Fits P ρ n b o':=by
 obtain⟨c,e,z,c',z',h1,h2,h3,h4,h5⟩:=h
 unfold Fits at hs ⊢
 rw[h1]at hs
 rw[h2]
 obtain⟨d,fz,hd,hv,ha,hb⟩:=hs
 refine⟨d,fz,hd,fun i hi=>?_,?_,?_⟩
 ·rw[<-h5 i hi]; exact hv i (by omega)
 ·rw[<-h3,<-h4]; exact ha
 ·rw[<-h3,<-h4]; exact hb
theorem SameO.nz {a b:AObj} (h:SameO a b):¬Fz (some a):=by
 obtain⟨c,e,z,c',z',h1,h2,h3,h4,h5⟩:=h
 rintro⟨o,ho,hf⟩
 cases ho
 obtain⟨x,y,q⟩:=a
 simp only at h1
 subst h1
 cases y<;>simp[frz]at hf
theorem sub_rel {P:Program} {ρ:Ren} {H G:AHeap} {w:World} (r:Rel P ρ H w) (hn:G.next=H.next) (hb:G.base=G.next) (hg:∀ n o,G.get n=some o->∃ a,H.get n=some a/\SameO a o):Rel P ρ G w:=by
 refine⟨zF1 hb,by rw[hn]; exact r.glob,fun m n h1 h2 he=>?_,fun n o ho=>?_,fun n o ho=>?_⟩
 ·obtain⟨x,hx⟩:=Option.ne_none_iff_exists'.1 h1
  obtain⟨y,hy⟩:=Option.ne_none_iff_exists'.1 h2
  obtain⟨a,ha,hs⟩:=hg m x hx
  obtain⟨b,hb,ht⟩:=hg n y hy
  rcases r.inj m n (ne_none ha) (ne_none hb) he with h|⟨h,_⟩
  ·exact .inl h
  ·rw[ha]at h
   exact absurd h hs.nz
 ·obtain⟨a,ha,hs⟩:=hg n o ho
  rw[hn]
  exact⟨(r.dom n a ha).1,hs.sco (r.dom n a ha).2⟩
 ·obtain⟨a,ha,hs⟩:=hg n o ho
  obtain⟨o',h1,h2⟩:=r.obj n a ha
  exact⟨o',h1,hs.fits h2⟩
abbrev KX:=FuncId->List Value->AHeap->Option (Value × AHeap)
def orX (K L:KX):KX:=fun f args H=>match K f args H with
 |some r=>some r
 |none=>L f args H
section
variable {P : Program}
theorem known_orX {K L:KX} (hK:KnownX P K) (hL:KnownX P L):KnownX P (orX K L):=by
 intro f args v H H1 h
 unfold orX at h
 split at h
 ·rename_i r hr
  cases h
  exact hK _ _ _ _ _ hr
 ·exact hL _ _ _ _ _ h
theorem callX_in (hmix:P.follows .mixedOrders=true) {K:KX} (hK:KnownX P K) {fuel:Nat} {f:FuncId} {args:List Value} {v:Value} {H H1:AHeap} {ρ:Ren} {w:World} (r:Rel P ρ H w)
  (h:callX P K fuel f args H=some (.ok v,H1)) (hsc:scbL H.next args=true) {F:Fence} {n:Nat} (hF:WideF F):CallsIn F n P f (args.map ρ.val).toArray w (fun e w'=>∃ ρ1,e=.returned (ρ1.val v)/\St P ρ H w ρ1 H1 w') :=
 enterF_run (execX_sound hmix hK fuel).1 r h hsc hF (fun ρ1 w1 s _=>⟨ρ1,rfl,s⟩)
def ansTX (P:Program) (K:KX) (fuel:Nat) (f:FuncId) (args:List Value) (v:Value) (T:List (Nat × TypeId × List Value)):Bool :=
 match callX P K fuel f args (tabsH P.globals.size T) with
 |some (.ok u,H1)=>sameW u v&&H1.dirty.isEmpty
 |_=>false
theorem ansTX_in {w:World} (hmix:P.follows .mixedOrders=true) {L:KX} (hK:KnownX P L) {fuel:Nat} {f:FuncId} {args:List Value} {v:Value} {T:List (Nat × TypeId × List Value)} (ha:args.all af=true) (h:ansTX P L fuel f args v T=true)
  (hT:∀ x∈T,x.1<P.globals.size/\afL x.2.2=true/\∃ c,w.heap[x.1]?=some (.cells c x.2.1 (0,0))/\c.toList=x.2.2) (F:Fence) (n:Nat) (hF:WideF F) :
  CallsIn F n P f args.toArray w (fun e w'=>e=.returned v/\RowKit.Below w.heap.size w w')/\af v=true:=by
 unfold ansTX at h
 split at h
 ·rename_i u H1 hc
  simp only[zA7]at h
  obtain⟨h,hd⟩:=h
  obtain⟨rfl,hv⟩:=sameW_eq h
  refine⟨?_,hv⟩
  have:=callX_in hmix hK (rel_tabs T hT) hc (scbL_of_af _ (afL_of fun x hx=>zD4.1 ha x hx)) (F:=F) (n:=n) hF
  rw[map_af _ args (fun x hx=>zD4.1 ha x hx)]at this
  refine this.mono ?_
  rintro e w' ⟨ρ1,rfl,s⟩
  refine⟨by rw[val_af ρ1 _ hv],s.os,s.tape,s.output,s.size,fun b hb=>s.old b hb fun n hn hor _=>?_⟩
  obtain⟨t1,t2,_⟩:=tabsH_next P.globals.size T
  rcases hor with h|h
  ·omega
  ·rw[List.isEmpty_iff.1 hd]at h
   cases h
 ·cases h
theorem callS_tabX (hmix:P.follows .mixedOrders=true) {L:KX} (hK:KnownX P L) {fuel:Nat} {f:FuncId} {args:List Value} {v:Value} {T:List (Nat × TypeId × List Value)} {H:AHeap} (ha:args.all af=true) (h:ansTX P L fuel f args v T=true)
  (hT:∀ x∈T,x.1<P.globals.size/\afL x.2.2=true/\bk H x.1=some ⟨x.2.1,false,x.2.2⟩):CallS P f args H (.ok v) H:=by
 intro ρ w r hsc F n R hF hR
 rw[map_af ρ args (fun x hx=>zD4.1 ha x hx)]
 obtain⟨h1,hv⟩:=ansTX_in (w:=w) hmix hK ha h (fun x hx=>⟨(hT x hx).1,(hT x hx).2.1,tab_world r (hT x hx).1 (hT x hx).2.2 (hT x hx).2.1⟩) F n hF
 refine h1.mono ?_
 rintro e w' ⟨rfl,hb⟩
 have:=hR ρ w' (St.below r hb) (scb_of_af _ hv)
 rwa [val_af ρ _ hv]at this
def lookX (T:List (Nat × List Value)) (K:KX):List Ent->KX
 |[],f,args,H=>K f args H
 |e::r,f,args,H=>if entOk T e f args H then some (.bool true,H) else lookX T K r f args H
def entRunX (P:Program) (K:KX) (fuel:Nat) (T:List (Nat × List Value)) (ee:Nat->TypeId) (e:Ent):Bool :=
 match callX P K fuel e.f e.args (entHeap T ee e) with
 |some (.ok (.bool true),H1)=>H1.dirty.isEmpty
 |_=>false
theorem known_heapX (hmix:P.follows .mixedOrders=true) {T:List (Nat × List Value)} {K:KX} {l:List Ent} (hK:KnownX P (lookX T K l)) (fuel:Nat) {e:Ent} (h:∀ ee,entRunX P (lookX T K l) fuel T ee e=true):KnownX P (lookX T K (e::l)):=by
 intro g bs u H H1' hu
 unfold lookX at hu
 split at hu
 ·rename_i hc
  simp only[Option.some.injEq,Prod.mk.injEq]at hu
  obtain⟨rfl,rfl⟩:=hu
  intro ρ w r hsc F n R hF hR
  simp only[entOk,zA7,zD4]at hc
  obtain⟨⟨⟨⟨c1,c2⟩,c3⟩,c4⟩,c5⟩:=hc
  have c1:=zD8 c1
  have c2:=sameXL_eq _ _ c2
  have c3:=zD8 c3
  subst c1 c2
  obtain⟨ee,hee⟩:∃ ee:Nat->TypeId,∀ x∈T,objIs H x.1 false x.2=some (ee x.1):=by
   refine⟨fun n=>match H.get n with
    |some ⟨.cells _ t _,_,_⟩=>t
    |_=>0,fun x hx=>?_⟩
   have:=c5 x hx
   unfold objIs at this ⊢
   split at this
   ·rename_i c t z o' rv hg
    simp only[hg]
    split at this
    ·rename_i hh; rw[if_pos hh]
    ·simp at this
   ·simp at this
  have hrun:=h ee
  obtain⟨n1,n2,n3⟩:=layB_next ((T.map fun x=>(x.1,(⟨ee x.1,false,x.2⟩:Bl)))++e.blks) (AHeap.none e.next)
  have hr:Rel P ρ (entHeap T ee e) w:=by
   refine sub_rel r (by unfold entHeap; rw[n1]; exact c3) (by unfold entHeap; rw[n1,n2]; rfl) fun n o ho=>?_
   rcases layB_get _ _ n o ho with ho|⟨x,hx,rfl,rfl⟩
   ·rw[none_get]at ho; cases ho
   ·rcases zB7.1 hx with hx|hx
    ·obtain⟨y,hy,rfl⟩:=zD5.1 hx
     exact objIs_same (hee y hy)
    ·have:=c4 x hx
     unfold blkIs at this
     split at this
     ·rename_i t ht
      have:=zD8 this
      subst this
      exact objIs_same ht
     ·cases this
  unfold entRunX at hrun
  split at hrun
  ·rename_i H1 hcl
   refine (callX_in hmix hK hr hcl (by unfold entHeap; rw[n1]; rw[show (AHeap.none e.next).next=e.next from rfl,c3]; exact hsc) hF).mono ?_
   rintro e' w' ⟨ρ1,rfl,s⟩
   have hb:RowKit.Below w.heap.size w w':=by
    refine⟨s.os,s.tape,s.output,s.size,fun b hb=>s.old b hb fun n hn hor _=>?_⟩
    rw[List.isEmpty_iff.1 hrun]at hor
    unfold entHeap at hn hor
    rw[n1]at hn
    rw[n2]at hor
    rcases hor with h|h
    ·exact absurd hn (Nat.not_lt.2 h)
    ·cases h
   have:=hR ρ w' (St.below r hb) rfl
   simpa[Ren.val]using this
  ·cases hrun
 ·exact hK _ _ _ _ _ hu
def lookP (K:KX):List (FuncId × List Value × Value)->KX
 |[],f,args,H=>K f args H
 |(g,xs,v)::r,f,args,H=>if Nat.beq g f&&sameXL xs args then some (v,H) else lookP K r f args H
theorem known_nilP {K:KX} (hK:KnownX P K):KnownX P (lookP K []):=fun f args v H H1 h=>hK f args v H H1 h
theorem known_baseX {T:List (Nat × List Value)} {K:KX} (hK:KnownX P K):KnownX P (lookX T K []):=fun f args v H H1 h=>hK f args v H H1 h
end
section
variable {P : Program} {ro : Option Nat} {H : AHeap} {N : Nat} {E : Env} {ds : List Deferred} {ops : Array Oper} {rest : List Oper} {d : Nat} {ty : TypeId} {pos : String} {after : Array Edge} {Q : Exit -> AAct -> AHeap -> Prop}
theorem w_plain {op:BinOp} {t u:TypeId} {x y:Operand} {p q v:Value} (hx:opOk P N x=true) (hy:opOk P N y=true) (hp:opv E x=p) (hq:opv E y=q) (hd:d<N) (h0:aBin P H op t p q=none) (h1:af p=true) (h2:af q=true) (h:peval P (do eqGuard op t x y p q; binOp op t p q)=some v) (h3:af v=true) :
  wpOps P ro ops (⟨some d,.binOp op t x y u,ty,pos,after,none⟩::rest) (mkA N E ds) H Q=wpOps P ro ops rest (mkA N (upd E d v) ds) H Q :=
 (w_rv (x:=some v) rfl (by simp only[aop,xBin,aeval_opv hx,aeval_opv hy,hp,hq,zA1,zA3,binV,h0,h1,h2,aPlain,h,h3,zC9,if_true,zA6]; rfl) hd).trans valC_some
def bAnd (k:IntKind) (x y:Int):Int:=k.wrap ((BitVec.ofInt k.bits x &&& BitVec.ofInt k.bits y).toNat:Int)
def bOr (k:IntKind) (x y:Int):Int:=k.wrap ((BitVec.ofInt k.bits x ||| BitVec.ofInt k.bits y).toNat:Int)
def bNot (k:IntKind) (x y:Int):Int:=k.wrap ((BitVec.ofInt k.bits x &&& ~~~BitVec.ofInt k.bits y).toNat:Int)
def bShl (k:IntKind) (x:Int) (n:Nat):Int:=k.wrap (x*2 ^ (min n k.bits))
def bShr (k:IntKind) (x:Int) (n:Nat):Int:=x.fdiv (2 ^ (min n k.bits))
def bitV (op:BinOp):Value->Value->Option Value
 |.int k a,.int k' b=>(match op with
  |.and=>if k=k' then some (.int k (bAnd k a b)) else none
  |.or=>if k=k' then some (.int k (bOr k a b)) else none
  |.andNot=>if k=k' then some (.int k (bNot k a b)) else none
  |.shl=>if 0<=b then some (.int k (bShl k a b.toNat)) else none
  |.shr=>if 0<=b then some (.int k (bShr k a b.toNat)) else none
  |_=>none)
 |.string a,.string b=>(match op with
  |.eql=>some (.bool (a.toList == b.toList))
  |_=>none)
 |_,_=>none
theorem w_bits {op:BinOp} {t u:TypeId} {x y:Operand} {p q v:Value} (hx:opOk P N x=true) (hy:opOk P N y=true) (hp:opv E x=p) (hq:opv E y=q) (hd:d<N) (h:bitV op p q=some v) (h0:aBin P H op t p q=none) :
  wpOps P ro ops (⟨some d,.binOp op t x y u,ty,pos,after,none⟩::rest) (mkA N E ds) H Q=wpOps P ro ops rest (mkA N (upd E d v) ds) H Q:=by
 unfold bitV at h
 split at h
 ·rename_i k a k' b
  split at h<;>try split at h
  ·rename_i hk
   subst hk
   simp only[Option.some.injEq]at h
   subst h
   exact w_plain hx hy hp hq hd h0 rfl rfl (by simp[eqGuard,binOp,peval,Op.intBits,bAnd,pure,bind,Sem.bind]) rfl
  ·cases h
  ·rename_i hk
   subst hk
   simp only[Option.some.injEq]at h
   subst h
   exact w_plain hx hy hp hq hd h0 rfl rfl (by simp[eqGuard,binOp,peval,Op.intBits,bOr,pure,bind,Sem.bind]) rfl
  ·cases h
  ·rename_i hk
   subst hk
   simp only[Option.some.injEq]at h
   subst h
   exact w_plain hx hy hp hq hd h0 rfl rfl (by simp[eqGuard,binOp,peval,Op.intBits,bNot,pure,bind,Sem.bind]) rfl
  ·cases h
  ·rename_i hb
   simp only[Option.some.injEq]at h
   subst h
   exact w_plain hx hy hp hq hd h0 rfl rfl (by simp[eqGuard,binOp,peval,Op.shift,bShl,pure,bind,Sem.bind,show ¬b<0 by omega]) rfl
  ·cases h
  ·rename_i hb
   simp only[Option.some.injEq]at h
   subst h
   exact w_plain hx hy hp hq hd h0 rfl rfl (by simp[eqGuard,binOp,peval,Op.shift,bShr,pure,bind,Sem.bind,show ¬b<0 by omega]) rfl
  ·cases h
  all_goals cases h
 ·rename_i a b
  split at h
  ·simp only[Option.some.injEq]at h
   subst h
   exact w_plain hx hy hp hq hd h0 rfl rfl (by simp[eqGuard,binOp,peval,Op.stringOp,pure,bind,Sem.bind]) rfl
  ·cases h
 ·cases h
theorem bin_nobit {op:BinOp} {t:TypeId} {p q v:Value} (hop:op=.and\/op=.or\/op=.andNot\/op=.shl\/op=.shr) (h:bitV op p q=some v):aBin P H op t p q=none:=by
 unfold bitV at h
 split at h
 ·rename_i k a k' b
  simp only[aBin]
  split
  ·rcases hop with rfl|rfl|rfl|rfl|rfl<;>rfl
  ·rfl
 ·rcases hop with rfl|rfl|rfl|rfl|rfl<;>cases h
 ·cases h
theorem w_bit {op:BinOp} {t u:TypeId} {x y:Operand} (hop:op=.and\/op=.or\/op=.andNot\/op=.shl\/op=.shr) (hx:opOk P N x=true) (hy:opOk P N y=true) (hd:d<N) (h:(bitV op (opv E x) (opv E y)).isSome=true) :
  wpOps P ro ops (⟨some d,.binOp op t x y u,ty,pos,after,none⟩::rest) (mkA N E ds) H Q=valC P ro ops rest N E ds d H Q (bitV op (opv E x) (opv E y)):=by
 cases hv:bitV op (opv E x) (opv E y) with
 |none=>rw[hv]at h; cases h
 |some v=>exact (w_bits hx hy rfl rfl hd hv (bin_nobit hop hv)).trans valC_some.symm
theorem w_shr {t u:TypeId} {x y:Operand} (hx:opOk P N x=true) (hy:opOk P N y=true) (hd:d<N) (h:(bitV .shr (opv E x) (opv E y)).isSome=true):wpOps P ro ops (⟨some d,.binOp .shr t x y u,ty,pos,after,none⟩::rest) (mkA N E ds) H Q=valC P ro ops rest N E ds d H Q (bitV .shr (opv E x) (opv E y)):=w_bit (by simp) hx hy hd h
theorem bit_shl {k k':IntKind} {a b:Int} (h:0<=b):bitV .shl (.int k a) (.int k' b)=some (.int k (bShl k a b.toNat)):=by simp only[bitV,h,if_true]
theorem bit_shr {k k':IntKind} {a b:Int} (h:0<=b):bitV .shr (.int k a) (.int k' b)=some (.int k (bShr k a b.toNat)):=by simp only[bitV,h,if_true]
def mapO (es:List MapEntry) (c:Nat):AObj:=⟨.map ⟨es⟩ c,false,⟨[],0⟩⟩
theorem w_mkmap {t:TypeId} (hd:d<N):wpOps P ro ops (⟨some d,.makeMap t none,ty,pos,after,none⟩::rest) (mkA N E ds) H Q=wpOps P ro ops rest (mkA N (upd E d (.map (some H.next))) ds) (H.new (mapO [] 0)) Q:=by
 rw[w_op rfl rfl]
 simp only[opA,aop,xMakeMap,mapNew,nextA,opC,put_some N E ds d _ hd]
 rfl
theorem w_lookup {t:TypeId} {x k:Operand} {ok:Bool} (hx:opOk P N x=true) (hk:opOk P N k=true) (hd:d<N):wpOps P ro ops (⟨some d,.lookup t x k ok,ty,pos,after,none⟩::rest) (mkA N E ds) H Q=valC P ro ops rest N E ds d H Q (aLookup P H t (opv E x) (opv E k) ok) :=
 w_rv rfl (by simp only[aop,xLookup,aeval_opv hx,aeval_opv hk,zA1,zA3]) hd
end
open Go.Proofs
section
variable {P : Program} {ρ : Ren} {H : AHeap} {w : World}
theorem setCells_heap (b:Nat) {e:TypeId} {fz:Nat × Nat}:∀ (vs:List Value) (o:Nat) (w:World) (c:Array Value),w.heap[b]?=some (.cells c e fz) ->
  (w.setCells b o vs).heap[b]?=some (.cells (wrA c o vs) e fz)/\(w.setCells b o vs).heap.size=w.heap.size/\(∀ b',b'≠b->(w.setCells b o vs).heap[b']?=w.heap[b']?)/\(w.setCells b o vs).os=w.os/\(w.setCells b o vs).tape=w.tape/\(w.setCells b o vs).output=w.output
 |[],o,w,c,h=>⟨h,rfl,fun _ _=>rfl,rfl,rfl,rfl⟩
 |v::r,o,w,c,h=>by
  have h1:(w.setCell ⟨b,o,none⟩ v).heap[b]?=some (.cells (c.setIfInBounds o v) e fz):=by
   unfold World.setCell
   simp[Array.getElem?_modify,h]
  have h2:(w.setCell ⟨b,o,none⟩ v).heap.size=w.heap.size:=by
   unfold World.setCell
   simp
  have h3:∀ b',b'≠b->(w.setCell ⟨b,o,none⟩ v).heap[b']?=w.heap[b']?:=fun b' hb=>by
   unfold World.setCell
   simp only[Array.getElem?_modify]
   rw[if_neg (fun e=>hb e.symm)]
  obtain⟨k1,k2,k3,k4,k5,k6⟩:=setCells_heap b r (o+1) _ _ h1
  exact⟨k1,k2.trans h2,fun b' hb=>(k3 b' hb).trans (h3 b' hb),k4,k5,k6⟩
def isI64:Value->Bool
 |.int .i64 _=>true
 |_=>false
theorem isI64_of {v:Value} (h:isI64 v=true):∃ n,v=.int .i64 n:=by
 cases v<;>try cases h
 rename_i k n
 cases k<;>first|exact⟨n,rfl⟩|cases h
def insK (F:FuncId) (ti:TypeId) (f:FuncId) (args:List Value) (H:AHeap):Option (Value × AHeap) :=
 match args with
 |[.slice (some ⟨a,off,none⟩) n cap,.int .i64 i,.slice (some ⟨vb,voff,some 0⟩) 1 1] =>
  if Nat.beq f F&&decide (0<=i)&&Nat.blt i.toNat n&&Nat.ble cap 1000000 then
   match cellsAt H a,H.get vb with
   |some (v,e,true),some ⟨.cells _ _ _,false,u⟩ =>
    if Nat.beq e ti&&Nat.ble n cap&&Nat.ble (off+cap) v.n&&Nat.blt voff u.n&&!(Nat.beq a vb)&&(v.gets off n).all isI64&&isI64 (u.get voff) then
     some (.slice (some ⟨H.next,0,none⟩) (n+1) (n+1),(H.upd a none).new ⟨.cells #[] e,true,RV.ofList ((v.gets off n).take i.toNat++(u.get voff::(v.gets off n).drop i.toNat))⟩)
    else none
   |_,_=>none
  else none
 |_=>none
theorem ins_get {l:List Value} {x:Value} {i n:Nat} (hl:l.length=n) (hi:i<n) (j:Nat):(l.take i++(x::l.drop i))[j]?=if j<i then l[j]? else if j=i then some x else l[j-1]?:=by
 by_cases h1:j<i
 ·rw[if_pos h1,List.getElem?_append_left (by rw[zE1]; omega),List.getElem?_take,if_pos h1]
 ·rw[if_neg h1,List.getElem?_append_right (by rw[zE1]; omega),zE1,Nat.min_eq_left (by omega)]
  by_cases h2:j=i
  ·rw[if_pos h2,h2,Nat.sub_self]; rfl
  ·rw[if_neg h2]
   obtain⟨k,rfl⟩:∃ k,j=i+1+k:=⟨j-i-1,by omega⟩
   rw[show i+1+k-i=k+1 by omega,zD7,List.getElem?_drop]
   congr 1
   omega
theorem wrA_ins {c:Array Value} {O n i:Nat} {l:List Value} {x:Value} (hl:l.length=n) (hi:i<n) (hc:∀ j,j<n->c[O+j]?=l[j]?) (hs:O+n+1<=c.size) :
  ∀ j,j<n+1->(wrA (wrA c (O+(i+1)) (l.drop i)) (O+i) [x])[O+j]?=(l.take i++(x::l.drop i))[j]?:=by
 intro j hj
 have hd:(l.drop i).length=n-i:=by rw[List.length_drop,hl]
 rw[ins_get hl hi,wrA_get _ _ _ _ (by rw[wrA_size]; simp only[zC7]; omega)]
 by_cases h1:j<i
 ·rw[if_neg (by simp only[zC7]; omega),if_pos h1,wrA_get _ _ _ _ (by omega),if_neg (by omega)]
  exact hc j (by omega)
 ·by_cases h2:j=i
  ·subst h2
   rw[if_pos (by simp only[zC7]; omega),if_neg h1,if_pos rfl,Nat.sub_self]
   rfl
  ·rw[if_neg (by simp only[zC7]; omega),if_neg h1,if_neg h2,wrA_get _ _ _ _ (by omega),if_pos (by omega),List.getElem?_drop]
   congr 1
   omega
theorem ins_known {rho:Go.Shelf.Ren} (L:Lays2.n21 P rho) {e3:TypeId} (h3:rho.t 3=e3):KnownX P (insK (rho.f 21) e3):=by
 intro f args v0 H H1 h ρ w r hsc F m R hF hR
 unfold insK at h
 split at h
 ·rename_i a off n cap i vb voff
  split at h
  ·rename_i hcond
   simp only[zA7,decide_eq_true_eq]at hcond
   obtain⟨⟨⟨hf,h0⟩,hin⟩,hn⟩:=hcond
   have hf:=zD8 hf
   subst hf
   have hin:=blt_lt hin
   have hn9:=ble_le hn
   obtain⟨i,rfl⟩:∃ k:Nat,i=k:=⟨i.toNat,by omega⟩
   rw[zB5]at hin h
   split at h
   ·rename_i v e z1 z2 z3 u hca hgv
    split at h
    ·rename_i hc2
     simp only[zA7,Bool.not_eq_true']at hc2
     obtain⟨⟨⟨⟨⟨⟨he,hnc⟩,hcap⟩,hvo⟩,hab⟩,hall⟩,hx⟩:=hc2
     have he:=zD8 he
     subst he
     have hnc:=ble_le hnc
     have hcap:=ble_le hcap
     have hvo:=blt_lt hvo
     have hab:a≠vb:=fun e=>by subst e; simp at hab
     obtain⟨x,hx⟩:=isI64_of hx
     simp only[Option.some.injEq,Prod.mk.injEq]at h
     obtain⟨rfl,rfl⟩:=h
     obtain⟨c,fz,hC⟩:=r.cells hca
     obtain⟨hsize,hfz⟩:=hC.open_ rfl
     obtain⟨cc,ff,hg0⟩:=cellsAt_get hca
     obtain⟨ov,hwv,hfit⟩:=r.obj _ _ hgv
     simp only[Fits]at hfit
     obtain⟨c2,fz2,rfl,hcs2,hsh2,_⟩:=hfit
     obtain⟨k1,k2,k3,rfl⟩:=hsh2 trivial
     have hnz:¬Fz (H.get a):=cellsAt_nz hca
     have hne:ρ.blk vb≠ρ.blk a:=fun e=>by
      rcases r.inj vb a (ne_none hgv) (ne_none hg0) e with h|h
      ·exact hab h.symm
      ·exact hnz h.2
     have h31:P.cellsOf e=1:=by
      obtain⟨i0,hi0,hz0,hzs,hzb⟩:=info_parts L.i3
      rw[h3]at hi0
      exact cellsOf_szOf (by simp[szOf,hi0,hzs])
     rw[h31,zD0]at hsize hfz
     obtain⟨l,hl⟩:∃ l,l=v.gets off n:=⟨_,rfl⟩
     rw[<-hl]at hall hR
     have hll:l.length=n:=by rw[hl]; simp
     have hlj:∀ j,j<n->l[j]?=some (v.get (off+j)):=fun j hj=>by
      rw[hl,RV.gets_eq]; simp[hj]
     have haf:∀ j,j<n->∃ k,v.get (off+j)=.int .i64 k:=fun j hj=>isI64_of (zD4.1 hall _ (zF2 (hlj j hj)))
     have hcl:∀ j,j<n->c[off+ρ.sh a+j]?=l[j]?:=fun j hj=>by
      have:=hC.cell (off+j) (by omega)
      obtain⟨k,hk⟩:=haf j hj
      rw[hlj j hj,show off+ρ.sh a+j=off+j+ρ.sh a by omega,this,hk,Ren.val]
     have hvv:c2[voff]?=some (.int .i64 x):=by
      have:=hcs2 voff hvo
      rw[k2,hx,Ren.val]at this
      exact this
     have hA:[Value.slice (some ⟨a,off,none⟩) n cap,.int .i64 (i:Int),.slice (some ⟨vb,voff,some 0⟩) 1 1].map ρ.val=[.slice (some ⟨ρ.blk a,off+ρ.sh a,none⟩) n (cap+ρ.ex a),.int .i64 (i:Int),.slice (some ⟨ρ.blk vb,voff,none⟩) 1 1]:=by
      simp[Ren.val,k2]
     have hins:∀ j,j<n+1->∃ k,(l.take i++(u.get voff::l.drop i))[j]?=some (.int .i64 k):=fun j hj=>by
      rw[ins_get hll hin]
      split
      ·obtain⟨k,hk⟩:=haf j (by omega)
       exact⟨k,by rw[hlj j (by omega),hk]⟩
      ·split
       ·exact⟨x,by rw[hx]⟩
       ·obtain⟨k,hk⟩:=haf (j-1) (by omega)
        exact⟨k,by rw[hlj (j-1) (by omega),hk]⟩
     have hlen:(l.take i++(u.get voff::l.drop i)).length=n+1:=by
      rw[zC6,zA8,zE1,List.length_drop]; omega
     have hone:∀ y∈l,y.oneCell'=true:=fun y hy=>by
      obtain⟨k,rfl⟩:=isI64_of (zD4.1 hall y hy); rfl
     have hcellA:∀ j y,l[j]?=some y->w.cell? ⟨ρ.blk a,off+ρ.sh a+j,none⟩=some y:=fun j y hy=>by
      have hj:j<n:=by have:=(zE6.1 hy).1; omega
      simp only[World.cell?,hC.at_]
      rw[<-hy]; exact hcl j hj
     have hcellV:∀ j y,[Value.int .i64 x][j]?=some y->w.cell? ⟨ρ.blk vb,voff+j,none⟩=some y:=fun j y hy=>by
      cases j with
      |zero=>simp only[World.cell?,hwv]; rw[zE0]; simpa[<-hy]using hvv
      |succ j=>simp at hy
     have hoS:sco H.next ⟨.cells #[] e,true,RV.ofList (l.take i++(u.get voff::l.drop i))⟩:=by
      simp only[sco,RV.n_ofList,RV.get_ofList]
      intro j hj
      rw[hlen]at hj
      obtain⟨k,hk⟩:=hins j hj
      simp[zA9,hk,scb]
     rw[hA]
     by_cases hroom:n+1<=cap+ρ.ex a
     ·have hc63:cap+ρ.ex a<=9223372036854775807:=by
       by_cases h0:ρ.ex a=0
       ·omega
       ·have:=hC.room rfl h0
        rw[h31]at this
        omega
      have hc:=Any2.slices_Insert_int_shift L (ρ.blk a) (off+ρ.sh a) n (cap+ρ.ex a) i (ρ.blk vb) voff 1 1 l [.int .i64 x] w hin (by omega) hroom hc63 hne hll rfl hcellA
       (fun j hj=>by simp only[World.cell?,hC.at_]; simp; omega)
       (fun j hj=>by
        have:=hfz (off+ρ.sh a+j) (by omega) (by omega)
        simp only[World.frozen?,hC.at_]
        simp only[Bool.and_eq_false_imp,decide_eq_true_eq,decide_eq_false_iff_not]
        intro h1 h2; exact this ⟨h1,h2⟩)
       hcellV hone (by simp[Value.oneCell']) z2 e c2.size c.size (by simp only[World.shape?,hwv]) (by simp only[World.shape?,hC.at_]) (by omega) (by simp[World.frozen?,hwv]) (by simp[World.frozen?,hwv])
      refine (hF.calls hc).mono ?_
      rintro en w' ⟨rfl,rfl⟩
      obtain⟨a1,a2,a3,a4,a5,a6⟩:=setCells_heap (ρ.blk a) (l.drop i) (off+ρ.sh a+(i+1)) w.drew c hC.at_
      obtain⟨b1,b2,b3,b4,b5,b6⟩:=setCells_heap (ρ.blk a) [.int .i64 x] (off+ρ.sh a+i) _ _ a1
      have hst:=St.move r (off+ρ.sh a) (cap+ρ.ex a-(n+1)) (ne_none hg0) hnz hoS (o':=_) (by
       simp only[Fits]
       refine⟨_,fz,rfl,fun j hj=>?_,fun h=>(by cases h),fun _ _=>⟨?_,fun j h1 h2=>?_⟩⟩
       ·rw[RV.n_ofList,hlen]at hj
        have:=wrA_ins (x:=.int .i64 x) hll hin hcl (by omega) j hj
        obtain⟨k,hk⟩:=hins j hj
        rw[RV.get_ofList,Ren.at_sh,Nat.add_comm j,this,<-hx,hk,zA9,hk]
        simp[Ren.val]
       ·rw[wrA_size,wrA_size,Ren.at_sh,Ren.at_ex,RV.n_ofList,hlen,h31]; omega
       ·rw[Ren.at_sh,Ren.at_ex,RV.n_ofList,hlen,h31]at h2
        rw[Ren.at_sh]at h1
        exact hfz j (by omega) (by omega)) b1 (b2.trans a2) (fun b' hb=>(b3 b' hb).trans (a3 b' hb)) (b4.trans a4) (b5.trans a5) (b6.trans a6)
      have:=hR _ _ hst (by simp only[scb]; exact blt_of (zC4 _))
      rw[val_fresh,show n+1+(cap+ρ.ex a-(n+1))=cap+ρ.ex a by omega]at this
      exact this
     ·have hc:=Any2.slices_Insert_int_grow L (ρ.blk a) (off+ρ.sh a) n (cap+ρ.ex a) i (ρ.blk vb) voff 1 1 l [.int .i64 x] w hin (by omega) (by omega) (by omega) (by omega) hll rfl hcellA hcellV hone (by simp[Value.oneCell'])
      refine (hF.calls hc).mono ?_
      rintro en w' ⟨rfl,hw'⟩
      obtain⟨G,hG⟩:=Go.Ax.exq (grownCap w (n+1) (cap+ρ.ex a) (rho.t 3))
      have hG1:n+1<=G:=hG▸grownCap_ge w (n+1) _ _
      have hG2:G<=9223372036854775807:=by
       have:=grownCap_le_maxLen w (n+1) (cap+ρ.ex a) (rho.t 3) (by simp only[maxLen]; omega)
       simp only[maxLen]at this
       omega
      rw[hG,h3]at hw'
      rw[hG]
      have hzs:∀ k,Builtin.zeroCells (Value.int .i64 0).cells k=(zerosL [.int .i64 0] k).toArray:=fun k=>zeros_range _ _
      rw[hzs,hzs]at hw'
      obtain⟨A,hA⟩:=Go.Ax.exq ((l.take i).toArray++(zerosL [.int .i64 0] (n+1-i)).toArray++(zerosL [Value.int .i64 0] (G-(n+1))).toArray)
      rw[hA]at hw'
      have hAs:A.size=G:=by
       rw[<-hA]
       simp only[Array.size_append,List.size_toArray,zE1,zerosL_len,zC7]
       omega
      have hAi:∀ j,j<i->A[j]?=l[j]?:=fun j hj=>by
       rw[<-hA,Array.getElem?_append_left (by simp only[Array.size_append,List.size_toArray,zE1]; omega),Array.getElem?_append_left (by simp only[List.size_toArray,zE1]; omega)]
       simp[hj]
      have q0:(w.alloc (.cells A e)).drew.heap[w.heap.size]?=some (.cells A e (0,0)):=by
       show (w.heap.push _)[w.heap.size]?=_
       simp
      obtain⟨a1,a2,a3,a4,a5,a6⟩:=setCells_heap w.heap.size [.int .i64 x] i (w.alloc (.cells A e)).drew A q0
      obtain⟨b1,b2,b3,b4,b5,b6⟩:=setCells_heap w.heap.size (l.drop i) (i+1) ((w.alloc (.cells A e)).drew.setCells w.heap.size i [.int .i64 x]).drew _ a1
      rw[<-hw']at b1 b2 b3 b4 b5 b6
      have s1:=St.del r a hnz
      have s3:=St.new s1.rel ⟨.cells #[] e,true,RV.ofList (l.take i++(u.get voff::l.drop i))⟩ (.cells (wrA (wrA A i [.int .i64 x]) (i+1) (l.drop i)) e (0,0)) 0 (G-(n+1)) hoS (by
       simp only[Fits]
       refine⟨_,(0,0),rfl,fun j hj=>?_,fun h=>(by cases h),fun _ _=>⟨⟨?_,fun _=>?_⟩,fun j h1 h2=>by simp only; omega⟩⟩
       ·rw[RV.n_ofList,hlen]at hj
        obtain⟨k,hk⟩:=hins j hj
        rw[RV.get_ofList,Ren.at_sh,show j+0=j from rfl,zA9,hk]
        rw[ins_get hll hin]at hk
        have hdl:(l.drop i).length=n-i:=by rw[List.length_drop,hll]
        rw[wrA_get _ _ _ _ (by rw[wrA_size]; omega)]
        by_cases h1:j<i
        ·rw[if_pos h1]at hk
         rw[if_neg (by omega),wrA_get _ _ _ _ (by simp only[zC7]; omega),if_neg (by omega),hAi j h1,hk]
         simp[Ren.val]
        ·rw[if_neg h1]at hk
         by_cases h2:j=i
         ·rw[if_pos h2,hx]at hk
          rw[if_neg (by omega),wrA_get _ _ _ _ (by simp only[zC7]; omega),if_pos (by simp only[zC7]; omega),h2,Nat.sub_self]
          simpa[Ren.val]using hk
         ·rw[if_neg h2]at hk
          rw[if_pos (by omega),List.getElem?_drop,show i+(j-(i+1))=j-1 by omega,hk]
          simp[Ren.val]
       ·rw[wrA_size,wrA_size,hAs,Ren.at_sh,Ren.at_ex,RV.n_ofList,hlen,h31]; omega
       ·rw[Ren.at_ex,RV.n_ofList,hlen,h31]; omega)
      have s4:=St.world (w1:=w') s3.rel (by
       apply Array.ext_getElem?
       intro k
       by_cases hk:k=w.heap.size
       ·rw[hk,b1]
        show _=(w.heap.push _)[w.heap.size]?
        simp
       ·rw[b3 k hk]
        show ((w.alloc (.cells A e)).drew.setCells w.heap.size i [.int .i64 x]).heap[k]?=_
        rw[a3 k hk]
        show (w.heap.push _)[k]?=(w.heap.push _)[k]?
        rw[Array.getElem?_push,Array.getElem?_push,if_neg hk,if_neg hk]) (b4.trans a4) (b5.trans a5) (b6.trans a6)
      have:=hR _ _ (s1.trans (s3.trans s4)) (by simp only[scb]; exact blt_of (zC4 _))
      rw[show (H.upd a none).next=H.next from rfl,val_fresh,show n+1+(G-(n+1))=G by omega]at this
      exact this
    ·cases h
   ·cases h
  ·cases h
 ·cases h
end
end Go.Ax
namespace Go.Proofs.YtnigelgcjfhghaaGreatDoor
open Go.Ax
set_option maxRecDepth 100000
def rhoR:Go.Shelf.Ren:=⟨fun n=>if n=99 then 135 else if n=105 then 111 else if n=165 then 136 else if n=166 then 53 else if n=169 then 56 else if n=170 then 137 else if n=206 then 154 else if n=212 then 134 else if n=240 then 86 else if n=241 then 155 else if n=263 then 152 else if n=264 then 153 else if n=276 then 112 else if n=277 then 163 else 0,fun n=>if n=37 then 23 else if n=46 then 80 else if n=51 then 201 else if n=53 then 190 else if n=70 then 108 else if n=72 then 110 else if n=75 then 117 else if n=76 then 118 else if n=80 then 122 else if n=109 then 186 else if n=127 then 146 else if n=146 then 202 else if n=148 then 204 else if n=164 then 169 else n,fun n=>n⟩
theorem laysR:Go.Proofs.Lays.n105 Tryz.prog rhoR:=by
 constructor
 all_goals first
  |exact mixed
  |kernel_rfl
  |(intro w; kernel_rfl)
theorem extraR:Go.Proofs.Builder.Extra Tryz.prog rhoR:=by
 refine⟨⟨?_,?_⟩,?_,?_,?_,?_,?_,?_,?_,?_⟩
 all_goals first
  |kernel_rfl
  |(intro w; kernel_rfl)
  |decide
def rhoI:Go.Shelf.Ren:=⟨fun n=>if n=21 then 98 else if n=27 then 121 else if n=28 then 122 else if n=35 then 149 else if n=39 then 162 else 0,fun n=>if n=22 then 35 else n,fun n=>n⟩
theorem laysI:Go.Proofs.Lays2.n21 Tryz.prog rhoI:=by
 constructor
 all_goals first
  |exact mixed
  |kernel_rfl
  |(intro w; kernel_rfl)
def repK:KX:=fun f args H =>
 match args with
 |[.string s,.int .i64 n]=>if Nat.beq f 111&&decide (0<=n)&&decide (n<=1000)&&Nat.ble s.size 1000 then some (.string ⟨(Go.Lib.repeatL s.data.toList n.toNat).toArray⟩,H) else none
 |_=>none
theorem repeat_s (H:AHeap) (s:ByteArray) (k:Nat) (hs:s.size*k<=140737488355328) (hk:k<=9223372036854775807):CallS Tryz.prog 111 [.string s,.int .i64 (k:Int)] H (.ok (.string ⟨(Go.Lib.repeatL s.data.toList k).toArray⟩)) H:=by
 intro ρ w r hsc F m R hF hR
 have hc:=Go.Proofs.Any.strings_Repeat laysR extraR s k w hk hs
 have e1:[Value.string s,Value.int .i64 (k:Int)].map ρ.val=[Value.string s,Value.int .i64 (k:Int)]:=map_af ρ _ (fun x hx=>by simp only[zB0,zE4,or_false]at hx; rcases hx with rfl|rfl<;>rfl)
 rw[e1]
 refine (hF.calls hc).mono ?_
 rintro e w' ⟨rfl,hb⟩
 have:=hR ρ w' (St.below r hb) rfl
 rwa [val_af ρ _ rfl]at this
theorem known_rep:KnownX Tryz.prog repK:=by
 intro f args v H H1 h
 unfold repK at h
 split at h
 ·rename_i s n
  split at h
  ·rename_i hc
   simp only[zA7,decide_eq_true_eq]at hc
   obtain⟨⟨⟨hf,h0⟩,h1⟩,h2⟩:=hc
   have hf:=zD8 hf
   subst hf
   have h2:=zB3 h2
   obtain⟨k,rfl⟩:∃ k:Nat,n=k:=⟨n.toNat,by omega⟩
   cases h
   have hm:s.size*k<=1000*1000:=Nat.mul_le_mul h2 (by omega)
   rw[zB5]
   exact repeat_s _ s k (by omega) (by omega)
  ·cases h
 ·cases h
def shaK:KX:=fun f args H =>
 match args with
 |[]=>if Nat.beq f 52 then some (.agg ⟨shV H.next⟩,ext H (shB H.next)) else none
 |_=>none
theorem known_sha:KnownX Tryz.prog shaK:=by
 intro f args v H H1 h
 unfold shaK at h
 split at h
 ·split at h
  ·rename_i hf
   have hf:=zD8 hf
   subst hf
   cases h
   exact shapes_c _
  ·cases h
 ·cases h
def baseK:KX:=orX shaK (orX repK (insK 98 3))
theorem known_bK:KnownX Tryz.prog baseK:=known_orX known_sha (known_orX known_rep (ins_known laysI rfl))
end Go.Proofs.YtnigelgcjfhghaaGreatDoor
namespace Go.Ax
section
variable {P : Program} {H : AHeap} {N : Nat} {E : Env} {ds : List Deferred} {ro : Option Nat} {ops : Array Oper} {rest : List Oper} {d : Nat} {ty : TypeId} {pos : String} {after : Array Edge}
theorem w_convert {Q:Exit->AAct->AHeap->Prop} {x:Operand} {s t:TypeId} (hx:opOk P N x=true):wpOps P ro ops (⟨some d,.convert s t x,ty,pos,after,none⟩::rest) (mkA N E ds) H Q=heapC P ro ops rest N E ds (some d) Q (aConvert P H s t (opv E x)) :=
 w_rvh rfl (by simp only[aop,xConvert,aeval_opv hx,zA1,zA3])
theorem cv_int {s t:TypeId} {u:TypeDesc} {k k0:IntKind} {n:Int} (hs:P.underlying s=some u) (ht:P.underlying t=some (.int k)):aConvert P H s t (.int k0 n)=some (.int k (k.wrap n),H):=by
 simp only[aConvert,hs,ht]
theorem genV_val {o:Oper} {Q:AAct->AHeap->Prop} {i:Nat} {fps:List Fp} {anc:List Nat} {v:Value} (hdst:o.dst=some d) (hd:d<N) (hop:∀ G,aop o.op P (mkA N E ds) G=some (.value v,G)) (hm:∀ r∈fps,Meets (anc.getD i 0) [] [] (idsV v++([]:List Bl).flatMap fun x=>idsL x.l) r)
  (h:wkD P ops anc rest (i+1) (⟨i,[],[],H.next,H.next+0⟩::fps) (mkA N (upd E d v) ds) H Q):genV P ops anc o rest i fps (mkA N E ds) H Q :=
 genV_extO (v:=v) (M:=[]) [] hdst hd (fun _ h=>by cases h) (fun G _ _=>opS_of (x:=.value v) (g:=G) (hop G) ⟨rfl,rfl⟩) hm h
theorem builtin_op {args:List Operand} {b:Builtin} {ts:Array TypeId} {dst:Option Nat} {v:Value} {G:AHeap} (ha:args.all (opOk P N)=true) (h:aBuiltin P H b ts (args.map (opv E))=some (v,G)):OpS P (mkA N E ds) H ⟨dst,.call ⟨.builtin b,⟨args⟩,ts⟩,ty,pos,after,none⟩ (.ok v) G :=
 opS_of (x:=.value v) (g:=G) (by simp only[aop,xCall,aevals_opv ha,zA1,zA3,h,rvh,zA6]) ⟨rfl,rfl⟩
end
section
variable {P : Program} {ro : Option Nat} {H : AHeap} {N : Nat} {E : Env} {ds : List Deferred} {ops : Array Oper} {rest : List Oper} {d : Nat} {ty : TypeId} {pos : String} {after : Array Edge}
theorem ix_str {t:TypeId} {s:ByteArray} {i:Int} {k:Nat} {c:UInt8} {kd:IntKind} (hu:P.underlying t=some .string) (hi:i=k) (hc:s.data.toList[k]?=some c):aIndex P t (.string s) (.int kd i)=some (.int .u8 (c.toNat:Int)):=by
 subst hi
 simp only[aIndex,hu]
 rw[if_pos (Int.natCast_nonneg k),zB5,hc]
 rfl
theorem bt_lenStr {t:TypeId} {s:ByteArray} (hu:P.underlying t=some .string):aBuiltin P H .len ⟨[t]⟩ [.string s]=some (goInt s.size,H):=by simp[aBuiltin,aLen,hu]
theorem rb_lenStr {t:TypeId} {s:ByteArray} (hu:P.underlying t=some .string):regBt P .len ⟨[t]⟩ [.string s]=some (goInt s.size):=by simp[regBt,hu]
theorem wd_convert {Q:AAct->AHeap->Prop} {i:Nat} {fps:List Fp} {anc:List Nat} {x:Operand} {s t:TypeId} {dst:Option Nat} :
  wkD P ops anc (⟨dst,.convert s t x,ty,pos,after,none⟩::rest) i fps (mkA N E ds) H Q=genV P ops anc ⟨dst,.convert s t x,ty,pos,after,none⟩ rest i fps (mkA N E ds) H Q:=by
 simp only[wkD,wantA,stepD,pureOp,restD,newOp,genV]
theorem wd_cvint {Q:AAct->AHeap->Prop} {i:Nat} {fps:List Fp} {anc:List Nat} {x:Operand} {s t:TypeId} {u:TypeDesc} {k k0:IntKind} {n:Int} (hx:opOk P N x=true) (hd:d<N) (hs:P.underlying s=some u) (ht:P.underlying t=some (.int k)) (hv:opv E x=.int k0 n)
  (h:wkD P ops anc rest (i+1) (⟨i,[],[],H.next,H.next+0⟩::fps) (mkA N (upd E d (.int k (k.wrap n))) ds) H Q):wkD P ops anc (⟨some d,.convert s t x,ty,pos,after,none⟩::rest) i fps (mkA N E ds) H Q:=by
 rw[wd_convert]
 refine genV_val rfl hd (fun G=>by simp only[aop,xConvert,aeval_opv hx,hv,cv_int hs ht,rvh,zA1,zA3,zA6]) (fun r _=>?_) h
 right
 exact⟨fun _ _ h=>(by cases h),fun _ _ h=>(by cases h),fun _=>⟨fun _ h=>(by cases h),fun _ h=>(by cases h)⟩⟩
theorem cells_of_bk {n:Nat} {b:Bl} (h:bk H n=some b):∃ rv,cellsAt H n=some (rv,b.e,b.o)/\rv.n=b.l.length:=by
 obtain⟨rv,h1,h2,h3⟩:=bk_blk h
 exact⟨rv,h1,h2⟩
theorem app_opnR {st xt e:TypeId} {sz by1 m off k n off2 cnt cap:Nat} {sp s:Option Nat} {z:Value} {b bm:Bl} (hu:P.underlying st=some (.slice e)) (hsz:szOf P e=some sz) (hby:bytesOf P e=some by1) (hz:zeroOf P e=some z) (hzl:z.cells.toList.length=sz) (hi:intTy P xt=some false)
  (hm:bk H m=some bm) (he:bm.e=e) (ho:bm.o=true) (hle:off+k*sz<=bm.l.length) (hone:((bm.l.drop off).take (k*sz)).all one=true) (hsp:sp=none\/(∃ j,sp=some (j+1))/\k=0)
  (hb:rk H n=some b) (hle2:off2+cnt*sz<=b.l.length) (hone2:((b.l.drop off2).take (cnt*sz)).all one=true) (hc:0<cnt) (hsm:small (k+cnt) by1=true) :
  aBuiltin P H .append ⟨[st,xt]⟩ [.slice (some ⟨m,off,sp⟩) k k,.slice (some ⟨n,off2,s⟩) cnt cap]=(aNew (H.upd m none) e ((bm.l.drop off).take (k*sz)++(b.l.drop off2).take (cnt*sz)) true).map fun g=>(.slice (some ⟨H.next,0,none⟩) (k+cnt) (k+cnt),g):=by
 have hl:((b.l.drop off2).take (cnt*sz)).length=cnt*sz:=by simp; omega
 have hl2:((bm.l.drop off).take (k*sz)).length=k*sz:=by simp; omega
 obtain⟨rv,hcm,hrn⟩:=cells_of_bk hm
 have hop:=isOpen_bk hm
 rw[ho]at hop
 have hf:=first_bk (sz:=sz) (cnt:=k) (off:=off) (len:=k) (cap:=k) (s:=sp) hm hle
 have hex:exactAp H ⟨m,off,sp⟩ k k=some false:=by
  rcases hsp with rfl|⟨⟨j,rfl⟩,rfl⟩
  ·simp only[exactAp,exactAt,hop,zA6,Bool.not_true]
  ·simp only[exactAp,hop]
   rfl
 simp only[aBuiltin,aAppend,hu,hsz,hby,hz,hi,zA1,zA3,lenV,first_rk hb hle2,hl,hzl,hsm,and_self,if_true,aAppend2]
 rw[if_neg (by omega)]
 simp only[hf,zA3,hl2,hone,hone2,decide_true,zC9,if_true,hex,hcm]
 rw[if_pos ⟨he,by rw[zD9,hrn]; omega⟩]
 cases aNew (H.upd m none) e ((bm.l.drop off).take (k*sz)++(b.l.drop off2).take (cnt*sz)) true<;>rfl
theorem app_nilP {st xt e:TypeId} {sz by1 n off cnt cap:Nat} {s:Option Nat} {z:Value} {b:Bl} (hu:P.underlying st=some (.slice e)) (hsz:szOf P e=some sz) (hby:bytesOf P e=some by1) (hz:zeroOf P e=some z) (hzl:z.cells.toList.length=sz) (hi:intTy P xt=some false)
  (hb:rk H n=some b) (hle:off+cnt*sz<=b.l.length) (hone:((b.l.drop off).take (cnt*sz)).all one=true) (hc:0<cnt) (hsm:small cnt by1=true) :
  aBuiltin P H .append ⟨[st,xt]⟩ [.slice none 0 0,.slice (some ⟨n,off,s⟩) cnt cap]=(aNew H e ((b.l.drop off).take (cnt*sz)) true).map fun g=>(.slice (some ⟨H.next,0,none⟩) cnt cnt,g):=by
 have hl:((b.l.drop off).take (cnt*sz)).length=cnt*sz:=by simp; omega
 simp only[aBuiltin,aAppend,hu,hsz,hby,hz,hi,zA1,zA3,lenV,first_rk hb hle,hl,hzl,zC3,hsm,and_self,if_true,aAppend2]
 rw[if_neg (by omega)]
 simp only[firstC,zA3,zC5,Nat.zero_mul,List.all_nil,hone,decide_true,zC9,if_true,zD6]
 cases aNew H e ((b.l.drop off).take (cnt*sz)) true<;>rfl
def VsAt (H:AHeap) (e:TypeId) (sz:Nat) (v:Value) (vs:List Value) (cnt:Nat):Prop :=
 vs.length=cnt*sz/\vs.all one=true/\((cnt=0/\v=.slice none 0 0)\/(0<cnt/\∃ n,v=.slice (some ⟨n,0,none⟩) cnt cnt/\bk H n=some ⟨e,true,vs⟩/\n<H.next))
theorem VsAt.nil {e:TypeId} {sz:Nat}:VsAt H e sz (.slice none 0 0) [] 0:=⟨by simp,rfl,.inl ⟨rfl,rfl⟩⟩
theorem VsAt.of {G:AHeap} {e:TypeId} {sz cnt:Nat} {v:Value} {vs:List Value} (h:VsAt H e sz v vs cnt) (hn:H.next<=G.next) (hg:∀ n∈idsV v,G.get n=H.get n):VsAt G e sz v vs cnt:=by
 obtain⟨h1,h2,⟨rfl,rfl⟩|⟨h0,n,rfl,hb,hlt⟩⟩:=h
 ·exact⟨h1,h2,.inl ⟨rfl,rfl⟩⟩
 ·exact⟨h1,h2,.inr ⟨h0,n,rfl,(bk_get (hg n (by simp[idsV]))).trans hb,by omega⟩⟩
theorem VsAt.ne {e:TypeId} {sz cnt:Nat} {v:Value} {vs:List Value} (h:VsAt H e sz v vs cnt):∀ n∈idsV v,H.get n≠none/\n<H.next:=by
 obtain⟨h1,h2,⟨rfl,rfl⟩|⟨h0,n,rfl,hb,hlt⟩⟩:=h<;>intro m hm<;>simp only[idsV,zA4,zE4]at hm
 subst hm; exact⟨bk_ne hb,hlt⟩
theorem VsAt.sc {e:TypeId} {sz cnt:Nat} {v:Value} {vs:List Value} (h:VsAt H e sz v vs cnt):scb H.next v=true:=by
 obtain⟨h1,h2,⟨rfl,rfl⟩|⟨h0,n,rfl,hb,hlt⟩⟩:=h
 ·rfl
 ·exact blt_of hlt
theorem VsAt.len {e:TypeId} {sz cnt:Nat} {v:Value} {vs:List Value} (h:VsAt H e sz v vs cnt):∃ a,v=.slice a cnt cnt:=by
 obtain⟨h1,h2,⟨rfl,rfl⟩|⟨h0,n,rfl,hb,hlt⟩⟩:=h
 ·exact⟨_,rfl⟩
 ·exact⟨_,rfl⟩
theorem vs_app {st xt e:TypeId} {sz by1 n off cnt cnt2 cap x:Nat} {s:Option Nat} {z v:Value} {b:Bl} {vs ws:List Value} (hu:P.underlying st=some (.slice e)) (hsz:szOf P e=some sz) (hby:bytesOf P e=some by1) (hz:zeroOf P e=some z) (hzl:z.cells.toList.length=sz) (hi:intTy P xt=some false)
  (h:VsAt H e sz v vs cnt) (hb:rk H n=some b) (hle:off+cnt2*sz<=b.l.length) (hws:(b.l.drop off).take (cnt2*sz)=ws) (hone:ws.all one=true) (hc:0<cnt2) (hsm:small (cnt+cnt2) by1=true) (hx:H.next=x) (hsc:scbL H.next (vs++ws)=true) :
  ∃ G,aBuiltin P H .append ⟨[st,xt]⟩ [v,.slice (some ⟨n,off,s⟩) cnt2 cap]=some (.slice (some ⟨x,0,none⟩) (cnt+cnt2) (cnt+cnt2),G)/\VsAt G e sz (.slice (some ⟨x,0,none⟩) (cnt+cnt2) (cnt+cnt2)) (vs++ws) (cnt+cnt2)/\(H.base<=H.next->Mod (idsV v) H G)/\G.next=x+1/\(∀ m,m<x->m∉idsV v->G.get m=H.get m):=by
 have hwl:ws.length=cnt2*sz:=by rw[<-hws]; simp; omega
 obtain⟨h1,h2,⟨rfl,rfl⟩|⟨h0,m,rfl,hm,hlt⟩⟩:=h
 ·have hv:vs=[]:=zE7 (by simpa using h1)
  subst hv
  rw[zD6]at hsc ⊢
  have happ:=app_nilP (H:=H) (st:=st) (xt:=xt) (n:=n) (off:=off) (cnt:=cnt2) (cap:=cap) (s:=s) hu hsz hby hz hzl hi hb hle (by rw[hws]; exact hone) hc (by simpa using hsm)
  have hn:=new_ext (H:=H) (L:=[]) (e:=e) (l:=ws) (o:=true) (by simpa using hsc)
  rw[hws,show aNew H e ws true=aNew (ext H []) e ws true from rfl,hn,zA6,hx]at happ
  refine⟨ext H [⟨e,true,ws⟩],by rw[zC3]; exact happ,⟨by rw[hwl,zC3],hone,.inr ⟨by omega,x,rfl,?_,by rw[ext_next,hx]; simp⟩⟩,fun hok=>Mod.ext hok,by rw[ext_next,hx]; rfl,fun m hm _=>ext_get_old (by omega)⟩
  rw[show x=x+0 from rfl,bk_at hx (by simp)]; rfl
 ·have hdr:(vs.drop 0).take (cnt*sz)=vs:=by rw[zF0]; exact zE8 (by omega)
  have happ:=app_opnR (H:=H) (st:=st) (xt:=xt) (m:=m) (off:=0) (k:=cnt) (sp:=none) (n:=n) (off2:=off) (cnt:=cnt2) (cap:=cap) (s:=s) hu hsz hby hz hzl hi hm rfl rfl (by simp only; omega) (by simp only[hdr]; exact h2) (.inl rfl) hb hle (by rw[hws]; exact hone) hc hsm
  simp only[hdr,hws]at happ
  have hn:=new_ext (H:=dp H m) (L:=[]) (e:=e) (l:=vs++ws) (o:=true) (by rw[dp_next]; simpa using hsc)
  rw[show H.upd m none=ext (dp H m) [] from rfl,hn,zA6,hx]at happ
  have mD:Mod (idsV (.slice (some ⟨m,0,none⟩) cnt cnt)) H (dp H m):=Mod.upd (by simp[idsV])
  refine⟨ext (dp H m) [⟨e,true,vs++ws⟩],happ,⟨by rw[zC6,h1,hwl,Nat.add_mul],by rw[List.all_append,h2,hone]; rfl,.inr ⟨by omega,x,rfl,?_,by rw[ext_next,dp_next,hx]; simp⟩⟩,fun hok=>mD.trans (Mod.ext (mD.ok hok)),by rw[ext_next,dp_next,hx]; rfl,fun q hq hqn=>?_⟩
  ·rw[show x=x+0 from rfl,bk_at (show (dp H m).next=x from hx) (by simp)]; rfl
  ·rw[ext_get_old (by rw[dp_next]; omega),dp_get (by simpa[idsV]using hqn)]
end
variable {P : Program} {H X : AHeap} {f : FuncId} {args : List Value}
theorem Rn.dropM (w:WF P H) (m:Mod [] H X):Rn id H X H where
 low:=fun _ _=>rfl
 next:=zB1 _
 base:=rfl
 dirty:=fun _ h=>h
 dirt1:=fun n h=>by
  rcases m.dirty n h with h|h
  ·exact h
  ·simp at h
 get:=fun n o2 h=>.inl ⟨(w.dom n o2 h).1,h,by rw[m.get n (w.dom n o2 h).1 (by simp),h]⟩
 keep:=fun n _ h=>.inl h
 inj:=fun m n _ _ h=>h
 ro:=fun n _=>⟨.inl,fun _=>rfl⟩
theorem CallS.dropM {v:Value} (h:CallS P f args H (.ok v) X) (m:Mod [] H X) (hv:scb H.next v=true):CallS P f args H (.ok v) H:=by
 refine CallS.rn (σ:=id) (H1:=X) ?_ (fun w=>Rn.dropM w m) hv
 rw[rnV_id hv]; exact h
theorem CallA.pure {v:Value} (h:CallA P f args H fun out X=>out=.ok v/\Mod [] H X) (hv:scb H.next v=true):CallS P f args H (.ok v) H:=by
 obtain⟨_,X,hc,rfl,m⟩:=h
 exact hc.dropM m hv
theorem Fin.mod {v v1:Value} (he:v1=v) (m:Mod [] H X) (hv:scb H.next v=true):Fin P f args H v H (.ok v1) X:=fun h=>by
 rw[he]at h
 exact h.dropM m hv
end Go.Ax
namespace Go.Ax
open Go.ChangeShapes
section
variable {P : Program} {ρ : Ren} {H : AHeap} {w : World}
def roObj (e:TypeId) (vs:List Value):AObj:=⟨.cells #[] e (1,0),true,RV.ofList vs⟩
theorem roObj_fz {e:TypeId} {vs:List Value}:Fz (some (roObj e vs)):=⟨_,rfl,rfl⟩
def roH (H:AHeap) (e:TypeId) (vs:List Value):AHeap:=⟨rootPut H.root H.next (some (roObj e vs)),H.next+1,H.next+1,H.dirty⟩
theorem roH_get {e:TypeId} {vs:List Value} (m:Nat):(roH H e vs).get m=if m=H.next then some (roObj e vs) else H.get m:=rootPut_get _ _ _ _
theorem roH_rk {e:TypeId} {vs:List Value}:rk (roH H e vs) H.next=some ⟨e,true,vs⟩:=by
 rw[rk_eq]
 simp only[cellsR,roH_get,if_true,roObj,zA6,RV.n_ofList,RV.gets_ofList]
def isU8:Value->Bool
 |.int .u8 _=>true
 |_=>false
structure Ro (P:Program) (ρ:Ren) (H:AHeap) (w:World):Prop where
 rel:Rel P ρ H w
 base:H.base=H.next
 dirty:H.dirty=[]
 al:∀ n,H.get n≠none->Fz (H.get n)\/n<P.globals.size/\∃ c e,w.heap[n]?=some (.cells c e (0,0))/\∀ v∈c.toList,isU8 v=true
structure Gro (H H1:AHeap):Prop where
 next:H.next<=H1.next
 get:∀ n,n<H.next->H1.get n=H.get n
theorem Gro.refl:Gro H H:=⟨zB1 _,fun _ _=>rfl⟩
theorem Gro.trans {H1 H2:AHeap} (a:Gro H H1) (b:Gro H1 H2):Gro H H2:=⟨zC2 a.next b.next,fun n hn=>(b.get n (zD2 hn a.next)).trans (a.get n hn)⟩
theorem Ro.skipE (R:Ro P ρ H w) {ρ':Ren} (ex:Ext H.next ρ ρ'):Ro P ρ' ⟨H.root,H.next+1,H.next+1,H.dirty⟩ w/\Gro H ⟨H.root,H.next+1,H.next+1,H.dirty⟩:=by
 have r:=R.rel
 have hg:∀ n,(⟨H.root,H.next+1,H.next+1,H.dirty⟩:AHeap).get n=H.get n:=fun n=>rfl
 refine⟨⟨⟨zB1 _,⟨Nat.le_succ_of_le r.glob.1,fun g hg=>?_⟩,fun m n hm hn he=>?_,fun n o hn=>?_,fun n o hn=>?_⟩,rfl,R.dirty,fun n hn=>R.al n hn⟩,Nat.le_succ _,fun n _=>rfl⟩
 ·have:=r.glob.1
  rw[ex.blk g (by omega),ex.sh g (by omega)]; exact r.glob.2 g hg
 ·rw[hg]at hm hn
  rw[ex.blk m (r.lt hm),ex.blk n (r.lt hn)]at he
  exact r.inj m n hm hn he
 ·have:=r.dom n o hn
  exact⟨Nat.lt_succ_of_lt this.1,this.2.mono (Nat.le_succ _)⟩
 ·obtain⟨o',h1,h2⟩:=r.obj n o hn
  have hd:=r.dom n o hn
  exact⟨o',by rw[ex.blk n hd.1]; exact h1,h2.ext hd.1 hd.2 ex⟩
def Ren.atJ (ρ:Ren) (n b s j:Nat):Ren:=⟨fun m=>if m=n then b else ρ.blk m,fun m=>if m=n then s else ρ.sh m,fun m=>if m=n then 0 else ρ.ex m,fun m=>if m=n then .int .i64 j else ρ.op m,fun m=>by
 by_cases h:m=n
 ·simp only[h,if_true]; rfl
 ·simp only[h,if_false]; exact ρ.op1 m⟩
theorem Ren.atJ_ext (ρ:Ren) (n b s j:Nat):Ext n ρ (ρ.atJ n b s j) :=
 ⟨fun m h=>if_neg (Nat.ne_of_lt h),fun m h=>if_neg (Nat.ne_of_lt h),fun m h=>if_neg (Nat.ne_of_lt h),fun m h=>if_neg (Nat.ne_of_lt h)⟩
theorem val_slJ {N b off j:Nat}:(ρ.atJ N b off j).val (.slice (some ⟨N,0,some 1⟩) 0 0)=.slice (some ⟨b,off,some j⟩) 0 0:=by
 simp[Ren.val,Ren.atJ,Ren.offS,Ren.spS,Ren.capS,spO]
def SlAt (H:AHeap) (sz:Nat) (u:Value) (vs:List Value) (len:Nat):Prop :=
 vs.length=len*sz/\∃ a cap,u=.slice a len cap/\(len=0\/∃ n e,a=some ⟨n,0,some 0⟩/\n<H.next/\rk H n=some ⟨e,true,vs⟩/\len<=cap)
theorem val_sl {N b off len cap:Nat}:(ρ.at N b off 0).val (.slice (some ⟨N,0,some 0⟩) len cap)=.slice (some ⟨b,off,none⟩) len cap:=by
 simp[Ren.val,Ren.at_blk,Ren.at_sh]
variable {K : Type} {enc : TypeId × Value -> K} {spare : Nat -> Bool} {held : Bool} {fuel : Nat}
theorem sl_spot {t e:TypeId} {sz len cap:Nat} {a:Addr} {x:DataW K × List MemPlace} (hsp:∀ b,spare b=true) (ht:P.underlying t=some (.slice e)) (hsz:szOf P e=some (sz+1)) (h:DataW.trod enc P w 0 spare held fuel t [.slice (some a) len cap]=some x):a.spot=none\/len=0/\cap=0:=by
 have none_at:∀ y,(w.cells? 0 (a.add 0) (sz+1)).bind y=(none:Option (DataW K × List MemPlace))\/a.spot=none:=fun y=>by
  cases hs:a.spot with
  |none=>exact .inr rfl
  |some j =>
   left
   cases hc:w.cells? 0 (a.add 0) (sz+1) with
   |none=>rfl
   |some cs =>
    unfold World.cells? at hc
    rw[if_pos (zC0 _)]at hc
    obtain⟨v,hv⟩:=Go.Ax.mapM_each hc 0 (by simp)
    simp only[Addr.add,if_true,World.cell?,hs,Option.isSome_some]at hv
    split at hv<;>cases hv
 rcases DataW.trod_slice ht h with⟨h1,_⟩|⟨a',len',cap',elems,rest,n,_,h1,_,_,hle,_,hel,hcells,hrest,_⟩
 ·simp at h1
 ·simp only[List.cons.injEq,Value.slice.injEq,Option.some.injEq,and_true]at h1
  obtain⟨rfl,rfl,rfl⟩:=h1
  rw[cellsOf_szOf hsz]at hcells hrest
  rcases Nat.eq_zero_or_pos len with h0|h0
  ·subst h0
   rcases Nat.eq_zero_or_pos cap with hc|hc
   ·exact .inr ⟨rfl,hc⟩
   ·obtain⟨hl,hr⟩:=hrest (hsp _)
    have:=hr 0 (by omega)
    rw[zC3,Nat.zero_mul]at this
    rcases none_at (DataW.trod enc P w 0 spare held n e) with h2|h2
    ·rw[h2,zA5 (by omega)]at this
     cases this
    ·exact .inl h2
  ·have:=hcells 0 h0
   rw[Nat.zero_mul]at this
   rcases none_at (DataW.trod enc P w 0 spare held n e) with h2|h2
   ·rw[h2,zA5 (by omega)]at this
    cases this
   ·exact .inl h2
theorem sl_cells {t e:TypeId} {sz b off len cap:Nat} {x:DataW K × List MemPlace} (ht:P.underlying t=some (.slice e)) (hsz:szOf P e=some sz) (h:DataW.trod enc P w 0 spare held fuel t [.slice (some ⟨b,off,none⟩) len cap]=some x) :
  ∃ (vs:List Value) (n:Nat),vs.length=len*sz/\(len*sz=0\/∃ c e' fz,w.heap[b]?=some (.cells c e' fz)/\∀ i,i<vs.length->c[off+i]?=some (vs.getD i undef)) /\
   ∀ i,i<len->∃ y,DataW.trod enc P w 0 spare held n e ((vs.drop (i*sz)).take sz)=some y:=by
 rcases DataW.trod_slice ht h with⟨h1,_⟩|⟨a,len',cap',elems,rest,n,_,h1,_,_,_,_,hel,hcells,_,_⟩
 ·simp at h1
 ·simp only[List.cons.injEq,Value.slice.injEq,Option.some.injEq,and_true]at h1
  obtain⟨rfl,rfl,rfl⟩:=h1
  rw[cellsOf_szOf hsz]at hcells
  have each:∀ i,i<len->∃ cs y,w.cells? 0 ((⟨b,off,none⟩:Addr).add (i*sz)) sz=some cs/\DataW.trod enc P w 0 spare held n e cs=some y:=fun i hi=>by
   have:=hcells i hi
   rw[zA5 (by omega)]at this
   obtain⟨cs,h1,h2⟩:=zA2.1 this
   exact⟨cs,_,h1,h2⟩
  by_cases h0:len*sz=0
  ·refine⟨[],n,by simp[h0],.inl h0,fun i hi=>?_⟩
   obtain⟨cs,y,h1,h2⟩:=each i hi
   have hsz0:sz=0:=by
    rcases Nat.eq_zero_or_pos sz with h|h
    ·exact h
    ·have:=Nat.mul_pos (show 0<len by omega) h; omega
   subst hsz0
   unfold World.cells? at h1
   rw[if_pos (zC0 _)]at h1
   simp at h1
   subst h1
   exact⟨y,by simpa using h2⟩
  ·have hp:0<sz:=Nat.pos_of_ne_zero fun h=>h0 (by rw[h,Nat.mul_zero])
   have cell:∀ i,i<len*sz->∃ v,w.cell? ⟨b,off+i,none⟩=some v:=fun i hi=>by
    have hq:i / sz<len:=(Nat.div_lt_iff_lt_mul hp).2 hi
    obtain⟨cs,y,hcs,_⟩:=each _ hq
    unfold World.cells? at hcs
    rw[if_pos (zC0 _)]at hcs
    obtain⟨v,hv⟩:=mapM_each hcs (i % sz) (by simpa using Nat.mod_lt _ hp)
    rw[addr_add,addr_add]at hv
    have:off+i / sz*sz+i % sz=off+i:=by rw[Nat.add_assoc,Nat.mul_comm,Nat.div_add_mod]
    rw[this]at hv
    exact⟨v,hv⟩
   obtain⟨v0,hv0⟩:=cell 0 (by omega)
   unfold World.cell? at hv0
   cases hb:w.heap[b]? with
   |none=>simp[hb]at hv0
   |some o =>
    cases o with
    |cells c e' fz =>
     have cell':∀ i,i<len*sz->∃ v,c[off+i]?=some v:=fun i hi=>by
      obtain⟨v,hv⟩:=cell i hi
      simp only[World.cell?,hb]at hv
      exact⟨v,by simpa using hv⟩
     obtain⟨vs,hvs⟩:∃ vs:List Value,vs=(List.range (len*sz)).map fun i=>(c[off+i]?).getD undef:=⟨_,rfl⟩
     have hvl:vs.length=len*sz:=by simp[hvs]
     have hvg:∀ i,i<vs.length->c[off+i]?=some (vs.getD i undef):=fun i hi=>by
      rw[hvl]at hi
      obtain⟨v,hv⟩:=cell' i hi
      simp[hvs,hi,hv,zA9]
     refine⟨vs,n,hvl,.inr ⟨c,e',fz,rfl,hvg⟩,fun i hi=>?_⟩
     obtain⟨cs,y,hcs,hy⟩:=each i hi
     have hcs':(vs.drop (i*sz)).take sz=cs:=by
      unfold World.cells? at hcs
      rw[if_pos (zC0 _)]at hcs
      have hin:i*sz+sz<=len*sz:=by rw[<-Nat.succ_mul]; exact Nat.mul_le_mul_right _ hi
      have hr:=mapM_range_of (f:=fun j=>w.cell? (((⟨b,off,none⟩:Addr).add (i*sz)).add j)) (g:=fun j=>vs.getD (i*sz+j) undef) sz (fun j hj=>by
       have h3:=hvg (i*sz+j) (by rw[hvl]; omega)
       rw[addr_add,addr_add,Nat.add_assoc]
       simp[World.cell?,hb,h3])
      rw[hr]at hcs
      cases hcs
      apply List.ext_getElem?
      intro j
      by_cases hj:j<sz
      ·rw[List.getElem?_take,if_pos hj,List.getElem?_drop,zE5,List.getElem?_range hj,zA5 (by rw[hvl]; omega)]
       simp only[zA6,zA9]
       rw[zA5 (by rw[hvl]; omega)]
       rfl
      ·rw[zE3 (by simp; omega),zE3 (by simp; omega)]
     rw[hcs']
     exact⟨y,hy⟩
    |_=>simp[hb]at hv0
end
def RdAt (H:AHeap) (sz:Nat) (v:Value) (vs:List Value) (cnt:Nat):Prop :=
 vs.length=cnt*sz/\((cnt=0/\∃ a c,v=.slice a 0 c)\/(0<cnt/\∃ n off s c e o M,v=.slice (some ⟨n,off,s⟩) cnt c/\rk H n=some ⟨e,o,M⟩/\n<H.next/\off+cnt*sz<=M.length/\(M.drop off).take (cnt*sz)=vs))
section
variable {P : Program} {H G : AHeap} {sz cnt : Nat} {v : Value} {vs : List Value}
theorem RdAt.sl (h:RdAt H sz v vs cnt):∃ a c,v=.slice a cnt c:=by
 obtain⟨_,⟨rfl,a,c,rfl⟩|⟨_,n,off,s,c,e,o,M,rfl,_⟩⟩:=h
 ·exact⟨_,_,rfl⟩
 ·exact⟨_,_,rfl⟩
theorem RdAt.nil {a:Option Addr} {c:Nat}:RdAt H sz (.slice a 0 c) [] 0:=⟨by simp,.inl ⟨rfl,_,_,rfl⟩⟩
def rdF (v:Value) (cnt:Nat):List Nat:=if cnt=0 then [] else idsV v
theorem RdAt.of (h:RdAt H sz v vs cnt) (hn:H.next<=G.next) (hg:∀ n∈rdF v cnt,G.get n=H.get n):RdAt G sz v vs cnt:=by
 obtain⟨h1,h|⟨h0,n,off,s,c,e,o,M,rfl,h2,h3,h4⟩⟩:=h
 ·exact⟨h1,.inl h⟩
 ·exact⟨h1,.inr ⟨h0,n,off,s,c,e,o,M,rfl,(rk_get (hg n (by rw[rdF,if_neg (by omega)]; simp[idsV]))).trans h2,by omega,h4⟩⟩
theorem RdAt.ne (h:RdAt H sz v vs cnt):∀ n∈rdF v cnt,H.get n≠none/\n<H.next:=by
 obtain⟨h1,⟨rfl,a,c,rfl⟩|⟨h0,n,off,s,c,e,o,M,rfl,h2,h3,h4⟩⟩:=h
 ·intro n hn; simp[rdF]at hn
 ·intro m hm
  rw[rdF,if_neg (by omega)]at hm
  simp only[idsV,zA4]at hm
  subst hm
  exact⟨rk_ne h2,h3⟩
theorem RdAt.mod0 (h:RdAt H sz v vs cnt) (m:Mod [] H G):RdAt G sz v vs cnt:=h.of m.next fun n hn=>m.get n (h.ne n hn).2 (by simp)
theorem RdAt.ext {L:List Bl} (h:RdAt H sz v vs cnt):RdAt (Go.Ax.ext H L) sz v vs cnt:=h.of (by rw[ext_next]; omega) fun n hn=>ext_get_old (h.ne n hn).2
theorem VsAt.rd {e:TypeId} (h:VsAt H e sz v vs cnt):RdAt H sz v vs cnt:=by
 obtain⟨h1,h2,⟨rfl,rfl⟩|⟨h0,n,rfl,hb,hlt⟩⟩:=h
 ·exact⟨h1,.inl ⟨rfl,_,_,rfl⟩⟩
 ·exact⟨h1,.inr ⟨h0,n,0,none,cnt,e,true,vs,rfl,rk_of hb,hlt,by omega,by rw[zF0,zE8 (by omega)]⟩⟩
theorem SlAt.rd (h:SlAt H sz v vs cnt):RdAt H sz v vs cnt:=by
 obtain⟨h1,a,c,rfl,h0|⟨n,e,rfl,hn,hb,hc⟩⟩:=h
 ·subst h0; exact⟨h1,.inl ⟨rfl,_,_,rfl⟩⟩
 ·by_cases h0:cnt=0
  ·subst h0; exact⟨h1,.inl ⟨rfl,_,_,rfl⟩⟩
  ·exact⟨h1,.inr ⟨by omega,n,0,some 0,c,e,true,vs,rfl,hb,hn,by omega,by rw[zF0,zE8 (by omega)]⟩⟩
theorem RdAt.at_ (h:RdAt H sz v vs cnt) {i:Nat} (hi:i<cnt):∃ n off s c e o M,v=.slice (some ⟨n,off,s⟩) cnt c/\n<H.next/\rk H n=some ⟨e,o,M⟩/\off+i*sz+sz<=M.length/\(M.drop (off+i*sz)).take sz=(vs.drop (i*sz)).take sz:=by
 obtain⟨h1,⟨rfl,_⟩|⟨h0,n,off,s,c,e,o,M,rfl,h2,h3,h4,h5⟩⟩:=h
 ·omega
 have hm:i*sz+sz<=cnt*sz:=by rw[<-Nat.succ_mul]; exact Nat.mul_le_mul_right _ hi
 refine⟨n,off,s,c,e,o,M,rfl,h3,h2,by omega,?_⟩
 rw[<-h5,List.drop_take,List.drop_drop,List.take_take,Nat.min_eq_left (by omega)]
theorem RdAt.one (h:RdAt H 1 v vs cnt) {i:Nat} (hi:i<cnt):∃ n off s c e o M,v=.slice (some ⟨n,off,s⟩) cnt c/\n<H.next/\rk H n=some ⟨e,o,M⟩/\M[off+i]?=vs[i]?:=by
 obtain⟨n,off,s,c,e,o,M,h1,h2,h3,h4,h5⟩:=h.at_ hi
 refine⟨n,off,s,c,e,o,M,h1,h2,h3,?_⟩
 rw[zD0]at h5
 have:=congrArg (fun l=>l[0]?) h5
 simpa using this
theorem RdAt.all (h:RdAt H 1 v vs cnt) (h0:0<cnt):∃ n off s c e o M,v=.slice (some ⟨n,off,s⟩) cnt c/\n<H.next/\rk H n=some ⟨e,o,M⟩/\∀ i,i<cnt->M[off+i]?=vs[i]?:=by
 obtain⟨h1,⟨rfl,_⟩|⟨_,n,off,s,c,e,o,M,rfl,h2,h3,h4,h5⟩⟩:=h
 ·omega
 refine⟨n,off,s,c,e,o,M,rfl,h3,h2,fun i hi=>?_⟩
 rw[<-h5,zD0,List.getElem?_take,if_pos hi,List.getElem?_drop]
theorem ia_of {t e:TypeId} {k:IntKind} {i n off len cap:Nat} {s:Option Nat} (hu:P.underlying t=some (.slice e)) (hs:szOf P e=some sz) (hi:i<len) :
  aIndexAddr P t (.slice (some ⟨n,off,s⟩) len cap) (.int k (i:Int))=some (.pointer (some ⟨n,off+i*sz,none⟩)):=by
 simp only[aIndexAddr,hu,hs,zA1,zA3,zB5]
 rw[if_pos ⟨by omega,by omega⟩]
theorem w_cat {ro:Option Nat} {N:Nat} {E:Env} {ds:List Deferred} {ops:Array Oper} {rest:List Oper} {d:Nat} {ty:TypeId} {pos:String} {after:Array Edge} {Q:Exit->AAct->AHeap->Prop} {t u:TypeId} {x y:Operand} {a b:ByteArray} (hu:P.underlying t=some .string) (hx:opOk P N x=true) (hy:opOk P N y=true) (hp:opv E x=.string a) (hq:opv E y=.string b) (hd:d<N) (hs:a.size+b.size<=1000000000)
  (h:wpOps P ro ops rest (mkA N (upd E d (.string (a++b))) ds) H Q):wpOps P ro ops (⟨some d,.binOp .add t x y u,ty,pos,after,none⟩::rest) (mkA N E ds) H Q:=by
 have h0:aBin P H .add t (.string a) (.string b)=none:=by
  have:aEq P H (99+1) t (.string a) (.string b)=none:=by
   unfold aEq
   rw[hu]
  show (aEq P H (99+1) t (.string a) (.string b)).bind _=none
  rw[this]
  rfl
 have:=w_plain (ro:=ro) (H:=H) (ds:=ds) (ops:=ops) (rest:=rest) (ty:=ty) (pos:=pos) (after:=after) (Q:=Q) (u:=u) hx hy hp hq hd h0 rfl rfl (v:=.string (a++b)) (by
  have hs2:¬((9223372036854775807:Int)<(a.size:Int)+(b.size:Int)):=by omega
  simp[eqGuard,binOp,Op.stringOp,pure,bind,Sem.bind,hs2]
  rfl) rfl
 rw[this]
 exact h
theorem aop_plain {N:Nat} {E:Env} {ds:List Deferred} {op:BinOp} {t u:TypeId} {x y:Operand} {p q v:Value} (hx:opOk P N x=true) (hy:opOk P N y=true) (hp:opv E x=p) (hq:opv E y=q) (G:AHeap) (h0:aBin P G op t p q=none) (h1:af p=true) (h2:af q=true) (h:peval P (do eqGuard op t x y p q; binOp op t p q)=some v) (h3:af v=true) :
  aop (.binOp op t x y u) P (mkA N E ds) G=some (.value v,G):=by
 simp only[aop,xBin,aeval_opv hx,aeval_opv hy,hp,hq,zA1,zA3,binV,h0,h1,h2,aPlain,h,h3,zC9,if_true,zA6]
theorem wd_or {N:Nat} {E:Env} {ds:List Deferred} {ops:Array Oper} {anc:List Nat} {rest:List Oper} {d i:Nat} {fps:List Fp} {ty:TypeId} {pos:String} {after:Array Edge} {Q:AAct->AHeap->Prop} {t u:TypeId} {x y:Operand} {k:IntKind} {a b:Int} (hx:opOk P N x=true) (hy:opOk P N y=true) (hp:opv E x=.int k a) (hq:opv E y=.int k b) (hd:d<N)
  (h:wkD P ops anc rest (i+1) (⟨i,[],[],H.next,H.next⟩::fps) (mkA N (upd E d (.int k (bOr k a b))) ds) H Q):wkD P ops anc (⟨some d,.binOp .or t x y u,ty,pos,after,none⟩::rest) i fps (mkA N E ds) H Q:=by
 refine wd_same ?_ (fun G=>?_) rfl hd h
 ·funext K
  simp only[stepD,pureOp,aeval_opv hx,aeval_opv hy,hp,hq,binD,regBin,intBin,ite_self]
 ·exact aop_plain hx hy hp hq G (by simp only[aBin,if_true]; rfl) rfl rfl (by simp[eqGuard,binOp,peval,Op.intBits,bOr,pure,bind,Sem.bind]) rfl
theorem wd_shl {N:Nat} {E:Env} {ds:List Deferred} {ops:Array Oper} {anc:List Nat} {rest:List Oper} {d i:Nat} {fps:List Fp} {ty:TypeId} {pos:String} {after:Array Edge} {Q:AAct->AHeap->Prop} {t u:TypeId} {x y:Operand} {k k':IntKind} {a b:Int} (hx:opOk P N x=true) (hy:opOk P N y=true) (hp:opv E x=.int k a) (hq:opv E y=.int k' b) (hb:0<=b) (hd:d<N)
  (h:wkD P ops anc rest (i+1) (⟨i,[],[],H.next,H.next⟩::fps) (mkA N (upd E d (.int k (bShl k a b.toNat))) ds) H Q):wkD P ops anc (⟨some d,.binOp .shl t x y u,ty,pos,after,none⟩::rest) i fps (mkA N E ds) H Q:=by
 refine wd_same ?_ (fun G=>?_) rfl hd h
 ·funext K
  simp only[stepD,pureOp,aeval_opv hx,aeval_opv hy,hp,hq,binD,regBin,intBin,ite_self]
 ·exact aop_plain hx hy hp hq G (bin_nobit (by simp) (bit_shl hb)) rfl rfl (by simp[eqGuard,binOp,peval,Op.shift,bShl,pure,bind,Sem.bind,show ¬b<0 by omega]) rfl
theorem wd_appV {N:Nat} {E:Env} {ds:List Deferred} {ops:Array Oper} {anc:List Nat} {rest:List Oper} {d i:Nat} {fps:List Fp} {ty:TypeId} {pos:String} {after:Array Edge} {Q:AAct->AHeap->Prop} {args:List Operand} {st xt e:TypeId} {by1 n off cnt2 cap:Nat} {s:Option Nat} {z:Value} {b:Bl} {ws:List Value}
  (hu:P.underlying st=some (.slice e)) (hsz:szOf P e=some sz) (hby:bytesOf P e=some by1) (hz:zeroOf P e=some z) (hzl:z.cells.toList.length=sz) (hi:intTy P xt=some false)
  (ha:args.all (opOk P N)=true) (hargs:args.map (opv E)=[v,.slice (some ⟨n,off,s⟩) cnt2 cap]) (hd:d<N)
  (h:VsAt H e sz v vs cnt) (hb:rk H n=some b) (hn:n<H.next) (hle:off+cnt2*sz<=b.l.length) (hws:(b.l.drop off).take (cnt2*sz)=ws) (hone:ws.all one=true) (hc:0<cnt2) (hsm:small (cnt+cnt2) by1=true) (hsc:scbL H.next (vs++ws)=true) (hok:H.base<=H.next)
  (hm:∀ r∈fps,(anc.getD i 0).testBit r.i=true\/(r.hi<=r.lo/\(∀ k∈r.W,k∉n::idsV v)/\(∀ k∈r.F,k∉idsV v)))
  (hk:∀ Z D,VsAt Z e sz (.slice (some ⟨H.next,0,none⟩) (cnt+cnt2) (cnt+cnt2)) (vs++ws) (cnt+cnt2)->Mod (idsV v) H Z->(∀ k∈D,k∈idsV v)->Z.next=H.next+1 ->
   wkD P ops anc rest (i+1) (⟨i,n::idsV v,D,H.next,H.next+1⟩::fps) (mkA N (upd E d (.slice (some ⟨H.next,0,none⟩) (cnt+cnt2) (cnt+cnt2))) ds) Z Q) :
  wkD P ops anc (⟨some d,.call ⟨.builtin .append,⟨args⟩,⟨[st,xt]⟩⟩,ty,pos,after,none⟩::rest) i fps (mkA N E ds) H Q:=by
 rw[wd_app ha]
 have hF:∀ k∈n::idsV v,H.get k≠none/\k<H.next:=fun k hk=>by
  rcases zB0.1 hk with rfl|hk
  ·exact⟨rk_ne hb,hn⟩
  ·exact h.ne k hk
 have hrn:=restrict_next H (n::idsV v)
 have hv:=h.of (G:=H.restrict (n::idsV v)) (zF1 hrn.1.symm) (fun k hk=>by rw[restrict_get,if_pos (by simp[hk])])
 obtain⟨G,k1,k2,k3,k4,k5⟩:=vs_app (x:=H.next) (cap:=cap) hu hsz hby hz hzl hi hv (show rk (H.restrict (n::idsV v)) n=some b from (rk_get (by rw[restrict_get,if_pos (by simp)])).trans hb) hle hws hone hc hsm hrn.1 (by rw[hrn.1]; exact hsc)
 refine genV_modO (H:=H) (W:=idsV v) (n::idsV v) hok (fun k hk=>(hF k hk).1) (fun k hk=>(hF k hk).2) (fun k hk=>by simp[hk]) (app_op (v:=_) (G:=G) ha (by rw[hargs]; exact k1)) (k3 (by rw[hrn.1,hrn.2.1]; exact zB1 _)) hm fun Z D mZ hFZ hNZ hnZ hDZ=>?_
 rw[k4]at hnZ hNZ
 rw[k4]
 have:=hk Z D ?_ mZ hDZ hnZ
 ·simp only[put_some N E ds d _ hd]
  exact this
 ·obtain⟨j1,j2,⟨j0,_⟩|⟨j0,q,j3,j4,j5⟩⟩:=k2
  ·omega
  ·cases j3
   exact⟨j1,j2,.inr ⟨j0,H.next,rfl,(bk_get (hNZ _ (zB1 _) (by omega))).trans j4,by omega⟩⟩
theorem or_bytes (a b:Nat) (ha:a<256) (hb:b<256):bOr .i64 (a:Int) (bShl .i64 (b:Int) 8)=((a+256*b:Nat):Int):=by
 have h1:bShl .i64 (b:Int) 8=((256*b:Nat):Int):=by
  simp only[bShl,IntKind.wrap,IntKind.signed,IntKind.bits]
  simp
  omega
 rw[h1]
 have h2:∀ n:Nat,n<2 ^ 63->BitVec.ofInt 64 (n:Int)=BitVec.ofNat 64 n:=fun n _=>by simp
 have h3:(BitVec.ofNat 64 a ||| BitVec.ofNat 64 (256*b)).toNat=a+256*b:=by
  rw[BitVec.toNat_or,BitVec.toNat_ofNat,BitVec.toNat_ofNat,Nat.mod_eq_of_lt (by omega),Nat.mod_eq_of_lt (by omega)]
  have:=Nat.shiftLeft_add_eq_or_of_lt (a:=b) (b:=a) (i:=8) ha
  rw[Nat.shiftLeft_eq]at this
  rw[Nat.or_comm,show 256*b=b*2 ^ 8 by omega,<-this]
  omega
 have h4:bOr .i64 (a:Int) ((256*b:Nat):Int)=IntKind.i64.wrap ((BitVec.ofInt 64 (a:Int) ||| BitVec.ofInt 64 ((256*b:Nat):Int)).toNat:Int):=rfl
 rw[h4,h2 a (by omega),h2 (256*b) (by omega),h3]
 simp only[IntKind.wrap,IntKind.signed,IntKind.bits]
 simp
 omega
end
end Go.Ax
namespace Go.Proofs.YtnigelgcjfhghaaGreatDoor
open Go.Ax
abbrev Pure (f:FuncId) (args:List Value) (H:AHeap) (v:Value):Prop:=CallS Tryz.prog f args H (.ok v) H
abbrev w64 (n:Int):Int:=IntKind.i64.wrap n
theorem wrap_sm {n:Int} (h1:-4000000000000<n) (h2:n<4000000000000):w64 n=n:=by
 simp only[w64,IntKind.wrap,IntKind.signed,IntKind.bits]
 simp
 omega
theorem wrap_nat {n:Nat} (h:n<4000000000000):IntKind.i64.wrap (n:Int)=(n:Int):=wrap_sm (by omega) (by omega)
theorem wrap_succ {k:Nat} (h:k<1000000000):IntKind.i64.wrap ((k:Int)+1)=((k+1:Nat):Int):=by
 have:=wrap_sm (n:=(k:Int)+1) (by omega) (by omega)
 rw[show IntKind.i64.wrap ((k:Int)+1)=_ from this]; omega
def iv (l:List Int):List Value:=l.map (.int .i64)
def bv (l:List UInt8):List Value:=l.map fun b=>.int .u8 (b.toNat:Int)
theorem iv_get {l:List Int} {i:Nat}:(iv l)[i]?=l[i]?.map (.int .i64):=by simp[iv]
theorem bv_get {l:List UInt8} {i:Nat}:(bv l)[i]?=l[i]?.map fun b=>.int .u8 (b.toNat:Int):=by simp[bv]
theorem u35:Tryz.prog.underlying 35=some (.slice 3):=by kernel_rfl
theorem u23:Tryz.prog.underlying 23=some (.slice 5):=by kernel_rfl
theorem u42:Tryz.prog.underlying 42=some (.slice 59):=by kernel_rfl
theorem u9:Tryz.prog.underlying 9=some .string:=by kernel_rfl
theorem s3:szOf Tryz.prog 3=some 1:=by kernel_rfl
theorem s5:szOf Tryz.prog 5=some 1:=by kernel_rfl
theorem s59:szOf Tryz.prog 59=some 3:=by kernel_rfl
set_option maxRecDepth 100000
theorem fixed1_c (H:AHeap) (av:Value) (n:Nat) (s:ByteArray) (hn:bk H n=some ⟨9,false,[.string s]⟩) (hl:n<H.next):Pure 110 [av,.pointer (some ⟨n,0,none⟩)] H (.string s):=by
 obtain⟨b,hb⟩:=Go.Ax.exq H.next
 rw[hb]at hl
 refine callS_fn mixed Tryz.func110 rfl Tryz.ntmps110 (zB3 rfl) fun wf hsc=>?_
 simp only[hb,hn,hl,Tryz.results110,ruW,xF,ruU,entryE,Nat.reduceLT,Nat.reduceAdd,Nat.reduceEqDiff]
 exact Fin.pureE rfl rfl
theorem fin_str {P:Program} {f:FuncId} {args:List Value} {H:AHeap} {L:List Bl} {s:ByteArray} {v1:Value} (h:v1=.string s):Fin P f args H (.string s) H (.ok v1) (ext H L):=Fin.pureE h rfl
abbrev repB (l:List UInt8) (n:Nat):List UInt8:=Go.Lib.repeatL l n
theorem rep_len (l:List UInt8) (n:Nat):(repB l n).length=n*l.length:=Go.Lib.repeatL_length l n
theorem rep_small (a:ByteArray) (l:List UInt8) (n:Nat) (hn:n<=1000000) (hl:l.length<=2) (ha:a.size<=2):a.size+(⟨(repB l n).toArray⟩:ByteArray).size<=1000000000:=by
 have h1:(⟨(repB l n).toArray⟩:ByteArray).size=(repB l n).length:=rfl
 have h2:n*l.length<=n*2:=Nat.mul_le_mul_left n hl
 rw[h1,rep_len]
 omega
def guardR (args:List Int):List UInt8:=if args=[] then [110] else [110]++repB [107,116] (args.getD 0 0).toNat
def envR (args:List Int):List UInt8:=if args.length<2 then [107,110] else [107,110]++repB [105] (args.getD 1 0).toNat
theorem guards_c (H:AHeap) (av:Value) (args:List Int) (ha:RdAt H 1 av (iv args) args.length) (hs:args.getD 0 0<=1000000):Pure 84 [av] H (.string ⟨(guardR args).toArray⟩):=by
 obtain⟨b,hb⟩:=Go.Ax.exq H.next
 obtain⟨a0,c0,e0⟩:=ha.sl
 refine callS_fn mixed Tryz.func84 rfl Tryz.ntmps84 (zB3 rfl) fun wf hsc=>?_
 by_cases h0:args=[]
 ·rw[e0]
  have hd:decide ((args.length:Int)=0)=true:=by rw[h0]; rfl
  simp only[hd,Tryz.results84,ruW,xF,ruU,entryE,Nat.reduceLT,Nat.reduceEqDiff]
  refine fin_str ?_
  rw[guardR,if_pos h0]
 ·have hp:=List.length_pos_iff.2 h0
  have hd:decide ((args.length:Int)=0)=false:=decide_eq_false (by omega)
  obtain⟨n,off,s,c,e,o,M,e1,n1,r1,m1⟩:=ha.one hp
  rw[iv_get,zA5 hp,zA6]at m1
  have hg:args.getD 0 0=args[0]:=by rw[zA9,zA5 hp]; rfl
  have i0:aIndexAddr Tryz.prog 35 (.slice (some ⟨n,off,s⟩) args.length c) (.int .i64 0)=some (.pointer (some ⟨n,off+0,none⟩)):=ia_of (i:=0) u35 s3 hp
  have hmx:max (0:Int) args[0]=((args.getD 0 0).toNat:Int):=by rw[hg]; omega
  rw[e1]
  rw[hb]at n1
  simp only[hb,hd,i0,r1,n1,m1,hmx,qk_old,ruW,xF,ruU,entryE,Nat.reduceLT,Nat.reduceEqDiff]
  refine (repeat_s (ext H []) ⟨#[107,116]⟩ (args.getD 0 0).toNat (by show 2*_<=_; omega) (by omega)).to ?_
  simp only[ruW,ruU,Nat.reduceLT]
  refine w_cat (a:=⟨#[110]⟩) (b:=⟨(repB [107,116] (args.getD 0 0).toNat).toArray⟩) u9 rfl rfl rfl rfl (by decide) (rep_small _ _ _ (by omega) (by decide) (by decide)) ?_
  simp only[Tryz.results84,ruW,ruU,Nat.reduceLT]
  refine fin_str ?_
  rw[guardR,if_neg h0]
  rfl
theorem envs_c (H:AHeap) (av:Value) (args:List Int) (ha:RdAt H 1 av (iv args) args.length) (hs:args.getD 1 0<=1000000):Pure 85 [av] H (.string ⟨(envR args).toArray⟩):=by
 obtain⟨b,hb⟩:=Go.Ax.exq H.next
 obtain⟨a0,c0,e0⟩:=ha.sl
 refine callS_fn mixed Tryz.func85 rfl Tryz.ntmps85 (zB3 rfl) fun wf hsc=>?_
 by_cases h0:args.length<2
 ·rw[e0]
  have hd:decide ((args.length:Int)<2)=true:=decide_eq_true (by omega)
  simp only[hd,Tryz.results85,ruW,xF,ruU,entryE,Nat.reduceLT,Nat.reduceEqDiff]
  refine fin_str ?_
  rw[envR,if_pos h0]
 ·have hp:1<args.length:=by omega
  have hd:decide ((args.length:Int)<2)=false:=decide_eq_false (by omega)
  obtain⟨n,off,s,c,e,o,M,e1,n1,r1,m1⟩:=ha.one hp
  rw[iv_get,zA5 hp,zA6]at m1
  have hg:args.getD 1 0=args[1]:=by rw[zA9,zA5 hp]; rfl
  have i0:aIndexAddr Tryz.prog 35 (.slice (some ⟨n,off,s⟩) args.length c) (.int .i64 1)=some (.pointer (some ⟨n,off+1,none⟩)):=ia_of (i:=1) u35 s3 hp
  have hmx:max (0:Int) args[1]=((args.getD 1 0).toNat:Int):=by rw[hg]; omega
  rw[e1]
  rw[hb]at n1
  simp only[hb,hd,i0,r1,n1,m1,hmx,qk_old,ruW,xF,ruU,entryE,Nat.reduceLT,Nat.reduceEqDiff]
  refine (repeat_s (ext H []) ⟨#[105]⟩ (args.getD 1 0).toNat (by show 1*_<=_; omega) (by omega)).to ?_
  simp only[ruW,ruU,Nat.reduceLT]
  refine w_cat (a:=⟨#[107,110]⟩) (b:=⟨(repB [105] (args.getD 1 0).toNat).toArray⟩) u9 rfl rfl rfl rfl (by decide) (rep_small _ _ _ (by omega) (by decide) (by decide)) ?_
  simp only[Tryz.results85,ruW,ruU,Nat.reduceLT]
  refine fin_str ?_
  rw[envR,if_neg h0]
  rfl
def ShAt (H:AHeap) (s:Nat):Prop:=∀ i b,(shB s)[i]?=some b->bk H (s+i)=some b/\s+i<H.next
theorem ShAt.of {H G:AHeap} {s:Nat} (h:ShAt H s) (hn:H.next<=G.next) (hg:∀ n,s<=n->n<s+27->G.get n=H.get n):ShAt G s:=fun i b hb=>by
 obtain⟨h1,h2⟩:=h i b hb
 have hi:i<27:=by have:=(zE6.1 hb).1; simpa[shB]using this
 exact⟨(bk_get (hg _ (by omega) (by omega))).trans h1,by omega⟩
theorem ShAt.new {H:AHeap} {L:List Bl}:ShAt (ext (ext H (shB H.next)) L) H.next:=fun i b hb=>by
 have hi:i<27:=by have:=(zE6.1 hb).1; simpa[shB]using this
 have h1:(ext H (shB H.next)).next=H.next+27:=by rw[ext_next]; rfl
 refine⟨?_,by rw[ext_next,h1]; omega⟩
 rw[bk_old (by rw[h1]; omega),bk_at rfl (by simpa[shB]using hi)]
 exact hb
def kindsR (op:Nat) (args:List Int):List UInt8 :=
 match opsL[op]? with
 |some (_,some k)=>k.data.toList
 |some (_,none)=>if op=17 then guardR args else envR args
 |none=>[]
def cntR (op:Nat) (args:List Int):Int:=if op=17 then args.getD 0 0 else if op=24 then args.getD 1 0 else 0
theorem kinds_c (s:Nat) (op:Nat) (hop:op<28):∃ (f:FuncId) (ca:List Value) (F:List Nat),(shV s)[2*op+1]?=some (.func (.func f) ⟨[]⟩ ⟨ca⟩)/\hasBody Tryz.prog f=true/\(∀ n∈F,s<=n/\n<s+27) /\
  ∀ (H:AHeap) (av:Value) (args:List Int),(∀ i b,(shB s)[i]?=some b->s+i∈F->bk H (s+i)=some b/\s+i<H.next)->RdAt H 1 av (iv args) args.length->cntR op args<=1000000->Pure f (av::ca) H (.string ⟨(kindsR op args).toArray⟩):=by
 have fx:∀ (op j:Nat) (k:ByteArray) (nm:ByteArray),opsL[op]?=some (nm,some k)->(shV s)[2*op+1]?=some (fxV (s+j))->(shB s)[j]?=some ⟨9,false,[.string k]⟩->j<27->∃ (f:FuncId) (ca:List Value) (F:List Nat),(shV s)[2*op+1]?=some (.func (.func f) ⟨[]⟩ ⟨ca⟩)/\hasBody Tryz.prog f=true/\(∀ n∈F,s<=n/\n<s+27) /\
   ∀ (H:AHeap) (av:Value) (args:List Int),(∀ i b,(shB s)[i]?=some b->s+i∈F->bk H (s+i)=some b/\s+i<H.next)->RdAt H 1 av (iv args) args.length->cntR op args<=1000000->Pure f (av::ca) H (.string ⟨(kindsR op args).toArray⟩):=by
  intro op j k nm h1 h2 h3 h4
  refine⟨110,_,[s+j],h2,by kernel_rfl,fun n hn=>by simp only[zA4]at hn; omega,fun H av args hb _ _=>?_⟩
  obtain⟨b1,b2⟩:=hb j _ h3 (by simp)
  have:=fixed1_c H av (s+j) k b1 b2
  unfold kindsR
  rw[h1]
  exact this
 match op,hop with
 |0,_=>exact fx 0 1 _ _ rfl rfl rfl (by decide)
 |1,_=>exact fx 1 2 _ _ rfl rfl rfl (by decide)
 |2,_=>exact fx 2 3 _ _ rfl rfl rfl (by decide)
 |3,_=>exact fx 3 4 _ _ rfl rfl rfl (by decide)
 |4,_=>exact fx 4 5 _ _ rfl rfl rfl (by decide)
 |5,_=>exact fx 5 6 _ _ rfl rfl rfl (by decide)
 |6,_=>exact fx 6 7 _ _ rfl rfl rfl (by decide)
 |7,_=>exact fx 7 8 _ _ rfl rfl rfl (by decide)
 |8,_=>exact fx 8 9 _ _ rfl rfl rfl (by decide)
 |9,_=>exact fx 9 10 _ _ rfl rfl rfl (by decide)
 |10,_=>exact fx 10 11 _ _ rfl rfl rfl (by decide)
 |11,_=>exact fx 11 12 _ _ rfl rfl rfl (by decide)
 |12,_=>exact fx 12 13 _ _ rfl rfl rfl (by decide)
 |13,_=>exact fx 13 14 _ _ rfl rfl rfl (by decide)
 |14,_=>exact fx 14 15 _ _ rfl rfl rfl (by decide)
 |15,_=>exact fx 15 16 _ _ rfl rfl rfl (by decide)
 |16,_=>exact fx 16 17 _ _ rfl rfl rfl (by decide)
 |17,_=>exact⟨84,[],[],rfl,by kernel_rfl,fun n hn=>by simp at hn,fun H av args _ h1 h2=>guards_c H av args h1 h2⟩
 |18,_=>exact fx 18 18 _ _ rfl rfl rfl (by decide)
 |19,_=>exact fx 19 19 _ _ rfl rfl rfl (by decide)
 |20,_=>exact fx 20 20 _ _ rfl rfl rfl (by decide)
 |21,_=>exact fx 21 21 _ _ rfl rfl rfl (by decide)
 |22,_=>exact fx 22 22 _ _ rfl rfl rfl (by decide)
 |23,_=>exact fx 23 23 _ _ rfl rfl rfl (by decide)
 |24,_=>exact⟨85,[],[],rfl,by kernel_rfl,fun n hn=>by simp at hn,fun H av args _ h1 h2=>envs_c H av args h1 h2⟩
 |25,_=>exact fx 25 24 _ _ rfl rfl rfl (by decide)
 |26,_=>exact fx 26 25 _ _ rfl rfl rfl (by decide)
 |27,_=>exact fx 27 26 _ _ rfl rfl rfl (by decide)
 |n+28,h=>omega
structure Ins where
 pos:Int
 op:Int
 args:List Int
def readA (op:Nat):Nat->List Int->List UInt8->List Int × Option (List UInt8)
 |0,args,_=>(args,none)
 |f+1,args,rest =>
  if args.length<(kindsR op args).length then
   match rest with
   |a::b::r=>readA op f (args++[((a.toNat+256*b.toNat:Nat):Int)]) r
   |_=>(args,none)
  else (args,some rest)
theorem readA_fuel (op:Nat):∀ (f g:Nat) (args:List Int) (rest:List UInt8),rest.length<f->rest.length<g->readA op f args rest=readA op g args rest
 |0,_,_,_,h,_=>absurd h (by omega)
 |_,0,_,_,_,h=>absurd h (by omega)
 |f+1,g+1,args,rest,h1,h2=>by
  simp only[readA]
  split
  ·split
   ·exact readA_fuel op f g _ _ (by simp only[zA8]at h1; omega) (by simp only[zA8]at h2; omega)
   ·rfl
  ·rfl
def rdA (op:Nat) (args:List Int) (rest:List UInt8):List Int × Option (List UInt8):=readA op (rest.length+1) args rest
theorem rdA_done {op:Nat} {args:List Int} {rest:List UInt8} (h:¬args.length<(kindsR op args).length):rdA op args rest=(args,some rest):=by
 simp only[rdA,readA,if_neg h]
theorem rdA_end {op:Nat} {args:List Int} {rest:List UInt8} (h:args.length<(kindsR op args).length) (h2:rest.length<2):rdA op args rest=(args,none):=by
 simp only[rdA,readA,if_pos h]
 match rest,h2 with
 |[],_=>rfl
 |[_],_=>rfl
theorem rdA_more {op:Nat} {args:List Int} {a b:UInt8} {r:List UInt8} (h:args.length<(kindsR op args).length):rdA op args (a::b::r)=rdA op (args++[((a.toNat+256*b.toNat:Nat):Int)]) r:=by
 simp only[rdA]
 rw[readA,if_pos h]
 exact readA_fuel op _ _ _ _ (by simp only[zA8]; omega) (by omega)
theorem rdA_len (op:Nat):∀ (n:Nat) (args:List Int) (rest:List UInt8),rest.length<=n->args.length<=(rdA op args rest).1.length/\∀ r,(rdA op args rest).2=some r->r=rest.drop (2*((rdA op args rest).1.length-args.length))/\2*((rdA op args rest).1.length-args.length)<=rest.length:=by
 intro n
 induction n with
 |zero =>
  intro args rest h
  by_cases hk:args.length<(kindsR op args).length
  ·rw[rdA_end hk (by omega)]
   exact⟨zB1 _,fun r hr=>by cases hr⟩
  ·rw[rdA_done hk]
   exact⟨zB1 _,fun r hr=>by cases hr; simp⟩
 |succ n ih =>
  intro args rest h
  by_cases hk:args.length<(kindsR op args).length
  ·match rest,h with
   |[],_=>rw[rdA_end hk (by simp)]; exact⟨zB1 _,fun r hr=>by cases hr⟩
   |[_],_=>rw[rdA_end hk (by simp)]; exact⟨zB1 _,fun r hr=>by cases hr⟩
   |a::b::r,h =>
    rw[rdA_more hk]
    obtain⟨h1,h2⟩:=ih (args++[((a.toNat+256*b.toNat:Nat):Int)]) r (by simp only[zA8]at h; omega)
    simp only[zC6,zC7]at h1 h2
    refine⟨by omega,fun q hq=>?_⟩
    obtain⟨h3,h4⟩:=h2 q hq
    have e:2*((rdA op (args++[((a.toNat+256*b.toNat:Nat):Int)]) r).1.length-args.length)=2*((rdA op (args++[((a.toNat+256*b.toNat:Nat):Int)]) r).1.length-(args.length+1))+2:=by omega
    refine⟨?_,by simp only[zA8]; omega⟩
    rw[e,h3]
    simp
  ·rw[rdA_done hk]
   exact⟨zB1 _,fun r hr=>by cases hr; simp⟩
def decI:Nat->Nat->List UInt8->List (Ins × Int)
 |0,_,_=>[]
 |_+1,_,[]=>[]
 |f+1,pos,op::rest =>
  if 28<=op.toNat then [(⟨pos,op.toNat,[]⟩,5)] else
  match rdA op.toNat [] rest with
  |(args,none)=>[(⟨pos,op.toNat,args⟩,13)]
  |(args,some r)=>(⟨pos,op.toNat,args⟩,0)::decI f (pos+1+2*args.length) r
theorem decI_fuel:∀ (f g pos:Nat) (l:List UInt8),l.length<f->l.length<g->decI f pos l=decI g pos l
 |0,_,_,_,h,_=>absurd h (by omega)
 |_,0,_,_,_,h=>absurd h (by omega)
 |f+1,g+1,pos,[],h1,h2=>rfl
 |f+1,g+1,pos,op::rest,h1,h2=>by
  simp only[decI]
  split
  ·rfl
  ·split
   ·rfl
   ·rename_i args r he
    have:=(rdA_len op.toNat rest.length [] rest (zB1 _)).2 r (by rw[he])
    have hr:r.length<=rest.length:=by rw[this.1,List.length_drop]; omega
    simp only[zA8]at h1 h2
    rw[decI_fuel f g _ r (by omega) (by omega)]
def decA (pos:Nat) (l:List UInt8):List (Ins × Int):=decI (l.length+1) pos l
theorem decA_nil (pos:Nat):decA pos []=[]:=rfl
theorem decA_bad {pos:Nat} {op:UInt8} {rest:List UInt8} (h:28<=op.toNat):decA pos (op::rest)=[(⟨pos,op.toNat,[]⟩,5)]:=by simp only[decA,decI,if_pos h]
theorem decA_end {pos:Nat} {op:UInt8} {rest:List UInt8} {args:List Int} (h:¬28<=op.toNat) (h2:rdA op.toNat [] rest=(args,none)):decA pos (op::rest)=[(⟨pos,op.toNat,args⟩,13)]:=by simp only[decA,decI,if_neg h,h2]
theorem decA_ok {pos:Nat} {op:UInt8} {rest r:List UInt8} {args:List Int} (h:¬28<=op.toNat) (h2:rdA op.toNat [] rest=(args,some r)):decA pos (op::rest)=(⟨pos,op.toNat,args⟩,0)::decA (pos+1+2*args.length) r:=by
 have:=(rdA_len op.toNat rest.length [] rest (zB1 _)).2 r (by rw[h2])
 have hr:r.length<=rest.length:=by rw[this.1,List.length_drop]; omega
 simp only[decA]
 rw[decI,if_neg h]
 simp only[h2]
 rw[decI_fuel _ (r.length+1) _ _ (by simp only[zA8]; omega) (by omega)]
theorem rdA_small (op:Nat):∀ (n:Nat) (args:List Int) (rest:List UInt8),rest.length<=n->(∀ x∈args,0<=x/\x<=65535)->∀ x∈(rdA op args rest).1,0<=x/\x<=65535:=by
 intro n
 induction n with
 |zero =>
  intro args rest h ha
  by_cases hk:args.length<(kindsR op args).length
  ·rw[rdA_end hk (by omega)]; exact ha
  ·rw[rdA_done hk]; exact ha
 |succ n ih =>
  intro args rest h ha
  by_cases hk:args.length<(kindsR op args).length
  ·match rest,h with
   |[],_=>rw[rdA_end hk (by simp)]; exact ha
   |[_],_=>rw[rdA_end hk (by simp)]; exact ha
   |a::b::r,h =>
    rw[rdA_more hk]
    refine ih _ r (by simp only[zA8]at h; omega) fun x hx=>?_
    rcases zB7.1 hx with hx|hx
    ·exact ha x hx
    ·have h1:=a.toNat_lt; have h2:=b.toNat_lt
     simp only[zA4]at hx
     omega
  ·rw[rdA_done hk]; exact ha
theorem cntR_small {op:Nat} {args:List Int} (h:∀ x∈args,0<=x/\x<=65535):cntR op args<=65535:=by
 have key:∀ i,args.getD i 0<=65535:=fun i=>by
  rw[zA9]
  cases hi:args[i]? with
  |none=>simp
  |some x=>simpa using (h x (zF2 hi)).2
 unfold cntR
 split
 ·exact key 0
 ·split
  ·exact key 1
  ·omega
set_option maxRecDepth 100000
def opndR (x:Int):Bool:=decide (0<=x)&&decide (x<=65535)
theorem bytes_size (a:List UInt8):(⟨a.toArray⟩:ByteArray).size=a.length:=by
 show a.toArray.size=_
 simp
set_option maxRecDepth 100000
abbrev powD:DataW Unit:=Rows.laid_internal_strconv_uint64pow10
theorem pow_list:dc powD=Go.Lib.pow10Tab.map fun z=>Value.int .u64 z:=by kernel_rfl
set_option maxRecDepth 100000
abbrev fltV (e a:Int):Value:=.agg ⟨[.int .i64 e,.int .i64 a]⟩
theorem decodeLong_c (H:AHeap) (a:Option Addr) (n c:Nat) (hn:60000<n):Pure 24 [.slice a n c] H (.tuple #[.slice none 0 0,fltV 4 60000]):=by
 obtain⟨b,hb⟩:=Go.Ax.exq H.next
 have hd:decide ((60000:Int)<(n:Int))=true:=decide_eq_true (by omega)
 refine callS_fn mixed Tryz.func24 rfl Tryz.ntmps24 (zB3 rfl) fun wf hsc=>?_
 have hbase:H.base<=b:=hb▸wf.base
 simp only[hb,hbase,hd,Tryz.results24,ruW,putL,Nat.reduceLeDiff,xF,ruU,entryE,Nat.reduceLT,Nat.reduceAdd,Nat.reduceEqDiff]
 exact Fin.pureE rfl rfl
set_option maxRecDepth 100000
def encA (op:Int) (args:List Int):Int :=
 if op<0\/28<=op then 5 else
 if args.length<(kindsR op.toNat []).length then 5 else
 if (op=17/\opndR (args.getD 0 0)=false)\/(op=24/\opndR (args.getD 1 0)=false) then 3 else
 if args.length≠(kindsR op.toNat args).length then 5 else
 if args.all opndR then 0 else 3
theorem ix114 {b op:Nat} {nm kv:Value} (h:op<28) (h1:(shV b)[2*op]?=some nm) (h2:(shV b)[2*op+1]?=some kv):aIndex Tryz.prog 114 (.agg ⟨shV b⟩) (.int .i64 (op:Int))=some (.agg ⟨[nm,kv]⟩):=by
 have hu:Tryz.prog.underlying 114=some (.array 28 113):=by kernel_rfl
 have hs:szOf Tryz.prog 113=some 2:=by kernel_rfl
 have ht:aggT Tryz.prog 113=some true:=by kernel_rfl
 have e:((shV b).drop (2*op)).take 2=[nm,kv]:=by
  apply List.ext_getElem?
  intro i
  rw[List.getElem?_take]
  split
  ·rw[List.getElem?_drop]
   match i with
   |0=>exact h1
   |1=>exact h2
   |i+2=>omega
  ·rw[zE3 (by simp; omega)]
 simp only[aIndex,hu,hs,zA1,zA3,aPart,ht,zB5]
 rw[if_pos ⟨by omega,by omega⟩,Nat.mul_comm op 2,e]
theorem sc_agg3 {b:Nat} {i j:Int} {v:Value} (h:scb b (.agg ⟨[.int .i64 i,.int .i64 j,v]⟩)=true):scb b v=true:=by
 have:(true&&(true&&(scb b v&&true)))=true:=h
 simpa using this
theorem sh_len (b:Nat):(shV b).length=56:=by simp[shV]
set_option maxRecDepth 100000
abbrev Iv:=Ins × Value
def ivC (x:Iv):List Value:=[.int .i64 x.1.pos,.int .i64 x.1.op,x.2]
def ivV (x:Iv):Value:=.agg ⟨ivC x⟩
def insC (ls:List Iv):List Value:=ls.flatMap ivC
theorem insC_at:∀ {ls:List Iv} {i:Nat} {x:Iv},ls[i]?=some x->((insC ls).drop (i*3)).take 3=ivC x
 |y::r,0,x,h=>by
  simp only[zE9,Option.some.injEq]at h
  subst h
  rfl
 |y::r,i+1,x,h=>by
  rw[zD7]at h
  rw[show (i+1)*3=3+i*3 by omega,insC,zD1,List.drop_append,List.drop_eq_nil_of_le (by simp[ivC])]
  simp only[ivC,zA8,zC5,zD6]
  rw[show 3+i*3-(0+1+1+1)=i*3 by omega]
  exact insC_at h
structure InsRd (H:AHeap) (v:Value) (ls:List Iv):Prop where
 rd:RdAt H 3 v (insC ls) ls.length
 av:∀ x∈ls,RdAt H 1 x.2 (iv x.1.args) x.1.args.length
 sc:∀ x∈ls,scb H.next x.2=true
section
variable {H G : AHeap} {v : Value} {ls : List Iv}
theorem InsRd.mod0 (h:InsRd H v ls) (m:Mod [] H G):InsRd G v ls:=⟨h.rd.mod0 m,fun x hx=>(h.av x hx).mod0 m,fun x hx=>scb_mono m.next _ (h.sc x hx)⟩
theorem InsRd.one (h:InsRd H v ls) {i:Nat} {x:Iv} (hi:ls[i]?=some x):∃ n off s c e o M,v=.slice (some ⟨n,off,s⟩) ls.length c/\n<H.next/\rk H n=some ⟨e,o,M⟩/\aIndexAddr Tryz.prog 42 v (.int .i64 (i:Int))=some (.pointer (some ⟨n,off+i*3,none⟩))/\ldB Tryz.prog 59 (off+i*3) (some ⟨e,o,M⟩)=some (ivV x):=by
 have hl:=(zE6.1 hi).1
 obtain⟨n,off,s,c,e,o,M,rfl,h2,h3,h4,h5⟩:=h.rd.at_ hl
 rw[insC_at hi]at h5
 refine⟨n,off,s,c,e,o,M,rfl,h2,h3,ia_of u42 s59 hl,?_⟩
 have h1:aggT Tryz.prog 59=some true:=by kernel_rfl
 rw[ld_agg h1,s59,zA3,if_pos (by omega),h5]
 rfl
end
def encB (x:Ins):List UInt8:=x.op.toNat.toUInt8::x.args.flatMap fun a=>[a.toNat.toUInt8,(a.toNat / 256).toUInt8]
theorem encA_ok {op:Int} {args:List Int} (h:encA op args=0):0<=op/\op<28/\args.length=(kindsR op.toNat args).length/\∀ y∈args,0<=y/\y<=65535:=by
 unfold encA at h
 split at h
 ·cases h
 ·split at h
  ·cases h
  ·split at h
   ·cases h
   ·split at h
    ·cases h
    ·split at h
     ·rename_i h1 _ _ h4 h5
      rw[zD4]at h5
      refine⟨by omega,by omega,by omega,fun y hy=>?_⟩
      have:=h5 y hy
      simp only[opndR,zA7,decide_eq_true_eq]at this
      exact this
     ·cases h
end Go.Proofs.YtnigelgcjfhghaaGreatDoor
namespace Go.Ax
structure YldP (P:Program) (l:Nat) (α:Type) (enc:α->List Value) (go:α->Bool) (cap:Nat) (pre:α->Prop) where
 Inv:List α->List Nat->List Nat->AHeap->Prop
 sub:∀ {rs F W G},Inv rs F W G->∀ n∈W,n∈F
 dom:∀ {rs F W G},Inv rs F W G->∀ n∈F,G.get n≠none/\n<G.next
 loc:∀ {rs F W G G'},Inv rs F W G->G.next<=G'.next->(∀ n∈F,G'.get n=G.get n)->Inv rs F W G'
 step:∀ {rs F W G r},Inv rs F W G->(∀ x∈rs,go x=true)->rs.length<cap->G.base<=G.next->pre r->CallY P l (enc r) G (fun out G'=>out=.ok (.bool (go r))/\∃ F' W',Inv (rs++[r]) F' W' G'/\Mod W G G'/\(∀ n∈F',n∈F\/G.next<=n)/\(∀ n∈W',n∈W\/G.next<=n))
end Go.Ax
namespace Go.Proofs.YtnigelgcjfhghaaGreatDoor
open Go.Ax
set_option maxRecDepth 100000
abbrev bs (l:List UInt8):ByteArray:=⟨l.toArray⟩
end Go.Proofs.YtnigelgcjfhghaaGreatDoor
namespace Go.Ax
section
variable {P : Program} {ro : Option Nat} {H : AHeap} {N : Nat} {E : Env} {ds : List Deferred}
end
end Go.Ax
namespace Go.Proofs.YtnigelgcjfhghaaGreatDoor
open Go.Ax
set_option maxRecDepth 100000
structure BldAt (H:AHeap) (n:Nat) (v:Value) (l:List UInt8):Prop where
 bk:∃ a,(a=none\/a=some ⟨n,0,none⟩)/\bk H n=some ⟨110,false,[.pointer a,v]⟩
 lt:n<H.next
 vs:VsAt H 5 1 v (bv l) l.length
 ne:n∉idsV v
end Go.Proofs.YtnigelgcjfhghaaGreatDoor
namespace Go.Ax
section
variable {P : Program} {H : AHeap} {N : Nat} {E : Env} {ds : List Deferred} {ops : Array Oper} {anc : List Nat} {rest : List Oper} {d i : Nat} {fps : List Fp} {ty : TypeId} {pos : String} {after : Array Edge} {Q : AAct -> AHeap -> Prop}
end
end Go.Ax
namespace Go.Proofs.YtnigelgcjfhghaaGreatDoor
open Go.Ax
set_option maxRecDepth 100000
set_option maxRecDepth 100000
def encL (ls:List Ins):List UInt8:=ls.flatMap encB
end Go.Proofs.YtnigelgcjfhghaaGreatDoor
namespace Go.Ax
structure YldS (P:Program) (l:Nat) (α:Type) (enc:α->List Value) (go:α->Bool) (cap:Nat) (pre:List Nat->α->AHeap->Prop) where
 Inv:List α->List Nat->List Nat->AHeap->Prop
 sub:∀ {rs F W G},Inv rs F W G->∀ n∈W,n∈F
 dom:∀ {rs F W G},Inv rs F W G->∀ n∈F,G.get n≠none/\n<G.next
 loc:∀ {rs F W G G'},Inv rs F W G->G.next<=G'.next->(∀ n∈F,G'.get n=G.get n)->Inv rs F W G'
 step:∀ {rs F W G r},Inv rs F W G->(∀ x∈rs,go x=true)->rs.length<cap->G.base<=G.next->scbL G.next (enc r)=true->pre F r G->CallY P l (enc r) G (fun out G'=>out=.ok (.bool (go r))/\∃ F' W',Inv (rs++[r]) F' W' G'/\Mod W G G'/\(∀ n∈F',n∈F\/G.next<=n)/\(∀ n∈W',n∈W\/G.next<=n))
end Go.Ax
namespace Go.Proofs.YtnigelgcjfhghaaGreatDoor
open Go.Ax
set_option maxRecDepth 100000
abbrev It:=Ins × Value × Int
def encI (r:It):List Value:=[.agg ⟨[.int .i64 r.1.pos,.int .i64 r.1.op,r.2.1]⟩,.int .i64 r.2.2]
def goI (r:It):Bool:=decide (r.2.2=0)
def stI (r:It):Ins × Int:=(r.1,r.2.2)
def ArgA (H:AHeap) (av:Value) (args:List Int):Prop:=VsAt H 3 1 av (iv args) args.length
def preI (F:List Nat) (r:It) (G:AHeap):Prop:=ArgA G r.2.1 r.1.args/\∀ n∈idsV r.2.1,n∉F
structure ItI {lp:Nat} (Y:YldS Tryz.prog lp It encI goI 100000 preI) (H:AHeap) (b q sb:Nat) (bsv:Value) (l:List UInt8) (F0 W0:List Nat) (rs:List It) (F W:List Nat) (X:AHeap):Prop where
 inv:Y.Inv rs F W X
 m:Mod W0 H X
 wl:∀ n∈W,n∈W0\/b<=n
 fl:∀ n∈F,n∈F0\/b+28<=n
 lo:b+28<=X.next
 ok:X.base<=X.next
 sh:ShAt X b
 sbk:bk X (b+27)=some ⟨114,false,shV b⟩
 box:bk X q=some ⟨23,false,[bsv]⟩
 bs:RdAt X 1 bsv (bv l) l.length
 av:∀ r∈rs,ArgA X r.2.1 r.1.args/\∀ n∈idsV r.2.1,b+28<=n/\n∉F
 nd:(rs.flatMap fun r=>idsV r.2.1).Nodup
 go:∀ r∈rs,goI r=true
theorem ArgA.of {H G:AHeap} {av:Value} {args:List Int} (h:ArgA H av args) (hn:H.next<=G.next) (hg:∀ n∈idsV av,G.get n=H.get n):ArgA G av args:=VsAt.of h hn hg
theorem ArgA.ne {H:AHeap} {av:Value} {args:List Int} (h:ArgA H av args):∀ n∈idsV av,H.get n≠none/\n<H.next:=VsAt.ne h
theorem ArgA.rd {H:AHeap} {av:Value} {args:List Int} (h:ArgA H av args):RdAt H 1 av (iv args) args.length:=VsAt.rd h
section
variable {lp : Nat} {Y : YldS Tryz.prog lp It encI goI 100000 preI} {H : AHeap} {b q sb : Nat} {bsv : Value} {l : List UInt8} {F0 W0 : List Nat} {rs : List It} {F W : List Nat} {X X1 : AHeap}
theorem ItI.grow (I:ItI Y H b q sb bsv l F0 W0 rs F W X) (m:Mod [] X X1) (hq:q<X.next):ItI Y H b q sb bsv l F0 W0 rs F W X1 where
 inv:=Y.loc I.inv m.next fun n hn=>m.get n (Y.dom I.inv n hn).2 (by simp)
 m:=I.m.trans (m.mono (by simp))
 wl:=I.wl
 fl:=I.fl
 lo:=zC2 I.lo m.next
 ok:=m.ok I.ok
 sh:=I.sh.of m.next fun n _ h=>m.get n (by have:=I.lo; omega) (by simp)
 sbk:=(m.bk (by have:=I.lo; omega) (by simp)).trans I.sbk
 box:=(m.bk hq (by simp)).trans I.box
 bs:=I.bs.mod0 m
 av:=fun r hr=>⟨(I.av r hr).1.of m.next fun n hn=>m.get n ((I.av r hr).1.ne n hn).2 (by simp),(I.av r hr).2⟩
 nd:=I.nd
 go:=I.go
theorem ItI.more {r:It} {F' W':List Nat} (I:ItI Y H b q sb bsv l F0 W0 rs F W X) (hH:H.base<=H.next) (hbn:H.next=b) (hF0:∀ n∈F0,n<b) (hqF:q∉F0) (hql:q<b) (hbF:∀ n∈rdF bsv l.length,n∉F0/\n<b) (ha:ArgA X r.2.1 r.1.args) (hai:∀ n∈idsV r.2.1,b+28<=n/\n∉F) (han:∀ r'∈rs,∀ n∈idsV r'.2.1,n∉idsV r.2.1) (hnd:(idsV r.2.1).Nodup)
  (hinv:Y.Inv (rs++[r]) F' W' X1) (m:Mod W X X1) (hF:∀ n∈F',n∈F\/X.next<=n) (hW:∀ n∈W',n∈W\/X.next<=n) :
  Y.Inv (rs++[r]) F' W' X1/\Mod W0 H X1/\(∀ x∈rs++[r],ArgA X1 x.2.1 x.1.args/\∀ n∈idsV x.2.1,b+28<=n/\n∉F')/\((rs++[r]).flatMap fun x=>idsV x.2.1).Nodup/\(goI r=true->ItI Y H b q sb bsv l F0 W0 (rs++[r]) F' W' X1):=by
 have hnF:∀ n,n<b+28->n∉F0->n∉F:=fun n h1 h2 hn=>(I.fl n hn).elim h2 (by omega)
 have hnW:∀ n,n∉F->n∉W:=fun n h hn=>h (Y.sub I.inv n hn)
 have hav:∀ x∈rs++[r],ArgA X x.2.1 x.1.args/\∀ n∈idsV x.2.1,b+28<=n/\n∉F:=fun x hx=>by
  rcases zB7.1 hx with hx|hx
  ·exact I.av x hx
  ·rw[zA4]at hx
   subst hx
   exact⟨ha,hai⟩
 have hav1:∀ x∈rs++[r],ArgA X1 x.2.1 x.1.args/\∀ n∈idsV x.2.1,b+28<=n/\n∉F':=fun x hx=>by
  obtain⟨h1,h2⟩:=hav x hx
  refine⟨h1.of m.next fun n hn=>m.get n (h1.ne n hn).2 (hnW n (h2 n hn).2),fun n hn=>⟨(h2 n hn).1,fun hf=>?_⟩⟩
  rcases hF n hf with h|h
  ·exact (h2 n hn).2 h
  ·have:=(h1.ne n hn).2; omega
 have hmod:Mod W0 H X1:=I.m.step m hH fun n hn=>by rw[hbn]; exact I.wl n hn
 have hndup:((rs++[r]).flatMap fun x=>idsV x.2.1).Nodup:=by
  rw[List.flatMap_append,List.nodup_append]
  refine⟨I.nd,by simpa using hnd,fun n hn k hk e=>?_⟩
  subst e
  obtain⟨r',hr',hn'⟩:=List.mem_flatMap.1 hn
  exact han r' hr' n hn' (by simpa using hk)
 have hlo:=I.lo
 refine⟨hinv,hmod,hav1,hndup,fun hgo=>⟨hinv,hmod,fun n hn=>?_,fun n hn=>?_,zC2 I.lo m.next,m.ok I.ok,I.sh.of m.next fun n h1 h2=>m.get n (by omega) (hnW n (hnF n (by omega) (fun h=>by have:=hF0 n h; omega))),(m.bk (by omega) (hnW _ (hnF _ (by omega) (fun h=>by have:=hF0 _ h; omega)))).trans I.sbk,(m.bk (by omega) (hnW q (hnF q (by omega) hqF))).trans I.box,I.bs.of m.next fun n hn=>m.get n (by have:=(hbF n hn).2; omega) (hnW n (hnF n (by have:=(hbF n hn).2; omega) (hbF n hn).1)),hav1,hndup,fun x hx=>?_⟩⟩
 ·rcases hW n hn with h|h
  ·exact I.wl n h
  ·exact .inr (by omega)
 ·rcases hF n hn with h|h
  ·exact I.fl n h
  ·exact .inr (by omega)
 ·rcases zB7.1 hx with hx|hx
  ·exact I.go x hx
  ·rw[zA4]at hx
   subst hx
   exact hgo
end
theorem ia114 {n i:Nat} (h:i<28):aIndexAddr Tryz.prog 114 (.pointer (some ⟨n,0,none⟩)) (.int .i64 (i:Int))=some (.pointer (some ⟨n,2*i,none⟩)):=by
 have hu:Tryz.prog.underlying 114=some (.array 28 113):=by kernel_rfl
 have hs:szOf Tryz.prog 113=some 2:=by kernel_rfl
 simp only[aIndexAddr,hu,hs,zA1,zA3,zB5]
 rw[if_pos ⟨by omega,by omega⟩]
 simp only[Addr.add]
 split<;>simp<;>omega
theorem iter_c {lp:Nat} (Y:YldS Tryz.prog lp It encI goI 100000 preI) (H:AHeap) (q:Nat) (bsv:Value) (l:List UInt8) (F0 W0:List Nat) (hinv:Y.Inv [] F0 W0 H) (hok:H.base<=H.next) (hlp:lp<H.next) (hl:l.length<=60000)
  (hq:bk H q=some ⟨23,false,[bsv]⟩) (hqF:q∉F0) (hql:q<H.next) (hb:RdAt H 1 bsv (bv l) l.length) (hbF:∀ n∈rdF bsv l.length,n∉F0) :
  CallA Tryz.prog 82 [.func (.yield lp) ⟨[]⟩ ⟨[]⟩,.pointer (some ⟨q,0,none⟩)] H (fun out X=>out=.ok (.tuple #[])/\∃ rs F W,Y.Inv rs F W X/\rs.map stI=decA 0 l/\Mod W0 H X/\(∀ r∈rs,ArgA X r.2.1 r.1.args/\∀ n∈idsV r.2.1,H.next<=n/\n∉F)/\(rs.flatMap fun r=>idsV r.2.1).Nodup):=by
 obtain⟨b,hbn⟩:=Go.Ax.exq H.next
 obtain⟨ba,bc,rfl⟩:=hb.sl
 have hbase:H.base<=b:=hbn▸hok
 have hF0:∀ n∈F0,n<b:=fun n hn=>hbn▸(Y.dom hinv n hn).2
 rw[hbn]at hlp hql
 refine callE_fn mixed Tryz.func82 rfl Tryz.ntmps82 (zB3 rfl) ?_
 simp only[hbn,ruW,xF,ruU,entryE,Nat.reduceAdd]
 refine (shapes_c (ext H [])).to ?_
 simp only[hbn,hbase,zero114,ext_next,shB,shV,ruW,putL,Nat.reduceLeDiff,xF,ruU,Nat.reduceLT,Nat.reduceAdd,Nat.reduceEqDiff]
 refine w_env fun E hE=>?_
 have g0:E 0=.func (.yield lp) ⟨[]⟩ ⟨[]⟩:=by rw[hE]; rfl
 have g1:E 1=.pointer (some ⟨q,0,none⟩):=by rw[hE]; rfl
 have g3:E 3=.pointer (some ⟨b+27,0,none⟩):=by rw[hE]; rfl
 have g4:E 4=.int .i64 ((0:Nat):Int):=by rw[hE]; rfl
 clear hE
 have I0:ItI Y H b q (b+27) (.slice ba l.length bc) l F0 W0 [] F0 W0 (ext H (shB b++[⟨114,false,shV b⟩])):=by
  have hg:∀ n,n<b->(ext H (shB b++[⟨114,false,shV b⟩])).get n=H.get n:=fun n hn=>ext_get_old (by rw[hbn]; exact hn)
  have hnx:(ext H (shB b++[⟨114,false,shV b⟩])).next=b+28:=by rw[ext_next,hbn]; rfl
  refine⟨Y.loc hinv (by rw[hnx]; omega) (fun n hn=>hg n (hF0 n hn)),Mod.ext hok,fun n hn=>.inl hn,fun n hn=>.inl hn,by omega,by rw[ext_base,hnx]; omega,?_,?_,(bk_old (by rw[hbn]; exact hql)).trans hq,hb.ext,fun r hr=>by simp at hr,by simp,fun r hr=>by simp at hr⟩
  ·have:=ShAt.new (H:=H) (L:=[⟨114,false,shV b⟩])
   rw[ext_append,hbn]at this
   exact this
  ·rw[bk_at hbn (by simp[shB])]
   rfl
 generalize hX0:ext H _=X0
 have hX:X0=ext H (shB b++[⟨114,false,shV b⟩]):=hX0.symm
 rw[<-hX]at I0
 clear hX hX0
 obtain⟨bsv,hbv⟩:∃ bsv,bsv=Value.slice ba l.length bc:=⟨_,rfl⟩
 rw[<-hbv]at I0 hbF
 have hfin:∀ rs F W X,ItI Y H b q (b+27) bsv l F0 W0 rs F W X->rs.map stI=decA 0 l->∃ rs F W,Y.Inv rs F W X/\rs.map stI=decA 0 l/\Mod W0 H X/\(∀ r∈rs,ArgA X r.2.1 r.1.args/\∀ n∈idsV r.2.1,b<=n/\n∉F)/\(rs.flatMap fun r=>idsV r.2.1).Nodup:=fun rs F W X I h=>⟨rs,F,W,I.inv,h,I.m,fun r hr=>⟨(I.av r hr).1,fun n hn=>⟨by have:=((I.av r hr).2 n hn).1; omega,((I.av r hr).2 n hn).2⟩⟩,I.nd⟩
 refine w_loop (fun (z:Nat × List It × List Nat × List Nat) E' X=>ItI Y H b q (b+27) bsv l F0 W0 z.2.1 z.2.2.1 z.2.2.2 X/\z.1<=l.length/\z.2.1.length<=z.1/\z.2.1.map stI++decA z.1 (l.drop z.1)=decA 0 l/\E' 0=.func (.yield lp) ⟨[]⟩ ⟨[]⟩/\E' 1=.pointer (some ⟨q,0,none⟩)/\E' 3=.pointer (some ⟨b+27,0,none⟩)/\E' 4=.int .i64 (z.1:Int)) (fun z=>l.length-z.1) (0,[],F0,W0)
  ⟨I0,zC0 _,zB1 _,by simp,g0,g1,g3,g4⟩ ?_
 clear g0 g1 g3 g4 E I0
 rintro⟨pos,rs,F,W⟩ E X ⟨I,hpl,hrl,htot,g0,g1,g3,g4⟩
 simp only at I hpl hrl htot g4
 obtain⟨x,hx⟩:=Go.Ax.exq X.next
 have hxb:X.base<=x:=hx▸I.ok
 have hlo:=I.lo
 have hbox:=I.box
 have hqx:q<x:=by omega
 rw[hbv]at hbox
 rw[show X=ext X [] from rfl]
 by_cases hpe:pos=l.length
 ·have hd:decide ((pos:Int)<(l.length:Int))=false:=decide_eq_false (by omega)
  simp only[g1,g4,hx,hqx,hbox,hd,Tryz.results82,ruW,xF,ruU,Nat.reduceLT,Nat.reduceEqDiff]
  rw[hpe,List.drop_length,decA_nil,zE2]at htot
  rw[ext_nil]
  exact⟨trivial,hfin rs F W X I htot⟩
 ·have hlt:pos<l.length:=by omega
  have hd:decide ((pos:Int)<(l.length:Int))=true:=decide_eq_true (by omega)
  obtain⟨n,off,s,c,e,o,M,e1,n1,r1,m1⟩:=I.bs.one hlt
  rw[bv_get,zA5 hlt,zA6]at m1
  rw[hbv]at e1
  cases e1
  rw[hx]at n1
  have i0:=ia_of (P:=Tryz.prog) (k:=.i64) (i:=pos) (n:=n) (off:=off) (len:=l.length) (cap:=bc) (s:=s) u23 s5 hlt
  rw[zD0]at i0
  obtain⟨op,hop⟩:=Go.Ax.exq (l[pos])
  rw[hop]at m1
  have hcv:aConvert Tryz.prog (ext X []) 5 3 (.int .u8 (op.toNat:Int))=some (.int .i64 (op.toNat:Int),ext X []):=by
   rw[cv_int (u:=.int .u8) (k:=.i64) (by kernel_rfl) (by kernel_rfl),wrap_nat (by have:=op.toNat_lt; omega)]
  simp only[g1,g4,hx,hxb,hqx,hbox,hd,i0,n1,r1,m1,hcv,qk_old,w_convert,ruW,putL,Nat.reduceLeDiff,xF,ruU,Nat.reduceLT,Nat.reduceAdd,Nat.reduceEqDiff]
  have I':ItI Y H b q (b+27) (.slice (some ⟨n,off,s⟩) l.length bc) l F0 W0 rs F W X:=hbv▸I
  have I1:ItI Y H b q (b+27) (.slice (some ⟨n,off,s⟩) l.length bc) l F0 W0 rs F W (ext X [⟨59,false,[.int .i64 (pos:Int),.int .i64 (op.toNat:Int),.slice none 0 0]⟩]):=hbv▸I.grow (Mod.ext I.ok) (by omega)
  have mX1:Mod [] X (ext X [⟨59,false,[.int .i64 (pos:Int),.int .i64 (op.toNat:Int),.slice none 0 0]⟩]):=Mod.ext I.ok
  have k1:bk (ext X [⟨59,false,[.int .i64 (pos:Int),.int .i64 (op.toNat:Int),.slice none 0 0]⟩]) x=some ⟨59,false,[.int .i64 (pos:Int),.int .i64 (op.toNat:Int),.slice none 0 0]⟩:=by
   have:=bk_at (H:=X) (L:=[⟨59,false,[.int .i64 (pos:Int),.int .i64 (op.toNat:Int),.slice none 0 0]⟩]) (i:=0) hx (by simp)
   rw[zE0]at this
   exact this
  have nx1:(ext X [⟨59,false,[.int .i64 (pos:Int),.int .i64 (op.toNat:Int),.slice none 0 0]⟩]).next=x+1:=by rw[ext_next,hx]; rfl
  have hbv':∀ n∈rdF bsv l.length,n∉F0/\n<b:=fun n hn=>⟨hbF n hn,by rw[<-hbn]; exact (hb.ne n (by rw[<-hbv]; exact hn)).2⟩
  rw[hbv]at hbv'
  clear r1 m1 n1 i0 hcv
  generalize ext X [_]=X1 at I1 mX1 k1 nx1 ⊢
  obtain⟨d,hd2⟩:=Go.Ax.exq (decide ((28:Int)<=(op.toNat:Int)))
  have hdr:l.drop pos=op::l.drop (pos+1):=by rw[List.drop_eq_getElem_cons hlt,hop]
  rw[hdr]at htot
  have hxl:x<x+1:=zC4 x
  rw[show X1=ext X1 [] from rfl]
  cases d with
  |true =>
   have hbad:28<=op.toNat:=by have:=of_decide_eq_true hd2; omega
   rw[decA_bad hbad]at htot
   simp only[g0,hd2,nx1,k1,hxl,zE0,ruW,Nat.reduceLeDiff,xF,ruU,Nat.reduceLT,Nat.reduceAdd,Nat.reduceEqDiff]
   refine w_callY (l:=lp) rfl rfl rfl ?_
   simp only[ruU]
   refine (Y.step (r:=(⟨pos,op.toNat,[]⟩,.slice none 0 0,5)) I1.inv I1.go (by omega) I1.ok rfl ⟨VsAt.nil,fun n hn=>by simp[idsV]at hn⟩).mono ?_
   rintro _ G' ⟨rfl,F',W',h1,h2,h3,h4⟩
   obtain⟨j1,j2,j3,j4,_⟩:=I1.more (r:=(⟨pos,op.toNat,[]⟩,.slice none 0 0,5)) hok hbn hF0 hqF hql hbv' VsAt.nil (fun n hn=>by simp[idsV]at hn) (fun r' _ n hn h=>by simp[idsV]at h) (by simp[idsV]) h1 h2 h3 h4
   rw[show G'=ext G' [] from rfl]
   simp only[Tryz.results82,ruW,Nat.reduceLT]
   rw[ext_nil]
   refine⟨trivial,_,F',W',j1,?_,j2,fun r hr=>⟨(j3 r hr).1,fun n hn=>⟨by have:=((j3 r hr).2 n hn).1; omega,((j3 r hr).2 n hn).2⟩⟩,j4⟩
   rw[<-htot,zF5]
   rfl
  |false =>
   have hop28:op.toNat<28:=by have:=of_decide_eq_false hd2; omega
   have hFx:∀ k∈F,k<x:=fun k hk=>hx▸(Y.dom I.inv k hk).2
   have hw1:IntKind.i64.wrap ((pos:Int)+1)=((pos+1:Nat):Int):=wrap_succ (by omega)
   simp only[g4,hd2,hw1,ruW,ruU,Nat.reduceLT,Nat.reduceEqDiff]
   refine w_env fun E2 hE=>?_
   have g0':E2 0=.func (.yield lp) ⟨[]⟩ ⟨[]⟩:=by rw[hE]; simp only[g0,ruU,Nat.reduceEqDiff]
   have g1':E2 1=.pointer (some ⟨q,0,none⟩):=by rw[hE]; simp only[g1,ruU,Nat.reduceEqDiff]
   have g3':E2 3=.pointer (some ⟨b+27,0,none⟩):=by rw[hE]; simp only[g3,ruU,Nat.reduceEqDiff]
   have g5':E2 5=.pointer (some ⟨x,0,none⟩):=by rw[hE]; simp only[zE0,ruU,Nat.reduceEqDiff]
   have g4':E2 4=.int .i64 ((pos+1:Nat):Int):=by rw[hE]; (simp only[ruU]<;>rfl)
   clear hE g0 g1 g3 g4 E
   obtain⟨f,ca,Fk,hkv,hkb,hkF,hkc⟩:=kinds_c b op.toNat hop28
   refine blockC_meet (fun E' X2=>∃ args av pe,Mod [] X X2/\bk X2 x=some ⟨59,false,[.int .i64 (pos:Int),.int .i64 (op.toNat:Int),av]⟩/\x+1<=X2.next/\ArgA X2 av args/\(∀ k∈idsV av,x<k)/\rdA op.toNat [] (l.drop (pos+1))=(args,some (l.drop pe))/\pe=pos+1+2*args.length/\pe<=l.length/\E' 0=.func (.yield lp) ⟨[]⟩ ⟨[]⟩/\E' 1=.pointer (some ⟨q,0,none⟩)/\E' 3=.pointer (some ⟨b+27,0,none⟩)/\E' 5=.pointer (some ⟨x,0,none⟩)/\E' 4=.int .i64 (pe:Int)) ?_ ?_
   ·refine w_loop (fun (z:List Int × Value × Nat) E' X2=>Mod [] X X2/\bk X2 x=some ⟨59,false,[.int .i64 (pos:Int),.int .i64 (op.toNat:Int),z.2.1]⟩/\x+1<=X2.next/\ArgA X2 z.2.1 z.1/\(∀ k∈idsV z.2.1,x<k)/\(∀ y∈z.1,0<=y/\y<=65535)/\rdA op.toNat z.1 (l.drop z.2.2)=rdA op.toNat [] (l.drop (pos+1))/\z.2.2=pos+1+2*z.1.length/\z.2.2<=l.length/\E' 0=.func (.yield lp) ⟨[]⟩ ⟨[]⟩/\E' 1=.pointer (some ⟨q,0,none⟩)/\E' 3=.pointer (some ⟨b+27,0,none⟩)/\E' 5=.pointer (some ⟨x,0,none⟩)/\E' 4=.int .i64 (z.2.2:Int)) (fun z=>l.length-z.2.2) ([],.slice none 0 0,pos+1)
     ⟨mX1,k1,by rw[ext_next,nx1]; simp,VsAt.nil,fun k hk=>by simp[idsV]at hk,fun y hy=>by simp at hy,rfl,rfl,by simp only; omega,g0',g1',g3',g5',g4'⟩ ?_
    clear g0' g1' g3' g4' g5' E2 I1 k1 nx1 mX1 X1 hxl
    rintro⟨args,av,pe⟩ E X2 ⟨m2,k2,nx2,ha,hai,hsm,hrd,hpe,hpos,g0,g1,g3,g5,g4⟩
    simp only at k2 ha hai hsm hrd hpe hpos g4
    have I2:=I'.grow m2 (by omega)
    obtain⟨y,hy⟩:=Go.Ax.exq X2.next
    rw[hy]at nx2
    have hyb:X2.base<=y:=hy▸I2.ok
    have hxy:x<y:=by omega
    have hsby:b+27<y:=by have:=I2.lo; omega
    have hqy:q<y:=by have:=I2.lo; omega
    obtain⟨a1,ea⟩:=ha.len
    have i1:aIndexAddr Tryz.prog 114 (.pointer (some ⟨b+27,0,none⟩)) (.int .i64 (op.toNat:Int))=some (.pointer (some ⟨b+27,2*op.toNat,none⟩)):=ia114 hop28
    have hsbk:=I2.sbk
    rw[show X2=ext X2 [] from rfl]
    rw[ea]at k2
    rw[w_seq,w_seq]
    refine w_drawB [] [] (by kernel_rfl) (by kernel_rfl) rfl fun ops anc hA hG=>?_
    simp only[g3,g5,hy,hxy,hsby,k2,hsbk,i1,hkv,ruD,ruW,xF,ruU,Nat.reduceLT,Nat.reduceAdd,Nat.reduceEqDiff]
    have hFr:∀ k∈rdF av args.length++Fk,(ext X2 []).get k≠none:=fun k hk=>by
     rcases zB7.1 hk with hk|hk
     ·exact (ha.rd.ne k hk).1
     ·have hkk:=hkF k hk
      obtain⟨j,rfl⟩:∃ j,k=b+j:=⟨k-b,by omega⟩
      exact bk_ne (I2.sh j _ (zA5 (by simp[shB]; omega))).1
    have hcall:∀ G:AHeap,G.next=(ext X2 []).next->(∀ k∈rdF av args.length++Fk,G.get k=(ext X2 []).get k)->CallS Tryz.prog f (av::ca) G (.ok (.string ⟨(kindsR op.toNat args).toArray⟩)) G:=fun G hG hg =>
     hkc G av args (fun i' b' h1 h2=>by
      obtain⟨h3,h4⟩:=I2.sh i' b' h1
      exact⟨(bk_get (hg _ (List.mem_append_right _ h2))).trans h3,by rw[hG]; exact h4⟩) (ha.rd.of (zF1 hG.symm) fun k hk=>hg k (List.mem_append_left _ hk)) (by have:=cntR_small (op:=op.toNat) hsm; omega)
    rw[ea]at hcall hFr
    refine genV_quietV (v:=.string ⟨(kindsR op.toNat args).toArray⟩) (ca:=ca) (rdF (.slice a1 args.length args.length) args.length++Fk) rfl rfl rfl hkb (by decide) hFr (fun G hG hg=>by simp only[ruU]; exact hcall G hG hg) (by simp[Meets]) ?_
    have hks:(⟨(kindsR op.toNat args).toArray⟩:ByteArray).size=(kindsR op.toNat args).length:=rfl
    obtain⟨dk,hdk⟩:=Go.Ax.exq (decide ((args.length:Int)<((kindsR op.toNat args).length:Int)))
    simp only[hy,rb_lenStr u9,hks,hdk,ruD,ruW,ruU,Nat.reduceLT,Nat.reduceAdd,Nat.reduceEqDiff]
    cases dk with
    |false =>
     have hnk:¬args.length<(kindsR op.toNat args).length:=by have:=of_decide_eq_false hdk; omega
     rw[rdA_done hnk]at hrd
     simp only[ruW]
     refine joinR_normal ?_
     refine⟨args,av,pe,m2,?_,?_,ha,hai,hrd.symm,by omega,hpos,?_,?_,?_,?_,?_⟩
     ·rw[ea]; exact k2
     ·rw[ext_nil,hy]; exact nx2
     all_goals simp only[g0,g1,g3,g4,g5,ruU,Nat.reduceEqDiff]
    |true =>
     have hyk:args.length<(kindsR op.toNat args).length:=by have:=of_decide_eq_true hdk; omega
     have hbox2:=I2.box
     have hw2:IntKind.i64.wrap ((pe:Int)+2)=((pe+2:Nat):Int):=(wrap_sm (by omega) (by omega)).trans (by omega)
     obtain⟨de,hde⟩:=Go.Ax.exq (decide ((l.length:Int)<((pe+2:Nat):Int)))
     simp only[g1,g4,hy,hqy,hbox2,hw2,hde,ruW,xF,ruU,Nat.reduceLT,Nat.reduceEqDiff]
     cases de with
     |true =>
      have hle:l.length<pe+2:=by have:=of_decide_eq_true hde; omega
      have hrl:(l.drop pe).length<2:=by rw[List.length_drop]; omega
      rw[rdA_end hyk hrl]at hrd
      rw[decA_end (by omega) hrd.symm]at htot
      simp only[g0,g5,hy,hxy,k2,ruW,Nat.reduceLeDiff,xF,ruU,Nat.reduceLT,Nat.reduceAdd,Nat.reduceEqDiff]
      refine w_callY (l:=lp) rfl rfl rfl ?_
      simp only[ruU]
      have hsc:scbL X2.next (encI (⟨pos,op.toNat,args⟩,.slice a1 args.length args.length,13))=true:=by
       have h1:=VsAt.sc ha
       rw[ea]at h1
       simp only[encI,scbL,scb,scbA,h1,zC9]
      refine (Y.step (r:=(⟨pos,op.toNat,args⟩,.slice a1 args.length args.length,13)) I2.inv I2.go (by omega) I2.ok hsc ⟨by rw[<-ea]; exact ha,fun n hn hf=>by rw[<-ea]at hn; have:=hai n hn; have:=hFx n hf; omega⟩).mono ?_
      rintro _ G' ⟨rfl,F',W',h1,h2,h3,h4⟩
      rw[ea]at ha hai
      obtain⟨j1,j2,j3,j4,_⟩:=I2.more (r:=(⟨pos,op.toNat,args⟩,.slice a1 args.length args.length,13)) hok hbn hF0 hqF hql hbv' ha (fun n hn=>⟨by have:=hai n hn; omega,fun hf=>by have:=hFx n hf; have:=hai n hn; omega⟩) (fun r' hr' n hn h=>by have h5:=((I.av r' hr').1.ne n hn).2; have h6:=hai n h; omega) (by cases a1<;>simp[idsV]) h1 h2 h3 h4
      rw[show G'=ext G' [] from rfl]
      simp only[Tryz.results82,joinR_ret,ruW,Nat.reduceLT]
      rw[ext_nil]
      refine⟨trivial,_,F',W',j1,?_,j2,fun r hr=>⟨(j3 r hr).1,fun n hn=>⟨by have:=((j3 r hr).2 n hn).1; omega,((j3 r hr).2 n hn).2⟩⟩,j4⟩
      rw[<-htot,zF5]
      rfl
     |false =>
      have hge:pe+2<=l.length:=by have:=of_decide_eq_false hde; omega
      obtain⟨n',off',s',c',e',o',M2,e1,n1,r1,mb2⟩:=I2.bs.all (by omega)
      cases e1
      have hm1:=mb2 pe (by omega)
      have hm2:=mb2 (pe+1) (by omega)
      obtain⟨c0,hc0⟩:∃ c0,l[pe]?=some c0:=⟨_,zA5 (by omega)⟩
      obtain⟨c1,hc1⟩:∃ c1,l[pe+1]?=some c1:=⟨_,zA5 (by omega)⟩
      rw[bv_get,hc0,zA6]at hm1
      rw[bv_get,hc1,zA6]at hm2
      rw[hy]at n1
      have i2:=ia_of (P:=Tryz.prog) (k:=.i64) (i:=pe) (n:=n) (off:=off) (len:=l.length) (cap:=bc) (s:=s) u23 s5 (by omega)
      have i3:=ia_of (P:=Tryz.prog) (k:=.i64) (i:=pe+1) (n:=n) (off:=off) (len:=l.length) (cap:=bc) (s:=s) u23 s5 (by omega)
      rw[zD0]at i2 i3
      have hw3:IntKind.i64.wrap ((pe:Int)+1)=((pe+1:Nat):Int):=wrap_succ (by omega)
      have hb0:=c0.toNat_lt
      have hb1:=c1.toNat_lt
      have hor:=or_bytes c0.toNat c1.toNat (by omega) (by omega)
      simp only[ruW]
      refine w_drawB [(16,1),(16,2),(16,5),(16,6),(16,7),(16,11),(16,12),(16,13),(16,14),(16,15),(18,6),(18,12),(18,13),(18,14),(18,1),(18,2),(18,5),(18,7),(18,11),(18,15),(18,16)] [] (by kernel_rfl) (by kernel_rfl) rfl fun ops anc hA hG=>?_
      simp only[all2_cons]at hA
      simp only[g1,g4,g5,hy,hxy,hqy,k2,hbox2,i2,r1,n1,hm1,qk_old,ruD,ruW,xF,ruU,Nat.reduceLT,Nat.reduceAdd,Nat.reduceEqDiff]
      refine wd_cvint (u:=.int .u8) (k:=.i64) (k0:=.u8) (n:=(c0.toNat:Int)) rfl (by decide) (by kernel_rfl) (by kernel_rfl) rfl ?_
      rw[show IntKind.i64.wrap (c0.toNat:Int)=(c0.toNat:Int) from wrap_nat (by omega)]
      simp only[g1,g4,hy,hqy,hbox2,i3,hw3,r1,n1,hm2,qk_old,ruD,ruW,xF,ruU,Nat.reduceLT,Nat.reduceAdd,Nat.reduceEqDiff]
      refine wd_cvint (u:=.int .u8) (k:=.i64) (k0:=.u8) (n:=(c1.toNat:Int)) rfl (by decide) (by kernel_rfl) (by kernel_rfl) rfl ?_
      rw[show IntKind.i64.wrap (c1.toNat:Int)=(c1.toNat:Int) from wrap_nat (by omega)]
      refine wd_shl (k:=.i64) (k':=.u64) (a:=(c1.toNat:Int)) (b:=8) rfl rfl rfl rfl (by decide) (by decide) ?_
      rw[show (8:Int).toNat=8 from rfl]
      refine wd_or (k:=.i64) (a:=(c0.toNat:Int)) (b:=bShl .i64 (c1.toNat:Int) 8) rfl rfl rfl rfl (by decide) ?_
      rw[hor]
      simp only[hy,ruD,ruW,xF,ruU,Nat.reduceLT,Nat.reduceAdd]
      obtain⟨cv,hcv⟩:∃ cv:Int,((c0.toNat+256*c1.toNat:Nat):Int)=cv:=⟨_,rfl⟩
      rw[hcv]
      generalize hY:ext X2 _=Y
      have mY:Mod [] X2 Y:=hY▸Mod.ext I2.ok
      have nY:Y.next=y+1:=by rw[<-hY,ext_next,hy]; rfl
      have kY:bk Y (y+0)=some ⟨3,false,[.int .i64 cv]⟩:=by rw[<-hY,bk_at hy (by simp)]; rfl
      have okY:=mY.ok I2.ok
      rw[ea]at ha hai
      have haY:ArgA Y (.slice a1 args.length args.length) args:=ha.of mY.next fun k hk=>mY.get k (ha.ne k hk).2 (by simp)
      have hlen6:args.length<=60000:=by omega
      refine wd_appV (v:=.slice a1 args.length args.length) (vs:=iv args) (cnt:=args.length) (sz:=1) (e:=3) (by1:=8) (n:=y+0) (off:=0) (cnt2:=1) (cap:=1) (s:=some 0) (z:=.int .i64 0) (ws:=[.int .i64 cv]) u35 s3 (by kernel_rfl) (by kernel_rfl) rfl (by kernel_rfl) rfl rfl (by decide) haY (rk_of kY) (by omega) (by simp) rfl rfl (by decide)
       (by simp only[small,zA7,zD9]; omega) (scbL_append (by rw[scbL_iff]; intro v' hv'; obtain⟨w',_,rfl⟩:=zD5.1 hv'; rfl) rfl) okY (by simp only[all2_cons,all2_nil,hA,true_or,and_true]) fun Z D vZ mZ hD nZ=>?_
      rw[nY]at nZ vZ ⊢
      have mXZ:Mod (idsV (.slice a1 args.length args.length)) X2 Z:=(mY.mono (by simp)).trans mZ
      have hxn:x∉idsV (.slice a1 args.length args.length):=fun h=>by have:=hai x h; omega
      have kx:bk Z x=some ⟨59,false,[.int .i64 (pos:Int),.int .i64 (op.toNat:Int),.slice a1 args.length args.length]⟩:=(mXZ.bk (by omega) hxn).trans k2
      have hxz:x<y+1+1:=by omega
      have hyz:y+1<y+1+1:=by omega
      rw[show Z=ext Z [] from rfl]
      simp only[g4,g5,nZ,kx,hxz,hyz,hw2,hA,ruD,ruW,putL,Nat.reduceLeDiff,xF,ruU,Nat.reduceLT,Nat.reduceAdd,Nat.reduceEqDiff]
      refine⟨⟨.inr (.inl (by omega)),.inr (.inl (by omega))⟩,?_⟩
      generalize hU:uw Z x 2 _=U
      have mU:Mod [x] Z U:=hU▸Mod.uw (by simp)
      have kU:bk U x=some ⟨59,false,[.int .i64 (pos:Int),.int .i64 (op.toNat:Int),.slice (some ⟨y+1,0,none⟩) (args.length+1) (args.length+1)]⟩:=by rw[<-hU,bk_uw_eq,kx]; rfl
      have mXU:Mod [] X U:=by
       refine m2.step (W':=x::idsV (.slice a1 args.length args.length)) ((mXZ.mono (fun k hk=>zB9 _ hk)).trans (mU.mono (by simp))) I.ok fun k hk=>.inr ?_
       rcases zB0.1 hk with rfl|hk
       ·omega
       ·have:=hai k hk; omega
      have nU:=mU.next
      have hdrp:l.drop pe=c0::c1::l.drop (pe+2):=by
       rw[List.drop_eq_getElem_cons (show pe<l.length by omega),List.drop_eq_getElem_cons (show pe+1<l.length by omega)]
       rw[zA5 (by omega)]at hc0 hc1
       rw[Option.some.inj hc0,Option.some.inj hc1]
      rw[hdrp,rdA_more hyk,hcv]at hrd
      refine loopC_next ⟨(args++[cv],.slice (some ⟨y+1,0,none⟩) (args.length+1) (args.length+1),pe+2),by simp only; omega,mXU,kU,by rw[ext_nil]; omega,?_,fun k hk=>?_,fun j hj=>?_,hrd,?_,by simp only; omega,?_,?_,?_,?_,?_⟩
      ·have:iv (args++[cv])=iv args++[.int .i64 cv]:=by simp[iv]
       show VsAt U 3 1 _ (iv (args++[cv])) (args++[cv]).length
       rw[this,zC6,zC7]
       exact vZ.of mU.next fun k hk=>mU.get k (vZ.ne k hk).2 (by simp only[idsV,zA4]at hk ⊢; omega)
      ·simp only[idsV,zA4]at hk; omega
      ·rcases zB7.1 hj with hj|hj
       ·exact hsm j hj
       ·simp only[zA4]at hj; omega
      ·simp only[zC6,zC7]; omega
      all_goals simp only[g0,g1,g3,g5,ruU,Nat.reduceEqDiff]
   ·clear g0' g1' g3' g4' g5' E2 I1 k1 nx1 mX1 X1 hxl
    rintro E X2 ⟨args,av,pe,m2,k2,nx2,ha,hai,hrd,hpe,hpos,g0,g1,g3,g5,g4⟩
    have I2:=I'.grow m2 (by omega)
    obtain⟨y,hy⟩:=Go.Ax.exq X2.next
    rw[hy]at nx2
    have hxy:x<y:=by omega
    obtain⟨a1,ea⟩:=ha.len
    rw[ea]at k2 ha hai
    rw[decA_ok (by omega) hrd,<-hpe]at htot
    rw[show X2=ext X2 [] from rfl]
    simp only[g0,g5,hy,hxy,k2,ruW,Nat.reduceLeDiff,xF,ruU,Nat.reduceLT,Nat.reduceAdd,Nat.reduceEqDiff]
    refine w_callY (l:=lp) rfl rfl rfl ?_
    simp only[ruU]
    have hsc:scbL X2.next (encI (⟨pos,op.toNat,args⟩,.slice a1 args.length args.length,0))=true:=by
     have h1:=VsAt.sc ha
     simp only[encI,scbL,scb,scbA,h1,zC9]
    refine (Y.step (r:=(⟨pos,op.toNat,args⟩,.slice a1 args.length args.length,0)) I2.inv I2.go (by omega) I2.ok hsc ⟨ha,fun n hn hf=>by have:=hai n hn; have:=hFx n hf; omega⟩).mono ?_
    rintro _ G' ⟨rfl,F',W',h1,h2,h3,h4⟩
    obtain⟨_,_,_,_,j5⟩:=I2.more (r:=(⟨pos,op.toNat,args⟩,.slice a1 args.length args.length,0)) hok hbn hF0 hqF hql hbv' ha (fun n hn=>⟨by have:=hai n hn; omega,fun hf=>by have:=hFx n hf; have:=hai n hn; omega⟩) (fun r' hr' n hn h=>by have h5:=((I.av r' hr').1.ne n hn).2; have h6:=hai n h; omega) (by cases a1<;>simp[idsV]) h1 h2 h3 h4
    have I3:=j5 rfl
    rw[<-hbv]at I3
    rw[show G'=ext G' [] from rfl]
    simp only[goI,decide_true,Bool.not_true,ruW,ruU,Nat.reduceLT]
    refine loopC_next ⟨(pe,rs++[(⟨pos,op.toNat,args⟩,.slice a1 args.length args.length,0)],F',W'),by simp only; omega,I3,hpos,?_,?_,?_,?_,?_,?_⟩
    ·simp only[zC6,zC7]; omega
    ·simp only
     rw[<-htot,zF5,List.append_assoc]
     rfl
    all_goals simp only[g0,g1,g3,g4,ruU,Nat.reduceEqDiff]
set_option maxRecDepth 100000
theorem insC_sc {N:Nat}:∀ {ls:List Iv},(∀ x∈ls,scb N x.2=true)->scbL N (insC ls)=true
 |[],_=>rfl
 |x::r,h=>by
  rw[insC,zD1]
  refine scbL_append ?_ (insC_sc fun y hy=>h y (zB9 _ hy))
  have:=h x (zB8 ..)
  show (true&&(true&&(scb N x.2&&true)))=true
  rw[this]
  rfl
theorem ins_app {X:AHeap} {v:Value} {ls:List Iv} {y:Iv} {x:Nat} (h:VsAt X 59 3 v (insC ls) ls.length) (hx:X.next=x) (hb:X.base<=X.next) (hlen:ls.length<=1000000) (hs:∀ z∈ls,scb X.next z.2=true) (hy:scb X.next y.2=true) (ho:one y.2=true) :
  ∃ G,aBuiltin Tryz.prog (ext X [⟨59,false,ivC y⟩]) .append ⟨[42,42]⟩ [v,.slice (some ⟨x+0,0,some 0⟩) 1 1]=some (.slice (some ⟨x+1,0,none⟩) (ls.length+1) (ls.length+1),ext G [])/\VsAt G 59 3 (.slice (some ⟨x+1,0,none⟩) (ls.length+1) (ls.length+1)) (insC (ls++[y])) (ls++[y]).length/\Mod (idsV v) X G/\G.next=x+2:=by
 have h2:VsAt (ext X [⟨59,false,ivC y⟩]) 59 3 v (insC ls) ls.length:=h.of (by rw[ext_next]; omega) (fun n hn=>ext_get_old (h.ne n hn).2)
 have hk:bk (ext X [⟨59,false,ivC y⟩]) (x+0)=some ⟨59,false,ivC y⟩:=by rw[bk_at hx (by simp)]; rfl
 have hsm:small (ls.length+1) 40=true:=by simp only[small,zA7,zD9]; omega
 have hone:(ivC y).all one=true:=by simp only[ivC,List.all_cons,List.all_nil,ho,Bool.and_true]; rfl
 obtain⟨G,k1,k2,k3,k4,_⟩:=vs_app (P:=Tryz.prog) (H:=ext X [⟨59,false,ivC y⟩]) (st:=42) (xt:=42) (e:=59) (sz:=3) (by1:=40) (z:=.agg #[.int .i64 0,.int .i64 0,.slice none 0 0]) (n:=x+0) (off:=0) (cnt2:=1) (cap:=1) (s:=some 0) (x:=x+1) (ws:=ivC y) (b:=⟨59,false,ivC y⟩)
  u42 s59 (by kernel_rfl) (by kernel_rfl) rfl (by kernel_rfl) h2 (rk_of hk) (by simp[ivC]) rfl hone (by decide) hsm (by rw[ext_next,hx]; rfl) (scbL_append (insC_sc fun z hz=>scb_mono (by rw[ext_next]; omega) _ (hs z hz)) (by
   have:=scb_mono (show X.next<=(ext X [⟨59,false,ivC y⟩]).next by rw[ext_next]; omega) _ hy
   show (true&&(true&&(scb _ y.2&&true)))=true
   rw[this]
   rfl))
 have e1:insC ls++ivC y=insC (ls++[y]):=by simp[insC]
 rw[e1]at k2
 exact⟨G,k1,by rw[zC6]; exact k2,(Mod.ext hb).trans (k3 ((Mod.ext (W:=[]) hb).ok hb)),k4⟩
def lpDec (asg bod:Code) (d:Nat):Loop:={state:=.ready,pending:=none,fn:=0,tmps:=#[],params:=⟨[13,14]⟩,assign:=asg,body:=bod,defers:=d}
def ivOf (r:It):Iv:=(r.1,r.2.1)
def DecInv (l p:Nat) (lp:Loop) (e:RV) (rs:List It) (F W:List Nat) (G:AHeap):Prop :=
 p+2<l/\l<G.next/\bk G (p+0)=some ⟨42,false,[.slice none 0 0]⟩/\(∀ r∈rs,scb G.next r.2.1=true) /\
 ((rs.all goI=true/\∃ v,F=(p+0)::(p+1)::(p+2)::l::idsV v/\W=F/\LoopAt G l lp e/\bk G (p+1)=some ⟨26,false,[.int .i64 0,.int .i64 0]⟩/\bk G (p+2)=some ⟨42,false,[v]⟩/\VsAt G 59 3 v (insC (rs.map ivOf)) rs.length/\∀ n∈idsV v,p+2<n/\n≠l)
 \/ (∃ r rs0,rs=rs0++[r]/\rs0.all goI=true/\goI r=false/\F=[p+0,p+1,l]/\W=F/\LoopAt G l {lp with state:=.done,pending:=some .ret} e/\bk G (p+1)=some ⟨26,false,[.int .i64 r.2.2,.int .i64 r.1.pos]⟩))
theorem dec_step {asg bod:Code} (hab:some (asg,bod)=Tryz.f24.body.bind rangeOf) {l p d:Nat} {E:Env} (g2:E 2=.pointer (some ⟨p+0,0,none⟩)) (g3:E 3=.pointer (some ⟨p+1,0,none⟩)) (g4:E 4=.pointer (some ⟨p+2,0,none⟩)) {rs:List It} {F W:List Nat} {G:AHeap} {r:It}
  (hI:DecInv l p (lpDec asg bod d) (rvOf 27 E) rs F W G) (hgo:∀ x∈rs,goI x=true) (hcap:rs.length<100000) (hok:G.base<=G.next) (hsc:scbL G.next (encI r)=true) (hp:preI F r G) :
  CallY Tryz.prog l (encI r) G (fun out G'=>out=.ok (.bool (goI r))/\∃ F' W',DecInv l p (lpDec asg bod d) (rvOf 27 E) (rs++[r]) F' W' G'/\Mod W G G'/\(∀ n∈F',n∈F\/G.next<=n)/\(∀ n∈W',n∈W\/G.next<=n)):=by
 obtain⟨hpl,hll,h0,hss,⟨hall,v,rfl,rfl,hl,h1,h2,hv,hvi⟩|⟨r',rs0,rfl,_,hr',_⟩⟩:=hI
 rotate_left
 ·have:=hgo r' (by simp)
  rw[hr']at this
  cases this
 obtain⟨x,hx⟩:=Go.Ax.exq G.next
 have hxb:G.base<=x:=hx▸hok
 obtain⟨⟨pos,op,args⟩,av,err⟩:=r
 obtain⟨ha,hai⟩:=hp
 simp only at ha hai
 obtain⟨aa,ea⟩:=ha.len
 have hsa:scb x av=true:=by
  rw[hx]at hsc
  have h:(scb x (.agg ⟨[.int .i64 pos,.int .i64 op,av]⟩)&&(true&&true))=true:=hsc
  rw[zA7]at h
  exact sc_agg3 h.1
 refine callY_of (H:=ext G []) (N:=27) (E:=E) mixed hl rfl (zip_two (by decide) (by decide)) ?_
 have hb2:Tryz.f24.body.bind rangeOf=some (_,_):=rfl
 cases hab.trans hb2
 have hsa':=hsa
 rw[ea]at hsa'
 simp only[ea,hx,hxb,hsa',ruW,putL,Nat.reduceLeDiff,xF,ruU,Nat.reduceLT,Nat.reduceAdd,Nat.reduceEqDiff]
 clear hab hb2
 rw[asgC_normal]
 refine⟨_,_,(hl.of (ext_get_old hll)).get,rfl,?_⟩
 rw[ext_setLoop hll]
 generalize hG1:setLoop G l _ _=G1
 have mG1:Mod ((p+0)::(p+1)::(p+2)::l::idsV v) G G1:=hG1▸Mod.upd (by simp)
 have n1:G1.next=x:=by rw[<-hG1,setLoop_next,hx]
 have xb1:G1.base<=x:=by rw[<-hG1,setLoop_base]; exact hxb
 have c0:bk G1 (p+0)=_:=(hG1▸bk_setLoop (by omega):bk G1 (p+0)=bk G (p+0)).trans h0
 have c1:bk G1 (p+1)=_:=(hG1▸bk_setLoop (by omega):bk G1 (p+1)=bk G (p+1)).trans h1
 have c2:bk G1 (p+2)=_:=(hG1▸bk_setLoop (by omega):bk G1 (p+2)=bk G (p+2)).trans h2
 have hl1:LoopAt G1 l _ (rvOf 27 E):=hG1▸LoopAt.set l _ _
 have y0:p+0<x:=by omega
 have y1:p+1<x:=by omega
 have y2:p+2<x:=by omega
 obtain⟨vv,ev⟩:=hv.len
 by_cases he:err=0
 ·have hd:decide (¬err=0)=false:=decide_eq_false (by simp[he])
  rw[ev]at c2
  simp only[hd,n1,y2,c2,g4,hsa',ruW,Nat.reduceLeDiff,xF,ruU,Nat.reduceLT,Nat.reduceAdd,Nat.reduceEqDiff]
  rw[<-ev]at c2 ⊢
  obtain⟨Y,hY⟩:=Go.Ax.exq (ext G1 [⟨59,false,[.int .i64 pos,.int .i64 op,.slice aa args.length args.length]⟩])
  have hAB:ext G1 [⟨59,false,[.int .i64 pos,.int .i64 op,.slice aa args.length args.length]⟩,⟨59,false,[.int .i64 pos,.int .i64 op,.slice aa args.length args.length]⟩]=ext Y [⟨59,false,[.int .i64 pos,.int .i64 op,.slice aa args.length args.length]⟩]:=by rw[<-hY,ext_append]; rfl
  rw[hAB]
  have hY1:Mod [] G1 Y:=hY▸Mod.ext (by rw[n1]; exact xb1)
  have nY:Y.next=x+1:=by rw[<-hY,ext_next,n1]; rfl
  have yb:Y.base<=x+1:=nY▸hY1.ok (by rw[n1]; exact xb1)
  have cY0:=(hY1.bk (by omega) (by simp)).trans c0
  have cY1:=(hY1.bk (by omega) (by simp)).trans c1
  have cY2:=(hY1.bk (by omega) (by simp)).trans c2
  have hlY:LoopAt Y l _ (rvOf 27 E):=hl1.of (hY1.get _ (by omega) (by simp))
  clear hAB hY
  have mGY:=mG1.trans (hY1.mono (by simp))
  have hvl:∀ n∈idsV v,n<x:=fun n hn=>hx▸(hv.ne n hn).2
  have hvY:VsAt Y 59 3 v (insC (rs.map ivOf)) (rs.map ivOf).length:=by
   rw[zC8]
   exact hv.of (by rw[nY,hx]; omega) fun n hn=>(hY1.get n (by rw[n1]; exact hvl n hn) (by simp)).trans (hG1▸setLoop_get (hvi n hn).2)
  obtain⟨G',k1,vG,mG,nG⟩:=ins_app (X:=Y) (v:=v) (ls:=rs.map ivOf) (y:=(⟨pos,op,args⟩,.slice aa args.length args.length)) (x:=x+1) hvY nY (by rw[nY]; exact yb) (by rw[zC8]; omega) (fun z hz=>by
   obtain⟨w,hw,rfl⟩:=zD5.1 hz
   exact scb_mono (by rw[nY,hx]; omega) _ (hss w hw)) (by rw[nY]; exact scb_mono (by omega) _ hsa') rfl
  rw[zC8]at k1 vG
  replace k1:aBuiltin Tryz.prog (ext Y [⟨59,false,[.int .i64 pos,.int .i64 op,.slice aa args.length args.length]⟩]) .append ⟨[42,42]⟩ [v,.slice (some ⟨x+1,0,some 0⟩) 1 1]=some (.slice (some ⟨x+1+1,0,none⟩) (rs.length+1) (rs.length+1),ext G' []):=k1
  have e2:bk G' (p+2)=some ⟨42,false,[v]⟩:=(mG.bk (by omega) (fun h=>by have:=hvi _ h; omega)).trans cY2
  have y2':p+2<x+1+2:=by omega
  have hs3:scb (x+1+2) (.slice (some ⟨x+1+1,0,none⟩) (rs.length+1) (rs.length+1))=true:=by simp[scb]
  simp only[k1,g4,nG,e2,y2',hs3,ruW,putL,Nat.reduceLeDiff,xF,ruU,Nat.reduceLT,Nat.reduceAdd,Nat.reduceEqDiff]
  have hgr:goI (⟨pos,op,args⟩,.slice aa args.length args.length,err)=true:=decide_eq_true he
  rw[rndC_normal,hgr]
  obtain⟨nv,hnv⟩:=Go.Ax.exq (Value.slice (some ⟨x+1+1,0,none⟩) (rs.length+1) (rs.length+1))
  have hnvi:∀ n,n∈idsV nv ↔ n=x+1+1:=fun n=>by rw[<-hnv]; simp[idsV]
  rw[hnv]at vG
  generalize hG5:uw G' (p+2) 0 _=G5
  have mG5:Mod [p+2] G' G5:=hG5▸Mod.uw (by simp)
  have n5:G5.next=x+1+2:=by rw[<-hG5,uw_next,nG]
  have e5:bk G5 (p+2)=some ⟨42,false,[nv]⟩:=by rw[<-hG5,bk_uw_eq,e2,<-hnv]; rfl
  have kp:∀ n,n<x->n≠p+2->n∉idsV v->G5.get n=Y.get n:=fun n h1 h2 h3=>(mG5.get n (by omega) (by simpa using h2)).trans (mG.get n (by omega) h3)
  have hnl:∀ n,n<=p+2->n∉idsV v:=fun n hn h=>by have:=hvi n h; omega
  have hll5:l∉idsV v:=fun h=>(hvi l h).2 rfl
  have hl5:LoopAt G5 l _ (rvOf 27 E):=hlY.of (kp l (by omega) (by omega) hll5)
  have f0:bk G5 (p+0)=some ⟨42,false,[.slice none 0 0]⟩:=(bk_get (kp _ (by omega) (by omega) (hnl _ (by omega)))).trans cY0
  have f1:bk G5 (p+1)=some ⟨26,false,[.int .i64 0,.int .i64 0]⟩:=(bk_get (kp _ (by omega) (by omega) (hnl _ (by omega)))).trans cY1
  have v5:VsAt G5 59 3 nv (insC (rs.map ivOf++[(⟨pos,op,args⟩,.slice aa args.length args.length)])) (rs.map ivOf++[((⟨pos,op,args⟩,.slice aa args.length args.length):Iv)]).length:=vG.of mG5.next fun n hn=>mG5.get n (by rw[hnvi]at hn; omega) (by rw[hnvi]at hn; simp; omega)
  refine⟨_,_,(hl5.of (G:=ext G5 []) rfl).get,rfl,(p+0)::(p+1)::(p+2)::l::idsV nv,(p+0)::(p+1)::(p+2)::l::idsV nv,?_⟩
  rw[ext_setLoop (by omega)]
  generalize hG6:setLoop G5 l _ _=G6
  have n6:G6.next=x+1+2:=by rw[<-hG6,setLoop_next,n5]
  have hl6:LoopAt G6 l _ (rvOf 27 E):=hG6▸LoopAt.set l _ _
  have kk:∀ n,n≠l->G6.get n=G5.get n:=fun n hn=>hG6▸setLoop_get hn
  have mG6:Mod [l] G5 G6:=hG6▸Mod.upd (by simp)
  have mA:Mod ((p+0)::(p+1)::(p+2)::l::idsV v) G G6:=((mGY.trans (mG.mono (fun n hn=>by simp[hn]))).trans (mG5.mono (by simp))).trans (mG6.mono (by simp))
  rw[ext_nil]
  refine⟨⟨hpl,by omega,(bk_get (kk _ (by omega))).trans f0,fun z hz=>?_,.inl ⟨?_,nv,rfl,rfl,hl6,(bk_get (kk _ (by omega))).trans f1,(bk_get (kk _ (by omega))).trans e5,?_,fun n hn=>?_⟩⟩,mA,fun n hn=>?_,fun n hn=>?_⟩
  ·rw[n6]
   rcases zB7.1 hz with hz|hz
   ·exact scb_mono (by rw[hx]; omega) _ (hss z hz)
   ·rw[zA4]at hz
    rw[hz]
    exact scb_mono (by omega) _ hsa'
  ·rw[List.all_append,hall]
   simp only[List.all_cons,List.all_nil,hgr,zC9]
  ·have e:(rs++[((⟨pos,op,args⟩,.slice aa args.length args.length,err):It)]).map ivOf=rs.map ivOf++[(⟨pos,op,args⟩,.slice aa args.length args.length)]:=by rw[zF5]; rfl
   rw[e]
   have e':(rs++[((⟨pos,op,args⟩,.slice aa args.length args.length,err):It)]).length=(rs.map ivOf++[((⟨pos,op,args⟩,.slice aa args.length args.length):Iv)]).length:=by simp
   rw[e']
   exact v5.of (zF1 (by rw[n6,n5])) fun n hn=>kk n (by rw[hnvi]at hn; omega)
  ·rw[hnvi]at hn
   omega
  all_goals
   simp only[zB0,hnvi]at hn ⊢
   omega
 ·have hd:decide (¬err=0)=true:=decide_eq_true he
  simp only[hd,ruW,ruU,Nat.reduceLT]
  refine w_drawB [] [] (by kernel_rfl) (by kernel_rfl) rfl fun ops anc hA hG=>?_
  simp only[g2,g3,n1,c0,c1,y0,y1,ruD,ruW,putL,Nat.reduceLeDiff,xF,ruU,Nat.reduceLT,Nat.reduceAdd,Nat.reduceEqDiff]
  have hgr:goI (⟨pos,op,args⟩,.slice aa args.length args.length,err)=false:=decide_eq_false he
  rw[rndC_ret,hgr]
  generalize hG2:uw G1 (p+0) 0 _=G2
  have mG2:Mod [p+0,p+1,l] G1 G2:=hG2▸Mod.uw (by simp)
  have n2:G2.next=x:=by rw[<-hG2,uw_next,n1]
  have d0:bk G2 (p+0)=some ⟨42,false,[.slice none 0 0]⟩:=by rw[<-hG2,bk_uw_eq,c0]; rfl
  have d1:bk G2 (p+1)=some ⟨26,false,[.int .i64 0,.int .i64 0]⟩:=by rw[<-hG2,bk_uw_ne (by omega),c1]
  have hl2:LoopAt G2 l _ (rvOf 27 E):=hl1.of (hG2▸uw_get (by omega))
  generalize hG3:uw G2 (p+1) 0 _=G3
  have mG3:Mod [p+0,p+1,l] G2 G3:=hG3▸Mod.uw (by simp)
  have n3:G3.next=x:=by rw[<-hG3,uw_next,n2]
  have e0:bk G3 (p+0)=some ⟨42,false,[.slice none 0 0]⟩:=by rw[<-hG3,bk_uw_ne (by omega),d0]
  have e1:bk G3 (p+1)=some ⟨26,false,[.int .i64 err,.int .i64 pos]⟩:=by rw[<-hG3,bk_uw_eq,d1]; rfl
  have hl3:LoopAt G3 l _ (rvOf 27 E):=hl2.of (hG3▸uw_get (by omega))
  have mE:Mod ((p+0)::(p+1)::(p+2)::l::idsV v) G G3:=mG1.trans ((mG2.trans mG3).mono (by simp))
  refine⟨_,_,(hl3.of (ext_get_old (by omega))).get,rfl,[p+0,p+1,l],[p+0,p+1,l],?_⟩
  rw[ext_setLoop (by omega)]
  generalize hG4:setLoop G3 l _ _=G4
  have mG4:Mod ((p+0)::(p+1)::(p+2)::l::idsV v) G3 G4:=hG4▸Mod.upd (by simp)
  have n4:G4.next=x:=by rw[<-hG4,setLoop_next,n3]
  have hl4:LoopAt G4 l _ (rvOf 27 E):=hG4▸LoopAt.set l _ _
  have kk:∀ n,n<l->bk G4 n=bk G3 n:=fun n hn=>hG4▸bk_setLoop (by omega)
  have mA:=mE.trans mG4
  refine⟨⟨hpl,by rw[ext_next,n4]; omega,(bk_old (by omega)).trans ((kk _ (by omega)).trans e0),fun z hz=>?_,.inr ⟨_,rs,rfl,hall,hgr,rfl,rfl,hl4.of (ext_get_old (by omega)),(bk_old (by omega)).trans ((kk _ (by omega)).trans e1)⟩⟩,mA.trans (Mod.ext (mA.ok hok)),fun n hn=>?_,fun n hn=>?_⟩
  ·rw[ext_next,n4]
   rcases zB7.1 hz with hz|hz
   ·exact scb_mono (by rw[hx]; omega) _ (hss z hz)
   ·rw[zA4]at hz
    rw[hz]
    exact scb_mono (by omega) _ hsa'
  all_goals
   simp only[zB0,zE4,or_false]at hn ⊢
   omega
def yDec {asg bod:Code} (hab:some (asg,bod)=Tryz.f24.body.bind rangeOf) {l p d:Nat} {E:Env} (g2:E 2=.pointer (some ⟨p+0,0,none⟩)) (g3:E 3=.pointer (some ⟨p+1,0,none⟩)) (g4:E 4=.pointer (some ⟨p+2,0,none⟩)):YldS Tryz.prog l It encI goI 100000 preI where
 Inv:=DecInv l p (lpDec asg bod d) (rvOf 27 E)
 sub:=by
  rintro rs F W G ⟨_,_,_,_,⟨_,v,rfl,rfl,_⟩|⟨r,rs0,rfl,_,_,rfl,rfl,_⟩⟩ n hn<;>exact hn
 dom:=by
  rintro rs F W G ⟨hpl,hll,h0,hss,⟨_,v,rfl,rfl,⟨o,hl⟩,h1,h2,hv,_⟩|⟨r,rs0,rfl,_,_,rfl,rfl,⟨o,hl⟩,h1⟩⟩ n hn
  ·simp only[zB0]at hn
   rcases hn with rfl|rfl|rfl|rfl|hn
   ·exact⟨bk_ne h0,by omega⟩
   ·exact⟨bk_ne h1,by omega⟩
   ·exact⟨bk_ne h2,by omega⟩
   ·exact⟨by rw[hl]; simp,hll⟩
   ·exact hv.ne n hn
  ·simp only[zB0,zE4,or_false]at hn
   rcases hn with rfl|rfl|rfl
   ·exact⟨bk_ne h0,by omega⟩
   ·exact⟨bk_ne h1,by omega⟩
   ·exact⟨by rw[hl]; simp,hll⟩
 loc:=by
  rintro rs F W G G' ⟨hpl,hll,h0,hss,⟨hall,v,rfl,rfl,hl,h1,h2,hv,hvi⟩|⟨r,rs0,rfl,hall,hr,rfl,rfl,hl,h1⟩⟩ hn hg
  ·exact⟨hpl,by omega,(bk_get (hg _ (by simp))).trans h0,fun r hr=>scb_mono hn _ (hss r hr),.inl ⟨hall,v,rfl,rfl,hl.of (hg _ (by simp)),(bk_get (hg _ (by simp))).trans h1,(bk_get (hg _ (by simp))).trans h2,hv.of hn fun n hn'=>hg n (by simp[hn']),hvi⟩⟩
  ·exact⟨hpl,by omega,(bk_get (hg _ (by simp))).trans h0,fun r hr=>scb_mono hn _ (hss r hr),.inr ⟨r,rs0,rfl,hall,hr,rfl,rfl,hl.of (hg _ (by simp)),(bk_get (hg _ (by simp))).trans h1⟩⟩
 step:=fun hI hgo hcap hok hsc hp=>dec_step hab g2 g3 g4 hI hgo hcap hok hsc hp
theorem instructions_c (H:AHeap) (a:Option Addr) (n c:Nat) (hsc:scb H.next (.slice a n c)=true) (hok:H.base<=H.next):CallS Tryz.prog 49 [.slice a n c] H (.ok (.func (.func 82) ⟨[]⟩ ⟨[.pointer (some ⟨H.next+0,0,none⟩)]⟩)) (ext H [⟨23,false,[.slice a n c]⟩]):=by
 obtain⟨b,hb⟩:=Go.Ax.exq H.next
 refine callS_fn mixed Tryz.func49 rfl Tryz.ntmps49 (zB3 rfl) fun wf _=>?_
 have hbase:H.base<=b:=hb▸wf.base
 rw[hb]at hsc
 simp only[hb,hsc,w_func,Tryz.results49,ruW,ruU,entryE,Nat.reduceLT,Nat.reduceEqDiff]
 exact Fin.same
set_option maxRecDepth 100000
structure OwnI (b:Nat) (X:AHeap) (v:Value) (ls:List Iv):Prop where
 vs:VsAt X 59 3 v (insC ls) ls.length
 av:∀ x∈ls,ArgA X x.2 x.1.args
 lo:∀ n∈idsV v,b<=n
 alo:∀ x∈ls,∀ n∈idsV x.2,b<=n/\n∉idsV v
 nd:(ls.flatMap fun x=>idsV x.2).Nodup
def badA (l:List UInt8):Option (Ins × Int):=(decA 0 l).find? fun r=>!decide (r.2=0)
def insA (l:List UInt8):List Ins:=(decA 0 l).map (·.1)
def DecOut (b:Nat) (l:List UInt8) (out:Out) (X:AHeap):Prop :=
 match badA l with
 |some r=>out=.ok (.tuple #[.slice none 0 0,fltV r.2 r.1.pos])
 |none=>∃ v ls,out=.ok (.tuple #[v,fltV 0 0])/\ls.map (·.1)=insA l/\OwnI b X v ls
theorem find_none:∀ {rs:List It},rs.all goI=true->(rs.map stI).find? (fun r=>!decide (r.2=0))=none
 |[],_=>rfl
 |r::rs,h=>by
  simp only[List.all_cons,zA7]at h
  have he:decide (r.2.2=0)=true:=h.1
  simp only[zB4,List.find?_cons,stI,he,Bool.not_true]
  exact find_none h.2
theorem decode_c (H:AHeap) (bsv:Value) (l:List UInt8) (hl:l.length<=60000) (hb:RdAt H 1 bsv (bv l) l.length) (hsc:scb H.next bsv=true) (hok:H.base<=H.next):CallA Tryz.prog 24 [bsv] H (fun out X=>DecOut H.next l out X/\Mod [] H X):=by
 obtain⟨b,hbn⟩:=Go.Ax.exq H.next
 obtain⟨ba,bc,eb⟩:=hb.sl
 have hd:decide ((60000:Int)<(l.length:Int))=false:=decide_eq_false (by omega)
 refine callE_fn mixed Tryz.func24 rfl Tryz.ntmps24 (zB3 rfl) ?_
 rw[eb]at hsc ⊢
 simp only[hbn,hd,ruW,xF,ruU,entryE,Nat.reduceLT,Nat.reduceAdd,Nat.reduceEqDiff]
 generalize hX:ext H _=X
 have mX:Mod [] H X:=hX▸Mod.ext hok
 have nX:X.next=b+3:=by rw[<-hX,ext_next,hbn]; rfl
 have x0:bk X (b+0)=some ⟨42,false,[.slice none 0 0]⟩:=by rw[<-hX,bk_at hbn (by simp)]; rfl
 have x1:bk X (b+1)=some ⟨26,false,[.int .i64 0,.int .i64 0]⟩:=by rw[<-hX,bk_at hbn (by simp)]; rfl
 have x2:bk X (b+2)=some ⟨42,false,[.slice none 0 0]⟩:=by rw[<-hX,bk_at hbn (by simp)]; rfl
 clear hX
 have okX:=mX.ok hok
 have hi:=instructions_c X ba l.length bc (by rw[nX,<-hbn]; exact scb_mono (by omega) _ hsc) okX
 rw[nX]at hi
 rw[show X=ext X [] from rfl]
 refine CallS.to (show CallS Tryz.prog 49 _ (ext X []) _ _ from hi) ?_
 simp only[ruW,Nat.reduceLT,Nat.reduceAdd]
 refine w_env fun E hE=>?_
 have g2:E 2=.pointer (some ⟨b+0,0,none⟩):=by rw[hE]; rfl
 have g3:E 3=.pointer (some ⟨b+1,0,none⟩):=by rw[hE]; rfl
 have g4:E 4=.pointer (some ⟨b+2,0,none⟩):=by rw[hE]; rfl
 have g12:E 12=.func (.func 82) ⟨[]⟩ ⟨[.pointer (some ⟨b+3,0,none⟩)]⟩:=by rw[hE]; rfl
 clear hE hi
 generalize hY:ext X _=Y
 have mY:Mod [] X Y:=hY▸Mod.ext okX
 have nY:Y.next=b+4:=by rw[<-hY,ext_next,nX]; rfl
 have q3:bk Y (b+3)=some ⟨23,false,[.slice ba l.length bc]⟩:=by
  have:=bk_at (H:=X) (L:=[⟨23,false,[.slice ba l.length bc]⟩]) (i:=0) nX (by simp)
  rw[<-hY]
  exact this
 clear hY
 have okY:=mY.ok okX
 refine w_rangeK (f:=82) (ca:=[.pointer (some ⟨b+3,0,none⟩)]) okY (by decide) g12 (by kernel_rfl) fun K hlp hdf mK hbK=>?_
 replace mK:=mK []
 rw[nY]at hlp hdf hbK ⊢
 have mXK:=mY.trans mK
 have mHK:=mX.trans mXK
 have okK:=mHK.ok hok
 have hI:(yDec (l:=b+4+1) (p:=b) (d:=b+4) rfl g2 g3 g4).Inv [] [b+0,b+1,b+2,b+4+1] [b+0,b+1,b+2,b+4+1] K :=
  ⟨by omega,by omega,(mXK.bk (by omega) (by simp)).trans x0,fun r hr=>by simp at hr,.inl ⟨rfl,.slice none 0 0,rfl,rfl,hlp,(mXK.bk (by omega) (by simp)).trans x1,(mXK.bk (by omega) (by simp)).trans x2,VsAt.nil,fun n hn=>by simp[idsV]at hn⟩⟩
 have hbl:∀ n∈rdF (.slice ba l.length bc) l.length,n<b:=fun n hn=>hbn▸((eb▸hb).ne n hn).2
 refine (iter_c _ K (b+3) (.slice ba l.length bc) l _ _ hI okK (by omega) hl ((mK.bk (by omega) (by simp)).trans q3) (by simp) (by omega) ((eb▸hb).mod0 mHK) (fun n hn=>by have:=hbl n hn; simp; omega)).mono ?_
 rintro _ K1 ⟨rfl,rs,F,W,hI1,hrs,m1,hav,hnd⟩
 obtain⟨_,hll1,i0,hss,hI1⟩:=hI1
 have hdK1:K1.get (b+4)=K.get (b+4):=m1.get (b+4) (by omega) (by simp)
 have okK1:=m1.ok okK
 rcases hI1 with⟨hall,v,rfl,rfl,hl1,i1,i2,hv,hvi⟩|⟨r,rs0,rfl,hall,hr,rfl,rfl,hl1,i1⟩
 ·have hbad:badA l=none:=by rw[badA,<-hrs]; exact find_none hall
  obtain⟨vv,ev⟩:=hv.len
  have hsv:=hv.sc
  refine⟨_,_,_,hl1.get,by simp[lpDec],rfl,?_⟩
  generalize hK2:setLoop K1 (b+4+1) _ _=K2
  have nK2:K2.next=K1.next:=hK2▸rfl
  have j0:bk K2 (b+0)=_:=(hK2▸bk_setLoop (by omega):bk K2 (b+0)=bk K1 (b+0)).trans i0
  have j1:bk K2 (b+1)=_:=(hK2▸bk_setLoop (by omega):bk K2 (b+1)=bk K1 (b+1)).trans i1
  have j2:bk K2 (b+2)=_:=(hK2▸bk_setLoop (by omega):bk K2 (b+2)=bk K1 (b+2)).trans i2
  have hdK2:K2.get (b+4)=K1.get (b+4):=hK2▸setLoop_get (by omega)
  have mK2:Mod [b+4+1] K1 K2:=hK2▸Mod.upd (by simp)
  have l0:b+0<K1.next:=by omega
  have l1:b+1<K1.next:=by omega
  have l2:b+2<K1.next:=by omega
  have b2:K2.base<=K1.next:=by have:=mK2.ok okK1; rw[nK2]at this; exact this
  have d10:¬b+1=b+0:=by omega
  rw[show K2=ext K2 [] from rfl]
  rw[ev]at j2 hsv
  simp only[g2,g3,g4,nK2,j0,j1,j2,l0,l1,l2,d10,hsv,uw_next,bk_uw_ne,ne_eq,not_false_eq_true,ruW,putL,Nat.reduceLeDiff,xF,ruU,Nat.reduceLT,Nat.reduceAdd,Nat.reduceEqDiff]
  rw[<-ev]
  generalize hK3:uw K2 (b+0) 0 _=K3
  have mK3:Mod [b+0,b+1] K2 K3:=hK3▸Mod.uw (by simp)
  have nK3:K3.next=K1.next:=by rw[<-hK3,uw_next,nK2]
  have k0:bk K3 (b+0)=some ⟨42,false,[v]⟩:=by rw[<-hK3,bk_uw_eq,j0]; rfl
  have k1:bk K3 (b+1)=some ⟨26,false,[.int .i64 0,.int .i64 0]⟩:=by rw[<-hK3,bk_uw_ne (by omega),j1]
  generalize hK4:uw K3 (b+1) 0 _=K4
  have mK4:Mod [b+0,b+1] K3 K4:=hK4▸Mod.uw (by simp)
  have nK4:K4.next=K1.next:=by rw[<-hK4,uw_next,nK3]
  have p0:bk K4 (b+0)=some ⟨42,false,[v]⟩:=by rw[<-hK4,bk_uw_ne (by omega),k0]
  have p1:bk K4 (b+1)=some ⟨26,false,[.int .i64 0,.int .i64 0]⟩:=by rw[<-hK4,bk_uw_eq,k1]; rfl
  have hdK4:K4.get (b+4)=K2.get (b+4):=((hK4▸uw_get (by omega)):K4.get (b+4)=K3.get (b+4)).trans (hK3▸uw_get (by omega))
  refine lv_mark ⟨_,_,hdK4.trans (hdK2.trans (hdK1.trans hdf))⟩ ?_
  rw[ext_nil]
  generalize hK5:K4.upd (b+4) _=K5
  have mK5:Mod [b+4] K4 K5:=hK5▸Mod.upd (by simp)
  have nK5:K5.next=K1.next:=(hK5▸rfl:K5.next=K4.next).trans nK4
  have r0:bk K5 (b+0)=_:=(bk_get (by rw[<-hK5,AHeap.get_upd,if_neg (by omega)])).trans p0
  have r1:bk K5 (b+1)=_:=(bk_get (by rw[<-hK5,AHeap.get_upd,if_neg (by omega)])).trans p1
  have mE:Mod [b+0,b+1,b+4,b+4+1] K1 K5:=(((mK2.mono (by simp)).trans (mK3.mono (by simp))).trans (mK4.mono (by simp))).trans (mK5.mono (by simp))
  rw[show K5=ext K5 [] from rfl]
  simp only[Tryz.results24,g2,g3,nK5,l0,l1,r0,r1,ruW,Nat.reduceLeDiff,xF,ruU,Nat.reduceLT,Nat.reduceAdd,Nat.reduceEqDiff]
  have hmm:Mod [] H K5:=(mHK.step m1 hok (fun n hn=>by simp only[zB0,zE4,or_false]at hn; right; omega)).step mE hok (fun n hn=>by simp only[zB0,zE4,or_false]at hn; right; omega)
  refine⟨?_,hmm⟩
  simp only[DecOut,hbad]
  have hbd:bk K1 (b+4)=none:=by
   unfold bk cellsAt
   rw[hdK1.trans hdf]
   rfl
  have hvd:∀ n∈idsV v,n≠b+4:=fun n hn e=>by
   obtain⟨_,_,⟨_,rfl⟩|⟨_,n',rfl,hb',_⟩⟩:=hv
   ·simp[idsV]at hn
   ·simp only[idsV,zA4]at hn
    rw[<-hn,e,hbd]at hb'
    cases hb'
  have hvk:∀ n∈idsV v,K5.get n=K1.get n:=fun n hn=>mE.get n (hv.ne n hn).2 (fun h=>by
   have h1:=hvi n hn
   have h2:=hvd n hn
   simp only[zB0,zE4,or_false]at h
   omega)
  refine⟨v,rs.map ivOf,rfl,?_,⟨?_,fun z hz=>?_,fun n hn=>by have:=hvi n hn; omega,fun z hz n hn=>?_,?_⟩⟩
  ·rw[insA,<-hrs,List.map_map,List.map_map]
   rfl
  ·rw[zC8]
   exact hv.of mE.next hvk
  ·obtain⟨w,hw,rfl⟩:=zD5.1 hz
   exact (hav w hw).1.of mE.next fun n hn=>mE.get n ((hav w hw).1.ne n hn).2 (fun h=>by
    have:=((hav w hw).2 n hn).1
    simp only[zB0,zE4,or_false]at h
    omega)
  ·obtain⟨w,hw,rfl⟩:=zD5.1 hz
   obtain⟨a1,a2⟩:=(hav w hw).2 n hn
   exact⟨by omega,fun h=>a2 (by simp[h])⟩
  ·rw[List.flatMap_map]
   exact hnd
 ·have hbad:badA l=some (r.1,r.2.2):=by
   rw[badA,<-hrs,zF5,List.find?_append]
   rw[find_none hall,Option.none_or]
   have he:decide (r.2.2=0)=false:=hr
   simp only[zB4,zF3,List.find?_cons,stI,he,Bool.not_false]
  refine⟨_,_,_,hl1.get,by simp[],rfl,?_⟩
  generalize hK2:setLoop K1 (b+4+1) _ _=K2
  have nK2:K2.next=K1.next:=hK2▸rfl
  have j0:bk K2 (b+0)=_:=(hK2▸bk_setLoop (by omega):bk K2 (b+0)=bk K1 (b+0)).trans i0
  have j1:bk K2 (b+1)=_:=(hK2▸bk_setLoop (by omega):bk K2 (b+1)=bk K1 (b+1)).trans i1
  have hdK2:K2.get (b+4)=K1.get (b+4):=hK2▸setLoop_get (by omega)
  have mK2:Mod [b+4+1] K1 K2:=hK2▸Mod.upd (by simp)
  rw[show K2=ext K2 [] from rfl]
  simp only[ruW]
  refine lv_mark ⟨_,_,hdK2.trans (hdK1.trans hdf)⟩ ?_
  rw[ext_nil]
  generalize hK5:K2.upd (b+4) _=K5
  have mK5:Mod [b+4] K2 K5:=hK5▸Mod.upd (by simp)
  have nK5:K5.next=K1.next:=(hK5▸rfl:K5.next=K2.next).trans nK2
  have e0:bk K5 (b+0)=_:=(bk_get (by rw[<-hK5,AHeap.get_upd,if_neg (by omega)])).trans j0
  have e1:bk K5 (b+1)=_:=(bk_get (by rw[<-hK5,AHeap.get_upd,if_neg (by omega)])).trans j1
  have l0:b+0<K1.next:=by omega
  have l1:b+1<K1.next:=by omega
  rw[show K5=ext K5 [] from rfl]
  simp only[Tryz.results24,g2,g3,nK5,l0,l1,e0,e1,ruW,Nat.reduceLeDiff,xF,ruU,Nat.reduceLT,Nat.reduceAdd]
  refine⟨by simp only[DecOut,hbad],?_⟩
  refine ((mHK.step m1 hok (fun n hn=>?_)).step mK2 hok (fun n hn=>?_)).step mK5 hok (fun n hn=>?_)<;>(simp only[zB0,zE4,or_false]at hn; right; omega)
def valR (w:List UInt8):Nat:=w.foldl (fun n c=>10*n+(c.toNat-48)) 0
abbrev aB (n:Int):List UInt8:=[n.toNat.toUInt8,(n.toNat / 256).toUInt8]
theorem aB_val {n:Int} (h0:0<=n) (h1:n<=65535):((n.toNat.toUInt8.toNat+256*(n.toNat / 256).toUInt8.toNat:Nat):Int)=n:=by
 have e1:n.toNat.toUInt8.toNat=n.toNat % 256:=UInt8.toNat_ofNat' ..
 have e2:(n.toNat / 256).toUInt8.toNat=n.toNat / 256 % 256:=UInt8.toNat_ofNat' ..
 rw[e1,e2]
 omega
theorem aB_of (a b:UInt8):aB ((a.toNat+256*b.toNat:Nat):Int)=[a,b]:=by
 have ha:=a.toNat_lt
 have hb:=b.toNat_lt
 have e1:((a.toNat+256*b.toNat:Nat):Int).toNat.toUInt8=a:=UInt8.toNat_inj.1 (by
  rw[show ((a.toNat+256*b.toNat:Nat):Int).toNat.toUInt8.toNat=((a.toNat+256*b.toNat:Nat):Int).toNat % 256 from UInt8.toNat_ofNat' ..]
  omega)
 have e2:(((a.toNat+256*b.toNat:Nat):Int).toNat / 256).toUInt8=b:=UInt8.toNat_inj.1 (by
  rw[show (((a.toNat+256*b.toNat:Nat):Int).toNat / 256).toUInt8.toNat=((a.toNat+256*b.toNat:Nat):Int).toNat / 256 % 256 from UInt8.toNat_ofNat' ..]
  omega)
 rw[aB,e1,e2]
theorem encB_eq (x:Ins):encB x=x.op.toNat.toUInt8::x.args.flatMap aB:=rfl
theorem kinds_three {op:Nat} (h:op<28):(∃ k:List UInt8,k.length<=1/\∀ args,kindsR op args=k)\/(op=17/\∀ args,kindsR op args=guardR args)\/(op=24/\∀ args,kindsR op args=envR args):=by
 match op,h with
 |0,_=>exact .inl ⟨_,by decide,fun _=>rfl⟩
 |1,_=>exact .inl ⟨_,by decide,fun _=>rfl⟩
 |2,_=>exact .inl ⟨_,by decide,fun _=>rfl⟩
 |3,_=>exact .inl ⟨_,by decide,fun _=>rfl⟩
 |4,_=>exact .inl ⟨_,by decide,fun _=>rfl⟩
 |5,_=>exact .inl ⟨_,by decide,fun _=>rfl⟩
 |6,_=>exact .inl ⟨_,by decide,fun _=>rfl⟩
 |7,_=>exact .inl ⟨_,by decide,fun _=>rfl⟩
 |8,_=>exact .inl ⟨_,by decide,fun _=>rfl⟩
 |9,_=>exact .inl ⟨_,by decide,fun _=>rfl⟩
 |10,_=>exact .inl ⟨_,by decide,fun _=>rfl⟩
 |11,_=>exact .inl ⟨_,by decide,fun _=>rfl⟩
 |12,_=>exact .inl ⟨_,by decide,fun _=>rfl⟩
 |13,_=>exact .inl ⟨_,by decide,fun _=>rfl⟩
 |14,_=>exact .inl ⟨_,by decide,fun _=>rfl⟩
 |15,_=>exact .inl ⟨_,by decide,fun _=>rfl⟩
 |16,_=>exact .inl ⟨_,by decide,fun _=>rfl⟩
 |17,_=>exact .inr (.inl ⟨rfl,fun _=>rfl⟩)
 |18,_=>exact .inl ⟨_,by decide,fun _=>rfl⟩
 |19,_=>exact .inl ⟨_,by decide,fun _=>rfl⟩
 |20,_=>exact .inl ⟨_,by decide,fun _=>rfl⟩
 |21,_=>exact .inl ⟨_,by decide,fun _=>rfl⟩
 |22,_=>exact .inl ⟨_,by decide,fun _=>rfl⟩
 |23,_=>exact .inl ⟨_,by decide,fun _=>rfl⟩
 |24,_=>exact .inr (.inr ⟨rfl,fun _=>rfl⟩)
 |25,_=>exact .inl ⟨_,by decide,fun _=>rfl⟩
 |26,_=>exact .inl ⟨_,by decide,fun _=>rfl⟩
 |27,_=>exact .inl ⟨_,by decide,fun _=>rfl⟩
 |n+28,h=>omega
theorem guard_len0:(guardR []).length=1:=rfl
theorem guard_len {args:List Int} (h:args≠[]):(guardR args).length=1+2*(args.getD 0 0).toNat:=by
 rw[guardR,if_neg h,zC6,rep_len]
 simp only[zA8,zC5]
 omega
theorem env_len0 {args:List Int} (h:args.length<2):(envR args).length=2:=by rw[envR,if_pos h]; rfl
theorem env_len {args:List Int} (h:2<=args.length):(envR args).length=2+(args.getD 1 0).toNat:=by
 rw[envR,if_neg (by omega),zC6,rep_len]
 simp only[zA8,zC5]
 omega
theorem take_getD {args:List Int} {k i:Nat} (h:i<k):(args.take k).getD i 0=args.getD i 0:=by
 rw[zA9,zA9,List.getElem?_take,if_pos h]
theorem kinds_pre {op:Nat} {args:List Int} {k:Nat} (hop:op<28) (h:args.length=(kindsR op args).length) (hk:k<args.length):k<(kindsR op (args.take k)).length:=by
 rcases kinds_three hop with⟨q,_,e⟩|⟨_,e⟩|⟨_,e⟩
 ·rw[e]at h ⊢; omega
 ·rw[e]at h ⊢
  cases k with
  |zero=>rw[List.take_zero,guard_len0]; omega
  |succ k =>
   have h1:args≠[]:=fun e=>by rw[e]at hk; simp at hk
   have h2:args.take (k+1)≠[]:=fun e=>by have:=congrArg List.length e; rw[zE1]at this; simp only[zC5]at this; omega
   rw[guard_len h1]at h
   rw[guard_len h2,take_getD (by omega)]
   omega
 ·rw[e]at h ⊢
  by_cases h1:args.length<2
  ·rw[env_len0 h1]at h; omega
  ·rw[env_len (by omega)]at h
   by_cases h2:k<2
   ·rw[env_len0 (by rw[zE1]; omega)]; omega
   ·rw[env_len (by rw[zE1]; omega),take_getD (by omega)]
    omega
theorem kinds_post {op:Nat} {args:List Int} (hop:op<28) (h1:¬args.length<(kindsR op args).length) (h2:∀ k,k<args.length->k<(kindsR op (args.take k)).length):args.length=(kindsR op args).length:=by
 by_cases h0:args.length=0
 ·omega
 have h3:=h2 (args.length-1) (by omega)
 rcases kinds_three hop with⟨q,_,e⟩|⟨_,e⟩|⟨_,e⟩
 ·rw[e]at h1 h3 ⊢; omega
 ·rw[e]at h1 h3 ⊢
  have hn:args≠[]:=fun e=>by rw[e]at h0; simp at h0
  rw[guard_len hn]at h1 ⊢
  by_cases h4:args.length=1
  ·omega
  ·have hn2:args.take (args.length-1)≠[]:=fun e=>by have:=congrArg List.length e; rw[zE1]at this; simp only[zC5]at this; omega
   rw[guard_len hn2,take_getD (by omega)]at h3
   omega
 ·rw[e]at h1 h3 ⊢
  by_cases h4:args.length<2
  ·rw[env_len0 h4]at h1; omega
  ·rw[env_len (by omega)]at h1 ⊢
   by_cases h5:args.length=2
   ·omega
   ·rw[env_len (by rw[zE1]; omega),take_getD (by omega)]at h3
    omega
theorem kinds_least {op:Nat} {args:List Int} (hop:op<28) (h:args.length=(kindsR op args).length):(kindsR op []).length<=args.length:=by
 by_cases h0:args.length=0
 ·have:args=[]:=zE7 h0
  rw[this]at h
  rw[<-h]
  simp
 have:=kinds_pre hop h (k:=0) (by omega)
 rcases kinds_three hop with⟨q,_,e⟩|⟨_,e⟩|⟨_,e⟩
 ·rw[e]at h ⊢; omega
 ·rw[e]at h ⊢; rw[guard_len0]; omega
 ·rw[e]at h ⊢
  rw[env_len0 (by simp)]
  by_cases h4:args.length<2
  ·rw[env_len0 h4]at h; omega
  ·omega
theorem getD_small {args:List Int} (h:∀ y∈args,0<=y/\y<=65535) (i:Nat):0<=args.getD i 0/\args.getD i 0<=65535:=by
 rw[zA9]
 cases hi:args[i]? with
 |none=>simp
 |some y=>simpa using h y (zF2 hi)
theorem opnd_ok {y:Int} (h:0<=y/\y<=65535):opndR y=true:=by
 simp only[opndR,zA7,decide_eq_true_eq]
 exact h
theorem encA_iff {op:Nat} {args:List Int} (hop:op<28) (h:args.length=(kindsR op args).length) (hs:∀ y∈args,0<=y/\y<=65535):encA (op:Int) args=0:=by
 have h1:=kinds_least hop h
 have h2:=opnd_ok (getD_small hs 0)
 have h3:=opnd_ok (getD_small hs 1)
 unfold encA
 rw[if_neg (by omega),zB5,if_neg (by omega),if_neg (by rw[h2,h3]; simp),if_neg (by omega),if_pos (zD4.2 fun y hy=>opnd_ok (hs y hy))]
theorem rdA_back {op:Nat} {args:List Int} {rest:List UInt8} (hop:op<28) (h:args.length=(kindsR op args).length) (hs:∀ y∈args,0<=y/\y<=65535):∀ (j k:Nat),k+j=args.length->rdA op (args.take k) ((args.drop k).flatMap aB++rest)=(args,some rest)
 |0,k,hk=>by
  rw[zE8 (by omega),List.drop_eq_nil_of_le (by omega)]
  exact rdA_done (by omega)
 |j+1,k,hk=>by
  have hkl:k<args.length:=by omega
  have h1:=kinds_pre hop h hkl
  obtain⟨h2,h3⟩:=hs args[k] (zF4 hkl)
  rw[List.drop_eq_getElem_cons hkl,zD1,List.append_assoc]
  show rdA op _ (_::_::_)=_
  rw[rdA_more (by rw[zE1]; omega),aB_val h2 h3,show args.take k++[args[k]]=args.take (k+1) by rw[List.take_add_one,zA5 hkl]; rfl]
  exact rdA_back hop h hs j (k+1) (by omega)
theorem op_byte {n:Int} (h0:0<=n) (h1:n<28):n.toNat.toUInt8.toNat=n.toNat:=by
 rw[show n.toNat.toUInt8.toNat=n.toNat % 256 from UInt8.toNat_ofNat' ..]
 omega
theorem decA_back {x:Ins} {rest:List UInt8} {p:Nat} (h:encA x.op x.args=0):decA p (encB x++rest)=(⟨p,x.op,x.args⟩,0)::decA (p+1+2*x.args.length) rest:=by
 obtain⟨h0,h1,h2,h3⟩:=encA_ok h
 have e:=op_byte h0 h1
 have:=rdA_back (rest:=rest) (show x.op.toNat<28 by omega) h2 h3 x.args.length 0 (by omega)
 rw[List.take_zero,zF0]at this
 rw[encB_eq,List.cons_append,decA_ok (by rw[e]; omega) (by rw[e]; exact this),e,Int.toNat_of_nonneg h0]
def placeL:Nat->List Ins->List Ins
 |_,[]=>[]
 |p,x::r=>⟨p,x.op,x.args⟩::placeL (p+1+2*x.args.length) r
theorem decA_all:∀ {xs:List Ins} {p:Nat},(∀ x∈xs,encA x.op x.args=0)->decA p (encL xs)=(placeL p xs).map fun x=>(x,0)
 |[],p,_=>decA_nil p
 |x::r,p,h=>by
  rw[encL,zD1,decA_back (h x (zB8 ..))]
  show _::decA _ (encL r)=_
  rw[decA_all fun y hy=>h y (zB9 _ hy)]
  rfl
theorem bad_back {xs:List Ins} (h:∀ x∈xs,encA x.op x.args=0):badA (encL xs)=none/\insA (encL xs)=placeL 0 xs:=by
 rw[badA,insA,decA_all h]
 refine⟨?_,?_⟩
 ·rw[List.find?_eq_none]
  intro y hy
  obtain⟨z,_,rfl⟩:=zD5.1 hy
  simp
 ·rw[List.map_map]
  exact List.map_id' _
theorem rdA_was {op:Nat}:∀ (n:Nat) {a0 args:List Int} {rest r:List UInt8},rest.length<=n->rdA op a0 rest=(args,some r) ->
  ∃ new,args=a0++new/\rest=new.flatMap aB++r/\¬args.length<(kindsR op args).length/\∀ k,a0.length<=k->k<args.length->k<(kindsR op (args.take k)).length:=by
 intro n
 induction n with
 |zero =>
  intro a0 args rest r hn h
  by_cases hk:a0.length<(kindsR op a0).length
  ·rw[rdA_end hk (by omega)]at h; cases h
  ·rw[rdA_done hk]at h
   cases h
   exact⟨[],by simp,by simp,hk,fun k h1 h2=>absurd h1 (by omega)⟩
 |succ n ih =>
  intro a0 args rest r hn h
  by_cases hk:a0.length<(kindsR op a0).length
  ·match rest,hn with
   |[],_=>rw[rdA_end hk (by simp)]at h; cases h
   |[_],_=>rw[rdA_end hk (by simp)]at h; cases h
   |a::b::q,hn =>
    rw[rdA_more hk]at h
    obtain⟨new,h1,h2,h3,h4⟩:=ih (by simp only[zA8]at hn; omega) h
    refine⟨((a.toNat+256*b.toNat:Nat):Int)::new,by rw[h1]; simp,?_,h3,fun k h5 h6=>?_⟩
    ·rw[zD1,aB_of,h2]
     simp
    ·by_cases h7:k=a0.length
     ·rw[h7,h1,List.append_assoc,List.take_left]
      exact hk
     ·exact h4 k (by rw[zC6,zC7]; omega) h6
  ·rw[rdA_done hk]at h
   cases h
   exact⟨[],by simp,by simp,hk,fun k h1 h2=>absurd h1 (by omega)⟩
theorem find_cons_none {α:Type} {p:α->Bool} {x:α} {l:List α} (h:(x::l).find? p=none):p x=false/\l.find? p=none:=by
 rw[List.find?_cons]at h
 cases hp:p x with
 |true=>rw[hp]at h; cases h
 |false=>rw[hp]at h; exact⟨rfl,h⟩
theorem enc_was:∀ (n:Nat) {l:List UInt8} {p:Nat},l.length<=n->(decA p l).find? (fun r=>!decide (r.2=0))=none->encL ((decA p l).map (·.1))=l/\∀ x∈(decA p l).map (·.1),encA x.op x.args=0:=by
 intro n
 induction n with
 |zero =>
  intro l p hn _
  have:l=[]:=zE7 (by omega)
  rw[this,decA_nil]
  exact⟨rfl,fun x hx=>by simp at hx⟩
 |succ n ih =>
  intro l p hn h
  match l,hn with
  |[],_=>rw[decA_nil]; exact⟨rfl,fun x hx=>by simp at hx⟩
  |op::rest,hn =>
   by_cases ho:28<=op.toNat
   ·rw[decA_bad ho]at h
    have:=(find_cons_none h).1
    simp at this
   cases hr:rdA op.toNat [] rest with
   |mk args q =>
    cases q with
    |none =>
     rw[decA_end ho hr]at h
     have:=(find_cons_none h).1
     simp at this
    |some r =>
     obtain⟨new,h1,h2,h3,h4⟩:=rdA_was rest.length (zB1 _) hr
     rw[zD6]at h1
     subst h1
     have hsm:=rdA_small op.toNat rest.length [] rest (zB1 _) (fun x hx=>by simp at hx)
     rw[hr]at hsm
     rw[decA_ok ho hr]at h ⊢
     have hlen:r.length<=n:=by
      have:=congrArg List.length h2
      rw[zC6]at this
      simp only[zA8]at hn
      omega
     obtain⟨h5,h6⟩:=ih hlen (find_cons_none h).2
     have he:encA (op.toNat:Int) args=0:=encA_iff (by omega) (kinds_post (by omega) h3 fun k hk=>h4 k (by simp) hk) hsm
     refine⟨?_,fun x hx=>?_⟩
     ·rw[zB4,encL,zD1]
      show encB _++encL _=_
      rw[h5,encB_eq]
      simp only[zB5]
      rw[List.cons_append,<-h2]
      congr 1
      exact UInt8.toNat_inj.1 (by rw[show op.toNat.toUInt8.toNat=op.toNat % 256 from UInt8.toNat_ofNat' ..]; have:=op.toNat_lt; omega)
     ·rw[zB4,zB0]at hx
      rcases hx with rfl|hx
      ·exact he
      ·exact h6 x hx
theorem enc_of_dec {l:List UInt8} (h:badA l=none):encL (insA l)=l/\∀ x∈insA l,encA x.op x.args=0:=enc_was l.length (zB1 _) h
theorem val_one (c:UInt8):valR [c]=c.toNat-48:=by simp[valR]
set_option maxRecDepth 100000
theorem ix_bs {l:List UInt8} {i:Nat} (h:i<l.length):aIndex Tryz.prog 9 (.string (bs l)) (.int .i64 (i:Int))=some (.int .u8 ((l.getD i 0).toNat:Int)):=by
 have:(bs l).data.toList[i]?=some (l.getD i 0):=by
  rw[zA9]
  show l[i]?=_
  rw[zA5 h]
  rfl
 exact ix_str u9 rfl this
set_option maxRecDepth 100000
set_option maxRecDepth 100000
open Go.ChangeShapes Go.WideShapes Go.ChangeAt Go.RowKit Go.Ax
section
variable {P : Program} {w : World} {r : Reach} {base : Nat}
theorem ok_sliceB {t e:TypeId} {v:Value} (ht:P.underlying t=some (.slice e)) (h:Value.okWide P w r base t v):v=.slice none 0 0\/∃ b off len cap,v=.slice (some ⟨b,off,none⟩) len cap:=by
 unfold Value.okWide at h
 rw[ht]at h
 unfold Cell.okWide Cell.ok at h
 cases v with
 |slice a len cap =>
  cases a with
  |none =>
   simp only[ht]at h
   left
   cases len<;>cases cap<;>first|rfl|(simp at h)
  |some a =>
   simp only[ht]at h
   have hs:=h.2.2.2.1
   obtain⟨b,off,s⟩:=a
   simp only at hs
   subst hs
   exact .inr ⟨b,off,len,cap,rfl⟩
 |_=>simp[ht]at h
end
theorem trodAll_carryB {K:Type} {enc:TypeId × Value->K} {P:Program} (hl:laidOutB P=true) {W W':World} (hb:Below W.heap.size W W'):∀ {ts:List TypeId} {vs:List Value} {ds:List (DataW K)} {ps:List MemPlace},
  (ts.all fun t=>P.readableRec t&&Nat.blt t P.types.size)=true->DataW.TrodAll enc P W 0 (fun _=>true) true ts vs ds ps->(∀ x∈ps,x.block<W.heap.size)->DataW.TrodAll enc P W' 0 (fun b=>decide (b<W.heap.size)) true ts vs ds ps
 |[],[],[],ps,_,h,_=>h
 |t::ts,v::vs,d::ds,ps,ht,h,hp=>by
  obtain⟨p,q,h1,h2,rfl⟩:=h
  simp only[List.all_cons,zA7]at ht
  exact⟨p,q,Below.trod hl ht.1.1 (blt_lt ht.1.2) h1 hb (fun x hx=>hp x (by simp[hx])),trodAll_carryB hl hb (by simpa using ht.2) h2 (fun x hx=>hp x (by simp[hx])),rfl⟩
theorem ownB:ownKnob Tryz.prog.godebug=none:=by kernel_rfl
theorem laidOutBz:laidOutB Tryz.prog=true:=by kernel_rfl
theorem u5:Tryz.prog.underlying 5=some (.int .u8):=by kernel_rfl
def LaidP (w:World) (e:TypeId):Prop:=∃ c,w.heap[3]?=some (.cells c e (0,0))/\c.toList=dc powD
theorem tab_laidP {w:World} {laid:List (String × DataW Unit)} (h:laidMet Tryz.prog laid w) (hx:("internal/strconv.uint64pow10", powD)∈laid):∃ e,LaidP w e:=by
 obtain⟨c1,t1,a1,b1⟩:=laid_tab h (name := "internal/strconv.uint64pow10") (d:=powD) hx (g:=3) (t:=207) (e:=190) (ts:=[190]) (D:=1000) (n:=20) (by kernel_rfl) (by kernel_rfl) (by kernel_rfl) (by kernel_rfl) (by kernel_rfl) (by kernel_rfl) (by kernel_rfl) (blt_lt (by kernel_rfl))
 exact⟨t1,c1,a1,b1⟩
theorem u8s_of:∀ (vs:List Value),(∀ i,i<vs.length->∃ n:Int,vs.getD i undef=.int .u8 n/\0<=n/\n<=255)->∃ l:List UInt8,vs=bv l
 |[],_=>⟨[],rfl⟩
 |v::vs,hf=>by
  obtain⟨n,h0,h1,h2⟩:=hf 0 (by simp)
  have h0':v=.int .u8 n:=h0
  obtain⟨l,rfl⟩:=u8s_of vs fun i hi=>by
   have:=hf (i+1) (by simp only[zA8]; omega)
   simpa using this
  refine⟨n.toNat.toUInt8::l,?_⟩
  show _=.int .u8 ((n.toNat.toUInt8.toNat:Nat):Int)::bv l
  rw[h0',show n.toNat.toUInt8.toNat=n.toNat % 256 from UInt8.toNat_ofNat' ..,Nat.mod_eq_of_lt (by omega),Int.toNat_of_nonneg h1]
end Go.Proofs.YtnigelgcjfhghaaGreatDoor
namespace Go.Ax
open Go.ChangeShapes
section
variable {P : Program} {ρ : Ren} {H : AHeap} {w : World}
variable {K : Type} {enc : TypeId × Value -> K} {spare : Nat -> Bool} {held : Bool}
theorem fit1_af {t:TypeId} {v:Value} (h:fit1 P t v=true):af v=true:=by
 unfold fit1 at h
 split at h<;>first|rfl|cases h
theorem fits_afm:∀ {ts:List TypeId} {cs:List Value},fits P ts cs=true->∀ v∈cs,af v=true
 |[],[],_,v,hv=>by cases hv
 |t::ts,c::cs,h,v,hv=>by
  simp only[fits,zA7]at h
  rcases zB0.1 hv with rfl|hv
  ·exact fit1_af h.1
  ·exact fits_afm h.2 v hv
 |[],_::_,h,_,_=>by cases h
 |_::_,[],h,_,_=>by cases h
def chunkd (P:Program) (ts:List TypeId) (vs:List Value) (len:Nat):Prop:=∀ i,i<len->fits P ts ((vs.drop (i*ts.length)).take ts.length)=true
theorem chunkd_af {ts:List TypeId} {vs:List Value} {len:Nat} (hl:vs.length=len*ts.length) (h:chunkd P ts vs len):∀ v∈vs,af v=true:=by
 intro v hv
 rw[cut_flat len vs hl]at hv
 obtain⟨l,hl2,hv⟩:=List.mem_flatten.1 hv
 obtain⟨i,hi,rfl⟩:=zD5.1 hl2
 exact fits_afm (h i (List.mem_range.1 hi)) v hv
theorem map_val_af {vs:List Value} (h:∀ v∈vs,af v=true) (i:Nat) (hi:i<vs.length):ρ.val (vs.getD i undef)=vs.getD i undef :=
 val_af ρ _ (h _ (by simp[List.getD,hi]))
end
open Go.ChangeShapes
section
variable {P : Program} {ρ : Ren} {H : AHeap} {w : World} {g : Nat}
structure RoF (P:Program) (ρ:Ren) (H:AHeap) (w:World) (g:Nat):Prop where
 rel:Rel P ρ H w
 base:H.base=H.next
 dirty:H.dirty=[]
 al:∀ n,H.get n≠none->Fz (H.get n)/\ρ.blk n≠g
 ex:∀ n,ρ.ex n=0
theorem RoF.add (R:RoF P ρ H w g) {b off:Nat} {e:TypeId} {c:Array Value} {fz:Nat × Nat} {vs:List Value} (hb:w.heap[b]?=some (.cells c e fz)) (hc:∀ i,i<vs.length->c[off+i]?=some (ρ.val (vs.getD i undef)))
  (hs:scbL H.next vs=true) (hg:b≠g):RoF P (ρ.at H.next b off 0) (roH H e vs) w g/\Ext H.next ρ (ρ.at H.next b off 0)/\Gro H (roH H e vs):=by
 have ex:=Ren.at_ext ρ H.next b off 0
 have r:=R.rel
 have hal:∀ n,H.get n≠none->ρ.blk n=b->Fz (H.get n):=fun n hn _=>(R.al n hn).1
 have hgr:Gro H (roH H e vs):=⟨Nat.le_succ _,fun n hn=>by rw[roH_get,if_neg (by omega)]⟩
 refine⟨⟨⟨zB1 _,⟨Nat.le_succ_of_le r.glob.1,fun g hg=>?_⟩,fun m n hm hn he=>?_,fun n o hn=>?_,fun n o hn=>?_⟩,rfl,R.dirty,fun n hn=>?_,fun n=>?_⟩,ex,hgr⟩
 ·have:=r.glob.1
  rw[ex.blk g (by omega),ex.sh g (by omega)]; exact r.glob.2 g hg
 ·rw[roH_get]at hm hn ⊢
  rw[roH_get]
  by_cases h1:m=H.next<;>by_cases h2:n=H.next
  ·exact .inl (h1.trans h2.symm)
  ·rw[if_neg h2]at hn
   rw[if_pos h1,if_neg h2]
   subst h1
   rw[Ren.at_blk,ex.blk n (r.lt hn)]at he
   exact .inr ⟨roObj_fz,hal n hn he.symm⟩
  ·rw[if_neg h1]at hm
   rw[if_neg h1,if_pos h2]
   subst h2
   rw[Ren.at_blk,ex.blk m (r.lt hm)]at he
   exact .inr ⟨hal m hm he,roObj_fz⟩
  ·rw[if_neg h1]at hm
   rw[if_neg h2]at hn
   rw[if_neg h1,if_neg h2]
   rw[ex.blk m (r.lt hm),ex.blk n (r.lt hn)]at he
   exact r.inj m n hm hn he
 ·rw[roH_get]at hn
  by_cases h:n=H.next
  ·rw[if_pos h]at hn
   cases hn
   subst h
   refine⟨zC4 _,?_⟩
   simp only[sco,roObj,RV.n_ofList,RV.get_ofList]
   intro i hi
   exact scb_mono (Nat.le_succ _) _ (scbL_iff.1 hs _ (by simp[List.getD,hi]))
  ·rw[if_neg h]at hn
   have:=r.dom n o hn
   exact⟨Nat.lt_succ_of_lt this.1,this.2.mono (Nat.le_succ _)⟩
 ·rw[roH_get]at hn
  by_cases h:n=H.next
  ·rw[if_pos h]at hn
   cases hn
   subst h
   refine⟨_,by rw[Ren.at_blk]; exact hb,?_⟩
   simp only[Fits,roObj]
   refine⟨c,fz,rfl,fun i hi=>?_,fun h=>(by cases h),fun _ h=>(by cases h)⟩
   simp only[RV.n_ofList]at hi
   rw[RV.get_ofList,Ren.at_sh,val_ext ex _ (scbL_iff.1 hs _ (by simp[List.getD,hi])),Nat.add_comm]
   exact hc i hi
  ·rw[if_neg h]at hn
   obtain⟨o',h1,h2⟩:=r.obj n o hn
   have hd:=r.dom n o hn
   exact⟨o',by rw[ex.blk n hd.1]; exact h1,h2.ext hd.1 hd.2 ex⟩
 ·rw[roH_get]at hn ⊢
  by_cases h:n=H.next
  ·rw[if_pos h]
   exact⟨roObj_fz,by rw[h,Ren.at_blk]; exact hg⟩
  ·rw[if_neg h]at hn ⊢
   exact⟨(R.al n hn).1,by rw[ex.blk n (r.lt hn)]; exact (R.al n hn).2⟩
 ·by_cases h:n=H.next
  ·exact if_pos h
  ·exact (if_neg h).trans (R.ex n)
theorem RoF.skipE (R:RoF P ρ H w g) {ρ':Ren} (ex:Ext H.next ρ ρ') (he:∀ n,ρ'.ex n=0):RoF P ρ' ⟨H.root,H.next+1,H.next+1,H.dirty⟩ w g/\Gro H ⟨H.root,H.next+1,H.next+1,H.dirty⟩:=by
 have R':Ro P ρ H w:=⟨R.rel,R.base,R.dirty,fun n hn=>.inl (R.al n hn).1⟩
 obtain⟨k1,k2⟩:=R'.skipE ex
 exact⟨⟨k1.rel,rfl,R.dirty,fun n hn=>⟨(R.al n hn).1,by rw[ex.blk n (R.rel.lt hn)]; exact (R.al n hn).2⟩,he⟩,k2⟩
theorem RoF.sl (R:RoF P ρ H w g) {sz len cap b off:Nat} {sp:Option Nat} (hspot:sp=none\/len=0/\cap=0) {vs:List Value} (hlen:vs.length=len*sz)
  (hcell:len=0\/∃ c e fz,w.heap[b]?=some (.cells c e fz)/\∀ i,i<vs.length->c[off+i]?=some (ρ.val (vs.getD i undef))) (hs:scbL H.next vs=true) (hg:len=0\/b≠g) (hlc:len<=cap) :
  ∃ ρ1 H1 u,RoF P ρ1 H1 w g/\Ext H.next ρ ρ1/\Gro H H1/\ρ1.val u=.slice (some ⟨b,off,sp⟩) len cap/\scb H1.next u=true/\SlAt H1 sz u vs len:=by
 have hex:∀ s,∀ n,(ρ.at H.next b s 0).ex n=0:=fun s n=>by
  by_cases h:n=H.next
  ·exact if_pos h
  ·exact (if_neg h).trans (R.ex n)
 by_cases hz:len=0
 ·cases sp with
  |none =>
   obtain⟨k1,k3⟩:=R.skipE (Ren.at_ext ρ H.next b off 0) (hex off)
   exact⟨_,_,.slice (some ⟨H.next,0,some 0⟩) len cap,k1,Ren.at_ext ρ H.next b off 0,k3,val_sl,blt_of (zC4 _),hlen,_,_,rfl,.inl hz⟩
  |some j =>
   have hc:cap=0:=by
    rcases hspot with h|h
    ·cases h
    ·exact h.2
   subst hc hz
   obtain⟨k1,k3⟩:=R.skipE (ρ.atJ_ext H.next b off j) (fun n=>by
    by_cases h:n=H.next
    ·exact if_pos h
    ·exact (if_neg h).trans (R.ex n))
   exact⟨_,_,.slice (some ⟨H.next,0,some 1⟩) 0 0,k1,ρ.atJ_ext H.next b off j,k3,val_slJ,blt_of (zC4 _),hlen,_,_,rfl,.inl rfl⟩
 ·obtain rfl:sp=none:=by
   rcases hspot with h|h
   ·exact h
   ·exact absurd h.1 hz
  obtain⟨c,e,fz,hb,hc⟩:=hcell.resolve_left hz
  obtain⟨k1,k2,k3⟩:=R.add hb hc hs (hg.resolve_left hz)
  exact⟨_,_,.slice (some ⟨H.next,0,some 0⟩) len cap,k1,k2,k3,val_sl,blt_of (zC4 _),hlen,_,_,rfl,.inr ⟨H.next,e,rfl,zC4 _,roH_rk,hlc⟩⟩
end
end Go.Ax
namespace Go.Proofs.YtnigelgcjfhghaaGreatDoor
open Go.ChangeShapes Go.WideShapes Go.ChangeAt Go.RowKit Go.Ax
theorem ne_pow {w:World} {e e':TypeId} {b i:Nat} {c:Array Value} {fz:Nat × Nat} {k:IntKind} {n:Int} (hl:LaidP w e) (hb:w.heap[b]?=some (.cells c e' fz)) (hc:c[i]?=some (.int k n)) (hk:k≠.u64):b≠3:=fun h=>by
 obtain⟨c1,a1,b1⟩:=hl
 rw[h,a1]at hb
 simp only[Option.some.injEq,Obj.cells.injEq]at hb
 rw[<-hb.1]at hc
 have:Value.int k n∈dc powD:=by
  rw[<-b1,Array.mem_toList_iff]
  exact Array.mem_of_getElem? hc
 rw[pow_list]at this
 obtain⟨y,_,h⟩:=zD5.1 this
 cases h
 exact hk rfl
theorem ints_of:∀ (vs:List Value),(∀ i,i<vs.length->∃ n:Int,vs.getD i undef=.int .i64 n)->∃ l:List Int,vs=iv l
 |[],_=>⟨[],rfl⟩
 |v::vs,hf=>by
  obtain⟨n,h0⟩:=hf 0 (by simp)
  have h0':v=.int .i64 n:=h0
  obtain⟨l,rfl⟩:=ints_of vs fun i hi=>by
   have:=hf (i+1) (by simp only[zA8]; omega)
   simpa using this
  exact⟨n::l,by rw[h0']; rfl⟩
theorem one_cell {vs:List Value} {i:Nat} (h:i<vs.length):(vs.drop (i*1)).take 1=[vs.getD i undef]:=by
 rw[zD0,List.drop_eq_getElem_cons h,List.take_succ_cons,List.take_zero,zA9,zA5 h]
 rfl
section
variable {K : Type} {enc : TypeId × Value -> K} {w : World} {ρ : Ren} {H : AHeap} {e' : TypeId}
theorem u3C:Tryz.prog.underlying 3=some (.int .i64):=by kernel_rfl
theorem RoF_bytes (R:RoF Tryz.prog ρ H w 3) (hl:LaidP w e') {fuel:Nat} {v:Value} {x:DataW K × List MemPlace} (h:DataW.trod enc Tryz.prog w 0 (fun _=>true) true fuel 23 [v]=some x) :
  ∃ ρ1 H1 u l,RoF Tryz.prog ρ1 H1 w 3/\Ext H.next ρ ρ1/\Gro H H1/\ρ1.val u=v/\scb H1.next u=true/\RdAt H1 1 u (bv l) l.length:=by
 rcases DataW.trod_slice u23 h with⟨h1,_⟩|⟨a,len,cap,_,_,_,_,h1,_,_,hlc,_⟩
 ·simp only[List.cons.injEq,and_true]at h1
  subst h1
  exact⟨ρ,H,.slice none 0 0,[],R,Ext.refl _ _,Gro.refl,by rw[Ren.val],rfl,RdAt.nil⟩
 ·simp only[List.cons.injEq,and_true]at h1
  subst h1
  have hs0:=sl_spot (fun _=>rfl) u23 s5 h
  obtain⟨b,off,s⟩:=a
  simp only at hs0
  rcases hs0 with hs0|⟨rfl,rfl⟩
  case inr =>
   obtain⟨ρ1,H1,u,q1,q2,q3,q4,q5,q6⟩:=R.sl (sz:=1) (len:=0) (cap:=0) (b:=b) (off:=off) (sp:=s) (vs:=[]) (.inr ⟨rfl,rfl⟩) (by simp) (.inl rfl) rfl (.inl rfl) (zB1 _)
   exact⟨ρ1,H1,u,[],q1,q2,q3,q4,q5,SlAt.rd q6⟩
  subst hs0
  obtain⟨vs,n,k1,k2,k3⟩:=sl_cells u23 s5 h
  obtain⟨l,rfl⟩:=u8s_of vs fun i hi=>by
   obtain⟨y,hy⟩:=k3 i (by omega)
   rw[one_cell hi]at hy
   obtain⟨n,h1,_,hwf⟩:=DataW.trod_int u5 hy
   simp only[List.cons.injEq,and_true]at h1
   simp only[Lit.wf,zA7,decide_eq_true_eq]at hwf
   exact⟨n,h1,hwf⟩
  have hbl:(bv l).length=l.length:=by simp[bv]
  have hll:len=l.length:=by omega
  subst hll
  have hval:∀ i,i<(bv l).length->ρ.val ((bv l).getD i undef)=(bv l).getD i undef:=fun i hi=>by
   rw[zA9,bv_get,zA5 (by omega)]
   simp[Ren.val]
  have hcell:l.length=0\/∃ c e fz,w.heap[b]?=some (.cells c e fz)/\∀ i,i<(bv l).length->c[off+i]?=some (ρ.val ((bv l).getD i undef)):=by
   rcases k2 with h|⟨c,e,fz,h1,h2⟩
   ·exact .inl (by omega)
   ·exact .inr ⟨c,e,fz,h1,fun i hi=>by rw[hval i hi]; exact h2 i hi⟩
  have hne:l.length=0\/b≠3:=by
   rcases Nat.eq_zero_or_pos l.length with h0|h0
   ·exact .inl h0
   ·rcases k2 with h|⟨c,e,fz,h1,h2⟩
    ·exact .inl (by omega)
    ·right
     have h3:=h2 0 (by omega)
     rw[zA9,bv_get,zA5 h0]at h3
     exact ne_pow hl h1 (i:=off+0) (k:=.u8) (n:=(l[0].toNat:Int)) (by simpa using h3) (by decide)
  obtain⟨ρ1,H1,u,q1,q2,q3,q4,q5,q6⟩:=R.sl (cap:=cap) (.inl rfl) k1 hcell (by rw[scbL_iff]; intro v' hv'; obtain⟨w',_,rfl⟩:=zD5.1 hv'; rfl) hne hlc
  exact⟨ρ1,H1,u,l,q1,q2,q3,q4,q5,SlAt.rd q6⟩
theorem RoF_ints (R:RoF Tryz.prog ρ H w 3) (hl:LaidP w e') {fuel:Nat} {v:Value} {x:DataW K × List MemPlace} (h:DataW.trod enc Tryz.prog w 0 (fun _=>true) true fuel 35 [v]=some x) :
  ∃ ρ1 H1 u l,RoF Tryz.prog ρ1 H1 w 3/\Ext H.next ρ ρ1/\Gro H H1/\ρ1.val u=v/\scb H1.next u=true/\RdAt H1 1 u (iv l) l.length:=by
 rcases DataW.trod_slice u35 h with⟨h1,_⟩|⟨a,len,cap,_,_,_,_,h1,_,_,hlc,_⟩
 ·simp only[List.cons.injEq,and_true]at h1
  subst h1
  exact⟨ρ,H,.slice none 0 0,[],R,Ext.refl _ _,Gro.refl,by rw[Ren.val],rfl,RdAt.nil⟩
 ·simp only[List.cons.injEq,and_true]at h1
  subst h1
  have hs0:=sl_spot (fun _=>rfl) u35 s3 h
  obtain⟨b,off,s⟩:=a
  simp only at hs0
  rcases hs0 with hs0|⟨rfl,rfl⟩
  case inr =>
   obtain⟨ρ1,H1,u,q1,q2,q3,q4,q5,q6⟩:=R.sl (sz:=1) (len:=0) (cap:=0) (b:=b) (off:=off) (sp:=s) (vs:=[]) (.inr ⟨rfl,rfl⟩) (by simp) (.inl rfl) rfl (.inl rfl) (zB1 _)
   exact⟨ρ1,H1,u,[],q1,q2,q3,q4,q5,SlAt.rd q6⟩
  subst hs0
  obtain⟨vs,n,k1,k2,k3⟩:=sl_cells u35 s3 h
  obtain⟨l,rfl⟩:=ints_of vs fun i hi=>by
   obtain⟨y,hy⟩:=k3 i (by omega)
   rw[one_cell hi]at hy
   obtain⟨n,h1,_,_⟩:=DataW.trod_int u3C hy
   simp only[List.cons.injEq,and_true]at h1
   exact⟨n,h1⟩
  have hbl:(iv l).length=l.length:=by simp[iv]
  have hll:len=l.length:=by omega
  subst hll
  have hval:∀ i,i<(iv l).length->ρ.val ((iv l).getD i undef)=(iv l).getD i undef:=fun i hi=>by
   rw[zA9,iv_get,zA5 (by omega)]
   simp[Ren.val]
  have hcell:l.length=0\/∃ c e fz,w.heap[b]?=some (.cells c e fz)/\∀ i,i<(iv l).length->c[off+i]?=some (ρ.val ((iv l).getD i undef)):=by
   rcases k2 with h|⟨c,e,fz,h1,h2⟩
   ·exact .inl (by omega)
   ·exact .inr ⟨c,e,fz,h1,fun i hi=>by rw[hval i hi]; exact h2 i hi⟩
  have hne:l.length=0\/b≠3:=by
   rcases Nat.eq_zero_or_pos l.length with h0|h0
   ·exact .inl h0
   ·rcases k2 with h|⟨c,e,fz,h1,h2⟩
    ·exact .inl (by omega)
    ·right
     have h3:=h2 0 (by omega)
     rw[zA9,iv_get,zA5 h0]at h3
     exact ne_pow hl h1 (i:=off+0) (k:=.i64) (n:=l[0]) (by simpa using h3) (by decide)
  obtain⟨ρ1,H1,u,q1,q2,q3,q4,q5,q6⟩:=R.sl (cap:=cap) (.inl rfl) k1 hcell (by rw[scbL_iff]; intro v' hv'; obtain⟨w',_,rfl⟩:=zD5.1 hv'; rfl) hne hlc
  exact⟨ρ1,H1,u,l,q1,q2,q3,q4,q5,SlAt.rd q6⟩
end
end Go.Proofs.YtnigelgcjfhghaaGreatDoor
namespace Go.Ax
open Go.ChangeShapes
section
variable {P : Program} {ρ : Ren} {H : AHeap} {w : World}
variable {K : Type} {enc : TypeId × Value -> K} {spare : Nat -> Bool} {held : Bool}
def flds (P:Program) (t:TypeId):Option (List (TypeId × Nat)) :=
 match P.underlying t with
 |some (.struct fs)=>some (fs.toList.map fun f=>(f.type,f.offset))
 |_=>none
theorem trod_flds {t:TypeId} {l:List (TypeId × Nat)} {fuel base:Nat} {cs:List Value} {x:DataW K × List MemPlace} (h:flds P t=some l) (hx:DataW.trod enc P w base spare held fuel t cs=some x) :
  cs.length=P.cellsOf t/\∃ n:Nat,∀ (i:Nat) (ty:TypeId) (off:Nat),l[i]?=some (ty,off)->∃ y,DataW.trod enc P w base spare held n ty ((cs.drop off).take (P.cellsOf ty))=some y:=by
 unfold flds at h
 split at h
 ·rename_i fs hu
  simp only[Option.some.injEq]at h
  subst h
  obtain⟨xs,n,_,_,hl,hxs,hf⟩:=DataW.trod_struct hu hx
  refine⟨hl,n,fun i ty off hi=>?_⟩
  rw[zE5,zB2]at hi
  obtain⟨f,hfi,he⟩:=hi
  simp only[Prod.mk.injEq]at he
  obtain⟨rfl,rfl⟩:=he
  have hfi':fs[i]?=some f:=by simpa using hfi
  have hlt:i<fs.size:=(Array.getElem?_eq_some_iff.1 hfi').1
  have:=hf i f hfi'
  rw[zA5 (by omega)]at this
  exact⟨_,this⟩
 ·cases h
theorem chunk_of {α:Type} {ts:List TypeId} {f:α->List Value} (hf:∀ cs,fits P ts cs=true->∃ a,cs=f a):∀ (len:Nat) (vs:List Value),vs.length=len*ts.length->chunkd P ts vs len->∃ l:List α,l.length=len/\vs=l.flatMap f
 |0,vs,hl,_=>⟨[],rfl,by simpa using hl⟩
 |len+1,vs,hl,h=>by
  have h0:=h 0 (by omega)
  rw[Nat.zero_mul,zF0]at h0
  obtain⟨a,ha⟩:=hf _ h0
  obtain⟨l,h1,h2⟩:=chunk_of hf len (vs.drop ts.length) (by rw[List.length_drop,hl,Nat.succ_mul]; omega) (fun i hi=>by
   have:=h (i+1) (by omega)
   rw[List.drop_drop]
   rw[Nat.succ_mul,Nat.add_comm]at this
   exact this)
  refine⟨a::l,by simp[h1],?_⟩
  rw[zD1,<-h2,<-ha,List.take_append_drop]
end
end Go.Ax
namespace Go.Proofs.YtnigelgcjfhghaaGreatDoor
set_option maxRecDepth 100000
def opsK (c:UInt8) (ks:List UInt8) (args:List Int):List Int:=(ks.zip args).filterMap fun p=>if p.1=c then some p.2 else none
theorem opsK_cons (c k:UInt8) (ks:List UInt8) (a:Int) (args:List Int):opsK c (k::ks) (a::args)=(if k=c then [a] else [])++opsK c ks args:=by
 simp only[opsK,List.zip_cons_cons,List.filterMap_cons]
 split<;>rename_i h
 ·split at h
  ·cases h
  ·rename_i h2; rw[if_neg h2]; rfl
 ·split at h
  ·rename_i h2
   simp only[Option.some.injEq]at h
   rw[if_pos h2,h]
   rfl
  ·cases h
theorem opsK_nil (c:UInt8) (args:List Int):opsK c [] args=[]:=rfl
def evens:List Int->List Int
 |[]=>[]
 |[a]=>[a]
 |a::_::r=>a::evens r
def constsR (op:Nat) (args:List Int):List Int :=
 if op=0\/op=5\/op=6\/op=7\/op=21\/op=24\/op=25 then [args.getD 0 0] else if op=17 then evens (args.drop 1) else []
def targsR (op:Nat) (args:List Int):List Int :=
 if op=10\/op=11\/op=12\/op=13\/op=14\/op=16\/op=18 then [args.getD 0 0] else if op=17 then evens (args.drop 2) else []
theorem fix_kinds (op:Nat) (h:op<28) (h1:op≠17) (h2:op≠24) :
  (op=0\/op=5\/op=6\/op=7\/op=21\/op=25)/\kindsR op []=[107]\/(op=10\/op=11\/op=12\/op=13\/op=14\/op=16\/op=18)/\kindsR op []=[116] \/
  (op=1\/op=2\/op=22\/op=23)/\kindsR op []=[105]\/(op=4\/op=8\/op=9)/\kindsR op []=[110]\/(op=3\/op=15\/op=19\/op=20\/op=26\/op=27)/\kindsR op []=[]:=by
 have:∀ i:Fin 28,i.val≠17->i.val≠24->((i.val=0\/i.val=5\/i.val=6\/i.val=7\/i.val=21\/i.val=25)/\kindsR i.val []=[107]\/(i.val=10\/i.val=11\/i.val=12\/i.val=13\/i.val=14\/i.val=16\/i.val=18)/\kindsR i.val []=[116] \/
  (i.val=1\/i.val=2\/i.val=22\/i.val=23)/\kindsR i.val []=[105]\/(i.val=4\/i.val=8\/i.val=9)/\kindsR i.val []=[110]\/(i.val=3\/i.val=15\/i.val=19\/i.val=20\/i.val=26\/i.val=27)/\kindsR i.val []=[]):=by decide +kernel
 exact this ⟨op,h⟩ h1 h2
theorem fix_same {op:Nat} (h:op<28) (h1:op≠17) (h2:op≠24) (args:List Int):kindsR op args=kindsR op []:=by
 rcases kinds_three h with⟨q,_,e⟩|⟨h,_⟩|⟨h,_⟩
 ·rw[e,e]
 ·exact absurd h h1
 ·exact absurd h h2
theorem opsK_kt:∀ (n:Nat) (args:List Int),args.length=2*n->opsK 107 (repB [107,116] n) args=evens args/\opsK 116 (repB [107,116] n) args=evens (args.drop 1)
 |0,args,h=>by
  have:args=[]:=zE7 (by omega)
  subst this
  exact⟨rfl,rfl⟩
 |n+1,args,h=>by
  match args,h with
  |a::b::r,h =>
   obtain⟨h1,h2⟩:=opsK_kt n r (by simp only[zA8]at h; omega)
   have e:repB [107,116] (n+1)=107::116::repB [107,116] n:=rfl
   rw[e,opsK_cons,opsK_cons,opsK_cons,opsK_cons,h1,h2]
   refine⟨rfl,?_⟩
   cases r<;>rfl
theorem guard_kinds {args:List Int} (h:args.length=(guardR args).length):opsK 107 (guardR args) args=evens (args.drop 1)/\opsK 116 (guardR args) args=evens (args.drop 2):=by
 have hne:args≠[]:=fun e=>by rw[e]at h; simp[guardR]at h
 have hl:=guard_len hne
 obtain⟨a,r,rfl⟩:=List.exists_cons_of_ne_nil hne
 rw[hl]at h
 have h2:=opsK_kt (a.toNat) r (by simp only[zA8,List.getD_cons_zero]at h; omega)
 have e:guardR (a::r)=110::repB [107,116] a.toNat:=by rw[guardR,if_neg hne]; rfl
 rw[e,opsK_cons,opsK_cons,h2.1,h2.2]
 exact⟨rfl,rfl⟩
theorem opsK_rep (c k:UInt8) (hc:k≠c):∀ (n:Nat) (args:List Int),opsK c (repB [k] n) args=[]
 |0,_=>rfl
 |n+1,[]=>by simp[opsK]
 |n+1,a::r=>by
  have e:repB [k] (n+1)=k::repB [k] n:=rfl
  rw[e,opsK_cons,if_neg hc,opsK_rep c k hc n r]
  rfl
theorem opsK_all (k:UInt8):∀ (n:Nat) (args:List Int),args.length=n->opsK k (repB [k] n) args=args
 |0,args,h=>by
  have:args=[]:=zE7 h
  rw[this]
  rfl
 |n+1,args,h=>by
  match args,h with
  |a::r,h =>
   have e:repB [k] (n+1)=k::repB [k] n:=rfl
   rw[e,opsK_cons,if_pos rfl,opsK_all k n r (by simpa using h)]
   rfl
theorem env_kinds {args:List Int} (h:args.length=(envR args).length):opsK 107 (envR args) args=[args.getD 0 0]/\opsK 116 (envR args) args=[]/\opsK 105 (envR args) args=args.drop 2:=by
 have h2:¬args.length<2:=fun h2=>by rw[env_len0 h2]at h; omega
 have hl:=env_len (args:=args) (by omega)
 match args,h2 with
 |a::b::r,_ =>
  have e:envR (a::b::r)=107::110::repB [105] b.toNat:=by rw[envR,if_neg (by simp only[zA8]; omega)]; rfl
  rw[hl]at h
  have h3:r.length=b.toNat:=by
   simp only[zA8,List.getD_cons_succ,List.getD_cons_zero]at h
   omega
  rw[e]
  simp only[opsK_cons]
  rw[opsK_rep 107 105 (by decide),opsK_rep 116 105 (by decide),opsK_all 105 _ r h3]
  exact⟨rfl,rfl,rfl⟩
theorem kinds_agree {op:Nat} {args:List Int} (hop:op<28) (h:args.length=(kindsR op args).length):opsK 107 (kindsR op args) args=constsR op args/\opsK 116 (kindsR op args) args=targsR op args:=by
 by_cases h1:op=17
 ·subst h1
  have e:kindsR 17 args=guardR args:=rfl
  rw[e]at h ⊢
  obtain⟨k1,k2⟩:=guard_kinds h
  rw[k1,k2]
  exact⟨rfl,rfl⟩
 by_cases h2:op=24
 ·subst h2
  have e:kindsR 24 args=envR args:=rfl
  rw[e]at h ⊢
  obtain⟨k1,k2,_⟩:=env_kinds h
  rw[k1,k2]
  exact⟨rfl,rfl⟩
 rw[fix_same hop h1 h2 args]at h ⊢
 unfold constsR targsR
 rcases fix_kinds op hop h1 h2 with⟨ho,e⟩|⟨ho,e⟩|⟨ho,e⟩|⟨ho,e⟩|⟨ho,e⟩<;>rw[e]at h ⊢
 ·match args,h with
  |[a],_ =>
   rw[if_pos (by omega),if_neg (by omega),if_neg h1,opsK_cons,opsK_cons]
   exact⟨rfl,rfl⟩
 ·match args,h with
  |[a],_ =>
   rw[if_neg (by omega),if_neg h1,if_pos (by omega),opsK_cons,opsK_cons]
   exact⟨rfl,rfl⟩
 ·match args,h with
  |[a],_ =>
   rw[if_neg (by omega),if_neg h1,if_neg (by omega),if_neg h1,opsK_cons,opsK_cons]
   exact⟨rfl,rfl⟩
 ·match args,h with
  |[a],_ =>
   rw[if_neg (by omega),if_neg h1,if_neg (by omega),if_neg h1,opsK_cons,opsK_cons]
   exact⟨rfl,rfl⟩
 ·rw[if_neg (by omega),if_neg h1,if_neg (by omega),if_neg h1]
  exact⟨rfl,rfl⟩
theorem kinds_idx {op:Nat} {args:List Int} (hop:op<28) (h:args.length=(kindsR op args).length):opsK 105 (kindsR op args) args=if op=1\/op=2\/op=22\/op=23 then [args.getD 0 0] else if op=24 then args.drop 2 else []:=by
 by_cases h1:op=17
 ·subst h1
  have e:kindsR 17 args=guardR args:=rfl
  rw[e]at h ⊢
  have hne:args≠[]:=fun e=>by rw[e]at h; simp[guardR]at h
  obtain⟨a,r,rfl⟩:=List.exists_cons_of_ne_nil hne
  have e:guardR (a::r)=110::repB [107,116] a.toNat:=by rw[guardR,if_neg hne]; rfl
  rw[e,opsK_cons]
  have:∀ (n:Nat) (l:List Int),opsK 105 (repB [107,116] n) l=[]:=by
   intro n
   induction n with
   |zero=>intro l; rfl
   |succ n ih =>
    intro l
    have e:repB [107,116] (n+1)=107::116::repB [107,116] n:=rfl
    match l with
    |[]=>simp[opsK]
    |[b]=>rw[e,opsK_cons]; rfl
    |b::d::q=>rw[e,opsK_cons,opsK_cons,ih q]; rfl
  rw[this]
  rfl
 by_cases h2:op=24
 ·subst h2
  have e:kindsR 24 args=envR args:=rfl
  rw[e]at h ⊢
  rw[(env_kinds h).2.2]
  rfl
 rw[fix_same hop h1 h2 args]at h ⊢
 rcases fix_kinds op hop h1 h2 with⟨ho,e⟩|⟨ho,e⟩|⟨ho,e⟩|⟨ho,e⟩|⟨ho,e⟩<;>rw[e]at h ⊢
 ·match args,h with
  |[a],_=>rw[if_neg (by omega),if_neg h2,opsK_cons]; rfl
 ·match args,h with
  |[a],_=>rw[if_neg (by omega),if_neg h2,opsK_cons]; rfl
 ·match args,h with
  |[a],_=>rw[if_pos (by omega),opsK_cons]; rfl
 ·match args,h with
  |[a],_=>rw[if_neg (by omega),if_neg h2,opsK_cons]; rfl
 ·rw[if_neg (by omega),if_neg h2]
  rfl
set_option maxRecDepth 100000
structure Fr where
 kind:Int
 height:Int
 bound:Int
deriving DecidableEq
structure St where
 h:Int
 b:Int
 fs:List Fr
deriving DecidableEq
def topS (s:St):Fr:=s.fs.getLastD ⟨-1,0,0⟩
def effR (op:Nat) (args:List Int):Int × Int :=
 if op=0\/op=1\/op=5\/op=22\/op=24 then (0,1) else
 if op=4\/op=9 then (args.getD 0 0+1,1) else
 if op=21\/op=25\/op=26\/op=27 then (1,1) else
 if op=8\/op=10\/op=17\/op=18\/op=19\/op=20 then (0,0) else (1,0)
def missR (op:Nat) (args:List Int) (h:Int):Bool :=
 decide (h<(effR op args).1) ||
 (if op=1\/op=22 then decide (h<=args.getD 0 0) else
  if op=2\/op=23 then decide (h-1<=args.getD 0 0) else
  if op=24 then (args.drop 2).any fun a=>decide (h<=a) else false)
def missC (op:Nat) (args:List Int) (h:Int):Bool :=
 if op=2\/op=23 then decide (h-1<0)||(opsK 105 (kindsR op args) args).any fun a=>decide (h-1<=a)
 else decide (h<(effR op args).1)||(opsK 105 (kindsR op args) args).any fun a=>decide (h<=a)
theorem miss_agree {op:Nat} {args:List Int} {h:Int} (hop:op<28) (hk:args.length=(kindsR op args).length):missC op args h=missR op args h:=by
 unfold missC missR
 rw[kinds_idx hop hk]
 by_cases h2:op=2\/op=23
 ·have e:(effR op args).1=1:=by
   unfold effR
   rw[if_neg (by omega),if_neg (by omega),if_neg (by omega),if_neg (by omega)]
  rw[if_pos h2,if_pos (by omega),e,if_neg (by omega),if_pos h2]
  have:decide (h-1<0)=decide (h<1):=decide_eq_decide.2 (by omega)
  rw[this]
  simp
 ·rw[if_neg h2,if_neg h2]
  congr 1
  by_cases h1:op=1\/op=22
  ·rw[if_pos (by omega),if_pos h1]
   simp
  ·rw[if_neg (by omega),if_neg h1]
   by_cases h3:op=24
   ·rw[if_pos h3,if_pos h3]
   ·rw[if_neg h3,if_neg h3]
    rfl
def disR (op:Nat) (args:List Int) (s:St):Bool :=
 let level:=decide (s.h=(topS s).height+1)&&decide (s.b=(topS s).bound)
 if op=8 then decide (s.b-args.getD 0 0<(topS s).bound) else
 if op=19 then !level||!(decide ((topS s).kind=16)||decide ((topS s).kind=17)||decide ((topS s).kind=18)) else
 if op=20 then !level||!decide ((topS s).kind=19) else
 if op=15 then decide (s.fs≠[])||decide (0<s.b) else false
def aftR (op:Nat) (args:List Int) (s:St):St × St :=
 let h:=s.h-(effR op args).1+(effR op args).2
 if op=13\/op=14 then (⟨h,s.b,s.fs⟩,⟨s.h,s.b,s.fs⟩) else
 if op=7 then (⟨h,s.b+1,s.fs⟩,⟨h,s.b,s.fs⟩) else
 if op=8 then (⟨h,s.b-args.getD 0 0,s.fs⟩,⟨h,s.b,s.fs⟩) else
 if op=16\/op=17 then (⟨h,s.b,s.fs++[⟨(op:Int),h,s.b⟩]⟩,⟨h+1,s.b,s.fs⟩) else
 if op=18 then (⟨h,s.b,s.fs++[⟨18,h,s.b⟩]⟩,⟨h+1,s.b,s.fs++[⟨19,h,s.b⟩]⟩) else
 if op=19 then (⟨h,s.b,if (topS s).kind=18 then s.fs.dropLast++[⟨19,(topS s).height,(topS s).bound⟩] else s.fs.dropLast⟩,⟨h,s.b,s.fs⟩) else
 if op=20 then (⟨h,s.b,s.fs.dropLast⟩,⟨h,s.b,s.fs⟩) else (⟨h,s.b,s.fs⟩,⟨h,s.b,s.fs⟩)
def deepR (depth MO MB:Int) (s:St):Bool:=decide (depth<s.h)||decide (MO<(s.fs.length:Int))||decide (MB<s.b)
def giveR (ks:List (Option St)) (i:Nat) (s:St):Option (List (Option St)) :=
 match ks.getD i none with
 |none=>some (ks.set i (some s))
 |some t=>if t=s then some ks else none
def givesR (ks:List (Option St)):List Nat->St->Option (List (Option St))
 |[],_=>some ks
 |i::r,s=>match giveR ks i s with
  |some ks=>givesR ks r s
  |none=>none
def findR (l:List Ins) (at':Int):Int:=match l.findIdx? fun x=>decide (x.pos=at') with
 |some i=>(i:Int)
 |none=>-1
def procR (eS eO eD eE depth MO MB:Int) (l:List Ins) (ks:List (Option St)) (i:Nat):Except Int (List (Option St)) :=
 match l[i]?,ks.getD i none with
 |some x,some s =>
  let op:=x.op.toNat
  if missR op x.args s.h=true then .error eS else
  if disR op x.args s=true then .error eO else
  if deepR depth MO MB (aftR op x.args s).1=true\/targsR op x.args≠[]/\deepR depth MO MB (aftR op x.args s).2=true then .error eD else
  if (op≠10/\op≠15)/\i+1=l.length then .error eE else
  match (if op≠10/\op≠15 then giveR ks (i+1) (aftR op x.args s).1 else some ks) with
  |none=>.error eS
  |some ks=>match givesR ks ((targsR op x.args).map fun t=>(findR l t).toNat) (aftR op x.args s).2 with
   |none=>.error eS
   |some ks=>.ok ks
 |_,_=>.error 0
theorem give_len {ks ks':List (Option St)} {i:Nat} {s:St} (h:giveR ks i s=some ks'):ks'.length=ks.length:=by
 unfold giveR at h
 split at h
 ·simp only[Option.some.injEq]at h
  rw[<-h,List.length_set]
 ·split at h
  ·simp only[Option.some.injEq]at h
   rw[<-h]
  ·cases h
theorem gives_len:∀ {r:List Nat} {ks ks':List (Option St)} {s:St},givesR ks r s=some ks'->ks'.length=ks.length
 |[],ks,ks',s,h=>by
  simp only[givesR,Option.some.injEq]at h
  rw[h]
 |i::r,ks,ks',s,h=>by
  rw[givesR]at h
  cases hg:giveR ks i s with
  |none=>rw[hg]at h; cases h
  |some k1 =>
   rw[hg]at h
   rw[gives_len h,give_len hg]
open Go.Ax
set_option maxRecDepth 100000
set_option maxRecDepth 100000
theorem int_app {X:AHeap} {v:Value} {l:List Int} {x:Nat} (h:ArgA X v l) (hx:X.next=x) (hb:X.base<=X.next) (hlen:l.length<=10000000) (n:Int) :
  ∃ G,aBuiltin Tryz.prog (ext X [⟨3,false,[.int .i64 n]⟩]) .append ⟨[35,35]⟩ [v,.slice (some ⟨x+0,0,some 0⟩) 1 1]=some (.slice (some ⟨x+1,0,none⟩) (l.length+1) (l.length+1),ext G [])/\ArgA G (.slice (some ⟨x+1,0,none⟩) (l.length+1) (l.length+1)) (l++[n])/\Mod (idsV v) X G/\G.next=x+2:=by
 have h2:VsAt (ext X [⟨3,false,[.int .i64 n]⟩]) 3 1 v (iv l) l.length:=VsAt.of h (by rw[ext_next]; omega) (fun n hn=>ext_get_old (h.ne n hn).2)
 have hk:bk (ext X [⟨3,false,[.int .i64 n]⟩]) (x+0)=some ⟨3,false,[.int .i64 n]⟩:=by rw[bk_at hx (by simp)]; rfl
 have hsm:small (l.length+1) 8=true:=by simp only[small,zA7,zD9]; omega
 have hsc:scbL (ext X [⟨3,false,[.int .i64 n]⟩]).next (iv l++[.int .i64 n])=true:=by
  rw[scbL_iff]
  intro v' hv'
  rcases zB7.1 hv' with hv'|hv'
  ·obtain⟨w',_,rfl⟩:=zD5.1 hv'; rfl
  ·rw[zA4]at hv'; rw[hv']; rfl
 obtain⟨G,k1,k2,k3,k4,_⟩:=vs_app (P:=Tryz.prog) (H:=ext X [⟨3,false,[.int .i64 n]⟩]) (st:=35) (xt:=35) (e:=3) (sz:=1) (by1:=8) (z:=.int .i64 0) (n:=x+0) (off:=0) (cnt2:=1) (cap:=1) (s:=some 0) (x:=x+1) (ws:=[.int .i64 n]) (b:=⟨3,false,[.int .i64 n]⟩)
  u35 s3 (by kernel_rfl) (by kernel_rfl) rfl (by kernel_rfl) h2 (rk_of hk) (by simp) rfl rfl (by decide) hsm (by rw[ext_next,hx]; rfl) hsc
 refine⟨G,k1,?_,(Mod.ext hb).trans (k3 ((Mod.ext (W:=[]) hb).ok hb)),k4⟩
 show VsAt G 3 1 _ (iv (l++[n])) (l++[n]).length
 rw[zC6,show iv (l++[n])=iv l++[.int .i64 n] by simp[iv]]
 exact k2
set_option maxRecDepth 100000
set_option maxRecDepth 100000
set_option maxRecDepth 100000
set_option maxRecDepth 100000
theorem InsRd.fld {H:AHeap} {v:Value} {ls:List Iv} (h:InsRd H v ls) {i:Nat} {x:Iv} (hi:ls[i]?=some x):∃ n off s c e o M,v=.slice (some ⟨n,off,s⟩) ls.length c/\n<H.next/\rk H n=some ⟨e,o,M⟩/\aIndexAddr Tryz.prog 42 v (.int .i64 (i:Int))=some (.pointer (some ⟨n,off+i*3,none⟩))/\ldB Tryz.prog 59 (off+i*3) (some ⟨e,o,M⟩)=some (ivV x)/\M[off+i*3]?=some (.int .i64 x.1.pos)/\M[off+(i*3+1)]?=some (.int .i64 x.1.op)/\M[off+(i*3+2)]?=some x.2:=by
 have hl:=(zE6.1 hi).1
 obtain⟨n,off,s,c,e,o,M,rfl,h2,h3,h4,h5⟩:=h.rd.at_ hl
 rw[insC_at hi]at h5
 have h1:aggT Tryz.prog 59=some true:=by kernel_rfl
 have hM:∀ k,k<3->M[off+i*3+k]?=(ivC x)[k]?:=fun k hk=>by
  rw[<-h5,List.getElem?_take_of_lt hk,List.getElem?_drop]
 refine⟨n,off,s,c,e,o,M,rfl,h2,h3,ia_of u42 s59 hl,?_,hM 0 (by omega),by rw[<-Nat.add_assoc]; exact hM 1 (by omega),by rw[<-Nat.add_assoc]; exact hM 2 (by omega)⟩
 rw[ld_agg h1,s59,zA3,if_pos (by omega),h5]
 rfl
set_option maxRecDepth 100000
theorem eff124_c (H:AHeap) (pos:Int) (op:Nat) (av:Value) (args:List Int) (hop:op<28) (ha:RdAt H 1 av (iv args) args.length) (h0:op=4\/op=9->0<args.length/\0<=args.getD 0 0/\args.getD 0 0<=65535):Pure 124 [.agg ⟨[.int .i64 pos,.int .i64 (op:Int),av]⟩] H (.tuple #[.int .i64 (effR op args).1,.int .i64 (effR op args).2]):=by
 obtain⟨b,hb⟩:=Go.Ax.exq H.next
 obtain⟨a0,c0,e0⟩:=ha.sl
 refine callS_fn mixed Tryz.func124 rfl Tryz.ntmps124 (zB3 rfl) fun wf hsc=>?_
 have hbase:H.base<=b:=hb▸wf.base
 rw[scbL_iff]at hsc
 have hsc0:=hsc _ (zA4.2 rfl)
 rw[hb,e0]at hsc0
 replace hsc0:scb b (.slice a0 args.length c0)=true:=sc_agg3 hsc0
 have hT:∀ i:Decidable True,@decide True i=true:=fun i=>by simp
 have hF:∀ i:Decidable False,@decide False i=false:=fun i=>by simp
 by_cases h4:op=4\/op=9
 ·obtain⟨hl,hx0,hx1⟩:=h0 h4
  obtain⟨n,off,s,c,e,o,M,e2,n1,r1,m1⟩:=ha.one hl
  have e3:=e0.symm.trans e2
  simp only[Value.slice.injEq]at e3
  obtain⟨rfl,-,rfl⟩:=e3
  rw[e0]
  rw[iv_get,zA5 hl,zA6]at m1
  have hg:args.getD 0 0=args[0]:=by rw[zA9,zA5 hl]; rfl
  rw[hg]at hx0 hx1
  have hw:IntKind.i64.wrap (args[0]+1)=args[0]+1:=wrap_sm (by omega) (by omega)
  have i1:aIndexAddr Tryz.prog 35 (.slice (some ⟨n,off,s⟩) args.length c0) (.int .i64 0)=some (.pointer (some ⟨n,off+0,none⟩)):=ia_of (i:=0) u35 s3 hl
  rw[hb]at n1
  have he:effR op args=(args[0]+1,1):=by
   unfold effR
   rw[if_neg (by omega),if_pos h4,hg]
  rw[he]
  rcases h4 with rfl|rfl
  all_goals
   simp (maxDischargeDepth:=6) only[zB6,Int.reduceEq,hb,hT,hF,i1,n1,r1,m1,hw,qk_old,Tryz.results124,ruW,xF,ruU,entryE,Nat.reduceLT,Nat.reduceAdd,Nat.reduceEqDiff]
   exact Fin.pureE rfl rfl
 have hcs:op=0\/op=1\/op=2\/op=3\/op=5\/op=6\/op=7\/op=8\/op=10\/op=11\/op=12\/op=13\/op=14\/op=15\/op=16\/op=17\/op=18\/op=19\/op=20\/op=21\/op=22\/op=23\/op=24\/op=25\/op=26\/op=27:=by omega
 rw[e0]
 rcases hcs with rfl|rfl|rfl|rfl|rfl|rfl|rfl|rfl|rfl|rfl|rfl|rfl|rfl|rfl|rfl|rfl|rfl|rfl|rfl|rfl|rfl|rfl|rfl|rfl|rfl|rfl
 all_goals
  simp (maxDischargeDepth:=6) only[zB6,Int.reduceEq,hb,hsc0,hT,hF,Tryz.results124,ruW,xF,ruU,entryE,Nat.reduceLT,Nat.reduceAdd,Nat.reduceEqDiff]
  exact Fin.pureE rfl rfl
theorem find_at {l:List Ins} {a:Int} {i:Nat} {x:Ins} (h:l[i]?=some x) (hx:x.pos=a) (hb:∀ k,k<i->∀ y,l[k]?=some y->y.pos≠a):findR l a=(i:Int):=by
 have hl:=(zE6.1 h).1
 have:l.findIdx? (fun x=>decide (x.pos=a))=some i:=by
  rw[List.findIdx?_eq_some_iff_getElem]
  refine⟨hl,?_,fun j hj=>?_⟩
  ·have e:l[i]=x:=Option.some.inj ((zA5 hl).symm.trans h)
   rw[e]
   exact decide_eq_true hx
  ·have:=hb j hj l[j] (zA5 (by omega))
   simp only[decide_eq_true_eq]
   exact this
 rw[findR,this]
theorem find_not {l:List Ins} {a:Int} (hb:∀ (k:Nat) (y:Ins),l[k]?=some y->y.pos≠a):findR l a=-1:=by
 have:l.findIdx? (fun x=>decide (x.pos=a))=none:=by
  rw[List.findIdx?_eq_none_iff]
  intro x hx
  obtain⟨k,hk,e⟩:=List.mem_iff_getElem.1 hx
  exact decide_eq_false (hb k x (by rw[zA5 hk,e]))
 rw[findR,this]
set_option maxRecDepth 100000
set_option maxRecDepth 100000
set_option maxRecDepth 100000
def frV (f:Fr):List Value:=[.int .i64 f.kind,.int .i64 f.height,.int .i64 f.bound]
def frC (fs:List Fr):List Value:=fs.flatMap frV
def cdV (least most depth:Int) (bv' cv:Value):Value:=.agg ⟨[.int .i64 least,.int .i64 most,.int .i64 depth,bv',cv]⟩
set_option maxRecDepth 100000
theorem frC_len (fs:List Fr):(frC fs).length=fs.length*3:=by
 induction fs with
 |nil=>rfl
 |cons x r ih=>simp only[frC,zD1,zC6,zA8]at ih ⊢; rw[ih]; simp only[frV,zA8,zC5]; omega
theorem frC_at:∀ {fs:List Fr} {i:Nat} {f:Fr},fs[i]?=some f->((frC fs).drop (i*3)).take 3=frV f
 |y::r,0,f,h=>by
  simp only[zE9,Option.some.injEq]at h
  subst h
  rfl
 |y::r,i+1,f,h=>by
  rw[zD7]at h
  rw[show (i+1)*3=3+i*3 by omega,frC,zD1,List.drop_append,List.drop_eq_nil_of_le (by simp[frV])]
  simp only[frV,zA8,zC5,zD6]
  rw[show 3+i*3-(0+1+1+1)=i*3 by omega]
  exact frC_at h
set_option maxRecDepth 100000
theorem fr_neq (f g:Fr):eqOp .neq (eqL (frV f) (frV g))=some (.bool (!decide (f=g))):=by
 obtain⟨a,b,c⟩:=f
 obtain⟨a',b',c'⟩:=g
 by_cases h1:a=a'<;>by_cases h2:b=b'<;>by_cases h3:c=c'<;>simp[eqL,eqOp,eq1,frV,h1,h2,h3]
set_option maxRecDepth 100000
def entR (least most:Int):Int:=if most<0 then least+1 else most
def headR (least most depth cn:Int):Bool :=
 decide (least<0)||decide (255<least)||(decide (¬most=-1)&&(decide (most<least)||decide (255<most)))||decide (depth<0)||decide (1000<depth)||decide (65536<cn)
set_option maxRecDepth 100000
set_option maxRecDepth 100000
set_option maxRecDepth 100000
theorem OwnI.mod0 {b:Nat} {X G:AHeap} {v:Value} {ls:List Iv} (h:OwnI b X v ls) (m:Mod [] X G):OwnI b G v ls :=
 ⟨h.vs.of m.next fun n hn=>m.get n (h.vs.ne n hn).2 (by simp),fun z hz=>(h.av z hz).of m.next fun n hn=>m.get n ((h.av z hz).ne n hn).2 (by simp),h.lo,h.alo,h.nd⟩
theorem OwnI.rd {b:Nat} {X:AHeap} {v:Value} {ls:List Iv} (h:OwnI b X v ls):InsRd X v ls:=⟨h.vs.rd,fun z hz=>(h.av z hz).rd,fun z hz=>VsAt.sc (h.av z hz)⟩
set_option maxRecDepth 100000
set_option maxRecDepth 100000
def ownW (b cnt:Nat):Value:=if cnt=0 then .slice (some ⟨b+0,0,some 0⟩) 0 0 else .slice (some ⟨b+1,0,none⟩) cnt cnt
def ownL (e:TypeId) (vs:List Value) (cnt:Nat):List Bl:=if cnt=0 then [⟨e,false,[]⟩] else [⟨e,false,[]⟩,⟨e,true,vs⟩]
theorem own_ids {b cnt:Nat}:∀ n∈idsV (ownW b cnt),n=b\/n=b+1:=fun n hn=>by
 rw[ownW]at hn
 split at hn<;>simp[idsV]at hn<;>omega
theorem scbL_iv (n:Nat) (ws:List Int):scbL n (iv ws)=true:=by
 rw[scbL_iff]
 intro v' hv'
 obtain⟨w',_,rfl⟩:=zD5.1 hv'
 rfl
set_option maxRecDepth 100000
theorem app_ex0 {X:AHeap} {sz by1 n off cnt cap m:Nat} {s:Option Nat} {st e:TypeId} {z:Value} {bl:Bl} {ws:List Value} (hu:Tryz.prog.underlying st=some (.slice e)) (hsz:szOf Tryz.prog e=some sz) (hby:bytesOf Tryz.prog e=some by1) (hz:zeroOf Tryz.prog e=some z) (hzl:z.cells.toList.length=sz) (hi:intTy Tryz.prog st=some false)
  (hr:rk X n=some bl) (hle:off+cnt*sz<=bl.l.length) (hM:(bl.l.drop off).take (cnt*sz)=ws) (h0:0<cnt) (hone:ws.all one=true) (hsc:scbL X.next ws=true) (hsm:small cnt by1=true) :
  aBuiltin Tryz.prog X .append ⟨[st,st]⟩ [.slice (some ⟨m,0,some 0⟩) 0 0,.slice (some ⟨n,off,s⟩) cnt cap]=some (.slice (some ⟨X.next,0,none⟩) cnt cnt,ext X [⟨e,true,ws⟩]):=by
 have hl:((bl.l.drop off).take (cnt*sz)).length=cnt*sz:=by rw[zE1,List.length_drop]; omega
 simp only[aBuiltin,aAppend,hu,hsz,hby,hz,hi,zA1,zA3,lenV,first_rk hr hle,hl,hzl,zC3,hsm,and_self,if_true,aAppend2]
 rw[if_neg (by omega)]
 have hn1:=new_ext (H:=X) (L:=[]) (e:=e) (l:=ws) (o:=true) (by simpa using hsc)
 rw[ext_nil]at hn1
 have hf:firstC X sz 0 (.slice (some ⟨m,0,some 0⟩) 0 0)=some []:=by simp[firstC]
 simp only[hf,zA3,hM,zC5,Nat.zero_mul,List.all_nil,hone,decide_true,zC9,if_true,exactAp,exactAt,zD6,hn1]
theorem frC_append (a b:List Fr):frC (a++b)=frC a++frC b:=by simp[frC]
theorem frC_one:∀ fs:List Fr,(frC fs).all one=true
 |[]=>rfl
 |f::r=>by
  have h:=frC_one r
  simp only[frC]at h
  simp only[frC,zD1,List.all_append,h,Bool.and_true]
  rfl
theorem frC_sc (N:Nat):∀ fs:List Fr,scbL N (frC fs)=true
 |[]=>rfl
 |f::r=>by
  have h:=frC_sc N r
  exact scbL_append (by rfl) h
set_option maxRecDepth 100000
theorem own_appN {H:AHeap} {b by1 cnt sz:Nat} {st e:TypeId} {z v:Value} {vs:List Value} (hu:Tryz.prog.underlying st=some (.slice e)) (hsz:szOf Tryz.prog e=some sz) (hby:bytesOf Tryz.prog e=some by1) (hz:zeroOf Tryz.prog e=some z) (hzl:z.cells.toList.length=sz) (hi:intTy Tryz.prog st=some false)
  (hb:H.next=b) (hok:H.base<=H.next) (h:RdAt H sz v vs cnt) (hone:vs.all one=true) (hsc:scbL (b+1) vs=true) (hsm:small cnt by1=true) :
  aBuiltin Tryz.prog (ext H [⟨e,false,[]⟩]) .append ⟨[st,st]⟩ [.slice (some ⟨b+0,0,some 0⟩) 0 0,v]=some (ownW b cnt,ext H (ownL e vs cnt)):=by
 obtain⟨h1,⟨rfl,a,c,rfl⟩|⟨h0,n,off,s,c,e',o,M,rfl,hr,hn,hle,hM⟩⟩:=h
 ·have hw:=write_new (H:=H) (L:=[⟨e,false,[]⟩]) (i:=0) (off:=0+0*sz) (vs:=[]) hb hok rfl (by simp) rfl rfl
  have hf:firstC (ext H [⟨e,false,[]⟩]) sz 0 (.slice a 0 c)=some []:=by
   cases a<;>simp[firstC]
  simp only[aBuiltin,aAppend,hu,hsz,hby,hz,hi,zA1,zA3,lenV,hf,zC5,Nat.zero_mul,hzl,zC3,hsm,and_self,if_true,aAppend2,zB1]at hw ⊢
  rw[hw]
  rfl
 ·have hA:=app_ex0 (X:=ext H [⟨e,false,[]⟩]) (st:=st) (n:=n) (off:=off) (cnt:=cnt) (cap:=c) (m:=b+0) (s:=s) (bl:=⟨e',o,M⟩) (ws:=vs) hu hsz hby hz hzl hi ((rk_get (ext_get_old hn)).trans hr) hle hM h0 hone (by rw[ext_next,hb]; exact hsc) hsm
  rw[ext_append,ext_next,hb]at hA
  rw[hA,ownW,ownL,if_neg (by omega),if_neg (by omega)]
  rfl
theorem own_rdN {H:AHeap} {b cnt sz:Nat} {e:TypeId} {vs:List Value} (hb:H.next=b) (hl:vs.length=cnt*sz):RdAt (ext H (ownL e vs cnt)) sz (ownW b cnt) vs cnt:=by
 by_cases h0:cnt=0
 ·subst h0
  have:vs=[]:=zE7 (by omega)
  subst this
  exact⟨by simp,.inl ⟨rfl,_,_,rfl⟩⟩
 ·rw[ownW,ownL,if_neg h0,if_neg h0]
  refine⟨hl,.inr ⟨by omega,b+1,0,none,cnt,e,true,vs,rfl,rk_of (by rw[bk_at hb (by simp)]; rfl),by rw[ext_next,hb]; simp,by omega,by rw[zF0]; exact zE8 (by omega)⟩⟩
def wdC (l:List (Int × Int)):List Value:=l.flatMap fun p=>[.int .i64 p.1,.int .i64 p.2]
theorem wdC_sc (N:Nat):∀ l:List (Int × Int),scbL N (wdC l)=true
 |[]=>rfl
 |f::r=>scbL_append (by rfl) (wdC_sc N r)
theorem u31:Tryz.prog.underlying 31=some (.slice 83):=by kernel_rfl
theorem s83:szOf Tryz.prog 83=some 2:=by kernel_rfl
end Go.Proofs.YtnigelgcjfhghaaGreatDoor
