/- Parts of the proof, one behind the other. -/
import Derived.Test.YtnigelgcjfhghaaGreatDoorM3
import Derived.WideShapes
import Derived.ChangeSlices
import Derived.ChangeAnyMap
import GoSem.ClaimJoined
import Derived.Shelf.Spec.SlicesInsertGrow
import Derived.Test.YtnigelgcjfhghaaGreatDoorRows
import Derived.Shelf.Strings.Repeat
import Derived.ChangeArms
import Derived.Shelf.Strings.Search3
import Derived.Shelf.Small.Strs
import Derived.Shelf.Small.Wraps
import Derived.Shelf.Strconv.Itoa3
import Derived.Shelf.Strings.Count
import Derived.Sort.Grow
import Derived.Lib.ItoaLen
set_option linter.all false
set_option maxRecDepth 10000
set_option maxHeartbeats 16000000
open And renaming intro → zA0
open Option renaming bind_eq_bind → zA1, bind_eq_some_iff → zA2, bind_some → zA3, map_some → zA5, map_eq_some_iff → zA8
open Bool renaming and_eq_true → zA4, false_eq_true → zC0, and_self → zD6
open List renaming getElem?_eq_getElem → zA6, length_cons → zA7, mem_singleton → zB0, mem_cons → zB1, length_append → zB2, map_cons → zB4, mem_cons_of_mem → zB6, length_map → zB7, getD_eq_getElem?_getD → zB8, length_singleton → zB9, mem_cons_self → zC1, length_nil → zC5, mem_append → zC6, all_eq_true → zC7, mem_map → zC8, flatMap_cons → zC9, nil_append → zD4, getElem?_eq_none → zD5, append_nil → zD8, take_of_length_le → zD9, mem_of_getElem? → zE2, map_nil → zE3, getElem?_cons_succ → zE4, drop_eq_getElem_cons → zE5, getElem?_map → zE6, eq_nil_of_length_eq_zero → zE7
open Nat renaming le_refl → zA9, zero_le → zB3, le_of_ble_eq_true → zB5, mul_one → zC2, zero_add → zC3, lt_succ_self → zC4, add_zero → zD1, eq_of_beq_eq_true → zD2, lt_or_ge → zD3, ble_eq → zD7, le_trans → zE0, lt_of_lt_of_le → zE1
open Int renaming toNat_natCast → zD0

namespace Go.Ax
open Go.ChangeShapes
section
variable {P : Program} {K : Type} {enc : TypeId × Value → K} {w : World} {base : Nat} {spare : Nat → Bool} {held : Bool}
theorem mapM_each {α β:Type} {g:α→Option β}:∀ {l:List α} {r:List β},l.mapM g=some r→∀ x∈l,∃ y,g x=some y
 |[],_,_,x,hx=>by cases hx
 |a::l,r,h,x,hx=>by
  rw[List.mapM_cons]at h
  cases hg:g a with
  |none=>rw[hg]at h; cases h
  |some y =>
   rw[hg]at h
   cases hl:l.mapM g with
   |none=>simp[hl]at h
   |some r' =>
    rcases zB1.1 hx with rfl|hx
    ·exact⟨y,hg⟩
    ·exact mapM_each hl x hx
theorem fits_append:∀ {ts us:List TypeId} {a b:List Value},fits P ts a=true→fits P us b=true→fits P (ts++us) (a++b)=true
 |[],us,[],b,_,h=>h
 |[],_,_::_,_,h,_=>by simp[fits]at h
 |_::_,_,[],_,h,_=>by simp[fits]at h
 |t::ts,us,v::a,b,h,h2=>by
  simp only[fits,zA4]at h
  simp only[List.cons_append,fits,h.1,fits_append h.2 h2,zD6]
theorem trod_fieldsF {fuel d:Nat} {cs:List Value} (ih:∀ (t:TypeId) (ts:List TypeId) (cs:List Value) (x:DataW K × List MemPlace),flat P d t=some ts→szOf P t=some ts.length→DataW.trod enc P w base spare held fuel t cs=some x→fits P ts cs=true) :
  ∀ (fs:List Field) (o:Nat) (ts:List TypeId),flatF P (flat P d) fs o=some ts→(∀ f∈fs,∃ y,DataW.trod enc P w base spare held fuel f.type ((cs.drop f.offset).take (P.cellsOf f.type))=some y)→o+ts.length≤cs.length→fits P ts ((cs.drop o).take ts.length)=true
 |[],o,ts,h,_,_=>by
  simp only[flatF,Option.some.injEq]at h
  subst h
  rfl
 |f::fs,o,ts,h,hy,hle=>by
  simp only[flatF]at h
  split at h
  ·rename_i hf
   obtain⟨_,ho⟩:=hf
   cases e1:flat P d f.type with
   |none=>rw[e1]at h; cases h
   |some a =>
    rw[e1]at h
    simp only at h
    split at h
    ·rename_i hsz
     cases e2:flatF P (flat P d) fs (o+a.length) with
     |none=>rw[e2]at h; cases h
     |some b =>
      rw[e2]at h
      simp only[Option.some.injEq]at h
      subst h
      rw[zB2]at hle
      obtain⟨y,hy0⟩:=hy f (by simp)
      rw[ho,cellsOf_szOf hsz]at hy0
      have h1:=ih f.type a _ y e1 hsz hy0
      have h2:=trod_fieldsF ih fs (o+a.length) b e2 (fun g hg=>hy g (by simp[hg])) (by omega)
      have:(cs.drop o).take (a++b).length=(cs.drop o).take a.length++(cs.drop (o+a.length)).take b.length:=by
       rw[zB2,List.take_add,List.drop_drop]
      rw[this]
      exact fits_append h1 h2
    ·cases h
  ·cases h
theorem trod_fits:∀ (fuel d:Nat) (t:TypeId) (ts:List TypeId) (cs:List Value) (x:DataW K × List MemPlace),flat P d t=some ts→szOf P t=some ts.length→DataW.trod enc P w base spare held fuel t cs=some x→fits P ts cs=true
 |0,_,_,_,_,_,_,_,h=>by simp[DataW.trod]at h
 |_+1,0,_,_,_,_,h,_,_=>by simp[flat]at h
 |fuel+1,d+1,t,ts,cs,x,hf,hs,h=>by
  simp only[flat]at hf
  unfold DataW.trod at h
  cases e:P.underlying t with
  |none=>rw[e]at hf; cases hf
  |some td =>
   rw[e]at hf h
   cases td with
   |bool =>
    simp only[Option.some.injEq]at hf
    subst hf
    split at h<;>first|cases h|skip
    all_goals first|(rename_i hh; cases hh; done)|skip
    all_goals simp_all [fits,fit1]
   |int k =>
    simp only[Option.some.injEq]at hf
    subst hf
    split at h<;>simp_all [fits,fit1]
   |string =>
    simp only[Option.some.injEq]at hf
    subst hf
    split at h<;>simp_all [fits,fit1]
   |struct fs =>
    simp only at hf
    split at hf
    ·cases hf
    ·simp only at h
     split at h
     ·rename_i hlen
      rw[cellsOf_szOf hs]at hlen
      cases hm:fs.toList.mapM fun f=>DataW.trod enc P w base spare held fuel f.type ((cs.drop f.offset).take (P.cellsOf f.type)) with
      |none=>rw[hm]at h; cases h
      |some xs =>
       have:=trod_fieldsF (cs:=cs) (fun t ts cs x=>trod_fits fuel d t ts cs x) fs.toList 0 ts hf (mapM_each hm) (by omega)
       rw[List.drop_zero,zD9 (by omega)]at this
       exact this
     ·cases h
   |_=>simp at hf
theorem trod_slice {fuel:Nat} {t e:TypeId} {ts:List TypeId} {D:Nat} (ht:P.underlying t=some (.slice e)) (hsz:szOf P e=some ts.length) (hfl:flat P D e=some ts) {b off len cap:Nat} {x:DataW K × List MemPlace}
  (h:DataW.trod enc P w 0 spare held fuel t [.slice (some ⟨b,off,none⟩) len cap]=some x) (hnf:w.noneFrozen x.2) :
  len≤cap∧(len*ts.length=0∨∃ (c:Array Value) (e':TypeId) (fz:Nat × Nat) (vs:List Value),w.heap[b]?=some (.cells c e' fz)∧vs.length=len*ts.length∧(∀ i,i<vs.length→c[off+i]?=some (vs.getD i undef)) ∧
   (∀ i,i<len→fits P ts ((vs.drop (i*ts.length)).take ts.length)=true)∧∀ i,off≤i→i<off+len*ts.length→¬(fz.1≤i∧i<fz.2)):=by
 cases fuel with
 |zero=>simp[DataW.trod]at h
 |succ fuel =>
  unfold DataW.trod at h
  rw[ht]at h
  simp only[cellsOf_szOf hsz]at h
  split at h
  ·rename_i hc
   refine⟨hc.2.1,?_⟩
   by_cases h0:len*ts.length=0
   ·exact .inl h0
   right
   cases hm:(List.range len).mapM fun i=>(w.cells? 0 ((⟨b,off,none⟩:Addr).add (i*ts.length)) ts.length).bind (DataW.trod enc P w 0 spare held fuel e) with
   |none=>rw[hm]at h; cases h
   |some elems =>
    rw[hm,zA3]at h
    have hel:elems.length=len:=by have:=mapM_len hm; simpa using this
    have each:∀ i,i<len→∃ cs y,w.cells? 0 ((⟨b,off,none⟩:Addr).add (i*ts.length)) ts.length=some cs∧DataW.trod enc P w 0 spare held fuel e cs=some y:=fun i hi=>by
     obtain⟨y,hy⟩:=mapM_each hm i (by simpa using hi)
     cases hcs:w.cells? 0 ((⟨b,off,none⟩:Addr).add (i*ts.length)) ts.length with
     |none=>rw[hcs]at hy; cases hy
     |some cs=>rw[hcs]at hy; exact⟨cs,y,rfl,hy⟩
    have cell:∀ i,i<len*ts.length→∃ v,w.cell? ⟨b,off+i,none⟩=some v:=fun i hi=>by
     have hp:0<ts.length:=Nat.pos_of_ne_zero fun h=>h0 (by rw[h,Nat.mul_zero])
     have hq:i / ts.length<len:=(Nat.div_lt_iff_lt_mul hp).2 hi
     obtain⟨cs,y,hcs,_⟩:=each _ hq
     unfold World.cells? at hcs
     rw[if_pos (zB3 _)]at hcs
     obtain⟨v,hv⟩:=mapM_each hcs (i % ts.length) (by simpa using Nat.mod_lt _ hp)
     rw[addr_add,addr_add]at hv
     have:off+i / ts.length*ts.length+i % ts.length=off+i:=by rw[Nat.add_assoc,Nat.mul_comm,Nat.div_add_mod]
     rw[this]at hv
     exact⟨v,hv⟩
    obtain⟨v0,hv0⟩:=cell 0 (by omega)
    unfold World.cell? at hv0
    cases hb:w.heap[b]? with
    |none=>simp[hb]at hv0
    |some o =>
     cases o with
     |cells c e' fz =>
      have cell':∀ i,i<len*ts.length→∃ v,c[off+i]?=some v:=fun i hi=>by
       obtain⟨v,hv⟩:=cell i hi
       simp only[World.cell?,hb]at hv
       exact⟨v,by simpa using hv⟩
      obtain⟨vs,hvs⟩:∃ vs:List Value,vs=(List.range (len*ts.length)).map fun i=>(c[off+i]?).getD undef:=⟨_,rfl⟩
      have hvl:vs.length=len*ts.length:=by simp[hvs]
      have hvg:∀ i,i<vs.length→c[off+i]?=some (vs.getD i undef):=fun i hi=>by
       rw[hvl]at hi
       obtain⟨v,hv⟩:=cell' i hi
       simp[hvs,hi,hv,zB8]
      refine⟨c,e',fz,vs,rfl,hvl,hvg,fun i hi=>?_,fun i h1 h2=>?_⟩
      ·obtain⟨cs,y,hcs,hy⟩:=each i hi
       have hcs':(vs.drop (i*ts.length)).take ts.length=cs:=by
        unfold World.cells? at hcs
        rw[if_pos (zB3 _)]at hcs
        have hin:i*ts.length+ts.length≤len*ts.length:=by rw[←Nat.succ_mul]; exact Nat.mul_le_mul_right _ hi
        have hr:=mapM_range_of (f:=fun j=>w.cell? (((⟨b,off,none⟩:Addr).add (i*ts.length)).add j)) (g:=fun j=>vs.getD (i*ts.length+j) undef) ts.length (fun j hj=>by
         have h3:=hvg (i*ts.length+j) (by rw[hvl]; omega)
         rw[addr_add,addr_add,Nat.add_assoc]
         simp[World.cell?,hb,h3])
        rw[hr]at hcs
        cases hcs
        apply List.ext_getElem?
        intro j
        by_cases hj:j<ts.length
        ·rw[List.getElem?_take,if_pos hj,List.getElem?_drop,zE6,List.getElem?_range hj,zA6 (by rw[hvl]; omega)]
         simp only[zA5,zB8]
         rw[zA6 (by rw[hvl]; omega)]
         rfl
        ·rw[zD5 (by simp; omega),zD5 (by simp; omega)]
       rw[hcs']
       exact trod_fits fuel D e ts cs y hfl hsz hy
      ·have hmem:MemPlace.cell b i∈x.2:=by
        cases hrest:(if spare b then (List.range (cap-len)).mapM fun j=>(w.cells? 0 ((⟨b,off,none⟩:Addr).add ((len+j)*ts.length)) ts.length).bind (DataW.trod enc P w 0 spare held fuel e) else some []) with
        |none=>rw[hrest]at h; cases h
        |some rest =>
         rw[hrest]at h
         simp only[zA5,Option.some.injEq]at h
         subst h
         simp only[zC6]
         left
         unfold MemPlace.row
         rw[zC8]
         refine⟨i-off,?_,by simp only[MemPlace.cell.injEq,true_and]; omega⟩
         rw[List.mem_range,hel,Nat.add_mul]
         omega
       have:=hnf b i hmem
       intro hh
       simp only[World.frozen?,hb]at this
       simp[hh.1,hh.2]at this
     |_=>simp[hb]at hv0
  ·cases h
def enR (N b off:Nat):Ren:=⟨fun n=>if n=N then b else n,fun n=>if n=N then off else 0,fun _=>0,fun _=>.nilIface,fun _=>rfl⟩
theorem rel_calls {f:FuncId} {args:List Value} {H:AHeap} {ρ:Ren} (r:Rel P ρ H w) (hsc:scbL H.next args=true) (hbase:H.base=H.next) (hd:H.dirty=[]) (h:CallA P f args H fun out H1=>out=.ok (.bool true)∧Mod [] H H1) :
  Calls P f (args.map ρ.val).toArray w (fun e w'=>e=.returned (.bool true)∧RowKit.Below w.heap.size w w'):=by
 obtain⟨_,H1,hc,rfl,m⟩:=h
 refine (callsIn_wide (n:=0)).1 (hc ρ w r hsc Fence.wide 0 _ wide_wide ?_)
 intro ρ1 w1 s _
 refine⟨by rw[Ren.val],s.os,s.tape,s.output,s.size,fun b hb=>s.old b hb fun n hn hor _=>?_⟩
 rcases hor with h|h
 ·omega
 ·rcases m.dirty n h with h|h
  ·rw[hd]at h; cases h
  ·exact absurd h.1 (by simp)
end
section
variable {P : Program} {K : Type} {enc : TypeId × Value → K} {w : World} {base : Nat} {spare : Nat → Bool} {held : Bool}
mutual
def dc:DataW K→List Value
 |.lit (.int k z)=>[.int k z]
 |.lit (.bool b)=>[.bool b]
 |.agg l=>dcL l
 |_=>[]
def dcL:List (DataW K)→List Value
 |[]=>[]
 |d::r=>dc d++dcL r
end
mutual
def dok:DataW K→Bool
 |.lit (.int _ _)=>true
 |.lit (.bool _)=>true
 |.agg l=>dokL l
 |_=>false
def dokL:List (DataW K)→Bool
 |[]=>true
 |d::r=>dok d&&dokL r
end
theorem mapM_cons_some {α β:Type} {g:α→Option β} {a:α} {l:List α} {r:List β} (h:(a::l).mapM g=some r):∃ y ys,g a=some y∧l.mapM g=some ys∧r=y::ys:=by
 rw[List.mapM_cons]at h
 cases hg:g a with
 |none=>rw[hg]at h; cases h
 |some y =>
  rw[hg]at h
  cases hl:l.mapM g with
  |none=>simp[hl]at h
  |some ys=>simp[hl]at h; exact⟨y,ys,rfl,rfl,h.symm⟩
theorem trod_fieldsD {fuel d:Nat} {cs:List Value} (ih:∀ (t:TypeId) (ts:List TypeId) (cs:List Value) (x:DataW K × List MemPlace),flat P d t=some ts→szOf P t=some ts.length→DataW.trod enc P w base spare held fuel t cs=some x→dok x.1=true→cs=dc x.1) :
  ∀ (fs:List Field) (o:Nat) (ts:List TypeId) (xs:List (DataW K × List MemPlace)),flatF P (flat P d) fs o=some ts→(fs.mapM fun f=>DataW.trod enc P w base spare held fuel f.type ((cs.drop f.offset).take (P.cellsOf f.type)))=some xs→dokL (xs.map (·.1))=true→o+ts.length≤cs.length→(cs.drop o).take ts.length=dcL (xs.map (·.1))
 |[],o,ts,xs,h,hm,_,_=>by
  simp only[flatF,Option.some.injEq]at h
  subst h
  simp at hm
  subst hm
  simp[dcL]
 |f::fs,o,ts,xs,h,hm,hk,hle=>by
  simp only[flatF]at h
  split at h
  ·rename_i hf
   obtain⟨_,ho⟩:=hf
   cases e1:flat P d f.type with
   |none=>rw[e1]at h; cases h
   |some a =>
    rw[e1]at h
    simp only at h
    split at h
    ·rename_i hsz
     cases e2:flatF P (flat P d) fs (o+a.length) with
     |none=>rw[e2]at h; cases h
     |some b =>
      rw[e2]at h
      simp only[Option.some.injEq]at h
      subst h
      rw[zB2]at hle
      obtain⟨y,ys,hy,hys,rfl⟩:=mapM_cons_some hm
      simp only[zB4,dokL,zA4]at hk
      rw[ho,cellsOf_szOf hsz]at hy
      have h1:=ih f.type a _ y e1 hsz hy hk.1
      have h2:=trod_fieldsD ih fs (o+a.length) b ys e2 hys hk.2 (by omega)
      have:(cs.drop o).take (a++b).length=(cs.drop o).take a.length++(cs.drop (o+a.length)).take b.length:=by
       rw[zB2,List.take_add,List.drop_drop]
      rw[this,h1,h2]
      simp only[zB4,dcL]
    ·cases h
  ·cases h
theorem trod_dc:∀ (fuel d:Nat) (t:TypeId) (ts:List TypeId) (cs:List Value) (x:DataW K × List MemPlace),flat P d t=some ts→szOf P t=some ts.length→DataW.trod enc P w base spare held fuel t cs=some x→dok x.1=true→cs=dc x.1
 |0,_,_,_,_,_,_,_,h,_=>by simp[DataW.trod]at h
 |_+1,0,_,_,_,_,h,_,_,_=>by simp[flat]at h
 |fuel+1,d+1,t,ts,cs,x,hf,hs,h,hk=>by
  simp only[flat]at hf
  unfold DataW.trod at h
  cases e:P.underlying t with
  |none=>rw[e]at hf; cases hf
  |some td =>
   rw[e]at hf h
   cases td with
   |bool =>
    simp only at h
    split at h<;>first|(simp only[Option.some.injEq]at h; subst h; rfl)|cases h|skip
    all_goals (rename_i hh; cases hh)
   |int k =>
    simp only at h
    split at h<;>first|(simp only[Option.some.injEq]at h; subst h; simp_all [dc]; done)|cases h|skip
    all_goals simp_all [dc]
    all_goals (obtain⟨h1,rfl⟩:=h; simp[dc])
   |string =>
    simp only at h
    split at h<;>first|(simp only[Option.some.injEq]at h; subst h; simp[dok]at hk; done)|cases h|skip
    all_goals simp_all
    all_goals (obtain⟨_,rfl⟩:=h; simp[dok]at hk)
   |struct fs =>
    simp only at hf
    split at hf
    ·cases hf
    ·simp only at h
     split at h
     ·rename_i hlen
      rw[cellsOf_szOf hs]at hlen
      cases hm:fs.toList.mapM fun f=>DataW.trod enc P w base spare held fuel f.type ((cs.drop f.offset).take (P.cellsOf f.type)) with
      |none=>rw[hm]at h; cases h
      |some xs =>
       rw[hm]at h
       simp only[zA5,Option.some.injEq]at h
       subst h
       simp only[dok]at hk
       have:=trod_fieldsD (cs:=cs) (fun t ts cs x=>trod_dc fuel d t ts cs x) fs.toList 0 ts xs hf hm hk (by omega)
       rw[List.drop_zero,zD9 (by omega)]at this
       rw[this,dc]
     ·cases h
   |_=>simp at hf
theorem cut_flat {α:Type} {m:Nat}:∀ (n:Nat) (cs:List α),cs.length=n*m→cs=((List.range n).map fun i=>(cs.drop (i*m)).take m).flatten
 |0,cs,h=>by
  have:cs=[]:=zE7 (by simpa using h)
  subst this
  rfl
 |n+1,cs,h=>by
  have h1:(cs.drop m).length=n*m:=by rw[List.length_drop,h,Nat.succ_mul]; omega
  have h2:=cut_flat n (cs.drop m) h1
  rw[List.range_succ_eq_map,zB4,List.flatten_cons,List.map_map,Nat.zero_mul,List.drop_zero]
  have:((List.range n).map ((fun i=>(cs.drop (i*m)).take m) ∘ Nat.succ))=(List.range n).map fun i=>((cs.drop m).drop (i*m)).take m:=by
   apply List.map_congr_left
   intro i _
   simp only[Function.comp,List.drop_drop,Nat.succ_mul]
   rw[Nat.add_comm]
  rw[this,←h2,List.take_append_drop]
theorem dcL_flat:∀ (ds:List (DataW K)),dcL ds=(ds.map dc).flatten
 |[]=>rfl
 |d::r=>by simp only[dcL,zB4,List.flatten_cons,dcL_flat r]
theorem dokL_all:∀ {ds:List (DataW K)},dokL ds=true→∀ d∈ds,dok d=true
 |[],_,_,h=>by cases h
 |d::r,h,x,hx=>by
  simp only[dokL,zA4]at h
  rcases zB1.1 hx with rfl|hx
  ·exact h.1
  ·exact dokL_all h.2 x hx
theorem mapM_map {α β γ:Type} {f:α→Option β} {g:α→γ} {h:β→γ}:∀ {l:List α} {r:List β},l.mapM f=some r→(∀ a∈l,∀ b∈r,f a=some b→g a=h b)→l.map g=r.map h
 |[],r,hm,_=>by simp at hm; subst hm; rfl
 |a::l,r,hm,hg=>by
  obtain⟨y,ys,h1,h2,rfl⟩:=mapM_cons_some hm
  rw[zB4,zB4,hg a (by simp) y (by simp) h1,mapM_map h2 fun a ha b hb=>hg a (by simp[ha]) b (by simp[hb])]
theorem trod_arr {fuel:Nat} {t e:TypeId} {ts:List TypeId} {D n:Nat} {cs:List Value} {x:DataW K × List MemPlace} (hu:P.underlying t=some (.array n e)) (hsz:szOf P e=some ts.length) (hfl:flat P D e=some ts) (hst:szOf P t=some (n*ts.length))
  (h:DataW.trod enc P w base spare held fuel t cs=some x) (hk:dok x.1=true):cs=dc x.1:=by
 cases fuel with
 |zero=>simp[DataW.trod]at h
 |succ fuel =>
  unfold DataW.trod at h
  rw[hu]at h
  simp only[cellsOf_szOf hsz,cellsOf_szOf hst]at h
  split at h
  ·rename_i hl
   cases hm:(List.range n).mapM fun i=>DataW.trod enc P w base spare held fuel e ((cs.drop (i*ts.length)).take ts.length) with
   |none=>rw[hm]at h; cases h
   |some xs =>
    rw[hm]at h
    simp only[zA5,Option.some.injEq]at h
    subst h
    simp only[dok]at hk
    rw[dc,dcL_flat,List.map_map]
    refine (cut_flat n cs hl).trans (congrArg List.flatten (mapM_map hm fun i _ y hy hf=>?_))
    exact trod_dc fuel D e ts _ y hfl hsz hf (dokL_all hk _ (List.mem_map_of_mem hy))
  ·cases h
theorem laid_at:∀ {laid:List (String × DataW Unit)} {ps:List MemPlace},DataW.LaidVars P w laid ps→∀ {x:String × DataW Unit},x∈laid→∃ g t cs fuel p,P.globalNamed x.1=some g∧(P.globals[g]?).map (·.type)=some t∧w.var? P x.1=some cs∧DataW.trod (fun _=>()) P w 0 (fun _=>true) false fuel t cs.toList=some (x.2,p)∧∀ y∈MemPlace.row ⟨g,0,none⟩ cs.size,y∈ps
 |[],_,_,_,hx=>by cases hx
 |(n,d)::r,ps,h,x,hx=>by
  obtain⟨g,t,cs,fuel,p,q,h1,h2,h3,h4,h5,rfl⟩:=h
  rcases zB1.1 hx with rfl|hx
  ·exact⟨g,t,cs,fuel,p,h1,h2,h3,h4,fun y hy=>by simp[hy]⟩
  ·obtain⟨g,t,cs,fuel,p,k1,k2,k3,k4,k5⟩:=laid_at h5 hx
   exact⟨g,t,cs,fuel,p,k1,k2,k3,k4,fun y hy=>by simp[k5 y hy]⟩
theorem laid_tab {laid:List (String × DataW Unit)} (h:laidMet P laid w) {name:String} {d:DataW Unit} (hx:(name,d)∈laid) {g:Nat} {t e:TypeId} {ts:List TypeId} {D n:Nat} (hg:P.globalNamed name=some g) (ht:(P.globals[g]?).map (·.type)=some t)
  (hu:P.underlying t=some (.array n e)) (hsz:szOf P e=some ts.length) (hfl:flat P D e=some ts) (hst:szOf P t=some (n*ts.length)) (hk:dok d=true) (hpos:0<(dc d).length) :
  ∃ (c:Array Value) (ty:TypeId),w.heap[g]?=some (.cells c ty (0,0))∧c.toList=dc d:=by
 obtain⟨ps,hl,_,hz⟩:=h
 obtain⟨g',t',cs,fuel,p,h1,h2,h3,h4,h5⟩:=laid_at hl hx
 obtain rfl:=Option.some.inj (hg.symm.trans h1)
 obtain rfl:=Option.some.inj (ht.symm.trans h2)
 have hcs:=trod_arr hu hsz hfl hst h4 hk
 have hpos':0<cs.size:=by rw[←hcs]at hpos; simpa using hpos
 obtain⟨⟨c,ty,hb⟩,_⟩:=hz g 0 (h5 _ (by unfold MemPlace.row; rw[zC8]; exact⟨0,by simpa using hpos',rfl⟩))
 refine⟨c,ty,hb,?_⟩
 have:w.var? P name=some c:=by simp only[World.var?,hg,zA3,hb]
 obtain rfl:=Option.some.inj (this.symm.trans h3)
 exact hcs
def tabO (e:TypeId) (vs:List Value):AObj:=⟨.cells #[] e,false,RV.ofList vs⟩
theorem rel_tab {ρ:Ren} {H:AHeap} {g:Nat} {e:TypeId} {c:Array Value} {vs:List Value} (r:Rel P ρ H w) (hg:g<P.globals.size) (hex:ρ.ex g=0) (hinj:∀ n,H.get n≠none→ρ.blk n=g→n=g)
  (hb:w.heap[g]?=some (.cells c e (0,0))) (hc:c.toList=vs) (ha:afL vs=true):Rel P ρ (H.put g (some (tabO e vs))) w:=by
 obtain⟨hbk,hsh⟩:=r.glob.2 g hg
 have hav:∀ x∈vs,af x=true:=by
  intro x hx
  clear hc hinj
  induction vs with
  |nil=>cases hx
  |cons y ys ih =>
   simp only[afL,zA4]at ha
   rcases zB1.1 hx with rfl|hx
   ·exact ha.1
   ·exact ih ha.2 hx
 have hgd:∀ i,i<vs.length→af (vs.getD i undef)=true:=fun i hi=>hav _ (by simp[zB8,zA6 hi])
 have hget:∀ m,(H.put g (some (tabO e vs))).get m=if m=g then some (tabO e vs) else H.get m:=fun m=>AHeap.get_put H g _ m
 refine⟨r.base,r.glob,fun m n hm hn he=>?_,fun n o hn=>?_,fun n o hn=>?_⟩
 ·rw[hget]at hm hn
  by_cases h1:m=g
  ·subst h1
   by_cases h2:n=m
   ·exact .inl h2.symm
   ·rw[if_neg h2]at hn
    exact .inl (hinj n hn (he.symm.trans hbk)).symm
  ·rw[if_neg h1]at hm
   by_cases h2:n=g
   ·subst h2
    exact .inl (hinj m hm (he.trans hbk))
   ·rw[if_neg h2]at hn
    rw[hget,hget,if_neg h1,if_neg h2]
    exact r.inj m n hm hn he
 ·rw[hget]at hn
  by_cases h:n=g
  ·subst h
   rw[if_pos rfl]at hn
   cases hn
   refine⟨zE1 hg r.glob.1,?_⟩
   simp only[sco,tabO,RV.n_ofList,RV.get_ofList]
   intro i hi
   exact scb_of_af _ (hgd i hi)
  ·rw[if_neg h]at hn
   exact r.dom n o hn
 ·rw[hget]at hn
  by_cases h:n=g
  ·subst h
   rw[if_pos rfl]at hn
   cases hn
   refine⟨_,by rw[hbk]; exact hb,?_⟩
   have hcs:c.size=vs.length:=by rw[←hc]; simp
   simp only[Fits,tabO]
   refine⟨c,(0,0),rfl,fun i hi=>?_,fun _=>⟨by rw[RV.n_ofList,hcs],hsh,hex,rfl⟩,fun h=>(by cases h)⟩
   simp only[RV.n_ofList]at hi
   rw[RV.get_ofList,val_af _ _ (hgd i hi),hsh,zD1]
   subst hc
   have:i<c.size:=by simpa using hi
   simp[zB8,this]
  ·rw[if_neg h]at hn
   exact r.obj n o hn
def tabsH (N:Nat):List (Nat × TypeId × List Value)→AHeap
 |[]=>AHeap.none N
 |(g,e,vs)::r=>(tabsH N r).put g (some (tabO e vs))
theorem tabsH_next (N:Nat):∀ T,(tabsH N T).next=N∧(tabsH N T).base=N∧(tabsH N T).dirty=[]
 |[]=>⟨rfl,rfl,rfl⟩
 |(_,_,_)::r=>tabsH_next N r
theorem rel_tabs:∀ (T:List (Nat × TypeId × List Value)),(∀ x∈T,x.1<P.globals.size∧afL x.2.2=true∧∃ c,w.heap[x.1]?=some (.cells c x.2.1 (0,0))∧c.toList=x.2.2)→Rel P Ren.same (tabsH P.globals.size T) w
 |[],_=>rel_none P w
 |(g,e,vs)::r,h=>by
  obtain⟨h1,h2,c,h3,h4⟩:=h (g,e,vs) (by simp)
  exact rel_tab (rel_tabs r fun x hx=>h x (by simp[hx])) h1 rfl (fun n _ hn=>hn) h3 h4 h2
theorem tab_world {ρ:Ren} {H:AHeap} {g:Nat} {e:TypeId} {vs:List Value} (r:Rel P ρ H w) (hg:g<P.globals.size) (hb:bk H g=some ⟨e,false,vs⟩) (ha:afL vs=true):∃ c,w.heap[g]?=some (.cells c e (0,0))∧c.toList=vs:=by
 obtain⟨hbk,hsh⟩:=r.glob.2 g hg
 have hav:∀ x∈vs,af x=true:=by
  intro x hx
  clear hb
  induction vs with
  |nil=>cases hx
  |cons y ys ih =>
   simp only[afL,zA4]at ha
   rcases zB1.1 hx with rfl|hx
   ·exact ha.1
   ·exact ih ha.2 hx
 simp only[bk,zA8]at hb
 obtain⟨⟨rv,e',o⟩,hc,hx⟩:=hb
 simp only[Bl.mk.injEq]at hx
 obtain⟨rfl,rfl,rfl⟩:=hx
 obtain⟨z,q,hgt⟩:=cellsAt_get hc
 obtain⟨o',hw,hfit⟩:=r.obj _ _ hgt
 simp only[Fits]at hfit
 obtain⟨c,fz,rfl,hcs,hcl,_⟩:=hfit
 obtain⟨k1,k2,k3,rfl⟩:=hcl trivial
 rw[hbk]at hw
 refine⟨c,hw,?_⟩
 apply List.ext_getElem?
 intro i
 rw[RV.gets_eq]
 by_cases hi:i<rv.n
 ·have h1:=hcs i hi
  rw[k2,zD1]at h1
  have h2:rv.get i∈rv.gets 0 rv.n:=by rw[RV.gets_eq,zC8]; exact⟨i,by simpa using hi,by simp⟩
  rw[val_af ρ _ (hav _ h2)]at h1
  rw[zE6,List.getElem?_range hi]
  simpa using h1
 ·rw[zD5 (by simp; omega),zD5 (by simp; omega)]
end
def sameBy:List UInt8→List UInt8→Bool
 |[],[]=>true
 |a::r,b::q=>Nat.beq a.toNat b.toNat&&sameBy r q
 |_,_=>false
theorem sameBy_eq:∀ {u v:List UInt8},sameBy u v=true→u=v
 |[],[],_=>rfl
 |a::r,b::q,h=>by
  simp only[sameBy,zA4]at h
  rw[UInt8.toNat_inj.1 (zD2 h.1),sameBy_eq h.2]
 |[],_::_,h=>by cases h
 |_::_,[],h=>by cases h
def sameSp:Option Nat→Option Nat→Bool
 |none,none=>true
 |some a,some b=>Nat.beq a b
 |_,_=>false
theorem sameSp_eq:∀ {u v:Option Nat},sameSp u v=true→u=v
 |none,none,_=>rfl
 |some a,some b,h=>by rw[zD2 h]
 |none,some _,h=>by cases h
 |some _,none,h=>by cases h
def sameAd (a b:Addr):Bool:=Nat.beq a.block b.block&&Nat.beq a.off b.off&&sameSp a.spot b.spot
theorem sameAd_eq {a b:Addr} (h:sameAd a b=true):a=b:=by
 simp only[sameAd,zA4]at h
 obtain⟨x,y,z⟩:=a
 obtain⟨x',y',z'⟩:=b
 simp only at h
 rw[zD2 h.1.1,zD2 h.1.2,sameSp_eq h.2]
mutual
def sameX:Value→Value→Bool
 |.bool a,.bool b=>a == b
 |.int k a,.int l b=>decide (k=l)&&decide (a=b)
 |.string a,.string b=>sameBy a.data.toList b.data.toList
 |.pointer none,.pointer none=>true
 |.pointer (some a),.pointer (some b)=>sameAd a b
 |.slice none m n,.slice none p q=>Nat.beq m p&&Nat.beq n q
 |.slice (some a) m n,.slice (some b) p q=>sameAd a b&&Nat.beq m p&&Nat.beq n q
 |.agg a,.agg b=>sameXA a b
 |_,_=>false
def sameXA:Array Value→Array Value→Bool
 |⟨l⟩,⟨m⟩=>sameXL l m
def sameXL:List Value→List Value→Bool
 |[],[]=>true
 |a::r,b::q=>sameX a b&&sameXL r q
 |_,_=>false
end
mutual
theorem sameX_eq:∀ (u v:Value),sameX u v=true→u=v
 |.bool a,v,h=>by cases v<;>first|(simp[sameX]at h; done)|(rw[sameX,beq_iff_eq]at h; rw[h])
 |.int k a,v,h=>by cases v<;>first|(simp[sameX]at h; done)|(rw[sameX,zA4,decide_eq_true_eq,decide_eq_true_eq]at h; rw[h.1,h.2])
 |.string ⟨⟨a⟩⟩,v,h=>by
  cases v<;>first|(simp[sameX]at h; done)|skip
  rename_i b
  obtain⟨⟨b⟩⟩:=b
  rw[sameX]at h
  have h:sameBy a b=true:=h
  rw[sameBy_eq h]
 |.pointer none,v,h=>by cases v<;>first|(simp[sameX]at h; done)|(rename_i b; cases b<;>first|rfl|(simp[sameX]at h; done))
 |.pointer (some a),v,h=>by cases v<;>first|(simp[sameX]at h; done)|(rename_i b; cases b<;>first|(simp[sameX]at h; done)|(rw[sameX]at h; rw[sameAd_eq h]))
 |.slice none m n,v,h=>by cases v<;>first|(simp[sameX]at h; done)|(rename_i b _ _; cases b<;>first|(rw[sameX,zA4]at h; rw[zD2 h.1,zD2 h.2])|(simp[sameX]at h; done))
 |.slice (some a) m n,v,h=>by cases v<;>first|(simp[sameX]at h; done)|(rename_i b _ _; cases b<;>first|(rw[sameX,zA4,zA4]at h; rw[sameAd_eq h.1.1,zD2 h.1.2,zD2 h.2])|(simp[sameX]at h; done))
 |.agg a,.agg b,h=>by
  rw[sameX]at h
  rw[sameXA_eq a b h]
 |.agg a,.bool _,h=>by simp[sameX]at h
 |.agg a,.int _ _,h=>by simp[sameX]at h
 |.agg a,.string _,h=>by simp[sameX]at h
 |.agg a,.pointer _,h=>by simp[sameX]at h
 |.agg a,.slice _ _ _,h=>by simp[sameX]at h
 |.agg a,.float _ _,h=>by simp[sameX]at h
 |.agg a,.complex _ _ _,h=>by simp[sameX]at h
 |.agg a,.map _,h=>by simp[sameX]at h
 |.agg a,.chan _,h=>by simp[sameX]at h
 |.agg a,.func _ _ _,h=>by simp[sameX]at h
 |.agg a,.nilFunc,h=>by simp[sameX]at h
 |.agg a,.iface _ _,h=>by simp[sameX]at h
 |.agg a,.nilIface,h=>by simp[sameX]at h
 |.agg a,.tuple _,h=>by simp[sameX]at h
 |.float _ _,v,h=>by simp[sameX]at h
 |.complex _ _ _,v,h=>by simp[sameX]at h
 |.map _,v,h=>by simp[sameX]at h
 |.chan _,v,h=>by simp[sameX]at h
 |.func _ _ _,v,h=>by simp[sameX]at h
 |.nilFunc,v,h=>by simp[sameX]at h
 |.iface _ _,v,h=>by simp[sameX]at h
 |.nilIface,v,h=>by simp[sameX]at h
 |.tuple _,v,h=>by simp[sameX]at h
theorem sameXA_eq:∀ (u v:Array Value),sameXA u v=true→u=v
 |⟨l⟩,⟨m⟩,h=>by
  rw[sameXA]at h
  rw[sameXL_eq l m h]
theorem sameXL_eq:∀ (u v:List Value),sameXL u v=true→u=v
 |[],[],_=>rfl
 |a::r,b::q,h=>by
  simp only[sameXL,zA4]at h
  rw[sameX_eq a b h.1,sameXL_eq r q h.2]
 |[],_::_,h=>by simp[sameXL]at h
 |_::_,[],h=>by simp[sameXL]at h
end
structure Ent where
 f:FuncId
 args:List Value
 next:Nat
 blks:List (Nat × Bl)
def objIs (H:AHeap) (n:Nat) (o:Bool) (l:List Value):Option TypeId :=
 match H.get n with
 |some ⟨.cells _ e (0,_),o',rv⟩=>if (o == o')&&sameXL l (rv.gets 0 rv.n) then some e else none
 |_=>none
def blkIs (H:AHeap) (x:Nat × Bl):Bool :=
 match objIs H x.1 x.2.o x.2.l with
 |some e=>Nat.beq e x.2.e
 |none=>false
def entOk (T:List (Nat × List Value)) (e:Ent) (f:FuncId) (args:List Value) (H:AHeap):Bool :=
 Nat.beq e.f f&&sameXL e.args args&&Nat.beq e.next H.next&&e.blks.all (blkIs H)&&T.all fun x=>(objIs H x.1 false x.2).isSome
def layB (g:AHeap):List (Nat × Bl)→AHeap
 |[]=>g
 |x::r=>layB (g.put x.1 (some x.2.obj)) r
def entHeap (T:List (Nat × List Value)) (ee:Nat→TypeId) (e:Ent):AHeap :=
 layB (AHeap.none e.next) ((T.map fun x=>(x.1,⟨ee x.1,false,x.2⟩))++e.blks)
theorem layB_get:∀ (l:List (Nat × Bl)) (g:AHeap) (n:Nat) (o:AObj),(layB g l).get n=some o→g.get n=some o∨∃ x∈l,x.1=n∧o=x.2.obj
 |[],g,n,o,h=>.inl h
 |x::r,g,n,o,h=>by
  rcases layB_get r _ n o h with h|⟨y,hy,h1,h2⟩
  ·rw[AHeap.get_put]at h
   split at h
   ·rename_i e
    cases h
    exact .inr ⟨x,by simp,e.symm,rfl⟩
   ·exact .inl h
  ·exact .inr ⟨y,by simp[hy],h1,h2⟩
theorem layB_next:∀ (l:List (Nat × Bl)) (g:AHeap),(layB g l).next=g.next∧(layB g l).base=g.base∧(layB g l).dirty=g.dirty
 |[],_=>⟨rfl,rfl,rfl⟩
 |x::r,g=>layB_next r (g.put x.1 (some x.2.obj))
def SameO (a b:AObj):Prop:=∃ c e z c' z',a.obj=.cells c e (0,z)∧b.obj=.cells c' e (0,z')∧a.opn=b.opn∧a.rv.n=b.rv.n∧∀ i,i<b.rv.n→a.rv.get i=b.rv.get i
theorem objIs_same {H:AHeap} {n:Nat} {o:Bool} {l:List Value} {e:TypeId} (h:objIs H n o l=some e):∃ a,H.get n=some a∧SameO a (Bl.obj ⟨e,o,l⟩):=by
 unfold objIs at h
 split at h
 ·rename_i c t z o' rv hg
  split at h
  ·rename_i hc
   simp only[zA4,beq_iff_eq]at hc
   obtain⟨rfl,hl⟩:=hc
   simp only[Option.some.injEq]at h
   subst h
   have hl:=sameXL_eq _ _ hl
   refine⟨_,hg,c,t,z,#[],0,rfl,rfl,rfl,?_,fun i hi=>?_⟩
   ·simp only[Bl.obj,RV.n_ofList,hl,RV.length_gets]
   ·simp only[Bl.obj,RV.n_ofList]at hi
    simp only[Bl.obj,RV.get_ofList]
    have hi':i<rv.n:=by rw[hl,RV.length_gets]at hi; exact hi
    rw[hl,RV.gets_getD _ _ _ _ hi',zC3]
  ·cases h
 ·cases h
theorem SameO.sco {N:Nat} {a b:AObj} (h:SameO a b) (hs:sco N a):sco N b:=by
 obtain⟨c,e,z,c',z',h1,h2,h3,h4,h5⟩:=h
 unfold Go.Ax.sco at hs ⊢
 rw[h1]at hs
 rw[h2]
 intro i hi
 rw[←h5 i hi]
 exact hs i (by omega)
theorem SameO.fits {P:Program} {ρ:Ren} {n:Nat} {a b:AObj} {o':Obj} (h:SameO a b) (hs:Fits P ρ n a o'):Fits P ρ n b o':=by
 obtain⟨c,e,z,c',z',h1,h2,h3,h4,h5⟩:=h
 unfold Fits at hs ⊢
 rw[h1]at hs
 rw[h2]
 obtain⟨d,fz,hd,hv,ha,hb⟩:=hs
 refine⟨d,fz,hd,fun i hi=>?_,?_,?_⟩
 ·rw[←h5 i hi]; exact hv i (by omega)
 ·rw[←h3,←h4]; exact ha
 ·rw[←h3,←h4]; exact hb
theorem SameO.nz {a b:AObj} (h:SameO a b):¬Fz (some a):=by
 obtain⟨c,e,z,c',z',h1,h2,h3,h4,h5⟩:=h
 rintro⟨o,ho,hf⟩
 cases ho
 obtain⟨x,y,q⟩:=a
 simp only at h1
 subst h1
 cases y<;>simp[frz]at hf
theorem sub_rel {P:Program} {ρ:Ren} {H G:AHeap} {w:World} (r:Rel P ρ H w) (hn:G.next=H.next) (hb:G.base=G.next) (hg:∀ n o,G.get n=some o→∃ a,H.get n=some a∧SameO a o):Rel P ρ G w:=by
 refine⟨Nat.le_of_eq hb,by rw[hn]; exact r.glob,fun m n h1 h2 he=>?_,fun n o ho=>?_,fun n o ho=>?_⟩
 ·obtain⟨x,hx⟩:=Option.ne_none_iff_exists'.1 h1
  obtain⟨y,hy⟩:=Option.ne_none_iff_exists'.1 h2
  obtain⟨a,ha,hs⟩:=hg m x hx
  obtain⟨b,hb,ht⟩:=hg n y hy
  rcases r.inj m n (ne_none ha) (ne_none hb) he with h|⟨h,_⟩
  ·exact .inl h
  ·rw[ha]at h
   exact absurd h hs.nz
 ·obtain⟨a,ha,hs⟩:=hg n o ho
  rw[hn]
  exact⟨(r.dom n a ha).1,hs.sco (r.dom n a ha).2⟩
 ·obtain⟨a,ha,hs⟩:=hg n o ho
  obtain⟨o',h1,h2⟩:=r.obj n a ha
  exact⟨o',h1,hs.fits h2⟩
abbrev KX:=FuncId→List Value→AHeap→Option (Value × AHeap)
def orX (K L:KX):KX:=fun f args H=>match K f args H with
 |some r=>some r
 |none=>L f args H
section
variable {P : Program}
theorem known_orX {K L:KX} (hK:KnownX P K) (hL:KnownX P L):KnownX P (orX K L):=by
 intro f args v H H1 h
 unfold orX at h
 split at h
 ·rename_i r hr
  cases h
  exact hK _ _ _ _ _ hr
 ·exact hL _ _ _ _ _ h
theorem callX_in (hmix:P.follows .mixedOrders=true) {K:KX} (hK:KnownX P K) {fuel:Nat} {f:FuncId} {args:List Value} {v:Value} {H H1:AHeap} {ρ:Ren} {w:World} (r:Rel P ρ H w)
  (h:callX P K fuel f args H=some (.ok v,H1)) (hsc:scbL H.next args=true) {F:Fence} {n:Nat} (hF:WideF F):CallsIn F n P f (args.map ρ.val).toArray w (fun e w'=>∃ ρ1,e=.returned (ρ1.val v)∧St P ρ H w ρ1 H1 w') :=
 enterF_run (execX_sound hmix hK fuel).1 r h hsc hF (fun ρ1 w1 s _=>⟨ρ1,rfl,s⟩)
def ansTX (P:Program) (K:KX) (fuel:Nat) (f:FuncId) (args:List Value) (v:Value) (T:List (Nat × TypeId × List Value)):Bool :=
 match callX P K fuel f args (tabsH P.globals.size T) with
 |some (.ok u,H1)=>sameW u v&&H1.dirty.isEmpty
 |_=>false
theorem ansTX_in {w:World} (hmix:P.follows .mixedOrders=true) {L:KX} (hK:KnownX P L) {fuel:Nat} {f:FuncId} {args:List Value} {v:Value} {T:List (Nat × TypeId × List Value)} (ha:args.all af=true) (h:ansTX P L fuel f args v T=true)
  (hT:∀ x∈T,x.1<P.globals.size∧afL x.2.2=true∧∃ c,w.heap[x.1]?=some (.cells c x.2.1 (0,0))∧c.toList=x.2.2) (F:Fence) (n:Nat) (hF:WideF F) :
  CallsIn F n P f args.toArray w (fun e w'=>e=.returned v∧RowKit.Below w.heap.size w w')∧af v=true:=by
 unfold ansTX at h
 split at h
 ·rename_i u H1 hc
  simp only[zA4]at h
  obtain⟨h,hd⟩:=h
  obtain⟨rfl,hv⟩:=sameW_eq h
  refine⟨?_,hv⟩
  have:=callX_in hmix hK (rel_tabs T hT) hc (scbL_of_af _ (afL_of fun x hx=>zC7.1 ha x hx)) (F:=F) (n:=n) hF
  rw[map_af _ args (fun x hx=>zC7.1 ha x hx)]at this
  refine this.mono ?_
  rintro e w' ⟨ρ1,rfl,s⟩
  refine⟨by rw[val_af ρ1 _ hv],s.os,s.tape,s.output,s.size,fun b hb=>s.old b hb fun n hn hor _=>?_⟩
  obtain⟨t1,t2,_⟩:=tabsH_next P.globals.size T
  rcases hor with h|h
  ·omega
  ·rw[List.isEmpty_iff.1 hd]at h
   cases h
 ·cases h
theorem callS_tabX (hmix:P.follows .mixedOrders=true) {L:KX} (hK:KnownX P L) {fuel:Nat} {f:FuncId} {args:List Value} {v:Value} {T:List (Nat × TypeId × List Value)} {H:AHeap} (ha:args.all af=true) (h:ansTX P L fuel f args v T=true)
  (hT:∀ x∈T,x.1<P.globals.size∧afL x.2.2=true∧bk H x.1=some ⟨x.2.1,false,x.2.2⟩):CallS P f args H (.ok v) H:=by
 intro ρ w r hsc F n R hF hR
 rw[map_af ρ args (fun x hx=>zC7.1 ha x hx)]
 obtain⟨h1,hv⟩:=ansTX_in (w:=w) hmix hK ha h (fun x hx=>⟨(hT x hx).1,(hT x hx).2.1,tab_world r (hT x hx).1 (hT x hx).2.2 (hT x hx).2.1⟩) F n hF
 refine h1.mono ?_
 rintro e w' ⟨rfl,hb⟩
 have:=hR ρ w' (St.below r hb) (scb_of_af _ hv)
 rwa [val_af ρ _ hv]at this
def lookX (T:List (Nat × List Value)) (K:KX):List Ent→KX
 |[],f,args,H=>K f args H
 |e::r,f,args,H=>if entOk T e f args H then some (.bool true,H) else lookX T K r f args H
def entRunX (P:Program) (K:KX) (fuel:Nat) (T:List (Nat × List Value)) (ee:Nat→TypeId) (e:Ent):Bool :=
 match callX P K fuel e.f e.args (entHeap T ee e) with
 |some (.ok (.bool true),H1)=>H1.dirty.isEmpty
 |_=>false
theorem known_heapX (hmix:P.follows .mixedOrders=true) {T:List (Nat × List Value)} {K:KX} {l:List Ent} (hK:KnownX P (lookX T K l)) (fuel:Nat) {e:Ent} (h:∀ ee,entRunX P (lookX T K l) fuel T ee e=true):KnownX P (lookX T K (e::l)):=by
 intro g bs u H H1' hu
 unfold lookX at hu
 split at hu
 ·rename_i hc
  simp only[Option.some.injEq,Prod.mk.injEq]at hu
  obtain⟨rfl,rfl⟩:=hu
  intro ρ w r hsc F n R hF hR
  simp only[entOk,zA4,zC7]at hc
  obtain⟨⟨⟨⟨c1,c2⟩,c3⟩,c4⟩,c5⟩:=hc
  have c1:=zD2 c1
  have c2:=sameXL_eq _ _ c2
  have c3:=zD2 c3
  subst c1 c2
  obtain⟨ee,hee⟩:∃ ee:Nat→TypeId,∀ x∈T,objIs H x.1 false x.2=some (ee x.1):=by
   refine⟨fun n=>match H.get n with
    |some ⟨.cells _ t _,_,_⟩=>t
    |_=>0,fun x hx=>?_⟩
   have:=c5 x hx
   unfold objIs at this ⊢
   split at this
   ·rename_i c t z o' rv hg
    simp only[hg]
    split at this
    ·rename_i hh; rw[if_pos hh]
    ·simp at this
   ·simp at this
  have hrun:=h ee
  obtain⟨n1,n2,n3⟩:=layB_next ((T.map fun x=>(x.1,(⟨ee x.1,false,x.2⟩:Bl)))++e.blks) (AHeap.none e.next)
  have hr:Rel P ρ (entHeap T ee e) w:=by
   refine sub_rel r (by unfold entHeap; rw[n1]; exact c3) (by unfold entHeap; rw[n1,n2]; rfl) fun n o ho=>?_
   rcases layB_get _ _ n o ho with ho|⟨x,hx,rfl,rfl⟩
   ·rw[none_get]at ho; cases ho
   ·rcases zC6.1 hx with hx|hx
    ·obtain⟨y,hy,rfl⟩:=zC8.1 hx
     exact objIs_same (hee y hy)
    ·have:=c4 x hx
     unfold blkIs at this
     split at this
     ·rename_i t ht
      have:=zD2 this
      subst this
      exact objIs_same ht
     ·cases this
  unfold entRunX at hrun
  split at hrun
  ·rename_i H1 hcl
   refine (callX_in hmix hK hr hcl (by unfold entHeap; rw[n1]; rw[show (AHeap.none e.next).next=e.next from rfl,c3]; exact hsc) hF).mono ?_
   rintro e' w' ⟨ρ1,rfl,s⟩
   have hb:RowKit.Below w.heap.size w w':=by
    refine⟨s.os,s.tape,s.output,s.size,fun b hb=>s.old b hb fun n hn hor _=>?_⟩
    rw[List.isEmpty_iff.1 hrun]at hor
    unfold entHeap at hn hor
    rw[n1]at hn
    rw[n2]at hor
    rcases hor with h|h
    ·exact absurd hn (Nat.not_lt.2 h)
    ·cases h
   have:=hR ρ w' (St.below r hb) rfl
   simpa[Ren.val]using this
  ·cases hrun
 ·exact hK _ _ _ _ _ hu
def lookP (K:KX):List (FuncId × List Value × Value)→KX
 |[],f,args,H=>K f args H
 |(g,xs,v)::r,f,args,H=>if Nat.beq g f&&sameXL xs args then some (v,H) else lookP K r f args H
theorem known_nilP {K:KX} (hK:KnownX P K):KnownX P (lookP K []):=fun f args v H H1 h=>hK f args v H H1 h
theorem known_baseX {T:List (Nat × List Value)} {K:KX} (hK:KnownX P K):KnownX P (lookX T K []):=fun f args v H H1 h=>hK f args v H H1 h
end
section
variable {P : Program} {ro : Option Nat} {H : AHeap} {N : Nat} {E : Env} {ds : List Deferred} {ops : Array Oper} {rest : List Oper} {d : Nat} {ty : TypeId} {pos : String} {after : Array Edge} {Q : Exit → AAct → AHeap → Prop}
theorem w_plain {op:BinOp} {t u:TypeId} {x y:Operand} {p q v:Value} (hx:opOk P N x=true) (hy:opOk P N y=true) (hp:opv E x=p) (hq:opv E y=q) (hd:d<N) (h0:aBin P H op t p q=none) (h1:af p=true) (h2:af q=true) (h:peval P (do eqGuard op t x y p q; binOp op t p q)=some v) (h3:af v=true) :
  wpOps P ro ops (⟨some d,.binOp op t x y u,ty,pos,after,none⟩::rest) (mkA N E ds) H Q=wpOps P ro ops rest (mkA N (upd E d v) ds) H Q :=
 (w_rv (x:=some v) rfl (by simp only[aop,xBin,aeval_opv hx,aeval_opv hy,hp,hq,zA1,zA3,binV,h0,h1,h2,aPlain,h,h3,zD6,if_true,zA5]; rfl) hd).trans valC_some
def bAnd (k:IntKind) (x y:Int):Int:=k.wrap ((BitVec.ofInt k.bits x &&& BitVec.ofInt k.bits y).toNat:Int)
def bOr (k:IntKind) (x y:Int):Int:=k.wrap ((BitVec.ofInt k.bits x ||| BitVec.ofInt k.bits y).toNat:Int)
def bNot (k:IntKind) (x y:Int):Int:=k.wrap ((BitVec.ofInt k.bits x &&& ~~~BitVec.ofInt k.bits y).toNat:Int)
def bShl (k:IntKind) (x:Int) (n:Nat):Int:=k.wrap (x*2 ^ (min n k.bits))
def bShr (k:IntKind) (x:Int) (n:Nat):Int:=x.fdiv (2 ^ (min n k.bits))
def bitV (op:BinOp):Value→Value→Option Value
 |.int k a,.int k' b=>(match op with
  |.and=>if k=k' then some (.int k (bAnd k a b)) else none
  |.or=>if k=k' then some (.int k (bOr k a b)) else none
  |.andNot=>if k=k' then some (.int k (bNot k a b)) else none
  |.shl=>if 0≤b then some (.int k (bShl k a b.toNat)) else none
  |.shr=>if 0≤b then some (.int k (bShr k a b.toNat)) else none
  |_=>none)
 |.string a,.string b=>(match op with
  |.eql=>some (.bool (a.toList == b.toList))
  |_=>none)
 |_,_=>none
theorem w_bits {op:BinOp} {t u:TypeId} {x y:Operand} {p q v:Value} (hx:opOk P N x=true) (hy:opOk P N y=true) (hp:opv E x=p) (hq:opv E y=q) (hd:d<N) (h:bitV op p q=some v) (h0:aBin P H op t p q=none) :
  wpOps P ro ops (⟨some d,.binOp op t x y u,ty,pos,after,none⟩::rest) (mkA N E ds) H Q=wpOps P ro ops rest (mkA N (upd E d v) ds) H Q:=by
 unfold bitV at h
 split at h
 ·rename_i k a k' b
  split at h<;>try split at h
  ·rename_i hk
   subst hk
   simp only[Option.some.injEq]at h
   subst h
   exact w_plain hx hy hp hq hd h0 rfl rfl (by simp[eqGuard,binOp,peval,Op.intBits,bAnd,pure,bind,Sem.bind]) rfl
  ·cases h
  ·rename_i hk
   subst hk
   simp only[Option.some.injEq]at h
   subst h
   exact w_plain hx hy hp hq hd h0 rfl rfl (by simp[eqGuard,binOp,peval,Op.intBits,bOr,pure,bind,Sem.bind]) rfl
  ·cases h
  ·rename_i hk
   subst hk
   simp only[Option.some.injEq]at h
   subst h
   exact w_plain hx hy hp hq hd h0 rfl rfl (by simp[eqGuard,binOp,peval,Op.intBits,bNot,pure,bind,Sem.bind]) rfl
  ·cases h
  ·rename_i hb
   simp only[Option.some.injEq]at h
   subst h
   exact w_plain hx hy hp hq hd h0 rfl rfl (by simp[eqGuard,binOp,peval,Op.shift,bShl,pure,bind,Sem.bind,show ¬b<0 by omega]) rfl
  ·cases h
  ·rename_i hb
   simp only[Option.some.injEq]at h
   subst h
   exact w_plain hx hy hp hq hd h0 rfl rfl (by simp[eqGuard,binOp,peval,Op.shift,bShr,pure,bind,Sem.bind,show ¬b<0 by omega]) rfl
  ·cases h
  all_goals cases h
 ·rename_i a b
  split at h
  ·simp only[Option.some.injEq]at h
   subst h
   exact w_plain hx hy hp hq hd h0 rfl rfl (by simp[eqGuard,binOp,peval,Op.stringOp,pure,bind,Sem.bind]) rfl
  ·cases h
 ·cases h
theorem bin_nobit {op:BinOp} {t:TypeId} {p q v:Value} (hop:op=.and∨op=.or∨op=.andNot∨op=.shl∨op=.shr) (h:bitV op p q=some v):aBin P H op t p q=none:=by
 unfold bitV at h
 split at h
 ·rename_i k a k' b
  simp only[aBin]
  split
  ·rcases hop with rfl|rfl|rfl|rfl|rfl<;>rfl
  ·rfl
 ·rcases hop with rfl|rfl|rfl|rfl|rfl<;>cases h
 ·cases h
theorem w_bit {op:BinOp} {t u:TypeId} {x y:Operand} (hop:op=.and∨op=.or∨op=.andNot∨op=.shl∨op=.shr) (hx:opOk P N x=true) (hy:opOk P N y=true) (hd:d<N) (h:(bitV op (opv E x) (opv E y)).isSome=true) :
  wpOps P ro ops (⟨some d,.binOp op t x y u,ty,pos,after,none⟩::rest) (mkA N E ds) H Q=valC P ro ops rest N E ds d H Q (bitV op (opv E x) (opv E y)):=by
 cases hv:bitV op (opv E x) (opv E y) with
 |none=>rw[hv]at h; cases h
 |some v=>exact (w_bits hx hy rfl rfl hd hv (bin_nobit hop hv)).trans valC_some.symm
theorem w_shr {t u:TypeId} {x y:Operand} (hx:opOk P N x=true) (hy:opOk P N y=true) (hd:d<N) (h:(bitV .shr (opv E x) (opv E y)).isSome=true):wpOps P ro ops (⟨some d,.binOp .shr t x y u,ty,pos,after,none⟩::rest) (mkA N E ds) H Q=valC P ro ops rest N E ds d H Q (bitV .shr (opv E x) (opv E y)):=w_bit (by simp) hx hy hd h
theorem bit_shl {k k':IntKind} {a b:Int} (h:0≤b):bitV .shl (.int k a) (.int k' b)=some (.int k (bShl k a b.toNat)):=by simp only[bitV,h,if_true]
theorem bit_shr {k k':IntKind} {a b:Int} (h:0≤b):bitV .shr (.int k a) (.int k' b)=some (.int k (bShr k a b.toNat)):=by simp only[bitV,h,if_true]
end
open Go.Proofs
section
variable {P : Program} {ρ : Ren} {H : AHeap} {w : World}
theorem setCells_heap (b:Nat) {e:TypeId} {fz:Nat × Nat}:∀ (vs:List Value) (o:Nat) (w:World) (c:Array Value),w.heap[b]?=some (.cells c e fz) →
  (w.setCells b o vs).heap[b]?=some (.cells (wrA c o vs) e fz)∧(w.setCells b o vs).heap.size=w.heap.size∧(∀ b',b'≠b→(w.setCells b o vs).heap[b']?=w.heap[b']?)∧(w.setCells b o vs).os=w.os∧(w.setCells b o vs).tape=w.tape∧(w.setCells b o vs).output=w.output
 |[],o,w,c,h=>⟨h,rfl,fun _ _=>rfl,rfl,rfl,rfl⟩
 |v::r,o,w,c,h=>by
  have h1:(w.setCell ⟨b,o,none⟩ v).heap[b]?=some (.cells (c.setIfInBounds o v) e fz):=by
   unfold World.setCell
   simp[Array.getElem?_modify,h]
  have h2:(w.setCell ⟨b,o,none⟩ v).heap.size=w.heap.size:=by
   unfold World.setCell
   simp
  have h3:∀ b',b'≠b→(w.setCell ⟨b,o,none⟩ v).heap[b']?=w.heap[b']?:=fun b' hb=>by
   unfold World.setCell
   simp only[Array.getElem?_modify]
   rw[if_neg (fun e=>hb e.symm)]
  obtain⟨k1,k2,k3,k4,k5,k6⟩:=setCells_heap b r (o+1) _ _ h1
  exact⟨k1,k2.trans h2,fun b' hb=>(k3 b' hb).trans (h3 b' hb),k4,k5,k6⟩
def isI64:Value→Bool
 |.int .i64 _=>true
 |_=>false
theorem isI64_of {v:Value} (h:isI64 v=true):∃ n,v=.int .i64 n:=by
 cases v<;>try cases h
 rename_i k n
 cases k<;>first|exact⟨n,rfl⟩|cases h
def insK (F:FuncId) (ti:TypeId) (f:FuncId) (args:List Value) (H:AHeap):Option (Value × AHeap) :=
 match args with
 |[.slice (some ⟨a,off,none⟩) n cap,.int .i64 i,.slice (some ⟨vb,voff,some 0⟩) 1 1] =>
  if Nat.beq f F&&decide (0≤i)&&Nat.blt i.toNat n&&Nat.ble cap 1000000 then
   match cellsAt H a,H.get vb with
   |some (v,e,true),some ⟨.cells _ _ _,false,u⟩ =>
    if Nat.beq e ti&&Nat.ble n cap&&Nat.ble (off+cap) v.n&&Nat.blt voff u.n&&!(Nat.beq a vb)&&(v.gets off n).all isI64&&isI64 (u.get voff) then
     some (.slice (some ⟨H.next,0,none⟩) (n+1) (n+1),(H.upd a none).new ⟨.cells #[] e,true,RV.ofList ((v.gets off n).take i.toNat++(u.get voff::(v.gets off n).drop i.toNat))⟩)
    else none
   |_,_=>none
  else none
 |_=>none
theorem ins_get {l:List Value} {x:Value} {i n:Nat} (hl:l.length=n) (hi:i<n) (j:Nat):(l.take i++(x::l.drop i))[j]?=if j<i then l[j]? else if j=i then some x else l[j-1]?:=by
 by_cases h1:j<i
 ·rw[if_pos h1,List.getElem?_append_left (by rw[List.length_take]; omega),List.getElem?_take,if_pos h1]
 ·rw[if_neg h1,List.getElem?_append_right (by rw[List.length_take]; omega),List.length_take,Nat.min_eq_left (by omega)]
  by_cases h2:j=i
  ·rw[if_pos h2,h2,Nat.sub_self]; rfl
  ·rw[if_neg h2]
   obtain⟨k,rfl⟩:∃ k,j=i+1+k:=⟨j-i-1,by omega⟩
   rw[show i+1+k-i=k+1 by omega,zE4,List.getElem?_drop]
   congr 1
   omega
theorem wrA_ins {c:Array Value} {O n i:Nat} {l:List Value} {x:Value} (hl:l.length=n) (hi:i<n) (hc:∀ j,j<n→c[O+j]?=l[j]?) (hs:O+n+1≤c.size) :
  ∀ j,j<n+1→(wrA (wrA c (O+(i+1)) (l.drop i)) (O+i) [x])[O+j]?=(l.take i++(x::l.drop i))[j]?:=by
 intro j hj
 have hd:(l.drop i).length=n-i:=by rw[List.length_drop,hl]
 rw[ins_get hl hi,wrA_get _ _ _ _ (by rw[wrA_size]; simp only[zB9]; omega)]
 by_cases h1:j<i
 ·rw[if_neg (by simp only[zB9]; omega),if_pos h1,wrA_get _ _ _ _ (by omega),if_neg (by omega)]
  exact hc j (by omega)
 ·by_cases h2:j=i
  ·subst h2
   rw[if_pos (by simp only[zB9]; omega),if_neg h1,if_pos rfl,Nat.sub_self]
   rfl
  ·rw[if_neg (by simp only[zB9]; omega),if_neg h1,if_neg h2,wrA_get _ _ _ _ (by omega),if_pos (by omega),List.getElem?_drop]
   congr 1
   omega
theorem ins_known {rho:Go.Shelf.Ren} (L:Lays2.n21 P rho) {e3:TypeId} (h3:rho.t 3=e3):KnownX P (insK (rho.f 21) e3):=by
 intro f args v0 H H1 h ρ w r hsc F m R hF hR
 unfold insK at h
 split at h
 ·rename_i a off n cap i vb voff
  split at h
  ·rename_i hcond
   simp only[zA4,decide_eq_true_eq]at hcond
   obtain⟨⟨⟨hf,h0⟩,hin⟩,hn⟩:=hcond
   have hf:=zD2 hf
   subst hf
   have hin:=blt_lt hin
   have hn9:=ble_le hn
   obtain⟨i,rfl⟩:∃ k:Nat,i=k:=⟨i.toNat,by omega⟩
   rw[zD0]at hin h
   split at h
   ·rename_i v e z1 z2 z3 u hca hgv
    split at h
    ·rename_i hc2
     simp only[zA4,Bool.not_eq_true']at hc2
     obtain⟨⟨⟨⟨⟨⟨he,hnc⟩,hcap⟩,hvo⟩,hab⟩,hall⟩,hx⟩:=hc2
     have he:=zD2 he
     subst he
     have hnc:=ble_le hnc
     have hcap:=ble_le hcap
     have hvo:=blt_lt hvo
     have hab:a≠vb:=fun e=>by subst e; simp at hab
     obtain⟨x,hx⟩:=isI64_of hx
     simp only[Option.some.injEq,Prod.mk.injEq]at h
     obtain⟨rfl,rfl⟩:=h
     obtain⟨c,fz,hC⟩:=r.cells hca
     obtain⟨hsize,hfz⟩:=hC.open_ rfl
     obtain⟨cc,ff,hg0⟩:=cellsAt_get hca
     obtain⟨ov,hwv,hfit⟩:=r.obj _ _ hgv
     simp only[Fits]at hfit
     obtain⟨c2,fz2,rfl,hcs2,hsh2,_⟩:=hfit
     obtain⟨k1,k2,k3,rfl⟩:=hsh2 trivial
     have hnz:¬Fz (H.get a):=cellsAt_nz hca
     have hne:ρ.blk vb≠ρ.blk a:=fun e=>by
      rcases r.inj vb a (ne_none hgv) (ne_none hg0) e with h|h
      ·exact hab h.symm
      ·exact hnz h.2
     have h31:P.cellsOf e=1:=by
      obtain⟨i0,hi0,hz0,hzs,hzb⟩:=info_parts L.i3
      rw[h3]at hi0
      exact cellsOf_szOf (by simp[szOf,hi0,hzs])
     rw[h31,zC2]at hsize hfz
     obtain⟨l,hl⟩:∃ l,l=v.gets off n:=⟨_,rfl⟩
     rw[←hl]at hall hR
     have hll:l.length=n:=by rw[hl]; simp
     have hlj:∀ j,j<n→l[j]?=some (v.get (off+j)):=fun j hj=>by
      rw[hl,RV.gets_eq]; simp[hj]
     have haf:∀ j,j<n→∃ k,v.get (off+j)=.int .i64 k:=fun j hj=>isI64_of (zC7.1 hall _ (zE2 (hlj j hj)))
     have hcl:∀ j,j<n→c[off+ρ.sh a+j]?=l[j]?:=fun j hj=>by
      have:=hC.cell (off+j) (by omega)
      obtain⟨k,hk⟩:=haf j hj
      rw[hlj j hj,show off+ρ.sh a+j=off+j+ρ.sh a by omega,this,hk,Ren.val]
     have hvv:c2[voff]?=some (.int .i64 x):=by
      have:=hcs2 voff hvo
      rw[k2,hx,Ren.val]at this
      exact this
     have hA:[Value.slice (some ⟨a,off,none⟩) n cap,.int .i64 (i:Int),.slice (some ⟨vb,voff,some 0⟩) 1 1].map ρ.val=[.slice (some ⟨ρ.blk a,off+ρ.sh a,none⟩) n (cap+ρ.ex a),.int .i64 (i:Int),.slice (some ⟨ρ.blk vb,voff,none⟩) 1 1]:=by
      simp[Ren.val,k2]
     have hins:∀ j,j<n+1→∃ k,(l.take i++(u.get voff::l.drop i))[j]?=some (.int .i64 k):=fun j hj=>by
      rw[ins_get hll hin]
      split
      ·obtain⟨k,hk⟩:=haf j (by omega)
       exact⟨k,by rw[hlj j (by omega),hk]⟩
      ·split
       ·exact⟨x,by rw[hx]⟩
       ·obtain⟨k,hk⟩:=haf (j-1) (by omega)
        exact⟨k,by rw[hlj (j-1) (by omega),hk]⟩
     have hlen:(l.take i++(u.get voff::l.drop i)).length=n+1:=by
      rw[zB2,zA7,List.length_take,List.length_drop]; omega
     have hone:∀ y∈l,y.oneCell'=true:=fun y hy=>by
      obtain⟨k,rfl⟩:=isI64_of (zC7.1 hall y hy); rfl
     have hcellA:∀ j y,l[j]?=some y→w.cell? ⟨ρ.blk a,off+ρ.sh a+j,none⟩=some y:=fun j y hy=>by
      have hj:j<n:=by have:=(List.getElem?_eq_some_iff.1 hy).1; omega
      simp only[World.cell?,hC.at_]
      rw[←hy]; exact hcl j hj
     have hcellV:∀ j y,[Value.int .i64 x][j]?=some y→w.cell? ⟨ρ.blk vb,voff+j,none⟩=some y:=fun j y hy=>by
      cases j with
      |zero=>simp only[World.cell?,hwv]; rw[zD1]; simpa[←hy]using hvv
      |succ j=>simp at hy
     have hoS:sco H.next ⟨.cells #[] e,true,RV.ofList (l.take i++(u.get voff::l.drop i))⟩:=by
      simp only[sco,RV.n_ofList,RV.get_ofList]
      intro j hj
      rw[hlen]at hj
      obtain⟨k,hk⟩:=hins j hj
      simp[zB8,hk,scb]
     rw[hA]
     by_cases hroom:n+1≤cap+ρ.ex a
     ·have hc63:cap+ρ.ex a≤9223372036854775807:=by
       by_cases h0:ρ.ex a=0
       ·omega
       ·have:=hC.room rfl h0
        rw[h31]at this
        omega
      have hc:=Any2.slices_Insert_int_shift L (ρ.blk a) (off+ρ.sh a) n (cap+ρ.ex a) i (ρ.blk vb) voff 1 1 l [.int .i64 x] w hin (by omega) hroom hc63 hne hll rfl hcellA
       (fun j hj=>by simp only[World.cell?,hC.at_]; simp; omega)
       (fun j hj=>by
        have:=hfz (off+ρ.sh a+j) (by omega) (by omega)
        simp only[World.frozen?,hC.at_]
        simp only[Bool.and_eq_false_imp,decide_eq_true_eq,decide_eq_false_iff_not]
        intro h1 h2; exact this ⟨h1,h2⟩)
       hcellV hone (by simp[Value.oneCell']) z2 e c2.size c.size (by simp only[World.shape?,hwv]) (by simp only[World.shape?,hC.at_]) (by omega) (by simp[World.frozen?,hwv]) (by simp[World.frozen?,hwv])
      refine (hF.calls hc).mono ?_
      rintro en w' ⟨rfl,rfl⟩
      obtain⟨a1,a2,a3,a4,a5,a6⟩:=setCells_heap (ρ.blk a) (l.drop i) (off+ρ.sh a+(i+1)) w.drew c hC.at_
      obtain⟨b1,b2,b3,b4,b5,b6⟩:=setCells_heap (ρ.blk a) [.int .i64 x] (off+ρ.sh a+i) _ _ a1
      have hst:=St.move r (off+ρ.sh a) (cap+ρ.ex a-(n+1)) (ne_none hg0) hnz hoS (o':=_) (by
       simp only[Fits]
       refine⟨_,fz,rfl,fun j hj=>?_,fun h=>(by cases h),fun _ _=>⟨?_,fun j h1 h2=>?_⟩⟩
       ·rw[RV.n_ofList,hlen]at hj
        have:=wrA_ins (x:=.int .i64 x) hll hin hcl (by omega) j hj
        obtain⟨k,hk⟩:=hins j hj
        rw[RV.get_ofList,Ren.at_sh,Nat.add_comm j,this,←hx,hk,zB8,hk]
        simp[Ren.val]
       ·rw[wrA_size,wrA_size,Ren.at_sh,Ren.at_ex,RV.n_ofList,hlen,h31]; omega
       ·rw[Ren.at_sh,Ren.at_ex,RV.n_ofList,hlen,h31]at h2
        rw[Ren.at_sh]at h1
        exact hfz j (by omega) (by omega)) b1 (b2.trans a2) (fun b' hb=>(b3 b' hb).trans (a3 b' hb)) (b4.trans a4) (b5.trans a5) (b6.trans a6)
      have:=hR _ _ hst (by simp only[scb]; exact blt_of (zC4 _))
      rw[val_fresh,show n+1+(cap+ρ.ex a-(n+1))=cap+ρ.ex a by omega]at this
      exact this
     ·have hc:=Any2.slices_Insert_int_grow L (ρ.blk a) (off+ρ.sh a) n (cap+ρ.ex a) i (ρ.blk vb) voff 1 1 l [.int .i64 x] w hin (by omega) (by omega) (by omega) (by omega) hll rfl hcellA hcellV hone (by simp[Value.oneCell'])
      refine (hF.calls hc).mono ?_
      rintro en w' ⟨rfl,hw'⟩
      obtain⟨G,hG⟩:∃ G,grownCap w (n+1) (cap+ρ.ex a) (rho.t 3)=G:=⟨_,rfl⟩
      have hG1:n+1≤G:=hG▸grownCap_ge w (n+1) _ _
      have hG2:G≤9223372036854775807:=by
       have:=grownCap_le_maxLen w (n+1) (cap+ρ.ex a) (rho.t 3) (by simp only[maxLen]; omega)
       simp only[maxLen]at this
       omega
      rw[hG,h3]at hw'
      rw[hG]
      have hzs:∀ k,Builtin.zeroCells (Value.int .i64 0).cells k=(zerosL [.int .i64 0] k).toArray:=fun k=>zeros_range _ _
      rw[hzs,hzs]at hw'
      obtain⟨A,hA⟩:∃ A,(l.take i).toArray++(zerosL [.int .i64 0] (n+1-i)).toArray++(zerosL [Value.int .i64 0] (G-(n+1))).toArray=A:=⟨_,rfl⟩
      rw[hA]at hw'
      have hAs:A.size=G:=by
       rw[←hA]
       simp only[Array.size_append,List.size_toArray,List.length_take,zerosL_len,zB9]
       omega
      have hAi:∀ j,j<i→A[j]?=l[j]?:=fun j hj=>by
       rw[←hA,Array.getElem?_append_left (by simp only[Array.size_append,List.size_toArray,List.length_take]; omega),Array.getElem?_append_left (by simp only[List.size_toArray,List.length_take]; omega)]
       simp[hj]
      have q0:(w.alloc (.cells A e)).drew.heap[w.heap.size]?=some (.cells A e (0,0)):=by
       show (w.heap.push _)[w.heap.size]?=_
       simp
      obtain⟨a1,a2,a3,a4,a5,a6⟩:=setCells_heap w.heap.size [.int .i64 x] i (w.alloc (.cells A e)).drew A q0
      obtain⟨b1,b2,b3,b4,b5,b6⟩:=setCells_heap w.heap.size (l.drop i) (i+1) ((w.alloc (.cells A e)).drew.setCells w.heap.size i [.int .i64 x]).drew _ a1
      rw[←hw']at b1 b2 b3 b4 b5 b6
      have s1:=St.del r a hnz
      have s3:=St.new s1.rel ⟨.cells #[] e,true,RV.ofList (l.take i++(u.get voff::l.drop i))⟩ (.cells (wrA (wrA A i [.int .i64 x]) (i+1) (l.drop i)) e (0,0)) 0 (G-(n+1)) hoS (by
       simp only[Fits]
       refine⟨_,(0,0),rfl,fun j hj=>?_,fun h=>(by cases h),fun _ _=>⟨⟨?_,fun _=>?_⟩,fun j h1 h2=>by simp only; omega⟩⟩
       ·rw[RV.n_ofList,hlen]at hj
        obtain⟨k,hk⟩:=hins j hj
        rw[RV.get_ofList,Ren.at_sh,show j+0=j from rfl,zB8,hk]
        rw[ins_get hll hin]at hk
        have hdl:(l.drop i).length=n-i:=by rw[List.length_drop,hll]
        rw[wrA_get _ _ _ _ (by rw[wrA_size]; omega)]
        by_cases h1:j<i
        ·rw[if_pos h1]at hk
         rw[if_neg (by omega),wrA_get _ _ _ _ (by simp only[zB9]; omega),if_neg (by omega),hAi j h1,hk]
         simp[Ren.val]
        ·rw[if_neg h1]at hk
         by_cases h2:j=i
         ·rw[if_pos h2,hx]at hk
          rw[if_neg (by omega),wrA_get _ _ _ _ (by simp only[zB9]; omega),if_pos (by simp only[zB9]; omega),h2,Nat.sub_self]
          simpa[Ren.val]using hk
         ·rw[if_neg h2]at hk
          rw[if_pos (by omega),List.getElem?_drop,show i+(j-(i+1))=j-1 by omega,hk]
          simp[Ren.val]
       ·rw[wrA_size,wrA_size,hAs,Ren.at_sh,Ren.at_ex,RV.n_ofList,hlen,h31]; omega
       ·rw[Ren.at_ex,RV.n_ofList,hlen,h31]; omega)
      have s4:=St.world (w1:=w') s3.rel (by
       apply Array.ext_getElem?
       intro k
       by_cases hk:k=w.heap.size
       ·rw[hk,b1]
        show _=(w.heap.push _)[w.heap.size]?
        simp
       ·rw[b3 k hk]
        show ((w.alloc (.cells A e)).drew.setCells w.heap.size i [.int .i64 x]).heap[k]?=_
        rw[a3 k hk]
        show (w.heap.push _)[k]?=(w.heap.push _)[k]?
        rw[Array.getElem?_push,Array.getElem?_push,if_neg hk,if_neg hk]) (b4.trans a4) (b5.trans a5) (b6.trans a6)
      have:=hR _ _ (s1.trans (s3.trans s4)) (by simp only[scb]; exact blt_of (zC4 _))
      rw[show (H.upd a none).next=H.next from rfl,val_fresh,show n+1+(G-(n+1))=G by omega]at this
      exact this
    ·cases h
   ·cases h
  ·cases h
 ·cases h
end
end Go.Ax
namespace Go.Proofs.YtnigelgcjfhghaaGreatDoor
open Go.Ax
set_option maxRecDepth 100000
def rhoR:Go.Shelf.Ren:=⟨fun n=>if n=99 then 135 else if n=105 then 111 else if n=165 then 136 else if n=166 then 53 else if n=169 then 56 else if n=170 then 137 else if n=206 then 154 else if n=212 then 134 else if n=240 then 86 else if n=241 then 155 else if n=263 then 152 else if n=264 then 153 else if n=276 then 112 else if n=277 then 163 else 0,fun n=>if n=37 then 23 else if n=46 then 80 else if n=51 then 201 else if n=53 then 190 else if n=70 then 108 else if n=72 then 110 else if n=75 then 117 else if n=76 then 118 else if n=80 then 122 else if n=109 then 186 else if n=127 then 146 else if n=146 then 202 else if n=148 then 204 else if n=164 then 169 else n,fun n=>n⟩
theorem laysR:Go.Proofs.Lays.n105 Tryz.prog rhoR:=by
 constructor
 all_goals first
  |exact mixed
  |kernel_rfl
  |(intro w; kernel_rfl)
theorem extraR:Go.Proofs.Builder.Extra Tryz.prog rhoR:=by
 refine⟨⟨?_,?_⟩,?_,?_,?_,?_,?_,?_,?_,?_⟩
 all_goals first
  |kernel_rfl
  |(intro w; kernel_rfl)
  |decide
def rhoI:Go.Shelf.Ren:=⟨fun n=>if n=21 then 98 else if n=27 then 121 else if n=28 then 122 else if n=35 then 149 else if n=39 then 162 else 0,fun n=>if n=22 then 35 else n,fun n=>n⟩
theorem laysI:Go.Proofs.Lays2.n21 Tryz.prog rhoI:=by
 constructor
 all_goals first
  |exact mixed
  |kernel_rfl
  |(intro w; kernel_rfl)
def repK:KX:=fun f args H =>
 match args with
 |[.string s,.int .i64 n]=>if Nat.beq f 111&&decide (0≤n)&&decide (n≤1000)&&Nat.ble s.size 1000 then some (.string ⟨(Go.Lib.repeatL s.data.toList n.toNat).toArray⟩,H) else none
 |_=>none
theorem repeat_s (H:AHeap) (s:ByteArray) (k:Nat) (hs:s.size*k≤140737488355328) (hk:k≤9223372036854775807):CallS Tryz.prog 111 [.string s,.int .i64 (k:Int)] H (.ok (.string ⟨(Go.Lib.repeatL s.data.toList k).toArray⟩)) H:=by
 intro ρ w r hsc F m R hF hR
 have hc:=Go.Proofs.Any.strings_Repeat laysR extraR s k w hk hs
 have e1:[Value.string s,Value.int .i64 (k:Int)].map ρ.val=[Value.string s,Value.int .i64 (k:Int)]:=map_af ρ _ (fun x hx=>by simp only[zB1,List.not_mem_nil,or_false]at hx; rcases hx with rfl|rfl<;>rfl)
 rw[e1]
 refine (hF.calls hc).mono ?_
 rintro e w' ⟨rfl,hb⟩
 have:=hR ρ w' (St.below r hb) rfl
 rwa [val_af ρ _ rfl]at this
theorem known_rep:KnownX Tryz.prog repK:=by
 intro f args v H H1 h
 unfold repK at h
 split at h
 ·rename_i s n
  split at h
  ·rename_i hc
   simp only[zA4,decide_eq_true_eq]at hc
   obtain⟨⟨⟨hf,h0⟩,h1⟩,h2⟩:=hc
   have hf:=zD2 hf
   subst hf
   have h2:=zB5 h2
   obtain⟨k,rfl⟩:∃ k:Nat,n=k:=⟨n.toNat,by omega⟩
   cases h
   have hm:s.size*k≤1000*1000:=Nat.mul_le_mul h2 (by omega)
   rw[zD0]
   exact repeat_s _ s k (by omega) (by omega)
  ·cases h
 ·cases h
def shaK:KX:=fun f args H =>
 match args with
 |[]=>if Nat.beq f 52 then some (.agg ⟨shV H.next⟩,ext H (shB H.next)) else none
 |_=>none
theorem known_sha:KnownX Tryz.prog shaK:=by
 intro f args v H H1 h
 unfold shaK at h
 split at h
 ·split at h
  ·rename_i hf
   have hf:=zD2 hf
   subst hf
   cases h
   exact shapes_c _
  ·cases h
 ·cases h
def baseK:KX:=orX shaK (orX repK (insK 98 3))
theorem known_bK:KnownX Tryz.prog baseK:=known_orX known_sha (known_orX known_rep (ins_known laysI rfl))
end Go.Proofs.YtnigelgcjfhghaaGreatDoor
namespace Go.Ax
section
variable {P : Program} {H : AHeap} {N : Nat} {E : Env} {ds : List Deferred} {ro : Option Nat} {ops : Array Oper} {rest : List Oper} {d : Nat} {ty : TypeId} {pos : String} {after : Array Edge}
theorem w_convert {Q:Exit→AAct→AHeap→Prop} {x:Operand} {s t:TypeId} (hx:opOk P N x=true):wpOps P ro ops (⟨some d,.convert s t x,ty,pos,after,none⟩::rest) (mkA N E ds) H Q=heapC P ro ops rest N E ds (some d) Q (aConvert P H s t (opv E x)) :=
 w_rvh rfl (by simp only[aop,xConvert,aeval_opv hx,zA1,zA3])
theorem cv_int {s t:TypeId} {u:TypeDesc} {k k0:IntKind} {n:Int} (hs:P.underlying s=some u) (ht:P.underlying t=some (.int k)):aConvert P H s t (.int k0 n)=some (.int k (k.wrap n),H):=by
 simp only[aConvert,hs,ht]
theorem genV_val {o:Oper} {Q:AAct→AHeap→Prop} {i:Nat} {fps:List Fp} {anc:List Nat} {v:Value} (hdst:o.dst=some d) (hd:d<N) (hop:∀ G,aop o.op P (mkA N E ds) G=some (.value v,G)) (hm:∀ r∈fps,Meets (anc.getD i 0) [] [] (idsV v++([]:List Bl).flatMap fun x=>idsL x.l) r)
  (h:wkD P ops anc rest (i+1) (⟨i,[],[],H.next,H.next+0⟩::fps) (mkA N (upd E d v) ds) H Q):genV P ops anc o rest i fps (mkA N E ds) H Q :=
 genV_extO (v:=v) (M:=[]) [] hdst hd (fun _ h=>by cases h) (fun G _ _=>opS_of (x:=.value v) (g:=G) (hop G) ⟨rfl,rfl⟩) hm h
theorem builtin_op {args:List Operand} {b:Builtin} {ts:Array TypeId} {dst:Option Nat} {v:Value} {G:AHeap} (ha:args.all (opOk P N)=true) (h:aBuiltin P H b ts (args.map (opv E))=some (v,G)):OpS P (mkA N E ds) H ⟨dst,.call ⟨.builtin b,⟨args⟩,ts⟩,ty,pos,after,none⟩ (.ok v) G :=
 opS_of (x:=.value v) (g:=G) (by simp only[aop,xCall,aevals_opv ha,zA1,zA3,h,rvh,zA5]) ⟨rfl,rfl⟩
end
section
variable {P : Program} {ro : Option Nat} {H : AHeap} {N : Nat} {E : Env} {ds : List Deferred} {ops : Array Oper} {rest : List Oper} {d : Nat} {ty : TypeId} {pos : String} {after : Array Edge}
theorem bt_lenStr {t:TypeId} {s:ByteArray} (hu:P.underlying t=some .string):aBuiltin P H .len ⟨[t]⟩ [.string s]=some (goInt s.size,H):=by simp[aBuiltin,aLen,hu]
theorem rb_lenStr {t:TypeId} {s:ByteArray} (hu:P.underlying t=some .string):regBt P .len ⟨[t]⟩ [.string s]=some (goInt s.size):=by simp[regBt,hu]
theorem wd_convert {Q:AAct→AHeap→Prop} {i:Nat} {fps:List Fp} {anc:List Nat} {x:Operand} {s t:TypeId} {dst:Option Nat} :
  wkD P ops anc (⟨dst,.convert s t x,ty,pos,after,none⟩::rest) i fps (mkA N E ds) H Q=genV P ops anc ⟨dst,.convert s t x,ty,pos,after,none⟩ rest i fps (mkA N E ds) H Q:=by
 simp only[wkD,wantA,stepD,pureOp,restD,newOp,genV]
theorem wd_cvint {Q:AAct→AHeap→Prop} {i:Nat} {fps:List Fp} {anc:List Nat} {x:Operand} {s t:TypeId} {u:TypeDesc} {k k0:IntKind} {n:Int} (hx:opOk P N x=true) (hd:d<N) (hs:P.underlying s=some u) (ht:P.underlying t=some (.int k)) (hv:opv E x=.int k0 n)
  (h:wkD P ops anc rest (i+1) (⟨i,[],[],H.next,H.next+0⟩::fps) (mkA N (upd E d (.int k (k.wrap n))) ds) H Q):wkD P ops anc (⟨some d,.convert s t x,ty,pos,after,none⟩::rest) i fps (mkA N E ds) H Q:=by
 rw[wd_convert]
 refine genV_val rfl hd (fun G=>by simp only[aop,xConvert,aeval_opv hx,hv,cv_int hs ht,rvh,zA1,zA3,zA5]) (fun r _=>?_) h
 right
 exact⟨fun _ _ h=>(by cases h),fun _ _ h=>(by cases h),fun _=>⟨fun _ h=>(by cases h),fun _ h=>(by cases h)⟩⟩
theorem cells_of_bk {n:Nat} {b:Bl} (h:bk H n=some b):∃ rv,cellsAt H n=some (rv,b.e,b.o)∧rv.n=b.l.length:=by
 obtain⟨rv,h1,h2,h3⟩:=bk_blk h
 exact⟨rv,h1,h2⟩
theorem app_opnR {st xt e:TypeId} {sz by1 m off k n off2 cnt cap:Nat} {sp s:Option Nat} {z:Value} {b bm:Bl} (hu:P.underlying st=some (.slice e)) (hsz:szOf P e=some sz) (hby:bytesOf P e=some by1) (hz:zeroOf P e=some z) (hzl:z.cells.toList.length=sz) (hi:intTy P xt=some false)
  (hm:bk H m=some bm) (he:bm.e=e) (ho:bm.o=true) (hle:off+k*sz≤bm.l.length) (hone:((bm.l.drop off).take (k*sz)).all one=true) (hsp:sp=none∨(∃ j,sp=some (j+1))∧k=0)
  (hb:rk H n=some b) (hle2:off2+cnt*sz≤b.l.length) (hone2:((b.l.drop off2).take (cnt*sz)).all one=true) (hc:0<cnt) (hsm:small (k+cnt) by1=true) :
  aBuiltin P H .append ⟨[st,xt]⟩ [.slice (some ⟨m,off,sp⟩) k k,.slice (some ⟨n,off2,s⟩) cnt cap]=(aNew (H.upd m none) e ((bm.l.drop off).take (k*sz)++(b.l.drop off2).take (cnt*sz)) true).map fun g=>(.slice (some ⟨H.next,0,none⟩) (k+cnt) (k+cnt),g):=by
 have hl:((b.l.drop off2).take (cnt*sz)).length=cnt*sz:=by simp; omega
 have hl2:((bm.l.drop off).take (k*sz)).length=k*sz:=by simp; omega
 obtain⟨rv,hcm,hrn⟩:=cells_of_bk hm
 have hop:=isOpen_bk hm
 rw[ho]at hop
 have hf:=first_bk (sz:=sz) (cnt:=k) (off:=off) (len:=k) (cap:=k) (s:=sp) hm hle
 have hex:exactAp H ⟨m,off,sp⟩ k k=some false:=by
  rcases hsp with rfl|⟨⟨j,rfl⟩,rfl⟩
  ·simp only[exactAp,exactAt,hop,zA5,Bool.not_true]
  ·simp only[exactAp,hop]
   rfl
 simp only[aBuiltin,aAppend,hu,hsz,hby,hz,hi,zA1,zA3,lenV,first_rk hb hle2,hl,hzl,hsm,and_self,if_true,aAppend2]
 rw[if_neg (by omega)]
 simp only[hf,zA3,hl2,hone,hone2,decide_true,zD6,if_true,hex,hcm]
 rw[if_pos ⟨he,by rw[zD7,hrn]; omega⟩]
 cases aNew (H.upd m none) e ((bm.l.drop off).take (k*sz)++(b.l.drop off2).take (cnt*sz)) true<;>rfl
theorem app_nilP {st xt e:TypeId} {sz by1 n off cnt cap:Nat} {s:Option Nat} {z:Value} {b:Bl} (hu:P.underlying st=some (.slice e)) (hsz:szOf P e=some sz) (hby:bytesOf P e=some by1) (hz:zeroOf P e=some z) (hzl:z.cells.toList.length=sz) (hi:intTy P xt=some false)
  (hb:rk H n=some b) (hle:off+cnt*sz≤b.l.length) (hone:((b.l.drop off).take (cnt*sz)).all one=true) (hc:0<cnt) (hsm:small cnt by1=true) :
  aBuiltin P H .append ⟨[st,xt]⟩ [.slice none 0 0,.slice (some ⟨n,off,s⟩) cnt cap]=(aNew H e ((b.l.drop off).take (cnt*sz)) true).map fun g=>(.slice (some ⟨H.next,0,none⟩) cnt cnt,g):=by
 have hl:((b.l.drop off).take (cnt*sz)).length=cnt*sz:=by simp; omega
 simp only[aBuiltin,aAppend,hu,hsz,hby,hz,hi,zA1,zA3,lenV,first_rk hb hle,hl,hzl,zC3,hsm,and_self,if_true,aAppend2]
 rw[if_neg (by omega)]
 simp only[firstC,zA3,zC5,Nat.zero_mul,List.all_nil,hone,decide_true,zD6,if_true,zD4]
 cases aNew H e ((b.l.drop off).take (cnt*sz)) true<;>rfl
def VsAt (H:AHeap) (e:TypeId) (sz:Nat) (v:Value) (vs:List Value) (cnt:Nat):Prop :=
 vs.length=cnt*sz∧vs.all one=true∧((cnt=0∧v=.slice none 0 0)∨(0<cnt∧∃ n,v=.slice (some ⟨n,0,none⟩) cnt cnt∧bk H n=some ⟨e,true,vs⟩∧n<H.next))
theorem VsAt.nil {e:TypeId} {sz:Nat}:VsAt H e sz (.slice none 0 0) [] 0:=⟨by simp,rfl,.inl ⟨rfl,rfl⟩⟩
theorem VsAt.of {G:AHeap} {e:TypeId} {sz cnt:Nat} {v:Value} {vs:List Value} (h:VsAt H e sz v vs cnt) (hn:H.next≤G.next) (hg:∀ n∈idsV v,G.get n=H.get n):VsAt G e sz v vs cnt:=by
 obtain⟨h1,h2,⟨rfl,rfl⟩|⟨h0,n,rfl,hb,hlt⟩⟩:=h
 ·exact⟨h1,h2,.inl ⟨rfl,rfl⟩⟩
 ·exact⟨h1,h2,.inr ⟨h0,n,rfl,(bk_get (hg n (by simp[idsV]))).trans hb,by omega⟩⟩
theorem VsAt.ne {e:TypeId} {sz cnt:Nat} {v:Value} {vs:List Value} (h:VsAt H e sz v vs cnt):∀ n∈idsV v,H.get n≠none∧n<H.next:=by
 obtain⟨h1,h2,⟨rfl,rfl⟩|⟨h0,n,rfl,hb,hlt⟩⟩:=h<;>intro m hm<;>simp only[idsV,zB0,List.not_mem_nil]at hm
 subst hm; exact⟨bk_ne hb,hlt⟩
theorem VsAt.sc {e:TypeId} {sz cnt:Nat} {v:Value} {vs:List Value} (h:VsAt H e sz v vs cnt):scb H.next v=true:=by
 obtain⟨h1,h2,⟨rfl,rfl⟩|⟨h0,n,rfl,hb,hlt⟩⟩:=h
 ·rfl
 ·exact blt_of hlt
theorem VsAt.len {e:TypeId} {sz cnt:Nat} {v:Value} {vs:List Value} (h:VsAt H e sz v vs cnt):∃ a,v=.slice a cnt cnt:=by
 obtain⟨h1,h2,⟨rfl,rfl⟩|⟨h0,n,rfl,hb,hlt⟩⟩:=h
 ·exact⟨_,rfl⟩
 ·exact⟨_,rfl⟩
theorem vs_app {st xt e:TypeId} {sz by1 n off cnt cnt2 cap x:Nat} {s:Option Nat} {z v:Value} {b:Bl} {vs ws:List Value} (hu:P.underlying st=some (.slice e)) (hsz:szOf P e=some sz) (hby:bytesOf P e=some by1) (hz:zeroOf P e=some z) (hzl:z.cells.toList.length=sz) (hi:intTy P xt=some false)
  (h:VsAt H e sz v vs cnt) (hb:rk H n=some b) (hle:off+cnt2*sz≤b.l.length) (hws:(b.l.drop off).take (cnt2*sz)=ws) (hone:ws.all one=true) (hc:0<cnt2) (hsm:small (cnt+cnt2) by1=true) (hx:H.next=x) (hsc:scbL H.next (vs++ws)=true) :
  ∃ G,aBuiltin P H .append ⟨[st,xt]⟩ [v,.slice (some ⟨n,off,s⟩) cnt2 cap]=some (.slice (some ⟨x,0,none⟩) (cnt+cnt2) (cnt+cnt2),G)∧VsAt G e sz (.slice (some ⟨x,0,none⟩) (cnt+cnt2) (cnt+cnt2)) (vs++ws) (cnt+cnt2)∧(H.base≤H.next→Mod (idsV v) H G)∧G.next=x+1∧(∀ m,m<x→m∉idsV v→G.get m=H.get m):=by
 have hwl:ws.length=cnt2*sz:=by rw[←hws]; simp; omega
 obtain⟨h1,h2,⟨rfl,rfl⟩|⟨h0,m,rfl,hm,hlt⟩⟩:=h
 ·have hv:vs=[]:=zE7 (by simpa using h1)
  subst hv
  rw[zD4]at hsc ⊢
  have happ:=app_nilP (H:=H) (st:=st) (xt:=xt) (n:=n) (off:=off) (cnt:=cnt2) (cap:=cap) (s:=s) hu hsz hby hz hzl hi hb hle (by rw[hws]; exact hone) hc (by simpa using hsm)
  have hn:=new_ext (H:=H) (L:=[]) (e:=e) (l:=ws) (o:=true) (by simpa using hsc)
  rw[hws,show aNew H e ws true=aNew (ext H []) e ws true from rfl,hn,zA5,hx]at happ
  refine⟨ext H [⟨e,true,ws⟩],by rw[zC3]; exact happ,⟨by rw[hwl,zC3],hone,.inr ⟨by omega,x,rfl,?_,by rw[ext_next,hx]; simp⟩⟩,fun hok=>Mod.ext hok,by rw[ext_next,hx]; rfl,fun m hm _=>ext_get_old (by omega)⟩
  rw[show x=x+0 from rfl,bk_at hx (by simp)]; rfl
 ·have hdr:(vs.drop 0).take (cnt*sz)=vs:=by rw[List.drop_zero]; exact zD9 (by omega)
  have happ:=app_opnR (H:=H) (st:=st) (xt:=xt) (m:=m) (off:=0) (k:=cnt) (sp:=none) (n:=n) (off2:=off) (cnt:=cnt2) (cap:=cap) (s:=s) hu hsz hby hz hzl hi hm rfl rfl (by simp only; omega) (by simp only[hdr]; exact h2) (.inl rfl) hb hle (by rw[hws]; exact hone) hc hsm
  simp only[hdr,hws]at happ
  have hn:=new_ext (H:=dp H m) (L:=[]) (e:=e) (l:=vs++ws) (o:=true) (by rw[dp_next]; simpa using hsc)
  rw[show H.upd m none=ext (dp H m) [] from rfl,hn,zA5,hx]at happ
  have mD:Mod (idsV (.slice (some ⟨m,0,none⟩) cnt cnt)) H (dp H m):=Mod.upd (by simp[idsV])
  refine⟨ext (dp H m) [⟨e,true,vs++ws⟩],happ,⟨by rw[zB2,h1,hwl,Nat.add_mul],by rw[List.all_append,h2,hone]; rfl,.inr ⟨by omega,x,rfl,?_,by rw[ext_next,dp_next,hx]; simp⟩⟩,fun hok=>mD.trans (Mod.ext (mD.ok hok)),by rw[ext_next,dp_next,hx]; rfl,fun q hq hqn=>?_⟩
  ·rw[show x=x+0 from rfl,bk_at (show (dp H m).next=x from hx) (by simp)]; rfl
  ·rw[ext_get_old (by rw[dp_next]; omega),dp_get (by simpa[idsV]using hqn)]
end
variable {P : Program} {H X : AHeap} {f : FuncId} {args : List Value}
theorem Rn.dropM (w:WF P H) (m:Mod [] H X):Rn id H X H where
 low:=fun _ _=>rfl
 next:=zA9 _
 base:=rfl
 dirty:=fun _ h=>h
 dirt1:=fun n h=>by
  rcases m.dirty n h with h|h
  ·exact h
  ·simp at h
 get:=fun n o2 h=>.inl ⟨(w.dom n o2 h).1,h,by rw[m.get n (w.dom n o2 h).1 (by simp),h]⟩
 keep:=fun n _ h=>.inl h
 inj:=fun m n _ _ h=>h
 ro:=fun n _=>⟨.inl,fun _=>rfl⟩
theorem CallS.dropM {v:Value} (h:CallS P f args H (.ok v) X) (m:Mod [] H X) (hv:scb H.next v=true):CallS P f args H (.ok v) H:=by
 refine CallS.rn (σ:=id) (H1:=X) ?_ (fun w=>Rn.dropM w m) hv
 rw[rnV_id hv]; exact h
theorem Fin.mod {v v1:Value} (he:v1=v) (m:Mod [] H X) (hv:scb H.next v=true):Fin P f args H v H (.ok v1) X:=fun h=>by
 rw[he]at h
 exact h.dropM m hv
end Go.Ax
namespace Go.Ax
open Go.ChangeShapes
section
variable {P : Program} {ρ : Ren} {H : AHeap} {w : World}
def roObj (e:TypeId) (vs:List Value):AObj:=⟨.cells #[] e (1,0),true,RV.ofList vs⟩
theorem roObj_fz {e:TypeId} {vs:List Value}:Fz (some (roObj e vs)):=⟨_,rfl,rfl⟩
def roH (H:AHeap) (e:TypeId) (vs:List Value):AHeap:=⟨rootPut H.root H.next (some (roObj e vs)),H.next+1,H.next+1,H.dirty⟩
theorem roH_get {e:TypeId} {vs:List Value} (m:Nat):(roH H e vs).get m=if m=H.next then some (roObj e vs) else H.get m:=rootPut_get _ _ _ _
theorem roH_rk {e:TypeId} {vs:List Value}:rk (roH H e vs) H.next=some ⟨e,true,vs⟩:=by
 rw[rk_eq]
 simp only[cellsR,roH_get,if_true,roObj,zA5,RV.n_ofList,RV.gets_ofList]
def isU8:Value→Bool
 |.int .u8 _=>true
 |_=>false
structure Ro (P:Program) (ρ:Ren) (H:AHeap) (w:World):Prop where
 rel:Rel P ρ H w
 base:H.base=H.next
 dirty:H.dirty=[]
 al:∀ n,H.get n≠none→Fz (H.get n)∨n<P.globals.size∧∃ c e,w.heap[n]?=some (.cells c e (0,0))∧∀ v∈c.toList,isU8 v=true
structure Gro (H H1:AHeap):Prop where
 next:H.next≤H1.next
 get:∀ n,n<H.next→H1.get n=H.get n
theorem Gro.refl:Gro H H:=⟨zA9 _,fun _ _=>rfl⟩
theorem Gro.trans {H1 H2:AHeap} (a:Gro H H1) (b:Gro H1 H2):Gro H H2:=⟨zE0 a.next b.next,fun n hn=>(b.get n (zE1 hn a.next)).trans (a.get n hn)⟩
theorem Ro.skipE (R:Ro P ρ H w) {ρ':Ren} (ex:Ext H.next ρ ρ'):Ro P ρ' ⟨H.root,H.next+1,H.next+1,H.dirty⟩ w∧Gro H ⟨H.root,H.next+1,H.next+1,H.dirty⟩:=by
 have r:=R.rel
 have hg:∀ n,(⟨H.root,H.next+1,H.next+1,H.dirty⟩:AHeap).get n=H.get n:=fun n=>rfl
 refine⟨⟨⟨zA9 _,⟨Nat.le_succ_of_le r.glob.1,fun g hg=>?_⟩,fun m n hm hn he=>?_,fun n o hn=>?_,fun n o hn=>?_⟩,rfl,R.dirty,fun n hn=>R.al n hn⟩,Nat.le_succ _,fun n _=>rfl⟩
 ·have:=r.glob.1
  rw[ex.blk g (by omega),ex.sh g (by omega)]; exact r.glob.2 g hg
 ·rw[hg]at hm hn
  rw[ex.blk m (r.lt hm),ex.blk n (r.lt hn)]at he
  exact r.inj m n hm hn he
 ·have:=r.dom n o hn
  exact⟨Nat.lt_succ_of_lt this.1,this.2.mono (Nat.le_succ _)⟩
 ·obtain⟨o',h1,h2⟩:=r.obj n o hn
  have hd:=r.dom n o hn
  exact⟨o',by rw[ex.blk n hd.1]; exact h1,h2.ext hd.1 hd.2 ex⟩
def Ren.atJ (ρ:Ren) (n b s j:Nat):Ren:=⟨fun m=>if m=n then b else ρ.blk m,fun m=>if m=n then s else ρ.sh m,fun m=>if m=n then 0 else ρ.ex m,fun m=>if m=n then .int .i64 j else ρ.op m,fun m=>by
 by_cases h:m=n
 ·simp only[h,if_true]; rfl
 ·simp only[h,if_false]; exact ρ.op1 m⟩
theorem Ren.atJ_ext (ρ:Ren) (n b s j:Nat):Ext n ρ (ρ.atJ n b s j) :=
 ⟨fun m h=>if_neg (Nat.ne_of_lt h),fun m h=>if_neg (Nat.ne_of_lt h),fun m h=>if_neg (Nat.ne_of_lt h),fun m h=>if_neg (Nat.ne_of_lt h)⟩
theorem val_slJ {N b off j:Nat}:(ρ.atJ N b off j).val (.slice (some ⟨N,0,some 1⟩) 0 0)=.slice (some ⟨b,off,some j⟩) 0 0:=by
 simp[Ren.val,Ren.atJ,Ren.offS,Ren.spS,Ren.capS,spO]
def SlAt (H:AHeap) (sz:Nat) (u:Value) (vs:List Value) (len:Nat):Prop :=
 vs.length=len*sz∧∃ a cap,u=.slice a len cap∧(len=0∨∃ n e,a=some ⟨n,0,some 0⟩∧n<H.next∧rk H n=some ⟨e,true,vs⟩∧len≤cap)
theorem val_sl {N b off len cap:Nat}:(ρ.at N b off 0).val (.slice (some ⟨N,0,some 0⟩) len cap)=.slice (some ⟨b,off,none⟩) len cap:=by
 simp[Ren.val,Ren.at_blk,Ren.at_sh]
variable {K : Type} {enc : TypeId × Value → K} {spare : Nat → Bool} {held : Bool} {fuel : Nat}
theorem sl_spot {t e:TypeId} {sz len cap:Nat} {a:Addr} {x:DataW K × List MemPlace} (hsp:∀ b,spare b=true) (ht:P.underlying t=some (.slice e)) (hsz:szOf P e=some (sz+1)) (h:DataW.trod enc P w 0 spare held fuel t [.slice (some a) len cap]=some x):a.spot=none∨len=0∧cap=0:=by
 have none_at:∀ y,(w.cells? 0 (a.add 0) (sz+1)).bind y=(none:Option (DataW K × List MemPlace))∨a.spot=none:=fun y=>by
  cases hs:a.spot with
  |none=>exact .inr rfl
  |some j =>
   left
   cases hc:w.cells? 0 (a.add 0) (sz+1) with
   |none=>rfl
   |some cs =>
    unfold World.cells? at hc
    rw[if_pos (zB3 _)]at hc
    obtain⟨v,hv⟩:=Go.Ax.mapM_each hc 0 (by simp)
    simp only[Addr.add,if_true,World.cell?,hs,Option.isSome_some]at hv
    split at hv<;>cases hv
 rcases DataW.trod_slice ht h with⟨h1,_⟩|⟨a',len',cap',elems,rest,n,_,h1,_,_,hle,_,hel,hcells,hrest,_⟩
 ·simp at h1
 ·simp only[List.cons.injEq,Value.slice.injEq,Option.some.injEq,and_true]at h1
  obtain⟨rfl,rfl,rfl⟩:=h1
  rw[cellsOf_szOf hsz]at hcells hrest
  rcases Nat.eq_zero_or_pos len with h0|h0
  ·subst h0
   rcases Nat.eq_zero_or_pos cap with hc|hc
   ·exact .inr ⟨rfl,hc⟩
   ·obtain⟨hl,hr⟩:=hrest (hsp _)
    have:=hr 0 (by omega)
    rw[zC3,Nat.zero_mul]at this
    rcases none_at (DataW.trod enc P w 0 spare held n e) with h2|h2
    ·rw[h2,zA6 (by omega)]at this
     cases this
    ·exact .inl h2
  ·have:=hcells 0 h0
   rw[Nat.zero_mul]at this
   rcases none_at (DataW.trod enc P w 0 spare held n e) with h2|h2
   ·rw[h2,zA6 (by omega)]at this
    cases this
   ·exact .inl h2
theorem sl_cells {t e:TypeId} {sz b off len cap:Nat} {x:DataW K × List MemPlace} (ht:P.underlying t=some (.slice e)) (hsz:szOf P e=some sz) (h:DataW.trod enc P w 0 spare held fuel t [.slice (some ⟨b,off,none⟩) len cap]=some x) :
  ∃ (vs:List Value) (n:Nat),vs.length=len*sz∧(len*sz=0∨∃ c e' fz,w.heap[b]?=some (.cells c e' fz)∧∀ i,i<vs.length→c[off+i]?=some (vs.getD i undef)) ∧
   ∀ i,i<len→∃ y,DataW.trod enc P w 0 spare held n e ((vs.drop (i*sz)).take sz)=some y:=by
 rcases DataW.trod_slice ht h with⟨h1,_⟩|⟨a,len',cap',elems,rest,n,_,h1,_,_,_,_,hel,hcells,_,_⟩
 ·simp at h1
 ·simp only[List.cons.injEq,Value.slice.injEq,Option.some.injEq,and_true]at h1
  obtain⟨rfl,rfl,rfl⟩:=h1
  rw[cellsOf_szOf hsz]at hcells
  have each:∀ i,i<len→∃ cs y,w.cells? 0 ((⟨b,off,none⟩:Addr).add (i*sz)) sz=some cs∧DataW.trod enc P w 0 spare held n e cs=some y:=fun i hi=>by
   have:=hcells i hi
   rw[zA6 (by omega)]at this
   obtain⟨cs,h1,h2⟩:=zA2.1 this
   exact⟨cs,_,h1,h2⟩
  by_cases h0:len*sz=0
  ·refine⟨[],n,by simp[h0],.inl h0,fun i hi=>?_⟩
   obtain⟨cs,y,h1,h2⟩:=each i hi
   have hsz0:sz=0:=by
    rcases Nat.eq_zero_or_pos sz with h|h
    ·exact h
    ·have:=Nat.mul_pos (show 0<len by omega) h; omega
   subst hsz0
   unfold World.cells? at h1
   rw[if_pos (zB3 _)]at h1
   simp at h1
   subst h1
   exact⟨y,by simpa using h2⟩
  ·have hp:0<sz:=Nat.pos_of_ne_zero fun h=>h0 (by rw[h,Nat.mul_zero])
   have cell:∀ i,i<len*sz→∃ v,w.cell? ⟨b,off+i,none⟩=some v:=fun i hi=>by
    have hq:i / sz<len:=(Nat.div_lt_iff_lt_mul hp).2 hi
    obtain⟨cs,y,hcs,_⟩:=each _ hq
    unfold World.cells? at hcs
    rw[if_pos (zB3 _)]at hcs
    obtain⟨v,hv⟩:=mapM_each hcs (i % sz) (by simpa using Nat.mod_lt _ hp)
    rw[addr_add,addr_add]at hv
    have:off+i / sz*sz+i % sz=off+i:=by rw[Nat.add_assoc,Nat.mul_comm,Nat.div_add_mod]
    rw[this]at hv
    exact⟨v,hv⟩
   obtain⟨v0,hv0⟩:=cell 0 (by omega)
   unfold World.cell? at hv0
   cases hb:w.heap[b]? with
   |none=>simp[hb]at hv0
   |some o =>
    cases o with
    |cells c e' fz =>
     have cell':∀ i,i<len*sz→∃ v,c[off+i]?=some v:=fun i hi=>by
      obtain⟨v,hv⟩:=cell i hi
      simp only[World.cell?,hb]at hv
      exact⟨v,by simpa using hv⟩
     obtain⟨vs,hvs⟩:∃ vs:List Value,vs=(List.range (len*sz)).map fun i=>(c[off+i]?).getD undef:=⟨_,rfl⟩
     have hvl:vs.length=len*sz:=by simp[hvs]
     have hvg:∀ i,i<vs.length→c[off+i]?=some (vs.getD i undef):=fun i hi=>by
      rw[hvl]at hi
      obtain⟨v,hv⟩:=cell' i hi
      simp[hvs,hi,hv,zB8]
     refine⟨vs,n,hvl,.inr ⟨c,e',fz,rfl,hvg⟩,fun i hi=>?_⟩
     obtain⟨cs,y,hcs,hy⟩:=each i hi
     have hcs':(vs.drop (i*sz)).take sz=cs:=by
      unfold World.cells? at hcs
      rw[if_pos (zB3 _)]at hcs
      have hin:i*sz+sz≤len*sz:=by rw[←Nat.succ_mul]; exact Nat.mul_le_mul_right _ hi
      have hr:=mapM_range_of (f:=fun j=>w.cell? (((⟨b,off,none⟩:Addr).add (i*sz)).add j)) (g:=fun j=>vs.getD (i*sz+j) undef) sz (fun j hj=>by
       have h3:=hvg (i*sz+j) (by rw[hvl]; omega)
       rw[addr_add,addr_add,Nat.add_assoc]
       simp[World.cell?,hb,h3])
      rw[hr]at hcs
      cases hcs
      apply List.ext_getElem?
      intro j
      by_cases hj:j<sz
      ·rw[List.getElem?_take,if_pos hj,List.getElem?_drop,zE6,List.getElem?_range hj,zA6 (by rw[hvl]; omega)]
       simp only[zA5,zB8]
       rw[zA6 (by rw[hvl]; omega)]
       rfl
      ·rw[zD5 (by simp; omega),zD5 (by simp; omega)]
     rw[hcs']
     exact⟨y,hy⟩
    |_=>simp[hb]at hv0
end
def RdAt (H:AHeap) (sz:Nat) (v:Value) (vs:List Value) (cnt:Nat):Prop :=
 vs.length=cnt*sz∧((cnt=0∧∃ a c,v=.slice a 0 c)∨(0<cnt∧∃ n off s c e o M,v=.slice (some ⟨n,off,s⟩) cnt c∧rk H n=some ⟨e,o,M⟩∧n<H.next∧off+cnt*sz≤M.length∧(M.drop off).take (cnt*sz)=vs))
section
variable {P : Program} {H G : AHeap} {sz cnt : Nat} {v : Value} {vs : List Value}
theorem RdAt.sl (h:RdAt H sz v vs cnt):∃ a c,v=.slice a cnt c:=by
 obtain⟨_,⟨rfl,a,c,rfl⟩|⟨_,n,off,s,c,e,o,M,rfl,_⟩⟩:=h
 ·exact⟨_,_,rfl⟩
 ·exact⟨_,_,rfl⟩
theorem RdAt.nil {a:Option Addr} {c:Nat}:RdAt H sz (.slice a 0 c) [] 0:=⟨by simp,.inl ⟨rfl,_,_,rfl⟩⟩
def rdF (v:Value) (cnt:Nat):List Nat:=if cnt=0 then [] else idsV v
theorem RdAt.of (h:RdAt H sz v vs cnt) (hn:H.next≤G.next) (hg:∀ n∈rdF v cnt,G.get n=H.get n):RdAt G sz v vs cnt:=by
 obtain⟨h1,h|⟨h0,n,off,s,c,e,o,M,rfl,h2,h3,h4⟩⟩:=h
 ·exact⟨h1,.inl h⟩
 ·exact⟨h1,.inr ⟨h0,n,off,s,c,e,o,M,rfl,(rk_get (hg n (by rw[rdF,if_neg (by omega)]; simp[idsV]))).trans h2,by omega,h4⟩⟩
theorem RdAt.ne (h:RdAt H sz v vs cnt):∀ n∈rdF v cnt,H.get n≠none∧n<H.next:=by
 obtain⟨h1,⟨rfl,a,c,rfl⟩|⟨h0,n,off,s,c,e,o,M,rfl,h2,h3,h4⟩⟩:=h
 ·intro n hn; simp[rdF]at hn
 ·intro m hm
  rw[rdF,if_neg (by omega)]at hm
  simp only[idsV,zB0]at hm
  subst hm
  exact⟨rk_ne h2,h3⟩
theorem RdAt.mod0 (h:RdAt H sz v vs cnt) (m:Mod [] H G):RdAt G sz v vs cnt:=h.of m.next fun n hn=>m.get n (h.ne n hn).2 (by simp)
theorem RdAt.ext {L:List Bl} (h:RdAt H sz v vs cnt):RdAt (Go.Ax.ext H L) sz v vs cnt:=h.of (by rw[ext_next]; omega) fun n hn=>ext_get_old (h.ne n hn).2
theorem VsAt.rd {e:TypeId} (h:VsAt H e sz v vs cnt):RdAt H sz v vs cnt:=by
 obtain⟨h1,h2,⟨rfl,rfl⟩|⟨h0,n,rfl,hb,hlt⟩⟩:=h
 ·exact⟨h1,.inl ⟨rfl,_,_,rfl⟩⟩
 ·exact⟨h1,.inr ⟨h0,n,0,none,cnt,e,true,vs,rfl,rk_of hb,hlt,by omega,by rw[List.drop_zero,zD9 (by omega)]⟩⟩
theorem SlAt.rd (h:SlAt H sz v vs cnt):RdAt H sz v vs cnt:=by
 obtain⟨h1,a,c,rfl,h0|⟨n,e,rfl,hn,hb,hc⟩⟩:=h
 ·subst h0; exact⟨h1,.inl ⟨rfl,_,_,rfl⟩⟩
 ·by_cases h0:cnt=0
  ·subst h0; exact⟨h1,.inl ⟨rfl,_,_,rfl⟩⟩
  ·exact⟨h1,.inr ⟨by omega,n,0,some 0,c,e,true,vs,rfl,hb,hn,by omega,by rw[List.drop_zero,zD9 (by omega)]⟩⟩
theorem RdAt.at_ (h:RdAt H sz v vs cnt) {i:Nat} (hi:i<cnt):∃ n off s c e o M,v=.slice (some ⟨n,off,s⟩) cnt c∧n<H.next∧rk H n=some ⟨e,o,M⟩∧off+i*sz+sz≤M.length∧(M.drop (off+i*sz)).take sz=(vs.drop (i*sz)).take sz:=by
 obtain⟨h1,⟨rfl,_⟩|⟨h0,n,off,s,c,e,o,M,rfl,h2,h3,h4,h5⟩⟩:=h
 ·omega
 have hm:i*sz+sz≤cnt*sz:=by rw[←Nat.succ_mul]; exact Nat.mul_le_mul_right _ hi
 refine⟨n,off,s,c,e,o,M,rfl,h3,h2,by omega,?_⟩
 rw[←h5,List.drop_take,List.drop_drop,List.take_take,Nat.min_eq_left (by omega)]
theorem RdAt.one (h:RdAt H 1 v vs cnt) {i:Nat} (hi:i<cnt):∃ n off s c e o M,v=.slice (some ⟨n,off,s⟩) cnt c∧n<H.next∧rk H n=some ⟨e,o,M⟩∧M[off+i]?=vs[i]?:=by
 obtain⟨n,off,s,c,e,o,M,h1,h2,h3,h4,h5⟩:=h.at_ hi
 refine⟨n,off,s,c,e,o,M,h1,h2,h3,?_⟩
 rw[zC2]at h5
 have:=congrArg (fun l=>l[0]?) h5
 simpa using this
theorem RdAt.all (h:RdAt H 1 v vs cnt) (h0:0<cnt):∃ n off s c e o M,v=.slice (some ⟨n,off,s⟩) cnt c∧n<H.next∧rk H n=some ⟨e,o,M⟩∧∀ i,i<cnt→M[off+i]?=vs[i]?:=by
 obtain⟨h1,⟨rfl,_⟩|⟨_,n,off,s,c,e,o,M,rfl,h2,h3,h4,h5⟩⟩:=h
 ·omega
 refine⟨n,off,s,c,e,o,M,rfl,h3,h2,fun i hi=>?_⟩
 rw[←h5,zC2,List.getElem?_take,if_pos hi,List.getElem?_drop]
theorem ia_of {t e:TypeId} {k:IntKind} {i n off len cap:Nat} {s:Option Nat} (hu:P.underlying t=some (.slice e)) (hs:szOf P e=some sz) (hi:i<len) :
  aIndexAddr P t (.slice (some ⟨n,off,s⟩) len cap) (.int k (i:Int))=some (.pointer (some ⟨n,off+i*sz,none⟩)):=by
 simp only[aIndexAddr,hu,hs,zA1,zA3,zD0]
 rw[if_pos ⟨by omega,by omega⟩]
theorem w_cat {ro:Option Nat} {N:Nat} {E:Env} {ds:List Deferred} {ops:Array Oper} {rest:List Oper} {d:Nat} {ty:TypeId} {pos:String} {after:Array Edge} {Q:Exit→AAct→AHeap→Prop} {t u:TypeId} {x y:Operand} {a b:ByteArray} (hu:P.underlying t=some .string) (hx:opOk P N x=true) (hy:opOk P N y=true) (hp:opv E x=.string a) (hq:opv E y=.string b) (hd:d<N) (hs:a.size+b.size≤1000000000)
  (h:wpOps P ro ops rest (mkA N (upd E d (.string (a++b))) ds) H Q):wpOps P ro ops (⟨some d,.binOp .add t x y u,ty,pos,after,none⟩::rest) (mkA N E ds) H Q:=by
 have h0:aBin P H .add t (.string a) (.string b)=none:=by
  have:aEq P H (99+1) t (.string a) (.string b)=none:=by
   unfold aEq
   rw[hu]
  show (aEq P H (99+1) t (.string a) (.string b)).bind _=none
  rw[this]
  rfl
 have:=w_plain (ro:=ro) (H:=H) (ds:=ds) (ops:=ops) (rest:=rest) (ty:=ty) (pos:=pos) (after:=after) (Q:=Q) (u:=u) hx hy hp hq hd h0 rfl rfl (v:=.string (a++b)) (by
  have hs2:¬((9223372036854775807:Int)<(a.size:Int)+(b.size:Int)):=by omega
  simp[eqGuard,binOp,Op.stringOp,pure,bind,Sem.bind,hs2]
  rfl) rfl
 rw[this]
 exact h
theorem aop_plain {N:Nat} {E:Env} {ds:List Deferred} {op:BinOp} {t u:TypeId} {x y:Operand} {p q v:Value} (hx:opOk P N x=true) (hy:opOk P N y=true) (hp:opv E x=p) (hq:opv E y=q) (G:AHeap) (h0:aBin P G op t p q=none) (h1:af p=true) (h2:af q=true) (h:peval P (do eqGuard op t x y p q; binOp op t p q)=some v) (h3:af v=true) :
  aop (.binOp op t x y u) P (mkA N E ds) G=some (.value v,G):=by
 simp only[aop,xBin,aeval_opv hx,aeval_opv hy,hp,hq,zA1,zA3,binV,h0,h1,h2,aPlain,h,h3,zD6,if_true,zA5]
theorem wd_or {N:Nat} {E:Env} {ds:List Deferred} {ops:Array Oper} {anc:List Nat} {rest:List Oper} {d i:Nat} {fps:List Fp} {ty:TypeId} {pos:String} {after:Array Edge} {Q:AAct→AHeap→Prop} {t u:TypeId} {x y:Operand} {k:IntKind} {a b:Int} (hx:opOk P N x=true) (hy:opOk P N y=true) (hp:opv E x=.int k a) (hq:opv E y=.int k b) (hd:d<N)
  (h:wkD P ops anc rest (i+1) (⟨i,[],[],H.next,H.next⟩::fps) (mkA N (upd E d (.int k (bOr k a b))) ds) H Q):wkD P ops anc (⟨some d,.binOp .or t x y u,ty,pos,after,none⟩::rest) i fps (mkA N E ds) H Q:=by
 refine wd_same ?_ (fun G=>?_) rfl hd h
 ·funext K
  simp only[stepD,pureOp,aeval_opv hx,aeval_opv hy,hp,hq,binD,regBin,intBin,ite_self]
 ·exact aop_plain hx hy hp hq G (by simp only[aBin,if_true]; rfl) rfl rfl (by simp[eqGuard,binOp,peval,Op.intBits,bOr,pure,bind,Sem.bind]) rfl
theorem wd_shl {N:Nat} {E:Env} {ds:List Deferred} {ops:Array Oper} {anc:List Nat} {rest:List Oper} {d i:Nat} {fps:List Fp} {ty:TypeId} {pos:String} {after:Array Edge} {Q:AAct→AHeap→Prop} {t u:TypeId} {x y:Operand} {k k':IntKind} {a b:Int} (hx:opOk P N x=true) (hy:opOk P N y=true) (hp:opv E x=.int k a) (hq:opv E y=.int k' b) (hb:0≤b) (hd:d<N)
  (h:wkD P ops anc rest (i+1) (⟨i,[],[],H.next,H.next⟩::fps) (mkA N (upd E d (.int k (bShl k a b.toNat))) ds) H Q):wkD P ops anc (⟨some d,.binOp .shl t x y u,ty,pos,after,none⟩::rest) i fps (mkA N E ds) H Q:=by
 refine wd_same ?_ (fun G=>?_) rfl hd h
 ·funext K
  simp only[stepD,pureOp,aeval_opv hx,aeval_opv hy,hp,hq,binD,regBin,intBin,ite_self]
 ·exact aop_plain hx hy hp hq G (bin_nobit (by simp) (bit_shl hb)) rfl rfl (by simp[eqGuard,binOp,peval,Op.shift,bShl,pure,bind,Sem.bind,show ¬b<0 by omega]) rfl
theorem wd_appV {N:Nat} {E:Env} {ds:List Deferred} {ops:Array Oper} {anc:List Nat} {rest:List Oper} {d i:Nat} {fps:List Fp} {ty:TypeId} {pos:String} {after:Array Edge} {Q:AAct→AHeap→Prop} {args:List Operand} {st xt e:TypeId} {by1 n off cnt2 cap:Nat} {s:Option Nat} {z:Value} {b:Bl} {ws:List Value}
  (hu:P.underlying st=some (.slice e)) (hsz:szOf P e=some sz) (hby:bytesOf P e=some by1) (hz:zeroOf P e=some z) (hzl:z.cells.toList.length=sz) (hi:intTy P xt=some false)
  (ha:args.all (opOk P N)=true) (hargs:args.map (opv E)=[v,.slice (some ⟨n,off,s⟩) cnt2 cap]) (hd:d<N)
  (h:VsAt H e sz v vs cnt) (hb:rk H n=some b) (hn:n<H.next) (hle:off+cnt2*sz≤b.l.length) (hws:(b.l.drop off).take (cnt2*sz)=ws) (hone:ws.all one=true) (hc:0<cnt2) (hsm:small (cnt+cnt2) by1=true) (hsc:scbL H.next (vs++ws)=true) (hok:H.base≤H.next)
  (hm:∀ r∈fps,(anc.getD i 0).testBit r.i=true∨(r.hi≤r.lo∧(∀ k∈r.W,k∉n::idsV v)∧(∀ k∈r.F,k∉idsV v)))
  (hk:∀ Z D,VsAt Z e sz (.slice (some ⟨H.next,0,none⟩) (cnt+cnt2) (cnt+cnt2)) (vs++ws) (cnt+cnt2)→Mod (idsV v) H Z→(∀ k∈D,k∈idsV v)→Z.next=H.next+1 →
   wkD P ops anc rest (i+1) (⟨i,n::idsV v,D,H.next,H.next+1⟩::fps) (mkA N (upd E d (.slice (some ⟨H.next,0,none⟩) (cnt+cnt2) (cnt+cnt2))) ds) Z Q) :
  wkD P ops anc (⟨some d,.call ⟨.builtin .append,⟨args⟩,⟨[st,xt]⟩⟩,ty,pos,after,none⟩::rest) i fps (mkA N E ds) H Q:=by
 rw[wd_app ha]
 have hF:∀ k∈n::idsV v,H.get k≠none∧k<H.next:=fun k hk=>by
  rcases zB1.1 hk with rfl|hk
  ·exact⟨rk_ne hb,hn⟩
  ·exact h.ne k hk
 have hrn:=restrict_next H (n::idsV v)
 have hv:=h.of (G:=H.restrict (n::idsV v)) (Nat.le_of_eq hrn.1.symm) (fun k hk=>by rw[restrict_get,if_pos (by simp[hk])])
 obtain⟨G,k1,k2,k3,k4,k5⟩:=vs_app (x:=H.next) (cap:=cap) hu hsz hby hz hzl hi hv (show rk (H.restrict (n::idsV v)) n=some b from (rk_get (by rw[restrict_get,if_pos (by simp)])).trans hb) hle hws hone hc hsm hrn.1 (by rw[hrn.1]; exact hsc)
 refine genV_modO (H:=H) (W:=idsV v) (n::idsV v) hok (fun k hk=>(hF k hk).1) (fun k hk=>(hF k hk).2) (fun k hk=>by simp[hk]) (app_op (v:=_) (G:=G) ha (by rw[hargs]; exact k1)) (k3 (by rw[hrn.1,hrn.2.1]; exact zA9 _)) hm fun Z D mZ hFZ hNZ hnZ hDZ=>?_
 rw[k4]at hnZ hNZ
 rw[k4]
 have:=hk Z D ?_ mZ hDZ hnZ
 ·simp only[put_some N E ds d _ hd]
  exact this
 ·obtain⟨j1,j2,⟨j0,_⟩|⟨j0,q,j3,j4,j5⟩⟩:=k2
  ·omega
  ·cases j3
   exact⟨j1,j2,.inr ⟨j0,H.next,rfl,(bk_get (hNZ _ (zA9 _) (by omega))).trans j4,by omega⟩⟩
theorem or_bytes (a b:Nat) (ha:a<256) (hb:b<256):bOr .i64 (a:Int) (bShl .i64 (b:Int) 8)=((a+256*b:Nat):Int):=by
 have h1:bShl .i64 (b:Int) 8=((256*b:Nat):Int):=by
  simp only[bShl,IntKind.wrap,IntKind.signed,IntKind.bits]
  simp
  omega
 rw[h1]
 have h2:∀ n:Nat,n<2 ^ 63→BitVec.ofInt 64 (n:Int)=BitVec.ofNat 64 n:=fun n _=>by simp
 have h3:(BitVec.ofNat 64 a ||| BitVec.ofNat 64 (256*b)).toNat=a+256*b:=by
  rw[BitVec.toNat_or,BitVec.toNat_ofNat,BitVec.toNat_ofNat,Nat.mod_eq_of_lt (by omega),Nat.mod_eq_of_lt (by omega)]
  have:=Nat.shiftLeft_add_eq_or_of_lt (a:=b) (b:=a) (i:=8) ha
  rw[Nat.shiftLeft_eq]at this
  rw[Nat.or_comm,show 256*b=b*2 ^ 8 by omega,←this]
  omega
 have h4:bOr .i64 (a:Int) ((256*b:Nat):Int)=IntKind.i64.wrap ((BitVec.ofInt 64 (a:Int) ||| BitVec.ofInt 64 ((256*b:Nat):Int)).toNat:Int):=rfl
 rw[h4,h2 a (by omega),h2 (256*b) (by omega),h3]
 simp only[IntKind.wrap,IntKind.signed,IntKind.bits]
 simp
 omega
end
end Go.Ax
namespace Go.Proofs.YtnigelgcjfhghaaGreatDoor
open Go.Ax
abbrev Pure (f:FuncId) (args:List Value) (H:AHeap) (v:Value):Prop:=CallS Tryz.prog f args H (.ok v) H
abbrev w64 (n:Int):Int:=IntKind.i64.wrap n
theorem wrap_sm {n:Int} (h1:-4000000000000<n) (h2:n<4000000000000):w64 n=n:=by
 simp only[w64,IntKind.wrap,IntKind.signed,IntKind.bits]
 simp
 omega
theorem wrap_nat {n:Nat} (h:n<4000000000000):IntKind.i64.wrap (n:Int)=(n:Int):=wrap_sm (by omega) (by omega)
theorem wrap_succ {k:Nat} (h:k<1000000000):IntKind.i64.wrap ((k:Int)+1)=((k+1:Nat):Int):=by
 have:=wrap_sm (n:=(k:Int)+1) (by omega) (by omega)
 rw[show IntKind.i64.wrap ((k:Int)+1)=_ from this]; omega
def iv (l:List Int):List Value:=l.map (.int .i64)
def bv (l:List UInt8):List Value:=l.map fun b=>.int .u8 (b.toNat:Int)
theorem iv_get {l:List Int} {i:Nat}:(iv l)[i]?=l[i]?.map (.int .i64):=by simp[iv]
theorem bv_get {l:List UInt8} {i:Nat}:(bv l)[i]?=l[i]?.map fun b=>.int .u8 (b.toNat:Int):=by simp[bv]
theorem u35:Tryz.prog.underlying 35=some (.slice 3):=by kernel_rfl
theorem u23:Tryz.prog.underlying 23=some (.slice 5):=by kernel_rfl
theorem u42:Tryz.prog.underlying 42=some (.slice 59):=by kernel_rfl
theorem u9:Tryz.prog.underlying 9=some .string:=by kernel_rfl
theorem s3:szOf Tryz.prog 3=some 1:=by kernel_rfl
theorem s5:szOf Tryz.prog 5=some 1:=by kernel_rfl
theorem s59:szOf Tryz.prog 59=some 3:=by kernel_rfl
set_option maxRecDepth 100000
theorem fixed1_c (H:AHeap) (av:Value) (n:Nat) (s:ByteArray) (hn:bk H n=some ⟨9,false,[.string s]⟩) (hl:n<H.next):Pure 110 [av,.pointer (some ⟨n,0,none⟩)] H (.string s):=by
 obtain⟨b,hb⟩:∃ b,H.next=b:=⟨_,rfl⟩
 rw[hb]at hl
 refine callS_fn mixed Tryz.func110 rfl Tryz.ntmps110 (zB5 rfl) fun wf hsc=>?_
 simp (maxDischargeDepth:=6) only[hb,hn,hl,Tryz.results110,ruW,putL,Nat.reduceLeDiff,xF,ruU,entryE,Nat.reduceLT,Nat.reduceAdd,Nat.reduceMul,Nat.reduceEqDiff]
 exact Fin.pureE rfl rfl
theorem fin_str {P:Program} {f:FuncId} {args:List Value} {H:AHeap} {L:List Bl} {s:ByteArray} {v1:Value} (h:v1=.string s):Fin P f args H (.string s) H (.ok v1) (ext H L):=Fin.pureE h rfl
abbrev repB (l:List UInt8) (n:Nat):List UInt8:=Go.Lib.repeatL l n
theorem rep_len (l:List UInt8) (n:Nat):(repB l n).length=n*l.length:=Go.Lib.repeatL_length l n
theorem rep_small (a:ByteArray) (l:List UInt8) (n:Nat) (hn:n≤1000000) (hl:l.length≤2) (ha:a.size≤2):a.size+(⟨(repB l n).toArray⟩:ByteArray).size≤1000000000:=by
 have h1:(⟨(repB l n).toArray⟩:ByteArray).size=(repB l n).length:=rfl
 have h2:n*l.length≤n*2:=Nat.mul_le_mul_left n hl
 rw[h1,rep_len]
 omega
def guardR (args:List Int):List UInt8:=if args=[] then [110] else [110]++repB [107,116] (args.getD 0 0).toNat
def envR (args:List Int):List UInt8:=if args.length<2 then [107,110] else [107,110]++repB [105] (args.getD 1 0).toNat
theorem guards_c (H:AHeap) (av:Value) (args:List Int) (ha:RdAt H 1 av (iv args) args.length) (hs:args.getD 0 0≤1000000):Pure 84 [av] H (.string ⟨(guardR args).toArray⟩):=by
 obtain⟨b,hb⟩:∃ b,H.next=b:=⟨_,rfl⟩
 obtain⟨a0,c0,e0⟩:=ha.sl
 refine callS_fn mixed Tryz.func84 rfl Tryz.ntmps84 (zB5 rfl) fun wf hsc=>?_
 by_cases h0:args=[]
 ·rw[e0]
  have hd:decide ((args.length:Int)=0)=true:=by rw[h0]; rfl
  simp (maxDischargeDepth:=6) only[hb,hd,Tryz.results84,ruW,putL,Nat.reduceLeDiff,xF,ruU,entryE,Nat.reduceLT,Nat.reduceAdd,Nat.reduceMul,Nat.reduceEqDiff]
  refine fin_str ?_
  rw[guardR,if_pos h0]
 ·have hp:=List.length_pos_iff.2 h0
  have hd:decide ((args.length:Int)=0)=false:=decide_eq_false (by omega)
  obtain⟨n,off,s,c,e,o,M,e1,n1,r1,m1⟩:=ha.one hp
  rw[iv_get,zA6 hp,zA5]at m1
  have hg:args.getD 0 0=args[0]:=by rw[zB8,zA6 hp]; rfl
  have i0:aIndexAddr Tryz.prog 35 (.slice (some ⟨n,off,s⟩) args.length c) (.int .i64 0)=some (.pointer (some ⟨n,off+0,none⟩)):=ia_of (i:=0) u35 s3 hp
  have hmx:max (0:Int) args[0]=((args.getD 0 0).toNat:Int):=by rw[hg]; omega
  rw[e1]
  rw[hb]at n1
  simp (maxDischargeDepth:=6) only[hb,hd,i0,r1,n1,m1,hmx,qk_old,ruW,putL,Nat.reduceLeDiff,xF,ruU,entryE,Nat.reduceLT,Nat.reduceAdd,Nat.reduceMul,Nat.reduceEqDiff]
  refine (repeat_s (ext H []) ⟨#[107,116]⟩ (args.getD 0 0).toNat (by show 2*_≤_; omega) (by omega)).to ?_
  simp (maxDischargeDepth:=6) only[ruW,putL,Nat.reduceLeDiff,xF,ruU,entryE,Nat.reduceLT,Nat.reduceAdd,Nat.reduceMul,Nat.reduceEqDiff]
  refine w_cat (a:=⟨#[110]⟩) (b:=⟨(repB [107,116] (args.getD 0 0).toNat).toArray⟩) u9 rfl rfl (by simp only[ruU,entryE,Nat.reduceLT,Nat.reduceAdd,Nat.reduceMul,Nat.reduceEqDiff]) (by simp only[ruU,entryE,Nat.reduceLT,Nat.reduceAdd,Nat.reduceMul,Nat.reduceEqDiff]) (by decide) (rep_small _ _ _ (by omega) (by decide) (by decide)) ?_
  simp (maxDischargeDepth:=6) only[Tryz.results84,ruW,putL,Nat.reduceLeDiff,xF,ruU,entryE,Nat.reduceLT,Nat.reduceAdd,Nat.reduceMul,Nat.reduceEqDiff]
  refine fin_str ?_
  rw[guardR,if_neg h0]
  rfl
theorem envs_c (H:AHeap) (av:Value) (args:List Int) (ha:RdAt H 1 av (iv args) args.length) (hs:args.getD 1 0≤1000000):Pure 85 [av] H (.string ⟨(envR args).toArray⟩):=by
 obtain⟨b,hb⟩:∃ b,H.next=b:=⟨_,rfl⟩
 obtain⟨a0,c0,e0⟩:=ha.sl
 refine callS_fn mixed Tryz.func85 rfl Tryz.ntmps85 (zB5 rfl) fun wf hsc=>?_
 by_cases h0:args.length<2
 ·rw[e0]
  have hd:decide ((args.length:Int)<2)=true:=decide_eq_true (by omega)
  simp (maxDischargeDepth:=6) only[hb,hd,Tryz.results85,ruW,putL,Nat.reduceLeDiff,xF,ruU,entryE,Nat.reduceLT,Nat.reduceAdd,Nat.reduceMul,Nat.reduceEqDiff]
  refine fin_str ?_
  rw[envR,if_pos h0]
 ·have hp:1<args.length:=by omega
  have hd:decide ((args.length:Int)<2)=false:=decide_eq_false (by omega)
  obtain⟨n,off,s,c,e,o,M,e1,n1,r1,m1⟩:=ha.one hp
  rw[iv_get,zA6 hp,zA5]at m1
  have hg:args.getD 1 0=args[1]:=by rw[zB8,zA6 hp]; rfl
  have i0:aIndexAddr Tryz.prog 35 (.slice (some ⟨n,off,s⟩) args.length c) (.int .i64 1)=some (.pointer (some ⟨n,off+1,none⟩)):=ia_of (i:=1) u35 s3 hp
  have hmx:max (0:Int) args[1]=((args.getD 1 0).toNat:Int):=by rw[hg]; omega
  rw[e1]
  rw[hb]at n1
  simp (maxDischargeDepth:=6) only[hb,hd,i0,r1,n1,m1,hmx,qk_old,ruW,putL,Nat.reduceLeDiff,xF,ruU,entryE,Nat.reduceLT,Nat.reduceAdd,Nat.reduceMul,Nat.reduceEqDiff]
  refine (repeat_s (ext H []) ⟨#[105]⟩ (args.getD 1 0).toNat (by show 1*_≤_; omega) (by omega)).to ?_
  simp (maxDischargeDepth:=6) only[ruW,putL,Nat.reduceLeDiff,xF,ruU,entryE,Nat.reduceLT,Nat.reduceAdd,Nat.reduceMul,Nat.reduceEqDiff]
  refine w_cat (a:=⟨#[107,110]⟩) (b:=⟨(repB [105] (args.getD 1 0).toNat).toArray⟩) u9 rfl rfl (by simp only[ruU,entryE,Nat.reduceLT,Nat.reduceAdd,Nat.reduceMul,Nat.reduceEqDiff]) (by simp only[ruU,entryE,Nat.reduceLT,Nat.reduceAdd,Nat.reduceMul,Nat.reduceEqDiff]) (by decide) (rep_small _ _ _ (by omega) (by decide) (by decide)) ?_
  simp (maxDischargeDepth:=6) only[Tryz.results85,ruW,putL,Nat.reduceLeDiff,xF,ruU,entryE,Nat.reduceLT,Nat.reduceAdd,Nat.reduceMul,Nat.reduceEqDiff]
  refine fin_str ?_
  rw[envR,if_neg h0]
  rfl
def ShAt (H:AHeap) (s:Nat):Prop:=∀ i b,(shB s)[i]?=some b→bk H (s+i)=some b∧s+i<H.next
theorem ShAt.of {H G:AHeap} {s:Nat} (h:ShAt H s) (hn:H.next≤G.next) (hg:∀ n,s≤n→n<s+27→G.get n=H.get n):ShAt G s:=fun i b hb=>by
 obtain⟨h1,h2⟩:=h i b hb
 have hi:i<27:=by have:=(List.getElem?_eq_some_iff.1 hb).1; simpa[shB]using this
 exact⟨(bk_get (hg _ (by omega) (by omega))).trans h1,by omega⟩
theorem ShAt.new {H:AHeap} {L:List Bl}:ShAt (ext (ext H (shB H.next)) L) H.next:=fun i b hb=>by
 have hi:i<27:=by have:=(List.getElem?_eq_some_iff.1 hb).1; simpa[shB]using this
 have h1:(ext H (shB H.next)).next=H.next+27:=by rw[ext_next]; rfl
 refine⟨?_,by rw[ext_next,h1]; omega⟩
 rw[bk_old (by rw[h1]; omega),bk_at rfl (by simpa[shB]using hi)]
 exact hb
def kindsR (op:Nat) (args:List Int):List UInt8 :=
 match opsL[op]? with
 |some (_,some k)=>k.data.toList
 |some (_,none)=>if op=17 then guardR args else envR args
 |none=>[]
def cntR (op:Nat) (args:List Int):Int:=if op=17 then args.getD 0 0 else if op=24 then args.getD 1 0 else 0
theorem kinds_c (s:Nat) (op:Nat) (hop:op<28):∃ (f:FuncId) (ca:List Value) (F:List Nat),(shV s)[2*op+1]?=some (.func (.func f) ⟨[]⟩ ⟨ca⟩)∧hasBody Tryz.prog f=true∧(∀ n∈F,s≤n∧n<s+27) ∧
  ∀ (H:AHeap) (av:Value) (args:List Int),(∀ i b,(shB s)[i]?=some b→s+i∈F→bk H (s+i)=some b∧s+i<H.next)→RdAt H 1 av (iv args) args.length→cntR op args≤1000000→Pure f (av::ca) H (.string ⟨(kindsR op args).toArray⟩):=by
 have fx:∀ (op j:Nat) (k:ByteArray) (nm:ByteArray),opsL[op]?=some (nm,some k)→(shV s)[2*op+1]?=some (fxV (s+j))→(shB s)[j]?=some ⟨9,false,[.string k]⟩→j<27→∃ (f:FuncId) (ca:List Value) (F:List Nat),(shV s)[2*op+1]?=some (.func (.func f) ⟨[]⟩ ⟨ca⟩)∧hasBody Tryz.prog f=true∧(∀ n∈F,s≤n∧n<s+27) ∧
   ∀ (H:AHeap) (av:Value) (args:List Int),(∀ i b,(shB s)[i]?=some b→s+i∈F→bk H (s+i)=some b∧s+i<H.next)→RdAt H 1 av (iv args) args.length→cntR op args≤1000000→Pure f (av::ca) H (.string ⟨(kindsR op args).toArray⟩):=by
  intro op j k nm h1 h2 h3 h4
  refine⟨110,_,[s+j],h2,by kernel_rfl,fun n hn=>by simp only[zB0]at hn; omega,fun H av args hb _ _=>?_⟩
  obtain⟨b1,b2⟩:=hb j _ h3 (by simp)
  have:=fixed1_c H av (s+j) k b1 b2
  unfold kindsR
  rw[h1]
  exact this
 match op,hop with
 |0,_=>exact fx 0 1 _ _ rfl rfl rfl (by decide)
 |1,_=>exact fx 1 2 _ _ rfl rfl rfl (by decide)
 |2,_=>exact fx 2 3 _ _ rfl rfl rfl (by decide)
 |3,_=>exact fx 3 4 _ _ rfl rfl rfl (by decide)
 |4,_=>exact fx 4 5 _ _ rfl rfl rfl (by decide)
 |5,_=>exact fx 5 6 _ _ rfl rfl rfl (by decide)
 |6,_=>exact fx 6 7 _ _ rfl rfl rfl (by decide)
 |7,_=>exact fx 7 8 _ _ rfl rfl rfl (by decide)
 |8,_=>exact fx 8 9 _ _ rfl rfl rfl (by decide)
 |9,_=>exact fx 9 10 _ _ rfl rfl rfl (by decide)
 |10,_=>exact fx 10 11 _ _ rfl rfl rfl (by decide)
 |11,_=>exact fx 11 12 _ _ rfl rfl rfl (by decide)
 |12,_=>exact fx 12 13 _ _ rfl rfl rfl (by decide)
 |13,_=>exact fx 13 14 _ _ rfl rfl rfl (by decide)
 |14,_=>exact fx 14 15 _ _ rfl rfl rfl (by decide)
 |15,_=>exact fx 15 16 _ _ rfl rfl rfl (by decide)
 |16,_=>exact fx 16 17 _ _ rfl rfl rfl (by decide)
 |17,_=>exact⟨84,[],[],rfl,by kernel_rfl,fun n hn=>by simp at hn,fun H av args _ h1 h2=>guards_c H av args h1 h2⟩
 |18,_=>exact fx 18 18 _ _ rfl rfl rfl (by decide)
 |19,_=>exact fx 19 19 _ _ rfl rfl rfl (by decide)
 |20,_=>exact fx 20 20 _ _ rfl rfl rfl (by decide)
 |21,_=>exact fx 21 21 _ _ rfl rfl rfl (by decide)
 |22,_=>exact fx 22 22 _ _ rfl rfl rfl (by decide)
 |23,_=>exact fx 23 23 _ _ rfl rfl rfl (by decide)
 |24,_=>exact⟨85,[],[],rfl,by kernel_rfl,fun n hn=>by simp at hn,fun H av args _ h1 h2=>envs_c H av args h1 h2⟩
 |25,_=>exact fx 25 24 _ _ rfl rfl rfl (by decide)
 |26,_=>exact fx 26 25 _ _ rfl rfl rfl (by decide)
 |27,_=>exact fx 27 26 _ _ rfl rfl rfl (by decide)
 |n+28,h=>omega
structure Ins where
 pos:Int
 op:Int
 args:List Int
def readA (op:Nat):Nat→List Int→List UInt8→List Int × Option (List UInt8)
 |0,args,_=>(args,none)
 |f+1,args,rest =>
  if args.length<(kindsR op args).length then
   match rest with
   |a::b::r=>readA op f (args++[((a.toNat+256*b.toNat:Nat):Int)]) r
   |_=>(args,none)
  else (args,some rest)
theorem readA_fuel (op:Nat):∀ (f g:Nat) (args:List Int) (rest:List UInt8),rest.length<f→rest.length<g→readA op f args rest=readA op g args rest
 |0,_,_,_,h,_=>absurd h (by omega)
 |_,0,_,_,_,h=>absurd h (by omega)
 |f+1,g+1,args,rest,h1,h2=>by
  simp only[readA]
  split
  ·split
   ·exact readA_fuel op f g _ _ (by simp only[zA7]at h1; omega) (by simp only[zA7]at h2; omega)
   ·rfl
  ·rfl
def rdA (op:Nat) (args:List Int) (rest:List UInt8):List Int × Option (List UInt8):=readA op (rest.length+1) args rest
theorem rdA_done {op:Nat} {args:List Int} {rest:List UInt8} (h:¬args.length<(kindsR op args).length):rdA op args rest=(args,some rest):=by
 simp only[rdA,readA,if_neg h]
theorem rdA_end {op:Nat} {args:List Int} {rest:List UInt8} (h:args.length<(kindsR op args).length) (h2:rest.length<2):rdA op args rest=(args,none):=by
 simp only[rdA,readA,if_pos h]
 match rest,h2 with
 |[],_=>rfl
 |[_],_=>rfl
theorem rdA_more {op:Nat} {args:List Int} {a b:UInt8} {r:List UInt8} (h:args.length<(kindsR op args).length):rdA op args (a::b::r)=rdA op (args++[((a.toNat+256*b.toNat:Nat):Int)]) r:=by
 simp only[rdA]
 rw[readA,if_pos h]
 exact readA_fuel op _ _ _ _ (by simp only[zA7]; omega) (by omega)
theorem rdA_len (op:Nat):∀ (n:Nat) (args:List Int) (rest:List UInt8),rest.length≤n→args.length≤(rdA op args rest).1.length∧∀ r,(rdA op args rest).2=some r→r=rest.drop (2*((rdA op args rest).1.length-args.length))∧2*((rdA op args rest).1.length-args.length)≤rest.length:=by
 intro n
 induction n with
 |zero =>
  intro args rest h
  by_cases hk:args.length<(kindsR op args).length
  ·rw[rdA_end hk (by omega)]
   exact⟨zA9 _,fun r hr=>by cases hr⟩
  ·rw[rdA_done hk]
   exact⟨zA9 _,fun r hr=>by cases hr; simp⟩
 |succ n ih =>
  intro args rest h
  by_cases hk:args.length<(kindsR op args).length
  ·match rest,h with
   |[],_=>rw[rdA_end hk (by simp)]; exact⟨zA9 _,fun r hr=>by cases hr⟩
   |[_],_=>rw[rdA_end hk (by simp)]; exact⟨zA9 _,fun r hr=>by cases hr⟩
   |a::b::r,h =>
    rw[rdA_more hk]
    obtain⟨h1,h2⟩:=ih (args++[((a.toNat+256*b.toNat:Nat):Int)]) r (by simp only[zA7]at h; omega)
    simp only[zB2,zB9]at h1 h2
    refine⟨by omega,fun q hq=>?_⟩
    obtain⟨h3,h4⟩:=h2 q hq
    have e:2*((rdA op (args++[((a.toNat+256*b.toNat:Nat):Int)]) r).1.length-args.length)=2*((rdA op (args++[((a.toNat+256*b.toNat:Nat):Int)]) r).1.length-(args.length+1))+2:=by omega
    refine⟨?_,by simp only[zA7]; omega⟩
    rw[e,h3]
    simp
  ·rw[rdA_done hk]
   exact⟨zA9 _,fun r hr=>by cases hr; simp⟩
def decI:Nat→Nat→List UInt8→List (Ins × Int)
 |0,_,_=>[]
 |_+1,_,[]=>[]
 |f+1,pos,op::rest =>
  if 28≤op.toNat then [(⟨pos,op.toNat,[]⟩,5)] else
  match rdA op.toNat [] rest with
  |(args,none)=>[(⟨pos,op.toNat,args⟩,13)]
  |(args,some r)=>(⟨pos,op.toNat,args⟩,0)::decI f (pos+1+2*args.length) r
theorem decI_fuel:∀ (f g pos:Nat) (l:List UInt8),l.length<f→l.length<g→decI f pos l=decI g pos l
 |0,_,_,_,h,_=>absurd h (by omega)
 |_,0,_,_,_,h=>absurd h (by omega)
 |f+1,g+1,pos,[],h1,h2=>rfl
 |f+1,g+1,pos,op::rest,h1,h2=>by
  simp only[decI]
  split
  ·rfl
  ·split
   ·rfl
   ·rename_i args r he
    have:=(rdA_len op.toNat rest.length [] rest (zA9 _)).2 r (by rw[he])
    have hr:r.length≤rest.length:=by rw[this.1,List.length_drop]; omega
    simp only[zA7]at h1 h2
    rw[decI_fuel f g _ r (by omega) (by omega)]
def decA (pos:Nat) (l:List UInt8):List (Ins × Int):=decI (l.length+1) pos l
theorem decA_nil (pos:Nat):decA pos []=[]:=rfl
theorem decA_bad {pos:Nat} {op:UInt8} {rest:List UInt8} (h:28≤op.toNat):decA pos (op::rest)=[(⟨pos,op.toNat,[]⟩,5)]:=by simp only[decA,decI,if_pos h]
theorem decA_end {pos:Nat} {op:UInt8} {rest:List UInt8} {args:List Int} (h:¬28≤op.toNat) (h2:rdA op.toNat [] rest=(args,none)):decA pos (op::rest)=[(⟨pos,op.toNat,args⟩,13)]:=by simp only[decA,decI,if_neg h,h2]
theorem decA_ok {pos:Nat} {op:UInt8} {rest r:List UInt8} {args:List Int} (h:¬28≤op.toNat) (h2:rdA op.toNat [] rest=(args,some r)):decA pos (op::rest)=(⟨pos,op.toNat,args⟩,0)::decA (pos+1+2*args.length) r:=by
 have:=(rdA_len op.toNat rest.length [] rest (zA9 _)).2 r (by rw[h2])
 have hr:r.length≤rest.length:=by rw[this.1,List.length_drop]; omega
 simp only[decA]
 rw[decI,if_neg h]
 simp only[h2]
 rw[decI_fuel _ (r.length+1) _ _ (by simp only[zA7]; omega) (by omega)]
theorem rdA_small (op:Nat):∀ (n:Nat) (args:List Int) (rest:List UInt8),rest.length≤n→(∀ x∈args,0≤x∧x≤65535)→∀ x∈(rdA op args rest).1,0≤x∧x≤65535:=by
 intro n
 induction n with
 |zero =>
  intro args rest h ha
  by_cases hk:args.length<(kindsR op args).length
  ·rw[rdA_end hk (by omega)]; exact ha
  ·rw[rdA_done hk]; exact ha
 |succ n ih =>
  intro args rest h ha
  by_cases hk:args.length<(kindsR op args).length
  ·match rest,h with
   |[],_=>rw[rdA_end hk (by simp)]; exact ha
   |[_],_=>rw[rdA_end hk (by simp)]; exact ha
   |a::b::r,h =>
    rw[rdA_more hk]
    refine ih _ r (by simp only[zA7]at h; omega) fun x hx=>?_
    rcases zC6.1 hx with hx|hx
    ·exact ha x hx
    ·have h1:=a.toNat_lt; have h2:=b.toNat_lt
     simp only[zB0]at hx
     omega
  ·rw[rdA_done hk]; exact ha
theorem cntR_small {op:Nat} {args:List Int} (h:∀ x∈args,0≤x∧x≤65535):cntR op args≤65535:=by
 have key:∀ i,args.getD i 0≤65535:=fun i=>by
  rw[zB8]
  cases hi:args[i]? with
  |none=>simp
  |some x=>simpa using (h x (zE2 hi)).2
 unfold cntR
 split
 ·exact key 0
 ·split
  ·exact key 1
  ·omega
set_option maxRecDepth 100000
def rhoB:Go.Shelf.Ren:=⟨fun n=>if n=137 then 88 else if n=217 then 114 else if n=266 then 142 else 0,fun n=>n,fun n=>n⟩
theorem laysB:Go.Proofs.Lays.n137 Tryz.prog rhoB:=by
 constructor
 all_goals first
  |exact mixed
  |kernel_rfl
  |(intro w; kernel_rfl)
theorem pure_kit {f:FuncId} {args:List Value} {H:AHeap} {v:Value} (ha:∀ x∈args,af x=true) (hv:af v=true) (hs:∀ n,scb n v=true) (hc:∀ w,Calls Tryz.prog f ⟨args⟩ w fun e w'=>e=.returned v∧w'=w):Pure f args H v:=by
 intro ρ w r hsc F m R hF hR
 rw[map_af ρ _ ha]
 refine (hF.calls (hc w)).mono ?_
 rintro e w' ⟨rfl,rfl⟩
 have:=hR ρ w' (St.below r ⟨rfl,rfl,rfl,zA9 _,fun _ _=>rfl⟩) (hs _)
 rwa [val_af ρ _ hv]at this
theorem indexByte_c (H:AHeap) (s:ByteArray) (c:Nat) (hc:c<256):Pure 88 [.string s,.int .u8 (c:Int)] H (.int .i64 (Go.Lib.indexByte s.data.toList c.toUInt8)) :=
 pure_kit (fun x hx=>by simp only[zB1,List.not_mem_nil,or_false]at hx; rcases hx with rfl|rfl<;>rfl) rfl (fun _=>rfl) fun w=>Go.Proofs.Any.strings_IndexByte laysB s c w
def opndR (x:Int):Bool:=decide (0≤x)&&decide (x≤65535)
theorem operand_c (H:AHeap) (x:Int):Pure 89 [.int .i64 x] H (.bool (opndR x)):=by
 obtain⟨d,hd⟩:∃ d,decide (0≤x)=d:=⟨_,rfl⟩
 obtain⟨e,he⟩:∃ e,decide (x≤65535)=e:=⟨_,rfl⟩
 refine callS_fn mixed Tryz.func89 rfl Tryz.ntmps89 (zB5 rfl) fun wf hsc=>?_
 cases d<;>simp (maxDischargeDepth:=6) only[hd,he,Tryz.results89,ruW,putL,Nat.reduceLeDiff,xF,ruU,entryE,Nat.reduceLT,Nat.reduceAdd,Nat.reduceMul,Nat.reduceEqDiff]<;>exact Fin.pureE (by rw[opndR,hd,he]; rfl) rfl
theorem bytes_app (a b:List UInt8):(⟨a.toArray⟩:ByteArray)++⟨b.toArray⟩=⟨(a++b).toArray⟩:=by
 apply ByteArray.ext
 simp
theorem bytes_size (a:List UInt8):(⟨a.toArray⟩:ByteArray).size=a.length:=by
 show a.toArray.size=_
 simp
set_option maxRecDepth 100000
abbrev powD:DataW Unit:=Rows.laid_internal_strconv_uint64pow10
def Pow (H:AHeap):Prop:=3<H.next∧∃ e,bk H 3=some ⟨e,false,dc powD⟩
theorem Pow.of {H G:AHeap} (h:Pow H) (hn:H.next≤G.next) (hg:G.get 3=H.get 3):Pow G:=by
 obtain⟨h1,e,h2⟩:=h
 exact⟨by omega,e,(bk_get hg).trans h2⟩
theorem Pow.mod {H G:AHeap} {W:List Nat} (h:Pow H) (m:Mod W H G) (hW:3∉W):Pow G:=h.of m.next (m.get 3 h.1 hW)
def rhoN:Go.Shelf.Ren:=⟨fun n=>if n=129 then 157 else if n=171 then 55 else if n=243 then 87 else if n=246 then 113 else if n=283 then 138 else if n=284 then 139 else if n=285 then 140 else if n=286 then 141 else if n=317 then 156 else if n=318 then 158 else if n=319 then 159 else if n=320 then 160 else if n=337 then 164 else if n=338 then 165 else 0,fun n=>if n=37 then 23 else if n=46 then 80 else if n=51 then 201 else if n=53 then 190 else if n=171 then 189 else if n=173 then 193 else if n=212 then 207 else if n=213 then 208 else if n=232 then 214 else if n=233 then 215 else n,fun n=>if n=17 then 3 else if n=18 then 4 else if n=19 then 5 else n⟩
theorem laysN0:Go.Proofs.Lays.n171 Tryz.prog rhoN:=by
 constructor
 all_goals first
  |exact mixed
  |kernel_rfl
  |(intro w; kernel_rfl)
theorem laysN:Go.Proofs.LaysM.n171 Tryz.prog rhoN:=by
 constructor
 all_goals first
  |exact laysN0
  |exact mixed
  |kernel_rfl
  |(intro w; kernel_rfl)
theorem pow_list:dc powD=Go.Lib.pow10Tab.map fun z=>Value.int .u64 z:=by kernel_rfl
theorem pow_world {ρ:Go.Ax.Ren} {H:AHeap} {w:World} (r:Rel Tryz.prog ρ H w) (t:Pow H):Go.Lib.TabIs Tryz.prog w "internal/strconv.uint64pow10" .u64 Go.Lib.pow10Tab:=by
 obtain⟨_,e,h⟩:=t
 obtain⟨c,a,b⟩:=tab_world r (show 3<Tryz.prog.globals.size by decide +kernel) h (by kernel_rfl)
 have hg:Tryz.prog.globalNamed "internal/strconv.uint64pow10" = some 3:=by kernel_rfl
 have hc:c=(Go.Lib.pow10Tab.map fun z=>Value.int .u64 z).toArray:=by
  rw[←pow_list,←b]
 unfold Go.Lib.TabIs World.var?
 rw[hg]
 simp[a,hc]
theorem below_drawn {w:World} {k:Nat} {os:Array Obj}:RowKit.Below w.heap.size w (Go.Sort.grow (w.drewN k) os) where
 os:=rfl
 tape:=rfl
 output:=rfl
 size:=by show w.heap.size≤(w.heap++os).size; simp
 block:=fun i hi=>by show (w.heap++os)[i]?=_; rw[Array.getElem?_append_left hi]
theorem itoa_c (H:AHeap) (t:Pow H) (n:Int) (h0:0≤n) (h1:n≤65535):Pure 55 [.int .i64 n] H (.string ⟨(Go.Lib.itoa n).toArray⟩):=by
 intro ρ w r hsc F m R hF hR
 have hc:=Go.Proofs.Any.strconv_Itoa laysN n (by omega) (by omega) w (pow_world r t)
 have e1:[Value.int .i64 n].map ρ.val=[Value.int .i64 n]:=map_af ρ _ (fun x hx=>by simp only[zB0]at hx; subst hx; rfl)
 rw[e1]
 refine (hF.calls hc).mono ?_
 rintro e w' ⟨rfl,k,os,rfl⟩
 have:=hR ρ (Go.Sort.grow (w.drewN k) os) (St.below r below_drawn) rfl
 rwa [val_af ρ _ rfl]at this
set_option maxRecDepth 100000
abbrev fltV (e a:Int):Value:=.agg ⟨[.int .i64 e,.int .i64 a]⟩
set_option maxRecDepth 100000
def encA (op:Int) (args:List Int):Int :=
 if op<0∨28≤op then 5 else
 if args.length<(kindsR op.toNat []).length then 5 else
 if (op=17∧opndR (args.getD 0 0)=false)∨(op=24∧opndR (args.getD 1 0)=false) then 3 else
 if args.length≠(kindsR op.toNat args).length then 5 else
 if args.all opndR then 0 else 3
theorem ix114 {b op:Nat} {nm kv:Value} (h:op<28) (h1:(shV b)[2*op]?=some nm) (h2:(shV b)[2*op+1]?=some kv):aIndex Tryz.prog 114 (.agg ⟨shV b⟩) (.int .i64 (op:Int))=some (.agg ⟨[nm,kv]⟩):=by
 have hu:Tryz.prog.underlying 114=some (.array 28 113):=by kernel_rfl
 have hs:szOf Tryz.prog 113=some 2:=by kernel_rfl
 have ht:aggT Tryz.prog 113=some true:=by kernel_rfl
 have e:((shV b).drop (2*op)).take 2=[nm,kv]:=by
  apply List.ext_getElem?
  intro i
  rw[List.getElem?_take]
  split
  ·rw[List.getElem?_drop]
   match i with
   |0=>exact h1
   |1=>exact h2
   |i+2=>omega
  ·rw[zD5 (by simp; omega)]
 simp only[aIndex,hu,hs,zA1,zA3,aPart,ht,zD0]
 rw[if_pos ⟨by omega,by omega⟩,Nat.mul_comm op 2,e]
theorem sc_agg3 {b:Nat} {i j:Int} {v:Value} (h:scb b (.agg ⟨[.int .i64 i,.int .i64 j,v]⟩)=true):scb b v=true:=by
 have:(true&&(true&&(scb b v&&true)))=true:=h
 simpa using this
theorem sh_len (b:Nat):(shV b).length=56:=by simp[shV]
theorem encodable_bad (H:AHeap) (pos op:Int) (a:Option Addr) (n c:Nat) (h:op<0∨28≤op):Pure 58 [.agg ⟨[.int .i64 pos,.int .i64 op,.slice a n c]⟩] H (.int .i64 5):=by
 obtain⟨b,hb⟩:∃ b,H.next=b:=⟨_,rfl⟩
 refine callS_fn mixed Tryz.func58 rfl Tryz.ntmps58 (zB5 rfl) fun wf hsc=>?_
 have hbase:H.base≤b:=hb▸wf.base
 rw[scbL_iff]at hsc
 have hsc0:=hsc _ (zB0.2 rfl)
 rw[hb]at hsc0
 replace hsc0:scb b (.slice a n c)=true:=sc_agg3 hsc0
 by_cases h0:op<0
 ·have hd:decide (op<0)=true:=decide_eq_true h0
  simp (maxDischargeDepth:=6) only[hb,hbase,hd,hsc0,Tryz.results58,ruW,putL,Nat.reduceLeDiff,xF,ruU,entryE,Nat.reduceLT,Nat.reduceAdd,Nat.reduceMul,Nat.reduceEqDiff]
  exact Fin.pureE rfl rfl
 ·have hd:decide (op<0)=false:=decide_eq_false h0
  have hd2:decide (28≤op)=true:=decide_eq_true (by omega)
  simp (maxDischargeDepth:=6) only[hb,hbase,hd,hd2,hsc0,Tryz.results58,ruW,putL,Nat.reduceLeDiff,xF,ruU,entryE,Nat.reduceLT,Nat.reduceAdd,Nat.reduceMul,Nat.reduceEqDiff]
  exact Fin.pureE rfl rfl
theorem encodable_ok (H:AHeap) (pos:Int) (op:Nat) (av:Value) (args:List Int) (hop:op<28) (ha:RdAt H 1 av (iv args) args.length) (hlen:args.length≤1000000):Pure 58 [.agg ⟨[.int .i64 pos,.int .i64 (op:Int),av]⟩] H (.int .i64 (encA op args)):=by
 obtain⟨b,hb⟩:∃ b,H.next=b:=⟨_,rfl⟩
 obtain⟨a0,c0,e0⟩:=ha.sl
 refine callS_fn mixed Tryz.func58 rfl Tryz.ntmps58 (zB5 rfl) fun wf hsc=>?_
 have hbase:H.base≤b:=hb▸wf.base
 rw[scbL_iff]at hsc
 have hsc0:=hsc _ (zB0.2 rfl)
 rw[hb]at hsc0
 have hd:decide ((op:Int)<0)=false:=decide_eq_false (by omega)
 have hd2:decide (28≤(op:Int))=false:=decide_eq_false (by omega)
 obtain⟨f,ca,Fk,hkv,hkb,hkF,hkc⟩:=kinds_c (b+1) op hop
 obtain⟨nm,hnm⟩:∃ nm,(shV (b+1))[2*op]?=some nm:=⟨_,zA6 (by rw[sh_len]; omega)⟩
 have hix:=ix114 hop hnm hkv
 rw[e0]at hsc0
 replace hsc0:scb b (.slice a0 args.length c0)=true:=sc_agg3 hsc0
 rw[e0]
 simp (maxDischargeDepth:=6) only[hb,hbase,hd,hd2,hsc0,ruW,putL,Nat.reduceLeDiff,xF,ruU,entryE,Nat.reduceLT,Nat.reduceAdd,Nat.reduceMul,Nat.reduceEqDiff]
 refine w_drawB [(3,0),(4,0),(5,0)] [] (by kernel_rfl) (by kernel_rfl) rfl fun ops anc hA hG=>?_
 simp only[all2_cons]at hA
 simp (maxDischargeDepth:=6) only[hb,hbase,hA,ruD,ruW,putL,Nat.reduceLeDiff,xF,ruU,entryE,Nat.reduceLT,Nat.reduceAdd,Nat.reduceMul,Nat.reduceEqDiff]
 refine genV_ext (v:=.agg ⟨shV (b+1)⟩) (M:=shB (b+1)) [] (by simp only[ruU,entryE,Nat.reduceLT,Nat.reduceAdd,Nat.reduceMul,Nat.reduceEqDiff]) (by kernel_rfl) (by decide) (by simp) (fun G hG _=>?_) (by simp[Meets]) ?_
 ·have:=shapes_c G
  rw[hG,ext_next,hb]at this
  simp only[ruU,entryE,Nat.reduceLT,Nat.reduceAdd,Nat.reduceMul,Nat.reduceEqDiff]
  exact this
 generalize hX:ext (ext H _) _=X
 have mX:Mod [] H X:=by
  rw[←hX]
  exact (Mod.ext (by rw[hb]; exact hbase)).trans (Mod.ext (by rw[ext_base,ext_next,hb]; omega))
 have nX:X.next=b+28:=by rw[←hX,ext_next,ext_next,hb]; rfl
 have kX:bk X (b+0)=some ⟨59,false,[.int .i64 pos,.int .i64 (op:Int),.slice a0 args.length c0]⟩:=by
  rw[←hX,bk_old (by rw[ext_next,hb]; simp),bk_at hb (by simp)]
  rfl
 have sX:ShAt X (b+1):=by
  have:=ShAt.new (H:=ext H [⟨59,false,[.int .i64 pos,.int .i64 (op:Int),.slice a0 args.length c0]⟩]) (L:=[])
  rw[ext_nil,ext_next,hb]at this
  rw[←hX]
  exact this
 have haX:=ha.mod0 mX
 clear hX
 rw[show X=ext X [] from rfl,ext_next,hb,zB9]
 have hbx:b+0<b+28:=by omega
 have hmt:b+0<b+1:=by omega
 simp (maxDischargeDepth:=6) only[nX,kX,hbx,hmt,hix,hA,qk_old,ruD,ruW,putL,Nat.reduceLeDiff,xF,ruU,entryE,Nat.reduceLT,Nat.reduceAdd,Nat.reduceMul,Nat.reduceEqDiff]
 have okX:=mX.ok (by rw[hb]; exact hbase)
 have hka:∀ (av:Value) (args:List Int),RdAt X 1 av (iv args) args.length→cntR op args≤1000000→Pure f (av::ca) X (.string ⟨(kindsR op args).toArray⟩):=fun av args h1 h2=>hkc X av args (fun i b' h3 _=>sX i b' h3) h1 h2
 have hk0:cntR op []≤1000000:=by unfold cntR; split<;>(try split)<;>simp
 refine w_callV (f:=f) (ca:=ca) (by simp only[ruU,entryE,Nat.reduceLT,Nat.reduceAdd,Nat.reduceMul,Nat.reduceEqDiff]) (by simp only[ruU,entryE,Nat.reduceLT,Nat.reduceAdd,Nat.reduceMul,Nat.reduceEqDiff]) (by simp only[ruU,entryE,Nat.reduceLT,Nat.reduceAdd,Nat.reduceMul,Nat.reduceEqDiff]) hkb ?_
 refine (hka _ [] RdAt.nil hk0).to ?_
 obtain⟨k0,hk⟩:∃ k0,kindsR op []=k0:=⟨_,rfl⟩
 obtain⟨d1,hd1⟩:∃ d1,decide ((args.length:Int)<(k0.length:Int))=d1:=⟨_,rfl⟩
 have e1:¬((op:Int)<0∨28≤(op:Int)):=by omega
 cases d1 with
 |true =>
  have h1:=of_decide_eq_true hd1
  simp (maxDischargeDepth:=6) only[hk,nX,kX,hbx,rb_lenStr u9,bt_lenStr u9,bytes_size,hd1,qk_old,Tryz.results58,ruW,putL,Nat.reduceLeDiff,xF,ruU,entryE,Nat.reduceLT,Nat.reduceAdd,Nat.reduceMul,Nat.reduceEqDiff]
  have:encA op args=5:=by rw[encA,if_neg e1,zD0,hk,if_pos (by omega)]
  rw[this]
  exact Ax.Fin.mod rfl mX rfl
 |false =>
  have h1:=of_decide_eq_false hd1
  simp (maxDischargeDepth:=6) only[hk,nX,kX,hbx,rb_lenStr u9,bt_lenStr u9,bytes_size,hd1,qk_old,ruW,putL,Nat.reduceLeDiff,xF,ruU,entryE,Nat.reduceLT,Nat.reduceAdd,Nat.reduceMul,Nat.reduceEqDiff]
  refine w_callV (f:=f) (ca:=ca) (by simp only[ruU,entryE,Nat.reduceLT,Nat.reduceAdd,Nat.reduceMul,Nat.reduceEqDiff]) (by simp only[ruU,entryE,Nat.reduceLT,Nat.reduceAdd,Nat.reduceMul,Nat.reduceEqDiff]) (by simp only[ruU,entryE,Nat.reduceLT,Nat.reduceAdd,Nat.reduceMul,Nat.reduceEqDiff]) hkb ?_
  refine (hka _ [] RdAt.nil hk0).to ?_
  simp (maxDischargeDepth:=6) only[hk,nX,kX,hbx,qk_old,ruW,putL,Nat.reduceLeDiff,xF,ruU,entryE,Nat.reduceLT,Nat.reduceAdd,Nat.reduceMul,Nat.reduceEqDiff]
  refine (indexByte_c (ext X []) ⟨k0.toArray⟩ 110 (by decide)).to ?_
  obtain⟨i0,hi0⟩:∃ i0,Go.Lib.indexByte (⟨k0.toArray⟩:ByteArray).data.toList (110:Nat).toUInt8=i0:=⟨_,rfl⟩
  rw[hi0]
  have hi0':Go.Lib.indexByte k0 110=i0:=by rw[←hi0]; simp
  have hsp:(op=17∧i0=0∧k0.length=1)∨(op=24∧i0=1∧k0.length=2)∨(op≠17∧op≠24):=by
   by_cases h17:op=17
   ·subst h17
    have:k0=[110]:=hk.symm
    subst this
    exact .inl ⟨rfl,hi0'.symm,rfl⟩
   ·by_cases h24:op=24
    ·subst h24
     have:k0=[107,110]:=hk.symm
     subst this
     exact .inr (.inl ⟨rfl,hi0'.symm,rfl⟩)
    ·exact .inr (.inr ⟨h17,h24⟩)
  have hla:k0.length≤args.length:=by omega
  obtain⟨d2,hd2⟩:∃ d2,decide (0≤i0)=d2:=⟨_,rfl⟩
  obtain⟨d3,hd3⟩:∃ d3,decide ((op:Int)=17)=d3:=⟨_,rfl⟩
  obtain⟨d4,hd4⟩:∃ d4,decide ((op:Int)=24)=d4:=⟨_,rfl⟩
  have enc3:((op:Int)=17∧opndR (args.getD 0 0)=false)∨((op:Int)=24∧opndR (args.getD 1 0)=false)→encA op args=3:=fun h=>by
   rw[encA,if_neg e1,zD0,hk,if_neg (by omega),if_pos h]
  have hop:∀ x,opndR x=true→x≤65535:=fun x h=>by simp only[opndR,zA4,decide_eq_true_eq]at h; exact h.2
  have hnx:¬(((op:Int)=17∧opndR (args.getD 0 0)=false)∨((op:Int)=24∧opndR (args.getD 1 0)=false))→cntR op args≤1000000:=fun h=>by
   unfold cntR
   split
   ·rename_i h17
    have:opndR (args.getD 0 0)=true:=by
     cases hh:opndR (args.getD 0 0) with
     |true=>rfl
     |false=>exact absurd (.inl ⟨by omega,hh⟩) h
    have:=hop _ this
    omega
   ·split
    ·rename_i h24
     have:opndR (args.getD 1 0)=true:=by
      cases hh:opndR (args.getD 1 0) with
      |true=>rfl
      |false=>exact absurd (.inr ⟨by omega,hh⟩) h
     have:=hop _ this
     omega
    ·omega
  rcases hsp with⟨h17,rfl,hl⟩|⟨h24,rfl,hl⟩|⟨h17,h24⟩
  (have h0:0<args.length:=by omega
   obtain⟨n,off,s,c,e,o,M,e2,n1,r1,m1⟩:=haX.one h0
   rw[e0]at e2
   cases e2
   rw[iv_get,zA6 h0,zA5]at m1
   have hg:args.getD 0 0=args[0]:=by rw[zB8,zA6 h0]; rfl
   have i1:aIndexAddr Tryz.prog 35 (.slice (some ⟨n,off,s⟩) args.length c0) (.int .i64 0)=some (.pointer (some ⟨n,off+0,none⟩)):=ia_of (i:=0) u35 s3 h0
   have q2:decide ((0:Int)≤0)=true:=by decide
   have q3:decide ((op:Int)=17)=true:=decide_eq_true (by omega)
   rw[nX]at n1
   simp (maxDischargeDepth:=6) only[nX,kX,hbx,q2,q3,i1,r1,n1,m1,qk_old,ruW,putL,Nat.reduceLeDiff,xF,ruU,entryE,Nat.reduceLT,Nat.reduceAdd,Nat.reduceMul,Nat.reduceEqDiff]
   refine (operand_c (ext X []) args[0]).to ?_
   obtain⟨d5,hd5⟩:∃ d5,opndR args[0]=d5:=⟨_,rfl⟩
   cases d5
   ·simp (maxDischargeDepth:=6) only[hd5,Bool.not_false,Tryz.results58,ruW,putL,Nat.reduceLeDiff,xF,ruU,entryE,Nat.reduceLT,Nat.reduceAdd,Nat.reduceMul,Nat.reduceEqDiff]
    rw[enc3 (.inl ⟨by omega,by rw[hg,hd5]⟩)]
    exact Ax.Fin.mod rfl mX rfl
   have hbad:¬(((op:Int)=17∧opndR (args.getD 0 0)=false)∨((op:Int)=24∧opndR (args.getD 1 0)=false)):=by
    rw[hg,hd5]
    rintro (⟨_,h⟩|⟨h,_⟩)
    ·cases h
    ·omega
   simp (maxDischargeDepth:=6) only[hd5,Bool.not_true,ruW,putL,Nat.reduceLeDiff,xF,ruU,entryE,Nat.reduceLT,Nat.reduceAdd,Nat.reduceMul,Nat.reduceEqDiff])
  rotate_left
  (have h0:1<args.length:=by omega
   obtain⟨n,off,s,c,e,o,M,e2,n1,r1,m1⟩:=haX.one h0
   rw[e0]at e2
   cases e2
   rw[iv_get,zA6 h0,zA5]at m1
   have hg:args.getD 1 0=args[1]:=by rw[zB8,zA6 h0]; rfl
   have i1:aIndexAddr Tryz.prog 35 (.slice (some ⟨n,off,s⟩) args.length c0) (.int .i64 1)=some (.pointer (some ⟨n,off+1,none⟩)):=ia_of (i:=1) u35 s3 h0
   have q2:decide ((0:Int)≤1)=true:=by decide
   have q3:decide ((op:Int)=17)=false:=decide_eq_false (by omega)
   have q4:decide ((op:Int)=24)=true:=decide_eq_true (by omega)
   rw[nX]at n1
   simp (maxDischargeDepth:=6) only[nX,kX,hbx,q2,q3,q4,i1,r1,n1,m1,qk_old,ruW,putL,Nat.reduceLeDiff,xF,ruU,entryE,Nat.reduceLT,Nat.reduceAdd,Nat.reduceMul,Nat.reduceEqDiff]
   refine (operand_c (ext X []) args[1]).to ?_
   obtain⟨d5,hd5⟩:∃ d5,opndR args[1]=d5:=⟨_,rfl⟩
   cases d5
   ·simp (maxDischargeDepth:=6) only[hd5,Bool.not_false,Tryz.results58,ruW,putL,Nat.reduceLeDiff,xF,ruU,entryE,Nat.reduceLT,Nat.reduceAdd,Nat.reduceMul,Nat.reduceEqDiff]
    rw[enc3 (.inr ⟨by omega,by rw[hg,hd5]⟩)]
    exact Ax.Fin.mod rfl mX rfl
   have hbad:¬(((op:Int)=17∧opndR (args.getD 0 0)=false)∨((op:Int)=24∧opndR (args.getD 1 0)=false)):=by
    rw[hg,hd5]
    rintro (⟨h,_⟩|⟨_,h⟩)
    ·omega
    ·cases h
   simp (maxDischargeDepth:=6) only[hd5,Bool.not_true,ruW,putL,Nat.reduceLeDiff,xF,ruU,entryE,Nat.reduceLT,Nat.reduceAdd,Nat.reduceMul,Nat.reduceEqDiff])
  rotate_left
  (have q3:decide ((op:Int)=17)=false:=decide_eq_false (by omega)
   have q4:decide ((op:Int)=24)=false:=decide_eq_false (by omega)
   have hbad:¬(((op:Int)=17∧opndR (args.getD 0 0)=false)∨((op:Int)=24∧opndR (args.getD 1 0)=false)):=by omega
   cases d2<;>simp (maxDischargeDepth:=6) only[nX,kX,hbx,hd2,q3,q4,qk_old,ruW,putL,Nat.reduceLeDiff,xF,ruU,entryE,Nat.reduceLT,Nat.reduceAdd,Nat.reduceMul,Nat.reduceEqDiff])
  all_goals
   have hcnt:=hnx hbad
   refine w_env fun E hE=>?_
   have g1:E 1=.pointer (some ⟨b+0,0,none⟩):=by rw[hE]; simp only[ruU,entryE,Nat.reduceLT,Nat.reduceAdd,Nat.reduceMul,Nat.reduceEqDiff]
   have g3:E 3=.func (.func f) ⟨[]⟩ ⟨ca⟩:=by rw[hE]; simp only[ruU,entryE,Nat.reduceLT,Nat.reduceAdd,Nat.reduceMul,Nat.reduceEqDiff]
   clear hE
   have hFr:∀ k∈rdF av args.length++Fk,(ext X []).get k≠none:=fun k hk=>by
    rcases zC6.1 hk with hk|hk
    ·exact (haX.ne k hk).1
    ·have hkk:=hkF k hk
     obtain⟨j,rfl⟩:∃ j,k=b+1+j:=⟨k-(b+1),by omega⟩
     exact bk_ne (sX j _ (zA6 (by simp[shB]; omega))).1
   have hcall:∀ G:AHeap,G.next=(ext X []).next→(∀ k∈rdF av args.length++Fk,G.get k=(ext X []).get k)→CallS Tryz.prog f (av::ca) G (.ok (.string ⟨(kindsR op args).toArray⟩)) G:=fun G hG hg =>
    hkc G av args (fun i' b' h1 h2=>by
     obtain⟨h3,h4⟩:=sX i' b' h1
     exact⟨(bk_get (hg _ (List.mem_append_right _ h2))).trans h3,by rw[hG]; exact h4⟩) (haX.of (Nat.le_of_eq hG.symm) fun k hk=>hg k (List.mem_append_left _ hk)) hcnt
   rw[e0]at hcall hFr
   obtain⟨ks,hks⟩:∃ ks,kindsR op args=ks:=⟨_,rfl⟩
   rw[hks]at hcall
   obtain⟨d6,hd6⟩:∃ d6,decide (¬(args.length:Int)=(ks.length:Int))=d6:=⟨_,rfl⟩
   refine w_drawB [] [] (by kernel_rfl) (by kernel_rfl) rfl fun ops anc hA hG=>?_
   simp (maxDischargeDepth:=6) only[g1,g3,nX,kX,hbx,ruD,ruW,putL,Nat.reduceLeDiff,xF,ruU,entryE,Nat.reduceLT,Nat.reduceAdd,Nat.reduceMul,Nat.reduceEqDiff]
   refine genV_quietV (v:=.string ⟨ks.toArray⟩) (ca:=ca) (rdF (.slice _ args.length _) args.length++Fk) (by simp only[ruU,entryE,Nat.reduceLT,Nat.reduceAdd,Nat.reduceMul,Nat.reduceEqDiff]) (by simp only[g3,ruU,entryE,Nat.reduceLT,Nat.reduceAdd,Nat.reduceMul,Nat.reduceEqDiff]) (by simp only[ruU,entryE,Nat.reduceLT,Nat.reduceAdd,Nat.reduceMul,Nat.reduceEqDiff]) hkb (by decide) hFr (fun G hG hg=>by simp only[ruU,entryE,Nat.reduceLT,Nat.reduceAdd,Nat.reduceMul,Nat.reduceEqDiff]; exact hcall G hG hg) (by simp[Meets]) ?_
   simp (maxDischargeDepth:=6) only[g1,g3,nX,kX,hbx,rb_lenStr u9,bytes_size,hd6,ruD,ruW,putL,Nat.reduceLeDiff,xF,ruU,entryE,Nat.reduceLT,Nat.reduceAdd,Nat.reduceMul,Nat.reduceEqDiff]
   cases d6 with
   |true =>
    have h6:=of_decide_eq_true hd6
    simp (maxDischargeDepth:=6) only[g1,g3,Tryz.results58,ruW,putL,Nat.reduceLeDiff,xF,ruU,entryE,Nat.reduceLT,Nat.reduceAdd,Nat.reduceMul,Nat.reduceEqDiff]
    have:encA op args=5:=by rw[encA,if_neg e1,zD0,hk,if_neg (by omega),if_neg hbad,if_pos (by rw[hks]; omega)]
    rw[this]
    exact Ax.Fin.mod rfl mX rfl
   |false =>
    have h6:args.length=ks.length:=by have:=of_decide_eq_false hd6; omega
    have henc:encA op args=if args.all opndR then 0 else 3:=by rw[encA,if_neg e1,zD0,hk,if_neg (by omega),if_neg hbad,if_neg (by rw[hks]; omega)]
    simp (maxDischargeDepth:=6) only[g1,g3,nX,kX,hbx,qk_old,ruW,putL,Nat.reduceLeDiff,xF,ruU,entryE,Nat.reduceLT,Nat.reduceAdd,Nat.reduceMul,Nat.reduceEqDiff]
    refine w_env fun E2 hE=>?_
    have g63:E2 63=av:=by rw[hE,e0]; simp only[ruU,entryE,Nat.reduceLT,Nat.reduceAdd,Nat.reduceMul,Nat.reduceEqDiff]
    have g64:E2 64=.int .i64 (args.length:Int):=by rw[hE]; simp only[ruU,entryE,Nat.reduceLT,Nat.reduceAdd,Nat.reduceMul,Nat.reduceEqDiff]
    have g65:E2 65=.int .i64 ((0:Nat):Int):=by rw[hE]; (simp only[ruU,entryE,Nat.reduceLT,Nat.reduceAdd,Nat.reduceMul,Nat.reduceEqDiff]<;>rfl)
    clear hE g1 g3 E
    refine w_loop (fun (j:Nat) E' H'=>H'=ext X []∧j≤args.length∧(∀ i,i<j→∀ y,args[i]?=some y→opndR y=true)∧E' 63=av∧E' 64=.int .i64 (args.length:Int)∧E' 65=.int .i64 (j:Int)) (fun j=>args.length-j) 0 ⟨rfl,zB3 _,fun i hi=>absurd hi (by omega),g63,g64,g65⟩ ?_
    clear g63 g64 g65 E2
    rintro j E H' ⟨hH,hj,hall,g63,g64,g65⟩
    rw[hH]
    by_cases hje:j=args.length
    ·have hdj:decide ((j:Int)<(args.length:Int))=false:=decide_eq_false (by omega)
     simp (maxDischargeDepth:=6) only[g63,g64,g65,hdj,Tryz.results58,ruW,putL,Nat.reduceLeDiff,xF,ruU,entryE,Nat.reduceLT,Nat.reduceAdd,Nat.reduceMul,Nat.reduceEqDiff]
     have:encA op args=0:=by
      rw[henc,if_pos]
      rw[zC7]
      intro y hy
      obtain⟨i,hi,he⟩:=List.mem_iff_getElem.1 hy
      exact hall i (by omega) y (by rw[zA6 hi,he])
     rw[this]
     exact Ax.Fin.mod rfl mX rfl
    ·have hjl:j<args.length:=by omega
     have hdj:decide ((j:Int)<(args.length:Int))=true:=decide_eq_true (by omega)
     obtain⟨n',off',s',c',e',o',M',e3,n3,r3,m3⟩:=haX.one hjl
     rw[e3]at g63
     rw[iv_get,zA6 hjl,zA5]at m3
     have i3:=ia_of (P:=Tryz.prog) (k:=.i64) (i:=j) (n:=n') (off:=off') (len:=args.length) (cap:=c') (s:=s') u35 s3 hjl
     rw[zC2]at i3
     rw[nX]at n3
     have hw:IntKind.i64.wrap ((j:Int)+1)=((j+1:Nat):Int):=wrap_succ (by omega)
     simp (maxDischargeDepth:=6) only[g63,g64,g65,nX,hdj,i3,n3,r3,m3,qk_old,ruW,putL,Nat.reduceLeDiff,xF,ruU,entryE,Nat.reduceLT,Nat.reduceAdd,Nat.reduceMul,Nat.reduceEqDiff]
     refine (operand_c (ext X []) args[j]).to ?_
     obtain⟨d7,hd7⟩:∃ d7,opndR args[j]=d7:=⟨_,rfl⟩
     cases d7
     ·simp (maxDischargeDepth:=6) only[g63,g64,g65,hd7,Bool.not_false,Tryz.results58,ruW,putL,Nat.reduceLeDiff,xF,ruU,entryE,Nat.reduceLT,Nat.reduceAdd,Nat.reduceMul,Nat.reduceEqDiff]
      have:encA op args=3:=by
       rw[henc,if_neg]
       intro h
       rw[zC7]at h
       rw[h _ (List.getElem_mem hjl)]at hd7
       cases hd7
      rw[this]
      exact Ax.Fin.mod rfl mX rfl
     ·simp (maxDischargeDepth:=6) only[g63,g64,g65,hd7,hw,Bool.not_true,ruW,putL,Nat.reduceLeDiff,xF,ruU,entryE,Nat.reduceLT,Nat.reduceAdd,Nat.reduceMul,Nat.reduceEqDiff]
      refine loopC_next ⟨j+1,by omega,rfl,by omega,fun i hi y hy=>?_,?_,?_,?_⟩
      ·by_cases hij:i=j
       ·subst hij
        rw[zA6 hjl]at hy
        cases hy
        exact hd7
       ·exact hall i (by omega) y hy
      ·rw[e3]; simp only[g63,g64,g65,ruU,entryE,Nat.reduceLT,Nat.reduceAdd,Nat.reduceMul,Nat.reduceEqDiff]
      all_goals simp only[g63,g64,g65,hw,ruU,entryE,Nat.reduceLT,Nat.reduceAdd,Nat.reduceMul,Nat.reduceEqDiff]
set_option maxRecDepth 100000
abbrev Iv:=Ins × Value
def ivC (x:Iv):List Value:=[.int .i64 x.1.pos,.int .i64 x.1.op,x.2]
def ivV (x:Iv):Value:=.agg ⟨ivC x⟩
def insC (ls:List Iv):List Value:=ls.flatMap ivC
theorem insC_len (ls:List Iv):(insC ls).length=ls.length*3:=by
 induction ls with
 |nil=>rfl
 |cons x r ih=>simp only[insC,zC9,zB2,zA7]at ih ⊢; rw[ih]; simp only[ivC,zA7,zC5]; omega
theorem insC_at:∀ {ls:List Iv} {i:Nat} {x:Iv},ls[i]?=some x→((insC ls).drop (i*3)).take 3=ivC x
 |y::r,0,x,h=>by
  simp only[List.getElem?_cons_zero,Option.some.injEq]at h
  subst h
  rfl
 |y::r,i+1,x,h=>by
  rw[zE4]at h
  rw[show (i+1)*3=3+i*3 by omega,insC,zC9,List.drop_append,List.drop_eq_nil_of_le (by simp[ivC])]
  simp only[ivC,zA7,zC5,zD4]
  rw[show 3+i*3-(0+1+1+1)=i*3 by omega]
  exact insC_at h
theorem insC_append (a b:List Iv):insC (a++b)=insC a++insC b:=by simp[insC]
structure InsRd (H:AHeap) (v:Value) (ls:List Iv):Prop where
 rd:RdAt H 3 v (insC ls) ls.length
 av:∀ x∈ls,RdAt H 1 x.2 (iv x.1.args) x.1.args.length
 sc:∀ x∈ls,scb H.next x.2=true
section
variable {H G : AHeap} {v : Value} {ls : List Iv}
theorem InsRd.mod0 (h:InsRd H v ls) (m:Mod [] H G):InsRd G v ls:=⟨h.rd.mod0 m,fun x hx=>(h.av x hx).mod0 m,fun x hx=>scb_mono m.next _ (h.sc x hx)⟩
theorem InsRd.one (h:InsRd H v ls) {i:Nat} {x:Iv} (hi:ls[i]?=some x):∃ n off s c e o M,v=.slice (some ⟨n,off,s⟩) ls.length c∧n<H.next∧rk H n=some ⟨e,o,M⟩∧aIndexAddr Tryz.prog 42 v (.int .i64 (i:Int))=some (.pointer (some ⟨n,off+i*3,none⟩))∧ldB Tryz.prog 59 (off+i*3) (some ⟨e,o,M⟩)=some (ivV x):=by
 have hl:=(List.getElem?_eq_some_iff.1 hi).1
 obtain⟨n,off,s,c,e,o,M,rfl,h2,h3,h4,h5⟩:=h.rd.at_ hl
 rw[insC_at hi]at h5
 refine⟨n,off,s,c,e,o,M,rfl,h2,h3,ia_of u42 s59 hl,?_⟩
 have h1:aggT Tryz.prog 59=some true:=by kernel_rfl
 rw[ld_agg h1,s59,zA3,if_pos (by omega),h5]
 rfl
end
theorem byte_app {X:AHeap} {v:Value} {l ws:List UInt8} {x:Nat} (h:VsAt X 5 1 v (bv l) l.length) (hx:X.next=x) (hb:X.base≤X.next) (hw:0<ws.length) (hlen:l.length+ws.length≤1000000000) :
  ∃ G,aBuiltin Tryz.prog (ext X [⟨5,false,bv ws⟩]) .append ⟨[23,23]⟩ [v,.slice (some ⟨x+0,0,some 0⟩) ws.length ws.length]=some (.slice (some ⟨x+1,0,none⟩) (l.length+ws.length) (l.length+ws.length),ext G [])∧VsAt G 5 1 (.slice (some ⟨x+1,0,none⟩) (l.length+ws.length) (l.length+ws.length)) (bv (l++ws)) (l++ws).length∧Mod (idsV v) X G∧G.next=x+2:=by
 have h2:VsAt (ext X [⟨5,false,bv ws⟩]) 5 1 v (bv l) l.length:=h.of (by rw[ext_next]; omega) (fun n hn=>ext_get_old (h.ne n hn).2)
 have hk:bk (ext X [⟨5,false,bv ws⟩]) (x+0)=some ⟨5,false,bv ws⟩:=by rw[bk_at hx (by simp)]; rfl
 have hsm:small (l.length+ws.length) 1=true:=by simp only[small,zA4,zD7]; omega
 have hbl:(bv ws).length=ws.length:=by simp[bv]
 have hone:∀ ws:List UInt8,(bv ws).all one=true:=fun ws=>by simp[bv,one]
 have hsc:∀ n,∀ ws:List UInt8,scbL n (bv ws)=true:=fun n ws=>by
  rw[scbL_iff]
  intro v' hv'
  obtain⟨w',_,rfl⟩:=zC8.1 hv'
  rfl
 obtain⟨G,k1,k2,k3,k4,_⟩:=vs_app (P:=Tryz.prog) (H:=ext X [⟨5,false,bv ws⟩]) (st:=23) (xt:=23) (e:=5) (sz:=1) (by1:=1) (z:=.int .u8 0) (n:=x+0) (off:=0) (cnt2:=ws.length) (cap:=ws.length) (s:=some 0) (x:=x+1) (ws:=bv ws) (b:=⟨5,false,bv ws⟩)
  u23 s5 (by kernel_rfl) (by kernel_rfl) rfl (by kernel_rfl) h2 (rk_of hk) (by simp only; omega) (by rw[List.drop_zero]; exact zD9 (by simp only; omega)) (hone ws) hw hsm (by rw[ext_next,hx]; rfl) (scbL_append (hsc _ _) (hsc _ _))
 have e1:bv l++bv ws=bv (l++ws):=by simp[bv]
 rw[e1]at k2
 refine⟨G,k1,by rw[zB2]; exact k2,(Mod.ext hb).trans (k3 ((Mod.ext (W:=[]) hb).ok hb)),k4⟩
def encB (x:Ins):List UInt8:=x.op.toNat.toUInt8::x.args.flatMap fun a=>[a.toNat.toUInt8,(a.toNat / 256).toUInt8]
def encBad:Nat→List Ins→Option (Int × Int)
 |_,[]=>none
 |i,x::r=>if encA x.op x.args≠0 then some (encA x.op x.args,(i:Int)) else encBad (i+1) r
theorem encBad_at:∀ {ls:List Ins} {k:Nat},(∀ (i:Nat) (x:Ins),ls[i]?=some x→encA x.op x.args=0)→encBad k ls=none
 |[],_,_=>rfl
 |x::r,k,h=>by
  rw[encBad,if_neg (by rw[h 0 x rfl]; simp)]
  exact encBad_at fun i y hy=>h (i+1) y (by simpa using hy)
theorem encBad_some:∀ {ls:List Ins} {k j:Nat} {x:Ins},(∀ i,i<j→∀ x:Ins,ls[i]?=some x→encA x.op x.args=0)→ls[j]?=some x→encA x.op x.args≠0→encBad k ls=some (encA x.op x.args,((k+j:Nat):Int))
 |y::r,k,0,x,_,hx,hb=>by
  simp only[List.getElem?_cons_zero,Option.some.injEq]at hx
  subst hx
  rw[encBad,if_pos hb]
  rfl
 |y::r,k,j+1,x,h,hx,hb=>by
  rw[encBad,if_neg (by rw[h 0 (by omega) y rfl]; simp),encBad_some (j:=j) (fun i hi z hz=>h (i+1) (by omega) z (by simpa using hz)) (by simpa using hx) hb]
  congr 2
  omega
theorem byte_val {n:Int} (h0:0≤n) (h1:n≤65535):IntKind.u8.wrap n=((n.toNat.toUInt8).toNat:Int):=by
 obtain⟨k,rfl⟩:∃ k:Nat,n=k:=⟨n.toNat,by omega⟩
 rw[zD0,show k.toUInt8.toNat=k % 256 from UInt8.toNat_ofNat' ..]
 simp only[IntKind.wrap,IntKind.signed,IntKind.bits]
 simp
theorem shr8 {n:Int} (h0:0≤n) (h1:n≤65535):bShr .i64 n 8=((n.toNat / 256:Nat):Int):=by
 obtain⟨k,rfl⟩:∃ k:Nat,n=k:=⟨n.toNat,by omega⟩
 rw[zD0]
 simp only[bShr,IntKind.bits]
 rw[Int.fdiv_eq_ediv_of_nonneg _ (by decide)]
 simp
theorem encA_ok {op:Int} {args:List Int} (h:encA op args=0):0≤op∧op<28∧args.length=(kindsR op.toNat args).length∧∀ y∈args,0≤y∧y≤65535:=by
 unfold encA at h
 split at h
 ·cases h
 ·split at h
  ·cases h
  ·split at h
   ·cases h
   ·split at h
    ·cases h
    ·split at h
     ·rename_i h1 _ _ h4 h5
      rw[zC7]at h5
      refine⟨by omega,by omega,by omega,fun y hy=>?_⟩
      have:=h5 y hy
      simp only[opndR,zA4,decide_eq_true_eq]at this
      exact this
     ·cases h
end Go.Proofs.YtnigelgcjfhghaaGreatDoor
namespace Go.Ax
structure YldP (P:Program) (l:Nat) (α:Type) (enc:α→List Value) (go:α→Bool) (cap:Nat) (pre:α→Prop) where
 Inv:List α→List Nat→List Nat→AHeap→Prop
 sub:∀ {rs F W G},Inv rs F W G→∀ n∈W,n∈F
 dom:∀ {rs F W G},Inv rs F W G→∀ n∈F,G.get n≠none∧n<G.next
 loc:∀ {rs F W G G'},Inv rs F W G→G.next≤G'.next→(∀ n∈F,G'.get n=G.get n)→Inv rs F W G'
 step:∀ {rs F W G r},Inv rs F W G→(∀ x∈rs,go x=true)→rs.length<cap→G.base≤G.next→pre r→CallY P l (enc r) G (fun out G'=>out=.ok (.bool (go r))∧∃ F' W',Inv (rs++[r]) F' W' G'∧Mod W G G'∧(∀ n∈F',n∈F∨G.next≤n)∧(∀ n∈W',n∈W∨G.next≤n))
end Go.Ax
namespace Go.Proofs.YtnigelgcjfhghaaGreatDoor
open Go.Ax
set_option maxRecDepth 100000
abbrev bs (l:List UInt8):ByteArray:=⟨l.toArray⟩
theorem bs_size (l:List UInt8):(bs l).size=l.length:=bytes_size l
end Go.Proofs.YtnigelgcjfhghaaGreatDoor
namespace Go.Ax
section
variable {P : Program} {ro : Option Nat} {H : AHeap} {N : Nat} {E : Env} {ds : List Deferred}
theorem app_str {st xt e:TypeId} {by1 cnt x:Nat} {z v:Value} {vs:List Value} {s:ByteArray} (hu:P.underlying st=some (.slice e)) (hsz:szOf P e=some 1) (hby:bytesOf P e=some by1) (hz:zeroOf P e=some z) (hzl:z.cells.toList.length=1) (hi:intTy P xt=some false)
  (h:VsAt H e 1 v vs cnt) (h0:0<s.size) (hsm:small (cnt+s.size) by1=true) (hx:H.next=x) (hsc:scbL H.next vs=true) :
  ∃ G,aBuiltin P H .append ⟨[st,xt]⟩ [v,.string s]=some (.slice (some ⟨x,0,none⟩) (cnt+s.size) (cnt+s.size),G)∧VsAt G e 1 (.slice (some ⟨x,0,none⟩) (cnt+s.size) (cnt+s.size)) (vs++bytesV s.data.toList) (cnt+s.size)∧(H.base≤H.next→Mod (idsV v) H G)∧G.next=x+1:=by
 have hsl:s.data.toList.length=s.size:=by rw[Array.length_toList]; rfl
 have htk:s.data.toList.take s.size=s.data.toList:=zD9 (by omega)
 have hbl:(bytesV s.data.toList).length=s.size:=by rw[bytesV,zB7,hsl]
 have hone:(bytesV s.data.toList).all one=true:=zC7.2 fun v' hv'=>by
  obtain⟨w',_,rfl⟩:=zC8.1 hv'
  rfl
 have hfs:firstC H 1 s.size (.string s)=some (bytesV s.data.toList):=by simp only[firstC,htk]
 have hf0:firstC H 1 0 (.slice none 0 0)=some []:=rfl
 have hsb:∀ n,scbL n (bytesV s.data.toList)=true:=fun n=>by
  rw[scbL_iff]
  intro v' hv'
  obtain⟨w',_,rfl⟩:=zC8.1 hv'
  rfl
 obtain⟨h1,h2,⟨rfl,rfl⟩|⟨hp,m,rfl,hm,hlt⟩⟩:=h
 ·have hv:vs=[]:=zE7 (by simpa using h1)
  subst hv
  rw[zD4,zC3]
  rw[zC3]at hsm
  have hn:=new_ext (H:=H) (L:=[]) (e:=e) (l:=bytesV s.data.toList) (o:=true) (hsb _)
  refine⟨ext H [⟨e,true,bytesV s.data.toList⟩],?_,⟨by omega,hone,.inr ⟨h0,x,rfl,?_,by rw[ext_next,hx]; simp⟩⟩,fun hok=>Mod.ext hok,by rw[ext_next,hx]; rfl⟩
  ·simp only[aBuiltin,aAppend,hu,hsz,hby,hz,hi,zA1,zA3,lenV,hfs,hbl,hzl,zC3,hsm,zC2,and_self,if_true,aAppend2]
   rw[if_neg (by omega)]
   simp only[hf0,zA3,zC5,Nat.zero_mul,List.all_nil,hone,decide_true,zD6,if_true,zD4]
   rw[show aNew H e (bytesV s.data.toList) true=aNew (ext H []) e (bytesV s.data.toList) true from rfl,hn,hx]
   rfl
  ·rw[show x=x+0 from rfl,bk_at hx (by simp)]; rfl
 ·obtain⟨rv,hcm,hrn⟩:=cells_of_bk hm
  have hop:=isOpen_bk hm
  have hf:=first_bk (sz:=1) (cnt:=cnt) (off:=0) (len:=cnt) (cap:=cnt) (s:=none) hm (by simp only; omega)
  simp only[List.drop_zero]at hf
  rw[zD9 (by omega)]at hf
  have hn:=new_ext (H:=dp H m) (L:=[]) (e:=e) (l:=vs++bytesV s.data.toList) (o:=true) (by rw[dp_next]; exact scbL_append (by simpa using hsc) (hsb _))
  have mD:Mod (idsV (.slice (some ⟨m,0,none⟩) cnt cnt)) H (dp H m):=Mod.upd (by simp[idsV])
  refine⟨ext (dp H m) [⟨e,true,vs++bytesV s.data.toList⟩],?_,⟨by rw[zB2,h1,hbl,Nat.add_mul]; omega,by rw[List.all_append,h2,hone]; rfl,.inr ⟨by omega,x,rfl,?_,by rw[ext_next,dp_next,hx]; simp⟩⟩,fun hok=>mD.trans (Mod.ext (mD.ok hok)),by rw[ext_next,dp_next,hx]; rfl⟩
  ·simp only[aBuiltin,aAppend,hu,hsz,hby,hz,hi,zA1,zA3,lenV,hfs,hbl,hzl,hsm,zC2,and_self,if_true,aAppend2]
   rw[if_neg (by omega)]
   rw[zC2]at h1
   simp only[hf,zA3,h1,h2,hone,decide_true,zD6,if_true,exactAp,exactAt,hop,zA5,Bool.not_true,hcm,zC2]
   rw[if_pos ⟨trivial,by rw[zD7,hrn]; simp only; omega⟩]
   rw[show H.upd m none=ext (dp H m) [] from rfl,hn,hx]
   rfl
  ·rw[show x=x+0 from rfl,bk_at (show (dp H m).next=x from hx) (by simp)]; rfl
theorem w_noEsc {ops:Array Oper} {rest:List Oper} {d:Nat} {ty:TypeId} {pos:String} {after:Array Edge} {Q:Exit→AAct→AHeap→Prop} {g:FuncId} {x:Operand} {a:Addr} {ts:Array TypeId} (hx:opOk P N x=true) (hg:isExt P g "internal/abi.NoEscape" = true) (hb:hasBody P g=false) (hv:opv E x=.pointer (some a)) (hd:d<N) :
  wpOps P ro ops (⟨some d,.call ⟨.value (.func g),⟨[x]⟩,ts⟩,ty,pos,after,none⟩::rest) (mkA N E ds) H Q=wpOps P ro ops rest (mkA N (upd E d (.pointer (some a))) ds) H Q:=by
 have hl:afL [Value.pointer (some a)]=false:=rfl
 have ha:[x].all (opOk P N)=true:=by simp[hx]
 rw[w_op rfl rfl]
 simp only[opA,aop,xCall,aevals_opv ha,aeval,zB4,zE3,hv,zA1,zA3,callV,aInvoke,enterN,hb,zC0,if_false,Option.map_none,externV,hl,externW,hg,if_true,nextA,opC,put_some N E ds d _ hd]
end
end Go.Ax
namespace Go.Proofs.YtnigelgcjfhghaaGreatDoor
open Go.Ax
set_option maxRecDepth 100000
theorem u108:Tryz.prog.underlying 108=some (.pointer 110):=by kernel_rfl
theorem u169:Tryz.prog.underlying 169=some .unsafePointer:=by kernel_rfl
theorem s110:szOf Tryz.prog 110=some 2:=by kernel_rfl
theorem cv_un {G:AHeap} {n:Nat} {a b:Value} (hb:bk G n=some ⟨110,false,[a,b]⟩):aConvert Tryz.prog G 108 169 (.pointer (some ⟨n,0,none⟩))=some (.pointer (some ⟨n,0,none⟩),G):=by
 obtain⟨rv,h1,h2,h3⟩:=rk_blk (rk_of hb)
 simp only[aConvert,u108,u169,s110,h1,zA1,zA3]
 rw[if_pos (by rw[h2]; rfl)]
theorem cv_nu {G:AHeap} {n:Nat} {a b:Value} (hb:bk G n=some ⟨110,false,[a,b]⟩):aConvert Tryz.prog G 169 108 (.pointer (some ⟨n,0,none⟩))=some (.pointer (some ⟨n,0,none⟩),G):=by
 obtain⟨rv,h1,h2,h3⟩:=bk_blk hb
 obtain⟨c0,f0,hg⟩:=cellsAt_get h1
 simp only[aConvert,u108,u169,s110,hg,zA1,zA3]
 rw[if_pos (by rw[h2]; rfl)]
theorem pe108 {G:AHeap} {n:Nat} {a b:Value} (hb:bk G n=some ⟨110,false,[a,b]⟩):aBin Tryz.prog G .neq 108 (.pointer (some ⟨n,0,none⟩)) (.pointer (some ⟨n,0,none⟩))=some (.bool false):=by
 rw[aBin_ptr (b1:=⟨110,false,[a,b]⟩) (b2:=⟨110,false,[a,b]⟩) (by kernel_rfl) hb hb rfl rfl]
 rw[addr_beq]
 simp[eqOp]
structure BldAt (H:AHeap) (n:Nat) (v:Value) (l:List UInt8):Prop where
 bk:∃ a,(a=none∨a=some ⟨n,0,none⟩)∧bk H n=some ⟨110,false,[.pointer a,v]⟩
 lt:n<H.next
 vs:VsAt H 5 1 v (bv l) l.length
 ne:n∉idsV v
theorem BldAt.of {H G:AHeap} {n:Nat} {v:Value} {l:List UInt8} (h:BldAt H n v l) (hn:H.next≤G.next) (hg:∀ m,m=n∨m∈idsV v→G.get m=H.get m):BldAt G n v l:=by
 obtain⟨⟨a,h1,h2⟩,h3,h4,h5⟩:=h
 exact⟨⟨a,h1,(bk_get (hg n (.inl rfl))).trans h2⟩,by omega,h4.of hn fun m hm=>hg m (.inr hm),h5⟩
theorem BldAt.mod0 {H G:AHeap} {n:Nat} {v:Value} {l:List UInt8} (h:BldAt H n v l) (m:Mod [] H G):BldAt G n v l :=
 h.of m.next fun k hk=>m.get k (hk.elim (fun e=>e▸h.lt) fun hk=>(h.vs.ne k hk).2) (by simp)
theorem copyCheck_c (H:AHeap) {n:Nat} {v:Value} {l:List UInt8} (h:BldAt H n v l) (hok:H.base≤H.next):CallA Tryz.prog 86 [.pointer (some ⟨n,0,none⟩)] H (fun out X=>out=.ok (.tuple #[])∧Mod [n] H X∧X.next=H.next∧bk X n=some ⟨110,false,[.pointer (some ⟨n,0,none⟩),v]⟩):=by
 obtain⟨⟨a,ha,hb⟩,hlt,hv,hne⟩:=h
 obtain⟨b,hbn⟩:∃ b,H.next=b:=⟨_,rfl⟩
 rw[hbn]at hlt
 have hbase:H.base≤b:=hbn▸hok
 have hx:isExt Tryz.prog 112 "internal/abi.NoEscape" = true:=by kernel_rfl
 have hnb:hasBody Tryz.prog 112=false:=by kernel_rfl
 refine callE_fn mixed Tryz.func86 rfl Tryz.ntmps86 (zB5 rfl) ?_
 rcases ha with rfl|rfl
 ·have c1:aConvert Tryz.prog (ext H []) 108 169 (.pointer (some ⟨n,0,none⟩))=some (.pointer (some ⟨n,0,none⟩),ext H []):=cv_un hb
  have c2:aConvert Tryz.prog (ext H []) 169 108 (.pointer (some ⟨n,0,none⟩))=some (.pointer (some ⟨n,0,none⟩),ext H []):=cv_nu hb
  simp (maxDischargeDepth:=6) only[hbn,hbase,hb,hlt,w_convert,c1,ruW,putL,Nat.reduceLeDiff,xF,ruU,entryE,Nat.reduceLT,Nat.reduceAdd,Nat.reduceMul,Nat.reduceEqDiff]
  rw[w_noEsc (a:=⟨n,0,none⟩) (by simp only[ruU,entryE,Nat.reduceLT,Nat.reduceAdd,Nat.reduceMul,Nat.reduceEqDiff]) hx hnb (by simp only[ruU,entryE,Nat.reduceLT,Nat.reduceAdd,Nat.reduceMul,Nat.reduceEqDiff]) (by decide)]
  simp (maxDischargeDepth:=6) only[hbn,hbase,hb,hlt,w_convert,c2,Tryz.results86,ruW,putL,Nat.reduceLeDiff,xF,ruU,entryE,Nat.reduceLT,Nat.reduceAdd,Nat.reduceMul,Nat.reduceEqDiff]
  exact⟨trivial,Mod.uw (by simp),rfl,trivial⟩
 ·have hp:aBin Tryz.prog (ext H []) .neq 108 (.pointer (some ⟨n,0,none⟩)) (.pointer (some ⟨n,0,none⟩))=some (.bool false):=pe108 hb
  simp (maxDischargeDepth:=6) only[hbn,hbase,hb,hlt,hp,Tryz.results86,ruW,putL,Nat.reduceLeDiff,xF,ruU,entryE,Nat.reduceLT,Nat.reduceAdd,Nat.reduceMul,Nat.reduceEqDiff]
  exact⟨trivial,Mod.refl,rfl,trivial⟩
theorem writeString_c (H:AHeap) {n:Nat} {v:Value} {l w:List UInt8} (h:BldAt H n v l) (hw:w≠[]) (hl:l.length+w.length≤100000000) (hok:H.base≤H.next):CallA Tryz.prog 53 [.pointer (some ⟨n,0,none⟩),.string (bs w)] H (fun out X=>∃ v',out=.ok (.tuple #[.int .i64 (w.length:Int),.nilIface])∧BldAt X n v' (l++w)∧Mod (n::idsV v) H X∧∀ m∈idsV v',H.next≤m):=by
 obtain⟨b,hbn⟩:∃ b,H.next=b:=⟨_,rfl⟩
 have hbase:H.base≤b:=hbn▸hok
 have hwl:0<w.length:=List.length_pos_iff.2 hw
 refine callE_fn mixed Tryz.func53 rfl Tryz.ntmps53 (zB5 rfl) ?_
 simp (maxDischargeDepth:=6) only[ruW,putL,Nat.reduceLeDiff,xF,ruU,entryE,Nat.reduceLT,Nat.reduceAdd,Nat.reduceMul,Nat.reduceEqDiff]
 refine (copyCheck_c (ext H []) h hok).mono ?_
 rintro _ X ⟨rfl,m1,n1,k1⟩
 have hlt:=h.lt
 obtain⟨va,ev⟩:=h.vs.len
 have nX:X.next=b:=n1.trans hbn
 have xb:X.base≤b:=by have:=m1.ok hok; omega
 rw[hbn]at hlt
 have hvX:VsAt X 5 1 v (bv l) l.length:=h.vs.of m1.next fun q hq=>m1.get q (h.vs.ne q hq).2 (by simp only[zB0]; intro e; exact h.ne (e▸hq))
 obtain⟨G,e1,vG,mG,nG⟩:=app_str (P:=Tryz.prog) (H:=X) (st:=23) (xt:=9) (by1:=1) (z:=.int .u8 0) (x:=b) (s:=bs w) u23 s5 (by kernel_rfl) (by kernel_rfl) rfl (by kernel_rfl) hvX (by rw[bs_size]; exact hwl) (by rw[bs_size]; simp only[small,zA4,zD7]; omega) nX (by
  rw[scbL_iff]
  intro v' hv'
  obtain⟨w',_,rfl⟩:=zC8.1 hv'
  rfl)
 rw[bs_size]at e1 vG
 replace mG:=mG (by omega)
 have kG:bk G n=some ⟨110,false,[.pointer (some ⟨n,0,none⟩),v]⟩:=(mG.bk (by omega) h.ne).trans k1
 have gb:n<b+1:=by omega
 have hsv:scb (b+1) (.slice (some ⟨b,0,none⟩) (l.length+w.length) (l.length+w.length))=true:=by simp[scb]
 rw[show X=ext X [] from rfl]
 rw[ev]at k1 e1
 rw[ev]at kG
 replace e1:aBuiltin Tryz.prog (ext X []) .append ⟨[23,9]⟩ [.slice va l.length l.length,.string (bs w)]=some (.slice (some ⟨b,0,none⟩) (l.length+w.length) (l.length+w.length),ext G []):=e1
 have hnX:n<b:=hlt
 simp (maxDischargeDepth:=6) only[nX,xb,hnX,k1,e1,kG,nG,gb,hsv,rb_lenStr u9,bt_lenStr u9,bs_size,Tryz.results53,ruW,putL,Nat.reduceLeDiff,xF,ruU,entryE,Nat.reduceLT,Nat.reduceAdd,Nat.reduceMul,Nat.reduceEqDiff]
 have mm:Mod (n::idsV v) H G:=(m1.mono (by simp)).trans (mG.mono fun k hk=>zB6 _ hk)
 refine⟨.slice (some ⟨b,0,none⟩) (l.length+w.length) (l.length+w.length),trivial,⟨⟨_,.inr rfl,?_⟩,?_,?_,?_⟩,mm.trans (Mod.uw (by simp)),fun m hm=>?_⟩
 ·rw[ext_nil,bk_uw_eq,kG]
  rfl
 ·rw[ext_nil,uw_next,nG]
  exact gb
 ·have e2:bytesV (bs w).data.toList=bv w:=rfl
  rw[e2]at vG
  have e3:bv l++bv w=bv (l++w):=by simp[bv]
  rw[e3]at vG
  rw[zB2]
  exact vG.of (by rw[ext_nil,uw_next]; exact zA9 _) fun q hq=>uw_get (by simp only[idsV,zB0]at hq; omega)
 ·simp only[idsV,zB0]
  omega
 ·simp only[idsV,zB0]at hm
  omega
theorem writeByte_c (H:AHeap) {n:Nat} {v:Value} {l:List UInt8} (c:UInt8) (h:BldAt H n v l) (hl:l.length≤100000000) (hok:H.base≤H.next):CallA Tryz.prog 54 [.pointer (some ⟨n,0,none⟩),.int .u8 (c.toNat:Int)] H (fun out X=>∃ v',out=.ok .nilIface∧BldAt X n v' (l++[c])∧Mod (n::idsV v) H X∧∀ m∈idsV v',H.next≤m):=by
 obtain⟨b,hbn⟩:∃ b,H.next=b:=⟨_,rfl⟩
 have hbase:H.base≤b:=hbn▸hok
 refine callE_fn mixed Tryz.func54 rfl Tryz.ntmps54 (zB5 rfl) ?_
 simp (maxDischargeDepth:=6) only[ruW,putL,Nat.reduceLeDiff,xF,ruU,entryE,Nat.reduceLT,Nat.reduceAdd,Nat.reduceMul,Nat.reduceEqDiff]
 refine (copyCheck_c (ext H []) h hok).mono ?_
 rintro _ X ⟨rfl,m1,n1,k1⟩
 have hlt:=h.lt
 obtain⟨va,ev⟩:=h.vs.len
 have nX:X.next=b:=n1.trans hbn
 have xb:X.base≤b:=by have:=m1.ok hok; omega
 rw[hbn]at hlt
 have hvX:VsAt X 5 1 v (bv l) l.length:=h.vs.of m1.next fun q hq=>m1.get q (h.vs.ne q hq).2 (by simp only[zB0]; intro e; exact h.ne (e▸hq))
 obtain⟨G,e1,vG,mG,nG⟩:=byte_app (X:=X) (v:=v) (l:=l) (ws:=[c]) (x:=b) hvX nX (by omega) (by simp) (by simp only[zB9]; omega)
 have kG:bk G n=some ⟨110,false,[.pointer (some ⟨n,0,none⟩),v]⟩:=(mG.bk (by omega) h.ne).trans k1
 have gb:n<b+2:=by omega
 have gb1:n<b+1:=by omega
 have hsv:scb (b+2) (.slice (some ⟨b+1,0,none⟩) (l.length+1) (l.length+1))=true:=by simp[scb]
 rw[show X=ext X [] from rfl]
 rw[ev]at k1 e1
 rw[ev]at kG
 replace e1:aBuiltin Tryz.prog (ext X [⟨5,false,[.int .u8 (c.toNat:Int)]⟩]) .append ⟨[23,23]⟩ [.slice va l.length l.length,.slice (some ⟨b+0,0,some 0⟩) 1 1]=some (.slice (some ⟨b+1,0,none⟩) (l.length+1) (l.length+1),ext G []):=e1
 simp (maxDischargeDepth:=6) only[nX,xb,hlt,gb1,k1,e1,kG,nG,gb,hsv,Tryz.results54,ruW,putL,Nat.reduceLeDiff,xF,ruU,entryE,Nat.reduceLT,Nat.reduceAdd,Nat.reduceMul,Nat.reduceEqDiff]
 have mm:Mod (n::idsV v) H G:=(m1.mono (by simp)).trans (mG.mono fun k hk=>zB6 _ hk)
 refine⟨.slice (some ⟨b+1,0,none⟩) (l.length+1) (l.length+1),trivial,⟨⟨_,.inr rfl,?_⟩,?_,?_,?_⟩,mm.trans (Mod.uw (by simp)),fun m hm=>?_⟩
 ·rw[ext_nil,bk_uw_eq,kG]
  rfl
 ·rw[ext_nil,uw_next,nG]
  exact gb
 ·exact vG.of (by rw[ext_nil,uw_next]; exact zA9 _) fun q hq=>uw_get (by simp only[idsV,zB0]at hq; omega)
 ·simp only[idsV,zB0]
  omega
 ·simp only[idsV,zB0]at hm
  omega
end Go.Proofs.YtnigelgcjfhghaaGreatDoor
namespace Go.Ax
section
variable {P : Program} {H : AHeap} {N : Nat} {E : Env} {ds : List Deferred} {ops : Array Oper} {anc : List Nat} {rest : List Oper} {d i : Nat} {fps : List Fp} {ty : TypeId} {pos : String} {after : Array Edge} {Q : AAct → AHeap → Prop}
theorem wd_usd {x:Operand} {v w:Value} {ts:Array TypeId} (hx:opOk P N x=true) (hv:opv E x=w) (hs:aSliceData w=some v) (hd:d<N) (hm:∀ r∈fps,Meets (anc.getD i 0) [] [] (idsV v++([]:List Bl).flatMap fun x=>idsL x.l) r)
  (h:wkD P ops anc rest (i+1) (⟨i,[],[],H.next,H.next+0⟩::fps) (mkA N (upd E d v) ds) H Q):wkD P ops anc (⟨some d,.call ⟨.builtin .unsafeSliceData,⟨[x]⟩,ts⟩,ty,pos,after,none⟩::rest) i fps (mkA N E ds) H Q:=by
 have ha:[x].all (opOk P N)=true:=by simp[hx]
 have e:wkD P ops anc (⟨some d,.call ⟨.builtin .unsafeSliceData,⟨[x]⟩,ts⟩,ty,pos,after,none⟩::rest) i fps (mkA N E ds) H Q=genV P ops anc ⟨some d,.call ⟨.builtin .unsafeSliceData,⟨[x]⟩,ts⟩,ty,pos,after,none⟩ rest i fps (mkA N E ds) H Q:=by
  simp only[wkD,wantA,stepD,pureOp,restD,newOp,genV,aevals_opv ha,btD,regBt]
 rw[e]
 refine genV_val (v:=v) rfl hd (fun G=>?_) hm h
 simp only[aop,xCall,aevals_opv ha,zB4,zE3,hv,zA1,zA3,aBuiltin,hs,zA5,rvh]
theorem wd_ustr0 {x y:Operand} {ts:Array TypeId} {t:TypeId} {tr:List TypeId} (hts:ts=⟨t::tr⟩) (hx:opOk P N x=true) (hy:opOk P N y=true) (hv:opv E x=.pointer none) (hw:opv E y=.int .i64 0) (hd:d<N)
  (hm:∀ r∈fps,Meets (anc.getD i 0) [] [] (idsV (.string .empty)++([]:List Bl).flatMap fun x=>idsL x.l) r)
  (h:wkD P ops anc rest (i+1) (⟨i,[],[],H.next,H.next+0⟩::fps) (mkA N (upd E d (.string .empty)) ds) H Q):wkD P ops anc (⟨some d,.call ⟨.builtin .unsafeString,⟨[x,y]⟩,ts⟩,ty,pos,after,none⟩::rest) i fps (mkA N E ds) H Q:=by
 subst hts
 have ha:[x,y].all (opOk P N)=true:=by simp[hx,hy]
 have e:wkD P ops anc (⟨some d,.call ⟨.builtin .unsafeString,⟨[x,y]⟩,⟨t::tr⟩⟩,ty,pos,after,none⟩::rest) i fps (mkA N E ds) H Q=genV P ops anc ⟨some d,.call ⟨.builtin .unsafeString,⟨[x,y]⟩,⟨t::tr⟩⟩,ty,pos,after,none⟩ rest i fps (mkA N E ds) H Q:=by
  simp only[wkD,wantA,stepD,pureOp,restD,newOp,genV,aevals_opv ha,btD,regBt]
 rw[e]
 refine genV_val (v:=.string .empty) rfl hd (fun G=>?_) hm h
 simp only[aop,xCall,aevals_opv ha,zB4,zE3,hv,hw,zA1,zA3,aBuiltin,aUnsafeStr,rvh,zA5]
theorem bytes_bv:∀ l:List UInt8,bytesOfCells (l.map fun b=>Value.int .u8 (b.toNat:Int))=some l
 |[]=>rfl
 |c::r=>by
  rw[zB4,bytesOfCells,bytes_bv r,zA5,zD0]
  congr 2
  exact UInt8.toNat_inj.1 (by rw[show (UInt8.ofNat c.toNat).toNat=c.toNat % 256 from UInt8.toNat_ofNat' ..]; have:=c.toNat_lt; omega)
theorem ustr_op {G:AHeap} {m:Nat} {l:List UInt8} {pt e:TypeId} {rest:List TypeId} (h1:P.underlying pt=some (.pointer e)) (h2:P.underlying e=some (.int .u8)) (h3:szOf P e=some 1) (hb:bk G m=some ⟨e,true,l.map fun b=>.int .u8 (b.toNat:Int)⟩) (h0:l≠[]) (hl:l.length<1000000000) :
  ∃ G',aBuiltin P G .unsafeString ⟨pt::rest⟩ [.pointer (some ⟨m,0,none⟩),.int .i64 (l.length:Int)]=some (.string ⟨l.toArray⟩,G')∧Mod [m] G G'∧G'.next=G.next:=by
 obtain⟨rv,c1,c2,c3⟩:=bk_blk hb
 obtain⟨c0,f0,hg⟩:=cellsAt_get c1
 simp only[zB7]at c2 c3
 have hlp:0<l.length:=List.length_pos_iff.2 h0
 have hgets:rv.gets 0 l.length=l.map fun b=>.int .u8 (b.toNat:Int):=by
  rw[Blk.gets (l:=l.map fun b=>Value.int .u8 (b.toNat:Int)) (by rw[zB7]; exact c2) (by rw[zB7]; exact c3) 0 l.length (by rw[zB7]; omega),List.drop_zero]
  exact zD9 (by rw[zB7]; omega)
 refine⟨G.upd m (some ⟨.cells c0 e (1,f0),true,rv⟩),?_,Mod.upd (by simp),rfl⟩
 simp only[aBuiltin,aUnsafeStr,h1,h2,h3,hg,zA1,zA3,zD0]
 rw[if_neg (by omega),if_pos ⟨trivial,by omega,by omega,by rw[zD7]; omega⟩,hgets,bytes_bv]
 rfl
theorem wd_ustr {x y:Operand} {l:List UInt8} {m:Nat} {pt e:TypeId} {tr:List TypeId} (h1:P.underlying pt=some (.pointer e)) (h2:P.underlying e=some (.int .u8)) (h3:szOf P e=some 1) (hx:opOk P N x=true) (hy:opOk P N y=true) (hv:opv E x=.pointer (some ⟨m,0,none⟩)) (hw:opv E y=.int .i64 (l.length:Int)) (hd:d<N)
  (hb:bk H m=some ⟨e,true,l.map fun b=>.int .u8 (b.toNat:Int)⟩) (h0:l≠[]) (hl:l.length<1000000000) (hn:m<H.next) (hok:H.base≤H.next)
  (hm:∀ r∈fps,(anc.getD i 0).testBit r.i=true∨(r.hi≤r.lo∧(∀ n∈r.W,n∉[m])∧(∀ n∈r.F,n∉[m])))
  (h:∀ Z D,Mod [m] H Z→Z.next=H.next→(∀ n∈D,n∈[m])→wkD P ops anc rest (i+1) (⟨i,[m],D,H.next,H.next⟩::fps) (mkA N (upd E d (.string ⟨l.toArray⟩)) ds) Z Q) :
  wkD P ops anc (⟨some d,.call ⟨.builtin .unsafeString,⟨[x,y]⟩,⟨pt::tr⟩⟩,ty,pos,after,none⟩::rest) i fps (mkA N E ds) H Q:=by
 have ha:[x,y].all (opOk P N)=true:=by simp[hx,hy]
 have e0:wkD P ops anc (⟨some d,.call ⟨.builtin .unsafeString,⟨[x,y]⟩,⟨pt::tr⟩⟩,ty,pos,after,none⟩::rest) i fps (mkA N E ds) H Q=genV P ops anc ⟨some d,.call ⟨.builtin .unsafeString,⟨[x,y]⟩,⟨pt::tr⟩⟩,ty,pos,after,none⟩ rest i fps (mkA N E ds) H Q:=by
  simp only[wkD,wantA,stepD,pureOp,restD,newOp,genV,aevals_opv ha,btD,regBt]
 rw[e0]
 have hrn:=restrict_next H [m]
 obtain⟨G,k1,k2,k3⟩:=ustr_op (P:=P) (G:=H.restrict [m]) (rest:=tr) h1 h2 h3 ((bk_get (by rw[restrict_get,if_pos (by simp)])).trans hb) h0 hl
 refine genV_modO (H:=H) (W:=[m]) [m] hok (fun k hk=>by simp only[zB0]at hk; rw[hk]; exact bk_ne hb) (fun k hk=>by simp only[zB0]at hk; omega) (fun k hk=>hk) (builtin_op (v:=.string ⟨l.toArray⟩) (G:=G) ha (by simp only[zB4,zE3,hv,hw]; exact k1)) k2 hm fun Z D mZ _ _ hnZ hDZ=>?_
 rw[k3,hrn.1]at hnZ
 have:=h Z D mZ hnZ hDZ
 rw[k3,hrn.1]
 simp only[put_some N E ds d _ hd]
 exact this
end
end Go.Ax
namespace Go.Proofs.YtnigelgcjfhghaaGreatDoor
open Go.Ax
set_option maxRecDepth 100000
theorem sd_some {m n:Nat} (h:0<n):aSliceData (.slice (some ⟨m,0,none⟩) n n)=some (.pointer (some ⟨m,0,none⟩)):=by
 obtain⟨k,rfl⟩:∃ k,n=k+1:=⟨n-1,by omega⟩
 rfl
theorem string_c (H:AHeap) {n:Nat} {v:Value} {l:List UInt8} (h:BldAt H n v l) (hl:l.length≤100000000) (hok:H.base≤H.next):CallA Tryz.prog 56 [.pointer (some ⟨n,0,none⟩)] H (fun out X=>out=.ok (.string (bs l))∧Mod (idsV v) H X):=by
 obtain⟨⟨a,ha,hb⟩,hlt,hv,hne⟩:=h
 obtain⟨b,hbn⟩:∃ b,H.next=b:=⟨_,rfl⟩
 rw[hbn]at hlt
 have hbase:H.base≤b:=hbn▸hok
 refine callE_fn mixed Tryz.func56 rfl Tryz.ntmps56 (zB5 rfl) ?_
 obtain⟨h1,h2,⟨h0,rfl⟩|⟨h0,m,rfl,hm,hml⟩⟩:=hv
 ·have:l=[]:=zE7 h0
  subst this
  simp (maxDischargeDepth:=6) only[hbn,hbase,hb,hlt,ruW,putL,Nat.reduceLeDiff,xF,ruU,entryE,Nat.reduceLT,Nat.reduceAdd,Nat.reduceMul,Nat.reduceEqDiff]
  refine w_drawB [] [] (by kernel_rfl) (by kernel_rfl) rfl fun ops anc hA hG=>?_
  simp (maxDischargeDepth:=6) only[hbn,hbase,hb,hlt,qk_old,ruD,ruW,putL,Nat.reduceLeDiff,xF,ruU,entryE,Nat.reduceLT,Nat.reduceAdd,Nat.reduceMul,Nat.reduceEqDiff]
  refine wd_usd (v:=.pointer none) (w:=.slice none 0 0) (by simp only[ruU,entryE,Nat.reduceLT,Nat.reduceAdd,Nat.reduceMul,Nat.reduceEqDiff]) (by simp only[ruU,entryE,Nat.reduceLT,Nat.reduceAdd,Nat.reduceMul,Nat.reduceEqDiff]) rfl (by decide) (by simp[Meets,idsV]) ?_
  simp (maxDischargeDepth:=6) only[hbn,hbase,hb,hlt,qk_old,ruD,ruW,putL,Nat.reduceLeDiff,xF,ruU,entryE,Nat.reduceLT,Nat.reduceAdd,Nat.reduceMul,Nat.reduceEqDiff]
  refine wd_ustr0 rfl (by simp only[ruU,entryE,Nat.reduceLT,Nat.reduceAdd,Nat.reduceMul,Nat.reduceEqDiff]) (by simp only[ruU,entryE,Nat.reduceLT,Nat.reduceAdd,Nat.reduceMul,Nat.reduceEqDiff]) (by simp only[ruU,entryE,Nat.reduceLT,Nat.reduceAdd,Nat.reduceMul,Nat.reduceEqDiff]) (by simp only[ruU,entryE,Nat.reduceLT,Nat.reduceAdd,Nat.reduceMul,Nat.reduceEqDiff]<;>rfl) (by decide) (by simp[Meets,idsV]) ?_
  simp (maxDischargeDepth:=6) only[hbn,hbase,hb,hlt,qk_old,Tryz.results56,ruD,ruW,putL,Nat.reduceLeDiff,xF,ruU,entryE,Nat.reduceLT,Nat.reduceAdd,Nat.reduceMul,Nat.reduceEqDiff]
  exact⟨rfl,Mod.refl⟩
 ·rw[hbn]at hml
  simp (maxDischargeDepth:=6) only[hbn,hbase,hb,hlt,ruW,putL,Nat.reduceLeDiff,xF,ruU,entryE,Nat.reduceLT,Nat.reduceAdd,Nat.reduceMul,Nat.reduceEqDiff]
  refine w_drawB [] [] (by kernel_rfl) (by kernel_rfl) rfl fun ops anc hA hG=>?_
  simp (maxDischargeDepth:=6) only[hbn,hbase,hb,hlt,qk_old,ruD,ruW,putL,Nat.reduceLeDiff,xF,ruU,entryE,Nat.reduceLT,Nat.reduceAdd,Nat.reduceMul,Nat.reduceEqDiff]
  refine wd_usd (v:=.pointer (some ⟨m,0,none⟩)) (w:=.slice (some ⟨m,0,none⟩) l.length l.length) (by simp only[ruU,entryE,Nat.reduceLT,Nat.reduceAdd,Nat.reduceMul,Nat.reduceEqDiff]) (by simp only[ruU,entryE,Nat.reduceLT,Nat.reduceAdd,Nat.reduceMul,Nat.reduceEqDiff]) (sd_some h0) (by decide) (by simp[Meets,idsV]) ?_
  simp (maxDischargeDepth:=6) only[hbn,hbase,hb,hlt,qk_old,ruD,ruW,putL,Nat.reduceLeDiff,xF,ruU,entryE,Nat.reduceLT,Nat.reduceAdd,Nat.reduceMul,Nat.reduceEqDiff]
  refine wd_ustr (l:=l) (m:=m) (e:=5) (by kernel_rfl) (by kernel_rfl) s5 (by simp only[ruU,entryE,Nat.reduceLT,Nat.reduceAdd,Nat.reduceMul,Nat.reduceEqDiff]) (by simp only[ruU,entryE,Nat.reduceLT,Nat.reduceAdd,Nat.reduceMul,Nat.reduceEqDiff]) (by simp only[ruU,entryE,Nat.reduceLT,Nat.reduceAdd,Nat.reduceMul,Nat.reduceEqDiff]) (by simp only[ruU,entryE,Nat.reduceLT,Nat.reduceAdd,Nat.reduceMul,Nat.reduceEqDiff]) (by decide) hm (List.length_pos_iff.1 h0) (by omega) (by rw[ext_nil,hbn]; exact hml) hok ?_ fun Z D mZ nZ hD=>?_
  ·have hnm:n≠m:=fun e=>hne (by simp[idsV,e])
   intro r hr
   simp only[zB1,List.not_mem_nil,or_false]at hr
   rcases hr with rfl|rfl|rfl<;>exact .inr ⟨zA9 _,by simp,by simp[hnm]⟩
  ·rw[show Z=ext Z [] from rfl]
   simp (maxDischargeDepth:=6) only[qk_old,Tryz.results56,ruD,ruW,putL,Nat.reduceLeDiff,xF,ruU,entryE,Nat.reduceLT,Nat.reduceAdd,Nat.reduceMul,Nat.reduceEqDiff]
   exact mZ
set_option maxRecDepth 100000
def encL (ls:List Ins):List UInt8:=ls.flatMap encB
theorem encL_append (a b:List Ins):encL (a++b)=encL a++encL b:=by simp[encL]
def EncOut (H:AHeap) (ls:List Ins) (out:Out) (X:AHeap):Prop :=
 match encBad 0 ls with
 |some (e,i)=>out=.ok (.tuple #[.slice none 0 0,fltV e i])
 |none=>if 60000<(encL ls).length then out=.ok (.tuple #[.slice none 0 0,fltV 4 (ls.length:Int)]) else ∃ bs,out=.ok (.tuple #[bs,fltV 0 0])∧VsAt X 5 1 bs (bv (encL ls)) (encL ls).length∧∀ n∈idsV bs,H.next≤n
theorem encL_take {ls:List Ins} {i:Nat} {x:Ins} (h:ls[i]?=some x):encL (ls.take (i+1))=encL (ls.take i)++encB x:=by
 rw[List.take_add_one,h]
 simp[encL]
theorem encL_mono {ls:List Ins} (i:Nat):(encL (ls.take i)).length≤(encL ls).length:=by
 have:encL ls=encL (ls.take i)++encL (ls.drop i):=by rw[←encL_append,List.take_append_drop]
 rw[this,zB2]
 omega
theorem encodable_c (H:AHeap) (pos op:Int) (av:Value) (args:List Int) (ha:RdAt H 1 av (iv args) args.length) (hlen:args.length≤1000000):Pure 58 [.agg ⟨[.int .i64 pos,.int .i64 op,av]⟩] H (.int .i64 (encA op args)):=by
 by_cases h:op<0∨28≤op
 ·obtain⟨a,c,rfl⟩:=ha.sl
  rw[encA,if_pos h]
  exact encodable_bad H pos op a args.length c h
 ·obtain⟨k,rfl⟩:∃ k:Nat,op=k:=⟨op.toNat,by omega⟩
  exact encodable_ok H pos k av args (by omega) ha hlen
theorem encode_c (H:AHeap) (v:Value) (ls:List Iv) (hi:InsRd H v ls) (hok:H.base≤H.next) (hl:ls.length≤1000000) (hn:∀ x∈ls,x.1.args.length≤1000000) (hb:(encL (ls.map (·.1))).length≤100000000) :
  CallA Tryz.prog 30 [v] H (fun out X=>EncOut H (ls.map (·.1)) out X∧Mod [] H X):=by
 obtain⟨a0,c0,e0⟩:=hi.rd.sl
 obtain⟨b,hbn⟩:∃ b,H.next=b:=⟨_,rfl⟩
 have hbase:H.base≤b:=hbn▸hok
 refine callE_fn mixed Tryz.func30 rfl Tryz.ntmps30 (zB5 rfl) ?_
 rw[e0]
 simp (maxDischargeDepth:=6) only[hbn,hbase,ruW,putL,Nat.reduceLeDiff,xF,ruU,entryE,Nat.reduceLT,Nat.reduceAdd,Nat.reduceMul,Nat.reduceEqDiff]
 rw[←e0]
 refine w_env fun E hE=>?_
 have g0:E 0=v:=by rw[hE,e0]; simp only[ruU,entryE,Nat.reduceLT,Nat.reduceAdd,Nat.reduceMul,Nat.reduceEqDiff]
 have g2:E 2=.slice none 0 0:=by rw[hE]; simp only[ruU,entryE,Nat.reduceLT,Nat.reduceAdd,Nat.reduceMul,Nat.reduceEqDiff]
 have g3:E 3=.pointer (some ⟨b+0,0,none⟩):=by rw[hE]; simp only[ruU,entryE,Nat.reduceLT,Nat.reduceAdd,Nat.reduceMul,Nat.reduceEqDiff]
 have g4:E 4=.slice none 0 0:=by rw[hE]; simp only[ruU,entryE,Nat.reduceLT,Nat.reduceAdd,Nat.reduceMul,Nat.reduceEqDiff]
 have g10:E 10=v:=by rw[hE,e0]; simp only[ruU,entryE,Nat.reduceLT,Nat.reduceAdd,Nat.reduceMul,Nat.reduceEqDiff]
 have g11:E 11=.int .i64 (ls.length:Int):=by rw[hE]; simp only[ruU,entryE,Nat.reduceLT,Nat.reduceAdd,Nat.reduceMul,Nat.reduceEqDiff]
 have g12:E 12=.int .i64 ((0:Nat):Int):=by rw[hE]; (simp only[ruU,entryE,Nat.reduceLT,Nat.reduceAdd,Nat.reduceMul,Nat.reduceEqDiff]<;>rfl)
 clear hE
 generalize hX0:ext H _=X0
 have m0:Mod [] H X0:=hX0▸Mod.ext hok
 have n0:b+1≤X0.next:=by rw[←hX0,ext_next,hbn]; simp
 have k0:bk X0 (b+0)=some ⟨26,false,[.int .i64 0,.int .i64 0]⟩:=by rw[←hX0,bk_at hbn (by simp)]; rfl
 clear hX0
 refine w_loop (fun (z:Nat × Value) E' X=>Mod [] H X∧b+1≤X.next∧bk X (b+0)=some ⟨26,false,[.int .i64 0,.int .i64 0]⟩∧VsAt X 5 1 z.2 (bv (encL ((ls.map (·.1)).take z.1))) (encL ((ls.map (·.1)).take z.1)).length∧(∀ n∈idsV z.2,b+1≤n)∧z.1≤ls.length∧(∀ i,i<z.1→∀ x:Ins,(ls.map (·.1))[i]?=some x→encA x.op x.args=0)∧E' 0=v∧E' 2=.slice none 0 0∧E' 3=.pointer (some ⟨b+0,0,none⟩)∧E' 4=z.2∧E' 10=v∧E' 11=.int .i64 (ls.length:Int)∧E' 12=.int .i64 (z.1:Int)) (fun z=>ls.length-z.1) (0,.slice none 0 0)
  ⟨m0,n0,k0,VsAt.nil,fun n hn=>by simp[idsV]at hn,zB3 _,fun i hi=>absurd hi (by simp),g0,g2,g3,g4,g10,g11,g12⟩ ?_
 clear g0 g2 g3 g4 g10 g11 g12 m0 n0 k0 X0 E
 rintro⟨i,ov⟩ E X ⟨m,nx,k,ho,hoi,hil,hgood,g0,g2,g3,g4,g10,g11,g12⟩
 simp only at ho hoi hil hgood g4 g12
 obtain⟨x,hx⟩:∃ x,X.next=x:=⟨_,rfl⟩
 have hxb:X.base≤x:=hx▸m.ok hok
 rw[hx]at nx
 have hbx:b+0<x:=by omega
 obtain⟨oa,eo⟩:=ho.len
 rw[show X=ext X [] from rfl]
 by_cases hie:i=ls.length
 ·have hd:decide ((i:Int)<(ls.length:Int))=false:=decide_eq_false (by omega)
  have htk:(ls.map (·.1)).take i=ls.map (·.1):=zD9 (by rw[zB7]; omega)
  rw[htk]at ho eo
  have hnone:encBad 0 (ls.map (·.1))=none:=encBad_at fun j y hy=>hgood j (by have:=(List.getElem?_eq_some_iff.1 hy).1; rw[zB7]at this; omega) y hy
  obtain⟨d,hd2⟩:∃ d,decide ((60000:Int)<((encL (ls.map (·.1))).length:Int))=d:=⟨_,rfl⟩
  rw[eo]at g4
  rw[e0]at g0
  have mU:∀ vs,Mod [] H (uw X (b+0) 0 vs):=fun vs=>m.step (W':=[b+0]) (Mod.uw (by simp)) hok fun n hn=>by simp only[zB0]at hn; exact .inr (by omega)
  cases d with
  |true =>
   have:=of_decide_eq_true hd2
   simp (maxDischargeDepth:=6) only[g0,g2,g3,g4,g10,g11,g12,hd,hd2,hx,hxb,hbx,k,Tryz.results30,ruW,putL,Nat.reduceLeDiff,xF,ruU,entryE,Nat.reduceLT,Nat.reduceAdd,Nat.reduceMul,Nat.reduceEqDiff]
   refine⟨?_,mU _⟩
   simp only[EncOut,hnone]
   rw[if_pos (by omega),zB7]
  |false =>
   have:=of_decide_eq_false hd2
   simp (maxDischargeDepth:=6) only[g0,g2,g3,g4,g10,g11,g12,hd,hd2,hx,hxb,hbx,k,Tryz.results30,ruW,putL,Nat.reduceLeDiff,xF,ruU,entryE,Nat.reduceLT,Nat.reduceAdd,Nat.reduceMul,Nat.reduceEqDiff]
   refine⟨?_,mU _⟩
   simp only[EncOut,hnone]
   rw[if_neg (by omega)]
   rw[←eo]
   refine⟨_,rfl,?_,fun n hn=>by have:=hoi n hn; omega⟩
   rw[ext_nil]
   exact ho.of (by rw[uw_next]; exact zA9 _) fun n hn=>uw_get (by have:=hoi n hn; omega)
 ·have hil':i<ls.length:=by omega
  have hd:decide ((i:Int)<(ls.length:Int))=true:=decide_eq_true (by omega)
  obtain⟨y,hy⟩:∃ y,ls[i]?=some y:=⟨_,zA6 hil'⟩
  have hym:y∈ls:=zE2 hy
  obtain⟨n,off,s,c,e,o,M,e1,n1,r1,ia,ld⟩:=(hi.mod0 m).one hy
  have hyr:=(hi.mod0 m).av y hym
  have hys:=(hi.mod0 m).sc y hym
  have hyn:=hn y hym
  obtain⟨⟨pos,op,args⟩,av⟩:=y
  obtain⟨aa,ac,ea⟩:=hyr.sl
  simp only at hyr hys hyn ea
  rw[hx]at n1 hys
  simp only[ivV,ivC]at ld
  rw[ea]at ld hys
  simp (maxDischargeDepth:=6) only[g0,g2,g3,g4,g10,g11,g12,hd,hx,hxb,hbx,ia,r1,n1,ld,hys,qk_old,ruW,putL,Nat.reduceLeDiff,xF,ruU,entryE,Nat.reduceLT,Nat.reduceAdd,Nat.reduceMul,Nat.reduceEqDiff]
  generalize hX1:ext X _=X1
  have m1:Mod [] X X1:=hX1▸Mod.ext (by rw[hx]; exact hxb)
  have nx1:X1.next=x+1:=by rw[←hX1,ext_next,hx]; rfl
  have kx1:bk X1 (x+0)=some ⟨59,false,[.int .i64 pos,.int .i64 op,.slice aa args.length ac]⟩:=by rw[←hX1,bk_at hx (by simp)]; rfl
  clear hX1
  have kf1:bk X1 (b+0)=some ⟨26,false,[.int .i64 0,.int .i64 0]⟩:=(m1.bk (by omega) (by simp)).trans k
  have mm1:=m.trans m1
  have ho1:=ho.of (G:=X1) m1.next fun n hn=>m1.get n (ho.ne n hn).2 (by simp)
  have hyr1:=hyr.mod0 m1
  have xb1:X1.base≤x+1:=nx1▸mm1.ok hok
  rw[ea]at hyr1
  rw[show X1=ext X1 [] from rfl]
  refine (encodable_c (ext X1 []) pos op _ args hyr1 hyn).to ?_
  have hgx:(ls.map (·.1))[i]?=some ⟨pos,op,args⟩:=by rw[zE6,hy]; rfl
  by_cases hen:encA op args=0
  ·have hdz:decide (¬encA op args=0)=false:=decide_eq_false (by simp[hen])
   obtain⟨q0,q1,q2,q3⟩:=encA_ok hen
   have hxx:x+0<x+1:=by omega
   have hbx1:b+0<x+1:=by omega
   have hcv:∀ G:AHeap,aConvert Tryz.prog G 3 5 (.int .i64 op)=some (.int .u8 ((op.toNat.toUInt8).toNat:Int),G):=fun G=>by
    rw[cv_int (u:=.int .i64) (k:=.u8) (by kernel_rfl) (by kernel_rfl),byte_val q0 (by omega)]
   simp (maxDischargeDepth:=6) only[g0,g2,g3,g4,g10,g11,g12,hdz,nx1,xb1,hxx,hbx1,kx1,kf1,hcv,w_convert,ruW,putL,Nat.reduceLeDiff,xF,ruU,entryE,Nat.reduceLT,Nat.reduceAdd,Nat.reduceMul,Nat.reduceEqDiff]
   have hmono:=encL_mono (ls:=ls.map (·.1)) (i+1)
   rw[encL_take hgx,zB2]at hmono
   have hbl:(encB ⟨pos,op,args⟩).length=1+2*args.length:=by
    simp only[encB,zA7]
    have:∀ l:List Int,(l.flatMap fun a=>[a.toNat.toUInt8,(a.toNat / 256).toUInt8]).length=2*l.length:=fun l=>by
     induction l with
     |nil=>rfl
     |cons a r ih=>rw[zC9,zB2,ih]; simp only[zA7,zC5]; omega
    rw[this]
    omega
   rw[hbl]at hmono
   obtain⟨G,k1,vG,mG,nG⟩:=byte_app (X:=X1) (v:=ov) (ws:=[op.toNat.toUInt8]) (x:=x+1) ho1 nx1 (by rw[nx1]; exact xb1) (by simp) (by simp only[zB9]; omega)
   replace k1:aBuiltin Tryz.prog (ext X1 [⟨5,false,[.int .u8 ((op.toNat.toUInt8).toNat:Int)]⟩]) .append ⟨[23,23]⟩ [ov,.slice (some ⟨x+1+0,0,some 0⟩) 1 1]=some (.slice (some ⟨x+1+1,0,none⟩) ((encL ((ls.map (·.1)).take i)).length+1) ((encL ((ls.map (·.1)).take i)).length+1),ext G []):=k1
   have hxo:∀ n∈idsV ov,b+1≤n∧n<x:=fun n hn=>⟨hoi n hn,hx▸(ho.ne n hn).2⟩
   have mmG:Mod [] H G:=mm1.step mG hok fun n hn=>.inr (by have:=hxo n hn; omega)
   have kfG:bk G (b+0)=some ⟨26,false,[.int .i64 0,.int .i64 0]⟩:=(mG.bk (by omega) (fun h=>by have:=hxo _ h; omega)).trans kf1
   have kxG:bk G (x+0)=some ⟨59,false,[.int .i64 pos,.int .i64 op,.slice aa args.length ac]⟩:=(mG.bk (by omega) (fun h=>by have:=hxo _ h; omega)).trans kx1
   have hxG:x+0<x+1+2:=by omega
   simp (maxDischargeDepth:=6) only[g0,g2,g3,g4,g10,g11,g12,k1,nG,hxG,kxG,ruW,putL,Nat.reduceLeDiff,xF,ruU,entryE,Nat.reduceLT,Nat.reduceAdd,Nat.reduceMul,Nat.reduceEqDiff]
   obtain⟨D,hD⟩:∃ D,encL ((ls.map (·.1)).take i)++[op.toNat.toUInt8]=D:=⟨_,rfl⟩
   have hDl:D.length=(encL ((ls.map (·.1)).take i)).length+1:=by rw[←hD]; simp
   rw[hD,zB9,←hDl]at vG
   rw[←hDl]
   have htot:encL ((ls.map (·.1)).take (i+1))=D++args.flatMap fun a=>[a.toNat.toUInt8,(a.toNat / 256).toUInt8]:=by rw[encL_take hgx,←hD]; simp[encB]
   refine w_env fun E2 hE=>?_
   have h0:E2 0=v:=by rw[hE]; simp only[g0,ruU,entryE,Nat.reduceLT,Nat.reduceAdd,Nat.reduceMul,Nat.reduceEqDiff]
   have h2:E2 2=.slice none 0 0:=by rw[hE]; simp only[g2,ruU,entryE,Nat.reduceLT,Nat.reduceAdd,Nat.reduceMul,Nat.reduceEqDiff]
   have h3:E2 3=.pointer (some ⟨b+0,0,none⟩):=by rw[hE]; simp only[g3,ruU,entryE,Nat.reduceLT,Nat.reduceAdd,Nat.reduceMul,Nat.reduceEqDiff]
   have h4:E2 4=.slice (some ⟨x+1+1,0,none⟩) D.length D.length:=by rw[hE]; simp only[ruU,entryE,Nat.reduceLT,Nat.reduceAdd,Nat.reduceMul,Nat.reduceEqDiff]
   have h10:E2 10=v:=by rw[hE]; simp only[g10,ruU,entryE,Nat.reduceLT,Nat.reduceAdd,Nat.reduceMul,Nat.reduceEqDiff]
   have h11:E2 11=.int .i64 (ls.length:Int):=by rw[hE]; simp only[g11,ruU,entryE,Nat.reduceLT,Nat.reduceAdd,Nat.reduceMul,Nat.reduceEqDiff]
   have h12:E2 12=.int .i64 (i:Int):=by rw[hE]; simp only[g12,ruU,entryE,Nat.reduceLT,Nat.reduceAdd,Nat.reduceMul,Nat.reduceEqDiff]
   have h31:E2 31=.slice aa args.length ac:=by rw[hE]; simp only[ruU,entryE,Nat.reduceLT,Nat.reduceAdd,Nat.reduceMul,Nat.reduceEqDiff]
   have h32:E2 32=.int .i64 (args.length:Int):=by rw[hE]; simp only[ruU,entryE,Nat.reduceLT,Nat.reduceAdd,Nat.reduceMul,Nat.reduceEqDiff]
   have h33:E2 33=.int .i64 ((0:Nat):Int):=by rw[hE]; (simp only[ruU,entryE,Nat.reduceLT,Nat.reduceAdd,Nat.reduceMul,Nat.reduceEqDiff]<;>rfl)
   clear hE g0 g2 g3 g4 g10 g11 g12 E
   refine w_loop (fun (z:Nat × List UInt8 × Value) E' X'=>Mod [] H X'∧b+1≤X'.next∧bk X' (b+0)=some ⟨26,false,[.int .i64 0,.int .i64 0]⟩∧VsAt X' 5 1 z.2.2 (bv z.2.1) z.2.1.length∧(∀ n∈idsV z.2.2,b+1≤n)∧z.1≤args.length∧z.2.1++((args.drop z.1).flatMap fun a=>[a.toNat.toUInt8,(a.toNat / 256).toUInt8])=encL ((ls.map (·.1)).take (i+1))∧E' 0=v∧E' 2=.slice none 0 0∧E' 3=.pointer (some ⟨b+0,0,none⟩)∧E' 4=z.2.2∧E' 10=v∧E' 11=.int .i64 (ls.length:Int)∧E' 12=.int .i64 (i:Int)∧E' 31=.slice aa args.length ac∧E' 32=.int .i64 (args.length:Int)∧E' 33=.int .i64 (z.1:Int)) (fun z=>args.length-z.1) (0,D,.slice (some ⟨x+1+1,0,none⟩) D.length D.length)
    ⟨mmG,by rw[ext_nil,nG]; omega,kfG,vG,fun n hn=>by simp only[idsV,zB0]at hn; omega,zB3 _,by rw[htot]; rfl,h0,h2,h3,h4,h10,h11,h12,h31,h32,h33⟩ ?_
   clear h0 h2 h3 h4 h10 h11 h12 h31 h32 h33 E2 mmG kfG vG kxG nG mG k1 G hxG
   rintro⟨j,o2,v2⟩ E X2 ⟨m2,nx2,kf2,vo2,hi2,hj,htj,g0,g2,g3,g4,g10,g11,g12,g31,g32,g33⟩
   simp only at vo2 hi2 hj htj g4 g33
   obtain⟨x2,hx2⟩:∃ x2,X2.next=x2:=⟨_,rfl⟩
   have xb2:X2.base≤x2:=hx2▸m2.ok hok
   rw[hx2]at nx2
   rw[show X2=ext X2 [] from rfl]
   by_cases hje:j=args.length
   ·have hdj:decide ((j:Int)<(args.length:Int))=false:=decide_eq_false (by omega)
    simp (maxDischargeDepth:=6) only[g0,g2,g3,g4,g10,g11,g12,g31,g32,g33,hdj,ruW,putL,Nat.reduceLeDiff,xF,ruU,entryE,Nat.reduceLT,Nat.reduceAdd,Nat.reduceMul,Nat.reduceEqDiff]
    rw[hje,List.drop_length,List.flatMap_nil,zD8]at htj
    rw[htj]at vo2
    have hw:IntKind.i64.wrap ((i:Int)+1)=((i+1:Nat):Int):=wrap_succ (by omega)
    refine loopC_next ⟨(i+1,v2),by simp only; omega,m2,by rw[ext_nil,hx2]; exact nx2,kf2,vo2,hi2,by simp only; omega,fun i' hi' y' hy'=>?_,?_,?_,?_,?_,?_,?_,?_⟩
    ·by_cases hii:i'=i
     ·subst hii
      rw[hgx]at hy'
      cases hy'
      exact hen
     ·exact hgood i' (by simp only at hi'; omega) y' hy'
    all_goals simp only[g0,g2,g3,g4,g10,g11,g12,hw,ruU,entryE,Nat.reduceLT,Nat.reduceAdd,Nat.reduceMul,Nat.reduceEqDiff]
   ·have hjl:j<args.length:=by omega
    have hdj:decide ((j:Int)<(args.length:Int))=true:=decide_eq_true (by omega)
    have hyr2:=(hi.mod0 m2).av _ hym
    simp only at hyr2
    rw[ea]at hyr2
    obtain⟨n',off',s',c',e',o',M',e3,n3,r3,m3⟩:=hyr2.one hjl
    cases e3
    rw[iv_get,zA6 hjl,zA5]at m3
    have i3:=ia_of (P:=Tryz.prog) (k:=.i64) (i:=j) (n:=n') (off:=off') (len:=args.length) (cap:=ac) (s:=s') u35 s3 hjl
    rw[zC2]at i3
    rw[hx2]at n3
    obtain⟨ya,hya⟩:∃ ya,args[j]=ya:=⟨_,rfl⟩
    rw[hya]at m3
    obtain⟨y0,y1⟩:=q3 ya (hya▸List.getElem_mem hjl)
    have hw:IntKind.i64.wrap ((j:Int)+1)=((j+1:Nat):Int):=wrap_succ (by omega)
    have c1:∀ G:AHeap,aConvert Tryz.prog G 3 5 (.int .i64 ya)=some (.int .u8 ((ya.toNat.toUInt8).toNat:Int),G):=fun G=>by
     rw[cv_int (u:=.int .i64) (k:=.u8) (by kernel_rfl) (by kernel_rfl),byte_val y0 y1]
    have c2:∀ G:AHeap,aConvert Tryz.prog G 3 5 (.int .i64 (bShr .i64 ya 8))=some (.int .u8 (((ya.toNat / 256).toUInt8).toNat:Int),G):=fun G=>by
     rw[shr8 y0 y1,cv_int (u:=.int .i64) (k:=.u8) (by kernel_rfl) (by kernel_rfl),byte_val (by omega) (by omega),zD0]
    have hdr:args.drop j=ya::args.drop (j+1):=by rw[zE5 hjl,hya]
    rw[hdr,zC9,←List.append_assoc]at htj
    have hlen2:=congrArg List.length htj
    simp only[zB2,zA7,zC5]at hlen2
    have hmono2:=encL_mono (ls:=ls.map (·.1)) (i+1)
    obtain⟨G,k1,vG,mG,nG⟩:=byte_app (X:=X2) (v:=v2) (ws:=[ya.toNat.toUInt8,(ya.toNat / 256).toUInt8]) (x:=x2) vo2 hx2 (by rw[hx2]; exact xb2) (by simp) (by simp only[zA7,zC5]; omega)
    replace k1:aBuiltin Tryz.prog (ext X2 [⟨5,false,[.int .u8 ((ya.toNat.toUInt8).toNat:Int),.int .u8 (((ya.toNat / 256).toUInt8).toNat:Int)]⟩]) .append ⟨[23,23]⟩ [v2,.slice (some ⟨x2+0,0,some 0⟩) 2 2]=some (.slice (some ⟨x2+1,0,none⟩) (o2.length+2) (o2.length+2),ext G []):=k1
    have hs8:bitV .shr (.int .i64 ya) (.int .u64 8)=some (.int .i64 (bShr .i64 ya 8)):=bit_shr (by decide)
    simp (maxDischargeDepth:=6) only[g0,g2,g3,g4,g10,g11,g12,g31,g32,g33,hdj,hx2,xb2,i3,n3,r3,m3,hs8,w_shr,Option.isSome_some,c1,c2,w_convert,k1,hw,qk_old,ruW,putL,Nat.reduceLeDiff,xF,ruU,entryE,Nat.reduceLT,Nat.reduceAdd,Nat.reduceMul,Nat.reduceEqDiff]
    have ho2:∀ n∈idsV v2,b+1≤n∧n<x2:=fun n hn=>⟨hi2 n hn,hx2▸(vo2.ne n hn).2⟩
    have hol:(o2++[ya.toNat.toUInt8,(ya.toNat / 256).toUInt8]).length=o2.length+2:=by simp
    rw[hol]at vG
    refine loopC_next ⟨(j+1,o2++[ya.toNat.toUInt8,(ya.toNat / 256).toUInt8],.slice (some ⟨x2+1,0,none⟩) (o2.length+2) (o2.length+2)),by simp only; omega,m2.step mG hok fun n hn=>.inr (by have:=ho2 n hn; omega),by rw[ext_nil,nG]; omega,(mG.bk (by omega) (fun h=>by have:=ho2 _ h; omega)).trans kf2,by rw[hol]; exact vG,fun n hn=>by simp only[idsV,zB0]at hn; omega,by simp only; omega,htj,?_,?_,?_,?_,?_,?_,?_,?_,?_,?_⟩
    all_goals simp only[g0,g2,g3,g4,g10,g11,g12,g31,g32,g33,hw,ruU,entryE,Nat.reduceLT,Nat.reduceAdd,Nat.reduceMul,Nat.reduceEqDiff]
  ·have hdz:decide (¬encA op args=0)=true:=decide_eq_true hen
   have hbx1:b+0<x+1:=by omega
   simp (maxDischargeDepth:=6) only[g0,g2,g3,g4,g10,g11,g12,hdz,nx1,xb1,hbx1,kf1,Tryz.results30,ruW,putL,Nat.reduceLeDiff,xF,ruU,entryE,Nat.reduceLT,Nat.reduceAdd,Nat.reduceMul,Nat.reduceEqDiff]
   refine⟨?_,mm1.step (W':=[b+0]) (Mod.uw (by simp)) hok fun n hn=>by simp only[zB0]at hn; exact .inr (by omega)⟩
   simp only[EncOut,encBad_some (k:=0) hgood hgx hen,zC3]
end Go.Proofs.YtnigelgcjfhghaaGreatDoor
namespace Go.Ax
structure YldS (P:Program) (l:Nat) (α:Type) (enc:α→List Value) (go:α→Bool) (cap:Nat) (pre:List Nat→α→AHeap→Prop) where
 Inv:List α→List Nat→List Nat→AHeap→Prop
 sub:∀ {rs F W G},Inv rs F W G→∀ n∈W,n∈F
 dom:∀ {rs F W G},Inv rs F W G→∀ n∈F,G.get n≠none∧n<G.next
 loc:∀ {rs F W G G'},Inv rs F W G→G.next≤G'.next→(∀ n∈F,G'.get n=G.get n)→Inv rs F W G'
 step:∀ {rs F W G r},Inv rs F W G→(∀ x∈rs,go x=true)→rs.length<cap→G.base≤G.next→scbL G.next (enc r)=true→pre F r G→CallY P l (enc r) G (fun out G'=>out=.ok (.bool (go r))∧∃ F' W',Inv (rs++[r]) F' W' G'∧Mod W G G'∧(∀ n∈F',n∈F∨G.next≤n)∧(∀ n∈W',n∈W∨G.next≤n))
end Go.Ax
namespace Go.Proofs.YtnigelgcjfhghaaGreatDoor
open Go.Ax
set_option maxRecDepth 100000
abbrev It:=Ins × Value × Int
def encI (r:It):List Value:=[.agg ⟨[.int .i64 r.1.pos,.int .i64 r.1.op,r.2.1]⟩,.int .i64 r.2.2]
def goI (r:It):Bool:=decide (r.2.2=0)
def stI (r:It):Ins × Int:=(r.1,r.2.2)
def ArgA (H:AHeap) (av:Value) (args:List Int):Prop:=VsAt H 3 1 av (iv args) args.length
def preI (F:List Nat) (r:It) (G:AHeap):Prop:=ArgA G r.2.1 r.1.args∧∀ n∈idsV r.2.1,n∉F
structure ItI {lp:Nat} (Y:YldS Tryz.prog lp It encI goI 100000 preI) (H:AHeap) (b q sb:Nat) (bsv:Value) (l:List UInt8) (F0 W0:List Nat) (rs:List It) (F W:List Nat) (X:AHeap):Prop where
 inv:Y.Inv rs F W X
 m:Mod W0 H X
 wl:∀ n∈W,n∈W0∨b≤n
 fl:∀ n∈F,n∈F0∨b+28≤n
 lo:b+28≤X.next
 ok:X.base≤X.next
 sh:ShAt X b
 sbk:bk X (b+27)=some ⟨114,false,shV b⟩
 box:bk X q=some ⟨23,false,[bsv]⟩
 bs:RdAt X 1 bsv (bv l) l.length
 av:∀ r∈rs,ArgA X r.2.1 r.1.args∧∀ n∈idsV r.2.1,b+28≤n∧n∉F
 nd:(rs.flatMap fun r=>idsV r.2.1).Nodup
 go:∀ r∈rs,goI r=true
theorem ArgA.of {H G:AHeap} {av:Value} {args:List Int} (h:ArgA H av args) (hn:H.next≤G.next) (hg:∀ n∈idsV av,G.get n=H.get n):ArgA G av args:=VsAt.of h hn hg
theorem ArgA.ne {H:AHeap} {av:Value} {args:List Int} (h:ArgA H av args):∀ n∈idsV av,H.get n≠none∧n<H.next:=VsAt.ne h
theorem ArgA.rd {H:AHeap} {av:Value} {args:List Int} (h:ArgA H av args):RdAt H 1 av (iv args) args.length:=VsAt.rd h
section
variable {lp : Nat} {Y : YldS Tryz.prog lp It encI goI 100000 preI} {H : AHeap} {b q sb : Nat} {bsv : Value} {l : List UInt8} {F0 W0 : List Nat} {rs : List It} {F W : List Nat} {X X1 : AHeap}
theorem ItI.grow (I:ItI Y H b q sb bsv l F0 W0 rs F W X) (m:Mod [] X X1) (hq:q<X.next):ItI Y H b q sb bsv l F0 W0 rs F W X1 where
 inv:=Y.loc I.inv m.next fun n hn=>m.get n (Y.dom I.inv n hn).2 (by simp)
 m:=I.m.trans (m.mono (by simp))
 wl:=I.wl
 fl:=I.fl
 lo:=zE0 I.lo m.next
 ok:=m.ok I.ok
 sh:=I.sh.of m.next fun n _ h=>m.get n (by have:=I.lo; omega) (by simp)
 sbk:=(m.bk (by have:=I.lo; omega) (by simp)).trans I.sbk
 box:=(m.bk hq (by simp)).trans I.box
 bs:=I.bs.mod0 m
 av:=fun r hr=>⟨(I.av r hr).1.of m.next fun n hn=>m.get n ((I.av r hr).1.ne n hn).2 (by simp),(I.av r hr).2⟩
 nd:=I.nd
 go:=I.go
theorem ItI.more {r:It} {F' W':List Nat} (I:ItI Y H b q sb bsv l F0 W0 rs F W X) (hH:H.base≤H.next) (hbn:H.next=b) (hF0:∀ n∈F0,n<b) (hqF:q∉F0) (hql:q<b) (hbF:∀ n∈rdF bsv l.length,n∉F0∧n<b) (ha:ArgA X r.2.1 r.1.args) (hai:∀ n∈idsV r.2.1,b+28≤n∧n∉F) (han:∀ r'∈rs,∀ n∈idsV r'.2.1,n∉idsV r.2.1) (hnd:(idsV r.2.1).Nodup)
  (hinv:Y.Inv (rs++[r]) F' W' X1) (m:Mod W X X1) (hF:∀ n∈F',n∈F∨X.next≤n) (hW:∀ n∈W',n∈W∨X.next≤n) :
  Y.Inv (rs++[r]) F' W' X1∧Mod W0 H X1∧(∀ x∈rs++[r],ArgA X1 x.2.1 x.1.args∧∀ n∈idsV x.2.1,b+28≤n∧n∉F')∧((rs++[r]).flatMap fun x=>idsV x.2.1).Nodup∧(goI r=true→ItI Y H b q sb bsv l F0 W0 (rs++[r]) F' W' X1):=by
 have hnF:∀ n,n<b+28→n∉F0→n∉F:=fun n h1 h2 hn=>(I.fl n hn).elim h2 (by omega)
 have hnW:∀ n,n∉F→n∉W:=fun n h hn=>h (Y.sub I.inv n hn)
 have hav:∀ x∈rs++[r],ArgA X x.2.1 x.1.args∧∀ n∈idsV x.2.1,b+28≤n∧n∉F:=fun x hx=>by
  rcases zC6.1 hx with hx|hx
  ·exact I.av x hx
  ·rw[zB0]at hx
   subst hx
   exact⟨ha,hai⟩
 have hav1:∀ x∈rs++[r],ArgA X1 x.2.1 x.1.args∧∀ n∈idsV x.2.1,b+28≤n∧n∉F':=fun x hx=>by
  obtain⟨h1,h2⟩:=hav x hx
  refine⟨h1.of m.next fun n hn=>m.get n (h1.ne n hn).2 (hnW n (h2 n hn).2),fun n hn=>⟨(h2 n hn).1,fun hf=>?_⟩⟩
  rcases hF n hf with h|h
  ·exact (h2 n hn).2 h
  ·have:=(h1.ne n hn).2; omega
 have hmod:Mod W0 H X1:=I.m.step m hH fun n hn=>by rw[hbn]; exact I.wl n hn
 have hndup:((rs++[r]).flatMap fun x=>idsV x.2.1).Nodup:=by
  rw[List.flatMap_append,List.nodup_append]
  refine⟨I.nd,by simpa using hnd,fun n hn k hk e=>?_⟩
  subst e
  obtain⟨r',hr',hn'⟩:=List.mem_flatMap.1 hn
  exact han r' hr' n hn' (by simpa using hk)
 have hlo:=I.lo
 refine⟨hinv,hmod,hav1,hndup,fun hgo=>⟨hinv,hmod,fun n hn=>?_,fun n hn=>?_,zE0 I.lo m.next,m.ok I.ok,I.sh.of m.next fun n h1 h2=>m.get n (by omega) (hnW n (hnF n (by omega) (fun h=>by have:=hF0 n h; omega))),(m.bk (by omega) (hnW _ (hnF _ (by omega) (fun h=>by have:=hF0 _ h; omega)))).trans I.sbk,(m.bk (by omega) (hnW q (hnF q (by omega) hqF))).trans I.box,I.bs.of m.next fun n hn=>m.get n (by have:=(hbF n hn).2; omega) (hnW n (hnF n (by have:=(hbF n hn).2; omega) (hbF n hn).1)),hav1,hndup,fun x hx=>?_⟩⟩
 ·rcases hW n hn with h|h
  ·exact I.wl n h
  ·exact .inr (by omega)
 ·rcases hF n hn with h|h
  ·exact I.fl n h
  ·exact .inr (by omega)
 ·rcases zC6.1 hx with hx|hx
  ·exact I.go x hx
  ·rw[zB0]at hx
   subst hx
   exact hgo
end
theorem ia114 {n i:Nat} (h:i<28):aIndexAddr Tryz.prog 114 (.pointer (some ⟨n,0,none⟩)) (.int .i64 (i:Int))=some (.pointer (some ⟨n,2*i,none⟩)):=by
 have hu:Tryz.prog.underlying 114=some (.array 28 113):=by kernel_rfl
 have hs:szOf Tryz.prog 113=some 2:=by kernel_rfl
 simp only[aIndexAddr,hu,hs,zA1,zA3,zD0]
 rw[if_pos ⟨by omega,by omega⟩]
 simp only[Addr.add]
 split<;>simp<;>omega
theorem iter_c {lp:Nat} (Y:YldS Tryz.prog lp It encI goI 100000 preI) (H:AHeap) (q:Nat) (bsv:Value) (l:List UInt8) (F0 W0:List Nat) (hinv:Y.Inv [] F0 W0 H) (hok:H.base≤H.next) (hlp:lp<H.next) (hl:l.length≤60000)
  (hq:bk H q=some ⟨23,false,[bsv]⟩) (hqF:q∉F0) (hql:q<H.next) (hb:RdAt H 1 bsv (bv l) l.length) (hbF:∀ n∈rdF bsv l.length,n∉F0) :
  CallA Tryz.prog 82 [.func (.yield lp) ⟨[]⟩ ⟨[]⟩,.pointer (some ⟨q,0,none⟩)] H (fun out X=>out=.ok (.tuple #[])∧∃ rs F W,Y.Inv rs F W X∧rs.map stI=decA 0 l∧Mod W0 H X∧(∀ r∈rs,ArgA X r.2.1 r.1.args∧∀ n∈idsV r.2.1,H.next≤n∧n∉F)∧(rs.flatMap fun r=>idsV r.2.1).Nodup):=by
 obtain⟨b,hbn⟩:∃ b,H.next=b:=⟨_,rfl⟩
 obtain⟨ba,bc,rfl⟩:=hb.sl
 have hbase:H.base≤b:=hbn▸hok
 have hF0:∀ n∈F0,n<b:=fun n hn=>hbn▸(Y.dom hinv n hn).2
 rw[hbn]at hlp hql
 refine callE_fn mixed Tryz.func82 rfl Tryz.ntmps82 (zB5 rfl) ?_
 simp (maxDischargeDepth:=6) only[hbn,hbase,ruW,putL,Nat.reduceLeDiff,xF,ruU,entryE,Nat.reduceLT,Nat.reduceAdd,Nat.reduceMul,Nat.reduceEqDiff]
 refine (shapes_c (ext H [])).to ?_
 simp (maxDischargeDepth:=6) only[hbn,hbase,zero114,ext_next,shB,shV,ruW,putL,Nat.reduceLeDiff,xF,ruU,entryE,Nat.reduceLT,Nat.reduceAdd,Nat.reduceMul,Nat.reduceEqDiff]
 refine w_env fun E hE=>?_
 have g0:E 0=.func (.yield lp) ⟨[]⟩ ⟨[]⟩:=by rw[hE]; simp only[ruU,entryE,Nat.reduceLT,Nat.reduceAdd,Nat.reduceMul,Nat.reduceEqDiff]
 have g1:E 1=.pointer (some ⟨q,0,none⟩):=by rw[hE]; simp only[ruU,entryE,Nat.reduceLT,Nat.reduceAdd,Nat.reduceMul,Nat.reduceEqDiff]
 have g3:E 3=.pointer (some ⟨b+27,0,none⟩):=by rw[hE]; simp only[ruU,entryE,Nat.reduceLT,Nat.reduceAdd,Nat.reduceMul,Nat.reduceEqDiff]
 have g4:E 4=.int .i64 ((0:Nat):Int):=by rw[hE]; (simp only[ruU,entryE,Nat.reduceLT,Nat.reduceAdd,Nat.reduceMul,Nat.reduceEqDiff]<;>rfl)
 clear hE
 have I0:ItI Y H b q (b+27) (.slice ba l.length bc) l F0 W0 [] F0 W0 (ext H (shB b++[⟨114,false,shV b⟩])):=by
  have hg:∀ n,n<b→(ext H (shB b++[⟨114,false,shV b⟩])).get n=H.get n:=fun n hn=>ext_get_old (by rw[hbn]; exact hn)
  have hnx:(ext H (shB b++[⟨114,false,shV b⟩])).next=b+28:=by rw[ext_next,hbn]; rfl
  refine⟨Y.loc hinv (by rw[hnx]; omega) (fun n hn=>hg n (hF0 n hn)),Mod.ext hok,fun n hn=>.inl hn,fun n hn=>.inl hn,by omega,by rw[ext_base,hnx]; omega,?_,?_,(bk_old (by rw[hbn]; exact hql)).trans hq,hb.ext,fun r hr=>by simp at hr,by simp,fun r hr=>by simp at hr⟩
  ·have:=ShAt.new (H:=H) (L:=[⟨114,false,shV b⟩])
   rw[ext_append,hbn]at this
   exact this
  ·rw[bk_at hbn (by simp[shB])]
   rfl
 generalize hX0:ext H _=X0
 have hX:X0=ext H (shB b++[⟨114,false,shV b⟩]):=hX0.symm
 rw[←hX]at I0
 clear hX hX0
 obtain⟨bsv,hbv⟩:∃ bsv,bsv=Value.slice ba l.length bc:=⟨_,rfl⟩
 rw[←hbv]at I0 hbF
 have hfin:∀ rs F W X,ItI Y H b q (b+27) bsv l F0 W0 rs F W X→rs.map stI=decA 0 l→∃ rs F W,Y.Inv rs F W X∧rs.map stI=decA 0 l∧Mod W0 H X∧(∀ r∈rs,ArgA X r.2.1 r.1.args∧∀ n∈idsV r.2.1,b≤n∧n∉F)∧(rs.flatMap fun r=>idsV r.2.1).Nodup:=fun rs F W X I h=>⟨rs,F,W,I.inv,h,I.m,fun r hr=>⟨(I.av r hr).1,fun n hn=>⟨by have:=((I.av r hr).2 n hn).1; omega,((I.av r hr).2 n hn).2⟩⟩,I.nd⟩
 refine w_loop (fun (z:Nat × List It × List Nat × List Nat) E' X=>ItI Y H b q (b+27) bsv l F0 W0 z.2.1 z.2.2.1 z.2.2.2 X∧z.1≤l.length∧z.2.1.length≤z.1∧z.2.1.map stI++decA z.1 (l.drop z.1)=decA 0 l∧E' 0=.func (.yield lp) ⟨[]⟩ ⟨[]⟩∧E' 1=.pointer (some ⟨q,0,none⟩)∧E' 3=.pointer (some ⟨b+27,0,none⟩)∧E' 4=.int .i64 (z.1:Int)) (fun z=>l.length-z.1) (0,[],F0,W0)
  ⟨I0,zB3 _,zA9 _,by simp,g0,g1,g3,g4⟩ ?_
 clear g0 g1 g3 g4 E I0
 rintro⟨pos,rs,F,W⟩ E X ⟨I,hpl,hrl,htot,g0,g1,g3,g4⟩
 simp only at I hpl hrl htot g4
 obtain⟨x,hx⟩:∃ x,X.next=x:=⟨_,rfl⟩
 have hxb:X.base≤x:=hx▸I.ok
 have hlo:=I.lo
 have hbox:=I.box
 have hqx:q<x:=by omega
 rw[hbv]at hbox
 rw[show X=ext X [] from rfl]
 by_cases hpe:pos=l.length
 ·have hd:decide ((pos:Int)<(l.length:Int))=false:=decide_eq_false (by omega)
  simp (maxDischargeDepth:=6) only[g0,g1,g3,g4,hx,hqx,hbox,hd,Tryz.results82,ruW,putL,Nat.reduceLeDiff,xF,ruU,entryE,Nat.reduceLT,Nat.reduceAdd,Nat.reduceMul,Nat.reduceEqDiff]
  rw[hpe,List.drop_length,decA_nil,zD8]at htot
  rw[ext_nil]
  exact⟨trivial,hfin rs F W X I htot⟩
 ·have hlt:pos<l.length:=by omega
  have hd:decide ((pos:Int)<(l.length:Int))=true:=decide_eq_true (by omega)
  obtain⟨n,off,s,c,e,o,M,e1,n1,r1,m1⟩:=I.bs.one hlt
  rw[bv_get,zA6 hlt,zA5]at m1
  rw[hbv]at e1
  cases e1
  rw[hx]at n1
  have i0:=ia_of (P:=Tryz.prog) (k:=.i64) (i:=pos) (n:=n) (off:=off) (len:=l.length) (cap:=bc) (s:=s) u23 s5 hlt
  rw[zC2]at i0
  obtain⟨op,hop⟩:∃ op,l[pos]=op:=⟨_,rfl⟩
  rw[hop]at m1
  have hcv:aConvert Tryz.prog (ext X []) 5 3 (.int .u8 (op.toNat:Int))=some (.int .i64 (op.toNat:Int),ext X []):=by
   rw[cv_int (u:=.int .u8) (k:=.i64) (by kernel_rfl) (by kernel_rfl),wrap_nat (by have:=op.toNat_lt; omega)]
  simp (maxDischargeDepth:=6) only[g0,g1,g3,g4,hx,hxb,hqx,hbox,hd,i0,n1,r1,m1,hcv,qk_old,w_convert,ruW,putL,Nat.reduceLeDiff,xF,ruU,entryE,Nat.reduceLT,Nat.reduceAdd,Nat.reduceMul,Nat.reduceEqDiff]
  have I':ItI Y H b q (b+27) (.slice (some ⟨n,off,s⟩) l.length bc) l F0 W0 rs F W X:=hbv▸I
  have I1:ItI Y H b q (b+27) (.slice (some ⟨n,off,s⟩) l.length bc) l F0 W0 rs F W (ext X [⟨59,false,[.int .i64 (pos:Int),.int .i64 (op.toNat:Int),.slice none 0 0]⟩]):=hbv▸I.grow (Mod.ext I.ok) (by omega)
  have mX1:Mod [] X (ext X [⟨59,false,[.int .i64 (pos:Int),.int .i64 (op.toNat:Int),.slice none 0 0]⟩]):=Mod.ext I.ok
  have k1:bk (ext X [⟨59,false,[.int .i64 (pos:Int),.int .i64 (op.toNat:Int),.slice none 0 0]⟩]) x=some ⟨59,false,[.int .i64 (pos:Int),.int .i64 (op.toNat:Int),.slice none 0 0]⟩:=by
   have:=bk_at (H:=X) (L:=[⟨59,false,[.int .i64 (pos:Int),.int .i64 (op.toNat:Int),.slice none 0 0]⟩]) (i:=0) hx (by simp)
   rw[zD1]at this
   exact this
  have nx1:(ext X [⟨59,false,[.int .i64 (pos:Int),.int .i64 (op.toNat:Int),.slice none 0 0]⟩]).next=x+1:=by rw[ext_next,hx]; rfl
  have hbv':∀ n∈rdF bsv l.length,n∉F0∧n<b:=fun n hn=>⟨hbF n hn,by rw[←hbn]; exact (hb.ne n (by rw[←hbv]; exact hn)).2⟩
  rw[hbv]at hbv'
  clear r1 m1 n1 i0 hcv
  generalize ext X [_]=X1 at I1 mX1 k1 nx1 ⊢
  obtain⟨d,hd2⟩:∃ d,decide ((28:Int)≤(op.toNat:Int))=d:=⟨_,rfl⟩
  have hdr:l.drop pos=op::l.drop (pos+1):=by rw[zE5 hlt,hop]
  rw[hdr]at htot
  have hxl:x<x+1:=zC4 x
  rw[show X1=ext X1 [] from rfl]
  cases d with
  |true =>
   have hbad:28≤op.toNat:=by have:=of_decide_eq_true hd2; omega
   rw[decA_bad hbad]at htot
   simp (maxDischargeDepth:=6) only[g0,g1,g3,g4,hd2,nx1,k1,hxl,zD1,ruW,putL,Nat.reduceLeDiff,xF,ruU,entryE,Nat.reduceLT,Nat.reduceAdd,Nat.reduceMul,Nat.reduceEqDiff]
   refine w_callY (l:=lp) (by simp only[ruU,entryE,Nat.reduceLT,Nat.reduceAdd,Nat.reduceMul,Nat.reduceEqDiff]) (by simp only[g0,ruU,entryE,Nat.reduceLT,Nat.reduceAdd,Nat.reduceMul,Nat.reduceEqDiff]) (by simp only[ruU,entryE,Nat.reduceLT,Nat.reduceAdd,Nat.reduceMul,Nat.reduceEqDiff]) ?_
   simp only[g0,ruU,entryE,Nat.reduceLT,Nat.reduceAdd,Nat.reduceMul,Nat.reduceEqDiff]
   refine (Y.step (r:=(⟨pos,op.toNat,[]⟩,.slice none 0 0,5)) I1.inv I1.go (by omega) I1.ok rfl ⟨VsAt.nil,fun n hn=>by simp[idsV]at hn⟩).mono ?_
   rintro _ G' ⟨rfl,F',W',h1,h2,h3,h4⟩
   obtain⟨j1,j2,j3,j4,_⟩:=I1.more (r:=(⟨pos,op.toNat,[]⟩,.slice none 0 0,5)) hok hbn hF0 hqF hql hbv' VsAt.nil (fun n hn=>by simp[idsV]at hn) (fun r' _ n hn h=>by simp[idsV]at h) (by simp[idsV]) h1 h2 h3 h4
   rw[show G'=ext G' [] from rfl]
   simp (maxDischargeDepth:=6) only[Tryz.results82,ruW,putL,Nat.reduceLeDiff,xF,ruU,entryE,Nat.reduceLT,Nat.reduceAdd,Nat.reduceMul,Nat.reduceEqDiff]
   rw[ext_nil]
   refine⟨trivial,_,F',W',j1,?_,j2,fun r hr=>⟨(j3 r hr).1,fun n hn=>⟨by have:=((j3 r hr).2 n hn).1; omega,((j3 r hr).2 n hn).2⟩⟩,j4⟩
   rw[←htot,List.map_append]
   rfl
  |false =>
   have hop28:op.toNat<28:=by have:=of_decide_eq_false hd2; omega
   have hFx:∀ k∈F,k<x:=fun k hk=>hx▸(Y.dom I.inv k hk).2
   have hw1:IntKind.i64.wrap ((pos:Int)+1)=((pos+1:Nat):Int):=wrap_succ (by omega)
   simp (maxDischargeDepth:=6) only[g0,g1,g3,g4,hd2,nx1,hw1,ruW,putL,Nat.reduceLeDiff,xF,ruU,entryE,Nat.reduceLT,Nat.reduceAdd,Nat.reduceMul,Nat.reduceEqDiff]
   refine w_env fun E2 hE=>?_
   have g0':E2 0=.func (.yield lp) ⟨[]⟩ ⟨[]⟩:=by rw[hE]; simp only[g0,ruU,entryE,Nat.reduceLT,Nat.reduceAdd,Nat.reduceMul,Nat.reduceEqDiff]
   have g1':E2 1=.pointer (some ⟨q,0,none⟩):=by rw[hE]; simp only[g1,ruU,entryE,Nat.reduceLT,Nat.reduceAdd,Nat.reduceMul,Nat.reduceEqDiff]
   have g3':E2 3=.pointer (some ⟨b+27,0,none⟩):=by rw[hE]; simp only[g3,ruU,entryE,Nat.reduceLT,Nat.reduceAdd,Nat.reduceMul,Nat.reduceEqDiff]
   have g5':E2 5=.pointer (some ⟨x,0,none⟩):=by rw[hE]; simp only[zD1,ruU,entryE,Nat.reduceLT,Nat.reduceAdd,Nat.reduceMul,Nat.reduceEqDiff]
   have g4':E2 4=.int .i64 ((pos+1:Nat):Int):=by rw[hE]; (simp only[ruU,entryE,Nat.reduceLT,Nat.reduceAdd,Nat.reduceMul,Nat.reduceEqDiff]<;>rfl)
   clear hE g0 g1 g3 g4 E
   obtain⟨f,ca,Fk,hkv,hkb,hkF,hkc⟩:=kinds_c b op.toNat hop28
   refine blockC_meet (fun E' X2=>∃ args av pe,Mod [] X X2∧bk X2 x=some ⟨59,false,[.int .i64 (pos:Int),.int .i64 (op.toNat:Int),av]⟩∧x+1≤X2.next∧ArgA X2 av args∧(∀ k∈idsV av,x<k)∧rdA op.toNat [] (l.drop (pos+1))=(args,some (l.drop pe))∧pe=pos+1+2*args.length∧pe≤l.length∧E' 0=.func (.yield lp) ⟨[]⟩ ⟨[]⟩∧E' 1=.pointer (some ⟨q,0,none⟩)∧E' 3=.pointer (some ⟨b+27,0,none⟩)∧E' 5=.pointer (some ⟨x,0,none⟩)∧E' 4=.int .i64 (pe:Int)) ?_ ?_
   ·refine w_loop (fun (z:List Int × Value × Nat) E' X2=>Mod [] X X2∧bk X2 x=some ⟨59,false,[.int .i64 (pos:Int),.int .i64 (op.toNat:Int),z.2.1]⟩∧x+1≤X2.next∧ArgA X2 z.2.1 z.1∧(∀ k∈idsV z.2.1,x<k)∧(∀ y∈z.1,0≤y∧y≤65535)∧rdA op.toNat z.1 (l.drop z.2.2)=rdA op.toNat [] (l.drop (pos+1))∧z.2.2=pos+1+2*z.1.length∧z.2.2≤l.length∧E' 0=.func (.yield lp) ⟨[]⟩ ⟨[]⟩∧E' 1=.pointer (some ⟨q,0,none⟩)∧E' 3=.pointer (some ⟨b+27,0,none⟩)∧E' 5=.pointer (some ⟨x,0,none⟩)∧E' 4=.int .i64 (z.2.2:Int)) (fun z=>l.length-z.2.2) ([],.slice none 0 0,pos+1)
     ⟨mX1,k1,by rw[ext_next,nx1]; simp,VsAt.nil,fun k hk=>by simp[idsV]at hk,fun y hy=>by simp at hy,rfl,rfl,by simp only; omega,g0',g1',g3',g5',g4'⟩ ?_
    clear g0' g1' g3' g4' g5' E2 I1 k1 nx1 mX1 X1 hxl
    rintro⟨args,av,pe⟩ E X2 ⟨m2,k2,nx2,ha,hai,hsm,hrd,hpe,hpos,g0,g1,g3,g5,g4⟩
    simp only at k2 ha hai hsm hrd hpe hpos g4
    have I2:=I'.grow m2 (by omega)
    obtain⟨y,hy⟩:∃ y,X2.next=y:=⟨_,rfl⟩
    rw[hy]at nx2
    have hyb:X2.base≤y:=hy▸I2.ok
    have hxy:x<y:=by omega
    have hsby:b+27<y:=by have:=I2.lo; omega
    have hqy:q<y:=by have:=I2.lo; omega
    obtain⟨a1,ea⟩:=ha.len
    have i1:aIndexAddr Tryz.prog 114 (.pointer (some ⟨b+27,0,none⟩)) (.int .i64 (op.toNat:Int))=some (.pointer (some ⟨b+27,2*op.toNat,none⟩)):=ia114 hop28
    have hsbk:=I2.sbk
    rw[show X2=ext X2 [] from rfl]
    rw[ea]at k2
    rw[w_seq,w_seq]
    refine w_drawB [] [] (by kernel_rfl) (by kernel_rfl) rfl fun ops anc hA hG=>?_
    simp (maxDischargeDepth:=6) only[g0,g1,g3,g4,g5,hy,hyb,hxy,hsby,k2,hsbk,i1,hkv,ruD,ruW,putL,Nat.reduceLeDiff,xF,ruU,entryE,Nat.reduceLT,Nat.reduceAdd,Nat.reduceMul,Nat.reduceEqDiff]
    have hFr:∀ k∈rdF av args.length++Fk,(ext X2 []).get k≠none:=fun k hk=>by
     rcases zC6.1 hk with hk|hk
     ·exact (ha.rd.ne k hk).1
     ·have hkk:=hkF k hk
      obtain⟨j,rfl⟩:∃ j,k=b+j:=⟨k-b,by omega⟩
      exact bk_ne (I2.sh j _ (zA6 (by simp[shB]; omega))).1
    have hcall:∀ G:AHeap,G.next=(ext X2 []).next→(∀ k∈rdF av args.length++Fk,G.get k=(ext X2 []).get k)→CallS Tryz.prog f (av::ca) G (.ok (.string ⟨(kindsR op.toNat args).toArray⟩)) G:=fun G hG hg =>
     hkc G av args (fun i' b' h1 h2=>by
      obtain⟨h3,h4⟩:=I2.sh i' b' h1
      exact⟨(bk_get (hg _ (List.mem_append_right _ h2))).trans h3,by rw[hG]; exact h4⟩) (ha.rd.of (Nat.le_of_eq hG.symm) fun k hk=>hg k (List.mem_append_left _ hk)) (by have:=cntR_small (op:=op.toNat) hsm; omega)
    rw[ea]at hcall hFr
    refine genV_quietV (v:=.string ⟨(kindsR op.toNat args).toArray⟩) (ca:=ca) (rdF (.slice a1 args.length args.length) args.length++Fk) (by simp only[ruU,entryE,Nat.reduceLT,Nat.reduceAdd,Nat.reduceMul,Nat.reduceEqDiff]) (by simp only[ruU,entryE,Nat.reduceLT,Nat.reduceAdd,Nat.reduceMul,Nat.reduceEqDiff]) (by simp only[ruU,entryE,Nat.reduceLT,Nat.reduceAdd,Nat.reduceMul,Nat.reduceEqDiff]) hkb (by decide) hFr (fun G hG hg=>by simp only[ruU,entryE,Nat.reduceLT,Nat.reduceAdd,Nat.reduceMul,Nat.reduceEqDiff]; exact hcall G hG hg) (by simp[Meets]) ?_
    have hks:(⟨(kindsR op.toNat args).toArray⟩:ByteArray).size=(kindsR op.toNat args).length:=rfl
    obtain⟨dk,hdk⟩:∃ dk,decide ((args.length:Int)<((kindsR op.toNat args).length:Int))=dk:=⟨_,rfl⟩
    simp (maxDischargeDepth:=6) only[g0,g1,g3,g4,g5,hy,hyb,hxy,hsby,k2,rb_lenStr u9,hks,hdk,ruD,ruW,putL,Nat.reduceLeDiff,xF,ruU,entryE,Nat.reduceLT,Nat.reduceAdd,Nat.reduceMul,Nat.reduceEqDiff]
    cases dk with
    |false =>
     have hnk:¬args.length<(kindsR op.toNat args).length:=by have:=of_decide_eq_false hdk; omega
     rw[rdA_done hnk]at hrd
     simp (maxDischargeDepth:=6) only[g0,g1,g3,g4,g5,ruW,putL,Nat.reduceLeDiff,xF,ruU,entryE,Nat.reduceLT,Nat.reduceAdd,Nat.reduceMul,Nat.reduceEqDiff]
     refine joinR_normal ?_
     refine⟨args,av,pe,m2,?_,?_,ha,hai,hrd.symm,by omega,hpos,?_,?_,?_,?_,?_⟩
     ·rw[ea]; exact k2
     ·rw[ext_nil,hy]; exact nx2
     all_goals simp only[g0,g1,g3,g4,g5,ruU,entryE,Nat.reduceLT,Nat.reduceAdd,Nat.reduceMul,Nat.reduceEqDiff]
    |true =>
     have hyk:args.length<(kindsR op.toNat args).length:=by have:=of_decide_eq_true hdk; omega
     have hbox2:=I2.box
     have hw2:IntKind.i64.wrap ((pe:Int)+2)=((pe+2:Nat):Int):=(wrap_sm (by omega) (by omega)).trans (by omega)
     obtain⟨de,hde⟩:∃ de,decide ((l.length:Int)<((pe+2:Nat):Int))=de:=⟨_,rfl⟩
     simp (maxDischargeDepth:=6) only[g0,g1,g3,g4,g5,hy,hyb,hxy,hqy,k2,hbox2,hw2,hde,ruW,putL,Nat.reduceLeDiff,xF,ruU,entryE,Nat.reduceLT,Nat.reduceAdd,Nat.reduceMul,Nat.reduceEqDiff]
     cases de with
     |true =>
      have hle:l.length<pe+2:=by have:=of_decide_eq_true hde; omega
      have hrl:(l.drop pe).length<2:=by rw[List.length_drop]; omega
      rw[rdA_end hyk hrl]at hrd
      rw[decA_end (by omega) hrd.symm]at htot
      simp (maxDischargeDepth:=6) only[g0,g1,g3,g4,g5,hy,hyb,hxy,hqy,k2,ruW,putL,Nat.reduceLeDiff,xF,ruU,entryE,Nat.reduceLT,Nat.reduceAdd,Nat.reduceMul,Nat.reduceEqDiff]
      refine w_callY (l:=lp) (by simp only[ruU,entryE,Nat.reduceLT,Nat.reduceAdd,Nat.reduceMul,Nat.reduceEqDiff]) (by simp only[g0,ruU,entryE,Nat.reduceLT,Nat.reduceAdd,Nat.reduceMul,Nat.reduceEqDiff]) (by simp only[ruU,entryE,Nat.reduceLT,Nat.reduceAdd,Nat.reduceMul,Nat.reduceEqDiff]) ?_
      simp only[g0,ruU,entryE,Nat.reduceLT,Nat.reduceAdd,Nat.reduceMul,Nat.reduceEqDiff]
      have hsc:scbL X2.next (encI (⟨pos,op.toNat,args⟩,.slice a1 args.length args.length,13))=true:=by
       have h1:=VsAt.sc ha
       rw[ea]at h1
       simp only[encI,scbL,scb,scbA,h1,zD6]
      refine (Y.step (r:=(⟨pos,op.toNat,args⟩,.slice a1 args.length args.length,13)) I2.inv I2.go (by omega) I2.ok hsc ⟨by rw[←ea]; exact ha,fun n hn hf=>by rw[←ea]at hn; have:=hai n hn; have:=hFx n hf; omega⟩).mono ?_
      rintro _ G' ⟨rfl,F',W',h1,h2,h3,h4⟩
      rw[ea]at ha hai
      obtain⟨j1,j2,j3,j4,_⟩:=I2.more (r:=(⟨pos,op.toNat,args⟩,.slice a1 args.length args.length,13)) hok hbn hF0 hqF hql hbv' ha (fun n hn=>⟨by have:=hai n hn; omega,fun hf=>by have:=hFx n hf; have:=hai n hn; omega⟩) (fun r' hr' n hn h=>by have h5:=((I.av r' hr').1.ne n hn).2; have h6:=hai n h; omega) (by cases a1<;>simp[idsV]) h1 h2 h3 h4
      rw[show G'=ext G' [] from rfl]
      simp (maxDischargeDepth:=6) only[Tryz.results82,joinR_ret,ruW,putL,Nat.reduceLeDiff,xF,ruU,entryE,Nat.reduceLT,Nat.reduceAdd,Nat.reduceMul,Nat.reduceEqDiff]
      rw[ext_nil]
      refine⟨trivial,_,F',W',j1,?_,j2,fun r hr=>⟨(j3 r hr).1,fun n hn=>⟨by have:=((j3 r hr).2 n hn).1; omega,((j3 r hr).2 n hn).2⟩⟩,j4⟩
      rw[←htot,List.map_append]
      rfl
     |false =>
      have hge:pe+2≤l.length:=by have:=of_decide_eq_false hde; omega
      obtain⟨n',off',s',c',e',o',M2,e1,n1,r1,mb2⟩:=I2.bs.all (by omega)
      cases e1
      have hm1:=mb2 pe (by omega)
      have hm2:=mb2 (pe+1) (by omega)
      obtain⟨c0,hc0⟩:∃ c0,l[pe]?=some c0:=⟨_,zA6 (by omega)⟩
      obtain⟨c1,hc1⟩:∃ c1,l[pe+1]?=some c1:=⟨_,zA6 (by omega)⟩
      rw[bv_get,hc0,zA5]at hm1
      rw[bv_get,hc1,zA5]at hm2
      rw[hy]at n1
      have i2:=ia_of (P:=Tryz.prog) (k:=.i64) (i:=pe) (n:=n) (off:=off) (len:=l.length) (cap:=bc) (s:=s) u23 s5 (by omega)
      have i3:=ia_of (P:=Tryz.prog) (k:=.i64) (i:=pe+1) (n:=n) (off:=off) (len:=l.length) (cap:=bc) (s:=s) u23 s5 (by omega)
      rw[zC2]at i2 i3
      have hw3:IntKind.i64.wrap ((pe:Int)+1)=((pe+1:Nat):Int):=wrap_succ (by omega)
      have hb0:=c0.toNat_lt
      have hb1:=c1.toNat_lt
      have hor:=or_bytes c0.toNat c1.toNat (by omega) (by omega)
      simp (maxDischargeDepth:=6) only[g0,g1,g3,g4,g5,hy,hyb,hxy,hqy,k2,ruW,putL,Nat.reduceLeDiff,xF,ruU,entryE,Nat.reduceLT,Nat.reduceAdd,Nat.reduceMul,Nat.reduceEqDiff]
      refine w_drawB [(16,1),(16,2),(16,5),(16,6),(16,7),(16,11),(16,12),(16,13),(16,14),(16,15),(18,6),(18,12),(18,13),(18,14),(18,1),(18,2),(18,5),(18,7),(18,11),(18,15),(18,16)] [] (by kernel_rfl) (by kernel_rfl) rfl fun ops anc hA hG=>?_
      simp only[all2_cons]at hA
      simp (maxDischargeDepth:=6) only[g0,g1,g3,g4,g5,hy,hyb,hxy,hqy,k2,hbox2,i2,r1,n1,hm1,qk_old,hA,ruD,ruW,putL,Nat.reduceLeDiff,xF,ruU,entryE,Nat.reduceLT,Nat.reduceAdd,Nat.reduceMul,Nat.reduceEqDiff]
      refine wd_cvint (u:=.int .u8) (k:=.i64) (k0:=.u8) (n:=(c0.toNat:Int)) (by simp only[ruU,entryE,Nat.reduceLT,Nat.reduceAdd,Nat.reduceMul,Nat.reduceEqDiff]) (by decide) (by kernel_rfl) (by kernel_rfl) (by simp only[ruU,entryE,Nat.reduceLT,Nat.reduceAdd,Nat.reduceMul,Nat.reduceEqDiff]) ?_
      rw[show IntKind.i64.wrap (c0.toNat:Int)=(c0.toNat:Int) from wrap_nat (by omega)]
      simp (maxDischargeDepth:=6) only[g0,g1,g3,g4,g5,hy,hyb,hxy,hqy,k2,hbox2,i3,hw3,r1,n1,hm2,qk_old,hA,ruD,ruW,putL,Nat.reduceLeDiff,xF,ruU,entryE,Nat.reduceLT,Nat.reduceAdd,Nat.reduceMul,Nat.reduceEqDiff]
      refine wd_cvint (u:=.int .u8) (k:=.i64) (k0:=.u8) (n:=(c1.toNat:Int)) (by simp only[ruU,entryE,Nat.reduceLT,Nat.reduceAdd,Nat.reduceMul,Nat.reduceEqDiff]) (by decide) (by kernel_rfl) (by kernel_rfl) (by simp only[ruU,entryE,Nat.reduceLT,Nat.reduceAdd,Nat.reduceMul,Nat.reduceEqDiff]) ?_
      rw[show IntKind.i64.wrap (c1.toNat:Int)=(c1.toNat:Int) from wrap_nat (by omega)]
      refine wd_shl (k:=.i64) (k':=.u64) (a:=(c1.toNat:Int)) (b:=8) (by simp only[ruU,entryE,Nat.reduceLT,Nat.reduceAdd,Nat.reduceMul,Nat.reduceEqDiff]) (by simp only[ruU,entryE,Nat.reduceLT,Nat.reduceAdd,Nat.reduceMul,Nat.reduceEqDiff]) (by simp only[ruU,entryE,Nat.reduceLT,Nat.reduceAdd,Nat.reduceMul,Nat.reduceEqDiff]) (by simp only[ruU,entryE,Nat.reduceLT,Nat.reduceAdd,Nat.reduceMul,Nat.reduceEqDiff]) (by decide) (by decide) ?_
      rw[show (8:Int).toNat=8 from rfl]
      refine wd_or (k:=.i64) (a:=(c0.toNat:Int)) (b:=bShl .i64 (c1.toNat:Int) 8) (by simp only[ruU,entryE,Nat.reduceLT,Nat.reduceAdd,Nat.reduceMul,Nat.reduceEqDiff]) (by simp only[ruU,entryE,Nat.reduceLT,Nat.reduceAdd,Nat.reduceMul,Nat.reduceEqDiff]) (by simp only[ruU,entryE,Nat.reduceLT,Nat.reduceAdd,Nat.reduceMul,Nat.reduceEqDiff]) (by simp only[ruU,entryE,Nat.reduceLT,Nat.reduceAdd,Nat.reduceMul,Nat.reduceEqDiff]) (by decide) ?_
      rw[hor]
      simp (maxDischargeDepth:=6) only[g0,g1,g3,g4,g5,hy,hyb,hxy,hqy,k2,hA,ruD,ruW,putL,Nat.reduceLeDiff,xF,ruU,entryE,Nat.reduceLT,Nat.reduceAdd,Nat.reduceMul,Nat.reduceEqDiff]
      obtain⟨cv,hcv⟩:∃ cv:Int,((c0.toNat+256*c1.toNat:Nat):Int)=cv:=⟨_,rfl⟩
      rw[hcv]
      generalize hY:ext X2 _=Y
      have mY:Mod [] X2 Y:=hY▸Mod.ext I2.ok
      have nY:Y.next=y+1:=by rw[←hY,ext_next,hy]; rfl
      have kY:bk Y (y+0)=some ⟨3,false,[.int .i64 cv]⟩:=by rw[←hY,bk_at hy (by simp)]; rfl
      have okY:=mY.ok I2.ok
      rw[ea]at ha hai
      have haY:ArgA Y (.slice a1 args.length args.length) args:=ha.of mY.next fun k hk=>mY.get k (ha.ne k hk).2 (by simp)
      have hlen6:args.length≤60000:=by omega
      refine wd_appV (v:=.slice a1 args.length args.length) (vs:=iv args) (cnt:=args.length) (sz:=1) (e:=3) (by1:=8) (n:=y+0) (off:=0) (cnt2:=1) (cap:=1) (s:=some 0) (z:=.int .i64 0) (ws:=[.int .i64 cv]) u35 s3 (by kernel_rfl) (by kernel_rfl) rfl (by kernel_rfl) (by simp only[ruU,entryE,Nat.reduceLT,Nat.reduceAdd,Nat.reduceMul,Nat.reduceEqDiff]) (by simp only[ruU,entryE,Nat.reduceLT,Nat.reduceAdd,Nat.reduceMul,Nat.reduceEqDiff]) (by decide) haY (rk_of kY) (by omega) (by simp) rfl rfl (by decide)
       (by simp only[small,zA4,zD7]; omega) (scbL_append (by rw[scbL_iff]; intro v' hv'; obtain⟨w',_,rfl⟩:=zC8.1 hv'; rfl) rfl) okY (by simp only[all2_cons,all2_nil,hA,true_or,and_true]) fun Z D vZ mZ hD nZ=>?_
      rw[nY]at nZ vZ ⊢
      have mXZ:Mod (idsV (.slice a1 args.length args.length)) X2 Z:=(mY.mono (by simp)).trans mZ
      have hxn:x∉idsV (.slice a1 args.length args.length):=fun h=>by have:=hai x h; omega
      have kx:bk Z x=some ⟨59,false,[.int .i64 (pos:Int),.int .i64 (op.toNat:Int),.slice a1 args.length args.length]⟩:=(mXZ.bk (by omega) hxn).trans k2
      have hxz:x<y+1+1:=by omega
      have hyz:y+1<y+1+1:=by omega
      rw[show Z=ext Z [] from rfl]
      simp (maxDischargeDepth:=6) only[g0,g1,g3,g4,g5,nZ,kx,hxz,hyz,hw2,hA,ruD,ruW,putL,Nat.reduceLeDiff,xF,ruU,entryE,Nat.reduceLT,Nat.reduceAdd,Nat.reduceMul,Nat.reduceEqDiff]
      refine⟨⟨.inr (.inl (by omega)),.inr (.inl (by omega))⟩,?_⟩
      generalize hU:uw Z x 2 _=U
      have mU:Mod [x] Z U:=hU▸Mod.uw (by simp)
      have kU:bk U x=some ⟨59,false,[.int .i64 (pos:Int),.int .i64 (op.toNat:Int),.slice (some ⟨y+1,0,none⟩) (args.length+1) (args.length+1)]⟩:=by rw[←hU,bk_uw_eq,kx]; rfl
      have mXU:Mod [] X U:=by
       refine m2.step (W':=x::idsV (.slice a1 args.length args.length)) ((mXZ.mono (fun k hk=>zB6 _ hk)).trans (mU.mono (by simp))) I.ok fun k hk=>.inr ?_
       rcases zB1.1 hk with rfl|hk
       ·omega
       ·have:=hai k hk; omega
      have nU:=mU.next
      have hdrp:l.drop pe=c0::c1::l.drop (pe+2):=by
       rw[zE5 (show pe<l.length by omega),zE5 (show pe+1<l.length by omega)]
       rw[zA6 (by omega)]at hc0 hc1
       rw[Option.some.inj hc0,Option.some.inj hc1]
      rw[hdrp,rdA_more hyk,hcv]at hrd
      refine loopC_next ⟨(args++[cv],.slice (some ⟨y+1,0,none⟩) (args.length+1) (args.length+1),pe+2),by simp only; omega,mXU,kU,by rw[ext_nil]; omega,?_,fun k hk=>?_,fun j hj=>?_,hrd,?_,by simp only; omega,?_,?_,?_,?_,?_⟩
      ·have:iv (args++[cv])=iv args++[.int .i64 cv]:=by simp[iv]
       show VsAt U 3 1 _ (iv (args++[cv])) (args++[cv]).length
       rw[this,zB2,zB9]
       exact vZ.of mU.next fun k hk=>mU.get k (vZ.ne k hk).2 (by simp only[idsV,zB0]at hk ⊢; omega)
      ·simp only[idsV,zB0]at hk; omega
      ·rcases zC6.1 hj with hj|hj
       ·exact hsm j hj
       ·simp only[zB0]at hj; omega
      ·simp only[zB2,zB9]; omega
      all_goals simp only[g0,g1,g3,g4,g5,ruU,entryE,Nat.reduceLT,Nat.reduceAdd,Nat.reduceMul,Nat.reduceEqDiff]
   ·clear g0' g1' g3' g4' g5' E2 I1 k1 nx1 mX1 X1 hxl
    rintro E X2 ⟨args,av,pe,m2,k2,nx2,ha,hai,hrd,hpe,hpos,g0,g1,g3,g5,g4⟩
    have I2:=I'.grow m2 (by omega)
    obtain⟨y,hy⟩:∃ y,X2.next=y:=⟨_,rfl⟩
    rw[hy]at nx2
    have hxy:x<y:=by omega
    obtain⟨a1,ea⟩:=ha.len
    rw[ea]at k2 ha hai
    rw[decA_ok (by omega) hrd,←hpe]at htot
    rw[show X2=ext X2 [] from rfl]
    simp (maxDischargeDepth:=6) only[g0,g1,g3,g4,g5,hy,hxy,k2,ruW,putL,Nat.reduceLeDiff,xF,ruU,entryE,Nat.reduceLT,Nat.reduceAdd,Nat.reduceMul,Nat.reduceEqDiff]
    refine w_callY (l:=lp) (by simp only[ruU,entryE,Nat.reduceLT,Nat.reduceAdd,Nat.reduceMul,Nat.reduceEqDiff]) (by simp only[g0,ruU,entryE,Nat.reduceLT,Nat.reduceAdd,Nat.reduceMul,Nat.reduceEqDiff]) (by simp only[ruU,entryE,Nat.reduceLT,Nat.reduceAdd,Nat.reduceMul,Nat.reduceEqDiff]) ?_
    simp only[g0,ruU,entryE,Nat.reduceLT,Nat.reduceAdd,Nat.reduceMul,Nat.reduceEqDiff]
    have hsc:scbL X2.next (encI (⟨pos,op.toNat,args⟩,.slice a1 args.length args.length,0))=true:=by
     have h1:=VsAt.sc ha
     simp only[encI,scbL,scb,scbA,h1,zD6]
    refine (Y.step (r:=(⟨pos,op.toNat,args⟩,.slice a1 args.length args.length,0)) I2.inv I2.go (by omega) I2.ok hsc ⟨ha,fun n hn hf=>by have:=hai n hn; have:=hFx n hf; omega⟩).mono ?_
    rintro _ G' ⟨rfl,F',W',h1,h2,h3,h4⟩
    obtain⟨_,_,_,_,j5⟩:=I2.more (r:=(⟨pos,op.toNat,args⟩,.slice a1 args.length args.length,0)) hok hbn hF0 hqF hql hbv' ha (fun n hn=>⟨by have:=hai n hn; omega,fun hf=>by have:=hFx n hf; have:=hai n hn; omega⟩) (fun r' hr' n hn h=>by have h5:=((I.av r' hr').1.ne n hn).2; have h6:=hai n h; omega) (by cases a1<;>simp[idsV]) h1 h2 h3 h4
    have I3:=j5 rfl
    rw[←hbv]at I3
    rw[show G'=ext G' [] from rfl]
    simp (maxDischargeDepth:=6) only[g0,g1,g3,g4,g5,goI,decide_true,Bool.not_true,ruW,putL,Nat.reduceLeDiff,xF,ruU,entryE,Nat.reduceLT,Nat.reduceAdd,Nat.reduceMul,Nat.reduceEqDiff]
    refine loopC_next ⟨(pe,rs++[(⟨pos,op.toNat,args⟩,.slice a1 args.length args.length,0)],F',W'),by simp only; omega,I3,hpos,?_,?_,?_,?_,?_,?_⟩
    ·simp only[zB2,zB9]; omega
    ·simp only
     rw[←htot,List.map_append,List.append_assoc]
     rfl
    all_goals simp only[g0,g1,g3,g4,g5,ruU,entryE,Nat.reduceLT,Nat.reduceAdd,Nat.reduceMul,Nat.reduceEqDiff]
set_option maxRecDepth 100000
theorem insC_sc {N:Nat}:∀ {ls:List Iv},(∀ x∈ls,scb N x.2=true)→scbL N (insC ls)=true
 |[],_=>rfl
 |x::r,h=>by
  rw[insC,zC9]
  refine scbL_append ?_ (insC_sc fun y hy=>h y (zB6 _ hy))
  have:=h x (zC1 ..)
  show (true&&(true&&(scb N x.2&&true)))=true
  rw[this]
  rfl
theorem ins_app {X:AHeap} {v:Value} {ls:List Iv} {y:Iv} {x:Nat} (h:VsAt X 59 3 v (insC ls) ls.length) (hx:X.next=x) (hb:X.base≤X.next) (hlen:ls.length≤1000000) (hs:∀ z∈ls,scb X.next z.2=true) (hy:scb X.next y.2=true) (ho:one y.2=true) :
  ∃ G,aBuiltin Tryz.prog (ext X [⟨59,false,ivC y⟩]) .append ⟨[42,42]⟩ [v,.slice (some ⟨x+0,0,some 0⟩) 1 1]=some (.slice (some ⟨x+1,0,none⟩) (ls.length+1) (ls.length+1),ext G [])∧VsAt G 59 3 (.slice (some ⟨x+1,0,none⟩) (ls.length+1) (ls.length+1)) (insC (ls++[y])) (ls++[y]).length∧Mod (idsV v) X G∧G.next=x+2:=by
 have h2:VsAt (ext X [⟨59,false,ivC y⟩]) 59 3 v (insC ls) ls.length:=h.of (by rw[ext_next]; omega) (fun n hn=>ext_get_old (h.ne n hn).2)
 have hk:bk (ext X [⟨59,false,ivC y⟩]) (x+0)=some ⟨59,false,ivC y⟩:=by rw[bk_at hx (by simp)]; rfl
 have hsm:small (ls.length+1) 40=true:=by simp only[small,zA4,zD7]; omega
 have hone:(ivC y).all one=true:=by simp only[ivC,List.all_cons,List.all_nil,ho,Bool.and_true]; rfl
 obtain⟨G,k1,k2,k3,k4,_⟩:=vs_app (P:=Tryz.prog) (H:=ext X [⟨59,false,ivC y⟩]) (st:=42) (xt:=42) (e:=59) (sz:=3) (by1:=40) (z:=.agg #[.int .i64 0,.int .i64 0,.slice none 0 0]) (n:=x+0) (off:=0) (cnt2:=1) (cap:=1) (s:=some 0) (x:=x+1) (ws:=ivC y) (b:=⟨59,false,ivC y⟩)
  u42 s59 (by kernel_rfl) (by kernel_rfl) rfl (by kernel_rfl) h2 (rk_of hk) (by simp[ivC]) rfl hone (by decide) hsm (by rw[ext_next,hx]; rfl) (scbL_append (insC_sc fun z hz=>scb_mono (by rw[ext_next]; omega) _ (hs z hz)) (by
   have:=scb_mono (show X.next≤(ext X [⟨59,false,ivC y⟩]).next by rw[ext_next]; omega) _ hy
   show (true&&(true&&(scb _ y.2&&true)))=true
   rw[this]
   rfl))
 have e1:insC ls++ivC y=insC (ls++[y]):=by simp[insC]
 rw[e1]at k2
 exact⟨G,k1,by rw[zB2]; exact k2,(Mod.ext hb).trans (k3 ((Mod.ext (W:=[]) hb).ok hb)),k4⟩
def lpDec (asg bod:Code) (d:Nat):Loop:={state:=.ready,pending:=none,fn:=0,tmps:=#[],params:=⟨[13,14]⟩,assign:=asg,body:=bod,defers:=d}
def ivOf (r:It):Iv:=(r.1,r.2.1)
def DecInv (l p:Nat) (lp:Loop) (e:RV) (rs:List It) (F W:List Nat) (G:AHeap):Prop :=
 p+2<l∧l<G.next∧bk G (p+0)=some ⟨42,false,[.slice none 0 0]⟩∧(∀ r∈rs,scb G.next r.2.1=true) ∧
 ((rs.all goI=true∧∃ v,F=(p+0)::(p+1)::(p+2)::l::idsV v∧W=F∧LoopAt G l lp e∧bk G (p+1)=some ⟨26,false,[.int .i64 0,.int .i64 0]⟩∧bk G (p+2)=some ⟨42,false,[v]⟩∧VsAt G 59 3 v (insC (rs.map ivOf)) rs.length∧∀ n∈idsV v,p+2<n∧n≠l)
 ∨ (∃ r rs0,rs=rs0++[r]∧rs0.all goI=true∧goI r=false∧F=[p+0,p+1,l]∧W=F∧LoopAt G l {lp with state:=.done,pending:=some .ret} e∧bk G (p+1)=some ⟨26,false,[.int .i64 r.2.2,.int .i64 r.1.pos]⟩))
theorem dec_step {asg bod:Code} (hab:some (asg,bod)=Tryz.f24.body.bind rangeOf) {l p d:Nat} {E:Env} (g2:E 2=.pointer (some ⟨p+0,0,none⟩)) (g3:E 3=.pointer (some ⟨p+1,0,none⟩)) (g4:E 4=.pointer (some ⟨p+2,0,none⟩)) {rs:List It} {F W:List Nat} {G:AHeap} {r:It}
  (hI:DecInv l p (lpDec asg bod d) (rvOf 27 E) rs F W G) (hgo:∀ x∈rs,goI x=true) (hcap:rs.length<100000) (hok:G.base≤G.next) (hsc:scbL G.next (encI r)=true) (hp:preI F r G) :
  CallY Tryz.prog l (encI r) G (fun out G'=>out=.ok (.bool (goI r))∧∃ F' W',DecInv l p (lpDec asg bod d) (rvOf 27 E) (rs++[r]) F' W' G'∧Mod W G G'∧(∀ n∈F',n∈F∨G.next≤n)∧(∀ n∈W',n∈W∨G.next≤n)):=by
 obtain⟨hpl,hll,h0,hss,⟨hall,v,rfl,rfl,hl,h1,h2,hv,hvi⟩|⟨r',rs0,rfl,_,hr',_⟩⟩:=hI
 rotate_left
 ·have:=hgo r' (by simp)
  rw[hr']at this
  cases this
 obtain⟨x,hx⟩:∃ x,G.next=x:=⟨_,rfl⟩
 have hxb:G.base≤x:=hx▸hok
 obtain⟨⟨pos,op,args⟩,av,err⟩:=r
 obtain⟨ha,hai⟩:=hp
 simp only at ha hai
 obtain⟨aa,ea⟩:=ha.len
 have hsa:scb x av=true:=by
  rw[hx]at hsc
  have h:(scb x (.agg ⟨[.int .i64 pos,.int .i64 op,av]⟩)&&(true&&true))=true:=hsc
  rw[zA4]at h
  exact sc_agg3 h.1
 refine callY_of (H:=ext G []) (N:=27) (E:=E) mixed hl rfl (zip_two (by decide) (by decide)) ?_
 have hb2:Tryz.f24.body.bind rangeOf=some (_,_):=rfl
 cases hab.trans hb2
 have hsa':=hsa
 rw[ea]at hsa'
 simp (maxDischargeDepth:=6) only[ea,hx,hxb,hsa',ruW,putL,Nat.reduceLeDiff,xF,ruU,entryE,Nat.reduceLT,Nat.reduceAdd,Nat.reduceMul,Nat.reduceEqDiff]
 clear hab hb2
 rw[asgC_normal]
 refine⟨_,_,(hl.of (ext_get_old hll)).get,rfl,?_⟩
 rw[ext_setLoop hll]
 generalize hG1:setLoop G l _ _=G1
 have mG1:Mod ((p+0)::(p+1)::(p+2)::l::idsV v) G G1:=hG1▸Mod.upd (by simp)
 have n1:G1.next=x:=by rw[←hG1,setLoop_next,hx]
 have xb1:G1.base≤x:=by rw[←hG1,setLoop_base]; exact hxb
 have c0:bk G1 (p+0)=_:=(hG1▸bk_setLoop (by omega):bk G1 (p+0)=bk G (p+0)).trans h0
 have c1:bk G1 (p+1)=_:=(hG1▸bk_setLoop (by omega):bk G1 (p+1)=bk G (p+1)).trans h1
 have c2:bk G1 (p+2)=_:=(hG1▸bk_setLoop (by omega):bk G1 (p+2)=bk G (p+2)).trans h2
 have hl1:LoopAt G1 l _ (rvOf 27 E):=hG1▸LoopAt.set l _ _
 have y0:p+0<x:=by omega
 have y1:p+1<x:=by omega
 have y2:p+2<x:=by omega
 obtain⟨vv,ev⟩:=hv.len
 by_cases he:err=0
 ·have hd:decide (¬err=0)=false:=decide_eq_false (by simp[he])
  rw[ev]at c2
  simp (maxDischargeDepth:=6) only[hd,n1,xb1,y2,c2,g4,hsa',ruW,putL,Nat.reduceLeDiff,xF,ruU,entryE,Nat.reduceLT,Nat.reduceAdd,Nat.reduceMul,Nat.reduceEqDiff]
  rw[←ev]at c2 ⊢
  obtain⟨Y,hY⟩:∃ Y,ext G1 [⟨59,false,[.int .i64 pos,.int .i64 op,.slice aa args.length args.length]⟩]=Y:=⟨_,rfl⟩
  have hAB:ext G1 [⟨59,false,[.int .i64 pos,.int .i64 op,.slice aa args.length args.length]⟩,⟨59,false,[.int .i64 pos,.int .i64 op,.slice aa args.length args.length]⟩]=ext Y [⟨59,false,[.int .i64 pos,.int .i64 op,.slice aa args.length args.length]⟩]:=by rw[←hY,ext_append]; rfl
  rw[hAB]
  have hY1:Mod [] G1 Y:=hY▸Mod.ext (by rw[n1]; exact xb1)
  have nY:Y.next=x+1:=by rw[←hY,ext_next,n1]; rfl
  have yb:Y.base≤x+1:=nY▸hY1.ok (by rw[n1]; exact xb1)
  have cY0:=(hY1.bk (by omega) (by simp)).trans c0
  have cY1:=(hY1.bk (by omega) (by simp)).trans c1
  have cY2:=(hY1.bk (by omega) (by simp)).trans c2
  have hlY:LoopAt Y l _ (rvOf 27 E):=hl1.of (hY1.get _ (by omega) (by simp))
  clear hAB hY
  have mGY:=mG1.trans (hY1.mono (by simp))
  have hvl:∀ n∈idsV v,n<x:=fun n hn=>hx▸(hv.ne n hn).2
  have hvY:VsAt Y 59 3 v (insC (rs.map ivOf)) (rs.map ivOf).length:=by
   rw[zB7]
   exact hv.of (by rw[nY,hx]; omega) fun n hn=>(hY1.get n (by rw[n1]; exact hvl n hn) (by simp)).trans (hG1▸setLoop_get (hvi n hn).2)
  obtain⟨G',k1,vG,mG,nG⟩:=ins_app (X:=Y) (v:=v) (ls:=rs.map ivOf) (y:=(⟨pos,op,args⟩,.slice aa args.length args.length)) (x:=x+1) hvY nY (by rw[nY]; exact yb) (by rw[zB7]; omega) (fun z hz=>by
   obtain⟨w,hw,rfl⟩:=zC8.1 hz
   exact scb_mono (by rw[nY,hx]; omega) _ (hss w hw)) (by rw[nY]; exact scb_mono (by omega) _ hsa') rfl
  rw[zB7]at k1 vG
  replace k1:aBuiltin Tryz.prog (ext Y [⟨59,false,[.int .i64 pos,.int .i64 op,.slice aa args.length args.length]⟩]) .append ⟨[42,42]⟩ [v,.slice (some ⟨x+1,0,some 0⟩) 1 1]=some (.slice (some ⟨x+1+1,0,none⟩) (rs.length+1) (rs.length+1),ext G' []):=k1
  have e2:bk G' (p+2)=some ⟨42,false,[v]⟩:=(mG.bk (by omega) (fun h=>by have:=hvi _ h; omega)).trans cY2
  have y2':p+2<x+1+2:=by omega
  have hs3:scb (x+1+2) (.slice (some ⟨x+1+1,0,none⟩) (rs.length+1) (rs.length+1))=true:=by simp[scb]
  simp (maxDischargeDepth:=6) only[k1,g4,nG,e2,y2',hs3,ruW,putL,Nat.reduceLeDiff,xF,ruU,entryE,Nat.reduceLT,Nat.reduceAdd,Nat.reduceMul,Nat.reduceEqDiff]
  have hgr:goI (⟨pos,op,args⟩,.slice aa args.length args.length,err)=true:=decide_eq_true he
  rw[rndC_normal,hgr]
  obtain⟨nv,hnv⟩:∃ nv,Value.slice (some ⟨x+1+1,0,none⟩) (rs.length+1) (rs.length+1)=nv:=⟨_,rfl⟩
  have hnvi:∀ n,n∈idsV nv ↔ n=x+1+1:=fun n=>by rw[←hnv]; simp[idsV]
  rw[hnv]at vG
  generalize hG5:uw G' (p+2) 0 _=G5
  have mG5:Mod [p+2] G' G5:=hG5▸Mod.uw (by simp)
  have n5:G5.next=x+1+2:=by rw[←hG5,uw_next,nG]
  have e5:bk G5 (p+2)=some ⟨42,false,[nv]⟩:=by rw[←hG5,bk_uw_eq,e2,←hnv]; rfl
  have kp:∀ n,n<x→n≠p+2→n∉idsV v→G5.get n=Y.get n:=fun n h1 h2 h3=>(mG5.get n (by omega) (by simpa using h2)).trans (mG.get n (by omega) h3)
  have hnl:∀ n,n≤p+2→n∉idsV v:=fun n hn h=>by have:=hvi n h; omega
  have hll5:l∉idsV v:=fun h=>(hvi l h).2 rfl
  have hl5:LoopAt G5 l _ (rvOf 27 E):=hlY.of (kp l (by omega) (by omega) hll5)
  have f0:bk G5 (p+0)=some ⟨42,false,[.slice none 0 0]⟩:=(bk_get (kp _ (by omega) (by omega) (hnl _ (by omega)))).trans cY0
  have f1:bk G5 (p+1)=some ⟨26,false,[.int .i64 0,.int .i64 0]⟩:=(bk_get (kp _ (by omega) (by omega) (hnl _ (by omega)))).trans cY1
  have v5:VsAt G5 59 3 nv (insC (rs.map ivOf++[(⟨pos,op,args⟩,.slice aa args.length args.length)])) (rs.map ivOf++[((⟨pos,op,args⟩,.slice aa args.length args.length):Iv)]).length:=vG.of mG5.next fun n hn=>mG5.get n (by rw[hnvi]at hn; omega) (by rw[hnvi]at hn; simp; omega)
  refine⟨_,_,(hl5.of (G:=ext G5 []) rfl).get,rfl,(p+0)::(p+1)::(p+2)::l::idsV nv,(p+0)::(p+1)::(p+2)::l::idsV nv,?_⟩
  rw[ext_setLoop (by omega)]
  generalize hG6:setLoop G5 l _ _=G6
  have n6:G6.next=x+1+2:=by rw[←hG6,setLoop_next,n5]
  have hl6:LoopAt G6 l _ (rvOf 27 E):=hG6▸LoopAt.set l _ _
  have kk:∀ n,n≠l→G6.get n=G5.get n:=fun n hn=>hG6▸setLoop_get hn
  have mG6:Mod [l] G5 G6:=hG6▸Mod.upd (by simp)
  have mA:Mod ((p+0)::(p+1)::(p+2)::l::idsV v) G G6:=((mGY.trans (mG.mono (fun n hn=>by simp[hn]))).trans (mG5.mono (by simp))).trans (mG6.mono (by simp))
  rw[ext_nil]
  refine⟨⟨hpl,by omega,(bk_get (kk _ (by omega))).trans f0,fun z hz=>?_,.inl ⟨?_,nv,rfl,rfl,hl6,(bk_get (kk _ (by omega))).trans f1,(bk_get (kk _ (by omega))).trans e5,?_,fun n hn=>?_⟩⟩,mA,fun n hn=>?_,fun n hn=>?_⟩
  ·rw[n6]
   rcases zC6.1 hz with hz|hz
   ·exact scb_mono (by rw[hx]; omega) _ (hss z hz)
   ·rw[zB0]at hz
    rw[hz]
    exact scb_mono (by omega) _ hsa'
  ·rw[List.all_append,hall]
   simp only[List.all_cons,List.all_nil,hgr,zD6]
  ·have e:(rs++[((⟨pos,op,args⟩,.slice aa args.length args.length,err):It)]).map ivOf=rs.map ivOf++[(⟨pos,op,args⟩,.slice aa args.length args.length)]:=by rw[List.map_append]; rfl
   rw[e]
   have e':(rs++[((⟨pos,op,args⟩,.slice aa args.length args.length,err):It)]).length=(rs.map ivOf++[((⟨pos,op,args⟩,.slice aa args.length args.length):Iv)]).length:=by simp
   rw[e']
   exact v5.of (Nat.le_of_eq (by rw[n6,n5])) fun n hn=>kk n (by rw[hnvi]at hn; omega)
  ·rw[hnvi]at hn
   omega
  all_goals
   simp only[zB1,hnvi]at hn ⊢
   omega
 ·have hd:decide (¬err=0)=true:=decide_eq_true he
  simp (maxDischargeDepth:=6) only[hd,ruW,putL,Nat.reduceLeDiff,xF,ruU,entryE,Nat.reduceLT,Nat.reduceAdd,Nat.reduceMul,Nat.reduceEqDiff]
  refine w_drawB [] [] (by kernel_rfl) (by kernel_rfl) rfl fun ops anc hA hG=>?_
  simp (maxDischargeDepth:=6) only[g2,g3,n1,c0,c1,y0,y1,qk_old,ruD,ruW,putL,Nat.reduceLeDiff,xF,ruU,entryE,Nat.reduceLT,Nat.reduceAdd,Nat.reduceMul,Nat.reduceEqDiff]
  have hgr:goI (⟨pos,op,args⟩,.slice aa args.length args.length,err)=false:=decide_eq_false he
  rw[rndC_ret,hgr]
  generalize hG2:uw G1 (p+0) 0 _=G2
  have mG2:Mod [p+0,p+1,l] G1 G2:=hG2▸Mod.uw (by simp)
  have n2:G2.next=x:=by rw[←hG2,uw_next,n1]
  have d0:bk G2 (p+0)=some ⟨42,false,[.slice none 0 0]⟩:=by rw[←hG2,bk_uw_eq,c0]; rfl
  have d1:bk G2 (p+1)=some ⟨26,false,[.int .i64 0,.int .i64 0]⟩:=by rw[←hG2,bk_uw_ne (by omega),c1]
  have hl2:LoopAt G2 l _ (rvOf 27 E):=hl1.of (hG2▸uw_get (by omega))
  generalize hG3:uw G2 (p+1) 0 _=G3
  have mG3:Mod [p+0,p+1,l] G2 G3:=hG3▸Mod.uw (by simp)
  have n3:G3.next=x:=by rw[←hG3,uw_next,n2]
  have e0:bk G3 (p+0)=some ⟨42,false,[.slice none 0 0]⟩:=by rw[←hG3,bk_uw_ne (by omega),d0]
  have e1:bk G3 (p+1)=some ⟨26,false,[.int .i64 err,.int .i64 pos]⟩:=by rw[←hG3,bk_uw_eq,d1]; rfl
  have hl3:LoopAt G3 l _ (rvOf 27 E):=hl2.of (hG3▸uw_get (by omega))
  have mE:Mod ((p+0)::(p+1)::(p+2)::l::idsV v) G G3:=mG1.trans ((mG2.trans mG3).mono (by simp))
  refine⟨_,_,(hl3.of (ext_get_old (by omega))).get,rfl,[p+0,p+1,l],[p+0,p+1,l],?_⟩
  rw[ext_setLoop (by omega)]
  generalize hG4:setLoop G3 l _ _=G4
  have mG4:Mod ((p+0)::(p+1)::(p+2)::l::idsV v) G3 G4:=hG4▸Mod.upd (by simp)
  have n4:G4.next=x:=by rw[←hG4,setLoop_next,n3]
  have hl4:LoopAt G4 l _ (rvOf 27 E):=hG4▸LoopAt.set l _ _
  have kk:∀ n,n<l→bk G4 n=bk G3 n:=fun n hn=>hG4▸bk_setLoop (by omega)
  have mA:=mE.trans mG4
  refine⟨⟨hpl,by rw[ext_next,n4]; omega,(bk_old (by omega)).trans ((kk _ (by omega)).trans e0),fun z hz=>?_,.inr ⟨_,rs,rfl,hall,hgr,rfl,rfl,hl4.of (ext_get_old (by omega)),(bk_old (by omega)).trans ((kk _ (by omega)).trans e1)⟩⟩,mA.trans (Mod.ext (mA.ok hok)),fun n hn=>?_,fun n hn=>?_⟩
  ·rw[ext_next,n4]
   rcases zC6.1 hz with hz|hz
   ·exact scb_mono (by rw[hx]; omega) _ (hss z hz)
   ·rw[zB0]at hz
    rw[hz]
    exact scb_mono (by omega) _ hsa'
  all_goals
   simp only[zB1,List.not_mem_nil,or_false]at hn ⊢
   omega
def yDec {asg bod:Code} (hab:some (asg,bod)=Tryz.f24.body.bind rangeOf) {l p d:Nat} {E:Env} (g2:E 2=.pointer (some ⟨p+0,0,none⟩)) (g3:E 3=.pointer (some ⟨p+1,0,none⟩)) (g4:E 4=.pointer (some ⟨p+2,0,none⟩)):YldS Tryz.prog l It encI goI 100000 preI where
 Inv:=DecInv l p (lpDec asg bod d) (rvOf 27 E)
 sub:=by
  rintro rs F W G ⟨_,_,_,_,⟨_,v,rfl,rfl,_⟩|⟨r,rs0,rfl,_,_,rfl,rfl,_⟩⟩ n hn<;>exact hn
 dom:=by
  rintro rs F W G ⟨hpl,hll,h0,hss,⟨_,v,rfl,rfl,⟨o,hl⟩,h1,h2,hv,_⟩|⟨r,rs0,rfl,_,_,rfl,rfl,⟨o,hl⟩,h1⟩⟩ n hn
  ·simp only[zB1]at hn
   rcases hn with rfl|rfl|rfl|rfl|hn
   ·exact⟨bk_ne h0,by omega⟩
   ·exact⟨bk_ne h1,by omega⟩
   ·exact⟨bk_ne h2,by omega⟩
   ·exact⟨by rw[hl]; simp,hll⟩
   ·exact hv.ne n hn
  ·simp only[zB1,List.not_mem_nil,or_false]at hn
   rcases hn with rfl|rfl|rfl
   ·exact⟨bk_ne h0,by omega⟩
   ·exact⟨bk_ne h1,by omega⟩
   ·exact⟨by rw[hl]; simp,hll⟩
 loc:=by
  rintro rs F W G G' ⟨hpl,hll,h0,hss,⟨hall,v,rfl,rfl,hl,h1,h2,hv,hvi⟩|⟨r,rs0,rfl,hall,hr,rfl,rfl,hl,h1⟩⟩ hn hg
  ·exact⟨hpl,by omega,(bk_get (hg _ (by simp))).trans h0,fun r hr=>scb_mono hn _ (hss r hr),.inl ⟨hall,v,rfl,rfl,hl.of (hg _ (by simp)),(bk_get (hg _ (by simp))).trans h1,(bk_get (hg _ (by simp))).trans h2,hv.of hn fun n hn'=>hg n (by simp[hn']),hvi⟩⟩
  ·exact⟨hpl,by omega,(bk_get (hg _ (by simp))).trans h0,fun r hr=>scb_mono hn _ (hss r hr),.inr ⟨r,rs0,rfl,hall,hr,rfl,rfl,hl.of (hg _ (by simp)),(bk_get (hg _ (by simp))).trans h1⟩⟩
 step:=fun hI hgo hcap hok hsc hp=>dec_step hab g2 g3 g4 hI hgo hcap hok hsc hp
theorem instructions_c (H:AHeap) (a:Option Addr) (n c:Nat) (hsc:scb H.next (.slice a n c)=true) (hok:H.base≤H.next):CallS Tryz.prog 49 [.slice a n c] H (.ok (.func (.func 82) ⟨[]⟩ ⟨[.pointer (some ⟨H.next+0,0,none⟩)]⟩)) (ext H [⟨23,false,[.slice a n c]⟩]):=by
 obtain⟨b,hb⟩:∃ b,H.next=b:=⟨_,rfl⟩
 refine callS_fn mixed Tryz.func49 rfl Tryz.ntmps49 (zB5 rfl) fun wf _=>?_
 have hbase:H.base≤b:=hb▸wf.base
 rw[hb]at hsc
 simp (maxDischargeDepth:=6) only[hb,hbase,hsc,w_func,Tryz.results49,ruW,putL,Nat.reduceLeDiff,xF,ruU,entryE,Nat.reduceLT,Nat.reduceAdd,Nat.reduceMul,Nat.reduceEqDiff]
 exact Fin.same
set_option maxRecDepth 100000
structure OwnI (b:Nat) (X:AHeap) (v:Value) (ls:List Iv):Prop where
 vs:VsAt X 59 3 v (insC ls) ls.length
 av:∀ x∈ls,ArgA X x.2 x.1.args
 lo:∀ n∈idsV v,b≤n
 alo:∀ x∈ls,∀ n∈idsV x.2,b≤n∧n∉idsV v
 nd:(ls.flatMap fun x=>idsV x.2).Nodup
def badA (l:List UInt8):Option (Ins × Int):=(decA 0 l).find? fun r=>!decide (r.2=0)
def insA (l:List UInt8):List Ins:=(decA 0 l).map (·.1)
def DecOut (b:Nat) (l:List UInt8) (out:Out) (X:AHeap):Prop :=
 match badA l with
 |some r=>out=.ok (.tuple #[.slice none 0 0,fltV r.2 r.1.pos])
 |none=>∃ v ls,out=.ok (.tuple #[v,fltV 0 0])∧ls.map (·.1)=insA l∧OwnI b X v ls
theorem find_none:∀ {rs:List It},rs.all goI=true→(rs.map stI).find? (fun r=>!decide (r.2=0))=none
 |[],_=>rfl
 |r::rs,h=>by
  simp only[List.all_cons,zA4]at h
  have he:decide (r.2.2=0)=true:=h.1
  simp only[zB4,List.find?_cons,stI,he,Bool.not_true]
  exact find_none h.2
theorem decode_c (H:AHeap) (bsv:Value) (l:List UInt8) (hl:l.length≤60000) (hb:RdAt H 1 bsv (bv l) l.length) (hsc:scb H.next bsv=true) (hok:H.base≤H.next):CallA Tryz.prog 24 [bsv] H (fun out X=>DecOut H.next l out X∧Mod [] H X):=by
 obtain⟨b,hbn⟩:∃ b,H.next=b:=⟨_,rfl⟩
 have hbase:H.base≤b:=hbn▸hok
 obtain⟨ba,bc,eb⟩:=hb.sl
 have hd:decide ((60000:Int)<(l.length:Int))=false:=decide_eq_false (by omega)
 refine callE_fn mixed Tryz.func24 rfl Tryz.ntmps24 (zB5 rfl) ?_
 rw[eb]at hsc ⊢
 simp (maxDischargeDepth:=6) only[hbn,hbase,hd,ruW,putL,Nat.reduceLeDiff,xF,ruU,entryE,Nat.reduceLT,Nat.reduceAdd,Nat.reduceMul,Nat.reduceEqDiff]
 generalize hX:ext H _=X
 have mX:Mod [] H X:=hX▸Mod.ext hok
 have nX:X.next=b+3:=by rw[←hX,ext_next,hbn]; rfl
 have x0:bk X (b+0)=some ⟨42,false,[.slice none 0 0]⟩:=by rw[←hX,bk_at hbn (by simp)]; rfl
 have x1:bk X (b+1)=some ⟨26,false,[.int .i64 0,.int .i64 0]⟩:=by rw[←hX,bk_at hbn (by simp)]; rfl
 have x2:bk X (b+2)=some ⟨42,false,[.slice none 0 0]⟩:=by rw[←hX,bk_at hbn (by simp)]; rfl
 clear hX
 have okX:=mX.ok hok
 have hi:=instructions_c X ba l.length bc (by rw[nX,←hbn]; exact scb_mono (by omega) _ hsc) okX
 rw[nX]at hi
 rw[show X=ext X [] from rfl]
 refine CallS.to (show CallS Tryz.prog 49 _ (ext X []) _ _ from hi) ?_
 simp (maxDischargeDepth:=6) only[ruW,putL,Nat.reduceLeDiff,xF,ruU,entryE,Nat.reduceLT,Nat.reduceAdd,Nat.reduceMul,Nat.reduceEqDiff]
 refine w_env fun E hE=>?_
 have g2:E 2=.pointer (some ⟨b+0,0,none⟩):=by rw[hE]; simp only[ruU,entryE,Nat.reduceLT,Nat.reduceAdd,Nat.reduceMul,Nat.reduceEqDiff]
 have g3:E 3=.pointer (some ⟨b+1,0,none⟩):=by rw[hE]; simp only[ruU,entryE,Nat.reduceLT,Nat.reduceAdd,Nat.reduceMul,Nat.reduceEqDiff]
 have g4:E 4=.pointer (some ⟨b+2,0,none⟩):=by rw[hE]; simp only[ruU,entryE,Nat.reduceLT,Nat.reduceAdd,Nat.reduceMul,Nat.reduceEqDiff]
 have g12:E 12=.func (.func 82) ⟨[]⟩ ⟨[.pointer (some ⟨b+3,0,none⟩)]⟩:=by rw[hE]; simp only[ruU,entryE,Nat.reduceLT,Nat.reduceAdd,Nat.reduceMul,Nat.reduceEqDiff]
 clear hE hi
 generalize hY:ext X _=Y
 have mY:Mod [] X Y:=hY▸Mod.ext okX
 have nY:Y.next=b+4:=by rw[←hY,ext_next,nX]; rfl
 have q3:bk Y (b+3)=some ⟨23,false,[.slice ba l.length bc]⟩:=by
  have:=bk_at (H:=X) (L:=[⟨23,false,[.slice ba l.length bc]⟩]) (i:=0) nX (by simp)
  rw[←hY]
  exact this
 clear hY
 have okY:=mY.ok okX
 refine w_rangeK (f:=82) (ca:=[.pointer (some ⟨b+3,0,none⟩)]) okY (by decide) g12 (by kernel_rfl) fun K hlp hdf mK hbK=>?_
 replace mK:=mK []
 rw[nY]at hlp hdf hbK ⊢
 have mXK:=mY.trans mK
 have mHK:=mX.trans mXK
 have okK:=mHK.ok hok
 have hI:(yDec (l:=b+4+1) (p:=b) (d:=b+4) rfl g2 g3 g4).Inv [] [b+0,b+1,b+2,b+4+1] [b+0,b+1,b+2,b+4+1] K :=
  ⟨by omega,by omega,(mXK.bk (by omega) (by simp)).trans x0,fun r hr=>by simp at hr,.inl ⟨rfl,.slice none 0 0,rfl,rfl,hlp,(mXK.bk (by omega) (by simp)).trans x1,(mXK.bk (by omega) (by simp)).trans x2,VsAt.nil,fun n hn=>by simp[idsV]at hn⟩⟩
 have hbl:∀ n∈rdF (.slice ba l.length bc) l.length,n<b:=fun n hn=>hbn▸((eb▸hb).ne n hn).2
 refine (iter_c _ K (b+3) (.slice ba l.length bc) l _ _ hI okK (by omega) hl ((mK.bk (by omega) (by simp)).trans q3) (by simp) (by omega) ((eb▸hb).mod0 mHK) (fun n hn=>by have:=hbl n hn; simp; omega)).mono ?_
 rintro _ K1 ⟨rfl,rs,F,W,hI1,hrs,m1,hav,hnd⟩
 obtain⟨_,hll1,i0,hss,hI1⟩:=hI1
 have hdK1:K1.get (b+4)=K.get (b+4):=m1.get (b+4) (by omega) (by simp)
 have okK1:=m1.ok okK
 have nK1:=m1.next
 rcases hI1 with⟨hall,v,rfl,rfl,hl1,i1,i2,hv,hvi⟩|⟨r,rs0,rfl,hall,hr,rfl,rfl,hl1,i1⟩
 ·have hbad:badA l=none:=by rw[badA,←hrs]; exact find_none hall
  obtain⟨vv,ev⟩:=hv.len
  have hsv:=hv.sc
  refine⟨_,_,_,hl1.get,by simp[lpDec],rfl,?_⟩
  generalize hK2:setLoop K1 (b+4+1) _ _=K2
  have nK2:K2.next=K1.next:=hK2▸rfl
  have j0:bk K2 (b+0)=_:=(hK2▸bk_setLoop (by omega):bk K2 (b+0)=bk K1 (b+0)).trans i0
  have j1:bk K2 (b+1)=_:=(hK2▸bk_setLoop (by omega):bk K2 (b+1)=bk K1 (b+1)).trans i1
  have j2:bk K2 (b+2)=_:=(hK2▸bk_setLoop (by omega):bk K2 (b+2)=bk K1 (b+2)).trans i2
  have hdK2:K2.get (b+4)=K1.get (b+4):=hK2▸setLoop_get (by omega)
  have mK2:Mod [b+4+1] K1 K2:=hK2▸Mod.upd (by simp)
  have l0:b+0<K1.next:=by omega
  have l1:b+1<K1.next:=by omega
  have l2:b+2<K1.next:=by omega
  have b2:K2.base≤K1.next:=by have:=mK2.ok okK1; rw[nK2]at this; exact this
  have d10:¬b+1=b+0:=by omega
  rw[show K2=ext K2 [] from rfl]
  rw[ev]at j2 hsv
  simp (maxDischargeDepth:=6) only[g2,g3,g4,nK2,j0,j1,j2,l0,l1,l2,b2,d10,hsv,uw_next,bk_uw_ne,ne_eq,not_false_eq_true,ruW,putL,Nat.reduceLeDiff,xF,ruU,entryE,Nat.reduceLT,Nat.reduceAdd,Nat.reduceMul,Nat.reduceEqDiff]
  rw[←ev]
  generalize hK3:uw K2 (b+0) 0 _=K3
  have mK3:Mod [b+0,b+1] K2 K3:=hK3▸Mod.uw (by simp)
  have nK3:K3.next=K1.next:=by rw[←hK3,uw_next,nK2]
  have k0:bk K3 (b+0)=some ⟨42,false,[v]⟩:=by rw[←hK3,bk_uw_eq,j0]; rfl
  have k1:bk K3 (b+1)=some ⟨26,false,[.int .i64 0,.int .i64 0]⟩:=by rw[←hK3,bk_uw_ne (by omega),j1]
  generalize hK4:uw K3 (b+1) 0 _=K4
  have mK4:Mod [b+0,b+1] K3 K4:=hK4▸Mod.uw (by simp)
  have nK4:K4.next=K1.next:=by rw[←hK4,uw_next,nK3]
  have p0:bk K4 (b+0)=some ⟨42,false,[v]⟩:=by rw[←hK4,bk_uw_ne (by omega),k0]
  have p1:bk K4 (b+1)=some ⟨26,false,[.int .i64 0,.int .i64 0]⟩:=by rw[←hK4,bk_uw_eq,k1]; rfl
  have hdK4:K4.get (b+4)=K2.get (b+4):=((hK4▸uw_get (by omega)):K4.get (b+4)=K3.get (b+4)).trans (hK3▸uw_get (by omega))
  refine lv_mark ⟨_,_,hdK4.trans (hdK2.trans (hdK1.trans hdf))⟩ ?_
  rw[ext_nil]
  generalize hK5:K4.upd (b+4) _=K5
  have mK5:Mod [b+4] K4 K5:=hK5▸Mod.upd (by simp)
  have nK5:K5.next=K1.next:=(hK5▸rfl:K5.next=K4.next).trans nK4
  have r0:bk K5 (b+0)=_:=(bk_get (by rw[←hK5,AHeap.get_upd,if_neg (by omega)])).trans p0
  have r1:bk K5 (b+1)=_:=(bk_get (by rw[←hK5,AHeap.get_upd,if_neg (by omega)])).trans p1
  have mE:Mod [b+0,b+1,b+4,b+4+1] K1 K5:=(((mK2.mono (by simp)).trans (mK3.mono (by simp))).trans (mK4.mono (by simp))).trans (mK5.mono (by simp))
  rw[show K5=ext K5 [] from rfl]
  simp (maxDischargeDepth:=6) only[Tryz.results24,g2,g3,nK5,l0,l1,r0,r1,ruW,putL,Nat.reduceLeDiff,xF,ruU,entryE,Nat.reduceLT,Nat.reduceAdd,Nat.reduceMul,Nat.reduceEqDiff]
  have hmm:Mod [] H K5:=(mHK.step m1 hok (fun n hn=>by simp only[zB1,List.not_mem_nil,or_false]at hn; right; omega)).step mE hok (fun n hn=>by simp only[zB1,List.not_mem_nil,or_false]at hn; right; omega)
  refine⟨?_,hmm⟩
  simp only[DecOut,hbad]
  have hbd:bk K1 (b+4)=none:=by
   unfold bk cellsAt
   rw[hdK1.trans hdf]
   rfl
  have hvd:∀ n∈idsV v,n≠b+4:=fun n hn e=>by
   obtain⟨_,_,⟨_,rfl⟩|⟨_,n',rfl,hb',_⟩⟩:=hv
   ·simp[idsV]at hn
   ·simp only[idsV,zB0]at hn
    rw[←hn,e,hbd]at hb'
    cases hb'
  have hvk:∀ n∈idsV v,K5.get n=K1.get n:=fun n hn=>mE.get n (hv.ne n hn).2 (fun h=>by
   have h1:=hvi n hn
   have h2:=hvd n hn
   simp only[zB1,List.not_mem_nil,or_false]at h
   omega)
  refine⟨v,rs.map ivOf,rfl,?_,⟨?_,fun z hz=>?_,fun n hn=>by have:=hvi n hn; omega,fun z hz n hn=>?_,?_⟩⟩
  ·rw[insA,←hrs,List.map_map,List.map_map]
   rfl
  ·rw[zB7]
   exact hv.of mE.next hvk
  ·obtain⟨w,hw,rfl⟩:=zC8.1 hz
   exact (hav w hw).1.of mE.next fun n hn=>mE.get n ((hav w hw).1.ne n hn).2 (fun h=>by
    have:=((hav w hw).2 n hn).1
    simp only[zB1,List.not_mem_nil,or_false]at h
    omega)
  ·obtain⟨w,hw,rfl⟩:=zC8.1 hz
   obtain⟨a1,a2⟩:=(hav w hw).2 n hn
   exact⟨by omega,fun h=>a2 (by simp[h])⟩
  ·rw[List.flatMap_map]
   exact hnd
 ·have hbad:badA l=some (r.1,r.2.2):=by
   rw[badA,←hrs,List.map_append,List.find?_append]
   rw[find_none hall,Option.none_or]
   have he:decide (r.2.2=0)=false:=hr
   simp only[zB4,zE3,List.find?_cons,stI,he,Bool.not_false]
  refine⟨_,_,_,hl1.get,by simp[lpDec],rfl,?_⟩
  generalize hK2:setLoop K1 (b+4+1) _ _=K2
  have nK2:K2.next=K1.next:=hK2▸rfl
  have j0:bk K2 (b+0)=_:=(hK2▸bk_setLoop (by omega):bk K2 (b+0)=bk K1 (b+0)).trans i0
  have j1:bk K2 (b+1)=_:=(hK2▸bk_setLoop (by omega):bk K2 (b+1)=bk K1 (b+1)).trans i1
  have hdK2:K2.get (b+4)=K1.get (b+4):=hK2▸setLoop_get (by omega)
  have mK2:Mod [b+4+1] K1 K2:=hK2▸Mod.upd (by simp)
  rw[show K2=ext K2 [] from rfl]
  simp (maxDischargeDepth:=6) only[ruW,putL,Nat.reduceLeDiff,xF,ruU,entryE,Nat.reduceLT,Nat.reduceAdd,Nat.reduceMul,Nat.reduceEqDiff]
  refine lv_mark ⟨_,_,hdK2.trans (hdK1.trans hdf)⟩ ?_
  rw[ext_nil]
  generalize hK5:K2.upd (b+4) _=K5
  have mK5:Mod [b+4] K2 K5:=hK5▸Mod.upd (by simp)
  have nK5:K5.next=K1.next:=(hK5▸rfl:K5.next=K2.next).trans nK2
  have e0:bk K5 (b+0)=_:=(bk_get (by rw[←hK5,AHeap.get_upd,if_neg (by omega)])).trans j0
  have e1:bk K5 (b+1)=_:=(bk_get (by rw[←hK5,AHeap.get_upd,if_neg (by omega)])).trans j1
  have l0:b+0<K1.next:=by omega
  have l1:b+1<K1.next:=by omega
  rw[show K5=ext K5 [] from rfl]
  simp (maxDischargeDepth:=6) only[Tryz.results24,g2,g3,nK5,l0,l1,e0,e1,ruW,putL,Nat.reduceLeDiff,xF,ruU,entryE,Nat.reduceLT,Nat.reduceAdd,Nat.reduceMul,Nat.reduceEqDiff]
  refine⟨by simp only[DecOut,hbad],?_⟩
  refine ((mHK.step m1 hok (fun n hn=>?_)).step mK2 hok (fun n hn=>?_)).step mK5 hok (fun n hn=>?_)<;>(simp only[zB1,List.not_mem_nil,or_false]at hn; right; omega)
def nameR (op:Nat):List UInt8:=match opsL[op]? with
 |some (n,_)=>n.data.toList
 |none=>[]
def textI (x:Ins):List UInt8:=nameR x.op.toNat++(x.args.flatMap fun n=>32::Go.Lib.itoa n)++[10]
def textL (ls:List Ins):List UInt8:=ls.flatMap textI
def valR (w:List UInt8):Nat:=w.foldl (fun n c=>10*n+(c.toNat-48)) 0
end Go.Proofs.YtnigelgcjfhghaaGreatDoor
