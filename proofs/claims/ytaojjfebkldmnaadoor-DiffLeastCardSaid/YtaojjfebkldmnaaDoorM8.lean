/- Parts of the proof, one behind the other. -/
import Derived.Test.YtaojjfebkldmnaaDoorM4
import Derived.ChangeArms
import Derived.Test.YtaojjfebkldmnaaDoorM6
import Derived.Test.YtaojjfebkldmnaaDoorRows
import Derived.ProofKit
import Derived.Carry
import Derived.OpenShut
import Derived.LaidMore
import Derived.Lay
set_option linter.all false
set_option maxRecDepth 10000
set_option maxHeartbeats 16000000
open And renaming intro → zA0
open Option renaming bind_eq_bind → zA1, bind_eq_some_iff → zA2, bind_some → zA3, map_some → zA7, map_eq_some_iff → zB1
open Bool renaming and_eq_true → zA4, false_eq_true → zC2, not_true → zC8, and_self → zD1, not_false → zD6
open Nat renaming le_refl → zA5, le_of_ble_eq_true → zA9, zero_le → zB0, zero_add → zC1, lt_or_ge → zC4, lt_succ_self → zC6, add_zero → zC7, lt_of_lt_of_le → zC9, le_of_eq → zD2, le_trans → zD9, zero_mul → zE1, sub_self → zE9, eq_of_beq_eq_true → zF4
open List renaming getElem?_eq_getElem → zA6, mem_singleton → zA8, mem_cons → zB2, mem_cons_of_mem → zB3, mem_append → zB4, length_cons → zB5, length_append → zB6, map_cons → zB7, nil_append → zB8, mem_of_getElem? → zB9, all_eq_true → zC0, length_nil → zC3, eq_nil_of_length_eq_zero → zC5, append_nil → zD0, drop_zero → zD3, mem_append_left → zD4, mem_append_right → zD5, mem_cons_self → zD7, length_drop → zD8, getElem?_eq_none → zE0, getElem?_eq_some_iff → zE2, mem_flatMap → zE3, mem_of_mem_take → zE4, mem_of_mem_drop → zE5, take_of_length_le → zE6, drop_eq_nil_of_le → zE7, getD_eq_getElem?_getD → zE8, drop_eq_getElem_cons → zF0, mem_range → zF1, map_nil → zF2, cons_append → zF3, getElem?_cons_zero → zF5, length_take → zF6, take_length → zF7, flatMap_cons → zF8, getElem?_cons_succ → zF9

namespace Go.Ax
open Go.ChangeShapes
section
variable {P : Program} {ρ : Ren} {H : AHeap} {w : World}
def roObj (e:TypeId) (vs:List Value):AObj:=⟨.cells #[] e (1,0),true,RV.ofList vs⟩
theorem roObj_fz {e:TypeId} {vs:List Value}:Fz (some (roObj e vs)):=⟨_,rfl,rfl⟩
def roH (H:AHeap) (e:TypeId) (vs:List Value):AHeap:=⟨rootPut H.root H.next (some (roObj e vs)),H.next+1,H.next+1,H.dirty⟩
theorem roH_get {e:TypeId} {vs:List Value} (m:Nat):(roH H e vs).get m=if m=H.next then some (roObj e vs) else H.get m:=rootPut_get _ _ _ _
theorem roH_rk {e:TypeId} {vs:List Value}:rk (roH H e vs) H.next=some ⟨e,true,vs⟩:=by
 rw[rk_eq]
 simp only[cellsR,roH_get,if_true,roObj,zA7,RV.n_ofList,RV.gets_ofList]
def isU8:Value→Bool
 |.int .u8 _=>true
 |_=>false
structure Ro (P:Program) (ρ:Ren) (H:AHeap) (w:World):Prop where
 rel:Rel P ρ H w
 base:H.base=H.next
 dirty:H.dirty=[]
 al:∀ n,H.get n≠none→Fz (H.get n)∨n<P.globals.size∧∃ c e,w.heap[n]?=some (.cells c e (0,0))∧∀ v∈c.toList,isU8 v=true
structure Gro (H H1:AHeap):Prop where
 next:H.next≤H1.next
 get:∀ n,n<H.next→H1.get n=H.get n
theorem Gro.refl:Gro H H:=⟨zA5 _,fun _ _=>rfl⟩
theorem Gro.trans {H1 H2:AHeap} (a:Gro H H1) (b:Gro H1 H2):Gro H H2:=⟨zD9 a.next b.next,fun n hn=>(b.get n (zC9 hn a.next)).trans (a.get n hn)⟩
theorem Ro.add (R:Ro P ρ H w) {b off:Nat} {e:TypeId} {c:Array Value} {fz:Nat × Nat} {vs:List Value} (hb:w.heap[b]?=some (.cells c e fz)) (hc:∀ i,i<vs.length→c[off+i]?=some (ρ.val (vs.getD i undef)))
  (hs:scbL H.next vs=true) (h0:∃ i,i<vs.length∧isU8 (ρ.val (vs.getD i undef))=false):Ro P (ρ.at H.next b off 0) (roH H e vs) w∧Ext H.next ρ (ρ.at H.next b off 0)∧Gro H (roH H e vs):=by
 have ex:=Ren.at_ext ρ H.next b off 0
 have r:=R.rel
 have hal:∀ n,H.get n≠none→ρ.blk n=b→Fz (H.get n):=fun n hn he=>by
  rcases R.al n hn with h|⟨hg,c',e',h1,h2⟩
  ·exact h
  ·rw[(r.glob.2 n hg).1]at he
   subst he
   rw[hb]at h1
   simp only[Option.some.injEq,Obj.cells.injEq]at h1
   obtain⟨i,hi,hu⟩:=h0
   have h3:=hc i hi
   rw[h1.1]at h3
   have:=h2 _ (Array.mem_toList_iff.2 (Array.mem_of_getElem? h3))
   rw[hu]at this
   cases this
 have hgr:Gro H (roH H e vs):=⟨Nat.le_succ _,fun n hn=>by rw[roH_get,if_neg (by omega)]⟩
 refine⟨⟨⟨zA5 _,⟨Nat.le_succ_of_le r.glob.1,fun g hg=>?_⟩,fun m n hm hn he=>?_,fun n o hn=>?_,fun n o hn=>?_⟩,rfl,R.dirty,fun n hn=>?_⟩,ex,hgr⟩
 ·have:=r.glob.1
  rw[ex.blk g (by omega),ex.sh g (by omega)]; exact r.glob.2 g hg
 ·rw[roH_get]at hm hn ⊢
  rw[roH_get]
  by_cases h1:m=H.next<;>by_cases h2:n=H.next
  ·exact .inl (h1.trans h2.symm)
  ·rw[if_neg h2]at hn
   rw[if_pos h1,if_neg h2]
   subst h1
   rw[Ren.at_blk,ex.blk n (r.lt hn)]at he
   exact .inr ⟨roObj_fz,hal n hn he.symm⟩
  ·rw[if_neg h1]at hm
   rw[if_neg h1,if_pos h2]
   subst h2
   rw[Ren.at_blk,ex.blk m (r.lt hm)]at he
   exact .inr ⟨hal m hm he,roObj_fz⟩
  ·rw[if_neg h1]at hm
   rw[if_neg h2]at hn
   rw[if_neg h1,if_neg h2]
   rw[ex.blk m (r.lt hm),ex.blk n (r.lt hn)]at he
   exact r.inj m n hm hn he
 ·rw[roH_get]at hn
  by_cases h:n=H.next
  ·rw[if_pos h]at hn
   cases hn
   subst h
   refine⟨zC6 _,?_⟩
   simp only[sco,roObj,RV.n_ofList,RV.get_ofList]
   intro i hi
   exact scb_mono (Nat.le_succ _) _ (scbL_iff.1 hs _ (by simp[List.getD,hi]))
  ·rw[if_neg h]at hn
   have:=r.dom n o hn
   exact⟨Nat.lt_succ_of_lt this.1,this.2.mono (Nat.le_succ _)⟩
 ·rw[roH_get]at hn
  by_cases h:n=H.next
  ·rw[if_pos h]at hn
   cases hn
   subst h
   refine⟨_,by rw[Ren.at_blk]; exact hb,?_⟩
   simp only[Fits,roObj]
   refine⟨c,fz,rfl,fun i hi=>?_,fun h=>(by cases h),fun _ h=>(by cases h)⟩
   simp only[RV.n_ofList]at hi
   rw[RV.get_ofList,Ren.at_sh,val_ext ex _ (scbL_iff.1 hs _ (by simp[List.getD,hi])),Nat.add_comm]
   exact hc i hi
  ·rw[if_neg h]at hn
   obtain⟨o',h1,h2⟩:=r.obj n o hn
   have hd:=r.dom n o hn
   exact⟨o',by rw[ex.blk n hd.1]; exact h1,h2.ext hd.1 hd.2 ex⟩
 ·rw[roH_get]at hn ⊢
  by_cases h:n=H.next
  ·rw[if_pos h]; exact .inl roObj_fz
  ·rw[if_neg h]at hn ⊢
   exact R.al n hn
theorem Ro.skipE (R:Ro P ρ H w) {ρ':Ren} (ex:Ext H.next ρ ρ'):Ro P ρ' ⟨H.root,H.next+1,H.next+1,H.dirty⟩ w∧Gro H ⟨H.root,H.next+1,H.next+1,H.dirty⟩:=by
 have r:=R.rel
 have hg:∀ n,(⟨H.root,H.next+1,H.next+1,H.dirty⟩:AHeap).get n=H.get n:=fun n=>rfl
 refine⟨⟨⟨zA5 _,⟨Nat.le_succ_of_le r.glob.1,fun g hg=>?_⟩,fun m n hm hn he=>?_,fun n o hn=>?_,fun n o hn=>?_⟩,rfl,R.dirty,fun n hn=>R.al n hn⟩,Nat.le_succ _,fun n _=>rfl⟩
 ·have:=r.glob.1
  rw[ex.blk g (by omega),ex.sh g (by omega)]; exact r.glob.2 g hg
 ·rw[hg]at hm hn
  rw[ex.blk m (r.lt hm),ex.blk n (r.lt hn)]at he
  exact r.inj m n hm hn he
 ·have:=r.dom n o hn
  exact⟨Nat.lt_succ_of_lt this.1,this.2.mono (Nat.le_succ _)⟩
 ·obtain⟨o',h1,h2⟩:=r.obj n o hn
  have hd:=r.dom n o hn
  exact⟨o',by rw[ex.blk n hd.1]; exact h1,h2.ext hd.1 hd.2 ex⟩
theorem Ro.skip (R:Ro P ρ H w) (b off:Nat):Ro P (ρ.at H.next b off 0) ⟨H.root,H.next+1,H.next+1,H.dirty⟩ w∧Ext H.next ρ (ρ.at H.next b off 0)∧Gro H ⟨H.root,H.next+1,H.next+1,H.dirty⟩ :=
 ⟨(R.skipE (Ren.at_ext ρ H.next b off 0)).1,Ren.at_ext ρ H.next b off 0,(R.skipE (Ren.at_ext ρ H.next b off 0)).2⟩
def Ren.atJ (ρ:Ren) (n b s j:Nat):Ren:=⟨fun m=>if m=n then b else ρ.blk m,fun m=>if m=n then s else ρ.sh m,fun m=>if m=n then 0 else ρ.ex m,fun m=>if m=n then .int .i64 j else ρ.op m,fun m=>by
 by_cases h:m=n
 ·simp only[h,if_true]; rfl
 ·simp only[h,if_false]; exact ρ.op1 m⟩
theorem Ren.atJ_ext (ρ:Ren) (n b s j:Nat):Ext n ρ (ρ.atJ n b s j) :=
 ⟨fun m h=>if_neg (Nat.ne_of_lt h),fun m h=>if_neg (Nat.ne_of_lt h),fun m h=>if_neg (Nat.ne_of_lt h),fun m h=>if_neg (Nat.ne_of_lt h)⟩
theorem val_slJ {N b off j:Nat}:(ρ.atJ N b off j).val (.slice (some ⟨N,0,some 1⟩) 0 0)=.slice (some ⟨b,off,some j⟩) 0 0:=by
 simp[Ren.val,Ren.atJ,Ren.offS,Ren.spS,Ren.capS,spO]
def SlAt (H:AHeap) (sz:Nat) (u:Value) (vs:List Value) (len:Nat):Prop :=
 vs.length=len*sz∧∃ a cap,u=.slice a len cap∧(len=0∨∃ n e,a=some ⟨n,0,some 0⟩∧n<H.next∧rk H n=some ⟨e,true,vs⟩∧len≤cap)
theorem SlAt.gro {H1:AHeap} {sz:Nat} {u:Value} {vs:List Value} {len:Nat} (h:SlAt H sz u vs len) (g:Gro H H1):SlAt H1 sz u vs len:=by
 obtain⟨h1,a,cap,h2,h3⟩:=h
 refine⟨h1,a,cap,h2,h3.imp id ?_⟩
 rintro⟨n,e,h4,h5,h6,h7⟩
 exact⟨n,e,h4,zC9 h5 g.next,(rk_get (g.get n h5)).trans h6,h7⟩
theorem val_sl {N b off len cap:Nat}:(ρ.at N b off 0).val (.slice (some ⟨N,0,some 0⟩) len cap)=.slice (some ⟨b,off,none⟩) len cap:=by
 simp[Ren.val,Ren.at_blk,Ren.at_sh]
theorem Ro.sl (R:Ro P ρ H w) {sz len cap b off:Nat} {sp:Option Nat} (hspot:sp=none∨len=0∧cap=0) {vs:List Value} (hlen:vs.length=len*sz)
  (hcell:len=0∨∃ c e fz,w.heap[b]?=some (.cells c e fz)∧∀ i,i<vs.length→c[off+i]?=some (ρ.val (vs.getD i undef))) (hs:scbL H.next vs=true) (h0:len=0∨∃ i,i<vs.length∧isU8 (ρ.val (vs.getD i undef))=false) (hlc:len≤cap) :
  ∃ ρ1 H1 u,Ro P ρ1 H1 w∧Ext H.next ρ ρ1∧Gro H H1∧ρ1.val u=.slice (some ⟨b,off,sp⟩) len cap∧scb H1.next u=true∧SlAt H1 sz u vs len:=by
 by_cases hz:len=0
 ·cases sp with
  |none =>
   obtain⟨k1,k2,k3⟩:=R.skip b off
   exact⟨_,_,.slice (some ⟨H.next,0,some 0⟩) len cap,k1,k2,k3,val_sl,blt_of (zC6 _),hlen,_,_,rfl,.inl hz⟩
  |some j =>
   have hc:cap=0:=by
    rcases hspot with h|h
    ·cases h
    ·exact h.2
   subst hc hz
   obtain⟨k1,k3⟩:=R.skipE (ρ.atJ_ext H.next b off j)
   exact⟨_,_,.slice (some ⟨H.next,0,some 1⟩) 0 0,k1,ρ.atJ_ext H.next b off j,k3,val_slJ,blt_of (zC6 _),hlen,_,_,rfl,.inl rfl⟩
 ·obtain rfl:sp=none:=by
   rcases hspot with h|h
   ·exact h
   ·exact absurd h.1 hz
  obtain⟨c,e,fz,hb,hc⟩:=hcell.resolve_left hz
  obtain⟨k1,k2,k3⟩:=R.add hb hc hs (h0.resolve_left hz)
  exact⟨_,_,.slice (some ⟨H.next,0,some 0⟩) len cap,k1,k2,k3,val_sl,blt_of (zC6 _),hlen,_,_,rfl,.inr ⟨H.next,e,rfl,zC6 _,roH_rk,hlc⟩⟩
variable {K : Type} {enc : TypeId × Value → K} {spare : Nat → Bool} {held : Bool} {fuel : Nat}
theorem sl_spot {t e:TypeId} {sz len cap:Nat} {a:Addr} {x:DataW K × List MemPlace} (hsp:∀ b,spare b=true) (ht:P.underlying t=some (.slice e)) (hsz:szOf P e=some (sz+1)) (h:DataW.trod enc P w 0 spare held fuel t [.slice (some a) len cap]=some x):a.spot=none∨len=0∧cap=0:=by
 have none_at:∀ y,(w.cells? 0 (a.add 0) (sz+1)).bind y=(none:Option (DataW K × List MemPlace))∨a.spot=none:=fun y=>by
  cases hs:a.spot with
  |none=>exact .inr rfl
  |some j =>
   left
   cases hc:w.cells? 0 (a.add 0) (sz+1) with
   |none=>rfl
   |some cs =>
    unfold World.cells? at hc
    rw[if_pos (zB0 _)]at hc
    obtain⟨v,hv⟩:=Go.Ax.mapM_each hc 0 (by simp)
    simp only[Addr.add,if_true,World.cell?,hs,Option.isSome_some]at hv
    split at hv<;>cases hv
 rcases DataW.trod_slice ht h with⟨h1,_⟩|⟨a',len',cap',elems,rest,n,_,h1,_,_,hle,_,hel,hcells,hrest,_⟩
 ·simp at h1
 ·simp only[List.cons.injEq,Value.slice.injEq,Option.some.injEq,and_true]at h1
  obtain⟨rfl,rfl,rfl⟩:=h1
  rw[cellsOf_szOf hsz]at hcells hrest
  rcases Nat.eq_zero_or_pos len with h0|h0
  ·subst h0
   rcases Nat.eq_zero_or_pos cap with hc|hc
   ·exact .inr ⟨rfl,hc⟩
   ·obtain⟨hl,hr⟩:=hrest (hsp _)
    have:=hr 0 (by omega)
    rw[zC1,zE1]at this
    rcases none_at (DataW.trod enc P w 0 spare held n e) with h2|h2
    ·rw[h2,zA6 (by omega)]at this
     cases this
    ·exact .inl h2
  ·have:=hcells 0 h0
   rw[zE1]at this
   rcases none_at (DataW.trod enc P w 0 spare held n e) with h2|h2
   ·rw[h2,zA6 (by omega)]at this
    cases this
   ·exact .inl h2
theorem sl_cells {t e:TypeId} {sz b off len cap:Nat} {x:DataW K × List MemPlace} (ht:P.underlying t=some (.slice e)) (hsz:szOf P e=some sz) (h:DataW.trod enc P w 0 spare held fuel t [.slice (some ⟨b,off,none⟩) len cap]=some x) :
  ∃ (vs:List Value) (n:Nat),vs.length=len*sz∧(len*sz=0∨∃ c e' fz,w.heap[b]?=some (.cells c e' fz)∧∀ i,i<vs.length→c[off+i]?=some (vs.getD i undef)) ∧
   ∀ i,i<len→∃ y,DataW.trod enc P w 0 spare held n e ((vs.drop (i*sz)).take sz)=some y:=by
 rcases DataW.trod_slice ht h with⟨h1,_⟩|⟨a,len',cap',elems,rest,n,_,h1,_,_,_,_,hel,hcells,_,_⟩
 ·simp at h1
 ·simp only[List.cons.injEq,Value.slice.injEq,Option.some.injEq,and_true]at h1
  obtain⟨rfl,rfl,rfl⟩:=h1
  rw[cellsOf_szOf hsz]at hcells
  have each:∀ i,i<len→∃ cs y,w.cells? 0 ((⟨b,off,none⟩:Addr).add (i*sz)) sz=some cs∧DataW.trod enc P w 0 spare held n e cs=some y:=fun i hi=>by
   have:=hcells i hi
   rw[zA6 (by omega)]at this
   obtain⟨cs,h1,h2⟩:=zA2.1 this
   exact⟨cs,_,h1,h2⟩
  by_cases h0:len*sz=0
  ·refine⟨[],n,by simp[h0],.inl h0,fun i hi=>?_⟩
   obtain⟨cs,y,h1,h2⟩:=each i hi
   have hsz0:sz=0:=by
    rcases Nat.eq_zero_or_pos sz with h|h
    ·exact h
    ·have:=Nat.mul_pos (show 0<len by omega) h; omega
   subst hsz0
   unfold World.cells? at h1
   rw[if_pos (zB0 _)]at h1
   simp at h1
   subst h1
   exact⟨y,by simpa using h2⟩
  ·have hp:0<sz:=Nat.pos_of_ne_zero fun h=>h0 (by rw[h,Nat.mul_zero])
   have cell:∀ i,i<len*sz→∃ v,w.cell? ⟨b,off+i,none⟩=some v:=fun i hi=>by
    have hq:i / sz<len:=(Nat.div_lt_iff_lt_mul hp).2 hi
    obtain⟨cs,y,hcs,_⟩:=each _ hq
    unfold World.cells? at hcs
    rw[if_pos (zB0 _)]at hcs
    obtain⟨v,hv⟩:=mapM_each hcs (i % sz) (by simpa using Nat.mod_lt _ hp)
    rw[addr_add,addr_add]at hv
    have:off+i / sz*sz+i % sz=off+i:=by rw[Nat.add_assoc,Nat.mul_comm,Nat.div_add_mod]
    rw[this]at hv
    exact⟨v,hv⟩
   obtain⟨v0,hv0⟩:=cell 0 (by omega)
   unfold World.cell? at hv0
   cases hb:w.heap[b]? with
   |none=>simp[hb]at hv0
   |some o =>
    cases o with
    |cells c e' fz =>
     have cell':∀ i,i<len*sz→∃ v,c[off+i]?=some v:=fun i hi=>by
      obtain⟨v,hv⟩:=cell i hi
      simp only[World.cell?,hb]at hv
      exact⟨v,by simpa using hv⟩
     obtain⟨vs,hvs⟩:∃ vs:List Value,vs=(List.range (len*sz)).map fun i=>(c[off+i]?).getD undef:=⟨_,rfl⟩
     have hvl:vs.length=len*sz:=by simp[hvs]
     have hvg:∀ i,i<vs.length→c[off+i]?=some (vs.getD i undef):=fun i hi=>by
      rw[hvl]at hi
      obtain⟨v,hv⟩:=cell' i hi
      simp[hvs,hi,hv,zE8]
     refine⟨vs,n,hvl,.inr ⟨c,e',fz,rfl,hvg⟩,fun i hi=>?_⟩
     obtain⟨cs,y,hcs,hy⟩:=each i hi
     have hcs':(vs.drop (i*sz)).take sz=cs:=by
      unfold World.cells? at hcs
      rw[if_pos (zB0 _)]at hcs
      have hin:i*sz+sz≤len*sz:=by rw[←Nat.succ_mul]; exact Nat.mul_le_mul_right _ hi
      have hr:=mapM_range_of (f:=fun j=>w.cell? (((⟨b,off,none⟩:Addr).add (i*sz)).add j)) (g:=fun j=>vs.getD (i*sz+j) undef) sz (fun j hj=>by
       have h3:=hvg (i*sz+j) (by rw[hvl]; omega)
       rw[addr_add,addr_add,Nat.add_assoc]
       simp[World.cell?,hb,h3])
      rw[hr]at hcs
      cases hcs
      apply List.ext_getElem?
      intro j
      by_cases hj:j<sz
      ·rw[List.getElem?_take,if_pos hj,List.getElem?_drop,List.getElem?_map,List.getElem?_range hj,zA6 (by rw[hvl]; omega)]
       simp only[zA7,zE8]
       rw[zA6 (by rw[hvl]; omega)]
       rfl
      ·rw[zE0 (by simp; omega),zE0 (by simp; omega)]
     rw[hcs']
     exact⟨y,hy⟩
    |_=>simp[hb]at hv0
end
open Go.ChangeShapes
section
variable {P : Program} {ρ : Ren} {H : AHeap} {w : World}
variable {K : Type} {enc : TypeId × Value → K} {spare : Nat → Bool} {held : Bool}
theorem fit1_af {t:TypeId} {v:Value} (h:fit1 P t v=true):af v=true:=by
 unfold fit1 at h
 split at h<;>first|rfl|cases h
theorem fits_afm:∀ {ts:List TypeId} {cs:List Value},fits P ts cs=true→∀ v∈cs,af v=true
 |[],[],_,v,hv=>by cases hv
 |t::ts,c::cs,h,v,hv=>by
  simp only[fits,zA4]at h
  rcases zB2.1 hv with rfl|hv
  ·exact fit1_af h.1
  ·exact fits_afm h.2 v hv
 |[],_::_,h,_,_=>by cases h
 |_::_,[],h,_,_=>by cases h
def nu8 (P:Program) (t:TypeId):Bool :=
 match P.underlying t with
 |some (.int .u8)=>false
 |_=>true
theorem nu8_val {t:TypeId} {v:Value} (hn:nu8 P t=true) (h:fit1 P t v=true):isU8 v=false:=by
 unfold isU8
 split
 ·unfold fit1 at h
  unfold nu8 at hn
  split at h
  ·rename_i hv; cases hv
  ·rename_i k k' n hu hv
   cases hv
   have:k=.u8:=by simpa using h
   subst this
   rw[hu]at hn
   cases hn
  ·rename_i hv; cases hv
  ·cases h
 ·rfl
def chunkd (P:Program) (ts:List TypeId) (vs:List Value) (len:Nat):Prop:=∀ i,i<len→fits P ts ((vs.drop (i*ts.length)).take ts.length)=true
theorem chunkd_af {ts:List TypeId} {vs:List Value} {len:Nat} (hl:vs.length=len*ts.length) (h:chunkd P ts vs len):∀ v∈vs,af v=true:=by
 intro v hv
 rw[cut_flat len vs hl]at hv
 obtain⟨l,hl2,hv⟩:=List.mem_flatten.1 hv
 obtain⟨i,hi,rfl⟩:=List.mem_map.1 hl2
 exact fits_afm (h i (zF1.1 hi)) v hv
theorem map_val_af {vs:List Value} (h:∀ v∈vs,af v=true) (i:Nat) (hi:i<vs.length):ρ.val (vs.getD i undef)=vs.getD i undef :=
 val_af ρ _ (h _ (by simp[List.getD,hi]))
theorem Ro.slF (R:Ro P ρ H w) {t e t0:TypeId} {ts:List TypeId} {D fuel:Nat} {v:Value} {x:DataW K × List MemPlace} (ht:P.underlying t=some (.slice e)) (hsz:szOf P e=some (t0::ts).length) (hfl:flat P D e=some (t0::ts)) (hu:nu8 P t0=true)
  (hall:∀ b,spare b=true) (h:DataW.trod enc P w 0 spare held fuel t [v]=some x) :
  ∃ ρ1 H1 u vs len,Ro P ρ1 H1 w∧Ext H.next ρ ρ1∧Gro H H1∧ρ1.val u=v∧scb H1.next u=true∧SlAt H1 (t0::ts).length u vs len∧chunkd P (t0::ts) vs len:=by
 rcases DataW.trod_slice ht h with⟨h1,_⟩|⟨a,len,cap,_,_,_,_,h1,_,_,hlc,_⟩
 ·simp only[List.cons.injEq,and_true]at h1
  subst h1
  exact⟨ρ,H,.slice none 0 0,[],0,R,Ext.refl _ _,Gro.refl,by rw[Ren.val],rfl,⟨by simp,none,0,rfl,.inl rfl⟩,fun i hi=>absurd hi (by omega)⟩
 ·simp only[List.cons.injEq,and_true]at h1
  subst h1
  have hs0:=sl_spot hall ht hsz h
  obtain⟨b,off,s⟩:=a
  simp only at hs0
  rcases hs0 with hs0|⟨rfl,rfl⟩
  case inr =>
   obtain⟨ρ1,H1,u,q1,q2,q3,q4,q5,q6⟩:=R.sl (sz:=(t0::ts).length) (len:=0) (cap:=0) (b:=b) (off:=off) (sp:=s) (vs:=[]) (.inr ⟨rfl,rfl⟩) (by simp) (.inl rfl) rfl (.inl rfl) (zA5 _)
   exact⟨ρ1,H1,u,[],0,q1,q2,q3,q4,q5,q6,fun i hi=>absurd hi (by omega)⟩
  subst hs0
  obtain⟨vs,n,k1,k2,k3⟩:=sl_cells ht hsz h
  have hch:chunkd P (t0::ts) vs len:=fun i hi=>by
   obtain⟨y,hy⟩:=k3 i hi
   exact trod_fits n D e (t0::ts) _ y hfl hsz hy
  have haf:=chunkd_af k1 hch
  have hsc:scbL H.next vs=true:=scbL_of_af _ (afL_of haf)
  have h0:len=0∨∃ i,i<vs.length∧isU8 (ρ.val (vs.getD i undef))=false:=by
   rcases Nat.eq_zero_or_pos len with h|h
   ·exact .inl h
   ·right
    have hp:0<vs.length:=by rw[k1]; exact Nat.mul_pos h (by simp)
    refine⟨0,hp,?_⟩
    rw[map_val_af haf 0 hp]
    have hc:=hch 0 h
    rw[zE1,zD3]at hc
    cases vs with
    |nil=>simp at hp
    |cons y ys =>
     simp only[zB5,List.take_succ_cons,fits,zA4]at hc
     exact nu8_val hu hc.1
  have hcell:len=0∨∃ c e fz,w.heap[b]?=some (.cells c e fz)∧∀ i,i<vs.length→c[off+i]?=some (ρ.val (vs.getD i undef)):=by
   rcases k2 with h|⟨c,e',fz,h1,h2⟩
   ·left
    exact (Nat.mul_eq_zero.1 h).resolve_right (by simp)
   ·exact .inr ⟨c,e',fz,h1,fun i hi=>by rw[map_val_af haf i hi]; exact h2 i hi⟩
  obtain⟨ρ1,H1,u,q1,q2,q3,q4,q5,q6⟩:=R.sl (cap:=cap) (.inl rfl) k1 hcell hsc h0 hlc
  exact⟨ρ1,H1,u,vs,len,q1,q2,q3,q4,q5,q6,hch⟩
theorem Ro.rows {t e t0:TypeId} {ts:List TypeId} {D:Nat} (ht:P.underlying t=some (.slice e)) (hsz:szOf P e=some (t0::ts).length) (hfl:flat P D e=some (t0::ts)) (hu:nu8 P t0=true) (hall:∀ b,spare b=true) :
  ∀ (hs:List Value) {ρ:Ren} {H:AHeap},(∀ v∈hs,∃ (n:Nat) (x:DataW K × List MemPlace),DataW.trod enc P w 0 spare held n t [v]=some x)→Ro P ρ H w →
   ∃ ρ1 H1 us,Ro P ρ1 H1 w∧Ext H.next ρ ρ1∧Gro H H1∧us.map ρ1.val=hs∧scbL H1.next us=true∧∀ u∈us,∃ vs len,SlAt H1 (t0::ts).length u vs len∧chunkd P (t0::ts) vs len
 |[],ρ,H,_,R=>⟨ρ,H,[],R,Ext.refl _ _,Gro.refl,rfl,rfl,fun u hu=>by cases hu⟩
 |v::hs,ρ,H,hh,R=>by
  obtain⟨n,x,hx⟩:=hh v (by simp)
  obtain⟨ρ1,H1,u,vs,len,a1,a2,a3,a4,a5,a6,a7⟩:=R.slF ht hsz hfl hu hall hx
  obtain⟨ρ2,H2,us,b1,b2,b3,b4,b5,b6⟩:=Ro.rows ht hsz hfl hu hall hs (fun v hv=>hh v (by simp[hv])) a1
  refine⟨ρ2,H2,u::us,b1,a2.trans b2 a3.next,a3.trans b3,?_,?_,?_⟩
  ·rw[zB7,b4,val_ext b2 u a5,a4]
  ·simp only[scbL,scb_mono b3.next u a5,b5,zD1]
  ·intro y hy
   rcases zB2.1 hy with rfl|hy
   ·exact⟨vs,len,a6.gro b3,a7⟩
   ·exact b6 y hy
theorem trod_nu8 {t e:TypeId} {n:Nat} {v:Value} {x:DataW K × List MemPlace} (ht:P.underlying t=some (.slice e)) (h:DataW.trod enc P w 0 spare held n t [v]=some x):isU8 v=false:=by
 rcases DataW.trod_slice ht h with⟨h1,_⟩|⟨a,len,cap,_,_,_,_,h1,_⟩
 ·simp only[List.cons.injEq,and_true]at h1
  subst h1
  rfl
 ·simp only[List.cons.injEq,and_true]at h1
  subst h1
  rfl
theorem Ro.grid (R:Ro P ρ H w) {t2 t e t0:TypeId} {ts:List TypeId} {D fuel:Nat} {v:Value} {x:DataW K × List MemPlace} (ht2:P.underlying t2=some (.slice t)) (hs1:szOf P t=some 1) (ht:P.underlying t=some (.slice e)) (hsz:szOf P e=some (t0::ts).length) (hfl:flat P D e=some (t0::ts)) (hu:nu8 P t0=true)
  (hall:∀ b,spare b=true) (h:DataW.trod enc P w 0 spare held fuel t2 [v]=some x) :
  ∃ ρ1 H1 u us,Ro P ρ1 H1 w∧Ext H.next ρ ρ1∧Gro H H1∧ρ1.val u=v∧scb H1.next u=true∧SlAt H1 1 u us us.length∧∀ y∈us,∃ vs len,SlAt H1 (t0::ts).length y vs len∧chunkd P (t0::ts) vs len:=by
 rcases DataW.trod_slice ht2 h with⟨h1,_⟩|⟨a,len,cap,_,_,_,_,h1,_,_,hlc,_⟩
 ·simp only[List.cons.injEq,and_true]at h1
  subst h1
  exact⟨ρ,H,.slice none 0 0,[],R,Ext.refl _ _,Gro.refl,by rw[Ren.val],rfl,⟨by simp,none,0,rfl,.inl rfl⟩,fun y hy=>by cases hy⟩
 ·simp only[List.cons.injEq,and_true]at h1
  subst h1
  have hs0:=sl_spot hall ht2 hs1 h
  obtain⟨b,off,s⟩:=a
  simp only at hs0
  rcases hs0 with hs0|⟨rfl,rfl⟩
  case inr =>
   obtain⟨ρ1,H1,u,q1,q2,q3,q4,q5,q6⟩:=R.sl (sz:=1) (len:=0) (cap:=0) (b:=b) (off:=off) (sp:=s) (vs:=[]) (.inr ⟨rfl,rfl⟩) (by simp) (.inl rfl) rfl (.inl rfl) (zA5 _)
   exact⟨ρ1,H1,u,[],q1,q2,q3,q4,q5,q6,fun y hy=>by cases hy⟩
  subst hs0
  obtain⟨vs,n,k1,k2,k3⟩:=sl_cells ht2 hs1 h
  rw[Nat.mul_one]at k1
  have hmem:∀ v∈vs,∃ (n:Nat) (x:DataW K × List MemPlace),DataW.trod enc P w 0 spare held n t [v]=some x:=fun v hv=>by
   obtain⟨i,hi,rfl⟩:=List.getElem_of_mem hv
   obtain⟨y,hy⟩:=k3 i (by omega)
   have e1:(vs.drop (i*1)).take 1=[vs[i]]:=by
    rw[Nat.mul_one,zF0 hi]
    rfl
   rw[e1]at hy
   exact⟨n,y,hy⟩
  obtain⟨ρ1,H1,us,b1,b2,b3,b4,b5,b6⟩:=Ro.rows ht hsz hfl hu hall vs hmem R
  have hlen:us.length=vs.length:=by rw[←b4,List.length_map]
  have hval:∀ i,i<us.length→ρ1.val (us.getD i undef)=vs.getD i undef:=fun i hi=>by
   rw[←b4]
   simp[List.getD,hi]
  have hcell:len=0∨∃ c e fz,w.heap[b]?=some (.cells c e fz)∧∀ i,i<us.length→c[off+i]?=some (ρ1.val (us.getD i undef)):=by
   rcases k2 with h|⟨c,e',fz,h1,h2⟩
   ·exact .inl (by omega)
   ·exact .inr ⟨c,e',fz,h1,fun i hi=>by rw[hval i hi]; exact h2 i (by omega)⟩
  have h0:len=0∨∃ i,i<us.length∧isU8 (ρ1.val (us.getD i undef))=false:=by
   rcases Nat.eq_zero_or_pos len with h|h
   ·exact .inl h
   ·refine .inr ⟨0,by omega,?_⟩
    rw[hval 0 (by omega)]
    have hv:vs.getD 0 undef∈vs:=by
     have h0:0<vs.length:=by omega
     simp[List.getD,h0]
    obtain⟨n,y,hy⟩:=hmem _ hv
    exact trod_nu8 ht hy
  obtain⟨ρ2,H2,u,q1,q2,q3,q4,q5,q6⟩:=b1.sl (sp:=none) (.inl rfl) (sz:=1) (vs:=us) (len:=len) (cap:=cap) (b:=b) (off:=off) (by omega) hcell b5 h0 hlc
  refine⟨ρ2,H2,u,us,q1,b2.trans q2 b3.next,b3.trans q3,q4,q5,?_,fun y hy=>?_⟩
  ·rw[show us.length=len by omega]; exact q6
  ·obtain⟨vs',l',j1,j2⟩:=b6 y hy
   exact⟨vs',l',j1.gro q3,j2⟩
end
open Go.ChangeShapes
section
variable {P : Program} {ρ : Ren} {H : AHeap} {w : World}
variable {K : Type} {enc : TypeId × Value → K} {spare : Nat → Bool} {held : Bool}
def flds (P:Program) (t:TypeId):Option (List (TypeId × Nat)) :=
 match P.underlying t with
 |some (.struct fs)=>some (fs.toList.map fun f=>(f.type,f.offset))
 |_=>none
theorem trod_flds {t:TypeId} {l:List (TypeId × Nat)} {fuel base:Nat} {cs:List Value} {x:DataW K × List MemPlace} (h:flds P t=some l) (hx:DataW.trod enc P w base spare held fuel t cs=some x) :
  cs.length=P.cellsOf t∧∃ n:Nat,∀ (i:Nat) (ty:TypeId) (off:Nat),l[i]?=some (ty,off)→∃ y,DataW.trod enc P w base spare held n ty ((cs.drop off).take (P.cellsOf ty))=some y:=by
 unfold flds at h
 split at h
 ·rename_i fs hu
  simp only[Option.some.injEq]at h
  subst h
  obtain⟨xs,n,_,_,hl,hxs,hf⟩:=DataW.trod_struct hu hx
  refine⟨hl,n,fun i ty off hi=>?_⟩
  rw[List.getElem?_map,zB1]at hi
  obtain⟨f,hfi,he⟩:=hi
  simp only[Prod.mk.injEq]at he
  obtain⟨rfl,rfl⟩:=he
  have hfi':fs[i]?=some f:=by simpa using hfi
  have hlt:i<fs.size:=(Array.getElem?_eq_some_iff.1 hfi').1
  have:=hf i f hfi'
  rw[zA6 (by omega)]at this
  exact⟨_,this⟩
 ·cases h
theorem chunk_of {α:Type} {ts:List TypeId} {f:α→List Value} (hf:∀ cs,fits P ts cs=true→∃ a,cs=f a):∀ (len:Nat) (vs:List Value),vs.length=len*ts.length→chunkd P ts vs len→∃ l:List α,l.length=len∧vs=l.flatMap f
 |0,vs,hl,_=>⟨[],rfl,by simpa using hl⟩
 |len+1,vs,hl,h=>by
  have h0:=h 0 (by omega)
  rw[zE1,zD3]at h0
  obtain⟨a,ha⟩:=hf _ h0
  have hlen:ts.length≤vs.length:=by rw[hl,Nat.succ_mul]; omega
  obtain⟨l,h1,h2⟩:=chunk_of hf len (vs.drop ts.length) (by rw[zD8,hl,Nat.succ_mul]; omega) (fun i hi=>by
   have:=h (i+1) (by omega)
   rw[List.drop_drop]
   rw[Nat.succ_mul,Nat.add_comm]at this
   exact this)
  refine⟨a::l,by simp[h1],?_⟩
  rw[zF8,←h2,←ha,List.take_append_drop]
theorem Rel.rk_sc (r:Rel P ρ H w) {n:Nat} {b:Bl} (h:rk H n=some b):scbL H.next b.l=true:=by
 rw[rk_eq]at h
 unfold cellsR at h
 split at h
 ·rename_i a e q o v hg
  simp only[zA7,Option.some.injEq]at h
  subst h
  have:=(r.dom _ _ hg).2
  simp only[sco]at this
  exact gets_sc this (by omega)
 ·cases h
end
end Go.Ax
namespace Go.Proofs.YtaojjfebkldmnaaDoor
open Go.ChangeShapes Go.WideShapes Go.ChangeAt Go.RowKit Go.Ax
theorem trodAll_carry {K:Type} {enc:TypeId × Value→K} {P:Program} (hl:laidOutB P=true) {W W':World} (hb:Below W.heap.size W W'):∀ {ts:List TypeId} {vs:List Value} {ds:List (DataW K)} {ps:List MemPlace},
  (ts.all fun t=>P.readableRec t&&Nat.blt t P.types.size)=true→DataW.TrodAll enc P W 0 (fun _=>true) true ts vs ds ps→(∀ x∈ps,x.block<W.heap.size)→DataW.TrodAll enc P W' 0 (fun b=>decide (b<W.heap.size)) true ts vs ds ps
 |[],[],[],ps,_,h,_=>h
 |t::ts,v::vs,d::ds,ps,ht,h,hp=>by
  obtain⟨p,q,h1,h2,rfl⟩:=h
  simp only[List.all_cons,zA4]at ht
  exact⟨p,q,Below.trod hl ht.1.1 (blt_lt ht.1.2) h1 hb (fun x hx=>hp x (by simp[hx])),trodAll_carry hl hb (by simpa using ht.2) h2 (fun x hx=>hp x (by simp[hx])),rfl⟩
theorem Tryd.own:ownKnob Tryd.prog.godebug=none:=by kernel_rfl
theorem Tryd.laidOut:laidOutB Tryd.prog=true:=by kernel_rfl
theorem la_u3:Tryd.prog.underlying 3=some (.int .i64):=by kernel_rfl
theorem la_u4:Tryd.prog.underlying 4=some .bool:=by kernel_rfl
theorem la_f24:flds Tryd.prog 24=some [(22,0),(3,1),(3,2)]:=by kernel_rfl
theorem ce_of:∀ cs,fits Tryd.prog [3,3,3,4,4,4] cs=true→∃ c:Ce,cs=c.cells:=fun cs h=>by
 have hl:=fits_length h
 match cs,hl,h with
 |[a,b,c,d,e,f],_,h =>
  simp only[fits,zA4,Bool.and_true]at h
  obtain⟨h1,h2,h3,h4,h5,h6⟩:=h
  unfold fit1 at h1 h2 h3 h4 h5 h6
  rw[la_u3]at h1 h2 h3
  rw[la_u4]at h4 h5 h6
  cases a<;>simp at h1
  cases b<;>simp at h2
  cases c<;>simp at h3
  cases d<;>simp at h4
  cases e<;>simp at h5
  cases f<;>simp at h6
  subst h1 h2 h3
  exact⟨⟨_,_,_,_,_,_⟩,rfl⟩
theorem SlAt.slE {H:AHeap} {u:Value} {vs:List Value} {len sz:Nat} (h:SlAt H sz u vs len) (h0:len≠0):SlE H sz u vs len:=by
 obtain⟨h1,a,cap,rfl,h3⟩:=h
 obtain⟨n,e,rfl,h4,h5,h6⟩:=h3.resolve_left h0
 refine⟨n,0,some 0,cap-len,e,true,vs,by rw[show len+(cap-len)=cap by omega],.inl rfl,h5,h4,by omega,?_⟩
 rw[zD3,zE6 (by omega)]
theorem slAt_row {H:AHeap} {u:Value} {vs:List Value} {len:Nat} (h:SlAt H 6 u vs len) (hc:chunkd Tryd.prog [3,3,3,4,4,4] vs len):∃ row,RowS H u row:=by
 obtain⟨l,hl,rfl⟩:=chunk_of ce_of len vs h.1 hc
 by_cases h0:l=[]
 ·obtain⟨_,a,cap,rfl,_⟩:=h
  subst h0
  subst hl
  exact⟨[],.inl ⟨rfl,a,cap,rfl⟩⟩
 ·have hne:len≠0:=fun h=>h0 (zC5 (by omega))
  have:=SlAt.slE h hne
  rw[←hl]at this
  exact⟨l,.inr ⟨h0,this⟩⟩
theorem rows_of {H:AHeap}:∀ {us:List Value},(∀ y∈us,∃ row,RowS H y row)→∃ g:List (List Ce),g.length=us.length∧∀ (k:Nat) row,g[k]?=some row→∃ rv,us[k]?=some rv∧RowS H rv row
 |[],_=>⟨[],rfl,fun k row h=>by simp at h⟩
 |u::us,h=>by
  obtain⟨row,hr⟩:=h u (by simp)
  obtain⟨g,h1,h2⟩:=rows_of (us:=us) (fun y hy=>h y (by simp[hy]))
  refine⟨row::g,by simp[h1],fun k r hk=>?_⟩
  cases k with
  |zero =>
   simp only[zF5,Option.some.injEq]at hk
   subst hk
   exact⟨u,rfl,hr⟩
  |succ k=>exact h2 k r (by simpa using hk)
theorem SlE.gro {H G:AHeap} {u:Value} {L:List Value} {sz cnt:Nat} (h:SlE H sz u L cnt) (y:Gro H G):SlE G sz u L cnt:=h.of y.next fun n hn=>y.get n (h.ne n hn).2
theorem RowS.gro {H G:AHeap} {v:Value} {l:List Ce} (h:RowS H v l) (y:Gro H G):RowS G v l:=h.imp id fun⟨h0,h1⟩=>⟨h0,h1.gro y⟩
theorem GridS.gro {H G:AHeap} {v:Value} {g:List (List Ce)} (h:GridS H v g) (y:Gro H G):GridS G v g:=h.imp id fun⟨h0,rvs,h1,h2,h3⟩=>⟨h0,rvs,h1,h2.gro y,fun k row hk=>let ⟨rv,h4,h5⟩:=h3 k row hk; ⟨rv,h4,h5.gro y⟩⟩
section
variable {K : Type} {enc : TypeId × Value → K} {held : Bool} {W : World} {ρ : Ren} {H : AHeap}
theorem ro_screen (R:Ro Tryd.prog ρ H W) {v:Value} {d:DataW K} {p:List MemPlace} (h:DataW.Trod enc Tryd.prog W 0 (fun _=>true) held 24 v d p) :
  ∃ ρ1 H1 u g r c,Ro Tryd.prog ρ1 H1 W∧Ext H.next ρ ρ1∧Gro H H1∧ρ1.val (.agg ⟨[u,.int .i64 r,.int .i64 c]⟩)=v∧scb H1.next u=true∧GridS H1 u g∧GridSc H1 u:=by
 obtain⟨fuel,hf⟩:=h
 obtain⟨hl,n,hs⟩:=trod_flds la_f24 hf
 rw[cellsOf_szOf (n:=3) (by kernel_rfl)]at hl
 have c22:Tryd.prog.cellsOf 22=1:=cellsOf_szOf (by kernel_rfl)
 have c3:Tryd.prog.cellsOf 3=1:=cellsOf_szOf (by kernel_rfl)
 cases v with
 |agg cs =>
  obtain⟨cs⟩:=cs
  simp only[Value.cells]at hl hs
  match cs,hl,hs with
  |[a,b,c],_,hs =>
   obtain⟨y0,h0⟩:=hs 0 22 0 rfl
   obtain⟨y1,h1⟩:=hs 1 3 1 rfl
   obtain⟨y2,h2⟩:=hs 2 3 2 rfl
   rw[c22]at h0
   rw[c3]at h1 h2
   obtain⟨r,e1,_⟩:=DataW.trod_int la_u3 h1
   obtain⟨q,e2,_⟩:=DataW.trod_int la_u3 h2
   simp only[List.drop_succ_cons,zD3,List.take_succ_cons,List.take_zero,List.cons.injEq,and_true]at e1 e2 h0
   subst e1 e2
   obtain⟨ρ1,H1,u,us,k1,k2,k3,k4,k5,k6,k7⟩:=R.grid (t2:=22) (t:=56) (e:=55) (t0:=3) (ts:=[3,3,4,4,4]) (D:=1000) (by kernel_rfl) (by kernel_rfl) (by kernel_rfl) (by kernel_rfl) (by kernel_rfl) (by kernel_rfl) (fun _=>rfl) h0
   obtain⟨g,hg1,hg2⟩:=rows_of (H:=H1) (us:=us) (fun y hy=>by
    obtain⟨vs,len,j1,j2⟩:=k7 y hy
    exact slAt_row j1 j2)
   refine⟨ρ1,H1,u,g,r,q,k1,k2,k3,?_,k5,?_,fun n off s len c b _ hb=>k1.rel.rk_sc hb⟩
   ·simp[Ren.val,Ren.valA,Ren.valL,k4]
   ·obtain⟨j1,a,cap,rfl,j3⟩:=k6
    by_cases h0:g=[]
    ·subst h0
     have:us.length=0:=by simpa using hg1.symm
     rw[this]
     exact .inl ⟨rfl,a,cap,rfl⟩
    ·have hne:us.length≠0:=fun h=>h0 (zC5 (by omega))
     have hE:=SlAt.slE (H:=H1) (sz:=1) (u:=.slice a us.length cap) ⟨j1,a,cap,rfl,j3⟩ hne
     rw[←hg1]at hE
     exact .inr ⟨h0,us,hg1.symm,by rw[hg1]at hE ⊢; exact hE,hg2⟩
 |_=>simp[Value.cells]at hl
end
open Go.ChangeShapes Go.WideShapes Go.ChangeAt Go.RowKit Go.Ax
def Laid (w:World) (e1 e2:TypeId):Prop:=(∃ c,w.heap[0]?=some (.cells c e1 (0,0))∧c.toList=dc fstD)∧∃ c,w.heap[1]?=some (.cells c e2 (0,0))∧c.toList=dc accD
theorem tabs_laid {w:World} (h:laidMet Tryd.prog Rows.diffLeastRow.laid w):∃ e1 e2,Laid w e1 e2:=by
 obtain⟨c1,t1,a1,b1⟩:=laid_tab h (name := "unicode/utf8.first") (d:=fstD) (.tail _ (.head _)) (g:=0) (t:=142) (e:=5) (ts:=[5]) (D:=1000) (n:=256) (by kernel_rfl) (by kernel_rfl) (by kernel_rfl) (by kernel_rfl) (by kernel_rfl) (by kernel_rfl) (by kernel_rfl) (blt_lt (by kernel_rfl))
 obtain⟨c2,t2,a2,b2⟩:=laid_tab h (name := "unicode/utf8.acceptRanges") (d:=accD) (.head _) (g:=1) (t:=145) (e:=144) (ts:=[5,5]) (D:=1000) (n:=16) (by kernel_rfl) (by kernel_rfl) (by kernel_rfl) (by kernel_rfl) (by kernel_rfl) (by kernel_rfl) (by kernel_rfl) (blt_lt (by kernel_rfl))
 exact⟨t1,t2,⟨c1,a1,b1⟩,c2,a2,b2⟩
theorem bk_put_eq {H:AHeap} {g:Nat} {e:TypeId} {vs:List Value}:bk (H.put g (some (tabO e vs))) g=some ⟨e,false,vs⟩:=by
 refine blk_bk ⟨RV.ofList vs,?_,RV.n_ofList _,fun i hi=>?_⟩
 ·simp only[cellsAt,AHeap.get_put,if_true,tabO]
 ·rw[RV.get_ofList]
theorem Laid.ro {W:World} {e1 e2:TypeId} (hl:Laid W e1 e2):∃ ρ H,Ro Tryd.prog ρ H W∧Tab H∧1<H.next:=by
 have h2:2≤Tryd.prog.globals.size:=zA9 (by kernel_rfl)
 obtain⟨N,hN⟩:∃ N,Tryd.prog.globals.size=N:=⟨_,rfl⟩
 rw[hN]at h2
 have r:Rel Tryd.prog (enR N 0 0) (AHeap.none (N+1)) W:=⟨zA5 _,⟨by rw[hN]; exact Nat.le_succ N,fun g hg=>by
   have:g≠N:=by omega
   exact⟨if_neg this,if_neg this⟩⟩,fun m _ hm=>absurd (none_get _ m) hm,fun n o ho=>(by rw[none_get]at ho; cases ho),fun n o ho=>(by rw[none_get]at ho; cases ho)⟩
 obtain⟨⟨c1,a1,b1⟩,c2,a2,b2⟩:=hl
 have r1:=rel_tab r (g:=0) (by omega) rfl (fun n h1 h2=>absurd (none_get _ n) h1) a1 b1 (by kernel_rfl)
 have r2:=rel_tab r1 (g:=1) (by omega) rfl (fun n h1 h3=>by
  rw[AHeap.get_put]at h1
  by_cases e:n=0
  ·subst e
   rw[show (enR N 0 0).blk 0=0 from if_neg (by omega)]at h3
   exact absurd h3 (by decide)
  ·rw[if_neg e]at h1; exact absurd (none_get _ n) h1) a2 b2 (by kernel_rfl)
 refine⟨_,_,⟨r2,rfl,rfl,fun n hn=>.inr ?_⟩,⟨e1,e2,?_,bk_put_eq⟩,by show 1<N+1; omega⟩
 ·rw[AHeap.get_put,AHeap.get_put]at hn
  by_cases h1:n=1
  ·subst h1
   refine⟨by omega,c2,e2,a2,fun v hv=>?_⟩
   rw[b2]at hv
   exact zC0.1 (show (dc accD).all isU8=true by kernel_rfl) v hv
  ·rw[if_neg h1]at hn
   by_cases h0:n=0
   ·subst h0
    refine⟨by omega,c1,e1,a1,fun v hv=>?_⟩
    rw[b1]at hv
    exact zC0.1 (show (dc fstD).all isU8=true by kernel_rfl) v hv
   ·rw[if_neg h0]at hn
    exact absurd (none_get _ n) hn
 ·rw[bk_get (G:=(AHeap.none (N+1)).put 0 (some (tabO e1 (dc fstD)))) (by rw[AHeap.get_put,if_neg (by decide)])]
  exact bk_put_eq
end Go.Proofs.YtaojjfebkldmnaaDoor
