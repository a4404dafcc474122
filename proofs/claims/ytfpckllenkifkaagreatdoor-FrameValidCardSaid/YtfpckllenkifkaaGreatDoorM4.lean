/- Parts of the proof, one behind the other. -/
import Derived.Test.YtfpckllenkifkaaGreatDoorM3
import Derived.ChangeArms
import Derived.SizedLaws
import Derived.Test.YtfpckllenkifkaaGreatDoorProg
import Derived.KernelRfl
import Derived.Shelf.Bits.Mul64
import Derived.Test.YtfpckllenkifkaaGreatDoorRows
import Derived.Shelf.Unicode.ValidAny
import Derived.Lib.ValidLaws
import Derived.Lib.TrimUEq
set_option linter.all false
set_option maxRecDepth 10000
set_option maxHeartbeats 16000000
open And renaming intro -> zA0
open Option renaming bind_eq_bind -> zA1, bind_eq_some_iff -> zA2, bind_some -> zA3, map_some -> zA5, map_eq_some_iff -> zA6
open Bool renaming and_eq_true -> zA4, false_eq_true -> zB7, and_self -> zD6
open List renaming getElem?_eq_getElem -> zA7, length_cons -> zB0, mem_cons -> zB1, map_cons -> zB3, mem_singleton -> zB4, mem_cons_of_mem -> zB5, mem_cons_self -> zB9, mem_of_getElem? -> zC2, all_eq_true -> zC4, getElem?_cons_zero -> zC5, getElem?_eq_none -> zC6, drop_zero -> zC7, length_append -> zC8, mem_append -> zC9, getElem?_cons_succ -> zD0, length_replicate -> zD2, eq_nil_of_length_eq_zero -> zD4, nil_append -> zD5, length_nil -> zD7, map_congr_left -> zD8, mem_map -> zE0, flatMap_cons -> zE1, append_nil -> zE2, length_take -> zE3, length_drop -> zE4
open Nat renaming le_refl -> zA8, zero_le -> zA9, le_of_ble_eq_true -> zB2, lt_or_ge -> zB6, le_trans -> zB8, zero_add -> zC0, lt_succ_self -> zC1, lt_of_lt_of_le -> zC3, min -> zD1, add_zero -> zD3, eq_of_beq_eq_true -> zD9

namespace Go.Ax
open Go.ChangeShapes
section
variable {P : Program} {ρ : Ren} {H : AHeap} {w : World}
def roObj (e:TypeId) (vs:List Value):AObj:=⟨.cells #[] e (1,0),true,RV.ofList vs⟩
theorem roObj_fz {e:TypeId} {vs:List Value}:Fz (some (roObj e vs)):=⟨_,rfl,rfl⟩
def roH (H:AHeap) (e:TypeId) (vs:List Value):AHeap:=⟨rootPut H.root H.next (some (roObj e vs)),H.next+1,H.next+1,H.dirty⟩
theorem roH_get {e:TypeId} {vs:List Value} (m:Nat):(roH H e vs).get m=if m=H.next then some (roObj e vs) else H.get m:=rootPut_get _ _ _ _
theorem roH_rk {e:TypeId} {vs:List Value}:rk (roH H e vs) H.next=some ⟨e,true,vs⟩:=by
 rw[rk_eq]
 simp only[cellsR,roH_get,if_true,roObj,zA5,RV.n_ofList,RV.gets_ofList]
def isU8:Value->Bool
 |.int .u8 _=>true
 |.int .u64 _=>true
 |_=>false
structure Ro (P:Program) (ρ:Ren) (H:AHeap) (w:World):Prop where
 rel:Rel P ρ H w
 base:H.base=H.next
 dirty:H.dirty=[]
 al:∀ n,H.get n≠none->Fz (H.get n)\/n<P.globals.size/\∃ c e,w.heap[n]?=some (.cells c e (0,0))/\∀ v∈c.toList,isU8 v=true
structure Gro (H H1:AHeap):Prop where
 next:H.next<=H1.next
 get:∀ n,n<H.next->H1.get n=H.get n
theorem Gro.refl:Gro H H:=⟨zA8 _,fun _ _=>rfl⟩
theorem Gro.trans {H1 H2:AHeap} (a:Gro H H1) (b:Gro H1 H2):Gro H H2:=⟨zB8 a.next b.next,fun n hn=>(b.get n (zC3 hn a.next)).trans (a.get n hn)⟩
theorem Ro.add (R:Ro P ρ H w) {b off:Nat} {e:TypeId} {c:Array Value} {fz:Nat × Nat} {vs:List Value} (hb:w.heap[b]?=some (.cells c e fz)) (hc:∀ i,i<vs.length->c[off+i]?=some (ρ.val (vs.getD i undef)))
  (hs:scbL H.next vs=true) (h0:∃ i,i<vs.length/\isU8 (ρ.val (vs.getD i undef))=false):Ro P (ρ.at H.next b off 0) (roH H e vs) w/\Ext H.next ρ (ρ.at H.next b off 0)/\Gro H (roH H e vs):=by
 have ex:=Ren.at_ext ρ H.next b off 0
 have r:=R.rel
 have hal:∀ n,H.get n≠none->ρ.blk n=b->Fz (H.get n):=fun n hn he=>by
  rcases R.al n hn with h|⟨hg,c',e',h1,h2⟩
  ·exact h
  ·rw[(r.glob.2 n hg).1]at he
   subst he
   rw[hb]at h1
   simp only[Option.some.injEq,Obj.cells.injEq]at h1
   obtain⟨i,hi,hu⟩:=h0
   have h3:=hc i hi
   rw[h1.1]at h3
   have:=h2 _ (Array.mem_toList_iff.2 (Array.mem_of_getElem? h3))
   rw[hu]at this
   cases this
 have hgr:Gro H (roH H e vs):=⟨Nat.le_succ _,fun n hn=>by rw[roH_get,if_neg (by omega)]⟩
 refine⟨⟨⟨zA8 _,⟨Nat.le_succ_of_le r.glob.1,fun g hg=>?_⟩,fun m n hm hn he=>?_,fun n o hn=>?_,fun n o hn=>?_⟩,rfl,R.dirty,fun n hn=>?_⟩,ex,hgr⟩
 ·have:=r.glob.1
  rw[ex.blk g (by omega),ex.sh g (by omega)]; exact r.glob.2 g hg
 ·rw[roH_get]at hm hn ⊢
  rw[roH_get]
  by_cases h1:m=H.next<;>by_cases h2:n=H.next
  ·exact .inl (h1.trans h2.symm)
  ·rw[if_neg h2]at hn
   rw[if_pos h1,if_neg h2]
   subst h1
   rw[Ren.at_blk,ex.blk n (r.lt hn)]at he
   exact .inr ⟨roObj_fz,hal n hn he.symm⟩
  ·rw[if_neg h1]at hm
   rw[if_neg h1,if_pos h2]
   subst h2
   rw[Ren.at_blk,ex.blk m (r.lt hm)]at he
   exact .inr ⟨hal m hm he,roObj_fz⟩
  ·rw[if_neg h1]at hm
   rw[if_neg h2]at hn
   rw[if_neg h1,if_neg h2]
   rw[ex.blk m (r.lt hm),ex.blk n (r.lt hn)]at he
   exact r.inj m n hm hn he
 ·rw[roH_get]at hn
  by_cases h:n=H.next
  ·rw[if_pos h]at hn
   cases hn
   subst h
   refine⟨zC1 _,?_⟩
   simp only[sco,roObj,RV.n_ofList,RV.get_ofList]
   intro i hi
   exact scb_mono (Nat.le_succ _) _ (scbL_iff.1 hs _ (by simp[List.getD,hi]))
  ·rw[if_neg h]at hn
   have:=r.dom n o hn
   exact⟨Nat.lt_succ_of_lt this.1,this.2.mono (Nat.le_succ _)⟩
 ·rw[roH_get]at hn
  by_cases h:n=H.next
  ·rw[if_pos h]at hn
   cases hn
   subst h
   refine⟨_,by rw[Ren.at_blk]; exact hb,?_⟩
   simp only[Fits,roObj]
   refine⟨c,fz,rfl,fun i hi=>?_,fun h=>(by cases h),fun _ h=>(by cases h)⟩
   simp only[RV.n_ofList]at hi
   rw[RV.get_ofList,Ren.at_sh,val_ext ex _ (scbL_iff.1 hs _ (by simp[List.getD,hi])),Nat.add_comm]
   exact hc i hi
  ·rw[if_neg h]at hn
   obtain⟨o',h1,h2⟩:=r.obj n o hn
   have hd:=r.dom n o hn
   exact⟨o',by rw[ex.blk n hd.1]; exact h1,h2.ext hd.1 hd.2 ex⟩
 ·rw[roH_get]at hn ⊢
  by_cases h:n=H.next
  ·rw[if_pos h]; exact .inl roObj_fz
  ·rw[if_neg h]at hn ⊢
   exact R.al n hn
theorem Ro.skipE (R:Ro P ρ H w) {ρ':Ren} (ex:Ext H.next ρ ρ'):Ro P ρ' ⟨H.root,H.next+1,H.next+1,H.dirty⟩ w/\Gro H ⟨H.root,H.next+1,H.next+1,H.dirty⟩:=by
 have r:=R.rel
 have hg:∀ n,(⟨H.root,H.next+1,H.next+1,H.dirty⟩:AHeap).get n=H.get n:=fun n=>rfl
 refine⟨⟨⟨zA8 _,⟨Nat.le_succ_of_le r.glob.1,fun g hg=>?_⟩,fun m n hm hn he=>?_,fun n o hn=>?_,fun n o hn=>?_⟩,rfl,R.dirty,fun n hn=>R.al n hn⟩,Nat.le_succ _,fun n _=>rfl⟩
 ·have:=r.glob.1
  rw[ex.blk g (by omega),ex.sh g (by omega)]; exact r.glob.2 g hg
 ·rw[hg]at hm hn
  rw[ex.blk m (r.lt hm),ex.blk n (r.lt hn)]at he
  exact r.inj m n hm hn he
 ·have:=r.dom n o hn
  exact⟨Nat.lt_succ_of_lt this.1,this.2.mono (Nat.le_succ _)⟩
 ·obtain⟨o',h1,h2⟩:=r.obj n o hn
  have hd:=r.dom n o hn
  exact⟨o',by rw[ex.blk n hd.1]; exact h1,h2.ext hd.1 hd.2 ex⟩
theorem Ro.skip (R:Ro P ρ H w) (b off:Nat):Ro P (ρ.at H.next b off 0) ⟨H.root,H.next+1,H.next+1,H.dirty⟩ w/\Ext H.next ρ (ρ.at H.next b off 0)/\Gro H ⟨H.root,H.next+1,H.next+1,H.dirty⟩ :=
 ⟨(R.skipE (Ren.at_ext ρ H.next b off 0)).1,Ren.at_ext ρ H.next b off 0,(R.skipE (Ren.at_ext ρ H.next b off 0)).2⟩
def Ren.atJ (ρ:Ren) (n b s j:Nat):Ren:=⟨fun m=>if m=n then b else ρ.blk m,fun m=>if m=n then s else ρ.sh m,fun m=>if m=n then 0 else ρ.ex m,fun m=>if m=n then .int .i64 j else ρ.op m,fun m=>by
 by_cases h:m=n
 ·simp only[h,if_true]; rfl
 ·simp only[h,if_false]; exact ρ.op1 m⟩
theorem Ren.atJ_ext (ρ:Ren) (n b s j:Nat):Ext n ρ (ρ.atJ n b s j) :=
 ⟨fun m h=>if_neg (Nat.ne_of_lt h),fun m h=>if_neg (Nat.ne_of_lt h),fun m h=>if_neg (Nat.ne_of_lt h),fun m h=>if_neg (Nat.ne_of_lt h)⟩
theorem val_slJ {N b off j:Nat}:(ρ.atJ N b off j).val (.slice (some ⟨N,0,some 1⟩) 0 0)=.slice (some ⟨b,off,some j⟩) 0 0:=by
 simp[Ren.val,Ren.atJ,Ren.offS,Ren.spS,Ren.capS,spO]
def SlAt (H:AHeap) (sz:Nat) (u:Value) (vs:List Value) (len:Nat):Prop :=
 vs.length=len*sz/\∃ a cap,u=.slice a len cap/\(len=0\/∃ n e,a=some ⟨n,0,some 0⟩/\n<H.next/\rk H n=some ⟨e,true,vs⟩/\len<=cap)
theorem SlAt.gro {H1:AHeap} {sz:Nat} {u:Value} {vs:List Value} {len:Nat} (h:SlAt H sz u vs len) (g:Gro H H1):SlAt H1 sz u vs len:=by
 obtain⟨h1,a,cap,h2,h3⟩:=h
 refine⟨h1,a,cap,h2,h3.imp id ?_⟩
 rintro⟨n,e,h4,h5,h6,h7⟩
 exact⟨n,e,h4,zC3 h5 g.next,(rk_get (g.get n h5)).trans h6,h7⟩
theorem val_sl {N b off len cap:Nat}:(ρ.at N b off 0).val (.slice (some ⟨N,0,some 0⟩) len cap)=.slice (some ⟨b,off,none⟩) len cap:=by
 simp[Ren.val,Ren.at_blk,Ren.at_sh]
def Cut0 (u:Value):Prop:=∃ a len cap,u=.slice a len cap/\len<=cap/\(a=none/\len=0\/(∃ n,a=some ⟨n,0,some 0⟩)\/len=0/\∃ n,a=some ⟨n,0,some 1⟩)
theorem Ro.slC (R:Ro P ρ H w) {sz len cap b off:Nat} {sp:Option Nat} (hspot:sp=none\/len=0/\cap=0) {vs:List Value} (hlen:vs.length=len*sz)
  (hcell:len=0\/∃ c e fz,w.heap[b]?=some (.cells c e fz)/\∀ i,i<vs.length->c[off+i]?=some (ρ.val (vs.getD i undef))) (hs:scbL H.next vs=true) (h0:len=0\/∃ i,i<vs.length/\isU8 (ρ.val (vs.getD i undef))=false) (hlc:len<=cap) :
  ∃ ρ1 H1 u,Ro P ρ1 H1 w/\Ext H.next ρ ρ1/\Gro H H1/\ρ1.val u=.slice (some ⟨b,off,sp⟩) len cap/\scb H1.next u=true/\SlAt H1 sz u vs len/\Cut0 u:=by
 by_cases hz:len=0
 ·cases sp with
  |none =>
   obtain⟨k1,k2,k3⟩:=R.skip b off
   exact⟨_,_,.slice (some ⟨H.next,0,some 0⟩) len cap,k1,k2,k3,val_sl,blt_of (zC1 _),⟨hlen,_,_,rfl,.inl hz⟩,_,_,_,rfl,by omega,.inr (.inl ⟨_,rfl⟩)⟩
  |some j =>
   have hc:cap=0:=by
    rcases hspot with h|h
    ·cases h
    ·exact h.2
   subst hc hz
   obtain⟨k1,k3⟩:=R.skipE (ρ.atJ_ext H.next b off j)
   exact⟨_,_,.slice (some ⟨H.next,0,some 1⟩) 0 0,k1,ρ.atJ_ext H.next b off j,k3,val_slJ,blt_of (zC1 _),⟨hlen,_,_,rfl,.inl rfl⟩,_,_,_,rfl,zA8 _,.inr (.inr ⟨rfl,_,rfl⟩)⟩
 ·obtain rfl:sp=none:=by
   rcases hspot with h|h
   ·exact h
   ·exact absurd h.1 hz
  obtain⟨c,e,fz,hb,hc⟩:=hcell.resolve_left hz
  obtain⟨k1,k2,k3⟩:=R.add hb hc hs (h0.resolve_left hz)
  exact⟨_,_,.slice (some ⟨H.next,0,some 0⟩) len cap,k1,k2,k3,val_sl,blt_of (zC1 _),⟨hlen,_,_,rfl,.inr ⟨H.next,e,rfl,zC1 _,roH_rk,hlc⟩⟩,_,_,_,rfl,hlc,.inr (.inl ⟨_,rfl⟩)⟩
variable {K : Type} {enc : TypeId × Value -> K} {spare : Nat -> Bool} {held : Bool} {fuel : Nat}
theorem sl_spot {t e:TypeId} {sz len cap:Nat} {a:Addr} {x:DataW K × List MemPlace} (hsp:∀ b,spare b=true) (ht:P.underlying t=some (.slice e)) (hsz:szOf P e=some (sz+1)) (h:DataW.trod enc P w 0 spare held fuel t [.slice (some a) len cap]=some x):a.spot=none\/len=0/\cap=0:=by
 have none_at:∀ y,(w.cells? 0 (a.add 0) (sz+1)).bind y=(none:Option (DataW K × List MemPlace))\/a.spot=none:=fun y=>by
  cases hs:a.spot with
  |none=>exact .inr rfl
  |some j =>
   left
   cases hc:w.cells? 0 (a.add 0) (sz+1) with
   |none=>rfl
   |some cs =>
    unfold World.cells? at hc
    rw[if_pos (zA9 _)]at hc
    obtain⟨v,hv⟩:=Go.Ax.mapM_each hc 0 (by simp)
    simp only[Addr.add,if_true,World.cell?,hs,Option.isSome_some]at hv
    split at hv<;>cases hv
 rcases DataW.trod_slice ht h with⟨h1,_⟩|⟨a',len',cap',elems,rest,n,_,h1,_,_,hle,_,hel,hcells,hrest,_⟩
 ·simp at h1
 ·simp only[List.cons.injEq,Value.slice.injEq,Option.some.injEq,and_true]at h1
  obtain⟨rfl,rfl,rfl⟩:=h1
  rw[cellsOf_szOf hsz]at hcells hrest
  rcases Nat.eq_zero_or_pos len with h0|h0
  ·subst h0
   rcases Nat.eq_zero_or_pos cap with hc|hc
   ·exact .inr ⟨rfl,hc⟩
   ·obtain⟨hl,hr⟩:=hrest (hsp _)
    have:=hr 0 (by omega)
    rw[zC0,Nat.zero_mul]at this
    rcases none_at (DataW.trod enc P w 0 spare held n e) with h2|h2
    ·rw[h2,zA7 (by omega)]at this
     cases this
    ·exact .inl h2
  ·have:=hcells 0 h0
   rw[Nat.zero_mul]at this
   rcases none_at (DataW.trod enc P w 0 spare held n e) with h2|h2
   ·rw[h2,zA7 (by omega)]at this
    cases this
   ·exact .inl h2
def Wt (P:Program) (t:TypeId) (d:DataW K):Prop:=∀ n∈d.weights P t,n<=reachBytes
theorem weights_all {e:TypeId} {n:Nat}:∀ {l:List (DataW K)} {d:DataW K},d∈l->n∈d.weights P e->n∈DataW.weightsAll P e l
 |d'::l,d,h,hn=>by
  rw[DataW.weightsAll,zC9]
  rcases zB1.1 h with rfl|h
  ·exact .inl hn
  ·exact .inr (weights_all h hn)
theorem Wt.elem {t e:TypeId} {l r:List (DataW K)} {d:DataW K} (ht:P.underlying t=some (.slice e)) (h:Wt P t (.slice l r)) (hd:d∈l):Wt P e d:=fun n hn =>
 h n (by rw[DataW.weights,ht]; exact zB5 _ (List.mem_append_left _ (weights_all hd hn)))
theorem Wt.len {t e:TypeId} {l r:List (DataW K)} (ht:P.underlying t=some (.slice e)) (h:Wt P t (.slice l r)):l.length*P.bytesOf e<=reachBytes :=
 zB8 (Nat.mul_le_mul_right _ (Nat.le_add_right _ r.length)) (h _ (by rw[DataW.weights,ht]; exact zB9))
theorem sl_cellsW {t e:TypeId} {sz b off len cap:Nat} {x:DataW K × List MemPlace} (ht:P.underlying t=some (.slice e)) (hsz:szOf P e=some sz) (h:DataW.trod enc P w 0 spare held fuel t [.slice (some ⟨b,off,none⟩) len cap]=some x) :
  ∃ (vs:List Value) (n:Nat),vs.length=len*sz/\(len*sz=0\/∃ c e' fz,w.heap[b]?=some (.cells c e' fz)/\∀ i,i<vs.length->c[off+i]?=some (vs.getD i undef)) /\
   (∀ i,i<len->∃ y,DataW.trod enc P w 0 spare held n e ((vs.drop (i*sz)).take sz)=some y/\(Wt P t x.1->Wt P e y.1))/\(Wt P t x.1->len*P.bytesOf e<=reachBytes):=by
 rcases DataW.trod_slice ht h with⟨h1,_⟩|⟨a,len',cap',elems,rest,n,_,h1,hx,_,_,_,hel,hcells,_,_⟩
 ·simp at h1
 ·simp only[List.cons.injEq,Value.slice.injEq,Option.some.injEq,and_true]at h1
  obtain⟨rfl,rfl,rfl⟩:=h1
  rw[cellsOf_szOf hsz]at hcells
  have hb1:Wt P t x.1->len*P.bytesOf e<=reachBytes:=fun hw=>by
   rw[hx]at hw
   have:=hw.len ht
   rwa [List.length_map,hel]at this
  have each:∀ i,i<len->∃ cs y,w.cells? 0 ((⟨b,off,none⟩:Addr).add (i*sz)) sz=some cs/\DataW.trod enc P w 0 spare held n e cs=some y/\(Wt P t x.1->Wt P e y.1):=fun i hi=>by
   have:=hcells i hi
   rw[zA7 (by omega)]at this
   obtain⟨cs,h1,h2⟩:=zA2.1 this
   exact⟨cs,_,h1,h2,fun hw=>by
    rw[hx]at hw
    exact hw.elem ht (zE0.2 ⟨_,List.getElem_mem _,rfl⟩)⟩
  by_cases h0:len*sz=0
  ·refine⟨[],n,by simp[h0],.inl h0,fun i hi=>?_,hb1⟩
   obtain⟨cs,y,h1,h2,h3⟩:=each i hi
   have hsz0:sz=0:=by
    rcases Nat.eq_zero_or_pos sz with h|h
    ·exact h
    ·have:=Nat.mul_pos (show 0<len by omega) h; omega
   subst hsz0
   unfold World.cells? at h1
   rw[if_pos (zA9 _)]at h1
   simp at h1
   subst h1
   exact⟨y,by simpa using h2,h3⟩
  ·have hp:0<sz:=Nat.pos_of_ne_zero fun h=>h0 (by rw[h,Nat.mul_zero])
   have cell:∀ i,i<len*sz->∃ v,w.cell? ⟨b,off+i,none⟩=some v:=fun i hi=>by
    have hq:i / sz<len:=(Nat.div_lt_iff_lt_mul hp).2 hi
    obtain⟨cs,y,hcs,_,_⟩:=each _ hq
    unfold World.cells? at hcs
    rw[if_pos (zA9 _)]at hcs
    obtain⟨v,hv⟩:=mapM_each hcs (i % sz) (by simpa using Nat.mod_lt _ hp)
    rw[addr_add,addr_add]at hv
    have:off+i / sz*sz+i % sz=off+i:=by rw[Nat.add_assoc,Nat.mul_comm,Nat.div_add_mod]
    rw[this]at hv
    exact⟨v,hv⟩
   obtain⟨v0,hv0⟩:=cell 0 (by omega)
   unfold World.cell? at hv0
   cases hb:w.heap[b]? with
   |none=>simp[hb]at hv0
   |some o =>
    cases o with
    |cells c e' fz =>
     have cell':∀ i,i<len*sz->∃ v,c[off+i]?=some v:=fun i hi=>by
      obtain⟨v,hv⟩:=cell i hi
      simp only[World.cell?,hb]at hv
      exact⟨v,by simpa using hv⟩
     obtain⟨vs,hvs⟩:∃ vs:List Value,vs=(List.range (len*sz)).map fun i=>(c[off+i]?).getD undef:=⟨_,rfl⟩
     have hvl:vs.length=len*sz:=by simp[hvs]
     have hvg:∀ i,i<vs.length->c[off+i]?=some (vs.getD i undef):=fun i hi=>by
      rw[hvl]at hi
      obtain⟨v,hv⟩:=cell' i hi
      simp[hvs,hi,hv,List.getD_eq_getElem?_getD]
     refine⟨vs,n,hvl,.inr ⟨c,e',fz,rfl,hvg⟩,fun i hi=>?_,hb1⟩
     obtain⟨cs,y,hcs,hy,hy2⟩:=each i hi
     have hcs':(vs.drop (i*sz)).take sz=cs:=by
      unfold World.cells? at hcs
      rw[if_pos (zA9 _)]at hcs
      have hin:i*sz+sz<=len*sz:=by rw[<-Nat.succ_mul]; exact Nat.mul_le_mul_right _ hi
      have hr:=mapM_range_of (f:=fun j=>w.cell? (((⟨b,off,none⟩:Addr).add (i*sz)).add j)) (g:=fun j=>vs.getD (i*sz+j) undef) sz (fun j hj=>by
       have h3:=hvg (i*sz+j) (by rw[hvl]; omega)
       rw[addr_add,addr_add,Nat.add_assoc]
       simp[World.cell?,hb,h3])
      rw[hr]at hcs
      cases hcs
      apply List.ext_getElem?
      intro j
      by_cases hj:j<sz
      ·rw[List.getElem?_take,if_pos hj,List.getElem?_drop,List.getElem?_map,List.getElem?_range hj,zA7 (by rw[hvl]; omega)]
       simp only[zA5,List.getD_eq_getElem?_getD]
       rw[zA7 (by rw[hvl]; omega)]
       rfl
      ·rw[zC6 (by simp; omega),zC6 (by simp; omega)]
     rw[hcs']
     exact⟨y,hy,hy2⟩
    |_=>simp[hb]at hv0
end
open Go.ChangeShapes
section
variable {P : Program} {ρ : Ren} {H : AHeap} {w : World}
variable {K : Type} {enc : TypeId × Value -> K} {spare : Nat -> Bool} {held : Bool}
theorem fit1_af {t:TypeId} {v:Value} (h:fit1 P t v=true):af v=true:=by
 unfold fit1 at h
 split at h<;>first|rfl|cases h
theorem fits_afm:∀ {ts:List TypeId} {cs:List Value},fits P ts cs=true->∀ v∈cs,af v=true
 |[],[],_,v,hv=>by cases hv
 |t::ts,c::cs,h,v,hv=>by
  simp only[fits,zA4]at h
  rcases zB1.1 hv with rfl|hv
  ·exact fit1_af h.1
  ·exact fits_afm h.2 v hv
 |[],_::_,h,_,_=>by cases h
 |_::_,[],h,_,_=>by cases h
def nu8 (P:Program) (t:TypeId):Bool :=
 match P.underlying t with
 |some (.int .u8)=>false
 |some (.int .u64)=>false
 |_=>true
theorem nu8_val {t:TypeId} {v:Value} (hn:nu8 P t=true) (h:fit1 P t v=true):isU8 v=false:=by
 cases v with
 |int k n =>
  unfold fit1 at h
  split at h
  ·rename_i hv; cases hv
  ·rename_i a b c hu hv
   cases hv
   have e:a=k:=by simpa using h
   rw[e]at hu
   unfold nu8 at hn
   rw[hu]at hn
   cases k<;>first|rfl|cases hn
  ·rename_i hv; cases hv
  ·cases h
 |_=>rfl
def chunkd (P:Program) (ts:List TypeId) (vs:List Value) (len:Nat):Prop:=∀ i,i<len->fits P ts ((vs.drop (i*ts.length)).take ts.length)=true
end
open Go.ChangeShapes
section
variable {P : Program} {ρ : Ren} {H : AHeap} {w : World}
variable {K : Type} {enc : TypeId × Value -> K} {spare : Nat -> Bool} {held : Bool}
def flds (P:Program) (t:TypeId):Option (List (TypeId × Nat)) :=
 match P.underlying t with
 |some (.struct fs)=>some (fs.toList.map fun f=>(f.type,f.offset))
 |_=>none
theorem trod_fldsW {t:TypeId} {l:List (TypeId × Nat)} {fuel base:Nat} {cs:List Value} {x:DataW K × List MemPlace} (h:flds P t=some l) (hx:DataW.trod enc P w base spare held fuel t cs=some x) :
  cs.length=P.cellsOf t/\∃ n:Nat,∀ (i:Nat) (ty:TypeId) (off:Nat),l[i]?=some (ty,off)->∃ y,DataW.trod enc P w base spare held n ty ((cs.drop off).take (P.cellsOf ty))=some y/\(Wt P t x.1->Wt P ty y.1):=by
 unfold flds at h
 split at h
 ·rename_i fs hu
  simp only[Option.some.injEq]at h
  subst h
  obtain⟨xs,n,_,hxe,hl,hxs,hf⟩:=DataW.trod_struct hu hx
  refine⟨hl,n,fun i ty off hi=>?_⟩
  rw[List.getElem?_map,zA6]at hi
  obtain⟨f,hfi,he⟩:=hi
  simp only[Prod.mk.injEq]at he
  obtain⟨rfl,rfl⟩:=he
  have hfi':fs[i]?=some f:=by simpa using hfi
  have hlt:i<fs.size:=(Array.getElem?_eq_some_iff.1 hfi').1
  have:=hf i f hfi'
  rw[zA7 (by omega)]at this
  refine⟨_,this,fun hw m hm=>hw m ?_⟩
  rw[hxe,DataW.weights,hu]
  exact DataW.weights_mem_each (j:=i) (by simp[hfi]) (by simp[zA7 (show i<xs.length by omega)]) m hm
 ·cases h
theorem trod_flds {t:TypeId} {l:List (TypeId × Nat)} {fuel base:Nat} {cs:List Value} {x:DataW K × List MemPlace} (h:flds P t=some l) (hx:DataW.trod enc P w base spare held fuel t cs=some x) :
  cs.length=P.cellsOf t/\∃ n:Nat,∀ (i:Nat) (ty:TypeId) (off:Nat),l[i]?=some (ty,off)->∃ y,DataW.trod enc P w base spare held n ty ((cs.drop off).take (P.cellsOf ty))=some y:=by
 obtain⟨h1,n,h2⟩:=trod_fldsW h hx
 exact⟨h1,n,fun i ty off hi=>by obtain⟨y,hy,_⟩:=h2 i ty off hi; exact⟨y,hy⟩⟩
theorem chunk_of {α:Type} {ts:List TypeId} {f:α->List Value} (hf:∀ cs,fits P ts cs=true->∃ a,cs=f a):∀ (len:Nat) (vs:List Value),vs.length=len*ts.length->chunkd P ts vs len->∃ l:List α,l.length=len/\vs=l.flatMap f
 |0,vs,hl,_=>⟨[],rfl,by simpa using hl⟩
 |len+1,vs,hl,h=>by
  have h0:=h 0 (by omega)
  rw[Nat.zero_mul,zC7]at h0
  obtain⟨a,ha⟩:=hf _ h0
  obtain⟨l,h1,h2⟩:=chunk_of hf len (vs.drop ts.length) (by rw[zE4,hl,Nat.succ_mul]; omega) (fun i hi=>by
   have:=h (i+1) (by omega)
   rw[List.drop_drop]
   rw[Nat.succ_mul,Nat.add_comm]at this
   exact this)
  refine⟨a::l,by simp[h1],?_⟩
  rw[zE1,<-h2,<-ha,List.take_append_drop]
theorem Rel.rk_sc (r:Rel P ρ H w) {n:Nat} {b:Bl} (h:rk H n=some b):scbL H.next b.l=true:=by
 rw[rk_eq]at h
 unfold cellsR at h
 split at h
 ·rename_i a e q o v hg
  simp only[zA5,Option.some.injEq]at h
  subst h
  have:=(r.dom _ _ hg).2
  simp only[sco]at this
  exact gets_sc this (by omega)
 ·cases h
end
open Go.ChangeShapes
section
variable {P : Program} {ρ : Ren} {H G : AHeap} {w : World}
variable {K : Type} {enc : TypeId × Value -> K} {spare : Nat -> Bool} {held : Bool}
def ValT (P:Program) (H:AHeap):Nat->TypeId->List Value->Prop
 |0,_,_=>False
 |D+1,t,us =>
  match flat P D t with
  |some ts=>fits P ts us=true
  |none =>
   (∃ e sz u vs len,P.underlying t=some (.slice e)/\szOf P e=some sz/\us=[u]/\SlAt H sz u vs len/\len*P.bytesOf e<=reachBytes/\Cut0 u/\∀ i,i<len->ValT P H D e ((vs.drop (i*sz)).take sz)) \/
   (∃ l,flds P t=some l/\us.length=P.cellsOf t/\∀ (i:Nat) (ty:TypeId) (off:Nat),l[i]?=some (ty,off)->ValT P H D ty ((us.drop off).take (P.cellsOf ty)))
theorem ValT.gro:∀ {D:Nat} {t:TypeId} {us:List Value},ValT P H D t us->Gro H G->ValT P G D t us
 |0,_,_,h,_=>h
 |D+1,t,us,h,g=>by
  unfold ValT at h ⊢
  split at h
  ·exact h
  ·rcases h with⟨e,sz,u,vs,len,h1,h2,h3,h4,hb,hc0,h5⟩|⟨l,h1,h2,h3⟩
   ·exact .inl ⟨e,sz,u,vs,len,h1,h2,h3,h4.gro g,hb,hc0,fun i hi=>(h5 i hi).gro g⟩
   ·exact .inr ⟨l,h1,h2,fun i ty off hi=>(h3 i ty off hi).gro g⟩
theorem ValT.fla {D:Nat} {t:TypeId} {us:List Value} {ts:List TypeId} (h:ValT P H (D+1) t us) (hf:flat P D t=some ts):fits P ts us=true:=by
 unfold ValT at h
 rw[hf]at h
 exact h
theorem ValT.sli {D:Nat} {t e:TypeId} {sz:Nat} {us:List Value} (h:ValT P H (D+1) t us) (hf:flat P D t=none) (hu:P.underlying t=some (.slice e)) (hs:szOf P e=some sz):∃ u vs len,us=[u]/\SlAt H sz u vs len/\len*P.bytesOf e<=reachBytes/\Cut0 u/\∀ i,i<len->ValT P H D e ((vs.drop (i*sz)).take sz):=by
 unfold ValT at h
 rw[hf]at h
 rcases h with⟨e',sz',u,vs,len,h1,h2,h3,h4,hb,hc0,h5⟩|⟨l,h1,h2,h3⟩
 ·rw[hu]at h1
  cases h1
  rw[hs]at h2
  cases h2
  exact⟨u,vs,len,h3,h4,hb,hc0,h5⟩
 ·unfold flds at h1
  rw[hu]at h1
  cases h1
theorem ValT.str {D:Nat} {t:TypeId} {us:List Value} {l:List (TypeId × Nat)} (h:ValT P H (D+1) t us) (hf:flat P D t=none) (hl:flds P t=some l):us.length=P.cellsOf t/\∀ (i:Nat) (ty:TypeId) (off:Nat),l[i]?=some (ty,off)->ValT P H D ty ((us.drop off).take (P.cellsOf ty)):=by
 unfold ValT at h
 rw[hf]at h
 rcases h with⟨e',sz',u,vs,len,h1,h2,h3,h4,_,_,h5⟩|⟨l',h1,h2,h3⟩
 ·unfold flds at hl
  rw[h1]at hl
  cases hl
 ·rw[hl]at h1
  cases h1
  exact⟨h2,h3⟩
def hd8 (P:Program):Nat->TypeId->Bool
 |0,_=>false
 |D+1,t =>
  match flat P D t with
  |some (t0::ts)=>nu8 P t0&&szOf P t == some (t0::ts).length
  |_=>match P.underlying t with
   |some (.slice _)=>true
   |some (.struct fs)=>match fs.toList with
    |f::_=>f.offset == 0&&hd8 P D f.type&&Nat.ble 1 (P.cellsOf f.type)
    |[]=>false
   |_=>false
def tileB (P:Program):List (TypeId × Nat)->Nat->Nat->Bool
 |[],o,n=>o == n
 |(t,q)::l,o,n=>q == o&&tileB P l (o+P.cellsOf t) n
def cov (P:Program):Nat->TypeId->Bool
 |0,_=>false
 |D+1,t =>
  match flat P D t with
  |some ts=>szOf P t == some ts.length
  |none=>match P.underlying t with
   |some (.slice e)=>(match szOf P e with|some sz=>Nat.ble 1 sz|none=>false)&&hd8 P D e&&cov P D e
   |some (.struct fs)=>tileB P (fs.toList.map fun f=>(f.type,f.offset)) 0 (P.cellsOf t)&&fs.toList.all fun f=>cov P D f.type
   |_=>false
theorem flatten_drop {α:Type}:∀ (uss:List (List α)) (sz i:Nat),(∀ us∈uss,us.length=sz)->(uss.flatten.drop (i*sz)).take sz=(uss[i]?).getD []
 |[],sz,i,_=>by simp
 |u::uss,sz,0,h=>by
  have:=h u (by simp)
  simp[<-this]
 |u::uss,sz,i+1,h=>by
  have hu:=h u (by simp)
  have ih:=flatten_drop uss sz i fun us hm=>h us (zB5 _ hm)
  rw[List.flatten_cons,Nat.succ_mul,Nat.add_comm,<-List.drop_drop,<-hu,List.drop_left,hu,ih]
  rfl
theorem Ro.many {D : Nat} (IH : ∀ (t : TypeId), cov P D t = true -> ∀ {ρ : Ren} {H : AHeap}, Ro P ρ H w -> ∀ (cs : List Value) (n : Nat) (x : DataW K × List MemPlace), DataW.trod enc P w 0 spare held n t cs = some x -> Wt P t x.1 ->
   ∃ ρ1 H1,∃ us:List Value,Ro P ρ1 H1 w/\Ext H.next ρ ρ1/\Gro H H1/\us.map ρ1.val=cs/\scbL H1.next us=true/\ValT P H1 D t us) :
  ∀ (l:List (TypeId × List Value)) {ρ:Ren} {H:AHeap},(∀ p∈l,cov P D p.1=true/\∃ (n:Nat) (x:DataW K × List MemPlace),DataW.trod enc P w 0 spare held n p.1 p.2=some x/\Wt P p.1 x.1)->Ro P ρ H w ->
   ∃ ρ1 H1,∃ uss:List (List Value),Ro P ρ1 H1 w/\Ext H.next ρ ρ1/\Gro H H1/\uss.map (List.map ρ1.val)=l.map Prod.snd/\(∀ us∈uss,scbL H1.next us=true)/\∀ (i:Nat) p,l[i]?=some p->∃ us,uss[i]?=some us/\ValT P H1 D p.1 us
 |[],ρ,H,_,R=>⟨ρ,H,[],R,Ext.refl _ _,Gro.refl,rfl,(fun us h=>by cases h),fun i p h=>by simp at h⟩
 |p::l,ρ,H,hl,R=>by
  obtain⟨hc,n,x,hx,hw⟩:=hl p (by simp)
  obtain⟨ρ1,H1,us,a1,a2,a3,a4,a5,a6⟩:=IH p.1 hc R p.2 n x hx hw
  obtain⟨ρ2,H2,uss,b1,b2,b3,b4,b5,b6⟩:=Ro.many IH l (fun q hq=>hl q (zB5 _ hq)) a1
  refine⟨ρ2,H2,us::uss,b1,a2.trans b2 a3.next,a3.trans b3,?_,?_,?_⟩
  ·rw[zB3,zB3,b4]
   congr 1
   rw[<-a4]
   exact zD8 fun u hu=>val_ext b2 u (scbL_mem a5 hu)
  ·intro y hy
   rcases zB1.1 hy with rfl|hy
   ·exact scbL_mono b3.next _ a5
   ·exact b5 y hy
  ·intro i q hq
   cases i with
   |zero =>
    simp only[zC5,Option.some.injEq]at hq
    subst hq
    exact⟨us,rfl,a6.gro b3⟩
   |succ i=>exact b6 i q hq
theorem tile_le (P:Program):∀ (l:List (TypeId × Nat)) (o n:Nat),tileB P l o n=true->o<=n
 |[],o,n,h=>by simp[tileB]at h; omega
 |(t,q)::l,o,n,h=>by
  simp only[tileB,zA4]at h
  have:=tile_le P l _ _ h.2
  omega
theorem tile_flat (P:Program) (cs:List Value):∀ (l:List (TypeId × Nat)) (o:Nat),tileB P l o cs.length=true->o<=cs.length->(l.map fun p=>(cs.drop p.2).take (P.cellsOf p.1)).flatten=cs.drop o
 |[],o,h,ho=>by
  have:o=cs.length:=by simpa[tileB]using h
  simp[this]
 |(t,q)::l,o,h,ho=>by
  simp only[tileB,zA4,beq_iff_eq]at h
  obtain⟨rfl,h⟩:=h
  rcases zB6 cs.length (q+P.cellsOf t) with h1|h1
  ·exact absurd h1 (by have:=tile_le P l _ _ h; omega)
  ·rw[zB3,List.flatten_cons,tile_flat P cs l _ h h1,<-List.drop_drop,List.take_append_drop]
theorem tile_len (P:Program) (cs:List Value):∀ (l:List (TypeId × Nat)) (o:Nat),tileB P l o cs.length=true->l.map (List.length ∘ fun p=>(cs.drop p.2).take (P.cellsOf p.1))=l.map (fun p=>P.cellsOf p.1)
 |[],_,_=>rfl
 |(t,q)::l,o,h=>by
  simp only[tileB,zA4,beq_iff_eq]at h
  obtain⟨rfl,h⟩:=h
  have h1:=tile_le P l _ _ h
  rw[zB3,zB3,tile_len P cs l _ h]
  congr 1
  simp only[Function.comp_apply,zE3,zE4]
  omega
theorem tile_get (P:Program):∀ (l:List (TypeId × Nat)) (uss:List (List Value)) (o n:Nat),tileB P l o n=true->uss.map List.length=l.map (fun p=>P.cellsOf p.1)->∀ (i:Nat) (ty:TypeId) (off:Nat),l[i]?=some (ty,off)->o<=off/\(uss.flatten.drop (off-o)).take (P.cellsOf ty)=(uss[i]?).getD []
 |[],_,_,_,_,_,i,ty,off,h=>by simp at h
 |(t,q)::l,[],_,_,_,hm,_,_,_,_=>by simp at hm
 |(t,q)::l,u::uss,o,n,h,hm,i,ty,off,hi=>by
  simp only[tileB,zA4,beq_iff_eq]at h
  obtain⟨rfl,h⟩:=h
  simp only[zB3,List.cons.injEq]at hm
  cases i with
  |zero =>
   simp only[zC5,Option.some.injEq,Prod.mk.injEq]at hi
   obtain⟨rfl,rfl⟩:=hi
   refine⟨zA8 _,?_⟩
   rw[Nat.sub_self,zC7,List.flatten_cons,<-hm.1,List.take_left]
   rfl
  |succ i =>
   obtain⟨h1,h2⟩:=tile_get P l uss (q+P.cellsOf t) n h hm.2 i ty off hi
   refine⟨by omega,?_⟩
   rw[List.flatten_cons,show off-q=u.length+(off-(q+P.cellsOf t)) by omega,<-List.drop_drop,List.drop_left,h2]
   rfl
theorem trod_hd8:∀ {D:Nat} {t:TypeId} {n:Nat} {cs:List Value} {x:DataW K × List MemPlace},hd8 P D t=true->DataW.trod enc P w 0 spare held n t cs=some x->0<cs.length->isU8 (cs.getD 0 undef)=false
 |0,_,_,_,_,h,_,_=>by cases h
 |D+1,t,n,cs,x,h,hx,hl=>by
  unfold hd8 at h
  split at h
  ·rename_i t0 ts hf
   simp only[zA4,beq_iff_eq]at h
   have hfit:=trod_fits n D t (t0::ts) cs x hf h.2 hx
   cases cs with
   |nil=>simp at hl
   |cons c cs =>
    simp only[fits,zA4]at hfit
    exact nu8_val h.1 hfit.1
  ·split at h
   ·rename_i e hu
    cases cs with
    |nil=>simp at hl
    |cons c cs =>
     rcases DataW.trod_slice hu hx with⟨h1,_⟩|⟨a,len,cap,_,_,_,_,h1,_⟩
     ·cases h1; rfl
     ·cases h1; rfl
   ·rename_i fs hu
    split at h
    ·rename_i f l hfs
     simp only[zA4,beq_iff_eq,Nat.ble_eq]at h
     obtain⟨hlen,n',hf⟩:=trod_flds (l:=fs.toList.map fun f=>(f.type,f.offset)) (by unfold flds; rw[hu]) hx
     obtain⟨y,hy⟩:=hf 0 f.type f.offset (by rw[hfs]; rfl)
     rw[h.1.1,zC7]at hy
     have:=trod_hd8 h.1.2 hy (by rw[zE3]; omega)
     cases cs with
     |nil=>simp at hl
     |cons c cs =>
      rw[show P.cellsOf f.type=(P.cellsOf f.type-1)+1 by omega]at this
      simpa using this
    ·cases h
   ·cases h
theorem Ro.val (hall:∀ b,spare b=true):∀ (D:Nat) (t:TypeId),cov P D t=true->∀ {ρ:Ren} {H:AHeap},Ro P ρ H w->∀ (cs:List Value) (n:Nat) (x:DataW K × List MemPlace),DataW.trod enc P w 0 spare held n t cs=some x->Wt P t x.1 ->
  ∃ ρ1 H1,∃ us:List Value,Ro P ρ1 H1 w/\Ext H.next ρ ρ1/\Gro H H1/\us.map ρ1.val=cs/\scbL H1.next us=true/\ValT P H1 D t us
 |0,t,hc,_,_,_,_,_,_,_,_=>by cases hc
 |D+1,t,hc,ρ,H,R,cs,n,x,hx,hw=>by
  unfold cov at hc
  split at hc
  ·rename_i ts hf
   have hfit:=trod_fits n D t ts cs x hf (by simpa using hc) hx
   have haf:=fits_afm hfit
   refine⟨ρ,H,cs,R,Ext.refl _ _,Gro.refl,?_,scbL_of_af _ (afL_of haf),by unfold ValT; rw[hf]; exact hfit⟩
   conv=>rhs; rw[<-List.map_id cs]
   exact zD8 fun v hv=>val_af ρ v (haf v hv)
  ·rename_i hfn
   have mk:∀ (H:AHeap) (us:List Value),((∃ e sz u vs len,P.underlying t=some (.slice e)/\szOf P e=some sz/\us=[u]/\SlAt H sz u vs len/\len*P.bytesOf e<=reachBytes/\Cut0 u/\∀ i,i<len->ValT P H D e ((vs.drop (i*sz)).take sz))\/(∃ l,flds P t=some l/\us.length=P.cellsOf t/\∀ (i:Nat) (ty:TypeId) (off:Nat),l[i]?=some (ty,off)->ValT P H D ty ((us.drop off).take (P.cellsOf ty))))->ValT P H (D+1) t us:=fun H us h=>by unfold ValT; rw[hfn]; exact h
   split at hc
   ·rename_i e hu
    simp only[zA4]at hc
    obtain⟨⟨hsz,h8⟩,hce⟩:=hc
    obtain⟨sz,hs,hs1⟩:∃ sz,szOf P e=some (sz+1)/\True:=by
     split at hsz
     ·rename_i sz hs
      exact⟨sz-1,by rw[hs]; congr 1; have:=zB2 hsz; omega,trivial⟩
     ·cases hsz
    rcases DataW.trod_slice hu hx with⟨h1,_⟩|⟨a,len,cap,_,_,_,_,h1,_,_,hlc,_⟩
    ·subst h1
     exact⟨ρ,H,[.slice none 0 0],R,Ext.refl _ _,Gro.refl,by simp[Ren.val],rfl,mk _ _ (.inl ⟨e,sz+1,.slice none 0 0,[],0,hu,hs,rfl,⟨by simp,none,0,rfl,.inl rfl⟩,by simp,⟨none,0,0,rfl,zA8 _,.inl ⟨rfl,rfl⟩⟩,fun i hi=>absurd hi (by omega)⟩)⟩
    ·subst h1
     have hs0:=sl_spot hall hu hs hx
     obtain⟨b,off,s⟩:=a
     simp only at hs0
     rcases hs0 with hs0|⟨rfl,rfl⟩
     case inr =>
      obtain⟨ρ1,H1,u,q1,q2,q3,q4,q5,q6,q7⟩:=R.slC (sz:=sz+1) (len:=0) (cap:=0) (b:=b) (off:=off) (sp:=s) (vs:=[]) (.inr ⟨rfl,rfl⟩) (by simp) (.inl rfl) rfl (.inl rfl) (zA8 _)
      exact⟨ρ1,H1,[u],q1,q2,q3,by rw[zB3,q4]; rfl,by simp[scbL,q5],mk _ _ (.inl ⟨e,sz+1,u,[],0,hu,hs,rfl,q6,by simp,q7,fun i hi=>absurd hi (by omega)⟩)⟩
     subst hs0
     obtain⟨vs,n',k1,k2,k3,k4⟩:=sl_cellsW hu hs hx
     obtain⟨ρ1,H1,uss,b1,b2,b3,b4,b5,b6⟩:=Ro.many (fun t hc {ρ H} R cs n x hx hw=>Ro.val hall D t hc R cs n x hx hw) ((List.range len).map fun i=>(e,(vs.drop (i*(sz+1))).take (sz+1))) (fun p hp=>by
      obtain⟨i,hi,rfl⟩:=zE0.1 hp
      obtain⟨y,hy,hyw⟩:=k3 i (List.mem_range.1 hi)
      exact⟨hce,n',y,hy,hyw hw⟩) R
     rw[List.map_map]at b4
     have hflat:uss.flatten.map ρ1.val=vs:=by
      rw[List.map_flatten,b4]
      exact (cut_flat len vs k1).symm
     have hlen:uss.flatten.length=len*(sz+1):=by rw[<-k1,<-hflat,List.length_map]
     have hul:∀ us∈uss,us.length=sz+1:=fun us hus=>by
      have:us.map ρ1.val∈uss.map (List.map ρ1.val):=zE0.2 ⟨us,hus,rfl⟩
      rw[b4]at this
      obtain⟨i,hi,he⟩:=zE0.1 this
      have:=congrArg List.length he
      have hil:=List.mem_range.1 hi
      simp only[Function.comp_apply,List.length_map,zE3,zE4,k1]at this
      have h2:(i+1)*(sz+1)<=len*(sz+1):=Nat.mul_le_mul_right _ hil
      rw[Nat.succ_mul]at h2
      omega
     have hval:∀ i,i<uss.flatten.length->ρ1.val (uss.flatten.getD i undef)=vs.getD i undef:=fun i hi=>by
      rw[<-hflat,List.getD_eq_getElem?_getD,List.getD_eq_getElem?_getD,List.getElem?_map,zA7 hi]
      rfl
     have hvl:vs.length=uss.flatten.length:=by rw[<-hflat,List.length_map]
     have hcell:len=0\/∃ c e fz,w.heap[b]?=some (.cells c e fz)/\∀ i,i<uss.flatten.length->c[off+i]?=some (ρ1.val (uss.flatten.getD i undef)):=by
      rcases k2 with h|⟨c,e',fz,h1,h2⟩
      ·left; exact (Nat.mul_eq_zero.1 h).resolve_right (by simp)
      ·exact .inr ⟨c,e',fz,h1,fun i hi=>by rw[hval i hi]; exact h2 i (by omega)⟩
     have h0:len=0\/∃ i,i<uss.flatten.length/\isU8 (ρ1.val (uss.flatten.getD i undef))=false:=by
      rcases Nat.eq_zero_or_pos len with h|h
      ·exact .inl h
      ·have hp:0<uss.flatten.length:=by rw[hlen]; exact Nat.mul_pos h (by simp)
       refine .inr ⟨0,hp,?_⟩
       rw[hval 0 hp]
       obtain⟨y,hy,_⟩:=k3 0 h
       rw[Nat.zero_mul,zC7]at hy
       have:=trod_hd8 h8 hy (by rw[zE3]; omega)
       cases vs with
       |nil=>rw[zD7]at hvl; omega
       |cons c vs=>simpa using this
     have hsc:scbL H1.next uss.flatten=true:=scbL_iff.2 fun v hv=>by
      obtain⟨us,h1,h2⟩:=List.mem_flatten.1 hv
      exact scbL_mem (b5 us h1) h2
     obtain⟨ρ2,H2,u,q1,q2,q3,q4,q5,q6,q7⟩:=b1.slC (cap:=cap) (.inl rfl) hlen hcell hsc h0 hlc
     refine⟨ρ2,H2,[u],q1,b2.trans q2 b3.next,b3.trans q3,by rw[zB3,q4]; rfl,by simp[scbL,q5],mk _ _ (.inl ⟨e,sz+1,u,uss.flatten,len,hu,hs,rfl,q6,k4 hw,q7,fun i hi=>?_⟩)⟩
     obtain⟨us,h1,h2⟩:=b6 i (e,(vs.drop (i*(sz+1))).take (sz+1)) (by simp[hi])
     rw[flatten_drop uss (sz+1) i hul,h1]
     exact h2.gro q3
   ·rename_i fs hu
    simp only[zA4]at hc
    obtain⟨htile,hall2⟩:=hc
    have hfl:flds P t=some (fs.toList.map fun f=>(f.type,f.offset)):=by unfold flds; rw[hu]
    obtain⟨hlen,n',hf⟩:=trod_fldsW hfl hx
    obtain⟨l,hl⟩:=Go.Ax.exq ((fs.toList.map fun f=>(f.type,f.offset)))
    rw[hl]at htile hfl hf
    have hcl:∀ p∈l,cov P D p.1=true:=fun p hp=>by
     rw[<-hl]at hp
     obtain⟨f,h1,rfl⟩:=zE0.1 hp
     exact zC4.1 hall2 f h1
    obtain⟨ρ1,H1,uss,b1,b2,b3,b4,b5,b6⟩:=Ro.many (fun t hc {ρ H} R cs n x hx hw=>Ro.val hall D t hc R cs n x hx hw) (l.map fun p=>(p.1,(cs.drop p.2).take (P.cellsOf p.1))) (fun p hp=>by
     obtain⟨q,hq,rfl⟩:=zE0.1 hp
     obtain⟨i,hi⟩:=List.getElem?_of_mem hq
     obtain⟨y,hy,hyw⟩:=hf i q.1 q.2 hi
     exact⟨hcl q hq,n',y,hy,hyw hw⟩) R
    rw[List.map_map]at b4
    have ht2:tileB P l 0 cs.length=true:=by rw[hlen]; exact htile
    have hflat:uss.flatten.map ρ1.val=cs:=by
     rw[List.map_flatten,b4]
     exact (tile_flat P cs l 0 ht2 (zA9 _)).trans (zC7)
    refine⟨ρ1,H1,uss.flatten,b1,b2,b3,hflat,scbL_iff.2 fun v hv=>by
      obtain⟨us,h1,h2⟩:=List.mem_flatten.1 hv
      exact scbL_mem (b5 us h1) h2,mk _ _ (.inr ⟨l,hfl,by rw[<-hlen,<-hflat,List.length_map],fun i ty off hi=>?_⟩)⟩
    obtain⟨us,h1,h2⟩:=b6 i (ty,(cs.drop off).take (P.cellsOf ty)) (by simp[hi])
    have hm:uss.map List.length=l.map (fun p=>P.cellsOf p.1):=by
     have:=congrArg (List.map List.length) b4
     rw[List.map_map,List.map_map]at this
     refine Eq.trans ?_ (this.trans (tile_len P cs l 0 ht2))
     exact zD8 fun us _=>(List.length_map _).symm
    have:=(tile_get P l uss 0 _ htile hm i ty off hi).2
    rw[Nat.sub_zero]at this
    rw[this,h1]
    exact h2
   ·cases hc
end
theorem m_bind_some {α β:Type} (a:α) (f:α->Option β):(some a).bind f=f a:=rfl
theorem m_map_some {α β:Type} (a:α) (f:α->β):(some a).map f=some (f a):=rfl
theorem m_map_cons {α β:Type} (f:α->β) (a:α) (l:List α):(a::l).map f=f a::l.map f:=rfl
theorem m_map_nil {α β:Type} (f:α->β):([]:List α).map f=[]:=rfl
theorem m_getElem_cons_zero {α:Type} (a:α) (l:List α):(a::l)[0]?=some a:=rfl
theorem m_getElem_cons_succ {α:Type} (a:α) (l:List α) (i:Nat):(a::l)[i+1]?=l[i]?:=zD0
theorem m_ne_eq {α:Type} (a b:α):(a≠b)=¬a=b:=rfl
theorem m_not_false_eq_true:(¬False)=True:=not_false_eq_true
theorem m_not_false:(!false)=true:=rfl
theorem m_not_true:(!true)=false:=rfl
theorem m_length_cons {α:Type} (a:α) (l:List α):(a::l).length=l.length+1:=rfl
theorem m_length_nil {α:Type}:([]:List α).length=0:=rfl
theorem m_set_cons_zero {α:Type} (a b:α) (l:List α):(a::l).set 0 b=b::l:=rfl
theorem m_set_cons_succ {α:Type} (a b:α) (l:List α) (i:Nat):(a::l).set (i+1) b=a::l.set i b:=rfl
theorem m_nil_append {α:Type} (l:List α):[]++l=l:=rfl
theorem m_cons_append {α:Type} (a:α) (l m:List α):(a::l)++m=a::(l++m):=rfl
theorem m_drop_succ_cons {α:Type} (a:α) (l:List α) (i:Nat):(a::l).drop (i+1)=l.drop i:=rfl
theorem m_drop_zero {α:Type} (l:List α):l.drop 0=l:=rfl
theorem m_take_succ_cons {α:Type} (a:α) (l:List α) (i:Nat):(a::l).take (i+1)=a::l.take i:=rfl
theorem m_take_zero {α:Type} (l:List α):l.take 0=[]:=List.take_zero
theorem m_if_true {α:Type} (a b:α):(if True then a else b)=a:=if_true a b
theorem m_true_and (p:Prop):(True/\p)=p:=true_and p
theorem m_or_true (p:Prop):(p\/True)=True:=or_true p
theorem m_true_or (p:Prop):(True\/p)=True:=true_or p
theorem m_and_self (p:Prop):(p/\p)=p:=and_self p
theorem m_implies_true (p:Prop):(p->True)=True:=eq_true fun _=>trivial
theorem m_all_true {α:Type}:(α->True)=True:=eq_true fun _=>trivial
theorem m_not_true_eq_false:(¬True)=False:=not_true_eq_false
theorem ruU:type_of% (zA0 (zA0 (zA0 (zA0 (@upd_same) (zA0 (@upd_ne) (@ok_tmp))) (zA0 (zA0 (@ok_int) (@ok_bool)) (zA0 (@ok_string) (@ok_nilslice)))) (zA0 (zA0 (zA0 (@ok_nilfunc) (@ok_func)) (zA0 (@opv_const) (@opv_tmp))) (zA0 (zA0 (@opv_func) (@all_nil)) (zA0 (@all_cons) (@and_tt))))) (zA0 (zA0 (zA0 (@pok_nil) (zA0 (@pok_cons) (@pmap_nil))) (zA0 (zA0 (@pmap_cons) (@pairs_ok)) (zA0 (@isSome_some) (@m_bind_some)))) (zA0 (zA0 (zA0 (@m_map_cons) (@m_map_nil)) (zA0 (@m_getElem_cons_zero) (@m_getElem_cons_succ))) (zA0 (zA0 (@m_ne_eq) (@m_not_false_eq_true)) (zA0 (@m_not_false) (@m_not_true)))))) :=
 zA0 (zA0 (zA0 (zA0 (@upd_same) (zA0 (@upd_ne) (@ok_tmp))) (zA0 (zA0 (@ok_int) (@ok_bool)) (zA0 (@ok_string) (@ok_nilslice)))) (zA0 (zA0 (zA0 (@ok_nilfunc) (@ok_func)) (zA0 (@opv_const) (@opv_tmp))) (zA0 (zA0 (@opv_func) (@all_nil)) (zA0 (@all_cons) (@and_tt))))) (zA0 (zA0 (zA0 (@pok_nil) (zA0 (@pok_cons) (@pmap_nil))) (zA0 (zA0 (@pmap_cons) (@pairs_ok)) (zA0 (@isSome_some) (@m_bind_some)))) (zA0 (zA0 (zA0 (@m_map_cons) (@m_map_nil)) (zA0 (@m_getElem_cons_zero) (@m_getElem_cons_succ))) (zA0 (zA0 (@m_ne_eq) (@m_not_false_eq_true)) (zA0 (@m_not_false) (@m_not_true)))))
theorem ruW:type_of% (zA0 (zA0 (zA0 (zA0 (zA0 (zA0 (zA0 (@w_gd) (@gdC_some)) (zA0 (@guardC_true) (@guardC_ff))) (zA0 (zA0 (@guardC_tt) (@guardC_un)) (zA0 (@put_at) (@dst_list)))) (zA0 (zA0 (zA0 (@w_seq) (@w_region)) (zA0 (@w_move) (@w_assign))) (zA0 (zA0 (@w_nil) (@w_cond)) (zA0 (@w_ret) (@w_skip))))) (zA0 (zA0 (zA0 (zA0 (@w_exit) (@w_block)) (zA0 (@w_extract) (@w_not))) (zA0 (zA0 (@w_build) (@w_call)) (zA0 (@w_builtin) (@w_bin)))) (zA0 (zA0 (zA0 (@w_nilCheck) (@w_fieldAddr)) (zA0 (@w_indexAddr) (@w_load))) (zA0 (zA0 (@w_store) (@w_box)) (zA0 (@w_alloc) (zA0 (@w_buildSlice) (@w_makeSlice))))))) (zA0 (zA0 (zA0 (zA0 (zA0 (@w_slice) (@bnds_none)) (zA0 (@bnds_some) (@bndsOk_none))) (zA0 (zA0 (@bndsOk_some) (@w_pick)) (zA0 (@w_func) (@valC_some)))) (zA0 (zA0 (zA0 (@heapC_some) (@storeC_some)) (zA0 (@seqC_normal) (@seqC_ret))) (zA0 (zA0 (@seqC_exit) (@blockC_normal)) (zA0 (@blockC_ret) (@blockC_exit))))) (zA0 (zA0 (zA0 (zA0 (@loopC_exit) (@loopC_ret)) (zA0 (@condC_true) (@condC_false))) (zA0 (zA0 (@endA_ret) (@endA_normal)) (zA0 (@opC_ok) (@exV_tuple)))) (zA0 (zA0 (zA0 (@notV_bool) (@nilW_ptr)) (zA0 (@pickV_true) (@pickV_false))) (zA0 (zA0 (@bin_add) (@bin_sub)) (zA0 (@bin_eql) (zA0 (@bin_neq) (@bin_lss)))))))) (zA0 (zA0 (zA0 (zA0 (zA0 (zA0 (@bin_leq) (@bin_gtr)) (zA0 (@bin_geq) (@bt_min))) (zA0 (zA0 (@bt_lenS) (@lenS_slice)) (zA0 (@lenR_slice) (@go_int)))) (zA0 (zA0 (zA0 (@new_nw) (@ext_append)) (zA0 (@ext_next) (@load_bk))) (zA0 (zA0 (@orr_some) (@bk_at)) (zA0 (@bk_old) (@ld_one))))) (zA0 (zA0 (zA0 (zA0 (@ld_agg) (@store_new)) (zA0 (@store_old) (@stB_ok))) (zA0 (zA0 (@uw_next) (@bk_uw_eq)) (zA0 (@putB_eq) (@allocV_some)))) (zA0 (zA0 (zA0 (@new_ext) (@m_map_some)) (zA0 (@cells_int) (@cells_slice))) (zA0 (zA0 (@cells_agg) (@allOne_nil)) (zA0 (@allOne_cons) (zA0 (@one_int) (@one_bool))))))) (zA0 (zA0 (zA0 (zA0 (zA0 (@one_slice) (@one_string)) (zA0 (@sc_nil) (@sc_cons))) (zA0 (zA0 (@sc_int) (@sc_bool)) (zA0 (@sc_string) (@sc_nilslice)))) (zA0 (zA0 (zA0 (@sc_slice) (@sc_add)) (zA0 (@lt_new) (@lt_old))) (zA0 (zA0 (@ne_new) (@add_add)) (zA0 (@m_length_cons) (@m_length_nil))))) (zA0 (zA0 (zA0 (zA0 (@m_set_cons_zero) (@m_set_cons_succ)) (zA0 (@m_nil_append) (@m_cons_append))) (zA0 (zA0 (@m_drop_succ_cons) (@m_drop_zero)) (zA0 (@m_take_succ_cons) (@m_take_zero)))) (zA0 (zA0 (zA0 (@m_if_true) (@lv_nil)) (zA0 (@leaveO_some) (@rs_nil))) (zA0 (zA0 (@rs_tmp) (@rs_cell)) (zA0 (@tup_nil) (zA0 (@tup_one) (@tup_two))))))))) :=
 zA0 (zA0 (zA0 (zA0 (zA0 (zA0 (zA0 (@w_gd) (@gdC_some)) (zA0 (@guardC_true) (@guardC_ff))) (zA0 (zA0 (@guardC_tt) (@guardC_un)) (zA0 (@put_at) (@dst_list)))) (zA0 (zA0 (zA0 (@w_seq) (@w_region)) (zA0 (@w_move) (@w_assign))) (zA0 (zA0 (@w_nil) (@w_cond)) (zA0 (@w_ret) (@w_skip))))) (zA0 (zA0 (zA0 (zA0 (@w_exit) (@w_block)) (zA0 (@w_extract) (@w_not))) (zA0 (zA0 (@w_build) (@w_call)) (zA0 (@w_builtin) (@w_bin)))) (zA0 (zA0 (zA0 (@w_nilCheck) (@w_fieldAddr)) (zA0 (@w_indexAddr) (@w_load))) (zA0 (zA0 (@w_store) (@w_box)) (zA0 (@w_alloc) (zA0 (@w_buildSlice) (@w_makeSlice))))))) (zA0 (zA0 (zA0 (zA0 (zA0 (@w_slice) (@bnds_none)) (zA0 (@bnds_some) (@bndsOk_none))) (zA0 (zA0 (@bndsOk_some) (@w_pick)) (zA0 (@w_func) (@valC_some)))) (zA0 (zA0 (zA0 (@heapC_some) (@storeC_some)) (zA0 (@seqC_normal) (@seqC_ret))) (zA0 (zA0 (@seqC_exit) (@blockC_normal)) (zA0 (@blockC_ret) (@blockC_exit))))) (zA0 (zA0 (zA0 (zA0 (@loopC_exit) (@loopC_ret)) (zA0 (@condC_true) (@condC_false))) (zA0 (zA0 (@endA_ret) (@endA_normal)) (zA0 (@opC_ok) (@exV_tuple)))) (zA0 (zA0 (zA0 (@notV_bool) (@nilW_ptr)) (zA0 (@pickV_true) (@pickV_false))) (zA0 (zA0 (@bin_add) (@bin_sub)) (zA0 (@bin_eql) (zA0 (@bin_neq) (@bin_lss)))))))) (zA0 (zA0 (zA0 (zA0 (zA0 (zA0 (@bin_leq) (@bin_gtr)) (zA0 (@bin_geq) (@bt_min))) (zA0 (zA0 (@bt_lenS) (@lenS_slice)) (zA0 (@lenR_slice) (@go_int)))) (zA0 (zA0 (zA0 (@new_nw) (@ext_append)) (zA0 (@ext_next) (@load_bk))) (zA0 (zA0 (@orr_some) (@bk_at)) (zA0 (@bk_old) (@ld_one))))) (zA0 (zA0 (zA0 (zA0 (@ld_agg) (@store_new)) (zA0 (@store_old) (@stB_ok))) (zA0 (zA0 (@uw_next) (@bk_uw_eq)) (zA0 (@putB_eq) (@allocV_some)))) (zA0 (zA0 (zA0 (@new_ext) (@m_map_some)) (zA0 (@cells_int) (@cells_slice))) (zA0 (zA0 (@cells_agg) (@allOne_nil)) (zA0 (@allOne_cons) (zA0 (@one_int) (@one_bool))))))) (zA0 (zA0 (zA0 (zA0 (zA0 (@one_slice) (@one_string)) (zA0 (@sc_nil) (@sc_cons))) (zA0 (zA0 (@sc_int) (@sc_bool)) (zA0 (@sc_string) (@sc_nilslice)))) (zA0 (zA0 (zA0 (@sc_slice) (@sc_add)) (zA0 (@lt_new) (@lt_old))) (zA0 (zA0 (@ne_new) (@add_add)) (zA0 (@m_length_cons) (@m_length_nil))))) (zA0 (zA0 (zA0 (zA0 (@m_set_cons_zero) (@m_set_cons_succ)) (zA0 (@m_nil_append) (@m_cons_append))) (zA0 (zA0 (@m_drop_succ_cons) (@m_drop_zero)) (zA0 (@m_take_succ_cons) (@m_take_zero)))) (zA0 (zA0 (zA0 (@m_if_true) (@lv_nil)) (zA0 (@leaveO_some) (@rs_nil))) (zA0 (zA0 (@rs_tmp) (@rs_cell)) (zA0 (@tup_nil) (zA0 (@tup_one) (@tup_two))))))))
theorem ruD:type_of% (zA0 (zA0 (zA0 (zA0 (zA0 (@wd_store) (zA0 (@storeV_some) (@wd_buildSlice))) (zA0 (zA0 (@newV_some) (@wd_builtin)) (zA0 (@rb_lenS) (@wd_gd)))) (zA0 (zA0 (zA0 (@gdV_some) (@guardV_true)) (zA0 (@guardV_ff) (@guardV_tt))) (zA0 (zA0 (@wd_move) (@wd_assign)) (zA0 (@wd_nil) (@wd_not))))) (zA0 (zA0 (zA0 (zA0 (@wd_nilCheck) (@wd_fieldAddr)) (zA0 (@wd_indexAddr) (@wd_load))) (zA0 (zA0 (@wd_call) (@wd_build)) (zA0 (@wd_pick) (@wd_bin)))) (zA0 (zA0 (zA0 (@reg_add) (@reg_sub)) (zA0 (@reg_lss) (@reg_leq))) (zA0 (zA0 (@reg_gtr) (@reg_geq)) (zA0 (@reg_eql) (@reg_neq)))))) (zA0 (zA0 (zA0 (zA0 (zA0 (@reg_neb) (@valD_some)) (zA0 (@loadV_some) (@plainPtr_eq))) (zA0 (zA0 (@ptrB_eq) (@idsOk_nil)) (zA0 (@idsOk_quiet) (@idsOk_empty)))) (zA0 (zA0 (zA0 (@ids_int) (@ids_bool)) (zA0 (@ids_ptr) (@m_true_and))) (zA0 (zA0 (@idsOk_anc) (@idsOk_new)) (zA0 (@meets_bit) (@meets_eq))))) (zA0 (zA0 (zA0 (zA0 (@meets_newer) (@ids_at)) (zA0 (@idsB_eq) (@ids_agg))) (zA0 (zA0 (@idsL_nil) (@idsL_cons)) (zA0 (@all2_nil) (@all2_cons)))) (zA0 (zA0 (zA0 (@nmem_one) (@nmem_nil)) (zA0 (@m_not_true_eq_false) (@m_implies_true))) (zA0 (zA0 (@m_or_true) (@m_true_or)) (zA0 (@m_and_self) (@m_all_true))))))) :=
 zA0 (zA0 (zA0 (zA0 (zA0 (@wd_store) (zA0 (@storeV_some) (@wd_buildSlice))) (zA0 (zA0 (@newV_some) (@wd_builtin)) (zA0 (@rb_lenS) (@wd_gd)))) (zA0 (zA0 (zA0 (@gdV_some) (@guardV_true)) (zA0 (@guardV_ff) (@guardV_tt))) (zA0 (zA0 (@wd_move) (@wd_assign)) (zA0 (@wd_nil) (@wd_not))))) (zA0 (zA0 (zA0 (zA0 (@wd_nilCheck) (@wd_fieldAddr)) (zA0 (@wd_indexAddr) (@wd_load))) (zA0 (zA0 (@wd_call) (@wd_build)) (zA0 (@wd_pick) (@wd_bin)))) (zA0 (zA0 (zA0 (@reg_add) (@reg_sub)) (zA0 (@reg_lss) (@reg_leq))) (zA0 (zA0 (@reg_gtr) (@reg_geq)) (zA0 (@reg_eql) (@reg_neq)))))) (zA0 (zA0 (zA0 (zA0 (zA0 (@reg_neb) (@valD_some)) (zA0 (@loadV_some) (@plainPtr_eq))) (zA0 (zA0 (@ptrB_eq) (@idsOk_nil)) (zA0 (@idsOk_quiet) (@idsOk_empty)))) (zA0 (zA0 (zA0 (@ids_int) (@ids_bool)) (zA0 (@ids_ptr) (@m_true_and))) (zA0 (zA0 (@idsOk_anc) (@idsOk_new)) (zA0 (@meets_bit) (@meets_eq))))) (zA0 (zA0 (zA0 (zA0 (@meets_newer) (@ids_at)) (zA0 (@idsB_eq) (@ids_agg))) (zA0 (zA0 (@idsL_nil) (@idsL_cons)) (zA0 (@all2_nil) (@all2_cons)))) (zA0 (zA0 (zA0 (@nmem_one) (@nmem_nil)) (zA0 (@m_not_true_eq_false) (@m_implies_true))) (zA0 (zA0 (@m_or_true) (@m_true_or)) (zA0 (@m_and_self) (@m_all_true))))))
end Go.Ax
namespace Go.Proofs.YtfpckllenkifkaaGreatDoor
open Go.Ax
set_option maxRecDepth 100000
theorem xU4:Tryz.prog.underlying 4=some .bool:=by kernel_rfl
theorem mixed:Tryz.prog.follows .mixedOrders=true:=by kernel_rfl
theorem xFA :
  (∀ n off:Nat,aFieldAddr Tryz.prog 25 (.pointer (some ⟨n,off,none⟩)) 0=some (.pointer (some ⟨n,off,none⟩))) /\
  (∀ n off:Nat,aFieldAddr Tryz.prog 25 (.pointer (some ⟨n,off,none⟩)) 1=some (.pointer (some ⟨n,off+1,none⟩))) /\
  (∀ n off:Nat,aFieldAddr Tryz.prog 25 (.pointer (some ⟨n,off,none⟩)) 2=some (.pointer (some ⟨n,off+2,none⟩))) /\
  (∀ n off:Nat,aFieldAddr Tryz.prog 25 (.pointer (some ⟨n,off,none⟩)) 3=some (.pointer (some ⟨n,off+3,none⟩))) /\
  (∀ n off:Nat,aFieldAddr Tryz.prog 25 (.pointer (some ⟨n,off,none⟩)) 4=some (.pointer (some ⟨n,off+4,none⟩))) /\
  (∀ n off:Nat,aFieldAddr Tryz.prog 25 (.pointer (some ⟨n,off,none⟩)) 5=some (.pointer (some ⟨n,off+5,none⟩))) /\
  (∀ n off:Nat,aFieldAddr Tryz.prog 30 (.pointer (some ⟨n,off,none⟩)) 0=some (.pointer (some ⟨n,off,none⟩))) /\
  (∀ n off:Nat,aFieldAddr Tryz.prog 30 (.pointer (some ⟨n,off,none⟩)) 1=some (.pointer (some ⟨n,off+1,none⟩))) /\
  (∀ n off:Nat,aFieldAddr Tryz.prog 30 (.pointer (some ⟨n,off,none⟩)) 2=some (.pointer (some ⟨n,off+2,none⟩))) /\
  (∀ n off:Nat,aFieldAddr Tryz.prog 38 (.pointer (some ⟨n,off,none⟩)) 1=some (.pointer (some ⟨n,off+1,none⟩))) /\
  (∀ n off:Nat,aFieldAddr Tryz.prog 38 (.pointer (some ⟨n,off,none⟩)) 2=some (.pointer (some ⟨n,off+2,none⟩))) /\
  (∀ n off:Nat,aFieldAddr Tryz.prog 38 (.pointer (some ⟨n,off,none⟩)) 3=some (.pointer (some ⟨n,off+3,none⟩))) /\
  (∀ n off:Nat,aFieldAddr Tryz.prog 38 (.pointer (some ⟨n,off,none⟩)) 4=some (.pointer (some ⟨n,off+4,none⟩))) /\
  (∀ n off:Nat,aFieldAddr Tryz.prog 41 (.pointer (some ⟨n,off,none⟩)) 0=some (.pointer (some ⟨n,off,none⟩))) /\
  (∀ n off:Nat,aFieldAddr Tryz.prog 41 (.pointer (some ⟨n,off,none⟩)) 1=some (.pointer (some ⟨n,off+1,none⟩))) /\
  (∀ n off:Nat,aFieldAddr Tryz.prog 43 (.pointer (some ⟨n,off,none⟩)) 0=some (.pointer (some ⟨n,off,none⟩))) /\
  (∀ n off:Nat,aFieldAddr Tryz.prog 43 (.pointer (some ⟨n,off,none⟩)) 1=some (.pointer (some ⟨n,off+5,none⟩))) /\
  (∀ n off:Nat,aFieldAddr Tryz.prog 43 (.pointer (some ⟨n,off,none⟩)) 2=some (.pointer (some ⟨n,off+6,none⟩))) /\
  (∀ n off:Nat,aFieldAddr Tryz.prog 43 (.pointer (some ⟨n,off,none⟩)) 3=some (.pointer (some ⟨n,off+7,none⟩))) /\
  (∀ n off:Nat,aFieldAddr Tryz.prog 43 (.pointer (some ⟨n,off,none⟩)) 4=some (.pointer (some ⟨n,off+8,none⟩))) /\
  (∀ n off:Nat,aFieldAddr Tryz.prog 43 (.pointer (some ⟨n,off,none⟩)) 5=some (.pointer (some ⟨n,off+9,none⟩))) /\
  (∀ n off:Nat,aFieldAddr Tryz.prog 43 (.pointer (some ⟨n,off,none⟩)) 6=some (.pointer (some ⟨n,off+14,none⟩))) /\
  (∀ n off:Nat,aFieldAddr Tryz.prog 45 (.pointer (some ⟨n,off,none⟩)) 0=some (.pointer (some ⟨n,off,none⟩))) /\
  (∀ n off:Nat,aFieldAddr Tryz.prog 45 (.pointer (some ⟨n,off,none⟩)) 1=some (.pointer (some ⟨n,off+1,none⟩))) /\
  (∀ n off:Nat,aFieldAddr Tryz.prog 55 (.pointer (some ⟨n,off,none⟩)) 0=some (.pointer (some ⟨n,off,none⟩))) /\
  (∀ n off:Nat,aFieldAddr Tryz.prog 60 (.pointer (some ⟨n,off,none⟩)) 0=some (.pointer (some ⟨n,off,none⟩))) /\
  (∀ n off:Nat,aFieldAddr Tryz.prog 102 (.pointer (some ⟨n,off,none⟩)) 0=some (.pointer (some ⟨n,off,none⟩))) /\
  (∀ n off:Nat,aFieldAddr Tryz.prog 102 (.pointer (some ⟨n,off,none⟩)) 1=some (.pointer (some ⟨n,off+1,none⟩))):=by
 refine⟨?_,?_,?_,?_,?_,?_,?_,?_,?_,?_,?_,?_,?_,?_,?_,?_,?_,?_,?_,?_,?_,?_,?_,?_,?_,?_,?_,?_⟩
 all_goals first|trivial|(intros; kernel_rfl)
theorem xFD :
  (True):=by
 refine ?_
 all_goals first|trivial|(intros; kernel_rfl)
theorem xIA :
  (True):=by
 refine ?_
 all_goals first|trivial|(intros; kernel_rfl)
theorem xSz :
  (szOf Tryz.prog 3=some 1) /\
  (aggT Tryz.prog 3=some false) /\
  (aggT Tryz.prog 4=some false) /\
  (aggT Tryz.prog 9=some false) /\
  (aggT Tryz.prog 22=some false) /\
  (aggT Tryz.prog 23=some false) /\
  (szOf Tryz.prog 25=some 6) /\
  (aggT Tryz.prog 25=some true) /\
  (szOf Tryz.prog 28=some 1) /\
  (aggT Tryz.prog 28=some false) /\
  (szOf Tryz.prog 30=some 3) /\
  (aggT Tryz.prog 30=some true) /\
  (aggT Tryz.prog 34=some false) /\
  (szOf Tryz.prog 38=some 5) /\
  (aggT Tryz.prog 38=some true) /\
  (aggT Tryz.prog 39=some false) /\
  (szOf Tryz.prog 41=some 5) /\
  (aggT Tryz.prog 41=some true) /\
  (szOf Tryz.prog 43=some 15) /\
  (aggT Tryz.prog 43=some true) /\
  (szOf Tryz.prog 45=some 6) /\
  (szOf Tryz.prog 55=some 5) /\
  (szOf Tryz.prog 103=some 14) /\
  (szOf Tryz.prog 104=some 28) /\
  (aggT Tryz.prog 106=some false):=by
 refine⟨?_,?_,?_,?_,?_,?_,?_,?_,?_,?_,?_,?_,?_,?_,?_,?_,?_,?_,?_,?_,?_,?_,?_,?_,?_⟩
 all_goals first|trivial|(intros; kernel_rfl)
theorem xZ :
  (zeroOf Tryz.prog 38=some (.agg #[.int .i64 0,.int .i64 0,.int .i64 0,.int .i64 0,.int .i64 0])) /\
  (zeroOf Tryz.prog 43=some (.agg #[.int .i64 0,.int .i64 0,.int .i64 0,.int .i64 0,.int .i64 0,.slice none 0 0,.int .i64 0,.int .i64 0,.string .empty,.int .i64 0,.int .i64 0,.bool false,.bool false,.bool false,.bool false])) /\
  (zeroOf Tryz.prog 103=some (.agg #[.int .i64 0,.int .i64 0,.int .i64 0,.int .i64 0,.int .i64 0,.int .i64 0,.int .i64 0,.int .i64 0,.int .i64 0,.int .i64 0,.int .i64 0,.int .i64 0,.int .i64 0,.int .i64 0])) /\
  (zeroOf Tryz.prog 104=some (.agg #[.int .i64 0,.int .i64 0,.int .i64 0,.int .i64 0,.int .i64 0,.int .i64 0,.int .i64 0,.int .i64 0,.int .i64 0,.int .i64 0,.int .i64 0,.int .i64 0,.int .i64 0,.int .i64 0,.int .i64 0,.int .i64 0,.int .i64 0,.int .i64 0,.int .i64 0,.int .i64 0,.int .i64 0,.int .i64 0,.int .i64 0,.int .i64 0,.int .i64 0,.int .i64 0,.int .i64 0,.int .i64 0])):=by
 refine⟨?_,?_,?_,?_⟩
 all_goals first|trivial|(intros; kernel_rfl)
theorem xSl :
  (Tryz.prog.underlying 22=some (.slice 43)) /\
  (Tryz.prog.underlying 23=some (.slice 38)) /\
  (Tryz.prog.underlying 28=some (.slice 34)) /\
  (Tryz.prog.underlying 34=some (.slice 45)) /\
  (Tryz.prog.underlying 39=some (.slice 55)) /\
  (Tryz.prog.underlying 53=some (.slice 3)) /\
  (Tryz.prog.underlying 106=some (.slice 102)):=by
 refine⟨?_,?_,?_,?_,?_,?_,?_⟩
 all_goals first|trivial|(intros; kernel_rfl)
theorem xBd :
  (∀ (x2:Int),aBuild Tryz.prog 45 [(0,.int .i64 x2)]=some (.agg #[.int .i64 x2,.int .i64 0,.int .i64 0,.bool false,.bool false,.bool false])) /\
  (∀ (x3:Int) (c4_0 c4_1 c4_2 c4_3 c4_4:Value),aBuild Tryz.prog 45 [(0,.int .i64 x3),(1,.agg #[c4_0,c4_1,c4_2,c4_3,c4_4])]=some (.agg #[.int .i64 x3,c4_0,c4_1,c4_2,c4_3,c4_4])) /\
  (∀ (x6:Int) (x7:Int),aBuild Tryz.prog 102 [(0,.int .i64 x6),(1,.int .i64 x7)]=some (.agg #[.int .i64 x6,.int .i64 x7])) /\
  (∀ (c8_0 c8_1:Value) (c9_0 c9_1:Value) (c10_0 c10_1:Value) (c11_0 c11_1:Value) (c12_0 c12_1:Value) (c13_0 c13_1:Value) (c14_0 c14_1:Value),aBuild Tryz.prog 103 [(0,.agg #[c8_0,c8_1]),(1,.agg #[c9_0,c9_1]),(2,.agg #[c10_0,c10_1]),(3,.agg #[c11_0,c11_1]),(4,.agg #[c12_0,c12_1]),(5,.agg #[c13_0,c13_1]),(6,.agg #[c14_0,c14_1])]=some (.agg #[c8_0,c8_1,c9_0,c9_1,c10_0,c10_1,c11_0,c11_1,c12_0,c12_1,c13_0,c13_1,c14_0,c14_1])) /\
  (∀ (c15_0 c15_1:Value) (c16_0 c16_1:Value) (c17_0 c17_1:Value) (c18_0 c18_1:Value) (c19_0 c19_1:Value) (c20_0 c20_1:Value) (c21_0 c21_1:Value) (c22_0 c22_1:Value) (c23_0 c23_1:Value) (c24_0 c24_1:Value) (c25_0 c25_1:Value) (c26_0 c26_1:Value) (c27_0 c27_1:Value) (c28_0 c28_1:Value),aBuild Tryz.prog 104 [(0,.agg #[c15_0,c15_1]),(1,.agg #[c16_0,c16_1]),(2,.agg #[c17_0,c17_1]),(3,.agg #[c18_0,c18_1]),(4,.agg #[c19_0,c19_1]),(5,.agg #[c20_0,c20_1]),(6,.agg #[c21_0,c21_1]),(7,.agg #[c22_0,c22_1]),(8,.agg #[c23_0,c23_1]),(9,.agg #[c24_0,c24_1]),(10,.agg #[c25_0,c25_1]),(11,.agg #[c26_0,c26_1]),(12,.agg #[c27_0,c27_1]),(13,.agg #[c28_0,c28_1])]=some (.agg #[c15_0,c15_1,c16_0,c16_1,c17_0,c17_1,c18_0,c18_1,c19_0,c19_1,c20_0,c20_1,c21_0,c21_1,c22_0,c22_1,c23_0,c23_1,c24_0,c24_1,c25_0,c25_1,c26_0,c26_1,c27_0,c27_1,c28_0,c28_1])):=by
 refine⟨?_,?_,?_,?_,?_⟩
 all_goals first|trivial|(intros; kernel_rfl)
theorem xBs :
  (∀ H:AHeap,∀ (c29_0 c29_1 c29_2 c29_3 c29_4:Value),aBuildSlice Tryz.prog H 23 1 [(0,.agg #[c29_0,c29_1,c29_2,c29_3,c29_4])]=(aNew H 38 [c29_0,c29_1,c29_2,c29_3,c29_4] false).map fun g=>(.slice (some ⟨H.next,0,some 0⟩) 1 1,g)) /\
  (∀ H:AHeap,∀ (x30:Option Addr) (y30 z30:Nat),aBuildSlice Tryz.prog H 28 1 [(0,.slice x30 y30 z30)]=(aNew H 34 [.slice x30 y30 z30] false).map fun g=>(.slice (some ⟨H.next,0,some 0⟩) 1 1,g)) /\
  (∀ H:AHeap,∀ (c31_0 c31_1 c31_2 c31_3 c31_4 c31_5:Value),aBuildSlice Tryz.prog H 34 1 [(0,.agg #[c31_0,c31_1,c31_2,c31_3,c31_4,c31_5])]=(aNew H 45 [c31_0,c31_1,c31_2,c31_3,c31_4,c31_5] false).map fun g=>(.slice (some ⟨H.next,0,some 0⟩) 1 1,g)) /\
  (∀ H:AHeap,∀ (c32_0 c32_1 c32_2 c32_3 c32_4 c32_5:Value) (c33_0 c33_1 c33_2 c33_3 c33_4 c33_5:Value),aBuildSlice Tryz.prog H 34 2 [(0,.agg #[c32_0,c32_1,c32_2,c32_3,c32_4,c32_5]),(1,.agg #[c33_0,c33_1,c33_2,c33_3,c33_4,c33_5])]=(aNew H 45 [c32_0,c32_1,c32_2,c32_3,c32_4,c32_5,c33_0,c33_1,c33_2,c33_3,c33_4,c33_5] false).map fun g=>(.slice (some ⟨H.next,0,some 0⟩) 2 2,g)) /\
  (∀ H:AHeap,∀ (x34:Int),aBuildSlice Tryz.prog H 53 1 [(0,.int .i64 x34)]=(aNew H 3 [.int .i64 x34] false).map fun g=>(.slice (some ⟨H.next,0,some 0⟩) 1 1,g)):=by
 refine⟨?_,?_,?_,?_,?_⟩
 all_goals first|trivial|(intros; kernel_rfl)
theorem xTA :
  (True):=by
 refine ?_
 all_goals first|trivial|(intros; kernel_rfl)
theorem xMI :
  (True):=by
 refine ?_
 all_goals first|trivial|(intros; kernel_rfl)
theorem xCm :
  (True):=by
 refine ?_
 all_goals first|trivial|(intros; kernel_rfl)
theorem xHB :
  (hasBody Tryz.prog 4=true) /\
  (hasBody Tryz.prog 5=true) /\
  (hasBody Tryz.prog 6=true) /\
  (hasBody Tryz.prog 8=true) /\
  (hasBody Tryz.prog 15=true) /\
  (hasBody Tryz.prog 16=true) /\
  (hasBody Tryz.prog 17=true) /\
  (hasBody Tryz.prog 18=true) /\
  (hasBody Tryz.prog 19=true) /\
  (hasBody Tryz.prog 20=true) /\
  (hasBody Tryz.prog 21=true) /\
  (hasBody Tryz.prog 23=true) /\
  (hasBody Tryz.prog 24=true) /\
  (hasBody Tryz.prog 25=true) /\
  (hasBody Tryz.prog 27=true) /\
  (hasBody Tryz.prog 33=true) /\
  (hasBody Tryz.prog 35=true) /\
  (hasBody Tryz.prog 36=true) /\
  (hasBody Tryz.prog 38=true) /\
  (hasBody Tryz.prog 40=true) /\
  (hasBody Tryz.prog 41=true) /\
  (hasBody Tryz.prog 42=true) /\
  (hasBody Tryz.prog 43=true) /\
  (hasBody Tryz.prog 44=true) /\
  (hasBody Tryz.prog 46=true) /\
  (hasBody Tryz.prog 64=true) /\
  (hasBody Tryz.prog 65=true) /\
  (hasBody Tryz.prog 67=true) /\
  (hasBody Tryz.prog 68=true) /\
  (hasBody Tryz.prog 71=true) /\
  (hasBody Tryz.prog 72=true) /\
  (hasBody Tryz.prog 73=true) /\
  (hasBody Tryz.prog 81=true):=by
 refine⟨?_,?_,?_,?_,?_,?_,?_,?_,?_,?_,?_,?_,?_,?_,?_,?_,?_,?_,?_,?_,?_,?_,?_,?_,?_,?_,?_,?_,?_,?_,?_,?_,?_⟩
 all_goals first|trivial|(intros; kernel_rfl)
theorem xGl :
  (True):=by
 refine ?_
 all_goals first|trivial|(intros; kernel_rfl)
theorem xF:type_of% (zA0 @xFA ( zA0 @xFD ( zA0 @xIA ( zA0 @xSz ( zA0 @xZ ( zA0 @xSl ( zA0 @xBd ( zA0 @xBs ( zA0 @xTA ( zA0 @xMI ( zA0 @xCm ( zA0 @xHB ( zA0 @xGl (@xU4)))))))))))))) :=
 zA0 @xFA ( zA0 @xFD ( zA0 @xIA ( zA0 @xSz ( zA0 @xZ ( zA0 @xSl ( zA0 @xBd ( zA0 @xBs ( zA0 @xTA ( zA0 @xMI ( zA0 @xCm ( zA0 @xHB ( zA0 @xGl (@xU4)))))))))))))
abbrev Pure (f:FuncId) (args:List Value) (H:AHeap) (v:Value):Prop:=CallS Tryz.prog f args H (.ok v) H
abbrev w64 (n:Int):Int:=IntKind.i64.wrap n
theorem wrap_sm {n:Int} (h1:-4000000000000<n) (h2:n<4000000000000):w64 n=n:=by
 simp only[w64,IntKind.wrap,IntKind.signed,IntKind.bits]
 simp
 omega
theorem wrap_succ {k:Nat} (h:k<1000000):IntKind.i64.wrap ((k:Int)+1)=((k+1:Nat):Int):=by
 have:=wrap_sm (n:=(k:Int)+1) (by omega) (by omega)
 rw[show IntKind.i64.wrap ((k:Int)+1)=_ from this]; omega
structure Ce where
 rune:Int
 fore:Int
 back:Int
 bold:Bool
 under:Bool
 inv:Bool
deriving DecidableEq
def Ce.cells (c:Ce):List Value:=[.int .i64 c.rune,.int .i64 c.fore,.int .i64 c.back,.bool c.bold,.bool c.under,.bool c.inv]
def Ce.val (c:Ce):Value:=.agg #[.int .i64 c.rune,.int .i64 c.fore,.int .i64 c.back,.bool c.bold,.bool c.under,.bool c.inv]
def csOf (l:List Ce):List Value:=l.flatMap Ce.cells
theorem csOf_cons (c:Ce) (l:List Ce):csOf (c::l)=c.cells++csOf l:=rfl
theorem csOf_append (l m:List Ce):csOf (l++m)=csOf l++csOf m:=by simp[csOf]
theorem csOf_length (l:List Ce):(csOf l).length=l.length*6:=by
 induction l with
 |nil=>rfl
 |cons c l ih=>rw[csOf_cons,zC8,ih]; simp[Ce.cells]; omega
theorem csOf_one (l:List Ce):(csOf l).all one=true:=by
 induction l with
 |nil=>rfl
 |cons c l ih=>rw[csOf_cons,List.all_append,ih]; rfl
theorem csOf_sc (l:List Ce) (n:Nat):scbL n (csOf l)=true:=by
 induction l with
 |nil=>rfl
 |cons c l ih =>
  rw[csOf_cons]
  simp only[Ce.cells,List.cons_append,zD5,scbL,scb,ih,zD6]
def RowAt (H:AHeap) (v:Value) (l:List Ce):Prop :=
 (l=[]/\∃ a c,v=.slice a 0 c)\/(l≠[]/\∃ n off s c e o L,v=.slice (some ⟨n,off,s⟩) l.length c/\rk H n=some ⟨e,o,L⟩/\n<H.next/\off+l.length*6<=L.length/\(L.drop off).take (l.length*6)=csOf l)
theorem RowAt.sl {H:AHeap} {v:Value} {l:List Ce} (h:RowAt H v l):∃ a c,v=.slice a l.length c:=by
 rcases h with⟨rfl,a,c,rfl⟩|⟨_,n,off,s,c,e,o,L,rfl,_⟩
 ·exact⟨a,c,rfl⟩
 ·exact⟨_,_,rfl⟩
theorem RowAt.of {H G:AHeap} {v:Value} {l:List Ce} (h:RowAt H v l) (hn:H.next<=G.next) (hg:∀ n∈idsV v,G.get n=H.get n):RowAt G v l:=by
 rcases h with⟨rfl,a,c,rfl⟩|⟨hl,n,off,s,c,e,o,L,rfl,hb,hlt,hle,ht⟩
 ·exact .inl ⟨rfl,a,c,rfl⟩
 ·exact .inr ⟨hl,n,off,s,c,e,o,L,rfl,(rk_get (hg n (by simp[idsV]))).trans hb,by omega,hle,ht⟩
theorem take_get:∀ (l:List Ce) (k:Nat) (c:Ce) (L:List Value) (off:Nat),l[k]?=some c->(L.drop off).take (l.length*6)=csOf l->(L.drop (off+k*6)).take 6=c.cells:=by
 intro l k c L off hk h
 have hlt:k<l.length:=by
  rcases zB6 k l.length with h'|h'
  ·exact h'
  ·rw[zC6 h']at hk; cases hk
 have key:∀ (l:List Ce) (k:Nat),l[k]?=some c->((csOf l).drop (k*6)).take 6=c.cells:=by
  intro l
  induction l with
  |nil=>intro k h; simp at h
  |cons q ps ih =>
   intro k h
   cases k with
   |zero =>
    simp only[zC5,Option.some.injEq]at h
    subst h
    simp[csOf,Ce.cells]
   |succ k =>
    have ih:=ih k (by simpa using h)
    rw[csOf_cons,show (k+1)*6=q.cells.length+k*6 by simp[Ce.cells]; omega,List.drop_append,List.drop_eq_nil_of_le (by omega),zD5,Nat.add_sub_cancel_left]
    exact ih
 have h2:=key l k hk
 rw[<-h,List.drop_take,List.drop_drop,List.take_take,Nat.min_eq_left (by omega)]at h2
 exact h2
theorem row_load {l:List Ce} {k:Nat} {c:Ce} {e:TypeId} {o:Bool} {L:List Value} {off:Nat} (hk:l[k]?=some c) (hle:off+l.length*6<=L.length) (h:(L.drop off).take (l.length*6)=csOf l):ldB Tryz.prog 45 (off+k*6) (some ⟨e,o,L⟩)=some c.val:=by
 have hlt:k<l.length:=by
  rcases zB6 k l.length with h'|h'
  ·exact h'
  ·rw[zC6 h']at hk; cases hk
 have h1:aggT Tryz.prog 45=some true:=by kernel_rfl
 have h2:szOf Tryz.prog 45=some 6:=by kernel_rfl
 simp only[ldB,h1,h2,zA3,take_get l k c L off hk h]
 rw[if_pos (by omega)]
 rfl
theorem row_ia {len cap n off:Nat} {s:Option Nat} {i:Int} {k:Nat} (hi:i=k) (hk:k<len):aIndexAddr Tryz.prog 34 (.slice (some ⟨n,off,s⟩) len cap) (.int .i64 i)=some (.pointer (some ⟨n,off+k*6,none⟩)):=by
 subst hi
 rw[ia_slice (e:=45) (sz:=6) (by kernel_rfl) (by kernel_rfl) (by omega) (by omega)]
 simp
theorem ce_eqL (r s:Ce):eqL r.cells s.cells=decide (r=s):=by
 obtain⟨a,b,c,d,e,f⟩:=r
 obtain⟨a',b',c',d',e',f'⟩:=s
 simp only[Ce.cells,eqL,eq1,Bool.and_true,Ce.mk.injEq]
 by_cases h1:a=a'<;>by_cases h2:b=b'<;>by_cases h3:c=c'<;>by_cases h4:d=d'<;>by_cases h5:e=e'<;>by_cases h6:f=f'<;>simp[h1,h2,h3,h4,h5,h6]
theorem fl55:flat Tryz.prog 10000 45=some [3,3,3,4,4,4]:=by kernel_rfl
theorem ag55:aggT Tryz.prog 45=some true:=by kernel_rfl
theorem gd55:Tryz.prog.eqGuardType Tryz.prog.depth 45=false:=by kernel_rfl
theorem ce_fits (r:Ce):fits Tryz.prog [3,3,3,4,4,4] r.cells=true:=by
 have h3:∀ n,fit1 Tryz.prog 3 (.int .i64 n)=true:=fun n=>by kernel_rfl
 have h4:∀ n,fit1 Tryz.prog 4 (.bool n)=true:=fun n=>by kernel_rfl
 simp only[Ce.cells,fits,h3,h4,zD6]
structure Rw where
 cells:List Ce
 pos:List Int
 frm:Int
 til:Int
 cont:Bool
structure Rc where
 id:Int
 top:Int
 left:Int
 height:Int
 width:Int
structure Pn where
 rect:Rc
 rows:List Rw
 row:Int
 col:Int
 mode:ByteArray
 fore:Int
 back:Int
 bold:Bool
 under:Bool
 inv:Bool
 sel:Bool
def Rc.cells (r:Rc):List Value:=[.int .i64 r.id,.int .i64 r.top,.int .i64 r.left,.int .i64 r.height,.int .i64 r.width]
def ItemsAt {α:Type} (H:AHeap) (sz:Nat) (R:List Value->α->Prop) (u:Value) (l:List α):Prop :=
 ∃ vs,SlAt H sz u vs l.length/\∀ (i:Nat) (a:α),l[i]?=some a->R ((vs.drop (i*sz)).take sz) a
def RwAt (H:AHeap) (cs:List Value) (r:Rw):Prop :=
 ∃ cv pv,cs=[cv,pv,.int .i64 r.frm,.int .i64 r.til,.bool r.cont]/\SlAt H 6 cv (csOf r.cells) r.cells.length/\SlAt H 1 pv (r.pos.map (Value.int .i64)) r.pos.length/\r.pos.length<=17592186043904
def PnAt (H:AHeap) (cs:List Value) (p:Pn):Prop :=
 ∃ rv,cs=p.rect.cells++[rv,.int .i64 p.row,.int .i64 p.col,.string p.mode,.int .i64 p.fore,.int .i64 p.back,.bool p.bold,.bool p.under,.bool p.inv,.bool p.sel]/\ItemsAt H 5 (RwAt H) rv p.rows/\Cut0 rv
theorem items_of {α:Type} {P:Program} {H:AHeap} {D e sz:Nat} {R:List Value->α->Prop} (hR:∀ cs,ValT P H D e cs->∃ a,R cs a) {u:Value} {vs:List Value} {len:Nat} (h:SlAt H sz u vs len) (hv:∀ i,i<len->ValT P H D e ((vs.drop (i*sz)).take sz)):∃ l:List α,ItemsAt H sz R u l:=by
 have:∀ n,n<=len->∃ l:List α,l.length=n/\∀ (i:Nat) (a:α),l[i]?=some a->R ((vs.drop (i*sz)).take sz) a:=by
  intro n
  induction n with
  |zero=>exact fun _=>⟨[],rfl,fun i a h=>by simp at h⟩
  |succ n ih =>
   intro hn
   obtain⟨l,h1,h2⟩:=ih (by omega)
   obtain⟨a,ha⟩:=hR _ (hv n (by omega))
   refine⟨l++[a],by simp[h1],fun i b hb=>?_⟩
   rcases zB6 i l.length with hi|hi
   ·rw[List.getElem?_append_left hi]at hb
    exact h2 i b hb
   ·have hil:i=n:=by
     have:=(List.getElem?_eq_some_iff.1 hb).1
     simp at this
     omega
    subst hil
    rw[List.getElem?_append_right (by omega),h1,Nat.sub_self]at hb
    cases hb
    exact ha
 obtain⟨l,h1,h2⟩:=this len (zA8 _)
 exact⟨l,vs,by rw[h1]; exact h,h2⟩
theorem rf_u3:Tryz.prog.underlying 3=some (.int .i64):=by kernel_rfl
theorem rf_u4:Tryz.prog.underlying 4=some .bool:=by kernel_rfl
theorem rf_u9:Tryz.prog.underlying 9=some .string:=by kernel_rfl
theorem fit_i {v:Value} (h:fit1 Tryz.prog 3 v=true):∃ n,v=.int .i64 n:=by
 unfold fit1 at h
 rw[rf_u3]at h
 cases v<;>simp at h
 exact⟨_,by rw[h]⟩
theorem fit_b {v:Value} (h:fit1 Tryz.prog 4 v=true):∃ n,v=.bool n:=by
 unfold fit1 at h
 rw[rf_u4]at h
 cases v<;>simp at h
 exact⟨_,rfl⟩
theorem fit_s {v:Value} (h:fit1 Tryz.prog 9 v=true):∃ n,v=.string n:=by
 unfold fit1 at h
 rw[rf_u9]at h
 cases v<;>simp at h
 exact⟨_,rfl⟩
theorem val_i {H:AHeap} {D:Nat} {us:List Value} (h:ValT Tryz.prog H (D+2) 3 us):∃ n,us=[.int .i64 n]:=by
 have hf:flat Tryz.prog (D+1) 3=some [3]:=by unfold flat; rw[rf_u3]
 have:=h.fla hf
 match us,this with
 |[a],h =>
  simp only[fits,Bool.and_true]at h
  obtain⟨n,rfl⟩:=fit_i h
  exact⟨n,rfl⟩
 |[],h=>simp[fits]at h
 |_::_::_,h=>simp[fits]at h
theorem val_b {H:AHeap} {D:Nat} {us:List Value} (h:ValT Tryz.prog H (D+2) 4 us):∃ n,us=[.bool n]:=by
 have hf:flat Tryz.prog (D+1) 4=some [4]:=by unfold flat; rw[rf_u4]
 have:=h.fla hf
 match us,this with
 |[a],h =>
  simp only[fits,Bool.and_true]at h
  obtain⟨n,rfl⟩:=fit_b h
  exact⟨n,rfl⟩
 |[],h=>simp[fits]at h
 |_::_::_,h=>simp[fits]at h
theorem val_s {H:AHeap} {D:Nat} {us:List Value} (h:ValT Tryz.prog H (D+2) 9 us):∃ n,us=[.string n]:=by
 have hf:flat Tryz.prog (D+1) 9=some [9]:=by unfold flat; rw[rf_u9]
 have:=h.fla hf
 match us,this with
 |[a],h =>
  simp only[fits,Bool.and_true]at h
  obtain⟨n,rfl⟩:=fit_s h
  exact⟨n,rfl⟩
 |[],h=>simp[fits]at h
 |_::_::_,h=>simp[fits]at h
theorem rf_ce:∀ cs,fits Tryz.prog [3,3,3,4,4,4] cs=true->∃ c:Ce,cs=c.cells:=fun cs h=>by
 have hl:=fits_length h
 match cs,hl,h with
 |[a,b,c,d,e,f],_,h =>
  simp only[fits,zA4,Bool.and_true]at h
  obtain⟨h1,h2,h3,h4,h5,h6⟩:=h
  obtain⟨_,rfl⟩:=fit_i h1
  obtain⟨_,rfl⟩:=fit_i h2
  obtain⟨_,rfl⟩:=fit_i h3
  obtain⟨_,rfl⟩:=fit_b h4
  obtain⟨_,rfl⟩:=fit_b h5
  obtain⟨_,rfl⟩:=fit_b h6
  exact⟨⟨_,_,_,_,_,_⟩,rfl⟩
theorem fm_map (l:List Int):l.flatMap (fun n=>[Value.int .i64 n])=l.map (Value.int .i64):=by
 induction l with
 |nil=>rfl
 |cons p l ih=>rw[zE1,ih]; rfl
theorem rw_of {H:AHeap} (cs:List Value) (h:ValT Tryz.prog H 8 55 cs):∃ r,RwAt H cs r:=by
 obtain⟨hl,hf⟩:=h.str (l:=[(34,0),(53,1),(3,2),(3,3),(4,4)]) (by kernel_rfl) (by kernel_rfl)
 have c1:Tryz.prog.cellsOf 34=1:=cellsOf_szOf (by kernel_rfl)
 have c2:Tryz.prog.cellsOf 53=1:=cellsOf_szOf (by kernel_rfl)
 have c3:Tryz.prog.cellsOf 3=1:=cellsOf_szOf (by kernel_rfl)
 have c4:Tryz.prog.cellsOf 4=1:=cellsOf_szOf (by kernel_rfl)
 rw[cellsOf_szOf (n:=5) (by kernel_rfl)]at hl
 match cs,hl,hf with
 |[a,b,c,d,e],_,hf =>
  have f0:=hf 0 34 0 rfl
  have f1:=hf 1 53 1 rfl
  have f2:=hf 2 3 2 rfl
  have f3:=hf 3 3 3 rfl
  have f4:=hf 4 4 4 rfl
  rw[c1]at f0
  rw[c2]at f1
  rw[c3]at f2 f3
  rw[c4]at f4
  obtain⟨n2,e2⟩:=val_i f2
  obtain⟨n3,e3⟩:=val_i f3
  obtain⟨n4,e4⟩:=val_b f4
  obtain⟨u0,vs0,l0,e0,s0,_,_,t0⟩:=f0.sli (e:=45) (sz:=6) (by kernel_rfl) (by kernel_rfl) (by kernel_rfl)
  obtain⟨u1,vs1,l1,e1,s1,w1,_,t1⟩:=f1.sli (e:=3) (sz:=1) (by kernel_rfl) (by kernel_rfl) (by kernel_rfl)
  simp only[List.drop_succ_cons,zC7,List.take_succ_cons,List.take_zero,List.cons.injEq,and_true]at e0 e1 e2 e3 e4
  subst e0 e1 e2 e3 e4
  obtain⟨ce,hce,rfl⟩:=chunk_of (ts:=[3,3,3,4,4,4]) rf_ce l0 vs0 s0.1 (fun i hi=>(t0 i hi).fla (by kernel_rfl))
  have hint:∀ cs,fits Tryz.prog [3] cs=true->∃ n:Int,cs=[Value.int .i64 n]:=fun cs h=>by
   match cs,h with
   |[x],h =>
    simp only[fits,Bool.and_true]at h
    obtain⟨n,rfl⟩:=fit_i h
    exact⟨n,rfl⟩
   |[],h=>simp[fits]at h
   |_::_::_,h=>simp[fits]at h
  obtain⟨ps,hps,rfl⟩:=chunk_of (ts:=[3]) hint l1 vs1 (by have:=s1.1; simpa using this) (fun i hi=>(t1 i hi).fla (by kernel_rfl))
  have b8:Tryz.prog.bytesOf 3=8:=by kernel_rfl
  rw[b8]at w1
  simp only[reachBytes]at w1
  refine⟨⟨ce,ps,n2,n3,n4⟩,_,_,rfl,?_,?_,?_⟩
  ·subst hce; exact s0
  ·subst hps
   rw[<-fm_map]
   exact s1
  ·simp only[hps]; omega
theorem rf_rc:∀ cs,fits Tryz.prog [3,3,3,3,3] cs=true->∃ c:Rc,cs=c.cells:=fun cs h=>by
 have hl:=fits_length h
 match cs,hl,h with
 |[a,b,c,d,e],_,h =>
  simp only[fits,zA4,Bool.and_true]at h
  obtain⟨h1,h2,h3,h4,h5⟩:=h
  obtain⟨_,rfl⟩:=fit_i h1
  obtain⟨_,rfl⟩:=fit_i h2
  obtain⟨_,rfl⟩:=fit_i h3
  obtain⟨_,rfl⟩:=fit_i h4
  obtain⟨_,rfl⟩:=fit_i h5
  exact⟨⟨_,_,_,_,_⟩,rfl⟩
theorem rf_lk:∀ cs,fits Tryz.prog [3,3,4,4,4] cs=true->∃ (f b:Int) (x y z:Bool),cs=[.int .i64 f,.int .i64 b,.bool x,.bool y,.bool z]:=fun cs h=>by
 have hl:=fits_length h
 match cs,hl,h with
 |[a,b,c,d,e],_,h =>
  simp only[fits,zA4,Bool.and_true]at h
  obtain⟨h1,h2,h3,h4,h5⟩:=h
  obtain⟨_,rfl⟩:=fit_i h1
  obtain⟨_,rfl⟩:=fit_i h2
  obtain⟨_,rfl⟩:=fit_b h3
  obtain⟨_,rfl⟩:=fit_b h4
  obtain⟨_,rfl⟩:=fit_b h5
  exact⟨_,_,_,_,_,rfl⟩
theorem pn_of {H:AHeap} (cs:List Value) (h:ValT Tryz.prog H 10 43 cs):∃ p,PnAt H cs p:=by
 obtain⟨hl,hf⟩:=h.str (l:=[(38,0),(39,5),(3,6),(3,7),(9,8),(41,9),(4,14)]) (by kernel_rfl) (by kernel_rfl)
 have c52:Tryz.prog.cellsOf 38=5:=cellsOf_szOf (by kernel_rfl)
 have c53:Tryz.prog.cellsOf 39=1:=cellsOf_szOf (by kernel_rfl)
 have c3:Tryz.prog.cellsOf 3=1:=cellsOf_szOf (by kernel_rfl)
 have c9:Tryz.prog.cellsOf 9=1:=cellsOf_szOf (by kernel_rfl)
 have c38:Tryz.prog.cellsOf 41=5:=cellsOf_szOf (by kernel_rfl)
 have c4:Tryz.prog.cellsOf 4=1:=cellsOf_szOf (by kernel_rfl)
 rw[cellsOf_szOf (n:=15) (by kernel_rfl)]at hl
 match cs,hl,hf with
 |[a1,a2,a3,a4,a5,b,c,d,e,l1,l2,l3,l4,l5,q],_,hf =>
  have f0:=hf 0 38 0 rfl
  have f1:=hf 1 39 5 rfl
  have f2:=hf 2 3 6 rfl
  have f3:=hf 3 3 7 rfl
  have f4:=hf 4 9 8 rfl
  have f5:=hf 5 41 9 rfl
  have f6:=hf 6 4 14 rfl
  rw[c52]at f0
  rw[c53]at f1
  rw[c3]at f2 f3
  rw[c9]at f4
  rw[c38]at f5
  rw[c4]at f6
  obtain⟨rc,er⟩:=rf_rc _ (f0.fla (by kernel_rfl))
  obtain⟨n2,e2⟩:=val_i f2
  obtain⟨n3,e3⟩:=val_i f3
  obtain⟨n4,e4⟩:=val_s f4
  obtain⟨x1,x2,x3,x4,x5,e5⟩:=rf_lk _ (f5.fla (by kernel_rfl))
  obtain⟨n6,e6⟩:=val_b f6
  obtain⟨u,vs,ln,e1,s1,_,c1,t1⟩:=f1.sli (e:=55) (sz:=5) (by kernel_rfl) (by kernel_rfl) (by kernel_rfl)
  obtain⟨rows,hrows⟩:=items_of (R:=RwAt H) rw_of s1 t1
  have hcut:=c1
  simp only[List.drop_succ_cons,zC7,List.take_succ_cons,List.take_zero,List.cons.injEq,and_true]at e1 e2 e3 e4 e5 e6
  simp only[zC7,List.take_succ_cons,List.take_zero,Rc.cells,List.cons.injEq,and_true]at er
  obtain⟨rfl,rfl,rfl,rfl,rfl⟩:=er
  obtain⟨rfl,rfl,rfl,rfl,rfl⟩:=e5
  subst e1 e2 e3 e4 e6
  exact⟨⟨rc,rows,n2,n3,n4,x1,x2,x3,x4,x5,n6⟩,_,rfl,hrows,hcut⟩
structure Fr where
 height:Int
 width:Int
 panes:List Pn
 bars:List Rc
 echo:ByteArray
 ecol:Int
def FrAt (H:AHeap) (cs:List Value) (f:Fr):Prop :=
 ∃ pv bv,cs=[.int .i64 f.height,.int .i64 f.width,pv,bv,.string f.echo,.int .i64 f.ecol]/\ItemsAt H 15 (PnAt H) pv f.panes/\ItemsAt H 5 (fun cs r=>cs=Rc.cells r) bv f.bars
theorem fr_of {H:AHeap} (cs:List Value) (h:ValT Tryz.prog H 12 25 cs):∃ f,FrAt H cs f:=by
 obtain⟨hl,hf⟩:=h.str (l:=[(3,0),(3,1),(22,2),(23,3),(9,4),(3,5)]) (by kernel_rfl) (by kernel_rfl)
 have c22:Tryz.prog.cellsOf 22=1:=cellsOf_szOf (by kernel_rfl)
 have c23:Tryz.prog.cellsOf 23=1:=cellsOf_szOf (by kernel_rfl)
 have c3:Tryz.prog.cellsOf 3=1:=cellsOf_szOf (by kernel_rfl)
 have c9:Tryz.prog.cellsOf 9=1:=cellsOf_szOf (by kernel_rfl)
 rw[cellsOf_szOf (n:=6) (by kernel_rfl)]at hl
 match cs,hl,hf with
 |[a,b,c,d,e,q],_,hf =>
  have f0:=hf 0 3 0 rfl
  have f1:=hf 1 3 1 rfl
  have f2:=hf 2 22 2 rfl
  have f3:=hf 3 23 3 rfl
  have f4:=hf 4 9 4 rfl
  have f5:=hf 5 3 5 rfl
  rw[c3]at f0 f1 f5
  rw[c22]at f2
  rw[c23]at f3
  rw[c9]at f4
  obtain⟨n0,e0⟩:=val_i f0
  obtain⟨n1,e1⟩:=val_i f1
  obtain⟨n4,e4⟩:=val_s f4
  obtain⟨n5,e5⟩:=val_i f5
  obtain⟨u2,vs2,ln2,e2,s2,_,_,t2⟩:=f2.sli (e:=43) (sz:=15) (by kernel_rfl) (by kernel_rfl) (by kernel_rfl)
  obtain⟨u3,vs3,ln3,e3,s3,_,_,t3⟩:=f3.sli (e:=38) (sz:=5) (by kernel_rfl) (by kernel_rfl) (by kernel_rfl)
  obtain⟨ps,hps⟩:=items_of (R:=PnAt H) pn_of s2 t2
  obtain⟨bs,hbs⟩:=items_of (R:=fun cs r=>cs=Rc.cells r) (fun cs h=>rf_rc cs (h.fla (by kernel_rfl))) s3 t3
  simp only[List.drop_succ_cons,zC7,List.take_succ_cons,List.take_zero,List.cons.injEq,and_true]at e0 e1 e2 e3 e4 e5
  subst e0 e1 e2 e3 e4 e5
  exact⟨⟨n0,n1,ps,bs,n4,n5⟩,_,_,rfl,hps,hbs⟩
end Go.Proofs.YtfpckllenkifkaaGreatDoor
namespace Go.Ax
section
variable {P : Program} {ro : Option Nat} {H : AHeap} {N : Nat} {E : Env} {ds : List Deferred} {ops : Array Oper} {rest : List Oper} {d : Nat} {ty : TypeId} {pos : String} {after : Array Edge} {Q : Exit -> AAct -> AHeap -> Prop}
theorem w_plain {op:BinOp} {t u:TypeId} {x y:Operand} {p q v:Value} (hx:opOk P N x=true) (hy:opOk P N y=true) (hp:opv E x=p) (hq:opv E y=q) (hd:d<N) (h0:aBin P H op t p q=none) (h1:af p=true) (h2:af q=true) (h:peval P (do eqGuard op t x y p q; binOp op t p q)=some v) (h3:af v=true) :
  wpOps P ro ops (⟨some d,.binOp op t x y u,ty,pos,after,none⟩::rest) (mkA N E ds) H Q=wpOps P ro ops rest (mkA N (upd E d v) ds) H Q :=
 (w_rv (x:=some v) rfl (by simp only[aop,xBin,aeval_opv hx,aeval_opv hy,hp,hq,zA1,zA3,binV,h0,h1,h2,aPlain,h,h3,zD6,if_true,zA5]; rfl) hd).trans valC_some
def bAnd (k:IntKind) (x y:Int):Int:=k.wrap ((BitVec.ofInt k.bits x &&& BitVec.ofInt k.bits y).toNat:Int)
def bOr (k:IntKind) (x y:Int):Int:=k.wrap ((BitVec.ofInt k.bits x ||| BitVec.ofInt k.bits y).toNat:Int)
def bNot (k:IntKind) (x y:Int):Int:=k.wrap ((BitVec.ofInt k.bits x &&& ~~~BitVec.ofInt k.bits y).toNat:Int)
def bShl (k:IntKind) (x:Int) (n:Nat):Int:=k.wrap (x*2 ^ (min n k.bits))
def bShr (k:IntKind) (x:Int) (n:Nat):Int:=x.fdiv (2 ^ (min n k.bits))
def bitV (op:BinOp):Value->Value->Option Value
 |.int k a,.int k' b=>(match op with
  |.and=>if k=k' then some (.int k (bAnd k a b)) else none
  |.or=>if k=k' then some (.int k (bOr k a b)) else none
  |.andNot=>if k=k' then some (.int k (bNot k a b)) else none
  |.shl=>if 0<=b then some (.int k (bShl k a b.toNat)) else none
  |.shr=>if 0<=b then some (.int k (bShr k a b.toNat)) else none
  |_=>none)
 |.string a,.string b=>(match op with
  |.eql=>some (.bool (a.toList == b.toList))
  |_=>none)
 |_,_=>none
theorem w_bits {op:BinOp} {t u:TypeId} {x y:Operand} {p q v:Value} (hx:opOk P N x=true) (hy:opOk P N y=true) (hp:opv E x=p) (hq:opv E y=q) (hd:d<N) (h:bitV op p q=some v) (h0:aBin P H op t p q=none) :
  wpOps P ro ops (⟨some d,.binOp op t x y u,ty,pos,after,none⟩::rest) (mkA N E ds) H Q=wpOps P ro ops rest (mkA N (upd E d v) ds) H Q:=by
 unfold bitV at h
 split at h
 ·rename_i k a k' b
  split at h<;>try split at h
  ·rename_i hk
   subst hk
   simp only[Option.some.injEq]at h
   subst h
   exact w_plain hx hy hp hq hd h0 rfl rfl (by simp[eqGuard,binOp,peval,Op.intBits,bAnd,pure,bind,Sem.bind]) rfl
  ·cases h
  ·rename_i hk
   subst hk
   simp only[Option.some.injEq]at h
   subst h
   exact w_plain hx hy hp hq hd h0 rfl rfl (by simp[eqGuard,binOp,peval,Op.intBits,bOr,pure,bind,Sem.bind]) rfl
  ·cases h
  ·rename_i hk
   subst hk
   simp only[Option.some.injEq]at h
   subst h
   exact w_plain hx hy hp hq hd h0 rfl rfl (by simp[eqGuard,binOp,peval,Op.intBits,bNot,pure,bind,Sem.bind]) rfl
  ·cases h
  ·rename_i hb
   simp only[Option.some.injEq]at h
   subst h
   exact w_plain hx hy hp hq hd h0 rfl rfl (by simp[eqGuard,binOp,peval,Op.shift,bShl,pure,bind,Sem.bind,show ¬b<0 by omega]) rfl
  ·cases h
  ·rename_i hb
   simp only[Option.some.injEq]at h
   subst h
   exact w_plain hx hy hp hq hd h0 rfl rfl (by simp[eqGuard,binOp,peval,Op.shift,bShr,pure,bind,Sem.bind,show ¬b<0 by omega]) rfl
  ·cases h
  all_goals cases h
 ·rename_i a b
  split at h
  ·simp only[Option.some.injEq]at h
   subst h
   exact w_plain hx hy hp hq hd h0 rfl rfl (by simp[eqGuard,binOp,peval,Op.stringOp,pure,bind,Sem.bind]) rfl
  ·cases h
 ·cases h
theorem bin_nobit {op:BinOp} {t:TypeId} {p q v:Value} (hop:op=.and\/op=.or\/op=.andNot\/op=.shl\/op=.shr) (h:bitV op p q=some v):aBin P H op t p q=none:=by
 unfold bitV at h
 split at h
 ·rename_i k a k' b
  simp only[aBin]
  split
  ·rcases hop with rfl|rfl|rfl|rfl|rfl<;>rfl
  ·rfl
 ·rcases hop with rfl|rfl|rfl|rfl|rfl<;>cases h
 ·cases h
theorem w_bit {op:BinOp} {t u:TypeId} {x y:Operand} (hop:op=.and\/op=.or\/op=.andNot\/op=.shl\/op=.shr) (hx:opOk P N x=true) (hy:opOk P N y=true) (hd:d<N) (h:(bitV op (opv E x) (opv E y)).isSome=true) :
  wpOps P ro ops (⟨some d,.binOp op t x y u,ty,pos,after,none⟩::rest) (mkA N E ds) H Q=valC P ro ops rest N E ds d H Q (bitV op (opv E x) (opv E y)):=by
 cases hv:bitV op (opv E x) (opv E y) with
 |none=>rw[hv]at h; cases h
 |some v=>exact (w_bits hx hy rfl rfl hd hv (bin_nobit hop hv)).trans valC_some.symm
theorem w_shr {t u:TypeId} {x y:Operand} (hx:opOk P N x=true) (hy:opOk P N y=true) (hd:d<N) (h:(bitV .shr (opv E x) (opv E y)).isSome=true):wpOps P ro ops (⟨some d,.binOp .shr t x y u,ty,pos,after,none⟩::rest) (mkA N E ds) H Q=valC P ro ops rest N E ds d H Q (bitV .shr (opv E x) (opv E y)):=w_bit (by simp) hx hy hd h
theorem bit_shr {k k':IntKind} {a b:Int} (h:0<=b):bitV .shr (.int k a) (.int k' b)=some (.int k (bShr k a b.toNat)):=by simp only[bitV,h,if_true]
end
section
variable {P : Program} {H : AHeap} {N : Nat} {E : Env} {ds : List Deferred} {ro : Option Nat} {ops : Array Oper} {rest : List Oper} {d : Nat} {ty : TypeId} {pos : String} {after : Array Edge}
theorem w_convert {Q:Exit->AAct->AHeap->Prop} {x:Operand} {s t:TypeId} (hx:opOk P N x=true):wpOps P ro ops (⟨some d,.convert s t x,ty,pos,after,none⟩::rest) (mkA N E ds) H Q=heapC P ro ops rest N E ds (some d) Q (aConvert P H s t (opv E x)) :=
 w_rvh rfl (by simp only[aop,xConvert,aeval_opv hx,zA1,zA3])
theorem cv_int {s t:TypeId} {u:TypeDesc} {k k0:IntKind} {n:Int} (hs:P.underlying s=some u) (ht:P.underlying t=some (.int k)):aConvert P H s t (.int k0 n)=some (.int k (k.wrap n),H):=by
 simp only[aConvert,hs,ht]
theorem mk_slice {t e:TypeId} {sz by1 n:Nat} {z:Value} (hu:P.underlying t=some (.slice e)) (hsz:szOf P e=some sz) (hby:bytesOf P e=some by1) (hz:zeroOf P e=some z) (hzl:z.cells.toList.length=sz) (hsm:small n by1=true) :
  aMakeSlice P H t (.int .i64 (n:Int)) (.int .i64 (n:Int))=(aNew H e (zerosL z.cells.toList n) false).map fun g=>(.slice (some ⟨H.next,0,some 0⟩) n n,g):=by
 simp only[aMakeSlice,hu,hsz,hby,hz,zA1,zA3,Int.toNat_natCast]
 rw[if_pos ⟨by omega,Int.le_refl _,hsm,hzl⟩]
 cases aNew H e (zerosL z.cells.toList n) false<;>rfl
theorem cp_sliceR {dt st e:TypeId} {sz m off dl dc n off2 sl sc:Nat} {s s2:Option Nat} {b:Bl} (hu:P.underlying dt=some (.slice e)) (hsz:szOf P e=some sz) (hs:s.getD 0=0) (hb:rk H n=some b) (hle:off2+zD1 sl dl*sz<=b.l.length) :
  aBuiltin P H .copy ⟨[dt,st]⟩ [.slice (some ⟨m,off,s⟩) dl dc,.slice (some ⟨n,off2,s2⟩) sl sc]=(aWrite H m off ((b.l.drop off2).take (zD1 sl dl*sz))).map fun g=>(goInt (zD1 sl dl),g):=by
 simp only[aBuiltin,aCopy,hu,hsz,zA1,zA3,lenV,first_rk hb hle]
 rw[if_pos (.inl hs)]
 cases aWrite H m off ((b.l.drop off2).take (zD1 sl dl*sz))<;>rfl
theorem cp_slice {dt st e:TypeId} {sz m off dl dc n off2 sl sc:Nat} {s s2:Option Nat} {b:Bl} (hu:P.underlying dt=some (.slice e)) (hsz:szOf P e=some sz) (hs:s.getD 0=0) (hb:bk H n=some b) (hle:off2+zD1 sl dl*sz<=b.l.length) :
  aBuiltin P H .copy ⟨[dt,st]⟩ [.slice (some ⟨m,off,s⟩) dl dc,.slice (some ⟨n,off2,s2⟩) sl sc]=(aWrite H m off ((b.l.drop off2).take (zD1 sl dl*sz))).map fun g=>(goInt (zD1 sl dl),g):=cp_sliceR hu hsz hs (rk_of hb) hle
theorem sl_exact {t e:TypeId} {sz n off len cap:Nat} {lo hi:Option Value} {l h:Nat} (hu:P.underlying t=some (.slice e)) (hsz:szOf P e=some sz) (hl:bound 0 lo=some l) (hh:bound len hi=some h) (h1:h<=cap) (h2:l<=h) (h3:l<cap) :
  aSlice P H t (.slice (some ⟨n,off,some 0⟩) len cap) lo hi none=some (.slice (some ⟨n,off+l*sz,some 0⟩) (h-l) (cap-l),H):=by
 simp only[aSlice,hu,hsz,aSlice2,hl,hh,zA1,zA3,exactAt]
 rw[if_pos ⟨h1,h2⟩,if_neg (by omega)]
theorem wd_slice {Q:AAct->AHeap->Prop} {i:Nat} {fps:List Fp} {anc:List Nat} {t:TypeId} {x:Operand} {lo hi mx:Option Operand} {dst:Option Nat} :
  wkD P ops anc (⟨dst,.slice t x lo hi mx,ty,pos,after,none⟩::rest) i fps (mkA N E ds) H Q=genV P ops anc ⟨dst,.slice t x lo hi mx,ty,pos,after,none⟩ rest i fps (mkA N E ds) H Q:=by
 simp only[wkD,wantA,stepD,pureOp,restD,newOp,genV]
theorem wd_copy {Q:AAct->AHeap->Prop} {i:Nat} {fps:List Fp} {anc:List Nat} {args:List Operand} {ts:Array TypeId} {dst:Option Nat} (ha:args.all (opOk P N)=true) :
  wkD P ops anc (⟨dst,.call ⟨.builtin .copy,⟨args⟩,ts⟩,ty,pos,after,none⟩::rest) i fps (mkA N E ds) H Q=genV P ops anc ⟨dst,.call ⟨.builtin .copy,⟨args⟩,ts⟩,ty,pos,after,none⟩ rest i fps (mkA N E ds) H Q:=by
 simp only[wkD,wantA,stepD,pureOp,restD,newOp,genV,aevals_opv ha,btD,regBt]
theorem genV_val {o:Oper} {Q:AAct->AHeap->Prop} {i:Nat} {fps:List Fp} {anc:List Nat} {v:Value} (hdst:o.dst=some d) (hd:d<N) (hop:∀ G,aop o.op P (mkA N E ds) G=some (.value v,G)) (hm:∀ r∈fps,Meets (anc.getD i 0) [] [] (idsV v++([]:List Bl).flatMap fun x=>idsL x.l) r)
  (h:wkD P ops anc rest (i+1) (⟨i,[],[],H.next,H.next+0⟩::fps) (mkA N (upd E d v) ds) H Q):genV P ops anc o rest i fps (mkA N E ds) H Q :=
 genV_extO (v:=v) (M:=[]) [] hdst hd (fun _ h=>by cases h) (fun G _ _=>opS_of (x:=.value v) (g:=G) (hop G) ⟨rfl,rfl⟩) hm h
theorem slice_aop {t:TypeId} {x:Operand} {lo hi mx:Option Operand} {v:Value} {G:AHeap} (hx:opOk P N x=true) (h1:bndsOk P N lo=true) (h2:bndsOk P N hi=true) (h3:bndsOk P N mx=true) (h:aSlice P G t (opv E x) (bnds E lo) (bnds E hi) (bnds E mx)=some (v,G)) :
  aop (.slice t x lo hi mx) P (mkA N E ds) G=some (.value v,G):=by
 simp only[aop,xSlice,aeval_opv hx,optEval_b h1,optEval_b h2,optEval_b h3,zA1,zA3,h,rvh,zA5]
theorem builtin_op {args:List Operand} {b:Builtin} {ts:Array TypeId} {dst:Option Nat} {v:Value} {G:AHeap} (ha:args.all (opOk P N)=true) (h:aBuiltin P H b ts (args.map (opv E))=some (v,G)):OpS P (mkA N E ds) H ⟨dst,.call ⟨.builtin b,⟨args⟩,ts⟩,ty,pos,after,none⟩ (.ok v) G :=
 opS_of (x:=.value v) (g:=G) (by simp only[aop,xCall,aevals_opv ha,zA1,zA3,h,rvh,zA5]) ⟨rfl,rfl⟩
end
theorem w_condK {P:Program} {ro:Option Nat} {b:Bool} {x y:Code} {Q:Exit->AAct->AHeap->Prop} {a:AAct} {H:AHeap}:wpA P ro (.cond (.const (.bool b)) x y) Q a H=condC P ro x y Q a H (.bool b):=by
 simp only[wpA,condC,aeval,af,if_true]
end Go.Ax
namespace Go.Proofs.YtfpckllenkifkaaGreatDoor
open Go.Ax
set_option maxRecDepth 100000
def rhoM:Go.Shelf.Ren:=⟨fun n=>if n=264 then 71 else 0,fun n=>if n=46 then 96 else if n=53 then 120 else n,fun n=>n⟩
theorem laysM:Go.Proofs.Lays.n264 Tryz.prog rhoM:=by
 constructor
 all_goals first
  |exact mixed
  |kernel_rfl
  |(intro w; kernel_rfl)
theorem mul64_c (H:AHeap) (w:Nat) (hw:w<1000000):Pure 71 [.int .u64 1,.int .u64 (w:Int)] H (.tuple #[.int .u64 0,.int .u64 (w:Int)]):=by
 intro ρ W r hsc F n R hF hR
 have hc:=Go.Proofs.Any.bits_Mul64 laysM 1 w (by omega) (by omega) W
 have h0:1*w / 18446744073709551616=0:=by omega
 have h1:1*w % 18446744073709551616=w:=by omega
 rw[h0,h1]at hc
 have e1:[Value.int .u64 1,Value.int .u64 (w:Int)].map ρ.val=[Value.int .u64 1,Value.int .u64 (w:Int)]:=map_af ρ _ (fun x hx=>by simp only[zB1,List.not_mem_nil,or_false]at hx; rcases hx with rfl|rfl<;>rfl)
 rw[e1]
 refine (hF.calls hc).mono ?_
 rintro e w' ⟨rfl,rfl⟩
 have:=hR ρ w' (St.refl r) rfl
 rwa [val_af ρ _ rfl]at this
theorem mul_c (H:AHeap) (w:Nat) (hw:w<1000000):Pure 40 [.int .u64 1,.int .u64 (w:Int)] H (.tuple #[.int .u64 0,.int .u64 (w:Int)]):=by
 refine callS_fn mixed Tryz.func40 rfl Tryz.ntmps40 (zB2 rfl) fun wf hsc=>?_
 simp only[w_condK,ruW,xF,ruU,entryE,Nat.reduceLT,Nat.reduceAdd,Nat.reduceEqDiff]
 refine (mul64_c (ext H []) w hw).to ?_
 simp only[Tryz.results40,ruW,ruU,Nat.reduceLT,Nat.reduceEqDiff]
 exact Fin.pureE rfl rfl
abbrev Ce.zero:Ce:=⟨0,0,0,false,false,false⟩
theorem zeros_cs (n:Nat):zerosL Ce.zero.cells n=csOf (List.replicate n Ce.zero):=by
 induction n with
 |zero=>rfl
 |succ n ih=>rw[zerosL,ih,List.replicate_succ,csOf_cons]
theorem mkCells {X:AHeap} {w:Nat} (h:w<=1000):aMakeSlice Tryz.prog X 34 (.int .i64 (w:Int)) (.int .i64 (w:Int))=(aNew X 45 (csOf (List.replicate w Ce.zero)) false).map fun g=>(.slice (some ⟨X.next,0,some 0⟩) w w,g):=by
 rw[mk_slice (e:=45) (sz:=6) (by1:=32) (z:=Ce.zero.val) (by kernel_rfl) (by kernel_rfl) (by kernel_rfl) (by kernel_rfl) rfl (by simp only[small,zA4,Nat.ble_eq]; omega)]
 rw[show Ce.zero.val.cells.toList=Ce.zero.cells from rfl,zeros_cs]
theorem wrap_u64 {n:Nat} (h:n<100000):IntKind.u64.wrap (n:Int)=n:=by
 simp only[IntKind.wrap,IntKind.signed,IntKind.bits]
 simp
 omega
theorem csOf_take (l:List Ce) (k:Nat):(csOf l).take (k*6)=csOf (l.take k):=by
 induction l generalizing k with
 |nil=>simp[csOf]
 |cons c l ih =>
  cases k with
  |zero=>simp[csOf]
  |succ k=>rw[csOf_cons,List.take_succ_cons,csOf_cons,show (k+1)*6=c.cells.length+k*6 by simp[Ce.cells]; omega,List.take_append,List.take_of_length_le (by omega),Nat.add_sub_cancel_left,ih]
theorem csOf_drop (l:List Ce) (k:Nat):(csOf l).drop (k*6)=csOf (l.drop k):=by
 induction l generalizing k with
 |nil=>simp[csOf]
 |cons c l ih =>
  cases k with
  |zero=>simp[csOf]
  |succ k=>rw[csOf_cons,List.drop_succ_cons,show (k+1)*6=c.cells.length+k*6 by simp[Ce.cells]; omega,List.drop_append,List.drop_eq_nil_of_le (by omega),zD5,Nat.add_sub_cancel_left,ih]
theorem csOf_put (pre new old:List Ce) (h:new.length<=old.length):putL (csOf (pre++old)) (pre.length*6) (csOf new)=csOf (pre++(new++old.drop new.length)):=by
 have e:pre.length*6=(csOf pre).length:=(csOf_length pre).symm
 rw[csOf_append,e,putL_at _ _ _ (by rw[csOf_length,csOf_length]; omega),csOf_length,csOf_drop,csOf_append,csOf_append]
theorem cp56 {G:AHeap} {q off dl dc n off2 sl sc:Nat} {s2:Option Nat} {b bq:Bl} (hq:bk G q=some bq) (hlt:q<G.next) (hb:bk G n=some b) {l:List Ce} (hle:off2+zD1 sl dl*6<=b.l.length) (hl:(b.l.drop off2).take (zD1 sl dl*6)=csOf l) (hw:off+zD1 sl dl*6<=bq.l.length) (hll:l.length=zD1 sl dl) :
  aBuiltin Tryz.prog G .copy ⟨[34,34]⟩ [.slice (some ⟨q,off,some 0⟩) dl dc,.slice (some ⟨n,off2,s2⟩) sl sc]=some (goInt (zD1 sl dl),uw G q off (csOf l)):=by
 rw[cp_slice (e:=45) (sz:=6) (by kernel_rfl) (by kernel_rfl) rfl hb hle,hl]
 have:=write_old (H:=G) (L:=[]) (vs:=csOf l) hlt hq (by rw[csOf_length,hll]; exact hw) (csOf_one l) (csOf_sc l _)
 rw[ext_nil,ext_nil]at this
 rw[this]
 rfl
theorem repeat_c (w:Nat) (h1:1<=w) (hw:w<=1000) (c:Ce) (n:Nat) (s:Option Nat) (H:AHeap) (hn:bk H n=some ⟨45,false,c.cells⟩) :
  CallS Tryz.prog 16 [.slice (some ⟨n,0,s⟩) 1 1,.int .i64 (w:Int)] H (.ok (.slice (some ⟨H.next,0,some 0⟩) w w)) (ext H [⟨45,false,csOf (List.replicate w c)⟩]):=by
 refine callS_one (fun wf hsc=>?_) (fun _ _=>csOf_sc _ _)
 obtain⟨b,hb⟩:=Go.Ax.exq H.next
 have hbase:H.base<=b:=hb▸wf.base
 have hnb:n<b:=hb▸wf.lt hn
 have hneg:decide ((w:Int)<0)=false:=decide_eq_false (by omega)
 have hcv:∀ (X:AHeap) (k:IntKind) (m:Int),aConvert Tryz.prog X 3 96 (.int k m)=some (.int .u64 (IntKind.u64.wrap m),X):=fun X k m=>cv_int (u:=.int .i64) (by kernel_rfl) (by kernel_rfl)
 have hcv2:∀ (X:AHeap) (k:IntKind) (m:Int),aConvert Tryz.prog X 96 3 (.int k m)=some (.int .i64 (IntKind.i64.wrap m),X):=fun X k m=>cv_int (u:=.int .u64) (by kernel_rfl) (by kernel_rfl)
 have u1:IntKind.u64.wrap ((1:Nat):Int)=1:=by decide
 have huw:IntKind.u64.wrap (w:Int)=w:=wrap_u64 (by omega)
 have iw:IntKind.i64.wrap (w:Int)=w:=wrap_sm (by omega) (by omega)
 have z1:decide ((0:Int)>0)=false:=by decide
 have z2:decide ((w:Int)>9223372036854775807)=false:=decide_eq_false (by omega)
 refine callE_fn mixed Tryz.func16 rfl Tryz.ntmps16 (zB2 rfl) ?_
 simp only[hneg,w_convert,hcv,u1,huw,ruW,xF,ruU,entryE,Nat.reduceLT,Nat.reduceAdd,Nat.reduceEqDiff]
 refine (mul_c (ext H []) w (by omega)).to ?_
 simp only[w_convert,hcv2,iw,z1,z2,mkCells (show w<=1000 by omega),csOf_sc,hb,ruW,ruU,Nat.reduceLT,Nat.reduceEqDiff]
 generalize hG:ext H [_]=G
 have mG:Mod [] H G:=hG▸Mod.ext wf.base
 have hGn:G.next=b+1:=by rw[<-hG,ext_next,hb]; rfl
 have hq:bk G (b+0)=some ⟨45,false,csOf (List.replicate w Ce.zero)⟩:=by rw[<-hG,bk_at hb (by simp)]; rfl
 have hnG:=(mG.bk (hb▸hnb) (by simp)).trans hn
 have m1:zD1 1 w=1:=Nat.min_eq_left h1
 have hcp:=cp56 (G:=G) (q:=b+0) (off:=0) (dl:=w) (dc:=w) (n:=n) (off2:=0) (sl:=1) (sc:=1) (s2:=s) (l:=[c]) hq (by omega) hnG (by rw[m1]; simp[Ce.cells]) (by rw[m1]; rfl) (by rw[m1,csOf_length,zD2]; omega) (by rw[m1]; rfl)
 rw[m1]at hcp
 simp only[hcp,ruW,ruU,Nat.reduceLT]
 generalize hK:uw G (b+0) 0 _=K
 have mK:Mod [b+0] G K:=hK▸Mod.uw (by simp)
 have hKn:K.next=b+1:=by rw[<-hK,uw_next,hGn]
 have hKq:bk K (b+0)=some ⟨45,false,csOf (List.replicate 1 c++List.replicate (w-1) Ce.zero)⟩:=by
  rw[<-hK,bk_uw_eq,hq]
  have:=csOf_put [] [c] (List.replicate w Ce.zero) (by simp; omega)
  simp only[zD5,zD7,Nat.zero_mul,zB0,List.drop_replicate]at this
  show some (Bl.mk 45 false (putL (csOf (List.replicate w Ce.zero)) 0 (csOf [c])))=_
  rw[this]
  rfl
 have mHK:Mod [] H K:=mG.step mK wf.base (fun k hk=>.inr (by simp only[zB4]at hk; omega))
 refine w_env fun E hE=>?_
 have g7:E 7=.slice (some ⟨b+0,0,some 0⟩) w w:=by rw[hE]; rfl
 have g8:E 8=.int .i64 ((1:Nat):Int):=by rw[hE]; rfl
 clear hE
 refine blockC_meet (fun E' H'=>Mod [] H H'/\bk H' (b+0)=some ⟨45,false,csOf (List.replicate w c)⟩/\E' 7=.slice (some ⟨b+0,0,some 0⟩) w w) ?_ ?_
 ·refine w_loop (fun (m:Nat) E' H'=>Mod [] H H'/\b+0<H'.next/\1<=m/\m<=w/\bk H' (b+0)=some ⟨45,false,csOf (List.replicate m c++List.replicate (w-m) Ce.zero)⟩/\E' 7=.slice (some ⟨b+0,0,some 0⟩) w w/\E' 8=.int .i64 (m:Int)) (fun m=>w-m) 1
   ⟨mHK,by omega,zA8 _,h1,hKq,g7,g8⟩ ?_
  clear g7 g8
  rintro m E X ⟨mX,lX,hm1,hmw,hqX,g7,g8⟩
  rw[show X=ext X [] from rfl]
  by_cases hme:m=w
  ·have hc:decide ((m:Int)<(w:Int))=false:=by simp[hme]
   simp only[g7,g8,hc,ruW,xF,ruU,Nat.reduceLT,Nat.reduceEqDiff]
   refine joinR_normal ⟨mX,?_,?_⟩
   ·rw[ext_nil,hqX,hme,Nat.sub_self]; simp
   ·exact g7
  ·have hlt:m<w:=by omega
   have hc:decide ((m:Int)<(w:Int))=true:=decide_eq_true (by omega)
   have okX:=mX.ok wf.base
   simp only[g7,g8,hc,ruW,xF,ruU,Nat.reduceLT,Nat.reduceEqDiff]
   refine w_drawB [(7,3),(7,6),(9,7)] [] (by kernel_rfl) (by kernel_rfl) rfl fun ops anc hA hG2=>?_
   simp only[all2_cons]at hA
   simp only[g7,g8,ruD,ruU,Nat.reduceLT,Nat.reduceAdd,Nat.reduceEqDiff]
   have hbm:bound 0 (some (.int .i64 (m:Int)))=some m:=by simp[bound]
   have hbm2:bound w (some (.int .i64 (m:Int)))=some m:=by simp[bound]
   rw[wd_slice]
   refine genV_val (v:=.slice (some ⟨b+0,0+m*6,some 0⟩) (w-m) (w-m)) rfl (by decide) (fun G=>slice_aop (by simp only[ruU,Nat.reduceLT]) (by simp (maxDischargeDepth:=6) only[ruU,Nat.reduceLT,bndsOk_some]) rfl rfl ?_) (by simp (maxDischargeDepth:=6) only[ruD]) ?_
   ·simp only[bnds_some,bnds_none,ruU,Nat.reduceEqDiff]
    exact sl_exact (e:=45) (sz:=6) (by kernel_rfl) (by kernel_rfl) hbm rfl (zA8 _) hmw hlt
   simp only[g7,g8,ruD,ruW,ruU,Nat.reduceLT,Nat.reduceAdd,Nat.reduceEqDiff]
   rw[wd_slice]
   refine genV_val (v:=.slice (some ⟨b+0,0+0*6,some 0⟩) (m-0) (w-0)) rfl (by decide) (fun G=>slice_aop (by simp only[ruU,Nat.reduceLT]) rfl (by simp (maxDischargeDepth:=6) only[ruU,Nat.reduceLT,bndsOk_some]) rfl ?_) (by simp (maxDischargeDepth:=6) only[ruD,Nat.reduceAdd,Nat.reduceMul]) ?_
   ·simp only[bnds_some,bnds_none,ruU,Nat.reduceAdd,Nat.reduceMul,Nat.reduceEqDiff]
    exact sl_exact (e:=45) (sz:=6) (by kernel_rfl) (by kernel_rfl) rfl hbm2 hmw (zA9 _) (by omega)
   simp only[ruW,ruU,Nat.reduceLT,Nat.reduceAdd,Nat.reduceMul]
   rw[wd_copy rfl]
   have hrn:=restrict_next X [b+0]
   have hqR:bk (X.restrict [b+0]) (b+0)=some ⟨45,false,csOf (List.replicate m c++List.replicate (w-m) Ce.zero)⟩:=(bk_get (by rw[restrict_get,if_pos (by simp)])).trans hqX
   obtain⟨j,hj⟩:=Go.Ax.exq (zD1 m (w-m))
   have hjm:j<=m/\j<=w-m/\0<j:=by rw[<-hj]; exact⟨Nat.min_le_left _ _,Nat.min_le_right _ _,Nat.lt_min.2 ⟨by omega,by omega⟩⟩
   have hcl:(csOf (List.replicate m c++List.replicate (w-m) Ce.zero)).length=w*6:=by rw[csOf_length]; simp; omega
   have hcp2:=cp56 (G:=X.restrict [b+0]) (q:=b+0) (off:=0+m*6) (dl:=w-m) (dc:=w-m) (n:=b+0) (off2:=0+0*6) (sl:=m-0) (sc:=w-0) (s2:=some 0) (l:=List.replicate j c) hqR (by rw[hrn.1]; exact lX) hqR
    (by rw[Nat.sub_zero,hj,hcl]; omega) (by rw[Nat.sub_zero,hj,Nat.zero_mul,zC0,zC7,csOf_take,List.take_append,List.take_replicate,zD2,show j-m=0 by omega,Nat.min_eq_left hjm.1]; simp) (by rw[Nat.sub_zero,hj,hcl]; omega) (by rw[Nat.sub_zero,hj,zD2])
   rw[Nat.sub_zero,hj]at hcp2
   refine genV_modO (W:=[b+0]) [b+0] okX (fun k hk=>by simp only[zB4]at hk; subst hk; exact bk_ne hqX) (fun k hk=>by simp only[zB4]at hk; subst hk; exact lX) (fun _ h=>h)
    (builtin_op (v:=goInt j) rfl (by simp only[ruU,Nat.reduceEqDiff]; rw[Nat.sub_zero]; exact hcp2)) (Mod.uw (by simp)) (by simp only[all2_cons,all2_nil,hA,true_or,and_true]) ?_
   intro H1 D mH1 hF1 _ _ _
   have hw8:IntKind.i64.wrap ((m:Int)+(j:Int))=((m+j:Nat):Int):=by
    have:=wrap_sm (n:=(m:Int)+(j:Int)) (by omega) (by omega)
    rw[show IntKind.i64.wrap ((m:Int)+(j:Int))=_ from this]; omega
   rw[show H1=ext H1 [] from rfl]
   simp only[goInt,hw8,ruD,ruW,ruU,Nat.reduceLT,Nat.reduceAdd,Nat.reduceEqDiff]
   have hq1:bk H1 (b+0)=some ⟨45,false,csOf (List.replicate (m+j) c++List.replicate (w-(m+j)) Ce.zero)⟩:=by
    rw[bk_get (hF1 (b+0) (by simp)),bk_uw_eq,show bk ((ext X []).restrict [b+0]) (b+0)=_ from hqR]
    have:=csOf_put (List.replicate m c) (List.replicate j c) (List.replicate (w-m) Ce.zero) (by simp; omega)
    rw[zD2,zD2,List.drop_replicate]at this
    show some (Bl.mk 45 false (putL (csOf _) (0+m*6) (csOf (List.replicate j c))))=_
    rw[zC0,this,<-List.append_assoc,List.replicate_append_replicate,show w-m-j=w-(m+j) by omega]
   refine loopC_next ⟨m+j,by omega,(mX.step mH1 wf.base (fun k hk=>.inr (by simp only[zB4]at hk; omega))),mH1.lt lX,by omega,by omega,hq1,?_,?_⟩<;>simp only[g7,ruU,Nat.reduceEqDiff]
 ·clear g7 g8
  rintro E X ⟨mX,hqX,g7⟩
  rw[show X=ext X [] from rfl]
  simp only[g7,Tryz.results16,ruW,ruU,Nat.reduceLT]
  exact⟨b+0,rfl,by omega,hqX,mX⟩
theorem repeat0_c (c:Ce) (n:Nat) (s:Option Nat) (H:AHeap) (hn:bk H n=some ⟨45,false,c.cells⟩) :
  CallS Tryz.prog 16 [.slice (some ⟨n,0,s⟩) 1 1,.int .i64 0] H (.ok (.slice (some ⟨H.next,0,some 0⟩) 0 0)) (ext H [⟨45,false,[]⟩]):=by
 refine callS_one (fun wf hsc=>?_) (fun _ _=>rfl)
 obtain⟨b,hb⟩:=Go.Ax.exq H.next
 have hnb:n<b:=hb▸wf.lt hn
 have hcv:∀ (X:AHeap) (k:IntKind) (m:Int),aConvert Tryz.prog X 3 96 (.int k m)=some (.int .u64 (IntKind.u64.wrap m),X):=fun X k m=>cv_int (u:=.int .i64) (by kernel_rfl) (by kernel_rfl)
 have hcv2:∀ (X:AHeap) (k:IntKind) (m:Int),aConvert Tryz.prog X 96 3 (.int k m)=some (.int .i64 (IntKind.i64.wrap m),X):=fun X k m=>cv_int (u:=.int .u64) (by kernel_rfl) (by kernel_rfl)
 have u1:IntKind.u64.wrap ((1:Nat):Int)=1:=by decide
 have u0:IntKind.u64.wrap (0:Int)=0:=by decide
 have i0:IntKind.i64.wrap (0:Int)=0:=by decide
 have z0:decide ((0:Int)<0)=false:=by decide
 have z1:decide ((0:Int)>0)=false:=by decide
 have z2:decide ((0:Int)>9223372036854775807)=false:=by decide
 have hmk:∀ X:AHeap,aMakeSlice Tryz.prog X 34 (.int .i64 0) (.int .i64 0)=(aNew X 45 [] false).map fun g=>(.slice (some ⟨X.next,0,some 0⟩) 0 0,g):=fun X=>mkCells (X:=X) (w:=0) (by omega)
 refine callE_fn mixed Tryz.func16 rfl Tryz.ntmps16 (zB2 rfl) ?_
 simp only[z0,w_convert,hcv,u1,u0,ruW,xF,ruU,entryE,Nat.reduceLT,Nat.reduceAdd,Nat.reduceEqDiff]
 refine (show Pure 40 [.int .u64 1,.int .u64 0] (ext H []) (.tuple #[.int .u64 0,.int .u64 0]) from mul_c (ext H []) 0 (by omega)).to ?_
 simp only[w_convert,hcv2,i0,z1,z2,hmk,hb,ruW,ruU,Nat.reduceLT,Nat.reduceEqDiff]
 generalize hG:ext H [_]=G
 have mG:Mod [] H G:=hG▸Mod.ext wf.base
 have hGn:G.next=b+1:=by rw[<-hG,ext_next,hb]; rfl
 have hq:bk G (b+0)=some ⟨45,false,[]⟩:=by rw[<-hG,bk_at hb (by simp)]; rfl
 have hnG:=(mG.bk (hb▸hnb) (by simp)).trans hn
 have hcp:=cp56 (G:=G) (q:=b+0) (off:=0) (dl:=0) (dc:=0) (n:=n) (off2:=0) (sl:=1) (sc:=1) (s2:=s) (l:=[]) hq (by omega) hnG (by simp) rfl (by simp) rfl
 simp only[hcp,ruW,ruU,Nat.reduceLT]
 generalize hK:uw G (b+0) 0 _=K
 have mK:Mod [b+0] G K:=hK▸Mod.uw (by simp)
 have hKn:K.next=b+1:=by rw[<-hK,uw_next,hGn]
 have hKq:bk K (b+0)=some ⟨45,false,[]⟩:=by rw[<-hK,bk_uw_eq,hq]; rfl
 have mHK:Mod [] H K:=mG.step mK wf.base (fun k hk=>.inr (by simp only[zB4]at hk; omega))
 have hd:decide ((0:Int)<((0:Nat):Int))=false:=by decide
 refine w_env fun E hE=>?_
 have g7:E 7=.slice (some ⟨b+0,0,some 0⟩) 0 0:=by rw[hE]; rfl
 have g8:E 8=.int .i64 0:=by rw[hE]; rfl
 clear hE
 refine blockC_meet (fun E' H'=>H'=K/\E' 7=.slice (some ⟨b+0,0,some 0⟩) 0 0) ?_ ?_
 ·refine w_loop (fun (_:Unit) E' H'=>H'=K/\E' 7=.slice (some ⟨b+0,0,some 0⟩) 0 0/\E' 8=.int .i64 0) (fun _=>0) () ⟨rfl,g7,g8⟩ ?_
  clear g7 g8
  rintro _ E X ⟨hX,g7,g8⟩
  rw[hX,show K=ext K [] from rfl]
  simp only[g7,g8,hd,ruW,xF,ruU,Nat.reduceLT,Nat.reduceEqDiff]
  refine joinR_normal ⟨rfl,?_⟩
  simp only[g7,ruU,Nat.reduceEqDiff]
 clear g7 g8
 rintro E X ⟨hX,g7⟩
 rw[hX,show K=ext K [] from rfl]
 simp only[g7,Tryz.results16,ruW,ruU,Nat.reduceLT]
 exact⟨b+0,rfl,by omega,hKq,mHK⟩
def isR (c:Int):Bool:=decide (0<=c)&&decide (c<=1114111)&&!(decide (55296<=c)&&decide (c<=57343))
theorem is_c (H:AHeap) (c:Int):Pure 24 [.int .i64 c] H (.bool (isR c)):=by
 obtain⟨d1,h1⟩:∃ d,decide (0<=c)=d:=⟨_,rfl⟩
 obtain⟨d2,h2⟩:∃ d,decide (c<=1114111)=d:=⟨_,rfl⟩
 obtain⟨d3,h3⟩:∃ d,decide (55296<=c)=d:=⟨_,rfl⟩
 obtain⟨d4,h4⟩:∃ d,decide (c<=57343)=d:=⟨_,rfl⟩
 simp only[isR,h1,h2,h3,h4]
 refine callS_fn mixed Tryz.func24 rfl Tryz.ntmps24 (zB2 rfl) fun wf hsc=>?_
 cases d1<;>cases d2<;>cases d3<;>cases d4<;>(simp only[h1,h2,h3,h4,Tryz.results24,ruW,ruU,entryE,Nat.reduceLT,Nat.reduceEqDiff]; exact Fin.pureE rfl rfl)
def srch (f:Nat->Bool):Nat->Nat->Nat->Nat
 |0,i,_=>i
 |k+1,i,j=>if i<j then (cond (f ((i+j) / 2)) (srch f k i ((i+j) / 2)) (srch f k ((i+j) / 2+1) j)) else i
theorem srch_done (f:Nat->Bool) (k i j:Nat) (h:¬i<j):srch f k i j=i:=by
 cases k with
 |zero=>rfl
 |succ k=>rw[srch,if_neg h]
def spV (l:List (Int × Int)):List Value:=l.flatMap fun q=>[.int .i64 q.1,.int .i64 q.2]
theorem spV_get (l:List (Int × Int)) (k:Nat) (q:Int × Int) (h:l[k]?=some q):(spV l)[k*2]?=some (.int .i64 q.1)/\(spV l)[k*2+1]?=some (.int .i64 q.2):=by
 induction l generalizing k with
 |nil=>simp at h
 |cons a l ih =>
  cases k with
  |zero =>
   simp only[zC5,Option.some.injEq]at h
   subst h
   exact⟨rfl,rfl⟩
  |succ k =>
   have:=ih k (by simpa using h)
   rw[show (k+1)*2=k*2+2 by omega]
   exact this
theorem sp_ia {len cap n:Nat} {s:Option Nat} {k:Nat} (hk:k<len):aIndexAddr Tryz.prog 106 (.slice (some ⟨n,0,s⟩) len cap) (.int .i64 (k:Int))=some (.pointer (some ⟨n,k*2,none⟩)):=by
 rw[ia_slice (e:=102) (sz:=2) (by kernel_rfl) (by kernel_rfl) (by omega) (by omega)]
 simp
structure Clo (H:AHeap) (bs bc m:Nat) (c:Int) (sp:List (Int × Int)):Prop where
 s:bk H bs=some ⟨106,false,[.slice (some ⟨m,0,some 0⟩) sp.length sp.length]⟩
 c:bk H bc=some ⟨3,false,[.int .i64 c]⟩
 m:∃ e,bk H m=some ⟨e,false,spV sp⟩
def toGe (c:Int) (sp:List (Int × Int)) (i:Nat):Bool:=decide (c<=(sp.getD i (0,0)).2)
theorem pred_c (H:AHeap) (bs bc m:Nat) (c:Int) (sp:List (Int × Int)) (h:Clo H bs bc m c sp) (i:Nat) (hi:i<sp.length):Pure 74 [.int .i64 (i:Int),.pointer (some ⟨bs,0,none⟩),.pointer (some ⟨bc,0,none⟩)] H (.bool (toGe c sp i)):=by
 obtain⟨b,hb⟩:=Go.Ax.exq H.next
 obtain⟨h1,h2,e,h3⟩:=h
 obtain⟨q,hq⟩:∃ q,sp[i]?=some q:=⟨_,zA7 hi⟩
 have hg:=(spV_get sp i q hq).2
 have hd:sp.getD i (0,0)=q:=by rw[List.getD,hq]; rfl
 have hia:=sp_ia (len:=sp.length) (cap:=sp.length) (n:=m) (s:=some 0) hi
 refine callS_fn mixed Tryz.func74 rfl Tryz.ntmps74 (zB2 rfl) fun wf hsc=>?_
 have l1:bs<b:=hb▸wf.lt h1
 have l2:bc<b:=hb▸wf.lt h2
 have l3:m<b:=hb▸wf.lt h3
 simp only[ruW,ruU,entryE,Nat.reduceLT,Nat.reduceAdd]
 refine w_drawB [] [] (by kernel_rfl) rfl rfl fun ops anc hA hG=>?_
 simp only[hb,h1,h2,h3,l1,l2,l3,hia,hg,toGe,hd,Tryz.results74,ruD,ruW,xF,ruU,Nat.reduceLT,Nat.reduceAdd,Nat.reduceEqDiff]
 exact Fin.pureE rfl rfl
theorem half_wrap {i j:Nat} (h:i+j<1000000):IntKind.i64.wrap (bShr .u64 (IntKind.u64.wrap (IntKind.i64.wrap ((i:Int)+(j:Int)))) 1)=(((i+j) / 2:Nat):Int):=by
 have h1:=wrap_sm (n:=(i:Int)+(j:Int)) (by omega) (by omega)
 rw[show IntKind.i64.wrap ((i:Int)+(j:Int))=_ from h1]
 have h2:IntKind.u64.wrap ((i:Int)+(j:Int))=(i:Int)+(j:Int):=by
  simp only[IntKind.wrap,IntKind.signed,IntKind.bits]
  simp
  omega
 rw[h2]
 have h3:bShr .u64 ((i:Int)+(j:Int)) 1=(((i+j) / 2:Nat):Int):=by
  simp only[bShr,IntKind.bits]
  rw[Int.fdiv_eq_ediv_of_nonneg _ (by decide)]
  simp
 rw[h3]
 exact wrap_sm (by omega) (by omega)
theorem search_c (H:AHeap) (bs bc m:Nat) (c:Int) (sp:List (Int × Int)) (h:Clo H bs bc m c sp) (hlen:sp.length<=1000):Pure 73 [.int .i64 (sp.length:Int),.func (.func 74) ⟨[]⟩ ⟨[.pointer (some ⟨bs,0,none⟩),.pointer (some ⟨bc,0,none⟩)]⟩] H (.int .i64 (srch (toGe c sp) sp.length 0 sp.length:Int)):=by
 obtain⟨b,hb⟩:=Go.Ax.exq H.next
 have hcv:∀ (X:AHeap) (k:IntKind) (m:Int),aConvert Tryz.prog X 3 96 (.int k m)=some (.int .u64 (IntKind.u64.wrap m),X):=fun X k m=>cv_int (u:=.int .i64) (by kernel_rfl) (by kernel_rfl)
 have hcv2:∀ (X:AHeap) (k:IntKind) (m:Int),aConvert Tryz.prog X 96 3 (.int k m)=some (.int .i64 (IntKind.i64.wrap m),X):=fun X k m=>cv_int (u:=.int .u64) (by kernel_rfl) (by kernel_rfl)
 refine callS_fn mixed Tryz.func73 rfl Tryz.ntmps73 (zB2 rfl) fun wf hsc=>?_
 simp only[ruW,ruU,entryE,Nat.reduceLT,Nat.reduceAdd,Nat.reduceEqDiff]
 refine w_env fun E hE=>?_
 have g1:E 1=.func (.func 74) ⟨[]⟩ ⟨[.pointer (some ⟨bs,0,none⟩),.pointer (some ⟨bc,0,none⟩)]⟩:=by rw[hE]; rfl
 have g5:E 5=.int .i64 ((0:Nat):Int):=by rw[hE]; rfl
 have g6:E 6=.int .i64 (sp.length:Int):=by rw[hE]; rfl
 clear hE
 refine blockC_meet (fun E' H'=>H'=H/\E' 5=.int .i64 (srch (toGe c sp) sp.length 0 sp.length:Int)) ?_ ?_
 ·refine w_loop (fun (q:Nat × Nat × Nat) E' H'=>H'=H/\q.2.1-q.1<=q.2.2/\q.2.1<=sp.length/\srch (toGe c sp) q.2.2 q.1 q.2.1=srch (toGe c sp) sp.length 0 sp.length/\E' 1=.func (.func 74) ⟨[]⟩ ⟨[.pointer (some ⟨bs,0,none⟩),.pointer (some ⟨bc,0,none⟩)]⟩/\E' 5=.int .i64 (q.1:Int)/\E' 6=.int .i64 (q.2.1:Int)) (fun q=>q.2.1-q.1) (0,sp.length,sp.length)
   ⟨rfl,by simp,zA8 _,rfl,g1,g5,g6⟩ ?_
  clear g1 g5 g6 E
  rintro⟨i,j,k⟩ E X ⟨hX,hk,hj,hs,g1,g5,g6⟩
  simp only at hk hj hs g5 g6
  rw[hX,show H=ext H [] from rfl]
  by_cases hij:i<j
  ·have hd:decide ((i:Int)<(j:Int))=true:=decide_eq_true (by omega)
   obtain⟨k',rfl⟩:∃ k',k=k'+1:=⟨k-1,by omega⟩
   rw[srch,if_pos hij]at hs
   have hhalf:=half_wrap (i:=i) (j:=j) (by omega)
   obtain⟨md,hmd⟩:=Go.Ax.exq ((i+j) / 2)
   rw[hmd]at hhalf hs
   have hm1:i<=md/\md<j:=by omega
   have hws:=wrap_succ (show md<1000000 by omega)
   have hp:=pred_c H bs bc m c sp h md (by omega)
   simp only[g1,g5,g6,hd,w_convert,hcv,hcv2,w_shr,bit_shr,hhalf,Int.reduceLE,Int.reduceToNat,ruW,ruU,Nat.reduceLT,Nat.reduceEqDiff]
   refine w_callV (f:=74) (ca:=[.pointer (some ⟨bs,0,none⟩),.pointer (some ⟨bc,0,none⟩)]) rfl rfl rfl (by kernel_rfl) ?_
   simp only[ruU]
   refine (show CallS Tryz.prog 74 _ (ext H []) _ (ext H []) from hp).to ?_
   cases hf:toGe c sp md with
   |true =>
    rw[hf,cond_true]at hs
    simp only[ruW,ruU,Nat.reduceLT,Nat.reduceEqDiff]
    refine loopC_next ⟨(i,md,k'),by simp only; omega,rfl,by simp only; omega,by simp only; omega,hs,?_,?_,?_⟩<;>simp only[g1,g5,ruU,Nat.reduceEqDiff]
   |false =>
    rw[hf,cond_false]at hs
    simp only[hws,ruW,ruU,Nat.reduceLT,Nat.reduceEqDiff]
    refine loopC_next ⟨(md+1,j,k'),by simp only; omega,rfl,by simp only; omega,by simp only; omega,hs,?_,?_,?_⟩<;>simp only[g1,g6,ruU,Nat.reduceEqDiff]
  ·have hd:decide ((i:Int)<(j:Int))=false:=decide_eq_false (by omega)
   rw[srch_done _ _ _ _ hij]at hs
   simp only[g5,g6,hd,ruW,ruU,Nat.reduceLT,Nat.reduceEqDiff]
   refine joinR_normal ⟨rfl,?_⟩
   simp only[g5,hs,ruU,Nat.reduceEqDiff]
 clear g1 g5 g6 E
 rintro E X ⟨hX,g5⟩
 rw[hX,show H=ext H [] from rfl]
 simp only[g5,Tryz.results73,ruW,ruU,Nat.reduceLT]
 exact Fin.pure rfl
def inR (c:Int) (sp:List (Int × Int)):Bool :=
 decide (srch (toGe c sp) sp.length 0 sp.length<sp.length)&&decide ((sp.getD (srch (toGe c sp) sp.length 0 sp.length) (0,0)).1<=c)
theorem in_c (H:AHeap) (m:Nat) (c:Int) (sp:List (Int × Int)) (h:∃ e,bk H m=some ⟨e,false,spV sp⟩) (hlen:sp.length<=1000):Pure 44 [.int .i64 c,.slice (some ⟨m,0,some 0⟩) sp.length sp.length] H (.bool (inR c sp)):=by
 obtain⟨b,hb⟩:=Go.Ax.exq H.next
 obtain⟨e,h3⟩:=h
 obtain⟨k,hk⟩:=Go.Ax.exq sp.length
 obtain⟨i,hi⟩:=Go.Ax.exq (srch (toGe c sp) sp.length 0 sp.length)
 obtain⟨d1,hd1⟩:∃ d,decide (i<k)=d:=⟨_,rfl⟩
 have hd1':decide ((i:Int)<(k:Int))=d1:=by
  rw[<-hd1]
  by_cases h:i<k
  ·rw[decide_eq_true h,decide_eq_true (by omega)]
  ·rw[decide_eq_false h,decide_eq_false (by omega)]
 refine callS_fn mixed Tryz.func44 rfl Tryz.ntmps44 (zB2 rfl) fun wf hsc=>?_
 have l3:m<b:=hb▸wf.lt h3
 have hclo:Clo (ext H [⟨3,false,[.int .i64 c]⟩,⟨106,false,[.slice (some ⟨m,0,some 0⟩) sp.length sp.length]⟩]) (b+1) (b+0) m c sp :=
  ⟨by rw[bk_at hb (by simp)]; rfl,by rw[bk_at hb (by simp)]; rfl,e,by rw[bk_old (by omega)]; exact h3⟩
 have hse:=search_c _ (b+1) (b+0) m c sp hclo hlen
 unfold inR
 rw[hi]at hse ⊢
 rw[hk]at hse ⊢
 rw[hd1]
 simp (maxDischargeDepth:=6) only[hb,l3,ruW,xF,ruU,entryE,Nat.reduceLT,Nat.reduceAdd,Nat.reduceEqDiff]
 refine hse.to ?_
 simp (maxDischargeDepth:=6) only[ruW,ruU,Nat.reduceLT]
 refine w_drawB [] [(4,14)] (by kernel_rfl) rfl (by kernel_rfl) fun ops anc hA hG=>?_
 simp only[all2_cons]at hG
 cases d1 with
 |false =>
  simp (maxDischargeDepth:=6) only[hb,hG,hd1',Bool.false_and,Tryz.results44,ruD,ruW,xF,ruU,Nat.reduceLT,Nat.reduceAdd,Nat.reduceEqDiff]
  exact Fin.pureE rfl rfl
 |true =>
  have hik:i<sp.length:=by rw[hk]; exact of_decide_eq_true hd1
  obtain⟨q,hq⟩:∃ q,sp[i]?=some q:=⟨_,zA7 hik⟩
  have hg:=(spV_get sp i q hq).1
  have hd:sp.getD i (0,0)=q:=by rw[List.getD,hq]; rfl
  have hia:=sp_ia (len:=k) (cap:=k) (n:=m) (s:=some 0) (k:=i) (by omega)
  rw[hd]
  simp (maxDischargeDepth:=6) only[hb,l3,h3,hG,hd1',hia,hg,Bool.true_and,Tryz.results44,ruD,ruW,xF,ruU,Nat.reduceLT,Nat.reduceAdd,Nat.reduceEqDiff]
  exact Fin.pureE rfl rfl
def zeroSp:List (Int × Int):=[(768,879),(1155,1161),(1425,1469),(8203,8207),(8400,8447),(65024,65039),(65056,65071)]
def twoSp:List (Int × Int):=[(0,8),(10,31),(127,127),(4352,4447),(11904,12350),(12353,42191),(44032,55203),(63744,64255),(65072,65135),(65280,65376),(65504,65510),(127744,128591),(129280,129535),(131072,262141)]
def widthR (c:Int):Nat:=if (!isR c||inR c zeroSp)=true then 0 else if inR c twoSp=true then 2 else 1
theorem width_c (H:AHeap) (c:Int):Pure 25 [.int .i64 c] H (.int .i64 (widthR c:Int)):=by
 obtain⟨b,hb⟩:=Go.Ax.exq H.next
 refine callS_fn mixed Tryz.func25 rfl Tryz.ntmps25 (zB2 rfl) fun wf hsc=>?_
 have hbase:H.base<=b:=hb▸wf.base
 have uA7:Tryz.prog.underlying 103=some (.array 7 102):=by kernel_rfl
 have uA14:Tryz.prog.underlying 104=some (.array 14 102):=by kernel_rfl
 have zSp:szOf Tryz.prog 102=some 2:=by kernel_rfl
 have slA7:∀ (X:AHeap) (n:Nat),aSlice Tryz.prog X 103 (.pointer (some ⟨n,0,none⟩)) none none none=some (.slice (some ⟨n,0,some 0⟩) 7 7,X):=fun X n=>by
  simp only[aSlice,uA7,bound,zSp,zA1,zA3]
  rfl
 have slA14:∀ (X:AHeap) (n:Nat),aSlice Tryz.prog X 104 (.pointer (some ⟨n,0,none⟩)) none none none=some (.slice (some ⟨n,0,some 0⟩) 14 14,X):=fun X n=>by
  simp only[aSlice,uA14,bound,zSp,zA1,zA3]
  rfl
 obtain⟨d0,hd0⟩:∃ d,isR c=d:=⟨_,rfl⟩
 obtain⟨d1,hd1⟩:∃ d,inR c zeroSp=d:=⟨_,rfl⟩
 obtain⟨d2,hd2⟩:∃ d,inR c twoSp=d:=⟨_,rfl⟩
 have his:=is_c (ext H [⟨103,false,spV zeroSp⟩,⟨104,false,spV twoSp⟩]) c
 have hin0:=in_c (ext H [⟨103,false,spV zeroSp⟩,⟨104,false,spV twoSp⟩]) (b+0) c zeroSp ⟨103,by rw[bk_at hb (by simp)]; rfl⟩ (by decide)
 have hin1:=in_c (ext H [⟨103,false,spV zeroSp⟩,⟨104,false,spV twoSp⟩]) (b+1) c twoSp ⟨104,by rw[bk_at hb (by simp)]; rfl⟩ (by decide)
 rw[hd0]at his
 rw[hd1]at hin0
 rw[hd2]at hin1
 have hl0:zeroSp.length=7:=rfl
 have hl1:twoSp.length=14:=rfl
 rw[hl0]at hin0
 rw[hl1]at hin1
 have key:widthR c=cond (!d0||d1) 0 (cond d2 2 1):=by
  unfold widthR
  rw[hd0,hd1,hd2]
  cases d0<;>cases d1<;>cases d2<;>rfl
 rw[key]
 simp only[hb,hbase,ruW,putL,Nat.reduceLeDiff,xF,ruU,entryE,Nat.reduceLT,Nat.reduceAdd,Nat.reduceEqDiff]
 refine his.to ?_
 cases d0 with
 |false =>
  simp only[Bool.not_false,Bool.true_or,cond_true,Tryz.results25,ruW,ruU,Nat.reduceLT,Nat.reduceEqDiff]
  exact Fin.pureE rfl rfl
 |true =>
  simp only[slA7,ruW,xF,ruU,Nat.reduceLT,Nat.reduceEqDiff]
  refine hin0.to ?_
  cases d1 with
  |true =>
   simp only[Bool.or_true,cond_true,Tryz.results25,ruW,ruU,Nat.reduceLT,Nat.reduceEqDiff]
   exact Fin.pureE rfl rfl
  |false =>
   simp only[slA14,ruW,xF,ruU,Nat.reduceLT,Nat.reduceEqDiff]
   refine hin1.to ?_
   cases d2<;>(simp only[Bool.or_false,cond_true,cond_false,Tryz.results25,ruW,ruU,Nat.reduceLT]; exact Fin.pureE rfl rfl)
theorem ints_ia {len cap n:Nat} {s:Option Nat} {k:Nat} (hk:k<len):aIndexAddr Tryz.prog 53 (.slice (some ⟨n,0,s⟩) len cap) (.int .i64 (k:Int))=some (.pointer (some ⟨n,k,none⟩)):=by
 rw[ia_slice (e:=3) (sz:=1) (by kernel_rfl) (by kernel_rfl) (by omega) (by omega)]
 simp
end Go.Proofs.YtfpckllenkifkaaGreatDoor
namespace Go.Ax
section
variable {P : Program} {ro : Option Nat} {H : AHeap} {N : Nat} {E : Env} {ds : List Deferred} {ops : Array Oper} {rest : List Oper} {d : Nat} {ty : TypeId} {pos : String} {after : Array Edge}
theorem bt_lenStr {t:TypeId} {s:ByteArray} (hu:P.underlying t=some .string):aBuiltin P H .len ⟨[t]⟩ [.string s]=some (goInt s.size,H):=by simp[aBuiltin,aLen,hu]
theorem rb_lenStr {t:TypeId} {s:ByteArray} (hu:P.underlying t=some .string):regBt P .len ⟨[t]⟩ [.string s]=some (goInt s.size):=by simp[regBt,hu]
theorem w_rangeS {Q:Exit->AAct->AHeap->Prop} {x:Operand} {t:TypeId} (hx:opOk P N x=true):wpOps P ro ops (⟨some d,.range t x,ty,pos,after,none⟩::rest) (mkA N E ds) H Q=heapC P ro ops rest N E ds (some d) Q (aRange P H t (opv E x)) :=
 w_rvh rfl (by simp only[aop,xRange,aeval_opv hx,zA1,zA3])
theorem w_nextS {Q:Exit->AAct->AHeap->Prop} {x:Operand} {s:Bool} (hx:opOk P N x=true):wpOps P ro ops (⟨some d,.next x s,ty,pos,after,none⟩::rest) (mkA N E ds) H Q=heapC P ro ops rest N E ds (some d) Q (aNext H (opv E x) s) :=
 w_rvh rfl (by simp only[aop,xNext,aeval_opv hx,zA1,zA3])
def itO (s:ByteArray) (p:Nat):AObj:=⟨.stringIter s p,false,⟨[],0⟩⟩
theorem range_str {t:TypeId} {s:ByteArray} (hu:P.underlying t=some .string):aRange P H t (.string s)=some (.pointer (some ⟨H.next,0,none⟩),H.new (itO s 0)):=by simp only[aRange,hu,itO]
theorem next_str {n p:Nat} {s:ByteArray} (h:H.get n=some (itO s p)) (hp:p<s.size):aNext H (.pointer (some ⟨n,0,none⟩)) true=some (.tuple #[.bool true,goInt p,.int .i32 (Utf8.decode s p).1],H.upd n (some (itO s (p+(Utf8.decode s p).2)))):=by
 simp only[aNext,h,itO]
 rw[if_pos hp]
theorem next_end {n p:Nat} {s:ByteArray} (h:H.get n=some (itO s p)) (hp:¬p<s.size):aNext H (.pointer (some ⟨n,0,none⟩)) true=some (.tuple #[.bool false],H):=by
 simp only[aNext,h,itO]
 rw[if_neg hp]
theorem cells_of_bk {n:Nat} {b:Bl} (h:bk H n=some b):∃ rv,cellsAt H n=some (rv,b.e,b.o)/\rv.n=b.l.length:=by
 obtain⟨rv,h1,h2,h3⟩:=bk_blk h
 exact⟨rv,h1,h2⟩
theorem app_opnR {st xt e:TypeId} {sz by1 m off k n off2 cnt cap:Nat} {sp s:Option Nat} {z:Value} {b bm:Bl} (hu:P.underlying st=some (.slice e)) (hsz:szOf P e=some sz) (hby:bytesOf P e=some by1) (hz:zeroOf P e=some z) (hzl:z.cells.toList.length=sz) (hi:intTy P xt=some false)
  (hm:bk H m=some bm) (he:bm.e=e) (ho:bm.o=true) (hle:off+k*sz<=bm.l.length) (hone:((bm.l.drop off).take (k*sz)).all one=true) (hsp:sp=none\/(∃ j,sp=some (j+1))/\k=0)
  (hb:rk H n=some b) (hle2:off2+cnt*sz<=b.l.length) (hone2:((b.l.drop off2).take (cnt*sz)).all one=true) (hc:0<cnt) (hsm:small (k+cnt) by1=true) :
  aBuiltin P H .append ⟨[st,xt]⟩ [.slice (some ⟨m,off,sp⟩) k k,.slice (some ⟨n,off2,s⟩) cnt cap]=(aNew (H.upd m none) e ((bm.l.drop off).take (k*sz)++(b.l.drop off2).take (cnt*sz)) true).map fun g=>(.slice (some ⟨H.next,0,none⟩) (k+cnt) (k+cnt),g):=by
 have hl:((b.l.drop off2).take (cnt*sz)).length=cnt*sz:=by simp; omega
 have hl2:((bm.l.drop off).take (k*sz)).length=k*sz:=by simp; omega
 obtain⟨rv,hcm,hrn⟩:=cells_of_bk hm
 have hop:=isOpen_bk hm
 rw[ho]at hop
 have hf:=first_bk (sz:=sz) (cnt:=k) (off:=off) (len:=k) (cap:=k) (s:=sp) hm hle
 have hex:exactAp H ⟨m,off,sp⟩ k k=some false:=by
  rcases hsp with rfl|⟨⟨j,rfl⟩,rfl⟩
  ·simp only[exactAp,exactAt,hop,zA5,Bool.not_true]
  ·simp only[exactAp,hop]
   rfl
 simp only[aBuiltin,aAppend,hu,hsz,hby,hz,hi,zA1,zA3,lenV,first_rk hb hle2,hl,hzl,hsm,and_self,if_true,aAppend2]
 rw[if_neg (by omega)]
 simp only[hf,zA3,hl2,hone,hone2,decide_true,zD6,if_true,hex,hcm]
 rw[if_pos ⟨he,by rw[Nat.ble_eq,hrn]; omega⟩]
 cases aNew (H.upd m none) e ((bm.l.drop off).take (k*sz)++(b.l.drop off2).take (cnt*sz)) true<;>rfl
theorem app_nilP {st xt e:TypeId} {sz by1 n off cnt cap:Nat} {s:Option Nat} {z:Value} {b:Bl} (hu:P.underlying st=some (.slice e)) (hsz:szOf P e=some sz) (hby:bytesOf P e=some by1) (hz:zeroOf P e=some z) (hzl:z.cells.toList.length=sz) (hi:intTy P xt=some false)
  (hb:rk H n=some b) (hle:off+cnt*sz<=b.l.length) (hone:((b.l.drop off).take (cnt*sz)).all one=true) (hc:0<cnt) (hsm:small cnt by1=true) :
  aBuiltin P H .append ⟨[st,xt]⟩ [.slice none 0 0,.slice (some ⟨n,off,s⟩) cnt cap]=(aNew H e ((b.l.drop off).take (cnt*sz)) true).map fun g=>(.slice (some ⟨H.next,0,none⟩) cnt cnt,g):=by
 have hl:((b.l.drop off).take (cnt*sz)).length=cnt*sz:=by simp; omega
 simp only[aBuiltin,aAppend,hu,hsz,hby,hz,hi,zA1,zA3,lenV,first_rk hb hle,hl,hzl,zC0,hsm,and_self,if_true,aAppend2]
 rw[if_neg (by omega)]
 simp only[firstC,zA3,zD7,Nat.zero_mul,List.all_nil,hone,decide_true,zD6,if_true,zD5]
 cases aNew H e ((b.l.drop off).take (cnt*sz)) true<;>rfl
def VsAt (H:AHeap) (e:TypeId) (sz:Nat) (v:Value) (vs:List Value) (cnt:Nat):Prop :=
 vs.length=cnt*sz/\vs.all one=true/\((cnt=0/\v=.slice none 0 0)\/(0<cnt/\∃ n,v=.slice (some ⟨n,0,none⟩) cnt cnt/\bk H n=some ⟨e,true,vs⟩/\n<H.next))
theorem VsAt.nil {e:TypeId} {sz:Nat}:VsAt H e sz (.slice none 0 0) [] 0:=⟨by simp,rfl,.inl ⟨rfl,rfl⟩⟩
theorem VsAt.of {G:AHeap} {e:TypeId} {sz cnt:Nat} {v:Value} {vs:List Value} (h:VsAt H e sz v vs cnt) (hn:H.next<=G.next) (hg:∀ n∈idsV v,G.get n=H.get n):VsAt G e sz v vs cnt:=by
 obtain⟨h1,h2,⟨rfl,rfl⟩|⟨h0,n,rfl,hb,hlt⟩⟩:=h
 ·exact⟨h1,h2,.inl ⟨rfl,rfl⟩⟩
 ·exact⟨h1,h2,.inr ⟨h0,n,rfl,(bk_get (hg n (by simp[idsV]))).trans hb,by omega⟩⟩
theorem VsAt.ne {e:TypeId} {sz cnt:Nat} {v:Value} {vs:List Value} (h:VsAt H e sz v vs cnt):∀ n∈idsV v,H.get n≠none/\n<H.next:=by
 obtain⟨h1,h2,⟨rfl,rfl⟩|⟨h0,n,rfl,hb,hlt⟩⟩:=h<;>intro m hm<;>simp only[idsV,zB4,List.not_mem_nil]at hm
 subst hm; exact⟨bk_ne hb,hlt⟩
theorem VsAt.len {e:TypeId} {sz cnt:Nat} {v:Value} {vs:List Value} (h:VsAt H e sz v vs cnt):∃ a,v=.slice a cnt cnt:=by
 obtain⟨h1,h2,⟨rfl,rfl⟩|⟨h0,n,rfl,hb,hlt⟩⟩:=h
 ·exact⟨_,rfl⟩
 ·exact⟨_,rfl⟩
theorem vs_app {st xt e:TypeId} {sz by1 n off cnt cnt2 cap x:Nat} {s:Option Nat} {z v:Value} {b:Bl} {vs ws:List Value} (hu:P.underlying st=some (.slice e)) (hsz:szOf P e=some sz) (hby:bytesOf P e=some by1) (hz:zeroOf P e=some z) (hzl:z.cells.toList.length=sz) (hi:intTy P xt=some false)
  (h:VsAt H e sz v vs cnt) (hb:rk H n=some b) (hle:off+cnt2*sz<=b.l.length) (hws:(b.l.drop off).take (cnt2*sz)=ws) (hone:ws.all one=true) (hc:0<cnt2) (hsm:small (cnt+cnt2) by1=true) (hx:H.next=x) (hsc:scbL H.next (vs++ws)=true) :
  ∃ G,aBuiltin P H .append ⟨[st,xt]⟩ [v,.slice (some ⟨n,off,s⟩) cnt2 cap]=some (.slice (some ⟨x,0,none⟩) (cnt+cnt2) (cnt+cnt2),G)/\VsAt G e sz (.slice (some ⟨x,0,none⟩) (cnt+cnt2) (cnt+cnt2)) (vs++ws) (cnt+cnt2)/\(H.base<=H.next->Mod (idsV v) H G)/\G.next=x+1/\(∀ m,m<x->m∉idsV v->G.get m=H.get m):=by
 have hwl:ws.length=cnt2*sz:=by rw[<-hws]; simp; omega
 obtain⟨h1,h2,⟨rfl,rfl⟩|⟨h0,m,rfl,hm,hlt⟩⟩:=h
 ·have hv:vs=[]:=zD4 (by simpa using h1)
  subst hv
  rw[zD5]at hsc ⊢
  have happ:=app_nilP (H:=H) (st:=st) (xt:=xt) (n:=n) (off:=off) (cnt:=cnt2) (cap:=cap) (s:=s) hu hsz hby hz hzl hi hb hle (by rw[hws]; exact hone) hc (by simpa using hsm)
  have hn:=new_ext (H:=H) (L:=[]) (e:=e) (l:=ws) (o:=true) (by simpa using hsc)
  rw[hws,show aNew H e ws true=aNew (ext H []) e ws true from rfl,hn,zA5,hx]at happ
  refine⟨ext H [⟨e,true,ws⟩],by rw[zC0]; exact happ,⟨by rw[hwl,zC0],hone,.inr ⟨by omega,x,rfl,?_,by rw[ext_next,hx]; simp⟩⟩,fun hok=>Mod.ext hok,by rw[ext_next,hx]; rfl,fun m hm _=>ext_get_old (by omega)⟩
  rw[show x=x+0 from rfl,bk_at hx (by simp)]; rfl
 ·have hdr:(vs.drop 0).take (cnt*sz)=vs:=by rw[zC7]; exact List.take_of_length_le (by omega)
  have happ:=app_opnR (H:=H) (st:=st) (xt:=xt) (m:=m) (off:=0) (k:=cnt) (sp:=none) (n:=n) (off2:=off) (cnt:=cnt2) (cap:=cap) (s:=s) hu hsz hby hz hzl hi hm rfl rfl (by simp only; omega) (by simp only[hdr]; exact h2) (.inl rfl) hb hle (by rw[hws]; exact hone) hc hsm
  simp only[hdr,hws]at happ
  have hn:=new_ext (H:=dp H m) (L:=[]) (e:=e) (l:=vs++ws) (o:=true) (by rw[dp_next]; simpa using hsc)
  rw[show H.upd m none=ext (dp H m) [] from rfl,hn,zA5,hx]at happ
  have mD:Mod (idsV (.slice (some ⟨m,0,none⟩) cnt cnt)) H (dp H m):=Mod.upd (by simp[idsV])
  refine⟨ext (dp H m) [⟨e,true,vs++ws⟩],happ,⟨by rw[zC8,h1,hwl,Nat.add_mul],by rw[List.all_append,h2,hone]; rfl,.inr ⟨by omega,x,rfl,?_,by rw[ext_next,dp_next,hx]; simp⟩⟩,fun hok=>mD.trans (Mod.ext (mD.ok hok)),by rw[ext_next,dp_next,hx]; rfl,fun q hq hqn=>?_⟩
  ·rw[show x=x+0 from rfl,bk_at (show (dp H m).next=x from hx) (by simp)]; rfl
  ·rw[ext_get_old (by rw[dp_next]; omega),dp_get (by simpa[idsV]using hqn)]
end
end Go.Ax
namespace Go.Proofs.YtfpckllenkifkaaGreatDoor
open Go.Ax
def bt (l:List UInt8) (i:Nat):Int:=((l.getD i 0).toNat:Int)
theorem bt_lt (l:List UInt8) (i:Nat):0<=bt l i/\bt l i<256:=by
 have:=(l.getD i 0).toNat_lt
 unfold bt
 omega
def tl (l:List UInt8) (i:Nat):Bool:=decide (i<l.length)&&decide (128<=bt l i)&&decide (bt l i<192)
theorem tl_lt {l:List UInt8} {i:Nat} (h:tl l i=true):i<l.length/\128<=bt l i/\bt l i<192:=by
 simp only[tl,zA4,decide_eq_true_eq]at h
 exact⟨h.1.1,h.1.2,h.2⟩
theorem u9:Tryz.prog.underlying 9=some .string:=by kernel_rfl
theorem size_len (s:ByteArray):s.size=s.data.toList.length:=Array.length_toList.symm
def ptR (l:List UInt8):Int × Int :=
 cond (decide (bt l 0<128)) (bt l 0,1) <|
 cond (decide (194<=bt l 0)&&decide (bt l 0<224)&&tl l 1) ((bt l 0-192)*64+bt l 1-128,2) <|
 cond (decide (224<=bt l 0)&&decide (bt l 0<240)&&tl l 1&&tl l 2)
  (cond (decide (2048<=((bt l 0-224)*64+bt l 1-128)*64+bt l 2-128)&&isR (((bt l 0-224)*64+bt l 1-128)*64+bt l 2-128)) (((bt l 0-224)*64+bt l 1-128)*64+bt l 2-128,3) (0,0)) <|
 cond (decide (240<=bt l 0)&&decide (bt l 0<245)&&tl l 1&&tl l 2&&tl l 3)
  (cond (decide (65536<=(((bt l 0-240)*64+bt l 1-128)*64+bt l 2-128)*64+bt l 3-128)&&isR ((((bt l 0-240)*64+bt l 1-128)*64+bt l 2-128)*64+bt l 3-128)) ((((bt l 0-240)*64+bt l 1-128)*64+bt l 2-128)*64+bt l 3-128,4) (0,0))
 (0,0)
theorem ptR_len (l:List UInt8) (h0:0<l.length):0<=(ptR l).2/\(ptR l).2.toNat<=l.length/\-1<(ptR l).1+1/\(ptR l).1<2000000000:=by
 have r0:=bt_lt l 0
 have r1:=bt_lt l 1
 have r2:=bt_lt l 2
 have r3:=bt_lt l 3
 unfold ptR
 cases e0:decide (bt l 0<128) with
 |true=>simp only[cond_true]; omega
 |false =>
  rw[cond_false]
  cases e1:(decide (194<=bt l 0)&&decide (bt l 0<224)&&tl l 1) with
  |true =>
   simp only[zA4,decide_eq_true_eq]at e1
   have:=tl_lt e1.2
   simp only[cond_true]
   omega
  |false =>
   rw[cond_false]
   cases e2:(decide (224<=bt l 0)&&decide (bt l 0<240)&&tl l 1&&tl l 2) with
   |true =>
    simp only[zA4,decide_eq_true_eq]at e2
    have t1:=tl_lt e2.1.2
    have t2:=tl_lt e2.2
    rw[cond_true]
    cases (decide (2048<=((bt l 0-224)*64+bt l 1-128)*64+bt l 2-128)&&isR (((bt l 0-224)*64+bt l 1-128)*64+bt l 2-128)) with
    |true=>simp only[cond_true]; omega
    |false=>simp only[cond_false]; omega
   |false =>
    rw[cond_false]
    cases e3:(decide (240<=bt l 0)&&decide (bt l 0<245)&&tl l 1&&tl l 2&&tl l 3) with
    |true =>
     simp only[zA4,decide_eq_true_eq]at e3
     have t1:=tl_lt e3.1.1.2
     have t2:=tl_lt e3.1.2
     have t3:=tl_lt e3.2
     rw[cond_true]
     cases (decide (65536<=(((bt l 0-240)*64+bt l 1-128)*64+bt l 2-128)*64+bt l 3-128)&&isR ((((bt l 0-240)*64+bt l 1-128)*64+bt l 2-128)*64+bt l 3-128)) with
     |true=>simp only[cond_true]; omega
     |false=>simp only[cond_false]; omega
    |false=>simp only[cond_false]; omega
def ptsF:Nat->List UInt8->Option (List Int)
 |0,l=>if l=[] then some [] else none
 |n+1,l=>if l=[] then some [] else if (ptR l).2=0 then none else (ptsF n (l.drop (ptR l).2.toNat)).map ((ptR l).1::·)
theorem ptsF_fuel:∀ (n m:Nat) (l:List UInt8),l.length<=n->l.length<=m->ptsF n l=ptsF m l
 |0,m,l,hn,_=>by
  have:l=[]:=zD4 (by omega)
  subst this
  cases m<;>rfl
 |n+1,0,l,_,hm=>by
  have:l=[]:=zD4 (by omega)
  subst this
  rfl
 |n+1,m+1,l,hn,hm=>by
  simp only[ptsF]
  by_cases h:l=[]
  ·rw[if_pos h,if_pos h]
  ·rw[if_neg h,if_neg h]
   by_cases h2:(ptR l).2=0
   ·rw[if_pos h2,if_pos h2]
   ·rw[if_neg h2,if_neg h2]
    have hp:0<l.length:=List.length_pos_iff.2 h
    have:=ptR_len l hp
    rw[ptsF_fuel n m _ (by rw[zE4]; omega) (by rw[zE4]; omega)]
def ptsR (l:List UInt8):Option (List Int):=ptsF l.length l
theorem ptsR_nil:ptsR []=some []:=rfl
theorem ptsR_step (l:List UInt8) (h:0<l.length):ptsR l=if (ptR l).2=0 then none else (ptsR (l.drop (ptR l).2.toNat)).map ((ptR l).1::·):=by
 unfold ptsR
 obtain⟨n,hn⟩:∃ n,l.length=n+1:=⟨l.length-1,by omega⟩
 rw[hn,ptsF,if_neg (fun e=>by rw[e]at h; simp at h)]
 by_cases h2:(ptR l).2=0
 ·rw[if_pos h2,if_pos h2]
 ·rw[if_neg h2,if_neg h2]
  have:=ptR_len l h
  rw[ptsF_fuel n _ _ (by rw[zE4]; omega) (zA8 _)]
theorem ptsR_len:∀ (n:Nat) (l:List UInt8) (r:List Int),l.length<=n->ptsR l=some r->r.length<=l.length
 |0,l,r,hn,h=>by
  have:l=[]:=zD4 (by omega)
  subst this
  rw[ptsR_nil]at h
  cases h
  simp
 |n+1,l,r,hn,h=>by
  by_cases h0:0<l.length
  ·rw[ptsR_step l h0]at h
   split at h
   ·cases h
   ·rename_i h2
    obtain⟨q,hq,rfl⟩:=zA6.1 h
    have hl:=ptR_len l h0
    have:=ptsR_len n _ q (by rw[zE4]; omega) hq
    rw[zE4]at this
    simp only[zB0]
    omega
  ·have:l=[]:=zD4 (by omega)
   subst this
   rw[ptsR_nil]at h
   cases h
   simp
def iv (l:List Int):List Value:=l.map (Value.int .i64)
theorem iv_sc (l:List Int) (n:Nat):scbL n (iv l)=true:=by induction l with|nil=>rfl|cons a l ih=>simp only[iv,zB3,scbL]at ih ⊢; rw[ih]; rfl
def LsOut (H H1:AHeap) (r:Option (List Int)) (out:Out):Prop :=
 match r with
 |none=>out=.ok (.tuple #[.slice none 0 0,.int .i64 5])
 |some l=>∃ v,out=.ok (.tuple #[v,.int .i64 0])/\VsAt H1 3 1 v (iv l) l.length/\∀ n∈idsV v,H.next<=n
theorem sl_str {H:AHeap} {s:ByteArray} {n:Nat} {j:Int} (hj:j=n) (h:n<=s.size):aSlice Tryz.prog H 9 (.string s) (some (.int .i64 j)) none none=some (.string (s.extract n s.size),H):=by
 subst hj
 simp only[aSlice,u9,bound,zA1,zA3]
 rw[if_pos (Int.natCast_nonneg n)]
 simp only[Int.toNat_natCast,zA3]
 rw[if_pos ⟨zA8 _,h⟩]
theorem int_app {X:AHeap} {v:Value} {l:List Int} {c:Int} {x:Nat} (h:VsAt X 3 1 v (iv l) l.length) (hx:X.next=x) (hb:X.base<=X.next) (hlen:l.length<=1000000) :
  ∃ G,aBuiltin Tryz.prog (ext X [⟨3,false,[.int .i64 c]⟩]) .append ⟨[53,53]⟩ [v,.slice (some ⟨x+0,0,some 0⟩) 1 1]=some (.slice (some ⟨x+1,0,none⟩) (l.length+1) (l.length+1),ext G [])/\VsAt G 3 1 (.slice (some ⟨x+1,0,none⟩) (l.length+1) (l.length+1)) (iv (l++[c])) (l++[c]).length/\Mod (idsV v) X G/\G.next=x+2:=by
 have h2:VsAt (ext X [⟨3,false,[.int .i64 c]⟩]) 3 1 v (iv l) l.length:=h.of (by rw[ext_next]; omega) (fun n hn=>ext_get_old (h.ne n hn).2)
 have hk:bk (ext X [⟨3,false,[.int .i64 c]⟩]) (x+0)=some ⟨3,false,[.int .i64 c]⟩:=by rw[bk_at hx (by simp)]; rfl
 have hsm:small (l.length+1) 8=true:=by simp only[small,zA4,Nat.ble_eq]; omega
 obtain⟨G,k1,k2,k3,k4,_⟩:=vs_app (P:=Tryz.prog) (H:=ext X [⟨3,false,[.int .i64 c]⟩]) (st:=53) (xt:=53) (e:=3) (sz:=1) (by1:=8) (z:=.int .i64 0) (n:=x+0) (off:=0) (cnt2:=1) (cap:=1) (s:=some 0) (x:=x+1) (ws:=[.int .i64 c]) (b:=⟨3,false,[.int .i64 c]⟩)
  (by kernel_rfl) (by kernel_rfl) (by kernel_rfl) (by kernel_rfl) rfl (by kernel_rfl) h2 (rk_of hk) (by simp) rfl rfl (by decide) hsm (by rw[ext_next,hx]; rfl) (scbL_append (iv_sc _ _) rfl)
 have e1:iv l++[.int .i64 c]=iv (l++[c]):=by simp[iv]
 rw[e1]at k2
 refine⟨G,k1,by rw[zC8]; exact k2,(Mod.ext hb).trans (k3 ((Mod.ext (W:=[]) hb).ok hb)),k4⟩
set_option maxRecDepth 100000
abbrev fstD:DataW Unit:=Rows.laid_unicode_utf8_first
abbrev accD:DataW Unit:=Rows.laid_unicode_utf8_acceptRanges
def Tab (H:AHeap):Prop:=∃ e1 e2,bk H 0=some ⟨e1,false,dc fstD⟩/\bk H 1=some ⟨e2,false,dc accD⟩
theorem Tab.of {H G:AHeap} (t:Tab H) (h0:G.get 0=H.get 0) (h1:G.get 1=H.get 1):Tab G:=by
 obtain⟨e1,e2,a,b⟩:=t
 exact⟨e1,e2,(bk_get h0).trans a,(bk_get h1).trans b⟩
def rhoV:Go.Shelf.Ren:=⟨fun n=>if n=196 then 46 else if n=259 then 76 else 0,fun n=>if n=46 then 96 else if n=53 then 120 else if n=119 then 127 else if n=138 then 129 else if n=139 then 130 else n,fun n=>n-3⟩
theorem laysV:Go.Proofs.Lays.n196 Tryz.prog rhoV:=by
 constructor
 all_goals first
  |exact mixed
  |kernel_rfl
  |(intro w; kernel_rfl)
theorem fst_list:dc fstD=(List.range 256).map fun c=>Value.int .u8 ((Go.Lib.firstT c:Nat):Int):=by kernel_rfl
theorem acc_list:dc accD=(List.range 16).flatMap fun i=>[Value.int .u8 ((Go.Lib.accLo i:Nat):Int),Value.int .u8 ((Go.Lib.accHi i:Nat):Int)]:=by kernel_rfl
theorem pairs_get {f g:Nat->Value}:∀ (n k:Nat) (i:Nat),i<n->(((List.range' k n).flatMap fun j=>[f j,g j])[2*i]?=some (f (k+i))/\((List.range' k n).flatMap fun j=>[f j,g j])[2*i+1]?=some (g (k+i)))
 |0,_,_,h=>absurd h (by omega)
 |n+1,k,0,_=>by rw[List.range'_succ]; exact⟨rfl,rfl⟩
 |n+1,k,i+1,h=>by
  rw[List.range'_succ]
  have:=pairs_get (f:=f) (g:=g) n (k+1) i (by omega)
  rw[show k+1+i=k+(i+1) by omega]at this
  exact this
theorem tabs_world {ρ:Go.Ax.Ren} {H:AHeap} {w:World} (r:Rel Tryz.prog ρ H w) (t:Tab H):Go.Lib.Utf8Tabs 0 1 w:=by
 obtain⟨e1,e2,h1,h2⟩:=t
 obtain⟨c1,a1,b1⟩:=tab_world r (show 0<Tryz.prog.globals.size by decide +kernel) h1 (by kernel_rfl)
 obtain⟨c2,a2,b2⟩:=tab_world r (show 1<Tryz.prog.globals.size by decide +kernel) h2 (by kernel_rfl)
 refine⟨fun c hc=>?_,fun i hi=>?_⟩
 ·simp only[World.cell?,a1]
  rw[<-Array.getElem?_toList,b1,fst_list,List.getElem?_map,List.getElem?_range hc]
  rfl
 ·have:=pairs_get (f:=fun i=>Value.int .u8 ((Go.Lib.accLo i:Nat):Int)) (g:=fun i=>Value.int .u8 ((Go.Lib.accHi i:Nat):Int)) 16 0 i hi
  rw[zC0]at this
  simp only[World.cell?,a2]
  rw[<-Array.getElem?_toList,<-Array.getElem?_toList,b2,acc_list,List.range_eq_range']
  exact⟨by simpa using this.1,by simpa using this.2⟩
theorem validString_c (H:AHeap) (t:Tab H) (s:ByteArray) (hs:s.size<=9223372036854775807):Pure 46 [.string s] H (.bool (Go.Lib.validD s.data.toList)):=by
 intro ρ w r hsc F n R hF hR
 have hc:=Go.Proofs.Any.utf8_ValidString laysV s w hs (tabs_world r t)
 have e1:[Value.string s].map ρ.val=[Value.string s]:=map_af ρ _ (fun x hx=>by simp only[zB4]at hx; subst hx; rfl)
 rw[e1]
 refine (hF.calls hc).mono ?_
 rintro e w' ⟨rfl,hb⟩
 have:=hR ρ w' (St.below r hb) rfl
 rwa [val_af ρ _ rfl]at this
theorem valid_c (H:AHeap) (t:Tab H) (s:ByteArray) (hs:s.size<=9223372036854775807):Pure 27 [.string s] H (.bool (Go.Lib.validD s.data.toList)):=by
 refine callS_fn mixed Tryz.func27 rfl Tryz.ntmps27 (zB2 rfl) fun wf hsc=>?_
 simp only[ruW,xF,ruU,entryE,Nat.reduceLT,Nat.reduceEqDiff]
 refine (validString_c (ext H []) t s hs).to ?_
 simp only[Tryz.results27,ruW,ruU,Nat.reduceLT]
 exact Fin.pureE rfl rfl
theorem tl_iff (l:List UInt8) (i:Nat):tl l i=true ↔ (i<l.length/\(l.getD i 0).toNat / 64=2):=by
 constructor
 ·intro hh
  have h:=tl_lt hh
  unfold bt at h
  omega
 ·intro hh
  simp only[tl,zA4,decide_eq_true_eq]
  unfold bt
  omega
theorem pt_dec (l:List UInt8) (h:0<l.length):((ptR l).2=0/\(Go.Lib.decodeL l).1=65533/\(Go.Lib.decodeL l).2=1) \/
  ((ptR l).2≠0/\(ptR l).1=((Go.Lib.decodeL l).1:Int)/\(ptR l).2=((Go.Lib.decodeL l).2:Int)/\¬((Go.Lib.decodeL l).1=65533/\(Go.Lib.decodeL l).2=1)):=by
 rw[Go.Lib.decodeL_N]
 have r0:=(l.getD 0 0).toNat_lt
 have r1:=(l.getD 1 0).toNat_lt
 have r2:=(l.getD 2 0).toNat_lt
 have r3:=(l.getD 3 0).toNat_lt
 have t1:=tl_iff l 1
 have t2:=tl_iff l 2
 have t3:=tl_iff l 3
 unfold ptR isR Go.Lib.decodeN
 simp only[Bool.cond_eq_ite,zA4,Bool.not_eq_true',decide_eq_true_eq,Bool.and_eq_false_iff,decide_eq_false_iff_not]
 rw[show bt l 0=((l.getD 0 0).toNat:Int) from rfl,show bt l 1=((l.getD 1 0).toNat:Int) from rfl,show bt l 2=((l.getD 2 0).toNat:Int) from rfl,show bt l 3=((l.getD 3 0).toNat:Int) from rfl]
 generalize (l.getD 0 0).toNat=b0 at *
 generalize (l.getD 1 0).toNat=b1 at *
 generalize (l.getD 2 0).toNat=b2 at *
 generalize (l.getD 3 0).toNat=b3 at *
 generalize tl l 1=c1 at *
 generalize tl l 2=c2 at *
 generalize tl l 3=c3 at *
 generalize l.length=n at *
 by_cases h1:b0<128
 ·rw[if_pos (by omega),if_pos h1]
  dsimp only
  omega
 rw[if_neg (by omega)]
 by_cases h4:194<=b0/\b0<224
 ·by_cases hc:c1=true
  ·have a1:=t1.1 hc
   rw[if_pos ⟨⟨by omega,by omega⟩,hc⟩,if_neg h1,if_pos ⟨by omega,a1⟩,if_pos (by omega)]
   dsimp only
   omega
  ·rw[if_neg (fun hh=>hc hh.2),if_neg (by intro hh; omega),if_neg (by intro hh; omega),if_neg h1,if_neg (fun hh=>hc (t1.2 hh.2)),if_neg (by omega),if_neg (by omega)]
   dsimp only
   omega
 rw[if_neg (by intro hh; omega)]
 by_cases h5:224<=b0/\b0<240
 ·by_cases hc:c1=true/\c2=true
  ·have a1:=t1.1 hc.1
   have a2:=t2.1 hc.2
   rw[if_pos ⟨⟨⟨by omega,by omega⟩,hc.1⟩,hc.2⟩,if_neg h1,if_neg (show ¬(b0 / 32=6/\(1<n/\b1 / 64=2)) by omega),if_pos (show (b0 / 16=14/\(1<n/\b1 / 64=2)/\(2<n/\b2 / 64=2)) from⟨by omega,a1,a2⟩)]
   have hz:((b0:Int)-224)*64+b1-128=(((b0-224)*64+(b1-128):Nat):Int):=by omega
   have hy:((((b0-224)*64+(b1-128):Nat):Int))*64+b2-128=((b0 % 16*4096+b1 % 64*64+b2 % 64:Nat):Int):=by omega
   rw[hz,hy]
   generalize b0 % 16*4096+b1 % 64*64+b2 % 64=z
   by_cases hz:z ≥ 2048/\(z<55296\/57344<=z/\z<=1114111)
   ·rw[if_pos (by omega),if_pos hz]
    dsimp only
    omega
   ·rw[if_neg (by omega),if_neg hz]
    dsimp only
    omega
  ·rw[if_neg (fun hh=>hc ⟨hh.1.2,hh.2⟩),if_neg (by intro hh; omega),if_neg h1,if_neg (show ¬(b0 / 32=6/\(1<n/\b1 / 64=2)) by omega),if_neg (show ¬(b0 / 16=14/\(1<n/\b1 / 64=2)/\(2<n/\b2 / 64=2)) from fun hh=>hc ⟨t1.2 hh.2.1,t2.2 hh.2.2⟩),if_neg (show ¬(b0 / 8=30/\(1<n/\b1 / 64=2)/\(2<n/\b2 / 64=2)/\(3<n/\b3 / 64=2)) by omega)]
   dsimp only
   omega
 rw[if_neg (by intro hh; omega)]
 by_cases h6:240<=b0/\b0<245
 ·by_cases hc:c1=true/\c2=true/\c3=true
  ·have a1:=t1.1 hc.1
   have a2:=t2.1 hc.2.1
   have a3:=t3.1 hc.2.2
   rw[if_pos ⟨⟨⟨⟨by omega,by omega⟩,hc.1⟩,hc.2.1⟩,hc.2.2⟩,if_neg h1,if_neg (show ¬(b0 / 32=6/\(1<n/\b1 / 64=2)) by omega),if_neg (show ¬(b0 / 16=14/\(1<n/\b1 / 64=2)/\(2<n/\b2 / 64=2)) by omega),if_pos (show (b0 / 8=30/\(1<n/\b1 / 64=2)/\(2<n/\b2 / 64=2)/\(3<n/\b3 / 64=2)) from⟨by omega,a1,a2,a3⟩)]
   have hz:((b0:Int)-240)*64+b1-128=(((b0-240)*64+(b1-128):Nat):Int):=by omega
   have hy:((((b0-240)*64+(b1-128):Nat):Int))*64+b2-128=(((b0-240)*4096+(b1-128)*64+(b2-128):Nat):Int):=by omega
   have hx:((((b0-240)*4096+(b1-128)*64+(b2-128):Nat):Int))*64+b3-128=((b0 % 8*262144+b1 % 64*4096+b2 % 64*64+b3 % 64:Nat):Int):=by omega
   rw[hz,hy,hx]
   generalize b0 % 8*262144+b1 % 64*4096+b2 % 64*64+b3 % 64=z
   by_cases hz:z ≥ 65536/\(z<55296\/57344<=z/\z<=1114111)
   ·rw[if_pos (by omega),if_pos hz]
    dsimp only
    omega
   ·rw[if_neg (by omega),if_neg hz]
    dsimp only
    omega
  ·rw[if_neg (fun hh=>hc ⟨hh.1.1.2,hh.1.2,hh.2⟩),if_neg h1,if_neg (show ¬(b0 / 32=6/\(1<n/\b1 / 64=2)) by omega),if_neg (show ¬(b0 / 16=14/\(1<n/\b1 / 64=2)/\(2<n/\b2 / 64=2)) by omega),if_neg (show ¬(b0 / 8=30/\(1<n/\b1 / 64=2)/\(2<n/\b2 / 64=2)/\(3<n/\b3 / 64=2)) from fun hh=>hc ⟨t1.2 hh.2.1,t2.2 hh.2.2.1,t3.2 hh.2.2.2⟩)]
   dsimp only
   omega
 rw[if_neg (by intro hh; omega),if_neg h1]
 repeat' split
 all_goals (dsimp only; omega)
theorem valid_pts:∀ (n:Nat) (l:List UInt8),l.length<=n->Go.Lib.validD l=(ptsR l).isSome
 |0,l,hn=>by
  have:l=[]:=zD4 (by omega)
  subst this
  rfl
 |n+1,l,hn=>by
  by_cases h0:0<l.length
  ·have hne:l≠[]:=fun e=>by rw[e]at h0; simp at h0
   rw[Go.Lib.validD_step l hne,ptsR_step l h0]
   have hl:=ptR_len l h0
   rcases pt_dec l h0 with⟨h1,h2,h3⟩|⟨h1,h2,h3,h4⟩
   ·rw[if_pos ⟨h2,h3⟩,if_pos h1]
    rfl
   ·rw[if_neg h4,if_neg h1,Option.isSome_map]
    have e:(Go.Lib.decodeL l).2=(ptR l).2.toNat:=by omega
    rw[e]
    exact valid_pts n _ (by rw[zE4]; omega)
  ·have:l=[]:=zD4 (by omega)
   subst this
   rfl
theorem list_c (H:AHeap) (t:Tab H) (s:ByteArray) (hlen:s.data.toList.length<=100000) (hok:H.base<=H.next):CallA Tryz.prog 64 [.string s] H (fun out H1=>Mod [] H H1/\LsOut H H1 (ptsR s.data.toList) out):=by
 obtain⟨r,hr⟩:=Go.Ax.exq (ptsR s.data.toList)
 have hv:=valid_c (ext H []) t s (by rw[size_len]; omega)
 rw[valid_pts _ _ (zA8 _),hr]at hv
 have hcv:∀ (X:AHeap) (m:Int),aConvert Tryz.prog X 21 3 (.int .i32 m)=some (.int .i64 (IntKind.i64.wrap m),X):=fun X m=>cv_int (u:=.int .i32) (by kernel_rfl) (by kernel_rfl)
 refine callE_fn mixed Tryz.func64 rfl Tryz.ntmps64 (zB2 rfl) ?_
 simp only[ruW,xF,ruU,entryE,Nat.reduceLT,Nat.reduceEqDiff]
 refine hv.to ?_
 rw[hr]
 cases hr0:r with
 |none =>
  simp only[Option.isSome_none,Tryz.results64,ruW,ruU,Nat.reduceLT,Nat.reduceEqDiff]
  exact⟨Mod.refl,rfl⟩
 |some r0 =>
  rw[<-hr0]
  have hsome:r.isSome=true:=by rw[hr0]; rfl
  have e1:=range_str (H:=ext H []) (s:=s) u9
  simp only[hr0,Option.isSome_some,w_rangeS,e1,ruW,ruU,Nat.reduceLT,Nat.reduceEqDiff]
  refine w_env fun E hE=>?_
  have g4:E 4=.slice none 0 0:=by rw[hE]; rfl
  have g11:E 11=.pointer (some ⟨H.next,0,none⟩):=by rw[hE]; rfl
  clear hE
  refine blockC_meet (fun E' X=>Mod [] H X/\∃ v l,r=some l/\E' 4=v/\VsAt X 3 1 v (iv l) l.length/\∀ n∈idsV v,H.next<=n) ?_ ?_
  ·refine w_loop (fun (q:Nat × List Int × Value) E' X=>Mod [] H X/\X.get H.next=some (itO s q.1)/\H.next<X.next/\r=(ptsR (s.data.toList.drop q.1)).map (q.2.1++·)/\q.2.1.length<=q.1/\q.1<=s.data.toList.length/\E' 11=.pointer (some ⟨H.next,0,none⟩)/\E' 4=q.2.2/\VsAt X 3 1 q.2.2 (iv q.2.1) q.2.1.length/\∀ n∈idsV q.2.2,H.next<n) (fun q=>s.data.toList.length-q.1) (0,[],.slice none 0 0)
    ⟨Mod.new hok,by rw[AHeap.get_new,if_pos (show H.next=(ext H []).next from rfl)],zC1 _,by rw[<-hr]; simp,zA8 _,zA9 _,g11,g4,VsAt.nil,fun n hn=>by simp[idsV]at hn⟩ ?_
   clear g4 g11 E
   rintro⟨p,l,v⟩ E X ⟨m,hit,hlt,hrr,hlp,hps,g11,g4,hva,hid⟩
   simp only at hit hrr hlp hps g11 g4 hva hid
   rw[show X=ext X [] from rfl]
   by_cases h0:p<s.data.toList.length
   ·have hl0:0<(s.data.toList.drop p).length:=by rw[zE4]; omega
    have hpt:=ptR_len _ hl0
    have hdec:=pt_dec _ hl0
    rw[Go.Lib.decodeL_drop]at hdec
    rw[ptsR_step _ hl0]at hrr
    obtain⟨c,n,hcn⟩:∃ c n,ptR (s.data.toList.drop p)=(c,n):=⟨_,_,rfl⟩
    rw[hcn]at hpt hdec hrr
    simp only at hpt hdec hrr
    by_cases hn:n=0
    ·rw[if_pos hn]at hrr
     rw[hrr]at hsome
     cases hsome
    rw[if_neg hn]at hrr
    obtain⟨h1,h2,h3,h4⟩:=hdec.resolve_left (fun h=>hn h.1)
    have hnx:=next_str (H:=ext X []) (n:=H.next) (p:=p) (s:=s) hit (by rw[size_len]; exact h0)
    obtain⟨Y,hY⟩:=Go.Ax.exq (X.upd H.next (some (itO s (p+(Utf8.decode s p).2))))
    have mY:Mod [H.next] X Y:=hY▸Mod.upd (by simp)
    have hYn:Y.next=X.next:=by rw[<-hY]; rfl
    have hYit:Y.get H.next=some (itO s (p+(Utf8.decode s p).2)):=by rw[<-hY,AHeap.get_upd,if_pos rfl]
    rw[show (ext X []).upd H.next (some (itO s (p+(Utf8.decode s p).2)))=ext Y [] from hY,<-h2]at hnx
    rw[<-hY]at mY
    rw[hY]at mY
    obtain⟨x,hx⟩:=Go.Ax.exq Y.next
    have hxb:Y.base<=Y.next:=mY.ok (m.ok hok)
    have hvY:VsAt Y 3 1 v (iv l) l.length:=hva.of (by omega) (fun q hq=>mY.get q (hva.ne q hq).2 (by simp only[zB4]; have:=hid q hq; omega))
    have hw:IntKind.i64.wrap c=c:=wrap_sm (by omega) (by omega)
    obtain⟨G,k1,k2,k3,k4⟩:=int_app (c:=c) hvY hx hxb (by omega)
    simp only[g4,g11,w_nextS,hnx,ruW,ruU,Nat.reduceLT,Nat.reduceEqDiff]
    simp only[hx,w_convert,hcv,hw,k1,ruW,xF,ruU,Nat.reduceLT,Nat.reduceEqDiff]
    refine loopC_next ⟨(p+n.toNat,l++[c],.slice (some ⟨x+1,0,none⟩) (l.length+1) (l.length+1)),?_,?_,?_,?_,?_,?_,?_,?_,?_,?_,?_⟩
    ·simp only; omega
    ·exact (m.step mY hok (fun q hq=>.inr (by simp only[zB4]at hq; omega))).step k3 hok (fun q hq=>.inr (Nat.le_of_lt (hid q hq)))
    ·have hnv:H.next∉idsV v:=fun h=>absurd (hid _ h) (Nat.lt_irrefl _)
     rw[show (ext G []).get H.next=G.get H.next from rfl,k3.get H.next (by omega) hnv,hYit]
     rw[show (Utf8.decode s p).2=n.toNat by omega]
    ·rw[show (ext G []).next=G.next from rfl,k4]; omega
    ·rw[hrr,Option.map_map,List.drop_drop]
     congr 1
     funext y
     simp
    ·simp only[zC8,zB0,zD7]; omega
    ·rw[zE4]at hpt; omega
    ·exact g11
    ·rfl
    ·exact k2
    ·intro q hq
     simp only[idsV,zB4]at hq
     omega
   ·have hnx:=next_end (H:=ext X []) (n:=H.next) (p:=p) (s:=s) hit (by rw[size_len]; exact h0)
    rw[List.drop_eq_nil_of_le (by omega),ptsR_nil]at hrr
    simp only[g11,w_nextS,hnx,ruW,ruU,Nat.reduceLT]
    exact joinR_normal ⟨m,v,l,by rw[hrr]; simp,g4,hva,fun q hq=>Nat.le_of_lt (hid q hq)⟩
  clear g4 g11 E
  rintro E X ⟨m,v,l,hrl,g4,hva,hid⟩
  rw[show X=ext X [] from rfl]
  simp only[g4,Tryz.results64,ruW,ruU,Nat.reduceLT,Nat.reduceEqDiff]
  have e:r0=l:=Option.some.inj (hr0.symm.trans hrl)
  subst e
  exact⟨m,v,rfl,hva,hid⟩
end Go.Proofs.YtfpckllenkifkaaGreatDoor
namespace Go.Ax
section
variable {P : Program} {ro : Option Nat} {H : AHeap} {N : Nat} {E : Env} {ds : List Deferred} {ops : Array Oper} {rest : List Oper} {d : Nat} {ty : TypeId} {pos : String} {after : Array Edge} {Q : Exit -> AAct -> AHeap -> Prop}
def bXor (k:IntKind) (x y:Int):Int:=k.wrap ((BitVec.ofInt k.bits x ^^^ BitVec.ofInt k.bits y).toNat:Int)
def xorV:Value->Value->Option Value
 |.int k a,.int k' b=>if k=k' then some (.int k (bXor k a b)) else none
 |_,_=>none
theorem xor_int {k:IntKind} {a b:Int}:xorV (.int k a) (.int k b)=some (.int k (bXor k a b)):=by simp only[xorV,if_true]
theorem w_xor {t u:TypeId} {x y:Operand} (hx:opOk P N x=true) (hy:opOk P N y=true) (hd:d<N) (h:(xorV (opv E x) (opv E y)).isSome=true):wpOps P ro ops (⟨some d,.binOp .xor t x y u,ty,pos,after,none⟩::rest) (mkA N E ds) H Q=valC P ro ops rest N E ds d H Q (xorV (opv E x) (opv E y)):=by
 cases hv:xorV (opv E x) (opv E y) with
 |none=>rw[hv]at h; cases h
 |some v =>
  unfold xorV at hv
  split at hv
  ·rename_i k a k' b hp hq
   split at hv
   ·rename_i hk
    subst hk
    simp only[Option.some.injEq]at hv
    subst hv
    have h0:aBin P H .xor t (.int k a) (.int k b)=none:=by
     simp only[aBin]
     split<;>rfl
    exact (w_plain hx hy hp hq hd h0 rfl rfl (by simp[eqGuard,binOp,peval,Op.intBits,bXor,pure,bind,Sem.bind]) rfl).trans valC_some.symm
   ·cases hv
  ·cases hv
end
end Go.Ax
namespace Go.Proofs.YtfpckllenkifkaaGreatDoor
open Go.Ax
structure Lk where
 fore:Int
 back:Int
 bold:Bool
 under:Bool
 inv:Bool
def Lk.val (k:Lk):Value:=.agg #[.int .i64 k.fore,.int .i64 k.back,.bool k.bold,.bool k.under,.bool k.inv]
def Lk.ce (k:Lk) (r:Int):Ce:=⟨r,k.fore,k.back,k.bold,k.under,k.inv⟩
def colr (k:Lk):Bool:=decide (0<=k.fore)&&decide (k.fore<=256)&&decide (0<=k.back)&&decide (k.back<=256)
theorem coloured_c (H:AHeap) (k:Lk):Pure 43 [k.val] H (.bool (colr k)):=by
 obtain⟨b,hb⟩:=Go.Ax.exq H.next
 obtain⟨d1,h1⟩:∃ d,decide (0<=k.fore)=d:=⟨_,rfl⟩
 obtain⟨d2,h2⟩:∃ d,decide (k.fore<=256)=d:=⟨_,rfl⟩
 obtain⟨d3,h3⟩:∃ d,decide (0<=k.back)=d:=⟨_,rfl⟩
 obtain⟨d4,h4⟩:∃ d,decide (k.back<=256)=d:=⟨_,rfl⟩
 simp only[colr,h1,h2,h3,h4]
 refine callS_fn mixed Tryz.func43 rfl Tryz.ntmps43 (zB2 rfl) fun wf hsc=>?_
 cases d1<;>cases d2<;>cases d3<;>cases d4<;>(simp only[hb,Lk.val,h1,h2,h3,h4,Tryz.results43,ruW,xF,ruU,entryE,Nat.reduceLT,Nat.reduceAdd,Nat.reduceEqDiff]; exact Fin.pureE rfl rfl)
def cls (c:Int) (k:Lk):List Ce :=
 if (decide (c<32)||decide (c=127))=true then [k.ce 94,k.ce (bXor .i64 c 64)] else if widthR c=0 then [] else if widthR c=2 then [k.ce c,k.ce (-1)] else [k.ce c]
theorem widthR_cases (c:Int):widthR c=0\/widthR c=1\/widthR c=2:=by
 unfold widthR
 split
 ·exact .inl rfl
 ·split
  ·exact .inr (.inr rfl)
  ·exact .inr (.inl rfl)
theorem cls_len (c:Int) (k:Lk):(cls c k).length<=2:=by
 unfold cls
 split
 ·simp
 ·split
  ·simp
  ·split<;>simp
def SrcAt (H H1:AHeap) (v:Value) (l:List Ce):Prop :=
 (l=[]/\v=.slice none 0 0)\/∃ n cap L,v=.slice (some ⟨n,0,some 0⟩) l.length cap/\H.next<=n/\n<H1.next/\bk H1 n=some ⟨45,false,csOf (l++L)⟩
theorem cells_c (H:AHeap) (c:Int) (k:Lk) (hok:H.base<=H.next):CallA Tryz.prog 65 [.int .i64 c,k.val] H (fun out H1=>Mod [] H H1/\∃ v,out=.ok v/\SrcAt H H1 v (cls c k)):=by
 obtain⟨b,hb⟩:=Go.Ax.exq H.next
 obtain⟨d1,h1⟩:∃ d,decide (c<32)=d:=⟨_,rfl⟩
 obtain⟨d2,h2⟩:∃ d,decide (c=127)=d:=⟨_,rfl⟩
 have two:∀ (x y:Int),cls c k=[k.ce x,k.ce y]->∀ L:List Bl,L[1]?=some ⟨45,false,[.int .i64 x,.int .i64 k.fore,.int .i64 k.back,.bool k.bold,.bool k.under,.bool k.inv,.int .i64 y,.int .i64 k.fore,.int .i64 k.back,.bool k.bold,.bool k.under,.bool k.inv]⟩->1<L.length->SrcAt H (ext H L) (.slice (some ⟨b+1,0,some 0⟩) 2 2) (cls c k):=fun x y he L hL hl=>by
  rw[he]
  exact .inr ⟨b+1,2,[],rfl,by omega,by rw[ext_next]; omega,by rw[bk_at hb hl,hL]; rfl⟩
 refine callE_fn mixed Tryz.func65 rfl Tryz.ntmps65 (zB2 rfl) ?_
 by_cases hs:(d1||d2)=true
 ·have he:cls c k=[k.ce 94,k.ce (bXor .i64 c 64)]:=by unfold cls; rw[h1,h2,if_pos hs]
  cases d1 with
  |true =>
   simp only[hb,Lk.val,h1,w_xor,xor_int,Tryz.results65,ruW,Nat.reduceLeDiff,xF,ruU,entryE,Nat.reduceLT,Nat.reduceAdd,Nat.reduceEqDiff]
   exact⟨Mod.ext hok,_,rfl,two _ _ he _ rfl (by simp)⟩
  |false =>
   cases d2 with
   |false=>simp at hs
   |true =>
    simp only[hb,Lk.val,h1,h2,w_xor,xor_int,Tryz.results65,ruW,Nat.reduceLeDiff,xF,ruU,entryE,Nat.reduceLT,Nat.reduceAdd,Nat.reduceEqDiff]
    exact⟨Mod.ext hok,_,rfl,two _ _ he _ rfl (by simp)⟩
 ·have hd:d1=false/\d2=false:=by cases d1<;>cases d2<;>simp_all
  obtain⟨rfl,rfl⟩:=hd
  simp only[hb,Lk.val,h1,h2,ruW,ruU,entryE,Nat.reduceLT,Nat.reduceAdd,Nat.reduceEqDiff]
  refine w_drawB [(8,5),(9,5)] [] (by kernel_rfl) (by kernel_rfl) rfl fun ops anc hA hG=>?_
  simp only[all2_cons]at hA
  simp only[hb,ruD,ruW,Nat.reduceLeDiff,xF,ruU,Nat.reduceLT,Nat.reduceAdd,Nat.reduceEqDiff]
  refine genV_quiet (v:=.int .i64 (widthR c:Int)) [] (by simp only[ruU,Nat.reduceLT]) (by kernel_rfl) (by decide) (fun _ h=>by cases h) (fun K hn hg=>?_) (by simp (maxDischargeDepth:=6) only[ruD,ruW,Nat.reduceLT]) ?_
  ·simp only[ruU]
   exact width_c K c
  simp only[hb,ruW,Nat.reduceAdd]
  have hwc:=widthR_cases c
  have hcl:cls c k=if widthR c=0 then [] else if widthR c=2 then [k.ce c,k.ce (-1)] else [k.ce c]:=by unfold cls; rw[h1,h2]; rfl
  obtain⟨w,hw⟩:=Go.Ax.exq (widthR c)
  rw[hw]at hwc hcl ⊢
  have hbw:bound 2 (some (.int .i64 (w:Int)))=some w:=by simp[bound]
  rw[wd_slice]
  refine genV_val (v:=.slice (some ⟨b+1,0+0*6,some 0⟩) (w-0) (2-0)) rfl (by decide) (fun G=>slice_aop (by simp only[ruU,Nat.reduceLT]) rfl (by simp (maxDischargeDepth:=6) only[ruU,Nat.reduceLT,bndsOk_some]) rfl ?_) (by simp (maxDischargeDepth:=6) only[hA,ruD,Nat.reduceAdd,Nat.reduceMul]) ?_
  ·simp only[bnds_some,bnds_none,ruU,Nat.reduceAdd,Nat.reduceMul,Nat.reduceEqDiff]
   exact sl_exact (e:=45) (sz:=6) (by kernel_rfl) (by kernel_rfl) rfl hbw (by omega) (zA9 _) (by decide)
  simp only[hb,hA,Tryz.results65,ruD,ruW,ruU,Nat.reduceLT,Nat.reduceAdd,Nat.reduceMul]
  refine⟨Mod.ext hok,_,rfl,?_⟩
  rw[hcl]
  refine .inr ⟨b+1,2,if w=0 then [k.ce c,k.ce (-1)] else if w=2 then [] else [k.ce (-1)],?_,by omega,by rw[ext_next]; simp; omega,?_⟩
  ·rcases hwc with rfl|rfl|rfl<;>rfl
  ·rw[bk_at hb (by simp)]
   rcases hwc with rfl|rfl|rfl<;>rfl
theorem putL_nil:∀ (l:List Value) (off:Nat),putL l off []=l
 |[],0=>rfl
 |[],_+1=>rfl
 |_::_,0=>rfl
 |x::r,k+1=>by rw[putL,putL_nil r k]
theorem ce_app {H0 X:AHeap} {v v2:Value} {l l2:List Ce} {x:Nat} (h:VsAt X 45 6 v (csOf l) l.length) (h2:SrcAt H0 X v2 l2) (hx:X.next=x) (hb:X.base<=X.next) (hlen:l.length+l2.length<=10000) :
  ∃ v' G,aBuiltin Tryz.prog X .append ⟨[34,34]⟩ [v,v2]=some (v',ext G [])/\VsAt G 45 6 v' (csOf (l++l2)) (l++l2).length/\Mod (idsV v) X G/\(∀ n∈idsV v',n∈idsV v\/x<=n):=by
 have a1:Tryz.prog.underlying 34=some (.slice 45):=by kernel_rfl
 have a2:szOf Tryz.prog 45=some 6:=by kernel_rfl
 have a3:bytesOf Tryz.prog 45=some 32:=by kernel_rfl
 have a4:zeroOf Tryz.prog 45=some (.agg #[.int .i64 0,.int .i64 0,.int .i64 0,.bool false,.bool false,.bool false]):=by kernel_rfl
 have a5:intTy Tryz.prog 34=some false:=by kernel_rfl
 by_cases he:l2=[]
 ·subst he
  have hf:firstC X 6 0 v2=some []/\lenV v2=some 0:=by
   rcases h2 with⟨_,rfl⟩|⟨n,cap,L,rfl,_,_,hbk⟩
   ·exact⟨rfl,rfl⟩
   ·exact⟨by rw[first_bk hbk (by simp)]; simp,rfl⟩
  have hsm:∀ k,k<=10000->small (k+0) 32=true:=fun k hk=>by simp only[small,zA4,Nat.ble_eq]; omega
  rw[zE2]
  have h':=h
  obtain⟨h1,h3,⟨hz,rfl⟩|⟨h0,m,rfl,hm,hlt⟩⟩:=h
  ·refine⟨_,X,?_,h',Mod.refl,fun n hn=>.inl hn⟩
   simp only[aBuiltin,aAppend,a1,a2,a3,a4,a5,hf.1,hf.2,zA1,zA3]
   rfl
  ·have hw:=write_old (H:=X) (L:=[]) (off:=0+l.length*6) (vs:=[]) hlt hm (by simp only[zD7]; omega) rfl rfl
   rw[ext_nil,ext_nil]at hw
   refine⟨.slice (some ⟨m,0,none⟩) l.length l.length,uw X m (0+l.length*6) [],?_,⟨h1,h3,.inr ⟨h0,m,rfl,?_,by rw[uw_next]; exact hlt⟩⟩,Mod.uw (by simp[idsV]),fun n hn=>.inl hn⟩
   ·simp only[aBuiltin,aAppend,a1,a2,a3,a4,a5,hf.1,hf.2,zA1,zA3]
    rw[if_pos ⟨by simp,hsm _ (by omega),rfl⟩]
    simp only[aAppend2]
    rw[if_pos (by omega)]
    simp only[hw,zA1,zA3]
    rfl
   ·rw[bk_uw_eq,hm]
    simp only[zA5,putB,putL_nil]
 ·rcases h2 with⟨e,_⟩|⟨n,cap,L,rfl,_,_,hbk⟩
  ·exact absurd e he
  have hpos:0<l2.length:=List.length_pos_iff.2 he
  have hsm:small (l.length+l2.length) 32=true:=by simp only[small,zA4,Nat.ble_eq]; omega
  obtain⟨G,k1,k2,k3,k4,_⟩:=vs_app (P:=Tryz.prog) (H:=X) (st:=34) (xt:=34) (e:=45) (sz:=6) (by1:=32) (n:=n) (off:=0) (cnt2:=l2.length) (cap:=cap) (s:=some 0) (x:=x) (ws:=csOf l2) (b:=⟨45,false,csOf (l2++L)⟩)
   a1 a2 a3 a4 rfl a5 h (rk_of hbk) (by simp only[csOf_length,zC8]; omega) (by rw[zC7,csOf_take,List.take_append,List.take_length,Nat.sub_self,List.take_zero,zE2]) (csOf_one l2) hpos hsm hx (scbL_append (csOf_sc _ _) (csOf_sc _ _))
  rw[<-csOf_append]at k2
  refine⟨_,G,k1,by rw[zC8]; exact k2,k3 hb,fun q hq=>?_⟩
  simp only[idsV,zB4]at hq
  exact .inr (by omega)
def grd (w:Nat) (k:Lk):List Int->List Ce->List Ce
 |[],acc=>acc
 |c::l,acc=>if w<acc.length+(cls c k).length then acc else grd w k l (acc++cls c k)
theorem grd_len (w:Nat) (k:Lk):∀ (l:List Int) (acc:List Ce),acc.length<=w->(grd w k l acc).length<=w
 |[],acc,h=>h
 |c::l,acc,h=>by
  rw[grd]
  split
  ·exact h
  ·exact grd_len w k l _ (by rw[zC8]; omega)
def fitR (w:Nat) (k:Lk) (l:List Int):List Ce:=grd w k l []++List.replicate (w-(grd w k l []).length) (k.ce 32)
theorem rep_c (w:Nat) (hw:w<=1000) (c:Ce) (n:Nat) (s:Option Nat) (H:AHeap) (hn:bk H n=some ⟨45,false,c.cells⟩) :
  CallS Tryz.prog 16 [.slice (some ⟨n,0,s⟩) 1 1,.int .i64 (w:Int)] H (.ok (.slice (some ⟨H.next,0,some 0⟩) w w)) (ext H [⟨45,false,csOf (List.replicate w c)⟩]):=by
 rcases Nat.eq_zero_or_pos w with rfl|h
 ·exact repeat0_c c n s H hn
 ·exact repeat_c w h hw c n s H hn
def lkc (k:Lk):List Value:=[.int .i64 k.fore,.int .i64 k.back,.bool k.bold,.bool k.under,.bool k.inv]
def FitOut (H H1:AHeap) (r:Option (List Int)) (width:Int) (k:Lk) (out:Out):Prop :=
 match r with
 |none=>out=.ok (.tuple #[.slice none 0 0,.int .i64 5])
 |some l=>if (decide (width<0)||decide (1000<width)||!colr k)=true then out=.ok (.tuple #[.slice none 0 0,.int .i64 3]) else
   ∃ v,out=.ok (.tuple #[v,.int .i64 0])/\VsAt H1 45 6 v (csOf (fitR width.toNat k l)) (fitR width.toNat k l).length/\∀ n∈idsV v,H.next<=n
structure FitI (H X1 X:AHeap) (q:Nat) (k:Lk) (v8:Value) (l:List Int) (v:Value) (acc:List Ce):Prop where
 m:Mod [] H X
 lo:X1.next<=X.next
 ok:X.base<=X.next
 box:bk X q=some ⟨41,false,lkc k⟩
 ql:q<X1.next
 av8:VsAt X 3 1 v8 (iv l) l.length
 i8:∀ n∈idsV v8,n<X1.next
 av:VsAt X 45 6 v (csOf acc) acc.length
 i:∀ n∈idsV v,X1.next<=n
theorem FitI.grow {H X1 X Y:AHeap} {q:Nat} {k:Lk} {v8 v:Value} {l:List Int} {acc:List Ce} (h:FitI H X1 X q k v8 l v acc) (hH:H.base<=H.next) (m:Mod [] X Y):FitI H X1 Y q k v8 l v acc :=
 ⟨h.m.trans m,zB8 h.lo m.next,m.ok h.ok,(m.bk (zC3 h.ql h.lo) (by simp)).trans h.box,h.ql,h.av8.of m.next (fun n hn=>m.get n (h.av8.ne n hn).2 (by simp)),h.i8,h.av.of m.next (fun n hn=>m.get n (h.av.ne n hn).2 (by simp)),h.i⟩
theorem FitI.app {H H0 X1 X:AHeap} {q:Nat} {k:Lk} {v8 v v2:Value} {l:List Int} {acc l2:List Ce} {x:Nat} (h:FitI H X1 X q k v8 l v acc) (hH:H.base<=H.next) (hn:H.next<=X1.next) (h2:SrcAt H0 X v2 l2) (hx:X.next=x) (hlen:acc.length+l2.length<=10000) :
  ∃ v' G,aBuiltin Tryz.prog X .append ⟨[34,34]⟩ [v,v2]=some (v',ext G [])/\FitI H X1 G q k v8 l v' (acc++l2):=by
 obtain⟨v',G,k1,k2,k3,k4⟩:=ce_app h.av h2 hx h.ok hlen
 have hnot:∀ n,n<X1.next->n∉idsV v:=fun n hn hi=>by have:=h.i n hi; omega
 refine⟨v',G,k1,h.m.step k3 hH (fun n hi=>.inr (zB8 hn (h.i n hi))),zB8 h.lo k3.next,k3.ok h.ok,(k3.bk (zC3 h.ql h.lo) (hnot q h.ql)).trans h.box,h.ql,h.av8.of k3.next (fun n hi=>k3.get n (h.av8.ne n hi).2 (hnot n (h.i8 n hi))),h.i8,k2,fun n hi=>?_⟩
 rcases k4 n hi with h'|h'
 ·exact h.i n h'
 ·have:=h.lo; omega
theorem ints_load {X:AHeap} {v8:Value} {l:List Int} {i:Nat} {c:Int} (h:VsAt X 3 1 v8 (iv l) l.length) (hc:l[i]?=some c):∃ n,v8=.slice (some ⟨n,0,none⟩) l.length l.length/\n<X.next/\bk X n=some ⟨3,true,iv l⟩/\(iv l)[i]?=some (.int .i64 c):=by
 have hi:i<l.length:=by
  rcases zB6 i l.length with h'|h'
  ·exact h'
  ·rw[zC6 h']at hc; cases hc
 obtain⟨_,_,⟨h0,_⟩|⟨_,n,e,hb,hlt⟩⟩:=h
 ·omega
 ·exact⟨n,e,hlt,hb,by simp[iv,hc]⟩
theorem fit_c (H:AHeap) (t:Tab H) (h01:1<H.next) (s:ByteArray) (width:Int) (k:Lk) (hlen:s.data.toList.length<=300) (hok:H.base<=H.next) :
  CallA Tryz.prog 33 [.string s,.int .i64 width,k.val] H (fun out H1=>Mod [] H H1/\FitOut H H1 (ptsR s.data.toList) width k out):=by
 obtain⟨b,hb⟩:=Go.Ax.exq H.next
 refine callE_fn mixed Tryz.func33 rfl Tryz.ntmps33 (zB2 rfl) ?_
 simp only[hb,Lk.val,ruW,xF,ruU,entryE,Nat.reduceLT,Nat.reduceAdd,Nat.reduceEqDiff]
 generalize hX0:ext H [_]=X0
 have m0:Mod [] H X0:=hX0▸Mod.ext hok
 have n0:X0.next=b+1:=by rw[<-hX0,ext_next,hb]; rfl
 have box0:bk X0 (b+0)=some ⟨41,false,lkc k⟩:=by rw[<-hX0,bk_at hb (by simp)]; rfl
 have t0:Tab X0:=t.of (m0.get 0 (by omega) (by simp)) (m0.get 1 (by omega) (by simp))
 refine (list_c X0 t0 s (by omega) (m0.ok hok)).mono ?_
 rintro out X ⟨m1,ho⟩
 obtain⟨q,hq⟩:=Go.Ax.exq (b+0)
 rw[hq]at box0 ⊢
 have ql:q<X.next:=by have:=m1.next; omega
 have mX:=m0.trans m1
 have okX:=mX.ok hok
 have boxX:bk X q=some ⟨41,false,lkc k⟩:=(m1.bk (by omega) (by simp)).trans box0
 obtain⟨x,hx⟩:=Go.Ax.exq X.next
 rw[hx]at ql
 rw[show X=ext X [] from rfl]
 cases hp:ptsR s.data.toList with
 |none =>
  rw[hp]at ho
  simp only[LsOut]at ho
  subst ho
  have h5:decide (¬(5:Int)=0)=true:=by decide
  simp only[h5,not_false_eq_true,Tryz.results33,ruW,ruU,Nat.reduceLT,Nat.reduceEqDiff]
  exact⟨mX,rfl⟩
 |some l =>
  rw[hp]at ho
  obtain⟨v8,rfl,hv8,hid8⟩:=ho
  have hll:l.length<=300:=zB8 (ptsR_len _ _ _ (zA8 _) hp) hlen
  obtain⟨d1,h1⟩:∃ d,decide (width<0)=d:=⟨_,rfl⟩
  obtain⟨d2,h2⟩:∃ d,decide (1000<width)=d:=⟨_,rfl⟩
  obtain⟨d3,h3⟩:∃ d,colr k=d:=⟨_,rfl⟩
  have hcol:=coloured_c (ext X []) k
  rw[h3]at hcol
  simp only[FitOut,h1,h2,h3]
  cases d1 with
  |true =>
   simp only[not_true_eq_false,decide_false,not_false_eq_true,h1,Tryz.results33,ruW,ruU,Nat.reduceLT,Nat.reduceEqDiff]
   exact⟨mX,by simp⟩
  |false =>
   cases d2 with
   |true =>
    simp only[not_true_eq_false,decide_false,not_false_eq_true,h1,h2,Tryz.results33,ruW,ruU,Nat.reduceLT,Nat.reduceEqDiff]
    exact⟨mX,by simp⟩
   |false =>
    simp only[not_true_eq_false,decide_false,not_false_eq_true,hx,h1,h2,boxX,ql,lkc,ruW,Nat.reduceLeDiff,xF,ruU,Nat.reduceLT,Nat.reduceAdd,Nat.reduceEqDiff]
    refine hcol.to ?_
    cases d3 with
    |false =>
     simp only[not_false_eq_true,Tryz.results33,ruW,ruU,Nat.reduceLT,Nat.reduceEqDiff]
     exact⟨mX,by simp⟩
    |true =>
     obtain⟨a8,e8⟩:=hv8.len
     rw[e8]
     simp only[not_false_eq_true,ruW,xF,ruU,Nat.reduceLT,Nat.reduceEqDiff]
     rw[<-e8]
     obtain⟨w,hw⟩:∃ w:Nat,width=w:=⟨width.toNat,by have:=of_decide_eq_false h1; omega⟩
     have hw1:w<=1000:=by have:=of_decide_eq_false h2; omega
     subst hw
     refine w_env fun E hE=>?_
     have g1:E 1=.int .i64 (w:Int):=by rw[hE]; rfl
     have g5:E 5=.pointer (some ⟨q,0,none⟩):=by rw[hE]; rfl
     have g10:E 10=.slice none 0 0:=by rw[hE]; rfl
     have g34:E 34=v8:=by rw[hE]; rfl
     have g35:E 35=.int .i64 (l.length:Int):=by rw[hE]; rfl
     have g36:E 36=.int .i64 ((0:Nat):Int):=by rw[hE]; rfl
     clear hE
     have hq1:q<X.next:=by rw[hx]; exact ql
     have hHX:H.next<=X.next:=mX.next
     have I0:FitI H X X q k v8 l (.slice none 0 0) []:=⟨mX,zA8 _,okX,boxX,hq1,hv8,fun n hn=>(hv8.ne n hn).2,VsAt.nil,fun n hn=>by simp[idsV]at hn⟩
     have hR:=grd_len w k l [] (zA9 _)
     obtain⟨R,hRd⟩:=Go.Ax.exq (grd w k l [])
     rw[hRd]at hR
     have hfit:fitR (w:Int).toNat k l=R++List.replicate (w-R.length) (k.ce 32):=by rw[Int.toNat_natCast,fitR,hRd]
     refine blockC_meet (fun E' Y=>∃ v,FitI H X Y q k v8 l v R/\E' 10=v/\E' 1=.int .i64 (w:Int)/\E' 5=.pointer (some ⟨q,0,none⟩)) ?_ ?_
     ·refine w_loop (fun (z:Nat × List Ce × Value) E' Y=>FitI H X Y q k v8 l z.2.2 z.2.1/\z.1<=l.length/\z.2.1.length<=w/\grd w k (l.drop z.1) z.2.1=R/\E' 1=.int .i64 (w:Int)/\E' 5=.pointer (some ⟨q,0,none⟩)/\E' 10=z.2.2/\E' 34=v8/\E' 35=.int .i64 (l.length:Int)/\E' 36=.int .i64 (z.1:Int)) (fun z=>l.length-z.1) (0,[],.slice none 0 0)
       ⟨I0,zA9 _,zA9 _,hRd,g1,g5,g10,g34,g35,g36⟩ ?_
      clear g1 g5 g10 g34 g35 g36 E
      rintro⟨i,acc,v⟩ E Y ⟨I,hil,hal,hg,g1,g5,g10,g34,g35,g36⟩
      simp only at I hil hal hg g10 g36
      obtain⟨y,hy⟩:=Go.Ax.exq Y.next
      have hqy:q<y:=by have:=I.lo; have:=I.ql; omega
      have hby:=I.box
      rw[show Y=ext Y [] from rfl]
      by_cases hlt:i<l.length
      ·have hd:decide ((i:Int)<(l.length:Int))=true:=decide_eq_true (by omega)
       obtain⟨c,hc⟩:∃ c,l[i]?=some c:=⟨_,zA7 hlt⟩
       obtain⟨n8,e8',n8l,b8,c8⟩:=ints_load I.av8 hc
       rw[e8']at g34
       rw[hy]at n8l
       have i0:=ints_ia (len:=l.length) (cap:=l.length) (n:=n8) (s:=none) (k:=i) hlt
       have hdr:l.drop i=c::l.drop (i+1):=by
        rw[List.drop_eq_getElem_cons hlt]
        rw[zA7 hlt]at hc
        rw[Option.some.inj hc]
       rw[hdr,grd]at hg
       simp only[g5,g34,g35,g36,hd,hy,i0,b8,n8l,c8,hby,hqy,lkc,ruW,Nat.reduceLeDiff,xF,ruU,Nat.reduceLT,Nat.reduceAdd,Nat.reduceEqDiff]
       refine (cells_c (ext Y []) c k I.ok).mono ?_
       rintro out Z ⟨mZ,v13,rfl,hs⟩
       have I2:=I.grow hok mZ
       obtain⟨z,hz⟩:=Go.Ax.exq Z.next
       have hsl:∃ a cap,v13=.slice a (cls c k).length cap:=by
        rcases hs with⟨e,rfl⟩|⟨n,cap,L,rfl,_⟩
        ·exact⟨none,0,by rw[e]; rfl⟩
        ·exact⟨_,_,rfl⟩
       obtain⟨a13,c13,e13⟩:=hsl
       obtain⟨av,ev⟩:=I2.av.len
       rw[show Z=ext Z [] from rfl]
       have hcl:=cls_len c k
       have hw2:IntKind.i64.wrap ((acc.length:Int)+((cls c k).length:Int))=(((acc.length+(cls c k).length:Nat)):Int):=(wrap_sm (by omega) (by omega)).trans (by omega)
       by_cases hgt:w<acc.length+(cls c k).length
       ·have hd2:decide ((w:Int)<((acc.length+(cls c k).length:Nat):Int))=true:=decide_eq_true (by omega)
        rw[if_pos hgt]at hg
        rw[e13]
        rw[ev]at g10
        simp only[g1,g10,hw2,hd2,blockC_other (show (1:Nat)≠2 by decide),ruW,xF,ruU,Nat.reduceLT,Nat.reduceEqDiff]
        refine joinR_normal ?_
        refine⟨v,by rw[<-hg]; exact I2,?_,?_,?_⟩
        ·rw[ev]; simp only[g10,ruU,Nat.reduceEqDiff]
        ·exact g1
        ·exact g5
       ·have hd2:decide ((w:Int)<((acc.length+(cls c k).length:Nat):Int))=false:=decide_eq_false (by omega)
        rw[if_neg hgt]at hg
        obtain⟨v',G,k1,I3⟩:=I2.app hok hHX hs hz (by omega)
        have hw3:IntKind.i64.wrap ((i:Int)+1)=((i+1:Nat):Int):=wrap_succ (by omega)
        rw[e13]at k1 ⊢
        rw[ev]at g10 k1
        rw[<-ext_nil (H:=Z)]at k1
        simp only[g1,g10,g36,hw2,hw3,hd2,k1,ruW,xF,ruU,Nat.reduceLT,Nat.reduceEqDiff]
        refine loopC_next ⟨(i+1,acc++cls c k,v'),?_,I3,?_,?_,hg,?_,?_,?_,?_,?_,?_⟩
        ·simp only; omega
        ·simp only; omega
        ·simp only[zC8]; omega
        all_goals simp only[g1,g5,g34,g35,e8',ruU,Nat.reduceEqDiff]
      ·have hd:decide ((i:Int)<(l.length:Int))=false:=decide_eq_false (by omega)
       rw[List.drop_eq_nil_of_le (by omega),grd]at hg
       simp only[g35,g36,hd,ruW,ruU,Nat.reduceLT]
       refine joinR_normal ?_
       exact⟨v,hg▸I,g10,g1,g5⟩
     clear g1 g5 g10 g34 g35 g36 E
     rintro E Y ⟨v,I,g10,g1,g5⟩
     obtain⟨y,hy⟩:=Go.Ax.exq Y.next
     have hqy:q<y:=by have:=I.lo; have:=I.ql; omega
     have hby:=I.box
     obtain⟨av,ev⟩:=I.av.len
     rw[show Y=ext Y [] from rfl]
     rw[ev]at g10
     have hw2:IntKind.i64.wrap ((w:Int)-(R.length:Int))=((w-R.length:Nat):Int):=(wrap_sm (by omega) (by omega)).trans (by omega)
     have hrep:=rep_c (w-R.length) (by omega) (k.ce 32) (y+0) (some 0) (ext Y [⟨45,false,(k.ce 32).cells⟩]) (by rw[bk_at hy (by simp)]; rfl)
     have hKn:(ext Y [⟨45,false,(k.ce 32).cells⟩]).next=y+1:=by rw[ext_next,hy]; rfl
     rw[hKn]at hrep
     have hsrc:SrcAt Y (ext (ext Y [⟨45,false,(k.ce 32).cells⟩]) [⟨45,false,csOf (List.replicate (w-R.length) (k.ce 32))⟩]) (.slice (some ⟨y+1,0,some 0⟩) (w-R.length) (w-R.length)) (List.replicate (w-R.length) (k.ce 32)) :=
      .inr ⟨y+1,w-R.length,[],by rw[zD2],by omega,by rw[ext_next,hKn]; simp,by rw[zE2,show y+1=y+1+0 from rfl,bk_at hKn (by simp)]; rfl⟩
     have mZ:Mod [] Y (ext (ext Y [⟨45,false,(k.ce 32).cells⟩]) [⟨45,false,csOf (List.replicate (w-R.length) (k.ce 32))⟩]):=(Mod.ext I.ok).trans (Mod.ext ((Mod.ext (W:=[]) I.ok).ok I.ok))
     simp only[g1,g5,g10,hy,hqy,hby,lkc,hw2,ruW,Nat.reduceLeDiff,xF,ruU,Nat.reduceLT,Nat.reduceAdd,Nat.reduceEqDiff]
     generalize hZ:ext (ext Y _) _=Z at hrep hsrc mZ
     refine hrep.to ?_
     obtain⟨z,hz⟩:=Go.Ax.exq Z.next
     obtain⟨v',G,k1,I5⟩:=(I.grow hok mZ).app hok hHX hsrc hz (by rw[zD2]; omega)
     rw[ev]at k1
     rw[<-ext_nil (H:=Z)]at k1
     rw[show Z=ext Z [] from rfl]
     simp only[k1,Tryz.results33,ruW,ruU,Nat.reduceLT,Nat.reduceEqDiff]
     refine⟨I5.m,?_⟩
     rw[if_neg (by simp),hfit]
     exact⟨v',rfl,I5.av,fun n hn=>zB8 hHX (I5.i n hn)⟩
def Pn.look (p:Pn):Lk:=⟨p.fore,p.back,p.bold,p.under,p.inv⟩
def insR (h w:Int) (r:Rc):Bool:=decide (0<=r.top)&&decide (0<=r.left)&&decide (1<=r.height)&&decide (1<=r.width)&&decide (r.top<h)&&decide (r.left<w)&&decide (r.height<=h-1-r.top)&&decide (r.width<=w-r.left)
def pnE (h w:Int) (p:Pn):Int :=
 if insR h w p.rect=false\/p.row < -1\/p.rect.height-2<p.row\/(p.row≠-1/\(p.col<0\/p.rect.width<=p.col)) then 3
 else if ((p.rows.take (p.rect.height-1).toNat).any fun x=>decide ((x.cells.length:Int)≠p.rect.width))=true\/ptsR p.mode.data.toList=none\/colr p.look=false then 5 else 0
def meetR (a b:Rc):Bool:=decide (a.top<b.top+b.height)&&decide (b.top<a.top+a.height)&&decide (a.left<b.left+b.width)&&decide (b.left<a.left+a.width)
def pairsR:List Rc->Bool
 |[]=>false
 |a::l=>(l.any (meetR a))||pairsR l
def pnsE (h w:Int):List Pn->Int
 |[]=>0
 |p::l=>if pnE h w p≠0 then pnE h w p else pnsE h w l
def frE (f:Fr):Int :=
 if f.height<2\/200<f.height\/f.width<1\/1000<f.width then 3
 else if pnsE f.height f.width f.panes≠0 then pnsE f.height f.width f.panes
 else if (f.bars.any fun r=>!insR f.height f.width r)=true then 3
 else if pairsR (f.panes.map Pn.rect++f.bars)=true then 9
 else if ptsR f.echo.data.toList=none then 5
 else if f.ecol < -1\/f.width<=f.ecol then 3 else 0
def overR (q:List Ce) (col:Nat) (l:List Ce):List Ce:=q.take col++l++q.drop (col+l.length)
def putG (g:List (List Ce)) (row col:Nat) (l:List Ce):List (List Ce):=g.set row (overR (g.getD row []) col l)
def putRows (g:List (List Ce)) (row col:Nat):List (List Ce)->List (List Ce)
 |[]=>g
 |l::ls=>putRows (putG g row col l) (row+1) col ls
def strG (w:Nat) (k:Lk) (s:ByteArray):List Ce:=match ptsR s.data.toList with
 |some l=>fitR w k l
 |none=>[]
def paneG (g:List (List Ce)) (p:Pn):List (List Ce) :=
 putG (putRows g p.rect.top.toNat p.rect.left.toNat ((p.rows.take (p.rect.height-1).toNat).map Rw.cells)) (p.rect.top+p.rect.height-1).toNat p.rect.left.toNat (strG p.rect.width.toNat p.look p.mode)
def barG (g:List (List Ce)) (r:Rc):List (List Ce):=putRows g r.top.toNat r.left.toNat (List.replicate r.height.toNat (List.replicate r.width.toNat ⟨124,0,0,false,false,false⟩))
def curG:List Pn->Int × Int
 |[]=>(-1,0)
 |p::l=>if p.sel=true/\p.row≠-1 then (p.rect.top+p.row,p.rect.left+p.col) else curG l
def echoR (s:List UInt8):List UInt8:=s.takeWhile fun c=>c≠10
def drawG (f:Fr):List (List Ce) :=
 let g:=f.bars.foldl barG (f.panes.foldl paneG (List.replicate f.height.toNat (List.replicate f.width.toNat ⟨32,0,0,false,false,false⟩)))
 putG g (f.height-1).toNat 0 (strG f.width.toNat ⟨0,0,false,false,false⟩ ⟨(echoR f.echo.data.toList).toArray⟩)
def drawC (f:Fr):Int × Int:=if f.ecol≠-1 then (f.height-1,f.ecol) else curG f.panes
-- the answer: frE f if that is not 0; 5 if some row of drawG f is not valid (wholeB of lib/Rows39); else drawG f with drawC f
end Go.Proofs.YtfpckllenkifkaaGreatDoor
namespace Go.Ax
variable {P : Program} {H X : AHeap} {f : FuncId} {args : List Value}
theorem Rn.dropM (w:WF P H) (m:Mod [] H X):Rn id H X H where
 low:=fun _ _=>rfl
 next:=zA8 _
 base:=rfl
 dirty:=fun _ h=>h
 dirt1:=fun n h=>by
  rcases m.dirty n h with h|h
  ·exact h
  ·simp at h
 get:=fun n o2 h=>.inl ⟨(w.dom n o2 h).1,h,by rw[m.get n (w.dom n o2 h).1 (by simp),h]⟩
 keep:=fun n _ h=>.inl h
 inj:=fun m n _ _ h=>h
 ro:=fun n _=>⟨.inl,fun _=>rfl⟩
theorem CallS.dropM {v:Value} (h:CallS P f args H (.ok v) X) (m:Mod [] H X) (hv:scb H.next v=true):CallS P f args H (.ok v) H:=by
 refine CallS.rn (σ:=id) (H1:=X) ?_ (fun w=>Rn.dropM w m) hv
 rw[rnV_id hv]; exact h
theorem Fin.mod {v v1:Value} (he:v1=v) (m:Mod [] H X) (hv:scb H.next v=true):Fin P f args H v H (.ok v1) X:=fun h=>by
 rw[he]at h
 exact h.dropM m hv
end Go.Ax
namespace Go.Ax
def RdAt (H:AHeap) (sz:Nat) (v:Value) (vs:List Value) (cnt:Nat):Prop :=
 vs.length=cnt*sz/\((cnt=0/\∃ a c,v=.slice a 0 c)\/(0<cnt/\∃ n off s c e o M,v=.slice (some ⟨n,off,s⟩) cnt c/\rk H n=some ⟨e,o,M⟩/\n<H.next/\off+cnt*sz<=M.length/\(M.drop off).take (cnt*sz)=vs))
section
variable {P : Program} {H G : AHeap} {sz cnt : Nat} {v : Value} {vs : List Value}
theorem RdAt.sl (h:RdAt H sz v vs cnt):∃ a c,v=.slice a cnt c:=by
 obtain⟨_,⟨rfl,a,c,rfl⟩|⟨_,n,off,s,c,e,o,M,rfl,_⟩⟩:=h
 ·exact⟨_,_,rfl⟩
 ·exact⟨_,_,rfl⟩
theorem RdAt.nil {a:Option Addr} {c:Nat}:RdAt H sz (.slice a 0 c) [] 0:=⟨by simp,.inl ⟨rfl,_,_,rfl⟩⟩
def rdF (v:Value) (cnt:Nat):List Nat:=if cnt=0 then [] else idsV v
theorem RdAt.of (h:RdAt H sz v vs cnt) (hn:H.next<=G.next) (hg:∀ n∈rdF v cnt,G.get n=H.get n):RdAt G sz v vs cnt:=by
 obtain⟨h1,h|⟨h0,n,off,s,c,e,o,M,rfl,h2,h3,h4⟩⟩:=h
 ·exact⟨h1,.inl h⟩
 ·exact⟨h1,.inr ⟨h0,n,off,s,c,e,o,M,rfl,(rk_get (hg n (by rw[rdF,if_neg (by omega)]; simp[idsV]))).trans h2,by omega,h4⟩⟩
theorem RdAt.ne (h:RdAt H sz v vs cnt):∀ n∈rdF v cnt,H.get n≠none/\n<H.next:=by
 obtain⟨h1,⟨rfl,a,c,rfl⟩|⟨h0,n,off,s,c,e,o,M,rfl,h2,h3,h4⟩⟩:=h
 ·intro n hn; simp[rdF]at hn
 ·intro m hm
  rw[rdF,if_neg (by omega)]at hm
  simp only[idsV,zB4]at hm
  subst hm
  exact⟨rk_ne h2,h3⟩
theorem RdAt.mod0 (h:RdAt H sz v vs cnt) (m:Mod [] H G):RdAt G sz v vs cnt:=h.of m.next fun n hn=>m.get n (h.ne n hn).2 (by simp)
theorem VsAt.rd {e:TypeId} (h:VsAt H e sz v vs cnt):RdAt H sz v vs cnt:=by
 obtain⟨h1,h2,⟨rfl,rfl⟩|⟨h0,n,rfl,hb,hlt⟩⟩:=h
 ·exact⟨h1,.inl ⟨rfl,_,_,rfl⟩⟩
 ·exact⟨h1,.inr ⟨h0,n,0,none,cnt,e,true,vs,rfl,rk_of hb,hlt,by omega,by rw[zC7,List.take_of_length_le (by omega)]⟩⟩
theorem SlAt.rd (h:SlAt H sz v vs cnt):RdAt H sz v vs cnt:=by
 obtain⟨h1,a,c,rfl,h0|⟨n,e,rfl,hn,hb,hc⟩⟩:=h
 ·subst h0; exact⟨h1,.inl ⟨rfl,_,_,rfl⟩⟩
 ·by_cases h0:cnt=0
  ·subst h0; exact⟨h1,.inl ⟨rfl,_,_,rfl⟩⟩
  ·exact⟨h1,.inr ⟨by omega,n,0,some 0,c,e,true,vs,rfl,hb,hn,by omega,by rw[zC7,List.take_of_length_le (by omega)]⟩⟩
theorem RdAt.at_ (h:RdAt H sz v vs cnt) {i:Nat} (hi:i<cnt):∃ n off s c e o M,v=.slice (some ⟨n,off,s⟩) cnt c/\n<H.next/\rk H n=some ⟨e,o,M⟩/\off+i*sz+sz<=M.length/\(M.drop (off+i*sz)).take sz=(vs.drop (i*sz)).take sz:=by
 obtain⟨h1,⟨rfl,_⟩|⟨h0,n,off,s,c,e,o,M,rfl,h2,h3,h4,h5⟩⟩:=h
 ·omega
 have hm:i*sz+sz<=cnt*sz:=by rw[<-Nat.succ_mul]; exact Nat.mul_le_mul_right _ hi
 refine⟨n,off,s,c,e,o,M,rfl,h3,h2,by omega,?_⟩
 rw[<-h5,List.drop_take,List.drop_drop,List.take_take,Nat.min_eq_left (by omega)]
theorem ia_of {t e:TypeId} {k:IntKind} {i n off len cap:Nat} {s:Option Nat} (hu:P.underlying t=some (.slice e)) (hs:szOf P e=some sz) (hi:i<len) :
  aIndexAddr P t (.slice (some ⟨n,off,s⟩) len cap) (.int k (i:Int))=some (.pointer (some ⟨n,off+i*sz,none⟩)):=by
 simp only[aIndexAddr,hu,hs,zA1,zA3,Int.toNat_natCast]
 rw[if_pos ⟨by omega,by omega⟩]
theorem wd_appV {N:Nat} {E:Env} {ds:List Deferred} {ops:Array Oper} {anc:List Nat} {rest:List Oper} {d i:Nat} {fps:List Fp} {ty:TypeId} {pos:String} {after:Array Edge} {Q:AAct->AHeap->Prop} {args:List Operand} {st xt e:TypeId} {by1 n off cnt2 cap:Nat} {s:Option Nat} {z:Value} {b:Bl} {ws:List Value}
  (hu:P.underlying st=some (.slice e)) (hsz:szOf P e=some sz) (hby:bytesOf P e=some by1) (hz:zeroOf P e=some z) (hzl:z.cells.toList.length=sz) (hi:intTy P xt=some false)
  (ha:args.all (opOk P N)=true) (hargs:args.map (opv E)=[v,.slice (some ⟨n,off,s⟩) cnt2 cap]) (hd:d<N)
  (h:VsAt H e sz v vs cnt) (hb:rk H n=some b) (hn:n<H.next) (hle:off+cnt2*sz<=b.l.length) (hws:(b.l.drop off).take (cnt2*sz)=ws) (hone:ws.all one=true) (hc:0<cnt2) (hsm:small (cnt+cnt2) by1=true) (hsc:scbL H.next (vs++ws)=true) (hok:H.base<=H.next)
  (hm:∀ r∈fps,(anc.getD i 0).testBit r.i=true\/(r.hi<=r.lo/\(∀ k∈r.W,k∉n::idsV v)/\(∀ k∈r.F,k∉idsV v)))
  (hk:∀ Z D,VsAt Z e sz (.slice (some ⟨H.next,0,none⟩) (cnt+cnt2) (cnt+cnt2)) (vs++ws) (cnt+cnt2)->Mod (idsV v) H Z->(∀ k∈D,k∈idsV v)->Z.next=H.next+1 ->
   wkD P ops anc rest (i+1) (⟨i,n::idsV v,D,H.next,H.next+1⟩::fps) (mkA N (upd E d (.slice (some ⟨H.next,0,none⟩) (cnt+cnt2) (cnt+cnt2))) ds) Z Q) :
  wkD P ops anc (⟨some d,.call ⟨.builtin .append,⟨args⟩,⟨[st,xt]⟩⟩,ty,pos,after,none⟩::rest) i fps (mkA N E ds) H Q:=by
 rw[wd_app ha]
 have hF:∀ k∈n::idsV v,H.get k≠none/\k<H.next:=fun k hk=>by
  rcases zB1.1 hk with rfl|hk
  ·exact⟨rk_ne hb,hn⟩
  ·exact h.ne k hk
 have hrn:=restrict_next H (n::idsV v)
 have hv:=h.of (G:=H.restrict (n::idsV v)) (Nat.le_of_eq hrn.1.symm) (fun k hk=>by rw[restrict_get,if_pos (by simp[hk])])
 obtain⟨G,k1,k2,k3,k4,k5⟩:=vs_app (x:=H.next) (cap:=cap) hu hsz hby hz hzl hi hv (show rk (H.restrict (n::idsV v)) n=some b from (rk_get (by rw[restrict_get,if_pos (by simp)])).trans hb) hle hws hone hc hsm hrn.1 (by rw[hrn.1]; exact hsc)
 refine genV_modO (H:=H) (W:=idsV v) (n::idsV v) hok (fun k hk=>(hF k hk).1) (fun k hk=>(hF k hk).2) (fun k hk=>by simp[hk]) (app_op (v:=_) (G:=G) ha (by rw[hargs]; exact k1)) (k3 (by rw[hrn.1,hrn.2.1]; exact zA8 _)) hm fun Z D mZ hFZ hNZ hnZ hDZ=>?_
 rw[k4]at hnZ hNZ
 rw[k4]
 have:=hk Z D ?_ mZ hDZ hnZ
 ·simp only[put_some N E ds d _ hd]
  exact this
 ·obtain⟨j1,j2,⟨j0,_⟩|⟨j0,q,j3,j4,j5⟩⟩:=k2
  ·omega
  ·cases j3
   exact⟨j1,j2,.inr ⟨j0,H.next,rfl,(bk_get (hNZ _ (zA8 _) (by omega))).trans j4,by omega⟩⟩
end
section
variable {P : Program}
theorem vs_appR {H:AHeap} {st e:TypeId} {sz by1 cnt c2:Nat} {z v u:Value} {vs ws:List Value} (hu:P.underlying st=some (.slice e)) (hsz:szOf P e=some sz) (hby:bytesOf P e=some by1) (hz:zeroOf P e=some z) (hzl:z.cells.toList.length=sz) (hi:intTy P st=some false)
  (h:VsAt H e sz v vs cnt) (hr:RdAt H sz u ws c2) (hok:H.base<=H.next) (hone:ws.all one=true) (hsc:scbL H.next (vs++ws)=true) (hsm:small (cnt+c2) by1=true) :
  ∃ v' G,aBuiltin P H .append ⟨[st,st]⟩ [v,u]=some (v',G)/\VsAt G e sz v' (vs++ws) (cnt+c2)/\Mod (idsV v) H G/\∀ n∈idsV v',n∈idsV v\/H.next<=n:=by
 obtain⟨h1,⟨rfl,a,c,rfl⟩|⟨h0,n,off,s,c,e',o,M,rfl,hk,hn,hle,hM⟩⟩:=hr
 ·have hws:ws=[]:=zD4 (by omega)
  subst hws
  have hfi:firstC H sz 0 (.slice a 0 c)=some []:=by cases a<;>simp[firstC]
  rw[zE2,zD3]
  obtain⟨q1,q2,⟨rfl,rfl⟩|⟨h0,n,rfl,hb,hlt⟩⟩:=id h
  ·exact⟨_,H,app_nn hu hsz hby hz hzl hi rfl hfi,h,Mod.refl,fun n hn=>.inl hn⟩
  ·have hw:=write_old (H:=H) (L:=[]) (n:=n) (off:=0+cnt*sz) (vs:=[]) hlt hb (by simp only[zD7]; omega) rfl rfl
   have ha:=app_in (P:=P) (H:=H) (st:=st) (xt:=st) (m:=n) (off:=0) (k:=cnt) (cap:=cnt) (sp:=none) (x:=.slice a 0 c) hu hsz hby hz hzl hi rfl hfi (by simp) (by omega) hsm
   rw[show aWrite H n (0+cnt*sz) []=aWrite (ext H []) n (0+cnt*sz) [] from rfl,hw,zA5]at ha
   refine⟨_,_,ha,?_,Mod.uw (by simp[idsV]),fun q hq=>.inl hq⟩
   refine⟨q1,q2,.inr ⟨h0,n,rfl,?_,by rw[ext_next,uw_next]; simpa using hlt⟩⟩
   show bk (uw H n (0+cnt*sz) []) n=_
   rw[bk_uw_eq,hb]
   have putnil:∀ (l:List Value) (k:Nat),putL l k []=l:=fun l=>by
    induction l with
    |nil=>intro k; cases k<;>rfl
    |cons x l ih=>intro k; cases k with
     |zero=>rfl
     |succ k=>exact congrArg (x::·) (ih k)
   simp[putB,putnil]
 ·obtain⟨G,ga,gb,gc,gd,ge⟩:=vs_app (P:=P) (H:=H) (st:=st) (xt:=st) (n:=n) (off:=off) (cnt2:=c2) (cap:=c) (s:=s) (x:=H.next) (ws:=ws) hu hsz hby hz hzl hi h hk hle hM hone h0 hsm rfl hsc
  exact⟨_,G,ga,gb,gc hok,fun q hq=>.inr (by simp only[idsV,zB4]at hq; omega)⟩
theorem sl_openH {t e:TypeId} {sz n off len cap h:Nat} {hi:Option Value} {b:Bl} {H:AHeap} (hu:P.underlying t=some (.slice e)) (hsz:szOf P e=some sz) (hh:bound len hi=some h) (h1:h<=cap) (hb:bk H n=some b) (ho:b.o=true) :
  aSlice P H t (.slice (some ⟨n,off,none⟩) len cap) none hi none=some (.slice (some ⟨n,off,none⟩) h cap,H):=by
 simp only[aSlice,hu,hsz,aSlice2,show bound 0 none=some 0 from rfl,hh,zA1,zA3,exactAt,isOpen_bk hb,ho,zA5,Bool.not_true]
 rw[if_pos ⟨h1,zA9 _⟩]
 simp
theorem vs_cut {H:AHeap} {t e:TypeId} {sz cnt k:Nat} {v:Value} {vs:List Value} (hu:P.underlying t=some (.slice e)) (hsz:szOf P e=some sz) (h:VsAt H e sz v vs cnt) (hk:k<=cnt) :
  ∃ a c,(∀ G:AHeap,(∀ m∈idsV v,G.get m=H.get m)->aSlice P G t v none (some (.int .i64 (k:Int))) none=some (.slice a k c,G))/\RdAt H sz (.slice a k c) (vs.take (k*sz)) k/\∀ n∈idsV (.slice a k c),n∈idsV v:=by
 obtain⟨h1,h2,⟨rfl,rfl⟩|⟨h0,n,rfl,hb,hlt⟩⟩:=h
 ·obtain rfl:k=0:=by omega
  refine⟨none,0,fun G _=>sl_nil hu hsz,?_,fun n hn=>by simp[idsV]at hn⟩
  rw[Nat.zero_mul,List.take_zero]
  exact RdAt.nil
 ·have hkm:k*sz<=cnt*sz:=Nat.mul_le_mul_right _ hk
  refine⟨some ⟨n,0,none⟩,cnt,fun G hG=>sl_openH hu hsz (by simp[bound]) hk ((bk_get (hG n (by simp[idsV]))).trans hb) rfl,⟨by rw[zE3]; omega,?_⟩,fun m hm=>hm⟩
  by_cases hk0:k=0
  ·subst hk0
   exact .inl ⟨rfl,_,_,rfl⟩
  ·exact .inr ⟨by omega,n,0,none,cnt,e,true,vs,rfl,rk_of hb,hlt,by omega,by rw[zC7]⟩
end
section
variable {P : Program} {H : AHeap} {N : Nat} {E : Env} {ds : List Deferred} {ops : Array Oper} {rest : List Oper} {ty : TypeId} {pos : String} {after : Array Edge} {d i : Nat} {fps : List Fp} {anc : List Nat} {Q : AAct -> AHeap -> Prop}
theorem genV_cutR {t:TypeId} {x:Operand} {lo hi mx:Option Operand} {v:Value} (F:List Nat) (hx:opOk P N x=true) (h1:bndsOk P N lo=true) (h2:bndsOk P N hi=true) (h3:bndsOk P N mx=true) (hd:d<N) (hF:∀ n∈F,H.get n≠none)
  (hc:∀ G:AHeap,(∀ n∈F,G.get n=H.get n)->aSlice P G t (opv E x) (bnds E lo) (bnds E hi) (bnds E mx)=some (v,G)) (hm:∀ r∈fps,Meets (anc.getD i 0) F [] (idsV v++([]:List Bl).flatMap fun x=>idsL x.l) r)
  (h:wkD P ops anc rest (i+1) (⟨i,F,[],H.next,H.next⟩::fps) (mkA N (upd E d v) ds) (ext H []) Q):genV P ops anc ⟨some d,.slice t x lo hi mx,ty,pos,after,none⟩ rest i fps (mkA N E ds) H Q :=
 genV_extO (v:=v) (M:=[]) F rfl hd hF (fun G _ h4=>opS_of (x:=.value v) (g:=G) (slice_aop hx h1 h2 h3 (hc G h4)) ⟨rfl,rfl⟩) hm h
end
end Go.Ax
namespace Go.Proofs.YtfpckllenkifkaaGreatDoor
open Go.Ax
theorem SlAt.rdF {H:AHeap} {sz cnt:Nat} {v:Value} {vs:List Value} (h:SlAt H sz v vs cnt):RdAt H sz v vs cnt:=_root_.Go.Ax.SlAt.rd h
def ItR {α:Type} (H:AHeap) (sz:Nat) (R:List Value->α->Prop) (u:Value) (l:List α):Prop :=
 ∃ vs,RdAt H sz u vs l.length/\∀ (i:Nat) (a:α),l[i]?=some a->R ((vs.drop (i*sz)).take sz) a
structure RwR (H:AHeap) (cv pv:Value) (r:Rw):Prop where
 cells:RdAt H 6 cv (csOf r.cells) r.cells.length
 pos:RdAt H 1 pv (r.pos.map (Value.int .i64)) r.pos.length
 sc:scb H.next cv=true
 sp:scb H.next pv=true
def rwL (cv pv:Value) (r:Rw):List Value:=[cv,pv,.int .i64 r.frm,.int .i64 r.til,.bool r.cont]
def pnL (rv:Value) (p:Pn):List Value:=[.int .i64 p.rect.id,.int .i64 p.rect.top,.int .i64 p.rect.left,.int .i64 p.rect.height,.int .i64 p.rect.width,rv,.int .i64 p.row,.int .i64 p.col,.string p.mode,.int .i64 p.fore,.int .i64 p.back,.bool p.bold,.bool p.under,.bool p.inv,.bool p.sel]
def rcL (r:Rc):List Value:=[.int .i64 r.id,.int .i64 r.top,.int .i64 r.left,.int .i64 r.height,.int .i64 r.width]
def frL (pv bv:Value) (f:Fr):List Value:=[.int .i64 f.height,.int .i64 f.width,pv,bv,.string f.echo,.int .i64 f.ecol]
def RwC (H:AHeap) (cs:List Value) (r:Rw):Prop:=∃ cv pv,cs=rwL cv pv r/\RwR H cv pv r
def CutR (H:AHeap) (rv:Value) (rows:List Rw):Prop:=∀ k,k<=rows.length->∃ a c,(∀ G:AHeap,(∀ n∈idsV rv,G.get n=H.get n)->aSlice Tryz.prog G 39 rv none (some (.int .i64 (k:Int))) none=some (.slice a k c,G))/\ItR H 5 (RwC H) (.slice a k c) (rows.take k)/\∀ n∈idsV (.slice a k c),n∈idsV rv
structure RowsR (q:Bool) (H:AHeap) (rv:Value) (rows:List Rw):Prop where
 it:ItR H 5 (RwC H) rv rows
 sc:scb H.next rv=true
 cut:q=true->CutR H rv rows
def PnC (q:Bool) (H:AHeap) (cs:List Value) (p:Pn):Prop:=∃ rv,cs=pnL rv p/\RowsR q H rv p.rows
structure FrR (q:Bool) (H:AHeap) (pv bv:Value) (f:Fr):Prop where
 panes:ItR H 15 (PnC q H) pv f.panes
 bars:ItR H 5 (fun cs r=>cs=rcL r) bv f.bars
 sp:scb H.next pv=true
 sb:scb H.next bv=true
section
variable {H G : AHeap}
theorem ItR.mono {α:Type} {sz:Nat} {R R':List Value->α->Prop} {u:Value} {l:List α} (h:ItR H sz R u l) (m:Mod [] H G) (hR:∀ cs a,R cs a->R' cs a):ItR G sz R' u l:=by
 obtain⟨vs,h1,h2⟩:=h
 exact⟨vs,h1.mod0 m,fun i a hi=>hR _ _ (h2 i a hi)⟩
theorem RwC.mod0 (m:Mod [] H G) {cs:List Value} {r:Rw} (h:RwC H cs r):RwC G cs r:=by
 obtain⟨cv,pv,e,h⟩:=h
 exact⟨cv,pv,e,h.cells.mod0 m,h.pos.mod0 m,scb_mono m.next _ h.sc,scb_mono m.next _ h.sp⟩
theorem CutR.mod0 (m:Mod [] H G) {rv:Value} {rows:List Rw} (hs:scb H.next rv=true) (h:CutR H rv rows):CutR G rv rows:=fun k hk=>by
 obtain⟨a,c,h1,h2,h3⟩:=h k hk
 exact⟨a,c,fun X hX=>h1 X fun n hn=>(hX n hn).trans (m.get n (ids_of_scb _ hs n hn) (by simp)),h2.mono m fun _ _=>RwC.mod0 m,h3⟩
theorem RowsR.mod0 {q:Bool} (m:Mod [] H G) {rv:Value} {rows:List Rw} (h:RowsR q H rv rows):RowsR q G rv rows:=⟨h.it.mono m fun _ _=>RwC.mod0 m,scb_mono m.next _ h.sc,fun e=>(h.cut e).mod0 m h.sc⟩
theorem PnC.mod0 {q:Bool} (m:Mod [] H G) {cs:List Value} {p:Pn} (h:PnC q H cs p):PnC q G cs p:=by
 obtain⟨rv,e,h⟩:=h
 exact⟨rv,e,h.mod0 m⟩
theorem FrR.mod0 {q:Bool} (m:Mod [] H G) {pv bv:Value} {f:Fr} (h:FrR q H pv bv f):FrR q G pv bv f :=
 ⟨h.panes.mono m fun _ _=>PnC.mod0 m,h.bars.mono m fun _ _ h=>h,scb_mono m.next _ h.sp,scb_mono m.next _ h.sb⟩
theorem ItR.sl {α:Type} {sz:Nat} {R:List Value->α->Prop} {u:Value} {l:List α} (h:ItR H sz R u l):∃ a c,u=.slice a l.length c:=by
 obtain⟨vs,h1,_⟩:=h
 exact h1.sl
theorem ItR.one {α:Type} {sz:Nat} {R:List Value->α->Prop} {u:Value} {l:List α} (h:ItR H sz R u l) {i:Nat} {a:α} (hi:l[i]?=some a):∃ n off s c e o M cs,u=.slice (some ⟨n,off,s⟩) l.length c/\n<H.next/\rk H n=some ⟨e,o,M⟩/\off+i*sz+sz<=M.length/\(M.drop (off+i*sz)).take sz=cs/\R cs a:=by
 obtain⟨vs,h1,h2⟩:=h
 obtain⟨n,off,s,c,e,o,M,e1,e2,e3,e4,e5⟩:=h1.at_ (List.getElem?_eq_some_iff.1 hi).1
 exact⟨n,off,s,c,e,o,M,_,e1,e2,e3,e4,e5,h2 i a hi⟩
structure TabX (H:AHeap):Prop where
 tab:Tab H
 lt:2<=H.next
theorem TabX.mod (t:TabX H) {W:List Nat} (m:Mod W H G) (h0:0∉W) (h1:1∉W):TabX G:=⟨t.tab.of (m.get 0 (by have:=t.lt; omega) h0) (m.get 1 (by have:=t.lt; omega) h1),zB8 t.lt m.next⟩
theorem TabX.mod0 (t:TabX H) (m:Mod [] H G):TabX G:=t.mod m (by simp) (by simp)
theorem RdAt.row {v:Value} {l:List Ce} (h:RdAt H 6 v (csOf l) l.length):RowAt H v l:=by
 obtain⟨h1,⟨h0,a,c,rfl⟩|⟨h0,n,off,s,c,e,o,M,rfl,hr,hn,hle,hM⟩⟩:=h
 ·exact .inl ⟨zD4 h0,a,c,rfl⟩
 ·exact .inr ⟨fun e=>by rw[e]at h0; simp at h0,n,off,s,c,e,o,M,rfl,hr,hn,hle,hM⟩
end
theorem inside_c (H:AHeap) (f:Fr) (r:Rc) (a b:Option Addr) (n m c d:Nat) (hh:f.height<=200) (hw:f.width<=1000):Pure 38 [.agg ⟨frL (.slice a n c) (.slice b m d) f⟩,.agg ⟨rcL r⟩] H (.bool (insR f.height f.width r)):=by
 obtain⟨x,hx⟩:=Go.Ax.exq H.next
 refine callS_fn mixed Tryz.func38 rfl Tryz.ntmps38 (zB2 rfl) fun wf hsc=>?_
 have hbase:H.base<=x:=hx▸wf.base
 rw[scbL_iff]at hsc
 have hs0:=hsc _ (zB9 ..)
 rw[hx]at hs0
 have hs1:scb x (.slice a n c)=true/\scb x (.slice b m d)=true:=by
  have h':(true&&(true&&(scb x (.slice a n c)&&(scb x (.slice b m d)&&(true&&(true&&true))))))=true:=hs0
  simp only[zA4]at h'
  exact⟨h'.2.2.1,h'.2.2.2.1⟩
 obtain⟨sa,sb⟩:=hs1
 unfold frL rcL
 obtain⟨d1,h1⟩:∃ q,decide (0<=r.top)=q:=⟨_,rfl⟩
 obtain⟨d2,h2⟩:∃ q,decide (0<=r.left)=q:=⟨_,rfl⟩
 obtain⟨d3,h3⟩:∃ q,decide (1<=r.height)=q:=⟨_,rfl⟩
 obtain⟨d4,h4⟩:∃ q,decide (1<=r.width)=q:=⟨_,rfl⟩
 obtain⟨d5,h5⟩:∃ q,decide (r.top<f.height)=q:=⟨_,rfl⟩
 obtain⟨d6,h6⟩:∃ q,decide (r.left<f.width)=q:=⟨_,rfl⟩
 obtain⟨d7,h7⟩:∃ q,decide (r.height<=f.height-1-r.top)=q:=⟨_,rfl⟩
 obtain⟨d8,h8⟩:∃ q,decide (r.width<=f.width-r.left)=q:=⟨_,rfl⟩
 have hins:insR f.height f.width r=(d1&&d2&&d3&&d4&&d5&&d6&&d7&&d8):=by unfold insR; rw[h1,h2,h3,h4,h5,h6,h7,h8]
 rw[hins]
 cases d1
 ·simp only[hx,sa,sb,h1,Tryz.results38,ruW,xF,ruU,entryE,Nat.reduceLT,Nat.reduceAdd,Nat.reduceEqDiff]
  exact Fin.pureE rfl rfl
 cases d2
 ·simp only[hx,sa,sb,h1,h2,Tryz.results38,ruW,xF,ruU,entryE,Nat.reduceLT,Nat.reduceAdd,Nat.reduceEqDiff]
  exact Fin.pureE rfl rfl
 cases d3
 ·simp only[hx,sa,sb,h1,h2,h3,Tryz.results38,ruW,xF,ruU,entryE,Nat.reduceLT,Nat.reduceAdd,Nat.reduceEqDiff]
  exact Fin.pureE rfl rfl
 cases d4
 ·simp only[hx,sa,sb,h1,h2,h3,h4,Tryz.results38,ruW,xF,ruU,entryE,Nat.reduceLT,Nat.reduceAdd,Nat.reduceEqDiff]
  exact Fin.pureE rfl rfl
 cases d5
 ·simp only[hx,sa,sb,h1,h2,h3,h4,h5,Tryz.results38,ruW,xF,ruU,entryE,Nat.reduceLT,Nat.reduceAdd,Nat.reduceEqDiff]
  exact Fin.pureE rfl rfl
 cases d6
 ·simp only[hx,sa,sb,h1,h2,h3,h4,h5,h6,Tryz.results38,ruW,xF,ruU,entryE,Nat.reduceLT,Nat.reduceAdd,Nat.reduceEqDiff]
  exact Fin.pureE rfl rfl
 have w1:IntKind.i64.wrap (f.height-1)=f.height-1:=by have:=of_decide_eq_true h1; have:=of_decide_eq_true h5; exact wrap_sm (by omega) (by omega)
 have w2:IntKind.i64.wrap (f.height-1-r.top)=f.height-1-r.top:=by have:=of_decide_eq_true h1; have:=of_decide_eq_true h5; exact wrap_sm (by omega) (by omega)
 have w3:IntKind.i64.wrap (f.width-r.left)=f.width-r.left:=by have:=of_decide_eq_true h2; have:=of_decide_eq_true h6; exact wrap_sm (by omega) (by omega)
 cases d7
 ·simp only[hx,sa,sb,h1,h2,h3,h4,h5,h6,h7,w1,w2,Tryz.results38,ruW,xF,ruU,entryE,Nat.reduceLT,Nat.reduceAdd,Nat.reduceEqDiff]
  exact Fin.pureE rfl rfl
 cases d8
 ·simp only[hx,sa,sb,h1,h2,h3,h4,h5,h6,h7,h8,w1,w2,w3,Tryz.results38,ruW,xF,ruU,entryE,Nat.reduceLT,Nat.reduceAdd,Nat.reduceEqDiff]
  exact Fin.pureE rfl rfl
 ·simp only[hx,sa,sb,h1,h2,h3,h4,h5,h6,h7,h8,w1,w2,w3,Tryz.results38,ruW,xF,ruU,entryE,Nat.reduceLT,Nat.reduceAdd,Nat.reduceEqDiff]
  exact Fin.pureE rfl rfl
def rcOk (r:Rc):Prop:=(0<=r.top/\r.top<=1000)/\(0<=r.left/\r.left<=1000)/\(0<=r.height/\r.height<=1000)/\0<=r.width/\r.width<=1000
theorem ins_ok {h w:Int} {r:Rc} (hh:h<=200) (hw:w<=1000) (hi:insR h w r=true):rcOk r:=by
 unfold insR at hi
 simp only[zA4,decide_eq_true_eq]at hi
 unfold rcOk
 omega
theorem meets1_c (H:AHeap) (p r:Rc) (k:Nat) (hp:rcOk p) (hr:rcOk r) (hk:bk H k=some ⟨38,false,rcL p⟩) (hlt:k<H.next):Pure 69 [.agg ⟨rcL r⟩,.pointer (some ⟨k,0,none⟩)] H (.bool (meetR p r)):=by
 obtain⟨x,hx⟩:=Go.Ax.exq H.next
 rw[hx]at hlt
 refine callS_fn mixed Tryz.func69 rfl Tryz.ntmps69 (zB2 rfl) fun wf hsc=>?_
 unfold rcOk at hp hr
 unfold rcL at hk ⊢
 have w1:IntKind.i64.wrap (r.top+r.height)=r.top+r.height:=wrap_sm (by omega) (by omega)
 have w2:IntKind.i64.wrap (p.top+p.height)=p.top+p.height:=wrap_sm (by omega) (by omega)
 have w3:IntKind.i64.wrap (r.left+r.width)=r.left+r.width:=wrap_sm (by omega) (by omega)
 have w4:IntKind.i64.wrap (p.left+p.width)=p.left+p.width:=wrap_sm (by omega) (by omega)
 obtain⟨d1,h1⟩:∃ q,decide (p.top<r.top+r.height)=q:=⟨_,rfl⟩
 obtain⟨d2,h2⟩:∃ q,decide (r.top<p.top+p.height)=q:=⟨_,rfl⟩
 obtain⟨d3,h3⟩:∃ q,decide (p.left<r.left+r.width)=q:=⟨_,rfl⟩
 obtain⟨d4,h4⟩:∃ q,decide (r.left<p.left+p.width)=q:=⟨_,rfl⟩
 have hm:meetR p r=(d1&&d2&&d3&&d4):=by unfold meetR; rw[h1,h2,h3,h4]
 rw[hm]
 cases d1
 ·simp only[hx,hk,hlt,w1,h1,qk_old,Tryz.results69,ruW,xF,ruU,entryE,Nat.reduceLT,Nat.reduceAdd,Nat.reduceEqDiff]
  exact Fin.pureE rfl rfl
 cases d2
 ·simp only[hx,hk,hlt,w1,w2,h1,h2,qk_old,Tryz.results69,ruW,xF,ruU,entryE,Nat.reduceLT,Nat.reduceAdd,Nat.reduceEqDiff]
  exact Fin.pureE rfl rfl
 cases d3
 ·simp only[hx,hk,hlt,w1,w2,w3,h1,h2,h3,qk_old,Tryz.results69,ruW,xF,ruU,entryE,Nat.reduceLT,Nat.reduceAdd,Nat.reduceEqDiff]
  exact Fin.pureE rfl rfl
 simp only[hx,hk,hlt,w1,w2,w3,w4,h1,h2,h3,h4,qk_old,Tryz.results69,ruW,xF,ruU,entryE,Nat.reduceLT,Nat.reduceAdd,Nat.reduceEqDiff]
 exact Fin.pureE rfl rfl
section
variable {α : Type}
def idxB (p:α->Bool) (l:List α):Int:=match l.findIdx? p with
 |some i=>(i:Int)
 |none=>-1
theorem idxB_at {p:α->Bool} {l:List α} {i:Nat} {a:α} (h:l[i]?=some a) (hx:p a=true) (hb:∀ k b,k<i->l[k]?=some b->p b=false):idxB p l=(i:Int):=by
 obtain⟨hi,ha⟩:=List.getElem?_eq_some_iff.1 h
 have:l.findIdx? p=some i:=by
  rw[List.findIdx?_eq_some_iff_getElem]
  exact⟨hi,by rw[ha]; exact hx,fun j hj=>by rw[hb j _ hj (zA7 (by omega))]; simp⟩
 rw[idxB,this]
theorem idxB_not {p:α->Bool} {l:List α} (hb:∀ k b,k<l.length->l[k]?=some b->p b=false):idxB p l=-1:=by
 have:l.findIdx? p=none:=by
  rw[List.findIdx?_eq_none_iff]
  intro x hx
  obtain⟨k,hk,e⟩:=List.mem_iff_getElem.1 hx
  exact hb k x hk (by rw[zA7 hk,e])
 rw[idxB,this]
theorem idxB_any (p:α->Bool) (l:List α):decide (0<=idxB p l)=l.any p:=by
 unfold idxB
 cases h:l.findIdx? p with
 |none =>
  rw[List.findIdx?_eq_none_iff]at h
  have:l.any p=false:=by
   rw[List.any_eq_false]
   exact fun x hx=>by rw[h x hx]; simp
  rw[this]; rfl
 |some i =>
  obtain⟨h1,h2,_⟩:=List.findIdx?_eq_some_iff_getElem.1 h
  rw[List.any_eq_true.2 ⟨_,List.getElem_mem h1,h2⟩]
  exact decide_eq_true (by simp only; omega)
end
theorem indexRect_c {α:Type} {R:List Value->α->Prop} (H:AHeap) (v:Value) (l:List α) (g:FuncId) (ca:List Value) (p:α->Bool) (hv:ItR H 5 R v l) (hl:l.length<=1000000) (hbd:hasBody Tryz.prog g=true) (hg:∀ cs a,R cs a->a∈l->Pure g (.agg ⟨cs⟩::ca) H (.bool (p a))) :
  Pure 68 [v,.func (.func g) ⟨[]⟩ ⟨ca⟩] H (.int .i64 (idxB p l)):=by
 obtain⟨b,hb⟩:=Go.Ax.exq H.next
 obtain⟨a0,c0,e0⟩:=hv.sl
 refine callS_fn mixed Tryz.func68 rfl Tryz.ntmps68 (zB2 rfl) fun wf hsc=>?_
 rw[e0]
 simp only[ruW,xF,ruU,entryE,Nat.reduceLT,Nat.reduceAdd,Nat.reduceEqDiff]
 refine w_env fun E hE=>?_
 have g0:E 0=v:=by rw[hE,e0]; simp only[ruU,Nat.reduceEqDiff]
 have g1:E 1=.func (.func g) ⟨[]⟩ ⟨ca⟩:=by rw[hE]; rfl
 have g7:E 7=.int .i64 (l.length:Int):=by rw[hE]; rfl
 have g8:E 8=.int .i64 ((0:Nat):Int):=by rw[hE]; rfl
 clear hE
 refine w_loop (fun (j:Nat) E' H'=>H'=ext H []/\j<=l.length/\(∀ k b,k<j->l[k]?=some b->p b=false)/\E' 0=v/\E' 1=.func (.func g) ⟨[]⟩ ⟨ca⟩/\E' 7=.int .i64 (l.length:Int)/\E' 8=.int .i64 (j:Int)) (fun j=>l.length-j) 0 ⟨rfl,zA9 _,fun k _ hk=>absurd hk (by omega),g0,g1,g7,g8⟩ ?_
 clear g0 g1 g7 g8 E
 rintro j E H' ⟨hH,hj,hall,g0,g1,g7,g8⟩
 rw[hH]
 by_cases hje:j=l.length
 ·have hd:decide ((j:Int)<(l.length:Int))=false:=decide_eq_false (by omega)
  simp only[g7,g8,hd,Tryz.results68,ruW,ruU,Nat.reduceLT]
  rw[idxB_not fun k b hk=>hall k b (by omega)]
  exact Fin.pureE rfl rfl
 ·have hjl:j<l.length:=by omega
  have hd:decide ((j:Int)<(l.length:Int))=true:=decide_eq_true (by omega)
  obtain⟨x,hx⟩:∃ x,l[j]?=some x:=⟨_,zA7 hjl⟩
  obtain⟨n,off,s,c,e,o,M,cs,e1,n1,r1,hle,hM,hR⟩:=hv.one hx
  rw[e1]at g0
  have us:Tryz.prog.underlying 23=some (.slice 38):=by kernel_rfl
  have ss:szOf Tryz.prog 38=some 5:=by kernel_rfl
  have ag:aggT Tryz.prog 38=some true:=by kernel_rfl
  have i1:=ia_of (P:=Tryz.prog) (k:=.i64) (i:=j) (n:=n) (off:=off) (len:=l.length) (cap:=c) (s:=s) us ss hjl
  have l1:ldB Tryz.prog 38 (off+j*5) (some ⟨e,o,M⟩)=some (.agg ⟨cs⟩):=by
   rw[ld_agg ag,ss,zA3,if_pos (by omega),hM]
  rw[hb]at n1
  have hwj:IntKind.i64.wrap ((j:Int)+1)=((j+1:Nat):Int):=wrap_succ (by omega)
  simp only[g0,g1,g7,g8,hb,hd,i1,n1,r1,l1,qk_old,ruW,ruU,Nat.reduceLT,Nat.reduceEqDiff]
  refine w_callV (f:=g) (ca:=ca) rfl rfl rfl hbd ?_
  have hgj:=hg cs x hR (zC2 hx)
  obtain⟨d,hdd⟩:=Go.Ax.exq (p x)
  rw[hdd]at hgj
  simp only[ruU]
  refine CallS.to (show Pure g (.agg ⟨cs⟩::ca) (ext H []) _ from hgj) ?_
  cases d with
  |true =>
   simp only[Tryz.results68,ruW,ruU,Nat.reduceLT,Nat.reduceEqDiff]
   rw[idxB_at hx hdd fun k b hk=>hall k b (by omega)]
   exact Fin.pureE rfl rfl
  |false =>
   simp only[g8,hwj,ruW,ruU,Nat.reduceLT,Nat.reduceEqDiff]
   refine loopC_next ⟨j+1,by omega,rfl,by omega,fun k b hk hkj=>?_,?_,?_,?_,?_⟩
   ·by_cases hkk:k=j
    ·subst hkk
     rw[hx]at hkj
     cases hkj
     exact hdd
    ·exact hall k b (by omega) hkj
   ·rw[e1]; simp only[g0,ruU,Nat.reduceEqDiff]
   ·exact g1
   ·exact g7
   ·rfl
theorem containsRect_c {α:Type} {R:List Value->α->Prop} (H:AHeap) (v:Value) (l:List α) (g:FuncId) (ca:List Value) (p:α->Bool) (hv:ItR H 5 R v l) (hl:l.length<=1000000) (hbd:hasBody Tryz.prog g=true) (hg:∀ cs a,R cs a->a∈l->Pure g (.agg ⟨cs⟩::ca) H (.bool (p a))) :
  Pure 36 [v,.func (.func g) ⟨[]⟩ ⟨ca⟩] H (.bool (l.any p)):=by
 obtain⟨a0,c0,e0⟩:=hv.sl
 have hc:=indexRect_c H v l g ca p hv hl hbd hg
 refine callS_fn mixed Tryz.func36 rfl Tryz.ntmps36 (zB2 rfl) fun wf hsc=>?_
 rw[e0]at hc ⊢
 simp only[ruW,xF,ruU,entryE,Nat.reduceLT,Nat.reduceAdd,Nat.reduceEqDiff]
 refine CallS.to (show Pure 68 _ (ext H []) _ from hc) ?_
 rw[<-idxB_any]
 simp only[Tryz.results36,ruW,ruU,Nat.reduceLT]
 exact Fin.pureE rfl rfl
theorem indexRow_c {α:Type} {R:List Value->α->Prop} (H:AHeap) (v:Value) (l:List α) (g:FuncId) (ca:List Value) (p:α->Bool) (hv:ItR H 5 R v l) (hl:l.length<=1000000) (hbd:hasBody Tryz.prog g=true) (hg:∀ cs a,R cs a->a∈l->Pure g (.agg ⟨cs⟩::ca) H (.bool (p a))) :
  Pure 81 [v,.func (.func g) ⟨[]⟩ ⟨ca⟩] H (.int .i64 (idxB p l)):=by
 obtain⟨b,hb⟩:=Go.Ax.exq H.next
 obtain⟨a0,c0,e0⟩:=hv.sl
 refine callS_fn mixed Tryz.func81 rfl Tryz.ntmps81 (zB2 rfl) fun wf hsc=>?_
 rw[e0]
 simp only[ruW,xF,ruU,entryE,Nat.reduceLT,Nat.reduceAdd,Nat.reduceEqDiff]
 refine w_env fun E hE=>?_
 have g0:E 0=v:=by rw[hE,e0]; simp only[ruU,Nat.reduceEqDiff]
 have g1:E 1=.func (.func g) ⟨[]⟩ ⟨ca⟩:=by rw[hE]; rfl
 have g7:E 7=.int .i64 (l.length:Int):=by rw[hE]; rfl
 have g8:E 8=.int .i64 ((0:Nat):Int):=by rw[hE]; rfl
 clear hE
 refine w_loop (fun (j:Nat) E' H'=>H'=ext H []/\j<=l.length/\(∀ k b,k<j->l[k]?=some b->p b=false)/\E' 0=v/\E' 1=.func (.func g) ⟨[]⟩ ⟨ca⟩/\E' 7=.int .i64 (l.length:Int)/\E' 8=.int .i64 (j:Int)) (fun j=>l.length-j) 0 ⟨rfl,zA9 _,fun k _ hk=>absurd hk (by omega),g0,g1,g7,g8⟩ ?_
 clear g0 g1 g7 g8 E
 rintro j E H' ⟨hH,hj,hall,g0,g1,g7,g8⟩
 rw[hH]
 by_cases hje:j=l.length
 ·have hd:decide ((j:Int)<(l.length:Int))=false:=decide_eq_false (by omega)
  simp only[g7,g8,hd,Tryz.results81,ruW,ruU,Nat.reduceLT]
  rw[idxB_not fun k b hk=>hall k b (by omega)]
  exact Fin.pureE rfl rfl
 ·have hjl:j<l.length:=by omega
  have hd:decide ((j:Int)<(l.length:Int))=true:=decide_eq_true (by omega)
  obtain⟨x,hx⟩:∃ x,l[j]?=some x:=⟨_,zA7 hjl⟩
  obtain⟨n,off,s,c,e,o,M,cs,e1,n1,r1,hle,hM,hR⟩:=hv.one hx
  rw[e1]at g0
  have us:Tryz.prog.underlying 39=some (.slice 55):=by kernel_rfl
  have ss:szOf Tryz.prog 55=some 5:=by kernel_rfl
  have ag:aggT Tryz.prog 55=some true:=by kernel_rfl
  have i1:=ia_of (P:=Tryz.prog) (k:=.i64) (i:=j) (n:=n) (off:=off) (len:=l.length) (cap:=c) (s:=s) us ss hjl
  have l1:ldB Tryz.prog 55 (off+j*5) (some ⟨e,o,M⟩)=some (.agg ⟨cs⟩):=by
   rw[ld_agg ag,ss,zA3,if_pos (by omega),hM]
  rw[hb]at n1
  have hwj:IntKind.i64.wrap ((j:Int)+1)=((j+1:Nat):Int):=wrap_succ (by omega)
  simp only[g0,g1,g7,g8,hb,hd,i1,n1,r1,l1,qk_old,ruW,ruU,Nat.reduceLT,Nat.reduceEqDiff]
  refine w_callV (f:=g) (ca:=ca) rfl rfl rfl hbd ?_
  have hgj:=hg cs x hR (zC2 hx)
  obtain⟨d,hdd⟩:=Go.Ax.exq (p x)
  rw[hdd]at hgj
  simp only[ruU]
  refine CallS.to (show Pure g (.agg ⟨cs⟩::ca) (ext H []) _ from hgj) ?_
  cases d with
  |true =>
   simp only[Tryz.results81,ruW,ruU,Nat.reduceLT,Nat.reduceEqDiff]
   rw[idxB_at hx hdd fun k b hk=>hall k b (by omega)]
   exact Fin.pureE rfl rfl
  |false =>
   simp only[g8,hwj,ruW,ruU,Nat.reduceLT,Nat.reduceEqDiff]
   refine loopC_next ⟨j+1,by omega,rfl,by omega,fun k b hk hkj=>?_,?_,?_,?_,?_⟩
   ·by_cases hkk:k=j
    ·subst hkk
     rw[hx]at hkj
     cases hkj
     exact hdd
    ·exact hall k b (by omega) hkj
   ·rw[e1]; simp only[g0,ruU,Nat.reduceEqDiff]
   ·exact g1
   ·exact g7
   ·rfl
theorem containsRow_c {α:Type} {R:List Value->α->Prop} (H:AHeap) (v:Value) (l:List α) (g:FuncId) (ca:List Value) (p:α->Bool) (hv:ItR H 5 R v l) (hl:l.length<=1000000) (hbd:hasBody Tryz.prog g=true) (hg:∀ cs a,R cs a->a∈l->Pure g (.agg ⟨cs⟩::ca) H (.bool (p a))) :
  Pure 67 [v,.func (.func g) ⟨[]⟩ ⟨ca⟩] H (.bool (l.any p)):=by
 obtain⟨a0,c0,e0⟩:=hv.sl
 have hc:=indexRow_c H v l g ca p hv hl hbd hg
 refine callS_fn mixed Tryz.func67 rfl Tryz.ntmps67 (zB2 rfl) fun wf hsc=>?_
 rw[e0]at hc ⊢
 simp only[ruW,xF,ruU,entryE,Nat.reduceLT,Nat.reduceAdd,Nat.reduceEqDiff]
 refine CallS.to (show Pure 81 _ (ext H []) _ from hc) ?_
 rw[<-idxB_any]
 simp only[Tryz.results67,ruW,ruU,Nat.reduceLT]
 exact Fin.pureE rfl rfl
theorem valid1_c (H:AHeap) (f:Fr) (r:Rc) (a b:Option Addr) (n m c d k:Nat) (hh:f.height<=200) (hw:f.width<=1000) (hk:bk H k=some ⟨25,false,frL (.slice a n c) (.slice b m d) f⟩) (hlt:k<H.next) :
  Pure 37 [.agg ⟨rcL r⟩,.pointer (some ⟨k,0,none⟩)] H (.bool (!insR f.height f.width r)):=by
 obtain⟨x,hx⟩:=Go.Ax.exq H.next
 rw[hx]at hlt
 refine callS_fn mixed Tryz.func37 rfl Tryz.ntmps37 (zB2 rfl) fun wf hsc=>?_
 have hi:=fun G=>inside_c G f r a b n m c d hh hw
 unfold rcL frL at hi
 unfold rcL
 unfold frL at hk
 simp only[hx,hlt,hk,qk_old,ruW,Nat.reduceLeDiff,xF,ruU,entryE,Nat.reduceLT,Nat.reduceAdd,Nat.reduceEqDiff]
 refine (hi (ext H _)).to ?_
 simp only[Tryz.results37,ruW,ruU,Nat.reduceLT]
 exact Fin.pureE rfl rfl
theorem checked1_c (H:AHeap) (r:Rc) (w:Rw) (cs:List Value) (k:Nat) (hw:RwC H cs w) (hk:bk H k=some ⟨38,false,rcL r⟩) (hlt:k<H.next) :
  Pure 66 [.agg ⟨cs⟩,.pointer (some ⟨k,0,none⟩)] H (.bool (decide ((w.cells.length:Int)≠r.width))):=by
 obtain⟨x,hx⟩:=Go.Ax.exq H.next
 rw[hx]at hlt
 obtain⟨cv,pv,rfl,hc,hp,sc,sp⟩:=hw
 obtain⟨a1,c1,e1⟩:=hc.sl
 obtain⟨a2,c2,e2⟩:=hp.sl
 subst e1 e2
 rw[hx]at sc sp
 refine callS_fn mixed Tryz.func66 rfl Tryz.ntmps66 (zB2 rfl) fun wf hsc=>?_
 unfold rwL
 unfold rcL at hk
 obtain⟨d,hd⟩:=Go.Ax.exq (decide (¬(w.cells.length:Int)=r.width))
 rw[show decide ((w.cells.length:Int)≠r.width)=d from hd]
 simp only[hx,hlt,hk,sc,sp,hd,qk_old,Tryz.results66,ruW,xF,ruU,entryE,Nat.reduceLT,Nat.reduceAdd,Nat.reduceEqDiff]
 exact Fin.pureE rfl rfl
theorem checked_c (H:AHeap) (t:TabX H) (f:Fr) (p:Pn) (a b:Option Addr) (n m c d:Nat) (rv:Value) (hh:f.height<=200) (hw:f.width<=1000) (hr:RowsR true H rv p.rows) (hrl:p.rows.length<=1000000) (hms:p.mode.size<=1000000) :
  Pure 35 [.agg ⟨frL (.slice a n c) (.slice b m d) f⟩,.agg ⟨pnL rv p⟩] H (.int .i64 (pnE f.height f.width p)):=by
 obtain⟨x,hx⟩:=Go.Ax.exq H.next
 obtain⟨ra,rc,er⟩:=hr.it.sl
 refine callS_fn mixed Tryz.func35 rfl Tryz.ntmps35 (zB2 rfl) fun wf hsc=>?_
 have hok:=wf.base
 have hbase:H.base<=x:=hx▸hok
 rw[scbL_iff]at hsc
 have hs0:=hsc _ (zB9 ..)
 rw[hx]at hs0
 have hs1:scb x (.slice a n c)=true/\scb x (.slice b m d)=true:=by
  have h':(true&&(true&&(scb x (.slice a n c)&&(scb x (.slice b m d)&&(true&&(true&&true))))))=true:=hs0
  simp only[zA4]at h'
  exact⟨h'.2.2.1,h'.2.2.2.1⟩
 obtain⟨sa,sb⟩:=hs1
 have sr:=hr.sc
 rw[hx,er]at sr
 obtain⟨G,hG⟩:=Go.Ax.exq (ext H [⟨25,false,frL (.slice a n c) (.slice b m d) f⟩,⟨43,false,pnL rv p⟩,⟨38,false,rcL p.rect⟩])
 have mG:Mod [] H G:=hG▸Mod.ext hok
 have nG:G.next=x+3:=by rw[<-hG,ext_next,hx]; rfl
 have k1:bk G (x+1)=some ⟨43,false,pnL rv p⟩:=by rw[<-hG,bk_at hx (by simp)]; rfl
 have k2:bk G (x+2)=some ⟨38,false,rcL p.rect⟩:=by rw[<-hG,bk_at hx (by simp)]; rfl
 have j1:x+1<x+3:=by omega
 have j2:x+2<x+3:=by omega
 have gb:G.base<=x+3:=nG▸mG.ok hok
 have hin:=inside_c G f p.rect a b n m c d hh hw
 have hva:=valid_c G (t.mod0 mG).tab p.mode (by omega)
 have hco:=coloured_c G p.look
 rw[er]at k1 hG
 unfold frL pnL rcL at hG
 unfold frL at hin
 unfold pnL at k1
 unfold rcL at k2 hin
 rw[er]
 unfold frL pnL
 obtain⟨d1,h1⟩:∃ q,insR f.height f.width p.rect=q:=⟨_,rfl⟩
 obtain⟨d2,h2⟩:∃ q,decide (p.row < -1)=q:=⟨_,rfl⟩
 obtain⟨d3,h3⟩:∃ q,decide (p.rect.height-2<p.row)=q:=⟨_,rfl⟩
 obtain⟨d4,h4⟩:∃ q,decide (¬p.row=-1)=q:=⟨_,rfl⟩
 obtain⟨d5,h5⟩:∃ q,decide (p.col<0)=q:=⟨_,rfl⟩
 obtain⟨d6,h6⟩:∃ q,decide (p.rect.width<=p.col)=q:=⟨_,rfl⟩
 rw[h1]at hin
 simp only[hx,hbase,sa,sb,sr,ruW,putL,Nat.reduceLeDiff,xF,ruU,entryE,Nat.reduceLT,Nat.reduceAdd,Nat.reduceEqDiff]
 rw[hG]
 refine hin.to ?_
 have w1:d1=true->IntKind.i64.wrap (p.rect.height-2)=p.rect.height-2/\IntKind.i64.wrap (p.rect.height-1)=p.rect.height-1:=fun e=>by
  have:=ins_ok hh hw (h1.trans e)
  unfold rcOk at this
  exact⟨wrap_sm (by omega) (by omega),wrap_sm (by omega) (by omega)⟩
 have bad:(d1=false\/d2=true\/d3=true\/d4=true/\(d5=true\/d6=true))->pnE f.height f.width p=3:=fun hb=>by
  unfold pnE
  rw[if_pos]
  rcases hb with e|e|e|⟨e4,e⟩
  ·exact .inl (h1.trans e)
  ·exact .inr (.inl (of_decide_eq_true (h2.trans e)))
  ·exact .inr (.inr (.inl (of_decide_eq_true (h3.trans e))))
  ·refine .inr (.inr (.inr ⟨of_decide_eq_true (h4.trans e4),?_⟩))
   rcases e with e|e
   ·exact .inl (of_decide_eq_true (h5.trans e))
   ·exact .inr (of_decide_eq_true (h6.trans e))
 rw[show G=ext G [] from rfl]
 cases d1 with
 |false =>
  rw[bad (.inl rfl)]
  simp only[Tryz.results35,ruW,ruU,Nat.reduceLT,Nat.reduceEqDiff]
  exact Ax.Fin.mod rfl mG rfl
 |true =>
 obtain⟨w2,w3⟩:=w1 rfl
 cases d2 with
 |true =>
  rw[bad (.inr (.inl rfl))]
  simp only[nG,j1,k1,h2,Tryz.results35,qk_old,ruW,xF,ruU,Nat.reduceLT,Nat.reduceAdd,Nat.reduceEqDiff]
  exact Ax.Fin.mod rfl mG rfl
 |false =>
 cases d3 with
 |true =>
  rw[bad (.inr (.inr (.inl rfl)))]
  simp only[nG,j1,j2,k1,k2,h2,h3,w2,Tryz.results35,qk_old,ruW,xF,ruU,Nat.reduceLT,Nat.reduceAdd,Nat.reduceEqDiff]
  exact Ax.Fin.mod rfl mG rfl
 |false =>
 by_cases hbad:d4=true/\(d5=true\/d6=true)
 ·rw[bad (.inr (.inr (.inr hbad)))]
  obtain⟨rfl,h56⟩:=hbad
  cases d5 with
  |true =>
   simp only[nG,j1,j2,k1,k2,h2,h3,h4,h5,w2,Tryz.results35,qk_old,ruW,xF,ruU,Nat.reduceLT,Nat.reduceAdd,Nat.reduceEqDiff]
   exact Ax.Fin.mod rfl mG rfl
  |false =>
   obtain rfl:d6=true:=by simpa using h56
   simp only[nG,j1,j2,k1,k2,h2,h3,h4,h5,h6,w2,Tryz.results35,qk_old,ruW,xF,ruU,Nat.reduceLT,Nat.reduceAdd,Nat.reduceEqDiff]
   exact Ax.Fin.mod rfl mG rfl
 have hgood:¬(insR f.height f.width p.rect=false\/p.row < -1\/p.rect.height-2<p.row\/(p.row≠-1/\(p.col<0\/p.rect.width<=p.col))):=by
  rintro (e|e|e|⟨e4,e⟩)
  ·rw[h1]at e; cases e
  ·exact of_decide_eq_false h2 e
  ·exact of_decide_eq_false h3 e
  ·refine hbad ⟨by rw[<-h4]; exact decide_eq_true e4,?_⟩
   rcases e with e|e
   ·exact .inl (by rw[<-h5]; exact decide_eq_true e)
   ·exact .inr (by rw[<-h6]; exact decide_eq_true e)
 have hpn:pnE f.height f.width p=if ((p.rows.take (p.rect.height-1).toNat).any fun x=>decide ((x.cells.length:Int)≠p.rect.width))=true\/ptsR p.mode.data.toList=none\/colr p.look=false then 5 else 0:=by
  unfold pnE
  rw[if_neg hgood]
 rw[hpn]
 obtain⟨K,hK⟩:=Go.Ax.exq (min p.rows.length (p.rect.height-1).toNat)
 have hrc:=ins_ok hh hw h1
 unfold rcOk at hrc
 have hht:1<=p.rect.height:=by
  have:=h1
  unfold insR at this
  simp only[zA4,decide_eq_true_eq]at this
  omega
 have hKi:min (p.rows.length:Int) (p.rect.height-1)=(K:Int):=by omega
 have htk:p.rows.take (p.rect.height-1).toNat=p.rows.take K:=by
  rw[<-hK,List.take_eq_take_iff]
  omega
 rw[htk]
 obtain⟨ka,kc,hcut,hit,hids⟩:=hr.cut rfl K (by omega)
 have hKl:(p.rows.take K).length=K:=by rw[zE3]; omega
 have hcutG:=hcut G fun n hn=>mG.get n (ids_of_scb _ hr.sc n hn) (by simp)
 rw[er]at hcutG
 have hitG:=hit.mono mG fun _ _=>RwC.mod0 mG
 have hcon:=containsRow_c G (.slice ka K kc) (p.rows.take K) 66 [.pointer (some ⟨x+2,0,none⟩)] (fun w=>decide ((w.cells.length:Int)≠p.rect.width)) hitG (by omega) (by kernel_rfl) (fun cs w hR _=>checked1_c G p.rect w cs (x+2) hR (by unfold rcL; exact k2) (by omega))
 obtain⟨e1,he1⟩:∃ q,((p.rows.take K).any fun w=>decide ((w.cells.length:Int)≠p.rect.width))=q:=⟨_,rfl⟩
 rw[he1]at hcon ⊢
 rw[valid_pts _ _ (zA8 _)]at hva
 obtain⟨e2,he2⟩:∃ q,(ptsR p.mode.data.toList).isSome=q:=⟨_,rfl⟩
 obtain⟨e3,he3⟩:∃ q,colr p.look=q:=⟨_,rfl⟩
 rw[he2]at hva
 rw[he3]at hco ⊢
 unfold Pn.look Lk.val at hco
 have hcutG':aSlice Tryz.prog (ext G []) 39 (.slice ra p.rows.length rc) none (some (.int .i64 (K:Int))) none=some (.slice ka K kc,ext G []):=hcutG
 have hd46:d4=false\/(d4=true/\d5=false/\d6=false):=by
  cases d4<;>cases d5<;>cases d6<;>simp at hbad ⊢
 have hnone:e2=false->ptsR p.mode.data.toList=none:=fun e=>by
  rw[e]at he2
  cases hq:ptsR p.mode.data.toList with
  |none=>rfl
  |some q=>rw[hq]at he2; cases he2
 have hsome:e2=true->¬ptsR p.mode.data.toList=none:=fun e hq=>by
  rw[hq,e]at he2
  cases he2
 rcases hd46 with rfl|⟨rfl,rfl,rfl⟩
 all_goals
  simp only[nG,j1,j2,k1,k2,h2,h3,h4,h5,h6,w2,w3,hKi,hcutG',qk_old,ruW,xF,ruU,Nat.reduceLT,Nat.reduceAdd,Nat.reduceEqDiff]
  refine CallS.to (show Pure 67 _ (ext G []) _ from hcon) ?_
  cases e1 with
  |true =>
   rw[if_pos (.inl rfl)]
   simp only[Tryz.results35,ruW,ruU,Nat.reduceLT,Nat.reduceEqDiff]
   exact Ax.Fin.mod rfl mG rfl
  |false =>
  simp only[nG,j1,k1,qk_old,ruW,xF,ruU,Nat.reduceLT,Nat.reduceAdd,Nat.reduceEqDiff]
  refine CallS.to (show Pure 27 _ (ext G []) _ from hva) ?_
  cases e2 with
  |false =>
   rw[if_pos (.inr (.inl (hnone rfl)))]
   simp only[Tryz.results35,ruW,ruU,Nat.reduceLT,Nat.reduceEqDiff]
   exact Ax.Fin.mod rfl mG rfl
  |true =>
  simp only[nG,j1,k1,qk_old,ruW,Nat.reduceLeDiff,xF,ruU,Nat.reduceLT,Nat.reduceAdd,Nat.reduceEqDiff]
  refine CallS.to (show Pure 43 _ (ext G []) _ from hco) ?_
  cases e3 with
  |false =>
   rw[if_pos (.inr (.inr rfl))]
   simp only[Tryz.results35,ruW,ruU,Nat.reduceLT,Nat.reduceEqDiff]
   exact Ax.Fin.mod rfl mG rfl
  |true =>
   rw[if_neg (fun h=>by rcases h with h|h|h; cases h; exact hsome rfl h; cases h)]
   simp only[Tryz.results35,ruW,ruU,Nat.reduceLT,Nat.reduceEqDiff]
   exact Ax.Fin.mod rfl mG rfl
structure FrBd (f:Fr):Prop where
 panes:f.panes.length<=12
 bars:f.bars.length<=12
 echo:f.echo.size<=300
 rows:∀ p∈f.panes,p.rows.length<=30/\p.mode.size<=300/\∀ r∈p.rows,r.cells.length<=60
def rcsL (rs:List Rc):List Value:=rs.flatMap rcL
theorem rcsL_app (a b:List Rc):rcsL (a++b)=rcsL a++rcsL b:=by simp[rcsL]
theorem rcsL_len (rs:List Rc):(rcsL rs).length=rs.length*5:=by
 induction rs with
 |nil=>rfl
 |cons r l ih=>simp only[rcsL,zE1,zC8,zB0]at ih ⊢; rw[ih]; simp only[rcL,zB0,zD7]; omega
theorem rcsL_take (rs:List Rc):∀ j,(rcsL rs).take (j*5)=rcsL (rs.take j):=by
 induction rs with
 |nil=>intro j; simp[rcsL]
 |cons r l ih =>
  intro j
  cases j with
  |zero=>simp[rcsL]
  |succ j =>
   rw[show (j+1)*5=5+j*5 by omega]
   simp only[rcsL,zE1,List.take_succ_cons]at ih ⊢
   rw[List.take_append,List.take_of_length_le (by simp[rcL]),<-ih j]
   simp only[rcL,zB0,zD7]
   rw[show 5+j*5-(0+1+1+1+1+1)=j*5 by omega]
theorem rcsL_one (rs:List Rc):(rcsL rs).all one=true:=by
 induction rs with
 |nil=>rfl
 |cons r l ih=>simp only[rcsL,zE1,List.all_append]at ih ⊢; rw[ih]; rfl
theorem rcsL_sc (N:Nat) (rs:List Rc):scbL N (rcsL rs)=true:=by
 induction rs with
 |nil=>rfl
 |cons r l ih=>rw[rcsL,zE1]; exact scbL_append rfl ih
theorem rcsL_at:∀ {rs:List Rc} {i:Nat} {r:Rc},rs[i]?=some r->((rcsL rs).drop (i*5)).take 5=rcL r
 |y::l,0,r,h=>by
  simp only[zC5,Option.some.injEq]at h
  subst h
  rfl
 |y::l,i+1,r,h=>by
  rw[zD0]at h
  rw[show (i+1)*5=5+i*5 by omega,rcsL,zE1,List.drop_append,List.drop_eq_nil_of_le (by simp[rcL])]
  simp only[rcL,zB0,zD7,zD5]
  rw[show 5+i*5-(0+1+1+1+1+1)=i*5 by omega]
  exact rcsL_at h
theorem rcs_items {H:AHeap} {v:Value} {rs:List Rc} (h:RdAt H 5 v (rcsL rs) rs.length):ItR H 5 (fun cs r=>cs=rcL r) v rs:=⟨_,h,fun i r hi=>rcsL_at hi⟩
theorem items_rcs {H:AHeap} {v:Value} {rs:List Rc} (h:ItR H 5 (fun cs r=>cs=rcL r) v rs):RdAt H 5 v (rcsL rs) rs.length:=by
 obtain⟨vs,h1,h2⟩:=h
 have:vs=rcsL rs:=by
  apply List.ext_getElem?
  intro k
  have hl:=h1.1
  rcases zB6 k (rs.length*5) with hk|hk
  ·have hi:k / 5<rs.length:=by omega
   have e1:=h2 (k / 5) _ (zA7 hi)
   have e2:=rcsL_at (zA7 hi)
   have e3:=congrArg (fun l=>l[k % 5]?) (e1.trans e2.symm)
   simp only[List.getElem?_take,List.getElem?_drop]at e3
   have hm:k % 5<5:=Nat.mod_lt _ (by decide)
   rw[if_pos hm,if_pos hm,show k / 5*5+k % 5=k by omega]at e3
   exact e3
  ·rw[zC6 (by omega),zC6 (by rw[rcsL_len]; omega)]
 subst this
 exact h1
theorem pnsE_cons {h w:Int} (q:Pn) (ps:List Pn) (hq:pnE h w q=0):pnsE h w (q::ps)=pnsE h w ps:=by
 rw[pnsE,if_neg (fun h=>h hq)]
theorem pnsE_head {h w:Int} {q:Pn} {ps:List Pn} (h0:pnsE h w (q::ps)=0):pnE h w q=0:=by
 rw[pnsE]at h0
 exact Decidable.byContradiction fun hq=>hq (by rw[if_pos hq]at h0; exact h0)
theorem pnsE_take {h w:Int} (ps:List Pn):∀ (j:Nat) (p:Pn),ps[j]?=some p->pnsE h w (ps.take j)=0->pnE h w p≠0->pnsE h w ps=pnE h w p:=by
 induction ps with
 |nil=>intro j p hj; simp at hj
 |cons q ps ih =>
  intro j p hj h0 hp
  cases j with
  |zero =>
   simp only[zC5,Option.some.injEq]at hj
   subst hj
   rw[pnsE,if_pos hp]
  |succ j =>
   rw[zD0]at hj
   rw[List.take_succ_cons]at h0
   have hq:=pnsE_head h0
   rw[pnsE_cons _ _ hq]at h0
   rw[pnsE_cons _ _ hq]
   exact ih j p hj h0 hp
theorem pnsE_snoc {h w:Int}:∀ {ps:List Pn} {p:Pn},pnsE h w ps=0->pnE h w p=0->pnsE h w (ps++[p])=0
 |[],p,_,hp=>by rw[zD5,pnsE_cons _ _ hp]; rfl
 |q::ps,p,h0,hp=>by
  have hq:=pnsE_head h0
  rw[pnsE_cons _ _ hq]at h0
  rw[List.cons_append,pnsE_cons _ _ hq]
  exact pnsE_snoc h0 hp
theorem pnE_ins {h w:Int} {p:Pn} (h0:pnE h w p=0):insR h w p.rect=true:=by
 cases hi:insR h w p.rect with
 |true=>rfl
 |false =>
  unfold pnE at h0
  rw[if_pos (.inl hi)]at h0
  cases h0
theorem pnsE_ok {h w:Int} (ps:List Pn):pnsE h w ps=0->∀ p∈ps,insR h w p.rect=true:=by
 induction ps with
 |nil=>intro _ p hp; cases hp
 |cons q ps ih =>
  intro h0 p hp
  have hq:=pnsE_head h0
  rw[pnsE_cons _ _ hq]at h0
  rcases zB1.1 hp with rfl|hp
  ·exact pnE_ins hq
  ·exact ih h0 p hp
theorem meetR_comm (a b:Rc):meetR a b=meetR b a:=by
 unfold meetR
 cases decide (a.top<b.top+b.height)<;>cases decide (b.top<a.top+a.height)<;>cases decide (a.left<b.left+b.width)<;>cases decide (b.left<a.left+a.width)<;>rfl
theorem pairsR_snoc:∀ (l:List Rc) (r:Rc),pairsR (l++[r])=(pairsR l||l.any (meetR r))
 |[],r=>by simp[pairsR]
 |a::l,r=>by
  rw[List.cons_append,pairsR,pairsR,pairsR_snoc l r,List.any_append,List.any_cons,List.any_cons,List.any_nil,meetR_comm r a]
  cases l.any (meetR a)<;>cases meetR a r<;>cases pairsR l<;>cases l.any (meetR r)<;>rfl
theorem pairsR_take {l:List Rc}:∀ {i:Nat},i<=l.length->pairsR (l.take i)=true->pairsR l=true:=fun {i} _ h=>by
 have:∀ (n:Nat) (a b:List Rc),b.length=n->pairsR a=true->pairsR (a++b)=true:=by
  intro n
  induction n with
  |zero =>
   intro a b hb ha
   rw[zD4 hb,zE2]
   exact ha
  |succ n ih =>
   intro a b hb ha
   match b,hb with
   |r::b,hb =>
    rw[show a++r::b=(a++[r])++b by simp]
    exact ih _ _ (by simpa using hb) (by rw[pairsR_snoc,ha]; rfl)
 have e:=List.take_append_drop i l
 rw[<-e]
 exact this _ _ _ rfl h
theorem meets_c (H:AHeap) (r:Rc) (b:Nat) (hb:H.next=b):CallS Tryz.prog 39 [.agg ⟨rcL r⟩] H (.ok (.func (.func 69) ⟨[]⟩ ⟨[.pointer (some ⟨b+0,0,none⟩)]⟩)) (ext H [⟨38,false,rcL r⟩]):=by
 refine callS_fn mixed Tryz.func39 rfl Tryz.ntmps39 (zB2 rfl) fun wf hsc=>?_
 unfold rcL
 simp only[hb,Tryz.results39,ruW,ruU,entryE,Nat.reduceLT,Nat.reduceEqDiff]
 exact Fin.same
theorem vs_mod0 {X Y:AHeap} (m:Mod [] X Y) {e:TypeId} {sz cnt:Nat} {v:Value} {vs:List Value} (h:VsAt X e sz v vs cnt):VsAt Y e sz v vs cnt:=h.of m.next fun n hn=>m.get n (h.ne n hn).2 (by simp)
theorem frValid_c (H:AHeap) (t:TabX H) (f:Fr) (pv bv:Value) (hf:FrR true H pv bv f) (bd:FrBd f):Pure 15 [.agg ⟨frL pv bv f⟩] H (.int .i64 (frE f)):=by
 refine callS_drop (fun wf hsc=>?_) (fun _ _=>rfl)
 obtain⟨x,hx⟩:=Go.Ax.exq H.next
 obtain⟨pa,pc,ep⟩:=hf.panes.sl
 obtain⟨ba,bc,eb⟩:=hf.bars.sl
 have hok:=wf.base
 have sp:=hf.sp
 have sb:=hf.sb
 rw[hx,ep]at sp
 rw[hx,eb]at sb
 refine callE_fn mixed Tryz.func15 rfl Tryz.ntmps15 (zB2 rfl) ?_
 rw[ep,eb]
 unfold frL
 obtain⟨c1,h1⟩:∃ q,decide (f.height<2)=q:=⟨_,rfl⟩
 obtain⟨c2,h2⟩:∃ q,decide (200<f.height)=q:=⟨_,rfl⟩
 obtain⟨c3,h3⟩:∃ q,decide (f.width<1)=q:=⟨_,rfl⟩
 obtain⟨c4,h4⟩:∃ q,decide (1000<f.width)=q:=⟨_,rfl⟩
 have bad:c1=true\/c2=true\/c3=true\/c4=true->frE f=3:=fun hb=>by
  unfold frE
  rw[if_pos]
  rcases hb with e|e|e|e
  ·exact .inl (of_decide_eq_true (h1.trans e))
  ·exact .inr (.inl (of_decide_eq_true (h2.trans e)))
  ·exact .inr (.inr (.inl (of_decide_eq_true (h3.trans e))))
  ·exact .inr (.inr (.inr (of_decide_eq_true (h4.trans e))))
 by_cases hbad:c1=true\/c2=true\/c3=true\/c4=true
 ·rw[bad hbad]
  have hcs:c1=true\/c1=false/\c2=true\/c1=false/\c2=false/\c3=true\/c1=false/\c2=false/\c3=false/\c4=true:=by
   cases c1<;>cases c2<;>cases c3<;>cases c4<;>simp at hbad ⊢
  rcases hcs with rfl|⟨rfl,rfl⟩|⟨rfl,rfl,rfl⟩|⟨rfl,rfl,rfl,rfl⟩
  all_goals
   simp only[hx,sp,sb,h1,h2,h3,h4,Tryz.results15,ruW,xF,ruU,entryE,Nat.reduceLT,Nat.reduceAdd,Nat.reduceEqDiff]
   exact⟨trivial,Mod.ext hok⟩
 obtain⟨rfl,rfl,rfl,rfl⟩:c1=false/\c2=false/\c3=false/\c4=false:=by
  cases c1<;>cases c2<;>cases c3<;>cases c4<;>simp at hbad ⊢
 have n1:=of_decide_eq_false h1
 have n2:=of_decide_eq_false h2
 have n3:=of_decide_eq_false h3
 have n4:=of_decide_eq_false h4
 have hh:f.height<=200:=by omega
 have hw:f.width<=1000:=by omega
 have hfrE:frE f=if pnsE f.height f.width f.panes≠0 then pnsE f.height f.width f.panes
   else if (f.bars.any fun r=>!insR f.height f.width r)=true then 3
   else if pairsR (f.panes.map Pn.rect++f.bars)=true then 9
   else if ptsR f.echo.data.toList=none then 5
   else if f.ecol < -1\/f.width<=f.ecol then 3 else 0:=by
  unfold frE
  rw[if_neg]
  omega
 rw[hfrE]
 generalize hcode:Code.seq (Code.region 12 _ _) _=code
 simp only[hx,sp,sb,h1,h2,h3,h4,ruW,xF,ruU,entryE,Nat.reduceLT,Nat.reduceAdd,Nat.reduceEqDiff]
 generalize hY:ext H _=Y
 have mY:Mod [] H Y:=hY▸Mod.ext hok
 have nY:Y.next=x+1:=by rw[<-hY,ext_next,hx]; rfl
 have kY:bk Y (x+0)=some ⟨25,false,frL (.slice pa f.panes.length pc) (.slice ba f.bars.length bc) f⟩:=by rw[<-hY,bk_at hx (by simp)]; rfl
 clear hY
 have okY:=mY.ok hok
 rw[show Y=ext Y [] from rfl]
 refine w_env fun E hE=>?_
 have g1:E 1=.pointer (some ⟨x+0,0,none⟩):=by rw[hE]; rfl
 have g3:E 3=.slice none 0 0:=by rw[hE]; rfl
 have g28:E 28=.slice pa f.panes.length pc:=by rw[hE]; rfl
 have g29:E 29=.int .i64 (f.panes.length:Int):=by rw[hE]; rfl
 have g30:E 30=.int .i64 ((0:Nat):Int):=by rw[hE]; rfl
 clear hE
 have u22:Tryz.prog.underlying 22=some (.slice 43):=by kernel_rfl
 have s55:szOf Tryz.prog 43=some 15:=by kernel_rfl
 have ag55':aggT Tryz.prog 43=some true:=by kernel_rfl
 have u23':Tryz.prog.underlying 23=some (.slice 38):=by kernel_rfl
 have s52:szOf Tryz.prog 38=some 5:=by kernel_rfl
 have by52:bytesOf Tryz.prog 38=some 40:=by kernel_rfl
 have z52:zeroOf Tryz.prog 38=some (.agg #[.int .i64 0,.int .i64 0,.int .i64 0,.int .i64 0,.int .i64 0]):=by kernel_rfl
 have i23:intTy Tryz.prog 23=some false:=by kernel_rfl
 refine w_loop (fun (j:Nat) E' X'=>j<=f.panes.length/\Mod [] Y X'/\(∃ av,VsAt X' 38 5 av (rcsL ((f.panes.take j).map Pn.rect)) j/\(∀ k∈idsV av,x+1<=k)/\E' 3=av)/\pnsE f.height f.width (f.panes.take j)=0/\E' 1=.pointer (some ⟨x+0,0,none⟩)/\E' 28=.slice pa f.panes.length pc/\E' 29=.int .i64 (f.panes.length:Int)/\E' 30=.int .i64 (j:Int)) (fun j=>f.panes.length-j) 0 ⟨zA9 _,Mod.refl,⟨_,VsAt.nil,fun k hk=>by simp[idsV]at hk,g3⟩,rfl,g1,g28,g29,g30⟩ ?_
 clear g1 g3 g28 g29 g30 E
 rintro j E X ⟨hj,mYX,⟨av,vX,lav,g3⟩,hz0,g1,g28,g29,g30⟩
 have mX:=mY.trans mYX
 have okX:=mX.ok hok
 obtain⟨y,hy⟩:=Go.Ax.exq X.next
 have yb:X.base<=y:=hy▸okX
 have lx:x+1<=y:=by have:=mYX.next; omega
 have kX:=(mYX.bk (by omega) (by simp)).trans kY
 have xy:x+0<y:=by omega
 obtain⟨av0,eav⟩:=vX.len
 rw[eav]at g3 vX lav
 clear eav
 by_cases hjl:j<f.panes.length
 ·have hd:decide ((j:Int)<(f.panes.length:Int))=true:=decide_eq_true (by omega)
  obtain⟨p,hp⟩:∃ p,f.panes[j]?=some p:=⟨_,zA7 hjl⟩
  have hpm:=zC2 hp
  obtain⟨b1,b2,b3⟩:=bd.rows p hpm
  obtain⟨n,off,s,c,e,o,M,cs,e1,n1r,r1,hle,hM,rv,rfl,hR⟩:=(hf.panes.mono mX fun _ _=>PnC.mod0 mX).one hp
  have e1':=ep.symm.trans e1
  simp only[Value.slice.injEq,true_and]at e1'
  obtain⟨rfl,rfl⟩:=e1'
  have i1:=ia_of (P:=Tryz.prog) (k:=.i64) (i:=j) (n:=n) (off:=off) (len:=f.panes.length) (cap:=pc) (s:=s) u22 s55 hjl
  have l1:ldB Tryz.prog 43 (off+j*15) (some ⟨e,o,M⟩)=some (.agg ⟨pnL rv p⟩):=by
   rw[ld_agg ag55',s55,zA3,if_pos (by omega),hM]
  obtain⟨ra,rc,er⟩:=hR.it.sl
  have sr:=hR.sc
  rw[hy,er]at sr
  rw[hy]at n1r
  rw[er]at l1
  obtain⟨Z,hZ⟩:=Go.Ax.exq (ext X [⟨43,false,pnL (.slice ra p.rows.length rc) p⟩])
  have mZ:Mod [] X Z:=hZ▸Mod.ext okX
  have nZ:Z.next=y+1:=by rw[<-hZ,ext_next,hy]; rfl
  have kZp:bk Z (y+0)=some ⟨43,false,pnL (.slice ra p.rows.length rc) p⟩:=by rw[<-hZ,bk_at hy (by simp)]; rfl
  have okZ:=mZ.ok okX
  have kZ:=(mZ.bk (by omega) (by simp)).trans kX
  have yz:y+0<y+1:=by omega
  have hck:=checked_c Z ((t.mod0 mX).mod0 mZ) f p (some ⟨n,off,s⟩) ba f.panes.length f.bars.length pc bc rv hh hw (hR.mod0 mZ) (by omega) (by omega)
  rw[er]at hck
  unfold frL at kX kZ hck
  unfold pnL at l1 hZ kZp hck
  obtain⟨ev,hev⟩:∃ q,pnE f.height f.width p=q:=⟨_,rfl⟩
  rw[hev]at hck
  obtain⟨d,hde⟩:=Go.Ax.exq (decide (¬ev=0))
  rw[show X=ext X [] from rfl]
  generalize hcode2:Code.region 10 _ _=code2
  simp only[g1,g28,g29,g30,hy,yb,hd,i1,n1r,r1,l1,sr,kX,xy,qk_old,ruW,putL,Nat.reduceLeDiff,xF,ruU,Nat.reduceLT,Nat.reduceAdd,Nat.reduceEqDiff]
  rw[hZ]
  refine hck.to ?_
  rw[show Z=ext Z [] from rfl]
  cases d with
  |true =>
   have hne:ev≠0:=of_decide_eq_true hde
   have he:=pnsE_take f.panes j p hp hz0 (by rw[hev]; exact hne)
   rw[hev]at he
   rw[he,if_pos hne]
   simp only[hde,Tryz.results15,ruW,ruU,Nat.reduceLT,Nat.reduceEqDiff]
   exact⟨trivial,show Mod [] H (ext Z []) from mX.trans mZ⟩
  |false =>
   have hev0:ev=0:=Decidable.byContradiction fun h=>of_decide_eq_false hde h
   subst hcode2
   obtain⟨A,eA⟩:=Go.Ax.exq (ext Z [⟨38,false,rcL p.rect⟩])
   have mA:Mod [] Z A:=eA▸Mod.ext okZ
   have nA:A.next=y+2:=by rw[<-eA,ext_next,nZ]; rfl
   have okA:=mA.ok okZ
   have kA:bk A (y+1)=some ⟨38,false,rcL p.rect⟩:=by rw[<-eA,show y+1=(y+1)+0 from rfl,bk_at nZ (by simp)]; rfl
   have vA:=vs_mod0 mA (vs_mod0 mZ vX)
   have rA:RdAt A 5 (.slice (some ⟨y+1,0,some 0⟩) 1 1) (rcL p.rect) 1:=⟨rfl,.inr ⟨by omega,y+1,0,some 0,1,38,false,rcL p.rect,rfl,rk_of kA,by omega,by simp[rcL],rfl⟩⟩
   have hsm:small (j+1) 40=true:=by have:=bd.panes; simp only[small,zA4,Nat.ble_eq]; omega
   obtain⟨v',G,ga,gv,gm,gi⟩:=vs_appR u23' s52 by52 z52 rfl i23 vA rA okA rfl (by rw[show rcL p.rect=rcsL [p.rect] from rfl,<-rcsL_app]; exact rcsL_sc _ _) hsm
   unfold rcL at eA
   simp only[g3,nZ,yz,kZp,hde,qk_old,ruW,Nat.reduceLeDiff,xF,ruU,Nat.reduceLT,Nat.reduceAdd,Nat.reduceEqDiff]
   rw[eA,ga]
   simp only[g30,ruW,ruU,Nat.reduceLT,Nat.reduceEqDiff]
   have hwj:IntKind.i64.wrap ((j:Int)+1)=((j+1:Nat):Int):=wrap_succ (by have:=bd.panes; omega)
   have htk:f.panes.take (j+1)=f.panes.take j++[p]:=by rw[List.take_succ,hp]; rfl
   refine loopC_next ⟨j+1,by omega,hjl,?_,⟨v',?_,?_,?_⟩,?_,?_,?_,?_,?_⟩
   ·exact mYX.step (((mZ.trans mA).mono (by simp)).trans gm) okY fun k hk=>.inr (by rw[nY]; exact lav k hk)
   ·rw[htk,List.map_append,rcsL_app]
    exact gv
   ·intro k hk
    rcases gi k hk with h|h
    ·exact lav k h
    ·omega
   ·rfl
   ·rw[htk]
    exact pnsE_snoc hz0 (hev.trans hev0)
   ·exact g1
   ·exact g28
   ·exact g29
   ·simp only[hwj,ruU]
 ·obtain rfl:j=f.panes.length:=by omega
  rw[List.take_length]at hz0 vX
  have hd:decide ((f.panes.length:Int)<(f.panes.length:Int))=false:=decide_eq_false (by omega)
  rw[if_neg (fun h=>h hz0)]
  subst hcode
  rw[show X=ext X [] from rfl]
  have hbX:=hf.bars.mono mX fun _ _ h=>h
  have hcon:=containsRect_c X bv f.bars 37 [.pointer (some ⟨x+0,0,none⟩)] (fun r=>!insR f.height f.width r) hbX (by have:=bd.bars; omega) (by kernel_rfl) (fun cs r hR _=>by
   rw[hR]
   exact valid1_c X f r pa ba f.panes.length f.bars.length pc bc (x+0) hh hw kX (by omega))
  rw[eb]at hcon
  obtain⟨e1,he1⟩:∃ q,(f.bars.any fun r=>!insR f.height f.width r)=q:=⟨_,rfl⟩
  rw[he1]at hcon ⊢
  have kX':=kX
  unfold frL at kX
  simp only[g1,g29,g30,hy,hd,kX,xy,qk_old,ruW,xF,ruU,Nat.reduceLT,Nat.reduceAdd,Nat.reduceEqDiff]
  refine hcon.to ?_
  rw[show X=ext X [] from rfl]
  cases e1 with
  |true =>
   rw[if_pos rfl]
   simp only[Tryz.results15,ruW,ruU,Nat.reduceLT]
   exact⟨trivial,mX⟩
  |false =>
  rw[if_neg (by decide)]
  have hsm:small (f.panes.length+f.bars.length) 40=true:=by have:=bd.panes; have:=bd.bars; simp only[small,zA4,Nat.ble_eq]; omega
  obtain⟨v',G,ga,gv,gm,gi⟩:=vs_appR u23' s52 by52 z52 rfl i23 vX (eb▸items_rcs hbX) okX (rcsL_one _) (by rw[<-rcsL_app]; exact rcsL_sc _ _) hsm
  have ga':aBuiltin Tryz.prog (ext X []) .append ⟨[23,23]⟩ [.slice av0 f.panes.length f.panes.length,.slice ba f.bars.length bc]=some (v',G):=ga
  have okG:=(mX.step (gm.mono fun n hn=>hn) hok fun k hk=>.inr (by rw[hx]; have:=lav k hk; omega)).ok hok
  have mYG:=mYX.step gm okY fun k hk=>.inr (by rw[nY]; exact lav k hk)
  have lv':∀ k∈idsV v',x+1<=k:=fun k hk=>by
   rcases gi k hk with h|h
   ·exact lav k h
   ·omega
  obtain⟨L,hL⟩:=Go.Ax.exq (f.panes.map Pn.rect++f.bars)
  rw[<-rcsL_app,hL]at gv
  have hLl:f.panes.length+f.bars.length=L.length:=by rw[<-hL]; simp
  rw[hLl]at gv
  rw[hL]
  have hLb:L.length<=24:=by have:=bd.panes; have:=bd.bars; omega
  have hLok:∀ r∈L,rcOk r:=fun r hr=>by
   rw[<-hL]at hr
   rcases zC9.1 hr with hr|hr
   ·obtain⟨p,hp,rfl⟩:=zE0.1 hr
    exact ins_ok hh hw (pnsE_ok _ hz0 p hp)
   ·refine ins_ok hh hw ?_
    cases hi:insR f.height f.width r with
    |true=>rfl
    |false =>
     have:=List.any_eq_false.1 he1 r hr
     rw[hi]at this
     exact absurd rfl this
  obtain⟨av1,eav1⟩:=gv.len
  have g1o:=g1
  generalize hcode2:Code.block 4 _=code2
  generalize hcode3:Code.seq (Code.region 25 _ _) _=code3
  rw[eav1]at ga'
  simp only[g1,g3,hy,kX,xy,ga',qk_old,ruW,xF,ruU,Nat.reduceLT,Nat.reduceAdd,Nat.reduceEqDiff]
  have kG:=(mYG.bk (by omega) (by simp)).trans kY
  have mG:=mY.trans mYG
  clear kX kX' hcon hbX ga ga' lav vX gi xy yb hy lx g28 g29 g30 g1 g3
  refine w_env fun E2 hE=>?_
  have g1:E2 1=.pointer (some ⟨x+0,0,none⟩):=by rw[hE]; simp only[g1o,ruU,Nat.reduceEqDiff]
  have g3:E2 3=.slice av1 L.length L.length:=by rw[hE]; rfl
  have g54:E2 54=.slice av1 L.length L.length:=by rw[hE]; rfl
  have g55:E2 55=.int .i64 (L.length:Int):=by rw[hE]; rfl
  have g56:E2 56=.int .i64 ((0:Nat):Int):=by rw[hE]; rfl
  clear hE
  refine w_loop (fun (j:Nat) E' X'=>j<=L.length/\Mod [] G X'/\pairsR (L.take j)=false/\E' 1=.pointer (some ⟨x+0,0,none⟩)/\E' 3=.slice av1 L.length L.length/\E' 54=.slice av1 L.length L.length/\E' 55=.int .i64 (L.length:Int)/\E' 56=.int .i64 (j:Int)) (fun j=>L.length-j) 0 ⟨zA9 _,Mod.refl,rfl,g1,g3,g54,g55,g56⟩ ?_
  clear g1 g3 g54 g55 g56 E2
  rintro j E2 X2 ⟨hj,mGX,hpr,g1,g3,g54,g55,g56⟩
  have mX2:=mG.trans mGX
  have okX2:=mX2.ok hok
  obtain⟨y,hy⟩:=Go.Ax.exq X2.next
  have yb:X2.base<=y:=hy▸okX2
  have lx:x+1<=y:=by have:=mGX.next; have:=mYG.next; omega
  have kX:=(mGX.bk (by have:=mYG.next; omega) (by simp)).trans kG
  have xy:x+0<y:=by omega
  by_cases hjl:j<L.length
  ·have hd:decide ((j:Int)<(L.length:Int))=true:=decide_eq_true (by omega)
   obtain⟨r,hr⟩:∃ r,L[j]?=some r:=⟨_,zA7 hjl⟩
   have gv2:=vs_mod0 mGX gv
   rw[eav1]at gv2
   obtain⟨n,rfl,hbn,hltn⟩:∃ n,av1=some ⟨n,0,none⟩/\bk X2 n=some ⟨38,true,rcsL L⟩/\n<X2.next:=by
    obtain⟨_,_,⟨h0,_⟩|⟨_,n,e,h1,h2⟩⟩:=gv2
    ·omega
    ·cases e
     exact⟨n,rfl,h1,h2⟩
   rw[hy]at hltn
   have i1:=ia_of (P:=Tryz.prog) (k:=.i64) (i:=j) (n:=n) (off:=0) (len:=L.length) (cap:=L.length) (s:=none) u23' s52 hjl
   have ag52:aggT Tryz.prog 38=some true:=by kernel_rfl
   have hlr:=rcsL_len L
   have l1:ldB Tryz.prog 38 (0+j*5) (some ⟨38,true,rcsL L⟩)=some (.agg ⟨rcL r⟩):=by
    rw[ld_agg ag52,s52,zA3,if_pos (by omega),zC0,rcsL_at hr]
   have hbr:rk X2 n=some ⟨38,true,rcsL L⟩:=rk_of hbn
   unfold rcL at l1
   have hrok:=hLok r (zC2 hr)
   rw[show X2=ext X2 [] from rfl]
   simp only[g54,g55,g56,hy,yb,hd,i1,hltn,hbr,l1,z52,qk_old,ruW,putL,Nat.reduceLeDiff,xF,ruU,Nat.reduceLT,Nat.reduceAdd,Nat.reduceEqDiff]
   obtain⟨Z,hZ⟩:=Go.Ax.exq (ext X2 [⟨38,false,rcL r⟩])
   have mZ:Mod [] X2 Z:=hZ▸Mod.ext okX2
   have nZ:Z.next=y+1:=by rw[<-hZ,ext_next,hy]; rfl
   have kZr:bk Z (y+0)=some ⟨38,false,rcL r⟩:=by rw[<-hZ,bk_at hy (by simp)]; rfl
   have okZ:=mZ.ok okX2
   have yz:y+0<y+1:=by omega
   have gvZ:=vs_mod0 mZ gv2
   have kZn:bk Z n=some ⟨38,true,rcsL L⟩:=(mZ.bk (by omega) (by simp)).trans hbn
   obtain⟨ca,cc,hcut,hrd,hids⟩:=vs_cut (P:=Tryz.prog) u23' s52 gvZ hj
   rw[rcsL_take]at hrd
   unfold rcL at hZ
   rw[hZ,show Z=ext Z [] from rfl]
   unfold rcL at kZr
   have ir:idsV (.slice (some ⟨n,0,none⟩) L.length L.length)=[n]:=rfl
   refine w_drawB [(5,2),(5,3),(5,4),(4,3),(2,0),(2,1)] [] (by kernel_rfl) (by kernel_rfl) rfl fun ops anc hA hG=>?_
   simp only[all2_cons]at hA
   simp only[g3,ir,ruD,ruU,Nat.reduceLT,Nat.reduceAdd,Nat.reduceEqDiff]
   rw[wd_slice]
   refine genV_cutR (v:=.slice ca j cc) [n] (by simp only[ruU,Nat.reduceLT]) rfl (by simp (maxDischargeDepth:=6) only[ruU,Nat.reduceLT,bndsOk_some]) rfl (by decide) (fun m hm=>by simp (maxDischargeDepth:=6) only[zB4]at hm; subst hm; exact bk_ne kZn) (fun K hK=>?_) (by simp (maxDischargeDepth:=6) only[ruD]) ?_
   ·simp only[bnds_some,bnds_none,ruU,Nat.reduceEqDiff]
    exact hcut K fun m hm=>hK m (by simpa[idsV]using hm)
   simp only[nZ,yz,kZr,qk_old,ruD,ruW,Nat.reduceLeDiff,xF,ruU,Nat.reduceLT,Nat.reduceAdd,Nat.reduceEqDiff]
   refine genV_ext (H:=ext Z []) (v:=.func (.func 69) ⟨[]⟩ ⟨[.pointer (some ⟨y+1+0,0,none⟩)]⟩) (M:=[⟨38,false,rcL r⟩]) [] (by simp only[ruU,Nat.reduceLT]) (by kernel_rfl) (by decide) (fun m hm=>by simp at hm) (fun K hK _=>?_) (by simp (maxDischargeDepth:=6) only[hA,ruD,ruW,Nat.reduceAdd]) ?_
   ·simp only[ruU]
    exact meets_c K r (y+1) (hK.trans nZ)
   obtain⟨W,hW⟩:=Go.Ax.exq (ext Z [⟨38,false,rcL r⟩])
   have mW:Mod [] Z W:=hW▸Mod.ext okZ
   have nW:W.next=y+2:=by rw[<-hW,ext_next,nZ]; rfl
   have kWb:bk W (y+1+0)=some ⟨38,false,rcL r⟩:=by rw[<-hW,bk_at nZ (by simp)]; rfl
   have kWn:=(mW.bk (by omega) (by simp)).trans kZn
   have hrdW:=hrd.mod0 mW
   obtain⟨d,hdd⟩:=Go.Ax.exq ((L.take j).any (meetR r))
   rw[show ext (ext Z []) [⟨38,false,rcL r⟩]=W from hW]
   simp only[nZ,zB0,zD7,ruD,ruW,Nat.reduceAdd]
   refine genV_quiet (v:=.bool d) [n,y+1+0] (by simp only[ruU,Nat.reduceLT]) (by kernel_rfl) (by decide) (fun m hm=>?_) (fun K hKn hK=>?_) (by simp (maxDischargeDepth:=6) only[hA,ruD,ruW,Nat.reduceAdd]) ?_
   ·simp only[zB1,List.not_mem_nil,or_false]at hm
    rcases hm with rfl|rfl
    ·exact bk_ne kWn
    ·exact bk_ne kWb
   ·simp only[ruU,Nat.reduceEqDiff]
    have hlt:(L.take j).length=j:=by rw[zE3]; omega
    have hrK:RdAt K 5 (.slice ca j cc) (rcsL (L.take j)) (L.take j).length:=by
     rw[hlt]
     refine hrdW.of (Nat.le_of_eq hKn.symm) fun m hm=>hK m ?_
     unfold rdF at hm
     split at hm
     ·cases hm
     ·have:=hids m hm
      rw[ir]at this
      simp only[zB4]at this
      simp[this]
    have:=containsRect_c K (.slice ca j cc) (L.take j) 69 [.pointer (some ⟨y+1+0,0,none⟩)] (meetR r) (rcs_items hrK) (by omega) (by kernel_rfl) (fun cs q hR hq=>by
     rw[hR]
     exact meets1_c K r q (y+1+0) hrok (hLok q (List.mem_of_mem_take hq)) ((bk_get (hK _ (by simp))).trans kWb) (by omega))
    rw[hdd]at this
    exact this
   simp only[ruD,ruW,ruU,Nat.reduceLT,Nat.reduceAdd]
   have hnx:L.take (j+1)=L.take j++[r]:=by rw[List.take_succ,hr]; rfl
   have hps:pairsR (L.take (j+1))=d:=by rw[hnx,pairsR_snoc,hpr,hdd]; rfl
   cases d with
   |true =>
    have:=pairsR_take (l:=L) (i:=j+1) (by omega) hps
    rw[this,if_pos rfl]
    simp only[Tryz.results15,ruW,ruU,Nat.reduceLT]
    exact⟨trivial,(mX2.trans mZ).trans mW⟩
   |false =>
    have hwj:IntKind.i64.wrap ((j:Int)+1)=((j+1:Nat):Int):=wrap_succ (by omega)
    simp only[g56,hwj,ruW,ruU,Nat.reduceLT,Nat.reduceEqDiff]
    refine loopC_next ⟨j+1,by omega,hjl,(mGX.trans mZ).trans mW,hps,?_,?_,?_,?_,?_⟩
    ·exact g1
    ·exact g3
    ·exact g54
    ·exact g55
    ·rfl
  ·obtain rfl:j=L.length:=by omega
   have hd:decide ((L.length:Int)<(L.length:Int))=false:=decide_eq_false (by omega)
   rw[List.take_length]at hpr
   rw[hpr,if_neg (by decide)]
   subst hcode2 hcode3
   have hva:=valid_c X2 (t.mod0 mX2).tab f.echo (by have:=bd.echo; omega)
   rw[valid_pts _ _ (zA8 _)]at hva
   obtain⟨e2,he2⟩:∃ q,(ptsR f.echo.data.toList).isSome=q:=⟨_,rfl⟩
   rw[he2]at hva
   unfold frL at kX
   obtain⟨e3,he3⟩:∃ q,decide (f.ecol < -1)=q:=⟨_,rfl⟩
   obtain⟨e4,he4⟩:∃ q,decide (f.width<=f.ecol)=q:=⟨_,rfl⟩
   rw[show X2=ext X2 [] from rfl]
   simp only[g1,g55,g56,hy,hd,kX,xy,qk_old,ruW,xF,ruU,Nat.reduceLT,Nat.reduceAdd,Nat.reduceEqDiff]
   refine CallS.to (show Pure 27 _ (ext X2 []) _ from hva) ?_
   cases e2 with
   |false =>
    rw[if_pos (by cases hq:ptsR f.echo.data.toList with
     |none=>rfl
     |some q=>rw[hq]at he2; cases he2)]
    simp only[Tryz.results15,ruW,ruU,Nat.reduceLT]
    exact⟨trivial,mX2⟩
   |true =>
   rw[if_neg (by intro hq; rw[hq]at he2; cases he2)]
   have h34:(if f.ecol < -1\/f.width<=f.ecol then (3:Int) else 0)=if (e3||e4)=true then 3 else 0:=by
    rw[<-he3,<-he4]
    simp
   rw[h34]
   cases e3 with
   |true =>
    simp only[g1,hy,kX,xy,he3,Tryz.results15,qk_old,Bool.true_or,ruW,xF,ruU,Nat.reduceLT,Nat.reduceAdd,Nat.reduceEqDiff]
    exact⟨trivial,mX2⟩
   |false =>
   cases e4 with
   |true =>
    simp only[g1,hy,kX,xy,he3,he4,Tryz.results15,qk_old,Bool.or_true,ruW,xF,ruU,Nat.reduceLT,Nat.reduceAdd,Nat.reduceEqDiff]
    exact⟨trivial,mX2⟩
   |false =>
    simp only[g1,hy,kX,xy,he3,he4,Tryz.results15,qk_old,Bool.or_false,ruW,xF,ruU,Nat.reduceLT,Nat.reduceAdd,Nat.reduceEqDiff]
    exact⟨rfl,mX2⟩
end Go.Proofs.YtfpckllenkifkaaGreatDoor
